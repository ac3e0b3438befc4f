/- Texts: Rg9, Qe2, Qe3, Rn1, Rg8, Rc1, Rc2, Rn2, Lg1, Qg3, Qp4, Lp1, Le1, Lsan, Lsn, Ln5. -/
import Derived.Test.YtcnhjofpmpipfaaMe5
import Derived.Test.YtcnhjofpmpipfaaMe4
import Derived.KernelRfl
set_option linter.unusedVariables false
noncomputable section
set_option maxRecDepth 100000
namespace Go.Proofs.Ytcnhjofpmpipfaa
open Go Go.Sx Go.RowKit Go.Jx
def nmz36 : Nat → Option Nm := fun k => cond (Nat.beq k 3) (some ⟨[0, 3, 4], [], [], [], [], 0, 0, false⟩) (none)
def stz36 : Nat → Bool := fun k => cond (Nat.beq k 3) true (false)
def hdz36 := stz36
abbrev Rtz36 : Type := Int × Unit
def smlz36 : List (Nat × Sm) := []
def hxlz36 : List (Nat × Hx) := []
def clz36 (R : Type) (lf : Nat) : ClK R := icallK Try.prog ttT.get ftT.get (nm1 89 nmz36) (smL smlz36) (hxL hxlz36) lf 20 R
abbrev idz36 : Nat := 89
def encz36_3 (x1 : (List Int)) (p : Int × Int) : NRes := (NRes.mk (.node (some (IV.lst (TC.int .u8) x1)) (.node none (.node (some (IV.int .i64 p.1)) .leaf .leaf) .leaf) (.node none (.node (some (IV.int .i64 p.2)) .leaf .leaf) .leaf)) (IS.mk .leaf 0) [] 0)
def Rz36_in (lf : Nat) (x1 : (List Int)) (L3 : (Int × Int) → Option Rtz36) : Option Rtz36 := (L3 ((Int.ofNat 1), (Int.ofNat 0)))
def Rz36_3 (lf : Nat) (x1 : (List Int)) (L3 : (Int × Int) → Option Rtz36) (p : Int × Int) : Option Rtz36 := (cond (iltI p.2 (Int.ofNat (List.length x1))) (match (jget x1 p.2) with | .none  => none | .some v0 => (L3 ((Int.tmod (IntKind.i64.wrap (Int.add (IntKind.i64.wrap (Int.mul (Int.ofNat 31) p.1)) (IntKind.i64.wrap v0))) (Int.ofNat 2147483647)), (IntKind.i64.wrap (Int.add p.2 (Int.ofNat 1)))))) (some (p.1, ())))
abbrev gz36 : Type := ElA [(.list (.int .u8))] → Option Rtz36
abbrev sz36 (g : gz36) : Sm := ⟨[(.list (.int .u8))], [(false, (.int .i64))], g⟩
abbrev Ez36 (g : gz36) (J : JT Rtz36) (lf : Nat) (x1 : (List Int)) := icodeT Try.prog ttT.get nmz36 fi89.nt (clz36 _ lf) lf stz36 J fi89.body [] (argGo (argV [(.list (.int .u8))] (x1, ())) 0 .leaf) S0 [] (lastK ttT.get fi89 (sz36 g))
abbrev Bz36 (g : gz36) (J : JT Rtz36) (lf k : Nat) (ms : List Nat) (q : NRes) := icodeFT Try.prog ttT.get nmz36 fi89.nt (clz36 _ lf) lf stz36 J k fi89.body [] ms q (lastK ttT.get fi89 (sz36 g))
theorem inz36 (g : gz36) (J : JT Rtz36) (lf : Nat) (x1 : (List Int)) : Ez36 g J lf x1 = Rz36_in lf x1 (fun q => J 3 [lf] (encz36_3 x1 q)) := by kernel_rfl
theorem stz36_3 (g : gz36) (J : JT Rtz36) (lf : Nat) (x1 : (List Int)) (m1 : Nat) (p : Int × Int) : Bz36 g J lf 3 [m1] (encz36_3 x1 p) = Rz36_3 lf x1 (fun q => J 3 [m1] (encz36_3 x1 q)) p := by kernel_rfl
theorem ndz36 : (regs fi89.body).Nodup := by decide +kernel
theorem okz36 : okC nmz36 stz36 hdz36 fi89.body none = true := by kernel_rfl
def Az36 (g : gz36) (lf : Nat) : JT Rtz36 := atN Try.prog ttT.get nmz36 fi89 (sz36 g) (clz36 _ lf) lf hdz36
def Gz36_3 (lf : Nat) (x1 : (List Int)) : Nat → (Int × Int) → Option Rtz36 := rounds fun K p => Rz36_3 lf x1 K p
theorem atz36_3 (g : gz36) (lf : Nat) (x1 : (List Int)) : ∀ (n : Nat) (p : Int × Int), Az36 g lf 3 [n] (encz36_3 x1 p) = Gz36_3 lf x1 n p
 | 0, p => atz 3 [0] rfl _
 | n + 1, p => by
   have ih := atz36_3 g lf x1 n
   refine (atN_eq (iKe 20 _) ndz36 okz36 3 [n + 1] [n] rfl _).trans ((stz36_3 g (Az36 g lf) lf x1 n p).trans ?_)
   rw [(show (fun q => Az36 g lf 3 [n] (encz36_3 x1 q)) = (fun q => Gz36_3 lf x1 n q) from funext ih)]
   rfl
def Fz36 (lf : Nat) (x1 : (List Int)) : Option Rtz36 := Rz36_in lf x1 (fun q => Gz36_3 lf x1 lf q)
theorem runz36 (g : gz36) (lf : Nat) (x1 : (List Int)) : Ez36 g (Az36 g lf) lf x1 = Fz36 lf x1 := by
   refine (inz36 g (Az36 g lf) lf x1).trans ?_
   rw [(show (fun q => Az36 g lf 3 [lf] (encz36_3 x1 q)) = (fun q => Gz36_3 lf x1 lf q) from funext fun q => atz36_3 g lf x1 lf q)]
   rfl
theorem hxsz36 : HxsOK Try.prog hxlz36 := trivial
theorem mkz36 {g : gz36} (hsm : SmOK Try.prog smlz36) (hg : ∀ (x : ElA [(.list (.int .u8))]) (y : Rtz36), WfA [(.list (.int .u8))] x → g x = some y → ∃ lf, Fz36 lf x.1 = some y) : Con Try.prog 89 ⟨[(.list (.int .u8))], [(false, (.int .i64))], g⟩ :=
 conT (nmf := nmz36) (sml := smlz36) (hxl := hxlz36) (st := stz36) (hd := hdz36) 20 mixed ttOK ftOK hsm hxsz36 cal89 rfl rfl (by kernel_rfl) (fun x => by kernel_rfl) ndz36 okz36 fun x y hx hy => by
   obtain ⟨lf, h⟩ := hg x y hx hy
   exact ⟨lf, (runz36 g lf x.1).trans h⟩
def nmz37 : Nat → Option Nm := fun k => none
def stz37 : Nat → Bool := fun k => false
def hdz37 := stz37
abbrev Rtz37 : Type := (List Int) × Unit
def smlz37 : List (Nat × Sm) := [(89, spz36)]
def hxlz37 : List (Nat × Hx) := []
def clz37 (R : Type) (lf : Nat) : ClK R := icallK Try.prog ttT.get ftT.get (nm1 43 nmz37) (smL smlz37) (hxL hxlz37) lf 20 R
abbrev idz37 : Nat := 43
def Rz37_in (lf : Nat) (x1 : (List Int)) : Option Rtz37 := (cond (Nat.ble (Nat.mul (Nat.add 0 (List.length x1)) 1) 140737488355328) (cond (Nat.ble (Nat.mul (Nat.add (List.length x1) 4) 1) 140737488355328) (some ((List.append x1 (List.cons (IntKind.u8.wrap (IntKind.i64.wrap (Int.tdiv (S.sumI x1) (Int.ofNat 16777216)))) (List.cons (IntKind.u8.wrap (Int.tmod (IntKind.i64.wrap (Int.tdiv (S.sumI x1) (Int.ofNat 65536))) (Int.ofNat 256))) (List.cons (IntKind.u8.wrap (Int.tmod (IntKind.i64.wrap (Int.tdiv (S.sumI x1) (Int.ofNat 256))) (Int.ofNat 256))) (List.cons (IntKind.u8.wrap (Int.tmod (S.sumI x1) (Int.ofNat 256))) []))))), ())) none) none)
abbrev gz37 : Type := ElA [(.list (.int .u8))] → Option Rtz37
abbrev sz37 (g : gz37) : Sm := ⟨[(.list (.int .u8))], [(false, (.list (.int .u8)))], g⟩
abbrev Ez37 (g : gz37) (J : JT Rtz37) (lf : Nat) (x1 : (List Int)) := icodeT Try.prog ttT.get nmz37 fi43.nt (clz37 _ lf) lf stz37 J fi43.body [] (argGo (argV [(.list (.int .u8))] (x1, ())) 0 .leaf) S0 [] (lastK ttT.get fi43 (sz37 g))
theorem inz37 (g : gz37) (J : JT Rtz37) (lf : Nat) (x1 : (List Int)) : Ez37 g J lf x1 = Rz37_in lf x1 := by kernel_rfl
theorem ndz37 : (regs fi43.body).Nodup := by decide +kernel
theorem okz37 : okC nmz37 stz37 hdz37 fi43.body none = true := by kernel_rfl
def Az37 (g : gz37) (lf : Nat) : JT Rtz37 := atN Try.prog ttT.get nmz37 fi43 (sz37 g) (clz37 _ lf) lf hdz37
def Fz37 (lf : Nat) (x1 : (List Int)) : Option Rtz37 := Rz37_in lf x1
theorem runz37 (g : gz37) (lf : Nat) (x1 : (List Int)) : Ez37 g (Az37 g lf) lf x1 = Fz37 lf x1 := by
   refine (inz37 g (Az37 g lf) lf x1).trans ?_
   rfl
theorem hxsz37 : HxsOK Try.prog hxlz37 := trivial
theorem mkz37 {g : gz37} (hsm : SmOK Try.prog smlz37) (hg : ∀ (x : ElA [(.list (.int .u8))]) (y : Rtz37), WfA [(.list (.int .u8))] x → g x = some y → ∃ lf, Fz37 lf x.1 = some y) : Con Try.prog 43 ⟨[(.list (.int .u8))], [(false, (.list (.int .u8)))], g⟩ :=
 conT (nmf := nmz37) (sml := smlz37) (hxl := hxlz37) (st := stz37) (hd := hdz37) 20 mixed ttOK ftOK hsm hxsz37 cal43 rfl rfl (by kernel_rfl) (fun x => by kernel_rfl) ndz37 okz37 fun x y hx hy => by
   obtain ⟨lf, h⟩ := hg x y hx hy
   exact ⟨lf, (runz37 g lf x.1).trans h⟩
def nmz38 : Nat → Option Nm := fun k => cond (Nat.beq k 7) (some ⟨[0, 4, 6, 7, 8], [(7, (.int .u8))], [], [], [], 0, 0, false⟩) (cond (Nat.beq k 11) (some ⟨[0, 4, 6, 7, 8, 9], [(7, (.int .u8))], [], [], [], 0, 0, false⟩) (cond (Nat.beq k 16) (some ⟨[4, 6, 7, 10], [(7, (.int .u8))], [], [], [], 0, 0, false⟩) (none)))
def stz38 : Nat → Bool := fun k => cond (Nat.beq k 7) true (cond (Nat.beq k 11) true (cond (Nat.beq k 16) true (false)))
def hdz38 := stz38
abbrev Rtz38 : Type := DR22Bytes × Unit
def smlz38 : List (Nat × Sm) := [(19, spz25), (67, spz44), (55, spz19), (43, spz37)]
def hxlz38 : List (Nat × Hx) := [(68, hxR spz43)]
def clz38 (R : Type) (lf : Nat) : ClK R := icallK Try.prog ttT.get ftT.get (nm1 21 nmz38) (smL smlz38) (hxL hxlz38) lf 20 R
abbrev idz38 : Nat := 21
def encz38_7 (x1 : (List DForm)) (x2 : DGraph) (p : (List Int) × (List DNode) × (List DVal) × Int) : NRes := (NRes.mk (.node (some (IV.lst cForm x1)) (.node none (.node none (.node (some (IV.arr 2)) .leaf .leaf) .leaf) .leaf) (.node none (.node (some (IV.ptr 0 0)) (.node (some (IV.int .i64 p.2.2.2)) .leaf .leaf) .leaf) (.node (some (IV.ptr 1 0)) .leaf .leaf))) (IS.mk (.node (some (IObj.row (List.cons IV.nilsl (List.cons (IV.int .i64 (Int.ofNat 0)) [])))) (.node (some (IObj.row (List.cons (IV.lst cNode p.2.1) (List.cons (IV.lst cVal p.2.2.1) [])))) .leaf .leaf) (.node (some (IObj.arr (TC.int .u8) p.1)) .leaf .leaf)) 3) [] 0)
def encz38_11 (x1 : (List DForm)) (x2 : DGraph) (p : (List DVal) × (List DNode) × (List Int) × Int × Int) : NRes := (NRes.mk (.node (some (IV.lst cForm x1)) (.node none (.node none (.node (some (IV.arr 2)) .leaf .leaf) .leaf) (.node none (.node (some (IV.int .i64 p.2.2.2.1)) .leaf .leaf) .leaf)) (.node none (.node (some (IV.ptr 0 0)) (.node (some (IV.int .i64 p.2.2.2.2)) .leaf .leaf) .leaf) (.node (some (IV.ptr 1 0)) .leaf .leaf))) (IS.mk (.node (some (IObj.row (List.cons IV.nilsl (List.cons (IV.int .i64 (Int.ofNat 0)) [])))) (.node (some (IObj.row (List.cons (IV.lst cNode p.2.1) (List.cons (IV.lst cVal p.1) [])))) .leaf .leaf) (.node (some (IObj.arr (TC.int .u8) p.2.2.1)) .leaf .leaf)) 3) [] 0)
def encz38_16 (x1 : (List DForm)) (x2 : DGraph) (p : (List DVal) × (List DNode) × (List Int) × Int) : NRes := (NRes.mk (.node none (.node none (.node none (.node (some (IV.arr 2)) .leaf .leaf) .leaf) .leaf) (.node none (.node (some (IV.ptr 0 0)) .leaf .leaf) (.node (some (IV.ptr 1 0)) (.node (some (IV.int .i64 p.2.2.2)) .leaf .leaf) .leaf))) (IS.mk (.node (some (IObj.row (List.cons IV.nilsl (List.cons (IV.int .i64 (Int.ofNat 0)) [])))) (.node (some (IObj.row (List.cons (IV.lst cNode p.2.1) (List.cons (IV.lst cVal p.1) [])))) .leaf .leaf) (.node (some (IObj.arr (TC.int .u8) p.2.2.1)) .leaf .leaf)) 3) [] 0)
def Rz38_in (lf : Nat) (x1 : (List DForm)) (x2 : DGraph) (L7 : ((List Int) × (List DNode) × (List DVal) × Int) → Option Rtz38) : Option Rtz38 := (cond (Bool.not (ieqI (S.checkG x1 (x2.1, x2.2)) (Int.ofNat 0))) (some (([], (S.checkG x1 (x2.1, x2.2))), ())) (match (cond (ieqI (S.formed (x2.1, x2.2)) (Int.ofNat 0)) (some (((S.canonG (x2.1, x2.2)), ((S.numsG (x2.1, x2.2)), (Int.ofNat 0))), ())) none) with | .none  => none | .some v0 => (match (cond (Bool.and (S.numOK (Int.ofNat (List.length v0.1.1.1))) Bool.true) (some (((List.append [] (S.num (Int.ofNat (List.length v0.1.1.1)))), ()), ((none : Option (List (El (TC.int .u8)))), ()))) none) with | .none  => none | .some v1 => (L7 (v1.1.1, v0.1.1.1, v0.1.1.2, (Int.ofNat 0))))))
def Rz38_7 (lf : Nat) (x1 : (List DForm)) (x2 : DGraph) (L11 : ((List DVal) × (List DNode) × (List Int) × Int × Int) → Option Rtz38) (L16 : ((List DVal) × (List DNode) × (List Int) × Int) → Option Rtz38) (p : (List Int) × (List DNode) × (List DVal) × Int) : Option Rtz38 := (cond (iltI p.2.2.2 (Int.ofNat (List.length p.2.1))) (match (jget p.2.1 p.2.2.2) with | .none  => none | .some v0 => (match (cond (Bool.and (S.numOK (S.form x1 v0.1)) (Nat.ble (Nat.add (List.length p.1) 100) 140737488355328)) (some (((List.append p.1 (S.num (S.form x1 v0.1))), ()), ((none : Option (List (El (TC.int .u8)))), ()))) none) with | .none  => none | .some v1 => (L11 (p.2.2.1, p.2.1, v1.1.1, (Int.ofNat 0), p.2.2.2)))) (match (cond (Bool.and (S.numOK (Int.ofNat (List.length p.2.2.1))) (Nat.ble (Nat.add (List.length p.1) 100) 140737488355328)) (some (((List.append p.1 (S.num (Int.ofNat (List.length p.2.2.1)))), ()), ((none : Option (List (El (TC.int .u8)))), ()))) none) with | .none  => none | .some v2 => (L16 (p.2.2.1, p.2.1, v2.1.1, (Int.ofNat 0)))))
def Rz38_11 (lf : Nat) (x1 : (List DForm)) (x2 : DGraph) (L11 : ((List DVal) × (List DNode) × (List Int) × Int × Int) → Option Rtz38) (L7 : ((List Int) × (List DNode) × (List DVal) × Int) → Option Rtz38) (p : (List DVal) × (List DNode) × (List Int) × Int × Int) : Option Rtz38 := (match (jget p.2.1 p.2.2.2.2) with | .none  => none | .some v0 => (cond (iltI p.2.2.2.1 (Int.ofNat (List.length v0.2))) (match (jget p.2.1 p.2.2.2.2) with | .none  => none | .some v1 => (match (jget v1.2 p.2.2.2.1) with | .none  => none | .some v2 => (cond (ieqI v2.1 (Int.ofNat 3)) (match (cond (Bool.and (S.numOK (Int.ofNat 0)) (Nat.ble (Nat.add (List.length p.2.2.1) 100) 140737488355328)) (some (((List.append p.2.2.1 (S.num (Int.ofNat 0))), ()), ((none : Option (List (El (TC.int .u8)))), ()))) none) with | .none  => none | .some v3 => (L11 (p.1, p.2.1, v3.1.1, (IntKind.i64.wrap (Int.add p.2.2.2.1 (Int.ofNat 1))), p.2.2.2.2))) (cond (ieqI v2.1 (Int.ofNat 4)) (match (cond (Bool.and (S.numOK (IntKind.i64.wrap (Int.add v2.2 (Int.ofNat 1)))) (Nat.ble (Nat.add (List.length p.2.2.1) 100) 140737488355328)) (some (((List.append p.2.2.1 (S.num (IntKind.i64.wrap (Int.add v2.2 (Int.ofNat 1))))), ()), ((none : Option (List (El (TC.int .u8)))), ()))) none) with | .none  => none | .some v27 => (L11 (p.1, p.2.1, v27.1.1, (IntKind.i64.wrap (Int.add p.2.2.2.1 (Int.ofNat 1))), p.2.2.2.2))) (match (cond (Bool.and (S.numOK v2.2) (Nat.ble (Nat.add (List.length p.2.2.1) 100) 140737488355328)) (some (((List.append p.2.2.1 (S.num v2.2)), ()), ((none : Option (List (El (TC.int .u8)))), ()))) none) with | .none  => none | .some v28 => (L11 (p.1, p.2.1, v28.1.1, (IntKind.i64.wrap (Int.add p.2.2.2.1 (Int.ofNat 1))), p.2.2.2.2))))))) (L7 (p.2.2.1, p.2.1, p.1, (IntKind.i64.wrap (Int.add p.2.2.2.2 (Int.ofNat 1)))))))
def Rz38_16 (lf : Nat) (x1 : (List DForm)) (x2 : DGraph) (L16 : ((List DVal) × (List DNode) × (List Int) × Int) → Option Rtz38) (p : (List DVal) × (List DNode) × (List Int) × Int) : Option Rtz38 := (cond (iltI p.2.2.2 (Int.ofNat (List.length p.1))) (match (jget p.1 p.2.2.2) with | .none  => none | .some v0 => (cond (ieqI v0.1 (Int.ofNat 3)) (match (cond (Bool.and (S.numOK (Int.ofNat 0)) (Nat.ble (Nat.add (List.length p.2.2.1) 100) 140737488355328)) (some (((List.append p.2.2.1 (S.num (Int.ofNat 0))), ()), ((none : Option (List (El (TC.int .u8)))), ()))) none) with | .none  => none | .some v1 => (L16 (p.1, p.2.1, v1.1.1, (IntKind.i64.wrap (Int.add p.2.2.2 (Int.ofNat 1)))))) (cond (ieqI v0.1 (Int.ofNat 4)) (match (cond (Bool.and (S.numOK (IntKind.i64.wrap (Int.add v0.2 (Int.ofNat 1)))) (Nat.ble (Nat.add (List.length p.2.2.1) 100) 140737488355328)) (some (((List.append p.2.2.1 (S.num (IntKind.i64.wrap (Int.add v0.2 (Int.ofNat 1))))), ()), ((none : Option (List (El (TC.int .u8)))), ()))) none) with | .none  => none | .some v25 => (L16 (p.1, p.2.1, v25.1.1, (IntKind.i64.wrap (Int.add p.2.2.2 (Int.ofNat 1)))))) (match (cond (Bool.and (S.numOK v0.2) (Nat.ble (Nat.add (List.length p.2.2.1) 100) 140737488355328)) (some (((List.append p.2.2.1 (S.num v0.2)), ()), ((none : Option (List (El (TC.int .u8)))), ()))) none) with | .none  => none | .some v26 => (L16 (p.1, p.2.1, v26.1.1, (IntKind.i64.wrap (Int.add p.2.2.2 (Int.ofNat 1))))))))) (cond (iltI (Int.ofNat 60000) (IntKind.i64.wrap (Int.ofNat (Nat.add (List.length p.2.2.1) 4)))) (some (([], (Int.ofNat 3)), ())) (match (cond (Nat.ble (Nat.add (List.length p.2.2.1) 100) 140737488355328) (some ((List.append p.2.2.1 (S.sum4 p.2.2.1)), ())) none) with | .none  => none | .some v27 => (some ((v27.1, (Int.ofNat 0)), ())))))
abbrev gz38 : Type := ElA [(.list cForm), cGraph] → Option Rtz38
abbrev sz38 (g : gz38) : Sm := ⟨[(.list cForm), cGraph], [(false, cR22Bytes)], g⟩
abbrev Ez38 (g : gz38) (J : JT Rtz38) (lf : Nat) (x1 : (List DForm)) (x2 : DGraph) := icodeT Try.prog ttT.get nmz38 fi21.nt (clz38 _ lf) lf stz38 J fi21.body [] (argGo (argV [(.list cForm), cGraph] (x1, x2, ())) 0 .leaf) S0 [] (lastK ttT.get fi21 (sz38 g))
abbrev Bz38 (g : gz38) (J : JT Rtz38) (lf k : Nat) (ms : List Nat) (q : NRes) := icodeFT Try.prog ttT.get nmz38 fi21.nt (clz38 _ lf) lf stz38 J k fi21.body [] ms q (lastK ttT.get fi21 (sz38 g))
theorem inz38 (g : gz38) (J : JT Rtz38) (lf : Nat) (x1 : (List DForm)) (x2 : DGraph) : Ez38 g J lf x1 x2 = Rz38_in lf x1 x2 (fun q => J 7 [lf] (encz38_7 x1 x2 q)) := by kernel_rfl
theorem stz38_7 (g : gz38) (J : JT Rtz38) (lf : Nat) (x1 : (List DForm)) (x2 : DGraph) (m1 : Nat) (p : (List Int) × (List DNode) × (List DVal) × Int) : Bz38 g J lf 7 [m1] (encz38_7 x1 x2 p) = Rz38_7 lf x1 x2 (fun q => J 11 [m1, lf] (encz38_11 x1 x2 q)) (fun q => J 16 [lf] (encz38_16 x1 x2 q)) p := by kernel_rfl
theorem stz38_11 (g : gz38) (J : JT Rtz38) (lf : Nat) (x1 : (List DForm)) (x2 : DGraph) (m1 : Nat) (m2 : Nat) (p : (List DVal) × (List DNode) × (List Int) × Int × Int) : Bz38 g J lf 11 [m1, m2] (encz38_11 x1 x2 p) = Rz38_11 lf x1 x2 (fun q => J 11 [m1, m2] (encz38_11 x1 x2 q)) (fun q => J 7 [m1] (encz38_7 x1 x2 q)) p := by kernel_rfl
theorem stz38_16 (g : gz38) (J : JT Rtz38) (lf : Nat) (x1 : (List DForm)) (x2 : DGraph) (m1 : Nat) (p : (List DVal) × (List DNode) × (List Int) × Int) : Bz38 g J lf 16 [m1] (encz38_16 x1 x2 p) = Rz38_16 lf x1 x2 (fun q => J 16 [m1] (encz38_16 x1 x2 q)) p := by kernel_rfl
theorem ndz38 : (regs fi21.body).Nodup := by decide +kernel
theorem okz38 : okC nmz38 stz38 hdz38 fi21.body none = true := by kernel_rfl
def Az38 (g : gz38) (lf : Nat) : JT Rtz38 := atN Try.prog ttT.get nmz38 fi21 (sz38 g) (clz38 _ lf) lf hdz38
def Gz38_11 (lf : Nat) (x1 : (List DForm)) (x2 : DGraph) (K7 : ((List Int) × (List DNode) × (List DVal) × Int) → Option Rtz38) : Nat → ((List DVal) × (List DNode) × (List Int) × Int × Int) → Option Rtz38 := rounds fun K p => Rz38_11 lf x1 x2 K K7 p
theorem atz38_11 (g : gz38) (lf : Nat) (x1 : (List DForm)) (x2 : DGraph) (m1 : Nat) : ∀ (n : Nat) (p : (List DVal) × (List DNode) × (List Int) × Int × Int), Az38 g lf 11 [m1, n] (encz38_11 x1 x2 p) = Gz38_11 lf x1 x2 (fun q => Az38 g lf 7 [m1] (encz38_7 x1 x2 q)) n p
 | 0, p => atz 11 [m1, 0] rfl _
 | n + 1, p => by
   have ih := atz38_11 g lf x1 x2 m1 n
   refine (atN_eq (iKe 20 _) ndz38 okz38 11 [m1, n + 1] [m1, n] rfl _).trans ((stz38_11 g (Az38 g lf) lf x1 x2 m1 n p).trans ?_)
   rw [(show (fun q => Az38 g lf 11 [m1, n] (encz38_11 x1 x2 q)) = (fun q => Gz38_11 lf x1 x2 (fun q => Az38 g lf 7 [m1] (encz38_7 x1 x2 q)) n q) from funext ih)]
   rfl
def Gz38_16 (lf : Nat) (x1 : (List DForm)) (x2 : DGraph) : Nat → ((List DVal) × (List DNode) × (List Int) × Int) → Option Rtz38 := rounds fun K p => Rz38_16 lf x1 x2 K p
theorem atz38_16 (g : gz38) (lf : Nat) (x1 : (List DForm)) (x2 : DGraph) : ∀ (n : Nat) (p : (List DVal) × (List DNode) × (List Int) × Int), Az38 g lf 16 [n] (encz38_16 x1 x2 p) = Gz38_16 lf x1 x2 n p
 | 0, p => atz 16 [0] rfl _
 | n + 1, p => by
   have ih := atz38_16 g lf x1 x2 n
   refine (atN_eq (iKe 20 _) ndz38 okz38 16 [n + 1] [n] rfl _).trans ((stz38_16 g (Az38 g lf) lf x1 x2 n p).trans ?_)
   rw [(show (fun q => Az38 g lf 16 [n] (encz38_16 x1 x2 q)) = (fun q => Gz38_16 lf x1 x2 n q) from funext ih)]
   rfl
def Gz38_7 (lf : Nat) (x1 : (List DForm)) (x2 : DGraph) : Nat → ((List Int) × (List DNode) × (List DVal) × Int) → Option Rtz38 := rounds fun K p => Rz38_7 lf x1 x2 (fun q => Gz38_11 lf x1 x2 K lf q) (fun q => Gz38_16 lf x1 x2 lf q) p
theorem atz38_7 (g : gz38) (lf : Nat) (x1 : (List DForm)) (x2 : DGraph) : ∀ (n : Nat) (p : (List Int) × (List DNode) × (List DVal) × Int), Az38 g lf 7 [n] (encz38_7 x1 x2 p) = Gz38_7 lf x1 x2 n p
 | 0, p => atz 7 [0] rfl _
 | n + 1, p => by
   have ih := atz38_7 g lf x1 x2 n
   refine (atN_eq (iKe 20 _) ndz38 okz38 7 [n + 1] [n] rfl _).trans ((stz38_7 g (Az38 g lf) lf x1 x2 n p).trans ?_)
   rw [(show (fun q => Az38 g lf 11 [n, lf] (encz38_11 x1 x2 q)) = (fun q => Gz38_11 lf x1 x2 (fun q => Az38 g lf 7 [n] (encz38_7 x1 x2 q)) lf q) from funext fun q => atz38_11 g lf x1 x2 n lf q), (show (fun q => Az38 g lf 16 [lf] (encz38_16 x1 x2 q)) = (fun q => Gz38_16 lf x1 x2 lf q) from funext fun q => atz38_16 g lf x1 x2 lf q), (show (fun q => Az38 g lf 7 [n] (encz38_7 x1 x2 q)) = (fun q => Gz38_7 lf x1 x2 n q) from funext ih)]
   rfl
def Fz38 (lf : Nat) (x1 : (List DForm)) (x2 : DGraph) : Option Rtz38 := Rz38_in lf x1 x2 (fun q => Gz38_7 lf x1 x2 lf q)
theorem runz38 (g : gz38) (lf : Nat) (x1 : (List DForm)) (x2 : DGraph) : Ez38 g (Az38 g lf) lf x1 x2 = Fz38 lf x1 x2 := by
   refine (inz38 g (Az38 g lf) lf x1 x2).trans ?_
   rw [(show (fun q => Az38 g lf 7 [lf] (encz38_7 x1 x2 q)) = (fun q => Gz38_7 lf x1 x2 lf q) from funext fun q => atz38_7 g lf x1 x2 lf q)]
   rfl
theorem hxsz38 (hrz43 : ConR Try.prog 68 spz43) : HxsOK Try.prog hxlz38 := ⟨hxR_ok hrz43, trivial⟩
theorem mkz38 {g : gz38} (hsm : SmOK Try.prog smlz38) (hrz43 : ConR Try.prog 68 spz43) (hg : ∀ (x : ElA [(.list cForm), cGraph]) (y : Rtz38), WfA [(.list cForm), cGraph] x → g x = some y → ∃ lf, Fz38 lf x.1 x.2.1 = some y) : Con Try.prog 21 ⟨[(.list cForm), cGraph], [(false, cR22Bytes)], g⟩ :=
 conT (nmf := nmz38) (sml := smlz38) (hxl := hxlz38) (st := stz38) (hd := hdz38) 20 mixed ttOK ftOK hsm (hxsz38 hrz43) cal21 rfl rfl (by kernel_rfl) (fun x => by kernel_rfl) ndz38 okz38 fun x y hx hy => by
   obtain ⟨lf, h⟩ := hg x y hx hy
   exact ⟨lf, (runz38 g lf x.1 x.2.1).trans h⟩
def nmz39 : Nat → Option Nm := fun k => cond (Nat.beq k 9) (some ⟨[0, 3, 7, 8, 33, 34, 35], [], [(7, 0, (.int .u8))], [], [], 0, 0, false⟩) (cond (Nat.beq k 13) (some ⟨[0, 3, 7, 8, 33, 34, 35, 46, 47, 48], [], [(7, 0, (.int .u8))], [], [], 0, 0, false⟩) (cond (Nat.beq k 20) (some ⟨[7, 8, 64, 65, 66], [], [(7, 0, (.int .u8))], [], [], 0, 0, false⟩) (none)))
def stz39 : Nat → Bool := fun k => cond (Nat.beq k 9) true (cond (Nat.beq k 13) true (cond (Nat.beq k 20) true (false)))
def hdz39 := stz39
abbrev Rtz39 : Type := (List Int) × Int × Unit
def smlz39 : List (Nat × Sm) := [(18, spz16), (62, spz34), (52, spz3), (64, spz40), (65, spz41)]
def hxlz39 : List (Nat × Hx) := [(66, hxR spz42)]
def clz39 (R : Type) (lf : Nat) : ClK R := icallK Try.prog ttT.get ftT.get (nm1 20 nmz39) (smL smlz39) (hxL hxlz39) lf 20 R
abbrev idz39 : Nat := 20
def encz39_9 (x1 : (List DForm)) (x2 : DGraph) (p : (List Int) × (List DNode) × (List DVal) × Int) : NRes := (NRes.mk (.node (some (IV.lst cForm x1)) (.node none (.node (some (IV.ptr 0 0)) (.node (some (IV.ptr 1 0)) .leaf .leaf) (.node none (.node none (.node (some (IV.int .i64 p.2.2.2)) .leaf .leaf) .leaf) .leaf)) (.node none (.node none (.node none (.node (some (IV.lst cNode p.2.1)) .leaf .leaf) .leaf) .leaf) .leaf)) (.node none (.node none (.node (some (IV.fn 63 (List.cons (IV.ptr 1 0) []))) .leaf .leaf) .leaf) (.node none (.node none (.node none (.node (some (IV.int .i64 (Int.ofNat (List.length p.2.1)))) .leaf .leaf) .leaf) .leaf) .leaf))) (IS.mk (.node (some (IObj.row (List.cons (IV.lst cNode p.2.1) (List.cons (IV.lst cVal p.2.2.1) [])))) (.node (some (IObj.row (List.cons (IV.arr 2) []))) .leaf .leaf) (.node (some (IObj.arr (TC.int .u8) p.1)) .leaf .leaf)) 3) [] 0)
def encz39_13 (x1 : (List DForm)) (x2 : DGraph) (p : (List DNode) × (List DVal) × (List DVal) × (List Int) × Int × Int) : NRes := (NRes.mk (.node (some (IV.lst cForm x1)) (.node none (.node (some (IV.ptr 0 0)) (.node (some (IV.ptr 1 0)) (.node none .leaf (.node (some (IV.int .i64 (Int.ofNat (List.length p.2.2.1)))) .leaf .leaf)) .leaf) (.node none (.node none (.node (some (IV.int .i64 p.2.2.2.2.2)) .leaf .leaf) .leaf) .leaf)) (.node none (.node none (.node none (.node (some (IV.lst cNode p.1)) .leaf .leaf) .leaf) .leaf) .leaf)) (.node none (.node none (.node (some (IV.fn 63 (List.cons (IV.ptr 1 0) []))) (.node none .leaf (.node (some (IV.int .i64 p.2.2.2.2.1)) .leaf .leaf)) .leaf) .leaf) (.node none (.node none (.node none (.node (some (IV.int .i64 (Int.ofNat (List.length p.1)))) .leaf .leaf) .leaf) .leaf) (.node none .leaf (.node none (.node (some (IV.lst cVal p.2.2.1)) .leaf .leaf) .leaf))))) (IS.mk (.node (some (IObj.row (List.cons (IV.lst cNode p.1) (List.cons (IV.lst cVal p.2.1) [])))) (.node (some (IObj.row (List.cons (IV.arr 2) []))) .leaf .leaf) (.node (some (IObj.arr (TC.int .u8) p.2.2.2.1)) .leaf .leaf)) 3) [] 0)
def encz39_20 (x1 : (List DForm)) (x2 : DGraph) (p : (List DVal) × (List Int) × Int) : NRes := (NRes.mk (.node none (.node none (.node none (.node (some (IV.ptr 0 0)) .leaf .leaf) .leaf) (.node none (.node none (.node none (.node none (.node (some (IV.int .i64 (Int.ofNat (List.length p.1)))) .leaf .leaf) .leaf) .leaf) .leaf) .leaf)) (.node none (.node none (.node (some (IV.fn 63 (List.cons (IV.ptr 0 0) []))) (.node none (.node none (.node (some (IV.lst cVal p.1)) .leaf .leaf) .leaf) .leaf) .leaf) .leaf) (.node none (.node none (.node none (.node none (.node (some (IV.int .i64 p.2.2)) .leaf .leaf) .leaf) .leaf) .leaf) .leaf))) (IS.mk (.node (some (IObj.row (List.cons (IV.arr 1) []))) (.node (some (IObj.arr (TC.int .u8) p.2.1)) .leaf .leaf) .leaf) 2) [] 0)
def Rz39_in (lf : Nat) (x1 : (List DForm)) (x2 : DGraph) (L9 : ((List Int) × (List DNode) × (List DVal) × Int) → Option Rtz39) : Option Rtz39 := (cond (Bool.not (ieqI (S.checkG x1 (x2.1, x2.2)) (Int.ofNat 0))) (some ([], ((S.checkG x1 (x2.1, x2.2)), ()))) (match (S.canonO (x2.1, x2.2)) with | .none  => none | .some v0 => (match (cond (S.numOK (Int.ofNat (List.length v0.1.1))) (some ((S.num (Int.ofNat (List.length v0.1.1))), ())) none) with | .none  => none | .some v1 => (cond (Nat.ble (Nat.mul (Nat.add 0 (List.length v1.1)) 1) 140737488355328) (L9 (v1.1, v0.1.1, v0.1.2, (Int.ofNat 0))) none))))
def Rz39_9 (lf : Nat) (x1 : (List DForm)) (x2 : DGraph) (L13 : ((List DNode) × (List DVal) × (List DVal) × (List Int) × Int × Int) → Option Rtz39) (L20 : ((List DVal) × (List Int) × Int) → Option Rtz39) (p : (List Int) × (List DNode) × (List DVal) × Int) : Option Rtz39 := (cond (iltI p.2.2.2 (Int.ofNat (List.length p.2.1))) (match (jget p.2.1 p.2.2.2) with | .none  => none | .some v0 => (match (cond (S.numOK (S.form x1 v0.1)) (some ((S.num (S.form x1 v0.1)), ())) none) with | .none  => none | .some v1 => (cond (Nat.ble (Nat.mul (Nat.add (List.length p.1) (List.length v1.1)) 1) 140737488355328) (L13 (p.2.1, p.2.2.1, v0.2, (List.append p.1 v1.1), (Int.ofNat 0), p.2.2.2)) none))) (match (cond (S.numOK (Int.ofNat (List.length p.2.2.1))) (some ((S.num (Int.ofNat (List.length p.2.2.1))), ())) none) with | .none  => none | .some v8 => (cond (Nat.ble (Nat.mul (Nat.add (List.length p.1) (List.length v8.1)) 1) 140737488355328) (L20 (p.2.2.1, (List.append p.1 v8.1), (Int.ofNat 0))) none)))
def Rz39_13 (lf : Nat) (x1 : (List DForm)) (x2 : DGraph) (L13 : ((List DNode) × (List DVal) × (List DVal) × (List Int) × Int × Int) → Option Rtz39) (L9 : ((List Int) × (List DNode) × (List DVal) × Int) → Option Rtz39) (p : (List DNode) × (List DVal) × (List DVal) × (List Int) × Int × Int) : Option Rtz39 := (cond (iltI p.2.2.2.2.1 (Int.ofNat (List.length p.2.2.1))) (match (jget p.2.2.1 p.2.2.2.2.1) with | .none  => none | .some v0 => (match (cond (S.numOK (S.code (v0.1, v0.2))) (some ((S.num (S.code (v0.1, v0.2))), ())) none) with | .none  => none | .some v1 => (cond (Nat.ble (Nat.mul (Nat.add (List.length p.2.2.2.1) (List.length v1.1)) 1) 140737488355328) (L13 (p.1, p.2.1, p.2.2.1, (List.append p.2.2.2.1 v1.1), (IntKind.i64.wrap (Int.add p.2.2.2.2.1 (Int.ofNat 1))), p.2.2.2.2.2)) none))) (L9 (p.2.2.2.1, p.1, p.2.1, (IntKind.i64.wrap (Int.add p.2.2.2.2.2 (Int.ofNat 1))))))
def Rz39_20 (lf : Nat) (x1 : (List DForm)) (x2 : DGraph) (L20 : ((List DVal) × (List Int) × Int) → Option Rtz39) (p : (List DVal) × (List Int) × Int) : Option Rtz39 := (cond (iltI p.2.2 (Int.ofNat (List.length p.1))) (match (jget p.1 p.2.2) with | .none  => none | .some v0 => (match (cond (S.numOK (S.code (v0.1, v0.2))) (some ((S.num (S.code (v0.1, v0.2))), ())) none) with | .none  => none | .some v1 => (cond (Nat.ble (Nat.mul (Nat.add (List.length p.2.1) (List.length v1.1)) 1) 140737488355328) (L20 (p.1, (List.append p.2.1 v1.1), (IntKind.i64.wrap (Int.add p.2.2 (Int.ofNat 1))))) none))) (cond (Nat.ble (Nat.mul (Nat.add (List.length p.2.1) (List.length (S.sum4 p.2.1))) 1) 140737488355328) (cond (iltI (Int.ofNat 60000) (Int.ofNat (List.length (List.append p.2.1 (S.sum4 p.2.1))))) (some ([], ((Int.ofNat 3), ()))) (some ((List.append p.2.1 (S.sum4 p.2.1)), ((Int.ofNat 0), ())))) none))
abbrev gz39 : Type := ElA [(.list cForm), cGraph] → Option Rtz39
abbrev sz39 (g : gz39) : Sm := ⟨[(.list cForm), cGraph], [(false, (.list (.int .u8))), (false, (.int .i64))], g⟩
abbrev Ez39 (g : gz39) (J : JT Rtz39) (lf : Nat) (x1 : (List DForm)) (x2 : DGraph) := icodeT Try.prog ttT.get nmz39 fi20.nt (clz39 _ lf) lf stz39 J fi20.body [] (argGo (argV [(.list cForm), cGraph] (x1, x2, ())) 0 .leaf) S0 [] (lastK ttT.get fi20 (sz39 g))
abbrev Bz39 (g : gz39) (J : JT Rtz39) (lf k : Nat) (ms : List Nat) (q : NRes) := icodeFT Try.prog ttT.get nmz39 fi20.nt (clz39 _ lf) lf stz39 J k fi20.body [] ms q (lastK ttT.get fi20 (sz39 g))
theorem inz39 (g : gz39) (J : JT Rtz39) (lf : Nat) (x1 : (List DForm)) (x2 : DGraph) : Ez39 g J lf x1 x2 = Rz39_in lf x1 x2 (fun q => J 9 [lf] (encz39_9 x1 x2 q)) := by kernel_rfl
theorem stz39_9 (g : gz39) (J : JT Rtz39) (lf : Nat) (x1 : (List DForm)) (x2 : DGraph) (m1 : Nat) (p : (List Int) × (List DNode) × (List DVal) × Int) : Bz39 g J lf 9 [m1] (encz39_9 x1 x2 p) = Rz39_9 lf x1 x2 (fun q => J 13 [m1, lf] (encz39_13 x1 x2 q)) (fun q => J 20 [lf] (encz39_20 x1 x2 q)) p := by kernel_rfl
theorem stz39_13 (g : gz39) (J : JT Rtz39) (lf : Nat) (x1 : (List DForm)) (x2 : DGraph) (m1 : Nat) (m2 : Nat) (p : (List DNode) × (List DVal) × (List DVal) × (List Int) × Int × Int) : Bz39 g J lf 13 [m1, m2] (encz39_13 x1 x2 p) = Rz39_13 lf x1 x2 (fun q => J 13 [m1, m2] (encz39_13 x1 x2 q)) (fun q => J 9 [m1] (encz39_9 x1 x2 q)) p := by kernel_rfl
theorem stz39_20 (g : gz39) (J : JT Rtz39) (lf : Nat) (x1 : (List DForm)) (x2 : DGraph) (m1 : Nat) (p : (List DVal) × (List Int) × Int) : Bz39 g J lf 20 [m1] (encz39_20 x1 x2 p) = Rz39_20 lf x1 x2 (fun q => J 20 [m1] (encz39_20 x1 x2 q)) p := by kernel_rfl
theorem ndz39 : (regs fi20.body).Nodup := by decide +kernel
theorem okz39 : okC nmz39 stz39 hdz39 fi20.body none = true := by kernel_rfl
def Az39 (g : gz39) (lf : Nat) : JT Rtz39 := atN Try.prog ttT.get nmz39 fi20 (sz39 g) (clz39 _ lf) lf hdz39
def Gz39_13 (lf : Nat) (x1 : (List DForm)) (x2 : DGraph) (K9 : ((List Int) × (List DNode) × (List DVal) × Int) → Option Rtz39) : Nat → ((List DNode) × (List DVal) × (List DVal) × (List Int) × Int × Int) → Option Rtz39 := rounds fun K p => Rz39_13 lf x1 x2 K K9 p
theorem atz39_13 (g : gz39) (lf : Nat) (x1 : (List DForm)) (x2 : DGraph) (m1 : Nat) : ∀ (n : Nat) (p : (List DNode) × (List DVal) × (List DVal) × (List Int) × Int × Int), Az39 g lf 13 [m1, n] (encz39_13 x1 x2 p) = Gz39_13 lf x1 x2 (fun q => Az39 g lf 9 [m1] (encz39_9 x1 x2 q)) n p
 | 0, p => atz 13 [m1, 0] rfl _
 | n + 1, p => by
   have ih := atz39_13 g lf x1 x2 m1 n
   refine (atN_eq (iKe 20 _) ndz39 okz39 13 [m1, n + 1] [m1, n] rfl _).trans ((stz39_13 g (Az39 g lf) lf x1 x2 m1 n p).trans ?_)
   rw [(show (fun q => Az39 g lf 13 [m1, n] (encz39_13 x1 x2 q)) = (fun q => Gz39_13 lf x1 x2 (fun q => Az39 g lf 9 [m1] (encz39_9 x1 x2 q)) n q) from funext ih)]
   rfl
def Gz39_20 (lf : Nat) (x1 : (List DForm)) (x2 : DGraph) : Nat → ((List DVal) × (List Int) × Int) → Option Rtz39 := rounds fun K p => Rz39_20 lf x1 x2 K p
theorem atz39_20 (g : gz39) (lf : Nat) (x1 : (List DForm)) (x2 : DGraph) : ∀ (n : Nat) (p : (List DVal) × (List Int) × Int), Az39 g lf 20 [n] (encz39_20 x1 x2 p) = Gz39_20 lf x1 x2 n p
 | 0, p => atz 20 [0] rfl _
 | n + 1, p => by
   have ih := atz39_20 g lf x1 x2 n
   refine (atN_eq (iKe 20 _) ndz39 okz39 20 [n + 1] [n] rfl _).trans ((stz39_20 g (Az39 g lf) lf x1 x2 n p).trans ?_)
   rw [(show (fun q => Az39 g lf 20 [n] (encz39_20 x1 x2 q)) = (fun q => Gz39_20 lf x1 x2 n q) from funext ih)]
   rfl
def Gz39_9 (lf : Nat) (x1 : (List DForm)) (x2 : DGraph) : Nat → ((List Int) × (List DNode) × (List DVal) × Int) → Option Rtz39 := rounds fun K p => Rz39_9 lf x1 x2 (fun q => Gz39_13 lf x1 x2 K lf q) (fun q => Gz39_20 lf x1 x2 lf q) p
theorem atz39_9 (g : gz39) (lf : Nat) (x1 : (List DForm)) (x2 : DGraph) : ∀ (n : Nat) (p : (List Int) × (List DNode) × (List DVal) × Int), Az39 g lf 9 [n] (encz39_9 x1 x2 p) = Gz39_9 lf x1 x2 n p
 | 0, p => atz 9 [0] rfl _
 | n + 1, p => by
   have ih := atz39_9 g lf x1 x2 n
   refine (atN_eq (iKe 20 _) ndz39 okz39 9 [n + 1] [n] rfl _).trans ((stz39_9 g (Az39 g lf) lf x1 x2 n p).trans ?_)
   rw [(show (fun q => Az39 g lf 13 [n, lf] (encz39_13 x1 x2 q)) = (fun q => Gz39_13 lf x1 x2 (fun q => Az39 g lf 9 [n] (encz39_9 x1 x2 q)) lf q) from funext fun q => atz39_13 g lf x1 x2 n lf q), (show (fun q => Az39 g lf 20 [lf] (encz39_20 x1 x2 q)) = (fun q => Gz39_20 lf x1 x2 lf q) from funext fun q => atz39_20 g lf x1 x2 lf q), (show (fun q => Az39 g lf 9 [n] (encz39_9 x1 x2 q)) = (fun q => Gz39_9 lf x1 x2 n q) from funext ih)]
   rfl
def Fz39 (lf : Nat) (x1 : (List DForm)) (x2 : DGraph) : Option Rtz39 := Rz39_in lf x1 x2 (fun q => Gz39_9 lf x1 x2 lf q)
theorem runz39 (g : gz39) (lf : Nat) (x1 : (List DForm)) (x2 : DGraph) : Ez39 g (Az39 g lf) lf x1 x2 = Fz39 lf x1 x2 := by
   refine (inz39 g (Az39 g lf) lf x1 x2).trans ?_
   rw [(show (fun q => Az39 g lf 9 [lf] (encz39_9 x1 x2 q)) = (fun q => Gz39_9 lf x1 x2 lf q) from funext fun q => atz39_9 g lf x1 x2 lf q)]
   rfl
theorem hxsz39 (hrz42 : ConR Try.prog 66 spz42) : HxsOK Try.prog hxlz39 := ⟨hxR_ok hrz42, trivial⟩
theorem mkz39 {g : gz39} (hsm : SmOK Try.prog smlz39) (hrz42 : ConR Try.prog 66 spz42) (hg : ∀ (x : ElA [(.list cForm), cGraph]) (y : Rtz39), WfA [(.list cForm), cGraph] x → g x = some y → ∃ lf, Fz39 lf x.1 x.2.1 = some y) : Con Try.prog 20 ⟨[(.list cForm), cGraph], [(false, (.list (.int .u8))), (false, (.int .i64))], g⟩ :=
 conT (nmf := nmz39) (sml := smlz39) (hxl := hxlz39) (st := stz39) (hd := hdz39) 20 mixed ttOK ftOK hsm (hxsz39 hrz42) cal20 rfl rfl (by kernel_rfl) (fun x => by kernel_rfl) ndz39 okz39 fun x y hx hy => by
   obtain ⟨lf, h⟩ := hg x y hx hy
   exact ⟨lf, (runz39 g lf x.1 x.2.1).trans h⟩
def nmz40 : Nat → Option Nm := fun k => cond (Nat.beq k 5) (some ⟨[3, 4], [(4, (.int .u8))], [], [], [], 0, 0, false⟩) (none)
def stz40 : Nat → Bool := fun k => cond (Nat.beq k 5) true (false)
def hdz40 := stz40
abbrev Rtz40 : Type := (List Int) × Unit
def smlz40 : List (Nat × Sm) := []
def hxlz40 : List (Nat × Hx) := []
def clz40 (R : Type) (lf : Nat) : ClK R := icallK Try.prog ttT.get ftT.get (nm1 64 nmz40) (smL smlz40) (hxL hxlz40) lf 20 R
abbrev idz40 : Nat := 64
def encz40_5 (x1 : Int) (p : Int × (List Int)) : NRes := (NRes.mk (.node none (.node none (.node (some (IV.int .u64 p.1)) .leaf .leaf) .leaf) (.node none (.node (some (IV.arr 0)) .leaf .leaf) .leaf)) (IS.mk (.node (some (IObj.arr (TC.int .u8) p.2)) .leaf .leaf) 1) [] 0)
def Rz40_in (lf : Nat) (x1 : Int) (L5 : (Int × (List Int)) → Option Rtz40) : Option Rtz40 := (cond (iltI x1 (Int.ofNat 0)) (L5 ((IntKind.wrap IntKind.u64 (IntKind.i64.wrap (Int.sub (IntKind.i64.wrap (Int.mul (Int.negSucc 1) x1)) (Int.ofNat 1)))), [])) (L5 ((IntKind.wrap IntKind.u64 (IntKind.i64.wrap (Int.mul (Int.ofNat 2) x1))), [])))
def Rz40_5 (lf : Nat) (x1 : Int) (L5 : (Int × (List Int)) → Option Rtz40) (p : Int × (List Int)) : Option Rtz40 := (cond (Bool.not (iltI p.1 (Int.ofNat 128))) (cond (Nat.ble (Nat.mul (Nat.add (List.length p.2) 1) 1) 140737488355328) (L5 ((Int.fdiv p.1 (Int.ofNat 128)), (List.append p.2 (List.cons (Int.ofNat (Nat.mod (Nat.lor (Int.toNat (Int.emod (IntKind.u8.wrap p.1) (Int.ofNat 256))) 128) 256)) [])))) none) (cond (Nat.ble (Nat.mul (Nat.add (List.length p.2) 1) 1) 140737488355328) (some ((List.append p.2 (List.cons (IntKind.u8.wrap p.1) [])), ())) none))
abbrev gz40 : Type := ElA [(.int .i64)] → Option Rtz40
abbrev sz40 (g : gz40) : Sm := ⟨[(.int .i64)], [(false, (.list (.int .u8)))], g⟩
abbrev Ez40 (g : gz40) (J : JT Rtz40) (lf : Nat) (x1 : Int) := icodeT Try.prog ttT.get nmz40 fi64.nt (clz40 _ lf) lf stz40 J fi64.body [] (argGo (argV [(.int .i64)] (x1, ())) 0 .leaf) S0 [] (lastK ttT.get fi64 (sz40 g))
abbrev Bz40 (g : gz40) (J : JT Rtz40) (lf k : Nat) (ms : List Nat) (q : NRes) := icodeFT Try.prog ttT.get nmz40 fi64.nt (clz40 _ lf) lf stz40 J k fi64.body [] ms q (lastK ttT.get fi64 (sz40 g))
theorem inz40 (g : gz40) (J : JT Rtz40) (lf : Nat) (x1 : Int) : Ez40 g J lf x1 = Rz40_in lf x1 (fun q => J 5 [lf] (encz40_5 x1 q)) := by kernel_rfl
theorem stz40_5 (g : gz40) (J : JT Rtz40) (lf : Nat) (x1 : Int) (m1 : Nat) (p : Int × (List Int)) : Bz40 g J lf 5 [m1] (encz40_5 x1 p) = Rz40_5 lf x1 (fun q => J 5 [m1] (encz40_5 x1 q)) p := by kernel_rfl
theorem ndz40 : (regs fi64.body).Nodup := by decide +kernel
theorem okz40 : okC nmz40 stz40 hdz40 fi64.body none = true := by kernel_rfl
def Az40 (g : gz40) (lf : Nat) : JT Rtz40 := atN Try.prog ttT.get nmz40 fi64 (sz40 g) (clz40 _ lf) lf hdz40
def Gz40_5 (lf : Nat) (x1 : Int) : Nat → (Int × (List Int)) → Option Rtz40 := rounds fun K p => Rz40_5 lf x1 K p
theorem atz40_5 (g : gz40) (lf : Nat) (x1 : Int) : ∀ (n : Nat) (p : Int × (List Int)), Az40 g lf 5 [n] (encz40_5 x1 p) = Gz40_5 lf x1 n p
 | 0, p => atz 5 [0] rfl _
 | n + 1, p => by
   have ih := atz40_5 g lf x1 n
   refine (atN_eq (iKe 20 _) ndz40 okz40 5 [n + 1] [n] rfl _).trans ((stz40_5 g (Az40 g lf) lf x1 n p).trans ?_)
   rw [(show (fun q => Az40 g lf 5 [n] (encz40_5 x1 q)) = (fun q => Gz40_5 lf x1 n q) from funext ih)]
   rfl
def Fz40 (lf : Nat) (x1 : Int) : Option Rtz40 := Rz40_in lf x1 (fun q => Gz40_5 lf x1 lf q)
theorem runz40 (g : gz40) (lf : Nat) (x1 : Int) : Ez40 g (Az40 g lf) lf x1 = Fz40 lf x1 := by
   refine (inz40 g (Az40 g lf) lf x1).trans ?_
   rw [(show (fun q => Az40 g lf 5 [lf] (encz40_5 x1 q)) = (fun q => Gz40_5 lf x1 lf q) from funext fun q => atz40_5 g lf x1 lf q)]
   rfl
theorem hxsz40 : HxsOK Try.prog hxlz40 := trivial
theorem mkz40 {g : gz40} (hsm : SmOK Try.prog smlz40) (hg : ∀ (x : ElA [(.int .i64)]) (y : Rtz40), WfA [(.int .i64)] x → g x = some y → ∃ lf, Fz40 lf x.1 = some y) : Con Try.prog 64 ⟨[(.int .i64)], [(false, (.list (.int .u8)))], g⟩ :=
 conT (nmf := nmz40) (sml := smlz40) (hxl := hxlz40) (st := stz40) (hd := hdz40) 20 mixed ttOK ftOK hsm hxsz40 cal64 rfl rfl (by kernel_rfl) (fun x => by kernel_rfl) ndz40 okz40 fun x y hx hy => by
   obtain ⟨lf, h⟩ := hg x y hx hy
   exact ⟨lf, (runz40 g lf x.1).trans h⟩
def nmz41 : Nat → Option Nm := fun k => none
def stz41 : Nat → Bool := fun k => false
def hdz41 := stz41
abbrev Rtz41 : Type := Int × Unit
def smlz41 : List (Nat × Sm) := []
def hxlz41 : List (Nat × Hx) := []
def clz41 (R : Type) (lf : Nat) : ClK R := icallK Try.prog ttT.get ftT.get (nm1 65 nmz41) (smL smlz41) (hxL hxlz41) lf 20 R
abbrev idz41 : Nat := 65
def Rz41_in (lf : Nat) (x1 : DVal) : Option Rtz41 := (cond (ieqI x1.1 (Int.ofNat 3)) (some ((Int.ofNat 0), ())) (cond (ieqI x1.1 (Int.ofNat 4)) (some ((IntKind.i64.wrap (Int.add x1.2 (Int.ofNat 1))), ())) (some (x1.2, ()))))
abbrev gz41 : Type := ElA [cVal] → Option Rtz41
abbrev sz41 (g : gz41) : Sm := ⟨[cVal], [(false, (.int .i64))], g⟩
abbrev Ez41 (g : gz41) (J : JT Rtz41) (lf : Nat) (x1 : DVal) := icodeT Try.prog ttT.get nmz41 fi65.nt (clz41 _ lf) lf stz41 J fi65.body [] (argGo (argV [cVal] (x1, ())) 0 .leaf) S0 [] (lastK ttT.get fi65 (sz41 g))
theorem inz41 (g : gz41) (J : JT Rtz41) (lf : Nat) (x1 : DVal) : Ez41 g J lf x1 = Rz41_in lf x1 := by kernel_rfl
theorem ndz41 : (regs fi65.body).Nodup := by decide +kernel
theorem okz41 : okC nmz41 stz41 hdz41 fi65.body none = true := by kernel_rfl
def Az41 (g : gz41) (lf : Nat) : JT Rtz41 := atN Try.prog ttT.get nmz41 fi65 (sz41 g) (clz41 _ lf) lf hdz41
def Fz41 (lf : Nat) (x1 : DVal) : Option Rtz41 := Rz41_in lf x1
theorem runz41 (g : gz41) (lf : Nat) (x1 : DVal) : Ez41 g (Az41 g lf) lf x1 = Fz41 lf x1 := by
   refine (inz41 g (Az41 g lf) lf x1).trans ?_
   rfl
theorem hxsz41 : HxsOK Try.prog hxlz41 := trivial
theorem mkz41 {g : gz41} (hsm : SmOK Try.prog smlz41) (hg : ∀ (x : ElA [cVal]) (y : Rtz41), WfA [cVal] x → g x = some y → ∃ lf, Fz41 lf x.1 = some y) : Con Try.prog 65 ⟨[cVal], [(false, (.int .i64))], g⟩ :=
 conT (nmf := nmz41) (sml := smlz41) (hxl := hxlz41) (st := stz41) (hd := hdz41) 20 mixed ttOK ftOK hsm hxsz41 cal65 rfl rfl (by kernel_rfl) (fun x => by kernel_rfl) ndz41 okz41 fun x y hx hy => by
   obtain ⟨lf, h⟩ := hg x y hx hy
   exact ⟨lf, (runz41 g lf x.1).trans h⟩
def nmz42 : Nat → Option Nm := fun k => cond (Nat.beq k 3) (some ⟨[3, 6, 7, 8], [], [], [], [], 0, 0, false⟩) (cond (Nat.beq k 999999) (some ⟨[], [], [], [], [], 0, 0, false⟩) none)
def stz42 : Nat → Bool := fun k => cond (Nat.beq k 3) true (false)
def hdz42 := stz42
abbrev Rtz42 : Type := ((List Int) × Unit) × (Option (List Int)) × Unit
def smlz42 : List (Nat × Sm) := []
def hxlz42 : List (Nat × Hx) := []
def clz42 (R : Type) (lf : Nat) : ClK R := icallK Try.prog ttT.get ftT.get (fun _ _ => none) (smL smlz42) (hxL hxlz42) lf 20 R
abbrev idz42 : Nat := 66
def encz42_3 (x1 : (List Int)) (p : Int × Int) : NRes := (NRes.mk (.node none (.node none (.node (some (IV.int .i64 p.1)) (.node (some (IV.int .i64 (Int.ofNat (List.length x1)))) .leaf .leaf) .leaf) .leaf) (.node none (.node none (.node (some (IV.int .i64 p.2)) .leaf .leaf) .leaf) (.node (some (IV.arr 0)) .leaf .leaf))) (IS.mk (.node (some (IObj.arr (TC.int .u8) x1)) .leaf .leaf) 1) [] 0)
def Rz42_in (lf : Nat) (x1 : (List Int)) (L3 : (Int × Int) → Option Rtz42) : Option Rtz42 := (L3 ((Int.ofNat 1), (Int.ofNat 0)))
def Rz42_3 (lf : Nat) (x1 : (List Int)) (L3 : (Int × Int) → Option Rtz42) (p : Int × Int) : Option Rtz42 := (cond (iltI p.2 (Int.ofNat (List.length x1))) (match (jget x1 p.2) with | .none  => none | .some v0 => (match (GetElem?.getElem? x1 (Int.toNat p.2)) with | .none  => none | .some v1 => (L3 ((Int.tmod (IntKind.i64.wrap (Int.add (IntKind.i64.wrap (Int.mul (Int.ofNat 31) p.1)) (IntKind.i64.wrap v1))) (Int.ofNat 2147483647)), (IntKind.i64.wrap (Int.add p.2 (Int.ofNat 1))))))) (some (((List.cons (IntKind.u8.wrap (Int.fdiv p.1 (Int.ofNat 16777216))) (List.cons (IntKind.u8.wrap (Int.fdiv p.1 (Int.ofNat 65536))) (List.cons (IntKind.u8.wrap (Int.fdiv p.1 (Int.ofNat 256))) (List.cons (IntKind.u8.wrap p.1) [])))), ()), ((some x1), ()))))
abbrev gz42 : Type := ElP [.ref (.sl (.int .u8))] → Option Rtz42
abbrev sz42 (g : gz42) : SmR := ⟨[.ref (.sl (.int .u8))], [(true, (.int .u8))], g⟩
abbrev Ez42 (g : gz42) (J : JT Rtz42) (lf : Nat) (x1 : (List Int)) := icodeTB Try.prog ttT.get nmz42 (mP [.ref (.sl (.int .u8))]) fi66.nt (clz42 _ lf) lf stz42 J fi66.body [] (argGo (argsP [.ref (.sl (.int .u8))] idN 0 (some x1, ())) 0 .leaf) (Sc [.ref (.sl (.int .u8))] (some x1, ())) [] (lastQ ttT.get fi66 (sz42 g))
abbrev Bz42 (g : gz42) (J : JT Rtz42) (lf k : Nat) (ms : List Nat) (q : NRes) := icodeFTB Try.prog ttT.get nmz42 (mP [.ref (.sl (.int .u8))]) fi66.nt (clz42 _ lf) lf stz42 J k fi66.body [] ms q (lastQ ttT.get fi66 (sz42 g))
theorem inz42 (g : gz42) (J : JT Rtz42) (lf : Nat) (x1 : (List Int)) : Ez42 g J lf x1 = Rz42_in lf x1 (fun q => J 3 [lf] (encz42_3 x1 q)) := by kernel_rfl
theorem stz42_3 (g : gz42) (J : JT Rtz42) (lf : Nat) (x1 : (List Int)) (m1 : Nat) (p : Int × Int) : Bz42 g J lf 3 [m1] (encz42_3 x1 p) = Rz42_3 lf x1 (fun q => J 3 [m1] (encz42_3 x1 q)) p := by kernel_rfl
theorem ndz42 : (regs fi66.body).Nodup := by decide +kernel
theorem okz42 : okC nmz42 stz42 hdz42 fi66.body none = true := by kernel_rfl
def Az42 (g : gz42) (lf : Nat) : JT Rtz42 := atQ Try.prog ttT.get nmz42 fi66 (sz42 g) (clz42 _ lf) lf hdz42
def Gz42_3 (lf : Nat) (x1 : (List Int)) : Nat → (Int × Int) → Option Rtz42 := rounds fun K p => Rz42_3 lf x1 K p
theorem atz42_3 (g : gz42) (lf : Nat) (x1 : (List Int)) : ∀ (n : Nat) (p : Int × Int), Az42 g lf 3 [n] (encz42_3 x1 p) = Gz42_3 lf x1 n p
 | 0, p => atQ_zero 3 [0] rfl _
 | n + 1, p => by
   have ih := atz42_3 g lf x1 n
   refine (atQ_eq rfl (iKe 20 _) ndz42 okz42 3 [n + 1] [n] rfl _).trans ((stz42_3 g (Az42 g lf) lf x1 n p).trans ?_)
   rw [(show (fun q => Az42 g lf 3 [n] (encz42_3 x1 q)) = (fun q => Gz42_3 lf x1 n q) from funext ih)]
   rfl
def Fz42 (lf : Nat) (x1 : (List Int)) : Option Rtz42 := Rz42_in lf x1 (fun q => Gz42_3 lf x1 lf q)
theorem runz42 (g : gz42) (lf : Nat) (x1 : (List Int)) : Ez42 g (Az42 g lf) lf x1 = Fz42 lf x1 := by
   refine (inz42 g (Az42 g lf) lf x1).trans ?_
   rw [(show (fun q => Az42 g lf 3 [lf] (encz42_3 x1 q)) = (fun q => Gz42_3 lf x1 lf q) from funext fun q => atz42_3 g lf x1 lf q)]
   rfl
theorem hxsz42 : HxsOK Try.prog hxlz42 := trivial
theorem mkz42 {g : gz42} (hsm : SmOK Try.prog smlz42) (h0 : ∀ (x : ElP [.ref (.sl (.int .u8))]) (y : Rtz42), g x = some y → ∃ (x1 : (List Int)), x = (some x1, ())) (hg : ∀ (x1 : (List Int)) (y : Rtz42), WfP [.ref (.sl (.int .u8))] (some x1, ()) → g (some x1, ()) = some y → ∃ lf, Fz42 lf x1 = some y) : ConR Try.prog 66 ⟨[.ref (.sl (.int .u8))], [(true, (.int .u8))], g⟩ :=
 conTR (nmf := nmz42) (sml := smlz42) (hxl := hxlz42) (st := stz42) (hd := hdz42) 20 mixed ttOK ftOK hsm hxsz42 cal66 (by kernel_rfl) (fun x => by kernel_rfl) ndz42 okz42 fun x y z hx hy => by
   obtain ⟨x1, rfl⟩ := h0 x (y, z) hy
   obtain ⟨lf, h⟩ := hg x1 (y, z) hx hy
   exact ⟨lf, (runz42 g lf x1).trans h⟩
def nmz43 : Nat → Option Nm := fun k => cond (Nat.beq k 4) (some ⟨[0, 5], [(0, (.int .u8))], [], [], [], 0, 0, false⟩) (cond (Nat.beq k 999999) (some ⟨[], [], [], [], [], 0, 0, false⟩) none)
def stz43 : Nat → Bool := fun k => cond (Nat.beq k 4) true (false)
def hdz43 := stz43
abbrev Rtz43 : Type := ((List Int) × Unit) × (Option (List Int)) × Unit
def smlz43 : List (Nat × Sm) := []
def hxlz43 : List (Nat × Hx) := []
def clz43 (R : Type) (lf : Nat) : ClK R := icallK Try.prog ttT.get ftT.get (fun _ _ => none) (smL smlz43) (hxL hxlz43) lf 20 R
abbrev idz43 : Nat := 68
def encz43_4 (x1 : (List Int)) (x2 : Int) (p : Int × (List Int)) : NRes := (NRes.mk (.node (some (IV.arr 1)) (.node none .leaf (.node (some (IV.int .i64 p.1)) .leaf .leaf)) .leaf) (IS.mk (.node (some IObj.dead) (.node (some (IObj.arr (TC.int .u8) p.2)) .leaf .leaf) .leaf) 2) [] 0)
def Rz43_in (lf : Nat) (x1 : (List Int)) (x2 : Int) (L4 : (Int × (List Int)) → Option Rtz43) : Option Rtz43 := (cond (iltI x2 (Int.ofNat 0)) (L4 ((IntKind.i64.wrap (Int.sub (IntKind.i64.wrap (Int.mul (Int.negSucc 1) x2)) (Int.ofNat 1))), x1)) (L4 ((IntKind.i64.wrap (Int.mul (Int.ofNat 2) x2)), x1)))
def Rz43_4 (lf : Nat) (x1 : (List Int)) (x2 : Int) (L4 : (Int × (List Int)) → Option Rtz43) (p : Int × (List Int)) : Option Rtz43 := (cond (Bool.not (iltI p.1 (Int.ofNat 128))) (cond (Nat.ble (Nat.mul (Nat.add (List.length p.2) 1) 1) 140737488355328) (L4 ((IntKind.i64.wrap (Int.tdiv p.1 (Int.ofNat 128))), (List.append p.2 (List.cons (IntKind.u8.wrap (IntKind.i64.wrap (Int.add (Int.ofNat 128) (Int.tmod p.1 (Int.ofNat 128))))) [])))) none) (cond (Nat.ble (Nat.mul (Nat.add (List.length p.2) 1) 1) 140737488355328) (some (((List.append p.2 (List.cons (IntKind.u8.wrap p.1) [])), ()), (none, ()))) none))
abbrev gz43 : Type := ElP [.ref (.sl (.int .u8)), .dat (.int .i64)] → Option Rtz43
abbrev sz43 (g : gz43) : SmR := ⟨[.ref (.sl (.int .u8)), .dat (.int .i64)], [(true, (.int .u8))], g⟩
abbrev Ez43 (g : gz43) (J : JT Rtz43) (lf : Nat) (x1 : (List Int)) (x2 : Int) := icodeTB Try.prog ttT.get nmz43 (mP [.ref (.sl (.int .u8)), .dat (.int .i64)]) fi68.nt (clz43 _ lf) lf stz43 J fi68.body [] (argGo (argsM [.ref (.sl (.int .u8)), .dat (.int .i64)] (some x1, x2, ())) 0 .leaf) (ScM [.ref (.sl (.int .u8)), .dat (.int .i64)] (some x1, x2, ())) [] (lastQ ttT.get fi68 (sz43 g))
abbrev Bz43 (g : gz43) (J : JT Rtz43) (lf k : Nat) (ms : List Nat) (q : NRes) := icodeFTB Try.prog ttT.get nmz43 (mP [.ref (.sl (.int .u8)), .dat (.int .i64)]) fi68.nt (clz43 _ lf) lf stz43 J k fi68.body [] ms q (lastQ ttT.get fi68 (sz43 g))
theorem inz43 (g : gz43) (J : JT Rtz43) (lf : Nat) (x1 : (List Int)) (x2 : Int) : Ez43 g J lf x1 x2 = Rz43_in lf x1 x2 (fun q => J 4 [lf] (encz43_4 x1 x2 q)) := by kernel_rfl
theorem stz43_4 (g : gz43) (J : JT Rtz43) (lf : Nat) (x1 : (List Int)) (x2 : Int) (m1 : Nat) (p : Int × (List Int)) : Bz43 g J lf 4 [m1] (encz43_4 x1 x2 p) = Rz43_4 lf x1 x2 (fun q => J 4 [m1] (encz43_4 x1 x2 q)) p := by kernel_rfl
theorem ndz43 : (regs fi68.body).Nodup := by decide +kernel
theorem okz43 : okC nmz43 stz43 hdz43 fi68.body none = true := by kernel_rfl
def Az43 (g : gz43) (lf : Nat) : JT Rtz43 := atQ Try.prog ttT.get nmz43 fi68 (sz43 g) (clz43 _ lf) lf hdz43
def Gz43_4 (lf : Nat) (x1 : (List Int)) (x2 : Int) : Nat → (Int × (List Int)) → Option Rtz43 := rounds fun K p => Rz43_4 lf x1 x2 K p
theorem atz43_4 (g : gz43) (lf : Nat) (x1 : (List Int)) (x2 : Int) : ∀ (n : Nat) (p : Int × (List Int)), Az43 g lf 4 [n] (encz43_4 x1 x2 p) = Gz43_4 lf x1 x2 n p
 | 0, p => atQ_zero 4 [0] rfl _
 | n + 1, p => by
   have ih := atz43_4 g lf x1 x2 n
   refine (atQ_eq rfl (iKe 20 _) ndz43 okz43 4 [n + 1] [n] rfl _).trans ((stz43_4 g (Az43 g lf) lf x1 x2 n p).trans ?_)
   rw [(show (fun q => Az43 g lf 4 [n] (encz43_4 x1 x2 q)) = (fun q => Gz43_4 lf x1 x2 n q) from funext ih)]
   rfl
def Fz43 (lf : Nat) (x1 : (List Int)) (x2 : Int) : Option Rtz43 := Rz43_in lf x1 x2 (fun q => Gz43_4 lf x1 x2 lf q)
theorem runz43 (g : gz43) (lf : Nat) (x1 : (List Int)) (x2 : Int) : Ez43 g (Az43 g lf) lf x1 x2 = Fz43 lf x1 x2 := by
   refine (inz43 g (Az43 g lf) lf x1 x2).trans ?_
   rw [(show (fun q => Az43 g lf 4 [lf] (encz43_4 x1 x2 q)) = (fun q => Gz43_4 lf x1 x2 lf q) from funext fun q => atz43_4 g lf x1 x2 lf q)]
   rfl
theorem hxsz43 : HxsOK Try.prog hxlz43 := trivial
theorem mkz43 {g : gz43} (hsm : SmOK Try.prog smlz43) (h0 : ∀ (x : ElP [.ref (.sl (.int .u8)), .dat (.int .i64)]) (y : Rtz43), g x = some y → ∃ (x1 : (List Int)) (x2 : Int), x = (some x1, x2, ())) (hg : ∀ (x1 : (List Int)) (x2 : Int) (y : Rtz43), WfP [.ref (.sl (.int .u8)), .dat (.int .i64)] (some x1, x2, ()) → g (some x1, x2, ()) = some y → ∃ lf, Fz43 lf x1 x2 = some y) : ConR Try.prog 68 ⟨[.ref (.sl (.int .u8)), .dat (.int .i64)], [(true, (.int .u8))], g⟩ :=
 conTM (nmf := nmz43) (sml := smlz43) (hxl := hxlz43) (st := stz43) (hd := hdz43) 20 mixed ttOK ftOK hsm hxsz43 cal68 (by kernel_rfl) (fun x => by kernel_rfl) ndz43 okz43 fun x y z hx hy => by
   obtain ⟨x1, x2, rfl⟩ := h0 x (y, z) hy
   obtain ⟨lf, h⟩ := hg x1 x2 (y, z) hx hy
   exact ⟨lf, (runz43 g lf x1 x2).trans h⟩
theorem w64 {n : Int} (h1 : -4611686018427387904 ≤ n) (h2 : n ≤ 4611686018427387904) : IntKind.i64.wrap n = n := (wrap_iff _ _).2 ⟨by show (-9223372036854775808 : Int) ≤ n; omega, by show n ≤ (9223372036854775807 : Int); omega⟩
theorem wu64 {n : Int} (h1 : 0 ≤ n) (h2 : n ≤ 4611686018427387904) : IntKind.u64.wrap n = n := (wrap_iff _ _).2 ⟨by show (0 : Int) ≤ n; omega, by show n ≤ (18446744073709551615 : Int); omega⟩
theorem w8 (n : Int) : IntKind.u8.wrap n = n % 256 := rfl
theorem lor128 : ∀ k : Fin 256, (k.val ||| 128) % 256 = 128 + k.val % 128 := by decide +kernel
theorem room1 {m k : Nat} (h : m + k ≤ 140737488355328) : Nat.ble (Nat.mul (Nat.add m k) 1) 140737488355328 = true := Nat.ble_eq_true_of_le (by show (m + k) * 1 ≤ _; omega)
theorem byte_or {u : Int} (h : 0 ≤ u) : Int.ofNat (Nat.mod (Nat.lor (Int.toNat (Int.emod (IntKind.u8.wrap u) (Int.ofNat 256))) 128) 256) = 128 + u % 128 := by
 have e : Int.emod (IntKind.u8.wrap u) (Int.ofNat 256) = u % 256 := by rw [w8]; show (u % 256) % 256 = _; omega
 rw [e]
 have hk : (u % 256).toNat < 256 := by omega
 have := lor128 ⟨(u % 256).toNat, hk⟩
 show (((((u % 256).toNat ||| 128) % 256 : Nat)) : Int) = _
 simp only at this
 rw [this]
 omega
theorem numU_lt {f : Nat} {u : Int} (h : u < 128) : S.numU f u = [u] := by cases f with | zero => rfl | succ f => simp only [S.numU, if_pos h]
theorem numU_ge {f : Nat} {u : Int} (h : ¬ u < 128) : S.numU (f + 1) u = (128 + u % 128) :: S.numU f (u / 128) := by simp only [S.numU, if_neg h]
theorem numU_len : ∀ (f : Nat) (u : Int), (S.numU f u).length ≤ f + 1
 | 0, u => by simp [S.numU]
 | f + 1, u => by
   have := numU_len f (u / 128)
   by_cases h : u < 128
   · rw [numU_lt h]; simp
   · rw [numU_ge h]; simp only [List.length_cons]; omega
theorem num_len (n : Int) : (S.num n).length ≤ 11 := numU_len 10 _
theorem pow_step {u : Int} {f : Nat} (h : u < 128 ^ (f + 1 + 1)) : u / 128 < 128 ^ (f + 1) := by
 rw [Int.pow_succ] at h
 generalize (128 : Int) ^ (f + 1) = q at h ⊢
 omega
theorem p_num_loop (x1 : Int) : ∀ (f n : Nat) (u : Int) (out : List Int), 0 ≤ u → u < 128 ^ (f + 1) → f < n → out.length + f ≤ 1000 →
   rounds (fun K p => Rz40_5 LF x1 K p) n (u, out) = some (out ++ S.numU f u, ())
 | f, 0, u, out, h0, h1, hn, hl => by omega
 | f, n + 1, u, out, h0, h1, hn, hl => by
   have ih := fun f' => p_num_loop x1 f' n (Int.fdiv u (Int.ofNat 128))
   show Rz40_5 LF x1 (rounds (fun K p => Rz40_5 LF x1 K p) n) (u, out) = _
   generalize rounds (fun K p => Rz40_5 LF x1 K p) n = Z at ih ⊢
   have hb : Nat.ble (Nat.mul (Nat.add out.length 1) 1) 140737488355328 = true := room1 (by omega)
   have hd : Int.fdiv u (Int.ofNat 128) = u / 128 := Int.fdiv_eq_ediv_of_nonneg u (by show (0 : Int) ≤ 128; omega)
   by_cases hu : u < 128
   · have h2 : iltI u (Int.ofNat 128) = true := by rw [iltI_eq]; exact decide_eq_true hu
     have h3 : IntKind.u8.wrap u = u := by rw [w8]; omega
     simp only [Rz40_5, h2, Bool.not_true, cond_false, hb, cond_true, h3, numU_lt hu]
     rfl
   · have h2 : iltI u (Int.ofNat 128) = false := by rw [iltI_eq]; exact decide_eq_false hu
     cases f with
     | zero => exact absurd (by simpa using h1) hu
     | succ f =>
       have := ih f (out ++ [128 + u % 128]) (by rw [hd]; omega) (by rw [hd]; exact pow_step h1) (by omega) (by simp; omega)
       simp only [Rz40_5, h2, Bool.not_false, cond_true, hb, byte_or h0]
       refine Eq.trans this ?_
       rw [hd, numU_ge hu, List.append_assoc]; rfl
theorem Fz40_eq {n : Int} (h : S.numOK n = true) : Fz40 LF n = some (S.num n, ()) := by
 unfold S.numOK at h
 simp only [Bool.and_eq_true, decide_eq_true_eq] at h
 obtain ⟨h1, h2⟩ := h
 have e1 : Int.sub (IntKind.i64.wrap (Int.mul (Int.negSucc 1) n)) (Int.ofNat 1) = -2 * n - 1 := by
   rw [show Int.mul (Int.negSucc 1) n = -2 * n from rfl, w64 (by omega) (by omega)]; rfl
 have e2 : Int.mul (Int.ofNat 2) n = 2 * n := rfl
 simp only [Fz40, Rz40_in, Gz40_5, e1, e2]
 by_cases hn : n < 0
 · have h3 : iltI n (Int.ofNat 0) = true := by rw [iltI_eq]; exact decide_eq_true hn
   rw [h3, cond_true, w64 (n := -2 * n - 1) (by omega) (by omega), wu64 (by omega) (by omega), p_num_loop n 10 LF _ [] (by omega) (by omega) (by unfold LF; omega) (by simp)]
   simp only [S.num, if_pos hn, List.nil_append]
 · have h3 : iltI n (Int.ofNat 0) = false := by rw [iltI_eq]; exact decide_eq_false hn
   rw [h3, cond_false, w64 (n := 2 * n) (by omega) (by omega), wu64 (by omega) (by omega), p_num_loop n 10 LF _ [] (by omega) (by omega) (by unfold LF; omega) (by simp)]
   simp only [S.num, if_neg hn, List.nil_append]
theorem conz40 : Con Try.prog idz40 spz40 := mkz40 trivial fun x y hx h => ⟨LF, by
 obtain ⟨n, _⟩ := x
 have h : cond (S.numOK n) (some (S.num n, ())) none = some y := h
 cases hk : S.numOK n with
 | false => rw [hk] at h; cases h
 | true => rw [hk] at h; exact (Fz40_eq hk).trans h⟩
theorem r_num_loop (x1 : List Int) (x2 : Int) : ∀ (f n : Nat) (u : Int) (out : List Int), 0 ≤ u → u < 128 ^ (f + 1) → u ≤ 4611686018427387904 → f < n → out.length + f + 1 ≤ 140737488355328 →
   rounds (fun K p => Rz43_4 LF x1 x2 K p) n (u, out) = some ((out ++ S.numU f u, ()), (none, ()))
 | f, 0, u, out, h0, h1, h6, hn, hl => by omega
 | f, n + 1, u, out, h0, h1, h6, hn, hl => by
   have ih := fun f' => r_num_loop x1 x2 f' n (IntKind.i64.wrap (Int.tdiv u (Int.ofNat 128)))
   show Rz43_4 LF x1 x2 (rounds (fun K p => Rz43_4 LF x1 x2 K p) n) (u, out) = _
   generalize rounds (fun K p => Rz43_4 LF x1 x2 K p) n = Z at ih ⊢
   have hb : Nat.ble (Nat.mul (Nat.add out.length 1) 1) 140737488355328 = true := room1 (by omega)
   have hd : IntKind.i64.wrap (Int.tdiv u (Int.ofNat 128)) = u / 128 := by
     rw [Int.tdiv_eq_ediv_of_nonneg h0]; exact w64 (by show _ ≤ u / 128; omega) (by show u / 128 ≤ _; omega)
   have hm : IntKind.u8.wrap (IntKind.i64.wrap (Int.add (Int.ofNat 128) (Int.tmod u (Int.ofNat 128)))) = 128 + u % 128 := by
     rw [Int.tmod_eq_emod_of_nonneg h0]
     have : Int.add (Int.ofNat 128) (u % Int.ofNat 128) = 128 + u % 128 := rfl
     rw [this, w64 (by omega) (by omega), w8]; omega
   by_cases hu : u < 128
   · have h2 : iltI u (Int.ofNat 128) = true := by rw [iltI_eq]; exact decide_eq_true hu
     have h3 : IntKind.u8.wrap u = u := by rw [w8]; omega
     simp only [Rz43_4, h2, Bool.not_true, cond_false, hb, cond_true, h3, numU_lt hu]
     rfl
   · have h2 : iltI u (Int.ofNat 128) = false := by rw [iltI_eq]; exact decide_eq_false hu
     cases f with
     | zero => exact absurd (by simpa using h1) hu
     | succ f =>
       have := ih f (out ++ [128 + u % 128]) (by rw [hd]; omega) (by rw [hd]; exact pow_step h1) (by rw [hd]; omega) (by omega) (by simp; omega)
       simp only [Rz43_4, h2, Bool.not_false, cond_true, hb, hm]
       refine Eq.trans this ?_
       rw [hd, numU_ge hu, List.append_assoc]; rfl
theorem Fz43_eq {b : List Int} {n : Int} (h : S.numOK n = true) (hb : b.length + 100 ≤ 140737488355328) : Fz43 LF b n = some ((b ++ S.num n, ()), (none, ())) := by
 unfold S.numOK at h
 simp only [Bool.and_eq_true, decide_eq_true_eq] at h
 obtain ⟨h1, h2⟩ := h
 have e1 : Int.sub (IntKind.i64.wrap (Int.mul (Int.negSucc 1) n)) (Int.ofNat 1) = -2 * n - 1 := by
   rw [show Int.mul (Int.negSucc 1) n = -2 * n from rfl, w64 (by omega) (by omega)]; rfl
 have e2 : Int.mul (Int.ofNat 2) n = 2 * n := rfl
 simp only [Fz43, Rz43_in, Gz43_4, e1, e2]
 by_cases hn : n < 0
 · have h3 : iltI n (Int.ofNat 0) = true := by rw [iltI_eq]; exact decide_eq_true hn
   rw [h3, cond_true, w64 (n := -2 * n - 1) (by omega) (by omega), r_num_loop b n 10 LF _ b (by omega) (by omega) (by omega) (by unfold LF; omega) (by omega)]
   simp only [S.num, if_pos hn]
 · have h3 : iltI n (Int.ofNat 0) = false := by rw [iltI_eq]; exact decide_eq_false hn
   rw [h3, cond_false, w64 (n := 2 * n) (by omega) (by omega), r_num_loop b n 10 LF _ b (by omega) (by omega) (by omega) (by unfold LF; omega) (by omega)]
   simp only [S.num, if_neg hn]
theorem conz43 : ConR Try.prog idz43 spz43 := mkz43 trivial (fun x y h => by
 match x, h with
 | (some b, n, ()), _ => exact ⟨b, n, rfl⟩
 | (none, n, ()), h => cases h) fun b n y hx h => ⟨LF, by
 have h : cond (S.numOK n && Nat.ble (List.length (α := Int) b + 100) 140737488355328) (some ((List.append (α := Int) b (S.num n), ()), (none, ()))) none = some y := h
 cases hk : (S.numOK n && Nat.ble (List.length (α := Int) b + 100) 140737488355328) with
 | false => rw [hk] at h; cases h
 | true =>
   rw [hk] at h
   simp only [Bool.and_eq_true] at hk
   exact (Fz43_eq hk.1 (Nat.le_of_ble_eq_true hk.2)).trans h⟩
theorem Fz41_eq (lf : Nat) (v : Int × Int) : Fz41 lf v = some (S.code v, ()) := by
 simp only [Fz41, Rz41_in, ieqI_eq, S.code]
 by_cases h3 : v.1 = 3
 · rw [decide_eq_true (show v.1 = Int.ofNat 3 from h3), if_pos h3]; rfl
 · rw [decide_eq_false (show ¬ v.1 = Int.ofNat 3 from h3), if_neg h3]
   by_cases h4 : v.1 = 4
   · rw [decide_eq_true (show v.1 = Int.ofNat 4 from h4), if_pos h4]; rfl
   · rw [decide_eq_false (show ¬ v.1 = Int.ofNat 4 from h4), if_neg h4]; rfl
theorem conz41 : Con Try.prog idz41 spz41 := mkz41 trivial fun x y hx h => ⟨LF, (Fz41_eq LF x.1).trans h⟩
theorem Fz36_eq (b : List Int) (hl : b.length < LF) : Fz36 LF b = some (S.sumI b, ()) := by
 simp only [Fz36, Rz36_in, Gz36_3]
 refine range0 (α := Int) (σ := Int) (R := Rtz36) b (fun i s => (s, i)) (fun _ _ => True) (fun rest i s => some (rest.foldl S.sumStep s, ())) hl (fun K s hI => ?_) (fun K i v rest s hI r hk => ?_) 1 trivial
 · simp only [Rz36_3, ils, cond_false]; rfl
 · simp only [Rz36_3, r.ilt, cond_true, r.get, r.next]
   exact hk _ trivial
theorem conz36 : Con Try.prog idz36 spz36 := mkz36 trivial fun x y hx h => ⟨LF, (Fz36_eq _ (wf_len hx.1)).trans h⟩
theorem Fz42_eq (b : List Int) (hl : b.length < LF) : Fz42 LF b = some ((S.sum4 b, ()), (some b, ())) := by
 simp only [Fz42, Rz42_in, Gz42_3]
 refine range0 (α := Int) (σ := Int) (R := Rtz42) b (fun i s => (s, i)) (fun _ _ => True) (fun rest i s => some ((S.sum4I (rest.foldl S.sumStep s), ()), (some b, ()))) hl (fun K s hI => ?_) (fun K i v rest s hI r hk => ?_) 1 trivial
 · simp only [Rz42_3, ils, cond_false]; rfl
 · have e1 : Int.toNat (Int.ofNat i) = i := rfl
   simp only [Rz42_3, r.ilt, cond_true, r.get, e1, r.get?, r.next]
   exact hk _ trivial
theorem conz42 : ConR Try.prog idz42 spz42 := mkz42 trivial (fun x y h => by
 match x, h with
 | (some b, ()), _ => exact ⟨b, rfl⟩
 | (none, ()), h => cases h) fun b y hx h => ⟨LF, (Fz42_eq b (by
   have h1 : List.length (α := Int) b * 1 ≤ 140737488355328 := hx.1.1
   unfold LF; omega)).trans h⟩
theorem sumStep_bd {s v : Int} (h1 : 0 ≤ s) (h2 : s < 2147483647) (h3 : 0 ≤ v) (h4 : v < 256) : 0 ≤ S.sumStep s v ∧ S.sumStep s v < 2147483647 := by
 have e : Int.mul (Int.ofNat 31) s = 31 * s := rfl
 have e2 : Int.add (31 * s) v = 31 * s + v := rfl
 unfold S.sumStep
 rw [e, w64 (n := 31 * s) (by omega) (by omega), w64 (n := v) (by omega) (by omega), e2, w64 (n := 31 * s + v) (by omega) (by omega), Int.tmod_eq_emod_of_nonneg (by omega)]
 show 0 ≤ (31 * s + v) % 2147483647 ∧ (31 * s + v) % 2147483647 < 2147483647
 omega
theorem sum_bd : ∀ (b : List Int) (s : Int), (∀ v ∈ b, 0 ≤ v ∧ v < 256) → 0 ≤ s → s < 2147483647 → 0 ≤ b.foldl S.sumStep s ∧ b.foldl S.sumStep s < 2147483647
 | [], s, _, h1, h2 => ⟨h1, h2⟩
 | v :: b, s, hb, h1, h2 => by
   obtain ⟨g1, g2⟩ := hb v (List.mem_cons_self ..)
   obtain ⟨k1, k2⟩ := sumStep_bd h1 h2 g1 g2
   exact sum_bd b _ (fun w hw => hb w (List.mem_cons_of_mem _ hw)) k1 k2
theorem Fz37_eq (lf : Nat) (b : List Int) (hl : b.length + 100 ≤ 140737488355328) (hb : ∀ v ∈ b, 0 ≤ v ∧ v < 256) : Fz37 lf b = some (List.append b (S.sum4 b), ()) := by
 obtain ⟨h1, h2⟩ := sum_bd b 1 hb (by omega) (by omega)
 have r1 : Nat.ble (Nat.mul (Nat.add 0 b.length) 1) 140737488355328 = true := room1 (by omega)
 have r2 : Nat.ble (Nat.mul (Nat.add b.length 4) 1) 140737488355328 = true := room1 (by omega)
 simp only [Fz37, Rz37_in, r1, r2, cond_true]
 have hs : S.sum4 b = S.sum4I (b.foldl S.sumStep 1) := rfl
 have hi : S.sumI b = b.foldl S.sumStep 1 := rfl
 rw [hs, hi]
 generalize b.foldl S.sumStep 1 = s at h1 h2
 have t1 : Int.tdiv s (Int.ofNat 16777216) = s / 16777216 := Int.tdiv_eq_ediv_of_nonneg h1
 have t2 : Int.tdiv s (Int.ofNat 65536) = s / 65536 := Int.tdiv_eq_ediv_of_nonneg h1
 have t3 : Int.tdiv s (Int.ofNat 256) = s / 256 := Int.tdiv_eq_ediv_of_nonneg h1
 have f1 : Int.fdiv s (Int.ofNat 16777216) = s / 16777216 := Int.fdiv_eq_ediv_of_nonneg s (by show (0 : Int) ≤ 16777216; omega)
 have f2 : Int.fdiv s (Int.ofNat 65536) = s / 65536 := Int.fdiv_eq_ediv_of_nonneg s (by show (0 : Int) ≤ 65536; omega)
 have f3 : Int.fdiv s (Int.ofNat 256) = s / 256 := Int.fdiv_eq_ediv_of_nonneg s (by show (0 : Int) ≤ 256; omega)
 have m2 : Int.tmod (s / 65536) (Int.ofNat 256) = s / 65536 % 256 := Int.tmod_eq_emod_of_nonneg (by omega)
 have m3 : Int.tmod (s / 256) (Int.ofNat 256) = s / 256 % 256 := Int.tmod_eq_emod_of_nonneg (by omega)
 have m4 : Int.tmod s (Int.ofNat 256) = s % 256 := Int.tmod_eq_emod_of_nonneg h1
 rw [t1, t2, t3, w64 (n := s / 16777216) (by omega) (by omega), w64 (n := s / 65536) (by omega) (by omega), w64 (n := s / 256) (by omega) (by omega), m2, m3, m4]
 unfold S.sum4I
 rw [f1, f2, f3]
 simp only [w8]
 have q2 : s / 65536 % 256 % 256 = s / 65536 % 256 := by omega
 have q3 : s / 256 % 256 % 256 = s / 256 % 256 := by omega
 have q4 : s % 256 % 256 = s % 256 := by omega
 rw [q2, q3, q4]
theorem conz37 : Con Try.prog idz37 spz37 := mkz37 ⟨conz36, trivial⟩ fun x y hx h => ⟨LF, by
 obtain ⟨b, _⟩ := x
 have h : cond (Nat.ble (List.length (α := Int) b + 100) 140737488355328) (some (List.append (α := Int) b (S.sum4 b), ())) none = some y := h
 cases hk : Nat.ble (List.length (α := Int) b + 100) 140737488355328 with
 | false => rw [hk] at h; cases h
 | true =>
   rw [hk] at h
   refine (Fz37_eq LF b (Nat.le_of_ble_eq_true hk) fun v hv => ?_).trans h
   have h8 : IntKind.u8.wrap v = v := (hx.1 : _ ∧ _).2 v hv
   rw [w8] at h8; omega⟩
def nmz44 : Nat → Option Nm := fun k => cond (Nat.beq k 3) (some ⟨[1, 2, 3, 4], [(3, (.int .i64))], [], [], [], 0, 0, false⟩) (cond (Nat.beq k 8) (some ⟨[1, 2, 3, 5, 6], [(3, (.int .i64)), (5, (.int .i64))], [], [], [], 0, 0, false⟩) (cond (Nat.beq k 12) (some ⟨[1, 2, 3, 5, 7], [(3, (.int .i64)), (5, (.int .i64))], [], [], [], 0, 0, false⟩) (cond (Nat.beq k 16) (some ⟨[1, 2, 3, 5, 7, 8, 9], [(3, (.int .i64)), (5, (.int .i64))], [], [], [], 0, 0, false⟩) (cond (Nat.beq k 21) (some ⟨[1, 2, 3, 5, 10, 11], [(3, (.int .i64)), (5, (.int .i64))], [(10, 0, cNode)], [], [], 0, 0, false⟩) (cond (Nat.beq k 26) (some ⟨[1, 2, 3, 5, 10, 11, 12, 13, 14], [(3, (.int .i64)), (5, (.int .i64))], [(10, 0, cNode), (13, 1, cVal)], [], [], 0, 0, false⟩) (cond (Nat.beq k 31) (some ⟨[1, 2, 3, 10, 15], [(3, (.int .i64))], [(10, 0, cNode), (10, 1, cVal)], [], [], 0, 0, false⟩) (none)))))))
def stz44 : Nat → Bool := fun k => cond (Nat.beq k 3) true (cond (Nat.beq k 8) true (cond (Nat.beq k 12) true (cond (Nat.beq k 16) true (cond (Nat.beq k 21) true (cond (Nat.beq k 26) true (cond (Nat.beq k 31) true (false)))))))
def hdz44 := stz44
abbrev Rtz44 : Type := DR22Graphed × Unit
def smlz44 : List (Nat × Sm) := []
def hxlz44 : List (Nat × Hx) := []
def clz44 (R : Type) (lf : Nat) : ClK R := icallK Try.prog ttT.get ftT.get (nm1 67 nmz44) (smL smlz44) (hxL hxlz44) lf 20 R
abbrev idz44 : Nat := 67
def encz44_3 (x1 : DGraph) (p : Int × (List Int)) : NRes := (NRes.mk (.node none (.node (some (IV.ptr 0 0)) (.node (some (IV.arr 2)) .leaf .leaf) .leaf) (.node (some (IV.ptr 1 0)) (.node (some (IV.int .i64 p.1)) .leaf .leaf) .leaf)) (IS.mk (.node (some (IObj.row (List.cons (IV.lst cNode x1.1) (List.cons (IV.lst cVal x1.2) [])))) (.node (some (IObj.row (List.cons IV.nilsl (List.cons IV.nilsl (List.cons IV.nilsl (List.cons (IV.int .i64 (Int.ofNat 0)) [])))))) .leaf .leaf) (.node (some (IObj.arr (TC.int .i64) p.2)) .leaf .leaf)) 3) [] 0)
def encz44_8 (x1 : DGraph) (p : (List Int) × Int × (List Int)) : NRes := (NRes.mk (.node none (.node (some (IV.ptr 0 0)) (.node (some (IV.arr 2)) .leaf .leaf) (.node (some (IV.arr 3)) .leaf .leaf)) (.node (some (IV.ptr 1 0)) .leaf (.node (some (IV.int .i64 p.2.1)) .leaf .leaf))) (IS.mk (.node (some (IObj.row (List.cons (IV.lst cNode x1.1) (List.cons (IV.lst cVal x1.2) [])))) (.node (some (IObj.row (List.cons IV.nilsl (List.cons IV.nilsl (List.cons IV.nilsl (List.cons (IV.int .i64 (Int.ofNat 0)) [])))))) (.node (some (IObj.arr (TC.int .i64) p.2.2)) .leaf .leaf) .leaf) (.node (some (IObj.arr (TC.int .i64) p.1)) .leaf .leaf)) 4) [] 0)
def encz44_12 (x1 : DGraph) (p : (List Int) × (List Int) × Int) : NRes := (NRes.mk (.node none (.node (some (IV.ptr 0 0)) (.node (some (IV.arr 2)) (.node (some (IV.int .i64 p.2.2)) .leaf .leaf) .leaf) (.node (some (IV.arr 3)) .leaf .leaf)) (.node (some (IV.ptr 1 0)) .leaf .leaf)) (IS.mk (.node (some (IObj.row (List.cons (IV.lst cNode x1.1) (List.cons (IV.lst cVal x1.2) [])))) (.node (some (IObj.row (List.cons IV.nilsl (List.cons IV.nilsl (List.cons IV.nilsl (List.cons (IV.int .i64 (Int.ofNat 0)) [])))))) (.node (some (IObj.arr (TC.int .i64) p.2.1)) .leaf .leaf) .leaf) (.node (some (IObj.arr (TC.int .i64) p.1)) .leaf .leaf)) 4) [] 0)
def encz44_16 (x1 : DGraph) (p : (List Int) × (List Int) × (List DVal) × ByteArray × Int × Int) : NRes := (NRes.mk (.node none (.node (some (IV.ptr 0 0)) (.node (some (IV.arr 2)) (.node (some (IV.int .i64 p.2.2.2.2.2)) .leaf .leaf) .leaf) (.node (some (IV.arr 3)) (.node (some (IV.int .i64 p.2.2.2.2.1)) .leaf .leaf) .leaf)) (.node (some (IV.ptr 1 0)) (.node none (.node (some (IV.ptr 4 0)) .leaf .leaf) .leaf) .leaf)) (IS.mk (.node (some (IObj.row (List.cons (IV.lst cNode x1.1) (List.cons (IV.lst cVal x1.2) [])))) (.node (some (IObj.row (List.cons IV.nilsl (List.cons IV.nilsl (List.cons IV.nilsl (List.cons (IV.int .i64 (Int.ofNat 0)) [])))))) (.node (some (IObj.arr (TC.int .i64) p.2.1)) .leaf .leaf) .leaf) (.node (some (IObj.arr (TC.int .i64) p.1)) (.node (some (IObj.row (List.cons (IV.str p.2.2.2.1) (List.cons (IV.lst cVal p.2.2.1) [])))) .leaf .leaf) .leaf)) 5) [] 0)
def encz44_21 (x1 : DGraph) (p : (List Int) × (List Int) × Int × (List DNode)) : NRes := (NRes.mk (.node none (.node (some (IV.ptr 0 0)) (.node (some (IV.arr 2)) .leaf (.node (some (IV.int .i64 p.2.2.1)) .leaf .leaf)) (.node (some (IV.arr 3)) .leaf .leaf)) (.node (some (IV.ptr 1 0)) .leaf (.node none (.node (some (IV.ptr 4 0)) .leaf .leaf) .leaf))) (IS.mk (.node (some (IObj.row (List.cons (IV.lst cNode x1.1) (List.cons (IV.lst cVal x1.2) [])))) (.node (some (IObj.row (List.cons IV.nilsl (List.cons IV.nilsl (List.cons IV.nilsl (List.cons (IV.int .i64 (Int.ofNat 0)) [])))))) (.node (some (IObj.arr (TC.int .i64) p.2.1)) .leaf .leaf) (.node (some (IObj.arr cNode p.2.2.2)) .leaf .leaf)) (.node (some (IObj.arr (TC.int .i64) p.1)) (.node (some (IObj.row (List.cons (IV.arr 5) (List.cons IV.nilsl (List.cons (IV.arr 2) (List.cons (IV.int .i64 (Int.ofNat 0)) [])))))) .leaf .leaf) .leaf)) 6) [] 0)
def encz44_26 (x1 : DGraph) (p : (List Int) × (List Int) × ByteArray × (List DVal) × Int × (List DVal) × Int × (List DNode)) : NRes := (NRes.mk (.node none (.node (some (IV.ptr 0 0)) (.node (some (IV.arr 2)) .leaf (.node (some (IV.int .i64 p.2.2.2.2.2.2.1)) .leaf .leaf)) (.node (some (IV.arr 3)) .leaf (.node (some (IV.ptr 6 0)) .leaf .leaf))) (.node (some (IV.ptr 1 0)) (.node none .leaf (.node (some (IV.ptr 5 0)) .leaf .leaf)) (.node none (.node (some (IV.ptr 4 0)) .leaf .leaf) (.node (some (IV.int .i64 p.2.2.2.2.1)) .leaf .leaf)))) (IS.mk (.node (some (IObj.row (List.cons (IV.lst cNode x1.1) (List.cons (IV.lst cVal x1.2) [])))) (.node (some (IObj.row (List.cons IV.nilsl (List.cons IV.nilsl (List.cons IV.nilsl (List.cons (IV.int .i64 (Int.ofNat 0)) [])))))) (.node (some (IObj.arr (TC.int .i64) p.2.1)) (.node (some (IObj.arr cNode p.2.2.2.2.2.2.2)) .leaf .leaf) .leaf) (.node (some (IObj.row (List.cons (IV.str p.2.2.1) (List.cons (IV.lst cVal p.2.2.2.1) [])))) .leaf .leaf)) (.node (some (IObj.arr (TC.int .i64) p.1)) (.node (some (IObj.row (List.cons (IV.arr 7) (List.cons IV.nilsl (List.cons (IV.arr 2) (List.cons (IV.int .i64 (Int.ofNat 0)) [])))))) (.node (some (IObj.arr cVal p.2.2.2.2.2.1)) .leaf .leaf) .leaf) (.node (some (IObj.row (List.cons (IV.str p.2.2.1) (List.cons (IV.arr 8) [])))) .leaf .leaf))) 9) [] 0)
def encz44_31 (x1 : DGraph) (p : (List Int) × (List DNode) × Int × (List DVal)) : NRes := (NRes.mk (.node none (.node (some (IV.ptr 0 0)) (.node (some (IV.arr 2)) (.node none (.node (some (IV.int .i64 p.2.2.1)) .leaf .leaf) .leaf) .leaf) .leaf) (.node (some (IV.ptr 1 0)) .leaf (.node none (.node (some (IV.ptr 3 0)) .leaf .leaf) .leaf))) (IS.mk (.node (some (IObj.row (List.cons (IV.lst cNode x1.1) (List.cons (IV.lst cVal x1.2) [])))) (.node (some (IObj.row (List.cons IV.nilsl (List.cons IV.nilsl (List.cons IV.nilsl (List.cons (IV.int .i64 (Int.ofNat 0)) [])))))) (.node (some (IObj.row (List.cons (IV.arr 4) (List.cons (IV.arr 5) (List.cons (IV.arr 2) (List.cons (IV.int .i64 (Int.ofNat 0)) [])))))) .leaf .leaf) (.node (some (IObj.arr cVal p.2.2.2)) .leaf .leaf)) (.node (some (IObj.arr (TC.int .i64) p.1)) (.node (some (IObj.arr cNode p.2.1)) .leaf .leaf) .leaf)) 6) [] 0)
def Rz44_in (lf : Nat) (x1 : DGraph) (L3 : (Int × (List Int)) → Option Rtz44) : Option Rtz44 := (cond (iltI (Int.ofNat (List.length x1.1)) (Int.ofNat 0)) none (cond (Nat.ble (Nat.mul (Int.toNat (Int.ofNat (List.length x1.1))) 8) 140737488355328) (L3 ((Int.ofNat 0), (S.rep (Int.ofNat (List.length x1.1)) (Int.ofNat 0)))) none))
def Rz44_3 (lf : Nat) (x1 : DGraph) (L3 : (Int × (List Int)) → Option Rtz44) (L8 : ((List Int) × Int × (List Int)) → Option Rtz44) (p : Int × (List Int)) : Option Rtz44 := (cond (iltI p.1 (Int.ofNat (List.length p.2))) (match (jget p.2 p.1) with | .none  => none | .some v0 => (match (GetElem?.getElem? p.2 (Int.toNat p.1)) with | .none  => none | .some v1 => (L3 ((IntKind.i64.wrap (Int.add p.1 (Int.ofNat 1))), (List.set p.2 (Int.toNat p.1) (Int.negSucc 0)))))) (L8 (p.2, (Int.ofNat 0), [])))
def Rz44_8 (lf : Nat) (x1 : DGraph) (L8 : ((List Int) × Int × (List Int)) → Option Rtz44) (L12 : ((List Int) × (List Int) × Int) → Option Rtz44) (p : (List Int) × Int × (List Int)) : Option Rtz44 := (cond (iltI p.2.1 (Int.ofNat (List.length x1.2))) (match (jget x1.2 p.2.1) with | .none  => none | .some v0 => (cond (Bool.not (ieqI v0.1 (Int.ofNat 4))) (L8 (p.1, (IntKind.i64.wrap (Int.add p.2.1 (Int.ofNat 1))), p.2.2)) (match (jget p.1 v0.2) with | .none  => none | .some v24 => (match (GetElem?.getElem? p.1 (Int.toNat v0.2)) with | .none  => none | .some v25 => (cond (Bool.not (iltI v25 (Int.ofNat 0))) (L8 (p.1, (IntKind.i64.wrap (Int.add p.2.1 (Int.ofNat 1))), p.2.2)) (match (jget p.1 v0.2) with | .none  => none | .some v26 => (match (GetElem?.getElem? p.1 (Int.toNat v0.2)) with | .none  => none | .some v27 => (cond (Nat.ble (Nat.mul (Nat.add (List.length p.2.2) 1) 8) 140737488355328) (L8 ((List.set p.1 (Int.toNat v0.2) (Int.ofNat (List.length p.2.2))), (IntKind.i64.wrap (Int.add p.2.1 (Int.ofNat 1))), (List.append p.2.2 (List.cons v0.2 [])))) none)))))))) (L12 (p.1, p.2.2, (Int.ofNat 0))))
def Rz44_12 (lf : Nat) (x1 : DGraph) (L16 : ((List Int) × (List Int) × (List DVal) × ByteArray × Int × Int) → Option Rtz44) (L21 : ((List Int) × (List Int) × Int × (List DNode)) → Option Rtz44) (p : (List Int) × (List Int) × Int) : Option Rtz44 := (cond (iltI p.2.2 (Int.ofNat (List.length p.2.1))) (match (jget p.2.1 p.2.2) with | .none  => none | .some v0 => (match (GetElem?.getElem? p.2.1 (Int.toNat p.2.2)) with | .none  => none | .some v1 => (match (jget x1.1 v1) with | .none  => none | .some v2 => (L16 (p.1, p.2.1, v2.2, v2.1, (Int.ofNat 0), p.2.2))))) (L21 (p.1, p.2.1, (Int.ofNat 0), [])))
def Rz44_16 (lf : Nat) (x1 : DGraph) (L16 : ((List Int) × (List Int) × (List DVal) × ByteArray × Int × Int) → Option Rtz44) (L12 : ((List Int) × (List Int) × Int) → Option Rtz44) (p : (List Int) × (List Int) × (List DVal) × ByteArray × Int × Int) : Option Rtz44 := (cond (iltI p.2.2.2.2.1 (Int.ofNat (List.length p.2.2.1))) (match (jget p.2.2.1 p.2.2.2.2.1) with | .none  => none | .some v0 => (cond (Bool.not (ieqI v0.1 (Int.ofNat 4))) (L16 (p.1, p.2.1, p.2.2.1, p.2.2.2.1, (IntKind.i64.wrap (Int.add p.2.2.2.2.1 (Int.ofNat 1))), p.2.2.2.2.2)) (match (jget p.1 v0.2) with | .none  => none | .some v24 => (match (GetElem?.getElem? p.1 (Int.toNat v0.2)) with | .none  => none | .some v25 => (cond (Bool.not (iltI v25 (Int.ofNat 0))) (L16 (p.1, p.2.1, p.2.2.1, p.2.2.2.1, (IntKind.i64.wrap (Int.add p.2.2.2.2.1 (Int.ofNat 1))), p.2.2.2.2.2)) (match (jget p.1 v0.2) with | .none  => none | .some v26 => (match (GetElem?.getElem? p.1 (Int.toNat v0.2)) with | .none  => none | .some v27 => (cond (Nat.ble (Nat.mul (Nat.add (List.length p.2.1) 1) 8) 140737488355328) (L16 ((List.set p.1 (Int.toNat v0.2) (Int.ofNat (List.length p.2.1))), (List.append p.2.1 (List.cons v0.2 [])), p.2.2.1, p.2.2.2.1, (IntKind.i64.wrap (Int.add p.2.2.2.2.1 (Int.ofNat 1))), p.2.2.2.2.2)) none)))))))) (L12 (p.1, p.2.1, (IntKind.i64.wrap (Int.add p.2.2.2.2.2 (Int.ofNat 1))))))
def Rz44_21 (lf : Nat) (x1 : DGraph) (L26 : ((List Int) × (List Int) × ByteArray × (List DVal) × Int × (List DVal) × Int × (List DNode)) → Option Rtz44) (L31 : ((List Int) × (List DNode) × Int × (List DVal)) → Option Rtz44) (p : (List Int) × (List Int) × Int × (List DNode)) : Option Rtz44 := (cond (iltI p.2.2.1 (Int.ofNat (List.length p.2.1))) (match (jget p.2.1 p.2.2.1) with | .none  => none | .some v0 => (match (GetElem?.getElem? p.2.1 (Int.toNat p.2.2.1)) with | .none  => none | .some v1 => (match (jget x1.1 v1) with | .none  => none | .some v2 => (L26 (p.1, p.2.1, v2.1, v2.2, (Int.ofNat 0), [], p.2.2.1, p.2.2.2))))) (L31 (p.1, p.2.2.2, (Int.ofNat 0), [])))
def Rz44_26 (lf : Nat) (x1 : DGraph) (L26 : ((List Int) × (List Int) × ByteArray × (List DVal) × Int × (List DVal) × Int × (List DNode)) → Option Rtz44) (L21 : ((List Int) × (List Int) × Int × (List DNode)) → Option Rtz44) (p : (List Int) × (List Int) × ByteArray × (List DVal) × Int × (List DVal) × Int × (List DNode)) : Option Rtz44 := (cond (iltI p.2.2.2.2.1 (Int.ofNat (List.length p.2.2.2.1))) (match (jget p.2.2.2.1 p.2.2.2.2.1) with | .none  => none | .some v0 => (cond (ieqI v0.1 (Int.ofNat 4)) (match (jget p.1 v0.2) with | .none  => none | .some v1 => (match (GetElem?.getElem? p.1 (Int.toNat v0.2)) with | .none  => none | .some v2 => (cond (Nat.ble (Nat.mul (Nat.add (List.length p.2.2.2.2.2.1) 1) 16) 140737488355328) (L26 (p.1, p.2.1, p.2.2.1, p.2.2.2.1, (IntKind.i64.wrap (Int.add p.2.2.2.2.1 (Int.ofNat 1))), (List.append p.2.2.2.2.2.1 (List.cons (v0.1, v2) [])), p.2.2.2.2.2.2.1, p.2.2.2.2.2.2.2)) none))) (cond (Nat.ble (Nat.mul (Nat.add (List.length p.2.2.2.2.2.1) 1) 16) 140737488355328) (L26 (p.1, p.2.1, p.2.2.1, p.2.2.2.1, (IntKind.i64.wrap (Int.add p.2.2.2.2.1 (Int.ofNat 1))), (List.append p.2.2.2.2.2.1 (List.cons (v0.1, v0.2) [])), p.2.2.2.2.2.2.1, p.2.2.2.2.2.2.2)) none))) (cond (Nat.ble (Nat.mul (Nat.add (List.length p.2.2.2.2.2.2.2) 1) 40) 140737488355328) (L21 (p.1, p.2.1, (IntKind.i64.wrap (Int.add p.2.2.2.2.2.2.1 (Int.ofNat 1))), (List.append p.2.2.2.2.2.2.2 (List.cons (p.2.2.1, p.2.2.2.2.2.1) [])))) none))
def Rz44_31 (lf : Nat) (x1 : DGraph) (L31 : ((List Int) × (List DNode) × Int × (List DVal)) → Option Rtz44) (p : (List Int) × (List DNode) × Int × (List DVal)) : Option Rtz44 := (cond (iltI p.2.2.1 (Int.ofNat (List.length x1.2))) (match (jget x1.2 p.2.2.1) with | .none  => none | .some v0 => (cond (ieqI v0.1 (Int.ofNat 4)) (match (jget p.1 v0.2) with | .none  => none | .some v1 => (match (GetElem?.getElem? p.1 (Int.toNat v0.2)) with | .none  => none | .some v2 => (cond (Nat.ble (Nat.mul (Nat.add (List.length p.2.2.2) 1) 16) 140737488355328) (L31 (p.1, p.2.1, (IntKind.i64.wrap (Int.add p.2.2.1 (Int.ofNat 1))), (List.append p.2.2.2 (List.cons (v0.1, v2) [])))) none))) (cond (Nat.ble (Nat.mul (Nat.add (List.length p.2.2.2) 1) 16) 140737488355328) (L31 (p.1, p.2.1, (IntKind.i64.wrap (Int.add p.2.2.1 (Int.ofNat 1))), (List.append p.2.2.2 (List.cons (v0.1, v0.2) [])))) none))) (some (((p.2.1, p.2.2.2), (p.1, (Int.ofNat 0))), ())))
abbrev gz44 : Type := ElA [cGraph] → Option Rtz44
abbrev sz44 (g : gz44) : Sm := ⟨[cGraph], [(false, cR22Graphed)], g⟩
abbrev Ez44 (g : gz44) (J : JT Rtz44) (lf : Nat) (x1 : DGraph) := icodeT Try.prog ttT.get nmz44 fi67.nt (clz44 _ lf) lf stz44 J fi67.body [] (argGo (argV [cGraph] (x1, ())) 0 .leaf) S0 [] (lastK ttT.get fi67 (sz44 g))
abbrev Bz44 (g : gz44) (J : JT Rtz44) (lf k : Nat) (ms : List Nat) (q : NRes) := icodeFT Try.prog ttT.get nmz44 fi67.nt (clz44 _ lf) lf stz44 J k fi67.body [] ms q (lastK ttT.get fi67 (sz44 g))
theorem inz44 (g : gz44) (J : JT Rtz44) (lf : Nat) (x1 : DGraph) : Ez44 g J lf x1 = Rz44_in lf x1 (fun q => J 3 [lf] (encz44_3 x1 q)) := by kernel_rfl
theorem stz44_3 (g : gz44) (J : JT Rtz44) (lf : Nat) (x1 : DGraph) (m1 : Nat) (p : Int × (List Int)) : Bz44 g J lf 3 [m1] (encz44_3 x1 p) = Rz44_3 lf x1 (fun q => J 3 [m1] (encz44_3 x1 q)) (fun q => J 8 [lf] (encz44_8 x1 q)) p := by kernel_rfl
theorem stz44_8 (g : gz44) (J : JT Rtz44) (lf : Nat) (x1 : DGraph) (m1 : Nat) (p : (List Int) × Int × (List Int)) : Bz44 g J lf 8 [m1] (encz44_8 x1 p) = Rz44_8 lf x1 (fun q => J 8 [m1] (encz44_8 x1 q)) (fun q => J 12 [lf] (encz44_12 x1 q)) p := by kernel_rfl
theorem stz44_12 (g : gz44) (J : JT Rtz44) (lf : Nat) (x1 : DGraph) (m1 : Nat) (p : (List Int) × (List Int) × Int) : Bz44 g J lf 12 [m1] (encz44_12 x1 p) = Rz44_12 lf x1 (fun q => J 16 [m1, lf] (encz44_16 x1 q)) (fun q => J 21 [lf] (encz44_21 x1 q)) p := by kernel_rfl
theorem stz44_16 (g : gz44) (J : JT Rtz44) (lf : Nat) (x1 : DGraph) (m1 : Nat) (m2 : Nat) (p : (List Int) × (List Int) × (List DVal) × ByteArray × Int × Int) : Bz44 g J lf 16 [m1, m2] (encz44_16 x1 p) = Rz44_16 lf x1 (fun q => J 16 [m1, m2] (encz44_16 x1 q)) (fun q => J 12 [m1] (encz44_12 x1 q)) p := by kernel_rfl
theorem stz44_21 (g : gz44) (J : JT Rtz44) (lf : Nat) (x1 : DGraph) (m1 : Nat) (p : (List Int) × (List Int) × Int × (List DNode)) : Bz44 g J lf 21 [m1] (encz44_21 x1 p) = Rz44_21 lf x1 (fun q => J 26 [m1, lf] (encz44_26 x1 q)) (fun q => J 31 [lf] (encz44_31 x1 q)) p := by kernel_rfl
theorem stz44_26 (g : gz44) (J : JT Rtz44) (lf : Nat) (x1 : DGraph) (m1 : Nat) (m2 : Nat) (p : (List Int) × (List Int) × ByteArray × (List DVal) × Int × (List DVal) × Int × (List DNode)) : Bz44 g J lf 26 [m1, m2] (encz44_26 x1 p) = Rz44_26 lf x1 (fun q => J 26 [m1, m2] (encz44_26 x1 q)) (fun q => J 21 [m1] (encz44_21 x1 q)) p := by kernel_rfl
theorem stz44_31 (g : gz44) (J : JT Rtz44) (lf : Nat) (x1 : DGraph) (m1 : Nat) (p : (List Int) × (List DNode) × Int × (List DVal)) : Bz44 g J lf 31 [m1] (encz44_31 x1 p) = Rz44_31 lf x1 (fun q => J 31 [m1] (encz44_31 x1 q)) p := by kernel_rfl
theorem ndz44 : (regs fi67.body).Nodup := by decide +kernel
theorem okz44 : okC nmz44 stz44 hdz44 fi67.body none = true := by kernel_rfl
def Az44 (g : gz44) (lf : Nat) : JT Rtz44 := atN Try.prog ttT.get nmz44 fi67 (sz44 g) (clz44 _ lf) lf hdz44
def Gz44_16 (lf : Nat) (x1 : DGraph) (K12 : ((List Int) × (List Int) × Int) → Option Rtz44) : Nat → ((List Int) × (List Int) × (List DVal) × ByteArray × Int × Int) → Option Rtz44 := rounds fun K p => Rz44_16 lf x1 K K12 p
theorem atz44_16 (g : gz44) (lf : Nat) (x1 : DGraph) (m1 : Nat) : ∀ (n : Nat) (p : (List Int) × (List Int) × (List DVal) × ByteArray × Int × Int), Az44 g lf 16 [m1, n] (encz44_16 x1 p) = Gz44_16 lf x1 (fun q => Az44 g lf 12 [m1] (encz44_12 x1 q)) n p
 | 0, p => atz 16 [m1, 0] rfl _
 | n + 1, p => by
   have ih := atz44_16 g lf x1 m1 n
   refine (atN_eq (iKe 20 _) ndz44 okz44 16 [m1, n + 1] [m1, n] rfl _).trans ((stz44_16 g (Az44 g lf) lf x1 m1 n p).trans ?_)
   rw [(show (fun q => Az44 g lf 16 [m1, n] (encz44_16 x1 q)) = (fun q => Gz44_16 lf x1 (fun q => Az44 g lf 12 [m1] (encz44_12 x1 q)) n q) from funext ih)]
   rfl
def Gz44_26 (lf : Nat) (x1 : DGraph) (K21 : ((List Int) × (List Int) × Int × (List DNode)) → Option Rtz44) : Nat → ((List Int) × (List Int) × ByteArray × (List DVal) × Int × (List DVal) × Int × (List DNode)) → Option Rtz44 := rounds fun K p => Rz44_26 lf x1 K K21 p
theorem atz44_26 (g : gz44) (lf : Nat) (x1 : DGraph) (m1 : Nat) : ∀ (n : Nat) (p : (List Int) × (List Int) × ByteArray × (List DVal) × Int × (List DVal) × Int × (List DNode)), Az44 g lf 26 [m1, n] (encz44_26 x1 p) = Gz44_26 lf x1 (fun q => Az44 g lf 21 [m1] (encz44_21 x1 q)) n p
 | 0, p => atz 26 [m1, 0] rfl _
 | n + 1, p => by
   have ih := atz44_26 g lf x1 m1 n
   refine (atN_eq (iKe 20 _) ndz44 okz44 26 [m1, n + 1] [m1, n] rfl _).trans ((stz44_26 g (Az44 g lf) lf x1 m1 n p).trans ?_)
   rw [(show (fun q => Az44 g lf 26 [m1, n] (encz44_26 x1 q)) = (fun q => Gz44_26 lf x1 (fun q => Az44 g lf 21 [m1] (encz44_21 x1 q)) n q) from funext ih)]
   rfl
def Gz44_31 (lf : Nat) (x1 : DGraph) : Nat → ((List Int) × (List DNode) × Int × (List DVal)) → Option Rtz44 := rounds fun K p => Rz44_31 lf x1 K p
theorem atz44_31 (g : gz44) (lf : Nat) (x1 : DGraph) : ∀ (n : Nat) (p : (List Int) × (List DNode) × Int × (List DVal)), Az44 g lf 31 [n] (encz44_31 x1 p) = Gz44_31 lf x1 n p
 | 0, p => atz 31 [0] rfl _
 | n + 1, p => by
   have ih := atz44_31 g lf x1 n
   refine (atN_eq (iKe 20 _) ndz44 okz44 31 [n + 1] [n] rfl _).trans ((stz44_31 g (Az44 g lf) lf x1 n p).trans ?_)
   rw [(show (fun q => Az44 g lf 31 [n] (encz44_31 x1 q)) = (fun q => Gz44_31 lf x1 n q) from funext ih)]
   rfl
def Gz44_21 (lf : Nat) (x1 : DGraph) : Nat → ((List Int) × (List Int) × Int × (List DNode)) → Option Rtz44 := rounds fun K p => Rz44_21 lf x1 (fun q => Gz44_26 lf x1 K lf q) (fun q => Gz44_31 lf x1 lf q) p
theorem atz44_21 (g : gz44) (lf : Nat) (x1 : DGraph) : ∀ (n : Nat) (p : (List Int) × (List Int) × Int × (List DNode)), Az44 g lf 21 [n] (encz44_21 x1 p) = Gz44_21 lf x1 n p
 | 0, p => atz 21 [0] rfl _
 | n + 1, p => by
   have ih := atz44_21 g lf x1 n
   refine (atN_eq (iKe 20 _) ndz44 okz44 21 [n + 1] [n] rfl _).trans ((stz44_21 g (Az44 g lf) lf x1 n p).trans ?_)
   rw [(show (fun q => Az44 g lf 26 [n, lf] (encz44_26 x1 q)) = (fun q => Gz44_26 lf x1 (fun q => Az44 g lf 21 [n] (encz44_21 x1 q)) lf q) from funext fun q => atz44_26 g lf x1 n lf q), (show (fun q => Az44 g lf 31 [lf] (encz44_31 x1 q)) = (fun q => Gz44_31 lf x1 lf q) from funext fun q => atz44_31 g lf x1 lf q), (show (fun q => Az44 g lf 21 [n] (encz44_21 x1 q)) = (fun q => Gz44_21 lf x1 n q) from funext ih)]
   rfl
def Gz44_12 (lf : Nat) (x1 : DGraph) : Nat → ((List Int) × (List Int) × Int) → Option Rtz44 := rounds fun K p => Rz44_12 lf x1 (fun q => Gz44_16 lf x1 K lf q) (fun q => Gz44_21 lf x1 lf q) p
theorem atz44_12 (g : gz44) (lf : Nat) (x1 : DGraph) : ∀ (n : Nat) (p : (List Int) × (List Int) × Int), Az44 g lf 12 [n] (encz44_12 x1 p) = Gz44_12 lf x1 n p
 | 0, p => atz 12 [0] rfl _
 | n + 1, p => by
   have ih := atz44_12 g lf x1 n
   refine (atN_eq (iKe 20 _) ndz44 okz44 12 [n + 1] [n] rfl _).trans ((stz44_12 g (Az44 g lf) lf x1 n p).trans ?_)
   rw [(show (fun q => Az44 g lf 16 [n, lf] (encz44_16 x1 q)) = (fun q => Gz44_16 lf x1 (fun q => Az44 g lf 12 [n] (encz44_12 x1 q)) lf q) from funext fun q => atz44_16 g lf x1 n lf q), (show (fun q => Az44 g lf 21 [lf] (encz44_21 x1 q)) = (fun q => Gz44_21 lf x1 lf q) from funext fun q => atz44_21 g lf x1 lf q), (show (fun q => Az44 g lf 12 [n] (encz44_12 x1 q)) = (fun q => Gz44_12 lf x1 n q) from funext ih)]
   rfl
def Gz44_8 (lf : Nat) (x1 : DGraph) : Nat → ((List Int) × Int × (List Int)) → Option Rtz44 := rounds fun K p => Rz44_8 lf x1 K (fun q => Gz44_12 lf x1 lf q) p
theorem atz44_8 (g : gz44) (lf : Nat) (x1 : DGraph) : ∀ (n : Nat) (p : (List Int) × Int × (List Int)), Az44 g lf 8 [n] (encz44_8 x1 p) = Gz44_8 lf x1 n p
 | 0, p => atz 8 [0] rfl _
 | n + 1, p => by
   have ih := atz44_8 g lf x1 n
   refine (atN_eq (iKe 20 _) ndz44 okz44 8 [n + 1] [n] rfl _).trans ((stz44_8 g (Az44 g lf) lf x1 n p).trans ?_)
   rw [(show (fun q => Az44 g lf 12 [lf] (encz44_12 x1 q)) = (fun q => Gz44_12 lf x1 lf q) from funext fun q => atz44_12 g lf x1 lf q), (show (fun q => Az44 g lf 8 [n] (encz44_8 x1 q)) = (fun q => Gz44_8 lf x1 n q) from funext ih)]
   rfl
def Gz44_3 (lf : Nat) (x1 : DGraph) : Nat → (Int × (List Int)) → Option Rtz44 := rounds fun K p => Rz44_3 lf x1 K (fun q => Gz44_8 lf x1 lf q) p
theorem atz44_3 (g : gz44) (lf : Nat) (x1 : DGraph) : ∀ (n : Nat) (p : Int × (List Int)), Az44 g lf 3 [n] (encz44_3 x1 p) = Gz44_3 lf x1 n p
 | 0, p => atz 3 [0] rfl _
 | n + 1, p => by
   have ih := atz44_3 g lf x1 n
   refine (atN_eq (iKe 20 _) ndz44 okz44 3 [n + 1] [n] rfl _).trans ((stz44_3 g (Az44 g lf) lf x1 n p).trans ?_)
   rw [(show (fun q => Az44 g lf 8 [lf] (encz44_8 x1 q)) = (fun q => Gz44_8 lf x1 lf q) from funext fun q => atz44_8 g lf x1 lf q), (show (fun q => Az44 g lf 3 [n] (encz44_3 x1 q)) = (fun q => Gz44_3 lf x1 n q) from funext ih)]
   rfl
def Fz44 (lf : Nat) (x1 : DGraph) : Option Rtz44 := Rz44_in lf x1 (fun q => Gz44_3 lf x1 lf q)
theorem runz44 (g : gz44) (lf : Nat) (x1 : DGraph) : Ez44 g (Az44 g lf) lf x1 = Fz44 lf x1 := by
   refine (inz44 g (Az44 g lf) lf x1).trans ?_
   rw [(show (fun q => Az44 g lf 3 [lf] (encz44_3 x1 q)) = (fun q => Gz44_3 lf x1 lf q) from funext fun q => atz44_3 g lf x1 lf q)]
   rfl
theorem hxsz44 : HxsOK Try.prog hxlz44 := trivial
theorem mkz44 {g : gz44} (hsm : SmOK Try.prog smlz44) (hg : ∀ (x : ElA [cGraph]) (y : Rtz44), WfA [cGraph] x → g x = some y → ∃ lf, Fz44 lf x.1 = some y) : Con Try.prog 67 ⟨[cGraph], [(false, cR22Graphed)], g⟩ :=
 conT (nmf := nmz44) (sml := smlz44) (hxl := hxlz44) (st := stz44) (hd := hdz44) 20 mixed ttOK ftOK hsm hxsz44 cal67 rfl rfl (by kernel_rfl) (fun x => by kernel_rfl) ndz44 okz44 fun x y hx hy => by
   obtain ⟨lf, h⟩ := hg x y hx hy
   exact ⟨lf, (runz44 g lf x.1).trans h⟩
def S.atL (n : Nat) (o : List Int) : List Int := (List.range n).map fun k => S.numOr (S.tab o) (Int.ofNat k)
theorem atL_len (n : Nat) (o : List Int) : (S.atL n o).length = n := by simp [S.atL]
theorem numOr_tab (o : List Int) (k : Int) : S.numOr (S.tab o) k = if k ∈ o then Int.ofNat (o.idxOf k) else -1 := by
 unfold S.numOr; rw [numAt_tab]; split <;> rfl
theorem atL_get? {n : Nat} {o : List Int} {k : Int} (h1 : 0 ≤ k) (h2 : k < Int.ofNat n) : (S.atL n o)[k.toNat]? = some (S.numOr (S.tab o) k) := by
 have hk : k.toNat < n := by have : (n : Int) = Int.ofNat n := rfl; omega
 have e : Int.ofNat k.toNat = k := Int.toNat_of_nonneg h1
 unfold S.atL
 rw [List.getElem?_map, List.getElem?_range hk]
 simp only [Option.map_some, e]
theorem atL_jget {n : Nat} {o : List Int} {k : Int} (h1 : 0 ≤ k) (h2 : k < Int.ofNat n) : jget (S.atL n o) k = some (S.numOr (S.tab o) k) := by
 obtain ⟨x, e1, e2, _⟩ := jget_of (l := S.atL n o) h1 (by rw [atL_len]; exact h2)
 rw [e1, ← e2, atL_get? h1 h2]
theorem atL_neg {o : List Int} {k : Int} : iltI (S.numOr (S.tab o) k) (Int.ofNat 0) = decide (k ∉ o) := by
 rw [iltI_eq, numOr_tab]
 by_cases h : k ∈ o
 · rw [if_pos h]
   have : ¬ (Int.ofNat (o.idxOf k) < Int.ofNat 0) := by
     have : (0 : Int) ≤ Int.ofNat (o.idxOf k) := Int.natCast_nonneg _
     show ¬ (_ < (0 : Int)); omega
   rw [decide_eq_false this, decide_eq_false (Decidable.not_not.2 h)]
 · rw [if_neg h]
   rw [decide_eq_true h]; rfl
theorem atL_set {n : Nat} {o : List Int} {k : Int} (h1 : 0 ≤ k) (h2 : k < Int.ofNat n) (hk : k ∉ o) : (S.atL n o).set k.toNat (Int.ofNat o.length) = S.atL n (o ++ [k]) := by
 have hkn : k.toNat < n := by have : (n : Int) = Int.ofNat n := rfl; omega
 have e : Int.ofNat k.toNat = k := Int.toNat_of_nonneg h1
 refine List.ext_getElem? fun j => ?_
 rw [List.getElem?_set]
 by_cases hj : k.toNat = j
 · subst hj
   rw [if_pos rfl, if_pos (by rw [atL_len]; exact hkn)]
   rw [atL_get? h1 h2, numOr_tab, if_pos (by simp), List.idxOf_append, if_neg hk]
   simp
 · rw [if_neg hj]
   by_cases hjn : j < n
   · have g1 : (0 : Int) ≤ Int.ofNat j := Int.natCast_nonneg _
     have g2 : Int.ofNat j < Int.ofNat n := by show (j : Int) < (n : Int); omega
     have a1 := atL_get? (o := o) g1 g2
     have a2 := atL_get? (o := o ++ [k]) g1 g2
     have e2 : (Int.ofNat j).toNat = j := rfl
     rw [e2] at a1 a2
     rw [a1, a2, numOr_tab, numOr_tab]
     have hne : Int.ofNat j ≠ k := fun h => hj (by rw [← h]; rfl)
     by_cases hm : Int.ofNat j ∈ o
     · rw [if_pos hm, if_pos (List.mem_append_left _ hm), List.idxOf_append, if_pos hm]
     · rw [if_neg hm, if_neg (fun h => by
         rcases List.mem_append.1 h with h | h
         · exact hm h
         · exact hne (List.mem_singleton.1 h))]
   · rw [List.getElem?_eq_none (by rw [atL_len]; omega), List.getElem?_eq_none (by rw [atL_len]; omega)]
theorem atL_nil (n : Nat) : S.atL n [] = List.replicate n (-1) := by
 refine List.ext_getElem? fun j => ?_
 by_cases hj : j < n
 · have a1 := atL_get? (n := n) (o := []) (k := Int.ofNat j) (Int.natCast_nonneg _) (by show (j : Int) < (n : Int); omega)
   have e2 : (Int.ofNat j).toNat = j := rfl
   rw [e2] at a1
   rw [a1, List.getElem?_replicate_of_lt hj, numOr_tab, if_neg (by simp)]
 · rw [List.getElem?_eq_none (by rw [atL_len]; omega), List.getElem?_eq_none (by simp; omega)]
theorem wrap_i {i : Nat} (h : i + 1 < LF) : IntKind.i64.wrap (Int.add (Int.ofNat i) (Int.ofNat 1)) = Int.ofNat (i + 1) := wrap_succ (by omega)
section
variable {g : List DNode × List DVal}
theorem rc_loop3 (L8 : ((List Int) × Int × (List Int)) → Option Rtz44) : ∀ (k i f : Nat), k < f → i + k + 1 < LF → rounds (fun K p => Rz44_3 LF g K L8 p) f (Int.ofNat i, List.replicate i (-1) ++ List.replicate k 0) = L8 (List.replicate (i + k) (-1), Int.ofNat 0, [])
 | 0, i, f + 1, hf, hl => by
   show Rz44_3 LF g _ L8 _ = _
   have e : (List.replicate i (-1 : Int) ++ List.replicate 0 0) = List.replicate i (-1) := by simp
   simp only [Rz44_3, e, List.length_replicate, ils, cond_false, Nat.add_zero]
 | k + 1, i, f + 1, hf, hl => by
   have ih := rc_loop3 L8 k (i + 1) f (by omega) (by omega)
   show Rz44_3 LF g (rounds (fun K p => Rz44_3 LF g K L8 p) f) L8 _ = _
   generalize rounds (fun K p => Rz44_3 LF g K L8 p) f = Z at ih ⊢
   have hlen : (List.replicate i (-1 : Int) ++ List.replicate (k + 1) 0).length = i + (k + 1) := by simp
   have h1 : iltI (Int.ofNat i) (Int.ofNat (List.length (List.replicate i (-1 : Int) ++ List.replicate (k + 1) 0))) = true := by rw [hlen, iltI_eq]; exact decide_eq_true (by show (i : Int) < ((i + (k + 1) : Nat) : Int); omega)
   have h2 : (List.replicate i (-1 : Int) ++ List.replicate (k + 1) 0)[i]? = some 0 := by rw [List.getElem?_append_right (by simp)]; simp
   have h3 : jget (List.replicate i (-1 : Int) ++ List.replicate (k + 1) 0) (Int.ofNat i) = some 0 := by rw [jget_nat, h2]
   have e1 : Int.toNat (Int.ofNat i) = i := rfl
   have h4 : (List.replicate i (-1 : Int) ++ List.replicate (k + 1) 0).set i (Int.negSucc 0) = List.replicate (i + 1) (-1) ++ List.replicate k 0 := by
     rw [List.set_append_right _ _ (by simp), List.length_replicate, Nat.sub_self, List.replicate_succ, List.set_cons_zero, List.replicate_succ', List.append_assoc]; rfl
   simp only [Rz44_3, h1, cond_true, h3, e1, h2, h4, wrap_i (show i + 1 < LF by omega)]
   rw [ih, show i + 1 + k = i + (k + 1) by omega]
 | k, i, 0, hf, hl => by omega
theorem room8 {m : Nat} (h : m ≤ 100000) : Nat.ble (Nat.mul (Nat.add m 1) 8) 140737488355328 = true := Nat.ble_eq_true_of_le (by show (m + 1) * 8 ≤ _; omega)
theorem rc_loop8 (hg : GF g) (L12 : ((List Int) × (List Int) × Int) → Option Rtz44) (o : List Int) (ho : OrdOK g.1 o) :
   rounds (fun K p => Rz44_8 LF g K L12 p) LF (S.atL g.1.length o, Int.ofNat 0, o) = L12 (S.atL g.1.length (S.meetL o (S.refsL g.2)), S.meetL o (S.refsL g.2), Int.ofNat 0) := by
 have hr60 := hg.roots
 have hn4 := hg.nodes
 refine range0 (α := DVal) (σ := List Int × List Int) (R := Rtz44) g.2 (fun i s => (s.1, i, s.2)) (fun i s => s.1 = S.atL g.1.length s.2 ∧ OrdOK g.1 s.2)
   (fun rest i s => L12 (S.atL g.1.length (S.meetL s.2 (S.refsL rest)), S.meetL s.2 (S.refsL rest), Int.ofNat 0)) (by unfold LF; omega) (fun K s hI => ?_) (fun K i v rest s hI r hk => ?_) (S.atL g.1.length o, o) ⟨rfl, ho⟩
 · simp only [Rz44_8, ils, cond_false, S.refsL, S.meetL]
   rw [hI.1]
 · obtain ⟨s1, s2⟩ := s
   obtain ⟨hI1, hI2⟩ := hI
   dsimp only at hI1 hI2
   subst hI1
   have hlen : s2.length ≤ g.1.length := hI2.len
   have hn4 : g.1.length ≤ 400 := hn4
   simp only [Rz44_8, r.ilt, cond_true, r.get, r.next]
   by_cases h4 : (v : Int × Int).1 = 4
   · have h5 : ieqI (v : Int × Int).1 (Int.ofNat 4) = true := by rw [ieqI_eq]; exact decide_eq_true h4
     obtain ⟨b1, b2⟩ := hg.rref (v : Int × Int).2 (refsL_mem r.mem h4)
     have e : S.refsL (v :: rest) = (v : Int × Int).2 :: S.refsL rest := by simp only [S.refsL, if_pos h4]
     simp only [h5, Bool.not_true, cond_false, atL_jget b1 b2, atL_get? b1 b2, atL_neg]
     by_cases hm : (v : Int × Int).2 ∈ s2
     · rw [decide_eq_false (Decidable.not_not.2 hm)]
       simp only [Bool.not_false, cond_true]
       have := hk (S.atL g.1.length s2, s2) ⟨rfl, hI2⟩
       rw [this, e]
       simp only [S.meetL, if_pos hm]
     · rw [decide_eq_true hm]
       simp only [Bool.not_true, cond_false, room8 (show s2.length ≤ 100000 by omega), cond_true, atL_set b1 b2 hm]
       have := hk (S.atL g.1.length (s2 ++ [(v : Int × Int).2]), s2 ++ [(v : Int × Int).2]) ⟨rfl, by
         have := hI2.meet (l := [(v : Int × Int).2]) (fun k hk => by rw [List.mem_singleton.1 hk]; exact ⟨b1, b2⟩)
         simpa only [S.meetL, if_neg hm] using this⟩
       refine Eq.trans this ?_
       rw [e]
       simp only [S.meetL, if_neg hm]
   · have h5 : ieqI (v : Int × Int).1 (Int.ofNat 4) = false := by rw [ieqI_eq]; exact decide_eq_false h4
     have e : S.refsL (v :: rest) = S.refsL rest := by simp only [S.refsL, if_neg h4]
     simp only [h5, Bool.not_false, cond_true]
     have := hk (S.atL g.1.length s2, s2) ⟨rfl, hI2⟩
     rw [this, e]
theorem rc_loop16 (hg : GF g) (K12 : ((List Int) × (List Int) × Int) → Option Rtz44) (vs : List (Int × Int)) (hv : vs.length ≤ 400) (hvr : ∀ k ∈ S.refsL vs, 0 ≤ k ∧ k < Int.ofNat g.1.length) (c : ByteArray) (i0 : Int) (o : List Int) (ho : OrdOK g.1 o) :
   rounds (fun K p => Rz44_16 LF g K K12 p) LF (S.atL g.1.length o, o, vs, c, Int.ofNat 0, i0) = K12 (S.atL g.1.length (S.meetL o (S.refsL vs)), S.meetL o (S.refsL vs), IntKind.i64.wrap (Int.add i0 (Int.ofNat 1))) := by
 have hn4 := hg.nodes
 refine range0 (α := Int × Int) (σ := List Int × List Int) (R := Rtz44) vs (fun k s => (s.1, s.2, vs, c, k, i0)) (fun i s => s.1 = S.atL g.1.length s.2 ∧ OrdOK g.1 s.2)
   (fun rest i s => K12 (S.atL g.1.length (S.meetL s.2 (S.refsL rest)), S.meetL s.2 (S.refsL rest), IntKind.i64.wrap (Int.add i0 (Int.ofNat 1)))) (by unfold LF; omega) (fun K s hI => ?_) (fun K i v rest s hI r hk => ?_) (S.atL g.1.length o, o) ⟨rfl, ho⟩
 · simp only [Rz44_16, ils, cond_false, S.refsL, S.meetL]
   rw [hI.1]
 · obtain ⟨s1, s2⟩ := s
   obtain ⟨hI1, hI2⟩ := hI
   dsimp only at hI1 hI2
   subst hI1
   have hlen : s2.length ≤ g.1.length := hI2.len
   have hn4 : g.1.length ≤ 400 := hn4
   have h1 := r.ilt
   have h2 := r.get
   simp only [Rz44_16, h1, cond_true, h2, r.next]
   by_cases h4 : v.1 = 4
   · have h5 : ieqI v.1 (Int.ofNat 4) = true := by rw [ieqI_eq]; exact decide_eq_true h4
     obtain ⟨b1, b2⟩ := hvr v.2 (refsL_mem r.mem h4)
     have e : S.refsL (v :: rest) = v.2 :: S.refsL rest := by simp only [S.refsL, if_pos h4]
     simp only [h5, Bool.not_true, cond_false, atL_jget b1 b2, atL_get? b1 b2, atL_neg]
     by_cases hm : v.2 ∈ s2
     · rw [decide_eq_false (Decidable.not_not.2 hm)]
       simp only [Bool.not_false, cond_true]
       have := hk (S.atL g.1.length s2, s2) ⟨rfl, hI2⟩
       rw [this, e]
       simp only [S.meetL, if_pos hm]
     · rw [decide_eq_true hm]
       simp only [Bool.not_true, cond_false, room8 (show s2.length ≤ 100000 by omega), cond_true, atL_set b1 b2 hm]
       have := hk (S.atL g.1.length (s2 ++ [v.2]), s2 ++ [v.2]) ⟨rfl, by
         have := hI2.meet (l := [v.2]) (fun k hk => by rw [List.mem_singleton.1 hk]; exact ⟨b1, b2⟩)
         simpa only [S.meetL, if_neg hm] using this⟩
       refine Eq.trans this ?_
       rw [e]
       simp only [S.meetL, if_neg hm]
   · have h5 : ieqI v.1 (Int.ofNat 4) = false := by rw [ieqI_eq]; exact decide_eq_false h4
     have e : S.refsL (v :: rest) = S.refsL rest := by simp only [S.refsL, if_neg h4]
     simp only [h5, Bool.not_false, cond_true]
     have := hk (S.atL g.1.length s2, s2) ⟨rfl, hI2⟩
     rw [this, e]
theorem rc_loop12 (hg : GF g) (L21 : ((List Int) × (List Int) × Int × (List DNode)) → Option Rtz44) : ∀ (f n i : Nat) (o : List Int), OrdOK g.1 o → i ≤ o.length →
   g.1.length - i < f → g.1.length - i < n →
   rounds (fun K p => Rz44_12 LF g (fun q => Gz44_16 LF g K LF q) L21 p) n (S.atL g.1.length o, o, Int.ofNat i) = L21 (S.atL g.1.length (S.walk g.1 f o i), S.walk g.1 f o i, Int.ofNat 0, [])
 | 0, n, i, o, ho, hi, hf, hn => by omega
 | f + 1, 0, i, o, ho, hi, hf, hn => by omega
 | f + 1, n + 1, i, o, ho, hi, hf, hn => by
   have hlen := ho.len
   have hn4 : g.1.length ≤ 400 := hg.nodes
   have ih := rc_loop12 hg L21 f n
   show Rz44_12 LF g (fun q => Gz44_16 LF g (rounds (fun K p => Rz44_12 LF g (fun q => Gz44_16 LF g K LF q) L21 p) n) LF q) L21 _ = _
   generalize rounds (fun K p => Rz44_12 LF g (fun q => Gz44_16 LF g K LF q) L21 p) n = Z at ih ⊢
   by_cases he : i = o.length
   · have h1 : iltI (Int.ofNat i) (Int.ofNat (List.length o)) = false := by rw [he]; exact ils _
     have h2 : o[i]? = none := List.getElem?_eq_none (by omega)
     simp only [Rz44_12, h1, cond_false, S.walk, h2]
   · have hlt : i < o.length := by omega
     have h1 : iltI (Int.ofNat i) (Int.ofNat (List.length o)) = true := by rw [iltI_eq]; exact decide_eq_true (by show (i : Int) < (o.length : Int); omega)
     have h2 : o[i]? = some o[i] := List.getElem?_eq_getElem hlt
     have h3 : jget o (Int.ofNat i) = some o[i] := by rw [jget_nat]; exact h2
     obtain ⟨k1, k2⟩ := ho.lt o[i] (List.getElem_mem hlt)
     obtain ⟨v, v1, v2, v3⟩ := jget_of (l := g.1) k1 k2
     have e1 : Int.toNat (Int.ofNat i) = i := rfl
     have hr := hg.ref v v3
     have hv : List.length (α := Int × Int) (v : ByteArray × List DVal).2 ≤ 30 := hg.vals v v3
     have hin := rc_loop16 hg Z (v : ByteArray × List DVal).2 (by omega) hr (v : ByteArray × List DVal).1 (Int.ofNat i) o ho
     have hnext := ih (i + 1) (S.meetL o (S.refsL (v : ByteArray × List DVal).2)) (ho.meet hr) (by have := meetL_len (S.refsL (v : ByteArray × List DVal).2) o; omega) (by omega) (by omega)
     simp only [Rz44_12, h1, cond_true, h3, e1, h2, v1, S.walk]
     refine Eq.trans hin ?_
     rw [wrap_i (show i + 1 < LF by unfold LF; omega)]
     exact hnext
end
section
variable {g : List DNode × List DVal}
theorem room16 {m : Nat} (h : m ≤ 100000) : Nat.ble (Nat.mul (Nat.add m 1) 16) 140737488355328 = true := Nat.ble_eq_true_of_le (by show (m + 1) * 16 ≤ _; omega)
theorem room40 {m : Nat} (h : m ≤ 100000) : Nat.ble (Nat.mul (Nat.add m 1) 40) 140737488355328 = true := Nat.ble_eq_true_of_le (by show (m + 1) * 40 ≤ _; omega)
theorem movedV_at {o : List Int} {v : Int × Int} (h4 : v.1 = 4) (hm : v.2 ∈ o) : S.movedV (S.tab o) v = (v.1, S.numOr (S.tab o) v.2) := by
 have h : (v : Int × Int).1 = 4 := h4
 unfold S.movedV; rw [if_pos h, numOr_tab, numAt_tab, if_pos hm, if_pos hm]; rfl
theorem movedV_no {o : List Int} {v : Int × Int} (h4 : v.1 ≠ 4) : S.movedV (S.tab o) v = (v.1, v.2) := by
 unfold S.movedV; rw [if_neg h4]
theorem rc_loop26 (K21 : ((List Int) × (List Int) × Int × (List DNode)) → Option Rtz44) (n : Nat) (o : List Int) (ho : ∀ k ∈ o, 0 ≤ k ∧ k < Int.ofNat n) (c : ByteArray) (vs : List (Int × Int)) (hv : vs.length ≤ 400) (hvr : ∀ k ∈ S.refsL vs, k ∈ o) (i0 : Int) (acc : List DNode) (ha : acc.length ≤ 1000) :
   rounds (fun K p => Rz44_26 LF g K K21 p) LF (S.atL n o, o, c, vs, Int.ofNat 0, [], i0, acc) = K21 (S.atL n o, o, IntKind.i64.wrap (Int.add i0 (Int.ofNat 1)), acc ++ [((c, S.movedL (S.tab o) vs) : ByteArray × List DVal)]) := by
 refine (range0 (α := Int × Int) (σ := List DVal) (R := Rtz44) vs (fun k s => (S.atL n o, o, c, vs, k, s, i0, acc)) (fun i s => s.length = i)
   (fun rest i s => K21 (S.atL n o, o, IntKind.i64.wrap (Int.add i0 (Int.ofNat 1)), acc ++ [((c, s ++ S.movedL (S.tab o) rest) : ByteArray × List DVal)])) (by unfold LF; omega) (fun K s hI => ?_) (fun K i v rest s hI r hk => ?_) [] rfl).trans ?_
 · simp only [Rz44_26, ils, cond_false, room40 (show acc.length ≤ 100000 by omega), cond_true]
   have : s ++ S.movedL (S.tab o) [] = s := by simp [S.movedL]
   rw [this]; rfl
 · have h1 := r.ilt
   have h2 := r.get
   have hlt := r.lt
   simp only [Rz44_26, h1, cond_true, h2, r.next, room16 (show s.length ≤ 100000 by omega)]
   have hstep : S.movedL (S.tab o) (v :: rest) = S.movedV (S.tab o) v :: S.movedL (S.tab o) rest := rfl
   by_cases h4 : v.1 = 4
   · have h5 : ieqI v.1 (Int.ofNat 4) = true := by rw [ieqI_eq]; exact decide_eq_true h4
     have hm := hvr v.2 (refsL_mem r.mem h4)
     obtain ⟨b1, b2⟩ := ho v.2 hm
     simp only [h5, cond_true, atL_jget b1 b2, atL_get? b1 b2]
     have := hk (s.append [(v.1, S.numOr (S.tab o) v.2)]) (by simp [hI])
     refine Eq.trans this ?_
     rw [hstep, movedV_at h4 hm]
     simp [List.append_assoc]
   · have h5 : ieqI v.1 (Int.ofNat 4) = false := by rw [ieqI_eq]; exact decide_eq_false h4
     simp only [h5, cond_false]
     have := hk (s.append [(v.1, v.2)]) (by simp [hI])
     refine Eq.trans this ?_
     rw [hstep, movedV_no h4]
     simp [List.append_assoc]
 · simp
theorem rc_loop21 (hg : GF g) (L31 : ((List Int) × (List DNode) × Int × (List DVal)) → Option Rtz44) (o : List Int) (ho : OrdOK g.1 o) (hc : Closed g.1 o) :
   rounds (fun K p => Rz44_21 LF g (fun q => Gz44_26 LF g K LF q) L31 p) LF (S.atL g.1.length o, o, Int.ofNat 0, []) = L31 (S.atL g.1.length o, o.map (S.newNode g.1 (S.tab o)), Int.ofNat 0, []) := by
 have hn4 : g.1.length ≤ 400 := hg.nodes
 have hlen := ho.len
 refine (range0 (R := Rtz44) (σ := List DNode) o (fun k s => (S.atL g.1.length o, o, k, s)) (fun k s => s.length = k) (fun rest k s => L31 (S.atL g.1.length o, s ++ rest.map (S.newNode g.1 (S.tab o)), Int.ofNat 0, [])) (by unfold LF; omega) (fun K s hI => ?_) (fun K i v rest s hI r hk => ?_) [] rfl).trans ?_
 · simp only [Rz44_21, ils, cond_false, List.map_nil, List.append_nil]
 · obtain ⟨k1, k2⟩ := ho.lt v r.mem
   obtain ⟨n, n1, n2, n3⟩ := jget_of (l := g.1) k1 k2
   have e1 : Int.toNat (Int.ofNat i) = i := rfl
   have hlt := r.lt
   have hna : S.nodeAt g.1 v = n := by unfold S.nodeAt; rw [n1]; rfl
   have hv : List.length (α := DVal) (n : ByteArray × List DVal).2 ≤ 30 := hg.vals n n3
   have hcl := hc v r.mem
   rw [hna] at hcl
   have hin := rc_loop26 (g := g) K g.1.length o ho.lt (n : ByteArray × List DVal).1 (n : ByteArray × List DVal).2 (by show List.length (α := DVal) (n : ByteArray × List DVal).2 ≤ 400; omega) hcl (Int.ofNat i) s (by omega)
   simp only [Rz44_21, r.ilt, cond_true, r.get, e1, r.get?, n1]
   refine Eq.trans hin ?_
   rw [r.next]
   have hnew : S.newNode g.1 (S.tab o) v = (((n : ByteArray × List DVal).1, S.movedL (S.tab o) (n : ByteArray × List DVal).2) : ByteArray × List DVal) := by
     unfold S.newNode; rw [hna]
   have := hk (s ++ [S.newNode g.1 (S.tab o) v]) (by rw [List.length_append, hI]; rfl)
   rw [hnew] at this
   refine Eq.trans this ?_
   rw [List.map_cons, hnew]
   congr 2
   simp
 · rfl
theorem rc_loop31 (hg : GF g) (n : Nat) (o : List Int) (ho : ∀ k ∈ o, 0 ≤ k ∧ k < Int.ofNat n) (hc : ∀ k ∈ S.refsL g.2, k ∈ o) (acc : List DNode) :
   rounds (fun K p => Rz44_31 LF g K p) LF (S.atL n o, acc, Int.ofNat 0, []) = some (((acc, S.movedL (S.tab o) g.2), (S.atL n o, Int.ofNat 0)), ()) := by
 have hr60 : g.2.length ≤ 60 := hg.roots
 refine (range0 (α := Int × Int) (σ := List DVal) (R := Rtz44) g.2 (fun k s => (S.atL n o, acc, k, s)) (fun i s => s.length = i)
   (fun rest i s => some (((acc, s ++ S.movedL (S.tab o) rest), (S.atL n o, Int.ofNat 0)), ())) (by unfold LF; omega) (fun K s hI => ?_) (fun K i v rest s hI r hk => ?_) [] rfl).trans ?_
 · simp only [Rz44_31, ils, cond_false]
   have : s ++ S.movedL (S.tab o) [] = s := by simp [S.movedL]
   rw [this]
 · have h1 := r.ilt
   have h2 := r.get
   have hlt := r.lt
   simp only [Rz44_31, h1, cond_true, h2, r.next, room16 (show s.length ≤ 100000 by omega)]
   have hstep : S.movedL (S.tab o) (v :: rest) = S.movedV (S.tab o) v :: S.movedL (S.tab o) rest := rfl
   by_cases h4 : v.1 = 4
   · have h5 : ieqI v.1 (Int.ofNat 4) = true := by rw [ieqI_eq]; exact decide_eq_true h4
     have hm := hc v.2 (refsL_mem r.mem h4)
     obtain ⟨b1, b2⟩ := ho v.2 hm
     simp only [h5, cond_true, atL_jget b1 b2, atL_get? b1 b2]
     have := hk (s.append [(v.1, S.numOr (S.tab o) v.2)]) (by simp [hI])
     refine Eq.trans this ?_
     rw [hstep, movedV_at h4 hm]
     simp [List.append_assoc]
   · have h5 : ieqI v.1 (Int.ofNat 4) = false := by rw [ieqI_eq]; exact decide_eq_false h4
     simp only [h5, cond_false]
     have := hk (s.append [(v.1, v.2)]) (by simp [hI])
     refine Eq.trans this ?_
     rw [hstep, movedV_no h4]
     simp [List.append_assoc]
 · simp
theorem Fz44_eq (hf : S.formed g = 0) : Fz44 LF g = some ((S.canonG g, (S.numsG g, Int.ofNat 0)), ()) := by
 have hg := gf_of hf
 obtain ⟨c1, c2, c3⟩ := ord_closed hg
 have hn4 : g.1.length ≤ 400 := hg.nodes
 have h0 : iltI (Int.ofNat g.1.length) (Int.ofNat 0) = false := by rw [iltI_eq]; exact decide_eq_false (by show ¬ ((g.1.length : Int) < 0); omega)
 have hb : Nat.ble (Nat.mul (Int.toNat (Int.ofNat g.1.length)) 8) 140737488355328 = true := Nat.ble_eq_true_of_le (by show g.1.length * 8 ≤ _; omega)
 have hrep : S.rep (Int.ofNat g.1.length) (Int.ofNat 0) = List.replicate g.1.length 0 := rfl
 have e3 := rc_loop3 (g := g) (fun q => Gz44_8 LF g LF q) g.1.length 0 LF (by unfold LF; omega) (by unfold LF; omega)
 have e8 := rc_loop8 hg (fun q => Gz44_12 LF g LF q) [] ⟨List.nodup_nil, fun k hk => by cases hk⟩
 have ho0 : OrdOK g.1 (S.meetL [] (S.refsL g.2)) := OrdOK.meet ⟨List.nodup_nil, fun k hk => by cases hk⟩ hg.rref
 have e12 := rc_loop12 hg (fun q => Gz44_21 LF g LF q) (g.1.length + 1) LF 0 _ ho0 (Nat.zero_le _) (by omega) (by unfold LF; omega)
 have e21 := rc_loop21 hg (fun q => Gz44_31 LF g LF q) (S.ord g) c1 c2
 have e31 := rc_loop31 hg g.1.length (S.ord g) c1.lt c3 ((S.ord g).map (S.newNode g.1 (S.tab (S.ord g))))
 have e : (List.replicate 0 (-1 : Int) ++ List.replicate g.1.length 0) = List.replicate g.1.length 0 := rfl
 rw [e, Nat.zero_add, ← atL_nil] at e3
 simp only [Fz44, Rz44_in, h0, cond_false, hb, cond_true, hrep]
 exact e3.trans (e8.trans (e12.trans (e21.trans e31)))
end
theorem conz44 : Con Try.prog idz44 spz44 := mkz44 trivial fun x y hx h => ⟨LF, by
 obtain ⟨g, _⟩ := x
 have h : cond (ieqI (S.formed g) (Int.ofNat 0)) (some ((S.canonG g, S.numsG g, Int.ofNat 0), ())) none = some y := h
 by_cases hf : S.formed g = 0
 · rw [show ieqI (S.formed g) (Int.ofNat 0) = true by rw [ieqI_eq]; exact decide_eq_true hf] at h
   exact (Fz44_eq (g := g) hf).trans h
 · rw [show ieqI (S.formed g) (Int.ofNat 0) = false by rw [ieqI_eq]; exact decide_eq_false hf] at h
   cases h⟩
structure EncG (l : List DForm) (G : List DNode × List DVal) : Prop where
 l24 : l.length ≤ 24
 n4 : G.1.length ≤ 400
 r6 : G.2.length ≤ 60
 vs : ∀ n ∈ G.1, List.length (α := Int × Int) (n : ByteArray × List (Int × Int)).2 ≤ 30
 ok : ∀ n ∈ G.1, ∀ v ∈ (n : ByteArray × List (Int × Int)).2, S.numOK (S.code v) = true
 rok : ∀ v ∈ G.2, S.numOK (S.code (v : Int × Int)) = true
theorem idx_rng {α : Type} (p : α → Bool) (l : List α) : -1 ≤ S.idx p l ∧ S.idx p l < Int.ofNat l.length + 1 := by
 unfold S.idx
 cases h : l.findIdx? p with
 | none => exact ⟨by simp, by show (-1 : Int) < (l.length : Int) + 1; omega⟩
 | some j =>
   have hj : j < l.length := (List.findIdx?_eq_some_iff_getElem.1 h).1
   exact ⟨by show (-1 : Int) ≤ (j : Int); omega, by show (j : Int) < (l.length : Int) + 1; omega⟩
theorem numOK_of {n : Int} (h1 : -2000000000000 ≤ n) (h2 : n ≤ 2000000000000) : S.numOK n = true := by unfold S.numOK; rw [decide_eq_true h1, decide_eq_true h2]; rfl
theorem numOK_form {l : List DForm} (hl : l.length ≤ 24) (n : ByteArray) : S.numOK (S.form l n) = true := by
 obtain ⟨h1, h2⟩ := idx_rng (fun f : DForm => keqS f.1 n) l
 have h2 : S.form l n < (l.length : Int) + 1 := h2
 exact numOK_of (by show _ ≤ S.form l n; have : -1 ≤ S.form l n := h1; omega) (by omega)
theorem numOK_len {n : Nat} (h : n ≤ 400) : S.numOK (Int.ofNat n) = true := numOK_of (by show _ ≤ (n : Int); omega) (by show (n : Int) ≤ _; omega)
theorem numOK_val {m : Nat} (hm : m ≤ 400) {v : Int × Int} (h : S.value v (Int.ofNat m) = true) : S.numOK (S.code v) = true := by
 have h := (value_iff hm v).1 h
 unfold S.code
 by_cases h3 : v.1 = 3
 · rw [if_pos h3]; exact numOK_of (by omega) (by omega)
 · rw [if_neg h3]
   by_cases h4 : v.1 = 4
   · rw [if_pos h4]
     have : 0 ≤ v.2 ∧ v.2 < 400 := by
       rcases h with ⟨a, _⟩ | ⟨a, _⟩ | ⟨a, _⟩ | ⟨a, b, c⟩
       · have a : v.1 = 1 := a; omega
       · have a : v.1 = 2 := a; omega
       · have a : v.1 = 3 := a; omega
       · have b : 0 ≤ v.2 := b
         have c : v.2 < (m : Int) := c
         omega
     rw [w64 (n := v.2 + 1) (by omega) (by omega)]; exact numOK_of (by omega) (by omega)
   · rw [if_neg h4]
     rcases h with ⟨a, b, c⟩ | ⟨a, b, c⟩ | ⟨a, b⟩ | ⟨a, b, c⟩
     · have b : -1099511627776 ≤ v.2 := b
       have c : v.2 ≤ 1099511627776 := c
       exact numOK_of (by omega) (by omega)
     · have b : 0 ≤ v.2 := b
       have c : v.2 ≤ 1 := c
       exact numOK_of (by omega) (by omega)
     · exact absurd a h3
     · exact absurd a h4
theorem encG_of {l : List DForm} {g : DGraph} (h : S.checkG l g = 0) : S.formed g = 0 ∧ EncG l (S.canonG g) := by
 unfold S.checkG at h
 by_cases hc : S.checkForms l = 0
 · rw [if_neg (by simpa using hc)] at h
   have hf := ((graphOK_iff l g).1 h).formed
   have hF := formsOK hc
   obtain ⟨f1, f2, f3, f4, f5⟩ := formed_zero (canon_formed2 (x := g) hf)
   exact ⟨hf, hF.len, f1, f2, f3, fun n hn v hv => numOK_val f1 (f4 n hn v hv), fun v hv => numOK_val f1 (f5 v hv).1⟩
 · rw [if_pos hc] at h; exact absurd h hc
theorem codes_cons (v : Int × Int) (l : List (Int × Int)) : S.codes (v :: l) = S.num (S.code v) ++ S.codes l := rfl
theorem codes_len : ∀ l : List (Int × Int), (S.codes l).length ≤ 11 * l.length
 | [] => Nat.le_refl _
 | v :: l => by
   have := codes_len l
   have := num_len (S.code v)
   rw [codes_cons, List.length_append, List.length_cons]; omega
section
variable {l : List DForm} {x2 : DGraph} {G : List DNode × List DVal}
theorem pe_loop13 (K9 : ((List Int) × (List DNode) × (List DVal) × Int) → Option Rtz39) (vs : List (Int × Int)) (hv : vs.length ≤ 400) (hok : ∀ v ∈ vs, S.numOK (S.code v) = true) (nd : List DNode) (rs : List DVal) (i0 : Int) (out : List Int) (ho : out.length ≤ 1000000) :
   rounds (fun K p => Rz39_13 LF l x2 K K9 p) LF (nd, rs, vs, out, Int.ofNat 0, i0) = K9 (out ++ S.codes vs, nd, rs, IntKind.i64.wrap (Int.add i0 (Int.ofNat 1))) := by
 refine range0 (α := Int × Int) (σ := List Int) (R := Rtz39) vs (fun k s => (nd, rs, vs, s, k, i0)) (fun i s => s.length ≤ 1000000 + 11 * i)
   (fun rest i s => K9 (s ++ S.codes rest, nd, rs, IntKind.i64.wrap (Int.add i0 (Int.ofNat 1)))) (by unfold LF; omega) (fun K s hI => ?_) (fun K i v rest s hI r hk => ?_) out (by omega)
 · simp only [Rz39_13, ils, cond_false]
   rw [show S.codes [] = [] from rfl, List.append_nil]
 · have h1 := r.ilt
   have h2 := r.get
   have hlt := r.lt
   have hn := num_len (S.code v)
   have hb : Nat.ble (Nat.mul (Nat.add s.length (List.length (S.num (S.code v)))) 1) 140737488355328 = true := room1 (by omega)
   have hc : S.numOK (S.code (v.1, v.2)) = true := hok v r.mem
   have hb2 : Nat.ble (Nat.mul (Nat.add s.length (List.length (S.num (S.code (v.1, v.2))))) 1) 140737488355328 = true := hb
   simp only [Rz39_13, h1, cond_true, h2, hc, hb2, r.next]
   have := hk (s.append (S.num (S.code v))) (by show (s ++ _).length ≤ _; rw [List.length_append]; omega)
   refine Eq.trans this ?_
   rw [codes_cons, ← List.append_assoc]; rfl
theorem pe_loop20 (hg : EncG l G) (out : List Int) (ho : out.length ≤ 1000000) :
   rounds (fun K p => Rz39_20 LF l x2 K p) LF (G.2, out, Int.ofNat 0) =
     (if 60000 < (out ++ S.codes G.2).length + 4 then some ([], (Int.ofNat 3, ())) else some ((out ++ S.codes G.2) ++ S.sum4 (out ++ S.codes G.2), (Int.ofNat 0, ()))) := by
 have hr6 := hg.r6
 refine range0 (α := Int × Int) (σ := List Int) (R := Rtz39) G.2 (fun k s => (G.2, s, k)) (fun i s => s.length ≤ 1000000 + 11 * i)
   (fun rest i s => if 60000 < (s ++ S.codes rest).length + 4 then some ([], (Int.ofNat 3, ())) else some ((s ++ S.codes rest) ++ S.sum4 (s ++ S.codes rest), (Int.ofNat 0, ()))) (by unfold LF; omega) (fun K s hI => ?_) (fun K i v rest s hI r hk => ?_) out (by omega)
 · have e4 : (S.sum4 s).length = 4 := rfl
   have hb : Nat.ble (Nat.mul (Nat.add s.length (List.length (S.sum4 s))) 1) 140737488355328 = true := room1 (by rw [e4]; omega)
   have hl : (List.append s (S.sum4 s)).length = s.length + 4 := by show (s ++ _).length = _; rw [List.length_append, e4]
   have e : s ++ S.codes [] = s := by rw [show S.codes [] = [] from rfl, List.append_nil]
   simp only [Rz39_20, ils, cond_false, hb, cond_true, e, hl]
   by_cases h6 : 60000 < s.length + 4
   · rw [show iltI (Int.ofNat 60000) (Int.ofNat (s.length + 4)) = true by rw [iltI_eq]; exact decide_eq_true (by show (60000 : Int) < ((s.length + 4 : Nat) : Int); omega), cond_true, if_pos h6]
   · rw [show iltI (Int.ofNat 60000) (Int.ofNat (s.length + 4)) = false by rw [iltI_eq]; exact decide_eq_false (by show ¬ (60000 : Int) < ((s.length + 4 : Nat) : Int); omega), cond_false, if_neg h6]; rfl
 · have h1 := r.ilt
   have h2 := r.get
   have hlt := r.lt
   have hn := num_len (S.code v)
   have hc : S.numOK (S.code (v.1, v.2)) = true := hg.rok v r.mem
   have hb2 : Nat.ble (Nat.mul (Nat.add s.length (List.length (S.num (S.code (v.1, v.2))))) 1) 140737488355328 = true := room1 (by show s.length + (S.num (S.code v)).length ≤ _; omega)
   simp only [Rz39_20, h1, cond_true, h2, hc, hb2, r.next]
   have := hk (s.append (S.num (S.code v))) (by show (s ++ _).length ≤ _; rw [List.length_append]; omega)
   refine Eq.trans this ?_
   have e : List.append s (S.num (S.code v)) ++ S.codes rest = s ++ S.codes (v :: rest) := by rw [codes_cons, ← List.append_assoc]; rfl
   rw [e]
theorem pe_loop9 (hg : EncG l G) (L20 : ((List DVal) × (List Int) × Int) → Option Rtz39) (out : List Int) (ho : out.length ≤ 100) :
   rounds (fun K p => Rz39_9 LF l x2 (fun q => Gz39_13 LF l x2 K LF q) L20 p) LF (out, G.1, G.2, Int.ofNat 0) = L20 (G.2, out ++ (G.1.flatMap (S.encN l) ++ S.num (Int.ofNat G.2.length)), Int.ofNat 0) := by
 have hn4 := hg.n4
 refine range0 (α := ByteArray × List (Int × Int)) (σ := List Int) (R := Rtz39) G.1 (fun k s => (s, G.1, G.2, k)) (fun i s => s.length ≤ 100 + 400 * i)
   (fun rest i s => L20 (G.2, s ++ (rest.flatMap (S.encN l) ++ S.num (Int.ofNat G.2.length)), Int.ofNat 0)) (by unfold LF; omega) (fun K s hI => ?_) (fun K i v rest s hI r hk => ?_) out (by omega)
 · have hn := num_len (Int.ofNat G.2.length)
   have hr6 := hg.r6
   have hc := numOK_len (n := G.2.length) (by omega)
   have hb : Nat.ble (Nat.mul (Nat.add s.length (List.length (S.num (Int.ofNat G.2.length)))) 1) 140737488355328 = true := room1 (by omega)
   simp only [Rz39_9, ils, cond_false, hc, cond_true, hb, List.flatMap_nil, List.nil_append]
   rfl
 · have h1 := r.ilt
   have h2 := r.get
   have hlt := r.lt
   have hn := num_len (S.form l v.1)
   have hv := hg.vs v r.mem
   have hc := numOK_form hg.l24 v.1
   have hb : Nat.ble (Nat.mul (Nat.add s.length (List.length (S.num (S.form l v.1)))) 1) 140737488355328 = true := room1 (by omega)
   have hin := pe_loop13 (l := l) (x2 := x2) K v.2 (by omega) (hg.ok v r.mem) G.1 G.2 (Int.ofNat i) (s ++ S.num (S.form l v.1)) (by rw [List.length_append]; omega)
   have hcl := codes_len v.2
   simp only [Rz39_9, h1, cond_true, h2, hc, hb]
   refine Eq.trans hin ?_
   rw [r.next]
   have := hk ((s ++ S.num (S.form l v.1)) ++ S.codes v.2) (by rw [List.length_append, List.length_append]; omega)
   refine Eq.trans this ?_
   have e : (s ++ S.num (S.form l v.1)) ++ S.codes v.2 ++ (rest.flatMap (S.encN l) ++ S.num (Int.ofNat G.2.length)) = s ++ ((v :: rest).flatMap (S.encN l) ++ S.num (Int.ofNat G.2.length)) := by
     rw [List.flatMap_cons]; simp only [S.encN, List.append_assoc]
   rw [e]
end
theorem flat_len {l : List DForm} : ∀ (ns : List DNode), (∀ n ∈ ns, List.length (α := Int × Int) (n : ByteArray × List (Int × Int)).2 ≤ 30) → (ns.flatMap (S.encN l)).length ≤ 400 * ns.length
 | [], _ => by simp
 | n :: ns, h => by
   have := flat_len (l := l) ns fun m hm => h m (List.mem_cons_of_mem _ hm)
   have h30 : List.length (α := Int × Int) (n : ByteArray × List (Int × Int)).2 ≤ 30 := h n (List.mem_cons_self ..)
   have h1 := num_len (S.form l (n : ByteArray × List (Int × Int)).1)
   have h2 := codes_len (n : ByteArray × List (Int × Int)).2
   rw [List.flatMap_cons, List.length_append]
   simp only [S.encN, List.length_append, List.length_cons]
   omega
theorem Fz39_eq (l : List DForm) (g : DGraph) : Fz39 LF l g = some ((S.encB l g).1, (S.encB l g).2, ()) := by
 have eta : ((g : List DNode × List DVal).1, (g : List DNode × List DVal).2) = g := rfl
 by_cases h : S.checkG l g = 0
 · obtain ⟨hf, hE⟩ := encG_of h
   obtain ⟨hc, _⟩ := canon_ok (gf_of hf)
   have hn4 := hE.n4
   have hr6 := hE.r6
   have k1 : ieqI (S.checkG l g) (Int.ofNat 0) = true := by rw [ieqI_eq]; exact decide_eq_true h
   have hk := numOK_len (n := (S.canonG g : List DNode × List DVal).1.length) hn4
   have hnl := num_len (Int.ofNat (S.canonG g : List DNode × List DVal).1.length)
   have hb : Nat.ble (Nat.mul (Nat.add 0 (List.length (S.num (Int.ofNat (S.canonG g : List DNode × List DVal).1.length)))) 1) 140737488355328 = true := room1 (by omega)
   have hfl := flat_len (l := l) (S.canonG g : List DNode × List DVal).1 hE.vs
   have e9 := pe_loop9 (x2 := g) hE (fun q => Gz39_20 LF l g LF q) (S.num (Int.ofNat (S.canonG g : List DNode × List DVal).1.length)) (by omega)
   have hnr := num_len (Int.ofNat (S.canonG g : List DNode × List DVal).2.length)
   have e20 := pe_loop20 (x2 := g) hE (S.num (Int.ofNat (S.canonG g : List DNode × List DVal).1.length) ++ ((S.canonG g : List DNode × List DVal).1.flatMap (S.encN l) ++ S.num (Int.ofNat (S.canonG g : List DNode × List DVal).2.length))) (by rw [List.length_append, List.length_append]; omega)
   have ee : S.num (Int.ofNat (S.canonG g : List DNode × List DVal).1.length) ++ ((S.canonG g : List DNode × List DVal).1.flatMap (S.encN l) ++ S.num (Int.ofNat (S.canonG g : List DNode × List DVal).2.length)) ++ S.codes (S.canonG g : List DNode × List DVal).2 = S.enc l (S.canonG g) := by
     unfold S.enc; simp only [List.append_assoc]
   rw [ee] at e20
   simp only [Fz39, Rz39_in, eta, k1, Bool.not_true, cond_false, hc, hk, cond_true, hb]
   refine (e9.trans e20).trans ?_
   unfold S.encB
   rw [if_pos h]
   by_cases h6 : 60000 < (S.enc l (S.canonG g)).length + 4
   · rw [if_pos h6, if_pos h6]; rfl
   · rw [if_neg h6, if_neg h6]; rfl
 · have k1 : ieqI (S.checkG l g) (Int.ofNat 0) = false := by rw [ieqI_eq]; exact decide_eq_false h
   simp only [Fz39, Rz39_in, eta, k1, Bool.not_false, cond_true]
   unfold S.encB
   rw [if_neg h]
theorem conz39 : Con Try.prog idz39 spz39 := mkz39 ⟨conz16, conz34, conz3, conz40, conz41, trivial⟩ conz42 fun x y hx h => ⟨LF, (Fz39_eq x.1 x.2.1).trans h⟩
section
variable {l : List DForm} {x2 : DGraph} {G : List DNode × List DVal}
theorem roomN {m : Nat} (h : m ≤ 100000000) : Nat.ble (Nat.add m 100) 140737488355328 = true := Nat.ble_eq_true_of_le (by show m + 100 ≤ _; omega)
theorem re_loop11 (K7 : ((List Int) × (List DNode) × (List DVal) × Int) → Option Rtz38) (nd : List DNode) (rs : List DVal) (i : Nat) (n : ByteArray × List (Int × Int)) (hi : nd[i]? = some n) (hv : n.2.length ≤ 400) (hok : ∀ v ∈ n.2, S.numOK (S.code v) = true) (out : List Int) (ho : out.length ≤ 1000000) :
   rounds (fun K p => Rz38_11 LF l x2 K K7 p) LF (rs, nd, out, Int.ofNat 0, Int.ofNat i) = K7 (out ++ S.codes n.2, nd, rs, IntKind.i64.wrap (Int.add (Int.ofNat i) (Int.ofNat 1))) := by
 have hj : jget nd (Int.ofNat i) = some n := by rw [jget_nat]; exact hi
 refine range0 (α := Int × Int) (σ := List Int) (R := Rtz38) n.2 (fun k s => (rs, nd, s, k, Int.ofNat i)) (fun k s => s.length ≤ 1000000 + 11 * k)
   (fun rest k s => K7 (s ++ S.codes rest, nd, rs, IntKind.i64.wrap (Int.add (Int.ofNat i) (Int.ofNat 1)))) (by unfold LF; omega) (fun K s hI => ?_) (fun K k v rest s hI r hk => ?_) out (by omega)
 · simp only [Rz38_11, hj, ils, cond_false]
   rw [show S.codes [] = [] from rfl, List.append_nil]
 · have h1 := r.ilt
   have h2 := r.get
   have hlt := r.lt
   have hn := num_len (S.code v)
   have hb := roomN (m := s.length) (by omega)
   have hc : S.numOK (S.code v) = true := hok v r.mem
   have hnext := hk (s.append (S.num (S.code v))) (by show (s ++ _).length ≤ _; rw [List.length_append]; omega)
   have e : List.append s (S.num (S.code v)) ++ S.codes rest = s ++ S.codes (v :: rest) := by rw [codes_cons, ← List.append_assoc]; rfl
   rw [e] at hnext
   simp only [Rz38_11, hj, h1, cond_true, h2, r.next, hb, Bool.and_true]
   unfold S.code at hc hnext
   by_cases h3 : v.1 = 3
   · rw [if_pos h3] at hc hnext
     rw [show ieqI v.1 (Int.ofNat 3) = true by rw [ieqI_eq]; exact decide_eq_true h3]
     have hc : S.numOK (Int.ofNat 0) = true := hc
     simp only [cond_true, hc]
     exact hnext
   · rw [if_neg h3] at hc hnext
     rw [show ieqI v.1 (Int.ofNat 3) = false by rw [ieqI_eq]; exact decide_eq_false h3]
     by_cases h4 : v.1 = 4
     · rw [if_pos h4] at hc hnext
       rw [show ieqI v.1 (Int.ofNat 4) = true by rw [ieqI_eq]; exact decide_eq_true h4]
       have hc : S.numOK (IntKind.i64.wrap (Int.add v.2 (Int.ofNat 1))) = true := hc
       simp only [cond_false, cond_true, hc]
       exact hnext
     · rw [if_neg h4] at hc hnext
       rw [show ieqI v.1 (Int.ofNat 4) = false by rw [ieqI_eq]; exact decide_eq_false h4]
       simp only [cond_false, cond_true, hc]
       exact hnext
theorem re_loop16 (hg : EncG l G) (out : List Int) (ho : out.length ≤ 1000000) :
   rounds (fun K p => Rz38_16 LF l x2 K p) LF (G.2, G.1, out, Int.ofNat 0) =
     (if 60000 < (out ++ S.codes G.2).length + 4 then some (([], Int.ofNat 3), ()) else some (((out ++ S.codes G.2) ++ S.sum4 (out ++ S.codes G.2), Int.ofNat 0), ())) := by
 have hr6 := hg.r6
 refine range0 (α := Int × Int) (σ := List Int) (R := Rtz38) G.2 (fun k s => (G.2, G.1, s, k)) (fun i s => s.length ≤ 1000000 + 11 * i)
   (fun rest i s => if 60000 < (s ++ S.codes rest).length + 4 then some (([], Int.ofNat 3), ()) else some (((s ++ S.codes rest) ++ S.sum4 (s ++ S.codes rest), Int.ofNat 0), ())) (by unfold LF; omega) (fun K s hI => ?_) (fun K i v rest s hI r hk => ?_) out (by omega)
 · have hb := roomN (m := s.length) (by omega)
   have e : s ++ S.codes [] = s := by rw [show S.codes [] = [] from rfl, List.append_nil]
   have hw : IntKind.i64.wrap (Int.ofNat (Nat.add s.length 4)) = Int.ofNat (s.length + 4) := w64 (by show _ ≤ ((s.length + 4 : Nat) : Int); omega) (by show ((s.length + 4 : Nat) : Int) ≤ _; omega)
   simp only [Rz38_16, ils, cond_false, hb, cond_true, e, hw]
   by_cases h6 : 60000 < s.length + 4
   · rw [show iltI (Int.ofNat 60000) (Int.ofNat (s.length + 4)) = true by rw [iltI_eq]; exact decide_eq_true (by show (60000 : Int) < ((s.length + 4 : Nat) : Int); omega), cond_true, if_pos h6]
   · rw [show iltI (Int.ofNat 60000) (Int.ofNat (s.length + 4)) = false by rw [iltI_eq]; exact decide_eq_false (by show ¬ (60000 : Int) < ((s.length + 4 : Nat) : Int); omega), cond_false, if_neg h6]; rfl
 · have h1 := r.ilt
   have h2 := r.get
   have hlt := r.lt
   have hn := num_len (S.code v)
   have hb := roomN (m := s.length) (by omega)
   have hc : S.numOK (S.code v) = true := hg.rok v r.mem
   have hnext := hk (s.append (S.num (S.code v))) (by show (s ++ _).length ≤ _; rw [List.length_append]; omega)
   have e : List.append s (S.num (S.code v)) ++ S.codes rest = s ++ S.codes (v :: rest) := by rw [codes_cons, ← List.append_assoc]; rfl
   rw [e] at hnext
   simp only [Rz38_16, h1, cond_true, h2, r.next, hb, Bool.and_true]
   unfold S.code at hc hnext
   by_cases h3 : v.1 = 3
   · rw [if_pos h3] at hc hnext
     rw [show ieqI v.1 (Int.ofNat 3) = true by rw [ieqI_eq]; exact decide_eq_true h3]
     have hc : S.numOK (Int.ofNat 0) = true := hc
     simp only [cond_true, hc]
     exact hnext
   · rw [if_neg h3] at hc hnext
     rw [show ieqI v.1 (Int.ofNat 3) = false by rw [ieqI_eq]; exact decide_eq_false h3]
     by_cases h4 : v.1 = 4
     · rw [if_pos h4] at hc hnext
       rw [show ieqI v.1 (Int.ofNat 4) = true by rw [ieqI_eq]; exact decide_eq_true h4]
       have hc : S.numOK (IntKind.i64.wrap (Int.add v.2 (Int.ofNat 1))) = true := hc
       simp only [cond_false, cond_true, hc]
       exact hnext
     · rw [if_neg h4] at hc hnext
       rw [show ieqI v.1 (Int.ofNat 4) = false by rw [ieqI_eq]; exact decide_eq_false h4]
       simp only [cond_false, cond_true, hc]
       exact hnext
theorem re_loop7 (hg : EncG l G) (L16 : ((List DVal) × (List DNode) × (List Int) × Int) → Option Rtz38) (out : List Int) (ho : out.length ≤ 100) :
   rounds (fun K p => Rz38_7 LF l x2 (fun q => Gz38_11 LF l x2 K LF q) L16 p) LF (out, G.1, G.2, Int.ofNat 0) = L16 (G.2, G.1, out ++ (G.1.flatMap (S.encN l) ++ S.num (Int.ofNat G.2.length)), Int.ofNat 0) := by
 have hn4 := hg.n4
 refine range0 (α := ByteArray × List (Int × Int)) (σ := List Int) (R := Rtz38) G.1 (fun k s => (s, G.1, G.2, k)) (fun i s => s.length ≤ 100 + 400 * i)
   (fun rest i s => L16 (G.2, G.1, s ++ (rest.flatMap (S.encN l) ++ S.num (Int.ofNat G.2.length)), Int.ofNat 0)) (by unfold LF; omega) (fun K s hI => ?_) (fun K i v rest s hI r hk => ?_) out (by omega)
 · have hr6 := hg.r6
   have hc := numOK_len (n := G.2.length) (by omega)
   have hb := roomN (m := s.length) (by omega)
   simp only [Rz38_7, ils, cond_false, hc, cond_true, hb, List.flatMap_nil, List.nil_append, Bool.and_true]
   rfl
 · have h1 := r.ilt
   have h2 := r.get
   have hlt := r.lt
   have hn := num_len (S.form l v.1)
   have hv := hg.vs v r.mem
   have hc := numOK_form hg.l24 v.1
   have hb := roomN (m := s.length) (by omega)
   have hin := re_loop11 (l := l) (x2 := x2) K G.1 G.2 i v r.get? (by omega) (hg.ok v r.mem) (s ++ S.num (S.form l v.1)) (by rw [List.length_append]; omega)
   have hcl := codes_len v.2
   simp only [Rz38_7, h1, cond_true, h2, hc, hb, Bool.and_true]
   refine Eq.trans hin ?_
   rw [r.next]
   have := hk ((s ++ S.num (S.form l v.1)) ++ S.codes v.2) (by rw [List.length_append, List.length_append]; omega)
   refine Eq.trans this ?_
   have e : (s ++ S.num (S.form l v.1)) ++ S.codes v.2 ++ (rest.flatMap (S.encN l) ++ S.num (Int.ofNat G.2.length)) = s ++ ((v :: rest).flatMap (S.encN l) ++ S.num (Int.ofNat G.2.length)) := by
     rw [List.flatMap_cons]; simp only [S.encN, List.append_assoc]
   rw [e]
end
theorem Fz38_eq (l : List DForm) (g : DGraph) : Fz38 LF l g = some (((S.encB l g).1, (S.encB l g).2), ()) := by
 have eta : ((g : List DNode × List DVal).1, (g : List DNode × List DVal).2) = g := rfl
 by_cases h : S.checkG l g = 0
 · obtain ⟨hf, hE⟩ := encG_of h
   have hn4 := hE.n4
   have hr6 := hE.r6
   have k1 : ieqI (S.checkG l g) (Int.ofNat 0) = true := by rw [ieqI_eq]; exact decide_eq_true h
   have k2 : ieqI (S.formed g) (Int.ofNat 0) = true := by rw [ieqI_eq]; exact decide_eq_true hf
   have hk := numOK_len (n := (S.canonG g : List DNode × List DVal).1.length) hn4
   have hnl := num_len (Int.ofNat (S.canonG g : List DNode × List DVal).1.length)
   have hfl := flat_len (l := l) (S.canonG g : List DNode × List DVal).1 hE.vs
   have e9 := re_loop7 (x2 := g) hE (fun q => Gz38_16 LF l g LF q) (S.num (Int.ofNat (S.canonG g : List DNode × List DVal).1.length)) (by omega)
   have hnr := num_len (Int.ofNat (S.canonG g : List DNode × List DVal).2.length)
   have e20 := re_loop16 (x2 := g) hE (S.num (Int.ofNat (S.canonG g : List DNode × List DVal).1.length) ++ ((S.canonG g : List DNode × List DVal).1.flatMap (S.encN l) ++ S.num (Int.ofNat (S.canonG g : List DNode × List DVal).2.length))) (by rw [List.length_append, List.length_append]; omega)
   have ee : S.num (Int.ofNat (S.canonG g : List DNode × List DVal).1.length) ++ ((S.canonG g : List DNode × List DVal).1.flatMap (S.encN l) ++ S.num (Int.ofNat (S.canonG g : List DNode × List DVal).2.length)) ++ S.codes (S.canonG g : List DNode × List DVal).2 = S.enc l (S.canonG g) := by
     unfold S.enc; simp only [List.append_assoc]
   rw [ee] at e20
   have hna : ∀ x : List Int, List.append [] x = x := fun _ => rfl
   simp only [Fz38, Rz38_in, eta, k1, Bool.not_true, cond_false, k2, hk, cond_true, Bool.and_true, hna]
   refine (e9.trans e20).trans ?_
   unfold S.encB
   rw [if_pos h]
   by_cases h6 : 60000 < (S.enc l (S.canonG g)).length + 4
   · rw [if_pos h6, if_pos h6]; rfl
   · rw [if_neg h6, if_neg h6]; rfl
 · have k1 : ieqI (S.checkG l g) (Int.ofNat 0) = false := by rw [ieqI_eq]; exact decide_eq_false h
   simp only [Fz38, Rz38_in, eta, k1, Bool.not_false, cond_true]
   unfold S.encB
   rw [if_neg h]
theorem conz38 : Con Try.prog idz38 spz38 := mkz38 ⟨con_rCheck, conz44, conz19, conz37, trivial⟩ conz43 fun x y hx h => ⟨LF, (Fz38_eq x.1 x.2.1).trans h⟩
def nmz45 : Nat → Option Nm := fun k => cond (Nat.beq k 2) (some ⟨[0, 3], [], [], [], [], 0, 0, false⟩) (cond (Nat.beq k 8) (some ⟨[0, 3, 4, 5], [], [], [], [], 0, 0, false⟩) (none))
def stz45 : Nat → Bool := fun k => cond (Nat.beq k 2) true (cond (Nat.beq k 8) true (false))
def hdz45 := stz45
abbrev Rtz45 : Type := Bool × Unit
def smlz45 : List (Nat × Sm) := []
def hxlz45 : List (Nat × Hx) := []
def clz45 (R : Type) (lf : Nat) : ClK R := icallK Try.prog ttT.get ftT.get (nm1 13 nmz45) (smL smlz45) (hxL hxlz45) lf 20 R
abbrev idz45 : Nat := 13
def encz45_2 (x1 : (List DForm)) (p : Int) : NRes := (NRes.mk (.node (some (IV.lst cForm x1)) (.node none (.node (some (IV.int .i64 p)) .leaf .leaf) .leaf) .leaf) (IS.mk .leaf 0) [] 0)
def encz45_8 (x1 : (List DForm)) (p : Int × Int × Int) : NRes := (NRes.mk (.node (some (IV.lst cForm x1)) (.node none (.node (some (IV.int .i64 p.2.2)) .leaf .leaf) (.node (some (IV.int .i64 p.2.1)) .leaf .leaf)) (.node none (.node (some (IV.int .i64 p.1)) .leaf .leaf) .leaf)) (IS.mk .leaf 0) [] 0)
def Rz45_in (lf : Nat) (x1 : (List DForm)) (L2 : Int → Option Rtz45) : Option Rtz45 := (L2 (Int.ofNat 0))
def Rz45_2 (lf : Nat) (x1 : (List DForm)) (L8 : (Int × Int × Int) → Option Rtz45) (p : Int) : Option Rtz45 := (cond (iltI p (Int.ofNat (List.length x1))) (match (jget x1 p) with | .none  => none | .some v0 => (match (jget x1 p) with | .none  => none | .some v1 => (cond (iltI (Int.ofNat 30) (Int.ofNat (ByteArray.size v1.1))) (some (Bool.false, ())) (cond (iltI (Int.ofNat 6) (Int.ofNat (List.length v0.2))) (cond (Bool.not (iltI (Int.ofNat 30) (Int.ofNat (List.length v0.2)))) (some (Bool.false, ())) (cond (iltI (Int.ofNat 40) (Int.ofNat (List.length v0.2))) (some (Bool.false, ())) (L8 ((Int.ofNat (List.length v0.2)), (Int.ofNat 0), p)))) (cond (iltI (Int.ofNat 40) (Int.ofNat (List.length v0.2))) (some (Bool.false, ())) (L8 ((Int.ofNat (List.length v0.2)), (Int.ofNat 0), p))))))) (cond (Bool.not (iltI (Int.ofNat 6) (Int.ofNat (List.length x1)))) (some (Bool.true, ())) (cond (iltI (Int.ofNat 24) (Int.ofNat (List.length x1))) (some ((Bool.not (iltI (Int.ofNat 30) (Int.ofNat (List.length x1)))), ())) (some (Bool.false, ())))))
def Rz45_8 (lf : Nat) (x1 : (List DForm)) (L8 : (Int × Int × Int) → Option Rtz45) (L2 : Int → Option Rtz45) (p : Int × Int × Int) : Option Rtz45 := (cond (iltI p.2.1 p.1) (match (jget x1 p.2.2) with | .none  => none | .some v0 => (match (jget v0.2 p.2.1) with | .none  => none | .some v1 => (cond (iltI (Int.ofNat 30) (Int.ofNat (ByteArray.size v1.1))) (some (Bool.false, ())) (match (jget x1 p.2.2) with | .none  => none | .some v2 => (match (jget v2.2 p.2.1) with | .none  => none | .some v3 => (cond (iltI (Int.ofNat 30) (Int.ofNat (ByteArray.size v3.2.2))) (some (Bool.false, ())) (L8 (p.1, (IntKind.i64.wrap (Int.add p.2.1 (Int.ofNat 1))), p.2.2)))))))) (L2 (IntKind.i64.wrap (Int.add p.2.2 (Int.ofNat 1)))))
abbrev gz45 : Type := ElA [(.list cForm)] → Option Rtz45
abbrev sz45 (g : gz45) : Sm := ⟨[(.list cForm)], [(false, .bool)], g⟩
abbrev Ez45 (g : gz45) (J : JT Rtz45) (lf : Nat) (x1 : (List DForm)) := icodeT Try.prog ttT.get nmz45 fi13.nt (clz45 _ lf) lf stz45 J fi13.body [] (argGo (argV [(.list cForm)] (x1, ())) 0 .leaf) S0 [] (lastK ttT.get fi13 (sz45 g))
abbrev Bz45 (g : gz45) (J : JT Rtz45) (lf k : Nat) (ms : List Nat) (q : NRes) := icodeFT Try.prog ttT.get nmz45 fi13.nt (clz45 _ lf) lf stz45 J k fi13.body [] ms q (lastK ttT.get fi13 (sz45 g))
theorem inz45 (g : gz45) (J : JT Rtz45) (lf : Nat) (x1 : (List DForm)) : Ez45 g J lf x1 = Rz45_in lf x1 (fun q => J 2 [lf] (encz45_2 x1 q)) := by kernel_rfl
theorem stz45_2 (g : gz45) (J : JT Rtz45) (lf : Nat) (x1 : (List DForm)) (m1 : Nat) (p : Int) : Bz45 g J lf 2 [m1] (encz45_2 x1 p) = Rz45_2 lf x1 (fun q => J 8 [m1, lf] (encz45_8 x1 q)) p := by kernel_rfl
theorem stz45_8 (g : gz45) (J : JT Rtz45) (lf : Nat) (x1 : (List DForm)) (m1 : Nat) (m2 : Nat) (p : Int × Int × Int) : Bz45 g J lf 8 [m1, m2] (encz45_8 x1 p) = Rz45_8 lf x1 (fun q => J 8 [m1, m2] (encz45_8 x1 q)) (fun q => J 2 [m1] (encz45_2 x1 q)) p := by kernel_rfl
theorem ndz45 : (regs fi13.body).Nodup := by decide +kernel
theorem okz45 : okC nmz45 stz45 hdz45 fi13.body none = true := by kernel_rfl
def Az45 (g : gz45) (lf : Nat) : JT Rtz45 := atN Try.prog ttT.get nmz45 fi13 (sz45 g) (clz45 _ lf) lf hdz45
def Gz45_8 (lf : Nat) (x1 : (List DForm)) (K2 : Int → Option Rtz45) : Nat → (Int × Int × Int) → Option Rtz45 := rounds fun K p => Rz45_8 lf x1 K K2 p
theorem atz45_8 (g : gz45) (lf : Nat) (x1 : (List DForm)) (m1 : Nat) : ∀ (n : Nat) (p : Int × Int × Int), Az45 g lf 8 [m1, n] (encz45_8 x1 p) = Gz45_8 lf x1 (fun q => Az45 g lf 2 [m1] (encz45_2 x1 q)) n p
 | 0, p => atz 8 [m1, 0] rfl _
 | n + 1, p => by
   have ih := atz45_8 g lf x1 m1 n
   refine (atN_eq (iKe 20 _) ndz45 okz45 8 [m1, n + 1] [m1, n] rfl _).trans ((stz45_8 g (Az45 g lf) lf x1 m1 n p).trans ?_)
   rw [(show (fun q => Az45 g lf 8 [m1, n] (encz45_8 x1 q)) = (fun q => Gz45_8 lf x1 (fun q => Az45 g lf 2 [m1] (encz45_2 x1 q)) n q) from funext ih)]
   rfl
def Gz45_2 (lf : Nat) (x1 : (List DForm)) : Nat → (Int) → Option Rtz45 := rounds fun K p => Rz45_2 lf x1 (fun q => Gz45_8 lf x1 K lf q) p
theorem atz45_2 (g : gz45) (lf : Nat) (x1 : (List DForm)) : ∀ (n : Nat) (p : Int), Az45 g lf 2 [n] (encz45_2 x1 p) = Gz45_2 lf x1 n p
 | 0, p => atz 2 [0] rfl _
 | n + 1, p => by
   have ih := atz45_2 g lf x1 n
   refine (atN_eq (iKe 20 _) ndz45 okz45 2 [n + 1] [n] rfl _).trans ((stz45_2 g (Az45 g lf) lf x1 n p).trans ?_)
   rw [(show (fun q => Az45 g lf 8 [n, lf] (encz45_8 x1 q)) = (fun q => Gz45_8 lf x1 (fun q => Az45 g lf 2 [n] (encz45_2 x1 q)) lf q) from funext fun q => atz45_8 g lf x1 n lf q), (show (fun q => Az45 g lf 2 [n] (encz45_2 x1 q)) = (fun q => Gz45_2 lf x1 n q) from funext ih)]
   rfl
def Fz45 (lf : Nat) (x1 : (List DForm)) : Option Rtz45 := Rz45_in lf x1 (fun q => Gz45_2 lf x1 lf q)
theorem runz45 (g : gz45) (lf : Nat) (x1 : (List DForm)) : Ez45 g (Az45 g lf) lf x1 = Fz45 lf x1 := by
   refine (inz45 g (Az45 g lf) lf x1).trans ?_
   rw [(show (fun q => Az45 g lf 2 [lf] (encz45_2 x1 q)) = (fun q => Gz45_2 lf x1 lf q) from funext fun q => atz45_2 g lf x1 lf q)]
   rfl
theorem hxsz45 : HxsOK Try.prog hxlz45 := trivial
theorem mkz45 {g : gz45} (hsm : SmOK Try.prog smlz45) (hg : ∀ (x : ElA [(.list cForm)]) (y : Rtz45), WfA [(.list cForm)] x → g x = some y → ∃ lf, Fz45 lf x.1 = some y) : Con Try.prog 13 ⟨[(.list cForm)], [(false, .bool)], g⟩ :=
 conT (nmf := nmz45) (sml := smlz45) (hxl := hxlz45) (st := stz45) (hd := hdz45) 20 mixed ttOK ftOK hsm hxsz45 cal13 rfl rfl (by kernel_rfl) (fun x => by kernel_rfl) ndz45 okz45 fun x y hx hy => by
   obtain ⟨lf, h⟩ := hg x y hx hy
   exact ⟨lf, (runz45 g lf x.1).trans h⟩
def nmz46 : Nat → Option Nm := fun k => cond (Nat.beq k 3) (some ⟨[1, 3, 4], [], [], [], [], 0, 0, false⟩) (none)
def stz46 : Nat → Bool := fun k => cond (Nat.beq k 3) true (false)
def hdz46 := stz46
abbrev Rtz46 : Type := Bool × Unit
def smlz46 : List (Nat × Sm) := []
def hxlz46 : List (Nat × Hx) := []
def clz46 (R : Type) (lf : Nat) : ClK R := icallK Try.prog ttT.get ftT.get (nm1 14 nmz46) (smL smlz46) (hxL hxlz46) lf 20 R
abbrev idz46 : Nat := 14
def encz46_3 (x1 : DGraph) (p : Int) : NRes := (NRes.mk (.node none (.node (some (IV.ptr 0 0)) (.node (some (IV.int .i64 (Int.ofNat (List.length x1.1)))) .leaf .leaf) .leaf) (.node none (.node (some (IV.int .i64 p)) .leaf .leaf) .leaf)) (IS.mk (.node (some (IObj.row (List.cons (IV.lst cNode x1.1) (List.cons (IV.lst cVal x1.2) [])))) .leaf .leaf) 1) [] 0)
def Rz46_in (lf : Nat) (x1 : DGraph) (L3 : Int → Option Rtz46) : Option Rtz46 := (L3 (Int.ofNat 0))
def Rz46_3 (lf : Nat) (x1 : DGraph) (L3 : Int → Option Rtz46) (p : Int) : Option Rtz46 := (cond (iltI p (Int.ofNat (List.length x1.1))) (match (jget x1.1 p) with | .none  => none | .some v0 => (cond (iltI (Int.ofNat 8) (Int.ofNat (List.length v0.2))) (cond (Bool.not (iltI (Int.ofNat 30) (Int.ofNat (List.length v0.2)))) (some (Bool.false, ())) (cond (iltI (Int.ofNat 40) (Int.ofNat (List.length v0.2))) (some (Bool.false, ())) (L3 (IntKind.i64.wrap (Int.add p (Int.ofNat 1)))))) (cond (iltI (Int.ofNat 40) (Int.ofNat (List.length v0.2))) (some (Bool.false, ())) (L3 (IntKind.i64.wrap (Int.add p (Int.ofNat 1))))))) (cond (Bool.not (iltI (Int.ofNat 30) (Int.ofNat (List.length x1.1)))) (cond (Bool.not (iltI (Int.ofNat 10) (Int.ofNat (List.length x1.2)))) (some (Bool.true, ())) (cond (iltI (Int.ofNat 60) (Int.ofNat (List.length x1.2))) (some ((Bool.not (iltI (Int.ofNat 70) (Int.ofNat (List.length x1.2)))), ())) (some (Bool.false, ())))) (cond (iltI (Int.ofNat 400) (Int.ofNat (List.length x1.1))) (cond (Bool.not (iltI (Int.ofNat 410) (Int.ofNat (List.length x1.1)))) (cond (Bool.not (iltI (Int.ofNat 10) (Int.ofNat (List.length x1.2)))) (some (Bool.true, ())) (cond (iltI (Int.ofNat 60) (Int.ofNat (List.length x1.2))) (some ((Bool.not (iltI (Int.ofNat 70) (Int.ofNat (List.length x1.2)))), ())) (some (Bool.false, ())))) (some (Bool.false, ()))) (some (Bool.false, ())))))
abbrev gz46 : Type := ElA [cGraph] → Option Rtz46
abbrev sz46 (g : gz46) : Sm := ⟨[cGraph], [(false, .bool)], g⟩
abbrev Ez46 (g : gz46) (J : JT Rtz46) (lf : Nat) (x1 : DGraph) := icodeT Try.prog ttT.get nmz46 fi14.nt (clz46 _ lf) lf stz46 J fi14.body [] (argGo (argV [cGraph] (x1, ())) 0 .leaf) S0 [] (lastK ttT.get fi14 (sz46 g))
abbrev Bz46 (g : gz46) (J : JT Rtz46) (lf k : Nat) (ms : List Nat) (q : NRes) := icodeFT Try.prog ttT.get nmz46 fi14.nt (clz46 _ lf) lf stz46 J k fi14.body [] ms q (lastK ttT.get fi14 (sz46 g))
theorem inz46 (g : gz46) (J : JT Rtz46) (lf : Nat) (x1 : DGraph) : Ez46 g J lf x1 = Rz46_in lf x1 (fun q => J 3 [lf] (encz46_3 x1 q)) := by kernel_rfl
theorem stz46_3 (g : gz46) (J : JT Rtz46) (lf : Nat) (x1 : DGraph) (m1 : Nat) (p : Int) : Bz46 g J lf 3 [m1] (encz46_3 x1 p) = Rz46_3 lf x1 (fun q => J 3 [m1] (encz46_3 x1 q)) p := by kernel_rfl
theorem ndz46 : (regs fi14.body).Nodup := by decide +kernel
theorem okz46 : okC nmz46 stz46 hdz46 fi14.body none = true := by kernel_rfl
def Az46 (g : gz46) (lf : Nat) : JT Rtz46 := atN Try.prog ttT.get nmz46 fi14 (sz46 g) (clz46 _ lf) lf hdz46
def Gz46_3 (lf : Nat) (x1 : DGraph) : Nat → (Int) → Option Rtz46 := rounds fun K p => Rz46_3 lf x1 K p
theorem atz46_3 (g : gz46) (lf : Nat) (x1 : DGraph) : ∀ (n : Nat) (p : Int), Az46 g lf 3 [n] (encz46_3 x1 p) = Gz46_3 lf x1 n p
 | 0, p => atz 3 [0] rfl _
 | n + 1, p => by
   have ih := atz46_3 g lf x1 n
   refine (atN_eq (iKe 20 _) ndz46 okz46 3 [n + 1] [n] rfl _).trans ((stz46_3 g (Az46 g lf) lf x1 n p).trans ?_)
   rw [(show (fun q => Az46 g lf 3 [n] (encz46_3 x1 q)) = (fun q => Gz46_3 lf x1 n q) from funext ih)]
   rfl
def Fz46 (lf : Nat) (x1 : DGraph) : Option Rtz46 := Rz46_in lf x1 (fun q => Gz46_3 lf x1 lf q)
theorem runz46 (g : gz46) (lf : Nat) (x1 : DGraph) : Ez46 g (Az46 g lf) lf x1 = Fz46 lf x1 := by
   refine (inz46 g (Az46 g lf) lf x1).trans ?_
   rw [(show (fun q => Az46 g lf 3 [lf] (encz46_3 x1 q)) = (fun q => Gz46_3 lf x1 lf q) from funext fun q => atz46_3 g lf x1 lf q)]
   rfl
theorem hxsz46 : HxsOK Try.prog hxlz46 := trivial
theorem mkz46 {g : gz46} (hsm : SmOK Try.prog smlz46) (hg : ∀ (x : ElA [cGraph]) (y : Rtz46), WfA [cGraph] x → g x = some y → ∃ lf, Fz46 lf x.1 = some y) : Con Try.prog 14 ⟨[cGraph], [(false, .bool)], g⟩ :=
 conT (nmf := nmz46) (sml := smlz46) (hxl := hxlz46) (st := stz46) (hd := hdz46) 20 mixed ttOK ftOK hsm hxsz46 cal14 rfl rfl (by kernel_rfl) (fun x => by kernel_rfl) ndz46 okz46 fun x y hx hy => by
   obtain ⟨lf, h⟩ := hg x y hx hy
   exact ⟨lf, (runz46 g lf x.1).trans h⟩
theorem Fz46_eq (g : DGraph) (hl : g.1.length < LF) : Fz46 LF g = some (S.few g, ()) := by
 simp only [Fz46, Rz46_in, S.few]
 refine range1 (R := Rtz46) g.1 (fun rest i => some (rest.all (fun n => decide ((n.2.length ≤ 8 ∨ 30 < n.2.length) ∧ n.2.length ≤ 40)) && decide ((g.1.length ≤ 30 ∨ 400 < g.1.length ∧ g.1.length ≤ 410) ∧ (g.2.length ≤ 10 ∨ 60 < g.2.length ∧ g.2.length ≤ 70)), ())) hl (fun K => ?_) (fun K i v rest r h => ?_)
 · simp only [Rz46_3, ils, cond_false, ilt_nat, List.all_nil, Bool.true_and]
   generalize g.1.length = n
   generalize g.2.length = k
   by_cases a1 : 30 < n <;> by_cases a2 : 400 < n <;> by_cases a3 : 410 < n <;> by_cases b1 : 10 < k <;> by_cases b2 : 60 < k <;> by_cases b3 : 70 < k <;> simp [a1, a2, a3, b1, b2, b3] <;> omega
 · simp only [Rz46_3, r.ilt, r.get, r.next, h, cond_true, ilt_nat, List.all_cons]
   generalize v.2.length = n
   generalize (rest.all fun n => decide ((n.2.length ≤ 8 ∨ 30 < n.2.length) ∧ n.2.length ≤ 40)) = w
   by_cases a1 : 8 < n
   · rw [decide_eq_true a1, cond_true]
     by_cases a2 : 30 < n
     · rw [decide_eq_true a2, Bool.not_true, cond_false]
       by_cases a3 : 40 < n
       · have e : decide ((n ≤ 8 ∨ 30 < n) ∧ n ≤ 40) = false := decide_eq_false (by omega)
         rw [e, decide_eq_true a3]; rfl
       · have e : decide ((n ≤ 8 ∨ 30 < n) ∧ n ≤ 40) = true := decide_eq_true (by omega)
         rw [e, decide_eq_false a3]; cases w <;> rfl
     · have e : decide ((n ≤ 8 ∨ 30 < n) ∧ n ≤ 40) = false := decide_eq_false (by omega)
       rw [e, decide_eq_false a2]; rfl
   · rw [decide_eq_false a1, cond_false]
     have e : decide ((n ≤ 8 ∨ 30 < n) ∧ n ≤ 40) = true := decide_eq_true (by omega)
     have a3 : ¬ 40 < n := by omega
     rw [e, decide_eq_false a3]; cases w <;> rfl
theorem conz46 : Con Try.prog idz46 spz46 := mkz46 trivial fun x y hx h => ⟨LF, (Fz46_eq _ (wf_len hx.1.1)).trans h⟩
theorem few_inner (l : List DForm) (K2 : Int → Option Rtz45) (i : Nat) (f : DForm) (hf : jget l (Int.ofNat i) = some f) (hl : f.2.length < LF) :
   Gz45_8 LF l K2 LF (Int.ofNat f.2.length, Int.ofNat 0, Int.ofNat i) = cond (f.2.all fun c => decide (c.1.size ≤ 30 ∧ c.2.2.size ≤ 30)) (K2 (IntKind.i64.wrap (Int.add (Int.ofNat i) (Int.ofNat 1)))) (some (false, ())) := by
 refine range0 (σ := Unit) (R := Rtz45) f.2 (fun k _ => (Int.ofNat f.2.length, k, Int.ofNat i)) (fun _ _ => True) (fun rest k _ => cond (rest.all fun c => decide (c.1.size ≤ 30 ∧ c.2.2.size ≤ 30)) (K2 (IntKind.i64.wrap (Int.add (Int.ofNat i) (Int.ofNat 1)))) (some (false, ()))) hl (fun K s _ => ?_) (fun K k c rest s _ r h => ?_) () trivial
 · simp only [Rz45_8, ils, cond_false, List.all_nil, cond_true]
 · have h := h () trivial
   simp only [Rz45_8, hf, r.ilt, r.get, r.next, h, cond_true, ilt_nat, List.all_cons]
   by_cases a1 : 30 < c.1.size
   · have e : decide (c.1.size ≤ 30 ∧ c.2.2.size ≤ 30) = false := decide_eq_false (by omega)
     rw [e, decide_eq_true a1]; rfl
   by_cases a2 : 30 < c.2.2.size
   · have e : decide (c.1.size ≤ 30 ∧ c.2.2.size ≤ 30) = false := decide_eq_false (by omega)
     rw [e, decide_eq_false a1, decide_eq_true a2]; rfl
   · have e : decide (c.1.size ≤ 30 ∧ c.2.2.size ≤ 30) = true := decide_eq_true (by omega)
     rw [e, decide_eq_false a1, decide_eq_false a2, Bool.true_and]; rfl
theorem Fz45_eq (l : List DForm) (hl : l.length < LF) (hw : ∀ f ∈ l, f.2.length < LF) : Fz45 LF l = some (S.fewForms l, ()) := by
 simp only [Fz45, Rz45_in, S.fewForms]
 refine range1 (R := Rtz45) l (fun rest i => some (rest.all (fun f => decide (f.1.size ≤ 30 ∧ (f.2.length ≤ 6 ∨ 30 < f.2.length) ∧ f.2.length ≤ 40) && f.2.all fun c => decide (c.1.size ≤ 30 ∧ c.2.2.size ≤ 30)) && decide (l.length ≤ 6 ∨ 24 < l.length ∧ l.length ≤ 30), ())) hl (fun K => ?_) (fun K i v rest r h => ?_)
 · simp only [Rz45_2, ils, cond_false, ilt_nat, List.all_nil, Bool.true_and]
   by_cases h8 : 6 < l.length <;> by_cases h24 : 24 < l.length <;> by_cases h30 : 30 < l.length <;> simp [h8, h24, h30] <;> omega
 · have hin := few_inner l K i v r.get (hw v r.mem)
   rw [r.next, h] at hin
   simp only [Rz45_2, r.ilt, r.get, cond_true, ilt_nat, List.all_cons]
   simp only [hin]
   generalize (v.2.all fun c => decide (c.1.size ≤ 30 ∧ c.2.2.size ≤ 30)) = w
   generalize v.2.length = n
   generalize v.1.size = m
   by_cases a0 : 30 < m
   · have e : decide (m ≤ 30 ∧ (n ≤ 6 ∨ 30 < n) ∧ n ≤ 40) = false := decide_eq_false (by omega)
     rw [e, decide_eq_true a0]; rfl
   rw [decide_eq_false a0, cond_false]
   by_cases a1 : 6 < n
   · rw [decide_eq_true a1, cond_true]
     by_cases a2 : 30 < n
     · rw [decide_eq_true a2, Bool.not_true, cond_false]
       by_cases a3 : 40 < n
       · have e : decide (m ≤ 30 ∧ (n ≤ 6 ∨ 30 < n) ∧ n ≤ 40) = false := decide_eq_false (by omega)
         rw [e, decide_eq_true a3]; rfl
       · have e : decide (m ≤ 30 ∧ (n ≤ 6 ∨ 30 < n) ∧ n ≤ 40) = true := decide_eq_true (by omega)
         rw [e, decide_eq_false a3]; cases w <;> rfl
     · have e : decide (m ≤ 30 ∧ (n ≤ 6 ∨ 30 < n) ∧ n ≤ 40) = false := decide_eq_false (by omega)
       rw [e, decide_eq_false a2]; rfl
   · rw [decide_eq_false a1, cond_false]
     have e : decide (m ≤ 30 ∧ (n ≤ 6 ∨ 30 < n) ∧ n ≤ 40) = true := decide_eq_true (by omega)
     have a3 : ¬ 40 < n := by omega
     rw [e, decide_eq_false a3]; cases w <;> rfl
theorem conz45 : Con Try.prog idz45 spz45 := mkz45 trivial fun x y hx h => ⟨LF, (Fz45_eq _ (wf_len hx.1) fun f hf => wf_len (hx.1.2 f hf).2).trans h⟩
theorem keqS_refl (s : ByteArray) : keqS s s = true := by unfold keqS; exact decide_eq_true rfl
theorem Fz35_eq (lf : Nat) (l : List DForm) (g : DGraph) : Fz35 lf l g = some (true, ()) := by
 simp only [Fz35, Rz35_in]
 cases S.fewForms l with
 | false => rfl
 | true =>
   cases S.few ((g : List DNode × List DVal).1, (g : List DNode × List DVal).2) with
   | false => rfl
   | true =>
     simp only [Bool.not_true, cond_false, keqS_refl, cond_true, ieqI_eq, decide_true]
theorem conz35 (hs : Con Try.prog 15 sp_l_sanity) : Con Try.prog idz35 ⟨[.list cForm, cGraph], [(false, .bool)], fun _ => some (true, ())⟩ :=
 mkz35 ⟨conz45, conz46, hs, conz39, conz38, trivial⟩ fun x y hx h => ⟨LF, (Fz35_eq LF x.1 x.2.1).trans h⟩
def exN : Ex := fun _ => none
def isR (o : Option Res) : Bool := match o with
 | some r => (match runR sp_l_sanity r with
   | some y => y.1
   | none => false)
 | none => false
theorem isR_spec {o : Option Res} (h : isR o = true) : ∃ r, o = some r ∧ runR sp_l_sanity r = some (true, ()) := by
 cases o with
 | none => cases h
 | some r =>
   refine ⟨r, rfl, ?_⟩
   unfold isR at h
   cases hr : runR sp_l_sanity r with
   | none => simp only [hr] at h; cases h
   | some y =>
     simp only [hr] at h
     exact congrArg some (Prod.ext h rfl)
theorem san15 : isR (icall Try.prog ttT.get ftT.get (fun _ _ => none) exN 1000 100 (.fn 15) [] S0) = true := by kernel_rfl
theorem exN_ok : ExOK Try.prog exN := ⟨fun _ _ h => (nomatch h), fun _ _ h => (nomatch h), fun _ _ h => (nomatch h)⟩
theorem con_l_sanity : Con Try.prog 15 sp_l_sanity := con_of_run (lf := 1000) mixed ttOK ftOK exN_ok cal15 fun x y h => by
 obtain ⟨r, h1, h2⟩ := isR_spec san15
 exact ⟨100, 1000, r, h1, h2.trans h⟩
theorem con_PackEncodes : Con Try.prog idz35 ⟨[.list cForm, cGraph], [(false, .bool)], fun _ => some (true, ())⟩ := conz35 con_l_sanity
end Go.Proofs.Ytcnhjofpmpipfaa
end
