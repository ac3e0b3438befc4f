/- Texts: Lg5, Lp5, Lg6, Lp6, Qeq, Qeqp, Qeqf, Qeqfp, Qsm, Jhx, Qg1, Qp1, Qe1, Qsmp, Qsm2, Qsm2p, Lg1, Qg3, Qg2, Qcl, Qp2, Qp3, Qp4, Lp1, Lg7, Lw6, Lw1, Lw2, Qsp3, Lw4, Lw7, Lw8, Lw9, Lw10, Lw11, Lw12, Lw13, Lw14, Lw15, Lw16, Lw17, Lw18, Lw21, Lw22, Lw23, Jrx, Lp7, Lp8, Lw19, Lw20, Lp9, Ln4. -/
import Derived.Test.YtcnhjofpmpipfaaMd4
import Derived.Test.YtcnhjofpmpipfaaMd3
/- Made by program: plain forms of functions. -/
section
set_option linter.unusedVariables false
set_option maxRecDepth 100000
noncomputable section
namespace Go.Proofs.Ytcnhjofpmpipfaa
open Go Go.Sx Go.RowKit Go.Jx
def nm_l_order : Nat → Option Nm := fun k => cond (Nat.beq k 3) (some ⟨[0, 1, 5, 14, 15], [(5, (.int .i64))], [], [], [], 0, 0, false⟩) (cond (Nat.beq k 8) (some ⟨[0, 5, 23, 24, 25], [(5, (.int .i64))], [], [], [], 0, 0, false⟩) (none))
def st_l_order : Nat → Bool := fun k => cond (Nat.beq k 3) true (cond (Nat.beq k 8) true (false))
def hd_l_order : Nat → Bool := fun k => cond (Nat.beq k 3) true (cond (Nat.beq k 8) true (false))
abbrev Rt_l_order : Type := (List Int) × Unit
def sml_l_order : List (Nat × Sm) := []
def hxl_l_order : List (Nat × Hx) := []
def cl_l_order (R : Type) (lf : Nat) : ClK R := icallK Try.prog ttT.get ftT.get (nm1 24 nm_l_order) (smL sml_l_order) (hxL hxl_l_order) lf 20 R
abbrev id_l_order : Nat := 24
def enc_l_order_3 (x1 : Int) (x2 : (List Int)) (p : Int × (List Int)) : NRes := (NRes.mk (PT.node (some (IV.int Go.IntKind.i64 x1)) (PT.node (some (IV.lst (TC.int Go.IntKind.u8) x2)) (PT.node none (PT.node none (PT.node (some (IV.int Go.IntKind.i64 p.1)) PT.leaf PT.leaf) PT.leaf) PT.leaf) (PT.node (some (IV.arr 0)) PT.leaf PT.leaf)) (PT.node none PT.leaf (PT.node none PT.leaf (PT.node (some (IV.int Go.IntKind.i64 (Int.ofNat (List.length (S.rep x1 (Int.ofNat 0)))))) PT.leaf PT.leaf)))) (IS.mk (PT.node (some (IObj.arr (TC.int Go.IntKind.i64) p.2)) PT.leaf PT.leaf) 1) [] 0)
def enc_l_order_8 (x1 : Int) (x2 : (List Int)) (p : (List Int) × Int) : NRes := (NRes.mk (PT.node (some (IV.int Go.IntKind.i64 x1)) (PT.node none (PT.node none (PT.node none PT.leaf (PT.node (some (IV.lst (TC.int Go.IntKind.u8) x2)) PT.leaf PT.leaf)) PT.leaf) (PT.node (some (IV.arr 0)) (PT.node none PT.leaf (PT.node (some (IV.int Go.IntKind.i64 p.2)) PT.leaf PT.leaf)) PT.leaf)) (PT.node none (PT.node none (PT.node none PT.leaf (PT.node (some (IV.int Go.IntKind.i64 (Int.ofNat (List.length x2)))) PT.leaf PT.leaf)) PT.leaf) PT.leaf)) (IS.mk (PT.node (some (IObj.arr (TC.int Go.IntKind.i64) p.1)) PT.leaf PT.leaf) 1) [] 0)
def R_l_order_in (lf : Nat) (x1 : Int) (x2 : (List Int)) (L3 : (Int × (List Int)) → Option Rt_l_order) : Option Rt_l_order := (cond (iltI x1 (Int.ofNat 0)) none (cond (Nat.ble (Nat.mul (Int.toNat x1) 8) 140737488355328) (L3 ((Int.ofNat 0), (S.rep x1 (Int.ofNat 0)))) none))
def R_l_order_3 (lf : Nat) (x1 : Int) (x2 : (List Int)) (L3 : (Int × (List Int)) → Option Rt_l_order) (L8 : ((List Int) × Int) → Option Rt_l_order) (p : Int × (List Int)) : Option Rt_l_order := (cond (iltI p.1 (Int.ofNat (List.length (S.rep x1 (Int.ofNat 0))))) (match (jget p.2 p.1) with | .none  => none | .some v0 => (match (GetElem?.getElem? p.2 (Int.toNat p.1)) with | .none  => none | .some v1 => (L3 ((Go.IntKind.wrap Go.IntKind.i64 (Int.add p.1 (Int.ofNat 1))), (List.set p.2 (Int.toNat p.1) p.1))))) (L8 (p.2, (Int.ofNat 0))))
def R_l_order_8 (lf : Nat) (x1 : Int) (x2 : (List Int)) (L8 : ((List Int) × Int) → Option Rt_l_order) (p : (List Int) × Int) : Option Rt_l_order := (cond (iltI p.2 (Int.ofNat (List.length x2))) (match (jget x2 p.2) with | .none  => none | .some v0 => (cond (iltI (Int.ofNat 0) x1) (cond (ieqI x1 (Int.ofNat 0)) none (cond (ieqI x1 (Int.ofNat 0)) none (match (jget p.1 (Int.tmod (Go.IntKind.wrap Go.IntKind.i64 v0) x1)) with | .none  => none | .some v1 => (match (GetElem?.getElem? p.1 (Int.toNat (Int.tmod (Go.IntKind.wrap Go.IntKind.i64 v0) x1))) with | .none  => none | .some v2 => (match (jget p.1 (Int.tmod p.2 x1)) with | .none  => none | .some v3 => (match (GetElem?.getElem? p.1 (Int.toNat (Int.tmod p.2 x1))) with | .none  => none | .some v4 => (match (jget p.1 (Int.tmod p.2 x1)) with | .none  => none | .some v5 => (match (GetElem?.getElem? p.1 (Int.toNat (Int.tmod p.2 x1))) with | .none  => none | .some v6 => (match (jget (List.set p.1 (Int.toNat (Int.tmod p.2 x1)) v2) (Int.tmod (Go.IntKind.wrap Go.IntKind.i64 v0) x1)) with | .none  => none | .some v7 => (match (GetElem?.getElem? (List.set p.1 (Int.toNat (Int.tmod p.2 x1)) v2) (Int.toNat (Int.tmod (Go.IntKind.wrap Go.IntKind.i64 v0) x1))) with | .none  => none | .some v8 => (L8 ((List.set (List.set p.1 (Int.toNat (Int.tmod p.2 x1)) v2) (Int.toNat (Int.tmod (Go.IntKind.wrap Go.IntKind.i64 v0) x1)) v4), (Go.IntKind.wrap Go.IntKind.i64 (Int.add p.2 (Int.ofNat 1))))))))))))))) (L8 (p.1, (Go.IntKind.wrap Go.IntKind.i64 (Int.add p.2 (Int.ofNat 1))))))) (some (p.1, ())))
theorem in_l_order (g : ElA [(.int .i64), (.list (.int .u8))] → Option Rt_l_order) (J : Nat → List Nat → NRes → Option Rt_l_order) (lf : Nat) (x1 : Int) (x2 : (List Int)) : icodeT Try.prog ttT.get nm_l_order fi24.nt (cl_l_order _ lf) lf st_l_order J fi24.body [] (argGo (argV [(.int .i64), (.list (.int .u8))] (x1, x2, ())) 0 .leaf) S0 [] (lastK ttT.get fi24 ⟨[(.int .i64), (.list (.int .u8))], [(false, (.list (.int .i64)))], g⟩) = R_l_order_in lf x1 x2 (fun q => J 3 [lf] (enc_l_order_3 x1 x2 q)) := by kernel_rfl
theorem st_l_order_3 (g : ElA [(.int .i64), (.list (.int .u8))] → Option Rt_l_order) (J : Nat → List Nat → NRes → Option Rt_l_order) (lf : Nat) (x1 : Int) (x2 : (List Int)) (m1 : Nat) (p : Int × (List Int)) : icodeFT Try.prog ttT.get nm_l_order fi24.nt (cl_l_order _ lf) lf st_l_order J 3 fi24.body [] [m1] (enc_l_order_3 x1 x2 p) (lastK ttT.get fi24 ⟨[(.int .i64), (.list (.int .u8))], [(false, (.list (.int .i64)))], g⟩) = R_l_order_3 lf x1 x2 (fun q => J 3 [m1] (enc_l_order_3 x1 x2 q)) (fun q => J 8 [lf] (enc_l_order_8 x1 x2 q)) p := by kernel_rfl
theorem st_l_order_8 (g : ElA [(.int .i64), (.list (.int .u8))] → Option Rt_l_order) (J : Nat → List Nat → NRes → Option Rt_l_order) (lf : Nat) (x1 : Int) (x2 : (List Int)) (m1 : Nat) (p : (List Int) × Int) : icodeFT Try.prog ttT.get nm_l_order fi24.nt (cl_l_order _ lf) lf st_l_order J 8 fi24.body [] [m1] (enc_l_order_8 x1 x2 p) (lastK ttT.get fi24 ⟨[(.int .i64), (.list (.int .u8))], [(false, (.list (.int .i64)))], g⟩) = R_l_order_8 lf x1 x2 (fun q => J 8 [m1] (enc_l_order_8 x1 x2 q)) p := by kernel_rfl
theorem nd_l_order : (regs fi24.body).Nodup := by decide +kernel
theorem ok_l_order : okC nm_l_order st_l_order hd_l_order fi24.body none = true := by kernel_rfl
def A_l_order (g : ElA [(.int .i64), (.list (.int .u8))] → Option Rt_l_order) (lf : Nat) : Nat → List Nat → NRes → Option Rt_l_order := atN Try.prog ttT.get nm_l_order fi24 ⟨[(.int .i64), (.list (.int .u8))], [(false, (.list (.int .i64)))], g⟩ (cl_l_order _ lf) lf hd_l_order
def G_l_order_8 (lf : Nat) (x1 : Int) (x2 : (List Int)) : Nat → ((List Int) × Int) → Option Rt_l_order := rounds fun K p => R_l_order_8 lf x1 x2 K p
theorem at_l_order_8 (g : ElA [(.int .i64), (.list (.int .u8))] → Option Rt_l_order) (lf : Nat) (x1 : Int) (x2 : (List Int)) : ∀ (n : Nat) (p : (List Int) × Int), A_l_order g lf 8 [n] (enc_l_order_8 x1 x2 p) = G_l_order_8 lf x1 x2 n p
  | 0, p => atN_zero 8 [0] rfl _
  | n + 1, p => by
    have ih := at_l_order_8 g lf x1 x2 n
    refine (atN_eq (icallK_eq 20 _) nd_l_order ok_l_order 8 [n + 1] [n] rfl _).trans ((st_l_order_8 g (A_l_order g lf) lf x1 x2 n p).trans ?_)
    rw [(show (fun q => A_l_order g lf 8 [n] (enc_l_order_8 x1 x2 q)) = (fun q => G_l_order_8 lf x1 x2 n q) from funext ih)]
    rfl
def G_l_order_3 (lf : Nat) (x1 : Int) (x2 : (List Int)) : Nat → (Int × (List Int)) → Option Rt_l_order := rounds fun K p => R_l_order_3 lf x1 x2 K (fun q => G_l_order_8 lf x1 x2 lf q) p
theorem at_l_order_3 (g : ElA [(.int .i64), (.list (.int .u8))] → Option Rt_l_order) (lf : Nat) (x1 : Int) (x2 : (List Int)) : ∀ (n : Nat) (p : Int × (List Int)), A_l_order g lf 3 [n] (enc_l_order_3 x1 x2 p) = G_l_order_3 lf x1 x2 n p
  | 0, p => atN_zero 3 [0] rfl _
  | n + 1, p => by
    have ih := at_l_order_3 g lf x1 x2 n
    refine (atN_eq (icallK_eq 20 _) nd_l_order ok_l_order 3 [n + 1] [n] rfl _).trans ((st_l_order_3 g (A_l_order g lf) lf x1 x2 n p).trans ?_)
    rw [(show (fun q => A_l_order g lf 8 [lf] (enc_l_order_8 x1 x2 q)) = (fun q => G_l_order_8 lf x1 x2 lf q) from funext fun q => at_l_order_8 g lf x1 x2 lf q), (show (fun q => A_l_order g lf 3 [n] (enc_l_order_3 x1 x2 q)) = (fun q => G_l_order_3 lf x1 x2 n q) from funext ih)]
    rfl
def F_l_order (lf : Nat) (x1 : Int) (x2 : (List Int)) : Option Rt_l_order := R_l_order_in lf x1 x2 (fun q => G_l_order_3 lf x1 x2 lf q)
theorem run_l_order (g : ElA [(.int .i64), (.list (.int .u8))] → Option Rt_l_order) (lf : Nat) (x1 : Int) (x2 : (List Int)) : icodeT Try.prog ttT.get nm_l_order fi24.nt (cl_l_order _ lf) lf st_l_order (A_l_order g lf) fi24.body [] (argGo (argV [(.int .i64), (.list (.int .u8))] (x1, x2, ())) 0 .leaf) S0 [] (lastK ttT.get fi24 ⟨[(.int .i64), (.list (.int .u8))], [(false, (.list (.int .i64)))], g⟩) = F_l_order lf x1 x2 := by
    refine (in_l_order g (A_l_order g lf) lf x1 x2).trans ?_
    rw [(show (fun q => A_l_order g lf 3 [lf] (enc_l_order_3 x1 x2 q)) = (fun q => G_l_order_3 lf x1 x2 lf q) from funext fun q => at_l_order_3 g lf x1 x2 lf q)]
    rfl
theorem hxs_l_order : HxsOK Try.prog hxl_l_order := trivial
theorem mk_l_order {g : ElA [(.int .i64), (.list (.int .u8))] → Option Rt_l_order} (hsm : SmOK Try.prog sml_l_order) (hg : ∀ (x : ElA [(.int .i64), (.list (.int .u8))]) (y : Rt_l_order), WfA [(.int .i64), (.list (.int .u8))] x → g x = some y → ∃ lf, F_l_order lf x.1 x.2.1 = some y) : Con Try.prog 24 ⟨[(.int .i64), (.list (.int .u8))], [(false, (.list (.int .i64)))], g⟩ :=
  conT (nmf := nm_l_order) (sml := sml_l_order) (hxl := hxl_l_order) (st := st_l_order) (hd := hd_l_order) 20 mixed ttOK ftOK hsm hxs_l_order cal24 rfl rfl (by kernel_rfl) (fun x => by kernel_rfl) nd_l_order ok_l_order fun x y hx hy => by
    obtain ⟨lf, h⟩ := hg x y hx hy
    exact ⟨lf, (run_l_order g lf x.1 x.2.1).trans h⟩
def nm_l_turned_1 : Nat → Option Nm := fun k => cond (Nat.beq k 999999) (some ⟨[], [], [], [], [], 0, 0, false⟩) none
def st_l_turned_1 : Nat → Bool := fun k => false
def hd_l_turned_1 : Nat → Bool := fun k => false
abbrev Rt_l_turned_1 : Type := (DVal × Unit) × ((List Int) × Unit) × Unit
def sml_l_turned_1 : List (Nat × Sm) := []
def hxl_l_turned_1 : List (Nat × Hx) := []
def cl_l_turned_1 (R : Type) (lf : Nat) : ClK R := icallK Try.prog ttT.get ftT.get (fun _ _ => none) (smL sml_l_turned_1) (hxL hxl_l_turned_1) lf 20 R
abbrev id_l_turned_1 : Nat := 71
def R_l_turned_1_in (lf : Nat) (x1 : DVal) (x2 : (List Int)) : Option Rt_l_turned_1 := (cond (ieqI x1.1 (Int.ofNat 4)) (match (jget x2 x1.2) with | .none  => none | .some v0 => (some (((x1.1, v0), ()), ((x2, ()), ())))) (some (((x1.1, x1.2), ()), ((x2, ()), ()))))
theorem in_l_turned_1 (g : ElP [.dat cVal, .ref [.dat (.list (.int .i64))]] → Option Rt_l_turned_1) (J : Nat → List Nat → NRes → Option Rt_l_turned_1) (lf : Nat) (x1 : DVal) (x2 : (List Int)) : icodeTB Try.prog ttT.get nm_l_turned_1 (mP [.dat cVal, .ref [.dat (.list (.int .i64))]]) fi71.nt (cl_l_turned_1 _ lf) lf st_l_turned_1 J fi71.body [] (argGo (argsP [.dat cVal, .ref [.dat (.list (.int .i64))]] idN 0 (x1, (x2, ()), ())) 0 .leaf) (Sc [.dat cVal, .ref [.dat (.list (.int .i64))]] (x1, (x2, ()), ())) [] (lastQ ttT.get fi71 ⟨[.dat cVal, .ref [.dat (.list (.int .i64))]], [(false, cVal)], g⟩) = R_l_turned_1_in lf x1 x2 := by kernel_rfl
theorem nd_l_turned_1 : (regs fi71.body).Nodup := by decide +kernel
theorem ok_l_turned_1 : okC nm_l_turned_1 st_l_turned_1 hd_l_turned_1 fi71.body none = true := by kernel_rfl
def A_l_turned_1 (g : ElP [.dat cVal, .ref [.dat (.list (.int .i64))]] → Option Rt_l_turned_1) (lf : Nat) : Nat → List Nat → NRes → Option Rt_l_turned_1 := atQ Try.prog ttT.get nm_l_turned_1 fi71 ⟨[.dat cVal, .ref [.dat (.list (.int .i64))]], [(false, cVal)], g⟩ (cl_l_turned_1 _ lf) lf hd_l_turned_1
def F_l_turned_1 (lf : Nat) (x1 : DVal) (x2 : (List Int)) : Option Rt_l_turned_1 := R_l_turned_1_in lf x1 x2
theorem run_l_turned_1 (g : ElP [.dat cVal, .ref [.dat (.list (.int .i64))]] → Option Rt_l_turned_1) (lf : Nat) (x1 : DVal) (x2 : (List Int)) : icodeTB Try.prog ttT.get nm_l_turned_1 (mP [.dat cVal, .ref [.dat (.list (.int .i64))]]) fi71.nt (cl_l_turned_1 _ lf) lf st_l_turned_1 (A_l_turned_1 g lf) fi71.body [] (argGo (argsP [.dat cVal, .ref [.dat (.list (.int .i64))]] idN 0 (x1, (x2, ()), ())) 0 .leaf) (Sc [.dat cVal, .ref [.dat (.list (.int .i64))]] (x1, (x2, ()), ())) [] (lastQ ttT.get fi71 ⟨[.dat cVal, .ref [.dat (.list (.int .i64))]], [(false, cVal)], g⟩) = F_l_turned_1 lf x1 x2 := by
    refine (in_l_turned_1 g (A_l_turned_1 g lf) lf x1 x2).trans ?_
    rfl
theorem hxs_l_turned_1 : HxsOK Try.prog hxl_l_turned_1 := trivial
theorem mk_l_turned_1 {g : ElP [.dat cVal, .ref [.dat (.list (.int .i64))]] → Option Rt_l_turned_1} (hsm : SmOK Try.prog sml_l_turned_1) (hg : ∀ (x : ElP [.dat cVal, .ref [.dat (.list (.int .i64))]]) (y : Rt_l_turned_1), WfP [.dat cVal, .ref [.dat (.list (.int .i64))]] x → g x = some y → ∃ lf, F_l_turned_1 lf x.1 x.2.1.1 = some y) : ConR Try.prog 71 ⟨[.dat cVal, .ref [.dat (.list (.int .i64))]], [(false, cVal)], g⟩ :=
  conTR (nmf := nm_l_turned_1) (sml := sml_l_turned_1) (hxl := hxl_l_turned_1) (st := st_l_turned_1) (hd := hd_l_turned_1) 20 mixed ttOK ftOK hsm hxs_l_turned_1 cal71 (by kernel_rfl) (fun x => by kernel_rfl) nd_l_turned_1 ok_l_turned_1 fun x y z hx hy => by
    obtain ⟨lf, h⟩ := hg x (y, z) hx hy
    exact ⟨lf, (run_l_turned_1 g lf x.1 x.2.1.1).trans h⟩
end Go.Proofs.Ytcnhjofpmpipfaa

end
end

/- The contract of turned's closure. -/
section
set_option linter.unusedVariables false
namespace Go.Proofs.Ytcnhjofpmpipfaa
open Go Go.Sx Go.RowKit Go.Jx
/-- A value with its new number. -/
noncomputable def S.turnV (v : DVal) (to : List Int) : Option ((DVal × Unit) × ((List Int × Unit) × Unit)) := F_l_turned_1 0 v to
noncomputable def sp_l_turned_1 : SmR := ⟨[.dat cVal, .ref [.dat (.list (.int .i64))]], [(false, cVal)], fun x => S.turnV x.1 x.2.1.1⟩
theorem con_l_turned_1 : ConR Try.prog id_l_turned_1 sp_l_turned_1 := mk_l_turned_1 trivial fun x y hx h => ⟨0, h⟩
noncomputable def S.orderO (n : Int) (picks : List Int) : Option Rt_l_order := F_l_order LF n picks
noncomputable def sp_l_order : Sm := ⟨[.int .i64, .list (.int .u8)], [(false, .list (.int .i64))], fun x => S.orderO x.1 x.2.1⟩
theorem con_l_order : Con Try.prog id_l_order sp_l_order := mk_l_order trivial fun x y hx h => ⟨LF, h⟩
end Go.Proofs.Ytcnhjofpmpipfaa
end

/- Made by program: plain forms of functions. -/
section
set_option linter.unusedVariables false
set_option maxRecDepth 100000
noncomputable section
namespace Go.Proofs.Ytcnhjofpmpipfaa
open Go Go.Sx Go.RowKit Go.Jx
def nm_l_turned : Nat → Option Nm := fun k => cond (Nat.beq k 4) (some ⟨[2, 3, 4, 5, 6, 21, 22, 23], [], [(6, 0, cNode)], [], [], 0, 0, false⟩) (cond (Nat.beq k 8) (some ⟨[2, 3, 4, 5, 6, 7, 9, 21, 22, 23, 32, 33, 34], [], [(6, 0, cNode), (9, 1, cVal)], [], [], 0, 0, false⟩) (cond (Nat.beq k 15) (some ⟨[4, 5, 6, 57, 58, 59], [], [(6, 0, cNode), (6, 1, cVal)], [], [], 0, 0, false⟩) (none)))
def st_l_turned : Nat → Bool := fun k => cond (Nat.beq k 4) true (cond (Nat.beq k 8) true (cond (Nat.beq k 15) true (false)))
def hd_l_turned : Nat → Bool := fun k => cond (Nat.beq k 4) true (cond (Nat.beq k 8) true (cond (Nat.beq k 15) true (false)))
abbrev Rt_l_turned : Type := DGraph × Unit
def sml_l_turned : List (Nat × Sm) := []
def hxl_l_turned : List (Nat × Hx) := [(71, hxR sp_l_turned_1)]
def cl_l_turned (R : Type) (lf : Nat) : ClK R := icallK Try.prog ttT.get ftT.get (nm1 23 nm_l_turned) (smL sml_l_turned) (hxL hxl_l_turned) lf 20 R
abbrev id_l_turned : Nat := 23
def enc_l_turned_4 (x1 : DGraph) (x2 : (List Int)) (p : Int × (List DNode) × (List Int)) : NRes := (NRes.mk (PT.node none (PT.node none (PT.node (some (IV.ptr 1 0)) (PT.node none PT.leaf (PT.node (some (IV.int Go.IntKind.i64 p.1)) PT.leaf PT.leaf)) PT.leaf) (PT.node (some (IV.fn 71 (List.cons (IV.ptr 1 0) []))) PT.leaf (PT.node none (PT.node (some (IV.lst cNode x1.1)) PT.leaf PT.leaf) PT.leaf))) (PT.node (some (IV.ptr 0 0)) (PT.node (some (IV.ptr 2 0)) PT.leaf PT.leaf) (PT.node (some (IV.ptr 3 0)) PT.leaf (PT.node none (PT.node (some (IV.int Go.IntKind.i64 (Int.ofNat (List.length x1.1)))) PT.leaf PT.leaf) PT.leaf)))) (IS.mk (PT.node (some (IObj.row (List.cons (IV.lst cNode x1.1) (List.cons (IV.lst cVal x1.2) [])))) (PT.node (some (IObj.row (List.cons (IV.lst (TC.int Go.IntKind.i64) p.2.2) []))) (PT.node (some (IObj.row (List.cons (IV.arr 4) (List.cons IV.nilsl [])))) PT.leaf PT.leaf) PT.leaf) (PT.node (some (IObj.row (List.cons IV.nilsl (List.cons IV.nilsl [])))) (PT.node (some (IObj.arr cNode p.2.1)) PT.leaf PT.leaf) PT.leaf)) 5) [] 0)
def enc_l_turned_8 (x1 : DGraph) (x2 : (List Int)) (p : ByteArray × (List DVal) × Int × (List Int) × (List DVal) × Int × Int × (List DNode)) : NRes := (NRes.mk (PT.node none (PT.node none (PT.node (some (IV.ptr 1 0)) (PT.node (some (IV.int Go.IntKind.i64 p.2.2.2.2.2.1)) PT.leaf (PT.node (some (IV.int Go.IntKind.i64 p.2.2.2.2.2.2.1)) PT.leaf PT.leaf)) PT.leaf) (PT.node (some (IV.fn 71 (List.cons (IV.ptr 1 0) []))) (PT.node (some (IV.ptr 4 0)) (PT.node none (PT.node (some (IV.int Go.IntKind.i64 (Int.ofNat (List.length p.2.1)))) PT.leaf PT.leaf) PT.leaf) PT.leaf) (PT.node none (PT.node (some (IV.lst cNode x1.1)) PT.leaf PT.leaf) PT.leaf))) (PT.node (some (IV.ptr 0 0)) (PT.node (some (IV.ptr 2 0)) (PT.node none (PT.node none (PT.node (some (IV.lst cVal p.2.1)) PT.leaf PT.leaf) PT.leaf) PT.leaf) PT.leaf) (PT.node (some (IV.ptr 3 0)) (PT.node none (PT.node none (PT.node (some (IV.int Go.IntKind.i64 p.2.2.1)) PT.leaf PT.leaf) PT.leaf) PT.leaf) (PT.node none (PT.node (some (IV.int Go.IntKind.i64 (Int.ofNat (List.length x1.1)))) PT.leaf PT.leaf) PT.leaf)))) (IS.mk (PT.node (some (IObj.row (List.cons (IV.lst cNode x1.1) (List.cons (IV.lst cVal x1.2) [])))) (PT.node (some (IObj.row (List.cons (IV.lst (TC.int Go.IntKind.i64) p.2.2.2.1) []))) (PT.node (some (IObj.row (List.cons (IV.arr 5) (List.cons IV.nilsl [])))) PT.leaf PT.leaf) (PT.node (some (IObj.arr cNode p.2.2.2.2.2.2.2)) PT.leaf PT.leaf)) (PT.node (some (IObj.row (List.cons IV.nilsl (List.cons IV.nilsl [])))) (PT.node (some (IObj.row (List.cons (IV.str p.1) (List.cons (IV.arr 6) [])))) PT.leaf PT.leaf) (PT.node (some (IObj.arr cVal p.2.2.2.2.1)) PT.leaf PT.leaf))) 7) [] 0)
def enc_l_turned_15 (x1 : DGraph) (x2 : (List Int)) (p : (List Int) × (List DNode) × Int × (List DVal)) : NRes := (NRes.mk (PT.node none (PT.node none (PT.node none PT.leaf (PT.node none PT.leaf (PT.node none PT.leaf (PT.node (some (IV.int Go.IntKind.i64 p.2.2.1)) PT.leaf PT.leaf)))) (PT.node (some (IV.fn 71 (List.cons (IV.ptr 1 0) []))) (PT.node none PT.leaf (PT.node none PT.leaf (PT.node (some (IV.lst cVal x1.2)) PT.leaf PT.leaf))) PT.leaf)) (PT.node none (PT.node (some (IV.ptr 0 0)) PT.leaf PT.leaf) (PT.node (some (IV.ptr 2 0)) (PT.node none PT.leaf (PT.node none PT.leaf (PT.node (some (IV.int Go.IntKind.i64 (Int.ofNat (List.length x1.2)))) PT.leaf PT.leaf))) PT.leaf))) (IS.mk (PT.node (some (IObj.row (List.cons IV.nilsl (List.cons IV.nilsl [])))) (PT.node (some (IObj.row (List.cons (IV.lst (TC.int Go.IntKind.i64) p.1) []))) (PT.node (some (IObj.arr cNode p.2.1)) PT.leaf PT.leaf) PT.leaf) (PT.node (some (IObj.row (List.cons (IV.arr 3) (List.cons (IV.arr 4) [])))) (PT.node (some (IObj.arr cVal p.2.2.2)) PT.leaf PT.leaf) PT.leaf)) 5) [] 0)
def R_l_turned_in (lf : Nat) (x1 : DGraph) (x2 : (List Int)) (L4 : (Int × (List DNode) × (List Int)) → Option Rt_l_turned) : Option Rt_l_turned := (cond (iltI (Int.ofNat (List.length x1.1)) (Int.ofNat 0)) none (cond (Nat.ble (Nat.mul (Int.toNat (Int.ofNat (List.length x1.1))) 40) 140737488355328) (L4 ((Int.ofNat 0), (S.rep (Int.ofNat (List.length x1.1)) ((S.lit []), [])), x2)) none))
def R_l_turned_4 (lf : Nat) (x1 : DGraph) (x2 : (List Int)) (L8 : (ByteArray × (List DVal) × Int × (List Int) × (List DVal) × Int × Int × (List DNode)) → Option Rt_l_turned) (L15 : ((List Int) × (List DNode) × Int × (List DVal)) → Option Rt_l_turned) (p : Int × (List DNode) × (List Int)) : Option Rt_l_turned := (cond (iltI p.1 (Int.ofNat (List.length x1.1))) (match (jget x1.1 p.1) with | .none  => none | .some v0 => (L8 (v0.1, v0.2, (Int.ofNat 0), p.2.2, [], p.1, p.1, p.2.1))) (L15 (p.2.2, p.2.1, (Int.ofNat 0), [])))
def R_l_turned_8 (lf : Nat) (x1 : DGraph) (x2 : (List Int)) (L8 : (ByteArray × (List DVal) × Int × (List Int) × (List DVal) × Int × Int × (List DNode)) → Option Rt_l_turned) (L4 : (Int × (List DNode) × (List Int)) → Option Rt_l_turned) (p : ByteArray × (List DVal) × Int × (List Int) × (List DVal) × Int × Int × (List DNode)) : Option Rt_l_turned := (cond (iltI p.2.2.1 (Int.ofNat (List.length p.2.1))) (match (jget p.2.1 p.2.2.1) with | .none  => none | .some v0 => (match (Go.Proofs.Ytcnhjofpmpipfaa.S.turnV (v0.1, v0.2) p.2.2.2.1) with | .none  => none | .some v1 => (cond (Nat.ble (Nat.mul (Nat.add (List.length p.2.2.2.2.1) 1) 16) 140737488355328) (L8 (p.1, p.2.1, (Go.IntKind.wrap Go.IntKind.i64 (Int.add p.2.2.1 (Int.ofNat 1))), v1.2.1.1, (List.append p.2.2.2.2.1 (List.cons (v1.1.1.1, v1.1.1.2) [])), p.2.2.2.2.2.1, p.2.2.2.2.2.2.1, p.2.2.2.2.2.2.2)) none))) (match (jget p.2.2.2.1 p.2.2.2.2.2.1) with | .none  => none | .some v29 => (match (jget p.2.2.2.2.2.2.2 v29) with | .none  => none | .some v30 => (match (GetElem?.getElem? p.2.2.2.2.2.2.2 (Int.toNat v29)) with | .none  => none | .some v31 => (L4 ((Go.IntKind.wrap Go.IntKind.i64 (Int.add p.2.2.2.2.2.2.1 (Int.ofNat 1))), (List.set p.2.2.2.2.2.2.2 (Int.toNat v29) (p.1, p.2.2.2.2.1)), p.2.2.2.1))))))
def R_l_turned_15 (lf : Nat) (x1 : DGraph) (x2 : (List Int)) (L15 : ((List Int) × (List DNode) × Int × (List DVal)) → Option Rt_l_turned) (p : (List Int) × (List DNode) × Int × (List DVal)) : Option Rt_l_turned := (cond (iltI p.2.2.1 (Int.ofNat (List.length x1.2))) (match (jget x1.2 p.2.2.1) with | .none  => none | .some v0 => (match (Go.Proofs.Ytcnhjofpmpipfaa.S.turnV (v0.1, v0.2) p.1) with | .none  => none | .some v1 => (cond (Nat.ble (Nat.mul (Nat.add (List.length p.2.2.2) 1) 16) 140737488355328) (L15 (v1.2.1.1, p.2.1, (Go.IntKind.wrap Go.IntKind.i64 (Int.add p.2.2.1 (Int.ofNat 1))), (List.append p.2.2.2 (List.cons (v1.1.1.1, v1.1.1.2) [])))) none))) (some ((p.2.1, p.2.2.2), ())))
theorem in_l_turned (g : ElA [cGraph, (.list (.int .i64))] → Option Rt_l_turned) (J : Nat → List Nat → NRes → Option Rt_l_turned) (lf : Nat) (x1 : DGraph) (x2 : (List Int)) : icodeT Try.prog ttT.get nm_l_turned fi23.nt (cl_l_turned _ lf) lf st_l_turned J fi23.body [] (argGo (argV [cGraph, (.list (.int .i64))] (x1, x2, ())) 0 .leaf) S0 [] (lastK ttT.get fi23 ⟨[cGraph, (.list (.int .i64))], [(false, cGraph)], g⟩) = R_l_turned_in lf x1 x2 (fun q => J 4 [lf] (enc_l_turned_4 x1 x2 q)) := by kernel_rfl
theorem st_l_turned_4 (g : ElA [cGraph, (.list (.int .i64))] → Option Rt_l_turned) (J : Nat → List Nat → NRes → Option Rt_l_turned) (lf : Nat) (x1 : DGraph) (x2 : (List Int)) (m1 : Nat) (p : Int × (List DNode) × (List Int)) : icodeFT Try.prog ttT.get nm_l_turned fi23.nt (cl_l_turned _ lf) lf st_l_turned J 4 fi23.body [] [m1] (enc_l_turned_4 x1 x2 p) (lastK ttT.get fi23 ⟨[cGraph, (.list (.int .i64))], [(false, cGraph)], g⟩) = R_l_turned_4 lf x1 x2 (fun q => J 8 [m1, lf] (enc_l_turned_8 x1 x2 q)) (fun q => J 15 [lf] (enc_l_turned_15 x1 x2 q)) p := by kernel_rfl
theorem st_l_turned_8 (g : ElA [cGraph, (.list (.int .i64))] → Option Rt_l_turned) (J : Nat → List Nat → NRes → Option Rt_l_turned) (lf : Nat) (x1 : DGraph) (x2 : (List Int)) (m1 : Nat) (m2 : Nat) (p : ByteArray × (List DVal) × Int × (List Int) × (List DVal) × Int × Int × (List DNode)) : icodeFT Try.prog ttT.get nm_l_turned fi23.nt (cl_l_turned _ lf) lf st_l_turned J 8 fi23.body [] [m1, m2] (enc_l_turned_8 x1 x2 p) (lastK ttT.get fi23 ⟨[cGraph, (.list (.int .i64))], [(false, cGraph)], g⟩) = R_l_turned_8 lf x1 x2 (fun q => J 8 [m1, m2] (enc_l_turned_8 x1 x2 q)) (fun q => J 4 [m1] (enc_l_turned_4 x1 x2 q)) p := by kernel_rfl
theorem st_l_turned_15 (g : ElA [cGraph, (.list (.int .i64))] → Option Rt_l_turned) (J : Nat → List Nat → NRes → Option Rt_l_turned) (lf : Nat) (x1 : DGraph) (x2 : (List Int)) (m1 : Nat) (p : (List Int) × (List DNode) × Int × (List DVal)) : icodeFT Try.prog ttT.get nm_l_turned fi23.nt (cl_l_turned _ lf) lf st_l_turned J 15 fi23.body [] [m1] (enc_l_turned_15 x1 x2 p) (lastK ttT.get fi23 ⟨[cGraph, (.list (.int .i64))], [(false, cGraph)], g⟩) = R_l_turned_15 lf x1 x2 (fun q => J 15 [m1] (enc_l_turned_15 x1 x2 q)) p := by kernel_rfl
theorem nd_l_turned : (regs fi23.body).Nodup := by decide +kernel
theorem ok_l_turned : okC nm_l_turned st_l_turned hd_l_turned fi23.body none = true := by kernel_rfl
def A_l_turned (g : ElA [cGraph, (.list (.int .i64))] → Option Rt_l_turned) (lf : Nat) : Nat → List Nat → NRes → Option Rt_l_turned := atN Try.prog ttT.get nm_l_turned fi23 ⟨[cGraph, (.list (.int .i64))], [(false, cGraph)], g⟩ (cl_l_turned _ lf) lf hd_l_turned
def G_l_turned_8 (lf : Nat) (x1 : DGraph) (x2 : (List Int)) (K4 : (Int × (List DNode) × (List Int)) → Option Rt_l_turned) : Nat → (ByteArray × (List DVal) × Int × (List Int) × (List DVal) × Int × Int × (List DNode)) → Option Rt_l_turned := rounds fun K p => R_l_turned_8 lf x1 x2 K K4 p
theorem at_l_turned_8 (g : ElA [cGraph, (.list (.int .i64))] → Option Rt_l_turned) (lf : Nat) (x1 : DGraph) (x2 : (List Int)) (m1 : Nat) : ∀ (n : Nat) (p : ByteArray × (List DVal) × Int × (List Int) × (List DVal) × Int × Int × (List DNode)), A_l_turned g lf 8 [m1, n] (enc_l_turned_8 x1 x2 p) = G_l_turned_8 lf x1 x2 (fun q => A_l_turned g lf 4 [m1] (enc_l_turned_4 x1 x2 q)) n p
  | 0, p => atN_zero 8 [m1, 0] rfl _
  | n + 1, p => by
    have ih := at_l_turned_8 g lf x1 x2 m1 n
    refine (atN_eq (icallK_eq 20 _) nd_l_turned ok_l_turned 8 [m1, n + 1] [m1, n] rfl _).trans ((st_l_turned_8 g (A_l_turned g lf) lf x1 x2 m1 n p).trans ?_)
    rw [(show (fun q => A_l_turned g lf 8 [m1, n] (enc_l_turned_8 x1 x2 q)) = (fun q => G_l_turned_8 lf x1 x2 (fun q => A_l_turned g lf 4 [m1] (enc_l_turned_4 x1 x2 q)) n q) from funext ih)]
    rfl
def G_l_turned_15 (lf : Nat) (x1 : DGraph) (x2 : (List Int)) : Nat → ((List Int) × (List DNode) × Int × (List DVal)) → Option Rt_l_turned := rounds fun K p => R_l_turned_15 lf x1 x2 K p
theorem at_l_turned_15 (g : ElA [cGraph, (.list (.int .i64))] → Option Rt_l_turned) (lf : Nat) (x1 : DGraph) (x2 : (List Int)) : ∀ (n : Nat) (p : (List Int) × (List DNode) × Int × (List DVal)), A_l_turned g lf 15 [n] (enc_l_turned_15 x1 x2 p) = G_l_turned_15 lf x1 x2 n p
  | 0, p => atN_zero 15 [0] rfl _
  | n + 1, p => by
    have ih := at_l_turned_15 g lf x1 x2 n
    refine (atN_eq (icallK_eq 20 _) nd_l_turned ok_l_turned 15 [n + 1] [n] rfl _).trans ((st_l_turned_15 g (A_l_turned g lf) lf x1 x2 n p).trans ?_)
    rw [(show (fun q => A_l_turned g lf 15 [n] (enc_l_turned_15 x1 x2 q)) = (fun q => G_l_turned_15 lf x1 x2 n q) from funext ih)]
    rfl
def G_l_turned_4 (lf : Nat) (x1 : DGraph) (x2 : (List Int)) : Nat → (Int × (List DNode) × (List Int)) → Option Rt_l_turned := rounds fun K p => R_l_turned_4 lf x1 x2 (fun q => G_l_turned_8 lf x1 x2 K lf q) (fun q => G_l_turned_15 lf x1 x2 lf q) p
theorem at_l_turned_4 (g : ElA [cGraph, (.list (.int .i64))] → Option Rt_l_turned) (lf : Nat) (x1 : DGraph) (x2 : (List Int)) : ∀ (n : Nat) (p : Int × (List DNode) × (List Int)), A_l_turned g lf 4 [n] (enc_l_turned_4 x1 x2 p) = G_l_turned_4 lf x1 x2 n p
  | 0, p => atN_zero 4 [0] rfl _
  | n + 1, p => by
    have ih := at_l_turned_4 g lf x1 x2 n
    refine (atN_eq (icallK_eq 20 _) nd_l_turned ok_l_turned 4 [n + 1] [n] rfl _).trans ((st_l_turned_4 g (A_l_turned g lf) lf x1 x2 n p).trans ?_)
    rw [(show (fun q => A_l_turned g lf 8 [n, lf] (enc_l_turned_8 x1 x2 q)) = (fun q => G_l_turned_8 lf x1 x2 (fun q => A_l_turned g lf 4 [n] (enc_l_turned_4 x1 x2 q)) lf q) from funext fun q => at_l_turned_8 g lf x1 x2 n lf q), (show (fun q => A_l_turned g lf 15 [lf] (enc_l_turned_15 x1 x2 q)) = (fun q => G_l_turned_15 lf x1 x2 lf q) from funext fun q => at_l_turned_15 g lf x1 x2 lf q), (show (fun q => A_l_turned g lf 4 [n] (enc_l_turned_4 x1 x2 q)) = (fun q => G_l_turned_4 lf x1 x2 n q) from funext ih)]
    rfl
def F_l_turned (lf : Nat) (x1 : DGraph) (x2 : (List Int)) : Option Rt_l_turned := R_l_turned_in lf x1 x2 (fun q => G_l_turned_4 lf x1 x2 lf q)
theorem run_l_turned (g : ElA [cGraph, (.list (.int .i64))] → Option Rt_l_turned) (lf : Nat) (x1 : DGraph) (x2 : (List Int)) : icodeT Try.prog ttT.get nm_l_turned fi23.nt (cl_l_turned _ lf) lf st_l_turned (A_l_turned g lf) fi23.body [] (argGo (argV [cGraph, (.list (.int .i64))] (x1, x2, ())) 0 .leaf) S0 [] (lastK ttT.get fi23 ⟨[cGraph, (.list (.int .i64))], [(false, cGraph)], g⟩) = F_l_turned lf x1 x2 := by
    refine (in_l_turned g (A_l_turned g lf) lf x1 x2).trans ?_
    rw [(show (fun q => A_l_turned g lf 4 [lf] (enc_l_turned_4 x1 x2 q)) = (fun q => G_l_turned_4 lf x1 x2 lf q) from funext fun q => at_l_turned_4 g lf x1 x2 lf q)]
    rfl
theorem hxs_l_turned (hr_l_turned_1 : ConR Try.prog 71 sp_l_turned_1) : HxsOK Try.prog hxl_l_turned := ⟨hxR_ok hr_l_turned_1, trivial⟩
theorem mk_l_turned {g : ElA [cGraph, (.list (.int .i64))] → Option Rt_l_turned} (hsm : SmOK Try.prog sml_l_turned) (hr_l_turned_1 : ConR Try.prog 71 sp_l_turned_1) (hg : ∀ (x : ElA [cGraph, (.list (.int .i64))]) (y : Rt_l_turned), WfA [cGraph, (.list (.int .i64))] x → g x = some y → ∃ lf, F_l_turned lf x.1 x.2.1 = some y) : Con Try.prog 23 ⟨[cGraph, (.list (.int .i64))], [(false, cGraph)], g⟩ :=
  conT (nmf := nm_l_turned) (sml := sml_l_turned) (hxl := hxl_l_turned) (st := st_l_turned) (hd := hd_l_turned) 20 mixed ttOK ftOK hsm (hxs_l_turned hr_l_turned_1) cal23 rfl rfl (by kernel_rfl) (fun x => by kernel_rfl) nd_l_turned ok_l_turned fun x y hx hy => by
    obtain ⟨lf, h⟩ := hg x y hx hy
    exact ⟨lf, (run_l_turned g lf x.1 x.2.1).trans h⟩
end Go.Proofs.Ytcnhjofpmpipfaa

end
end

/- The contract of turned. -/
section
set_option linter.unusedVariables false
namespace Go.Proofs.Ytcnhjofpmpipfaa
open Go Go.Sx Go.RowKit Go.Jx
noncomputable def S.turnedO (g : DGraph) (to : List Int) : Option Rt_l_turned := F_l_turned LF g to
noncomputable def sp_l_turned : Sm := ⟨[cGraph, .list (.int .i64)], [(false, cGraph)], fun x => S.turnedO x.1 x.2.1⟩
theorem con_l_turned : Con Try.prog id_l_turned sp_l_turned := mk_l_turned trivial con_l_turned_1 fun x y hx h => ⟨LF, h⟩
end Go.Proofs.Ytcnhjofpmpipfaa
end

/- Made by program: plain forms of functions. -/
section
set_option linter.unusedVariables false
set_option maxRecDepth 100000
noncomputable section
namespace Go.Proofs.Ytcnhjofpmpipfaa
open Go Go.Sx Go.RowKit Go.Jx
def nm_slices_Equal_Val : Nat → Option Nm := fun k => cond (Nat.beq k 4) (some ⟨[0, 1, 12, 13], [], [], [], [], 0, 0, false⟩) (none)
def st_slices_Equal_Val : Nat → Bool := fun k => cond (Nat.beq k 4) true (false)
def hd_slices_Equal_Val : Nat → Bool := fun k => cond (Nat.beq k 4) true (false)
abbrev Rt_slices_Equal_Val : Type := Bool × Unit
def sml_slices_Equal_Val : List (Nat × Sm) := []
def hxl_slices_Equal_Val : List (Nat × Hx) := []
def cl_slices_Equal_Val (R : Type) (lf : Nat) : ClK R := icallK Try.prog ttT.get ftT.get (nm1 30 nm_slices_Equal_Val) (smL sml_slices_Equal_Val) (hxL hxl_slices_Equal_Val) lf 20 R
abbrev id_slices_Equal_Val : Nat := 30
def enc_slices_Equal_Val_4 (x1 : (List DVal)) (x2 : (List DVal)) (p : Int) : NRes := (NRes.mk (PT.node (some (IV.lst cVal x1)) (PT.node (some (IV.lst cVal x2)) PT.leaf (PT.node none PT.leaf (PT.node (some (IV.int Go.IntKind.i64 p)) PT.leaf PT.leaf))) (PT.node none (PT.node none PT.leaf (PT.node (some (IV.int Go.IntKind.i64 (Int.ofNat (List.length x1)))) PT.leaf PT.leaf)) PT.leaf)) (IS.mk PT.leaf 0) [] 0)
def R_slices_Equal_Val_in (lf : Nat) (x1 : (List DVal)) (x2 : (List DVal)) (L4 : Int → Option Rt_slices_Equal_Val) : Option Rt_slices_Equal_Val := (cond (Bool.not (ieqI (Int.ofNat (List.length x1)) (Int.ofNat (List.length x2)))) (some (Bool.false, ())) (L4 (Int.ofNat 0)))
def R_slices_Equal_Val_4 (lf : Nat) (x1 : (List DVal)) (x2 : (List DVal)) (L4 : Int → Option Rt_slices_Equal_Val) (p : Int) : Option Rt_slices_Equal_Val := (cond (iltI p (Int.ofNat (List.length x1))) (match (jget x1 p) with | .none  => none | .some v0 => (match (jget x2 p) with | .none  => none | .some v1 => (cond (Bool.not (Bool.and (keqI v0.1 v1.1) (Bool.and (keqI v0.2 v1.2) Bool.true))) (some (Bool.false, ())) (L4 (Go.IntKind.wrap Go.IntKind.i64 (Int.add p (Int.ofNat 1))))))) (some (Bool.true, ())))
theorem in_slices_Equal_Val (g : ElA [(.list cVal), (.list cVal)] → Option Rt_slices_Equal_Val) (J : Nat → List Nat → NRes → Option Rt_slices_Equal_Val) (lf : Nat) (x1 : (List DVal)) (x2 : (List DVal)) : icodeT Try.prog ttT.get nm_slices_Equal_Val fi30.nt (cl_slices_Equal_Val _ lf) lf st_slices_Equal_Val J fi30.body [] (argGo (argV [(.list cVal), (.list cVal)] (x1, x2, ())) 0 .leaf) S0 [] (lastK ttT.get fi30 ⟨[(.list cVal), (.list cVal)], [(false, .bool)], g⟩) = R_slices_Equal_Val_in lf x1 x2 (fun q => J 4 [lf] (enc_slices_Equal_Val_4 x1 x2 q)) := by kernel_rfl
theorem st_slices_Equal_Val_4 (g : ElA [(.list cVal), (.list cVal)] → Option Rt_slices_Equal_Val) (J : Nat → List Nat → NRes → Option Rt_slices_Equal_Val) (lf : Nat) (x1 : (List DVal)) (x2 : (List DVal)) (m1 : Nat) (p : Int) : icodeFT Try.prog ttT.get nm_slices_Equal_Val fi30.nt (cl_slices_Equal_Val _ lf) lf st_slices_Equal_Val J 4 fi30.body [] [m1] (enc_slices_Equal_Val_4 x1 x2 p) (lastK ttT.get fi30 ⟨[(.list cVal), (.list cVal)], [(false, .bool)], g⟩) = R_slices_Equal_Val_4 lf x1 x2 (fun q => J 4 [m1] (enc_slices_Equal_Val_4 x1 x2 q)) p := by kernel_rfl
theorem nd_slices_Equal_Val : (regs fi30.body).Nodup := by decide +kernel
theorem ok_slices_Equal_Val : okC nm_slices_Equal_Val st_slices_Equal_Val hd_slices_Equal_Val fi30.body none = true := by kernel_rfl
def A_slices_Equal_Val (g : ElA [(.list cVal), (.list cVal)] → Option Rt_slices_Equal_Val) (lf : Nat) : Nat → List Nat → NRes → Option Rt_slices_Equal_Val := atN Try.prog ttT.get nm_slices_Equal_Val fi30 ⟨[(.list cVal), (.list cVal)], [(false, .bool)], g⟩ (cl_slices_Equal_Val _ lf) lf hd_slices_Equal_Val
def G_slices_Equal_Val_4 (lf : Nat) (x1 : (List DVal)) (x2 : (List DVal)) : Nat → (Int) → Option Rt_slices_Equal_Val := rounds fun K p => R_slices_Equal_Val_4 lf x1 x2 K p
theorem at_slices_Equal_Val_4 (g : ElA [(.list cVal), (.list cVal)] → Option Rt_slices_Equal_Val) (lf : Nat) (x1 : (List DVal)) (x2 : (List DVal)) : ∀ (n : Nat) (p : Int), A_slices_Equal_Val g lf 4 [n] (enc_slices_Equal_Val_4 x1 x2 p) = G_slices_Equal_Val_4 lf x1 x2 n p
  | 0, p => atN_zero 4 [0] rfl _
  | n + 1, p => by
    have ih := at_slices_Equal_Val_4 g lf x1 x2 n
    refine (atN_eq (icallK_eq 20 _) nd_slices_Equal_Val ok_slices_Equal_Val 4 [n + 1] [n] rfl _).trans ((st_slices_Equal_Val_4 g (A_slices_Equal_Val g lf) lf x1 x2 n p).trans ?_)
    rw [(show (fun q => A_slices_Equal_Val g lf 4 [n] (enc_slices_Equal_Val_4 x1 x2 q)) = (fun q => G_slices_Equal_Val_4 lf x1 x2 n q) from funext ih)]
    rfl
def F_slices_Equal_Val (lf : Nat) (x1 : (List DVal)) (x2 : (List DVal)) : Option Rt_slices_Equal_Val := R_slices_Equal_Val_in lf x1 x2 (fun q => G_slices_Equal_Val_4 lf x1 x2 lf q)
theorem run_slices_Equal_Val (g : ElA [(.list cVal), (.list cVal)] → Option Rt_slices_Equal_Val) (lf : Nat) (x1 : (List DVal)) (x2 : (List DVal)) : icodeT Try.prog ttT.get nm_slices_Equal_Val fi30.nt (cl_slices_Equal_Val _ lf) lf st_slices_Equal_Val (A_slices_Equal_Val g lf) fi30.body [] (argGo (argV [(.list cVal), (.list cVal)] (x1, x2, ())) 0 .leaf) S0 [] (lastK ttT.get fi30 ⟨[(.list cVal), (.list cVal)], [(false, .bool)], g⟩) = F_slices_Equal_Val lf x1 x2 := by
    refine (in_slices_Equal_Val g (A_slices_Equal_Val g lf) lf x1 x2).trans ?_
    rw [(show (fun q => A_slices_Equal_Val g lf 4 [lf] (enc_slices_Equal_Val_4 x1 x2 q)) = (fun q => G_slices_Equal_Val_4 lf x1 x2 lf q) from funext fun q => at_slices_Equal_Val_4 g lf x1 x2 lf q)]
    rfl
theorem hxs_slices_Equal_Val : HxsOK Try.prog hxl_slices_Equal_Val := trivial
theorem mk_slices_Equal_Val {g : ElA [(.list cVal), (.list cVal)] → Option Rt_slices_Equal_Val} (hsm : SmOK Try.prog sml_slices_Equal_Val) (hg : ∀ (x : ElA [(.list cVal), (.list cVal)]) (y : Rt_slices_Equal_Val), WfA [(.list cVal), (.list cVal)] x → g x = some y → ∃ lf, F_slices_Equal_Val lf x.1 x.2.1 = some y) : Con Try.prog 30 ⟨[(.list cVal), (.list cVal)], [(false, .bool)], g⟩ :=
  conT (nmf := nm_slices_Equal_Val) (sml := sml_slices_Equal_Val) (hxl := hxl_slices_Equal_Val) (st := st_slices_Equal_Val) (hd := hd_slices_Equal_Val) 20 mixed ttOK ftOK hsm hxs_slices_Equal_Val cal30 rfl rfl (by kernel_rfl) (fun x => by kernel_rfl) nd_slices_Equal_Val ok_slices_Equal_Val fun x y hx hy => by
    obtain ⟨lf, h⟩ := hg x y hx hy
    exact ⟨lf, (run_slices_Equal_Val g lf x.1 x.2.1).trans h⟩
end Go.Proofs.Ytcnhjofpmpipfaa

end
end

/- Equal lists of values. -/
section
set_option linter.unusedVariables false
namespace Go.Proofs.Ytcnhjofpmpipfaa
open Go Go.Sx Go.RowKit Go.Jx
def S.eqVal (a b : DVal) : Bool := keqI (a : Int × Int).1 (b : Int × Int).1 && (keqI (a : Int × Int).2 (b : Int × Int).2 && true)
def S.eqVals : List DVal → List DVal → Bool
  | [], [] => true
  | a :: x, b :: y => S.eqVal a b && S.eqVals x y
  | _, _ => false
theorem eqVals_len : ∀ {a b : List DVal}, S.eqVals a b = true → a.length = b.length
  | [], [], _ => rfl
  | [], _ :: _, h => by cases h
  | _ :: _, [], h => by cases h
  | a :: x, b :: y, h => by
    simp only [S.eqVals, Bool.and_eq_true] at h
    simp [eqVals_len h.2]
def sp_slices_Equal_Val : Sm := ⟨[.list cVal, .list cVal], [(false, .bool)], fun x => some (S.eqVals x.1 x.2.1, ())⟩
theorem run_Equal_Val (a b : List DVal) (ha : a.length < LF) : F_slices_Equal_Val LF a b = some (S.eqVals a b, ()) := by
  simp only [F_slices_Equal_Val, R_slices_Equal_Val_in]
  by_cases hl : a.length = b.length
  · have h1 : ieqI (Int.ofNat (List.length a)) (Int.ofNat (List.length b)) = true := by rw [ieqI_eq]; exact decide_eq_true (by rw [hl])
    simp only [h1, Bool.not_true, cond_false]
    refine (range1 (R := Rt_slices_Equal_Val) a (fun rest i => some (S.eqVals rest (b.drop i), ())) ha (fun K => ?_) (fun K i v rest r hk => ?_)).trans ?_
    · simp only [R_slices_Equal_Val_4, ilt_self, cond_false]
      rw [hl, List.drop_length]; rfl
    · have hi : i < b.length := by rw [← hl]; exact r.lt
      have hj : jget b (Int.ofNat i) = some b[i] := by rw [jget_nat]; exact List.getElem?_eq_getElem hi
      have hd : b.drop i = b[i] :: b.drop (i + 1) := List.drop_eq_getElem_cons hi
      simp only [R_slices_Equal_Val_4, r.ilt, cond_true, r.get, hj, r.next]
      rw [hd]
      show (cond (Bool.not (S.eqVal v b[i])) (some (false, ())) (K (Int.ofNat (i + 1)))) = some (S.eqVal v b[i] && S.eqVals rest (b.drop (i + 1)), ())
      cases S.eqVal v b[i] with
      | false => rfl
      | true => exact hk
    · rw [List.drop_zero]
  · have h1 : ieqI (Int.ofNat (List.length a)) (Int.ofNat (List.length b)) = false := by rw [ieqI_eq]; exact decide_eq_false (fun e => hl (Int.ofNat.inj e))
    simp only [h1, Bool.not_false, cond_true]
    have : S.eqVals a b = false := by
      cases he : S.eqVals a b with
      | false => rfl
      | true => exact absurd (eqVals_len he) hl
    rw [this]
theorem con_slices_Equal_Val : Con Try.prog id_slices_Equal_Val sp_slices_Equal_Val := mk_slices_Equal_Val trivial fun x y hx h => ⟨LF, by
  obtain ⟨a, b, _⟩ := x
  exact (run_Equal_Val a b (wf_len hx.1)).trans h⟩
end Go.Proofs.Ytcnhjofpmpipfaa
end

/- Made by program: plain forms of functions. -/
section
set_option linter.unusedVariables false
set_option maxRecDepth 100000
noncomputable section
namespace Go.Proofs.Ytcnhjofpmpipfaa
open Go Go.Sx Go.RowKit Go.Jx
def nm_slices_EqualFunc_Node : Nat → Option Nm := fun k => cond (Nat.beq k 4) (some ⟨[1, 2, 15, 16, 17], [], [], [], [], 0, 0, false⟩) (cond (Nat.beq k 999999) (some ⟨[], [], [], [], [], 0, 0, false⟩) none)
def st_slices_EqualFunc_Node : Nat → Bool := fun k => cond (Nat.beq k 4) true (false)
def hd_slices_EqualFunc_Node : Nat → Bool := fun k => cond (Nat.beq k 4) true (false)
abbrev Rt_slices_EqualFunc_Node : Type := (Bool × Unit) × Unit
def sml_slices_EqualFunc_Node : List (Nat × Sm) := [(30, sp_slices_Equal_Val)]
def hxl_slices_EqualFunc_Node : List (Nat × Hx) := []
def cl_slices_EqualFunc_Node (R : Type) (lf : Nat) : ClK R := icallK Try.prog ttT.get ftT.get (fun _ _ => none) (smL sml_slices_EqualFunc_Node) (hxL hxl_slices_EqualFunc_Node) lf 20 R
abbrev id_slices_EqualFunc_Node : Nat := 110
def enc_slices_EqualFunc_Node_4 (x1 : (List DNode)) (x2 : (List DNode)) (p : Int) : NRes := (NRes.mk (PT.node none (PT.node (some (IV.lst cNode x2)) (PT.node none (PT.node none (PT.node (some (IV.lst cNode x1)) PT.leaf PT.leaf) PT.leaf) PT.leaf) (PT.node none (PT.node none (PT.node (some (IV.int Go.IntKind.i64 p)) PT.leaf PT.leaf) PT.leaf) PT.leaf)) (PT.node (some (IV.fn 111 [])) (PT.node none (PT.node none (PT.node (some (IV.int Go.IntKind.i64 (Int.ofNat (List.length x1)))) PT.leaf PT.leaf) PT.leaf) PT.leaf) PT.leaf)) (IS.mk PT.leaf 0) [] 0)
def R_slices_EqualFunc_Node_in (lf : Nat) (x1 : (List DNode)) (x2 : (List DNode)) (L4 : Int → Option Rt_slices_EqualFunc_Node) : Option Rt_slices_EqualFunc_Node := (cond (Bool.not (ieqI (Int.ofNat (List.length x1)) (Int.ofNat (List.length x2)))) (some ((Bool.false, ()), ())) (L4 (Int.ofNat 0)))
def R_slices_EqualFunc_Node_4 (lf : Nat) (x1 : (List DNode)) (x2 : (List DNode)) (L4 : Int → Option Rt_slices_EqualFunc_Node) (p : Int) : Option Rt_slices_EqualFunc_Node := (cond (iltI p (Int.ofNat (List.length x1))) (match (jget x1 p) with | .none  => none | .some v0 => (match (jget x2 p) with | .none  => none | .some v1 => (cond (keqS v0.1 v1.1) (cond (Bool.not (Go.Proofs.Ytcnhjofpmpipfaa.S.eqVals v0.2 v1.2)) (some ((Bool.false, ()), ())) (L4 (Go.IntKind.wrap Go.IntKind.i64 (Int.add p (Int.ofNat 1))))) (some ((Bool.false, ()), ()))))) (some ((Bool.true, ()), ())))
theorem in_slices_EqualFunc_Node (g : ElP [.dat (.list cNode), .dat (.list cNode), .fn 111] → Option Rt_slices_EqualFunc_Node) (J : Nat → List Nat → NRes → Option Rt_slices_EqualFunc_Node) (lf : Nat) (x1 : (List DNode)) (x2 : (List DNode)) : icodeTB Try.prog ttT.get nm_slices_EqualFunc_Node (mP [.dat (.list cNode), .dat (.list cNode), .fn 111]) fi110.nt (cl_slices_EqualFunc_Node _ lf) lf st_slices_EqualFunc_Node J fi110.body [] (argGo (argsP [.dat (.list cNode), .dat (.list cNode), .fn 111] idN 0 (x1, x2, ())) 0 .leaf) (Sc [.dat (.list cNode), .dat (.list cNode), .fn 111] (x1, x2, ())) [] (lastQ ttT.get fi110 ⟨[.dat (.list cNode), .dat (.list cNode), .fn 111], [(false, .bool)], g⟩) = R_slices_EqualFunc_Node_in lf x1 x2 (fun q => J 4 [lf] (enc_slices_EqualFunc_Node_4 x1 x2 q)) := by kernel_rfl
theorem st_slices_EqualFunc_Node_4 (g : ElP [.dat (.list cNode), .dat (.list cNode), .fn 111] → Option Rt_slices_EqualFunc_Node) (J : Nat → List Nat → NRes → Option Rt_slices_EqualFunc_Node) (lf : Nat) (x1 : (List DNode)) (x2 : (List DNode)) (m1 : Nat) (p : Int) : icodeFTB Try.prog ttT.get nm_slices_EqualFunc_Node (mP [.dat (.list cNode), .dat (.list cNode), .fn 111]) fi110.nt (cl_slices_EqualFunc_Node _ lf) lf st_slices_EqualFunc_Node J 4 fi110.body [] [m1] (enc_slices_EqualFunc_Node_4 x1 x2 p) (lastQ ttT.get fi110 ⟨[.dat (.list cNode), .dat (.list cNode), .fn 111], [(false, .bool)], g⟩) = R_slices_EqualFunc_Node_4 lf x1 x2 (fun q => J 4 [m1] (enc_slices_EqualFunc_Node_4 x1 x2 q)) p := by kernel_rfl
theorem nd_slices_EqualFunc_Node : (regs fi110.body).Nodup := by decide +kernel
theorem ok_slices_EqualFunc_Node : okC nm_slices_EqualFunc_Node st_slices_EqualFunc_Node hd_slices_EqualFunc_Node fi110.body none = true := by kernel_rfl
def A_slices_EqualFunc_Node (g : ElP [.dat (.list cNode), .dat (.list cNode), .fn 111] → Option Rt_slices_EqualFunc_Node) (lf : Nat) : Nat → List Nat → NRes → Option Rt_slices_EqualFunc_Node := atQ Try.prog ttT.get nm_slices_EqualFunc_Node fi110 ⟨[.dat (.list cNode), .dat (.list cNode), .fn 111], [(false, .bool)], g⟩ (cl_slices_EqualFunc_Node _ lf) lf hd_slices_EqualFunc_Node
def G_slices_EqualFunc_Node_4 (lf : Nat) (x1 : (List DNode)) (x2 : (List DNode)) : Nat → (Int) → Option Rt_slices_EqualFunc_Node := rounds fun K p => R_slices_EqualFunc_Node_4 lf x1 x2 K p
theorem at_slices_EqualFunc_Node_4 (g : ElP [.dat (.list cNode), .dat (.list cNode), .fn 111] → Option Rt_slices_EqualFunc_Node) (lf : Nat) (x1 : (List DNode)) (x2 : (List DNode)) : ∀ (n : Nat) (p : Int), A_slices_EqualFunc_Node g lf 4 [n] (enc_slices_EqualFunc_Node_4 x1 x2 p) = G_slices_EqualFunc_Node_4 lf x1 x2 n p
  | 0, p => atQ_zero 4 [0] rfl _
  | n + 1, p => by
    have ih := at_slices_EqualFunc_Node_4 g lf x1 x2 n
    refine (atQ_eq rfl (icallK_eq 20 _) nd_slices_EqualFunc_Node ok_slices_EqualFunc_Node 4 [n + 1] [n] rfl _).trans ((st_slices_EqualFunc_Node_4 g (A_slices_EqualFunc_Node g lf) lf x1 x2 n p).trans ?_)
    rw [(show (fun q => A_slices_EqualFunc_Node g lf 4 [n] (enc_slices_EqualFunc_Node_4 x1 x2 q)) = (fun q => G_slices_EqualFunc_Node_4 lf x1 x2 n q) from funext ih)]
    rfl
def F_slices_EqualFunc_Node (lf : Nat) (x1 : (List DNode)) (x2 : (List DNode)) : Option Rt_slices_EqualFunc_Node := R_slices_EqualFunc_Node_in lf x1 x2 (fun q => G_slices_EqualFunc_Node_4 lf x1 x2 lf q)
theorem run_slices_EqualFunc_Node (g : ElP [.dat (.list cNode), .dat (.list cNode), .fn 111] → Option Rt_slices_EqualFunc_Node) (lf : Nat) (x1 : (List DNode)) (x2 : (List DNode)) : icodeTB Try.prog ttT.get nm_slices_EqualFunc_Node (mP [.dat (.list cNode), .dat (.list cNode), .fn 111]) fi110.nt (cl_slices_EqualFunc_Node _ lf) lf st_slices_EqualFunc_Node (A_slices_EqualFunc_Node g lf) fi110.body [] (argGo (argsP [.dat (.list cNode), .dat (.list cNode), .fn 111] idN 0 (x1, x2, ())) 0 .leaf) (Sc [.dat (.list cNode), .dat (.list cNode), .fn 111] (x1, x2, ())) [] (lastQ ttT.get fi110 ⟨[.dat (.list cNode), .dat (.list cNode), .fn 111], [(false, .bool)], g⟩) = F_slices_EqualFunc_Node lf x1 x2 := by
    refine (in_slices_EqualFunc_Node g (A_slices_EqualFunc_Node g lf) lf x1 x2).trans ?_
    rw [(show (fun q => A_slices_EqualFunc_Node g lf 4 [lf] (enc_slices_EqualFunc_Node_4 x1 x2 q)) = (fun q => G_slices_EqualFunc_Node_4 lf x1 x2 lf q) from funext fun q => at_slices_EqualFunc_Node_4 g lf x1 x2 lf q)]
    rfl
theorem hxs_slices_EqualFunc_Node : HxsOK Try.prog hxl_slices_EqualFunc_Node := trivial
theorem mk_slices_EqualFunc_Node {g : ElP [.dat (.list cNode), .dat (.list cNode), .fn 111] → Option Rt_slices_EqualFunc_Node} (hsm : SmOK Try.prog sml_slices_EqualFunc_Node) (hg : ∀ (x : ElP [.dat (.list cNode), .dat (.list cNode), .fn 111]) (y : Rt_slices_EqualFunc_Node), WfP [.dat (.list cNode), .dat (.list cNode), .fn 111] x → g x = some y → ∃ lf, F_slices_EqualFunc_Node lf x.1 x.2.1 = some y) : ConR Try.prog 110 ⟨[.dat (.list cNode), .dat (.list cNode), .fn 111], [(false, .bool)], g⟩ :=
  conTR (nmf := nm_slices_EqualFunc_Node) (sml := sml_slices_EqualFunc_Node) (hxl := hxl_slices_EqualFunc_Node) (st := st_slices_EqualFunc_Node) (hd := hd_slices_EqualFunc_Node) 20 mixed ttOK ftOK hsm hxs_slices_EqualFunc_Node cal110 (by kernel_rfl) (fun x => by kernel_rfl) nd_slices_EqualFunc_Node ok_slices_EqualFunc_Node fun x y z hx hy => by
    obtain ⟨lf, h⟩ := hg x (y, z) hx hy
    exact ⟨lf, (run_slices_EqualFunc_Node g lf x.1 x.2.1).trans h⟩
end Go.Proofs.Ytcnhjofpmpipfaa

end
end

/- Equal lists of objects. -/
section
set_option linter.unusedVariables false
namespace Go.Proofs.Ytcnhjofpmpipfaa
open Go Go.Sx Go.RowKit Go.Jx
def S.eqNode (a b : DNode) : Bool := keqS (a : ByteArray × List DVal).1 (b : ByteArray × List DVal).1 && S.eqVals (a : ByteArray × List DVal).2 (b : ByteArray × List DVal).2
def S.eqNodes : List DNode → List DNode → Bool
  | [], [] => true
  | a :: x, b :: y => S.eqNode a b && S.eqNodes x y
  | _, _ => false
theorem eqNodes_len : ∀ {a b : List DNode}, S.eqNodes a b = true → a.length = b.length
  | [], [], _ => rfl
  | [], _ :: _, h => by cases h
  | _ :: _, [], h => by cases h
  | a :: x, b :: y, h => by
    simp only [S.eqNodes, Bool.and_eq_true] at h
    simp [eqNodes_len h.2]
def sp_slices_EqualFunc_Node : SmR := ⟨[.dat (.list cNode), .dat (.list cNode), .fn 111], [(false, .bool)], fun x => some ((S.eqNodes x.1 x.2.1, ()), ())⟩
theorem run_EqualFunc_Node (a b : List DNode) (ha : a.length < LF) : F_slices_EqualFunc_Node LF a b = some ((S.eqNodes a b, ()), ()) := by
  simp only [F_slices_EqualFunc_Node, R_slices_EqualFunc_Node_in]
  by_cases hl : a.length = b.length
  · have h1 : ieqI (Int.ofNat (List.length a)) (Int.ofNat (List.length b)) = true := by rw [ieqI_eq]; exact decide_eq_true (by rw [hl])
    simp only [h1, Bool.not_true, cond_false]
    refine (range1 (R := Rt_slices_EqualFunc_Node) a (fun rest i => some ((S.eqNodes rest (b.drop i), ()), ())) ha (fun K => ?_) (fun K i v rest r hk => ?_)).trans ?_
    · simp only [R_slices_EqualFunc_Node_4, ilt_self, cond_false]
      rw [hl, List.drop_length]; rfl
    · have hi : i < b.length := by rw [← hl]; exact r.lt
      have hj : jget b (Int.ofNat i) = some b[i] := by rw [jget_nat]; exact List.getElem?_eq_getElem hi
      have hd : b.drop i = b[i] :: b.drop (i + 1) := List.drop_eq_getElem_cons hi
      simp only [R_slices_EqualFunc_Node_4, r.ilt, cond_true, r.get, hj, r.next]
      rw [hd]
      show _ = some ((S.eqNode v b[i] && S.eqNodes rest (b.drop (i + 1)), ()), ())
      unfold S.eqNode
      cases keqS (v : ByteArray × List DVal).1 (b[i] : ByteArray × List DVal).1 with
      | false => rfl
      | true =>
        show (cond (Bool.not (S.eqVals (v : ByteArray × List DVal).2 (b[i] : ByteArray × List DVal).2)) (some ((false, ()), ())) (K (Int.ofNat (i + 1)))) = some (((true && S.eqVals (v : ByteArray × List DVal).2 (b[i] : ByteArray × List DVal).2) && S.eqNodes rest (b.drop (i + 1)), ()), ())
        cases S.eqVals (v : ByteArray × List DVal).2 (b[i] : ByteArray × List DVal).2 with
        | false => rfl
        | true => exact hk
    · rw [List.drop_zero]
  · have h1 : ieqI (Int.ofNat (List.length a)) (Int.ofNat (List.length b)) = false := by rw [ieqI_eq]; exact decide_eq_false (fun e => hl (Int.ofNat.inj e))
    simp only [h1, Bool.not_false, cond_true]
    have : S.eqNodes a b = false := by
      cases he : S.eqNodes a b with
      | false => rfl
      | true => exact absurd (eqNodes_len he) hl
    rw [this]
theorem con_slices_EqualFunc_Node : ConR Try.prog id_slices_EqualFunc_Node sp_slices_EqualFunc_Node := mk_slices_EqualFunc_Node ⟨con_slices_Equal_Val, trivial⟩ fun x y hx h => ⟨LF, by
  obtain ⟨a, b, _⟩ := x
  exact (run_EqualFunc_Node a b (wf_len hx.1)).trans h⟩
end Go.Proofs.Ytcnhjofpmpipfaa
end

/- Made by program: plain forms of functions. -/
section
set_option linter.unusedVariables false
set_option maxRecDepth 100000
noncomputable section
namespace Go.Proofs.Ytcnhjofpmpipfaa
open Go Go.Sx Go.RowKit Go.Jx
def nm_p_equal : Nat → Option Nm := fun k => none
def st_p_equal : Nat → Bool := fun k => false
def hd_p_equal : Nat → Bool := fun k => false
abbrev Rt_p_equal : Type := Bool × Unit
def sml_p_equal : List (Nat × Sm) := [(30, sp_slices_Equal_Val)]
def hxl_p_equal : List (Nat × Hx) := [(110, hxR sp_slices_EqualFunc_Node)]
def cl_p_equal (R : Type) (lf : Nat) : ClK R := icallK Try.prog ttT.get ftT.get (nm1 72 nm_p_equal) (smL sml_p_equal) (hxL hxl_p_equal) lf 20 R
abbrev id_p_equal : Nat := 72
def R_p_equal_in (lf : Nat) (x1 : DGraph) (x2 : DGraph) : Option Rt_p_equal := (cond (Go.Proofs.Ytcnhjofpmpipfaa.S.eqVals x1.2 x2.2) (some ((Go.Proofs.Ytcnhjofpmpipfaa.S.eqNodes x1.1 x2.1), ())) (some (Bool.false, ())))
theorem in_p_equal (g : ElA [cGraph, cGraph] → Option Rt_p_equal) (J : Nat → List Nat → NRes → Option Rt_p_equal) (lf : Nat) (x1 : DGraph) (x2 : DGraph) : icodeT Try.prog ttT.get nm_p_equal fi72.nt (cl_p_equal _ lf) lf st_p_equal J fi72.body [] (argGo (argV [cGraph, cGraph] (x1, x2, ())) 0 .leaf) S0 [] (lastK ttT.get fi72 ⟨[cGraph, cGraph], [(false, .bool)], g⟩) = R_p_equal_in lf x1 x2 := by kernel_rfl
theorem nd_p_equal : (regs fi72.body).Nodup := by decide +kernel
theorem ok_p_equal : okC nm_p_equal st_p_equal hd_p_equal fi72.body none = true := by kernel_rfl
def A_p_equal (g : ElA [cGraph, cGraph] → Option Rt_p_equal) (lf : Nat) : Nat → List Nat → NRes → Option Rt_p_equal := atN Try.prog ttT.get nm_p_equal fi72 ⟨[cGraph, cGraph], [(false, .bool)], g⟩ (cl_p_equal _ lf) lf hd_p_equal
def F_p_equal (lf : Nat) (x1 : DGraph) (x2 : DGraph) : Option Rt_p_equal := R_p_equal_in lf x1 x2
theorem run_p_equal (g : ElA [cGraph, cGraph] → Option Rt_p_equal) (lf : Nat) (x1 : DGraph) (x2 : DGraph) : icodeT Try.prog ttT.get nm_p_equal fi72.nt (cl_p_equal _ lf) lf st_p_equal (A_p_equal g lf) fi72.body [] (argGo (argV [cGraph, cGraph] (x1, x2, ())) 0 .leaf) S0 [] (lastK ttT.get fi72 ⟨[cGraph, cGraph], [(false, .bool)], g⟩) = F_p_equal lf x1 x2 := by
    refine (in_p_equal g (A_p_equal g lf) lf x1 x2).trans ?_
    rfl
theorem hxs_p_equal (hr_slices_EqualFunc_Node : ConR Try.prog 110 sp_slices_EqualFunc_Node) : HxsOK Try.prog hxl_p_equal := ⟨hxR_ok hr_slices_EqualFunc_Node, trivial⟩
theorem mk_p_equal {g : ElA [cGraph, cGraph] → Option Rt_p_equal} (hsm : SmOK Try.prog sml_p_equal) (hr_slices_EqualFunc_Node : ConR Try.prog 110 sp_slices_EqualFunc_Node) (hg : ∀ (x : ElA [cGraph, cGraph]) (y : Rt_p_equal), WfA [cGraph, cGraph] x → g x = some y → ∃ lf, F_p_equal lf x.1 x.2.1 = some y) : Con Try.prog 72 ⟨[cGraph, cGraph], [(false, .bool)], g⟩ :=
  conT (nmf := nm_p_equal) (sml := sml_p_equal) (hxl := hxl_p_equal) (st := st_p_equal) (hd := hd_p_equal) 20 mixed ttOK ftOK hsm (hxs_p_equal hr_slices_EqualFunc_Node) cal72 rfl rfl (by kernel_rfl) (fun x => by kernel_rfl) nd_p_equal ok_p_equal fun x y hx hy => by
    obtain ⟨lf, h⟩ := hg x y hx hy
    exact ⟨lf, (run_p_equal g lf x.1 x.2.1).trans h⟩
end Go.Proofs.Ytcnhjofpmpipfaa

end
end

/- The calls of slices.IndexFunc and of strings.IndexFunc. -/
section
set_option linter.unusedVariables false
set_option maxRecDepth 100000
noncomputable section
namespace Go.Proofs.Ytcnhjofpmpipfaa
open Go Go.Sx Go.RowKit Go.Jx
theorem ixF137 : IdxFacts Try.prog ttT.get cVal fi137 (cL fb137) (cL (cL (cR fb137))) (cB (cB (cR (cL (cR fb137))))) (cR (cR fb137)) :=
  ⟨by kernel_rfl, by kernel_rfl, fun mr => by kernel_rfl, fun R clK B0 mr lf l g caps S kk => by kernel_rfl, fun R clK B0 mr lf l g caps S kk => by kernel_rfl, fun R clK B0 mr lf l g caps S i kk => by kernel_rfl, fun R clK B0 mr lf fr S kk => by kernel_rfl, by kernel_rfl, by kernel_rfl, fun mr => by kernel_rfl⟩
theorem ixO137 : HxOK Try.prog 137 (idxF cVal) := idx_ok ixF137 mixed ttOK fo137
end Go.Proofs.Ytcnhjofpmpipfaa

end
end

/- Made by program: plain forms of functions. -/
section
set_option linter.unusedVariables false
set_option maxRecDepth 100000
noncomputable section
namespace Go.Proofs.Ytcnhjofpmpipfaa
open Go Go.Sx Go.RowKit Go.Jx
def nm_p_within : Nat → Option Nm := fun k => none
def st_p_within : Nat → Bool := fun k => false
def hd_p_within : Nat → Bool := fun k => false
abbrev Rt_p_within : Type := Bool × Unit
def sml_p_within : List (Nat × Sm) := []
def hxl_p_within : List (Nat × Hx) := []
def cl_p_within (R : Type) (lf : Nat) : ClK R := icallK Try.prog ttT.get ftT.get (nm1 83 nm_p_within) (smL sml_p_within) (hxL hxl_p_within) lf 20 R
abbrev id_p_within : Nat := 83
def R_p_within_in (lf : Nat) (x1 : Int) (x2 : Int) (x3 : Int) : Option Rt_p_within := (cond (Bool.not (iltI x1 x2)) (some ((Bool.not (iltI x3 x1)), ())) (some (Bool.false, ())))
theorem in_p_within (g : ElA [(.int .i64), (.int .i64), (.int .i64)] → Option Rt_p_within) (J : Nat → List Nat → NRes → Option Rt_p_within) (lf : Nat) (x1 : Int) (x2 : Int) (x3 : Int) : icodeT Try.prog ttT.get nm_p_within fi83.nt (cl_p_within _ lf) lf st_p_within J fi83.body [] (argGo (argV [(.int .i64), (.int .i64), (.int .i64)] (x1, x2, x3, ())) 0 .leaf) S0 [] (lastK ttT.get fi83 ⟨[(.int .i64), (.int .i64), (.int .i64)], [(false, .bool)], g⟩) = R_p_within_in lf x1 x2 x3 := by kernel_rfl
theorem nd_p_within : (regs fi83.body).Nodup := by decide +kernel
theorem ok_p_within : okC nm_p_within st_p_within hd_p_within fi83.body none = true := by kernel_rfl
def A_p_within (g : ElA [(.int .i64), (.int .i64), (.int .i64)] → Option Rt_p_within) (lf : Nat) : Nat → List Nat → NRes → Option Rt_p_within := atN Try.prog ttT.get nm_p_within fi83 ⟨[(.int .i64), (.int .i64), (.int .i64)], [(false, .bool)], g⟩ (cl_p_within _ lf) lf hd_p_within
def F_p_within (lf : Nat) (x1 : Int) (x2 : Int) (x3 : Int) : Option Rt_p_within := R_p_within_in lf x1 x2 x3
theorem run_p_within (g : ElA [(.int .i64), (.int .i64), (.int .i64)] → Option Rt_p_within) (lf : Nat) (x1 : Int) (x2 : Int) (x3 : Int) : icodeT Try.prog ttT.get nm_p_within fi83.nt (cl_p_within _ lf) lf st_p_within (A_p_within g lf) fi83.body [] (argGo (argV [(.int .i64), (.int .i64), (.int .i64)] (x1, x2, x3, ())) 0 .leaf) S0 [] (lastK ttT.get fi83 ⟨[(.int .i64), (.int .i64), (.int .i64)], [(false, .bool)], g⟩) = F_p_within lf x1 x2 x3 := by
    refine (in_p_within g (A_p_within g lf) lf x1 x2 x3).trans ?_
    rfl
theorem hxs_p_within : HxsOK Try.prog hxl_p_within := trivial
theorem mk_p_within {g : ElA [(.int .i64), (.int .i64), (.int .i64)] → Option Rt_p_within} (hsm : SmOK Try.prog sml_p_within) (hg : ∀ (x : ElA [(.int .i64), (.int .i64), (.int .i64)]) (y : Rt_p_within), WfA [(.int .i64), (.int .i64), (.int .i64)] x → g x = some y → ∃ lf, F_p_within lf x.1 x.2.1 x.2.2.1 = some y) : Con Try.prog 83 ⟨[(.int .i64), (.int .i64), (.int .i64)], [(false, .bool)], g⟩ :=
  conT (nmf := nm_p_within) (sml := sml_p_within) (hxl := hxl_p_within) (st := st_p_within) (hd := hd_p_within) 20 mixed ttOK ftOK hsm hxs_p_within cal83 rfl rfl (by kernel_rfl) (fun x => by kernel_rfl) nd_p_within ok_p_within fun x y hx hy => by
    obtain ⟨lf, h⟩ := hg x y hx hy
    exact ⟨lf, (run_p_within g lf x.1 x.2.1 x.2.2.1).trans h⟩
def nm_p_first : Nat → Option Nm := fun k => cond (Nat.beq k 2) (some ⟨[5, 6, 7], [], [], [], [], 0, 0, false⟩) (none)
def st_p_first : Nat → Bool := fun k => cond (Nat.beq k 2) true (false)
def hd_p_first : Nat → Bool := fun k => cond (Nat.beq k 2) true (false)
abbrev Rt_p_first : Type := Int × Unit
def sml_p_first : List (Nat × Sm) := []
def hxl_p_first : List (Nat × Hx) := []
def cl_p_first (R : Type) (lf : Nat) : ClK R := icallK Try.prog ttT.get ftT.get (nm1 49 nm_p_first) (smL sml_p_first) (hxL hxl_p_first) lf 20 R
abbrev id_p_first : Nat := 49
def enc_p_first_2 (x1 : (List Int)) (p : Int) : NRes := (NRes.mk (PT.node none (PT.node none (PT.node none (PT.node (some (IV.int Go.IntKind.i64 p)) PT.leaf PT.leaf) PT.leaf) (PT.node (some (IV.lst (TC.int Go.IntKind.i64) x1)) PT.leaf PT.leaf)) (PT.node none PT.leaf (PT.node (some (IV.int Go.IntKind.i64 (Int.ofNat (List.length x1)))) PT.leaf PT.leaf))) (IS.mk PT.leaf 0) [] 0)
def R_p_first_in (lf : Nat) (x1 : (List Int)) (L2 : Int → Option Rt_p_first) : Option Rt_p_first := (L2 (Int.ofNat 0))
def R_p_first_2 (lf : Nat) (x1 : (List Int)) (L2 : Int → Option Rt_p_first) (p : Int) : Option Rt_p_first := (cond (iltI p (Int.ofNat (List.length x1))) (match (jget x1 p) with | .none  => none | .some v0 => (cond (Bool.not (ieqI v0 (Int.ofNat 0))) (some (v0, ())) (L2 (Go.IntKind.wrap Go.IntKind.i64 (Int.add p (Int.ofNat 1)))))) (some ((Int.ofNat 0), ())))
theorem in_p_first (g : ElA [(.list (.int .i64))] → Option Rt_p_first) (J : Nat → List Nat → NRes → Option Rt_p_first) (lf : Nat) (x1 : (List Int)) : icodeT Try.prog ttT.get nm_p_first fi49.nt (cl_p_first _ lf) lf st_p_first J fi49.body [] (argGo (argV [(.list (.int .i64))] (x1, ())) 0 .leaf) S0 [] (lastK ttT.get fi49 ⟨[(.list (.int .i64))], [(false, (.int .i64))], g⟩) = R_p_first_in lf x1 (fun q => J 2 [lf] (enc_p_first_2 x1 q)) := by kernel_rfl
theorem st_p_first_2 (g : ElA [(.list (.int .i64))] → Option Rt_p_first) (J : Nat → List Nat → NRes → Option Rt_p_first) (lf : Nat) (x1 : (List Int)) (m1 : Nat) (p : Int) : icodeFT Try.prog ttT.get nm_p_first fi49.nt (cl_p_first _ lf) lf st_p_first J 2 fi49.body [] [m1] (enc_p_first_2 x1 p) (lastK ttT.get fi49 ⟨[(.list (.int .i64))], [(false, (.int .i64))], g⟩) = R_p_first_2 lf x1 (fun q => J 2 [m1] (enc_p_first_2 x1 q)) p := by kernel_rfl
theorem nd_p_first : (regs fi49.body).Nodup := by decide +kernel
theorem ok_p_first : okC nm_p_first st_p_first hd_p_first fi49.body none = true := by kernel_rfl
def A_p_first (g : ElA [(.list (.int .i64))] → Option Rt_p_first) (lf : Nat) : Nat → List Nat → NRes → Option Rt_p_first := atN Try.prog ttT.get nm_p_first fi49 ⟨[(.list (.int .i64))], [(false, (.int .i64))], g⟩ (cl_p_first _ lf) lf hd_p_first
def G_p_first_2 (lf : Nat) (x1 : (List Int)) : Nat → (Int) → Option Rt_p_first := rounds fun K p => R_p_first_2 lf x1 K p
theorem at_p_first_2 (g : ElA [(.list (.int .i64))] → Option Rt_p_first) (lf : Nat) (x1 : (List Int)) : ∀ (n : Nat) (p : Int), A_p_first g lf 2 [n] (enc_p_first_2 x1 p) = G_p_first_2 lf x1 n p
  | 0, p => atN_zero 2 [0] rfl _
  | n + 1, p => by
    have ih := at_p_first_2 g lf x1 n
    refine (atN_eq (icallK_eq 20 _) nd_p_first ok_p_first 2 [n + 1] [n] rfl _).trans ((st_p_first_2 g (A_p_first g lf) lf x1 n p).trans ?_)
    rw [(show (fun q => A_p_first g lf 2 [n] (enc_p_first_2 x1 q)) = (fun q => G_p_first_2 lf x1 n q) from funext ih)]
    rfl
def F_p_first (lf : Nat) (x1 : (List Int)) : Option Rt_p_first := R_p_first_in lf x1 (fun q => G_p_first_2 lf x1 lf q)
theorem run_p_first (g : ElA [(.list (.int .i64))] → Option Rt_p_first) (lf : Nat) (x1 : (List Int)) : icodeT Try.prog ttT.get nm_p_first fi49.nt (cl_p_first _ lf) lf st_p_first (A_p_first g lf) fi49.body [] (argGo (argV [(.list (.int .i64))] (x1, ())) 0 .leaf) S0 [] (lastK ttT.get fi49 ⟨[(.list (.int .i64))], [(false, (.int .i64))], g⟩) = F_p_first lf x1 := by
    refine (in_p_first g (A_p_first g lf) lf x1).trans ?_
    rw [(show (fun q => A_p_first g lf 2 [lf] (enc_p_first_2 x1 q)) = (fun q => G_p_first_2 lf x1 lf q) from funext fun q => at_p_first_2 g lf x1 lf q)]
    rfl
theorem hxs_p_first : HxsOK Try.prog hxl_p_first := trivial
theorem mk_p_first {g : ElA [(.list (.int .i64))] → Option Rt_p_first} (hsm : SmOK Try.prog sml_p_first) (hg : ∀ (x : ElA [(.list (.int .i64))]) (y : Rt_p_first), WfA [(.list (.int .i64))] x → g x = some y → ∃ lf, F_p_first lf x.1 = some y) : Con Try.prog 49 ⟨[(.list (.int .i64))], [(false, (.int .i64))], g⟩ :=
  conT (nmf := nm_p_first) (sml := sml_p_first) (hxl := hxl_p_first) (st := st_p_first) (hd := hd_p_first) 20 mixed ttOK ftOK hsm hxs_p_first cal49 rfl rfl (by kernel_rfl) (fun x => by kernel_rfl) nd_p_first ok_p_first fun x y hx hy => by
    obtain ⟨lf, h⟩ := hg x y hx hy
    exact ⟨lf, (run_p_first g lf x.1).trans h⟩
def nm_p_value : Nat → Option Nm := fun k => none
def st_p_value : Nat → Bool := fun k => false
def hd_p_value : Nat → Bool := fun k => false
abbrev Rt_p_value : Type := Bool × Unit
def sml_p_value : List (Nat × Sm) := [(83, sp_p_within)]
def hxl_p_value : List (Nat × Hx) := []
def cl_p_value (R : Type) (lf : Nat) : ClK R := icallK Try.prog ttT.get ftT.get (nm1 106 nm_p_value) (smL sml_p_value) (hxL hxl_p_value) lf 20 R
abbrev id_p_value : Nat := 106
def R_p_value_in (lf : Nat) (x1 : DVal) (x2 : Int) : Option Rt_p_value := (cond (ieqI x1.1 (Int.ofNat 1)) (some ((Go.Proofs.Ytcnhjofpmpipfaa.S.within x1.2 (Int.negSucc 1099511627775) (Int.ofNat 1099511627776)), ())) (cond (ieqI x1.1 (Int.ofNat 2)) (some ((Go.Proofs.Ytcnhjofpmpipfaa.S.within x1.2 (Int.ofNat 0) (Int.ofNat 1)), ())) (cond (ieqI x1.1 (Int.ofNat 3)) (some ((ieqI x1.2 (Int.ofNat 0)), ())) (cond (ieqI x1.1 (Int.ofNat 4)) (some ((Go.Proofs.Ytcnhjofpmpipfaa.S.within x1.2 (Int.ofNat 0) (Go.IntKind.wrap Go.IntKind.i64 (Int.sub x2 (Int.ofNat 1)))), ())) (some (Bool.false, ()))))))
theorem in_p_value (g : ElA [cVal, (.int .i64)] → Option Rt_p_value) (J : Nat → List Nat → NRes → Option Rt_p_value) (lf : Nat) (x1 : DVal) (x2 : Int) : icodeT Try.prog ttT.get nm_p_value fi106.nt (cl_p_value _ lf) lf st_p_value J fi106.body [] (argGo (argV [cVal, (.int .i64)] (x1, x2, ())) 0 .leaf) S0 [] (lastK ttT.get fi106 ⟨[cVal, (.int .i64)], [(false, .bool)], g⟩) = R_p_value_in lf x1 x2 := by kernel_rfl
theorem nd_p_value : (regs fi106.body).Nodup := by decide +kernel
theorem ok_p_value : okC nm_p_value st_p_value hd_p_value fi106.body none = true := by kernel_rfl
def A_p_value (g : ElA [cVal, (.int .i64)] → Option Rt_p_value) (lf : Nat) : Nat → List Nat → NRes → Option Rt_p_value := atN Try.prog ttT.get nm_p_value fi106 ⟨[cVal, (.int .i64)], [(false, .bool)], g⟩ (cl_p_value _ lf) lf hd_p_value
def F_p_value (lf : Nat) (x1 : DVal) (x2 : Int) : Option Rt_p_value := R_p_value_in lf x1 x2
theorem run_p_value (g : ElA [cVal, (.int .i64)] → Option Rt_p_value) (lf : Nat) (x1 : DVal) (x2 : Int) : icodeT Try.prog ttT.get nm_p_value fi106.nt (cl_p_value _ lf) lf st_p_value (A_p_value g lf) fi106.body [] (argGo (argV [cVal, (.int .i64)] (x1, x2, ())) 0 .leaf) S0 [] (lastK ttT.get fi106 ⟨[cVal, (.int .i64)], [(false, .bool)], g⟩) = F_p_value lf x1 x2 := by
    refine (in_p_value g (A_p_value g lf) lf x1 x2).trans ?_
    rfl
theorem hxs_p_value : HxsOK Try.prog hxl_p_value := trivial
theorem mk_p_value {g : ElA [cVal, (.int .i64)] → Option Rt_p_value} (hsm : SmOK Try.prog sml_p_value) (hg : ∀ (x : ElA [cVal, (.int .i64)]) (y : Rt_p_value), WfA [cVal, (.int .i64)] x → g x = some y → ∃ lf, F_p_value lf x.1 x.2.1 = some y) : Con Try.prog 106 ⟨[cVal, (.int .i64)], [(false, .bool)], g⟩ :=
  conT (nmf := nm_p_value) (sml := sml_p_value) (hxl := hxl_p_value) (st := st_p_value) (hd := hd_p_value) 20 mixed ttOK ftOK hsm hxs_p_value cal106 rfl rfl (by kernel_rfl) (fun x => by kernel_rfl) nd_p_value ok_p_value fun x y hx hy => by
    obtain ⟨lf, h⟩ := hg x y hx hy
    exact ⟨lf, (run_p_value g lf x.1 x.2.1).trans h⟩
def nm_p_formed : Nat → Option Nm := fun k => cond (Nat.beq k 4) (some ⟨[1, 19, 20, 21], [], [], [], [], 0, 0, false⟩) (cond (Nat.beq k 11) (some ⟨[1, 5, 32, 33, 34], [], [], [], [], 0, 0, false⟩) (none))
def st_p_formed : Nat → Bool := fun k => cond (Nat.beq k 4) true (cond (Nat.beq k 11) true (false))
def hd_p_formed : Nat → Bool := fun k => cond (Nat.beq k 4) true (cond (Nat.beq k 11) true (false))
abbrev Rt_p_formed : Type := Int × Unit
def sml_p_formed : List (Nat × Sm) := [(106, sp_p_value)]
def hxl_p_formed : List (Nat × Hx) := [(137, idxHx cVal)]
def cl_p_formed (R : Type) (lf : Nat) : ClK R := icallK Try.prog ttT.get ftT.get (nm1 70 nm_p_formed) (smL sml_p_formed) (hxL hxl_p_formed) lf 20 R
abbrev id_p_formed : Nat := 70
def enc_p_formed_4 (x1 : DGraph) (p : Int) : NRes := (NRes.mk (PT.node none (PT.node (some (IV.ptr 0 0)) (PT.node none PT.leaf (PT.node none (PT.node (some (IV.lst cNode x1.1)) PT.leaf PT.leaf) PT.leaf)) (PT.node none PT.leaf (PT.node none (PT.node (some (IV.int Go.IntKind.i64 p)) PT.leaf PT.leaf) PT.leaf))) (PT.node none (PT.node none PT.leaf (PT.node none (PT.node (some (IV.int Go.IntKind.i64 (Int.ofNat (List.length x1.1)))) PT.leaf PT.leaf) PT.leaf)) PT.leaf)) (IS.mk (PT.node (some (IObj.row (List.cons (IV.lst cNode x1.1) (List.cons (IV.lst cVal x1.2) [])))) PT.leaf PT.leaf) 1) [] 0)
def enc_p_formed_11 (x1 : DGraph) (p : Int) : NRes := (NRes.mk (PT.node none (PT.node (some (IV.ptr 0 0)) PT.leaf (PT.node (some (IV.ptr 1 0)) (PT.node none (PT.node none (PT.node (some (IV.int Go.IntKind.i64 (Int.ofNat (List.length x1.1)))) PT.leaf PT.leaf) PT.leaf) PT.leaf) PT.leaf)) (PT.node none (PT.node none (PT.node none (PT.node none (PT.node (some (IV.lst cNode x1.1)) PT.leaf PT.leaf) PT.leaf) PT.leaf) PT.leaf) (PT.node none (PT.node none (PT.node none (PT.node (some (IV.int Go.IntKind.i64 p)) PT.leaf PT.leaf) PT.leaf) PT.leaf) PT.leaf))) (IS.mk (PT.node (some (IObj.row (List.cons (IV.lst cNode x1.1) (List.cons (IV.lst cVal x1.2) [])))) (PT.node (some (IObj.row (List.cons (IV.fn 105 (List.cons (IV.ptr 0 0) [])) []))) PT.leaf PT.leaf) PT.leaf) 2) [] 0)
def R_p_formed_in (lf : Nat) (x1 : DGraph) (L4 : Int → Option Rt_p_formed) : Option Rt_p_formed := (cond (iltI (Int.ofNat 400) (Int.ofNat (List.length x1.1))) (some ((Int.ofNat 3), ())) (cond (iltI (Int.ofNat 60) (Int.ofNat (List.length x1.2))) (some ((Int.ofNat 3), ())) (L4 (Int.ofNat 0))))
def R_p_formed_4 (lf : Nat) (x1 : DGraph) (L4 : Int → Option Rt_p_formed) (L11 : Int → Option Rt_p_formed) (p : Int) : Option Rt_p_formed := (cond (iltI p (Int.ofNat (List.length x1.1))) (match (jget x1.1 p) with | .none  => none | .some v0 => (cond (iltI (Int.ofNat 30) (Int.ofNat (List.length v0.2))) (some ((Int.ofNat 3), ())) (L4 (Go.IntKind.wrap Go.IntKind.i64 (Int.add p (Int.ofNat 1)))))) (L11 (Int.ofNat 0)))
def R_p_formed_11 (lf : Nat) (x1 : DGraph) (L11 : Int → Option Rt_p_formed) (p : Int) : Option Rt_p_formed := (cond (iltI p (Int.ofNat (List.length x1.1))) (match (jget x1.1 p) with | .none  => none | .some v0 => (match (idxO (fun v1 => (some (Bool.not (Go.Proofs.Ytcnhjofpmpipfaa.S.value (v1.1, v1.2) (Int.ofNat (List.length x1.1)))))) v0.2 0) with | .none  => none | .some v2 => (cond (Bool.not (iltI v2 (Int.ofNat 0))) (some ((Int.ofNat 2), ())) (L11 (Go.IntKind.wrap Go.IntKind.i64 (Int.add p (Int.ofNat 1))))))) (match (idxO (fun v26 => (cond (Bool.not (Go.Proofs.Ytcnhjofpmpipfaa.S.value (v26.1, v26.2) (Int.ofNat (List.length x1.1)))) (some Bool.true) (cond (ieqI v26.1 (Int.ofNat 3)) (some Bool.false) (some (Bool.not (ieqI v26.1 (Int.ofNat 4))))))) x1.2 0) with | .none  => none | .some v27 => (cond (Bool.not (Bool.not (iltI v27 (Int.ofNat 0)))) (some ((Int.ofNat 0), ())) (some ((Int.ofNat 2), ())))))
theorem in_p_formed (g : ElA [cGraph] → Option Rt_p_formed) (J : Nat → List Nat → NRes → Option Rt_p_formed) (lf : Nat) (x1 : DGraph) : icodeT Try.prog ttT.get nm_p_formed fi70.nt (cl_p_formed _ lf) lf st_p_formed J fi70.body [] (argGo (argV [cGraph] (x1, ())) 0 .leaf) S0 [] (lastK ttT.get fi70 ⟨[cGraph], [(false, (.int .i64))], g⟩) = R_p_formed_in lf x1 (fun q => J 4 [lf] (enc_p_formed_4 x1 q)) := by kernel_rfl
theorem st_p_formed_4 (g : ElA [cGraph] → Option Rt_p_formed) (J : Nat → List Nat → NRes → Option Rt_p_formed) (lf : Nat) (x1 : DGraph) (m1 : Nat) (p : Int) : icodeFT Try.prog ttT.get nm_p_formed fi70.nt (cl_p_formed _ lf) lf st_p_formed J 4 fi70.body [] [m1] (enc_p_formed_4 x1 p) (lastK ttT.get fi70 ⟨[cGraph], [(false, (.int .i64))], g⟩) = R_p_formed_4 lf x1 (fun q => J 4 [m1] (enc_p_formed_4 x1 q)) (fun q => J 11 [lf] (enc_p_formed_11 x1 q)) p := by kernel_rfl
theorem st_p_formed_11 (g : ElA [cGraph] → Option Rt_p_formed) (J : Nat → List Nat → NRes → Option Rt_p_formed) (lf : Nat) (x1 : DGraph) (m1 : Nat) (p : Int) : icodeFT Try.prog ttT.get nm_p_formed fi70.nt (cl_p_formed _ lf) lf st_p_formed J 11 fi70.body [] [m1] (enc_p_formed_11 x1 p) (lastK ttT.get fi70 ⟨[cGraph], [(false, (.int .i64))], g⟩) = R_p_formed_11 lf x1 (fun q => J 11 [m1] (enc_p_formed_11 x1 q)) p := by kernel_rfl
theorem nd_p_formed : (regs fi70.body).Nodup := by decide +kernel
theorem ok_p_formed : okC nm_p_formed st_p_formed hd_p_formed fi70.body none = true := by kernel_rfl
def A_p_formed (g : ElA [cGraph] → Option Rt_p_formed) (lf : Nat) : Nat → List Nat → NRes → Option Rt_p_formed := atN Try.prog ttT.get nm_p_formed fi70 ⟨[cGraph], [(false, (.int .i64))], g⟩ (cl_p_formed _ lf) lf hd_p_formed
def G_p_formed_11 (lf : Nat) (x1 : DGraph) : Nat → (Int) → Option Rt_p_formed := rounds fun K p => R_p_formed_11 lf x1 K p
theorem at_p_formed_11 (g : ElA [cGraph] → Option Rt_p_formed) (lf : Nat) (x1 : DGraph) : ∀ (n : Nat) (p : Int), A_p_formed g lf 11 [n] (enc_p_formed_11 x1 p) = G_p_formed_11 lf x1 n p
  | 0, p => atN_zero 11 [0] rfl _
  | n + 1, p => by
    have ih := at_p_formed_11 g lf x1 n
    refine (atN_eq (icallK_eq 20 _) nd_p_formed ok_p_formed 11 [n + 1] [n] rfl _).trans ((st_p_formed_11 g (A_p_formed g lf) lf x1 n p).trans ?_)
    rw [(show (fun q => A_p_formed g lf 11 [n] (enc_p_formed_11 x1 q)) = (fun q => G_p_formed_11 lf x1 n q) from funext ih)]
    rfl
def G_p_formed_4 (lf : Nat) (x1 : DGraph) : Nat → (Int) → Option Rt_p_formed := rounds fun K p => R_p_formed_4 lf x1 K (fun q => G_p_formed_11 lf x1 lf q) p
theorem at_p_formed_4 (g : ElA [cGraph] → Option Rt_p_formed) (lf : Nat) (x1 : DGraph) : ∀ (n : Nat) (p : Int), A_p_formed g lf 4 [n] (enc_p_formed_4 x1 p) = G_p_formed_4 lf x1 n p
  | 0, p => atN_zero 4 [0] rfl _
  | n + 1, p => by
    have ih := at_p_formed_4 g lf x1 n
    refine (atN_eq (icallK_eq 20 _) nd_p_formed ok_p_formed 4 [n + 1] [n] rfl _).trans ((st_p_formed_4 g (A_p_formed g lf) lf x1 n p).trans ?_)
    rw [(show (fun q => A_p_formed g lf 11 [lf] (enc_p_formed_11 x1 q)) = (fun q => G_p_formed_11 lf x1 lf q) from funext fun q => at_p_formed_11 g lf x1 lf q), (show (fun q => A_p_formed g lf 4 [n] (enc_p_formed_4 x1 q)) = (fun q => G_p_formed_4 lf x1 n q) from funext ih)]
    rfl
def F_p_formed (lf : Nat) (x1 : DGraph) : Option Rt_p_formed := R_p_formed_in lf x1 (fun q => G_p_formed_4 lf x1 lf q)
theorem run_p_formed (g : ElA [cGraph] → Option Rt_p_formed) (lf : Nat) (x1 : DGraph) : icodeT Try.prog ttT.get nm_p_formed fi70.nt (cl_p_formed _ lf) lf st_p_formed (A_p_formed g lf) fi70.body [] (argGo (argV [cGraph] (x1, ())) 0 .leaf) S0 [] (lastK ttT.get fi70 ⟨[cGraph], [(false, (.int .i64))], g⟩) = F_p_formed lf x1 := by
    refine (in_p_formed g (A_p_formed g lf) lf x1).trans ?_
    rw [(show (fun q => A_p_formed g lf 4 [lf] (enc_p_formed_4 x1 q)) = (fun q => G_p_formed_4 lf x1 lf q) from funext fun q => at_p_formed_4 g lf x1 lf q)]
    rfl
theorem hxs_p_formed : HxsOK Try.prog hxl_p_formed := ⟨ixO137, trivial⟩
theorem mk_p_formed {g : ElA [cGraph] → Option Rt_p_formed} (hsm : SmOK Try.prog sml_p_formed) (hg : ∀ (x : ElA [cGraph]) (y : Rt_p_formed), WfA [cGraph] x → g x = some y → ∃ lf, F_p_formed lf x.1 = some y) : Con Try.prog 70 ⟨[cGraph], [(false, (.int .i64))], g⟩ :=
  conT (nmf := nm_p_formed) (sml := sml_p_formed) (hxl := hxl_p_formed) (st := st_p_formed) (hd := hd_p_formed) 20 mixed ttOK ftOK hsm hxs_p_formed cal70 rfl rfl (by kernel_rfl) (fun x => by kernel_rfl) nd_p_formed ok_p_formed fun x y hx hy => by
    obtain ⟨lf, h⟩ := hg x y hx hy
    exact ⟨lf, (run_p_formed g lf x.1).trans h⟩
end Go.Proofs.Ytcnhjofpmpipfaa

end
end

/- The contracts of package pack, first part. -/
section
set_option linter.unusedVariables false
namespace Go.Proofs.Ytcnhjofpmpipfaa
open Go Go.Sx Go.RowKit Go.Jx
theorem F_p_within_eq (lf : Nat) (n lo hi : Int) : F_p_within lf n lo hi = some (S.within n lo hi, ()) := by
  simp only [F_p_within, R_p_within_in, S.within, iltI_eq, cond_if]
  by_cases h1 : n < lo
  · simp [h1]; omega
  · by_cases h2 : hi < n <;> simp [h1, h2] <;> omega
theorem con_p_within : Con Try.prog id_p_within sp_p_within := mk_p_within trivial fun x y _ h => ⟨0, (F_p_within_eq _ _ _ _).trans h⟩
theorem F_p_first_eq (l : List Int) (hl : l.length < LF) : F_p_first LF l = some (S.first l, ()) := by
  refine range1 (R := Rt_p_first) l (fun rest _ => some (S.first rest, ())) hl (fun K => ?_) (fun K i v rest r h => ?_)
  · simp only [R_p_first_2, ilt_self, cond_false]; rfl
  · simp only [R_p_first_2, r.ilt, r.get, r.next, h, cond_true, S.first, ieqI_eq, cond_if]
    by_cases hv : v = 0
    · simp [hv]
    · simp [hv]
theorem con_p_first : Con Try.prog id_p_first sp_p_first := mk_p_first trivial fun x y hx h => ⟨LF, (F_p_first_eq _ (wf_len hx.1)).trans h⟩
/-! ### Graphs -/
theorem F_p_value_eq (lf : Nat) (v : DVal) (many : Int) : F_p_value lf v many = some (S.value v many, ()) := by
  simp only [F_p_value, R_p_value_in, S.value, ieqI_eq, cond_if]
  simp only [oL, oLn, decide_eq_true_eq]
  split
  · rfl
  split
  · rfl
  split
  · rfl
  split <;> rfl
theorem con_p_value : Con Try.prog id_p_value sp_p_value := mk_p_value ⟨con_p_within, trivial⟩ fun x y hx h => ⟨LF, (F_p_value_eq _ _ _).trans h⟩
theorem idx_any {α : Type} (p : α → Bool) (l : List α) : (!iltI (S.idx p l) (Int.ofNat 0)) = l.any p := by
  have := S.idx_nonneg p l
  rw [iltI_eq, Bool.eq_iff_iff]
  simp only [oL, Bool.not_eq_true', decide_eq_false_iff_not, Int.not_lt]
  exact this
theorem idx_any0 {α : Type} (p : α → Bool) (l : List α) : (!iltI (S.idx p l) 0) = l.any p := idx_any p l
theorem fm_third (g : DGraph) (hl : g.1.length < LF) : G_p_formed_11 LF g LF (Int.ofNat 0) = some ((if g.1.any (fun n => n.2.any fun v => !S.value v (Int.ofNat g.1.length)) then 2 else if g.2.any (fun v => !S.value v (Int.ofNat g.1.length) || !S.refers v) then 2 else 0), ()) := by
  refine (range1 (R := Rt_p_formed) g.1 (fun rest i => some ((if rest.any (fun n => n.2.any fun v => !S.value v (Int.ofNat g.1.length)) then 2 else if g.2.any (fun v => !S.value v (Int.ofNat g.1.length) || !S.refers v) then 2 else 0), ())) hl (fun K => ?_) (fun K i n rest r h => ?_))
  · simp only [R_p_formed_11, ilt_self, cond_false]
    rw [idxO_idx (l := g.2) (fun v : DVal => !S.value v (Int.ofNat g.1.length) || !S.refers v) fun v _ => ?_]
    · simp only [idx_any, cond_if, List.any_nil, Bool.not_eq_true', oL]
      simp only [idx_any0]
      cases h : (g.2.any fun v => !S.value v (Int.ofNat g.1.length) || !S.refers v) <;> rfl
    · simp only [S.refers, ieqI_eq, oL, cond_if]
      generalize S.value (v.1, v.2) (Int.ofNat g.1.length) = b
      by_cases h3 : v.1 = 3 <;> by_cases h4 : v.1 = 4 <;> cases b <;> simp [h3, h4]
  · simp only [R_p_formed_11, r.ilt, r.get, r.next, h, cond_true, Prod.eta]
    rw [idxO_idx (l := n.2) (fun v : DVal => !S.value v (Int.ofNat g.1.length)) fun v _ => rfl]
    simp only [idx_any]
    have e2 : (n :: rest).any (fun n => n.2.any fun v => !S.value v (Int.ofNat g.1.length)) = ((n.2.any fun v => !S.value v (Int.ofNat g.1.length)) || rest.any (fun n => n.2.any fun v => !S.value v (Int.ofNat g.1.length))) := rfl
    rw [e2]
    cases hb : (n.2.any fun v => !S.value v (Int.ofNat g.1.length)) with
    | true => rw [cond_true, Bool.true_or, if_pos rfl]; rfl
    | false => rw [cond_false, Bool.false_or]
theorem fm_second (g : DGraph) (hl : g.1.length < LF) : G_p_formed_4 LF g LF (Int.ofNat 0) = some ((if g.1.any (fun n => decide (30 < n.2.length)) then 3 else if g.1.any (fun n => n.2.any fun v => !S.value v (Int.ofNat g.1.length)) then 2 else if g.2.any (fun v => !S.value v (Int.ofNat g.1.length) || !S.refers v) then 2 else 0), ()) := by
  refine (range1 (R := Rt_p_formed) g.1 (fun rest i => some ((if rest.any (fun n => decide (30 < n.2.length)) then 3 else if g.1.any (fun n => n.2.any fun v => !S.value v (Int.ofNat g.1.length)) then 2 else if g.2.any (fun v => !S.value v (Int.ofNat g.1.length) || !S.refers v) then 2 else 0), ())) hl (fun K => ?_) (fun K i n rest r h => ?_))
  · simp only [R_p_formed_4, ilt_self, cond_false]
    exact fm_third g hl
  · have e : (iltI (Int.ofNat 30) (Int.ofNat n.2.length)) = decide (30 < n.2.length) := by
      rw [iltI_eq, Bool.eq_iff_iff]; simp only [decide_eq_true_eq]; exact Int.ofNat_lt
    simp only [R_p_formed_4, r.ilt, r.get, r.next, h, cond_true, e]
    have e2 : (n :: rest).any (fun n => decide (30 < n.2.length)) = (decide (30 < n.2.length) || rest.any (fun n => decide (30 < n.2.length))) := rfl
    rw [e2]
    by_cases hb : 30 < n.2.length
    · rw [decide_eq_true hb, cond_true, Bool.true_or, if_pos rfl]; rfl
    · rw [decide_eq_false hb, cond_false, Bool.false_or]
theorem ilt_nat (a b : Nat) : iltI (Int.ofNat a) (Int.ofNat b) = decide (a < b) := by
  rw [iltI_eq, Bool.eq_iff_iff]; simp only [decide_eq_true_eq]; exact Int.ofNat_lt
theorem F_p_formed_eq (g : DGraph) (hl : g.1.length < LF) : F_p_formed LF g = some (S.formed g, ()) := by
  simp only [F_p_formed, R_p_formed_in, S.formed, ilt_nat, cond_if]
  by_cases h1 : 400 < g.1.length
  · simp [h1, oL]
  by_cases h2 : 60 < g.2.length
  · simp [h1, h2, oL]
  rw [if_neg (by simpa using h1), if_neg (by simpa using h2), if_neg (by omega)]
  exact fm_second g hl
theorem con_p_formed : Con Try.prog id_p_formed sp_p_formed := mk_p_formed ⟨con_p_value, trivial⟩ fun x y hx h => ⟨LF, (F_p_formed_eq _ (wf_len hx.1.1)).trans h⟩
theorem ieq_nat (a b : Nat) : ieqI (Int.ofNat a) (Int.ofNat b) = decide (a = b) := by
  rw [ieqI_eq, Bool.eq_iff_iff]; simp only [decide_eq_true_eq]; exact Int.ofNat_inj
theorem formed_zero {g : DGraph} (h : S.formed g = 0) : g.1.length ≤ 400 ∧ g.2.length ≤ 60 ∧ (∀ n ∈ g.1, n.2.length ≤ 30) ∧ (∀ n ∈ g.1, ∀ v ∈ n.2, S.value v (Int.ofNat g.1.length) = true) ∧ ∀ v ∈ g.2, S.value v (Int.ofNat g.1.length) = true ∧ S.refers v = true := by
  unfold S.formed at h
  split at h
  · cases h
  split at h
  · cases h
  split at h
  · cases h
  split at h
  · cases h
  rename_i h1 h2 h3 h4
  simp only [List.any_eq_true, not_exists, not_and, decide_eq_true_eq, Bool.not_eq_true', Bool.not_eq_false, Bool.or_eq_true, not_or] at h2 h3 h4
  exact ⟨by omega, by omega, fun n hn => by have := h2 n hn; omega, fun n hn v hv => h3 n hn v hv, fun v hv => h4 v hv⟩
end Go.Proofs.Ytcnhjofpmpipfaa
end

/- Made by program: plain forms of functions. -/
section
set_option linter.unusedVariables false
set_option maxRecDepth 100000
noncomputable section
namespace Go.Proofs.Ytcnhjofpmpipfaa
open Go Go.Sx Go.RowKit Go.Jx
def nm_p_Canon : Nat → Option Nm := fun k => none
def st_p_Canon : Nat → Bool := fun k => false
def hd_p_Canon : Nat → Bool := fun k => false
abbrev Rt_p_Canon : Type := DGraph × (List Int) × Int × Unit
def sml_p_Canon : List (Nat × Sm) := [(70, sp_p_formed), (62, sp_p_canon)]
def hxl_p_Canon : List (Nat × Hx) := []
def cl_p_Canon (R : Type) (lf : Nat) : ClK R := icallK Try.prog ttT.get ftT.get (nm1 22 nm_p_Canon) (smL sml_p_Canon) (hxL hxl_p_Canon) lf 20 R
abbrev id_p_Canon : Nat := 22
def R_p_Canon_in (lf : Nat) (x1 : DGraph) : Option Rt_p_Canon := (cond (Bool.not (ieqI (Go.Proofs.Ytcnhjofpmpipfaa.S.formed (x1.1, x1.2)) (Int.ofNat 0))) (some (([], []), ([], ((Go.Proofs.Ytcnhjofpmpipfaa.S.formed (x1.1, x1.2)), ())))) (match (Go.Proofs.Ytcnhjofpmpipfaa.S.canonO (x1.1, x1.2)) with | .none  => none | .some v0 => (some ((v0.1.1, v0.1.2), (v0.2.1, ((Int.ofNat 0), ()))))))
theorem in_p_Canon (g : ElA [cGraph] → Option Rt_p_Canon) (J : Nat → List Nat → NRes → Option Rt_p_Canon) (lf : Nat) (x1 : DGraph) : icodeT Try.prog ttT.get nm_p_Canon fi22.nt (cl_p_Canon _ lf) lf st_p_Canon J fi22.body [] (argGo (argV [cGraph] (x1, ())) 0 .leaf) S0 [] (lastK ttT.get fi22 ⟨[cGraph], [(false, cGraph), (false, (.list (.int .i64))), (false, (.int .i64))], g⟩) = R_p_Canon_in lf x1 := by kernel_rfl
theorem nd_p_Canon : (regs fi22.body).Nodup := by decide +kernel
theorem ok_p_Canon : okC nm_p_Canon st_p_Canon hd_p_Canon fi22.body none = true := by kernel_rfl
def A_p_Canon (g : ElA [cGraph] → Option Rt_p_Canon) (lf : Nat) : Nat → List Nat → NRes → Option Rt_p_Canon := atN Try.prog ttT.get nm_p_Canon fi22 ⟨[cGraph], [(false, cGraph), (false, (.list (.int .i64))), (false, (.int .i64))], g⟩ (cl_p_Canon _ lf) lf hd_p_Canon
def F_p_Canon (lf : Nat) (x1 : DGraph) : Option Rt_p_Canon := R_p_Canon_in lf x1
theorem run_p_Canon (g : ElA [cGraph] → Option Rt_p_Canon) (lf : Nat) (x1 : DGraph) : icodeT Try.prog ttT.get nm_p_Canon fi22.nt (cl_p_Canon _ lf) lf st_p_Canon (A_p_Canon g lf) fi22.body [] (argGo (argV [cGraph] (x1, ())) 0 .leaf) S0 [] (lastK ttT.get fi22 ⟨[cGraph], [(false, cGraph), (false, (.list (.int .i64))), (false, (.int .i64))], g⟩) = F_p_Canon lf x1 := by
    refine (in_p_Canon g (A_p_Canon g lf) lf x1).trans ?_
    rfl
theorem hxs_p_Canon : HxsOK Try.prog hxl_p_Canon := trivial
theorem mk_p_Canon {g : ElA [cGraph] → Option Rt_p_Canon} (hsm : SmOK Try.prog sml_p_Canon) (hg : ∀ (x : ElA [cGraph]) (y : Rt_p_Canon), WfA [cGraph] x → g x = some y → ∃ lf, F_p_Canon lf x.1 = some y) : Con Try.prog 22 ⟨[cGraph], [(false, cGraph), (false, (.list (.int .i64))), (false, (.int .i64))], g⟩ :=
  conT (nmf := nm_p_Canon) (sml := sml_p_Canon) (hxl := hxl_p_Canon) (st := st_p_Canon) (hd := hd_p_Canon) 20 mixed ttOK ftOK hsm hxs_p_Canon cal22 rfl rfl (by kernel_rfl) (fun x => by kernel_rfl) nd_p_Canon ok_p_Canon fun x y hx hy => by
    obtain ⟨lf, h⟩ := hg x y hx hy
    exact ⟨lf, (run_p_Canon g lf x.1).trans h⟩
end Go.Proofs.Ytcnhjofpmpipfaa

end
end

/- The contracts of equal, Canon, Part. -/
section
set_option linter.unusedVariables false
namespace Go.Proofs.Ytcnhjofpmpipfaa
open Go Go.Sx Go.RowKit Go.Jx
def S.eqGraph (a b : DGraph) : Bool := S.eqVals (a : List DNode × List DVal).2 (b : List DNode × List DVal).2 && S.eqNodes (a : List DNode × List DVal).1 (b : List DNode × List DVal).1
def sp_p_equal : Sm := ⟨[cGraph, cGraph], [(false, .bool)], fun x => some (S.eqGraph x.1 x.2.1, ())⟩
theorem con_p_equal : Con Try.prog id_p_equal sp_p_equal := mk_p_equal ⟨con_slices_Equal_Val, trivial⟩ con_slices_EqualFunc_Node fun x y hx h => ⟨0, by
  obtain ⟨a, b, _⟩ := x
  refine Eq.trans ?_ h
  show (cond (S.eqVals (a : List DNode × List DVal).2 (b : List DNode × List DVal).2) (some ((S.eqNodes (a : List DNode × List DVal).1 (b : List DNode × List DVal).1), ())) (some (Bool.false, ())) : Option Rt_p_equal) = some (S.eqGraph a b, ())
  unfold S.eqGraph
  cases S.eqVals (a : List DNode × List DVal).2 (b : List DNode × List DVal).2 <;> rfl⟩
noncomputable def S.CanonO (g : DGraph) : Option Rt_p_Canon := F_p_Canon 0 g
noncomputable def sp_p_Canon : Sm := ⟨[cGraph], [(false, cGraph), (false, .list (.int .i64)), (false, .int .i64)], fun x => S.CanonO x.1⟩
theorem con_p_Canon : Con Try.prog id_p_Canon sp_p_Canon := mk_p_Canon ⟨con_p_formed, con_p_canon, trivial⟩ fun x y hx h => ⟨0, h⟩
end Go.Proofs.Ytcnhjofpmpipfaa
end

/- Made by program: plain forms of functions. -/
section
set_option linter.unusedVariables false
set_option maxRecDepth 100000
noncomputable section
namespace Go.Proofs.Ytcnhjofpmpipfaa
open Go Go.Sx Go.RowKit Go.Jx
def nm_p_Same : Nat → Option Nm := fun k => none
def st_p_Same : Nat → Bool := fun k => false
def hd_p_Same : Nat → Bool := fun k => false
abbrev Rt_p_Same : Type := Bool × Int × Unit
def sml_p_Same : List (Nat × Sm) := [(70, sp_p_formed), (49, sp_p_first), (62, sp_p_canon), (72, sp_p_equal)]
def hxl_p_Same : List (Nat × Hx) := []
def cl_p_Same (R : Type) (lf : Nat) : ClK R := icallK Try.prog ttT.get ftT.get (nm1 25 nm_p_Same) (smL sml_p_Same) (hxL hxl_p_Same) lf 20 R
abbrev id_p_Same : Nat := 25
def R_p_Same_in (lf : Nat) (x1 : DGraph) (x2 : DGraph) : Option Rt_p_Same := (cond (Bool.not (ieqI (Go.Proofs.Ytcnhjofpmpipfaa.S.first (List.cons (Go.Proofs.Ytcnhjofpmpipfaa.S.formed (x1.1, x1.2)) (List.cons (Go.Proofs.Ytcnhjofpmpipfaa.S.formed (x2.1, x2.2)) []))) (Int.ofNat 0))) (some (Bool.false, ((Go.Proofs.Ytcnhjofpmpipfaa.S.first (List.cons (Go.Proofs.Ytcnhjofpmpipfaa.S.formed (x1.1, x1.2)) (List.cons (Go.Proofs.Ytcnhjofpmpipfaa.S.formed (x2.1, x2.2)) []))), ()))) (match (Go.Proofs.Ytcnhjofpmpipfaa.S.canonO (x1.1, x1.2)) with | .none  => none | .some v0 => (match (Go.Proofs.Ytcnhjofpmpipfaa.S.canonO (x2.1, x2.2)) with | .none  => none | .some v1 => (some ((Go.Proofs.Ytcnhjofpmpipfaa.S.eqGraph (v0.1.1, v0.1.2) (v1.1.1, v1.1.2)), ((Int.ofNat 0), ()))))))
theorem in_p_Same (g : ElA [cGraph, cGraph] → Option Rt_p_Same) (J : Nat → List Nat → NRes → Option Rt_p_Same) (lf : Nat) (x1 : DGraph) (x2 : DGraph) : icodeT Try.prog ttT.get nm_p_Same fi25.nt (cl_p_Same _ lf) lf st_p_Same J fi25.body [] (argGo (argV [cGraph, cGraph] (x1, x2, ())) 0 .leaf) S0 [] (lastK ttT.get fi25 ⟨[cGraph, cGraph], [(false, .bool), (false, (.int .i64))], g⟩) = R_p_Same_in lf x1 x2 := by kernel_rfl
theorem nd_p_Same : (regs fi25.body).Nodup := by decide +kernel
theorem ok_p_Same : okC nm_p_Same st_p_Same hd_p_Same fi25.body none = true := by kernel_rfl
def A_p_Same (g : ElA [cGraph, cGraph] → Option Rt_p_Same) (lf : Nat) : Nat → List Nat → NRes → Option Rt_p_Same := atN Try.prog ttT.get nm_p_Same fi25 ⟨[cGraph, cGraph], [(false, .bool), (false, (.int .i64))], g⟩ (cl_p_Same _ lf) lf hd_p_Same
def F_p_Same (lf : Nat) (x1 : DGraph) (x2 : DGraph) : Option Rt_p_Same := R_p_Same_in lf x1 x2
theorem run_p_Same (g : ElA [cGraph, cGraph] → Option Rt_p_Same) (lf : Nat) (x1 : DGraph) (x2 : DGraph) : icodeT Try.prog ttT.get nm_p_Same fi25.nt (cl_p_Same _ lf) lf st_p_Same (A_p_Same g lf) fi25.body [] (argGo (argV [cGraph, cGraph] (x1, x2, ())) 0 .leaf) S0 [] (lastK ttT.get fi25 ⟨[cGraph, cGraph], [(false, .bool), (false, (.int .i64))], g⟩) = F_p_Same lf x1 x2 := by
    refine (in_p_Same g (A_p_Same g lf) lf x1 x2).trans ?_
    rfl
theorem hxs_p_Same : HxsOK Try.prog hxl_p_Same := trivial
theorem mk_p_Same {g : ElA [cGraph, cGraph] → Option Rt_p_Same} (hsm : SmOK Try.prog sml_p_Same) (hg : ∀ (x : ElA [cGraph, cGraph]) (y : Rt_p_Same), WfA [cGraph, cGraph] x → g x = some y → ∃ lf, F_p_Same lf x.1 x.2.1 = some y) : Con Try.prog 25 ⟨[cGraph, cGraph], [(false, .bool), (false, (.int .i64))], g⟩ :=
  conT (nmf := nm_p_Same) (sml := sml_p_Same) (hxl := hxl_p_Same) (st := st_p_Same) (hd := hd_p_Same) 20 mixed ttOK ftOK hsm hxs_p_Same cal25 rfl rfl (by kernel_rfl) (fun x => by kernel_rfl) nd_p_Same ok_p_Same fun x y hx hy => by
    obtain ⟨lf, h⟩ := hg x y hx hy
    exact ⟨lf, (run_p_Same g lf x.1 x.2.1).trans h⟩
end Go.Proofs.Ytcnhjofpmpipfaa

end
end

/- The contract of Same. -/
section
set_option linter.unusedVariables false
namespace Go.Proofs.Ytcnhjofpmpipfaa
open Go Go.Sx Go.RowKit Go.Jx
noncomputable def S.SameO (a b : DGraph) : Option Rt_p_Same := F_p_Same 0 a b
noncomputable def sp_p_Same : Sm := ⟨[cGraph, cGraph], [(false, .bool), (false, .int .i64)], fun x => S.SameO x.1 x.2.1⟩
theorem con_p_Same : Con Try.prog id_p_Same sp_p_Same := mk_p_Same ⟨con_p_formed, con_p_first, con_p_canon, con_p_equal, trivial⟩ fun x y hx h => ⟨0, h⟩
end Go.Proofs.Ytcnhjofpmpipfaa
end

/- Made by program: plain forms of functions. -/
section
set_option linter.unusedVariables false
set_option maxRecDepth 100000
noncomputable section
namespace Go.Proofs.Ytcnhjofpmpipfaa
open Go Go.Sx Go.RowKit Go.Jx
def nm_r_SameVals : Nat → Option Nm := fun k => cond (Nat.beq k 4) (some ⟨[0, 1, 5], [], [], [], [], 0, 0, false⟩) (none)
def st_r_SameVals : Nat → Bool := fun k => cond (Nat.beq k 4) true (false)
def hd_r_SameVals : Nat → Bool := fun k => cond (Nat.beq k 4) true (false)
abbrev Rt_r_SameVals : Type := Bool × Unit
def sml_r_SameVals : List (Nat × Sm) := []
def hxl_r_SameVals : List (Nat × Hx) := []
def cl_r_SameVals (R : Type) (lf : Nat) : ClK R := icallK Try.prog ttT.get ftT.get (nm1 73 nm_r_SameVals) (smL sml_r_SameVals) (hxL hxl_r_SameVals) lf 20 R
abbrev id_r_SameVals : Nat := 73
def enc_r_SameVals_4 (x1 : (List DVal)) (x2 : (List DVal)) (p : Int) : NRes := (NRes.mk (PT.node (some (IV.lst cVal x1)) (PT.node (some (IV.lst cVal x2)) PT.leaf (PT.node (some (IV.int Go.IntKind.i64 p)) PT.leaf PT.leaf)) PT.leaf) (IS.mk PT.leaf 0) [] 0)
def R_r_SameVals_in (lf : Nat) (x1 : (List DVal)) (x2 : (List DVal)) (L4 : Int → Option Rt_r_SameVals) : Option Rt_r_SameVals := (cond (Bool.not (ieqI (Int.ofNat (List.length x1)) (Int.ofNat (List.length x2)))) (some (Bool.false, ())) (L4 (Int.ofNat 0)))
def R_r_SameVals_4 (lf : Nat) (x1 : (List DVal)) (x2 : (List DVal)) (L4 : Int → Option Rt_r_SameVals) (p : Int) : Option Rt_r_SameVals := (cond (iltI p (Int.ofNat (List.length x1))) (match (jget x1 p) with | .none  => none | .some v0 => (match (jget x2 p) with | .none  => none | .some v1 => (cond (Bool.not (Bool.and (keqI v0.1 v1.1) (Bool.and (keqI v0.2 v1.2) Bool.true))) (some (Bool.false, ())) (L4 (Go.IntKind.wrap Go.IntKind.i64 (Int.add p (Int.ofNat 1))))))) (some (Bool.true, ())))
theorem in_r_SameVals (g : ElA [(.list cVal), (.list cVal)] → Option Rt_r_SameVals) (J : Nat → List Nat → NRes → Option Rt_r_SameVals) (lf : Nat) (x1 : (List DVal)) (x2 : (List DVal)) : icodeT Try.prog ttT.get nm_r_SameVals fi73.nt (cl_r_SameVals _ lf) lf st_r_SameVals J fi73.body [] (argGo (argV [(.list cVal), (.list cVal)] (x1, x2, ())) 0 .leaf) S0 [] (lastK ttT.get fi73 ⟨[(.list cVal), (.list cVal)], [(false, .bool)], g⟩) = R_r_SameVals_in lf x1 x2 (fun q => J 4 [lf] (enc_r_SameVals_4 x1 x2 q)) := by kernel_rfl
theorem st_r_SameVals_4 (g : ElA [(.list cVal), (.list cVal)] → Option Rt_r_SameVals) (J : Nat → List Nat → NRes → Option Rt_r_SameVals) (lf : Nat) (x1 : (List DVal)) (x2 : (List DVal)) (m1 : Nat) (p : Int) : icodeFT Try.prog ttT.get nm_r_SameVals fi73.nt (cl_r_SameVals _ lf) lf st_r_SameVals J 4 fi73.body [] [m1] (enc_r_SameVals_4 x1 x2 p) (lastK ttT.get fi73 ⟨[(.list cVal), (.list cVal)], [(false, .bool)], g⟩) = R_r_SameVals_4 lf x1 x2 (fun q => J 4 [m1] (enc_r_SameVals_4 x1 x2 q)) p := by kernel_rfl
theorem nd_r_SameVals : (regs fi73.body).Nodup := by decide +kernel
theorem ok_r_SameVals : okC nm_r_SameVals st_r_SameVals hd_r_SameVals fi73.body none = true := by kernel_rfl
def A_r_SameVals (g : ElA [(.list cVal), (.list cVal)] → Option Rt_r_SameVals) (lf : Nat) : Nat → List Nat → NRes → Option Rt_r_SameVals := atN Try.prog ttT.get nm_r_SameVals fi73 ⟨[(.list cVal), (.list cVal)], [(false, .bool)], g⟩ (cl_r_SameVals _ lf) lf hd_r_SameVals
def G_r_SameVals_4 (lf : Nat) (x1 : (List DVal)) (x2 : (List DVal)) : Nat → (Int) → Option Rt_r_SameVals := rounds fun K p => R_r_SameVals_4 lf x1 x2 K p
theorem at_r_SameVals_4 (g : ElA [(.list cVal), (.list cVal)] → Option Rt_r_SameVals) (lf : Nat) (x1 : (List DVal)) (x2 : (List DVal)) : ∀ (n : Nat) (p : Int), A_r_SameVals g lf 4 [n] (enc_r_SameVals_4 x1 x2 p) = G_r_SameVals_4 lf x1 x2 n p
  | 0, p => atN_zero 4 [0] rfl _
  | n + 1, p => by
    have ih := at_r_SameVals_4 g lf x1 x2 n
    refine (atN_eq (icallK_eq 20 _) nd_r_SameVals ok_r_SameVals 4 [n + 1] [n] rfl _).trans ((st_r_SameVals_4 g (A_r_SameVals g lf) lf x1 x2 n p).trans ?_)
    rw [(show (fun q => A_r_SameVals g lf 4 [n] (enc_r_SameVals_4 x1 x2 q)) = (fun q => G_r_SameVals_4 lf x1 x2 n q) from funext ih)]
    rfl
def F_r_SameVals (lf : Nat) (x1 : (List DVal)) (x2 : (List DVal)) : Option Rt_r_SameVals := R_r_SameVals_in lf x1 x2 (fun q => G_r_SameVals_4 lf x1 x2 lf q)
theorem run_r_SameVals (g : ElA [(.list cVal), (.list cVal)] → Option Rt_r_SameVals) (lf : Nat) (x1 : (List DVal)) (x2 : (List DVal)) : icodeT Try.prog ttT.get nm_r_SameVals fi73.nt (cl_r_SameVals _ lf) lf st_r_SameVals (A_r_SameVals g lf) fi73.body [] (argGo (argV [(.list cVal), (.list cVal)] (x1, x2, ())) 0 .leaf) S0 [] (lastK ttT.get fi73 ⟨[(.list cVal), (.list cVal)], [(false, .bool)], g⟩) = F_r_SameVals lf x1 x2 := by
    refine (in_r_SameVals g (A_r_SameVals g lf) lf x1 x2).trans ?_
    rw [(show (fun q => A_r_SameVals g lf 4 [lf] (enc_r_SameVals_4 x1 x2 q)) = (fun q => G_r_SameVals_4 lf x1 x2 lf q) from funext fun q => at_r_SameVals_4 g lf x1 x2 lf q)]
    rfl
theorem hxs_r_SameVals : HxsOK Try.prog hxl_r_SameVals := trivial
theorem mk_r_SameVals {g : ElA [(.list cVal), (.list cVal)] → Option Rt_r_SameVals} (hsm : SmOK Try.prog sml_r_SameVals) (hg : ∀ (x : ElA [(.list cVal), (.list cVal)]) (y : Rt_r_SameVals), WfA [(.list cVal), (.list cVal)] x → g x = some y → ∃ lf, F_r_SameVals lf x.1 x.2.1 = some y) : Con Try.prog 73 ⟨[(.list cVal), (.list cVal)], [(false, .bool)], g⟩ :=
  conT (nmf := nm_r_SameVals) (sml := sml_r_SameVals) (hxl := hxl_r_SameVals) (st := st_r_SameVals) (hd := hd_r_SameVals) 20 mixed ttOK ftOK hsm hxs_r_SameVals cal73 rfl rfl (by kernel_rfl) (fun x => by kernel_rfl) nd_r_SameVals ok_r_SameVals fun x y hx hy => by
    obtain ⟨lf, h⟩ := hg x y hx hy
    exact ⟨lf, (run_r_SameVals g lf x.1 x.2.1).trans h⟩
def nm_r_SameGraphs : Nat → Option Nm := fun k => cond (Nat.beq k 5) (some ⟨[2, 3, 6], [], [], [], [], 0, 0, false⟩) (none)
def st_r_SameGraphs : Nat → Bool := fun k => cond (Nat.beq k 5) true (false)
def hd_r_SameGraphs : Nat → Bool := fun k => cond (Nat.beq k 5) true (false)
abbrev Rt_r_SameGraphs : Type := Bool × Unit
def sml_r_SameGraphs : List (Nat × Sm) := [(73, sp_r_SameVals)]
def hxl_r_SameGraphs : List (Nat × Hx) := []
def cl_r_SameGraphs (R : Type) (lf : Nat) : ClK R := icallK Try.prog ttT.get ftT.get (nm1 26 nm_r_SameGraphs) (smL sml_r_SameGraphs) (hxL hxl_r_SameGraphs) lf 20 R
abbrev id_r_SameGraphs : Nat := 26
def enc_r_SameGraphs_5 (x1 : DGraph) (x2 : DGraph) (p : Int) : NRes := (NRes.mk (PT.node none (PT.node none (PT.node (some (IV.ptr 1 0)) PT.leaf PT.leaf) PT.leaf) (PT.node (some (IV.ptr 0 0)) PT.leaf (PT.node (some (IV.int Go.IntKind.i64 p)) PT.leaf PT.leaf))) (IS.mk (PT.node (some (IObj.row (List.cons (IV.lst cNode x1.1) (List.cons (IV.lst cVal x1.2) [])))) (PT.node (some (IObj.row (List.cons (IV.lst cNode x2.1) (List.cons (IV.lst cVal x2.2) [])))) PT.leaf PT.leaf) PT.leaf) 2) [] 0)
def R_r_SameGraphs_in (lf : Nat) (x1 : DGraph) (x2 : DGraph) (L5 : Int → Option Rt_r_SameGraphs) : Option Rt_r_SameGraphs := (cond (Bool.not (Go.Proofs.Ytcnhjofpmpipfaa.S.sameVals x1.2 x2.2)) (some (Bool.false, ())) (cond (Bool.not (ieqI (Int.ofNat (List.length x1.1)) (Int.ofNat (List.length x2.1)))) (some (Bool.false, ())) (L5 (Int.ofNat 0))))
def R_r_SameGraphs_5 (lf : Nat) (x1 : DGraph) (x2 : DGraph) (L5 : Int → Option Rt_r_SameGraphs) (p : Int) : Option Rt_r_SameGraphs := (cond (iltI p (Int.ofNat (List.length x1.1))) (match (jget x1.1 p) with | .none  => none | .some v0 => (match (jget x2.1 p) with | .none  => none | .some v1 => (cond (Bool.not (Go.Proofs.Ytcnhjofpmpipfaa.S.sameVals v0.2 v1.2)) (some (Bool.false, ())) (match (jget x1.1 p) with | .none  => none | .some v2 => (match (jget x2.1 p) with | .none  => none | .some v3 => (cond (Bool.not (keqS v2.1 v3.1)) (some (Bool.false, ())) (L5 (Go.IntKind.wrap Go.IntKind.i64 (Int.add p (Int.ofNat 1)))))))))) (some (Bool.true, ())))
theorem in_r_SameGraphs (g : ElA [cGraph, cGraph] → Option Rt_r_SameGraphs) (J : Nat → List Nat → NRes → Option Rt_r_SameGraphs) (lf : Nat) (x1 : DGraph) (x2 : DGraph) : icodeT Try.prog ttT.get nm_r_SameGraphs fi26.nt (cl_r_SameGraphs _ lf) lf st_r_SameGraphs J fi26.body [] (argGo (argV [cGraph, cGraph] (x1, x2, ())) 0 .leaf) S0 [] (lastK ttT.get fi26 ⟨[cGraph, cGraph], [(false, .bool)], g⟩) = R_r_SameGraphs_in lf x1 x2 (fun q => J 5 [lf] (enc_r_SameGraphs_5 x1 x2 q)) := by kernel_rfl
theorem st_r_SameGraphs_5 (g : ElA [cGraph, cGraph] → Option Rt_r_SameGraphs) (J : Nat → List Nat → NRes → Option Rt_r_SameGraphs) (lf : Nat) (x1 : DGraph) (x2 : DGraph) (m1 : Nat) (p : Int) : icodeFT Try.prog ttT.get nm_r_SameGraphs fi26.nt (cl_r_SameGraphs _ lf) lf st_r_SameGraphs J 5 fi26.body [] [m1] (enc_r_SameGraphs_5 x1 x2 p) (lastK ttT.get fi26 ⟨[cGraph, cGraph], [(false, .bool)], g⟩) = R_r_SameGraphs_5 lf x1 x2 (fun q => J 5 [m1] (enc_r_SameGraphs_5 x1 x2 q)) p := by kernel_rfl
theorem nd_r_SameGraphs : (regs fi26.body).Nodup := by decide +kernel
theorem ok_r_SameGraphs : okC nm_r_SameGraphs st_r_SameGraphs hd_r_SameGraphs fi26.body none = true := by kernel_rfl
def A_r_SameGraphs (g : ElA [cGraph, cGraph] → Option Rt_r_SameGraphs) (lf : Nat) : Nat → List Nat → NRes → Option Rt_r_SameGraphs := atN Try.prog ttT.get nm_r_SameGraphs fi26 ⟨[cGraph, cGraph], [(false, .bool)], g⟩ (cl_r_SameGraphs _ lf) lf hd_r_SameGraphs
def G_r_SameGraphs_5 (lf : Nat) (x1 : DGraph) (x2 : DGraph) : Nat → (Int) → Option Rt_r_SameGraphs := rounds fun K p => R_r_SameGraphs_5 lf x1 x2 K p
theorem at_r_SameGraphs_5 (g : ElA [cGraph, cGraph] → Option Rt_r_SameGraphs) (lf : Nat) (x1 : DGraph) (x2 : DGraph) : ∀ (n : Nat) (p : Int), A_r_SameGraphs g lf 5 [n] (enc_r_SameGraphs_5 x1 x2 p) = G_r_SameGraphs_5 lf x1 x2 n p
  | 0, p => atN_zero 5 [0] rfl _
  | n + 1, p => by
    have ih := at_r_SameGraphs_5 g lf x1 x2 n
    refine (atN_eq (icallK_eq 20 _) nd_r_SameGraphs ok_r_SameGraphs 5 [n + 1] [n] rfl _).trans ((st_r_SameGraphs_5 g (A_r_SameGraphs g lf) lf x1 x2 n p).trans ?_)
    rw [(show (fun q => A_r_SameGraphs g lf 5 [n] (enc_r_SameGraphs_5 x1 x2 q)) = (fun q => G_r_SameGraphs_5 lf x1 x2 n q) from funext ih)]
    rfl
def F_r_SameGraphs (lf : Nat) (x1 : DGraph) (x2 : DGraph) : Option Rt_r_SameGraphs := R_r_SameGraphs_in lf x1 x2 (fun q => G_r_SameGraphs_5 lf x1 x2 lf q)
theorem run_r_SameGraphs (g : ElA [cGraph, cGraph] → Option Rt_r_SameGraphs) (lf : Nat) (x1 : DGraph) (x2 : DGraph) : icodeT Try.prog ttT.get nm_r_SameGraphs fi26.nt (cl_r_SameGraphs _ lf) lf st_r_SameGraphs (A_r_SameGraphs g lf) fi26.body [] (argGo (argV [cGraph, cGraph] (x1, x2, ())) 0 .leaf) S0 [] (lastK ttT.get fi26 ⟨[cGraph, cGraph], [(false, .bool)], g⟩) = F_r_SameGraphs lf x1 x2 := by
    refine (in_r_SameGraphs g (A_r_SameGraphs g lf) lf x1 x2).trans ?_
    rw [(show (fun q => A_r_SameGraphs g lf 5 [lf] (enc_r_SameGraphs_5 x1 x2 q)) = (fun q => G_r_SameGraphs_5 lf x1 x2 lf q) from funext fun q => at_r_SameGraphs_5 g lf x1 x2 lf q)]
    rfl
theorem hxs_r_SameGraphs : HxsOK Try.prog hxl_r_SameGraphs := trivial
theorem mk_r_SameGraphs {g : ElA [cGraph, cGraph] → Option Rt_r_SameGraphs} (hsm : SmOK Try.prog sml_r_SameGraphs) (hg : ∀ (x : ElA [cGraph, cGraph]) (y : Rt_r_SameGraphs), WfA [cGraph, cGraph] x → g x = some y → ∃ lf, F_r_SameGraphs lf x.1 x.2.1 = some y) : Con Try.prog 26 ⟨[cGraph, cGraph], [(false, .bool)], g⟩ :=
  conT (nmf := nm_r_SameGraphs) (sml := sml_r_SameGraphs) (hxl := hxl_r_SameGraphs) (st := st_r_SameGraphs) (hd := hd_r_SameGraphs) 20 mixed ttOK ftOK hsm hxs_r_SameGraphs cal26 rfl rfl (by kernel_rfl) (fun x => by kernel_rfl) nd_r_SameGraphs ok_r_SameGraphs fun x y hx hy => by
    obtain ⟨lf, h⟩ := hg x y hx hy
    exact ⟨lf, (run_r_SameGraphs g lf x.1 x.2.1).trans h⟩
def nm_l_few : Nat → Option Nm := fun k => cond (Nat.beq k 3) (some ⟨[1, 3, 4], [], [], [], [], 0, 0, false⟩) (none)
def st_l_few : Nat → Bool := fun k => cond (Nat.beq k 3) true (false)
def hd_l_few : Nat → Bool := fun k => cond (Nat.beq k 3) true (false)
abbrev Rt_l_few : Type := Bool × Unit
def sml_l_few : List (Nat × Sm) := []
def hxl_l_few : List (Nat × Hx) := []
def cl_l_few (R : Type) (lf : Nat) : ClK R := icallK Try.prog ttT.get ftT.get (nm1 14 nm_l_few) (smL sml_l_few) (hxL hxl_l_few) lf 20 R
abbrev id_l_few : Nat := 14
def enc_l_few_3 (x1 : DGraph) (p : Int) : NRes := (NRes.mk (PT.node none (PT.node (some (IV.ptr 0 0)) (PT.node (some (IV.int Go.IntKind.i64 (Int.ofNat (List.length x1.1)))) PT.leaf PT.leaf) PT.leaf) (PT.node none (PT.node (some (IV.int Go.IntKind.i64 p)) PT.leaf PT.leaf) PT.leaf)) (IS.mk (PT.node (some (IObj.row (List.cons (IV.lst cNode x1.1) (List.cons (IV.lst cVal x1.2) [])))) PT.leaf PT.leaf) 1) [] 0)
def R_l_few_in (lf : Nat) (x1 : DGraph) (L3 : Int → Option Rt_l_few) : Option Rt_l_few := (L3 (Int.ofNat 0))
def R_l_few_3 (lf : Nat) (x1 : DGraph) (L3 : Int → Option Rt_l_few) (p : Int) : Option Rt_l_few := (cond (iltI p (Int.ofNat (List.length x1.1))) (match (jget x1.1 p) with | .none  => none | .some v0 => (cond (iltI (Int.ofNat 8) (Int.ofNat (List.length v0.2))) (cond (Bool.not (iltI (Int.ofNat 30) (Int.ofNat (List.length v0.2)))) (some (Bool.false, ())) (cond (iltI (Int.ofNat 40) (Int.ofNat (List.length v0.2))) (some (Bool.false, ())) (L3 (Go.IntKind.wrap Go.IntKind.i64 (Int.add p (Int.ofNat 1)))))) (cond (iltI (Int.ofNat 40) (Int.ofNat (List.length v0.2))) (some (Bool.false, ())) (L3 (Go.IntKind.wrap Go.IntKind.i64 (Int.add p (Int.ofNat 1))))))) (cond (Bool.not (iltI (Int.ofNat 30) (Int.ofNat (List.length x1.1)))) (cond (Bool.not (iltI (Int.ofNat 10) (Int.ofNat (List.length x1.2)))) (some (Bool.true, ())) (cond (iltI (Int.ofNat 60) (Int.ofNat (List.length x1.2))) (some ((Bool.not (iltI (Int.ofNat 70) (Int.ofNat (List.length x1.2)))), ())) (some (Bool.false, ())))) (cond (iltI (Int.ofNat 400) (Int.ofNat (List.length x1.1))) (cond (Bool.not (iltI (Int.ofNat 410) (Int.ofNat (List.length x1.1)))) (cond (Bool.not (iltI (Int.ofNat 10) (Int.ofNat (List.length x1.2)))) (some (Bool.true, ())) (cond (iltI (Int.ofNat 60) (Int.ofNat (List.length x1.2))) (some ((Bool.not (iltI (Int.ofNat 70) (Int.ofNat (List.length x1.2)))), ())) (some (Bool.false, ())))) (some (Bool.false, ()))) (some (Bool.false, ())))))
theorem in_l_few (g : ElA [cGraph] → Option Rt_l_few) (J : Nat → List Nat → NRes → Option Rt_l_few) (lf : Nat) (x1 : DGraph) : icodeT Try.prog ttT.get nm_l_few fi14.nt (cl_l_few _ lf) lf st_l_few J fi14.body [] (argGo (argV [cGraph] (x1, ())) 0 .leaf) S0 [] (lastK ttT.get fi14 ⟨[cGraph], [(false, .bool)], g⟩) = R_l_few_in lf x1 (fun q => J 3 [lf] (enc_l_few_3 x1 q)) := by kernel_rfl
theorem st_l_few_3 (g : ElA [cGraph] → Option Rt_l_few) (J : Nat → List Nat → NRes → Option Rt_l_few) (lf : Nat) (x1 : DGraph) (m1 : Nat) (p : Int) : icodeFT Try.prog ttT.get nm_l_few fi14.nt (cl_l_few _ lf) lf st_l_few J 3 fi14.body [] [m1] (enc_l_few_3 x1 p) (lastK ttT.get fi14 ⟨[cGraph], [(false, .bool)], g⟩) = R_l_few_3 lf x1 (fun q => J 3 [m1] (enc_l_few_3 x1 q)) p := by kernel_rfl
theorem nd_l_few : (regs fi14.body).Nodup := by decide +kernel
theorem ok_l_few : okC nm_l_few st_l_few hd_l_few fi14.body none = true := by kernel_rfl
def A_l_few (g : ElA [cGraph] → Option Rt_l_few) (lf : Nat) : Nat → List Nat → NRes → Option Rt_l_few := atN Try.prog ttT.get nm_l_few fi14 ⟨[cGraph], [(false, .bool)], g⟩ (cl_l_few _ lf) lf hd_l_few
def G_l_few_3 (lf : Nat) (x1 : DGraph) : Nat → (Int) → Option Rt_l_few := rounds fun K p => R_l_few_3 lf x1 K p
theorem at_l_few_3 (g : ElA [cGraph] → Option Rt_l_few) (lf : Nat) (x1 : DGraph) : ∀ (n : Nat) (p : Int), A_l_few g lf 3 [n] (enc_l_few_3 x1 p) = G_l_few_3 lf x1 n p
  | 0, p => atN_zero 3 [0] rfl _
  | n + 1, p => by
    have ih := at_l_few_3 g lf x1 n
    refine (atN_eq (icallK_eq 20 _) nd_l_few ok_l_few 3 [n + 1] [n] rfl _).trans ((st_l_few_3 g (A_l_few g lf) lf x1 n p).trans ?_)
    rw [(show (fun q => A_l_few g lf 3 [n] (enc_l_few_3 x1 q)) = (fun q => G_l_few_3 lf x1 n q) from funext ih)]
    rfl
def F_l_few (lf : Nat) (x1 : DGraph) : Option Rt_l_few := R_l_few_in lf x1 (fun q => G_l_few_3 lf x1 lf q)
theorem run_l_few (g : ElA [cGraph] → Option Rt_l_few) (lf : Nat) (x1 : DGraph) : icodeT Try.prog ttT.get nm_l_few fi14.nt (cl_l_few _ lf) lf st_l_few (A_l_few g lf) fi14.body [] (argGo (argV [cGraph] (x1, ())) 0 .leaf) S0 [] (lastK ttT.get fi14 ⟨[cGraph], [(false, .bool)], g⟩) = F_l_few lf x1 := by
    refine (in_l_few g (A_l_few g lf) lf x1).trans ?_
    rw [(show (fun q => A_l_few g lf 3 [lf] (enc_l_few_3 x1 q)) = (fun q => G_l_few_3 lf x1 lf q) from funext fun q => at_l_few_3 g lf x1 lf q)]
    rfl
theorem hxs_l_few : HxsOK Try.prog hxl_l_few := trivial
theorem mk_l_few {g : ElA [cGraph] → Option Rt_l_few} (hsm : SmOK Try.prog sml_l_few) (hg : ∀ (x : ElA [cGraph]) (y : Rt_l_few), WfA [cGraph] x → g x = some y → ∃ lf, F_l_few lf x.1 = some y) : Con Try.prog 14 ⟨[cGraph], [(false, .bool)], g⟩ :=
  conT (nmf := nm_l_few) (sml := sml_l_few) (hxl := hxl_l_few) (st := st_l_few) (hd := hd_l_few) 20 mixed ttOK ftOK hsm hxs_l_few cal14 rfl rfl (by kernel_rfl) (fun x => by kernel_rfl) nd_l_few ok_l_few fun x y hx hy => by
    obtain ⟨lf, h⟩ := hg x y hx hy
    exact ⟨lf, (run_l_few g lf x.1).trans h⟩
end Go.Proofs.Ytcnhjofpmpipfaa

end
end

/- Made by program: plain forms of functions. -/
section
set_option linter.unusedVariables false
set_option maxRecDepth 100000
noncomputable section
namespace Go.Proofs.Ytcnhjofpmpipfaa
open Go Go.Sx Go.RowKit Go.Jx
end Go.Proofs.Ytcnhjofpmpipfaa

end
end

/- Made by program: plain forms of functions. -/
section
set_option linter.unusedVariables false
set_option maxRecDepth 100000
noncomputable section
namespace Go.Proofs.Ytcnhjofpmpipfaa
open Go Go.Sx Go.RowKit Go.Jx
end Go.Proofs.Ytcnhjofpmpipfaa

end
end

/- The calls of slices.Clone. -/
section
set_option linter.unusedVariables false
set_option maxRecDepth 100000
namespace Go.Proofs.Ytcnhjofpmpipfaa
open Go Go.Sx Go.RowKit Go.Jx

end Go.Proofs.Ytcnhjofpmpipfaa
end

/- The contracts of package pack, second part: rules. -/
section
set_option linter.unusedVariables false
set_option maxRecDepth 100000
namespace Go.Proofs.Ytcnhjofpmpipfaa
open Go Go.Sx Go.RowKit Go.Jx

end Go.Proofs.Ytcnhjofpmpipfaa
end

/- The contract of pack.Convert; what right rules are. -/
section
set_option linter.unusedVariables false
set_option maxRecDepth 100000
namespace Go.Proofs.Ytcnhjofpmpipfaa
open Go Go.Sx Go.RowKit Go.Jx
end Go.Proofs.Ytcnhjofpmpipfaa
end

/- The contracts of pack's chaining of rules. -/
section
set_option linter.unusedVariables false
set_option maxRecDepth 100000
namespace Go.Proofs.Ytcnhjofpmpipfaa
open Go Go.Sx Go.RowKit Go.Jx
end Go.Proofs.Ytcnhjofpmpipfaa
end

/- Comparisons, and the law's bounds. -/
section
set_option linter.unusedVariables false
set_option maxRecDepth 100000
namespace Go.Proofs.Ytcnhjofpmpipfaa
open Go Go.Sx Go.RowKit Go.Jx
theorem F_r_SameVals_eq (a b : List DVal) (hl : a.length < LF) : F_r_SameVals LF a b = some (S.sameVals a b, ()) := by
  simp only [F_r_SameVals, R_r_SameVals_in, ieq_nat, S.sameVals]
  by_cases hlen : a.length = b.length
  · rw [decide_eq_true hlen, Bool.not_true, cond_false]
    refine (range1 (R := Rt_r_SameVals) a (fun rest i => some (decide (rest = b.drop i), ())) hl (fun K => ?_) (fun K i v rest r h => ?_)).trans (by rw [List.drop_zero])
    · simp only [R_r_SameVals_4, ilt_self, cond_false]
      rw [List.drop_of_length_le (by omega), decide_eq_true rfl]
    · have hi : i < b.length := by have := r.lt; omega
      have hd : b.drop i = b[i] :: b.drop (i + 1) := List.drop_eq_getElem_cons hi
      have hb : jget b (Int.ofNat i) = some b[i] := jget_nat.trans (List.getElem?_eq_getElem hi)
      simp only [R_r_SameVals_4, r.ilt, r.get, hb, r.next, h, cond_true, hd]
      generalize b[i] = w
      obtain ⟨v1, v2⟩ := v
      obtain ⟨w1, w2⟩ := w
      simp only [keqI, Bool.and_true]
      by_cases e1 : v1 = w1 <;> by_cases e2 : v2 = w2 <;> simp [e1, e2]
  · have hn : ¬ a = b := fun e => hlen (by rw [e])
    rw [decide_eq_false hlen, Bool.not_false, cond_true, decide_eq_false hn]
theorem con_r_SameVals : Con Try.prog id_r_SameVals sp_r_SameVals := mk_r_SameVals trivial fun x y hx h => ⟨LF, (F_r_SameVals_eq _ _ (wf_len hx.1)).trans h⟩
theorem F_r_SameGraphs_eq (a b : DGraph) (hl : a.1.length < LF) : F_r_SameGraphs LF a b = some (S.sameGraphs a b, ()) := by
  simp only [F_r_SameGraphs, R_r_SameGraphs_in, ieq_nat, S.sameGraphs]
  obtain ⟨a1, a2⟩ := a
  obtain ⟨b1, b2⟩ := b
  have hs : S.sameVals a2 b2 = decide (a2 = b2) := rfl
  simp only [hs]
  by_cases hr : a2 = b2
  · rw [decide_eq_true hr, Bool.not_true, cond_false]
    by_cases hlen : a1.length = b1.length
    · rw [decide_eq_true hlen, Bool.not_true, cond_false]
      refine (range1 (R := Rt_r_SameGraphs) a1 (fun rest i => some (decide (rest = b1.drop i), ())) hl (fun K => ?_) (fun K i v rest r h => ?_)).trans (by rw [List.drop_zero]; simp [hr])
      · simp only [R_r_SameGraphs_5, ilt_self, cond_false]
        rw [List.drop_of_length_le (by omega), decide_eq_true rfl]
      · have hi : i < b1.length := by have := r.lt; dsimp only at *; omega
        have hd : b1.drop i = b1[i] :: b1.drop (i + 1) := List.drop_eq_getElem_cons hi
        have hb : jget b1 (Int.ofNat i) = some b1[i] := jget_nat.trans (List.getElem?_eq_getElem hi)
        have hg := r.get
        simp only [R_r_SameGraphs_5, r.ilt, hg, hb, r.next, h, cond_true, hd]
        generalize b1[i] = w
        obtain ⟨v1, v2⟩ := v
        obtain ⟨w1, w2⟩ := w
        simp only [keqS, S.sameVals]
        by_cases e1 : v1 = w1 <;> by_cases e2 : v2 = w2 <;> simp [e1, e2]
    · have hn : ¬ (a1, a2) = (b1, b2) := fun e => hlen (by rw [(Prod.mk.inj e).1])
      rw [decide_eq_false hlen, Bool.not_false, cond_true, decide_eq_false hn]
  · have hn : ¬ (a1, a2) = (b1, b2) := fun e => hr (Prod.mk.inj e).2
    rw [decide_eq_false hr, Bool.not_false, cond_true, decide_eq_false hn]
theorem con_r_SameGraphs : Con Try.prog id_r_SameGraphs sp_r_SameGraphs := mk_r_SameGraphs ⟨con_r_SameVals, trivial⟩ fun x y hx h => ⟨LF, (F_r_SameGraphs_eq _ _ (wf_len hx.1.1)).trans h⟩
theorem F_l_few_eq (g : DGraph) (hl : g.1.length < LF) : F_l_few LF g = some (S.few g, ()) := by
  simp only [F_l_few, R_l_few_in, S.few]
  refine range1 (R := Rt_l_few) g.1 (fun rest i => some (rest.all (fun n => decide ((n.2.length ≤ 8 ∨ 30 < n.2.length) ∧ n.2.length ≤ 40)) && decide ((g.1.length ≤ 30 ∨ 400 < g.1.length ∧ g.1.length ≤ 410) ∧ (g.2.length ≤ 10 ∨ 60 < g.2.length ∧ g.2.length ≤ 70)), ())) hl (fun K => ?_) (fun K i v rest r h => ?_)
  · simp only [R_l_few_3, ilt_self, cond_false, ilt_nat, List.all_nil, Bool.true_and]
    generalize g.1.length = n
    generalize g.2.length = k
    by_cases a1 : 30 < n <;> by_cases a2 : 400 < n <;> by_cases a3 : 410 < n <;> by_cases b1 : 10 < k <;> by_cases b2 : 60 < k <;> by_cases b3 : 70 < k <;> simp [a1, a2, a3, b1, b2, b3] <;> omega
  · simp only [R_l_few_3, r.ilt, r.get, r.next, h, cond_true, ilt_nat, List.all_cons]
    generalize v.2.length = n
    generalize (rest.all fun n => decide ((n.2.length ≤ 8 ∨ 30 < n.2.length) ∧ n.2.length ≤ 40)) = w
    by_cases a1 : 8 < n
    · rw [decide_eq_true a1, cond_true]
      by_cases a2 : 30 < n
      · rw [decide_eq_true a2, Bool.not_true, cond_false]
        by_cases a3 : 40 < n
        · have e : decide ((n ≤ 8 ∨ 30 < n) ∧ n ≤ 40) = false := decide_eq_false (by omega)
          rw [e, decide_eq_true a3]; rfl
        · have e : decide ((n ≤ 8 ∨ 30 < n) ∧ n ≤ 40) = true := decide_eq_true (by omega)
          rw [e, decide_eq_false a3]; cases w <;> rfl
      · have e : decide ((n ≤ 8 ∨ 30 < n) ∧ n ≤ 40) = false := decide_eq_false (by omega)
        rw [e, decide_eq_false a2]; rfl
    · rw [decide_eq_false a1, cond_false]
      have e : decide ((n ≤ 8 ∨ 30 < n) ∧ n ≤ 40) = true := decide_eq_true (by omega)
      have a3 : ¬ 40 < n := by omega
      rw [e, decide_eq_false a3]; cases w <;> rfl
theorem con_l_few : Con Try.prog id_l_few sp_l_few := mk_l_few trivial fun x y hx h => ⟨LF, (F_l_few_eq _ (wf_len hx.1.1)).trans h⟩
end Go.Proofs.Ytcnhjofpmpipfaa
end

/- Made by program: plain forms of functions. -/
section
set_option linter.unusedVariables false
set_option maxRecDepth 100000
noncomputable section
namespace Go.Proofs.Ytcnhjofpmpipfaa
open Go Go.Sx Go.RowKit Go.Jx
def nm_l_PackRenumbers : Nat → Option Nm := fun k => cond (Nat.beq k 13) (some ⟨[2, 5, 6, 110, 111, 112], [], [], [], [], 0, 0, false⟩) (cond (Nat.beq k 20) (some ⟨[2, 5, 19, 121, 122, 123], [], [], [], [], 0, 0, false⟩) (cond (Nat.beq k 30) (some ⟨[2, 5, 19, 157, 158], [], [], [], [], 0, 0, false⟩) (cond (Nat.beq k 33) (some ⟨[2, 5, 19, 22, 157, 158, 163, 164], [], [], [], [], 0, 0, false⟩) (none))))
def st_l_PackRenumbers : Nat → Bool := fun k => cond (Nat.beq k 13) true (cond (Nat.beq k 20) true (cond (Nat.beq k 30) true (cond (Nat.beq k 33) true (false))))
def hd_l_PackRenumbers : Nat → Bool := fun k => cond (Nat.beq k 13) true (cond (Nat.beq k 20) true (cond (Nat.beq k 30) true (cond (Nat.beq k 33) true (false))))
abbrev Rt_l_PackRenumbers : Type := Bool × Unit
def sml_l_PackRenumbers : List (Nat × Sm) := [(14, sp_l_few), (15, sp_l_sanity), (22, sp_p_Canon), (23, sp_l_turned), (24, sp_l_order), (25, sp_p_Same), (26, sp_r_SameGraphs)]
def hxl_l_PackRenumbers : List (Nat × Hx) := []
def cl_l_PackRenumbers (R : Type) (lf : Nat) : ClK R := icallK Try.prog ttT.get ftT.get (nm1 5 nm_l_PackRenumbers) (smL sml_l_PackRenumbers) (hxL hxl_l_PackRenumbers) lf 20 R
abbrev id_l_PackRenumbers : Nat := 5
def enc_l_PackRenumbers_13 (x1 : DGraph) (x2 : (List Int)) (p : (List DVal) × (List Int) × (List Int) × (List DNode) × Int) : NRes := (NRes.mk (PT.node none (PT.node none (PT.node none (PT.node none (PT.node none PT.leaf (PT.node none PT.leaf (PT.node (some (IV.int Go.IntKind.i64 (Int.ofNat (List.length p.2.1)))) PT.leaf PT.leaf))) PT.leaf) PT.leaf) (PT.node (some (IV.ptr 1 0)) PT.leaf PT.leaf)) (PT.node (some (IV.ptr 0 0)) (PT.node none (PT.node none (PT.node none PT.leaf (PT.node none PT.leaf (PT.node (some (IV.int Go.IntKind.i64 p.2.2.2.2)) PT.leaf PT.leaf))) PT.leaf) PT.leaf) (PT.node (some (IV.lst (TC.int Go.IntKind.i64) p.2.2.1)) PT.leaf (PT.node none PT.leaf (PT.node none (PT.node none PT.leaf (PT.node (some (IV.lst (TC.int Go.IntKind.i64) p.2.1)) PT.leaf PT.leaf)) PT.leaf))))) (IS.mk (PT.node (some (IObj.row (List.cons (IV.lst cNode x1.1) (List.cons (IV.lst cVal x1.2) [])))) (PT.node (some (IObj.row (List.cons (IV.lst cNode p.2.2.2.1) (List.cons (IV.lst cVal p.1) [])))) PT.leaf PT.leaf) PT.leaf) 2) [] 0)
def enc_l_PackRenumbers_20 (x1 : DGraph) (x2 : (List Int)) (p : (List DVal) × (List Int) × (List DNode) × Int × Int) : NRes := (NRes.mk (PT.node none (PT.node none (PT.node none PT.leaf (PT.node none (PT.node (some (IV.int Go.IntKind.i64 p.2.2.2.2)) PT.leaf PT.leaf) (PT.node none PT.leaf (PT.node none PT.leaf (PT.node (some (IV.int Go.IntKind.i64 p.2.2.2.1)) PT.leaf PT.leaf))))) (PT.node (some (IV.ptr 1 0)) (PT.node none PT.leaf (PT.node none PT.leaf (PT.node none PT.leaf (PT.node (some (IV.lst (TC.int Go.IntKind.i64) p.2.1)) PT.leaf PT.leaf)))) PT.leaf)) (PT.node (some (IV.ptr 0 0)) PT.leaf (PT.node none (PT.node none PT.leaf (PT.node none PT.leaf (PT.node none PT.leaf (PT.node (some (IV.int Go.IntKind.i64 (Int.ofNat (List.length p.2.1)))) PT.leaf PT.leaf)))) PT.leaf))) (IS.mk (PT.node (some (IObj.row (List.cons (IV.lst cNode x1.1) (List.cons (IV.lst cVal x1.2) [])))) (PT.node (some (IObj.row (List.cons (IV.lst cNode p.2.2.1) (List.cons (IV.lst cVal p.1) [])))) PT.leaf PT.leaf) PT.leaf) 2) [] 0)
def enc_l_PackRenumbers_30 (x1 : DGraph) (x2 : (List Int)) (p : (List DVal) × (List DNode) × Int × Int) : NRes := (NRes.mk (PT.node none (PT.node none (PT.node none PT.leaf (PT.node none (PT.node (some (IV.int Go.IntKind.i64 p.2.2.1)) PT.leaf PT.leaf) PT.leaf)) (PT.node (some (IV.ptr 1 0)) PT.leaf (PT.node none PT.leaf (PT.node none PT.leaf (PT.node none (PT.node none (PT.node (some (IV.int Go.IntKind.i64 (Int.ofNat (List.length x1.2)))) PT.leaf PT.leaf) PT.leaf) PT.leaf))))) (PT.node (some (IV.ptr 0 0)) PT.leaf (PT.node none PT.leaf (PT.node none PT.leaf (PT.node none PT.leaf (PT.node none (PT.node none (PT.node (some (IV.int Go.IntKind.i64 p.2.2.2)) PT.leaf PT.leaf) PT.leaf) PT.leaf)))))) (IS.mk (PT.node (some (IObj.row (List.cons (IV.lst cNode x1.1) (List.cons (IV.lst cVal x1.2) [])))) (PT.node (some (IObj.row (List.cons (IV.lst cNode p.2.1) (List.cons (IV.lst cVal p.1) [])))) PT.leaf PT.leaf) PT.leaf) 2) [] 0)
def enc_l_PackRenumbers_33 (x1 : DGraph) (x2 : (List Int)) (p : (List DVal) × Int × (List DNode) × Int × Int × Int) : NRes := (NRes.mk (PT.node none (PT.node none (PT.node none PT.leaf (PT.node none (PT.node (some (IV.int Go.IntKind.i64 p.2.1)) (PT.node none PT.leaf (PT.node none (PT.node (some (IV.int Go.IntKind.i64 (Int.ofNat (List.length x1.2)))) PT.leaf PT.leaf) PT.leaf)) PT.leaf) PT.leaf)) (PT.node (some (IV.ptr 1 0)) PT.leaf (PT.node none PT.leaf (PT.node none PT.leaf (PT.node none (PT.node none (PT.node (some (IV.int Go.IntKind.i64 (Int.ofNat (List.length x1.2)))) PT.leaf PT.leaf) PT.leaf) PT.leaf))))) (PT.node (some (IV.ptr 0 0)) (PT.node none PT.leaf (PT.node none (PT.node none (PT.node none PT.leaf (PT.node none (PT.node (some (IV.int Go.IntKind.i64 p.2.2.2.1)) PT.leaf PT.leaf) PT.leaf)) PT.leaf) PT.leaf)) (PT.node none PT.leaf (PT.node none (PT.node (some (IV.int Go.IntKind.i64 p.2.2.2.2.1)) PT.leaf PT.leaf) (PT.node none PT.leaf (PT.node none (PT.node none (PT.node (some (IV.int Go.IntKind.i64 p.2.2.2.2.2)) PT.leaf PT.leaf) PT.leaf) PT.leaf)))))) (IS.mk (PT.node (some (IObj.row (List.cons (IV.lst cNode x1.1) (List.cons (IV.lst cVal x1.2) [])))) (PT.node (some (IObj.row (List.cons (IV.lst cNode p.2.2.1) (List.cons (IV.lst cVal p.1) [])))) PT.leaf PT.leaf) PT.leaf) 2) [] 0)
def R_l_PackRenumbers_in (lf : Nat) (x1 : DGraph) (x2 : (List Int)) (L13 : ((List DVal) × (List Int) × (List Int) × (List DNode) × Int) → Option Rt_l_PackRenumbers) : Option Rt_l_PackRenumbers := (cond (Bool.not (Go.Proofs.Ytcnhjofpmpipfaa.S.few (x1.1, x1.2))) (some (Bool.true, ())) (cond (iltI (Int.ofNat 60) (Int.ofNat (List.length x2))) (some (Bool.true, ())) (match (Go.Proofs.Ytcnhjofpmpipfaa.S.CanonO (x1.1, x1.2)) with | .none  => none | .some v0 => (cond (Bool.not (ieqI v0.2.2.1 (Int.ofNat 0))) (some (Bool.true, ())) (match (Go.Proofs.Ytcnhjofpmpipfaa.S.orderO (Int.ofNat (List.length x1.1)) x2) with | .none  => none | .some v1 => (match (Go.Proofs.Ytcnhjofpmpipfaa.S.turnedO (x1.1, x1.2) v1.1) with | .none  => none | .some v2 => (match (Go.Proofs.Ytcnhjofpmpipfaa.S.CanonO (v2.1.1, v2.1.2)) with | .none  => none | .some v3 => (match (Go.Proofs.Ytcnhjofpmpipfaa.S.CanonO (v0.1.1, v0.1.2)) with | .none  => none | .some v4 => (match (Go.Proofs.Ytcnhjofpmpipfaa.S.SameO (x1.1, x1.2) (v2.1.1, v2.1.2)) with | .none  => none | .some v5 => (cond (Bool.not (ieqI v3.2.2.1 (Int.ofNat 0))) (some (Bool.false, ())) (cond (Bool.not (ieqI v4.2.2.1 (Int.ofNat 0))) (some (Bool.false, ())) (cond (Bool.not (ieqI v5.2.1 (Int.ofNat 0))) (some (Bool.false, ())) (cond (Bool.not v5.1) (some (Bool.false, ())) (cond (Bool.not (Go.Proofs.Ytcnhjofpmpipfaa.S.sameGraphs (v0.1.1, v0.1.2) (v3.1.1, v3.1.2))) (some (Bool.false, ())) (cond (Bool.not (Go.Proofs.Ytcnhjofpmpipfaa.S.sameGraphs (v4.1.1, v4.1.2) (v0.1.1, v0.1.2))) (some (Bool.false, ())) (cond (Bool.not (ieqI (Int.ofNat (List.length v0.2.1)) (Int.ofNat (List.length x1.1)))) (some (Bool.false, ())) (cond (Bool.not (ieqI (Int.ofNat (List.length v0.1.2)) (Int.ofNat (List.length x1.2)))) (some (Bool.false, ())) (L13 (v0.1.2, v4.2.1, v0.2.1, v0.1.1, (Int.ofNat 0))))))))))))))))))))
def R_l_PackRenumbers_13 (lf : Nat) (x1 : DGraph) (x2 : (List Int)) (L13 : ((List DVal) × (List Int) × (List Int) × (List DNode) × Int) → Option Rt_l_PackRenumbers) (L20 : ((List DVal) × (List Int) × (List DNode) × Int × Int) → Option Rt_l_PackRenumbers) (p : (List DVal) × (List Int) × (List Int) × (List DNode) × Int) : Option Rt_l_PackRenumbers := (cond (iltI p.2.2.2.2 (Int.ofNat (List.length p.2.1))) (match (jget p.2.1 p.2.2.2.2) with | .none  => none | .some v0 => (cond (Bool.not (ieqI v0 p.2.2.2.2)) (some (Bool.false, ())) (L13 (p.1, p.2.1, p.2.2.1, p.2.2.2.1, (Go.IntKind.wrap Go.IntKind.i64 (Int.add p.2.2.2.2 (Int.ofNat 1))))))) (L20 (p.1, p.2.2.1, p.2.2.2.1, (Int.ofNat 0), (Int.ofNat 0))))
def R_l_PackRenumbers_20 (lf : Nat) (x1 : DGraph) (x2 : (List Int)) (L20 : ((List DVal) × (List Int) × (List DNode) × Int × Int) → Option Rt_l_PackRenumbers) (L30 : ((List DVal) × (List DNode) × Int × Int) → Option Rt_l_PackRenumbers) (p : (List DVal) × (List Int) × (List DNode) × Int × Int) : Option Rt_l_PackRenumbers := (cond (iltI p.2.2.2.1 (Int.ofNat (List.length p.2.1))) (match (jget p.2.1 p.2.2.2.1) with | .none  => none | .some v0 => (cond (iltI v0 (Int.negSucc 0)) (some (Bool.false, ())) (cond (Bool.not (iltI v0 (Int.ofNat (List.length p.2.2.1)))) (some (Bool.false, ())) (cond (Bool.not (iltI v0 (Int.ofNat 0))) (match (jget p.2.2.1 v0) with | .none  => none | .some v1 => (match (jget x1.1 p.2.2.2.1) with | .none  => none | .some v2 => (cond (Bool.not (keqS v1.1 v2.1)) (some (Bool.false, ())) (L20 (p.1, p.2.1, p.2.2.1, (Go.IntKind.wrap Go.IntKind.i64 (Int.add p.2.2.2.1 (Int.ofNat 1))), (Go.IntKind.wrap Go.IntKind.i64 (Int.add p.2.2.2.2 (Int.ofNat 1)))))))) (L20 (p.1, p.2.1, p.2.2.1, (Go.IntKind.wrap Go.IntKind.i64 (Int.add p.2.2.2.1 (Int.ofNat 1))), p.2.2.2.2)))))) (L30 (p.1, p.2.2.1, p.2.2.2.2, (Int.ofNat 0))))
def R_l_PackRenumbers_30 (lf : Nat) (x1 : DGraph) (x2 : (List Int)) (L33 : ((List DVal) × Int × (List DNode) × Int × Int × Int) → Option Rt_l_PackRenumbers) (p : (List DVal) × (List DNode) × Int × Int) : Option Rt_l_PackRenumbers := (cond (iltI p.2.2.2 (Int.ofNat (List.length x1.2))) (L33 (p.1, p.2.2.1, p.2.1, (Int.ofNat 0), p.2.2.2, p.2.2.2)) (some ((ieqI p.2.2.1 (Int.ofNat (List.length p.2.1))), ())))
def R_l_PackRenumbers_33 (lf : Nat) (x1 : DGraph) (x2 : (List Int)) (L33 : ((List DVal) × Int × (List DNode) × Int × Int × Int) → Option Rt_l_PackRenumbers) (L30 : ((List DVal) × (List DNode) × Int × Int) → Option Rt_l_PackRenumbers) (p : (List DVal) × Int × (List DNode) × Int × Int × Int) : Option Rt_l_PackRenumbers := (cond (iltI p.2.2.2.1 (Int.ofNat (List.length x1.2))) (match (jget x1.2 p.2.2.2.2.1) with | .none  => none | .some v0 => (match (jget x1.2 p.2.2.2.1) with | .none  => none | .some v1 => (match (jget p.1 p.2.2.2.2.1) with | .none  => none | .some v2 => (match (jget p.1 p.2.2.2.1) with | .none  => none | .some v3 => (cond (Bool.not (Decidable.decide (Eq (Bool.and (keqI v0.1 v1.1) (Bool.and (keqI v0.2 v1.2) Bool.true)) (Bool.and (keqI v2.1 v3.1) (Bool.and (keqI v2.2 v3.2) Bool.true))))) (some (Bool.false, ())) (L33 (p.1, p.2.1, p.2.2.1, (Go.IntKind.wrap Go.IntKind.i64 (Int.add p.2.2.2.1 (Int.ofNat 1))), p.2.2.2.2.1, p.2.2.2.2.2))))))) (L30 (p.1, p.2.2.1, p.2.1, (Go.IntKind.wrap Go.IntKind.i64 (Int.add p.2.2.2.2.2 (Int.ofNat 1))))))
theorem in_l_PackRenumbers (g : ElA [cGraph, (.list (.int .u8))] → Option Rt_l_PackRenumbers) (J : Nat → List Nat → NRes → Option Rt_l_PackRenumbers) (lf : Nat) (x1 : DGraph) (x2 : (List Int)) : icodeT Try.prog ttT.get nm_l_PackRenumbers fi5.nt (cl_l_PackRenumbers _ lf) lf st_l_PackRenumbers J fi5.body [] (argGo (argV [cGraph, (.list (.int .u8))] (x1, x2, ())) 0 .leaf) S0 [] (lastK ttT.get fi5 ⟨[cGraph, (.list (.int .u8))], [(false, .bool)], g⟩) = R_l_PackRenumbers_in lf x1 x2 (fun q => J 13 [lf] (enc_l_PackRenumbers_13 x1 x2 q)) := by kernel_rfl
theorem st_l_PackRenumbers_13 (g : ElA [cGraph, (.list (.int .u8))] → Option Rt_l_PackRenumbers) (J : Nat → List Nat → NRes → Option Rt_l_PackRenumbers) (lf : Nat) (x1 : DGraph) (x2 : (List Int)) (m1 : Nat) (p : (List DVal) × (List Int) × (List Int) × (List DNode) × Int) : icodeFT Try.prog ttT.get nm_l_PackRenumbers fi5.nt (cl_l_PackRenumbers _ lf) lf st_l_PackRenumbers J 13 fi5.body [] [m1] (enc_l_PackRenumbers_13 x1 x2 p) (lastK ttT.get fi5 ⟨[cGraph, (.list (.int .u8))], [(false, .bool)], g⟩) = R_l_PackRenumbers_13 lf x1 x2 (fun q => J 13 [m1] (enc_l_PackRenumbers_13 x1 x2 q)) (fun q => J 20 [lf] (enc_l_PackRenumbers_20 x1 x2 q)) p := by kernel_rfl
theorem st_l_PackRenumbers_20 (g : ElA [cGraph, (.list (.int .u8))] → Option Rt_l_PackRenumbers) (J : Nat → List Nat → NRes → Option Rt_l_PackRenumbers) (lf : Nat) (x1 : DGraph) (x2 : (List Int)) (m1 : Nat) (p : (List DVal) × (List Int) × (List DNode) × Int × Int) : icodeFT Try.prog ttT.get nm_l_PackRenumbers fi5.nt (cl_l_PackRenumbers _ lf) lf st_l_PackRenumbers J 20 fi5.body [] [m1] (enc_l_PackRenumbers_20 x1 x2 p) (lastK ttT.get fi5 ⟨[cGraph, (.list (.int .u8))], [(false, .bool)], g⟩) = R_l_PackRenumbers_20 lf x1 x2 (fun q => J 20 [m1] (enc_l_PackRenumbers_20 x1 x2 q)) (fun q => J 30 [lf] (enc_l_PackRenumbers_30 x1 x2 q)) p := by kernel_rfl
theorem st_l_PackRenumbers_30 (g : ElA [cGraph, (.list (.int .u8))] → Option Rt_l_PackRenumbers) (J : Nat → List Nat → NRes → Option Rt_l_PackRenumbers) (lf : Nat) (x1 : DGraph) (x2 : (List Int)) (m1 : Nat) (p : (List DVal) × (List DNode) × Int × Int) : icodeFT Try.prog ttT.get nm_l_PackRenumbers fi5.nt (cl_l_PackRenumbers _ lf) lf st_l_PackRenumbers J 30 fi5.body [] [m1] (enc_l_PackRenumbers_30 x1 x2 p) (lastK ttT.get fi5 ⟨[cGraph, (.list (.int .u8))], [(false, .bool)], g⟩) = R_l_PackRenumbers_30 lf x1 x2 (fun q => J 33 [m1, lf] (enc_l_PackRenumbers_33 x1 x2 q)) p := by kernel_rfl
theorem st_l_PackRenumbers_33 (g : ElA [cGraph, (.list (.int .u8))] → Option Rt_l_PackRenumbers) (J : Nat → List Nat → NRes → Option Rt_l_PackRenumbers) (lf : Nat) (x1 : DGraph) (x2 : (List Int)) (m1 : Nat) (m2 : Nat) (p : (List DVal) × Int × (List DNode) × Int × Int × Int) : icodeFT Try.prog ttT.get nm_l_PackRenumbers fi5.nt (cl_l_PackRenumbers _ lf) lf st_l_PackRenumbers J 33 fi5.body [] [m1, m2] (enc_l_PackRenumbers_33 x1 x2 p) (lastK ttT.get fi5 ⟨[cGraph, (.list (.int .u8))], [(false, .bool)], g⟩) = R_l_PackRenumbers_33 lf x1 x2 (fun q => J 33 [m1, m2] (enc_l_PackRenumbers_33 x1 x2 q)) (fun q => J 30 [m1] (enc_l_PackRenumbers_30 x1 x2 q)) p := by kernel_rfl
theorem nd_l_PackRenumbers : (regs fi5.body).Nodup := by decide +kernel
theorem ok_l_PackRenumbers : okC nm_l_PackRenumbers st_l_PackRenumbers hd_l_PackRenumbers fi5.body none = true := by kernel_rfl
def A_l_PackRenumbers (g : ElA [cGraph, (.list (.int .u8))] → Option Rt_l_PackRenumbers) (lf : Nat) : Nat → List Nat → NRes → Option Rt_l_PackRenumbers := atN Try.prog ttT.get nm_l_PackRenumbers fi5 ⟨[cGraph, (.list (.int .u8))], [(false, .bool)], g⟩ (cl_l_PackRenumbers _ lf) lf hd_l_PackRenumbers
def G_l_PackRenumbers_33 (lf : Nat) (x1 : DGraph) (x2 : (List Int)) (K30 : ((List DVal) × (List DNode) × Int × Int) → Option Rt_l_PackRenumbers) : Nat → ((List DVal) × Int × (List DNode) × Int × Int × Int) → Option Rt_l_PackRenumbers := rounds fun K p => R_l_PackRenumbers_33 lf x1 x2 K K30 p
theorem at_l_PackRenumbers_33 (g : ElA [cGraph, (.list (.int .u8))] → Option Rt_l_PackRenumbers) (lf : Nat) (x1 : DGraph) (x2 : (List Int)) (m1 : Nat) : ∀ (n : Nat) (p : (List DVal) × Int × (List DNode) × Int × Int × Int), A_l_PackRenumbers g lf 33 [m1, n] (enc_l_PackRenumbers_33 x1 x2 p) = G_l_PackRenumbers_33 lf x1 x2 (fun q => A_l_PackRenumbers g lf 30 [m1] (enc_l_PackRenumbers_30 x1 x2 q)) n p
  | 0, p => atN_zero 33 [m1, 0] rfl _
  | n + 1, p => by
    have ih := at_l_PackRenumbers_33 g lf x1 x2 m1 n
    refine (atN_eq (icallK_eq 20 _) nd_l_PackRenumbers ok_l_PackRenumbers 33 [m1, n + 1] [m1, n] rfl _).trans ((st_l_PackRenumbers_33 g (A_l_PackRenumbers g lf) lf x1 x2 m1 n p).trans ?_)
    rw [(show (fun q => A_l_PackRenumbers g lf 33 [m1, n] (enc_l_PackRenumbers_33 x1 x2 q)) = (fun q => G_l_PackRenumbers_33 lf x1 x2 (fun q => A_l_PackRenumbers g lf 30 [m1] (enc_l_PackRenumbers_30 x1 x2 q)) n q) from funext ih)]
    rfl
def G_l_PackRenumbers_30 (lf : Nat) (x1 : DGraph) (x2 : (List Int)) : Nat → ((List DVal) × (List DNode) × Int × Int) → Option Rt_l_PackRenumbers := rounds fun K p => R_l_PackRenumbers_30 lf x1 x2 (fun q => G_l_PackRenumbers_33 lf x1 x2 K lf q) p
theorem at_l_PackRenumbers_30 (g : ElA [cGraph, (.list (.int .u8))] → Option Rt_l_PackRenumbers) (lf : Nat) (x1 : DGraph) (x2 : (List Int)) : ∀ (n : Nat) (p : (List DVal) × (List DNode) × Int × Int), A_l_PackRenumbers g lf 30 [n] (enc_l_PackRenumbers_30 x1 x2 p) = G_l_PackRenumbers_30 lf x1 x2 n p
  | 0, p => atN_zero 30 [0] rfl _
  | n + 1, p => by
    have ih := at_l_PackRenumbers_30 g lf x1 x2 n
    refine (atN_eq (icallK_eq 20 _) nd_l_PackRenumbers ok_l_PackRenumbers 30 [n + 1] [n] rfl _).trans ((st_l_PackRenumbers_30 g (A_l_PackRenumbers g lf) lf x1 x2 n p).trans ?_)
    rw [(show (fun q => A_l_PackRenumbers g lf 33 [n, lf] (enc_l_PackRenumbers_33 x1 x2 q)) = (fun q => G_l_PackRenumbers_33 lf x1 x2 (fun q => A_l_PackRenumbers g lf 30 [n] (enc_l_PackRenumbers_30 x1 x2 q)) lf q) from funext fun q => at_l_PackRenumbers_33 g lf x1 x2 n lf q), (show (fun q => A_l_PackRenumbers g lf 30 [n] (enc_l_PackRenumbers_30 x1 x2 q)) = (fun q => G_l_PackRenumbers_30 lf x1 x2 n q) from funext ih)]
    rfl
def G_l_PackRenumbers_20 (lf : Nat) (x1 : DGraph) (x2 : (List Int)) : Nat → ((List DVal) × (List Int) × (List DNode) × Int × Int) → Option Rt_l_PackRenumbers := rounds fun K p => R_l_PackRenumbers_20 lf x1 x2 K (fun q => G_l_PackRenumbers_30 lf x1 x2 lf q) p
theorem at_l_PackRenumbers_20 (g : ElA [cGraph, (.list (.int .u8))] → Option Rt_l_PackRenumbers) (lf : Nat) (x1 : DGraph) (x2 : (List Int)) : ∀ (n : Nat) (p : (List DVal) × (List Int) × (List DNode) × Int × Int), A_l_PackRenumbers g lf 20 [n] (enc_l_PackRenumbers_20 x1 x2 p) = G_l_PackRenumbers_20 lf x1 x2 n p
  | 0, p => atN_zero 20 [0] rfl _
  | n + 1, p => by
    have ih := at_l_PackRenumbers_20 g lf x1 x2 n
    refine (atN_eq (icallK_eq 20 _) nd_l_PackRenumbers ok_l_PackRenumbers 20 [n + 1] [n] rfl _).trans ((st_l_PackRenumbers_20 g (A_l_PackRenumbers g lf) lf x1 x2 n p).trans ?_)
    rw [(show (fun q => A_l_PackRenumbers g lf 30 [lf] (enc_l_PackRenumbers_30 x1 x2 q)) = (fun q => G_l_PackRenumbers_30 lf x1 x2 lf q) from funext fun q => at_l_PackRenumbers_30 g lf x1 x2 lf q), (show (fun q => A_l_PackRenumbers g lf 20 [n] (enc_l_PackRenumbers_20 x1 x2 q)) = (fun q => G_l_PackRenumbers_20 lf x1 x2 n q) from funext ih)]
    rfl
def G_l_PackRenumbers_13 (lf : Nat) (x1 : DGraph) (x2 : (List Int)) : Nat → ((List DVal) × (List Int) × (List Int) × (List DNode) × Int) → Option Rt_l_PackRenumbers := rounds fun K p => R_l_PackRenumbers_13 lf x1 x2 K (fun q => G_l_PackRenumbers_20 lf x1 x2 lf q) p
theorem at_l_PackRenumbers_13 (g : ElA [cGraph, (.list (.int .u8))] → Option Rt_l_PackRenumbers) (lf : Nat) (x1 : DGraph) (x2 : (List Int)) : ∀ (n : Nat) (p : (List DVal) × (List Int) × (List Int) × (List DNode) × Int), A_l_PackRenumbers g lf 13 [n] (enc_l_PackRenumbers_13 x1 x2 p) = G_l_PackRenumbers_13 lf x1 x2 n p
  | 0, p => atN_zero 13 [0] rfl _
  | n + 1, p => by
    have ih := at_l_PackRenumbers_13 g lf x1 x2 n
    refine (atN_eq (icallK_eq 20 _) nd_l_PackRenumbers ok_l_PackRenumbers 13 [n + 1] [n] rfl _).trans ((st_l_PackRenumbers_13 g (A_l_PackRenumbers g lf) lf x1 x2 n p).trans ?_)
    rw [(show (fun q => A_l_PackRenumbers g lf 20 [lf] (enc_l_PackRenumbers_20 x1 x2 q)) = (fun q => G_l_PackRenumbers_20 lf x1 x2 lf q) from funext fun q => at_l_PackRenumbers_20 g lf x1 x2 lf q), (show (fun q => A_l_PackRenumbers g lf 13 [n] (enc_l_PackRenumbers_13 x1 x2 q)) = (fun q => G_l_PackRenumbers_13 lf x1 x2 n q) from funext ih)]
    rfl
def F_l_PackRenumbers (lf : Nat) (x1 : DGraph) (x2 : (List Int)) : Option Rt_l_PackRenumbers := R_l_PackRenumbers_in lf x1 x2 (fun q => G_l_PackRenumbers_13 lf x1 x2 lf q)
theorem run_l_PackRenumbers (g : ElA [cGraph, (.list (.int .u8))] → Option Rt_l_PackRenumbers) (lf : Nat) (x1 : DGraph) (x2 : (List Int)) : icodeT Try.prog ttT.get nm_l_PackRenumbers fi5.nt (cl_l_PackRenumbers _ lf) lf st_l_PackRenumbers (A_l_PackRenumbers g lf) fi5.body [] (argGo (argV [cGraph, (.list (.int .u8))] (x1, x2, ())) 0 .leaf) S0 [] (lastK ttT.get fi5 ⟨[cGraph, (.list (.int .u8))], [(false, .bool)], g⟩) = F_l_PackRenumbers lf x1 x2 := by
    refine (in_l_PackRenumbers g (A_l_PackRenumbers g lf) lf x1 x2).trans ?_
    rw [(show (fun q => A_l_PackRenumbers g lf 13 [lf] (enc_l_PackRenumbers_13 x1 x2 q)) = (fun q => G_l_PackRenumbers_13 lf x1 x2 lf q) from funext fun q => at_l_PackRenumbers_13 g lf x1 x2 lf q)]
    rfl
theorem hxs_l_PackRenumbers : HxsOK Try.prog hxl_l_PackRenumbers := trivial
theorem mk_l_PackRenumbers {g : ElA [cGraph, (.list (.int .u8))] → Option Rt_l_PackRenumbers} (hsm : SmOK Try.prog sml_l_PackRenumbers) (hg : ∀ (x : ElA [cGraph, (.list (.int .u8))]) (y : Rt_l_PackRenumbers), WfA [cGraph, (.list (.int .u8))] x → g x = some y → ∃ lf, F_l_PackRenumbers lf x.1 x.2.1 = some y) : Con Try.prog 5 ⟨[cGraph, (.list (.int .u8))], [(false, .bool)], g⟩ :=
  conT (nmf := nm_l_PackRenumbers) (sml := sml_l_PackRenumbers) (hxl := hxl_l_PackRenumbers) (st := st_l_PackRenumbers) (hd := hd_l_PackRenumbers) 20 mixed ttOK ftOK hsm hxs_l_PackRenumbers cal5 rfl rfl (by kernel_rfl) (fun x => by kernel_rfl) nd_l_PackRenumbers ok_l_PackRenumbers fun x y hx hy => by
    obtain ⟨lf, h⟩ := hg x y hx hy
    exact ⟨lf, (run_l_PackRenumbers g lf x.1 x.2.1).trans h⟩
end Go.Proofs.Ytcnhjofpmpipfaa

end
end

/- The table of numbers that canon makes. -/
section
set_option linter.unusedVariables false
namespace Go.Proofs.Ytcnhjofpmpipfaa
open Go Go.Sx Go.RowKit Go.Jx
/-- Objects with their numbers, from one on. -/
def S.tabF : Nat → List Int → List (Int × Int)
  | _, [] => []
  | i, n :: l => (n, Int.ofNat i) :: S.tabF (i + 1) l
def S.tab (o : List Int) : List (Int × Int) := S.tabF 0 o
/-- The order, with objects that are not in it put behind. -/
def S.meetL : List Int → List Int → List Int
  | o, [] => o
  | o, n :: l => if n ∈ o then S.meetL o l else S.meetL (o ++ [n]) l
theorem keqI_eq2 (a b : Int) : keqI a b = decide (a = b) := rfl
theorem numAt_cons (e : Int × Int) (es : List (Int × Int)) (k : Int) : S.numAt (e :: es) k = if k = e.1 then some e.2 else S.numAt es k := by
  show (cond (keqI k e.1) (some e.2) (S.numAt es k)) = _
  rw [keqI_eq2]
  by_cases h : k = e.1
  · rw [if_pos h, decide_eq_true h]; rfl
  · rw [if_neg h, decide_eq_false h]; rfl
theorem numSet_cons (e : Int × Int) (es : List (Int × Int)) (k v : Int) : S.numSet (e :: es) k v = if k = e.1 then (k, v) :: es else e :: S.numSet es k v := by
  show (cond (keqI k e.1) ((k, v) :: es) (e :: S.numSet es k v)) = _
  rw [keqI_eq2]
  by_cases h : k = e.1
  · rw [if_pos h, decide_eq_true h]; rfl
  · rw [if_neg h, decide_eq_false h]; rfl
theorem numAt_tabF : ∀ (o : List Int) (i : Nat) (k : Int), S.numAt (S.tabF i o) k = if k ∈ o then some (Int.ofNat (i + o.idxOf k)) else none
  | [], i, k => by simp [S.tabF]; rfl
  | n :: l, i, k => by
    simp only [S.tabF, numAt_cons]
    by_cases h : k = n
    · subst h; simp
    · rw [if_neg h, numAt_tabF l (i + 1) k]
      have h' : (n == k) = false := by simpa using fun e => h e.symm
      by_cases hm : k ∈ l
      · rw [if_pos hm, if_pos (List.mem_cons_of_mem _ hm), List.idxOf_cons, h', cond_false, Nat.add_assoc, Nat.add_comm 1]
      · rw [if_neg hm, if_neg (by simp [h, hm])]
theorem numAt_tab (o : List Int) (k : Int) : S.numAt (S.tab o) k = if k ∈ o then some (Int.ofNat (o.idxOf k)) else none := by
  unfold S.tab; rw [numAt_tabF, Nat.zero_add]
theorem numSet_tabF : ∀ (o : List Int) (i : Nat) (k : Int), k ∉ o → S.numSet (S.tabF i o) k (Int.ofNat (i + o.length)) = S.tabF i (o ++ [k])
  | [], i, k, _ => rfl
  | n :: l, i, k, h => by
    simp only [List.mem_cons, not_or] at h
    simp only [S.tabF, numSet_cons, List.cons_append, if_neg h.1]
    congr 1
    have := numSet_tabF l (i + 1) k h.2
    rw [show i + 1 + l.length = i + (n :: l).length by simp; omega] at this
    exact this
theorem numSet_tab (o : List Int) (k : Int) (h : k ∉ o) : S.numSet (S.tab o) k (Int.ofNat o.length) = S.tab (o ++ [k]) := by
  have := numSet_tabF o 0 k h
  rwa [Nat.zero_add] at this
theorem meetN_tab : ∀ (l o : List Int), (o.length + l.length) * 8 ≤ 140737488355328 → S.meetN l (S.tab o) o = some (S.tab (S.meetL o l), S.meetL o l)
  | [], o, h => rfl
  | n :: l, o, h => by
    simp only [List.length_cons] at h
    simp only [S.meetN, S.meetL, numAt_tab]
    by_cases hm : n ∈ o
    · rw [if_pos hm, if_pos hm]
      exact meetN_tab l o (by omega)
    · rw [if_neg hm, if_neg hm]
      simp only [Option.isSome_none, cond_false]
      rw [Nat.ble_eq_true_of_le (show (o.length + 1) * 8 ≤ 140737488355328 by omega), cond_true, numSet_tab o n hm]
      exact meetN_tab l (o ++ [n]) (by simp only [List.length_append, List.length_cons, List.length_nil]; omega)
theorem meetL_mem : ∀ (l o : List Int) (k : Int), k ∈ S.meetL o l ↔ k ∈ o ∨ k ∈ l
  | [], o, k => by simp [S.meetL]
  | n :: l, o, k => by
    simp only [S.meetL]
    by_cases hm : n ∈ o
    · rw [if_pos hm, meetL_mem l o k]
      constructor
      · rintro (h | h)
        · exact .inl h
        · exact .inr (List.mem_cons_of_mem _ h)
      · rintro (h | h)
        · exact .inl h
        · rcases List.mem_cons.1 h with rfl | h
          · exact .inl hm
          · exact .inr h
    · rw [if_neg hm, meetL_mem l (o ++ [n]) k]
      simp only [List.mem_append, List.mem_cons, List.not_mem_nil, or_false]
      constructor
      · rintro ((h | h) | h)
        · exact .inl h
        · exact .inr (.inl h)
        · exact .inr (.inr h)
      · rintro (h | h | h)
        · exact .inl (.inl h)
        · exact .inl (.inr h)
        · exact .inr h
theorem meetL_nodup : ∀ (l o : List Int), o.Nodup → (S.meetL o l).Nodup
  | [], o, h => h
  | n :: l, o, h => by
    simp only [S.meetL]
    by_cases hm : n ∈ o
    · rw [if_pos hm]; exact meetL_nodup l o h
    · rw [if_neg hm]
      refine meetL_nodup l _ (List.nodup_append.2 ⟨h, by simp, fun a ha b hb => ?_⟩)
      rw [List.mem_singleton.1 hb]
      exact fun e => hm (e ▸ ha)
theorem meetL_pre : ∀ (l o : List Int), ∃ t, S.meetL o l = o ++ t
  | [], o => ⟨[], (List.append_nil _).symm⟩
  | n :: l, o => by
    simp only [S.meetL]
    by_cases hm : n ∈ o
    · rw [if_pos hm]; exact meetL_pre l o
    · rw [if_neg hm]
      obtain ⟨t, ht⟩ := meetL_pre l (o ++ [n])
      exact ⟨n :: t, by rw [ht]; simp⟩
theorem meetL_len (l o : List Int) : o.length ≤ (S.meetL o l).length := by
  obtain ⟨t, ht⟩ := meetL_pre l o
  rw [ht]; simp
end Go.Proofs.Ytcnhjofpmpipfaa
end

/- What right classes and right rules are; plain laws about them. -/
section
set_option linter.unusedVariables false
set_option maxRecDepth 100000
namespace Go.Proofs.Ytcnhjofpmpipfaa
open Go Go.Sx Go.RowKit Go.Jx
end Go.Proofs.Ytcnhjofpmpipfaa
end

/- Converting graphs, object by object; what is converted is right again. -/
section
set_option linter.unusedVariables false
set_option maxRecDepth 100000
namespace Go.Proofs.Ytcnhjofpmpipfaa
open Go Go.Sx Go.RowKit Go.Jx
/-! ### Values -/
theorem value_iff {many : Nat} (h : many ≤ 400) (v : DVal) : S.value v (Int.ofNat many) = true ↔ (v.1 = 1 ∧ -1099511627776 ≤ v.2 ∧ v.2 ≤ 1099511627776) ∨ (v.1 = 2 ∧ 0 ≤ v.2 ∧ v.2 ≤ 1) ∨ (v.1 = 3 ∧ v.2 = 0) ∨ (v.1 = 4 ∧ 0 ≤ v.2 ∧ v.2 < many) := by
  have hw : IntKind.i64.wrap (Int.sub (Int.ofNat many) (Int.ofNat 1)) = (many : Int) - 1 := by
    have : Int.sub (Int.ofNat many) (Int.ofNat 1) = (many : Int) - 1 := rfl
    rw [this]
    exact wrap64_in (by omega)
  unfold S.value
  rw [hw]
  simp only [S.within]
  by_cases h1 : v.1 = 1
  · simp [h1]
  by_cases h2 : v.1 = 2
  · simp [h2]
  by_cases h3 : v.1 = 3
  · simp [h3]
  by_cases h4 : v.1 = 4
  · simp [h4]; omega
  simp [h1, h2, h3, h4]
theorem formed_of {g : DGraph} (h1 : g.1.length ≤ 400) (h2 : g.2.length ≤ 60) (h3 : ∀ n ∈ g.1, n.2.length ≤ 30) (h4 : ∀ n ∈ g.1, ∀ v ∈ n.2, S.value v (Int.ofNat g.1.length) = true) (h5 : ∀ v ∈ g.2, S.value v (Int.ofNat g.1.length) = true ∧ S.refers v = true) : S.formed g = 0 := by
  unfold S.formed
  rw [if_neg (by omega), if_neg, if_neg, if_neg]
  · simp only [List.any_eq_true, not_exists, not_and, Bool.or_eq_true, Bool.not_eq_true', not_or, Bool.not_eq_false]
    exact fun v hv => h5 v hv
  · simp only [List.any_eq_true, not_exists, not_and, Bool.not_eq_true', Bool.not_eq_false]
    exact fun n hn v hv => h4 n hn v hv
  · simp only [List.any_eq_true, not_exists, not_and, decide_eq_true_eq]
    exact fun n hn => by have := h3 n hn; omega
end Go.Proofs.Ytcnhjofpmpipfaa
end

/- What pack's undoing of rules computes: plain functions over data. -/
section
set_option linter.unusedVariables false
noncomputable section
namespace Go.Proofs.Ytcnhjofpmpipfaa
open Go Go.Sx Go.RowKit Go.Jx
namespace S
open Go.Jx.S
def bkGo (l : List DRule) (was now : List DCol) : List DGive → Nat → List DGive → Option (List DGive)
  | [], _, acc => some acc
  | g :: gs, i, acc =>
    if ¬ g.2.1 = 1 then none
    else if ¬ (at_ zGive acc (col was g.1)).2.1 = 0 then none
    else if keeps l (at_ zCol was (col was g.1)) (at_ zCol now i) = false then none
    else bkGo l was now gs (i + 1) (acc.set (col was g.1).toNat ((at_ zCol now i).1, 1, 0))
def back (l : List DRule) (r : DRule) (was now : List DCol) : DRule × Bool :=
  if ¬ was.length = now.length then (zRule, false)
  else match bkGo l was now r.2.2 0 (rep was.length zGive) with
    | none => (zRule, false)
    | some gs => ((r.2.1, r.1, gs), true)
end S
end Go.Proofs.Ytcnhjofpmpipfaa

end
end

/- Rules that undo rules. -/
section
set_option linter.unusedVariables false
set_option maxRecDepth 100000
namespace Go.Proofs.Ytcnhjofpmpipfaa
open Go Go.Sx Go.RowKit Go.Jx
theorem nodup_le {α : Type} [DecidableEq α] : ∀ (N M : List α), N.Nodup → (∀ x ∈ N, x ∈ M) → N.length ≤ M.length
  | [], M, _, _ => Nat.zero_le _
  | x :: N, M, hN, hs => by
    rw [List.nodup_cons] at hN
    have hx := hs x List.mem_cons_self
    have ih := nodup_le N (M.erase x) hN.2 fun y hy => (List.mem_erase_of_ne (fun e : y = x => hN.1 (by rw [← e]; exact hy))).2 (hs y (List.mem_cons_of_mem _ hy))
    rw [List.length_erase_of_mem hx] at ih
    have : 0 < M.length := List.length_pos_of_mem hx
    simp only [List.length_cons]
    omega
section
variable {A B : List DForm} {l b : List DRule}
end
end Go.Proofs.Ytcnhjofpmpipfaa
end

/- The walk of canon. -/
section
set_option linter.unusedVariables false
namespace Go.Proofs.Ytcnhjofpmpipfaa
open Go Go.Sx Go.RowKit Go.Jx
/-- Small graphs whose references are to objects. -/
structure GF (g : DGraph) : Prop where
  nodes : List.length (α := DNode) (g : List DNode × List DVal).1 ≤ 400
  roots : List.length (α := DVal) (g : List DNode × List DVal).2 ≤ 60
  vals : ∀ n ∈ (g : List DNode × List DVal).1, List.length (α := DVal) (n : ByteArray × List DVal).2 ≤ 30
  ref : ∀ n ∈ (g : List DNode × List DVal).1, ∀ k ∈ S.refsL (n : ByteArray × List DVal).2, 0 ≤ k ∧ k < Int.ofNat (List.length (α := DNode) (g : List DNode × List DVal).1)
  rref : ∀ k ∈ S.refsL (g : List DNode × List DVal).2, 0 ≤ k ∧ k < Int.ofNat (List.length (α := DNode) (g : List DNode × List DVal).1)
theorem refsL_len : ∀ l : List (Int × Int), (S.refsL l).length ≤ l.length
  | [] => Nat.le_refl _
  | v :: l => by
    have := refsL_len l
    simp only [S.refsL]
    split <;> simp <;> omega
/-- Lists of different objects. -/
structure OrdOK (nd : List DNode) (o : List Int) : Prop where
  nodup : o.Nodup
  lt : ∀ k ∈ o, 0 ≤ k ∧ k < Int.ofNat nd.length
theorem OrdOK.len {nd : List DNode} {o : List Int} (h : OrdOK nd o) : o.length ≤ nd.length := by
  have := nodup_le o ((List.range nd.length).map Int.ofNat) h.nodup fun k hk => by
    obtain ⟨h1, h2⟩ := h.lt k hk
    refine List.mem_map.2 ⟨k.toNat, List.mem_range.2 ?_, ?_⟩
    · have : (k.toNat : Int) = k := Int.toNat_of_nonneg h1
      have h2 : k < (nd.length : Int) := h2
      omega
    · exact Int.toNat_of_nonneg h1
  simpa using this
theorem OrdOK.meet {nd : List DNode} {o l : List Int} (h : OrdOK nd o) (hl : ∀ k ∈ l, 0 ≤ k ∧ k < Int.ofNat nd.length) : OrdOK nd (S.meetL o l) :=
  ⟨meetL_nodup l o h.nodup, fun k hk => by
    rcases (meetL_mem l o k).1 hk with h1 | h1
    · exact h.lt k h1
    · exact hl k h1⟩
/-- The order that the walk makes: each object in it hands over those to which it refers. -/
def S.walk (nd : List DNode) : Nat → List Int → Nat → List Int
  | 0, o, _ => o
  | f + 1, o, i => match o[i]? with
    | none => o
    | some k => match jget nd k with
      | none => o
      | some v => S.walk nd f (S.meetL o (S.refsL (v : ByteArray × List DVal).2)) (i + 1)
theorem walk_loop {g : DGraph} (hg : GF g) (L12 : ((List (Int × Int)) × (List Int) × Int × (List DNode)) → Option Rt_p_canon) : ∀ (f n i : Nat) (o : List Int), OrdOK (g : List DNode × List DVal).1 o → i ≤ o.length →
    List.length (α := DNode) (g : List DNode × List DVal).1 - i < f → List.length (α := DNode) (g : List DNode × List DVal).1 - i < n →
    rounds (fun K p => R_p_canon_7 LF g L12 K p) n (S.tab o, o, Int.ofNat i) = L12 (S.tab (S.walk (g : List DNode × List DVal).1 f o i), S.walk (g : List DNode × List DVal).1 f o i, Int.ofNat 0, []) ∧ OrdOK (g : List DNode × List DVal).1 (S.walk (g : List DNode × List DVal).1 f o i)
  | 0, n, i, o, ho, hi, hf, hn => by omega
  | f + 1, 0, i, o, ho, hi, hf, hn => by omega
  | f + 1, n + 1, i, o, ho, hi, hf, hn => by
    have hlen := ho.len
    show R_p_canon_7 LF g L12 (rounds (fun K p => R_p_canon_7 LF g L12 K p) n) (S.tab o, o, Int.ofNat i) = _ ∧ _
    by_cases he : i = o.length
    · have h1 : ieqI (Int.ofNat i) (Int.ofNat (List.length o)) = true := by rw [ieqI_eq, he]; exact decide_eq_true rfl
      have h2 : o[i]? = none := List.getElem?_eq_none (by omega)
      simp only [R_p_canon_7, h1, cond_true, S.walk, h2]
      exact ⟨trivial, ho⟩
    · have hlt : i < o.length := by omega
      have h1 : ieqI (Int.ofNat i) (Int.ofNat (List.length o)) = false := by rw [ieqI_eq]; exact decide_eq_false (fun e => he (Int.ofNat.inj e))
      have h2 : o[i]? = some o[i] := List.getElem?_eq_getElem hlt
      have h3 : jget o (Int.ofNat i) = some o[i] := by rw [jget_nat]; exact h2
      obtain ⟨k1, k2⟩ := ho.lt o[i] (List.getElem_mem hlt)
      obtain ⟨v, v1, v2, v3⟩ := jget_of (l := (g : List DNode × List DVal).1) k1 k2
      have e1 : Int.toNat (Int.ofNat i) = i := rfl
      have hr := hg.ref v v3
      have hv := hg.vals v v3
      have hn4 := hg.nodes
      have hm := meetN_tab (S.refsL (v : ByteArray × List DVal).2) o (by
        have := refsL_len (v : ByteArray × List DVal).2
        have hv : List.length (α := Int × Int) (v : ByteArray × List DVal).2 ≤ 30 := hv
        omega)
      have hw : IntKind.i64.wrap (Int.add (Int.ofNat i) (Int.ofNat 1)) = Int.ofNat (i + 1) := wrap_succ (by unfold LF; omega)
      have hnext := walk_loop hg L12 f n (i + 1) (S.meetL o (S.refsL (v : ByteArray × List DVal).2)) (ho.meet hr) (by have := meetL_len (S.refsL (v : ByteArray × List DVal).2) o; omega) (by omega) (by omega)
      simp only [R_p_canon_7, h1, cond_false, h3, e1, h2, v1, hm, hw, S.walk]
      exact hnext
end Go.Proofs.Ytcnhjofpmpipfaa
end

/- What canon makes of a formed graph. -/
section
set_option linter.unusedVariables false
namespace Go.Proofs.Ytcnhjofpmpipfaa
open Go Go.Sx Go.RowKit Go.Jx
def S.nodeAt (nd : List DNode) (k : Int) : DNode := (jget nd k).getD ((ByteArray.empty, []) : ByteArray × List DVal)
def S.newNode (nd : List DNode) (es : List (Int × Int)) (k : Int) : DNode := (((S.nodeAt nd k : ByteArray × List DVal).1, S.movedL es (S.nodeAt nd k : ByteArray × List DVal).2) : ByteArray × List DVal)
def S.numOr (es : List (Int × Int)) (k : Int) : Int := (S.numAt es k).getD (-1)
theorem canon_loop2 (g : DGraph) (es : List (Int × Int)) (o : List Int) (L18 : ((List (Int × Int)) × (List DNode) × Int × (List Int)) → Option Rt_p_canon) (hl : o.length * 40 ≤ 140737488355328)
    (ho : ∀ k ∈ o, 0 ≤ k ∧ k < Int.ofNat (List.length (α := DNode) (g : List DNode × List DVal).1)) :
    rounds (fun K p => R_p_canon_12 LF g K L18 p) LF (es, o, Int.ofNat 0, []) = L18 (es, o.map (S.newNode (g : List DNode × List DVal).1 es), Int.ofNat 0, []) := by
  refine (range0 (R := Rt_p_canon) (σ := List DNode) o (fun k s => (es, o, k, s)) (fun k s => s.length = k) (fun rest k s => L18 (es, s ++ rest.map (S.newNode (g : List DNode × List DVal).1 es), Int.ofNat 0, [])) (by unfold LF; omega) (fun K s hI => ?_) (fun K i v rest s hI r hk => ?_) [] rfl).trans ?_
  · simp only [R_p_canon_12, ilt_self, cond_false, List.map_nil, List.append_nil]
  · obtain ⟨k1, k2⟩ := ho v r.mem
    obtain ⟨n, n1, n2, n3⟩ := jget_of (l := (g : List DNode × List DVal).1) k1 k2
    have e1 : Int.toNat (Int.ofNat i) = i := rfl
    have hlt := r.lt
    have hb : Nat.ble (Nat.mul (Nat.add s.length 1) 40) 140737488355328 = true := Nat.ble_eq_true_of_le (by show (s.length + 1) * 40 ≤ _; rw [hI]; omega)
    simp only [R_p_canon_12, r.ilt, cond_true, r.get, e1, r.get?, n1, hb, r.next]
    have hnew : S.newNode (g : List DNode × List DVal).1 es v = (((n : ByteArray × List DVal).1, S.movedL es (n : ByteArray × List DVal).2) : ByteArray × List DVal) := by
      unfold S.newNode S.nodeAt; rw [n1]; rfl
    have := hk (s ++ [S.newNode (g : List DNode × List DVal).1 es v]) (by rw [List.length_append, hI]; rfl)
    rw [hnew] at this
    refine Eq.trans this ?_
    rw [List.map_cons, hnew]
    congr 2
    simp
  · rfl
theorem canon_loop3 (g : DGraph) (es : List (Int × Int)) (acc : List DNode) (hl : List.length (α := DNode) (g : List DNode × List DVal).1 ≤ 400) :
    rounds (fun K p => R_p_canon_18 LF g K p) LF (es, acc, Int.ofNat 0, []) = some (((acc, S.movedL es (g : List DNode × List DVal).2) : List DNode × List DVal), (((List.range (List.length (α := DNode) (g : List DNode × List DVal).1)).map fun k => S.numOr es (Int.ofNat k)), ())) := by
  have hlf : List.length (α := DNode) (g : List DNode × List DVal).1 < LF := by unfold LF; omega
  refine (range0 (R := Rt_p_canon) (σ := List Int) (α := DNode) (g : List DNode × List DVal).1 (fun k s => (es, acc, k, s)) (fun k s => s = (List.range k).map fun j => S.numOr es (Int.ofNat j))
    (fun _ _ _ => some (((acc, S.movedL es (g : List DNode × List DVal).2) : List DNode × List DVal), (((List.range (List.length (α := DNode) (g : List DNode × List DVal).1)).map fun k => S.numOr es (Int.ofNat k)), ()))) hlf (fun K s hI => ?_) (fun K i v rest s hI r hk => ?_) [] rfl)
  · simp only [R_p_canon_18, ilt_self, cond_false]
    rw [hI]
  · have hlt := r.lt
    have hb : Nat.ble (Nat.mul (Nat.add s.length 1) 8) 140737488355328 = true := Nat.ble_eq_true_of_le (by show (s.length + 1) * 8 ≤ _; rw [hI]; simp; omega)
    have hs : ∀ q, q = S.numOr es (Int.ofNat i) → s.append [q] = (List.range (i + 1)).map fun j => S.numOr es (Int.ofNat j) := fun q hq => by
      rw [hI, List.range_succ, List.map_append, hq]; rfl
    have hn : S.numAt es (Int.ofNat i) = @mfind (TC.int .i64) (TC.int .i64) (Int.ofNat i) es := rfl
    simp only [R_p_canon_18, r.ilt, cond_true, hb, r.next]
    cases hm : @mfind (TC.int .i64) (TC.int .i64) (Int.ofNat i) es with
    | none =>
      simp only [Bool.not_false, cond_true]
      exact hk _ (hs _ (by unfold S.numOr; rw [hn, hm]; rfl))
    | some q =>
      simp only [Bool.not_true, cond_false]
      exact hk _ (hs _ (by unfold S.numOr; rw [hn, hm]; rfl))
/-- The order of the objects that are reached. -/
def S.ord (g : DGraph) : List Int := S.walk (g : List DNode × List DVal).1 (List.length (α := DNode) (g : List DNode × List DVal).1 + 1) (S.meetL [] (S.refsL (g : List DNode × List DVal).2)) 0
def S.canonG (g : DGraph) : DGraph := (((S.ord g).map (S.newNode (g : List DNode × List DVal).1 (S.tab (S.ord g))), S.movedL (S.tab (S.ord g)) (g : List DNode × List DVal).2) : List DNode × List DVal)
def S.numsG (g : DGraph) : List Int := (List.range (List.length (α := DNode) (g : List DNode × List DVal).1)).map fun k => S.numOr (S.tab (S.ord g)) (Int.ofNat k)
theorem canon_ok {g : DGraph} (hg : GF g) : S.canonO g = some (S.canonG g, S.numsG g, ()) ∧ OrdOK (g : List DNode × List DVal).1 (S.ord g) := by
  have h60 : (S.refsL (g : List DNode × List DVal).2).length ≤ 60 := Nat.le_trans (refsL_len _) hg.roots
  have hm := meetN_tab (S.refsL (g : List DNode × List DVal).2) [] (by simp; omega)
  have ho0 : OrdOK (g : List DNode × List DVal).1 (S.meetL [] (S.refsL (g : List DNode × List DVal).2)) := OrdOK.meet ⟨List.nodup_nil, fun k hk => by cases hk⟩ hg.rref
  obtain ⟨w1, w2⟩ := walk_loop hg (fun q => G_p_canon_12 LF g LF q) (List.length (α := DNode) (g : List DNode × List DVal).1 + 1) LF 0 _ ho0 (Nat.zero_le _) (by omega) (by have := hg.nodes; unfold LF; omega)
  refine ⟨?_, w2⟩
  have hol := w2.len
  have hn4 := hg.nodes
  have hl40 : (S.ord g).length * 40 ≤ 140737488355328 := by
    have : (S.ord g).length ≤ List.length (α := DNode) (g : List DNode × List DVal).1 := hol
    omega
  have e2 := canon_loop2 g (S.tab (S.ord g)) (S.ord g) (fun q => G_p_canon_18 LF g LF q) hl40 w2.lt
  have e3 := canon_loop3 g (S.tab (S.ord g)) ((S.ord g).map (S.newNode (g : List DNode × List DVal).1 (S.tab (S.ord g)))) hg.nodes
  have hm : S.meetN (S.refsL (g : List DNode × List DVal).2) [] [] = some (S.tab (S.meetL [] (S.refsL (g : List DNode × List DVal).2)), S.meetL [] (S.refsL (g : List DNode × List DVal).2)) := hm
  simp only [S.canonO, F_p_canon, R_p_canon_in, hm]
  exact w1.trans (e2.trans e3)
end Go.Proofs.Ytcnhjofpmpipfaa
end

/- Canon does not depend on the numbers of objects. -/
section
set_option linter.unusedVariables false
namespace Go.Proofs.Ytcnhjofpmpipfaa
open Go Go.Sx Go.RowKit Go.Jx
/-- A value with another number. -/
def S.mvV (π : Int → Int) (v : Int × Int) : Int × Int := if v.1 = 4 then (v.1, π v.2) else v
theorem refsL_map (π : Int → Int) : ∀ l : List (Int × Int), S.refsL (l.map (S.mvV π)) = (S.refsL l).map π
  | [] => rfl
  | v :: l => by
    simp only [List.map_cons, S.refsL, S.mvV]
    by_cases h : v.1 = 4
    · simp only [if_pos h, List.map_cons, refsL_map π l]
    · simp only [if_neg h, refsL_map π l]
/-- Different numbers stay different. -/
def InjB (π : Int → Int) (n : Nat) : Prop := ∀ a b : Int, 0 ≤ a → a < Int.ofNat n → 0 ≤ b → b < Int.ofNat n → π a = π b → a = b
def Bnd (n : Nat) (l : List Int) : Prop := ∀ k ∈ l, 0 ≤ k ∧ k < Int.ofNat n
theorem mem_map_inj {π : Int → Int} {n : Nat} (hi : InjB π n) {o : List Int} (ho : Bnd n o) {k : Int} (h1 : 0 ≤ k) (h2 : k < Int.ofNat n) : π k ∈ o.map π ↔ k ∈ o := by
  constructor
  · intro h
    obtain ⟨a, ha, he⟩ := List.mem_map.1 h
    have := hi a k (ho a ha).1 (ho a ha).2 h1 h2 he
    rwa [← this]
  · exact fun h => List.mem_map_of_mem h
theorem meetL_map {π : Int → Int} {n : Nat} (hi : InjB π n) : ∀ (l o : List Int), Bnd n o → Bnd n l → S.meetL (o.map π) (l.map π) = (S.meetL o l).map π
  | [], o, ho, hl => rfl
  | k :: l, o, ho, hl => by
    obtain ⟨k1, k2⟩ := hl k List.mem_cons_self
    have hl2 : Bnd n l := fun a ha => hl a (List.mem_cons_of_mem _ ha)
    simp only [List.map_cons, S.meetL]
    by_cases hm : k ∈ o
    · rw [if_pos hm, if_pos ((mem_map_inj hi ho k1 k2).2 hm)]
      exact meetL_map hi l o ho hl2
    · rw [if_neg hm, if_neg (fun h => hm ((mem_map_inj hi ho k1 k2).1 h))]
      have := meetL_map hi l (o ++ [k]) (fun a ha => by
        rcases List.mem_append.1 ha with h | h
        · exact ho a h
        · rw [List.mem_singleton.1 h]; exact ⟨k1, k2⟩) hl2
      rw [List.map_append] at this
      exact this
theorem idxOf_map {π : Int → Int} {n : Nat} (hi : InjB π n) : ∀ (o : List Int), Bnd n o → ∀ {k : Int}, 0 ≤ k → k < Int.ofNat n → (o.map π).idxOf (π k) = o.idxOf k
  | [], ho, k, h1, h2 => rfl
  | a :: o, ho, k, h1, h2 => by
    obtain ⟨a1, a2⟩ := ho a List.mem_cons_self
    rw [List.map_cons, List.idxOf_cons, List.idxOf_cons, idxOf_map hi o (fun b hb => ho b (List.mem_cons_of_mem _ hb)) h1 h2]
    have : (π a == π k) = (a == k) := by
      by_cases e : a = k
      · subst e; simp
      · have : π a ≠ π k := fun h => e (hi a k a1 a2 h1 h2 h)
        rw [beq_false_of_ne e, beq_false_of_ne this]
    rw [this]
theorem numAt_map {π : Int → Int} {n : Nat} (hi : InjB π n) {o : List Int} (ho : Bnd n o) {k : Int} (h1 : 0 ≤ k) (h2 : k < Int.ofNat n) : S.numAt (S.tab (o.map π)) (π k) = S.numAt (S.tab o) k := by
  rw [numAt_tab, numAt_tab, idxOf_map hi o ho h1 h2]
  by_cases hm : k ∈ o
  · rw [if_pos hm, if_pos ((mem_map_inj hi ho h1 h2).2 hm)]
  · rw [if_neg hm, if_neg (fun h => hm ((mem_map_inj hi ho h1 h2).1 h))]
theorem movedL_map {π : Int → Int} {n : Nat} (hi : InjB π n) {o : List Int} (ho : Bnd n o) : ∀ (l : List (Int × Int)), Bnd n (S.refsL l) → S.movedL (S.tab (o.map π)) (l.map (S.mvV π)) = S.movedL (S.tab o) l
  | [], _ => rfl
  | v :: l, hl => by
    show S.movedV (S.tab (o.map π)) (S.mvV π v) :: S.movedL (S.tab (o.map π)) (l.map (S.mvV π)) = S.movedV (S.tab o) v :: S.movedL (S.tab o) l
    have hl2 : Bnd n (S.refsL l) := fun a ha => hl a (by
      simp only [S.refsL]; split
      · exact List.mem_cons_of_mem _ ha
      · exact ha)
    rw [movedL_map hi ho l hl2]
    congr 1
    by_cases h : v.1 = 4
    · obtain ⟨h1, h2⟩ := hl v.2 (by simp only [S.refsL, if_pos h]; exact List.mem_cons_self)
      have e : S.mvV π v = (v.1, π v.2) := if_pos h
      rw [e]
      unfold S.movedV
      show (if v.1 = 4 then (v.1, (S.numAt (S.tab (o.map π)) (π v.2)).getD 0) else _) = _
      rw [if_pos h, if_pos h, numAt_map hi ho h1 h2]
    · have e : S.mvV π v = v := if_neg h
      rw [e]
      unfold S.movedV
      rw [if_neg h, if_neg h]
end Go.Proofs.Ytcnhjofpmpipfaa
end

/- Canon of a renumbered graph. -/
section
set_option linter.unusedVariables false
namespace Go.Proofs.Ytcnhjofpmpipfaa
open Go Go.Sx Go.RowKit Go.Jx
/-- A graph whose objects have other numbers. -/
structure Ren (π : Int → Int) (x y : List DNode × List DVal) : Prop where
  len : y.1.length = x.1.length
  inj : InjB π x.1.length
  node : ∀ (k : Int) (v : ByteArray × List DVal), jget x.1 k = some v → jget y.1 (π k) = some ((v.1, List.map (α := Int × Int) (β := Int × Int) (S.mvV π) v.2) : ByteArray × List DVal)
  roots : y.2 = List.map (α := Int × Int) (β := Int × Int) (S.mvV π) x.2
theorem walk_map {π : Int → Int} {x y : List DNode × List DVal} (h : Ren π x y) (hg : GF x) : ∀ (f : Nat) (o : List Int) (i : Nat), Bnd x.1.length o → S.walk y.1 f (o.map π) i = (S.walk x.1 f o i).map π ∧ Bnd x.1.length (S.walk x.1 f o i)
  | 0, o, i, ho => ⟨rfl, ho⟩
  | f + 1, o, i, ho => by
    simp only [S.walk, List.getElem?_map]
    cases hk : o[i]? with
    | none => exact ⟨rfl, ho⟩
    | some k =>
      have hmem := List.mem_of_getElem? hk
      obtain ⟨k1, k2⟩ := ho k hmem
      obtain ⟨v, v1, v2, v3⟩ := jget_of (l := x.1) k1 k2
      have hy := h.node k v v1
      simp only [Option.map_some, v1, hy]
      have hb : Bnd x.1.length (S.refsL (v : ByteArray × List DVal).2) := hg.ref v v3
      have e : S.refsL (List.map (α := Int × Int) (β := Int × Int) (S.mvV π) (v : ByteArray × List DVal).2) = (S.refsL (v : ByteArray × List DVal).2).map π := refsL_map π _
      rw [e, meetL_map h.inj _ _ ho hb]
      exact walk_map h hg f _ (i + 1) fun a ha => by
        rcases (meetL_mem _ _ a).1 ha with h1 | h1
        · exact ho a h1
        · exact hb a h1
theorem ord_map {π : Int → Int} {x y : List DNode × List DVal} (h : Ren π x y) (hg : GF x) : S.ord y = (S.ord x).map π ∧ Bnd x.1.length (S.ord x) := by
  unfold S.ord
  have hb : Bnd x.1.length (S.refsL x.2) := hg.rref
  have e : S.refsL y.2 = (S.refsL x.2).map π := by rw [h.roots]; exact refsL_map π _
  have em : S.meetL [] (S.refsL y.2) = (S.meetL [] (S.refsL x.2)).map π := by
    rw [e]; exact meetL_map h.inj (S.refsL x.2) [] (fun a ha => by cases ha) hb
  have hb2 : Bnd x.1.length (S.meetL [] (S.refsL x.2)) := fun a ha => by
    rcases (meetL_mem _ _ a).1 ha with h1 | h1
    · cases h1
    · exact hb a h1
  have := walk_map h hg (x.1.length + 1) (S.meetL [] (S.refsL x.2)) 0 hb2
  refine ⟨?_, this.2⟩
  show S.walk y.1 (y.1.length + 1) (S.meetL [] (S.refsL y.2)) 0 = _
  rw [em, h.len]
  exact this.1
/-- Graphs that differ by numbers alone have one canonical form. -/
theorem canonG_map {π : Int → Int} {x y : List DNode × List DVal} (h : Ren π x y) (hg : GF x) : S.canonG y = S.canonG x := by
  obtain ⟨e, hb⟩ := ord_map h hg
  have hr : S.movedL (S.tab ((S.ord x).map π)) y.2 = S.movedL (S.tab (S.ord x)) x.2 := by
    rw [h.roots]; exact movedL_map h.inj hb x.2 hg.rref
  have hn : ∀ k ∈ S.ord x, S.newNode y.1 (S.tab ((S.ord x).map π)) (π k) = S.newNode x.1 (S.tab (S.ord x)) k := fun k hk => by
    obtain ⟨k1, k2⟩ := hb k hk
    obtain ⟨v, v1, v2, v3⟩ := jget_of (l := x.1) k1 k2
    have hy := h.node k v v1
    unfold S.newNode S.nodeAt
    rw [v1, hy]
    have := movedL_map h.inj hb (v : ByteArray × List DVal).2 (hg.ref v v3)
    show (((v : ByteArray × List DVal).1, S.movedL (S.tab ((S.ord x).map π)) (List.map (α := Int × Int) (β := Int × Int) (S.mvV π) (v : ByteArray × List DVal).2)) : ByteArray × List DVal) = _
    rw [this]; rfl
  show ((((S.ord y).map (S.newNode y.1 (S.tab (S.ord y))), S.movedL (S.tab (S.ord y)) y.2) : List DNode × List DVal)) = ((((S.ord x).map (S.newNode x.1 (S.tab (S.ord x))), S.movedL (S.tab (S.ord x)) x.2) : List DNode × List DVal))
  rw [e, hr, List.map_map]
  congr 1
  exact List.map_congr_left fun k hk => hn k hk
end Go.Proofs.Ytcnhjofpmpipfaa
end

/- Where all objects are reached, the canonical form is the graph with other numbers. -/
section
set_option linter.unusedVariables false
namespace Go.Proofs.Ytcnhjofpmpipfaa
open Go Go.Sx Go.RowKit Go.Jx
theorem full_mem {nd : List DNode} {o : List Int} (h : OrdOK nd o) (hl : o.length = nd.length) {k : Int} (h1 : 0 ≤ k) (h2 : k < Int.ofNat nd.length) : k ∈ o := by
  refine Classical.byContradiction fun hn => ?_
  have : OrdOK nd (k :: o) := ⟨List.nodup_cons.2 ⟨hn, h.nodup⟩, fun a ha => by
    rcases List.mem_cons.1 ha with h3 | h3
    · rw [h3]; exact ⟨h1, h2⟩
    · exact h.lt a h3⟩
  have := this.len
  simp only [List.length_cons] at this
  omega
def S.piO (o : List Int) (k : Int) : Int := Int.ofNat (o.idxOf k)
theorem movedL_pi {o : List Int} : ∀ (l : List (Int × Int)), (∀ k ∈ S.refsL l, k ∈ o) → S.movedL (S.tab o) l = l.map (S.mvV (S.piO o))
  | [], _ => rfl
  | v :: l, hl => by
    have hl2 : ∀ k ∈ S.refsL l, k ∈ o := fun a ha => hl a (by
      simp only [S.refsL]; split
      · exact List.mem_cons_of_mem _ ha
      · exact ha)
    show S.movedV (S.tab o) v :: S.movedL (S.tab o) l = S.mvV (S.piO o) v :: l.map (S.mvV (S.piO o))
    rw [movedL_pi l hl2]
    congr 1
    unfold S.movedV S.mvV
    by_cases h : v.1 = 4
    · have hm : v.2 ∈ o := hl v.2 (by simp only [S.refsL, if_pos h]; exact List.mem_cons_self)
      show (if v.1 = 4 then (v.1, (S.numAt (S.tab o) v.2).getD 0) else v) = _
      rw [if_pos h, if_pos h, numAt_tab, if_pos hm]; rfl
    · show (if v.1 = 4 then (v.1, (S.numAt (S.tab o) v.2).getD 0) else v) = _
      rw [if_neg h, if_neg h]
end Go.Proofs.Ytcnhjofpmpipfaa
end

/- Formed graphs. -/
section
set_option linter.unusedVariables false
namespace Go.Proofs.Ytcnhjofpmpipfaa
open Go Go.Sx Go.RowKit Go.Jx
theorem refs_val {many : Nat} (h : many ≤ 400) : ∀ (l : List (Int × Int)), (∀ v ∈ l, S.value v (Int.ofNat many) = true) → ∀ k ∈ S.refsL l, 0 ≤ k ∧ k < Int.ofNat many
  | [], _, k, hk => by cases hk
  | v :: l, hv, k, hk => by
    have ih := refs_val h l fun w hw => hv w (List.mem_cons_of_mem _ hw)
    simp only [S.refsL] at hk
    split at hk
    · rename_i h4
      rcases List.mem_cons.1 hk with h1 | h1
      · subst h1
        rcases (value_iff h v).1 (hv v List.mem_cons_self) with ⟨e, _⟩ | ⟨e, _⟩ | ⟨e, _⟩ | ⟨e, a, b⟩
        · have e : v.1 = 1 := e
          omega
        · have e : v.1 = 2 := e
          omega
        · have e : v.1 = 3 := e
          omega
        · exact ⟨a, b⟩
      · exact ih k h1
    · exact ih k hk
theorem gf_of {g : DGraph} (h : S.formed g = 0) : GF g := by
  obtain ⟨f1, f2, f3, f4, f5⟩ := formed_zero h
  exact ⟨f1, f2, f3, fun n hn => refs_val f1 _ (f4 n hn), refs_val f1 _ fun v hv => (f5 v hv).1⟩
end Go.Proofs.Ytcnhjofpmpipfaa
end

/- Values that are made of renumbered ones. -/
section
set_option linter.unusedVariables false
namespace Go.Proofs.Ytcnhjofpmpipfaa
open Go Go.Sx Go.RowKit Go.Jx
end Go.Proofs.Ytcnhjofpmpipfaa
end

/- Converted graphs that differ by numbers. -/
section
set_option linter.unusedVariables false
namespace Go.Proofs.Ytcnhjofpmpipfaa
open Go Go.Sx Go.RowKit Go.Jx
def S.mvN (π : Int → Int) (n : ByteArray × List DVal) : ByteArray × List DVal := (n.1, List.map (α := Int × Int) (β := Int × Int) (S.mvV π) n.2)
theorem jget_some {α : Type} {l : List α} {k : Int} {v : α} (h : jget l k = some v) : 0 ≤ k ∧ ∃ hi : k.toNat < l.length, l[k.toNat] = v := by
  unfold jget at h
  split at h
  · rename_i h0
    obtain ⟨hi, e⟩ := List.getElem?_eq_some_iff.1 h
    exact ⟨h0, hi, e⟩
  · cases h
theorem jget_mk {α : Type} {l : List α} {k : Int} (h0 : 0 ≤ k) (hi : k.toNat < l.length) : jget l k = some l[k.toNat] := by
  unfold jget
  rw [if_pos h0, List.getElem?_eq_getElem hi]
end Go.Proofs.Ytcnhjofpmpipfaa
end

/- Equal graphs are equal. -/
section
set_option linter.unusedVariables false
namespace Go.Proofs.Ytcnhjofpmpipfaa
open Go Go.Sx Go.RowKit Go.Jx
theorem eqVals_self : ∀ l : List DVal, S.eqVals l l = true
  | [] => rfl
  | v :: l => by
    simp only [S.eqVals, eqVals_self l, Bool.and_true]
    unfold S.eqVal
    rw [keqI_eq2, keqI_eq2]; simp
theorem eqNodes_self : ∀ l : List DNode, S.eqNodes l l = true
  | [] => rfl
  | v :: l => by
    simp only [S.eqNodes, eqNodes_self l, Bool.and_true]
    unfold S.eqNode
    rw [eqVals_self, Bool.and_true]
    show decide (_ = _) = true
    exact decide_eq_true rfl
theorem eqGraph_self (g : DGraph) : S.eqGraph g g = true := by
  unfold S.eqGraph
  rw [eqVals_self, eqNodes_self]; rfl
/-- Graphs that differ by numbers are alike. -/
theorem same_ren {π : Int → Int} {x y : List DNode × List DVal} (h : Ren π x y) (hx : S.formed x = 0) (hy : S.formed y = 0) : S.SameO x y = some (true, (0, ())) := by
  obtain ⟨e1, _⟩ := canon_ok (gf_of hx)
  obtain ⟨e2, _⟩ := canon_ok (gf_of hy)
  have e3 := canonG_map h (gf_of hx)
  have hf : S.first [S.formed x, S.formed y] = 0 := by rw [hx, hy]; rfl
  have hx2 : S.canonO (x.1, x.2) = some (S.canonG x, S.numsG x, ()) := e1
  have hy2 : S.canonO (y.1, y.2) = some (S.canonG y, S.numsG y, ()) := e2
  have hf2 : S.first (List.cons (S.formed (x.1, x.2)) (List.cons (S.formed (y.1, y.2)) [])) = 0 := hf
  have hz : ieqI 0 (Int.ofNat 0) = true := by rw [ieqI_eq]; rfl
  simp only [S.SameO, F_p_Same, R_p_Same_in, hf2, hz, Bool.not_true, cond_false, hx2, hy2]
  have := eqGraph_self (S.canonG x)
  show some (S.eqGraph (S.canonG x) (S.canonG y), (Int.ofNat 0, ())) = _
  rw [e3, this]; rfl
end Go.Proofs.Ytcnhjofpmpipfaa
end

/- Ways that look at a number have no reference as their source. -/
section
set_option linter.unusedVariables false
namespace Go.Proofs.Ytcnhjofpmpipfaa
open Go Go.Sx Go.RowKit Go.Jx
end Go.Proofs.Ytcnhjofpmpipfaa
end

/- A renumbered graph is right where the graph is. -/
section
set_option linter.unusedVariables false
namespace Go.Proofs.Ytcnhjofpmpipfaa
open Go Go.Sx Go.RowKit Go.Jx
end Go.Proofs.Ytcnhjofpmpipfaa
end

/- The canonical form of a formed graph is formed. -/
section
set_option linter.unusedVariables false
namespace Go.Proofs.Ytcnhjofpmpipfaa
open Go Go.Sx Go.RowKit Go.Jx
theorem value_mv {n : Nat} (h : n ≤ 400) {π : Int → Int} (hb : ∀ k, 0 ≤ k → k < Int.ofNat n → 0 ≤ π k ∧ π k < Int.ofNat n) (v : Int × Int) (hv : S.value v (Int.ofNat n) = true) : S.value (S.mvV π v) (Int.ofNat n) = true := by
  unfold S.mvV
  by_cases h4 : v.1 = 4
  · rw [if_pos h4]
    refine (value_iff h _).2 (.inr (.inr (.inr ⟨h4, ?_⟩)))
    rcases (value_iff h v).1 hv with ⟨e, _⟩ | ⟨e, _⟩ | ⟨e, _⟩ | ⟨e, a, b⟩
    · have e : v.1 = 1 := e
      omega
    · have e : v.1 = 2 := e
      omega
    · have e : v.1 = 3 := e
      omega
    · exact hb v.2 a b
  · rw [if_neg h4]; exact hv
end Go.Proofs.Ytcnhjofpmpipfaa
end

/- A graph within another one has the same canonical form; canon of canon is canon. -/
section
set_option linter.unusedVariables false
namespace Go.Proofs.Ytcnhjofpmpipfaa
open Go Go.Sx Go.RowKit Go.Jx
/-- x lies in y, under other numbers. -/
structure Emb (π : Int → Int) (x y : List DNode × List DVal) : Prop where
  inj : InjB π x.1.length
  node : ∀ (k : Int) (v : ByteArray × List DVal), jget x.1 k = some v → jget y.1 (π k) = some ((v.1, List.map (α := Int × Int) (β := Int × Int) (S.mvV π) v.2) : ByteArray × List DVal)
  roots : y.2 = List.map (α := Int × Int) (β := Int × Int) (S.mvV π) x.2
theorem walk_emb {π : Int → Int} {x y : List DNode × List DVal} (h : Emb π x y) (hg : GF x) : ∀ (f : Nat) (o : List Int) (i : Nat), Bnd x.1.length o → S.walk y.1 f (o.map π) i = (S.walk x.1 f o i).map π ∧ Bnd x.1.length (S.walk x.1 f o i)
  | 0, o, i, ho => ⟨rfl, ho⟩
  | f + 1, o, i, ho => by
    simp only [S.walk, List.getElem?_map]
    cases hk : o[i]? with
    | none => exact ⟨rfl, ho⟩
    | some k =>
      have hmem := List.mem_of_getElem? hk
      obtain ⟨k1, k2⟩ := ho k hmem
      obtain ⟨v, v1, v2, v3⟩ := jget_of (l := x.1) k1 k2
      have hy := h.node k v v1
      simp only [Option.map_some, v1, hy]
      have hb : Bnd x.1.length (S.refsL (v : ByteArray × List DVal).2) := hg.ref v v3
      have e : S.refsL (List.map (α := Int × Int) (β := Int × Int) (S.mvV π) (v : ByteArray × List DVal).2) = (S.refsL (v : ByteArray × List DVal).2).map π := refsL_map π _
      rw [e, meetL_map h.inj _ _ ho hb]
      exact walk_emb h hg f _ (i + 1) fun a ha => by
        rcases (meetL_mem _ _ a).1 ha with h1 | h1
        · exact ho a h1
        · exact hb a h1
/-- Fuel beyond the number of objects changes nothing. -/
theorem walk_fuel {y : List DNode × List DVal} (hg : GF y) : ∀ (f f' : Nat) (o : List Int) (i : Nat), OrdOK y.1 o → y.1.length - i < f → y.1.length - i < f' → S.walk y.1 f o i = S.walk y.1 f' o i
  | 0, _, _, _, _, h, _ => by omega
  | _, 0, _, _, _, _, h => by omega
  | f + 1, f' + 1, o, i, ho, h1, h2 => by
    simp only [S.walk]
    cases hk : o[i]? with
    | none => rfl
    | some k =>
      have hi : i < o.length := (List.getElem?_eq_some_iff.1 hk).1
      have hlen := ho.len
      obtain ⟨k1, k2⟩ := ho.lt k (List.mem_of_getElem? hk)
      obtain ⟨v, v1, v2, v3⟩ := jget_of (l := y.1) k1 k2
      simp only [v1]
      exact walk_fuel hg f f' _ (i + 1) (ho.meet (hg.ref v v3)) (by omega) (by omega)
theorem ord_emb {π : Int → Int} {x y : List DNode × List DVal} (h : Emb π x y) (hg : GF x) (hy : GF y) (hl : x.1.length ≤ y.1.length) : S.ord y = (S.ord x).map π ∧ Bnd x.1.length (S.ord x) := by
  have hb : Bnd x.1.length (S.refsL x.2) := hg.rref
  have e : S.refsL y.2 = (S.refsL x.2).map π := by rw [h.roots]; exact refsL_map π _
  have em : S.meetL [] (S.refsL y.2) = (S.meetL [] (S.refsL x.2)).map π := by
    rw [e]; exact meetL_map h.inj (S.refsL x.2) [] (fun a ha => by cases ha) hb
  have hb2 : Bnd x.1.length (S.meetL [] (S.refsL x.2)) := fun a ha => by
    rcases (meetL_mem _ _ a).1 ha with h1 | h1
    · cases h1
    · exact hb a h1
  have ho : OrdOK x.1 (S.meetL [] (S.refsL x.2)) := ⟨meetL_nodup _ _ List.nodup_nil, hb2⟩
  have := walk_emb h hg (y.1.length + 1) (S.meetL [] (S.refsL x.2)) 0 hb2
  have ef : S.ord x = S.walk x.1 (y.1.length + 1) (S.meetL [] (S.refsL x.2)) 0 := walk_fuel hg _ _ _ _ ho (Nat.lt_succ_of_le (Nat.sub_le _ _)) (Nat.lt_succ_of_le (Nat.le_trans (Nat.sub_le _ _) hl))
  rw [ef]
  refine ⟨?_, this.2⟩
  show S.walk y.1 (y.1.length + 1) (S.meetL [] (S.refsL y.2)) 0 = _
  rw [em]
  exact this.1
theorem canonG_emb {π : Int → Int} {x y : List DNode × List DVal} (h : Emb π x y) (hg : GF x) (hy : GF y) (hl : x.1.length ≤ y.1.length) : S.canonG y = S.canonG x := by
  obtain ⟨e, hb⟩ := ord_emb h hg hy hl
  have hr : S.movedL (S.tab ((S.ord x).map π)) y.2 = S.movedL (S.tab (S.ord x)) x.2 := by
    rw [h.roots]; exact movedL_map h.inj hb x.2 hg.rref
  have hn : ∀ k ∈ S.ord x, S.newNode y.1 (S.tab ((S.ord x).map π)) (π k) = S.newNode x.1 (S.tab (S.ord x)) k := fun k hk => by
    obtain ⟨k1, k2⟩ := hb k hk
    obtain ⟨v, v1, v2, v3⟩ := jget_of (l := x.1) k1 k2
    have hy := h.node k v v1
    unfold S.newNode S.nodeAt
    rw [v1, hy]
    have := movedL_map h.inj hb (v : ByteArray × List DVal).2 (hg.ref v v3)
    show (((v : ByteArray × List DVal).1, S.movedL (S.tab ((S.ord x).map π)) (List.map (α := Int × Int) (β := Int × Int) (S.mvV π) (v : ByteArray × List DVal).2)) : ByteArray × List DVal) = _
    rw [this]; rfl
  show ((((S.ord y).map (S.newNode y.1 (S.tab (S.ord y))), S.movedL (S.tab (S.ord y)) y.2) : List DNode × List DVal)) = ((((S.ord x).map (S.newNode x.1 (S.tab (S.ord x))), S.movedL (S.tab (S.ord x)) x.2) : List DNode × List DVal))
  rw [e, hr, List.map_map]
  congr 1
  exact List.map_congr_left fun k hk => hn k hk
/-- What objects of the order refer to is in the order. -/
def Closed (nd : List DNode) (o : List Int) : Prop := ∀ a ∈ o, ∀ k ∈ S.refsL (S.nodeAt nd a : ByteArray × List DVal).2, k ∈ o
theorem walk_closed {y : List DNode × List DVal} (hg : GF y) : ∀ (f : Nat) (o : List Int) (i : Nat), OrdOK y.1 o → i ≤ o.length → y.1.length - i < f → (∀ j (h : j < o.length), j < i → ∀ k ∈ S.refsL (S.nodeAt y.1 o[j] : ByteArray × List DVal).2, k ∈ o) →
    OrdOK y.1 (S.walk y.1 f o i) ∧ Closed y.1 (S.walk y.1 f o i) ∧ ∀ k ∈ o, k ∈ S.walk y.1 f o i
  | 0, _, _, _, _, h, _ => by omega
  | f + 1, o, i, ho, hi, h1, hc => by
    simp only [S.walk]
    cases hk : o[i]? with
    | none =>
      have hie : o.length ≤ i := List.getElem?_eq_none_iff.1 hk
      refine ⟨ho, fun a ha k hk2 => ?_, fun k hk => hk⟩
      obtain ⟨j, hj, rfl⟩ := List.mem_iff_getElem.1 ha
      exact hc j hj (Nat.lt_of_lt_of_le hj hie) k hk2
    | some k =>
      obtain ⟨hi, hik⟩ := List.getElem?_eq_some_iff.1 hk
      have hlen := ho.len
      obtain ⟨k1, k2⟩ := ho.lt k (List.mem_of_getElem? hk)
      obtain ⟨v, v1, v2, v3⟩ := jget_of (l := y.1) k1 k2
      simp only [v1]
      have hnv : S.nodeAt y.1 k = v := by unfold S.nodeAt; rw [v1]; rfl
      obtain ⟨t, ht⟩ := meetL_pre (S.refsL (v : ByteArray × List DVal).2) o
      have hl2 := meetL_len (S.refsL (v : ByteArray × List DVal).2) o
      obtain ⟨r1, r2, r3⟩ := walk_closed hg f (S.meetL o (S.refsL (v : ByteArray × List DVal).2)) (i + 1) (ho.meet (hg.ref v v3)) (by omega) (by omega) fun j hj hji k' hk' => by
        have hjo : j < o.length := by omega
        have e : (S.meetL o (S.refsL (v : ByteArray × List DVal).2))[j] = o[j] := by
          simp only [ht]
          exact List.getElem_append_left hjo
        rw [e] at hk'
        refine (meetL_mem _ _ _).2 ?_
        by_cases hje : j < i
        · exact .inl (hc j hjo hje k' hk')
        · have : j = i := by omega
          subst this
          rw [hik, hnv] at hk'
          exact .inr hk'
      exact ⟨r1, r2, fun a ha => r3 a ((meetL_mem _ _ _).2 (.inl ha))⟩
theorem ord_closed {y : List DNode × List DVal} (hg : GF y) : OrdOK y.1 (S.ord y) ∧ Closed y.1 (S.ord y) ∧ ∀ k ∈ S.refsL y.2, k ∈ S.ord y := by
  have ho : OrdOK y.1 (S.meetL [] (S.refsL y.2)) := ⟨meetL_nodup _ _ List.nodup_nil, fun a ha => by
    rcases (meetL_mem _ _ a).1 ha with h1 | h1
    · cases h1
    · exact hg.rref a h1⟩
  obtain ⟨r1, r2, r3⟩ := walk_closed hg (y.1.length + 1) (S.meetL [] (S.refsL y.2)) 0 ho (Nat.zero_le _) (by omega) (fun j h h' => by omega)
  exact ⟨r1, r2, fun k hk => r3 k ((meetL_mem _ _ _).2 (.inr hk))⟩
/-- The objects by their new numbers. -/
def S.atO (o : List Int) (k : Int) : Int := (o[k.toNat]?).getD 0
theorem atO_pi {o : List Int} {k : Int} (h : k ∈ o) : S.atO o (S.piO o k) = k := by
  have h1 := List.idxOf_lt_length_of_mem h
  show (o[(Int.ofNat (o.idxOf k)).toNat]?).getD 0 = k
  rw [show (Int.ofNat (o.idxOf k)).toNat = o.idxOf k from rfl, List.getElem?_eq_getElem h1, List.getElem_idxOf h1]; rfl
theorem mv_back {o : List Int} : ∀ l : List (Int × Int), (∀ k ∈ S.refsL l, k ∈ o) → List.map (S.mvV (S.atO o)) (S.movedL (S.tab o) l) = l := fun l hl => by
  rw [movedL_pi l hl]
  induction l with
  | nil => rfl
  | cons v l ih =>
    have hl2 : ∀ k ∈ S.refsL l, k ∈ o := fun k hk => hl k (by
      simp only [S.refsL]; split
      · exact List.mem_cons_of_mem _ hk
      · exact hk)
    simp only [List.map_cons]
    rw [ih hl2]
    congr 1
    unfold S.mvV
    by_cases h4 : v.1 = 4
    · rw [if_pos h4, if_pos h4]
      have : v.2 ∈ o := hl v.2 (by
        simp only [S.refsL]
        rw [if_pos h4]; exact List.mem_cons_self)
      rw [atO_pi this]
    · rw [if_neg h4, if_neg h4]
theorem canon_nodeAt {x : List DNode × List DVal} {k : Int} {v : ByteArray × List DVal} (h : jget (S.canonG x : List DNode × List DVal).1 k = some v) : 0 ≤ k ∧ ∃ hk : k.toNat < (S.ord x).length, v = S.newNode x.1 (S.tab (S.ord x)) (S.ord x)[k.toNat] := by
  obtain ⟨h0, hi, e⟩ := jget_some h
  have hl : ((S.ord x).map (S.newNode x.1 (S.tab (S.ord x)))).length = (S.ord x).length := List.length_map _
  refine ⟨h0, by rw [← hl]; exact hi, ?_⟩
  rw [← e]
  exact List.getElem_map _
/-- The canonical form lies in the graph. -/
theorem emb_canon {x : List DNode × List DVal} (hg : GF x) : Emb (S.atO (S.ord x)) (S.canonG x) x := by
  obtain ⟨ho, hc, hr⟩ := ord_closed hg
  have hl : (S.canonG x : List DNode × List DVal).1.length = (S.ord x).length := by
    show ((S.ord x).map _).length = _
    rw [List.length_map]
  have hat : ∀ {k : Int} (hk : k.toNat < (S.ord x).length), S.atO (S.ord x) k = (S.ord x)[k.toNat] := fun {k} hk => by
    unfold S.atO
    rw [List.getElem?_eq_getElem hk]; rfl
  refine ⟨fun a b a1 a2 b1 b2 e => ?_, fun k v hv => ?_, ?_⟩
  · rw [hl] at a2 b2
    have a3 : (a.toNat : Int) = a := Int.toNat_of_nonneg a1
    have b3 : (b.toNat : Int) = b := Int.toNat_of_nonneg b1
    have a2 : a < ((S.ord x).length : Int) := a2
    have b2 : b < ((S.ord x).length : Int) := b2
    have a4 : a.toNat < (S.ord x).length := by omega
    have b4 : b.toNat < (S.ord x).length := by omega
    rw [hat a4, hat b4] at e
    have := (List.getElem_inj ho.nodup).1 e
    omega
  · obtain ⟨h0, hk, rfl⟩ := canon_nodeAt hv
    rw [hat hk]
    have hm : (S.ord x)[k.toNat] ∈ S.ord x := List.getElem_mem hk
    obtain ⟨k1, k2⟩ := ho.lt _ hm
    obtain ⟨w, w1, w2, w3⟩ := jget_of (l := x.1) k1 k2
    have hcl := hc _ hm
    rw [w1]
    have hnw : S.nodeAt x.1 (S.ord x)[k.toNat] = w := by unfold S.nodeAt; rw [w1]; rfl
    unfold S.newNode
    rw [hnw] at hcl ⊢
    have := mv_back (o := S.ord x) (w : ByteArray × List DVal).2 hcl
    show some w = some ((w.1, List.map (S.mvV (S.atO (S.ord x))) (S.movedL (S.tab (S.ord x)) w.2)) : ByteArray × List DVal)
    rw [this]
  · exact (mv_back (o := S.ord x) x.2 hr).symm
end Go.Proofs.Ytcnhjofpmpipfaa
end

/- The canonical form of a formed graph is formed, and is its own canonical form. -/
section
set_option linter.unusedVariables false
namespace Go.Proofs.Ytcnhjofpmpipfaa
open Go Go.Sx Go.RowKit Go.Jx
theorem mvV_kind (π : Int → Int) (v : Int × Int) : (S.mvV π v).1 = v.1 := by
  unfold S.mvV
  split <;> rfl
theorem value_mv2 {n m : Nat} (h : n ≤ 400) (h' : m ≤ 400) {π : Int → Int} (v : Int × Int) (hb : v.1 = 4 → 0 ≤ π v.2 ∧ π v.2 < Int.ofNat m) (hv : S.value v (Int.ofNat n) = true) : S.value (S.mvV π v) (Int.ofNat m) = true := by
  unfold S.mvV
  by_cases h4 : v.1 = 4
  · rw [if_pos h4]
    exact (value_iff h' _).2 (.inr (.inr (.inr ⟨h4, hb h4⟩)))
  · rw [if_neg h4]
    rcases (value_iff h v).1 hv with e | e | e | ⟨e, _⟩
    · exact (value_iff h' _).2 (.inl e)
    · exact (value_iff h' _).2 (.inr (.inl e))
    · exact (value_iff h' _).2 (.inr (.inr (.inl e)))
    · exact absurd e h4
theorem refsL_mem {l : List (Int × Int)} {v : Int × Int} (hv : v ∈ l) (h4 : v.1 = 4) : v.2 ∈ S.refsL l := by
  induction l with
  | nil => cases hv
  | cons w l ih =>
    simp only [S.refsL]
    rcases List.mem_cons.1 hv with rfl | hv
    · rw [if_pos h4]; exact List.mem_cons_self
    · split
      · exact List.mem_cons_of_mem _ (ih hv)
      · exact ih hv
theorem canon_mem {x : List DNode × List DVal} (hg : GF x) {m : ByteArray × List DVal} (hm : m ∈ (S.canonG x : List DNode × List DVal).1) : ∃ a ∈ S.ord x, ∃ w : ByteArray × List DVal, jget x.1 a = some w ∧ w ∈ x.1 ∧ (∀ k ∈ S.refsL w.2, k ∈ S.ord x) ∧ m = (w.1, w.2.map (S.mvV (S.piO (S.ord x)))) := by
  obtain ⟨ho, hc, hr⟩ := ord_closed hg
  obtain ⟨a, ha, rfl⟩ := List.mem_map.1 (show m ∈ (S.ord x).map (S.newNode x.1 (S.tab (S.ord x))) from hm)
  obtain ⟨k1, k2⟩ := ho.lt a ha
  obtain ⟨w, w1, w2, w3⟩ := jget_of (l := x.1) k1 k2
  have hnw : S.nodeAt x.1 a = w := by unfold S.nodeAt; rw [w1]; rfl
  have hcl := hc a ha
  rw [hnw] at hcl
  refine ⟨a, ha, w, w1, w3, hcl, ?_⟩
  unfold S.newNode
  rw [hnw, movedL_pi _ hcl]
theorem canon_roots {x : List DNode × List DVal} (hg : GF x) : (S.canonG x : List DNode × List DVal).2 = x.2.map (S.mvV (S.piO (S.ord x))) := movedL_pi _ (ord_closed hg).2.2
theorem canon_len {x : List DNode × List DVal} : (S.canonG x : List DNode × List DVal).1.length = (S.ord x).length := by
  show ((S.ord x).map _).length = _
  rw [List.length_map]
theorem piO_lt {o : List Int} {k : Int} (h : k ∈ o) : 0 ≤ S.piO o k ∧ S.piO o k < Int.ofNat o.length := by
  have h3 := List.idxOf_lt_length_of_mem h
  refine ⟨Int.natCast_nonneg _, ?_⟩
  show (o.idxOf k : Int) < (o.length : Int)
  omega
theorem canon_formed2 {x : List DNode × List DVal} (hx : S.formed x = 0) : S.formed (S.canonG x) = 0 := by
  obtain ⟨f1, f2, f3, f4, f5⟩ := formed_zero hx
  have hg := gf_of hx
  obtain ⟨ho, hc, hr⟩ := ord_closed hg
  have hlen := ho.len
  have h400 : (S.ord x).length ≤ 400 := Nat.le_trans hlen f1
  refine formed_of (by rw [canon_len]; exact h400) (by rw [canon_roots hg, List.length_map]; exact f2) (fun m hm => ?_) (fun m hm v hv => ?_) (fun v hv => ?_)
  · obtain ⟨a, ha, w, w1, w2, w3, rfl⟩ := canon_mem hg hm
    have := f3 w w2
    show (List.map _ _).length ≤ 30
    rw [List.length_map]; exact this
  · obtain ⟨a, ha, w, w1, w2, w3, rfl⟩ := canon_mem hg hm
    obtain ⟨u, hu, rfl⟩ := List.mem_map.1 (show v ∈ List.map (S.mvV (S.piO (S.ord x))) w.2 from hv)
    rw [canon_len]
    exact value_mv2 f1 h400 u (fun h4 => piO_lt (w3 _ (refsL_mem hu h4))) (f4 w w2 u hu)
  · rw [canon_roots hg] at hv
    obtain ⟨u, hu, rfl⟩ := List.mem_map.1 hv
    obtain ⟨g1, g2⟩ := f5 u hu
    refine ⟨by rw [canon_len]; exact value_mv2 f1 h400 u (fun h4 => piO_lt (hr _ (refsL_mem hu h4))) g1, ?_⟩
    have hk := mvV_kind (S.piO (S.ord x)) u
    unfold S.refers at g2 ⊢
    rw [hk]; exact g2
/-- Canon of canon is canon. -/
theorem canon_idem {x : List DNode × List DVal} (hx : S.formed x = 0) : S.canonG (S.canonG x) = S.canonG x := by
  have hg := gf_of hx
  have hc := gf_of (canon_formed2 hx)
  have hl : (S.canonG x : List DNode × List DVal).1.length ≤ x.1.length := by rw [canon_len]; exact (ord_closed hg).1.len
  exact (canonG_emb (emb_canon hg) hc hg hl).symm
/-- The order of a canonical form is that of its numbers. -/
theorem canon_ord {x : List DNode × List DVal} (hx : S.formed x = 0) : S.ord (S.canonG x) = (List.range (S.ord x).length).map Int.ofNat := by
  have hg := gf_of hx
  have hc := gf_of (canon_formed2 hx)
  obtain ⟨ho, _, _⟩ := ord_closed hg
  have hl : (S.canonG x : List DNode × List DVal).1.length ≤ x.1.length := by rw [canon_len]; exact ho.len
  obtain ⟨e, hb⟩ := ord_emb (emb_canon hg) hc hg hl
  rw [canon_len] at hb
  have hlen : (S.ord (S.canonG x)).length = (S.ord x).length := by
    have := congrArg List.length e
    rw [List.length_map] at this
    exact this.symm
  refine List.ext_getElem (by rw [hlen]; simp) fun j h1 h2 => ?_
  have hj : j < (S.ord x).length := by rw [← hlen]; exact h1
  rw [List.getElem_map, List.getElem_range]
  obtain ⟨b1, b2⟩ := hb _ (List.getElem_mem h1)
  generalize hq : (S.ord (S.canonG x))[j] = q at *
  have b2 : q < ((S.ord x).length : Int) := b2
  have b3 : (q.toNat : Int) = q := Int.toNat_of_nonneg b1
  have hqn : q.toNat < (S.ord x).length := by omega
  have e2 : (S.ord x)[j] = S.atO (S.ord x) q := by
    have := List.getElem_map (S.atO (S.ord x)) (l := S.ord (S.canonG x)) (i := j) (h := by rw [List.length_map]; exact h1)
    rw [hq] at this
    rw [← this]
    congr 1
  have e3 : S.atO (S.ord x) q = (S.ord x)[q.toNat] := by
    unfold S.atO
    rw [List.getElem?_eq_getElem hqn]; rfl
  rw [e3] at e2
  have := (List.getElem_inj ho.nodup).1 e2
  show q = (j : Int)
  omega
theorem canon_nums {x : List DNode × List DVal} (hx : S.formed x = 0) : S.numsG (S.canonG x) = (List.range (S.ord x).length).map Int.ofNat := by
  unfold S.numsG
  rw [canon_len, canon_ord hx]
  refine List.map_congr_left fun k hk => ?_
  have hk := List.mem_range.1 hk
  unfold S.numOr
  have hm : Int.ofNat k ∈ (List.range (S.ord x).length).map Int.ofNat := List.mem_map.2 ⟨k, List.mem_range.2 hk, rfl⟩
  rw [numAt_tab, if_pos hm]
  show Int.ofNat _ = _
  congr 1
  have h1 := List.idxOf_lt_length_of_mem hm
  have h2 := List.getElem_idxOf h1
  rw [List.getElem_map, List.getElem_range] at h2
  exact Int.ofNat.inj h2
end Go.Proofs.Ytcnhjofpmpipfaa
end

/- Orders of numbers; graphs with other numbers. -/
section
set_option linter.unusedVariables false
namespace Go.Proofs.Ytcnhjofpmpipfaa
open Go Go.Sx Go.RowKit Go.Jx
/-- An order of the numbers below n. -/
structure PermOK (n : Nat) (o : List Int) : Prop where
  len : o.length = n
  lt : ∀ k ∈ o, 0 ≤ k ∧ k < Int.ofNat n
  nodup : o.Nodup
theorem nodup_of_inj {o : List Int} (h : ∀ i j (hi : i < o.length) (hj : j < o.length), o[i] = o[j] → i = j) : o.Nodup :=
  List.pairwise_iff_getElem.2 fun i j hi hj hij e => by
    have := h i j hi hj e
    omega
theorem perm_range (n : Nat) : PermOK n ((List.range n).map Int.ofNat) := ⟨by simp, fun k hk => by
  obtain ⟨j, hj, rfl⟩ := List.mem_map.1 hk
  have hj := List.mem_range.1 hj
  exact ⟨Int.natCast_nonneg _, Int.ofNat_lt.2 hj⟩, nodup_of_inj fun i j hi hj e => by
    rw [List.getElem_map, List.getElem_map, List.getElem_range, List.getElem_range] at e
    exact Int.ofNat.inj e⟩
theorem perm_swap {n : Nat} {o : List Int} (h : PermOK n o) {a b : Nat} (ha : a < o.length) (hb : b < o.length) : PermOK n ((o.set a o[b]).set b o[a]) := by
  have hg : ∀ k (hk : k < ((o.set a o[b]).set b o[a]).length) (hk' : (if k = b then a else if k = a then b else k) < o.length), ((o.set a o[b]).set b o[a])[k] = o[if k = b then a else if k = a then b else k] := fun k hk hk' => by
    by_cases h1 : k = b
    · subst h1
      simp only [List.getElem_set_self, if_pos]
    · by_cases h2 : k = a
      · subst h2
        rw [List.getElem_set_ne (fun e => h1 e.symm), List.getElem_set_self]
        simp only [h1, if_false, if_true]
      · rw [List.getElem_set_ne (fun e => h1 e.symm), List.getElem_set_ne (fun e => h2 e.symm)]
        simp only [h1, h2, if_false]
  have hl : ((o.set a o[b]).set b o[a]).length = o.length := by simp
  have hs : ∀ k, k < o.length → (if k = b then a else if k = a then b else k) < o.length := fun k hk => by
    split
    · exact ha
    · split
      · exact hb
      · exact hk
  refine ⟨by rw [hl]; exact h.len, fun k hk => ?_, nodup_of_inj fun i j hi hj e => ?_⟩
  · obtain ⟨j, hj, rfl⟩ := List.mem_iff_getElem.1 hk
    rw [hg j hj (hs j (by rw [← hl]; exact hj))]
    exact h.lt _ (List.getElem_mem _)
  · have hi' : i < o.length := by rw [← hl]; exact hi
    have hj' : j < o.length := by rw [← hl]; exact hj
    rw [hg i hi (hs i hi'), hg j hj (hs j hj')] at e
    have := (List.getElem_inj h.nodup).1 e
    split at this <;> split at this <;> (try split at this) <;> (try split at this) <;> omega
theorem PermOK.full {n : Nat} {o : List Int} (h : PermOK n o) {nd : List DNode} (hn : nd.length = n) {k : Int} (h1 : 0 ≤ k) (h2 : k < Int.ofNat n) : k ∈ o := by
  subst hn
  exact full_mem (nd := nd) ⟨h.nodup, h.lt⟩ h.len h1 h2
/-- What turned makes: the objects of g, each at its new number. -/
structure Turned (o : List Int) (g h : List DNode × List DVal) : Prop where
  len : h.1.length = g.1.length
  node : ∀ k (hk : k < g.1.length) (hk' : k < o.length), jget h.1 o[k] = some (S.mvN (S.atO o) g.1[k])
  roots : h.2 = g.2.map (S.mvV (S.atO o))
theorem atO_get {o : List Int} {k : Nat} (hk : k < o.length) : S.atO o (Int.ofNat k) = o[k] := by
  show (o[k]?).getD 0 = _
  rw [List.getElem?_eq_getElem hk]; rfl
theorem ren_turned {o : List Int} {g h : List DNode × List DVal} (hp : PermOK g.1.length o) (ht : Turned o g h) : Ren (S.atO o) g h := by
  refine ⟨ht.len, fun a b a1 a2 b1 b2 e => ?_, fun k v hv => ?_, ht.roots⟩
  · have a3 : Int.ofNat a.toNat = a := Int.toNat_of_nonneg a1
    have b3 : Int.ofNat b.toNat = b := Int.toNat_of_nonneg b1
    have a2 : a < (g.1.length : Int) := a2
    have b2 : b < (g.1.length : Int) := b2
    have hl := hp.len
    have a4 : a.toNat < o.length := by omega
    have b4 : b.toNat < o.length := by omega
    rw [← a3, ← b3, atO_get a4, atO_get b4] at e
    have := (List.getElem_inj hp.nodup).1 e
    omega
  · obtain ⟨h0, hi, e⟩ := jget_some hv
    have hk : k.toNat < o.length := by rw [hp.len]; exact hi
    have k3 : Int.ofNat k.toNat = k := Int.toNat_of_nonneg h0
    rw [← k3, atO_get hk, ht.node _ hi hk, e]; rfl
theorem turned_formed {o : List Int} {g h : List DNode × List DVal} (hg : S.formed g = 0) (hp : PermOK g.1.length o) (ht : Turned o g h) : S.formed h = 0 := by
  obtain ⟨f1, f2, f3, f4, f5⟩ := formed_zero hg
  have hat : ∀ k, 0 ≤ k → k < Int.ofNat g.1.length → 0 ≤ S.atO o k ∧ S.atO o k < Int.ofNat g.1.length := fun k h1 h2 => by
    have k3 : Int.ofNat k.toNat = k := Int.toNat_of_nonneg h1
    have h2 : k < (g.1.length : Int) := h2
    have hk : k.toNat < o.length := by rw [hp.len]; omega
    rw [← k3, atO_get hk]
    exact hp.lt _ (List.getElem_mem _)
  have hmem : ∀ m ∈ h.1, ∃ n ∈ g.1, m = S.mvN (S.atO o) n := fun m hm => by
    obtain ⟨j, hj, rfl⟩ := List.mem_iff_getElem.1 hm
    have hjo : Int.ofNat j ∈ o := hp.full (nd := g.1) rfl (Int.natCast_nonneg _) (Int.ofNat_lt.2 (by rw [← ht.len]; exact hj))
    obtain ⟨k, hk, e⟩ := List.mem_iff_getElem.1 hjo
    have hkg : k < g.1.length := by rw [← hp.len]; exact hk
    have := ht.node k hkg hk
    rw [e, jget_nat, List.getElem?_eq_getElem hj] at this
    exact ⟨g.1[k], List.getElem_mem _, Option.some.inj this⟩
  refine formed_of (by rw [ht.len]; exact f1) (by rw [ht.roots, List.length_map]; exact f2) (fun m hm => ?_) (fun m hm v hv => ?_) (fun v hv => ?_)
  · obtain ⟨n, hn, rfl⟩ := hmem m hm
    have := f3 n hn
    show (List.map (α := Int × Int) (β := Int × Int) _ _).length ≤ 30
    rw [List.length_map]; exact this
  · obtain ⟨n, hn, rfl⟩ := hmem m hm
    obtain ⟨w, hw, rfl⟩ := List.mem_map.1 (show v ∈ List.map (α := Int × Int) (β := Int × Int) (S.mvV (S.atO o)) n.2 from hv)
    rw [ht.len]
    exact value_mv f1 hat w (f4 n hn w hw)
  · rw [ht.roots] at hv
    obtain ⟨w, hw, rfl⟩ := List.mem_map.1 hv
    obtain ⟨g1, g2⟩ := f5 w hw
    refine ⟨by rw [ht.len]; exact value_mv f1 hat w g1, ?_⟩
    have hk := mvV_kind (S.atO o) w
    unfold S.refers at g2 ⊢
    rw [hk]; exact g2
end Go.Proofs.Ytcnhjofpmpipfaa
end

/- Loops over lists: what holds of their results. -/
section
set_option linter.unusedVariables false
namespace Go.Jx
open Go Go.Sx Go.RowKit
theorem range_px {α σ A R : Type} {T : (A → Option R) → A → Option R} (l : List α) (mk : Int → σ → A) (I : Nat → σ → Prop) (P : Option R → Prop) (hl : l.length < LF)
    (hnil : ∀ K s, I l.length s → P (T K (mk (Int.ofNat l.length) s)))
    (hcons : ∀ K i v rest s, I i s → Rnd l i v rest → (∀ s', I (i + 1) s' → P (K (mk (Int.ofNat (i + 1)) s'))) → P (T K (mk (Int.ofNat i) s))) :
    ∀ n i s, i ≤ l.length → I i s → l.length - i < n → P (rounds T n (mk (Int.ofNat i) s))
  | 0, i, s, _, _, h => by omega
  | n + 1, i, s, hi, hI, h => by
    show P (T (rounds T n) (mk (Int.ofNat i) s))
    by_cases e : i = l.length
    · subst e
      exact hnil _ _ hI
    · obtain ⟨v, rest, r⟩ := rnd_of (l := l) (i := i) (by omega) hl
      exact hcons (rounds T n) i v rest s hI r fun s' hI' => range_px l mk I P hl hnil hcons n (i + 1) s' (by have := r.lt; omega) hI' (by omega)
theorem range_p {α σ A R : Type} {T : (A → Option R) → A → Option R} (l : List α) (mk : Int → σ → A) (I : Nat → σ → Prop) (P : Option R → Prop) (hl : l.length < LF)
    (hnil : ∀ K s, I l.length s → P (T K (mk (Int.ofNat l.length) s)))
    (hcons : ∀ K i v rest s, I i s → Rnd l i v rest → (∀ s', I (i + 1) s' → P (K (mk (Int.ofNat (i + 1)) s'))) → P (T K (mk (Int.ofNat i) s)))
    (s : σ) (hI : I 0 s) : P (rounds T LF (mk (Int.ofNat 0) s)) := range_px l mk I P hl hnil hcons LF 0 s (Nat.zero_le _) hI (by omega)
end Go.Jx
end

/- What order and turned compute. -/
section
set_option linter.unusedVariables false
set_option maxRecDepth 100000
namespace Go.Proofs.Ytcnhjofpmpipfaa
open Go Go.Sx Go.RowKit Go.Jx
theorem tmod_lt {a : Int} {n : Nat} (h0 : 0 ≤ a) (hn : 0 < n) : ∃ k : Nat, k < n ∧ Int.tmod a (Int.ofNat n) = Int.ofNat k := by
  obtain ⟨m, rfl⟩ := Int.eq_ofNat_of_zero_le h0
  exact ⟨m % n, Nat.mod_lt _ hn, rfl⟩
theorem order_ok (N : Nat) (picks : List Int) (hN : N * 8 ≤ 140737488355328) (hp : ∀ p ∈ picks, 0 ≤ p ∧ p < 256) (hpl : picks.length < LF) : ∃ o, S.orderO (Int.ofNat N) picks = some (o, ()) ∧ PermOK N o := by
  unfold S.orderO F_l_order R_l_order_in
  have e1 : iltI (Int.ofNat N) (Int.ofNat 0) = false := by rw [iltI_eq]; exact decide_eq_false (by have := Int.natCast_nonneg N; exact Int.not_lt.2 this)
  have e2 : Nat.ble (Nat.mul (Int.toNat (Int.ofNat N)) 8) 140737488355328 = true := Nat.ble_eq_true_of_le hN
  rw [e1, e2, cond_false, cond_true]
  have hrep : S.rep (Int.ofNat N) (Int.ofNat 0) = List.replicate N (Int.ofNat 0) := rfl
  have hlen : (S.rep (Int.ofNat N) (Int.ofNat 0)).length = N := by rw [hrep, List.length_replicate]
  have hLF : N < LF := by unfold LF; omega
  -- the second loop
  have h2 : ∀ s : List Int, PermOK N s → ∃ o, G_l_order_8 LF (Int.ofNat N) picks LF (s, Int.ofNat 0) = some (o, ()) ∧ PermOK N o := fun s hs => by
    refine range_p (α := Int) (σ := List Int) picks (fun i s => (s, i)) (fun _ s => PermOK N s) (fun x => ∃ o, x = some (o, ()) ∧ PermOK N o) hpl (fun K s hs => ?_) (fun K i v rest s hs r hk => ?_) s hs
    · exact ⟨s, by simp only [R_l_order_8, ilt_self, cond_false], hs⟩
    · simp only [R_l_order_8, r.ilt, cond_true, r.get, r.next]
      by_cases h0 : 0 < N
      · have f1 : iltI (Int.ofNat 0) (Int.ofNat N) = true := by rw [iltI_eq]; exact decide_eq_true (Int.ofNat_lt.2 h0)
        have f2 : ieqI (Int.ofNat N) (Int.ofNat 0) = false := by rw [ieqI_eq]; exact decide_eq_false fun e => by have := Int.ofNat.inj e; omega
        obtain ⟨v1, v2⟩ := hp v r.mem
        have f3 : Go.IntKind.wrap Go.IntKind.i64 v = v := wrap64_in ⟨by omega, by omega⟩
        obtain ⟨a, ha, ea⟩ := tmod_lt (a := Int.ofNat i) (Int.natCast_nonneg i) h0
        obtain ⟨b, hb, eb⟩ := tmod_lt v1 h0
        have ha2 : a < s.length := by rw [hs.len]; exact ha
        have hb2 : b < s.length := by rw [hs.len]; exact hb
        have hb3 : b < (s.set a s[b]).length := by rw [List.length_set]; exact hb2
        have g1 : s[a]? = some s[a] := List.getElem?_eq_getElem ha2
        have g2 : s[b]? = some s[b] := List.getElem?_eq_getElem hb2
        have g3 : (s.set a s[b])[b]? = some (s.set a s[b])[b] := List.getElem?_eq_getElem hb3
        have t1 : ∀ k : Nat, Int.toNat (Int.ofNat k) = k := fun _ => rfl
        simp only [f1, f2, f3, ea, eb, cond_true, cond_false, jget_nat, t1, g1, g2, g3]
        exact hk _ (perm_swap hs ha2 hb2)
      · have f1 : iltI (Int.ofNat 0) (Int.ofNat N) = false := by rw [iltI_eq]; exact decide_eq_false fun h => h0 (Int.ofNat_lt.1 h)
        simp only [f1, cond_false]
        exact hk s hs
  refine range_p (α := Int) (σ := List Int) (S.rep (Int.ofNat N) (Int.ofNat 0)) (fun i s => (i, s)) (fun i s => s = (List.range i).map Int.ofNat ++ List.replicate (N - i) (Int.ofNat 0)) (fun x => ∃ o, x = some (o, ()) ∧ PermOK N o) (by rw [hlen]; exact hLF) (fun K s hs => ?_) (fun K i v rest s hs r hk => ?_) _ (by rw [hrep, Nat.sub_zero]; rfl)
  · have : iltI (Int.ofNat (S.rep (Int.ofNat N) (Int.ofNat 0)).length) (Int.ofNat (List.length (S.rep (Int.ofNat N) (Int.ofNat 0)))) = false := ilt_self _
    simp only [R_l_order_3, this, cond_false]
    refine h2 s ?_
    rw [hs, hlen, Nat.sub_self, List.replicate_zero, List.append_nil]
    exact perm_range N
  · have hi : i < N := by rw [← hlen]; exact r.lt
    have hsl : s.length = N := by rw [hs]; simp; omega
    have g1 : s[i]? = some s[i] := List.getElem?_eq_getElem (by rw [hsl]; exact hi)
    have t1 : ∀ k : Nat, Int.toNat (Int.ofNat k) = k := fun _ => rfl
    simp only [R_l_order_3, r.ilt, cond_true, jget_nat, g1, t1, r.next]
    refine hk _ ?_
    have e : N - i = (N - (i + 1)) + 1 := by omega
    have hl : ((List.range i).map Int.ofNat).length = i := by simp
    rw [hs, List.set_append_right _ _ (by rw [hl]; exact Nat.le_refl _), hl, Nat.sub_self, e, List.replicate_succ, List.set_cons_zero, List.range_succ, List.map_append]
    simp
end Go.Proofs.Ytcnhjofpmpipfaa
end

/- What turned computes. -/
section
set_option linter.unusedVariables false
set_option maxRecDepth 100000
namespace Go.Proofs.Ytcnhjofpmpipfaa
open Go Go.Sx Go.RowKit Go.Jx
theorem turnV_ok {v : Int × Int} {o : List Int} (h : v.1 = 4 → 0 ≤ v.2 ∧ v.2 < Int.ofNat o.length) : S.turnV v o = some ((S.mvV (S.atO o) v, ()), ((o, ()), ())) := by
  unfold S.turnV F_l_turned_1 R_l_turned_1_in S.mvV
  by_cases h4 : v.1 = 4
  · have h5 : ieqI v.1 (Int.ofNat 4) = true := by rw [ieqI_eq]; exact decide_eq_true h4
    obtain ⟨a, b⟩ := h h4
    have b : v.2 < (o.length : Int) := b
    have hk : v.2.toNat < o.length := by omega
    have hj : jget o v.2 = some o[v.2.toNat] := jget_mk a hk
    have e : S.atO o v.2 = o[v.2.toNat] := by unfold S.atO; rw [List.getElem?_eq_getElem hk]; rfl
    rw [if_pos h4, h5, cond_true, hj, e]
  · have h5 : ieqI v.1 (Int.ofNat 4) = false := by rw [ieqI_eq]; exact decide_eq_false h4
    rw [if_neg h4, h5, cond_false]
theorem turned_roots (g : List DNode × List DVal) (o : List Int) (ns : List DNode) (h60 : g.2.length ≤ 60) (hv : ∀ v ∈ g.2, (v : Int × Int).1 = 4 → 0 ≤ (v : Int × Int).2 ∧ (v : Int × Int).2 < Int.ofNat o.length) :
    G_l_turned_15 LF g o LF (o, ns, Int.ofNat 0, []) = some ((ns, g.2.map (S.mvV (S.atO o))), ()) := by
  refine range_p (α := DVal) (σ := List DVal) g.2 (fun i s => (o, ns, i, s)) (fun i s => s = (g.2.take i).map (S.mvV (S.atO o))) (fun x => x = some ((ns, g.2.map (S.mvV (S.atO o))), ())) (by unfold LF; omega) (fun K s hs => ?_) (fun K i v rest s hs r hk => ?_) [] rfl
  · simp only [R_l_turned_15, ilt_self, cond_false]
    rw [hs, List.take_length]
  · have hvv : S.turnV ((v : Int × Int).1, (v : Int × Int).2) o = some ((S.mvV (S.atO o) v, ()), ((o, ()), ())) := turnV_ok (hv v r.mem)
    have hsl : List.length (α := DVal) s = i := by rw [hs, List.length_map, List.length_take]; have := r.lt; omega
    have hb : Nat.ble (Nat.mul (Nat.add (List.length (α := DVal) s) 1) 16) 140737488355328 = true := Nat.ble_eq_true_of_le (by
      rw [hsl]; have := r.lt
      show (i + 1) * 16 ≤ 140737488355328
      omega)
    simp only [R_l_turned_15, r.ilt, cond_true, r.get, hvv, hb, r.next]
    refine hk _ ?_
    rw [hs, r.take, List.map_append]; rfl
theorem turned_vals (g : List DNode × List DVal) (o : List Int) (c : ByteArray) (vs : List DVal) (i : Int) (ns : List DNode) (K4 : (Int × (List DNode) × (List Int)) → Option Rt_l_turned) (h30 : vs.length ≤ 30)
    (hv : ∀ v ∈ vs, (v : Int × Int).1 = 4 → 0 ≤ (v : Int × Int).2 ∧ (v : Int × Int).2 < Int.ofNat o.length) {k : Int} (hk : jget o i = some k) (hk0 : 0 ≤ k) (hk1 : k < Int.ofNat ns.length) (P : Option Rt_l_turned → Prop)
    (hP : P (K4 (Go.IntKind.wrap Go.IntKind.i64 (Int.add i (Int.ofNat 1)), List.set ns (Int.toNat k) (c, vs.map (S.mvV (S.atO o))), o))) :
    P (G_l_turned_8 LF g o K4 LF (c, vs, Int.ofNat 0, o, [], i, i, ns)) := by
  refine range_p (α := DVal) (σ := List DVal) vs (fun j s => (c, vs, j, o, s, i, i, ns)) (fun j s => s = (vs.take j).map (S.mvV (S.atO o))) P (by unfold LF; omega) (fun K s hs => ?_) (fun K j v rest s hs r hr => ?_) [] rfl
  · have hk1 : k < (ns.length : Int) := hk1
    have hkl : k.toNat < ns.length := by omega
    have g1 : jget ns k = some ns[k.toNat] := jget_mk hk0 hkl
    have g2 : ns[k.toNat]? = some ns[k.toNat] := List.getElem?_eq_getElem hkl
    simp only [R_l_turned_8, ilt_self, cond_false, hk, g1, g2]
    rw [hs, List.take_length]
    exact hP
  · have hvv : S.turnV ((v : Int × Int).1, (v : Int × Int).2) o = some ((S.mvV (S.atO o) v, ()), ((o, ()), ())) := turnV_ok (hv v r.mem)
    have hsl : List.length (α := DVal) s = j := by rw [hs, List.length_map, List.length_take]; have := r.lt; omega
    have hb : Nat.ble (Nat.mul (Nat.add (List.length (α := DVal) s) 1) 16) 140737488355328 = true := Nat.ble_eq_true_of_le (by
      rw [hsl]; have := r.lt
      show (j + 1) * 16 ≤ 140737488355328
      omega)
    simp only [R_l_turned_8, r.ilt, cond_true, r.get, hvv, hb, r.next]
    refine hr _ ?_
    rw [hs, r.take, List.map_append]; rfl
theorem turned_ok {g : List DNode × List DVal} (hg : S.formed g = 0) {o : List Int} (hp : PermOK g.1.length o) : ∃ h : List DNode × List DVal, S.turnedO g o = some (h, ()) ∧ Turned o g h := by
  obtain ⟨f1, f2, f3, f4, f5⟩ := formed_zero hg
  have hgf := gf_of hg
  have hvg : ∀ (l : List DVal), (∀ k ∈ S.refsL l, 0 ≤ k ∧ k < Int.ofNat g.1.length) → ∀ v ∈ l, (v : Int × Int).1 = 4 → 0 ≤ (v : Int × Int).2 ∧ (v : Int × Int).2 < Int.ofNat o.length := fun l hl v hv h4 => by
    rw [hp.len]
    exact hl _ (refsL_mem hv h4)
  unfold S.turnedO F_l_turned R_l_turned_in
  have e1 : iltI (Int.ofNat (List.length g.1)) (Int.ofNat 0) = false := by rw [iltI_eq]; exact decide_eq_false (by have := Int.natCast_nonneg g.1.length; exact Int.not_lt.2 this)
  have e2 : Nat.ble (Nat.mul (Int.toNat (Int.ofNat (List.length g.1))) 40) 140737488355328 = true := Nat.ble_eq_true_of_le (by show g.1.length * 40 ≤ _; omega)
  rw [e1, e2, cond_false, cond_true]
  have hrep : (S.rep (Int.ofNat (List.length g.1)) ((S.lit [], []) : DNode)) = List.replicate g.1.length ((S.lit [], []) : DNode) := rfl
  refine range_p (α := DNode) (σ := List DNode) g.1 (fun i s => (i, s, o)) (fun i s => s.length = g.1.length ∧ ∀ k (hk : k < g.1.length) (hk' : k < o.length), k < i → jget s o[k] = some (S.mvN (S.atO o) g.1[k])) (fun x => ∃ h : List DNode × List DVal, x = some (h, ()) ∧ Turned o g h) (by unfold LF; omega) (fun K s hs => ?_) (fun K i v rest s hs r hk => ?_) (S.rep (Int.ofNat (List.length g.1)) ((S.lit [], []) : DNode)) ⟨by rw [hrep, List.length_replicate], fun k _ _ h => by omega⟩
  · simp only [R_l_turned_4, ilt_self, cond_false]
    exact ⟨(s, g.2.map (S.mvV (S.atO o))), turned_roots g o s f2 (hvg g.2 hgf.rref), hs.1, fun k h1 h2 => hs.2 k h1 h2 h1, rfl⟩
  · simp only [R_l_turned_4, r.ilt, cond_true, r.get]
    have hio : i < o.length := by rw [hp.len]; exact r.lt
    obtain ⟨p1, p2⟩ := hp.lt o[i] (List.getElem_mem hio)
    have hgi : jget o (Int.ofNat i) = some o[i] := by rw [jget_nat]; exact List.getElem?_eq_getElem hio
    have hgv : g.1[i]'r.lt = v := by
      have := r.get?
      rw [List.getElem?_eq_getElem r.lt] at this
      exact Option.some.inj this
    refine turned_vals g o (v : ByteArray × List DVal).1 (v : ByteArray × List DVal).2 (Int.ofNat i) s K (f3 v r.mem) (hvg _ (hgf.ref v r.mem)) hgi p1 (by rw [hs.1]; exact p2) (fun x => ∃ h : List DNode × List DVal, x = some (h, ()) ∧ Turned o g h) ?_
    rw [r.next]
    refine hk _ ⟨by rw [List.length_set]; exact hs.1, fun k h1 h2 h3 => ?_⟩
    obtain ⟨q1, q2⟩ := hp.lt o[k] (List.getElem_mem h2)
    have q2 : o[k] < (g.1.length : Int) := q2
    have p2 : o[i] < (g.1.length : Int) := p2
    have hkn : o[k].toNat < (List.set s o[i].toNat ((v : ByteArray × List DVal).1, (v : ByteArray × List DVal).2.map (S.mvV (S.atO o)))).length := by rw [List.length_set, hs.1]; omega
    rw [jget_mk q1 hkn]
    by_cases hki : k = i
    · subst hki
      rw [List.getElem_set_self, hgv]; rfl
    · have hne : ¬ o[i].toNat = o[k].toNat := fun e => by
        have : o[i] = o[k] := by omega
        have := (List.getElem_inj hp.nodup).1 this
        omega
      rw [List.getElem_set_ne hne]
      have := hs.2 k h1 h2 (by omega)
      obtain ⟨z0, zi, ze⟩ := jget_some this
      rw [ze]
end Go.Proofs.Ytcnhjofpmpipfaa
end

/- The canonical form of a right graph is right. -/
section
set_option linter.unusedVariables false
namespace Go.Proofs.Ytcnhjofpmpipfaa
open Go Go.Sx Go.RowKit Go.Jx
end Go.Proofs.Ytcnhjofpmpipfaa
end

/- Convert converts all or nothing. -/
section
set_option linter.unusedVariables false
namespace Go.Proofs.Ytcnhjofpmpipfaa
open Go Go.Sx Go.RowKit Go.Jx
theorem canonO_of {g : List DNode × List DVal} (h : S.formed g = 0) : S.CanonO g = some (S.canonG g, S.numsG g, 0, ()) := by
  obtain ⟨e1, _⟩ := canon_ok (gf_of h)
  have hx2 : S.canonO (g.1, g.2) = some (S.canonG g, S.numsG g, ()) := e1
  have hf2 : S.formed (g.1, g.2) = 0 := h
  have hz : ieqI 0 (Int.ofNat 0) = true := by rw [ieqI_eq]; rfl
  simp only [S.CanonO, F_p_Canon, R_p_Canon_in, hf2, hz, Bool.not_true, cond_false, hx2]
  rfl
end Go.Proofs.Ytcnhjofpmpipfaa
end

/- PackRenumbers: the law function answers yes on all data. -/
section
set_option linter.unusedVariables false
set_option maxRecDepth 100000
namespace Go.Proofs.Ytcnhjofpmpipfaa
open Go Go.Sx Go.RowKit Go.Jx
theorem cond_true_or9 {b : Bool} {x : Option (Bool × Unit)} (h : x = some (true, ())) : cond b (some (true, ())) x = some (true, ()) := by
  cases b
  · exact h
  · rfl
theorem canonO_bad {g : List DNode × List DVal} (h : ¬ S.formed g = 0) : S.CanonO g = some (([], []), [], S.formed g, ()) := by
  have hz : ieqI (S.formed (g.1, g.2)) (Int.ofNat 0) = false := by rw [ieqI_eq]; exact decide_eq_false h
  simp only [S.CanonO, F_p_Canon, R_p_Canon_in, hz, Bool.not_false, cond_true]
theorem pair_eq (v w : Int × Int) : Bool.and (keqI v.1 w.1) (Bool.and (keqI v.2 w.2) Bool.true) = decide (v = w) := by
  rw [keqI_eq2, keqI_eq2, Bool.eq_iff_iff]
  constructor
  · intro h
    obtain ⟨a, b⟩ := Bool.and_eq_true_iff.1 h
    obtain ⟨b, _⟩ := Bool.and_eq_true_iff.1 b
    exact decide_eq_true (Prod.ext (of_decide_eq_true a) (of_decide_eq_true b))
  · intro h
    have := of_decide_eq_true h
    subst this
    exact Bool.and_eq_true_iff.2 ⟨decide_eq_true rfl, Bool.and_eq_true_iff.2 ⟨decide_eq_true rfl, rfl⟩⟩
theorem piO_inj {o : List Int} {a b : Int} (ha : a ∈ o) (hb : b ∈ o) (h : S.piO o a = S.piO o b) : a = b := by
  have h1 := List.getElem_idxOf (List.idxOf_lt_length_of_mem ha)
  have h2 := List.getElem_idxOf (List.idxOf_lt_length_of_mem hb)
  have h : o.idxOf a = o.idxOf b := Int.ofNat.inj h
  rw [← h1, ← h2]
  congr 1
theorem mvV_inj {o : List Int} {v w : Int × Int} (hv : v.1 = 4 → v.2 ∈ o) (hw : w.1 = 4 → w.2 ∈ o) : S.mvV (S.piO o) v = S.mvV (S.piO o) w ↔ v = w := by
  refine ⟨fun h => ?_, fun h => by rw [h]⟩
  have h1 : v.1 = w.1 := by rw [← mvV_kind (S.piO o) v, h, mvV_kind]
  refine Prod.ext h1 ?_
  unfold S.mvV at h
  by_cases h4 : v.1 = 4
  · rw [if_pos h4, if_pos (h1 ▸ h4)] at h
    exact piO_inj (hv h4) (hw (h1 ▸ h4)) (Prod.mk.inj h).2
  · rw [if_neg h4, if_neg (fun e => h4 (h1.trans e))] at h
    rw [h]
theorem count_ord {n : Nat} {o : List Int} (hn : o.Nodup) (hl : ∀ k ∈ o, 0 ≤ k ∧ k < Int.ofNat n) : (((List.range n).map Int.ofNat).filter fun k => decide (k ∈ o)).length = o.length := by
  have hnd : (((List.range n).map Int.ofNat).filter fun k => decide (k ∈ o)).Nodup := List.Pairwise.filter _ (perm_range n).nodup
  refine Nat.le_antisymm (nodup_le _ _ hnd fun k hk => ?_) (nodup_le _ _ hn fun k hk => ?_)
  · exact of_decide_eq_true (List.mem_filter.1 hk).2
  · obtain ⟨a, b⟩ := hl k hk
    have b : k < (n : Int) := b
    exact List.mem_filter.2 ⟨List.mem_map.2 ⟨k.toNat, List.mem_range.2 (by omega), Int.toNat_of_nonneg a⟩, decide_eq_true hk⟩
section
variable {g : List DNode × List DVal} (hg : S.formed g = 0) (xs : List Int)
include hg
theorem ren_roots (many : Int) (cn : List DNode) (hm : many = Int.ofNat cn.length) : G_l_PackRenumbers_30 LF g xs LF ((S.canonG g : List DNode × List DVal).2, cn, many, Int.ofNat 0) = some (true, ()) := by
  obtain ⟨f1, f2, f3, f4, f5⟩ := formed_zero hg
  have hgf := gf_of hg
  obtain ⟨ho, hc, hr⟩ := ord_closed hgf
  have hroots : (S.canonG g : List DNode × List DVal).2 = g.2.map (S.mvV (S.piO (S.ord g))) := canon_roots hgf
  have hget : ∀ {i : Nat} {v : DVal}, g.2[i]? = some v → jget (S.canonG g : List DNode × List DVal).2 (Int.ofNat i) = some (S.mvV (S.piO (S.ord g)) v) := fun {i v} h => by
    rw [hroots, jget_nat, List.getElem?_map, h]; rfl
  have h60 : List.length (α := DVal) g.2 < LF := by unfold LF; omega
  refine range_p (α := DVal) (σ := Unit) g.2 (fun i _ => ((S.canonG g : List DNode × List DVal).2, cn, many, i)) (fun _ _ => True) (fun x => x = some (true, ())) h60 (fun K s hs => ?_) (fun K i v rest s hs r hk => ?_) () trivial
  · simp only [R_l_PackRenumbers_30, ilt_self, cond_false]
    rw [hm, ieqI_eq, decide_eq_true rfl]
  · simp only [R_l_PackRenumbers_30, r.ilt, cond_true]
    refine range_p (α := DVal) (σ := Unit) g.2 (fun j _ => ((S.canonG g : List DNode × List DVal).2, many, cn, j, Int.ofNat i, Int.ofNat i)) (fun _ _ => True) (fun x => x = some (true, ())) h60 (fun K2 s hs => ?_) (fun K2 j w rest2 s hs r2 hk2 => ?_) () trivial
    · simp only [R_l_PackRenumbers_33, ilt_self, cond_false, r.next]
      exact hk () trivial
    · have e1 := hget r.get?
      have e2 := hget r2.get?
      have hb : decide (Bool.and (keqI (v : Int × Int).1 (w : Int × Int).1) (Bool.and (keqI (v : Int × Int).2 (w : Int × Int).2) Bool.true) = Bool.and (keqI (S.mvV (S.piO (S.ord g)) v).1 (S.mvV (S.piO (S.ord g)) w).1) (Bool.and (keqI (S.mvV (S.piO (S.ord g)) v).2 (S.mvV (S.piO (S.ord g)) w).2) Bool.true)) = true := by
        rw [pair_eq, pair_eq]
        refine decide_eq_true (decide_eq_decide.2 (mvV_inj (fun h4 => hr _ (refsL_mem r.mem h4)) (fun h4 => hr _ (refsL_mem r2.mem h4))).symm)
      simp only [R_l_PackRenumbers_33, r2.ilt, cond_true, r.get, r2.get, e1, e2, hb, Bool.not_true, cond_false, r2.next]
      exact hk2 () trivial
theorem ren_nums : G_l_PackRenumbers_20 LF g xs LF ((S.canonG g : List DNode × List DVal).2, S.numsG g, (S.canonG g : List DNode × List DVal).1, Int.ofNat 0, Int.ofNat 0) = some (true, ()) := by
  obtain ⟨f1, f2, f3, f4, f5⟩ := formed_zero hg
  have hgf := gf_of hg
  obtain ⟨ho, hc, hr⟩ := ord_closed hgf
  have hlen : (S.numsG g).length = g.1.length := by unfold S.numsG; rw [List.length_map, List.length_range]
  have hat : ∀ {i : Nat} {v : Int}, (S.numsG g)[i]? = some v → v = S.numOr (S.tab (S.ord g)) (Int.ofNat i) := fun {i v} h => by
    unfold S.numsG at h
    rw [List.getElem?_map] at h
    cases hq : (List.range (List.length (α := DNode) g.1))[i]? with
    | none => rw [hq] at h; cases h
    | some j =>
      have := (List.getElem?_eq_some_iff.1 hq).2
      rw [List.getElem_range] at this
      rw [hq] at h
      subst this
      exact (Option.some.inj h).symm
  refine range_p (α := Int) (σ := Int) (S.numsG g) (fun i s => ((S.canonG g : List DNode × List DVal).2, S.numsG g, (S.canonG g : List DNode × List DVal).1, i, s)) (fun i s => s = Int.ofNat (((List.range i).map Int.ofNat).filter fun k => decide (k ∈ S.ord g)).length) (fun x => x = some (true, ())) (by rw [hlen]; unfold LF; omega) (fun K s hs => ?_) (fun K i v rest s hs r hk => ?_) (Int.ofNat 0) rfl
  · simp only [R_l_PackRenumbers_20, ilt_self, cond_false]
    refine ren_roots hg xs s _ ?_
    rw [hs, hlen, count_ord ho.nodup ho.lt, canon_len]
  · have hi : i < g.1.length := by rw [← hlen]; exact r.lt
    have hv := hat r.get?
    unfold S.numOr at hv
    rw [numAt_tab] at hv
    have hstep : ((List.range (i + 1)).map Int.ofNat).filter (fun k => decide (k ∈ S.ord g)) = ((List.range i).map Int.ofNat).filter (fun k => decide (k ∈ S.ord g)) ++ (if Int.ofNat i ∈ S.ord g then [Int.ofNat i] else []) := by
      rw [List.range_succ, List.map_append, List.filter_append]
      congr 1
      by_cases hm : Int.ofNat i ∈ S.ord g
      · rw [if_pos hm]; simp only [List.map_cons, List.map_nil, List.filter_cons, List.filter_nil, hm, decide_true, if_true]
      · rw [if_neg hm]; simp only [List.map_cons, List.map_nil, List.filter_cons, List.filter_nil, hm, decide_false, Bool.false_eq_true, if_false]
    by_cases hm : Int.ofNat i ∈ S.ord g
    · rw [if_pos hm] at hv hstep
      have hv : v = S.piO (S.ord g) (Int.ofNat i) := hv
      obtain ⟨b1, b2⟩ := piO_lt hm
      rw [← hv] at b1 b2
      have c1 : iltI v (Int.negSucc 0) = false := by rw [iltI_eq]; exact decide_eq_false (by show ¬ v < -1; omega)
      have c2 : iltI v (Int.ofNat (List.length (S.canonG g : List DNode × List DVal).1)) = true := by rw [iltI_eq, canon_len]; exact decide_eq_true b2
      have c3 : iltI v (Int.ofNat 0) = false := by rw [iltI_eq]; exact decide_eq_false (Int.not_lt.2 b1)
      have hix := List.idxOf_lt_length_of_mem hm
      have hgi : jget g.1 (Int.ofNat i) = some (g.1[i]'hi) := by rw [jget_nat]; exact List.getElem?_eq_getElem hi
      have c4 : jget (S.canonG g : List DNode × List DVal).1 v = some (S.newNode g.1 (S.tab (S.ord g)) (Int.ofNat i)) := by
        rw [hv]
        show jget ((S.ord g).map (S.newNode g.1 (S.tab (S.ord g)))) (Int.ofNat ((S.ord g).idxOf (Int.ofNat i))) = _
        rw [jget_nat, List.getElem?_map, List.getElem?_eq_getElem hix, List.getElem_idxOf hix]; rfl
      have c5 : keqS (S.newNode g.1 (S.tab (S.ord g)) (Int.ofNat i) : ByteArray × List DVal).1 (g.1[i]'hi : ByteArray × List DVal).1 = true := by
        unfold S.newNode S.nodeAt
        rw [hgi]
        exact decide_eq_true rfl
      simp only [R_l_PackRenumbers_20, r.ilt, cond_true, r.get, c1, c2, c3, c4, hgi, c5, Bool.not_true, Bool.not_false, cond_false, r.next]
      refine hk _ ?_
      have hl : (((List.range i).map Int.ofNat).filter fun k => decide (k ∈ S.ord g)).length < LF - 1 := by
        have := List.length_filter_le (fun k => decide (k ∈ S.ord g)) ((List.range i).map Int.ofNat)
        rw [List.length_map, List.length_range] at this
        unfold LF; omega
      rw [hs, hstep, List.length_append]
      exact wrap_succ (by omega)
    · rw [if_neg hm] at hv hstep
      have hv : v = -1 := hv
      have c1 : iltI v (Int.negSucc 0) = false := by rw [iltI_eq, hv]; rfl
      have c2 : iltI v (Int.ofNat (List.length (S.canonG g : List DNode × List DVal).1)) = true := by rw [iltI_eq, hv]; exact decide_eq_true (by have := Int.natCast_nonneg (List.length (S.canonG g : List DNode × List DVal).1); show (-1 : Int) < (List.length (S.canonG g : List DNode × List DVal).1 : Int); omega)
      have c3 : iltI v (Int.ofNat 0) = true := by rw [iltI_eq, hv]; rfl
      simp only [R_l_PackRenumbers_20, r.ilt, cond_true, r.get, c1, c2, c3, Bool.not_true, cond_false, r.next]
      refine hk _ ?_
      rw [hs, hstep, List.append_nil]
theorem ren_same : G_l_PackRenumbers_13 LF g xs LF ((S.canonG g : List DNode × List DVal).2, S.numsG (S.canonG g), S.numsG g, (S.canonG g : List DNode × List DVal).1, Int.ofNat 0) = some (true, ()) := by
  have hn := canon_nums hg
  have hlen : (S.numsG (S.canonG g)).length = (S.ord g).length := by rw [hn, List.length_map, List.length_range]
  have h4 := (ord_closed (gf_of hg)).1.len
  have h5 := (gf_of hg).nodes
  refine range_p (α := Int) (σ := Unit) (S.numsG (S.canonG g)) (fun i _ => ((S.canonG g : List DNode × List DVal).2, S.numsG (S.canonG g), S.numsG g, (S.canonG g : List DNode × List DVal).1, i)) (fun _ _ => True) (fun x => x = some (true, ())) (by rw [hlen]; unfold LF; omega) (fun K s hs => ?_) (fun K i v rest s hs r hk => ?_) () trivial
  · simp only [R_l_PackRenumbers_13, ilt_self, cond_false]
    exact ren_nums hg xs
  · have hv : v = Int.ofNat i := by
      have := r.get?
      rw [hn, List.getElem?_map, List.getElem?_range (by rw [← hlen]; exact r.lt)] at this
      exact (Option.some.inj this).symm
    have c1 : ieqI v (Int.ofNat i) = true := by rw [ieqI_eq, hv]; exact decide_eq_true rfl
    simp only [R_l_PackRenumbers_13, r.ilt, cond_true, r.get, c1, Bool.not_true, cond_false, r.next]
    exact hk () trivial
end
theorem F_l_PackRenumbers_eq (g : List DNode × List DVal) (picks : List Int) (hp : ∀ p ∈ picks, 0 ≤ p ∧ p < 256) (hpl : picks.length < LF) : F_l_PackRenumbers LF g picks = some (true, ()) := by
  simp only [F_l_PackRenumbers, R_l_PackRenumbers_in, Prod.eta]
  refine cond_true_or9 (cond_true_or9 ?_)
  by_cases hg : S.formed g = 0
  case neg =>
    have hz : ieqI (S.formed g) (Int.ofNat 0) = false := by rw [ieqI_eq]; exact decide_eq_false hg
    simp only [canonO_bad hg, hz, Bool.not_false, cond_true]
  have hn := (gf_of hg).nodes
  obtain ⟨o, o1, o2⟩ := order_ok g.1.length picks (by omega) hp hpl
  obtain ⟨h, h1, h2⟩ := turned_ok hg o2
  have hr := ren_turned o2 h2
  have hf := turned_formed hg o2 h2
  have hc := canonO_of hg
  have hc2 := canonO_of hf
  have hc3 := canonO_of (canon_formed2 hg)
  rw [canonG_map hr (gf_of hg)] at hc2
  rw [canon_idem hg] at hc3
  have hs := same_ren hr hg hf
  have b0 : ieqI 0 (Int.ofNat 0) = true := by rw [ieqI_eq]; rfl
  have b1 : S.sameGraphs (S.canonG g) (S.canonG g) = true := decide_eq_true rfl
  have b2 : ieqI (Int.ofNat (List.length (S.numsG g))) (Int.ofNat (List.length (α := DNode) g.1)) = true := by
    rw [ieqI_eq]
    unfold S.numsG
    rw [List.length_map, List.length_range]; exact decide_eq_true rfl
  have b3 : ieqI (Int.ofNat (List.length (α := DVal) (S.canonG g : List DNode × List DVal).2)) (Int.ofNat (List.length (α := DVal) g.2)) = true := by
    rw [ieqI_eq, canon_roots (gf_of hg), List.length_map]; exact decide_eq_true rfl
  simp only [hc, o1, h1, hc2, hc3, hs, b0, Bool.not_true, cond_false]
  have e1 : (((S.canonG g : List DNode × List DVal).1, (S.canonG g : List DNode × List DVal).2) : List DNode × List DVal) = S.canonG g := rfl
  simp only [e1, hc3, b0, b1, b2, b3, Bool.not_true, cond_false]
  exact ren_same hg picks
theorem u8_lt {p : Int} (h : IntKind.u8.wrap p = p) : 0 ≤ p ∧ p < 256 := by
  have e : IntKind.u8.wrap p = p % 256 := rfl
  rw [e] at h
  omega
theorem con_l_PackRenumbers (hs : Con Try.prog 15 sp_l_sanity) : Con Try.prog id_l_PackRenumbers ⟨[cGraph, .list (.int .u8)], [(false, .bool)], fun _ => some (true, ())⟩ := mk_l_PackRenumbers ⟨con_l_few, hs, con_p_Canon, con_l_turned, con_l_order, con_p_Same, con_r_SameGraphs, trivial⟩ fun x y hx h => ⟨LF, by
  obtain ⟨g, picks, _⟩ := x
  obtain ⟨_, hx2, _⟩ := hx
  exact (F_l_PackRenumbers_eq g picks (fun p hp => by
    have hw : WfE (.int .u8) p := hx2.2 p hp
    exact u8_lt hw) (wf_len hx2)).trans h⟩
end Go.Proofs.Ytcnhjofpmpipfaa
end

/- PackRenumbers' contract. -/
section
set_option linter.unusedVariables false
namespace Go.Proofs.Ytcnhjofpmpipfaa
open Go Go.Sx Go.RowKit Go.Jx
theorem con_PackRenumbers : Con Try.prog id_l_PackRenumbers ⟨[cGraph, .list (.int .u8)], [(false, .bool)], fun _ => some (true, ())⟩ := con_l_PackRenumbers con_l_sanity
end Go.Proofs.Ytcnhjofpmpipfaa
end
