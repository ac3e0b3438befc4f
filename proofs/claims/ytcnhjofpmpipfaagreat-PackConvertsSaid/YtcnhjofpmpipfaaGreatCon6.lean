/- Texts: Rg5, Rp9, Rp10, Rp11, Rsn2. -/
import Derived.Test.YtcnhjofpmpipfaaGreatCon5
/- Made by program: plain forms of functions. -/
section
set_option linter.unusedVariables false
set_option maxRecDepth 100000
noncomputable section
namespace Go.Proofs.YtcnhjofpmpipfaaGreat
open Go Go.Sx Go.RowKit Go.Jx
def nm_r_SameVals : Nat → Option Nm := fun k => cond (Nat.beq k 4) (some ⟨[0, 1, 5], [], [], [], [], 0, 0, false⟩) (none)
def st_r_SameVals : Nat → Bool := fun k => cond (Nat.beq k 4) true (false)
def hd_r_SameVals : Nat → Bool := fun k => cond (Nat.beq k 4) true (false)
abbrev Rt_r_SameVals : Type := Bool × Unit
def sml_r_SameVals : List (Nat × Sm) := []
def hxl_r_SameVals : List (Nat × Hx) := []
def cl_r_SameVals (R : Type) (lf : Nat) : ClK R := icallK Tryz.prog ttT.get ftT.get (nm1 43 nm_r_SameVals) (smL sml_r_SameVals) (hxL hxl_r_SameVals) lf 20 R
abbrev id_r_SameVals : Nat := 43
def enc_r_SameVals_4 (x1 : (List DVal)) (x2 : (List DVal)) (p : Int) : NRes := (NRes.mk (PT.node (some (IV.lst cVal x1)) (PT.node (some (IV.lst cVal x2)) PT.leaf (PT.node (some (IV.int Go.IntKind.i64 p)) PT.leaf PT.leaf)) PT.leaf) (IS.mk PT.leaf 0) [] 0)
def R_r_SameVals_in (lf : Nat) (x1 : (List DVal)) (x2 : (List DVal)) (L4 : Int → Option Rt_r_SameVals) : Option Rt_r_SameVals := (cond (Bool.not (ieqI (Int.ofNat (List.length x1)) (Int.ofNat (List.length x2)))) (some (Bool.false, ())) (L4 (Int.ofNat 0)))
def R_r_SameVals_4 (lf : Nat) (x1 : (List DVal)) (x2 : (List DVal)) (L4 : Int → Option Rt_r_SameVals) (p : Int) : Option Rt_r_SameVals := (cond (iltI p (Int.ofNat (List.length x1))) (match (jget x1 p) with | .none  => none | .some v0 => (match (jget x2 p) with | .none  => none | .some v1 => (cond (Bool.not (Bool.and (keqI v0.1 v1.1) (Bool.and (keqI v0.2 v1.2) Bool.true))) (some (Bool.false, ())) (L4 (Go.IntKind.wrap Go.IntKind.i64 (Int.add p (Int.ofNat 1))))))) (some (Bool.true, ())))
theorem in_r_SameVals (g : ElA [(.list cVal), (.list cVal)] → Option Rt_r_SameVals) (J : Nat → List Nat → NRes → Option Rt_r_SameVals) (lf : Nat) (x1 : (List DVal)) (x2 : (List DVal)) : icodeT Tryz.prog ttT.get nm_r_SameVals fi43.nt (cl_r_SameVals _ lf) lf st_r_SameVals J fi43.body [] (argGo (argV [(.list cVal), (.list cVal)] (x1, x2, ())) 0 .leaf) S0 [] (lastK ttT.get fi43 ⟨[(.list cVal), (.list cVal)], [(false, .bool)], g⟩) = R_r_SameVals_in lf x1 x2 (fun q => J 4 [lf] (enc_r_SameVals_4 x1 x2 q)) := by kernel_rfl
theorem st_r_SameVals_4 (g : ElA [(.list cVal), (.list cVal)] → Option Rt_r_SameVals) (J : Nat → List Nat → NRes → Option Rt_r_SameVals) (lf : Nat) (x1 : (List DVal)) (x2 : (List DVal)) (m1 : Nat) (p : Int) : icodeFT Tryz.prog ttT.get nm_r_SameVals fi43.nt (cl_r_SameVals _ lf) lf st_r_SameVals J 4 fi43.body [] [m1] (enc_r_SameVals_4 x1 x2 p) (lastK ttT.get fi43 ⟨[(.list cVal), (.list cVal)], [(false, .bool)], g⟩) = R_r_SameVals_4 lf x1 x2 (fun q => J 4 [m1] (enc_r_SameVals_4 x1 x2 q)) p := by kernel_rfl
theorem nd_r_SameVals : (regs fi43.body).Nodup := by decide +kernel
theorem ok_r_SameVals : okC nm_r_SameVals st_r_SameVals hd_r_SameVals fi43.body none = true := by kernel_rfl
def A_r_SameVals (g : ElA [(.list cVal), (.list cVal)] → Option Rt_r_SameVals) (lf : Nat) : Nat → List Nat → NRes → Option Rt_r_SameVals := atN Tryz.prog ttT.get nm_r_SameVals fi43 ⟨[(.list cVal), (.list cVal)], [(false, .bool)], g⟩ (cl_r_SameVals _ lf) lf hd_r_SameVals
def G_r_SameVals_4 (lf : Nat) (x1 : (List DVal)) (x2 : (List DVal)) : Nat → (Int) → Option Rt_r_SameVals := rounds fun K p => R_r_SameVals_4 lf x1 x2 K p
theorem at_r_SameVals_4 (g : ElA [(.list cVal), (.list cVal)] → Option Rt_r_SameVals) (lf : Nat) (x1 : (List DVal)) (x2 : (List DVal)) : ∀ (n : Nat) (p : Int), A_r_SameVals g lf 4 [n] (enc_r_SameVals_4 x1 x2 p) = G_r_SameVals_4 lf x1 x2 n p
  | 0, p => atN_zero 4 [0] rfl _
  | n + 1, p => by
    have ih := at_r_SameVals_4 g lf x1 x2 n
    refine (atN_eq (icallK_eq 20 _) nd_r_SameVals ok_r_SameVals 4 [n + 1] [n] rfl _).trans ((st_r_SameVals_4 g (A_r_SameVals g lf) lf x1 x2 n p).trans ?_)
    rw [(show (fun q => A_r_SameVals g lf 4 [n] (enc_r_SameVals_4 x1 x2 q)) = (fun q => G_r_SameVals_4 lf x1 x2 n q) from funext ih)]
    rfl
def F_r_SameVals (lf : Nat) (x1 : (List DVal)) (x2 : (List DVal)) : Option Rt_r_SameVals := R_r_SameVals_in lf x1 x2 (fun q => G_r_SameVals_4 lf x1 x2 lf q)
theorem run_r_SameVals (g : ElA [(.list cVal), (.list cVal)] → Option Rt_r_SameVals) (lf : Nat) (x1 : (List DVal)) (x2 : (List DVal)) : icodeT Tryz.prog ttT.get nm_r_SameVals fi43.nt (cl_r_SameVals _ lf) lf st_r_SameVals (A_r_SameVals g lf) fi43.body [] (argGo (argV [(.list cVal), (.list cVal)] (x1, x2, ())) 0 .leaf) S0 [] (lastK ttT.get fi43 ⟨[(.list cVal), (.list cVal)], [(false, .bool)], g⟩) = F_r_SameVals lf x1 x2 := by
    refine (in_r_SameVals g (A_r_SameVals g lf) lf x1 x2).trans ?_
    rw [(show (fun q => A_r_SameVals g lf 4 [lf] (enc_r_SameVals_4 x1 x2 q)) = (fun q => G_r_SameVals_4 lf x1 x2 lf q) from funext fun q => at_r_SameVals_4 g lf x1 x2 lf q)]
    rfl
theorem hxs_r_SameVals : HxsOK Tryz.prog hxl_r_SameVals := trivial
theorem mk_r_SameVals {g : ElA [(.list cVal), (.list cVal)] → Option Rt_r_SameVals} (hsm : SmOK Tryz.prog sml_r_SameVals) (hg : ∀ (x : ElA [(.list cVal), (.list cVal)]) (y : Rt_r_SameVals), WfA [(.list cVal), (.list cVal)] x → g x = some y → ∃ lf, F_r_SameVals lf x.1 x.2.1 = some y) : Con Tryz.prog 43 ⟨[(.list cVal), (.list cVal)], [(false, .bool)], g⟩ :=
  conT (nmf := nm_r_SameVals) (sml := sml_r_SameVals) (hxl := hxl_r_SameVals) (st := st_r_SameVals) (hd := hd_r_SameVals) 20 mixed ttOK ftOK hsm hxs_r_SameVals cal43 rfl rfl (by kernel_rfl) (fun x => by kernel_rfl) nd_r_SameVals ok_r_SameVals fun x y hx hy => by
    obtain ⟨lf, h⟩ := hg x y hx hy
    exact ⟨lf, (run_r_SameVals g lf x.1 x.2.1).trans h⟩
def nm_r_SameGraphs : Nat → Option Nm := fun k => cond (Nat.beq k 5) (some ⟨[2, 3, 6], [], [], [], [], 0, 0, false⟩) (none)
def st_r_SameGraphs : Nat → Bool := fun k => cond (Nat.beq k 5) true (false)
def hd_r_SameGraphs : Nat → Bool := fun k => cond (Nat.beq k 5) true (false)
abbrev Rt_r_SameGraphs : Type := Bool × Unit
def sml_r_SameGraphs : List (Nat × Sm) := [(43, sp_r_SameVals)]
def hxl_r_SameGraphs : List (Nat × Hx) := []
def cl_r_SameGraphs (R : Type) (lf : Nat) : ClK R := icallK Tryz.prog ttT.get ftT.get (nm1 13 nm_r_SameGraphs) (smL sml_r_SameGraphs) (hxL hxl_r_SameGraphs) lf 20 R
abbrev id_r_SameGraphs : Nat := 13
def enc_r_SameGraphs_5 (x1 : DGraph) (x2 : DGraph) (p : Int) : NRes := (NRes.mk (PT.node none (PT.node none (PT.node (some (IV.ptr 1 0)) PT.leaf PT.leaf) PT.leaf) (PT.node (some (IV.ptr 0 0)) PT.leaf (PT.node (some (IV.int Go.IntKind.i64 p)) PT.leaf PT.leaf))) (IS.mk (PT.node (some (IObj.row (List.cons (IV.lst cNode x1.1) (List.cons (IV.lst cVal x1.2) [])))) (PT.node (some (IObj.row (List.cons (IV.lst cNode x2.1) (List.cons (IV.lst cVal x2.2) [])))) PT.leaf PT.leaf) PT.leaf) 2) [] 0)
def R_r_SameGraphs_in (lf : Nat) (x1 : DGraph) (x2 : DGraph) (L5 : Int → Option Rt_r_SameGraphs) : Option Rt_r_SameGraphs := (cond (Bool.not (Go.Proofs.YtcnhjofpmpipfaaGreat.S.sameVals x1.2 x2.2)) (some (Bool.false, ())) (cond (Bool.not (ieqI (Int.ofNat (List.length x1.1)) (Int.ofNat (List.length x2.1)))) (some (Bool.false, ())) (L5 (Int.ofNat 0))))
def R_r_SameGraphs_5 (lf : Nat) (x1 : DGraph) (x2 : DGraph) (L5 : Int → Option Rt_r_SameGraphs) (p : Int) : Option Rt_r_SameGraphs := (cond (iltI p (Int.ofNat (List.length x1.1))) (match (jget x1.1 p) with | .none  => none | .some v0 => (match (jget x2.1 p) with | .none  => none | .some v1 => (cond (Bool.not (Go.Proofs.YtcnhjofpmpipfaaGreat.S.sameVals v0.2 v1.2)) (some (Bool.false, ())) (match (jget x1.1 p) with | .none  => none | .some v2 => (match (jget x2.1 p) with | .none  => none | .some v3 => (cond (Bool.not (keqS v2.1 v3.1)) (some (Bool.false, ())) (L5 (Go.IntKind.wrap Go.IntKind.i64 (Int.add p (Int.ofNat 1)))))))))) (some (Bool.true, ())))
theorem in_r_SameGraphs (g : ElA [cGraph, cGraph] → Option Rt_r_SameGraphs) (J : Nat → List Nat → NRes → Option Rt_r_SameGraphs) (lf : Nat) (x1 : DGraph) (x2 : DGraph) : icodeT Tryz.prog ttT.get nm_r_SameGraphs fi13.nt (cl_r_SameGraphs _ lf) lf st_r_SameGraphs J fi13.body [] (argGo (argV [cGraph, cGraph] (x1, x2, ())) 0 .leaf) S0 [] (lastK ttT.get fi13 ⟨[cGraph, cGraph], [(false, .bool)], g⟩) = R_r_SameGraphs_in lf x1 x2 (fun q => J 5 [lf] (enc_r_SameGraphs_5 x1 x2 q)) := by kernel_rfl
theorem st_r_SameGraphs_5 (g : ElA [cGraph, cGraph] → Option Rt_r_SameGraphs) (J : Nat → List Nat → NRes → Option Rt_r_SameGraphs) (lf : Nat) (x1 : DGraph) (x2 : DGraph) (m1 : Nat) (p : Int) : icodeFT Tryz.prog ttT.get nm_r_SameGraphs fi13.nt (cl_r_SameGraphs _ lf) lf st_r_SameGraphs J 5 fi13.body [] [m1] (enc_r_SameGraphs_5 x1 x2 p) (lastK ttT.get fi13 ⟨[cGraph, cGraph], [(false, .bool)], g⟩) = R_r_SameGraphs_5 lf x1 x2 (fun q => J 5 [m1] (enc_r_SameGraphs_5 x1 x2 q)) p := by kernel_rfl
theorem nd_r_SameGraphs : (regs fi13.body).Nodup := by decide +kernel
theorem ok_r_SameGraphs : okC nm_r_SameGraphs st_r_SameGraphs hd_r_SameGraphs fi13.body none = true := by kernel_rfl
def A_r_SameGraphs (g : ElA [cGraph, cGraph] → Option Rt_r_SameGraphs) (lf : Nat) : Nat → List Nat → NRes → Option Rt_r_SameGraphs := atN Tryz.prog ttT.get nm_r_SameGraphs fi13 ⟨[cGraph, cGraph], [(false, .bool)], g⟩ (cl_r_SameGraphs _ lf) lf hd_r_SameGraphs
def G_r_SameGraphs_5 (lf : Nat) (x1 : DGraph) (x2 : DGraph) : Nat → (Int) → Option Rt_r_SameGraphs := rounds fun K p => R_r_SameGraphs_5 lf x1 x2 K p
theorem at_r_SameGraphs_5 (g : ElA [cGraph, cGraph] → Option Rt_r_SameGraphs) (lf : Nat) (x1 : DGraph) (x2 : DGraph) : ∀ (n : Nat) (p : Int), A_r_SameGraphs g lf 5 [n] (enc_r_SameGraphs_5 x1 x2 p) = G_r_SameGraphs_5 lf x1 x2 n p
  | 0, p => atN_zero 5 [0] rfl _
  | n + 1, p => by
    have ih := at_r_SameGraphs_5 g lf x1 x2 n
    refine (atN_eq (icallK_eq 20 _) nd_r_SameGraphs ok_r_SameGraphs 5 [n + 1] [n] rfl _).trans ((st_r_SameGraphs_5 g (A_r_SameGraphs g lf) lf x1 x2 n p).trans ?_)
    rw [(show (fun q => A_r_SameGraphs g lf 5 [n] (enc_r_SameGraphs_5 x1 x2 q)) = (fun q => G_r_SameGraphs_5 lf x1 x2 n q) from funext ih)]
    rfl
def F_r_SameGraphs (lf : Nat) (x1 : DGraph) (x2 : DGraph) : Option Rt_r_SameGraphs := R_r_SameGraphs_in lf x1 x2 (fun q => G_r_SameGraphs_5 lf x1 x2 lf q)
theorem run_r_SameGraphs (g : ElA [cGraph, cGraph] → Option Rt_r_SameGraphs) (lf : Nat) (x1 : DGraph) (x2 : DGraph) : icodeT Tryz.prog ttT.get nm_r_SameGraphs fi13.nt (cl_r_SameGraphs _ lf) lf st_r_SameGraphs (A_r_SameGraphs g lf) fi13.body [] (argGo (argV [cGraph, cGraph] (x1, x2, ())) 0 .leaf) S0 [] (lastK ttT.get fi13 ⟨[cGraph, cGraph], [(false, .bool)], g⟩) = F_r_SameGraphs lf x1 x2 := by
    refine (in_r_SameGraphs g (A_r_SameGraphs g lf) lf x1 x2).trans ?_
    rw [(show (fun q => A_r_SameGraphs g lf 5 [lf] (enc_r_SameGraphs_5 x1 x2 q)) = (fun q => G_r_SameGraphs_5 lf x1 x2 lf q) from funext fun q => at_r_SameGraphs_5 g lf x1 x2 lf q)]
    rfl
theorem hxs_r_SameGraphs : HxsOK Tryz.prog hxl_r_SameGraphs := trivial
theorem mk_r_SameGraphs {g : ElA [cGraph, cGraph] → Option Rt_r_SameGraphs} (hsm : SmOK Tryz.prog sml_r_SameGraphs) (hg : ∀ (x : ElA [cGraph, cGraph]) (y : Rt_r_SameGraphs), WfA [cGraph, cGraph] x → g x = some y → ∃ lf, F_r_SameGraphs lf x.1 x.2.1 = some y) : Con Tryz.prog 13 ⟨[cGraph, cGraph], [(false, .bool)], g⟩ :=
  conT (nmf := nm_r_SameGraphs) (sml := sml_r_SameGraphs) (hxl := hxl_r_SameGraphs) (st := st_r_SameGraphs) (hd := hd_r_SameGraphs) 20 mixed ttOK ftOK hsm hxs_r_SameGraphs cal13 rfl rfl (by kernel_rfl) (fun x => by kernel_rfl) nd_r_SameGraphs ok_r_SameGraphs fun x y hx hy => by
    obtain ⟨lf, h⟩ := hg x y hx hy
    exact ⟨lf, (run_r_SameGraphs g lf x.1 x.2.1).trans h⟩
def nm_l_fewForms : Nat → Option Nm := fun k => cond (Nat.beq k 2) (some ⟨[0, 3], [], [], [], [], 0, 0, false⟩) (cond (Nat.beq k 8) (some ⟨[0, 3, 4, 5], [], [], [], [], 0, 0, false⟩) (none))
def st_l_fewForms : Nat → Bool := fun k => cond (Nat.beq k 2) true (cond (Nat.beq k 8) true (false))
def hd_l_fewForms : Nat → Bool := fun k => cond (Nat.beq k 2) true (cond (Nat.beq k 8) true (false))
abbrev Rt_l_fewForms : Type := Bool × Unit
def sml_l_fewForms : List (Nat × Sm) := []
def hxl_l_fewForms : List (Nat × Hx) := []
def cl_l_fewForms (R : Type) (lf : Nat) : ClK R := icallK Tryz.prog ttT.get ftT.get (nm1 7 nm_l_fewForms) (smL sml_l_fewForms) (hxL hxl_l_fewForms) lf 20 R
abbrev id_l_fewForms : Nat := 7
def enc_l_fewForms_2 (x1 : (List DForm)) (p : Int) : NRes := (NRes.mk (PT.node (some (IV.lst cForm x1)) (PT.node none (PT.node (some (IV.int Go.IntKind.i64 p)) PT.leaf PT.leaf) PT.leaf) PT.leaf) (IS.mk PT.leaf 0) [] 0)
def enc_l_fewForms_8 (x1 : (List DForm)) (p : Int × Int × Int) : NRes := (NRes.mk (PT.node (some (IV.lst cForm x1)) (PT.node none (PT.node (some (IV.int Go.IntKind.i64 p.2.2)) PT.leaf PT.leaf) (PT.node (some (IV.int Go.IntKind.i64 p.2.1)) PT.leaf PT.leaf)) (PT.node none (PT.node (some (IV.int Go.IntKind.i64 p.1)) PT.leaf PT.leaf) PT.leaf)) (IS.mk PT.leaf 0) [] 0)
def R_l_fewForms_in (lf : Nat) (x1 : (List DForm)) (L2 : Int → Option Rt_l_fewForms) : Option Rt_l_fewForms := (L2 (Int.ofNat 0))
def R_l_fewForms_2 (lf : Nat) (x1 : (List DForm)) (L8 : (Int × Int × Int) → Option Rt_l_fewForms) (p : Int) : Option Rt_l_fewForms := (cond (iltI p (Int.ofNat (List.length x1))) (match (jget x1 p) with | .none  => none | .some v0 => (match (jget x1 p) with | .none  => none | .some v1 => (cond (iltI (Int.ofNat 30) (Int.ofNat (ByteArray.size v1.1))) (some (Bool.false, ())) (cond (iltI (Int.ofNat 6) (Int.ofNat (List.length v0.2))) (cond (Bool.not (iltI (Int.ofNat 30) (Int.ofNat (List.length v0.2)))) (some (Bool.false, ())) (cond (iltI (Int.ofNat 40) (Int.ofNat (List.length v0.2))) (some (Bool.false, ())) (L8 ((Int.ofNat (List.length v0.2)), (Int.ofNat 0), p)))) (cond (iltI (Int.ofNat 40) (Int.ofNat (List.length v0.2))) (some (Bool.false, ())) (L8 ((Int.ofNat (List.length v0.2)), (Int.ofNat 0), p))))))) (cond (Bool.not (iltI (Int.ofNat 6) (Int.ofNat (List.length x1)))) (some (Bool.true, ())) (cond (iltI (Int.ofNat 24) (Int.ofNat (List.length x1))) (some ((Bool.not (iltI (Int.ofNat 30) (Int.ofNat (List.length x1)))), ())) (some (Bool.false, ())))))
def R_l_fewForms_8 (lf : Nat) (x1 : (List DForm)) (L8 : (Int × Int × Int) → Option Rt_l_fewForms) (L2 : Int → Option Rt_l_fewForms) (p : Int × Int × Int) : Option Rt_l_fewForms := (cond (iltI p.2.1 p.1) (match (jget x1 p.2.2) with | .none  => none | .some v0 => (match (jget v0.2 p.2.1) with | .none  => none | .some v1 => (cond (iltI (Int.ofNat 30) (Int.ofNat (ByteArray.size v1.1))) (some (Bool.false, ())) (match (jget x1 p.2.2) with | .none  => none | .some v2 => (match (jget v2.2 p.2.1) with | .none  => none | .some v3 => (cond (iltI (Int.ofNat 30) (Int.ofNat (ByteArray.size v3.2.2))) (some (Bool.false, ())) (L8 (p.1, (Go.IntKind.wrap Go.IntKind.i64 (Int.add p.2.1 (Int.ofNat 1))), p.2.2)))))))) (L2 (Go.IntKind.wrap Go.IntKind.i64 (Int.add p.2.2 (Int.ofNat 1)))))
theorem in_l_fewForms (g : ElA [(.list cForm)] → Option Rt_l_fewForms) (J : Nat → List Nat → NRes → Option Rt_l_fewForms) (lf : Nat) (x1 : (List DForm)) : icodeT Tryz.prog ttT.get nm_l_fewForms fi7.nt (cl_l_fewForms _ lf) lf st_l_fewForms J fi7.body [] (argGo (argV [(.list cForm)] (x1, ())) 0 .leaf) S0 [] (lastK ttT.get fi7 ⟨[(.list cForm)], [(false, .bool)], g⟩) = R_l_fewForms_in lf x1 (fun q => J 2 [lf] (enc_l_fewForms_2 x1 q)) := by kernel_rfl
theorem st_l_fewForms_2 (g : ElA [(.list cForm)] → Option Rt_l_fewForms) (J : Nat → List Nat → NRes → Option Rt_l_fewForms) (lf : Nat) (x1 : (List DForm)) (m1 : Nat) (p : Int) : icodeFT Tryz.prog ttT.get nm_l_fewForms fi7.nt (cl_l_fewForms _ lf) lf st_l_fewForms J 2 fi7.body [] [m1] (enc_l_fewForms_2 x1 p) (lastK ttT.get fi7 ⟨[(.list cForm)], [(false, .bool)], g⟩) = R_l_fewForms_2 lf x1 (fun q => J 8 [m1, lf] (enc_l_fewForms_8 x1 q)) p := by kernel_rfl
theorem st_l_fewForms_8 (g : ElA [(.list cForm)] → Option Rt_l_fewForms) (J : Nat → List Nat → NRes → Option Rt_l_fewForms) (lf : Nat) (x1 : (List DForm)) (m1 : Nat) (m2 : Nat) (p : Int × Int × Int) : icodeFT Tryz.prog ttT.get nm_l_fewForms fi7.nt (cl_l_fewForms _ lf) lf st_l_fewForms J 8 fi7.body [] [m1, m2] (enc_l_fewForms_8 x1 p) (lastK ttT.get fi7 ⟨[(.list cForm)], [(false, .bool)], g⟩) = R_l_fewForms_8 lf x1 (fun q => J 8 [m1, m2] (enc_l_fewForms_8 x1 q)) (fun q => J 2 [m1] (enc_l_fewForms_2 x1 q)) p := by kernel_rfl
theorem nd_l_fewForms : (regs fi7.body).Nodup := by decide +kernel
theorem ok_l_fewForms : okC nm_l_fewForms st_l_fewForms hd_l_fewForms fi7.body none = true := by kernel_rfl
def A_l_fewForms (g : ElA [(.list cForm)] → Option Rt_l_fewForms) (lf : Nat) : Nat → List Nat → NRes → Option Rt_l_fewForms := atN Tryz.prog ttT.get nm_l_fewForms fi7 ⟨[(.list cForm)], [(false, .bool)], g⟩ (cl_l_fewForms _ lf) lf hd_l_fewForms
def G_l_fewForms_8 (lf : Nat) (x1 : (List DForm)) (K2 : Int → Option Rt_l_fewForms) : Nat → (Int × Int × Int) → Option Rt_l_fewForms := rounds fun K p => R_l_fewForms_8 lf x1 K K2 p
theorem at_l_fewForms_8 (g : ElA [(.list cForm)] → Option Rt_l_fewForms) (lf : Nat) (x1 : (List DForm)) (m1 : Nat) : ∀ (n : Nat) (p : Int × Int × Int), A_l_fewForms g lf 8 [m1, n] (enc_l_fewForms_8 x1 p) = G_l_fewForms_8 lf x1 (fun q => A_l_fewForms g lf 2 [m1] (enc_l_fewForms_2 x1 q)) n p
  | 0, p => atN_zero 8 [m1, 0] rfl _
  | n + 1, p => by
    have ih := at_l_fewForms_8 g lf x1 m1 n
    refine (atN_eq (icallK_eq 20 _) nd_l_fewForms ok_l_fewForms 8 [m1, n + 1] [m1, n] rfl _).trans ((st_l_fewForms_8 g (A_l_fewForms g lf) lf x1 m1 n p).trans ?_)
    rw [(show (fun q => A_l_fewForms g lf 8 [m1, n] (enc_l_fewForms_8 x1 q)) = (fun q => G_l_fewForms_8 lf x1 (fun q => A_l_fewForms g lf 2 [m1] (enc_l_fewForms_2 x1 q)) n q) from funext ih)]
    rfl
def G_l_fewForms_2 (lf : Nat) (x1 : (List DForm)) : Nat → (Int) → Option Rt_l_fewForms := rounds fun K p => R_l_fewForms_2 lf x1 (fun q => G_l_fewForms_8 lf x1 K lf q) p
theorem at_l_fewForms_2 (g : ElA [(.list cForm)] → Option Rt_l_fewForms) (lf : Nat) (x1 : (List DForm)) : ∀ (n : Nat) (p : Int), A_l_fewForms g lf 2 [n] (enc_l_fewForms_2 x1 p) = G_l_fewForms_2 lf x1 n p
  | 0, p => atN_zero 2 [0] rfl _
  | n + 1, p => by
    have ih := at_l_fewForms_2 g lf x1 n
    refine (atN_eq (icallK_eq 20 _) nd_l_fewForms ok_l_fewForms 2 [n + 1] [n] rfl _).trans ((st_l_fewForms_2 g (A_l_fewForms g lf) lf x1 n p).trans ?_)
    rw [(show (fun q => A_l_fewForms g lf 8 [n, lf] (enc_l_fewForms_8 x1 q)) = (fun q => G_l_fewForms_8 lf x1 (fun q => A_l_fewForms g lf 2 [n] (enc_l_fewForms_2 x1 q)) lf q) from funext fun q => at_l_fewForms_8 g lf x1 n lf q), (show (fun q => A_l_fewForms g lf 2 [n] (enc_l_fewForms_2 x1 q)) = (fun q => G_l_fewForms_2 lf x1 n q) from funext ih)]
    rfl
def F_l_fewForms (lf : Nat) (x1 : (List DForm)) : Option Rt_l_fewForms := R_l_fewForms_in lf x1 (fun q => G_l_fewForms_2 lf x1 lf q)
theorem run_l_fewForms (g : ElA [(.list cForm)] → Option Rt_l_fewForms) (lf : Nat) (x1 : (List DForm)) : icodeT Tryz.prog ttT.get nm_l_fewForms fi7.nt (cl_l_fewForms _ lf) lf st_l_fewForms (A_l_fewForms g lf) fi7.body [] (argGo (argV [(.list cForm)] (x1, ())) 0 .leaf) S0 [] (lastK ttT.get fi7 ⟨[(.list cForm)], [(false, .bool)], g⟩) = F_l_fewForms lf x1 := by
    refine (in_l_fewForms g (A_l_fewForms g lf) lf x1).trans ?_
    rw [(show (fun q => A_l_fewForms g lf 2 [lf] (enc_l_fewForms_2 x1 q)) = (fun q => G_l_fewForms_2 lf x1 lf q) from funext fun q => at_l_fewForms_2 g lf x1 lf q)]
    rfl
theorem hxs_l_fewForms : HxsOK Tryz.prog hxl_l_fewForms := trivial
theorem mk_l_fewForms {g : ElA [(.list cForm)] → Option Rt_l_fewForms} (hsm : SmOK Tryz.prog sml_l_fewForms) (hg : ∀ (x : ElA [(.list cForm)]) (y : Rt_l_fewForms), WfA [(.list cForm)] x → g x = some y → ∃ lf, F_l_fewForms lf x.1 = some y) : Con Tryz.prog 7 ⟨[(.list cForm)], [(false, .bool)], g⟩ :=
  conT (nmf := nm_l_fewForms) (sml := sml_l_fewForms) (hxl := hxl_l_fewForms) (st := st_l_fewForms) (hd := hd_l_fewForms) 20 mixed ttOK ftOK hsm hxs_l_fewForms cal7 rfl rfl (by kernel_rfl) (fun x => by kernel_rfl) nd_l_fewForms ok_l_fewForms fun x y hx hy => by
    obtain ⟨lf, h⟩ := hg x y hx hy
    exact ⟨lf, (run_l_fewForms g lf x.1).trans h⟩
def nm_l_few : Nat → Option Nm := fun k => cond (Nat.beq k 3) (some ⟨[1, 3, 4], [], [], [], [], 0, 0, false⟩) (none)
def st_l_few : Nat → Bool := fun k => cond (Nat.beq k 3) true (false)
def hd_l_few : Nat → Bool := fun k => cond (Nat.beq k 3) true (false)
abbrev Rt_l_few : Type := Bool × Unit
def sml_l_few : List (Nat × Sm) := []
def hxl_l_few : List (Nat × Hx) := []
def cl_l_few (R : Type) (lf : Nat) : ClK R := icallK Tryz.prog ttT.get ftT.get (nm1 9 nm_l_few) (smL sml_l_few) (hxL hxl_l_few) lf 20 R
abbrev id_l_few : Nat := 9
def enc_l_few_3 (x1 : DGraph) (p : Int) : NRes := (NRes.mk (PT.node none (PT.node (some (IV.ptr 0 0)) (PT.node (some (IV.int Go.IntKind.i64 (Int.ofNat (List.length x1.1)))) PT.leaf PT.leaf) PT.leaf) (PT.node none (PT.node (some (IV.int Go.IntKind.i64 p)) PT.leaf PT.leaf) PT.leaf)) (IS.mk (PT.node (some (IObj.row (List.cons (IV.lst cNode x1.1) (List.cons (IV.lst cVal x1.2) [])))) PT.leaf PT.leaf) 1) [] 0)
def R_l_few_in (lf : Nat) (x1 : DGraph) (L3 : Int → Option Rt_l_few) : Option Rt_l_few := (L3 (Int.ofNat 0))
def R_l_few_3 (lf : Nat) (x1 : DGraph) (L3 : Int → Option Rt_l_few) (p : Int) : Option Rt_l_few := (cond (iltI p (Int.ofNat (List.length x1.1))) (match (jget x1.1 p) with | .none  => none | .some v0 => (cond (iltI (Int.ofNat 8) (Int.ofNat (List.length v0.2))) (cond (Bool.not (iltI (Int.ofNat 30) (Int.ofNat (List.length v0.2)))) (some (Bool.false, ())) (cond (iltI (Int.ofNat 40) (Int.ofNat (List.length v0.2))) (some (Bool.false, ())) (L3 (Go.IntKind.wrap Go.IntKind.i64 (Int.add p (Int.ofNat 1)))))) (cond (iltI (Int.ofNat 40) (Int.ofNat (List.length v0.2))) (some (Bool.false, ())) (L3 (Go.IntKind.wrap Go.IntKind.i64 (Int.add p (Int.ofNat 1))))))) (cond (Bool.not (iltI (Int.ofNat 30) (Int.ofNat (List.length x1.1)))) (cond (Bool.not (iltI (Int.ofNat 10) (Int.ofNat (List.length x1.2)))) (some (Bool.true, ())) (cond (iltI (Int.ofNat 60) (Int.ofNat (List.length x1.2))) (some ((Bool.not (iltI (Int.ofNat 70) (Int.ofNat (List.length x1.2)))), ())) (some (Bool.false, ())))) (cond (iltI (Int.ofNat 400) (Int.ofNat (List.length x1.1))) (cond (Bool.not (iltI (Int.ofNat 410) (Int.ofNat (List.length x1.1)))) (cond (Bool.not (iltI (Int.ofNat 10) (Int.ofNat (List.length x1.2)))) (some (Bool.true, ())) (cond (iltI (Int.ofNat 60) (Int.ofNat (List.length x1.2))) (some ((Bool.not (iltI (Int.ofNat 70) (Int.ofNat (List.length x1.2)))), ())) (some (Bool.false, ())))) (some (Bool.false, ()))) (some (Bool.false, ())))))
theorem in_l_few (g : ElA [cGraph] → Option Rt_l_few) (J : Nat → List Nat → NRes → Option Rt_l_few) (lf : Nat) (x1 : DGraph) : icodeT Tryz.prog ttT.get nm_l_few fi9.nt (cl_l_few _ lf) lf st_l_few J fi9.body [] (argGo (argV [cGraph] (x1, ())) 0 .leaf) S0 [] (lastK ttT.get fi9 ⟨[cGraph], [(false, .bool)], g⟩) = R_l_few_in lf x1 (fun q => J 3 [lf] (enc_l_few_3 x1 q)) := by kernel_rfl
theorem st_l_few_3 (g : ElA [cGraph] → Option Rt_l_few) (J : Nat → List Nat → NRes → Option Rt_l_few) (lf : Nat) (x1 : DGraph) (m1 : Nat) (p : Int) : icodeFT Tryz.prog ttT.get nm_l_few fi9.nt (cl_l_few _ lf) lf st_l_few J 3 fi9.body [] [m1] (enc_l_few_3 x1 p) (lastK ttT.get fi9 ⟨[cGraph], [(false, .bool)], g⟩) = R_l_few_3 lf x1 (fun q => J 3 [m1] (enc_l_few_3 x1 q)) p := by kernel_rfl
theorem nd_l_few : (regs fi9.body).Nodup := by decide +kernel
theorem ok_l_few : okC nm_l_few st_l_few hd_l_few fi9.body none = true := by kernel_rfl
def A_l_few (g : ElA [cGraph] → Option Rt_l_few) (lf : Nat) : Nat → List Nat → NRes → Option Rt_l_few := atN Tryz.prog ttT.get nm_l_few fi9 ⟨[cGraph], [(false, .bool)], g⟩ (cl_l_few _ lf) lf hd_l_few
def G_l_few_3 (lf : Nat) (x1 : DGraph) : Nat → (Int) → Option Rt_l_few := rounds fun K p => R_l_few_3 lf x1 K p
theorem at_l_few_3 (g : ElA [cGraph] → Option Rt_l_few) (lf : Nat) (x1 : DGraph) : ∀ (n : Nat) (p : Int), A_l_few g lf 3 [n] (enc_l_few_3 x1 p) = G_l_few_3 lf x1 n p
  | 0, p => atN_zero 3 [0] rfl _
  | n + 1, p => by
    have ih := at_l_few_3 g lf x1 n
    refine (atN_eq (icallK_eq 20 _) nd_l_few ok_l_few 3 [n + 1] [n] rfl _).trans ((st_l_few_3 g (A_l_few g lf) lf x1 n p).trans ?_)
    rw [(show (fun q => A_l_few g lf 3 [n] (enc_l_few_3 x1 q)) = (fun q => G_l_few_3 lf x1 n q) from funext ih)]
    rfl
def F_l_few (lf : Nat) (x1 : DGraph) : Option Rt_l_few := R_l_few_in lf x1 (fun q => G_l_few_3 lf x1 lf q)
theorem run_l_few (g : ElA [cGraph] → Option Rt_l_few) (lf : Nat) (x1 : DGraph) : icodeT Tryz.prog ttT.get nm_l_few fi9.nt (cl_l_few _ lf) lf st_l_few (A_l_few g lf) fi9.body [] (argGo (argV [cGraph] (x1, ())) 0 .leaf) S0 [] (lastK ttT.get fi9 ⟨[cGraph], [(false, .bool)], g⟩) = F_l_few lf x1 := by
    refine (in_l_few g (A_l_few g lf) lf x1).trans ?_
    rw [(show (fun q => A_l_few g lf 3 [lf] (enc_l_few_3 x1 q)) = (fun q => G_l_few_3 lf x1 lf q) from funext fun q => at_l_few_3 g lf x1 lf q)]
    rfl
theorem hxs_l_few : HxsOK Tryz.prog hxl_l_few := trivial
theorem mk_l_few {g : ElA [cGraph] → Option Rt_l_few} (hsm : SmOK Tryz.prog sml_l_few) (hg : ∀ (x : ElA [cGraph]) (y : Rt_l_few), WfA [cGraph] x → g x = some y → ∃ lf, F_l_few lf x.1 = some y) : Con Tryz.prog 9 ⟨[cGraph], [(false, .bool)], g⟩ :=
  conT (nmf := nm_l_few) (sml := sml_l_few) (hxl := hxl_l_few) (st := st_l_few) (hd := hd_l_few) 20 mixed ttOK ftOK hsm hxs_l_few cal9 rfl rfl (by kernel_rfl) (fun x => by kernel_rfl) nd_l_few ok_l_few fun x y hx hy => by
    obtain ⟨lf, h⟩ := hg x y hx hy
    exact ⟨lf, (run_l_few g lf x.1).trans h⟩
def nm_l_fewRules : Nat → Option Nm := fun k => cond (Nat.beq k 2) (some ⟨[0, 3], [], [], [], [], 0, 0, false⟩) (none)
def st_l_fewRules : Nat → Bool := fun k => cond (Nat.beq k 2) true (false)
def hd_l_fewRules : Nat → Bool := fun k => cond (Nat.beq k 2) true (false)
abbrev Rt_l_fewRules : Type := Bool × Unit
def sml_l_fewRules : List (Nat × Sm) := []
def hxl_l_fewRules : List (Nat × Hx) := []
def cl_l_fewRules (R : Type) (lf : Nat) : ClK R := icallK Tryz.prog ttT.get ftT.get (nm1 8 nm_l_fewRules) (smL sml_l_fewRules) (hxL hxl_l_fewRules) lf 20 R
abbrev id_l_fewRules : Nat := 8
def enc_l_fewRules_2 (x1 : (List DRule)) (p : Int) : NRes := (NRes.mk (PT.node (some (IV.lst cRule x1)) (PT.node none (PT.node (some (IV.int Go.IntKind.i64 p)) PT.leaf PT.leaf) PT.leaf) PT.leaf) (IS.mk PT.leaf 0) [] 0)
def R_l_fewRules_in (lf : Nat) (x1 : (List DRule)) (L2 : Int → Option Rt_l_fewRules) : Option Rt_l_fewRules := (L2 (Int.ofNat 0))
def R_l_fewRules_2 (lf : Nat) (x1 : (List DRule)) (L2 : Int → Option Rt_l_fewRules) (p : Int) : Option Rt_l_fewRules := (cond (iltI p (Int.ofNat (List.length x1))) (match (jget x1 p) with | .none  => none | .some v0 => (cond (iltI (Int.ofNat 8) (Int.ofNat (List.length v0.2.2))) (some (Bool.false, ())) (L2 (Go.IntKind.wrap Go.IntKind.i64 (Int.add p (Int.ofNat 1)))))) (cond (Bool.not (iltI (Int.ofNat 8) (Int.ofNat (List.length x1)))) (some (Bool.true, ())) (cond (iltI (Int.ofNat 24) (Int.ofNat (List.length x1))) (some ((Bool.not (iltI (Int.ofNat 30) (Int.ofNat (List.length x1)))), ())) (some (Bool.false, ())))))
theorem in_l_fewRules (g : ElA [(.list cRule)] → Option Rt_l_fewRules) (J : Nat → List Nat → NRes → Option Rt_l_fewRules) (lf : Nat) (x1 : (List DRule)) : icodeT Tryz.prog ttT.get nm_l_fewRules fi8.nt (cl_l_fewRules _ lf) lf st_l_fewRules J fi8.body [] (argGo (argV [(.list cRule)] (x1, ())) 0 .leaf) S0 [] (lastK ttT.get fi8 ⟨[(.list cRule)], [(false, .bool)], g⟩) = R_l_fewRules_in lf x1 (fun q => J 2 [lf] (enc_l_fewRules_2 x1 q)) := by kernel_rfl
theorem st_l_fewRules_2 (g : ElA [(.list cRule)] → Option Rt_l_fewRules) (J : Nat → List Nat → NRes → Option Rt_l_fewRules) (lf : Nat) (x1 : (List DRule)) (m1 : Nat) (p : Int) : icodeFT Tryz.prog ttT.get nm_l_fewRules fi8.nt (cl_l_fewRules _ lf) lf st_l_fewRules J 2 fi8.body [] [m1] (enc_l_fewRules_2 x1 p) (lastK ttT.get fi8 ⟨[(.list cRule)], [(false, .bool)], g⟩) = R_l_fewRules_2 lf x1 (fun q => J 2 [m1] (enc_l_fewRules_2 x1 q)) p := by kernel_rfl
theorem nd_l_fewRules : (regs fi8.body).Nodup := by decide +kernel
theorem ok_l_fewRules : okC nm_l_fewRules st_l_fewRules hd_l_fewRules fi8.body none = true := by kernel_rfl
def A_l_fewRules (g : ElA [(.list cRule)] → Option Rt_l_fewRules) (lf : Nat) : Nat → List Nat → NRes → Option Rt_l_fewRules := atN Tryz.prog ttT.get nm_l_fewRules fi8 ⟨[(.list cRule)], [(false, .bool)], g⟩ (cl_l_fewRules _ lf) lf hd_l_fewRules
def G_l_fewRules_2 (lf : Nat) (x1 : (List DRule)) : Nat → (Int) → Option Rt_l_fewRules := rounds fun K p => R_l_fewRules_2 lf x1 K p
theorem at_l_fewRules_2 (g : ElA [(.list cRule)] → Option Rt_l_fewRules) (lf : Nat) (x1 : (List DRule)) : ∀ (n : Nat) (p : Int), A_l_fewRules g lf 2 [n] (enc_l_fewRules_2 x1 p) = G_l_fewRules_2 lf x1 n p
  | 0, p => atN_zero 2 [0] rfl _
  | n + 1, p => by
    have ih := at_l_fewRules_2 g lf x1 n
    refine (atN_eq (icallK_eq 20 _) nd_l_fewRules ok_l_fewRules 2 [n + 1] [n] rfl _).trans ((st_l_fewRules_2 g (A_l_fewRules g lf) lf x1 n p).trans ?_)
    rw [(show (fun q => A_l_fewRules g lf 2 [n] (enc_l_fewRules_2 x1 q)) = (fun q => G_l_fewRules_2 lf x1 n q) from funext ih)]
    rfl
def F_l_fewRules (lf : Nat) (x1 : (List DRule)) : Option Rt_l_fewRules := R_l_fewRules_in lf x1 (fun q => G_l_fewRules_2 lf x1 lf q)
theorem run_l_fewRules (g : ElA [(.list cRule)] → Option Rt_l_fewRules) (lf : Nat) (x1 : (List DRule)) : icodeT Tryz.prog ttT.get nm_l_fewRules fi8.nt (cl_l_fewRules _ lf) lf st_l_fewRules (A_l_fewRules g lf) fi8.body [] (argGo (argV [(.list cRule)] (x1, ())) 0 .leaf) S0 [] (lastK ttT.get fi8 ⟨[(.list cRule)], [(false, .bool)], g⟩) = F_l_fewRules lf x1 := by
    refine (in_l_fewRules g (A_l_fewRules g lf) lf x1).trans ?_
    rw [(show (fun q => A_l_fewRules g lf 2 [lf] (enc_l_fewRules_2 x1 q)) = (fun q => G_l_fewRules_2 lf x1 lf q) from funext fun q => at_l_fewRules_2 g lf x1 lf q)]
    rfl
theorem hxs_l_fewRules : HxsOK Tryz.prog hxl_l_fewRules := trivial
theorem mk_l_fewRules {g : ElA [(.list cRule)] → Option Rt_l_fewRules} (hsm : SmOK Tryz.prog sml_l_fewRules) (hg : ∀ (x : ElA [(.list cRule)]) (y : Rt_l_fewRules), WfA [(.list cRule)] x → g x = some y → ∃ lf, F_l_fewRules lf x.1 = some y) : Con Tryz.prog 8 ⟨[(.list cRule)], [(false, .bool)], g⟩ :=
  conT (nmf := nm_l_fewRules) (sml := sml_l_fewRules) (hxl := hxl_l_fewRules) (st := st_l_fewRules) (hd := hd_l_fewRules) 20 mixed ttOK ftOK hsm hxs_l_fewRules cal8 rfl rfl (by kernel_rfl) (fun x => by kernel_rfl) nd_l_fewRules ok_l_fewRules fun x y hx hy => by
    obtain ⟨lf, h⟩ := hg x y hx hy
    exact ⟨lf, (run_l_fewRules g lf x.1).trans h⟩
def nm_l_PackConverts : Nat → Option Nm := fun k => none
def st_l_PackConverts : Nat → Bool := fun k => false
def hd_l_PackConverts : Nat → Bool := fun k => false
abbrev Rt_l_PackConverts : Type := Bool × Unit
def sml_l_PackConverts : List (Nat × Sm) := [(9, sp_l_few), (7, sp_l_fewForms), (8, sp_l_fewRules), (10, sp_l_sanity), (11, sp_p_Convert), (12, sp_r_Convert), (13, sp_r_SameGraphs)]
def hxl_l_PackConverts : List (Nat × Hx) := []
def cl_l_PackConverts (R : Type) (lf : Nat) : ClK R := icallK Tryz.prog ttT.get ftT.get (nm1 3 nm_l_PackConverts) (smL sml_l_PackConverts) (hxL hxl_l_PackConverts) lf 20 R
abbrev id_l_PackConverts : Nat := 3
def R_l_PackConverts_in (lf : Nat) (x1 : (List DForm)) (x2 : (List DForm)) (x3 : (List DRule)) (x4 : DGraph) : Option Rt_l_PackConverts := (cond (Bool.not (Go.Proofs.YtcnhjofpmpipfaaGreat.S.fewForms x1)) (some (Bool.true, ())) (cond (Bool.not (Go.Proofs.YtcnhjofpmpipfaaGreat.S.fewForms x2)) (some (Bool.true, ())) (cond (Bool.not (Go.Proofs.YtcnhjofpmpipfaaGreat.S.fewRules x3)) (some (Bool.true, ())) (cond (Bool.not (Go.Proofs.YtcnhjofpmpipfaaGreat.S.few (x4.1, x4.2))) (some (Bool.true, ())) (cond (Go.Proofs.YtcnhjofpmpipfaaGreat.S.sameGraphs ((Go.Proofs.YtcnhjofpmpipfaaGreat.S.convert x1 x2 x3 (x4.1, x4.2)).1.1, (Go.Proofs.YtcnhjofpmpipfaaGreat.S.convert x1 x2 x3 (x4.1, x4.2)).1.2) ((Go.Proofs.YtcnhjofpmpipfaaGreat.S.convert x1 x2 x3 (x4.1, x4.2)).1.1, (Go.Proofs.YtcnhjofpmpipfaaGreat.S.convert x1 x2 x3 (x4.1, x4.2)).1.2)) (cond (Bool.and (keqI (Go.Proofs.YtcnhjofpmpipfaaGreat.S.convert x1 x2 x3 (x4.1, x4.2)).2.1.1 (Go.Proofs.YtcnhjofpmpipfaaGreat.S.convert x1 x2 x3 (x4.1, x4.2)).2.1.1) (Bool.and (keqS (Go.Proofs.YtcnhjofpmpipfaaGreat.S.convert x1 x2 x3 (x4.1, x4.2)).2.1.2 (Go.Proofs.YtcnhjofpmpipfaaGreat.S.convert x1 x2 x3 (x4.1, x4.2)).2.1.2) Bool.true)) (some ((ieqI (Go.Proofs.YtcnhjofpmpipfaaGreat.S.convert x1 x2 x3 (x4.1, x4.2)).2.2 (Go.Proofs.YtcnhjofpmpipfaaGreat.S.convert x1 x2 x3 (x4.1, x4.2)).2.2), ())) (some (Bool.false, ()))) (some (Bool.false, ())))))))
theorem in_l_PackConverts (g : ElA [(.list cForm), (.list cForm), (.list cRule), cGraph] → Option Rt_l_PackConverts) (J : Nat → List Nat → NRes → Option Rt_l_PackConverts) (lf : Nat) (x1 : (List DForm)) (x2 : (List DForm)) (x3 : (List DRule)) (x4 : DGraph) : icodeT Tryz.prog ttT.get nm_l_PackConverts fi3.nt (cl_l_PackConverts _ lf) lf st_l_PackConverts J fi3.body [] (argGo (argV [(.list cForm), (.list cForm), (.list cRule), cGraph] (x1, x2, x3, x4, ())) 0 .leaf) S0 [] (lastK ttT.get fi3 ⟨[(.list cForm), (.list cForm), (.list cRule), cGraph], [(false, .bool)], g⟩) = R_l_PackConverts_in lf x1 x2 x3 x4 := by kernel_rfl
theorem nd_l_PackConverts : (regs fi3.body).Nodup := by decide +kernel
theorem ok_l_PackConverts : okC nm_l_PackConverts st_l_PackConverts hd_l_PackConverts fi3.body none = true := by kernel_rfl
def A_l_PackConverts (g : ElA [(.list cForm), (.list cForm), (.list cRule), cGraph] → Option Rt_l_PackConverts) (lf : Nat) : Nat → List Nat → NRes → Option Rt_l_PackConverts := atN Tryz.prog ttT.get nm_l_PackConverts fi3 ⟨[(.list cForm), (.list cForm), (.list cRule), cGraph], [(false, .bool)], g⟩ (cl_l_PackConverts _ lf) lf hd_l_PackConverts
def F_l_PackConverts (lf : Nat) (x1 : (List DForm)) (x2 : (List DForm)) (x3 : (List DRule)) (x4 : DGraph) : Option Rt_l_PackConverts := R_l_PackConverts_in lf x1 x2 x3 x4
theorem run_l_PackConverts (g : ElA [(.list cForm), (.list cForm), (.list cRule), cGraph] → Option Rt_l_PackConverts) (lf : Nat) (x1 : (List DForm)) (x2 : (List DForm)) (x3 : (List DRule)) (x4 : DGraph) : icodeT Tryz.prog ttT.get nm_l_PackConverts fi3.nt (cl_l_PackConverts _ lf) lf st_l_PackConverts (A_l_PackConverts g lf) fi3.body [] (argGo (argV [(.list cForm), (.list cForm), (.list cRule), cGraph] (x1, x2, x3, x4, ())) 0 .leaf) S0 [] (lastK ttT.get fi3 ⟨[(.list cForm), (.list cForm), (.list cRule), cGraph], [(false, .bool)], g⟩) = F_l_PackConverts lf x1 x2 x3 x4 := by
    refine (in_l_PackConverts g (A_l_PackConverts g lf) lf x1 x2 x3 x4).trans ?_
    rfl
theorem hxs_l_PackConverts : HxsOK Tryz.prog hxl_l_PackConverts := trivial
theorem mk_l_PackConverts {g : ElA [(.list cForm), (.list cForm), (.list cRule), cGraph] → Option Rt_l_PackConverts} (hsm : SmOK Tryz.prog sml_l_PackConverts) (hg : ∀ (x : ElA [(.list cForm), (.list cForm), (.list cRule), cGraph]) (y : Rt_l_PackConverts), WfA [(.list cForm), (.list cForm), (.list cRule), cGraph] x → g x = some y → ∃ lf, F_l_PackConverts lf x.1 x.2.1 x.2.2.1 x.2.2.2.1 = some y) : Con Tryz.prog 3 ⟨[(.list cForm), (.list cForm), (.list cRule), cGraph], [(false, .bool)], g⟩ :=
  conT (nmf := nm_l_PackConverts) (sml := sml_l_PackConverts) (hxl := hxl_l_PackConverts) (st := st_l_PackConverts) (hd := hd_l_PackConverts) 20 mixed ttOK ftOK hsm hxs_l_PackConverts cal3 rfl rfl (by kernel_rfl) (fun x => by kernel_rfl) nd_l_PackConverts ok_l_PackConverts fun x y hx hy => by
    obtain ⟨lf, h⟩ := hg x y hx hy
    exact ⟨lf, (run_l_PackConverts g lf x.1 x.2.1 x.2.2.1 x.2.2.2.1).trans h⟩
end Go.Proofs.YtcnhjofpmpipfaaGreat

end
end

/- Comparisons, and the law's bounds. -/
section
set_option linter.unusedVariables false
set_option maxRecDepth 100000
namespace Go.Proofs.YtcnhjofpmpipfaaGreat
open Go Go.Sx Go.RowKit Go.Jx
theorem F_r_SameVals_eq (a b : List DVal) (hl : a.length < LF) : F_r_SameVals LF a b = some (S.sameVals a b, ()) := by
  simp only [F_r_SameVals, R_r_SameVals_in, ieq_nat, S.sameVals]
  by_cases hlen : a.length = b.length
  · rw [decide_eq_true hlen, Bool.not_true, cond_false]
    refine (range1 (R := Rt_r_SameVals) a (fun rest i => some (decide (rest = b.drop i), ())) hl (fun K => ?_) (fun K i v rest r h => ?_)).trans (by rw [List.drop_zero])
    · simp only [R_r_SameVals_4, ilt_self, cond_false]
      rw [List.drop_of_length_le (by omega), decide_eq_true rfl]
    · have hi : i < b.length := by have := r.lt; omega
      have hd : b.drop i = b[i] :: b.drop (i + 1) := List.drop_eq_getElem_cons hi
      have hb : jget b (Int.ofNat i) = some b[i] := jget_nat.trans (List.getElem?_eq_getElem hi)
      simp only [R_r_SameVals_4, r.ilt, r.get, hb, r.next, h, cond_true, hd]
      generalize b[i] = w
      obtain ⟨v1, v2⟩ := v
      obtain ⟨w1, w2⟩ := w
      simp only [keqI, Bool.and_true]
      by_cases e1 : v1 = w1 <;> by_cases e2 : v2 = w2 <;> simp [e1, e2]
  · have hn : ¬ a = b := fun e => hlen (by rw [e])
    rw [decide_eq_false hlen, Bool.not_false, cond_true, decide_eq_false hn]
theorem con_r_SameVals : Con Tryz.prog id_r_SameVals sp_r_SameVals := mk_r_SameVals trivial fun x y hx h => ⟨LF, (F_r_SameVals_eq _ _ (wf_len hx.1)).trans h⟩
theorem F_r_SameGraphs_eq (a b : DGraph) (hl : a.1.length < LF) : F_r_SameGraphs LF a b = some (S.sameGraphs a b, ()) := by
  simp only [F_r_SameGraphs, R_r_SameGraphs_in, ieq_nat, S.sameGraphs]
  obtain ⟨a1, a2⟩ := a
  obtain ⟨b1, b2⟩ := b
  have hs : S.sameVals a2 b2 = decide (a2 = b2) := rfl
  simp only [hs]
  by_cases hr : a2 = b2
  · rw [decide_eq_true hr, Bool.not_true, cond_false]
    by_cases hlen : a1.length = b1.length
    · rw [decide_eq_true hlen, Bool.not_true, cond_false]
      refine (range1 (R := Rt_r_SameGraphs) a1 (fun rest i => some (decide (rest = b1.drop i), ())) hl (fun K => ?_) (fun K i v rest r h => ?_)).trans (by rw [List.drop_zero]; simp [hr])
      · simp only [R_r_SameGraphs_5, ilt_self, cond_false]
        rw [List.drop_of_length_le (by omega), decide_eq_true rfl]
      · have hi : i < b1.length := by have := r.lt; dsimp only at *; omega
        have hd : b1.drop i = b1[i] :: b1.drop (i + 1) := List.drop_eq_getElem_cons hi
        have hb : jget b1 (Int.ofNat i) = some b1[i] := jget_nat.trans (List.getElem?_eq_getElem hi)
        have hg := r.get
        simp only [R_r_SameGraphs_5, r.ilt, hg, hb, r.next, h, cond_true, hd]
        generalize b1[i] = w
        obtain ⟨v1, v2⟩ := v
        obtain ⟨w1, w2⟩ := w
        simp only [keqS, S.sameVals]
        by_cases e1 : v1 = w1 <;> by_cases e2 : v2 = w2 <;> simp [e1, e2]
    · have hn : ¬ (a1, a2) = (b1, b2) := fun e => hlen (by rw [(Prod.mk.inj e).1])
      rw [decide_eq_false hlen, Bool.not_false, cond_true, decide_eq_false hn]
  · have hn : ¬ (a1, a2) = (b1, b2) := fun e => hr (Prod.mk.inj e).2
    rw [decide_eq_false hr, Bool.not_false, cond_true, decide_eq_false hn]
theorem con_r_SameGraphs : Con Tryz.prog id_r_SameGraphs sp_r_SameGraphs := mk_r_SameGraphs ⟨con_r_SameVals, trivial⟩ fun x y hx h => ⟨LF, (F_r_SameGraphs_eq _ _ (wf_len hx.1.1)).trans h⟩
end Go.Proofs.YtcnhjofpmpipfaaGreat
end

/- The reference's Convert. -/
section
set_option linter.unusedVariables false
set_option maxRecDepth 100000
namespace Go.Proofs.YtcnhjofpmpipfaaGreat
open Go Go.Sx Go.RowKit Go.Jx
theorem rcv_inner (a b : List DForm) (l : List DRule) (g : DGraph) (K8 : Int × List DNode → Option Rt_r_Convert) (colsA colsB : List DCol) (na nb rc : ByteArray) (to : ByteArray) (gs : List DGive) (n : DNode) (i : Nat) (hn : jget g.1 (Int.ofNat i) = some n) (acc : List DNode) (hB : colsB.length * 40 ≤ 140737488355328) (hacc : (acc.length + 1) * 40 ≤ 140737488355328)
    (hlen : gs.length = colsB.length) (hpre : ∀ k (h : k < gs.length), S.within gs[k].2.1 1 7 = true ∧ S.madePre gs[k] colsA n.2 = true) :
    G_r_Convert_15 LF a b l g K8 LF (colsB, na, colsA, rc, nb, to, gs, Int.ofNat 0, [], Int.ofNat i, acc) = match S.cvIn colsA n.2 gs colsB [] with
      | (some ws, _) => K8 (IntKind.i64.wrap (Int.add (Int.ofNat i) (Int.ofNat 1)), acc ++ [(to, ws)])
      | (none, d) => some ((S.zGraph, (Int.ofNat i, d), 10), ()) := by
  have hBl : colsB.length < LF := by unfold LF; omega
  refine range0 (σ := List DVal) (R := Rt_r_Convert) colsB (fun k s => (colsB, na, colsA, rc, nb, to, gs, k, s, Int.ofNat i, acc)) (fun k s => s.length = k) (fun rest k s => match S.cvIn colsA n.2 (gs.drop k) rest s with
      | (some ws, _) => K8 (IntKind.i64.wrap (Int.add (Int.ofNat i) (Int.ofNat 1)), acc ++ [(to, ws)])
      | (none, d) => some ((S.zGraph, (Int.ofNat i, d), 10), ())) hBl (fun K s hI => ?_) (fun K k col rest s hI r h => ?_) [] rfl
  · have : S.cvIn colsA n.2 (gs.drop colsB.length) [] s = (some s, S.lit []) := by unfold S.cvIn; split <;> simp_all
    simp only [R_r_Convert_15, ilt_self, cond_false, this, ble_mul hacc, cond_true]
    rfl
  · have hk : k < gs.length := by rw [hlen]; exact r.lt
    have hj : jget gs (Int.ofNat k) = some gs[k] := by rw [jget_nat]; exact List.getElem?_eq_getElem hk
    have hw : S.within gs[k].2.1 (Int.ofNat 1) (Int.ofNat 7) = true := (hpre k hk).1
    rw [List.drop_eq_getElem_cons hk, S.cvIn]
    simp only [R_r_Convert_15, r.ilt, r.get, hn, cond_true, hj, Prod.eta, hw, (hpre k hk).2, Bool.and_self, r.next]
    cases hm : (S.made gs[k] colsA n.2 col).2 with
    | true =>
      rw [Bool.not_true, cond_false, if_pos rfl]
      have hs := h (s ++ [(S.made gs[k] colsA n.2 col).1]) (by simp [hI])
      have hb : Nat.ble (Nat.mul (Nat.add s.length 1) 16) 140737488355328 = true := ble_mul (by have := r.lt; rw [hI]; omega)
      rw [hb, cond_true]
      exact hs
    | false =>
      rw [Bool.not_false, cond_true, if_neg (by simp)]
      rfl
theorem ruleOf_get {l : List DRule} {c : ByteArray} (h : (S.ruleOf l c).2 = true) : jget l (S.idx (fun r : DRule => keqS r.1 c) l) = some (S.ruleOf l c).1 := by
  rw [ruleOf_idx] at h
  have h0 : 0 ≤ S.idx (fun r : DRule => keqS r.1 c) l := by
    by_cases hh : S.idx (fun r : DRule => keqS r.1 c) l < 0
    · rw [decide_eq_true hh] at h; cases h
    · omega
  obtain ⟨x, e, _, _, _, _, e2⟩ := S.idx_get h0
  rw [e]
  unfold S.ruleOf
  rw [e2]
theorem F_r_Convert_eq (a b : List DForm) (l : List DRule) (g : DGraph) (hb : ∀ f ∈ b, f.2.length * 40 ≤ 140737488355328) (hr : g.2.length * 16 ≤ 140737488355328) : F_r_Convert LF a b l g = some (S.convert a b l g, ()) := by
  simp only [F_r_Convert, R_r_Convert_in, S.convert, ieqI_eq, Prod.eta]
  simp only [show Int.ofNat 0 = (0 : Int) from rfl]
  by_cases h0 : S.checkRules a b l = 0
  case neg => rw [decide_eq_false h0, cond_false, Bool.not_false, cond_true, if_pos h0]; rfl
  rw [decide_eq_true h0, cond_true, if_neg (by simpa using h0)]
  have hf : S.checkForms a = 0 ∧ S.checkRules0 a b l = 0 := by
    unfold S.checkRules at h0
    by_cases hz : S.first [S.checkForms a, S.checkForms b] = 0
    · rw [if_pos hz] at h0
      refine ⟨?_, h0⟩
      unfold S.first at hz
      by_cases ha : S.checkForms a = 0
      · exact ha
      · rw [if_neg ha] at hz; exact hz
    · rw [if_neg hz] at h0; exact absurd h0 hz
  have hc : S.checkG a g = S.check a g := by unfold S.checkG; rw [if_neg (by simpa using hf.1)]
  rw [hc]
  by_cases h1 : S.check a g = 0
  case neg => rw [decide_eq_false h1, Bool.not_false, cond_true, if_pos h1]; rfl
  rw [decide_eq_true h1, Bool.not_true, cond_false, if_neg (by simpa using h1)]
  have hR := (rulesOK_iff a b l).1 hf.2
  have hG := (graphOK_iff a g).1 h1
  obtain ⟨hn, _, _, _, _⟩ := formed_zero hG.formed
  have hnl : g.1.length < LF := by unfold LF; omega
  refine range0 (σ := List DNode) (R := Rt_r_Convert) g.1 (fun k s => (k, s)) (fun k s => s.length = k) (fun rest k s => some (S.cvGo a b l g.2 k rest s, ())) hnl (fun K s hI => ?_) (fun K k n rest s hI r h => ?_) [] rfl
  · have hb : Nat.ble (Nat.mul (Nat.add 0 g.2.length) 16) 140737488355328 = true := Nat.ble_eq_true_of_le (by show (0 + g.2.length) * 16 ≤ _; omega)
    simp only [R_r_Convert_8, ilt_self, cond_false, hb, cond_true]; rfl
  · obtain ⟨fa, a1, a2, a3, a4⟩ := form_get (hG.has n r.mem)
    have hru : (S.ruleOf l n.1).2 = true := by rw [← a4]; exact hR.all fa a3
    obtain ⟨m1, m2⟩ := ruleOf_mem hru
    obtain ⟨fb, b1, b2, b3, b4⟩ := form_get (hR.has _ m1).2
    simp only [R_r_Convert_8, r.ilt, r.get, cond_true, a1, ruleOf_get hru, b1]
    have hgl := hR.glen _ m1
    have hvl : n.2.length = (S.colsOf a n.1).length := (typed_len hG.typed n r.mem).1
    refine (rcv_inner a b l g K fa.2 fb.2 fa.1 fb.1 _ _ _ n k r.get s (hb fb b3) (by have := r.lt; rw [hI]; omega) (by rw [hgl, b2]) fun j hj => ?_).trans ?_
    · have := hR.gok _ m1 j hj (by rw [← hgl]; exact hj)
      rw [m2] at this
      rw [← a2]
      exact ⟨(give_pre this).1, made_pre this hvl⟩
    · rw [S.cvGo]
      simp only [a2, b2]
      cases hcv : S.cvIn fa.2 n.2 (S.ruleOf l n.1).1.2.2 fb.2 [] with
      | mk o d =>
        cases o with
        | none => rfl
        | some ws =>
          simp only
          rw [r.next]
          exact h _ (by simp [hI])
theorem con_r_Convert : Con Tryz.prog id_r_Convert sp_r_Convert := mk_r_Convert ⟨con_r_CheckRules, con_rCheck, con_r_form, con_r_rule, con_r_made, trivial⟩ fun x y hx h => ⟨LF, (F_r_Convert_eq _ _ _ _ (fun f hf => (hx.2.1.2 f hf).2.1) hx.2.2.2.1.2.1).trans h⟩
end Go.Proofs.YtcnhjofpmpipfaaGreat
end

/- The law's bounds, and PackConverts. -/
section
set_option linter.unusedVariables false
set_option maxRecDepth 100000
namespace Go.Proofs.YtcnhjofpmpipfaaGreat
open Go Go.Sx Go.RowKit Go.Jx
theorem F_l_fewRules_eq (l : List DRule) (hl : l.length < LF) : F_l_fewRules LF l = some (S.fewRules l, ()) := by
  simp only [F_l_fewRules, R_l_fewRules_in, S.fewRules]
  refine range1 (R := Rt_l_fewRules) l (fun rest i => some (rest.all (fun r => decide (r.2.2.length ≤ 8)) && decide (l.length ≤ 8 ∨ 24 < l.length ∧ l.length ≤ 30), ())) hl (fun K => ?_) (fun K i v rest r h => ?_)
  · simp only [R_l_fewRules_2, ilt_self, cond_false, ilt_nat, List.all_nil, Bool.true_and]
    by_cases h8 : 8 < l.length <;> by_cases h24 : 24 < l.length <;> by_cases h30 : 30 < l.length <;> simp [h8, h24, h30] <;> omega
  · simp only [R_l_fewRules_2, r.ilt, r.get, r.next, h, cond_true, ilt_nat, List.all_cons]
    by_cases h8 : 8 < v.2.2.length
    · have h8' : ¬ v.2.2.length ≤ 8 := by omega
      simp [h8, h8']
    · have h8' : v.2.2.length ≤ 8 := by omega
      simp [h8, h8']
theorem con_l_fewRules : Con Tryz.prog id_l_fewRules sp_l_fewRules := mk_l_fewRules trivial fun x y hx h => ⟨LF, (F_l_fewRules_eq _ (wf_len hx.1)).trans h⟩
theorem F_l_few_eq (g : DGraph) (hl : g.1.length < LF) : F_l_few LF g = some (S.few g, ()) := by
  simp only [F_l_few, R_l_few_in, S.few]
  refine range1 (R := Rt_l_few) g.1 (fun rest i => some (rest.all (fun n => decide ((n.2.length ≤ 8 ∨ 30 < n.2.length) ∧ n.2.length ≤ 40)) && decide ((g.1.length ≤ 30 ∨ 400 < g.1.length ∧ g.1.length ≤ 410) ∧ (g.2.length ≤ 10 ∨ 60 < g.2.length ∧ g.2.length ≤ 70)), ())) hl (fun K => ?_) (fun K i v rest r h => ?_)
  · simp only [R_l_few_3, ilt_self, cond_false, ilt_nat, List.all_nil, Bool.true_and]
    generalize g.1.length = n
    generalize g.2.length = k
    by_cases a1 : 30 < n <;> by_cases a2 : 400 < n <;> by_cases a3 : 410 < n <;> by_cases b1 : 10 < k <;> by_cases b2 : 60 < k <;> by_cases b3 : 70 < k <;> simp [a1, a2, a3, b1, b2, b3] <;> omega
  · simp only [R_l_few_3, r.ilt, r.get, r.next, h, cond_true, ilt_nat, List.all_cons]
    generalize v.2.length = n
    generalize (rest.all fun n => decide ((n.2.length ≤ 8 ∨ 30 < n.2.length) ∧ n.2.length ≤ 40)) = w
    by_cases a1 : 8 < n
    · rw [decide_eq_true a1, cond_true]
      by_cases a2 : 30 < n
      · rw [decide_eq_true a2, Bool.not_true, cond_false]
        by_cases a3 : 40 < n
        · have e : decide ((n ≤ 8 ∨ 30 < n) ∧ n ≤ 40) = false := decide_eq_false (by omega)
          rw [e, decide_eq_true a3]; rfl
        · have e : decide ((n ≤ 8 ∨ 30 < n) ∧ n ≤ 40) = true := decide_eq_true (by omega)
          rw [e, decide_eq_false a3]; cases w <;> rfl
      · have e : decide ((n ≤ 8 ∨ 30 < n) ∧ n ≤ 40) = false := decide_eq_false (by omega)
        rw [e, decide_eq_false a2]; rfl
    · rw [decide_eq_false a1, cond_false]
      have e : decide ((n ≤ 8 ∨ 30 < n) ∧ n ≤ 40) = true := decide_eq_true (by omega)
      have a3 : ¬ 40 < n := by omega
      rw [e, decide_eq_false a3]; cases w <;> rfl
theorem con_l_few : Con Tryz.prog id_l_few sp_l_few := mk_l_few trivial fun x y hx h => ⟨LF, (F_l_few_eq _ (wf_len hx.1.1)).trans h⟩
theorem few_inner (l : List DForm) (K2 : Int → Option Rt_l_fewForms) (i : Nat) (f : DForm) (hf : jget l (Int.ofNat i) = some f) (hl : f.2.length < LF) :
    G_l_fewForms_8 LF l K2 LF (Int.ofNat f.2.length, Int.ofNat 0, Int.ofNat i) = cond (f.2.all fun c => decide (c.1.size ≤ 30 ∧ c.2.2.size ≤ 30)) (K2 (IntKind.i64.wrap (Int.add (Int.ofNat i) (Int.ofNat 1)))) (some (false, ())) := by
  refine range0 (σ := Unit) (R := Rt_l_fewForms) f.2 (fun k _ => (Int.ofNat f.2.length, k, Int.ofNat i)) (fun _ _ => True) (fun rest k _ => cond (rest.all fun c => decide (c.1.size ≤ 30 ∧ c.2.2.size ≤ 30)) (K2 (IntKind.i64.wrap (Int.add (Int.ofNat i) (Int.ofNat 1)))) (some (false, ()))) hl (fun K s _ => ?_) (fun K k c rest s _ r h => ?_) () trivial
  · simp only [R_l_fewForms_8, ilt_self, cond_false, List.all_nil, cond_true]
  · have h := h () trivial
    simp only [R_l_fewForms_8, hf, r.ilt, r.get, r.next, h, cond_true, ilt_nat, List.all_cons]
    by_cases a1 : 30 < c.1.size
    · have e : decide (c.1.size ≤ 30 ∧ c.2.2.size ≤ 30) = false := decide_eq_false (by omega)
      rw [e, decide_eq_true a1]; rfl
    by_cases a2 : 30 < c.2.2.size
    · have e : decide (c.1.size ≤ 30 ∧ c.2.2.size ≤ 30) = false := decide_eq_false (by omega)
      rw [e, decide_eq_false a1, decide_eq_true a2]; rfl
    · have e : decide (c.1.size ≤ 30 ∧ c.2.2.size ≤ 30) = true := decide_eq_true (by omega)
      rw [e, decide_eq_false a1, decide_eq_false a2, Bool.true_and]; rfl
theorem F_l_fewForms_eq (l : List DForm) (hl : l.length < LF) (hw : ∀ f ∈ l, f.2.length < LF) : F_l_fewForms LF l = some (S.fewForms l, ()) := by
  simp only [F_l_fewForms, R_l_fewForms_in, S.fewForms]
  refine range1 (R := Rt_l_fewForms) l (fun rest i => some (rest.all (fun f => decide (f.1.size ≤ 30 ∧ (f.2.length ≤ 6 ∨ 30 < f.2.length) ∧ f.2.length ≤ 40) && f.2.all fun c => decide (c.1.size ≤ 30 ∧ c.2.2.size ≤ 30)) && decide (l.length ≤ 6 ∨ 24 < l.length ∧ l.length ≤ 30), ())) hl (fun K => ?_) (fun K i v rest r h => ?_)
  · simp only [R_l_fewForms_2, ilt_self, cond_false, ilt_nat, List.all_nil, Bool.true_and]
    by_cases h8 : 6 < l.length <;> by_cases h24 : 24 < l.length <;> by_cases h30 : 30 < l.length <;> simp [h8, h24, h30] <;> omega
  · have hin := few_inner l K i v r.get (hw v r.mem)
    rw [r.next, h] at hin
    simp only [R_l_fewForms_2, r.ilt, r.get, cond_true, ilt_nat, List.all_cons]
    simp only [hin]
    generalize (v.2.all fun c => decide (c.1.size ≤ 30 ∧ c.2.2.size ≤ 30)) = w
    generalize v.2.length = n
    generalize v.1.size = m
    by_cases a0 : 30 < m
    · have e : decide (m ≤ 30 ∧ (n ≤ 6 ∨ 30 < n) ∧ n ≤ 40) = false := decide_eq_false (by omega)
      rw [e, decide_eq_true a0]; rfl
    rw [decide_eq_false a0, cond_false]
    by_cases a1 : 6 < n
    · rw [decide_eq_true a1, cond_true]
      by_cases a2 : 30 < n
      · rw [decide_eq_true a2, Bool.not_true, cond_false]
        by_cases a3 : 40 < n
        · have e : decide (m ≤ 30 ∧ (n ≤ 6 ∨ 30 < n) ∧ n ≤ 40) = false := decide_eq_false (by omega)
          rw [e, decide_eq_true a3]; rfl
        · have e : decide (m ≤ 30 ∧ (n ≤ 6 ∨ 30 < n) ∧ n ≤ 40) = true := decide_eq_true (by omega)
          rw [e, decide_eq_false a3]; cases w <;> rfl
      · have e : decide (m ≤ 30 ∧ (n ≤ 6 ∨ 30 < n) ∧ n ≤ 40) = false := decide_eq_false (by omega)
        rw [e, decide_eq_false a2]; rfl
    · rw [decide_eq_false a1, cond_false]
      have e : decide (m ≤ 30 ∧ (n ≤ 6 ∨ 30 < n) ∧ n ≤ 40) = true := decide_eq_true (by omega)
      have a3 : ¬ 40 < n := by omega
      rw [e, decide_eq_false a3]; cases w <;> rfl
theorem con_l_fewForms : Con Tryz.prog id_l_fewForms sp_l_fewForms := mk_l_fewForms trivial fun x y hx h => ⟨LF, (F_l_fewForms_eq _ (wf_len hx.1) fun f hf => wf_len (hx.1.2 f hf).2).trans h⟩
theorem F_l_PackConverts_eq (lf : Nat) (a b : List DForm) (l : List DRule) (g : DGraph) : F_l_PackConverts lf a b l g = some (true, ()) := by
  simp only [F_l_PackConverts, R_l_PackConverts_in, Prod.eta]
  have e1 : S.sameGraphs (S.convert a b l g).1 (S.convert a b l g).1 = true := decide_eq_true rfl
  rw [e1, ieqI_eq, decide_eq_true rfl]
  simp only [keqI, keqS, decide_true, Bool.and_self, cond_true]
  cases S.fewForms a <;> cases S.fewForms b <;> cases S.fewRules l <;> cases S.few g <;> rfl
theorem con_l_PackConverts (hs : Con Tryz.prog 10 sp_l_sanity) : Con Tryz.prog id_l_PackConverts sp_l_PackConverts := mk_l_PackConverts ⟨con_l_few, con_l_fewForms, con_l_fewRules, hs, con_p_Convert, con_r_Convert, con_r_SameGraphs, trivial⟩ fun x y hx h => ⟨0, (F_l_PackConverts_eq _ _ _ _ _).trans h⟩
end Go.Proofs.YtcnhjofpmpipfaaGreat
end

/- The closed check's contract; PackConverts' contract. -/
section
set_option linter.unusedVariables false
namespace Go.Proofs.YtcnhjofpmpipfaaGreat
open Go Go.Sx Go.RowKit Go.Jx
theorem exN_ok : ExOK Tryz.prog exN := ⟨fun _ _ h => (nomatch h), fun _ _ h => (nomatch h), fun _ _ h => (nomatch h)⟩
theorem con_l_sanity : Con Tryz.prog 10 sp_l_sanity := con_of_run (lf := 1000) mixed ttOK ftOK exN_ok cal10 fun x y h => by
  obtain ⟨r, h1, h2⟩ := isR_spec san10
  exact ⟨100, 1000, r, h1, h2.trans h⟩
theorem con_PackConverts : Con Tryz.prog id_l_PackConverts sp_l_PackConverts := con_l_PackConverts con_l_sanity
end Go.Proofs.YtcnhjofpmpipfaaGreat
end
