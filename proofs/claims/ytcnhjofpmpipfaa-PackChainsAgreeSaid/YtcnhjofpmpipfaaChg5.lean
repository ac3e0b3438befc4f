/- Texts: Qg2, Jcl, Qcl, Qp2, Qp3, Qp4, Lp1, Lw1, Lw2, Lw3, Lp2, Ln1. -/
import Derived.Test.YtcnhjofpmpipfaaChg4
/- Made by program: plain forms of functions. -/
section
set_option linter.unusedVariables false
set_option maxRecDepth 100000
noncomputable section
namespace Go.Proofs.Ytcnhjofpmpipfaa
open Go Go.Sx Go.RowKit Go.Jx
def nm_p_leads : Nat → Option Nm := fun k => none
def st_p_leads : Nat → Bool := fun k => false
def hd_p_leads : Nat → Bool := fun k => false
abbrev Rt_p_leads : Type := Bool × Unit
def sml_p_leads : List (Nat × Sm) := [(75, sp_p_ruleOf)]
def hxl_p_leads : List (Nat × Hx) := []
def cl_p_leads (R : Type) (lf : Nat) : ClK R := icallK Try.prog ttT.get ftT.get (nm1 139 nm_p_leads) (smL sml_p_leads) (hxL hxl_p_leads) lf 20 R
abbrev id_p_leads : Nat := 139
def R_p_leads_in (lf : Nat) (x1 : (List DRule)) (x2 : ByteArray) (x3 : ByteArray) : Option Rt_p_leads := (cond (keqS x3 (S.lit [65, 78, 89])) (some (Bool.true, ())) (cond (Go.Proofs.Ytcnhjofpmpipfaa.S.ruleOf x1 x2).2 (some ((keqS (Go.Proofs.Ytcnhjofpmpipfaa.S.ruleOf x1 x2).1.2.1 x3), ())) (some (Bool.false, ()))))
theorem in_p_leads (g : ElA [(.list cRule), .str, .str] → Option Rt_p_leads) (J : Nat → List Nat → NRes → Option Rt_p_leads) (lf : Nat) (x1 : (List DRule)) (x2 : ByteArray) (x3 : ByteArray) : icodeT Try.prog ttT.get nm_p_leads fi139.nt (cl_p_leads _ lf) lf st_p_leads J fi139.body [] (argGo (argV [(.list cRule), .str, .str] (x1, x2, x3, ())) 0 .leaf) S0 [] (lastK ttT.get fi139 ⟨[(.list cRule), .str, .str], [(false, .bool)], g⟩) = R_p_leads_in lf x1 x2 x3 := by kernel_rfl
theorem nd_p_leads : (regs fi139.body).Nodup := by decide +kernel
theorem ok_p_leads : okC nm_p_leads st_p_leads hd_p_leads fi139.body none = true := by kernel_rfl
def A_p_leads (g : ElA [(.list cRule), .str, .str] → Option Rt_p_leads) (lf : Nat) : Nat → List Nat → NRes → Option Rt_p_leads := atN Try.prog ttT.get nm_p_leads fi139 ⟨[(.list cRule), .str, .str], [(false, .bool)], g⟩ (cl_p_leads _ lf) lf hd_p_leads
def F_p_leads (lf : Nat) (x1 : (List DRule)) (x2 : ByteArray) (x3 : ByteArray) : Option Rt_p_leads := R_p_leads_in lf x1 x2 x3
theorem run_p_leads (g : ElA [(.list cRule), .str, .str] → Option Rt_p_leads) (lf : Nat) (x1 : (List DRule)) (x2 : ByteArray) (x3 : ByteArray) : icodeT Try.prog ttT.get nm_p_leads fi139.nt (cl_p_leads _ lf) lf st_p_leads (A_p_leads g lf) fi139.body [] (argGo (argV [(.list cRule), .str, .str] (x1, x2, x3, ())) 0 .leaf) S0 [] (lastK ttT.get fi139 ⟨[(.list cRule), .str, .str], [(false, .bool)], g⟩) = F_p_leads lf x1 x2 x3 := by
    refine (in_p_leads g (A_p_leads g lf) lf x1 x2 x3).trans ?_
    rfl
theorem hxs_p_leads : HxsOK Try.prog hxl_p_leads := trivial
theorem mk_p_leads {g : ElA [(.list cRule), .str, .str] → Option Rt_p_leads} (hsm : SmOK Try.prog sml_p_leads) (hg : ∀ (x : ElA [(.list cRule), .str, .str]) (y : Rt_p_leads), WfA [(.list cRule), .str, .str] x → g x = some y → ∃ lf, F_p_leads lf x.1 x.2.1 x.2.2.1 = some y) : Con Try.prog 139 ⟨[(.list cRule), .str, .str], [(false, .bool)], g⟩ :=
  conT (nmf := nm_p_leads) (sml := sml_p_leads) (hxl := hxl_p_leads) (st := st_p_leads) (hd := hd_p_leads) 20 mixed ttOK ftOK hsm hxs_p_leads cal139 rfl rfl (by kernel_rfl) (fun x => by kernel_rfl) nd_p_leads ok_p_leads fun x y hx hy => by
    obtain ⟨lf, h⟩ := hg x y hx hy
    exact ⟨lf, (run_p_leads g lf x.1 x.2.1 x.2.2.1).trans h⟩
def nm_p_fits : Nat → Option Nm := fun k => none
def st_p_fits : Nat → Bool := fun k => false
def hd_p_fits : Nat → Bool := fun k => false
abbrev Rt_p_fits : Type := Bool × Unit
def sml_p_fits : List (Nat × Sm) := [(83, sp_p_within), (139, sp_p_leads)]
def hxl_p_fits : List (Nat × Hx) := []
def cl_p_fits (R : Type) (lf : Nat) : ClK R := icallK Try.prog ttT.get ftT.get (nm1 138 nm_p_fits) (smL sml_p_fits) (hxL hxl_p_fits) lf 20 R
abbrev id_p_fits : Nat := 138
def R_p_fits_in (lf : Nat) (x1 : (List DRule)) (x2 : DGive) (x3 : DCol) (x4 : DCol) : Option Rt_p_fits := (cond (ieqI x2.2.1 (Int.ofNat 1)) (cond (ieqI x3.2.1 x4.2.1) (cond (Bool.not (ieqI x3.2.1 (Int.ofNat 3))) (some (Bool.true, ())) (some ((Go.Proofs.Ytcnhjofpmpipfaa.S.leads x1 x3.2.2 x4.2.2), ()))) (some (Bool.false, ()))) (cond (ieqI x2.2.1 (Int.ofNat 2)) (cond (ieqI x3.2.1 (Int.ofNat 2)) (some ((ieqI x4.2.1 (Int.ofNat 1)), ())) (some (Bool.false, ()))) (cond (ieqI x2.2.1 (Int.ofNat 3)) (cond (ieqI x3.2.1 (Int.ofNat 1)) (some ((ieqI x4.2.1 (Int.ofNat 2)), ())) (some (Bool.false, ()))) (cond (ieqI x2.2.1 (Int.ofNat 4)) (cond (ieqI x3.2.1 (Int.ofNat 1)) (some ((ieqI x4.2.1 (Int.ofNat 1)), ())) (some (Bool.false, ()))) (cond (ieqI x2.2.1 (Int.ofNat 5)) (cond (ieqI x3.2.1 (Int.ofNat 3)) (cond (ieqI x4.2.1 (Int.ofNat 3)) (some ((Go.Proofs.Ytcnhjofpmpipfaa.S.leads x1 x3.2.2 x4.2.2), ())) (some (Bool.false, ()))) (some (Bool.false, ()))) (cond (ieqI x2.2.1 (Int.ofNat 6)) (cond (ieqI x4.2.1 (Int.ofNat 1)) (some (Bool.true, ())) (cond (ieqI x4.2.1 (Int.ofNat 2)) (some ((Go.Proofs.Ytcnhjofpmpipfaa.S.within x2.2.2 (Int.ofNat 0) (Int.ofNat 1)), ())) (some (Bool.false, ())))) (some ((ieqI x4.2.1 (Int.ofNat 3)), ()))))))))
theorem in_p_fits (g : ElA [(.list cRule), cGive, cCol, cCol] → Option Rt_p_fits) (J : Nat → List Nat → NRes → Option Rt_p_fits) (lf : Nat) (x1 : (List DRule)) (x2 : DGive) (x3 : DCol) (x4 : DCol) : icodeT Try.prog ttT.get nm_p_fits fi138.nt (cl_p_fits _ lf) lf st_p_fits J fi138.body [] (argGo (argV [(.list cRule), cGive, cCol, cCol] (x1, x2, x3, x4, ())) 0 .leaf) S0 [] (lastK ttT.get fi138 ⟨[(.list cRule), cGive, cCol, cCol], [(false, .bool)], g⟩) = R_p_fits_in lf x1 x2 x3 x4 := by kernel_rfl
theorem nd_p_fits : (regs fi138.body).Nodup := by decide +kernel
theorem ok_p_fits : okC nm_p_fits st_p_fits hd_p_fits fi138.body none = true := by kernel_rfl
def A_p_fits (g : ElA [(.list cRule), cGive, cCol, cCol] → Option Rt_p_fits) (lf : Nat) : Nat → List Nat → NRes → Option Rt_p_fits := atN Try.prog ttT.get nm_p_fits fi138 ⟨[(.list cRule), cGive, cCol, cCol], [(false, .bool)], g⟩ (cl_p_fits _ lf) lf hd_p_fits
def F_p_fits (lf : Nat) (x1 : (List DRule)) (x2 : DGive) (x3 : DCol) (x4 : DCol) : Option Rt_p_fits := R_p_fits_in lf x1 x2 x3 x4
theorem run_p_fits (g : ElA [(.list cRule), cGive, cCol, cCol] → Option Rt_p_fits) (lf : Nat) (x1 : (List DRule)) (x2 : DGive) (x3 : DCol) (x4 : DCol) : icodeT Try.prog ttT.get nm_p_fits fi138.nt (cl_p_fits _ lf) lf st_p_fits (A_p_fits g lf) fi138.body [] (argGo (argV [(.list cRule), cGive, cCol, cCol] (x1, x2, x3, x4, ())) 0 .leaf) S0 [] (lastK ttT.get fi138 ⟨[(.list cRule), cGive, cCol, cCol], [(false, .bool)], g⟩) = F_p_fits lf x1 x2 x3 x4 := by
    refine (in_p_fits g (A_p_fits g lf) lf x1 x2 x3 x4).trans ?_
    rfl
theorem hxs_p_fits : HxsOK Try.prog hxl_p_fits := trivial
theorem mk_p_fits {g : ElA [(.list cRule), cGive, cCol, cCol] → Option Rt_p_fits} (hsm : SmOK Try.prog sml_p_fits) (hg : ∀ (x : ElA [(.list cRule), cGive, cCol, cCol]) (y : Rt_p_fits), WfA [(.list cRule), cGive, cCol, cCol] x → g x = some y → ∃ lf, F_p_fits lf x.1 x.2.1 x.2.2.1 x.2.2.2.1 = some y) : Con Try.prog 138 ⟨[(.list cRule), cGive, cCol, cCol], [(false, .bool)], g⟩ :=
  conT (nmf := nm_p_fits) (sml := sml_p_fits) (hxl := hxl_p_fits) (st := st_p_fits) (hd := hd_p_fits) 20 mixed ttOK ftOK hsm hxs_p_fits cal138 rfl rfl (by kernel_rfl) (fun x => by kernel_rfl) nd_p_fits ok_p_fits fun x y hx hy => by
    obtain ⟨lf, h⟩ := hg x y hx hy
    exact ⟨lf, (run_p_fits g lf x.1 x.2.1 x.2.2.1 x.2.2.2.1).trans h⟩
def nm_p_give : Nat → Option Nm := fun k => cond (Nat.beq k 8) (some ⟨[0, 2, 5, 7, 9, 10, 11], [], [], [], [], 0, 0, false⟩) (cond (Nat.beq k 11) (some ⟨[0, 2, 5, 7, 9, 10, 12], [], [], [], [], 0, 0, false⟩) (cond (Nat.beq k 13) (some ⟨[0, 5, 7, 12], [], [], [], [], 0, 0, false⟩) (none)))
def st_p_give : Nat → Bool := fun k => cond (Nat.beq k 8) true (cond (Nat.beq k 11) true (cond (Nat.beq k 13) true (false)))
def hd_p_give : Nat → Bool := fun k => false
abbrev Rt_p_give : Type := Int × Unit
def sml_p_give : List (Nat × Sm) := [(95, sp_p_col), (83, sp_p_within), (138, sp_p_fits)]
def hxl_p_give : List (Nat × Hx) := []
def cl_p_give (R : Type) (lf : Nat) : ClK R := icallK Try.prog ttT.get ftT.get (nm1 113 nm_p_give) (smL sml_p_give) (hxL hxl_p_give) lf 20 R
abbrev id_p_give : Nat := 113
def enc_p_give_8 (x1 : (List DRule)) (x2 : DGive) (x3 : (List DCol)) (x4 : DCol) (p : Int) : NRes := (NRes.mk (PT.node (some (IV.lst cRule x1)) (PT.node none (PT.node none (PT.node (some (IV.ptr 1 0)) PT.leaf PT.leaf) (PT.node (some (IV.int Go.IntKind.i64 p)) PT.leaf PT.leaf)) (PT.node (some (IV.ptr 0 0)) (PT.node (some (IV.int Go.IntKind.i64 (Go.Proofs.Ytcnhjofpmpipfaa.S.col x3 x2.1))) PT.leaf PT.leaf) PT.leaf)) (PT.node (some (IV.lst cCol x3)) PT.leaf (PT.node none (PT.node (some (IV.bool (Go.Proofs.Ytcnhjofpmpipfaa.S.within x2.2.1 (Int.ofNat 1) (Int.ofNat 5)))) PT.leaf PT.leaf) PT.leaf))) (IS.mk (PT.node (some (IObj.row (List.cons (IV.str x2.1) (List.cons (IV.int Go.IntKind.i64 x2.2.1) (List.cons (IV.int Go.IntKind.i64 x2.2.2) []))))) (PT.node (some (IObj.row (List.cons (IV.str x4.1) (List.cons (IV.int Go.IntKind.i64 x4.2.1) (List.cons (IV.str x4.2.2) []))))) PT.leaf PT.leaf) PT.leaf) 2) [] 0)
def enc_p_give_11 (x1 : (List DRule)) (x2 : DGive) (x3 : (List DCol)) (x4 : DCol) (p : Unit) : NRes := (NRes.mk (PT.node (some (IV.lst cRule x1)) (PT.node none (PT.node none (PT.node (some (IV.ptr 1 0)) PT.leaf PT.leaf) PT.leaf) (PT.node (some (IV.ptr 0 0)) (PT.node (some (IV.int Go.IntKind.i64 (Go.Proofs.Ytcnhjofpmpipfaa.S.col x3 x2.1))) PT.leaf PT.leaf) PT.leaf)) (PT.node (some (IV.lst cCol x3)) (PT.node none PT.leaf (PT.node (some (IV.ptr 2 0)) PT.leaf PT.leaf)) (PT.node none (PT.node (some (IV.bool (Go.Proofs.Ytcnhjofpmpipfaa.S.within x2.2.1 (Int.ofNat 1) (Int.ofNat 5)))) PT.leaf PT.leaf) PT.leaf))) (IS.mk (PT.node (some (IObj.row (List.cons (IV.str x2.1) (List.cons (IV.int Go.IntKind.i64 x2.2.1) (List.cons (IV.int Go.IntKind.i64 x2.2.2) []))))) (PT.node (some (IObj.row (List.cons (IV.str x4.1) (List.cons (IV.int Go.IntKind.i64 x4.2.1) (List.cons (IV.str x4.2.2) []))))) PT.leaf PT.leaf) (PT.node (some (IObj.row (List.cons (IV.str (S.lit [])) (List.cons (IV.int Go.IntKind.i64 (Int.ofNat 0)) (List.cons (IV.str (S.lit [])) []))))) PT.leaf PT.leaf)) 3) [] 0)
def enc_p_give_13 (x1 : (List DRule)) (x2 : DGive) (x3 : (List DCol)) (x4 : DCol) (p : ByteArray × Int × ByteArray) : NRes := (NRes.mk (PT.node (some (IV.lst cRule x1)) (PT.node none (PT.node none (PT.node (some (IV.ptr 1 0)) PT.leaf PT.leaf) PT.leaf) (PT.node (some (IV.ptr 0 0)) PT.leaf PT.leaf)) (PT.node none (PT.node none PT.leaf (PT.node (some (IV.ptr 2 0)) PT.leaf PT.leaf)) PT.leaf)) (IS.mk (PT.node (some (IObj.row (List.cons (IV.str x2.1) (List.cons (IV.int Go.IntKind.i64 x2.2.1) (List.cons (IV.int Go.IntKind.i64 x2.2.2) []))))) (PT.node (some (IObj.row (List.cons (IV.str x4.1) (List.cons (IV.int Go.IntKind.i64 x4.2.1) (List.cons (IV.str x4.2.2) []))))) PT.leaf PT.leaf) (PT.node (some (IObj.row (List.cons (IV.str p.1) (List.cons (IV.int Go.IntKind.i64 p.2.1) (List.cons (IV.str p.2.2) []))))) PT.leaf PT.leaf)) 3) [] 0)
def R_p_give_in (lf : Nat) (x1 : (List DRule)) (x2 : DGive) (x3 : (List DCol)) (x4 : DCol) (L8 : Int → Option Rt_p_give) : Option Rt_p_give := (cond (Go.Proofs.Ytcnhjofpmpipfaa.S.within x2.2.1 (Int.ofNat 1) (Int.ofNat 5)) (cond (iltI (Go.Proofs.Ytcnhjofpmpipfaa.S.col x3 x2.1) (Int.ofNat 0)) (some ((Int.ofNat 4), ())) (cond (ieqI x2.2.1 (Int.ofNat 4)) (L8 (Int.ofNat 1099511627776)) (cond (ieqI x2.2.1 (Int.ofNat 6)) (L8 (Int.ofNat 1099511627776)) (L8 (Int.ofNat 0))))) (cond (ieqI x2.2.1 (Int.ofNat 4)) (L8 (Int.ofNat 1099511627776)) (cond (ieqI x2.2.1 (Int.ofNat 6)) (L8 (Int.ofNat 1099511627776)) (L8 (Int.ofNat 0)))))
def R_p_give_8 (lf : Nat) (x1 : (List DRule)) (x2 : DGive) (x3 : (List DCol)) (x4 : DCol) (L11 : Unit → Option Rt_p_give) (p : Int) : Option Rt_p_give := (cond (Bool.not (Go.Proofs.Ytcnhjofpmpipfaa.S.within x2.2.1 (Int.ofNat 1) (Int.ofNat 7))) (some ((Int.ofNat 1), ())) (cond (Bool.not (Go.Proofs.Ytcnhjofpmpipfaa.S.within x2.2.1 (Int.ofNat 1) (Int.ofNat 5))) (cond (Bool.not (keqS x2.1 (S.lit []))) (some ((Int.ofNat 1), ())) (cond (Bool.not (Go.Proofs.Ytcnhjofpmpipfaa.S.within x2.2.2 (Go.IntKind.wrap Go.IntKind.i64 (Int.sub (Int.ofNat 0) p)) p)) (some ((Int.ofNat 1), ())) (cond (ieqI x2.2.1 (Int.ofNat 6)) (cond (ieqI x4.2.1 (Int.ofNat 2)) (cond (Bool.not (Go.Proofs.Ytcnhjofpmpipfaa.S.within x2.2.2 (Int.ofNat 0) (Int.ofNat 1))) (some ((Int.ofNat 1), ())) (L11 ())) (L11 ())) (L11 ())))) (cond (Bool.not (Go.Proofs.Ytcnhjofpmpipfaa.S.within x2.2.2 (Go.IntKind.wrap Go.IntKind.i64 (Int.sub (Int.ofNat 0) p)) p)) (some ((Int.ofNat 1), ())) (cond (ieqI x2.2.1 (Int.ofNat 6)) (cond (ieqI x4.2.1 (Int.ofNat 2)) (cond (Bool.not (Go.Proofs.Ytcnhjofpmpipfaa.S.within x2.2.2 (Int.ofNat 0) (Int.ofNat 1))) (some ((Int.ofNat 1), ())) (L11 ())) (L11 ())) (L11 ())))))
def R_p_give_11 (lf : Nat) (x1 : (List DRule)) (x2 : DGive) (x3 : (List DCol)) (x4 : DCol) (L13 : (ByteArray × Int × ByteArray) → Option Rt_p_give) (p : Unit) : Option Rt_p_give := (cond (Go.Proofs.Ytcnhjofpmpipfaa.S.within x2.2.1 (Int.ofNat 1) (Int.ofNat 5)) (match (jget x3 (Go.Proofs.Ytcnhjofpmpipfaa.S.col x3 x2.1)) with | .none  => none | .some v0 => (L13 (v0.1, v0.2.1, v0.2.2))) (L13 ((S.lit []), (Int.ofNat 0), (S.lit []))))
def R_p_give_13 (lf : Nat) (x1 : (List DRule)) (x2 : DGive) (x3 : (List DCol)) (x4 : DCol) (p : ByteArray × Int × ByteArray) : Option Rt_p_give := (cond (Go.Proofs.Ytcnhjofpmpipfaa.S.fits x1 (x2.1, (x2.2.1, x2.2.2)) (p.1, (p.2.1, p.2.2)) (x4.1, (x4.2.1, x4.2.2))) (some ((Int.ofNat 0), ())) (some ((Int.ofNat 8), ())))
theorem in_p_give (g : ElA [(.list cRule), cGive, (.list cCol), cCol] → Option Rt_p_give) (J : Nat → List Nat → NRes → Option Rt_p_give) (lf : Nat) (x1 : (List DRule)) (x2 : DGive) (x3 : (List DCol)) (x4 : DCol) : icodeT Try.prog ttT.get nm_p_give fi113.nt (cl_p_give _ lf) lf st_p_give J fi113.body [] (argGo (argV [(.list cRule), cGive, (.list cCol), cCol] (x1, x2, x3, x4, ())) 0 .leaf) S0 [] (lastK ttT.get fi113 ⟨[(.list cRule), cGive, (.list cCol), cCol], [(false, (.int .i64))], g⟩) = R_p_give_in lf x1 x2 x3 x4 (fun q => J 8 [] (enc_p_give_8 x1 x2 x3 x4 q)) := by kernel_rfl
theorem st_p_give_8 (g : ElA [(.list cRule), cGive, (.list cCol), cCol] → Option Rt_p_give) (J : Nat → List Nat → NRes → Option Rt_p_give) (lf : Nat) (x1 : (List DRule)) (x2 : DGive) (x3 : (List DCol)) (x4 : DCol) (p : Int) : icodeFT Try.prog ttT.get nm_p_give fi113.nt (cl_p_give _ lf) lf st_p_give J 8 fi113.body [] [] (enc_p_give_8 x1 x2 x3 x4 p) (lastK ttT.get fi113 ⟨[(.list cRule), cGive, (.list cCol), cCol], [(false, (.int .i64))], g⟩) = R_p_give_8 lf x1 x2 x3 x4 (fun q => J 11 [] (enc_p_give_11 x1 x2 x3 x4 q)) p := by kernel_rfl
theorem st_p_give_11 (g : ElA [(.list cRule), cGive, (.list cCol), cCol] → Option Rt_p_give) (J : Nat → List Nat → NRes → Option Rt_p_give) (lf : Nat) (x1 : (List DRule)) (x2 : DGive) (x3 : (List DCol)) (x4 : DCol) (p : Unit) : icodeFT Try.prog ttT.get nm_p_give fi113.nt (cl_p_give _ lf) lf st_p_give J 11 fi113.body [] [] (enc_p_give_11 x1 x2 x3 x4 p) (lastK ttT.get fi113 ⟨[(.list cRule), cGive, (.list cCol), cCol], [(false, (.int .i64))], g⟩) = R_p_give_11 lf x1 x2 x3 x4 (fun q => J 13 [] (enc_p_give_13 x1 x2 x3 x4 q)) p := by kernel_rfl
theorem st_p_give_13 (g : ElA [(.list cRule), cGive, (.list cCol), cCol] → Option Rt_p_give) (J : Nat → List Nat → NRes → Option Rt_p_give) (lf : Nat) (x1 : (List DRule)) (x2 : DGive) (x3 : (List DCol)) (x4 : DCol) (p : ByteArray × Int × ByteArray) : icodeFT Try.prog ttT.get nm_p_give fi113.nt (cl_p_give _ lf) lf st_p_give J 13 fi113.body [] [] (enc_p_give_13 x1 x2 x3 x4 p) (lastK ttT.get fi113 ⟨[(.list cRule), cGive, (.list cCol), cCol], [(false, (.int .i64))], g⟩) = R_p_give_13 lf x1 x2 x3 x4 p := by kernel_rfl
theorem nd_p_give : (regs fi113.body).Nodup := by decide +kernel
theorem ok_p_give : okC nm_p_give st_p_give hd_p_give fi113.body none = true := by kernel_rfl
def A_p_give (g : ElA [(.list cRule), cGive, (.list cCol), cCol] → Option Rt_p_give) (lf : Nat) : Nat → List Nat → NRes → Option Rt_p_give := atN Try.prog ttT.get nm_p_give fi113 ⟨[(.list cRule), cGive, (.list cCol), cCol], [(false, (.int .i64))], g⟩ (cl_p_give _ lf) lf hd_p_give
def G_p_give_13 (lf : Nat) (x1 : (List DRule)) (x2 : DGive) (x3 : (List DCol)) (x4 : DCol) (p : ByteArray × Int × ByteArray) : Option Rt_p_give := R_p_give_13 lf x1 x2 x3 x4 p
theorem at_p_give_13 (g : ElA [(.list cRule), cGive, (.list cCol), cCol] → Option Rt_p_give) (lf : Nat) (x1 : (List DRule)) (x2 : DGive) (x3 : (List DCol)) (x4 : DCol) (p : ByteArray × Int × ByteArray) : A_p_give g lf 13 [] (enc_p_give_13 x1 x2 x3 x4 p) = G_p_give_13 lf x1 x2 x3 x4 p := by
    refine (atN_eq (icallK_eq 20 _) nd_p_give ok_p_give 13 [] [] rfl _).trans ((st_p_give_13 g (A_p_give g lf) lf x1 x2 x3 x4 p).trans ?_)
    rfl
def G_p_give_11 (lf : Nat) (x1 : (List DRule)) (x2 : DGive) (x3 : (List DCol)) (x4 : DCol) (p : Unit) : Option Rt_p_give := R_p_give_11 lf x1 x2 x3 x4 (fun q => G_p_give_13 lf x1 x2 x3 x4 q) p
theorem at_p_give_11 (g : ElA [(.list cRule), cGive, (.list cCol), cCol] → Option Rt_p_give) (lf : Nat) (x1 : (List DRule)) (x2 : DGive) (x3 : (List DCol)) (x4 : DCol) (p : Unit) : A_p_give g lf 11 [] (enc_p_give_11 x1 x2 x3 x4 p) = G_p_give_11 lf x1 x2 x3 x4 p := by
    refine (atN_eq (icallK_eq 20 _) nd_p_give ok_p_give 11 [] [] rfl _).trans ((st_p_give_11 g (A_p_give g lf) lf x1 x2 x3 x4 p).trans ?_)
    rw [(show (fun q => A_p_give g lf 13 [] (enc_p_give_13 x1 x2 x3 x4 q)) = (fun q => G_p_give_13 lf x1 x2 x3 x4 q) from funext fun q => at_p_give_13 g lf x1 x2 x3 x4 q)]
    rfl
def G_p_give_8 (lf : Nat) (x1 : (List DRule)) (x2 : DGive) (x3 : (List DCol)) (x4 : DCol) (p : Int) : Option Rt_p_give := R_p_give_8 lf x1 x2 x3 x4 (fun q => G_p_give_11 lf x1 x2 x3 x4 q) p
theorem at_p_give_8 (g : ElA [(.list cRule), cGive, (.list cCol), cCol] → Option Rt_p_give) (lf : Nat) (x1 : (List DRule)) (x2 : DGive) (x3 : (List DCol)) (x4 : DCol) (p : Int) : A_p_give g lf 8 [] (enc_p_give_8 x1 x2 x3 x4 p) = G_p_give_8 lf x1 x2 x3 x4 p := by
    refine (atN_eq (icallK_eq 20 _) nd_p_give ok_p_give 8 [] [] rfl _).trans ((st_p_give_8 g (A_p_give g lf) lf x1 x2 x3 x4 p).trans ?_)
    rw [(show (fun q => A_p_give g lf 11 [] (enc_p_give_11 x1 x2 x3 x4 q)) = (fun q => G_p_give_11 lf x1 x2 x3 x4 q) from funext fun q => at_p_give_11 g lf x1 x2 x3 x4 q)]
    rfl
def F_p_give (lf : Nat) (x1 : (List DRule)) (x2 : DGive) (x3 : (List DCol)) (x4 : DCol) : Option Rt_p_give := R_p_give_in lf x1 x2 x3 x4 (fun q => G_p_give_8 lf x1 x2 x3 x4 q)
theorem run_p_give (g : ElA [(.list cRule), cGive, (.list cCol), cCol] → Option Rt_p_give) (lf : Nat) (x1 : (List DRule)) (x2 : DGive) (x3 : (List DCol)) (x4 : DCol) : icodeT Try.prog ttT.get nm_p_give fi113.nt (cl_p_give _ lf) lf st_p_give (A_p_give g lf) fi113.body [] (argGo (argV [(.list cRule), cGive, (.list cCol), cCol] (x1, x2, x3, x4, ())) 0 .leaf) S0 [] (lastK ttT.get fi113 ⟨[(.list cRule), cGive, (.list cCol), cCol], [(false, (.int .i64))], g⟩) = F_p_give lf x1 x2 x3 x4 := by
    refine (in_p_give g (A_p_give g lf) lf x1 x2 x3 x4).trans ?_
    rw [(show (fun q => A_p_give g lf 8 [] (enc_p_give_8 x1 x2 x3 x4 q)) = (fun q => G_p_give_8 lf x1 x2 x3 x4 q) from funext fun q => at_p_give_8 g lf x1 x2 x3 x4 q)]
    rfl
theorem hxs_p_give : HxsOK Try.prog hxl_p_give := trivial
theorem mk_p_give {g : ElA [(.list cRule), cGive, (.list cCol), cCol] → Option Rt_p_give} (hsm : SmOK Try.prog sml_p_give) (hg : ∀ (x : ElA [(.list cRule), cGive, (.list cCol), cCol]) (y : Rt_p_give), WfA [(.list cRule), cGive, (.list cCol), cCol] x → g x = some y → ∃ lf, F_p_give lf x.1 x.2.1 x.2.2.1 x.2.2.2.1 = some y) : Con Try.prog 113 ⟨[(.list cRule), cGive, (.list cCol), cCol], [(false, (.int .i64))], g⟩ :=
  conT (nmf := nm_p_give) (sml := sml_p_give) (hxl := hxl_p_give) (st := st_p_give) (hd := hd_p_give) 20 mixed ttOK ftOK hsm hxs_p_give cal113 rfl rfl (by kernel_rfl) (fun x => by kernel_rfl) nd_p_give ok_p_give fun x y hx hy => by
    obtain ⟨lf, h⟩ := hg x y hx hy
    exact ⟨lf, (run_p_give g lf x.1 x.2.1 x.2.2.1 x.2.2.2.1).trans h⟩
def nm_p_checkRules : Nat → Option Nm := fun k => cond (Nat.beq k 4) (some ⟨[0, 1, 2, 25, 26, 27], [], [], [], [], 0, 0, false⟩) (cond (Nat.beq k 13) (some ⟨[0, 1, 2, 55, 56, 57], [], [], [], [], 0, 0, false⟩) (cond (Nat.beq k 20) (some ⟨[0, 1, 2, 71, 72, 73], [], [], [], [], 0, 0, false⟩) (cond (Nat.beq k 26) (some ⟨[0, 1, 2, 17, 18, 71, 72, 73, 100, 101, 102], [], [], [], [], 0, 0, false⟩) (none))))
def st_p_checkRules : Nat → Bool := fun k => cond (Nat.beq k 4) true (cond (Nat.beq k 13) true (cond (Nat.beq k 20) true (cond (Nat.beq k 26) true (false))))
def hd_p_checkRules : Nat → Bool := fun k => cond (Nat.beq k 4) true (cond (Nat.beq k 13) true (cond (Nat.beq k 20) true (cond (Nat.beq k 26) true (false))))
abbrev Rt_p_checkRules : Type := Int × Unit
def sml_p_checkRules : List (Nat × Sm) := [(52, sp_p_form), (75, sp_p_ruleOf), (113, sp_p_give)]
def hxl_p_checkRules : List (Nat × Hx) := []
def cl_p_checkRules (R : Type) (lf : Nat) : ClK R := icallK Try.prog ttT.get ftT.get (nm1 77 nm_p_checkRules) (smL sml_p_checkRules) (hxL hxl_p_checkRules) lf 20 R
abbrev id_p_checkRules : Nat := 77
def enc_p_checkRules_4 (x1 : (List DForm)) (x2 : (List DForm)) (x3 : (List DRule)) (p : Int) : NRes := (NRes.mk (PT.node (some (IV.lst cForm x1)) (PT.node (some (IV.lst cForm x2)) (PT.node none PT.leaf (PT.node none PT.leaf (PT.node (some (IV.int Go.IntKind.i64 p)) PT.leaf PT.leaf))) (PT.node none (PT.node none PT.leaf (PT.node (some (IV.lst cRule x3)) PT.leaf PT.leaf)) PT.leaf)) (PT.node (some (IV.lst cRule x3)) PT.leaf (PT.node none (PT.node none PT.leaf (PT.node (some (IV.int Go.IntKind.i64 (Int.ofNat (List.length x3)))) PT.leaf PT.leaf)) PT.leaf))) (IS.mk PT.leaf 0) [] 0)
def enc_p_checkRules_13 (x1 : (List DForm)) (x2 : (List DForm)) (x3 : (List DRule)) (p : Int) : NRes := (NRes.mk (PT.node (some (IV.lst cForm x1)) (PT.node (some (IV.lst cForm x2)) (PT.node none (PT.node none PT.leaf (PT.node none PT.leaf (PT.node (some (IV.lst cForm x1)) PT.leaf PT.leaf))) PT.leaf) (PT.node none (PT.node none PT.leaf (PT.node none PT.leaf (PT.node (some (IV.int Go.IntKind.i64 p)) PT.leaf PT.leaf))) PT.leaf)) (PT.node (some (IV.lst cRule x3)) (PT.node none (PT.node none PT.leaf (PT.node none PT.leaf (PT.node (some (IV.int Go.IntKind.i64 (Int.ofNat (List.length x1)))) PT.leaf PT.leaf))) PT.leaf) PT.leaf)) (IS.mk PT.leaf 0) [] 0)
def enc_p_checkRules_20 (x1 : (List DForm)) (x2 : (List DForm)) (x3 : (List DRule)) (p : Int) : NRes := (NRes.mk (PT.node (some (IV.lst cForm x1)) (PT.node (some (IV.lst cForm x2)) (PT.node none (PT.node none PT.leaf (PT.node none (PT.node none (PT.node (some (IV.lst cRule x3)) PT.leaf PT.leaf) PT.leaf) PT.leaf)) PT.leaf) (PT.node none (PT.node none PT.leaf (PT.node none (PT.node none (PT.node (some (IV.int Go.IntKind.i64 p)) PT.leaf PT.leaf) PT.leaf) PT.leaf)) PT.leaf)) (PT.node (some (IV.lst cRule x3)) (PT.node none (PT.node none PT.leaf (PT.node none (PT.node none (PT.node (some (IV.int Go.IntKind.i64 (Int.ofNat (List.length x3)))) PT.leaf PT.leaf) PT.leaf) PT.leaf)) PT.leaf) PT.leaf)) (IS.mk PT.leaf 0) [] 0)
def enc_p_checkRules_26 (x1 : (List DForm)) (x2 : (List DForm)) (x3 : (List DRule)) (p : (List DCol) × (List DCol) × (List DGive) × Int × Int) : NRes := (NRes.mk (PT.node (some (IV.lst cForm x1)) (PT.node (some (IV.lst cForm x2)) (PT.node none (PT.node none PT.leaf (PT.node none (PT.node none (PT.node (some (IV.lst cRule x3)) PT.leaf PT.leaf) PT.leaf) PT.leaf)) PT.leaf) (PT.node none (PT.node none (PT.node (some (IV.lst cCol p.2.1)) PT.leaf PT.leaf) (PT.node none (PT.node none (PT.node (some (IV.int Go.IntKind.i64 p.2.2.2.2)) PT.leaf PT.leaf) PT.leaf) PT.leaf)) (PT.node none (PT.node none (PT.node none PT.leaf (PT.node (some (IV.int Go.IntKind.i64 (Int.ofNat (List.length p.2.2.1)))) PT.leaf PT.leaf)) PT.leaf) PT.leaf))) (PT.node (some (IV.lst cRule x3)) (PT.node none (PT.node none PT.leaf (PT.node none (PT.node none (PT.node (some (IV.int Go.IntKind.i64 (Int.ofNat (List.length x3)))) PT.leaf PT.leaf) PT.leaf) PT.leaf)) (PT.node none (PT.node none (PT.node none PT.leaf (PT.node (some (IV.lst cGive p.2.2.1)) PT.leaf PT.leaf)) PT.leaf) PT.leaf)) (PT.node none (PT.node none (PT.node (some (IV.lst cCol p.1)) PT.leaf PT.leaf) PT.leaf) (PT.node none (PT.node none (PT.node none PT.leaf (PT.node (some (IV.int Go.IntKind.i64 p.2.2.2.1)) PT.leaf PT.leaf)) PT.leaf) PT.leaf)))) (IS.mk PT.leaf 0) [] 0)
def R_p_checkRules_in (lf : Nat) (x1 : (List DForm)) (x2 : (List DForm)) (x3 : (List DRule)) (L4 : Int → Option Rt_p_checkRules) : Option Rt_p_checkRules := (cond (iltI (Int.ofNat 24) (Int.ofNat (List.length x3))) (some ((Int.ofNat 3), ())) (L4 (Int.ofNat 0)))
def R_p_checkRules_4 (lf : Nat) (x1 : (List DForm)) (x2 : (List DForm)) (x3 : (List DRule)) (L4 : Int → Option Rt_p_checkRules) (L13 : Int → Option Rt_p_checkRules) (p : Int) : Option Rt_p_checkRules := (cond (iltI p (Int.ofNat (List.length x3))) (match (jget x3 p) with | .none  => none | .some v0 => (cond (iltI (Go.Proofs.Ytcnhjofpmpipfaa.S.form x1 v0.1) (Int.ofNat 0)) (some ((Int.ofNat 4), ())) (cond (iltI (Go.Proofs.Ytcnhjofpmpipfaa.S.form x2 v0.2.1) (Int.ofNat 0)) (some ((Int.ofNat 4), ())) (cond (lchk (Int.ofNat 0) p (Int.ofNat (List.length x3)) (Int.ofNat (List.length x3))) (cond (Go.Proofs.Ytcnhjofpmpipfaa.S.ruleOf (lsub x3 (Int.ofNat 0) p) v0.1).2 (some ((Int.ofNat 6), ())) (L4 (Go.IntKind.wrap Go.IntKind.i64 (Int.add p (Int.ofNat 1))))) none)))) (L13 (Int.ofNat 0)))
def R_p_checkRules_13 (lf : Nat) (x1 : (List DForm)) (x2 : (List DForm)) (x3 : (List DRule)) (L13 : Int → Option Rt_p_checkRules) (L20 : Int → Option Rt_p_checkRules) (p : Int) : Option Rt_p_checkRules := (cond (iltI p (Int.ofNat (List.length x1))) (match (jget x1 p) with | .none  => none | .some v0 => (cond (Bool.not (Go.Proofs.Ytcnhjofpmpipfaa.S.ruleOf x3 v0.1).2) (some ((Int.ofNat 5), ())) (L13 (Go.IntKind.wrap Go.IntKind.i64 (Int.add p (Int.ofNat 1)))))) (L20 (Int.ofNat 0)))
def R_p_checkRules_20 (lf : Nat) (x1 : (List DForm)) (x2 : (List DForm)) (x3 : (List DRule)) (L26 : ((List DCol) × (List DCol) × (List DGive) × Int × Int) → Option Rt_p_checkRules) (p : Int) : Option Rt_p_checkRules := (cond (iltI p (Int.ofNat (List.length x3))) (match (jget x3 p) with | .none  => none | .some v0 => (match (jget x1 (Go.Proofs.Ytcnhjofpmpipfaa.S.form x1 v0.1)) with | .none  => none | .some v1 => (match (jget x2 (Go.Proofs.Ytcnhjofpmpipfaa.S.form x2 v0.2.1)) with | .none  => none | .some v2 => (cond (Bool.not (ieqI (Int.ofNat (List.length v0.2.2)) (Int.ofNat (List.length v2.2)))) (some ((Int.ofNat 2), ())) (L26 (v2.2, v1.2, v0.2.2, (Int.ofNat 0), p)))))) (some ((Int.ofNat 0), ())))
def R_p_checkRules_26 (lf : Nat) (x1 : (List DForm)) (x2 : (List DForm)) (x3 : (List DRule)) (L26 : ((List DCol) × (List DCol) × (List DGive) × Int × Int) → Option Rt_p_checkRules) (L20 : Int → Option Rt_p_checkRules) (p : (List DCol) × (List DCol) × (List DGive) × Int × Int) : Option Rt_p_checkRules := (cond (iltI p.2.2.2.1 (Int.ofNat (List.length p.2.2.1))) (match (jget p.2.2.1 p.2.2.2.1) with | .none  => none | .some v0 => (match (jget p.1 p.2.2.2.1) with | .none  => none | .some v1 => (cond (Bool.not (ieqI (Go.Proofs.Ytcnhjofpmpipfaa.S.give x3 (v0.1, (v0.2.1, v0.2.2)) p.2.1 (v1.1, (v1.2.1, v1.2.2))) (Int.ofNat 0))) (some ((Go.Proofs.Ytcnhjofpmpipfaa.S.give x3 (v0.1, (v0.2.1, v0.2.2)) p.2.1 (v1.1, (v1.2.1, v1.2.2))), ())) (L26 (p.1, p.2.1, p.2.2.1, (Go.IntKind.wrap Go.IntKind.i64 (Int.add p.2.2.2.1 (Int.ofNat 1))), p.2.2.2.2))))) (L20 (Go.IntKind.wrap Go.IntKind.i64 (Int.add p.2.2.2.2 (Int.ofNat 1)))))
theorem in_p_checkRules (g : ElA [(.list cForm), (.list cForm), (.list cRule)] → Option Rt_p_checkRules) (J : Nat → List Nat → NRes → Option Rt_p_checkRules) (lf : Nat) (x1 : (List DForm)) (x2 : (List DForm)) (x3 : (List DRule)) : icodeT Try.prog ttT.get nm_p_checkRules fi77.nt (cl_p_checkRules _ lf) lf st_p_checkRules J fi77.body [] (argGo (argV [(.list cForm), (.list cForm), (.list cRule)] (x1, x2, x3, ())) 0 .leaf) S0 [] (lastK ttT.get fi77 ⟨[(.list cForm), (.list cForm), (.list cRule)], [(false, (.int .i64))], g⟩) = R_p_checkRules_in lf x1 x2 x3 (fun q => J 4 [lf] (enc_p_checkRules_4 x1 x2 x3 q)) := by kernel_rfl
theorem st_p_checkRules_4 (g : ElA [(.list cForm), (.list cForm), (.list cRule)] → Option Rt_p_checkRules) (J : Nat → List Nat → NRes → Option Rt_p_checkRules) (lf : Nat) (x1 : (List DForm)) (x2 : (List DForm)) (x3 : (List DRule)) (m1 : Nat) (p : Int) : icodeFT Try.prog ttT.get nm_p_checkRules fi77.nt (cl_p_checkRules _ lf) lf st_p_checkRules J 4 fi77.body [] [m1] (enc_p_checkRules_4 x1 x2 x3 p) (lastK ttT.get fi77 ⟨[(.list cForm), (.list cForm), (.list cRule)], [(false, (.int .i64))], g⟩) = R_p_checkRules_4 lf x1 x2 x3 (fun q => J 4 [m1] (enc_p_checkRules_4 x1 x2 x3 q)) (fun q => J 13 [lf] (enc_p_checkRules_13 x1 x2 x3 q)) p := by kernel_rfl
theorem st_p_checkRules_13 (g : ElA [(.list cForm), (.list cForm), (.list cRule)] → Option Rt_p_checkRules) (J : Nat → List Nat → NRes → Option Rt_p_checkRules) (lf : Nat) (x1 : (List DForm)) (x2 : (List DForm)) (x3 : (List DRule)) (m1 : Nat) (p : Int) : icodeFT Try.prog ttT.get nm_p_checkRules fi77.nt (cl_p_checkRules _ lf) lf st_p_checkRules J 13 fi77.body [] [m1] (enc_p_checkRules_13 x1 x2 x3 p) (lastK ttT.get fi77 ⟨[(.list cForm), (.list cForm), (.list cRule)], [(false, (.int .i64))], g⟩) = R_p_checkRules_13 lf x1 x2 x3 (fun q => J 13 [m1] (enc_p_checkRules_13 x1 x2 x3 q)) (fun q => J 20 [lf] (enc_p_checkRules_20 x1 x2 x3 q)) p := by kernel_rfl
theorem st_p_checkRules_20 (g : ElA [(.list cForm), (.list cForm), (.list cRule)] → Option Rt_p_checkRules) (J : Nat → List Nat → NRes → Option Rt_p_checkRules) (lf : Nat) (x1 : (List DForm)) (x2 : (List DForm)) (x3 : (List DRule)) (m1 : Nat) (p : Int) : icodeFT Try.prog ttT.get nm_p_checkRules fi77.nt (cl_p_checkRules _ lf) lf st_p_checkRules J 20 fi77.body [] [m1] (enc_p_checkRules_20 x1 x2 x3 p) (lastK ttT.get fi77 ⟨[(.list cForm), (.list cForm), (.list cRule)], [(false, (.int .i64))], g⟩) = R_p_checkRules_20 lf x1 x2 x3 (fun q => J 26 [m1, lf] (enc_p_checkRules_26 x1 x2 x3 q)) p := by kernel_rfl
theorem st_p_checkRules_26 (g : ElA [(.list cForm), (.list cForm), (.list cRule)] → Option Rt_p_checkRules) (J : Nat → List Nat → NRes → Option Rt_p_checkRules) (lf : Nat) (x1 : (List DForm)) (x2 : (List DForm)) (x3 : (List DRule)) (m1 : Nat) (m2 : Nat) (p : (List DCol) × (List DCol) × (List DGive) × Int × Int) : icodeFT Try.prog ttT.get nm_p_checkRules fi77.nt (cl_p_checkRules _ lf) lf st_p_checkRules J 26 fi77.body [] [m1, m2] (enc_p_checkRules_26 x1 x2 x3 p) (lastK ttT.get fi77 ⟨[(.list cForm), (.list cForm), (.list cRule)], [(false, (.int .i64))], g⟩) = R_p_checkRules_26 lf x1 x2 x3 (fun q => J 26 [m1, m2] (enc_p_checkRules_26 x1 x2 x3 q)) (fun q => J 20 [m1] (enc_p_checkRules_20 x1 x2 x3 q)) p := by kernel_rfl
theorem nd_p_checkRules : (regs fi77.body).Nodup := by decide +kernel
theorem ok_p_checkRules : okC nm_p_checkRules st_p_checkRules hd_p_checkRules fi77.body none = true := by kernel_rfl
def A_p_checkRules (g : ElA [(.list cForm), (.list cForm), (.list cRule)] → Option Rt_p_checkRules) (lf : Nat) : Nat → List Nat → NRes → Option Rt_p_checkRules := atN Try.prog ttT.get nm_p_checkRules fi77 ⟨[(.list cForm), (.list cForm), (.list cRule)], [(false, (.int .i64))], g⟩ (cl_p_checkRules _ lf) lf hd_p_checkRules
def G_p_checkRules_26 (lf : Nat) (x1 : (List DForm)) (x2 : (List DForm)) (x3 : (List DRule)) (K20 : Int → Option Rt_p_checkRules) : Nat → ((List DCol) × (List DCol) × (List DGive) × Int × Int) → Option Rt_p_checkRules := rounds fun K p => R_p_checkRules_26 lf x1 x2 x3 K K20 p
theorem at_p_checkRules_26 (g : ElA [(.list cForm), (.list cForm), (.list cRule)] → Option Rt_p_checkRules) (lf : Nat) (x1 : (List DForm)) (x2 : (List DForm)) (x3 : (List DRule)) (m1 : Nat) : ∀ (n : Nat) (p : (List DCol) × (List DCol) × (List DGive) × Int × Int), A_p_checkRules g lf 26 [m1, n] (enc_p_checkRules_26 x1 x2 x3 p) = G_p_checkRules_26 lf x1 x2 x3 (fun q => A_p_checkRules g lf 20 [m1] (enc_p_checkRules_20 x1 x2 x3 q)) n p
  | 0, p => atN_zero 26 [m1, 0] rfl _
  | n + 1, p => by
    have ih := at_p_checkRules_26 g lf x1 x2 x3 m1 n
    refine (atN_eq (icallK_eq 20 _) nd_p_checkRules ok_p_checkRules 26 [m1, n + 1] [m1, n] rfl _).trans ((st_p_checkRules_26 g (A_p_checkRules g lf) lf x1 x2 x3 m1 n p).trans ?_)
    rw [(show (fun q => A_p_checkRules g lf 26 [m1, n] (enc_p_checkRules_26 x1 x2 x3 q)) = (fun q => G_p_checkRules_26 lf x1 x2 x3 (fun q => A_p_checkRules g lf 20 [m1] (enc_p_checkRules_20 x1 x2 x3 q)) n q) from funext ih)]
    rfl
def G_p_checkRules_20 (lf : Nat) (x1 : (List DForm)) (x2 : (List DForm)) (x3 : (List DRule)) : Nat → (Int) → Option Rt_p_checkRules := rounds fun K p => R_p_checkRules_20 lf x1 x2 x3 (fun q => G_p_checkRules_26 lf x1 x2 x3 K lf q) p
theorem at_p_checkRules_20 (g : ElA [(.list cForm), (.list cForm), (.list cRule)] → Option Rt_p_checkRules) (lf : Nat) (x1 : (List DForm)) (x2 : (List DForm)) (x3 : (List DRule)) : ∀ (n : Nat) (p : Int), A_p_checkRules g lf 20 [n] (enc_p_checkRules_20 x1 x2 x3 p) = G_p_checkRules_20 lf x1 x2 x3 n p
  | 0, p => atN_zero 20 [0] rfl _
  | n + 1, p => by
    have ih := at_p_checkRules_20 g lf x1 x2 x3 n
    refine (atN_eq (icallK_eq 20 _) nd_p_checkRules ok_p_checkRules 20 [n + 1] [n] rfl _).trans ((st_p_checkRules_20 g (A_p_checkRules g lf) lf x1 x2 x3 n p).trans ?_)
    rw [(show (fun q => A_p_checkRules g lf 26 [n, lf] (enc_p_checkRules_26 x1 x2 x3 q)) = (fun q => G_p_checkRules_26 lf x1 x2 x3 (fun q => A_p_checkRules g lf 20 [n] (enc_p_checkRules_20 x1 x2 x3 q)) lf q) from funext fun q => at_p_checkRules_26 g lf x1 x2 x3 n lf q), (show (fun q => A_p_checkRules g lf 20 [n] (enc_p_checkRules_20 x1 x2 x3 q)) = (fun q => G_p_checkRules_20 lf x1 x2 x3 n q) from funext ih)]
    rfl
def G_p_checkRules_13 (lf : Nat) (x1 : (List DForm)) (x2 : (List DForm)) (x3 : (List DRule)) : Nat → (Int) → Option Rt_p_checkRules := rounds fun K p => R_p_checkRules_13 lf x1 x2 x3 K (fun q => G_p_checkRules_20 lf x1 x2 x3 lf q) p
theorem at_p_checkRules_13 (g : ElA [(.list cForm), (.list cForm), (.list cRule)] → Option Rt_p_checkRules) (lf : Nat) (x1 : (List DForm)) (x2 : (List DForm)) (x3 : (List DRule)) : ∀ (n : Nat) (p : Int), A_p_checkRules g lf 13 [n] (enc_p_checkRules_13 x1 x2 x3 p) = G_p_checkRules_13 lf x1 x2 x3 n p
  | 0, p => atN_zero 13 [0] rfl _
  | n + 1, p => by
    have ih := at_p_checkRules_13 g lf x1 x2 x3 n
    refine (atN_eq (icallK_eq 20 _) nd_p_checkRules ok_p_checkRules 13 [n + 1] [n] rfl _).trans ((st_p_checkRules_13 g (A_p_checkRules g lf) lf x1 x2 x3 n p).trans ?_)
    rw [(show (fun q => A_p_checkRules g lf 20 [lf] (enc_p_checkRules_20 x1 x2 x3 q)) = (fun q => G_p_checkRules_20 lf x1 x2 x3 lf q) from funext fun q => at_p_checkRules_20 g lf x1 x2 x3 lf q), (show (fun q => A_p_checkRules g lf 13 [n] (enc_p_checkRules_13 x1 x2 x3 q)) = (fun q => G_p_checkRules_13 lf x1 x2 x3 n q) from funext ih)]
    rfl
def G_p_checkRules_4 (lf : Nat) (x1 : (List DForm)) (x2 : (List DForm)) (x3 : (List DRule)) : Nat → (Int) → Option Rt_p_checkRules := rounds fun K p => R_p_checkRules_4 lf x1 x2 x3 K (fun q => G_p_checkRules_13 lf x1 x2 x3 lf q) p
theorem at_p_checkRules_4 (g : ElA [(.list cForm), (.list cForm), (.list cRule)] → Option Rt_p_checkRules) (lf : Nat) (x1 : (List DForm)) (x2 : (List DForm)) (x3 : (List DRule)) : ∀ (n : Nat) (p : Int), A_p_checkRules g lf 4 [n] (enc_p_checkRules_4 x1 x2 x3 p) = G_p_checkRules_4 lf x1 x2 x3 n p
  | 0, p => atN_zero 4 [0] rfl _
  | n + 1, p => by
    have ih := at_p_checkRules_4 g lf x1 x2 x3 n
    refine (atN_eq (icallK_eq 20 _) nd_p_checkRules ok_p_checkRules 4 [n + 1] [n] rfl _).trans ((st_p_checkRules_4 g (A_p_checkRules g lf) lf x1 x2 x3 n p).trans ?_)
    rw [(show (fun q => A_p_checkRules g lf 13 [lf] (enc_p_checkRules_13 x1 x2 x3 q)) = (fun q => G_p_checkRules_13 lf x1 x2 x3 lf q) from funext fun q => at_p_checkRules_13 g lf x1 x2 x3 lf q), (show (fun q => A_p_checkRules g lf 4 [n] (enc_p_checkRules_4 x1 x2 x3 q)) = (fun q => G_p_checkRules_4 lf x1 x2 x3 n q) from funext ih)]
    rfl
def F_p_checkRules (lf : Nat) (x1 : (List DForm)) (x2 : (List DForm)) (x3 : (List DRule)) : Option Rt_p_checkRules := R_p_checkRules_in lf x1 x2 x3 (fun q => G_p_checkRules_4 lf x1 x2 x3 lf q)
theorem run_p_checkRules (g : ElA [(.list cForm), (.list cForm), (.list cRule)] → Option Rt_p_checkRules) (lf : Nat) (x1 : (List DForm)) (x2 : (List DForm)) (x3 : (List DRule)) : icodeT Try.prog ttT.get nm_p_checkRules fi77.nt (cl_p_checkRules _ lf) lf st_p_checkRules (A_p_checkRules g lf) fi77.body [] (argGo (argV [(.list cForm), (.list cForm), (.list cRule)] (x1, x2, x3, ())) 0 .leaf) S0 [] (lastK ttT.get fi77 ⟨[(.list cForm), (.list cForm), (.list cRule)], [(false, (.int .i64))], g⟩) = F_p_checkRules lf x1 x2 x3 := by
    refine (in_p_checkRules g (A_p_checkRules g lf) lf x1 x2 x3).trans ?_
    rw [(show (fun q => A_p_checkRules g lf 4 [lf] (enc_p_checkRules_4 x1 x2 x3 q)) = (fun q => G_p_checkRules_4 lf x1 x2 x3 lf q) from funext fun q => at_p_checkRules_4 g lf x1 x2 x3 lf q)]
    rfl
theorem hxs_p_checkRules : HxsOK Try.prog hxl_p_checkRules := trivial
theorem mk_p_checkRules {g : ElA [(.list cForm), (.list cForm), (.list cRule)] → Option Rt_p_checkRules} (hsm : SmOK Try.prog sml_p_checkRules) (hg : ∀ (x : ElA [(.list cForm), (.list cForm), (.list cRule)]) (y : Rt_p_checkRules), WfA [(.list cForm), (.list cForm), (.list cRule)] x → g x = some y → ∃ lf, F_p_checkRules lf x.1 x.2.1 x.2.2.1 = some y) : Con Try.prog 77 ⟨[(.list cForm), (.list cForm), (.list cRule)], [(false, (.int .i64))], g⟩ :=
  conT (nmf := nm_p_checkRules) (sml := sml_p_checkRules) (hxl := hxl_p_checkRules) (st := st_p_checkRules) (hd := hd_p_checkRules) 20 mixed ttOK ftOK hsm hxs_p_checkRules cal77 rfl rfl (by kernel_rfl) (fun x => by kernel_rfl) nd_p_checkRules ok_p_checkRules fun x y hx hy => by
    obtain ⟨lf, h⟩ := hg x y hx hy
    exact ⟨lf, (run_p_checkRules g lf x.1 x.2.1 x.2.2.1).trans h⟩
def nm_p_CheckRules : Nat → Option Nm := fun k => none
def st_p_CheckRules : Nat → Bool := fun k => false
def hd_p_CheckRules : Nat → Bool := fun k => false
abbrev Rt_p_CheckRules : Type := Int × Unit
def sml_p_CheckRules : List (Nat × Sm) := [(16, sp_p_CheckForms), (49, sp_p_first), (77, sp_p_checkRules)]
def hxl_p_CheckRules : List (Nat × Hx) := []
def cl_p_CheckRules (R : Type) (lf : Nat) : ClK R := icallK Try.prog ttT.get ftT.get (nm1 29 nm_p_CheckRules) (smL sml_p_CheckRules) (hxL hxl_p_CheckRules) lf 20 R
abbrev id_p_CheckRules : Nat := 29
def R_p_CheckRules_in (lf : Nat) (x1 : (List DForm)) (x2 : (List DForm)) (x3 : (List DRule)) : Option Rt_p_CheckRules := (cond (Bool.not (ieqI (Go.Proofs.Ytcnhjofpmpipfaa.S.first (List.cons (Go.Proofs.Ytcnhjofpmpipfaa.S.checkForms x1) (List.cons (Go.Proofs.Ytcnhjofpmpipfaa.S.checkForms x2) []))) (Int.ofNat 0))) (some ((Go.Proofs.Ytcnhjofpmpipfaa.S.first (List.cons (Go.Proofs.Ytcnhjofpmpipfaa.S.checkForms x1) (List.cons (Go.Proofs.Ytcnhjofpmpipfaa.S.checkForms x2) []))), ())) (some ((Go.Proofs.Ytcnhjofpmpipfaa.S.checkRules0 x1 x2 x3), ())))
theorem in_p_CheckRules (g : ElA [(.list cForm), (.list cForm), (.list cRule)] → Option Rt_p_CheckRules) (J : Nat → List Nat → NRes → Option Rt_p_CheckRules) (lf : Nat) (x1 : (List DForm)) (x2 : (List DForm)) (x3 : (List DRule)) : icodeT Try.prog ttT.get nm_p_CheckRules fi29.nt (cl_p_CheckRules _ lf) lf st_p_CheckRules J fi29.body [] (argGo (argV [(.list cForm), (.list cForm), (.list cRule)] (x1, x2, x3, ())) 0 .leaf) S0 [] (lastK ttT.get fi29 ⟨[(.list cForm), (.list cForm), (.list cRule)], [(false, (.int .i64))], g⟩) = R_p_CheckRules_in lf x1 x2 x3 := by kernel_rfl
theorem nd_p_CheckRules : (regs fi29.body).Nodup := by decide +kernel
theorem ok_p_CheckRules : okC nm_p_CheckRules st_p_CheckRules hd_p_CheckRules fi29.body none = true := by kernel_rfl
def A_p_CheckRules (g : ElA [(.list cForm), (.list cForm), (.list cRule)] → Option Rt_p_CheckRules) (lf : Nat) : Nat → List Nat → NRes → Option Rt_p_CheckRules := atN Try.prog ttT.get nm_p_CheckRules fi29 ⟨[(.list cForm), (.list cForm), (.list cRule)], [(false, (.int .i64))], g⟩ (cl_p_CheckRules _ lf) lf hd_p_CheckRules
def F_p_CheckRules (lf : Nat) (x1 : (List DForm)) (x2 : (List DForm)) (x3 : (List DRule)) : Option Rt_p_CheckRules := R_p_CheckRules_in lf x1 x2 x3
theorem run_p_CheckRules (g : ElA [(.list cForm), (.list cForm), (.list cRule)] → Option Rt_p_CheckRules) (lf : Nat) (x1 : (List DForm)) (x2 : (List DForm)) (x3 : (List DRule)) : icodeT Try.prog ttT.get nm_p_CheckRules fi29.nt (cl_p_CheckRules _ lf) lf st_p_CheckRules (A_p_CheckRules g lf) fi29.body [] (argGo (argV [(.list cForm), (.list cForm), (.list cRule)] (x1, x2, x3, ())) 0 .leaf) S0 [] (lastK ttT.get fi29 ⟨[(.list cForm), (.list cForm), (.list cRule)], [(false, (.int .i64))], g⟩) = F_p_CheckRules lf x1 x2 x3 := by
    refine (in_p_CheckRules g (A_p_CheckRules g lf) lf x1 x2 x3).trans ?_
    rfl
theorem hxs_p_CheckRules : HxsOK Try.prog hxl_p_CheckRules := trivial
theorem mk_p_CheckRules {g : ElA [(.list cForm), (.list cForm), (.list cRule)] → Option Rt_p_CheckRules} (hsm : SmOK Try.prog sml_p_CheckRules) (hg : ∀ (x : ElA [(.list cForm), (.list cForm), (.list cRule)]) (y : Rt_p_CheckRules), WfA [(.list cForm), (.list cForm), (.list cRule)] x → g x = some y → ∃ lf, F_p_CheckRules lf x.1 x.2.1 x.2.2.1 = some y) : Con Try.prog 29 ⟨[(.list cForm), (.list cForm), (.list cRule)], [(false, (.int .i64))], g⟩ :=
  conT (nmf := nm_p_CheckRules) (sml := sml_p_CheckRules) (hxl := hxl_p_CheckRules) (st := st_p_CheckRules) (hd := hd_p_CheckRules) 20 mixed ttOK ftOK hsm hxs_p_CheckRules cal29 rfl rfl (by kernel_rfl) (fun x => by kernel_rfl) nd_p_CheckRules ok_p_CheckRules fun x y hx hy => by
    obtain ⟨lf, h⟩ := hg x y hx hy
    exact ⟨lf, (run_p_CheckRules g lf x.1 x.2.1 x.2.2.1).trans h⟩
def nm_p_made : Nat → Option Nm := fun k => none
def st_p_made : Nat → Bool := fun k => false
def hd_p_made : Nat → Bool := fun k => false
abbrev Rt_p_made : Type := DVal × Bool × Unit
def sml_p_made : List (Nat × Sm) := [(95, sp_p_col), (83, sp_p_within)]
def hxl_p_made : List (Nat × Hx) := []
def cl_p_made (R : Type) (lf : Nat) : ClK R := icallK Try.prog ttT.get ftT.get (nm1 76 nm_p_made) (smL sml_p_made) (hxL hxl_p_made) lf 20 R
abbrev id_p_made : Nat := 76
def R_p_made_in (lf : Nat) (x1 : DGive) (x2 : (List DCol)) (x3 : (List DVal)) (x4 : DCol) : Option Rt_p_made := (cond (ieqI x1.2.1 (Int.ofNat 6)) (cond (ieqI x4.2.1 (Int.ofNat 2)) (some (((Int.ofNat 2), x1.2.2), (Bool.true, ()))) (some (((Int.ofNat 1), x1.2.2), (Bool.true, ())))) (cond (ieqI x1.2.1 (Int.ofNat 7)) (some (((Int.ofNat 3), (Int.ofNat 0)), (Bool.true, ()))) (match (jget x3 (Go.Proofs.Ytcnhjofpmpipfaa.S.col x2 x1.1)) with | .none  => none | .some v0 => (cond (ieqI x1.2.1 (Int.ofNat 2)) (some (((Int.ofNat 1), v0.2), (Bool.true, ()))) (cond (ieqI x1.2.1 (Int.ofNat 3)) (some (((Int.ofNat 2), v0.2), ((Go.Proofs.Ytcnhjofpmpipfaa.S.within v0.2 (Int.ofNat 0) (Int.ofNat 1)), ()))) (cond (ieqI x1.2.1 (Int.ofNat 4)) (some ((v0.1, v0.2), ((iltI v0.2 x1.2.2), ()))) (cond (ieqI x1.2.1 (Int.ofNat 5)) (some ((v0.1, v0.2), ((ieqI v0.1 (Int.ofNat 4)), ()))) (some ((v0.1, v0.2), (Bool.true, ()))))))))))
theorem in_p_made (g : ElA [cGive, (.list cCol), (.list cVal), cCol] → Option Rt_p_made) (J : Nat → List Nat → NRes → Option Rt_p_made) (lf : Nat) (x1 : DGive) (x2 : (List DCol)) (x3 : (List DVal)) (x4 : DCol) : icodeT Try.prog ttT.get nm_p_made fi76.nt (cl_p_made _ lf) lf st_p_made J fi76.body [] (argGo (argV [cGive, (.list cCol), (.list cVal), cCol] (x1, x2, x3, x4, ())) 0 .leaf) S0 [] (lastK ttT.get fi76 ⟨[cGive, (.list cCol), (.list cVal), cCol], [(false, cVal), (false, .bool)], g⟩) = R_p_made_in lf x1 x2 x3 x4 := by kernel_rfl
theorem nd_p_made : (regs fi76.body).Nodup := by decide +kernel
theorem ok_p_made : okC nm_p_made st_p_made hd_p_made fi76.body none = true := by kernel_rfl
def A_p_made (g : ElA [cGive, (.list cCol), (.list cVal), cCol] → Option Rt_p_made) (lf : Nat) : Nat → List Nat → NRes → Option Rt_p_made := atN Try.prog ttT.get nm_p_made fi76 ⟨[cGive, (.list cCol), (.list cVal), cCol], [(false, cVal), (false, .bool)], g⟩ (cl_p_made _ lf) lf hd_p_made
def F_p_made (lf : Nat) (x1 : DGive) (x2 : (List DCol)) (x3 : (List DVal)) (x4 : DCol) : Option Rt_p_made := R_p_made_in lf x1 x2 x3 x4
theorem run_p_made (g : ElA [cGive, (.list cCol), (.list cVal), cCol] → Option Rt_p_made) (lf : Nat) (x1 : DGive) (x2 : (List DCol)) (x3 : (List DVal)) (x4 : DCol) : icodeT Try.prog ttT.get nm_p_made fi76.nt (cl_p_made _ lf) lf st_p_made (A_p_made g lf) fi76.body [] (argGo (argV [cGive, (.list cCol), (.list cVal), cCol] (x1, x2, x3, x4, ())) 0 .leaf) S0 [] (lastK ttT.get fi76 ⟨[cGive, (.list cCol), (.list cVal), cCol], [(false, cVal), (false, .bool)], g⟩) = F_p_made lf x1 x2 x3 x4 := by
    refine (in_p_made g (A_p_made g lf) lf x1 x2 x3 x4).trans ?_
    rfl
theorem hxs_p_made : HxsOK Try.prog hxl_p_made := trivial
theorem mk_p_made {g : ElA [cGive, (.list cCol), (.list cVal), cCol] → Option Rt_p_made} (hsm : SmOK Try.prog sml_p_made) (hg : ∀ (x : ElA [cGive, (.list cCol), (.list cVal), cCol]) (y : Rt_p_made), WfA [cGive, (.list cCol), (.list cVal), cCol] x → g x = some y → ∃ lf, F_p_made lf x.1 x.2.1 x.2.2.1 x.2.2.2.1 = some y) : Con Try.prog 76 ⟨[cGive, (.list cCol), (.list cVal), cCol], [(false, cVal), (false, .bool)], g⟩ :=
  conT (nmf := nm_p_made) (sml := sml_p_made) (hxl := hxl_p_made) (st := st_p_made) (hd := hd_p_made) 20 mixed ttOK ftOK hsm hxs_p_made cal76 rfl rfl (by kernel_rfl) (fun x => by kernel_rfl) nd_p_made ok_p_made fun x y hx hy => by
    obtain ⟨lf, h⟩ := hg x y hx hy
    exact ⟨lf, (run_p_made g lf x.1 x.2.1 x.2.2.1 x.2.2.2.1).trans h⟩
def nm_slices_Clone_Val : Nat → Option Nm := fun k => none
def st_slices_Clone_Val : Nat → Bool := fun k => false
def hd_slices_Clone_Val : Nat → Bool := fun k => false
abbrev Rt_slices_Clone_Val : Type := (List DVal) × Unit
def sml_slices_Clone_Val : List (Nat × Sm) := []
def hxl_slices_Clone_Val : List (Nat × Hx) := []
def cl_slices_Clone_Val (R : Type) (lf : Nat) : ClK R := icallK Try.prog ttT.get ftT.get (nm1 74 nm_slices_Clone_Val) (smL sml_slices_Clone_Val) (hxL hxl_slices_Clone_Val) lf 20 R
abbrev id_slices_Clone_Val : Nat := 74
def R_slices_Clone_Val_in (lf : Nat) (x1 : (List DVal)) : Option Rt_slices_Clone_Val := (match x1 with | .nil  => none | .cons v0 v1 => (cond (Nat.ble (Nat.mul (Nat.add 0 (List.length x1)) 16) 140737488355328) (some (x1, ())) none))
theorem in_slices_Clone_Val (g : ElA [(.list cVal)] → Option Rt_slices_Clone_Val) (J : Nat → List Nat → NRes → Option Rt_slices_Clone_Val) (lf : Nat) (x1 : (List DVal)) : icodeT Try.prog ttT.get nm_slices_Clone_Val fi74.nt (cl_slices_Clone_Val _ lf) lf st_slices_Clone_Val J fi74.body [] (argGo (argV [(.list cVal)] (x1, ())) 0 .leaf) S0 [] (lastK ttT.get fi74 ⟨[(.list cVal)], [(false, (.list cVal))], g⟩) = R_slices_Clone_Val_in lf x1 := by kernel_rfl
theorem nd_slices_Clone_Val : (regs fi74.body).Nodup := by decide +kernel
theorem ok_slices_Clone_Val : okC nm_slices_Clone_Val st_slices_Clone_Val hd_slices_Clone_Val fi74.body none = true := by kernel_rfl
def A_slices_Clone_Val (g : ElA [(.list cVal)] → Option Rt_slices_Clone_Val) (lf : Nat) : Nat → List Nat → NRes → Option Rt_slices_Clone_Val := atN Try.prog ttT.get nm_slices_Clone_Val fi74 ⟨[(.list cVal)], [(false, (.list cVal))], g⟩ (cl_slices_Clone_Val _ lf) lf hd_slices_Clone_Val
def F_slices_Clone_Val (lf : Nat) (x1 : (List DVal)) : Option Rt_slices_Clone_Val := R_slices_Clone_Val_in lf x1
theorem run_slices_Clone_Val (g : ElA [(.list cVal)] → Option Rt_slices_Clone_Val) (lf : Nat) (x1 : (List DVal)) : icodeT Try.prog ttT.get nm_slices_Clone_Val fi74.nt (cl_slices_Clone_Val _ lf) lf st_slices_Clone_Val (A_slices_Clone_Val g lf) fi74.body [] (argGo (argV [(.list cVal)] (x1, ())) 0 .leaf) S0 [] (lastK ttT.get fi74 ⟨[(.list cVal)], [(false, (.list cVal))], g⟩) = F_slices_Clone_Val lf x1 := by
    refine (in_slices_Clone_Val g (A_slices_Clone_Val g lf) lf x1).trans ?_
    rfl
theorem hxs_slices_Clone_Val : HxsOK Try.prog hxl_slices_Clone_Val := trivial
theorem mk_slices_Clone_Val {g : ElA [(.list cVal)] → Option Rt_slices_Clone_Val} (hsm : SmOK Try.prog sml_slices_Clone_Val) (hg : ∀ (x : ElA [(.list cVal)]) (y : Rt_slices_Clone_Val), WfA [(.list cVal)] x → g x = some y → ∃ lf, F_slices_Clone_Val lf x.1 = some y) : Con Try.prog 74 ⟨[(.list cVal)], [(false, (.list cVal))], g⟩ :=
  conT (nmf := nm_slices_Clone_Val) (sml := sml_slices_Clone_Val) (hxl := hxl_slices_Clone_Val) (st := st_slices_Clone_Val) (hd := hd_slices_Clone_Val) 20 mixed ttOK ftOK hsm hxs_slices_Clone_Val cal74 rfl rfl (by kernel_rfl) (fun x => by kernel_rfl) nd_slices_Clone_Val ok_slices_Clone_Val fun x y hx hy => by
    obtain ⟨lf, h⟩ := hg x y hx hy
    exact ⟨lf, (run_slices_Clone_Val g lf x.1).trans h⟩
def nm_p_Convert : Nat → Option Nm := fun k => cond (Nat.beq k 9) (some ⟨[0, 1, 2, 8, 9, 13, 48, 49, 50], [], [(13, 0, cNode)], [], [], 0, 0, false⟩) (cond (Nat.beq k 15) (some ⟨[0, 1, 2, 8, 9, 13, 14, 15, 16, 18, 19, 48, 49, 50, 80, 81, 82], [], [(13, 0, cNode), (19, 1, cVal)], [], [], 0, 0, false⟩) (none))
def st_p_Convert : Nat → Bool := fun k => cond (Nat.beq k 9) true (cond (Nat.beq k 15) true (false))
def hd_p_Convert : Nat → Bool := fun k => cond (Nat.beq k 9) true (cond (Nat.beq k 15) true (false))
abbrev Rt_p_Convert : Type := DGraph × DRefusal × Int × Unit
def sml_p_Convert : List (Nat × Sm) := [(29, sp_p_CheckRules), (59, sp_p_check), (49, sp_p_first), (74, sp_slices_Clone_Val), (75, sp_p_ruleOf), (52, sp_p_form), (76, sp_p_made)]
def hxl_p_Convert : List (Nat × Hx) := []
def cl_p_Convert (R : Type) (lf : Nat) : ClK R := icallK Try.prog ttT.get ftT.get (nm1 28 nm_p_Convert) (smL sml_p_Convert) (hxL hxl_p_Convert) lf 20 R
abbrev id_p_Convert : Nat := 28
def enc_p_Convert_9 (x1 : (List DForm)) (x2 : (List DForm)) (x3 : (List DRule)) (x4 : DGraph) (p : Int × (List DNode)) : NRes := (NRes.mk (PT.node (some (IV.lst cForm x1)) (PT.node (some (IV.lst cForm x2)) PT.leaf (PT.node none (PT.node (some (IV.ptr 1 0)) (PT.node none PT.leaf (PT.node (some (IV.int Go.IntKind.i64 (Int.ofNat (List.length x4.1)))) PT.leaf PT.leaf)) PT.leaf) (PT.node (some (IV.ptr 2 0)) PT.leaf PT.leaf))) (PT.node (some (IV.lst cRule x3)) (PT.node none (PT.node (some (IV.ptr 0 0)) (PT.node none PT.leaf (PT.node (some (IV.lst cNode x4.1)) PT.leaf PT.leaf)) PT.leaf) PT.leaf) (PT.node none (PT.node none (PT.node none PT.leaf (PT.node (some (IV.int Go.IntKind.i64 p.1)) PT.leaf PT.leaf)) PT.leaf) PT.leaf))) (IS.mk (PT.node (some (IObj.row (List.cons IV.nilsl (List.cons IV.nilsl [])))) (PT.node (some (IObj.row (List.cons (IV.int Go.IntKind.i64 (Int.ofNat 0)) (List.cons (IV.str (S.lit [])) [])))) (PT.node (some (IObj.arr cNode p.2)) PT.leaf PT.leaf) PT.leaf) (PT.node (some (IObj.row (List.cons (IV.arr 3) (List.cons (IV.lst cVal x4.2) [])))) PT.leaf PT.leaf)) 4) [] 0)
def enc_p_Convert_15 (x1 : (List DForm)) (x2 : (List DForm)) (x3 : (List DRule)) (x4 : DGraph) (p : (List DCol) × (List DVal) × (List DCol) × ByteArray × Int × (List DVal) × Int × Int × (List DNode)) : NRes := (NRes.mk (PT.node (some (IV.lst cForm x1)) (PT.node (some (IV.lst cForm x2)) (PT.node none (PT.node none (PT.node (some (IV.ptr 3 0)) PT.leaf PT.leaf) PT.leaf) (PT.node none (PT.node (some (IV.ptr 5 0)) PT.leaf PT.leaf) PT.leaf)) (PT.node none (PT.node (some (IV.ptr 1 0)) (PT.node none PT.leaf (PT.node (some (IV.int Go.IntKind.i64 (Int.ofNat (List.length x4.1)))) (PT.node (some (IV.int Go.IntKind.i64 (Int.ofNat (List.length p.2.2.1)))) PT.leaf PT.leaf) PT.leaf)) PT.leaf) (PT.node (some (IV.ptr 2 0)) PT.leaf PT.leaf))) (PT.node (some (IV.lst cRule x3)) (PT.node none (PT.node (some (IV.ptr 0 0)) (PT.node (some (IV.ptr 4 0)) PT.leaf (PT.node (some (IV.lst cNode x4.1)) (PT.node (some (IV.lst cCol p.2.2.1)) PT.leaf PT.leaf) PT.leaf)) PT.leaf) PT.leaf) (PT.node none (PT.node none (PT.node (some (IV.lst cCol p.1)) PT.leaf (PT.node (some (IV.int Go.IntKind.i64 p.2.2.2.2.2.2.1)) (PT.node (some (IV.int Go.IntKind.i64 p.2.2.2.2.1)) PT.leaf PT.leaf) PT.leaf)) PT.leaf) (PT.node (some (IV.int Go.IntKind.i64 p.2.2.2.2.2.2.2.1)) PT.leaf PT.leaf)))) (IS.mk (PT.node (some (IObj.row (List.cons IV.nilsl (List.cons IV.nilsl [])))) (PT.node (some (IObj.row (List.cons (IV.int Go.IntKind.i64 (Int.ofNat 0)) (List.cons (IV.str (S.lit [])) [])))) (PT.node (some (IObj.row (List.cons (IV.str p.2.2.2.1) (List.cons (IV.lst cVal p.2.1) [])))) (PT.node (some (IObj.arr cVal p.2.2.2.2.2.1)) PT.leaf PT.leaf) PT.leaf) (PT.node (some (IObj.row (List.cons (IV.str (Go.Proofs.Ytcnhjofpmpipfaa.S.ruleOf x3 p.2.2.2.1).1.2.1) (List.cons (IV.arr 7) [])))) PT.leaf PT.leaf)) (PT.node (some (IObj.row (List.cons (IV.arr 6) (List.cons (IV.lst cVal x4.2) [])))) (PT.node (some (IObj.row (List.cons (IV.str (Go.Proofs.Ytcnhjofpmpipfaa.S.ruleOf x3 p.2.2.2.1).1.1) (List.cons (IV.str (Go.Proofs.Ytcnhjofpmpipfaa.S.ruleOf x3 p.2.2.2.1).1.2.1) (List.cons (IV.lst cGive (Go.Proofs.Ytcnhjofpmpipfaa.S.ruleOf x3 p.2.2.2.1).1.2.2) []))))) PT.leaf PT.leaf) (PT.node (some (IObj.arr cNode p.2.2.2.2.2.2.2.2)) PT.leaf PT.leaf))) 8) [] 0)
def R_p_Convert_in (lf : Nat) (x1 : (List DForm)) (x2 : (List DForm)) (x3 : (List DRule)) (x4 : DGraph) (L9 : (Int × (List DNode)) → Option Rt_p_Convert) : Option Rt_p_Convert := (cond (Bool.not (ieqI (Go.Proofs.Ytcnhjofpmpipfaa.S.first (List.cons (Go.Proofs.Ytcnhjofpmpipfaa.S.checkRules x1 x2 x3) [])) (Int.ofNat 0))) (some (([], []), (((Int.ofNat 0), (S.lit [])), ((Go.Proofs.Ytcnhjofpmpipfaa.S.first (List.cons (Go.Proofs.Ytcnhjofpmpipfaa.S.checkRules x1 x2 x3) [])), ())))) (cond (Bool.not (ieqI (Go.Proofs.Ytcnhjofpmpipfaa.S.check x1 (x4.1, x4.2)) (Int.ofNat 0))) (some (([], []), (((Int.ofNat 0), (S.lit [])), ((Go.Proofs.Ytcnhjofpmpipfaa.S.check x1 (x4.1, x4.2)), ())))) (L9 ((Int.ofNat 0), []))))
def R_p_Convert_9 (lf : Nat) (x1 : (List DForm)) (x2 : (List DForm)) (x3 : (List DRule)) (x4 : DGraph) (L15 : ((List DCol) × (List DVal) × (List DCol) × ByteArray × Int × (List DVal) × Int × Int × (List DNode)) → Option Rt_p_Convert) (p : Int × (List DNode)) : Option Rt_p_Convert := (cond (iltI p.1 (Int.ofNat (List.length x4.1))) (match (jget x4.1 p.1) with | .none  => none | .some v0 => (match (jget x1 (Go.Proofs.Ytcnhjofpmpipfaa.S.form x1 v0.1)) with | .none  => none | .some v1 => (match (jget x2 (Go.Proofs.Ytcnhjofpmpipfaa.S.form x2 (Go.Proofs.Ytcnhjofpmpipfaa.S.ruleOf x3 v0.1).1.2.1)) with | .none  => none | .some v2 => (L15 (v1.2, v0.2, v2.2, v0.1, (Int.ofNat 0), [], p.1, p.1, p.2))))) (some ((p.2, x4.2), (((Int.ofNat 0), (S.lit [])), ((Int.ofNat 0), ())))))
def R_p_Convert_15 (lf : Nat) (x1 : (List DForm)) (x2 : (List DForm)) (x3 : (List DRule)) (x4 : DGraph) (L15 : ((List DCol) × (List DVal) × (List DCol) × ByteArray × Int × (List DVal) × Int × Int × (List DNode)) → Option Rt_p_Convert) (L9 : (Int × (List DNode)) → Option Rt_p_Convert) (p : (List DCol) × (List DVal) × (List DCol) × ByteArray × Int × (List DVal) × Int × Int × (List DNode)) : Option Rt_p_Convert := (cond (iltI p.2.2.2.2.1 (Int.ofNat (List.length p.2.2.1))) (match (jget p.2.2.1 p.2.2.2.2.1) with | .none  => none | .some v0 => (match (jget (Go.Proofs.Ytcnhjofpmpipfaa.S.ruleOf x3 p.2.2.2.1).1.2.2 p.2.2.2.2.1) with | .none  => none | .some v1 => (match (cond (Go.Proofs.Ytcnhjofpmpipfaa.S.madePre (v1.1, (v1.2.1, v1.2.2)) p.1 p.2.1) (some ((Go.Proofs.Ytcnhjofpmpipfaa.S.made (v1.1, (v1.2.1, v1.2.2)) p.1 p.2.1 (v0.1, (v0.2.1, v0.2.2))).1, ((Go.Proofs.Ytcnhjofpmpipfaa.S.made (v1.1, (v1.2.1, v1.2.2)) p.1 p.2.1 (v0.1, (v0.2.1, v0.2.2))).2, ()))) none) with | .none  => none | .some v2 => (cond (Bool.not v2.2.1) (some (([], []), ((p.2.2.2.2.2.2.2.1, v0.1), ((Int.ofNat 10), ())))) (cond (Nat.ble (Nat.mul (Nat.add (List.length p.2.2.2.2.2.1) 1) 16) 140737488355328) (L15 (p.1, p.2.1, p.2.2.1, p.2.2.2.1, (Go.IntKind.wrap Go.IntKind.i64 (Int.add p.2.2.2.2.1 (Int.ofNat 1))), (List.append p.2.2.2.2.2.1 (List.cons (v2.1.1, v2.1.2) [])), p.2.2.2.2.2.2.1, p.2.2.2.2.2.2.2.1, p.2.2.2.2.2.2.2.2)) none))))) (cond (Nat.ble (Nat.mul (Nat.add (List.length p.2.2.2.2.2.2.2.2) 1) 40) 140737488355328) (L9 ((Go.IntKind.wrap Go.IntKind.i64 (Int.add p.2.2.2.2.2.2.1 (Int.ofNat 1))), (List.append p.2.2.2.2.2.2.2.2 (List.cons ((Go.Proofs.Ytcnhjofpmpipfaa.S.ruleOf x3 p.2.2.2.1).1.2.1, p.2.2.2.2.2.1) [])))) none))
theorem in_p_Convert (g : ElA [(.list cForm), (.list cForm), (.list cRule), cGraph] → Option Rt_p_Convert) (J : Nat → List Nat → NRes → Option Rt_p_Convert) (lf : Nat) (x1 : (List DForm)) (x2 : (List DForm)) (x3 : (List DRule)) (x4 : DGraph) : icodeT Try.prog ttT.get nm_p_Convert fi28.nt (cl_p_Convert _ lf) lf st_p_Convert J fi28.body [] (argGo (argV [(.list cForm), (.list cForm), (.list cRule), cGraph] (x1, x2, x3, x4, ())) 0 .leaf) S0 [] (lastK ttT.get fi28 ⟨[(.list cForm), (.list cForm), (.list cRule), cGraph], [(false, cGraph), (false, cRefusal), (false, (.int .i64))], g⟩) = R_p_Convert_in lf x1 x2 x3 x4 (fun q => J 9 [lf] (enc_p_Convert_9 x1 x2 x3 x4 q)) := by kernel_rfl
theorem st_p_Convert_9 (g : ElA [(.list cForm), (.list cForm), (.list cRule), cGraph] → Option Rt_p_Convert) (J : Nat → List Nat → NRes → Option Rt_p_Convert) (lf : Nat) (x1 : (List DForm)) (x2 : (List DForm)) (x3 : (List DRule)) (x4 : DGraph) (m1 : Nat) (p : Int × (List DNode)) : icodeFT Try.prog ttT.get nm_p_Convert fi28.nt (cl_p_Convert _ lf) lf st_p_Convert J 9 fi28.body [] [m1] (enc_p_Convert_9 x1 x2 x3 x4 p) (lastK ttT.get fi28 ⟨[(.list cForm), (.list cForm), (.list cRule), cGraph], [(false, cGraph), (false, cRefusal), (false, (.int .i64))], g⟩) = R_p_Convert_9 lf x1 x2 x3 x4 (fun q => J 15 [m1, lf] (enc_p_Convert_15 x1 x2 x3 x4 q)) p := by kernel_rfl
theorem st_p_Convert_15 (g : ElA [(.list cForm), (.list cForm), (.list cRule), cGraph] → Option Rt_p_Convert) (J : Nat → List Nat → NRes → Option Rt_p_Convert) (lf : Nat) (x1 : (List DForm)) (x2 : (List DForm)) (x3 : (List DRule)) (x4 : DGraph) (m1 : Nat) (m2 : Nat) (p : (List DCol) × (List DVal) × (List DCol) × ByteArray × Int × (List DVal) × Int × Int × (List DNode)) : icodeFT Try.prog ttT.get nm_p_Convert fi28.nt (cl_p_Convert _ lf) lf st_p_Convert J 15 fi28.body [] [m1, m2] (enc_p_Convert_15 x1 x2 x3 x4 p) (lastK ttT.get fi28 ⟨[(.list cForm), (.list cForm), (.list cRule), cGraph], [(false, cGraph), (false, cRefusal), (false, (.int .i64))], g⟩) = R_p_Convert_15 lf x1 x2 x3 x4 (fun q => J 15 [m1, m2] (enc_p_Convert_15 x1 x2 x3 x4 q)) (fun q => J 9 [m1] (enc_p_Convert_9 x1 x2 x3 x4 q)) p := by kernel_rfl
theorem nd_p_Convert : (regs fi28.body).Nodup := by decide +kernel
theorem ok_p_Convert : okC nm_p_Convert st_p_Convert hd_p_Convert fi28.body none = true := by kernel_rfl
def A_p_Convert (g : ElA [(.list cForm), (.list cForm), (.list cRule), cGraph] → Option Rt_p_Convert) (lf : Nat) : Nat → List Nat → NRes → Option Rt_p_Convert := atN Try.prog ttT.get nm_p_Convert fi28 ⟨[(.list cForm), (.list cForm), (.list cRule), cGraph], [(false, cGraph), (false, cRefusal), (false, (.int .i64))], g⟩ (cl_p_Convert _ lf) lf hd_p_Convert
def G_p_Convert_15 (lf : Nat) (x1 : (List DForm)) (x2 : (List DForm)) (x3 : (List DRule)) (x4 : DGraph) (K9 : (Int × (List DNode)) → Option Rt_p_Convert) : Nat → ((List DCol) × (List DVal) × (List DCol) × ByteArray × Int × (List DVal) × Int × Int × (List DNode)) → Option Rt_p_Convert := rounds fun K p => R_p_Convert_15 lf x1 x2 x3 x4 K K9 p
theorem at_p_Convert_15 (g : ElA [(.list cForm), (.list cForm), (.list cRule), cGraph] → Option Rt_p_Convert) (lf : Nat) (x1 : (List DForm)) (x2 : (List DForm)) (x3 : (List DRule)) (x4 : DGraph) (m1 : Nat) : ∀ (n : Nat) (p : (List DCol) × (List DVal) × (List DCol) × ByteArray × Int × (List DVal) × Int × Int × (List DNode)), A_p_Convert g lf 15 [m1, n] (enc_p_Convert_15 x1 x2 x3 x4 p) = G_p_Convert_15 lf x1 x2 x3 x4 (fun q => A_p_Convert g lf 9 [m1] (enc_p_Convert_9 x1 x2 x3 x4 q)) n p
  | 0, p => atN_zero 15 [m1, 0] rfl _
  | n + 1, p => by
    have ih := at_p_Convert_15 g lf x1 x2 x3 x4 m1 n
    refine (atN_eq (icallK_eq 20 _) nd_p_Convert ok_p_Convert 15 [m1, n + 1] [m1, n] rfl _).trans ((st_p_Convert_15 g (A_p_Convert g lf) lf x1 x2 x3 x4 m1 n p).trans ?_)
    rw [(show (fun q => A_p_Convert g lf 15 [m1, n] (enc_p_Convert_15 x1 x2 x3 x4 q)) = (fun q => G_p_Convert_15 lf x1 x2 x3 x4 (fun q => A_p_Convert g lf 9 [m1] (enc_p_Convert_9 x1 x2 x3 x4 q)) n q) from funext ih)]
    rfl
def G_p_Convert_9 (lf : Nat) (x1 : (List DForm)) (x2 : (List DForm)) (x3 : (List DRule)) (x4 : DGraph) : Nat → (Int × (List DNode)) → Option Rt_p_Convert := rounds fun K p => R_p_Convert_9 lf x1 x2 x3 x4 (fun q => G_p_Convert_15 lf x1 x2 x3 x4 K lf q) p
theorem at_p_Convert_9 (g : ElA [(.list cForm), (.list cForm), (.list cRule), cGraph] → Option Rt_p_Convert) (lf : Nat) (x1 : (List DForm)) (x2 : (List DForm)) (x3 : (List DRule)) (x4 : DGraph) : ∀ (n : Nat) (p : Int × (List DNode)), A_p_Convert g lf 9 [n] (enc_p_Convert_9 x1 x2 x3 x4 p) = G_p_Convert_9 lf x1 x2 x3 x4 n p
  | 0, p => atN_zero 9 [0] rfl _
  | n + 1, p => by
    have ih := at_p_Convert_9 g lf x1 x2 x3 x4 n
    refine (atN_eq (icallK_eq 20 _) nd_p_Convert ok_p_Convert 9 [n + 1] [n] rfl _).trans ((st_p_Convert_9 g (A_p_Convert g lf) lf x1 x2 x3 x4 n p).trans ?_)
    rw [(show (fun q => A_p_Convert g lf 15 [n, lf] (enc_p_Convert_15 x1 x2 x3 x4 q)) = (fun q => G_p_Convert_15 lf x1 x2 x3 x4 (fun q => A_p_Convert g lf 9 [n] (enc_p_Convert_9 x1 x2 x3 x4 q)) lf q) from funext fun q => at_p_Convert_15 g lf x1 x2 x3 x4 n lf q), (show (fun q => A_p_Convert g lf 9 [n] (enc_p_Convert_9 x1 x2 x3 x4 q)) = (fun q => G_p_Convert_9 lf x1 x2 x3 x4 n q) from funext ih)]
    rfl
def F_p_Convert (lf : Nat) (x1 : (List DForm)) (x2 : (List DForm)) (x3 : (List DRule)) (x4 : DGraph) : Option Rt_p_Convert := R_p_Convert_in lf x1 x2 x3 x4 (fun q => G_p_Convert_9 lf x1 x2 x3 x4 lf q)
theorem run_p_Convert (g : ElA [(.list cForm), (.list cForm), (.list cRule), cGraph] → Option Rt_p_Convert) (lf : Nat) (x1 : (List DForm)) (x2 : (List DForm)) (x3 : (List DRule)) (x4 : DGraph) : icodeT Try.prog ttT.get nm_p_Convert fi28.nt (cl_p_Convert _ lf) lf st_p_Convert (A_p_Convert g lf) fi28.body [] (argGo (argV [(.list cForm), (.list cForm), (.list cRule), cGraph] (x1, x2, x3, x4, ())) 0 .leaf) S0 [] (lastK ttT.get fi28 ⟨[(.list cForm), (.list cForm), (.list cRule), cGraph], [(false, cGraph), (false, cRefusal), (false, (.int .i64))], g⟩) = F_p_Convert lf x1 x2 x3 x4 := by
    refine (in_p_Convert g (A_p_Convert g lf) lf x1 x2 x3 x4).trans ?_
    rw [(show (fun q => A_p_Convert g lf 9 [lf] (enc_p_Convert_9 x1 x2 x3 x4 q)) = (fun q => G_p_Convert_9 lf x1 x2 x3 x4 lf q) from funext fun q => at_p_Convert_9 g lf x1 x2 x3 x4 lf q)]
    rfl
theorem hxs_p_Convert : HxsOK Try.prog hxl_p_Convert := trivial
theorem mk_p_Convert {g : ElA [(.list cForm), (.list cForm), (.list cRule), cGraph] → Option Rt_p_Convert} (hsm : SmOK Try.prog sml_p_Convert) (hg : ∀ (x : ElA [(.list cForm), (.list cForm), (.list cRule), cGraph]) (y : Rt_p_Convert), WfA [(.list cForm), (.list cForm), (.list cRule), cGraph] x → g x = some y → ∃ lf, F_p_Convert lf x.1 x.2.1 x.2.2.1 x.2.2.2.1 = some y) : Con Try.prog 28 ⟨[(.list cForm), (.list cForm), (.list cRule), cGraph], [(false, cGraph), (false, cRefusal), (false, (.int .i64))], g⟩ :=
  conT (nmf := nm_p_Convert) (sml := sml_p_Convert) (hxl := hxl_p_Convert) (st := st_p_Convert) (hd := hd_p_Convert) 20 mixed ttOK ftOK hsm hxs_p_Convert cal28 rfl rfl (by kernel_rfl) (fun x => by kernel_rfl) nd_p_Convert ok_p_Convert fun x y hx hy => by
    obtain ⟨lf, h⟩ := hg x y hx hy
    exact ⟨lf, (run_p_Convert g lf x.1 x.2.1 x.2.2.1 x.2.2.2.1).trans h⟩
end Go.Proofs.Ytcnhjofpmpipfaa

end
end

/- What a call leaves that makes an empty list. -/
section
set_option linter.unusedVariables false
namespace Go.Jx
open Go Go.Sx Go.RowKit
universe u
/-- No data, of so many cells. -/
inductive NoD (n : Nat) : Type
instance (n : Nat) : Dat (NoD n) where
  sz := n
  enc _ _ _ x := nomatch x
  len {_ _ _ x} _ := nomatch x
  mono {_ _ _ _ _ x} _ _ := nomatch x
  ones {_ _ _ x} _ := nomatch x
theorem own_cap {n : Nat} {m M : List Nat} {w : World} {a : Option Addr} {cap : Nat} {l : List (NoD n)} (h : Go.Sx.Own m M w a cap l) : cap < 9223372036854775808 := by
  rcases h with ⟨_, h, _⟩ | ⟨_, _, _, _, _, _, _, h, _⟩
  · omega
  · exact h.2
theorem lst_nil2 {E : Env} {c : TC} {u : Value} (h : VR E (.lst c []) u) : ∃ a cap, u = .slice a 0 cap ∧ cap < 9223372036854775808 := by
  cases h with
  | lst0 hc => exact ⟨_, _, rfl, hc⟩
  | lst us h1 h2 h3 hb hh hc hu => exact ⟨_, _, rfl, h2⟩
theorem ret_nil {M : List Nat} {w w' : World} {c : TC} {e : Ending} (hM : ∀ b ∈ M, b < w.heap.size) (h : Ret (fun v w' => ∃ a' c' m', v = .slice a' 0 c' ∧ c' < 9223372036854775808 ∧ Evo [] w m' w') e w') :
    RetE T0 (EM M w) S0 ⟨.lst c [], S0, 0, 0⟩ e w' := by
  cases e with
  | returned v =>
    obtain ⟨a, k, m, rfl, hk, ev⟩ := h
    refine ⟨_, EM M w', rfl, rfl, .lst0 hk, ⟨?_, ?_, fun id h => h.elim, Nat.le_refl _⟩, ⟨fun id h => h.elim⟩⟩
    · exact (preM (M := M) (w := w') fun b hb => Nat.lt_of_lt_of_le (hM b hb) ev.size).st
    · exact ⟨ev.os, ev.tape, ev.output, ev.size, fun b hb _ => ev.same b hb (by simp), fun id h => h.elim, fun id h => h.elim, fun id _ h => h.elim, fun b hb => .inl hb, fun b hb _ => .inl hb⟩
  | panicked c => exact h.elim
  | outgrown => exact h.elim
end Go.Jx
end

/- The calls of slices.Clone. -/
section
set_option linter.unusedVariables false
set_option maxRecDepth 100000
namespace Go.Proofs.Ytcnhjofpmpipfaa
open Go Go.Sx Go.RowKit Go.Jx

theorem cloneN_slices_Clone_Val {M : List Nat} {w : World} {a : Option Addr} {cap : Nat} (hM : Lo M w) (hc : cap < 9223372036854775808) : Calls Try.prog 74 #[.slice a 0 cap] w (Ret fun v w' => ∃ a' c' m', v = .slice a' 0 c' ∧ c' < 9223372036854775808 ∧ Evo [] w m' w') := by
  have hS : SL M w a cap ([] : List (NoD 2)) := ⟨⟨Nat.zero_le _, hc⟩, .inl rfl⟩
  refine enter (l := [.slice a 0 cap]) Try.func74 rfl Try.ntmps74 rfl ?_
  refine c_seq fun KhK1 hK1 => ?_
  refine c_reg ?_
  refine op_assign (v := .slice none 0 0) rfl rfl rfl ?_
  refine wpList_nil ?_
  refine hK1 _ _ ?_
  refine c_seq fun KhK2 hK2 => ?_
  refine c_seq fun KhK3 hK3 => ?_
  refine c_reg ?_
  refine op_move (v := .slice a 0 cap) rfl rfl rfl ?_
  refine op_nilS ty24 rfl rfl rfl rfl ?_
  refine wpList_nil ?_
  refine hK3 _ _ ?_
  refine c_ifB rfl rfl (fun hb4 => ?_) (fun hb4 => ?_)
  · refine c_seq fun KhK5 hK5 => ?_
    refine c_reg ?_
    refine op_assign (v := .slice none 0 0) rfl rfl rfl ?_
    refine wpList_nil ?_
    refine hK5 _ _ ?_
    refine wp_ret ?_
    exact ret1 Try.results74 rfl ⟨none, 0, [], rfl, by decide, Evo.refl [] w⟩
  · refine wp_skip ?_
    refine hK2 _ _ ?_
    refine c_seq fun KhK7 hK7 => ?_
    refine c_reg ?_
    refine op_buildSlice0 (α := NoD 2) (m := []) (M := M) ty24 ty51 rfl (hM.mono (Evo.refl [] w).size) fun β14 w15 hβ16 u17 hz18 ho19 => ?_
    have e20 := u17.evoN (m := []) hβ16 hz18
    refine op_move (v := .slice a 0 cap) rfl rfl rfl ?_
    refine op_append ty24 ty24 ty51 rfl rfl rfl rfl rfl rfl rfl ho19 (hS.mono (e20.tr M)) (hM.mono e20.size) (by simp) fun a22 c23 w24 m25 ho26 e27 u28 hbk29 hsub30 => ?_
    refine op_assign (v := .slice a22 (([] : List (NoD 2)) ++ []).length c23) rfl rfl rfl ?_
    refine wpList_nil ?_
    refine hK7 _ _ ?_
    refine wp_ret ?_
    exact ret1 Try.results74 rfl ⟨a22, c23, m25, rfl, own_cap ho26, e20.trans e27⟩
theorem con_slices_Clone_Val' : Con Try.prog 74 ⟨[.list cVal], [(false, .list cVal)], fun x => match x.1 with | [] => none | v :: l => some (x.1, ())⟩ := mk_slices_Clone_Val trivial fun x y hx h => ⟨0, by
  obtain ⟨l, _⟩ := x
  have hl := wf_len hx.1
  have hb := hx.1.1
  cases l with
  | nil => cases h
  | cons v l =>
    cases h
    simp only [F_slices_Clone_Val, R_slices_Clone_Val_in, List.nil_append]
    exact Eq.trans (congrArg (fun b => cond b (some (v :: l, ())) none) (Nat.ble_eq_true_of_le (Nat.le_trans (Nat.le_of_eq (congrArg (fun z => Nat.mul z 16) (Nat.zero_add _))) hb))) rfl⟩
theorem con_slices_Clone_Val : Con Try.prog id_slices_Clone_Val sp_slices_Clone_Val := by
  refine ⟨cal74, fun M w x us y hy hM hv => ?_⟩
  obtain ⟨l, _⟩ := x
  cases l with
  | cons v l => exact con_slices_Clone_Val'.calls M w (v :: l, ()) us y hy hM hv
  | nil =>
    cases hy
    obtain ⟨u, us2, rfl, h1, h2⟩ := hv.inv
    obtain rfl : us2 = [] := List.length_eq_zero_iff.1 h2.1.symm
    obtain ⟨a, cap, rfl, hc⟩ := lst_nil2 h1
    refine callsIn_wide.2 ((cloneN_slices_Clone_Val (M := M) hM hc).mono fun e w' hR => ?_)
    exact ret_nil hM hR
end Go.Proofs.Ytcnhjofpmpipfaa
end

/- The contracts of package pack, second part: rules. -/
section
set_option linter.unusedVariables false
set_option maxRecDepth 100000
namespace Go.Proofs.Ytcnhjofpmpipfaa
open Go Go.Sx Go.RowKit Go.Jx

theorem F_p_leads_eq (lf : Nat) (l : List DRule) (a b : ByteArray) : F_p_leads lf l a b = some (S.leads l a b, ()) := by
  simp only [F_p_leads, R_p_leads_in, S.leads, keqS]
  have ea : S.lit [65, 78, 89] = S.ANY := rfl
  rw [ea]
  by_cases h : b = S.ANY
  · simp [h]
  · rw [decide_eq_false h, cond_false, Bool.false_or]
    cases (S.ruleOf l a).2 <;> rfl
theorem con_p_leads : Con Try.prog id_p_leads sp_p_leads := mk_p_leads ⟨con_p_ruleOf, trivial⟩ fun x y _ h => ⟨0, (F_p_leads_eq _ _ _ _).trans h⟩
theorem F_p_fits_eq (lf : Nat) (l : List DRule) (g : DGive) (a b : DCol) : F_p_fits lf l g a b = some (S.fits l g a b, ()) := by
  simp only [F_p_fits, R_p_fits_in, S.fits, ieqI_eq, oL]
  generalize S.leads l a.2.2 b.2.2 = bl
  generalize S.within g.2.2 0 1 = bw
  by_cases h1 : g.2.1 = 1
  · simp only [h1, decide_true, cond_true, if_true]
    by_cases h : a.2.1 = b.2.1
    · rw [h]
      by_cases h3 : b.2.1 = 3 <;> simp [h3]
    · simp [h]
  by_cases h2 : g.2.1 = 2
  · by_cases h : a.2.1 = 2 <;> simp [h2, h]
  by_cases h3 : g.2.1 = 3
  · by_cases h : a.2.1 = 1 <;> simp [h3, h]
  by_cases h4 : g.2.1 = 4
  · by_cases h : a.2.1 = 1 <;> simp [h4, h]
  by_cases h5 : g.2.1 = 5
  · by_cases h : a.2.1 = 3 <;> by_cases h' : b.2.1 = 3 <;> simp [h5, h, h']
  by_cases h6 : g.2.1 = 6
  · by_cases h : b.2.1 = 1 <;> by_cases h' : b.2.1 = 2 <;> simp [h6, h, h']
  simp [h1, h2, h3, h4, h5, h6]
theorem con_p_fits : Con Try.prog id_p_fits sp_p_fits := mk_p_fits ⟨con_p_within, con_p_leads, trivial⟩ fun x y _ h => ⟨0, (F_p_fits_eq _ _ _ _ _).trans h⟩
theorem gv_end (lf : Nat) (l : List DRule) (g : DGive) (cols : List DCol) (b : DCol) (p : DCol) : G_p_give_13 lf l g cols b p = some (S.unlessE (S.fits l g p b) 8, ()) := by
  simp only [G_p_give_13, R_p_give_13, Prod.eta, S.unlessE]
  cases S.fits l g p b <;> rfl
theorem gv_from (lf : Nat) (l : List DRule) (g : DGive) (cols : List DCol) (b : DCol) (h : S.within g.2.1 1 5 = true → 0 ≤ S.col cols g.1) : G_p_give_11 lf l g cols b () = some (S.unlessE (S.fits l g (if S.within g.2.1 1 5 = true then S.at_ S.zCol cols (S.col cols g.1) else S.zCol) b) 8, ()) := by
  simp only [G_p_give_11, R_p_give_11, gv_end, oL]
  cases hw : S.within g.2.1 1 5 with
  | false => rfl
  | true =>
    obtain ⟨c, c1, c2, _⟩ := S.idx_get (p := fun c : DCol => keqS c.1 g.1) (l := cols) (h hw)
    have c1' : jget cols (S.col cols g.1) = some c := c1
    have c3 : S.at_ S.zCol cols (S.col cols g.1) = c := by
      unfold S.at_ S.col
      rw [c2]; rfl
    simp only [c1', cond_true, if_true, c3, Prod.eta]
theorem F_p_give_eq (lf : Nat) (l : List DRule) (g : DGive) (cols : List DCol) (b : DCol) : F_p_give lf l g cols b = some (S.give l g cols b, ()) := by
  have key : ∀ p, (S.within g.2.1 1 5 = true → 0 ≤ S.col cols g.1) → p = S.most g → G_p_give_8 lf l g cols b p = some ((if S.within g.2.1 1 7 = false ∨ (S.within g.2.1 1 5 = false ∧ ¬ g.1 = S.lit []) ∨ S.within g.2.2 (-S.most g) (S.most g) = false ∨ (g.2.1 = 6 ∧ b.2.1 = 2 ∧ S.within g.2.2 0 1 = false) then 1
  else S.unlessE (S.fits l g (if S.within g.2.1 1 5 = true then S.at_ S.zCol cols (S.col cols g.1) else S.zCol) b) 8), ()) := by
    intro p hc hp
    have hn : IntKind.i64.wrap (Int.sub 0 p) = - S.most g := by
      subst hp
      have : Int.sub 0 (S.most g) = - S.most g := Int.zero_sub _
      rw [this]
      exact wrap64_in (by unfold S.most; split <;> simp)
    simp only [G_p_give_8, R_p_give_8, gv_from lf l g cols b hc, oL, hn, keqS, ieqI_eq]
    rw [hp]
    generalize S.unlessE _ _ = u
    generalize S.within g.2.1 1 7 = b7
    generalize S.within g.2.1 1 5 = b5
    generalize S.within g.2.2 (-S.most g) (S.most g) = bm
    generalize S.within g.2.2 0 1 = b01
    by_cases h1 : g.1 = S.lit [] <;> by_cases h6 : g.2.1 = 6 <;> by_cases h2 : b.2.1 = 2 <;> cases b7 <;> cases b5 <;> cases bm <;> cases b01 <;> simp [h1, h6, h2]
  simp only [F_p_give, R_p_give_in, S.give, oL, iltI_eq, ieqI_eq]
  by_cases hc : S.within g.2.1 1 5 = true ∧ S.col cols g.1 < 0
  · rw [if_pos hc, hc.1, decide_eq_true hc.2]; rfl
  rw [if_neg hc]
  have hc' : S.within g.2.1 1 5 = true → 0 ≤ S.col cols g.1 := fun h => by
    rcases Int.lt_or_le (S.col cols g.1) 0 with h1 | h1
    · exact absurd ⟨h, h1⟩ hc
    · exact h1
  have fin : (cond (decide (g.2.1 = 4)) (G_p_give_8 lf l g cols b 1099511627776) (cond (decide (g.2.1 = 6)) (G_p_give_8 lf l g cols b 1099511627776) (G_p_give_8 lf l g cols b 0))) = G_p_give_8 lf l g cols b (S.most g) := by
    unfold S.most
    by_cases h4 : g.2.1 = 4 <;> by_cases h6 : g.2.1 = 6 <;> simp [h4, h6]
  rw [fin]
  refine Eq.trans ?_ (key _ hc' rfl)
  cases hw : S.within g.2.1 1 5 with
  | false => rfl
  | true => rw [cond_true, decide_eq_false (by have := hc' hw; omega), cond_false]
theorem con_p_give : Con Try.prog id_p_give sp_p_give := mk_p_give ⟨con_p_col, con_p_within, con_p_fits, trivial⟩ fun x y _ h => ⟨0, (F_p_give_eq _ _ _ _ _).trans h⟩

/-! ### Lists of rules -/
theorem form_get {l : List DForm} {n : ByteArray} (h : 0 ≤ S.form l n) : ∃ f, jget l (S.form l n) = some f ∧ S.colsOf l n = f.2 ∧ f ∈ l ∧ f.1 = n := by
  obtain ⟨f, f1, f2, f3, f4, f5, f6⟩ := S.idx_get (p := fun f : DForm => keqS f.1 n) (l := l) h
  refine ⟨f, f1, ?_, f4, of_decide_eq_true f3⟩
  unfold S.colsOf S.at_ S.form
  rw [f2]; rfl
theorem cr_inner (a b : List DForm) (l : List DRule) (K20 : Int → Option Rt_p_checkRules) (now was : List DCol) (gs : List DGive) (hg : gs.length < LF) (hlen : gs.length = now.length) (i : Nat) :
    G_p_checkRules_26 LF a b l K20 LF (now, was, gs, Int.ofNat 0, Int.ofNat i) = if S.crGives l was now gs = 0 then K20 (IntKind.i64.wrap (Int.add (Int.ofNat i) (Int.ofNat 1))) else some (S.crGives l was now gs, ()) := by
  refine range0 (σ := Unit) (R := Rt_p_checkRules) gs (fun k _ => (now, was, gs, k, Int.ofNat i)) (fun _ _ => True) (fun rest k _ => if S.crGives l was (now.drop k) rest = 0 then K20 (IntKind.i64.wrap (Int.add (Int.ofNat i) (Int.ofNat 1))) else some (S.crGives l was (now.drop k) rest, ())) hg (fun K s _ => ?_) (fun K k g rest s _ r h => ?_) () trivial
  · have : S.crGives l was (now.drop gs.length) [] = 0 := by unfold S.crGives; split <;> simp_all
    simp only [R_p_checkRules_26, ilt_self, cond_false, this, if_true]
  · have h := h () trivial
    have hk : k < now.length := by rw [← hlen]; exact r.lt
    have hj : jget now (Int.ofNat k) = some now[k] := by rw [jget_nat]; exact List.getElem?_eq_getElem hk
    rw [List.drop_eq_getElem_cons hk, S.crGives]
    simp only [R_p_checkRules_26, r.ilt, r.get, r.next, h, cond_true, hj, Prod.eta, ne_zero]
    by_cases h0 : S.give l g was now[k] = 0
    · rw [decide_eq_false (by simpa using h0), cond_false, if_pos h0]
    · rw [decide_eq_true h0, cond_true, if_neg h0, if_neg h0]
theorem cr_third (a b : List DForm) (l : List DRule) (hl : l.length < LF) (hw : ∀ r ∈ l, r.2.2.length < LF) (hf : ∀ r ∈ l, 0 ≤ S.form a r.1 ∧ 0 ≤ S.form b r.2.1) : G_p_checkRules_20 LF a b l LF (Int.ofNat 0) = some (S.crGo3 a b l l, ()) := by
  refine range1 (R := Rt_p_checkRules) l (fun rest i => some (S.crGo3 a b l rest, ())) hl (fun K => ?_) (fun K i v rest r h => ?_)
  · simp only [R_p_checkRules_20, ilt_self, cond_false]; rfl
  · obtain ⟨fa, a1, a2, a3, a4⟩ := form_get (hf v r.mem).1
    obtain ⟨fb, b1, b2, b3, b4⟩ := form_get (hf v r.mem).2
    simp only [R_p_checkRules_20, r.ilt, r.get, cond_true, a1, b1, ieq_nat]
    rw [S.crGo3, a2, b2]
    by_cases hlen : v.2.2.length = fb.2.length
    · rw [decide_eq_true hlen, Bool.not_true, cond_false, if_pos hlen]
      refine (cr_inner a b l K fb.2 fa.2 v.2.2 (hw v r.mem) hlen i).trans ?_
      rw [r.next, h]
      split <;> rfl
    · rw [decide_eq_false hlen, Bool.not_false, cond_true, if_neg hlen]
      rfl
theorem cr_second (a b : List DForm) (l : List DRule) (ha : a.length < LF) (hl : l.length < LF) (hw : ∀ r ∈ l, r.2.2.length < LF) (hf : ∀ r ∈ l, 0 ≤ S.form a r.1 ∧ 0 ≤ S.form b r.2.1) : G_p_checkRules_13 LF a b l LF (Int.ofNat 0) = some (S.crGo2 a b l a, ()) := by
  refine range1 (R := Rt_p_checkRules) a (fun rest i => some (S.crGo2 a b l rest, ())) ha (fun K => ?_) (fun K i v rest r h => ?_)
  · simp only [R_p_checkRules_13, ilt_self, cond_false]
    exact cr_third a b l hl hw hf
  · simp only [R_p_checkRules_13, r.ilt, r.get, r.next, h, cond_true]
    rw [S.crGo2]
    cases (S.ruleOf l v.1).2 <;> rfl
theorem F_p_checkRules_eq (a b : List DForm) (l : List DRule) (ha : a.length < LF) (hl : l.length < LF) (hw : ∀ r ∈ l, r.2.2.length < LF) : F_p_checkRules LF a b l = some (S.checkRules0 a b l, ()) := by
  simp only [F_p_checkRules, R_p_checkRules_in, S.checkRules0, ilt_nat]
  by_cases h24 : 24 < l.length
  · rw [decide_eq_true h24, cond_true, if_pos h24]; rfl
  rw [decide_eq_false h24, cond_false, if_neg h24]
  refine range0 (σ := Unit) (R := Rt_p_checkRules) l (fun i _ => i) (fun i _ => ∀ r ∈ l.take i, 0 ≤ S.form a r.1 ∧ 0 ≤ S.form b r.2.1) (fun rest i _ => some (S.crGo a b l i rest, ())) hl (fun K s hI => ?_) (fun K i v rest s hI r h => ?_) () (by simp)
  · simp only [R_p_checkRules_4, ilt_self, cond_false]
    rw [List.take_length] at hI
    rw [S.crGo]
    exact cr_second a b l ha hl hw hI
  · simp only [R_p_checkRules_4, r.ilt, r.get, r.next, cond_true, lchk_pre l (Nat.le_of_lt r.lt), lsub_pre, iltI_eq]
    rw [S.crGo]
    simp only [oL]
    by_cases h1 : S.form a v.1 < 0
    · rw [decide_eq_true h1, cond_true, if_pos h1]
    by_cases h2 : S.form b v.2.1 < 0
    · rw [decide_eq_false h1, cond_false, if_neg h1, decide_eq_true h2, cond_true, if_pos h2]
    rw [decide_eq_false h1, cond_false, if_neg h1, decide_eq_false h2, cond_false, if_neg h2]
    cases (S.ruleOf (l.take i) v.1).2 with
    | true => rfl
    | false =>
      rw [cond_false, if_neg (by simp)]
      refine h () fun q hq => ?_
      rw [r.take, List.mem_append] at hq
      rcases hq with hq | hq
      · exact hI q hq
      · simp only [List.mem_cons, List.not_mem_nil, or_false] at hq
        subst hq
        exact ⟨by omega, by omega⟩
theorem con_p_checkRules : Con Try.prog id_p_checkRules sp_p_checkRules := mk_p_checkRules ⟨con_p_form, con_p_ruleOf, con_p_give, trivial⟩ fun x y hx h => ⟨LF, (F_p_checkRules_eq _ _ _ (wf_len hx.1) (wf_len hx.2.2.1) fun r hr => wf_len (hx.2.2.1.2 r hr).2.2).trans h⟩
theorem F_p_CheckRules_eq (lf : Nat) (a b : List DForm) (l : List DRule) : F_p_CheckRules lf a b l = some (S.checkRules a b l, ()) := by
  simp only [F_p_CheckRules, R_p_CheckRules_in, S.checkRules, ne_zero]
  by_cases h0 : S.first [S.checkForms a, S.checkForms b] = 0
  · rw [decide_eq_false (by simpa using h0), cond_false, if_pos h0]
  · rw [decide_eq_true h0, cond_true, if_neg h0]
theorem con_p_CheckRules : Con Try.prog id_p_CheckRules sp_p_CheckRules := mk_p_CheckRules ⟨con_p_CheckForms, con_p_first, con_p_checkRules, trivial⟩ fun x y hx h => ⟨0, (F_p_CheckRules_eq _ _ _ _).trans h⟩
theorem F_p_made_eq (lf : Nat) (g : DGive) (cols : List DCol) (l : List DVal) (b : DCol) (h : S.madePre g cols l = true) : F_p_made lf g cols l b = some ((S.made g cols l b).1, (S.made g cols l b).2, ()) := by
  simp only [F_p_made, R_p_made_in, S.made, ieqI_eq, oL, iltI_eq]
  by_cases h6 : g.2.1 = 6
  · by_cases h2 : b.2.1 = 2 <;> simp [h6, h2]
  by_cases h7 : g.2.1 = 7
  · simp [h7]
  obtain ⟨p1, p2⟩ := of_decide_eq_true h h6 h7
  obtain ⟨v, e1, e2, e3⟩ := jget_of p1 p2
  have e4 : S.src g cols l = v := by unfold S.src S.at_; rw [e2]; rfl
  rw [e1, e4]
  by_cases h2 : g.2.1 = 2
  · simp [h2]
  by_cases h3 : g.2.1 = 3
  · simp [h3]
  by_cases h4 : g.2.1 = 4
  · simp [h4]
  by_cases h5 : g.2.1 = 5
  · simp [h5]
  simp [h6, h7, h2, h3, h4, h5]
theorem con_p_made : Con Try.prog id_p_made sp_p_made := mk_p_made ⟨con_p_col, con_p_within, trivial⟩ fun x y hx h => ⟨0, by
  have h : cond (S.madePre x.1 x.2.1 x.2.2.1) (some ((S.made x.1 x.2.1 x.2.2.1 x.2.2.2.1).1, (S.made x.1 x.2.1 x.2.2.1 x.2.2.2.1).2, ())) none = some y := h
  cases hr : S.madePre x.1 x.2.1 x.2.2.1 with
  | false => rw [hr] at h; cases h
  | true => rw [hr] at h; exact (F_p_made_eq _ _ _ _ _ hr).trans h⟩
end Go.Proofs.Ytcnhjofpmpipfaa
end

/- The contract of pack.Convert; what right rules are. -/
section
set_option linter.unusedVariables false
set_option maxRecDepth 100000
namespace Go.Proofs.Ytcnhjofpmpipfaa
open Go Go.Sx Go.RowKit Go.Jx
structure RulesOK (a b : List DForm) (l : List DRule) : Prop where
  len : l.length ≤ 24
  has : ∀ r ∈ l, 0 ≤ S.form a r.1 ∧ 0 ≤ S.form b r.2.1
  one : ∀ k (h : k < l.length), (S.ruleOf (l.take k) l[k].1).2 = false
  all : ∀ f ∈ a, (S.ruleOf l f.1).2 = true
  glen : ∀ r ∈ l, r.2.2.length = (S.colsOf b r.2.1).length
  gok : ∀ r ∈ l, ∀ k (h : k < r.2.2.length) (h' : k < (S.colsOf b r.2.1).length), S.give l r.2.2[k] (S.colsOf a r.1) (S.colsOf b r.2.1)[k] = 0
theorem crGives_iff (l : List DRule) (was : List DCol) : ∀ (now : List DCol) (gs : List DGive), gs.length = now.length → (S.crGives l was now gs = 0 ↔ ∀ k (h : k < gs.length) (h' : k < now.length), S.give l gs[k] was now[k] = 0)
  | [], [], _ => by simp [S.crGives]
  | [], g :: gs, h => by simp at h
  | c :: now, [], h => by simp at h
  | c :: now, g :: gs, h => by
    rw [S.crGives]
    have ih := crGives_iff l was now gs (by simpa using h)
    by_cases h0 : S.give l g was c = 0
    · rw [if_pos h0, ih]
      constructor
      · intro hk k h1 h2
        cases k with
        | zero => exact h0
        | succ k => exact hk k (by simpa using h1) (by simpa using h2)
      · intro hk k h1 h2
        exact hk (k + 1) (by simpa using h1) (by simpa using h2)
    · rw [if_neg h0]
      constructor
      · intro h1; exact absurd h1 h0
      · intro hk; exact absurd (hk 0 (by simp) (by simp)) h0
theorem crGo3_iff (a b : List DForm) (l : List DRule) : ∀ (rs : List DRule), S.crGo3 a b l rs = 0 ↔ ∀ r ∈ rs, r.2.2.length = (S.colsOf b r.2.1).length ∧ S.crGives l (S.colsOf a r.1) (S.colsOf b r.2.1) r.2.2 = 0
  | [] => by simp [S.crGo3]
  | r :: rs => by
    rw [S.crGo3]
    have ih := crGo3_iff a b l rs
    by_cases h1 : r.2.2.length = (S.colsOf b r.2.1).length
    · rw [if_pos h1]
      by_cases h2 : S.crGives l (S.colsOf a r.1) (S.colsOf b r.2.1) r.2.2 = 0
      · rw [if_pos h2, ih]; simp [h1, h2]
      · rw [if_neg h2]; simp [h2]
    · rw [if_neg h1]; simp [h1]
theorem crGo2_iff (a b : List DForm) (l : List DRule) : ∀ (fs : List DForm), S.crGo2 a b l fs = 0 ↔ (∀ f ∈ fs, (S.ruleOf l f.1).2 = true) ∧ S.crGo3 a b l l = 0
  | [] => by simp [S.crGo2]
  | f :: fs => by
    rw [S.crGo2]
    have ih := crGo2_iff a b l fs
    cases h1 : (S.ruleOf l f.1).2 with
    | true => rw [if_pos rfl, ih]; simp [h1]
    | false => rw [if_neg (by simp)]; simp [h1]
theorem crGo_iff (a b : List DForm) (l : List DRule) : ∀ (rest : List DRule) (k : Nat), l.drop k = rest → (S.crGo a b l k rest = 0 ↔ (∀ j (h : j < l.length), k ≤ j → 0 ≤ S.form a l[j].1 ∧ 0 ≤ S.form b l[j].2.1 ∧ (S.ruleOf (l.take j) l[j].1).2 = false) ∧ S.crGo2 a b l a = 0)
  | [], k, hd => by
    rw [S.crGo]
    have : l.length ≤ k := by simpa using hd
    constructor
    · intro h; exact ⟨fun j h1 h2 => by omega, h⟩
    · intro h; exact h.2
  | r :: rs, k, hd => by
    have hk : k < l.length := by
      rcases Nat.lt_or_ge k l.length with h | h
      · exact h
      · rw [List.drop_eq_nil_of_le h] at hd; cases hd
    have hr : l[k] = r := by rw [List.drop_eq_getElem_cons hk] at hd; exact (List.cons.inj hd).1
    have hd' : l.drop (k + 1) = rs := by rw [List.drop_eq_getElem_cons hk] at hd; exact (List.cons.inj hd).2
    have ih := crGo_iff a b l rs (k + 1) hd'
    rw [S.crGo]
    by_cases h1 : S.form a r.1 < 0
    · rw [if_pos h1]
      constructor
      · intro h; cases h
      · intro h; have := (h.1 k hk (Nat.le_refl _)).1; rw [hr] at this; omega
    by_cases h2 : S.form b r.2.1 < 0
    · rw [if_neg h1, if_pos h2]
      constructor
      · intro h; cases h
      · intro h; have := (h.1 k hk (Nat.le_refl _)).2.1; rw [hr] at this; omega
    rw [if_neg h1, if_neg h2]
    cases h3 : (S.ruleOf (l.take k) r.1).2 with
    | true =>
      rw [if_pos rfl]
      constructor
      · intro h; cases h
      · intro h; have := (h.1 k hk (Nat.le_refl _)).2.2; rw [hr, h3] at this; cases this
    | false =>
      rw [if_neg (by simp), ih]
      constructor
      · rintro ⟨h, h'⟩
        refine ⟨fun j hj hkj => ?_, h'⟩
        by_cases e : j = k
        · subst e; rw [hr]; exact ⟨by omega, by omega, h3⟩
        · exact h j hj (by omega)
      · rintro ⟨h, h'⟩
        exact ⟨fun j hj hkj => h j hj (by omega), h'⟩
theorem rulesOK_iff (a b : List DForm) (l : List DRule) : S.checkRules0 a b l = 0 ↔ RulesOK a b l := by
  unfold S.checkRules0
  by_cases h24 : 24 < l.length
  · rw [if_pos h24]
    exact ⟨fun h => (by cases h), fun h => (by have := h.len; omega)⟩
  rw [if_neg h24, crGo_iff a b l l 0 rfl, crGo2_iff, crGo3_iff]
  constructor
  · rintro ⟨h1, h2, h3⟩
    refine ⟨by omega, fun r hr => ?_, fun k hk => (h1 k hk (Nat.zero_le _)).2.2, h2, fun r hr => (h3 r hr).1, fun r hr => (crGives_iff _ _ _ _ (h3 r hr).1).1 (h3 r hr).2⟩
    obtain ⟨k, hk, rfl⟩ := List.mem_iff_getElem.1 hr
    exact ⟨(h1 k hk (Nat.zero_le _)).1, (h1 k hk (Nat.zero_le _)).2.1⟩
  · intro h
    exact ⟨fun j hj _ => ⟨(h.has _ (List.getElem_mem hj)).1, (h.has _ (List.getElem_mem hj)).2, h.one j hj⟩, h.all, fun r hr => ⟨h.glen r hr, (crGives_iff _ _ _ _ (h.glen r hr)).2 (h.gok r hr)⟩⟩
theorem ruleOf_mem {l : List DRule} {c : ByteArray} (h : (S.ruleOf l c).2 = true) : (S.ruleOf l c).1 ∈ l ∧ (S.ruleOf l c).1.1 = c := by
  unfold S.ruleOf at h ⊢
  cases hf : l.find? (fun r => keqS r.1 c) with
  | none => rw [hf] at h; cases h
  | some r =>
    have hk : keqS r.1 c = true := List.find?_some (p := fun r : DRule => keqS r.1 c) hf
    exact ⟨List.mem_of_find?_eq_some hf, of_decide_eq_true hk⟩
theorem give_pre {l : List DRule} {g : DGive} {cols : List DCol} {b : DCol} (h : S.give l g cols b = 0) : S.within g.2.1 1 7 = true ∧ (S.within g.2.1 1 5 = true → 0 ≤ S.col cols g.1) := by
  unfold S.give at h
  split at h
  · cases h
  rename_i h1
  split at h
  · cases h
  rename_i h2
  simp only [not_or] at h2
  refine ⟨by simpa using h2.1, fun hw => ?_⟩
  rcases Int.lt_or_le (S.col cols g.1) 0 with h3 | h3
  · exact absurd ⟨hw, h3⟩ h1
  · exact h3
theorem col_lt (cols : List DCol) (n : ByteArray) (h : 0 ≤ S.col cols n) : S.col cols n < cols.length := by
  obtain ⟨c, _, _, _, _, h5, _⟩ := S.idx_get (p := fun c : DCol => keqS c.1 n) (l := cols) h
  exact h5
theorem made_pre {l : List DRule} {g : DGive} {cols : List DCol} {b : DCol} {vs : List DVal} (h : S.give l g cols b = 0) (hv : vs.length = cols.length) : S.madePre g cols vs = true := by
  obtain ⟨h1, h2⟩ := give_pre h
  unfold S.madePre
  refine decide_eq_true fun h6 h7 => ?_
  have h5 : S.within g.2.1 1 5 = true := by
    simp only [S.within, Bool.and_eq_true, decide_eq_true_eq] at h1 ⊢
    omega
  have := col_lt cols g.1 (h2 h5)
  exact ⟨h2 h5, by rw [hv]; exact this⟩
theorem typed_len {l : List DForm} {g : DGraph} : ∀ {ns : List DNode}, S.typed l g ns = true → ∀ n ∈ ns, n.2.length = (S.colsOf l n.1).length ∧ S.suitsAll g (S.colsOf l n.1) n.2 = true
  | [], _, n, hn => by cases hn
  | m :: ns, h, n, hn => by
    rw [S.typed] at h
    split at h
    · rename_i h1
      split at h
      · rename_i h2
        rcases List.mem_cons.1 hn with rfl | hn
        · exact ⟨h1, h2⟩
        · exact typed_len h n hn
      · cases h
    · cases h
/-- A right graph of classes. -/
structure GraphOK (l : List DForm) (g : DGraph) : Prop where
  formed : S.formed g = 0
  has : ∀ n ∈ g.1, 0 ≤ S.form l n.1
  typed : S.typed l g g.1 = true
theorem graphOK_iff (l : List DForm) (g : DGraph) : S.check l g = 0 ↔ GraphOK l g := by
  unfold S.check
  by_cases h0 : S.formed g = 0
  · rw [if_neg (by simpa using h0)]
    cases hb : g.1.any (fun n => decide (S.form l n.1 < 0)) with
    | true =>
      rw [if_pos rfl]
      refine ⟨fun h => (by cases h), fun h => ?_⟩
      obtain ⟨n, h1, h2⟩ := List.any_eq_true.1 hb
      have := h.has n h1
      have := of_decide_eq_true h2
      omega
    | false =>
      rw [if_neg (by simp)]
      rw [List.any_eq_false] at hb
      have hh : ∀ n ∈ g.1, 0 ≤ S.form l n.1 := fun n hn => by have := hb n hn; simpa using this
      unfold S.unlessE
      cases ht : S.typed l g g.1 with
      | true => exact ⟨fun _ => ⟨h0, hh, ht⟩, fun _ => rfl⟩
      | false => exact ⟨fun h => (by cases h), fun h => (by have := h.typed; rw [ht] at this; cases this)⟩
  · rw [if_pos h0]
    exact ⟨fun h => absurd h h0, fun h => absurd h.formed h0⟩
theorem ble_mul {n b : Nat} (h : (n + 1) * b ≤ 140737488355328) : Nat.ble (Nat.mul (Nat.add n 1) b) 140737488355328 = true := Nat.ble_eq_true_of_le h
theorem cv_inner (a b : List DForm) (l : List DRule) (g : DGraph) (K9 : Int × List DNode → Option Rt_p_Convert) (colsA colsB : List DCol) (vs : List DVal) (c : ByteArray) (i : Nat) (acc : List DNode) (hB : colsB.length * 40 ≤ 140737488355328) (hacc : (acc.length + 1) * 40 ≤ 140737488355328)
    (hlen : (S.ruleOf l c).1.2.2.length = colsB.length) (hpre : ∀ k (h : k < (S.ruleOf l c).1.2.2.length), S.madePre (S.ruleOf l c).1.2.2[k] colsA vs = true) :
    G_p_Convert_15 LF a b l g K9 LF (colsA, vs, colsB, c, Int.ofNat 0, [], Int.ofNat i, Int.ofNat i, acc) = match S.cvIn colsA vs (S.ruleOf l c).1.2.2 colsB [] with
      | (some ws, _) => K9 (IntKind.i64.wrap (Int.add (Int.ofNat i) (Int.ofNat 1)), acc ++ [((S.ruleOf l c).1.2.1, ws)])
      | (none, d) => some (S.zGraph, (Int.ofNat i, d), 10, ()) := by
  have hBl : colsB.length < LF := by unfold LF; omega
  refine range0 (σ := List DVal) (R := Rt_p_Convert) colsB (fun k s => (colsA, vs, colsB, c, k, s, Int.ofNat i, Int.ofNat i, acc)) (fun k s => s.length = k) (fun rest k s => match S.cvIn colsA vs ((S.ruleOf l c).1.2.2.drop k) rest s with
      | (some ws, _) => K9 (IntKind.i64.wrap (Int.add (Int.ofNat i) (Int.ofNat 1)), acc ++ [((S.ruleOf l c).1.2.1, ws)])
      | (none, d) => some (S.zGraph, (Int.ofNat i, d), 10, ())) hBl (fun K s hI => ?_) (fun K k col rest s hI r h => ?_) [] rfl
  · have : S.cvIn colsA vs ((S.ruleOf l c).1.2.2.drop colsB.length) [] s = (some s, S.lit []) := by unfold S.cvIn; split <;> simp_all
    simp only [R_p_Convert_15, ilt_self, cond_false, this, ble_mul hacc, cond_true]
    rfl
  · have hk : k < (S.ruleOf l c).1.2.2.length := by rw [hlen]; exact r.lt
    have hj : jget (S.ruleOf l c).1.2.2 (Int.ofNat k) = some (S.ruleOf l c).1.2.2[k] := by rw [jget_nat]; exact List.getElem?_eq_getElem hk
    rw [List.drop_eq_getElem_cons hk, S.cvIn]
    simp only [R_p_Convert_15, r.ilt, r.get, r.next, cond_true, hj, Prod.eta, hpre k hk]
    cases hm : (S.made (S.ruleOf l c).1.2.2[k] colsA vs col).2 with
    | true =>
      rw [Bool.not_true, cond_false, if_pos rfl]
      have hs := h (s ++ [(S.made (S.ruleOf l c).1.2.2[k] colsA vs col).1]) (by simp [hI])
      have hb : Nat.ble (Nat.mul (Nat.add s.length 1) 16) 140737488355328 = true := ble_mul (by have := r.lt; rw [hI]; omega)
      rw [hb, cond_true]
      exact hs
    | false =>
      rw [Bool.not_false, cond_true, if_neg (by simp)]
      rfl
theorem F_p_Convert_eq (a b : List DForm) (l : List DRule) (g : DGraph) (hb : ∀ f ∈ b, f.2.length * 40 ≤ 140737488355328) : F_p_Convert LF a b l g = some ((S.convert a b l g).1, (S.convert a b l g).2.1, (S.convert a b l g).2.2, ()) := by
  have f1 : S.first [S.checkRules a b l] = S.checkRules a b l := by
    simp only [S.first]; split <;> simp_all
  simp only [F_p_Convert, R_p_Convert_in, S.convert, f1, ne_zero, Prod.eta]
  by_cases h0 : ¬ S.checkRules a b l = 0
  · rw [decide_eq_true h0, cond_true, if_pos h0]; rfl
  have h0 := Decidable.not_not.1 h0
  rw [decide_eq_false (by simpa using h0), cond_false, if_neg (by simpa using h0)]
  by_cases h1 : ¬ S.check a g = 0
  · rw [decide_eq_true h1, cond_true, if_pos h1]; rfl
  have h1 := Decidable.not_not.1 h1
  rw [decide_eq_false (by simpa using h1), cond_false, if_neg (by simpa using h1)]
  have h0' : S.checkRules0 a b l = 0 := by
    unfold S.checkRules at h0
    split at h0
    · exact h0
    · contradiction
  have hR := (rulesOK_iff a b l).1 h0'
  have hG := (graphOK_iff a g).1 h1
  obtain ⟨hn, _, _, _, _⟩ := formed_zero hG.formed
  have hnl : g.1.length < LF := by unfold LF; omega
  refine range0 (σ := List DNode) (R := Rt_p_Convert) g.1 (fun k s => (k, s)) (fun k s => s.length = k) (fun rest k s => some ((S.cvGo a b l g.2 k rest s).1, (S.cvGo a b l g.2 k rest s).2.1, (S.cvGo a b l g.2 k rest s).2.2, ())) hnl (fun K s hI => ?_) (fun K k n rest s hI r h => ?_) [] rfl
  · simp only [R_p_Convert_9, ilt_self, cond_false]; rfl
  · obtain ⟨fa, a1, a2, a3, a4⟩ := form_get (hG.has n r.mem)
    have hru : (S.ruleOf l n.1).2 = true := by rw [← a4]; exact hR.all fa a3
    obtain ⟨m1, m2⟩ := ruleOf_mem hru
    obtain ⟨fb, b1, b2, b3, b4⟩ := form_get (hR.has _ m1).2
    simp only [R_p_Convert_9, r.ilt, r.get, cond_true, a1, b1]
    have hgl := hR.glen _ m1
    have hvl : n.2.length = (S.colsOf a n.1).length := (typed_len hG.typed n r.mem).1
    refine (cv_inner a b l g K fa.2 fb.2 n.2 n.1 k s (hb fb b3) (by have := r.lt; rw [hI]; omega) (by rw [hgl, b2]) fun j hj => ?_).trans ?_
    · have := hR.gok _ m1 j hj (by rw [← hgl]; exact hj)
      rw [m2] at this
      rw [← a2]
      exact made_pre this hvl
    · rw [S.cvGo]
      simp only [a2, b2]
      cases hcv : S.cvIn fa.2 n.2 (S.ruleOf l n.1).1.2.2 fb.2 [] with
      | mk o d =>
        cases o with
        | none => rfl
        | some ws =>
          simp only
          rw [r.next]
          exact h _ (by simp [hI])
theorem con_p_Convert : Con Try.prog id_p_Convert sp_p_Convert := mk_p_Convert ⟨con_p_CheckRules, con_p_check, con_p_first, con_slices_Clone_Val, con_p_ruleOf, con_p_form, con_p_made, trivial⟩ fun x y hx h => ⟨LF, (F_p_Convert_eq _ _ _ _ fun f hf => (hx.2.1.2 f hf).2.1).trans h⟩
end Go.Proofs.Ytcnhjofpmpipfaa
end

/- The contracts of pack's chaining of rules. -/
section
set_option linter.unusedVariables false
set_option maxRecDepth 100000
namespace Go.Proofs.Ytcnhjofpmpipfaa
open Go Go.Sx Go.RowKit Go.Jx
theorem F_p_both_eq (lf : Nat) (a b : DGive) : F_p_both lf a b = some ((S.both a b).1, (S.both a b).2, ()) := by
  obtain ⟨af, an, ak⟩ := a
  obtain ⟨bf, bn, bk⟩ := b
  simp only [F_p_both, R_p_both_in, G_p_both_10, R_p_both_10, G_p_both_13, R_p_both_13, G_p_both_15, R_p_both_15, G_p_both_17, R_p_both_17, G_p_both_19, R_p_both_19, G_p_both_21, R_p_both_21, S.both, ieqI_eq, iltI_eq, oL, S.zGive]
  have hlt : (!decide (bk < 2)) = decide (2 ≤ bk) := by by_cases h : bk < 2 <;> simp [h]; omega
  rw [hlt]
  by_cases b1 : bn = 1
  · simp [b1]
  by_cases a1 : an = 1
  · simp [b1, a1]
  by_cases a2 : an = 2
  · by_cases b3 : bn = 3
    · simp [a2, b3]
    by_cases b4 : bn = 4 <;> simp [a2, b3, b4, b1]
  by_cases a4 : an = 4
  · by_cases b4 : bn = 4 <;> simp [a4, b4, b1]
  by_cases a5 : an = 5
  · by_cases b5 : bn = 5 <;> simp [a5, b5, b1]
  by_cases a6 : an = 6
  · by_cases b2 : bn = 2
    · simp [a6, b2]
    by_cases b3 : bn = 3
    · simp [a6, b3]
    by_cases b4 : bn = 4 <;> simp [a6, b2, b3, b4, b1]
  simp [a1, a2, a4, a5, a6, b1]
theorem con_p_both : Con Try.prog id_p_both sp_p_both := mk_p_both ⟨con_p_within, trivial⟩ fun x y _ h => ⟨0, (F_p_both_eq _ _ _).trans h⟩
/-- Whether a set of names holds one. -/
def mhas (n : ByteArray) (m : List (ByteArray × Bool)) : Bool := match @mfind TC.str TC.bool n m with
  | none => false
  | some v => v
theorem mhas_nil (n : ByteArray) : mhas n [] = false := rfl
theorem mhas_mset (k n : ByteArray) : ∀ m : List (ByteArray × Bool), mhas n (@mset TC.str TC.bool k true m) = (keqS k n || mhas n m)
  | [] => by
    show (match cond (keqS n k) (some true) none with | none => false | some v => v) = _
    rw [mhas_nil, Bool.or_false, show keqS k n = keqS n k from by unfold keqS; exact decide_eq_decide.2 eq_comm]
    cases keqS n k <;> rfl
  | e :: m => by
    have ih := mhas_mset k n m
    have hc : keqS k n = keqS n k := by unfold keqS; exact decide_eq_decide.2 eq_comm
    rw [hc] at ih ⊢
    show (match @mfind TC.str TC.bool n (cond (keqS k e.1) ((k, true) :: m) (e :: @mset TC.str TC.bool k true m)) with | none => false | some v => v) = _
    have h2 : mhas n (e :: m) = cond (keqS n e.1) e.2 (mhas n m) := by
      show (match cond (keqS n e.1) (some e.2) (@mfind TC.str TC.bool n m) with | none => false | some v => v) = _
      cases keqS n e.1 <;> rfl
    rw [h2]
    cases hk : keqS k e.1 with
    | true =>
      have : k = e.1 := of_decide_eq_true hk
      show (match cond (keqS n k) (some true) (@mfind TC.str TC.bool n m) with | none => false | some v => v) = _
      rw [← this]
      cases keqS n k <;> rfl
    | false =>
      show (match cond (keqS n e.1) (some e.2) (@mfind TC.str TC.bool n (@mset TC.str TC.bool k true m)) with | none => false | some v => v) = _
      cases hn : keqS n e.1 with
      | false => exact ih
      | true =>
        have h3 : n = e.1 := of_decide_eq_true hn
        have h4 : keqS n k = false := by rw [h3, ← hk]; unfold keqS; exact decide_eq_decide.2 eq_comm
        rw [h4]; rfl
theorem hasFrom_snoc (l : List DGive) (g : DGive) (n : ByteArray) : S.hasFrom (l ++ [g]) n = (keqS g.1 n || S.hasFrom l n) := by
  unfold S.hasFrom
  rw [List.any_append]
  simp [Bool.or_comm]
theorem ch_second (a b : DRule) (mid : List DCol) (gs : List DGive) (used : List (ByteArray × Bool)) (ha : a.2.2.length < LF) (hm : a.2.2.length ≤ mid.length) (hu : ∀ n, mhas n used = S.hasFrom b.2.2 n) :
    G_p_chained_15 LF a b mid LF (gs, used, Int.ofNat 0) = if S.chAsk b.2.2 a.2.2 mid = true then some ((a.1, b.2.1, gs), true, ()) else some (S.zRule, false, ()) := by
  refine range0 (σ := Unit) (R := Rt_p_chained) a.2.2 (fun k _ => (gs, used, k)) (fun _ _ => True) (fun rest k _ => if S.chAsk b.2.2 rest (mid.drop k) = true then some ((a.1, b.2.1, gs), true, ()) else some (S.zRule, false, ())) ha (fun K s _ => ?_) (fun K k g rest s _ r h => ?_) () trivial
  · have : S.chAsk b.2.2 [] (mid.drop a.2.2.length) = true := by unfold S.chAsk; rfl
    simp only [R_p_chained_15, ilt_self, cond_false, this, if_true]
  · have h := h () trivial
    have hk : k < mid.length := by have := r.lt; omega
    have hj : jget mid (Int.ofNat k) = some mid[k] := by rw [jget_nat]; exact List.getElem?_eq_getElem hk
    rw [List.drop_eq_getElem_cons hk, S.chAsk]
    obtain ⟨o, ho⟩ : ∃ o, @mfind TC.str TC.bool mid[k].1 used = o := ⟨_, rfl⟩
    have e := hu mid[k].1
    unfold mhas at e
    rw [ho] at e
    simp only [R_p_chained_15, r.ilt, r.get, r.next, h, cond_true, hj, ho]
    simp only [ieqI_eq, oL]
    rw [← e]
    unfold S.asksG
    generalize S.chAsk b.2.2 rest (List.drop (k + 1) mid) = z
    by_cases h3 : g.2.1 = 3
    · rw [decide_eq_true h3]; cases o with
      | none => rfl
      | some v => cases v <;> rfl
    rw [decide_eq_false h3]
    by_cases h4 : g.2.1 = 4
    · rw [decide_eq_true h4]; cases o with
      | none => rfl
      | some v => cases v <;> rfl
    rw [decide_eq_false h4]
    by_cases h5 : g.2.1 = 5
    · rw [decide_eq_true h5]; cases o with
      | none => rfl
      | some v => cases v <;> rfl
    rw [decide_eq_false h5]
    rfl
theorem F_p_chained_eq (a b : DRule) (mid : List DCol) (ha : a.2.2.length < LF) (hb : b.2.2.length * 32 ≤ 140737488355328) (hp : S.chainedPre a b mid = true) :
    F_p_chained LF a b mid = some ((S.chained a b mid).1, (S.chained a b mid).2, ()) := by
  unfold S.chainedPre at hp
  rw [Bool.and_eq_true] at hp
  obtain ⟨hm, hp⟩ := hp
  have hm := of_decide_eq_true hm
  rw [List.all_eq_true] at hp
  have hbl : b.2.2.length < LF := by unfold LF; omega
  have fin : ∀ o : Option (List DGive), (match o with | none => some (S.zRule, false, ()) | some gs => if S.chAsk b.2.2 a.2.2 mid = true then some ((a.1, b.2.1, gs), true, ()) else some (S.zRule, false, ())) =
      some ((match o with | none => (S.zRule, false) | some gs => if S.chAsk b.2.2 a.2.2 mid = true then ((a.1, b.2.1, gs), true) else (S.zRule, false) : DRule × Bool).1, (match o with | none => (S.zRule, false) | some gs => if S.chAsk b.2.2 a.2.2 mid = true then ((a.1, b.2.1, gs), true) else (S.zRule, false) : DRule × Bool).2, ()) := by
    intro o
    cases o with
    | none => rfl
    | some gs => cases S.chAsk b.2.2 a.2.2 mid <;> rfl
  simp only [F_p_chained, R_p_chained_in, S.chained]
  refine Eq.trans ?_ (fin _)
  refine range0 (σ := List (ByteArray × Bool) × List DGive) (R := Rt_p_chained) b.2.2 (fun k s => (k, s.1, s.2)) (fun k s => s.2.length = k ∧ ∀ n, mhas n s.1 = S.hasFrom (b.2.2.take k) n)
    (fun rest k s => match S.chGo a mid rest s.2 with | none => some (S.zRule, false, ()) | some gs => if S.chAsk b.2.2 a.2.2 mid = true then some ((a.1, b.2.1, gs), true, ()) else some (S.zRule, false, ())) hbl (fun K s hI => ?_) (fun K k g rest s hI r h => ?_) ([], []) ⟨rfl, fun n => rfl⟩
  · rw [List.take_length] at hI
    simp only [R_p_chained_4, ilt_self, cond_false, S.chGo]
    exact ch_second a b mid s.2 s.1 ha hm hI.2
  · have hu : ∀ n, mhas n (@mset TC.str TC.bool g.1 true s.1) = S.hasFrom (b.2.2.take (k + 1)) n := fun n => by
      rw [mhas_mset, hI.2, r.take, hasFrom_snoc]
    have hbl : Nat.ble (Nat.mul (Nat.add s.2.length 1) 32) 140737488355328 = true := ble_mul (by have := r.lt; rw [hI.1]; omega)
    have step : ∀ x : DGive, K (Int.ofNat (k + 1), @mset TC.str TC.bool g.1 true s.1, s.2 ++ [x]) = _ := fun x => h (@mset TC.str TC.bool g.1 true s.1, s.2 ++ [x]) ⟨by simp [hI.1], hu⟩
    simp only [R_p_chained_4, r.ilt, r.get, cond_true, hbl, ieqI_eq, oL]
    rw [S.chGo]
    by_cases h6 : g.2.1 = 6
    · rw [decide_eq_true h6, cond_true, if_pos (.inl h6)]
      have := step g
      rw [← r.next] at this
      exact this
    by_cases h7 : g.2.1 = 7
    · rw [decide_eq_false h6, cond_false, decide_eq_true h7, cond_true, if_pos (.inr h7)]
      have := step g
      rw [← r.next] at this
      exact this
    rw [decide_eq_false h6, cond_false, decide_eq_false h7, cond_false, if_neg (by simp [h6, h7])]
    obtain ⟨p1, p2⟩ := of_decide_eq_true (hp g r.mem) h6 h7
    obtain ⟨v, e1, e2, e3⟩ := jget_of p1 p2
    have e4 : S.at_ S.zGive a.2.2 (S.col mid g.1) = v := by unfold S.at_; rw [e2]; rfl
    rw [e1, e4]
    simp only [Prod.eta]
    cases hbo : (S.both v g).2 with
    | false => rfl
    | true =>
      rw [Bool.not_true, cond_false, if_pos rfl]
      have := step (S.both v g).1
      rw [← r.next] at this
      exact this
theorem con_p_chained : Con Try.prog id_p_chained sp_p_chained := mk_p_chained ⟨con_p_col, con_p_both, trivial⟩ fun x y hx h => ⟨LF, by
  have h : cond (S.chainedPre x.1 x.2.1 x.2.2.1) (some ((S.chained x.1 x.2.1 x.2.2.1).1, (S.chained x.1 x.2.1 x.2.2.1).2, ())) none = some y := h
  cases hr : S.chainedPre x.1 x.2.1 x.2.2.1 with
  | false => rw [hr] at h; cases h
  | true => rw [hr] at h; exact (F_p_chained_eq _ _ _ (wf_len hx.1.2.2) hx.2.1.2.2.1 hr).trans h⟩
/-- Rules that are right may be chained. -/
theorem chained_pre {l1 l2 l3 : List DForm} {a b : List DRule} (hA : RulesOK l1 l2 a) (hB : RulesOK l2 l3 b) {x y : DRule} (hx : x ∈ a) (hy : y ∈ b) (hxy : y.1 = x.2.1) : S.chainedPre x y (S.colsOf l2 x.2.1) = true := by
  unfold S.chainedPre
  rw [Bool.and_eq_true]
  refine ⟨decide_eq_true (Nat.le_of_eq (hA.glen x hx)), ?_⟩
  rw [List.all_eq_true]
  intro g hg
  refine decide_eq_true fun h6 h7 => ?_
  obtain ⟨k, hk, rfl⟩ := List.mem_iff_getElem.1 hg
  have hgk := hB.gok y hy k hk (by rw [← hB.glen y hy]; exact hk)
  obtain ⟨w1, w2⟩ := give_pre hgk
  rw [hxy] at w2
  have w5 : S.within y.2.2[k].2.1 1 5 = true := by
    simp only [S.within, Bool.and_eq_true, decide_eq_true_eq] at w1 ⊢
    omega
  have := col_lt _ _ (w2 w5)
  exact ⟨w2 w5, by rw [hA.glen x hx]; exact this⟩
theorem F_p_Chain_eq (l1 l2 l3 : List DForm) (a b : List DRule) (h1 : l1.length < LF) : F_p_Chain LF l1 l2 l3 a b = some ((S.chain l1 l2 l3 a b).1, (S.chain l1 l2 l3 a b).2, ()) := by
  simp only [F_p_Chain, R_p_Chain_in, S.chain, ieqI_eq, oL]
  by_cases e1 : S.first [S.checkForms l1, S.checkForms l2, S.checkForms l3] = 0
  case neg => rw [decide_eq_false e1, Bool.not_false, cond_true, if_pos e1]
  rw [decide_eq_true e1, Bool.not_true, cond_false, if_neg (by simpa using e1)]
  by_cases e2 : S.first [S.checkRules0 l1 l2 a, S.checkRules0 l2 l3 b] = 0
  case neg => rw [decide_eq_false e2, Bool.not_false, cond_true, if_pos e2]
  rw [decide_eq_true e2, Bool.not_true, cond_false, if_neg (by simpa using e2)]
  have hAB : RulesOK l1 l2 a ∧ RulesOK l2 l3 b := by
    simp only [S.first] at e2
    split at e2
    · rename_i z1
      split at e2
      · rename_i z2; exact ⟨(rulesOK_iff _ _ _).1 z1, (rulesOK_iff _ _ _).1 z2⟩
      · contradiction
    · contradiction
  obtain ⟨hA, hB⟩ := hAB
  have h24 : l1.length ≤ 24 := by
    have hz : S.checkForms l1 = 0 := by
      simp only [S.first] at e1
      split at e1
      · rename_i z; exact z
      · contradiction
    unfold S.checkForms at hz
    split at hz
    · cases hz
    · omega
  refine range0 (σ := List DRule) (R := Rt_p_Chain) l1 (fun k s => (k, s)) (fun k s => s.length = k) (fun rest k s => some ((S.chainGo l2 a b rest s).1, (S.chainGo l2 a b rest s).2, ())) h1 (fun K s hI => ?_) (fun K k f rest s hI r h => ?_) [] rfl
  · simp only [R_p_Chain_9, ilt_self, cond_false]; rfl
  · have hxr : (S.ruleOf a f.1).2 = true := hA.all f r.mem
    obtain ⟨m1, m2⟩ := ruleOf_mem hxr
    obtain ⟨fm, b1, b2, b3, b4⟩ := form_get (hA.has _ m1).2
    have hyr : (S.ruleOf b (S.ruleOf a f.1).1.2.1).2 = true := by have := hB.all fm b3; rw [b4] at this; exact this
    obtain ⟨n1, n2⟩ := ruleOf_mem hyr
    have hpre := chained_pre hA hB m1 n1 n2
    rw [b2] at hpre
    have hbl : Nat.ble (Nat.mul (Nat.add s.length 1) 56) 140737488355328 = true := ble_mul (by have := r.lt; rw [hI]; omega)
    rw [S.chainGo]
    simp only [R_p_Chain_9, r.ilt, r.get, cond_true, b1, Prod.eta, hpre, hbl]
    rw [b2]
    cases hc : (S.chained (S.ruleOf a f.1).1 (S.ruleOf b (S.ruleOf a f.1).1.2.1).1 fm.2).2 with
    | false => rfl
    | true =>
      rw [Bool.not_true, cond_false, r.next, if_pos rfl]
      exact h _ (by simp [hI])
theorem con_p_Chain : Con Try.prog id_p_Chain sp_p_Chain := mk_p_Chain ⟨con_p_CheckForms, con_p_first, con_p_checkRules, con_p_ruleOf, con_p_chained, con_p_form, trivial⟩ fun x y hx h => ⟨LF, (F_p_Chain_eq _ _ _ _ _ (wf_len hx.1)).trans h⟩
end Go.Proofs.Ytcnhjofpmpipfaa
end

/- Comparisons, and the law's bounds. -/
section
set_option linter.unusedVariables false
set_option maxRecDepth 100000
namespace Go.Proofs.Ytcnhjofpmpipfaa
open Go Go.Sx Go.RowKit Go.Jx
theorem F_r_SameVals_eq (a b : List DVal) (hl : a.length < LF) : F_r_SameVals LF a b = some (S.sameVals a b, ()) := by
  simp only [F_r_SameVals, R_r_SameVals_in, ieq_nat, S.sameVals]
  by_cases hlen : a.length = b.length
  · rw [decide_eq_true hlen, Bool.not_true, cond_false]
    refine (range1 (R := Rt_r_SameVals) a (fun rest i => some (decide (rest = b.drop i), ())) hl (fun K => ?_) (fun K i v rest r h => ?_)).trans (by rw [List.drop_zero])
    · simp only [R_r_SameVals_4, ilt_self, cond_false]
      rw [List.drop_of_length_le (by omega), decide_eq_true rfl]
    · have hi : i < b.length := by have := r.lt; omega
      have hd : b.drop i = b[i] :: b.drop (i + 1) := List.drop_eq_getElem_cons hi
      have hb : jget b (Int.ofNat i) = some b[i] := jget_nat.trans (List.getElem?_eq_getElem hi)
      simp only [R_r_SameVals_4, r.ilt, r.get, hb, r.next, h, cond_true, hd]
      generalize b[i] = w
      obtain ⟨v1, v2⟩ := v
      obtain ⟨w1, w2⟩ := w
      simp only [keqI, Bool.and_true]
      by_cases e1 : v1 = w1 <;> by_cases e2 : v2 = w2 <;> simp [e1, e2]
  · have hn : ¬ a = b := fun e => hlen (by rw [e])
    rw [decide_eq_false hlen, Bool.not_false, cond_true, decide_eq_false hn]
theorem con_r_SameVals : Con Try.prog id_r_SameVals sp_r_SameVals := mk_r_SameVals trivial fun x y hx h => ⟨LF, (F_r_SameVals_eq _ _ (wf_len hx.1)).trans h⟩
theorem F_r_SameGraphs_eq (a b : DGraph) (hl : a.1.length < LF) : F_r_SameGraphs LF a b = some (S.sameGraphs a b, ()) := by
  simp only [F_r_SameGraphs, R_r_SameGraphs_in, ieq_nat, S.sameGraphs]
  obtain ⟨a1, a2⟩ := a
  obtain ⟨b1, b2⟩ := b
  have hs : S.sameVals a2 b2 = decide (a2 = b2) := rfl
  simp only [hs]
  by_cases hr : a2 = b2
  · rw [decide_eq_true hr, Bool.not_true, cond_false]
    by_cases hlen : a1.length = b1.length
    · rw [decide_eq_true hlen, Bool.not_true, cond_false]
      refine (range1 (R := Rt_r_SameGraphs) a1 (fun rest i => some (decide (rest = b1.drop i), ())) hl (fun K => ?_) (fun K i v rest r h => ?_)).trans (by rw [List.drop_zero]; simp [hr])
      · simp only [R_r_SameGraphs_5, ilt_self, cond_false]
        rw [List.drop_of_length_le (by omega), decide_eq_true rfl]
      · have hi : i < b1.length := by have := r.lt; dsimp only at *; omega
        have hd : b1.drop i = b1[i] :: b1.drop (i + 1) := List.drop_eq_getElem_cons hi
        have hb : jget b1 (Int.ofNat i) = some b1[i] := jget_nat.trans (List.getElem?_eq_getElem hi)
        have hg := r.get
        simp only [R_r_SameGraphs_5, r.ilt, hg, hb, r.next, h, cond_true, hd]
        generalize b1[i] = w
        obtain ⟨v1, v2⟩ := v
        obtain ⟨w1, w2⟩ := w
        simp only [keqS, S.sameVals]
        by_cases e1 : v1 = w1 <;> by_cases e2 : v2 = w2 <;> simp [e1, e2]
    · have hn : ¬ (a1, a2) = (b1, b2) := fun e => hlen (by rw [(Prod.mk.inj e).1])
      rw [decide_eq_false hlen, Bool.not_false, cond_true, decide_eq_false hn]
  · have hn : ¬ (a1, a2) = (b1, b2) := fun e => hr (Prod.mk.inj e).2
    rw [decide_eq_false hr, Bool.not_false, cond_true, decide_eq_false hn]
theorem con_r_SameGraphs : Con Try.prog id_r_SameGraphs sp_r_SameGraphs := mk_r_SameGraphs ⟨con_r_SameVals, trivial⟩ fun x y hx h => ⟨LF, (F_r_SameGraphs_eq _ _ (wf_len hx.1.1)).trans h⟩
theorem F_l_fewRules_eq (l : List DRule) (hl : l.length < LF) : F_l_fewRules LF l = some (S.fewRules l, ()) := by
  simp only [F_l_fewRules, R_l_fewRules_in, S.fewRules]
  refine range1 (R := Rt_l_fewRules) l (fun rest i => some (rest.all (fun r => decide (r.2.2.length ≤ 8)) && decide (l.length ≤ 8 ∨ 24 < l.length ∧ l.length ≤ 30), ())) hl (fun K => ?_) (fun K i v rest r h => ?_)
  · simp only [R_l_fewRules_2, ilt_self, cond_false, ilt_nat, List.all_nil, Bool.true_and]
    by_cases h8 : 8 < l.length <;> by_cases h24 : 24 < l.length <;> by_cases h30 : 30 < l.length <;> simp [h8, h24, h30] <;> omega
  · simp only [R_l_fewRules_2, r.ilt, r.get, r.next, h, cond_true, ilt_nat, List.all_cons]
    by_cases h8 : 8 < v.2.2.length
    · have h8' : ¬ v.2.2.length ≤ 8 := by omega
      simp [h8, h8']
    · have h8' : v.2.2.length ≤ 8 := by omega
      simp [h8, h8']
theorem con_l_fewRules : Con Try.prog id_l_fewRules sp_l_fewRules := mk_l_fewRules trivial fun x y hx h => ⟨LF, (F_l_fewRules_eq _ (wf_len hx.1)).trans h⟩
theorem F_l_few_eq (g : DGraph) (hl : g.1.length < LF) : F_l_few LF g = some (S.few g, ()) := by
  simp only [F_l_few, R_l_few_in, S.few]
  refine range1 (R := Rt_l_few) g.1 (fun rest i => some (rest.all (fun n => decide ((n.2.length ≤ 8 ∨ 30 < n.2.length) ∧ n.2.length ≤ 40)) && decide ((g.1.length ≤ 30 ∨ 400 < g.1.length ∧ g.1.length ≤ 410) ∧ (g.2.length ≤ 10 ∨ 60 < g.2.length ∧ g.2.length ≤ 70)), ())) hl (fun K => ?_) (fun K i v rest r h => ?_)
  · simp only [R_l_few_3, ilt_self, cond_false, ilt_nat, List.all_nil, Bool.true_and]
    generalize g.1.length = n
    generalize g.2.length = k
    by_cases a1 : 30 < n <;> by_cases a2 : 400 < n <;> by_cases a3 : 410 < n <;> by_cases b1 : 10 < k <;> by_cases b2 : 60 < k <;> by_cases b3 : 70 < k <;> simp [a1, a2, a3, b1, b2, b3] <;> omega
  · simp only [R_l_few_3, r.ilt, r.get, r.next, h, cond_true, ilt_nat, List.all_cons]
    generalize v.2.length = n
    generalize (rest.all fun n => decide ((n.2.length ≤ 8 ∨ 30 < n.2.length) ∧ n.2.length ≤ 40)) = w
    by_cases a1 : 8 < n
    · rw [decide_eq_true a1, cond_true]
      by_cases a2 : 30 < n
      · rw [decide_eq_true a2, Bool.not_true, cond_false]
        by_cases a3 : 40 < n
        · have e : decide ((n ≤ 8 ∨ 30 < n) ∧ n ≤ 40) = false := decide_eq_false (by omega)
          rw [e, decide_eq_true a3]; rfl
        · have e : decide ((n ≤ 8 ∨ 30 < n) ∧ n ≤ 40) = true := decide_eq_true (by omega)
          rw [e, decide_eq_false a3]; cases w <;> rfl
      · have e : decide ((n ≤ 8 ∨ 30 < n) ∧ n ≤ 40) = false := decide_eq_false (by omega)
        rw [e, decide_eq_false a2]; rfl
    · rw [decide_eq_false a1, cond_false]
      have e : decide ((n ≤ 8 ∨ 30 < n) ∧ n ≤ 40) = true := decide_eq_true (by omega)
      have a3 : ¬ 40 < n := by omega
      rw [e, decide_eq_false a3]; cases w <;> rfl
theorem con_l_few : Con Try.prog id_l_few sp_l_few := mk_l_few trivial fun x y hx h => ⟨LF, (F_l_few_eq _ (wf_len hx.1.1)).trans h⟩
theorem few_inner (l : List DForm) (K2 : Int → Option Rt_l_fewForms) (i : Nat) (f : DForm) (hf : jget l (Int.ofNat i) = some f) (hl : f.2.length < LF) :
    G_l_fewForms_8 LF l K2 LF (Int.ofNat f.2.length, Int.ofNat 0, Int.ofNat i) = cond (f.2.all fun c => decide (c.1.size ≤ 30 ∧ c.2.2.size ≤ 30)) (K2 (IntKind.i64.wrap (Int.add (Int.ofNat i) (Int.ofNat 1)))) (some (false, ())) := by
  refine range0 (σ := Unit) (R := Rt_l_fewForms) f.2 (fun k _ => (Int.ofNat f.2.length, k, Int.ofNat i)) (fun _ _ => True) (fun rest k _ => cond (rest.all fun c => decide (c.1.size ≤ 30 ∧ c.2.2.size ≤ 30)) (K2 (IntKind.i64.wrap (Int.add (Int.ofNat i) (Int.ofNat 1)))) (some (false, ()))) hl (fun K s _ => ?_) (fun K k c rest s _ r h => ?_) () trivial
  · simp only [R_l_fewForms_8, ilt_self, cond_false, List.all_nil, cond_true]
  · have h := h () trivial
    simp only [R_l_fewForms_8, hf, r.ilt, r.get, r.next, h, cond_true, ilt_nat, List.all_cons]
    by_cases a1 : 30 < c.1.size
    · have e : decide (c.1.size ≤ 30 ∧ c.2.2.size ≤ 30) = false := decide_eq_false (by omega)
      rw [e, decide_eq_true a1]; rfl
    by_cases a2 : 30 < c.2.2.size
    · have e : decide (c.1.size ≤ 30 ∧ c.2.2.size ≤ 30) = false := decide_eq_false (by omega)
      rw [e, decide_eq_false a1, decide_eq_true a2]; rfl
    · have e : decide (c.1.size ≤ 30 ∧ c.2.2.size ≤ 30) = true := decide_eq_true (by omega)
      rw [e, decide_eq_false a1, decide_eq_false a2, Bool.true_and]; rfl
theorem F_l_fewForms_eq (l : List DForm) (hl : l.length < LF) (hw : ∀ f ∈ l, f.2.length < LF) : F_l_fewForms LF l = some (S.fewForms l, ()) := by
  simp only [F_l_fewForms, R_l_fewForms_in, S.fewForms]
  refine range1 (R := Rt_l_fewForms) l (fun rest i => some (rest.all (fun f => decide (f.1.size ≤ 30 ∧ (f.2.length ≤ 6 ∨ 30 < f.2.length) ∧ f.2.length ≤ 40) && f.2.all fun c => decide (c.1.size ≤ 30 ∧ c.2.2.size ≤ 30)) && decide (l.length ≤ 6 ∨ 24 < l.length ∧ l.length ≤ 30), ())) hl (fun K => ?_) (fun K i v rest r h => ?_)
  · simp only [R_l_fewForms_2, ilt_self, cond_false, ilt_nat, List.all_nil, Bool.true_and]
    by_cases h8 : 6 < l.length <;> by_cases h24 : 24 < l.length <;> by_cases h30 : 30 < l.length <;> simp [h8, h24, h30] <;> omega
  · have hin := few_inner l K i v r.get (hw v r.mem)
    rw [r.next, h] at hin
    simp only [R_l_fewForms_2, r.ilt, r.get, cond_true, ilt_nat, List.all_cons]
    simp only [hin]
    generalize (v.2.all fun c => decide (c.1.size ≤ 30 ∧ c.2.2.size ≤ 30)) = w
    generalize v.2.length = n
    generalize v.1.size = m
    by_cases a0 : 30 < m
    · have e : decide (m ≤ 30 ∧ (n ≤ 6 ∨ 30 < n) ∧ n ≤ 40) = false := decide_eq_false (by omega)
      rw [e, decide_eq_true a0]; rfl
    rw [decide_eq_false a0, cond_false]
    by_cases a1 : 6 < n
    · rw [decide_eq_true a1, cond_true]
      by_cases a2 : 30 < n
      · rw [decide_eq_true a2, Bool.not_true, cond_false]
        by_cases a3 : 40 < n
        · have e : decide (m ≤ 30 ∧ (n ≤ 6 ∨ 30 < n) ∧ n ≤ 40) = false := decide_eq_false (by omega)
          rw [e, decide_eq_true a3]; rfl
        · have e : decide (m ≤ 30 ∧ (n ≤ 6 ∨ 30 < n) ∧ n ≤ 40) = true := decide_eq_true (by omega)
          rw [e, decide_eq_false a3]; cases w <;> rfl
      · have e : decide (m ≤ 30 ∧ (n ≤ 6 ∨ 30 < n) ∧ n ≤ 40) = false := decide_eq_false (by omega)
        rw [e, decide_eq_false a2]; rfl
    · rw [decide_eq_false a1, cond_false]
      have e : decide (m ≤ 30 ∧ (n ≤ 6 ∨ 30 < n) ∧ n ≤ 40) = true := decide_eq_true (by omega)
      have a3 : ¬ 40 < n := by omega
      rw [e, decide_eq_false a3]; cases w <;> rfl
theorem con_l_fewForms : Con Try.prog id_l_fewForms sp_l_fewForms := mk_l_fewForms trivial fun x y hx h => ⟨LF, (F_l_fewForms_eq _ (wf_len hx.1) fun f hf => wf_len (hx.1.2 f hf).2).trans h⟩
end Go.Proofs.Ytcnhjofpmpipfaa
end

/- What right classes and right rules are; plain laws about them. -/
section
set_option linter.unusedVariables false
set_option maxRecDepth 100000
namespace Go.Proofs.Ytcnhjofpmpipfaa
open Go Go.Sx Go.RowKit Go.Jx
structure ColsOK (cs : List DCol) : Prop where
  len : cs.length ≤ 30
  small : ∀ c ∈ cs, S.small c.1 = true
  one : ∀ k (h : k < cs.length), S.col (cs.take k) cs[k].1 < 0
  kind : ∀ c ∈ cs, 1 ≤ c.2.1 ∧ c.2.1 ≤ 3
  bare : ∀ c ∈ cs, ¬ c.2.1 = 3 → c.2.2 = S.lit []
structure FormsOK (l : List DForm) : Prop where
  len : l.length ≤ 24
  cls : ∀ f ∈ l, S.class_ f.1 = true
  one : ∀ k (h : k < l.length), S.form (l.take k) l[k].1 < 0
  cols : ∀ f ∈ l, ColsOK f.2
  ref : ∀ f ∈ l, ∀ c ∈ f.2, c.2.1 = 3 → c.2.2 = S.ANY ∨ 0 ≤ S.form l c.2.2
theorem lw_class_ne_any {s : ByteArray} (h : S.class_ s = true) : ¬ s = S.ANY := by
  intro e
  rw [e] at h
  exact absurd h (by decide +kernel)
theorem lw_small_ne_nil {s : ByteArray} (h : S.small s = true) : ¬ s = S.lit [] := by
  intro e
  rw [e] at h
  exact absurd h (by decide +kernel)
theorem drop_facts {α : Type} {l : List α} {k : Nat} {r : α} {rs : List α} (hd : l.drop k = r :: rs) : ∃ h : k < l.length, l[k] = r ∧ l.drop (k + 1) = rs := by
  have hk : k < l.length := by
    rcases Nat.lt_or_ge k l.length with h | h
    · exact h
    · rw [List.drop_eq_nil_of_le h] at hd; cases hd
  rw [List.drop_eq_getElem_cons hk] at hd
  exact ⟨hk, (List.cons.inj hd).1, (List.cons.inj hd).2⟩
theorem lw_ccGo (l : List DCol) : ∀ (cs : List DCol) (k : Nat), l.drop k = cs → S.ccGo l k cs = 0 → ∀ j (h : j < l.length), k ≤ j → S.small l[j].1 = true ∧ S.col (l.take j) l[j].1 < 0 ∧ S.within l[j].2.1 1 3 = true ∧ (¬ l[j].2.1 = 3 → l[j].2.2 = S.lit [])
  | [], k, hd, _ => fun j hj hk => by
    have : l.length ≤ k := by simpa using hd
    omega
  | c :: r, k, hd, h => by
    obtain ⟨hk, e1, e2⟩ := drop_facts hd
    rw [S.ccGo] at h
    cases h1 : S.small c.1 with
    | false => rw [if_pos h1] at h; exact absurd h (by decide)
    | true =>
    rw [if_neg (by simp [h1])] at h
    by_cases h2 : ¬ S.col (l.take k) c.1 < 0
    · rw [if_pos h2] at h; exact absurd h (by decide)
    rw [if_neg h2] at h
    cases h3 : S.within c.2.1 1 3 with
    | false => rw [if_pos h3] at h; exact absurd h (by decide)
    | true =>
    rw [if_neg (by simp [h3])] at h
    by_cases h4 : ¬ c.2.1 = 3 ∧ ¬ c.2.2 = S.lit []
    · rw [if_pos h4] at h; exact absurd h (by decide)
    rw [if_neg h4] at h
    intro j hj hkj
    by_cases e : j = k
    · subst e
      rw [e1]
      exact ⟨h1, Decidable.not_not.1 h2, h3, fun hn => Decidable.not_not.1 fun hh => h4 ⟨hn, hh⟩⟩
    · exact lw_ccGo l r (k + 1) e2 h j hj (by omega)
theorem colsOK {l : List DCol} (h : S.checkCols l = 0) : ColsOK l := by
  unfold S.checkCols at h
  by_cases h30 : 30 < l.length
  · rw [if_pos h30] at h; exact absurd h (by decide)
  rw [if_neg h30] at h
  have key := lw_ccGo l l 0 rfl h
  refine ⟨by omega, fun c hc => ?_, fun k hk => (key k hk (Nat.zero_le _)).2.1, fun c hc => ?_, fun c hc => ?_⟩
  all_goals
    obtain ⟨k, hk, rfl⟩ := List.mem_iff_getElem.1 hc
  · exact (key k hk (Nat.zero_le _)).1
  · simpa only [S.within, Bool.and_eq_true, decide_eq_true_eq] using (key k hk (Nat.zero_le _)).2.2.1
  · exact (key k hk (Nat.zero_le _)).2.2.2
theorem lw_cfGo2 (l : List DForm) : ∀ fs : List DForm, S.cfGo2 l fs = 0 → ∀ f ∈ fs, S.cfIn l f.2 = true
  | [], _ => fun f hf => absurd hf (by simp)
  | f :: r, h => by
    rw [S.cfGo2] at h
    by_cases hc : S.cfIn l f.2 = true
    · rw [if_pos hc] at h
      intro x hx
      rcases List.mem_cons.1 hx with e | e
      · rw [e]; exact hc
      · exact lw_cfGo2 l r h x e
    · rw [if_neg hc] at h; exact absurd h (by decide)
theorem lw_first3 {a b c : Int} (h : S.first [a, b, c] = 0) : a = 0 ∧ b = 0 ∧ c = 0 := by
  simp only [S.first] at h
  by_cases ha : a = 0
  · rw [if_pos ha] at h
    by_cases hb : b = 0
    · rw [if_pos hb] at h
      by_cases hc : c = 0
      · exact ⟨ha, hb, hc⟩
      · rw [if_neg hc] at h; exact absurd h hc
    · rw [if_neg hb] at h; exact absurd h hb
  · rw [if_neg ha] at h; exact absurd h ha
theorem lw_first2 {a b : Int} (h : S.first [a, b] = 0) : a = 0 ∧ b = 0 := by
  have := lw_first3 (c := 0) (a := a) (b := b) (by simp only [S.first] at h ⊢; simpa using h)
  exact ⟨this.1, this.2.1⟩
theorem lw_unless {x : Bool} {e : Int} (he : ¬ e = 0) (h : S.unlessE x e = 0) : x = true := by
  cases x with
  | true => rfl
  | false => exact absurd h he
theorem lw_cfGo (l : List DForm) : ∀ (fs : List DForm) (k : Nat), l.drop k = fs → S.cfGo l k fs = 0 → (∀ j (h : j < l.length), k ≤ j → S.class_ l[j].1 = true ∧ S.form (l.take j) l[j].1 < 0 ∧ S.checkCols l[j].2 = 0) ∧ S.cfGo2 l l = 0
  | [], k, hd, h => ⟨fun j hj hk => by
    have : l.length ≤ k := by simpa using hd
    omega, h⟩
  | f :: r, k, hd, h => by
    obtain ⟨hk, e1, e2⟩ := drop_facts hd
    rw [S.cfGo] at h
    by_cases he : S.first [S.unlessE (S.class_ f.1) 4, S.unlessE (decide (S.form (l.take k) f.1 < 0)) 6, S.checkCols f.2] = 0
    · rw [if_pos he] at h
      obtain ⟨q1, q2, q3⟩ := lw_first3 he
      have ih := lw_cfGo l r (k + 1) e2 h
      refine ⟨fun j hj hkj => ?_, ih.2⟩
      by_cases e : j = k
      · subst e; rw [e1]; exact ⟨lw_unless (by decide) q1, of_decide_eq_true (lw_unless (by decide) q2), q3⟩
      · exact ih.1 j hj (by omega)
    · rw [if_neg he] at h; exact absurd h he
theorem lw_cfIn (l : List DForm) : ∀ cs : List DCol, S.cfIn l cs = true → ∀ c ∈ cs, c.2.1 = 3 → c.2.2 = S.ANY ∨ 0 ≤ S.form l c.2.2
  | [], _ => fun c hc => absurd hc (by simp)
  | c :: r, h => by
    rw [S.cfIn] at h
    by_cases hc : c.2.1 = 3 ∧ ¬ c.2.2 = S.ANY ∧ S.form l c.2.2 < 0
    · rw [if_pos hc] at h; cases h
    · rw [if_neg hc] at h
      intro x hx h3
      rcases List.mem_cons.1 hx with e | e
      · rw [e] at h3 ⊢
        by_cases hA : c.2.2 = S.ANY
        · exact .inl hA
        · exact .inr (by have : ¬ S.form l c.2.2 < 0 := fun hh => hc ⟨h3, hA, hh⟩; omega)
      · exact lw_cfIn l r h x e h3
theorem formsOK {l : List DForm} (h : S.checkForms l = 0) : FormsOK l := by
  unfold S.checkForms at h
  by_cases h24 : 24 < l.length
  · rw [if_pos h24] at h; exact absurd h (by decide)
  rw [if_neg h24] at h
  obtain ⟨k1, k2⟩ := lw_cfGo l l 0 rfl h
  have k3 := lw_cfGo2 l l k2
  refine ⟨by omega, fun f hf => ?_, fun k hk => (k1 k hk (Nat.zero_le _)).2.1, fun f hf => ?_, fun f hf => lw_cfIn l f.2 (k3 f hf)⟩
  all_goals
    obtain ⟨k, hk, rfl⟩ := List.mem_iff_getElem.1 hf
  · exact (k1 k hk (Nat.zero_le _)).1
  · exact colsOK (k1 k hk (Nat.zero_le _)).2.2

/-! ### The first that is so -/
theorem idx_ge_zero {α : Type} {p : α → Bool} {l : List α} {x : α} (hx : x ∈ l) (hp : p x = true) : 0 ≤ S.idx p l :=
  (S.idx_nonneg p l).2 (List.any_eq_true.2 ⟨x, hx, hp⟩)
theorem idx_at_of {α : Type} {p : α → Bool} {l : List α} {k : Nat} (hk : k < l.length) (hp : p l[k] = true) (h0 : S.idx p (l.take k) < 0) : S.idx p l = k := by
  have hn := S.idx_neg h0
  rw [List.find?_eq_none] at hn
  have : l.findIdx? p = some k := by
    rw [List.findIdx?_eq_some_iff_getElem]
    refine ⟨hk, hp, fun j hj => ?_⟩
    have hj2 : j < (l.take k).length := by simp; omega
    have := hn ((l.take k)[j]) (List.getElem_mem hj2)
    rw [List.getElem_take] at this
    exact this
  unfold S.idx; rw [this]; rfl
theorem form_mem {l : List DForm} {f : DForm} (hf : f ∈ l) : 0 ≤ S.form l f.1 :=
  idx_ge_zero (p := fun g : DForm => keqS g.1 f.1) hf (decide_eq_true rfl)
theorem colsOf_ok {l : List DForm} (h : FormsOK l) {n : ByteArray} (hn : 0 ≤ S.form l n) : ColsOK (S.colsOf l n) := by
  obtain ⟨f, _, f2, f3, f4⟩ := form_get hn
  rw [f2]; exact h.cols f f3
theorem col_nat {l : List DCol} (h : ColsOK l) {k : Nat} (hk : k < l.length) : S.col l l[k].1 = k :=
  idx_at_of (p := fun c : DCol => keqS c.1 l[k].1) hk (decide_eq_true rfl) (h.one k hk)
theorem at_nat {α : Type} (d : α) {l : List α} {k : Nat} (hk : k < l.length) : S.at_ d l (k : Int) = l[k] := by
  unfold S.at_; simp [hk]
theorem at_col {l : List DCol} {n : ByteArray} (h : 0 ≤ S.col l n) : ∃ (k : Nat) (hk : k < l.length), S.col l n = k ∧ S.at_ S.zCol l (S.col l n) = l[k] ∧ l[k].1 = n := by
  have h1 := col_lt l n h
  obtain ⟨c, c1, c2, c3, c4, c5, c6⟩ := S.idx_get (p := fun c : DCol => keqS c.1 n) (l := l) h
  have e : S.col l n = ((S.col l n).toNat : Int) := by omega
  have hk : (S.col l n).toNat < l.length := by omega
  refine ⟨(S.col l n).toNat, hk, e, ?_, ?_⟩
  · unfold S.at_; rw [List.getElem?_eq_getElem hk]; rfl
  · have c2' : l[(S.col l n).toNat]? = some c := c2
    rw [List.getElem?_eq_getElem hk] at c2'
    cases c2'
    exact of_decide_eq_true c3
/-! ### Gives -/
/-- A right Give, spelt out. -/
structure GiveOK (l : List DRule) (g : DGive) (cols : List DCol) (b : DCol) : Prop where
  how : 1 ≤ g.2.1 ∧ g.2.1 ≤ 7
  src : g.2.1 ≤ 5 → 0 ≤ S.col cols g.1
  bare : 6 ≤ g.2.1 → g.1 = S.lit []
  big : -1099511627776 ≤ g.2.2 ∧ g.2.2 ≤ 1099511627776
  nought : ¬ g.2.1 = 4 → ¬ g.2.1 = 6 → g.2.2 = 0
  h1 : g.2.1 = 1 → (S.at_ S.zCol cols (S.col cols g.1)).2.1 = b.2.1 ∧ (b.2.1 = 3 → S.leads l (S.at_ S.zCol cols (S.col cols g.1)).2.2 b.2.2 = true)
  h2 : g.2.1 = 2 → (S.at_ S.zCol cols (S.col cols g.1)).2.1 = 2 ∧ b.2.1 = 1
  h3 : g.2.1 = 3 → (S.at_ S.zCol cols (S.col cols g.1)).2.1 = 1 ∧ b.2.1 = 2
  h4 : g.2.1 = 4 → (S.at_ S.zCol cols (S.col cols g.1)).2.1 = 1 ∧ b.2.1 = 1
  h5 : g.2.1 = 5 → (S.at_ S.zCol cols (S.col cols g.1)).2.1 = 3 ∧ b.2.1 = 3 ∧ S.leads l (S.at_ S.zCol cols (S.col cols g.1)).2.2 b.2.2 = true
  h6 : g.2.1 = 6 → b.2.1 = 1 ∨ (b.2.1 = 2 ∧ 0 ≤ g.2.2 ∧ g.2.2 ≤ 1)
  h7 : g.2.1 = 7 → b.2.1 = 3
theorem give_iff (l : List DRule) (g : DGive) (cols : List DCol) (b : DCol) : S.give l g cols b = 0 ↔ GiveOK l g cols b := by
  obtain ⟨gf, gh, gn⟩ := g
  have hw : ∀ n lo hi : Int, S.within n lo hi = true ↔ lo ≤ n ∧ n ≤ hi := fun n lo hi => by simp [S.within]
  have hwf : ∀ n lo hi : Int, S.within n lo hi = false ↔ ¬ (lo ≤ n ∧ n ≤ hi) := fun n lo hi => by rw [← hw]; simp
  constructor
  · intro h
    unfold S.give at h
    by_cases q1 : S.within gh 1 5 = true ∧ S.col cols gf < 0
    · rw [if_pos q1] at h; exact absurd h (by decide)
    rw [if_neg q1] at h
    split at h
    · exact absurd h (by decide)
    rename_i q2
    simp only [not_or] at q2
    obtain ⟨q2, q3, q4, q5⟩ := q2
    simp only [hw, hwf, Decidable.not_not, S.most] at q1 q2 q3 q4 q5
    unfold S.unlessE at h
    simp only [hw] at h
    generalize hA : (if 1 ≤ gh ∧ gh ≤ 5 then S.at_ S.zCol cols (S.col cols gf) else S.zCol) = a at h
    cases hf : S.fits l (gf, gh, gn) a b with
    | false => rw [hf] at h; exact absurd h (by decide)
    | true =>
    unfold S.fits at hf
    simp only at hf
    have hsrc : gh ≤ 5 → a = S.at_ S.zCol cols (S.col cols gf) := fun h => by rw [← hA, if_pos ⟨q2.1, h⟩]
    have q4' : -1099511627776 ≤ gn ∧ gn ≤ 1099511627776 := by split at q4 <;> omega
    refine ⟨q2, fun h5 => by simp only at h5 ⊢; by_cases hn : S.col cols gf < 0; exact absurd ⟨⟨q2.1, h5⟩, hn⟩ q1; omega, fun h6 => ?_, q4', fun h4 h6 => ?_, fun e => ?_, fun e => ?_, fun e => ?_, fun e => ?_, fun e => ?_, fun e => ?_, fun e => ?_⟩
    · simp only at h6 ⊢
      exact Decidable.not_not.1 fun hh => q3 ⟨by omega, hh⟩
    · simp only at h4 h6 ⊢
      rw [if_neg (by omega)] at q4; omega
    all_goals
      simp only at e ⊢
      subst e
    · rw [← hsrc (by omega)]
      simp only [if_true, Bool.and_eq_true, decide_eq_true_eq, Bool.or_eq_true] at hf
      refine ⟨hf.1, fun h3 => ?_⟩
      rcases hf.2 with hh | hh
      · exact absurd (hf.1.trans h3) hh
      · exact hh
    · rw [← hsrc (by omega)]
      simpa using hf
    · rw [← hsrc (by omega)]
      simpa using hf
    · rw [← hsrc (by omega)]
      simpa using hf
    · rw [← hsrc (by omega)]
      simpa using hf
    · simp only [show ¬ (6 : Int) = 1 from by decide, show ¬ (6 : Int) = 2 from by decide, show ¬ (6 : Int) = 3 from by decide, show ¬ (6 : Int) = 4 from by decide, show ¬ (6 : Int) = 5 from by decide, if_false, if_true, Bool.or_eq_true, Bool.and_eq_true, decide_eq_true_eq, hw] at hf
      exact hf
    · simpa using hf
  · intro h
    have e1 := h.how
    have e2 := h.src
    have e3 := h.bare
    have e4 := h.big
    have e5 := h.nought
    simp only at e1 e2 e3 e4 e5
    unfold S.give
    simp only [hw, hwf]
    rw [if_neg (fun hh => by have := e2 hh.1.2; omega)]
    rw [if_neg ?_]
    · have hf : S.fits l (gf, gh, gn) (if 1 ≤ gh ∧ gh ≤ 5 then S.at_ S.zCol cols (S.col cols gf) else S.zCol) b = true := by
        unfold S.fits
        simp only
        have h1 := h.h1; have h2 := h.h2; have h3 := h.h3; have h4 := h.h4; have h5 := h.h5; have h6 := h.h6; have h7 := h.h7
        simp only at h1 h2 h3 h4 h5 h6 h7
        have hc : gh = 1 ∨ gh = 2 ∨ gh = 3 ∨ gh = 4 ∨ gh = 5 ∨ gh = 6 ∨ gh = 7 := by omega
        rcases hc with e | e | e | e | e | e | e
        · rw [if_pos e, if_pos (by omega)]
          obtain ⟨k1, k2⟩ := h1 e
          rw [decide_eq_true k1, Bool.true_and, k1]
          by_cases hb : b.2.1 = 3
          · rw [k2 hb, Bool.or_true]
          · rw [decide_eq_true hb, Bool.true_or]
        · subst e; obtain ⟨k1, k2⟩ := h2 rfl; simp [k1, k2]
        · subst e; obtain ⟨k1, k2⟩ := h3 rfl; simp [k1, k2]
        · subst e; obtain ⟨k1, k2⟩ := h4 rfl; simp [k1, k2]
        · subst e; obtain ⟨k1, k2, k3⟩ := h5 rfl; simp [k1, k2, k3]
        · subst e
          rcases h6 rfl with k | ⟨k, k'⟩
          · simp [k]
          · simp [k, hw, k']
        · subst e; simp [h7 rfl]
      rw [hf]; rfl
    · rintro (hh | ⟨hh, hh2⟩ | hh | ⟨hh, hh2, hh3⟩)
      · exact hh e1
      · exact hh2 (e3 (by omega))
      · apply hh
        unfold S.most
        simp only
        by_cases h4 : gh = 4
        · rw [if_pos (.inl h4)]; exact e4
        by_cases h6 : gh = 6
        · rw [if_pos (.inr h6)]; exact e4
        · rw [if_neg (by omega), e5 h4 h6]; omega
      · rcases h.h6 hh with k | ⟨_, k⟩
        · omega
        · exact hh3 k
end Go.Proofs.Ytcnhjofpmpipfaa
end

/- Converting graphs, object by object; what is converted is right again. -/
section
set_option linter.unusedVariables false
set_option maxRecDepth 100000
namespace Go.Proofs.Ytcnhjofpmpipfaa
open Go Go.Sx Go.RowKit Go.Jx
/-- The values of an object. -/
def cvRow (ca : List DCol) (vs : List DVal) : List DGive → List DCol → Option (List DVal)
  | g :: gs, c :: cs => if (S.made g ca vs c).2 = true then (cvRow ca vs gs cs).map ((S.made g ca vs c).1 :: ·) else none
  | _, _ => some []
theorem cvIn_row (ca : List DCol) (vs : List DVal) : ∀ (gs : List DGive) (cs : List DCol) (acc : List DVal),
    (∀ ws, cvRow ca vs gs cs = some ws → S.cvIn ca vs gs cs acc = (some (acc ++ ws), S.lit [])) ∧ (cvRow ca vs gs cs = none → ∃ c ∈ cs, S.cvIn ca vs gs cs acc = (none, c.1))
  | [], cs, acc => by simp [cvRow, S.cvIn]
  | g :: gs, [], acc => by simp [cvRow, S.cvIn]
  | g :: gs, c :: cs, acc => by
    obtain ⟨i1, i2⟩ := cvIn_row ca vs gs cs (acc ++ [(S.made g ca vs c).1])
    rw [cvRow, S.cvIn]
    by_cases hf : (S.made g ca vs c).2 = true
    · rw [if_pos hf, if_pos hf]
      cases hr : cvRow ca vs gs cs with
      | none =>
        refine ⟨fun ws h => (by cases h), fun _ => ?_⟩
        obtain ⟨d, hd, e⟩ := i2 hr
        exact ⟨d, List.mem_cons_of_mem _ hd, e⟩
      | some ws =>
        refine ⟨fun ws' h => ?_, fun h => (by cases h)⟩
        cases h
        rw [i1 ws hr]
        simp
    · rw [if_neg hf, if_neg hf]
      exact ⟨fun ws h => (by cases h), fun _ => ⟨c, List.mem_cons_self, rfl⟩⟩
theorem cvRow_some {ca : List DCol} {vs : List DVal} : ∀ {gs : List DGive} {cs : List DCol} {ws : List DVal}, gs.length = cs.length → cvRow ca vs gs cs = some ws →
    ws.length = gs.length ∧ ∀ k (h1 : k < gs.length) (h2 : k < cs.length) (h3 : k < ws.length), (S.made gs[k] ca vs cs[k]).2 = true ∧ ws[k] = (S.made gs[k] ca vs cs[k]).1
  | [], [], ws, _, h => by
    simp only [cvRow, Option.some.injEq] at h
    subst h
    exact ⟨rfl, fun k h1 => (by simp at h1)⟩
  | [], _ :: _, ws, h, _ => by simp at h
  | _ :: _, [], ws, h, _ => by simp at h
  | g :: gs, c :: cs, ws, hl, h => by
    rw [cvRow] at h
    by_cases hf : (S.made g ca vs c).2 = true
    · rw [if_pos hf] at h
      cases hr : cvRow ca vs gs cs with
      | none => rw [hr] at h; cases h
      | some ws' =>
        rw [hr] at h
        simp only [Option.map_some, Option.some.injEq] at h
        subst h
        obtain ⟨k1, k2⟩ := cvRow_some (by simpa using hl) hr
        refine ⟨by simp [k1], fun k h1 h2 h3 => ?_⟩
        cases k with
        | zero => exact ⟨hf, rfl⟩
        | succ k => exact k2 k (by simpa using h1) (by simpa using h2) (by simpa using h3)
    · rw [if_neg hf] at h; cases h
theorem cvRow_none {ca : List DCol} {vs : List DVal} : ∀ {gs : List DGive} {cs : List DCol}, cvRow ca vs gs cs = none ↔ ∃ (k : Nat) (h1 : k < gs.length) (h2 : k < cs.length), (S.made gs[k] ca vs cs[k]).2 = false
  | [], cs => by simp [cvRow]
  | g :: gs, [] => by simp [cvRow]
  | g :: gs, c :: cs => by
    rw [cvRow]
    have ih := cvRow_none (ca := ca) (vs := vs) (gs := gs) (cs := cs)
    by_cases hf : (S.made g ca vs c).2 = true
    · rw [if_pos hf, Option.map_eq_none_iff, ih]
      constructor
      · rintro ⟨k, h1, h2, h3⟩
        exact ⟨k + 1, by simpa using h1, by simpa using h2, h3⟩
      · rintro ⟨k, h1, h2, h3⟩
        cases k with
        | zero => simp only [List.getElem_cons_zero] at h3; rw [hf] at h3; cases h3
        | succ k => exact ⟨k, by simpa using h1, by simpa using h2, h3⟩
    · rw [if_neg hf]
      exact ⟨fun _ => ⟨0, by simp, by simp, by simpa using hf⟩, fun _ => rfl⟩
theorem cvRow_congr {ca ca' : List DCol} {vs vs' : List DVal} : ∀ {gs gs' : List DGive} {cs : List DCol}, gs.length = gs'.length →
    (∀ k (h1 : k < gs.length) (h1' : k < gs'.length) (h2 : k < cs.length), S.made gs[k] ca vs cs[k] = S.made gs'[k] ca' vs' cs[k]) → cvRow ca vs gs cs = cvRow ca' vs' gs' cs
  | [], [], cs, _, _ => by simp [cvRow]
  | [], _ :: _, cs, h, _ => by simp at h
  | _ :: _, [], cs, h, _ => by simp at h
  | g :: gs, g' :: gs', [], _, _ => by simp [cvRow]
  | g :: gs, g' :: gs', c :: cs, hl, h => by
    have h0 := h 0 (by simp) (by simp) (by simp)
    simp only [List.getElem_cons_zero] at h0
    have ih := cvRow_congr (ca := ca) (ca' := ca') (vs := vs) (vs' := vs') (gs := gs) (gs' := gs') (cs := cs) (by simpa using hl) fun k h1 h1' h2 => h (k + 1) (by simpa using h1) (by simpa using h1') (by simpa using h2)
    rw [cvRow, cvRow, ih, h0]
/-- An object. -/
def cvNode (a b : List DForm) (l : List DRule) (n : DNode) : Option DNode :=
  (cvRow (S.colsOf a n.1) n.2 (S.ruleOf l n.1).1.2.2 (S.colsOf b (S.ruleOf l n.1).1.2.1)).map fun ws => ((S.ruleOf l n.1).1.2.1, ws)
def cvAll (a b : List DForm) (l : List DRule) : List DNode → Option (List DNode)
  | [] => some []
  | n :: ns => match cvNode a b l n with
    | none => none
    | some m => (cvAll a b l ns).map (m :: ·)
theorem cvGo_all (a b : List DForm) (l : List DRule) (roots : List DVal) : ∀ (ns : List DNode) (i : Nat) (acc : List DNode),
    (∀ ms, cvAll a b l ns = some ms → S.cvGo a b l roots i ns acc = ((acc ++ ms, roots), S.zRefusal, 0)) ∧
    (cvAll a b l ns = none → ∃ r : DRefusal, S.cvGo a b l roots i ns acc = (S.zGraph, r, 10) ∧ (i : Int) ≤ r.1 ∧ r.1 < i + ns.length ∧ ∃ n ∈ ns, ∃ c ∈ S.colsOf b (S.ruleOf l n.1).1.2.1, r.2 = c.1)
  | [], i, acc => by simp [cvAll, S.cvGo]
  | n :: ns, i, acc => by
    rw [cvAll, S.cvGo]
    obtain ⟨c1, c2⟩ := cvIn_row (S.colsOf a n.1) n.2 (S.ruleOf l n.1).1.2.2 (S.colsOf b (S.ruleOf l n.1).1.2.1) []
    unfold cvNode
    cases hr : cvRow (S.colsOf a n.1) n.2 (S.ruleOf l n.1).1.2.2 (S.colsOf b (S.ruleOf l n.1).1.2.1) with
    | none =>
      obtain ⟨c, hc, e⟩ := c2 hr
      simp only [e, Option.map_none]
      refine ⟨fun ms h => (by cases h), fun _ => ⟨_, rfl, Int.le_refl _, ?_, n, List.mem_cons_self, c, hc, rfl⟩⟩
      have e0 : Int.ofNat i = (i : Int) := rfl
      simp only [List.length_cons]
      omega
    | some ws =>
      have e := c1 ws hr
      simp only [e, Option.map_some, List.nil_append]
      obtain ⟨k1, k2⟩ := cvGo_all a b l roots ns (i + 1) (acc ++ [((S.ruleOf l n.1).1.2.1, ws)])
      refine ⟨fun ms h => ?_, fun h => ?_⟩
      · cases hq : cvAll a b l ns with
        | none => rw [hq] at h; cases h
        | some ms' =>
          rw [hq] at h
          simp only [Option.map_some, Option.some.injEq] at h
          rw [k1 ms' hq, ← h]
          simp
      · cases hq : cvAll a b l ns with
        | some ms' => rw [hq] at h; cases h
        | none =>
          obtain ⟨r, r1, r2, r3, m, hm, c, hc, r4⟩ := k2 hq
          exact ⟨r, r1, by omega, by simp only [List.length_cons]; omega, m, List.mem_cons_of_mem _ hm, c, hc, r4⟩
theorem cvAll_some {a b : List DForm} {l : List DRule} : ∀ {ns ms : List DNode}, cvAll a b l ns = some ms → ms.length = ns.length ∧ ∀ k (h : k < ns.length) (h' : k < ms.length), cvNode a b l ns[k] = some ms[k]
  | [], ms, h => by
    simp only [cvAll, Option.some.injEq] at h
    subst h
    exact ⟨rfl, fun k h => (by simp at h)⟩
  | n :: ns, ms, h => by
    rw [cvAll] at h
    cases hn : cvNode a b l n with
    | none => rw [hn] at h; cases h
    | some m =>
      rw [hn] at h
      cases hq : cvAll a b l ns with
      | none => rw [hq] at h; cases h
      | some ms' =>
        rw [hq] at h
        simp only [Option.map_some, Option.some.injEq] at h
        subst h
        obtain ⟨k1, k2⟩ := cvAll_some hq
        refine ⟨by simp [k1], fun k h1 h2 => ?_⟩
        cases k with
        | zero => exact hn
        | succ k => exact k2 k (by simpa using h1) (by simpa using h2)
theorem cvAll_bind {a b c : List DForm} {l l' l'' : List DRule} : ∀ {ns : List DNode}, (∀ n ∈ ns, cvNode a c l'' n = (cvNode a b l n).bind (cvNode b c l')) → cvAll a c l'' ns = (cvAll a b l ns).bind (cvAll b c l')
  | [], _ => rfl
  | n :: ns, h => by
    have h0 := h n List.mem_cons_self
    have ih := cvAll_bind (ns := ns) fun m hm => h m (List.mem_cons_of_mem _ hm)
    rw [cvAll, cvAll, h0]
    cases cvNode a b l n with
    | none => rfl
    | some m =>
      rw [ih]
      simp only [Option.bind_some]
      cases cvAll a b l ns with
      | none =>
        simp only [Option.bind_none, Option.map_none]
        cases cvNode b c l' m <;> rfl
      | some ms =>
        simp only [Option.bind_some, Option.map_some]
        rw [cvAll]
theorem convert_ok {a b : List DForm} {l : List DRule} {g : DGraph} (h1 : S.checkRules a b l = 0) (h2 : S.check a g = 0) : S.convert a b l g = S.cvGo a b l g.2 0 g.1 [] := by
  unfold S.convert
  rw [if_neg (by simpa using h1), if_neg (by simpa using h2)]

/-! ### Values -/
theorem value_iff {many : Nat} (h : many ≤ 400) (v : DVal) : S.value v (Int.ofNat many) = true ↔ (v.1 = 1 ∧ -1099511627776 ≤ v.2 ∧ v.2 ≤ 1099511627776) ∨ (v.1 = 2 ∧ 0 ≤ v.2 ∧ v.2 ≤ 1) ∨ (v.1 = 3 ∧ v.2 = 0) ∨ (v.1 = 4 ∧ 0 ≤ v.2 ∧ v.2 < many) := by
  have hw : IntKind.i64.wrap (Int.sub (Int.ofNat many) (Int.ofNat 1)) = (many : Int) - 1 := by
    have : Int.sub (Int.ofNat many) (Int.ofNat 1) = (many : Int) - 1 := rfl
    rw [this]
    exact wrap64_in (by omega)
  unfold S.value
  rw [hw]
  simp only [S.within]
  by_cases h1 : v.1 = 1
  · simp [h1]
  by_cases h2 : v.1 = 2
  · simp [h2]
  by_cases h3 : v.1 = 3
  · simp [h3]
  by_cases h4 : v.1 = 4
  · simp [h4]; omega
  simp [h1, h2, h3, h4]
theorem suits_iff (g : DGraph) (c : DCol) (v : DVal) : S.suits g c v = true ↔ (c.2.1 = 1 → v.1 = 1) ∧ (c.2.1 = 2 → v.1 = 2) ∧ (¬ c.2.1 = 1 → ¬ c.2.1 = 2 → v.1 = 3 ∨ (v.1 = 4 ∧ (c.2.2 = S.ANY ∨ (S.at_ S.zNode g.1 v.2).1 = c.2.2))) := by
  unfold S.suits
  by_cases h1 : c.2.1 = 1
  · simp [h1]
  by_cases h2 : c.2.1 = 2
  · simp [h2]
  simp [h1, h2]
theorem suitsAll_iff (g : DGraph) : ∀ (cs : List DCol) (vs : List DVal), vs.length = cs.length → (S.suitsAll g cs vs = true ↔ ∀ k (h : k < cs.length) (h' : k < vs.length), S.suits g cs[k] vs[k] = true)
  | [], vs, _ => by simp [S.suitsAll]
  | c :: cs, [], h => by simp at h
  | c :: cs, v :: vs, hl => by
    rw [S.suitsAll]
    have ih := suitsAll_iff g cs vs (by simpa using hl)
    by_cases h0 : S.suits g c v = true
    · rw [if_pos h0, ih]
      constructor
      · intro h k h1 h2
        cases k with
        | zero => exact h0
        | succ k => exact h k (by simpa using h1) (by simpa using h2)
      · intro h k h1 h2
        exact h (k + 1) (by simpa using h1) (by simpa using h2)
    · rw [if_neg h0]
      exact ⟨fun h => (by cases h), fun h => absurd (h 0 (by simp) (by simp)) h0⟩
theorem typed_of {l : List DForm} {g : DGraph} : ∀ {ns : List DNode}, (∀ n ∈ ns, n.2.length = (S.colsOf l n.1).length ∧ S.suitsAll g (S.colsOf l n.1) n.2 = true) → S.typed l g ns = true
  | [], _ => rfl
  | n :: ns, h => by
    rw [S.typed]
    have h0 := h n List.mem_cons_self
    rw [if_pos h0.1, if_pos h0.2]
    exact typed_of fun m hm => h m (List.mem_cons_of_mem _ hm)
theorem formed_of {g : DGraph} (h1 : g.1.length ≤ 400) (h2 : g.2.length ≤ 60) (h3 : ∀ n ∈ g.1, n.2.length ≤ 30) (h4 : ∀ n ∈ g.1, ∀ v ∈ n.2, S.value v (Int.ofNat g.1.length) = true) (h5 : ∀ v ∈ g.2, S.value v (Int.ofNat g.1.length) = true ∧ S.refers v = true) : S.formed g = 0 := by
  unfold S.formed
  rw [if_neg (by omega), if_neg, if_neg, if_neg]
  · simp only [List.any_eq_true, not_exists, not_and, Bool.or_eq_true, Bool.not_eq_true', not_or, Bool.not_eq_false]
    exact fun v hv => h5 v hv
  · simp only [List.any_eq_true, not_exists, not_and, Bool.not_eq_true', Bool.not_eq_false]
    exact fun n hn v hv => h4 n hn v hv
  · simp only [List.any_eq_true, not_exists, not_and, decide_eq_true_eq]
    exact fun n hn => by have := h3 n hn; omega
/-- The value of a field, as it is typed. -/
structure ValOK (g : DGraph) (c : DCol) (v : DVal) : Prop where
  value : (v.1 = 1 ∧ -1099511627776 ≤ v.2 ∧ v.2 ≤ 1099511627776) ∨ (v.1 = 2 ∧ 0 ≤ v.2 ∧ v.2 ≤ 1) ∨ (v.1 = 3 ∧ v.2 = 0) ∨ (v.1 = 4 ∧ 0 ≤ v.2 ∧ v.2 < g.1.length)
  i : c.2.1 = 1 → v.1 = 1
  b : c.2.1 = 2 → v.1 = 2
  r : ¬ c.2.1 = 1 → ¬ c.2.1 = 2 → v.1 = 3 ∨ (v.1 = 4 ∧ (c.2.2 = S.ANY ∨ (S.at_ S.zNode g.1 v.2).1 = c.2.2))
theorem graph_val {l : List DForm} {g : DGraph} (h : GraphOK l g) {n : DNode} (hn : n ∈ g.1) : n.2.length = (S.colsOf l n.1).length ∧ ∀ k (h1 : k < (S.colsOf l n.1).length) (h2 : k < n.2.length), ValOK g (S.colsOf l n.1)[k] n.2[k] := by
  obtain ⟨f1, f2, f3, f4, f5⟩ := formed_zero h.formed
  obtain ⟨t1, t2⟩ := typed_len h.typed n hn
  rw [suitsAll_iff _ _ _ t1] at t2
  refine ⟨t1, fun k h1 h2 => ?_⟩
  have hv := (value_iff f1 _).1 (f4 n hn n.2[k] (List.getElem_mem h2))
  obtain ⟨s1, s2, s3⟩ := (suits_iff _ _ _).1 (t2 k h1 h2)
  exact ⟨hv, s1, s2, s3⟩
theorem src_val {l : List DForm} {g : DGraph} (h : GraphOK l g) {n : DNode} (hn : n ∈ g.1) {x : DGive} (hc : 0 ≤ S.col (S.colsOf l n.1) x.1) : ValOK g (S.at_ S.zCol (S.colsOf l n.1) (S.col (S.colsOf l n.1) x.1)) (S.src x (S.colsOf l n.1) n.2) := by
  obtain ⟨k, hk, e1, e2, e3⟩ := at_col hc
  obtain ⟨g1, g2⟩ := graph_val h hn
  have hk2 : k < n.2.length := by rw [g1]; exact hk
  have := g2 k hk hk2
  unfold S.src
  rw [e2, e1, at_nat _ hk2]
  exact this
theorem leads_iff {a b : List DForm} {l : List DRule} (hR : RulesOK a b l) (hA : FormsOK a) {p q : ByteArray} : S.leads l p q = true ↔ q = S.ANY ∨ (¬ p = S.ANY ∧ (S.ruleOf l p).2 = true ∧ (S.ruleOf l p).1.2.1 = q) := by
  unfold S.leads
  rw [Bool.or_eq_true, decide_eq_true_eq, Bool.and_eq_true, decide_eq_true_eq]
  constructor
  · rintro (h | ⟨h1, h2⟩)
    · exact .inl h
    · refine .inr ⟨fun e => ?_, h1, h2⟩
      obtain ⟨m1, m2⟩ := ruleOf_mem h1
      obtain ⟨f, _, _, f3, f4⟩ := form_get (hR.has _ m1).1
      exact lw_class_ne_any (hA.cls f f3) (by rw [f4, m2, e])
  · rintro (h | ⟨_, h1, h2⟩)
    · exact .inl h
    · exact .inr ⟨h1, h2⟩
theorem made_ok {a b : List DForm} {l : List DRule} {g : DGraph} {ms : List DNode} (hR : RulesOK a b l) (hA : FormsOK a) {ca : List DCol} {vs : List DVal} {x : DGive} {c : DCol} (hx : GiveOK l x ca c) (hck : 1 ≤ c.2.1 ∧ c.2.1 ≤ 3)
    (hv : x.2.1 ≤ 5 → ValOK g (S.at_ S.zCol ca (S.col ca x.1)) (S.src x ca vs)) (hlen : ms.length = g.1.length) (hms : ∀ i : Int, 0 ≤ i → i < g.1.length → (S.at_ S.zNode ms i).1 = (S.ruleOf l (S.at_ S.zNode g.1 i).1).1.2.1) (roots : List DVal)
    (hf : (S.made x ca vs c).2 = true) : ValOK (ms, roots) c (S.made x ca vs c).1 := by
  have hh := hx.how
  have hc : x.2.1 = 1 ∨ x.2.1 = 2 ∨ x.2.1 = 3 ∨ x.2.1 = 4 ∨ x.2.1 = 5 ∨ x.2.1 = 6 ∨ x.2.1 = 7 := by omega
  unfold S.made at hf ⊢
  have refOK : ∀ v : DVal, ValOK g (S.at_ S.zCol ca (S.col ca x.1)) v → (S.at_ S.zCol ca (S.col ca x.1)).2.1 = 3 → S.leads l (S.at_ S.zCol ca (S.col ca x.1)).2.2 c.2.2 = true → v.1 = 3 ∨ (v.1 = 4 ∧ (c.2.2 = S.ANY ∨ (S.at_ S.zNode ms v.2).1 = c.2.2)) := by
    intro v hv h3 hl
    rcases hv.r (by omega) (by omega) with k | ⟨k, k2⟩
    · exact .inl k
    · refine .inr ⟨k, ?_⟩
      rcases (leads_iff hR hA).1 hl with q | ⟨q1, q2, q3⟩
      · exact .inl q
      · right
        have hin : 0 ≤ v.2 ∧ v.2 < g.1.length := by rcases hv.value with z | z | z | z <;> omega
        rcases k2 with k2 | k2
        · exact absurd k2 q1
        · rw [hms v.2 hin.1 hin.2, k2, q3]
  rcases hc with e | e | e | e | e | e | e
  · have h1 := hx.h1 e
    have v1 := hv (by omega)
    simp only [e, show ¬ (1 : Int) = 6 from by decide, show ¬ (1 : Int) = 7 from by decide, show ¬ (1 : Int) = 2 from by decide, show ¬ (1 : Int) = 3 from by decide, show ¬ (1 : Int) = 4 from by decide, show ¬ (1 : Int) = 5 from by decide, if_false]
    exact ⟨by rw [hlen]; exact v1.value, fun h => v1.i (by omega), fun h => v1.b (by omega), fun k1 k2 => refOK _ v1 (by omega) (h1.2 (by omega))⟩
  · have h2 := hx.h2 e
    have v1 := hv (by omega)
    have vb := v1.b h2.1
    have vv : 0 ≤ (S.src x ca vs).2 ∧ (S.src x ca vs).2 ≤ 1 := by rcases v1.value with z | z | z | z <;> omega
    simp only [e, show ¬ (2 : Int) = 6 from by decide, show ¬ (2 : Int) = 7 from by decide, if_false, if_true]
    exact ⟨.inl ⟨rfl, by omega, by omega⟩, fun _ => rfl, fun h => by omega, fun h => absurd h2.2 h⟩
  · have h3 := hx.h3 e
    simp only [e, show ¬ (3 : Int) = 6 from by decide, show ¬ (3 : Int) = 7 from by decide, show ¬ (3 : Int) = 2 from by decide, if_false, if_true, S.within, Bool.and_eq_true, decide_eq_true_eq] at hf ⊢
    exact ⟨.inr (.inl ⟨rfl, hf.1, hf.2⟩), fun h => by omega, fun _ => rfl, fun _ h => absurd h3.2 h⟩
  · have h4 := hx.h4 e
    have v1 := hv (by omega)
    simp only [e, show ¬ (4 : Int) = 6 from by decide, show ¬ (4 : Int) = 7 from by decide, show ¬ (4 : Int) = 2 from by decide, show ¬ (4 : Int) = 3 from by decide, if_false, if_true]
    exact ⟨by rw [hlen]; exact v1.value, fun h => v1.i h4.1, fun h => by omega, fun h => absurd h4.2 h⟩
  · have h5 := hx.h5 e
    have v1 := hv (by omega)
    simp only [e, show ¬ (5 : Int) = 6 from by decide, show ¬ (5 : Int) = 7 from by decide, show ¬ (5 : Int) = 2 from by decide, show ¬ (5 : Int) = 3 from by decide, show ¬ (5 : Int) = 4 from by decide, if_false, if_true]
    exact ⟨by rw [hlen]; exact v1.value, fun h => by omega, fun h => by omega, fun _ _ => refOK _ v1 h5.1 h5.2.2⟩
  · have h6 := hx.h6 e
    have hb := hx.big
    simp only [e, if_true]
    by_cases hc2 : c.2.1 = 2
    · rw [if_pos hc2]
      have : 0 ≤ x.2.2 ∧ x.2.2 ≤ 1 := by rcases h6 with z | ⟨_, z⟩; omega; exact z
      exact ⟨.inr (.inl ⟨rfl, this.1, this.2⟩), fun h => by omega, fun _ => rfl, fun _ h => absurd hc2 h⟩
    · rw [if_neg hc2]
      exact ⟨.inl ⟨rfl, hb.1, hb.2⟩, fun _ => rfl, fun h => absurd h hc2, fun h => by omega⟩
  · have h7 := hx.h7 e
    simp only [e, show ¬ (7 : Int) = 6 from by decide, if_false, if_true]
    exact ⟨.inr (.inr (.inl ⟨rfl, rfl⟩)), fun h => by omega, fun h => by omega, fun _ _ => .inl rfl⟩
/-- What is converted is right. -/
theorem conv_ok {a b : List DForm} {l : List DRule} {g : DGraph} {ms : List DNode} (hA : FormsOK a) (hB : FormsOK b) (hR : RulesOK a b l) (hG : GraphOK a g) (h : cvAll a b l g.1 = some ms) : GraphOK b (ms, g.2) := by
  obtain ⟨f1, f2, f3, f4, f5⟩ := formed_zero hG.formed
  obtain ⟨k1, k2⟩ := cvAll_some h
  have node : ∀ k (hk : k < g.1.length) (hk' : k < ms.length), ms[k].1 = (S.ruleOf l g.1[k].1).1.2.1 ∧ cvRow (S.colsOf a g.1[k].1) g.1[k].2 (S.ruleOf l g.1[k].1).1.2.2 (S.colsOf b (S.ruleOf l g.1[k].1).1.2.1) = some ms[k].2 := fun k hk hk' => by
    have := k2 k hk hk'
    unfold cvNode at this
    cases hr : cvRow (S.colsOf a g.1[k].1) g.1[k].2 (S.ruleOf l g.1[k].1).1.2.2 (S.colsOf b (S.ruleOf l g.1[k].1).1.2.1) with
    | none => rw [hr] at this; cases this
    | some ws => rw [hr] at this; simp only [Option.map_some, Option.some.injEq] at this; rw [← this]; exact ⟨rfl, rfl⟩
  have hms : ∀ i : Int, 0 ≤ i → i < g.1.length → (S.at_ S.zNode ms i).1 = (S.ruleOf l (S.at_ S.zNode g.1 i).1).1.2.1 := fun i h0 h1 => by
    have e : i = (i.toNat : Int) := by omega
    have hk : i.toNat < g.1.length := by omega
    rw [e, at_nat _ (l := ms) (by rw [k1]; exact hk), at_nat _ hk]
    exact (node _ hk (by rw [k1]; exact hk)).1
  have rule : ∀ n ∈ g.1, (S.ruleOf l n.1).1 ∈ l ∧ (S.ruleOf l n.1).1.1 = n.1 := fun n hn => by
    obtain ⟨fa, _, _, a3, a4⟩ := form_get (hG.has n hn)
    exact ruleOf_mem (by rw [← a4]; exact hR.all fa a3)
  have vals : ∀ k (hk : k < g.1.length) (hk' : k < ms.length), ms[k].2.length = (S.colsOf b ms[k].1).length ∧ ∀ j (h1 : j < (S.colsOf b ms[k].1).length) (h2 : j < ms[k].2.length), ValOK (ms, g.2) (S.colsOf b ms[k].1)[j] ms[k].2[j] := fun k hk hk' => by
    obtain ⟨n1, n2⟩ := node k hk hk'
    have hn := List.getElem_mem hk
    obtain ⟨r1, r2⟩ := rule _ hn
    have hgl := hR.glen _ r1
    obtain ⟨c1, c2⟩ := cvRow_some hgl n2
    rw [n1]
    refine ⟨by rw [c1, hgl], fun j h1 h2 => ?_⟩
    have hj : j < (S.ruleOf l g.1[k].1).1.2.2.length := by rw [hgl]; exact h1
    obtain ⟨d1, d2⟩ := c2 j hj h1 h2
    have hgv := (give_iff _ _ _ _).1 (hR.gok _ r1 j hj h1)
    rw [r2] at hgv
    rw [d2]
    have hck := (colsOf_ok hB (hR.has _ r1).2).kind _ (List.getElem_mem h1)
    exact made_ok hR hA hgv hck (fun h5 => src_val hG hn (hgv.src h5)) k1 hms g.2 d1
  refine ⟨formed_of (by rw [k1]; exact f1) f2 (fun m hm => ?_) (fun m hm v hv => ?_) (fun v hv => by rw [k1]; exact f5 v hv), fun m hm => ?_, typed_of fun m hm => ?_⟩
  all_goals
    obtain ⟨k, hk', rfl⟩ := List.mem_iff_getElem.1 hm
    have hk : k < g.1.length := by rw [← k1]; exact hk'
    obtain ⟨n1, n2⟩ := node k hk hk'
    obtain ⟨v1, v2⟩ := vals k hk hk'
    have hf : 0 ≤ S.form b ms[k].1 := by rw [n1]; exact (hR.has _ (rule _ (List.getElem_mem hk)).1).2
  · rw [v1]; exact (colsOf_ok hB hf).len
  · obtain ⟨j, hj, rfl⟩ := List.mem_iff_getElem.1 hv
    have := (v2 j (by rw [← v1]; exact hj) hj).value
    exact (value_iff (by rw [k1]; exact f1) _).2 this
  · exact hf
  · refine ⟨v1, (suitsAll_iff _ _ _ v1).2 fun j h1 h2 => ?_⟩
    have := v2 j h1 h2
    exact (suits_iff _ _ _).2 ⟨this.i, this.b, this.r⟩
end Go.Proofs.Ytcnhjofpmpipfaa
end

/- Chains of rules: they are right, and convert as both do. -/
section
set_option linter.unusedVariables false
set_option maxRecDepth 100000
namespace Go.Proofs.Ytcnhjofpmpipfaa
open Go Go.Sx Go.RowKit Go.Jx
theorem imin_le (x y : Int) : (imin x y = x ∧ x ≤ y) ∨ (imin x y = y ∧ y ≤ x) := by
  unfold imin
  rw [iltI_eq]
  by_cases h : y < x
  · rw [decide_eq_true h]; right; exact ⟨rfl, by omega⟩
  · rw [decide_eq_false h]; left; exact ⟨rfl, by omega⟩
/-- The ways that may be chained. -/
theorem both_cases {x y : DGive} (h : (S.both x y).2 = true) (P : DGive → Prop)
    (c1 : y.2.1 = 1 → P x) (c2 : x.2.1 = 1 → P (x.1, y.2.1, y.2.2)) (c3 : x.2.1 = 2 → y.2.1 = 3 → P (x.1, 1, 0)) (c4 : x.2.1 = 2 → y.2.1 = 4 → 2 ≤ y.2.2 → P x)
    (c5 : x.2.1 = 4 → y.2.1 = 4 → P (x.1, x.2.1, imin x.2.2 y.2.2)) (c6 : x.2.1 = 5 → y.2.1 = 5 → P x) (c7 : x.2.1 = 6 → y.2.1 = 2 → P x) (c8 : x.2.1 = 6 → y.2.1 = 3 → 0 ≤ x.2.2 → x.2.2 ≤ 1 → P x) (c9 : x.2.1 = 6 → y.2.1 = 4 → x.2.2 < y.2.2 → P x) : P (S.both x y).1 := by
  unfold S.both at h ⊢
  by_cases y1 : y.2.1 = 1
  · rw [if_pos y1]; exact c1 y1
  rw [if_neg y1] at h ⊢
  by_cases x1 : x.2.1 = 1
  · rw [if_pos x1]; exact c2 x1
  rw [if_neg x1] at h ⊢
  by_cases q : x.2.1 = 2 ∧ y.2.1 = 3
  · rw [if_pos q]; exact c3 q.1 q.2
  rw [if_neg q] at h ⊢
  by_cases q : x.2.1 = 2 ∧ y.2.1 = 4
  · rw [if_pos q] at h ⊢; exact c4 q.1 q.2 (of_decide_eq_true h)
  rw [if_neg q] at h ⊢
  by_cases q : x.2.1 = 4 ∧ y.2.1 = 4
  · rw [if_pos q]; exact c5 q.1 q.2
  rw [if_neg q] at h ⊢
  by_cases q : x.2.1 = 5 ∧ y.2.1 = 5
  · rw [if_pos q]; exact c6 q.1 q.2
  rw [if_neg q] at h ⊢
  by_cases q : x.2.1 = 6 ∧ y.2.1 = 2
  · rw [if_pos q]; exact c7 q.1 q.2
  rw [if_neg q] at h ⊢
  by_cases q : x.2.1 = 6 ∧ y.2.1 = 3
  · rw [if_pos q] at h ⊢
    simp only [S.within, Bool.and_eq_true, decide_eq_true_eq] at h
    exact c8 q.1 q.2 h.1 h.2
  rw [if_neg q] at h ⊢
  by_cases q : x.2.1 = 6 ∧ y.2.1 = 4
  · rw [if_pos q] at h ⊢; exact c9 q.1 q.2 (of_decide_eq_true h)
  rw [if_neg q] at h
  cases h
theorem both_give {a b l : List DRule} {x y : DGive} {ca cm : List DCol} {c2 c3 : DCol} (hx : GiveOK a x ca c2) (hy : GiveOK b y cm c3) (h5 : y.2.1 ≤ 5) (hc : S.at_ S.zCol cm (S.col cm y.1) = c2) (hb : (S.both x y).2 = true)
    (hl : ∀ p q r, S.leads a p q = true → S.leads b q r = true → S.leads l p r = true) : GiveOK l (S.both x y).1 ca c3 := by
  have hy1 := hy.h1; have hy2 := hy.h2; have hy3 := hy.h3; have hy4 := hy.h4; have hy5 := hy.h5
  rw [hc] at hy1 hy2 hy3 hy4 hy5
  have yh := hy.how
  have xh := hx.how
  refine both_cases hb (fun z => GiveOK l z ca c3) (fun e => ?_) (fun e => ?_) (fun e e' => ?_) (fun e e' e2 => ?_) (fun e e' => ?_) (fun e e' => ?_) (fun e e' => ?_) (fun e e' e2 e3 => ?_) (fun e e' e2 => ?_)
  · obtain ⟨k1, k2⟩ := hy1 e
    exact ⟨hx.how, hx.src, hx.bare, hx.big, hx.nought, fun h => ⟨(hx.h1 h).1.trans k1, fun h3 => hl _ _ _ ((hx.h1 h).2 (k1.trans h3)) (k2 h3)⟩, fun h => ⟨(hx.h2 h).1, by have := (hx.h2 h).2; omega⟩, fun h => ⟨(hx.h3 h).1, by have := (hx.h3 h).2; omega⟩,
      fun h => ⟨(hx.h4 h).1, by have := (hx.h4 h).2; omega⟩, fun h => ⟨(hx.h5 h).1, by have := (hx.h5 h).2.1; omega, hl _ _ _ (hx.h5 h).2.2 (k2 (by have := (hx.h5 h).2.1; omega))⟩, fun h => by have := hx.h6 h; rcases this with z | z <;> omega, fun h => by have := hx.h7 h; omega⟩
  · obtain ⟨k1, k2⟩ := hx.h1 e
    exact ⟨hy.how, fun _ => hx.src (by omega), fun h => by simp only at h; omega, hy.big, hy.nought, fun h => ⟨k1.trans (hy1 h).1, fun h3 => hl _ _ _ (k2 ((hy1 h).1.trans h3)) ((hy1 h).2 h3)⟩, fun h => ⟨k1.trans (hy2 h).1, (hy2 h).2⟩, fun h => ⟨k1.trans (hy3 h).1, (hy3 h).2⟩, fun h => ⟨k1.trans (hy4 h).1, (hy4 h).2⟩,
      fun h => ⟨k1.trans (hy5 h).1, (hy5 h).2.1, hl _ _ _ (k2 (hy5 h).1) (hy5 h).2.2⟩, fun h => by simp only at h; omega, fun h => by simp only at h; omega⟩
  · have k := hx.h2 e
    have k' := hy3 e'
    exact ⟨⟨by simp only; omega, by simp only; omega⟩, fun _ => hx.src (by omega), fun h => by simp only at h; omega, ⟨by simp only; omega, by simp only; omega⟩, fun _ _ => rfl, fun _ => ⟨k.1.trans k'.2.symm, fun h3 => by omega⟩, fun h => by simp only at h; omega, fun h => by simp only at h; omega, fun h => by simp only at h; omega, fun h => by simp only at h; omega, fun h => by simp only at h; omega, fun h => by simp only at h; omega⟩
  · have k := hx.h2 e
    have k' := hy4 e'
    exact ⟨hx.how, hx.src, hx.bare, hx.big, hx.nought, fun h => by omega, fun _ => ⟨k.1, k'.2⟩, fun h => by omega, fun h => by omega, fun h => by omega, fun h => by omega, fun h => by omega⟩
  · have k := hx.h4 e
    have k' := hy4 e'
    have hm := imin_le x.2.2 y.2.2
    have b1 := hx.big
    have b2 := hy.big
    exact ⟨hx.how, hx.src, hx.bare, ⟨by simp only; omega, by simp only; omega⟩, fun h => absurd e h, fun h => by simp only at h; omega, fun h => by simp only at h; omega, fun h => by simp only at h; omega, fun _ => ⟨k.1, k'.2⟩, fun h => by simp only at h; omega, fun h => by simp only at h; omega, fun h => by simp only at h; omega⟩
  · have k := hx.h5 e
    have k' := hy5 e'
    exact ⟨hx.how, hx.src, hx.bare, hx.big, hx.nought, fun h => by omega, fun h => by omega, fun h => by omega, fun h => by omega, fun _ => ⟨k.1, k'.2.1, hl _ _ _ k.2.2 k'.2.2⟩, fun h => by omega, fun h => by omega⟩
  · have k' := hy2 e'
    exact ⟨hx.how, hx.src, hx.bare, hx.big, hx.nought, fun h => by omega, fun h => by omega, fun h => by omega, fun h => by omega, fun h => by omega, fun _ => .inl k'.2, fun h => by omega⟩
  · have k' := hy3 e'
    exact ⟨hx.how, hx.src, hx.bare, hx.big, hx.nought, fun h => by omega, fun h => by omega, fun h => by omega, fun h => by omega, fun h => by omega, fun _ => .inr ⟨k'.2, e2, e3⟩, fun h => by omega⟩
  · have k' := hy4 e'
    exact ⟨hx.how, hx.src, hx.bare, hx.big, hx.nought, fun h => by omega, fun h => by omega, fun h => by omega, fun h => by omega, fun h => by omega, fun _ => .inl k'.2, fun h => by omega⟩
theorem made_at (x : DGive) (ca : List DCol) (vs : List DVal) (c : DCol) : S.made x ca vs c =
    if x.2.1 = 6 then ((if c.2.1 = 2 then 2 else 1, x.2.2), true) else if x.2.1 = 7 then ((3, 0), true) else if x.2.1 = 2 then ((1, (S.src x ca vs).2), true) else if x.2.1 = 3 then ((2, (S.src x ca vs).2), S.within (S.src x ca vs).2 0 1)
    else if x.2.1 = 4 then (S.src x ca vs, decide ((S.src x ca vs).2 < x.2.2)) else if x.2.1 = 5 then (S.src x ca vs, decide ((S.src x ca vs).1 = 4)) else (S.src x ca vs, true) := by
  unfold S.made
  by_cases h : c.2.1 = 2 <;> simp [h]
theorem made_kind {x : DGive} {ca : List DCol} {vs : List DVal} {c c' : DCol} (h : c.2.1 = c'.2.1) : S.made x ca vs c = S.made x ca vs c' := by rw [made_at, made_at, h]
theorem made_flag (x : DGive) (ca : List DCol) (vs : List DVal) (c c' : DCol) : (S.made x ca vs c).2 = (S.made x ca vs c').2 := by
  rw [made_at, made_at]
  by_cases h6 : x.2.1 = 6
  · rw [if_pos h6, if_pos h6]
  · rw [if_neg h6, if_neg h6]
theorem made_bare {x : DGive} (h : x.2.1 = 6 ∨ x.2.1 = 7) (ca ca' : List DCol) (vs vs' : List DVal) (c : DCol) : S.made x ca vs c = S.made x ca' vs' c := by
  rw [made_at, made_at]
  rcases h with h | h <;> simp [h]
theorem both_made {a b : List DRule} {x y : DGive} {ca cm : List DCol} {vs ws : List DVal} {c2 c3 : DCol} (hx : GiveOK a x ca c2) (hy : GiveOK b y cm c3) (h5 : y.2.1 ≤ 5) (hc : S.at_ S.zCol cm (S.col cm y.1) = c2) (hb : (S.both x y).2 = true)
    (hf : (S.made x ca vs c2).2 = true) (hw : S.src y cm ws = (S.made x ca vs c2).1) (hv : x.2.1 = 2 → (S.src x ca vs).1 = 2 ∧ 0 ≤ (S.src x ca vs).2 ∧ (S.src x ca vs).2 ≤ 1) : S.made (S.both x y).1 ca vs c3 = S.made y cm ws c3 := by
  have hy1 := hy.h1; have hy2 := hy.h2; have hy3 := hy.h3; have hy4 := hy.h4; have hy5 := hy.h5
  rw [hc] at hy1 hy2 hy3 hy4 hy5
  have yh := hy.how
  have xh := hx.how
  have hs : ∀ (h n : Int), S.src (x.1, h, n) ca vs = S.src x ca vs := fun _ _ => rfl
  refine both_cases hb (fun z => S.made z ca vs c3 = S.made y cm ws c3) (fun e => ?_) (fun e => ?_) (fun e e' => ?_) (fun e e' e2 => ?_) (fun e e' => ?_) (fun e e' => ?_) (fun e e' => ?_) (fun e e' e2 e3 => ?_) (fun e e' e2 => ?_)
  · have hr : S.made y cm ws c3 = (S.src y cm ws, true) := by rw [made_at]; simp [e]
    rw [hr, hw, ← made_kind (hy1 e).1]
    exact Prod.ext rfl hf
  · have hm : S.made x ca vs c2 = (S.src x ca vs, true) := by rw [made_at]; simp [e]
    rw [hm] at hw
    rw [made_at, made_at, hs, hw]
  · have hm : S.made x ca vs c2 = ((1, (S.src x ca vs).2), true) := by rw [made_at]; simp [e]
    rw [hm] at hw
    obtain ⟨v1, v2, v3⟩ := hv e
    have : (2, (S.src x ca vs).2) = S.src x ca vs := Prod.ext v1.symm rfl
    rw [made_at, made_at, hs, hw]
    simp [e', S.within, v2, v3, this]
  · have hm : S.made x ca vs c2 = ((1, (S.src x ca vs).2), true) := by rw [made_at]; simp [e]
    rw [hm] at hw
    obtain ⟨v1, v2, v3⟩ := hv e
    rw [made_at, made_at, hw]
    simp [e, e']; omega
  · have hm : S.made x ca vs c2 = (S.src x ca vs, decide ((S.src x ca vs).2 < x.2.2)) := by rw [made_at]; simp [e]
    rw [hm] at hw hf
    have hf := of_decide_eq_true hf
    rw [made_at, made_at, hs, hw]
    have := imin_le x.2.2 y.2.2
    simp [e, e']; omega
  · have hm : S.made x ca vs c2 = (S.src x ca vs, decide ((S.src x ca vs).1 = 4)) := by rw [made_at]; simp [e]
    rw [hm] at hw
    rw [made_at, made_at, hw]
    simp [e, e']
  · have hm : S.made x ca vs c2 = ((if c2.2.1 = 2 then 2 else 1, x.2.2), true) := by rw [made_at]; simp [e]
    rw [hm] at hw
    have := hy2 e'
    rw [made_at, made_at, hw]
    simp [e, e', this.2]
  · have hm : S.made x ca vs c2 = ((if c2.2.1 = 2 then 2 else 1, x.2.2), true) := by rw [made_at]; simp [e]
    rw [hm] at hw
    have := hy3 e'
    rw [made_at, made_at, hw]
    simp [e, e', this.2, S.within, e2, e3]
  · have hm : S.made x ca vs c2 = ((if c2.2.1 = 2 then 2 else 1, x.2.2), true) := by rw [made_at]; simp [e]
    rw [hm] at hw
    have := hy4 e'
    rw [made_at, made_at, hw]
    simp [e, e', this.1, this.2, e2]
theorem both_false {x y : DGive} {ca : List DCol} {vs : List DVal} {c2 c3 : DCol} (hb : (S.both x y).2 = true) (hf : (S.made x ca vs c2).2 = false) : (S.made (S.both x y).1 ca vs c3).2 = false := by
  have hn : x.2.1 = 3 ∨ x.2.1 = 4 ∨ x.2.1 = 5 := by
    rw [made_at] at hf
    by_cases h6 : x.2.1 = 6
    · rw [if_pos h6] at hf; cases hf
    rw [if_neg h6] at hf
    by_cases h7 : x.2.1 = 7
    · rw [if_pos h7] at hf; cases hf
    rw [if_neg h7] at hf
    by_cases h2 : x.2.1 = 2
    · rw [if_pos h2] at hf; cases hf
    rw [if_neg h2] at hf
    by_cases h3 : x.2.1 = 3
    · exact .inl h3
    rw [if_neg h3] at hf
    by_cases h4 : x.2.1 = 4
    · exact .inr (.inl h4)
    rw [if_neg h4] at hf
    by_cases h5 : x.2.1 = 5
    · exact .inr (.inr h5)
    rw [if_neg h5] at hf; cases hf
  have same : (S.made x ca vs c3).2 = false := by rw [made_flag x ca vs c3 c2]; exact hf
  refine both_cases hb (fun z => (S.made z ca vs c3).2 = false) (fun _ => same) (fun e => by omega) (fun e => by omega) (fun e => by omega) (fun e e' => ?_) (fun _ _ => same) (fun e => by omega) (fun e => by omega) (fun e => by omega)
  have hm : S.made x ca vs c2 = (S.src x ca vs, decide ((S.src x ca vs).2 < x.2.2)) := by rw [made_at]; simp [e]
  rw [hm] at hf
  have hf := of_decide_eq_false hf
  have hs : S.src (x.1, x.2.1, imin x.2.2 y.2.2) ca vs = S.src x ca vs := rfl
  rw [made_at, hs]
  have := imin_le x.2.2 y.2.2
  simp [e]; omega

/-! ### Rules in chains -/
/-- The Give of a chained rule. -/
def chG (xg : List DGive) (mid : List DCol) (g : DGive) : DGive := if g.2.1 = 6 ∨ g.2.1 = 7 then g else (S.both (S.at_ S.zGive xg (S.col mid g.1)) g).1
theorem chGo_some {x : DRule} {mid : List DCol} : ∀ {gs acc out : List DGive}, S.chGo x mid gs acc = some out → out = acc ++ gs.map (chG x.2.2 mid) ∧ ∀ g ∈ gs, ¬ (g.2.1 = 6 ∨ g.2.1 = 7) → (S.both (S.at_ S.zGive x.2.2 (S.col mid g.1)) g).2 = true
  | [], acc, out, h => by
    simp only [S.chGo, Option.some.injEq] at h
    subst h
    exact ⟨by simp, fun g hg => absurd hg (by simp)⟩
  | g :: gs, acc, out, h => by
    rw [S.chGo] at h
    by_cases h6 : g.2.1 = 6 ∨ g.2.1 = 7
    · rw [if_pos h6] at h
      obtain ⟨k1, k2⟩ := chGo_some h
      refine ⟨by rw [k1]; simp [chG, h6], fun g' hg' hn => ?_⟩
      rcases List.mem_cons.1 hg' with e | e
      · rw [e] at hn; exact absurd h6 hn
      · exact k2 g' e hn
    · rw [if_neg h6] at h
      by_cases hb : (S.both (S.at_ S.zGive x.2.2 (S.col mid g.1)) g).2 = true
      · rw [if_pos hb] at h
        obtain ⟨k1, k2⟩ := chGo_some h
        refine ⟨by rw [k1]; simp [chG, h6], fun g' hg' hn => ?_⟩
        rcases List.mem_cons.1 hg' with e | e
        · rw [e]; exact hb
        · exact k2 g' e hn
      · rw [if_neg hb] at h; cases h
theorem chAsk_true {l : List DGive} : ∀ {gs : List DGive} {cs : List DCol}, S.chAsk l gs cs = true → ∀ k (h : k < gs.length) (h' : k < cs.length), S.asksG gs[k] = true → S.hasFrom l cs[k].1 = true
  | [], cs, _, k, h, _, _ => by simp at h
  | g :: gs, [], _, k, _, h', _ => by simp at h'
  | g :: gs, c :: cs, h, k, h1, h2, h3 => by
    rw [S.chAsk] at h
    cases k with
    | zero =>
      simp only [List.getElem_cons_zero] at h3 ⊢
      rw [h3, Bool.true_and] at h
      cases hh : S.hasFrom l c.1 with
      | true => rfl
      | false => rw [hh] at h; cases h
    | succ k =>
      cases hc : (S.asksG g && !S.hasFrom l c.1) with
      | true => rw [hc] at h; cases h
      | false => rw [hc] at h; exact chAsk_true h k (by simpa using h1) (by simpa using h2) h3
theorem chained_some {x y : DRule} {mid : List DCol} (h : (S.chained x y mid).2 = true) : (S.chained x y mid).1 = (x.1, y.2.1, y.2.2.map (chG x.2.2 mid)) ∧ (∀ g ∈ y.2.2, ¬ (g.2.1 = 6 ∨ g.2.1 = 7) → (S.both (S.at_ S.zGive x.2.2 (S.col mid g.1)) g).2 = true) ∧ S.chAsk y.2.2 x.2.2 mid = true := by
  unfold S.chained at h ⊢
  cases hg : S.chGo x mid y.2.2 [] with
  | none => rw [hg] at h; cases h
  | some gs =>
    rw [hg] at h
    simp only at h ⊢
    obtain ⟨k1, k2⟩ := chGo_some hg
    cases ha : S.chAsk y.2.2 x.2.2 mid with
    | false => rw [ha] at h; cases h
    | true =>
      rw [if_pos rfl]
      exact ⟨by rw [k1]; rfl, k2, rfl⟩
/-- The chained rule of a class. -/
def chR (mid : List DForm) (a b : List DRule) (c : ByteArray) : DRule × Bool := S.chained (S.ruleOf a c).1 (S.ruleOf b (S.ruleOf a c).1.2.1).1 (S.colsOf mid (S.ruleOf a c).1.2.1)
theorem chainGo_zero {mid : List DForm} {a b : List DRule} : ∀ {fs : List DForm} {acc l : List DRule}, S.chainGo mid a b fs acc = (l, 0) → l = acc ++ fs.map (fun f => (chR mid a b f.1).1) ∧ ∀ f ∈ fs, (chR mid a b f.1).2 = true
  | [], acc, l, h => by
    simp only [S.chainGo, Prod.mk.injEq] at h
    exact ⟨by simp [h.1], fun f hf => absurd hf (by simp)⟩
  | f :: fs, acc, l, h => by
    rw [S.chainGo] at h
    by_cases hc : (chR mid a b f.1).2 = true
    · have hc' := hc
      unfold chR at hc'
      simp only [if_pos hc'] at h
      obtain ⟨k1, k2⟩ := chainGo_zero h
      refine ⟨by rw [k1]; simp [chR], fun f' hf' => ?_⟩
      rcases List.mem_cons.1 hf' with e | e
      · rw [e]; exact hc
      · exact k2 f' e
    · have hc' := hc
      unfold chR at hc'
      simp only [if_neg hc'] at h
      exact absurd (Prod.mk.inj h).2 (by decide)
theorem find_map {mid : List DForm} {a b : List DRule} (c : ByteArray) : ∀ (fs : List DForm), (∀ f ∈ fs, (chR mid a b f.1).1.1 = f.1) → (fs.map (fun f => (chR mid a b f.1).1)).find? (fun r : DRule => keqS r.1 c) = if fs.any (fun f => keqS f.1 c) then some (chR mid a b c).1 else none
  | [], _ => rfl
  | f :: fs, h => by
    have h0 := h f List.mem_cons_self
    have ih := find_map c fs fun f' hf' => h f' (List.mem_cons_of_mem _ hf')
    rw [List.map_cons, List.find?_cons, List.any_cons, h0]
    cases hk : keqS f.1 c with
    | true =>
      have : f.1 = c := of_decide_eq_true hk
      rw [this]; rfl
    | false => rw [Bool.false_or]; exact ih
/-- What is known of a chain. -/
structure ChOK (l1 l2 l3 : List DForm) (a b l : List DRule) : Prop where
  f1 : FormsOK l1
  f2 : FormsOK l2
  f3 : FormsOK l3
  ra : RulesOK l1 l2 a
  rb : RulesOK l2 l3 b
  c1 : S.checkForms l1 = 0
  c2 : S.checkForms l2 = 0
  c3 : S.checkForms l3 = 0
  eq : l = l1.map fun f => (chR l2 a b f.1).1
  ok : ∀ f ∈ l1, (chR l2 a b f.1).2 = true
theorem chOK {l1 l2 l3 : List DForm} {a b l : List DRule} (h : S.chain l1 l2 l3 a b = (l, 0)) : ChOK l1 l2 l3 a b l := by
  unfold S.chain at h
  by_cases e1 : S.first [S.checkForms l1, S.checkForms l2, S.checkForms l3] = 0
  case neg => rw [if_pos e1] at h; exact absurd (Prod.mk.inj h).2 e1
  rw [if_neg (by simpa using e1)] at h
  by_cases e2 : S.first [S.checkRules0 l1 l2 a, S.checkRules0 l2 l3 b] = 0
  case neg => rw [if_pos e2] at h; exact absurd (Prod.mk.inj h).2 e2
  rw [if_neg (by simpa using e2)] at h
  obtain ⟨q1, q2, q3⟩ := lw_first3 e1
  obtain ⟨r1, r2⟩ := lw_first2 e2
  obtain ⟨k1, k2⟩ := chainGo_zero h
  exact ⟨formsOK q1, formsOK q2, formsOK q3, (rulesOK_iff _ _ _).1 r1, (rulesOK_iff _ _ _).1 r2, q1, q2, q3, by simpa using k1, k2⟩
section
variable {l1 l2 l3 : List DForm} {a b l : List DRule}
/-- The two rules behind a chained one. -/
structure Two (l1 l2 l3 : List DForm) (a b : List DRule) (c : ByteArray) : Prop where
  xm : (S.ruleOf a c).1 ∈ a
  xc : (S.ruleOf a c).1.1 = c
  ym : (S.ruleOf b (S.ruleOf a c).1.2.1).1 ∈ b
  yc : (S.ruleOf b (S.ruleOf a c).1.2.1).1.1 = (S.ruleOf a c).1.2.1
  eq : (chR l2 a b c).1 = (c, (S.ruleOf b (S.ruleOf a c).1.2.1).1.2.1, (S.ruleOf b (S.ruleOf a c).1.2.1).1.2.2.map (chG (S.ruleOf a c).1.2.2 (S.colsOf l2 (S.ruleOf a c).1.2.1)))
  bo : ∀ g ∈ (S.ruleOf b (S.ruleOf a c).1.2.1).1.2.2, ¬ (g.2.1 = 6 ∨ g.2.1 = 7) → (S.both (S.at_ S.zGive (S.ruleOf a c).1.2.2 (S.col (S.colsOf l2 (S.ruleOf a c).1.2.1) g.1)) g).2 = true
  ask : S.chAsk (S.ruleOf b (S.ruleOf a c).1.2.1).1.2.2 (S.ruleOf a c).1.2.2 (S.colsOf l2 (S.ruleOf a c).1.2.1) = true
theorem two_of (h : ChOK l1 l2 l3 a b l) {c : ByteArray} (hc : 0 ≤ S.form l1 c) : Two l1 l2 l3 a b c := by
  obtain ⟨f, _, _, f3, f4⟩ := form_get hc
  subst f4
  obtain ⟨m1, m2⟩ := ruleOf_mem (h.ra.all f f3)
  obtain ⟨fm, _, _, b3, b4⟩ := form_get (h.ra.has _ m1).2
  obtain ⟨n1, n2⟩ := ruleOf_mem (l := b) (c := (S.ruleOf a f.1).1.2.1) (by have := h.rb.all fm b3; rw [b4] at this; exact this)
  obtain ⟨k1, k2, k3⟩ := chained_some (h.ok f f3)
  exact ⟨m1, m2, n1, n2, by unfold chR; rw [k1, m2], k2, k3⟩
theorem name_of (h : ChOK l1 l2 l3 a b l) : ∀ f ∈ l1, (chR l2 a b f.1).1.1 = f.1 := fun f hf => by rw [(two_of h (form_mem hf)).eq]
theorem ruleOf_chain (h : ChOK l1 l2 l3 a b l) {c : ByteArray} (hc : 0 ≤ S.form l1 c) : S.ruleOf l c = ((chR l2 a b c).1, true) := by
  unfold S.ruleOf
  rw [h.eq, find_map c l1 (name_of h)]
  have : l1.any (fun f => keqS f.1 c) = true := (S.idx_nonneg (fun f : DForm => keqS f.1 c) l1).1 hc
  rw [this]
  rfl
theorem leads_chain (h : ChOK l1 l2 l3 a b l) (p q r : ByteArray) (h1 : S.leads a p q = true) (h2 : S.leads b q r = true) : S.leads l p r = true := by
  rcases (leads_iff h.rb h.f2).1 h2 with e | ⟨n1, n2, n3⟩
  · unfold S.leads; rw [decide_eq_true e]; rfl
  rcases (leads_iff h.ra h.f1).1 h1 with e | ⟨m1, m2, m3⟩
  · exact absurd e n1
  have hp : 0 ≤ S.form l1 p := by
    obtain ⟨z1, z2⟩ := ruleOf_mem m2
    have := (h.ra.has _ z1).1
    rwa [z2] at this
  unfold S.leads
  rw [ruleOf_chain h hp, (two_of h hp).eq]
  simp only [Bool.true_and, Bool.or_eq_true, decide_eq_true_eq]
  right
  rw [m3, n3]
/-- The Gives of both, and of the chain. -/
theorem gives_of (h : ChOK l1 l2 l3 a b l) {c : ByteArray} (hc : 0 ≤ S.form l1 c) {k : Nat} (hk : k < (S.ruleOf b (S.ruleOf a c).1.2.1).1.2.2.length) (hk3 : k < (S.colsOf l3 (S.ruleOf b (S.ruleOf a c).1.2.1).1.2.1).length) :
    GiveOK b (S.ruleOf b (S.ruleOf a c).1.2.1).1.2.2[k] (S.colsOf l2 (S.ruleOf a c).1.2.1) (S.colsOf l3 (S.ruleOf b (S.ruleOf a c).1.2.1).1.2.1)[k] := by
  have t := two_of h hc
  have := h.rb.gok _ t.ym k hk hk3
  rw [t.yc] at this
  exact (give_iff _ _ _ _).1 this
theorem mid_of (h : ChOK l1 l2 l3 a b l) {c : ByteArray} (hc : 0 ≤ S.form l1 c) {n : ByteArray} (hn : 0 ≤ S.col (S.colsOf l2 (S.ruleOf a c).1.2.1) n) :
    ∃ (j : Nat) (hj : j < (S.ruleOf a c).1.2.2.length) (hj2 : j < (S.colsOf l2 (S.ruleOf a c).1.2.1).length), S.col (S.colsOf l2 (S.ruleOf a c).1.2.1) n = j ∧ S.at_ S.zGive (S.ruleOf a c).1.2.2 (S.col (S.colsOf l2 (S.ruleOf a c).1.2.1) n) = (S.ruleOf a c).1.2.2[j] ∧
      S.at_ S.zCol (S.colsOf l2 (S.ruleOf a c).1.2.1) (S.col (S.colsOf l2 (S.ruleOf a c).1.2.1) n) = (S.colsOf l2 (S.ruleOf a c).1.2.1)[j] ∧ GiveOK a (S.ruleOf a c).1.2.2[j] (S.colsOf l1 c) (S.colsOf l2 (S.ruleOf a c).1.2.1)[j] := by
  have t := two_of h hc
  obtain ⟨j, hj, e1, e2, e3⟩ := at_col hn
  have hg := h.ra.glen _ t.xm
  have hj' : j < (S.ruleOf a c).1.2.2.length := by rw [hg]; exact hj
  have := h.ra.gok _ t.xm j hj' hj
  rw [t.xc] at this
  exact ⟨j, hj', hj, e1, by rw [e1, at_nat _ hj'], e2, (give_iff _ _ _ _).1 this⟩
theorem rules_chain (h : ChOK l1 l2 l3 a b l) : RulesOK l1 l3 l := by
  have hl : l.length = l1.length := by rw [h.eq, List.length_map]
  have mem : ∀ r ∈ l, ∃ f ∈ l1, r = (chR l2 a b f.1).1 := fun r hr => by
    rw [h.eq] at hr
    obtain ⟨f, hf, e⟩ := List.mem_map.1 hr
    exact ⟨f, hf, e.symm⟩
  refine ⟨by rw [hl]; exact h.f1.len, fun r hr => ?_, fun k hk => ?_, fun f hf => ?_, fun r hr => ?_, fun r hr k hk hk' => ?_⟩
  · obtain ⟨f, hf, rfl⟩ := mem r hr
    have t := two_of h (form_mem hf)
    rw [t.eq]
    exact ⟨form_mem hf, (h.rb.has _ t.ym).2⟩
  · have hk1 : k < l1.length := by rw [← hl]; exact hk
    have e : l[k] = (chR l2 a b l1[k].1).1 := by
      have : l[k] = (l1.map fun f => (chR l2 a b f.1).1)[k]'(by rw [List.length_map]; exact hk1) := by congr 1; exact h.eq
      rw [this, List.getElem_map]
    have e2 : l.take k = (l1.take k).map fun f => (chR l2 a b f.1).1 := by
      have : l.take k = (l1.map fun f => (chR l2 a b f.1).1).take k := by rw [← h.eq]
      rw [this, List.map_take]
    rw [e, name_of h _ (List.getElem_mem hk1)]
    unfold S.ruleOf
    rw [e2, find_map _ _ fun f hf => name_of h f (List.mem_of_mem_take hf)]
    have : (l1.take k).any (fun f => keqS f.1 l1[k].1) = false := by
      cases ha : (l1.take k).any (fun f => keqS f.1 l1[k].1) with
      | false => rfl
      | true =>
        have h1 := (S.idx_nonneg (fun f : DForm => keqS f.1 l1[k].1) (l1.take k)).2 ha
        have h2 := h.f1.one k hk1
        unfold S.form at h2
        omega
    rw [this]
    rfl
  · rw [ruleOf_chain h (form_mem hf)]
  · obtain ⟨f, hf, rfl⟩ := mem r hr
    have t := two_of h (form_mem hf)
    rw [t.eq]
    simp only [List.length_map]
    exact h.rb.glen _ t.ym
  · obtain ⟨f, hf, rfl⟩ := mem r hr
    have hc := form_mem hf
    have t := two_of h hc
    revert hk hk'
    rw [t.eq]
    simp only [List.length_map, List.getElem_map]
    intro hk hk'
    rw [give_iff]
    have hy := gives_of h hc hk hk'
    unfold chG
    by_cases h67 : (S.ruleOf b (S.ruleOf a f.1).1.2.1).1.2.2[k].2.1 = 6 ∨ (S.ruleOf b (S.ruleOf a f.1).1.2.1).1.2.2[k].2.1 = 7
    · rw [if_pos h67]
      exact ⟨hy.how, fun h5 => by omega, hy.bare, hy.big, hy.nought, fun e => by omega, fun e => by omega, fun e => by omega, fun e => by omega, fun e => by omega, hy.h6, hy.h7⟩
    · rw [if_neg h67]
      have hh := hy.how
      obtain ⟨j, hj, hj2, j1, j2, j3, j4⟩ := mid_of h hc (hy.src (by omega))
      have hb := t.bo _ (List.getElem_mem hk) h67
      rw [j2] at hb ⊢
      exact both_give j4 hy (by omega) j3 hb (leads_chain h)
/-- An object converted by the chain. -/
theorem node_chain (h : ChOK l1 l2 l3 a b l) {g : DGraph} (hg : GraphOK l1 g) {n : DNode} (hn : n ∈ g.1) : cvNode l1 l3 l n = (cvNode l1 l2 a n).bind (cvNode l2 l3 b) := by
  have hc := hg.has n hn
  have t := two_of h hc
  have gx := h.ra.glen _ t.xm
  have gy := h.rb.glen _ t.ym
  unfold cvNode
  rw [ruleOf_chain h hc, t.eq]
  simp only
  cases hr : cvRow (S.colsOf l1 n.1) n.2 (S.ruleOf a n.1).1.2.2 (S.colsOf l2 (S.ruleOf a n.1).1.2.1) with
  | none =>
    simp only [Option.map_none, Option.bind_none, Option.map_eq_none_iff]
    obtain ⟨k, k1, k2, k3⟩ := cvRow_none.1 hr
    have hax : S.asksG (S.ruleOf a n.1).1.2.2[k] = true := by
      rw [made_at] at k3
      unfold S.asksG
      simp only [Bool.or_eq_true, decide_eq_true_eq]
      by_cases h6 : (S.ruleOf a n.1).1.2.2[k].2.1 = 6
      · rw [if_pos h6] at k3; cases k3
      rw [if_neg h6] at k3
      by_cases h7 : (S.ruleOf a n.1).1.2.2[k].2.1 = 7
      · rw [if_pos h7] at k3; cases k3
      rw [if_neg h7] at k3
      by_cases h2 : (S.ruleOf a n.1).1.2.2[k].2.1 = 2
      · rw [if_pos h2] at k3; cases k3
      rw [if_neg h2] at k3
      by_cases h3 : (S.ruleOf a n.1).1.2.2[k].2.1 = 3
      · exact .inl h3
      rw [if_neg h3] at k3
      by_cases h4 : (S.ruleOf a n.1).1.2.2[k].2.1 = 4
      · exact .inr (.inl h4)
      rw [if_neg h4] at k3
      by_cases h5 : (S.ruleOf a n.1).1.2.2[k].2.1 = 5
      · exact .inr (.inr h5)
      rw [if_neg h5] at k3; cases k3
    have hfr := chAsk_true t.ask k k1 k2 hax
    unfold S.hasFrom at hfr
    obtain ⟨y, hy, e⟩ := List.any_eq_true.1 hfr
    have e : y.1 = (S.colsOf l2 (S.ruleOf a n.1).1.2.1)[k].1 := of_decide_eq_true e
    obtain ⟨j, hj, rfl⟩ := List.mem_iff_getElem.1 hy
    have hj3 : j < (S.colsOf l3 (S.ruleOf b (S.ruleOf a n.1).1.2.1).1.2.1).length := by rw [← gy]; exact hj
    have hyo := gives_of h hc hj hj3
    have co := colsOf_ok h.f2 (h.ra.has _ t.xm).2
    have hne : ¬ (S.ruleOf b (S.ruleOf a n.1).1.2.1).1.2.2[j].1 = S.lit [] := by rw [e]; exact lw_small_ne_nil (co.small _ (List.getElem_mem k2))
    have h67 : ¬ ((S.ruleOf b (S.ruleOf a n.1).1.2.1).1.2.2[j].2.1 = 6 ∨ (S.ruleOf b (S.ruleOf a n.1).1.2.1).1.2.2[j].2.1 = 7) := fun hh => hne (hyo.bare (by omega))
    refine cvRow_none.2 ⟨j, by simpa using hj, hj3, ?_⟩
    rw [List.getElem_map]
    unfold chG
    rw [if_neg h67]
    have hb := t.bo _ (List.getElem_mem hj) h67
    rw [e, col_nat co k2, at_nat _ k1] at hb ⊢
    exact both_false hb k3
  | some ws =>
    simp only [Option.map_some, Option.bind_some]
    congr 1
    obtain ⟨w1, w2⟩ := cvRow_some gx hr
    refine cvRow_congr (by simp) fun k h1 h1' h2 => ?_
    rw [List.getElem_map]
    have hy := gives_of h hc h1' h2
    unfold chG
    by_cases h67 : (S.ruleOf b (S.ruleOf a n.1).1.2.1).1.2.2[k].2.1 = 6 ∨ (S.ruleOf b (S.ruleOf a n.1).1.2.1).1.2.2[k].2.1 = 7
    · rw [if_pos h67]
      exact made_bare h67 _ _ _ _ _
    · rw [if_neg h67]
      have hh := hy.how
      obtain ⟨j, hj, hj2, j1, j2, j3, j4⟩ := mid_of h hc (hy.src (by omega))
      have hb := t.bo _ (List.getElem_mem h1') h67
      have hjw : j < ws.length := by rw [w1]; exact hj
      obtain ⟨m1, m2⟩ := w2 j hj hj2 hjw
      rw [j2] at hb ⊢
      refine both_made j4 hy (by omega) j3 hb m1 ?_ fun e => ?_
      · unfold S.src
        rw [j1, at_nat _ hjw, m2]
      · have hv := src_val hg hn (j4.src (by omega))
        have v2 := hv.b (j4.h2 e).1
        refine ⟨v2, ?_⟩
        rcases hv.value with z | z | z | z <;> omega
/-- The law of chains. -/
theorem chains_agree {g : DGraph} (hch : S.chain l1 l2 l3 a b = (l, 0)) (hg : S.checkG l1 g = 0) :
    S.checkRules l1 l3 l = 0 ∧ ((S.convert l1 l3 l g).2.2 = 0 ∨ (S.convert l1 l3 l g).2.2 = 10) ∧ ((S.convert l1 l2 a g).2.2 = 0 ∨ (S.convert l1 l2 a g).2.2 = 10) ∧
    (¬ (S.convert l1 l2 a g).2.2 = 0 → (S.convert l1 l3 l g).2.2 = (S.convert l1 l2 a g).2.2) ∧
    ((S.convert l1 l2 a g).2.2 = 0 → (S.convert l2 l3 b (S.convert l1 l2 a g).1).2.2 = (S.convert l1 l3 l g).2.2 ∧ (S.convert l1 l3 l g).1 = (S.convert l2 l3 b (S.convert l1 l2 a g).1).1) := by
  have h := chOK hch
  have hr := rules_chain h
  have first2 : ∀ x y : Int, x = 0 → y = 0 → S.first [x, y] = 0 := fun x y hx hy => by subst hx; subst hy; rfl
  have k13 : S.checkRules l1 l3 l = 0 := by
    unfold S.checkRules
    rw [if_pos (first2 _ _ h.c1 h.c3)]
    exact (rulesOK_iff _ _ _).2 hr
  have k12 : S.checkRules l1 l2 a = 0 := by
    unfold S.checkRules
    rw [if_pos (first2 _ _ h.c1 h.c2)]
    exact (rulesOK_iff _ _ _).2 h.ra
  have k23 : S.checkRules l2 l3 b = 0 := by
    unfold S.checkRules
    rw [if_pos (first2 _ _ h.c2 h.c3)]
    exact (rulesOK_iff _ _ _).2 h.rb
  have hgc : S.check l1 g = 0 := by
    unfold S.checkG at hg
    rwa [if_neg (by simpa using h.c1)] at hg
  have hG := (graphOK_iff _ _).1 hgc
  have hb := cvAll_bind (l := a) (l' := b) (l'' := l) (a := l1) (b := l2) (c := l3) (ns := g.1) fun n hn => node_chain h hG hn
  refine ⟨k13, ?_⟩
  rw [convert_ok k13 hgc, convert_ok k12 hgc]
  obtain ⟨p1, p2⟩ := cvGo_all l1 l3 l g.2 g.1 0 []
  obtain ⟨q1, q2⟩ := cvGo_all l1 l2 a g.2 g.1 0 []
  cases hy : cvAll l1 l2 a g.1 with
  | none =>
    obtain ⟨r, r1, _⟩ := q2 hy
    rw [hy, Option.bind_none] at hb
    obtain ⟨r', r1', _⟩ := p2 hb
    rw [r1, r1']
    exact ⟨.inr rfl, .inr rfl, fun _ => rfl, fun h => absurd h (show ¬ (10 : Int) = 0 by decide)⟩
  | some ms =>
    rw [q1 ms hy]
    rw [hy, Option.bind_some] at hb
    have hG2 := conv_ok h.f1 h.f2 h.ra hG hy
    have hgc2 : S.check l2 (ms, g.2) = 0 := (graphOK_iff _ _).2 hG2
    simp only [List.nil_append]
    rw [convert_ok k23 hgc2]
    obtain ⟨s1, s2⟩ := cvGo_all l2 l3 b g.2 ms 0 []
    cases hz : cvAll l2 l3 b ms with
    | none =>
      rw [hz] at hb
      obtain ⟨r, r1, _⟩ := p2 hb
      obtain ⟨r', r1', _⟩ := s2 hz
      rw [r1, r1']
      simp
    | some zs =>
      rw [hz] at hb
      rw [p1 zs hb, s1 zs hz]
      simp
end
end Go.Proofs.Ytcnhjofpmpipfaa
end

/- PackChainsAgree: the law function answers yes on all data. -/
section
set_option linter.unusedVariables false
set_option maxRecDepth 100000
namespace Go.Proofs.Ytcnhjofpmpipfaa
open Go Go.Sx Go.RowKit Go.Jx
theorem cond_true_or {b : Bool} {x : Option (Bool × Unit)} (h : x = some (true, ())) : cond b (some (true, ())) x = some (true, ()) := by
  cases b
  · exact h
  · rfl
theorem F_l_PackChainsAgree_eq (lf : Nat) (l1 l2 l3 : List DForm) (a b : List DRule) (g : DGraph) : F_l_PackChainsAgree lf l1 l2 l3 a b g = some (true, ()) := by
  simp only [F_l_PackChainsAgree, R_l_PackChainsAgree_in, Prod.eta, ieqI_eq, oL]
  refine cond_true_or (cond_true_or (cond_true_or (cond_true_or (cond_true_or (cond_true_or ?_)))))
  by_cases hch : (S.chain l1 l2 l3 a b).2 = 0
  case neg => rw [decide_eq_false hch]; rfl
  by_cases hg : S.checkG l1 g = 0
  case neg => rw [decide_eq_false hg]; exact cond_true_or rfl
  obtain ⟨k1, k2, k3, k4, k5⟩ := chains_agree (l := (S.chain l1 l2 l3 a b).1) (Prod.ext rfl hch) hg
  rw [decide_eq_true hch, decide_eq_true hg, decide_eq_true k1]
  simp only [Bool.not_true, cond_false]
  revert k2 k3 k4 k5
  generalize S.convert l1 l3 (S.chain l1 l2 l3 a b).1 g = x
  generalize S.convert l1 l2 a g = y
  generalize S.convert l2 l3 b y.1 = z
  intro k2 k3 k4 k5
  rcases k3 with k3 | k3
  · obtain ⟨e1, e2⟩ := k5 k3
    have hs : S.sameGraphs x.1 z.1 = true := decide_eq_true e2
    rcases k2 with k2 | k2 <;> simp [k2, k3, e1, hs]
  · have e := k4 (by omega)
    rw [k3] at e
    simp [e, k3]
theorem con_l_PackChainsAgree (hs : Con Try.prog 15 sp_l_sanity) : Con Try.prog id_l_PackChainsAgree sp_l_true6 := mk_l_PackChainsAgree ⟨con_l_fewForms, con_l_few, con_l_fewRules, hs, con_r_SameGraphs, con_p_Chain, con_p_Check, con_p_Convert, con_p_CheckRules, trivial⟩ fun x y hx h => ⟨0, (F_l_PackChainsAgree_eq _ _ _ _ _ _ _).trans h⟩
end Go.Proofs.Ytcnhjofpmpipfaa
end

/- PackChainsAgree's contract. -/
section
set_option linter.unusedVariables false
namespace Go.Proofs.Ytcnhjofpmpipfaa
open Go Go.Sx Go.RowKit Go.Jx
theorem con_PackChainsAgree : Con Try.prog id_l_PackChainsAgree sp_l_true6 := con_l_PackChainsAgree con_l_sanity
end Go.Proofs.Ytcnhjofpmpipfaa
end
