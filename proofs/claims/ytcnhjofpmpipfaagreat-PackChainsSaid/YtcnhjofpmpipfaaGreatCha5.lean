/- Texts: Rg2, Rp3, Rp4, Rsp2, Rg3, Rp5, Rsp3, Rg4, Rp6, Rp7, Rp8, Rsp4, Rsan, Rg6, Rg5, Rp9, Rp10, Rp11, Rsn2, Qsp2, Rsp6, Rg7, Qg3, Qp4, Rp12, Rsn3. -/
import Derived.Test.YtcnhjofpmpipfaaGreatCha4
import Derived.KernelRfl
/- Made by program: plain forms of functions. -/
section
set_option linter.unusedVariables false
set_option maxRecDepth 100000
noncomputable section
namespace Go.Proofs.YtcnhjofpmpipfaaGreat
open Go Go.Sx Go.RowKit Go.Jx
def nm_q_run : Nat → Option Nm := fun k => cond (Nat.beq k 2) (some ⟨[0, 1, 5], [], [], [], [], 0, 0, false⟩) (none)
def st_q_run : Nat → Bool := fun k => cond (Nat.beq k 2) true (false)
def hd_q_run : Nat → Bool := fun k => cond (Nat.beq k 2) true (false)
abbrev Rt_q_run : Type := Int × Unit
def sml_q_run : List (Nat × Sm) := []
def hxl_q_run : List (Nat × Hx) := []
def cl_q_run (R : Type) (lf : Nat) : ClK R := icallK Tryz.prog ttT.get ftT.get (nm1 139 nm_q_run) (smL sml_q_run) (hxL hxl_q_run) lf 20 R
abbrev id_q_run : Nat := 139
def enc_q_run_2 (x1 : ByteArray) (x2 : Int) (p : Int) : NRes := (NRes.mk (PT.node (some (IV.str x1)) (PT.node (some (IV.int Go.IntKind.i64 x2)) PT.leaf (PT.node (some (IV.int Go.IntKind.i64 p)) PT.leaf PT.leaf)) PT.leaf) (IS.mk PT.leaf 0) [] 0)
def R_q_run_in (lf : Nat) (x1 : ByteArray) (x2 : Int) (L2 : Int → Option Rt_q_run) : Option Rt_q_run := (L2 (Int.ofNat 0))
def R_q_run_2 (lf : Nat) (x1 : ByteArray) (x2 : Int) (L2 : Int → Option Rt_q_run) (p : Int) : Option Rt_q_run := (cond (iltI (Go.IntKind.wrap Go.IntKind.i64 (Int.add x2 p)) (Int.ofNat (ByteArray.size x1))) (match (jget (byteList x1) (Go.IntKind.wrap Go.IntKind.i64 (Int.add x2 p))) with | .none  => none | .some v0 => (cond (Bool.not (iltI v0 (Int.ofNat 97))) (cond (Bool.not (iltI (Int.ofNat 122) v0)) (L2 (Go.IntKind.wrap Go.IntKind.i64 (Int.add p (Int.ofNat 1)))) (cond (Bool.not (iltI v0 (Int.ofNat 65))) (cond (Bool.not (iltI (Int.ofNat 90) v0)) (L2 (Go.IntKind.wrap Go.IntKind.i64 (Int.add p (Int.ofNat 1)))) (cond (Bool.not (iltI v0 (Int.ofNat 48))) (cond (Bool.not (iltI (Int.ofNat 57) v0)) (L2 (Go.IntKind.wrap Go.IntKind.i64 (Int.add p (Int.ofNat 1)))) (cond (ieqI v0 (Int.ofNat 95)) (L2 (Go.IntKind.wrap Go.IntKind.i64 (Int.add p (Int.ofNat 1)))) (some (p, ())))) (cond (ieqI v0 (Int.ofNat 95)) (L2 (Go.IntKind.wrap Go.IntKind.i64 (Int.add p (Int.ofNat 1)))) (some (p, ()))))) (cond (Bool.not (iltI v0 (Int.ofNat 48))) (cond (Bool.not (iltI (Int.ofNat 57) v0)) (L2 (Go.IntKind.wrap Go.IntKind.i64 (Int.add p (Int.ofNat 1)))) (cond (ieqI v0 (Int.ofNat 95)) (L2 (Go.IntKind.wrap Go.IntKind.i64 (Int.add p (Int.ofNat 1)))) (some (p, ())))) (cond (ieqI v0 (Int.ofNat 95)) (L2 (Go.IntKind.wrap Go.IntKind.i64 (Int.add p (Int.ofNat 1)))) (some (p, ())))))) (cond (Bool.not (iltI v0 (Int.ofNat 65))) (cond (Bool.not (iltI (Int.ofNat 90) v0)) (L2 (Go.IntKind.wrap Go.IntKind.i64 (Int.add p (Int.ofNat 1)))) (cond (Bool.not (iltI v0 (Int.ofNat 48))) (cond (Bool.not (iltI (Int.ofNat 57) v0)) (L2 (Go.IntKind.wrap Go.IntKind.i64 (Int.add p (Int.ofNat 1)))) (cond (ieqI v0 (Int.ofNat 95)) (L2 (Go.IntKind.wrap Go.IntKind.i64 (Int.add p (Int.ofNat 1)))) (some (p, ())))) (cond (ieqI v0 (Int.ofNat 95)) (L2 (Go.IntKind.wrap Go.IntKind.i64 (Int.add p (Int.ofNat 1)))) (some (p, ()))))) (cond (Bool.not (iltI v0 (Int.ofNat 48))) (cond (Bool.not (iltI (Int.ofNat 57) v0)) (L2 (Go.IntKind.wrap Go.IntKind.i64 (Int.add p (Int.ofNat 1)))) (cond (ieqI v0 (Int.ofNat 95)) (L2 (Go.IntKind.wrap Go.IntKind.i64 (Int.add p (Int.ofNat 1)))) (some (p, ())))) (cond (ieqI v0 (Int.ofNat 95)) (L2 (Go.IntKind.wrap Go.IntKind.i64 (Int.add p (Int.ofNat 1)))) (some (p, ()))))))) (some (p, ())))
theorem in_q_run (g : ElA [.str, (.int .i64)] → Option Rt_q_run) (J : Nat → List Nat → NRes → Option Rt_q_run) (lf : Nat) (x1 : ByteArray) (x2 : Int) : icodeT Tryz.prog ttT.get nm_q_run fi139.nt (cl_q_run _ lf) lf st_q_run J fi139.body [] (argGo (argV [.str, (.int .i64)] (x1, x2, ())) 0 .leaf) S0 [] (lastK ttT.get fi139 ⟨[.str, (.int .i64)], [(false, (.int .i64))], g⟩) = R_q_run_in lf x1 x2 (fun q => J 2 [lf] (enc_q_run_2 x1 x2 q)) := by kernel_rfl
theorem st_q_run_2 (g : ElA [.str, (.int .i64)] → Option Rt_q_run) (J : Nat → List Nat → NRes → Option Rt_q_run) (lf : Nat) (x1 : ByteArray) (x2 : Int) (m1 : Nat) (p : Int) : icodeFT Tryz.prog ttT.get nm_q_run fi139.nt (cl_q_run _ lf) lf st_q_run J 2 fi139.body [] [m1] (enc_q_run_2 x1 x2 p) (lastK ttT.get fi139 ⟨[.str, (.int .i64)], [(false, (.int .i64))], g⟩) = R_q_run_2 lf x1 x2 (fun q => J 2 [m1] (enc_q_run_2 x1 x2 q)) p := by kernel_rfl
theorem nd_q_run : (regs fi139.body).Nodup := by decide +kernel
theorem ok_q_run : okC nm_q_run st_q_run hd_q_run fi139.body none = true := by kernel_rfl
def A_q_run (g : ElA [.str, (.int .i64)] → Option Rt_q_run) (lf : Nat) : Nat → List Nat → NRes → Option Rt_q_run := atN Tryz.prog ttT.get nm_q_run fi139 ⟨[.str, (.int .i64)], [(false, (.int .i64))], g⟩ (cl_q_run _ lf) lf hd_q_run
def G_q_run_2 (lf : Nat) (x1 : ByteArray) (x2 : Int) : Nat → (Int) → Option Rt_q_run := rounds fun K p => R_q_run_2 lf x1 x2 K p
theorem at_q_run_2 (g : ElA [.str, (.int .i64)] → Option Rt_q_run) (lf : Nat) (x1 : ByteArray) (x2 : Int) : ∀ (n : Nat) (p : Int), A_q_run g lf 2 [n] (enc_q_run_2 x1 x2 p) = G_q_run_2 lf x1 x2 n p
  | 0, p => atN_zero 2 [0] rfl _
  | n + 1, p => by
    have ih := at_q_run_2 g lf x1 x2 n
    refine (atN_eq (icallK_eq 20 _) nd_q_run ok_q_run 2 [n + 1] [n] rfl _).trans ((st_q_run_2 g (A_q_run g lf) lf x1 x2 n p).trans ?_)
    rw [(show (fun q => A_q_run g lf 2 [n] (enc_q_run_2 x1 x2 q)) = (fun q => G_q_run_2 lf x1 x2 n q) from funext ih)]
    rfl
def F_q_run (lf : Nat) (x1 : ByteArray) (x2 : Int) : Option Rt_q_run := R_q_run_in lf x1 x2 (fun q => G_q_run_2 lf x1 x2 lf q)
theorem run_q_run (g : ElA [.str, (.int .i64)] → Option Rt_q_run) (lf : Nat) (x1 : ByteArray) (x2 : Int) : icodeT Tryz.prog ttT.get nm_q_run fi139.nt (cl_q_run _ lf) lf st_q_run (A_q_run g lf) fi139.body [] (argGo (argV [.str, (.int .i64)] (x1, x2, ())) 0 .leaf) S0 [] (lastK ttT.get fi139 ⟨[.str, (.int .i64)], [(false, (.int .i64))], g⟩) = F_q_run lf x1 x2 := by
    refine (in_q_run g (A_q_run g lf) lf x1 x2).trans ?_
    rw [(show (fun q => A_q_run g lf 2 [lf] (enc_q_run_2 x1 x2 q)) = (fun q => G_q_run_2 lf x1 x2 lf q) from funext fun q => at_q_run_2 g lf x1 x2 lf q)]
    rfl
theorem hxs_q_run : HxsOK Tryz.prog hxl_q_run := trivial
theorem mk_q_run {g : ElA [.str, (.int .i64)] → Option Rt_q_run} (hsm : SmOK Tryz.prog sml_q_run) (hg : ∀ (x : ElA [.str, (.int .i64)]) (y : Rt_q_run), WfA [.str, (.int .i64)] x → g x = some y → ∃ lf, F_q_run lf x.1 x.2.1 = some y) : Con Tryz.prog 139 ⟨[.str, (.int .i64)], [(false, (.int .i64))], g⟩ :=
  conT (nmf := nm_q_run) (sml := sml_q_run) (hxl := hxl_q_run) (st := st_q_run) (hd := hd_q_run) 20 mixed ttOK ftOK hsm hxs_q_run cal139 rfl rfl (by kernel_rfl) (fun x => by kernel_rfl) nd_q_run ok_q_run fun x y hx hy => by
    obtain ⟨lf, h⟩ := hg x y hx hy
    exact ⟨lf, (run_q_run g lf x.1 x.2.1).trans h⟩
def nm_q_number : Nat → Option Nm := fun k => cond (Nat.beq k 2) (some ⟨[0, 2, 3], [], [], [], [], 0, 0, false⟩) (cond (Nat.beq k 10) (some ⟨[0, 2, 4, 5], [], [], [], [], 0, 0, false⟩) (none))
def st_q_number : Nat → Bool := fun k => cond (Nat.beq k 2) true (cond (Nat.beq k 10) true (false))
def hd_q_number : Nat → Bool := fun k => cond (Nat.beq k 2) true (cond (Nat.beq k 10) true (false))
abbrev Rt_q_number : Type := DR1Numbered × Unit
def sml_q_number : List (Nat × Sm) := []
def hxl_q_number : List (Nat × Hx) := []
def cl_q_number (R : Type) (lf : Nat) : ClK R := icallK Tryz.prog ttT.get ftT.get (nm1 141 nm_q_number) (smL sml_q_number) (hxL hxl_q_number) lf 20 R
abbrev id_q_number : Nat := 141
def enc_q_number_2 (x1 : ByteArray) (p : Int) : NRes := (NRes.mk (PT.node (some (IV.str x1)) (PT.node none (PT.node (some (IV.int Go.IntKind.i64 p)) PT.leaf PT.leaf) PT.leaf) (PT.node (some (IV.ptr 0 0)) PT.leaf PT.leaf)) (IS.mk (PT.node (some (IObj.row (List.cons (IV.int Go.IntKind.i64 (Int.ofNat 0)) (List.cons (IV.int Go.IntKind.i64 (Int.ofNat 0)) [])))) PT.leaf PT.leaf) 1) [] 0)
def enc_q_number_10 (x1 : ByteArray) (p : Int × Int) : NRes := (NRes.mk (PT.node (some (IV.str x1)) (PT.node none PT.leaf (PT.node (some (IV.int Go.IntKind.i64 p.1)) PT.leaf PT.leaf)) (PT.node (some (IV.ptr 0 0)) (PT.node (some (IV.int Go.IntKind.i64 p.2)) PT.leaf PT.leaf) PT.leaf)) (IS.mk (PT.node (some (IObj.row (List.cons (IV.int Go.IntKind.i64 (Int.ofNat 0)) (List.cons (IV.int Go.IntKind.i64 (Int.ofNat 0)) [])))) PT.leaf PT.leaf) 1) [] 0)
def R_q_number_in (lf : Nat) (x1 : ByteArray) (L2 : Int → Option Rt_q_number) : Option Rt_q_number := (L2 (Int.ofNat 0))
def R_q_number_2 (lf : Nat) (x1 : ByteArray) (L2 : Int → Option Rt_q_number) (L10 : (Int × Int) → Option Rt_q_number) (p : Int) : Option Rt_q_number := (cond (iltI p (Int.ofNat (ByteArray.size x1))) (match (jget (byteList x1) p) with | .none  => none | .some v0 => (cond (Bool.not (iltI v0 (Int.ofNat 48))) (cond (Bool.not (Bool.not (iltI (Int.ofNat 57) v0))) (some (((Int.ofNat 0), (Int.ofNat 2)), ())) (L2 (Go.IntKind.wrap Go.IntKind.i64 (Int.add p (Int.ofNat 1))))) (some (((Int.ofNat 0), (Int.ofNat 2)), ())))) (match (jget (byteList x1) (Int.ofNat 0)) with | .none  => none | .some v24 => (cond (ieqI v24 (Int.ofNat 48)) (cond (iltI (Int.ofNat 1) (Int.ofNat (ByteArray.size x1))) (some (((Int.ofNat 0), (Int.ofNat 2)), ())) (L10 ((Int.ofNat 0), (Int.ofNat 0)))) (L10 ((Int.ofNat 0), (Int.ofNat 0))))))
def R_q_number_10 (lf : Nat) (x1 : ByteArray) (L10 : (Int × Int) → Option Rt_q_number) (p : Int × Int) : Option Rt_q_number := (cond (iltI p.1 (Int.ofNat (ByteArray.size x1))) (match (jget (byteList x1) p.1) with | .none  => none | .some v0 => (cond (iltI (Int.ofNat 1099511627776) (Go.IntKind.wrap Go.IntKind.i64 (Int.sub (Go.IntKind.wrap Go.IntKind.i64 (Int.add (Go.IntKind.wrap Go.IntKind.i64 (Int.mul (Int.ofNat 10) p.2)) (Go.IntKind.wrap Go.IntKind.i64 v0))) (Int.ofNat 48)))) (some (((Int.ofNat 0), (Int.ofNat 3)), ())) (L10 ((Go.IntKind.wrap Go.IntKind.i64 (Int.add p.1 (Int.ofNat 1))), (Go.IntKind.wrap Go.IntKind.i64 (Int.sub (Go.IntKind.wrap Go.IntKind.i64 (Int.add (Go.IntKind.wrap Go.IntKind.i64 (Int.mul (Int.ofNat 10) p.2)) (Go.IntKind.wrap Go.IntKind.i64 v0))) (Int.ofNat 48))))))) (some ((p.2, (Int.ofNat 0)), ())))
theorem in_q_number (g : ElA [.str] → Option Rt_q_number) (J : Nat → List Nat → NRes → Option Rt_q_number) (lf : Nat) (x1 : ByteArray) : icodeT Tryz.prog ttT.get nm_q_number fi141.nt (cl_q_number _ lf) lf st_q_number J fi141.body [] (argGo (argV [.str] (x1, ())) 0 .leaf) S0 [] (lastK ttT.get fi141 ⟨[.str], [(false, cR1Numbered)], g⟩) = R_q_number_in lf x1 (fun q => J 2 [lf] (enc_q_number_2 x1 q)) := by kernel_rfl
theorem st_q_number_2 (g : ElA [.str] → Option Rt_q_number) (J : Nat → List Nat → NRes → Option Rt_q_number) (lf : Nat) (x1 : ByteArray) (m1 : Nat) (p : Int) : icodeFT Tryz.prog ttT.get nm_q_number fi141.nt (cl_q_number _ lf) lf st_q_number J 2 fi141.body [] [m1] (enc_q_number_2 x1 p) (lastK ttT.get fi141 ⟨[.str], [(false, cR1Numbered)], g⟩) = R_q_number_2 lf x1 (fun q => J 2 [m1] (enc_q_number_2 x1 q)) (fun q => J 10 [lf] (enc_q_number_10 x1 q)) p := by kernel_rfl
theorem st_q_number_10 (g : ElA [.str] → Option Rt_q_number) (J : Nat → List Nat → NRes → Option Rt_q_number) (lf : Nat) (x1 : ByteArray) (m1 : Nat) (p : Int × Int) : icodeFT Tryz.prog ttT.get nm_q_number fi141.nt (cl_q_number _ lf) lf st_q_number J 10 fi141.body [] [m1] (enc_q_number_10 x1 p) (lastK ttT.get fi141 ⟨[.str], [(false, cR1Numbered)], g⟩) = R_q_number_10 lf x1 (fun q => J 10 [m1] (enc_q_number_10 x1 q)) p := by kernel_rfl
theorem nd_q_number : (regs fi141.body).Nodup := by decide +kernel
theorem ok_q_number : okC nm_q_number st_q_number hd_q_number fi141.body none = true := by kernel_rfl
def A_q_number (g : ElA [.str] → Option Rt_q_number) (lf : Nat) : Nat → List Nat → NRes → Option Rt_q_number := atN Tryz.prog ttT.get nm_q_number fi141 ⟨[.str], [(false, cR1Numbered)], g⟩ (cl_q_number _ lf) lf hd_q_number
def G_q_number_10 (lf : Nat) (x1 : ByteArray) : Nat → (Int × Int) → Option Rt_q_number := rounds fun K p => R_q_number_10 lf x1 K p
theorem at_q_number_10 (g : ElA [.str] → Option Rt_q_number) (lf : Nat) (x1 : ByteArray) : ∀ (n : Nat) (p : Int × Int), A_q_number g lf 10 [n] (enc_q_number_10 x1 p) = G_q_number_10 lf x1 n p
  | 0, p => atN_zero 10 [0] rfl _
  | n + 1, p => by
    have ih := at_q_number_10 g lf x1 n
    refine (atN_eq (icallK_eq 20 _) nd_q_number ok_q_number 10 [n + 1] [n] rfl _).trans ((st_q_number_10 g (A_q_number g lf) lf x1 n p).trans ?_)
    rw [(show (fun q => A_q_number g lf 10 [n] (enc_q_number_10 x1 q)) = (fun q => G_q_number_10 lf x1 n q) from funext ih)]
    rfl
def G_q_number_2 (lf : Nat) (x1 : ByteArray) : Nat → (Int) → Option Rt_q_number := rounds fun K p => R_q_number_2 lf x1 K (fun q => G_q_number_10 lf x1 lf q) p
theorem at_q_number_2 (g : ElA [.str] → Option Rt_q_number) (lf : Nat) (x1 : ByteArray) : ∀ (n : Nat) (p : Int), A_q_number g lf 2 [n] (enc_q_number_2 x1 p) = G_q_number_2 lf x1 n p
  | 0, p => atN_zero 2 [0] rfl _
  | n + 1, p => by
    have ih := at_q_number_2 g lf x1 n
    refine (atN_eq (icallK_eq 20 _) nd_q_number ok_q_number 2 [n + 1] [n] rfl _).trans ((st_q_number_2 g (A_q_number g lf) lf x1 n p).trans ?_)
    rw [(show (fun q => A_q_number g lf 10 [lf] (enc_q_number_10 x1 q)) = (fun q => G_q_number_10 lf x1 lf q) from funext fun q => at_q_number_10 g lf x1 lf q), (show (fun q => A_q_number g lf 2 [n] (enc_q_number_2 x1 q)) = (fun q => G_q_number_2 lf x1 n q) from funext ih)]
    rfl
def F_q_number (lf : Nat) (x1 : ByteArray) : Option Rt_q_number := R_q_number_in lf x1 (fun q => G_q_number_2 lf x1 lf q)
theorem run_q_number (g : ElA [.str] → Option Rt_q_number) (lf : Nat) (x1 : ByteArray) : icodeT Tryz.prog ttT.get nm_q_number fi141.nt (cl_q_number _ lf) lf st_q_number (A_q_number g lf) fi141.body [] (argGo (argV [.str] (x1, ())) 0 .leaf) S0 [] (lastK ttT.get fi141 ⟨[.str], [(false, cR1Numbered)], g⟩) = F_q_number lf x1 := by
    refine (in_q_number g (A_q_number g lf) lf x1).trans ?_
    rw [(show (fun q => A_q_number g lf 2 [lf] (enc_q_number_2 x1 q)) = (fun q => G_q_number_2 lf x1 lf q) from funext fun q => at_q_number_2 g lf x1 lf q)]
    rfl
theorem hxs_q_number : HxsOK Tryz.prog hxl_q_number := trivial
theorem mk_q_number {g : ElA [.str] → Option Rt_q_number} (hsm : SmOK Tryz.prog sml_q_number) (hg : ∀ (x : ElA [.str]) (y : Rt_q_number), WfA [.str] x → g x = some y → ∃ lf, F_q_number lf x.1 = some y) : Con Tryz.prog 141 ⟨[.str], [(false, cR1Numbered)], g⟩ :=
  conT (nmf := nm_q_number) (sml := sml_q_number) (hxl := hxl_q_number) (st := st_q_number) (hd := hd_q_number) 20 mixed ttOK ftOK hsm hxs_q_number cal141 rfl rfl (by kernel_rfl) (fun x => by kernel_rfl) nd_q_number ok_q_number fun x y hx hy => by
    obtain ⟨lf, h⟩ := hg x y hx hy
    exact ⟨lf, (run_q_number g lf x.1).trans h⟩
def nm_q_word : Nat → Option Nm := fun k => cond (Nat.beq k 8) (some ⟨[0, 2, 3, 4, 5], [], [], [], [], 0, 0, false⟩) (none)
def st_q_word : Nat → Bool := fun k => cond (Nat.beq k 8) true (false)
def hd_q_word : Nat → Bool := fun k => cond (Nat.beq k 8) true (false)
abbrev Rt_q_word : Type := DR1Kinded × Unit
def sml_q_word : List (Nat × Sm) := [(137, sp_q_has)]
def hxl_q_word : List (Nat × Hx) := []
def cl_q_word (R : Type) (lf : Nat) : ClK R := icallK Tryz.prog ttT.get ftT.get (nm1 142 nm_q_word) (smL sml_q_word) (hxL hxl_q_word) lf 20 R
abbrev id_q_word : Nat := 142
def enc_q_word_8 (x1 : ByteArray) (p : Int × Bool × Bool) : NRes := (NRes.mk (PT.node (some (IV.str x1)) (PT.node none (PT.node (some (IV.bool p.2.2)) PT.leaf PT.leaf) (PT.node (some (IV.int Go.IntKind.i64 p.1)) PT.leaf PT.leaf)) (PT.node (some (IV.ptr 0 0)) (PT.node (some (IV.bool p.2.1)) PT.leaf PT.leaf) PT.leaf)) (IS.mk (PT.node (some (IObj.row (List.cons (IV.int Go.IntKind.i64 (Int.ofNat 0)) (List.cons (IV.int Go.IntKind.i64 (Int.ofNat 0)) [])))) PT.leaf PT.leaf) 1) [] 0)
def R_q_word_in (lf : Nat) (x1 : ByteArray) (L8 : (Int × Bool × Bool) → Option Rt_q_word) : Option Rt_q_word := (cond (Go.Proofs.YtcnhjofpmpipfaaGreat.S.has (List.cons (S.lit [97, 110, 100]) (List.cons (S.lit [97, 115]) (List.cons (S.lit [97, 116, 116, 97, 99, 104, 101, 100]) (List.cons (S.lit [99, 104, 101, 99, 107]) (List.cons (S.lit [99, 108, 97, 115, 115]) (List.cons (S.lit [99, 114, 101, 97, 116, 101]) (List.cons (S.lit [100, 101, 102, 101, 114, 114, 101, 100]) (List.cons (S.lit [100, 101, 116, 97, 99, 104, 97, 98, 108, 101]) (List.cons (S.lit [100, 111]) (List.cons (S.lit [101, 108, 115, 101]) (List.cons (S.lit [101, 110, 100]) (List.cons (S.lit [101, 110, 115, 117, 114, 101]) (List.cons (S.lit [102, 101, 97, 116, 117, 114, 101]) (List.cons (S.lit [102, 114, 111, 109]) (List.cons (S.lit [105, 102]) (List.cons (S.lit [105, 109, 112, 108, 105, 101, 115]) (List.cons (S.lit [105, 110, 104, 101, 114, 105, 116]) (List.cons (S.lit [105, 110, 118, 97, 114, 105, 97, 110, 116]) (List.cons (S.lit [108, 111, 99, 97, 108]) (List.cons (S.lit [108, 111, 111, 112]) (List.cons (S.lit [110, 111, 116]) (List.cons (S.lit [111, 108, 100]) (List.cons (S.lit [111, 114]) (List.cons (S.lit [112, 117, 116]) (List.cons (S.lit [114, 97, 105, 115, 101]) (List.cons (S.lit [114, 101, 100, 101, 102, 105, 110, 101]) (List.cons (S.lit [114, 101, 110, 97, 109, 101]) (List.cons (S.lit [114, 101, 113, 117, 105, 114, 101]) (List.cons (S.lit [114, 101, 115, 99, 117, 101]) (List.cons (S.lit [114, 101, 116, 114, 121]) (List.cons (S.lit [115, 101, 108, 101, 99, 116]) (List.cons (S.lit [115, 101, 112, 97, 114, 97, 116, 101]) (List.cons (S.lit [116, 104, 101, 110]) (List.cons (S.lit [117, 110, 100, 101, 102, 105, 110, 101]) (List.cons (S.lit [117, 110, 116, 105, 108]) (List.cons (S.lit [118, 97, 114, 105, 97, 110, 116]) (List.cons (S.lit [119, 104, 101, 110]) []))))))))))))))))))))))))))))))))))))) x1) (some (((Int.ofNat 3), (Int.ofNat 0)), ())) (cond (Go.Proofs.YtcnhjofpmpipfaaGreat.S.has (List.cons (S.lit [84, 114, 117, 101]) (List.cons (S.lit [70, 97, 108, 115, 101]) (List.cons (S.lit [86, 111, 105, 100]) (List.cons (S.lit [67, 117, 114, 114, 101, 110, 116]) (List.cons (S.lit [82, 101, 115, 117, 108, 116]) []))))) x1) (some (((Int.ofNat 3), (Int.ofNat 0)), ())) (cond (Go.Proofs.YtcnhjofpmpipfaaGreat.S.has (List.cons (S.lit [116, 114, 117, 101]) (List.cons (S.lit [102, 97, 108, 115, 101]) (List.cons (S.lit [118, 111, 105, 100]) (List.cons (S.lit [99, 117, 114, 114, 101, 110, 116]) (List.cons (S.lit [114, 101, 115, 117, 108, 116]) []))))) x1) (some (((Int.ofNat 0), (Int.ofNat 4)), ())) (L8 ((Int.ofNat 0), Bool.false, Bool.false)))))
def R_q_word_8 (lf : Nat) (x1 : ByteArray) (L8 : (Int × Bool × Bool) → Option Rt_q_word) (p : Int × Bool × Bool) : Option Rt_q_word := (cond (iltI p.1 (Int.ofNat (ByteArray.size x1))) (cond p.2.2 (cond p.2.1 (L8 ((Go.IntKind.wrap Go.IntKind.i64 (Int.add p.1 (Int.ofNat 1))), Bool.true, Bool.true)) (match (jget (byteList x1) p.1) with | .none  => none | .some v23 => (cond (Bool.not (iltI v23 (Int.ofNat 65))) (L8 ((Go.IntKind.wrap Go.IntKind.i64 (Int.add p.1 (Int.ofNat 1))), (Bool.not (iltI (Int.ofNat 90) v23)), Bool.true)) (L8 ((Go.IntKind.wrap Go.IntKind.i64 (Int.add p.1 (Int.ofNat 1))), Bool.false, Bool.true))))) (match (jget (byteList x1) p.1) with | .none  => none | .some v27 => (cond (Bool.not (iltI v27 (Int.ofNat 97))) (cond p.2.1 (L8 ((Go.IntKind.wrap Go.IntKind.i64 (Int.add p.1 (Int.ofNat 1))), Bool.true, (Bool.not (iltI (Int.ofNat 122) v27)))) (match (jget (byteList x1) p.1) with | .none  => none | .some v31 => (cond (Bool.not (iltI v31 (Int.ofNat 65))) (L8 ((Go.IntKind.wrap Go.IntKind.i64 (Int.add p.1 (Int.ofNat 1))), (Bool.not (iltI (Int.ofNat 90) v31)), (Bool.not (iltI (Int.ofNat 122) v27)))) (L8 ((Go.IntKind.wrap Go.IntKind.i64 (Int.add p.1 (Int.ofNat 1))), Bool.false, (Bool.not (iltI (Int.ofNat 122) v27))))))) (cond p.2.1 (L8 ((Go.IntKind.wrap Go.IntKind.i64 (Int.add p.1 (Int.ofNat 1))), Bool.true, Bool.false)) (match (jget (byteList x1) p.1) with | .none  => none | .some v35 => (cond (Bool.not (iltI v35 (Int.ofNat 65))) (L8 ((Go.IntKind.wrap Go.IntKind.i64 (Int.add p.1 (Int.ofNat 1))), (Bool.not (iltI (Int.ofNat 90) v35)), Bool.false)) (L8 ((Go.IntKind.wrap Go.IntKind.i64 (Int.add p.1 (Int.ofNat 1))), Bool.false, Bool.false)))))))) (cond p.2.2 (cond p.2.1 (some (((Int.ofNat 0), (Int.ofNat 2)), ())) (cond (iltI (Int.ofNat 20) (Int.ofNat (ByteArray.size x1))) (some (((Int.ofNat 0), (Int.ofNat 3)), ())) (cond p.2.2 (some (((Int.ofNat 1), (Int.ofNat 0)), ())) (some (((Int.ofNat 2), (Int.ofNat 0)), ()))))) (cond (iltI (Int.ofNat 20) (Int.ofNat (ByteArray.size x1))) (some (((Int.ofNat 0), (Int.ofNat 3)), ())) (cond p.2.2 (some (((Int.ofNat 1), (Int.ofNat 0)), ())) (some (((Int.ofNat 2), (Int.ofNat 0)), ()))))))
theorem in_q_word (g : ElA [.str] → Option Rt_q_word) (J : Nat → List Nat → NRes → Option Rt_q_word) (lf : Nat) (x1 : ByteArray) : icodeT Tryz.prog ttT.get nm_q_word fi142.nt (cl_q_word _ lf) lf st_q_word J fi142.body [] (argGo (argV [.str] (x1, ())) 0 .leaf) S0 [] (lastK ttT.get fi142 ⟨[.str], [(false, cR1Kinded)], g⟩) = R_q_word_in lf x1 (fun q => J 8 [lf] (enc_q_word_8 x1 q)) := by kernel_rfl
theorem st_q_word_8 (g : ElA [.str] → Option Rt_q_word) (J : Nat → List Nat → NRes → Option Rt_q_word) (lf : Nat) (x1 : ByteArray) (m1 : Nat) (p : Int × Bool × Bool) : icodeFT Tryz.prog ttT.get nm_q_word fi142.nt (cl_q_word _ lf) lf st_q_word J 8 fi142.body [] [m1] (enc_q_word_8 x1 p) (lastK ttT.get fi142 ⟨[.str], [(false, cR1Kinded)], g⟩) = R_q_word_8 lf x1 (fun q => J 8 [m1] (enc_q_word_8 x1 q)) p := by kernel_rfl
theorem nd_q_word : (regs fi142.body).Nodup := by decide +kernel
theorem ok_q_word : okC nm_q_word st_q_word hd_q_word fi142.body none = true := by kernel_rfl
def A_q_word (g : ElA [.str] → Option Rt_q_word) (lf : Nat) : Nat → List Nat → NRes → Option Rt_q_word := atN Tryz.prog ttT.get nm_q_word fi142 ⟨[.str], [(false, cR1Kinded)], g⟩ (cl_q_word _ lf) lf hd_q_word
def G_q_word_8 (lf : Nat) (x1 : ByteArray) : Nat → (Int × Bool × Bool) → Option Rt_q_word := rounds fun K p => R_q_word_8 lf x1 K p
theorem at_q_word_8 (g : ElA [.str] → Option Rt_q_word) (lf : Nat) (x1 : ByteArray) : ∀ (n : Nat) (p : Int × Bool × Bool), A_q_word g lf 8 [n] (enc_q_word_8 x1 p) = G_q_word_8 lf x1 n p
  | 0, p => atN_zero 8 [0] rfl _
  | n + 1, p => by
    have ih := at_q_word_8 g lf x1 n
    refine (atN_eq (icallK_eq 20 _) nd_q_word ok_q_word 8 [n + 1] [n] rfl _).trans ((st_q_word_8 g (A_q_word g lf) lf x1 n p).trans ?_)
    rw [(show (fun q => A_q_word g lf 8 [n] (enc_q_word_8 x1 q)) = (fun q => G_q_word_8 lf x1 n q) from funext ih)]
    rfl
def F_q_word (lf : Nat) (x1 : ByteArray) : Option Rt_q_word := R_q_word_in lf x1 (fun q => G_q_word_8 lf x1 lf q)
theorem run_q_word (g : ElA [.str] → Option Rt_q_word) (lf : Nat) (x1 : ByteArray) : icodeT Tryz.prog ttT.get nm_q_word fi142.nt (cl_q_word _ lf) lf st_q_word (A_q_word g lf) fi142.body [] (argGo (argV [.str] (x1, ())) 0 .leaf) S0 [] (lastK ttT.get fi142 ⟨[.str], [(false, cR1Kinded)], g⟩) = F_q_word lf x1 := by
    refine (in_q_word g (A_q_word g lf) lf x1).trans ?_
    rw [(show (fun q => A_q_word g lf 8 [lf] (enc_q_word_8 x1 q)) = (fun q => G_q_word_8 lf x1 lf q) from funext fun q => at_q_word_8 g lf x1 lf q)]
    rfl
theorem hxs_q_word : HxsOK Tryz.prog hxl_q_word := trivial
theorem mk_q_word {g : ElA [.str] → Option Rt_q_word} (hsm : SmOK Tryz.prog sml_q_word) (hg : ∀ (x : ElA [.str]) (y : Rt_q_word), WfA [.str] x → g x = some y → ∃ lf, F_q_word lf x.1 = some y) : Con Tryz.prog 142 ⟨[.str], [(false, cR1Kinded)], g⟩ :=
  conT (nmf := nm_q_word) (sml := sml_q_word) (hxl := hxl_q_word) (st := st_q_word) (hd := hd_q_word) 20 mixed ttOK ftOK hsm hxs_q_word cal142 rfl rfl (by kernel_rfl) (fun x => by kernel_rfl) nd_q_word ok_q_word fun x y hx hy => by
    obtain ⟨lf, h⟩ := hg x y hx hy
    exact ⟨lf, (run_q_word g lf x.1).trans h⟩
def nm_q_Shape : Nat → Option Nm := fun k => none
def st_q_Shape : Nat → Bool := fun k => false
def hd_q_Shape : Nat → Bool := fun k => false
abbrev Rt_q_Shape : Type := DR1Kinded × Unit
def sml_q_Shape : List (Nat × Sm) := [(137, sp_q_has), (139, sp_q_run), (141, sp_q_number), (142, sp_q_word)]
def hxl_q_Shape : List (Nat × Hx) := []
def cl_q_Shape (R : Type) (lf : Nat) : ClK R := icallK Tryz.prog ttT.get ftT.get (nm1 124 nm_q_Shape) (smL sml_q_Shape) (hxL hxl_q_Shape) lf 20 R
abbrev id_q_Shape : Nat := 124
def R_q_Shape_in (lf : Nat) (x1 : ByteArray) : Option Rt_q_Shape := (cond (Go.Proofs.YtcnhjofpmpipfaaGreat.S.has (List.cons (S.lit [58, 61]) (List.cons (S.lit [47, 61]) (List.cons (S.lit [60, 61]) (List.cons (S.lit [62, 61]) (List.cons (S.lit [47, 47]) (List.cons (S.lit [61]) (List.cons (S.lit [60]) (List.cons (S.lit [62]) (List.cons (S.lit [43]) (List.cons (S.lit [45]) (List.cons (S.lit [42]) (List.cons (S.lit [37]) (List.cons (S.lit [40]) (List.cons (S.lit [41]) (List.cons (S.lit [91]) (List.cons (S.lit [93]) (List.cons (S.lit [123]) (List.cons (S.lit [125]) (List.cons (S.lit [44]) (List.cons (S.lit [59]) (List.cons (S.lit [58]) (List.cons (S.lit [46]) [])))))))))))))))))))))) x1) (some (((Int.ofNat 5), (Int.ofNat 0)), ())) (cond (ieqI (Int.ofNat (ByteArray.size x1)) (Int.ofNat 0)) (some (((Int.ofNat 0), (Int.ofNat 2)), ())) (cond (iltI (Go.Proofs.YtcnhjofpmpipfaaGreat.S.run0 x1) (Int.ofNat (ByteArray.size x1))) (some (((Int.ofNat 0), (Int.ofNat 2)), ())) (match (jget (byteList x1) (Int.ofNat 0)) with | .none  => none | .some v0 => (cond (ieqI v0 (Int.ofNat 95)) (some (((Int.ofNat 0), (Int.ofNat 2)), ())) (match (jget (byteList x1) (Int.ofNat 0)) with | .none  => none | .some v1 => (cond (Bool.not (iltI v1 (Int.ofNat 48))) (cond (Bool.not (iltI (Int.ofNat 57) v1)) (match (cond (Nat.ble 1 (ByteArray.size x1)) (some ((Go.Proofs.YtcnhjofpmpipfaaGreat.S.number x1), ())) none) with | .none  => none | .some v2 => (cond (Bool.not (ieqI v2.1.2 (Int.ofNat 0))) (some (((Int.ofNat 0), v2.1.2), ())) (some (((Int.ofNat 4), (Int.ofNat 0)), ())))) (some (((Go.Proofs.YtcnhjofpmpipfaaGreat.S.word x1).1, (Go.Proofs.YtcnhjofpmpipfaaGreat.S.word x1).2), ()))) (some (((Go.Proofs.YtcnhjofpmpipfaaGreat.S.word x1).1, (Go.Proofs.YtcnhjofpmpipfaaGreat.S.word x1).2), ())))))))))
theorem in_q_Shape (g : ElA [.str] → Option Rt_q_Shape) (J : Nat → List Nat → NRes → Option Rt_q_Shape) (lf : Nat) (x1 : ByteArray) : icodeT Tryz.prog ttT.get nm_q_Shape fi124.nt (cl_q_Shape _ lf) lf st_q_Shape J fi124.body [] (argGo (argV [.str] (x1, ())) 0 .leaf) S0 [] (lastK ttT.get fi124 ⟨[.str], [(false, cR1Kinded)], g⟩) = R_q_Shape_in lf x1 := by kernel_rfl
theorem nd_q_Shape : (regs fi124.body).Nodup := by decide +kernel
theorem ok_q_Shape : okC nm_q_Shape st_q_Shape hd_q_Shape fi124.body none = true := by kernel_rfl
def A_q_Shape (g : ElA [.str] → Option Rt_q_Shape) (lf : Nat) : Nat → List Nat → NRes → Option Rt_q_Shape := atN Tryz.prog ttT.get nm_q_Shape fi124 ⟨[.str], [(false, cR1Kinded)], g⟩ (cl_q_Shape _ lf) lf hd_q_Shape
def F_q_Shape (lf : Nat) (x1 : ByteArray) : Option Rt_q_Shape := R_q_Shape_in lf x1
theorem run_q_Shape (g : ElA [.str] → Option Rt_q_Shape) (lf : Nat) (x1 : ByteArray) : icodeT Tryz.prog ttT.get nm_q_Shape fi124.nt (cl_q_Shape _ lf) lf st_q_Shape (A_q_Shape g lf) fi124.body [] (argGo (argV [.str] (x1, ())) 0 .leaf) S0 [] (lastK ttT.get fi124 ⟨[.str], [(false, cR1Kinded)], g⟩) = F_q_Shape lf x1 := by
    refine (in_q_Shape g (A_q_Shape g lf) lf x1).trans ?_
    rfl
theorem hxs_q_Shape : HxsOK Tryz.prog hxl_q_Shape := trivial
theorem mk_q_Shape {g : ElA [.str] → Option Rt_q_Shape} (hsm : SmOK Tryz.prog sml_q_Shape) (hg : ∀ (x : ElA [.str]) (y : Rt_q_Shape), WfA [.str] x → g x = some y → ∃ lf, F_q_Shape lf x.1 = some y) : Con Tryz.prog 124 ⟨[.str], [(false, cR1Kinded)], g⟩ :=
  conT (nmf := nm_q_Shape) (sml := sml_q_Shape) (hxl := hxl_q_Shape) (st := st_q_Shape) (hd := hd_q_Shape) 20 mixed ttOK ftOK hsm hxs_q_Shape cal124 rfl rfl (by kernel_rfl) (fun x => by kernel_rfl) nd_q_Shape ok_q_Shape fun x y hx hy => by
    obtain ⟨lf, h⟩ := hg x y hx hy
    exact ⟨lf, (run_q_Shape g lf x.1).trans h⟩
def nm_r_classed : Nat → Option Nm := fun k => none
def st_r_classed : Nat → Bool := fun k => false
def hd_r_classed : Nat → Bool := fun k => false
abbrev Rt_r_classed : Type := Bool × Unit
def sml_r_classed : List (Nat × Sm) := [(124, sp_q_Shape)]
def hxl_r_classed : List (Nat × Hx) := []
def cl_r_classed (R : Type) (lf : Nat) : ClK R := icallK Tryz.prog ttT.get ftT.get (nm1 92 nm_r_classed) (smL sml_r_classed) (hxL hxl_r_classed) lf 20 R
abbrev id_r_classed : Nat := 92
def R_r_classed_in (lf : Nat) (x1 : ByteArray) : Option Rt_r_classed := (cond (ieqI (Go.Proofs.YtcnhjofpmpipfaaGreat.S.shape x1).2 (Int.ofNat 0)) (cond (ieqI (Go.Proofs.YtcnhjofpmpipfaaGreat.S.shape x1).1 (Int.ofNat 2)) (cond (Bool.not (keqS x1 (S.lit [73, 78, 84, 69, 71, 69, 82]))) (cond (Bool.not (keqS x1 (S.lit [66, 79, 79, 76, 69, 65, 78]))) (cond (Bool.not (keqS x1 (S.lit [65, 78, 89]))) (some ((Bool.not (keqS x1 (S.lit [78, 79, 78, 69]))), ())) (some (Bool.false, ()))) (some (Bool.false, ()))) (some (Bool.false, ()))) (some (Bool.false, ()))) (some (Bool.false, ())))
theorem in_r_classed (g : ElA [.str] → Option Rt_r_classed) (J : Nat → List Nat → NRes → Option Rt_r_classed) (lf : Nat) (x1 : ByteArray) : icodeT Tryz.prog ttT.get nm_r_classed fi92.nt (cl_r_classed _ lf) lf st_r_classed J fi92.body [] (argGo (argV [.str] (x1, ())) 0 .leaf) S0 [] (lastK ttT.get fi92 ⟨[.str], [(false, .bool)], g⟩) = R_r_classed_in lf x1 := by kernel_rfl
theorem nd_r_classed : (regs fi92.body).Nodup := by decide +kernel
theorem ok_r_classed : okC nm_r_classed st_r_classed hd_r_classed fi92.body none = true := by kernel_rfl
def A_r_classed (g : ElA [.str] → Option Rt_r_classed) (lf : Nat) : Nat → List Nat → NRes → Option Rt_r_classed := atN Tryz.prog ttT.get nm_r_classed fi92 ⟨[.str], [(false, .bool)], g⟩ (cl_r_classed _ lf) lf hd_r_classed
def F_r_classed (lf : Nat) (x1 : ByteArray) : Option Rt_r_classed := R_r_classed_in lf x1
theorem run_r_classed (g : ElA [.str] → Option Rt_r_classed) (lf : Nat) (x1 : ByteArray) : icodeT Tryz.prog ttT.get nm_r_classed fi92.nt (cl_r_classed _ lf) lf st_r_classed (A_r_classed g lf) fi92.body [] (argGo (argV [.str] (x1, ())) 0 .leaf) S0 [] (lastK ttT.get fi92 ⟨[.str], [(false, .bool)], g⟩) = F_r_classed lf x1 := by
    refine (in_r_classed g (A_r_classed g lf) lf x1).trans ?_
    rfl
theorem hxs_r_classed : HxsOK Tryz.prog hxl_r_classed := trivial
theorem mk_r_classed {g : ElA [.str] → Option Rt_r_classed} (hsm : SmOK Tryz.prog sml_r_classed) (hg : ∀ (x : ElA [.str]) (y : Rt_r_classed), WfA [.str] x → g x = some y → ∃ lf, F_r_classed lf x.1 = some y) : Con Tryz.prog 92 ⟨[.str], [(false, .bool)], g⟩ :=
  conT (nmf := nm_r_classed) (sml := sml_r_classed) (hxl := hxl_r_classed) (st := st_r_classed) (hd := hd_r_classed) 20 mixed ttOK ftOK hsm hxs_r_classed cal92 rfl rfl (by kernel_rfl) (fun x => by kernel_rfl) nd_r_classed ok_r_classed fun x y hx hy => by
    obtain ⟨lf, h⟩ := hg x y hx hy
    exact ⟨lf, (run_r_classed g lf x.1).trans h⟩
end Go.Proofs.YtcnhjofpmpipfaaGreat

end
end

/- The reference's names of classes. -/
section
set_option linter.unusedVariables false
set_option maxRecDepth 100000
namespace Go.Proofs.YtcnhjofpmpipfaaGreat
open Go Go.Sx Go.RowKit Go.Jx
theorem q_run_tree {α : Type} (v : Int) (X Y : α) : (cond (Bool.not (iltI v (Int.ofNat 97))) (cond (Bool.not (iltI (Int.ofNat 122) v)) X (cond (Bool.not (iltI v (Int.ofNat 65))) (cond (Bool.not (iltI (Int.ofNat 90) v)) X (cond (Bool.not (iltI v (Int.ofNat 48))) (cond (Bool.not (iltI (Int.ofNat 57) v)) X (cond (ieqI v (Int.ofNat 95)) X Y)) (cond (ieqI v (Int.ofNat 95)) X Y))) (cond (Bool.not (iltI v (Int.ofNat 48))) (cond (Bool.not (iltI (Int.ofNat 57) v)) X (cond (ieqI v (Int.ofNat 95)) X Y)) (cond (ieqI v (Int.ofNat 95)) X Y)))) (cond (Bool.not (iltI v (Int.ofNat 65))) (cond (Bool.not (iltI (Int.ofNat 90) v)) X (cond (Bool.not (iltI v (Int.ofNat 48))) (cond (Bool.not (iltI (Int.ofNat 57) v)) X (cond (ieqI v (Int.ofNat 95)) X Y)) (cond (ieqI v (Int.ofNat 95)) X Y))) (cond (Bool.not (iltI v (Int.ofNat 48))) (cond (Bool.not (iltI (Int.ofNat 57) v)) X (cond (ieqI v (Int.ofNat 95)) X Y)) (cond (ieqI v (Int.ofNat 95)) X Y)))) = cond (S.isPart v) X Y := by
  simp only [iltI_eq, ieqI_eq, oL]
  have hp : S.isPart v = (((!decide (v < 97) && !decide (122 < v)) || (!decide (v < 65) && !decide (90 < v))) || (!decide (v < 48) && !decide (57 < v)) || decide (v = 95)) := by
    have e : ∀ a b : Int, decide (a ≤ b) = !decide (b < a) := fun a b => by
      by_cases h : b < a
      · rw [decide_eq_true h, decide_eq_false (by omega)]; rfl
      · rw [decide_eq_false h, decide_eq_true (by omega)]; rfl
    simp only [S.isPart, S.isSmall, S.isCap, S.isDig, e]
  rw [hp]
  cases decide (v < 97) <;> cases decide (122 < v) <;> cases decide (v < 65) <;> cases decide (90 < v) <;> cases decide (v < 48) <;> cases decide (57 < v) <;> cases decide (v = 95) <;> rfl
theorem F_q_run_eq (s : ByteArray) (hl : s.size < LF) : F_q_run LF s (Int.ofNat 0) = some (S.run0 s, ()) := by
  have hbl : (byteList s).length < LF := by rw [bl_len]; exact hl
  have h0 : ∀ i : Nat, i < LF → IntKind.i64.wrap (Int.add (Int.ofNat 0) (Int.ofNat i)) = Int.ofNat i := fun i hi => by
    rw [show Int.add (Int.ofNat 0) (Int.ofNat i) = Int.ofNat i from Int.zero_add _]
    exact wrap64_in (by unfold LF at hi; show _ ≤ (i : Int) ∧ (i : Int) < _; omega)
  refine (range1 (R := Rt_q_run) (byteList s) (fun rest i => some (Int.ofNat (i + (rest.takeWhile S.isPart).length), ())) hbl (fun K => ?_) (fun K i v rest r h => ?_)).trans ?_
  · simp only [R_q_run_2, h0 _ hbl]
    rw [bl_len, ilt_self]; rfl
  · have hlt : iltI (Int.ofNat i) (Int.ofNat s.size) = true := by have := r.ilt; rwa [bl_len] at this
    simp only [R_q_run_2, h0 i (by have := r.lt; omega), hlt, r.get, r.next, h, cond_true, q_run_tree, List.takeWhile_cons]
    cases S.isPart v with
    | true => simp only [cond_true, if_true, List.length_cons]; exact congrArg (fun n => some (Int.ofNat n, ())) (by omega)
    | false => rfl
  · unfold S.run0; rw [Nat.zero_add]
theorem ieqI_true {a b : Int} (h : ieqI a b = true) : a = b := by rw [ieqI_eq] at h; exact of_decide_eq_true h
theorem con_q_run : Con Tryz.prog id_q_run sp_q_run := mk_q_run trivial fun x y hx h => ⟨LF, by
  have h : cond (ieqI x.2.1 (Int.ofNat 0)) (some (S.run0 x.1, ())) none = some y := h
  cases hr : ieqI x.2.1 (Int.ofNat 0) with
  | false => rw [hr] at h; cases h
  | true =>
    rw [hr] at h
    have e : x.2.1 = Int.ofNat 0 := ieqI_true hr
    have e2 : F_q_run LF x.1 x.2.1 = F_q_run LF x.1 (Int.ofNat 0) := congrArg (F_q_run LF x.1) e
    exact e2.trans ((F_q_run_eq x.1 hx.1).trans h)⟩
theorem bl_wrap {s : ByteArray} {b : Int} (h : b ∈ byteList s) : IntKind.i64.wrap b = b := by
  have := bl_range h
  exact wrap64_in (by omega)
theorem F_q_number_eq (s : ByteArray) (hl : s.size < LF) (hp : 0 < s.size) : F_q_number LF s = some (S.number s, ()) := by
  have hbl : (byteList s).length < LF := by rw [bl_len]; exact hl
  have h10 : ∀ n : Int, G_q_number_10 LF s LF (Int.ofNat 0, n) = some (S.numGo (byteList s) n, ()) := fun n => by
    refine range0 (σ := Int) (R := Rt_q_number) (byteList s) (fun i n => (i, n)) (fun _ _ => True) (fun rest _ n => some (S.numGo rest n, ())) hbl (fun K n _ => ?_) (fun K i v rest n _ r h => ?_) n trivial
    · simp only [R_q_number_10]
      rw [bl_len, ilt_self]; rfl
    · have hlt : iltI (Int.ofNat i) (Int.ofNat s.size) = true := by have := r.ilt; rwa [bl_len] at this
      simp only [R_q_number_10, hlt, r.get, r.next, cond_true, bl_wrap r.mem, h _ trivial, S.numGo]
      generalize IntKind.i64.wrap (Int.sub (IntKind.i64.wrap (Int.add (IntKind.i64.wrap (Int.mul (Int.ofNat 10) n)) v)) (Int.ofNat 48)) = m
      rw [iltI_eq]
      simp only [oL]
      by_cases hm : 1099511627776 < m
      · rw [decide_eq_true hm, cond_true, if_pos hm]
      · rw [decide_eq_false hm, cond_false, if_neg hm]
  obtain ⟨b0, hb0⟩ : ∃ b, (byteList s)[0]? = some b := ⟨_, bl_get hp⟩
  have hj : jget (byteList s) (Int.ofNat 0) = some b0 := by rw [jget_nat]; exact hb0
  show G_q_number_2 LF s LF (Int.ofNat 0) = _
  refine (range1 (R := Rt_q_number) (byteList s) (fun rest i => some ((if rest.all S.isDig = false then ((0 : Int), (2 : Int)) else if (byteList s)[0]? = some 48 ∧ 1 < s.size then (0, 2) else S.numGo (byteList s) 0), ())) hbl (fun K => ?_) (fun K i v rest r h => ?_)).trans ?_
  · simp only [R_q_number_2, h10]
    rw [bl_len, ilt_self, cond_false, List.all_nil, if_neg (by simp), hj, hb0]
    simp only [ilt_nat, ieqI_eq]
    simp only [oL]
    by_cases h48 : b0 = 48
    · by_cases h1 : 1 < s.size
      · rw [decide_eq_true h48, decide_eq_true h1, if_pos ⟨by rw [h48], h1⟩]; rfl
      · rw [decide_eq_true h48, decide_eq_false h1, if_neg (fun h => h1 h.2)]; rfl
    · rw [decide_eq_false h48, if_neg (fun h => h48 (Option.some.inj h.1))]; rfl
  · have hlt : iltI (Int.ofNat i) (Int.ofNat s.size) = true := by have := r.ilt; rwa [bl_len] at this
    rw [List.all_cons]
    simp only [R_q_number_2, hlt, r.get, r.next, h, cond_true, iltI_eq]
    simp only [oL]
    unfold S.isDig
    by_cases a : v < 48
    · rw [decide_eq_true a, decide_eq_false (show ¬ 48 ≤ v by omega)]; rfl
    by_cases b : 57 < v
    · rw [decide_eq_false a, decide_eq_true b, decide_eq_true (show 48 ≤ v by omega), decide_eq_false (show ¬ v ≤ 57 by omega)]; rfl
    · rw [decide_eq_false a, decide_eq_false b, decide_eq_true (show 48 ≤ v by omega), decide_eq_true (show v ≤ 57 by omega)]; rfl
  · rfl
theorem con_q_number : Con Tryz.prog id_q_number sp_q_number := mk_q_number trivial fun x y hx h => ⟨LF, by
  have h : cond (Nat.blt 0 (ByteArray.size x.1)) (some (S.number x.1, ())) none = some y := h
  cases hr : Nat.blt 0 (ByteArray.size x.1) with
  | false => rw [hr] at h; cases h
  | true => rw [hr] at h; exact (F_q_number_eq x.1 hx.1 (by simpa using hr)).trans h⟩

theorem F_q_word_eq (s : ByteArray) (hl : s.size < LF) : F_q_word LF s = some (S.word s, ()) := by
  have hbl : (byteList s).length < LF := by rw [bl_len]; exact hl
  obtain ⟨W, hW⟩ : ∃ W : Bool → Bool → Int × Int, ∀ lo hi, W lo hi = if (lo && hi) = true then (0, 2) else if 20 < s.size then (0, 3) else if lo = true then (1, 0) else (2, 0) := ⟨_, fun _ _ => rfl⟩
  have h8 : G_q_word_8 LF s LF (Int.ofNat 0, false, false) = some (W ((byteList s).any S.isSmall) ((byteList s).any S.isCap), ()) := by
    refine (range0 (σ := Bool × Bool) (R := Rt_q_word) (byteList s) (fun i q => (i, q)) (fun _ _ => True) (fun rest _ q => some (W (q.2 || rest.any S.isSmall) (q.1 || rest.any S.isCap), ())) hbl (fun K q _ => ?_) (fun K i v rest q _ r h => ?_) (false, false) trivial).trans ?_
    · simp only [R_q_word_8]
      rw [bl_len, ilt_self, cond_false]
      simp only [List.any_nil, Bool.or_false, ilt_nat, hW]
      simp only [oL]
      obtain ⟨hi, lo⟩ := q
      by_cases h20 : 20 < s.size
      · simp only [decide_eq_true h20, if_pos h20]; cases hi <;> cases lo <;> rfl
      · simp only [decide_eq_false h20, if_neg h20]; cases hi <;> cases lo <;> rfl
    · have hlt : iltI (Int.ofNat i) (Int.ofNat s.size) = true := by have := r.ilt; rwa [bl_len] at this
      have hh := fun hi lo => h (hi, lo) trivial
      simp only [R_q_word_8, hlt, r.get, r.next, cond_true, hh, iltI_eq]
      simp only [oL, List.any_cons]
      have e : ∀ a b : Int, decide (a ≤ b) = !decide (b < a) := fun a b => by
        by_cases h : b < a
        · rw [decide_eq_true h, decide_eq_false (by omega)]; rfl
        · rw [decide_eq_false h, decide_eq_true (by omega)]; rfl
      have e1 : S.isSmall v = (!decide (v < 97) && !decide (122 < v)) := by simp only [S.isSmall, e]
      have e2 : S.isCap v = (!decide (v < 65) && !decide (90 < v)) := by simp only [S.isCap, e]
      rw [e1, e2]
      generalize List.any rest S.isSmall = zs
      generalize List.any rest S.isCap = zc
      obtain ⟨hi, lo⟩ := q
      cases decide (v < 97) <;> cases decide (122 < v) <;> cases decide (v < 65) <;> cases decide (90 < v) <;> cases hi <;> cases lo <;> rfl
    · simp only [Bool.false_or]
  rw [hW] at h8
  simp only [F_q_word, R_q_word_in, S.word]
  show cond (S.has S.keywords s) _ (cond (S.has S.wordsT s) _ (cond (S.has S.smallWords s) _ (G_q_word_8 LF s LF (Int.ofNat 0, false, false)))) = _
  rw [h8]
  cases S.has S.keywords s with
  | true => rfl
  | false =>
    cases S.has S.wordsT s with
    | true => rfl
    | false =>
      cases S.has S.smallWords s with
      | true => rfl
      | false => rfl
theorem con_q_word : Con Tryz.prog id_q_word sp_q_word := mk_q_word ⟨con_q_has, trivial⟩ fun x y hx h => ⟨LF, (F_q_word_eq x.1 hx.1).trans h⟩
theorem F_q_Shape_eq (lf : Nat) (s : ByteArray) : F_q_Shape lf s = some (S.shape s, ()) := by
  simp only [F_q_Shape, R_q_Shape_in, S.shape]
  show cond (S.has S.signs s) _ _ = _
  cases S.has S.signs s with
  | true => rfl
  | false =>
    rw [cond_false, if_neg (by simp), ieq_nat]
    by_cases h0 : s.size = 0
    · rw [decide_eq_true h0, cond_true]
      have : (byteList s)[0]? = none := by rw [List.getElem?_eq_none_iff, bl_len, h0]; exact Nat.le_refl _
      rw [this]; rfl
    rw [decide_eq_false h0, cond_false]
    have hb := bl_get (s := s) (i := 0) (by omega)
    have hj : jget (byteList s) (Int.ofNat 0) = some ((s[0]'(by omega)).toNat : Int) := by rw [jget_nat]; exact hb
    generalize ((s[0]'(by omega)).toNat : Int) = b0 at hb hj
    rw [hj, hb]
    simp only [iltI_eq, ieqI_eq]
    simp only [oL]
    by_cases h1 : S.run0 s < Int.ofNat s.size
    · rw [decide_eq_true h1, if_pos h1]; rfl
    rw [decide_eq_false h1, if_neg h1, cond_false]
    by_cases h2 : b0 = 95
    · rw [decide_eq_true h2, if_pos h2]; rfl
    rw [decide_eq_false h2, if_neg h2, cond_false]
    have hn : Nat.ble 1 s.size = true := Nat.ble_eq_true_of_le (by omega)
    rw [hn]
    simp only [cond_true]
    have hd : S.isDig b0 = (!decide (b0 < 48) && !decide (57 < b0)) := by
      unfold S.isDig
      rw [Bool.eq_iff_iff]
      simp only [Bool.and_eq_true, decide_eq_true_eq, Bool.not_eq_true', decide_eq_false_iff_not]
      omega
    rw [hd]
    cases decide (b0 < 48) with
    | true => rfl
    | false =>
      cases decide (57 < b0) with
      | true => rfl
      | false =>
        by_cases h5 : (S.number s).2 = 0
        · rw [decide_eq_true h5, if_pos (show (!false && !false) = true from rfl), if_pos h5]; rfl
        · rw [decide_eq_false h5, if_pos (show (!false && !false) = true from rfl), if_neg h5]; rfl
theorem con_q_Shape : Con Tryz.prog id_q_Shape sp_q_Shape := mk_q_Shape ⟨con_q_has, con_q_run, con_q_number, con_q_word, trivial⟩ fun x y hx h => ⟨LF, (F_q_Shape_eq _ _).trans h⟩
end Go.Proofs.YtcnhjofpmpipfaaGreat
end

/- The reference's classed is the package's class. -/
section
set_option linter.unusedVariables false
set_option maxRecDepth 100000
namespace Go.Proofs.YtcnhjofpmpipfaaGreat
open Go Go.Sx Go.RowKit Go.Jx
theorem has_iff (l : List ByteArray) (s : ByteArray) : S.has l s = true ↔ s ∈ l := by
  unfold S.has
  rw [List.any_eq_true]
  exact ⟨fun ⟨x, hx, h⟩ => by rw [← of_decide_eq_true h]; exact hx, fun h => ⟨s, h, decide_eq_true rfl⟩⟩
theorem tw_all {α : Type} (p : α → Bool) : ∀ l : List α, (l.takeWhile p).length < l.length ↔ ¬ ∀ x ∈ l, p x = true
  | [] => by simp
  | x :: l => by
    have ih := tw_all p l
    rw [List.takeWhile_cons]
    cases hx : p x with
    | true =>
      rw [if_pos rfl]
      simp only [List.length_cons, Nat.add_lt_add_iff_right, ih, List.mem_cons, forall_eq_or_imp, hx, true_and]
    | false =>
      rw [if_neg (by simp)]
      simp only [List.length_nil, List.length_cons, List.mem_cons, forall_eq_or_imp, hx]
      constructor
      · intro _ h; exact absurd h.1 (by simp)
      · intro _; omega
theorem run_iff (s : ByteArray) : S.run0 s < Int.ofNat s.size ↔ ¬ ∀ b ∈ byteList s, S.isPart b = true := by
  rw [← tw_all, bl_len]
  unfold S.run0
  exact Int.ofNat_lt
theorem signs_head : ∀ w ∈ S.signs, ∀ b, (byteList w)[0]? = some b → S.isCap b = false := by decide +kernel
theorem keys_low : ∀ w ∈ S.keywords, (byteList w).any S.isSmall = true := by decide +kernel
theorem words_low : ∀ w ∈ S.wordsT, (byteList w).any S.isSmall = true := by decide +kernel
theorem small_low : ∀ w ∈ S.smallWords, (byteList w).any S.isSmall = true := by decide +kernel
theorem shape_class (s : ByteArray) : ((S.shape s).2 = 0 ∧ (S.shape s).1 = 2) ↔ s.size ≤ 20 ∧ (∃ b, (byteList s)[0]? = some b ∧ 65 ≤ b ∧ b ≤ 90) ∧ (∀ b ∈ byteList s, S.isPart b = true ∧ S.isSmall b = false) := by
  constructor
  · intro h
    unfold S.shape at h
    split at h
    · exact absurd h.2 (by simp)
    split at h
    · exact absurd h.1 (by simp)
    rename_i b hb
    split at h
    · exact absurd h.1 (by simp)
    rename_i hrun
    have hpart := Decidable.not_not.1 (fun hn => hrun ((run_iff s).2 hn))
    split at h
    · exact absurd h.1 (by simp)
    rename_i h95
    split at h
    · split at h
      · exact absurd h.2 (by simp)
      · rename_i hn; exact absurd h.1 hn
    rename_i hdig
    unfold S.word at h
    split at h
    · exact absurd h.2 (by simp)
    split at h
    · exact absurd h.1 (by simp)
    split at h
    · exact absurd h.1 (by simp)
    split at h
    · exact absurd h.1 (by simp)
    rename_i h20
    split at h
    · exact absurd h.2 (by simp)
    rename_i hlow
    have hlow' : ∀ c ∈ byteList s, S.isSmall c = false := fun c hc => by
      cases hs : S.isSmall c with
      | false => rfl
      | true => exact absurd (List.any_eq_true.2 ⟨c, hc, hs⟩) hlow
    have hm := List.mem_of_getElem? hb
    have hcap : S.isCap b = true := by
      have := hpart b hm
      unfold S.isPart at this
      rw [hlow' b hm, Bool.false_or] at this
      simp only [Bool.or_eq_true, decide_eq_true_eq] at this
      rcases this with (h | h) | h
      · exact h
      · exact absurd h hdig
      · exact absurd h h95
    unfold S.isCap at hcap
    simp only [Bool.and_eq_true, decide_eq_true_eq] at hcap
    exact ⟨by omega, ⟨b, hb, hcap.1, hcap.2⟩, fun c hc => ⟨hpart c hc, hlow' c hc⟩⟩
  · rintro ⟨h20, ⟨b, hb, c1, c2⟩, hall⟩
    have hcap : S.isCap b = true := by unfold S.isCap; simp; omega
    have hs1 : ¬ S.has S.signs s = true := fun h => by
      have := signs_head s ((has_iff _ _).1 h) b hb
      rw [hcap] at this; cases this
    have hlow : (byteList s).any S.isSmall = false := by
      rw [List.any_eq_false]
      exact fun c hc => by rw [(hall c hc).2]; simp
    have hno : ∀ l : List ByteArray, (∀ w ∈ l, (byteList w).any S.isSmall = true) → S.has l s = false := fun l hl => by
      cases hh : S.has l s with
      | false => rfl
      | true => have := hl s ((has_iff _ _).1 hh); rw [hlow] at this; cases this
    have hrun : ¬ S.run0 s < Int.ofNat s.size := fun h => (run_iff s).1 h fun c hc => (hall c hc).1
    have hdig : ¬ S.isDig b = true := by unfold S.isDig; simp; omega
    unfold S.shape S.word
    rw [if_neg hs1, hb]
    simp only
    rw [if_neg hrun, if_neg (by omega), if_neg hdig, hno _ keys_low, hno _ words_low, hno _ small_low, hlow]
    rw [if_neg (by simp), if_neg (by simp), if_neg (by simp), if_neg (by omega), if_neg (by simp)]
    exact ⟨rfl, rfl⟩
theorem F_r_classed_eq (lf : Nat) (s : ByteArray) : F_r_classed lf s = some (S.class_ s, ()) := by
  have key : ∀ z : Bool, (z = true ↔ S.class_ s = true) → (some (z, ()) : Option Rt_r_classed) = some (S.class_ s, ()) := fun z h => by rw [Bool.eq_iff_iff.2 h]
  have hw : s ∈ S.classWords ↔ (s = S.lit [73, 78, 84, 69, 71, 69, 82] ∨ s = S.lit [66, 79, 79, 76, 69, 65, 78] ∨ s = S.lit [65, 78, 89] ∨ s = S.lit [78, 79, 78, 69]) := by
    simp only [S.classWords, List.mem_cons, List.not_mem_nil, or_false]; exact Iff.rfl
  have hs := shape_class s
  have hc := class_iff s
  simp only [F_r_classed, R_r_classed_in, ieqI_eq, keqS]
  simp only [oL]
  by_cases e : ¬ (S.shape s).2 = 0
  · rw [decide_eq_false e]
    exact key _ ⟨fun h => (by cases h), fun h => absurd (hs.2 ⟨(hc.1 h).1, (hc.1 h).2.1, (hc.1 h).2.2.1⟩).1 e⟩
  have e := Decidable.not_not.1 e
  rw [decide_eq_true e, cond_true]
  by_cases k : ¬ (S.shape s).1 = 2
  · rw [decide_eq_false k]
    exact key _ ⟨fun h => (by cases h), fun h => absurd (hs.2 ⟨(hc.1 h).1, (hc.1 h).2.1, (hc.1 h).2.2.1⟩).2 k⟩
  have k := Decidable.not_not.1 k
  rw [decide_eq_true k, cond_true]
  have hh := hs.1 ⟨e, k⟩
  have hcl : S.class_ s = true ↔ ¬ s ∈ S.classWords := ⟨fun h => (hc.1 h).2.2.2, fun h => hc.2 ⟨hh.1, hh.2.1, hh.2.2, h⟩⟩
  by_cases w1 : s = S.lit [73, 78, 84, 69, 71, 69, 82]
  · rw [decide_eq_true w1]
    exact key _ ⟨fun h => (by cases h), fun h => absurd (hw.2 (.inl w1)) (hcl.1 h)⟩
  rw [decide_eq_false w1]
  by_cases w2 : s = S.lit [66, 79, 79, 76, 69, 65, 78]
  · rw [decide_eq_true w2]
    exact key _ ⟨fun h => (by cases h), fun h => absurd (hw.2 (.inr (.inl w2))) (hcl.1 h)⟩
  rw [decide_eq_false w2]
  by_cases w3 : s = S.lit [65, 78, 89]
  · rw [decide_eq_true w3]
    exact key _ ⟨fun h => (by cases h), fun h => absurd (hw.2 (.inr (.inr (.inl w3)))) (hcl.1 h)⟩
  rw [decide_eq_false w3]
  by_cases w4 : s = S.lit [78, 79, 78, 69]
  · rw [decide_eq_true w4]
    exact key _ ⟨fun h => (by cases h), fun h => absurd (hw.2 (.inr (.inr (.inr w4)))) (hcl.1 h)⟩
  rw [decide_eq_false w4]
  refine key _ ⟨fun _ => hcl.2 fun h => ?_, fun _ => rfl⟩
  rcases hw.1 h with h | h | h | h
  · exact w1 h
  · exact w2 h
  · exact w3 h
  · exact w4 h
theorem con_r_classed : Con Tryz.prog id_r_classed sp_r_classed := mk_r_classed ⟨con_q_Shape, trivial⟩ fun x y hx h => ⟨LF, (F_r_classed_eq _ _).trans h⟩
theorem con_rCheckForms : Con Tryz.prog id_r_CheckForms sp_r_CheckForms := con_r_CheckForms con_r_classed
end Go.Proofs.YtcnhjofpmpipfaaGreat
end

/- What the reference's functions about rules compute. -/
section
set_option linter.unusedVariables false
noncomputable section
namespace Go.Proofs.YtcnhjofpmpipfaaGreat
open Go Go.Sx Go.RowKit Go.Jx
namespace S
def rfits (l : List DRule) (g : DGive) (a b : DCol) : Bool :=
  if g.2.1 = 1 then decide (a.2.1 = b.2.1) && (decide (¬ b.2.1 = 3) || rleads l a b)
  else if g.2.1 = 2 then decide (a.2.1 = 2) && decide (b.2.1 = 1)
  else if g.2.1 = 3 then decide (a.2.1 = 1) && decide (b.2.1 = 2)
  else if g.2.1 = 4 then decide (a.2.1 = 1) && decide (b.2.1 = 1)
  else if g.2.1 = 5 then decide (a.2.1 = 3) && (decide (b.2.1 = 3) && rleads l a b)
  else if g.2.1 = 6 then decide (¬ b.2.1 = 3)
  else decide (b.2.1 = 3)
def fromOf (g : DGive) (cols : List DCol) : DCol := if sourced g = true then at_ zCol cols (col cols g.1) else zCol
def srcOK (g : DGive) (cols : List DCol) : Bool := !sourced g || decide (0 ≤ col cols g.1)
def rgive (l : List DRule) (g : DGive) (cols : List DCol) (b : DCol) : Int :=
  if sourced g = true ∧ col cols g.1 < 0 then 4
  else if within g.2.1 1 7 = false ∨ numbered g b = false then 1
  else unlessE (rfits l g (fromOf g cols) b) 8
end S
def sp_r_typed : Sm := ⟨[.list cRule, cForm, cGive, cCol], [(false, .bool)], fun x => cond (S.srcOK x.2.2.1 x.2.1.2) (some (S.rfits x.1 x.2.2.1 (S.fromOf x.2.2.1 x.2.1.2) x.2.2.2.1, ())) none⟩
def sp_r_given : Sm := ⟨[.list cRule, cForm, cGive, cCol], [(false, .int .i64)], fun x => some (S.rgive x.1 x.2.2.1 x.2.1.2 x.2.2.2.1, ())⟩
end Go.Proofs.YtcnhjofpmpipfaaGreat

end
end

/- Made by program: plain forms of functions. -/
section
set_option linter.unusedVariables false
set_option maxRecDepth 100000
noncomputable section
namespace Go.Proofs.YtcnhjofpmpipfaaGreat
open Go Go.Sx Go.RowKit Go.Jx
def nm_r_leads : Nat → Option Nm := fun k => none
def st_r_leads : Nat → Bool := fun k => false
def hd_r_leads : Nat → Bool := fun k => false
abbrev Rt_r_leads : Type := Bool × Unit
def sml_r_leads : List (Nat × Sm) := [(143, sp_r_target)]
def hxl_r_leads : List (Nat × Hx) := []
def cl_r_leads (R : Type) (lf : Nat) : ClK R := icallK Tryz.prog ttT.get ftT.get (nm1 126 nm_r_leads) (smL sml_r_leads) (hxL hxl_r_leads) lf 20 R
abbrev id_r_leads : Nat := 126
def R_r_leads_in (lf : Nat) (x1 : (List DRule)) (x2 : DCol) (x3 : DCol) : Option Rt_r_leads := (cond (keqS x3.2.2 (S.lit [65, 78, 89])) (some (Bool.true, ())) (cond (Bool.not (keqS x2.2.2 (S.lit [65, 78, 89]))) (some ((keqS (Go.Proofs.YtcnhjofpmpipfaaGreat.S.ruleOf x1 x2.2.2).1.2.1 x3.2.2), ())) (some (Bool.false, ()))))
theorem in_r_leads (g : ElA [(.list cRule), cCol, cCol] → Option Rt_r_leads) (J : Nat → List Nat → NRes → Option Rt_r_leads) (lf : Nat) (x1 : (List DRule)) (x2 : DCol) (x3 : DCol) : icodeT Tryz.prog ttT.get nm_r_leads fi126.nt (cl_r_leads _ lf) lf st_r_leads J fi126.body [] (argGo (argV [(.list cRule), cCol, cCol] (x1, x2, x3, ())) 0 .leaf) S0 [] (lastK ttT.get fi126 ⟨[(.list cRule), cCol, cCol], [(false, .bool)], g⟩) = R_r_leads_in lf x1 x2 x3 := by kernel_rfl
theorem nd_r_leads : (regs fi126.body).Nodup := by decide +kernel
theorem ok_r_leads : okC nm_r_leads st_r_leads hd_r_leads fi126.body none = true := by kernel_rfl
def A_r_leads (g : ElA [(.list cRule), cCol, cCol] → Option Rt_r_leads) (lf : Nat) : Nat → List Nat → NRes → Option Rt_r_leads := atN Tryz.prog ttT.get nm_r_leads fi126 ⟨[(.list cRule), cCol, cCol], [(false, .bool)], g⟩ (cl_r_leads _ lf) lf hd_r_leads
def F_r_leads (lf : Nat) (x1 : (List DRule)) (x2 : DCol) (x3 : DCol) : Option Rt_r_leads := R_r_leads_in lf x1 x2 x3
theorem run_r_leads (g : ElA [(.list cRule), cCol, cCol] → Option Rt_r_leads) (lf : Nat) (x1 : (List DRule)) (x2 : DCol) (x3 : DCol) : icodeT Tryz.prog ttT.get nm_r_leads fi126.nt (cl_r_leads _ lf) lf st_r_leads (A_r_leads g lf) fi126.body [] (argGo (argV [(.list cRule), cCol, cCol] (x1, x2, x3, ())) 0 .leaf) S0 [] (lastK ttT.get fi126 ⟨[(.list cRule), cCol, cCol], [(false, .bool)], g⟩) = F_r_leads lf x1 x2 x3 := by
    refine (in_r_leads g (A_r_leads g lf) lf x1 x2 x3).trans ?_
    rfl
theorem hxs_r_leads : HxsOK Tryz.prog hxl_r_leads := trivial
theorem mk_r_leads {g : ElA [(.list cRule), cCol, cCol] → Option Rt_r_leads} (hsm : SmOK Tryz.prog sml_r_leads) (hg : ∀ (x : ElA [(.list cRule), cCol, cCol]) (y : Rt_r_leads), WfA [(.list cRule), cCol, cCol] x → g x = some y → ∃ lf, F_r_leads lf x.1 x.2.1 x.2.2.1 = some y) : Con Tryz.prog 126 ⟨[(.list cRule), cCol, cCol], [(false, .bool)], g⟩ :=
  conT (nmf := nm_r_leads) (sml := sml_r_leads) (hxl := hxl_r_leads) (st := st_r_leads) (hd := hd_r_leads) 20 mixed ttOK ftOK hsm hxs_r_leads cal126 rfl rfl (by kernel_rfl) (fun x => by kernel_rfl) nd_r_leads ok_r_leads fun x y hx hy => by
    obtain ⟨lf, h⟩ := hg x y hx hy
    exact ⟨lf, (run_r_leads g lf x.1 x.2.1 x.2.2.1).trans h⟩
def nm_r_numbered : Nat → Option Nm := fun k => none
def st_r_numbered : Nat → Bool := fun k => false
def hd_r_numbered : Nat → Bool := fun k => false
abbrev Rt_r_numbered : Type := Bool × Unit
def sml_r_numbered : List (Nat × Sm) := []
def hxl_r_numbered : List (Nat × Hx) := []
def cl_r_numbered (R : Type) (lf : Nat) : ClK R := icallK Tryz.prog ttT.get ftT.get (nm1 95 nm_r_numbered) (smL sml_r_numbered) (hxL hxl_r_numbered) lf 20 R
abbrev id_r_numbered : Nat := 95
def R_r_numbered_in (lf : Nat) (x1 : DGive) (x2 : DCol) : Option Rt_r_numbered := (cond (ieqI x1.2.1 (Int.ofNat 4)) (cond (Bool.not (iltI x1.2.2 (Int.negSucc 1099511627775))) (some ((Bool.not (iltI (Int.ofNat 1099511627776) x1.2.2)), ())) (some (Bool.false, ()))) (cond (ieqI x1.2.1 (Int.ofNat 6)) (cond (ieqI x2.2.1 (Int.ofNat 2)) (cond (keqS x1.1 (S.lit [])) (cond (Bool.not (iltI x1.2.2 (Int.ofNat 0))) (some ((Bool.not (iltI (Int.ofNat 1) x1.2.2)), ())) (some (Bool.false, ()))) (some (Bool.false, ()))) (cond (keqS x1.1 (S.lit [])) (cond (Bool.not (iltI x1.2.2 (Int.negSucc 1099511627775))) (some ((Bool.not (iltI (Int.ofNat 1099511627776) x1.2.2)), ())) (some (Bool.false, ()))) (some (Bool.false, ())))) (cond (ieqI x1.2.1 (Int.ofNat 7)) (cond (keqS x1.1 (S.lit [])) (some ((ieqI x1.2.2 (Int.ofNat 0)), ())) (some (Bool.false, ()))) (some ((ieqI x1.2.2 (Int.ofNat 0)), ())))))
theorem in_r_numbered (g : ElA [cGive, cCol] → Option Rt_r_numbered) (J : Nat → List Nat → NRes → Option Rt_r_numbered) (lf : Nat) (x1 : DGive) (x2 : DCol) : icodeT Tryz.prog ttT.get nm_r_numbered fi95.nt (cl_r_numbered _ lf) lf st_r_numbered J fi95.body [] (argGo (argV [cGive, cCol] (x1, x2, ())) 0 .leaf) S0 [] (lastK ttT.get fi95 ⟨[cGive, cCol], [(false, .bool)], g⟩) = R_r_numbered_in lf x1 x2 := by kernel_rfl
theorem nd_r_numbered : (regs fi95.body).Nodup := by decide +kernel
theorem ok_r_numbered : okC nm_r_numbered st_r_numbered hd_r_numbered fi95.body none = true := by kernel_rfl
def A_r_numbered (g : ElA [cGive, cCol] → Option Rt_r_numbered) (lf : Nat) : Nat → List Nat → NRes → Option Rt_r_numbered := atN Tryz.prog ttT.get nm_r_numbered fi95 ⟨[cGive, cCol], [(false, .bool)], g⟩ (cl_r_numbered _ lf) lf hd_r_numbered
def F_r_numbered (lf : Nat) (x1 : DGive) (x2 : DCol) : Option Rt_r_numbered := R_r_numbered_in lf x1 x2
theorem run_r_numbered (g : ElA [cGive, cCol] → Option Rt_r_numbered) (lf : Nat) (x1 : DGive) (x2 : DCol) : icodeT Tryz.prog ttT.get nm_r_numbered fi95.nt (cl_r_numbered _ lf) lf st_r_numbered (A_r_numbered g lf) fi95.body [] (argGo (argV [cGive, cCol] (x1, x2, ())) 0 .leaf) S0 [] (lastK ttT.get fi95 ⟨[cGive, cCol], [(false, .bool)], g⟩) = F_r_numbered lf x1 x2 := by
    refine (in_r_numbered g (A_r_numbered g lf) lf x1 x2).trans ?_
    rfl
theorem hxs_r_numbered : HxsOK Tryz.prog hxl_r_numbered := trivial
theorem mk_r_numbered {g : ElA [cGive, cCol] → Option Rt_r_numbered} (hsm : SmOK Tryz.prog sml_r_numbered) (hg : ∀ (x : ElA [cGive, cCol]) (y : Rt_r_numbered), WfA [cGive, cCol] x → g x = some y → ∃ lf, F_r_numbered lf x.1 x.2.1 = some y) : Con Tryz.prog 95 ⟨[cGive, cCol], [(false, .bool)], g⟩ :=
  conT (nmf := nm_r_numbered) (sml := sml_r_numbered) (hxl := hxl_r_numbered) (st := st_r_numbered) (hd := hd_r_numbered) 20 mixed ttOK ftOK hsm hxs_r_numbered cal95 rfl rfl (by kernel_rfl) (fun x => by kernel_rfl) nd_r_numbered ok_r_numbered fun x y hx hy => by
    obtain ⟨lf, h⟩ := hg x y hx hy
    exact ⟨lf, (run_r_numbered g lf x.1 x.2.1).trans h⟩
def nm_r_typed : Nat → Option Nm := fun k => none
def st_r_typed : Nat → Bool := fun k => false
def hd_r_typed : Nat → Bool := fun k => false
abbrev Rt_r_typed : Type := Bool × Unit
def sml_r_typed : List (Nat × Sm) := [(53, sp_r_column), (126, sp_r_leads)]
def hxl_r_typed : List (Nat × Hx) := []
def cl_r_typed (R : Type) (lf : Nat) : ClK R := icallK Tryz.prog ttT.get ftT.get (nm1 96 nm_r_typed) (smL sml_r_typed) (hxL hxl_r_typed) lf 20 R
abbrev id_r_typed : Nat := 96
def R_r_typed_in (lf : Nat) (x1 : (List DRule)) (x2 : DForm) (x3 : DGive) (x4 : DCol) : Option Rt_r_typed := (cond (Bool.not (iltI x3.2.1 (Int.ofNat 1))) (cond (Bool.not (iltI (Int.ofNat 5) x3.2.1)) (match (jget x2.2 (Go.Proofs.YtcnhjofpmpipfaaGreat.S.col x2.2 x3.1)) with | .none  => none | .some v0 => (cond (ieqI x3.2.1 (Int.ofNat 1)) (cond (ieqI v0.2.1 x4.2.1) (cond (Bool.not (ieqI x4.2.1 (Int.ofNat 3))) (some (Bool.true, ())) (some ((Go.Proofs.YtcnhjofpmpipfaaGreat.S.rleads x1 (v0.1, (v0.2.1, v0.2.2)) (x4.1, (x4.2.1, x4.2.2))), ()))) (some (Bool.false, ()))) (cond (ieqI x3.2.1 (Int.ofNat 2)) (cond (ieqI v0.2.1 (Int.ofNat 2)) (some ((ieqI x4.2.1 (Int.ofNat 1)), ())) (some (Bool.false, ()))) (cond (ieqI x3.2.1 (Int.ofNat 3)) (cond (ieqI v0.2.1 (Int.ofNat 1)) (some ((ieqI x4.2.1 (Int.ofNat 2)), ())) (some (Bool.false, ()))) (cond (ieqI x3.2.1 (Int.ofNat 4)) (cond (ieqI v0.2.1 (Int.ofNat 1)) (some ((ieqI x4.2.1 (Int.ofNat 1)), ())) (some (Bool.false, ()))) (cond (ieqI x3.2.1 (Int.ofNat 5)) (cond (ieqI v0.2.1 (Int.ofNat 3)) (cond (ieqI x4.2.1 (Int.ofNat 3)) (some ((Go.Proofs.YtcnhjofpmpipfaaGreat.S.rleads x1 (v0.1, (v0.2.1, v0.2.2)) (x4.1, (x4.2.1, x4.2.2))), ())) (some (Bool.false, ()))) (some (Bool.false, ()))) (cond (ieqI x3.2.1 (Int.ofNat 6)) (some ((Bool.not (ieqI x4.2.1 (Int.ofNat 3))), ())) (some ((ieqI x4.2.1 (Int.ofNat 3)), ()))))))))) (cond (ieqI x3.2.1 (Int.ofNat 1)) (cond (ieqI (Int.ofNat 0) x4.2.1) (cond (Bool.not (ieqI x4.2.1 (Int.ofNat 3))) (some (Bool.true, ())) (some ((Go.Proofs.YtcnhjofpmpipfaaGreat.S.rleads x1 ((S.lit []), ((Int.ofNat 0), (S.lit []))) (x4.1, (x4.2.1, x4.2.2))), ()))) (some (Bool.false, ()))) (cond (ieqI x3.2.1 (Int.ofNat 2)) (some (Bool.false, ())) (cond (ieqI x3.2.1 (Int.ofNat 3)) (some (Bool.false, ())) (cond (ieqI x3.2.1 (Int.ofNat 4)) (some (Bool.false, ())) (cond (ieqI x3.2.1 (Int.ofNat 5)) (some (Bool.false, ())) (cond (ieqI x3.2.1 (Int.ofNat 6)) (some ((Bool.not (ieqI x4.2.1 (Int.ofNat 3))), ())) (some ((ieqI x4.2.1 (Int.ofNat 3)), ()))))))))) (cond (ieqI x3.2.1 (Int.ofNat 1)) (cond (ieqI (Int.ofNat 0) x4.2.1) (cond (Bool.not (ieqI x4.2.1 (Int.ofNat 3))) (some (Bool.true, ())) (some ((Go.Proofs.YtcnhjofpmpipfaaGreat.S.rleads x1 ((S.lit []), ((Int.ofNat 0), (S.lit []))) (x4.1, (x4.2.1, x4.2.2))), ()))) (some (Bool.false, ()))) (cond (ieqI x3.2.1 (Int.ofNat 2)) (some (Bool.false, ())) (cond (ieqI x3.2.1 (Int.ofNat 3)) (some (Bool.false, ())) (cond (ieqI x3.2.1 (Int.ofNat 4)) (some (Bool.false, ())) (cond (ieqI x3.2.1 (Int.ofNat 5)) (some (Bool.false, ())) (cond (ieqI x3.2.1 (Int.ofNat 6)) (some ((Bool.not (ieqI x4.2.1 (Int.ofNat 3))), ())) (some ((ieqI x4.2.1 (Int.ofNat 3)), ())))))))))
theorem in_r_typed (g : ElA [(.list cRule), cForm, cGive, cCol] → Option Rt_r_typed) (J : Nat → List Nat → NRes → Option Rt_r_typed) (lf : Nat) (x1 : (List DRule)) (x2 : DForm) (x3 : DGive) (x4 : DCol) : icodeT Tryz.prog ttT.get nm_r_typed fi96.nt (cl_r_typed _ lf) lf st_r_typed J fi96.body [] (argGo (argV [(.list cRule), cForm, cGive, cCol] (x1, x2, x3, x4, ())) 0 .leaf) S0 [] (lastK ttT.get fi96 ⟨[(.list cRule), cForm, cGive, cCol], [(false, .bool)], g⟩) = R_r_typed_in lf x1 x2 x3 x4 := by kernel_rfl
theorem nd_r_typed : (regs fi96.body).Nodup := by decide +kernel
theorem ok_r_typed : okC nm_r_typed st_r_typed hd_r_typed fi96.body none = true := by kernel_rfl
def A_r_typed (g : ElA [(.list cRule), cForm, cGive, cCol] → Option Rt_r_typed) (lf : Nat) : Nat → List Nat → NRes → Option Rt_r_typed := atN Tryz.prog ttT.get nm_r_typed fi96 ⟨[(.list cRule), cForm, cGive, cCol], [(false, .bool)], g⟩ (cl_r_typed _ lf) lf hd_r_typed
def F_r_typed (lf : Nat) (x1 : (List DRule)) (x2 : DForm) (x3 : DGive) (x4 : DCol) : Option Rt_r_typed := R_r_typed_in lf x1 x2 x3 x4
theorem run_r_typed (g : ElA [(.list cRule), cForm, cGive, cCol] → Option Rt_r_typed) (lf : Nat) (x1 : (List DRule)) (x2 : DForm) (x3 : DGive) (x4 : DCol) : icodeT Tryz.prog ttT.get nm_r_typed fi96.nt (cl_r_typed _ lf) lf st_r_typed (A_r_typed g lf) fi96.body [] (argGo (argV [(.list cRule), cForm, cGive, cCol] (x1, x2, x3, x4, ())) 0 .leaf) S0 [] (lastK ttT.get fi96 ⟨[(.list cRule), cForm, cGive, cCol], [(false, .bool)], g⟩) = F_r_typed lf x1 x2 x3 x4 := by
    refine (in_r_typed g (A_r_typed g lf) lf x1 x2 x3 x4).trans ?_
    rfl
theorem hxs_r_typed : HxsOK Tryz.prog hxl_r_typed := trivial
theorem mk_r_typed {g : ElA [(.list cRule), cForm, cGive, cCol] → Option Rt_r_typed} (hsm : SmOK Tryz.prog sml_r_typed) (hg : ∀ (x : ElA [(.list cRule), cForm, cGive, cCol]) (y : Rt_r_typed), WfA [(.list cRule), cForm, cGive, cCol] x → g x = some y → ∃ lf, F_r_typed lf x.1 x.2.1 x.2.2.1 x.2.2.2.1 = some y) : Con Tryz.prog 96 ⟨[(.list cRule), cForm, cGive, cCol], [(false, .bool)], g⟩ :=
  conT (nmf := nm_r_typed) (sml := sml_r_typed) (hxl := hxl_r_typed) (st := st_r_typed) (hd := hd_r_typed) 20 mixed ttOK ftOK hsm hxs_r_typed cal96 rfl rfl (by kernel_rfl) (fun x => by kernel_rfl) nd_r_typed ok_r_typed fun x y hx hy => by
    obtain ⟨lf, h⟩ := hg x y hx hy
    exact ⟨lf, (run_r_typed g lf x.1 x.2.1 x.2.2.1 x.2.2.2.1).trans h⟩
def nm_r_given : Nat → Option Nm := fun k => none
def st_r_given : Nat → Bool := fun k => false
def hd_r_given : Nat → Bool := fun k => false
abbrev Rt_r_given : Type := Int × Unit
def sml_r_given : List (Nat × Sm) := [(53, sp_r_column), (95, sp_r_numbered), (96, sp_r_typed)]
def hxl_r_given : List (Nat × Hx) := []
def cl_r_given (R : Type) (lf : Nat) : ClK R := icallK Tryz.prog ttT.get ftT.get (nm1 55 nm_r_given) (smL sml_r_given) (hxL hxl_r_given) lf 20 R
abbrev id_r_given : Nat := 55
def R_r_given_in (lf : Nat) (x1 : (List DRule)) (x2 : DForm) (x3 : DGive) (x4 : DCol) : Option Rt_r_given := (cond (Bool.not (iltI x3.2.1 (Int.ofNat 1))) (cond (Bool.not (iltI (Int.ofNat 5) x3.2.1)) (cond (iltI (Go.Proofs.YtcnhjofpmpipfaaGreat.S.col x2.2 x3.1) (Int.ofNat 0)) (some ((Int.ofNat 4), ())) (cond (Bool.not (iltI x3.2.1 (Int.ofNat 1))) (cond (Bool.not (Bool.not (iltI (Int.ofNat 7) x3.2.1))) (some ((Int.ofNat 1), ())) (cond (Bool.not (Go.Proofs.YtcnhjofpmpipfaaGreat.S.numbered (x3.1, (x3.2.1, x3.2.2)) (x4.1, (x4.2.1, x4.2.2)))) (some ((Int.ofNat 1), ())) (match (cond (Go.Proofs.YtcnhjofpmpipfaaGreat.S.srcOK (x3.1, (x3.2.1, x3.2.2)) x2.2) (some ((Go.Proofs.YtcnhjofpmpipfaaGreat.S.rfits x1 (x3.1, (x3.2.1, x3.2.2)) (Go.Proofs.YtcnhjofpmpipfaaGreat.S.fromOf (x3.1, (x3.2.1, x3.2.2)) x2.2) (x4.1, (x4.2.1, x4.2.2))), ())) none) with | .none  => none | .some v0 => (cond (Bool.not v0.1) (some ((Int.ofNat 8), ())) (some ((Int.ofNat 0), ())))))) (some ((Int.ofNat 1), ())))) (cond (Bool.not (iltI x3.2.1 (Int.ofNat 1))) (cond (Bool.not (Bool.not (iltI (Int.ofNat 7) x3.2.1))) (some ((Int.ofNat 1), ())) (cond (Bool.not (Go.Proofs.YtcnhjofpmpipfaaGreat.S.numbered (x3.1, (x3.2.1, x3.2.2)) (x4.1, (x4.2.1, x4.2.2)))) (some ((Int.ofNat 1), ())) (match (cond (Go.Proofs.YtcnhjofpmpipfaaGreat.S.srcOK (x3.1, (x3.2.1, x3.2.2)) x2.2) (some ((Go.Proofs.YtcnhjofpmpipfaaGreat.S.rfits x1 (x3.1, (x3.2.1, x3.2.2)) (Go.Proofs.YtcnhjofpmpipfaaGreat.S.fromOf (x3.1, (x3.2.1, x3.2.2)) x2.2) (x4.1, (x4.2.1, x4.2.2))), ())) none) with | .none  => none | .some v1 => (cond (Bool.not v1.1) (some ((Int.ofNat 8), ())) (some ((Int.ofNat 0), ())))))) (some ((Int.ofNat 1), ())))) (cond (Bool.not (iltI x3.2.1 (Int.ofNat 1))) (cond (Bool.not (Bool.not (iltI (Int.ofNat 7) x3.2.1))) (some ((Int.ofNat 1), ())) (cond (Bool.not (Go.Proofs.YtcnhjofpmpipfaaGreat.S.numbered (x3.1, (x3.2.1, x3.2.2)) (x4.1, (x4.2.1, x4.2.2)))) (some ((Int.ofNat 1), ())) (match (cond (Go.Proofs.YtcnhjofpmpipfaaGreat.S.srcOK (x3.1, (x3.2.1, x3.2.2)) x2.2) (some ((Go.Proofs.YtcnhjofpmpipfaaGreat.S.rfits x1 (x3.1, (x3.2.1, x3.2.2)) (Go.Proofs.YtcnhjofpmpipfaaGreat.S.fromOf (x3.1, (x3.2.1, x3.2.2)) x2.2) (x4.1, (x4.2.1, x4.2.2))), ())) none) with | .none  => none | .some v2 => (cond (Bool.not v2.1) (some ((Int.ofNat 8), ())) (some ((Int.ofNat 0), ())))))) (some ((Int.ofNat 1), ()))))
theorem in_r_given (g : ElA [(.list cRule), cForm, cGive, cCol] → Option Rt_r_given) (J : Nat → List Nat → NRes → Option Rt_r_given) (lf : Nat) (x1 : (List DRule)) (x2 : DForm) (x3 : DGive) (x4 : DCol) : icodeT Tryz.prog ttT.get nm_r_given fi55.nt (cl_r_given _ lf) lf st_r_given J fi55.body [] (argGo (argV [(.list cRule), cForm, cGive, cCol] (x1, x2, x3, x4, ())) 0 .leaf) S0 [] (lastK ttT.get fi55 ⟨[(.list cRule), cForm, cGive, cCol], [(false, (.int .i64))], g⟩) = R_r_given_in lf x1 x2 x3 x4 := by kernel_rfl
theorem nd_r_given : (regs fi55.body).Nodup := by decide +kernel
theorem ok_r_given : okC nm_r_given st_r_given hd_r_given fi55.body none = true := by kernel_rfl
def A_r_given (g : ElA [(.list cRule), cForm, cGive, cCol] → Option Rt_r_given) (lf : Nat) : Nat → List Nat → NRes → Option Rt_r_given := atN Tryz.prog ttT.get nm_r_given fi55 ⟨[(.list cRule), cForm, cGive, cCol], [(false, (.int .i64))], g⟩ (cl_r_given _ lf) lf hd_r_given
def F_r_given (lf : Nat) (x1 : (List DRule)) (x2 : DForm) (x3 : DGive) (x4 : DCol) : Option Rt_r_given := R_r_given_in lf x1 x2 x3 x4
theorem run_r_given (g : ElA [(.list cRule), cForm, cGive, cCol] → Option Rt_r_given) (lf : Nat) (x1 : (List DRule)) (x2 : DForm) (x3 : DGive) (x4 : DCol) : icodeT Tryz.prog ttT.get nm_r_given fi55.nt (cl_r_given _ lf) lf st_r_given (A_r_given g lf) fi55.body [] (argGo (argV [(.list cRule), cForm, cGive, cCol] (x1, x2, x3, x4, ())) 0 .leaf) S0 [] (lastK ttT.get fi55 ⟨[(.list cRule), cForm, cGive, cCol], [(false, (.int .i64))], g⟩) = F_r_given lf x1 x2 x3 x4 := by
    refine (in_r_given g (A_r_given g lf) lf x1 x2 x3 x4).trans ?_
    rfl
theorem hxs_r_given : HxsOK Tryz.prog hxl_r_given := trivial
theorem mk_r_given {g : ElA [(.list cRule), cForm, cGive, cCol] → Option Rt_r_given} (hsm : SmOK Tryz.prog sml_r_given) (hg : ∀ (x : ElA [(.list cRule), cForm, cGive, cCol]) (y : Rt_r_given), WfA [(.list cRule), cForm, cGive, cCol] x → g x = some y → ∃ lf, F_r_given lf x.1 x.2.1 x.2.2.1 x.2.2.2.1 = some y) : Con Tryz.prog 55 ⟨[(.list cRule), cForm, cGive, cCol], [(false, (.int .i64))], g⟩ :=
  conT (nmf := nm_r_given) (sml := sml_r_given) (hxl := hxl_r_given) (st := st_r_given) (hd := hd_r_given) 20 mixed ttOK ftOK hsm hxs_r_given cal55 rfl rfl (by kernel_rfl) (fun x => by kernel_rfl) nd_r_given ok_r_given fun x y hx hy => by
    obtain ⟨lf, h⟩ := hg x y hx hy
    exact ⟨lf, (run_r_given g lf x.1 x.2.1 x.2.2.1 x.2.2.2.1).trans h⟩
end Go.Proofs.YtcnhjofpmpipfaaGreat

end
end

/- The reference's way of checking how a field is made. -/
section
set_option linter.unusedVariables false
set_option maxRecDepth 100000
namespace Go.Proofs.YtcnhjofpmpipfaaGreat
open Go Go.Sx Go.RowKit Go.Jx
theorem F_r_leads_eq (lf : Nat) (l : List DRule) (a b : DCol) : F_r_leads lf l a b = some (S.rleads l a b, ()) := by
  simp only [F_r_leads, R_r_leads_in, S.rleads, keqS]
  have ea : S.lit [65, 78, 89] = S.ANY := rfl
  rw [ea]
  by_cases h : b.2.2 = S.ANY
  · simp [h]
  by_cases h2 : a.2.2 = S.ANY
  · simp [h, h2]
  · simp [h, h2]
theorem con_r_leads : Con Tryz.prog id_r_leads sp_r_leads := mk_r_leads ⟨con_r_target, trivial⟩ fun x y _ h => ⟨0, (F_r_leads_eq _ _ _ _).trans h⟩
theorem F_r_numbered_eq (lf : Nat) (g : DGive) (b : DCol) : F_r_numbered lf g b = some (S.numbered g b, ()) := by
  simp only [F_r_numbered, R_r_numbered_in, within_tree, S.numbered, ieqI_eq, keqS]
  simp only [oL, oLn]
  generalize S.within g.2.2 (-1099511627776) 1099511627776 = w
  generalize S.within g.2.2 0 1 = w1
  by_cases h4 : g.2.1 = 4
  · simp [h4]
  by_cases h6 : g.2.1 = 6
  · by_cases h2 : b.2.1 = 2 <;> by_cases hn : g.1 = S.lit [] <;> simp [h6, h2, hn]
  by_cases h7 : g.2.1 = 7
  · by_cases hn : g.1 = S.lit [] <;> simp [h7, hn]
  · simp [h4, h6, h7]
theorem con_r_numbered : Con Tryz.prog id_r_numbered sp_r_numbered := mk_r_numbered trivial fun x y _ h => ⟨0, (F_r_numbered_eq _ _ _).trans h⟩
theorem in_tree {α : Type} (v lo hi : Int) (X Y : α) : cond (Bool.not (iltI v lo)) (cond (Bool.not (iltI hi v)) X Y) Y = cond (S.within v lo hi) X Y := by
  have e : S.within v lo hi = (!iltI v lo && !iltI hi v) := by
    rw [iltI_eq, iltI_eq, Bool.eq_iff_iff]
    simp only [S.within, Bool.and_eq_true, decide_eq_true_eq, Bool.not_eq_true', decide_eq_false_iff_not]
    omega
  rw [e]
  cases iltI v lo <;> cases iltI hi v <;> rfl
theorem F_r_typed_eq (lf : Nat) (l : List DRule) (f : DForm) (g : DGive) (b : DCol) (h : S.srcOK g f.2 = true) : F_r_typed lf l f g b = some (S.rfits l g (S.fromOf g f.2) b, ()) := by
  simp only [F_r_typed, R_r_typed_in, in_tree]
  have e15 : S.within g.2.1 (Int.ofNat 1) (Int.ofNat 5) = S.sourced g := rfl
  rw [e15]
  unfold S.srcOK at h
  have gen : ∀ a : DCol, (cond (ieqI g.2.1 (Int.ofNat 1)) (cond (ieqI a.2.1 b.2.1) (cond (Bool.not (ieqI b.2.1 (Int.ofNat 3))) (some (Bool.true, ())) (some ((S.rleads l a b), ()))) (some (Bool.false, ()))) (cond (ieqI g.2.1 (Int.ofNat 2)) (cond (ieqI a.2.1 (Int.ofNat 2)) (some ((ieqI b.2.1 (Int.ofNat 1)), ())) (some (Bool.false, ()))) (cond (ieqI g.2.1 (Int.ofNat 3)) (cond (ieqI a.2.1 (Int.ofNat 1)) (some ((ieqI b.2.1 (Int.ofNat 2)), ())) (some (Bool.false, ()))) (cond (ieqI g.2.1 (Int.ofNat 4)) (cond (ieqI a.2.1 (Int.ofNat 1)) (some ((ieqI b.2.1 (Int.ofNat 1)), ())) (some (Bool.false, ()))) (cond (ieqI g.2.1 (Int.ofNat 5)) (cond (ieqI a.2.1 (Int.ofNat 3)) (cond (ieqI b.2.1 (Int.ofNat 3)) (some ((S.rleads l a b), ())) (some (Bool.false, ()))) (some (Bool.false, ()))) (cond (ieqI g.2.1 (Int.ofNat 6)) (some ((Bool.not (ieqI b.2.1 (Int.ofNat 3))), ())) (some ((ieqI b.2.1 (Int.ofNat 3)), ()))))))) : Option (Bool × Unit)) = some (S.rfits l g a b, ()) := fun a => by
    simp only [S.rfits, ieqI_eq]
    simp only [oL]
    generalize S.rleads l a b = z
    by_cases h1 : g.2.1 = 1
    · by_cases ha : a.2.1 = b.2.1
      · by_cases hb : b.2.1 = 3 <;> simp [h1, ha, hb]
      · simp [h1, ha]
    by_cases h2 : g.2.1 = 2
    · by_cases ha : a.2.1 = 2 <;> simp [h2, ha]
    by_cases h3 : g.2.1 = 3
    · by_cases ha : a.2.1 = 1 <;> simp [h3, ha]
    by_cases h4 : g.2.1 = 4
    · by_cases ha : a.2.1 = 1 <;> simp [h4, ha]
    by_cases h5 : g.2.1 = 5
    · by_cases ha : a.2.1 = 3 <;> by_cases hb : b.2.1 = 3 <;> simp [h5, ha, hb]
    by_cases h6 : g.2.1 = 6
    · simp [h6]
    · simp [h1, h2, h3, h4, h5, h6]
  cases hs : S.sourced g with
  | true =>
    rw [hs] at h
    have h0 : 0 ≤ S.col f.2 g.1 := of_decide_eq_true h
    obtain ⟨c, c1, c2, _⟩ := S.idx_get (p := fun c : DCol => keqS c.1 g.1) (l := f.2) h0
    have c1' : jget f.2 (S.col f.2 g.1) = some c := c1
    have c3 : S.fromOf g f.2 = c := by
      unfold S.fromOf
      rw [if_pos hs]
      unfold S.at_ S.col
      rw [c2]; rfl
    rw [cond_true, c1', c3]
    exact gen c
  | false =>
    have c3 : S.fromOf g f.2 = S.zCol := by unfold S.fromOf; rw [hs, if_neg (by simp)]
    rw [cond_false, c3]
    refine Eq.trans ?_ (gen S.zCol)
    rfl
theorem con_r_typed : Con Tryz.prog id_r_typed sp_r_typed := mk_r_typed ⟨con_r_column, con_r_leads, trivial⟩ fun x y _ h => ⟨0, by
  have h : cond (S.srcOK x.2.2.1 x.2.1.2) (some (S.rfits x.1 x.2.2.1 (S.fromOf x.2.2.1 x.2.1.2) x.2.2.2.1, ())) none = some y := h
  cases hr : S.srcOK x.2.2.1 x.2.1.2 with
  | false => rw [hr] at h; cases h
  | true => rw [hr] at h; exact (F_r_typed_eq _ _ _ _ _ hr).trans h⟩
theorem F_r_given_eq (lf : Nat) (l : List DRule) (f : DForm) (g : DGive) (b : DCol) : F_r_given lf l f g b = some (S.rgive l g f.2 b, ()) := by
  simp only [F_r_given, R_r_given_in, Prod.eta]
  have e17 : ∀ X Y : Option Rt_r_given, cond (Bool.not (iltI g.2.1 (Int.ofNat 1))) (cond (Bool.not (Bool.not (iltI (Int.ofNat 7) g.2.1))) X Y) X = cond (S.within g.2.1 1 7) Y X := fun X Y => by
    rw [Bool.not_not]
    have := in_tree g.2.1 (Int.ofNat 1) (Int.ofNat 7) Y X
    simp only [oL] at this ⊢
    rw [← this]
    cases iltI g.2.1 1 <;> cases iltI 7 g.2.1 <;> rfl
  simp only [e17, in_tree]
  have e15 : S.within g.2.1 (Int.ofNat 1) (Int.ofNat 5) = S.sourced g := rfl
  rw [e15]
  unfold S.rgive S.srcOK
  cases hs : S.sourced g with
  | true =>
    rw [iltI_eq]
    simp only [oL]
    by_cases hc : S.col f.2 g.1 < 0
    · rw [decide_eq_true hc, if_pos ⟨by trivial, hc⟩]; rfl
    · rw [decide_eq_false hc, if_neg (fun h => hc h.2), decide_eq_true (show 0 ≤ S.col f.2 g.1 by omega)]
      cases S.within g.2.1 1 7 <;> cases S.numbered g b <;> cases S.rfits l g (S.fromOf g f.2) b <;> rfl
  | false =>
    rw [if_neg (fun h => by cases h.1)]
    simp only [oL]
    cases S.within g.2.1 1 7 <;> cases S.numbered g b <;> cases S.rfits l g (S.fromOf g f.2) b <;> rfl
theorem con_r_given : Con Tryz.prog id_r_given sp_r_given := mk_r_given ⟨con_r_column, con_r_numbered, con_r_typed, trivial⟩ fun x y _ h => ⟨0, (F_r_given_eq _ _ _ _ _).trans h⟩
end Go.Proofs.YtcnhjofpmpipfaaGreat
end

/- What the reference's functions about lists of rules compute. -/
section
set_option linter.unusedVariables false
noncomputable section
namespace Go.Proofs.YtcnhjofpmpipfaaGreat
open Go Go.Sx Go.RowKit Go.Jx
namespace S
/-- Rules are asked of classes that are right. -/
def ruledPre (a b : List DForm) : Bool := decide (checkForms a = 0) && decide (checkForms b = 0)
end S
def sp_r_ruled : Sm := ⟨[.list cForm, .list cForm, .list cRule], [(false, .int .i64)], fun x => cond (S.ruledPre x.1 x.2.1) (some (S.checkRules0 x.1 x.2.1 x.2.2.1, ())) none⟩
end Go.Proofs.YtcnhjofpmpipfaaGreat

end
end

/- Made by program: plain forms of functions. -/
section
set_option linter.unusedVariables false
set_option maxRecDepth 100000
noncomputable section
namespace Go.Proofs.YtcnhjofpmpipfaaGreat
open Go Go.Sx Go.RowKit Go.Jx
def nm_r_ruled : Nat → Option Nm := fun k => cond (Nat.beq k 4) (some ⟨[0, 1, 2, 7], [], [], [], [], 0, 0, false⟩) (cond (Nat.beq k 11) (some ⟨[0, 1, 2, 8], [], [], [], [], 0, 0, false⟩) (cond (Nat.beq k 16) (some ⟨[0, 1, 2, 9], [], [], [], [], 0, 0, false⟩) (cond (Nat.beq k 23) (some ⟨[0, 1, 2, 9, 10, 11, 12], [], [], [], [], 0, 0, false⟩) (none))))
def st_r_ruled : Nat → Bool := fun k => cond (Nat.beq k 4) true (cond (Nat.beq k 11) true (cond (Nat.beq k 16) true (cond (Nat.beq k 23) true (false))))
def hd_r_ruled : Nat → Bool := fun k => cond (Nat.beq k 4) true (cond (Nat.beq k 11) true (cond (Nat.beq k 16) true (cond (Nat.beq k 23) true (false))))
abbrev Rt_r_ruled : Type := Int × Unit
def sml_r_ruled : List (Nat × Sm) := [(40, sp_r_form), (41, sp_r_rule), (55, sp_r_given)]
def hxl_r_ruled : List (Nat × Hx) := []
def cl_r_ruled (R : Type) (lf : Nat) : ClK R := icallK Tryz.prog ttT.get ftT.get (nm1 48 nm_r_ruled) (smL sml_r_ruled) (hxL hxl_r_ruled) lf 20 R
abbrev id_r_ruled : Nat := 48
def enc_r_ruled_4 (x1 : (List DForm)) (x2 : (List DForm)) (x3 : (List DRule)) (p : Int) : NRes := (NRes.mk (PT.node (some (IV.lst cForm x1)) (PT.node (some (IV.lst cForm x2)) (PT.node none (PT.node (some (IV.int Go.IntKind.i64 p)) PT.leaf PT.leaf) PT.leaf) PT.leaf) (PT.node (some (IV.lst cRule x3)) PT.leaf PT.leaf)) (IS.mk PT.leaf 0) [] 0)
def enc_r_ruled_11 (x1 : (List DForm)) (x2 : (List DForm)) (x3 : (List DRule)) (p : Int) : NRes := (NRes.mk (PT.node (some (IV.lst cForm x1)) (PT.node (some (IV.lst cForm x2)) PT.leaf PT.leaf) (PT.node (some (IV.lst cRule x3)) (PT.node none (PT.node (some (IV.int Go.IntKind.i64 p)) PT.leaf PT.leaf) PT.leaf) PT.leaf)) (IS.mk PT.leaf 0) [] 0)
def enc_r_ruled_16 (x1 : (List DForm)) (x2 : (List DForm)) (x3 : (List DRule)) (p : Int) : NRes := (NRes.mk (PT.node (some (IV.lst cForm x1)) (PT.node (some (IV.lst cForm x2)) PT.leaf (PT.node none (PT.node (some (IV.int Go.IntKind.i64 p)) PT.leaf PT.leaf) PT.leaf)) (PT.node (some (IV.lst cRule x3)) PT.leaf PT.leaf)) (IS.mk PT.leaf 0) [] 0)
def enc_r_ruled_23 (x1 : (List DForm)) (x2 : (List DForm)) (x3 : (List DRule)) (p : (List DCol) × ByteArray × (List DCol) × ByteArray × Int × Int) : NRes := (NRes.mk (PT.node (some (IV.lst cForm x1)) (PT.node (some (IV.lst cForm x2)) (PT.node none PT.leaf (PT.node (some (IV.ptr 1 0)) PT.leaf PT.leaf)) (PT.node none (PT.node (some (IV.int Go.IntKind.i64 p.2.2.2.2.2)) PT.leaf PT.leaf) PT.leaf)) (PT.node (some (IV.lst cRule x3)) (PT.node none PT.leaf (PT.node (some (IV.int Go.IntKind.i64 p.2.2.2.2.1)) PT.leaf PT.leaf)) (PT.node none (PT.node (some (IV.ptr 0 0)) PT.leaf PT.leaf) PT.leaf))) (IS.mk (PT.node (some (IObj.row (List.cons (IV.str p.2.1) (List.cons (IV.lst cCol p.2.2.1) [])))) (PT.node (some (IObj.row (List.cons (IV.str p.2.2.2.1) (List.cons (IV.lst cCol p.1) [])))) PT.leaf PT.leaf) PT.leaf) 2) [] 0)
def R_r_ruled_in (lf : Nat) (x1 : (List DForm)) (x2 : (List DForm)) (x3 : (List DRule)) (L4 : Int → Option Rt_r_ruled) : Option Rt_r_ruled := (cond (iltI (Int.ofNat 24) (Int.ofNat (List.length x3))) (some ((Int.ofNat 3), ())) (L4 (Int.ofNat 0)))
def R_r_ruled_4 (lf : Nat) (x1 : (List DForm)) (x2 : (List DForm)) (x3 : (List DRule)) (L4 : Int → Option Rt_r_ruled) (L11 : Int → Option Rt_r_ruled) (p : Int) : Option Rt_r_ruled := (cond (iltI p (Int.ofNat (List.length x3))) (match (jget x3 p) with | .none  => none | .some v0 => (cond (iltI (Go.Proofs.YtcnhjofpmpipfaaGreat.S.form x1 v0.1) (Int.ofNat 0)) (some ((Int.ofNat 4), ())) (match (jget x3 p) with | .none  => none | .some v1 => (cond (iltI (Go.Proofs.YtcnhjofpmpipfaaGreat.S.form x2 v1.2.1) (Int.ofNat 0)) (some ((Int.ofNat 4), ())) (match (jget x3 p) with | .none  => none | .some v2 => (cond (iltI (S.idx (fun v3 => (keqS v3.1 v2.1)) x3) p) (some ((Int.ofNat 6), ())) (L4 (Go.IntKind.wrap Go.IntKind.i64 (Int.add p (Int.ofNat 1)))))))))) (L11 (Int.ofNat 0)))
def R_r_ruled_11 (lf : Nat) (x1 : (List DForm)) (x2 : (List DForm)) (x3 : (List DRule)) (L11 : Int → Option Rt_r_ruled) (L16 : Int → Option Rt_r_ruled) (p : Int) : Option Rt_r_ruled := (cond (iltI p (Int.ofNat (List.length x1))) (match (jget x1 p) with | .none  => none | .some v0 => (cond (iltI (S.idx (fun v1 => (keqS v1.1 v0.1)) x3) (Int.ofNat 0)) (some ((Int.ofNat 5), ())) (L11 (Go.IntKind.wrap Go.IntKind.i64 (Int.add p (Int.ofNat 1)))))) (L16 (Int.ofNat 0)))
def R_r_ruled_16 (lf : Nat) (x1 : (List DForm)) (x2 : (List DForm)) (x3 : (List DRule)) (L23 : ((List DCol) × ByteArray × (List DCol) × ByteArray × Int × Int) → Option Rt_r_ruled) (p : Int) : Option Rt_r_ruled := (cond (iltI p (Int.ofNat (List.length x3))) (match (jget x3 p) with | .none  => none | .some v0 => (match (jget x1 (Go.Proofs.YtcnhjofpmpipfaaGreat.S.form x1 v0.1)) with | .none  => none | .some v1 => (match (jget x3 p) with | .none  => none | .some v2 => (match (jget x2 (Go.Proofs.YtcnhjofpmpipfaaGreat.S.form x2 v2.2.1)) with | .none  => none | .some v3 => (match (jget x3 p) with | .none  => none | .some v4 => (cond (Bool.not (ieqI (Int.ofNat (List.length v4.2.2)) (Int.ofNat (List.length v3.2)))) (some ((Int.ofNat 2), ())) (L23 (v3.2, v1.1, v1.2, v3.1, (Int.ofNat 0), p)))))))) (some ((Int.ofNat 0), ())))
def R_r_ruled_23 (lf : Nat) (x1 : (List DForm)) (x2 : (List DForm)) (x3 : (List DRule)) (L23 : ((List DCol) × ByteArray × (List DCol) × ByteArray × Int × Int) → Option Rt_r_ruled) (L16 : Int → Option Rt_r_ruled) (p : (List DCol) × ByteArray × (List DCol) × ByteArray × Int × Int) : Option Rt_r_ruled := (cond (iltI p.2.2.2.2.1 (Int.ofNat (List.length p.1))) (match (jget x3 p.2.2.2.2.2) with | .none  => none | .some v0 => (match (jget v0.2.2 p.2.2.2.2.1) with | .none  => none | .some v1 => (match (jget p.1 p.2.2.2.2.1) with | .none  => none | .some v2 => (cond (Bool.not (ieqI (Go.Proofs.YtcnhjofpmpipfaaGreat.S.rgive x3 (v1.1, (v1.2.1, v1.2.2)) p.2.2.1 (v2.1, (v2.2.1, v2.2.2))) (Int.ofNat 0))) (some ((Go.Proofs.YtcnhjofpmpipfaaGreat.S.rgive x3 (v1.1, (v1.2.1, v1.2.2)) p.2.2.1 (v2.1, (v2.2.1, v2.2.2))), ())) (L23 (p.1, p.2.1, p.2.2.1, p.2.2.2.1, (Go.IntKind.wrap Go.IntKind.i64 (Int.add p.2.2.2.2.1 (Int.ofNat 1))), p.2.2.2.2.2)))))) (L16 (Go.IntKind.wrap Go.IntKind.i64 (Int.add p.2.2.2.2.2 (Int.ofNat 1)))))
theorem in_r_ruled (g : ElA [(.list cForm), (.list cForm), (.list cRule)] → Option Rt_r_ruled) (J : Nat → List Nat → NRes → Option Rt_r_ruled) (lf : Nat) (x1 : (List DForm)) (x2 : (List DForm)) (x3 : (List DRule)) : icodeT Tryz.prog ttT.get nm_r_ruled fi48.nt (cl_r_ruled _ lf) lf st_r_ruled J fi48.body [] (argGo (argV [(.list cForm), (.list cForm), (.list cRule)] (x1, x2, x3, ())) 0 .leaf) S0 [] (lastK ttT.get fi48 ⟨[(.list cForm), (.list cForm), (.list cRule)], [(false, (.int .i64))], g⟩) = R_r_ruled_in lf x1 x2 x3 (fun q => J 4 [lf] (enc_r_ruled_4 x1 x2 x3 q)) := by kernel_rfl
theorem st_r_ruled_4 (g : ElA [(.list cForm), (.list cForm), (.list cRule)] → Option Rt_r_ruled) (J : Nat → List Nat → NRes → Option Rt_r_ruled) (lf : Nat) (x1 : (List DForm)) (x2 : (List DForm)) (x3 : (List DRule)) (m1 : Nat) (p : Int) : icodeFT Tryz.prog ttT.get nm_r_ruled fi48.nt (cl_r_ruled _ lf) lf st_r_ruled J 4 fi48.body [] [m1] (enc_r_ruled_4 x1 x2 x3 p) (lastK ttT.get fi48 ⟨[(.list cForm), (.list cForm), (.list cRule)], [(false, (.int .i64))], g⟩) = R_r_ruled_4 lf x1 x2 x3 (fun q => J 4 [m1] (enc_r_ruled_4 x1 x2 x3 q)) (fun q => J 11 [lf] (enc_r_ruled_11 x1 x2 x3 q)) p := by kernel_rfl
theorem st_r_ruled_11 (g : ElA [(.list cForm), (.list cForm), (.list cRule)] → Option Rt_r_ruled) (J : Nat → List Nat → NRes → Option Rt_r_ruled) (lf : Nat) (x1 : (List DForm)) (x2 : (List DForm)) (x3 : (List DRule)) (m1 : Nat) (p : Int) : icodeFT Tryz.prog ttT.get nm_r_ruled fi48.nt (cl_r_ruled _ lf) lf st_r_ruled J 11 fi48.body [] [m1] (enc_r_ruled_11 x1 x2 x3 p) (lastK ttT.get fi48 ⟨[(.list cForm), (.list cForm), (.list cRule)], [(false, (.int .i64))], g⟩) = R_r_ruled_11 lf x1 x2 x3 (fun q => J 11 [m1] (enc_r_ruled_11 x1 x2 x3 q)) (fun q => J 16 [lf] (enc_r_ruled_16 x1 x2 x3 q)) p := by kernel_rfl
theorem st_r_ruled_16 (g : ElA [(.list cForm), (.list cForm), (.list cRule)] → Option Rt_r_ruled) (J : Nat → List Nat → NRes → Option Rt_r_ruled) (lf : Nat) (x1 : (List DForm)) (x2 : (List DForm)) (x3 : (List DRule)) (m1 : Nat) (p : Int) : icodeFT Tryz.prog ttT.get nm_r_ruled fi48.nt (cl_r_ruled _ lf) lf st_r_ruled J 16 fi48.body [] [m1] (enc_r_ruled_16 x1 x2 x3 p) (lastK ttT.get fi48 ⟨[(.list cForm), (.list cForm), (.list cRule)], [(false, (.int .i64))], g⟩) = R_r_ruled_16 lf x1 x2 x3 (fun q => J 23 [m1, lf] (enc_r_ruled_23 x1 x2 x3 q)) p := by kernel_rfl
theorem st_r_ruled_23 (g : ElA [(.list cForm), (.list cForm), (.list cRule)] → Option Rt_r_ruled) (J : Nat → List Nat → NRes → Option Rt_r_ruled) (lf : Nat) (x1 : (List DForm)) (x2 : (List DForm)) (x3 : (List DRule)) (m1 : Nat) (m2 : Nat) (p : (List DCol) × ByteArray × (List DCol) × ByteArray × Int × Int) : icodeFT Tryz.prog ttT.get nm_r_ruled fi48.nt (cl_r_ruled _ lf) lf st_r_ruled J 23 fi48.body [] [m1, m2] (enc_r_ruled_23 x1 x2 x3 p) (lastK ttT.get fi48 ⟨[(.list cForm), (.list cForm), (.list cRule)], [(false, (.int .i64))], g⟩) = R_r_ruled_23 lf x1 x2 x3 (fun q => J 23 [m1, m2] (enc_r_ruled_23 x1 x2 x3 q)) (fun q => J 16 [m1] (enc_r_ruled_16 x1 x2 x3 q)) p := by kernel_rfl
theorem nd_r_ruled : (regs fi48.body).Nodup := by decide +kernel
theorem ok_r_ruled : okC nm_r_ruled st_r_ruled hd_r_ruled fi48.body none = true := by kernel_rfl
def A_r_ruled (g : ElA [(.list cForm), (.list cForm), (.list cRule)] → Option Rt_r_ruled) (lf : Nat) : Nat → List Nat → NRes → Option Rt_r_ruled := atN Tryz.prog ttT.get nm_r_ruled fi48 ⟨[(.list cForm), (.list cForm), (.list cRule)], [(false, (.int .i64))], g⟩ (cl_r_ruled _ lf) lf hd_r_ruled
def G_r_ruled_23 (lf : Nat) (x1 : (List DForm)) (x2 : (List DForm)) (x3 : (List DRule)) (K16 : Int → Option Rt_r_ruled) : Nat → ((List DCol) × ByteArray × (List DCol) × ByteArray × Int × Int) → Option Rt_r_ruled := rounds fun K p => R_r_ruled_23 lf x1 x2 x3 K K16 p
theorem at_r_ruled_23 (g : ElA [(.list cForm), (.list cForm), (.list cRule)] → Option Rt_r_ruled) (lf : Nat) (x1 : (List DForm)) (x2 : (List DForm)) (x3 : (List DRule)) (m1 : Nat) : ∀ (n : Nat) (p : (List DCol) × ByteArray × (List DCol) × ByteArray × Int × Int), A_r_ruled g lf 23 [m1, n] (enc_r_ruled_23 x1 x2 x3 p) = G_r_ruled_23 lf x1 x2 x3 (fun q => A_r_ruled g lf 16 [m1] (enc_r_ruled_16 x1 x2 x3 q)) n p
  | 0, p => atN_zero 23 [m1, 0] rfl _
  | n + 1, p => by
    have ih := at_r_ruled_23 g lf x1 x2 x3 m1 n
    refine (atN_eq (icallK_eq 20 _) nd_r_ruled ok_r_ruled 23 [m1, n + 1] [m1, n] rfl _).trans ((st_r_ruled_23 g (A_r_ruled g lf) lf x1 x2 x3 m1 n p).trans ?_)
    rw [(show (fun q => A_r_ruled g lf 23 [m1, n] (enc_r_ruled_23 x1 x2 x3 q)) = (fun q => G_r_ruled_23 lf x1 x2 x3 (fun q => A_r_ruled g lf 16 [m1] (enc_r_ruled_16 x1 x2 x3 q)) n q) from funext ih)]
    rfl
def G_r_ruled_16 (lf : Nat) (x1 : (List DForm)) (x2 : (List DForm)) (x3 : (List DRule)) : Nat → (Int) → Option Rt_r_ruled := rounds fun K p => R_r_ruled_16 lf x1 x2 x3 (fun q => G_r_ruled_23 lf x1 x2 x3 K lf q) p
theorem at_r_ruled_16 (g : ElA [(.list cForm), (.list cForm), (.list cRule)] → Option Rt_r_ruled) (lf : Nat) (x1 : (List DForm)) (x2 : (List DForm)) (x3 : (List DRule)) : ∀ (n : Nat) (p : Int), A_r_ruled g lf 16 [n] (enc_r_ruled_16 x1 x2 x3 p) = G_r_ruled_16 lf x1 x2 x3 n p
  | 0, p => atN_zero 16 [0] rfl _
  | n + 1, p => by
    have ih := at_r_ruled_16 g lf x1 x2 x3 n
    refine (atN_eq (icallK_eq 20 _) nd_r_ruled ok_r_ruled 16 [n + 1] [n] rfl _).trans ((st_r_ruled_16 g (A_r_ruled g lf) lf x1 x2 x3 n p).trans ?_)
    rw [(show (fun q => A_r_ruled g lf 23 [n, lf] (enc_r_ruled_23 x1 x2 x3 q)) = (fun q => G_r_ruled_23 lf x1 x2 x3 (fun q => A_r_ruled g lf 16 [n] (enc_r_ruled_16 x1 x2 x3 q)) lf q) from funext fun q => at_r_ruled_23 g lf x1 x2 x3 n lf q), (show (fun q => A_r_ruled g lf 16 [n] (enc_r_ruled_16 x1 x2 x3 q)) = (fun q => G_r_ruled_16 lf x1 x2 x3 n q) from funext ih)]
    rfl
def G_r_ruled_11 (lf : Nat) (x1 : (List DForm)) (x2 : (List DForm)) (x3 : (List DRule)) : Nat → (Int) → Option Rt_r_ruled := rounds fun K p => R_r_ruled_11 lf x1 x2 x3 K (fun q => G_r_ruled_16 lf x1 x2 x3 lf q) p
theorem at_r_ruled_11 (g : ElA [(.list cForm), (.list cForm), (.list cRule)] → Option Rt_r_ruled) (lf : Nat) (x1 : (List DForm)) (x2 : (List DForm)) (x3 : (List DRule)) : ∀ (n : Nat) (p : Int), A_r_ruled g lf 11 [n] (enc_r_ruled_11 x1 x2 x3 p) = G_r_ruled_11 lf x1 x2 x3 n p
  | 0, p => atN_zero 11 [0] rfl _
  | n + 1, p => by
    have ih := at_r_ruled_11 g lf x1 x2 x3 n
    refine (atN_eq (icallK_eq 20 _) nd_r_ruled ok_r_ruled 11 [n + 1] [n] rfl _).trans ((st_r_ruled_11 g (A_r_ruled g lf) lf x1 x2 x3 n p).trans ?_)
    rw [(show (fun q => A_r_ruled g lf 16 [lf] (enc_r_ruled_16 x1 x2 x3 q)) = (fun q => G_r_ruled_16 lf x1 x2 x3 lf q) from funext fun q => at_r_ruled_16 g lf x1 x2 x3 lf q), (show (fun q => A_r_ruled g lf 11 [n] (enc_r_ruled_11 x1 x2 x3 q)) = (fun q => G_r_ruled_11 lf x1 x2 x3 n q) from funext ih)]
    rfl
def G_r_ruled_4 (lf : Nat) (x1 : (List DForm)) (x2 : (List DForm)) (x3 : (List DRule)) : Nat → (Int) → Option Rt_r_ruled := rounds fun K p => R_r_ruled_4 lf x1 x2 x3 K (fun q => G_r_ruled_11 lf x1 x2 x3 lf q) p
theorem at_r_ruled_4 (g : ElA [(.list cForm), (.list cForm), (.list cRule)] → Option Rt_r_ruled) (lf : Nat) (x1 : (List DForm)) (x2 : (List DForm)) (x3 : (List DRule)) : ∀ (n : Nat) (p : Int), A_r_ruled g lf 4 [n] (enc_r_ruled_4 x1 x2 x3 p) = G_r_ruled_4 lf x1 x2 x3 n p
  | 0, p => atN_zero 4 [0] rfl _
  | n + 1, p => by
    have ih := at_r_ruled_4 g lf x1 x2 x3 n
    refine (atN_eq (icallK_eq 20 _) nd_r_ruled ok_r_ruled 4 [n + 1] [n] rfl _).trans ((st_r_ruled_4 g (A_r_ruled g lf) lf x1 x2 x3 n p).trans ?_)
    rw [(show (fun q => A_r_ruled g lf 11 [lf] (enc_r_ruled_11 x1 x2 x3 q)) = (fun q => G_r_ruled_11 lf x1 x2 x3 lf q) from funext fun q => at_r_ruled_11 g lf x1 x2 x3 lf q), (show (fun q => A_r_ruled g lf 4 [n] (enc_r_ruled_4 x1 x2 x3 q)) = (fun q => G_r_ruled_4 lf x1 x2 x3 n q) from funext ih)]
    rfl
def F_r_ruled (lf : Nat) (x1 : (List DForm)) (x2 : (List DForm)) (x3 : (List DRule)) : Option Rt_r_ruled := R_r_ruled_in lf x1 x2 x3 (fun q => G_r_ruled_4 lf x1 x2 x3 lf q)
theorem run_r_ruled (g : ElA [(.list cForm), (.list cForm), (.list cRule)] → Option Rt_r_ruled) (lf : Nat) (x1 : (List DForm)) (x2 : (List DForm)) (x3 : (List DRule)) : icodeT Tryz.prog ttT.get nm_r_ruled fi48.nt (cl_r_ruled _ lf) lf st_r_ruled (A_r_ruled g lf) fi48.body [] (argGo (argV [(.list cForm), (.list cForm), (.list cRule)] (x1, x2, x3, ())) 0 .leaf) S0 [] (lastK ttT.get fi48 ⟨[(.list cForm), (.list cForm), (.list cRule)], [(false, (.int .i64))], g⟩) = F_r_ruled lf x1 x2 x3 := by
    refine (in_r_ruled g (A_r_ruled g lf) lf x1 x2 x3).trans ?_
    rw [(show (fun q => A_r_ruled g lf 4 [lf] (enc_r_ruled_4 x1 x2 x3 q)) = (fun q => G_r_ruled_4 lf x1 x2 x3 lf q) from funext fun q => at_r_ruled_4 g lf x1 x2 x3 lf q)]
    rfl
theorem hxs_r_ruled : HxsOK Tryz.prog hxl_r_ruled := trivial
theorem mk_r_ruled {g : ElA [(.list cForm), (.list cForm), (.list cRule)] → Option Rt_r_ruled} (hsm : SmOK Tryz.prog sml_r_ruled) (hg : ∀ (x : ElA [(.list cForm), (.list cForm), (.list cRule)]) (y : Rt_r_ruled), WfA [(.list cForm), (.list cForm), (.list cRule)] x → g x = some y → ∃ lf, F_r_ruled lf x.1 x.2.1 x.2.2.1 = some y) : Con Tryz.prog 48 ⟨[(.list cForm), (.list cForm), (.list cRule)], [(false, (.int .i64))], g⟩ :=
  conT (nmf := nm_r_ruled) (sml := sml_r_ruled) (hxl := hxl_r_ruled) (st := st_r_ruled) (hd := hd_r_ruled) 20 mixed ttOK ftOK hsm hxs_r_ruled cal48 rfl rfl (by kernel_rfl) (fun x => by kernel_rfl) nd_r_ruled ok_r_ruled fun x y hx hy => by
    obtain ⟨lf, h⟩ := hg x y hx hy
    exact ⟨lf, (run_r_ruled g lf x.1 x.2.1 x.2.2.1).trans h⟩
end Go.Proofs.YtcnhjofpmpipfaaGreat

end
end

/- The reference's way of checking rules. -/
section
set_option linter.unusedVariables false
set_option maxRecDepth 100000
namespace Go.Proofs.YtcnhjofpmpipfaaGreat
open Go Go.Sx Go.RowKit Go.Jx
theorem cfGo2_zero (l : List DForm) : ∀ fs : List DForm, S.cfGo2 l fs = 0 → ∀ f ∈ fs, S.cfIn l f.2 = true
  | [], _ => fun f hf => absurd hf (by simp)
  | f :: r, h => by
    rw [S.cfGo2] at h
    by_cases hc : S.cfIn l f.2 = true
    · rw [if_pos hc] at h
      intro x hx
      rcases List.mem_cons.1 hx with e | e
      · rw [e]; exact hc
      · exact cfGo2_zero l r h x e
    · rw [if_neg hc] at h; exact absurd h (by decide)
theorem cfGo_zero (l : List DForm) : ∀ (fs : List DForm) (k : Nat), S.cfGo l k fs = 0 → (∀ f ∈ fs, S.class_ f.1 = true ∧ S.checkCols f.2 = 0) ∧ S.cfGo2 l l = 0
  | [], k, h => ⟨fun f hf => absurd hf (by simp), h⟩
  | f :: r, k, h => by
    rw [S.cfGo] at h
    simp only [first3, S.unlessE] at h
    cases hcl : S.class_ f.1 with
    | false => rw [hcl] at h; exact absurd h (by simp)
    | true =>
      rw [hcl, cond_true, if_pos (rfl : (0 : Int) = 0)] at h
      cases hd : decide (S.form (l.take k) f.1 < 0) with
      | false => rw [hd] at h; exact absurd h (by simp)
      | true =>
        rw [hd, cond_true, if_pos (rfl : (0 : Int) = 0)] at h
        by_cases hk : S.checkCols f.2 = 0
        · rw [if_pos hk] at h
          have ih := cfGo_zero l r (k + 1) h
          refine ⟨fun x hx => ?_, ih.2⟩
          rcases List.mem_cons.1 hx with e | e
          · rw [e]; exact ⟨hcl, hk⟩
          · exact ih.1 x e
        · rw [if_neg hk] at h; exact absurd h hk
theorem forms_zero {l : List DForm} (h : S.checkForms l = 0) : (∀ f ∈ l, S.class_ f.1 = true ∧ S.checkCols f.2 = 0) ∧ ∀ f ∈ l, S.cfIn l f.2 = true := by
  unfold S.checkForms at h
  by_cases h24 : 24 < l.length
  · rw [if_pos h24] at h; exact absurd h (by decide)
  · rw [if_neg h24] at h
    have := cfGo_zero l l 0 h
    exact ⟨this.1, cfGo2_zero l l this.2⟩
theorem ccGo_zero (l : List DCol) : ∀ (cs : List DCol) (k : Nat), S.ccGo l k cs = 0 → ∀ c ∈ cs, S.within c.2.1 1 3 = true
  | [], _, _ => fun c hc => absurd hc (by simp)
  | c :: r, k, h => by
    rw [S.ccGo] at h
    by_cases h1 : S.small c.1 = false
    · rw [if_pos h1] at h; exact absurd h (by decide)
    rw [if_neg h1] at h
    by_cases h2 : ¬ S.col (l.take k) c.1 < 0
    · rw [if_pos h2] at h; exact absurd h (by decide)
    rw [if_neg h2] at h
    by_cases h3 : S.within c.2.1 1 3 = false
    · rw [if_pos h3] at h; exact absurd h (by decide)
    rw [if_neg h3] at h
    by_cases h4 : ¬ c.2.1 = 3 ∧ ¬ c.2.2 = S.lit []
    · rw [if_pos h4] at h; exact absurd h (by decide)
    rw [if_neg h4] at h
    intro x hx
    rcases List.mem_cons.1 hx with e | e
    · rw [e]; simpa using h3
    · exact ccGo_zero l r (k + 1) h x e
theorem cols_zero {l : List DCol} (h : S.checkCols l = 0) : ∀ c ∈ l, S.within c.2.1 1 3 = true := by
  unfold S.checkCols at h
  by_cases h30 : 30 < l.length
  · rw [if_pos h30] at h; exact absurd h (by decide)
  · rw [if_neg h30] at h; exact ccGo_zero l l 0 h
theorem cfIn_iff (l : List DForm) : ∀ cs : List DCol, S.cfIn l cs = true → ∀ c ∈ cs, c.2.1 = 3 → c.2.2 = S.ANY ∨ 0 ≤ S.form l c.2.2
  | [], _ => fun c hc => absurd hc (by simp)
  | c :: r, h => by
    rw [S.cfIn] at h
    by_cases hc : c.2.1 = 3 ∧ ¬ c.2.2 = S.ANY ∧ S.form l c.2.2 < 0
    · rw [if_pos hc] at h; cases h
    · rw [if_neg hc] at h
      intro x hx h3
      rcases List.mem_cons.1 hx with e | e
      · rw [e] at h3 ⊢
        by_cases hA : c.2.2 = S.ANY
        · exact .inl hA
        · exact .inr (by have : ¬ S.form l c.2.2 < 0 := fun hh => hc ⟨h3, hA, hh⟩; omega)
      · exact cfIn_iff l r h x e h3
theorem class_ne_any {s : ByteArray} (h : S.class_ s = true) : ¬ s = S.ANY := by
  intro e
  rw [e] at h
  exact absurd h (by decide +kernel)
theorem class_ne_nil {s : ByteArray} (h : S.class_ s = true) : ¬ s = S.lit [] := by
  intro e
  rw [e] at h
  exact absurd h (by decide +kernel)
/-- What a column of right classes is. -/
structure ColOK (b : DCol) : Prop where
  kind : S.within b.2.1 1 3 = true
  cls : b.2.1 = 3 → ¬ b.2.2 = S.lit []
theorem col_ok {l : List DForm} (h : S.checkForms l = 0) {f : DForm} (hf : f ∈ l) {c : DCol} (hc : c ∈ f.2) : ColOK c := by
  have hz := forms_zero h
  refine ⟨cols_zero (hz.1 f hf).2 c hc, fun h3 => ?_⟩
  rcases cfIn_iff l f.2 (hz.2 f hf) c hc h3 with e | e
  · rw [e]; decide +kernel
  · obtain ⟨g, _, _, g3, g4⟩ := form_get e
    rw [← g4]
    exact class_ne_nil (hz.1 g g3).1
theorem rleads_eq {l : List DRule} (h1 : ∀ r ∈ l, ¬ r.1 = S.ANY) {a b : DCol} (hb : ¬ b.2.2 = S.lit []) : S.rleads l a b = S.leads l a.2.2 b.2.2 := by
  unfold S.rleads S.leads
  by_cases hA : b.2.2 = S.ANY
  · simp [hA]
  rw [decide_eq_false hA, Bool.false_or, Bool.false_or]
  cases hr : (S.ruleOf l a.2.2).2 with
  | true =>
    have hm := ruleOf_mem hr
    have hn : ¬ a.2.2 = S.ANY := fun e => h1 _ hm.1 (hm.2.trans e)
    rw [decide_eq_true hn]
  | false =>
    have hz : (S.ruleOf l a.2.2).1 = S.zRule := by
      unfold S.ruleOf at hr ⊢
      split at hr
      · cases hr
      · rfl
    rw [hz, Bool.false_and]
    have : ¬ S.zRule.2.1 = b.2.2 := fun e => hb e.symm
    rw [decide_eq_false this, Bool.and_false]
theorem rgive_eq {l : List DRule} (h1 : ∀ r ∈ l, ¬ r.1 = S.ANY) (g : DGive) (cols : List DCol) {b : DCol} (hb : ColOK b) : S.rgive l g cols b = S.give l g cols b := by
  unfold S.rgive S.give S.fromOf S.sourced
  by_cases h4 : S.within g.2.1 1 5 = true ∧ S.col cols g.1 < 0
  · rw [if_pos h4, if_pos h4]
  rw [if_neg h4, if_neg h4]
  generalize hx : (if S.within g.2.1 1 5 = true then S.at_ S.zCol cols (S.col cols g.1) else S.zCol) = x
  have hk := hb.kind
  have hc := hb.cls
  have hle : b.2.1 = 3 → S.rleads l x b = S.leads l x.2.2 b.2.2 := fun h3 => rleads_eq h1 (hc h3)
  have hnum : (S.within g.2.1 1 7 = false ∨ S.numbered g b = false) ↔ (S.within g.2.1 1 7 = false ∨ (S.within g.2.1 1 5 = false ∧ ¬ g.1 = S.lit []) ∨ S.within g.2.2 (-S.most g) (S.most g) = false ∨ (g.2.1 = 6 ∧ b.2.1 = 2 ∧ S.within g.2.2 0 1 = false)) := by
    by_cases h7 : S.within g.2.1 1 7 = false
    · simp [h7]
    have h7' : 1 ≤ g.2.1 ∧ g.2.1 ≤ 7 := by
      simp only [S.within, Bool.and_eq_false_iff, decide_eq_false_iff_not] at h7
      omega
    simp only [h7, false_or]
    unfold S.numbered S.most
    by_cases hn : g.1 = S.lit []
    · by_cases e4 : g.2.1 = 4
      · simp [e4, hn]
      by_cases e6 : g.2.1 = 6
      · by_cases hb2 : b.2.1 = 2
        · simp only [e6, hb2, hn, S.within, if_true]
          simp
          omega
        · simp [e6, hb2, hn]
      · have hm : S.within g.2.2 0 0 = decide (g.2.2 = 0) := by
          unfold S.within
          rw [Bool.eq_iff_iff]
          simp only [Bool.and_eq_true, decide_eq_true_eq]
          omega
        by_cases e7 : g.2.1 = 7 <;> simp [e4, e6, e7, hn, hm]
    · by_cases e4 : g.2.1 = 4
      · simp [e4, hn, S.within]
      by_cases e6 : g.2.1 = 6
      · by_cases hb2 : b.2.1 = 2 <;> simp [e6, hb2, hn, S.within]
      · have hm : S.within g.2.2 0 0 = decide (g.2.2 = 0) := by
          unfold S.within
          rw [Bool.eq_iff_iff]
          simp only [Bool.and_eq_true, decide_eq_true_eq]
          omega
        by_cases e7 : g.2.1 = 7
        · simp [e7, hn, S.within]
        · have h5 : S.within g.2.1 1 5 = true := by
            simp only [S.within, Bool.and_eq_true, decide_eq_true_eq]; omega
          simp [e4, e6, e7, hn, hm, h5]
  by_cases hq : (S.within g.2.1 1 7 = false ∨ S.numbered g b = false)
  · rw [if_pos hq, if_pos (hnum.1 hq)]
  rw [if_neg hq, if_neg (fun h => hq (hnum.2 h))]
  have hq' := fun h => hq (hnum.2 h)
  have hfits : S.rfits l g x b = S.fits l g x b := by
    unfold S.rfits S.fits
    by_cases e1 : g.2.1 = 1
    · rw [if_pos e1, if_pos e1]
      by_cases ea : x.2.1 = b.2.1
      · by_cases eb : b.2.1 = 3
        · rw [hle eb, ea]
        · simp [ea, eb]
      · simp [ea]
    rw [if_neg e1, if_neg e1]
    by_cases e2 : g.2.1 = 2
    · rw [if_pos e2, if_pos e2]
    rw [if_neg e2, if_neg e2]
    by_cases e3 : g.2.1 = 3
    · rw [if_pos e3, if_pos e3]
    rw [if_neg e3, if_neg e3]
    by_cases e4 : g.2.1 = 4
    · rw [if_pos e4, if_pos e4]
    rw [if_neg e4, if_neg e4]
    by_cases e5 : g.2.1 = 5
    · rw [if_pos e5, if_pos e5]
      by_cases eb : b.2.1 = 3
      · rw [hle eb]
      · simp [eb]
    rw [if_neg e5, if_neg e5]
    by_cases e6 : g.2.1 = 6
    · rw [if_pos e6, if_pos e6]
      have hk' : 1 ≤ b.2.1 ∧ b.2.1 ≤ 3 := by
        simpa only [S.within, Bool.and_eq_true, decide_eq_true_eq] using hk
      by_cases eb : b.2.1 = 3
      · simp [eb]
      by_cases eb1 : b.2.1 = 1
      · simp [eb1]
      have eb2 : b.2.1 = 2 := by omega
      have hw : S.within g.2.2 0 1 = true := by
        cases hw : S.within g.2.2 0 1 with
        | true => rfl
        | false => exact absurd (.inr (.inr (.inr ⟨e6, eb2, hw⟩))) hq'
      simp [eb2, hw]
    · rw [if_neg e6, if_neg e6]
  rw [hfits]
end Go.Proofs.YtcnhjofpmpipfaaGreat
end

/- The reference's way of checking rules: its loops. -/
section
set_option linter.unusedVariables false
set_option maxRecDepth 100000
namespace Go.Proofs.YtcnhjofpmpipfaaGreat
open Go Go.Sx Go.RowKit Go.Jx
theorem ruleOf_idx (l : List DRule) (n : ByteArray) : (S.ruleOf l n).2 = !decide (S.idx (fun r : DRule => keqS r.1 n) l < 0) := by
  unfold S.ruleOf
  by_cases h : S.idx (fun r : DRule => keqS r.1 n) l < 0
  · rw [S.idx_neg h, decide_eq_true h]; rfl
  · obtain ⟨x, _, _, _, _, _, e⟩ := S.idx_get (p := fun r : DRule => keqS r.1 n) (l := l) (by omega)
    rw [e, decide_eq_false h]; rfl
theorem rr_inner (a b : List DForm) (l : List DRule) (h1 : ∀ r ∈ l, ¬ r.1 = S.ANY) (K16 : Int → Option Rt_r_ruled) (now was : List DCol) (na nb : ByteArray) (v : DRule) (gs : List DGive) (hv : v.2.2 = gs) (hg : gs.length < LF) (hlen : gs.length = now.length) (i : Nat) (hi : jget l (Int.ofNat i) = some v) (hok : ∀ c ∈ now, ColOK c) :
    G_r_ruled_23 LF a b l K16 LF (now, na, was, nb, Int.ofNat 0, Int.ofNat i) = (if S.crGives l was now gs = 0 then K16 (IntKind.i64.wrap (Int.add (Int.ofNat i) (Int.ofNat 1))) else some (S.crGives l was now gs, ())) := by
  refine range0 (σ := Unit) (R := Rt_r_ruled) (now.zip gs) (fun k _ => (now, na, was, nb, k, Int.ofNat i)) (fun _ _ => True) (fun rest k _ => if S.crGives l was (rest.map Prod.fst) (rest.map Prod.snd) = 0 then K16 (IntKind.i64.wrap (Int.add (Int.ofNat i) (Int.ofNat 1))) else some (S.crGives l was (rest.map Prod.fst) (rest.map Prod.snd), ())) (by rw [List.length_zip]; omega) (fun K s _ => ?_) (fun K k c rest s _ r h => ?_) () trivial |>.trans ?_
  · have e : (now.zip gs).length = now.length := by rw [List.length_zip]; omega
    simp only [R_r_ruled_23, e, ilt_self, cond_false, List.map_nil, S.crGives, if_true]
  · have e : (now.zip gs).length = now.length := by rw [List.length_zip]; omega
    have h := h () trivial
    have hk := r.get?
    have hz := List.getElem?_zip_eq_some.1 hk
    have hc : jget now (Int.ofNat k) = some c.1 := jget_nat.trans hz.1
    have hgk : jget v.2.2 (Int.ofNat k) = some c.2 := by rw [hv]; exact jget_nat.trans hz.2
    have hilt := r.ilt
    rw [e] at hilt
    simp only [R_r_ruled_23, hilt, cond_true, hi, hgk, hc, Prod.eta, r.next, h, List.map_cons, S.crGives]
    rw [rgive_eq h1 c.2 was (hok c.1 (List.mem_of_getElem? hz.1)), ne_zero]
    by_cases h0 : S.give l c.2 was c.1 = 0
    · rw [decide_eq_false (by simpa using h0), cond_false, if_pos h0]
    · rw [decide_eq_true h0, cond_true, if_neg h0, if_neg h0]
  · have e1 : (now.zip gs).map Prod.fst = now := List.map_fst_zip (by omega)
    have e2 : (now.zip gs).map Prod.snd = gs := List.map_snd_zip (by omega)
    rw [e1, e2]
theorem rr_third (a b : List DForm) (l : List DRule) (h1 : ∀ r ∈ l, ¬ r.1 = S.ANY) (hb : S.checkForms b = 0) (hl : l.length < LF) (hw : ∀ r ∈ l, r.2.2.length < LF) (hf : ∀ r ∈ l, 0 ≤ S.form a r.1 ∧ 0 ≤ S.form b r.2.1) : G_r_ruled_16 LF a b l LF (Int.ofNat 0) = some (S.crGo3 a b l l, ()) := by
  refine range1 (R := Rt_r_ruled) l (fun rest i => some (S.crGo3 a b l rest, ())) hl (fun K => ?_) (fun K i v rest r h => ?_)
  · simp only [R_r_ruled_16, ilt_self, cond_false]; rfl
  · obtain ⟨fa, a1, a2, a3, a4⟩ := form_get (hf v r.mem).1
    obtain ⟨fb, b1, b2, b3, b4⟩ := form_get (hf v r.mem).2
    simp only [R_r_ruled_16, r.ilt, r.get, cond_true, a1, b1, ieq_nat]
    rw [S.crGo3, a2, b2]
    by_cases hlen : v.2.2.length = fb.2.length
    · rw [decide_eq_true hlen, Bool.not_true, cond_false, if_pos hlen]
      refine (rr_inner a b l h1 K fb.2 fa.2 fa.1 fb.1 v v.2.2 rfl (hw v r.mem) hlen i r.get fun c hc => col_ok hb b3 hc).trans ?_
      rw [r.next, h]
      split <;> rfl
    · rw [decide_eq_false hlen, Bool.not_false, cond_true, if_neg hlen]
      rfl
theorem rr_second (a b : List DForm) (l : List DRule) (h1 : ∀ r ∈ l, ¬ r.1 = S.ANY) (hb : S.checkForms b = 0) (ha : a.length < LF) (hl : l.length < LF) (hw : ∀ r ∈ l, r.2.2.length < LF) (hf : ∀ r ∈ l, 0 ≤ S.form a r.1 ∧ 0 ≤ S.form b r.2.1) : G_r_ruled_11 LF a b l LF (Int.ofNat 0) = some (S.crGo2 a b l a, ()) := by
  refine range1 (R := Rt_r_ruled) a (fun rest i => some (S.crGo2 a b l rest, ())) ha (fun K => ?_) (fun K i v rest r h => ?_)
  · simp only [R_r_ruled_11, ilt_self, cond_false]
    exact rr_third a b l h1 hb hl hw hf
  · simp only [R_r_ruled_11, r.ilt, r.get, r.next, h, cond_true]
    rw [S.crGo2, ruleOf_idx, iltI_eq]
    simp only [oL]
    by_cases hi : S.idx (fun v1 : DRule => keqS v1.1 v.1) l < 0
    · rw [decide_eq_true hi]; rfl
    · rw [decide_eq_false hi]; rfl
theorem F_r_ruled_eq (a b : List DForm) (l : List DRule) (hA : S.checkForms a = 0) (hB : S.checkForms b = 0) (ha : a.length < LF) (hl : l.length < LF) (hw : ∀ r ∈ l, r.2.2.length < LF) : F_r_ruled LF a b l = some (S.checkRules0 a b l, ()) := by
  simp only [F_r_ruled, R_r_ruled_in, S.checkRules0, ilt_nat]
  by_cases h24 : 24 < l.length
  · rw [decide_eq_true h24, cond_true, if_pos h24]; rfl
  rw [decide_eq_false h24, cond_false, if_neg h24]
  refine range0 (σ := Unit) (R := Rt_r_ruled) l (fun i _ => i) (fun i _ => ∀ r ∈ l.take i, 0 ≤ S.form a r.1 ∧ 0 ≤ S.form b r.2.1) (fun rest i _ => some (S.crGo a b l i rest, ())) hl (fun K s hI => ?_) (fun K i v rest s hI r h => ?_) () (by simp)
  · simp only [R_r_ruled_4, ilt_self, cond_false]
    rw [List.take_length] at hI
    rw [S.crGo]
    refine rr_second a b l (fun r hr => ?_) hB ha hl hw hI
    obtain ⟨f, _, _, f3, f4⟩ := form_get (hI r hr).1
    rw [← f4]
    exact class_ne_any ((forms_zero hA).1 f f3).1
  · simp only [R_r_ruled_4, r.ilt, r.get, r.next, cond_true]
    have ht := idx_take (p := fun x : DRule => keqS x.1 v.1) r.get? (by simp [keqS])
    rw [S.crGo, ruleOf_idx, iltI_eq, iltI_eq, iltI_eq, show Int.ofNat 0 = (0 : Int) from rfl]
    by_cases h1 : S.form a v.1 < 0
    · rw [decide_eq_true h1, cond_true, if_pos h1]; rfl
    by_cases h2 : S.form b v.2.1 < 0
    · rw [decide_eq_false h1, cond_false, if_neg h1, decide_eq_true h2, cond_true, if_pos h2]; rfl
    rw [decide_eq_false h1, cond_false, if_neg h1, decide_eq_false h2, cond_false, if_neg h2]
    by_cases h3 : S.idx (fun x : DRule => keqS x.1 v.1) (l.take i) < 0
    · have hn : ¬ S.idx (fun v3 : DRule => keqS v3.1 v.1) l < Int.ofNat i := fun hh => (ht.1 hh) h3
      rw [decide_eq_false hn, cond_false, decide_eq_true h3, Bool.not_true, if_neg (by simp)]
      refine h () fun q hq => ?_
      rw [r.take, List.mem_append] at hq
      rcases hq with hq | hq
      · exact hI q hq
      · simp only [List.mem_cons, List.not_mem_nil, or_false] at hq
        subst hq
        exact ⟨by omega, by omega⟩
    · have hy : S.idx (fun v3 : DRule => keqS v3.1 v.1) l < Int.ofNat i := ht.2 h3
      rw [decide_eq_true hy, cond_true, decide_eq_false h3, Bool.not_false, if_pos rfl]
      rfl
theorem ruledPre_iff {a b : List DForm} (h : S.ruledPre a b = true) : S.checkForms a = 0 ∧ S.checkForms b = 0 := by
  simpa only [S.ruledPre, Bool.and_eq_true, decide_eq_true_eq] using h
theorem con_r_ruled : Con Tryz.prog id_r_ruled sp_r_ruled := mk_r_ruled ⟨con_r_form, con_r_rule, con_r_given, trivial⟩ fun x y hx h => ⟨LF, by
  have h : cond (S.ruledPre x.1 x.2.1) (some (S.checkRules0 x.1 x.2.1 x.2.2.1, ())) none = some y := h
  cases hr : S.ruledPre x.1 x.2.1 with
  | false => rw [hr] at h; cases h
  | true =>
    rw [hr] at h
    have hp := ruledPre_iff hr
    exact (F_r_ruled_eq _ _ _ hp.1 hp.2 (wf_len hx.1) (wf_len hx.2.2.1) fun r hr => wf_len (hx.2.2.1.2 r hr).2.2).trans h⟩
end Go.Proofs.YtcnhjofpmpipfaaGreat
end

/- The reference's way of making a field. -/
section
set_option linter.unusedVariables false
set_option maxRecDepth 100000
namespace Go.Proofs.YtcnhjofpmpipfaaGreat
open Go Go.Sx Go.RowKit Go.Jx
end Go.Proofs.YtcnhjofpmpipfaaGreat
end

/- What the reference's Convert, its comparisons and the law's bounds compute. -/
section
set_option linter.unusedVariables false
noncomputable section
namespace Go.Proofs.YtcnhjofpmpipfaaGreat
open Go Go.Sx Go.RowKit Go.Jx
namespace S
end S
namespace S
def fewForms (l : List DForm) : Bool :=
  l.all (fun f => decide (f.1.size ≤ 30 ∧ (f.2.length ≤ 6 ∨ 30 < f.2.length) ∧ f.2.length ≤ 40) && f.2.all fun c => decide (c.1.size ≤ 30 ∧ c.2.2.size ≤ 30)) && decide (l.length ≤ 6 ∨ 24 < l.length ∧ l.length ≤ 30)
def fewRules (l : List DRule) : Bool := l.all (fun r => decide (r.2.2.length ≤ 8)) && decide (l.length ≤ 8 ∨ 24 < l.length ∧ l.length ≤ 30)
end S
def sp_l_fewForms : Sm := ⟨[.list cForm], [(false, .bool)], fun x => some (S.fewForms x.1, ())⟩
def sp_l_fewRules : Sm := ⟨[.list cRule], [(false, .bool)], fun x => some (S.fewRules x.1, ())⟩
/-- The closed check answers yes. -/
def sp_l_sanity : Sm := ⟨[], [(false, .bool)], fun _ => some (true, ())⟩
end Go.Proofs.YtcnhjofpmpipfaaGreat

end
end

/- The closed check answers yes. -/
section
set_option linter.unusedVariables false
set_option maxRecDepth 100000
namespace Go.Proofs.YtcnhjofpmpipfaaGreat
open Go Go.Sx Go.RowKit Go.Jx
def exN : Ex := fun _ => none
def isR (o : Option Res) : Bool := match o with
  | some r => (match runR sp_l_sanity r with
    | some y => y.1
    | none => false)
  | none => false
theorem isR_spec {o : Option Res} (h : isR o = true) : ∃ r, o = some r ∧ runR sp_l_sanity r = some (true, ()) := by
  cases o with
  | none => cases h
  | some r =>
    refine ⟨r, rfl, ?_⟩
    unfold isR at h
    cases hr : runR sp_l_sanity r with
    | none => simp only [hr] at h; cases h
    | some y =>
      simp only [hr] at h
      exact congrArg some (Prod.ext h rfl)
theorem san10 : isR (icall Tryz.prog ttT.get ftT.get (fun _ _ => none) exN 1000 100 (.fn 10) [] S0) = true := by kernel_rfl
end Go.Proofs.YtcnhjofpmpipfaaGreat
end

/- Made by program: plain forms of functions. -/
section
set_option linter.unusedVariables false
set_option maxRecDepth 100000
noncomputable section
namespace Go.Proofs.YtcnhjofpmpipfaaGreat
open Go Go.Sx Go.RowKit Go.Jx
end Go.Proofs.YtcnhjofpmpipfaaGreat

end
end

/- Made by program: plain forms of functions. -/
section
set_option linter.unusedVariables false
set_option maxRecDepth 100000
noncomputable section
namespace Go.Proofs.YtcnhjofpmpipfaaGreat
open Go Go.Sx Go.RowKit Go.Jx
def nm_l_fewForms : Nat → Option Nm := fun k => cond (Nat.beq k 2) (some ⟨[0, 3], [], [], [], [], 0, 0, false⟩) (cond (Nat.beq k 8) (some ⟨[0, 3, 4, 5], [], [], [], [], 0, 0, false⟩) (none))
def st_l_fewForms : Nat → Bool := fun k => cond (Nat.beq k 2) true (cond (Nat.beq k 8) true (false))
def hd_l_fewForms : Nat → Bool := fun k => cond (Nat.beq k 2) true (cond (Nat.beq k 8) true (false))
abbrev Rt_l_fewForms : Type := Bool × Unit
def sml_l_fewForms : List (Nat × Sm) := []
def hxl_l_fewForms : List (Nat × Hx) := []
def cl_l_fewForms (R : Type) (lf : Nat) : ClK R := icallK Tryz.prog ttT.get ftT.get (nm1 7 nm_l_fewForms) (smL sml_l_fewForms) (hxL hxl_l_fewForms) lf 20 R
abbrev id_l_fewForms : Nat := 7
def enc_l_fewForms_2 (x1 : (List DForm)) (p : Int) : NRes := (NRes.mk (PT.node (some (IV.lst cForm x1)) (PT.node none (PT.node (some (IV.int Go.IntKind.i64 p)) PT.leaf PT.leaf) PT.leaf) PT.leaf) (IS.mk PT.leaf 0) [] 0)
def enc_l_fewForms_8 (x1 : (List DForm)) (p : Int × Int × Int) : NRes := (NRes.mk (PT.node (some (IV.lst cForm x1)) (PT.node none (PT.node (some (IV.int Go.IntKind.i64 p.2.2)) PT.leaf PT.leaf) (PT.node (some (IV.int Go.IntKind.i64 p.2.1)) PT.leaf PT.leaf)) (PT.node none (PT.node (some (IV.int Go.IntKind.i64 p.1)) PT.leaf PT.leaf) PT.leaf)) (IS.mk PT.leaf 0) [] 0)
def R_l_fewForms_in (lf : Nat) (x1 : (List DForm)) (L2 : Int → Option Rt_l_fewForms) : Option Rt_l_fewForms := (L2 (Int.ofNat 0))
def R_l_fewForms_2 (lf : Nat) (x1 : (List DForm)) (L8 : (Int × Int × Int) → Option Rt_l_fewForms) (p : Int) : Option Rt_l_fewForms := (cond (iltI p (Int.ofNat (List.length x1))) (match (jget x1 p) with | .none  => none | .some v0 => (match (jget x1 p) with | .none  => none | .some v1 => (cond (iltI (Int.ofNat 30) (Int.ofNat (ByteArray.size v1.1))) (some (Bool.false, ())) (cond (iltI (Int.ofNat 6) (Int.ofNat (List.length v0.2))) (cond (Bool.not (iltI (Int.ofNat 30) (Int.ofNat (List.length v0.2)))) (some (Bool.false, ())) (cond (iltI (Int.ofNat 40) (Int.ofNat (List.length v0.2))) (some (Bool.false, ())) (L8 ((Int.ofNat (List.length v0.2)), (Int.ofNat 0), p)))) (cond (iltI (Int.ofNat 40) (Int.ofNat (List.length v0.2))) (some (Bool.false, ())) (L8 ((Int.ofNat (List.length v0.2)), (Int.ofNat 0), p))))))) (cond (Bool.not (iltI (Int.ofNat 6) (Int.ofNat (List.length x1)))) (some (Bool.true, ())) (cond (iltI (Int.ofNat 24) (Int.ofNat (List.length x1))) (some ((Bool.not (iltI (Int.ofNat 30) (Int.ofNat (List.length x1)))), ())) (some (Bool.false, ())))))
def R_l_fewForms_8 (lf : Nat) (x1 : (List DForm)) (L8 : (Int × Int × Int) → Option Rt_l_fewForms) (L2 : Int → Option Rt_l_fewForms) (p : Int × Int × Int) : Option Rt_l_fewForms := (cond (iltI p.2.1 p.1) (match (jget x1 p.2.2) with | .none  => none | .some v0 => (match (jget v0.2 p.2.1) with | .none  => none | .some v1 => (cond (iltI (Int.ofNat 30) (Int.ofNat (ByteArray.size v1.1))) (some (Bool.false, ())) (match (jget x1 p.2.2) with | .none  => none | .some v2 => (match (jget v2.2 p.2.1) with | .none  => none | .some v3 => (cond (iltI (Int.ofNat 30) (Int.ofNat (ByteArray.size v3.2.2))) (some (Bool.false, ())) (L8 (p.1, (Go.IntKind.wrap Go.IntKind.i64 (Int.add p.2.1 (Int.ofNat 1))), p.2.2)))))))) (L2 (Go.IntKind.wrap Go.IntKind.i64 (Int.add p.2.2 (Int.ofNat 1)))))
theorem in_l_fewForms (g : ElA [(.list cForm)] → Option Rt_l_fewForms) (J : Nat → List Nat → NRes → Option Rt_l_fewForms) (lf : Nat) (x1 : (List DForm)) : icodeT Tryz.prog ttT.get nm_l_fewForms fi7.nt (cl_l_fewForms _ lf) lf st_l_fewForms J fi7.body [] (argGo (argV [(.list cForm)] (x1, ())) 0 .leaf) S0 [] (lastK ttT.get fi7 ⟨[(.list cForm)], [(false, .bool)], g⟩) = R_l_fewForms_in lf x1 (fun q => J 2 [lf] (enc_l_fewForms_2 x1 q)) := by kernel_rfl
theorem st_l_fewForms_2 (g : ElA [(.list cForm)] → Option Rt_l_fewForms) (J : Nat → List Nat → NRes → Option Rt_l_fewForms) (lf : Nat) (x1 : (List DForm)) (m1 : Nat) (p : Int) : icodeFT Tryz.prog ttT.get nm_l_fewForms fi7.nt (cl_l_fewForms _ lf) lf st_l_fewForms J 2 fi7.body [] [m1] (enc_l_fewForms_2 x1 p) (lastK ttT.get fi7 ⟨[(.list cForm)], [(false, .bool)], g⟩) = R_l_fewForms_2 lf x1 (fun q => J 8 [m1, lf] (enc_l_fewForms_8 x1 q)) p := by kernel_rfl
theorem st_l_fewForms_8 (g : ElA [(.list cForm)] → Option Rt_l_fewForms) (J : Nat → List Nat → NRes → Option Rt_l_fewForms) (lf : Nat) (x1 : (List DForm)) (m1 : Nat) (m2 : Nat) (p : Int × Int × Int) : icodeFT Tryz.prog ttT.get nm_l_fewForms fi7.nt (cl_l_fewForms _ lf) lf st_l_fewForms J 8 fi7.body [] [m1, m2] (enc_l_fewForms_8 x1 p) (lastK ttT.get fi7 ⟨[(.list cForm)], [(false, .bool)], g⟩) = R_l_fewForms_8 lf x1 (fun q => J 8 [m1, m2] (enc_l_fewForms_8 x1 q)) (fun q => J 2 [m1] (enc_l_fewForms_2 x1 q)) p := by kernel_rfl
theorem nd_l_fewForms : (regs fi7.body).Nodup := by decide +kernel
theorem ok_l_fewForms : okC nm_l_fewForms st_l_fewForms hd_l_fewForms fi7.body none = true := by kernel_rfl
def A_l_fewForms (g : ElA [(.list cForm)] → Option Rt_l_fewForms) (lf : Nat) : Nat → List Nat → NRes → Option Rt_l_fewForms := atN Tryz.prog ttT.get nm_l_fewForms fi7 ⟨[(.list cForm)], [(false, .bool)], g⟩ (cl_l_fewForms _ lf) lf hd_l_fewForms
def G_l_fewForms_8 (lf : Nat) (x1 : (List DForm)) (K2 : Int → Option Rt_l_fewForms) : Nat → (Int × Int × Int) → Option Rt_l_fewForms := rounds fun K p => R_l_fewForms_8 lf x1 K K2 p
theorem at_l_fewForms_8 (g : ElA [(.list cForm)] → Option Rt_l_fewForms) (lf : Nat) (x1 : (List DForm)) (m1 : Nat) : ∀ (n : Nat) (p : Int × Int × Int), A_l_fewForms g lf 8 [m1, n] (enc_l_fewForms_8 x1 p) = G_l_fewForms_8 lf x1 (fun q => A_l_fewForms g lf 2 [m1] (enc_l_fewForms_2 x1 q)) n p
  | 0, p => atN_zero 8 [m1, 0] rfl _
  | n + 1, p => by
    have ih := at_l_fewForms_8 g lf x1 m1 n
    refine (atN_eq (icallK_eq 20 _) nd_l_fewForms ok_l_fewForms 8 [m1, n + 1] [m1, n] rfl _).trans ((st_l_fewForms_8 g (A_l_fewForms g lf) lf x1 m1 n p).trans ?_)
    rw [(show (fun q => A_l_fewForms g lf 8 [m1, n] (enc_l_fewForms_8 x1 q)) = (fun q => G_l_fewForms_8 lf x1 (fun q => A_l_fewForms g lf 2 [m1] (enc_l_fewForms_2 x1 q)) n q) from funext ih)]
    rfl
def G_l_fewForms_2 (lf : Nat) (x1 : (List DForm)) : Nat → (Int) → Option Rt_l_fewForms := rounds fun K p => R_l_fewForms_2 lf x1 (fun q => G_l_fewForms_8 lf x1 K lf q) p
theorem at_l_fewForms_2 (g : ElA [(.list cForm)] → Option Rt_l_fewForms) (lf : Nat) (x1 : (List DForm)) : ∀ (n : Nat) (p : Int), A_l_fewForms g lf 2 [n] (enc_l_fewForms_2 x1 p) = G_l_fewForms_2 lf x1 n p
  | 0, p => atN_zero 2 [0] rfl _
  | n + 1, p => by
    have ih := at_l_fewForms_2 g lf x1 n
    refine (atN_eq (icallK_eq 20 _) nd_l_fewForms ok_l_fewForms 2 [n + 1] [n] rfl _).trans ((st_l_fewForms_2 g (A_l_fewForms g lf) lf x1 n p).trans ?_)
    rw [(show (fun q => A_l_fewForms g lf 8 [n, lf] (enc_l_fewForms_8 x1 q)) = (fun q => G_l_fewForms_8 lf x1 (fun q => A_l_fewForms g lf 2 [n] (enc_l_fewForms_2 x1 q)) lf q) from funext fun q => at_l_fewForms_8 g lf x1 n lf q), (show (fun q => A_l_fewForms g lf 2 [n] (enc_l_fewForms_2 x1 q)) = (fun q => G_l_fewForms_2 lf x1 n q) from funext ih)]
    rfl
def F_l_fewForms (lf : Nat) (x1 : (List DForm)) : Option Rt_l_fewForms := R_l_fewForms_in lf x1 (fun q => G_l_fewForms_2 lf x1 lf q)
theorem run_l_fewForms (g : ElA [(.list cForm)] → Option Rt_l_fewForms) (lf : Nat) (x1 : (List DForm)) : icodeT Tryz.prog ttT.get nm_l_fewForms fi7.nt (cl_l_fewForms _ lf) lf st_l_fewForms (A_l_fewForms g lf) fi7.body [] (argGo (argV [(.list cForm)] (x1, ())) 0 .leaf) S0 [] (lastK ttT.get fi7 ⟨[(.list cForm)], [(false, .bool)], g⟩) = F_l_fewForms lf x1 := by
    refine (in_l_fewForms g (A_l_fewForms g lf) lf x1).trans ?_
    rw [(show (fun q => A_l_fewForms g lf 2 [lf] (enc_l_fewForms_2 x1 q)) = (fun q => G_l_fewForms_2 lf x1 lf q) from funext fun q => at_l_fewForms_2 g lf x1 lf q)]
    rfl
theorem hxs_l_fewForms : HxsOK Tryz.prog hxl_l_fewForms := trivial
theorem mk_l_fewForms {g : ElA [(.list cForm)] → Option Rt_l_fewForms} (hsm : SmOK Tryz.prog sml_l_fewForms) (hg : ∀ (x : ElA [(.list cForm)]) (y : Rt_l_fewForms), WfA [(.list cForm)] x → g x = some y → ∃ lf, F_l_fewForms lf x.1 = some y) : Con Tryz.prog 7 ⟨[(.list cForm)], [(false, .bool)], g⟩ :=
  conT (nmf := nm_l_fewForms) (sml := sml_l_fewForms) (hxl := hxl_l_fewForms) (st := st_l_fewForms) (hd := hd_l_fewForms) 20 mixed ttOK ftOK hsm hxs_l_fewForms cal7 rfl rfl (by kernel_rfl) (fun x => by kernel_rfl) nd_l_fewForms ok_l_fewForms fun x y hx hy => by
    obtain ⟨lf, h⟩ := hg x y hx hy
    exact ⟨lf, (run_l_fewForms g lf x.1).trans h⟩
def nm_l_fewRules : Nat → Option Nm := fun k => cond (Nat.beq k 2) (some ⟨[0, 3], [], [], [], [], 0, 0, false⟩) (none)
def st_l_fewRules : Nat → Bool := fun k => cond (Nat.beq k 2) true (false)
def hd_l_fewRules : Nat → Bool := fun k => cond (Nat.beq k 2) true (false)
abbrev Rt_l_fewRules : Type := Bool × Unit
def sml_l_fewRules : List (Nat × Sm) := []
def hxl_l_fewRules : List (Nat × Hx) := []
def cl_l_fewRules (R : Type) (lf : Nat) : ClK R := icallK Tryz.prog ttT.get ftT.get (nm1 8 nm_l_fewRules) (smL sml_l_fewRules) (hxL hxl_l_fewRules) lf 20 R
abbrev id_l_fewRules : Nat := 8
def enc_l_fewRules_2 (x1 : (List DRule)) (p : Int) : NRes := (NRes.mk (PT.node (some (IV.lst cRule x1)) (PT.node none (PT.node (some (IV.int Go.IntKind.i64 p)) PT.leaf PT.leaf) PT.leaf) PT.leaf) (IS.mk PT.leaf 0) [] 0)
def R_l_fewRules_in (lf : Nat) (x1 : (List DRule)) (L2 : Int → Option Rt_l_fewRules) : Option Rt_l_fewRules := (L2 (Int.ofNat 0))
def R_l_fewRules_2 (lf : Nat) (x1 : (List DRule)) (L2 : Int → Option Rt_l_fewRules) (p : Int) : Option Rt_l_fewRules := (cond (iltI p (Int.ofNat (List.length x1))) (match (jget x1 p) with | .none  => none | .some v0 => (cond (iltI (Int.ofNat 8) (Int.ofNat (List.length v0.2.2))) (some (Bool.false, ())) (L2 (Go.IntKind.wrap Go.IntKind.i64 (Int.add p (Int.ofNat 1)))))) (cond (Bool.not (iltI (Int.ofNat 8) (Int.ofNat (List.length x1)))) (some (Bool.true, ())) (cond (iltI (Int.ofNat 24) (Int.ofNat (List.length x1))) (some ((Bool.not (iltI (Int.ofNat 30) (Int.ofNat (List.length x1)))), ())) (some (Bool.false, ())))))
theorem in_l_fewRules (g : ElA [(.list cRule)] → Option Rt_l_fewRules) (J : Nat → List Nat → NRes → Option Rt_l_fewRules) (lf : Nat) (x1 : (List DRule)) : icodeT Tryz.prog ttT.get nm_l_fewRules fi8.nt (cl_l_fewRules _ lf) lf st_l_fewRules J fi8.body [] (argGo (argV [(.list cRule)] (x1, ())) 0 .leaf) S0 [] (lastK ttT.get fi8 ⟨[(.list cRule)], [(false, .bool)], g⟩) = R_l_fewRules_in lf x1 (fun q => J 2 [lf] (enc_l_fewRules_2 x1 q)) := by kernel_rfl
theorem st_l_fewRules_2 (g : ElA [(.list cRule)] → Option Rt_l_fewRules) (J : Nat → List Nat → NRes → Option Rt_l_fewRules) (lf : Nat) (x1 : (List DRule)) (m1 : Nat) (p : Int) : icodeFT Tryz.prog ttT.get nm_l_fewRules fi8.nt (cl_l_fewRules _ lf) lf st_l_fewRules J 2 fi8.body [] [m1] (enc_l_fewRules_2 x1 p) (lastK ttT.get fi8 ⟨[(.list cRule)], [(false, .bool)], g⟩) = R_l_fewRules_2 lf x1 (fun q => J 2 [m1] (enc_l_fewRules_2 x1 q)) p := by kernel_rfl
theorem nd_l_fewRules : (regs fi8.body).Nodup := by decide +kernel
theorem ok_l_fewRules : okC nm_l_fewRules st_l_fewRules hd_l_fewRules fi8.body none = true := by kernel_rfl
def A_l_fewRules (g : ElA [(.list cRule)] → Option Rt_l_fewRules) (lf : Nat) : Nat → List Nat → NRes → Option Rt_l_fewRules := atN Tryz.prog ttT.get nm_l_fewRules fi8 ⟨[(.list cRule)], [(false, .bool)], g⟩ (cl_l_fewRules _ lf) lf hd_l_fewRules
def G_l_fewRules_2 (lf : Nat) (x1 : (List DRule)) : Nat → (Int) → Option Rt_l_fewRules := rounds fun K p => R_l_fewRules_2 lf x1 K p
theorem at_l_fewRules_2 (g : ElA [(.list cRule)] → Option Rt_l_fewRules) (lf : Nat) (x1 : (List DRule)) : ∀ (n : Nat) (p : Int), A_l_fewRules g lf 2 [n] (enc_l_fewRules_2 x1 p) = G_l_fewRules_2 lf x1 n p
  | 0, p => atN_zero 2 [0] rfl _
  | n + 1, p => by
    have ih := at_l_fewRules_2 g lf x1 n
    refine (atN_eq (icallK_eq 20 _) nd_l_fewRules ok_l_fewRules 2 [n + 1] [n] rfl _).trans ((st_l_fewRules_2 g (A_l_fewRules g lf) lf x1 n p).trans ?_)
    rw [(show (fun q => A_l_fewRules g lf 2 [n] (enc_l_fewRules_2 x1 q)) = (fun q => G_l_fewRules_2 lf x1 n q) from funext ih)]
    rfl
def F_l_fewRules (lf : Nat) (x1 : (List DRule)) : Option Rt_l_fewRules := R_l_fewRules_in lf x1 (fun q => G_l_fewRules_2 lf x1 lf q)
theorem run_l_fewRules (g : ElA [(.list cRule)] → Option Rt_l_fewRules) (lf : Nat) (x1 : (List DRule)) : icodeT Tryz.prog ttT.get nm_l_fewRules fi8.nt (cl_l_fewRules _ lf) lf st_l_fewRules (A_l_fewRules g lf) fi8.body [] (argGo (argV [(.list cRule)] (x1, ())) 0 .leaf) S0 [] (lastK ttT.get fi8 ⟨[(.list cRule)], [(false, .bool)], g⟩) = F_l_fewRules lf x1 := by
    refine (in_l_fewRules g (A_l_fewRules g lf) lf x1).trans ?_
    rw [(show (fun q => A_l_fewRules g lf 2 [lf] (enc_l_fewRules_2 x1 q)) = (fun q => G_l_fewRules_2 lf x1 lf q) from funext fun q => at_l_fewRules_2 g lf x1 lf q)]
    rfl
theorem hxs_l_fewRules : HxsOK Tryz.prog hxl_l_fewRules := trivial
theorem mk_l_fewRules {g : ElA [(.list cRule)] → Option Rt_l_fewRules} (hsm : SmOK Tryz.prog sml_l_fewRules) (hg : ∀ (x : ElA [(.list cRule)]) (y : Rt_l_fewRules), WfA [(.list cRule)] x → g x = some y → ∃ lf, F_l_fewRules lf x.1 = some y) : Con Tryz.prog 8 ⟨[(.list cRule)], [(false, .bool)], g⟩ :=
  conT (nmf := nm_l_fewRules) (sml := sml_l_fewRules) (hxl := hxl_l_fewRules) (st := st_l_fewRules) (hd := hd_l_fewRules) 20 mixed ttOK ftOK hsm hxs_l_fewRules cal8 rfl rfl (by kernel_rfl) (fun x => by kernel_rfl) nd_l_fewRules ok_l_fewRules fun x y hx hy => by
    obtain ⟨lf, h⟩ := hg x y hx hy
    exact ⟨lf, (run_l_fewRules g lf x.1).trans h⟩
end Go.Proofs.YtcnhjofpmpipfaaGreat

end
end

/- Comparisons, and the law's bounds. -/
section
set_option linter.unusedVariables false
set_option maxRecDepth 100000
namespace Go.Proofs.YtcnhjofpmpipfaaGreat
open Go Go.Sx Go.RowKit Go.Jx
end Go.Proofs.YtcnhjofpmpipfaaGreat
end

/- The reference's Convert. -/
section
set_option linter.unusedVariables false
set_option maxRecDepth 100000
namespace Go.Proofs.YtcnhjofpmpipfaaGreat
open Go Go.Sx Go.RowKit Go.Jx
theorem ruleOf_get {l : List DRule} {c : ByteArray} (h : (S.ruleOf l c).2 = true) : jget l (S.idx (fun r : DRule => keqS r.1 c) l) = some (S.ruleOf l c).1 := by
  rw [ruleOf_idx] at h
  have h0 : 0 ≤ S.idx (fun r : DRule => keqS r.1 c) l := by
    by_cases hh : S.idx (fun r : DRule => keqS r.1 c) l < 0
    · rw [decide_eq_true hh] at h; cases h
    · omega
  obtain ⟨x, e, _, _, _, _, e2⟩ := S.idx_get h0
  rw [e]
  unfold S.ruleOf
  rw [e2]
end Go.Proofs.YtcnhjofpmpipfaaGreat
end

/- The law's bounds, and PackConverts. -/
section
set_option linter.unusedVariables false
set_option maxRecDepth 100000
namespace Go.Proofs.YtcnhjofpmpipfaaGreat
open Go Go.Sx Go.RowKit Go.Jx
theorem F_l_fewRules_eq (l : List DRule) (hl : l.length < LF) : F_l_fewRules LF l = some (S.fewRules l, ()) := by
  simp only [F_l_fewRules, R_l_fewRules_in, S.fewRules]
  refine range1 (R := Rt_l_fewRules) l (fun rest i => some (rest.all (fun r => decide (r.2.2.length ≤ 8)) && decide (l.length ≤ 8 ∨ 24 < l.length ∧ l.length ≤ 30), ())) hl (fun K => ?_) (fun K i v rest r h => ?_)
  · simp only [R_l_fewRules_2, ilt_self, cond_false, ilt_nat, List.all_nil, Bool.true_and]
    by_cases h8 : 8 < l.length <;> by_cases h24 : 24 < l.length <;> by_cases h30 : 30 < l.length <;> simp [h8, h24, h30] <;> omega
  · simp only [R_l_fewRules_2, r.ilt, r.get, r.next, h, cond_true, ilt_nat, List.all_cons]
    by_cases h8 : 8 < v.2.2.length
    · have h8' : ¬ v.2.2.length ≤ 8 := by omega
      simp [h8, h8']
    · have h8' : v.2.2.length ≤ 8 := by omega
      simp [h8, h8']
theorem con_l_fewRules : Con Tryz.prog id_l_fewRules sp_l_fewRules := mk_l_fewRules trivial fun x y hx h => ⟨LF, (F_l_fewRules_eq _ (wf_len hx.1)).trans h⟩
theorem few_inner (l : List DForm) (K2 : Int → Option Rt_l_fewForms) (i : Nat) (f : DForm) (hf : jget l (Int.ofNat i) = some f) (hl : f.2.length < LF) :
    G_l_fewForms_8 LF l K2 LF (Int.ofNat f.2.length, Int.ofNat 0, Int.ofNat i) = cond (f.2.all fun c => decide (c.1.size ≤ 30 ∧ c.2.2.size ≤ 30)) (K2 (IntKind.i64.wrap (Int.add (Int.ofNat i) (Int.ofNat 1)))) (some (false, ())) := by
  refine range0 (σ := Unit) (R := Rt_l_fewForms) f.2 (fun k _ => (Int.ofNat f.2.length, k, Int.ofNat i)) (fun _ _ => True) (fun rest k _ => cond (rest.all fun c => decide (c.1.size ≤ 30 ∧ c.2.2.size ≤ 30)) (K2 (IntKind.i64.wrap (Int.add (Int.ofNat i) (Int.ofNat 1)))) (some (false, ()))) hl (fun K s _ => ?_) (fun K k c rest s _ r h => ?_) () trivial
  · simp only [R_l_fewForms_8, ilt_self, cond_false, List.all_nil, cond_true]
  · have h := h () trivial
    simp only [R_l_fewForms_8, hf, r.ilt, r.get, r.next, h, cond_true, ilt_nat, List.all_cons]
    by_cases a1 : 30 < c.1.size
    · have e : decide (c.1.size ≤ 30 ∧ c.2.2.size ≤ 30) = false := decide_eq_false (by omega)
      rw [e, decide_eq_true a1]; rfl
    by_cases a2 : 30 < c.2.2.size
    · have e : decide (c.1.size ≤ 30 ∧ c.2.2.size ≤ 30) = false := decide_eq_false (by omega)
      rw [e, decide_eq_false a1, decide_eq_true a2]; rfl
    · have e : decide (c.1.size ≤ 30 ∧ c.2.2.size ≤ 30) = true := decide_eq_true (by omega)
      rw [e, decide_eq_false a1, decide_eq_false a2, Bool.true_and]; rfl
theorem F_l_fewForms_eq (l : List DForm) (hl : l.length < LF) (hw : ∀ f ∈ l, f.2.length < LF) : F_l_fewForms LF l = some (S.fewForms l, ()) := by
  simp only [F_l_fewForms, R_l_fewForms_in, S.fewForms]
  refine range1 (R := Rt_l_fewForms) l (fun rest i => some (rest.all (fun f => decide (f.1.size ≤ 30 ∧ (f.2.length ≤ 6 ∨ 30 < f.2.length) ∧ f.2.length ≤ 40) && f.2.all fun c => decide (c.1.size ≤ 30 ∧ c.2.2.size ≤ 30)) && decide (l.length ≤ 6 ∨ 24 < l.length ∧ l.length ≤ 30), ())) hl (fun K => ?_) (fun K i v rest r h => ?_)
  · simp only [R_l_fewForms_2, ilt_self, cond_false, ilt_nat, List.all_nil, Bool.true_and]
    by_cases h8 : 6 < l.length <;> by_cases h24 : 24 < l.length <;> by_cases h30 : 30 < l.length <;> simp [h8, h24, h30] <;> omega
  · have hin := few_inner l K i v r.get (hw v r.mem)
    rw [r.next, h] at hin
    simp only [R_l_fewForms_2, r.ilt, r.get, cond_true, ilt_nat, List.all_cons]
    simp only [hin]
    generalize (v.2.all fun c => decide (c.1.size ≤ 30 ∧ c.2.2.size ≤ 30)) = w
    generalize v.2.length = n
    generalize v.1.size = m
    by_cases a0 : 30 < m
    · have e : decide (m ≤ 30 ∧ (n ≤ 6 ∨ 30 < n) ∧ n ≤ 40) = false := decide_eq_false (by omega)
      rw [e, decide_eq_true a0]; rfl
    rw [decide_eq_false a0, cond_false]
    by_cases a1 : 6 < n
    · rw [decide_eq_true a1, cond_true]
      by_cases a2 : 30 < n
      · rw [decide_eq_true a2, Bool.not_true, cond_false]
        by_cases a3 : 40 < n
        · have e : decide (m ≤ 30 ∧ (n ≤ 6 ∨ 30 < n) ∧ n ≤ 40) = false := decide_eq_false (by omega)
          rw [e, decide_eq_true a3]; rfl
        · have e : decide (m ≤ 30 ∧ (n ≤ 6 ∨ 30 < n) ∧ n ≤ 40) = true := decide_eq_true (by omega)
          rw [e, decide_eq_false a3]; cases w <;> rfl
      · have e : decide (m ≤ 30 ∧ (n ≤ 6 ∨ 30 < n) ∧ n ≤ 40) = false := decide_eq_false (by omega)
        rw [e, decide_eq_false a2]; rfl
    · rw [decide_eq_false a1, cond_false]
      have e : decide (m ≤ 30 ∧ (n ≤ 6 ∨ 30 < n) ∧ n ≤ 40) = true := decide_eq_true (by omega)
      have a3 : ¬ 40 < n := by omega
      rw [e, decide_eq_false a3]; cases w <;> rfl
theorem con_l_fewForms : Con Tryz.prog id_l_fewForms sp_l_fewForms := mk_l_fewForms trivial fun x y hx h => ⟨LF, (F_l_fewForms_eq _ (wf_len hx.1) fun f hf => wf_len (hx.1.2 f hf).2).trans h⟩
end Go.Proofs.YtcnhjofpmpipfaaGreat
end

/- The closed check's contract; PackConverts' contract. -/
section
set_option linter.unusedVariables false
namespace Go.Proofs.YtcnhjofpmpipfaaGreat
open Go Go.Sx Go.RowKit Go.Jx
theorem exN_ok : ExOK Tryz.prog exN := ⟨fun _ _ h => (nomatch h), fun _ _ h => (nomatch h), fun _ _ h => (nomatch h)⟩
theorem con_l_sanity : Con Tryz.prog 10 sp_l_sanity := con_of_run (lf := 1000) mixed ttOK ftOK exN_ok cal10 fun x y h => by
  obtain ⟨r, h1, h2⟩ := isR_spec san10
  exact ⟨100, 1000, r, h1, h2.trans h⟩
end Go.Proofs.YtcnhjofpmpipfaaGreat
end

/- What pack's chaining and undoing of rules compute: plain functions over data. -/
section
set_option linter.unusedVariables false
noncomputable section
namespace Go.Proofs.YtcnhjofpmpipfaaGreat
open Go Go.Sx Go.RowKit Go.Jx
namespace S
open Go.Jx.S
def both (a b : DGive) : DGive × Bool :=
  if b.2.1 = 1 then (a, true)
  else if a.2.1 = 1 then ((a.1, b.2.1, b.2.2), true)
  else if a.2.1 = 2 ∧ b.2.1 = 3 then ((a.1, 1, 0), true)
  else if a.2.1 = 2 ∧ b.2.1 = 4 then (a, decide (2 ≤ b.2.2))
  else if a.2.1 = 4 ∧ b.2.1 = 4 then ((a.1, a.2.1, imin a.2.2 b.2.2), true)
  else if a.2.1 = 5 ∧ b.2.1 = 5 then (a, true)
  else if a.2.1 = 6 ∧ b.2.1 = 2 then (a, true)
  else if a.2.1 = 6 ∧ b.2.1 = 3 then (a, within a.2.2 0 1)
  else if a.2.1 = 6 ∧ b.2.1 = 4 then (a, decide (a.2.2 < b.2.2))
  else (zGive, false)
def hasFrom (l : List DGive) (n : ByteArray) : Bool := l.any fun g => keqS g.1 n
def asksG (g : DGive) : Bool := decide (g.2.1 = 3) || (decide (g.2.1 = 4) || decide (g.2.1 = 5))
def chGo (a : DRule) (mid : List DCol) : List DGive → List DGive → Option (List DGive)
  | [], acc => some acc
  | g :: gs, acc =>
    if g.2.1 = 6 ∨ g.2.1 = 7 then chGo a mid gs (acc ++ [g])
    else if (both (at_ zGive a.2.2 (col mid g.1)) g).2 = true then chGo a mid gs (acc ++ [(both (at_ zGive a.2.2 (col mid g.1)) g).1])
    else none
def chAsk (l : List DGive) : List DGive → List DCol → Bool
  | g :: gs, c :: cs => cond (asksG g && !hasFrom l c.1) false (chAsk l gs cs)
  | _, _ => true
def chained (a b : DRule) (mid : List DCol) : DRule × Bool := match chGo a mid b.2.2 [] with
  | none => (zRule, false)
  | some gs => if chAsk b.2.2 a.2.2 mid = true then ((a.1, b.2.1, gs), true) else (zRule, false)
def chainedPre (a b : DRule) (mid : List DCol) : Bool :=
  decide (a.2.2.length ≤ mid.length) && b.2.2.all fun g => decide (¬ g.2.1 = 6 → ¬ g.2.1 = 7 → 0 ≤ col mid g.1 ∧ col mid g.1 < a.2.2.length)
def chainGo (mid : List DForm) (a b : List DRule) : List DForm → List DRule → List DRule × Int
  | [], acc => (acc, 0)
  | f :: fs, acc =>
    let x := (ruleOf a f.1).1
    let c := chained x (ruleOf b x.2.1).1 (colsOf mid x.2.1)
    if c.2 = true then chainGo mid a b fs (acc ++ [c.1]) else ([], 5)
def chain (l1 l2 l3 : List DForm) (a b : List DRule) : List DRule × Int :=
  if ¬ first [checkForms l1, checkForms l2, checkForms l3] = 0 then ([], first [checkForms l1, checkForms l2, checkForms l3])
  else if ¬ first [checkRules0 l1 l2 a, checkRules0 l2 l3 b] = 0 then ([], first [checkRules0 l1 l2 a, checkRules0 l2 l3 b])
  else chainGo l2 a b l1 []
end S
def sp_p_both : Sm := ⟨[cGive, cGive], [(false, cGive), (false, .bool)], fun x => some ((S.both x.1 x.2.1).1, (S.both x.1 x.2.1).2, ())⟩
def sp_p_chained : Sm := ⟨[cRule, cRule, .list cCol], [(false, cRule), (false, .bool)], fun x => cond (S.chainedPre x.1 x.2.1 x.2.2.1) (some ((S.chained x.1 x.2.1 x.2.2.1).1, (S.chained x.1 x.2.1 x.2.2.1).2, ())) none⟩
def sp_p_Chain : Sm := ⟨[.list cForm, .list cForm, .list cForm, .list cRule, .list cRule], [(false, .list cRule), (false, .int .i64)], fun x => some ((S.chain x.1 x.2.1 x.2.2.1 x.2.2.2.1 x.2.2.2.2.1).1, (S.chain x.1 x.2.1 x.2.2.1 x.2.2.2.1 x.2.2.2.2.1).2, ())⟩
end Go.Proofs.YtcnhjofpmpipfaaGreat

end
end

/- What the reference's functions about chains of rules compute. -/
section
set_option linter.unusedVariables false
noncomputable section
namespace Go.Proofs.YtcnhjofpmpipfaaGreat
open Go Go.Sx Go.RowKit Go.Jx
namespace S
def rchained (a b : DGive) : DGive × Bool :=
  if b.2.1 = 1 then (a, true)
  else if a.2.1 = 1 then ((a.1, b.2.1, b.2.2), true)
  else if b.2.1 = 2 then (a, decide (a.2.1 = 6))
  else if b.2.1 = 3 then (if a.2.1 = 2 then ((a.1, 1, 0), true) else (a, decide (a.2.1 = 6) && within a.2.2 0 1))
  else if b.2.1 = 4 then (if a.2.1 = 2 then (a, decide (2 ≤ b.2.2)) else if a.2.1 = 4 then ((a.1, 4, imin a.2.2 b.2.2), true) else (a, decide (a.2.1 = 6) && decide (a.2.2 < b.2.2)))
  else (a, decide (a.2.1 = 5))
def uses (l : List DGive) (n : ByteArray) : Bool := l.any fun g => sourced g && keqS g.1 n
def sameRules (a b : List DRule) : Bool := decide (a = b)
end S
def sp_r_chained : Sm := ⟨[cGive, cGive], [(false, cR22Chained)], fun x => some (S.rchained x.1 x.2.1, ())⟩
def sp_r_asks : Sm := ⟨[cGive], [(false, .bool)], fun x => some (S.asksG x.1, ())⟩
def sp_r_uses : Sm := ⟨[.list cGive, .str], [(false, .bool)], fun x => some (S.uses x.1 x.2.1, ())⟩
def sp_r_Chain : Sm := ⟨[.list cForm, .list cForm, .list cForm, .list cRule, .list cRule], [(false, cR22Ruled)], fun x => some (((S.chain x.1 x.2.1 x.2.2.1 x.2.2.2.1 x.2.2.2.2.1).1, false, (S.chain x.1 x.2.1 x.2.2.1 x.2.2.2.1 x.2.2.2.2.1).2), ())⟩
def sp_r_SameRules : Sm := ⟨[.list cRule, .list cRule], [(false, .bool)], fun x => some (S.sameRules x.1 x.2.1, ())⟩
def sp_l_PackChains : Sm := ⟨[.list cForm, .list cForm, .list cForm, .list cRule, .list cRule], [(false, .bool)], fun _ => some (true, ())⟩
end Go.Proofs.YtcnhjofpmpipfaaGreat

end
end

/- Made by program: plain forms of functions. -/
section
set_option linter.unusedVariables false
set_option maxRecDepth 100000
noncomputable section
namespace Go.Proofs.YtcnhjofpmpipfaaGreat
open Go Go.Sx Go.RowKit Go.Jx
def nm_r_chained : Nat → Option Nm := fun k => none
def st_r_chained : Nat → Bool := fun k => false
def hd_r_chained : Nat → Bool := fun k => false
abbrev Rt_r_chained : Type := DR22Chained × Unit
def sml_r_chained : List (Nat × Sm) := []
def hxl_r_chained : List (Nat × Hx) := []
def cl_r_chained (R : Type) (lf : Nat) : ClK R := icallK Tryz.prog ttT.get ftT.get (nm1 52 nm_r_chained) (smL sml_r_chained) (hxL hxl_r_chained) lf 20 R
abbrev id_r_chained : Nat := 52
def R_r_chained_in (lf : Nat) (x1 : DGive) (x2 : DGive) : Option Rt_r_chained := (cond (ieqI x2.2.1 (Int.ofNat 1)) (some (((x1.1, (x1.2.1, x1.2.2)), Bool.true), ())) (cond (ieqI x1.2.1 (Int.ofNat 1)) (some (((x1.1, (x2.2.1, x2.2.2)), Bool.true), ())) (cond (ieqI x2.2.1 (Int.ofNat 2)) (some (((x1.1, (x1.2.1, x1.2.2)), (ieqI x1.2.1 (Int.ofNat 6))), ())) (cond (ieqI x2.2.1 (Int.ofNat 3)) (cond (ieqI x1.2.1 (Int.ofNat 2)) (some (((x1.1, ((Int.ofNat 1), (Int.ofNat 0))), Bool.true), ())) (cond (ieqI x1.2.1 (Int.ofNat 6)) (cond (Bool.not (iltI x1.2.2 (Int.ofNat 0))) (some (((x1.1, (x1.2.1, x1.2.2)), (Bool.not (iltI (Int.ofNat 1) x1.2.2))), ())) (some (((x1.1, (x1.2.1, x1.2.2)), Bool.false), ()))) (some (((x1.1, (x1.2.1, x1.2.2)), Bool.false), ())))) (cond (ieqI x2.2.1 (Int.ofNat 4)) (cond (ieqI x1.2.1 (Int.ofNat 2)) (some (((x1.1, (x1.2.1, x1.2.2)), (Bool.not (iltI x2.2.2 (Int.ofNat 2)))), ())) (cond (ieqI x1.2.1 (Int.ofNat 4)) (some (((x1.1, ((Int.ofNat 4), (imin x1.2.2 x2.2.2))), Bool.true), ())) (cond (ieqI x1.2.1 (Int.ofNat 6)) (some (((x1.1, (x1.2.1, x1.2.2)), (iltI x1.2.2 x2.2.2)), ())) (some (((x1.1, (x1.2.1, x1.2.2)), Bool.false), ()))))) (some (((x1.1, (x1.2.1, x1.2.2)), (ieqI x1.2.1 (Int.ofNat 5))), ())))))))
theorem in_r_chained (g : ElA [cGive, cGive] → Option Rt_r_chained) (J : Nat → List Nat → NRes → Option Rt_r_chained) (lf : Nat) (x1 : DGive) (x2 : DGive) : icodeT Tryz.prog ttT.get nm_r_chained fi52.nt (cl_r_chained _ lf) lf st_r_chained J fi52.body [] (argGo (argV [cGive, cGive] (x1, x2, ())) 0 .leaf) S0 [] (lastK ttT.get fi52 ⟨[cGive, cGive], [(false, cR22Chained)], g⟩) = R_r_chained_in lf x1 x2 := by kernel_rfl
theorem nd_r_chained : (regs fi52.body).Nodup := by decide +kernel
theorem ok_r_chained : okC nm_r_chained st_r_chained hd_r_chained fi52.body none = true := by kernel_rfl
def A_r_chained (g : ElA [cGive, cGive] → Option Rt_r_chained) (lf : Nat) : Nat → List Nat → NRes → Option Rt_r_chained := atN Tryz.prog ttT.get nm_r_chained fi52 ⟨[cGive, cGive], [(false, cR22Chained)], g⟩ (cl_r_chained _ lf) lf hd_r_chained
def F_r_chained (lf : Nat) (x1 : DGive) (x2 : DGive) : Option Rt_r_chained := R_r_chained_in lf x1 x2
theorem run_r_chained (g : ElA [cGive, cGive] → Option Rt_r_chained) (lf : Nat) (x1 : DGive) (x2 : DGive) : icodeT Tryz.prog ttT.get nm_r_chained fi52.nt (cl_r_chained _ lf) lf st_r_chained (A_r_chained g lf) fi52.body [] (argGo (argV [cGive, cGive] (x1, x2, ())) 0 .leaf) S0 [] (lastK ttT.get fi52 ⟨[cGive, cGive], [(false, cR22Chained)], g⟩) = F_r_chained lf x1 x2 := by
    refine (in_r_chained g (A_r_chained g lf) lf x1 x2).trans ?_
    rfl
theorem hxs_r_chained : HxsOK Tryz.prog hxl_r_chained := trivial
theorem mk_r_chained {g : ElA [cGive, cGive] → Option Rt_r_chained} (hsm : SmOK Tryz.prog sml_r_chained) (hg : ∀ (x : ElA [cGive, cGive]) (y : Rt_r_chained), WfA [cGive, cGive] x → g x = some y → ∃ lf, F_r_chained lf x.1 x.2.1 = some y) : Con Tryz.prog 52 ⟨[cGive, cGive], [(false, cR22Chained)], g⟩ :=
  conT (nmf := nm_r_chained) (sml := sml_r_chained) (hxl := hxl_r_chained) (st := st_r_chained) (hd := hd_r_chained) 20 mixed ttOK ftOK hsm hxs_r_chained cal52 rfl rfl (by kernel_rfl) (fun x => by kernel_rfl) nd_r_chained ok_r_chained fun x y hx hy => by
    obtain ⟨lf, h⟩ := hg x y hx hy
    exact ⟨lf, (run_r_chained g lf x.1 x.2.1).trans h⟩
def nm_r_asks : Nat → Option Nm := fun k => none
def st_r_asks : Nat → Bool := fun k => false
def hd_r_asks : Nat → Bool := fun k => false
abbrev Rt_r_asks : Type := Bool × Unit
def sml_r_asks : List (Nat × Sm) := []
def hxl_r_asks : List (Nat × Hx) := []
def cl_r_asks (R : Type) (lf : Nat) : ClK R := icallK Tryz.prog ttT.get ftT.get (nm1 49 nm_r_asks) (smL sml_r_asks) (hxL hxl_r_asks) lf 20 R
abbrev id_r_asks : Nat := 49
def R_r_asks_in (lf : Nat) (x1 : DGive) : Option Rt_r_asks := (cond (ieqI x1.2.1 (Int.ofNat 3)) (some (Bool.true, ())) (cond (ieqI x1.2.1 (Int.ofNat 4)) (some (Bool.true, ())) (some ((ieqI x1.2.1 (Int.ofNat 5)), ()))))
theorem in_r_asks (g : ElA [cGive] → Option Rt_r_asks) (J : Nat → List Nat → NRes → Option Rt_r_asks) (lf : Nat) (x1 : DGive) : icodeT Tryz.prog ttT.get nm_r_asks fi49.nt (cl_r_asks _ lf) lf st_r_asks J fi49.body [] (argGo (argV [cGive] (x1, ())) 0 .leaf) S0 [] (lastK ttT.get fi49 ⟨[cGive], [(false, .bool)], g⟩) = R_r_asks_in lf x1 := by kernel_rfl
theorem nd_r_asks : (regs fi49.body).Nodup := by decide +kernel
theorem ok_r_asks : okC nm_r_asks st_r_asks hd_r_asks fi49.body none = true := by kernel_rfl
def A_r_asks (g : ElA [cGive] → Option Rt_r_asks) (lf : Nat) : Nat → List Nat → NRes → Option Rt_r_asks := atN Tryz.prog ttT.get nm_r_asks fi49 ⟨[cGive], [(false, .bool)], g⟩ (cl_r_asks _ lf) lf hd_r_asks
def F_r_asks (lf : Nat) (x1 : DGive) : Option Rt_r_asks := R_r_asks_in lf x1
theorem run_r_asks (g : ElA [cGive] → Option Rt_r_asks) (lf : Nat) (x1 : DGive) : icodeT Tryz.prog ttT.get nm_r_asks fi49.nt (cl_r_asks _ lf) lf st_r_asks (A_r_asks g lf) fi49.body [] (argGo (argV [cGive] (x1, ())) 0 .leaf) S0 [] (lastK ttT.get fi49 ⟨[cGive], [(false, .bool)], g⟩) = F_r_asks lf x1 := by
    refine (in_r_asks g (A_r_asks g lf) lf x1).trans ?_
    rfl
theorem hxs_r_asks : HxsOK Tryz.prog hxl_r_asks := trivial
theorem mk_r_asks {g : ElA [cGive] → Option Rt_r_asks} (hsm : SmOK Tryz.prog sml_r_asks) (hg : ∀ (x : ElA [cGive]) (y : Rt_r_asks), WfA [cGive] x → g x = some y → ∃ lf, F_r_asks lf x.1 = some y) : Con Tryz.prog 49 ⟨[cGive], [(false, .bool)], g⟩ :=
  conT (nmf := nm_r_asks) (sml := sml_r_asks) (hxl := hxl_r_asks) (st := st_r_asks) (hd := hd_r_asks) 20 mixed ttOK ftOK hsm hxs_r_asks cal49 rfl rfl (by kernel_rfl) (fun x => by kernel_rfl) nd_r_asks ok_r_asks fun x y hx hy => by
    obtain ⟨lf, h⟩ := hg x y hx hy
    exact ⟨lf, (run_r_asks g lf x.1).trans h⟩
def nm_r_uses : Nat → Option Nm := fun k => cond (Nat.beq k 2) (some ⟨[0, 1, 5], [], [], [], [], 0, 0, false⟩) (none)
def st_r_uses : Nat → Bool := fun k => cond (Nat.beq k 2) true (false)
def hd_r_uses : Nat → Bool := fun k => cond (Nat.beq k 2) true (false)
abbrev Rt_r_uses : Type := Bool × Unit
def sml_r_uses : List (Nat × Sm) := []
def hxl_r_uses : List (Nat × Hx) := []
def cl_r_uses (R : Type) (lf : Nat) : ClK R := icallK Tryz.prog ttT.get ftT.get (nm1 50 nm_r_uses) (smL sml_r_uses) (hxL hxl_r_uses) lf 20 R
abbrev id_r_uses : Nat := 50
def enc_r_uses_2 (x1 : (List DGive)) (x2 : ByteArray) (p : Int) : NRes := (NRes.mk (PT.node (some (IV.lst cGive x1)) (PT.node (some (IV.str x2)) PT.leaf (PT.node (some (IV.int Go.IntKind.i64 p)) PT.leaf PT.leaf)) PT.leaf) (IS.mk PT.leaf 0) [] 0)
def R_r_uses_in (lf : Nat) (x1 : (List DGive)) (x2 : ByteArray) (L2 : Int → Option Rt_r_uses) : Option Rt_r_uses := (L2 (Int.ofNat 0))
def R_r_uses_2 (lf : Nat) (x1 : (List DGive)) (x2 : ByteArray) (L2 : Int → Option Rt_r_uses) (p : Int) : Option Rt_r_uses := (cond (iltI p (Int.ofNat (List.length x1))) (match (jget x1 p) with | .none  => none | .some v0 => (cond (Bool.not (iltI v0.2.1 (Int.ofNat 1))) (cond (Bool.not (iltI (Int.ofNat 5) v0.2.1)) (match (jget x1 p) with | .none  => none | .some v1 => (cond (keqS v1.1 x2) (some (Bool.true, ())) (L2 (Go.IntKind.wrap Go.IntKind.i64 (Int.add p (Int.ofNat 1)))))) (L2 (Go.IntKind.wrap Go.IntKind.i64 (Int.add p (Int.ofNat 1))))) (L2 (Go.IntKind.wrap Go.IntKind.i64 (Int.add p (Int.ofNat 1)))))) (some (Bool.false, ())))
theorem in_r_uses (g : ElA [(.list cGive), .str] → Option Rt_r_uses) (J : Nat → List Nat → NRes → Option Rt_r_uses) (lf : Nat) (x1 : (List DGive)) (x2 : ByteArray) : icodeT Tryz.prog ttT.get nm_r_uses fi50.nt (cl_r_uses _ lf) lf st_r_uses J fi50.body [] (argGo (argV [(.list cGive), .str] (x1, x2, ())) 0 .leaf) S0 [] (lastK ttT.get fi50 ⟨[(.list cGive), .str], [(false, .bool)], g⟩) = R_r_uses_in lf x1 x2 (fun q => J 2 [lf] (enc_r_uses_2 x1 x2 q)) := by kernel_rfl
theorem st_r_uses_2 (g : ElA [(.list cGive), .str] → Option Rt_r_uses) (J : Nat → List Nat → NRes → Option Rt_r_uses) (lf : Nat) (x1 : (List DGive)) (x2 : ByteArray) (m1 : Nat) (p : Int) : icodeFT Tryz.prog ttT.get nm_r_uses fi50.nt (cl_r_uses _ lf) lf st_r_uses J 2 fi50.body [] [m1] (enc_r_uses_2 x1 x2 p) (lastK ttT.get fi50 ⟨[(.list cGive), .str], [(false, .bool)], g⟩) = R_r_uses_2 lf x1 x2 (fun q => J 2 [m1] (enc_r_uses_2 x1 x2 q)) p := by kernel_rfl
theorem nd_r_uses : (regs fi50.body).Nodup := by decide +kernel
theorem ok_r_uses : okC nm_r_uses st_r_uses hd_r_uses fi50.body none = true := by kernel_rfl
def A_r_uses (g : ElA [(.list cGive), .str] → Option Rt_r_uses) (lf : Nat) : Nat → List Nat → NRes → Option Rt_r_uses := atN Tryz.prog ttT.get nm_r_uses fi50 ⟨[(.list cGive), .str], [(false, .bool)], g⟩ (cl_r_uses _ lf) lf hd_r_uses
def G_r_uses_2 (lf : Nat) (x1 : (List DGive)) (x2 : ByteArray) : Nat → (Int) → Option Rt_r_uses := rounds fun K p => R_r_uses_2 lf x1 x2 K p
theorem at_r_uses_2 (g : ElA [(.list cGive), .str] → Option Rt_r_uses) (lf : Nat) (x1 : (List DGive)) (x2 : ByteArray) : ∀ (n : Nat) (p : Int), A_r_uses g lf 2 [n] (enc_r_uses_2 x1 x2 p) = G_r_uses_2 lf x1 x2 n p
  | 0, p => atN_zero 2 [0] rfl _
  | n + 1, p => by
    have ih := at_r_uses_2 g lf x1 x2 n
    refine (atN_eq (icallK_eq 20 _) nd_r_uses ok_r_uses 2 [n + 1] [n] rfl _).trans ((st_r_uses_2 g (A_r_uses g lf) lf x1 x2 n p).trans ?_)
    rw [(show (fun q => A_r_uses g lf 2 [n] (enc_r_uses_2 x1 x2 q)) = (fun q => G_r_uses_2 lf x1 x2 n q) from funext ih)]
    rfl
def F_r_uses (lf : Nat) (x1 : (List DGive)) (x2 : ByteArray) : Option Rt_r_uses := R_r_uses_in lf x1 x2 (fun q => G_r_uses_2 lf x1 x2 lf q)
theorem run_r_uses (g : ElA [(.list cGive), .str] → Option Rt_r_uses) (lf : Nat) (x1 : (List DGive)) (x2 : ByteArray) : icodeT Tryz.prog ttT.get nm_r_uses fi50.nt (cl_r_uses _ lf) lf st_r_uses (A_r_uses g lf) fi50.body [] (argGo (argV [(.list cGive), .str] (x1, x2, ())) 0 .leaf) S0 [] (lastK ttT.get fi50 ⟨[(.list cGive), .str], [(false, .bool)], g⟩) = F_r_uses lf x1 x2 := by
    refine (in_r_uses g (A_r_uses g lf) lf x1 x2).trans ?_
    rw [(show (fun q => A_r_uses g lf 2 [lf] (enc_r_uses_2 x1 x2 q)) = (fun q => G_r_uses_2 lf x1 x2 lf q) from funext fun q => at_r_uses_2 g lf x1 x2 lf q)]
    rfl
theorem hxs_r_uses : HxsOK Tryz.prog hxl_r_uses := trivial
theorem mk_r_uses {g : ElA [(.list cGive), .str] → Option Rt_r_uses} (hsm : SmOK Tryz.prog sml_r_uses) (hg : ∀ (x : ElA [(.list cGive), .str]) (y : Rt_r_uses), WfA [(.list cGive), .str] x → g x = some y → ∃ lf, F_r_uses lf x.1 x.2.1 = some y) : Con Tryz.prog 50 ⟨[(.list cGive), .str], [(false, .bool)], g⟩ :=
  conT (nmf := nm_r_uses) (sml := sml_r_uses) (hxl := hxl_r_uses) (st := st_r_uses) (hd := hd_r_uses) 20 mixed ttOK ftOK hsm hxs_r_uses cal50 rfl rfl (by kernel_rfl) (fun x => by kernel_rfl) nd_r_uses ok_r_uses fun x y hx hy => by
    obtain ⟨lf, h⟩ := hg x y hx hy
    exact ⟨lf, (run_r_uses g lf x.1 x.2.1).trans h⟩
def nm_r_SameRules : Nat → Option Nm := fun k => cond (Nat.beq k 4) (some ⟨[0, 1, 5], [], [], [], [], 0, 0, false⟩) (cond (Nat.beq k 9) (some ⟨[0, 1, 5, 6], [], [], [], [], 0, 0, false⟩) (none))
def st_r_SameRules : Nat → Bool := fun k => cond (Nat.beq k 4) true (cond (Nat.beq k 9) true (false))
def hd_r_SameRules : Nat → Bool := fun k => cond (Nat.beq k 4) true (cond (Nat.beq k 9) true (false))
abbrev Rt_r_SameRules : Type := Bool × Unit
def sml_r_SameRules : List (Nat × Sm) := []
def hxl_r_SameRules : List (Nat × Hx) := []
def cl_r_SameRules (R : Type) (lf : Nat) : ClK R := icallK Tryz.prog ttT.get ftT.get (nm1 16 nm_r_SameRules) (smL sml_r_SameRules) (hxL hxl_r_SameRules) lf 20 R
abbrev id_r_SameRules : Nat := 16
def enc_r_SameRules_4 (x1 : (List DRule)) (x2 : (List DRule)) (p : Int) : NRes := (NRes.mk (PT.node (some (IV.lst cRule x1)) (PT.node (some (IV.lst cRule x2)) PT.leaf (PT.node (some (IV.int Go.IntKind.i64 p)) PT.leaf PT.leaf)) PT.leaf) (IS.mk PT.leaf 0) [] 0)
def enc_r_SameRules_9 (x1 : (List DRule)) (x2 : (List DRule)) (p : Int × Int) : NRes := (NRes.mk (PT.node (some (IV.lst cRule x1)) (PT.node (some (IV.lst cRule x2)) PT.leaf (PT.node (some (IV.int Go.IntKind.i64 p.2)) PT.leaf PT.leaf)) (PT.node none PT.leaf (PT.node (some (IV.int Go.IntKind.i64 p.1)) PT.leaf PT.leaf))) (IS.mk PT.leaf 0) [] 0)
def R_r_SameRules_in (lf : Nat) (x1 : (List DRule)) (x2 : (List DRule)) (L4 : Int → Option Rt_r_SameRules) : Option Rt_r_SameRules := (cond (Bool.not (ieqI (Int.ofNat (List.length x1)) (Int.ofNat (List.length x2)))) (some (Bool.false, ())) (L4 (Int.ofNat 0)))
def R_r_SameRules_4 (lf : Nat) (x1 : (List DRule)) (x2 : (List DRule)) (L9 : (Int × Int) → Option Rt_r_SameRules) (p : Int) : Option Rt_r_SameRules := (cond (iltI p (Int.ofNat (List.length x1))) (match (jget x1 p) with | .none  => none | .some v0 => (match (jget x2 p) with | .none  => none | .some v1 => (cond (Bool.not (keqS v0.1 v1.1)) (some (Bool.false, ())) (match (jget x1 p) with | .none  => none | .some v2 => (match (jget x2 p) with | .none  => none | .some v3 => (cond (Bool.not (keqS v2.2.1 v3.2.1)) (some (Bool.false, ())) (match (jget x1 p) with | .none  => none | .some v4 => (match (jget x2 p) with | .none  => none | .some v5 => (cond (Bool.not (ieqI (Int.ofNat (List.length v4.2.2)) (Int.ofNat (List.length v5.2.2)))) (some (Bool.false, ())) (L9 ((Int.ofNat 0), p))))))))))) (some (Bool.true, ())))
def R_r_SameRules_9 (lf : Nat) (x1 : (List DRule)) (x2 : (List DRule)) (L9 : (Int × Int) → Option Rt_r_SameRules) (L4 : Int → Option Rt_r_SameRules) (p : Int × Int) : Option Rt_r_SameRules := (match (jget x1 p.2) with | .none  => none | .some v0 => (cond (iltI p.1 (Int.ofNat (List.length v0.2.2))) (match (jget x1 p.2) with | .none  => none | .some v1 => (match (jget v1.2.2 p.1) with | .none  => none | .some v2 => (match (jget x2 p.2) with | .none  => none | .some v3 => (match (jget v3.2.2 p.1) with | .none  => none | .some v4 => (cond (Bool.not (Bool.and (keqS v2.1 v4.1) (Bool.and (keqI v2.2.1 v4.2.1) (Bool.and (keqI v2.2.2 v4.2.2) Bool.true)))) (some (Bool.false, ())) (L9 ((Go.IntKind.wrap Go.IntKind.i64 (Int.add p.1 (Int.ofNat 1))), p.2))))))) (L4 (Go.IntKind.wrap Go.IntKind.i64 (Int.add p.2 (Int.ofNat 1))))))
theorem in_r_SameRules (g : ElA [(.list cRule), (.list cRule)] → Option Rt_r_SameRules) (J : Nat → List Nat → NRes → Option Rt_r_SameRules) (lf : Nat) (x1 : (List DRule)) (x2 : (List DRule)) : icodeT Tryz.prog ttT.get nm_r_SameRules fi16.nt (cl_r_SameRules _ lf) lf st_r_SameRules J fi16.body [] (argGo (argV [(.list cRule), (.list cRule)] (x1, x2, ())) 0 .leaf) S0 [] (lastK ttT.get fi16 ⟨[(.list cRule), (.list cRule)], [(false, .bool)], g⟩) = R_r_SameRules_in lf x1 x2 (fun q => J 4 [lf] (enc_r_SameRules_4 x1 x2 q)) := by kernel_rfl
theorem st_r_SameRules_4 (g : ElA [(.list cRule), (.list cRule)] → Option Rt_r_SameRules) (J : Nat → List Nat → NRes → Option Rt_r_SameRules) (lf : Nat) (x1 : (List DRule)) (x2 : (List DRule)) (m1 : Nat) (p : Int) : icodeFT Tryz.prog ttT.get nm_r_SameRules fi16.nt (cl_r_SameRules _ lf) lf st_r_SameRules J 4 fi16.body [] [m1] (enc_r_SameRules_4 x1 x2 p) (lastK ttT.get fi16 ⟨[(.list cRule), (.list cRule)], [(false, .bool)], g⟩) = R_r_SameRules_4 lf x1 x2 (fun q => J 9 [m1, lf] (enc_r_SameRules_9 x1 x2 q)) p := by kernel_rfl
theorem st_r_SameRules_9 (g : ElA [(.list cRule), (.list cRule)] → Option Rt_r_SameRules) (J : Nat → List Nat → NRes → Option Rt_r_SameRules) (lf : Nat) (x1 : (List DRule)) (x2 : (List DRule)) (m1 : Nat) (m2 : Nat) (p : Int × Int) : icodeFT Tryz.prog ttT.get nm_r_SameRules fi16.nt (cl_r_SameRules _ lf) lf st_r_SameRules J 9 fi16.body [] [m1, m2] (enc_r_SameRules_9 x1 x2 p) (lastK ttT.get fi16 ⟨[(.list cRule), (.list cRule)], [(false, .bool)], g⟩) = R_r_SameRules_9 lf x1 x2 (fun q => J 9 [m1, m2] (enc_r_SameRules_9 x1 x2 q)) (fun q => J 4 [m1] (enc_r_SameRules_4 x1 x2 q)) p := by kernel_rfl
theorem nd_r_SameRules : (regs fi16.body).Nodup := by decide +kernel
theorem ok_r_SameRules : okC nm_r_SameRules st_r_SameRules hd_r_SameRules fi16.body none = true := by kernel_rfl
def A_r_SameRules (g : ElA [(.list cRule), (.list cRule)] → Option Rt_r_SameRules) (lf : Nat) : Nat → List Nat → NRes → Option Rt_r_SameRules := atN Tryz.prog ttT.get nm_r_SameRules fi16 ⟨[(.list cRule), (.list cRule)], [(false, .bool)], g⟩ (cl_r_SameRules _ lf) lf hd_r_SameRules
def G_r_SameRules_9 (lf : Nat) (x1 : (List DRule)) (x2 : (List DRule)) (K4 : Int → Option Rt_r_SameRules) : Nat → (Int × Int) → Option Rt_r_SameRules := rounds fun K p => R_r_SameRules_9 lf x1 x2 K K4 p
theorem at_r_SameRules_9 (g : ElA [(.list cRule), (.list cRule)] → Option Rt_r_SameRules) (lf : Nat) (x1 : (List DRule)) (x2 : (List DRule)) (m1 : Nat) : ∀ (n : Nat) (p : Int × Int), A_r_SameRules g lf 9 [m1, n] (enc_r_SameRules_9 x1 x2 p) = G_r_SameRules_9 lf x1 x2 (fun q => A_r_SameRules g lf 4 [m1] (enc_r_SameRules_4 x1 x2 q)) n p
  | 0, p => atN_zero 9 [m1, 0] rfl _
  | n + 1, p => by
    have ih := at_r_SameRules_9 g lf x1 x2 m1 n
    refine (atN_eq (icallK_eq 20 _) nd_r_SameRules ok_r_SameRules 9 [m1, n + 1] [m1, n] rfl _).trans ((st_r_SameRules_9 g (A_r_SameRules g lf) lf x1 x2 m1 n p).trans ?_)
    rw [(show (fun q => A_r_SameRules g lf 9 [m1, n] (enc_r_SameRules_9 x1 x2 q)) = (fun q => G_r_SameRules_9 lf x1 x2 (fun q => A_r_SameRules g lf 4 [m1] (enc_r_SameRules_4 x1 x2 q)) n q) from funext ih)]
    rfl
def G_r_SameRules_4 (lf : Nat) (x1 : (List DRule)) (x2 : (List DRule)) : Nat → (Int) → Option Rt_r_SameRules := rounds fun K p => R_r_SameRules_4 lf x1 x2 (fun q => G_r_SameRules_9 lf x1 x2 K lf q) p
theorem at_r_SameRules_4 (g : ElA [(.list cRule), (.list cRule)] → Option Rt_r_SameRules) (lf : Nat) (x1 : (List DRule)) (x2 : (List DRule)) : ∀ (n : Nat) (p : Int), A_r_SameRules g lf 4 [n] (enc_r_SameRules_4 x1 x2 p) = G_r_SameRules_4 lf x1 x2 n p
  | 0, p => atN_zero 4 [0] rfl _
  | n + 1, p => by
    have ih := at_r_SameRules_4 g lf x1 x2 n
    refine (atN_eq (icallK_eq 20 _) nd_r_SameRules ok_r_SameRules 4 [n + 1] [n] rfl _).trans ((st_r_SameRules_4 g (A_r_SameRules g lf) lf x1 x2 n p).trans ?_)
    rw [(show (fun q => A_r_SameRules g lf 9 [n, lf] (enc_r_SameRules_9 x1 x2 q)) = (fun q => G_r_SameRules_9 lf x1 x2 (fun q => A_r_SameRules g lf 4 [n] (enc_r_SameRules_4 x1 x2 q)) lf q) from funext fun q => at_r_SameRules_9 g lf x1 x2 n lf q), (show (fun q => A_r_SameRules g lf 4 [n] (enc_r_SameRules_4 x1 x2 q)) = (fun q => G_r_SameRules_4 lf x1 x2 n q) from funext ih)]
    rfl
def F_r_SameRules (lf : Nat) (x1 : (List DRule)) (x2 : (List DRule)) : Option Rt_r_SameRules := R_r_SameRules_in lf x1 x2 (fun q => G_r_SameRules_4 lf x1 x2 lf q)
theorem run_r_SameRules (g : ElA [(.list cRule), (.list cRule)] → Option Rt_r_SameRules) (lf : Nat) (x1 : (List DRule)) (x2 : (List DRule)) : icodeT Tryz.prog ttT.get nm_r_SameRules fi16.nt (cl_r_SameRules _ lf) lf st_r_SameRules (A_r_SameRules g lf) fi16.body [] (argGo (argV [(.list cRule), (.list cRule)] (x1, x2, ())) 0 .leaf) S0 [] (lastK ttT.get fi16 ⟨[(.list cRule), (.list cRule)], [(false, .bool)], g⟩) = F_r_SameRules lf x1 x2 := by
    refine (in_r_SameRules g (A_r_SameRules g lf) lf x1 x2).trans ?_
    rw [(show (fun q => A_r_SameRules g lf 4 [lf] (enc_r_SameRules_4 x1 x2 q)) = (fun q => G_r_SameRules_4 lf x1 x2 lf q) from funext fun q => at_r_SameRules_4 g lf x1 x2 lf q)]
    rfl
theorem hxs_r_SameRules : HxsOK Tryz.prog hxl_r_SameRules := trivial
theorem mk_r_SameRules {g : ElA [(.list cRule), (.list cRule)] → Option Rt_r_SameRules} (hsm : SmOK Tryz.prog sml_r_SameRules) (hg : ∀ (x : ElA [(.list cRule), (.list cRule)]) (y : Rt_r_SameRules), WfA [(.list cRule), (.list cRule)] x → g x = some y → ∃ lf, F_r_SameRules lf x.1 x.2.1 = some y) : Con Tryz.prog 16 ⟨[(.list cRule), (.list cRule)], [(false, .bool)], g⟩ :=
  conT (nmf := nm_r_SameRules) (sml := sml_r_SameRules) (hxl := hxl_r_SameRules) (st := st_r_SameRules) (hd := hd_r_SameRules) 20 mixed ttOK ftOK hsm hxs_r_SameRules cal16 rfl rfl (by kernel_rfl) (fun x => by kernel_rfl) nd_r_SameRules ok_r_SameRules fun x y hx hy => by
    obtain ⟨lf, h⟩ := hg x y hx hy
    exact ⟨lf, (run_r_SameRules g lf x.1 x.2.1).trans h⟩
def nm_r_Chain : Nat → Option Nm := fun k => cond (Nat.beq k 4) (some ⟨[0, 1, 2, 3, 4, 10, 11], [], [], [], [], 0, 0, false⟩) (cond (Nat.beq k 6) (some ⟨[0, 1, 2, 3, 4, 10, 11], [], [], [], [], 0, 0, false⟩) (cond (Nat.beq k 8) (some ⟨[0, 1, 2, 3, 4, 10, 11], [], [], [], [], 0, 0, false⟩) (cond (Nat.beq k 10) (some ⟨[0, 1, 3, 4, 10, 11], [], [], [], [], 0, 0, false⟩) (cond (Nat.beq k 14) (some ⟨[0, 1, 3, 4, 10, 12, 13], [], [(12, 0, cRule)], [], [], 0, 0, false⟩) (cond (Nat.beq k 20) (some ⟨[0, 1, 3, 4, 10, 12, 13, 14, 15, 16, 17], [], [(12, 0, cRule)], [], [], 0, 0, false⟩) (cond (Nat.beq k 28) (some ⟨[0, 1, 3, 4, 10, 12, 13, 14, 15, 16, 20, 21], [], [(12, 0, cRule), (20, 2, cGive)], [], [], 0, 0, false⟩) (none)))))))
def st_r_Chain : Nat → Bool := fun k => cond (Nat.beq k 4) true (cond (Nat.beq k 6) true (cond (Nat.beq k 8) true (cond (Nat.beq k 10) true (cond (Nat.beq k 14) true (cond (Nat.beq k 20) true (cond (Nat.beq k 28) true (false)))))))
def hd_r_Chain : Nat → Bool := fun k => cond (Nat.beq k 14) true (cond (Nat.beq k 20) true (cond (Nat.beq k 28) true (false)))
abbrev Rt_r_Chain : Type := DR22Ruled × Unit
def sml_r_Chain : List (Nat × Sm) := [(47, sp_r_CheckForms), (48, sp_r_ruled), (41, sp_r_rule), (40, sp_r_form), (49, sp_r_asks), (50, sp_r_uses), (53, sp_r_column), (52, sp_r_chained)]
def hxl_r_Chain : List (Nat × Hx) := []
def cl_r_Chain (R : Type) (lf : Nat) : ClK R := icallK Tryz.prog ttT.get ftT.get (nm1 15 nm_r_Chain) (smL sml_r_Chain) (hxL hxl_r_Chain) lf 20 R
abbrev id_r_Chain : Nat := 15
def enc_r_Chain_4 (x1 : (List DForm)) (x2 : (List DForm)) (x3 : (List DForm)) (x4 : (List DRule)) (x5 : (List DRule)) (p : Int) : NRes := (NRes.mk (PT.node (some (IV.lst cForm x1)) (PT.node (some (IV.lst cForm x2)) (PT.node (some (IV.lst cRule x4)) PT.leaf (PT.node (some (IV.int Go.IntKind.i64 p)) PT.leaf PT.leaf)) PT.leaf) (PT.node (some (IV.lst cForm x3)) (PT.node (some (IV.lst cRule x5)) PT.leaf PT.leaf) (PT.node none (PT.node (some (IV.ptr 0 0)) PT.leaf PT.leaf) PT.leaf))) (IS.mk (PT.node (some (IObj.row (List.cons IV.nilsl (List.cons (IV.bool Bool.false) (List.cons (IV.int Go.IntKind.i64 (Int.ofNat 0)) []))))) PT.leaf PT.leaf) 1) [] 0)
def enc_r_Chain_6 (x1 : (List DForm)) (x2 : (List DForm)) (x3 : (List DForm)) (x4 : (List DRule)) (x5 : (List DRule)) (p : Int) : NRes := (NRes.mk (PT.node (some (IV.lst cForm x1)) (PT.node (some (IV.lst cForm x2)) (PT.node (some (IV.lst cRule x4)) PT.leaf (PT.node (some (IV.int Go.IntKind.i64 p)) PT.leaf PT.leaf)) PT.leaf) (PT.node (some (IV.lst cForm x3)) (PT.node (some (IV.lst cRule x5)) PT.leaf PT.leaf) (PT.node none (PT.node (some (IV.ptr 0 0)) PT.leaf PT.leaf) PT.leaf))) (IS.mk (PT.node (some (IObj.row (List.cons IV.nilsl (List.cons (IV.bool Bool.false) (List.cons (IV.int Go.IntKind.i64 (Int.ofNat 0)) []))))) PT.leaf PT.leaf) 1) [] 0)
def enc_r_Chain_8 (x1 : (List DForm)) (x2 : (List DForm)) (x3 : (List DForm)) (x4 : (List DRule)) (x5 : (List DRule)) (p : Int) : NRes := (NRes.mk (PT.node (some (IV.lst cForm x1)) (PT.node (some (IV.lst cForm x2)) (PT.node (some (IV.lst cRule x4)) PT.leaf (PT.node (some (IV.int Go.IntKind.i64 p)) PT.leaf PT.leaf)) PT.leaf) (PT.node (some (IV.lst cForm x3)) (PT.node (some (IV.lst cRule x5)) PT.leaf PT.leaf) (PT.node none (PT.node (some (IV.ptr 0 0)) PT.leaf PT.leaf) PT.leaf))) (IS.mk (PT.node (some (IObj.row (List.cons IV.nilsl (List.cons (IV.bool Bool.false) (List.cons (IV.int Go.IntKind.i64 (Int.ofNat 0)) []))))) PT.leaf PT.leaf) 1) [] 0)
def enc_r_Chain_10 (x1 : (List DForm)) (x2 : (List DForm)) (x3 : (List DForm)) (x4 : (List DRule)) (x5 : (List DRule)) (p : Int) : NRes := (NRes.mk (PT.node (some (IV.lst cForm x1)) (PT.node (some (IV.lst cForm x2)) (PT.node (some (IV.lst cRule x4)) PT.leaf (PT.node (some (IV.int Go.IntKind.i64 p)) PT.leaf PT.leaf)) PT.leaf) (PT.node none (PT.node (some (IV.lst cRule x5)) PT.leaf PT.leaf) (PT.node none (PT.node (some (IV.ptr 0 0)) PT.leaf PT.leaf) PT.leaf))) (IS.mk (PT.node (some (IObj.row (List.cons IV.nilsl (List.cons (IV.bool Bool.false) (List.cons (IV.int Go.IntKind.i64 (Int.ofNat 0)) []))))) PT.leaf PT.leaf) 1) [] 0)
def enc_r_Chain_14 (x1 : (List DForm)) (x2 : (List DForm)) (x3 : (List DForm)) (x4 : (List DRule)) (x5 : (List DRule)) (p : Int × (List DRule)) : NRes := (NRes.mk (PT.node (some (IV.lst cForm x1)) (PT.node (some (IV.lst cForm x2)) (PT.node (some (IV.lst cRule x4)) PT.leaf PT.leaf) (PT.node none PT.leaf (PT.node (some (IV.int Go.IntKind.i64 p.1)) PT.leaf PT.leaf))) (PT.node none (PT.node (some (IV.lst cRule x5)) PT.leaf (PT.node (some (IV.ptr 1 0)) PT.leaf PT.leaf)) (PT.node none (PT.node (some (IV.ptr 0 0)) PT.leaf PT.leaf) PT.leaf))) (IS.mk (PT.node (some (IObj.row (List.cons IV.nilsl (List.cons (IV.bool Bool.false) (List.cons (IV.int Go.IntKind.i64 (Int.ofNat 0)) []))))) (PT.node (some (IObj.row (List.cons (IV.arr 2) (List.cons (IV.bool Bool.false) (List.cons (IV.int Go.IntKind.i64 (Int.ofNat 0)) []))))) PT.leaf PT.leaf) (PT.node (some (IObj.arr cRule p.2)) PT.leaf PT.leaf)) 3) [] 0)
def enc_r_Chain_20 (x1 : (List DForm)) (x2 : (List DForm)) (x3 : (List DForm)) (x4 : (List DRule)) (x5 : (List DRule)) (p : (List DCol) × ByteArray × ByteArray × ByteArray × ByteArray × ByteArray × (List DGive) × (List DGive) × Int × Int × (List DRule)) : NRes := (NRes.mk (PT.node (some (IV.lst cForm x1)) (PT.node (some (IV.lst cForm x2)) (PT.node (some (IV.lst cRule x4)) (PT.node none (PT.node (some (IV.ptr 3 0)) PT.leaf PT.leaf) PT.leaf) PT.leaf) (PT.node none (PT.node none (PT.node (some (IV.int Go.IntKind.i64 p.2.2.2.2.2.2.2.2.1)) PT.leaf PT.leaf) PT.leaf) (PT.node (some (IV.int Go.IntKind.i64 p.2.2.2.2.2.2.2.2.2.1)) PT.leaf PT.leaf))) (PT.node none (PT.node (some (IV.lst cRule x5)) (PT.node none (PT.node (some (IV.ptr 4 0)) PT.leaf PT.leaf) PT.leaf) (PT.node (some (IV.ptr 1 0)) PT.leaf PT.leaf)) (PT.node none (PT.node (some (IV.ptr 0 0)) PT.leaf PT.leaf) (PT.node (some (IV.ptr 2 0)) PT.leaf PT.leaf)))) (IS.mk (PT.node (some (IObj.row (List.cons IV.nilsl (List.cons (IV.bool Bool.false) (List.cons (IV.int Go.IntKind.i64 (Int.ofNat 0)) []))))) (PT.node (some (IObj.row (List.cons (IV.arr 5) (List.cons (IV.bool Bool.false) (List.cons (IV.int Go.IntKind.i64 (Int.ofNat 0)) []))))) (PT.node (some (IObj.row (List.cons (IV.str p.2.2.1) (List.cons (IV.str p.2.2.2.2.1) (List.cons (IV.lst cGive p.2.2.2.2.2.2.2.1) []))))) PT.leaf PT.leaf) (PT.node (some (IObj.arr cRule p.2.2.2.2.2.2.2.2.2.2)) PT.leaf PT.leaf)) (PT.node (some (IObj.row (List.cons (IV.str p.2.1) (List.cons (IV.str p.2.2.2.2.2.1) (List.cons (IV.lst cGive p.2.2.2.2.2.2.1) []))))) (PT.node (some (IObj.row (List.cons (IV.str p.2.2.2.1) (List.cons (IV.lst cCol p.1) [])))) PT.leaf PT.leaf) PT.leaf)) 6) [] 0)
def enc_r_Chain_28 (x1 : (List DForm)) (x2 : (List DForm)) (x3 : (List DForm)) (x4 : (List DRule)) (x5 : (List DRule)) (p : (List DCol) × ByteArray × ByteArray × (List DGive) × ByteArray × ByteArray × (List DGive) × ByteArray × ByteArray × Int × (List DGive) × Int × (List DRule)) : NRes := (NRes.mk (PT.node (some (IV.lst cForm x1)) (PT.node (some (IV.lst cForm x2)) (PT.node (some (IV.lst cRule x4)) (PT.node none (PT.node (some (IV.ptr 3 0)) PT.leaf PT.leaf) PT.leaf) PT.leaf) (PT.node none PT.leaf (PT.node (some (IV.int Go.IntKind.i64 p.2.2.2.2.2.2.2.2.2.2.2.1)) (PT.node (some (IV.int Go.IntKind.i64 p.2.2.2.2.2.2.2.2.2.1)) PT.leaf PT.leaf) PT.leaf))) (PT.node none (PT.node (some (IV.lst cRule x5)) (PT.node none (PT.node (some (IV.ptr 4 0)) PT.leaf PT.leaf) PT.leaf) (PT.node (some (IV.ptr 1 0)) (PT.node (some (IV.ptr 5 0)) PT.leaf PT.leaf) PT.leaf)) (PT.node none (PT.node (some (IV.ptr 0 0)) PT.leaf PT.leaf) (PT.node (some (IV.ptr 2 0)) PT.leaf PT.leaf)))) (IS.mk (PT.node (some (IObj.row (List.cons IV.nilsl (List.cons (IV.bool Bool.false) (List.cons (IV.int Go.IntKind.i64 (Int.ofNat 0)) []))))) (PT.node (some (IObj.row (List.cons (IV.arr 6) (List.cons (IV.bool Bool.false) (List.cons (IV.int Go.IntKind.i64 (Int.ofNat 0)) []))))) (PT.node (some (IObj.row (List.cons (IV.str p.2.1) (List.cons (IV.str p.2.2.1) (List.cons (IV.lst cGive p.2.2.2.1) []))))) (PT.node (some (IObj.arr cGive p.2.2.2.2.2.2.2.2.2.2.1)) PT.leaf PT.leaf) PT.leaf) (PT.node (some (IObj.row (List.cons (IV.str p.2.2.2.2.2.2.2.2.1) (List.cons (IV.str p.2.2.1) (List.cons (IV.arr 7) []))))) PT.leaf PT.leaf)) (PT.node (some (IObj.row (List.cons (IV.str p.2.2.2.2.2.1) (List.cons (IV.str p.2.2.2.2.1) (List.cons (IV.lst cGive p.2.2.2.2.2.2.1) []))))) (PT.node (some (IObj.row (List.cons (IV.str p.2.2.2.2.2.2.2.1) (List.cons (IV.lst cCol p.1) [])))) PT.leaf PT.leaf) (PT.node (some (IObj.arr cRule p.2.2.2.2.2.2.2.2.2.2.2.2)) PT.leaf PT.leaf))) 8) [] 0)
def R_r_Chain_in (lf : Nat) (x1 : (List DForm)) (x2 : (List DForm)) (x3 : (List DForm)) (x4 : (List DRule)) (x5 : (List DRule)) (L4 : Int → Option Rt_r_Chain) : Option Rt_r_Chain := (cond (ieqI (Go.Proofs.YtcnhjofpmpipfaaGreat.S.checkForms x1) (Int.ofNat 0)) (L4 (Go.Proofs.YtcnhjofpmpipfaaGreat.S.checkForms x2)) (L4 (Go.Proofs.YtcnhjofpmpipfaaGreat.S.checkForms x1)))
def R_r_Chain_4 (lf : Nat) (x1 : (List DForm)) (x2 : (List DForm)) (x3 : (List DForm)) (x4 : (List DRule)) (x5 : (List DRule)) (L6 : Int → Option Rt_r_Chain) (p : Int) : Option Rt_r_Chain := (cond (ieqI p (Int.ofNat 0)) (L6 (Go.Proofs.YtcnhjofpmpipfaaGreat.S.checkForms x3)) (L6 p))
def R_r_Chain_6 (lf : Nat) (x1 : (List DForm)) (x2 : (List DForm)) (x3 : (List DForm)) (x4 : (List DRule)) (x5 : (List DRule)) (L8 : Int → Option Rt_r_Chain) (p : Int) : Option Rt_r_Chain := (cond (ieqI p (Int.ofNat 0)) (match (cond (Go.Proofs.YtcnhjofpmpipfaaGreat.S.ruledPre x1 x2) (some ((Go.Proofs.YtcnhjofpmpipfaaGreat.S.checkRules0 x1 x2 x4), ())) none) with | .none  => none | .some v0 => (L8 v0.1)) (L8 p))
def R_r_Chain_8 (lf : Nat) (x1 : (List DForm)) (x2 : (List DForm)) (x3 : (List DForm)) (x4 : (List DRule)) (x5 : (List DRule)) (L10 : Int → Option Rt_r_Chain) (p : Int) : Option Rt_r_Chain := (cond (ieqI p (Int.ofNat 0)) (match (cond (Go.Proofs.YtcnhjofpmpipfaaGreat.S.ruledPre x2 x3) (some ((Go.Proofs.YtcnhjofpmpipfaaGreat.S.checkRules0 x2 x3 x5), ())) none) with | .none  => none | .some v0 => (L10 v0.1)) (L10 p))
def R_r_Chain_10 (lf : Nat) (x1 : (List DForm)) (x2 : (List DForm)) (x3 : (List DForm)) (x4 : (List DRule)) (x5 : (List DRule)) (L14 : (Int × (List DRule)) → Option Rt_r_Chain) (p : Int) : Option Rt_r_Chain := (cond (Bool.not (ieqI p (Int.ofNat 0))) (some (([], (Bool.false, p)), ())) (L14 ((Int.ofNat 0), [])))
def R_r_Chain_14 (lf : Nat) (x1 : (List DForm)) (x2 : (List DForm)) (x3 : (List DForm)) (x4 : (List DRule)) (x5 : (List DRule)) (L20 : ((List DCol) × ByteArray × ByteArray × ByteArray × ByteArray × ByteArray × (List DGive) × (List DGive) × Int × Int × (List DRule)) → Option Rt_r_Chain) (p : Int × (List DRule)) : Option Rt_r_Chain := (cond (iltI p.1 (Int.ofNat (List.length x1))) (match (jget x1 p.1) with | .none  => none | .some v0 => (match (jget x4 (S.idx (fun v1 => (keqS v1.1 v0.1)) x4)) with | .none  => none | .some v2 => (match (jget x5 (S.idx (fun v3 => (keqS v3.1 v2.2.1)) x5)) with | .none  => none | .some v4 => (match (jget x2 (Go.Proofs.YtcnhjofpmpipfaaGreat.S.form x2 v2.2.1)) with | .none  => none | .some v5 => (L20 (v5.2, v2.1, v4.1, v5.1, v4.2.1, v2.2.1, v2.2.2, v4.2.2, (Int.ofNat 0), p.1, p.2)))))) (some ((p.2, (Bool.false, (Int.ofNat 0))), ())))
def R_r_Chain_20 (lf : Nat) (x1 : (List DForm)) (x2 : (List DForm)) (x3 : (List DForm)) (x4 : (List DRule)) (x5 : (List DRule)) (L20 : ((List DCol) × ByteArray × ByteArray × ByteArray × ByteArray × ByteArray × (List DGive) × (List DGive) × Int × Int × (List DRule)) → Option Rt_r_Chain) (L28 : ((List DCol) × ByteArray × ByteArray × (List DGive) × ByteArray × ByteArray × (List DGive) × ByteArray × ByteArray × Int × (List DGive) × Int × (List DRule)) → Option Rt_r_Chain) (p : (List DCol) × ByteArray × ByteArray × ByteArray × ByteArray × ByteArray × (List DGive) × (List DGive) × Int × Int × (List DRule)) : Option Rt_r_Chain := (cond (iltI p.2.2.2.2.2.2.2.2.1 (Int.ofNat (List.length p.2.2.2.2.2.2.1))) (match (jget p.2.2.2.2.2.2.1 p.2.2.2.2.2.2.2.2.1) with | .none  => none | .some v0 => (match (jget p.1 p.2.2.2.2.2.2.2.2.1) with | .none  => none | .some v1 => (cond (Go.Proofs.YtcnhjofpmpipfaaGreat.S.asksG (v0.1, (v0.2.1, v0.2.2))) (cond (Bool.not (Go.Proofs.YtcnhjofpmpipfaaGreat.S.uses p.2.2.2.2.2.2.2.1 v1.1)) (some (([], (Bool.false, (Int.ofNat 5))), ())) (L20 (p.1, p.2.1, p.2.2.1, p.2.2.2.1, p.2.2.2.2.1, p.2.2.2.2.2.1, p.2.2.2.2.2.2.1, p.2.2.2.2.2.2.2.1, (Go.IntKind.wrap Go.IntKind.i64 (Int.add p.2.2.2.2.2.2.2.2.1 (Int.ofNat 1))), p.2.2.2.2.2.2.2.2.2.1, p.2.2.2.2.2.2.2.2.2.2))) (L20 (p.1, p.2.1, p.2.2.1, p.2.2.2.1, p.2.2.2.2.1, p.2.2.2.2.2.1, p.2.2.2.2.2.2.1, p.2.2.2.2.2.2.2.1, (Go.IntKind.wrap Go.IntKind.i64 (Int.add p.2.2.2.2.2.2.2.2.1 (Int.ofNat 1))), p.2.2.2.2.2.2.2.2.2.1, p.2.2.2.2.2.2.2.2.2.2))))) (match (jget x1 p.2.2.2.2.2.2.2.2.2.1) with | .none  => none | .some v25 => (L28 (p.1, p.2.2.1, p.2.2.2.2.1, p.2.2.2.2.2.2.2.1, p.2.2.2.2.2.1, p.2.1, p.2.2.2.2.2.2.1, p.2.2.2.1, v25.1, (Int.ofNat 0), [], p.2.2.2.2.2.2.2.2.2.1, p.2.2.2.2.2.2.2.2.2.2))))
def R_r_Chain_28 (lf : Nat) (x1 : (List DForm)) (x2 : (List DForm)) (x3 : (List DForm)) (x4 : (List DRule)) (x5 : (List DRule)) (L28 : ((List DCol) × ByteArray × ByteArray × (List DGive) × ByteArray × ByteArray × (List DGive) × ByteArray × ByteArray × Int × (List DGive) × Int × (List DRule)) → Option Rt_r_Chain) (L14 : (Int × (List DRule)) → Option Rt_r_Chain) (p : (List DCol) × ByteArray × ByteArray × (List DGive) × ByteArray × ByteArray × (List DGive) × ByteArray × ByteArray × Int × (List DGive) × Int × (List DRule)) : Option Rt_r_Chain := (cond (iltI p.2.2.2.2.2.2.2.2.2.1 (Int.ofNat (List.length p.2.2.2.1))) (match (jget p.2.2.2.1 p.2.2.2.2.2.2.2.2.2.1) with | .none  => none | .some v0 => (cond (Bool.not (iltI v0.2.1 (Int.ofNat 1))) (cond (Bool.not (iltI (Int.ofNat 5) v0.2.1)) (match (jget p.2.2.2.2.2.2.1 (Go.Proofs.YtcnhjofpmpipfaaGreat.S.col p.1 v0.1)) with | .none  => none | .some v1 => (cond (Bool.not (Go.Proofs.YtcnhjofpmpipfaaGreat.S.rchained (v1.1, (v1.2.1, v1.2.2)) (v0.1, (v0.2.1, v0.2.2))).2) (some (([], (Bool.false, (Int.ofNat 5))), ())) (cond (Nat.ble (Nat.mul (Nat.add (List.length p.2.2.2.2.2.2.2.2.2.2.1) 1) 32) 140737488355328) (L28 (p.1, p.2.1, p.2.2.1, p.2.2.2.1, p.2.2.2.2.1, p.2.2.2.2.2.1, p.2.2.2.2.2.2.1, p.2.2.2.2.2.2.2.1, p.2.2.2.2.2.2.2.2.1, (Go.IntKind.wrap Go.IntKind.i64 (Int.add p.2.2.2.2.2.2.2.2.2.1 (Int.ofNat 1))), (List.append p.2.2.2.2.2.2.2.2.2.2.1 (List.cons ((Go.Proofs.YtcnhjofpmpipfaaGreat.S.rchained (v1.1, (v1.2.1, v1.2.2)) (v0.1, (v0.2.1, v0.2.2))).1.1, ((Go.Proofs.YtcnhjofpmpipfaaGreat.S.rchained (v1.1, (v1.2.1, v1.2.2)) (v0.1, (v0.2.1, v0.2.2))).1.2.1, (Go.Proofs.YtcnhjofpmpipfaaGreat.S.rchained (v1.1, (v1.2.1, v1.2.2)) (v0.1, (v0.2.1, v0.2.2))).1.2.2)) [])), p.2.2.2.2.2.2.2.2.2.2.2.1, p.2.2.2.2.2.2.2.2.2.2.2.2)) none))) (cond (Nat.ble (Nat.mul (Nat.add (List.length p.2.2.2.2.2.2.2.2.2.2.1) 1) 32) 140737488355328) (L28 (p.1, p.2.1, p.2.2.1, p.2.2.2.1, p.2.2.2.2.1, p.2.2.2.2.2.1, p.2.2.2.2.2.2.1, p.2.2.2.2.2.2.2.1, p.2.2.2.2.2.2.2.2.1, (Go.IntKind.wrap Go.IntKind.i64 (Int.add p.2.2.2.2.2.2.2.2.2.1 (Int.ofNat 1))), (List.append p.2.2.2.2.2.2.2.2.2.2.1 (List.cons (v0.1, (v0.2.1, v0.2.2)) [])), p.2.2.2.2.2.2.2.2.2.2.2.1, p.2.2.2.2.2.2.2.2.2.2.2.2)) none)) (cond (Nat.ble (Nat.mul (Nat.add (List.length p.2.2.2.2.2.2.2.2.2.2.1) 1) 32) 140737488355328) (L28 (p.1, p.2.1, p.2.2.1, p.2.2.2.1, p.2.2.2.2.1, p.2.2.2.2.2.1, p.2.2.2.2.2.2.1, p.2.2.2.2.2.2.2.1, p.2.2.2.2.2.2.2.2.1, (Go.IntKind.wrap Go.IntKind.i64 (Int.add p.2.2.2.2.2.2.2.2.2.1 (Int.ofNat 1))), (List.append p.2.2.2.2.2.2.2.2.2.2.1 (List.cons (v0.1, (v0.2.1, v0.2.2)) [])), p.2.2.2.2.2.2.2.2.2.2.2.1, p.2.2.2.2.2.2.2.2.2.2.2.2)) none))) (cond (Nat.ble (Nat.mul (Nat.add (List.length p.2.2.2.2.2.2.2.2.2.2.2.2) 1) 56) 140737488355328) (L14 ((Go.IntKind.wrap Go.IntKind.i64 (Int.add p.2.2.2.2.2.2.2.2.2.2.2.1 (Int.ofNat 1))), (List.append p.2.2.2.2.2.2.2.2.2.2.2.2 (List.cons (p.2.2.2.2.2.2.2.2.1, (p.2.2.1, p.2.2.2.2.2.2.2.2.2.2.1)) [])))) none))
theorem in_r_Chain (g : ElA [(.list cForm), (.list cForm), (.list cForm), (.list cRule), (.list cRule)] → Option Rt_r_Chain) (J : Nat → List Nat → NRes → Option Rt_r_Chain) (lf : Nat) (x1 : (List DForm)) (x2 : (List DForm)) (x3 : (List DForm)) (x4 : (List DRule)) (x5 : (List DRule)) : icodeT Tryz.prog ttT.get nm_r_Chain fi15.nt (cl_r_Chain _ lf) lf st_r_Chain J fi15.body [] (argGo (argV [(.list cForm), (.list cForm), (.list cForm), (.list cRule), (.list cRule)] (x1, x2, x3, x4, x5, ())) 0 .leaf) S0 [] (lastK ttT.get fi15 ⟨[(.list cForm), (.list cForm), (.list cForm), (.list cRule), (.list cRule)], [(false, cR22Ruled)], g⟩) = R_r_Chain_in lf x1 x2 x3 x4 x5 (fun q => J 4 [] (enc_r_Chain_4 x1 x2 x3 x4 x5 q)) := by kernel_rfl
theorem st_r_Chain_4 (g : ElA [(.list cForm), (.list cForm), (.list cForm), (.list cRule), (.list cRule)] → Option Rt_r_Chain) (J : Nat → List Nat → NRes → Option Rt_r_Chain) (lf : Nat) (x1 : (List DForm)) (x2 : (List DForm)) (x3 : (List DForm)) (x4 : (List DRule)) (x5 : (List DRule)) (p : Int) : icodeFT Tryz.prog ttT.get nm_r_Chain fi15.nt (cl_r_Chain _ lf) lf st_r_Chain J 4 fi15.body [] [] (enc_r_Chain_4 x1 x2 x3 x4 x5 p) (lastK ttT.get fi15 ⟨[(.list cForm), (.list cForm), (.list cForm), (.list cRule), (.list cRule)], [(false, cR22Ruled)], g⟩) = R_r_Chain_4 lf x1 x2 x3 x4 x5 (fun q => J 6 [] (enc_r_Chain_6 x1 x2 x3 x4 x5 q)) p := by kernel_rfl
theorem st_r_Chain_6 (g : ElA [(.list cForm), (.list cForm), (.list cForm), (.list cRule), (.list cRule)] → Option Rt_r_Chain) (J : Nat → List Nat → NRes → Option Rt_r_Chain) (lf : Nat) (x1 : (List DForm)) (x2 : (List DForm)) (x3 : (List DForm)) (x4 : (List DRule)) (x5 : (List DRule)) (p : Int) : icodeFT Tryz.prog ttT.get nm_r_Chain fi15.nt (cl_r_Chain _ lf) lf st_r_Chain J 6 fi15.body [] [] (enc_r_Chain_6 x1 x2 x3 x4 x5 p) (lastK ttT.get fi15 ⟨[(.list cForm), (.list cForm), (.list cForm), (.list cRule), (.list cRule)], [(false, cR22Ruled)], g⟩) = R_r_Chain_6 lf x1 x2 x3 x4 x5 (fun q => J 8 [] (enc_r_Chain_8 x1 x2 x3 x4 x5 q)) p := by kernel_rfl
theorem st_r_Chain_8 (g : ElA [(.list cForm), (.list cForm), (.list cForm), (.list cRule), (.list cRule)] → Option Rt_r_Chain) (J : Nat → List Nat → NRes → Option Rt_r_Chain) (lf : Nat) (x1 : (List DForm)) (x2 : (List DForm)) (x3 : (List DForm)) (x4 : (List DRule)) (x5 : (List DRule)) (p : Int) : icodeFT Tryz.prog ttT.get nm_r_Chain fi15.nt (cl_r_Chain _ lf) lf st_r_Chain J 8 fi15.body [] [] (enc_r_Chain_8 x1 x2 x3 x4 x5 p) (lastK ttT.get fi15 ⟨[(.list cForm), (.list cForm), (.list cForm), (.list cRule), (.list cRule)], [(false, cR22Ruled)], g⟩) = R_r_Chain_8 lf x1 x2 x3 x4 x5 (fun q => J 10 [] (enc_r_Chain_10 x1 x2 x3 x4 x5 q)) p := by kernel_rfl
theorem st_r_Chain_10 (g : ElA [(.list cForm), (.list cForm), (.list cForm), (.list cRule), (.list cRule)] → Option Rt_r_Chain) (J : Nat → List Nat → NRes → Option Rt_r_Chain) (lf : Nat) (x1 : (List DForm)) (x2 : (List DForm)) (x3 : (List DForm)) (x4 : (List DRule)) (x5 : (List DRule)) (p : Int) : icodeFT Tryz.prog ttT.get nm_r_Chain fi15.nt (cl_r_Chain _ lf) lf st_r_Chain J 10 fi15.body [] [] (enc_r_Chain_10 x1 x2 x3 x4 x5 p) (lastK ttT.get fi15 ⟨[(.list cForm), (.list cForm), (.list cForm), (.list cRule), (.list cRule)], [(false, cR22Ruled)], g⟩) = R_r_Chain_10 lf x1 x2 x3 x4 x5 (fun q => J 14 [lf] (enc_r_Chain_14 x1 x2 x3 x4 x5 q)) p := by kernel_rfl
theorem st_r_Chain_14 (g : ElA [(.list cForm), (.list cForm), (.list cForm), (.list cRule), (.list cRule)] → Option Rt_r_Chain) (J : Nat → List Nat → NRes → Option Rt_r_Chain) (lf : Nat) (x1 : (List DForm)) (x2 : (List DForm)) (x3 : (List DForm)) (x4 : (List DRule)) (x5 : (List DRule)) (m1 : Nat) (p : Int × (List DRule)) : icodeFT Tryz.prog ttT.get nm_r_Chain fi15.nt (cl_r_Chain _ lf) lf st_r_Chain J 14 fi15.body [] [m1] (enc_r_Chain_14 x1 x2 x3 x4 x5 p) (lastK ttT.get fi15 ⟨[(.list cForm), (.list cForm), (.list cForm), (.list cRule), (.list cRule)], [(false, cR22Ruled)], g⟩) = R_r_Chain_14 lf x1 x2 x3 x4 x5 (fun q => J 20 [m1, lf] (enc_r_Chain_20 x1 x2 x3 x4 x5 q)) p := by kernel_rfl
theorem st_r_Chain_20 (g : ElA [(.list cForm), (.list cForm), (.list cForm), (.list cRule), (.list cRule)] → Option Rt_r_Chain) (J : Nat → List Nat → NRes → Option Rt_r_Chain) (lf : Nat) (x1 : (List DForm)) (x2 : (List DForm)) (x3 : (List DForm)) (x4 : (List DRule)) (x5 : (List DRule)) (m1 : Nat) (m2 : Nat) (p : (List DCol) × ByteArray × ByteArray × ByteArray × ByteArray × ByteArray × (List DGive) × (List DGive) × Int × Int × (List DRule)) : icodeFT Tryz.prog ttT.get nm_r_Chain fi15.nt (cl_r_Chain _ lf) lf st_r_Chain J 20 fi15.body [] [m1, m2] (enc_r_Chain_20 x1 x2 x3 x4 x5 p) (lastK ttT.get fi15 ⟨[(.list cForm), (.list cForm), (.list cForm), (.list cRule), (.list cRule)], [(false, cR22Ruled)], g⟩) = R_r_Chain_20 lf x1 x2 x3 x4 x5 (fun q => J 20 [m1, m2] (enc_r_Chain_20 x1 x2 x3 x4 x5 q)) (fun q => J 28 [m1, lf] (enc_r_Chain_28 x1 x2 x3 x4 x5 q)) p := by kernel_rfl
theorem st_r_Chain_28 (g : ElA [(.list cForm), (.list cForm), (.list cForm), (.list cRule), (.list cRule)] → Option Rt_r_Chain) (J : Nat → List Nat → NRes → Option Rt_r_Chain) (lf : Nat) (x1 : (List DForm)) (x2 : (List DForm)) (x3 : (List DForm)) (x4 : (List DRule)) (x5 : (List DRule)) (m1 : Nat) (m2 : Nat) (p : (List DCol) × ByteArray × ByteArray × (List DGive) × ByteArray × ByteArray × (List DGive) × ByteArray × ByteArray × Int × (List DGive) × Int × (List DRule)) : icodeFT Tryz.prog ttT.get nm_r_Chain fi15.nt (cl_r_Chain _ lf) lf st_r_Chain J 28 fi15.body [] [m1, m2] (enc_r_Chain_28 x1 x2 x3 x4 x5 p) (lastK ttT.get fi15 ⟨[(.list cForm), (.list cForm), (.list cForm), (.list cRule), (.list cRule)], [(false, cR22Ruled)], g⟩) = R_r_Chain_28 lf x1 x2 x3 x4 x5 (fun q => J 28 [m1, m2] (enc_r_Chain_28 x1 x2 x3 x4 x5 q)) (fun q => J 14 [m1] (enc_r_Chain_14 x1 x2 x3 x4 x5 q)) p := by kernel_rfl
theorem nd_r_Chain : (regs fi15.body).Nodup := by decide +kernel
theorem ok_r_Chain : okC nm_r_Chain st_r_Chain hd_r_Chain fi15.body none = true := by kernel_rfl
def A_r_Chain (g : ElA [(.list cForm), (.list cForm), (.list cForm), (.list cRule), (.list cRule)] → Option Rt_r_Chain) (lf : Nat) : Nat → List Nat → NRes → Option Rt_r_Chain := atN Tryz.prog ttT.get nm_r_Chain fi15 ⟨[(.list cForm), (.list cForm), (.list cForm), (.list cRule), (.list cRule)], [(false, cR22Ruled)], g⟩ (cl_r_Chain _ lf) lf hd_r_Chain
def G_r_Chain_28 (lf : Nat) (x1 : (List DForm)) (x2 : (List DForm)) (x3 : (List DForm)) (x4 : (List DRule)) (x5 : (List DRule)) (K14 : (Int × (List DRule)) → Option Rt_r_Chain) : Nat → ((List DCol) × ByteArray × ByteArray × (List DGive) × ByteArray × ByteArray × (List DGive) × ByteArray × ByteArray × Int × (List DGive) × Int × (List DRule)) → Option Rt_r_Chain := rounds fun K p => R_r_Chain_28 lf x1 x2 x3 x4 x5 K K14 p
theorem at_r_Chain_28 (g : ElA [(.list cForm), (.list cForm), (.list cForm), (.list cRule), (.list cRule)] → Option Rt_r_Chain) (lf : Nat) (x1 : (List DForm)) (x2 : (List DForm)) (x3 : (List DForm)) (x4 : (List DRule)) (x5 : (List DRule)) (m1 : Nat) : ∀ (n : Nat) (p : (List DCol) × ByteArray × ByteArray × (List DGive) × ByteArray × ByteArray × (List DGive) × ByteArray × ByteArray × Int × (List DGive) × Int × (List DRule)), A_r_Chain g lf 28 [m1, n] (enc_r_Chain_28 x1 x2 x3 x4 x5 p) = G_r_Chain_28 lf x1 x2 x3 x4 x5 (fun q => A_r_Chain g lf 14 [m1] (enc_r_Chain_14 x1 x2 x3 x4 x5 q)) n p
  | 0, p => atN_zero 28 [m1, 0] rfl _
  | n + 1, p => by
    have ih := at_r_Chain_28 g lf x1 x2 x3 x4 x5 m1 n
    refine (atN_eq (icallK_eq 20 _) nd_r_Chain ok_r_Chain 28 [m1, n + 1] [m1, n] rfl _).trans ((st_r_Chain_28 g (A_r_Chain g lf) lf x1 x2 x3 x4 x5 m1 n p).trans ?_)
    rw [(show (fun q => A_r_Chain g lf 28 [m1, n] (enc_r_Chain_28 x1 x2 x3 x4 x5 q)) = (fun q => G_r_Chain_28 lf x1 x2 x3 x4 x5 (fun q => A_r_Chain g lf 14 [m1] (enc_r_Chain_14 x1 x2 x3 x4 x5 q)) n q) from funext ih)]
    rfl
def G_r_Chain_20 (lf : Nat) (x1 : (List DForm)) (x2 : (List DForm)) (x3 : (List DForm)) (x4 : (List DRule)) (x5 : (List DRule)) (K14 : (Int × (List DRule)) → Option Rt_r_Chain) : Nat → ((List DCol) × ByteArray × ByteArray × ByteArray × ByteArray × ByteArray × (List DGive) × (List DGive) × Int × Int × (List DRule)) → Option Rt_r_Chain := rounds fun K p => R_r_Chain_20 lf x1 x2 x3 x4 x5 K (fun q => G_r_Chain_28 lf x1 x2 x3 x4 x5 K14 lf q) p
theorem at_r_Chain_20 (g : ElA [(.list cForm), (.list cForm), (.list cForm), (.list cRule), (.list cRule)] → Option Rt_r_Chain) (lf : Nat) (x1 : (List DForm)) (x2 : (List DForm)) (x3 : (List DForm)) (x4 : (List DRule)) (x5 : (List DRule)) (m1 : Nat) : ∀ (n : Nat) (p : (List DCol) × ByteArray × ByteArray × ByteArray × ByteArray × ByteArray × (List DGive) × (List DGive) × Int × Int × (List DRule)), A_r_Chain g lf 20 [m1, n] (enc_r_Chain_20 x1 x2 x3 x4 x5 p) = G_r_Chain_20 lf x1 x2 x3 x4 x5 (fun q => A_r_Chain g lf 14 [m1] (enc_r_Chain_14 x1 x2 x3 x4 x5 q)) n p
  | 0, p => atN_zero 20 [m1, 0] rfl _
  | n + 1, p => by
    have ih := at_r_Chain_20 g lf x1 x2 x3 x4 x5 m1 n
    refine (atN_eq (icallK_eq 20 _) nd_r_Chain ok_r_Chain 20 [m1, n + 1] [m1, n] rfl _).trans ((st_r_Chain_20 g (A_r_Chain g lf) lf x1 x2 x3 x4 x5 m1 n p).trans ?_)
    rw [(show (fun q => A_r_Chain g lf 28 [m1, lf] (enc_r_Chain_28 x1 x2 x3 x4 x5 q)) = (fun q => G_r_Chain_28 lf x1 x2 x3 x4 x5 (fun q => A_r_Chain g lf 14 [m1] (enc_r_Chain_14 x1 x2 x3 x4 x5 q)) lf q) from funext fun q => at_r_Chain_28 g lf x1 x2 x3 x4 x5 m1 lf q), (show (fun q => A_r_Chain g lf 20 [m1, n] (enc_r_Chain_20 x1 x2 x3 x4 x5 q)) = (fun q => G_r_Chain_20 lf x1 x2 x3 x4 x5 (fun q => A_r_Chain g lf 14 [m1] (enc_r_Chain_14 x1 x2 x3 x4 x5 q)) n q) from funext ih)]
    rfl
def G_r_Chain_14 (lf : Nat) (x1 : (List DForm)) (x2 : (List DForm)) (x3 : (List DForm)) (x4 : (List DRule)) (x5 : (List DRule)) : Nat → (Int × (List DRule)) → Option Rt_r_Chain := rounds fun K p => R_r_Chain_14 lf x1 x2 x3 x4 x5 (fun q => G_r_Chain_20 lf x1 x2 x3 x4 x5 K lf q) p
theorem at_r_Chain_14 (g : ElA [(.list cForm), (.list cForm), (.list cForm), (.list cRule), (.list cRule)] → Option Rt_r_Chain) (lf : Nat) (x1 : (List DForm)) (x2 : (List DForm)) (x3 : (List DForm)) (x4 : (List DRule)) (x5 : (List DRule)) : ∀ (n : Nat) (p : Int × (List DRule)), A_r_Chain g lf 14 [n] (enc_r_Chain_14 x1 x2 x3 x4 x5 p) = G_r_Chain_14 lf x1 x2 x3 x4 x5 n p
  | 0, p => atN_zero 14 [0] rfl _
  | n + 1, p => by
    have ih := at_r_Chain_14 g lf x1 x2 x3 x4 x5 n
    refine (atN_eq (icallK_eq 20 _) nd_r_Chain ok_r_Chain 14 [n + 1] [n] rfl _).trans ((st_r_Chain_14 g (A_r_Chain g lf) lf x1 x2 x3 x4 x5 n p).trans ?_)
    rw [(show (fun q => A_r_Chain g lf 20 [n, lf] (enc_r_Chain_20 x1 x2 x3 x4 x5 q)) = (fun q => G_r_Chain_20 lf x1 x2 x3 x4 x5 (fun q => A_r_Chain g lf 14 [n] (enc_r_Chain_14 x1 x2 x3 x4 x5 q)) lf q) from funext fun q => at_r_Chain_20 g lf x1 x2 x3 x4 x5 n lf q), (show (fun q => A_r_Chain g lf 14 [n] (enc_r_Chain_14 x1 x2 x3 x4 x5 q)) = (fun q => G_r_Chain_14 lf x1 x2 x3 x4 x5 n q) from funext ih)]
    rfl
def G_r_Chain_10 (lf : Nat) (x1 : (List DForm)) (x2 : (List DForm)) (x3 : (List DForm)) (x4 : (List DRule)) (x5 : (List DRule)) (p : Int) : Option Rt_r_Chain := R_r_Chain_10 lf x1 x2 x3 x4 x5 (fun q => G_r_Chain_14 lf x1 x2 x3 x4 x5 lf q) p
theorem at_r_Chain_10 (g : ElA [(.list cForm), (.list cForm), (.list cForm), (.list cRule), (.list cRule)] → Option Rt_r_Chain) (lf : Nat) (x1 : (List DForm)) (x2 : (List DForm)) (x3 : (List DForm)) (x4 : (List DRule)) (x5 : (List DRule)) (p : Int) : A_r_Chain g lf 10 [] (enc_r_Chain_10 x1 x2 x3 x4 x5 p) = G_r_Chain_10 lf x1 x2 x3 x4 x5 p := by
    refine (atN_eq (icallK_eq 20 _) nd_r_Chain ok_r_Chain 10 [] [] rfl _).trans ((st_r_Chain_10 g (A_r_Chain g lf) lf x1 x2 x3 x4 x5 p).trans ?_)
    rw [(show (fun q => A_r_Chain g lf 14 [lf] (enc_r_Chain_14 x1 x2 x3 x4 x5 q)) = (fun q => G_r_Chain_14 lf x1 x2 x3 x4 x5 lf q) from funext fun q => at_r_Chain_14 g lf x1 x2 x3 x4 x5 lf q)]
    rfl
def G_r_Chain_8 (lf : Nat) (x1 : (List DForm)) (x2 : (List DForm)) (x3 : (List DForm)) (x4 : (List DRule)) (x5 : (List DRule)) (p : Int) : Option Rt_r_Chain := R_r_Chain_8 lf x1 x2 x3 x4 x5 (fun q => G_r_Chain_10 lf x1 x2 x3 x4 x5 q) p
theorem at_r_Chain_8 (g : ElA [(.list cForm), (.list cForm), (.list cForm), (.list cRule), (.list cRule)] → Option Rt_r_Chain) (lf : Nat) (x1 : (List DForm)) (x2 : (List DForm)) (x3 : (List DForm)) (x4 : (List DRule)) (x5 : (List DRule)) (p : Int) : A_r_Chain g lf 8 [] (enc_r_Chain_8 x1 x2 x3 x4 x5 p) = G_r_Chain_8 lf x1 x2 x3 x4 x5 p := by
    refine (atN_eq (icallK_eq 20 _) nd_r_Chain ok_r_Chain 8 [] [] rfl _).trans ((st_r_Chain_8 g (A_r_Chain g lf) lf x1 x2 x3 x4 x5 p).trans ?_)
    rw [(show (fun q => A_r_Chain g lf 10 [] (enc_r_Chain_10 x1 x2 x3 x4 x5 q)) = (fun q => G_r_Chain_10 lf x1 x2 x3 x4 x5 q) from funext fun q => at_r_Chain_10 g lf x1 x2 x3 x4 x5 q)]
    rfl
def G_r_Chain_6 (lf : Nat) (x1 : (List DForm)) (x2 : (List DForm)) (x3 : (List DForm)) (x4 : (List DRule)) (x5 : (List DRule)) (p : Int) : Option Rt_r_Chain := R_r_Chain_6 lf x1 x2 x3 x4 x5 (fun q => G_r_Chain_8 lf x1 x2 x3 x4 x5 q) p
theorem at_r_Chain_6 (g : ElA [(.list cForm), (.list cForm), (.list cForm), (.list cRule), (.list cRule)] → Option Rt_r_Chain) (lf : Nat) (x1 : (List DForm)) (x2 : (List DForm)) (x3 : (List DForm)) (x4 : (List DRule)) (x5 : (List DRule)) (p : Int) : A_r_Chain g lf 6 [] (enc_r_Chain_6 x1 x2 x3 x4 x5 p) = G_r_Chain_6 lf x1 x2 x3 x4 x5 p := by
    refine (atN_eq (icallK_eq 20 _) nd_r_Chain ok_r_Chain 6 [] [] rfl _).trans ((st_r_Chain_6 g (A_r_Chain g lf) lf x1 x2 x3 x4 x5 p).trans ?_)
    rw [(show (fun q => A_r_Chain g lf 8 [] (enc_r_Chain_8 x1 x2 x3 x4 x5 q)) = (fun q => G_r_Chain_8 lf x1 x2 x3 x4 x5 q) from funext fun q => at_r_Chain_8 g lf x1 x2 x3 x4 x5 q)]
    rfl
def G_r_Chain_4 (lf : Nat) (x1 : (List DForm)) (x2 : (List DForm)) (x3 : (List DForm)) (x4 : (List DRule)) (x5 : (List DRule)) (p : Int) : Option Rt_r_Chain := R_r_Chain_4 lf x1 x2 x3 x4 x5 (fun q => G_r_Chain_6 lf x1 x2 x3 x4 x5 q) p
theorem at_r_Chain_4 (g : ElA [(.list cForm), (.list cForm), (.list cForm), (.list cRule), (.list cRule)] → Option Rt_r_Chain) (lf : Nat) (x1 : (List DForm)) (x2 : (List DForm)) (x3 : (List DForm)) (x4 : (List DRule)) (x5 : (List DRule)) (p : Int) : A_r_Chain g lf 4 [] (enc_r_Chain_4 x1 x2 x3 x4 x5 p) = G_r_Chain_4 lf x1 x2 x3 x4 x5 p := by
    refine (atN_eq (icallK_eq 20 _) nd_r_Chain ok_r_Chain 4 [] [] rfl _).trans ((st_r_Chain_4 g (A_r_Chain g lf) lf x1 x2 x3 x4 x5 p).trans ?_)
    rw [(show (fun q => A_r_Chain g lf 6 [] (enc_r_Chain_6 x1 x2 x3 x4 x5 q)) = (fun q => G_r_Chain_6 lf x1 x2 x3 x4 x5 q) from funext fun q => at_r_Chain_6 g lf x1 x2 x3 x4 x5 q)]
    rfl
def F_r_Chain (lf : Nat) (x1 : (List DForm)) (x2 : (List DForm)) (x3 : (List DForm)) (x4 : (List DRule)) (x5 : (List DRule)) : Option Rt_r_Chain := R_r_Chain_in lf x1 x2 x3 x4 x5 (fun q => G_r_Chain_4 lf x1 x2 x3 x4 x5 q)
theorem run_r_Chain (g : ElA [(.list cForm), (.list cForm), (.list cForm), (.list cRule), (.list cRule)] → Option Rt_r_Chain) (lf : Nat) (x1 : (List DForm)) (x2 : (List DForm)) (x3 : (List DForm)) (x4 : (List DRule)) (x5 : (List DRule)) : icodeT Tryz.prog ttT.get nm_r_Chain fi15.nt (cl_r_Chain _ lf) lf st_r_Chain (A_r_Chain g lf) fi15.body [] (argGo (argV [(.list cForm), (.list cForm), (.list cForm), (.list cRule), (.list cRule)] (x1, x2, x3, x4, x5, ())) 0 .leaf) S0 [] (lastK ttT.get fi15 ⟨[(.list cForm), (.list cForm), (.list cForm), (.list cRule), (.list cRule)], [(false, cR22Ruled)], g⟩) = F_r_Chain lf x1 x2 x3 x4 x5 := by
    refine (in_r_Chain g (A_r_Chain g lf) lf x1 x2 x3 x4 x5).trans ?_
    rw [(show (fun q => A_r_Chain g lf 4 [] (enc_r_Chain_4 x1 x2 x3 x4 x5 q)) = (fun q => G_r_Chain_4 lf x1 x2 x3 x4 x5 q) from funext fun q => at_r_Chain_4 g lf x1 x2 x3 x4 x5 q)]
    rfl
theorem hxs_r_Chain : HxsOK Tryz.prog hxl_r_Chain := trivial
theorem mk_r_Chain {g : ElA [(.list cForm), (.list cForm), (.list cForm), (.list cRule), (.list cRule)] → Option Rt_r_Chain} (hsm : SmOK Tryz.prog sml_r_Chain) (hg : ∀ (x : ElA [(.list cForm), (.list cForm), (.list cForm), (.list cRule), (.list cRule)]) (y : Rt_r_Chain), WfA [(.list cForm), (.list cForm), (.list cForm), (.list cRule), (.list cRule)] x → g x = some y → ∃ lf, F_r_Chain lf x.1 x.2.1 x.2.2.1 x.2.2.2.1 x.2.2.2.2.1 = some y) : Con Tryz.prog 15 ⟨[(.list cForm), (.list cForm), (.list cForm), (.list cRule), (.list cRule)], [(false, cR22Ruled)], g⟩ :=
  conT (nmf := nm_r_Chain) (sml := sml_r_Chain) (hxl := hxl_r_Chain) (st := st_r_Chain) (hd := hd_r_Chain) 20 mixed ttOK ftOK hsm hxs_r_Chain cal15 rfl rfl (by kernel_rfl) (fun x => by kernel_rfl) nd_r_Chain ok_r_Chain fun x y hx hy => by
    obtain ⟨lf, h⟩ := hg x y hx hy
    exact ⟨lf, (run_r_Chain g lf x.1 x.2.1 x.2.2.1 x.2.2.2.1 x.2.2.2.2.1).trans h⟩
def nm_l_PackChains : Nat → Option Nm := fun k => none
def st_l_PackChains : Nat → Bool := fun k => false
def hd_l_PackChains : Nat → Bool := fun k => false
abbrev Rt_l_PackChains : Type := Bool × Unit
def sml_l_PackChains : List (Nat × Sm) := [(7, sp_l_fewForms), (8, sp_l_fewRules), (10, sp_l_sanity), (14, sp_p_Chain), (15, sp_r_Chain), (16, sp_r_SameRules)]
def hxl_l_PackChains : List (Nat × Hx) := []
def cl_l_PackChains (R : Type) (lf : Nat) : ClK R := icallK Tryz.prog ttT.get ftT.get (nm1 4 nm_l_PackChains) (smL sml_l_PackChains) (hxL hxl_l_PackChains) lf 20 R
abbrev id_l_PackChains : Nat := 4
def R_l_PackChains_in (lf : Nat) (x1 : (List DForm)) (x2 : (List DForm)) (x3 : (List DForm)) (x4 : (List DRule)) (x5 : (List DRule)) : Option Rt_l_PackChains := (cond (Bool.not (Go.Proofs.YtcnhjofpmpipfaaGreat.S.fewForms x1)) (some (Bool.true, ())) (cond (Bool.not (Go.Proofs.YtcnhjofpmpipfaaGreat.S.fewForms x2)) (some (Bool.true, ())) (cond (Bool.not (Go.Proofs.YtcnhjofpmpipfaaGreat.S.fewForms x3)) (some (Bool.true, ())) (cond (Bool.not (Go.Proofs.YtcnhjofpmpipfaaGreat.S.fewRules x4)) (some (Bool.true, ())) (cond (Bool.not (Go.Proofs.YtcnhjofpmpipfaaGreat.S.fewRules x5)) (some (Bool.true, ())) (cond (Go.Proofs.YtcnhjofpmpipfaaGreat.S.sameRules (Go.Proofs.YtcnhjofpmpipfaaGreat.S.chain x1 x2 x3 x4 x5).1 (Go.Proofs.YtcnhjofpmpipfaaGreat.S.chain x1 x2 x3 x4 x5).1) (some ((ieqI (Go.Proofs.YtcnhjofpmpipfaaGreat.S.chain x1 x2 x3 x4 x5).2 (Go.Proofs.YtcnhjofpmpipfaaGreat.S.chain x1 x2 x3 x4 x5).2), ())) (some (Bool.false, ()))))))))
theorem in_l_PackChains (g : ElA [(.list cForm), (.list cForm), (.list cForm), (.list cRule), (.list cRule)] → Option Rt_l_PackChains) (J : Nat → List Nat → NRes → Option Rt_l_PackChains) (lf : Nat) (x1 : (List DForm)) (x2 : (List DForm)) (x3 : (List DForm)) (x4 : (List DRule)) (x5 : (List DRule)) : icodeT Tryz.prog ttT.get nm_l_PackChains fi4.nt (cl_l_PackChains _ lf) lf st_l_PackChains J fi4.body [] (argGo (argV [(.list cForm), (.list cForm), (.list cForm), (.list cRule), (.list cRule)] (x1, x2, x3, x4, x5, ())) 0 .leaf) S0 [] (lastK ttT.get fi4 ⟨[(.list cForm), (.list cForm), (.list cForm), (.list cRule), (.list cRule)], [(false, .bool)], g⟩) = R_l_PackChains_in lf x1 x2 x3 x4 x5 := by kernel_rfl
theorem nd_l_PackChains : (regs fi4.body).Nodup := by decide +kernel
theorem ok_l_PackChains : okC nm_l_PackChains st_l_PackChains hd_l_PackChains fi4.body none = true := by kernel_rfl
def A_l_PackChains (g : ElA [(.list cForm), (.list cForm), (.list cForm), (.list cRule), (.list cRule)] → Option Rt_l_PackChains) (lf : Nat) : Nat → List Nat → NRes → Option Rt_l_PackChains := atN Tryz.prog ttT.get nm_l_PackChains fi4 ⟨[(.list cForm), (.list cForm), (.list cForm), (.list cRule), (.list cRule)], [(false, .bool)], g⟩ (cl_l_PackChains _ lf) lf hd_l_PackChains
def F_l_PackChains (lf : Nat) (x1 : (List DForm)) (x2 : (List DForm)) (x3 : (List DForm)) (x4 : (List DRule)) (x5 : (List DRule)) : Option Rt_l_PackChains := R_l_PackChains_in lf x1 x2 x3 x4 x5
theorem run_l_PackChains (g : ElA [(.list cForm), (.list cForm), (.list cForm), (.list cRule), (.list cRule)] → Option Rt_l_PackChains) (lf : Nat) (x1 : (List DForm)) (x2 : (List DForm)) (x3 : (List DForm)) (x4 : (List DRule)) (x5 : (List DRule)) : icodeT Tryz.prog ttT.get nm_l_PackChains fi4.nt (cl_l_PackChains _ lf) lf st_l_PackChains (A_l_PackChains g lf) fi4.body [] (argGo (argV [(.list cForm), (.list cForm), (.list cForm), (.list cRule), (.list cRule)] (x1, x2, x3, x4, x5, ())) 0 .leaf) S0 [] (lastK ttT.get fi4 ⟨[(.list cForm), (.list cForm), (.list cForm), (.list cRule), (.list cRule)], [(false, .bool)], g⟩) = F_l_PackChains lf x1 x2 x3 x4 x5 := by
    refine (in_l_PackChains g (A_l_PackChains g lf) lf x1 x2 x3 x4 x5).trans ?_
    rfl
theorem hxs_l_PackChains : HxsOK Tryz.prog hxl_l_PackChains := trivial
theorem mk_l_PackChains {g : ElA [(.list cForm), (.list cForm), (.list cForm), (.list cRule), (.list cRule)] → Option Rt_l_PackChains} (hsm : SmOK Tryz.prog sml_l_PackChains) (hg : ∀ (x : ElA [(.list cForm), (.list cForm), (.list cForm), (.list cRule), (.list cRule)]) (y : Rt_l_PackChains), WfA [(.list cForm), (.list cForm), (.list cForm), (.list cRule), (.list cRule)] x → g x = some y → ∃ lf, F_l_PackChains lf x.1 x.2.1 x.2.2.1 x.2.2.2.1 x.2.2.2.2.1 = some y) : Con Tryz.prog 4 ⟨[(.list cForm), (.list cForm), (.list cForm), (.list cRule), (.list cRule)], [(false, .bool)], g⟩ :=
  conT (nmf := nm_l_PackChains) (sml := sml_l_PackChains) (hxl := hxl_l_PackChains) (st := st_l_PackChains) (hd := hd_l_PackChains) 20 mixed ttOK ftOK hsm hxs_l_PackChains cal4 rfl rfl (by kernel_rfl) (fun x => by kernel_rfl) nd_l_PackChains ok_l_PackChains fun x y hx hy => by
    obtain ⟨lf, h⟩ := hg x y hx hy
    exact ⟨lf, (run_l_PackChains g lf x.1 x.2.1 x.2.2.1 x.2.2.2.1 x.2.2.2.2.1).trans h⟩
end Go.Proofs.YtcnhjofpmpipfaaGreat

end
end

/- Made by program: plain forms of functions. -/
section
set_option linter.unusedVariables false
set_option maxRecDepth 100000
noncomputable section
namespace Go.Proofs.YtcnhjofpmpipfaaGreat
open Go Go.Sx Go.RowKit Go.Jx
def nm_p_both : Nat → Option Nm := fun k => cond (Nat.beq k 10) (some ⟨[2, 3, 4], [], [], [], [], 0, 0, false⟩) (cond (Nat.beq k 13) (some ⟨[2, 3, 4], [], [], [], [], 0, 0, false⟩) (cond (Nat.beq k 15) (some ⟨[2, 3, 4], [], [], [], [], 0, 0, false⟩) (cond (Nat.beq k 17) (some ⟨[2, 3, 4], [], [], [], [], 0, 0, false⟩) (cond (Nat.beq k 19) (some ⟨[2, 3, 4], [], [], [], [], 0, 0, false⟩) (cond (Nat.beq k 21) (some ⟨[4], [], [], [], [], 0, 0, false⟩) (none))))))
def st_p_both : Nat → Bool := fun k => cond (Nat.beq k 10) true (cond (Nat.beq k 13) true (cond (Nat.beq k 15) true (cond (Nat.beq k 17) true (cond (Nat.beq k 19) true (cond (Nat.beq k 21) true (false))))))
def hd_p_both : Nat → Bool := fun k => false
abbrev Rt_p_both : Type := DGive × Bool × Unit
def sml_p_both : List (Nat × Sm) := [(86, sp_p_within)]
def hxl_p_both : List (Nat × Hx) := []
def cl_p_both (R : Type) (lf : Nat) : ClK R := icallK Tryz.prog ttT.get ftT.get (nm1 91 nm_p_both) (smL sml_p_both) (hxL hxl_p_both) lf 20 R
abbrev id_p_both : Nat := 91
def enc_p_both_10 (x1 : DGive) (x2 : DGive) (p : Unit) : NRes := (NRes.mk (PT.node none (PT.node none (PT.node (some (IV.ptr 1 0)) PT.leaf PT.leaf) PT.leaf) (PT.node (some (IV.ptr 0 0)) (PT.node (some (IV.ptr 2 0)) PT.leaf PT.leaf) PT.leaf)) (IS.mk (PT.node (some (IObj.row (List.cons (IV.str x1.1) (List.cons (IV.int Go.IntKind.i64 x1.2.1) (List.cons (IV.int Go.IntKind.i64 x1.2.2) []))))) (PT.node (some (IObj.row (List.cons (IV.str x2.1) (List.cons (IV.int Go.IntKind.i64 x2.2.1) (List.cons (IV.int Go.IntKind.i64 x2.2.2) []))))) PT.leaf PT.leaf) (PT.node (some (IObj.row (List.cons (IV.str (S.lit [])) (List.cons (IV.int Go.IntKind.i64 (Int.ofNat 0)) (List.cons (IV.int Go.IntKind.i64 (Int.ofNat 0)) []))))) PT.leaf PT.leaf)) 3) [] 0)
def enc_p_both_13 (x1 : DGive) (x2 : DGive) (p : Unit) : NRes := (NRes.mk (PT.node none (PT.node none (PT.node (some (IV.ptr 1 0)) PT.leaf PT.leaf) PT.leaf) (PT.node (some (IV.ptr 0 0)) (PT.node (some (IV.ptr 2 0)) PT.leaf PT.leaf) PT.leaf)) (IS.mk (PT.node (some (IObj.row (List.cons (IV.str x1.1) (List.cons (IV.int Go.IntKind.i64 x1.2.1) (List.cons (IV.int Go.IntKind.i64 x1.2.2) []))))) (PT.node (some (IObj.row (List.cons (IV.str x2.1) (List.cons (IV.int Go.IntKind.i64 x2.2.1) (List.cons (IV.int Go.IntKind.i64 x2.2.2) []))))) PT.leaf PT.leaf) (PT.node (some (IObj.row (List.cons (IV.str (S.lit [])) (List.cons (IV.int Go.IntKind.i64 (Int.ofNat 0)) (List.cons (IV.int Go.IntKind.i64 (Int.ofNat 0)) []))))) PT.leaf PT.leaf)) 3) [] 0)
def enc_p_both_15 (x1 : DGive) (x2 : DGive) (p : Unit) : NRes := (NRes.mk (PT.node none (PT.node none (PT.node (some (IV.ptr 1 0)) PT.leaf PT.leaf) PT.leaf) (PT.node (some (IV.ptr 0 0)) (PT.node (some (IV.ptr 2 0)) PT.leaf PT.leaf) PT.leaf)) (IS.mk (PT.node (some (IObj.row (List.cons (IV.str x1.1) (List.cons (IV.int Go.IntKind.i64 x1.2.1) (List.cons (IV.int Go.IntKind.i64 x1.2.2) []))))) (PT.node (some (IObj.row (List.cons (IV.str x2.1) (List.cons (IV.int Go.IntKind.i64 x2.2.1) (List.cons (IV.int Go.IntKind.i64 x2.2.2) []))))) PT.leaf PT.leaf) (PT.node (some (IObj.row (List.cons (IV.str (S.lit [])) (List.cons (IV.int Go.IntKind.i64 (Int.ofNat 0)) (List.cons (IV.int Go.IntKind.i64 (Int.ofNat 0)) []))))) PT.leaf PT.leaf)) 3) [] 0)
def enc_p_both_17 (x1 : DGive) (x2 : DGive) (p : Unit) : NRes := (NRes.mk (PT.node none (PT.node none (PT.node (some (IV.ptr 1 0)) PT.leaf PT.leaf) PT.leaf) (PT.node (some (IV.ptr 0 0)) (PT.node (some (IV.ptr 2 0)) PT.leaf PT.leaf) PT.leaf)) (IS.mk (PT.node (some (IObj.row (List.cons (IV.str x1.1) (List.cons (IV.int Go.IntKind.i64 x1.2.1) (List.cons (IV.int Go.IntKind.i64 x1.2.2) []))))) (PT.node (some (IObj.row (List.cons (IV.str x2.1) (List.cons (IV.int Go.IntKind.i64 x2.2.1) (List.cons (IV.int Go.IntKind.i64 x2.2.2) []))))) PT.leaf PT.leaf) (PT.node (some (IObj.row (List.cons (IV.str (S.lit [])) (List.cons (IV.int Go.IntKind.i64 (Int.ofNat 0)) (List.cons (IV.int Go.IntKind.i64 (Int.ofNat 0)) []))))) PT.leaf PT.leaf)) 3) [] 0)
def enc_p_both_19 (x1 : DGive) (x2 : DGive) (p : Unit) : NRes := (NRes.mk (PT.node none (PT.node none (PT.node (some (IV.ptr 1 0)) PT.leaf PT.leaf) PT.leaf) (PT.node (some (IV.ptr 0 0)) (PT.node (some (IV.ptr 2 0)) PT.leaf PT.leaf) PT.leaf)) (IS.mk (PT.node (some (IObj.row (List.cons (IV.str x1.1) (List.cons (IV.int Go.IntKind.i64 x1.2.1) (List.cons (IV.int Go.IntKind.i64 x1.2.2) []))))) (PT.node (some (IObj.row (List.cons (IV.str x2.1) (List.cons (IV.int Go.IntKind.i64 x2.2.1) (List.cons (IV.int Go.IntKind.i64 x2.2.2) []))))) PT.leaf PT.leaf) (PT.node (some (IObj.row (List.cons (IV.str (S.lit [])) (List.cons (IV.int Go.IntKind.i64 (Int.ofNat 0)) (List.cons (IV.int Go.IntKind.i64 (Int.ofNat 0)) []))))) PT.leaf PT.leaf)) 3) [] 0)
def enc_p_both_21 (x1 : DGive) (x2 : DGive) (p : Unit) : NRes := (NRes.mk (PT.node none PT.leaf (PT.node none (PT.node (some (IV.ptr 0 0)) PT.leaf PT.leaf) PT.leaf)) (IS.mk (PT.node (some (IObj.row (List.cons (IV.str (S.lit [])) (List.cons (IV.int Go.IntKind.i64 (Int.ofNat 0)) (List.cons (IV.int Go.IntKind.i64 (Int.ofNat 0)) []))))) PT.leaf PT.leaf) 1) [] 0)
def R_p_both_in (lf : Nat) (x1 : DGive) (x2 : DGive) (L10 : Unit → Option Rt_p_both) : Option Rt_p_both := (cond (ieqI x2.2.1 (Int.ofNat 1)) (some ((x1.1, (x1.2.1, x1.2.2)), (Bool.true, ()))) (cond (ieqI x1.2.1 (Int.ofNat 1)) (some ((x1.1, (x2.2.1, x2.2.2)), (Bool.true, ()))) (cond (ieqI x1.2.1 (Int.ofNat 2)) (cond (ieqI x2.2.1 (Int.ofNat 3)) (some ((x1.1, ((Int.ofNat 1), (Int.ofNat 0))), (Bool.true, ()))) (cond (ieqI x1.2.1 (Int.ofNat 2)) (cond (ieqI x2.2.1 (Int.ofNat 4)) (some ((x1.1, (x1.2.1, x1.2.2)), ((Bool.not (iltI x2.2.2 (Int.ofNat 2))), ()))) (L10 ())) (L10 ()))) (cond (ieqI x1.2.1 (Int.ofNat 2)) (cond (ieqI x2.2.1 (Int.ofNat 4)) (some ((x1.1, (x1.2.1, x1.2.2)), ((Bool.not (iltI x2.2.2 (Int.ofNat 2))), ()))) (L10 ())) (L10 ())))))
def R_p_both_10 (lf : Nat) (x1 : DGive) (x2 : DGive) (L13 : Unit → Option Rt_p_both) (p : Unit) : Option Rt_p_both := (cond (ieqI x1.2.1 (Int.ofNat 4)) (cond (ieqI x2.2.1 (Int.ofNat 4)) (some ((x1.1, (x1.2.1, (imin x1.2.2 x2.2.2))), (Bool.true, ()))) (L13 ())) (L13 ()))
def R_p_both_13 (lf : Nat) (x1 : DGive) (x2 : DGive) (L15 : Unit → Option Rt_p_both) (p : Unit) : Option Rt_p_both := (cond (ieqI x1.2.1 (Int.ofNat 5)) (cond (ieqI x2.2.1 (Int.ofNat 5)) (some ((x1.1, (x1.2.1, x1.2.2)), (Bool.true, ()))) (L15 ())) (L15 ()))
def R_p_both_15 (lf : Nat) (x1 : DGive) (x2 : DGive) (L17 : Unit → Option Rt_p_both) (p : Unit) : Option Rt_p_both := (cond (ieqI x1.2.1 (Int.ofNat 6)) (cond (ieqI x2.2.1 (Int.ofNat 2)) (some ((x1.1, (x1.2.1, x1.2.2)), (Bool.true, ()))) (L17 ())) (L17 ()))
def R_p_both_17 (lf : Nat) (x1 : DGive) (x2 : DGive) (L19 : Unit → Option Rt_p_both) (p : Unit) : Option Rt_p_both := (cond (ieqI x1.2.1 (Int.ofNat 6)) (cond (ieqI x2.2.1 (Int.ofNat 3)) (some ((x1.1, (x1.2.1, x1.2.2)), ((Go.Proofs.YtcnhjofpmpipfaaGreat.S.within x1.2.2 (Int.ofNat 0) (Int.ofNat 1)), ()))) (L19 ())) (L19 ()))
def R_p_both_19 (lf : Nat) (x1 : DGive) (x2 : DGive) (L21 : Unit → Option Rt_p_both) (p : Unit) : Option Rt_p_both := (cond (ieqI x1.2.1 (Int.ofNat 6)) (cond (ieqI x2.2.1 (Int.ofNat 4)) (some ((x1.1, (x1.2.1, x1.2.2)), ((iltI x1.2.2 x2.2.2), ()))) (L21 ())) (L21 ()))
def R_p_both_21 (lf : Nat) (x1 : DGive) (x2 : DGive) (p : Unit) : Option Rt_p_both := (some (((S.lit []), ((Int.ofNat 0), (Int.ofNat 0))), (Bool.false, ())))
theorem in_p_both (g : ElA [cGive, cGive] → Option Rt_p_both) (J : Nat → List Nat → NRes → Option Rt_p_both) (lf : Nat) (x1 : DGive) (x2 : DGive) : icodeT Tryz.prog ttT.get nm_p_both fi91.nt (cl_p_both _ lf) lf st_p_both J fi91.body [] (argGo (argV [cGive, cGive] (x1, x2, ())) 0 .leaf) S0 [] (lastK ttT.get fi91 ⟨[cGive, cGive], [(false, cGive), (false, .bool)], g⟩) = R_p_both_in lf x1 x2 (fun q => J 10 [] (enc_p_both_10 x1 x2 q)) := by kernel_rfl
theorem st_p_both_10 (g : ElA [cGive, cGive] → Option Rt_p_both) (J : Nat → List Nat → NRes → Option Rt_p_both) (lf : Nat) (x1 : DGive) (x2 : DGive) (p : Unit) : icodeFT Tryz.prog ttT.get nm_p_both fi91.nt (cl_p_both _ lf) lf st_p_both J 10 fi91.body [] [] (enc_p_both_10 x1 x2 p) (lastK ttT.get fi91 ⟨[cGive, cGive], [(false, cGive), (false, .bool)], g⟩) = R_p_both_10 lf x1 x2 (fun q => J 13 [] (enc_p_both_13 x1 x2 q)) p := by kernel_rfl
theorem st_p_both_13 (g : ElA [cGive, cGive] → Option Rt_p_both) (J : Nat → List Nat → NRes → Option Rt_p_both) (lf : Nat) (x1 : DGive) (x2 : DGive) (p : Unit) : icodeFT Tryz.prog ttT.get nm_p_both fi91.nt (cl_p_both _ lf) lf st_p_both J 13 fi91.body [] [] (enc_p_both_13 x1 x2 p) (lastK ttT.get fi91 ⟨[cGive, cGive], [(false, cGive), (false, .bool)], g⟩) = R_p_both_13 lf x1 x2 (fun q => J 15 [] (enc_p_both_15 x1 x2 q)) p := by kernel_rfl
theorem st_p_both_15 (g : ElA [cGive, cGive] → Option Rt_p_both) (J : Nat → List Nat → NRes → Option Rt_p_both) (lf : Nat) (x1 : DGive) (x2 : DGive) (p : Unit) : icodeFT Tryz.prog ttT.get nm_p_both fi91.nt (cl_p_both _ lf) lf st_p_both J 15 fi91.body [] [] (enc_p_both_15 x1 x2 p) (lastK ttT.get fi91 ⟨[cGive, cGive], [(false, cGive), (false, .bool)], g⟩) = R_p_both_15 lf x1 x2 (fun q => J 17 [] (enc_p_both_17 x1 x2 q)) p := by kernel_rfl
theorem st_p_both_17 (g : ElA [cGive, cGive] → Option Rt_p_both) (J : Nat → List Nat → NRes → Option Rt_p_both) (lf : Nat) (x1 : DGive) (x2 : DGive) (p : Unit) : icodeFT Tryz.prog ttT.get nm_p_both fi91.nt (cl_p_both _ lf) lf st_p_both J 17 fi91.body [] [] (enc_p_both_17 x1 x2 p) (lastK ttT.get fi91 ⟨[cGive, cGive], [(false, cGive), (false, .bool)], g⟩) = R_p_both_17 lf x1 x2 (fun q => J 19 [] (enc_p_both_19 x1 x2 q)) p := by kernel_rfl
theorem st_p_both_19 (g : ElA [cGive, cGive] → Option Rt_p_both) (J : Nat → List Nat → NRes → Option Rt_p_both) (lf : Nat) (x1 : DGive) (x2 : DGive) (p : Unit) : icodeFT Tryz.prog ttT.get nm_p_both fi91.nt (cl_p_both _ lf) lf st_p_both J 19 fi91.body [] [] (enc_p_both_19 x1 x2 p) (lastK ttT.get fi91 ⟨[cGive, cGive], [(false, cGive), (false, .bool)], g⟩) = R_p_both_19 lf x1 x2 (fun q => J 21 [] (enc_p_both_21 x1 x2 q)) p := by kernel_rfl
theorem st_p_both_21 (g : ElA [cGive, cGive] → Option Rt_p_both) (J : Nat → List Nat → NRes → Option Rt_p_both) (lf : Nat) (x1 : DGive) (x2 : DGive) (p : Unit) : icodeFT Tryz.prog ttT.get nm_p_both fi91.nt (cl_p_both _ lf) lf st_p_both J 21 fi91.body [] [] (enc_p_both_21 x1 x2 p) (lastK ttT.get fi91 ⟨[cGive, cGive], [(false, cGive), (false, .bool)], g⟩) = R_p_both_21 lf x1 x2 p := by kernel_rfl
theorem nd_p_both : (regs fi91.body).Nodup := by decide +kernel
theorem ok_p_both : okC nm_p_both st_p_both hd_p_both fi91.body none = true := by kernel_rfl
def A_p_both (g : ElA [cGive, cGive] → Option Rt_p_both) (lf : Nat) : Nat → List Nat → NRes → Option Rt_p_both := atN Tryz.prog ttT.get nm_p_both fi91 ⟨[cGive, cGive], [(false, cGive), (false, .bool)], g⟩ (cl_p_both _ lf) lf hd_p_both
def G_p_both_21 (lf : Nat) (x1 : DGive) (x2 : DGive) (p : Unit) : Option Rt_p_both := R_p_both_21 lf x1 x2 p
theorem at_p_both_21 (g : ElA [cGive, cGive] → Option Rt_p_both) (lf : Nat) (x1 : DGive) (x2 : DGive) (p : Unit) : A_p_both g lf 21 [] (enc_p_both_21 x1 x2 p) = G_p_both_21 lf x1 x2 p := by
    refine (atN_eq (icallK_eq 20 _) nd_p_both ok_p_both 21 [] [] rfl _).trans ((st_p_both_21 g (A_p_both g lf) lf x1 x2 p).trans ?_)
    rfl
def G_p_both_19 (lf : Nat) (x1 : DGive) (x2 : DGive) (p : Unit) : Option Rt_p_both := R_p_both_19 lf x1 x2 (fun q => G_p_both_21 lf x1 x2 q) p
theorem at_p_both_19 (g : ElA [cGive, cGive] → Option Rt_p_both) (lf : Nat) (x1 : DGive) (x2 : DGive) (p : Unit) : A_p_both g lf 19 [] (enc_p_both_19 x1 x2 p) = G_p_both_19 lf x1 x2 p := by
    refine (atN_eq (icallK_eq 20 _) nd_p_both ok_p_both 19 [] [] rfl _).trans ((st_p_both_19 g (A_p_both g lf) lf x1 x2 p).trans ?_)
    rw [(show (fun q => A_p_both g lf 21 [] (enc_p_both_21 x1 x2 q)) = (fun q => G_p_both_21 lf x1 x2 q) from funext fun q => at_p_both_21 g lf x1 x2 q)]
    rfl
def G_p_both_17 (lf : Nat) (x1 : DGive) (x2 : DGive) (p : Unit) : Option Rt_p_both := R_p_both_17 lf x1 x2 (fun q => G_p_both_19 lf x1 x2 q) p
theorem at_p_both_17 (g : ElA [cGive, cGive] → Option Rt_p_both) (lf : Nat) (x1 : DGive) (x2 : DGive) (p : Unit) : A_p_both g lf 17 [] (enc_p_both_17 x1 x2 p) = G_p_both_17 lf x1 x2 p := by
    refine (atN_eq (icallK_eq 20 _) nd_p_both ok_p_both 17 [] [] rfl _).trans ((st_p_both_17 g (A_p_both g lf) lf x1 x2 p).trans ?_)
    rw [(show (fun q => A_p_both g lf 19 [] (enc_p_both_19 x1 x2 q)) = (fun q => G_p_both_19 lf x1 x2 q) from funext fun q => at_p_both_19 g lf x1 x2 q)]
    rfl
def G_p_both_15 (lf : Nat) (x1 : DGive) (x2 : DGive) (p : Unit) : Option Rt_p_both := R_p_both_15 lf x1 x2 (fun q => G_p_both_17 lf x1 x2 q) p
theorem at_p_both_15 (g : ElA [cGive, cGive] → Option Rt_p_both) (lf : Nat) (x1 : DGive) (x2 : DGive) (p : Unit) : A_p_both g lf 15 [] (enc_p_both_15 x1 x2 p) = G_p_both_15 lf x1 x2 p := by
    refine (atN_eq (icallK_eq 20 _) nd_p_both ok_p_both 15 [] [] rfl _).trans ((st_p_both_15 g (A_p_both g lf) lf x1 x2 p).trans ?_)
    rw [(show (fun q => A_p_both g lf 17 [] (enc_p_both_17 x1 x2 q)) = (fun q => G_p_both_17 lf x1 x2 q) from funext fun q => at_p_both_17 g lf x1 x2 q)]
    rfl
def G_p_both_13 (lf : Nat) (x1 : DGive) (x2 : DGive) (p : Unit) : Option Rt_p_both := R_p_both_13 lf x1 x2 (fun q => G_p_both_15 lf x1 x2 q) p
theorem at_p_both_13 (g : ElA [cGive, cGive] → Option Rt_p_both) (lf : Nat) (x1 : DGive) (x2 : DGive) (p : Unit) : A_p_both g lf 13 [] (enc_p_both_13 x1 x2 p) = G_p_both_13 lf x1 x2 p := by
    refine (atN_eq (icallK_eq 20 _) nd_p_both ok_p_both 13 [] [] rfl _).trans ((st_p_both_13 g (A_p_both g lf) lf x1 x2 p).trans ?_)
    rw [(show (fun q => A_p_both g lf 15 [] (enc_p_both_15 x1 x2 q)) = (fun q => G_p_both_15 lf x1 x2 q) from funext fun q => at_p_both_15 g lf x1 x2 q)]
    rfl
def G_p_both_10 (lf : Nat) (x1 : DGive) (x2 : DGive) (p : Unit) : Option Rt_p_both := R_p_both_10 lf x1 x2 (fun q => G_p_both_13 lf x1 x2 q) p
theorem at_p_both_10 (g : ElA [cGive, cGive] → Option Rt_p_both) (lf : Nat) (x1 : DGive) (x2 : DGive) (p : Unit) : A_p_both g lf 10 [] (enc_p_both_10 x1 x2 p) = G_p_both_10 lf x1 x2 p := by
    refine (atN_eq (icallK_eq 20 _) nd_p_both ok_p_both 10 [] [] rfl _).trans ((st_p_both_10 g (A_p_both g lf) lf x1 x2 p).trans ?_)
    rw [(show (fun q => A_p_both g lf 13 [] (enc_p_both_13 x1 x2 q)) = (fun q => G_p_both_13 lf x1 x2 q) from funext fun q => at_p_both_13 g lf x1 x2 q)]
    rfl
def F_p_both (lf : Nat) (x1 : DGive) (x2 : DGive) : Option Rt_p_both := R_p_both_in lf x1 x2 (fun q => G_p_both_10 lf x1 x2 q)
theorem run_p_both (g : ElA [cGive, cGive] → Option Rt_p_both) (lf : Nat) (x1 : DGive) (x2 : DGive) : icodeT Tryz.prog ttT.get nm_p_both fi91.nt (cl_p_both _ lf) lf st_p_both (A_p_both g lf) fi91.body [] (argGo (argV [cGive, cGive] (x1, x2, ())) 0 .leaf) S0 [] (lastK ttT.get fi91 ⟨[cGive, cGive], [(false, cGive), (false, .bool)], g⟩) = F_p_both lf x1 x2 := by
    refine (in_p_both g (A_p_both g lf) lf x1 x2).trans ?_
    rw [(show (fun q => A_p_both g lf 10 [] (enc_p_both_10 x1 x2 q)) = (fun q => G_p_both_10 lf x1 x2 q) from funext fun q => at_p_both_10 g lf x1 x2 q)]
    rfl
theorem hxs_p_both : HxsOK Tryz.prog hxl_p_both := trivial
theorem mk_p_both {g : ElA [cGive, cGive] → Option Rt_p_both} (hsm : SmOK Tryz.prog sml_p_both) (hg : ∀ (x : ElA [cGive, cGive]) (y : Rt_p_both), WfA [cGive, cGive] x → g x = some y → ∃ lf, F_p_both lf x.1 x.2.1 = some y) : Con Tryz.prog 91 ⟨[cGive, cGive], [(false, cGive), (false, .bool)], g⟩ :=
  conT (nmf := nm_p_both) (sml := sml_p_both) (hxl := hxl_p_both) (st := st_p_both) (hd := hd_p_both) 20 mixed ttOK ftOK hsm hxs_p_both cal91 rfl rfl (by kernel_rfl) (fun x => by kernel_rfl) nd_p_both ok_p_both fun x y hx hy => by
    obtain ⟨lf, h⟩ := hg x y hx hy
    exact ⟨lf, (run_p_both g lf x.1 x.2.1).trans h⟩
def nm_p_chained : Nat → Option Nm := fun k => cond (Nat.beq k 4) (some ⟨[2, 3, 6, 8, 9, 23, 24, 25], [], [(8, 2, cGive)], [(9, .str, .bool)], [], 0, 0, false⟩) (cond (Nat.beq k 15) (some ⟨[2, 6, 8, 9, 70, 71, 72], [], [(8, 2, cGive)], [(9, .str, .bool)], [], 0, 0, false⟩) (none))
def st_p_chained : Nat → Bool := fun k => cond (Nat.beq k 4) true (cond (Nat.beq k 15) true (false))
def hd_p_chained : Nat → Bool := fun k => cond (Nat.beq k 4) true (cond (Nat.beq k 15) true (false))
abbrev Rt_p_chained : Type := DRule × Bool × Unit
def sml_p_chained : List (Nat × Sm) := [(85, sp_p_col), (91, sp_p_both)]
def hxl_p_chained : List (Nat × Hx) := []
def cl_p_chained (R : Type) (lf : Nat) : ClK R := icallK Tryz.prog ttT.get ftT.get (nm1 46 nm_p_chained) (smL sml_p_chained) (hxL hxl_p_chained) lf 20 R
abbrev id_p_chained : Nat := 46
def enc_p_chained_4 (x1 : DRule) (x2 : DRule) (x3 : (List DCol)) (p : Int × (List (ByteArray × Bool)) × (List DGive)) : NRes := (NRes.mk (PT.node none (PT.node none (PT.node (some (IV.ptr 0 0)) (PT.node none PT.leaf (PT.node (some (IV.lst cGive x2.2.2)) PT.leaf PT.leaf)) PT.leaf) (PT.node none (PT.node (some (IV.map 3)) PT.leaf (PT.node (some (IV.int Go.IntKind.i64 p.1)) PT.leaf PT.leaf)) PT.leaf)) (PT.node (some (IV.lst cCol x3)) (PT.node none (PT.node (some (IV.ptr 2 0)) PT.leaf (PT.node (some (IV.int Go.IntKind.i64 (Int.ofNat (List.length x2.2.2)))) PT.leaf PT.leaf)) PT.leaf) (PT.node (some (IV.ptr 1 0)) PT.leaf PT.leaf))) (IS.mk (PT.node (some (IObj.row (List.cons (IV.str x1.1) (List.cons (IV.str x1.2.1) (List.cons (IV.lst cGive x1.2.2) []))))) (PT.node (some (IObj.row (List.cons (IV.str (S.lit [])) (List.cons (IV.str (S.lit [])) (List.cons IV.nilsl []))))) (PT.node (some (IObj.tmap TC.str TC.bool p.2.1)) PT.leaf PT.leaf) PT.leaf) (PT.node (some (IObj.row (List.cons (IV.str x1.1) (List.cons (IV.str x2.2.1) (List.cons (IV.arr 4) []))))) (PT.node (some (IObj.arr cGive p.2.2)) PT.leaf PT.leaf) PT.leaf)) 5) [] 0)
def enc_p_chained_15 (x1 : DRule) (x2 : DRule) (x3 : (List DCol)) (p : (List DGive) × (List (ByteArray × Bool)) × Int) : NRes := (NRes.mk (PT.node none (PT.node none (PT.node none (PT.node none PT.leaf (PT.node none (PT.node none (PT.node (some (IV.int Go.IntKind.i64 (Int.ofNat (List.length x1.2.2)))) PT.leaf PT.leaf) PT.leaf) PT.leaf)) PT.leaf) (PT.node none (PT.node (some (IV.map 2)) PT.leaf PT.leaf) PT.leaf)) (PT.node (some (IV.lst cCol x3)) (PT.node none (PT.node (some (IV.ptr 1 0)) PT.leaf (PT.node none (PT.node none (PT.node (some (IV.int Go.IntKind.i64 p.2.2)) PT.leaf PT.leaf) PT.leaf) PT.leaf)) PT.leaf) (PT.node (some (IV.ptr 0 0)) PT.leaf (PT.node none (PT.node none (PT.node none (PT.node (some (IV.lst cGive x1.2.2)) PT.leaf PT.leaf) PT.leaf) PT.leaf) PT.leaf)))) (IS.mk (PT.node (some (IObj.row (List.cons (IV.str (S.lit [])) (List.cons (IV.str (S.lit [])) (List.cons IV.nilsl []))))) (PT.node (some (IObj.row (List.cons (IV.str x1.1) (List.cons (IV.str x2.2.1) (List.cons (IV.arr 3) []))))) (PT.node (some (IObj.arr cGive p.1)) PT.leaf PT.leaf) PT.leaf) (PT.node (some (IObj.tmap TC.str TC.bool p.2.1)) PT.leaf PT.leaf)) 4) [] 0)
def R_p_chained_in (lf : Nat) (x1 : DRule) (x2 : DRule) (x3 : (List DCol)) (L4 : (Int × (List (ByteArray × Bool)) × (List DGive)) → Option Rt_p_chained) : Option Rt_p_chained := (L4 ((Int.ofNat 0), [], []))
def R_p_chained_4 (lf : Nat) (x1 : DRule) (x2 : DRule) (x3 : (List DCol)) (L4 : (Int × (List (ByteArray × Bool)) × (List DGive)) → Option Rt_p_chained) (L15 : ((List DGive) × (List (ByteArray × Bool)) × Int) → Option Rt_p_chained) (p : Int × (List (ByteArray × Bool)) × (List DGive)) : Option Rt_p_chained := (cond (iltI p.1 (Int.ofNat (List.length x2.2.2))) (match (jget x2.2.2 p.1) with | .none  => none | .some v0 => (cond (ieqI v0.2.1 (Int.ofNat 6)) (cond (Nat.ble (Nat.mul (Nat.add (List.length p.2.2) 1) 32) 140737488355328) (L4 ((Go.IntKind.wrap Go.IntKind.i64 (Int.add p.1 (Int.ofNat 1))), (@mset TC.str TC.bool v0.1 Bool.true p.2.1), (List.append p.2.2 (List.cons (v0.1, (v0.2.1, v0.2.2)) [])))) none) (cond (ieqI v0.2.1 (Int.ofNat 7)) (cond (Nat.ble (Nat.mul (Nat.add (List.length p.2.2) 1) 32) 140737488355328) (L4 ((Go.IntKind.wrap Go.IntKind.i64 (Int.add p.1 (Int.ofNat 1))), (@mset TC.str TC.bool v0.1 Bool.true p.2.1), (List.append p.2.2 (List.cons (v0.1, (v0.2.1, v0.2.2)) [])))) none) (match (jget x1.2.2 (Go.Proofs.YtcnhjofpmpipfaaGreat.S.col x3 v0.1)) with | .none  => none | .some v28 => (cond (Bool.not (Go.Proofs.YtcnhjofpmpipfaaGreat.S.both (v28.1, (v28.2.1, v28.2.2)) (v0.1, (v0.2.1, v0.2.2))).2) (some (((S.lit []), ((S.lit []), [])), (Bool.false, ()))) (cond (Nat.ble (Nat.mul (Nat.add (List.length p.2.2) 1) 32) 140737488355328) (L4 ((Go.IntKind.wrap Go.IntKind.i64 (Int.add p.1 (Int.ofNat 1))), (@mset TC.str TC.bool v0.1 Bool.true p.2.1), (List.append p.2.2 (List.cons ((Go.Proofs.YtcnhjofpmpipfaaGreat.S.both (v28.1, (v28.2.1, v28.2.2)) (v0.1, (v0.2.1, v0.2.2))).1.1, ((Go.Proofs.YtcnhjofpmpipfaaGreat.S.both (v28.1, (v28.2.1, v28.2.2)) (v0.1, (v0.2.1, v0.2.2))).1.2.1, (Go.Proofs.YtcnhjofpmpipfaaGreat.S.both (v28.1, (v28.2.1, v28.2.2)) (v0.1, (v0.2.1, v0.2.2))).1.2.2)) [])))) none)))))) (L15 (p.2.2, p.2.1, (Int.ofNat 0))))
def R_p_chained_15 (lf : Nat) (x1 : DRule) (x2 : DRule) (x3 : (List DCol)) (L15 : ((List DGive) × (List (ByteArray × Bool)) × Int) → Option Rt_p_chained) (p : (List DGive) × (List (ByteArray × Bool)) × Int) : Option Rt_p_chained := (cond (iltI p.2.2 (Int.ofNat (List.length x1.2.2))) (match (jget x1.2.2 p.2.2) with | .none  => none | .some v0 => (cond (ieqI v0.2.1 (Int.ofNat 3)) (match (jget x3 p.2.2) with | .none  => none | .some v1 => (cond (Bool.not (match (@mfind TC.str TC.bool v1.1 p.2.1) with | .none  => Bool.false | .some v2 => v2)) (some (((S.lit []), ((S.lit []), [])), (Bool.false, ()))) (L15 (p.1, p.2.1, (Go.IntKind.wrap Go.IntKind.i64 (Int.add p.2.2 (Int.ofNat 1))))))) (cond (ieqI v0.2.1 (Int.ofNat 4)) (match (jget x3 p.2.2) with | .none  => none | .some v26 => (cond (Bool.not (match (@mfind TC.str TC.bool v26.1 p.2.1) with | .none  => Bool.false | .some v27 => v27)) (some (((S.lit []), ((S.lit []), [])), (Bool.false, ()))) (L15 (p.1, p.2.1, (Go.IntKind.wrap Go.IntKind.i64 (Int.add p.2.2 (Int.ofNat 1))))))) (cond (ieqI v0.2.1 (Int.ofNat 5)) (match (jget x3 p.2.2) with | .none  => none | .some v28 => (cond (Bool.not (match (@mfind TC.str TC.bool v28.1 p.2.1) with | .none  => Bool.false | .some v29 => v29)) (some (((S.lit []), ((S.lit []), [])), (Bool.false, ()))) (L15 (p.1, p.2.1, (Go.IntKind.wrap Go.IntKind.i64 (Int.add p.2.2 (Int.ofNat 1))))))) (L15 (p.1, p.2.1, (Go.IntKind.wrap Go.IntKind.i64 (Int.add p.2.2 (Int.ofNat 1))))))))) (some ((x1.1, (x2.2.1, p.1)), (Bool.true, ()))))
theorem in_p_chained (g : ElA [cRule, cRule, (.list cCol)] → Option Rt_p_chained) (J : Nat → List Nat → NRes → Option Rt_p_chained) (lf : Nat) (x1 : DRule) (x2 : DRule) (x3 : (List DCol)) : icodeT Tryz.prog ttT.get nm_p_chained fi46.nt (cl_p_chained _ lf) lf st_p_chained J fi46.body [] (argGo (argV [cRule, cRule, (.list cCol)] (x1, x2, x3, ())) 0 .leaf) S0 [] (lastK ttT.get fi46 ⟨[cRule, cRule, (.list cCol)], [(false, cRule), (false, .bool)], g⟩) = R_p_chained_in lf x1 x2 x3 (fun q => J 4 [lf] (enc_p_chained_4 x1 x2 x3 q)) := by kernel_rfl
theorem st_p_chained_4 (g : ElA [cRule, cRule, (.list cCol)] → Option Rt_p_chained) (J : Nat → List Nat → NRes → Option Rt_p_chained) (lf : Nat) (x1 : DRule) (x2 : DRule) (x3 : (List DCol)) (m1 : Nat) (p : Int × (List (ByteArray × Bool)) × (List DGive)) : icodeFT Tryz.prog ttT.get nm_p_chained fi46.nt (cl_p_chained _ lf) lf st_p_chained J 4 fi46.body [] [m1] (enc_p_chained_4 x1 x2 x3 p) (lastK ttT.get fi46 ⟨[cRule, cRule, (.list cCol)], [(false, cRule), (false, .bool)], g⟩) = R_p_chained_4 lf x1 x2 x3 (fun q => J 4 [m1] (enc_p_chained_4 x1 x2 x3 q)) (fun q => J 15 [lf] (enc_p_chained_15 x1 x2 x3 q)) p := by kernel_rfl
theorem st_p_chained_15 (g : ElA [cRule, cRule, (.list cCol)] → Option Rt_p_chained) (J : Nat → List Nat → NRes → Option Rt_p_chained) (lf : Nat) (x1 : DRule) (x2 : DRule) (x3 : (List DCol)) (m1 : Nat) (p : (List DGive) × (List (ByteArray × Bool)) × Int) : icodeFT Tryz.prog ttT.get nm_p_chained fi46.nt (cl_p_chained _ lf) lf st_p_chained J 15 fi46.body [] [m1] (enc_p_chained_15 x1 x2 x3 p) (lastK ttT.get fi46 ⟨[cRule, cRule, (.list cCol)], [(false, cRule), (false, .bool)], g⟩) = R_p_chained_15 lf x1 x2 x3 (fun q => J 15 [m1] (enc_p_chained_15 x1 x2 x3 q)) p := by kernel_rfl
theorem nd_p_chained : (regs fi46.body).Nodup := by decide +kernel
theorem ok_p_chained : okC nm_p_chained st_p_chained hd_p_chained fi46.body none = true := by kernel_rfl
def A_p_chained (g : ElA [cRule, cRule, (.list cCol)] → Option Rt_p_chained) (lf : Nat) : Nat → List Nat → NRes → Option Rt_p_chained := atN Tryz.prog ttT.get nm_p_chained fi46 ⟨[cRule, cRule, (.list cCol)], [(false, cRule), (false, .bool)], g⟩ (cl_p_chained _ lf) lf hd_p_chained
def G_p_chained_15 (lf : Nat) (x1 : DRule) (x2 : DRule) (x3 : (List DCol)) : Nat → ((List DGive) × (List (ByteArray × Bool)) × Int) → Option Rt_p_chained := rounds fun K p => R_p_chained_15 lf x1 x2 x3 K p
theorem at_p_chained_15 (g : ElA [cRule, cRule, (.list cCol)] → Option Rt_p_chained) (lf : Nat) (x1 : DRule) (x2 : DRule) (x3 : (List DCol)) : ∀ (n : Nat) (p : (List DGive) × (List (ByteArray × Bool)) × Int), A_p_chained g lf 15 [n] (enc_p_chained_15 x1 x2 x3 p) = G_p_chained_15 lf x1 x2 x3 n p
  | 0, p => atN_zero 15 [0] rfl _
  | n + 1, p => by
    have ih := at_p_chained_15 g lf x1 x2 x3 n
    refine (atN_eq (icallK_eq 20 _) nd_p_chained ok_p_chained 15 [n + 1] [n] rfl _).trans ((st_p_chained_15 g (A_p_chained g lf) lf x1 x2 x3 n p).trans ?_)
    rw [(show (fun q => A_p_chained g lf 15 [n] (enc_p_chained_15 x1 x2 x3 q)) = (fun q => G_p_chained_15 lf x1 x2 x3 n q) from funext ih)]
    rfl
def G_p_chained_4 (lf : Nat) (x1 : DRule) (x2 : DRule) (x3 : (List DCol)) : Nat → (Int × (List (ByteArray × Bool)) × (List DGive)) → Option Rt_p_chained := rounds fun K p => R_p_chained_4 lf x1 x2 x3 K (fun q => G_p_chained_15 lf x1 x2 x3 lf q) p
theorem at_p_chained_4 (g : ElA [cRule, cRule, (.list cCol)] → Option Rt_p_chained) (lf : Nat) (x1 : DRule) (x2 : DRule) (x3 : (List DCol)) : ∀ (n : Nat) (p : Int × (List (ByteArray × Bool)) × (List DGive)), A_p_chained g lf 4 [n] (enc_p_chained_4 x1 x2 x3 p) = G_p_chained_4 lf x1 x2 x3 n p
  | 0, p => atN_zero 4 [0] rfl _
  | n + 1, p => by
    have ih := at_p_chained_4 g lf x1 x2 x3 n
    refine (atN_eq (icallK_eq 20 _) nd_p_chained ok_p_chained 4 [n + 1] [n] rfl _).trans ((st_p_chained_4 g (A_p_chained g lf) lf x1 x2 x3 n p).trans ?_)
    rw [(show (fun q => A_p_chained g lf 15 [lf] (enc_p_chained_15 x1 x2 x3 q)) = (fun q => G_p_chained_15 lf x1 x2 x3 lf q) from funext fun q => at_p_chained_15 g lf x1 x2 x3 lf q), (show (fun q => A_p_chained g lf 4 [n] (enc_p_chained_4 x1 x2 x3 q)) = (fun q => G_p_chained_4 lf x1 x2 x3 n q) from funext ih)]
    rfl
def F_p_chained (lf : Nat) (x1 : DRule) (x2 : DRule) (x3 : (List DCol)) : Option Rt_p_chained := R_p_chained_in lf x1 x2 x3 (fun q => G_p_chained_4 lf x1 x2 x3 lf q)
theorem run_p_chained (g : ElA [cRule, cRule, (.list cCol)] → Option Rt_p_chained) (lf : Nat) (x1 : DRule) (x2 : DRule) (x3 : (List DCol)) : icodeT Tryz.prog ttT.get nm_p_chained fi46.nt (cl_p_chained _ lf) lf st_p_chained (A_p_chained g lf) fi46.body [] (argGo (argV [cRule, cRule, (.list cCol)] (x1, x2, x3, ())) 0 .leaf) S0 [] (lastK ttT.get fi46 ⟨[cRule, cRule, (.list cCol)], [(false, cRule), (false, .bool)], g⟩) = F_p_chained lf x1 x2 x3 := by
    refine (in_p_chained g (A_p_chained g lf) lf x1 x2 x3).trans ?_
    rw [(show (fun q => A_p_chained g lf 4 [lf] (enc_p_chained_4 x1 x2 x3 q)) = (fun q => G_p_chained_4 lf x1 x2 x3 lf q) from funext fun q => at_p_chained_4 g lf x1 x2 x3 lf q)]
    rfl
theorem hxs_p_chained : HxsOK Tryz.prog hxl_p_chained := trivial
theorem mk_p_chained {g : ElA [cRule, cRule, (.list cCol)] → Option Rt_p_chained} (hsm : SmOK Tryz.prog sml_p_chained) (hg : ∀ (x : ElA [cRule, cRule, (.list cCol)]) (y : Rt_p_chained), WfA [cRule, cRule, (.list cCol)] x → g x = some y → ∃ lf, F_p_chained lf x.1 x.2.1 x.2.2.1 = some y) : Con Tryz.prog 46 ⟨[cRule, cRule, (.list cCol)], [(false, cRule), (false, .bool)], g⟩ :=
  conT (nmf := nm_p_chained) (sml := sml_p_chained) (hxl := hxl_p_chained) (st := st_p_chained) (hd := hd_p_chained) 20 mixed ttOK ftOK hsm hxs_p_chained cal46 rfl rfl (by kernel_rfl) (fun x => by kernel_rfl) nd_p_chained ok_p_chained fun x y hx hy => by
    obtain ⟨lf, h⟩ := hg x y hx hy
    exact ⟨lf, (run_p_chained g lf x.1 x.2.1 x.2.2.1).trans h⟩
def nm_p_Chain : Nat → Option Nm := fun k => cond (Nat.beq k 9) (some ⟨[1, 3, 4, 14, 47, 48, 49], [(14, cRule)], [], [], [], 0, 0, false⟩) (none)
def st_p_Chain : Nat → Bool := fun k => cond (Nat.beq k 9) true (false)
def hd_p_Chain : Nat → Bool := fun k => cond (Nat.beq k 9) true (false)
abbrev Rt_p_Chain : Type := (List DRule) × Int × Unit
def sml_p_Chain : List (Nat × Sm) := [(44, sp_p_CheckForms), (33, sp_p_first), (45, sp_p_checkRules), (36, sp_p_ruleOf), (46, sp_p_chained), (37, sp_p_form)]
def hxl_p_Chain : List (Nat × Hx) := []
def cl_p_Chain (R : Type) (lf : Nat) : ClK R := icallK Tryz.prog ttT.get ftT.get (nm1 14 nm_p_Chain) (smL sml_p_Chain) (hxL hxl_p_Chain) lf 20 R
abbrev id_p_Chain : Nat := 14
def enc_p_Chain_9 (x1 : (List DForm)) (x2 : (List DForm)) (x3 : (List DForm)) (x4 : (List DRule)) (x5 : (List DRule)) (p : Int × (List DRule)) : NRes := (NRes.mk (PT.node none (PT.node (some (IV.lst cForm x2)) (PT.node (some (IV.lst cRule x4)) (PT.node none (PT.node none PT.leaf (PT.node (some (IV.lst cForm x1)) PT.leaf PT.leaf)) PT.leaf) PT.leaf) (PT.node none (PT.node none (PT.node none PT.leaf (PT.node (some (IV.int Go.IntKind.i64 p.1)) PT.leaf PT.leaf)) PT.leaf) PT.leaf)) (PT.node none (PT.node (some (IV.lst cRule x5)) (PT.node none (PT.node none PT.leaf (PT.node (some (IV.int Go.IntKind.i64 (Int.ofNat (List.length x1)))) PT.leaf PT.leaf)) PT.leaf) PT.leaf) (PT.node none PT.leaf (PT.node (some (IV.arr 0)) PT.leaf PT.leaf)))) (IS.mk (PT.node (some (IObj.arr cRule p.2)) PT.leaf PT.leaf) 1) [] 0)
def R_p_Chain_in (lf : Nat) (x1 : (List DForm)) (x2 : (List DForm)) (x3 : (List DForm)) (x4 : (List DRule)) (x5 : (List DRule)) (L9 : (Int × (List DRule)) → Option Rt_p_Chain) : Option Rt_p_Chain := (cond (Bool.not (ieqI (Go.Proofs.YtcnhjofpmpipfaaGreat.S.first (List.cons (Go.Proofs.YtcnhjofpmpipfaaGreat.S.checkForms x1) (List.cons (Go.Proofs.YtcnhjofpmpipfaaGreat.S.checkForms x2) (List.cons (Go.Proofs.YtcnhjofpmpipfaaGreat.S.checkForms x3) [])))) (Int.ofNat 0))) (some ([], ((Go.Proofs.YtcnhjofpmpipfaaGreat.S.first (List.cons (Go.Proofs.YtcnhjofpmpipfaaGreat.S.checkForms x1) (List.cons (Go.Proofs.YtcnhjofpmpipfaaGreat.S.checkForms x2) (List.cons (Go.Proofs.YtcnhjofpmpipfaaGreat.S.checkForms x3) [])))), ()))) (cond (Bool.not (ieqI (Go.Proofs.YtcnhjofpmpipfaaGreat.S.first (List.cons (Go.Proofs.YtcnhjofpmpipfaaGreat.S.checkRules0 x1 x2 x4) (List.cons (Go.Proofs.YtcnhjofpmpipfaaGreat.S.checkRules0 x2 x3 x5) []))) (Int.ofNat 0))) (some ([], ((Go.Proofs.YtcnhjofpmpipfaaGreat.S.first (List.cons (Go.Proofs.YtcnhjofpmpipfaaGreat.S.checkRules0 x1 x2 x4) (List.cons (Go.Proofs.YtcnhjofpmpipfaaGreat.S.checkRules0 x2 x3 x5) []))), ()))) (L9 ((Int.ofNat 0), []))))
def R_p_Chain_9 (lf : Nat) (x1 : (List DForm)) (x2 : (List DForm)) (x3 : (List DForm)) (x4 : (List DRule)) (x5 : (List DRule)) (L9 : (Int × (List DRule)) → Option Rt_p_Chain) (p : Int × (List DRule)) : Option Rt_p_Chain := (cond (iltI p.1 (Int.ofNat (List.length x1))) (match (jget x1 p.1) with | .none  => none | .some v0 => (match (jget x2 (Go.Proofs.YtcnhjofpmpipfaaGreat.S.form x2 (Go.Proofs.YtcnhjofpmpipfaaGreat.S.ruleOf x4 v0.1).1.2.1)) with | .none  => none | .some v1 => (match (cond (Go.Proofs.YtcnhjofpmpipfaaGreat.S.chainedPre ((Go.Proofs.YtcnhjofpmpipfaaGreat.S.ruleOf x4 v0.1).1.1, ((Go.Proofs.YtcnhjofpmpipfaaGreat.S.ruleOf x4 v0.1).1.2.1, (Go.Proofs.YtcnhjofpmpipfaaGreat.S.ruleOf x4 v0.1).1.2.2)) ((Go.Proofs.YtcnhjofpmpipfaaGreat.S.ruleOf x5 (Go.Proofs.YtcnhjofpmpipfaaGreat.S.ruleOf x4 v0.1).1.2.1).1.1, ((Go.Proofs.YtcnhjofpmpipfaaGreat.S.ruleOf x5 (Go.Proofs.YtcnhjofpmpipfaaGreat.S.ruleOf x4 v0.1).1.2.1).1.2.1, (Go.Proofs.YtcnhjofpmpipfaaGreat.S.ruleOf x5 (Go.Proofs.YtcnhjofpmpipfaaGreat.S.ruleOf x4 v0.1).1.2.1).1.2.2)) v1.2) (some ((Go.Proofs.YtcnhjofpmpipfaaGreat.S.chained ((Go.Proofs.YtcnhjofpmpipfaaGreat.S.ruleOf x4 v0.1).1.1, ((Go.Proofs.YtcnhjofpmpipfaaGreat.S.ruleOf x4 v0.1).1.2.1, (Go.Proofs.YtcnhjofpmpipfaaGreat.S.ruleOf x4 v0.1).1.2.2)) ((Go.Proofs.YtcnhjofpmpipfaaGreat.S.ruleOf x5 (Go.Proofs.YtcnhjofpmpipfaaGreat.S.ruleOf x4 v0.1).1.2.1).1.1, ((Go.Proofs.YtcnhjofpmpipfaaGreat.S.ruleOf x5 (Go.Proofs.YtcnhjofpmpipfaaGreat.S.ruleOf x4 v0.1).1.2.1).1.2.1, (Go.Proofs.YtcnhjofpmpipfaaGreat.S.ruleOf x5 (Go.Proofs.YtcnhjofpmpipfaaGreat.S.ruleOf x4 v0.1).1.2.1).1.2.2)) v1.2).1, ((Go.Proofs.YtcnhjofpmpipfaaGreat.S.chained ((Go.Proofs.YtcnhjofpmpipfaaGreat.S.ruleOf x4 v0.1).1.1, ((Go.Proofs.YtcnhjofpmpipfaaGreat.S.ruleOf x4 v0.1).1.2.1, (Go.Proofs.YtcnhjofpmpipfaaGreat.S.ruleOf x4 v0.1).1.2.2)) ((Go.Proofs.YtcnhjofpmpipfaaGreat.S.ruleOf x5 (Go.Proofs.YtcnhjofpmpipfaaGreat.S.ruleOf x4 v0.1).1.2.1).1.1, ((Go.Proofs.YtcnhjofpmpipfaaGreat.S.ruleOf x5 (Go.Proofs.YtcnhjofpmpipfaaGreat.S.ruleOf x4 v0.1).1.2.1).1.2.1, (Go.Proofs.YtcnhjofpmpipfaaGreat.S.ruleOf x5 (Go.Proofs.YtcnhjofpmpipfaaGreat.S.ruleOf x4 v0.1).1.2.1).1.2.2)) v1.2).2, ()))) none) with | .none  => none | .some v2 => (cond (Bool.not v2.2.1) (some ([], ((Int.ofNat 5), ()))) (cond (Nat.ble (Nat.mul (Nat.add (List.length p.2) 1) 56) 140737488355328) (L9 ((Go.IntKind.wrap Go.IntKind.i64 (Int.add p.1 (Int.ofNat 1))), (List.append p.2 (List.cons (v2.1.1, (v2.1.2.1, v2.1.2.2)) [])))) none))))) (some (p.2, ((Int.ofNat 0), ()))))
theorem in_p_Chain (g : ElA [(.list cForm), (.list cForm), (.list cForm), (.list cRule), (.list cRule)] → Option Rt_p_Chain) (J : Nat → List Nat → NRes → Option Rt_p_Chain) (lf : Nat) (x1 : (List DForm)) (x2 : (List DForm)) (x3 : (List DForm)) (x4 : (List DRule)) (x5 : (List DRule)) : icodeT Tryz.prog ttT.get nm_p_Chain fi14.nt (cl_p_Chain _ lf) lf st_p_Chain J fi14.body [] (argGo (argV [(.list cForm), (.list cForm), (.list cForm), (.list cRule), (.list cRule)] (x1, x2, x3, x4, x5, ())) 0 .leaf) S0 [] (lastK ttT.get fi14 ⟨[(.list cForm), (.list cForm), (.list cForm), (.list cRule), (.list cRule)], [(false, (.list cRule)), (false, (.int .i64))], g⟩) = R_p_Chain_in lf x1 x2 x3 x4 x5 (fun q => J 9 [lf] (enc_p_Chain_9 x1 x2 x3 x4 x5 q)) := by kernel_rfl
theorem st_p_Chain_9 (g : ElA [(.list cForm), (.list cForm), (.list cForm), (.list cRule), (.list cRule)] → Option Rt_p_Chain) (J : Nat → List Nat → NRes → Option Rt_p_Chain) (lf : Nat) (x1 : (List DForm)) (x2 : (List DForm)) (x3 : (List DForm)) (x4 : (List DRule)) (x5 : (List DRule)) (m1 : Nat) (p : Int × (List DRule)) : icodeFT Tryz.prog ttT.get nm_p_Chain fi14.nt (cl_p_Chain _ lf) lf st_p_Chain J 9 fi14.body [] [m1] (enc_p_Chain_9 x1 x2 x3 x4 x5 p) (lastK ttT.get fi14 ⟨[(.list cForm), (.list cForm), (.list cForm), (.list cRule), (.list cRule)], [(false, (.list cRule)), (false, (.int .i64))], g⟩) = R_p_Chain_9 lf x1 x2 x3 x4 x5 (fun q => J 9 [m1] (enc_p_Chain_9 x1 x2 x3 x4 x5 q)) p := by kernel_rfl
theorem nd_p_Chain : (regs fi14.body).Nodup := by decide +kernel
theorem ok_p_Chain : okC nm_p_Chain st_p_Chain hd_p_Chain fi14.body none = true := by kernel_rfl
def A_p_Chain (g : ElA [(.list cForm), (.list cForm), (.list cForm), (.list cRule), (.list cRule)] → Option Rt_p_Chain) (lf : Nat) : Nat → List Nat → NRes → Option Rt_p_Chain := atN Tryz.prog ttT.get nm_p_Chain fi14 ⟨[(.list cForm), (.list cForm), (.list cForm), (.list cRule), (.list cRule)], [(false, (.list cRule)), (false, (.int .i64))], g⟩ (cl_p_Chain _ lf) lf hd_p_Chain
def G_p_Chain_9 (lf : Nat) (x1 : (List DForm)) (x2 : (List DForm)) (x3 : (List DForm)) (x4 : (List DRule)) (x5 : (List DRule)) : Nat → (Int × (List DRule)) → Option Rt_p_Chain := rounds fun K p => R_p_Chain_9 lf x1 x2 x3 x4 x5 K p
theorem at_p_Chain_9 (g : ElA [(.list cForm), (.list cForm), (.list cForm), (.list cRule), (.list cRule)] → Option Rt_p_Chain) (lf : Nat) (x1 : (List DForm)) (x2 : (List DForm)) (x3 : (List DForm)) (x4 : (List DRule)) (x5 : (List DRule)) : ∀ (n : Nat) (p : Int × (List DRule)), A_p_Chain g lf 9 [n] (enc_p_Chain_9 x1 x2 x3 x4 x5 p) = G_p_Chain_9 lf x1 x2 x3 x4 x5 n p
  | 0, p => atN_zero 9 [0] rfl _
  | n + 1, p => by
    have ih := at_p_Chain_9 g lf x1 x2 x3 x4 x5 n
    refine (atN_eq (icallK_eq 20 _) nd_p_Chain ok_p_Chain 9 [n + 1] [n] rfl _).trans ((st_p_Chain_9 g (A_p_Chain g lf) lf x1 x2 x3 x4 x5 n p).trans ?_)
    rw [(show (fun q => A_p_Chain g lf 9 [n] (enc_p_Chain_9 x1 x2 x3 x4 x5 q)) = (fun q => G_p_Chain_9 lf x1 x2 x3 x4 x5 n q) from funext ih)]
    rfl
def F_p_Chain (lf : Nat) (x1 : (List DForm)) (x2 : (List DForm)) (x3 : (List DForm)) (x4 : (List DRule)) (x5 : (List DRule)) : Option Rt_p_Chain := R_p_Chain_in lf x1 x2 x3 x4 x5 (fun q => G_p_Chain_9 lf x1 x2 x3 x4 x5 lf q)
theorem run_p_Chain (g : ElA [(.list cForm), (.list cForm), (.list cForm), (.list cRule), (.list cRule)] → Option Rt_p_Chain) (lf : Nat) (x1 : (List DForm)) (x2 : (List DForm)) (x3 : (List DForm)) (x4 : (List DRule)) (x5 : (List DRule)) : icodeT Tryz.prog ttT.get nm_p_Chain fi14.nt (cl_p_Chain _ lf) lf st_p_Chain (A_p_Chain g lf) fi14.body [] (argGo (argV [(.list cForm), (.list cForm), (.list cForm), (.list cRule), (.list cRule)] (x1, x2, x3, x4, x5, ())) 0 .leaf) S0 [] (lastK ttT.get fi14 ⟨[(.list cForm), (.list cForm), (.list cForm), (.list cRule), (.list cRule)], [(false, (.list cRule)), (false, (.int .i64))], g⟩) = F_p_Chain lf x1 x2 x3 x4 x5 := by
    refine (in_p_Chain g (A_p_Chain g lf) lf x1 x2 x3 x4 x5).trans ?_
    rw [(show (fun q => A_p_Chain g lf 9 [lf] (enc_p_Chain_9 x1 x2 x3 x4 x5 q)) = (fun q => G_p_Chain_9 lf x1 x2 x3 x4 x5 lf q) from funext fun q => at_p_Chain_9 g lf x1 x2 x3 x4 x5 lf q)]
    rfl
theorem hxs_p_Chain : HxsOK Tryz.prog hxl_p_Chain := trivial
theorem mk_p_Chain {g : ElA [(.list cForm), (.list cForm), (.list cForm), (.list cRule), (.list cRule)] → Option Rt_p_Chain} (hsm : SmOK Tryz.prog sml_p_Chain) (hg : ∀ (x : ElA [(.list cForm), (.list cForm), (.list cForm), (.list cRule), (.list cRule)]) (y : Rt_p_Chain), WfA [(.list cForm), (.list cForm), (.list cForm), (.list cRule), (.list cRule)] x → g x = some y → ∃ lf, F_p_Chain lf x.1 x.2.1 x.2.2.1 x.2.2.2.1 x.2.2.2.2.1 = some y) : Con Tryz.prog 14 ⟨[(.list cForm), (.list cForm), (.list cForm), (.list cRule), (.list cRule)], [(false, (.list cRule)), (false, (.int .i64))], g⟩ :=
  conT (nmf := nm_p_Chain) (sml := sml_p_Chain) (hxl := hxl_p_Chain) (st := st_p_Chain) (hd := hd_p_Chain) 20 mixed ttOK ftOK hsm hxs_p_Chain cal14 rfl rfl (by kernel_rfl) (fun x => by kernel_rfl) nd_p_Chain ok_p_Chain fun x y hx hy => by
    obtain ⟨lf, h⟩ := hg x y hx hy
    exact ⟨lf, (run_p_Chain g lf x.1 x.2.1 x.2.2.1 x.2.2.2.1 x.2.2.2.2.1).trans h⟩
end Go.Proofs.YtcnhjofpmpipfaaGreat

end
end

/- The contracts of pack's chaining of rules. -/
section
set_option linter.unusedVariables false
set_option maxRecDepth 100000
namespace Go.Proofs.YtcnhjofpmpipfaaGreat
open Go Go.Sx Go.RowKit Go.Jx
theorem F_p_both_eq (lf : Nat) (a b : DGive) : F_p_both lf a b = some ((S.both a b).1, (S.both a b).2, ()) := by
  obtain ⟨af, an, ak⟩ := a
  obtain ⟨bf, bn, bk⟩ := b
  simp only [F_p_both, R_p_both_in, G_p_both_10, R_p_both_10, G_p_both_13, R_p_both_13, G_p_both_15, R_p_both_15, G_p_both_17, R_p_both_17, G_p_both_19, R_p_both_19, G_p_both_21, R_p_both_21, S.both, ieqI_eq, iltI_eq, oL, S.zGive]
  have hlt : (!decide (bk < 2)) = decide (2 ≤ bk) := by by_cases h : bk < 2 <;> simp [h]; omega
  rw [hlt]
  by_cases b1 : bn = 1
  · simp [b1]
  by_cases a1 : an = 1
  · simp [b1, a1]
  by_cases a2 : an = 2
  · by_cases b3 : bn = 3
    · simp [a2, b3]
    by_cases b4 : bn = 4 <;> simp [a2, b3, b4, b1]
  by_cases a4 : an = 4
  · by_cases b4 : bn = 4 <;> simp [a4, b4, b1]
  by_cases a5 : an = 5
  · by_cases b5 : bn = 5 <;> simp [a5, b5, b1]
  by_cases a6 : an = 6
  · by_cases b2 : bn = 2
    · simp [a6, b2]
    by_cases b3 : bn = 3
    · simp [a6, b3]
    by_cases b4 : bn = 4 <;> simp [a6, b2, b3, b4, b1]
  simp [a1, a2, a4, a5, a6, b1]
theorem con_p_both : Con Tryz.prog id_p_both sp_p_both := mk_p_both ⟨con_p_within, trivial⟩ fun x y _ h => ⟨0, (F_p_both_eq _ _ _).trans h⟩
/-- Whether a set of names holds one. -/
def mhas (n : ByteArray) (m : List (ByteArray × Bool)) : Bool := match @mfind TC.str TC.bool n m with
  | none => false
  | some v => v
theorem mhas_nil (n : ByteArray) : mhas n [] = false := rfl
theorem mhas_mset (k n : ByteArray) : ∀ m : List (ByteArray × Bool), mhas n (@mset TC.str TC.bool k true m) = (keqS k n || mhas n m)
  | [] => by
    show (match cond (keqS n k) (some true) none with | none => false | some v => v) = _
    rw [mhas_nil, Bool.or_false, show keqS k n = keqS n k from by unfold keqS; exact decide_eq_decide.2 eq_comm]
    cases keqS n k <;> rfl
  | e :: m => by
    have ih := mhas_mset k n m
    have hc : keqS k n = keqS n k := by unfold keqS; exact decide_eq_decide.2 eq_comm
    rw [hc] at ih ⊢
    show (match @mfind TC.str TC.bool n (cond (keqS k e.1) ((k, true) :: m) (e :: @mset TC.str TC.bool k true m)) with | none => false | some v => v) = _
    have h2 : mhas n (e :: m) = cond (keqS n e.1) e.2 (mhas n m) := by
      show (match cond (keqS n e.1) (some e.2) (@mfind TC.str TC.bool n m) with | none => false | some v => v) = _
      cases keqS n e.1 <;> rfl
    rw [h2]
    cases hk : keqS k e.1 with
    | true =>
      have : k = e.1 := of_decide_eq_true hk
      show (match cond (keqS n k) (some true) (@mfind TC.str TC.bool n m) with | none => false | some v => v) = _
      rw [← this]
      cases keqS n k <;> rfl
    | false =>
      show (match cond (keqS n e.1) (some e.2) (@mfind TC.str TC.bool n (@mset TC.str TC.bool k true m)) with | none => false | some v => v) = _
      cases hn : keqS n e.1 with
      | false => exact ih
      | true =>
        have h3 : n = e.1 := of_decide_eq_true hn
        have h4 : keqS n k = false := by rw [h3, ← hk]; unfold keqS; exact decide_eq_decide.2 eq_comm
        rw [h4]; rfl
theorem hasFrom_snoc (l : List DGive) (g : DGive) (n : ByteArray) : S.hasFrom (l ++ [g]) n = (keqS g.1 n || S.hasFrom l n) := by
  unfold S.hasFrom
  rw [List.any_append]
  simp [Bool.or_comm]
theorem ch_second (a b : DRule) (mid : List DCol) (gs : List DGive) (used : List (ByteArray × Bool)) (ha : a.2.2.length < LF) (hm : a.2.2.length ≤ mid.length) (hu : ∀ n, mhas n used = S.hasFrom b.2.2 n) :
    G_p_chained_15 LF a b mid LF (gs, used, Int.ofNat 0) = if S.chAsk b.2.2 a.2.2 mid = true then some ((a.1, b.2.1, gs), true, ()) else some (S.zRule, false, ()) := by
  refine range0 (σ := Unit) (R := Rt_p_chained) a.2.2 (fun k _ => (gs, used, k)) (fun _ _ => True) (fun rest k _ => if S.chAsk b.2.2 rest (mid.drop k) = true then some ((a.1, b.2.1, gs), true, ()) else some (S.zRule, false, ())) ha (fun K s _ => ?_) (fun K k g rest s _ r h => ?_) () trivial
  · have : S.chAsk b.2.2 [] (mid.drop a.2.2.length) = true := by unfold S.chAsk; rfl
    simp only [R_p_chained_15, ilt_self, cond_false, this, if_true]
  · have h := h () trivial
    have hk : k < mid.length := by have := r.lt; omega
    have hj : jget mid (Int.ofNat k) = some mid[k] := by rw [jget_nat]; exact List.getElem?_eq_getElem hk
    rw [List.drop_eq_getElem_cons hk, S.chAsk]
    obtain ⟨o, ho⟩ : ∃ o, @mfind TC.str TC.bool mid[k].1 used = o := ⟨_, rfl⟩
    have e := hu mid[k].1
    unfold mhas at e
    rw [ho] at e
    simp only [R_p_chained_15, r.ilt, r.get, r.next, h, cond_true, hj, ho]
    simp only [ieqI_eq, oL]
    rw [← e]
    unfold S.asksG
    generalize S.chAsk b.2.2 rest (List.drop (k + 1) mid) = z
    by_cases h3 : g.2.1 = 3
    · rw [decide_eq_true h3]; cases o with
      | none => rfl
      | some v => cases v <;> rfl
    rw [decide_eq_false h3]
    by_cases h4 : g.2.1 = 4
    · rw [decide_eq_true h4]; cases o with
      | none => rfl
      | some v => cases v <;> rfl
    rw [decide_eq_false h4]
    by_cases h5 : g.2.1 = 5
    · rw [decide_eq_true h5]; cases o with
      | none => rfl
      | some v => cases v <;> rfl
    rw [decide_eq_false h5]
    rfl
theorem F_p_chained_eq (a b : DRule) (mid : List DCol) (ha : a.2.2.length < LF) (hb : b.2.2.length * 32 ≤ 140737488355328) (hp : S.chainedPre a b mid = true) :
    F_p_chained LF a b mid = some ((S.chained a b mid).1, (S.chained a b mid).2, ()) := by
  unfold S.chainedPre at hp
  rw [Bool.and_eq_true] at hp
  obtain ⟨hm, hp⟩ := hp
  have hm := of_decide_eq_true hm
  rw [List.all_eq_true] at hp
  have hbl : b.2.2.length < LF := by unfold LF; omega
  have fin : ∀ o : Option (List DGive), (match o with | none => some (S.zRule, false, ()) | some gs => if S.chAsk b.2.2 a.2.2 mid = true then some ((a.1, b.2.1, gs), true, ()) else some (S.zRule, false, ())) =
      some ((match o with | none => (S.zRule, false) | some gs => if S.chAsk b.2.2 a.2.2 mid = true then ((a.1, b.2.1, gs), true) else (S.zRule, false) : DRule × Bool).1, (match o with | none => (S.zRule, false) | some gs => if S.chAsk b.2.2 a.2.2 mid = true then ((a.1, b.2.1, gs), true) else (S.zRule, false) : DRule × Bool).2, ()) := by
    intro o
    cases o with
    | none => rfl
    | some gs => cases S.chAsk b.2.2 a.2.2 mid <;> rfl
  simp only [F_p_chained, R_p_chained_in, S.chained]
  refine Eq.trans ?_ (fin _)
  refine range0 (σ := List (ByteArray × Bool) × List DGive) (R := Rt_p_chained) b.2.2 (fun k s => (k, s.1, s.2)) (fun k s => s.2.length = k ∧ ∀ n, mhas n s.1 = S.hasFrom (b.2.2.take k) n)
    (fun rest k s => match S.chGo a mid rest s.2 with | none => some (S.zRule, false, ()) | some gs => if S.chAsk b.2.2 a.2.2 mid = true then some ((a.1, b.2.1, gs), true, ()) else some (S.zRule, false, ())) hbl (fun K s hI => ?_) (fun K k g rest s hI r h => ?_) ([], []) ⟨rfl, fun n => rfl⟩
  · rw [List.take_length] at hI
    simp only [R_p_chained_4, ilt_self, cond_false, S.chGo]
    exact ch_second a b mid s.2 s.1 ha hm hI.2
  · have hu : ∀ n, mhas n (@mset TC.str TC.bool g.1 true s.1) = S.hasFrom (b.2.2.take (k + 1)) n := fun n => by
      rw [mhas_mset, hI.2, r.take, hasFrom_snoc]
    have hbl : Nat.ble (Nat.mul (Nat.add s.2.length 1) 32) 140737488355328 = true := ble_mul (by have := r.lt; rw [hI.1]; omega)
    have step : ∀ x : DGive, K (Int.ofNat (k + 1), @mset TC.str TC.bool g.1 true s.1, s.2 ++ [x]) = _ := fun x => h (@mset TC.str TC.bool g.1 true s.1, s.2 ++ [x]) ⟨by simp [hI.1], hu⟩
    simp only [R_p_chained_4, r.ilt, r.get, cond_true, hbl, ieqI_eq, oL]
    rw [S.chGo]
    by_cases h6 : g.2.1 = 6
    · rw [decide_eq_true h6, cond_true, if_pos (.inl h6)]
      have := step g
      rw [← r.next] at this
      exact this
    by_cases h7 : g.2.1 = 7
    · rw [decide_eq_false h6, cond_false, decide_eq_true h7, cond_true, if_pos (.inr h7)]
      have := step g
      rw [← r.next] at this
      exact this
    rw [decide_eq_false h6, cond_false, decide_eq_false h7, cond_false, if_neg (by simp [h6, h7])]
    obtain ⟨p1, p2⟩ := of_decide_eq_true (hp g r.mem) h6 h7
    obtain ⟨v, e1, e2, e3⟩ := jget_of p1 p2
    have e4 : S.at_ S.zGive a.2.2 (S.col mid g.1) = v := by unfold S.at_; rw [e2]; rfl
    rw [e1, e4]
    simp only [Prod.eta]
    cases hbo : (S.both v g).2 with
    | false => rfl
    | true =>
      rw [Bool.not_true, cond_false, if_pos rfl]
      have := step (S.both v g).1
      rw [← r.next] at this
      exact this
theorem con_p_chained : Con Tryz.prog id_p_chained sp_p_chained := mk_p_chained ⟨con_p_col, con_p_both, trivial⟩ fun x y hx h => ⟨LF, by
  have h : cond (S.chainedPre x.1 x.2.1 x.2.2.1) (some ((S.chained x.1 x.2.1 x.2.2.1).1, (S.chained x.1 x.2.1 x.2.2.1).2, ())) none = some y := h
  cases hr : S.chainedPre x.1 x.2.1 x.2.2.1 with
  | false => rw [hr] at h; cases h
  | true => rw [hr] at h; exact (F_p_chained_eq _ _ _ (wf_len hx.1.2.2) hx.2.1.2.2.1 hr).trans h⟩
/-- Rules that are right may be chained. -/
theorem chained_pre {l1 l2 l3 : List DForm} {a b : List DRule} (hA : RulesOK l1 l2 a) (hB : RulesOK l2 l3 b) {x y : DRule} (hx : x ∈ a) (hy : y ∈ b) (hxy : y.1 = x.2.1) : S.chainedPre x y (S.colsOf l2 x.2.1) = true := by
  unfold S.chainedPre
  rw [Bool.and_eq_true]
  refine ⟨decide_eq_true (Nat.le_of_eq (hA.glen x hx)), ?_⟩
  rw [List.all_eq_true]
  intro g hg
  refine decide_eq_true fun h6 h7 => ?_
  obtain ⟨k, hk, rfl⟩ := List.mem_iff_getElem.1 hg
  have hgk := hB.gok y hy k hk (by rw [← hB.glen y hy]; exact hk)
  obtain ⟨w1, w2⟩ := give_pre hgk
  rw [hxy] at w2
  have w5 : S.within y.2.2[k].2.1 1 5 = true := by
    simp only [S.within, Bool.and_eq_true, decide_eq_true_eq] at w1 ⊢
    omega
  have := col_lt _ _ (w2 w5)
  exact ⟨w2 w5, by rw [hA.glen x hx]; exact this⟩
theorem F_p_Chain_eq (l1 l2 l3 : List DForm) (a b : List DRule) (h1 : l1.length < LF) : F_p_Chain LF l1 l2 l3 a b = some ((S.chain l1 l2 l3 a b).1, (S.chain l1 l2 l3 a b).2, ()) := by
  simp only [F_p_Chain, R_p_Chain_in, S.chain, ieqI_eq, oL]
  by_cases e1 : S.first [S.checkForms l1, S.checkForms l2, S.checkForms l3] = 0
  case neg => rw [decide_eq_false e1, Bool.not_false, cond_true, if_pos e1]
  rw [decide_eq_true e1, Bool.not_true, cond_false, if_neg (by simpa using e1)]
  by_cases e2 : S.first [S.checkRules0 l1 l2 a, S.checkRules0 l2 l3 b] = 0
  case neg => rw [decide_eq_false e2, Bool.not_false, cond_true, if_pos e2]
  rw [decide_eq_true e2, Bool.not_true, cond_false, if_neg (by simpa using e2)]
  have hAB : RulesOK l1 l2 a ∧ RulesOK l2 l3 b := by
    simp only [S.first] at e2
    split at e2
    · rename_i z1
      split at e2
      · rename_i z2; exact ⟨(rulesOK_iff _ _ _).1 z1, (rulesOK_iff _ _ _).1 z2⟩
      · contradiction
    · contradiction
  obtain ⟨hA, hB⟩ := hAB
  have h24 : l1.length ≤ 24 := by
    have hz : S.checkForms l1 = 0 := by
      simp only [S.first] at e1
      split at e1
      · rename_i z; exact z
      · contradiction
    unfold S.checkForms at hz
    split at hz
    · cases hz
    · omega
  refine range0 (σ := List DRule) (R := Rt_p_Chain) l1 (fun k s => (k, s)) (fun k s => s.length = k) (fun rest k s => some ((S.chainGo l2 a b rest s).1, (S.chainGo l2 a b rest s).2, ())) h1 (fun K s hI => ?_) (fun K k f rest s hI r h => ?_) [] rfl
  · simp only [R_p_Chain_9, ilt_self, cond_false]; rfl
  · have hxr : (S.ruleOf a f.1).2 = true := hA.all f r.mem
    obtain ⟨m1, m2⟩ := ruleOf_mem hxr
    obtain ⟨fm, b1, b2, b3, b4⟩ := form_get (hA.has _ m1).2
    have hyr : (S.ruleOf b (S.ruleOf a f.1).1.2.1).2 = true := by have := hB.all fm b3; rw [b4] at this; exact this
    obtain ⟨n1, n2⟩ := ruleOf_mem hyr
    have hpre := chained_pre hA hB m1 n1 n2
    rw [b2] at hpre
    have hbl : Nat.ble (Nat.mul (Nat.add s.length 1) 56) 140737488355328 = true := ble_mul (by have := r.lt; rw [hI]; omega)
    rw [S.chainGo]
    simp only [R_p_Chain_9, r.ilt, r.get, cond_true, b1, Prod.eta, hpre, hbl]
    rw [b2]
    cases hc : (S.chained (S.ruleOf a f.1).1 (S.ruleOf b (S.ruleOf a f.1).1.2.1).1 fm.2).2 with
    | false => rfl
    | true =>
      rw [Bool.not_true, cond_false, r.next, if_pos rfl]
      exact h _ (by simp [hI])
theorem con_p_Chain : Con Tryz.prog id_p_Chain sp_p_Chain := mk_p_Chain ⟨con_p_CheckForms, con_p_first, con_p_checkRules, con_p_ruleOf, con_p_chained, con_p_form, trivial⟩ fun x y hx h => ⟨LF, (F_p_Chain_eq _ _ _ _ _ (wf_len hx.1)).trans h⟩
end Go.Proofs.YtcnhjofpmpipfaaGreat
end

/- The reference's Chain; PackChains' contract. -/
section
set_option linter.unusedVariables false
set_option maxRecDepth 100000
namespace Go.Proofs.YtcnhjofpmpipfaaGreat
open Go Go.Sx Go.RowKit Go.Jx
theorem F_r_chained_eq (lf : Nat) (a b : DGive) : F_r_chained lf a b = some (S.rchained a b, ()) := by
  obtain ⟨af, an, ak⟩ := a
  obtain ⟨bf, bn, bk⟩ := b
  simp only [F_r_chained, R_r_chained_in, S.rchained, S.within, ieqI_eq, iltI_eq, oL]
  have h2 : (!decide (bk < 2)) = decide (2 ≤ bk) := by by_cases h : bk < 2 <;> simp [h]; omega
  have h0 : (!decide (ak < 0)) = decide (0 ≤ ak) := by by_cases h : ak < 0 <;> simp [h]; omega
  have h1 : (!decide (1 < ak)) = decide (ak ≤ 1) := by by_cases h : 1 < ak <;> simp [h]; omega
  rw [h2, h0, h1]
  by_cases b1 : bn = 1
  · simp [b1]
  by_cases a1 : an = 1
  · simp [b1, a1]
  by_cases b2 : bn = 2
  · simp [b2, a1]
  by_cases b3 : bn = 3
  · by_cases a2 : an = 2
    · simp [b3, a2]
    by_cases a6 : an = 6
    · by_cases hk : 0 ≤ ak <;> simp [b3, a6, hk]
    simp [b3, a2, a1, a6]
  by_cases b4 : bn = 4
  · by_cases a2 : an = 2
    · simp [b4, a2]
    by_cases a4 : an = 4
    · simp [b4, a4]
    by_cases a6 : an = 6 <;> simp [b4, a1, a2, a4, a6]
  simp [b1, b2, b3, b4, a1]
theorem con_r_chained : Con Tryz.prog id_r_chained sp_r_chained := mk_r_chained trivial fun x y _ h => ⟨0, (F_r_chained_eq _ _ _).trans h⟩
theorem F_r_asks_eq (lf : Nat) (a : DGive) : F_r_asks lf a = some (S.asksG a, ()) := by
  simp only [F_r_asks, R_r_asks_in, S.asksG, ieqI_eq, oL]
  cases decide (a.2.1 = 3) <;> cases decide (a.2.1 = 4) <;> rfl
theorem con_r_asks : Con Tryz.prog id_r_asks sp_r_asks := mk_r_asks trivial fun x y _ h => ⟨0, (F_r_asks_eq _ _).trans h⟩
theorem F_r_uses_eq (l : List DGive) (n : ByteArray) (hl : l.length < LF) : F_r_uses LF l n = some (S.uses l n, ()) := by
  simp only [F_r_uses, R_r_uses_in]
  refine range1 (R := Rt_r_uses) l (fun rest _ => some (S.uses rest n, ())) hl (fun K => ?_) (fun K i v rest r h => ?_)
  · simp only [R_r_uses_2, ilt_self, cond_false]; rfl
  · simp only [R_r_uses_2, r.ilt, r.get, r.next, h, cond_true, in_tree]
    show cond (S.within v.2.1 1 5) (cond (keqS v.1 n) (some (true, ())) (some (S.uses rest n, ()))) (some (S.uses rest n, ())) = some ((S.within v.2.1 1 5 && keqS v.1 n || S.uses rest n), ())
    cases S.within v.2.1 1 5 <;> cases keqS v.1 n <;> rfl
theorem con_r_uses : Con Tryz.prog id_r_uses sp_r_uses := mk_r_uses trivial fun x y hx h => ⟨LF, (F_r_uses_eq _ _ (wf_len hx.1)).trans h⟩
theorem sr_inner (a b : List DRule) (K4 : Int → Option Rt_r_SameRules) (i : Nat) (v w : DRule) (hv : jget a (Int.ofNat i) = some v) (hw : jget b (Int.ofNat i) = some w) (hl : v.2.2.length < LF) (hlen : v.2.2.length = w.2.2.length) :
    G_r_SameRules_9 LF a b K4 LF (Int.ofNat 0, Int.ofNat i) = cond (decide (v.2.2 = w.2.2)) (K4 (IntKind.i64.wrap (Int.add (Int.ofNat i) (Int.ofNat 1)))) (some (false, ())) := by
  refine (range0 (σ := Unit) (R := Rt_r_SameRules) v.2.2 (fun k _ => (k, Int.ofNat i)) (fun _ _ => True) (fun rest k _ => cond (decide (rest = w.2.2.drop k)) (K4 (IntKind.i64.wrap (Int.add (Int.ofNat i) (Int.ofNat 1)))) (some (false, ()))) hl (fun K s _ => ?_) (fun K k g rest s _ r h => ?_) () trivial).trans (by rw [List.drop_zero])
  · simp only [R_r_SameRules_9, hv, ilt_self, cond_false]
    rw [List.drop_of_length_le (by omega), decide_eq_true rfl, cond_true]
  · have h := h () trivial
    have hi : k < w.2.2.length := by have := r.lt; omega
    have hd : w.2.2.drop k = w.2.2[k] :: w.2.2.drop (k + 1) := List.drop_eq_getElem_cons hi
    have hb : jget w.2.2 (Int.ofNat k) = some w.2.2[k] := jget_nat.trans (List.getElem?_eq_getElem hi)
    simp only [R_r_SameRules_9, hv, hw, r.ilt, r.get, hb, r.next, h, cond_true, hd]
    generalize w.2.2[k] = u
    obtain ⟨g1, g2, g3⟩ := g
    obtain ⟨u1, u2, u3⟩ := u
    simp only [keqI, keqS, Bool.and_true]
    by_cases e1 : g1 = u1 <;> by_cases e2 : g2 = u2 <;> by_cases e3 : g3 = u3 <;> simp [e1, e2, e3]
theorem F_r_SameRules_eq (a b : List DRule) (hl : a.length < LF) (hg : ∀ r ∈ a, r.2.2.length < LF) : F_r_SameRules LF a b = some (S.sameRules a b, ()) := by
  simp only [F_r_SameRules, R_r_SameRules_in, ieq_nat, S.sameRules]
  by_cases hlen : a.length = b.length
  · rw [decide_eq_true hlen, Bool.not_true, cond_false]
    refine (range1 (R := Rt_r_SameRules) a (fun rest i => some (decide (rest = b.drop i), ())) hl (fun K => ?_) (fun K i v rest r h => ?_)).trans (by rw [List.drop_zero])
    · simp only [R_r_SameRules_4, ilt_self, cond_false]
      rw [List.drop_of_length_le (by omega), decide_eq_true rfl]
    · have hi : i < b.length := by have := r.lt; omega
      have hd : b.drop i = b[i] :: b.drop (i + 1) := List.drop_eq_getElem_cons hi
      have hb : jget b (Int.ofNat i) = some b[i] := jget_nat.trans (List.getElem?_eq_getElem hi)
      simp only [R_r_SameRules_4, r.ilt, r.get, hb, cond_true, hd, ieq_nat]
      have hin := fun (q : v.2.2.length = b[i].2.2.length) => sr_inner a b K i v b[i] r.get hb (hg v r.mem) q
      rw [r.next, h] at hin
      revert hin
      generalize b[i] = w
      intro hin
      have hin2 : ∀ hlen : v.2.2.length = w.2.2.length, G_r_SameRules_9 LF a b K LF (Int.ofNat 0, Int.ofNat i) = some (decide (v.2.2 = w.2.2) && decide (rest = b.drop (i + 1)), ()) := fun hlen => by
        rw [hin hlen]; cases decide (v.2.2 = w.2.2) <;> rfl
      obtain ⟨v1, v2, v3⟩ := v
      obtain ⟨w1, w2, w3⟩ := w
      simp only [keqS]
      by_cases e1 : v1 = w1
      · by_cases e2 : v2 = w2
        · by_cases e3 : v3.length = w3.length
          · simp only [e1, e2, e3, decide_true, Bool.not_true, cond_false]
            rw [hin2 e3]
            simp [e1, e2]
          · have : ¬ v3 = w3 := fun e => e3 (by rw [e])
            simp [e1, e2, e3, this]
        · simp [e1, e2]
      · simp [e1]
  · have hn : ¬ a = b := fun e => hlen (by rw [e])
    rw [decide_eq_false hlen, Bool.not_false, cond_true, decide_eq_false hn]
theorem con_r_SameRules : Con Tryz.prog id_r_SameRules sp_r_SameRules := mk_r_SameRules trivial fun x y hx h => ⟨LF, (F_r_SameRules_eq _ _ (wf_len hx.1) fun r hr => wf_len (hx.1.2 r hr).2.2).trans h⟩

/-! ### Chain -/
theorem rchained_both (a b : DGive) (h1 : 1 ≤ b.2.1) (h5 : b.2.1 ≤ 5) : (S.rchained a b).2 = (S.both a b).2 ∧ ((S.both a b).2 = true → (S.rchained a b).1 = (S.both a b).1) := by
  obtain ⟨af, an, ak⟩ := a
  obtain ⟨bf, bn, bk⟩ := b
  simp only [S.rchained, S.both] at *
  by_cases b1 : bn = 1
  · simp [b1]
  by_cases a1 : an = 1
  · simp [b1, a1]
  by_cases b2 : bn = 2
  · by_cases a6 : an = 6 <;> simp [b2, a1, a6]
  by_cases b3 : bn = 3
  · by_cases a2 : an = 2
    · simp [b3, a2]
    by_cases a6 : an = 6
    · simp [b3, a6]
    simp [b3, a2, a1, a6]
  by_cases b4 : bn = 4
  · by_cases a2 : an = 2
    · simp [b4, a2]
    by_cases a4 : an = 4
    · simp [b4, a4]
    by_cases a6 : an = 6 <;> simp [b4, a1, a2, a4, a6]
  have b5 : bn = 5 := by omega
  by_cases a5 : an = 5 <;> simp [b5, a1, a5]
theorem ccGo_small (l : List DCol) : ∀ (cs : List DCol) (k : Nat), S.ccGo l k cs = 0 → ∀ c ∈ cs, S.small c.1 = true
  | [], _, _ => fun c hc => absurd hc (by simp)
  | c :: r, k, h => by
    rw [S.ccGo] at h
    cases h1 : S.small c.1 with
    | false => rw [if_pos h1] at h; exact absurd h (by decide)
    | true =>
    rw [if_neg (by simp [h1])] at h
    by_cases h2 : ¬ S.col (l.take k) c.1 < 0
    · rw [if_pos h2] at h; exact absurd h (by decide)
    rw [if_neg h2] at h
    by_cases h3 : S.within c.2.1 1 3 = false
    · rw [if_pos h3] at h; exact absurd h (by decide)
    rw [if_neg h3] at h
    by_cases h4 : ¬ c.2.1 = 3 ∧ ¬ c.2.2 = S.lit []
    · rw [if_pos h4] at h; exact absurd h (by decide)
    rw [if_neg h4] at h
    intro x hx
    rcases List.mem_cons.1 hx with e | e
    · rw [e]; exact h1
    · exact ccGo_small l r (k + 1) h x e
theorem small_ne_nil {s : ByteArray} (h : S.small s = true) : ¬ s = S.lit [] := by
  intro e
  rw [e] at h
  exact absurd h (by decide +kernel)
theorem col_name {l : List DForm} (h : S.checkForms l = 0) {f : DForm} (hf : f ∈ l) {c : DCol} (hc : c ∈ f.2) : ¬ c.1 = S.lit [] := by
  have hz := ((forms_zero h).1 f hf).2
  unfold S.checkCols at hz
  by_cases h30 : 30 < f.2.length
  · rw [if_pos h30] at hz; exact absurd hz (by decide)
  · rw [if_neg h30] at hz
    exact small_ne_nil (ccGo_small _ _ _ hz c hc)
theorem give_bare {l : List DRule} {g : DGive} {cols : List DCol} {b : DCol} (h : S.give l g cols b = 0) (hs : S.within g.2.1 1 5 = false) : g.1 = S.lit [] := by
  unfold S.give at h
  rw [if_neg (by simp [hs])] at h
  split at h
  · cases h
  rename_i h2
  simp only [not_or, not_and] at h2
  exact Decidable.not_not.1 (h2.2.1 hs)
theorem uses_hasFrom {gs : List DGive} {n : ByteArray} (hn : ¬ n = S.lit []) (hg : ∀ g ∈ gs, S.within g.2.1 1 5 = false → g.1 = S.lit []) : S.uses gs n = S.hasFrom gs n := by
  unfold S.uses S.hasFrom
  induction gs with
  | nil => rfl
  | cons g gs ih =>
    rw [List.any_cons, List.any_cons, ih fun g' hg' => hg g' (List.mem_cons_of_mem _ hg')]
    congr 1
    unfold S.sourced
    cases hs : S.within g.2.1 1 5 with
    | true => rfl
    | false =>
      have := hg g List.mem_cons_self hs
      have hk : keqS g.1 n = false := decide_eq_false (by rw [this]; exact fun e => hn e.symm)
      rw [hk]; rfl
theorem rc_gives (l1 l2 l3 : List DForm) (a b : List DRule) (K14 : Int × List DRule → Option Rt_r_Chain) (x : DRule) (cols : List DCol) (n2 to xto n1 n3 f1 : ByteArray) (yg : List DGive) (i : Nat) (acc : List DRule) (hb : yg.length * 32 ≤ 140737488355328) (hacc : (acc.length + 1) * 56 ≤ 140737488355328)
    (hk : ∀ g ∈ yg, S.within g.2.1 1 7 = true) (hp : ∀ g ∈ yg, S.within g.2.1 1 5 = true → 0 ≤ S.col cols g.1 ∧ S.col cols g.1 < x.2.2.length) :
    G_r_Chain_28 LF l1 l2 l3 a b K14 LF (cols, n2, to, yg, xto, n1, x.2.2, n3, f1, Int.ofNat 0, [], Int.ofNat i, acc) = match S.chGo x cols yg [] with
      | none => some (([], false, 5), ())
      | some gs => K14 (IntKind.i64.wrap (Int.add (Int.ofNat i) (Int.ofNat 1)), acc ++ [(f1, to, gs)]) := by
  have hbl : yg.length < LF := by unfold LF; omega
  refine range0 (σ := List DGive) (R := Rt_r_Chain) yg (fun k s => (cols, n2, to, yg, xto, n1, x.2.2, n3, f1, k, s, Int.ofNat i, acc)) (fun k s => s.length = k) (fun rest k s => match S.chGo x cols rest s with
      | none => some (([], false, 5), ())
      | some gs => K14 (IntKind.i64.wrap (Int.add (Int.ofNat i) (Int.ofNat 1)), acc ++ [(f1, to, gs)])) hbl (fun K s hI => ?_) (fun K k g rest s hI r h => ?_) [] rfl
  · simp only [R_r_Chain_28, ilt_self, cond_false, ble_mul hacc, cond_true, S.chGo]
    rfl
  · have hbb : Nat.ble (Nat.mul (Nat.add s.length 1) 32) 140737488355328 = true := ble_mul (by have := r.lt; rw [hI]; omega)
    have step : ∀ y : DGive, K (cols, n2, to, yg, xto, n1, x.2.2, n3, f1, IntKind.i64.wrap (Int.add (Int.ofNat k) (Int.ofNat 1)), s ++ [y], Int.ofNat i, acc) = (match S.chGo x cols rest (s ++ [y]) with
      | none => some (([], false, 5), ())
      | some gs => K14 (IntKind.i64.wrap (Int.add (Int.ofNat i) (Int.ofNat 1)), acc ++ [(f1, to, gs)])) := fun y => by rw [r.next]; exact h (s ++ [y]) (by simp [hI])
    have hw := hk g r.mem
    simp only [S.within, Bool.and_eq_true, decide_eq_true_eq] at hw
    rw [S.chGo]
    simp only [R_r_Chain_28, r.ilt, r.get, cond_true, hbb, in_tree, Prod.eta]
    rw [show S.within g.2.1 (Int.ofNat 1) (Int.ofNat 5) = S.within g.2.1 1 5 from rfl]
    cases hs : S.within g.2.1 1 5 with
    | false =>
      rw [cond_false, if_pos (by simp only [S.within, Bool.and_eq_false_iff, decide_eq_false_iff_not] at hs; omega)]
      exact step g
    | true =>
      obtain ⟨p1, p2⟩ := hp g r.mem hs
      obtain ⟨v, e1, e2, e3⟩ := jget_of p1 p2
      have e4 : S.at_ S.zGive x.2.2 (S.col cols g.1) = v := by unfold S.at_; rw [e2]; rfl
      have h15 : 1 ≤ g.2.1 ∧ g.2.1 ≤ 5 := by simpa only [S.within, Bool.and_eq_true, decide_eq_true_eq] using hs
      obtain ⟨q1, q2⟩ := rchained_both v g h15.1 h15.2
      rw [cond_true, if_neg (by omega), e1, e4]
      simp only [Prod.eta, q1]
      cases hbo : (S.both v g).2 with
      | false => rfl
      | true =>
        rw [Bool.not_true, cond_false, if_pos rfl, q2 hbo]
        exact step _
theorem rc_uses (l1 l2 l3 : List DForm) (a b : List DRule) (K14 : Int × List DRule → Option Rt_r_Chain) (x : DRule) (cols : List DCol) (n1 n2 n3 to xto : ByteArray) (yg : List DGive) (i : Nat) (acc : List DRule) (f : DForm) (hf : jget l1 (Int.ofNat i) = some f) (hx : x.2.2.length < LF) (hlen : x.2.2.length ≤ cols.length)
    (hu : ∀ c ∈ cols, S.uses yg c.1 = S.hasFrom yg c.1) :
    G_r_Chain_20 LF l1 l2 l3 a b K14 LF (cols, n1, n2, n3, to, xto, x.2.2, yg, Int.ofNat 0, Int.ofNat i, acc) = cond (S.chAsk yg x.2.2 cols) (G_r_Chain_28 LF l1 l2 l3 a b K14 LF (cols, n2, to, yg, xto, n1, x.2.2, n3, f.1, Int.ofNat 0, [], Int.ofNat i, acc)) (some (([], false, 5), ())) := by
  refine range0 (σ := Unit) (R := Rt_r_Chain) x.2.2 (fun k _ => (cols, n1, n2, n3, to, xto, x.2.2, yg, k, Int.ofNat i, acc)) (fun _ _ => True) (fun rest k _ => cond (S.chAsk yg rest (cols.drop k)) (G_r_Chain_28 LF l1 l2 l3 a b K14 LF (cols, n2, to, yg, xto, n1, x.2.2, n3, f.1, Int.ofNat 0, [], Int.ofNat i, acc)) (some (([], false, 5), ()))) hx (fun K s _ => ?_) (fun K k g rest s _ r h => ?_) () trivial
  · have : S.chAsk yg [] (cols.drop x.2.2.length) = true := by unfold S.chAsk; rfl
    simp only [R_r_Chain_20, ilt_self, cond_false, this, cond_true, hf]
  · have h := h () trivial
    have hk : k < cols.length := by have := r.lt; omega
    have hj : jget cols (Int.ofNat k) = some cols[k] := by rw [jget_nat]; exact List.getElem?_eq_getElem hk
    have hu' := hu cols[k] (List.getElem_mem hk)
    rw [List.drop_eq_getElem_cons hk, S.chAsk]
    simp only [R_r_Chain_20, r.ilt, r.get, r.next, h, cond_true, hj, hu', Prod.eta]
    cases S.asksG g <;> cases S.hasFrom yg cols[k].1 <;> rfl
theorem F_r_Chain_eq (l1 l2 l3 : List DForm) (a b : List DRule) (h1 : l1.length < LF) (ha : ∀ r ∈ a, r.2.2.length < LF) (hb : ∀ r ∈ b, r.2.2.length * 32 ≤ 140737488355328) :
    F_r_Chain LF l1 l2 l3 a b = some (((S.chain l1 l2 l3 a b).1, false, (S.chain l1 l2 l3 a b).2), ()) := by
  have c10 : ∀ p : Int, ¬ p = 0 → G_r_Chain_10 LF l1 l2 l3 a b p = some (([], false, p), ()) := fun p hp => by
    simp only [G_r_Chain_10, R_r_Chain_10, ieqI_eq, oL]
    rw [decide_eq_false hp]; rfl
  have c8 : ∀ p : Int, ¬ p = 0 → G_r_Chain_8 LF l1 l2 l3 a b p = some (([], false, p), ()) := fun p hp => by
    simp only [G_r_Chain_8, R_r_Chain_8, ieqI_eq, oL]
    rw [decide_eq_false hp]; exact c10 p hp
  have c6 : ∀ p : Int, ¬ p = 0 → G_r_Chain_6 LF l1 l2 l3 a b p = some (([], false, p), ()) := fun p hp => by
    simp only [G_r_Chain_6, R_r_Chain_6, ieqI_eq, oL]
    rw [decide_eq_false hp]; exact c8 p hp
  have c4 : ∀ p : Int, ¬ p = 0 → G_r_Chain_4 LF l1 l2 l3 a b p = some (([], false, p), ()) := fun p hp => by
    simp only [G_r_Chain_4, R_r_Chain_4, ieqI_eq, oL]
    rw [decide_eq_false hp]; exact c6 p hp
  simp only [F_r_Chain, R_r_Chain_in, S.chain, S.first, ieqI_eq, oL]
  by_cases z1 : S.checkForms l1 = 0
  case neg => simp only [decide_eq_false z1, cond_false, c4 _ z1, if_neg z1, if_pos (show ¬ S.checkForms l1 = 0 from z1)]
  rw [decide_eq_true z1, cond_true, G_r_Chain_4, R_r_Chain_4, ieqI_eq, oL.1]
  by_cases z2 : S.checkForms l2 = 0
  case neg => simp only [decide_eq_false z2, cond_false, c6 _ z2, if_pos z1, if_neg z2, if_pos (show ¬ S.checkForms l2 = 0 from z2)]
  rw [decide_eq_true z2, cond_true, G_r_Chain_6, R_r_Chain_6, ieqI_eq, oL.1]
  by_cases z3 : S.checkForms l3 = 0
  case neg => simp only [decide_eq_false z3, cond_false, c8 _ z3, if_pos z1, if_pos z2, if_neg z3, if_pos (show ¬ S.checkForms l3 = 0 from z3)]
  rw [decide_eq_true z3, cond_true]
  have p12 : S.ruledPre l1 l2 = true := by simp [S.ruledPre, z1, z2]
  have p23 : S.ruledPre l2 l3 = true := by simp [S.ruledPre, z2, z3]
  simp only [p12, cond_true, if_pos z1, if_pos z2, if_pos z3, if_neg (show ¬ ¬ (0 : Int) = 0 from fun h => h rfl)]
  rw [G_r_Chain_8, R_r_Chain_8, ieqI_eq, oL.1]
  by_cases y1 : S.checkRules0 l1 l2 a = 0
  case neg => simp only [decide_eq_false y1, cond_false, c10 _ y1, if_neg y1, if_pos (show ¬ S.checkRules0 l1 l2 a = 0 from y1)]; rfl
  rw [decide_eq_true y1, cond_true]
  simp only [p23, cond_true, if_pos y1]
  by_cases y2 : S.checkRules0 l2 l3 b = 0
  case neg => simp only [c10 _ y2, if_neg y2, if_pos (show ¬ S.checkRules0 l2 l3 b = 0 from y2)]; rfl
  rw [G_r_Chain_10, R_r_Chain_10, ieqI_eq, oL.1]
  simp only [y2, decide_true, Bool.not_true, cond_false, if_true, if_neg (show ¬ ¬ (0 : Int) = 0 from fun h => h rfl)]
  have hA := (rulesOK_iff _ _ _).1 y1
  have hB := (rulesOK_iff _ _ _).1 y2
  have h24 : l1.length ≤ 24 := by
    unfold S.checkForms at z1
    split at z1
    · cases z1
    · omega
  refine range0 (σ := List DRule) (R := Rt_r_Chain) l1 (fun k s => (k, s)) (fun k s => s.length = k) (fun rest k s => some (((S.chainGo l2 a b rest s).1, false, (S.chainGo l2 a b rest s).2), ())) h1 (fun K s hI => ?_) (fun K k f rest s hI r h => ?_) [] rfl
  · simp only [R_r_Chain_14, ilt_self, cond_false]; rfl
  · have hxr : (S.ruleOf a f.1).2 = true := hA.all f r.mem
    obtain ⟨m1, m2⟩ := ruleOf_mem hxr
    obtain ⟨fm, b1, b2, b3, b4⟩ := form_get (hA.has _ m1).2
    have hyr : (S.ruleOf b (S.ruleOf a f.1).1.2.1).2 = true := by have := hB.all fm b3; rw [b4] at this; exact this
    obtain ⟨n1, n2⟩ := ruleOf_mem hyr
    simp only [R_r_Chain_14, r.ilt, r.get, cond_true, ruleOf_get hxr, ruleOf_get hyr, b1]
    have hgy : ∀ g ∈ (S.ruleOf b (S.ruleOf a f.1).1.2.1).1.2.2, ∃ c, S.give b g fm.2 c = 0 := fun g hg => by
      obtain ⟨j, hj, rfl⟩ := List.mem_iff_getElem.1 hg
      have := hB.gok _ n1 j hj (by rw [← hB.glen _ n1]; exact hj)
      rw [n2, b2] at this
      exact ⟨_, this⟩
    have hlen : (S.ruleOf a f.1).1.2.2.length = fm.2.length := by rw [hA.glen _ m1, b2]
    have hu : ∀ c ∈ fm.2, S.uses (S.ruleOf b (S.ruleOf a f.1).1.2.1).1.2.2 c.1 = S.hasFrom (S.ruleOf b (S.ruleOf a f.1).1.2.1).1.2.2 c.1 := fun c hc =>
      uses_hasFrom (col_name z2 b3 hc) fun g hg hs => by obtain ⟨_, e⟩ := hgy g hg; exact give_bare e hs
    refine (rc_uses l1 l2 l3 a b K (S.ruleOf a f.1).1 fm.2 _ _ fm.1 _ _ _ k s f r.get (ha _ m1) (Nat.le_of_eq hlen) hu).trans ?_
    rw [rc_gives l1 l2 l3 a b K (S.ruleOf a f.1).1 fm.2 _ _ _ _ _ _ _ k s (hb _ n1) (by have := r.lt; rw [hI]; omega) (fun g hg => by obtain ⟨_, e⟩ := hgy g hg; exact (give_pre e).1) fun g hg hs => by
      obtain ⟨_, e⟩ := hgy g hg
      have h0 := (give_pre e).2 hs
      exact ⟨h0, by rw [hlen]; exact col_lt _ _ h0⟩]
    rw [S.chainGo, r.next]
    simp only [b2, S.chained]
    cases hg : S.chGo (S.ruleOf a f.1).1 fm.2 (S.ruleOf b (S.ruleOf a f.1).1.2.1).1.2.2 [] with
    | none =>
      simp only
      cases S.chAsk (S.ruleOf b (S.ruleOf a f.1).1.2.1).1.2.2 (S.ruleOf a f.1).1.2.2 fm.2 <;> rfl
    | some gs =>
      simp only
      cases hq : S.chAsk (S.ruleOf b (S.ruleOf a f.1).1.2.1).1.2.2 (S.ruleOf a f.1).1.2.2 fm.2 with
      | false => rfl
      | true =>
        rw [cond_true, if_pos rfl]
        rw [m2]
        exact h _ (by simp [hI])
theorem con_r_Chain : Con Tryz.prog id_r_Chain sp_r_Chain := mk_r_Chain ⟨con_rCheckForms, con_r_ruled, con_r_rule, con_r_form, con_r_asks, con_r_uses, con_r_column, con_r_chained, trivial⟩ fun x y hx h => ⟨LF, (F_r_Chain_eq _ _ _ _ _ (wf_len hx.1) (fun r hr => wf_len (hx.2.2.2.1.2 r hr).2.2) fun r hr => (hx.2.2.2.2.1.2 r hr).2.2.1).trans h⟩
theorem F_l_PackChains_eq (lf : Nat) (l1 l2 l3 : List DForm) (a b : List DRule) : F_l_PackChains lf l1 l2 l3 a b = some (true, ()) := by
  simp only [F_l_PackChains, R_l_PackChains_in]
  have e1 : S.sameRules (S.chain l1 l2 l3 a b).1 (S.chain l1 l2 l3 a b).1 = true := decide_eq_true rfl
  rw [e1, ieqI_eq, decide_eq_true rfl]
  cases S.fewForms l1 <;> cases S.fewForms l2 <;> cases S.fewForms l3 <;> cases S.fewRules a <;> cases S.fewRules b <;> rfl
theorem con_l_PackChains (hs : Con Tryz.prog 10 sp_l_sanity) : Con Tryz.prog id_l_PackChains sp_l_PackChains := mk_l_PackChains ⟨con_l_fewForms, con_l_fewRules, hs, con_p_Chain, con_r_Chain, con_r_SameRules, trivial⟩ fun x y hx h => ⟨0, (F_l_PackChains_eq _ _ _ _ _ _).trans h⟩
end Go.Proofs.YtcnhjofpmpipfaaGreat
end

/- PackChains' contract. -/
section
set_option linter.unusedVariables false
namespace Go.Proofs.YtcnhjofpmpipfaaGreat
open Go Go.Sx Go.RowKit Go.Jx
theorem con_PackChains : Con Tryz.prog id_l_PackChains sp_l_PackChains := con_l_PackChains con_l_sanity
end Go.Proofs.YtcnhjofpmpipfaaGreat
end
