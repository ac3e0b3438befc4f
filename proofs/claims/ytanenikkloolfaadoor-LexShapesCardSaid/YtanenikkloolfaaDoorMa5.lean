/- Texts: Xg2, Xp2, Xp3, Xp4, Xsan, Xl1. -/
import Derived.Test.YtanenikkloolfaaDoorMa4
/- Made by program: plain forms of functions. -/
section
set_option linter.unusedVariables false
set_option maxRecDepth 100000
noncomputable section
namespace Go.Proofs.YtanenikkloolfaaDoor
open Go Go.Sx Go.RowKit Go.Jx
def nm_slices_Contains_string : Nat → Option Nm := fun k => none
def st_slices_Contains_string : Nat → Bool := fun k => false
def hd_slices_Contains_string : Nat → Bool := fun k => false
abbrev Rt_slices_Contains_string : Type := Bool × Unit
def sml_slices_Contains_string : List (Nat × Sm) := [(116, sp_slices_Index_string)]
def hxl_slices_Contains_string : List (Nat × Hx) := []
def cl_slices_Contains_string (R : Type) (lf : Nat) : ClK R := icallK Tryd.prog ttT.get ftT.get (nm1 97 nm_slices_Contains_string) (smL sml_slices_Contains_string) (hxL hxl_slices_Contains_string) lf 20 R
abbrev id_slices_Contains_string : Nat := 97
def R_slices_Contains_string_in (lf : Nat) (x1 : (List ByteArray)) (x2 : ByteArray) : Option Rt_slices_Contains_string := (some ((Bool.not (iltI (S.idx (fun v0 => (keqS x2 v0)) x1) (Int.ofNat 0))), ()))
theorem in_slices_Contains_string (g : ElA [(.list .str), .str] → Option Rt_slices_Contains_string) (J : Nat → List Nat → NRes → Option Rt_slices_Contains_string) (lf : Nat) (x1 : (List ByteArray)) (x2 : ByteArray) : icodeT Tryd.prog ttT.get nm_slices_Contains_string fi97.nt (cl_slices_Contains_string _ lf) lf st_slices_Contains_string J fi97.body [] (argGo (argV [(.list .str), .str] (x1, x2, ())) 0 .leaf) S0 [] (lastK ttT.get fi97 ⟨[(.list .str), .str], [(false, .bool)], g⟩) = R_slices_Contains_string_in lf x1 x2 := by kernel_rfl
theorem nd_slices_Contains_string : (regs fi97.body).Nodup := by decide +kernel
theorem ok_slices_Contains_string : okC nm_slices_Contains_string st_slices_Contains_string hd_slices_Contains_string fi97.body none = true := by kernel_rfl
def A_slices_Contains_string (g : ElA [(.list .str), .str] → Option Rt_slices_Contains_string) (lf : Nat) : Nat → List Nat → NRes → Option Rt_slices_Contains_string := atN Tryd.prog ttT.get nm_slices_Contains_string fi97 ⟨[(.list .str), .str], [(false, .bool)], g⟩ (cl_slices_Contains_string _ lf) lf hd_slices_Contains_string
def F_slices_Contains_string (lf : Nat) (x1 : (List ByteArray)) (x2 : ByteArray) : Option Rt_slices_Contains_string := R_slices_Contains_string_in lf x1 x2
theorem run_slices_Contains_string (g : ElA [(.list .str), .str] → Option Rt_slices_Contains_string) (lf : Nat) (x1 : (List ByteArray)) (x2 : ByteArray) : icodeT Tryd.prog ttT.get nm_slices_Contains_string fi97.nt (cl_slices_Contains_string _ lf) lf st_slices_Contains_string (A_slices_Contains_string g lf) fi97.body [] (argGo (argV [(.list .str), .str] (x1, x2, ())) 0 .leaf) S0 [] (lastK ttT.get fi97 ⟨[(.list .str), .str], [(false, .bool)], g⟩) = F_slices_Contains_string lf x1 x2 := by
    refine (in_slices_Contains_string g (A_slices_Contains_string g lf) lf x1 x2).trans ?_
    rfl
theorem hxs_slices_Contains_string : HxsOK Tryd.prog hxl_slices_Contains_string := trivial
theorem mk_slices_Contains_string {g : ElA [(.list .str), .str] → Option Rt_slices_Contains_string} (hsm : SmOK Tryd.prog sml_slices_Contains_string) (hg : ∀ (x : ElA [(.list .str), .str]) (y : Rt_slices_Contains_string), WfA [(.list .str), .str] x → g x = some y → ∃ lf, F_slices_Contains_string lf x.1 x.2.1 = some y) : Con Tryd.prog 97 ⟨[(.list .str), .str], [(false, .bool)], g⟩ :=
  conT (nmf := nm_slices_Contains_string) (sml := sml_slices_Contains_string) (hxl := hxl_slices_Contains_string) (st := st_slices_Contains_string) (hd := hd_slices_Contains_string) 20 mixed ttOK ftOK hsm hxs_slices_Contains_string cal97 rfl rfl (by kernel_rfl) (fun x => by kernel_rfl) nd_slices_Contains_string ok_slices_Contains_string fun x y hx hy => by
    obtain ⟨lf, h⟩ := hg x y hx hy
    exact ⟨lf, (run_slices_Contains_string g lf x.1 x.2.1).trans h⟩
def nm_x_number : Nat → Option Nm := fun k => cond (Nat.beq k 5) (some ⟨[0, 4, 20, 21], [], [], [], [], 0, 0, false⟩) (none)
def st_x_number : Nat → Bool := fun k => cond (Nat.beq k 5) true (false)
def hd_x_number : Nat → Bool := fun k => cond (Nat.beq k 5) true (false)
abbrev Rt_x_number : Type := Int × Int × Unit
def sml_x_number : List (Nat × Sm) := []
def hxl_x_number : List (Nat × Hx) := [(92, hxR sp_x_only_digit)]
def cl_x_number (R : Type) (lf : Nat) : ClK R := icallK Tryd.prog ttT.get ftT.get (nm1 61 nm_x_number) (smL sml_x_number) (hxL hxl_x_number) lf 20 R
abbrev id_x_number : Nat := 61
def enc_x_number_5 (x1 : ByteArray) (p : Int × Int) : NRes := (NRes.mk (PT.node (some (IV.str x1)) (PT.node none PT.leaf (PT.node none PT.leaf (PT.node none (PT.node (some (IV.int Go.IntKind.i64 p.1)) PT.leaf PT.leaf) PT.leaf))) (PT.node none (PT.node (some (IV.int Go.IntKind.i64 p.2)) PT.leaf (PT.node none (PT.node (some (IV.int Go.IntKind.i64 (Int.ofNat (ByteArray.size x1)))) PT.leaf PT.leaf) PT.leaf)) PT.leaf)) (IS.mk PT.leaf 0) [] 0)
def R_x_number_in (lf : Nat) (x1 : ByteArray) (L5 : (Int × Int) → Option Rt_x_number) : Option Rt_x_number := (cond (Bool.not (Go.Proofs.YtanenikkloolfaaDoor.S.digs x1)) (some ((Int.ofNat 0), ((Int.ofNat 2), ()))) (cond (iltI (Int.ofNat 1) (Int.ofNat (ByteArray.size x1))) (match (jget (byteList x1) (Int.ofNat 0)) with | .none  => none | .some v0 => (cond (ieqI v0 (Int.ofNat 48)) (some ((Int.ofNat 0), ((Int.ofNat 2), ()))) (L5 ((Int.ofNat 0), (Int.ofNat 0))))) (L5 ((Int.ofNat 0), (Int.ofNat 0)))))
def R_x_number_5 (lf : Nat) (x1 : ByteArray) (L5 : (Int × Int) → Option Rt_x_number) (p : Int × Int) : Option Rt_x_number := (cond (iltI p.1 (Int.ofNat (ByteArray.size x1))) (match (jget (byteList x1) p.1) with | .none  => none | .some v0 => (cond (iltI (Int.ofNat 1099511627776) (Go.IntKind.wrap Go.IntKind.i64 (Int.add (Go.IntKind.wrap Go.IntKind.i64 (Int.mul (Int.ofNat 10) p.2)) (Go.IntKind.wrap Go.IntKind.i64 (Go.IntKind.wrap Go.IntKind.u8 (Int.sub v0 (Int.ofNat 48))))))) (some ((Int.ofNat 0), ((Int.ofNat 3), ()))) (L5 ((Go.IntKind.wrap Go.IntKind.i64 (Int.add p.1 (Int.ofNat 1))), (Go.IntKind.wrap Go.IntKind.i64 (Int.add (Go.IntKind.wrap Go.IntKind.i64 (Int.mul (Int.ofNat 10) p.2)) (Go.IntKind.wrap Go.IntKind.i64 (Go.IntKind.wrap Go.IntKind.u8 (Int.sub v0 (Int.ofNat 48)))))))))) (some (p.2, ((Int.ofNat 0), ()))))
theorem in_x_number (g : ElA [.str] → Option Rt_x_number) (J : Nat → List Nat → NRes → Option Rt_x_number) (lf : Nat) (x1 : ByteArray) : icodeT Tryd.prog ttT.get nm_x_number fi61.nt (cl_x_number _ lf) lf st_x_number J fi61.body [] (argGo (argV [.str] (x1, ())) 0 .leaf) S0 [] (lastK ttT.get fi61 ⟨[.str], [(false, (.int .i64)), (false, (.int .i64))], g⟩) = R_x_number_in lf x1 (fun q => J 5 [lf] (enc_x_number_5 x1 q)) := by kernel_rfl
theorem st_x_number_5 (g : ElA [.str] → Option Rt_x_number) (J : Nat → List Nat → NRes → Option Rt_x_number) (lf : Nat) (x1 : ByteArray) (m1 : Nat) (p : Int × Int) : icodeFT Tryd.prog ttT.get nm_x_number fi61.nt (cl_x_number _ lf) lf st_x_number J 5 fi61.body [] [m1] (enc_x_number_5 x1 p) (lastK ttT.get fi61 ⟨[.str], [(false, (.int .i64)), (false, (.int .i64))], g⟩) = R_x_number_5 lf x1 (fun q => J 5 [m1] (enc_x_number_5 x1 q)) p := by kernel_rfl
theorem nd_x_number : (regs fi61.body).Nodup := by decide +kernel
theorem ok_x_number : okC nm_x_number st_x_number hd_x_number fi61.body none = true := by kernel_rfl
def A_x_number (g : ElA [.str] → Option Rt_x_number) (lf : Nat) : Nat → List Nat → NRes → Option Rt_x_number := atN Tryd.prog ttT.get nm_x_number fi61 ⟨[.str], [(false, (.int .i64)), (false, (.int .i64))], g⟩ (cl_x_number _ lf) lf hd_x_number
def G_x_number_5 (lf : Nat) (x1 : ByteArray) : Nat → (Int × Int) → Option Rt_x_number := rounds fun K p => R_x_number_5 lf x1 K p
theorem at_x_number_5 (g : ElA [.str] → Option Rt_x_number) (lf : Nat) (x1 : ByteArray) : ∀ (n : Nat) (p : Int × Int), A_x_number g lf 5 [n] (enc_x_number_5 x1 p) = G_x_number_5 lf x1 n p
  | 0, p => atN_zero 5 [0] rfl _
  | n + 1, p => by
    have ih := at_x_number_5 g lf x1 n
    refine (atN_eq (icallK_eq 20 _) nd_x_number ok_x_number 5 [n + 1] [n] rfl _).trans ((st_x_number_5 g (A_x_number g lf) lf x1 n p).trans ?_)
    rw [(show (fun q => A_x_number g lf 5 [n] (enc_x_number_5 x1 q)) = (fun q => G_x_number_5 lf x1 n q) from funext ih)]
    rfl
def F_x_number (lf : Nat) (x1 : ByteArray) : Option Rt_x_number := R_x_number_in lf x1 (fun q => G_x_number_5 lf x1 lf q)
theorem run_x_number (g : ElA [.str] → Option Rt_x_number) (lf : Nat) (x1 : ByteArray) : icodeT Tryd.prog ttT.get nm_x_number fi61.nt (cl_x_number _ lf) lf st_x_number (A_x_number g lf) fi61.body [] (argGo (argV [.str] (x1, ())) 0 .leaf) S0 [] (lastK ttT.get fi61 ⟨[.str], [(false, (.int .i64)), (false, (.int .i64))], g⟩) = F_x_number lf x1 := by
    refine (in_x_number g (A_x_number g lf) lf x1).trans ?_
    rw [(show (fun q => A_x_number g lf 5 [lf] (enc_x_number_5 x1 q)) = (fun q => G_x_number_5 lf x1 lf q) from funext fun q => at_x_number_5 g lf x1 lf q)]
    rfl
theorem hxs_x_number : HxsOK Tryd.prog hxl_x_number := ⟨hxR_ok con_x_only_digit, trivial⟩
theorem mk_x_number {g : ElA [.str] → Option Rt_x_number} (hsm : SmOK Tryd.prog sml_x_number) (hg : ∀ (x : ElA [.str]) (y : Rt_x_number), WfA [.str] x → g x = some y → ∃ lf, F_x_number lf x.1 = some y) : Con Tryd.prog 61 ⟨[.str], [(false, (.int .i64)), (false, (.int .i64))], g⟩ :=
  conT (nmf := nm_x_number) (sml := sml_x_number) (hxl := hxl_x_number) (st := st_x_number) (hd := hd_x_number) 20 mixed ttOK ftOK hsm hxs_x_number cal61 rfl rfl (by kernel_rfl) (fun x => by kernel_rfl) nd_x_number ok_x_number fun x y hx hy => by
    obtain ⟨lf, h⟩ := hg x y hx hy
    exact ⟨lf, (run_x_number g lf x.1).trans h⟩
def nm_x_word : Nat → Option Nm := fun k => none
def st_x_word : Nat → Bool := fun k => false
def hd_x_word : Nat → Bool := fun k => false
abbrev Rt_x_word : Type := Int × Int × Unit
def sml_x_word : List (Nat × Sm) := [(36, sp_x_Keywords), (97, sp_slices_Contains_string)]
def hxl_x_word : List (Nat × Hx) := [(92, hxSel (lastFn 93) (hxR sp_x_only_w1) (hxR sp_x_only_w2))]
def cl_x_word (R : Type) (lf : Nat) : ClK R := icallK Tryd.prog ttT.get ftT.get (nm1 62 nm_x_word) (smL sml_x_word) (hxL hxl_x_word) lf 20 R
abbrev id_x_word : Nat := 62
def R_x_word_in (lf : Nat) (x1 : ByteArray) : Option Rt_x_word := (cond (Go.Proofs.YtanenikkloolfaaDoor.S.has Go.Proofs.YtanenikkloolfaaDoor.S.keywords x1) (cond (Go.Proofs.YtanenikkloolfaaDoor.S.has Go.Proofs.YtanenikkloolfaaDoor.S.keywords x1) (some ((Int.ofNat 3), ((Int.ofNat 0), ()))) (cond (Go.Proofs.YtanenikkloolfaaDoor.S.has (List.cons (S.lit [116, 114, 117, 101]) (List.cons (S.lit [102, 97, 108, 115, 101]) (List.cons (S.lit [118, 111, 105, 100]) (List.cons (S.lit [99, 117, 114, 114, 101, 110, 116]) (List.cons (S.lit [114, 101, 115, 117, 108, 116]) []))))) x1) (some ((Int.ofNat 0), ((Int.ofNat 4), ()))) (cond (Bool.not (Go.Proofs.YtanenikkloolfaaDoor.S.lows x1)) (cond (Bool.not (Go.Proofs.YtanenikkloolfaaDoor.S.highs x1)) (some ((Int.ofNat 0), ((Int.ofNat 2), ()))) (cond (iltI (Int.ofNat 20) (Int.ofNat (ByteArray.size x1))) (some ((Int.ofNat 0), ((Int.ofNat 3), ()))) (cond (Go.Proofs.YtanenikkloolfaaDoor.S.lows x1) (some ((Int.ofNat 1), ((Int.ofNat 0), ()))) (some ((Int.ofNat 2), ((Int.ofNat 0), ())))))) (cond (iltI (Int.ofNat 20) (Int.ofNat (ByteArray.size x1))) (some ((Int.ofNat 0), ((Int.ofNat 3), ()))) (cond (Go.Proofs.YtanenikkloolfaaDoor.S.lows x1) (some ((Int.ofNat 1), ((Int.ofNat 0), ()))) (some ((Int.ofNat 2), ((Int.ofNat 0), ())))))))) (cond (Go.Proofs.YtanenikkloolfaaDoor.S.has (List.cons (S.lit [84, 114, 117, 101]) (List.cons (S.lit [70, 97, 108, 115, 101]) (List.cons (S.lit [86, 111, 105, 100]) (List.cons (S.lit [67, 117, 114, 114, 101, 110, 116]) (List.cons (S.lit [82, 101, 115, 117, 108, 116]) []))))) x1) (some ((Int.ofNat 3), ((Int.ofNat 0), ()))) (cond (Go.Proofs.YtanenikkloolfaaDoor.S.has (List.cons (S.lit [116, 114, 117, 101]) (List.cons (S.lit [102, 97, 108, 115, 101]) (List.cons (S.lit [118, 111, 105, 100]) (List.cons (S.lit [99, 117, 114, 114, 101, 110, 116]) (List.cons (S.lit [114, 101, 115, 117, 108, 116]) []))))) x1) (some ((Int.ofNat 0), ((Int.ofNat 4), ()))) (cond (Bool.not (Go.Proofs.YtanenikkloolfaaDoor.S.lows x1)) (cond (Bool.not (Go.Proofs.YtanenikkloolfaaDoor.S.highs x1)) (some ((Int.ofNat 0), ((Int.ofNat 2), ()))) (cond (iltI (Int.ofNat 20) (Int.ofNat (ByteArray.size x1))) (some ((Int.ofNat 0), ((Int.ofNat 3), ()))) (cond (Go.Proofs.YtanenikkloolfaaDoor.S.lows x1) (some ((Int.ofNat 1), ((Int.ofNat 0), ()))) (some ((Int.ofNat 2), ((Int.ofNat 0), ())))))) (cond (iltI (Int.ofNat 20) (Int.ofNat (ByteArray.size x1))) (some ((Int.ofNat 0), ((Int.ofNat 3), ()))) (cond (Go.Proofs.YtanenikkloolfaaDoor.S.lows x1) (some ((Int.ofNat 1), ((Int.ofNat 0), ()))) (some ((Int.ofNat 2), ((Int.ofNat 0), ())))))))))
theorem in_x_word (g : ElA [.str] → Option Rt_x_word) (J : Nat → List Nat → NRes → Option Rt_x_word) (lf : Nat) (x1 : ByteArray) : icodeT Tryd.prog ttT.get nm_x_word fi62.nt (cl_x_word _ lf) lf st_x_word J fi62.body [] (argGo (argV [.str] (x1, ())) 0 .leaf) S0 [] (lastK ttT.get fi62 ⟨[.str], [(false, (.int .i64)), (false, (.int .i64))], g⟩) = R_x_word_in lf x1 := by kernel_rfl
theorem nd_x_word : (regs fi62.body).Nodup := by decide +kernel
theorem ok_x_word : okC nm_x_word st_x_word hd_x_word fi62.body none = true := by kernel_rfl
def A_x_word (g : ElA [.str] → Option Rt_x_word) (lf : Nat) : Nat → List Nat → NRes → Option Rt_x_word := atN Tryd.prog ttT.get nm_x_word fi62 ⟨[.str], [(false, (.int .i64)), (false, (.int .i64))], g⟩ (cl_x_word _ lf) lf hd_x_word
def F_x_word (lf : Nat) (x1 : ByteArray) : Option Rt_x_word := R_x_word_in lf x1
theorem run_x_word (g : ElA [.str] → Option Rt_x_word) (lf : Nat) (x1 : ByteArray) : icodeT Tryd.prog ttT.get nm_x_word fi62.nt (cl_x_word _ lf) lf st_x_word (A_x_word g lf) fi62.body [] (argGo (argV [.str] (x1, ())) 0 .leaf) S0 [] (lastK ttT.get fi62 ⟨[.str], [(false, (.int .i64)), (false, (.int .i64))], g⟩) = F_x_word lf x1 := by
    refine (in_x_word g (A_x_word g lf) lf x1).trans ?_
    rfl
theorem hxs_x_word : HxsOK Tryd.prog hxl_x_word := ⟨hxSel_ok (hxR_ok con_x_only_w1) (hxR_ok con_x_only_w2), trivial⟩
theorem mk_x_word {g : ElA [.str] → Option Rt_x_word} (hsm : SmOK Tryd.prog sml_x_word) (hg : ∀ (x : ElA [.str]) (y : Rt_x_word), WfA [.str] x → g x = some y → ∃ lf, F_x_word lf x.1 = some y) : Con Tryd.prog 62 ⟨[.str], [(false, (.int .i64)), (false, (.int .i64))], g⟩ :=
  conT (nmf := nm_x_word) (sml := sml_x_word) (hxl := hxl_x_word) (st := st_x_word) (hd := hd_x_word) 20 mixed ttOK ftOK hsm hxs_x_word cal62 rfl rfl (by kernel_rfl) (fun x => by kernel_rfl) nd_x_word ok_x_word fun x y hx hy => by
    obtain ⟨lf, h⟩ := hg x y hx hy
    exact ⟨lf, (run_x_word g lf x.1).trans h⟩
def nm_x_Shape : Nat → Option Nm := fun k => none
def st_x_Shape : Nat → Bool := fun k => false
def hd_x_Shape : Nat → Bool := fun k => false
abbrev Rt_x_Shape : Type := Int × Int × Unit
def sml_x_Shape : List (Nat × Sm) := [(59, sp_x_run), (61, sp_x_number), (62, sp_x_word), (63, sp_x_sign)]
def hxl_x_Shape : List (Nat × Hx) := []
def cl_x_Shape (R : Type) (lf : Nat) : ClK R := icallK Tryd.prog ttT.get ftT.get (nm1 32 nm_x_Shape) (smL sml_x_Shape) (hxL hxl_x_Shape) lf 20 R
abbrev id_x_Shape : Nat := 32
def R_x_Shape_in (lf : Nat) (x1 : ByteArray) : Option Rt_x_Shape := (cond (keqS x1 (S.lit [])) (some ((Int.ofNat 0), ((Int.ofNat 2), ()))) (cond (ieqI (Go.Proofs.YtanenikkloolfaaDoor.S.run0 x1) (Int.ofNat (ByteArray.size x1))) (match (jget (byteList x1) (Int.ofNat 0)) with | .none  => none | .some v0 => (cond (Bool.not (iltI v0 (Int.ofNat 48))) (cond (Bool.not (iltI (Int.ofNat 57) v0)) (cond (Bool.not (ieqI (Go.Proofs.YtanenikkloolfaaDoor.S.number x1).2 (Int.ofNat 0))) (some ((Int.ofNat 0), ((Go.Proofs.YtanenikkloolfaaDoor.S.number x1).2, ()))) (some ((Int.ofNat 4), ((Int.ofNat 0), ())))) (cond (ieqI (Go.Proofs.YtanenikkloolfaaDoor.S.run0 x1) (Int.ofNat (ByteArray.size x1))) (match (jget (byteList x1) (Int.ofNat 0)) with | .none  => none | .some v1 => (cond (Bool.not (ieqI v1 (Int.ofNat 95))) (match (cond (Go.Proofs.YtanenikkloolfaaDoor.S.wordly x1) (some ((Go.Proofs.YtanenikkloolfaaDoor.S.word x1).1, ((Go.Proofs.YtanenikkloolfaaDoor.S.word x1).2, ()))) none) with | .none  => none | .some v2 => (some (v2.1, (v2.2.1, ())))) (cond (keqS (Go.Proofs.YtanenikkloolfaaDoor.S.signL (byteList x1)) x1) (some ((Int.ofNat 5), ((Int.ofNat 0), ()))) (some ((Int.ofNat 0), ((Int.ofNat 2), ())))))) (cond (keqS (Go.Proofs.YtanenikkloolfaaDoor.S.signL (byteList x1)) x1) (some ((Int.ofNat 5), ((Int.ofNat 0), ()))) (some ((Int.ofNat 0), ((Int.ofNat 2), ())))))) (cond (ieqI (Go.Proofs.YtanenikkloolfaaDoor.S.run0 x1) (Int.ofNat (ByteArray.size x1))) (match (jget (byteList x1) (Int.ofNat 0)) with | .none  => none | .some v3 => (cond (Bool.not (ieqI v3 (Int.ofNat 95))) (match (cond (Go.Proofs.YtanenikkloolfaaDoor.S.wordly x1) (some ((Go.Proofs.YtanenikkloolfaaDoor.S.word x1).1, ((Go.Proofs.YtanenikkloolfaaDoor.S.word x1).2, ()))) none) with | .none  => none | .some v4 => (some (v4.1, (v4.2.1, ())))) (cond (keqS (Go.Proofs.YtanenikkloolfaaDoor.S.signL (byteList x1)) x1) (some ((Int.ofNat 5), ((Int.ofNat 0), ()))) (some ((Int.ofNat 0), ((Int.ofNat 2), ())))))) (cond (keqS (Go.Proofs.YtanenikkloolfaaDoor.S.signL (byteList x1)) x1) (some ((Int.ofNat 5), ((Int.ofNat 0), ()))) (some ((Int.ofNat 0), ((Int.ofNat 2), ()))))))) (cond (ieqI (Go.Proofs.YtanenikkloolfaaDoor.S.run0 x1) (Int.ofNat (ByteArray.size x1))) (match (jget (byteList x1) (Int.ofNat 0)) with | .none  => none | .some v5 => (cond (Bool.not (ieqI v5 (Int.ofNat 95))) (match (cond (Go.Proofs.YtanenikkloolfaaDoor.S.wordly x1) (some ((Go.Proofs.YtanenikkloolfaaDoor.S.word x1).1, ((Go.Proofs.YtanenikkloolfaaDoor.S.word x1).2, ()))) none) with | .none  => none | .some v6 => (some (v6.1, (v6.2.1, ())))) (cond (keqS (Go.Proofs.YtanenikkloolfaaDoor.S.signL (byteList x1)) x1) (some ((Int.ofNat 5), ((Int.ofNat 0), ()))) (some ((Int.ofNat 0), ((Int.ofNat 2), ())))))) (cond (keqS (Go.Proofs.YtanenikkloolfaaDoor.S.signL (byteList x1)) x1) (some ((Int.ofNat 5), ((Int.ofNat 0), ()))) (some ((Int.ofNat 0), ((Int.ofNat 2), ())))))))
theorem in_x_Shape (g : ElA [.str] → Option Rt_x_Shape) (J : Nat → List Nat → NRes → Option Rt_x_Shape) (lf : Nat) (x1 : ByteArray) : icodeT Tryd.prog ttT.get nm_x_Shape fi32.nt (cl_x_Shape _ lf) lf st_x_Shape J fi32.body [] (argGo (argV [.str] (x1, ())) 0 .leaf) S0 [] (lastK ttT.get fi32 ⟨[.str], [(false, (.int .i64)), (false, (.int .i64))], g⟩) = R_x_Shape_in lf x1 := by kernel_rfl
theorem nd_x_Shape : (regs fi32.body).Nodup := by decide +kernel
theorem ok_x_Shape : okC nm_x_Shape st_x_Shape hd_x_Shape fi32.body none = true := by kernel_rfl
def A_x_Shape (g : ElA [.str] → Option Rt_x_Shape) (lf : Nat) : Nat → List Nat → NRes → Option Rt_x_Shape := atN Tryd.prog ttT.get nm_x_Shape fi32 ⟨[.str], [(false, (.int .i64)), (false, (.int .i64))], g⟩ (cl_x_Shape _ lf) lf hd_x_Shape
def F_x_Shape (lf : Nat) (x1 : ByteArray) : Option Rt_x_Shape := R_x_Shape_in lf x1
theorem run_x_Shape (g : ElA [.str] → Option Rt_x_Shape) (lf : Nat) (x1 : ByteArray) : icodeT Tryd.prog ttT.get nm_x_Shape fi32.nt (cl_x_Shape _ lf) lf st_x_Shape (A_x_Shape g lf) fi32.body [] (argGo (argV [.str] (x1, ())) 0 .leaf) S0 [] (lastK ttT.get fi32 ⟨[.str], [(false, (.int .i64)), (false, (.int .i64))], g⟩) = F_x_Shape lf x1 := by
    refine (in_x_Shape g (A_x_Shape g lf) lf x1).trans ?_
    rfl
theorem hxs_x_Shape : HxsOK Tryd.prog hxl_x_Shape := trivial
theorem mk_x_Shape {g : ElA [.str] → Option Rt_x_Shape} (hsm : SmOK Tryd.prog sml_x_Shape) (hg : ∀ (x : ElA [.str]) (y : Rt_x_Shape), WfA [.str] x → g x = some y → ∃ lf, F_x_Shape lf x.1 = some y) : Con Tryd.prog 32 ⟨[.str], [(false, (.int .i64)), (false, (.int .i64))], g⟩ :=
  conT (nmf := nm_x_Shape) (sml := sml_x_Shape) (hxl := hxl_x_Shape) (st := st_x_Shape) (hd := hd_x_Shape) 20 mixed ttOK ftOK hsm hxs_x_Shape cal32 rfl rfl (by kernel_rfl) (fun x => by kernel_rfl) nd_x_Shape ok_x_Shape fun x y hx hy => by
    obtain ⟨lf, h⟩ := hg x y hx hy
    exact ⟨lf, (run_x_Shape g lf x.1).trans h⟩
def nm_x_Value : Nat → Option Nm := fun k => none
def st_x_Value : Nat → Bool := fun k => false
def hd_x_Value : Nat → Bool := fun k => false
abbrev Rt_x_Value : Type := Int × Int × Unit
def sml_x_Value : List (Nat × Sm) := [(32, sp_x_Shape), (61, sp_x_number)]
def hxl_x_Value : List (Nat × Hx) := []
def cl_x_Value (R : Type) (lf : Nat) : ClK R := icallK Tryd.prog ttT.get ftT.get (nm1 34 nm_x_Value) (smL sml_x_Value) (hxL hxl_x_Value) lf 20 R
abbrev id_x_Value : Nat := 34
def R_x_Value_in (lf : Nat) (x1 : ByteArray) : Option Rt_x_Value := (cond (Bool.not (ieqI (Go.Proofs.YtanenikkloolfaaDoor.S.shape x1).2 (Int.ofNat 0))) (some ((Int.ofNat 0), ((Go.Proofs.YtanenikkloolfaaDoor.S.shape x1).2, ()))) (cond (Bool.not (ieqI (Go.Proofs.YtanenikkloolfaaDoor.S.shape x1).1 (Int.ofNat 4))) (some ((Int.ofNat 0), ((Int.ofNat 2), ()))) (some ((Go.Proofs.YtanenikkloolfaaDoor.S.number x1).1, ((Go.Proofs.YtanenikkloolfaaDoor.S.number x1).2, ())))))
theorem in_x_Value (g : ElA [.str] → Option Rt_x_Value) (J : Nat → List Nat → NRes → Option Rt_x_Value) (lf : Nat) (x1 : ByteArray) : icodeT Tryd.prog ttT.get nm_x_Value fi34.nt (cl_x_Value _ lf) lf st_x_Value J fi34.body [] (argGo (argV [.str] (x1, ())) 0 .leaf) S0 [] (lastK ttT.get fi34 ⟨[.str], [(false, (.int .i64)), (false, (.int .i64))], g⟩) = R_x_Value_in lf x1 := by kernel_rfl
theorem nd_x_Value : (regs fi34.body).Nodup := by decide +kernel
theorem ok_x_Value : okC nm_x_Value st_x_Value hd_x_Value fi34.body none = true := by kernel_rfl
def A_x_Value (g : ElA [.str] → Option Rt_x_Value) (lf : Nat) : Nat → List Nat → NRes → Option Rt_x_Value := atN Tryd.prog ttT.get nm_x_Value fi34 ⟨[.str], [(false, (.int .i64)), (false, (.int .i64))], g⟩ (cl_x_Value _ lf) lf hd_x_Value
def F_x_Value (lf : Nat) (x1 : ByteArray) : Option Rt_x_Value := R_x_Value_in lf x1
theorem run_x_Value (g : ElA [.str] → Option Rt_x_Value) (lf : Nat) (x1 : ByteArray) : icodeT Tryd.prog ttT.get nm_x_Value fi34.nt (cl_x_Value _ lf) lf st_x_Value (A_x_Value g lf) fi34.body [] (argGo (argV [.str] (x1, ())) 0 .leaf) S0 [] (lastK ttT.get fi34 ⟨[.str], [(false, (.int .i64)), (false, (.int .i64))], g⟩) = F_x_Value lf x1 := by
    refine (in_x_Value g (A_x_Value g lf) lf x1).trans ?_
    rfl
theorem hxs_x_Value : HxsOK Tryd.prog hxl_x_Value := trivial
theorem mk_x_Value {g : ElA [.str] → Option Rt_x_Value} (hsm : SmOK Tryd.prog sml_x_Value) (hg : ∀ (x : ElA [.str]) (y : Rt_x_Value), WfA [.str] x → g x = some y → ∃ lf, F_x_Value lf x.1 = some y) : Con Tryd.prog 34 ⟨[.str], [(false, (.int .i64)), (false, (.int .i64))], g⟩ :=
  conT (nmf := nm_x_Value) (sml := sml_x_Value) (hxl := hxl_x_Value) (st := st_x_Value) (hd := hd_x_Value) 20 mixed ttOK ftOK hsm hxs_x_Value cal34 rfl rfl (by kernel_rfl) (fun x => by kernel_rfl) nd_x_Value ok_x_Value fun x y hx hy => by
    obtain ⟨lf, h⟩ := hg x y hx hy
    exact ⟨lf, (run_x_Value g lf x.1).trans h⟩
def nm_l_LexShapes : Nat → Option Nm := fun k => cond (Nat.beq k 12) (some ⟨[3, 4, 5, 6, 7, 8, 9, 10, 11], [], [], [], [], 0, 0, false⟩) (none)
def st_l_LexShapes : Nat → Bool := fun k => cond (Nat.beq k 12) true (false)
def hd_l_LexShapes : Nat → Bool := fun k => cond (Nat.beq k 12) true (false)
abbrev Rt_l_LexShapes : Type := Bool × Unit
def sml_l_LexShapes : List (Nat × Sm) := [(32, sp_x_Shape), (33, sp_q_Shape), (34, sp_x_Value), (35, sp_q_Value), (36, sp_x_Keywords), (37, sp_q_Keywords), (13, sp_l_sanity)]
def hxl_l_LexShapes : List (Nat × Hx) := []
def cl_l_LexShapes (R : Type) (lf : Nat) : ClK R := icallK Tryd.prog ttT.get ftT.get (nm1 9 nm_l_LexShapes) (smL sml_l_LexShapes) (hxL hxl_l_LexShapes) lf 20 R
abbrev id_l_LexShapes : Nat := 9
def enc_l_LexShapes_12 (x1 : ByteArray) (p : Int) : NRes := (NRes.mk (PT.node none (PT.node none (PT.node (some (IV.int Go.IntKind.i64 (Go.Proofs.YtanenikkloolfaaDoor.S.shape x1).1)) (PT.node (some (IV.int Go.IntKind.i64 (Go.Proofs.YtanenikkloolfaaDoor.S.value x1).2)) PT.leaf PT.leaf) (PT.node (some (IV.int Go.IntKind.i64 p)) PT.leaf PT.leaf)) (PT.node (some (IV.ptr 0 0)) (PT.node (some (IV.arr 2)) PT.leaf PT.leaf) PT.leaf)) (PT.node none (PT.node (some (IV.int Go.IntKind.i64 (Go.Proofs.YtanenikkloolfaaDoor.S.shape x1).2)) (PT.node (some (IV.ptr 1 0)) PT.leaf PT.leaf) PT.leaf) (PT.node (some (IV.int Go.IntKind.i64 (Go.Proofs.YtanenikkloolfaaDoor.S.value x1).1)) (PT.node (some (IV.arr 3)) PT.leaf PT.leaf) PT.leaf))) (IS.mk (PT.node (some (IObj.row (List.cons (IV.int Go.IntKind.i64 (Go.Proofs.YtanenikkloolfaaDoor.S.shape x1).1) (List.cons (IV.int Go.IntKind.i64 (Go.Proofs.YtanenikkloolfaaDoor.S.shape x1).2) [])))) (PT.node (some (IObj.row (List.cons (IV.int Go.IntKind.i64 (Go.Proofs.YtanenikkloolfaaDoor.S.value x1).1) (List.cons (IV.int Go.IntKind.i64 (Go.Proofs.YtanenikkloolfaaDoor.S.value x1).2) [])))) (PT.node (some (IObj.arr TC.str Go.Proofs.YtanenikkloolfaaDoor.S.keywords)) PT.leaf PT.leaf) PT.leaf) (PT.node (some (IObj.arr TC.str Go.Proofs.YtanenikkloolfaaDoor.S.keywords)) PT.leaf PT.leaf)) 4) [] 0)
def R_l_LexShapes_in (lf : Nat) (x1 : ByteArray) (L12 : Int → Option Rt_l_LexShapes) : Option Rt_l_LexShapes := (cond (iltI (Int.ofNat 60) (Int.ofNat (ByteArray.size x1))) (some (Bool.true, ())) (L12 (Int.ofNat 0)))
def R_l_LexShapes_12 (lf : Nat) (x1 : ByteArray) (L12 : Int → Option Rt_l_LexShapes) (p : Int) : Option Rt_l_LexShapes := (cond (iltI p (Int.ofNat 37)) (match (jget Go.Proofs.YtanenikkloolfaaDoor.S.keywords p) with | .none  => none | .some v0 => (match (GetElem?.getElem? Go.Proofs.YtanenikkloolfaaDoor.S.keywords (Int.toNat p)) with | .none  => none | .some v1 => (match (jget Go.Proofs.YtanenikkloolfaaDoor.S.keywords p) with | .none  => none | .some v2 => (match (GetElem?.getElem? Go.Proofs.YtanenikkloolfaaDoor.S.keywords (Int.toNat p)) with | .none  => none | .some v3 => (cond (Bool.not (keqS v1 v3)) (some (Bool.false, ())) (L12 (Go.IntKind.wrap Go.IntKind.i64 (Int.add p (Int.ofNat 1))))))))) (cond (ieqI (Go.Proofs.YtanenikkloolfaaDoor.S.shape x1).1 (Go.Proofs.YtanenikkloolfaaDoor.S.shape x1).1) (cond (ieqI (Go.Proofs.YtanenikkloolfaaDoor.S.shape x1).2 (Go.Proofs.YtanenikkloolfaaDoor.S.shape x1).2) (cond (ieqI (Go.Proofs.YtanenikkloolfaaDoor.S.value x1).1 (Go.Proofs.YtanenikkloolfaaDoor.S.value x1).1) (some ((ieqI (Go.Proofs.YtanenikkloolfaaDoor.S.value x1).2 (Go.Proofs.YtanenikkloolfaaDoor.S.value x1).2), ())) (some (Bool.false, ()))) (some (Bool.false, ()))) (some (Bool.false, ()))))
theorem in_l_LexShapes (g : ElA [.str] → Option Rt_l_LexShapes) (J : Nat → List Nat → NRes → Option Rt_l_LexShapes) (lf : Nat) (x1 : ByteArray) : icodeT Tryd.prog ttT.get nm_l_LexShapes fi9.nt (cl_l_LexShapes _ lf) lf st_l_LexShapes J fi9.body [] (argGo (argV [.str] (x1, ())) 0 .leaf) S0 [] (lastK ttT.get fi9 ⟨[.str], [(false, .bool)], g⟩) = R_l_LexShapes_in lf x1 (fun q => J 12 [lf] (enc_l_LexShapes_12 x1 q)) := by kernel_rfl
theorem st_l_LexShapes_12 (g : ElA [.str] → Option Rt_l_LexShapes) (J : Nat → List Nat → NRes → Option Rt_l_LexShapes) (lf : Nat) (x1 : ByteArray) (m1 : Nat) (p : Int) : icodeFT Tryd.prog ttT.get nm_l_LexShapes fi9.nt (cl_l_LexShapes _ lf) lf st_l_LexShapes J 12 fi9.body [] [m1] (enc_l_LexShapes_12 x1 p) (lastK ttT.get fi9 ⟨[.str], [(false, .bool)], g⟩) = R_l_LexShapes_12 lf x1 (fun q => J 12 [m1] (enc_l_LexShapes_12 x1 q)) p := by kernel_rfl
theorem nd_l_LexShapes : (regs fi9.body).Nodup := by decide +kernel
theorem ok_l_LexShapes : okC nm_l_LexShapes st_l_LexShapes hd_l_LexShapes fi9.body none = true := by kernel_rfl
def A_l_LexShapes (g : ElA [.str] → Option Rt_l_LexShapes) (lf : Nat) : Nat → List Nat → NRes → Option Rt_l_LexShapes := atN Tryd.prog ttT.get nm_l_LexShapes fi9 ⟨[.str], [(false, .bool)], g⟩ (cl_l_LexShapes _ lf) lf hd_l_LexShapes
def G_l_LexShapes_12 (lf : Nat) (x1 : ByteArray) : Nat → (Int) → Option Rt_l_LexShapes := rounds fun K p => R_l_LexShapes_12 lf x1 K p
theorem at_l_LexShapes_12 (g : ElA [.str] → Option Rt_l_LexShapes) (lf : Nat) (x1 : ByteArray) : ∀ (n : Nat) (p : Int), A_l_LexShapes g lf 12 [n] (enc_l_LexShapes_12 x1 p) = G_l_LexShapes_12 lf x1 n p
  | 0, p => atN_zero 12 [0] rfl _
  | n + 1, p => by
    have ih := at_l_LexShapes_12 g lf x1 n
    refine (atN_eq (icallK_eq 20 _) nd_l_LexShapes ok_l_LexShapes 12 [n + 1] [n] rfl _).trans ((st_l_LexShapes_12 g (A_l_LexShapes g lf) lf x1 n p).trans ?_)
    rw [(show (fun q => A_l_LexShapes g lf 12 [n] (enc_l_LexShapes_12 x1 q)) = (fun q => G_l_LexShapes_12 lf x1 n q) from funext ih)]
    rfl
def F_l_LexShapes (lf : Nat) (x1 : ByteArray) : Option Rt_l_LexShapes := R_l_LexShapes_in lf x1 (fun q => G_l_LexShapes_12 lf x1 lf q)
theorem run_l_LexShapes (g : ElA [.str] → Option Rt_l_LexShapes) (lf : Nat) (x1 : ByteArray) : icodeT Tryd.prog ttT.get nm_l_LexShapes fi9.nt (cl_l_LexShapes _ lf) lf st_l_LexShapes (A_l_LexShapes g lf) fi9.body [] (argGo (argV [.str] (x1, ())) 0 .leaf) S0 [] (lastK ttT.get fi9 ⟨[.str], [(false, .bool)], g⟩) = F_l_LexShapes lf x1 := by
    refine (in_l_LexShapes g (A_l_LexShapes g lf) lf x1).trans ?_
    rw [(show (fun q => A_l_LexShapes g lf 12 [lf] (enc_l_LexShapes_12 x1 q)) = (fun q => G_l_LexShapes_12 lf x1 lf q) from funext fun q => at_l_LexShapes_12 g lf x1 lf q)]
    rfl
theorem hxs_l_LexShapes : HxsOK Tryd.prog hxl_l_LexShapes := trivial
theorem mk_l_LexShapes {g : ElA [.str] → Option Rt_l_LexShapes} (hsm : SmOK Tryd.prog sml_l_LexShapes) (hg : ∀ (x : ElA [.str]) (y : Rt_l_LexShapes), WfA [.str] x → g x = some y → ∃ lf, F_l_LexShapes lf x.1 = some y) : Con Tryd.prog 9 ⟨[.str], [(false, .bool)], g⟩ :=
  conT (nmf := nm_l_LexShapes) (sml := sml_l_LexShapes) (hxl := hxl_l_LexShapes) (st := st_l_LexShapes) (hd := hd_l_LexShapes) 20 mixed ttOK ftOK hsm hxs_l_LexShapes cal9 rfl rfl (by kernel_rfl) (fun x => by kernel_rfl) nd_l_LexShapes ok_l_LexShapes fun x y hx hy => by
    obtain ⟨lf, h⟩ := hg x y hx hy
    exact ⟨lf, (run_l_LexShapes g lf x.1).trans h⟩
end Go.Proofs.YtanenikkloolfaaDoor

end
end

/- The reference's Shape and Value: contracts. -/
section
set_option linter.unusedVariables false
set_option maxRecDepth 100000
namespace Go.Proofs.YtanenikkloolfaaDoor
open Go Go.Sx Go.RowKit Go.Jx
theorem add_off {a : Int} {i n : Nat} (h0 : 0 ≤ a) (h : a + i < 9223372036854775808) : IntKind.i64.wrap (Int.add a (Int.ofNat i)) = a + i := by
  rw [show Int.add a (Int.ofNat i) = a + i from rfl]
  exact wrap64_in (by omega)
theorem F_q_run_eq (s : ByteArray) (a : Int) (hl : s.size < LF) (h0 : 0 ≤ a) (h1 : a ≤ s.size) : F_q_run LF s a = some (Int.ofNat (S.runL ((byteList s).drop a.toNat)), ()) := by
  have hL : (byteList s).length = s.size := bl_len s
  have hdl : ((byteList s).drop a.toNat).length = s.size - a.toNat := by rw [List.length_drop, hL]
  unfold LF at hl
  refine (range1 (R := Rt_q_run) ((byteList s).drop a.toNat) (fun rest i => some (Int.ofNat (i + S.runL rest), ())) (by rw [hdl]; unfold LF; omega) (fun K => ?_) (fun K i v rest r h => ?_)).trans ?_
  · rw [hdl]
    simp only [R_q_run_2]
    rw [add_off (n := 0) h0 (by omega), ilt_f (by show ¬ _ < (s.size : Int); omega)]; rfl
  · have hi := r.lt
    rw [hdl] at hi
    have hw := add_off (a := a) (i := i) (n := 0) h0 (by omega)
    have hg : jget (byteList s) (a + i) = some v := by
      have := r.get?
      rw [List.getElem?_drop] at this
      unfold jget
      rw [if_pos (by omega), show (a + (i : Int)).toNat = a.toNat + i by omega]
      exact this
    simp only [R_q_run_2, hw, hg, r.next, h]
    rw [ilt_t (show a + (i : Int) < Int.ofNat s.size by show _ < (s.size : Int); omega), cond_true]
    simp only [S.runL, List.takeWhile_cons, isPart_b]
    cases iltI v (Int.ofNat 97) <;> cases iltI (Int.ofNat 122) v <;> cases iltI v (Int.ofNat 65) <;> cases iltI (Int.ofNat 90) v <;> cases iltI v (Int.ofNat 48) <;> cases iltI (Int.ofNat 57) v <;> cases ieqI v (Int.ofNat 95) <;>
      first | rfl | exact congrArg (fun n => some (Int.ofNat n, ())) (show i + 1 + _ = i + (_ + 1) by omega)
  · rw [Nat.zero_add]
theorem cond_some {α : Type} {b : Bool} {x y : α} (h : cond b (some x) none = some y) : b = true ∧ x = y := by
  cases b with
  | true => exact ⟨rfl, Option.some.inj h⟩
  | false => cases h
theorem run_pre {s : ByteArray} {a : Int} (h : (!iltI a 0 && !iltI (Int.ofNat s.size) a) = true) : 0 ≤ a ∧ a ≤ s.size := by
  rw [iltI_eq, iltI_eq] at h
  simp only [Bool.and_eq_true, Bool.not_eq_true', decide_eq_false_iff_not, Int.ofNat_eq_natCast] at h
  omega
theorem con_q_run : Con Tryd.prog id_q_run sp_q_run := mk_q_run trivial fun x y hx h => ⟨LF, by
  obtain ⟨h1, h2⟩ := cond_some (show cond (!iltI x.2.1 0 && !iltI (Int.ofNat (ByteArray.size x.1)) x.2.1) (some (Int.ofNat (S.runL ((byteList x.1).drop x.2.1.toNat)), ())) none = some y from h)
  obtain ⟨g1, g2⟩ := run_pre h1
  exact (F_q_run_eq x.1 x.2.1 hx.1 g1 g2).trans (congrArg some h2)⟩
theorem num_step {n b : Int} (h0 : 0 ≤ n) (h1 : n ≤ 1099511627776) (h2 : 48 ≤ b) (h3 : b ≤ 57) : IntKind.i64.wrap (Int.sub (IntKind.i64.wrap (Int.add (IntKind.i64.wrap (Int.mul (Int.ofNat 10) n)) b)) (Int.ofNat 48)) = 10 * n + (b - 48) := by
  rw [show Int.mul (Int.ofNat 10) n = 10 * n from rfl, wrap64_in (a := 10 * n) (by omega), show Int.add (10 * n) b = 10 * n + b from rfl, wrap64_in (a := 10 * n + b) (by omega), show Int.sub (10 * n + b) (Int.ofNat 48) = 10 * n + b - 48 from rfl, wrap64_in (by omega)]
  omega
theorem dig_of {b : Int} (h : S.isDig b = true) : 48 ≤ b ∧ b ≤ 57 := by
  simpa [S.isDig] using h
theorem F_q_number_eq (s : ByteArray) (hl : s.size < LF) (hp : 0 < s.size) : F_q_number LF s = some (S.number s, ()) := by
  have hbl : (byteList s).length < LF := by rw [bl_len]; exact hl
  have h10 : (∀ b ∈ byteList s, S.isDig b = true) → G_q_number_10 LF s LF (Int.ofNat 0, Int.ofNat 0) = some (S.numGo (byteList s) 0, ()) := fun hd => by
    refine range0 (σ := Int) (R := Rt_q_number) (byteList s) (fun i n => (i, n)) (fun _ n => 0 ≤ n ∧ n ≤ 1099511627776) (fun rest _ n => some (S.numGo rest n, ())) hbl (fun K n _ => ?_) (fun K i v rest n hn r h => ?_) 0 (by omega)
    · simp only [R_q_number_10]
      rw [bl_len, ilt_self]; rfl
    · have hlt : iltI (Int.ofNat i) (Int.ofNat s.size) = true := by have := r.ilt; rwa [bl_len] at this
      obtain ⟨d1, d2⟩ := dig_of (hd v r.mem)
      simp only [R_q_number_10, hlt, r.get, r.next, cond_true, bl_wrap r.mem, num_step hn.1 hn.2 d1 d2, S.numGo]
      rw [iltI_eq]
      simp only [oL]
      by_cases hm : 1099511627776 < 10 * n + (v - 48)
      · rw [decide_eq_true hm, cond_true, if_pos hm]
      · rw [decide_eq_false hm, cond_false, if_neg hm]
        exact h _ (by omega)
  obtain ⟨b0, hb0⟩ : ∃ b, (byteList s)[0]? = some b := ⟨_, bl_get hp⟩
  have hj : jget (byteList s) (Int.ofNat 0) = some b0 := by rw [jget_nat]; exact hb0
  show G_q_number_2 LF s LF (Int.ofNat 0) = _
  by_cases hd : ∀ b ∈ byteList s, S.isDig b = true
  · have hall : (byteList s).all S.isDig = true := List.all_eq_true.2 hd
    refine (range1 (R := Rt_q_number) (byteList s) (fun rest i => some (S.number s, ())) hbl (fun K => ?_) (fun K i v rest r h => ?_))
    · simp only [R_q_number_2, h10 hd]
      unfold S.number
      rw [bl_len, ilt_self, cond_false, hall, if_neg (by simp), hj, hb0]
      simp only [ilt_nat, ieqI_eq]
      simp only [oL]
      by_cases h48 : b0 = 48
      · by_cases h1 : 1 < s.size
        · rw [decide_eq_true h48, decide_eq_true h1, if_pos ⟨by rw [h48], h1⟩]; rfl
        · rw [decide_eq_true h48, decide_eq_false h1, if_neg (fun h => h1 h.2)]; rfl
      · rw [decide_eq_false h48, if_neg (fun h => h48 (Option.some.inj h.1))]; rfl
    · have hlt : iltI (Int.ofNat i) (Int.ofNat s.size) = true := by have := r.ilt; rwa [bl_len] at this
      have := hd v r.mem
      rw [isDig_b] at this
      simp only [R_q_number_2, hlt, r.get, r.next, h, cond_true]
      simp only [Bool.and_eq_true, Bool.not_eq_true'] at this
      rw [this.1, this.2]; rfl
  · have hall : (byteList s).all S.isDig = false := by
      cases h : (byteList s).all S.isDig with
      | false => rfl
      | true => exact absurd (List.all_eq_true.1 h) hd
    have hN : S.number s = (0, 2) := by unfold S.number; rw [if_pos hall]
    refine (range1 (R := Rt_q_number) (byteList s) (fun rest i => if rest.all S.isDig = false then some ((0, 2), ()) else R_q_number_2 LF s (fun _ => none) (fun q => G_q_number_10 LF s LF q) (Int.ofNat s.size)) hbl (fun K => ?_) (fun K i v rest r h => ?_)).trans ?_
    · rw [List.all_nil, if_neg (by simp), bl_len]
      simp only [R_q_number_2, ilt_self, cond_false]
    · have hlt : iltI (Int.ofNat i) (Int.ofNat s.size) = true := by have := r.ilt; rwa [bl_len] at this
      rw [List.all_cons]
      have e : ∀ L L10, R_q_number_2 LF s L L10 (Int.ofNat i) = cond (!iltI v (Int.ofNat 48)) (cond (!!iltI (Int.ofNat 57) v) (some ((0, 2), ())) (L (Int.ofNat (i + 1)))) (some ((0, 2), ())) := fun L L10 => by
        simp only [R_q_number_2, hlt, r.get, r.next, cond_true]; rfl
      rw [e, h, isDig_b]
      cases iltI v (Int.ofNat 48) <;> cases iltI (Int.ofNat 57) v <;> rfl
    · rw [if_pos hall, hN]
theorem con_q_number : Con Tryd.prog id_q_number sp_q_number := mk_q_number trivial fun x y hx h => ⟨LF, by
  obtain ⟨h1, h2⟩ := cond_some (show cond (Nat.blt 0 (ByteArray.size x.1)) (some (S.number x.1, ())) none = some y from h)
  exact (F_q_number_eq x.1 hx.1 (by simpa using h1)).trans (congrArg some h2)⟩
theorem F_q_word_eq (s : ByteArray) (hl : s.size < LF) : F_q_word LF s = some (S.word s, ()) := by
  obtain ⟨W, hW⟩ : ∃ W : Bool → Bool → Int × Int, ∀ lo hi, W lo hi = if (lo && hi) = true then (0, 2) else if 20 < s.size then (0, 3) else if lo = true then (1, 0) else (2, 0) := ⟨_, fun _ _ => rfl⟩
  have h8 : G_q_word_8 LF s LF (Int.ofNat 0, false, false) = some (W ((byteList s).any S.isSmall) ((byteList s).any S.isCap), ()) := by
    refine (rangeB0 (σ := Bool × Bool) (R := Rt_q_word) s (fun i q => (i, q)) (fun rest _ q => some (W (q.2 || rest.any S.isSmall) (q.1 || rest.any S.isCap), ())) hl (fun K q => ?_) (fun K i v rest q r hlt _ _ h => ?_) (false, false)).trans ?_
    · simp only [R_q_word_8]
      rw [ilt_self, cond_false]
      simp only [List.any_nil, Bool.or_false, ilt_nat, hW]
      simp only [oL]
      obtain ⟨hi, lo⟩ := q
      by_cases h20 : 20 < s.size
      · simp only [decide_eq_true h20, if_pos h20]; cases hi <;> cases lo <;> rfl
      · simp only [decide_eq_false h20, if_neg h20]; cases hi <;> cases lo <;> rfl
    · have hh := fun hi lo => h (hi, lo)
      simp only [R_q_word_8, hlt, r.get, r.next, cond_true, hh]
      rw [List.any_cons, List.any_cons, isSmall_b v, isCap_b v]
      generalize List.any rest S.isSmall = zs
      generalize List.any rest S.isCap = zc
      obtain ⟨hi, lo⟩ := q
      cases iltI v (Int.ofNat 97) <;> cases iltI (Int.ofNat 122) v <;> cases iltI v (Int.ofNat 65) <;> cases iltI (Int.ofNat 90) v <;> cases hi <;> cases lo <;> rfl
    · simp only [Bool.false_or]
  rw [hW] at h8
  simp only [F_q_word, R_q_word_in, S.word]
  show cond (S.has S.keywords s) _ (cond (S.has S.wordsT s) _ (cond (S.has S.smallWords s) _ (G_q_word_8 LF s LF (Int.ofNat 0, false, false)))) = _
  rw [h8]
  cases S.has S.keywords s with
  | true => rfl
  | false =>
    cases S.has S.wordsT s with
    | true => rfl
    | false =>
      cases S.has S.smallWords s with
      | true => rfl
      | false => rfl
theorem con_q_word : Con Tryd.prog id_q_word sp_q_word := mk_q_word ⟨con_q_has, trivial⟩ fun x y hx h => ⟨LF, (F_q_word_eq x.1 hx.1).trans h⟩
theorem F_q_Shape_eq (lf : Nat) (s : ByteArray) : F_q_Shape lf s = some (S.shape s, ()) := by
  simp only [F_q_Shape, R_q_Shape_in, S.shape]
  show cond (S.has S.signs s) _ _ = _
  cases S.has S.signs s with
  | true => rfl
  | false =>
    rw [cond_false, if_neg (by simp), ieq_nat]
    by_cases h0 : s.size = 0
    · rw [decide_eq_true h0, cond_true]
      have : (byteList s)[0]? = none := by rw [List.getElem?_eq_none_iff, bl_len, h0]; exact Nat.le_refl _
      rw [this]; rfl
    · rw [decide_eq_false h0, cond_false, ilt_f (by show ¬ ((s.size : Nat) : Int) < 0; omega)]
      have hb := bl_get (s := s) (i := 0) (by omega)
      have hj : jget (byteList s) (Int.ofNat 0) = some _ := jget_nat.trans hb
      rw [hb, hj]
      generalize (((s[0]'_).toNat : Nat) : Int) = b
      simp only [Bool.not_false, cond_true, ilt_nat]
      by_cases h1 : S.runL (byteList s) < s.size
      · rw [decide_eq_true h1, if_pos h1]; rfl
      · rw [decide_eq_false h1, if_neg h1, cond_false, ieqI_eq, isDig_b]
        simp only [oL]
        by_cases h2 : b = 95
        · rw [decide_eq_true h2, if_pos h2]; rfl
        · rw [decide_eq_false h2, if_neg h2, cond_false, show Nat.ble 1 s.size = true by simp; omega]
          simp only [cond_true, ieqI_eq]
          cases iltI b 48 <;> cases iltI 57 b <;> first
            | rfl
            | (by_cases h3 : (S.number s).2 = 0
               · rw [decide_eq_true h3, if_pos h3]; rfl
               · rw [decide_eq_false h3, if_neg h3]; rfl)
theorem con_q_Shape : Con Tryd.prog id_q_Shape sp_q_Shape := mk_q_Shape ⟨con_q_has, con_q_run, con_q_number, con_q_word, trivial⟩ fun x y hx h => ⟨LF, (F_q_Shape_eq _ _).trans h⟩
theorem word_ne4 (s : ByteArray) : ¬ (S.word s).1 = 4 := by
  unfold S.word
  repeat' split
  all_goals decide
theorem shape_num {s : ByteArray} (h : (S.shape s).2 = 0) (h4 : (S.shape s).1 = 4) : 0 < s.size ∧ (S.number s).2 = 0 ∧ (byteList s).all S.isDig = true := by
  unfold S.shape at h h4
  have hsz : 0 < s.size := by
    cases hs : s.size with
    | zero =>
      have : (byteList s)[0]? = none := by rw [List.getElem?_eq_none_iff, bl_len, hs]; exact Nat.le_refl _
      rw [this] at h
      split at h
      · rename_i hh; rw [if_pos hh] at h4; cases h4
      · cases h
    | succ n => omega
  have hn : (S.number s).2 = 0 := by
    by_cases hh : S.has S.signs s = true
    · rw [if_pos hh] at h4; exact absurd h4 (by decide)
    rw [if_neg hh] at h h4
    revert h h4
    generalize (byteList s)[0]? = o
    cases o with
    | none => intro h; exact absurd (show (2 : Int) = 0 from h) (by decide)
    | some b =>
      simp only
      by_cases g1 : S.runL (byteList s) < s.size
      · rw [if_pos g1]; intro h; exact absurd h (by decide)
      rw [if_neg g1]
      by_cases g2 : b = 95
      · rw [if_pos g2]; intro h; exact absurd h (by decide)
      rw [if_neg g2]
      by_cases g3 : S.isDig b = true
      · rw [if_pos g3]
        by_cases g4 : (S.number s).2 = 0
        · intro _ _; exact g4
        · rw [if_neg g4]; intro h; exact absurd h g4
      · rw [if_neg g3]; intro _ h; exact absurd h (word_ne4 s)
  refine ⟨hsz, hn, ?_⟩
  unfold S.number at hn
  cases hh : (byteList s).all S.isDig with
  | true => rfl
  | false => rw [if_pos hh] at hn; cases hn
theorem F_q_Value_eq (lf : Nat) (s : ByteArray) : F_q_Value lf s = some (S.value s, ()) := by
  simp only [F_q_Value, R_q_Value_in, S.value, ieqI_eq]
  simp only [oL]
  by_cases h : (S.shape s).2 = 0
  · rw [decide_eq_true h, if_pos h]
    by_cases h4 : (S.shape s).1 = 4
    · rw [decide_eq_true h4, if_pos h4, show Nat.ble 1 s.size = true by simp; exact (shape_num h h4).1]; rfl
    · rw [decide_eq_false h4, if_neg h4]; rfl
  · rw [decide_eq_false h, if_neg h]; rfl
theorem con_q_Value : Con Tryd.prog id_q_Value sp_q_Value := mk_q_Value ⟨con_q_Shape, con_q_number, trivial⟩ fun x y hx h => ⟨LF, (F_q_Value_eq _ _).trans h⟩
end Go.Proofs.YtanenikkloolfaaDoor
end

/- The package's Shape and Value: contracts. -/
section
set_option linter.unusedVariables false
set_option maxRecDepth 100000
namespace Go.Proofs.YtanenikkloolfaaDoor
open Go Go.Sx Go.RowKit Go.Jx
theorem has_idx (l : List ByteArray) (s : ByteArray) : S.has l s = !iltI (S.idx (fun y => keqS s y) l) (Int.ofNat 0) := by
  have h := S.idx_nonneg (fun y => keqS s y) l
  have e : S.has l s = l.any (fun y => keqS s y) := by
    unfold S.has
    refine congrArg (fun p => List.any l p) (funext fun y => ?_)
    rw [keqS_eq, keqS_eq]
    by_cases h : byteList y = byteList s
    · rw [decide_eq_true h, decide_eq_true h.symm]
    · rw [decide_eq_false h, decide_eq_false fun e => h e.symm]
  rw [e, iltI_eq]
  simp only [oL]
  by_cases h2 : S.idx (fun y => keqS s y) l < 0
  · rw [decide_eq_true h2]
    cases h3 : l.any (fun y => keqS s y) with
    | false => rfl
    | true => have := h.2 h3; omega
  · rw [decide_eq_false h2]
    exact h.1 (by omega)
theorem con_slices_Contains_string : Con Tryd.prog id_slices_Contains_string sp_slices_Contains_string := mk_slices_Contains_string ⟨con_slices_Index_string, trivial⟩ fun x y hx h => ⟨0, by
  refine Eq.trans ?_ h
  exact congrArg (fun b => some (b, ())) (has_idx x.1 x.2.1).symm⟩
theorem num_step2 {n b : Int} (h0 : 0 ≤ n) (h1 : n ≤ 1099511627776) (h2 : 48 ≤ b) (h3 : b ≤ 57) : IntKind.i64.wrap (Int.add (IntKind.i64.wrap (Int.mul (Int.ofNat 10) n)) (IntKind.i64.wrap (IntKind.u8.wrap (Int.sub b (Int.ofNat 48))))) = 10 * n + (b - 48) := by
  have e : IntKind.u8.wrap (Int.sub b (Int.ofNat 48)) = b - 48 := by
    rw [show Int.sub b (Int.ofNat 48) = b - 48 from rfl]
    show (b - 48) % 256 = b - 48
    omega
  rw [e, show Int.mul (Int.ofNat 10) n = 10 * n from rfl, wrap64_in (a := 10 * n) (by omega), wrap64_in (a := b - 48) (by omega), show Int.add (10 * n) (b - 48) = 10 * n + (b - 48) from rfl, wrap64_in (by omega)]
theorem F_x_number_eq (s : ByteArray) (hl : s.size < LF) : F_x_number LF s = some ((S.number s).1, (S.number s).2, ()) := by
  have hbl : (byteList s).length < LF := by rw [bl_len]; exact hl
  have h5 : (∀ b ∈ byteList s, S.isDig b = true) → G_x_number_5 LF s LF (Int.ofNat 0, Int.ofNat 0) = some ((S.numGo (byteList s) 0).1, (S.numGo (byteList s) 0).2, ()) := fun hd => by
    refine range0 (σ := Int) (R := Rt_x_number) (byteList s) (fun i n => (i, n)) (fun _ n => 0 ≤ n ∧ n ≤ 1099511627776) (fun rest _ n => some ((S.numGo rest n).1, (S.numGo rest n).2, ())) hbl (fun K n _ => ?_) (fun K i v rest n hn r h => ?_) 0 (by omega)
    · simp only [R_x_number_5]
      rw [bl_len, ilt_self]; rfl
    · have hlt : iltI (Int.ofNat i) (Int.ofNat s.size) = true := by have := r.ilt; rwa [bl_len] at this
      obtain ⟨d1, d2⟩ := dig_of (hd v r.mem)
      simp only [R_x_number_5, hlt, r.get, r.next, cond_true, num_step2 hn.1 hn.2 d1 d2, S.numGo]
      rw [iltI_eq]
      simp only [oL]
      by_cases hm : 1099511627776 < 10 * n + (v - 48)
      · rw [decide_eq_true hm, cond_true, if_pos hm]
      · rw [decide_eq_false hm, cond_false, if_neg hm]
        exact h _ (by omega)
  simp only [F_x_number, R_x_number_in]
  unfold S.number S.digs
  by_cases hd : (byteList s).all S.isDig = true
  · rw [hd, if_neg (by simp), Bool.not_true, cond_false, h5 (List.all_eq_true.1 hd), ilt_nat]
    by_cases h1 : 1 < s.size
    · rw [decide_eq_true h1, cond_true]
      obtain ⟨b0, hb0⟩ : ∃ b, (byteList s)[0]? = some b := ⟨_, bl_get (by omega)⟩
      rw [show jget (byteList s) (Int.ofNat 0) = some b0 from jget_nat.trans hb0, hb0]
      simp only [ieqI_eq]
      simp only [oL]
      by_cases h48 : b0 = 48
      · rw [decide_eq_true h48, if_pos ⟨by rw [h48], h1⟩]; rfl
      · rw [decide_eq_false h48, if_neg (fun h => h48 (Option.some.inj h.1))]; rfl
    · rw [decide_eq_false h1, if_neg (fun h => h1 h.2)]; rfl
  · rw [Bool.not_eq_true] at hd
    rw [hd, if_pos rfl]; rfl
theorem con_x_number : Con Tryd.prog id_x_number sp_x_number := mk_x_number trivial fun x y hx h => ⟨LF, (F_x_number_eq x.1 hx.1).trans h⟩
theorem con_x_Keywords : Con Tryd.prog 36 sp_x_Keywords :=
  conK (nm := fun _ _ => none) (sm := smL []) (hx := hxL []) mixed ttOK ftOK (smL_ok trivial) (hxL_ok trivial) cal36 fun x y hx h => ⟨20, 1000, Eq.trans (show icallK Tryd.prog ttT.get ftT.get (fun _ _ => none) (smL []) (hxL []) 1000 20 _ (.fn 36) [] S0 (runR sp_x_Keywords) = some (S.keywords, ()) by kernel_rfl) h⟩
theorem con_q_Keywords : Con Tryd.prog 37 sp_q_Keywords :=
  conK (nm := fun _ _ => none) (sm := smL []) (hx := hxL []) mixed ttOK ftOK (smL_ok trivial) (hxL_ok trivial) cal37 fun x y hx h => ⟨20, 1000, Eq.trans (show icallK Tryd.prog ttT.get ftT.get (fun _ _ => none) (smL []) (hxL []) 1000 20 _ (.fn 37) [] S0 (runR sp_q_Keywords) = some (S.keywords, ()) by kernel_rfl) h⟩
def signT (s : ByteArray) : List ByteArray → Option (ByteArray × Unit)
  | [] => some (S.lit [], ())
  | x :: r => cond (S.isPre s x) (some (x, ())) (signT s r)
theorem signT_eq (s : ByteArray) : ∀ l : List ByteArray, signT s l = some ((match l.find? (fun x => (byteList x).isPrefixOf (byteList s)) with | some x => x | none => S.lit []), ())
  | [] => rfl
  | x :: r => by
    have ih := signT_eq s r
    simp only [signT, List.find?_cons, S.isPre]
    cases (byteList x).isPrefixOf (byteList s) with
    | true => rfl
    | false => exact ih
theorem con_x_sign : Con Tryd.prog 63 sp_x_sign :=
  conK (nm := fun _ _ => none) (sm := smL [(26, sp_strings_HasPrefix)]) (hx := hxL []) mixed ttOK ftOK (smL_ok ⟨con_strings_HasPrefix, trivial⟩) (hxL_ok trivial) cal63 fun x y hx h => ⟨20, 30, by
    obtain ⟨s, u⟩ := x
    exact (show icallK Tryd.prog ttT.get ftT.get (fun _ _ => none) (smL [(26, sp_strings_HasPrefix)]) (hxL []) 30 20 _ (.fn 63) (argV [.str] (s, u)) S0 (runR sp_x_sign) = signT s S.signs by kernel_rfl).trans ((signT_eq s S.signs).trans h)⟩
end Go.Proofs.YtanenikkloolfaaDoor
end

/- The package's word, Shape and Value: contracts. -/
section
set_option linter.unusedVariables false
set_option maxRecDepth 100000
namespace Go.Proofs.YtanenikkloolfaaDoor
open Go Go.Sx Go.RowKit Go.Jx
/-- Of bytes of a run: those that are low are all but the capital letters. -/
theorem lows_eq {l : List Int} (h : l.all S.isPart = true) : l.all S.isLow = !l.any S.isCap := by
  induction l with
  | nil => rfl
  | cons b r ih =>
    rw [List.all_cons, Bool.and_eq_true] at h
    rw [List.all_cons, List.any_cons, ih h.2, Bool.not_or]
    simp only [S.isLow, h.1, Bool.true_and]
theorem highs_eq {l : List Int} (h : l.all S.isPart = true) : l.all S.isHigh = !l.any S.isSmall := by
  induction l with
  | nil => rfl
  | cons b r ih =>
    rw [List.all_cons, Bool.and_eq_true] at h
    rw [List.all_cons, List.any_cons, ih h.2, Bool.not_or]
    simp only [S.isHigh, h.1, Bool.true_and]
theorem wordly_inv {s : ByteArray} (h : S.wordly s = true) : (byteList s).all S.isPart = true ∧ ((byteList s).any S.isSmall = true ∨ (byteList s).any S.isCap = true) := by
  unfold S.wordly at h
  rw [Bool.and_eq_true] at h
  refine ⟨h.1, ?_⟩
  have h2 := h.2
  cases hb : (byteList s)[0]? with
  | none => rw [hb] at h2; cases h2
  | some b =>
    rw [hb] at h2
    have hm := List.mem_of_getElem? hb
    simp only [Bool.or_eq_true] at h2
    exact h2.imp (fun h => List.any_eq_true.2 ⟨b, hm, h⟩) (fun h => List.any_eq_true.2 ⟨b, hm, h⟩)
theorem F_x_word_eq (lf : Nat) (s : ByteArray) (hw : S.wordly s = true) : F_x_word lf s = some ((S.word s).1, (S.word s).2, ()) := by
  obtain ⟨h1, h2⟩ := wordly_inv hw
  have e1 : S.lows s = !(byteList s).any S.isCap := lows_eq h1
  have e2 : S.highs s = !(byteList s).any S.isSmall := highs_eq h1
  simp only [F_x_word, R_x_word_in, S.word, ilt_nat]
  show cond (S.has S.keywords s) (cond (S.has S.keywords s) _ _) (cond (S.has S.wordsT s) _ (cond (S.has S.smallWords s) _ _)) = _
  rw [e1, e2]
  cases S.has S.keywords s with
  | true => rfl
  | false =>
    cases S.has S.wordsT s with
    | true => rfl
    | false =>
      cases S.has S.smallWords s with
      | true => rfl
      | false =>
        by_cases h20 : 20 < s.size
        · rw [decide_eq_true h20]
          simp only [if_pos h20]
          cases (byteList s).any S.isCap <;> cases (byteList s).any S.isSmall <;> rfl
        · rw [decide_eq_false h20]
          simp only [if_neg h20]
          revert h2
          cases (byteList s).any S.isCap <;> cases (byteList s).any S.isSmall <;> first | (intro _; rfl) | (intro h; simp at h)
theorem con_x_word : Con Tryd.prog id_x_word sp_x_word := mk_x_word ⟨con_x_Keywords, con_slices_Contains_string, trivial⟩ fun x y hx h => ⟨0, by
  obtain ⟨h1, h2⟩ := cond_some (show cond (S.wordly x.1) (some ((S.word x.1).1, (S.word x.1).2, ())) none = some y from h)
  exact (F_x_word_eq 0 x.1 h1).trans (congrArg some h2)⟩
theorem runL_le (l : List Int) : S.runL l ≤ l.length := by
  unfold S.runL
  exact (List.takeWhile_prefix _).length_le
theorem runL_all (l : List Int) : S.runL l = l.length ↔ l.all S.isPart = true := by
  unfold S.runL
  induction l with
  | nil => simp
  | cons b r ih =>
    rw [List.takeWhile_cons, List.all_cons]
    cases S.isPart b with
    | true => simp only [if_true, List.length_cons, Bool.true_and, ← ih]; omega
    | false => simp
/-- No sign begins with a byte of a run. -/
theorem signs_nopart : S.signs.all (fun x => match (byteList x)[0]? with | some b => !S.isPart b | none => false) = true := by decide +kernel
theorem signs_own : S.signs.all (fun x => keqS (S.signL (byteList x)) x) = true := by decide +kernel
theorem signL_pre (l : List Int) : (S.signL l = S.lit [] ∧ ∀ x ∈ S.signs, (byteList x).isPrefixOf l = false) ∨ (S.signL l ∈ S.signs ∧ (byteList (S.signL l)).isPrefixOf l = true) := by
  unfold S.signL
  cases h : S.signs.find? (fun x => (byteList x).isPrefixOf l) with
  | none =>
    refine .inl ⟨rfl, fun x hx => ?_⟩
    have := List.find?_eq_none.1 h x hx
    exact Bool.eq_false_iff.2 this
  | some x => exact .inr ⟨List.mem_of_find?_eq_some h, List.find?_some (p := fun x => (byteList x).isPrefixOf l) h⟩
theorem has_mem {l : List ByteArray} {s : ByteArray} : S.has l s = true ↔ s ∈ l := by
  unfold S.has
  rw [List.any_eq_true]
  constructor
  · rintro ⟨x, hx, h⟩; rw [← of_decide_eq_true h]; exact hx
  · intro h; exact ⟨s, h, decide_eq_true rfl⟩
theorem sign_has {s : ByteArray} (h0 : ¬ s = S.lit []) : keqS (S.signL (byteList s)) s = S.has S.signs s := by
  cases hh : S.has S.signs s with
  | true => exact List.all_eq_true.1 signs_own s (has_mem.1 hh)
  | false =>
    unfold keqS
    refine decide_eq_false fun e => ?_
    rcases signL_pre (byteList s) with ⟨h1, _⟩ | ⟨h1, _⟩
    · exact h0 (e.symm.trans h1)
    · rw [e] at h1; rw [has_mem.2 h1] at hh; cases hh
theorem part_nosign {s : ByteArray} {b : Int} (hb : (byteList s)[0]? = some b) (hp : S.isPart b = true) : S.has S.signs s = false := by
  cases hh : S.has S.signs s with
  | false => rfl
  | true =>
    have := List.all_eq_true.1 signs_nopart s (has_mem.1 hh)
    rw [hb] at this
    simp only at this
    rw [hp] at this; cases this
theorem F_x_Shape_eq (lf : Nat) (s : ByteArray) : F_x_Shape lf s = some ((S.shape s).1, (S.shape s).2, ()) := by
  simp only [F_x_Shape, R_x_Shape_in]
  by_cases h0 : s = S.lit []
  · rw [show keqS s (S.lit []) = true from decide_eq_true h0, cond_true, h0]
    rw [show S.shape (S.lit []) = (0, 2) by decide +kernel]; rfl
  · rw [show keqS s (S.lit []) = false from decide_eq_false h0, cond_false]
    have hsz : 0 < s.size := by
      cases hs : s.size with
      | succ n => omega
      | zero =>
        exact absurd (bl_inj (show byteList s = byteList (S.lit []) by
          have : (byteList s).length = 0 := by rw [bl_len, hs]
          rw [List.length_eq_zero_iff.1 this]; rfl)) h0
    obtain ⟨b, hb⟩ : ∃ b, (byteList s)[0]? = some b := ⟨_, bl_get hsz⟩
    have hj : jget (byteList s) (Int.ofNat 0) = some b := jget_nat.trans hb
    have hr : ieqI (S.run0 s) (Int.ofNat s.size) = decide (S.runL (byteList s) = s.size) := by unfold S.run0; exact ieq_nat _ _
    have hle : S.runL (byteList s) ≤ s.size := by have := runL_le (byteList s); rwa [bl_len] at this
    rw [hr, hj, sign_has h0]
    unfold S.shape
    rw [hb]
    simp only
    by_cases hrun : S.runL (byteList s) = s.size
    · have hall : (byteList s).all S.isPart = true := (runL_all _).1 (by rw [hrun, bl_len])
      have hpb : S.isPart b = true := List.all_eq_true.1 hall b (List.mem_of_getElem? hb)
      have hns := part_nosign hb hpb
      rw [decide_eq_true hrun, hns, if_neg (by simp), if_neg (show ¬ S.runL (byteList s) < s.size by omega)]
      simp only [cond_true, cond_false, ieqI_eq]
      have hw : ¬ b = 95 → S.isDig b = false → S.wordly s = true := fun h1 h2 => by
        unfold S.wordly
        rw [hall, hb]
        simp only [S.isPart, h2, decide_eq_false h1, Bool.or_false] at hpb
        simpa using hpb
      by_cases h95 : b = 95
      · have : S.isDig b = false := by subst h95; rfl
        rw [if_pos h95, h95]; rfl
      · rw [if_neg h95]
        simp only [oL]
        rw [decide_eq_false h95, Bool.not_false, cond_true]
        by_cases hd : S.isDig b = true
        · have hd2 := hd
          rw [isDig_b] at hd2
          simp only [Bool.and_eq_true, Bool.not_eq_true'] at hd2
          simp only [oL] at hd2
          rw [if_pos hd, hd2.1, hd2.2]
          simp only [Bool.not_false, cond_true]
          by_cases hn : (S.number s).2 = 0
          · rw [decide_eq_true hn, if_pos hn]; rfl
          · rw [decide_eq_false hn, if_neg hn]; rfl
        · rw [if_neg hd, hw h95 (by simpa using hd)]
          have hd2 : S.isDig b = false := by simpa using hd
          rw [isDig_b] at hd2
          simp only [oL] at hd2
          revert hd2
          cases iltI b 48 <;> cases iltI 57 b <;> first | (intro _; rfl) | (intro h; cases h)
    · rw [decide_eq_false hrun, if_pos (show S.runL (byteList s) < s.size by omega)]
      cases S.has S.signs s <;> rfl
theorem con_x_Shape : Con Tryd.prog id_x_Shape sp_x_Shape := mk_x_Shape ⟨con_x_run, con_x_number, con_x_word, con_x_sign, trivial⟩ fun x y hx h => ⟨0, (F_x_Shape_eq 0 x.1).trans h⟩
theorem F_x_Value_eq (lf : Nat) (s : ByteArray) : F_x_Value lf s = some ((S.value s).1, (S.value s).2, ()) := by
  simp only [F_x_Value, R_x_Value_in, S.value, ieqI_eq]
  simp only [oL]
  by_cases h : (S.shape s).2 = 0
  · rw [decide_eq_true h, if_pos h]
    by_cases h4 : (S.shape s).1 = 4
    · rw [decide_eq_true h4, if_pos h4]; rfl
    · rw [decide_eq_false h4, if_neg h4]; rfl
  · rw [decide_eq_false h, if_neg h]; rfl
theorem con_x_Value : Con Tryd.prog id_x_Value sp_x_Value := mk_x_Value ⟨con_x_Shape, con_x_number, trivial⟩ fun x y hx h => ⟨0, (F_x_Value_eq 0 x.1).trans h⟩
theorem keqS_refl (s : ByteArray) : keqS s s = true := decide_eq_true rfl
theorem kw_len : S.keywords.length = 37 := rfl
theorem F_l_LexShapes_eq (s : ByteArray) : F_l_LexShapes LF s = some (true, ()) := by
  simp only [F_l_LexShapes, R_l_LexShapes_in]
  cases iltI (Int.ofNat 60) (Int.ofNat s.size) with
  | true => rfl
  | false =>
    rw [cond_false]
    refine range1 (R := Rt_l_LexShapes) S.keywords (fun rest i => some (true, ())) (by rw [kw_len]; decide) (fun K => ?_) (fun K i v rest r h => ?_)
    · simp only [R_l_LexShapes_12, kw_len, ilt_self, cond_false, ieqI_eq, decide_true, cond_true]
    · have hlt := r.ilt
      rw [kw_len] at hlt
      have hg : S.keywords[Int.toNat (Int.ofNat i)]? = some v := r.get?
      simp only [R_l_LexShapes_12, hlt, cond_true, r.get, hg, r.next, h, keqS_refl, Bool.not_true, cond_false]
theorem con_l_LexShapes_of (hs : Con Tryd.prog 13 sp_l_sanity) : Con Tryd.prog id_l_LexShapes ⟨[.str], [(false, .bool)], fun _ => some (true, ())⟩ := mk_l_LexShapes ⟨con_x_Shape, con_q_Shape, con_x_Value, con_q_Value, con_x_Keywords, con_q_Keywords, hs, trivial⟩ fun x y hx h => ⟨LF, (F_l_LexShapes_eq x.1).trans h⟩
end Go.Proofs.YtanenikkloolfaaDoor
end

/- The chapter's closed check returns true. -/
section
set_option linter.unusedVariables false
set_option maxRecDepth 100000
namespace Go.Proofs.YtanenikkloolfaaDoor
open Go Go.Sx Go.RowKit Go.Jx
def smSan : List (Nat × Sm) := [(36, sp_x_Keywords), (42, sp_strings_Count), (122, sp_internal_stringslite_IndexByte), (32, sp_x_Shape)]
def hxSan : List (Nat × Hx) := [(79, ccHx), (47, bsHx)]
theorem run_l_sanity : icallK Tryd.prog ttT.get ftT.get (fun _ _ => none) (smL smSan) (hxL hxSan) 1000 100 _ (.fn 13) [] S0 (runR sp_l_sanity) = some (true, ()) := by kernel_rfl
theorem con_l_sanity : Con Tryd.prog 13 sp_l_sanity :=
  conK (nm := fun _ _ => none) (sm := smL smSan) (hx := hxL hxSan) mixed ttOK ftOK (smL_ok ⟨con_x_Keywords, con_strings_Count, con_internal_stringslite_IndexByte, con_x_Shape, trivial⟩) (hxL_ok ⟨ccHx_ok, bsHx_ok, trivial⟩) cal13 fun x y hx h => ⟨100, 1000, run_l_sanity.trans h⟩
end Go.Proofs.YtanenikkloolfaaDoor
end

/- LexShapes: its contract. -/
section
set_option linter.unusedVariables false
namespace Go.Proofs.YtanenikkloolfaaDoor
open Go Go.Sx Go.RowKit Go.Jx
theorem con_l_LexShapes : Con Tryd.prog 9 ⟨[.str], [(false, .bool)], fun _ => some (true, ())⟩ := con_l_LexShapes_of con_l_sanity
end Go.Proofs.YtanenikkloolfaaDoor
end
