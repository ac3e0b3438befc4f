/- Texts: Xg14, Xl8, Xl4, Xsan, Xl5, Xl3, Xl2, Xl9, Xt7, Xp22, Xl14, Xt8, Xl15. -/
import Derived.Test.YtanenikkloolfaaDoorMh5
import Derived.Test.YtanenikkloolfaaDoorMh4
set_option linter.unusedVariables false
noncomputable section
set_option maxRecDepth 100000
namespace Go.Proofs.YtanenikkloolfaaDoor
open Go Go.Sx Go.RowKit Go.Jx
def nmz22 : Nat → Option Nm := fun k => none
def stz22 : Nat → Bool := fun k => false
def hdz22 := stz22
abbrev Rtz22 : Type := Int × Unit
def smlz22 : List (Nat × Sm) := []
def hxlz22 : List (Nat × Hx) := []
def clz22 (R : Type) (lf : Nat) : ClK R := icallK Tryd.prog ttT.get ftT.get (nm1 83 nmz22) (smL smlz22) (hxL hxlz22) lf 20 R
abbrev idz22 : Nat := 83
def Rz22_in (lf : Nat) (x1 : Int) (x2 : Int) : Option Rtz22 := (cond (Bool.not (ieqI x1 x1)) (cond (Bool.not (ieqI x2 x2)) (some ((Int.ofNat 0), ())) (some ((Int.negSucc 0), ()))) (cond (Bool.not (ieqI x2 x2)) (some ((Int.ofNat 1), ())) (cond (iltI x1 x2) (some ((Int.negSucc 0), ())) (cond (iltI x2 x1) (some ((Int.ofNat 1), ())) (some ((Int.ofNat 0), ()))))))
abbrev gz22 : Type := ElA [(.int .i64), (.int .i64)] → Option Rtz22
abbrev sz22 (g : gz22) : Sm := ⟨[(.int .i64), (.int .i64)], [(false, (.int .i64))], g⟩
abbrev Ez22 (g : gz22) (J : JT Rtz22) (lf : Nat) (x1 : Int) (x2 : Int) := icodeT Tryd.prog ttT.get nmz22 fi83.nt (clz22 _ lf) lf stz22 J fi83.body [] (argGo (argV [(.int .i64), (.int .i64)] (x1, x2, ())) 0 .leaf) S0 [] (lastK ttT.get fi83 (sz22 g))
theorem inz22 (g : gz22) (J : JT Rtz22) (lf : Nat) (x1 : Int) (x2 : Int) : Ez22 g J lf x1 x2 = Rz22_in lf x1 x2 := by kernel_rfl
theorem ndz22 : (regs fi83.body).Nodup := by decide +kernel
theorem okz22 : okC nmz22 stz22 hdz22 fi83.body none = true := by kernel_rfl
def Az22 (g : gz22) (lf : Nat) : JT Rtz22 := atN Tryd.prog ttT.get nmz22 fi83 (sz22 g) (clz22 _ lf) lf hdz22
def Fz22 (lf : Nat) (x1 : Int) (x2 : Int) : Option Rtz22 := Rz22_in lf x1 x2
theorem runz22 (g : gz22) (lf : Nat) (x1 : Int) (x2 : Int) : Ez22 g (Az22 g lf) lf x1 x2 = Fz22 lf x1 x2 := by
   refine (inz22 g (Az22 g lf) lf x1 x2).trans ?_
   rfl
theorem hxsz22 : HxsOK Tryd.prog hxlz22 := trivial
theorem mkz22 {g : gz22} (hsm : SmOK Tryd.prog smlz22) (hg : ∀ (x : ElA [(.int .i64), (.int .i64)]) (y : Rtz22), WfA [(.int .i64), (.int .i64)] x → g x = some y → ∃ lf, Fz22 lf x.1 x.2.1 = some y) : Con Tryd.prog 83 ⟨[(.int .i64), (.int .i64)], [(false, (.int .i64))], g⟩ :=
 conT (nmf := nmz22) (sml := smlz22) (hxl := hxlz22) (st := stz22) (hd := hdz22) 20 mixed ttOK ftOK hsm hxsz22 cal83 rfl rfl (by kernel_rfl) (fun x => by kernel_rfl) ndz22 okz22 fun x y hx hy => by
   obtain ⟨lf, h⟩ := hg x y hx hy
   exact ⟨lf, (runz22 g lf x.1 x.2.1).trans h⟩
def nmz23 : Nat → Option Nm := fun k => cond (Nat.beq k 3) (some ⟨[3, 6, 7, 8], [], [], [], [], 0, 0, false⟩) (none)
def stz23 : Nat → Bool := fun k => cond (Nat.beq k 3) true (false)
def hdz23 := stz23
abbrev Rtz23 : Type := Int × Unit
def smlz23 : List (Nat × Sm) := []
def hxlz23 : List (Nat × Hx) := []
def clz23 (R : Type) (lf : Nat) : ClK R := icallK Tryd.prog ttT.get ftT.get (nm1 82 nmz23) (smL smlz23) (hxL hxlz23) lf 20 R
abbrev idz23 : Nat := 82
def encz23_3 (x1 : (List Int)) (p : Int) : NRes := (NRes.mk (.node none (.node none (.node (some (IV.int .i64 (Int.ofNat 0))) (.node (some (IV.int .i64 (Int.ofNat (List.length x1)))) .leaf .leaf) .leaf) .leaf) (.node none (.node none (.node (some (IV.int .i64 p)) .leaf .leaf) .leaf) (.node (some (IV.lst (TC.int .i64) x1)) .leaf .leaf))) (IS.mk .leaf 0) [] 0)
def Rz23_in (lf : Nat) (x1 : (List Int)) (L3 : Int → Option Rtz23) : Option Rtz23 := (L3 (Int.ofNat 0))
def Rz23_3 (lf : Nat) (x1 : (List Int)) (L3 : Int → Option Rtz23) (p : Int) : Option Rtz23 := (cond (iltI p (Int.ofNat (List.length x1))) (match (jget x1 p) with | .none  => none | .some v0 => (cond (Bool.not (ieqI v0 (Int.ofNat 0))) (some (v0, ())) (L3 (IntKind.i64.wrap (Int.add p (Int.ofNat 1)))))) (some ((Int.ofNat 0), ())))
abbrev gz23 : Type := ElA [(.list (.int .i64))] → Option Rtz23
abbrev sz23 (g : gz23) : Sm := ⟨[(.list (.int .i64))], [(false, (.int .i64))], g⟩
abbrev Ez23 (g : gz23) (J : JT Rtz23) (lf : Nat) (x1 : (List Int)) := icodeT Tryd.prog ttT.get nmz23 fi82.nt (clz23 _ lf) lf stz23 J fi82.body [] (argGo (argV [(.list (.int .i64))] (x1, ())) 0 .leaf) S0 [] (lastK ttT.get fi82 (sz23 g))
abbrev Bz23 (g : gz23) (J : JT Rtz23) (lf k : Nat) (ms : List Nat) (q : NRes) := icodeFT Tryd.prog ttT.get nmz23 fi82.nt (clz23 _ lf) lf stz23 J k fi82.body [] ms q (lastK ttT.get fi82 (sz23 g))
theorem inz23 (g : gz23) (J : JT Rtz23) (lf : Nat) (x1 : (List Int)) : Ez23 g J lf x1 = Rz23_in lf x1 (fun q => J 3 [lf] (encz23_3 x1 q)) := by kernel_rfl
theorem stz23_3 (g : gz23) (J : JT Rtz23) (lf : Nat) (x1 : (List Int)) (m1 : Nat) (p : Int) : Bz23 g J lf 3 [m1] (encz23_3 x1 p) = Rz23_3 lf x1 (fun q => J 3 [m1] (encz23_3 x1 q)) p := by kernel_rfl
theorem ndz23 : (regs fi82.body).Nodup := by decide +kernel
theorem okz23 : okC nmz23 stz23 hdz23 fi82.body none = true := by kernel_rfl
def Az23 (g : gz23) (lf : Nat) : JT Rtz23 := atN Tryd.prog ttT.get nmz23 fi82 (sz23 g) (clz23 _ lf) lf hdz23
def Gz23_3 (lf : Nat) (x1 : (List Int)) : Nat → (Int) → Option Rtz23 := rounds fun K p => Rz23_3 lf x1 K p
theorem atz23_3 (g : gz23) (lf : Nat) (x1 : (List Int)) : ∀ (n : Nat) (p : Int), Az23 g lf 3 [n] (encz23_3 x1 p) = Gz23_3 lf x1 n p
 | 0, p => atN_zero 3 [0] rfl _
 | n + 1, p => by
   have ih := atz23_3 g lf x1 n
   refine (atN_eq (icallK_eq 20 _) ndz23 okz23 3 [n + 1] [n] rfl _).trans ((stz23_3 g (Az23 g lf) lf x1 n p).trans ?_)
   rw [(show (fun q => Az23 g lf 3 [n] (encz23_3 x1 q)) = (fun q => Gz23_3 lf x1 n q) from funext ih)]
   rfl
def Fz23 (lf : Nat) (x1 : (List Int)) : Option Rtz23 := Rz23_in lf x1 (fun q => Gz23_3 lf x1 lf q)
theorem runz23 (g : gz23) (lf : Nat) (x1 : (List Int)) : Ez23 g (Az23 g lf) lf x1 = Fz23 lf x1 := by
   refine (inz23 g (Az23 g lf) lf x1).trans ?_
   rw [(show (fun q => Az23 g lf 3 [lf] (encz23_3 x1 q)) = (fun q => Gz23_3 lf x1 lf q) from funext fun q => atz23_3 g lf x1 lf q)]
   rfl
theorem hxsz23 : HxsOK Tryd.prog hxlz23 := trivial
theorem mkz23 {g : gz23} (hsm : SmOK Tryd.prog smlz23) (hg : ∀ (x : ElA [(.list (.int .i64))]) (y : Rtz23), WfA [(.list (.int .i64))] x → g x = some y → ∃ lf, Fz23 lf x.1 = some y) : Con Tryd.prog 82 ⟨[(.list (.int .i64))], [(false, (.int .i64))], g⟩ :=
 conT (nmf := nmz23) (sml := smlz23) (hxl := hxlz23) (st := stz23) (hd := hdz23) 20 mixed ttOK ftOK hsm hxsz23 cal82 rfl rfl (by kernel_rfl) (fun x => by kernel_rfl) ndz23 okz23 fun x y hx hy => by
   obtain ⟨lf, h⟩ := hg x y hx hy
   exact ⟨lf, (runz23 g lf x.1).trans h⟩
def nmz24 : Nat → Option Nm := fun k => none
def stz24 : Nat → Bool := fun k => false
def hdz24 := stz24
abbrev Rtz24 : Type := Int × Unit
def smlz24 : List (Nat × Sm) := [(83, spz22), (82, spz23)]
def hxlz24 : List (Nat × Hx) := []
def clz24 (R : Type) (lf : Nat) : ClK R := icallK Tryd.prog ttT.get ftT.get (nm1 51 nmz24) (smL smlz24) (hxL hxlz24) lf 20 R
abbrev idz24 : Nat := 51
def Rz24_in (lf : Nat) (x1 : DPlace) (x2 : DPlace) : Option Rtz24 := (some ((S.orI (List.cons (S.cmpI x1.1 x2.1) (List.cons (S.cmpI x1.2 x2.2) []))), ()))
abbrev gz24 : Type := ElA [cPlace, cPlace] → Option Rtz24
abbrev sz24 (g : gz24) : Sm := ⟨[cPlace, cPlace], [(false, (.int .i64))], g⟩
abbrev Ez24 (g : gz24) (J : JT Rtz24) (lf : Nat) (x1 : DPlace) (x2 : DPlace) := icodeT Tryd.prog ttT.get nmz24 fi51.nt (clz24 _ lf) lf stz24 J fi51.body [] (argGo (argV [cPlace, cPlace] (x1, x2, ())) 0 .leaf) S0 [] (lastK ttT.get fi51 (sz24 g))
theorem inz24 (g : gz24) (J : JT Rtz24) (lf : Nat) (x1 : DPlace) (x2 : DPlace) : Ez24 g J lf x1 x2 = Rz24_in lf x1 x2 := by kernel_rfl
theorem ndz24 : (regs fi51.body).Nodup := by decide +kernel
theorem okz24 : okC nmz24 stz24 hdz24 fi51.body none = true := by kernel_rfl
def Az24 (g : gz24) (lf : Nat) : JT Rtz24 := atN Tryd.prog ttT.get nmz24 fi51 (sz24 g) (clz24 _ lf) lf hdz24
def Fz24 (lf : Nat) (x1 : DPlace) (x2 : DPlace) : Option Rtz24 := Rz24_in lf x1 x2
theorem runz24 (g : gz24) (lf : Nat) (x1 : DPlace) (x2 : DPlace) : Ez24 g (Az24 g lf) lf x1 x2 = Fz24 lf x1 x2 := by
   refine (inz24 g (Az24 g lf) lf x1 x2).trans ?_
   rfl
theorem hxsz24 : HxsOK Tryd.prog hxlz24 := trivial
theorem mkz24 {g : gz24} (hsm : SmOK Tryd.prog smlz24) (hg : ∀ (x : ElA [cPlace, cPlace]) (y : Rtz24), WfA [cPlace, cPlace] x → g x = some y → ∃ lf, Fz24 lf x.1 x.2.1 = some y) : Con Tryd.prog 51 ⟨[cPlace, cPlace], [(false, (.int .i64))], g⟩ :=
 conT (nmf := nmz24) (sml := smlz24) (hxl := hxlz24) (st := stz24) (hd := hdz24) 20 mixed ttOK ftOK hsm hxsz24 cal51 rfl rfl (by kernel_rfl) (fun x => by kernel_rfl) ndz24 okz24 fun x y hx hy => by
   obtain ⟨lf, h⟩ := hg x y hx hy
   exact ⟨lf, (runz24 g lf x.1 x.2.1).trans h⟩
def nmz25 : Nat → Option Nm := fun k => cond (Nat.beq k 5) (some ⟨[0, 1, 5, 8, 10, 39, 40, 41], [], [], [], [], 0, 0, false⟩) (cond (Nat.beq k 19) (some ⟨[8, 16, 18, 20, 22, 24, 25, 128, 129, 130], [(24, cToken), (25, cToken)], [], [], [], 0, 0, false⟩) (none))
def stz25 : Nat → Bool := fun k => cond (Nat.beq k 5) true (cond (Nat.beq k 19) true (false))
def hdz25 := stz25
abbrev Rtz25 : Type := (List DToken) × Int × DPlace × Int × Unit
def smlz25 : List (Nat × Sm) := [(18, spz15), (14, spz16), (16, spz14), (23, sp_strings_Split), (51, spz24), (52, spz21)]
def hxlz25 : List (Nat × Hx) := [(48, hxG (hxSel (lastFn 49) (hxR spz17) (hxR spz18)))]
def clz25 (R : Type) (lf : Nat) : ClK R := icallK Tryd.prog ttT.get ftT.get (nm1 25 nmz25) (smL smlz25) (hxL hxlz25) lf 20 R
abbrev idz25 : Nat := 25
def encz25_5 (x1 : (List DToken)) (x2 : ByteArray) (x3 : DChange) (p : ByteArray × Int) : NRes := (NRes.mk (.node (some (IV.lst cToken x1)) (.node (some (IV.str x2)) (.node none (.node none .leaf (.node none (.node (some (IV.lst cToken x1)) .leaf .leaf) .leaf)) .leaf) (.node (some (IV.ptr 0 0)) (.node none .leaf (.node none (.node (some (IV.int .i64 p.2)) .leaf .leaf) .leaf)) .leaf)) (.node none (.node none (.node (some (IV.ptr 1 0)) .leaf (.node none (.node (some (IV.int .i64 (Int.ofNat (List.length x1)))) .leaf .leaf) .leaf)) .leaf) (.node none (.node (some (IV.str p.1)) .leaf .leaf) .leaf))) (IS.mk (.node (some (IObj.row (List.cons (IV.int .i64 x3.1) (List.cons (IV.int .i64 x3.2.1) (List.cons (IV.str x3.2.2) []))))) (.node (some (IObj.row (List.cons (IV.int .i64 (Int.ofNat 0)) (List.cons (IV.int .i64 (Int.ofNat 0)) [])))) .leaf .leaf) .leaf) 2) [] 0)
def encz25_19 (x1 : (List DToken)) (x2 : ByteArray) (x3 : DChange) (p : (List DToken) × Int × Int × Int × Int × Int × Int × Int × (List DToken) × (List DToken)) : NRes := (NRes.mk (.node none (.node none .leaf (.node none (.node none (.node none (.node none (.node none (.node (some (IV.int .i64 (Int.ofNat (List.length x1)))) .leaf .leaf) .leaf) .leaf) .leaf) (.node (some (IV.arr 6)) .leaf .leaf)) .leaf)) (.node none (.node none (.node (some (IV.ptr 0 0)) (.node (some (IV.ptr 1 0)) (.node none (.node none (.node (some (IV.lst cToken x1)) .leaf .leaf) .leaf) .leaf) .leaf) (.node (some (IV.arr 5)) .leaf .leaf)) (.node none (.node (some (IV.ptr 3 0)) .leaf .leaf) .leaf)) (.node none (.node none (.node (some (IV.ptr 2 0)) (.node none (.node none (.node (some (IV.int .i64 p.2.2.2.2.2.2.2.1)) .leaf .leaf) .leaf) .leaf) .leaf) .leaf) (.node none (.node (some (IV.arr 4)) .leaf .leaf) .leaf)))) (IS.mk (.node (some (IObj.row (List.cons (IV.int .i64 (Int.ofNat 0)) (List.cons (IV.int .i64 (Int.ofNat 0)) [])))) (.node (some (IObj.row (List.cons (IV.int .i64 p.2.1) (List.cons (IV.int .i64 p.2.2.1) [])))) (.node (some (IObj.row (List.cons (IV.int .i64 p.2.2.2.1) (List.cons (IV.int .i64 p.2.2.2.2.1) [])))) .leaf .leaf) (.node (some (IObj.arr cToken p.2.2.2.2.2.2.2.2.2)) .leaf .leaf)) (.node (some (IObj.row (List.cons (IV.int .i64 p.2.2.2.2.2.1) (List.cons (IV.int .i64 p.2.2.2.2.2.2.1) [])))) (.node (some (IObj.arr cToken p.1)) .leaf .leaf) (.node (some (IObj.arr cToken p.2.2.2.2.2.2.2.2.1)) .leaf .leaf))) 7) [] 0)
def Rz25_in (lf : Nat) (x1 : (List DToken)) (x2 : ByteArray) (x3 : DChange) (L5 : (ByteArray × Int) → Option Rtz25) : Option Rtz25 := (match (cond (Bool.and (S.fits x2) (S.fits x3.2.2)) (some ((S.edit x2 (x3.1, (x3.2.1, x3.2.2))).1, ((S.edit x2 (x3.1, (x3.2.1, x3.2.2))).2, ()))) none) with | .none  => none | .some v0 => (cond (Bool.not (ieqI v0.2.1 (Int.ofNat 0))) (some ([], ((Int.ofNat 0), (((Int.ofNat 0), (Int.ofNat 0)), (v0.2.1, ()))))) (L5 (v0.1, (Int.ofNat 0)))))
def Rz25_5 (lf : Nat) (x1 : (List DToken)) (x2 : ByteArray) (x3 : DChange) (L5 : (ByteArray × Int) → Option Rtz25) (L19 : ((List DToken) × Int × Int × Int × Int × Int × Int × Int × (List DToken) × (List DToken)) → Option Rtz25) (p : ByteArray × Int) : Option Rtz25 := (cond (iltI p.2 (Int.ofNat (List.length x1))) (match (jget x1 p.2) with | .none  => none | .some v0 => (match (cond (S.fits x2) (some ((S.offset x2 (v0.2.2.1, v0.2.2.2)).1, ((S.offset x2 (v0.2.2.1, v0.2.2.2)).2, ()))) none) with | .none  => none | .some v1 => (cond (Bool.not (ieqI v1.2.1 (Int.ofNat 0))) (some ([], ((Int.ofNat 0), (((Int.ofNat 0), (Int.ofNat 0)), ((Int.ofNat 1), ()))))) (cond (iltI (Int.ofNat 0) p.2) (match (jget x1 (IntKind.i64.wrap (Int.sub p.2 (Int.ofNat 1)))) with | .none  => none | .some v2 => (cond (Bool.and (keqI v2.2.2.1 v0.2.2.1) (Bool.and (keqI v2.2.2.2 v0.2.2.2) Bool.true)) (some ([], ((Int.ofNat 0), (((Int.ofNat 0), (Int.ofNat 0)), ((Int.ofNat 1), ()))))) (match (jget x1 (IntKind.i64.wrap (Int.sub p.2 (Int.ofNat 1)))) with | .none  => none | .some v3 => (cond (iltI (Int.ofNat 0) (S.comparePl (v3.2.2.1, v3.2.2.2) (v0.2.2.1, v0.2.2.2))) (some ([], ((Int.ofNat 0), (((Int.ofNat 0), (Int.ofNat 0)), ((Int.ofNat 1), ()))))) (L5 (p.1, (IntKind.i64.wrap (Int.add p.2 (Int.ofNat 1))))))))) (L5 (p.1, (IntKind.i64.wrap (Int.add p.2 (Int.ofNat 1))))))))) (match (cond (S.fits x2) (some ((S.placeOf x2 x3.1).1, ((S.placeOf x2 x3.1).2, ()))) none) with | .none  => none | .some v27 => (match (cond (S.fits x2) (some ((S.placeOf x2 x3.2.1).1, ((S.placeOf x2 x3.2.1).2, ()))) none) with | .none  => none | .some v28 => (match (cond (S.fits p.1) (some ((S.placeOf p.1 (IntKind.i64.wrap (Int.add x3.1 (Int.ofNat (ByteArray.size x3.2.2))))).1, ((S.placeOf p.1 (IntKind.i64.wrap (Int.add x3.1 (Int.ofNat (ByteArray.size x3.2.2))))).2, ()))) none) with | .none  => none | .some v29 => (match (cond (Bool.and Bool.true (S.fits p.1)) (some ((S.lines p.1), ())) none) with | .none  => none | .some v30 => (cond (lchk (IntKind.i64.wrap (Int.sub v27.1.1 (Int.ofNat 1))) v29.1.1 (Int.ofNat (List.length v30.1)) (Int.ofNat (List.length v30.1))) (match (cond (S.okL (lsub v30.1 (IntKind.i64.wrap (Int.sub v27.1.1 (Int.ofNat 1))) v29.1.1) v27.1.1) (some (((S.readX S.wTok (lsub v30.1 (IntKind.i64.wrap (Int.sub v27.1.1 (Int.ofNat 1))) v29.1.1) v27.1.1).1, ((S.readX S.wTok (lsub v30.1 (IntKind.i64.wrap (Int.sub v27.1.1 (Int.ofNat 1))) v29.1.1) v27.1.1).2.1, ((S.readX S.wTok (lsub v30.1 (IntKind.i64.wrap (Int.sub v27.1.1 (Int.ofNat 1))) v29.1.1) v27.1.1).2.2, ()))), ())) none) with | .none  => none | .some v31 => (cond (Bool.not (ieqI v31.1.2.2.1 (Int.ofNat 0))) (some ([], ((Int.ofNat 0), ((v31.1.2.1.1, v31.1.2.1.2), (v31.1.2.2.1, ()))))) (L19 (v31.1.1, v27.1.1, v27.1.2, v29.1.1, v29.1.2, v28.1.1, v28.1.2, (Int.ofNat 0), [], [])))) none))))))
def Rz25_19 (lf : Nat) (x1 : (List DToken)) (x2 : ByteArray) (x3 : DChange) (L19 : ((List DToken) × Int × Int × Int × Int × Int × Int × Int × (List DToken) × (List DToken)) → Option Rtz25) (p : (List DToken) × Int × Int × Int × Int × Int × Int × Int × (List DToken) × (List DToken)) : Option Rtz25 := (cond (iltI p.2.2.2.2.2.2.2.1 (Int.ofNat (List.length x1))) (match (jget x1 p.2.2.2.2.2.2.2.1) with | .none  => none | .some v0 => (cond (iltI v0.2.2.1 p.2.1) (cond (Nat.ble (Nat.mul (Nat.add (List.length p.2.2.2.2.2.2.2.2.2) 1) 40) 140737488355328) (L19 (p.1, p.2.1, p.2.2.1, p.2.2.2.1, p.2.2.2.2.1, p.2.2.2.2.2.1, p.2.2.2.2.2.2.1, (IntKind.i64.wrap (Int.add p.2.2.2.2.2.2.2.1 (Int.ofNat 1))), p.2.2.2.2.2.2.2.2.1, (List.append p.2.2.2.2.2.2.2.2.2 (List.cons (v0.1, (v0.2.1, (v0.2.2.1, v0.2.2.2))) [])))) none) (cond (iltI p.2.2.2.2.2.1 v0.2.2.1) (cond (Nat.ble (Nat.mul (Nat.add (List.length p.2.2.2.2.2.2.2.2.1) 1) 40) 140737488355328) (L19 (p.1, p.2.1, p.2.2.1, p.2.2.2.1, p.2.2.2.2.1, p.2.2.2.2.2.1, p.2.2.2.2.2.2.1, (IntKind.i64.wrap (Int.add p.2.2.2.2.2.2.2.1 (Int.ofNat 1))), (List.append p.2.2.2.2.2.2.2.2.1 (List.cons (v0.1, (v0.2.1, ((IntKind.i64.wrap (Int.add v0.2.2.1 (IntKind.i64.wrap (Int.sub p.2.2.2.1 p.2.2.2.2.2.1)))), v0.2.2.2))) [])), p.2.2.2.2.2.2.2.2.2)) none) (L19 (p.1, p.2.1, p.2.2.1, p.2.2.2.1, p.2.2.2.2.1, p.2.2.2.2.2.1, p.2.2.2.2.2.2.1, (IntKind.i64.wrap (Int.add p.2.2.2.2.2.2.2.1 (Int.ofNat 1))), p.2.2.2.2.2.2.2.2.1, p.2.2.2.2.2.2.2.2.2))))) (match (cond (Nat.ble (List.length (List.append p.2.2.2.2.2.2.2.2.2 (List.append p.1 (List.append p.2.2.2.2.2.2.2.2.1 [])))) 1000000000) (some ((List.append p.2.2.2.2.2.2.2.2.2 (List.append p.1 (List.append p.2.2.2.2.2.2.2.2.1 []))), ())) none) with | .none  => none | .some v76 => (cond (iltI (Int.ofNat 6000) (Int.ofNat (List.length v76.1))) (some ([], ((Int.ofNat 0), (((Int.ofNat 0), (Int.ofNat 0)), ((Int.ofNat 3), ()))))) (some (v76.1, ((Int.ofNat (List.length p.1)), (((Int.ofNat 0), (Int.ofNat 0)), ((Int.ofNat 0), ()))))))))
abbrev gz25 : Type := ElA [(.list cToken), .str, cChange] → Option Rtz25
abbrev sz25 (g : gz25) : Sm := ⟨[(.list cToken), .str, cChange], [(true, cToken), (false, (.int .i64)), (false, cPlace), (false, (.int .i64))], g⟩
abbrev Ez25 (g : gz25) (J : JT Rtz25) (lf : Nat) (x1 : (List DToken)) (x2 : ByteArray) (x3 : DChange) := icodeT Tryd.prog ttT.get nmz25 fi25.nt (clz25 _ lf) lf stz25 J fi25.body [] (argGo (argV [(.list cToken), .str, cChange] (x1, x2, x3, ())) 0 .leaf) S0 [] (lastK ttT.get fi25 (sz25 g))
abbrev Bz25 (g : gz25) (J : JT Rtz25) (lf k : Nat) (ms : List Nat) (q : NRes) := icodeFT Tryd.prog ttT.get nmz25 fi25.nt (clz25 _ lf) lf stz25 J k fi25.body [] ms q (lastK ttT.get fi25 (sz25 g))
theorem inz25 (g : gz25) (J : JT Rtz25) (lf : Nat) (x1 : (List DToken)) (x2 : ByteArray) (x3 : DChange) : Ez25 g J lf x1 x2 x3 = Rz25_in lf x1 x2 x3 (fun q => J 5 [lf] (encz25_5 x1 x2 x3 q)) := by kernel_rfl
theorem stz25_5 (g : gz25) (J : JT Rtz25) (lf : Nat) (x1 : (List DToken)) (x2 : ByteArray) (x3 : DChange) (m1 : Nat) (p : ByteArray × Int) : Bz25 g J lf 5 [m1] (encz25_5 x1 x2 x3 p) = Rz25_5 lf x1 x2 x3 (fun q => J 5 [m1] (encz25_5 x1 x2 x3 q)) (fun q => J 19 [lf] (encz25_19 x1 x2 x3 q)) p := by kernel_rfl
theorem stz25_19 (g : gz25) (J : JT Rtz25) (lf : Nat) (x1 : (List DToken)) (x2 : ByteArray) (x3 : DChange) (m1 : Nat) (p : (List DToken) × Int × Int × Int × Int × Int × Int × Int × (List DToken) × (List DToken)) : Bz25 g J lf 19 [m1] (encz25_19 x1 x2 x3 p) = Rz25_19 lf x1 x2 x3 (fun q => J 19 [m1] (encz25_19 x1 x2 x3 q)) p := by kernel_rfl
theorem ndz25 : (regs fi25.body).Nodup := by decide +kernel
theorem okz25 : okC nmz25 stz25 hdz25 fi25.body none = true := by kernel_rfl
def Az25 (g : gz25) (lf : Nat) : JT Rtz25 := atN Tryd.prog ttT.get nmz25 fi25 (sz25 g) (clz25 _ lf) lf hdz25
def Gz25_19 (lf : Nat) (x1 : (List DToken)) (x2 : ByteArray) (x3 : DChange) : Nat → ((List DToken) × Int × Int × Int × Int × Int × Int × Int × (List DToken) × (List DToken)) → Option Rtz25 := rounds fun K p => Rz25_19 lf x1 x2 x3 K p
theorem atz25_19 (g : gz25) (lf : Nat) (x1 : (List DToken)) (x2 : ByteArray) (x3 : DChange) : ∀ (n : Nat) (p : (List DToken) × Int × Int × Int × Int × Int × Int × Int × (List DToken) × (List DToken)), Az25 g lf 19 [n] (encz25_19 x1 x2 x3 p) = Gz25_19 lf x1 x2 x3 n p
 | 0, p => atN_zero 19 [0] rfl _
 | n + 1, p => by
   have ih := atz25_19 g lf x1 x2 x3 n
   refine (atN_eq (icallK_eq 20 _) ndz25 okz25 19 [n + 1] [n] rfl _).trans ((stz25_19 g (Az25 g lf) lf x1 x2 x3 n p).trans ?_)
   rw [(show (fun q => Az25 g lf 19 [n] (encz25_19 x1 x2 x3 q)) = (fun q => Gz25_19 lf x1 x2 x3 n q) from funext ih)]
   rfl
def Gz25_5 (lf : Nat) (x1 : (List DToken)) (x2 : ByteArray) (x3 : DChange) : Nat → (ByteArray × Int) → Option Rtz25 := rounds fun K p => Rz25_5 lf x1 x2 x3 K (fun q => Gz25_19 lf x1 x2 x3 lf q) p
theorem atz25_5 (g : gz25) (lf : Nat) (x1 : (List DToken)) (x2 : ByteArray) (x3 : DChange) : ∀ (n : Nat) (p : ByteArray × Int), Az25 g lf 5 [n] (encz25_5 x1 x2 x3 p) = Gz25_5 lf x1 x2 x3 n p
 | 0, p => atN_zero 5 [0] rfl _
 | n + 1, p => by
   have ih := atz25_5 g lf x1 x2 x3 n
   refine (atN_eq (icallK_eq 20 _) ndz25 okz25 5 [n + 1] [n] rfl _).trans ((stz25_5 g (Az25 g lf) lf x1 x2 x3 n p).trans ?_)
   rw [(show (fun q => Az25 g lf 19 [lf] (encz25_19 x1 x2 x3 q)) = (fun q => Gz25_19 lf x1 x2 x3 lf q) from funext fun q => atz25_19 g lf x1 x2 x3 lf q), (show (fun q => Az25 g lf 5 [n] (encz25_5 x1 x2 x3 q)) = (fun q => Gz25_5 lf x1 x2 x3 n q) from funext ih)]
   rfl
def Fz25 (lf : Nat) (x1 : (List DToken)) (x2 : ByteArray) (x3 : DChange) : Option Rtz25 := Rz25_in lf x1 x2 x3 (fun q => Gz25_5 lf x1 x2 x3 lf q)
theorem runz25 (g : gz25) (lf : Nat) (x1 : (List DToken)) (x2 : ByteArray) (x3 : DChange) : Ez25 g (Az25 g lf) lf x1 x2 x3 = Fz25 lf x1 x2 x3 := by
   refine (inz25 g (Az25 g lf) lf x1 x2 x3).trans ?_
   rw [(show (fun q => Az25 g lf 5 [lf] (encz25_5 x1 x2 x3 q)) = (fun q => Gz25_5 lf x1 x2 x3 lf q) from funext fun q => atz25_5 g lf x1 x2 x3 lf q)]
   rfl
theorem hxsz25 : HxsOK Tryd.prog hxlz25 := ⟨hxG_ok (hxSel_ok (hxR_ok conz17) (hxR_ok conz18)), trivial⟩
theorem mkz25 {g : gz25} (hsm : SmOK Tryd.prog smlz25) (hg : ∀ (x : ElA [(.list cToken), .str, cChange]) (y : Rtz25), WfA [(.list cToken), .str, cChange] x → g x = some y → ∃ lf, Fz25 lf x.1 x.2.1 x.2.2.1 = some y) : Con Tryd.prog 25 ⟨[(.list cToken), .str, cChange], [(true, cToken), (false, (.int .i64)), (false, cPlace), (false, (.int .i64))], g⟩ :=
 conT (nmf := nmz25) (sml := smlz25) (hxl := hxlz25) (st := stz25) (hd := hdz25) 20 mixed ttOK ftOK hsm hxsz25 cal25 rfl rfl (by kernel_rfl) (fun x => by kernel_rfl) ndz25 okz25 fun x y hx hy => by
   obtain ⟨lf, h⟩ := hg x y hx hy
   exact ⟨lf, (runz25 g lf x.1 x.2.1 x.2.2.1).trans h⟩


def smSan : List (Nat × Sm) := [(36, sp_x_Keywords), (42, sp_strings_Count), (122, sp_internal_stringslite_IndexByte), (32, spz11)]
def hxSan : List (Nat × Hx) := [(79, ccHx), (47, bsHx)]
theorem run_l_sanity : icallK Tryd.prog ttT.get ftT.get (fun _ _ => none) (smL smSan) (hxL hxSan) 1000 100 _ (.fn 13) [] S0 (runR sp_l_sanity) = some (true, ()) := by kernel_rfl
theorem con_l_sanity : Con Tryd.prog 13 sp_l_sanity :=
 conK (nm := fun _ _ => none) (sm := smL smSan) (hx := hxL hxSan) mixed ttOK ftOK (smL_ok ⟨con_x_Keywords, con_strings_Count, con_internal_stringslite_IndexByte, conz11, trivial⟩) (hxL_ok ⟨ccHx_ok, bsHx_ok, trivial⟩) cal13 fun x y hx h => ⟨100, 1000, run_l_sanity.trans h⟩
theorem sameT_self (l : List DToken) : S.sameT l l = true := decide_eq_true rfl
theorem ieq_self (a : Int) : ieqI a a = true := ieq_t rfl


theorem readL_line : ∀ (A : List (List Int)) (n : Int), (∀ t ∈ (S.readL A n).1, n ≤ t.2.2.1 ∧ t.2.2.1 < n + (A.length : Int)) ∧ (¬ (S.readL A n).2.2 = 0 → n ≤ (S.readL A n).2.1.1 ∧ (S.readL A n).2.1.1 < n + (A.length : Int))
 | [], n => ⟨fun t h => (by cases h), fun h => absurd rfl h⟩
 | x :: A, n => by
   obtain ⟨h1, h2⟩ := readL_line A (n + 1)
   rw [readL_cons]
   have hl : ((x :: A).length : Int) = (A.length : Int) + 1 := by rw [List.length_cons]; omega
   split
   · refine ⟨fun t h => (by cases h), fun _ => ?_⟩
     show n ≤ n ∧ n < n + ((x :: A).length : Int)
     omega
   split
   · refine ⟨fun t ht => ?_, fun h => absurd rfl h⟩
     rcases List.mem_append.1 ht with ht | ht
     · unfold S.at_ at ht
       obtain ⟨p, _, rfl⟩ := List.mem_map.1 ht
       show n ≤ n ∧ n < n + ((x :: A).length : Int)
       omega
     · have := h1 t ht
       omega
   · refine ⟨fun t ht => ?_, fun h => ?_⟩
     · have := h1 t ht
       omega
     · have := h2 h
       omega
theorem filter_move (k : Int) (l : List DToken) : (l.map (moveT k)).filter S.isTok = (l.filter S.isTok).map (moveT k) := by
 rw [List.filter_map]; rfl
theorem split_app : ∀ (X Y : List Int), ∃ (i : List (List Int)) (x y : List Int) (t : List (List Int)), S.splitL X = i ++ [x] ∧ S.splitL Y = y :: t ∧ S.splitL (X ++ Y) = i ++ (x ++ y) :: t
 | [], Y => by
   obtain ⟨y, t, e⟩ := splitL_ne Y
   exact ⟨[], [], y, t, rfl, e, e⟩
 | b :: X, Y => by
   obtain ⟨i, x, y, t, h1, h2, h3⟩ := split_app X Y
   by_cases hb : b = 10
   · subst hb
     exact ⟨[] :: i, x, y, t, by rw [splitL_nl, h1]; rfl, h2, by rw [List.cons_append, splitL_nl, h3]; rfl⟩
   · obtain ⟨x0, xs, e1, e2⟩ := splitL_b hb X
     obtain ⟨z0, zs, e3, e4⟩ := splitL_b hb (X ++ Y)
     rw [h1] at e1
     rw [h3] at e3
     cases i with
     | nil =>
       rw [List.nil_append] at e1 e3
       injection e1 with g1 g2
       injection e3 with g3 g4
       refine ⟨[], b :: x, y, t, ?_, h2, ?_⟩
       · rw [e2, ← g1, ← g2]; rfl
       · rw [List.cons_append, e4, ← g3, ← g4]; rfl
     | cons i0 i =>
       rw [List.cons_append] at e1 e3
       injection e1 with g1 g2
       injection e3 with g3 g4
       refine ⟨(b :: i0) :: i, x, y, t, ?_, h2, ?_⟩
       · rw [e2, ← g1, ← g2]; rfl
       · rw [List.cons_append, e4, ← g3, ← g4]; rfl
theorem split_take (X Y Y' : List Int) : (S.splitL (X ++ Y)).take (X.count 10) = (S.splitL (X ++ Y')).take (X.count 10) := by
 obtain ⟨i, x, y, t, h1, _, h3⟩ := split_app X Y
 obtain ⟨i', x', y', t', h1', _, h3'⟩ := split_app X Y'
 have hl := splitL_len X
 have e : i = i' ∧ [x] = [x'] := List.append_inj' (h1.symm.trans h1') rfl
 rw [h1, List.length_append] at hl
 simp only [List.length_cons, List.length_nil] at hl
 have hi : X.count 10 = i.length := by omega
 rw [h3, h3', hi, List.take_left, ← e.1, List.take_left]
theorem split_drop (X Y : List Int) : (S.splitL (X ++ Y)).drop (X.count 10 + 1) = (S.splitL Y).drop 1 := by
 obtain ⟨i, x, y, t, h1, h2, h3⟩ := split_app X Y
 have hl := splitL_len X
 rw [h1, List.length_append] at hl
 simp only [List.length_cons, List.length_nil] at hl
 have hi : X.count 10 + 1 = i.length + 1 := by omega
 rw [h3, h2, hi, List.drop_length_add_append]
 rfl
theorem edit_inv {s : ByteArray} {c : DChange} (h : (S.edit s c).2 = 0) : ∃ a b : Nat, c.1 = (a : Int) ∧ c.2.1 = (b : Int) ∧ a ≤ b ∧ b ≤ s.size ∧ byteList (S.edit s c).1 = (byteList s).take a ++ byteList c.2.2 ++ (byteList s).drop b ∧ (S.edit s c).1.size = s.size - (b - a) + c.2.2.size ∧ (S.edit s c).1.size ≤ 20000 := by
 by_cases h1 : c.1 < 0 ∨ c.2.1 < c.1 ∨ Int.ofNat s.size < c.2.1
 · have e : S.edit s c = (S.lit [], 1) := by unfold S.edit; rw [if_pos h1]
   rw [e] at h
   exact absurd (show (1 : Int) = 0 from h) (by decide)
 · by_cases h2 : 20000 < Int.ofNat s.size - (c.2.1 - c.1) + Int.ofNat c.2.2.size
   · have e : S.edit s c = (S.lit [], 3) := by unfold S.edit; rw [if_neg h1, if_pos h2]
     rw [e] at h
     exact absurd (show (3 : Int) = 0 from h) (by decide)
   · have e : S.edit s c = (s.extract 0 c.1.toNat ++ c.2.2 ++ s.extract c.2.1.toNat s.size, 0) := by unfold S.edit; rw [if_neg h1, if_neg h2]
     have h1' : ¬ c.1 < 0 ∧ ¬ c.2.1 < c.1 ∧ ¬ (s.size : Int) < c.2.1 := ⟨fun x => h1 (.inl x), fun x => h1 (.inr (.inl x)), fun x => h1 (.inr (.inr x))⟩
     have h2' : ¬ 20000 < (s.size : Int) - (c.2.1 - c.1) + (c.2.2.size : Int) := h2
     obtain ⟨g1, g2, g3⟩ := h1'
     have hb : byteList (S.edit s c).1 = (byteList s).take c.1.toNat ++ byteList c.2.2 ++ (byteList s).drop c.2.1.toNat := by
       rw [e]
       simp only
       rw [bl_append, bl_append, bl_take, bl_drop s _ s.size (Nat.le_refl _)]
     have hsz : (S.edit s c).1.size = s.size - (c.2.1.toNat - c.1.toNat) + c.2.2.size := by
       rw [← bl_len, hb, List.length_append, List.length_append, List.length_take, List.length_drop, bl_len, bl_len]
       omega
     exact ⟨c.1.toNat, c.2.1.toNat, by omega, by omega, by omega, by omega, hb, hsz, by rw [hsz]; omega⟩
theorem place_count : ∀ (l : List Int) (n c : Int), (S.placeGo l n c).1 = n + ((l.count 10 : Nat) : Int)
 | [], n, c => by show n = n + ((0 : Nat) : Int); omega
 | b :: l, n, c => by
   by_cases hb : b = 10
   · subst hb
     rw [place_nl, place_count l, List.count_cons_self]; omega
   · rw [place_b hb, place_count l, List.count_cons_of_ne (fun e => hb e)]
theorem placeOf_count (s : ByteArray) (a : Nat) (h : a ≤ s.size) : (S.placeOf s (a : Int)).1.1 = 1 + ((((byteList s).take a).count 10 : Nat) : Int) := by
 unfold S.placeOf
 rw [if_neg (by simp only [Int.ofNat_eq_natCast]; omega)]
 exact place_count _ 1 1
theorem pcs_len : ∀ (f : Nat) (r : List Int) (c : Nat), (S.pcs f r c).1.length ≤ r.length
 | 0, r, _ => Nat.zero_le _
 | f + 1, [], _ => Nat.zero_le _
 | f + 1, b :: r, c => by
   have hpc : S.pcs (f + 1) (b :: r) c = if b = 32 then S.pcs f r (c + 1) else if (S.tok (b :: r)).2.2.1 = 0 then (((S.tok (b :: r)).2.1, strOf ((b :: r).take (S.tok (b :: r)).1), c) :: (S.pcs f ((b :: r).drop (S.tok (b :: r)).1) (c + (S.tok (b :: r)).1)).1, (S.pcs f ((b :: r).drop (S.tok (b :: r)).1) (c + (S.tok (b :: r)).1)).2) else ([], some (c + (S.tok (b :: r)).2.2.2, (S.tok (b :: r)).2.2.1)) := rfl
   rw [hpc]
   split
   · have := pcs_len f r (c + 1)
     rw [List.length_cons]; omega
   split
   · rename_i h0
     obtain ⟨t1, t2⟩ := tok_le h0 (by simp)
     have := pcs_len f ((b :: r).drop (S.tok (b :: r)).1) (c + (S.tok (b :: r)).1)
     rw [List.length_drop] at this
     show (_ :: _ : List _).length ≤ _
     rw [List.length_cons]
     rw [List.length_cons] at t2 this ⊢
     omega
   · exact Nat.zero_le _
theorem readL_len (N : Nat) : ∀ (ls : List (List Int)) (n : Int), (∀ x ∈ ls, x.length ≤ N) → (S.readL ls n).1.length ≤ N * ls.length
 | [], n, _ => Nat.zero_le _
 | x :: ls, n, h => by
   have ih := readL_len N ls (n + 1) fun y hy => h y (List.mem_cons_of_mem _ hy)
   have hx := h x List.mem_cons_self
   have hp := pcs_len (x.length + 1) x 1
   rw [readL_cons, List.length_cons, Nat.mul_succ]
   split
   · exact Nat.zero_le _
   split
   · rw [List.length_append]
     unfold S.at_
     rw [List.length_map]
     omega
   · omega
theorem offset_range {s : ByteArray} {p : DPlace} (h : (S.offset s p).2 = 0) : ∃ (k j : Nat) (x : List Int), p = (1 + (k : Int), 1 + (j : Int)) ∧ (S.splitL (byteList s))[k]? = some x ∧ j ≤ x.length := by
 unfold S.offset S.offsetL at h
 split at h
 · exact absurd (show (1 : Int) = 0 from h) (by decide)
 · rename_i h1
   cases hx : (S.splitL (byteList s))[(p.1 - 1).toNat]? with
   | none => rw [hx] at h; exact absurd (show (1 : Int) = 0 from h) (by decide)
   | some x =>
     rw [hx] at h
     simp only at h
     split at h
     · exact absurd (show (1 : Int) = 0 from h) (by decide)
     · rename_i h2
       have h1' : ¬ p.1 < 1 ∧ ¬ p.2 < 1 := ⟨fun e => h1 (.inl e), fun e => h1 (.inr (.inr e))⟩
       have h2' : ¬ (x.length : Int) + 1 < p.2 := h2
       refine ⟨(p.1 - 1).toNat, (p.2 - 1).toNat, x, Prod.ext ?_ ?_, hx, ?_⟩
       · show p.1 = 1 + (((p.1 - 1).toNat : Nat) : Int)
         omega
       · show p.2 = 1 + (((p.2 - 1).toNat : Nat) : Int)
         omega
       · omega
theorem sum_nonneg : ∀ l : List (List Int), 0 ≤ S.sumLen l
 | [] => Int.le_refl _
 | x :: l => by rw [sum_cons]; have := sum_nonneg l; omega
theorem sum_app : ∀ a b : List (List Int), S.sumLen (a ++ b) = S.sumLen a + S.sumLen b
 | [], b => by show S.sumLen b = 0 + S.sumLen b; omega
 | x :: a, b => by rw [List.cons_append, sum_cons, sum_cons, sum_app a b]; omega
theorem sum_lt {l : List (List Int)} {k k' : Nat} {x : List Int} (hx : l[k]? = some x) (h : k < k') : S.sumLen (l.take k) + (x.length : Int) + 1 ≤ S.sumLen (l.take k') := by
 have e : l.take k' = l.take (k + 1) ++ (l.take k').drop (k + 1) := by
   have := List.take_append_drop (k + 1) (l.take k')
   rw [List.take_take, show min (k + 1) k' = k + 1 by omega] at this
   exact this.symm
 have e2 : l.take (k + 1) = l.take k ++ [x] := by rw [List.take_add_one, hx]; rfl
 rw [e, sum_app, e2, sum_snoc]
 have := sum_nonneg ((l.take k').drop (k + 1))
 omega
theorem place_lt {s : ByteArray} {p q : DPlace} {o1 o2 : Int} (hp : S.offset s p = (o1, 0)) (hq : S.offset s q = (o2, 0)) (h : o1 < o2) : ¬ p = q ∧ S.comparePl p q < 0 := by
 obtain ⟨k1, j1, x1, rfl, a2, a3⟩ := offset_range (s := s) (p := p) (by rw [hp])
 obtain ⟨k2, j2, x2, rfl, b2, b3⟩ := offset_range (s := s) (p := q) (by rw [hq])
 rw [offset_at a2 a3] at hp
 rw [offset_at b2 b3] at hq
 have e1 : (j1 : Int) + S.sumLen ((S.splitL (byteList s)).take k1) = o1 := congrArg Prod.fst hp
 have e2 : (j2 : Int) + S.sumLen ((S.splitL (byteList s)).take k2) = o2 := congrArg Prod.fst hq
 have hk : k1 ≤ k2 := by
   refine Nat.le_of_not_lt fun hlt => ?_
   have := sum_lt b2 hlt
   omega
 have hne : ¬ (k1 = k2 ∧ ¬ j1 < j2) := by
   rintro ⟨rfl, h2⟩
   omega
 constructor
 · intro e
   obtain ⟨g1, g2⟩ := Prod.mk.inj e
   exact hne ⟨by omega, by omega⟩
 · show (if S.cmpI (1 + (k1 : Int)) (1 + (k2 : Int)) = 0 then S.cmpI (1 + (j1 : Int)) (1 + (j2 : Int)) else S.cmpI (1 + (k1 : Int)) (1 + (k2 : Int))) < 0
   by_cases c : k1 = k2
   · subst c
     have hj : j1 < j2 := Nat.lt_of_not_le fun hle => hne ⟨rfl, by omega⟩
     have e0 : S.cmpI (1 + (k1 : Int)) (1 + (k1 : Int)) = 0 := by
       unfold S.cmpI
       rw [if_neg (Int.lt_irrefl _), if_neg (Int.lt_irrefl _)]
     have e1 : S.cmpI (1 + (j1 : Int)) (1 + (j2 : Int)) = -1 := if_pos (by omega)
     rw [if_pos e0, e1]
     decide
   · have e1 : S.cmpI (1 + (k1 : Int)) (1 + (k2 : Int)) = -1 := if_pos (by omega)
     rw [if_neg (by rw [e1]; decide), e1]
     decide
theorem ordered_cons (s : ByteArray) (pv : Option DPlace) (t : DToken) (l : List DToken) : S.orderedGo s pv (t :: l) = (decide ((S.offset s t.2.2).2 = 0) && ((match pv with | none => true | some p => !(decide (p = t.2.2)) && !(decide (0 < S.comparePl p t.2.2))) && S.orderedGo s (some t.2.2) l)) := rfl
theorem stand_ordered {s : ByteArray} : ∀ {l : List DToken} {m : Nat} (pv : Option DPlace), stand s l m → (∀ p, pv = some p → ∃ o : Nat, S.offset s p = (Int.ofNat o, 0) ∧ o < m) → S.orderedGo s pv l = true
 | [], _, _, _, _ => rfl
 | t :: l, m, pv, ⟨o, h1, h2, h3, h4, h5, h6⟩, hp => by
   have ih := stand_ordered (some t.2.2) h6 fun p e => by
     cases e
     exact ⟨o, h1, by omega⟩
   rw [ordered_cons]
   rw [ih, h1]
   cases pv with
   | none => rfl
   | some p =>
     obtain ⟨o', g1, g2⟩ := hp p rfl
     obtain ⟨n1, n2⟩ := place_lt g1 h1 (by show (o' : Int) < (o : Int); omega)
     show (true && ((!(decide (p = t.2.2)) && !(decide (0 < S.comparePl p t.2.2))) && true)) = true
     rw [decide_eq_false n1, decide_eq_false (by omega)]
     rfl
theorem Fz22_eq (lf : Nat) (a b : Int) : Fz22 lf a b = some (S.cmpI a b, ()) := by
 simp only [Fz22, Rz22_in, ieq_self, Bool.not_true, cond_false, S.cmpI]
 by_cases h1 : a < b
 · rw [ilt_t h1, cond_true, if_pos h1]; rfl
 · rw [ilt_f h1, cond_false, if_neg h1]
   by_cases h2 : b < a
   · rw [ilt_t h2, cond_true, if_pos h2]; rfl
   · rw [ilt_f h2, cond_false, if_neg h2]; rfl
theorem conz22 : Con Tryd.prog idz22 spz22 := mkz22 trivial fun x y hx h => ⟨0, (Fz22_eq 0 x.1 x.2.1).trans h⟩
theorem Fz23_eq (l : List Int) (hl : l.length < LF) : Fz23 LF l = some (S.orI l, ()) := by
 have key : Gz23_3 LF l LF (Int.ofNat 0) = some (S.orI l, ()) := by
   refine range1 l (fun rest _ => some (S.orI rest, ())) hl (fun K => ?_) (fun K i v rest r h => ?_)
   · simp only [Rz23_3, ilt_self, cond_false]
     rfl
   · simp only [Rz23_3, r.ilt, r.get, r.next, cond_true]
     show _ = some (if v = 0 then S.orI rest else v, ())
     by_cases h0 : v = 0
     · rw [ieq_t (show v = Int.ofNat 0 from h0), Bool.not_true, cond_false, if_pos h0]
       exact h
     · rw [ieq_f (show ¬ v = Int.ofNat 0 from h0), Bool.not_false, cond_true, if_neg h0]
 exact key
theorem ints_small {l : List Int} (h : l.length * 8 ≤ 140737488355328) : l.length < LF := by unfold LF; omega
theorem conz23 : Con Tryd.prog idz23 spz23 := mkz23 trivial fun x y hx h => ⟨LF, (Fz23_eq x.1 (ints_small hx.1.1)).trans h⟩
theorem Fz24_eq (lf : Nat) (a b : DPlace) : Fz24 lf a b = some (S.comparePl a b, ()) := by
 simp only [Fz24, Rz24_in, S.orI, S.comparePl]
 by_cases h1 : S.cmpI a.1 b.1 = 0
 · rw [if_pos h1, if_pos h1]
   by_cases h2 : S.cmpI a.2 b.2 = 0
   · rw [if_pos h2, h2]
   · rw [if_neg h2]
 · rw [if_neg h1, if_neg h1]
theorem conz24 : Con Tryd.prog idz24 spz24 := mkz24 ⟨conz22, conz23, trivial⟩ fun x y hx h => ⟨0, (Fz24_eq 0 x.1 x.2.1).trans h⟩
def patched (l : List DToken) (s : ByteArray) (c : DChange) : List DToken × Int × DPlace × Int :=
 if (S.readX S.wTok (S.linesAt (S.edit s c).1 (S.placeOf s c.1).1.1 (S.placeOf (S.edit s c).1 (c.1 + Int.ofNat c.2.2.size)).1.1) (S.placeOf s c.1).1.1).2.2 = 0 then
   if 6000 < (S.aheadL l (S.placeOf s c.1).1.1 ++ ((S.readX S.wTok (S.linesAt (S.edit s c).1 (S.placeOf s c.1).1.1 (S.placeOf (S.edit s c).1 (c.1 + Int.ofNat c.2.2.size)).1.1) (S.placeOf s c.1).1.1).1 ++ S.behindL l (S.placeOf s c.1).1.1 (S.placeOf s c.2.1).1.1 ((S.placeOf (S.edit s c).1 (c.1 + Int.ofNat c.2.2.size)).1.1 - (S.placeOf s c.2.1).1.1))).length then ([], 0, (0, 0), 3)
   else (S.aheadL l (S.placeOf s c.1).1.1 ++ ((S.readX S.wTok (S.linesAt (S.edit s c).1 (S.placeOf s c.1).1.1 (S.placeOf (S.edit s c).1 (c.1 + Int.ofNat c.2.2.size)).1.1) (S.placeOf s c.1).1.1).1 ++ S.behindL l (S.placeOf s c.1).1.1 (S.placeOf s c.2.1).1.1 ((S.placeOf (S.edit s c).1 (c.1 + Int.ofNat c.2.2.size)).1.1 - (S.placeOf s c.2.1).1.1)), Int.ofNat (S.readX S.wTok (S.linesAt (S.edit s c).1 (S.placeOf s c.1).1.1 (S.placeOf (S.edit s c).1 (c.1 + Int.ofNat c.2.2.size)).1.1) (S.placeOf s c.1).1.1).1.length, (0, 0), 0)
 else ([], 0, (S.readX S.wTok (S.linesAt (S.edit s c).1 (S.placeOf s c.1).1.1 (S.placeOf (S.edit s c).1 (c.1 + Int.ofNat c.2.2.size)).1.1) (S.placeOf s c.1).1.1).2.1, (S.readX S.wTok (S.linesAt (S.edit s c).1 (S.placeOf s c.1).1.1 (S.placeOf (S.edit s c).1 (c.1 + Int.ofNat c.2.2.size)).1.1) (S.placeOf s c.1).1.1).2.2)
theorem patch_eq (l : List DToken) (s : ByteArray) (c : DChange) : S.patch l s c = if (S.edit s c).2 = 0 then cond (S.ordered s l) (patched l s c) ([], 0, (0, 0), 1) else ([], 0, (0, 0), (S.edit s c).2) := by
 show (if (S.edit s c).2 = 0 then (if S.ordered s l = true then patched l s c else ([], 0, (0, 0), 1)) else _) = _
 cases S.ordered s l <;> rfl
abbrev ret4 (r : List DToken × Int × DPlace × Int) : Option Rtz25 := some (r.1, r.2.1, r.2.2.1, r.2.2.2, ())
theorem patch_19 (l : List DToken) (s : ByteArray) (c : DChange) (fresh : List DToken) (f2 e2 t2 fr en to_ : Int) (hl : l.length ≤ 1000000) (hf : fresh.length ≤ 900000000) (ht : ∀ t ∈ l, 1 ≤ t.2.2.1 ∧ t.2.2.1 ≤ 1000001) (he : 0 ≤ en ∧ en ≤ 1000001) (hto : 0 ≤ to_ ∧ to_ ≤ 1000001) :
   Gz25_19 LF l s c LF (fresh, fr, f2, en, e2, to_, t2, Int.ofNat 0, [], []) = ret4 (if 6000 < (S.aheadL l fr ++ (fresh ++ S.behindL l fr to_ (en - to_))).length then ([], 0, (0, 0), 3) else (S.aheadL l fr ++ (fresh ++ S.behindL l fr to_ (en - to_)), Int.ofNat fresh.length, (0, 0), 0)) := by
 have key : Gz25_19 LF l s c LF (fresh, fr, f2, en, e2, to_, t2, Int.ofNat 0, [], []) = ret4 (if 6000 < (([] ++ S.aheadL l fr) ++ (fresh ++ ([] ++ S.behindL l fr to_ (en - to_)))).length then ([], 0, (0, 0), 3) else (([] ++ S.aheadL l fr) ++ (fresh ++ ([] ++ S.behindL l fr to_ (en - to_))), Int.ofNat fresh.length, (0, 0), 0)) := by
   refine range0 (σ := List DToken × List DToken) (R := Rtz25) l (fun i q => (fresh, fr, f2, en, e2, to_, t2, i, q.1, q.2)) (fun i q => q.1.length ≤ i ∧ q.2.length ≤ i) (fun rest i q => ret4 (if 6000 < ((q.2 ++ S.aheadL rest fr) ++ (fresh ++ (q.1 ++ S.behindL rest fr to_ (en - to_)))).length then ([], 0, (0, 0), 3) else ((q.2 ++ S.aheadL rest fr) ++ (fresh ++ (q.1 ++ S.behindL rest fr to_ (en - to_))), Int.ofNat fresh.length, (0, 0), 0))) (by unfold LF; omega) (fun K q hq => ?_) (fun K i v rest q hq r h => ?_) ([], []) ⟨Nat.le_refl _, Nat.le_refl _⟩
   · obtain ⟨q1, q2⟩ := q
     obtain ⟨h1, h2⟩ := hq
     simp only at h1 h2
     have hj : Nat.ble (List.append q2 (List.append fresh (List.append q1 []))).length 1000000000 = true := Nat.ble_eq_true_of_le (by
       show (q2 ++ (fresh ++ (q1 ++ []))).length ≤ _
       rw [List.append_nil, List.length_append, List.length_append]; omega)
     simp only [Rz25_19, ilt_self, cond_false, hj, cond_true, ilt_nat]
     have e : (q2 ++ S.aheadL [] fr) ++ (fresh ++ (q1 ++ S.behindL [] fr to_ (en - to_))) = List.append q2 (List.append fresh (List.append q1 [])) := by
       show (q2 ++ []) ++ (fresh ++ (q1 ++ [])) = q2 ++ (fresh ++ (q1 ++ []))
       rw [List.append_nil q2]
     rw [e]
     by_cases c6 : 6000 < (List.append q2 (List.append fresh (List.append q1 []))).length
     · rw [decide_eq_true c6, cond_true, if_pos c6]; rfl
     · rw [decide_eq_false c6, cond_false, if_neg c6]; rfl
   · obtain ⟨q1, q2⟩ := q
     obtain ⟨h1, h2⟩ := hq
     simp only at h1 h2
     have hi := r.lt
     obtain ⟨t1, t2'⟩ := ht v r.mem
     have r1 : Nat.ble (Nat.mul (Nat.add q1.length 1) 40) 140737488355328 = true := Nat.ble_eq_true_of_le (by show (q1.length + 1) * 40 ≤ _; omega)
     have r2 : Nat.ble (Nat.mul (Nat.add q2.length 1) 40) 140737488355328 = true := Nat.ble_eq_true_of_le (by show (q2.length + 1) * 40 ≤ _; omega)
     have w1 : IntKind.i64.wrap (Int.sub en to_) = en - to_ := wrap64_in (by show -9223372036854775808 ≤ en - to_ ∧ en - to_ < 9223372036854775808; omega)
     have w2 : IntKind.i64.wrap (Int.add v.2.2.1 (en - to_)) = v.2.2.1 + (en - to_) := wrap_add (by omega)
     simp only [Rz25_19, r.ilt, r.get, r.next, cond_true, r1, r2, w1, w2]
     by_cases c1 : v.2.2.1 < fr
     · rw [ilt_t c1, cond_true]
       refine (h (q1, q2 ++ [v]) ⟨by simp only; omega, by simp only [List.length_append, List.length_cons, List.length_nil]; omega⟩).trans ?_
       have ea : S.aheadL (v :: rest) fr = v :: S.aheadL rest fr := by unfold S.aheadL; rw [List.filter_cons, decide_eq_true c1, if_pos rfl]
       have eb : S.behindL (v :: rest) fr to_ (en - to_) = S.behindL rest fr to_ (en - to_) := by unfold S.behindL; rw [List.filter_cons, decide_eq_true c1]; rfl
       rw [ea, eb]
       simp only [List.append_assoc, List.cons_append, List.nil_append]
     · rw [ilt_f c1, cond_false]
       have ea : S.aheadL (v :: rest) fr = S.aheadL rest fr := by unfold S.aheadL; rw [List.filter_cons, decide_eq_false c1]; rfl
       by_cases c2 : to_ < v.2.2.1
       · rw [ilt_t c2, cond_true]
         refine (h (q1 ++ [(v.1, v.2.1, v.2.2.1 + (en - to_), v.2.2.2)], q2) ⟨by simp only [List.length_append, List.length_cons, List.length_nil]; omega, by simp only; omega⟩).trans ?_
         have eb : S.behindL (v :: rest) fr to_ (en - to_) = (v.1, v.2.1, v.2.2.1 + (en - to_), v.2.2.2) :: S.behindL rest fr to_ (en - to_) := by unfold S.behindL; rw [List.filter_cons, decide_eq_false c1, decide_eq_true c2]; rfl
         rw [ea, eb]
         simp only [List.append_assoc, List.cons_append, List.nil_append]
       · rw [ilt_f c2, cond_false]
         refine (h (q1, q2) ⟨by simp only; omega, by simp only; omega⟩).trans ?_
         have eb : S.behindL (v :: rest) fr to_ (en - to_) = S.behindL rest fr to_ (en - to_) := by unfold S.behindL; rw [List.filter_cons, decide_eq_false c1, decide_eq_false c2]; rfl
         rw [ea, eb]
 exact key
theorem ordered_mem {s : ByteArray} : ∀ {l : List DToken} {pv : Option DPlace}, S.orderedGo s pv l = true → ∀ t ∈ l, (S.offset s t.2.2).2 = 0
 | [], _, _, t, ht => by cases ht
 | u :: l, pv, h, t, ht => by
   rw [ordered_cons] at h
   rw [Bool.and_eq_true, Bool.and_eq_true, decide_eq_true_iff] at h
   rcases List.mem_cons.1 ht with rfl | ht
   · exact h.1
   · exact ordered_mem h.2.2 t ht
theorem line_range {s : ByteArray} (hs : S.fits s = true) {p : DPlace} (h : (S.offset s p).2 = 0) : 1 ≤ p.1 ∧ p.1 ≤ 1000001 := by
 obtain ⟨k, j, x, rfl, h1, _⟩ := offset_range h
 have hk := (List.getElem?_eq_some_iff.1 h1).1
 rw [splitL_len] at hk
 have := List.count_le_length (a := (10 : Int)) (l := byteList s)
 rw [bl_len] at this
 have := fits_le hs
 show 1 ≤ 1 + (k : Int) ∧ 1 + (k : Int) ≤ 1000001
 omega
theorem patch_tail (l : List DToken) (s : ByteArray) (c : DChange) (hs : S.fits s = true) (hl : l.length ≤ 1000000) (h0 : (S.edit s c).2 = 0) (ho : S.ordered s l = true) (K : (ByteArray × Int) → Option Rtz25) :
   Rz25_5 LF l s c K (fun q => Gz25_19 LF l s c LF q) ((S.edit s c).1, Int.ofNat l.length) = ret4 (patched l s c) := by
 obtain ⟨a, b, ha, hb, hab, hbs, hbl, hsz, hsz2⟩ := edit_inv h0
 have fs := fits_le hs
 have hnow : S.fits (S.edit s c).1 = true := Nat.ble_eq_true_of_le (by omega)
 have hwl : c.2.2.size ≤ 20000 := by omega
 have w0 : IntKind.i64.wrap (Int.add c.1 (Int.ofNat c.2.2.size)) = c.1 + Int.ofNat c.2.2.size := wrap_add (by rw [ha]; show -9223372036854775808 ≤ (a : Int) + (c.2.2.size : Int) ∧ (a : Int) + (c.2.2.size : Int) < _; omega)
 have p1 : (S.placeOf s c.1).1.1 = 1 + ((((byteList s).take a).count 10 : Nat) : Int) := by rw [ha]; exact placeOf_count s a (by omega)
 have p2 : (S.placeOf s c.2.1).1.1 = 1 + ((((byteList s).take b).count 10 : Nat) : Int) := by rw [hb]; exact placeOf_count s b hbs
 have hta : ((byteList s).take a).length = a := by rw [List.length_take, bl_len]; omega
 have htk : (byteList (S.edit s c).1).take (a + c.2.2.size) = (byteList s).take a ++ byteList c.2.2 := by
   rw [hbl]
   have : a + c.2.2.size = ((byteList s).take a ++ byteList c.2.2).length := by rw [List.length_append, hta, bl_len]
   rw [this, List.take_left]
 have p3 : (S.placeOf (S.edit s c).1 (c.1 + Int.ofNat c.2.2.size)).1.1 = 1 + ((((byteList s).take a).count 10 : Nat) : Int) + (((byteList c.2.2).count 10 : Nat) : Int) := by
   rw [ha, show (a : Int) + Int.ofNat c.2.2.size = ((a + c.2.2.size : Nat) : Int) by show (a : Int) + (c.2.2.size : Int) = _; omega, placeOf_count _ _ (by omega), htk, List.count_append]
   omega
 have hlen : (S.lines (S.edit s c).1).length = (byteList (S.edit s c).1).count 10 + 1 := by unfold S.lines; rw [List.length_map, splitL_len]
 have hcn : (byteList (S.edit s c).1).count 10 = ((byteList s).take a).count 10 + (byteList c.2.2).count 10 + ((byteList s).drop b).count 10 := by rw [hbl, List.count_append, List.count_append]
 have hcl := List.count_le_length (a := (10 : Int)) (l := byteList (S.edit s c).1)
 rw [bl_len] at hcl
 have hcb := List.count_le_length (a := (10 : Int)) (l := (byteList s).take b)
 rw [List.length_take, bl_len] at hcb
 have w1 : IntKind.i64.wrap (Int.sub (S.placeOf s c.1).1.1 (Int.ofNat 1)) = (S.placeOf s c.1).1.1 - 1 := wrap64_in (by show -9223372036854775808 ≤ (S.placeOf s c.1).1.1 - 1 ∧ (S.placeOf s c.1).1.1 - 1 < 9223372036854775808; omega)
 have hchk : lchk ((S.placeOf s c.1).1.1 - 1) (S.placeOf (S.edit s c).1 (c.1 + Int.ofNat c.2.2.size)).1.1 (Int.ofNat (S.lines (S.edit s c).1).length) (Int.ofNat (S.lines (S.edit s c).1).length) = true := by
   refine lchk_iff.2 ⟨by omega, by omega, ?_, Int.le_refl _⟩
   rw [hlen, hcn, p3]
   show _ ≤ ((_ : Nat) : Int)
   omega
 have hlk := lines_ok hnow
 obtain ⟨k1, k2, _⟩ := okL_inv hlk
 have hls : lsub (S.lines (S.edit s c).1) ((S.placeOf s c.1).1.1 - 1) (S.placeOf (S.edit s c).1 (c.1 + Int.ofNat c.2.2.size)).1.1 = S.linesAt (S.edit s c).1 (S.placeOf s c.1).1.1 (S.placeOf (S.edit s c).1 (c.1 + Int.ofNat c.2.2.size)).1.1 := rfl
 have hmem : ∀ t ∈ S.linesAt (S.edit s c).1 (S.placeOf s c.1).1.1 (S.placeOf (S.edit s c).1 (c.1 + Int.ofNat c.2.2.size)).1.1, t ∈ S.lines (S.edit s c).1 := fun t ht => List.mem_of_mem_take (List.mem_of_mem_drop ht)
 have hll : (S.linesAt (S.edit s c).1 (S.placeOf s c.1).1.1 (S.placeOf (S.edit s c).1 (c.1 + Int.ofNat c.2.2.size)).1.1).length ≤ 20001 := by
   unfold S.linesAt
   rw [List.length_drop, List.length_take]
   omega
 have hok : S.okL (S.linesAt (S.edit s c).1 (S.placeOf s c.1).1.1 (S.placeOf (S.edit s c).1 (c.1 + Int.ofNat c.2.2.size)).1.1) (S.placeOf s c.1).1.1 = true := by
   unfold S.okL
   simp only [Bool.and_eq_true, decide_eq_true_iff, List.all_eq_true, Bool.not_eq_true', decide_eq_false_iff_not]
   exact ⟨Nat.ble_eq_true_of_le (by omega), fun t ht => ⟨Nat.ble_eq_true_of_le (k2 t (hmem t ht)).1, (k2 t (hmem t ht)).2⟩, by omega, by omega⟩
 simp only [Rz25_5, ilt_self, cond_false, hs, hnow, Bool.and_true, cond_true, w0, w1, hchk, hls, hok]
 unfold patched
 by_cases hr : (S.readX S.wTok (S.linesAt (S.edit s c).1 (S.placeOf s c.1).1.1 (S.placeOf (S.edit s c).1 (c.1 + Int.ofNat c.2.2.size)).1.1) (S.placeOf s c.1).1.1).2.2 = 0
 · rw [ieq_t (show _ = Int.ofNat 0 from hr), Bool.not_true, cond_false, if_pos hr]
   refine patch_19 l s c _ _ _ _ _ _ _ hl ?_ (fun t ht => line_range hs (ordered_mem ho t ht)) (by omega) (by omega)
   unfold S.readX
   refine Nat.le_trans (List.length_filter_le _ _) ?_
   have hN := readL_len 20000 ((S.linesAt (S.edit s c).1 (S.placeOf s c.1).1.1 (S.placeOf (S.edit s c).1 (c.1 + Int.ofNat c.2.2.size)).1.1).map byteList) (S.placeOf s c.1).1.1 (fun x hx => by
     obtain ⟨t, ht, rfl⟩ := List.mem_map.1 hx
     rw [bl_len]
     exact Nat.le_trans (line_size (hmem t ht)) hsz2)
   rw [List.length_map] at hN
   omega
 · rw [ieq_f (show ¬ _ = Int.ofNat 0 from hr), Bool.not_false, cond_true, if_neg hr]
   rfl
def pvAt (l : List DToken) : Nat → Option DPlace
 | 0 => none
 | i + 1 => (l[i]?).map fun t => t.2.2
theorem patch_5 (l : List DToken) (s : ByteArray) (c : DChange) (hs : S.fits s = true) (hl : l.length ≤ 1000000) (h0 : (S.edit s c).2 = 0) : Gz25_5 LF l s c LF ((S.edit s c).1, Int.ofNat 0) = ret4 (cond (S.ordered s l) (patched l s c) ([], 0, (0, 0), 1)) := by
 refine range0 (σ := Unit) (R := Rtz25) l (fun i _ => ((S.edit s c).1, i)) (fun i _ => S.ordered s l = S.orderedGo s (pvAt l i) (l.drop i)) (fun rest i _ => ret4 (cond (S.orderedGo s (pvAt l i) rest) (patched l s c) ([], 0, (0, 0), 1))) (by unfold LF; omega) (fun K q hq => ?_) (fun K i v rest q hq r h => ?_) () rfl
 · rw [List.drop_length] at hq
   have ho : S.ordered s l = true := hq
   rw [show S.orderedGo s (pvAt l l.length) [] = true from rfl, cond_true]
   exact patch_tail l s c hs hl h0 ho K
 · have hi := r.lt
   have hgo : S.orderedGo s (pvAt l i) (v :: rest) = (decide ((S.offset s v.2.2).2 = 0) && ((match pvAt l i with | none => true | some p => !(decide (p = v.2.2)) && !(decide (0 < S.comparePl p v.2.2))) && S.orderedGo s (some v.2.2) rest)) := rfl
   have hpn : pvAt l (i + 1) = some v.2.2 := by show (l[i]?).map _ = _; rw [r.get?]; rfl
   rw [r.drop, hgo] at hq
   rw [hgo]
   rw [hpn, r.tail] at h
   simp only [Rz25_5, r.ilt, r.get, r.next, cond_true, hs]
   show cond (!ieqI (S.offset s v.2.2).2 (Int.ofNat 0)) _ _ = _
   by_cases c1 : (S.offset s v.2.2).2 = 0
   · rw [ieq_t (show _ = Int.ofNat 0 from c1), Bool.not_true, cond_false]
     rw [decide_eq_true c1, Bool.true_and] at hq ⊢
     cases i with
     | zero =>
       rw [show pvAt l 0 = none from rfl] at hq ⊢
       simp only [Bool.true_and] at hq ⊢
       rw [show iltI (Int.ofNat 0) (Int.ofNat 0) = false from rfl, cond_false]
       exact h () hq
     | succ i =>
       obtain ⟨p, hp⟩ : ∃ p, l[i]? = some p := ⟨_, List.getElem?_eq_getElem (by omega)⟩
       have w1 : IntKind.i64.wrap (Int.sub (Int.ofNat (i + 1)) (Int.ofNat 1)) = Int.ofNat i := by
         rw [show Int.sub (Int.ofNat (i + 1)) (Int.ofNat 1) = Int.ofNat i by show ((i + 1 : Nat) : Int) - 1 = (i : Int); omega]
         exact wrap_nat (n := i) (by omega)
       have hjp : jget l (Int.ofNat i) = some p := jget_nat.trans hp
       have hpv : pvAt l (i + 1) = some p.2.2 := by show (l[i]?).map _ = _; rw [hp]; rfl
       rw [hpv] at hq ⊢
       simp only at hq ⊢
       rw [ilt_t (show Int.ofNat 0 < Int.ofNat (i + 1) by show (0 : Int) < ((i + 1 : Nat) : Int); omega), cond_true, w1, hjp]
       simp only
       have hke : (Bool.and (keqI p.2.2.1 v.2.2.1) (Bool.and (keqI p.2.2.2 v.2.2.2) Bool.true)) = decide (p.2.2 = v.2.2) := by
         obtain ⟨_, _, p1, p2⟩ := p
         obtain ⟨_, _, v1, v2⟩ := v
         simp only [keqI, Bool.and_true, Prod.mk.injEq, Bool.decide_and]
       rw [hke]
       show cond _ _ (cond (iltI (Int.ofNat 0) (S.comparePl p.2.2 v.2.2)) _ _) = _
       by_cases c2 : p.2.2 = v.2.2
       · rw [decide_eq_true c2, cond_true]; rfl
       · rw [decide_eq_false c2, cond_false]
         rw [decide_eq_false c2] at hq
         by_cases c3 : 0 < S.comparePl p.2.2 v.2.2
         · rw [ilt_t (show Int.ofNat 0 < _ from c3), cond_true, decide_eq_true c3]; rfl
         · rw [ilt_f (show ¬ Int.ofNat 0 < _ from c3), cond_false, decide_eq_false c3]
           rw [decide_eq_false c3] at hq
           simp only [Bool.not_false, Bool.true_and, Bool.and_true] at hq ⊢
           exact h () hq
   · rw [ieq_f (show ¬ _ = Int.ofNat 0 from c1), Bool.not_false, cond_true, decide_eq_false c1]
     rfl
theorem Fz25_eq (l : List DToken) (s : ByteArray) (c : DChange) (hs : S.fits s = true) (hw : S.fits c.2.2 = true) (hl : l.length ≤ 1000000) : Fz25 LF l s c = ret4 (S.patch l s c) := by
 rw [patch_eq]
 simp only [Fz25, Rz25_in, hs, hw, Bool.and_true, cond_true]
 show cond (!ieqI (S.edit s c).2 (Int.ofNat 0)) _ _ = _
 by_cases h0 : (S.edit s c).2 = 0
 · rw [ieq_t (show _ = Int.ofNat 0 from h0), Bool.not_true, cond_false, if_pos h0]
   exact patch_5 l s c hs hl h0
 · rw [ieq_f (show ¬ _ = Int.ofNat 0 from h0), Bool.not_false, cond_true, if_neg h0]
   rfl
theorem conz25 : Con Tryd.prog idz25 spz25 := mkz25 ⟨conz15, conz16, conz14, con_strings_Split, conz24, conz21, trivial⟩ fun x y hx h => ⟨LF, by
 obtain ⟨h1, h2⟩ := cond_some' (show cond (S.fits x.2.1 && (S.fits x.2.2.1.2.2 && Nat.ble x.1.length 1000000)) (some ((S.patch x.1 x.2.1 x.2.2.1).1, (S.patch x.1 x.2.1 x.2.2.1).2.1, (S.patch x.1 x.2.1 x.2.2.1).2.2.1, (S.patch x.1 x.2.1 x.2.2.1).2.2.2, ())) none = some y from h)
 simp only [Bool.and_eq_true] at h1
 exact (Fz25_eq x.1 x.2.1 x.2.2.1 h1.1 h1.2.1 (Nat.le_of_ble_eq_true h1.2.2)).trans (congrArg some h2)⟩
def nmz26 : Nat → Option Nm := fun k => cond (Nat.beq k 6) (some ⟨[0, 3, 5, 6, 7, 8, 42, 43, 44], [(8, cToken)], [], [], [], 0, 0, false⟩) (cond (Nat.beq k 12) (some ⟨[0, 3, 5, 6, 7, 8, 9, 42, 43, 44, 72, 73, 74], [(8, cToken)], [], [], [], 0, 0, false⟩) (none))
def stz26 : Nat → Bool := fun k => cond (Nat.beq k 6) true (cond (Nat.beq k 12) true (false))
def hdz26 := stz26
abbrev Rtz26 : Type := Bool × Unit
def smlz26 : List (Nat × Sm) := [(22, spz19), (23, sp_strings_Split), (24, spz20), (18, spz15), (25, spz25), (13, sp_l_sanity)]
def hxlz26 : List (Nat × Hx) := []
def clz26 (R : Type) (lf : Nat) : ClK R := icallK Tryd.prog ttT.get ftT.get (nm1 4 nmz26) (smL smlz26) (hxL hxlz26) lf 20 R
abbrev idz26 : Nat := 4
def encz26_6 (x1 : ByteArray) (x2 : DChange) (p : (List ByteArray) × (List DToken) × Int × Int × Int × Int × (List DToken)) : NRes := (NRes.mk (.node (some (IV.str x1)) (.node none (.node (some (IV.ptr 0 0)) (.node (some (IV.int .i64 p.2.2.2.1)) .leaf .leaf) (.node none .leaf (.node none (.node (some (IV.int .i64 (Int.ofNat (List.length p.1)))) .leaf .leaf) .leaf))) (.node (some (IV.arr 1)) .leaf .leaf)) (.node none (.node none (.node (some (IV.arr 3)) .leaf .leaf) (.node none .leaf (.node none (.node (some (IV.int .i64 p.2.2.2.2.2.1)) .leaf .leaf) .leaf))) (.node (some (IV.ptr 2 0)) (.node none .leaf (.node none (.node (some (IV.arr 4)) .leaf .leaf) .leaf)) .leaf))) (IS.mk (.node (some (IObj.row (List.cons (IV.int .i64 x2.1) (List.cons (IV.int .i64 x2.2.1) (List.cons (IV.str x2.2.2) []))))) (.node (some (IObj.arr cToken p.2.1)) (.node (some (IObj.arr cToken p.2.2.2.2.2.2)) .leaf .leaf) .leaf) (.node (some (IObj.row (List.cons (IV.int .i64 p.2.2.1) (List.cons (IV.int .i64 p.2.2.2.2.1) [])))) (.node (some (IObj.arr TC.str p.1)) .leaf .leaf) .leaf)) 5) [] 0)
def encz26_12 (x1 : ByteArray) (x2 : DChange) (p : (List ByteArray) × Int × Int × (List DToken) × Int × (List DToken) × Int × (List DToken) × Int × Int) : NRes := (NRes.mk (.node (some (IV.str x1)) (.node none (.node (some (IV.ptr 0 0)) (.node (some (IV.int .i64 p.2.2.1)) .leaf .leaf) (.node none .leaf (.node none (.node (some (IV.int .i64 (Int.ofNat (List.length p.1)))) .leaf .leaf) .leaf))) (.node (some (IV.arr 1)) (.node (some (IV.int .i64 p.2.2.2.2.2.2.2.2.1)) .leaf (.node none (.node none (.node (some (IV.int .i64 (Int.ofNat (List.length p.2.2.2.2.2.1)))) .leaf .leaf) .leaf) .leaf)) .leaf)) (.node none (.node none (.node (some (IV.arr 3)) .leaf (.node none (.node none (.node (some (IV.arr 5)) .leaf .leaf) .leaf) .leaf)) (.node none .leaf (.node none (.node (some (IV.int .i64 p.2.2.2.2.2.2.2.2.2)) .leaf .leaf) .leaf))) (.node (some (IV.ptr 2 0)) (.node none .leaf (.node none (.node (some (IV.arr 4)) (.node (some (IV.int .i64 p.2.2.2.2.2.2.1)) .leaf .leaf) .leaf) .leaf)) .leaf))) (IS.mk (.node (some (IObj.row (List.cons (IV.int .i64 x2.1) (List.cons (IV.int .i64 x2.2.1) (List.cons (IV.str x2.2.2) []))))) (.node (some (IObj.arr cToken p.2.2.2.1)) (.node (some (IObj.arr cToken p.2.2.2.2.2.2.2.1)) .leaf .leaf) (.node (some (IObj.arr cToken p.2.2.2.2.2.1)) .leaf .leaf)) (.node (some (IObj.row (List.cons (IV.int .i64 p.2.1) (List.cons (IV.int .i64 p.2.2.2.2.1) [])))) (.node (some (IObj.arr TC.str p.1)) .leaf .leaf) .leaf)) 6) [] 0)
def Rz26_in (lf : Nat) (x1 : ByteArray) (x2 : DChange) (L6 : ((List ByteArray) × (List DToken) × Int × Int × Int × Int × (List DToken)) → Option Rtz26) : Option Rtz26 := (cond (iltI (Int.ofNat 400) (Int.ofNat (ByteArray.size x1))) (some (Bool.true, ())) (cond (iltI (Int.ofNat 100) (Int.ofNat (ByteArray.size x2.2.2))) (some (Bool.true, ())) (match (cond (S.fits x1) (some ((S.tokens x1).1, ((S.tokens x1).2.2.1, ((S.tokens x1).2.2.2, ())))) none) with | .none  => none | .some v0 => (match (cond (Bool.and Bool.true (S.fits x1)) (some ((S.lines x1), ())) none) with | .none  => none | .some v1 => (L6 (v1.1, v0.1, v0.2.1.1, v0.2.2.1, v0.2.1.2, (Int.ofNat 0), []))))))
def Rz26_6 (lf : Nat) (x1 : ByteArray) (x2 : DChange) (L12 : ((List ByteArray) × Int × Int × (List DToken) × Int × (List DToken) × Int × (List DToken) × Int × Int) → Option Rtz26) (p : (List ByteArray) × (List DToken) × Int × Int × Int × Int × (List DToken)) : Option Rtz26 := (cond (iltI p.2.2.2.2.2.1 (Int.ofNat (List.length p.1))) (match (jget p.1 p.2.2.2.2.2.1) with | .none  => none | .some v0 => (match (GetElem?.getElem? p.1 (Int.toNat p.2.2.2.2.2.1)) with | .none  => none | .some v1 => (match (cond (S.fits v1) (some ((S.tokens v1).1, ((S.tokens v1).2.2.1, ((S.tokens v1).2.2.2, ())))) none) with | .none  => none | .some v2 => (cond (Bool.not (ieqI v2.2.2.1 (Int.ofNat 0))) (cond (ieqI p.2.2.2.1 v2.2.2.1) (some ((Bool.and (keqI p.2.2.1 (IntKind.i64.wrap (Int.add p.2.2.2.2.2.1 (Int.ofNat 1)))) (Bool.and (keqI p.2.2.2.2.1 v2.2.1.2) Bool.true)), ())) (some (Bool.false, ()))) (L12 (p.1, p.2.2.1, p.2.2.2.1, p.2.1, p.2.2.2.2.1, v2.1, (Int.ofNat 0), p.2.2.2.2.2.2, p.2.2.2.2.2.1, p.2.2.2.2.2.1)))))) (cond (Bool.not (ieqI p.2.2.2.1 (Int.ofNat 0))) (some (Bool.false, ())) (cond (Bool.not (S.sameT p.2.2.2.2.2.2 p.2.1)) (some (Bool.false, ())) (match (cond (Bool.and (S.fits x1) (S.fits x2.2.2)) (some ((S.edit x1 (x2.1, (x2.2.1, x2.2.2))).1, ((S.edit x1 (x2.1, (x2.2.1, x2.2.2))).2, ()))) none) with | .none  => none | .some v7 => (cond (Bool.not (ieqI v7.2.1 (Int.ofNat 0))) (some (Bool.true, ())) (match (cond (S.fits v7.1) (some ((S.tokens v7.1).1, ((S.tokens v7.1).2.2.1, ((S.tokens v7.1).2.2.2, ())))) none) with | .none  => none | .some v8 => (match (cond (Bool.and (S.fits x1) (Bool.and (S.fits x2.2.2) (Nat.ble (List.length p.2.1) 1000000))) (some ((S.patch p.2.1 x1 (x2.1, (x2.2.1, x2.2.2))).1, ((S.patch p.2.1 x1 (x2.1, (x2.2.1, x2.2.2))).2.1, ((S.patch p.2.1 x1 (x2.1, (x2.2.1, x2.2.2))).2.2.1, ((S.patch p.2.1 x1 (x2.1, (x2.2.1, x2.2.2))).2.2.2, ()))))) none) with | .none  => none | .some v9 => (cond (ieqI v8.2.2.1 v9.2.2.2.1) (cond (Bool.and (keqI v8.2.1.1 v9.2.2.1.1) (Bool.and (keqI v8.2.1.2 v9.2.2.1.2) Bool.true)) (cond (S.sameT v8.1 v9.1) (some ((Bool.not (iltI (Int.ofNat (List.length v9.1)) v9.2.1)), ())) (some (Bool.false, ()))) (some (Bool.false, ()))) (some (Bool.false, ()))))))))))
def Rz26_12 (lf : Nat) (x1 : ByteArray) (x2 : DChange) (L12 : ((List ByteArray) × Int × Int × (List DToken) × Int × (List DToken) × Int × (List DToken) × Int × Int) → Option Rtz26) (L6 : ((List ByteArray) × (List DToken) × Int × Int × Int × Int × (List DToken)) → Option Rtz26) (p : (List ByteArray) × Int × Int × (List DToken) × Int × (List DToken) × Int × (List DToken) × Int × Int) : Option Rtz26 := (cond (iltI p.2.2.2.2.2.2.1 (Int.ofNat (List.length p.2.2.2.2.2.1))) (match (jget p.2.2.2.2.2.1 p.2.2.2.2.2.2.1) with | .none  => none | .some v0 => (match (GetElem?.getElem? p.2.2.2.2.2.1 (Int.toNat p.2.2.2.2.2.2.1)) with | .none  => none | .some v1 => (cond (Nat.ble (Nat.mul (Nat.add (List.length p.2.2.2.2.2.2.2.1) 1) 40) 140737488355328) (L12 (p.1, p.2.1, p.2.2.1, p.2.2.2.1, p.2.2.2.2.1, p.2.2.2.2.2.1, (IntKind.i64.wrap (Int.add p.2.2.2.2.2.2.1 (Int.ofNat 1))), (List.append p.2.2.2.2.2.2.2.1 (List.cons (v1.1, (v1.2.1, ((IntKind.i64.wrap (Int.add p.2.2.2.2.2.2.2.2.1 (Int.ofNat 1))), v1.2.2.2))) [])), p.2.2.2.2.2.2.2.2.1, p.2.2.2.2.2.2.2.2.2)) none))) (L6 (p.1, p.2.2.2.1, p.2.1, p.2.2.1, p.2.2.2.2.1, (IntKind.i64.wrap (Int.add p.2.2.2.2.2.2.2.2.2 (Int.ofNat 1))), p.2.2.2.2.2.2.2.1)))
abbrev gz26 : Type := ElA [.str, cChange] → Option Rtz26
abbrev sz26 (g : gz26) : Sm := ⟨[.str, cChange], [(false, .bool)], g⟩
abbrev Ez26 (g : gz26) (J : JT Rtz26) (lf : Nat) (x1 : ByteArray) (x2 : DChange) := icodeT Tryd.prog ttT.get nmz26 fi4.nt (clz26 _ lf) lf stz26 J fi4.body [] (argGo (argV [.str, cChange] (x1, x2, ())) 0 .leaf) S0 [] (lastK ttT.get fi4 (sz26 g))
abbrev Bz26 (g : gz26) (J : JT Rtz26) (lf k : Nat) (ms : List Nat) (q : NRes) := icodeFT Tryd.prog ttT.get nmz26 fi4.nt (clz26 _ lf) lf stz26 J k fi4.body [] ms q (lastK ttT.get fi4 (sz26 g))
theorem inz26 (g : gz26) (J : JT Rtz26) (lf : Nat) (x1 : ByteArray) (x2 : DChange) : Ez26 g J lf x1 x2 = Rz26_in lf x1 x2 (fun q => J 6 [lf] (encz26_6 x1 x2 q)) := by kernel_rfl
theorem stz26_6 (g : gz26) (J : JT Rtz26) (lf : Nat) (x1 : ByteArray) (x2 : DChange) (m1 : Nat) (p : (List ByteArray) × (List DToken) × Int × Int × Int × Int × (List DToken)) : Bz26 g J lf 6 [m1] (encz26_6 x1 x2 p) = Rz26_6 lf x1 x2 (fun q => J 12 [m1, lf] (encz26_12 x1 x2 q)) p := by kernel_rfl
theorem stz26_12 (g : gz26) (J : JT Rtz26) (lf : Nat) (x1 : ByteArray) (x2 : DChange) (m1 : Nat) (m2 : Nat) (p : (List ByteArray) × Int × Int × (List DToken) × Int × (List DToken) × Int × (List DToken) × Int × Int) : Bz26 g J lf 12 [m1, m2] (encz26_12 x1 x2 p) = Rz26_12 lf x1 x2 (fun q => J 12 [m1, m2] (encz26_12 x1 x2 q)) (fun q => J 6 [m1] (encz26_6 x1 x2 q)) p := by kernel_rfl
theorem ndz26 : (regs fi4.body).Nodup := by decide +kernel
theorem okz26 : okC nmz26 stz26 hdz26 fi4.body none = true := by kernel_rfl
def Az26 (g : gz26) (lf : Nat) : JT Rtz26 := atN Tryd.prog ttT.get nmz26 fi4 (sz26 g) (clz26 _ lf) lf hdz26
def Gz26_12 (lf : Nat) (x1 : ByteArray) (x2 : DChange) (K6 : ((List ByteArray) × (List DToken) × Int × Int × Int × Int × (List DToken)) → Option Rtz26) : Nat → ((List ByteArray) × Int × Int × (List DToken) × Int × (List DToken) × Int × (List DToken) × Int × Int) → Option Rtz26 := rounds fun K p => Rz26_12 lf x1 x2 K K6 p
theorem atz26_12 (g : gz26) (lf : Nat) (x1 : ByteArray) (x2 : DChange) (m1 : Nat) : ∀ (n : Nat) (p : (List ByteArray) × Int × Int × (List DToken) × Int × (List DToken) × Int × (List DToken) × Int × Int), Az26 g lf 12 [m1, n] (encz26_12 x1 x2 p) = Gz26_12 lf x1 x2 (fun q => Az26 g lf 6 [m1] (encz26_6 x1 x2 q)) n p
 | 0, p => atN_zero 12 [m1, 0] rfl _
 | n + 1, p => by
   have ih := atz26_12 g lf x1 x2 m1 n
   refine (atN_eq (icallK_eq 20 _) ndz26 okz26 12 [m1, n + 1] [m1, n] rfl _).trans ((stz26_12 g (Az26 g lf) lf x1 x2 m1 n p).trans ?_)
   rw [(show (fun q => Az26 g lf 12 [m1, n] (encz26_12 x1 x2 q)) = (fun q => Gz26_12 lf x1 x2 (fun q => Az26 g lf 6 [m1] (encz26_6 x1 x2 q)) n q) from funext ih)]
   rfl
def Gz26_6 (lf : Nat) (x1 : ByteArray) (x2 : DChange) : Nat → ((List ByteArray) × (List DToken) × Int × Int × Int × Int × (List DToken)) → Option Rtz26 := rounds fun K p => Rz26_6 lf x1 x2 (fun q => Gz26_12 lf x1 x2 K lf q) p
theorem atz26_6 (g : gz26) (lf : Nat) (x1 : ByteArray) (x2 : DChange) : ∀ (n : Nat) (p : (List ByteArray) × (List DToken) × Int × Int × Int × Int × (List DToken)), Az26 g lf 6 [n] (encz26_6 x1 x2 p) = Gz26_6 lf x1 x2 n p
 | 0, p => atN_zero 6 [0] rfl _
 | n + 1, p => by
   have ih := atz26_6 g lf x1 x2 n
   refine (atN_eq (icallK_eq 20 _) ndz26 okz26 6 [n + 1] [n] rfl _).trans ((stz26_6 g (Az26 g lf) lf x1 x2 n p).trans ?_)
   rw [(show (fun q => Az26 g lf 12 [n, lf] (encz26_12 x1 x2 q)) = (fun q => Gz26_12 lf x1 x2 (fun q => Az26 g lf 6 [n] (encz26_6 x1 x2 q)) lf q) from funext fun q => atz26_12 g lf x1 x2 n lf q), (show (fun q => Az26 g lf 6 [n] (encz26_6 x1 x2 q)) = (fun q => Gz26_6 lf x1 x2 n q) from funext ih)]
   rfl
def Fz26 (lf : Nat) (x1 : ByteArray) (x2 : DChange) : Option Rtz26 := Rz26_in lf x1 x2 (fun q => Gz26_6 lf x1 x2 lf q)
theorem runz26 (g : gz26) (lf : Nat) (x1 : ByteArray) (x2 : DChange) : Ez26 g (Az26 g lf) lf x1 x2 = Fz26 lf x1 x2 := by
   refine (inz26 g (Az26 g lf) lf x1 x2).trans ?_
   rw [(show (fun q => Az26 g lf 6 [lf] (encz26_6 x1 x2 q)) = (fun q => Gz26_6 lf x1 x2 lf q) from funext fun q => atz26_6 g lf x1 x2 lf q)]
   rfl
theorem hxsz26 : HxsOK Tryd.prog hxlz26 := trivial
theorem mkz26 {g : gz26} (hsm : SmOK Tryd.prog smlz26) (hg : ∀ (x : ElA [.str, cChange]) (y : Rtz26), WfA [.str, cChange] x → g x = some y → ∃ lf, Fz26 lf x.1 x.2.1 = some y) : Con Tryd.prog 4 ⟨[.str, cChange], [(false, .bool)], g⟩ :=
 conT (nmf := nmz26) (sml := smlz26) (hxl := hxlz26) (st := stz26) (hd := hdz26) 20 mixed ttOK ftOK hsm hxsz26 cal4 rfl rfl (by kernel_rfl) (fun x => by kernel_rfl) ndz26 okz26 fun x y hx hy => by
   obtain ⟨lf, h⟩ := hg x y hx hy
   exact ⟨lf, (runz26 g lf x.1 x.2.1).trans h⟩
theorem ahead_app (a b : List DToken) (n : Int) : S.aheadL (a ++ b) n = S.aheadL a n ++ S.aheadL b n := List.filter_append ..
theorem behind_app (a b : List DToken) (n m k : Int) : S.behindL (a ++ b) n m k = S.behindL a n m k ++ S.behindL b n m k := by
 unfold S.behindL
 rw [List.filter_append, List.map_append]
theorem ahead_all {l : List DToken} {n : Int} (h : ∀ t ∈ l, t.2.2.1 < n) : S.aheadL l n = l := List.filter_eq_self.2 fun t ht => decide_eq_true (h t ht)
theorem ahead_no {l : List DToken} {n : Int} (h : ∀ t ∈ l, n ≤ t.2.2.1) : S.aheadL l n = [] := List.filter_eq_nil_iff.2 fun t ht => by
 have := h t ht
 rw [decide_eq_false (by omega)]; decide
theorem behind_no {l : List DToken} {n m k : Int} (h : ∀ t ∈ l, t.2.2.1 < n ∨ t.2.2.1 ≤ m) : S.behindL l n m k = [] := by
 unfold S.behindL
 rw [List.filter_eq_nil_iff.2]
 · rfl
 · intro t ht
   rcases h t ht with h | h
   · rw [decide_eq_true h]; simp
   · rw [decide_eq_false (show ¬ m < t.2.2.1 by omega), Bool.and_false]; simp
theorem behind_all {l : List DToken} {n m k : Int} (h : ∀ t ∈ l, n ≤ t.2.2.1 ∧ m < t.2.2.1) : S.behindL l n m k = l.map (moveT k) := by
 unfold S.behindL
 rw [List.filter_eq_self.2]
 · rfl
 · intro t ht
   obtain ⟨h1, h2⟩ := h t ht
   rw [decide_eq_false (by omega), decide_eq_true h2]; rfl
theorem take_drop_app {α : Type} (l : List α) {k m : Nat} (h : k ≤ m) : l = l.take k ++ ((l.take m).drop k ++ l.drop m) := by
 conv => lhs; rw [← List.take_append_drop m l, ← List.take_append_drop k (l.take m)]
 rw [List.take_take, Nat.min_eq_left h, List.append_assoc]
theorem patch_law (s : ByteArray) (c : DChange) (hs : s.size ≤ 400) (hw : c.2.2.size ≤ 100) (h0 : (S.edit s c).2 = 0) (hR : (S.readL (S.splitL (byteList s)) 1).2.2 = 0) :
   ∃ m : Int, S.patch (S.readG s).1 s c = ((S.readG (S.edit s c).1).1, m, (S.readG (S.edit s c).1).2.2.1, (S.readG (S.edit s c).1).2.2.2) ∧ ¬ Int.ofNat (S.readG (S.edit s c).1).1.length < m := by
 obtain ⟨a, b, ha, hb, hab, hbs, hbl, hsz, hsz2⟩ := edit_inv h0
 have ho : S.ordered s (S.readG s).1 = true := stand_ordered none (stand_readG s).1 fun p e => by cases e
 rw [patch_eq, if_pos h0, ho, cond_true]
 have hnl := (readG_len (S.edit s c).1).1
 generalize hnow : (S.edit s c).1 = now at hbl hsz hsz2 hnl ⊢
 -- places
 have p1 : (S.placeOf s c.1).1.1 = 1 + ((((byteList s).take a).count 10 : Nat) : Int) := by rw [ha]; exact placeOf_count s a (by omega)
 have p2 : (S.placeOf s c.2.1).1.1 = 1 + ((((byteList s).take b).count 10 : Nat) : Int) := by rw [hb]; exact placeOf_count s b hbs
 have hta : ((byteList s).take a).length = a := by rw [List.length_take, bl_len]; omega
 have htk : (byteList now).take (a + c.2.2.size) = (byteList s).take a ++ byteList c.2.2 := by
   rw [hbl]
   have : a + c.2.2.size = ((byteList s).take a ++ byteList c.2.2).length := by rw [List.length_append, hta, bl_len]
   rw [this, List.take_left]
 have p3 : (S.placeOf now (c.1 + Int.ofNat c.2.2.size)).1.1 = 1 + ((((byteList s).take a).count 10 : Nat) : Int) + (((byteList c.2.2).count 10 : Nat) : Int) := by
   rw [ha, show (a : Int) + Int.ofNat c.2.2.size = ((a + c.2.2.size : Nat) : Int) by show (a : Int) + (c.2.2.size : Int) = _; omega, placeOf_count _ _ (by omega), htk, List.count_append]
   omega
 have hk12 : ((byteList s).take a).count 10 ≤ ((byteList s).take b).count 10 := by
   have e : (byteList s).take a = ((byteList s).take b).take a := by rw [List.take_take, Nat.min_eq_left hab]
   rw [e]
   exact (List.take_sublist _ _).count_le _
 have hL1 : (S.splitL (byteList now)).take (((byteList s).take a).count 10) = (S.splitL (byteList s)).take (((byteList s).take a).count 10) := by
   have := split_take ((byteList s).take a) (byteList c.2.2 ++ (byteList s).drop b) ((byteList s).drop a)
   rw [← List.append_assoc, ← hbl, List.take_append_drop] at this
   exact this
 have hL3 : (S.splitL (byteList now)).drop (((byteList s).take a).count 10 + (byteList c.2.2).count 10 + 1) = (S.splitL (byteList s)).drop (((byteList s).take b).count 10 + 1) := by
   have h1 := split_drop ((byteList s).take a ++ byteList c.2.2) ((byteList s).drop b)
   have h2 := split_drop ((byteList s).take b) ((byteList s).drop b)
   rw [← hbl, List.count_append] at h1
   rw [List.take_append_drop] at h2
   rw [h1, h2]
 have hlenA : (S.splitL (byteList s)).length = (byteList s).count 10 + 1 := splitL_len _
 have hlenN : (S.splitL (byteList now)).length = (byteList now).count 10 + 1 := splitL_len _
 have hcA : ((byteList s).take b).count 10 ≤ (byteList s).count 10 := (List.take_sublist _ _).count_le _
 have hcN : ((byteList s).take a).count 10 + (byteList c.2.2).count 10 ≤ (byteList now).count 10 := by
   rw [hbl, List.count_append, List.count_append]; omega
 unfold patched
 rw [hnow, p1, p2, p3]
 generalize ((byteList s).take a).count 10 = k1 at *
 generalize ((byteList s).take b).count 10 = k2 at *
 generalize (byteList c.2.2).count 10 = kW at *
 have eA := take_drop_app (S.splitL (byteList s)) (k := k1) (m := k2 + 1) (by omega)
 have eN := take_drop_app (S.splitL (byteList now)) (k := k1) (m := k1 + kW + 1) (by omega)
 rw [hL1, hL3] at eN
 have l1 : ((S.splitL (byteList s)).take k1).length = k1 := by rw [List.length_take]; omega
 have lA : (((S.splitL (byteList s)).take (k2 + 1)).drop k1).length = k2 + 1 - k1 := by rw [List.length_drop, List.length_take]; omega
 have lM : (((S.splitL (byteList now)).take (k1 + kW + 1)).drop k1).length = kW + 1 := by rw [List.length_drop, List.length_take]; omega
 have hX : S.readX S.wTok (S.linesAt now (1 + (k1 : Int)) (1 + (k1 : Int) + (kW : Int))) (1 + (k1 : Int)) = ((S.readL (((S.splitL (byteList now)).take (k1 + kW + 1)).drop k1) (1 + (k1 : Int))).1.filter S.isTok, (S.readL (((S.splitL (byteList now)).take (k1 + kW + 1)).drop k1) (1 + (k1 : Int))).2) := by
   unfold S.readX S.linesAt
   rw [List.map_drop, List.map_take, lines_bl, show (1 + (k1 : Int) + (kW : Int)).toNat = k1 + kW + 1 by omega, show (1 + (k1 : Int) - 1).toNat = k1 by omega]
   rfl
 rw [hX]
 generalize (S.splitL (byteList s)).take k1 = L1 at *
 generalize ((S.splitL (byteList s)).take (k2 + 1)).drop k1 = MA at *
 generalize ((S.splitL (byteList now)).take (k1 + kW + 1)).drop k1 = MN at *
 generalize (S.splitL (byteList s)).drop (k2 + 1) = L3 at *
 -- what is read of the old text
 have hRA := readL_app L1 (MA ++ L3) 1
 rw [← eA] at hRA
 have o1 : (S.readL L1 1).2.2 = 0 := by
   by_cases h : (S.readL L1 1).2.2 = 0
   · exact h
   · rw [if_neg h] at hRA
     rw [hRA] at hR; exact absurd hR h
 rw [if_pos o1, l1] at hRA
 have o2 : (S.readL (MA ++ L3) (1 + (k1 : Int))).2.2 = 0 := by
   by_cases h : (S.readL (MA ++ L3) (1 + (k1 : Int))).2.2 = 0
   · exact h
   · rw [if_neg h] at hRA
     rw [hRA] at hR; exact absurd hR h
 rw [if_pos o2] at hRA
 have hRB := readL_app MA L3 (1 + (k1 : Int))
 have o3 : (S.readL MA (1 + (k1 : Int))).2.2 = 0 := by
   by_cases h : (S.readL MA (1 + (k1 : Int))).2.2 = 0
   · exact h
   · rw [if_neg h] at hRB
     rw [hRB] at o2; exact absurd o2 h
 have hn3 : (1 : Int) + (k1 : Int) + (MA.length : Int) = (k2 : Int) + 2 := by rw [lA]; omega
 rw [if_pos o3, hn3] at hRB
 have o4 : (S.readL L3 ((k2 : Int) + 2)).2.2 = 0 := by
   by_cases h : (S.readL L3 ((k2 : Int) + 2)).2.2 = 0
   · exact h
   · rw [if_neg h] at hRB
     rw [hRB] at o2; exact absurd o2 h
 rw [if_pos o4] at hRB
 have hG := readG_ok hR
 have hl : (S.readG s).1 = (S.readL L1 1).1.filter S.isTok ++ ((S.readL MA (1 + (k1 : Int))).1.filter S.isTok ++ (S.readL L3 ((k2 : Int) + 2)).1.filter S.isTok) := by
   rw [hG, hRA]
   simp only
   rw [List.filter_append, hRB]
   simp only
   rw [List.filter_append]
 obtain ⟨b1, _⟩ := readL_line L1 1
 obtain ⟨bA, _⟩ := readL_line MA (1 + (k1 : Int))
 obtain ⟨b3, _⟩ := readL_line L3 ((k2 : Int) + 2)
 have hah : S.aheadL (S.readG s).1 (1 + (k1 : Int)) = (S.readL L1 1).1.filter S.isTok := by
   rw [hl, ahead_app, ahead_app, ahead_all (fun t ht => by have := b1 t (List.mem_filter.1 ht).1; omega), ahead_no (fun t ht => by have := bA t (List.mem_filter.1 ht).1; omega), ahead_no (fun t ht => by have := b3 t (List.mem_filter.1 ht).1; omega)]
   rw [List.append_nil, List.append_nil]
 have hbh : S.behindL (S.readG s).1 (1 + (k1 : Int)) (1 + (k2 : Int)) (1 + (k1 : Int) + (kW : Int) - (1 + (k2 : Int))) = ((S.readL L3 ((k2 : Int) + 2)).1.filter S.isTok).map (moveT (1 + (k1 : Int) + (kW : Int) - (1 + (k2 : Int)))) := by
   rw [hl, behind_app, behind_app, behind_no (fun t ht => by have := b1 t (List.mem_filter.1 ht).1; exact .inl (by omega)), behind_no (fun t ht => by have := bA t (List.mem_filter.1 ht).1; exact .inr (by omega)), behind_all (fun t ht => by have := b3 t (List.mem_filter.1 ht).1; omega)]
   rfl
 -- what is read of the new one
 obtain ⟨m1, m2, _⟩ := readL_move L3 ((k2 : Int) + 2) (1 + (k1 : Int) + (kW : Int) - (1 + (k2 : Int)))
 rw [show (k2 : Int) + 2 + (1 + (k1 : Int) + (kW : Int) - (1 + (k2 : Int))) = 1 + (k1 : Int) + ((kW + 1 : Nat) : Int) by omega] at m1 m2
 have hN := readL_app L1 (MN ++ L3) 1
 rw [← eN, if_pos o1, l1] at hN
 have hM := readL_app MN L3 (1 + (k1 : Int))
 rw [lM] at hM
 by_cases oM : (S.readL MN (1 + (k1 : Int))).2.2 = 0
 · rw [if_pos oM, if_pos (by rw [m2]; exact o4)] at hM
   rw [if_pos (by rw [hM])] at hN
   have hGN := readG_ok (s := now) (by rw [hN])
   rw [hN] at hGN
   simp only at hGN
   rw [hM] at hGN
   simp only at hGN
   rw [List.filter_append, List.filter_append, m1, filter_move] at hGN
   rw [if_pos oM, hah, hbh]
   have hlen : ((S.readL L1 1).1.filter S.isTok ++ ((S.readL MN (1 + (k1 : Int))).1.filter S.isTok ++ ((S.readL L3 ((k2 : Int) + 2)).1.filter S.isTok).map (moveT (1 + (k1 : Int) + (kW : Int) - (1 + (k2 : Int)))))).length ≤ now.size := by
     have := hnl
     rw [hGN] at this
     exact this
   rw [if_neg (Nat.not_lt.2 (Nat.le_trans hlen (by omega))), hGN]
   refine ⟨_, rfl, ?_⟩
   simp only [List.length_append]
   show ¬ ((_ : Nat) : Int) < ((_ : Nat) : Int)
   omega
 · rw [if_neg oM] at hM
   rw [if_neg (by rw [hM]; exact oM), hM] at hN
   have hGN := readG_bad (s := now) (by rw [hN]; exact oM)
   rw [hN] at hGN
   rw [if_neg oM, hGN]
   exact ⟨0, rfl, by show ¬ (0 : Int) < 0; decide⟩
def onLine (n : Int) (t : DToken) : DToken := (t.1, t.2.1, n, t.2.2.2)
theorem lines_12 (s : ByteArray) (c : DChange) (K : (List ByteArray × List DToken × Int × Int × Int × Int × List DToken) → Option Rtz26) (Ls : List ByteArray) (pl e pc : Int) (all toks own : List DToken) (i : Nat) (hi : i ≤ 1000000) (hl : toks.length ≤ 1000000) (ho : own.length ≤ 1000000) :
   Gz26_12 LF s c K LF (Ls, pl, e, all, pc, toks, Int.ofNat 0, own, Int.ofNat i, Int.ofNat i) = K (Ls, all, pl, e, pc, Int.ofNat (i + 1), own ++ toks.map (onLine (Int.ofNat (i + 1)))) := by
 have w1 : IntKind.i64.wrap (Int.add (Int.ofNat i) (Int.ofNat 1)) = Int.ofNat (i + 1) := wrap_nat (n := i + 1) (by omega)
 refine (range0 (σ := List DToken) (R := Rtz26) toks (fun k q => (Ls, pl, e, all, pc, toks, k, q, Int.ofNat i, Int.ofNat i)) (fun k q => q.length ≤ 1000000 + k) (fun rest k q => K (Ls, all, pl, e, pc, Int.ofNat (i + 1), q ++ rest.map (onLine (Int.ofNat (i + 1))))) (by unfold LF; omega) (fun K2 q hq => ?_) (fun K2 k v rest q hq r h => ?_) own ho)
 · simp only [Rz26_12, ilt_self, cond_false, w1, List.map_nil, List.append_nil]
 · have hk := r.lt
   have hg : toks[Int.toNat (Int.ofNat k)]? = some v := r.get?
   have hr : Nat.ble (Nat.mul (Nat.add q.length 1) 40) 140737488355328 = true := Nat.ble_eq_true_of_le (by show (q.length + 1) * 40 ≤ _; omega)
   simp only [Rz26_12, r.ilt, r.get, hg, r.next, cond_true, w1, hr]
   refine (h (q ++ [(v.1, v.2.1, Int.ofNat (i + 1), v.2.2.2)]) (by rw [List.length_append]; simp only [List.length_cons, List.length_nil]; omega)).trans ?_
   rw [List.map_cons, List.append_assoc]
   rfl
theorem line_tokens {v : ByteArray} (hv : v.size ≤ 6000) (hn : ∀ b ∈ byteList v, ¬ b = 10) : (∀ c e, (S.line (byteList v)).2 = some (c, e) → S.tokens v = ([], [], (1, Int.ofNat c), e)) ∧ ((S.line (byteList v)).2 = none → (S.tokens v).1 = S.at_ 1 ((S.line (byteList v)).1.filter S.plain) ∧ (S.tokens v).2.2 = ((0, 0), 0)) := by
 rw [tokens_small hv]
 exact line_read (splitL_none hn)
theorem lines_6 (s : ByteArray) (c : DChange) (hs : s.size ≤ 400) (hw : c.2.2.size ≤ 100) : Gz26_6 LF s c LF (S.lines s, (S.readG s).1, (S.readG s).2.2.1.1, (S.readG s).2.2.2, (S.readG s).2.2.1.2, Int.ofNat 0, []) = some (true, ()) := by
 have f : S.fits s = true := Nat.ble_eq_true_of_le (by omega)
 have fw : S.fits c.2.2 = true := Nat.ble_eq_true_of_le (by omega)
 obtain ⟨k1, k2, _⟩ := okL_inv (lines_ok f)
 have hll : (S.lines s).length ≤ 401 := by
   unfold S.lines
   rw [List.length_map, splitL_len]
   have := List.count_le_length (a := (10 : Int)) (l := byteList s)
   rw [bl_len] at this; omega
 obtain ⟨R, hR⟩ : ∃ R, R = S.readL (S.splitL (byteList s)) 1 := ⟨_, rfl⟩
 refine range0 (σ := List DToken) (R := Rtz26) (S.lines s) (fun i own => (S.lines s, (S.readG s).1, (S.readG s).2.2.1.1, (S.readG s).2.2.2, (S.readG s).2.2.1.2, i, own))
   (fun i own => own.length ≤ i * 400 ∧ ((S.readL (((S.lines s).drop i).map byteList) (1 + (i : Int))).2.2 = 0 → R.2.2 = 0 ∧ R.1.filter S.isTok = own ++ (S.readL (((S.lines s).drop i).map byteList) (1 + (i : Int))).1.filter S.isTok) ∧ (¬ (S.readL (((S.lines s).drop i).map byteList) (1 + (i : Int))).2.2 = 0 → R.2 = (S.readL (((S.lines s).drop i).map byteList) (1 + (i : Int))).2))
   (fun _ _ _ => some (true, ())) (by unfold LF; omega) (fun K own hI => ?_) (fun K i v rest own hI r h => ?_) [] ⟨Nat.zero_le _, fun h => ?_, fun h => ?_⟩
 · obtain ⟨_, h4, _⟩ := hI
   rw [List.drop_length] at h4
   obtain ⟨a1, a2⟩ := h4 rfl
   have hg := readG_ok (s := s) (by rw [← hR]; exact a1)
   rw [← hR] at hg
   have e0 : (S.readG s).2.2.2 = 0 := by rw [hg]
   have e1 : (S.readG s).1 = own := by
     rw [hg]
     show R.1.filter S.isTok = own
     rw [a2]
     show own ++ [] = own
     rw [List.append_nil]
   have hlen := (readG_len s).1
   have hls : Nat.ble (S.readG s).1.length 1000000 = true := Nat.ble_eq_true_of_le (by omega)
   have esame : S.sameT own (S.readG s).1 = true := by rw [e1, sameT_self]
   simp only [Rz26_6, ilt_self, cond_false, f, fw, hls, esame, Bool.and_true, cond_true, Bool.not_true]
   rw [ieq_t (show (S.readG s).2.2.2 = Int.ofNat 0 from e0), Bool.not_true, cond_false]
   show cond (!ieqI (S.edit s c).2 (Int.ofNat 0)) _ _ = _
   by_cases h0 : (S.edit s c).2 = 0
   · rw [ieq_t (show (S.edit s c).2 = Int.ofNat 0 from h0), Bool.not_true, cond_false]
     obtain ⟨a, b, ha, hb, hab, hbs, hbl, hsz, hsz2⟩ := edit_inv h0
     have fn : S.fits (S.edit s c).1 = true := Nat.ble_eq_true_of_le (by omega)
     obtain ⟨m, hm1, hm2⟩ := patch_law s c hs hw h0 (by rw [← hR]; exact a1)
     have hm1' : S.patch (S.readG s).1 s (c.1, (c.2.1, c.2.2)) = ((S.readG (S.edit s c).1).1, m, (S.readG (S.edit s c).1).2.2.1, (S.readG (S.edit s c).1).2.2.2) := hm1
     show (match (cond (S.fits (S.edit s c).1) (some ((S.tokens (S.edit s c).1).1, ((S.tokens (S.edit s c).1).2.2.1, ((S.tokens (S.edit s c).1).2.2.2, ())))) none) with | .none => none | .some v8 => _) = _
     rw [fn, tokens_small (s := (S.edit s c).1) (by omega), hm1']
     simp only [cond_true, ieq_self, sameT_self, keqI, decide_true, Bool.and_true]
     rw [ilt_f hm2]; rfl
   · rw [ieq_f (show ¬ (S.edit s c).2 = Int.ofNat 0 from h0), Bool.not_false, cond_true]
 · obtain ⟨ho, h4, h5⟩ := hI
   have hi := r.lt
   obtain ⟨hv, hnl⟩ := k2 v r.mem
   have hvs := Nat.le_trans (line_size r.mem) hs
   have fv : S.fits v = true := Nat.ble_eq_true_of_le (by omega)
   have hg2 : (S.lines s)[Int.toNat (Int.ofNat i)]? = some v := r.get?
   have w1 : IntKind.i64.wrap (Int.add (Int.ofNat i) (Int.ofNat 1)) = Int.ofNat (i + 1) := r.next
   rw [r.drop, List.map_cons, readL_cons] at h4 h5
   obtain ⟨t1, t2⟩ := line_tokens (v := v) (by omega) hnl
   simp only [Rz26_6, r.ilt, r.get, hg2, w1, cond_true, fv]
   have hle : S.pcs ((byteList v).length + 1) (byteList v) 1 = S.line (byteList v) := rfl
   rw [hle] at h4 h5
   cases hp : (S.line (byteList v)).2 with
   | some x =>
     obtain ⟨col, er⟩ := x
     have he := pcs_err _ _ _ _ hp
     rw [hp] at h5
     have hR2 := h5 he
     rw [t1 col er hp]
     simp only
     rw [ieq_f (show ¬ er = Int.ofNat 0 from he), Bool.not_false, cond_true]
     have hRe : R.2.2 = er := by rw [hR2]
     have hgs := readG_bad (s := s) (by rw [← hR, hRe]; exact he)
     rw [← hR, hR2] at hgs
     rw [hgs]
     simp only
     rw [ieq_self, cond_true]
     have : (1 : Int) + (i : Int) = Int.ofNat (i + 1) := by show (1 : Int) + (i : Int) = ((i + 1 : Nat) : Int); omega
     simp only [keqI, this, decide_true, Bool.and_true]
   | none =>
     obtain ⟨u1, u2⟩ := t2 hp
     rw [hp] at h4 h5
     simp only at h4 h5
     rw [u2]
     simp only
     rw [ieq_t (show (0 : Int) = Int.ofNat 0 from rfl), Bool.not_true, cond_false, u1]
     have hpl : (S.at_ 1 ((S.line (byteList v)).1.filter S.plain)).length ≤ 400 := by
       unfold S.at_
       rw [List.length_map]
       refine Nat.le_trans (List.length_filter_le _ _) (Nat.le_trans (pcs_len _ _ _) ?_)
       rw [bl_len]; exact hvs
     have hmap : (S.at_ 1 ((S.line (byteList v)).1.filter S.plain)).map (onLine (Int.ofNat (i + 1))) = (S.at_ (1 + (i : Int)) (S.line (byteList v)).1).filter S.isTok := by
       rw [at_filter]
       unfold S.at_
       rw [List.map_map]
       have : (1 : Int) + (i : Int) = Int.ofNat (i + 1) := by show (1 : Int) + (i : Int) = ((i + 1 : Nat) : Int); omega
       rw [this]
       rfl
     refine (lines_12 s c K _ _ _ _ _ _ own i (by omega) (by omega) (by omega)).trans (h _ ⟨?_, ?_, ?_⟩)
     · rw [List.length_append, List.length_map]; omega
     · rw [r.tail]
       intro hx
       rw [show (1 : Int) + ((i + 1 : Nat) : Int) = 1 + (i : Int) + 1 by omega] at hx ⊢
       rw [if_pos hx] at h4
       obtain ⟨c1, c2⟩ := h4 rfl
       refine ⟨c1, ?_⟩
       rw [c2]
       simp only
       rw [List.filter_append, hmap, List.append_assoc]
     · rw [r.tail]
       intro hx
       rw [show (1 : Int) + ((i + 1 : Nat) : Int) = 1 + (i : Int) + 1 by omega] at hx ⊢
       rw [if_neg hx] at h5
       exact h5 hx
 · rw [List.drop_zero, lines_bl] at h ⊢
   rw [hR]
   exact ⟨h, rfl⟩
 · rw [List.drop_zero, lines_bl]
   rw [hR]
   rfl
theorem Fz26_eq (s : ByteArray) (c : DChange) : Fz26 LF s c = some (true, ()) := by
 simp only [Fz26, Rz26_in, ilt_nat]
 by_cases c1 : 400 < s.size
 · rw [decide_eq_true c1]; rfl
 · rw [decide_eq_false c1, cond_false]
   by_cases c2 : 100 < c.2.2.size
   · rw [decide_eq_true c2]; rfl
   · have f : S.fits s = true := Nat.ble_eq_true_of_le (by omega)
     rw [decide_eq_false c2, cond_false, f, tokens_small (s := s) (by omega)]
     simp only [Bool.and_true, cond_true]
     exact lines_6 s c (by omega) (by omega)
theorem conz26 : Con Tryd.prog idz26 ⟨[.str, cChange], [(false, .bool)], fun _ => some (true, ())⟩ := mkz26 ⟨conz19, con_strings_Split, conz20, conz15, conz25, con_l_sanity, trivial⟩ fun x y hx h => ⟨LF, (Fz26_eq x.1 x.2.1).trans h⟩
end Go.Proofs.YtanenikkloolfaaDoor
end
