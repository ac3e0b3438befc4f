/- Texts: Qnm, Rsp, Rg1, Rp1, Rp2, Rg2, Rp3, Rp4, Rsp2, Rg3, Rp5, Rsp3, Rg4, Rp6, Rp7, Rp8, Rsp4, Rsan, Rg6. -/
import Derived.Test.YtcnhjofpmpipfaaGreatCon4
import Derived.Laws.RangeAny
import Derived.KernelRfl
/- Names, byte by byte. -/
section
set_option linter.unusedVariables false
namespace Go.Proofs.YtcnhjofpmpipfaaGreat
open Go Go.Sx Go.RowKit Go.Jx
theorem bl_len (s : ByteArray) : (byteList s).length = s.size := by
  unfold byteList
  rw [List.length_map]
  exact Array.length_toList
theorem bl_get {s : ByteArray} {i : Nat} (h : i < s.size) : (byteList s)[i]? = some ((s[i]'h).toNat : Int) := by
  unfold byteList
  rw [List.getElem?_map, List.getElem?_eq_getElem (by simpa using h)]
  rfl
theorem bl_range {s : ByteArray} {b : Int} (h : b ∈ byteList s) : 0 ≤ b ∧ b < 256 := by
  unfold byteList at h
  obtain ⟨x, _, rfl⟩ := List.mem_map.1 h
  have := x.toNat_lt
  constructor <;> omega
theorem six_neg {s : ByteArray} {q : Int → Bool} (hq : ∀ r, 128 ≤ r → q r = true) : ∀ (n i : Nat) (k : Int), s.size - i < n → sixO (fun _ r => some (q r)) s true n i = some k → (k < 0 ↔ ∀ j b, i ≤ j → (byteList s)[j]? = some b → q b = false)
  | 0, i, k, h, _ => by omega
  | n + 1, i, k, h, hk => by
    unfold sixO at hk
    by_cases hlt : i < s.size
    · have hb : Nat.blt i s.size = true := by simpa using hlt
      rw [hb, cond_true] at hk
      simp only at hk
      have hg := bl_get hlt
      by_cases ha : (s[i]'hlt).toNat < 128
      · have hd := decode_ascii s i hlt ha
        rw [hd] at hk
        simp only at hk
        cases hb2 : q (((s[i]'hlt).toNat : Nat) : Int) with
        | true =>
          have e : q (Int.ofNat (s[i]'hlt).toNat) = true := hb2
          rw [e] at hk
          cases hk
          constructor
          · intro h; have : (0 : Int) ≤ Int.ofNat i := Int.natCast_nonneg _; omega
          · intro h; have := h i _ (Nat.le_refl _) hg; rw [hb2] at this; cases this
        | false =>
          have e : q (Int.ofNat (s[i]'hlt).toNat) = false := hb2
          rw [e] at hk
          simp only [Bool.false_eq_true, decide_false, cond_false] at hk
          rw [six_neg hq n (i + 1) k (by omega) hk]
          constructor
          · intro h j b hj hjb
            by_cases e : j = i
            · subst e; rw [hg] at hjb; cases hjb; exact hb2
            · exact h j b (by omega) hjb
          · intro h j b hj hjb; exact h j b (by omega) hjb
      · have hd := decode_high s i hlt (by omega)
        have e : q (Int.ofNat (Utf8.decode s i).1) = true := hq _ (by have := hd.1; show (128 : Int) ≤ ((Utf8.decode s i).1 : Int); omega)
        rw [e] at hk
        cases hk
        constructor
        · intro h; have : (0 : Int) ≤ Int.ofNat i := Int.natCast_nonneg _; omega
        · intro h
          have := h i _ (Nat.le_refl _) hg
          rw [hq _ (by omega)] at this; cases this
    · have hb : Nat.blt i s.size = false := by
        cases hbb : Nat.blt i s.size with
        | false => rfl
        | true => exact absurd (by simpa using hbb) hlt
      rw [hb, cond_false] at hk
      cases hk
      constructor
      · intro _ j b hj hjb
        have := (List.getElem?_eq_some_iff.1 hjb).1
        rw [bl_len] at this
        omega
      · intro _; omega
theorem named_iff {s : ByteArray} {lo hi : Int} (hh : hi < 128) : S.named s lo hi = true ↔ s.size ≤ 20 ∧ (∃ b, (byteList s)[0]? = some b ∧ lo ≤ b ∧ b ≤ hi) ∧ ∀ b ∈ byteList s, S.badR b lo hi = false := by
  unfold S.named
  by_cases h0 : s = S.lit []
  · rw [if_pos h0]
    constructor
    · intro h; cases h
    · rintro ⟨_, ⟨b, hb, _⟩, _⟩
      subst h0
      cases hb
  rw [if_neg h0]
  by_cases h1 : 20 < s.size
  · rw [if_pos h1]
    exact ⟨fun h => (by cases h), fun h => by omega⟩
  rw [if_neg h1]
  obtain ⟨b, hb⟩ := byteList_get (size_pos h0)
  rw [hb]
  simp only
  by_cases h2 : b < lo
  · rw [if_pos h2]
    exact ⟨fun h => (by cases h), fun ⟨_, ⟨b', e, h3, _⟩, _⟩ => by cases e; omega⟩
  rw [if_neg h2]
  by_cases h3 : hi < b
  · rw [if_pos h3]
    exact ⟨fun h => (by cases h), fun ⟨_, ⟨b', e, _, h4⟩, _⟩ => by cases e; omega⟩
  rw [if_neg h3]
  obtain ⟨k, hk⟩ := sixO_some (p := fun _ r => some (S.badR r lo hi)) (q := fun r => S.badR r lo hi) (fun _ _ => rfl) s true (s.size + 1) 0 (by omega)
  rw [hk]
  simp only [decide_eq_true_eq]
  rw [six_neg (q := fun r => S.badR r lo hi) (fun r hr => by simp [S.badR]; omega) _ 0 k (by omega) hk]
  constructor
  · intro h
    refine ⟨by omega, ⟨b, rfl, by omega, by omega⟩, fun c hc => ?_⟩
    obtain ⟨j, hj⟩ := List.mem_iff_getElem?.1 hc
    exact h j c (Nat.zero_le _) hj
  · rintro ⟨_, _, h⟩ j c _ hj
    exact h c (List.mem_of_getElem? hj)
theorem index_neg (l : List ByteArray) (v : ByteArray) : decide (S.index l v < 0) = true ↔ ¬ v ∈ l := by
  have h := S.idx_nonneg (fun x => keqS v x) l
  simp only [decide_eq_true_eq]
  have e : l.any (fun x => keqS v x) = true ↔ v ∈ l := by
    rw [List.any_eq_true]
    constructor
    · rintro ⟨x, hx, h⟩; rw [of_decide_eq_true h]; exact hx
    · intro h; exact ⟨v, h, decide_eq_true rfl⟩
  rw [e] at h
  rw [← h]
  unfold S.index
  omega
namespace S
def isSmall (b : Int) : Bool := decide (97 ≤ b) && decide (b ≤ 122)
def isCap (b : Int) : Bool := decide (65 ≤ b) && decide (b ≤ 90)
def isDig (b : Int) : Bool := decide (48 ≤ b) && decide (b ≤ 57)
def isPart (b : Int) : Bool := isSmall b || isCap b || isDig b || decide (b = 95)
end S
theorem small_iff (s : ByteArray) : S.small s = true ↔ s.size ≤ 20 ∧ (∃ b, (byteList s)[0]? = some b ∧ 97 ≤ b ∧ b ≤ 122) ∧ (∀ b ∈ byteList s, S.badR b 97 122 = false) ∧ ¬ s ∈ S.smallWords := by
  unfold S.small
  rw [Bool.and_eq_true, named_iff (by decide), index_neg]
  simp only [and_assoc]
theorem class_iff (s : ByteArray) : S.class_ s = true ↔ s.size ≤ 20 ∧ (∃ b, (byteList s)[0]? = some b ∧ 65 ≤ b ∧ b ≤ 90) ∧ (∀ b ∈ byteList s, S.isPart b = true ∧ S.isSmall b = false) ∧ ¬ s ∈ S.classWords := by
  unfold S.class_
  rw [Bool.and_eq_true, named_iff (by decide), index_neg]
  have hbad : ∀ b, S.badR b 65 90 = false ↔ (S.isPart b = true ∧ S.isSmall b = false) := fun b => by
    simp only [S.badR, S.isPart, S.isSmall, S.isCap, S.isDig, Bool.not_eq_false', Bool.or_eq_true, Bool.and_eq_true, decide_eq_true_eq, Bool.and_eq_false_iff, decide_eq_false_iff_not]
    omega
  simp only [hbad, and_assoc]
end Go.Proofs.YtcnhjofpmpipfaaGreat
end

/- What the functions of the reference compute: the same as those of the package. -/
section
set_option linter.unusedVariables false
noncomputable section
namespace Go.Proofs.YtcnhjofpmpipfaaGreat
open Go Go.Sx Go.RowKit Go.Jx
abbrev DR1Kinded : Type := Int × Int
abbrev DR1Numbered : Type := Int × Int
abbrev DR22Made : Type := DVal × Bool
abbrev DR22Converted : Type := DGraph × DRefusal × Int
namespace S
def has (l : List ByteArray) (s : ByteArray) : Bool := l.any fun x => keqS x s
def run0 (s : ByteArray) : Int := Int.ofNat ((byteList s).takeWhile isPart).length
def numGo : List Int → Int → Int × Int
  | [], n => (n, 0)
  | b :: r, n =>
    let m := IntKind.i64.wrap (Int.sub (IntKind.i64.wrap (Int.add (IntKind.i64.wrap (Int.mul (Int.ofNat 10) n)) b)) (Int.ofNat 48))
    if 1099511627776 < m then (0, 3) else numGo r m
def number (s : ByteArray) : Int × Int :=
  if (byteList s).all isDig = false then (0, 2)
  else if (byteList s)[0]? = some 48 ∧ 1 < s.size then (0, 2)
  else numGo (byteList s) 0
def wordsT : List ByteArray := [S.lit [84, 114, 117, 101], S.lit [70, 97, 108, 115, 101], S.lit [86, 111, 105, 100], S.lit [67, 117, 114, 114, 101, 110, 116], S.lit [82, 101, 115, 117, 108, 116]]
def keywords : List ByteArray := [S.lit [97, 110, 100], S.lit [97, 115], S.lit [97, 116, 116, 97, 99, 104, 101, 100], S.lit [99, 104, 101, 99, 107], S.lit [99, 108, 97, 115, 115], S.lit [99, 114, 101, 97, 116, 101], S.lit [100, 101, 102, 101, 114, 114, 101, 100], S.lit [100, 101, 116, 97, 99, 104, 97, 98, 108, 101], S.lit [100, 111], S.lit [101, 108, 115, 101], S.lit [101, 110, 100], S.lit [101, 110, 115, 117, 114, 101], S.lit [102, 101, 97, 116, 117, 114, 101], S.lit [102, 114, 111, 109], S.lit [105, 102], S.lit [105, 109, 112, 108, 105, 101, 115], S.lit [105, 110, 104, 101, 114, 105, 116], S.lit [105, 110, 118, 97, 114, 105, 97, 110, 116], S.lit [108, 111, 99, 97, 108], S.lit [108, 111, 111, 112], S.lit [110, 111, 116], S.lit [111, 108, 100], S.lit [111, 114], S.lit [112, 117, 116], S.lit [114, 97, 105, 115, 101], S.lit [114, 101, 100, 101, 102, 105, 110, 101], S.lit [114, 101, 110, 97, 109, 101], S.lit [114, 101, 113, 117, 105, 114, 101], S.lit [114, 101, 115, 99, 117, 101], S.lit [114, 101, 116, 114, 121], S.lit [115, 101, 108, 101, 99, 116], S.lit [115, 101, 112, 97, 114, 97, 116, 101], S.lit [116, 104, 101, 110], S.lit [117, 110, 100, 101, 102, 105, 110, 101], S.lit [117, 110, 116, 105, 108], S.lit [118, 97, 114, 105, 97, 110, 116], S.lit [119, 104, 101, 110]]
def signs : List ByteArray := [S.lit [58, 61], S.lit [47, 61], S.lit [60, 61], S.lit [62, 61], S.lit [47, 47], S.lit [61], S.lit [60], S.lit [62], S.lit [43], S.lit [45], S.lit [42], S.lit [37], S.lit [40], S.lit [41], S.lit [91], S.lit [93], S.lit [123], S.lit [125], S.lit [44], S.lit [59], S.lit [58], S.lit [46]]
def word (s : ByteArray) : Int × Int :=
  if has keywords s || has wordsT s then (3, 0)
  else if has smallWords s then (0, 4)
  else if (byteList s).any isSmall && (byteList s).any isCap then (0, 2)
  else if 20 < s.size then (0, 3)
  else if (byteList s).any isSmall then (1, 0)
  else (2, 0)
def shape (s : ByteArray) : Int × Int :=
  if has signs s then (5, 0)
  else match (byteList s)[0]? with
    | none => (0, 2)
    | some b => if run0 s < Int.ofNat s.size then (0, 2)
      else if b = 95 then (0, 2)
      else if isDig b then (if (number s).2 = 0 then (4, 0) else (0, (number s).2))
      else word s
end S
def sp_q_has : Sm := ⟨[.list .str, .str], [(false, .bool)], fun x => some (S.has x.1 x.2.1, ())⟩
def sp_q_run : Sm := ⟨[.str, .int .i64], [(false, .int .i64)], fun x => cond (ieqI x.2.1 (Int.ofNat 0)) (some (S.run0 x.1, ())) none⟩
def sp_q_number : Sm := ⟨[.str], [(false, cR1Numbered)], fun x => cond (Nat.blt 0 (ByteArray.size x.1)) (some (S.number x.1, ())) none⟩
def sp_q_word : Sm := ⟨[.str], [(false, cR1Kinded)], fun x => some (S.word x.1, ())⟩
def sp_q_Shape : Sm := ⟨[.str], [(false, cR1Kinded)], fun x => some (S.shape x.1, ())⟩
def sp_r_form : Sm := ⟨[.list cForm, .str], [(false, .int .i64)], fun x => some (S.form x.1 x.2.1, ())⟩
def sp_r_column : Sm := ⟨[cForm, .str], [(false, .int .i64)], fun x => some (S.col x.1.2 x.2.1, ())⟩
def sp_r_valued : Sm := ⟨[cVal, .int .i64], [(false, .bool)], fun x => some (S.value x.1 x.2.1, ())⟩
def sp_r_Formed : Sm := ⟨[cGraph], [(false, .int .i64)], fun x => some (S.formed x.1, ())⟩
def sp_r_fits : Sm := ⟨[cCol, cVal, cGraph], [(false, .bool)], fun x => cond (S.refOK x.2.2.1 x.2.1) (some (S.suits x.2.2.1 x.1 x.2.1, ())) none⟩
def sp_r_classed : Sm := ⟨[.str], [(false, .bool)], fun x => some (S.class_ x.1, ())⟩
def sp_r_smallNamed : Sm := ⟨[.str], [(false, .bool)], fun x => some (S.small x.1, ())⟩
def sp_r_CheckForms : Sm := ⟨[.list cForm], [(false, .int .i64)], fun x => some (S.checkForms x.1, ())⟩
def sp_r_Check : Sm := ⟨[.list cForm, cGraph], [(false, .int .i64)], fun x => some (S.checkG x.1 x.2.1, ())⟩
def sp_r_rule : Sm := ⟨[.list cRule, .str], [(false, .int .i64)], fun x => some (S.idx (fun r : DRule => keqS r.1 x.2.1) x.1, ())⟩
def sp_r_target : Sm := ⟨[.list cRule, .str], [(false, .str)], fun x => some ((S.ruleOf x.1 x.2.1).1.2.1, ())⟩
namespace S
def rleads (l : List DRule) (a b : DCol) : Bool := decide (b.2.2 = S.ANY) || (decide (¬ a.2.2 = S.ANY) && decide ((S.ruleOf l a.2.2).1.2.1 = b.2.2))
end S
def sp_r_leads : Sm := ⟨[.list cRule, cCol, cCol], [(false, .bool)], fun x => some (S.rleads x.1 x.2.1 x.2.2.1, ())⟩
namespace S
def numbered (g : DGive) (b : DCol) : Bool :=
  if g.2.1 = 4 then within g.2.2 (-1099511627776) 1099511627776
  else if g.2.1 = 6 then (if b.2.1 = 2 then decide (g.1 = S.lit []) && within g.2.2 0 1 else decide (g.1 = S.lit []) && within g.2.2 (-1099511627776) 1099511627776)
  else if g.2.1 = 7 then decide (g.1 = S.lit []) && decide (g.2.2 = 0)
  else decide (g.2.2 = 0)
def sourced (g : DGive) : Bool := within g.2.1 1 5
end S
def sp_r_numbered : Sm := ⟨[cGive, cCol], [(false, .bool)], fun x => some (S.numbered x.1 x.2.1, ())⟩
end Go.Proofs.YtcnhjofpmpipfaaGreat

end
end

/- Made by program: plain forms of functions. -/
section
set_option linter.unusedVariables false
set_option maxRecDepth 100000
noncomputable section
namespace Go.Proofs.YtcnhjofpmpipfaaGreat
open Go Go.Sx Go.RowKit Go.Jx
def nm_q_has : Nat → Option Nm := fun k => cond (Nat.beq k 2) (some ⟨[0, 1, 5], [], [], [], [], 0, 0, false⟩) (none)
def st_q_has : Nat → Bool := fun k => cond (Nat.beq k 2) true (false)
def hd_q_has : Nat → Bool := fun k => cond (Nat.beq k 2) true (false)
abbrev Rt_q_has : Type := Bool × Unit
def sml_q_has : List (Nat × Sm) := []
def hxl_q_has : List (Nat × Hx) := []
def cl_q_has (R : Type) (lf : Nat) : ClK R := icallK Tryz.prog ttT.get ftT.get (nm1 137 nm_q_has) (smL sml_q_has) (hxL hxl_q_has) lf 20 R
abbrev id_q_has : Nat := 137
def enc_q_has_2 (x1 : (List ByteArray)) (x2 : ByteArray) (p : Int) : NRes := (NRes.mk (PT.node (some (IV.lst TC.str x1)) (PT.node (some (IV.str x2)) PT.leaf (PT.node (some (IV.int Go.IntKind.i64 p)) PT.leaf PT.leaf)) PT.leaf) (IS.mk PT.leaf 0) [] 0)
def R_q_has_in (lf : Nat) (x1 : (List ByteArray)) (x2 : ByteArray) (L2 : Int → Option Rt_q_has) : Option Rt_q_has := (L2 (Int.ofNat 0))
def R_q_has_2 (lf : Nat) (x1 : (List ByteArray)) (x2 : ByteArray) (L2 : Int → Option Rt_q_has) (p : Int) : Option Rt_q_has := (cond (iltI p (Int.ofNat (List.length x1))) (match (jget x1 p) with | .none  => none | .some v0 => (cond (keqS v0 x2) (some (Bool.true, ())) (L2 (Go.IntKind.wrap Go.IntKind.i64 (Int.add p (Int.ofNat 1)))))) (some (Bool.false, ())))
theorem in_q_has (g : ElA [(.list .str), .str] → Option Rt_q_has) (J : Nat → List Nat → NRes → Option Rt_q_has) (lf : Nat) (x1 : (List ByteArray)) (x2 : ByteArray) : icodeT Tryz.prog ttT.get nm_q_has fi137.nt (cl_q_has _ lf) lf st_q_has J fi137.body [] (argGo (argV [(.list .str), .str] (x1, x2, ())) 0 .leaf) S0 [] (lastK ttT.get fi137 ⟨[(.list .str), .str], [(false, .bool)], g⟩) = R_q_has_in lf x1 x2 (fun q => J 2 [lf] (enc_q_has_2 x1 x2 q)) := by kernel_rfl
theorem st_q_has_2 (g : ElA [(.list .str), .str] → Option Rt_q_has) (J : Nat → List Nat → NRes → Option Rt_q_has) (lf : Nat) (x1 : (List ByteArray)) (x2 : ByteArray) (m1 : Nat) (p : Int) : icodeFT Tryz.prog ttT.get nm_q_has fi137.nt (cl_q_has _ lf) lf st_q_has J 2 fi137.body [] [m1] (enc_q_has_2 x1 x2 p) (lastK ttT.get fi137 ⟨[(.list .str), .str], [(false, .bool)], g⟩) = R_q_has_2 lf x1 x2 (fun q => J 2 [m1] (enc_q_has_2 x1 x2 q)) p := by kernel_rfl
theorem nd_q_has : (regs fi137.body).Nodup := by decide +kernel
theorem ok_q_has : okC nm_q_has st_q_has hd_q_has fi137.body none = true := by kernel_rfl
def A_q_has (g : ElA [(.list .str), .str] → Option Rt_q_has) (lf : Nat) : Nat → List Nat → NRes → Option Rt_q_has := atN Tryz.prog ttT.get nm_q_has fi137 ⟨[(.list .str), .str], [(false, .bool)], g⟩ (cl_q_has _ lf) lf hd_q_has
def G_q_has_2 (lf : Nat) (x1 : (List ByteArray)) (x2 : ByteArray) : Nat → (Int) → Option Rt_q_has := rounds fun K p => R_q_has_2 lf x1 x2 K p
theorem at_q_has_2 (g : ElA [(.list .str), .str] → Option Rt_q_has) (lf : Nat) (x1 : (List ByteArray)) (x2 : ByteArray) : ∀ (n : Nat) (p : Int), A_q_has g lf 2 [n] (enc_q_has_2 x1 x2 p) = G_q_has_2 lf x1 x2 n p
  | 0, p => atN_zero 2 [0] rfl _
  | n + 1, p => by
    have ih := at_q_has_2 g lf x1 x2 n
    refine (atN_eq (icallK_eq 20 _) nd_q_has ok_q_has 2 [n + 1] [n] rfl _).trans ((st_q_has_2 g (A_q_has g lf) lf x1 x2 n p).trans ?_)
    rw [(show (fun q => A_q_has g lf 2 [n] (enc_q_has_2 x1 x2 q)) = (fun q => G_q_has_2 lf x1 x2 n q) from funext ih)]
    rfl
def F_q_has (lf : Nat) (x1 : (List ByteArray)) (x2 : ByteArray) : Option Rt_q_has := R_q_has_in lf x1 x2 (fun q => G_q_has_2 lf x1 x2 lf q)
theorem run_q_has (g : ElA [(.list .str), .str] → Option Rt_q_has) (lf : Nat) (x1 : (List ByteArray)) (x2 : ByteArray) : icodeT Tryz.prog ttT.get nm_q_has fi137.nt (cl_q_has _ lf) lf st_q_has (A_q_has g lf) fi137.body [] (argGo (argV [(.list .str), .str] (x1, x2, ())) 0 .leaf) S0 [] (lastK ttT.get fi137 ⟨[(.list .str), .str], [(false, .bool)], g⟩) = F_q_has lf x1 x2 := by
    refine (in_q_has g (A_q_has g lf) lf x1 x2).trans ?_
    rw [(show (fun q => A_q_has g lf 2 [lf] (enc_q_has_2 x1 x2 q)) = (fun q => G_q_has_2 lf x1 x2 lf q) from funext fun q => at_q_has_2 g lf x1 x2 lf q)]
    rfl
theorem hxs_q_has : HxsOK Tryz.prog hxl_q_has := trivial
theorem mk_q_has {g : ElA [(.list .str), .str] → Option Rt_q_has} (hsm : SmOK Tryz.prog sml_q_has) (hg : ∀ (x : ElA [(.list .str), .str]) (y : Rt_q_has), WfA [(.list .str), .str] x → g x = some y → ∃ lf, F_q_has lf x.1 x.2.1 = some y) : Con Tryz.prog 137 ⟨[(.list .str), .str], [(false, .bool)], g⟩ :=
  conT (nmf := nm_q_has) (sml := sml_q_has) (hxl := hxl_q_has) (st := st_q_has) (hd := hd_q_has) 20 mixed ttOK ftOK hsm hxs_q_has cal137 rfl rfl (by kernel_rfl) (fun x => by kernel_rfl) nd_q_has ok_q_has fun x y hx hy => by
    obtain ⟨lf, h⟩ := hg x y hx hy
    exact ⟨lf, (run_q_has g lf x.1 x.2.1).trans h⟩
def nm_r_smallNamed : Nat → Option Nm := fun k => cond (Nat.beq k 4) (some ⟨[0, 3], [], [], [], [], 0, 0, false⟩) (none)
def st_r_smallNamed : Nat → Bool := fun k => cond (Nat.beq k 4) true (false)
def hd_r_smallNamed : Nat → Bool := fun k => cond (Nat.beq k 4) true (false)
abbrev Rt_r_smallNamed : Type := Bool × Unit
def sml_r_smallNamed : List (Nat × Sm) := []
def hxl_r_smallNamed : List (Nat × Hx) := []
def cl_r_smallNamed (R : Type) (lf : Nat) : ClK R := icallK Tryz.prog ttT.get ftT.get (nm1 93 nm_r_smallNamed) (smL sml_r_smallNamed) (hxL hxl_r_smallNamed) lf 20 R
abbrev id_r_smallNamed : Nat := 93
def enc_r_smallNamed_4 (x1 : ByteArray) (p : Int) : NRes := (NRes.mk (PT.node (some (IV.str x1)) (PT.node none (PT.node (some (IV.int Go.IntKind.i64 p)) PT.leaf PT.leaf) PT.leaf) PT.leaf) (IS.mk PT.leaf 0) [] 0)
def R_r_smallNamed_in (lf : Nat) (x1 : ByteArray) (L4 : Int → Option Rt_r_smallNamed) : Option Rt_r_smallNamed := (cond (iltI (Int.ofNat (ByteArray.size x1)) (Int.ofNat 1)) (some (Bool.false, ())) (cond (iltI (Int.ofNat 20) (Int.ofNat (ByteArray.size x1))) (some (Bool.false, ())) (match (jget (byteList x1) (Int.ofNat 0)) with | .none  => none | .some v0 => (cond (iltI v0 (Int.ofNat 97)) (some (Bool.false, ())) (match (jget (byteList x1) (Int.ofNat 0)) with | .none  => none | .some v1 => (cond (iltI (Int.ofNat 122) v1) (some (Bool.false, ())) (L4 (Int.ofNat 0))))))))
def R_r_smallNamed_4 (lf : Nat) (x1 : ByteArray) (L4 : Int → Option Rt_r_smallNamed) (p : Int) : Option Rt_r_smallNamed := (cond (iltI p (Int.ofNat (ByteArray.size x1))) (match (jget (byteList x1) p) with | .none  => none | .some v0 => (cond (Bool.not (iltI v0 (Int.ofNat 97))) (match (jget (byteList x1) p) with | .none  => none | .some v1 => (cond (Bool.not (iltI (Int.ofNat 122) v1)) (L4 (Go.IntKind.wrap Go.IntKind.i64 (Int.add p (Int.ofNat 1)))) (match (jget (byteList x1) p) with | .none  => none | .some v25 => (cond (Bool.not (iltI v25 (Int.ofNat 48))) (match (jget (byteList x1) p) with | .none  => none | .some v26 => (cond (Bool.not (iltI (Int.ofNat 57) v26)) (L4 (Go.IntKind.wrap Go.IntKind.i64 (Int.add p (Int.ofNat 1)))) (match (jget (byteList x1) p) with | .none  => none | .some v27 => (cond (Bool.not (ieqI v27 (Int.ofNat 95))) (some (Bool.false, ())) (L4 (Go.IntKind.wrap Go.IntKind.i64 (Int.add p (Int.ofNat 1)))))))) (match (jget (byteList x1) p) with | .none  => none | .some v28 => (cond (Bool.not (ieqI v28 (Int.ofNat 95))) (some (Bool.false, ())) (L4 (Go.IntKind.wrap Go.IntKind.i64 (Int.add p (Int.ofNat 1)))))))))) (match (jget (byteList x1) p) with | .none  => none | .some v29 => (cond (Bool.not (iltI v29 (Int.ofNat 48))) (match (jget (byteList x1) p) with | .none  => none | .some v30 => (cond (Bool.not (iltI (Int.ofNat 57) v30)) (L4 (Go.IntKind.wrap Go.IntKind.i64 (Int.add p (Int.ofNat 1)))) (match (jget (byteList x1) p) with | .none  => none | .some v31 => (cond (Bool.not (ieqI v31 (Int.ofNat 95))) (some (Bool.false, ())) (L4 (Go.IntKind.wrap Go.IntKind.i64 (Int.add p (Int.ofNat 1)))))))) (match (jget (byteList x1) p) with | .none  => none | .some v32 => (cond (Bool.not (ieqI v32 (Int.ofNat 95))) (some (Bool.false, ())) (L4 (Go.IntKind.wrap Go.IntKind.i64 (Int.add p (Int.ofNat 1)))))))))) (cond (Bool.not (keqS x1 (S.lit [116, 114, 117, 101]))) (cond (Bool.not (keqS x1 (S.lit [102, 97, 108, 115, 101]))) (cond (Bool.not (keqS x1 (S.lit [118, 111, 105, 100]))) (cond (Bool.not (keqS x1 (S.lit [99, 117, 114, 114, 101, 110, 116]))) (some ((Bool.not (keqS x1 (S.lit [114, 101, 115, 117, 108, 116]))), ())) (some (Bool.false, ()))) (some (Bool.false, ()))) (some (Bool.false, ()))) (some (Bool.false, ()))))
theorem in_r_smallNamed (g : ElA [.str] → Option Rt_r_smallNamed) (J : Nat → List Nat → NRes → Option Rt_r_smallNamed) (lf : Nat) (x1 : ByteArray) : icodeT Tryz.prog ttT.get nm_r_smallNamed fi93.nt (cl_r_smallNamed _ lf) lf st_r_smallNamed J fi93.body [] (argGo (argV [.str] (x1, ())) 0 .leaf) S0 [] (lastK ttT.get fi93 ⟨[.str], [(false, .bool)], g⟩) = R_r_smallNamed_in lf x1 (fun q => J 4 [lf] (enc_r_smallNamed_4 x1 q)) := by kernel_rfl
theorem st_r_smallNamed_4 (g : ElA [.str] → Option Rt_r_smallNamed) (J : Nat → List Nat → NRes → Option Rt_r_smallNamed) (lf : Nat) (x1 : ByteArray) (m1 : Nat) (p : Int) : icodeFT Tryz.prog ttT.get nm_r_smallNamed fi93.nt (cl_r_smallNamed _ lf) lf st_r_smallNamed J 4 fi93.body [] [m1] (enc_r_smallNamed_4 x1 p) (lastK ttT.get fi93 ⟨[.str], [(false, .bool)], g⟩) = R_r_smallNamed_4 lf x1 (fun q => J 4 [m1] (enc_r_smallNamed_4 x1 q)) p := by kernel_rfl
theorem nd_r_smallNamed : (regs fi93.body).Nodup := by decide +kernel
theorem ok_r_smallNamed : okC nm_r_smallNamed st_r_smallNamed hd_r_smallNamed fi93.body none = true := by kernel_rfl
def A_r_smallNamed (g : ElA [.str] → Option Rt_r_smallNamed) (lf : Nat) : Nat → List Nat → NRes → Option Rt_r_smallNamed := atN Tryz.prog ttT.get nm_r_smallNamed fi93 ⟨[.str], [(false, .bool)], g⟩ (cl_r_smallNamed _ lf) lf hd_r_smallNamed
def G_r_smallNamed_4 (lf : Nat) (x1 : ByteArray) : Nat → (Int) → Option Rt_r_smallNamed := rounds fun K p => R_r_smallNamed_4 lf x1 K p
theorem at_r_smallNamed_4 (g : ElA [.str] → Option Rt_r_smallNamed) (lf : Nat) (x1 : ByteArray) : ∀ (n : Nat) (p : Int), A_r_smallNamed g lf 4 [n] (enc_r_smallNamed_4 x1 p) = G_r_smallNamed_4 lf x1 n p
  | 0, p => atN_zero 4 [0] rfl _
  | n + 1, p => by
    have ih := at_r_smallNamed_4 g lf x1 n
    refine (atN_eq (icallK_eq 20 _) nd_r_smallNamed ok_r_smallNamed 4 [n + 1] [n] rfl _).trans ((st_r_smallNamed_4 g (A_r_smallNamed g lf) lf x1 n p).trans ?_)
    rw [(show (fun q => A_r_smallNamed g lf 4 [n] (enc_r_smallNamed_4 x1 q)) = (fun q => G_r_smallNamed_4 lf x1 n q) from funext ih)]
    rfl
def F_r_smallNamed (lf : Nat) (x1 : ByteArray) : Option Rt_r_smallNamed := R_r_smallNamed_in lf x1 (fun q => G_r_smallNamed_4 lf x1 lf q)
theorem run_r_smallNamed (g : ElA [.str] → Option Rt_r_smallNamed) (lf : Nat) (x1 : ByteArray) : icodeT Tryz.prog ttT.get nm_r_smallNamed fi93.nt (cl_r_smallNamed _ lf) lf st_r_smallNamed (A_r_smallNamed g lf) fi93.body [] (argGo (argV [.str] (x1, ())) 0 .leaf) S0 [] (lastK ttT.get fi93 ⟨[.str], [(false, .bool)], g⟩) = F_r_smallNamed lf x1 := by
    refine (in_r_smallNamed g (A_r_smallNamed g lf) lf x1).trans ?_
    rw [(show (fun q => A_r_smallNamed g lf 4 [lf] (enc_r_smallNamed_4 x1 q)) = (fun q => G_r_smallNamed_4 lf x1 lf q) from funext fun q => at_r_smallNamed_4 g lf x1 lf q)]
    rfl
theorem hxs_r_smallNamed : HxsOK Tryz.prog hxl_r_smallNamed := trivial
theorem mk_r_smallNamed {g : ElA [.str] → Option Rt_r_smallNamed} (hsm : SmOK Tryz.prog sml_r_smallNamed) (hg : ∀ (x : ElA [.str]) (y : Rt_r_smallNamed), WfA [.str] x → g x = some y → ∃ lf, F_r_smallNamed lf x.1 = some y) : Con Tryz.prog 93 ⟨[.str], [(false, .bool)], g⟩ :=
  conT (nmf := nm_r_smallNamed) (sml := sml_r_smallNamed) (hxl := hxl_r_smallNamed) (st := st_r_smallNamed) (hd := hd_r_smallNamed) 20 mixed ttOK ftOK hsm hxs_r_smallNamed cal93 rfl rfl (by kernel_rfl) (fun x => by kernel_rfl) nd_r_smallNamed ok_r_smallNamed fun x y hx hy => by
    obtain ⟨lf, h⟩ := hg x y hx hy
    exact ⟨lf, (run_r_smallNamed g lf x.1).trans h⟩
def nm_r_form : Nat → Option Nm := fun k => cond (Nat.beq k 2) (some ⟨[0, 1, 5], [], [], [], [], 0, 0, false⟩) (none)
def st_r_form : Nat → Bool := fun k => cond (Nat.beq k 2) true (false)
def hd_r_form : Nat → Bool := fun k => cond (Nat.beq k 2) true (false)
abbrev Rt_r_form : Type := Int × Unit
def sml_r_form : List (Nat × Sm) := []
def hxl_r_form : List (Nat × Hx) := []
def cl_r_form (R : Type) (lf : Nat) : ClK R := icallK Tryz.prog ttT.get ftT.get (nm1 40 nm_r_form) (smL sml_r_form) (hxL hxl_r_form) lf 20 R
abbrev id_r_form : Nat := 40
def enc_r_form_2 (x1 : (List DForm)) (x2 : ByteArray) (p : Int) : NRes := (NRes.mk (PT.node (some (IV.lst cForm x1)) (PT.node (some (IV.str x2)) PT.leaf (PT.node (some (IV.int Go.IntKind.i64 p)) PT.leaf PT.leaf)) PT.leaf) (IS.mk PT.leaf 0) [] 0)
def R_r_form_in (lf : Nat) (x1 : (List DForm)) (x2 : ByteArray) (L2 : Int → Option Rt_r_form) : Option Rt_r_form := (L2 (Int.ofNat 0))
def R_r_form_2 (lf : Nat) (x1 : (List DForm)) (x2 : ByteArray) (L2 : Int → Option Rt_r_form) (p : Int) : Option Rt_r_form := (cond (iltI p (Int.ofNat (List.length x1))) (match (jget x1 p) with | .none  => none | .some v0 => (cond (keqS v0.1 x2) (some (p, ())) (L2 (Go.IntKind.wrap Go.IntKind.i64 (Int.add p (Int.ofNat 1)))))) (some ((Int.negSucc 0), ())))
theorem in_r_form (g : ElA [(.list cForm), .str] → Option Rt_r_form) (J : Nat → List Nat → NRes → Option Rt_r_form) (lf : Nat) (x1 : (List DForm)) (x2 : ByteArray) : icodeT Tryz.prog ttT.get nm_r_form fi40.nt (cl_r_form _ lf) lf st_r_form J fi40.body [] (argGo (argV [(.list cForm), .str] (x1, x2, ())) 0 .leaf) S0 [] (lastK ttT.get fi40 ⟨[(.list cForm), .str], [(false, (.int .i64))], g⟩) = R_r_form_in lf x1 x2 (fun q => J 2 [lf] (enc_r_form_2 x1 x2 q)) := by kernel_rfl
theorem st_r_form_2 (g : ElA [(.list cForm), .str] → Option Rt_r_form) (J : Nat → List Nat → NRes → Option Rt_r_form) (lf : Nat) (x1 : (List DForm)) (x2 : ByteArray) (m1 : Nat) (p : Int) : icodeFT Tryz.prog ttT.get nm_r_form fi40.nt (cl_r_form _ lf) lf st_r_form J 2 fi40.body [] [m1] (enc_r_form_2 x1 x2 p) (lastK ttT.get fi40 ⟨[(.list cForm), .str], [(false, (.int .i64))], g⟩) = R_r_form_2 lf x1 x2 (fun q => J 2 [m1] (enc_r_form_2 x1 x2 q)) p := by kernel_rfl
theorem nd_r_form : (regs fi40.body).Nodup := by decide +kernel
theorem ok_r_form : okC nm_r_form st_r_form hd_r_form fi40.body none = true := by kernel_rfl
def A_r_form (g : ElA [(.list cForm), .str] → Option Rt_r_form) (lf : Nat) : Nat → List Nat → NRes → Option Rt_r_form := atN Tryz.prog ttT.get nm_r_form fi40 ⟨[(.list cForm), .str], [(false, (.int .i64))], g⟩ (cl_r_form _ lf) lf hd_r_form
def G_r_form_2 (lf : Nat) (x1 : (List DForm)) (x2 : ByteArray) : Nat → (Int) → Option Rt_r_form := rounds fun K p => R_r_form_2 lf x1 x2 K p
theorem at_r_form_2 (g : ElA [(.list cForm), .str] → Option Rt_r_form) (lf : Nat) (x1 : (List DForm)) (x2 : ByteArray) : ∀ (n : Nat) (p : Int), A_r_form g lf 2 [n] (enc_r_form_2 x1 x2 p) = G_r_form_2 lf x1 x2 n p
  | 0, p => atN_zero 2 [0] rfl _
  | n + 1, p => by
    have ih := at_r_form_2 g lf x1 x2 n
    refine (atN_eq (icallK_eq 20 _) nd_r_form ok_r_form 2 [n + 1] [n] rfl _).trans ((st_r_form_2 g (A_r_form g lf) lf x1 x2 n p).trans ?_)
    rw [(show (fun q => A_r_form g lf 2 [n] (enc_r_form_2 x1 x2 q)) = (fun q => G_r_form_2 lf x1 x2 n q) from funext ih)]
    rfl
def F_r_form (lf : Nat) (x1 : (List DForm)) (x2 : ByteArray) : Option Rt_r_form := R_r_form_in lf x1 x2 (fun q => G_r_form_2 lf x1 x2 lf q)
theorem run_r_form (g : ElA [(.list cForm), .str] → Option Rt_r_form) (lf : Nat) (x1 : (List DForm)) (x2 : ByteArray) : icodeT Tryz.prog ttT.get nm_r_form fi40.nt (cl_r_form _ lf) lf st_r_form (A_r_form g lf) fi40.body [] (argGo (argV [(.list cForm), .str] (x1, x2, ())) 0 .leaf) S0 [] (lastK ttT.get fi40 ⟨[(.list cForm), .str], [(false, (.int .i64))], g⟩) = F_r_form lf x1 x2 := by
    refine (in_r_form g (A_r_form g lf) lf x1 x2).trans ?_
    rw [(show (fun q => A_r_form g lf 2 [lf] (enc_r_form_2 x1 x2 q)) = (fun q => G_r_form_2 lf x1 x2 lf q) from funext fun q => at_r_form_2 g lf x1 x2 lf q)]
    rfl
theorem hxs_r_form : HxsOK Tryz.prog hxl_r_form := trivial
theorem mk_r_form {g : ElA [(.list cForm), .str] → Option Rt_r_form} (hsm : SmOK Tryz.prog sml_r_form) (hg : ∀ (x : ElA [(.list cForm), .str]) (y : Rt_r_form), WfA [(.list cForm), .str] x → g x = some y → ∃ lf, F_r_form lf x.1 x.2.1 = some y) : Con Tryz.prog 40 ⟨[(.list cForm), .str], [(false, (.int .i64))], g⟩ :=
  conT (nmf := nm_r_form) (sml := sml_r_form) (hxl := hxl_r_form) (st := st_r_form) (hd := hd_r_form) 20 mixed ttOK ftOK hsm hxs_r_form cal40 rfl rfl (by kernel_rfl) (fun x => by kernel_rfl) nd_r_form ok_r_form fun x y hx hy => by
    obtain ⟨lf, h⟩ := hg x y hx hy
    exact ⟨lf, (run_r_form g lf x.1 x.2.1).trans h⟩
def nm_r_column : Nat → Option Nm := fun k => cond (Nat.beq k 2) (some ⟨[1, 2, 5], [], [], [], [], 0, 0, false⟩) (none)
def st_r_column : Nat → Bool := fun k => cond (Nat.beq k 2) true (false)
def hd_r_column : Nat → Bool := fun k => cond (Nat.beq k 2) true (false)
abbrev Rt_r_column : Type := Int × Unit
def sml_r_column : List (Nat × Sm) := []
def hxl_r_column : List (Nat × Hx) := []
def cl_r_column (R : Type) (lf : Nat) : ClK R := icallK Tryz.prog ttT.get ftT.get (nm1 53 nm_r_column) (smL sml_r_column) (hxL hxl_r_column) lf 20 R
abbrev id_r_column : Nat := 53
def enc_r_column_2 (x1 : DForm) (x2 : ByteArray) (p : Int) : NRes := (NRes.mk (PT.node none (PT.node (some (IV.str x2)) PT.leaf (PT.node (some (IV.int Go.IntKind.i64 p)) PT.leaf PT.leaf)) (PT.node (some (IV.ptr 0 0)) PT.leaf PT.leaf)) (IS.mk (PT.node (some (IObj.row (List.cons (IV.str x1.1) (List.cons (IV.lst cCol x1.2) [])))) PT.leaf PT.leaf) 1) [] 0)
def R_r_column_in (lf : Nat) (x1 : DForm) (x2 : ByteArray) (L2 : Int → Option Rt_r_column) : Option Rt_r_column := (L2 (Int.ofNat 0))
def R_r_column_2 (lf : Nat) (x1 : DForm) (x2 : ByteArray) (L2 : Int → Option Rt_r_column) (p : Int) : Option Rt_r_column := (cond (iltI p (Int.ofNat (List.length x1.2))) (match (jget x1.2 p) with | .none  => none | .some v0 => (cond (keqS v0.1 x2) (some (p, ())) (L2 (Go.IntKind.wrap Go.IntKind.i64 (Int.add p (Int.ofNat 1)))))) (some ((Int.negSucc 0), ())))
theorem in_r_column (g : ElA [cForm, .str] → Option Rt_r_column) (J : Nat → List Nat → NRes → Option Rt_r_column) (lf : Nat) (x1 : DForm) (x2 : ByteArray) : icodeT Tryz.prog ttT.get nm_r_column fi53.nt (cl_r_column _ lf) lf st_r_column J fi53.body [] (argGo (argV [cForm, .str] (x1, x2, ())) 0 .leaf) S0 [] (lastK ttT.get fi53 ⟨[cForm, .str], [(false, (.int .i64))], g⟩) = R_r_column_in lf x1 x2 (fun q => J 2 [lf] (enc_r_column_2 x1 x2 q)) := by kernel_rfl
theorem st_r_column_2 (g : ElA [cForm, .str] → Option Rt_r_column) (J : Nat → List Nat → NRes → Option Rt_r_column) (lf : Nat) (x1 : DForm) (x2 : ByteArray) (m1 : Nat) (p : Int) : icodeFT Tryz.prog ttT.get nm_r_column fi53.nt (cl_r_column _ lf) lf st_r_column J 2 fi53.body [] [m1] (enc_r_column_2 x1 x2 p) (lastK ttT.get fi53 ⟨[cForm, .str], [(false, (.int .i64))], g⟩) = R_r_column_2 lf x1 x2 (fun q => J 2 [m1] (enc_r_column_2 x1 x2 q)) p := by kernel_rfl
theorem nd_r_column : (regs fi53.body).Nodup := by decide +kernel
theorem ok_r_column : okC nm_r_column st_r_column hd_r_column fi53.body none = true := by kernel_rfl
def A_r_column (g : ElA [cForm, .str] → Option Rt_r_column) (lf : Nat) : Nat → List Nat → NRes → Option Rt_r_column := atN Tryz.prog ttT.get nm_r_column fi53 ⟨[cForm, .str], [(false, (.int .i64))], g⟩ (cl_r_column _ lf) lf hd_r_column
def G_r_column_2 (lf : Nat) (x1 : DForm) (x2 : ByteArray) : Nat → (Int) → Option Rt_r_column := rounds fun K p => R_r_column_2 lf x1 x2 K p
theorem at_r_column_2 (g : ElA [cForm, .str] → Option Rt_r_column) (lf : Nat) (x1 : DForm) (x2 : ByteArray) : ∀ (n : Nat) (p : Int), A_r_column g lf 2 [n] (enc_r_column_2 x1 x2 p) = G_r_column_2 lf x1 x2 n p
  | 0, p => atN_zero 2 [0] rfl _
  | n + 1, p => by
    have ih := at_r_column_2 g lf x1 x2 n
    refine (atN_eq (icallK_eq 20 _) nd_r_column ok_r_column 2 [n + 1] [n] rfl _).trans ((st_r_column_2 g (A_r_column g lf) lf x1 x2 n p).trans ?_)
    rw [(show (fun q => A_r_column g lf 2 [n] (enc_r_column_2 x1 x2 q)) = (fun q => G_r_column_2 lf x1 x2 n q) from funext ih)]
    rfl
def F_r_column (lf : Nat) (x1 : DForm) (x2 : ByteArray) : Option Rt_r_column := R_r_column_in lf x1 x2 (fun q => G_r_column_2 lf x1 x2 lf q)
theorem run_r_column (g : ElA [cForm, .str] → Option Rt_r_column) (lf : Nat) (x1 : DForm) (x2 : ByteArray) : icodeT Tryz.prog ttT.get nm_r_column fi53.nt (cl_r_column _ lf) lf st_r_column (A_r_column g lf) fi53.body [] (argGo (argV [cForm, .str] (x1, x2, ())) 0 .leaf) S0 [] (lastK ttT.get fi53 ⟨[cForm, .str], [(false, (.int .i64))], g⟩) = F_r_column lf x1 x2 := by
    refine (in_r_column g (A_r_column g lf) lf x1 x2).trans ?_
    rw [(show (fun q => A_r_column g lf 2 [lf] (enc_r_column_2 x1 x2 q)) = (fun q => G_r_column_2 lf x1 x2 lf q) from funext fun q => at_r_column_2 g lf x1 x2 lf q)]
    rfl
theorem hxs_r_column : HxsOK Tryz.prog hxl_r_column := trivial
theorem mk_r_column {g : ElA [cForm, .str] → Option Rt_r_column} (hsm : SmOK Tryz.prog sml_r_column) (hg : ∀ (x : ElA [cForm, .str]) (y : Rt_r_column), WfA [cForm, .str] x → g x = some y → ∃ lf, F_r_column lf x.1 x.2.1 = some y) : Con Tryz.prog 53 ⟨[cForm, .str], [(false, (.int .i64))], g⟩ :=
  conT (nmf := nm_r_column) (sml := sml_r_column) (hxl := hxl_r_column) (st := st_r_column) (hd := hd_r_column) 20 mixed ttOK ftOK hsm hxs_r_column cal53 rfl rfl (by kernel_rfl) (fun x => by kernel_rfl) nd_r_column ok_r_column fun x y hx hy => by
    obtain ⟨lf, h⟩ := hg x y hx hy
    exact ⟨lf, (run_r_column g lf x.1 x.2.1).trans h⟩
def nm_r_valued : Nat → Option Nm := fun k => none
def st_r_valued : Nat → Bool := fun k => false
def hd_r_valued : Nat → Bool := fun k => false
abbrev Rt_r_valued : Type := Bool × Unit
def sml_r_valued : List (Nat × Sm) := []
def hxl_r_valued : List (Nat × Hx) := []
def cl_r_valued (R : Type) (lf : Nat) : ClK R := icallK Tryz.prog ttT.get ftT.get (nm1 71 nm_r_valued) (smL sml_r_valued) (hxL hxl_r_valued) lf 20 R
abbrev id_r_valued : Nat := 71
def R_r_valued_in (lf : Nat) (x1 : DVal) (x2 : Int) : Option Rt_r_valued := (cond (ieqI x1.1 (Int.ofNat 1)) (cond (Bool.not (iltI x1.2 (Int.negSucc 1099511627775))) (some ((Bool.not (iltI (Int.ofNat 1099511627776) x1.2)), ())) (some (Bool.false, ()))) (cond (ieqI x1.1 (Int.ofNat 2)) (cond (Bool.not (iltI x1.2 (Int.ofNat 0))) (some ((Bool.not (iltI (Int.ofNat 1) x1.2)), ())) (some (Bool.false, ()))) (cond (ieqI x1.1 (Int.ofNat 3)) (some ((ieqI x1.2 (Int.ofNat 0)), ())) (cond (ieqI x1.1 (Int.ofNat 4)) (cond (Bool.not (iltI x1.2 (Int.ofNat 0))) (some ((Bool.not (iltI (Go.IntKind.wrap Go.IntKind.i64 (Int.sub x2 (Int.ofNat 1))) x1.2)), ())) (some (Bool.false, ()))) (some (Bool.false, ()))))))
theorem in_r_valued (g : ElA [cVal, (.int .i64)] → Option Rt_r_valued) (J : Nat → List Nat → NRes → Option Rt_r_valued) (lf : Nat) (x1 : DVal) (x2 : Int) : icodeT Tryz.prog ttT.get nm_r_valued fi71.nt (cl_r_valued _ lf) lf st_r_valued J fi71.body [] (argGo (argV [cVal, (.int .i64)] (x1, x2, ())) 0 .leaf) S0 [] (lastK ttT.get fi71 ⟨[cVal, (.int .i64)], [(false, .bool)], g⟩) = R_r_valued_in lf x1 x2 := by kernel_rfl
theorem nd_r_valued : (regs fi71.body).Nodup := by decide +kernel
theorem ok_r_valued : okC nm_r_valued st_r_valued hd_r_valued fi71.body none = true := by kernel_rfl
def A_r_valued (g : ElA [cVal, (.int .i64)] → Option Rt_r_valued) (lf : Nat) : Nat → List Nat → NRes → Option Rt_r_valued := atN Tryz.prog ttT.get nm_r_valued fi71 ⟨[cVal, (.int .i64)], [(false, .bool)], g⟩ (cl_r_valued _ lf) lf hd_r_valued
def F_r_valued (lf : Nat) (x1 : DVal) (x2 : Int) : Option Rt_r_valued := R_r_valued_in lf x1 x2
theorem run_r_valued (g : ElA [cVal, (.int .i64)] → Option Rt_r_valued) (lf : Nat) (x1 : DVal) (x2 : Int) : icodeT Tryz.prog ttT.get nm_r_valued fi71.nt (cl_r_valued _ lf) lf st_r_valued (A_r_valued g lf) fi71.body [] (argGo (argV [cVal, (.int .i64)] (x1, x2, ())) 0 .leaf) S0 [] (lastK ttT.get fi71 ⟨[cVal, (.int .i64)], [(false, .bool)], g⟩) = F_r_valued lf x1 x2 := by
    refine (in_r_valued g (A_r_valued g lf) lf x1 x2).trans ?_
    rfl
theorem hxs_r_valued : HxsOK Tryz.prog hxl_r_valued := trivial
theorem mk_r_valued {g : ElA [cVal, (.int .i64)] → Option Rt_r_valued} (hsm : SmOK Tryz.prog sml_r_valued) (hg : ∀ (x : ElA [cVal, (.int .i64)]) (y : Rt_r_valued), WfA [cVal, (.int .i64)] x → g x = some y → ∃ lf, F_r_valued lf x.1 x.2.1 = some y) : Con Tryz.prog 71 ⟨[cVal, (.int .i64)], [(false, .bool)], g⟩ :=
  conT (nmf := nm_r_valued) (sml := sml_r_valued) (hxl := hxl_r_valued) (st := st_r_valued) (hd := hd_r_valued) 20 mixed ttOK ftOK hsm hxs_r_valued cal71 rfl rfl (by kernel_rfl) (fun x => by kernel_rfl) nd_r_valued ok_r_valued fun x y hx hy => by
    obtain ⟨lf, h⟩ := hg x y hx hy
    exact ⟨lf, (run_r_valued g lf x.1 x.2.1).trans h⟩
def nm_r_Formed : Nat → Option Nm := fun k => cond (Nat.beq k 5) (some ⟨[1, 3, 4], [], [], [], [], 0, 0, false⟩) (cond (Nat.beq k 10) (some ⟨[1, 3, 5], [], [], [], [], 0, 0, false⟩) (cond (Nat.beq k 13) (some ⟨[1, 3, 5, 6], [], [], [], [], 0, 0, false⟩) (cond (Nat.beq k 19) (some ⟨[1, 3, 8], [], [], [], [], 0, 0, false⟩) (none))))
def st_r_Formed : Nat → Bool := fun k => cond (Nat.beq k 5) true (cond (Nat.beq k 10) true (cond (Nat.beq k 13) true (cond (Nat.beq k 19) true (false))))
def hd_r_Formed : Nat → Bool := fun k => cond (Nat.beq k 5) true (cond (Nat.beq k 10) true (cond (Nat.beq k 13) true (cond (Nat.beq k 19) true (false))))
abbrev Rt_r_Formed : Type := Int × Unit
def sml_r_Formed : List (Nat × Sm) := [(71, sp_r_valued)]
def hxl_r_Formed : List (Nat × Hx) := []
def cl_r_Formed (R : Type) (lf : Nat) : ClK R := icallK Tryz.prog ttT.get ftT.get (nm1 87 nm_r_Formed) (smL sml_r_Formed) (hxL hxl_r_Formed) lf 20 R
abbrev id_r_Formed : Nat := 87
def enc_r_Formed_5 (x1 : DGraph) (p : Int) : NRes := (NRes.mk (PT.node none (PT.node (some (IV.ptr 0 0)) (PT.node (some (IV.int Go.IntKind.i64 (Int.ofNat (List.length x1.1)))) PT.leaf PT.leaf) PT.leaf) (PT.node none (PT.node (some (IV.int Go.IntKind.i64 p)) PT.leaf PT.leaf) PT.leaf)) (IS.mk (PT.node (some (IObj.row (List.cons (IV.lst cNode x1.1) (List.cons (IV.lst cVal x1.2) [])))) PT.leaf PT.leaf) 1) [] 0)
def enc_r_Formed_10 (x1 : DGraph) (p : Int) : NRes := (NRes.mk (PT.node none (PT.node (some (IV.ptr 0 0)) (PT.node (some (IV.int Go.IntKind.i64 (Int.ofNat (List.length x1.1)))) PT.leaf PT.leaf) (PT.node (some (IV.int Go.IntKind.i64 p)) PT.leaf PT.leaf)) PT.leaf) (IS.mk (PT.node (some (IObj.row (List.cons (IV.lst cNode x1.1) (List.cons (IV.lst cVal x1.2) [])))) PT.leaf PT.leaf) 1) [] 0)
def enc_r_Formed_13 (x1 : DGraph) (p : Int × Int) : NRes := (NRes.mk (PT.node none (PT.node (some (IV.ptr 0 0)) (PT.node (some (IV.int Go.IntKind.i64 (Int.ofNat (List.length x1.1)))) PT.leaf PT.leaf) (PT.node (some (IV.int Go.IntKind.i64 p.2)) PT.leaf PT.leaf)) (PT.node none PT.leaf (PT.node (some (IV.int Go.IntKind.i64 p.1)) PT.leaf PT.leaf))) (IS.mk (PT.node (some (IObj.row (List.cons (IV.lst cNode x1.1) (List.cons (IV.lst cVal x1.2) [])))) PT.leaf PT.leaf) 1) [] 0)
def enc_r_Formed_19 (x1 : DGraph) (p : Int) : NRes := (NRes.mk (PT.node none (PT.node (some (IV.ptr 0 0)) (PT.node (some (IV.int Go.IntKind.i64 (Int.ofNat (List.length x1.1)))) PT.leaf PT.leaf) PT.leaf) (PT.node none (PT.node none (PT.node (some (IV.int Go.IntKind.i64 p)) PT.leaf PT.leaf) PT.leaf) PT.leaf)) (IS.mk (PT.node (some (IObj.row (List.cons (IV.lst cNode x1.1) (List.cons (IV.lst cVal x1.2) [])))) PT.leaf PT.leaf) 1) [] 0)
def R_r_Formed_in (lf : Nat) (x1 : DGraph) (L5 : Int → Option Rt_r_Formed) : Option Rt_r_Formed := (cond (iltI (Int.ofNat 400) (Int.ofNat (List.length x1.1))) (some ((Int.ofNat 3), ())) (cond (iltI (Int.ofNat 60) (Int.ofNat (List.length x1.2))) (some ((Int.ofNat 3), ())) (L5 (Int.ofNat 0))))
def R_r_Formed_5 (lf : Nat) (x1 : DGraph) (L5 : Int → Option Rt_r_Formed) (L10 : Int → Option Rt_r_Formed) (p : Int) : Option Rt_r_Formed := (cond (iltI p (Int.ofNat (List.length x1.1))) (match (jget x1.1 p) with | .none  => none | .some v0 => (cond (iltI (Int.ofNat 30) (Int.ofNat (List.length v0.2))) (some ((Int.ofNat 3), ())) (L5 (Go.IntKind.wrap Go.IntKind.i64 (Int.add p (Int.ofNat 1)))))) (L10 (Int.ofNat 0)))
def R_r_Formed_10 (lf : Nat) (x1 : DGraph) (L13 : (Int × Int) → Option Rt_r_Formed) (L19 : Int → Option Rt_r_Formed) (p : Int) : Option Rt_r_Formed := (cond (iltI p (Int.ofNat (List.length x1.1))) (L13 ((Int.ofNat 0), p)) (L19 (Int.ofNat 0)))
def R_r_Formed_13 (lf : Nat) (x1 : DGraph) (L13 : (Int × Int) → Option Rt_r_Formed) (L10 : Int → Option Rt_r_Formed) (p : Int × Int) : Option Rt_r_Formed := (match (jget x1.1 p.2) with | .none  => none | .some v0 => (cond (iltI p.1 (Int.ofNat (List.length v0.2))) (match (jget x1.1 p.2) with | .none  => none | .some v1 => (match (jget v1.2 p.1) with | .none  => none | .some v2 => (cond (Bool.not (Go.Proofs.YtcnhjofpmpipfaaGreat.S.value (v2.1, v2.2) (Int.ofNat (List.length x1.1)))) (some ((Int.ofNat 2), ())) (L13 ((Go.IntKind.wrap Go.IntKind.i64 (Int.add p.1 (Int.ofNat 1))), p.2))))) (L10 (Go.IntKind.wrap Go.IntKind.i64 (Int.add p.2 (Int.ofNat 1))))))
def R_r_Formed_19 (lf : Nat) (x1 : DGraph) (L19 : Int → Option Rt_r_Formed) (p : Int) : Option Rt_r_Formed := (cond (iltI p (Int.ofNat (List.length x1.2))) (match (jget x1.2 p) with | .none  => none | .some v0 => (cond (Bool.not (Go.Proofs.YtcnhjofpmpipfaaGreat.S.value (v0.1, v0.2) (Int.ofNat (List.length x1.1)))) (some ((Int.ofNat 2), ())) (match (jget x1.2 p) with | .none  => none | .some v1 => (cond (Bool.not (ieqI v1.1 (Int.ofNat 3))) (match (jget x1.2 p) with | .none  => none | .some v2 => (cond (Bool.not (ieqI v2.1 (Int.ofNat 4))) (some ((Int.ofNat 2), ())) (L19 (Go.IntKind.wrap Go.IntKind.i64 (Int.add p (Int.ofNat 1)))))) (L19 (Go.IntKind.wrap Go.IntKind.i64 (Int.add p (Int.ofNat 1)))))))) (some ((Int.ofNat 0), ())))
theorem in_r_Formed (g : ElA [cGraph] → Option Rt_r_Formed) (J : Nat → List Nat → NRes → Option Rt_r_Formed) (lf : Nat) (x1 : DGraph) : icodeT Tryz.prog ttT.get nm_r_Formed fi87.nt (cl_r_Formed _ lf) lf st_r_Formed J fi87.body [] (argGo (argV [cGraph] (x1, ())) 0 .leaf) S0 [] (lastK ttT.get fi87 ⟨[cGraph], [(false, (.int .i64))], g⟩) = R_r_Formed_in lf x1 (fun q => J 5 [lf] (enc_r_Formed_5 x1 q)) := by kernel_rfl
theorem st_r_Formed_5 (g : ElA [cGraph] → Option Rt_r_Formed) (J : Nat → List Nat → NRes → Option Rt_r_Formed) (lf : Nat) (x1 : DGraph) (m1 : Nat) (p : Int) : icodeFT Tryz.prog ttT.get nm_r_Formed fi87.nt (cl_r_Formed _ lf) lf st_r_Formed J 5 fi87.body [] [m1] (enc_r_Formed_5 x1 p) (lastK ttT.get fi87 ⟨[cGraph], [(false, (.int .i64))], g⟩) = R_r_Formed_5 lf x1 (fun q => J 5 [m1] (enc_r_Formed_5 x1 q)) (fun q => J 10 [lf] (enc_r_Formed_10 x1 q)) p := by kernel_rfl
theorem st_r_Formed_10 (g : ElA [cGraph] → Option Rt_r_Formed) (J : Nat → List Nat → NRes → Option Rt_r_Formed) (lf : Nat) (x1 : DGraph) (m1 : Nat) (p : Int) : icodeFT Tryz.prog ttT.get nm_r_Formed fi87.nt (cl_r_Formed _ lf) lf st_r_Formed J 10 fi87.body [] [m1] (enc_r_Formed_10 x1 p) (lastK ttT.get fi87 ⟨[cGraph], [(false, (.int .i64))], g⟩) = R_r_Formed_10 lf x1 (fun q => J 13 [m1, lf] (enc_r_Formed_13 x1 q)) (fun q => J 19 [lf] (enc_r_Formed_19 x1 q)) p := by kernel_rfl
theorem st_r_Formed_13 (g : ElA [cGraph] → Option Rt_r_Formed) (J : Nat → List Nat → NRes → Option Rt_r_Formed) (lf : Nat) (x1 : DGraph) (m1 : Nat) (m2 : Nat) (p : Int × Int) : icodeFT Tryz.prog ttT.get nm_r_Formed fi87.nt (cl_r_Formed _ lf) lf st_r_Formed J 13 fi87.body [] [m1, m2] (enc_r_Formed_13 x1 p) (lastK ttT.get fi87 ⟨[cGraph], [(false, (.int .i64))], g⟩) = R_r_Formed_13 lf x1 (fun q => J 13 [m1, m2] (enc_r_Formed_13 x1 q)) (fun q => J 10 [m1] (enc_r_Formed_10 x1 q)) p := by kernel_rfl
theorem st_r_Formed_19 (g : ElA [cGraph] → Option Rt_r_Formed) (J : Nat → List Nat → NRes → Option Rt_r_Formed) (lf : Nat) (x1 : DGraph) (m1 : Nat) (p : Int) : icodeFT Tryz.prog ttT.get nm_r_Formed fi87.nt (cl_r_Formed _ lf) lf st_r_Formed J 19 fi87.body [] [m1] (enc_r_Formed_19 x1 p) (lastK ttT.get fi87 ⟨[cGraph], [(false, (.int .i64))], g⟩) = R_r_Formed_19 lf x1 (fun q => J 19 [m1] (enc_r_Formed_19 x1 q)) p := by kernel_rfl
theorem nd_r_Formed : (regs fi87.body).Nodup := by decide +kernel
theorem ok_r_Formed : okC nm_r_Formed st_r_Formed hd_r_Formed fi87.body none = true := by kernel_rfl
def A_r_Formed (g : ElA [cGraph] → Option Rt_r_Formed) (lf : Nat) : Nat → List Nat → NRes → Option Rt_r_Formed := atN Tryz.prog ttT.get nm_r_Formed fi87 ⟨[cGraph], [(false, (.int .i64))], g⟩ (cl_r_Formed _ lf) lf hd_r_Formed
def G_r_Formed_13 (lf : Nat) (x1 : DGraph) (K10 : Int → Option Rt_r_Formed) : Nat → (Int × Int) → Option Rt_r_Formed := rounds fun K p => R_r_Formed_13 lf x1 K K10 p
theorem at_r_Formed_13 (g : ElA [cGraph] → Option Rt_r_Formed) (lf : Nat) (x1 : DGraph) (m1 : Nat) : ∀ (n : Nat) (p : Int × Int), A_r_Formed g lf 13 [m1, n] (enc_r_Formed_13 x1 p) = G_r_Formed_13 lf x1 (fun q => A_r_Formed g lf 10 [m1] (enc_r_Formed_10 x1 q)) n p
  | 0, p => atN_zero 13 [m1, 0] rfl _
  | n + 1, p => by
    have ih := at_r_Formed_13 g lf x1 m1 n
    refine (atN_eq (icallK_eq 20 _) nd_r_Formed ok_r_Formed 13 [m1, n + 1] [m1, n] rfl _).trans ((st_r_Formed_13 g (A_r_Formed g lf) lf x1 m1 n p).trans ?_)
    rw [(show (fun q => A_r_Formed g lf 13 [m1, n] (enc_r_Formed_13 x1 q)) = (fun q => G_r_Formed_13 lf x1 (fun q => A_r_Formed g lf 10 [m1] (enc_r_Formed_10 x1 q)) n q) from funext ih)]
    rfl
def G_r_Formed_19 (lf : Nat) (x1 : DGraph) : Nat → (Int) → Option Rt_r_Formed := rounds fun K p => R_r_Formed_19 lf x1 K p
theorem at_r_Formed_19 (g : ElA [cGraph] → Option Rt_r_Formed) (lf : Nat) (x1 : DGraph) : ∀ (n : Nat) (p : Int), A_r_Formed g lf 19 [n] (enc_r_Formed_19 x1 p) = G_r_Formed_19 lf x1 n p
  | 0, p => atN_zero 19 [0] rfl _
  | n + 1, p => by
    have ih := at_r_Formed_19 g lf x1 n
    refine (atN_eq (icallK_eq 20 _) nd_r_Formed ok_r_Formed 19 [n + 1] [n] rfl _).trans ((st_r_Formed_19 g (A_r_Formed g lf) lf x1 n p).trans ?_)
    rw [(show (fun q => A_r_Formed g lf 19 [n] (enc_r_Formed_19 x1 q)) = (fun q => G_r_Formed_19 lf x1 n q) from funext ih)]
    rfl
def G_r_Formed_10 (lf : Nat) (x1 : DGraph) : Nat → (Int) → Option Rt_r_Formed := rounds fun K p => R_r_Formed_10 lf x1 (fun q => G_r_Formed_13 lf x1 K lf q) (fun q => G_r_Formed_19 lf x1 lf q) p
theorem at_r_Formed_10 (g : ElA [cGraph] → Option Rt_r_Formed) (lf : Nat) (x1 : DGraph) : ∀ (n : Nat) (p : Int), A_r_Formed g lf 10 [n] (enc_r_Formed_10 x1 p) = G_r_Formed_10 lf x1 n p
  | 0, p => atN_zero 10 [0] rfl _
  | n + 1, p => by
    have ih := at_r_Formed_10 g lf x1 n
    refine (atN_eq (icallK_eq 20 _) nd_r_Formed ok_r_Formed 10 [n + 1] [n] rfl _).trans ((st_r_Formed_10 g (A_r_Formed g lf) lf x1 n p).trans ?_)
    rw [(show (fun q => A_r_Formed g lf 13 [n, lf] (enc_r_Formed_13 x1 q)) = (fun q => G_r_Formed_13 lf x1 (fun q => A_r_Formed g lf 10 [n] (enc_r_Formed_10 x1 q)) lf q) from funext fun q => at_r_Formed_13 g lf x1 n lf q), (show (fun q => A_r_Formed g lf 19 [lf] (enc_r_Formed_19 x1 q)) = (fun q => G_r_Formed_19 lf x1 lf q) from funext fun q => at_r_Formed_19 g lf x1 lf q), (show (fun q => A_r_Formed g lf 10 [n] (enc_r_Formed_10 x1 q)) = (fun q => G_r_Formed_10 lf x1 n q) from funext ih)]
    rfl
def G_r_Formed_5 (lf : Nat) (x1 : DGraph) : Nat → (Int) → Option Rt_r_Formed := rounds fun K p => R_r_Formed_5 lf x1 K (fun q => G_r_Formed_10 lf x1 lf q) p
theorem at_r_Formed_5 (g : ElA [cGraph] → Option Rt_r_Formed) (lf : Nat) (x1 : DGraph) : ∀ (n : Nat) (p : Int), A_r_Formed g lf 5 [n] (enc_r_Formed_5 x1 p) = G_r_Formed_5 lf x1 n p
  | 0, p => atN_zero 5 [0] rfl _
  | n + 1, p => by
    have ih := at_r_Formed_5 g lf x1 n
    refine (atN_eq (icallK_eq 20 _) nd_r_Formed ok_r_Formed 5 [n + 1] [n] rfl _).trans ((st_r_Formed_5 g (A_r_Formed g lf) lf x1 n p).trans ?_)
    rw [(show (fun q => A_r_Formed g lf 10 [lf] (enc_r_Formed_10 x1 q)) = (fun q => G_r_Formed_10 lf x1 lf q) from funext fun q => at_r_Formed_10 g lf x1 lf q), (show (fun q => A_r_Formed g lf 5 [n] (enc_r_Formed_5 x1 q)) = (fun q => G_r_Formed_5 lf x1 n q) from funext ih)]
    rfl
def F_r_Formed (lf : Nat) (x1 : DGraph) : Option Rt_r_Formed := R_r_Formed_in lf x1 (fun q => G_r_Formed_5 lf x1 lf q)
theorem run_r_Formed (g : ElA [cGraph] → Option Rt_r_Formed) (lf : Nat) (x1 : DGraph) : icodeT Tryz.prog ttT.get nm_r_Formed fi87.nt (cl_r_Formed _ lf) lf st_r_Formed (A_r_Formed g lf) fi87.body [] (argGo (argV [cGraph] (x1, ())) 0 .leaf) S0 [] (lastK ttT.get fi87 ⟨[cGraph], [(false, (.int .i64))], g⟩) = F_r_Formed lf x1 := by
    refine (in_r_Formed g (A_r_Formed g lf) lf x1).trans ?_
    rw [(show (fun q => A_r_Formed g lf 5 [lf] (enc_r_Formed_5 x1 q)) = (fun q => G_r_Formed_5 lf x1 lf q) from funext fun q => at_r_Formed_5 g lf x1 lf q)]
    rfl
theorem hxs_r_Formed : HxsOK Tryz.prog hxl_r_Formed := trivial
theorem mk_r_Formed {g : ElA [cGraph] → Option Rt_r_Formed} (hsm : SmOK Tryz.prog sml_r_Formed) (hg : ∀ (x : ElA [cGraph]) (y : Rt_r_Formed), WfA [cGraph] x → g x = some y → ∃ lf, F_r_Formed lf x.1 = some y) : Con Tryz.prog 87 ⟨[cGraph], [(false, (.int .i64))], g⟩ :=
  conT (nmf := nm_r_Formed) (sml := sml_r_Formed) (hxl := hxl_r_Formed) (st := st_r_Formed) (hd := hd_r_Formed) 20 mixed ttOK ftOK hsm hxs_r_Formed cal87 rfl rfl (by kernel_rfl) (fun x => by kernel_rfl) nd_r_Formed ok_r_Formed fun x y hx hy => by
    obtain ⟨lf, h⟩ := hg x y hx hy
    exact ⟨lf, (run_r_Formed g lf x.1).trans h⟩
def nm_r_fits : Nat → Option Nm := fun k => none
def st_r_fits : Nat → Bool := fun k => false
def hd_r_fits : Nat → Bool := fun k => false
abbrev Rt_r_fits : Type := Bool × Unit
def sml_r_fits : List (Nat × Sm) := []
def hxl_r_fits : List (Nat × Hx) := []
def cl_r_fits (R : Type) (lf : Nat) : ClK R := icallK Tryz.prog ttT.get ftT.get (nm1 88 nm_r_fits) (smL sml_r_fits) (hxL hxl_r_fits) lf 20 R
abbrev id_r_fits : Nat := 88
def R_r_fits_in (lf : Nat) (x1 : DCol) (x2 : DVal) (x3 : DGraph) : Option Rt_r_fits := (cond (ieqI x1.2.1 (Int.ofNat 1)) (some ((ieqI x2.1 (Int.ofNat 1)), ())) (cond (ieqI x1.2.1 (Int.ofNat 2)) (some ((ieqI x2.1 (Int.ofNat 2)), ())) (cond (ieqI x2.1 (Int.ofNat 3)) (some (Bool.true, ())) (cond (ieqI x2.1 (Int.ofNat 4)) (cond (keqS x1.2.2 (S.lit [65, 78, 89])) (some (Bool.true, ())) (match (jget x3.1 (imax (Int.ofNat 0) x2.2)) with | .none  => none | .some v0 => (some ((keqS v0.1 x1.2.2), ())))) (some (Bool.false, ()))))))
theorem in_r_fits (g : ElA [cCol, cVal, cGraph] → Option Rt_r_fits) (J : Nat → List Nat → NRes → Option Rt_r_fits) (lf : Nat) (x1 : DCol) (x2 : DVal) (x3 : DGraph) : icodeT Tryz.prog ttT.get nm_r_fits fi88.nt (cl_r_fits _ lf) lf st_r_fits J fi88.body [] (argGo (argV [cCol, cVal, cGraph] (x1, x2, x3, ())) 0 .leaf) S0 [] (lastK ttT.get fi88 ⟨[cCol, cVal, cGraph], [(false, .bool)], g⟩) = R_r_fits_in lf x1 x2 x3 := by kernel_rfl
theorem nd_r_fits : (regs fi88.body).Nodup := by decide +kernel
theorem ok_r_fits : okC nm_r_fits st_r_fits hd_r_fits fi88.body none = true := by kernel_rfl
def A_r_fits (g : ElA [cCol, cVal, cGraph] → Option Rt_r_fits) (lf : Nat) : Nat → List Nat → NRes → Option Rt_r_fits := atN Tryz.prog ttT.get nm_r_fits fi88 ⟨[cCol, cVal, cGraph], [(false, .bool)], g⟩ (cl_r_fits _ lf) lf hd_r_fits
def F_r_fits (lf : Nat) (x1 : DCol) (x2 : DVal) (x3 : DGraph) : Option Rt_r_fits := R_r_fits_in lf x1 x2 x3
theorem run_r_fits (g : ElA [cCol, cVal, cGraph] → Option Rt_r_fits) (lf : Nat) (x1 : DCol) (x2 : DVal) (x3 : DGraph) : icodeT Tryz.prog ttT.get nm_r_fits fi88.nt (cl_r_fits _ lf) lf st_r_fits (A_r_fits g lf) fi88.body [] (argGo (argV [cCol, cVal, cGraph] (x1, x2, x3, ())) 0 .leaf) S0 [] (lastK ttT.get fi88 ⟨[cCol, cVal, cGraph], [(false, .bool)], g⟩) = F_r_fits lf x1 x2 x3 := by
    refine (in_r_fits g (A_r_fits g lf) lf x1 x2 x3).trans ?_
    rfl
theorem hxs_r_fits : HxsOK Tryz.prog hxl_r_fits := trivial
theorem mk_r_fits {g : ElA [cCol, cVal, cGraph] → Option Rt_r_fits} (hsm : SmOK Tryz.prog sml_r_fits) (hg : ∀ (x : ElA [cCol, cVal, cGraph]) (y : Rt_r_fits), WfA [cCol, cVal, cGraph] x → g x = some y → ∃ lf, F_r_fits lf x.1 x.2.1 x.2.2.1 = some y) : Con Tryz.prog 88 ⟨[cCol, cVal, cGraph], [(false, .bool)], g⟩ :=
  conT (nmf := nm_r_fits) (sml := sml_r_fits) (hxl := hxl_r_fits) (st := st_r_fits) (hd := hd_r_fits) 20 mixed ttOK ftOK hsm hxs_r_fits cal88 rfl rfl (by kernel_rfl) (fun x => by kernel_rfl) nd_r_fits ok_r_fits fun x y hx hy => by
    obtain ⟨lf, h⟩ := hg x y hx hy
    exact ⟨lf, (run_r_fits g lf x.1 x.2.1 x.2.2.1).trans h⟩
def nm_r_CheckForms : Nat → Option Nm := fun k => cond (Nat.beq k 4) (some ⟨[0, 3], [], [], [], [], 0, 0, false⟩) (cond (Nat.beq k 14) (some ⟨[0, 3, 5], [], [], [], [], 0, 0, false⟩) (cond (Nat.beq k 25) (some ⟨[0, 8], [], [], [], [], 0, 0, false⟩) (cond (Nat.beq k 28) (some ⟨[0, 8, 9], [], [], [], [], 0, 0, false⟩) (none))))
def st_r_CheckForms : Nat → Bool := fun k => cond (Nat.beq k 4) true (cond (Nat.beq k 14) true (cond (Nat.beq k 25) true (cond (Nat.beq k 28) true (false))))
def hd_r_CheckForms : Nat → Bool := fun k => cond (Nat.beq k 4) true (cond (Nat.beq k 14) true (cond (Nat.beq k 25) true (cond (Nat.beq k 28) true (false))))
abbrev Rt_r_CheckForms : Type := Int × Unit
def sml_r_CheckForms : List (Nat × Sm) := [(92, sp_r_classed), (93, sp_r_smallNamed), (40, sp_r_form), (53, sp_r_column)]
def hxl_r_CheckForms : List (Nat × Hx) := []
def cl_r_CheckForms (R : Type) (lf : Nat) : ClK R := icallK Tryz.prog ttT.get ftT.get (nm1 47 nm_r_CheckForms) (smL sml_r_CheckForms) (hxL hxl_r_CheckForms) lf 20 R
abbrev id_r_CheckForms : Nat := 47
def enc_r_CheckForms_4 (x1 : (List DForm)) (p : Int) : NRes := (NRes.mk (PT.node (some (IV.lst cForm x1)) (PT.node none (PT.node (some (IV.int Go.IntKind.i64 p)) PT.leaf PT.leaf) PT.leaf) PT.leaf) (IS.mk PT.leaf 0) [] 0)
def enc_r_CheckForms_14 (x1 : (List DForm)) (p : Int × Int) : NRes := (NRes.mk (PT.node (some (IV.lst cForm x1)) (PT.node none (PT.node (some (IV.int Go.IntKind.i64 p.2)) PT.leaf PT.leaf) (PT.node (some (IV.int Go.IntKind.i64 p.1)) PT.leaf PT.leaf)) PT.leaf) (IS.mk PT.leaf 0) [] 0)
def enc_r_CheckForms_25 (x1 : (List DForm)) (p : Int) : NRes := (NRes.mk (PT.node (some (IV.lst cForm x1)) PT.leaf (PT.node none (PT.node none (PT.node (some (IV.int Go.IntKind.i64 p)) PT.leaf PT.leaf) PT.leaf) PT.leaf)) (IS.mk PT.leaf 0) [] 0)
def enc_r_CheckForms_28 (x1 : (List DForm)) (p : Int × Int) : NRes := (NRes.mk (PT.node (some (IV.lst cForm x1)) (PT.node none PT.leaf (PT.node none (PT.node (some (IV.int Go.IntKind.i64 p.1)) PT.leaf PT.leaf) PT.leaf)) (PT.node none (PT.node none (PT.node (some (IV.int Go.IntKind.i64 p.2)) PT.leaf PT.leaf) PT.leaf) PT.leaf)) (IS.mk PT.leaf 0) [] 0)
def R_r_CheckForms_in (lf : Nat) (x1 : (List DForm)) (L4 : Int → Option Rt_r_CheckForms) : Option Rt_r_CheckForms := (cond (iltI (Int.ofNat 24) (Int.ofNat (List.length x1))) (some ((Int.ofNat 3), ())) (L4 (Int.ofNat 0)))
def R_r_CheckForms_4 (lf : Nat) (x1 : (List DForm)) (L14 : (Int × Int) → Option Rt_r_CheckForms) (L25 : Int → Option Rt_r_CheckForms) (p : Int) : Option Rt_r_CheckForms := (cond (iltI p (Int.ofNat (List.length x1))) (match (jget x1 p) with | .none  => none | .some v0 => (cond (Bool.not (Go.Proofs.YtcnhjofpmpipfaaGreat.S.class_ v0.1)) (some ((Int.ofNat 4), ())) (match (jget x1 p) with | .none  => none | .some v1 => (cond (iltI (Go.Proofs.YtcnhjofpmpipfaaGreat.S.form x1 v1.1) p) (some ((Int.ofNat 6), ())) (match (jget x1 p) with | .none  => none | .some v2 => (cond (iltI (Int.ofNat 30) (Int.ofNat (List.length v2.2))) (some ((Int.ofNat 3), ())) (L14 ((Int.ofNat 0), p)))))))) (L25 (Int.ofNat 0)))
def R_r_CheckForms_14 (lf : Nat) (x1 : (List DForm)) (L14 : (Int × Int) → Option Rt_r_CheckForms) (L4 : Int → Option Rt_r_CheckForms) (p : Int × Int) : Option Rt_r_CheckForms := (match (jget x1 p.2) with | .none  => none | .some v0 => (cond (iltI p.1 (Int.ofNat (List.length v0.2))) (match (jget x1 p.2) with | .none  => none | .some v1 => (match (jget v1.2 p.1) with | .none  => none | .some v2 => (cond (Bool.not (Go.Proofs.YtcnhjofpmpipfaaGreat.S.small v2.1)) (some ((Int.ofNat 4), ())) (match (jget x1 p.2) with | .none  => none | .some v3 => (cond (iltI (Go.Proofs.YtcnhjofpmpipfaaGreat.S.col v3.2 v2.1) p.1) (some ((Int.ofNat 6), ())) (cond (Bool.not (iltI v2.2.1 (Int.ofNat 1))) (cond (Bool.not (Bool.not (iltI (Int.ofNat 3) v2.2.1))) (some ((Int.ofNat 1), ())) (cond (Bool.not (ieqI v2.2.1 (Int.ofNat 3))) (cond (Bool.not (keqS v2.2.2 (S.lit []))) (some ((Int.ofNat 1), ())) (L14 ((Go.IntKind.wrap Go.IntKind.i64 (Int.add p.1 (Int.ofNat 1))), p.2))) (L14 ((Go.IntKind.wrap Go.IntKind.i64 (Int.add p.1 (Int.ofNat 1))), p.2)))) (some ((Int.ofNat 1), ())))))))) (L4 (Go.IntKind.wrap Go.IntKind.i64 (Int.add p.2 (Int.ofNat 1))))))
def R_r_CheckForms_25 (lf : Nat) (x1 : (List DForm)) (L28 : (Int × Int) → Option Rt_r_CheckForms) (p : Int) : Option Rt_r_CheckForms := (cond (iltI p (Int.ofNat (List.length x1))) (L28 ((Int.ofNat 0), p)) (some ((Int.ofNat 0), ())))
def R_r_CheckForms_28 (lf : Nat) (x1 : (List DForm)) (L28 : (Int × Int) → Option Rt_r_CheckForms) (L25 : Int → Option Rt_r_CheckForms) (p : Int × Int) : Option Rt_r_CheckForms := (match (jget x1 p.2) with | .none  => none | .some v0 => (cond (iltI p.1 (Int.ofNat (List.length v0.2))) (match (jget x1 p.2) with | .none  => none | .some v1 => (match (jget v1.2 p.1) with | .none  => none | .some v2 => (cond (ieqI v2.2.1 (Int.ofNat 3)) (cond (Bool.not (keqS v2.2.2 (S.lit [65, 78, 89]))) (cond (iltI (Go.Proofs.YtcnhjofpmpipfaaGreat.S.form x1 v2.2.2) (Int.ofNat 0)) (some ((Int.ofNat 5), ())) (L28 ((Go.IntKind.wrap Go.IntKind.i64 (Int.add p.1 (Int.ofNat 1))), p.2))) (L28 ((Go.IntKind.wrap Go.IntKind.i64 (Int.add p.1 (Int.ofNat 1))), p.2))) (L28 ((Go.IntKind.wrap Go.IntKind.i64 (Int.add p.1 (Int.ofNat 1))), p.2))))) (L25 (Go.IntKind.wrap Go.IntKind.i64 (Int.add p.2 (Int.ofNat 1))))))
theorem in_r_CheckForms (g : ElA [(.list cForm)] → Option Rt_r_CheckForms) (J : Nat → List Nat → NRes → Option Rt_r_CheckForms) (lf : Nat) (x1 : (List DForm)) : icodeT Tryz.prog ttT.get nm_r_CheckForms fi47.nt (cl_r_CheckForms _ lf) lf st_r_CheckForms J fi47.body [] (argGo (argV [(.list cForm)] (x1, ())) 0 .leaf) S0 [] (lastK ttT.get fi47 ⟨[(.list cForm)], [(false, (.int .i64))], g⟩) = R_r_CheckForms_in lf x1 (fun q => J 4 [lf] (enc_r_CheckForms_4 x1 q)) := by kernel_rfl
theorem st_r_CheckForms_4 (g : ElA [(.list cForm)] → Option Rt_r_CheckForms) (J : Nat → List Nat → NRes → Option Rt_r_CheckForms) (lf : Nat) (x1 : (List DForm)) (m1 : Nat) (p : Int) : icodeFT Tryz.prog ttT.get nm_r_CheckForms fi47.nt (cl_r_CheckForms _ lf) lf st_r_CheckForms J 4 fi47.body [] [m1] (enc_r_CheckForms_4 x1 p) (lastK ttT.get fi47 ⟨[(.list cForm)], [(false, (.int .i64))], g⟩) = R_r_CheckForms_4 lf x1 (fun q => J 14 [m1, lf] (enc_r_CheckForms_14 x1 q)) (fun q => J 25 [lf] (enc_r_CheckForms_25 x1 q)) p := by kernel_rfl
theorem st_r_CheckForms_14 (g : ElA [(.list cForm)] → Option Rt_r_CheckForms) (J : Nat → List Nat → NRes → Option Rt_r_CheckForms) (lf : Nat) (x1 : (List DForm)) (m1 : Nat) (m2 : Nat) (p : Int × Int) : icodeFT Tryz.prog ttT.get nm_r_CheckForms fi47.nt (cl_r_CheckForms _ lf) lf st_r_CheckForms J 14 fi47.body [] [m1, m2] (enc_r_CheckForms_14 x1 p) (lastK ttT.get fi47 ⟨[(.list cForm)], [(false, (.int .i64))], g⟩) = R_r_CheckForms_14 lf x1 (fun q => J 14 [m1, m2] (enc_r_CheckForms_14 x1 q)) (fun q => J 4 [m1] (enc_r_CheckForms_4 x1 q)) p := by kernel_rfl
theorem st_r_CheckForms_25 (g : ElA [(.list cForm)] → Option Rt_r_CheckForms) (J : Nat → List Nat → NRes → Option Rt_r_CheckForms) (lf : Nat) (x1 : (List DForm)) (m1 : Nat) (p : Int) : icodeFT Tryz.prog ttT.get nm_r_CheckForms fi47.nt (cl_r_CheckForms _ lf) lf st_r_CheckForms J 25 fi47.body [] [m1] (enc_r_CheckForms_25 x1 p) (lastK ttT.get fi47 ⟨[(.list cForm)], [(false, (.int .i64))], g⟩) = R_r_CheckForms_25 lf x1 (fun q => J 28 [m1, lf] (enc_r_CheckForms_28 x1 q)) p := by kernel_rfl
theorem st_r_CheckForms_28 (g : ElA [(.list cForm)] → Option Rt_r_CheckForms) (J : Nat → List Nat → NRes → Option Rt_r_CheckForms) (lf : Nat) (x1 : (List DForm)) (m1 : Nat) (m2 : Nat) (p : Int × Int) : icodeFT Tryz.prog ttT.get nm_r_CheckForms fi47.nt (cl_r_CheckForms _ lf) lf st_r_CheckForms J 28 fi47.body [] [m1, m2] (enc_r_CheckForms_28 x1 p) (lastK ttT.get fi47 ⟨[(.list cForm)], [(false, (.int .i64))], g⟩) = R_r_CheckForms_28 lf x1 (fun q => J 28 [m1, m2] (enc_r_CheckForms_28 x1 q)) (fun q => J 25 [m1] (enc_r_CheckForms_25 x1 q)) p := by kernel_rfl
theorem nd_r_CheckForms : (regs fi47.body).Nodup := by decide +kernel
theorem ok_r_CheckForms : okC nm_r_CheckForms st_r_CheckForms hd_r_CheckForms fi47.body none = true := by kernel_rfl
def A_r_CheckForms (g : ElA [(.list cForm)] → Option Rt_r_CheckForms) (lf : Nat) : Nat → List Nat → NRes → Option Rt_r_CheckForms := atN Tryz.prog ttT.get nm_r_CheckForms fi47 ⟨[(.list cForm)], [(false, (.int .i64))], g⟩ (cl_r_CheckForms _ lf) lf hd_r_CheckForms
def G_r_CheckForms_14 (lf : Nat) (x1 : (List DForm)) (K4 : Int → Option Rt_r_CheckForms) : Nat → (Int × Int) → Option Rt_r_CheckForms := rounds fun K p => R_r_CheckForms_14 lf x1 K K4 p
theorem at_r_CheckForms_14 (g : ElA [(.list cForm)] → Option Rt_r_CheckForms) (lf : Nat) (x1 : (List DForm)) (m1 : Nat) : ∀ (n : Nat) (p : Int × Int), A_r_CheckForms g lf 14 [m1, n] (enc_r_CheckForms_14 x1 p) = G_r_CheckForms_14 lf x1 (fun q => A_r_CheckForms g lf 4 [m1] (enc_r_CheckForms_4 x1 q)) n p
  | 0, p => atN_zero 14 [m1, 0] rfl _
  | n + 1, p => by
    have ih := at_r_CheckForms_14 g lf x1 m1 n
    refine (atN_eq (icallK_eq 20 _) nd_r_CheckForms ok_r_CheckForms 14 [m1, n + 1] [m1, n] rfl _).trans ((st_r_CheckForms_14 g (A_r_CheckForms g lf) lf x1 m1 n p).trans ?_)
    rw [(show (fun q => A_r_CheckForms g lf 14 [m1, n] (enc_r_CheckForms_14 x1 q)) = (fun q => G_r_CheckForms_14 lf x1 (fun q => A_r_CheckForms g lf 4 [m1] (enc_r_CheckForms_4 x1 q)) n q) from funext ih)]
    rfl
def G_r_CheckForms_28 (lf : Nat) (x1 : (List DForm)) (K25 : Int → Option Rt_r_CheckForms) : Nat → (Int × Int) → Option Rt_r_CheckForms := rounds fun K p => R_r_CheckForms_28 lf x1 K K25 p
theorem at_r_CheckForms_28 (g : ElA [(.list cForm)] → Option Rt_r_CheckForms) (lf : Nat) (x1 : (List DForm)) (m1 : Nat) : ∀ (n : Nat) (p : Int × Int), A_r_CheckForms g lf 28 [m1, n] (enc_r_CheckForms_28 x1 p) = G_r_CheckForms_28 lf x1 (fun q => A_r_CheckForms g lf 25 [m1] (enc_r_CheckForms_25 x1 q)) n p
  | 0, p => atN_zero 28 [m1, 0] rfl _
  | n + 1, p => by
    have ih := at_r_CheckForms_28 g lf x1 m1 n
    refine (atN_eq (icallK_eq 20 _) nd_r_CheckForms ok_r_CheckForms 28 [m1, n + 1] [m1, n] rfl _).trans ((st_r_CheckForms_28 g (A_r_CheckForms g lf) lf x1 m1 n p).trans ?_)
    rw [(show (fun q => A_r_CheckForms g lf 28 [m1, n] (enc_r_CheckForms_28 x1 q)) = (fun q => G_r_CheckForms_28 lf x1 (fun q => A_r_CheckForms g lf 25 [m1] (enc_r_CheckForms_25 x1 q)) n q) from funext ih)]
    rfl
def G_r_CheckForms_25 (lf : Nat) (x1 : (List DForm)) : Nat → (Int) → Option Rt_r_CheckForms := rounds fun K p => R_r_CheckForms_25 lf x1 (fun q => G_r_CheckForms_28 lf x1 K lf q) p
theorem at_r_CheckForms_25 (g : ElA [(.list cForm)] → Option Rt_r_CheckForms) (lf : Nat) (x1 : (List DForm)) : ∀ (n : Nat) (p : Int), A_r_CheckForms g lf 25 [n] (enc_r_CheckForms_25 x1 p) = G_r_CheckForms_25 lf x1 n p
  | 0, p => atN_zero 25 [0] rfl _
  | n + 1, p => by
    have ih := at_r_CheckForms_25 g lf x1 n
    refine (atN_eq (icallK_eq 20 _) nd_r_CheckForms ok_r_CheckForms 25 [n + 1] [n] rfl _).trans ((st_r_CheckForms_25 g (A_r_CheckForms g lf) lf x1 n p).trans ?_)
    rw [(show (fun q => A_r_CheckForms g lf 28 [n, lf] (enc_r_CheckForms_28 x1 q)) = (fun q => G_r_CheckForms_28 lf x1 (fun q => A_r_CheckForms g lf 25 [n] (enc_r_CheckForms_25 x1 q)) lf q) from funext fun q => at_r_CheckForms_28 g lf x1 n lf q), (show (fun q => A_r_CheckForms g lf 25 [n] (enc_r_CheckForms_25 x1 q)) = (fun q => G_r_CheckForms_25 lf x1 n q) from funext ih)]
    rfl
def G_r_CheckForms_4 (lf : Nat) (x1 : (List DForm)) : Nat → (Int) → Option Rt_r_CheckForms := rounds fun K p => R_r_CheckForms_4 lf x1 (fun q => G_r_CheckForms_14 lf x1 K lf q) (fun q => G_r_CheckForms_25 lf x1 lf q) p
theorem at_r_CheckForms_4 (g : ElA [(.list cForm)] → Option Rt_r_CheckForms) (lf : Nat) (x1 : (List DForm)) : ∀ (n : Nat) (p : Int), A_r_CheckForms g lf 4 [n] (enc_r_CheckForms_4 x1 p) = G_r_CheckForms_4 lf x1 n p
  | 0, p => atN_zero 4 [0] rfl _
  | n + 1, p => by
    have ih := at_r_CheckForms_4 g lf x1 n
    refine (atN_eq (icallK_eq 20 _) nd_r_CheckForms ok_r_CheckForms 4 [n + 1] [n] rfl _).trans ((st_r_CheckForms_4 g (A_r_CheckForms g lf) lf x1 n p).trans ?_)
    rw [(show (fun q => A_r_CheckForms g lf 14 [n, lf] (enc_r_CheckForms_14 x1 q)) = (fun q => G_r_CheckForms_14 lf x1 (fun q => A_r_CheckForms g lf 4 [n] (enc_r_CheckForms_4 x1 q)) lf q) from funext fun q => at_r_CheckForms_14 g lf x1 n lf q), (show (fun q => A_r_CheckForms g lf 25 [lf] (enc_r_CheckForms_25 x1 q)) = (fun q => G_r_CheckForms_25 lf x1 lf q) from funext fun q => at_r_CheckForms_25 g lf x1 lf q), (show (fun q => A_r_CheckForms g lf 4 [n] (enc_r_CheckForms_4 x1 q)) = (fun q => G_r_CheckForms_4 lf x1 n q) from funext ih)]
    rfl
def F_r_CheckForms (lf : Nat) (x1 : (List DForm)) : Option Rt_r_CheckForms := R_r_CheckForms_in lf x1 (fun q => G_r_CheckForms_4 lf x1 lf q)
theorem run_r_CheckForms (g : ElA [(.list cForm)] → Option Rt_r_CheckForms) (lf : Nat) (x1 : (List DForm)) : icodeT Tryz.prog ttT.get nm_r_CheckForms fi47.nt (cl_r_CheckForms _ lf) lf st_r_CheckForms (A_r_CheckForms g lf) fi47.body [] (argGo (argV [(.list cForm)] (x1, ())) 0 .leaf) S0 [] (lastK ttT.get fi47 ⟨[(.list cForm)], [(false, (.int .i64))], g⟩) = F_r_CheckForms lf x1 := by
    refine (in_r_CheckForms g (A_r_CheckForms g lf) lf x1).trans ?_
    rw [(show (fun q => A_r_CheckForms g lf 4 [lf] (enc_r_CheckForms_4 x1 q)) = (fun q => G_r_CheckForms_4 lf x1 lf q) from funext fun q => at_r_CheckForms_4 g lf x1 lf q)]
    rfl
theorem hxs_r_CheckForms : HxsOK Tryz.prog hxl_r_CheckForms := trivial
theorem mk_r_CheckForms {g : ElA [(.list cForm)] → Option Rt_r_CheckForms} (hsm : SmOK Tryz.prog sml_r_CheckForms) (hg : ∀ (x : ElA [(.list cForm)]) (y : Rt_r_CheckForms), WfA [(.list cForm)] x → g x = some y → ∃ lf, F_r_CheckForms lf x.1 = some y) : Con Tryz.prog 47 ⟨[(.list cForm)], [(false, (.int .i64))], g⟩ :=
  conT (nmf := nm_r_CheckForms) (sml := sml_r_CheckForms) (hxl := hxl_r_CheckForms) (st := st_r_CheckForms) (hd := hd_r_CheckForms) 20 mixed ttOK ftOK hsm hxs_r_CheckForms cal47 rfl rfl (by kernel_rfl) (fun x => by kernel_rfl) nd_r_CheckForms ok_r_CheckForms fun x y hx hy => by
    obtain ⟨lf, h⟩ := hg x y hx hy
    exact ⟨lf, (run_r_CheckForms g lf x.1).trans h⟩
def nm_r_Check : Nat → Option Nm := fun k => cond (Nat.beq k 8) (some ⟨[0, 3, 6], [], [], [], [], 0, 0, false⟩) (cond (Nat.beq k 13) (some ⟨[0, 3, 7], [], [], [], [], 0, 0, false⟩) (cond (Nat.beq k 19) (some ⟨[0, 3, 7, 8, 9], [], [], [], [], 0, 0, false⟩) (none)))
def st_r_Check : Nat → Bool := fun k => cond (Nat.beq k 8) true (cond (Nat.beq k 13) true (cond (Nat.beq k 19) true (false)))
def hd_r_Check : Nat → Bool := fun k => cond (Nat.beq k 8) true (cond (Nat.beq k 13) true (cond (Nat.beq k 19) true (false)))
abbrev Rt_r_Check : Type := Int × Unit
def sml_r_Check : List (Nat × Sm) := [(47, sp_r_CheckForms), (87, sp_r_Formed), (40, sp_r_form), (88, sp_r_fits)]
def hxl_r_Check : List (Nat × Hx) := []
def cl_r_Check (R : Type) (lf : Nat) : ClK R := icallK Tryz.prog ttT.get ftT.get (nm1 39 nm_r_Check) (smL sml_r_Check) (hxL hxl_r_Check) lf 20 R
abbrev id_r_Check : Nat := 39
def enc_r_Check_8 (x1 : (List DForm)) (x2 : DGraph) (p : Int) : NRes := (NRes.mk (PT.node (some (IV.lst cForm x1)) (PT.node none (PT.node (some (IV.ptr 0 0)) PT.leaf PT.leaf) PT.leaf) (PT.node none PT.leaf (PT.node (some (IV.int Go.IntKind.i64 p)) PT.leaf PT.leaf))) (IS.mk (PT.node (some (IObj.row (List.cons (IV.lst cNode x2.1) (List.cons (IV.lst cVal x2.2) [])))) PT.leaf PT.leaf) 1) [] 0)
def enc_r_Check_13 (x1 : (List DForm)) (x2 : DGraph) (p : Int) : NRes := (NRes.mk (PT.node (some (IV.lst cForm x1)) (PT.node none (PT.node (some (IV.ptr 0 0)) (PT.node (some (IV.int Go.IntKind.i64 p)) PT.leaf PT.leaf) PT.leaf) PT.leaf) PT.leaf) (IS.mk (PT.node (some (IObj.row (List.cons (IV.lst cNode x2.1) (List.cons (IV.lst cVal x2.2) [])))) PT.leaf PT.leaf) 1) [] 0)
def enc_r_Check_19 (x1 : (List DForm)) (x2 : DGraph) (p : (List DCol) × ByteArray × Int × Int) : NRes := (NRes.mk (PT.node (some (IV.lst cForm x1)) (PT.node none (PT.node (some (IV.ptr 0 0)) (PT.node (some (IV.int Go.IntKind.i64 p.2.2.2)) PT.leaf PT.leaf) PT.leaf) (PT.node none (PT.node (some (IV.int Go.IntKind.i64 p.2.2.1)) PT.leaf PT.leaf) PT.leaf)) (PT.node none (PT.node none (PT.node (some (IV.ptr 1 0)) PT.leaf PT.leaf) PT.leaf) PT.leaf)) (IS.mk (PT.node (some (IObj.row (List.cons (IV.lst cNode x2.1) (List.cons (IV.lst cVal x2.2) [])))) (PT.node (some (IObj.row (List.cons (IV.str p.2.1) (List.cons (IV.lst cCol p.1) [])))) PT.leaf PT.leaf) PT.leaf) 2) [] 0)
def R_r_Check_in (lf : Nat) (x1 : (List DForm)) (x2 : DGraph) (L8 : Int → Option Rt_r_Check) : Option Rt_r_Check := (cond (Bool.not (ieqI (Go.Proofs.YtcnhjofpmpipfaaGreat.S.checkForms x1) (Int.ofNat 0))) (some ((Go.Proofs.YtcnhjofpmpipfaaGreat.S.checkForms x1), ())) (cond (Bool.not (ieqI (Go.Proofs.YtcnhjofpmpipfaaGreat.S.formed (x2.1, x2.2)) (Int.ofNat 0))) (some ((Go.Proofs.YtcnhjofpmpipfaaGreat.S.formed (x2.1, x2.2)), ())) (L8 (Int.ofNat 0))))
def R_r_Check_8 (lf : Nat) (x1 : (List DForm)) (x2 : DGraph) (L8 : Int → Option Rt_r_Check) (L13 : Int → Option Rt_r_Check) (p : Int) : Option Rt_r_Check := (cond (iltI p (Int.ofNat (List.length x2.1))) (match (jget x2.1 p) with | .none  => none | .some v0 => (cond (iltI (Go.Proofs.YtcnhjofpmpipfaaGreat.S.form x1 v0.1) (Int.ofNat 0)) (some ((Int.ofNat 4), ())) (L8 (Go.IntKind.wrap Go.IntKind.i64 (Int.add p (Int.ofNat 1)))))) (L13 (Int.ofNat 0)))
def R_r_Check_13 (lf : Nat) (x1 : (List DForm)) (x2 : DGraph) (L19 : ((List DCol) × ByteArray × Int × Int) → Option Rt_r_Check) (p : Int) : Option Rt_r_Check := (cond (iltI p (Int.ofNat (List.length x2.1))) (match (jget x2.1 p) with | .none  => none | .some v0 => (match (jget x1 (Go.Proofs.YtcnhjofpmpipfaaGreat.S.form x1 v0.1)) with | .none  => none | .some v1 => (match (jget x2.1 p) with | .none  => none | .some v2 => (cond (Bool.not (ieqI (Int.ofNat (List.length v1.2)) (Int.ofNat (List.length v2.2)))) (some ((Int.ofNat 8), ())) (L19 (v1.2, v1.1, (Int.ofNat 0), p)))))) (some ((Int.ofNat 0), ())))
def R_r_Check_19 (lf : Nat) (x1 : (List DForm)) (x2 : DGraph) (L19 : ((List DCol) × ByteArray × Int × Int) → Option Rt_r_Check) (L13 : Int → Option Rt_r_Check) (p : (List DCol) × ByteArray × Int × Int) : Option Rt_r_Check := (cond (iltI p.2.2.1 (Int.ofNat (List.length p.1))) (match (jget p.1 p.2.2.1) with | .none  => none | .some v0 => (match (jget x2.1 p.2.2.2) with | .none  => none | .some v1 => (match (jget v1.2 p.2.2.1) with | .none  => none | .some v2 => (match (cond (Go.Proofs.YtcnhjofpmpipfaaGreat.S.refOK (x2.1, x2.2) (v2.1, v2.2)) (some ((Go.Proofs.YtcnhjofpmpipfaaGreat.S.suits (x2.1, x2.2) (v0.1, (v0.2.1, v0.2.2)) (v2.1, v2.2)), ())) none) with | .none  => none | .some v3 => (cond (Bool.not v3.1) (some ((Int.ofNat 8), ())) (L19 (p.1, p.2.1, (Go.IntKind.wrap Go.IntKind.i64 (Int.add p.2.2.1 (Int.ofNat 1))), p.2.2.2))))))) (L13 (Go.IntKind.wrap Go.IntKind.i64 (Int.add p.2.2.2 (Int.ofNat 1)))))
theorem in_r_Check (g : ElA [(.list cForm), cGraph] → Option Rt_r_Check) (J : Nat → List Nat → NRes → Option Rt_r_Check) (lf : Nat) (x1 : (List DForm)) (x2 : DGraph) : icodeT Tryz.prog ttT.get nm_r_Check fi39.nt (cl_r_Check _ lf) lf st_r_Check J fi39.body [] (argGo (argV [(.list cForm), cGraph] (x1, x2, ())) 0 .leaf) S0 [] (lastK ttT.get fi39 ⟨[(.list cForm), cGraph], [(false, (.int .i64))], g⟩) = R_r_Check_in lf x1 x2 (fun q => J 8 [lf] (enc_r_Check_8 x1 x2 q)) := by kernel_rfl
theorem st_r_Check_8 (g : ElA [(.list cForm), cGraph] → Option Rt_r_Check) (J : Nat → List Nat → NRes → Option Rt_r_Check) (lf : Nat) (x1 : (List DForm)) (x2 : DGraph) (m1 : Nat) (p : Int) : icodeFT Tryz.prog ttT.get nm_r_Check fi39.nt (cl_r_Check _ lf) lf st_r_Check J 8 fi39.body [] [m1] (enc_r_Check_8 x1 x2 p) (lastK ttT.get fi39 ⟨[(.list cForm), cGraph], [(false, (.int .i64))], g⟩) = R_r_Check_8 lf x1 x2 (fun q => J 8 [m1] (enc_r_Check_8 x1 x2 q)) (fun q => J 13 [lf] (enc_r_Check_13 x1 x2 q)) p := by kernel_rfl
theorem st_r_Check_13 (g : ElA [(.list cForm), cGraph] → Option Rt_r_Check) (J : Nat → List Nat → NRes → Option Rt_r_Check) (lf : Nat) (x1 : (List DForm)) (x2 : DGraph) (m1 : Nat) (p : Int) : icodeFT Tryz.prog ttT.get nm_r_Check fi39.nt (cl_r_Check _ lf) lf st_r_Check J 13 fi39.body [] [m1] (enc_r_Check_13 x1 x2 p) (lastK ttT.get fi39 ⟨[(.list cForm), cGraph], [(false, (.int .i64))], g⟩) = R_r_Check_13 lf x1 x2 (fun q => J 19 [m1, lf] (enc_r_Check_19 x1 x2 q)) p := by kernel_rfl
theorem st_r_Check_19 (g : ElA [(.list cForm), cGraph] → Option Rt_r_Check) (J : Nat → List Nat → NRes → Option Rt_r_Check) (lf : Nat) (x1 : (List DForm)) (x2 : DGraph) (m1 : Nat) (m2 : Nat) (p : (List DCol) × ByteArray × Int × Int) : icodeFT Tryz.prog ttT.get nm_r_Check fi39.nt (cl_r_Check _ lf) lf st_r_Check J 19 fi39.body [] [m1, m2] (enc_r_Check_19 x1 x2 p) (lastK ttT.get fi39 ⟨[(.list cForm), cGraph], [(false, (.int .i64))], g⟩) = R_r_Check_19 lf x1 x2 (fun q => J 19 [m1, m2] (enc_r_Check_19 x1 x2 q)) (fun q => J 13 [m1] (enc_r_Check_13 x1 x2 q)) p := by kernel_rfl
theorem nd_r_Check : (regs fi39.body).Nodup := by decide +kernel
theorem ok_r_Check : okC nm_r_Check st_r_Check hd_r_Check fi39.body none = true := by kernel_rfl
def A_r_Check (g : ElA [(.list cForm), cGraph] → Option Rt_r_Check) (lf : Nat) : Nat → List Nat → NRes → Option Rt_r_Check := atN Tryz.prog ttT.get nm_r_Check fi39 ⟨[(.list cForm), cGraph], [(false, (.int .i64))], g⟩ (cl_r_Check _ lf) lf hd_r_Check
def G_r_Check_19 (lf : Nat) (x1 : (List DForm)) (x2 : DGraph) (K13 : Int → Option Rt_r_Check) : Nat → ((List DCol) × ByteArray × Int × Int) → Option Rt_r_Check := rounds fun K p => R_r_Check_19 lf x1 x2 K K13 p
theorem at_r_Check_19 (g : ElA [(.list cForm), cGraph] → Option Rt_r_Check) (lf : Nat) (x1 : (List DForm)) (x2 : DGraph) (m1 : Nat) : ∀ (n : Nat) (p : (List DCol) × ByteArray × Int × Int), A_r_Check g lf 19 [m1, n] (enc_r_Check_19 x1 x2 p) = G_r_Check_19 lf x1 x2 (fun q => A_r_Check g lf 13 [m1] (enc_r_Check_13 x1 x2 q)) n p
  | 0, p => atN_zero 19 [m1, 0] rfl _
  | n + 1, p => by
    have ih := at_r_Check_19 g lf x1 x2 m1 n
    refine (atN_eq (icallK_eq 20 _) nd_r_Check ok_r_Check 19 [m1, n + 1] [m1, n] rfl _).trans ((st_r_Check_19 g (A_r_Check g lf) lf x1 x2 m1 n p).trans ?_)
    rw [(show (fun q => A_r_Check g lf 19 [m1, n] (enc_r_Check_19 x1 x2 q)) = (fun q => G_r_Check_19 lf x1 x2 (fun q => A_r_Check g lf 13 [m1] (enc_r_Check_13 x1 x2 q)) n q) from funext ih)]
    rfl
def G_r_Check_13 (lf : Nat) (x1 : (List DForm)) (x2 : DGraph) : Nat → (Int) → Option Rt_r_Check := rounds fun K p => R_r_Check_13 lf x1 x2 (fun q => G_r_Check_19 lf x1 x2 K lf q) p
theorem at_r_Check_13 (g : ElA [(.list cForm), cGraph] → Option Rt_r_Check) (lf : Nat) (x1 : (List DForm)) (x2 : DGraph) : ∀ (n : Nat) (p : Int), A_r_Check g lf 13 [n] (enc_r_Check_13 x1 x2 p) = G_r_Check_13 lf x1 x2 n p
  | 0, p => atN_zero 13 [0] rfl _
  | n + 1, p => by
    have ih := at_r_Check_13 g lf x1 x2 n
    refine (atN_eq (icallK_eq 20 _) nd_r_Check ok_r_Check 13 [n + 1] [n] rfl _).trans ((st_r_Check_13 g (A_r_Check g lf) lf x1 x2 n p).trans ?_)
    rw [(show (fun q => A_r_Check g lf 19 [n, lf] (enc_r_Check_19 x1 x2 q)) = (fun q => G_r_Check_19 lf x1 x2 (fun q => A_r_Check g lf 13 [n] (enc_r_Check_13 x1 x2 q)) lf q) from funext fun q => at_r_Check_19 g lf x1 x2 n lf q), (show (fun q => A_r_Check g lf 13 [n] (enc_r_Check_13 x1 x2 q)) = (fun q => G_r_Check_13 lf x1 x2 n q) from funext ih)]
    rfl
def G_r_Check_8 (lf : Nat) (x1 : (List DForm)) (x2 : DGraph) : Nat → (Int) → Option Rt_r_Check := rounds fun K p => R_r_Check_8 lf x1 x2 K (fun q => G_r_Check_13 lf x1 x2 lf q) p
theorem at_r_Check_8 (g : ElA [(.list cForm), cGraph] → Option Rt_r_Check) (lf : Nat) (x1 : (List DForm)) (x2 : DGraph) : ∀ (n : Nat) (p : Int), A_r_Check g lf 8 [n] (enc_r_Check_8 x1 x2 p) = G_r_Check_8 lf x1 x2 n p
  | 0, p => atN_zero 8 [0] rfl _
  | n + 1, p => by
    have ih := at_r_Check_8 g lf x1 x2 n
    refine (atN_eq (icallK_eq 20 _) nd_r_Check ok_r_Check 8 [n + 1] [n] rfl _).trans ((st_r_Check_8 g (A_r_Check g lf) lf x1 x2 n p).trans ?_)
    rw [(show (fun q => A_r_Check g lf 13 [lf] (enc_r_Check_13 x1 x2 q)) = (fun q => G_r_Check_13 lf x1 x2 lf q) from funext fun q => at_r_Check_13 g lf x1 x2 lf q), (show (fun q => A_r_Check g lf 8 [n] (enc_r_Check_8 x1 x2 q)) = (fun q => G_r_Check_8 lf x1 x2 n q) from funext ih)]
    rfl
def F_r_Check (lf : Nat) (x1 : (List DForm)) (x2 : DGraph) : Option Rt_r_Check := R_r_Check_in lf x1 x2 (fun q => G_r_Check_8 lf x1 x2 lf q)
theorem run_r_Check (g : ElA [(.list cForm), cGraph] → Option Rt_r_Check) (lf : Nat) (x1 : (List DForm)) (x2 : DGraph) : icodeT Tryz.prog ttT.get nm_r_Check fi39.nt (cl_r_Check _ lf) lf st_r_Check (A_r_Check g lf) fi39.body [] (argGo (argV [(.list cForm), cGraph] (x1, x2, ())) 0 .leaf) S0 [] (lastK ttT.get fi39 ⟨[(.list cForm), cGraph], [(false, (.int .i64))], g⟩) = F_r_Check lf x1 x2 := by
    refine (in_r_Check g (A_r_Check g lf) lf x1 x2).trans ?_
    rw [(show (fun q => A_r_Check g lf 8 [lf] (enc_r_Check_8 x1 x2 q)) = (fun q => G_r_Check_8 lf x1 x2 lf q) from funext fun q => at_r_Check_8 g lf x1 x2 lf q)]
    rfl
theorem hxs_r_Check : HxsOK Tryz.prog hxl_r_Check := trivial
theorem mk_r_Check {g : ElA [(.list cForm), cGraph] → Option Rt_r_Check} (hsm : SmOK Tryz.prog sml_r_Check) (hg : ∀ (x : ElA [(.list cForm), cGraph]) (y : Rt_r_Check), WfA [(.list cForm), cGraph] x → g x = some y → ∃ lf, F_r_Check lf x.1 x.2.1 = some y) : Con Tryz.prog 39 ⟨[(.list cForm), cGraph], [(false, (.int .i64))], g⟩ :=
  conT (nmf := nm_r_Check) (sml := sml_r_Check) (hxl := hxl_r_Check) (st := st_r_Check) (hd := hd_r_Check) 20 mixed ttOK ftOK hsm hxs_r_Check cal39 rfl rfl (by kernel_rfl) (fun x => by kernel_rfl) nd_r_Check ok_r_Check fun x y hx hy => by
    obtain ⟨lf, h⟩ := hg x y hx hy
    exact ⟨lf, (run_r_Check g lf x.1 x.2.1).trans h⟩
def nm_r_rule : Nat → Option Nm := fun k => cond (Nat.beq k 2) (some ⟨[0, 1, 5], [], [], [], [], 0, 0, false⟩) (none)
def st_r_rule : Nat → Bool := fun k => cond (Nat.beq k 2) true (false)
def hd_r_rule : Nat → Bool := fun k => cond (Nat.beq k 2) true (false)
abbrev Rt_r_rule : Type := Int × Unit
def sml_r_rule : List (Nat × Sm) := []
def hxl_r_rule : List (Nat × Hx) := []
def cl_r_rule (R : Type) (lf : Nat) : ClK R := icallK Tryz.prog ttT.get ftT.get (nm1 41 nm_r_rule) (smL sml_r_rule) (hxL hxl_r_rule) lf 20 R
abbrev id_r_rule : Nat := 41
def enc_r_rule_2 (x1 : (List DRule)) (x2 : ByteArray) (p : Int) : NRes := (NRes.mk (PT.node (some (IV.lst cRule x1)) (PT.node (some (IV.str x2)) PT.leaf (PT.node (some (IV.int Go.IntKind.i64 p)) PT.leaf PT.leaf)) PT.leaf) (IS.mk PT.leaf 0) [] 0)
def R_r_rule_in (lf : Nat) (x1 : (List DRule)) (x2 : ByteArray) (L2 : Int → Option Rt_r_rule) : Option Rt_r_rule := (L2 (Int.ofNat 0))
def R_r_rule_2 (lf : Nat) (x1 : (List DRule)) (x2 : ByteArray) (L2 : Int → Option Rt_r_rule) (p : Int) : Option Rt_r_rule := (cond (iltI p (Int.ofNat (List.length x1))) (match (jget x1 p) with | .none  => none | .some v0 => (cond (keqS v0.1 x2) (some (p, ())) (L2 (Go.IntKind.wrap Go.IntKind.i64 (Int.add p (Int.ofNat 1)))))) (some ((Int.negSucc 0), ())))
theorem in_r_rule (g : ElA [(.list cRule), .str] → Option Rt_r_rule) (J : Nat → List Nat → NRes → Option Rt_r_rule) (lf : Nat) (x1 : (List DRule)) (x2 : ByteArray) : icodeT Tryz.prog ttT.get nm_r_rule fi41.nt (cl_r_rule _ lf) lf st_r_rule J fi41.body [] (argGo (argV [(.list cRule), .str] (x1, x2, ())) 0 .leaf) S0 [] (lastK ttT.get fi41 ⟨[(.list cRule), .str], [(false, (.int .i64))], g⟩) = R_r_rule_in lf x1 x2 (fun q => J 2 [lf] (enc_r_rule_2 x1 x2 q)) := by kernel_rfl
theorem st_r_rule_2 (g : ElA [(.list cRule), .str] → Option Rt_r_rule) (J : Nat → List Nat → NRes → Option Rt_r_rule) (lf : Nat) (x1 : (List DRule)) (x2 : ByteArray) (m1 : Nat) (p : Int) : icodeFT Tryz.prog ttT.get nm_r_rule fi41.nt (cl_r_rule _ lf) lf st_r_rule J 2 fi41.body [] [m1] (enc_r_rule_2 x1 x2 p) (lastK ttT.get fi41 ⟨[(.list cRule), .str], [(false, (.int .i64))], g⟩) = R_r_rule_2 lf x1 x2 (fun q => J 2 [m1] (enc_r_rule_2 x1 x2 q)) p := by kernel_rfl
theorem nd_r_rule : (regs fi41.body).Nodup := by decide +kernel
theorem ok_r_rule : okC nm_r_rule st_r_rule hd_r_rule fi41.body none = true := by kernel_rfl
def A_r_rule (g : ElA [(.list cRule), .str] → Option Rt_r_rule) (lf : Nat) : Nat → List Nat → NRes → Option Rt_r_rule := atN Tryz.prog ttT.get nm_r_rule fi41 ⟨[(.list cRule), .str], [(false, (.int .i64))], g⟩ (cl_r_rule _ lf) lf hd_r_rule
def G_r_rule_2 (lf : Nat) (x1 : (List DRule)) (x2 : ByteArray) : Nat → (Int) → Option Rt_r_rule := rounds fun K p => R_r_rule_2 lf x1 x2 K p
theorem at_r_rule_2 (g : ElA [(.list cRule), .str] → Option Rt_r_rule) (lf : Nat) (x1 : (List DRule)) (x2 : ByteArray) : ∀ (n : Nat) (p : Int), A_r_rule g lf 2 [n] (enc_r_rule_2 x1 x2 p) = G_r_rule_2 lf x1 x2 n p
  | 0, p => atN_zero 2 [0] rfl _
  | n + 1, p => by
    have ih := at_r_rule_2 g lf x1 x2 n
    refine (atN_eq (icallK_eq 20 _) nd_r_rule ok_r_rule 2 [n + 1] [n] rfl _).trans ((st_r_rule_2 g (A_r_rule g lf) lf x1 x2 n p).trans ?_)
    rw [(show (fun q => A_r_rule g lf 2 [n] (enc_r_rule_2 x1 x2 q)) = (fun q => G_r_rule_2 lf x1 x2 n q) from funext ih)]
    rfl
def F_r_rule (lf : Nat) (x1 : (List DRule)) (x2 : ByteArray) : Option Rt_r_rule := R_r_rule_in lf x1 x2 (fun q => G_r_rule_2 lf x1 x2 lf q)
theorem run_r_rule (g : ElA [(.list cRule), .str] → Option Rt_r_rule) (lf : Nat) (x1 : (List DRule)) (x2 : ByteArray) : icodeT Tryz.prog ttT.get nm_r_rule fi41.nt (cl_r_rule _ lf) lf st_r_rule (A_r_rule g lf) fi41.body [] (argGo (argV [(.list cRule), .str] (x1, x2, ())) 0 .leaf) S0 [] (lastK ttT.get fi41 ⟨[(.list cRule), .str], [(false, (.int .i64))], g⟩) = F_r_rule lf x1 x2 := by
    refine (in_r_rule g (A_r_rule g lf) lf x1 x2).trans ?_
    rw [(show (fun q => A_r_rule g lf 2 [lf] (enc_r_rule_2 x1 x2 q)) = (fun q => G_r_rule_2 lf x1 x2 lf q) from funext fun q => at_r_rule_2 g lf x1 x2 lf q)]
    rfl
theorem hxs_r_rule : HxsOK Tryz.prog hxl_r_rule := trivial
theorem mk_r_rule {g : ElA [(.list cRule), .str] → Option Rt_r_rule} (hsm : SmOK Tryz.prog sml_r_rule) (hg : ∀ (x : ElA [(.list cRule), .str]) (y : Rt_r_rule), WfA [(.list cRule), .str] x → g x = some y → ∃ lf, F_r_rule lf x.1 x.2.1 = some y) : Con Tryz.prog 41 ⟨[(.list cRule), .str], [(false, (.int .i64))], g⟩ :=
  conT (nmf := nm_r_rule) (sml := sml_r_rule) (hxl := hxl_r_rule) (st := st_r_rule) (hd := hd_r_rule) 20 mixed ttOK ftOK hsm hxs_r_rule cal41 rfl rfl (by kernel_rfl) (fun x => by kernel_rfl) nd_r_rule ok_r_rule fun x y hx hy => by
    obtain ⟨lf, h⟩ := hg x y hx hy
    exact ⟨lf, (run_r_rule g lf x.1 x.2.1).trans h⟩
def nm_r_target : Nat → Option Nm := fun k => none
def st_r_target : Nat → Bool := fun k => false
def hd_r_target : Nat → Bool := fun k => false
abbrev Rt_r_target : Type := ByteArray × Unit
def sml_r_target : List (Nat × Sm) := [(41, sp_r_rule)]
def hxl_r_target : List (Nat × Hx) := []
def cl_r_target (R : Type) (lf : Nat) : ClK R := icallK Tryz.prog ttT.get ftT.get (nm1 143 nm_r_target) (smL sml_r_target) (hxL hxl_r_target) lf 20 R
abbrev id_r_target : Nat := 143
def R_r_target_in (lf : Nat) (x1 : (List DRule)) (x2 : ByteArray) : Option Rt_r_target := (cond (iltI (S.idx (fun v0 => (keqS v0.1 x2)) x1) (Int.ofNat 0)) (some ((S.lit []), ())) (match (jget x1 (S.idx (fun v1 => (keqS v1.1 x2)) x1)) with | .none  => none | .some v2 => (some (v2.2.1, ()))))
theorem in_r_target (g : ElA [(.list cRule), .str] → Option Rt_r_target) (J : Nat → List Nat → NRes → Option Rt_r_target) (lf : Nat) (x1 : (List DRule)) (x2 : ByteArray) : icodeT Tryz.prog ttT.get nm_r_target fi143.nt (cl_r_target _ lf) lf st_r_target J fi143.body [] (argGo (argV [(.list cRule), .str] (x1, x2, ())) 0 .leaf) S0 [] (lastK ttT.get fi143 ⟨[(.list cRule), .str], [(false, .str)], g⟩) = R_r_target_in lf x1 x2 := by kernel_rfl
theorem nd_r_target : (regs fi143.body).Nodup := by decide +kernel
theorem ok_r_target : okC nm_r_target st_r_target hd_r_target fi143.body none = true := by kernel_rfl
def A_r_target (g : ElA [(.list cRule), .str] → Option Rt_r_target) (lf : Nat) : Nat → List Nat → NRes → Option Rt_r_target := atN Tryz.prog ttT.get nm_r_target fi143 ⟨[(.list cRule), .str], [(false, .str)], g⟩ (cl_r_target _ lf) lf hd_r_target
def F_r_target (lf : Nat) (x1 : (List DRule)) (x2 : ByteArray) : Option Rt_r_target := R_r_target_in lf x1 x2
theorem run_r_target (g : ElA [(.list cRule), .str] → Option Rt_r_target) (lf : Nat) (x1 : (List DRule)) (x2 : ByteArray) : icodeT Tryz.prog ttT.get nm_r_target fi143.nt (cl_r_target _ lf) lf st_r_target (A_r_target g lf) fi143.body [] (argGo (argV [(.list cRule), .str] (x1, x2, ())) 0 .leaf) S0 [] (lastK ttT.get fi143 ⟨[(.list cRule), .str], [(false, .str)], g⟩) = F_r_target lf x1 x2 := by
    refine (in_r_target g (A_r_target g lf) lf x1 x2).trans ?_
    rfl
theorem hxs_r_target : HxsOK Tryz.prog hxl_r_target := trivial
theorem mk_r_target {g : ElA [(.list cRule), .str] → Option Rt_r_target} (hsm : SmOK Tryz.prog sml_r_target) (hg : ∀ (x : ElA [(.list cRule), .str]) (y : Rt_r_target), WfA [(.list cRule), .str] x → g x = some y → ∃ lf, F_r_target lf x.1 x.2.1 = some y) : Con Tryz.prog 143 ⟨[(.list cRule), .str], [(false, .str)], g⟩ :=
  conT (nmf := nm_r_target) (sml := sml_r_target) (hxl := hxl_r_target) (st := st_r_target) (hd := hd_r_target) 20 mixed ttOK ftOK hsm hxs_r_target cal143 rfl rfl (by kernel_rfl) (fun x => by kernel_rfl) nd_r_target ok_r_target fun x y hx hy => by
    obtain ⟨lf, h⟩ := hg x y hx hy
    exact ⟨lf, (run_r_target g lf x.1 x.2.1).trans h⟩
end Go.Proofs.YtcnhjofpmpipfaaGreat

end
end

/- The reference's functions: names, places, values. -/
section
set_option linter.unusedVariables false
set_option maxRecDepth 100000
namespace Go.Proofs.YtcnhjofpmpipfaaGreat
open Go Go.Sx Go.RowKit Go.Jx
/-- An index by a loop. -/
theorem idx_go {α : Type} (p : α → Bool) (rest : List α) (i : Nat) (v : α) : (match (v :: rest).findIdx? p with | some j => Int.ofNat (i + j) | none => -1) = cond (p v) (Int.ofNat i) (match rest.findIdx? p with | some j => Int.ofNat (i + 1 + j) | none => -1) := by
  rw [List.findIdx?_cons]
  cases p v with
  | true => rfl
  | false =>
    simp only [cond_false]
    cases List.findIdx? p rest with
    | none => rfl
    | some j => exact congrArg Int.ofNat (show i + (j + 1) = i + 1 + j by omega)
theorem idx_at {α : Type} (p : α → Bool) (l : List α) : (match l.findIdx? p with | some j => Int.ofNat (0 + j) | none => -1) = S.idx p l := by
  unfold S.idx
  cases l.findIdx? p <;> simp
theorem F_q_has_eq (l : List ByteArray) (s : ByteArray) (hl : l.length < LF) : F_q_has LF l s = some (S.has l s, ()) := by
  refine range1 (R := Rt_q_has) l (fun rest _ => some (S.has rest s, ())) hl (fun K => ?_) (fun K i v rest r h => ?_)
  · simp only [R_q_has_2, ilt_self, cond_false]; rfl
  · simp only [R_q_has_2, r.ilt, r.get, r.next, h, cond_true]
    unfold S.has
    rw [List.any_cons]
    cases keqS v s <;> rfl
theorem con_q_has : Con Tryz.prog id_q_has sp_q_has := mk_q_has trivial fun x y hx h => ⟨LF, (F_q_has_eq _ _ (wf_len hx.1)).trans h⟩
theorem F_r_form_eq (l : List DForm) (n : ByteArray) (hl : l.length < LF) : F_r_form LF l n = some (S.form l n, ()) := by
  refine (range1 (R := Rt_r_form) l (fun rest i => some ((match rest.findIdx? (fun f : DForm => keqS f.1 n) with | some j => Int.ofNat (i + j) | none => -1), ())) hl (fun K => ?_) (fun K i v rest r h => ?_)).trans ?_
  · simp only [R_r_form_2, ilt_self, cond_false]; rfl
  · rw [idx_go]
    simp only [R_r_form_2, r.ilt, r.get, r.next, h, cond_true]
    cases keqS v.1 n <;> rfl
  · rw [idx_at]; rfl
theorem con_r_form : Con Tryz.prog id_r_form sp_r_form := mk_r_form trivial fun x y hx h => ⟨LF, (F_r_form_eq _ _ (wf_len hx.1)).trans h⟩
theorem F_r_column_eq (f : DForm) (n : ByteArray) (hl : f.2.length < LF) : F_r_column LF f n = some (S.col f.2 n, ()) := by
  refine (range1 (R := Rt_r_column) f.2 (fun rest i => some ((match rest.findIdx? (fun f : DCol => keqS f.1 n) with | some j => Int.ofNat (i + j) | none => -1), ())) hl (fun K => ?_) (fun K i v rest r h => ?_)).trans ?_
  · simp only [R_r_column_2, ilt_self, cond_false]; rfl
  · rw [idx_go]
    simp only [R_r_column_2, r.ilt, r.get, r.next, h, cond_true]
    cases keqS v.1 n <;> rfl
  · rw [idx_at]; rfl
theorem con_r_column : Con Tryz.prog id_r_column sp_r_column := mk_r_column trivial fun x y hx h => ⟨LF, (F_r_column_eq _ _ (wf_len hx.1.2)).trans h⟩
theorem F_r_rule_eq (l : List DRule) (n : ByteArray) (hl : l.length < LF) : F_r_rule LF l n = some (S.idx (fun r : DRule => keqS r.1 n) l, ()) := by
  refine (range1 (R := Rt_r_rule) l (fun rest i => some ((match rest.findIdx? (fun f : DRule => keqS f.1 n) with | some j => Int.ofNat (i + j) | none => -1), ())) hl (fun K => ?_) (fun K i v rest r h => ?_)).trans ?_
  · simp only [R_r_rule_2, ilt_self, cond_false]; rfl
  · rw [idx_go]
    simp only [R_r_rule_2, r.ilt, r.get, r.next, h, cond_true]
    cases keqS v.1 n <;> rfl
  · rw [idx_at]
theorem con_r_rule : Con Tryz.prog id_r_rule sp_r_rule := mk_r_rule trivial fun x y hx h => ⟨LF, (F_r_rule_eq _ _ (wf_len hx.1)).trans h⟩
theorem F_r_target_eq (lf : Nat) (l : List DRule) (n : ByteArray) : F_r_target lf l n = some ((S.ruleOf l n).1.2.1, ()) := by
  simp only [F_r_target, R_r_target_in]
  by_cases h : S.idx (fun r : DRule => keqS r.1 n) l < 0
  · have hn := S.idx_neg h
    simp only [S.ruleOf, hn, iltI_eq, oL]
    rw [decide_eq_true h]; rfl
  · obtain ⟨x, h1, h2, h3, h4, h5, h6⟩ := S.idx_get (p := fun r : DRule => keqS r.1 n) (l := l) (by omega)
    simp only [S.ruleOf, h6, h1, iltI_eq, oL]
    rw [decide_eq_false h]; rfl
theorem con_r_target : Con Tryz.prog id_r_target sp_r_target := mk_r_target ⟨con_r_rule, trivial⟩ fun x y hx h => ⟨LF, (F_r_target_eq _ _ _).trans h⟩
theorem within_tree (n lo hi : Int) : (cond (Bool.not (iltI n lo)) (some ((Bool.not (iltI hi n)), ())) (some (Bool.false, ())) : Option (Bool × Unit)) = some (S.within n lo hi, ()) := F_p_within_eq 0 n lo hi
theorem F_r_valued_eq (lf : Nat) (v : DVal) (many : Int) : F_r_valued lf v many = some (S.value v many, ()) := by
  simp only [F_r_valued, R_r_valued_in, S.value, ieqI_eq]
  simp only [within_tree]
  simp only [oL, oLn]
  by_cases h1 : v.1 = 1
  · simp [h1]
  by_cases h2 : v.1 = 2
  · simp [h2]
  by_cases h3 : v.1 = 3
  · simp [h3]
  by_cases h4 : v.1 = 4
  · simp [h4]
  · simp [h1, h2, h3, h4]
theorem con_r_valued : Con Tryz.prog id_r_valued sp_r_valued := mk_r_valued trivial fun x y hx h => ⟨LF, (F_r_valued_eq _ _ _).trans h⟩
theorem rfm_third (g : DGraph) (hl : g.2.length < LF) : G_r_Formed_19 LF g LF (Int.ofNat 0) = some ((if g.2.any (fun v => !S.value v (Int.ofNat g.1.length) || !S.refers v) then 2 else 0), ()) := by
  refine range1 (R := Rt_r_Formed) g.2 (fun rest i => some ((if rest.any (fun v => !S.value v (Int.ofNat g.1.length) || !S.refers v) then 2 else 0), ())) hl (fun K => ?_) (fun K i v rest r h => ?_)
  · simp only [R_r_Formed_19, ilt_self, cond_false]; rfl
  · have e2 : (v :: rest).any (fun v => !S.value v (Int.ofNat g.1.length) || !S.refers v) = ((!S.value v (Int.ofNat g.1.length) || !S.refers v) || rest.any (fun v => !S.value v (Int.ofNat g.1.length) || !S.refers v)) := rfl
    rw [e2]
    simp only [R_r_Formed_19, r.ilt, r.get, r.next, h, cond_true, Prod.eta, ieqI_eq]
    simp only [oL]
    cases S.value v (Int.ofNat g.1.length) with
    | false => rfl
    | true =>
      by_cases h3 : v.1 = 3
      · have hr : S.refers v = true := by simp [S.refers, h3]
        rw [hr, decide_eq_true h3]; rfl
      rw [decide_eq_false h3]
      by_cases h4 : v.1 = 4
      · have hr : S.refers v = true := by simp [S.refers, h4]
        rw [hr, decide_eq_true h4]; rfl
      · have hr : S.refers v = false := by simp [S.refers, h3, h4]
        rw [hr, decide_eq_false h4]; rfl
theorem rfm_inner (g : DGraph) (K10 : Int → Option Rt_r_Formed) (i : Nat) (n : DNode) (hg : jget g.1 (Int.ofNat i) = some n) (hl : n.2.length < LF) :
    G_r_Formed_13 LF g K10 LF (Int.ofNat 0, Int.ofNat i) = cond (n.2.any fun v => !S.value v (Int.ofNat g.1.length)) (some (2, ())) (K10 (IntKind.i64.wrap (Int.add (Int.ofNat i) (Int.ofNat 1)))) := by
  refine range0 (σ := Unit) (R := Rt_r_Formed) n.2 (fun k _ => (k, Int.ofNat i)) (fun _ _ => True) (fun rest k _ => cond (rest.any fun v => !S.value v (Int.ofNat g.1.length)) (some (2, ())) (K10 (IntKind.i64.wrap (Int.add (Int.ofNat i) (Int.ofNat 1))))) hl (fun K s _ => ?_) (fun K k v rest s _ r h => ?_) () trivial
  · simp only [R_r_Formed_13, hg, ilt_self, cond_false]; rfl
  · have h := h () trivial
    rw [List.any_cons]
    simp only [R_r_Formed_13, hg, r.ilt, r.get, r.next, h, cond_true, Prod.eta]
    cases S.value v (Int.ofNat g.1.length) <;> rfl
theorem rfm_second (g : DGraph) (hl : g.1.length < LF) (hl2 : g.2.length < LF) (hw : ∀ n ∈ g.1, n.2.length < LF) : G_r_Formed_10 LF g LF (Int.ofNat 0) = some ((if g.1.any (fun n => n.2.any fun v => !S.value v (Int.ofNat g.1.length)) then 2 else if g.2.any (fun v => !S.value v (Int.ofNat g.1.length) || !S.refers v) then 2 else 0), ()) := by
  refine range1 (R := Rt_r_Formed) g.1 (fun rest i => some ((if rest.any (fun n => n.2.any fun v => !S.value v (Int.ofNat g.1.length)) then 2 else if g.2.any (fun v => !S.value v (Int.ofNat g.1.length) || !S.refers v) then 2 else 0), ())) hl (fun K => ?_) (fun K i n rest r h => ?_)
  · simp only [R_r_Formed_10, ilt_self, cond_false]
    exact rfm_third g hl2
  · have e2 : (n :: rest).any (fun n => n.2.any fun v => !S.value v (Int.ofNat g.1.length)) = ((n.2.any fun v => !S.value v (Int.ofNat g.1.length)) || rest.any (fun n => n.2.any fun v => !S.value v (Int.ofNat g.1.length))) := rfl
    rw [e2]
    simp only [R_r_Formed_10, r.ilt, cond_true]
    refine (rfm_inner g K i n r.get (hw n r.mem)).trans ?_
    rw [r.next, h]
    cases (n.2.any fun v => !S.value v (Int.ofNat g.1.length)) <;> rfl
theorem rfm_first (g : DGraph) (hl : g.1.length < LF) (hl2 : g.2.length < LF) (hw : ∀ n ∈ g.1, n.2.length < LF) : G_r_Formed_5 LF g LF (Int.ofNat 0) = some ((if g.1.any (fun n => decide (30 < n.2.length)) then 3 else if g.1.any (fun n => n.2.any fun v => !S.value v (Int.ofNat g.1.length)) then 2 else if g.2.any (fun v => !S.value v (Int.ofNat g.1.length) || !S.refers v) then 2 else 0), ()) := by
  refine (range1 (R := Rt_r_Formed) g.1 (fun rest i => some ((if rest.any (fun n => decide (30 < n.2.length)) then 3 else if g.1.any (fun n => n.2.any fun v => !S.value v (Int.ofNat g.1.length)) then 2 else if g.2.any (fun v => !S.value v (Int.ofNat g.1.length) || !S.refers v) then 2 else 0), ())) hl (fun K => ?_) (fun K i n rest r h => ?_))
  · simp only [R_r_Formed_5, ilt_self, cond_false]
    exact rfm_second g hl hl2 hw
  · simp only [R_r_Formed_5, r.ilt, r.get, r.next, h, cond_true, ilt_nat]
    have e2 : (n :: rest).any (fun n => decide (30 < n.2.length)) = (decide (30 < n.2.length) || rest.any (fun n => decide (30 < n.2.length))) := rfl
    rw [e2]
    by_cases hb : 30 < n.2.length
    · rw [decide_eq_true hb, cond_true, Bool.true_or, if_pos rfl]; rfl
    · rw [decide_eq_false hb, cond_false, Bool.false_or]
theorem F_r_Formed_eq (g : DGraph) (hl : g.1.length < LF) (hl2 : g.2.length < LF) (hw : ∀ n ∈ g.1, n.2.length < LF) : F_r_Formed LF g = some (S.formed g, ()) := by
  simp only [F_r_Formed, R_r_Formed_in, S.formed, ilt_nat]
  by_cases h1 : 400 < g.1.length
  · simp [h1, oL]
  by_cases h2 : 60 < g.2.length
  · simp [h1, h2, oL]
  rw [decide_eq_false h1, cond_false, decide_eq_false h2, cond_false, if_neg (by omega)]
  exact rfm_first g hl hl2 hw
theorem con_r_Formed : Con Tryz.prog id_r_Formed sp_r_Formed := mk_r_Formed ⟨con_r_valued, trivial⟩ fun x y hx h => ⟨LF, (F_r_Formed_eq _ (wf_len hx.1.1) (wf_len hx.1.2) fun n hn => wf_len (hx.1.1.2 n hn).2).trans h⟩

theorem F_r_fits_eq (lf : Nat) (c : DCol) (v : DVal) (g : DGraph) (h : S.refOK g v = true) : F_r_fits lf c v g = some (S.suits g c v, ()) := by
  simp only [F_r_fits, R_r_fits_in, S.suits, ieqI_eq, keqS, cond_if]
  have ea : S.lit [65, 78, 89] = S.ANY := rfl
  simp only [ea, oL, decide_eq_true_eq]
  by_cases h1 : c.2.1 = 1
  · simp [h1]
  by_cases h2 : c.2.1 = 2
  · simp [h2]
  by_cases h3 : v.1 = 3
  · simp [h1, h2, h3]
  by_cases h4 : v.1 = 4
  · unfold S.refOK at h
    obtain ⟨a, b⟩ := of_decide_eq_true h h4
    have em : imax 0 v.2 = v.2 := by rw [imax_eq]; split <;> omega
    rw [em]
    obtain ⟨x, e1, e2, e3⟩ := jget_of a b
    have e4 : S.at_ S.zNode g.1 v.2 = x := by unfold S.at_; rw [e2]; rfl
    rw [e1, e4]
    by_cases hA : c.2.2 = S.ANY <;> simp [h1, h2, h3, h4, hA]
  · simp [h1, h2, h3, h4]
theorem con_r_fits : Con Tryz.prog id_r_fits sp_r_fits := mk_r_fits trivial fun x y hx h => ⟨0, by
  have h : cond (S.refOK x.2.2.1 x.2.1) (some (S.suits x.2.2.1 x.1 x.2.1, ())) none = some y := h
  cases hr : S.refOK x.2.2.1 x.2.1 with
  | false => rw [hr] at h; cases h
  | true => rw [hr] at h; exact (F_r_fits_eq _ _ _ _ hr).trans h⟩
/-! ### Classes and graphs -/
/-- The first index is that one, or one ahead. -/
theorem idx_take {α : Type} {p : α → Bool} {l : List α} {i : Nat} {v : α} (hv : l[i]? = some v) (hp : p v = true) : S.idx p l < Int.ofNat i ↔ ¬ S.idx p (l.take i) < 0 := by
  have hi : i < l.length := (List.getElem?_eq_some_iff.1 hv).1
  have h1 := S.idx_nonneg p (l.take i)
  constructor
  · intro h
    have h0 : 0 ≤ S.idx p l := (S.idx_nonneg p l).2 (List.any_eq_true.2 ⟨v, List.mem_of_getElem? hv, hp⟩)
    obtain ⟨x, g1, g2, g3, g4, g5, g6⟩ := S.idx_get h0
    have : 0 ≤ S.idx p (l.take i) := h1.2 (List.any_eq_true.2 ⟨x, List.mem_of_getElem? (i := (S.idx p l).toNat) (by rw [List.getElem?_take, if_pos (by have : Int.ofNat i = (i : Int) := rfl; omega)]; exact g2), g3⟩)
    omega
  · intro h
    have h0 : 0 ≤ S.idx p (l.take i) := by omega
    obtain ⟨x, hx, hpx⟩ := List.any_eq_true.1 (h1.1 h0)
    obtain ⟨j, hj⟩ := List.mem_iff_getElem?.1 hx
    have hji : j < i := by
      have := (List.getElem?_eq_some_iff.1 hj).1
      rw [List.length_take] at this
      omega
    rw [List.getElem?_take, if_pos hji] at hj
    unfold S.idx
    cases hf : l.findIdx? p with
    | none =>
      rw [List.findIdx?_eq_none_iff] at hf
      have := hf x (List.mem_of_getElem? hj)
      rw [hpx] at this; cases this
    | some k =>
      simp only
      obtain ⟨k1, k2, k3⟩ := List.findIdx?_eq_some_iff_getElem.1 hf
      have : k ≤ j := by
        rcases Nat.lt_or_ge j k with h | h
        · have h4 := k3 j h
          have h5 : l[j]'(by omega) = x := by have := (List.getElem?_eq_some_iff.1 hj).2; exact this
          rw [h5, hpx] at h4; simp at h4
        · exact h
      have : Int.ofNat k = (k : Int) := rfl
      have : Int.ofNat i = (i : Int) := rfl
      omega
theorem rck_inner (l : List DForm) (g : DGraph) (K13 : Int → Option Rt_r_Check) (cs : List DCol) (nm : ByteArray) (i : Nat) (n : DNode) (hg : jget g.1 (Int.ofNat i) = some n) (hc : cs.length < LF) (hlen : cs.length = n.2.length) (hv : ∀ v ∈ n.2, S.refOK g v = true) :
    G_r_Check_19 LF l g K13 LF (cs, nm, Int.ofNat 0, Int.ofNat i) = if S.suitsAll g cs n.2 = true then K13 (IntKind.i64.wrap (Int.add (Int.ofNat i) (Int.ofNat 1))) else some (8, ()) := by
  refine range0 (σ := Unit) (R := Rt_r_Check) cs (fun k _ => (cs, nm, k, Int.ofNat i)) (fun _ _ => True) (fun rest k _ => if S.suitsAll g rest (n.2.drop k) = true then K13 (IntKind.i64.wrap (Int.add (Int.ofNat i) (Int.ofNat 1))) else some (8, ())) hc (fun K s _ => ?_) (fun K k c rest s _ r h => ?_) () trivial
  · simp only [R_r_Check_19, ilt_self, cond_false, S.suitsAll]; rfl
  · have h := h () trivial
    have hk : k < n.2.length := by rw [← hlen]; exact r.lt
    have hj : jget n.2 (Int.ofNat k) = some n.2[k] := by rw [jget_nat]; exact List.getElem?_eq_getElem hk
    have hr := hv _ (List.getElem_mem hk)
    rw [List.drop_eq_getElem_cons hk, S.suitsAll]
    simp only [R_r_Check_19, r.ilt, r.get, r.next, h, cond_true, hg, hj, Prod.eta, hr]
    cases S.suits g c n.2[k] <;> simp [oL]
theorem rck_types (l : List DForm) (g : DGraph) (hl : g.1.length < LF) (hw : ∀ f ∈ l, f.2.length < LF) (hp : S.typedPre l g = true) : G_r_Check_13 LF l g LF (Int.ofNat 0) = some (S.unlessE (S.typed l g g.1) 8, ()) := by
  refine range1 (R := Rt_r_Check) g.1 (fun rest i => some (S.unlessE (S.typed l g rest) 8, ())) hl (fun K => ?_) (fun K i n rest r h => ?_)
  · simp only [R_r_Check_13, ilt_self, cond_false, S.typed]; rfl
  · unfold S.typedPre at hp
    have hn := List.all_eq_true.1 hp n r.mem
    simp only [Bool.and_eq_true, decide_eq_true_eq] at hn
    obtain ⟨f, f1, f2, f3, f4⟩ := form_get hn.1
    simp only [R_r_Check_13, r.ilt, r.get, f1, cond_true, ieq_nat]
    rw [S.typed, f2]
    by_cases hlen : f.2.length = n.2.length
    · rw [if_pos hlen.symm, decide_eq_true hlen, Bool.not_true, cond_false]
      refine (rck_inner l g K f.2 f.1 i n r.get (hw f f3) hlen (List.all_eq_true.1 hn.2)).trans ?_
      rw [r.next, h]
      split <;> rfl
    · rw [if_neg (fun h => hlen h.symm), decide_eq_false hlen, Bool.not_false, cond_true]
      rfl
theorem F_r_Check_eq (l : List DForm) (g : DGraph) (hl : g.1.length < LF) (hw : ∀ f ∈ l, f.2.length < LF) : F_r_Check LF l g = some (S.checkG l g, ()) := by
  simp only [F_r_Check, R_r_Check_in, S.checkG, Prod.eta, ne_zero]
  by_cases h0 : ¬ S.checkForms l = 0
  · rw [decide_eq_true h0, cond_true, if_pos h0]
  have h0 := Decidable.not_not.1 h0
  rw [decide_eq_false (by simpa using h0), cond_false, if_neg (by simpa using h0), S.check]
  by_cases h1 : ¬ S.formed g = 0
  · rw [decide_eq_true h1, cond_true, if_pos h1]
  have h1 := Decidable.not_not.1 h1
  rw [decide_eq_false (by simpa using h1), cond_false, if_neg (by simpa using h1)]
  refine range0 (σ := Unit) (R := Rt_r_Check) g.1 (fun i _ => i) (fun i _ => (g.1.take i).any (fun n => decide (S.form l n.1 < 0)) = false) (fun rest i _ => some ((if rest.any (fun n => decide (S.form l n.1 < 0)) then 4 else S.unlessE (S.typed l g g.1) 8), ())) hl (fun K s hI => ?_) (fun K i n rest s hI r h => ?_) () (by simp)
  · simp only [R_r_Check_8, ilt_self, cond_false]
    rw [List.take_length] at hI
    exact rck_types l g hl hw (check_pre hl h1 hI)
  · simp only [R_r_Check_8, r.ilt, r.get, r.next, cond_true, iltI_eq]
    have e2 : (n :: rest).any (fun n => decide (S.form l n.1 < 0)) = (decide (S.form l n.1 < 0) || rest.any (fun n => decide (S.form l n.1 < 0))) := rfl
    rw [e2]
    cases hb : decide (S.form l n.1 < Int.ofNat 0) with
    | true =>
      have hb2 : decide (S.form l n.1 < 0) = true := hb
      rfl
    | false =>
      have hb2 : decide (S.form l n.1 < 0) = false := hb
      rw [cond_false, Bool.false_or]
      refine h () ?_
      rw [r.take, List.any_append, hI]
      simp [hb2]

theorem con_r_Check (hc : Con Tryz.prog id_r_CheckForms sp_r_CheckForms) : Con Tryz.prog id_r_Check sp_r_Check := mk_r_Check ⟨hc, con_r_Formed, con_r_form, con_r_fits, trivial⟩ fun x y hx h => ⟨LF, (F_r_Check_eq _ _ (wf_len hx.2.1.1) fun f hf => wf_len (hx.1.2 f hf).2).trans h⟩
theorem rs_loop (s : ByteArray) (hl : s.size < LF) : G_r_smallNamed_4 LF s LF (Int.ofNat 0) = some (((byteList s).all (fun b => !S.badR b 97 122) && !decide (S.smallWords.any (fun w => keqS s w) = true)), ()) := by
  have hbl : (byteList s).length < LF := by rw [bl_len]; exact hl
  refine range1 (R := Rt_r_smallNamed) (byteList s) (fun rest _ => some ((rest.all (fun b => !S.badR b 97 122) && !decide (S.smallWords.any (fun w => keqS s w) = true)), ())) hbl (fun K => ?_) (fun K i b rest r h => ?_)
  · rw [bl_len]
    simp only [R_r_smallNamed_4, ilt_self, cond_false, List.all_nil, Bool.true_and, S.smallWords, List.any_cons, List.any_nil, Bool.or_false]
    cases keqS s (S.lit [116, 114, 117, 101]) <;> cases keqS s (S.lit [102, 97, 108, 115, 101]) <;> cases keqS s (S.lit [118, 111, 105, 100]) <;> cases keqS s (S.lit [99, 117, 114, 114, 101, 110, 116]) <;> cases keqS s (S.lit [114, 101, 115, 117, 108, 116]) <;> rfl
  · have hlt : iltI (Int.ofNat i) (Int.ofNat s.size) = true := by have := r.ilt; rwa [bl_len] at this
    rw [List.all_cons, Bool.and_assoc]
    generalize (rest.all (fun b => !S.badR b 97 122) && !decide (S.smallWords.any (fun w => keqS s w) = true)) = z at h ⊢
    simp only [R_r_smallNamed_4, hlt, r.get, r.next, h, cond_true, iltI_eq, ieqI_eq]
    simp only [oL, S.badR]
    by_cases h1 : b < 97 <;> by_cases h2 : 122 < b <;> by_cases h3 : b < 48 <;> by_cases h4 : 57 < b <;> by_cases h5 : b = 95 <;> simp [h1, h2, h3, h4, h5] <;> omega
theorem F_r_smallNamed_eq (s : ByteArray) : F_r_smallNamed LF s = some (S.small s, ()) := by
  have key : ∀ z : Bool, (z = true ↔ S.small s = true) → z = S.small s := fun z h => by rw [Bool.eq_iff_iff]; exact h
  simp only [F_r_smallNamed, R_r_smallNamed_in, ilt_nat]
  by_cases h1 : s.size < 1
  · rw [decide_eq_true h1, cond_true]
    refine congrArg some (Prod.ext (key _ ⟨fun h => (by cases h), fun h => ?_⟩) rfl)
    obtain ⟨_, ⟨b, hb, _⟩, _⟩ := (small_iff s).1 h
    have := (List.getElem?_eq_some_iff.1 hb).1
    rw [bl_len] at this; omega
  rw [decide_eq_false h1, cond_false]
  by_cases h2 : 20 < s.size
  · rw [decide_eq_true h2, cond_true]
    refine congrArg some (Prod.ext (key _ ⟨fun h => (by cases h), fun h => ?_⟩) rfl)
    have := ((small_iff s).1 h).1; omega
  rw [decide_eq_false h2, cond_false]
  have hb := bl_get (s := s) (i := 0) (by omega)
  have hj : jget (byteList s) (Int.ofNat 0) = some ((s[0]'(by omega)).toNat : Int) := by rw [jget_nat]; exact hb
  generalize ((s[0]'(by omega)).toNat : Int) = b0 at hb hj
  simp only [hj, iltI_eq]
  simp only [oL]
  by_cases h3 : b0 < 97
  · rw [decide_eq_true h3, cond_true]
    refine congrArg some (Prod.ext (key _ ⟨fun h => (by cases h), fun h => ?_⟩) rfl)
    obtain ⟨_, ⟨b, hb2, _⟩, _⟩ := (small_iff s).1 h
    rw [hb] at hb2; cases hb2; omega
  rw [decide_eq_false h3, cond_false]
  by_cases h4 : 122 < b0
  · rw [decide_eq_true h4, cond_true]
    refine congrArg some (Prod.ext (key _ ⟨fun h => (by cases h), fun h => ?_⟩) rfl)
    obtain ⟨_, ⟨b, hb2, _⟩, _⟩ := (small_iff s).1 h
    rw [hb] at hb2; cases hb2; omega
  rw [decide_eq_false h4, cond_false]
  refine (rs_loop s (by unfold LF; omega)).trans (congrArg some (Prod.ext (key _ ?_) rfl))
  rw [small_iff]
  simp only [Bool.and_eq_true, List.all_eq_true, Bool.not_eq_true', decide_eq_false_iff_not]
  have hm : S.smallWords.any (fun w => keqS s w) = true ↔ s ∈ S.smallWords := by
    rw [List.any_eq_true]
    exact ⟨fun ⟨x, hx, h⟩ => by rw [of_decide_eq_true h]; exact hx, fun h => ⟨s, h, decide_eq_true rfl⟩⟩
  rw [hm]
  exact ⟨fun h => ⟨by omega, ⟨b0, hb, by omega, by omega⟩, h.1, h.2⟩, fun h => ⟨h.2.2.1, h.2.2.2⟩⟩
theorem con_r_smallNamed : Con Tryz.prog id_r_smallNamed sp_r_smallNamed := mk_r_smallNamed trivial fun x y hx h => ⟨LF, (F_r_smallNamed_eq _).trans h⟩
end Go.Proofs.YtcnhjofpmpipfaaGreat
end

/- The reference's CheckForms. -/
section
set_option linter.unusedVariables false
set_option maxRecDepth 100000
namespace Go.Proofs.YtcnhjofpmpipfaaGreat
open Go Go.Sx Go.RowKit Go.Jx
theorem col_take {l : List DCol} {i : Nat} {c : DCol} (h : l[i]? = some c) : S.col l c.1 < Int.ofNat i ↔ ¬ S.col (l.take i) c.1 < 0 := idx_take (p := fun x : DCol => keqS x.1 c.1) h (by simp [keqS])
theorem form_take {l : List DForm} {i : Nat} {f : DForm} (h : l[i]? = some f) : S.form l f.1 < Int.ofNat i ↔ ¬ S.form (l.take i) f.1 < 0 := idx_take (p := fun x : DForm => keqS x.1 f.1) h (by simp [keqS])
theorem rcf_cols (l : List DForm) (K4 : Int → Option Rt_r_CheckForms) (i : Nat) (f : DForm) (hf : jget l (Int.ofNat i) = some f) (hl : f.2.length < LF) (Z : Int → Option Rt_r_CheckForms) (hZ0 : Z 0 = K4 (IntKind.i64.wrap (Int.add (Int.ofNat i) (Int.ofNat 1)))) (hZ : ∀ e, e ≠ 0 → Z e = some (e, ())) :
    G_r_CheckForms_14 LF l K4 LF (Int.ofNat 0, Int.ofNat i) = Z (S.ccGo f.2 0 f.2) := by
  refine range0 (σ := Unit) (R := Rt_r_CheckForms) f.2 (fun k _ => (k, Int.ofNat i)) (fun _ _ => True) (fun rest k _ => Z (S.ccGo f.2 k rest)) hl (fun K s _ => ?_) (fun K k c rest s _ r h => ?_) () trivial
  · simp only [R_r_CheckForms_14, hf, ilt_self, cond_false, S.ccGo, hZ0]
  · have h := h () trivial
    rw [S.ccGo]
    simp only [R_r_CheckForms_14, hf, r.ilt, r.get, r.next, h, cond_true]
    have ht := col_take r.get?
    generalize S.ccGo f.2 (k + 1) rest = z
    have h4 := hZ 4 (by decide)
    have h6 := hZ 6 (by decide)
    have h1 := hZ 1 (by decide)
    cases S.small c.1 with
    | false => rw [if_pos rfl, h4]; rfl
    | true =>
      rw [Bool.not_true, cond_false, if_neg (show ¬ true = false by decide)]
      by_cases hc : S.col (f.2.take k) c.1 < 0
      · have hn : ¬ S.col f.2 c.1 < Int.ofNat k := fun h => (ht.1 h) hc
        rw [iltI_eq, decide_eq_false hn, cond_false, if_neg (fun h => h hc)]
        simp only [iltI_eq, ieqI_eq, keqS, oL]
        have hw : S.within c.2.1 1 3 = (!decide (c.2.1 < 1) && !decide (3 < c.2.1)) := by
          unfold S.within
          rw [Bool.eq_iff_iff]
          simp only [Bool.and_eq_true, decide_eq_true_eq, Bool.not_eq_true', decide_eq_false_iff_not]
          omega
        rw [hw]
        by_cases a1 : c.2.1 < 1
        · rw [decide_eq_true a1, if_pos (show (!true && !decide (3 < c.2.1)) = false from rfl), h1]; rfl
        rw [decide_eq_false a1]
        by_cases a3 : 3 < c.2.1
        · rw [decide_eq_true a3, if_pos (show (!false && !true) = false from rfl), h1]; rfl
        rw [decide_eq_false a3, if_neg (show ¬ (!false && !false) = false by decide)]
        by_cases b3 : c.2.1 = 3
        · rw [decide_eq_true b3, if_neg (fun h => h.1 b3)]; rfl
        rw [decide_eq_false b3]
        by_cases b4 : c.2.2 = S.lit []
        · rw [decide_eq_true b4, if_neg (fun h => h.2 b4)]; rfl
        · rw [decide_eq_false b4, if_pos ⟨b3, b4⟩, h1]; rfl
      · have hy : S.col f.2 c.1 < Int.ofNat k := ht.2 hc
        rw [iltI_eq, decide_eq_true hy, cond_true, if_pos hc, h6]; rfl
theorem rcf_in (x1 : List DForm) (K25 : Int → Option Rt_r_CheckForms) (i : Nat) (f : DForm) (hg : jget x1 (Int.ofNat i) = some f) (hf : f.2.length < LF) (Z : Bool → Option Rt_r_CheckForms) (hZ1 : Z true = K25 (IntKind.i64.wrap (Int.add (Int.ofNat i) (Int.ofNat 1)))) (hZ : Z false = some (5, ())) :
    G_r_CheckForms_28 LF x1 K25 LF (Int.ofNat 0, Int.ofNat i) = Z (S.cfIn x1 f.2) := by
  refine range0 (σ := Unit) (R := Rt_r_CheckForms) f.2 (fun k _ => (k, Int.ofNat i)) (fun _ _ => True) (fun rest _ _ => Z (S.cfIn x1 rest)) hf (fun K s _ => ?_) (fun K k c rest s _ r h => ?_) () trivial
  · simp only [R_r_CheckForms_28, hg, ilt_self, cond_false, S.cfIn, hZ1]
  · have h := h () trivial
    rw [S.cfIn]
    simp only [R_r_CheckForms_28, hg, r.ilt, r.get, r.next, h, cond_true, iltI_eq, ieqI_eq, keqS]
    have ea : S.lit [65, 78, 89] = S.ANY := rfl
    generalize S.cfIn x1 rest = z
    simp only [ea, oL]
    by_cases h3 : c.2.1 = 3
    · by_cases hn : c.2.2 = S.ANY
      · rw [decide_eq_true h3, decide_eq_true hn, if_neg (fun h => h.2.1 hn)]; rfl
      · by_cases hf : S.form x1 c.2.2 < 0
        · rw [decide_eq_true h3, decide_eq_false hn, decide_eq_true hf, if_pos ⟨h3, hn, hf⟩, hZ]; rfl
        · rw [decide_eq_true h3, decide_eq_false hn, decide_eq_false hf, if_neg (fun h => hf h.2.2)]; rfl
    · rw [decide_eq_false h3, if_neg (fun h => h3 h.1)]; rfl
theorem rcf_second (x1 : List DForm) (hl : x1.length < LF) (hw : ∀ f ∈ x1, f.2.length < LF) : G_r_CheckForms_25 LF x1 LF (Int.ofNat 0) = some (S.cfGo2 x1 x1, ()) := by
  refine range1 (R := Rt_r_CheckForms) x1 (fun rest i => some (S.cfGo2 x1 rest, ())) hl (fun K => ?_) (fun K i v rest r h => ?_)
  · simp only [R_r_CheckForms_25, ilt_self, cond_false]; rfl
  · simp only [R_r_CheckForms_25, r.ilt, cond_true]
    refine (rcf_in x1 K i v r.get (hw v r.mem) (fun b => some ((if b = true then S.cfGo2 x1 rest else 5), ())) ?_ rfl).trans ?_
    · rw [r.next, h]; rfl
    · rw [S.cfGo2]
theorem F_r_CheckForms_eq (l : List DForm) (hl : l.length < LF) (hw : ∀ f ∈ l, f.2.length < LF) : F_r_CheckForms LF l = some (S.checkForms l, ()) := by
  simp only [F_r_CheckForms, R_r_CheckForms_in, S.checkForms, ilt_nat]
  by_cases h24 : 24 < l.length
  · rw [decide_eq_true h24, cond_true, if_pos h24]; rfl
  rw [decide_eq_false h24, cond_false, if_neg h24]
  refine range1 (R := Rt_r_CheckForms) l (fun rest i => some (S.cfGo l i rest, ())) hl (fun K => ?_) (fun K i v rest r h => ?_)
  · simp only [R_r_CheckForms_4, ilt_self, cond_false, S.cfGo]
    exact rcf_second l hl hw
  · have ht := form_take r.get?
    rw [S.cfGo]
    simp only [first3, S.unlessE]
    simp only [R_r_CheckForms_4, r.ilt, r.get, cond_true, ilt_nat]
    cases hcl : S.class_ v.1 with
    | false => rfl
    | true =>
      rw [Bool.not_true, cond_false, cond_true, if_pos (rfl : (0 : Int) = 0)]
      by_cases hc : S.form (l.take i) v.1 < 0
      · have hn : ¬ S.form l v.1 < Int.ofNat i := fun h => (ht.1 h) hc
        rw [iltI_eq, decide_eq_false hn, cond_false, decide_eq_true hc, cond_true, if_pos (rfl : (0 : Int) = 0)]
        unfold S.checkCols
        by_cases h30 : 30 < v.2.length
        · rw [decide_eq_true h30, cond_true, if_pos h30]; rfl
        · rw [decide_eq_false h30, cond_false, if_neg h30]
          refine (rcf_cols l K i v r.get (hw v r.mem) (fun e => some ((if e = 0 then S.cfGo l (i + 1) rest else e), ())) ?_ (fun e he => by simp only [if_neg he])).trans rfl
          rw [r.next, h]; rfl
      · have hy : S.form l v.1 < Int.ofNat i := ht.2 hc
        rw [iltI_eq, decide_eq_true hy, cond_true, decide_eq_false hc, cond_false]
        rfl
theorem con_r_CheckForms (hcl : Con Tryz.prog 92 sp_r_classed) : Con Tryz.prog id_r_CheckForms sp_r_CheckForms := mk_r_CheckForms ⟨hcl, con_r_smallNamed, con_r_form, con_r_column, trivial⟩ fun x y hx h => ⟨LF, (F_r_CheckForms_eq _ (wf_len hx.1) fun f hf => wf_len (hx.1.2 f hf).2).trans h⟩
end Go.Proofs.YtcnhjofpmpipfaaGreat
end

/- Made by program: plain forms of functions. -/
section
set_option linter.unusedVariables false
set_option maxRecDepth 100000
noncomputable section
namespace Go.Proofs.YtcnhjofpmpipfaaGreat
open Go Go.Sx Go.RowKit Go.Jx
def nm_q_run : Nat → Option Nm := fun k => cond (Nat.beq k 2) (some ⟨[0, 1, 5], [], [], [], [], 0, 0, false⟩) (none)
def st_q_run : Nat → Bool := fun k => cond (Nat.beq k 2) true (false)
def hd_q_run : Nat → Bool := fun k => cond (Nat.beq k 2) true (false)
abbrev Rt_q_run : Type := Int × Unit
def sml_q_run : List (Nat × Sm) := []
def hxl_q_run : List (Nat × Hx) := []
def cl_q_run (R : Type) (lf : Nat) : ClK R := icallK Tryz.prog ttT.get ftT.get (nm1 139 nm_q_run) (smL sml_q_run) (hxL hxl_q_run) lf 20 R
abbrev id_q_run : Nat := 139
def enc_q_run_2 (x1 : ByteArray) (x2 : Int) (p : Int) : NRes := (NRes.mk (PT.node (some (IV.str x1)) (PT.node (some (IV.int Go.IntKind.i64 x2)) PT.leaf (PT.node (some (IV.int Go.IntKind.i64 p)) PT.leaf PT.leaf)) PT.leaf) (IS.mk PT.leaf 0) [] 0)
def R_q_run_in (lf : Nat) (x1 : ByteArray) (x2 : Int) (L2 : Int → Option Rt_q_run) : Option Rt_q_run := (L2 (Int.ofNat 0))
def R_q_run_2 (lf : Nat) (x1 : ByteArray) (x2 : Int) (L2 : Int → Option Rt_q_run) (p : Int) : Option Rt_q_run := (cond (iltI (Go.IntKind.wrap Go.IntKind.i64 (Int.add x2 p)) (Int.ofNat (ByteArray.size x1))) (match (jget (byteList x1) (Go.IntKind.wrap Go.IntKind.i64 (Int.add x2 p))) with | .none  => none | .some v0 => (cond (Bool.not (iltI v0 (Int.ofNat 97))) (cond (Bool.not (iltI (Int.ofNat 122) v0)) (L2 (Go.IntKind.wrap Go.IntKind.i64 (Int.add p (Int.ofNat 1)))) (cond (Bool.not (iltI v0 (Int.ofNat 65))) (cond (Bool.not (iltI (Int.ofNat 90) v0)) (L2 (Go.IntKind.wrap Go.IntKind.i64 (Int.add p (Int.ofNat 1)))) (cond (Bool.not (iltI v0 (Int.ofNat 48))) (cond (Bool.not (iltI (Int.ofNat 57) v0)) (L2 (Go.IntKind.wrap Go.IntKind.i64 (Int.add p (Int.ofNat 1)))) (cond (ieqI v0 (Int.ofNat 95)) (L2 (Go.IntKind.wrap Go.IntKind.i64 (Int.add p (Int.ofNat 1)))) (some (p, ())))) (cond (ieqI v0 (Int.ofNat 95)) (L2 (Go.IntKind.wrap Go.IntKind.i64 (Int.add p (Int.ofNat 1)))) (some (p, ()))))) (cond (Bool.not (iltI v0 (Int.ofNat 48))) (cond (Bool.not (iltI (Int.ofNat 57) v0)) (L2 (Go.IntKind.wrap Go.IntKind.i64 (Int.add p (Int.ofNat 1)))) (cond (ieqI v0 (Int.ofNat 95)) (L2 (Go.IntKind.wrap Go.IntKind.i64 (Int.add p (Int.ofNat 1)))) (some (p, ())))) (cond (ieqI v0 (Int.ofNat 95)) (L2 (Go.IntKind.wrap Go.IntKind.i64 (Int.add p (Int.ofNat 1)))) (some (p, ())))))) (cond (Bool.not (iltI v0 (Int.ofNat 65))) (cond (Bool.not (iltI (Int.ofNat 90) v0)) (L2 (Go.IntKind.wrap Go.IntKind.i64 (Int.add p (Int.ofNat 1)))) (cond (Bool.not (iltI v0 (Int.ofNat 48))) (cond (Bool.not (iltI (Int.ofNat 57) v0)) (L2 (Go.IntKind.wrap Go.IntKind.i64 (Int.add p (Int.ofNat 1)))) (cond (ieqI v0 (Int.ofNat 95)) (L2 (Go.IntKind.wrap Go.IntKind.i64 (Int.add p (Int.ofNat 1)))) (some (p, ())))) (cond (ieqI v0 (Int.ofNat 95)) (L2 (Go.IntKind.wrap Go.IntKind.i64 (Int.add p (Int.ofNat 1)))) (some (p, ()))))) (cond (Bool.not (iltI v0 (Int.ofNat 48))) (cond (Bool.not (iltI (Int.ofNat 57) v0)) (L2 (Go.IntKind.wrap Go.IntKind.i64 (Int.add p (Int.ofNat 1)))) (cond (ieqI v0 (Int.ofNat 95)) (L2 (Go.IntKind.wrap Go.IntKind.i64 (Int.add p (Int.ofNat 1)))) (some (p, ())))) (cond (ieqI v0 (Int.ofNat 95)) (L2 (Go.IntKind.wrap Go.IntKind.i64 (Int.add p (Int.ofNat 1)))) (some (p, ()))))))) (some (p, ())))
theorem in_q_run (g : ElA [.str, (.int .i64)] → Option Rt_q_run) (J : Nat → List Nat → NRes → Option Rt_q_run) (lf : Nat) (x1 : ByteArray) (x2 : Int) : icodeT Tryz.prog ttT.get nm_q_run fi139.nt (cl_q_run _ lf) lf st_q_run J fi139.body [] (argGo (argV [.str, (.int .i64)] (x1, x2, ())) 0 .leaf) S0 [] (lastK ttT.get fi139 ⟨[.str, (.int .i64)], [(false, (.int .i64))], g⟩) = R_q_run_in lf x1 x2 (fun q => J 2 [lf] (enc_q_run_2 x1 x2 q)) := by kernel_rfl
theorem st_q_run_2 (g : ElA [.str, (.int .i64)] → Option Rt_q_run) (J : Nat → List Nat → NRes → Option Rt_q_run) (lf : Nat) (x1 : ByteArray) (x2 : Int) (m1 : Nat) (p : Int) : icodeFT Tryz.prog ttT.get nm_q_run fi139.nt (cl_q_run _ lf) lf st_q_run J 2 fi139.body [] [m1] (enc_q_run_2 x1 x2 p) (lastK ttT.get fi139 ⟨[.str, (.int .i64)], [(false, (.int .i64))], g⟩) = R_q_run_2 lf x1 x2 (fun q => J 2 [m1] (enc_q_run_2 x1 x2 q)) p := by kernel_rfl
theorem nd_q_run : (regs fi139.body).Nodup := by decide +kernel
theorem ok_q_run : okC nm_q_run st_q_run hd_q_run fi139.body none = true := by kernel_rfl
def A_q_run (g : ElA [.str, (.int .i64)] → Option Rt_q_run) (lf : Nat) : Nat → List Nat → NRes → Option Rt_q_run := atN Tryz.prog ttT.get nm_q_run fi139 ⟨[.str, (.int .i64)], [(false, (.int .i64))], g⟩ (cl_q_run _ lf) lf hd_q_run
def G_q_run_2 (lf : Nat) (x1 : ByteArray) (x2 : Int) : Nat → (Int) → Option Rt_q_run := rounds fun K p => R_q_run_2 lf x1 x2 K p
theorem at_q_run_2 (g : ElA [.str, (.int .i64)] → Option Rt_q_run) (lf : Nat) (x1 : ByteArray) (x2 : Int) : ∀ (n : Nat) (p : Int), A_q_run g lf 2 [n] (enc_q_run_2 x1 x2 p) = G_q_run_2 lf x1 x2 n p
  | 0, p => atN_zero 2 [0] rfl _
  | n + 1, p => by
    have ih := at_q_run_2 g lf x1 x2 n
    refine (atN_eq (icallK_eq 20 _) nd_q_run ok_q_run 2 [n + 1] [n] rfl _).trans ((st_q_run_2 g (A_q_run g lf) lf x1 x2 n p).trans ?_)
    rw [(show (fun q => A_q_run g lf 2 [n] (enc_q_run_2 x1 x2 q)) = (fun q => G_q_run_2 lf x1 x2 n q) from funext ih)]
    rfl
def F_q_run (lf : Nat) (x1 : ByteArray) (x2 : Int) : Option Rt_q_run := R_q_run_in lf x1 x2 (fun q => G_q_run_2 lf x1 x2 lf q)
theorem run_q_run (g : ElA [.str, (.int .i64)] → Option Rt_q_run) (lf : Nat) (x1 : ByteArray) (x2 : Int) : icodeT Tryz.prog ttT.get nm_q_run fi139.nt (cl_q_run _ lf) lf st_q_run (A_q_run g lf) fi139.body [] (argGo (argV [.str, (.int .i64)] (x1, x2, ())) 0 .leaf) S0 [] (lastK ttT.get fi139 ⟨[.str, (.int .i64)], [(false, (.int .i64))], g⟩) = F_q_run lf x1 x2 := by
    refine (in_q_run g (A_q_run g lf) lf x1 x2).trans ?_
    rw [(show (fun q => A_q_run g lf 2 [lf] (enc_q_run_2 x1 x2 q)) = (fun q => G_q_run_2 lf x1 x2 lf q) from funext fun q => at_q_run_2 g lf x1 x2 lf q)]
    rfl
theorem hxs_q_run : HxsOK Tryz.prog hxl_q_run := trivial
theorem mk_q_run {g : ElA [.str, (.int .i64)] → Option Rt_q_run} (hsm : SmOK Tryz.prog sml_q_run) (hg : ∀ (x : ElA [.str, (.int .i64)]) (y : Rt_q_run), WfA [.str, (.int .i64)] x → g x = some y → ∃ lf, F_q_run lf x.1 x.2.1 = some y) : Con Tryz.prog 139 ⟨[.str, (.int .i64)], [(false, (.int .i64))], g⟩ :=
  conT (nmf := nm_q_run) (sml := sml_q_run) (hxl := hxl_q_run) (st := st_q_run) (hd := hd_q_run) 20 mixed ttOK ftOK hsm hxs_q_run cal139 rfl rfl (by kernel_rfl) (fun x => by kernel_rfl) nd_q_run ok_q_run fun x y hx hy => by
    obtain ⟨lf, h⟩ := hg x y hx hy
    exact ⟨lf, (run_q_run g lf x.1 x.2.1).trans h⟩
def nm_q_number : Nat → Option Nm := fun k => cond (Nat.beq k 2) (some ⟨[0, 2, 3], [], [], [], [], 0, 0, false⟩) (cond (Nat.beq k 10) (some ⟨[0, 2, 4, 5], [], [], [], [], 0, 0, false⟩) (none))
def st_q_number : Nat → Bool := fun k => cond (Nat.beq k 2) true (cond (Nat.beq k 10) true (false))
def hd_q_number : Nat → Bool := fun k => cond (Nat.beq k 2) true (cond (Nat.beq k 10) true (false))
abbrev Rt_q_number : Type := DR1Numbered × Unit
def sml_q_number : List (Nat × Sm) := []
def hxl_q_number : List (Nat × Hx) := []
def cl_q_number (R : Type) (lf : Nat) : ClK R := icallK Tryz.prog ttT.get ftT.get (nm1 141 nm_q_number) (smL sml_q_number) (hxL hxl_q_number) lf 20 R
abbrev id_q_number : Nat := 141
def enc_q_number_2 (x1 : ByteArray) (p : Int) : NRes := (NRes.mk (PT.node (some (IV.str x1)) (PT.node none (PT.node (some (IV.int Go.IntKind.i64 p)) PT.leaf PT.leaf) PT.leaf) (PT.node (some (IV.ptr 0 0)) PT.leaf PT.leaf)) (IS.mk (PT.node (some (IObj.row (List.cons (IV.int Go.IntKind.i64 (Int.ofNat 0)) (List.cons (IV.int Go.IntKind.i64 (Int.ofNat 0)) [])))) PT.leaf PT.leaf) 1) [] 0)
def enc_q_number_10 (x1 : ByteArray) (p : Int × Int) : NRes := (NRes.mk (PT.node (some (IV.str x1)) (PT.node none PT.leaf (PT.node (some (IV.int Go.IntKind.i64 p.1)) PT.leaf PT.leaf)) (PT.node (some (IV.ptr 0 0)) (PT.node (some (IV.int Go.IntKind.i64 p.2)) PT.leaf PT.leaf) PT.leaf)) (IS.mk (PT.node (some (IObj.row (List.cons (IV.int Go.IntKind.i64 (Int.ofNat 0)) (List.cons (IV.int Go.IntKind.i64 (Int.ofNat 0)) [])))) PT.leaf PT.leaf) 1) [] 0)
def R_q_number_in (lf : Nat) (x1 : ByteArray) (L2 : Int → Option Rt_q_number) : Option Rt_q_number := (L2 (Int.ofNat 0))
def R_q_number_2 (lf : Nat) (x1 : ByteArray) (L2 : Int → Option Rt_q_number) (L10 : (Int × Int) → Option Rt_q_number) (p : Int) : Option Rt_q_number := (cond (iltI p (Int.ofNat (ByteArray.size x1))) (match (jget (byteList x1) p) with | .none  => none | .some v0 => (cond (Bool.not (iltI v0 (Int.ofNat 48))) (cond (Bool.not (Bool.not (iltI (Int.ofNat 57) v0))) (some (((Int.ofNat 0), (Int.ofNat 2)), ())) (L2 (Go.IntKind.wrap Go.IntKind.i64 (Int.add p (Int.ofNat 1))))) (some (((Int.ofNat 0), (Int.ofNat 2)), ())))) (match (jget (byteList x1) (Int.ofNat 0)) with | .none  => none | .some v24 => (cond (ieqI v24 (Int.ofNat 48)) (cond (iltI (Int.ofNat 1) (Int.ofNat (ByteArray.size x1))) (some (((Int.ofNat 0), (Int.ofNat 2)), ())) (L10 ((Int.ofNat 0), (Int.ofNat 0)))) (L10 ((Int.ofNat 0), (Int.ofNat 0))))))
def R_q_number_10 (lf : Nat) (x1 : ByteArray) (L10 : (Int × Int) → Option Rt_q_number) (p : Int × Int) : Option Rt_q_number := (cond (iltI p.1 (Int.ofNat (ByteArray.size x1))) (match (jget (byteList x1) p.1) with | .none  => none | .some v0 => (cond (iltI (Int.ofNat 1099511627776) (Go.IntKind.wrap Go.IntKind.i64 (Int.sub (Go.IntKind.wrap Go.IntKind.i64 (Int.add (Go.IntKind.wrap Go.IntKind.i64 (Int.mul (Int.ofNat 10) p.2)) (Go.IntKind.wrap Go.IntKind.i64 v0))) (Int.ofNat 48)))) (some (((Int.ofNat 0), (Int.ofNat 3)), ())) (L10 ((Go.IntKind.wrap Go.IntKind.i64 (Int.add p.1 (Int.ofNat 1))), (Go.IntKind.wrap Go.IntKind.i64 (Int.sub (Go.IntKind.wrap Go.IntKind.i64 (Int.add (Go.IntKind.wrap Go.IntKind.i64 (Int.mul (Int.ofNat 10) p.2)) (Go.IntKind.wrap Go.IntKind.i64 v0))) (Int.ofNat 48))))))) (some ((p.2, (Int.ofNat 0)), ())))
theorem in_q_number (g : ElA [.str] → Option Rt_q_number) (J : Nat → List Nat → NRes → Option Rt_q_number) (lf : Nat) (x1 : ByteArray) : icodeT Tryz.prog ttT.get nm_q_number fi141.nt (cl_q_number _ lf) lf st_q_number J fi141.body [] (argGo (argV [.str] (x1, ())) 0 .leaf) S0 [] (lastK ttT.get fi141 ⟨[.str], [(false, cR1Numbered)], g⟩) = R_q_number_in lf x1 (fun q => J 2 [lf] (enc_q_number_2 x1 q)) := by kernel_rfl
theorem st_q_number_2 (g : ElA [.str] → Option Rt_q_number) (J : Nat → List Nat → NRes → Option Rt_q_number) (lf : Nat) (x1 : ByteArray) (m1 : Nat) (p : Int) : icodeFT Tryz.prog ttT.get nm_q_number fi141.nt (cl_q_number _ lf) lf st_q_number J 2 fi141.body [] [m1] (enc_q_number_2 x1 p) (lastK ttT.get fi141 ⟨[.str], [(false, cR1Numbered)], g⟩) = R_q_number_2 lf x1 (fun q => J 2 [m1] (enc_q_number_2 x1 q)) (fun q => J 10 [lf] (enc_q_number_10 x1 q)) p := by kernel_rfl
theorem st_q_number_10 (g : ElA [.str] → Option Rt_q_number) (J : Nat → List Nat → NRes → Option Rt_q_number) (lf : Nat) (x1 : ByteArray) (m1 : Nat) (p : Int × Int) : icodeFT Tryz.prog ttT.get nm_q_number fi141.nt (cl_q_number _ lf) lf st_q_number J 10 fi141.body [] [m1] (enc_q_number_10 x1 p) (lastK ttT.get fi141 ⟨[.str], [(false, cR1Numbered)], g⟩) = R_q_number_10 lf x1 (fun q => J 10 [m1] (enc_q_number_10 x1 q)) p := by kernel_rfl
theorem nd_q_number : (regs fi141.body).Nodup := by decide +kernel
theorem ok_q_number : okC nm_q_number st_q_number hd_q_number fi141.body none = true := by kernel_rfl
def A_q_number (g : ElA [.str] → Option Rt_q_number) (lf : Nat) : Nat → List Nat → NRes → Option Rt_q_number := atN Tryz.prog ttT.get nm_q_number fi141 ⟨[.str], [(false, cR1Numbered)], g⟩ (cl_q_number _ lf) lf hd_q_number
def G_q_number_10 (lf : Nat) (x1 : ByteArray) : Nat → (Int × Int) → Option Rt_q_number := rounds fun K p => R_q_number_10 lf x1 K p
theorem at_q_number_10 (g : ElA [.str] → Option Rt_q_number) (lf : Nat) (x1 : ByteArray) : ∀ (n : Nat) (p : Int × Int), A_q_number g lf 10 [n] (enc_q_number_10 x1 p) = G_q_number_10 lf x1 n p
  | 0, p => atN_zero 10 [0] rfl _
  | n + 1, p => by
    have ih := at_q_number_10 g lf x1 n
    refine (atN_eq (icallK_eq 20 _) nd_q_number ok_q_number 10 [n + 1] [n] rfl _).trans ((st_q_number_10 g (A_q_number g lf) lf x1 n p).trans ?_)
    rw [(show (fun q => A_q_number g lf 10 [n] (enc_q_number_10 x1 q)) = (fun q => G_q_number_10 lf x1 n q) from funext ih)]
    rfl
def G_q_number_2 (lf : Nat) (x1 : ByteArray) : Nat → (Int) → Option Rt_q_number := rounds fun K p => R_q_number_2 lf x1 K (fun q => G_q_number_10 lf x1 lf q) p
theorem at_q_number_2 (g : ElA [.str] → Option Rt_q_number) (lf : Nat) (x1 : ByteArray) : ∀ (n : Nat) (p : Int), A_q_number g lf 2 [n] (enc_q_number_2 x1 p) = G_q_number_2 lf x1 n p
  | 0, p => atN_zero 2 [0] rfl _
  | n + 1, p => by
    have ih := at_q_number_2 g lf x1 n
    refine (atN_eq (icallK_eq 20 _) nd_q_number ok_q_number 2 [n + 1] [n] rfl _).trans ((st_q_number_2 g (A_q_number g lf) lf x1 n p).trans ?_)
    rw [(show (fun q => A_q_number g lf 10 [lf] (enc_q_number_10 x1 q)) = (fun q => G_q_number_10 lf x1 lf q) from funext fun q => at_q_number_10 g lf x1 lf q), (show (fun q => A_q_number g lf 2 [n] (enc_q_number_2 x1 q)) = (fun q => G_q_number_2 lf x1 n q) from funext ih)]
    rfl
def F_q_number (lf : Nat) (x1 : ByteArray) : Option Rt_q_number := R_q_number_in lf x1 (fun q => G_q_number_2 lf x1 lf q)
theorem run_q_number (g : ElA [.str] → Option Rt_q_number) (lf : Nat) (x1 : ByteArray) : icodeT Tryz.prog ttT.get nm_q_number fi141.nt (cl_q_number _ lf) lf st_q_number (A_q_number g lf) fi141.body [] (argGo (argV [.str] (x1, ())) 0 .leaf) S0 [] (lastK ttT.get fi141 ⟨[.str], [(false, cR1Numbered)], g⟩) = F_q_number lf x1 := by
    refine (in_q_number g (A_q_number g lf) lf x1).trans ?_
    rw [(show (fun q => A_q_number g lf 2 [lf] (enc_q_number_2 x1 q)) = (fun q => G_q_number_2 lf x1 lf q) from funext fun q => at_q_number_2 g lf x1 lf q)]
    rfl
theorem hxs_q_number : HxsOK Tryz.prog hxl_q_number := trivial
theorem mk_q_number {g : ElA [.str] → Option Rt_q_number} (hsm : SmOK Tryz.prog sml_q_number) (hg : ∀ (x : ElA [.str]) (y : Rt_q_number), WfA [.str] x → g x = some y → ∃ lf, F_q_number lf x.1 = some y) : Con Tryz.prog 141 ⟨[.str], [(false, cR1Numbered)], g⟩ :=
  conT (nmf := nm_q_number) (sml := sml_q_number) (hxl := hxl_q_number) (st := st_q_number) (hd := hd_q_number) 20 mixed ttOK ftOK hsm hxs_q_number cal141 rfl rfl (by kernel_rfl) (fun x => by kernel_rfl) nd_q_number ok_q_number fun x y hx hy => by
    obtain ⟨lf, h⟩ := hg x y hx hy
    exact ⟨lf, (run_q_number g lf x.1).trans h⟩
def nm_q_word : Nat → Option Nm := fun k => cond (Nat.beq k 8) (some ⟨[0, 2, 3, 4, 5], [], [], [], [], 0, 0, false⟩) (none)
def st_q_word : Nat → Bool := fun k => cond (Nat.beq k 8) true (false)
def hd_q_word : Nat → Bool := fun k => cond (Nat.beq k 8) true (false)
abbrev Rt_q_word : Type := DR1Kinded × Unit
def sml_q_word : List (Nat × Sm) := [(137, sp_q_has)]
def hxl_q_word : List (Nat × Hx) := []
def cl_q_word (R : Type) (lf : Nat) : ClK R := icallK Tryz.prog ttT.get ftT.get (nm1 142 nm_q_word) (smL sml_q_word) (hxL hxl_q_word) lf 20 R
abbrev id_q_word : Nat := 142
def enc_q_word_8 (x1 : ByteArray) (p : Int × Bool × Bool) : NRes := (NRes.mk (PT.node (some (IV.str x1)) (PT.node none (PT.node (some (IV.bool p.2.2)) PT.leaf PT.leaf) (PT.node (some (IV.int Go.IntKind.i64 p.1)) PT.leaf PT.leaf)) (PT.node (some (IV.ptr 0 0)) (PT.node (some (IV.bool p.2.1)) PT.leaf PT.leaf) PT.leaf)) (IS.mk (PT.node (some (IObj.row (List.cons (IV.int Go.IntKind.i64 (Int.ofNat 0)) (List.cons (IV.int Go.IntKind.i64 (Int.ofNat 0)) [])))) PT.leaf PT.leaf) 1) [] 0)
def R_q_word_in (lf : Nat) (x1 : ByteArray) (L8 : (Int × Bool × Bool) → Option Rt_q_word) : Option Rt_q_word := (cond (Go.Proofs.YtcnhjofpmpipfaaGreat.S.has (List.cons (S.lit [97, 110, 100]) (List.cons (S.lit [97, 115]) (List.cons (S.lit [97, 116, 116, 97, 99, 104, 101, 100]) (List.cons (S.lit [99, 104, 101, 99, 107]) (List.cons (S.lit [99, 108, 97, 115, 115]) (List.cons (S.lit [99, 114, 101, 97, 116, 101]) (List.cons (S.lit [100, 101, 102, 101, 114, 114, 101, 100]) (List.cons (S.lit [100, 101, 116, 97, 99, 104, 97, 98, 108, 101]) (List.cons (S.lit [100, 111]) (List.cons (S.lit [101, 108, 115, 101]) (List.cons (S.lit [101, 110, 100]) (List.cons (S.lit [101, 110, 115, 117, 114, 101]) (List.cons (S.lit [102, 101, 97, 116, 117, 114, 101]) (List.cons (S.lit [102, 114, 111, 109]) (List.cons (S.lit [105, 102]) (List.cons (S.lit [105, 109, 112, 108, 105, 101, 115]) (List.cons (S.lit [105, 110, 104, 101, 114, 105, 116]) (List.cons (S.lit [105, 110, 118, 97, 114, 105, 97, 110, 116]) (List.cons (S.lit [108, 111, 99, 97, 108]) (List.cons (S.lit [108, 111, 111, 112]) (List.cons (S.lit [110, 111, 116]) (List.cons (S.lit [111, 108, 100]) (List.cons (S.lit [111, 114]) (List.cons (S.lit [112, 117, 116]) (List.cons (S.lit [114, 97, 105, 115, 101]) (List.cons (S.lit [114, 101, 100, 101, 102, 105, 110, 101]) (List.cons (S.lit [114, 101, 110, 97, 109, 101]) (List.cons (S.lit [114, 101, 113, 117, 105, 114, 101]) (List.cons (S.lit [114, 101, 115, 99, 117, 101]) (List.cons (S.lit [114, 101, 116, 114, 121]) (List.cons (S.lit [115, 101, 108, 101, 99, 116]) (List.cons (S.lit [115, 101, 112, 97, 114, 97, 116, 101]) (List.cons (S.lit [116, 104, 101, 110]) (List.cons (S.lit [117, 110, 100, 101, 102, 105, 110, 101]) (List.cons (S.lit [117, 110, 116, 105, 108]) (List.cons (S.lit [118, 97, 114, 105, 97, 110, 116]) (List.cons (S.lit [119, 104, 101, 110]) []))))))))))))))))))))))))))))))))))))) x1) (some (((Int.ofNat 3), (Int.ofNat 0)), ())) (cond (Go.Proofs.YtcnhjofpmpipfaaGreat.S.has (List.cons (S.lit [84, 114, 117, 101]) (List.cons (S.lit [70, 97, 108, 115, 101]) (List.cons (S.lit [86, 111, 105, 100]) (List.cons (S.lit [67, 117, 114, 114, 101, 110, 116]) (List.cons (S.lit [82, 101, 115, 117, 108, 116]) []))))) x1) (some (((Int.ofNat 3), (Int.ofNat 0)), ())) (cond (Go.Proofs.YtcnhjofpmpipfaaGreat.S.has (List.cons (S.lit [116, 114, 117, 101]) (List.cons (S.lit [102, 97, 108, 115, 101]) (List.cons (S.lit [118, 111, 105, 100]) (List.cons (S.lit [99, 117, 114, 114, 101, 110, 116]) (List.cons (S.lit [114, 101, 115, 117, 108, 116]) []))))) x1) (some (((Int.ofNat 0), (Int.ofNat 4)), ())) (L8 ((Int.ofNat 0), Bool.false, Bool.false)))))
def R_q_word_8 (lf : Nat) (x1 : ByteArray) (L8 : (Int × Bool × Bool) → Option Rt_q_word) (p : Int × Bool × Bool) : Option Rt_q_word := (cond (iltI p.1 (Int.ofNat (ByteArray.size x1))) (cond p.2.2 (cond p.2.1 (L8 ((Go.IntKind.wrap Go.IntKind.i64 (Int.add p.1 (Int.ofNat 1))), Bool.true, Bool.true)) (match (jget (byteList x1) p.1) with | .none  => none | .some v23 => (cond (Bool.not (iltI v23 (Int.ofNat 65))) (L8 ((Go.IntKind.wrap Go.IntKind.i64 (Int.add p.1 (Int.ofNat 1))), (Bool.not (iltI (Int.ofNat 90) v23)), Bool.true)) (L8 ((Go.IntKind.wrap Go.IntKind.i64 (Int.add p.1 (Int.ofNat 1))), Bool.false, Bool.true))))) (match (jget (byteList x1) p.1) with | .none  => none | .some v27 => (cond (Bool.not (iltI v27 (Int.ofNat 97))) (cond p.2.1 (L8 ((Go.IntKind.wrap Go.IntKind.i64 (Int.add p.1 (Int.ofNat 1))), Bool.true, (Bool.not (iltI (Int.ofNat 122) v27)))) (match (jget (byteList x1) p.1) with | .none  => none | .some v31 => (cond (Bool.not (iltI v31 (Int.ofNat 65))) (L8 ((Go.IntKind.wrap Go.IntKind.i64 (Int.add p.1 (Int.ofNat 1))), (Bool.not (iltI (Int.ofNat 90) v31)), (Bool.not (iltI (Int.ofNat 122) v27)))) (L8 ((Go.IntKind.wrap Go.IntKind.i64 (Int.add p.1 (Int.ofNat 1))), Bool.false, (Bool.not (iltI (Int.ofNat 122) v27))))))) (cond p.2.1 (L8 ((Go.IntKind.wrap Go.IntKind.i64 (Int.add p.1 (Int.ofNat 1))), Bool.true, Bool.false)) (match (jget (byteList x1) p.1) with | .none  => none | .some v35 => (cond (Bool.not (iltI v35 (Int.ofNat 65))) (L8 ((Go.IntKind.wrap Go.IntKind.i64 (Int.add p.1 (Int.ofNat 1))), (Bool.not (iltI (Int.ofNat 90) v35)), Bool.false)) (L8 ((Go.IntKind.wrap Go.IntKind.i64 (Int.add p.1 (Int.ofNat 1))), Bool.false, Bool.false)))))))) (cond p.2.2 (cond p.2.1 (some (((Int.ofNat 0), (Int.ofNat 2)), ())) (cond (iltI (Int.ofNat 20) (Int.ofNat (ByteArray.size x1))) (some (((Int.ofNat 0), (Int.ofNat 3)), ())) (cond p.2.2 (some (((Int.ofNat 1), (Int.ofNat 0)), ())) (some (((Int.ofNat 2), (Int.ofNat 0)), ()))))) (cond (iltI (Int.ofNat 20) (Int.ofNat (ByteArray.size x1))) (some (((Int.ofNat 0), (Int.ofNat 3)), ())) (cond p.2.2 (some (((Int.ofNat 1), (Int.ofNat 0)), ())) (some (((Int.ofNat 2), (Int.ofNat 0)), ()))))))
theorem in_q_word (g : ElA [.str] → Option Rt_q_word) (J : Nat → List Nat → NRes → Option Rt_q_word) (lf : Nat) (x1 : ByteArray) : icodeT Tryz.prog ttT.get nm_q_word fi142.nt (cl_q_word _ lf) lf st_q_word J fi142.body [] (argGo (argV [.str] (x1, ())) 0 .leaf) S0 [] (lastK ttT.get fi142 ⟨[.str], [(false, cR1Kinded)], g⟩) = R_q_word_in lf x1 (fun q => J 8 [lf] (enc_q_word_8 x1 q)) := by kernel_rfl
theorem st_q_word_8 (g : ElA [.str] → Option Rt_q_word) (J : Nat → List Nat → NRes → Option Rt_q_word) (lf : Nat) (x1 : ByteArray) (m1 : Nat) (p : Int × Bool × Bool) : icodeFT Tryz.prog ttT.get nm_q_word fi142.nt (cl_q_word _ lf) lf st_q_word J 8 fi142.body [] [m1] (enc_q_word_8 x1 p) (lastK ttT.get fi142 ⟨[.str], [(false, cR1Kinded)], g⟩) = R_q_word_8 lf x1 (fun q => J 8 [m1] (enc_q_word_8 x1 q)) p := by kernel_rfl
theorem nd_q_word : (regs fi142.body).Nodup := by decide +kernel
theorem ok_q_word : okC nm_q_word st_q_word hd_q_word fi142.body none = true := by kernel_rfl
def A_q_word (g : ElA [.str] → Option Rt_q_word) (lf : Nat) : Nat → List Nat → NRes → Option Rt_q_word := atN Tryz.prog ttT.get nm_q_word fi142 ⟨[.str], [(false, cR1Kinded)], g⟩ (cl_q_word _ lf) lf hd_q_word
def G_q_word_8 (lf : Nat) (x1 : ByteArray) : Nat → (Int × Bool × Bool) → Option Rt_q_word := rounds fun K p => R_q_word_8 lf x1 K p
theorem at_q_word_8 (g : ElA [.str] → Option Rt_q_word) (lf : Nat) (x1 : ByteArray) : ∀ (n : Nat) (p : Int × Bool × Bool), A_q_word g lf 8 [n] (enc_q_word_8 x1 p) = G_q_word_8 lf x1 n p
  | 0, p => atN_zero 8 [0] rfl _
  | n + 1, p => by
    have ih := at_q_word_8 g lf x1 n
    refine (atN_eq (icallK_eq 20 _) nd_q_word ok_q_word 8 [n + 1] [n] rfl _).trans ((st_q_word_8 g (A_q_word g lf) lf x1 n p).trans ?_)
    rw [(show (fun q => A_q_word g lf 8 [n] (enc_q_word_8 x1 q)) = (fun q => G_q_word_8 lf x1 n q) from funext ih)]
    rfl
def F_q_word (lf : Nat) (x1 : ByteArray) : Option Rt_q_word := R_q_word_in lf x1 (fun q => G_q_word_8 lf x1 lf q)
theorem run_q_word (g : ElA [.str] → Option Rt_q_word) (lf : Nat) (x1 : ByteArray) : icodeT Tryz.prog ttT.get nm_q_word fi142.nt (cl_q_word _ lf) lf st_q_word (A_q_word g lf) fi142.body [] (argGo (argV [.str] (x1, ())) 0 .leaf) S0 [] (lastK ttT.get fi142 ⟨[.str], [(false, cR1Kinded)], g⟩) = F_q_word lf x1 := by
    refine (in_q_word g (A_q_word g lf) lf x1).trans ?_
    rw [(show (fun q => A_q_word g lf 8 [lf] (enc_q_word_8 x1 q)) = (fun q => G_q_word_8 lf x1 lf q) from funext fun q => at_q_word_8 g lf x1 lf q)]
    rfl
theorem hxs_q_word : HxsOK Tryz.prog hxl_q_word := trivial
theorem mk_q_word {g : ElA [.str] → Option Rt_q_word} (hsm : SmOK Tryz.prog sml_q_word) (hg : ∀ (x : ElA [.str]) (y : Rt_q_word), WfA [.str] x → g x = some y → ∃ lf, F_q_word lf x.1 = some y) : Con Tryz.prog 142 ⟨[.str], [(false, cR1Kinded)], g⟩ :=
  conT (nmf := nm_q_word) (sml := sml_q_word) (hxl := hxl_q_word) (st := st_q_word) (hd := hd_q_word) 20 mixed ttOK ftOK hsm hxs_q_word cal142 rfl rfl (by kernel_rfl) (fun x => by kernel_rfl) nd_q_word ok_q_word fun x y hx hy => by
    obtain ⟨lf, h⟩ := hg x y hx hy
    exact ⟨lf, (run_q_word g lf x.1).trans h⟩
def nm_q_Shape : Nat → Option Nm := fun k => none
def st_q_Shape : Nat → Bool := fun k => false
def hd_q_Shape : Nat → Bool := fun k => false
abbrev Rt_q_Shape : Type := DR1Kinded × Unit
def sml_q_Shape : List (Nat × Sm) := [(137, sp_q_has), (139, sp_q_run), (141, sp_q_number), (142, sp_q_word)]
def hxl_q_Shape : List (Nat × Hx) := []
def cl_q_Shape (R : Type) (lf : Nat) : ClK R := icallK Tryz.prog ttT.get ftT.get (nm1 124 nm_q_Shape) (smL sml_q_Shape) (hxL hxl_q_Shape) lf 20 R
abbrev id_q_Shape : Nat := 124
def R_q_Shape_in (lf : Nat) (x1 : ByteArray) : Option Rt_q_Shape := (cond (Go.Proofs.YtcnhjofpmpipfaaGreat.S.has (List.cons (S.lit [58, 61]) (List.cons (S.lit [47, 61]) (List.cons (S.lit [60, 61]) (List.cons (S.lit [62, 61]) (List.cons (S.lit [47, 47]) (List.cons (S.lit [61]) (List.cons (S.lit [60]) (List.cons (S.lit [62]) (List.cons (S.lit [43]) (List.cons (S.lit [45]) (List.cons (S.lit [42]) (List.cons (S.lit [37]) (List.cons (S.lit [40]) (List.cons (S.lit [41]) (List.cons (S.lit [91]) (List.cons (S.lit [93]) (List.cons (S.lit [123]) (List.cons (S.lit [125]) (List.cons (S.lit [44]) (List.cons (S.lit [59]) (List.cons (S.lit [58]) (List.cons (S.lit [46]) [])))))))))))))))))))))) x1) (some (((Int.ofNat 5), (Int.ofNat 0)), ())) (cond (ieqI (Int.ofNat (ByteArray.size x1)) (Int.ofNat 0)) (some (((Int.ofNat 0), (Int.ofNat 2)), ())) (cond (iltI (Go.Proofs.YtcnhjofpmpipfaaGreat.S.run0 x1) (Int.ofNat (ByteArray.size x1))) (some (((Int.ofNat 0), (Int.ofNat 2)), ())) (match (jget (byteList x1) (Int.ofNat 0)) with | .none  => none | .some v0 => (cond (ieqI v0 (Int.ofNat 95)) (some (((Int.ofNat 0), (Int.ofNat 2)), ())) (match (jget (byteList x1) (Int.ofNat 0)) with | .none  => none | .some v1 => (cond (Bool.not (iltI v1 (Int.ofNat 48))) (cond (Bool.not (iltI (Int.ofNat 57) v1)) (match (cond (Nat.ble 1 (ByteArray.size x1)) (some ((Go.Proofs.YtcnhjofpmpipfaaGreat.S.number x1), ())) none) with | .none  => none | .some v2 => (cond (Bool.not (ieqI v2.1.2 (Int.ofNat 0))) (some (((Int.ofNat 0), v2.1.2), ())) (some (((Int.ofNat 4), (Int.ofNat 0)), ())))) (some (((Go.Proofs.YtcnhjofpmpipfaaGreat.S.word x1).1, (Go.Proofs.YtcnhjofpmpipfaaGreat.S.word x1).2), ()))) (some (((Go.Proofs.YtcnhjofpmpipfaaGreat.S.word x1).1, (Go.Proofs.YtcnhjofpmpipfaaGreat.S.word x1).2), ())))))))))
theorem in_q_Shape (g : ElA [.str] → Option Rt_q_Shape) (J : Nat → List Nat → NRes → Option Rt_q_Shape) (lf : Nat) (x1 : ByteArray) : icodeT Tryz.prog ttT.get nm_q_Shape fi124.nt (cl_q_Shape _ lf) lf st_q_Shape J fi124.body [] (argGo (argV [.str] (x1, ())) 0 .leaf) S0 [] (lastK ttT.get fi124 ⟨[.str], [(false, cR1Kinded)], g⟩) = R_q_Shape_in lf x1 := by kernel_rfl
theorem nd_q_Shape : (regs fi124.body).Nodup := by decide +kernel
theorem ok_q_Shape : okC nm_q_Shape st_q_Shape hd_q_Shape fi124.body none = true := by kernel_rfl
def A_q_Shape (g : ElA [.str] → Option Rt_q_Shape) (lf : Nat) : Nat → List Nat → NRes → Option Rt_q_Shape := atN Tryz.prog ttT.get nm_q_Shape fi124 ⟨[.str], [(false, cR1Kinded)], g⟩ (cl_q_Shape _ lf) lf hd_q_Shape
def F_q_Shape (lf : Nat) (x1 : ByteArray) : Option Rt_q_Shape := R_q_Shape_in lf x1
theorem run_q_Shape (g : ElA [.str] → Option Rt_q_Shape) (lf : Nat) (x1 : ByteArray) : icodeT Tryz.prog ttT.get nm_q_Shape fi124.nt (cl_q_Shape _ lf) lf st_q_Shape (A_q_Shape g lf) fi124.body [] (argGo (argV [.str] (x1, ())) 0 .leaf) S0 [] (lastK ttT.get fi124 ⟨[.str], [(false, cR1Kinded)], g⟩) = F_q_Shape lf x1 := by
    refine (in_q_Shape g (A_q_Shape g lf) lf x1).trans ?_
    rfl
theorem hxs_q_Shape : HxsOK Tryz.prog hxl_q_Shape := trivial
theorem mk_q_Shape {g : ElA [.str] → Option Rt_q_Shape} (hsm : SmOK Tryz.prog sml_q_Shape) (hg : ∀ (x : ElA [.str]) (y : Rt_q_Shape), WfA [.str] x → g x = some y → ∃ lf, F_q_Shape lf x.1 = some y) : Con Tryz.prog 124 ⟨[.str], [(false, cR1Kinded)], g⟩ :=
  conT (nmf := nm_q_Shape) (sml := sml_q_Shape) (hxl := hxl_q_Shape) (st := st_q_Shape) (hd := hd_q_Shape) 20 mixed ttOK ftOK hsm hxs_q_Shape cal124 rfl rfl (by kernel_rfl) (fun x => by kernel_rfl) nd_q_Shape ok_q_Shape fun x y hx hy => by
    obtain ⟨lf, h⟩ := hg x y hx hy
    exact ⟨lf, (run_q_Shape g lf x.1).trans h⟩
def nm_r_classed : Nat → Option Nm := fun k => none
def st_r_classed : Nat → Bool := fun k => false
def hd_r_classed : Nat → Bool := fun k => false
abbrev Rt_r_classed : Type := Bool × Unit
def sml_r_classed : List (Nat × Sm) := [(124, sp_q_Shape)]
def hxl_r_classed : List (Nat × Hx) := []
def cl_r_classed (R : Type) (lf : Nat) : ClK R := icallK Tryz.prog ttT.get ftT.get (nm1 92 nm_r_classed) (smL sml_r_classed) (hxL hxl_r_classed) lf 20 R
abbrev id_r_classed : Nat := 92
def R_r_classed_in (lf : Nat) (x1 : ByteArray) : Option Rt_r_classed := (cond (ieqI (Go.Proofs.YtcnhjofpmpipfaaGreat.S.shape x1).2 (Int.ofNat 0)) (cond (ieqI (Go.Proofs.YtcnhjofpmpipfaaGreat.S.shape x1).1 (Int.ofNat 2)) (cond (Bool.not (keqS x1 (S.lit [73, 78, 84, 69, 71, 69, 82]))) (cond (Bool.not (keqS x1 (S.lit [66, 79, 79, 76, 69, 65, 78]))) (cond (Bool.not (keqS x1 (S.lit [65, 78, 89]))) (some ((Bool.not (keqS x1 (S.lit [78, 79, 78, 69]))), ())) (some (Bool.false, ()))) (some (Bool.false, ()))) (some (Bool.false, ()))) (some (Bool.false, ()))) (some (Bool.false, ())))
theorem in_r_classed (g : ElA [.str] → Option Rt_r_classed) (J : Nat → List Nat → NRes → Option Rt_r_classed) (lf : Nat) (x1 : ByteArray) : icodeT Tryz.prog ttT.get nm_r_classed fi92.nt (cl_r_classed _ lf) lf st_r_classed J fi92.body [] (argGo (argV [.str] (x1, ())) 0 .leaf) S0 [] (lastK ttT.get fi92 ⟨[.str], [(false, .bool)], g⟩) = R_r_classed_in lf x1 := by kernel_rfl
theorem nd_r_classed : (regs fi92.body).Nodup := by decide +kernel
theorem ok_r_classed : okC nm_r_classed st_r_classed hd_r_classed fi92.body none = true := by kernel_rfl
def A_r_classed (g : ElA [.str] → Option Rt_r_classed) (lf : Nat) : Nat → List Nat → NRes → Option Rt_r_classed := atN Tryz.prog ttT.get nm_r_classed fi92 ⟨[.str], [(false, .bool)], g⟩ (cl_r_classed _ lf) lf hd_r_classed
def F_r_classed (lf : Nat) (x1 : ByteArray) : Option Rt_r_classed := R_r_classed_in lf x1
theorem run_r_classed (g : ElA [.str] → Option Rt_r_classed) (lf : Nat) (x1 : ByteArray) : icodeT Tryz.prog ttT.get nm_r_classed fi92.nt (cl_r_classed _ lf) lf st_r_classed (A_r_classed g lf) fi92.body [] (argGo (argV [.str] (x1, ())) 0 .leaf) S0 [] (lastK ttT.get fi92 ⟨[.str], [(false, .bool)], g⟩) = F_r_classed lf x1 := by
    refine (in_r_classed g (A_r_classed g lf) lf x1).trans ?_
    rfl
theorem hxs_r_classed : HxsOK Tryz.prog hxl_r_classed := trivial
theorem mk_r_classed {g : ElA [.str] → Option Rt_r_classed} (hsm : SmOK Tryz.prog sml_r_classed) (hg : ∀ (x : ElA [.str]) (y : Rt_r_classed), WfA [.str] x → g x = some y → ∃ lf, F_r_classed lf x.1 = some y) : Con Tryz.prog 92 ⟨[.str], [(false, .bool)], g⟩ :=
  conT (nmf := nm_r_classed) (sml := sml_r_classed) (hxl := hxl_r_classed) (st := st_r_classed) (hd := hd_r_classed) 20 mixed ttOK ftOK hsm hxs_r_classed cal92 rfl rfl (by kernel_rfl) (fun x => by kernel_rfl) nd_r_classed ok_r_classed fun x y hx hy => by
    obtain ⟨lf, h⟩ := hg x y hx hy
    exact ⟨lf, (run_r_classed g lf x.1).trans h⟩
end Go.Proofs.YtcnhjofpmpipfaaGreat

end
end

/- The reference's names of classes. -/
section
set_option linter.unusedVariables false
set_option maxRecDepth 100000
namespace Go.Proofs.YtcnhjofpmpipfaaGreat
open Go Go.Sx Go.RowKit Go.Jx
theorem q_run_tree {α : Type} (v : Int) (X Y : α) : (cond (Bool.not (iltI v (Int.ofNat 97))) (cond (Bool.not (iltI (Int.ofNat 122) v)) X (cond (Bool.not (iltI v (Int.ofNat 65))) (cond (Bool.not (iltI (Int.ofNat 90) v)) X (cond (Bool.not (iltI v (Int.ofNat 48))) (cond (Bool.not (iltI (Int.ofNat 57) v)) X (cond (ieqI v (Int.ofNat 95)) X Y)) (cond (ieqI v (Int.ofNat 95)) X Y))) (cond (Bool.not (iltI v (Int.ofNat 48))) (cond (Bool.not (iltI (Int.ofNat 57) v)) X (cond (ieqI v (Int.ofNat 95)) X Y)) (cond (ieqI v (Int.ofNat 95)) X Y)))) (cond (Bool.not (iltI v (Int.ofNat 65))) (cond (Bool.not (iltI (Int.ofNat 90) v)) X (cond (Bool.not (iltI v (Int.ofNat 48))) (cond (Bool.not (iltI (Int.ofNat 57) v)) X (cond (ieqI v (Int.ofNat 95)) X Y)) (cond (ieqI v (Int.ofNat 95)) X Y))) (cond (Bool.not (iltI v (Int.ofNat 48))) (cond (Bool.not (iltI (Int.ofNat 57) v)) X (cond (ieqI v (Int.ofNat 95)) X Y)) (cond (ieqI v (Int.ofNat 95)) X Y)))) = cond (S.isPart v) X Y := by
  simp only [iltI_eq, ieqI_eq, oL]
  have hp : S.isPart v = (((!decide (v < 97) && !decide (122 < v)) || (!decide (v < 65) && !decide (90 < v))) || (!decide (v < 48) && !decide (57 < v)) || decide (v = 95)) := by
    have e : ∀ a b : Int, decide (a ≤ b) = !decide (b < a) := fun a b => by
      by_cases h : b < a
      · rw [decide_eq_true h, decide_eq_false (by omega)]; rfl
      · rw [decide_eq_false h, decide_eq_true (by omega)]; rfl
    simp only [S.isPart, S.isSmall, S.isCap, S.isDig, e]
  rw [hp]
  cases decide (v < 97) <;> cases decide (122 < v) <;> cases decide (v < 65) <;> cases decide (90 < v) <;> cases decide (v < 48) <;> cases decide (57 < v) <;> cases decide (v = 95) <;> rfl
theorem F_q_run_eq (s : ByteArray) (hl : s.size < LF) : F_q_run LF s (Int.ofNat 0) = some (S.run0 s, ()) := by
  have hbl : (byteList s).length < LF := by rw [bl_len]; exact hl
  have h0 : ∀ i : Nat, i < LF → IntKind.i64.wrap (Int.add (Int.ofNat 0) (Int.ofNat i)) = Int.ofNat i := fun i hi => by
    rw [show Int.add (Int.ofNat 0) (Int.ofNat i) = Int.ofNat i from Int.zero_add _]
    exact wrap64_in (by unfold LF at hi; show _ ≤ (i : Int) ∧ (i : Int) < _; omega)
  refine (range1 (R := Rt_q_run) (byteList s) (fun rest i => some (Int.ofNat (i + (rest.takeWhile S.isPart).length), ())) hbl (fun K => ?_) (fun K i v rest r h => ?_)).trans ?_
  · simp only [R_q_run_2, h0 _ hbl]
    rw [bl_len, ilt_self]; rfl
  · have hlt : iltI (Int.ofNat i) (Int.ofNat s.size) = true := by have := r.ilt; rwa [bl_len] at this
    simp only [R_q_run_2, h0 i (by have := r.lt; omega), hlt, r.get, r.next, h, cond_true, q_run_tree, List.takeWhile_cons]
    cases S.isPart v with
    | true => simp only [cond_true, if_true, List.length_cons]; exact congrArg (fun n => some (Int.ofNat n, ())) (by omega)
    | false => rfl
  · unfold S.run0; rw [Nat.zero_add]
theorem ieqI_true {a b : Int} (h : ieqI a b = true) : a = b := by rw [ieqI_eq] at h; exact of_decide_eq_true h
theorem con_q_run : Con Tryz.prog id_q_run sp_q_run := mk_q_run trivial fun x y hx h => ⟨LF, by
  have h : cond (ieqI x.2.1 (Int.ofNat 0)) (some (S.run0 x.1, ())) none = some y := h
  cases hr : ieqI x.2.1 (Int.ofNat 0) with
  | false => rw [hr] at h; cases h
  | true =>
    rw [hr] at h
    have e : x.2.1 = Int.ofNat 0 := ieqI_true hr
    have e2 : F_q_run LF x.1 x.2.1 = F_q_run LF x.1 (Int.ofNat 0) := congrArg (F_q_run LF x.1) e
    exact e2.trans ((F_q_run_eq x.1 hx.1).trans h)⟩
theorem bl_wrap {s : ByteArray} {b : Int} (h : b ∈ byteList s) : IntKind.i64.wrap b = b := by
  have := bl_range h
  exact wrap64_in (by omega)
theorem F_q_number_eq (s : ByteArray) (hl : s.size < LF) (hp : 0 < s.size) : F_q_number LF s = some (S.number s, ()) := by
  have hbl : (byteList s).length < LF := by rw [bl_len]; exact hl
  have h10 : ∀ n : Int, G_q_number_10 LF s LF (Int.ofNat 0, n) = some (S.numGo (byteList s) n, ()) := fun n => by
    refine range0 (σ := Int) (R := Rt_q_number) (byteList s) (fun i n => (i, n)) (fun _ _ => True) (fun rest _ n => some (S.numGo rest n, ())) hbl (fun K n _ => ?_) (fun K i v rest n _ r h => ?_) n trivial
    · simp only [R_q_number_10]
      rw [bl_len, ilt_self]; rfl
    · have hlt : iltI (Int.ofNat i) (Int.ofNat s.size) = true := by have := r.ilt; rwa [bl_len] at this
      simp only [R_q_number_10, hlt, r.get, r.next, cond_true, bl_wrap r.mem, h _ trivial, S.numGo]
      generalize IntKind.i64.wrap (Int.sub (IntKind.i64.wrap (Int.add (IntKind.i64.wrap (Int.mul (Int.ofNat 10) n)) v)) (Int.ofNat 48)) = m
      rw [iltI_eq]
      simp only [oL]
      by_cases hm : 1099511627776 < m
      · rw [decide_eq_true hm, cond_true, if_pos hm]
      · rw [decide_eq_false hm, cond_false, if_neg hm]
  obtain ⟨b0, hb0⟩ : ∃ b, (byteList s)[0]? = some b := ⟨_, bl_get hp⟩
  have hj : jget (byteList s) (Int.ofNat 0) = some b0 := by rw [jget_nat]; exact hb0
  show G_q_number_2 LF s LF (Int.ofNat 0) = _
  refine (range1 (R := Rt_q_number) (byteList s) (fun rest i => some ((if rest.all S.isDig = false then ((0 : Int), (2 : Int)) else if (byteList s)[0]? = some 48 ∧ 1 < s.size then (0, 2) else S.numGo (byteList s) 0), ())) hbl (fun K => ?_) (fun K i v rest r h => ?_)).trans ?_
  · simp only [R_q_number_2, h10]
    rw [bl_len, ilt_self, cond_false, List.all_nil, if_neg (by simp), hj, hb0]
    simp only [ilt_nat, ieqI_eq]
    simp only [oL]
    by_cases h48 : b0 = 48
    · by_cases h1 : 1 < s.size
      · rw [decide_eq_true h48, decide_eq_true h1, if_pos ⟨by rw [h48], h1⟩]; rfl
      · rw [decide_eq_true h48, decide_eq_false h1, if_neg (fun h => h1 h.2)]; rfl
    · rw [decide_eq_false h48, if_neg (fun h => h48 (Option.some.inj h.1))]; rfl
  · have hlt : iltI (Int.ofNat i) (Int.ofNat s.size) = true := by have := r.ilt; rwa [bl_len] at this
    rw [List.all_cons]
    simp only [R_q_number_2, hlt, r.get, r.next, h, cond_true, iltI_eq]
    simp only [oL]
    unfold S.isDig
    by_cases a : v < 48
    · rw [decide_eq_true a, decide_eq_false (show ¬ 48 ≤ v by omega)]; rfl
    by_cases b : 57 < v
    · rw [decide_eq_false a, decide_eq_true b, decide_eq_true (show 48 ≤ v by omega), decide_eq_false (show ¬ v ≤ 57 by omega)]; rfl
    · rw [decide_eq_false a, decide_eq_false b, decide_eq_true (show 48 ≤ v by omega), decide_eq_true (show v ≤ 57 by omega)]; rfl
  · rfl
theorem con_q_number : Con Tryz.prog id_q_number sp_q_number := mk_q_number trivial fun x y hx h => ⟨LF, by
  have h : cond (Nat.blt 0 (ByteArray.size x.1)) (some (S.number x.1, ())) none = some y := h
  cases hr : Nat.blt 0 (ByteArray.size x.1) with
  | false => rw [hr] at h; cases h
  | true => rw [hr] at h; exact (F_q_number_eq x.1 hx.1 (by simpa using hr)).trans h⟩

theorem F_q_word_eq (s : ByteArray) (hl : s.size < LF) : F_q_word LF s = some (S.word s, ()) := by
  have hbl : (byteList s).length < LF := by rw [bl_len]; exact hl
  obtain ⟨W, hW⟩ : ∃ W : Bool → Bool → Int × Int, ∀ lo hi, W lo hi = if (lo && hi) = true then (0, 2) else if 20 < s.size then (0, 3) else if lo = true then (1, 0) else (2, 0) := ⟨_, fun _ _ => rfl⟩
  have h8 : G_q_word_8 LF s LF (Int.ofNat 0, false, false) = some (W ((byteList s).any S.isSmall) ((byteList s).any S.isCap), ()) := by
    refine (range0 (σ := Bool × Bool) (R := Rt_q_word) (byteList s) (fun i q => (i, q)) (fun _ _ => True) (fun rest _ q => some (W (q.2 || rest.any S.isSmall) (q.1 || rest.any S.isCap), ())) hbl (fun K q _ => ?_) (fun K i v rest q _ r h => ?_) (false, false) trivial).trans ?_
    · simp only [R_q_word_8]
      rw [bl_len, ilt_self, cond_false]
      simp only [List.any_nil, Bool.or_false, ilt_nat, hW]
      simp only [oL]
      obtain ⟨hi, lo⟩ := q
      by_cases h20 : 20 < s.size
      · simp only [decide_eq_true h20, if_pos h20]; cases hi <;> cases lo <;> rfl
      · simp only [decide_eq_false h20, if_neg h20]; cases hi <;> cases lo <;> rfl
    · have hlt : iltI (Int.ofNat i) (Int.ofNat s.size) = true := by have := r.ilt; rwa [bl_len] at this
      have hh := fun hi lo => h (hi, lo) trivial
      simp only [R_q_word_8, hlt, r.get, r.next, cond_true, hh, iltI_eq]
      simp only [oL, List.any_cons]
      have e : ∀ a b : Int, decide (a ≤ b) = !decide (b < a) := fun a b => by
        by_cases h : b < a
        · rw [decide_eq_true h, decide_eq_false (by omega)]; rfl
        · rw [decide_eq_false h, decide_eq_true (by omega)]; rfl
      have e1 : S.isSmall v = (!decide (v < 97) && !decide (122 < v)) := by simp only [S.isSmall, e]
      have e2 : S.isCap v = (!decide (v < 65) && !decide (90 < v)) := by simp only [S.isCap, e]
      rw [e1, e2]
      generalize List.any rest S.isSmall = zs
      generalize List.any rest S.isCap = zc
      obtain ⟨hi, lo⟩ := q
      cases decide (v < 97) <;> cases decide (122 < v) <;> cases decide (v < 65) <;> cases decide (90 < v) <;> cases hi <;> cases lo <;> rfl
    · simp only [Bool.false_or]
  rw [hW] at h8
  simp only [F_q_word, R_q_word_in, S.word]
  show cond (S.has S.keywords s) _ (cond (S.has S.wordsT s) _ (cond (S.has S.smallWords s) _ (G_q_word_8 LF s LF (Int.ofNat 0, false, false)))) = _
  rw [h8]
  cases S.has S.keywords s with
  | true => rfl
  | false =>
    cases S.has S.wordsT s with
    | true => rfl
    | false =>
      cases S.has S.smallWords s with
      | true => rfl
      | false => rfl
theorem con_q_word : Con Tryz.prog id_q_word sp_q_word := mk_q_word ⟨con_q_has, trivial⟩ fun x y hx h => ⟨LF, (F_q_word_eq x.1 hx.1).trans h⟩
theorem F_q_Shape_eq (lf : Nat) (s : ByteArray) : F_q_Shape lf s = some (S.shape s, ()) := by
  simp only [F_q_Shape, R_q_Shape_in, S.shape]
  show cond (S.has S.signs s) _ _ = _
  cases S.has S.signs s with
  | true => rfl
  | false =>
    rw [cond_false, if_neg (by simp), ieq_nat]
    by_cases h0 : s.size = 0
    · rw [decide_eq_true h0, cond_true]
      have : (byteList s)[0]? = none := by rw [List.getElem?_eq_none_iff, bl_len, h0]; exact Nat.le_refl _
      rw [this]; rfl
    rw [decide_eq_false h0, cond_false]
    have hb := bl_get (s := s) (i := 0) (by omega)
    have hj : jget (byteList s) (Int.ofNat 0) = some ((s[0]'(by omega)).toNat : Int) := by rw [jget_nat]; exact hb
    generalize ((s[0]'(by omega)).toNat : Int) = b0 at hb hj
    rw [hj, hb]
    simp only [iltI_eq, ieqI_eq]
    simp only [oL]
    by_cases h1 : S.run0 s < Int.ofNat s.size
    · rw [decide_eq_true h1, if_pos h1]; rfl
    rw [decide_eq_false h1, if_neg h1, cond_false]
    by_cases h2 : b0 = 95
    · rw [decide_eq_true h2, if_pos h2]; rfl
    rw [decide_eq_false h2, if_neg h2, cond_false]
    have hn : Nat.ble 1 s.size = true := Nat.ble_eq_true_of_le (by omega)
    rw [hn]
    simp only [cond_true]
    have hd : S.isDig b0 = (!decide (b0 < 48) && !decide (57 < b0)) := by
      unfold S.isDig
      rw [Bool.eq_iff_iff]
      simp only [Bool.and_eq_true, decide_eq_true_eq, Bool.not_eq_true', decide_eq_false_iff_not]
      omega
    rw [hd]
    cases decide (b0 < 48) with
    | true => rfl
    | false =>
      cases decide (57 < b0) with
      | true => rfl
      | false =>
        by_cases h5 : (S.number s).2 = 0
        · rw [decide_eq_true h5, if_pos (show (!false && !false) = true from rfl), if_pos h5]; rfl
        · rw [decide_eq_false h5, if_pos (show (!false && !false) = true from rfl), if_neg h5]; rfl
theorem con_q_Shape : Con Tryz.prog id_q_Shape sp_q_Shape := mk_q_Shape ⟨con_q_has, con_q_run, con_q_number, con_q_word, trivial⟩ fun x y hx h => ⟨LF, (F_q_Shape_eq _ _).trans h⟩
end Go.Proofs.YtcnhjofpmpipfaaGreat
end

/- The reference's classed is the package's class. -/
section
set_option linter.unusedVariables false
set_option maxRecDepth 100000
namespace Go.Proofs.YtcnhjofpmpipfaaGreat
open Go Go.Sx Go.RowKit Go.Jx
theorem has_iff (l : List ByteArray) (s : ByteArray) : S.has l s = true ↔ s ∈ l := by
  unfold S.has
  rw [List.any_eq_true]
  exact ⟨fun ⟨x, hx, h⟩ => by rw [← of_decide_eq_true h]; exact hx, fun h => ⟨s, h, decide_eq_true rfl⟩⟩
theorem tw_all {α : Type} (p : α → Bool) : ∀ l : List α, (l.takeWhile p).length < l.length ↔ ¬ ∀ x ∈ l, p x = true
  | [] => by simp
  | x :: l => by
    have ih := tw_all p l
    rw [List.takeWhile_cons]
    cases hx : p x with
    | true =>
      rw [if_pos rfl]
      simp only [List.length_cons, Nat.add_lt_add_iff_right, ih, List.mem_cons, forall_eq_or_imp, hx, true_and]
    | false =>
      rw [if_neg (by simp)]
      simp only [List.length_nil, List.length_cons, List.mem_cons, forall_eq_or_imp, hx]
      constructor
      · intro _ h; exact absurd h.1 (by simp)
      · intro _; omega
theorem run_iff (s : ByteArray) : S.run0 s < Int.ofNat s.size ↔ ¬ ∀ b ∈ byteList s, S.isPart b = true := by
  rw [← tw_all, bl_len]
  unfold S.run0
  exact Int.ofNat_lt
theorem signs_head : ∀ w ∈ S.signs, ∀ b, (byteList w)[0]? = some b → S.isCap b = false := by decide +kernel
theorem keys_low : ∀ w ∈ S.keywords, (byteList w).any S.isSmall = true := by decide +kernel
theorem words_low : ∀ w ∈ S.wordsT, (byteList w).any S.isSmall = true := by decide +kernel
theorem small_low : ∀ w ∈ S.smallWords, (byteList w).any S.isSmall = true := by decide +kernel
theorem shape_class (s : ByteArray) : ((S.shape s).2 = 0 ∧ (S.shape s).1 = 2) ↔ s.size ≤ 20 ∧ (∃ b, (byteList s)[0]? = some b ∧ 65 ≤ b ∧ b ≤ 90) ∧ (∀ b ∈ byteList s, S.isPart b = true ∧ S.isSmall b = false) := by
  constructor
  · intro h
    unfold S.shape at h
    split at h
    · exact absurd h.2 (by simp)
    split at h
    · exact absurd h.1 (by simp)
    rename_i b hb
    split at h
    · exact absurd h.1 (by simp)
    rename_i hrun
    have hpart := Decidable.not_not.1 (fun hn => hrun ((run_iff s).2 hn))
    split at h
    · exact absurd h.1 (by simp)
    rename_i h95
    split at h
    · split at h
      · exact absurd h.2 (by simp)
      · rename_i hn; exact absurd h.1 hn
    rename_i hdig
    unfold S.word at h
    split at h
    · exact absurd h.2 (by simp)
    split at h
    · exact absurd h.1 (by simp)
    split at h
    · exact absurd h.1 (by simp)
    split at h
    · exact absurd h.1 (by simp)
    rename_i h20
    split at h
    · exact absurd h.2 (by simp)
    rename_i hlow
    have hlow' : ∀ c ∈ byteList s, S.isSmall c = false := fun c hc => by
      cases hs : S.isSmall c with
      | false => rfl
      | true => exact absurd (List.any_eq_true.2 ⟨c, hc, hs⟩) hlow
    have hm := List.mem_of_getElem? hb
    have hcap : S.isCap b = true := by
      have := hpart b hm
      unfold S.isPart at this
      rw [hlow' b hm, Bool.false_or] at this
      simp only [Bool.or_eq_true, decide_eq_true_eq] at this
      rcases this with (h | h) | h
      · exact h
      · exact absurd h hdig
      · exact absurd h h95
    unfold S.isCap at hcap
    simp only [Bool.and_eq_true, decide_eq_true_eq] at hcap
    exact ⟨by omega, ⟨b, hb, hcap.1, hcap.2⟩, fun c hc => ⟨hpart c hc, hlow' c hc⟩⟩
  · rintro ⟨h20, ⟨b, hb, c1, c2⟩, hall⟩
    have hcap : S.isCap b = true := by unfold S.isCap; simp; omega
    have hs1 : ¬ S.has S.signs s = true := fun h => by
      have := signs_head s ((has_iff _ _).1 h) b hb
      rw [hcap] at this; cases this
    have hlow : (byteList s).any S.isSmall = false := by
      rw [List.any_eq_false]
      exact fun c hc => by rw [(hall c hc).2]; simp
    have hno : ∀ l : List ByteArray, (∀ w ∈ l, (byteList w).any S.isSmall = true) → S.has l s = false := fun l hl => by
      cases hh : S.has l s with
      | false => rfl
      | true => have := hl s ((has_iff _ _).1 hh); rw [hlow] at this; cases this
    have hrun : ¬ S.run0 s < Int.ofNat s.size := fun h => (run_iff s).1 h fun c hc => (hall c hc).1
    have hdig : ¬ S.isDig b = true := by unfold S.isDig; simp; omega
    unfold S.shape S.word
    rw [if_neg hs1, hb]
    simp only
    rw [if_neg hrun, if_neg (by omega), if_neg hdig, hno _ keys_low, hno _ words_low, hno _ small_low, hlow]
    rw [if_neg (by simp), if_neg (by simp), if_neg (by simp), if_neg (by omega), if_neg (by simp)]
    exact ⟨rfl, rfl⟩
theorem F_r_classed_eq (lf : Nat) (s : ByteArray) : F_r_classed lf s = some (S.class_ s, ()) := by
  have key : ∀ z : Bool, (z = true ↔ S.class_ s = true) → (some (z, ()) : Option Rt_r_classed) = some (S.class_ s, ()) := fun z h => by rw [Bool.eq_iff_iff.2 h]
  have hw : s ∈ S.classWords ↔ (s = S.lit [73, 78, 84, 69, 71, 69, 82] ∨ s = S.lit [66, 79, 79, 76, 69, 65, 78] ∨ s = S.lit [65, 78, 89] ∨ s = S.lit [78, 79, 78, 69]) := by
    simp only [S.classWords, List.mem_cons, List.not_mem_nil, or_false]; exact Iff.rfl
  have hs := shape_class s
  have hc := class_iff s
  simp only [F_r_classed, R_r_classed_in, ieqI_eq, keqS]
  simp only [oL]
  by_cases e : ¬ (S.shape s).2 = 0
  · rw [decide_eq_false e]
    exact key _ ⟨fun h => (by cases h), fun h => absurd (hs.2 ⟨(hc.1 h).1, (hc.1 h).2.1, (hc.1 h).2.2.1⟩).1 e⟩
  have e := Decidable.not_not.1 e
  rw [decide_eq_true e, cond_true]
  by_cases k : ¬ (S.shape s).1 = 2
  · rw [decide_eq_false k]
    exact key _ ⟨fun h => (by cases h), fun h => absurd (hs.2 ⟨(hc.1 h).1, (hc.1 h).2.1, (hc.1 h).2.2.1⟩).2 k⟩
  have k := Decidable.not_not.1 k
  rw [decide_eq_true k, cond_true]
  have hh := hs.1 ⟨e, k⟩
  have hcl : S.class_ s = true ↔ ¬ s ∈ S.classWords := ⟨fun h => (hc.1 h).2.2.2, fun h => hc.2 ⟨hh.1, hh.2.1, hh.2.2, h⟩⟩
  by_cases w1 : s = S.lit [73, 78, 84, 69, 71, 69, 82]
  · rw [decide_eq_true w1]
    exact key _ ⟨fun h => (by cases h), fun h => absurd (hw.2 (.inl w1)) (hcl.1 h)⟩
  rw [decide_eq_false w1]
  by_cases w2 : s = S.lit [66, 79, 79, 76, 69, 65, 78]
  · rw [decide_eq_true w2]
    exact key _ ⟨fun h => (by cases h), fun h => absurd (hw.2 (.inr (.inl w2))) (hcl.1 h)⟩
  rw [decide_eq_false w2]
  by_cases w3 : s = S.lit [65, 78, 89]
  · rw [decide_eq_true w3]
    exact key _ ⟨fun h => (by cases h), fun h => absurd (hw.2 (.inr (.inr (.inl w3)))) (hcl.1 h)⟩
  rw [decide_eq_false w3]
  by_cases w4 : s = S.lit [78, 79, 78, 69]
  · rw [decide_eq_true w4]
    exact key _ ⟨fun h => (by cases h), fun h => absurd (hw.2 (.inr (.inr (.inr w4)))) (hcl.1 h)⟩
  rw [decide_eq_false w4]
  refine key _ ⟨fun _ => hcl.2 fun h => ?_, fun _ => rfl⟩
  rcases hw.1 h with h | h | h | h
  · exact w1 h
  · exact w2 h
  · exact w3 h
  · exact w4 h
theorem con_r_classed : Con Tryz.prog id_r_classed sp_r_classed := mk_r_classed ⟨con_q_Shape, trivial⟩ fun x y hx h => ⟨LF, (F_r_classed_eq _ _).trans h⟩
theorem con_rCheckForms : Con Tryz.prog id_r_CheckForms sp_r_CheckForms := con_r_CheckForms con_r_classed
theorem con_rCheck : Con Tryz.prog id_r_Check sp_r_Check := con_r_Check con_rCheckForms
end Go.Proofs.YtcnhjofpmpipfaaGreat
end

/- What the reference's functions about rules compute. -/
section
set_option linter.unusedVariables false
noncomputable section
namespace Go.Proofs.YtcnhjofpmpipfaaGreat
open Go Go.Sx Go.RowKit Go.Jx
namespace S
def rfits (l : List DRule) (g : DGive) (a b : DCol) : Bool :=
  if g.2.1 = 1 then decide (a.2.1 = b.2.1) && (decide (¬ b.2.1 = 3) || rleads l a b)
  else if g.2.1 = 2 then decide (a.2.1 = 2) && decide (b.2.1 = 1)
  else if g.2.1 = 3 then decide (a.2.1 = 1) && decide (b.2.1 = 2)
  else if g.2.1 = 4 then decide (a.2.1 = 1) && decide (b.2.1 = 1)
  else if g.2.1 = 5 then decide (a.2.1 = 3) && (decide (b.2.1 = 3) && rleads l a b)
  else if g.2.1 = 6 then decide (¬ b.2.1 = 3)
  else decide (b.2.1 = 3)
def fromOf (g : DGive) (cols : List DCol) : DCol := if sourced g = true then at_ zCol cols (col cols g.1) else zCol
def srcOK (g : DGive) (cols : List DCol) : Bool := !sourced g || decide (0 ≤ col cols g.1)
def rgive (l : List DRule) (g : DGive) (cols : List DCol) (b : DCol) : Int :=
  if sourced g = true ∧ col cols g.1 < 0 then 4
  else if within g.2.1 1 7 = false ∨ numbered g b = false then 1
  else unlessE (rfits l g (fromOf g cols) b) 8
end S
def sp_r_typed : Sm := ⟨[.list cRule, cForm, cGive, cCol], [(false, .bool)], fun x => cond (S.srcOK x.2.2.1 x.2.1.2) (some (S.rfits x.1 x.2.2.1 (S.fromOf x.2.2.1 x.2.1.2) x.2.2.2.1, ())) none⟩
def sp_r_given : Sm := ⟨[.list cRule, cForm, cGive, cCol], [(false, .int .i64)], fun x => some (S.rgive x.1 x.2.2.1 x.2.1.2 x.2.2.2.1, ())⟩
end Go.Proofs.YtcnhjofpmpipfaaGreat

end
end

/- Made by program: plain forms of functions. -/
section
set_option linter.unusedVariables false
set_option maxRecDepth 100000
noncomputable section
namespace Go.Proofs.YtcnhjofpmpipfaaGreat
open Go Go.Sx Go.RowKit Go.Jx
def nm_r_leads : Nat → Option Nm := fun k => none
def st_r_leads : Nat → Bool := fun k => false
def hd_r_leads : Nat → Bool := fun k => false
abbrev Rt_r_leads : Type := Bool × Unit
def sml_r_leads : List (Nat × Sm) := [(143, sp_r_target)]
def hxl_r_leads : List (Nat × Hx) := []
def cl_r_leads (R : Type) (lf : Nat) : ClK R := icallK Tryz.prog ttT.get ftT.get (nm1 126 nm_r_leads) (smL sml_r_leads) (hxL hxl_r_leads) lf 20 R
abbrev id_r_leads : Nat := 126
def R_r_leads_in (lf : Nat) (x1 : (List DRule)) (x2 : DCol) (x3 : DCol) : Option Rt_r_leads := (cond (keqS x3.2.2 (S.lit [65, 78, 89])) (some (Bool.true, ())) (cond (Bool.not (keqS x2.2.2 (S.lit [65, 78, 89]))) (some ((keqS (Go.Proofs.YtcnhjofpmpipfaaGreat.S.ruleOf x1 x2.2.2).1.2.1 x3.2.2), ())) (some (Bool.false, ()))))
theorem in_r_leads (g : ElA [(.list cRule), cCol, cCol] → Option Rt_r_leads) (J : Nat → List Nat → NRes → Option Rt_r_leads) (lf : Nat) (x1 : (List DRule)) (x2 : DCol) (x3 : DCol) : icodeT Tryz.prog ttT.get nm_r_leads fi126.nt (cl_r_leads _ lf) lf st_r_leads J fi126.body [] (argGo (argV [(.list cRule), cCol, cCol] (x1, x2, x3, ())) 0 .leaf) S0 [] (lastK ttT.get fi126 ⟨[(.list cRule), cCol, cCol], [(false, .bool)], g⟩) = R_r_leads_in lf x1 x2 x3 := by kernel_rfl
theorem nd_r_leads : (regs fi126.body).Nodup := by decide +kernel
theorem ok_r_leads : okC nm_r_leads st_r_leads hd_r_leads fi126.body none = true := by kernel_rfl
def A_r_leads (g : ElA [(.list cRule), cCol, cCol] → Option Rt_r_leads) (lf : Nat) : Nat → List Nat → NRes → Option Rt_r_leads := atN Tryz.prog ttT.get nm_r_leads fi126 ⟨[(.list cRule), cCol, cCol], [(false, .bool)], g⟩ (cl_r_leads _ lf) lf hd_r_leads
def F_r_leads (lf : Nat) (x1 : (List DRule)) (x2 : DCol) (x3 : DCol) : Option Rt_r_leads := R_r_leads_in lf x1 x2 x3
theorem run_r_leads (g : ElA [(.list cRule), cCol, cCol] → Option Rt_r_leads) (lf : Nat) (x1 : (List DRule)) (x2 : DCol) (x3 : DCol) : icodeT Tryz.prog ttT.get nm_r_leads fi126.nt (cl_r_leads _ lf) lf st_r_leads (A_r_leads g lf) fi126.body [] (argGo (argV [(.list cRule), cCol, cCol] (x1, x2, x3, ())) 0 .leaf) S0 [] (lastK ttT.get fi126 ⟨[(.list cRule), cCol, cCol], [(false, .bool)], g⟩) = F_r_leads lf x1 x2 x3 := by
    refine (in_r_leads g (A_r_leads g lf) lf x1 x2 x3).trans ?_
    rfl
theorem hxs_r_leads : HxsOK Tryz.prog hxl_r_leads := trivial
theorem mk_r_leads {g : ElA [(.list cRule), cCol, cCol] → Option Rt_r_leads} (hsm : SmOK Tryz.prog sml_r_leads) (hg : ∀ (x : ElA [(.list cRule), cCol, cCol]) (y : Rt_r_leads), WfA [(.list cRule), cCol, cCol] x → g x = some y → ∃ lf, F_r_leads lf x.1 x.2.1 x.2.2.1 = some y) : Con Tryz.prog 126 ⟨[(.list cRule), cCol, cCol], [(false, .bool)], g⟩ :=
  conT (nmf := nm_r_leads) (sml := sml_r_leads) (hxl := hxl_r_leads) (st := st_r_leads) (hd := hd_r_leads) 20 mixed ttOK ftOK hsm hxs_r_leads cal126 rfl rfl (by kernel_rfl) (fun x => by kernel_rfl) nd_r_leads ok_r_leads fun x y hx hy => by
    obtain ⟨lf, h⟩ := hg x y hx hy
    exact ⟨lf, (run_r_leads g lf x.1 x.2.1 x.2.2.1).trans h⟩
def nm_r_numbered : Nat → Option Nm := fun k => none
def st_r_numbered : Nat → Bool := fun k => false
def hd_r_numbered : Nat → Bool := fun k => false
abbrev Rt_r_numbered : Type := Bool × Unit
def sml_r_numbered : List (Nat × Sm) := []
def hxl_r_numbered : List (Nat × Hx) := []
def cl_r_numbered (R : Type) (lf : Nat) : ClK R := icallK Tryz.prog ttT.get ftT.get (nm1 95 nm_r_numbered) (smL sml_r_numbered) (hxL hxl_r_numbered) lf 20 R
abbrev id_r_numbered : Nat := 95
def R_r_numbered_in (lf : Nat) (x1 : DGive) (x2 : DCol) : Option Rt_r_numbered := (cond (ieqI x1.2.1 (Int.ofNat 4)) (cond (Bool.not (iltI x1.2.2 (Int.negSucc 1099511627775))) (some ((Bool.not (iltI (Int.ofNat 1099511627776) x1.2.2)), ())) (some (Bool.false, ()))) (cond (ieqI x1.2.1 (Int.ofNat 6)) (cond (ieqI x2.2.1 (Int.ofNat 2)) (cond (keqS x1.1 (S.lit [])) (cond (Bool.not (iltI x1.2.2 (Int.ofNat 0))) (some ((Bool.not (iltI (Int.ofNat 1) x1.2.2)), ())) (some (Bool.false, ()))) (some (Bool.false, ()))) (cond (keqS x1.1 (S.lit [])) (cond (Bool.not (iltI x1.2.2 (Int.negSucc 1099511627775))) (some ((Bool.not (iltI (Int.ofNat 1099511627776) x1.2.2)), ())) (some (Bool.false, ()))) (some (Bool.false, ())))) (cond (ieqI x1.2.1 (Int.ofNat 7)) (cond (keqS x1.1 (S.lit [])) (some ((ieqI x1.2.2 (Int.ofNat 0)), ())) (some (Bool.false, ()))) (some ((ieqI x1.2.2 (Int.ofNat 0)), ())))))
theorem in_r_numbered (g : ElA [cGive, cCol] → Option Rt_r_numbered) (J : Nat → List Nat → NRes → Option Rt_r_numbered) (lf : Nat) (x1 : DGive) (x2 : DCol) : icodeT Tryz.prog ttT.get nm_r_numbered fi95.nt (cl_r_numbered _ lf) lf st_r_numbered J fi95.body [] (argGo (argV [cGive, cCol] (x1, x2, ())) 0 .leaf) S0 [] (lastK ttT.get fi95 ⟨[cGive, cCol], [(false, .bool)], g⟩) = R_r_numbered_in lf x1 x2 := by kernel_rfl
theorem nd_r_numbered : (regs fi95.body).Nodup := by decide +kernel
theorem ok_r_numbered : okC nm_r_numbered st_r_numbered hd_r_numbered fi95.body none = true := by kernel_rfl
def A_r_numbered (g : ElA [cGive, cCol] → Option Rt_r_numbered) (lf : Nat) : Nat → List Nat → NRes → Option Rt_r_numbered := atN Tryz.prog ttT.get nm_r_numbered fi95 ⟨[cGive, cCol], [(false, .bool)], g⟩ (cl_r_numbered _ lf) lf hd_r_numbered
def F_r_numbered (lf : Nat) (x1 : DGive) (x2 : DCol) : Option Rt_r_numbered := R_r_numbered_in lf x1 x2
theorem run_r_numbered (g : ElA [cGive, cCol] → Option Rt_r_numbered) (lf : Nat) (x1 : DGive) (x2 : DCol) : icodeT Tryz.prog ttT.get nm_r_numbered fi95.nt (cl_r_numbered _ lf) lf st_r_numbered (A_r_numbered g lf) fi95.body [] (argGo (argV [cGive, cCol] (x1, x2, ())) 0 .leaf) S0 [] (lastK ttT.get fi95 ⟨[cGive, cCol], [(false, .bool)], g⟩) = F_r_numbered lf x1 x2 := by
    refine (in_r_numbered g (A_r_numbered g lf) lf x1 x2).trans ?_
    rfl
theorem hxs_r_numbered : HxsOK Tryz.prog hxl_r_numbered := trivial
theorem mk_r_numbered {g : ElA [cGive, cCol] → Option Rt_r_numbered} (hsm : SmOK Tryz.prog sml_r_numbered) (hg : ∀ (x : ElA [cGive, cCol]) (y : Rt_r_numbered), WfA [cGive, cCol] x → g x = some y → ∃ lf, F_r_numbered lf x.1 x.2.1 = some y) : Con Tryz.prog 95 ⟨[cGive, cCol], [(false, .bool)], g⟩ :=
  conT (nmf := nm_r_numbered) (sml := sml_r_numbered) (hxl := hxl_r_numbered) (st := st_r_numbered) (hd := hd_r_numbered) 20 mixed ttOK ftOK hsm hxs_r_numbered cal95 rfl rfl (by kernel_rfl) (fun x => by kernel_rfl) nd_r_numbered ok_r_numbered fun x y hx hy => by
    obtain ⟨lf, h⟩ := hg x y hx hy
    exact ⟨lf, (run_r_numbered g lf x.1 x.2.1).trans h⟩
def nm_r_typed : Nat → Option Nm := fun k => none
def st_r_typed : Nat → Bool := fun k => false
def hd_r_typed : Nat → Bool := fun k => false
abbrev Rt_r_typed : Type := Bool × Unit
def sml_r_typed : List (Nat × Sm) := [(53, sp_r_column), (126, sp_r_leads)]
def hxl_r_typed : List (Nat × Hx) := []
def cl_r_typed (R : Type) (lf : Nat) : ClK R := icallK Tryz.prog ttT.get ftT.get (nm1 96 nm_r_typed) (smL sml_r_typed) (hxL hxl_r_typed) lf 20 R
abbrev id_r_typed : Nat := 96
def R_r_typed_in (lf : Nat) (x1 : (List DRule)) (x2 : DForm) (x3 : DGive) (x4 : DCol) : Option Rt_r_typed := (cond (Bool.not (iltI x3.2.1 (Int.ofNat 1))) (cond (Bool.not (iltI (Int.ofNat 5) x3.2.1)) (match (jget x2.2 (Go.Proofs.YtcnhjofpmpipfaaGreat.S.col x2.2 x3.1)) with | .none  => none | .some v0 => (cond (ieqI x3.2.1 (Int.ofNat 1)) (cond (ieqI v0.2.1 x4.2.1) (cond (Bool.not (ieqI x4.2.1 (Int.ofNat 3))) (some (Bool.true, ())) (some ((Go.Proofs.YtcnhjofpmpipfaaGreat.S.rleads x1 (v0.1, (v0.2.1, v0.2.2)) (x4.1, (x4.2.1, x4.2.2))), ()))) (some (Bool.false, ()))) (cond (ieqI x3.2.1 (Int.ofNat 2)) (cond (ieqI v0.2.1 (Int.ofNat 2)) (some ((ieqI x4.2.1 (Int.ofNat 1)), ())) (some (Bool.false, ()))) (cond (ieqI x3.2.1 (Int.ofNat 3)) (cond (ieqI v0.2.1 (Int.ofNat 1)) (some ((ieqI x4.2.1 (Int.ofNat 2)), ())) (some (Bool.false, ()))) (cond (ieqI x3.2.1 (Int.ofNat 4)) (cond (ieqI v0.2.1 (Int.ofNat 1)) (some ((ieqI x4.2.1 (Int.ofNat 1)), ())) (some (Bool.false, ()))) (cond (ieqI x3.2.1 (Int.ofNat 5)) (cond (ieqI v0.2.1 (Int.ofNat 3)) (cond (ieqI x4.2.1 (Int.ofNat 3)) (some ((Go.Proofs.YtcnhjofpmpipfaaGreat.S.rleads x1 (v0.1, (v0.2.1, v0.2.2)) (x4.1, (x4.2.1, x4.2.2))), ())) (some (Bool.false, ()))) (some (Bool.false, ()))) (cond (ieqI x3.2.1 (Int.ofNat 6)) (some ((Bool.not (ieqI x4.2.1 (Int.ofNat 3))), ())) (some ((ieqI x4.2.1 (Int.ofNat 3)), ()))))))))) (cond (ieqI x3.2.1 (Int.ofNat 1)) (cond (ieqI (Int.ofNat 0) x4.2.1) (cond (Bool.not (ieqI x4.2.1 (Int.ofNat 3))) (some (Bool.true, ())) (some ((Go.Proofs.YtcnhjofpmpipfaaGreat.S.rleads x1 ((S.lit []), ((Int.ofNat 0), (S.lit []))) (x4.1, (x4.2.1, x4.2.2))), ()))) (some (Bool.false, ()))) (cond (ieqI x3.2.1 (Int.ofNat 2)) (some (Bool.false, ())) (cond (ieqI x3.2.1 (Int.ofNat 3)) (some (Bool.false, ())) (cond (ieqI x3.2.1 (Int.ofNat 4)) (some (Bool.false, ())) (cond (ieqI x3.2.1 (Int.ofNat 5)) (some (Bool.false, ())) (cond (ieqI x3.2.1 (Int.ofNat 6)) (some ((Bool.not (ieqI x4.2.1 (Int.ofNat 3))), ())) (some ((ieqI x4.2.1 (Int.ofNat 3)), ()))))))))) (cond (ieqI x3.2.1 (Int.ofNat 1)) (cond (ieqI (Int.ofNat 0) x4.2.1) (cond (Bool.not (ieqI x4.2.1 (Int.ofNat 3))) (some (Bool.true, ())) (some ((Go.Proofs.YtcnhjofpmpipfaaGreat.S.rleads x1 ((S.lit []), ((Int.ofNat 0), (S.lit []))) (x4.1, (x4.2.1, x4.2.2))), ()))) (some (Bool.false, ()))) (cond (ieqI x3.2.1 (Int.ofNat 2)) (some (Bool.false, ())) (cond (ieqI x3.2.1 (Int.ofNat 3)) (some (Bool.false, ())) (cond (ieqI x3.2.1 (Int.ofNat 4)) (some (Bool.false, ())) (cond (ieqI x3.2.1 (Int.ofNat 5)) (some (Bool.false, ())) (cond (ieqI x3.2.1 (Int.ofNat 6)) (some ((Bool.not (ieqI x4.2.1 (Int.ofNat 3))), ())) (some ((ieqI x4.2.1 (Int.ofNat 3)), ())))))))))
theorem in_r_typed (g : ElA [(.list cRule), cForm, cGive, cCol] → Option Rt_r_typed) (J : Nat → List Nat → NRes → Option Rt_r_typed) (lf : Nat) (x1 : (List DRule)) (x2 : DForm) (x3 : DGive) (x4 : DCol) : icodeT Tryz.prog ttT.get nm_r_typed fi96.nt (cl_r_typed _ lf) lf st_r_typed J fi96.body [] (argGo (argV [(.list cRule), cForm, cGive, cCol] (x1, x2, x3, x4, ())) 0 .leaf) S0 [] (lastK ttT.get fi96 ⟨[(.list cRule), cForm, cGive, cCol], [(false, .bool)], g⟩) = R_r_typed_in lf x1 x2 x3 x4 := by kernel_rfl
theorem nd_r_typed : (regs fi96.body).Nodup := by decide +kernel
theorem ok_r_typed : okC nm_r_typed st_r_typed hd_r_typed fi96.body none = true := by kernel_rfl
def A_r_typed (g : ElA [(.list cRule), cForm, cGive, cCol] → Option Rt_r_typed) (lf : Nat) : Nat → List Nat → NRes → Option Rt_r_typed := atN Tryz.prog ttT.get nm_r_typed fi96 ⟨[(.list cRule), cForm, cGive, cCol], [(false, .bool)], g⟩ (cl_r_typed _ lf) lf hd_r_typed
def F_r_typed (lf : Nat) (x1 : (List DRule)) (x2 : DForm) (x3 : DGive) (x4 : DCol) : Option Rt_r_typed := R_r_typed_in lf x1 x2 x3 x4
theorem run_r_typed (g : ElA [(.list cRule), cForm, cGive, cCol] → Option Rt_r_typed) (lf : Nat) (x1 : (List DRule)) (x2 : DForm) (x3 : DGive) (x4 : DCol) : icodeT Tryz.prog ttT.get nm_r_typed fi96.nt (cl_r_typed _ lf) lf st_r_typed (A_r_typed g lf) fi96.body [] (argGo (argV [(.list cRule), cForm, cGive, cCol] (x1, x2, x3, x4, ())) 0 .leaf) S0 [] (lastK ttT.get fi96 ⟨[(.list cRule), cForm, cGive, cCol], [(false, .bool)], g⟩) = F_r_typed lf x1 x2 x3 x4 := by
    refine (in_r_typed g (A_r_typed g lf) lf x1 x2 x3 x4).trans ?_
    rfl
theorem hxs_r_typed : HxsOK Tryz.prog hxl_r_typed := trivial
theorem mk_r_typed {g : ElA [(.list cRule), cForm, cGive, cCol] → Option Rt_r_typed} (hsm : SmOK Tryz.prog sml_r_typed) (hg : ∀ (x : ElA [(.list cRule), cForm, cGive, cCol]) (y : Rt_r_typed), WfA [(.list cRule), cForm, cGive, cCol] x → g x = some y → ∃ lf, F_r_typed lf x.1 x.2.1 x.2.2.1 x.2.2.2.1 = some y) : Con Tryz.prog 96 ⟨[(.list cRule), cForm, cGive, cCol], [(false, .bool)], g⟩ :=
  conT (nmf := nm_r_typed) (sml := sml_r_typed) (hxl := hxl_r_typed) (st := st_r_typed) (hd := hd_r_typed) 20 mixed ttOK ftOK hsm hxs_r_typed cal96 rfl rfl (by kernel_rfl) (fun x => by kernel_rfl) nd_r_typed ok_r_typed fun x y hx hy => by
    obtain ⟨lf, h⟩ := hg x y hx hy
    exact ⟨lf, (run_r_typed g lf x.1 x.2.1 x.2.2.1 x.2.2.2.1).trans h⟩
def nm_r_given : Nat → Option Nm := fun k => none
def st_r_given : Nat → Bool := fun k => false
def hd_r_given : Nat → Bool := fun k => false
abbrev Rt_r_given : Type := Int × Unit
def sml_r_given : List (Nat × Sm) := [(53, sp_r_column), (95, sp_r_numbered), (96, sp_r_typed)]
def hxl_r_given : List (Nat × Hx) := []
def cl_r_given (R : Type) (lf : Nat) : ClK R := icallK Tryz.prog ttT.get ftT.get (nm1 55 nm_r_given) (smL sml_r_given) (hxL hxl_r_given) lf 20 R
abbrev id_r_given : Nat := 55
def R_r_given_in (lf : Nat) (x1 : (List DRule)) (x2 : DForm) (x3 : DGive) (x4 : DCol) : Option Rt_r_given := (cond (Bool.not (iltI x3.2.1 (Int.ofNat 1))) (cond (Bool.not (iltI (Int.ofNat 5) x3.2.1)) (cond (iltI (Go.Proofs.YtcnhjofpmpipfaaGreat.S.col x2.2 x3.1) (Int.ofNat 0)) (some ((Int.ofNat 4), ())) (cond (Bool.not (iltI x3.2.1 (Int.ofNat 1))) (cond (Bool.not (Bool.not (iltI (Int.ofNat 7) x3.2.1))) (some ((Int.ofNat 1), ())) (cond (Bool.not (Go.Proofs.YtcnhjofpmpipfaaGreat.S.numbered (x3.1, (x3.2.1, x3.2.2)) (x4.1, (x4.2.1, x4.2.2)))) (some ((Int.ofNat 1), ())) (match (cond (Go.Proofs.YtcnhjofpmpipfaaGreat.S.srcOK (x3.1, (x3.2.1, x3.2.2)) x2.2) (some ((Go.Proofs.YtcnhjofpmpipfaaGreat.S.rfits x1 (x3.1, (x3.2.1, x3.2.2)) (Go.Proofs.YtcnhjofpmpipfaaGreat.S.fromOf (x3.1, (x3.2.1, x3.2.2)) x2.2) (x4.1, (x4.2.1, x4.2.2))), ())) none) with | .none  => none | .some v0 => (cond (Bool.not v0.1) (some ((Int.ofNat 8), ())) (some ((Int.ofNat 0), ())))))) (some ((Int.ofNat 1), ())))) (cond (Bool.not (iltI x3.2.1 (Int.ofNat 1))) (cond (Bool.not (Bool.not (iltI (Int.ofNat 7) x3.2.1))) (some ((Int.ofNat 1), ())) (cond (Bool.not (Go.Proofs.YtcnhjofpmpipfaaGreat.S.numbered (x3.1, (x3.2.1, x3.2.2)) (x4.1, (x4.2.1, x4.2.2)))) (some ((Int.ofNat 1), ())) (match (cond (Go.Proofs.YtcnhjofpmpipfaaGreat.S.srcOK (x3.1, (x3.2.1, x3.2.2)) x2.2) (some ((Go.Proofs.YtcnhjofpmpipfaaGreat.S.rfits x1 (x3.1, (x3.2.1, x3.2.2)) (Go.Proofs.YtcnhjofpmpipfaaGreat.S.fromOf (x3.1, (x3.2.1, x3.2.2)) x2.2) (x4.1, (x4.2.1, x4.2.2))), ())) none) with | .none  => none | .some v1 => (cond (Bool.not v1.1) (some ((Int.ofNat 8), ())) (some ((Int.ofNat 0), ())))))) (some ((Int.ofNat 1), ())))) (cond (Bool.not (iltI x3.2.1 (Int.ofNat 1))) (cond (Bool.not (Bool.not (iltI (Int.ofNat 7) x3.2.1))) (some ((Int.ofNat 1), ())) (cond (Bool.not (Go.Proofs.YtcnhjofpmpipfaaGreat.S.numbered (x3.1, (x3.2.1, x3.2.2)) (x4.1, (x4.2.1, x4.2.2)))) (some ((Int.ofNat 1), ())) (match (cond (Go.Proofs.YtcnhjofpmpipfaaGreat.S.srcOK (x3.1, (x3.2.1, x3.2.2)) x2.2) (some ((Go.Proofs.YtcnhjofpmpipfaaGreat.S.rfits x1 (x3.1, (x3.2.1, x3.2.2)) (Go.Proofs.YtcnhjofpmpipfaaGreat.S.fromOf (x3.1, (x3.2.1, x3.2.2)) x2.2) (x4.1, (x4.2.1, x4.2.2))), ())) none) with | .none  => none | .some v2 => (cond (Bool.not v2.1) (some ((Int.ofNat 8), ())) (some ((Int.ofNat 0), ())))))) (some ((Int.ofNat 1), ()))))
theorem in_r_given (g : ElA [(.list cRule), cForm, cGive, cCol] → Option Rt_r_given) (J : Nat → List Nat → NRes → Option Rt_r_given) (lf : Nat) (x1 : (List DRule)) (x2 : DForm) (x3 : DGive) (x4 : DCol) : icodeT Tryz.prog ttT.get nm_r_given fi55.nt (cl_r_given _ lf) lf st_r_given J fi55.body [] (argGo (argV [(.list cRule), cForm, cGive, cCol] (x1, x2, x3, x4, ())) 0 .leaf) S0 [] (lastK ttT.get fi55 ⟨[(.list cRule), cForm, cGive, cCol], [(false, (.int .i64))], g⟩) = R_r_given_in lf x1 x2 x3 x4 := by kernel_rfl
theorem nd_r_given : (regs fi55.body).Nodup := by decide +kernel
theorem ok_r_given : okC nm_r_given st_r_given hd_r_given fi55.body none = true := by kernel_rfl
def A_r_given (g : ElA [(.list cRule), cForm, cGive, cCol] → Option Rt_r_given) (lf : Nat) : Nat → List Nat → NRes → Option Rt_r_given := atN Tryz.prog ttT.get nm_r_given fi55 ⟨[(.list cRule), cForm, cGive, cCol], [(false, (.int .i64))], g⟩ (cl_r_given _ lf) lf hd_r_given
def F_r_given (lf : Nat) (x1 : (List DRule)) (x2 : DForm) (x3 : DGive) (x4 : DCol) : Option Rt_r_given := R_r_given_in lf x1 x2 x3 x4
theorem run_r_given (g : ElA [(.list cRule), cForm, cGive, cCol] → Option Rt_r_given) (lf : Nat) (x1 : (List DRule)) (x2 : DForm) (x3 : DGive) (x4 : DCol) : icodeT Tryz.prog ttT.get nm_r_given fi55.nt (cl_r_given _ lf) lf st_r_given (A_r_given g lf) fi55.body [] (argGo (argV [(.list cRule), cForm, cGive, cCol] (x1, x2, x3, x4, ())) 0 .leaf) S0 [] (lastK ttT.get fi55 ⟨[(.list cRule), cForm, cGive, cCol], [(false, (.int .i64))], g⟩) = F_r_given lf x1 x2 x3 x4 := by
    refine (in_r_given g (A_r_given g lf) lf x1 x2 x3 x4).trans ?_
    rfl
theorem hxs_r_given : HxsOK Tryz.prog hxl_r_given := trivial
theorem mk_r_given {g : ElA [(.list cRule), cForm, cGive, cCol] → Option Rt_r_given} (hsm : SmOK Tryz.prog sml_r_given) (hg : ∀ (x : ElA [(.list cRule), cForm, cGive, cCol]) (y : Rt_r_given), WfA [(.list cRule), cForm, cGive, cCol] x → g x = some y → ∃ lf, F_r_given lf x.1 x.2.1 x.2.2.1 x.2.2.2.1 = some y) : Con Tryz.prog 55 ⟨[(.list cRule), cForm, cGive, cCol], [(false, (.int .i64))], g⟩ :=
  conT (nmf := nm_r_given) (sml := sml_r_given) (hxl := hxl_r_given) (st := st_r_given) (hd := hd_r_given) 20 mixed ttOK ftOK hsm hxs_r_given cal55 rfl rfl (by kernel_rfl) (fun x => by kernel_rfl) nd_r_given ok_r_given fun x y hx hy => by
    obtain ⟨lf, h⟩ := hg x y hx hy
    exact ⟨lf, (run_r_given g lf x.1 x.2.1 x.2.2.1 x.2.2.2.1).trans h⟩
end Go.Proofs.YtcnhjofpmpipfaaGreat

end
end

/- The reference's way of checking how a field is made. -/
section
set_option linter.unusedVariables false
set_option maxRecDepth 100000
namespace Go.Proofs.YtcnhjofpmpipfaaGreat
open Go Go.Sx Go.RowKit Go.Jx
theorem F_r_leads_eq (lf : Nat) (l : List DRule) (a b : DCol) : F_r_leads lf l a b = some (S.rleads l a b, ()) := by
  simp only [F_r_leads, R_r_leads_in, S.rleads, keqS]
  have ea : S.lit [65, 78, 89] = S.ANY := rfl
  rw [ea]
  by_cases h : b.2.2 = S.ANY
  · simp [h]
  by_cases h2 : a.2.2 = S.ANY
  · simp [h, h2]
  · simp [h, h2]
theorem con_r_leads : Con Tryz.prog id_r_leads sp_r_leads := mk_r_leads ⟨con_r_target, trivial⟩ fun x y _ h => ⟨0, (F_r_leads_eq _ _ _ _).trans h⟩
theorem F_r_numbered_eq (lf : Nat) (g : DGive) (b : DCol) : F_r_numbered lf g b = some (S.numbered g b, ()) := by
  simp only [F_r_numbered, R_r_numbered_in, within_tree, S.numbered, ieqI_eq, keqS]
  simp only [oL, oLn]
  generalize S.within g.2.2 (-1099511627776) 1099511627776 = w
  generalize S.within g.2.2 0 1 = w1
  by_cases h4 : g.2.1 = 4
  · simp [h4]
  by_cases h6 : g.2.1 = 6
  · by_cases h2 : b.2.1 = 2 <;> by_cases hn : g.1 = S.lit [] <;> simp [h6, h2, hn]
  by_cases h7 : g.2.1 = 7
  · by_cases hn : g.1 = S.lit [] <;> simp [h7, hn]
  · simp [h4, h6, h7]
theorem con_r_numbered : Con Tryz.prog id_r_numbered sp_r_numbered := mk_r_numbered trivial fun x y _ h => ⟨0, (F_r_numbered_eq _ _ _).trans h⟩
theorem in_tree {α : Type} (v lo hi : Int) (X Y : α) : cond (Bool.not (iltI v lo)) (cond (Bool.not (iltI hi v)) X Y) Y = cond (S.within v lo hi) X Y := by
  have e : S.within v lo hi = (!iltI v lo && !iltI hi v) := by
    rw [iltI_eq, iltI_eq, Bool.eq_iff_iff]
    simp only [S.within, Bool.and_eq_true, decide_eq_true_eq, Bool.not_eq_true', decide_eq_false_iff_not]
    omega
  rw [e]
  cases iltI v lo <;> cases iltI hi v <;> rfl
theorem F_r_typed_eq (lf : Nat) (l : List DRule) (f : DForm) (g : DGive) (b : DCol) (h : S.srcOK g f.2 = true) : F_r_typed lf l f g b = some (S.rfits l g (S.fromOf g f.2) b, ()) := by
  simp only [F_r_typed, R_r_typed_in, in_tree]
  have e15 : S.within g.2.1 (Int.ofNat 1) (Int.ofNat 5) = S.sourced g := rfl
  rw [e15]
  unfold S.srcOK at h
  have gen : ∀ a : DCol, (cond (ieqI g.2.1 (Int.ofNat 1)) (cond (ieqI a.2.1 b.2.1) (cond (Bool.not (ieqI b.2.1 (Int.ofNat 3))) (some (Bool.true, ())) (some ((S.rleads l a b), ()))) (some (Bool.false, ()))) (cond (ieqI g.2.1 (Int.ofNat 2)) (cond (ieqI a.2.1 (Int.ofNat 2)) (some ((ieqI b.2.1 (Int.ofNat 1)), ())) (some (Bool.false, ()))) (cond (ieqI g.2.1 (Int.ofNat 3)) (cond (ieqI a.2.1 (Int.ofNat 1)) (some ((ieqI b.2.1 (Int.ofNat 2)), ())) (some (Bool.false, ()))) (cond (ieqI g.2.1 (Int.ofNat 4)) (cond (ieqI a.2.1 (Int.ofNat 1)) (some ((ieqI b.2.1 (Int.ofNat 1)), ())) (some (Bool.false, ()))) (cond (ieqI g.2.1 (Int.ofNat 5)) (cond (ieqI a.2.1 (Int.ofNat 3)) (cond (ieqI b.2.1 (Int.ofNat 3)) (some ((S.rleads l a b), ())) (some (Bool.false, ()))) (some (Bool.false, ()))) (cond (ieqI g.2.1 (Int.ofNat 6)) (some ((Bool.not (ieqI b.2.1 (Int.ofNat 3))), ())) (some ((ieqI b.2.1 (Int.ofNat 3)), ()))))))) : Option (Bool × Unit)) = some (S.rfits l g a b, ()) := fun a => by
    simp only [S.rfits, ieqI_eq]
    simp only [oL]
    generalize S.rleads l a b = z
    by_cases h1 : g.2.1 = 1
    · by_cases ha : a.2.1 = b.2.1
      · by_cases hb : b.2.1 = 3 <;> simp [h1, ha, hb]
      · simp [h1, ha]
    by_cases h2 : g.2.1 = 2
    · by_cases ha : a.2.1 = 2 <;> simp [h2, ha]
    by_cases h3 : g.2.1 = 3
    · by_cases ha : a.2.1 = 1 <;> simp [h3, ha]
    by_cases h4 : g.2.1 = 4
    · by_cases ha : a.2.1 = 1 <;> simp [h4, ha]
    by_cases h5 : g.2.1 = 5
    · by_cases ha : a.2.1 = 3 <;> by_cases hb : b.2.1 = 3 <;> simp [h5, ha, hb]
    by_cases h6 : g.2.1 = 6
    · simp [h6]
    · simp [h1, h2, h3, h4, h5, h6]
  cases hs : S.sourced g with
  | true =>
    rw [hs] at h
    have h0 : 0 ≤ S.col f.2 g.1 := of_decide_eq_true h
    obtain ⟨c, c1, c2, _⟩ := S.idx_get (p := fun c : DCol => keqS c.1 g.1) (l := f.2) h0
    have c1' : jget f.2 (S.col f.2 g.1) = some c := c1
    have c3 : S.fromOf g f.2 = c := by
      unfold S.fromOf
      rw [if_pos hs]
      unfold S.at_ S.col
      rw [c2]; rfl
    rw [cond_true, c1', c3]
    exact gen c
  | false =>
    have c3 : S.fromOf g f.2 = S.zCol := by unfold S.fromOf; rw [hs, if_neg (by simp)]
    rw [cond_false, c3]
    refine Eq.trans ?_ (gen S.zCol)
    rfl
theorem con_r_typed : Con Tryz.prog id_r_typed sp_r_typed := mk_r_typed ⟨con_r_column, con_r_leads, trivial⟩ fun x y _ h => ⟨0, by
  have h : cond (S.srcOK x.2.2.1 x.2.1.2) (some (S.rfits x.1 x.2.2.1 (S.fromOf x.2.2.1 x.2.1.2) x.2.2.2.1, ())) none = some y := h
  cases hr : S.srcOK x.2.2.1 x.2.1.2 with
  | false => rw [hr] at h; cases h
  | true => rw [hr] at h; exact (F_r_typed_eq _ _ _ _ _ hr).trans h⟩
theorem F_r_given_eq (lf : Nat) (l : List DRule) (f : DForm) (g : DGive) (b : DCol) : F_r_given lf l f g b = some (S.rgive l g f.2 b, ()) := by
  simp only [F_r_given, R_r_given_in, Prod.eta]
  have e17 : ∀ X Y : Option Rt_r_given, cond (Bool.not (iltI g.2.1 (Int.ofNat 1))) (cond (Bool.not (Bool.not (iltI (Int.ofNat 7) g.2.1))) X Y) X = cond (S.within g.2.1 1 7) Y X := fun X Y => by
    rw [Bool.not_not]
    have := in_tree g.2.1 (Int.ofNat 1) (Int.ofNat 7) Y X
    simp only [oL] at this ⊢
    rw [← this]
    cases iltI g.2.1 1 <;> cases iltI 7 g.2.1 <;> rfl
  simp only [e17, in_tree]
  have e15 : S.within g.2.1 (Int.ofNat 1) (Int.ofNat 5) = S.sourced g := rfl
  rw [e15]
  unfold S.rgive S.srcOK
  cases hs : S.sourced g with
  | true =>
    rw [iltI_eq]
    simp only [oL]
    by_cases hc : S.col f.2 g.1 < 0
    · rw [decide_eq_true hc, if_pos ⟨by trivial, hc⟩]; rfl
    · rw [decide_eq_false hc, if_neg (fun h => hc h.2), decide_eq_true (show 0 ≤ S.col f.2 g.1 by omega)]
      cases S.within g.2.1 1 7 <;> cases S.numbered g b <;> cases S.rfits l g (S.fromOf g f.2) b <;> rfl
  | false =>
    rw [if_neg (fun h => by cases h.1)]
    simp only [oL]
    cases S.within g.2.1 1 7 <;> cases S.numbered g b <;> cases S.rfits l g (S.fromOf g f.2) b <;> rfl
theorem con_r_given : Con Tryz.prog id_r_given sp_r_given := mk_r_given ⟨con_r_column, con_r_numbered, con_r_typed, trivial⟩ fun x y _ h => ⟨0, (F_r_given_eq _ _ _ _ _).trans h⟩
end Go.Proofs.YtcnhjofpmpipfaaGreat
end

/- What the reference's functions about lists of rules compute. -/
section
set_option linter.unusedVariables false
noncomputable section
namespace Go.Proofs.YtcnhjofpmpipfaaGreat
open Go Go.Sx Go.RowKit Go.Jx
namespace S
/-- Rules are asked of classes that are right. -/
def ruledPre (a b : List DForm) : Bool := decide (checkForms a = 0) && decide (checkForms b = 0)
end S
def sp_r_ruled : Sm := ⟨[.list cForm, .list cForm, .list cRule], [(false, .int .i64)], fun x => cond (S.ruledPre x.1 x.2.1) (some (S.checkRules0 x.1 x.2.1 x.2.2.1, ())) none⟩
def sp_r_CheckRules : Sm := ⟨[.list cForm, .list cForm, .list cRule], [(false, .int .i64)], fun x => some (S.checkRules x.1 x.2.1 x.2.2.1, ())⟩
def sp_r_made : Sm := ⟨[cForm, cNode, cGive, cCol], [(false, cR22Made)], fun x => cond (S.within x.2.2.1.2.1 1 7 && S.madePre x.2.2.1 x.1.2 x.2.1.2) (some (S.made x.2.2.1 x.1.2 x.2.1.2 x.2.2.2.1, ())) none⟩
end Go.Proofs.YtcnhjofpmpipfaaGreat

end
end

/- Made by program: plain forms of functions. -/
section
set_option linter.unusedVariables false
set_option maxRecDepth 100000
noncomputable section
namespace Go.Proofs.YtcnhjofpmpipfaaGreat
open Go Go.Sx Go.RowKit Go.Jx
def nm_r_ruled : Nat → Option Nm := fun k => cond (Nat.beq k 4) (some ⟨[0, 1, 2, 7], [], [], [], [], 0, 0, false⟩) (cond (Nat.beq k 11) (some ⟨[0, 1, 2, 8], [], [], [], [], 0, 0, false⟩) (cond (Nat.beq k 16) (some ⟨[0, 1, 2, 9], [], [], [], [], 0, 0, false⟩) (cond (Nat.beq k 23) (some ⟨[0, 1, 2, 9, 10, 11, 12], [], [], [], [], 0, 0, false⟩) (none))))
def st_r_ruled : Nat → Bool := fun k => cond (Nat.beq k 4) true (cond (Nat.beq k 11) true (cond (Nat.beq k 16) true (cond (Nat.beq k 23) true (false))))
def hd_r_ruled : Nat → Bool := fun k => cond (Nat.beq k 4) true (cond (Nat.beq k 11) true (cond (Nat.beq k 16) true (cond (Nat.beq k 23) true (false))))
abbrev Rt_r_ruled : Type := Int × Unit
def sml_r_ruled : List (Nat × Sm) := [(40, sp_r_form), (41, sp_r_rule), (55, sp_r_given)]
def hxl_r_ruled : List (Nat × Hx) := []
def cl_r_ruled (R : Type) (lf : Nat) : ClK R := icallK Tryz.prog ttT.get ftT.get (nm1 48 nm_r_ruled) (smL sml_r_ruled) (hxL hxl_r_ruled) lf 20 R
abbrev id_r_ruled : Nat := 48
def enc_r_ruled_4 (x1 : (List DForm)) (x2 : (List DForm)) (x3 : (List DRule)) (p : Int) : NRes := (NRes.mk (PT.node (some (IV.lst cForm x1)) (PT.node (some (IV.lst cForm x2)) (PT.node none (PT.node (some (IV.int Go.IntKind.i64 p)) PT.leaf PT.leaf) PT.leaf) PT.leaf) (PT.node (some (IV.lst cRule x3)) PT.leaf PT.leaf)) (IS.mk PT.leaf 0) [] 0)
def enc_r_ruled_11 (x1 : (List DForm)) (x2 : (List DForm)) (x3 : (List DRule)) (p : Int) : NRes := (NRes.mk (PT.node (some (IV.lst cForm x1)) (PT.node (some (IV.lst cForm x2)) PT.leaf PT.leaf) (PT.node (some (IV.lst cRule x3)) (PT.node none (PT.node (some (IV.int Go.IntKind.i64 p)) PT.leaf PT.leaf) PT.leaf) PT.leaf)) (IS.mk PT.leaf 0) [] 0)
def enc_r_ruled_16 (x1 : (List DForm)) (x2 : (List DForm)) (x3 : (List DRule)) (p : Int) : NRes := (NRes.mk (PT.node (some (IV.lst cForm x1)) (PT.node (some (IV.lst cForm x2)) PT.leaf (PT.node none (PT.node (some (IV.int Go.IntKind.i64 p)) PT.leaf PT.leaf) PT.leaf)) (PT.node (some (IV.lst cRule x3)) PT.leaf PT.leaf)) (IS.mk PT.leaf 0) [] 0)
def enc_r_ruled_23 (x1 : (List DForm)) (x2 : (List DForm)) (x3 : (List DRule)) (p : (List DCol) × ByteArray × (List DCol) × ByteArray × Int × Int) : NRes := (NRes.mk (PT.node (some (IV.lst cForm x1)) (PT.node (some (IV.lst cForm x2)) (PT.node none PT.leaf (PT.node (some (IV.ptr 1 0)) PT.leaf PT.leaf)) (PT.node none (PT.node (some (IV.int Go.IntKind.i64 p.2.2.2.2.2)) PT.leaf PT.leaf) PT.leaf)) (PT.node (some (IV.lst cRule x3)) (PT.node none PT.leaf (PT.node (some (IV.int Go.IntKind.i64 p.2.2.2.2.1)) PT.leaf PT.leaf)) (PT.node none (PT.node (some (IV.ptr 0 0)) PT.leaf PT.leaf) PT.leaf))) (IS.mk (PT.node (some (IObj.row (List.cons (IV.str p.2.1) (List.cons (IV.lst cCol p.2.2.1) [])))) (PT.node (some (IObj.row (List.cons (IV.str p.2.2.2.1) (List.cons (IV.lst cCol p.1) [])))) PT.leaf PT.leaf) PT.leaf) 2) [] 0)
def R_r_ruled_in (lf : Nat) (x1 : (List DForm)) (x2 : (List DForm)) (x3 : (List DRule)) (L4 : Int → Option Rt_r_ruled) : Option Rt_r_ruled := (cond (iltI (Int.ofNat 24) (Int.ofNat (List.length x3))) (some ((Int.ofNat 3), ())) (L4 (Int.ofNat 0)))
def R_r_ruled_4 (lf : Nat) (x1 : (List DForm)) (x2 : (List DForm)) (x3 : (List DRule)) (L4 : Int → Option Rt_r_ruled) (L11 : Int → Option Rt_r_ruled) (p : Int) : Option Rt_r_ruled := (cond (iltI p (Int.ofNat (List.length x3))) (match (jget x3 p) with | .none  => none | .some v0 => (cond (iltI (Go.Proofs.YtcnhjofpmpipfaaGreat.S.form x1 v0.1) (Int.ofNat 0)) (some ((Int.ofNat 4), ())) (match (jget x3 p) with | .none  => none | .some v1 => (cond (iltI (Go.Proofs.YtcnhjofpmpipfaaGreat.S.form x2 v1.2.1) (Int.ofNat 0)) (some ((Int.ofNat 4), ())) (match (jget x3 p) with | .none  => none | .some v2 => (cond (iltI (S.idx (fun v3 => (keqS v3.1 v2.1)) x3) p) (some ((Int.ofNat 6), ())) (L4 (Go.IntKind.wrap Go.IntKind.i64 (Int.add p (Int.ofNat 1)))))))))) (L11 (Int.ofNat 0)))
def R_r_ruled_11 (lf : Nat) (x1 : (List DForm)) (x2 : (List DForm)) (x3 : (List DRule)) (L11 : Int → Option Rt_r_ruled) (L16 : Int → Option Rt_r_ruled) (p : Int) : Option Rt_r_ruled := (cond (iltI p (Int.ofNat (List.length x1))) (match (jget x1 p) with | .none  => none | .some v0 => (cond (iltI (S.idx (fun v1 => (keqS v1.1 v0.1)) x3) (Int.ofNat 0)) (some ((Int.ofNat 5), ())) (L11 (Go.IntKind.wrap Go.IntKind.i64 (Int.add p (Int.ofNat 1)))))) (L16 (Int.ofNat 0)))
def R_r_ruled_16 (lf : Nat) (x1 : (List DForm)) (x2 : (List DForm)) (x3 : (List DRule)) (L23 : ((List DCol) × ByteArray × (List DCol) × ByteArray × Int × Int) → Option Rt_r_ruled) (p : Int) : Option Rt_r_ruled := (cond (iltI p (Int.ofNat (List.length x3))) (match (jget x3 p) with | .none  => none | .some v0 => (match (jget x1 (Go.Proofs.YtcnhjofpmpipfaaGreat.S.form x1 v0.1)) with | .none  => none | .some v1 => (match (jget x3 p) with | .none  => none | .some v2 => (match (jget x2 (Go.Proofs.YtcnhjofpmpipfaaGreat.S.form x2 v2.2.1)) with | .none  => none | .some v3 => (match (jget x3 p) with | .none  => none | .some v4 => (cond (Bool.not (ieqI (Int.ofNat (List.length v4.2.2)) (Int.ofNat (List.length v3.2)))) (some ((Int.ofNat 2), ())) (L23 (v3.2, v1.1, v1.2, v3.1, (Int.ofNat 0), p)))))))) (some ((Int.ofNat 0), ())))
def R_r_ruled_23 (lf : Nat) (x1 : (List DForm)) (x2 : (List DForm)) (x3 : (List DRule)) (L23 : ((List DCol) × ByteArray × (List DCol) × ByteArray × Int × Int) → Option Rt_r_ruled) (L16 : Int → Option Rt_r_ruled) (p : (List DCol) × ByteArray × (List DCol) × ByteArray × Int × Int) : Option Rt_r_ruled := (cond (iltI p.2.2.2.2.1 (Int.ofNat (List.length p.1))) (match (jget x3 p.2.2.2.2.2) with | .none  => none | .some v0 => (match (jget v0.2.2 p.2.2.2.2.1) with | .none  => none | .some v1 => (match (jget p.1 p.2.2.2.2.1) with | .none  => none | .some v2 => (cond (Bool.not (ieqI (Go.Proofs.YtcnhjofpmpipfaaGreat.S.rgive x3 (v1.1, (v1.2.1, v1.2.2)) p.2.2.1 (v2.1, (v2.2.1, v2.2.2))) (Int.ofNat 0))) (some ((Go.Proofs.YtcnhjofpmpipfaaGreat.S.rgive x3 (v1.1, (v1.2.1, v1.2.2)) p.2.2.1 (v2.1, (v2.2.1, v2.2.2))), ())) (L23 (p.1, p.2.1, p.2.2.1, p.2.2.2.1, (Go.IntKind.wrap Go.IntKind.i64 (Int.add p.2.2.2.2.1 (Int.ofNat 1))), p.2.2.2.2.2)))))) (L16 (Go.IntKind.wrap Go.IntKind.i64 (Int.add p.2.2.2.2.2 (Int.ofNat 1)))))
theorem in_r_ruled (g : ElA [(.list cForm), (.list cForm), (.list cRule)] → Option Rt_r_ruled) (J : Nat → List Nat → NRes → Option Rt_r_ruled) (lf : Nat) (x1 : (List DForm)) (x2 : (List DForm)) (x3 : (List DRule)) : icodeT Tryz.prog ttT.get nm_r_ruled fi48.nt (cl_r_ruled _ lf) lf st_r_ruled J fi48.body [] (argGo (argV [(.list cForm), (.list cForm), (.list cRule)] (x1, x2, x3, ())) 0 .leaf) S0 [] (lastK ttT.get fi48 ⟨[(.list cForm), (.list cForm), (.list cRule)], [(false, (.int .i64))], g⟩) = R_r_ruled_in lf x1 x2 x3 (fun q => J 4 [lf] (enc_r_ruled_4 x1 x2 x3 q)) := by kernel_rfl
theorem st_r_ruled_4 (g : ElA [(.list cForm), (.list cForm), (.list cRule)] → Option Rt_r_ruled) (J : Nat → List Nat → NRes → Option Rt_r_ruled) (lf : Nat) (x1 : (List DForm)) (x2 : (List DForm)) (x3 : (List DRule)) (m1 : Nat) (p : Int) : icodeFT Tryz.prog ttT.get nm_r_ruled fi48.nt (cl_r_ruled _ lf) lf st_r_ruled J 4 fi48.body [] [m1] (enc_r_ruled_4 x1 x2 x3 p) (lastK ttT.get fi48 ⟨[(.list cForm), (.list cForm), (.list cRule)], [(false, (.int .i64))], g⟩) = R_r_ruled_4 lf x1 x2 x3 (fun q => J 4 [m1] (enc_r_ruled_4 x1 x2 x3 q)) (fun q => J 11 [lf] (enc_r_ruled_11 x1 x2 x3 q)) p := by kernel_rfl
theorem st_r_ruled_11 (g : ElA [(.list cForm), (.list cForm), (.list cRule)] → Option Rt_r_ruled) (J : Nat → List Nat → NRes → Option Rt_r_ruled) (lf : Nat) (x1 : (List DForm)) (x2 : (List DForm)) (x3 : (List DRule)) (m1 : Nat) (p : Int) : icodeFT Tryz.prog ttT.get nm_r_ruled fi48.nt (cl_r_ruled _ lf) lf st_r_ruled J 11 fi48.body [] [m1] (enc_r_ruled_11 x1 x2 x3 p) (lastK ttT.get fi48 ⟨[(.list cForm), (.list cForm), (.list cRule)], [(false, (.int .i64))], g⟩) = R_r_ruled_11 lf x1 x2 x3 (fun q => J 11 [m1] (enc_r_ruled_11 x1 x2 x3 q)) (fun q => J 16 [lf] (enc_r_ruled_16 x1 x2 x3 q)) p := by kernel_rfl
theorem st_r_ruled_16 (g : ElA [(.list cForm), (.list cForm), (.list cRule)] → Option Rt_r_ruled) (J : Nat → List Nat → NRes → Option Rt_r_ruled) (lf : Nat) (x1 : (List DForm)) (x2 : (List DForm)) (x3 : (List DRule)) (m1 : Nat) (p : Int) : icodeFT Tryz.prog ttT.get nm_r_ruled fi48.nt (cl_r_ruled _ lf) lf st_r_ruled J 16 fi48.body [] [m1] (enc_r_ruled_16 x1 x2 x3 p) (lastK ttT.get fi48 ⟨[(.list cForm), (.list cForm), (.list cRule)], [(false, (.int .i64))], g⟩) = R_r_ruled_16 lf x1 x2 x3 (fun q => J 23 [m1, lf] (enc_r_ruled_23 x1 x2 x3 q)) p := by kernel_rfl
theorem st_r_ruled_23 (g : ElA [(.list cForm), (.list cForm), (.list cRule)] → Option Rt_r_ruled) (J : Nat → List Nat → NRes → Option Rt_r_ruled) (lf : Nat) (x1 : (List DForm)) (x2 : (List DForm)) (x3 : (List DRule)) (m1 : Nat) (m2 : Nat) (p : (List DCol) × ByteArray × (List DCol) × ByteArray × Int × Int) : icodeFT Tryz.prog ttT.get nm_r_ruled fi48.nt (cl_r_ruled _ lf) lf st_r_ruled J 23 fi48.body [] [m1, m2] (enc_r_ruled_23 x1 x2 x3 p) (lastK ttT.get fi48 ⟨[(.list cForm), (.list cForm), (.list cRule)], [(false, (.int .i64))], g⟩) = R_r_ruled_23 lf x1 x2 x3 (fun q => J 23 [m1, m2] (enc_r_ruled_23 x1 x2 x3 q)) (fun q => J 16 [m1] (enc_r_ruled_16 x1 x2 x3 q)) p := by kernel_rfl
theorem nd_r_ruled : (regs fi48.body).Nodup := by decide +kernel
theorem ok_r_ruled : okC nm_r_ruled st_r_ruled hd_r_ruled fi48.body none = true := by kernel_rfl
def A_r_ruled (g : ElA [(.list cForm), (.list cForm), (.list cRule)] → Option Rt_r_ruled) (lf : Nat) : Nat → List Nat → NRes → Option Rt_r_ruled := atN Tryz.prog ttT.get nm_r_ruled fi48 ⟨[(.list cForm), (.list cForm), (.list cRule)], [(false, (.int .i64))], g⟩ (cl_r_ruled _ lf) lf hd_r_ruled
def G_r_ruled_23 (lf : Nat) (x1 : (List DForm)) (x2 : (List DForm)) (x3 : (List DRule)) (K16 : Int → Option Rt_r_ruled) : Nat → ((List DCol) × ByteArray × (List DCol) × ByteArray × Int × Int) → Option Rt_r_ruled := rounds fun K p => R_r_ruled_23 lf x1 x2 x3 K K16 p
theorem at_r_ruled_23 (g : ElA [(.list cForm), (.list cForm), (.list cRule)] → Option Rt_r_ruled) (lf : Nat) (x1 : (List DForm)) (x2 : (List DForm)) (x3 : (List DRule)) (m1 : Nat) : ∀ (n : Nat) (p : (List DCol) × ByteArray × (List DCol) × ByteArray × Int × Int), A_r_ruled g lf 23 [m1, n] (enc_r_ruled_23 x1 x2 x3 p) = G_r_ruled_23 lf x1 x2 x3 (fun q => A_r_ruled g lf 16 [m1] (enc_r_ruled_16 x1 x2 x3 q)) n p
  | 0, p => atN_zero 23 [m1, 0] rfl _
  | n + 1, p => by
    have ih := at_r_ruled_23 g lf x1 x2 x3 m1 n
    refine (atN_eq (icallK_eq 20 _) nd_r_ruled ok_r_ruled 23 [m1, n + 1] [m1, n] rfl _).trans ((st_r_ruled_23 g (A_r_ruled g lf) lf x1 x2 x3 m1 n p).trans ?_)
    rw [(show (fun q => A_r_ruled g lf 23 [m1, n] (enc_r_ruled_23 x1 x2 x3 q)) = (fun q => G_r_ruled_23 lf x1 x2 x3 (fun q => A_r_ruled g lf 16 [m1] (enc_r_ruled_16 x1 x2 x3 q)) n q) from funext ih)]
    rfl
def G_r_ruled_16 (lf : Nat) (x1 : (List DForm)) (x2 : (List DForm)) (x3 : (List DRule)) : Nat → (Int) → Option Rt_r_ruled := rounds fun K p => R_r_ruled_16 lf x1 x2 x3 (fun q => G_r_ruled_23 lf x1 x2 x3 K lf q) p
theorem at_r_ruled_16 (g : ElA [(.list cForm), (.list cForm), (.list cRule)] → Option Rt_r_ruled) (lf : Nat) (x1 : (List DForm)) (x2 : (List DForm)) (x3 : (List DRule)) : ∀ (n : Nat) (p : Int), A_r_ruled g lf 16 [n] (enc_r_ruled_16 x1 x2 x3 p) = G_r_ruled_16 lf x1 x2 x3 n p
  | 0, p => atN_zero 16 [0] rfl _
  | n + 1, p => by
    have ih := at_r_ruled_16 g lf x1 x2 x3 n
    refine (atN_eq (icallK_eq 20 _) nd_r_ruled ok_r_ruled 16 [n + 1] [n] rfl _).trans ((st_r_ruled_16 g (A_r_ruled g lf) lf x1 x2 x3 n p).trans ?_)
    rw [(show (fun q => A_r_ruled g lf 23 [n, lf] (enc_r_ruled_23 x1 x2 x3 q)) = (fun q => G_r_ruled_23 lf x1 x2 x3 (fun q => A_r_ruled g lf 16 [n] (enc_r_ruled_16 x1 x2 x3 q)) lf q) from funext fun q => at_r_ruled_23 g lf x1 x2 x3 n lf q), (show (fun q => A_r_ruled g lf 16 [n] (enc_r_ruled_16 x1 x2 x3 q)) = (fun q => G_r_ruled_16 lf x1 x2 x3 n q) from funext ih)]
    rfl
def G_r_ruled_11 (lf : Nat) (x1 : (List DForm)) (x2 : (List DForm)) (x3 : (List DRule)) : Nat → (Int) → Option Rt_r_ruled := rounds fun K p => R_r_ruled_11 lf x1 x2 x3 K (fun q => G_r_ruled_16 lf x1 x2 x3 lf q) p
theorem at_r_ruled_11 (g : ElA [(.list cForm), (.list cForm), (.list cRule)] → Option Rt_r_ruled) (lf : Nat) (x1 : (List DForm)) (x2 : (List DForm)) (x3 : (List DRule)) : ∀ (n : Nat) (p : Int), A_r_ruled g lf 11 [n] (enc_r_ruled_11 x1 x2 x3 p) = G_r_ruled_11 lf x1 x2 x3 n p
  | 0, p => atN_zero 11 [0] rfl _
  | n + 1, p => by
    have ih := at_r_ruled_11 g lf x1 x2 x3 n
    refine (atN_eq (icallK_eq 20 _) nd_r_ruled ok_r_ruled 11 [n + 1] [n] rfl _).trans ((st_r_ruled_11 g (A_r_ruled g lf) lf x1 x2 x3 n p).trans ?_)
    rw [(show (fun q => A_r_ruled g lf 16 [lf] (enc_r_ruled_16 x1 x2 x3 q)) = (fun q => G_r_ruled_16 lf x1 x2 x3 lf q) from funext fun q => at_r_ruled_16 g lf x1 x2 x3 lf q), (show (fun q => A_r_ruled g lf 11 [n] (enc_r_ruled_11 x1 x2 x3 q)) = (fun q => G_r_ruled_11 lf x1 x2 x3 n q) from funext ih)]
    rfl
def G_r_ruled_4 (lf : Nat) (x1 : (List DForm)) (x2 : (List DForm)) (x3 : (List DRule)) : Nat → (Int) → Option Rt_r_ruled := rounds fun K p => R_r_ruled_4 lf x1 x2 x3 K (fun q => G_r_ruled_11 lf x1 x2 x3 lf q) p
theorem at_r_ruled_4 (g : ElA [(.list cForm), (.list cForm), (.list cRule)] → Option Rt_r_ruled) (lf : Nat) (x1 : (List DForm)) (x2 : (List DForm)) (x3 : (List DRule)) : ∀ (n : Nat) (p : Int), A_r_ruled g lf 4 [n] (enc_r_ruled_4 x1 x2 x3 p) = G_r_ruled_4 lf x1 x2 x3 n p
  | 0, p => atN_zero 4 [0] rfl _
  | n + 1, p => by
    have ih := at_r_ruled_4 g lf x1 x2 x3 n
    refine (atN_eq (icallK_eq 20 _) nd_r_ruled ok_r_ruled 4 [n + 1] [n] rfl _).trans ((st_r_ruled_4 g (A_r_ruled g lf) lf x1 x2 x3 n p).trans ?_)
    rw [(show (fun q => A_r_ruled g lf 11 [lf] (enc_r_ruled_11 x1 x2 x3 q)) = (fun q => G_r_ruled_11 lf x1 x2 x3 lf q) from funext fun q => at_r_ruled_11 g lf x1 x2 x3 lf q), (show (fun q => A_r_ruled g lf 4 [n] (enc_r_ruled_4 x1 x2 x3 q)) = (fun q => G_r_ruled_4 lf x1 x2 x3 n q) from funext ih)]
    rfl
def F_r_ruled (lf : Nat) (x1 : (List DForm)) (x2 : (List DForm)) (x3 : (List DRule)) : Option Rt_r_ruled := R_r_ruled_in lf x1 x2 x3 (fun q => G_r_ruled_4 lf x1 x2 x3 lf q)
theorem run_r_ruled (g : ElA [(.list cForm), (.list cForm), (.list cRule)] → Option Rt_r_ruled) (lf : Nat) (x1 : (List DForm)) (x2 : (List DForm)) (x3 : (List DRule)) : icodeT Tryz.prog ttT.get nm_r_ruled fi48.nt (cl_r_ruled _ lf) lf st_r_ruled (A_r_ruled g lf) fi48.body [] (argGo (argV [(.list cForm), (.list cForm), (.list cRule)] (x1, x2, x3, ())) 0 .leaf) S0 [] (lastK ttT.get fi48 ⟨[(.list cForm), (.list cForm), (.list cRule)], [(false, (.int .i64))], g⟩) = F_r_ruled lf x1 x2 x3 := by
    refine (in_r_ruled g (A_r_ruled g lf) lf x1 x2 x3).trans ?_
    rw [(show (fun q => A_r_ruled g lf 4 [lf] (enc_r_ruled_4 x1 x2 x3 q)) = (fun q => G_r_ruled_4 lf x1 x2 x3 lf q) from funext fun q => at_r_ruled_4 g lf x1 x2 x3 lf q)]
    rfl
theorem hxs_r_ruled : HxsOK Tryz.prog hxl_r_ruled := trivial
theorem mk_r_ruled {g : ElA [(.list cForm), (.list cForm), (.list cRule)] → Option Rt_r_ruled} (hsm : SmOK Tryz.prog sml_r_ruled) (hg : ∀ (x : ElA [(.list cForm), (.list cForm), (.list cRule)]) (y : Rt_r_ruled), WfA [(.list cForm), (.list cForm), (.list cRule)] x → g x = some y → ∃ lf, F_r_ruled lf x.1 x.2.1 x.2.2.1 = some y) : Con Tryz.prog 48 ⟨[(.list cForm), (.list cForm), (.list cRule)], [(false, (.int .i64))], g⟩ :=
  conT (nmf := nm_r_ruled) (sml := sml_r_ruled) (hxl := hxl_r_ruled) (st := st_r_ruled) (hd := hd_r_ruled) 20 mixed ttOK ftOK hsm hxs_r_ruled cal48 rfl rfl (by kernel_rfl) (fun x => by kernel_rfl) nd_r_ruled ok_r_ruled fun x y hx hy => by
    obtain ⟨lf, h⟩ := hg x y hx hy
    exact ⟨lf, (run_r_ruled g lf x.1 x.2.1 x.2.2.1).trans h⟩
def nm_r_CheckRules : Nat → Option Nm := fun k => none
def st_r_CheckRules : Nat → Bool := fun k => false
def hd_r_CheckRules : Nat → Bool := fun k => false
abbrev Rt_r_CheckRules : Type := Int × Unit
def sml_r_CheckRules : List (Nat × Sm) := [(47, sp_r_CheckForms), (48, sp_r_ruled)]
def hxl_r_CheckRules : List (Nat × Hx) := []
def cl_r_CheckRules (R : Type) (lf : Nat) : ClK R := icallK Tryz.prog ttT.get ftT.get (nm1 22 nm_r_CheckRules) (smL sml_r_CheckRules) (hxL hxl_r_CheckRules) lf 20 R
abbrev id_r_CheckRules : Nat := 22
def R_r_CheckRules_in (lf : Nat) (x1 : (List DForm)) (x2 : (List DForm)) (x3 : (List DRule)) : Option Rt_r_CheckRules := (cond (ieqI (Go.Proofs.YtcnhjofpmpipfaaGreat.S.checkForms x1) (Int.ofNat 0)) (cond (Bool.not (ieqI (Go.Proofs.YtcnhjofpmpipfaaGreat.S.checkForms x2) (Int.ofNat 0))) (some ((Go.Proofs.YtcnhjofpmpipfaaGreat.S.checkForms x2), ())) (match (cond (Go.Proofs.YtcnhjofpmpipfaaGreat.S.ruledPre x1 x2) (some ((Go.Proofs.YtcnhjofpmpipfaaGreat.S.checkRules0 x1 x2 x3), ())) none) with | .none  => none | .some v0 => (some (v0.1, ())))) (cond (Bool.not (ieqI (Go.Proofs.YtcnhjofpmpipfaaGreat.S.checkForms x1) (Int.ofNat 0))) (some ((Go.Proofs.YtcnhjofpmpipfaaGreat.S.checkForms x1), ())) (match (cond (Go.Proofs.YtcnhjofpmpipfaaGreat.S.ruledPre x1 x2) (some ((Go.Proofs.YtcnhjofpmpipfaaGreat.S.checkRules0 x1 x2 x3), ())) none) with | .none  => none | .some v1 => (some (v1.1, ())))))
theorem in_r_CheckRules (g : ElA [(.list cForm), (.list cForm), (.list cRule)] → Option Rt_r_CheckRules) (J : Nat → List Nat → NRes → Option Rt_r_CheckRules) (lf : Nat) (x1 : (List DForm)) (x2 : (List DForm)) (x3 : (List DRule)) : icodeT Tryz.prog ttT.get nm_r_CheckRules fi22.nt (cl_r_CheckRules _ lf) lf st_r_CheckRules J fi22.body [] (argGo (argV [(.list cForm), (.list cForm), (.list cRule)] (x1, x2, x3, ())) 0 .leaf) S0 [] (lastK ttT.get fi22 ⟨[(.list cForm), (.list cForm), (.list cRule)], [(false, (.int .i64))], g⟩) = R_r_CheckRules_in lf x1 x2 x3 := by kernel_rfl
theorem nd_r_CheckRules : (regs fi22.body).Nodup := by decide +kernel
theorem ok_r_CheckRules : okC nm_r_CheckRules st_r_CheckRules hd_r_CheckRules fi22.body none = true := by kernel_rfl
def A_r_CheckRules (g : ElA [(.list cForm), (.list cForm), (.list cRule)] → Option Rt_r_CheckRules) (lf : Nat) : Nat → List Nat → NRes → Option Rt_r_CheckRules := atN Tryz.prog ttT.get nm_r_CheckRules fi22 ⟨[(.list cForm), (.list cForm), (.list cRule)], [(false, (.int .i64))], g⟩ (cl_r_CheckRules _ lf) lf hd_r_CheckRules
def F_r_CheckRules (lf : Nat) (x1 : (List DForm)) (x2 : (List DForm)) (x3 : (List DRule)) : Option Rt_r_CheckRules := R_r_CheckRules_in lf x1 x2 x3
theorem run_r_CheckRules (g : ElA [(.list cForm), (.list cForm), (.list cRule)] → Option Rt_r_CheckRules) (lf : Nat) (x1 : (List DForm)) (x2 : (List DForm)) (x3 : (List DRule)) : icodeT Tryz.prog ttT.get nm_r_CheckRules fi22.nt (cl_r_CheckRules _ lf) lf st_r_CheckRules (A_r_CheckRules g lf) fi22.body [] (argGo (argV [(.list cForm), (.list cForm), (.list cRule)] (x1, x2, x3, ())) 0 .leaf) S0 [] (lastK ttT.get fi22 ⟨[(.list cForm), (.list cForm), (.list cRule)], [(false, (.int .i64))], g⟩) = F_r_CheckRules lf x1 x2 x3 := by
    refine (in_r_CheckRules g (A_r_CheckRules g lf) lf x1 x2 x3).trans ?_
    rfl
theorem hxs_r_CheckRules : HxsOK Tryz.prog hxl_r_CheckRules := trivial
theorem mk_r_CheckRules {g : ElA [(.list cForm), (.list cForm), (.list cRule)] → Option Rt_r_CheckRules} (hsm : SmOK Tryz.prog sml_r_CheckRules) (hg : ∀ (x : ElA [(.list cForm), (.list cForm), (.list cRule)]) (y : Rt_r_CheckRules), WfA [(.list cForm), (.list cForm), (.list cRule)] x → g x = some y → ∃ lf, F_r_CheckRules lf x.1 x.2.1 x.2.2.1 = some y) : Con Tryz.prog 22 ⟨[(.list cForm), (.list cForm), (.list cRule)], [(false, (.int .i64))], g⟩ :=
  conT (nmf := nm_r_CheckRules) (sml := sml_r_CheckRules) (hxl := hxl_r_CheckRules) (st := st_r_CheckRules) (hd := hd_r_CheckRules) 20 mixed ttOK ftOK hsm hxs_r_CheckRules cal22 rfl rfl (by kernel_rfl) (fun x => by kernel_rfl) nd_r_CheckRules ok_r_CheckRules fun x y hx hy => by
    obtain ⟨lf, h⟩ := hg x y hx hy
    exact ⟨lf, (run_r_CheckRules g lf x.1 x.2.1 x.2.2.1).trans h⟩
def nm_r_made : Nat → Option Nm := fun k => none
def st_r_made : Nat → Bool := fun k => false
def hd_r_made : Nat → Bool := fun k => false
abbrev Rt_r_made : Type := DR22Made × Unit
def sml_r_made : List (Nat × Sm) := [(53, sp_r_column)]
def hxl_r_made : List (Nat × Hx) := []
def cl_r_made (R : Type) (lf : Nat) : ClK R := icallK Tryz.prog ttT.get ftT.get (nm1 42 nm_r_made) (smL sml_r_made) (hxL hxl_r_made) lf 20 R
abbrev id_r_made : Nat := 42
def R_r_made_in (lf : Nat) (x1 : DForm) (x2 : DNode) (x3 : DGive) (x4 : DCol) : Option Rt_r_made := (cond (Bool.not (iltI x3.2.1 (Int.ofNat 1))) (cond (Bool.not (iltI (Int.ofNat 5) x3.2.1)) (match (jget x2.2 (Go.Proofs.YtcnhjofpmpipfaaGreat.S.col x1.2 x3.1)) with | .none  => none | .some v0 => (cond (ieqI x3.2.1 (Int.ofNat 2)) (some ((((Int.ofNat 1), v0.2), Bool.true), ())) (cond (ieqI x3.2.1 (Int.ofNat 3)) (cond (Bool.not (iltI v0.2 (Int.ofNat 0))) (some ((((Int.ofNat 2), v0.2), (Bool.not (iltI (Int.ofNat 1) v0.2))), ())) (some ((((Int.ofNat 2), v0.2), Bool.false), ()))) (cond (ieqI x3.2.1 (Int.ofNat 4)) (some (((v0.1, v0.2), (iltI v0.2 x3.2.2)), ())) (cond (ieqI x3.2.1 (Int.ofNat 5)) (some (((v0.1, v0.2), (ieqI v0.1 (Int.ofNat 4))), ())) (cond (ieqI x3.2.1 (Int.ofNat 6)) (cond (ieqI x4.2.1 (Int.ofNat 2)) (some ((((Int.ofNat 2), x3.2.2), Bool.true), ())) (some ((((Int.ofNat 1), x3.2.2), Bool.true), ()))) (cond (ieqI x3.2.1 (Int.ofNat 7)) (some ((((Int.ofNat 3), (Int.ofNat 0)), Bool.true), ())) (some (((v0.1, v0.2), Bool.true), ()))))))))) (cond (ieqI x3.2.1 (Int.ofNat 2)) (some ((((Int.ofNat 1), (Int.ofNat 0)), Bool.true), ())) (cond (ieqI x3.2.1 (Int.ofNat 3)) (some ((((Int.ofNat 2), (Int.ofNat 0)), Bool.true), ())) (cond (ieqI x3.2.1 (Int.ofNat 4)) (some ((((Int.ofNat 0), (Int.ofNat 0)), (iltI (Int.ofNat 0) x3.2.2)), ())) (cond (ieqI x3.2.1 (Int.ofNat 5)) (some ((((Int.ofNat 0), (Int.ofNat 0)), Bool.false), ())) (cond (ieqI x3.2.1 (Int.ofNat 6)) (cond (ieqI x4.2.1 (Int.ofNat 2)) (some ((((Int.ofNat 2), x3.2.2), Bool.true), ())) (some ((((Int.ofNat 1), x3.2.2), Bool.true), ()))) (cond (ieqI x3.2.1 (Int.ofNat 7)) (some ((((Int.ofNat 3), (Int.ofNat 0)), Bool.true), ())) (some ((((Int.ofNat 0), (Int.ofNat 0)), Bool.true), ()))))))))) (cond (ieqI x3.2.1 (Int.ofNat 2)) (some ((((Int.ofNat 1), (Int.ofNat 0)), Bool.true), ())) (cond (ieqI x3.2.1 (Int.ofNat 3)) (some ((((Int.ofNat 2), (Int.ofNat 0)), Bool.true), ())) (cond (ieqI x3.2.1 (Int.ofNat 4)) (some ((((Int.ofNat 0), (Int.ofNat 0)), (iltI (Int.ofNat 0) x3.2.2)), ())) (cond (ieqI x3.2.1 (Int.ofNat 5)) (some ((((Int.ofNat 0), (Int.ofNat 0)), Bool.false), ())) (cond (ieqI x3.2.1 (Int.ofNat 6)) (cond (ieqI x4.2.1 (Int.ofNat 2)) (some ((((Int.ofNat 2), x3.2.2), Bool.true), ())) (some ((((Int.ofNat 1), x3.2.2), Bool.true), ()))) (cond (ieqI x3.2.1 (Int.ofNat 7)) (some ((((Int.ofNat 3), (Int.ofNat 0)), Bool.true), ())) (some ((((Int.ofNat 0), (Int.ofNat 0)), Bool.true), ())))))))))
theorem in_r_made (g : ElA [cForm, cNode, cGive, cCol] → Option Rt_r_made) (J : Nat → List Nat → NRes → Option Rt_r_made) (lf : Nat) (x1 : DForm) (x2 : DNode) (x3 : DGive) (x4 : DCol) : icodeT Tryz.prog ttT.get nm_r_made fi42.nt (cl_r_made _ lf) lf st_r_made J fi42.body [] (argGo (argV [cForm, cNode, cGive, cCol] (x1, x2, x3, x4, ())) 0 .leaf) S0 [] (lastK ttT.get fi42 ⟨[cForm, cNode, cGive, cCol], [(false, cR22Made)], g⟩) = R_r_made_in lf x1 x2 x3 x4 := by kernel_rfl
theorem nd_r_made : (regs fi42.body).Nodup := by decide +kernel
theorem ok_r_made : okC nm_r_made st_r_made hd_r_made fi42.body none = true := by kernel_rfl
def A_r_made (g : ElA [cForm, cNode, cGive, cCol] → Option Rt_r_made) (lf : Nat) : Nat → List Nat → NRes → Option Rt_r_made := atN Tryz.prog ttT.get nm_r_made fi42 ⟨[cForm, cNode, cGive, cCol], [(false, cR22Made)], g⟩ (cl_r_made _ lf) lf hd_r_made
def F_r_made (lf : Nat) (x1 : DForm) (x2 : DNode) (x3 : DGive) (x4 : DCol) : Option Rt_r_made := R_r_made_in lf x1 x2 x3 x4
theorem run_r_made (g : ElA [cForm, cNode, cGive, cCol] → Option Rt_r_made) (lf : Nat) (x1 : DForm) (x2 : DNode) (x3 : DGive) (x4 : DCol) : icodeT Tryz.prog ttT.get nm_r_made fi42.nt (cl_r_made _ lf) lf st_r_made (A_r_made g lf) fi42.body [] (argGo (argV [cForm, cNode, cGive, cCol] (x1, x2, x3, x4, ())) 0 .leaf) S0 [] (lastK ttT.get fi42 ⟨[cForm, cNode, cGive, cCol], [(false, cR22Made)], g⟩) = F_r_made lf x1 x2 x3 x4 := by
    refine (in_r_made g (A_r_made g lf) lf x1 x2 x3 x4).trans ?_
    rfl
theorem hxs_r_made : HxsOK Tryz.prog hxl_r_made := trivial
theorem mk_r_made {g : ElA [cForm, cNode, cGive, cCol] → Option Rt_r_made} (hsm : SmOK Tryz.prog sml_r_made) (hg : ∀ (x : ElA [cForm, cNode, cGive, cCol]) (y : Rt_r_made), WfA [cForm, cNode, cGive, cCol] x → g x = some y → ∃ lf, F_r_made lf x.1 x.2.1 x.2.2.1 x.2.2.2.1 = some y) : Con Tryz.prog 42 ⟨[cForm, cNode, cGive, cCol], [(false, cR22Made)], g⟩ :=
  conT (nmf := nm_r_made) (sml := sml_r_made) (hxl := hxl_r_made) (st := st_r_made) (hd := hd_r_made) 20 mixed ttOK ftOK hsm hxs_r_made cal42 rfl rfl (by kernel_rfl) (fun x => by kernel_rfl) nd_r_made ok_r_made fun x y hx hy => by
    obtain ⟨lf, h⟩ := hg x y hx hy
    exact ⟨lf, (run_r_made g lf x.1 x.2.1 x.2.2.1 x.2.2.2.1).trans h⟩
end Go.Proofs.YtcnhjofpmpipfaaGreat

end
end

/- The reference's way of checking rules. -/
section
set_option linter.unusedVariables false
set_option maxRecDepth 100000
namespace Go.Proofs.YtcnhjofpmpipfaaGreat
open Go Go.Sx Go.RowKit Go.Jx
theorem cfGo2_zero (l : List DForm) : ∀ fs : List DForm, S.cfGo2 l fs = 0 → ∀ f ∈ fs, S.cfIn l f.2 = true
  | [], _ => fun f hf => absurd hf (by simp)
  | f :: r, h => by
    rw [S.cfGo2] at h
    by_cases hc : S.cfIn l f.2 = true
    · rw [if_pos hc] at h
      intro x hx
      rcases List.mem_cons.1 hx with e | e
      · rw [e]; exact hc
      · exact cfGo2_zero l r h x e
    · rw [if_neg hc] at h; exact absurd h (by decide)
theorem cfGo_zero (l : List DForm) : ∀ (fs : List DForm) (k : Nat), S.cfGo l k fs = 0 → (∀ f ∈ fs, S.class_ f.1 = true ∧ S.checkCols f.2 = 0) ∧ S.cfGo2 l l = 0
  | [], k, h => ⟨fun f hf => absurd hf (by simp), h⟩
  | f :: r, k, h => by
    rw [S.cfGo] at h
    simp only [first3, S.unlessE] at h
    cases hcl : S.class_ f.1 with
    | false => rw [hcl] at h; exact absurd h (by simp)
    | true =>
      rw [hcl, cond_true, if_pos (rfl : (0 : Int) = 0)] at h
      cases hd : decide (S.form (l.take k) f.1 < 0) with
      | false => rw [hd] at h; exact absurd h (by simp)
      | true =>
        rw [hd, cond_true, if_pos (rfl : (0 : Int) = 0)] at h
        by_cases hk : S.checkCols f.2 = 0
        · rw [if_pos hk] at h
          have ih := cfGo_zero l r (k + 1) h
          refine ⟨fun x hx => ?_, ih.2⟩
          rcases List.mem_cons.1 hx with e | e
          · rw [e]; exact ⟨hcl, hk⟩
          · exact ih.1 x e
        · rw [if_neg hk] at h; exact absurd h hk
theorem forms_zero {l : List DForm} (h : S.checkForms l = 0) : (∀ f ∈ l, S.class_ f.1 = true ∧ S.checkCols f.2 = 0) ∧ ∀ f ∈ l, S.cfIn l f.2 = true := by
  unfold S.checkForms at h
  by_cases h24 : 24 < l.length
  · rw [if_pos h24] at h; exact absurd h (by decide)
  · rw [if_neg h24] at h
    have := cfGo_zero l l 0 h
    exact ⟨this.1, cfGo2_zero l l this.2⟩
theorem ccGo_zero (l : List DCol) : ∀ (cs : List DCol) (k : Nat), S.ccGo l k cs = 0 → ∀ c ∈ cs, S.within c.2.1 1 3 = true
  | [], _, _ => fun c hc => absurd hc (by simp)
  | c :: r, k, h => by
    rw [S.ccGo] at h
    by_cases h1 : S.small c.1 = false
    · rw [if_pos h1] at h; exact absurd h (by decide)
    rw [if_neg h1] at h
    by_cases h2 : ¬ S.col (l.take k) c.1 < 0
    · rw [if_pos h2] at h; exact absurd h (by decide)
    rw [if_neg h2] at h
    by_cases h3 : S.within c.2.1 1 3 = false
    · rw [if_pos h3] at h; exact absurd h (by decide)
    rw [if_neg h3] at h
    by_cases h4 : ¬ c.2.1 = 3 ∧ ¬ c.2.2 = S.lit []
    · rw [if_pos h4] at h; exact absurd h (by decide)
    rw [if_neg h4] at h
    intro x hx
    rcases List.mem_cons.1 hx with e | e
    · rw [e]; simpa using h3
    · exact ccGo_zero l r (k + 1) h x e
theorem cols_zero {l : List DCol} (h : S.checkCols l = 0) : ∀ c ∈ l, S.within c.2.1 1 3 = true := by
  unfold S.checkCols at h
  by_cases h30 : 30 < l.length
  · rw [if_pos h30] at h; exact absurd h (by decide)
  · rw [if_neg h30] at h; exact ccGo_zero l l 0 h
theorem cfIn_iff (l : List DForm) : ∀ cs : List DCol, S.cfIn l cs = true → ∀ c ∈ cs, c.2.1 = 3 → c.2.2 = S.ANY ∨ 0 ≤ S.form l c.2.2
  | [], _ => fun c hc => absurd hc (by simp)
  | c :: r, h => by
    rw [S.cfIn] at h
    by_cases hc : c.2.1 = 3 ∧ ¬ c.2.2 = S.ANY ∧ S.form l c.2.2 < 0
    · rw [if_pos hc] at h; cases h
    · rw [if_neg hc] at h
      intro x hx h3
      rcases List.mem_cons.1 hx with e | e
      · rw [e] at h3 ⊢
        by_cases hA : c.2.2 = S.ANY
        · exact .inl hA
        · exact .inr (by have : ¬ S.form l c.2.2 < 0 := fun hh => hc ⟨h3, hA, hh⟩; omega)
      · exact cfIn_iff l r h x e h3
theorem class_ne_any {s : ByteArray} (h : S.class_ s = true) : ¬ s = S.ANY := by
  intro e
  rw [e] at h
  exact absurd h (by decide +kernel)
theorem class_ne_nil {s : ByteArray} (h : S.class_ s = true) : ¬ s = S.lit [] := by
  intro e
  rw [e] at h
  exact absurd h (by decide +kernel)
/-- What a column of right classes is. -/
structure ColOK (b : DCol) : Prop where
  kind : S.within b.2.1 1 3 = true
  cls : b.2.1 = 3 → ¬ b.2.2 = S.lit []
theorem col_ok {l : List DForm} (h : S.checkForms l = 0) {f : DForm} (hf : f ∈ l) {c : DCol} (hc : c ∈ f.2) : ColOK c := by
  have hz := forms_zero h
  refine ⟨cols_zero (hz.1 f hf).2 c hc, fun h3 => ?_⟩
  rcases cfIn_iff l f.2 (hz.2 f hf) c hc h3 with e | e
  · rw [e]; decide +kernel
  · obtain ⟨g, _, _, g3, g4⟩ := form_get e
    rw [← g4]
    exact class_ne_nil (hz.1 g g3).1
theorem rleads_eq {l : List DRule} (h1 : ∀ r ∈ l, ¬ r.1 = S.ANY) {a b : DCol} (hb : ¬ b.2.2 = S.lit []) : S.rleads l a b = S.leads l a.2.2 b.2.2 := by
  unfold S.rleads S.leads
  by_cases hA : b.2.2 = S.ANY
  · simp [hA]
  rw [decide_eq_false hA, Bool.false_or, Bool.false_or]
  cases hr : (S.ruleOf l a.2.2).2 with
  | true =>
    have hm := ruleOf_mem hr
    have hn : ¬ a.2.2 = S.ANY := fun e => h1 _ hm.1 (hm.2.trans e)
    rw [decide_eq_true hn]
  | false =>
    have hz : (S.ruleOf l a.2.2).1 = S.zRule := by
      unfold S.ruleOf at hr ⊢
      split at hr
      · cases hr
      · rfl
    rw [hz, Bool.false_and]
    have : ¬ S.zRule.2.1 = b.2.2 := fun e => hb e.symm
    rw [decide_eq_false this, Bool.and_false]
theorem rgive_eq {l : List DRule} (h1 : ∀ r ∈ l, ¬ r.1 = S.ANY) (g : DGive) (cols : List DCol) {b : DCol} (hb : ColOK b) : S.rgive l g cols b = S.give l g cols b := by
  unfold S.rgive S.give S.fromOf S.sourced
  by_cases h4 : S.within g.2.1 1 5 = true ∧ S.col cols g.1 < 0
  · rw [if_pos h4, if_pos h4]
  rw [if_neg h4, if_neg h4]
  generalize hx : (if S.within g.2.1 1 5 = true then S.at_ S.zCol cols (S.col cols g.1) else S.zCol) = x
  have hk := hb.kind
  have hc := hb.cls
  have hle : b.2.1 = 3 → S.rleads l x b = S.leads l x.2.2 b.2.2 := fun h3 => rleads_eq h1 (hc h3)
  have hnum : (S.within g.2.1 1 7 = false ∨ S.numbered g b = false) ↔ (S.within g.2.1 1 7 = false ∨ (S.within g.2.1 1 5 = false ∧ ¬ g.1 = S.lit []) ∨ S.within g.2.2 (-S.most g) (S.most g) = false ∨ (g.2.1 = 6 ∧ b.2.1 = 2 ∧ S.within g.2.2 0 1 = false)) := by
    by_cases h7 : S.within g.2.1 1 7 = false
    · simp [h7]
    have h7' : 1 ≤ g.2.1 ∧ g.2.1 ≤ 7 := by
      simp only [S.within, Bool.and_eq_false_iff, decide_eq_false_iff_not] at h7
      omega
    simp only [h7, false_or]
    unfold S.numbered S.most
    by_cases hn : g.1 = S.lit []
    · by_cases e4 : g.2.1 = 4
      · simp [e4, hn]
      by_cases e6 : g.2.1 = 6
      · by_cases hb2 : b.2.1 = 2
        · simp only [e6, hb2, hn, S.within, if_true]
          simp
          omega
        · simp [e6, hb2, hn]
      · have hm : S.within g.2.2 0 0 = decide (g.2.2 = 0) := by
          unfold S.within
          rw [Bool.eq_iff_iff]
          simp only [Bool.and_eq_true, decide_eq_true_eq]
          omega
        by_cases e7 : g.2.1 = 7 <;> simp [e4, e6, e7, hn, hm]
    · by_cases e4 : g.2.1 = 4
      · simp [e4, hn, S.within]
      by_cases e6 : g.2.1 = 6
      · by_cases hb2 : b.2.1 = 2 <;> simp [e6, hb2, hn, S.within]
      · have hm : S.within g.2.2 0 0 = decide (g.2.2 = 0) := by
          unfold S.within
          rw [Bool.eq_iff_iff]
          simp only [Bool.and_eq_true, decide_eq_true_eq]
          omega
        by_cases e7 : g.2.1 = 7
        · simp [e7, hn, S.within]
        · have h5 : S.within g.2.1 1 5 = true := by
            simp only [S.within, Bool.and_eq_true, decide_eq_true_eq]; omega
          simp [e4, e6, e7, hn, hm, h5]
  by_cases hq : (S.within g.2.1 1 7 = false ∨ S.numbered g b = false)
  · rw [if_pos hq, if_pos (hnum.1 hq)]
  rw [if_neg hq, if_neg (fun h => hq (hnum.2 h))]
  have hq' := fun h => hq (hnum.2 h)
  have hfits : S.rfits l g x b = S.fits l g x b := by
    unfold S.rfits S.fits
    by_cases e1 : g.2.1 = 1
    · rw [if_pos e1, if_pos e1]
      by_cases ea : x.2.1 = b.2.1
      · by_cases eb : b.2.1 = 3
        · rw [hle eb, ea]
        · simp [ea, eb]
      · simp [ea]
    rw [if_neg e1, if_neg e1]
    by_cases e2 : g.2.1 = 2
    · rw [if_pos e2, if_pos e2]
    rw [if_neg e2, if_neg e2]
    by_cases e3 : g.2.1 = 3
    · rw [if_pos e3, if_pos e3]
    rw [if_neg e3, if_neg e3]
    by_cases e4 : g.2.1 = 4
    · rw [if_pos e4, if_pos e4]
    rw [if_neg e4, if_neg e4]
    by_cases e5 : g.2.1 = 5
    · rw [if_pos e5, if_pos e5]
      by_cases eb : b.2.1 = 3
      · rw [hle eb]
      · simp [eb]
    rw [if_neg e5, if_neg e5]
    by_cases e6 : g.2.1 = 6
    · rw [if_pos e6, if_pos e6]
      have hk' : 1 ≤ b.2.1 ∧ b.2.1 ≤ 3 := by
        simpa only [S.within, Bool.and_eq_true, decide_eq_true_eq] using hk
      by_cases eb : b.2.1 = 3
      · simp [eb]
      by_cases eb1 : b.2.1 = 1
      · simp [eb1]
      have eb2 : b.2.1 = 2 := by omega
      have hw : S.within g.2.2 0 1 = true := by
        cases hw : S.within g.2.2 0 1 with
        | true => rfl
        | false => exact absurd (.inr (.inr (.inr ⟨e6, eb2, hw⟩))) hq'
      simp [eb2, hw]
    · rw [if_neg e6, if_neg e6]
  rw [hfits]
end Go.Proofs.YtcnhjofpmpipfaaGreat
end

/- The reference's way of checking rules: its loops. -/
section
set_option linter.unusedVariables false
set_option maxRecDepth 100000
namespace Go.Proofs.YtcnhjofpmpipfaaGreat
open Go Go.Sx Go.RowKit Go.Jx
theorem ruleOf_idx (l : List DRule) (n : ByteArray) : (S.ruleOf l n).2 = !decide (S.idx (fun r : DRule => keqS r.1 n) l < 0) := by
  unfold S.ruleOf
  by_cases h : S.idx (fun r : DRule => keqS r.1 n) l < 0
  · rw [S.idx_neg h, decide_eq_true h]; rfl
  · obtain ⟨x, _, _, _, _, _, e⟩ := S.idx_get (p := fun r : DRule => keqS r.1 n) (l := l) (by omega)
    rw [e, decide_eq_false h]; rfl
theorem rr_inner (a b : List DForm) (l : List DRule) (h1 : ∀ r ∈ l, ¬ r.1 = S.ANY) (K16 : Int → Option Rt_r_ruled) (now was : List DCol) (na nb : ByteArray) (v : DRule) (gs : List DGive) (hv : v.2.2 = gs) (hg : gs.length < LF) (hlen : gs.length = now.length) (i : Nat) (hi : jget l (Int.ofNat i) = some v) (hok : ∀ c ∈ now, ColOK c) :
    G_r_ruled_23 LF a b l K16 LF (now, na, was, nb, Int.ofNat 0, Int.ofNat i) = (if S.crGives l was now gs = 0 then K16 (IntKind.i64.wrap (Int.add (Int.ofNat i) (Int.ofNat 1))) else some (S.crGives l was now gs, ())) := by
  refine range0 (σ := Unit) (R := Rt_r_ruled) (now.zip gs) (fun k _ => (now, na, was, nb, k, Int.ofNat i)) (fun _ _ => True) (fun rest k _ => if S.crGives l was (rest.map Prod.fst) (rest.map Prod.snd) = 0 then K16 (IntKind.i64.wrap (Int.add (Int.ofNat i) (Int.ofNat 1))) else some (S.crGives l was (rest.map Prod.fst) (rest.map Prod.snd), ())) (by rw [List.length_zip]; omega) (fun K s _ => ?_) (fun K k c rest s _ r h => ?_) () trivial |>.trans ?_
  · have e : (now.zip gs).length = now.length := by rw [List.length_zip]; omega
    simp only [R_r_ruled_23, e, ilt_self, cond_false, List.map_nil, S.crGives, if_true]
  · have e : (now.zip gs).length = now.length := by rw [List.length_zip]; omega
    have h := h () trivial
    have hk := r.get?
    have hz := List.getElem?_zip_eq_some.1 hk
    have hc : jget now (Int.ofNat k) = some c.1 := jget_nat.trans hz.1
    have hgk : jget v.2.2 (Int.ofNat k) = some c.2 := by rw [hv]; exact jget_nat.trans hz.2
    have hilt := r.ilt
    rw [e] at hilt
    simp only [R_r_ruled_23, hilt, cond_true, hi, hgk, hc, Prod.eta, r.next, h, List.map_cons, S.crGives]
    rw [rgive_eq h1 c.2 was (hok c.1 (List.mem_of_getElem? hz.1)), ne_zero]
    by_cases h0 : S.give l c.2 was c.1 = 0
    · rw [decide_eq_false (by simpa using h0), cond_false, if_pos h0]
    · rw [decide_eq_true h0, cond_true, if_neg h0, if_neg h0]
  · have e1 : (now.zip gs).map Prod.fst = now := List.map_fst_zip (by omega)
    have e2 : (now.zip gs).map Prod.snd = gs := List.map_snd_zip (by omega)
    rw [e1, e2]
theorem rr_third (a b : List DForm) (l : List DRule) (h1 : ∀ r ∈ l, ¬ r.1 = S.ANY) (hb : S.checkForms b = 0) (hl : l.length < LF) (hw : ∀ r ∈ l, r.2.2.length < LF) (hf : ∀ r ∈ l, 0 ≤ S.form a r.1 ∧ 0 ≤ S.form b r.2.1) : G_r_ruled_16 LF a b l LF (Int.ofNat 0) = some (S.crGo3 a b l l, ()) := by
  refine range1 (R := Rt_r_ruled) l (fun rest i => some (S.crGo3 a b l rest, ())) hl (fun K => ?_) (fun K i v rest r h => ?_)
  · simp only [R_r_ruled_16, ilt_self, cond_false]; rfl
  · obtain ⟨fa, a1, a2, a3, a4⟩ := form_get (hf v r.mem).1
    obtain ⟨fb, b1, b2, b3, b4⟩ := form_get (hf v r.mem).2
    simp only [R_r_ruled_16, r.ilt, r.get, cond_true, a1, b1, ieq_nat]
    rw [S.crGo3, a2, b2]
    by_cases hlen : v.2.2.length = fb.2.length
    · rw [decide_eq_true hlen, Bool.not_true, cond_false, if_pos hlen]
      refine (rr_inner a b l h1 K fb.2 fa.2 fa.1 fb.1 v v.2.2 rfl (hw v r.mem) hlen i r.get fun c hc => col_ok hb b3 hc).trans ?_
      rw [r.next, h]
      split <;> rfl
    · rw [decide_eq_false hlen, Bool.not_false, cond_true, if_neg hlen]
      rfl
theorem rr_second (a b : List DForm) (l : List DRule) (h1 : ∀ r ∈ l, ¬ r.1 = S.ANY) (hb : S.checkForms b = 0) (ha : a.length < LF) (hl : l.length < LF) (hw : ∀ r ∈ l, r.2.2.length < LF) (hf : ∀ r ∈ l, 0 ≤ S.form a r.1 ∧ 0 ≤ S.form b r.2.1) : G_r_ruled_11 LF a b l LF (Int.ofNat 0) = some (S.crGo2 a b l a, ()) := by
  refine range1 (R := Rt_r_ruled) a (fun rest i => some (S.crGo2 a b l rest, ())) ha (fun K => ?_) (fun K i v rest r h => ?_)
  · simp only [R_r_ruled_11, ilt_self, cond_false]
    exact rr_third a b l h1 hb hl hw hf
  · simp only [R_r_ruled_11, r.ilt, r.get, r.next, h, cond_true]
    rw [S.crGo2, ruleOf_idx, iltI_eq]
    simp only [oL]
    by_cases hi : S.idx (fun v1 : DRule => keqS v1.1 v.1) l < 0
    · rw [decide_eq_true hi]; rfl
    · rw [decide_eq_false hi]; rfl
theorem F_r_ruled_eq (a b : List DForm) (l : List DRule) (hA : S.checkForms a = 0) (hB : S.checkForms b = 0) (ha : a.length < LF) (hl : l.length < LF) (hw : ∀ r ∈ l, r.2.2.length < LF) : F_r_ruled LF a b l = some (S.checkRules0 a b l, ()) := by
  simp only [F_r_ruled, R_r_ruled_in, S.checkRules0, ilt_nat]
  by_cases h24 : 24 < l.length
  · rw [decide_eq_true h24, cond_true, if_pos h24]; rfl
  rw [decide_eq_false h24, cond_false, if_neg h24]
  refine range0 (σ := Unit) (R := Rt_r_ruled) l (fun i _ => i) (fun i _ => ∀ r ∈ l.take i, 0 ≤ S.form a r.1 ∧ 0 ≤ S.form b r.2.1) (fun rest i _ => some (S.crGo a b l i rest, ())) hl (fun K s hI => ?_) (fun K i v rest s hI r h => ?_) () (by simp)
  · simp only [R_r_ruled_4, ilt_self, cond_false]
    rw [List.take_length] at hI
    rw [S.crGo]
    refine rr_second a b l (fun r hr => ?_) hB ha hl hw hI
    obtain ⟨f, _, _, f3, f4⟩ := form_get (hI r hr).1
    rw [← f4]
    exact class_ne_any ((forms_zero hA).1 f f3).1
  · simp only [R_r_ruled_4, r.ilt, r.get, r.next, cond_true]
    have ht := idx_take (p := fun x : DRule => keqS x.1 v.1) r.get? (by simp [keqS])
    rw [S.crGo, ruleOf_idx, iltI_eq, iltI_eq, iltI_eq, show Int.ofNat 0 = (0 : Int) from rfl]
    by_cases h1 : S.form a v.1 < 0
    · rw [decide_eq_true h1, cond_true, if_pos h1]; rfl
    by_cases h2 : S.form b v.2.1 < 0
    · rw [decide_eq_false h1, cond_false, if_neg h1, decide_eq_true h2, cond_true, if_pos h2]; rfl
    rw [decide_eq_false h1, cond_false, if_neg h1, decide_eq_false h2, cond_false, if_neg h2]
    by_cases h3 : S.idx (fun x : DRule => keqS x.1 v.1) (l.take i) < 0
    · have hn : ¬ S.idx (fun v3 : DRule => keqS v3.1 v.1) l < Int.ofNat i := fun hh => (ht.1 hh) h3
      rw [decide_eq_false hn, cond_false, decide_eq_true h3, Bool.not_true, if_neg (by simp)]
      refine h () fun q hq => ?_
      rw [r.take, List.mem_append] at hq
      rcases hq with hq | hq
      · exact hI q hq
      · simp only [List.mem_cons, List.not_mem_nil, or_false] at hq
        subst hq
        exact ⟨by omega, by omega⟩
    · have hy : S.idx (fun v3 : DRule => keqS v3.1 v.1) l < Int.ofNat i := ht.2 h3
      rw [decide_eq_true hy, cond_true, decide_eq_false h3, Bool.not_false, if_pos rfl]
      rfl
theorem ruledPre_iff {a b : List DForm} (h : S.ruledPre a b = true) : S.checkForms a = 0 ∧ S.checkForms b = 0 := by
  simpa only [S.ruledPre, Bool.and_eq_true, decide_eq_true_eq] using h
theorem con_r_ruled : Con Tryz.prog id_r_ruled sp_r_ruled := mk_r_ruled ⟨con_r_form, con_r_rule, con_r_given, trivial⟩ fun x y hx h => ⟨LF, by
  have h : cond (S.ruledPre x.1 x.2.1) (some (S.checkRules0 x.1 x.2.1 x.2.2.1, ())) none = some y := h
  cases hr : S.ruledPre x.1 x.2.1 with
  | false => rw [hr] at h; cases h
  | true =>
    rw [hr] at h
    have hp := ruledPre_iff hr
    exact (F_r_ruled_eq _ _ _ hp.1 hp.2 (wf_len hx.1) (wf_len hx.2.2.1) fun r hr => wf_len (hx.2.2.1.2 r hr).2.2).trans h⟩
theorem F_r_CheckRules_eq (lf : Nat) (a b : List DForm) (l : List DRule) : F_r_CheckRules lf a b l = some (S.checkRules a b l, ()) := by
  simp only [F_r_CheckRules, R_r_CheckRules_in, S.checkRules, S.ruledPre, ieqI_eq, S.first]
  simp only [oL]
  by_cases hA : S.checkForms a = 0
  · by_cases hB : S.checkForms b = 0
    · simp [hA, hB]
    · simp [hA, hB]
  · simp [hA]
theorem con_r_CheckRules : Con Tryz.prog id_r_CheckRules sp_r_CheckRules := mk_r_CheckRules ⟨con_rCheckForms, con_r_ruled, trivial⟩ fun x y hx h => ⟨0, (F_r_CheckRules_eq _ _ _ _).trans h⟩
end Go.Proofs.YtcnhjofpmpipfaaGreat
end

/- The reference's way of making a field. -/
section
set_option linter.unusedVariables false
set_option maxRecDepth 100000
namespace Go.Proofs.YtcnhjofpmpipfaaGreat
open Go Go.Sx Go.RowKit Go.Jx
theorem F_r_made_eq (lf : Nat) (f : DForm) (n : DNode) (g : DGive) (b : DCol) (hk : S.within g.2.1 1 7 = true) (h : S.madePre g f.2 n.2 = true) : F_r_made lf f n g b = some (S.made g f.2 n.2 b, ()) := by
  have hk' : 1 ≤ g.2.1 ∧ g.2.1 ≤ 7 := by simpa only [S.within, Bool.and_eq_true, decide_eq_true_eq] using hk
  simp only [F_r_made, R_r_made_in, within_tree, in_tree]
  have h15 : S.within g.2.1 (Int.ofNat 1) (Int.ofNat 5) = decide (g.2.1 ≤ 5) := by
    unfold S.within
    rw [Bool.eq_iff_iff]
    simp only [Bool.and_eq_true, decide_eq_true_eq, oL]
    omega
  rw [h15]
  simp only [S.made, ieqI_eq, oL, iltI_eq]
  by_cases h6 : g.2.1 = 6
  · by_cases h2 : b.2.1 = 2 <;> simp [h6, h2]
  by_cases h7 : g.2.1 = 7
  · simp [h7]
  obtain ⟨p1, p2⟩ := of_decide_eq_true h h6 h7
  obtain ⟨v, e1, e2, e3⟩ := jget_of p1 p2
  have e4 : S.src g f.2 n.2 = v := by unfold S.src S.at_; rw [e2]; rfl
  have h5' : g.2.1 ≤ 5 := by omega
  rw [e1, e4, decide_eq_true h5', cond_true]
  by_cases h2 : g.2.1 = 2
  · simp [h2]
  by_cases h3 : g.2.1 = 3
  · by_cases hv : v.2 < 0
    · have h0 : ¬ 0 ≤ v.2 := by omega
      simp [h3, S.within, hv, h0]
    · have h0 : 0 ≤ v.2 := by omega
      by_cases h1 : 1 < v.2
      · have h1' : ¬ v.2 ≤ 1 := by omega
        simp [h3, S.within, hv, h0, h1, h1']
      · have h1' : v.2 ≤ 1 := by omega
        simp [h3, S.within, hv, h0, h1, h1']
  by_cases h4 : g.2.1 = 4
  · simp [h4]
  by_cases h5 : g.2.1 = 5
  · simp [h5]
  simp [h6, h7, h2, h3, h4, h5]
theorem con_r_made : Con Tryz.prog id_r_made sp_r_made := mk_r_made ⟨con_r_column, trivial⟩ fun x y hx h => ⟨0, by
  have h : cond (S.within x.2.2.1.2.1 1 7 && S.madePre x.2.2.1 x.1.2 x.2.1.2) (some (S.made x.2.2.1 x.1.2 x.2.1.2 x.2.2.2.1, ())) none = some y := h
  cases hr : (S.within x.2.2.1.2.1 1 7 && S.madePre x.2.2.1 x.1.2 x.2.1.2) with
  | false => rw [hr] at h; cases h
  | true =>
    rw [hr] at h
    have hp := Bool.and_eq_true_iff.1 hr
    exact (F_r_made_eq _ _ _ _ _ hp.1 hp.2).trans h⟩
end Go.Proofs.YtcnhjofpmpipfaaGreat
end

/- What the reference's Convert, its comparisons and the law's bounds compute. -/
section
set_option linter.unusedVariables false
noncomputable section
namespace Go.Proofs.YtcnhjofpmpipfaaGreat
open Go Go.Sx Go.RowKit Go.Jx
namespace S
def sameVals (a b : List DVal) : Bool := decide (a = b)
def sameGraphs (a b : DGraph) : Bool := decide (a = b)
end S
def sp_r_Convert : Sm := ⟨[.list cForm, .list cForm, .list cRule, cGraph], [(false, cR22Converted)], fun x => some (S.convert x.1 x.2.1 x.2.2.1 x.2.2.2.1, ())⟩
def sp_r_SameVals : Sm := ⟨[.list cVal, .list cVal], [(false, .bool)], fun x => some (S.sameVals x.1 x.2.1, ())⟩
def sp_r_SameGraphs : Sm := ⟨[cGraph, cGraph], [(false, .bool)], fun x => some (S.sameGraphs x.1 x.2.1, ())⟩
namespace S
def fewForms (l : List DForm) : Bool :=
  l.all (fun f => decide (f.1.size ≤ 30 ∧ (f.2.length ≤ 6 ∨ 30 < f.2.length) ∧ f.2.length ≤ 40) && f.2.all fun c => decide (c.1.size ≤ 30 ∧ c.2.2.size ≤ 30)) && decide (l.length ≤ 6 ∨ 24 < l.length ∧ l.length ≤ 30)
def few (g : DGraph) : Bool :=
  g.1.all (fun n => decide ((n.2.length ≤ 8 ∨ 30 < n.2.length) ∧ n.2.length ≤ 40)) && decide ((g.1.length ≤ 30 ∨ 400 < g.1.length ∧ g.1.length ≤ 410) ∧ (g.2.length ≤ 10 ∨ 60 < g.2.length ∧ g.2.length ≤ 70))
def fewRules (l : List DRule) : Bool := l.all (fun r => decide (r.2.2.length ≤ 8)) && decide (l.length ≤ 8 ∨ 24 < l.length ∧ l.length ≤ 30)
end S
def sp_l_fewForms : Sm := ⟨[.list cForm], [(false, .bool)], fun x => some (S.fewForms x.1, ())⟩
def sp_l_few : Sm := ⟨[cGraph], [(false, .bool)], fun x => some (S.few x.1, ())⟩
def sp_l_fewRules : Sm := ⟨[.list cRule], [(false, .bool)], fun x => some (S.fewRules x.1, ())⟩
/-- The closed check answers yes. -/
def sp_l_sanity : Sm := ⟨[], [(false, .bool)], fun _ => some (true, ())⟩
def sp_l_PackConverts : Sm := ⟨[.list cForm, .list cForm, .list cRule, cGraph], [(false, .bool)], fun _ => some (true, ())⟩
end Go.Proofs.YtcnhjofpmpipfaaGreat

end
end

/- The closed check answers yes. -/
section
set_option linter.unusedVariables false
set_option maxRecDepth 100000
namespace Go.Proofs.YtcnhjofpmpipfaaGreat
open Go Go.Sx Go.RowKit Go.Jx
def exN : Ex := fun _ => none
def isR (o : Option Res) : Bool := match o with
  | some r => (match runR sp_l_sanity r with
    | some y => y.1
    | none => false)
  | none => false
theorem isR_spec {o : Option Res} (h : isR o = true) : ∃ r, o = some r ∧ runR sp_l_sanity r = some (true, ()) := by
  cases o with
  | none => cases h
  | some r =>
    refine ⟨r, rfl, ?_⟩
    unfold isR at h
    cases hr : runR sp_l_sanity r with
    | none => simp only [hr] at h; cases h
    | some y =>
      simp only [hr] at h
      exact congrArg some (Prod.ext h rfl)
theorem san10 : isR (icall Tryz.prog ttT.get ftT.get (fun _ _ => none) exN 1000 100 (.fn 10) [] S0) = true := by kernel_rfl
end Go.Proofs.YtcnhjofpmpipfaaGreat
end

/- Made by program: plain forms of functions. -/
section
set_option linter.unusedVariables false
set_option maxRecDepth 100000
noncomputable section
namespace Go.Proofs.YtcnhjofpmpipfaaGreat
open Go Go.Sx Go.RowKit Go.Jx
def nm_r_Convert : Nat → Option Nm := fun k => cond (Nat.beq k 8) (some ⟨[0, 1, 2, 7, 8, 10, 11], [], [(10, 0, cNode)], [], [], 0, 0, false⟩) (cond (Nat.beq k 15) (some ⟨[0, 1, 2, 7, 8, 10, 11, 12, 13, 14, 15, 16], [], [(10, 0, cNode), (15, 1, cVal)], [], [], 0, 0, false⟩) (none))
def st_r_Convert : Nat → Bool := fun k => cond (Nat.beq k 8) true (cond (Nat.beq k 15) true (false))
def hd_r_Convert : Nat → Bool := fun k => cond (Nat.beq k 8) true (cond (Nat.beq k 15) true (false))
abbrev Rt_r_Convert : Type := DR22Converted × Unit
def sml_r_Convert : List (Nat × Sm) := [(22, sp_r_CheckRules), (39, sp_r_Check), (40, sp_r_form), (41, sp_r_rule), (42, sp_r_made)]
def hxl_r_Convert : List (Nat × Hx) := []
def cl_r_Convert (R : Type) (lf : Nat) : ClK R := icallK Tryz.prog ttT.get ftT.get (nm1 12 nm_r_Convert) (smL sml_r_Convert) (hxL hxl_r_Convert) lf 20 R
abbrev id_r_Convert : Nat := 12
def enc_r_Convert_8 (x1 : (List DForm)) (x2 : (List DForm)) (x3 : (List DRule)) (x4 : DGraph) (p : Int × (List DNode)) : NRes := (NRes.mk (PT.node (some (IV.lst cForm x1)) (PT.node (some (IV.lst cForm x2)) (PT.node none (PT.node (some (IV.ptr 0 0)) PT.leaf PT.leaf) (PT.node (some (IV.int Go.IntKind.i64 p.1)) PT.leaf PT.leaf)) PT.leaf) (PT.node (some (IV.lst cRule x3)) (PT.node none (PT.node (some (IV.ptr 1 0)) PT.leaf PT.leaf) PT.leaf) (PT.node none (PT.node (some (IV.ptr 2 0)) PT.leaf PT.leaf) PT.leaf))) (IS.mk (PT.node (some (IObj.row (List.cons (IV.lst cNode x4.1) (List.cons (IV.lst cVal x4.2) [])))) (PT.node (some (IObj.row (List.cons IV.nilsl (List.cons IV.nilsl (List.cons (IV.int Go.IntKind.i64 (Int.ofNat 0)) (List.cons (IV.str (S.lit [])) (List.cons (IV.int Go.IntKind.i64 (Int.ofNat 0)) []))))))) (PT.node (some (IObj.arr cNode p.2)) PT.leaf PT.leaf) PT.leaf) (PT.node (some (IObj.row (List.cons (IV.arr 3) (List.cons IV.nilsl (List.cons (IV.int Go.IntKind.i64 (Int.ofNat 0)) (List.cons (IV.str (S.lit [])) (List.cons (IV.int Go.IntKind.i64 (Int.ofNat 0)) []))))))) PT.leaf PT.leaf)) 4) [] 0)
def enc_r_Convert_15 (x1 : (List DForm)) (x2 : (List DForm)) (x3 : (List DRule)) (x4 : DGraph) (p : (List DCol) × ByteArray × (List DCol) × ByteArray × ByteArray × ByteArray × (List DGive) × Int × (List DVal) × Int × (List DNode)) : NRes := (NRes.mk (PT.node (some (IV.lst cForm x1)) (PT.node (some (IV.lst cForm x2)) (PT.node none (PT.node (some (IV.ptr 0 0)) (PT.node (some (IV.ptr 6 0)) PT.leaf PT.leaf) PT.leaf) (PT.node (some (IV.int Go.IntKind.i64 p.2.2.2.2.2.2.2.2.2.1)) PT.leaf PT.leaf)) (PT.node none PT.leaf (PT.node (some (IV.ptr 4 0)) PT.leaf PT.leaf))) (PT.node (some (IV.lst cRule x3)) (PT.node none (PT.node (some (IV.ptr 1 0)) (PT.node (some (IV.int Go.IntKind.i64 p.2.2.2.2.2.2.2.1)) PT.leaf PT.leaf) PT.leaf) (PT.node (some (IV.ptr 3 0)) PT.leaf PT.leaf)) (PT.node none (PT.node (some (IV.ptr 2 0)) PT.leaf PT.leaf) (PT.node (some (IV.ptr 5 0)) PT.leaf PT.leaf)))) (IS.mk (PT.node (some (IObj.row (List.cons (IV.lst cNode x4.1) (List.cons (IV.lst cVal x4.2) [])))) (PT.node (some (IObj.row (List.cons IV.nilsl (List.cons IV.nilsl (List.cons (IV.int Go.IntKind.i64 (Int.ofNat 0)) (List.cons (IV.str (S.lit [])) (List.cons (IV.int Go.IntKind.i64 (Int.ofNat 0)) []))))))) (PT.node (some (IObj.row (List.cons (IV.str p.2.1) (List.cons (IV.lst cCol p.2.2.1) [])))) (PT.node (some (IObj.arr cNode p.2.2.2.2.2.2.2.2.2.2)) PT.leaf PT.leaf) PT.leaf) (PT.node (some (IObj.row (List.cons (IV.str p.2.2.2.2.1) (List.cons (IV.lst cCol p.1) [])))) PT.leaf PT.leaf)) (PT.node (some (IObj.row (List.cons (IV.arr 7) (List.cons IV.nilsl (List.cons (IV.int Go.IntKind.i64 (Int.ofNat 0)) (List.cons (IV.str (S.lit [])) (List.cons (IV.int Go.IntKind.i64 (Int.ofNat 0)) []))))))) (PT.node (some (IObj.row (List.cons (IV.str p.2.2.2.1) (List.cons (IV.str p.2.2.2.2.2.1) (List.cons (IV.lst cGive p.2.2.2.2.2.2.1) []))))) (PT.node (some (IObj.arr cVal p.2.2.2.2.2.2.2.2.1)) PT.leaf PT.leaf) PT.leaf) (PT.node (some (IObj.row (List.cons (IV.str p.2.2.2.2.2.1) (List.cons (IV.arr 8) [])))) PT.leaf PT.leaf))) 9) [] 0)
def R_r_Convert_in (lf : Nat) (x1 : (List DForm)) (x2 : (List DForm)) (x3 : (List DRule)) (x4 : DGraph) (L8 : (Int × (List DNode)) → Option Rt_r_Convert) : Option Rt_r_Convert := (cond (ieqI (Go.Proofs.YtcnhjofpmpipfaaGreat.S.checkRules x1 x2 x3) (Int.ofNat 0)) (cond (Bool.not (ieqI (Go.Proofs.YtcnhjofpmpipfaaGreat.S.checkG x1 (x4.1, x4.2)) (Int.ofNat 0))) (some ((([], []), (((Int.ofNat 0), (S.lit [])), (Go.Proofs.YtcnhjofpmpipfaaGreat.S.checkG x1 (x4.1, x4.2)))), ())) (L8 ((Int.ofNat 0), []))) (cond (Bool.not (ieqI (Go.Proofs.YtcnhjofpmpipfaaGreat.S.checkRules x1 x2 x3) (Int.ofNat 0))) (some ((([], []), (((Int.ofNat 0), (S.lit [])), (Go.Proofs.YtcnhjofpmpipfaaGreat.S.checkRules x1 x2 x3))), ())) (L8 ((Int.ofNat 0), []))))
def R_r_Convert_8 (lf : Nat) (x1 : (List DForm)) (x2 : (List DForm)) (x3 : (List DRule)) (x4 : DGraph) (L15 : ((List DCol) × ByteArray × (List DCol) × ByteArray × ByteArray × ByteArray × (List DGive) × Int × (List DVal) × Int × (List DNode)) → Option Rt_r_Convert) (p : Int × (List DNode)) : Option Rt_r_Convert := (cond (iltI p.1 (Int.ofNat (List.length x4.1))) (match (jget x4.1 p.1) with | .none  => none | .some v0 => (match (jget x1 (Go.Proofs.YtcnhjofpmpipfaaGreat.S.form x1 v0.1)) with | .none  => none | .some v1 => (match (jget x4.1 p.1) with | .none  => none | .some v2 => (match (jget x3 (S.idx (fun v3 => (keqS v3.1 v2.1)) x3)) with | .none  => none | .some v4 => (match (jget x2 (Go.Proofs.YtcnhjofpmpipfaaGreat.S.form x2 v4.2.1)) with | .none  => none | .some v5 => (L15 (v5.2, v1.1, v1.2, v4.1, v5.1, v4.2.1, v4.2.2, (Int.ofNat 0), [], p.1, p.2))))))) (cond (Nat.ble (Nat.mul (Nat.add 0 (List.length x4.2)) 16) 140737488355328) (some (((p.2, x4.2), (((Int.ofNat 0), (S.lit [])), (Int.ofNat 0))), ())) none))
def R_r_Convert_15 (lf : Nat) (x1 : (List DForm)) (x2 : (List DForm)) (x3 : (List DRule)) (x4 : DGraph) (L15 : ((List DCol) × ByteArray × (List DCol) × ByteArray × ByteArray × ByteArray × (List DGive) × Int × (List DVal) × Int × (List DNode)) → Option Rt_r_Convert) (L8 : (Int × (List DNode)) → Option Rt_r_Convert) (p : (List DCol) × ByteArray × (List DCol) × ByteArray × ByteArray × ByteArray × (List DGive) × Int × (List DVal) × Int × (List DNode)) : Option Rt_r_Convert := (cond (iltI p.2.2.2.2.2.2.2.1 (Int.ofNat (List.length p.1))) (match (jget x4.1 p.2.2.2.2.2.2.2.2.2.1) with | .none  => none | .some v0 => (match (jget p.2.2.2.2.2.2.1 p.2.2.2.2.2.2.2.1) with | .none  => none | .some v1 => (match (jget p.1 p.2.2.2.2.2.2.2.1) with | .none  => none | .some v2 => (match (cond (Bool.and (Go.Proofs.YtcnhjofpmpipfaaGreat.S.within v1.2.1 (Int.ofNat 1) (Int.ofNat 7)) (Go.Proofs.YtcnhjofpmpipfaaGreat.S.madePre (v1.1, (v1.2.1, v1.2.2)) p.2.2.1 v0.2)) (some ((Go.Proofs.YtcnhjofpmpipfaaGreat.S.made (v1.1, (v1.2.1, v1.2.2)) p.2.2.1 v0.2 (v2.1, (v2.2.1, v2.2.2))), ())) none) with | .none  => none | .some v3 => (cond (Bool.not v3.1.2) (match (jget p.1 p.2.2.2.2.2.2.2.1) with | .none  => none | .some v4 => (some ((([], []), ((p.2.2.2.2.2.2.2.2.2.1, v4.1), (Int.ofNat 10))), ()))) (cond (Nat.ble (Nat.mul (Nat.add (List.length p.2.2.2.2.2.2.2.2.1) 1) 16) 140737488355328) (L15 (p.1, p.2.1, p.2.2.1, p.2.2.2.1, p.2.2.2.2.1, p.2.2.2.2.2.1, p.2.2.2.2.2.2.1, (Go.IntKind.wrap Go.IntKind.i64 (Int.add p.2.2.2.2.2.2.2.1 (Int.ofNat 1))), (List.append p.2.2.2.2.2.2.2.2.1 (List.cons (v3.1.1.1, v3.1.1.2) [])), p.2.2.2.2.2.2.2.2.2.1, p.2.2.2.2.2.2.2.2.2.2)) none)))))) (cond (Nat.ble (Nat.mul (Nat.add (List.length p.2.2.2.2.2.2.2.2.2.2) 1) 40) 140737488355328) (L8 ((Go.IntKind.wrap Go.IntKind.i64 (Int.add p.2.2.2.2.2.2.2.2.2.1 (Int.ofNat 1))), (List.append p.2.2.2.2.2.2.2.2.2.2 (List.cons (p.2.2.2.2.2.1, p.2.2.2.2.2.2.2.2.1) [])))) none))
theorem in_r_Convert (g : ElA [(.list cForm), (.list cForm), (.list cRule), cGraph] → Option Rt_r_Convert) (J : Nat → List Nat → NRes → Option Rt_r_Convert) (lf : Nat) (x1 : (List DForm)) (x2 : (List DForm)) (x3 : (List DRule)) (x4 : DGraph) : icodeT Tryz.prog ttT.get nm_r_Convert fi12.nt (cl_r_Convert _ lf) lf st_r_Convert J fi12.body [] (argGo (argV [(.list cForm), (.list cForm), (.list cRule), cGraph] (x1, x2, x3, x4, ())) 0 .leaf) S0 [] (lastK ttT.get fi12 ⟨[(.list cForm), (.list cForm), (.list cRule), cGraph], [(false, cR22Converted)], g⟩) = R_r_Convert_in lf x1 x2 x3 x4 (fun q => J 8 [lf] (enc_r_Convert_8 x1 x2 x3 x4 q)) := by kernel_rfl
theorem st_r_Convert_8 (g : ElA [(.list cForm), (.list cForm), (.list cRule), cGraph] → Option Rt_r_Convert) (J : Nat → List Nat → NRes → Option Rt_r_Convert) (lf : Nat) (x1 : (List DForm)) (x2 : (List DForm)) (x3 : (List DRule)) (x4 : DGraph) (m1 : Nat) (p : Int × (List DNode)) : icodeFT Tryz.prog ttT.get nm_r_Convert fi12.nt (cl_r_Convert _ lf) lf st_r_Convert J 8 fi12.body [] [m1] (enc_r_Convert_8 x1 x2 x3 x4 p) (lastK ttT.get fi12 ⟨[(.list cForm), (.list cForm), (.list cRule), cGraph], [(false, cR22Converted)], g⟩) = R_r_Convert_8 lf x1 x2 x3 x4 (fun q => J 15 [m1, lf] (enc_r_Convert_15 x1 x2 x3 x4 q)) p := by kernel_rfl
theorem st_r_Convert_15 (g : ElA [(.list cForm), (.list cForm), (.list cRule), cGraph] → Option Rt_r_Convert) (J : Nat → List Nat → NRes → Option Rt_r_Convert) (lf : Nat) (x1 : (List DForm)) (x2 : (List DForm)) (x3 : (List DRule)) (x4 : DGraph) (m1 : Nat) (m2 : Nat) (p : (List DCol) × ByteArray × (List DCol) × ByteArray × ByteArray × ByteArray × (List DGive) × Int × (List DVal) × Int × (List DNode)) : icodeFT Tryz.prog ttT.get nm_r_Convert fi12.nt (cl_r_Convert _ lf) lf st_r_Convert J 15 fi12.body [] [m1, m2] (enc_r_Convert_15 x1 x2 x3 x4 p) (lastK ttT.get fi12 ⟨[(.list cForm), (.list cForm), (.list cRule), cGraph], [(false, cR22Converted)], g⟩) = R_r_Convert_15 lf x1 x2 x3 x4 (fun q => J 15 [m1, m2] (enc_r_Convert_15 x1 x2 x3 x4 q)) (fun q => J 8 [m1] (enc_r_Convert_8 x1 x2 x3 x4 q)) p := by kernel_rfl
theorem nd_r_Convert : (regs fi12.body).Nodup := by decide +kernel
theorem ok_r_Convert : okC nm_r_Convert st_r_Convert hd_r_Convert fi12.body none = true := by kernel_rfl
def A_r_Convert (g : ElA [(.list cForm), (.list cForm), (.list cRule), cGraph] → Option Rt_r_Convert) (lf : Nat) : Nat → List Nat → NRes → Option Rt_r_Convert := atN Tryz.prog ttT.get nm_r_Convert fi12 ⟨[(.list cForm), (.list cForm), (.list cRule), cGraph], [(false, cR22Converted)], g⟩ (cl_r_Convert _ lf) lf hd_r_Convert
def G_r_Convert_15 (lf : Nat) (x1 : (List DForm)) (x2 : (List DForm)) (x3 : (List DRule)) (x4 : DGraph) (K8 : (Int × (List DNode)) → Option Rt_r_Convert) : Nat → ((List DCol) × ByteArray × (List DCol) × ByteArray × ByteArray × ByteArray × (List DGive) × Int × (List DVal) × Int × (List DNode)) → Option Rt_r_Convert := rounds fun K p => R_r_Convert_15 lf x1 x2 x3 x4 K K8 p
theorem at_r_Convert_15 (g : ElA [(.list cForm), (.list cForm), (.list cRule), cGraph] → Option Rt_r_Convert) (lf : Nat) (x1 : (List DForm)) (x2 : (List DForm)) (x3 : (List DRule)) (x4 : DGraph) (m1 : Nat) : ∀ (n : Nat) (p : (List DCol) × ByteArray × (List DCol) × ByteArray × ByteArray × ByteArray × (List DGive) × Int × (List DVal) × Int × (List DNode)), A_r_Convert g lf 15 [m1, n] (enc_r_Convert_15 x1 x2 x3 x4 p) = G_r_Convert_15 lf x1 x2 x3 x4 (fun q => A_r_Convert g lf 8 [m1] (enc_r_Convert_8 x1 x2 x3 x4 q)) n p
  | 0, p => atN_zero 15 [m1, 0] rfl _
  | n + 1, p => by
    have ih := at_r_Convert_15 g lf x1 x2 x3 x4 m1 n
    refine (atN_eq (icallK_eq 20 _) nd_r_Convert ok_r_Convert 15 [m1, n + 1] [m1, n] rfl _).trans ((st_r_Convert_15 g (A_r_Convert g lf) lf x1 x2 x3 x4 m1 n p).trans ?_)
    rw [(show (fun q => A_r_Convert g lf 15 [m1, n] (enc_r_Convert_15 x1 x2 x3 x4 q)) = (fun q => G_r_Convert_15 lf x1 x2 x3 x4 (fun q => A_r_Convert g lf 8 [m1] (enc_r_Convert_8 x1 x2 x3 x4 q)) n q) from funext ih)]
    rfl
def G_r_Convert_8 (lf : Nat) (x1 : (List DForm)) (x2 : (List DForm)) (x3 : (List DRule)) (x4 : DGraph) : Nat → (Int × (List DNode)) → Option Rt_r_Convert := rounds fun K p => R_r_Convert_8 lf x1 x2 x3 x4 (fun q => G_r_Convert_15 lf x1 x2 x3 x4 K lf q) p
theorem at_r_Convert_8 (g : ElA [(.list cForm), (.list cForm), (.list cRule), cGraph] → Option Rt_r_Convert) (lf : Nat) (x1 : (List DForm)) (x2 : (List DForm)) (x3 : (List DRule)) (x4 : DGraph) : ∀ (n : Nat) (p : Int × (List DNode)), A_r_Convert g lf 8 [n] (enc_r_Convert_8 x1 x2 x3 x4 p) = G_r_Convert_8 lf x1 x2 x3 x4 n p
  | 0, p => atN_zero 8 [0] rfl _
  | n + 1, p => by
    have ih := at_r_Convert_8 g lf x1 x2 x3 x4 n
    refine (atN_eq (icallK_eq 20 _) nd_r_Convert ok_r_Convert 8 [n + 1] [n] rfl _).trans ((st_r_Convert_8 g (A_r_Convert g lf) lf x1 x2 x3 x4 n p).trans ?_)
    rw [(show (fun q => A_r_Convert g lf 15 [n, lf] (enc_r_Convert_15 x1 x2 x3 x4 q)) = (fun q => G_r_Convert_15 lf x1 x2 x3 x4 (fun q => A_r_Convert g lf 8 [n] (enc_r_Convert_8 x1 x2 x3 x4 q)) lf q) from funext fun q => at_r_Convert_15 g lf x1 x2 x3 x4 n lf q), (show (fun q => A_r_Convert g lf 8 [n] (enc_r_Convert_8 x1 x2 x3 x4 q)) = (fun q => G_r_Convert_8 lf x1 x2 x3 x4 n q) from funext ih)]
    rfl
def F_r_Convert (lf : Nat) (x1 : (List DForm)) (x2 : (List DForm)) (x3 : (List DRule)) (x4 : DGraph) : Option Rt_r_Convert := R_r_Convert_in lf x1 x2 x3 x4 (fun q => G_r_Convert_8 lf x1 x2 x3 x4 lf q)
theorem run_r_Convert (g : ElA [(.list cForm), (.list cForm), (.list cRule), cGraph] → Option Rt_r_Convert) (lf : Nat) (x1 : (List DForm)) (x2 : (List DForm)) (x3 : (List DRule)) (x4 : DGraph) : icodeT Tryz.prog ttT.get nm_r_Convert fi12.nt (cl_r_Convert _ lf) lf st_r_Convert (A_r_Convert g lf) fi12.body [] (argGo (argV [(.list cForm), (.list cForm), (.list cRule), cGraph] (x1, x2, x3, x4, ())) 0 .leaf) S0 [] (lastK ttT.get fi12 ⟨[(.list cForm), (.list cForm), (.list cRule), cGraph], [(false, cR22Converted)], g⟩) = F_r_Convert lf x1 x2 x3 x4 := by
    refine (in_r_Convert g (A_r_Convert g lf) lf x1 x2 x3 x4).trans ?_
    rw [(show (fun q => A_r_Convert g lf 8 [lf] (enc_r_Convert_8 x1 x2 x3 x4 q)) = (fun q => G_r_Convert_8 lf x1 x2 x3 x4 lf q) from funext fun q => at_r_Convert_8 g lf x1 x2 x3 x4 lf q)]
    rfl
theorem hxs_r_Convert : HxsOK Tryz.prog hxl_r_Convert := trivial
theorem mk_r_Convert {g : ElA [(.list cForm), (.list cForm), (.list cRule), cGraph] → Option Rt_r_Convert} (hsm : SmOK Tryz.prog sml_r_Convert) (hg : ∀ (x : ElA [(.list cForm), (.list cForm), (.list cRule), cGraph]) (y : Rt_r_Convert), WfA [(.list cForm), (.list cForm), (.list cRule), cGraph] x → g x = some y → ∃ lf, F_r_Convert lf x.1 x.2.1 x.2.2.1 x.2.2.2.1 = some y) : Con Tryz.prog 12 ⟨[(.list cForm), (.list cForm), (.list cRule), cGraph], [(false, cR22Converted)], g⟩ :=
  conT (nmf := nm_r_Convert) (sml := sml_r_Convert) (hxl := hxl_r_Convert) (st := st_r_Convert) (hd := hd_r_Convert) 20 mixed ttOK ftOK hsm hxs_r_Convert cal12 rfl rfl (by kernel_rfl) (fun x => by kernel_rfl) nd_r_Convert ok_r_Convert fun x y hx hy => by
    obtain ⟨lf, h⟩ := hg x y hx hy
    exact ⟨lf, (run_r_Convert g lf x.1 x.2.1 x.2.2.1 x.2.2.2.1).trans h⟩
end Go.Proofs.YtcnhjofpmpipfaaGreat

end
end
