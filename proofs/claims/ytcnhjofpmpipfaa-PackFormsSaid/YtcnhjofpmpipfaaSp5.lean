/- The plain law: the package's checks and the reference's agree. -/
import Derived.Test.YtcnhjofpmpipfaaSp3
import Derived.Laws.RangeAny
set_option linter.unusedVariables false
namespace Pk
open Go Go.Sx

/-! ### Names -/
theorem byteAt_get {s : ByteArray} {i : Nat} (h : i < s.size) : byteAt s i = s[i]'h := by
  unfold byteAt
  rw [List.getD_eq_getElem?_getD, List.getElem?_eq_getElem (by simpa using h)]
  rfl
theorem byteAt_mem {s : ByteArray} {i : Nat} (h : i < s.size) : byteAt s i ∈ sbytes s := List.mem_of_getElem? (bytes_get h)
theorem mem_byteAt {s : ByteArray} {b : UInt8} (h : b ∈ sbytes s) : ∃ i, i < s.size ∧ byteAt s i = b := by
  obtain ⟨i, hi, rfl⟩ := List.mem_iff_getElem.1 h
  have hi' : i < s.size := by rw [← bytes_length]; exact hi
  refine ⟨i, hi', ?_⟩
  have := bytes_get hi'
  rw [List.getElem?_eq_getElem hi] at this
  exact (Option.some.inj this).symm
theorem runeGo_neg {s : ByteArray} {p : I32 → Bool} (hp : ∀ r : Int, 128 ≤ r → p ⟨r⟩ = true) : ∀ (f pos : Nat), s.size ≤ pos + f → (runeGo s p true f pos < 0 ↔ ∀ i, pos ≤ i → i < s.size → p ⟨(byteAt s i).toNat⟩ = false)
  | 0, pos, h => by
    simp only [runeGo]
    exact ⟨fun _ i h1 h2 => by omega, fun _ => by omega⟩
  | f + 1, pos, h => by
    unfold runeGo
    by_cases hlt : pos < s.size
    · rw [if_pos hlt]
      by_cases ha : (byteAt s pos).toNat < 128
      · have hd := decode_ascii s pos hlt (by rw [← byteAt_get hlt]; exact ha)
        rw [← byteAt_get hlt] at hd
        rw [hd]
        cases hb : p ⟨((byteAt s pos).toNat : Int)⟩ with
        | true =>
          simp only [if_true]
          exact ⟨fun h => (by omega), fun h => by have := h pos (Nat.le_refl _) hlt; rw [hb] at this; cases this⟩
        | false =>
          rw [if_neg (by simp)]
          rw [runeGo_neg hp f (pos + 1) (by omega)]
          refine ⟨fun h i h1 h2 => ?_, fun h i h1 h2 => h i (by omega) h2⟩
          by_cases e : i = pos
          · subst e; exact hb
          · exact h i (by omega) h2
      · have hd := decode_high s pos hlt (by rw [← byteAt_get hlt]; omega)
        rw [hp _ (by have := hd.1; omega), if_pos rfl]
        refine ⟨fun h => (by omega), fun h => ?_⟩
        have := h pos (Nat.le_refl _) hlt
        rw [hp _ (by omega)] at this; cases this
    · rw [if_neg hlt]
      exact ⟨fun _ i h1 h2 => by omega, fun _ => by omega⟩
theorem runeIdx_neg {s : ByteArray} {lo hi : UInt8} (hh : hi.toNat < 128) : (runeIdx s (fun (r : I32) => badRune r.v lo hi) < 0) ↔ ∀ b ∈ sbytes s, badRune (b.toNat : Int) lo hi = false := by
  unfold runeIdx runeIdxT
  rw [runeGo_neg (fun r hr => by simp [badRune]; omega) _ _ (by omega)]
  refine ⟨fun h b hb => ?_, fun h i _ hi => h _ (byteAt_mem hi)⟩
  obtain ⟨i, hi, rfl⟩ := mem_byteAt hb
  exact h i (Nat.zero_le _) hi
theorem size_zero {s : ByteArray} : s = ⟨#[]⟩ ↔ s.size = 0 := by
  obtain ⟨a⟩ := s
  simp [ByteArray.size]
theorem named_iff {s : ByteArray} {lo hi : UInt8} (hh : hi.toNat < 128) : named s lo hi = true ↔ 0 < s.size ∧ s.size ≤ 20 ∧ lo.toNat ≤ (byteAt s 0).toNat ∧ (byteAt s 0).toNat ≤ hi.toNat ∧ ∀ b ∈ sbytes s, badRune (b.toNat : Int) lo hi = false := by
  unfold named
  rw [← runeIdx_neg hh]
  by_cases h0 : s = ⟨#[]⟩
  · rw [if_pos h0]
    have := size_zero.1 h0
    exact ⟨fun h => (by cases h), fun h => by omega⟩
  · rw [if_neg h0]
    have h0' : 0 < s.size := by
      have : ¬ s.size = 0 := fun h => h0 (size_zero.2 h)
      omega
    by_cases h1 : (20 : Int) < s.size
    · rw [if_pos h1]; exact ⟨fun h => (by cases h), fun h => by omega⟩
    rw [if_neg h1]
    by_cases h2 : ((byteAt s 0).toNat : Int) < lo.toNat
    · rw [if_pos h2]; exact ⟨fun h => (by cases h), fun h => by omega⟩
    rw [if_neg h2]
    by_cases h3 : (hi.toNat : Int) < (byteAt s 0).toNat
    · rw [if_pos h3]; exact ⟨fun h => (by cases h), fun h => by omega⟩
    rw [if_neg h3, decide_eq_true_iff]
    exact ⟨fun h => ⟨h0', by omega, by omega, by omega, h⟩, fun h => h.2.2.2.2⟩
theorem sidxGo_neg (v : ByteArray) : ∀ (l : List ByteArray) (k : Nat), 0 ≤ sidxGo v k l ↔ v ∈ l
  | [], k => by simp [sidxGo]
  | x :: l, k => by
    unfold sidxGo
    by_cases h : v = x
    · rw [if_pos h]; simp [h]
    · rw [if_neg h, sidxGo_neg v l (k + 1)]; simp [h]
theorem shas_iff (l : List ByteArray) (v : ByteArray) : shas l v = true ↔ v ∈ l := by
  unfold shas sidx; rw [decide_eq_true_iff]; exact sidxGo_neg v l 0
theorem rhas_iff (v : ByteArray) : ∀ (l : List ByteArray), rhas l v = true ↔ v ∈ l
  | [] => by simp [rhas, rhasGo]
  | x :: l => by
    have := rhas_iff v l
    unfold rhas at this ⊢
    unfold rhasGo
    by_cases h : x = v
    · rw [if_pos h]; simp [h]
    · rw [if_neg h, this]; simp [Ne.symm h]
theorem allSmall_iff : ∀ (l : List UInt8), allSmall l = true ↔ ∀ b ∈ l, okSmall b = true
  | [] => by simp [allSmall]
  | b :: l => by
    unfold allSmall
    cases h : okSmall b with
    | true => rw [if_pos rfl, allSmall_iff l]; simp [h]
    | false => rw [if_neg (by simp)]; simp [h]
theorem okSmall_iff (b : UInt8) : okSmall b = true ↔ badRune (b.toNat : Int) 97 122 = false := by
  simp only [okSmall, badRune, Bool.or_eq_true, Bool.and_eq_true, decide_eq_true_iff, Bool.not_eq_false']
  exact Iff.rfl
theorem smallB_eq (s : ByteArray) : smallB s = rsmallNamed s := by
  rw [Bool.eq_iff_iff]
  unfold smallB
  rw [Bool.and_eq_true, named_iff (by decide), Bool.not_eq_true', ← Bool.not_eq_true, shas_iff]
  have ha : allSmall (sbytes s) = true ↔ ∀ b ∈ sbytes s, badRune (b.toNat : Int) 97 122 = false := by
    rw [allSmall_iff]; exact ⟨fun h b hb => (okSmall_iff b).1 (h b hb), fun h b hb => (okSmall_iff b).2 (h b hb)⟩
  unfold rsmallNamed
  have e1 : (97 : UInt8).toNat = 97 := rfl
  have e2 : (122 : UInt8).toNat = 122 := rfl
  rw [e1, e2]
  by_cases h1 : (s.size : Int) < 1
  · rw [if_pos h1]; exact ⟨fun h => (by omega), fun h => (by cases h)⟩
  rw [if_neg h1]
  by_cases h2 : (20 : Int) < s.size
  · rw [if_pos h2]; exact ⟨fun h => (by omega), fun h => (by cases h)⟩
  rw [if_neg h2]
  by_cases h3 : ((byteAt s 0).toNat : Int) < 97
  · rw [if_pos h3]; exact ⟨fun h => (by omega), fun h => (by cases h)⟩
  rw [if_neg h3]
  by_cases h4 : (122 : Int) < (byteAt s 0).toNat
  · rw [if_pos h4]; exact ⟨fun h => (by omega), fun h => (by cases h)⟩
  rw [if_neg h4]
  by_cases h5 : allSmall (sbytes s) = true
  · rw [if_pos h5]
    simp only [Bool.and_eq_true, decide_eq_true_iff, smallWords, List.mem_cons, List.not_mem_nil, or_false, not_or]
    constructor
    · rintro ⟨_, a, b, c, d, e⟩; exact ⟨⟨⟨⟨a, b⟩, c⟩, d⟩, e⟩
    · rintro ⟨⟨⟨⟨a, b⟩, c⟩, d⟩, e⟩; exact ⟨⟨by omega, by omega, by omega, by omega, ha.1 h5⟩, a, b, c, d, e⟩
  · rw [if_neg h5]; exact ⟨fun h => absurd (ha.2 h.1.2.2.2.2) h5, fun h => by cases h⟩
theorem runGo_all {s : ByteArray} : ∀ (f n : Nat), s.size ≤ n + f → n ≤ s.size → ((s.size : Int) ≤ runGo s 0 f n ↔ ∀ i, n ≤ i → i < s.size → isPart (byteAt s i) = true) ∧ runGo s 0 f n ≤ s.size
  | 0, n, h, h' => by
    simp only [runGo]
    exact ⟨⟨fun _ i h1 h2 => by omega, fun _ => by omega⟩, by omega⟩
  | f + 1, n, h, h' => by
    unfold runGo
    by_cases hlt : (0 : Int) + n < s.size
    · rw [if_pos hlt]
      have e : ((0 : Int) + n).toNat = n := by omega
      rw [e]
      cases hp : isPart (byteAt s n) with
      | true =>
        rw [if_pos rfl]
        obtain ⟨h1, h2⟩ := runGo_all (s := s) f (n + 1) (by omega) (by omega)
        refine ⟨h1.trans ⟨fun h i a b => ?_, fun h i a b => h i (by omega) b⟩, h2⟩
        by_cases e : i = n
        · subst e; exact hp
        · exact h i (by omega) b
      | false =>
        rw [if_neg (by simp)]
        refine ⟨⟨fun h => (by omega), fun h => ?_⟩, by omega⟩
        have := h n (Nat.le_refl _) (by omega)
        rw [hp] at this; cases this
    · rw [if_neg hlt]
      exact ⟨⟨fun _ i h1 h2 => by omega, fun _ => by omega⟩, by omega⟩
theorem run_all {s : ByteArray} : ¬ run s 0 < s.size ↔ ∀ b ∈ sbytes s, isPart b = true := by
  unfold run
  rw [Int.not_lt, (runGo_all s.size 0 (by omega) (Nat.zero_le _)).1]
  refine ⟨fun h b hb => ?_, fun h i _ hi => h _ (byteAt_mem hi)⟩
  obtain ⟨i, hi, rfl⟩ := mem_byteAt hb
  exact h i (Nat.zero_le _) hi
theorem anyL_any (p : UInt8 → Bool) : ∀ (l : List UInt8) (a : Bool), anyL p a l = (a || l.any p)
  | [], a => by simp [anyL]
  | b :: l, a => by rw [anyL, anyL_any p l]; simp [Bool.or_assoc]
theorem signs_head : ∀ x ∈ rsigns, ¬ (65 ≤ (byteAt x 0).toNat ∧ (byteAt x 0).toNat ≤ 90) := by decide
theorem keys_head : ∀ x ∈ keywords, ¬ (65 ≤ (byteAt x 0).toNat ∧ (byteAt x 0).toNat ≤ 90) := by decide
theorem small_head : ∀ x ∈ smallWords, ¬ (65 ≤ (byteAt x 0).toNat ∧ (byteAt x 0).toNat ≤ 90) := by decide
theorem words_low : ∀ x ∈ wordsT, (sbytes x).any isSmallByte = true := by decide
theorem classB_eq (s : ByteArray) : classB s = rclassed s := by
  rw [Bool.eq_iff_iff]
  unfold classB
  rw [Bool.and_eq_true, named_iff (by decide), Bool.not_eq_true', ← Bool.not_eq_true, shas_iff]
  have e1 : (65 : UInt8).toNat = 65 := rfl
  have e2 : (90 : UInt8).toNat = 90 := rfl
  rw [e1, e2]
  unfold rclassed
  simp only [Bool.and_eq_true, decide_eq_true_iff, classWords, List.mem_cons, List.not_mem_nil, or_false, not_or]
  have hbad : ∀ b : UInt8, badRune (b.toNat : Int) 65 90 = false ↔ (isPart b = true ∧ isSmallByte b = false) := fun b => by
    simp only [badRune, isPart, isSmallByte, isCapByte, isDigByte, Bool.or_eq_true, Bool.and_eq_true, decide_eq_true_iff, Bool.not_eq_false', Bool.and_eq_false_iff, decide_eq_false_iff_not, e1, e2]
    omega
  have hall : (∀ b ∈ sbytes s, badRune (b.toNat : Int) 65 90 = false) ↔ ((∀ b ∈ sbytes s, isPart b = true) ∧ (sbytes s).any isSmallByte = false) := by
    rw [List.any_eq_false]
    refine ⟨fun h => ⟨fun b hb => ((hbad b).1 (h b hb)).1, fun b hb => by simp [((hbad b).1 (h b hb)).2]⟩, fun h b hb => (hbad b).2 ⟨h.1 b hb, by simpa using h.2 b hb⟩⟩
  rw [hall]
  have key : (0 < s.size ∧ s.size ≤ 20 ∧ 65 ≤ (byteAt s 0).toNat ∧ (byteAt s 0).toNat ≤ 90 ∧ (∀ b ∈ sbytes s, isPart b = true) ∧ (sbytes s).any isSmallByte = false) ↔ ((rshape s).E = 0 ∧ (rshape s).K = 2) := by
    unfold rshape
    constructor
    · rintro ⟨h1, h2, h3, h4, h5, h6⟩
      rw [if_neg (fun h => signs_head s ((rhas_iff s _).1 h) ⟨h3, h4⟩), if_neg (by omega), if_neg (run_all.2 h5), if_neg (by omega), if_neg (by simp [isDigByte]; omega)]
      unfold rword
      rw [if_neg (fun h => keys_head s ((rhas_iff s _).1 h) ⟨h3, h4⟩), if_neg (fun h => by have := words_low s ((rhas_iff s _).1 h); rw [h6] at this; cases this),
        if_neg (fun h => small_head s ((rhas_iff s _).1 h) ⟨h3, h4⟩)]
      unfold wordEnd
      rw [anyL_any, h6, Bool.false_or, if_neg (by simp), if_neg (by omega)]
      exact ⟨rfl, rfl⟩
    · intro h
      split at h
      · simp at h
      split at h
      · simp at h
      rename_i hz
      split at h
      · simp at h
      rename_i hrun
      have hparts := run_all.1 hrun
      split at h
      · simp at h
      rename_i h95
      split at h
      · split at h
        · rename_i hE; exact absurd h.1 hE
        · simp at h
      rename_i hdig
      unfold rword at h
      split at h
      · simp at h
      split at h
      · simp at h
      split at h
      · simp at h
      unfold wordEnd at h
      rw [anyL_any, Bool.false_or] at h
      split at h
      · split at h
        · simp at h
        split at h <;> simp at h
      rename_i hlow
      split at h
      · simp at h
      rename_i h20
      have hsz : 0 < s.size := by omega
      have hlow' : (sbytes s).any isSmallByte = false := by simpa using hlow
      have hp0 := hparts _ (byteAt_mem hsz)
      have hs0 : isSmallByte (byteAt s 0) = false := by
        have := List.any_eq_false.1 hlow' _ (byteAt_mem hsz)
        simpa using this
      have hcap : isCapByte (byteAt s 0) = true := by
        simp only [isPart, hs0, Bool.false_or, Bool.or_eq_true, decide_eq_true_iff] at hp0
        rcases hp0 with (h | h) | h
        · exact h
        · exact absurd h hdig
        · exact absurd h h95
      simp only [isCapByte, Bool.and_eq_true, decide_eq_true_iff] at hcap
      exact ⟨hsz, by omega, by omega, by omega, hparts, hlow'⟩
  constructor
  · rintro ⟨h, a, b, c, d⟩
    obtain ⟨k1, k2⟩ := key.1 h
    exact ⟨⟨⟨⟨⟨k1, k2⟩, a⟩, b⟩, c⟩, d⟩
  · rintro ⟨⟨⟨⟨⟨k1, k2⟩, a⟩, b⟩, c⟩, d⟩
    exact ⟨key.2 ⟨k1, k2⟩, a, b, c, d⟩

/-! ### Places -/
theorem idx_take {α : Type} (p : α → Bool) : ∀ (l : List α) (k j : Nat) (f : α), l[k]? = some f → p f = true → (0 ≤ idxGo p j (l.take k) ↔ idxGo p j l < (j : Int) + k)
  | [], k, j, f, h, hp => by simp at h
  | x :: l, 0, j, f, h, hp => by
    simp only [List.getElem?_cons_zero, Option.some.injEq] at h
    subst h
    simp [idxGo, hp]
  | x :: l, k + 1, j, f, h, hp => by
    simp only [List.take_succ_cons]
    unfold idxGo
    by_cases hx : p x = true
    · rw [if_pos hx, if_pos hx]; omega
    · rw [if_neg hx, if_neg hx, idx_take p l k (j + 1) f (by simpa using h) hp]; omega
theorem form_go (n : ByteArray) : ∀ (l : List Form) (k : Nat), idxGo (fun x => findP x (fun x => formName x) n) k l = rformGo n k l
  | [], k => rfl
  | f :: l, k => by
    unfold idxGo rformGo; rw [form_go n l (k + 1)]; by_cases h : f.Name = n <;> simp [findP, formName, h]
theorem form_eq (l : List Form) (n : ByteArray) : form l n = rform l n := form_go n l 0
theorem col_go (n : ByteArray) : ∀ (l : List Col) (k : Nat), idxGo (fun x => findP x (fun x => colName x) n) k l = rcolGo n k l
  | [], k => rfl
  | f :: l, k => by
    unfold idxGo rcolGo; rw [col_go n l (k + 1)]; by_cases h : f.Name = n <;> simp [findP, colName, h]
theorem col_take {f : Form} {k : Nat} {c : Col} (h : f.Cols[k]? = some c) : 0 ≤ col (f.Cols.take k) c.Name ↔ rcol f c.Name < k := by
  have := idx_take (fun x => findP x (fun x => colName x) c.Name) f.Cols k 0 c h (by simp [findP, colName])
  rw [col_go c.Name f.Cols] at this
  simpa [col, find, idx, rcol] using this
theorem form_take {l : List Form} {k : Nat} {f : Form} (h : l[k]? = some f) : 0 ≤ form (l.take k) f.Name ↔ rform l f.Name < k := by
  have := idx_take (fun x => findP x (fun x => formName x) f.Name) l k 0 f h (by simp [findP, formName])
  rw [form_go f.Name l] at this
  simpa [form, find, idx, rform] using this
theorem drop_cons {α : Type} {l r : List α} {k : Nat} {x : α} (h : l.drop k = x :: r) : l[k]? = some x ∧ l.drop (k + 1) = r := by
  refine ⟨?_, ?_⟩
  · have := congrArg (fun z => z[0]?) h
    simpa [List.getElem?_drop] using this
  · have : l.drop (k + 1) = (l.drop k).drop 1 := by rw [List.drop_drop]
    rw [this, h]; rfl
theorem cols_eq (f : Form) : ∀ (r : List Col) (k : Nat), f.Cols.drop k = r → checkColsGo f.Cols k r = rcfCols f k r
  | [], k, h => rfl
  | c :: r, k, h => by
    obtain ⟨h1, h2⟩ := drop_cons h
    unfold checkColsGo rcfCols
    rw [smallB_eq, cols_eq f r (k + 1) h2]
    have hc := col_take h1
    by_cases hd : rcol f c.Name < k
    · simp only [if_pos hd, if_pos (hc.2 hd)]
    · simp only [if_neg hd, if_neg (fun h => hd (hc.1 h))]
theorem cfIn_eq (l : List Form) : ∀ (r : List Col), cfIn l r = rcfIn l r
  | [] => rfl
  | c :: r => by unfold cfIn rcfIn; rw [form_eq, cfIn_eq l r]
theorem cfEnd_eq (l : List Form) : ∀ (r : List Form), cfGo2 l r = rcfEnd l r
  | [] => rfl
  | f :: r => by unfold cfGo2 rcfEnd; rw [cfIn_eq, cfEnd_eq l r]
theorem cfGo_eq (l : List Form) : ∀ (r : List Form) (k : Nat), l.drop k = r → cfGo l k r = rcfGo l k r
  | [], k, h => cfEnd_eq l l
  | f :: r, k, h => by
    obtain ⟨h1, h2⟩ := drop_cons h
    unfold cfGo rcfGo
    rw [classB_eq, cfGo_eq l r (k + 1) h2]
    have hc := form_take h1
    have hcc : checkCols f.Cols = if (30 : Int) < f.Cols.length then 3 else rcfCols f 0 f.Cols := by
      unfold checkCols; rw [cols_eq f f.Cols 0 rfl]
    have hd : decide (form (l.take k) f.Name < 0) = !decide (rform l f.Name < k) := by
      rw [← decide_not]; exact decide_eq_decide.2 ⟨fun h h' => by have := hc.2 h'; omega, fun h => Int.not_le.1 fun h' => h (hc.1 h')⟩
    rw [hd, hcc]
    cases hcl : rclassed f.Name with
    | false => simp [first, firstGo, unlessE]
    | true =>
      by_cases hx : rform l f.Name < k
      · simp [first, firstGo, unlessE, hx]
      · by_cases h30 : (30 : Int) < f.Cols.length
        · simp [first, firstGo, unlessE, hx, h30]
        · by_cases h0 : rcfCols f 0 f.Cols = 0
          · simp [first, firstGo, unlessE, hx, h30, h0]
          · simp [first, firstGo, unlessE, hx, h30, h0]
theorem checkForms_eq (l : List Form) : checkForms l = rcheckForms l := by
  unfold checkForms rcheckForms; rw [cfGo_eq l l 0 rfl]

/-! ### Graphs -/
theorem rvals_eq (g : Graph) (vs : List Val) : contains vs (fun v => badVal v g) = !rvalsIn g.Nodes.length vs := by
  rw [contains_any]
  induction vs with
  | nil => rfl
  | cons v l ih =>
    simp only [List.any_cons, rvalsIn]
    rw [ih]
    cases h : value v g.Nodes.length <;> simp [badVal, h]
theorem rroots_eq (g : Graph) (vs : List Val) : unlessE (!contains vs (fun v => badRoot v (fun v => badVal v g))) 2 = rroots g.Nodes.length vs := by
  rw [contains_any]
  induction vs with
  | nil => rfl
  | cons v l ih =>
    simp only [List.any_cons, rroots]
    cases hv : value v g.Nodes.length with
    | false => simp [badRoot, badVal, hv, unlessE]
    | true =>
      by_cases hk : ¬ v.Kind = 3 ∧ ¬ v.Kind = 4
      · have : refers v = false := by simp [refers, hk.1, hk.2]
        simp [badRoot, badVal, hv, this, unlessE, hk]
      · have : refers v = true := by simp only [refers, Bool.or_eq_true, decide_eq_true_iff]; omega
        rw [if_neg (by simp), if_neg hk, ← ih]
        simp [badRoot, badVal, hv, this]
theorem formed3_eq (g : Graph) : ∀ (r : List Node), formedGo3 g r = rformedGo2 g r
  | [] => rroots_eq g _
  | n :: r => by
    unfold formedGo3 rformedGo2
    rw [rvals_eq, formed3_eq g r]
    cases rvalsIn g.Nodes.length n.Vals <;> simp
theorem formedGo_eq (g : Graph) : ∀ (r : List Node), formedGo g r = rformedGo g r
  | [] => formed3_eq g _
  | n :: r => by unfold formedGo rformedGo; rw [formedGo_eq g r]
theorem formed_eq (g : Graph) : formed g = rformed g := by unfold formed rformed; rw [formedGo_eq]
theorem suits_eq (g : Graph) (c : Col) (v : Val) : suits g c v = rfits c v g := by
  unfold suits rfits
  by_cases h3 : v.Kind = 3
  · simp [h3]
  · simp [h3]
theorem typedIn_eq (g : Graph) (vs : List Val) : ∀ (r : List Col) (k : Nat), typedIn g vs k r = rfitsIn g vs k r
  | [], k => rfl
  | c :: r, k => by unfold typedIn rfitsIn; rw [suits_eq, typedIn_eq g vs r]
theorem typed_eq (l : List Form) (g : Graph) : ∀ (r : List Node), unlessE (typedGo l g r) 8 = rckGo2 l g r
  | [] => rfl
  | n :: r => by
    unfold typedGo rckGo2
    rw [← typed_eq l g r, form_eq]
    simp only [typedIn_eq]
    by_cases h : (n.Vals.length : Int) = (l[(rform l n.Class).toNat]?.getD default).Cols.length
    · rw [if_pos h, if_pos h.symm]
      cases rfitsIn g n.Vals 0 (l[(rform l n.Class).toNat]?.getD default).Cols with
      | true => rw [if_pos rfl, if_pos rfl]
      | false => rw [if_neg (by simp), if_neg (by simp)]; rfl
    · rw [if_neg h, if_neg (fun e => h e.symm)]; rfl
theorem known_eq (l : List Form) (g : Graph) (r : List Node) : rckGo l g r = if contains r (fun n => unknown n l) = true then 4 else rckGo2 l g g.Nodes := by
  rw [contains_any]
  induction r with
  | nil => rfl
  | cons n r ih =>
    simp only [rckGo, List.any_cons, unknown, form_eq, ih]
    by_cases h : rform l n.Class < 0
    · simp [h]
    · simp [h, unknown, form_eq]
theorem check_eq (l : List Form) (g : Graph) : check l g = if rformed g ≠ 0 then rformed g else rckGo l g g.Nodes := by
  unfold check
  rw [formed_eq, known_eq]
  simp only []
  split
  · rfl
  · rw [show typed l g = typedGo l g g.Nodes from rfl, typed_eq]
theorem checkG_eq (l : List Form) (g : Graph) : checkG l g = rcheck l g := by
  unfold checkG rcheck; rw [checkForms_eq, check_eq]

/-! ### The law -/
def sanityB : Bool := true
def packForms (l : List Form) (g : Graph) : Bool := true
end Pk
