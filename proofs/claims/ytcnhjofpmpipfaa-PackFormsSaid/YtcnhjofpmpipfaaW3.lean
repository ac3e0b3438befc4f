import Derived.Test.YtcnhjofpmpipfaaW2
set_option linter.unusedVariables false
set_option linter.unusedSimpArgs false
set_option maxRecDepth 100000
namespace Go.Proofs.Ytcnhjofpmpipfaa
open Go Go.Sx Go.RowKit
open Go.Sx.Dat (enc)
attribute [local irreducible] Go.wpList Go.wpQuiet Go.Code.wp
set_option maxHeartbeats 1000000 in
theorem c143 {M : List Nat} {w : World} {x0 : ByteArray} {f_x1 : Nat} {k_x1 : List Value} {g_x1 : I32 → Bool} {x2 : Bool} (hM : Lo M w) (cal_x1 : Callable Try.prog f_x1) (hf_x1 : FH Try.prog f_x1 k_x1 false (fun b => .bool b) g_x1 (fun _ => True) M w) (p0 : x0.size < 9223372036854775808) : Calls Try.prog 143 #[.string x0, .func (.func f_x1) #[] k_x1.toArray, .bool x2] w (Ret fun v w' => v = .int .i64 (Pk.runeIdxT x0 g_x1 x2) ∧ Upd [] w w') := by
  refine enter (l := [.string x0, .func (.func f_x1) #[] k_x1.toArray, .bool x2]) Try.func143 rfl Try.ntmps143 rfl ?_
  refine c_seq fun KhK1 hK1 => ?_
  refine c_reg ?_
  refine op_assign (v := .int .i64 0) rfl rfl rfl ?_
  refine wpList_nil ?_
  refine hK1 _ _ ?_
  refine c_seq fun KhK2 hK2 => ?_
  refine c_seq fun KhK3 hK3 => ?_
  refine c_reg ?_
  refine op_move (v := .string x0) rfl rfl rfl ?_
  refine op_rangeS ty9.und rfl rfl rfl fun β4 w5 hβ6 u7 hz8 hx9 => ?_
  have e10 := u7.evoN (m := []) hβ6 hz8
  refine wpList_nil ?_
  refine hK3 _ _ ?_
  refine wp_block ?_
  refine c_loop (X := Nat × Nat) [6, 7, 8, 11, 12, 13, 14, 15, 16, 17, 18, 19, 20] (fun ⟨p, f⟩ => []) (fun ⟨p, f⟩ w1 => (x0.size ≤ p + f) ∧ (Pk.runeIdxT x0 g_x1 x2 = Pk.runeGo x0 g_x1 x2 f p) ∧ Evo (β4 :: []) w5 (β4 :: []) w1 ∧ IterS w1 β4 x0 p) (fun ⟨p, f⟩ => f) ⟨0, x0.size⟩ trivial ?_ ?_
  ·
    exact ⟨(by first | omega | simp), (by rfl), Evo.refl _ _, hx9⟩
  ·
    rintro ⟨p, f⟩ τ w11 ⟨hi13, hi14, e12, hx9⟩
    refine c_seq fun KhK15 hK15 => ?_
    refine c_reg ?_
    by_cases hb16 : p < x0.size
    ·
      refine op_nextY hx9 hb16 rfl rfl rfl fun w17 u18 hz19 hx9' => ?_
      have := decode_width x0 p
      have e20 := u18.evo (m := (β4 :: [])) (List.forall_mem_singleton.2 List.mem_cons_self)
      refine op_extract (v := .bool true) rfl rfl rfl rfl ?_
      refine wpList_nil ?_
      refine hK15 _ _ ?_
      refine c_seq fun KhK21 hK21 => ?_
      refine c_ifT rfl rfl ?_
      refine wp_skip ?_
      refine hK21 _ _ ?_
      refine wp_block ?_
      refine c_seq fun KhK22 hK22 => ?_
      refine c_reg ?_
      refine op_extract (v := .int .i64 (p : Int)) rfl rfl rfl rfl ?_
      refine op_extract (v := .int .i32 ((Utf8.decode x0 p).1 : Int)) rfl rfl rfl rfl ?_
      refine op_assign (v := .int .i64 (p : Int)) rfl rfl rfl ?_
      refine op_assign (v := .int .i32 ((Utf8.decode x0 p).1 : Int)) rfl rfl rfl ?_
      refine wpList_nil ?_
      refine hK22 _ _ ?_
      refine c_seq fun KhK23 hK23 => ?_
      refine c_reg ?_
      refine op_move (v := .func (.func f_x1) #[] k_x1.toArray) rfl rfl rfl ?_
      refine op_move (v := .int .i32 ((Utf8.decode x0 p).1 : Int)) rfl rfl rfl ?_
      refine op_callV (args := (.int .i32 ((Utf8.decode x0 p).1 : Int)) :: k_x1) cal_x1 rfl rfl rfl rfl (hf_x1.up (β4 :: []) _ [.int .i32 ((Utf8.decode x0 p).1 : Int)] (⟨((Utf8.decode x0 p).1 : Int)⟩ : I32) ((e10.trans e12).trans e20).old (trivial) rfl) ?_
      rintro _ w24 ⟨rfl, u25⟩
      have e27 := u25.evo0 (m := (β4 :: []))
      replace hx9' := hx9'.mono0 u25
      refine op_move (v := .bool x2) rfl rfl rfl ?_
      refine op_eqB ty4.und rfl rfl rfl rfl ?_
      refine wpList_nil ?_
      refine hK23 _ _ ?_
      refine c_if rfl rfl (fun hb28 => ?_) (fun hb28 => ?_)
      · -- (g_x1 (⟨((Utf8.decode x0 p).1 : Int)⟩ : I32)) = x2
        refine c_seq fun KhK29 hK29 => ?_
        refine c_reg ?_
        refine op_move (v := .int .i64 (p : Int)) rfl rfl rfl ?_
        refine op_assign (v := .int .i64 (p : Int)) rfl rfl rfl ?_
        refine wpList_nil ?_
        refine hK29 _ _ ?_
        refine wp_ret ?_
        have hr30 : (p : Int) = (Pk.runeIdxT x0 g_x1 x2) := by rw [hi14]; first | (rw [Pk.runeGo_end (by assumption)]) | (cases f with | zero => omega | succ f => simp [Pk.runeGo, hi13, hb16, hb28])
        exact ret1 Try.results143 rfl ⟨congrArg (Value.int .i64) hr30, (((e10.trans e12).trans e20).trans e27).old⟩
      · -- ¬ ((g_x1 (⟨((Utf8.decode x0 p).1 : Int)⟩ : I32)) = x2)
        refine wp_skip ?_
        repeat (with_reducible refine inBlock_normal ?_)
        with_reducible refine then_normal ?_
        exact ⟨⟨(p + (Utf8.decode x0 p).2), (f - 1)⟩, (by first | omega | (dsimp only; omega)), ⟨(by first | omega | (simp only [List.length_append, List.length_cons, List.length_nil]; omega) | (rw [hi14]; cases f with | zero => omega | succ f => simp [Pk.runeGo, hi13, hb16, hb28])), (by rw [hi14]; cases f with | zero => omega | succ f => simp [Pk.runeGo, hi13, hb16, hb28]), (((e12.trans e20).trans e27).drop (fun b hb => by simp [hb])), hx9'⟩, _, rfl, (by repeat first | exact agree.refl _ _ | refine agree.upd rfl ?_ | refine agree.upds rfl ?_ | refine agree.mix rfl ?_), trivial⟩
    ·
      refine op_nextN hx9 hb16 rfl rfl rfl ?_
      refine op_extract (v := .bool false) rfl rfl rfl rfl ?_
      refine wpList_nil ?_
      refine hK15 _ _ ?_
      refine c_seq fun KhK31 hK31 => ?_
      refine c_ifF rfl rfl ?_
      refine wp_exit ?_
      refine hK2 _ _ ?_
      refine c_seq fun KhK32 hK32 => ?_
      refine c_reg ?_
      refine op_assign (v := .int .i64 (-1)) rfl rfl rfl ?_
      refine wpList_nil ?_
      refine hK32 _ _ ?_
      refine wp_ret ?_
      have hr33 : (-1) = (Pk.runeIdxT x0 g_x1 x2) := by rw [hi14]; first | (rw [Pk.runeGo_end (by assumption)]) | (cases f with | zero => omega | succ f => simp [Pk.runeGo, hi13, hb16])
      exact ret1 Try.results143 rfl ⟨congrArg (Value.int .i64) hr33, (e10.trans e12).old⟩
set_option maxHeartbeats 1000000 in
theorem c122 {M : List Nat} {w : World} {x0 : ByteArray} {f_x1 : Nat} {k_x1 : List Value} {g_x1 : I32 → Bool} (hM : Lo M w) (cal_x1 : Callable Try.prog f_x1) (hf_x1 : FH Try.prog f_x1 k_x1 false (fun b => .bool b) g_x1 (fun _ => True) M w) (p0 : x0.size < 9223372036854775808) : Calls Try.prog 122 #[.string x0, .func (.func f_x1) #[] k_x1.toArray] w (Ret fun v w' => v = .int .i64 (Pk.runeIdx x0 g_x1) ∧ Upd [] w w') := by
  refine enter (l := [.string x0, .func (.func f_x1) #[] k_x1.toArray]) Try.func122 rfl Try.ntmps122 rfl ?_
  refine c_seq fun KhK1 hK1 => ?_
  refine c_reg ?_
  refine op_assign (v := .int .i64 0) rfl rfl rfl ?_
  refine wpList_nil ?_
  refine hK1 _ _ ?_
  refine c_seq fun KhK2 hK2 => ?_
  refine c_reg ?_
  refine op_move (v := .string x0) rfl rfl rfl ?_
  refine op_move (v := .func (.func f_x1) #[] k_x1.toArray) rfl rfl rfl ?_
  refine op_call (args := [.string x0, .func (.func f_x1) #[] k_x1.toArray, .bool true]) cal143 rfl rfl rfl (c143 ((Evo.refl [] w).loM hM) cal_x1 ((hf_x1.mono (Evo.refl [] w).old).up []) (by omega)) ?_
  rintro _ w3 ⟨rfl, u4⟩
  have e6 := u4.evo0 (m := [])
  refine op_assign (v := .int .i64 (Pk.runeIdxT x0 g_x1 true)) rfl rfl rfl ?_
  refine wpList_nil ?_
  refine hK2 _ _ ?_
  refine wp_ret ?_
  have hr7 : (Pk.runeIdxT x0 g_x1 true) = (Pk.runeIdx x0 g_x1) := by simp [ Pk.runeIdx]
  exact ret1 Try.results122 rfl ⟨congrArg (Value.int .i64) hr7, e6.old⟩
set_option maxHeartbeats 1000000 in
theorem c123 {M : List Nat} {w : World} {x0 : Int} {lo : UInt8} {b_lo : Nat} {hi : UInt8} {b_hi : Nat} (hM : Lo M w) (hb_lo : Box w b_lo [.int .u8 lo.toNat]) (hb_hi : Box w b_hi [.int .u8 hi.toNat]) : Calls Try.prog 123 #[.int .i32 x0, .pointer (some ⟨b_lo, 0, none⟩), .pointer (some ⟨b_hi, 0, none⟩)] w (Ret fun v w' => v = .bool (Pk.badRune x0 lo hi) ∧ Upd [] w w') := by
  refine enter (l := [.int .i32 x0, .pointer (some ⟨b_lo, 0, none⟩), .pointer (some ⟨b_hi, 0, none⟩)]) Try.func123 rfl Try.ntmps123 rfl ?_
  refine c_seq fun KhK1 hK1 => ?_
  refine c_reg ?_
  refine op_assign (v := .bool false) rfl rfl rfl ?_
  refine wpList_nil ?_
  refine hK1 _ _ ?_
  refine c_seq fun KhK2 hK2 => ?_
  refine c_reg ?_
  refine op_move (v := .int .i32 x0) rfl rfl rfl ?_
  refine op_loadB (v := .int .u8 lo.toNat) ty5 rfl rfl rfl rfl hb_lo rfl ?_
  refine op_convU8 ty5.und ty21.und (by decide) rfl rfl rfl ?_
  refine op_geq rfl rfl rfl rfl ?_
  refine op_move (v := .bool (decide ((lo.toNat : Int) ≤ x0))) rfl rfl rfl ?_
  refine op_part 9 rfl (fun hb3 => ?_) (fun hb3 => ?_)
  · -- (lo.toNat : Int) ≤ x0
    refine op_move (v := .int .i32 x0) rfl rfl rfl ?_
    refine op_loadB (v := .int .u8 hi.toNat) ty5 rfl rfl rfl rfl hb_hi rfl ?_
    refine op_convU8 ty5.und ty21.und (by decide) rfl rfl rfl ?_
    refine op_leq rfl rfl rfl rfl ?_
    refine op_pickT (v := .bool (decide (x0 ≤ (hi.toNat : Int)))) rfl rfl rfl rfl ?_
    refine op_move (v := .bool (decide (x0 ≤ (hi.toNat : Int)))) rfl rfl rfl ?_
    refine op_part 15 rfl (fun hb4 => ?_) (fun hb4 => ?_)
    · -- x0 ≤ (hi.toNat : Int)
      refine op_not rfl ?_
      refine op_not rfl ?_
      refine op_not rfl ?_
      refine op_not rfl ?_
      refine op_not rfl ?_
      refine op_not rfl ?_
      refine op_pickT (v := .bool true) rfl rfl rfl rfl ?_
      refine op_move (v := .bool true) rfl rfl rfl ?_
      refine op_not rfl ?_
      refine op_not rfl ?_
      refine op_pickT (v := .bool true) rfl rfl rfl rfl ?_
      refine op_notB rfl rfl rfl ?_
      refine op_assign (v := .bool false) rfl rfl rfl ?_
      refine wpList_nil ?_
      refine hK2 _ _ ?_
      refine wp_ret ?_
      have hr5 : false = (Pk.badRune x0 lo hi) := by simp [ Pk.badRune, hb3, hb4]
      exact ret1 Try.results123 rfl ⟨congrArg Value.bool hr5, (Evo.refl [] w).old⟩
    · -- ¬ (x0 ≤ (hi.toNat : Int))
      refine op_move (v := .int .i32 x0) rfl rfl rfl ?_
      refine op_geq rfl rfl rfl rfl ?_
      refine op_move (v := .bool (decide (48 ≤ x0))) rfl rfl rfl ?_
      refine op_part 18 rfl (fun hb6 => ?_) (fun hb6 => ?_)
      · -- 48 ≤ x0
        refine op_move (v := .int .i32 x0) rfl rfl rfl ?_
        refine op_leq rfl rfl rfl rfl ?_
        refine op_pickT (v := .bool (decide (x0 ≤ 57))) rfl rfl rfl rfl ?_
        refine op_pickF (v := .bool (decide (x0 ≤ 57))) rfl rfl rfl rfl ?_
        refine op_move (v := .bool (decide (x0 ≤ 57))) rfl rfl rfl ?_
        refine op_part 23 rfl (fun hb7 => ?_) (fun hb7 => ?_)
        · -- x0 ≤ 57
          refine op_not rfl ?_
          refine op_not rfl ?_
          refine op_pickT (v := .bool true) rfl rfl rfl rfl ?_
          refine op_notB rfl rfl rfl ?_
          refine op_assign (v := .bool false) rfl rfl rfl ?_
          refine wpList_nil ?_
          refine hK2 _ _ ?_
          refine wp_ret ?_
          have hr8 : false = (Pk.badRune x0 lo hi) := by simp [ Pk.badRune, hb3, hb4, hb6, hb7]
          exact ret1 Try.results123 rfl ⟨congrArg Value.bool hr8, (Evo.refl [] w).old⟩
        · -- ¬ (x0 ≤ 57)
          refine op_move (v := .int .i32 x0) rfl rfl rfl ?_
          refine op_eq rfl rfl rfl rfl ?_
          refine op_pickF (v := .bool (decide (x0 = 95))) rfl rfl rfl rfl ?_
          refine op_notD rfl rfl rfl ?_
          refine op_assign (v := .bool (decide (¬ (x0 = 95)))) rfl rfl rfl ?_
          refine wpList_nil ?_
          refine hK2 _ _ ?_
          refine wp_ret ?_
          have hr9 : (decide (¬ (x0 = 95))) = (Pk.badRune x0 lo hi) := by simp [ Pk.badRune, hb3, hb4, hb6, hb7]
          exact ret1 Try.results123 rfl ⟨congrArg Value.bool hr9, (Evo.refl [] w).old⟩
      · -- ¬ (48 ≤ x0)
        refine op_not rfl ?_
        refine op_not rfl ?_
        refine op_pickF (v := .bool false) rfl rfl rfl rfl ?_
        refine op_pickF (v := .bool false) rfl rfl rfl rfl ?_
        refine op_move (v := .bool false) rfl rfl rfl ?_
        refine op_move (v := .int .i32 x0) rfl rfl rfl ?_
        refine op_eq rfl rfl rfl rfl ?_
        refine op_pickF (v := .bool (decide (x0 = 95))) rfl rfl rfl rfl ?_
        refine op_notD rfl rfl rfl ?_
        refine op_assign (v := .bool (decide (¬ (x0 = 95)))) rfl rfl rfl ?_
        refine wpList_nil ?_
        refine hK2 _ _ ?_
        refine wp_ret ?_
        have hr10 : (decide (¬ (x0 = 95))) = (Pk.badRune x0 lo hi) := by simp [ Pk.badRune, hb3, hb4, hb6]
        exact ret1 Try.results123 rfl ⟨congrArg Value.bool hr10, (Evo.refl [] w).old⟩
  · -- ¬ ((lo.toNat : Int) ≤ x0)
    refine op_not rfl ?_
    refine op_not rfl ?_
    refine op_not rfl ?_
    refine op_not rfl ?_
    refine op_pickF (v := .bool false) rfl rfl rfl rfl ?_
    refine op_move (v := .bool false) rfl rfl rfl ?_
    refine op_move (v := .int .i32 x0) rfl rfl rfl ?_
    refine op_geq rfl rfl rfl rfl ?_
    refine op_move (v := .bool (decide (48 ≤ x0))) rfl rfl rfl ?_
    refine op_part 18 rfl (fun hb11 => ?_) (fun hb11 => ?_)
    · -- 48 ≤ x0
      refine op_move (v := .int .i32 x0) rfl rfl rfl ?_
      refine op_leq rfl rfl rfl rfl ?_
      refine op_pickT (v := .bool (decide (x0 ≤ 57))) rfl rfl rfl rfl ?_
      refine op_pickF (v := .bool (decide (x0 ≤ 57))) rfl rfl rfl rfl ?_
      refine op_move (v := .bool (decide (x0 ≤ 57))) rfl rfl rfl ?_
      refine op_part 23 rfl (fun hb12 => ?_) (fun hb12 => ?_)
      · -- x0 ≤ 57
        refine op_not rfl ?_
        refine op_not rfl ?_
        refine op_pickT (v := .bool true) rfl rfl rfl rfl ?_
        refine op_notB rfl rfl rfl ?_
        refine op_assign (v := .bool false) rfl rfl rfl ?_
        refine wpList_nil ?_
        refine hK2 _ _ ?_
        refine wp_ret ?_
        have hr13 : false = (Pk.badRune x0 lo hi) := by simp [ Pk.badRune, hb3, hb11, hb12]
        exact ret1 Try.results123 rfl ⟨congrArg Value.bool hr13, (Evo.refl [] w).old⟩
      · -- ¬ (x0 ≤ 57)
        refine op_move (v := .int .i32 x0) rfl rfl rfl ?_
        refine op_eq rfl rfl rfl rfl ?_
        refine op_pickF (v := .bool (decide (x0 = 95))) rfl rfl rfl rfl ?_
        refine op_notD rfl rfl rfl ?_
        refine op_assign (v := .bool (decide (¬ (x0 = 95)))) rfl rfl rfl ?_
        refine wpList_nil ?_
        refine hK2 _ _ ?_
        refine wp_ret ?_
        have hr14 : (decide (¬ (x0 = 95))) = (Pk.badRune x0 lo hi) := by simp [ Pk.badRune, hb3, hb11, hb12]
        exact ret1 Try.results123 rfl ⟨congrArg Value.bool hr14, (Evo.refl [] w).old⟩
    · -- ¬ (48 ≤ x0)
      refine op_not rfl ?_
      refine op_not rfl ?_
      refine op_pickF (v := .bool false) rfl rfl rfl rfl ?_
      refine op_pickF (v := .bool false) rfl rfl rfl rfl ?_
      refine op_move (v := .bool false) rfl rfl rfl ?_
      refine op_move (v := .int .i32 x0) rfl rfl rfl ?_
      refine op_eq rfl rfl rfl rfl ?_
      refine op_pickF (v := .bool (decide (x0 = 95))) rfl rfl rfl rfl ?_
      refine op_notD rfl rfl rfl ?_
      refine op_assign (v := .bool (decide (¬ (x0 = 95)))) rfl rfl rfl ?_
      refine wpList_nil ?_
      refine hK2 _ _ ?_
      refine wp_ret ?_
      have hr15 : (decide (¬ (x0 = 95))) = (Pk.badRune x0 lo hi) := by simp [ Pk.badRune, hb3, hb11]
      exact ret1 Try.results123 rfl ⟨congrArg Value.bool hr15, (Evo.refl [] w).old⟩
set_option maxHeartbeats 1000000 in
theorem c90 {M : List Nat} {w : World} {x0 : ByteArray} {x1 : UInt8} {x2 : UInt8} (hM : Lo M w)  : Calls Try.prog 90 #[.string x0, .int .u8 x1.toNat, .int .u8 x2.toNat] w (Ret fun v w' => v = .bool (Pk.named x0 x1 x2) ∧ Upd [] w w') := by
  refine enter (l := [.string x0, .int .u8 x1.toNat, .int .u8 x2.toNat]) Try.func90 rfl Try.ntmps90 rfl ?_
  refine c_seq fun KhK1 hK1 => ?_
  refine c_reg ?_
  refine op_box (v := .int .u8 x1.toNat) (zs := [.int .u8 x1.toNat]) rfl rfl rfl rfl fun β2 w3 hβ4 u5 hz6 hx7 => ?_
  have e8 := u5.evoN (m := []) hβ4 hz6
  refine op_box (v := .int .u8 x2.toNat) (zs := [.int .u8 x2.toNat]) rfl rfl rfl rfl fun β9 w10 hβ11 u12 hz13 hx14 => ?_
  have e15 := u12.evoN (m := (β2 :: [])) hβ11 hz13
  have ne16 : β2 ≠ β9 := by have := hx7.lt; omega
  replace hx7 := hx7.mono0 u12
  refine op_assign (v := .bool false) rfl rfl rfl ?_
  refine wpList_nil ?_
  refine hK1 _ _ ?_
  refine c_seq fun KhK17 hK17 => ?_
  refine c_seq fun KhK18 hK18 => ?_
  refine c_quiet mixed (by kernel_rfl) ?_
  refine q_val (v := .string x0) rfl rfl rfl (fun wq19 uq20 => op_move (v := .string x0) rfl rfl rfl q1) ?_
  refine q_val (v := .bool (decide (x0 = (⟨#[]⟩ : ByteArray)))) rfl rfl rfl (fun wq21 uq22 => op_eqS rfl rfl rfl rfl q1) ?_
  refine q_val (v := .bool (decide (x0 = (⟨#[]⟩ : ByteArray)))) rfl rfl rfl (fun wq23 uq24 => op_move (v := .bool (decide (x0 = (⟨#[]⟩ : ByteArray)))) rfl rfl rfl q1) ?_
  refine q_part 9 rfl (fun hb25 => ?_) (fun hb25 => ?_)
  · -- x0 = (⟨#[]⟩ : ByteArray)
    refine q_not rfl ?_
    refine q_not rfl ?_
    refine q_not rfl ?_
    refine q_val (v := .bool true) rfl rfl rfl (fun wq26 uq27 => op_pickT (v := .bool true) rfl rfl rfl rfl q1) ?_
    refine q_val (v := .bool true) rfl rfl rfl (fun wq28 uq29 => op_move (v := .bool true) rfl rfl rfl q1) ?_
    refine q_not rfl ?_
    refine q_not rfl ?_
    refine q_not rfl ?_
    refine q_not rfl ?_
    refine q_val (v := .bool true) rfl rfl rfl (fun wq30 uq31 => op_pickT (v := .bool true) rfl rfl rfl rfl q1) ?_
    refine q_val (v := .bool true) rfl rfl rfl (fun wq32 uq33 => op_move (v := .bool true) rfl rfl rfl q1) ?_
    refine q_not rfl ?_
    refine q_not rfl ?_
    refine q_not rfl ?_
    refine q_not rfl ?_
    refine q_val (v := .bool true) rfl rfl rfl (fun wq34 uq35 => op_pickT (v := .bool true) rfl rfl rfl rfl q1) ?_
    refine wpQuiet_nil fun w36 u37 => ?_
    have e38 := u37.evo0 (m := (β9 :: (β2 :: [])))
    replace hx7 := hx7.mono0 u37
    replace hx14 := hx14.mono0 u37
    refine hK18 _ _ ?_
    refine c_ifT rfl rfl ?_
    refine c_seq fun KhK39 hK39 => ?_
    refine c_reg ?_
    refine op_assign (v := .bool false) rfl rfl rfl ?_
    refine wpList_nil ?_
    refine hK39 _ _ ?_
    refine wp_ret ?_
    have hr40 : false = (Pk.named x0 x1 x2) := by simp [ Pk.named, hb25]
    exact ret1 Try.results90 rfl ⟨congrArg Value.bool hr40, ((e8.trans e15).trans e38).old⟩
  · -- ¬ (x0 = (⟨#[]⟩ : ByteArray))
    refine q_val (v := .string x0) rfl rfl rfl (fun wq41 uq42 => op_move (v := .string x0) rfl rfl rfl q1) ?_
    refine q_val (v := .int .i64 (x0.size : Int)) rfl rfl rfl (fun wq43 uq44 => op_lenS ty9.und rfl rfl rfl q1) ?_
    refine q_val (v := .bool (decide (20 < (x0.size : Int)))) rfl rfl rfl (fun wq45 uq46 => op_gtr rfl rfl rfl rfl q1) ?_
    refine q_val (v := .bool (decide (20 < (x0.size : Int)))) rfl rfl rfl (fun wq47 uq48 => op_pickF (v := .bool (decide (20 < (x0.size : Int)))) rfl rfl rfl rfl q1) ?_
    refine q_val (v := .bool (decide (20 < (x0.size : Int)))) rfl rfl rfl (fun wq49 uq50 => op_move (v := .bool (decide (20 < (x0.size : Int)))) rfl rfl rfl q1) ?_
    refine q_part 14 rfl (fun hb51 => ?_) (fun hb51 => ?_)
    · -- 20 < (x0.size : Int)
      refine q_not rfl ?_
      refine q_not rfl ?_
      refine q_not rfl ?_
      refine q_not rfl ?_
      refine q_val (v := .bool true) rfl rfl rfl (fun wq52 uq53 => op_pickT (v := .bool true) rfl rfl rfl rfl q1) ?_
      refine q_val (v := .bool true) rfl rfl rfl (fun wq54 uq55 => op_move (v := .bool true) rfl rfl rfl q1) ?_
      refine q_not rfl ?_
      refine q_not rfl ?_
      refine q_not rfl ?_
      refine q_not rfl ?_
      refine q_val (v := .bool true) rfl rfl rfl (fun wq56 uq57 => op_pickT (v := .bool true) rfl rfl rfl rfl q1) ?_
      refine wpQuiet_nil fun w58 u59 => ?_
      have e60 := u59.evo0 (m := (β9 :: (β2 :: [])))
      replace hx7 := hx7.mono0 u59
      replace hx14 := hx14.mono0 u59
      refine hK18 _ _ ?_
      refine c_ifT rfl rfl ?_
      refine c_seq fun KhK61 hK61 => ?_
      refine c_reg ?_
      refine op_assign (v := .bool false) rfl rfl rfl ?_
      refine wpList_nil ?_
      refine hK61 _ _ ?_
      refine wp_ret ?_
      have hr62 : false = (Pk.named x0 x1 x2) := by simp [ Pk.named, hb25, hb51]
      exact ret1 Try.results90 rfl ⟨congrArg Value.bool hr62, ((e8.trans e15).trans e60).old⟩
    · -- ¬ (20 < (x0.size : Int))
      refine q_val (v := .string x0) rfl rfl rfl (fun wq63 uq64 => op_move (v := .string x0) rfl rfl rfl q1) ?_
      refine q_val (v := .int .u8 (byteAt x0 0).toNat) rfl rfl rfl (fun wq65 uq66 => op_indexSN (j := 0) ty9.und rfl rfl rfl rfl (by first | omega | (have := bsz (by assumption); omega)) q1) ?_
      refine q_val (v := .int .u8 x1.toNat) rfl rfl rfl (fun wq67 uq68 => op_loadB (v := .int .u8 x1.toNat) ty5 rfl rfl rfl rfl (hx7.mono0 uq68) rfl q1) ?_
      refine q_val (v := .bool (decide (((byteAt x0 0).toNat : Int) < (x1.toNat : Int)))) rfl rfl rfl (fun wq69 uq70 => op_lss rfl rfl rfl rfl q1) ?_
      refine q_val (v := .bool (decide (((byteAt x0 0).toNat : Int) < (x1.toNat : Int)))) rfl rfl rfl (fun wq71 uq72 => op_pickF (v := .bool (decide (((byteAt x0 0).toNat : Int) < (x1.toNat : Int)))) rfl rfl rfl rfl q1) ?_
      refine q_val (v := .bool (decide (((byteAt x0 0).toNat : Int) < (x1.toNat : Int)))) rfl rfl rfl (fun wq73 uq74 => op_move (v := .bool (decide (((byteAt x0 0).toNat : Int) < (x1.toNat : Int)))) rfl rfl rfl q1) ?_
      refine q_part 20 rfl (fun hb75 => ?_) (fun hb75 => ?_)
      · -- ((byteAt x0 0).toNat : Int) < (x1.toNat : Int)
        refine q_not rfl ?_
        refine q_not rfl ?_
        refine q_not rfl ?_
        refine q_not rfl ?_
        refine q_val (v := .bool true) rfl rfl rfl (fun wq76 uq77 => op_pickT (v := .bool true) rfl rfl rfl rfl q1) ?_
        refine wpQuiet_nil fun w78 u79 => ?_
        have e80 := u79.evo0 (m := (β9 :: (β2 :: [])))
        replace hx7 := hx7.mono0 u79
        replace hx14 := hx14.mono0 u79
        refine hK18 _ _ ?_
        refine c_ifT rfl rfl ?_
        refine c_seq fun KhK81 hK81 => ?_
        refine c_reg ?_
        refine op_assign (v := .bool false) rfl rfl rfl ?_
        refine wpList_nil ?_
        refine hK81 _ _ ?_
        refine wp_ret ?_
        have hr82 : false = (Pk.named x0 x1 x2) := by simp [ Pk.named, hb25, hb51, hb75]
        exact ret1 Try.results90 rfl ⟨congrArg Value.bool hr82, ((e8.trans e15).trans e80).old⟩
      · -- ¬ (((byteAt x0 0).toNat : Int) < (x1.toNat : Int))
        refine q_val (v := .string x0) rfl rfl rfl (fun wq83 uq84 => op_move (v := .string x0) rfl rfl rfl q1) ?_
        refine q_val (v := .int .u8 (byteAt x0 0).toNat) rfl rfl rfl (fun wq85 uq86 => op_indexSN (j := 0) ty9.und rfl rfl rfl rfl (by first | omega | (have := bsz (by assumption); omega)) q1) ?_
        refine q_val (v := .int .u8 x2.toNat) rfl rfl rfl (fun wq87 uq88 => op_loadB (v := .int .u8 x2.toNat) ty5 rfl rfl rfl rfl (hx14.mono0 uq88) rfl q1) ?_
        refine q_val (v := .bool (decide ((x2.toNat : Int) < ((byteAt x0 0).toNat : Int)))) rfl rfl rfl (fun wq89 uq90 => op_gtr rfl rfl rfl rfl q1) ?_
        refine q_val (v := .bool (decide ((x2.toNat : Int) < ((byteAt x0 0).toNat : Int)))) rfl rfl rfl (fun wq91 uq92 => op_pickF (v := .bool (decide ((x2.toNat : Int) < ((byteAt x0 0).toNat : Int)))) rfl rfl rfl rfl q1) ?_
        refine wpQuiet_nil fun w93 u94 => ?_
        have e95 := u94.evo0 (m := (β9 :: (β2 :: [])))
        replace hx7 := hx7.mono0 u94
        replace hx14 := hx14.mono0 u94
        refine hK18 _ _ ?_
        refine c_if rfl rfl (fun hb96 => ?_) (fun hb96 => ?_)
        · -- (x2.toNat : Int) < ((byteAt x0 0).toNat : Int)
          refine c_seq fun KhK97 hK97 => ?_
          refine c_reg ?_
          refine op_assign (v := .bool false) rfl rfl rfl ?_
          refine wpList_nil ?_
          refine hK97 _ _ ?_
          refine wp_ret ?_
          have hr98 : false = (Pk.named x0 x1 x2) := by simp [ Pk.named, hb25, hb51, hb75, hb96]
          exact ret1 Try.results90 rfl ⟨congrArg Value.bool hr98, ((e8.trans e15).trans e95).old⟩
        · -- ¬ ((x2.toNat : Int) < ((byteAt x0 0).toNat : Int))
          refine wp_skip ?_
          refine hK17 _ _ ?_
          refine c_seq fun KhK99 hK99 => ?_
          refine c_reg ?_
          refine op_move (v := .string x0) rfl rfl rfl ?_
          refine op_makeFunc (vs := [.pointer (some ⟨β2, 0, none⟩), .pointer (some ⟨β9, 0, none⟩)]) rfl rfl rfl ?_
          refine op_call (args := [.string x0, .func (.func 123) #[] #[.pointer (some ⟨β2, 0, none⟩), .pointer (some ⟨β9, 0, none⟩)]]) cal122 rfl rfl rfl (c122 (((e8.trans e15).trans e95).loM hM) cal123 (fun w1 cs_y0 y0 hu hD he_y0 => by obtain rfl := he_y0; exact c123 ((((e8.trans e15).trans e95).loM hM).mono hu.size) (hx7.mono0 hu) (hx14.mono0 hu)) (by omega)) ?_
          rintro _ w100 ⟨rfl, u101⟩
          have e103 := u101.evo0 (m := (β9 :: (β2 :: [])))
          replace hx7 := hx7.mono0 u101
          replace hx14 := hx14.mono0 u101
          refine op_lss rfl rfl rfl rfl ?_
          refine op_assign (v := .bool (decide ((Pk.runeIdx x0 (fun (y0 : I32) => Pk.badRune y0.v x1 x2)) < 0))) rfl rfl rfl ?_
          refine wpList_nil ?_
          refine hK99 _ _ ?_
          refine wp_ret ?_
          have hr104 : (decide ((Pk.runeIdx x0 (fun (y0 : I32) => Pk.badRune y0.v x1 x2)) < 0)) = (Pk.named x0 x1 x2) := by simp [ Pk.named, hb25, hb51, hb75, hb96]
          exact ret1 Try.results90 rfl ⟨congrArg Value.bool hr104, (((e8.trans e15).trans e95).trans e103).old⟩
set_option maxHeartbeats 1000000 in
theorem c51 {M : List Nat} {w : World} {x0 : ByteArray} (hM : Lo M w)  : Calls Try.prog 51 #[.string x0] w (Ret fun v w' => v = .bool (Pk.classB x0) ∧ Upd [] w w') := by
  refine enter (l := [.string x0]) Try.func51 rfl Try.ntmps51 rfl ?_
  refine c_seq fun KhK1 hK1 => ?_
  refine c_reg ?_
  refine op_assign (v := .bool false) rfl rfl rfl ?_
  refine wpList_nil ?_
  refine hK1 _ _ ?_
  refine c_seq fun KhK2 hK2 => ?_
  refine c_reg ?_
  refine op_move (v := .string x0) rfl rfl rfl ?_
  refine op_call (args := [.string x0, .int .u8 65, .int .u8 90]) cal90 rfl rfl rfl (c90 (x1 := 65) (x2 := 90) ((Evo.refl [] w).loM hM)) ?_
  rintro _ w3 ⟨rfl, u4⟩
  have e6 := u4.evo0 (m := [])
  refine op_move (v := .bool (Pk.named x0 65 90)) rfl rfl rfl ?_
  refine op_partB 5 rfl (fun hb7 => ?_) (fun hb7 => ?_)
  · -- (Pk.named x0 65 90) = true
    refine op_buildSlice (r := [.string (⟨#[73, 78, 84, 69, 71, 69, 82]⟩ : ByteArray), .string (⟨#[66, 79, 79, 76, 69, 65, 78]⟩ : ByteArray), .string (⟨#[65, 78, 89]⟩ : ByteArray), .string (⟨#[78, 79, 78, 69]⟩ : ByteArray)]) ty138 ty9 rfl rfl rfl rfl rfl rfl fun β8 w9 hβ10 u11 hz12 hx13 => ?_
    have nf14 : β8 ∉ [] ++ M := (e6.loM hM).fresh hβ10
    have e15 := u11.evo0 (m := [])
    have hs16 : SL ([] ++ M) w9 (some ⟨β8, 0, none⟩) 4 ([(⟨#[73, 78, 84, 69, 71, 69, 82]⟩ : ByteArray), (⟨#[66, 79, 79, 76, 69, 65, 78]⟩ : ByteArray), (⟨#[65, 78, 89]⟩ : ByteArray), (⟨#[78, 79, 78, 69]⟩ : ByteArray)] : List ByteArray) := SL.of_boxL hx13 nf14 (by simp only [List.length_cons, List.length_nil]; omega) ⟨[.string (⟨#[73, 78, 84, 69, 71, 69, 82]⟩ : ByteArray)], _, rfl, rfl, ⟨[.string (⟨#[66, 79, 79, 76, 69, 65, 78]⟩ : ByteArray)], _, rfl, rfl, ⟨[.string (⟨#[65, 78, 89]⟩ : ByteArray)], _, rfl, rfl, ⟨[.string (⟨#[78, 79, 78, 69]⟩ : ByteArray)], _, rfl, rfl, rfl⟩⟩⟩⟩
    refine op_move (v := .string x0) rfl rfl rfl ?_
    refine op_call (args := [.slice (some ⟨β8, 0, none⟩) ([(⟨#[73, 78, 84, 69, 71, 69, 82]⟩ : ByteArray), (⟨#[66, 79, 79, 76, 69, 65, 78]⟩ : ByteArray), (⟨#[65, 78, 89]⟩ : ByteArray), (⟨#[78, 79, 78, 69]⟩ : ByteArray)] : List ByteArray).length 4, .string x0]) cal91 rfl rfl rfl (c91 ((e6.trans e15).loM hM) hs16) ?_
    rintro _ w17 ⟨rfl, u18⟩
    have e20 := u18.evo0 (m := [])
    refine op_notB rfl rfl rfl ?_
    refine op_pickT (v := .bool (!(Pk.shas ([(⟨#[73, 78, 84, 69, 71, 69, 82]⟩ : ByteArray), (⟨#[66, 79, 79, 76, 69, 65, 78]⟩ : ByteArray), (⟨#[65, 78, 89]⟩ : ByteArray), (⟨#[78, 79, 78, 69]⟩ : ByteArray)] : List ByteArray) x0))) rfl rfl rfl rfl ?_
    refine op_assign (v := .bool (!(Pk.shas ([(⟨#[73, 78, 84, 69, 71, 69, 82]⟩ : ByteArray), (⟨#[66, 79, 79, 76, 69, 65, 78]⟩ : ByteArray), (⟨#[65, 78, 89]⟩ : ByteArray), (⟨#[78, 79, 78, 69]⟩ : ByteArray)] : List ByteArray) x0))) rfl rfl rfl ?_
    refine wpList_nil ?_
    refine hK2 _ _ ?_
    refine wp_ret ?_
    have hr21 : (!(Pk.shas ([(⟨#[73, 78, 84, 69, 71, 69, 82]⟩ : ByteArray), (⟨#[66, 79, 79, 76, 69, 65, 78]⟩ : ByteArray), (⟨#[65, 78, 89]⟩ : ByteArray), (⟨#[78, 79, 78, 69]⟩ : ByteArray)] : List ByteArray) x0)) = (Pk.classB x0) := by simp [ Pk.classWords, Pk.classB, hb7]
    exact ret1 Try.results51 rfl ⟨congrArg Value.bool hr21, ((e6.trans e15).trans e20).old⟩
  · -- (Pk.named x0 65 90) = false
    refine op_not rfl ?_
    refine op_not rfl ?_
    refine op_not rfl ?_
    refine op_not rfl ?_
    refine op_pickF (v := .bool false) rfl rfl rfl rfl ?_
    refine op_assign (v := .bool false) rfl rfl rfl ?_
    refine wpList_nil ?_
    refine hK2 _ _ ?_
    refine wp_ret ?_
    have hr22 : false = (Pk.classB x0) := by simp [ Pk.classWords, Pk.classB, hb7]
    exact ret1 Try.results51 rfl ⟨congrArg Value.bool hr22, e6.old⟩
set_option maxHeartbeats 1000000 in
theorem c94 {M : List Nat} {w : World} {x0 : ByteArray} (hM : Lo M w)  : Calls Try.prog 94 #[.string x0] w (Ret fun v w' => v = .bool (Pk.smallB x0) ∧ Upd [] w w') := by
  refine enter (l := [.string x0]) Try.func94 rfl Try.ntmps94 rfl ?_
  refine c_seq fun KhK1 hK1 => ?_
  refine c_reg ?_
  refine op_assign (v := .bool false) rfl rfl rfl ?_
  refine wpList_nil ?_
  refine hK1 _ _ ?_
  refine c_seq fun KhK2 hK2 => ?_
  refine c_reg ?_
  refine op_move (v := .string x0) rfl rfl rfl ?_
  refine op_call (args := [.string x0, .int .u8 97, .int .u8 122]) cal90 rfl rfl rfl (c90 (x1 := 97) (x2 := 122) ((Evo.refl [] w).loM hM)) ?_
  rintro _ w3 ⟨rfl, u4⟩
  have e6 := u4.evo0 (m := [])
  refine op_move (v := .bool (Pk.named x0 97 122)) rfl rfl rfl ?_
  refine op_partB 5 rfl (fun hb7 => ?_) (fun hb7 => ?_)
  · -- (Pk.named x0 97 122) = true
    refine op_buildSlice (r := [.string (⟨#[116, 114, 117, 101]⟩ : ByteArray), .string (⟨#[102, 97, 108, 115, 101]⟩ : ByteArray), .string (⟨#[118, 111, 105, 100]⟩ : ByteArray), .string (⟨#[99, 117, 114, 114, 101, 110, 116]⟩ : ByteArray), .string (⟨#[114, 101, 115, 117, 108, 116]⟩ : ByteArray)]) ty138 ty9 rfl rfl rfl rfl rfl rfl fun β8 w9 hβ10 u11 hz12 hx13 => ?_
    have nf14 : β8 ∉ [] ++ M := (e6.loM hM).fresh hβ10
    have e15 := u11.evo0 (m := [])
    have hs16 : SL ([] ++ M) w9 (some ⟨β8, 0, none⟩) 5 ([(⟨#[116, 114, 117, 101]⟩ : ByteArray), (⟨#[102, 97, 108, 115, 101]⟩ : ByteArray), (⟨#[118, 111, 105, 100]⟩ : ByteArray), (⟨#[99, 117, 114, 114, 101, 110, 116]⟩ : ByteArray), (⟨#[114, 101, 115, 117, 108, 116]⟩ : ByteArray)] : List ByteArray) := SL.of_boxL hx13 nf14 (by simp only [List.length_cons, List.length_nil]; omega) ⟨[.string (⟨#[116, 114, 117, 101]⟩ : ByteArray)], _, rfl, rfl, ⟨[.string (⟨#[102, 97, 108, 115, 101]⟩ : ByteArray)], _, rfl, rfl, ⟨[.string (⟨#[118, 111, 105, 100]⟩ : ByteArray)], _, rfl, rfl, ⟨[.string (⟨#[99, 117, 114, 114, 101, 110, 116]⟩ : ByteArray)], _, rfl, rfl, ⟨[.string (⟨#[114, 101, 115, 117, 108, 116]⟩ : ByteArray)], _, rfl, rfl, rfl⟩⟩⟩⟩⟩
    refine op_move (v := .string x0) rfl rfl rfl ?_
    refine op_call (args := [.slice (some ⟨β8, 0, none⟩) ([(⟨#[116, 114, 117, 101]⟩ : ByteArray), (⟨#[102, 97, 108, 115, 101]⟩ : ByteArray), (⟨#[118, 111, 105, 100]⟩ : ByteArray), (⟨#[99, 117, 114, 114, 101, 110, 116]⟩ : ByteArray), (⟨#[114, 101, 115, 117, 108, 116]⟩ : ByteArray)] : List ByteArray).length 5, .string x0]) cal91 rfl rfl rfl (c91 ((e6.trans e15).loM hM) hs16) ?_
    rintro _ w17 ⟨rfl, u18⟩
    have e20 := u18.evo0 (m := [])
    refine op_notB rfl rfl rfl ?_
    refine op_pickT (v := .bool (!(Pk.shas ([(⟨#[116, 114, 117, 101]⟩ : ByteArray), (⟨#[102, 97, 108, 115, 101]⟩ : ByteArray), (⟨#[118, 111, 105, 100]⟩ : ByteArray), (⟨#[99, 117, 114, 114, 101, 110, 116]⟩ : ByteArray), (⟨#[114, 101, 115, 117, 108, 116]⟩ : ByteArray)] : List ByteArray) x0))) rfl rfl rfl rfl ?_
    refine op_assign (v := .bool (!(Pk.shas ([(⟨#[116, 114, 117, 101]⟩ : ByteArray), (⟨#[102, 97, 108, 115, 101]⟩ : ByteArray), (⟨#[118, 111, 105, 100]⟩ : ByteArray), (⟨#[99, 117, 114, 114, 101, 110, 116]⟩ : ByteArray), (⟨#[114, 101, 115, 117, 108, 116]⟩ : ByteArray)] : List ByteArray) x0))) rfl rfl rfl ?_
    refine wpList_nil ?_
    refine hK2 _ _ ?_
    refine wp_ret ?_
    have hr21 : (!(Pk.shas ([(⟨#[116, 114, 117, 101]⟩ : ByteArray), (⟨#[102, 97, 108, 115, 101]⟩ : ByteArray), (⟨#[118, 111, 105, 100]⟩ : ByteArray), (⟨#[99, 117, 114, 114, 101, 110, 116]⟩ : ByteArray), (⟨#[114, 101, 115, 117, 108, 116]⟩ : ByteArray)] : List ByteArray) x0)) = (Pk.smallB x0) := by simp [ Pk.smallWords, Pk.smallB, hb7]
    exact ret1 Try.results94 rfl ⟨congrArg Value.bool hr21, ((e6.trans e15).trans e20).old⟩
  · -- (Pk.named x0 97 122) = false
    refine op_not rfl ?_
    refine op_not rfl ?_
    refine op_not rfl ?_
    refine op_not rfl ?_
    refine op_pickF (v := .bool false) rfl rfl rfl rfl ?_
    refine op_assign (v := .bool false) rfl rfl rfl ?_
    refine wpList_nil ?_
    refine hK2 _ _ ?_
    refine wp_ret ?_
    have hr22 : false = (Pk.smallB x0) := by simp [ Pk.smallWords, Pk.smallB, hb7]
    exact ret1 Try.results94 rfl ⟨congrArg Value.bool hr22, e6.old⟩
set_option maxHeartbeats 1000000 in
theorem c53 {M : List Nat} {w : World} {x0 : List Pk.Col} {a_x0 : Option Addr} {c_x0 : Nat} (hM : Lo M w) (h_x0 : SL M w a_x0 c_x0 x0) : Calls Try.prog 53 #[.slice a_x0 x0.length c_x0] w (Ret fun v w' => v = .int .i64 (Pk.checkCols x0) ∧ Upd [] w w') := by
  have lh_x0 := h_x0.lt63
  refine enter (l := [.slice a_x0 x0.length c_x0]) Try.func53 rfl Try.ntmps53 rfl ?_
  refine c_seq fun KhK1 hK1 => ?_
  refine c_reg ?_
  refine op_assign (v := .int .i64 0) rfl rfl rfl ?_
  refine wpList_nil ?_
  refine hK1 _ _ ?_
  refine c_seq fun KhK2 hK2 => ?_
  refine c_seq fun KhK3 hK3 => ?_
  refine c_reg ?_
  refine op_move (v := .slice a_x0 x0.length c_x0) rfl rfl rfl ?_
  refine op_len ty89 rfl rfl rfl ?_
  refine op_gtr rfl rfl rfl rfl ?_
  refine wpList_nil ?_
  refine hK3 _ _ ?_
  refine c_if rfl rfl (fun hb4 => ?_) (fun hb4 => ?_)
  · -- 30 < (x0.length : Int)
    refine c_seq fun KhK5 hK5 => ?_
    refine c_reg ?_
    refine op_assign (v := .int .i64 3) rfl rfl rfl ?_
    refine wpList_nil ?_
    refine hK5 _ _ ?_
    refine wp_ret ?_
    have hr6 : 3 = (Pk.checkCols x0) := by first | (simp [ Pk.checkColsGo, Pk.checkCols, hb4]; done) | (simp [ Pk.checkColsGo, Pk.checkCols, hb4, Pk.within]; done)
    exact ret1 Try.results53 rfl ⟨congrArg (Value.int .i64) hr6, (Evo.refl [] w).old⟩
  · -- ¬ (30 < (x0.length : Int))
    refine wp_skip ?_
    refine hK2 _ _ ?_
    refine c_seq fun KhK7 hK7 => ?_
    refine c_seq fun KhK8 hK8 => ?_
    refine c_reg ?_
    refine op_move (v := .slice a_x0 x0.length c_x0) rfl rfl rfl ?_
    refine op_len ty89 rfl rfl rfl ?_
    refine op_move (v := .int .i64 0) rfl rfl rfl ?_
    refine wpList_nil ?_
    refine hK8 _ _ ?_
    refine wp_block ?_
    refine c_loop (X := Nat) [2, 3, 4, 10, 11, 12, 13, 14, 15, 16, 17, 18, 19, 20, 21, 22, 23, 24, 25, 26, 27, 28, 29, 30, 31, 32, 33, 34, 35, 36, 37, 38, 39, 40] (fun k => [(10, .int .i64 (k : Int))]) (fun k w1 => (k ≤ x0.length) ∧ (Pk.checkCols x0 = Pk.checkColsGo x0 k (x0.drop k)) ∧ Evo [] w [] w1) (fun k => x0.length - k) (0) ⟨congrArg (Value.int .i64) (show 0 = ((0 : Nat) : Int) by omega), trivial⟩ ?_ ?_
    ·
      exact ⟨(by first | omega | simp), (by simp [Pk.checkCols, hb4]), Evo.refl _ _⟩
    ·
      rintro k τ w9 ⟨hi11, hi12, e10⟩
      refine c_seq fun KhK13 hK13 => ?_
      refine c_reg ?_
      refine op_lss rfl rfl rfl rfl ?_
      refine wpList_nil ?_
      refine hK13 _ _ ?_
      refine c_seq fun KhK14 hK14 => ?_
      refine c_if rfl rfl (fun hb15 => ?_) (fun hb15 => ?_)
      · -- (k : Int) < (x0.length : Int)
        refine wp_skip ?_
        refine hK14 _ _ ?_
        refine c_seq fun KhK16 hK16 => ?_
        refine wp_block ?_
        refine c_seq fun KhK17 hK17 => ?_
        refine c_reg ?_
        refine op_move (v := .int .i64 (k : Int)) rfl rfl rfl ?_
        refine op_indexN (j := k) ty89 ty93 rfl rfl rfl rfl rfl (h_x0.mono (e10.tr M)) (by omega) fun ad18 cs19 u20 hx21 he22 ca23 => ?_
        obtain rfl := he22
        refine op_loadAA ty93 rfl rfl rfl rfl ca23 rfl ?_
        refine op_alloc (zs := [.string (⟨#[]⟩ : ByteArray), .int .i64 0, .string (⟨#[]⟩ : ByteArray)]) ty93 rfl rfl fun β24 w25 hβ26 u27 hz28 hx29 => ?_
        have e30 := u27.evoN (m := []) hβ26 hz28
        refine op_assign (v := .int .i64 (k : Int)) rfl rfl rfl ?_
        refine op_store (v := .agg #[.string u20.Name, .int .i64 u20.Kind, .string u20.Class]) (cs' := [.string u20.Name, .int .i64 u20.Kind, .string u20.Class]) ty93 rfl rfl rfl rfl hx29 rfl rfl rfl fun w31 u32 hz33 hx29' => ?_
        have e34 := u32.evo (m := (β24 :: [])) (List.forall_mem_singleton.2 List.mem_cons_self)
        refine wpList_nil ?_
        refine hK17 _ _ ?_
        refine c_seq fun KhK35 hK35 => ?_
        refine c_seq fun KhK36 hK36 => ?_
        refine c_reg ?_
        refine op_fieldB fld93_0 rfl rfl rfl ?_
        refine op_loadB (v := .string u20.Name) ty9 rfl rfl rfl rfl hx29' rfl ?_
        refine op_call (args := [.string u20.Name]) cal94 rfl rfl rfl (c94 (((e10.trans e30).trans e34).loM hM)) ?_
        rintro _ w37 ⟨rfl, u38⟩
        have e40 := u38.evo0 (m := (β24 :: []))
        replace hx29' := hx29'.mono0 u38
        refine op_notB rfl rfl rfl ?_
        refine wpList_nil ?_
        refine hK36 _ _ ?_
        refine c_ifNB rfl rfl (fun hb41 => ?_) (fun hb41 => ?_)
        · -- (Pk.smallB u20.Name) = false
          refine c_seq fun KhK42 hK42 => ?_
          refine c_reg ?_
          refine op_assign (v := .int .i64 4) rfl rfl rfl ?_
          refine wpList_nil ?_
          refine hK42 _ _ ?_
          refine wp_ret ?_
          have hr43 : 4 = (Pk.checkCols x0) := by rw [hi12]; first | (simp [drop_of hx21, Pk.checkColsGo, hb4, hi11, hb15, hx21, hb41]; done) | (simp [drop_of hx21, Pk.checkColsGo, hb4, hi11, hb15, hx21, hb41, Pk.within]; done)
          exact ret1 Try.results53 rfl ⟨congrArg (Value.int .i64) hr43, (((e10.trans e30).trans e34).trans e40).old⟩
        · -- (Pk.smallB u20.Name) = true
          refine wp_skip ?_
          refine hK35 _ _ ?_
          refine c_seq fun KhK44 hK44 => ?_
          refine c_seq fun KhK45 hK45 => ?_
          refine c_quiet mixed (by kernel_rfl) ?_
          refine q_val (v := .slice a_x0 x0.length c_x0) rfl rfl rfl (fun wq46 uq47 => op_move (v := .slice a_x0 x0.length c_x0) rfl rfl rfl q1) ?_
          refine q_val (v := .int .i64 (k : Int)) rfl rfl rfl (fun wq48 uq49 => op_move (v := .int .i64 (k : Int)) rfl rfl rfl q1) ?_
          refine q_val (v := .slice a_x0 (x0.take k).length c_x0) rfl rfl rfl (fun wq50 uq51 => op_sliceTo ty89 ty93 rfl rfl rfl rfl (by omega) h_x0.1.1 q1) ?_
          refine q_val (v := .pointer (some ⟨β24, 0, none⟩)) rfl rfl rfl (fun wq52 uq53 => op_fieldB fld93_0 rfl rfl rfl q1) ?_
          refine q_val (v := .string u20.Name) rfl rfl rfl (fun wq54 uq55 => op_loadB (v := .string u20.Name) ty9 rfl rfl rfl rfl (hx29'.mono0 uq55) rfl q1) ?_
          refine q_call (args := [.slice a_x0 (x0.take k).length c_x0, .string u20.Name]) (v := .int .i64 (Pk.col (x0.take k) u20.Name)) cal95 rfl rfl rfl (fun wq56 uq57 => c95 (((((e10.trans e30).trans e34).trans e40).trans (uq57.evo0 (m := (β24 :: [])))).loM hM) ((h_x0.take k).mono (((((e10.trans e30).trans e34).trans e40).trans (uq57.evo0 (m := (β24 :: [])))).tr M))) ?_
          refine q_val (v := .bool (decide (0 ≤ (Pk.col (x0.take k) u20.Name)))) rfl rfl rfl (fun wq58 uq59 => op_geq rfl rfl rfl rfl q1) ?_
          refine wpQuiet_nil fun w60 u61 => ?_
          have e62 := u61.evo0 (m := (β24 :: []))
          replace hx29' := hx29'.mono0 u61
          refine hK45 _ _ ?_
          refine c_if rfl rfl (fun hb63 => ?_) (fun hb63 => ?_)
          · -- 0 ≤ (Pk.col (x0.take k) u20.Name)
            refine c_seq fun KhK64 hK64 => ?_
            refine c_reg ?_
            refine op_assign (v := .int .i64 6) rfl rfl rfl ?_
            refine wpList_nil ?_
            refine hK64 _ _ ?_
            refine wp_ret ?_
            have hr65 : 6 = (Pk.checkCols x0) := by rw [hi12]; first | (simp [drop_of hx21, Pk.checkColsGo, hb4, hi11, hb15, hx21, hb41, hb63]; done) | (simp [drop_of hx21, Pk.checkColsGo, hb4, hi11, hb15, hx21, hb41, hb63, Pk.within]; done)
            exact ret1 Try.results53 rfl ⟨congrArg (Value.int .i64) hr65, ((((e10.trans e30).trans e34).trans e40).trans e62).old⟩
          · -- ¬ (0 ≤ (Pk.col (x0.take k) u20.Name))
            refine wp_skip ?_
            refine hK44 _ _ ?_
            refine c_seq fun KhK66 hK66 => ?_
            refine c_reg ?_
            refine op_fieldB fld93_1 rfl rfl rfl ?_
            refine op_loadB (v := .int .i64 u20.Kind) ty3 rfl rfl rfl rfl hx29' rfl ?_
            refine op_call (args := [.int .i64 u20.Kind, .int .i64 1, .int .i64 3]) cal83 rfl rfl rfl (c83 (((((e10.trans e30).trans e34).trans e40).trans e62).loM hM)) ?_
            rintro _ w67 ⟨rfl, u68⟩
            have e70 := u68.evo0 (m := (β24 :: []))
            replace hx29' := hx29'.mono0 u68
            refine op_notB rfl rfl rfl ?_
            refine op_move (v := .bool (!(Pk.within u20.Kind 1 3))) rfl rfl rfl ?_
            refine op_partNB 30 rfl (fun hb71 => ?_) (fun hb71 => ?_)
            · -- (Pk.within u20.Kind 1 3) = false
              refine op_not rfl ?_
              refine op_not rfl ?_
              refine op_not rfl ?_
              refine op_not rfl ?_
              refine op_not rfl ?_
              refine op_not rfl ?_
              refine op_not rfl ?_
              refine op_not rfl ?_
              refine op_pickT (v := .bool true) rfl rfl rfl rfl ?_
              refine wpList_nil ?_
              refine hK66 _ _ ?_
              refine c_ifT rfl rfl ?_
              refine c_seq fun KhK72 hK72 => ?_
              refine c_reg ?_
              refine op_assign (v := .int .i64 1) rfl rfl rfl ?_
              refine wpList_nil ?_
              refine hK72 _ _ ?_
              refine wp_ret ?_
              have hr73 : 1 = (Pk.checkCols x0) := by rw [hi12]; first | (simp [drop_of hx21, Pk.checkColsGo, hb4, hi11, hb15, hx21, hb41, hb63, hb71]; done) | (simp [drop_of hx21, Pk.checkColsGo, hb4, hi11, hb15, hx21, hb41, hb63, hb71, Pk.within]; done)
              exact ret1 Try.results53 rfl ⟨congrArg (Value.int .i64) hr73, (((((e10.trans e30).trans e34).trans e40).trans e62).trans e70).old⟩
            · -- (Pk.within u20.Kind 1 3) = true
              refine op_fieldB fld93_1 rfl rfl rfl ?_
              refine op_loadB (v := .int .i64 u20.Kind) ty3 rfl rfl rfl rfl hx29' rfl ?_
              refine op_neq rfl rfl rfl rfl ?_
              refine op_move (v := .bool (decide (¬ (u20.Kind = 3)))) rfl rfl rfl ?_
              refine op_partN 34 rfl (fun hb74 => ?_) (fun hb74 => ?_)
              · -- ¬ (u20.Kind = 3)
                refine op_fieldB fld93_2 rfl rfl rfl ?_
                refine op_loadB (v := .string u20.Class) ty9 rfl rfl rfl rfl hx29' rfl ?_
                refine op_neqS rfl rfl rfl rfl ?_
                refine op_pickT (v := .bool (decide (¬ (u20.Class = (⟨#[]⟩ : ByteArray))))) rfl rfl rfl rfl ?_
                refine op_pickF (v := .bool (decide (¬ (u20.Class = (⟨#[]⟩ : ByteArray))))) rfl rfl rfl rfl ?_
                refine wpList_nil ?_
                refine hK66 _ _ ?_
                refine c_ifN rfl rfl (fun hb75 => ?_) (fun hb75 => ?_)
                · -- ¬ (u20.Class = (⟨#[]⟩ : ByteArray))
                  refine c_seq fun KhK76 hK76 => ?_
                  refine c_reg ?_
                  refine op_assign (v := .int .i64 1) rfl rfl rfl ?_
                  refine wpList_nil ?_
                  refine hK76 _ _ ?_
                  refine wp_ret ?_
                  have hr77 : 1 = (Pk.checkCols x0) := by rw [hi12]; first | (simp [drop_of hx21, Pk.checkColsGo, hb4, hi11, hb15, hx21, hb41, hb63, hb71, hb74, hb75]; done) | (simp [drop_of hx21, Pk.checkColsGo, hb4, hi11, hb15, hx21, hb41, hb63, hb71, hb74, hb75, Pk.within]; done)
                  exact ret1 Try.results53 rfl ⟨congrArg (Value.int .i64) hr77, (((((e10.trans e30).trans e34).trans e40).trans e62).trans e70).old⟩
                · -- u20.Class = (⟨#[]⟩ : ByteArray)
                  refine wp_skip ?_
                  refine hK16 _ _ ?_
                  refine c_reg ?_
                  refine op_add rfl rfl rfl rfl (by omega) ?_
                  refine op_move (v := .int .i64 ((k : Int) + 1)) rfl rfl rfl ?_
                  refine wpList_nil ?_
                  repeat (with_reducible refine inBlock_normal ?_)
                  with_reducible refine then_normal ?_
                  exact ⟨(k + 1), (by first | omega | (dsimp only; omega)), ⟨(by first | omega | (simp only [List.length_append, List.length_cons, List.length_nil]; omega) | (rw [hi12]; first | (simp [drop_of hx21, Pk.checkColsGo, hb4, hi11, hb15, hx21, hb41, hb63, hb71, hb74, hb75]; done) | (simp [drop_of hx21, Pk.checkColsGo, hb4, hi11, hb15, hx21, hb41, hb63, hb71, hb74, hb75, Pk.within]; done))), (by rw [hi12]; first | (simp [drop_of hx21, Pk.checkColsGo, hb4, hi11, hb15, hx21, hb41, hb63, hb71, hb74, hb75]; done) | (simp [drop_of hx21, Pk.checkColsGo, hb4, hi11, hb15, hx21, hb41, hb63, hb71, hb74, hb75, Pk.within]; done)), ((((((e10.trans e30).trans e34).trans e40).trans e62).trans e70).drop (fun b hb => by simp [hb]))⟩, _, rfl, (by repeat first | exact agree.refl _ _ | refine agree.upd rfl ?_ | refine agree.upds rfl ?_ | refine agree.mix rfl ?_), ⟨congrArg (Value.int .i64) (show ((k : Int) + 1) = ((k + 1 : Nat) : Int) by omega), trivial⟩⟩
              · -- u20.Kind = 3
                refine op_not rfl ?_
                refine op_not rfl ?_
                refine op_not rfl ?_
                refine op_pickF (v := .bool false) rfl rfl rfl rfl ?_
                refine op_pickF (v := .bool false) rfl rfl rfl rfl ?_
                refine wpList_nil ?_
                refine hK66 _ _ ?_
                refine c_ifF rfl rfl ?_
                refine wp_skip ?_
                refine hK16 _ _ ?_
                refine c_reg ?_
                refine op_add rfl rfl rfl rfl (by omega) ?_
                refine op_move (v := .int .i64 ((k : Int) + 1)) rfl rfl rfl ?_
                refine wpList_nil ?_
                repeat (with_reducible refine inBlock_normal ?_)
                with_reducible refine then_normal ?_
                exact ⟨(k + 1), (by first | omega | (dsimp only; omega)), ⟨(by first | omega | (simp only [List.length_append, List.length_cons, List.length_nil]; omega) | (rw [hi12]; first | (simp [drop_of hx21, Pk.checkColsGo, hb4, hi11, hb15, hx21, hb41, hb63, hb71, hb74]; done) | (simp [drop_of hx21, Pk.checkColsGo, hb4, hi11, hb15, hx21, hb41, hb63, hb71, hb74, Pk.within]; done))), (by rw [hi12]; first | (simp [drop_of hx21, Pk.checkColsGo, hb4, hi11, hb15, hx21, hb41, hb63, hb71, hb74]; done) | (simp [drop_of hx21, Pk.checkColsGo, hb4, hi11, hb15, hx21, hb41, hb63, hb71, hb74, Pk.within]; done)), ((((((e10.trans e30).trans e34).trans e40).trans e62).trans e70).drop (fun b hb => by simp [hb]))⟩, _, rfl, (by repeat first | exact agree.refl _ _ | refine agree.upd rfl ?_ | refine agree.upds rfl ?_ | refine agree.mix rfl ?_), ⟨congrArg (Value.int .i64) (show ((k : Int) + 1) = ((k + 1 : Nat) : Int) by omega), trivial⟩⟩
      · -- ¬ ((k : Int) < (x0.length : Int))
        refine wp_exit ?_
        refine hK7 _ _ ?_
        refine c_seq fun KhK78 hK78 => ?_
        refine c_reg ?_
        refine op_assign (v := .int .i64 0) rfl rfl rfl ?_
        refine wpList_nil ?_
        refine hK78 _ _ ?_
        refine wp_ret ?_
        have hr79 : 0 = (Pk.checkCols x0) := by rw [hi12]; first | (simp [drop_end (l := x0) (k := k) (by first | omega | (rw [bytes_length]; omega)), Pk.checkColsGo, hb4, hi11, hb15]; done) | (simp [drop_end (l := x0) (k := k) (by first | omega | (rw [bytes_length]; omega)), Pk.checkColsGo, hb4, hi11, hb15, Pk.within]; done)
        exact ret1 Try.results53 rfl ⟨congrArg (Value.int .i64) hr79, e10.old⟩
set_option maxHeartbeats 1000000 in
theorem c16 {M : List Nat} {w : World} {x0 : List Pk.Form} {a_x0 : Option Addr} {c_x0 : Nat} (hM : Lo M w) (h_x0 : SL M w a_x0 c_x0 x0) : Calls Try.prog 16 #[.slice a_x0 x0.length c_x0] w (Ret fun v w' => v = .int .i64 (Pk.checkForms x0) ∧ Upd [] w w') := by
  have lh_x0 := h_x0.lt63
  refine enter (l := [.slice a_x0 x0.length c_x0]) Try.func16 rfl Try.ntmps16 rfl ?_
  refine c_seq fun KhK1 hK1 => ?_
  refine c_reg ?_
  refine op_assign (v := .int .i64 0) rfl rfl rfl ?_
  refine wpList_nil ?_
  refine hK1 _ _ ?_
  refine c_seq fun KhK2 hK2 => ?_
  refine c_seq fun KhK3 hK3 => ?_
  refine c_reg ?_
  refine op_move (v := .slice a_x0 x0.length c_x0) rfl rfl rfl ?_
  refine op_len ty22 rfl rfl rfl ?_
  refine op_gtr rfl rfl rfl rfl ?_
  refine wpList_nil ?_
  refine hK3 _ _ ?_
  refine c_if rfl rfl (fun hb4 => ?_) (fun hb4 => ?_)
  · -- 24 < (x0.length : Int)
    refine c_seq fun KhK5 hK5 => ?_
    refine c_reg ?_
    refine op_assign (v := .int .i64 3) rfl rfl rfl ?_
    refine wpList_nil ?_
    refine hK5 _ _ ?_
    refine wp_ret ?_
    have hr6 : 3 = (Pk.checkForms x0) := by simp [ Pk.cfGo, Pk.cfGo2, Pk.cfIn, Pk.strANY, Pk.checkForms, hb4]
    exact ret1 Try.results16 rfl ⟨congrArg (Value.int .i64) hr6, (Evo.refl [] w).old⟩
  · -- ¬ (24 < (x0.length : Int))
    refine wp_skip ?_
    refine hK2 _ _ ?_
    refine c_seq fun KhK7 hK7 => ?_
    refine c_seq fun KhK8 hK8 => ?_
    refine c_reg ?_
    refine op_move (v := .slice a_x0 x0.length c_x0) rfl rfl rfl ?_
    refine op_len ty22 rfl rfl rfl ?_
    refine op_move (v := .int .i64 0) rfl rfl rfl ?_
    refine wpList_nil ?_
    refine hK8 _ _ ?_
    refine wp_block ?_
    refine c_loop (X := Nat) [2, 3, 4, 5, 15, 16, 17, 18, 19, 20, 21, 22, 23, 24, 25, 26, 27, 28, 29, 30, 31, 32, 33, 34, 35, 36, 37, 38, 39, 40] (fun k => [(15, .int .i64 (k : Int))]) (fun k w1 => (k ≤ x0.length) ∧ (Pk.checkForms x0 = Pk.cfGo x0 k (x0.drop k)) ∧ Evo [] w [] w1) (fun k => x0.length - k) (0) ⟨congrArg (Value.int .i64) (show 0 = ((0 : Nat) : Int) by omega), trivial⟩ ?_ ?_
    ·
      exact ⟨(by first | omega | simp), (by simp [Pk.checkForms, hb4]), Evo.refl _ _⟩
    ·
      rintro k τ w9 ⟨hi11, hi12, e10⟩
      refine c_seq fun KhK13 hK13 => ?_
      refine c_reg ?_
      refine op_lss rfl rfl rfl rfl ?_
      refine wpList_nil ?_
      refine hK13 _ _ ?_
      refine c_seq fun KhK14 hK14 => ?_
      refine c_if rfl rfl (fun hb15 => ?_) (fun hb15 => ?_)
      · -- (k : Int) < (x0.length : Int)
        refine wp_skip ?_
        refine hK14 _ _ ?_
        refine c_seq fun KhK16 hK16 => ?_
        refine wp_block ?_
        refine c_seq fun KhK17 hK17 => ?_
        refine c_reg ?_
        refine op_move (v := .int .i64 (k : Int)) rfl rfl rfl ?_
        refine op_indexN (j := k) ty22 ty91 rfl rfl rfl rfl rfl (h_x0.mono (e10.tr M)) (by omega) fun ad18 cs19 u20 hx21 he22 ca23 => ?_
        obtain ⟨a_u20, c_u20, rfl, h_u20⟩ := he22
        have lh_u20 := h_u20.lt63
        refine op_loadAA ty91 rfl rfl rfl rfl ca23 rfl ?_
        refine op_alloc (zs := [.string (⟨#[]⟩ : ByteArray), .slice none 0 0]) ty91 rfl rfl fun β24 w25 hβ26 u27 hz28 hx29 => ?_
        have e30 := u27.evoN (m := []) hβ26 hz28
        refine op_assign (v := .int .i64 (k : Int)) rfl rfl rfl ?_
        refine op_store (v := .agg #[.string u20.Name, .slice a_u20 u20.Cols.length c_u20]) (cs' := [.string u20.Name, .slice a_u20 u20.Cols.length c_u20]) ty91 rfl rfl rfl rfl hx29 rfl rfl rfl fun w31 u32 hz33 hx29' => ?_
        have e34 := u32.evo (m := (β24 :: [])) (List.forall_mem_singleton.2 List.mem_cons_self)
        refine wpList_nil ?_
        refine hK17 _ _ ?_
        refine c_seq fun KhK35 hK35 => ?_
        refine c_tail 15 mixed (by kernel_rfl) ?_
        refine q_val (v := .pointer (some ⟨β24, 0, none⟩)) rfl rfl rfl (fun wq36 uq37 => op_fieldB fld91_0 rfl rfl rfl q1) ?_
        refine q_val (v := .string u20.Name) rfl rfl rfl (fun wq38 uq39 => op_loadB (v := .string u20.Name) ty9 rfl rfl rfl rfl (hx29'.mono0 uq39) rfl q1) ?_
        refine q_call (args := [.string u20.Name]) (v := .bool (Pk.classB u20.Name)) cal51 rfl rfl rfl (fun wq40 uq41 => c51 ((((e10.trans e30).trans e34).trans (uq41.evo0 (m := (β24 :: [])))).loM hM)) ?_
        refine q_call (args := [.bool (Pk.classB u20.Name), .int .i64 4]) (v := .int .i64 (Pk.unlessE (Pk.classB u20.Name) 4)) cal50 rfl rfl rfl (fun wq42 uq43 => c50 ((((e10.trans e30).trans e34).trans (uq43.evo0 (m := (β24 :: [])))).loM hM)) ?_
        refine q_val (v := .slice a_x0 x0.length c_x0) rfl rfl rfl (fun wq44 uq45 => op_move (v := .slice a_x0 x0.length c_x0) rfl rfl rfl q1) ?_
        refine q_val (v := .int .i64 (k : Int)) rfl rfl rfl (fun wq46 uq47 => op_move (v := .int .i64 (k : Int)) rfl rfl rfl q1) ?_
        refine q_val (v := .slice a_x0 (x0.take k).length c_x0) rfl rfl rfl (fun wq48 uq49 => op_sliceTo ty22 ty91 rfl rfl rfl rfl (by omega) h_x0.1.1 q1) ?_
        refine q_val (v := .pointer (some ⟨β24, 0, none⟩)) rfl rfl rfl (fun wq50 uq51 => op_fieldB fld91_0 rfl rfl rfl q1) ?_
        refine q_val (v := .string u20.Name) rfl rfl rfl (fun wq52 uq53 => op_loadB (v := .string u20.Name) ty9 rfl rfl rfl rfl (hx29'.mono0 uq53) rfl q1) ?_
        refine q_call (args := [.slice a_x0 (x0.take k).length c_x0, .string u20.Name]) (v := .int .i64 (Pk.form (x0.take k) u20.Name)) cal52 rfl rfl rfl (fun wq54 uq55 => c52 ((((e10.trans e30).trans e34).trans (uq55.evo0 (m := (β24 :: [])))).loM hM) ((h_x0.take k).mono ((((e10.trans e30).trans e34).trans (uq55.evo0 (m := (β24 :: [])))).tr M))) ?_
        refine q_val (v := .bool (decide ((Pk.form (x0.take k) u20.Name) < 0))) rfl rfl rfl (fun wq56 uq57 => op_lss rfl rfl rfl rfl q1) ?_
        refine q_call (args := [.bool (decide ((Pk.form (x0.take k) u20.Name) < 0)), .int .i64 6]) (v := .int .i64 (Pk.unlessE (decide ((Pk.form (x0.take k) u20.Name) < 0)) 6)) cal50 rfl rfl rfl (fun wq58 uq59 => c50 ((((e10.trans e30).trans e34).trans (uq59.evo0 (m := (β24 :: [])))).loM hM)) ?_
        refine q_val (v := .pointer (some ⟨β24, 1, none⟩)) rfl rfl rfl (fun wq60 uq61 => op_fieldB fld91_1 rfl rfl rfl q1) ?_
        refine q_val (v := .slice a_u20 u20.Cols.length c_u20) rfl rfl rfl (fun wq62 uq63 => op_loadB (v := .slice a_u20 u20.Cols.length c_u20) ty89 rfl rfl rfl rfl (hx29'.mono0 uq63) rfl q1) ?_
        refine q_call (args := [.slice a_u20 u20.Cols.length c_u20]) (v := .int .i64 (Pk.checkCols u20.Cols)) cal53 rfl rfl rfl (fun wq64 uq65 => c53 ((((e10.trans e30).trans e34).trans (uq65.evo0 (m := (β24 :: [])))).loM hM) (h_u20.mono (((e30.trans e34).trans (uq65.evo0 (m := (β24 :: [])))).tr M))) ?_
        refine wpQuiet_nil fun w66 u67 => ?_
        have e68 := u67.evo0 (m := (β24 :: []))
        replace hx29' := hx29'.mono0 u67
        refine op_buildSlice (r := [.int .i64 (Pk.unlessE (Pk.classB u20.Name) 4), .int .i64 (Pk.unlessE (decide ((Pk.form (x0.take k) u20.Name) < 0)) 6), .int .i64 (Pk.checkCols u20.Cols)]) ty135 ty30 rfl rfl rfl rfl rfl rfl fun β69 w70 hβ71 u72 hz73 hx74 => ?_
        have nf75 : β69 ∉ (β24 :: []) ++ M := ((((e10.trans e30).trans e34).trans e68).loM hM).fresh hβ71
        have e76 := u72.evo0 (m := (β24 :: []))
        replace hx29' := hx29'.mono0 u72
        have hs77 : SL ((β24 :: []) ++ M) w70 (some ⟨β69, 0, none⟩) 3 ([(Pk.unlessE (Pk.classB u20.Name) 4), (Pk.unlessE (decide ((Pk.form (x0.take k) u20.Name) < 0)) 6), (Pk.checkCols u20.Cols)] : List Int) := SL.of_boxL hx74 nf75 (by simp only [List.length_cons, List.length_nil]; omega) ⟨[.int .i64 (Pk.unlessE (Pk.classB u20.Name) 4)], _, rfl, rfl, ⟨[.int .i64 (Pk.unlessE (decide ((Pk.form (x0.take k) u20.Name) < 0)) 6)], _, rfl, rfl, ⟨[.int .i64 (Pk.checkCols u20.Cols)], _, rfl, rfl, rfl⟩⟩⟩
        refine op_call (args := [.slice (some ⟨β69, 0, none⟩) ([(Pk.unlessE (Pk.classB u20.Name) 4), (Pk.unlessE (decide ((Pk.form (x0.take k) u20.Name) < 0)) 6), (Pk.checkCols u20.Cols)] : List Int).length 3]) cal49 rfl rfl rfl (c49 (((((e10.trans e30).trans e34).trans e68).trans e76).loM hM) hs77) ?_
        rintro _ w78 ⟨rfl, u79⟩
        have e81 := u79.evo0 (m := (β24 :: []))
        replace hx29' := hx29'.mono0 u79
        refine op_assign (v := .int .i64 (Pk.first ([(Pk.unlessE (Pk.classB u20.Name) 4), (Pk.unlessE (decide ((Pk.form (x0.take k) u20.Name) < 0)) 6), (Pk.checkCols u20.Cols)] : List Int))) rfl rfl rfl ?_
        refine wpList_nil ?_
        refine hK35 _ _ ?_
        refine c_seq fun KhK82 hK82 => ?_
        refine c_reg ?_
        refine op_move (v := .int .i64 (Pk.first ([(Pk.unlessE (Pk.classB u20.Name) 4), (Pk.unlessE (decide ((Pk.form (x0.take k) u20.Name) < 0)) 6), (Pk.checkCols u20.Cols)] : List Int))) rfl rfl rfl ?_
        refine op_neq rfl rfl rfl rfl ?_
        refine wpList_nil ?_
        refine hK82 _ _ ?_
        refine c_ifN rfl rfl (fun hb83 => ?_) (fun hb83 => ?_)
        · -- ¬ ((Pk.first ([(Pk.unlessE (Pk.classB u20.Name) 4), (Pk.unlessE (decide ((Pk.form (x0.take k) u20.Name) < 0)) 6), (Pk.checkCols u20.Cols)] : List Int)) = 0)
          refine c_seq fun KhK84 hK84 => ?_
          refine c_reg ?_
          refine op_move (v := .int .i64 (Pk.first ([(Pk.unlessE (Pk.classB u20.Name) 4), (Pk.unlessE (decide ((Pk.form (x0.take k) u20.Name) < 0)) 6), (Pk.checkCols u20.Cols)] : List Int))) rfl rfl rfl ?_
          refine op_assign (v := .int .i64 (Pk.first ([(Pk.unlessE (Pk.classB u20.Name) 4), (Pk.unlessE (decide ((Pk.form (x0.take k) u20.Name) < 0)) 6), (Pk.checkCols u20.Cols)] : List Int))) rfl rfl rfl ?_
          refine wpList_nil ?_
          refine hK84 _ _ ?_
          refine wp_ret ?_
          have hr85 : (Pk.first ([(Pk.unlessE (Pk.classB u20.Name) 4), (Pk.unlessE (decide ((Pk.form (x0.take k) u20.Name) < 0)) 6), (Pk.checkCols u20.Cols)] : List Int)) = (Pk.checkForms x0) := by rw [hi12]; simp [drop_of hx21, Pk.cfGo, Pk.cfGo2, Pk.cfIn, Pk.strANY, hb4, hi11, hb15, hx21, hb83]
          exact ret1 Try.results16 rfl ⟨congrArg (Value.int .i64) hr85, (((((e10.trans e30).trans e34).trans e68).trans e76).trans e81).old⟩
        · -- (Pk.first ([(Pk.unlessE (Pk.classB u20.Name) 4), (Pk.unlessE (decide ((Pk.form (x0.take k) u20.Name) < 0)) 6), (Pk.checkCols u20.Cols)] : List Int)) = 0
          refine wp_skip ?_
          refine hK16 _ _ ?_
          refine c_reg ?_
          refine op_add rfl rfl rfl rfl (by omega) ?_
          refine op_move (v := .int .i64 ((k : Int) + 1)) rfl rfl rfl ?_
          refine wpList_nil ?_
          repeat (with_reducible refine inBlock_normal ?_)
          with_reducible refine then_normal ?_
          exact ⟨(k + 1), (by first | omega | (dsimp only; omega)), ⟨(by first | omega | (simp only [List.length_append, List.length_cons, List.length_nil]; omega) | (rw [hi12]; simp [drop_of hx21, Pk.cfGo, Pk.cfGo2, Pk.cfIn, Pk.strANY, hb4, hi11, hb15, hx21, hb83])), (by rw [hi12]; simp [drop_of hx21, Pk.cfGo, Pk.cfGo2, Pk.cfIn, Pk.strANY, hb4, hi11, hb15, hx21, hb83]), ((((((e10.trans e30).trans e34).trans e68).trans e76).trans e81).drop (fun b hb => by simp [hb]))⟩, _, rfl, (by repeat first | exact agree.refl _ _ | refine agree.upd rfl ?_ | refine agree.upds rfl ?_ | refine agree.mix rfl ?_), ⟨congrArg (Value.int .i64) (show ((k : Int) + 1) = ((k + 1 : Nat) : Int) by omega), trivial⟩⟩
      · -- ¬ ((k : Int) < (x0.length : Int))
        refine wp_exit ?_
        refine hK7 _ _ ?_
        refine c_seq fun KhK86 hK86 => ?_
        refine c_seq fun KhK87 hK87 => ?_
        refine c_reg ?_
        refine op_move (v := .slice a_x0 x0.length c_x0) rfl rfl rfl ?_
        refine op_len ty22 rfl rfl rfl ?_
        refine op_move (v := .int .i64 0) rfl rfl rfl ?_
        refine wpList_nil ?_
        refine hK87 _ _ ?_
        refine wp_block ?_
        refine c_loop (X := Nat) [2, 7, 9, 43, 44, 45, 46, 47, 48, 49, 50, 51, 52, 53, 54, 55, 56, 57, 58, 59, 60, 61, 62, 63, 64, 65, 66, 67, 68, 69, 70] (fun j => [(43, .int .i64 (j : Int))]) (fun j w1 => (j ≤ x0.length) ∧ (Pk.checkForms x0 = Pk.cfGo2 x0 (x0.drop j)) ∧ Evo [] w9 [] w1) (fun j => x0.length - j) (0) ⟨congrArg (Value.int .i64) (show 0 = ((0 : Nat) : Int) by omega), trivial⟩ ?_ ?_
        ·
          exact ⟨(by first | omega | simp), (by rw [hi12]; simp [drop_end (l := x0) (k := k) (by first | omega | (rw [bytes_length]; omega)), Pk.cfGo]), Evo.refl _ _⟩
        ·
          rintro j τ w88 ⟨hi90, hi91, e89⟩
          refine c_seq fun KhK92 hK92 => ?_
          refine c_reg ?_
          refine op_lss rfl rfl rfl rfl ?_
          refine wpList_nil ?_
          refine hK92 _ _ ?_
          refine c_seq fun KhK93 hK93 => ?_
          refine c_if rfl rfl (fun hb94 => ?_) (fun hb94 => ?_)
          · -- (j : Int) < (x0.length : Int)
            refine wp_skip ?_
            refine hK93 _ _ ?_
            refine c_seq fun KhK95 hK95 => ?_
            refine wp_block ?_
            refine c_seq fun KhK96 hK96 => ?_
            refine c_reg ?_
            refine op_indexN (j := j) ty22 ty91 rfl rfl rfl rfl rfl (h_x0.mono ((e10.trans e89).tr M)) (by omega) fun ad97 cs98 u99 hx100 he101 ca102 => ?_
            obtain ⟨a_u99, c_u99, rfl, h_u99⟩ := he101
            have lh_u99 := h_u99.lt63
            refine op_loadAA ty91 rfl rfl rfl rfl ca102 rfl ?_
            refine op_alloc (zs := [.string (⟨#[]⟩ : ByteArray), .slice none 0 0]) ty91 rfl rfl fun β103 w104 hβ105 u106 hz107 hx108 => ?_
            have e109 := u106.evoN (m := []) hβ105 hz107
            refine op_store (v := .agg #[.string u99.Name, .slice a_u99 u99.Cols.length c_u99]) (cs' := [.string u99.Name, .slice a_u99 u99.Cols.length c_u99]) ty91 rfl rfl rfl rfl hx108 rfl rfl rfl fun w110 u111 hz112 hx108' => ?_
            have e113 := u111.evo (m := (β103 :: [])) (List.forall_mem_singleton.2 List.mem_cons_self)
            refine wpList_nil ?_
            refine hK96 _ _ ?_
            refine c_seq fun KhK114 hK114 => ?_
            refine c_reg ?_
            refine op_fieldB fld91_1 rfl rfl rfl ?_
            refine op_loadB (v := .slice a_u99 u99.Cols.length c_u99) ty89 rfl rfl rfl rfl hx108' rfl ?_
            refine op_len ty89 rfl rfl rfl ?_
            refine op_move (v := .int .i64 0) rfl rfl rfl ?_
            refine wpList_nil ?_
            refine hK114 _ _ ?_
            refine wp_block ?_
            refine c_loop (X := Nat) [2, 9, 50, 51, 52, 53, 54, 55, 56, 57, 58, 59, 60, 61, 62, 63, 64, 65, 66, 67, 68, 69] (fun i => [(50, .int .i64 (i : Int))]) (fun i w1 => (i ≤ u99.Cols.length) ∧ (Pk.checkForms x0 = if Pk.cfIn x0 (u99.Cols.drop i) = true then Pk.cfGo2 x0 (x0.drop (j + 1)) else 5) ∧ Evo (β103 :: []) w110 (β103 :: []) w1 ∧ Box w1 β103 [.string u99.Name, .slice a_u99 u99.Cols.length c_u99]) (fun i => u99.Cols.length - i) (0) ⟨congrArg (Value.int .i64) (show 0 = ((0 : Nat) : Int) by omega), trivial⟩ ?_ ?_
            ·
              exact ⟨(by first | omega | simp), (by rw [hi91]; simp [drop_of hx100, Pk.cfGo2]), Evo.refl _ _, hx108'⟩
            ·
              rintro i τ w115 ⟨hi117, hi118, e116, hx108'⟩
              refine c_seq fun KhK119 hK119 => ?_
              refine c_reg ?_
              refine op_lss rfl rfl rfl rfl ?_
              refine wpList_nil ?_
              refine hK119 _ _ ?_
              refine c_seq fun KhK120 hK120 => ?_
              refine c_if rfl rfl (fun hb121 => ?_) (fun hb121 => ?_)
              · -- (i : Int) < (u99.Cols.length : Int)
                refine wp_skip ?_
                refine hK120 _ _ ?_
                refine c_seq fun KhK122 hK122 => ?_
                refine wp_block ?_
                refine c_seq fun KhK123 hK123 => ?_
                refine c_reg ?_
                refine op_indexN (j := i) ty89 ty93 rfl rfl rfl rfl rfl (h_u99.mono (((e109.trans e113).trans e116).tr M)) (by omega) fun ad124 cs125 u126 hx127 he128 ca129 => ?_
                obtain rfl := he128
                refine op_loadAA ty93 rfl rfl rfl rfl ca129 rfl ?_
                refine op_alloc (zs := [.string (⟨#[]⟩ : ByteArray), .int .i64 0, .string (⟨#[]⟩ : ByteArray)]) ty93 rfl rfl fun β130 w131 hβ132 u133 hz134 hx135 => ?_
                have e136 := u133.evoN (m := (β103 :: [])) hβ132 hz134
                have ne137 : β103 ≠ β130 := by have := hx108'.lt; omega
                replace hx108' := hx108'.mono0 u133
                refine op_store (v := .agg #[.string u126.Name, .int .i64 u126.Kind, .string u126.Class]) (cs' := [.string u126.Name, .int .i64 u126.Kind, .string u126.Class]) ty93 rfl rfl rfl rfl hx135 rfl rfl rfl fun w138 u139 hz140 hx135' => ?_
                have e141 := u139.evo (m := (β130 :: (β103 :: []))) (List.forall_mem_singleton.2 List.mem_cons_self)
                replace hx108' := hx108'.mono u139 (fun h => (ne137) (List.mem_singleton.1 h))
                refine wpList_nil ?_
                refine hK123 _ _ ?_
                refine c_seq fun KhK142 hK142 => ?_
                refine c_reg ?_
                refine op_fieldB fld93_1 rfl rfl rfl ?_
                refine op_loadB (v := .int .i64 u126.Kind) ty3 rfl rfl rfl rfl hx135' rfl ?_
                refine op_eq rfl rfl rfl rfl ?_
                refine op_move (v := .bool (decide (u126.Kind = 3))) rfl rfl rfl ?_
                refine op_part 57 rfl (fun hb143 => ?_) (fun hb143 => ?_)
                · -- u126.Kind = 3
                  refine op_fieldB fld93_2 rfl rfl rfl ?_
                  refine op_loadB (v := .string u126.Class) ty9 rfl rfl rfl rfl hx135' rfl ?_
                  refine op_neqS rfl rfl rfl rfl ?_
                  refine op_pickT (v := .bool (decide (¬ (u126.Class = (⟨#[65, 78, 89]⟩ : ByteArray))))) rfl rfl rfl rfl ?_
                  refine op_move (v := .bool (decide (¬ (u126.Class = (⟨#[65, 78, 89]⟩ : ByteArray))))) rfl rfl rfl ?_
                  refine op_partN 62 rfl (fun hb144 => ?_) (fun hb144 => ?_)
                  · -- ¬ (u126.Class = (⟨#[65, 78, 89]⟩ : ByteArray))
                    refine op_move (v := .slice a_x0 x0.length c_x0) rfl rfl rfl ?_
                    refine op_fieldB fld93_2 rfl rfl rfl ?_
                    refine op_loadB (v := .string u126.Class) ty9 rfl rfl rfl rfl hx135' rfl ?_
                    refine op_call (args := [.slice a_x0 x0.length c_x0, .string u126.Class]) cal52 rfl rfl rfl (c52 (((((((e10.trans e89).trans e109).trans e113).trans e116).trans e136).trans e141).loM hM) (h_x0.mono (((((((e10.trans e89).trans e109).trans e113).trans e116).trans e136).trans e141).tr M))) ?_
                    rintro _ w145 ⟨rfl, u146⟩
                    have e148 := u146.evo0 (m := (β130 :: (β103 :: [])))
                    replace hx108' := hx108'.mono0 u146
                    replace hx135' := hx135'.mono0 u146
                    refine op_lss rfl rfl rfl rfl ?_
                    refine op_pickT (v := .bool (decide ((Pk.form x0 u126.Class) < 0))) rfl rfl rfl rfl ?_
                    refine wpList_nil ?_
                    refine hK142 _ _ ?_
                    refine c_if rfl rfl (fun hb149 => ?_) (fun hb149 => ?_)
                    · -- (Pk.form x0 u126.Class) < 0
                      refine c_seq fun KhK150 hK150 => ?_
                      refine c_reg ?_
                      refine op_assign (v := .int .i64 5) rfl rfl rfl ?_
                      refine wpList_nil ?_
                      refine hK150 _ _ ?_
                      refine wp_ret ?_
                      have hr151 : 5 = (Pk.checkForms x0) := by rw [hi118]; simp [drop_of hx127, Pk.cfGo, Pk.cfGo2, Pk.cfIn, Pk.strANY, hb4, hi11, hb15, hi90, hb94, hx100, hi117, hb121, hx127, hb143, hb144, hb149]
                      exact ret1 Try.results16 rfl ⟨congrArg (Value.int .i64) hr151, (((((((e10.trans e89).trans e109).trans e113).trans e116).trans e136).trans e141).trans e148).old⟩
                    · -- ¬ ((Pk.form x0 u126.Class) < 0)
                      refine wp_skip ?_
                      refine hK122 _ _ ?_
                      refine c_reg ?_
                      refine op_add rfl rfl rfl rfl (by omega) ?_
                      refine op_move (v := .int .i64 ((i : Int) + 1)) rfl rfl rfl ?_
                      refine wpList_nil ?_
                      repeat (with_reducible refine inBlock_normal ?_)
                      with_reducible refine then_normal ?_
                      exact ⟨(i + 1), (by first | omega | (dsimp only; omega)), ⟨(by first | omega | (simp only [List.length_append, List.length_cons, List.length_nil]; omega) | (rw [hi118]; simp [drop_of hx127, Pk.cfGo, Pk.cfGo2, Pk.cfIn, Pk.strANY, hb4, hi11, hb15, hi90, hb94, hx100, hi117, hb121, hx127, hb143, hb144, hb149])), (by rw [hi118]; simp [drop_of hx127, Pk.cfGo, Pk.cfGo2, Pk.cfIn, Pk.strANY, hb4, hi11, hb15, hi90, hb94, hx100, hi117, hb121, hx127, hb143, hb144, hb149]), ((((e116.trans e136).trans e141).trans e148).drop (fun b hb => by simp [hb])), hx108'⟩, _, rfl, (by repeat first | exact agree.refl _ _ | refine agree.upd rfl ?_ | refine agree.upds rfl ?_ | refine agree.mix rfl ?_), ⟨congrArg (Value.int .i64) (show ((i : Int) + 1) = ((i + 1 : Nat) : Int) by omega), trivial⟩⟩
                  · -- u126.Class = (⟨#[65, 78, 89]⟩ : ByteArray)
                    refine op_not rfl ?_
                    refine op_not rfl ?_
                    refine op_not rfl ?_
                    refine op_not rfl ?_
                    refine op_not rfl ?_
                    refine op_pickF (v := .bool false) rfl rfl rfl rfl ?_
                    refine wpList_nil ?_
                    refine hK142 _ _ ?_
                    refine c_ifF rfl rfl ?_
                    refine wp_skip ?_
                    refine hK122 _ _ ?_
                    refine c_reg ?_
                    refine op_add rfl rfl rfl rfl (by omega) ?_
                    refine op_move (v := .int .i64 ((i : Int) + 1)) rfl rfl rfl ?_
                    refine wpList_nil ?_
                    repeat (with_reducible refine inBlock_normal ?_)
                    with_reducible refine then_normal ?_
                    exact ⟨(i + 1), (by first | omega | (dsimp only; omega)), ⟨(by first | omega | (simp only [List.length_append, List.length_cons, List.length_nil]; omega) | (rw [hi118]; simp [drop_of hx127, Pk.cfGo, Pk.cfGo2, Pk.cfIn, Pk.strANY, hb4, hi11, hb15, hi90, hb94, hx100, hi117, hb121, hx127, hb143, hb144])), (by rw [hi118]; simp [drop_of hx127, Pk.cfGo, Pk.cfGo2, Pk.cfIn, Pk.strANY, hb4, hi11, hb15, hi90, hb94, hx100, hi117, hb121, hx127, hb143, hb144]), (((e116.trans e136).trans e141).drop (fun b hb => by simp [hb])), hx108'⟩, _, rfl, (by repeat first | exact agree.refl _ _ | refine agree.upd rfl ?_ | refine agree.upds rfl ?_ | refine agree.mix rfl ?_), ⟨congrArg (Value.int .i64) (show ((i : Int) + 1) = ((i + 1 : Nat) : Int) by omega), trivial⟩⟩
                · -- ¬ (u126.Kind = 3)
                  refine op_not rfl ?_
                  refine op_not rfl ?_
                  refine op_not rfl ?_
                  refine op_pickF (v := .bool false) rfl rfl rfl rfl ?_
                  refine op_move (v := .bool false) rfl rfl rfl ?_
                  refine op_not rfl ?_
                  refine op_not rfl ?_
                  refine op_not rfl ?_
                  refine op_not rfl ?_
                  refine op_not rfl ?_
                  refine op_pickF (v := .bool false) rfl rfl rfl rfl ?_
                  refine wpList_nil ?_
                  refine hK142 _ _ ?_
                  refine c_ifF rfl rfl ?_
                  refine wp_skip ?_
                  refine hK122 _ _ ?_
                  refine c_reg ?_
                  refine op_add rfl rfl rfl rfl (by omega) ?_
                  refine op_move (v := .int .i64 ((i : Int) + 1)) rfl rfl rfl ?_
                  refine wpList_nil ?_
                  repeat (with_reducible refine inBlock_normal ?_)
                  with_reducible refine then_normal ?_
                  exact ⟨(i + 1), (by first | omega | (dsimp only; omega)), ⟨(by first | omega | (simp only [List.length_append, List.length_cons, List.length_nil]; omega) | (rw [hi118]; simp [drop_of hx127, Pk.cfGo, Pk.cfGo2, Pk.cfIn, Pk.strANY, hb4, hi11, hb15, hi90, hb94, hx100, hi117, hb121, hx127, hb143])), (by rw [hi118]; simp [drop_of hx127, Pk.cfGo, Pk.cfGo2, Pk.cfIn, Pk.strANY, hb4, hi11, hb15, hi90, hb94, hx100, hi117, hb121, hx127, hb143]), (((e116.trans e136).trans e141).drop (fun b hb => by simp [hb])), hx108'⟩, _, rfl, (by repeat first | exact agree.refl _ _ | refine agree.upd rfl ?_ | refine agree.upds rfl ?_ | refine agree.mix rfl ?_), ⟨congrArg (Value.int .i64) (show ((i : Int) + 1) = ((i + 1 : Nat) : Int) by omega), trivial⟩⟩
              · -- ¬ ((i : Int) < (u99.Cols.length : Int))
                refine wp_exit ?_
                refine hK95 _ _ ?_
                refine c_reg ?_
                refine op_add rfl rfl rfl rfl (by omega) ?_
                refine op_move (v := .int .i64 ((j : Int) + 1)) rfl rfl rfl ?_
                refine wpList_nil ?_
                repeat (with_reducible refine inBlock_normal ?_)
                with_reducible refine then_normal ?_
                exact ⟨(j + 1), (by first | omega | (dsimp only; omega)), ⟨(by first | omega | (simp only [List.length_append, List.length_cons, List.length_nil]; omega) | (rw [hi118]; simp [drop_end (l := u99.Cols) (k := i) (by first | omega | (rw [bytes_length]; omega)), Pk.cfGo, Pk.cfGo2, Pk.cfIn, Pk.strANY, hb4, hi11, hb15, hi90, hb94, hx100, hi117, hb121])), (by rw [hi118]; simp [drop_end (l := u99.Cols) (k := i) (by first | omega | (rw [bytes_length]; omega)), Pk.cfGo, Pk.cfGo2, Pk.cfIn, Pk.strANY, hb4, hi11, hb15, hi90, hb94, hx100, hi117, hb121]), ((((e89.trans e109).trans e113).trans e116).drop (fun b hb => by simp [hb]))⟩, _, rfl, (by repeat first | exact agree.refl _ _ | refine agree.upd rfl ?_ | refine agree.upds rfl ?_ | refine agree.mix rfl ?_), ⟨congrArg (Value.int .i64) (show ((j : Int) + 1) = ((j + 1 : Nat) : Int) by omega), trivial⟩⟩
          · -- ¬ ((j : Int) < (x0.length : Int))
            refine wp_exit ?_
            refine hK86 _ _ ?_
            refine c_seq fun KhK152 hK152 => ?_
            refine c_reg ?_
            refine op_assign (v := .int .i64 0) rfl rfl rfl ?_
            refine wpList_nil ?_
            refine hK152 _ _ ?_
            refine wp_ret ?_
            have hr153 : 0 = (Pk.checkForms x0) := by rw [hi91]; simp [drop_end (l := x0) (k := j) (by first | omega | (rw [bytes_length]; omega)), Pk.cfGo, Pk.cfGo2, Pk.cfIn, Pk.strANY, hb4, hi11, hb15, hi90, hb94]
            exact ret1 Try.results16 rfl ⟨congrArg (Value.int .i64) hr153, (e10.trans e89).old⟩
set_option maxHeartbeats 1000000 in
theorem c18 {M : List Nat} {w : World} {x0 : List Pk.Form} {a_x0 : Option Addr} {c_x0 : Nat} {x1 : Pk.Graph} {a1_x1 : Option Addr} {c1_x1 : Nat} {a2_x1 : Option Addr} {c2_x1 : Nat} (hM : Lo M w) (h_x0 : SL M w a_x0 c_x0 x0) (h1_x1 : SL M w a1_x1 c1_x1 x1.Nodes) (h2_x1 : SL M w a2_x1 c2_x1 x1.Roots) : Calls Try.prog 18 #[.slice a_x0 x0.length c_x0, .agg #[.slice a1_x1 x1.Nodes.length c1_x1, .slice a2_x1 x1.Roots.length c2_x1]] w (Ret fun v w' => v = .int .i64 (Pk.checkG x0 x1) ∧ Upd [] w w') := by
  have lh_x0 := h_x0.lt63
  have lh1_x1 := h1_x1.lt63
  have lh2_x1 := h2_x1.lt63
  refine enter (l := [.slice a_x0 x0.length c_x0, .agg #[.slice a1_x1 x1.Nodes.length c1_x1, .slice a2_x1 x1.Roots.length c2_x1]]) Try.func18 rfl Try.ntmps18 rfl ?_
  refine c_seq fun KhK1 hK1 => ?_
  refine c_reg ?_
  refine op_box (v := .agg #[.slice a1_x1 x1.Nodes.length c1_x1, .slice a2_x1 x1.Roots.length c2_x1]) (zs := [.slice a1_x1 x1.Nodes.length c1_x1, .slice a2_x1 x1.Roots.length c2_x1]) rfl rfl rfl rfl fun β2 w3 hβ4 u5 hz6 hx7 => ?_
  have e8 := u5.evoN (m := []) hβ4 hz6
  refine op_assign (v := .int .i64 0) rfl rfl rfl ?_
  refine wpList_nil ?_
  refine hK1 _ _ ?_
  refine c_seq fun KhK9 hK9 => ?_
  refine c_seq fun KhK10 hK10 => ?_
  refine c_reg ?_
  refine op_move (v := .slice a_x0 x0.length c_x0) rfl rfl rfl ?_
  refine op_call (args := [.slice a_x0 x0.length c_x0]) cal16 rfl rfl rfl (c16 (e8.loM hM) (h_x0.mono (e8.tr M))) ?_
  rintro _ w11 ⟨rfl, u12⟩
  have e14 := u12.evo0 (m := (β2 :: []))
  replace hx7 := hx7.mono0 u12
  refine op_assign (v := .int .i64 (Pk.checkForms x0)) rfl rfl rfl ?_
  refine wpList_nil ?_
  refine hK10 _ _ ?_
  refine c_seq fun KhK15 hK15 => ?_
  refine c_reg ?_
  refine op_move (v := .int .i64 (Pk.checkForms x0)) rfl rfl rfl ?_
  refine op_neq rfl rfl rfl rfl ?_
  refine wpList_nil ?_
  refine hK15 _ _ ?_
  refine c_ifN rfl rfl (fun hb16 => ?_) (fun hb16 => ?_)
  · -- ¬ ((Pk.checkForms x0) = 0)
    refine c_seq fun KhK17 hK17 => ?_
    refine c_reg ?_
    refine op_move (v := .int .i64 (Pk.checkForms x0)) rfl rfl rfl ?_
    refine op_assign (v := .int .i64 (Pk.checkForms x0)) rfl rfl rfl ?_
    refine wpList_nil ?_
    refine hK17 _ _ ?_
    refine wp_ret ?_
    have hr18 : (Pk.checkForms x0) = (Pk.checkG x0 x1) := by simp [ Pk.checkG, hb16]
    exact ret1 Try.results18 rfl ⟨congrArg (Value.int .i64) hr18, (e8.trans e14).old⟩
  · -- (Pk.checkForms x0) = 0
    refine wp_skip ?_
    refine hK9 _ _ ?_
    refine c_seq fun KhK19 hK19 => ?_
    refine c_reg ?_
    refine op_move (v := .slice a_x0 x0.length c_x0) rfl rfl rfl ?_
    refine op_loadBA (ds := [.slice a1_x1 x1.Nodes.length c1_x1, .slice a2_x1 x1.Roots.length c2_x1]) ty26 rfl rfl rfl rfl hx7 rfl rfl ?_
    refine op_call (args := [.slice a_x0 x0.length c_x0, .agg #[.slice a1_x1 x1.Nodes.length c1_x1, .slice a2_x1 x1.Roots.length c2_x1]]) cal59 rfl rfl rfl (c59 ((e8.trans e14).loM hM) (h_x0.mono ((e8.trans e14).tr M)) (h1_x1.mono ((e8.trans e14).tr M)) (h2_x1.mono ((e8.trans e14).tr M))) ?_
    rintro _ w20 ⟨rfl, u21⟩
    have e23 := u21.evo0 (m := (β2 :: []))
    replace hx7 := hx7.mono0 u21
    refine op_assign (v := .int .i64 (Pk.check x0 x1)) rfl rfl rfl ?_
    refine wpList_nil ?_
    refine hK19 _ _ ?_
    refine wp_ret ?_
    have hr24 : (Pk.check x0 x1) = (Pk.checkG x0 x1) := by simp [ Pk.checkG, hb16]
    exact ret1 Try.results18 rfl ⟨congrArg (Value.int .i64) hr24, ((e8.trans e14).trans e23).old⟩
end Go.Proofs.Ytcnhjofpmpipfaa
