import Derived.Test.YtcnhjofpmpipfaaSp1
import Derived.Test.YtcnhjofpmpipfaaOwn
set_option linter.unusedVariables false
set_option linter.unusedSimpArgs false
set_option maxRecDepth 100000
namespace Go.Proofs.Ytcnhjofpmpipfaa
open Go Go.Sx Go.RowKit
open Go.Sx.Dat (enc)
attribute [local irreducible] Go.wpList Go.wpQuiet Go.Code.wp
set_option maxHeartbeats 1000000 in
theorem c83 {M : List Nat} {w : World} {x0 : Int} {x1 : Int} {x2 : Int} (hM : Lo M w)  : Calls Try.prog 83 #[.int .i64 x0, .int .i64 x1, .int .i64 x2] w (Ret fun v w' => v = .bool (Pk.within x0 x1 x2) ∧ Upd [] w w') := by
  refine enter (l := [.int .i64 x0, .int .i64 x1, .int .i64 x2]) Try.func83 rfl Try.ntmps83 rfl ?_
  refine c_seq fun KhK1 hK1 => ?_
  refine c_reg ?_
  refine op_assign (v := .bool false) rfl rfl rfl ?_
  refine wpList_nil ?_
  refine hK1 _ _ ?_
  refine c_seq fun KhK2 hK2 => ?_
  refine c_reg ?_
  refine op_move (v := .int .i64 x1) rfl rfl rfl ?_
  refine op_move (v := .int .i64 x0) rfl rfl rfl ?_
  refine op_leq rfl rfl rfl rfl ?_
  refine op_move (v := .bool (decide (x1 ≤ x0))) rfl rfl rfl ?_
  refine op_part 10 rfl (fun hb3 => ?_) (fun hb3 => ?_)
  · -- x1 ≤ x0
    refine op_move (v := .int .i64 x0) rfl rfl rfl ?_
    refine op_move (v := .int .i64 x2) rfl rfl rfl ?_
    refine op_leq rfl rfl rfl rfl ?_
    refine op_pickT (v := .bool (decide (x0 ≤ x2))) rfl rfl rfl rfl ?_
    refine op_assign (v := .bool (decide (x0 ≤ x2))) rfl rfl rfl ?_
    refine wpList_nil ?_
    refine hK2 _ _ ?_
    refine wp_ret ?_
    have hr4 : (decide (x0 ≤ x2)) = (Pk.within x0 x1 x2) := by simp [ Pk.within, Pk.within, hb3]
    exact ret1 Try.results83 rfl ⟨congrArg Value.bool hr4, (Evo.refl [] w).old⟩
  · -- ¬ (x1 ≤ x0)
    refine op_not rfl ?_
    refine op_not rfl ?_
    refine op_not rfl ?_
    refine op_pickF (v := .bool false) rfl rfl rfl rfl ?_
    refine op_assign (v := .bool false) rfl rfl rfl ?_
    refine wpList_nil ?_
    refine hK2 _ _ ?_
    refine wp_ret ?_
    have hr5 : false = (Pk.within x0 x1 x2) := by simp [ Pk.within, Pk.within, hb3]
    exact ret1 Try.results83 rfl ⟨congrArg Value.bool hr5, (Evo.refl [] w).old⟩
set_option maxHeartbeats 1000000 in
theorem c58 {M : List Nat} {w : World} {x0 : Int} {x1 : Int} {x2 : Int} (hM : Lo M w)  : Calls Try.prog 58 #[.int .i64 x0, .int .i64 x1, .int .i64 x2] w (Ret fun v w' => v = .bool (Pk.within x0 x1 x2) ∧ Upd [] w w') := by
  refine enter (l := [.int .i64 x0, .int .i64 x1, .int .i64 x2]) Try.func58 rfl Try.ntmps58 rfl ?_
  refine c_seq fun KhK1 hK1 => ?_
  refine c_reg ?_
  refine op_assign (v := .bool false) rfl rfl rfl ?_
  refine wpList_nil ?_
  refine hK1 _ _ ?_
  refine c_seq fun KhK2 hK2 => ?_
  refine c_reg ?_
  refine op_move (v := .int .i64 x0) rfl rfl rfl ?_
  refine op_move (v := .int .i64 x1) rfl rfl rfl ?_
  refine op_geq rfl rfl rfl rfl ?_
  refine op_move (v := .bool (decide (x1 ≤ x0))) rfl rfl rfl ?_
  refine op_part 10 rfl (fun hb3 => ?_) (fun hb3 => ?_)
  · -- x1 ≤ x0
    refine op_move (v := .int .i64 x0) rfl rfl rfl ?_
    refine op_move (v := .int .i64 x2) rfl rfl rfl ?_
    refine op_leq rfl rfl rfl rfl ?_
    refine op_pickT (v := .bool (decide (x0 ≤ x2))) rfl rfl rfl rfl ?_
    refine op_assign (v := .bool (decide (x0 ≤ x2))) rfl rfl rfl ?_
    refine wpList_nil ?_
    refine hK2 _ _ ?_
    refine wp_ret ?_
    have hr4 : (decide (x0 ≤ x2)) = (Pk.within x0 x1 x2) := by simp [ Pk.within, Pk.within, hb3]
    exact ret1 Try.results58 rfl ⟨congrArg Value.bool hr4, (Evo.refl [] w).old⟩
  · -- ¬ (x1 ≤ x0)
    refine op_not rfl ?_
    refine op_not rfl ?_
    refine op_not rfl ?_
    refine op_pickF (v := .bool false) rfl rfl rfl rfl ?_
    refine op_assign (v := .bool false) rfl rfl rfl ?_
    refine wpList_nil ?_
    refine hK2 _ _ ?_
    refine wp_ret ?_
    have hr5 : false = (Pk.within x0 x1 x2) := by simp [ Pk.within, Pk.within, hb3]
    exact ret1 Try.results58 rfl ⟨congrArg Value.bool hr5, (Evo.refl [] w).old⟩
set_option maxHeartbeats 1000000 in
theorem c50 {M : List Nat} {w : World} {x0 : Bool} {x1 : Int} (hM : Lo M w)  : Calls Try.prog 50 #[.bool x0, .int .i64 x1] w (Ret fun v w' => v = .int .i64 (Pk.unlessE x0 x1) ∧ Upd [] w w') := by
  refine enter (l := [.bool x0, .int .i64 x1]) Try.func50 rfl Try.ntmps50 rfl ?_
  refine c_seq fun KhK1 hK1 => ?_
  refine c_reg ?_
  refine op_assign (v := .int .i64 0) rfl rfl rfl ?_
  refine wpList_nil ?_
  refine hK1 _ _ ?_
  refine c_seq fun KhK2 hK2 => ?_
  refine c_seq fun KhK3 hK3 => ?_
  refine c_reg ?_
  refine op_move (v := .bool x0) rfl rfl rfl ?_
  refine wpList_nil ?_
  refine hK3 _ _ ?_
  refine c_ifB rfl rfl (fun hb4 => ?_) (fun hb4 => ?_)
  · -- x0 = true
    refine c_seq fun KhK5 hK5 => ?_
    refine c_reg ?_
    refine op_assign (v := .int .i64 0) rfl rfl rfl ?_
    refine wpList_nil ?_
    refine hK5 _ _ ?_
    refine wp_ret ?_
    have hr6 : 0 = (Pk.unlessE x0 x1) := by simp [ Pk.unlessE, hb4]
    exact ret1 Try.results50 rfl ⟨congrArg (Value.int .i64) hr6, (Evo.refl [] w).old⟩
  · -- x0 = false
    refine wp_skip ?_
    refine hK2 _ _ ?_
    refine c_seq fun KhK7 hK7 => ?_
    refine c_reg ?_
    refine op_move (v := .int .i64 x1) rfl rfl rfl ?_
    refine op_assign (v := .int .i64 x1) rfl rfl rfl ?_
    refine wpList_nil ?_
    refine hK7 _ _ ?_
    refine wp_ret ?_
    have hr8 : x1 = (Pk.unlessE x0 x1) := by simp [ Pk.unlessE, hb4]
    exact ret1 Try.results50 rfl ⟨congrArg (Value.int .i64) hr8, (Evo.refl [] w).old⟩
set_option maxHeartbeats 1000000 in
theorem c49 {M : List Nat} {w : World} {x0 : List Int} {a_x0 : Option Addr} {c_x0 : Nat} (hM : Lo M w) (h_x0 : SL M w a_x0 c_x0 x0) : Calls Try.prog 49 #[.slice a_x0 x0.length c_x0] w (Ret fun v w' => v = .int .i64 (Pk.first x0) ∧ Upd [] w w') := by
  have lh_x0 := h_x0.lt63
  refine enter (l := [.slice a_x0 x0.length c_x0]) Try.func49 rfl Try.ntmps49 rfl ?_
  refine c_seq fun KhK1 hK1 => ?_
  refine c_reg ?_
  refine op_assign (v := .int .i64 0) rfl rfl rfl ?_
  refine wpList_nil ?_
  refine hK1 _ _ ?_
  refine c_seq fun KhK2 hK2 => ?_
  refine c_seq fun KhK3 hK3 => ?_
  refine c_reg ?_
  refine op_move (v := .slice a_x0 x0.length c_x0) rfl rfl rfl ?_
  refine op_len ty135 rfl rfl rfl ?_
  refine op_move (v := .int .i64 0) rfl rfl rfl ?_
  refine wpList_nil ?_
  refine hK3 _ _ ?_
  refine wp_block ?_
  refine c_loop (X := Nat) [2, 4, 7, 8, 9, 10, 11, 12, 13, 14] (fun k => [(7, .int .i64 (k : Int))]) (fun k w1 => (k ≤ x0.length) ∧ (Pk.first x0 = Pk.firstGo (x0.drop k)) ∧ Evo [] w [] w1) (fun k => x0.length - k) (0) ⟨congrArg (Value.int .i64) (show 0 = ((0 : Nat) : Int) by omega), trivial⟩ ?_ ?_
  ·
    exact ⟨(by first | omega | simp), (by simp [Pk.first]), Evo.refl _ _⟩
  ·
    rintro k τ w4 ⟨hi6, hi7, e5⟩
    refine c_seq fun KhK8 hK8 => ?_
    refine c_reg ?_
    refine op_lss rfl rfl rfl rfl ?_
    refine wpList_nil ?_
    refine hK8 _ _ ?_
    refine c_seq fun KhK9 hK9 => ?_
    refine c_if rfl rfl (fun hb10 => ?_) (fun hb10 => ?_)
    · -- (k : Int) < (x0.length : Int)
      refine wp_skip ?_
      refine hK9 _ _ ?_
      refine c_seq fun KhK11 hK11 => ?_
      refine wp_block ?_
      refine c_seq fun KhK12 hK12 => ?_
      refine c_reg ?_
      refine op_indexN (j := k) ty135 ty30 rfl rfl rfl rfl rfl (h_x0.mono (e5.tr M)) (by omega) fun ad13 cs14 u15 hx16 he17 ca18 => ?_
      obtain rfl := he17
      refine op_loadA0 (v := .int .i64 u15) ty30 rfl rfl rfl rfl ca18 rfl ?_
      refine op_assign (v := .int .i64 u15) rfl rfl rfl ?_
      refine wpList_nil ?_
      refine hK12 _ _ ?_
      refine c_seq fun KhK19 hK19 => ?_
      refine c_reg ?_
      refine op_move (v := .int .i64 u15) rfl rfl rfl ?_
      refine op_neq rfl rfl rfl rfl ?_
      refine wpList_nil ?_
      refine hK19 _ _ ?_
      refine c_ifN rfl rfl (fun hb20 => ?_) (fun hb20 => ?_)
      · -- ¬ (u15 = 0)
        refine c_seq fun KhK21 hK21 => ?_
        refine c_reg ?_
        refine op_move (v := .int .i64 u15) rfl rfl rfl ?_
        refine op_assign (v := .int .i64 u15) rfl rfl rfl ?_
        refine wpList_nil ?_
        refine hK21 _ _ ?_
        refine wp_ret ?_
        have hr22 : u15 = (Pk.first x0) := by rw [hi7]; simp [drop_of hx16, Pk.firstGo, hi6, hb10, hx16, hb20]
        exact ret1 Try.results49 rfl ⟨congrArg (Value.int .i64) hr22, e5.old⟩
      · -- u15 = 0
        refine wp_skip ?_
        refine hK11 _ _ ?_
        refine c_reg ?_
        refine op_add rfl rfl rfl rfl (by omega) ?_
        refine op_move (v := .int .i64 ((k : Int) + 1)) rfl rfl rfl ?_
        refine wpList_nil ?_
        repeat (with_reducible refine inBlock_normal ?_)
        with_reducible refine then_normal ?_
        exact ⟨(k + 1), (by first | omega | (dsimp only; omega)), ⟨(by first | omega | (simp only [List.length_append, List.length_cons, List.length_nil]; omega) | (rw [hi7]; simp [drop_of hx16, Pk.firstGo, hi6, hb10, hx16, hb20])), (by rw [hi7]; simp [drop_of hx16, Pk.firstGo, hi6, hb10, hx16, hb20]), (e5.drop (fun b hb => by simp [hb]))⟩, _, rfl, (by repeat first | exact agree.refl _ _ | refine agree.upd rfl ?_ | refine agree.upds rfl ?_ | refine agree.mix rfl ?_), ⟨congrArg (Value.int .i64) (show ((k : Int) + 1) = ((k + 1 : Nat) : Int) by omega), trivial⟩⟩
    · -- ¬ ((k : Int) < (x0.length : Int))
      refine wp_exit ?_
      refine hK2 _ _ ?_
      refine c_seq fun KhK23 hK23 => ?_
      refine c_reg ?_
      refine op_assign (v := .int .i64 0) rfl rfl rfl ?_
      refine wpList_nil ?_
      refine hK23 _ _ ?_
      refine wp_ret ?_
      have hr24 : 0 = (Pk.first x0) := by rw [hi7]; simp [drop_end (l := x0) (k := k) (by first | omega | (rw [bytes_length]; omega)), Pk.firstGo, hi6, hb10]
      exact ret1 Try.results49 rfl ⟨congrArg (Value.int .i64) hr24, e5.old⟩
set_option maxHeartbeats 1000000 in
theorem c93 {M : List Nat} {w : World} {x0 : Pk.Form} {a_x0 : Option Addr} {c_x0 : Nat} (hM : Lo M w) (h_x0 : SL M w a_x0 c_x0 x0.Cols) : Calls Try.prog 93 #[.agg #[.string x0.Name, .slice a_x0 x0.Cols.length c_x0]] w (Ret fun v w' => v = .string (Pk.formName x0) ∧ Upd [] w w') := by
  have lh_x0 := h_x0.lt63
  refine enter (l := [.agg #[.string x0.Name, .slice a_x0 x0.Cols.length c_x0]]) Try.func93 rfl Try.ntmps93 rfl ?_
  refine c_seq fun KhK1 hK1 => ?_
  refine c_reg ?_
  refine op_box (v := .agg #[.string x0.Name, .slice a_x0 x0.Cols.length c_x0]) (zs := [.string x0.Name, .slice a_x0 x0.Cols.length c_x0]) rfl rfl rfl rfl fun β2 w3 hβ4 u5 hz6 hx7 => ?_
  have e8 := u5.evoN (m := []) hβ4 hz6
  refine op_assign (v := .string (⟨#[]⟩ : ByteArray)) rfl rfl rfl ?_
  refine wpList_nil ?_
  refine hK1 _ _ ?_
  refine c_seq fun KhK9 hK9 => ?_
  refine c_reg ?_
  refine op_fieldB fld91_0 rfl rfl rfl ?_
  refine op_loadB (v := .string x0.Name) ty9 rfl rfl rfl rfl hx7 rfl ?_
  refine op_assign (v := .string x0.Name) rfl rfl rfl ?_
  refine wpList_nil ?_
  refine hK9 _ _ ?_
  refine wp_ret ?_
  have hr10 : x0.Name = (Pk.formName x0) := by simp [ Pk.formName]
  exact ret1 Try.results93 rfl ⟨congrArg Value.string hr10, e8.old⟩
set_option maxHeartbeats 1000000 in
theorem c128 {M : List Nat} {w : World} {x0 : Pk.Col} (hM : Lo M w)  : Calls Try.prog 128 #[.agg #[.string x0.Name, .int .i64 x0.Kind, .string x0.Class]] w (Ret fun v w' => v = .string (Pk.colName x0) ∧ Upd [] w w') := by
  refine enter (l := [.agg #[.string x0.Name, .int .i64 x0.Kind, .string x0.Class]]) Try.func128 rfl Try.ntmps128 rfl ?_
  refine c_seq fun KhK1 hK1 => ?_
  refine c_reg ?_
  refine op_box (v := .agg #[.string x0.Name, .int .i64 x0.Kind, .string x0.Class]) (zs := [.string x0.Name, .int .i64 x0.Kind, .string x0.Class]) rfl rfl rfl rfl fun β2 w3 hβ4 u5 hz6 hx7 => ?_
  have e8 := u5.evoN (m := []) hβ4 hz6
  refine op_assign (v := .string (⟨#[]⟩ : ByteArray)) rfl rfl rfl ?_
  refine wpList_nil ?_
  refine hK1 _ _ ?_
  refine c_seq fun KhK9 hK9 => ?_
  refine c_reg ?_
  refine op_fieldB fld93_0 rfl rfl rfl ?_
  refine op_loadB (v := .string x0.Name) ty9 rfl rfl rfl rfl hx7 rfl ?_
  refine op_assign (v := .string x0.Name) rfl rfl rfl ?_
  refine wpList_nil ?_
  refine hK9 _ _ ?_
  refine wp_ret ?_
  have hr10 : x0.Name = (Pk.colName x0) := by simp [ Pk.colName]
  exact ret1 Try.results128 rfl ⟨congrArg Value.string hr10, e8.old⟩
set_option maxHeartbeats 1000000 in
theorem c125 {M : List Nat} {w : World} {x0 : List Pk.Form} {a_x0 : Option Addr} {c_x0 : Nat} {f_x1 : Nat} {k_x1 : List Value} {g_x1 : Pk.Form → Bool} (hM : Lo M w) (h_x0 : SL M w a_x0 c_x0 x0) (cal_x1 : Callable Try.prog f_x1) (hf_x1 : FH Try.prog f_x1 k_x1 true (fun b => .bool b) g_x1 (fun x => x ∈ x0) M w) : Calls Try.prog 125 #[.slice a_x0 x0.length c_x0, .func (.func f_x1) #[] k_x1.toArray] w (Ret fun v w' => v = .int .i64 (Pk.idx x0 g_x1) ∧ Upd [] w w') := by
  have lh_x0 := h_x0.lt63
  refine enter (l := [.slice a_x0 x0.length c_x0, .func (.func f_x1) #[] k_x1.toArray]) Try.func125 rfl Try.ntmps125 rfl ?_
  refine c_seq fun KhK1 hK1 => ?_
  refine c_reg ?_
  refine op_assign (v := .int .i64 0) rfl rfl rfl ?_
  refine wpList_nil ?_
  refine hK1 _ _ ?_
  refine c_seq fun KhK2 hK2 => ?_
  refine c_seq fun KhK3 hK3 => ?_
  refine c_reg ?_
  refine op_move (v := .slice a_x0 x0.length c_x0) rfl rfl rfl ?_
  refine op_len ty22 rfl rfl rfl ?_
  refine op_move (v := .int .i64 0) rfl rfl rfl ?_
  refine wpList_nil ?_
  refine hK3 _ _ ?_
  refine wp_block ?_
  refine c_loop (X := Nat) [4, 5, 8, 9, 10, 11, 12, 13, 14, 15, 16, 17, 18] (fun k => [(8, .int .i64 (k : Int))]) (fun k w1 => (k ≤ x0.length) ∧ (Pk.idx x0 g_x1 = Pk.idxGo g_x1 k (x0.drop k)) ∧ Evo [] w [] w1) (fun k => x0.length - k) (0) ⟨congrArg (Value.int .i64) (show 0 = ((0 : Nat) : Int) by omega), trivial⟩ ?_ ?_
  ·
    exact ⟨(by first | omega | simp), (by simp [Pk.idx]), Evo.refl _ _⟩
  ·
    rintro k τ w4 ⟨hi6, hi7, e5⟩
    refine c_seq fun KhK8 hK8 => ?_
    refine c_reg ?_
    refine op_lss rfl rfl rfl rfl ?_
    refine wpList_nil ?_
    refine hK8 _ _ ?_
    refine c_seq fun KhK9 hK9 => ?_
    refine c_if rfl rfl (fun hb10 => ?_) (fun hb10 => ?_)
    · -- (k : Int) < (x0.length : Int)
      refine wp_skip ?_
      refine hK9 _ _ ?_
      refine c_seq fun KhK11 hK11 => ?_
      refine wp_block ?_
      refine c_seq fun KhK12 hK12 => ?_
      refine c_reg ?_
      refine op_move (v := .int .i64 (k : Int)) rfl rfl rfl ?_
      refine op_assign (v := .int .i64 (k : Int)) rfl rfl rfl ?_
      refine wpList_nil ?_
      refine hK12 _ _ ?_
      refine c_seq fun KhK13 hK13 => ?_
      refine c_reg ?_
      refine op_move (v := .func (.func f_x1) #[] k_x1.toArray) rfl rfl rfl ?_
      refine op_move (v := .slice a_x0 x0.length c_x0) rfl rfl rfl ?_
      refine op_move (v := .int .i64 (k : Int)) rfl rfl rfl ?_
      refine op_indexN (j := k) ty22 ty91 rfl rfl rfl rfl rfl (h_x0.mono (e5.tr M)) (by omega) fun ad14 cs15 u16 hx17 he18 ca19 => ?_
      obtain ⟨a_u16, c_u16, rfl, h_u16⟩ := he18
      have lh_u16 := h_u16.lt63
      refine op_loadAA ty91 rfl rfl rfl rfl ca19 rfl ?_
      refine op_callV (args := (.agg #[.string u16.Name, .slice a_u16 u16.Cols.length c_u16]) :: k_x1) cal_x1 rfl rfl rfl rfl (hf_x1.up [] _ [.string u16.Name, .slice a_u16 u16.Cols.length c_u16] u16 e5.old ((List.mem_of_getElem? hx17)) ⟨_, _, rfl, h_u16⟩) ?_
      rintro _ w20 ⟨rfl, u21⟩
      have e23 := u21.evo0 (m := [])
      refine wpList_nil ?_
      refine hK13 _ _ ?_
      refine c_ifB rfl rfl (fun hb24 => ?_) (fun hb24 => ?_)
      · -- (g_x1 u16) = true
        refine c_seq fun KhK25 hK25 => ?_
        refine c_reg ?_
        refine op_move (v := .int .i64 (k : Int)) rfl rfl rfl ?_
        refine op_assign (v := .int .i64 (k : Int)) rfl rfl rfl ?_
        refine wpList_nil ?_
        refine hK25 _ _ ?_
        refine wp_ret ?_
        have hr26 : (k : Int) = (Pk.idx x0 g_x1) := by rw [hi7]; simp [drop_of hx17, Pk.idxGo, hi6, hb10, hx17, hb24]
        exact ret1 Try.results125 rfl ⟨congrArg (Value.int .i64) hr26, (e5.trans e23).old⟩
      · -- (g_x1 u16) = false
        refine wp_skip ?_
        refine hK11 _ _ ?_
        refine c_reg ?_
        refine op_add rfl rfl rfl rfl (by omega) ?_
        refine op_move (v := .int .i64 ((k : Int) + 1)) rfl rfl rfl ?_
        refine wpList_nil ?_
        repeat (with_reducible refine inBlock_normal ?_)
        with_reducible refine then_normal ?_
        exact ⟨(k + 1), (by first | omega | (dsimp only; omega)), ⟨(by first | omega | (simp only [List.length_append, List.length_cons, List.length_nil]; omega) | (rw [hi7]; simp [drop_of hx17, Pk.idxGo, hi6, hb10, hx17, hb24])), (by rw [hi7]; simp [drop_of hx17, Pk.idxGo, hi6, hb10, hx17, hb24]), ((e5.trans e23).drop (fun b hb => by simp [hb]))⟩, _, rfl, (by repeat first | exact agree.refl _ _ | refine agree.upd rfl ?_ | refine agree.upds rfl ?_ | refine agree.mix rfl ?_), ⟨congrArg (Value.int .i64) (show ((k : Int) + 1) = ((k + 1 : Nat) : Int) by omega), trivial⟩⟩
    · -- ¬ ((k : Int) < (x0.length : Int))
      refine wp_exit ?_
      refine hK2 _ _ ?_
      refine c_seq fun KhK27 hK27 => ?_
      refine c_reg ?_
      refine op_assign (v := .int .i64 (-1)) rfl rfl rfl ?_
      refine wpList_nil ?_
      refine hK27 _ _ ?_
      refine wp_ret ?_
      have hr28 : (-1) = (Pk.idx x0 g_x1) := by rw [hi7]; simp [drop_end (l := x0) (k := k) (by first | omega | (rw [bytes_length]; omega)), Pk.idxGo, hi6, hb10]
      exact ret1 Try.results125 rfl ⟨congrArg (Value.int .i64) hr28, e5.old⟩
set_option maxHeartbeats 1000000 in
theorem c144 {M : List Nat} {w : World} {x0 : List Pk.Col} {a_x0 : Option Addr} {c_x0 : Nat} {f_x1 : Nat} {k_x1 : List Value} {g_x1 : Pk.Col → Bool} (hM : Lo M w) (h_x0 : SL M w a_x0 c_x0 x0) (cal_x1 : Callable Try.prog f_x1) (hf_x1 : FH Try.prog f_x1 k_x1 true (fun b => .bool b) g_x1 (fun x => x ∈ x0) M w) : Calls Try.prog 144 #[.slice a_x0 x0.length c_x0, .func (.func f_x1) #[] k_x1.toArray] w (Ret fun v w' => v = .int .i64 (Pk.idx x0 g_x1) ∧ Upd [] w w') := by
  have lh_x0 := h_x0.lt63
  refine enter (l := [.slice a_x0 x0.length c_x0, .func (.func f_x1) #[] k_x1.toArray]) Try.func144 rfl Try.ntmps144 rfl ?_
  refine c_seq fun KhK1 hK1 => ?_
  refine c_reg ?_
  refine op_assign (v := .int .i64 0) rfl rfl rfl ?_
  refine wpList_nil ?_
  refine hK1 _ _ ?_
  refine c_seq fun KhK2 hK2 => ?_
  refine c_seq fun KhK3 hK3 => ?_
  refine c_reg ?_
  refine op_move (v := .slice a_x0 x0.length c_x0) rfl rfl rfl ?_
  refine op_len ty89 rfl rfl rfl ?_
  refine op_move (v := .int .i64 0) rfl rfl rfl ?_
  refine wpList_nil ?_
  refine hK3 _ _ ?_
  refine wp_block ?_
  refine c_loop (X := Nat) [4, 5, 8, 9, 10, 11, 12, 13, 14, 15, 16, 17, 18] (fun k => [(8, .int .i64 (k : Int))]) (fun k w1 => (k ≤ x0.length) ∧ (Pk.idx x0 g_x1 = Pk.idxGo g_x1 k (x0.drop k)) ∧ Evo [] w [] w1) (fun k => x0.length - k) (0) ⟨congrArg (Value.int .i64) (show 0 = ((0 : Nat) : Int) by omega), trivial⟩ ?_ ?_
  ·
    exact ⟨(by first | omega | simp), (by simp [Pk.idx]), Evo.refl _ _⟩
  ·
    rintro k τ w4 ⟨hi6, hi7, e5⟩
    refine c_seq fun KhK8 hK8 => ?_
    refine c_reg ?_
    refine op_lss rfl rfl rfl rfl ?_
    refine wpList_nil ?_
    refine hK8 _ _ ?_
    refine c_seq fun KhK9 hK9 => ?_
    refine c_if rfl rfl (fun hb10 => ?_) (fun hb10 => ?_)
    · -- (k : Int) < (x0.length : Int)
      refine wp_skip ?_
      refine hK9 _ _ ?_
      refine c_seq fun KhK11 hK11 => ?_
      refine wp_block ?_
      refine c_seq fun KhK12 hK12 => ?_
      refine c_reg ?_
      refine op_move (v := .int .i64 (k : Int)) rfl rfl rfl ?_
      refine op_assign (v := .int .i64 (k : Int)) rfl rfl rfl ?_
      refine wpList_nil ?_
      refine hK12 _ _ ?_
      refine c_seq fun KhK13 hK13 => ?_
      refine c_reg ?_
      refine op_move (v := .func (.func f_x1) #[] k_x1.toArray) rfl rfl rfl ?_
      refine op_move (v := .slice a_x0 x0.length c_x0) rfl rfl rfl ?_
      refine op_move (v := .int .i64 (k : Int)) rfl rfl rfl ?_
      refine op_indexN (j := k) ty89 ty93 rfl rfl rfl rfl rfl (h_x0.mono (e5.tr M)) (by omega) fun ad14 cs15 u16 hx17 he18 ca19 => ?_
      obtain rfl := he18
      refine op_loadAA ty93 rfl rfl rfl rfl ca19 rfl ?_
      refine op_callV (args := (.agg #[.string u16.Name, .int .i64 u16.Kind, .string u16.Class]) :: k_x1) cal_x1 rfl rfl rfl rfl (hf_x1.up [] _ [.string u16.Name, .int .i64 u16.Kind, .string u16.Class] u16 e5.old ((List.mem_of_getElem? hx17)) rfl) ?_
      rintro _ w20 ⟨rfl, u21⟩
      have e23 := u21.evo0 (m := [])
      refine wpList_nil ?_
      refine hK13 _ _ ?_
      refine c_ifB rfl rfl (fun hb24 => ?_) (fun hb24 => ?_)
      · -- (g_x1 u16) = true
        refine c_seq fun KhK25 hK25 => ?_
        refine c_reg ?_
        refine op_move (v := .int .i64 (k : Int)) rfl rfl rfl ?_
        refine op_assign (v := .int .i64 (k : Int)) rfl rfl rfl ?_
        refine wpList_nil ?_
        refine hK25 _ _ ?_
        refine wp_ret ?_
        have hr26 : (k : Int) = (Pk.idx x0 g_x1) := by rw [hi7]; simp [drop_of hx17, Pk.idxGo, hi6, hb10, hx17, hb24]
        exact ret1 Try.results144 rfl ⟨congrArg (Value.int .i64) hr26, (e5.trans e23).old⟩
      · -- (g_x1 u16) = false
        refine wp_skip ?_
        refine hK11 _ _ ?_
        refine c_reg ?_
        refine op_add rfl rfl rfl rfl (by omega) ?_
        refine op_move (v := .int .i64 ((k : Int) + 1)) rfl rfl rfl ?_
        refine wpList_nil ?_
        repeat (with_reducible refine inBlock_normal ?_)
        with_reducible refine then_normal ?_
        exact ⟨(k + 1), (by first | omega | (dsimp only; omega)), ⟨(by first | omega | (simp only [List.length_append, List.length_cons, List.length_nil]; omega) | (rw [hi7]; simp [drop_of hx17, Pk.idxGo, hi6, hb10, hx17, hb24])), (by rw [hi7]; simp [drop_of hx17, Pk.idxGo, hi6, hb10, hx17, hb24]), ((e5.trans e23).drop (fun b hb => by simp [hb]))⟩, _, rfl, (by repeat first | exact agree.refl _ _ | refine agree.upd rfl ?_ | refine agree.upds rfl ?_ | refine agree.mix rfl ?_), ⟨congrArg (Value.int .i64) (show ((k : Int) + 1) = ((k + 1 : Nat) : Int) by omega), trivial⟩⟩
    · -- ¬ ((k : Int) < (x0.length : Int))
      refine wp_exit ?_
      refine hK2 _ _ ?_
      refine c_seq fun KhK27 hK27 => ?_
      refine c_reg ?_
      refine op_assign (v := .int .i64 (-1)) rfl rfl rfl ?_
      refine wpList_nil ?_
      refine hK27 _ _ ?_
      refine wp_ret ?_
      have hr28 : (-1) = (Pk.idx x0 g_x1) := by rw [hi7]; simp [drop_end (l := x0) (k := k) (by first | omega | (rw [bytes_length]; omega)), Pk.idxGo, hi6, hb10]
      exact ret1 Try.results144 rfl ⟨congrArg (Value.int .i64) hr28, e5.old⟩
set_option maxHeartbeats 1000000 in
theorem c135 {M : List Nat} {w : World} {x0 : List Pk.Node} {a_x0 : Option Addr} {c_x0 : Nat} {f_x1 : Nat} {k_x1 : List Value} {g_x1 : Pk.Node → Bool} (hM : Lo M w) (h_x0 : SL M w a_x0 c_x0 x0) (cal_x1 : Callable Try.prog f_x1) (hf_x1 : FH Try.prog f_x1 k_x1 true (fun b => .bool b) g_x1 (fun x => x ∈ x0) M w) : Calls Try.prog 135 #[.slice a_x0 x0.length c_x0, .func (.func f_x1) #[] k_x1.toArray] w (Ret fun v w' => v = .int .i64 (Pk.idx x0 g_x1) ∧ Upd [] w w') := by
  have lh_x0 := h_x0.lt63
  refine enter (l := [.slice a_x0 x0.length c_x0, .func (.func f_x1) #[] k_x1.toArray]) Try.func135 rfl Try.ntmps135 rfl ?_
  refine c_seq fun KhK1 hK1 => ?_
  refine c_reg ?_
  refine op_assign (v := .int .i64 0) rfl rfl rfl ?_
  refine wpList_nil ?_
  refine hK1 _ _ ?_
  refine c_seq fun KhK2 hK2 => ?_
  refine c_seq fun KhK3 hK3 => ?_
  refine c_reg ?_
  refine op_move (v := .slice a_x0 x0.length c_x0) rfl rfl rfl ?_
  refine op_len ty23 rfl rfl rfl ?_
  refine op_move (v := .int .i64 0) rfl rfl rfl ?_
  refine wpList_nil ?_
  refine hK3 _ _ ?_
  refine wp_block ?_
  refine c_loop (X := Nat) [4, 5, 8, 9, 10, 11, 12, 13, 14, 15, 16, 17, 18] (fun k => [(8, .int .i64 (k : Int))]) (fun k w1 => (k ≤ x0.length) ∧ (Pk.idx x0 g_x1 = Pk.idxGo g_x1 k (x0.drop k)) ∧ Evo [] w [] w1) (fun k => x0.length - k) (0) ⟨congrArg (Value.int .i64) (show 0 = ((0 : Nat) : Int) by omega), trivial⟩ ?_ ?_
  ·
    exact ⟨(by first | omega | simp), (by simp [Pk.idx]), Evo.refl _ _⟩
  ·
    rintro k τ w4 ⟨hi6, hi7, e5⟩
    refine c_seq fun KhK8 hK8 => ?_
    refine c_reg ?_
    refine op_lss rfl rfl rfl rfl ?_
    refine wpList_nil ?_
    refine hK8 _ _ ?_
    refine c_seq fun KhK9 hK9 => ?_
    refine c_if rfl rfl (fun hb10 => ?_) (fun hb10 => ?_)
    · -- (k : Int) < (x0.length : Int)
      refine wp_skip ?_
      refine hK9 _ _ ?_
      refine c_seq fun KhK11 hK11 => ?_
      refine wp_block ?_
      refine c_seq fun KhK12 hK12 => ?_
      refine c_reg ?_
      refine op_move (v := .int .i64 (k : Int)) rfl rfl rfl ?_
      refine op_assign (v := .int .i64 (k : Int)) rfl rfl rfl ?_
      refine wpList_nil ?_
      refine hK12 _ _ ?_
      refine c_seq fun KhK13 hK13 => ?_
      refine c_reg ?_
      refine op_move (v := .func (.func f_x1) #[] k_x1.toArray) rfl rfl rfl ?_
      refine op_move (v := .slice a_x0 x0.length c_x0) rfl rfl rfl ?_
      refine op_move (v := .int .i64 (k : Int)) rfl rfl rfl ?_
      refine op_indexN (j := k) ty23 ty49 rfl rfl rfl rfl rfl (h_x0.mono (e5.tr M)) (by omega) fun ad14 cs15 u16 hx17 he18 ca19 => ?_
      obtain ⟨a_u16, c_u16, rfl, h_u16⟩ := he18
      have lh_u16 := h_u16.lt63
      refine op_loadAA ty49 rfl rfl rfl rfl ca19 rfl ?_
      refine op_callV (args := (.agg #[.string u16.Class, .slice a_u16 u16.Vals.length c_u16]) :: k_x1) cal_x1 rfl rfl rfl rfl (hf_x1.up [] _ [.string u16.Class, .slice a_u16 u16.Vals.length c_u16] u16 e5.old ((List.mem_of_getElem? hx17)) ⟨_, _, rfl, h_u16⟩) ?_
      rintro _ w20 ⟨rfl, u21⟩
      have e23 := u21.evo0 (m := [])
      refine wpList_nil ?_
      refine hK13 _ _ ?_
      refine c_ifB rfl rfl (fun hb24 => ?_) (fun hb24 => ?_)
      · -- (g_x1 u16) = true
        refine c_seq fun KhK25 hK25 => ?_
        refine c_reg ?_
        refine op_move (v := .int .i64 (k : Int)) rfl rfl rfl ?_
        refine op_assign (v := .int .i64 (k : Int)) rfl rfl rfl ?_
        refine wpList_nil ?_
        refine hK25 _ _ ?_
        refine wp_ret ?_
        have hr26 : (k : Int) = (Pk.idx x0 g_x1) := by rw [hi7]; simp [drop_of hx17, Pk.idxGo, hi6, hb10, hx17, hb24]
        exact ret1 Try.results135 rfl ⟨congrArg (Value.int .i64) hr26, (e5.trans e23).old⟩
      · -- (g_x1 u16) = false
        refine wp_skip ?_
        refine hK11 _ _ ?_
        refine c_reg ?_
        refine op_add rfl rfl rfl rfl (by omega) ?_
        refine op_move (v := .int .i64 ((k : Int) + 1)) rfl rfl rfl ?_
        refine wpList_nil ?_
        repeat (with_reducible refine inBlock_normal ?_)
        with_reducible refine then_normal ?_
        exact ⟨(k + 1), (by first | omega | (dsimp only; omega)), ⟨(by first | omega | (simp only [List.length_append, List.length_cons, List.length_nil]; omega) | (rw [hi7]; simp [drop_of hx17, Pk.idxGo, hi6, hb10, hx17, hb24])), (by rw [hi7]; simp [drop_of hx17, Pk.idxGo, hi6, hb10, hx17, hb24]), ((e5.trans e23).drop (fun b hb => by simp [hb]))⟩, _, rfl, (by repeat first | exact agree.refl _ _ | refine agree.upd rfl ?_ | refine agree.upds rfl ?_ | refine agree.mix rfl ?_), ⟨congrArg (Value.int .i64) (show ((k : Int) + 1) = ((k + 1 : Nat) : Int) by omega), trivial⟩⟩
    · -- ¬ ((k : Int) < (x0.length : Int))
      refine wp_exit ?_
      refine hK2 _ _ ?_
      refine c_seq fun KhK27 hK27 => ?_
      refine c_reg ?_
      refine op_assign (v := .int .i64 (-1)) rfl rfl rfl ?_
      refine wpList_nil ?_
      refine hK27 _ _ ?_
      refine wp_ret ?_
      have hr28 : (-1) = (Pk.idx x0 g_x1) := by rw [hi7]; simp [drop_end (l := x0) (k := k) (by first | omega | (rw [bytes_length]; omega)), Pk.idxGo, hi6, hb10]
      exact ret1 Try.results135 rfl ⟨congrArg (Value.int .i64) hr28, e5.old⟩
set_option maxHeartbeats 1000000 in
theorem c137 {M : List Nat} {w : World} {x0 : List Pk.Val} {a_x0 : Option Addr} {c_x0 : Nat} {f_x1 : Nat} {k_x1 : List Value} {g_x1 : Pk.Val → Bool} (hM : Lo M w) (h_x0 : SL M w a_x0 c_x0 x0) (cal_x1 : Callable Try.prog f_x1) (hf_x1 : FH Try.prog f_x1 k_x1 true (fun b => .bool b) g_x1 (fun x => x ∈ x0) M w) : Calls Try.prog 137 #[.slice a_x0 x0.length c_x0, .func (.func f_x1) #[] k_x1.toArray] w (Ret fun v w' => v = .int .i64 (Pk.idx x0 g_x1) ∧ Upd [] w w') := by
  have lh_x0 := h_x0.lt63
  refine enter (l := [.slice a_x0 x0.length c_x0, .func (.func f_x1) #[] k_x1.toArray]) Try.func137 rfl Try.ntmps137 rfl ?_
  refine c_seq fun KhK1 hK1 => ?_
  refine c_reg ?_
  refine op_assign (v := .int .i64 0) rfl rfl rfl ?_
  refine wpList_nil ?_
  refine hK1 _ _ ?_
  refine c_seq fun KhK2 hK2 => ?_
  refine c_seq fun KhK3 hK3 => ?_
  refine c_reg ?_
  refine op_move (v := .slice a_x0 x0.length c_x0) rfl rfl rfl ?_
  refine op_len ty24 rfl rfl rfl ?_
  refine op_move (v := .int .i64 0) rfl rfl rfl ?_
  refine wpList_nil ?_
  refine hK3 _ _ ?_
  refine wp_block ?_
  refine c_loop (X := Nat) [4, 5, 8, 9, 10, 11, 12, 13, 14, 15, 16, 17, 18] (fun k => [(8, .int .i64 (k : Int))]) (fun k w1 => (k ≤ x0.length) ∧ (Pk.idx x0 g_x1 = Pk.idxGo g_x1 k (x0.drop k)) ∧ Evo [] w [] w1) (fun k => x0.length - k) (0) ⟨congrArg (Value.int .i64) (show 0 = ((0 : Nat) : Int) by omega), trivial⟩ ?_ ?_
  ·
    exact ⟨(by first | omega | simp), (by simp [Pk.idx]), Evo.refl _ _⟩
  ·
    rintro k τ w4 ⟨hi6, hi7, e5⟩
    refine c_seq fun KhK8 hK8 => ?_
    refine c_reg ?_
    refine op_lss rfl rfl rfl rfl ?_
    refine wpList_nil ?_
    refine hK8 _ _ ?_
    refine c_seq fun KhK9 hK9 => ?_
    refine c_if rfl rfl (fun hb10 => ?_) (fun hb10 => ?_)
    · -- (k : Int) < (x0.length : Int)
      refine wp_skip ?_
      refine hK9 _ _ ?_
      refine c_seq fun KhK11 hK11 => ?_
      refine wp_block ?_
      refine c_seq fun KhK12 hK12 => ?_
      refine c_reg ?_
      refine op_move (v := .int .i64 (k : Int)) rfl rfl rfl ?_
      refine op_assign (v := .int .i64 (k : Int)) rfl rfl rfl ?_
      refine wpList_nil ?_
      refine hK12 _ _ ?_
      refine c_seq fun KhK13 hK13 => ?_
      refine c_reg ?_
      refine op_move (v := .func (.func f_x1) #[] k_x1.toArray) rfl rfl rfl ?_
      refine op_move (v := .slice a_x0 x0.length c_x0) rfl rfl rfl ?_
      refine op_move (v := .int .i64 (k : Int)) rfl rfl rfl ?_
      refine op_indexN (j := k) ty24 ty51 rfl rfl rfl rfl rfl (h_x0.mono (e5.tr M)) (by omega) fun ad14 cs15 u16 hx17 he18 ca19 => ?_
      obtain rfl := he18
      refine op_loadAA ty51 rfl rfl rfl rfl ca19 rfl ?_
      refine op_callV (args := (.agg #[.int .i64 u16.Kind, .int .i64 u16.N]) :: k_x1) cal_x1 rfl rfl rfl rfl (hf_x1.up [] _ [.int .i64 u16.Kind, .int .i64 u16.N] u16 e5.old ((List.mem_of_getElem? hx17)) rfl) ?_
      rintro _ w20 ⟨rfl, u21⟩
      have e23 := u21.evo0 (m := [])
      refine wpList_nil ?_
      refine hK13 _ _ ?_
      refine c_ifB rfl rfl (fun hb24 => ?_) (fun hb24 => ?_)
      · -- (g_x1 u16) = true
        refine c_seq fun KhK25 hK25 => ?_
        refine c_reg ?_
        refine op_move (v := .int .i64 (k : Int)) rfl rfl rfl ?_
        refine op_assign (v := .int .i64 (k : Int)) rfl rfl rfl ?_
        refine wpList_nil ?_
        refine hK25 _ _ ?_
        refine wp_ret ?_
        have hr26 : (k : Int) = (Pk.idx x0 g_x1) := by rw [hi7]; simp [drop_of hx17, Pk.idxGo, hi6, hb10, hx17, hb24]
        exact ret1 Try.results137 rfl ⟨congrArg (Value.int .i64) hr26, (e5.trans e23).old⟩
      · -- (g_x1 u16) = false
        refine wp_skip ?_
        refine hK11 _ _ ?_
        refine c_reg ?_
        refine op_add rfl rfl rfl rfl (by omega) ?_
        refine op_move (v := .int .i64 ((k : Int) + 1)) rfl rfl rfl ?_
        refine wpList_nil ?_
        repeat (with_reducible refine inBlock_normal ?_)
        with_reducible refine then_normal ?_
        exact ⟨(k + 1), (by first | omega | (dsimp only; omega)), ⟨(by first | omega | (simp only [List.length_append, List.length_cons, List.length_nil]; omega) | (rw [hi7]; simp [drop_of hx17, Pk.idxGo, hi6, hb10, hx17, hb24])), (by rw [hi7]; simp [drop_of hx17, Pk.idxGo, hi6, hb10, hx17, hb24]), ((e5.trans e23).drop (fun b hb => by simp [hb]))⟩, _, rfl, (by repeat first | exact agree.refl _ _ | refine agree.upd rfl ?_ | refine agree.upds rfl ?_ | refine agree.mix rfl ?_), ⟨congrArg (Value.int .i64) (show ((k : Int) + 1) = ((k + 1 : Nat) : Int) by omega), trivial⟩⟩
    · -- ¬ ((k : Int) < (x0.length : Int))
      refine wp_exit ?_
      refine hK2 _ _ ?_
      refine c_seq fun KhK27 hK27 => ?_
      refine c_reg ?_
      refine op_assign (v := .int .i64 (-1)) rfl rfl rfl ?_
      refine wpList_nil ?_
      refine hK27 _ _ ?_
      refine wp_ret ?_
      have hr28 : (-1) = (Pk.idx x0 g_x1) := by rw [hi7]; simp [drop_end (l := x0) (k := k) (by first | omega | (rw [bytes_length]; omega)), Pk.idxGo, hi6, hb10]
      exact ret1 Try.results137 rfl ⟨congrArg (Value.int .i64) hr28, e5.old⟩
set_option maxHeartbeats 1000000 in
theorem c114 {M : List Nat} {w : World} {x0 : List Pk.Rule} {a_x0 : Option Addr} {c_x0 : Nat} {f_x1 : Nat} {k_x1 : List Value} {g_x1 : Pk.Rule → Bool} (hM : Lo M w) (h_x0 : SL M w a_x0 c_x0 x0) (cal_x1 : Callable Try.prog f_x1) (hf_x1 : FH Try.prog f_x1 k_x1 true (fun b => .bool b) g_x1 (fun x => x ∈ x0) M w) : Calls Try.prog 114 #[.slice a_x0 x0.length c_x0, .func (.func f_x1) #[] k_x1.toArray] w (Ret fun v w' => v = .int .i64 (Pk.idx x0 g_x1) ∧ Upd [] w w') := by
  have lh_x0 := h_x0.lt63
  refine enter (l := [.slice a_x0 x0.length c_x0, .func (.func f_x1) #[] k_x1.toArray]) Try.func114 rfl Try.ntmps114 rfl ?_
  refine c_seq fun KhK1 hK1 => ?_
  refine c_reg ?_
  refine op_assign (v := .int .i64 0) rfl rfl rfl ?_
  refine wpList_nil ?_
  refine hK1 _ _ ?_
  refine c_seq fun KhK2 hK2 => ?_
  refine c_seq fun KhK3 hK3 => ?_
  refine c_reg ?_
  refine op_move (v := .slice a_x0 x0.length c_x0) rfl rfl rfl ?_
  refine op_len ty53 rfl rfl rfl ?_
  refine op_move (v := .int .i64 0) rfl rfl rfl ?_
  refine wpList_nil ?_
  refine hK3 _ _ ?_
  refine wp_block ?_
  refine c_loop (X := Nat) [4, 5, 8, 9, 10, 11, 12, 13, 14, 15, 16, 17, 18] (fun k => [(8, .int .i64 (k : Int))]) (fun k w1 => (k ≤ x0.length) ∧ (Pk.idx x0 g_x1 = Pk.idxGo g_x1 k (x0.drop k)) ∧ Evo [] w [] w1) (fun k => x0.length - k) (0) ⟨congrArg (Value.int .i64) (show 0 = ((0 : Nat) : Int) by omega), trivial⟩ ?_ ?_
  ·
    exact ⟨(by first | omega | simp), (by simp [Pk.idx]), Evo.refl _ _⟩
  ·
    rintro k τ w4 ⟨hi6, hi7, e5⟩
    refine c_seq fun KhK8 hK8 => ?_
    refine c_reg ?_
    refine op_lss rfl rfl rfl rfl ?_
    refine wpList_nil ?_
    refine hK8 _ _ ?_
    refine c_seq fun KhK9 hK9 => ?_
    refine c_if rfl rfl (fun hb10 => ?_) (fun hb10 => ?_)
    · -- (k : Int) < (x0.length : Int)
      refine wp_skip ?_
      refine hK9 _ _ ?_
      refine c_seq fun KhK11 hK11 => ?_
      refine wp_block ?_
      refine c_seq fun KhK12 hK12 => ?_
      refine c_reg ?_
      refine op_move (v := .int .i64 (k : Int)) rfl rfl rfl ?_
      refine op_assign (v := .int .i64 (k : Int)) rfl rfl rfl ?_
      refine wpList_nil ?_
      refine hK12 _ _ ?_
      refine c_seq fun KhK13 hK13 => ?_
      refine c_reg ?_
      refine op_move (v := .func (.func f_x1) #[] k_x1.toArray) rfl rfl rfl ?_
      refine op_move (v := .slice a_x0 x0.length c_x0) rfl rfl rfl ?_
      refine op_move (v := .int .i64 (k : Int)) rfl rfl rfl ?_
      refine op_indexN (j := k) ty53 ty100 rfl rfl rfl rfl rfl (h_x0.mono (e5.tr M)) (by omega) fun ad14 cs15 u16 hx17 he18 ca19 => ?_
      obtain ⟨a_u16, c_u16, rfl, h_u16⟩ := he18
      have lh_u16 := h_u16.lt63
      refine op_loadAA ty100 rfl rfl rfl rfl ca19 rfl ?_
      refine op_callV (args := (.agg #[.string u16.Class, .string u16.To, .slice a_u16 u16.Gives.length c_u16]) :: k_x1) cal_x1 rfl rfl rfl rfl (hf_x1.up [] _ [.string u16.Class, .string u16.To, .slice a_u16 u16.Gives.length c_u16] u16 e5.old ((List.mem_of_getElem? hx17)) ⟨_, _, rfl, h_u16⟩) ?_
      rintro _ w20 ⟨rfl, u21⟩
      have e23 := u21.evo0 (m := [])
      refine wpList_nil ?_
      refine hK13 _ _ ?_
      refine c_ifB rfl rfl (fun hb24 => ?_) (fun hb24 => ?_)
      · -- (g_x1 u16) = true
        refine c_seq fun KhK25 hK25 => ?_
        refine c_reg ?_
        refine op_move (v := .int .i64 (k : Int)) rfl rfl rfl ?_
        refine op_assign (v := .int .i64 (k : Int)) rfl rfl rfl ?_
        refine wpList_nil ?_
        refine hK25 _ _ ?_
        refine wp_ret ?_
        have hr26 : (k : Int) = (Pk.idx x0 g_x1) := by rw [hi7]; simp [drop_of hx17, Pk.idxGo, hi6, hb10, hx17, hb24]
        exact ret1 Try.results114 rfl ⟨congrArg (Value.int .i64) hr26, (e5.trans e23).old⟩
      · -- (g_x1 u16) = false
        refine wp_skip ?_
        refine hK11 _ _ ?_
        refine c_reg ?_
        refine op_add rfl rfl rfl rfl (by omega) ?_
        refine op_move (v := .int .i64 ((k : Int) + 1)) rfl rfl rfl ?_
        refine wpList_nil ?_
        repeat (with_reducible refine inBlock_normal ?_)
        with_reducible refine then_normal ?_
        exact ⟨(k + 1), (by first | omega | (dsimp only; omega)), ⟨(by first | omega | (simp only [List.length_append, List.length_cons, List.length_nil]; omega) | (rw [hi7]; simp [drop_of hx17, Pk.idxGo, hi6, hb10, hx17, hb24])), (by rw [hi7]; simp [drop_of hx17, Pk.idxGo, hi6, hb10, hx17, hb24]), ((e5.trans e23).drop (fun b hb => by simp [hb]))⟩, _, rfl, (by repeat first | exact agree.refl _ _ | refine agree.upd rfl ?_ | refine agree.upds rfl ?_ | refine agree.mix rfl ?_), ⟨congrArg (Value.int .i64) (show ((k : Int) + 1) = ((k + 1 : Nat) : Int) by omega), trivial⟩⟩
    · -- ¬ ((k : Int) < (x0.length : Int))
      refine wp_exit ?_
      refine hK2 _ _ ?_
      refine c_seq fun KhK27 hK27 => ?_
      refine c_reg ?_
      refine op_assign (v := .int .i64 (-1)) rfl rfl rfl ?_
      refine wpList_nil ?_
      refine hK27 _ _ ?_
      refine wp_ret ?_
      have hr28 : (-1) = (Pk.idx x0 g_x1) := by rw [hi7]; simp [drop_end (l := x0) (k := k) (by first | omega | (rw [bytes_length]; omega)), Pk.idxGo, hi6, hb10]
      exact ret1 Try.results114 rfl ⟨congrArg (Value.int .i64) hr28, e5.old⟩
set_option maxHeartbeats 1000000 in
theorem c126 {M : List Nat} {w : World} {x0 : Pk.Form} {a_x0 : Option Addr} {c_x0 : Nat} {f_of : Nat} {k_of : List Value} {g_of : Pk.Form → ByteArray} {b_of : Nat} {nm : ByteArray} {b_nm : Nat} (hM : Lo M w) (h_x0 : SL M w a_x0 c_x0 x0.Cols) (cal_of : Callable Try.prog f_of) (hf_of : FH Try.prog f_of k_of true (fun b => .string b) g_of (fun _ => True) M w) (hb_of : Box w b_of [.func (.func f_of) #[] k_of.toArray]) (hb_nm : Box w b_nm [.string nm]) : Calls Try.prog 126 #[.agg #[.string x0.Name, .slice a_x0 x0.Cols.length c_x0], .pointer (some ⟨b_of, 0, none⟩), .pointer (some ⟨b_nm, 0, none⟩)] w (Ret fun v w' => v = .bool (Pk.findP x0 g_of nm) ∧ Upd [] w w') := by
  have lh_x0 := h_x0.lt63
  refine enter (l := [.agg #[.string x0.Name, .slice a_x0 x0.Cols.length c_x0], .pointer (some ⟨b_of, 0, none⟩), .pointer (some ⟨b_nm, 0, none⟩)]) Try.func126 rfl Try.ntmps126 rfl ?_
  refine c_seq fun KhK1 hK1 => ?_
  refine c_reg ?_
  refine op_box (v := .agg #[.string x0.Name, .slice a_x0 x0.Cols.length c_x0]) (zs := [.string x0.Name, .slice a_x0 x0.Cols.length c_x0]) rfl rfl rfl rfl fun β2 w3 hβ4 u5 hz6 hx7 => ?_
  have e8 := u5.evoN (m := []) hβ4 hz6
  have ne9 : b_of ≠ β2 := by have := hb_of.lt; omega
  replace hb_of := hb_of.mono0 u5
  have ne10 : b_nm ≠ β2 := by have := hb_nm.lt; omega
  replace hb_nm := hb_nm.mono0 u5
  refine op_assign (v := .bool false) rfl rfl rfl ?_
  refine wpList_nil ?_
  refine hK1 _ _ ?_
  refine c_seq fun KhK11 hK11 => ?_
  refine c_quiet mixed (by kernel_rfl) ?_
  refine q_val (v := .func (.func f_of) #[] k_of.toArray) rfl rfl rfl (fun wq12 uq13 => op_loadB (v := .func (.func f_of) #[] k_of.toArray) ty140 rfl rfl rfl rfl (hb_of.mono0 uq13) rfl q1) ?_
  refine q_val (v := .agg #[.string x0.Name, .slice a_x0 x0.Cols.length c_x0]) rfl rfl rfl (fun wq14 uq15 => op_loadBA (ds := [.string x0.Name, .slice a_x0 x0.Cols.length c_x0]) ty91 rfl rfl rfl rfl (hx7.mono0 uq15) rfl rfl q1) ?_
  refine q_callV (args := (.agg #[.string x0.Name, .slice a_x0 x0.Cols.length c_x0]) :: k_of) (v := .string (g_of x0)) cal_of rfl rfl rfl rfl (fun wq16 uq17 => hf_of.up (β2 :: []) _ [.string x0.Name, .slice a_x0 x0.Cols.length c_x0] x0 (e8.trans (uq17.evo0 (m := (β2 :: [])))).old (trivial) ⟨_, _, rfl, (h_x0.mono ((e8.trans (uq17.evo0 (m := (β2 :: [])))).tr M))⟩) ?_
  refine q_val (v := .string nm) rfl rfl rfl (fun wq18 uq19 => op_loadB (v := .string nm) ty9 rfl rfl rfl rfl (hb_nm.mono0 uq19) rfl q1) ?_
  refine q_val (v := .bool (decide ((g_of x0) = nm))) rfl rfl rfl (fun wq20 uq21 => op_eqS rfl rfl rfl rfl q1) ?_
  refine q_val (v := .bool (decide ((g_of x0) = nm))) rfl rfl rfl (fun wq22 uq23 => op_assign (v := .bool (decide ((g_of x0) = nm))) rfl rfl rfl q1) ?_
  refine wpQuiet_nil fun w24 u25 => ?_
  have e26 := u25.evo0 (m := (β2 :: []))
  replace hb_of := hb_of.mono0 u25
  replace hb_nm := hb_nm.mono0 u25
  replace hx7 := hx7.mono0 u25
  refine hK11 _ _ ?_
  refine wp_ret ?_
  have hr27 : (decide ((g_of x0) = nm)) = (Pk.findP x0 g_of nm) := by simp [ Pk.findP]
  exact ret1 Try.results126 rfl ⟨congrArg Value.bool hr27, (e8.trans e26).old⟩
set_option maxHeartbeats 1000000 in
theorem c92 {M : List Nat} {w : World} {x0 : List Pk.Form} {a_x0 : Option Addr} {c_x0 : Nat} {x1 : ByteArray} {f_x2 : Nat} {k_x2 : List Value} {g_x2 : Pk.Form → ByteArray} (hM : Lo M w) (h_x0 : SL M w a_x0 c_x0 x0) (cal_x2 : Callable Try.prog f_x2) (hf_x2 : FH Try.prog f_x2 k_x2 true (fun b => .string b) g_x2 (fun _ => True) M w) : Calls Try.prog 92 #[.slice a_x0 x0.length c_x0, .string x1, .func (.func f_x2) #[] k_x2.toArray] w (Ret fun v w' => v = .int .i64 (Pk.find x0 x1 g_x2) ∧ Upd [] w w') := by
  have lh_x0 := h_x0.lt63
  refine enter (l := [.slice a_x0 x0.length c_x0, .string x1, .func (.func f_x2) #[] k_x2.toArray]) Try.func92 rfl Try.ntmps92 rfl ?_
  refine c_seq fun KhK1 hK1 => ?_
  refine c_reg ?_
  refine op_box (v := .string x1) (zs := [.string x1]) rfl rfl rfl rfl fun β2 w3 hβ4 u5 hz6 hx7 => ?_
  have e8 := u5.evoN (m := []) hβ4 hz6
  refine op_box (v := .func (.func f_x2) #[] k_x2.toArray) (zs := [.func (.func f_x2) #[] k_x2.toArray]) rfl rfl rfl rfl fun β9 w10 hβ11 u12 hz13 hx14 => ?_
  have e15 := u12.evoN (m := (β2 :: [])) hβ11 hz13
  have ne16 : β2 ≠ β9 := by have := hx7.lt; omega
  replace hx7 := hx7.mono0 u12
  refine op_assign (v := .int .i64 0) rfl rfl rfl ?_
  refine wpList_nil ?_
  refine hK1 _ _ ?_
  refine c_seq fun KhK17 hK17 => ?_
  refine c_reg ?_
  refine op_move (v := .slice a_x0 x0.length c_x0) rfl rfl rfl ?_
  refine op_makeFunc (vs := [.pointer (some ⟨β9, 0, none⟩), .pointer (some ⟨β2, 0, none⟩)]) rfl rfl rfl ?_
  refine op_call (args := [.slice a_x0 x0.length c_x0, .func (.func 126) #[] #[.pointer (some ⟨β9, 0, none⟩), .pointer (some ⟨β2, 0, none⟩)]]) cal125 rfl rfl rfl (c125 ((e8.trans e15).loM hM) (h_x0.mono ((e8.trans e15).tr M)) cal126 (fun w1 cs_y0 y0 hu hD he_y0 => by obtain ⟨a_y0, c_y0, rfl, h_y0⟩ := he_y0; exact c126 (((e8.trans e15).loM hM).mono hu.size) h_y0 cal_x2 ((hf_x2.mono ((e8.trans e15).old.trans hu)).up (β9 :: (β2 :: []))) (hx14.mono0 hu) (hx7.mono0 hu))) ?_
  rintro _ w18 ⟨rfl, u19⟩
  have e21 := u19.evo0 (m := (β9 :: (β2 :: [])))
  replace hx7 := hx7.mono0 u19
  replace hx14 := hx14.mono0 u19
  refine op_assign (v := .int .i64 (Pk.idx x0 (fun (y0 : Pk.Form) => Pk.findP y0 g_x2 x1))) rfl rfl rfl ?_
  refine wpList_nil ?_
  refine hK17 _ _ ?_
  refine wp_ret ?_
  have hr22 : (Pk.idx x0 (fun (y0 : Pk.Form) => Pk.findP y0 g_x2 x1)) = (Pk.find x0 x1 g_x2) := by simp [ Pk.find]
  exact ret1 Try.results92 rfl ⟨congrArg (Value.int .i64) hr22, ((e8.trans e15).trans e21).old⟩
set_option maxHeartbeats 1000000 in
theorem c52 {M : List Nat} {w : World} {x0 : List Pk.Form} {a_x0 : Option Addr} {c_x0 : Nat} {x1 : ByteArray} (hM : Lo M w) (h_x0 : SL M w a_x0 c_x0 x0) : Calls Try.prog 52 #[.slice a_x0 x0.length c_x0, .string x1] w (Ret fun v w' => v = .int .i64 (Pk.form x0 x1) ∧ Upd [] w w') := by
  have lh_x0 := h_x0.lt63
  refine enter (l := [.slice a_x0 x0.length c_x0, .string x1]) Try.func52 rfl Try.ntmps52 rfl ?_
  refine c_seq fun KhK1 hK1 => ?_
  refine c_reg ?_
  refine op_assign (v := .int .i64 0) rfl rfl rfl ?_
  refine wpList_nil ?_
  refine hK1 _ _ ?_
  refine c_seq fun KhK2 hK2 => ?_
  refine c_reg ?_
  refine op_move (v := .slice a_x0 x0.length c_x0) rfl rfl rfl ?_
  refine op_move (v := .string x1) rfl rfl rfl ?_
  refine op_call (args := [.slice a_x0 x0.length c_x0, .string x1, .func (.func 93) #[] #[]]) cal92 rfl rfl rfl (c92 ((Evo.refl [] w).loM hM) h_x0 cal93 (fun w1 cs_y0 y0 hu hD he_y0 => by obtain ⟨a_y0, c_y0, rfl, h_y0⟩ := he_y0; exact c93 (((Evo.refl [] w).loM hM).mono hu.size) h_y0)) ?_
  rintro _ w3 ⟨rfl, u4⟩
  have e6 := u4.evo0 (m := [])
  refine op_assign (v := .int .i64 (Pk.find x0 x1 (fun (y0 : Pk.Form) => Pk.formName y0))) rfl rfl rfl ?_
  refine wpList_nil ?_
  refine hK2 _ _ ?_
  refine wp_ret ?_
  have hr7 : (Pk.find x0 x1 (fun (y0 : Pk.Form) => Pk.formName y0)) = (Pk.form x0 x1) := by simp [ Pk.form]
  exact ret1 Try.results52 rfl ⟨congrArg (Value.int .i64) hr7, e6.old⟩
set_option maxHeartbeats 1000000 in
theorem c145 {M : List Nat} {w : World} {x0 : Pk.Col} {f_of : Nat} {k_of : List Value} {g_of : Pk.Col → ByteArray} {b_of : Nat} {nm : ByteArray} {b_nm : Nat} (hM : Lo M w) (cal_of : Callable Try.prog f_of) (hf_of : FH Try.prog f_of k_of true (fun b => .string b) g_of (fun _ => True) M w) (hb_of : Box w b_of [.func (.func f_of) #[] k_of.toArray]) (hb_nm : Box w b_nm [.string nm]) : Calls Try.prog 145 #[.agg #[.string x0.Name, .int .i64 x0.Kind, .string x0.Class], .pointer (some ⟨b_of, 0, none⟩), .pointer (some ⟨b_nm, 0, none⟩)] w (Ret fun v w' => v = .bool (Pk.findP x0 g_of nm) ∧ Upd [] w w') := by
  refine enter (l := [.agg #[.string x0.Name, .int .i64 x0.Kind, .string x0.Class], .pointer (some ⟨b_of, 0, none⟩), .pointer (some ⟨b_nm, 0, none⟩)]) Try.func145 rfl Try.ntmps145 rfl ?_
  refine c_seq fun KhK1 hK1 => ?_
  refine c_reg ?_
  refine op_box (v := .agg #[.string x0.Name, .int .i64 x0.Kind, .string x0.Class]) (zs := [.string x0.Name, .int .i64 x0.Kind, .string x0.Class]) rfl rfl rfl rfl fun β2 w3 hβ4 u5 hz6 hx7 => ?_
  have e8 := u5.evoN (m := []) hβ4 hz6
  have ne9 : b_of ≠ β2 := by have := hb_of.lt; omega
  replace hb_of := hb_of.mono0 u5
  have ne10 : b_nm ≠ β2 := by have := hb_nm.lt; omega
  replace hb_nm := hb_nm.mono0 u5
  refine op_assign (v := .bool false) rfl rfl rfl ?_
  refine wpList_nil ?_
  refine hK1 _ _ ?_
  refine c_seq fun KhK11 hK11 => ?_
  refine c_quiet mixed (by kernel_rfl) ?_
  refine q_val (v := .func (.func f_of) #[] k_of.toArray) rfl rfl rfl (fun wq12 uq13 => op_loadB (v := .func (.func f_of) #[] k_of.toArray) ty181 rfl rfl rfl rfl (hb_of.mono0 uq13) rfl q1) ?_
  refine q_val (v := .agg #[.string x0.Name, .int .i64 x0.Kind, .string x0.Class]) rfl rfl rfl (fun wq14 uq15 => op_loadBA (ds := [.string x0.Name, .int .i64 x0.Kind, .string x0.Class]) ty93 rfl rfl rfl rfl (hx7.mono0 uq15) rfl rfl q1) ?_
  refine q_callV (args := (.agg #[.string x0.Name, .int .i64 x0.Kind, .string x0.Class]) :: k_of) (v := .string (g_of x0)) cal_of rfl rfl rfl rfl (fun wq16 uq17 => hf_of.up (β2 :: []) _ [.string x0.Name, .int .i64 x0.Kind, .string x0.Class] x0 (e8.trans (uq17.evo0 (m := (β2 :: [])))).old (trivial) rfl) ?_
  refine q_val (v := .string nm) rfl rfl rfl (fun wq18 uq19 => op_loadB (v := .string nm) ty9 rfl rfl rfl rfl (hb_nm.mono0 uq19) rfl q1) ?_
  refine q_val (v := .bool (decide ((g_of x0) = nm))) rfl rfl rfl (fun wq20 uq21 => op_eqS rfl rfl rfl rfl q1) ?_
  refine q_val (v := .bool (decide ((g_of x0) = nm))) rfl rfl rfl (fun wq22 uq23 => op_assign (v := .bool (decide ((g_of x0) = nm))) rfl rfl rfl q1) ?_
  refine wpQuiet_nil fun w24 u25 => ?_
  have e26 := u25.evo0 (m := (β2 :: []))
  replace hb_of := hb_of.mono0 u25
  replace hb_nm := hb_nm.mono0 u25
  replace hx7 := hx7.mono0 u25
  refine hK11 _ _ ?_
  refine wp_ret ?_
  have hr27 : (decide ((g_of x0) = nm)) = (Pk.findP x0 g_of nm) := by simp [ Pk.findP]
  exact ret1 Try.results145 rfl ⟨congrArg Value.bool hr27, (e8.trans e26).old⟩
set_option maxHeartbeats 1000000 in
theorem c127 {M : List Nat} {w : World} {x0 : List Pk.Col} {a_x0 : Option Addr} {c_x0 : Nat} {x1 : ByteArray} {f_x2 : Nat} {k_x2 : List Value} {g_x2 : Pk.Col → ByteArray} (hM : Lo M w) (h_x0 : SL M w a_x0 c_x0 x0) (cal_x2 : Callable Try.prog f_x2) (hf_x2 : FH Try.prog f_x2 k_x2 true (fun b => .string b) g_x2 (fun _ => True) M w) : Calls Try.prog 127 #[.slice a_x0 x0.length c_x0, .string x1, .func (.func f_x2) #[] k_x2.toArray] w (Ret fun v w' => v = .int .i64 (Pk.find x0 x1 g_x2) ∧ Upd [] w w') := by
  have lh_x0 := h_x0.lt63
  refine enter (l := [.slice a_x0 x0.length c_x0, .string x1, .func (.func f_x2) #[] k_x2.toArray]) Try.func127 rfl Try.ntmps127 rfl ?_
  refine c_seq fun KhK1 hK1 => ?_
  refine c_reg ?_
  refine op_box (v := .string x1) (zs := [.string x1]) rfl rfl rfl rfl fun β2 w3 hβ4 u5 hz6 hx7 => ?_
  have e8 := u5.evoN (m := []) hβ4 hz6
  refine op_box (v := .func (.func f_x2) #[] k_x2.toArray) (zs := [.func (.func f_x2) #[] k_x2.toArray]) rfl rfl rfl rfl fun β9 w10 hβ11 u12 hz13 hx14 => ?_
  have e15 := u12.evoN (m := (β2 :: [])) hβ11 hz13
  have ne16 : β2 ≠ β9 := by have := hx7.lt; omega
  replace hx7 := hx7.mono0 u12
  refine op_assign (v := .int .i64 0) rfl rfl rfl ?_
  refine wpList_nil ?_
  refine hK1 _ _ ?_
  refine c_seq fun KhK17 hK17 => ?_
  refine c_reg ?_
  refine op_move (v := .slice a_x0 x0.length c_x0) rfl rfl rfl ?_
  refine op_makeFunc (vs := [.pointer (some ⟨β9, 0, none⟩), .pointer (some ⟨β2, 0, none⟩)]) rfl rfl rfl ?_
  refine op_call (args := [.slice a_x0 x0.length c_x0, .func (.func 145) #[] #[.pointer (some ⟨β9, 0, none⟩), .pointer (some ⟨β2, 0, none⟩)]]) cal144 rfl rfl rfl (c144 ((e8.trans e15).loM hM) (h_x0.mono ((e8.trans e15).tr M)) cal145 (fun w1 cs_y0 y0 hu hD he_y0 => by obtain rfl := he_y0; exact c145 (((e8.trans e15).loM hM).mono hu.size) cal_x2 ((hf_x2.mono ((e8.trans e15).old.trans hu)).up (β9 :: (β2 :: []))) (hx14.mono0 hu) (hx7.mono0 hu))) ?_
  rintro _ w18 ⟨rfl, u19⟩
  have e21 := u19.evo0 (m := (β9 :: (β2 :: [])))
  replace hx7 := hx7.mono0 u19
  replace hx14 := hx14.mono0 u19
  refine op_assign (v := .int .i64 (Pk.idx x0 (fun (y0 : Pk.Col) => Pk.findP y0 g_x2 x1))) rfl rfl rfl ?_
  refine wpList_nil ?_
  refine hK17 _ _ ?_
  refine wp_ret ?_
  have hr22 : (Pk.idx x0 (fun (y0 : Pk.Col) => Pk.findP y0 g_x2 x1)) = (Pk.find x0 x1 g_x2) := by simp [ Pk.find]
  exact ret1 Try.results127 rfl ⟨congrArg (Value.int .i64) hr22, ((e8.trans e15).trans e21).old⟩
set_option maxHeartbeats 1000000 in
theorem c95 {M : List Nat} {w : World} {x0 : List Pk.Col} {a_x0 : Option Addr} {c_x0 : Nat} {x1 : ByteArray} (hM : Lo M w) (h_x0 : SL M w a_x0 c_x0 x0) : Calls Try.prog 95 #[.slice a_x0 x0.length c_x0, .string x1] w (Ret fun v w' => v = .int .i64 (Pk.col x0 x1) ∧ Upd [] w w') := by
  have lh_x0 := h_x0.lt63
  refine enter (l := [.slice a_x0 x0.length c_x0, .string x1]) Try.func95 rfl Try.ntmps95 rfl ?_
  refine c_seq fun KhK1 hK1 => ?_
  refine c_reg ?_
  refine op_assign (v := .int .i64 0) rfl rfl rfl ?_
  refine wpList_nil ?_
  refine hK1 _ _ ?_
  refine c_seq fun KhK2 hK2 => ?_
  refine c_reg ?_
  refine op_move (v := .slice a_x0 x0.length c_x0) rfl rfl rfl ?_
  refine op_move (v := .string x1) rfl rfl rfl ?_
  refine op_call (args := [.slice a_x0 x0.length c_x0, .string x1, .func (.func 128) #[] #[]]) cal127 rfl rfl rfl (c127 ((Evo.refl [] w).loM hM) h_x0 cal128 (fun w1 cs_y0 y0 hu hD he_y0 => by obtain rfl := he_y0; exact c128 (((Evo.refl [] w).loM hM).mono hu.size) )) ?_
  rintro _ w3 ⟨rfl, u4⟩
  have e6 := u4.evo0 (m := [])
  refine op_assign (v := .int .i64 (Pk.find x0 x1 (fun (y0 : Pk.Col) => Pk.colName y0))) rfl rfl rfl ?_
  refine wpList_nil ?_
  refine hK2 _ _ ?_
  refine wp_ret ?_
  have hr7 : (Pk.find x0 x1 (fun (y0 : Pk.Col) => Pk.colName y0)) = (Pk.col x0 x1) := by simp [ Pk.col]
  exact ret1 Try.results95 rfl ⟨congrArg (Value.int .i64) hr7, e6.old⟩
set_option maxHeartbeats 1000000 in
theorem c97 {M : List Nat} {w : World} {x0 : List Pk.Node} {a_x0 : Option Addr} {c_x0 : Nat} {f_x1 : Nat} {k_x1 : List Value} {g_x1 : Pk.Node → Bool} (hM : Lo M w) (h_x0 : SL M w a_x0 c_x0 x0) (cal_x1 : Callable Try.prog f_x1) (hf_x1 : FH Try.prog f_x1 k_x1 true (fun b => .bool b) g_x1 (fun x => x ∈ x0) M w) : Calls Try.prog 97 #[.slice a_x0 x0.length c_x0, .func (.func f_x1) #[] k_x1.toArray] w (Ret fun v w' => v = .bool (Pk.contains x0 g_x1) ∧ Upd [] w w') := by
  have lh_x0 := h_x0.lt63
  refine enter (l := [.slice a_x0 x0.length c_x0, .func (.func f_x1) #[] k_x1.toArray]) Try.func97 rfl Try.ntmps97 rfl ?_
  refine c_seq fun KhK1 hK1 => ?_
  refine c_reg ?_
  refine op_assign (v := .bool false) rfl rfl rfl ?_
  refine wpList_nil ?_
  refine hK1 _ _ ?_
  refine c_seq fun KhK2 hK2 => ?_
  refine c_reg ?_
  refine op_move (v := .slice a_x0 x0.length c_x0) rfl rfl rfl ?_
  refine op_move (v := .func (.func f_x1) #[] k_x1.toArray) rfl rfl rfl ?_
  refine op_call (args := [.slice a_x0 x0.length c_x0, .func (.func f_x1) #[] k_x1.toArray]) cal135 rfl rfl rfl (c135 ((Evo.refl [] w).loM hM) h_x0 cal_x1 ((hf_x1.mono (Evo.refl [] w).old).up [])) ?_
  rintro _ w3 ⟨rfl, u4⟩
  have e6 := u4.evo0 (m := [])
  refine op_geq rfl rfl rfl rfl ?_
  refine op_assign (v := .bool (decide (0 ≤ (Pk.idx x0 g_x1)))) rfl rfl rfl ?_
  refine wpList_nil ?_
  refine hK2 _ _ ?_
  refine wp_ret ?_
  have hr7 : (decide (0 ≤ (Pk.idx x0 g_x1))) = (Pk.contains x0 g_x1) := by simp [ Pk.contains]
  exact ret1 Try.results97 rfl ⟨congrArg Value.bool hr7, e6.old⟩
set_option maxHeartbeats 1000000 in
theorem c107 {M : List Nat} {w : World} {x0 : List Pk.Val} {a_x0 : Option Addr} {c_x0 : Nat} {f_x1 : Nat} {k_x1 : List Value} {g_x1 : Pk.Val → Bool} (hM : Lo M w) (h_x0 : SL M w a_x0 c_x0 x0) (cal_x1 : Callable Try.prog f_x1) (hf_x1 : FH Try.prog f_x1 k_x1 true (fun b => .bool b) g_x1 (fun x => x ∈ x0) M w) : Calls Try.prog 107 #[.slice a_x0 x0.length c_x0, .func (.func f_x1) #[] k_x1.toArray] w (Ret fun v w' => v = .bool (Pk.contains x0 g_x1) ∧ Upd [] w w') := by
  have lh_x0 := h_x0.lt63
  refine enter (l := [.slice a_x0 x0.length c_x0, .func (.func f_x1) #[] k_x1.toArray]) Try.func107 rfl Try.ntmps107 rfl ?_
  refine c_seq fun KhK1 hK1 => ?_
  refine c_reg ?_
  refine op_assign (v := .bool false) rfl rfl rfl ?_
  refine wpList_nil ?_
  refine hK1 _ _ ?_
  refine c_seq fun KhK2 hK2 => ?_
  refine c_reg ?_
  refine op_move (v := .slice a_x0 x0.length c_x0) rfl rfl rfl ?_
  refine op_move (v := .func (.func f_x1) #[] k_x1.toArray) rfl rfl rfl ?_
  refine op_call (args := [.slice a_x0 x0.length c_x0, .func (.func f_x1) #[] k_x1.toArray]) cal137 rfl rfl rfl (c137 ((Evo.refl [] w).loM hM) h_x0 cal_x1 ((hf_x1.mono (Evo.refl [] w).old).up [])) ?_
  rintro _ w3 ⟨rfl, u4⟩
  have e6 := u4.evo0 (m := [])
  refine op_geq rfl rfl rfl rfl ?_
  refine op_assign (v := .bool (decide (0 ≤ (Pk.idx x0 g_x1)))) rfl rfl rfl ?_
  refine wpList_nil ?_
  refine hK2 _ _ ?_
  refine wp_ret ?_
  have hr7 : (decide (0 ≤ (Pk.idx x0 g_x1))) = (Pk.contains x0 g_x1) := by simp [ Pk.contains]
  exact ret1 Try.results107 rfl ⟨congrArg Value.bool hr7, e6.old⟩
set_option maxHeartbeats 1000000 in
theorem c124 {M : List Nat} {w : World} {x0 : List ByteArray} {a_x0 : Option Addr} {c_x0 : Nat} {x1 : ByteArray} (hM : Lo M w) (h_x0 : SL M w a_x0 c_x0 x0) : Calls Try.prog 124 #[.slice a_x0 x0.length c_x0, .string x1] w (Ret fun v w' => v = .int .i64 (Pk.sidx x0 x1) ∧ Upd [] w w') := by
  have lh_x0 := h_x0.lt63
  refine enter (l := [.slice a_x0 x0.length c_x0, .string x1]) Try.func124 rfl Try.ntmps124 rfl ?_
  refine c_seq fun KhK1 hK1 => ?_
  refine c_reg ?_
  refine op_assign (v := .int .i64 0) rfl rfl rfl ?_
  refine wpList_nil ?_
  refine hK1 _ _ ?_
  refine c_seq fun KhK2 hK2 => ?_
  refine c_seq fun KhK3 hK3 => ?_
  refine c_reg ?_
  refine op_move (v := .slice a_x0 x0.length c_x0) rfl rfl rfl ?_
  refine op_len ty138 rfl rfl rfl ?_
  refine op_move (v := .int .i64 0) rfl rfl rfl ?_
  refine wpList_nil ?_
  refine hK3 _ _ ?_
  refine wp_block ?_
  refine c_loop (X := Nat) [4, 5, 8, 9, 10, 11, 12, 13, 14, 15, 16, 17, 18] (fun k => [(8, .int .i64 (k : Int))]) (fun k w1 => (k ≤ x0.length) ∧ (Pk.sidx x0 x1 = Pk.sidxGo x1 k (x0.drop k)) ∧ Evo [] w [] w1) (fun k => x0.length - k) (0) ⟨congrArg (Value.int .i64) (show 0 = ((0 : Nat) : Int) by omega), trivial⟩ ?_ ?_
  ·
    exact ⟨(by first | omega | simp), (by simp [Pk.sidx]), Evo.refl _ _⟩
  ·
    rintro k τ w4 ⟨hi6, hi7, e5⟩
    refine c_seq fun KhK8 hK8 => ?_
    refine c_reg ?_
    refine op_lss rfl rfl rfl rfl ?_
    refine wpList_nil ?_
    refine hK8 _ _ ?_
    refine c_seq fun KhK9 hK9 => ?_
    refine c_if rfl rfl (fun hb10 => ?_) (fun hb10 => ?_)
    · -- (k : Int) < (x0.length : Int)
      refine wp_skip ?_
      refine hK9 _ _ ?_
      refine c_seq fun KhK11 hK11 => ?_
      refine wp_block ?_
      refine c_seq fun KhK12 hK12 => ?_
      refine c_reg ?_
      refine op_move (v := .int .i64 (k : Int)) rfl rfl rfl ?_
      refine op_assign (v := .int .i64 (k : Int)) rfl rfl rfl ?_
      refine wpList_nil ?_
      refine hK12 _ _ ?_
      refine c_seq fun KhK13 hK13 => ?_
      refine c_reg ?_
      refine op_move (v := .string x1) rfl rfl rfl ?_
      refine op_move (v := .slice a_x0 x0.length c_x0) rfl rfl rfl ?_
      refine op_move (v := .int .i64 (k : Int)) rfl rfl rfl ?_
      refine op_indexN (j := k) ty138 ty9 rfl rfl rfl rfl rfl (h_x0.mono (e5.tr M)) (by omega) fun ad14 cs15 u16 hx17 he18 ca19 => ?_
      obtain rfl := he18
      refine op_loadA0 (v := .string u16) ty9 rfl rfl rfl rfl ca19 rfl ?_
      refine op_eqS rfl rfl rfl rfl ?_
      refine wpList_nil ?_
      refine hK13 _ _ ?_
      refine c_if rfl rfl (fun hb20 => ?_) (fun hb20 => ?_)
      · -- x1 = u16
        refine c_seq fun KhK21 hK21 => ?_
        refine c_reg ?_
        refine op_move (v := .int .i64 (k : Int)) rfl rfl rfl ?_
        refine op_assign (v := .int .i64 (k : Int)) rfl rfl rfl ?_
        refine wpList_nil ?_
        refine hK21 _ _ ?_
        refine wp_ret ?_
        have hr22 : (k : Int) = (Pk.sidx x0 x1) := by rw [hi7]; simp [drop_of hx17, Pk.sidxGo, hi6, hb10, hx17, hb20]
        exact ret1 Try.results124 rfl ⟨congrArg (Value.int .i64) hr22, e5.old⟩
      · -- ¬ (x1 = u16)
        refine wp_skip ?_
        refine hK11 _ _ ?_
        refine c_reg ?_
        refine op_add rfl rfl rfl rfl (by omega) ?_
        refine op_move (v := .int .i64 ((k : Int) + 1)) rfl rfl rfl ?_
        refine wpList_nil ?_
        repeat (with_reducible refine inBlock_normal ?_)
        with_reducible refine then_normal ?_
        exact ⟨(k + 1), (by first | omega | (dsimp only; omega)), ⟨(by first | omega | (simp only [List.length_append, List.length_cons, List.length_nil]; omega) | (rw [hi7]; simp [drop_of hx17, Pk.sidxGo, hi6, hb10, hx17, hb20])), (by rw [hi7]; simp [drop_of hx17, Pk.sidxGo, hi6, hb10, hx17, hb20]), (e5.drop (fun b hb => by simp [hb]))⟩, _, rfl, (by repeat first | exact agree.refl _ _ | refine agree.upd rfl ?_ | refine agree.upds rfl ?_ | refine agree.mix rfl ?_), ⟨congrArg (Value.int .i64) (show ((k : Int) + 1) = ((k + 1 : Nat) : Int) by omega), trivial⟩⟩
    · -- ¬ ((k : Int) < (x0.length : Int))
      refine wp_exit ?_
      refine hK2 _ _ ?_
      refine c_seq fun KhK23 hK23 => ?_
      refine c_reg ?_
      refine op_assign (v := .int .i64 (-1)) rfl rfl rfl ?_
      refine wpList_nil ?_
      refine hK23 _ _ ?_
      refine wp_ret ?_
      have hr24 : (-1) = (Pk.sidx x0 x1) := by rw [hi7]; simp [drop_end (l := x0) (k := k) (by first | omega | (rw [bytes_length]; omega)), Pk.sidxGo, hi6, hb10]
      exact ret1 Try.results124 rfl ⟨congrArg (Value.int .i64) hr24, e5.old⟩
set_option maxHeartbeats 1000000 in
theorem c91 {M : List Nat} {w : World} {x0 : List ByteArray} {a_x0 : Option Addr} {c_x0 : Nat} {x1 : ByteArray} (hM : Lo M w) (h_x0 : SL M w a_x0 c_x0 x0) : Calls Try.prog 91 #[.slice a_x0 x0.length c_x0, .string x1] w (Ret fun v w' => v = .bool (Pk.shas x0 x1) ∧ Upd [] w w') := by
  have lh_x0 := h_x0.lt63
  refine enter (l := [.slice a_x0 x0.length c_x0, .string x1]) Try.func91 rfl Try.ntmps91 rfl ?_
  refine c_seq fun KhK1 hK1 => ?_
  refine c_reg ?_
  refine op_assign (v := .bool false) rfl rfl rfl ?_
  refine wpList_nil ?_
  refine hK1 _ _ ?_
  refine c_seq fun KhK2 hK2 => ?_
  refine c_reg ?_
  refine op_move (v := .slice a_x0 x0.length c_x0) rfl rfl rfl ?_
  refine op_move (v := .string x1) rfl rfl rfl ?_
  refine op_call (args := [.slice a_x0 x0.length c_x0, .string x1]) cal124 rfl rfl rfl (c124 ((Evo.refl [] w).loM hM) h_x0) ?_
  rintro _ w3 ⟨rfl, u4⟩
  have e6 := u4.evo0 (m := [])
  refine op_geq rfl rfl rfl rfl ?_
  refine op_assign (v := .bool (decide (0 ≤ (Pk.sidx x0 x1)))) rfl rfl rfl ?_
  refine wpList_nil ?_
  refine hK2 _ _ ?_
  refine wp_ret ?_
  have hr7 : (decide (0 ≤ (Pk.sidx x0 x1))) = (Pk.shas x0 x1) := by simp [ Pk.shas]
  exact ret1 Try.results91 rfl ⟨congrArg Value.bool hr7, e6.old⟩
set_option maxHeartbeats 1000000 in
theorem c106 {M : List Nat} {w : World} {x0 : Pk.Val} {x1 : Int} (hM : Lo M w) (p0 : 0 ≤ x1) (p1 : x1 < 9223372036854775808) : Calls Try.prog 106 #[.agg #[.int .i64 x0.Kind, .int .i64 x0.N], .int .i64 x1] w (Ret fun v w' => v = .bool (Pk.value x0 x1) ∧ Upd [] w w') := by
  refine enter (l := [.agg #[.int .i64 x0.Kind, .int .i64 x0.N], .int .i64 x1]) Try.func106 rfl Try.ntmps106 rfl ?_
  refine c_seq fun KhK1 hK1 => ?_
  refine c_reg ?_
  refine op_box (v := .agg #[.int .i64 x0.Kind, .int .i64 x0.N]) (zs := [.int .i64 x0.Kind, .int .i64 x0.N]) rfl rfl rfl rfl fun β2 w3 hβ4 u5 hz6 hx7 => ?_
  have e8 := u5.evoN (m := []) hβ4 hz6
  refine op_assign (v := .bool false) rfl rfl rfl ?_
  refine wpList_nil ?_
  refine hK1 _ _ ?_
  refine c_seq fun KhK9 hK9 => ?_
  refine c_seq fun KhK10 hK10 => ?_
  refine c_reg ?_
  refine op_fieldB fld51_0 rfl rfl rfl ?_
  refine op_loadB (v := .int .i64 x0.Kind) ty3 rfl rfl rfl rfl hx7 rfl ?_
  refine wpList_nil ?_
  refine hK10 _ _ ?_
  refine wp_block ?_
  refine c_seq fun KhK11 hK11 => ?_
  refine c_reg ?_
  refine op_eq rfl rfl rfl rfl ?_
  refine op_assign (v := .bool (decide (x0.Kind = 1))) rfl rfl rfl ?_
  refine wpList_nil ?_
  refine hK11 _ _ ?_
  refine c_if rfl rfl (fun hb12 => ?_) (fun hb12 => ?_)
  · -- x0.Kind = 1
    refine c_seq fun KhK13 hK13 => ?_
    refine c_reg ?_
    refine op_fieldB fld51_1 rfl rfl rfl ?_
    refine op_loadB (v := .int .i64 x0.N) ty3 rfl rfl rfl rfl hx7 rfl ?_
    refine op_call (args := [.int .i64 x0.N, .int .i64 (-1099511627776), .int .i64 1099511627776]) cal83 rfl rfl rfl (c83 (e8.loM hM)) ?_
    rintro _ w14 ⟨rfl, u15⟩
    have e17 := u15.evo0 (m := (β2 :: []))
    replace hx7 := hx7.mono0 u15
    refine op_assign (v := .bool (Pk.within x0.N (-1099511627776) 1099511627776)) rfl rfl rfl ?_
    refine wpList_nil ?_
    refine hK13 _ _ ?_
    refine wp_ret ?_
    have hr18 : (Pk.within x0.N (-1099511627776) 1099511627776) = (Pk.value x0 x1) := by simp [ Pk.value, hb12]
    exact ret1 Try.results106 rfl ⟨congrArg Value.bool hr18, (e8.trans e17).old⟩
  · -- ¬ (x0.Kind = 1)
    refine c_seq fun KhK19 hK19 => ?_
    refine c_reg ?_
    refine op_eq rfl rfl rfl rfl ?_
    refine op_assign (v := .bool (decide (x0.Kind = 2))) rfl rfl rfl ?_
    refine wpList_nil ?_
    refine hK19 _ _ ?_
    refine c_if rfl rfl (fun hb20 => ?_) (fun hb20 => ?_)
    · -- x0.Kind = 2
      refine c_seq fun KhK21 hK21 => ?_
      refine c_reg ?_
      refine op_fieldB fld51_1 rfl rfl rfl ?_
      refine op_loadB (v := .int .i64 x0.N) ty3 rfl rfl rfl rfl hx7 rfl ?_
      refine op_call (args := [.int .i64 x0.N, .int .i64 0, .int .i64 1]) cal83 rfl rfl rfl (c83 (e8.loM hM)) ?_
      rintro _ w22 ⟨rfl, u23⟩
      have e25 := u23.evo0 (m := (β2 :: []))
      replace hx7 := hx7.mono0 u23
      refine op_assign (v := .bool (Pk.within x0.N 0 1)) rfl rfl rfl ?_
      refine wpList_nil ?_
      refine hK21 _ _ ?_
      refine wp_ret ?_
      have hr26 : (Pk.within x0.N 0 1) = (Pk.value x0 x1) := by simp [ Pk.value, hb12, hb20]
      exact ret1 Try.results106 rfl ⟨congrArg Value.bool hr26, (e8.trans e25).old⟩
    · -- ¬ (x0.Kind = 2)
      refine c_seq fun KhK27 hK27 => ?_
      refine c_reg ?_
      refine op_eq rfl rfl rfl rfl ?_
      refine op_assign (v := .bool (decide (x0.Kind = 3))) rfl rfl rfl ?_
      refine wpList_nil ?_
      refine hK27 _ _ ?_
      refine c_if rfl rfl (fun hb28 => ?_) (fun hb28 => ?_)
      · -- x0.Kind = 3
        refine c_seq fun KhK29 hK29 => ?_
        refine c_reg ?_
        refine op_fieldB fld51_1 rfl rfl rfl ?_
        refine op_loadB (v := .int .i64 x0.N) ty3 rfl rfl rfl rfl hx7 rfl ?_
        refine op_eq rfl rfl rfl rfl ?_
        refine op_assign (v := .bool (decide (x0.N = 0))) rfl rfl rfl ?_
        refine wpList_nil ?_
        refine hK29 _ _ ?_
        refine wp_ret ?_
        have hr30 : (decide (x0.N = 0)) = (Pk.value x0 x1) := by simp [ Pk.value, hb12, hb20, hb28]
        exact ret1 Try.results106 rfl ⟨congrArg Value.bool hr30, e8.old⟩
      · -- ¬ (x0.Kind = 3)
        refine c_seq fun KhK31 hK31 => ?_
        refine c_reg ?_
        refine op_eq rfl rfl rfl rfl ?_
        refine op_assign (v := .bool (decide (x0.Kind = 4))) rfl rfl rfl ?_
        refine wpList_nil ?_
        refine hK31 _ _ ?_
        refine c_if rfl rfl (fun hb32 => ?_) (fun hb32 => ?_)
        · -- x0.Kind = 4
          refine c_seq fun KhK33 hK33 => ?_
          refine c_reg ?_
          refine op_fieldB fld51_1 rfl rfl rfl ?_
          refine op_loadB (v := .int .i64 x0.N) ty3 rfl rfl rfl rfl hx7 rfl ?_
          refine op_move (v := .int .i64 x1) rfl rfl rfl ?_
          refine op_sub rfl rfl rfl rfl (by omega) ?_
          refine op_call (args := [.int .i64 x0.N, .int .i64 0, .int .i64 (x1 - 1)]) cal83 rfl rfl rfl (c83 (e8.loM hM)) ?_
          rintro _ w34 ⟨rfl, u35⟩
          have e37 := u35.evo0 (m := (β2 :: []))
          replace hx7 := hx7.mono0 u35
          refine op_assign (v := .bool (Pk.within x0.N 0 (x1 - 1))) rfl rfl rfl ?_
          refine wpList_nil ?_
          refine hK33 _ _ ?_
          refine wp_ret ?_
          have hr38 : (Pk.within x0.N 0 (x1 - 1)) = (Pk.value x0 x1) := by simp [ Pk.value, hb12, hb20, hb28, hb32]
          exact ret1 Try.results106 rfl ⟨congrArg Value.bool hr38, (e8.trans e37).old⟩
        · -- ¬ (x0.Kind = 4)
          refine wp_skip ?_
          refine hK9 _ _ ?_
          refine c_seq fun KhK39 hK39 => ?_
          refine c_reg ?_
          refine op_assign (v := .bool false) rfl rfl rfl ?_
          refine wpList_nil ?_
          refine hK39 _ _ ?_
          refine wp_ret ?_
          have hr40 : false = (Pk.value x0 x1) := by simp [ Pk.value, hb12, hb20, hb28, hb32]
          exact ret1 Try.results106 rfl ⟨congrArg Value.bool hr40, e8.old⟩
set_option maxHeartbeats 1000000 in
theorem c109 {M : List Nat} {w : World} {x0 : Pk.Val} (hM : Lo M w)  : Calls Try.prog 109 #[.agg #[.int .i64 x0.Kind, .int .i64 x0.N]] w (Ret fun v w' => v = .bool (Pk.refers x0) ∧ Upd [] w w') := by
  refine enter (l := [.agg #[.int .i64 x0.Kind, .int .i64 x0.N]]) Try.func109 rfl Try.ntmps109 rfl ?_
  refine c_seq fun KhK1 hK1 => ?_
  refine c_reg ?_
  refine op_box (v := .agg #[.int .i64 x0.Kind, .int .i64 x0.N]) (zs := [.int .i64 x0.Kind, .int .i64 x0.N]) rfl rfl rfl rfl fun β2 w3 hβ4 u5 hz6 hx7 => ?_
  have e8 := u5.evoN (m := []) hβ4 hz6
  refine op_assign (v := .bool false) rfl rfl rfl ?_
  refine wpList_nil ?_
  refine hK1 _ _ ?_
  refine c_seq fun KhK9 hK9 => ?_
  refine c_reg ?_
  refine op_fieldB fld51_0 rfl rfl rfl ?_
  refine op_loadB (v := .int .i64 x0.Kind) ty3 rfl rfl rfl rfl hx7 rfl ?_
  refine op_eq rfl rfl rfl rfl ?_
  refine op_move (v := .bool (decide (x0.Kind = 3))) rfl rfl rfl ?_
  refine op_part 6 rfl (fun hb10 => ?_) (fun hb10 => ?_)
  · -- x0.Kind = 3
    refine op_not rfl ?_
    refine op_not rfl ?_
    refine op_not rfl ?_
    refine op_pickT (v := .bool true) rfl rfl rfl rfl ?_
    refine op_assign (v := .bool true) rfl rfl rfl ?_
    refine wpList_nil ?_
    refine hK9 _ _ ?_
    refine wp_ret ?_
    have hr11 : true = (Pk.refers x0) := by simp [ Pk.refers, hb10]
    exact ret1 Try.results109 rfl ⟨congrArg Value.bool hr11, e8.old⟩
  · -- ¬ (x0.Kind = 3)
    refine op_fieldB fld51_0 rfl rfl rfl ?_
    refine op_loadB (v := .int .i64 x0.Kind) ty3 rfl rfl rfl rfl hx7 rfl ?_
    refine op_eq rfl rfl rfl rfl ?_
    refine op_pickF (v := .bool (decide (x0.Kind = 4))) rfl rfl rfl rfl ?_
    refine op_assign (v := .bool (decide (x0.Kind = 4))) rfl rfl rfl ?_
    refine wpList_nil ?_
    refine hK9 _ _ ?_
    refine wp_ret ?_
    have hr12 : (decide (x0.Kind = 4)) = (Pk.refers x0) := by simp [ Pk.refers, hb10]
    exact ret1 Try.results109 rfl ⟨congrArg Value.bool hr12, e8.old⟩
set_option maxHeartbeats 1000000 in
theorem c105 {M : List Nat} {w : World} {x0 : Pk.Val} {g : Pk.Graph} {a1_g : Option Addr} {c1_g : Nat} {a2_g : Option Addr} {c2_g : Nat} {b_g : Nat} (hM : Lo M w) (h1_g : SL M w a1_g c1_g g.Nodes) (h2_g : SL M w a2_g c2_g g.Roots) (hb_g : Box w b_g [.slice a1_g g.Nodes.length c1_g, .slice a2_g g.Roots.length c2_g]) : Calls Try.prog 105 #[.agg #[.int .i64 x0.Kind, .int .i64 x0.N], .pointer (some ⟨b_g, 0, none⟩)] w (Ret fun v w' => v = .bool (Pk.badVal x0 g) ∧ Upd [] w w') := by
  have lh1_g := h1_g.lt63
  have lh2_g := h2_g.lt63
  refine enter (l := [.agg #[.int .i64 x0.Kind, .int .i64 x0.N], .pointer (some ⟨b_g, 0, none⟩)]) Try.func105 rfl Try.ntmps105 rfl ?_
  refine c_seq fun KhK1 hK1 => ?_
  refine c_reg ?_
  refine op_box (v := .agg #[.int .i64 x0.Kind, .int .i64 x0.N]) (zs := [.int .i64 x0.Kind, .int .i64 x0.N]) rfl rfl rfl rfl fun β2 w3 hβ4 u5 hz6 hx7 => ?_
  have e8 := u5.evoN (m := []) hβ4 hz6
  have ne9 : b_g ≠ β2 := by have := hb_g.lt; omega
  replace hb_g := hb_g.mono0 u5
  refine op_assign (v := .bool false) rfl rfl rfl ?_
  refine wpList_nil ?_
  refine hK1 _ _ ?_
  refine c_seq fun KhK10 hK10 => ?_
  refine c_reg ?_
  refine op_loadBA (ds := [.int .i64 x0.Kind, .int .i64 x0.N]) ty51 rfl rfl rfl rfl hx7 rfl rfl ?_
  refine op_fieldB fld26_0 rfl rfl rfl ?_
  refine op_loadB (v := .slice a1_g g.Nodes.length c1_g) ty23 rfl rfl rfl rfl hb_g rfl ?_
  refine op_len ty23 rfl rfl rfl ?_
  refine op_call (args := [.agg #[.int .i64 x0.Kind, .int .i64 x0.N], .int .i64 (g.Nodes.length : Int)]) cal106 rfl rfl rfl (c106 (e8.loM hM) (by omega) (by omega)) ?_
  rintro _ w11 ⟨rfl, u12⟩
  have e14 := u12.evo0 (m := (β2 :: []))
  replace hb_g := hb_g.mono0 u12
  replace hx7 := hx7.mono0 u12
  refine op_notB rfl rfl rfl ?_
  refine op_assign (v := .bool (!(Pk.value x0 (g.Nodes.length : Int)))) rfl rfl rfl ?_
  refine wpList_nil ?_
  refine hK10 _ _ ?_
  refine wp_ret ?_
  have hr15 : (!(Pk.value x0 (g.Nodes.length : Int))) = (Pk.badVal x0 g) := by simp [ Pk.badVal]
  exact ret1 Try.results105 rfl ⟨congrArg Value.bool hr15, (e8.trans e14).old⟩
set_option maxHeartbeats 1000000 in
theorem c108 {M : List Nat} {w : World} {x0 : Pk.Val} {f_bad : Nat} {k_bad : List Value} {g_bad : Pk.Val → Bool} {b_bad : Nat} (hM : Lo M w) (cal_bad : Callable Try.prog f_bad) (hf_bad : FH Try.prog f_bad k_bad true (fun b => .bool b) g_bad (fun _ => True) M w) (hb_bad : Box w b_bad [.func (.func f_bad) #[] k_bad.toArray]) : Calls Try.prog 108 #[.agg #[.int .i64 x0.Kind, .int .i64 x0.N], .pointer (some ⟨b_bad, 0, none⟩)] w (Ret fun v w' => v = .bool (Pk.badRoot x0 g_bad) ∧ Upd [] w w') := by
  refine enter (l := [.agg #[.int .i64 x0.Kind, .int .i64 x0.N], .pointer (some ⟨b_bad, 0, none⟩)]) Try.func108 rfl Try.ntmps108 rfl ?_
  refine c_seq fun KhK1 hK1 => ?_
  refine c_reg ?_
  refine op_box (v := .agg #[.int .i64 x0.Kind, .int .i64 x0.N]) (zs := [.int .i64 x0.Kind, .int .i64 x0.N]) rfl rfl rfl rfl fun β2 w3 hβ4 u5 hz6 hx7 => ?_
  have e8 := u5.evoN (m := []) hβ4 hz6
  have ne9 : b_bad ≠ β2 := by have := hb_bad.lt; omega
  replace hb_bad := hb_bad.mono0 u5
  refine op_assign (v := .bool false) rfl rfl rfl ?_
  refine wpList_nil ?_
  refine hK1 _ _ ?_
  refine c_seq fun KhK10 hK10 => ?_
  refine c_reg ?_
  refine op_loadB (v := .func (.func f_bad) #[] k_bad.toArray) ty158 rfl rfl rfl rfl hb_bad rfl ?_
  refine op_loadBA (ds := [.int .i64 x0.Kind, .int .i64 x0.N]) ty51 rfl rfl rfl rfl hx7 rfl rfl ?_
  refine op_callV (args := (.agg #[.int .i64 x0.Kind, .int .i64 x0.N]) :: k_bad) cal_bad rfl rfl rfl rfl (hf_bad.up (β2 :: []) _ [.int .i64 x0.Kind, .int .i64 x0.N] x0 e8.old (trivial) rfl) ?_
  rintro _ w11 ⟨rfl, u12⟩
  have e14 := u12.evo0 (m := (β2 :: []))
  replace hb_bad := hb_bad.mono0 u12
  replace hx7 := hx7.mono0 u12
  refine op_move (v := .bool (g_bad x0)) rfl rfl rfl ?_
  refine op_partB 7 rfl (fun hb15 => ?_) (fun hb15 => ?_)
  · -- (g_bad x0) = true
    refine op_not rfl ?_
    refine op_not rfl ?_
    refine op_not rfl ?_
    refine op_pickT (v := .bool true) rfl rfl rfl rfl ?_
    refine op_assign (v := .bool true) rfl rfl rfl ?_
    refine wpList_nil ?_
    refine hK10 _ _ ?_
    refine wp_ret ?_
    have hr16 : true = (Pk.badRoot x0 g_bad) := by simp [ Pk.badRoot, hb15]
    exact ret1 Try.results108 rfl ⟨congrArg Value.bool hr16, (e8.trans e14).old⟩
  · -- (g_bad x0) = false
    refine op_loadBA (ds := [.int .i64 x0.Kind, .int .i64 x0.N]) ty51 rfl rfl rfl rfl hx7 rfl rfl ?_
    refine op_call (args := [.agg #[.int .i64 x0.Kind, .int .i64 x0.N]]) cal109 rfl rfl rfl (c109 ((e8.trans e14).loM hM)) ?_
    rintro _ w17 ⟨rfl, u18⟩
    have e20 := u18.evo0 (m := (β2 :: []))
    replace hb_bad := hb_bad.mono0 u18
    replace hx7 := hx7.mono0 u18
    refine op_notB rfl rfl rfl ?_
    refine op_pickF (v := .bool (!(Pk.refers x0))) rfl rfl rfl rfl ?_
    refine op_assign (v := .bool (!(Pk.refers x0))) rfl rfl rfl ?_
    refine wpList_nil ?_
    refine hK10 _ _ ?_
    refine wp_ret ?_
    have hr21 : (!(Pk.refers x0)) = (Pk.badRoot x0 g_bad) := by simp [ Pk.badRoot, hb15]
    exact ret1 Try.results108 rfl ⟨congrArg Value.bool hr21, ((e8.trans e14).trans e20).old⟩
set_option maxHeartbeats 1000000 in
theorem c70 {M : List Nat} {w : World} {x0 : Pk.Graph} {a1_x0 : Option Addr} {c1_x0 : Nat} {a2_x0 : Option Addr} {c2_x0 : Nat} (hM : Lo M w) (h1_x0 : SL M w a1_x0 c1_x0 x0.Nodes) (h2_x0 : SL M w a2_x0 c2_x0 x0.Roots) : Calls Try.prog 70 #[.agg #[.slice a1_x0 x0.Nodes.length c1_x0, .slice a2_x0 x0.Roots.length c2_x0]] w (Ret fun v w' => v = .int .i64 (Pk.formed x0) ∧ Upd [] w w') := by
  have lh1_x0 := h1_x0.lt63
  have lh2_x0 := h2_x0.lt63
  refine enter (l := [.agg #[.slice a1_x0 x0.Nodes.length c1_x0, .slice a2_x0 x0.Roots.length c2_x0]]) Try.func70 rfl Try.ntmps70 rfl ?_
  refine c_seq fun KhK1 hK1 => ?_
  refine c_reg ?_
  refine op_box (v := .agg #[.slice a1_x0 x0.Nodes.length c1_x0, .slice a2_x0 x0.Roots.length c2_x0]) (zs := [.slice a1_x0 x0.Nodes.length c1_x0, .slice a2_x0 x0.Roots.length c2_x0]) rfl rfl rfl rfl fun β2 w3 hβ4 u5 hz6 hx7 => ?_
  have e8 := u5.evoN (m := []) hβ4 hz6
  refine op_assign (v := .int .i64 0) rfl rfl rfl ?_
  refine wpList_nil ?_
  refine hK1 _ _ ?_
  refine c_seq fun KhK9 hK9 => ?_
  refine c_seq fun KhK10 hK10 => ?_
  refine c_reg ?_
  refine op_fieldB fld26_0 rfl rfl rfl ?_
  refine op_loadB (v := .slice a1_x0 x0.Nodes.length c1_x0) ty23 rfl rfl rfl rfl hx7 rfl ?_
  refine op_len ty23 rfl rfl rfl ?_
  refine op_gtr rfl rfl rfl rfl ?_
  refine op_move (v := .bool (decide (400 < (x0.Nodes.length : Int)))) rfl rfl rfl ?_
  refine op_part 12 rfl (fun hb11 => ?_) (fun hb11 => ?_)
  · -- 400 < (x0.Nodes.length : Int)
    refine op_not rfl ?_
    refine op_not rfl ?_
    refine op_not rfl ?_
    refine op_not rfl ?_
    refine op_pickT (v := .bool true) rfl rfl rfl rfl ?_
    refine wpList_nil ?_
    refine hK10 _ _ ?_
    refine c_ifT rfl rfl ?_
    refine c_seq fun KhK12 hK12 => ?_
    refine c_reg ?_
    refine op_assign (v := .int .i64 3) rfl rfl rfl ?_
    refine wpList_nil ?_
    refine hK12 _ _ ?_
    refine wp_ret ?_
    have hr13 : 3 = (Pk.formed x0) := by simp [ Pk.formedGo, Pk.formedGo3, Pk.formed, hb11]
    exact ret1 Try.results70 rfl ⟨congrArg (Value.int .i64) hr13, e8.old⟩
  · -- ¬ (400 < (x0.Nodes.length : Int))
    refine op_fieldB fld26_1 rfl rfl rfl ?_
    refine op_loadB (v := .slice a2_x0 x0.Roots.length c2_x0) ty24 rfl rfl rfl rfl hx7 rfl ?_
    refine op_len ty24 rfl rfl rfl ?_
    refine op_gtr rfl rfl rfl rfl ?_
    refine op_pickF (v := .bool (decide (60 < (x0.Roots.length : Int)))) rfl rfl rfl rfl ?_
    refine wpList_nil ?_
    refine hK10 _ _ ?_
    refine c_if rfl rfl (fun hb14 => ?_) (fun hb14 => ?_)
    · -- 60 < (x0.Roots.length : Int)
      refine c_seq fun KhK15 hK15 => ?_
      refine c_reg ?_
      refine op_assign (v := .int .i64 3) rfl rfl rfl ?_
      refine wpList_nil ?_
      refine hK15 _ _ ?_
      refine wp_ret ?_
      have hr16 : 3 = (Pk.formed x0) := by simp [ Pk.formedGo, Pk.formedGo3, Pk.formed, hb11, hb14]
      exact ret1 Try.results70 rfl ⟨congrArg (Value.int .i64) hr16, e8.old⟩
    · -- ¬ (60 < (x0.Roots.length : Int))
      refine wp_skip ?_
      refine hK9 _ _ ?_
      refine c_seq fun KhK17 hK17 => ?_
      refine c_seq fun KhK18 hK18 => ?_
      refine c_reg ?_
      refine op_fieldB fld26_0 rfl rfl rfl ?_
      refine op_loadB (v := .slice a1_x0 x0.Nodes.length c1_x0) ty23 rfl rfl rfl rfl hx7 rfl ?_
      refine op_len ty23 rfl rfl rfl ?_
      refine op_move (v := .int .i64 0) rfl rfl rfl ?_
      refine wpList_nil ?_
      refine hK18 _ _ ?_
      refine wp_block ?_
      refine c_loop (X := Nat) [2, 4, 21, 22, 23, 24, 25, 26, 27, 28, 29] (fun k => [(21, .int .i64 (k : Int))]) (fun k w1 => (k ≤ x0.Nodes.length) ∧ (Pk.formed x0 = Pk.formedGo x0 (x0.Nodes.drop k)) ∧ Evo (β2 :: []) w3 (β2 :: []) w1 ∧ Box w1 β2 [.slice a1_x0 x0.Nodes.length c1_x0, .slice a2_x0 x0.Roots.length c2_x0]) (fun k => x0.Nodes.length - k) (0) ⟨congrArg (Value.int .i64) (show 0 = ((0 : Nat) : Int) by omega), trivial⟩ ?_ ?_
      ·
        exact ⟨(by first | omega | simp), (by simp [Pk.formed, hb11, hb14]), Evo.refl _ _, hx7⟩
      ·
        rintro k τ w19 ⟨hi21, hi22, e20, hx7⟩
        refine c_seq fun KhK23 hK23 => ?_
        refine c_reg ?_
        refine op_lss rfl rfl rfl rfl ?_
        refine wpList_nil ?_
        refine hK23 _ _ ?_
        refine c_seq fun KhK24 hK24 => ?_
        refine c_if rfl rfl (fun hb25 => ?_) (fun hb25 => ?_)
        · -- (k : Int) < (x0.Nodes.length : Int)
          refine wp_skip ?_
          refine hK24 _ _ ?_
          refine c_seq fun KhK26 hK26 => ?_
          refine wp_block ?_
          refine c_seq fun KhK27 hK27 => ?_
          refine c_reg ?_
          refine op_indexN (j := k) ty23 ty49 rfl rfl rfl rfl rfl (h1_x0.mono ((e8.trans e20).tr M)) (by omega) fun ad28 cs29 u30 hx31 he32 ca33 => ?_
          obtain ⟨a_u30, c_u30, rfl, h_u30⟩ := he32
          have lh_u30 := h_u30.lt63
          refine op_loadAA ty49 rfl rfl rfl rfl ca33 rfl ?_
          refine op_alloc (zs := [.string (⟨#[]⟩ : ByteArray), .slice none 0 0]) ty49 rfl rfl fun β34 w35 hβ36 u37 hz38 hx39 => ?_
          have e40 := u37.evoN (m := (β2 :: [])) hβ36 hz38
          have ne41 : β2 ≠ β34 := by have := hx7.lt; omega
          replace hx7 := hx7.mono0 u37
          refine op_store (v := .agg #[.string u30.Class, .slice a_u30 u30.Vals.length c_u30]) (cs' := [.string u30.Class, .slice a_u30 u30.Vals.length c_u30]) ty49 rfl rfl rfl rfl hx39 rfl rfl rfl fun w42 u43 hz44 hx39' => ?_
          have e45 := u43.evo (m := (β34 :: (β2 :: []))) (List.forall_mem_singleton.2 List.mem_cons_self)
          replace hx7 := hx7.mono u43 (fun h => (ne41) (List.mem_singleton.1 h))
          refine wpList_nil ?_
          refine hK27 _ _ ?_
          refine c_seq fun KhK46 hK46 => ?_
          refine c_reg ?_
          refine op_fieldB fld49_1 rfl rfl rfl ?_
          refine op_loadB (v := .slice a_u30 u30.Vals.length c_u30) ty24 rfl rfl rfl rfl hx39' rfl ?_
          refine op_len ty24 rfl rfl rfl ?_
          refine op_gtr rfl rfl rfl rfl ?_
          refine wpList_nil ?_
          refine hK46 _ _ ?_
          refine c_if rfl rfl (fun hb47 => ?_) (fun hb47 => ?_)
          · -- 30 < (u30.Vals.length : Int)
            refine c_seq fun KhK48 hK48 => ?_
            refine c_reg ?_
            refine op_assign (v := .int .i64 3) rfl rfl rfl ?_
            refine wpList_nil ?_
            refine hK48 _ _ ?_
            refine wp_ret ?_
            have hr49 : 3 = (Pk.formed x0) := by rw [hi22]; simp [drop_of hx31, Pk.formedGo, Pk.formedGo3, hb11, hb14, hi21, hb25, hx31, hb47]
            exact ret1 Try.results70 rfl ⟨congrArg (Value.int .i64) hr49, (((e8.trans e20).trans e40).trans e45).old⟩
          · -- ¬ (30 < (u30.Vals.length : Int))
            refine wp_skip ?_
            refine hK26 _ _ ?_
            refine c_reg ?_
            refine op_add rfl rfl rfl rfl (by omega) ?_
            refine op_move (v := .int .i64 ((k : Int) + 1)) rfl rfl rfl ?_
            refine wpList_nil ?_
            repeat (with_reducible refine inBlock_normal ?_)
            with_reducible refine then_normal ?_
            exact ⟨(k + 1), (by first | omega | (dsimp only; omega)), ⟨(by first | omega | (simp only [List.length_append, List.length_cons, List.length_nil]; omega) | (rw [hi22]; simp [drop_of hx31, Pk.formedGo, Pk.formedGo3, hb11, hb14, hi21, hb25, hx31, hb47])), (by rw [hi22]; simp [drop_of hx31, Pk.formedGo, Pk.formedGo3, hb11, hb14, hi21, hb25, hx31, hb47]), (((e20.trans e40).trans e45).drop (fun b hb => by simp [hb])), hx7⟩, _, rfl, (by repeat first | exact agree.refl _ _ | refine agree.upd rfl ?_ | refine agree.upds rfl ?_ | refine agree.mix rfl ?_), ⟨congrArg (Value.int .i64) (show ((k : Int) + 1) = ((k + 1 : Nat) : Int) by omega), trivial⟩⟩
        · -- ¬ ((k : Int) < (x0.Nodes.length : Int))
          refine wp_exit ?_
          refine hK17 _ _ ?_
          refine c_seq fun KhK50 hK50 => ?_
          refine c_reg ?_
          refine op_makeFunc (vs := [.pointer (some ⟨β2, 0, none⟩)]) rfl rfl rfl ?_
          refine op_alloc (zs := [.nilFunc]) ty158 rfl rfl fun β51 w52 hβ53 u54 hz55 hx56 => ?_
          have e57 := u54.evoN (m := (β2 :: [])) hβ53 hz55
          have ne58 : β2 ≠ β51 := by have := hx7.lt; omega
          replace hx7 := hx7.mono0 u54
          refine op_store (v := .func (.func 105) #[] #[.pointer (some ⟨β2, 0, none⟩)]) (cs' := [.func (.func 105) #[] #[.pointer (some ⟨β2, 0, none⟩)]]) ty158 rfl rfl rfl rfl hx56 rfl rfl rfl fun w59 u60 hz61 hx56' => ?_
          have e62 := u60.evo (m := (β51 :: (β2 :: []))) (List.forall_mem_singleton.2 List.mem_cons_self)
          replace hx7 := hx7.mono u60 (fun h => (ne58) (List.mem_singleton.1 h))
          refine wpList_nil ?_
          refine hK50 _ _ ?_
          refine c_seq fun KhK63 hK63 => ?_
          refine c_seq fun KhK64 hK64 => ?_
          refine c_reg ?_
          refine op_fieldB fld26_0 rfl rfl rfl ?_
          refine op_loadB (v := .slice a1_x0 x0.Nodes.length c1_x0) ty23 rfl rfl rfl rfl hx7 rfl ?_
          refine op_len ty23 rfl rfl rfl ?_
          refine op_move (v := .int .i64 0) rfl rfl rfl ?_
          refine wpList_nil ?_
          refine hK64 _ _ ?_
          refine wp_block ?_
          refine c_loop (X := Nat) [2, 7, 34, 35, 36, 37, 38, 39, 40, 41, 42] (fun j => [(34, .int .i64 (j : Int))]) (fun j w1 => (j ≤ x0.Nodes.length) ∧ (Pk.formed x0 = Pk.formedGo3 x0 (x0.Nodes.drop j)) ∧ Evo (β51 :: (β2 :: [])) w59 (β51 :: (β2 :: [])) w1 ∧ Box w1 β2 [.slice a1_x0 x0.Nodes.length c1_x0, .slice a2_x0 x0.Roots.length c2_x0] ∧ Box w1 β51 [.func (.func 105) #[] #[.pointer (some ⟨β2, 0, none⟩)]]) (fun j => x0.Nodes.length - j) (0) ⟨congrArg (Value.int .i64) (show 0 = ((0 : Nat) : Int) by omega), trivial⟩ ?_ ?_
          ·
            exact ⟨(by first | omega | simp), (by rw [hi22]; simp [drop_end (l := x0.Nodes) (k := k) (by first | omega | (rw [bytes_length]; omega)), Pk.formedGo]), Evo.refl _ _, hx7, hx56'⟩
          ·
            rintro j τ w65 ⟨hi67, hi68, e66, hx7, hx56'⟩
            refine c_seq fun KhK69 hK69 => ?_
            refine c_reg ?_
            refine op_lss rfl rfl rfl rfl ?_
            refine wpList_nil ?_
            refine hK69 _ _ ?_
            refine c_seq fun KhK70 hK70 => ?_
            refine c_if rfl rfl (fun hb71 => ?_) (fun hb71 => ?_)
            · -- (j : Int) < (x0.Nodes.length : Int)
              refine wp_skip ?_
              refine hK70 _ _ ?_
              refine c_seq fun KhK72 hK72 => ?_
              refine wp_block ?_
              refine c_seq fun KhK73 hK73 => ?_
              refine c_reg ?_
              refine op_indexN (j := j) ty23 ty49 rfl rfl rfl rfl rfl (h1_x0.mono (((((e8.trans e20).trans e57).trans e62).trans e66).tr M)) (by omega) fun ad74 cs75 u76 hx77 he78 ca79 => ?_
              obtain ⟨a_u76, c_u76, rfl, h_u76⟩ := he78
              have lh_u76 := h_u76.lt63
              refine op_loadAA ty49 rfl rfl rfl rfl ca79 rfl ?_
              refine op_alloc (zs := [.string (⟨#[]⟩ : ByteArray), .slice none 0 0]) ty49 rfl rfl fun β80 w81 hβ82 u83 hz84 hx85 => ?_
              have e86 := u83.evoN (m := (β51 :: (β2 :: []))) hβ82 hz84
              have ne87 : β2 ≠ β80 := by have := hx7.lt; omega
              replace hx7 := hx7.mono0 u83
              have ne88 : β51 ≠ β80 := by have := hx56'.lt; omega
              replace hx56' := hx56'.mono0 u83
              refine op_store (v := .agg #[.string u76.Class, .slice a_u76 u76.Vals.length c_u76]) (cs' := [.string u76.Class, .slice a_u76 u76.Vals.length c_u76]) ty49 rfl rfl rfl rfl hx85 rfl rfl rfl fun w89 u90 hz91 hx85' => ?_
              have e92 := u90.evo (m := (β80 :: (β51 :: (β2 :: [])))) (List.forall_mem_singleton.2 List.mem_cons_self)
              replace hx7 := hx7.mono u90 (fun h => (ne87) (List.mem_singleton.1 h))
              replace hx56' := hx56'.mono u90 (fun h => (ne88) (List.mem_singleton.1 h))
              refine wpList_nil ?_
              refine hK73 _ _ ?_
              refine c_seq fun KhK93 hK93 => ?_
              refine c_reg ?_
              refine op_fieldB fld49_1 rfl rfl rfl ?_
              refine op_loadB (v := .slice a_u76 u76.Vals.length c_u76) ty24 rfl rfl rfl rfl hx85' rfl ?_
              refine op_loadB (v := .func (.func 105) #[] #[.pointer (some ⟨β2, 0, none⟩)]) ty158 rfl rfl rfl rfl hx56' rfl ?_
              refine op_call (args := [.slice a_u76 u76.Vals.length c_u76, .func (.func 105) #[] #[.pointer (some ⟨β2, 0, none⟩)]]) cal107 rfl rfl rfl (c107 (((((((e8.trans e20).trans e57).trans e62).trans e66).trans e86).trans e92).loM hM) (h_u76.mono ((e86.trans e92).tr M)) cal105 (fun w1 cs_y0 y0 hu hD he_y0 => by obtain rfl := he_y0; exact c105 ((((((((e8.trans e20).trans e57).trans e62).trans e66).trans e86).trans e92).loM hM).mono hu.size) (h1_x0.mono ((((((((e8.trans e20).trans e57).trans e62).trans e66).trans e86).trans e92).trans hu.evo0).tr M)) (h2_x0.mono ((((((((e8.trans e20).trans e57).trans e62).trans e66).trans e86).trans e92).trans hu.evo0).tr M)) (hx7.mono0 hu))) ?_
              rintro _ w94 ⟨rfl, u95⟩
              have e97 := u95.evo0 (m := (β80 :: (β51 :: (β2 :: []))))
              replace hx7 := hx7.mono0 u95
              replace hx56' := hx56'.mono0 u95
              replace hx85' := hx85'.mono0 u95
              refine wpList_nil ?_
              refine hK93 _ _ ?_
              refine c_ifB rfl rfl (fun hb98 => ?_) (fun hb98 => ?_)
              · -- (Pk.contains u76.Vals (fun (y0 : Pk.Val) => Pk.badVal y0 x0)) = true
                refine c_seq fun KhK99 hK99 => ?_
                refine c_reg ?_
                refine op_assign (v := .int .i64 2) rfl rfl rfl ?_
                refine wpList_nil ?_
                refine hK99 _ _ ?_
                refine wp_ret ?_
                have hr100 : 2 = (Pk.formed x0) := by rw [hi68]; simp [drop_of hx77, Pk.formedGo, Pk.formedGo3, hb11, hb14, hi21, hb25, hi67, hb71, hx77, hb98]
                exact ret1 Try.results70 rfl ⟨congrArg (Value.int .i64) hr100, (((((((e8.trans e20).trans e57).trans e62).trans e66).trans e86).trans e92).trans e97).old⟩
              · -- (Pk.contains u76.Vals (fun (y0 : Pk.Val) => Pk.badVal y0 x0)) = false
                refine wp_skip ?_
                refine hK72 _ _ ?_
                refine c_reg ?_
                refine op_add rfl rfl rfl rfl (by omega) ?_
                refine op_move (v := .int .i64 ((j : Int) + 1)) rfl rfl rfl ?_
                refine wpList_nil ?_
                repeat (with_reducible refine inBlock_normal ?_)
                with_reducible refine then_normal ?_
                exact ⟨(j + 1), (by first | omega | (dsimp only; omega)), ⟨(by first | omega | (simp only [List.length_append, List.length_cons, List.length_nil]; omega) | (rw [hi68]; simp [drop_of hx77, Pk.formedGo, Pk.formedGo3, hb11, hb14, hi21, hb25, hi67, hb71, hx77, hb98])), (by rw [hi68]; simp [drop_of hx77, Pk.formedGo, Pk.formedGo3, hb11, hb14, hi21, hb25, hi67, hb71, hx77, hb98]), ((((e66.trans e86).trans e92).trans e97).drop (fun b hb => by simp [hb])), hx7, hx56'⟩, _, rfl, (by repeat first | exact agree.refl _ _ | refine agree.upd rfl ?_ | refine agree.upds rfl ?_ | refine agree.mix rfl ?_), ⟨congrArg (Value.int .i64) (show ((j : Int) + 1) = ((j + 1 : Nat) : Int) by omega), trivial⟩⟩
            · -- ¬ ((j : Int) < (x0.Nodes.length : Int))
              refine wp_exit ?_
              refine hK63 _ _ ?_
              refine c_seq fun KhK101 hK101 => ?_
              refine c_reg ?_
              refine op_fieldB fld26_1 rfl rfl rfl ?_
              refine op_loadB (v := .slice a2_x0 x0.Roots.length c2_x0) ty24 rfl rfl rfl rfl hx7 rfl ?_
              refine op_makeFunc (vs := [.pointer (some ⟨β51, 0, none⟩)]) rfl rfl rfl ?_
              refine op_call (args := [.slice a2_x0 x0.Roots.length c2_x0, .func (.func 108) #[] #[.pointer (some ⟨β51, 0, none⟩)]]) cal107 rfl rfl rfl (c107 (((((e8.trans e20).trans e57).trans e62).trans e66).loM hM) (h2_x0.mono (((((e8.trans e20).trans e57).trans e62).trans e66).tr M)) cal108 (fun w1 cs_y0 y0 hu hD he_y0 => by obtain rfl := he_y0; exact c108 ((((((e8.trans e20).trans e57).trans e62).trans e66).loM hM).mono hu.size) cal105 (FH.mono ((fun w1 cs_y0 y0 hu hD he_y0 => by obtain rfl := he_y0; exact c105 ((((((e8.trans e20).trans e57).trans e62).trans e66).loM hM).mono hu.size) (h1_x0.mono ((((((e8.trans e20).trans e57).trans e62).trans e66).trans hu.evo0).tr M)) (h2_x0.mono ((((((e8.trans e20).trans e57).trans e62).trans e66).trans hu.evo0).tr M)) (hx7.mono0 hu))) hu) (hx56'.mono0 hu))) ?_
              rintro _ w102 ⟨rfl, u103⟩
              have e105 := u103.evo0 (m := (β51 :: (β2 :: [])))
              replace hx7 := hx7.mono0 u103
              replace hx56' := hx56'.mono0 u103
              refine op_notB rfl rfl rfl ?_
              refine op_call (args := [.bool (!(Pk.contains x0.Roots (fun (y0 : Pk.Val) => Pk.badRoot y0 (fun (y0 : Pk.Val) => Pk.badVal y0 x0)))), .int .i64 2]) cal50 rfl rfl rfl (c50 ((((((e8.trans e20).trans e57).trans e62).trans e66).trans e105).loM hM)) ?_
              rintro _ w106 ⟨rfl, u107⟩
              have e109 := u107.evo0 (m := (β51 :: (β2 :: [])))
              replace hx7 := hx7.mono0 u107
              replace hx56' := hx56'.mono0 u107
              refine op_assign (v := .int .i64 (Pk.unlessE (!(Pk.contains x0.Roots (fun (y0 : Pk.Val) => Pk.badRoot y0 (fun (y0 : Pk.Val) => Pk.badVal y0 x0)))) 2)) rfl rfl rfl ?_
              refine wpList_nil ?_
              refine hK101 _ _ ?_
              refine wp_ret ?_
              have hr110 : (Pk.unlessE (!(Pk.contains x0.Roots (fun (y0 : Pk.Val) => Pk.badRoot y0 (fun (y0 : Pk.Val) => Pk.badVal y0 x0)))) 2) = (Pk.formed x0) := by rw [hi68]; simp [drop_end (l := x0.Nodes) (k := j) (by first | omega | (rw [bytes_length]; omega)), Pk.formedGo, Pk.formedGo3, hb11, hb14, hi21, hb25, hi67, hb71]
              exact ret1 Try.results70 rfl ⟨congrArg (Value.int .i64) hr110, ((((((e8.trans e20).trans e57).trans e62).trans e66).trans e105).trans e109).old⟩
set_option maxHeartbeats 1000000 in
theorem c121 {M : List Nat} {w : World} {x0 : Pk.Graph} {a1_x0 : Option Addr} {c1_x0 : Nat} {a2_x0 : Option Addr} {c2_x0 : Nat} {x1 : Pk.Col} {x2 : Pk.Val} (hM : Lo M w) (h1_x0 : SL M w a1_x0 c1_x0 x0.Nodes) (h2_x0 : SL M w a2_x0 c2_x0 x0.Roots) (p0 : x2.Kind = 4 → 0 ≤ x2.N ∧ x2.N < x0.Nodes.length) : Calls Try.prog 121 #[.agg #[.slice a1_x0 x0.Nodes.length c1_x0, .slice a2_x0 x0.Roots.length c2_x0], .agg #[.string x1.Name, .int .i64 x1.Kind, .string x1.Class], .agg #[.int .i64 x2.Kind, .int .i64 x2.N]] w (Ret fun v w' => v = .bool (Pk.suits x0 x1 x2) ∧ Upd [] w w') := by
  have lh1_x0 := h1_x0.lt63
  have lh2_x0 := h2_x0.lt63
  refine enter (l := [.agg #[.slice a1_x0 x0.Nodes.length c1_x0, .slice a2_x0 x0.Roots.length c2_x0], .agg #[.string x1.Name, .int .i64 x1.Kind, .string x1.Class], .agg #[.int .i64 x2.Kind, .int .i64 x2.N]]) Try.func121 rfl Try.ntmps121 rfl ?_
  refine c_seq fun KhK1 hK1 => ?_
  refine c_reg ?_
  refine op_box (v := .agg #[.slice a1_x0 x0.Nodes.length c1_x0, .slice a2_x0 x0.Roots.length c2_x0]) (zs := [.slice a1_x0 x0.Nodes.length c1_x0, .slice a2_x0 x0.Roots.length c2_x0]) rfl rfl rfl rfl fun β2 w3 hβ4 u5 hz6 hx7 => ?_
  have e8 := u5.evoN (m := []) hβ4 hz6
  refine op_box (v := .agg #[.string x1.Name, .int .i64 x1.Kind, .string x1.Class]) (zs := [.string x1.Name, .int .i64 x1.Kind, .string x1.Class]) rfl rfl rfl rfl fun β9 w10 hβ11 u12 hz13 hx14 => ?_
  have e15 := u12.evoN (m := (β2 :: [])) hβ11 hz13
  have ne16 : β2 ≠ β9 := by have := hx7.lt; omega
  replace hx7 := hx7.mono0 u12
  refine op_box (v := .agg #[.int .i64 x2.Kind, .int .i64 x2.N]) (zs := [.int .i64 x2.Kind, .int .i64 x2.N]) rfl rfl rfl rfl fun β17 w18 hβ19 u20 hz21 hx22 => ?_
  have e23 := u20.evoN (m := (β9 :: (β2 :: []))) hβ19 hz21
  have ne24 : β2 ≠ β17 := by have := hx7.lt; omega
  replace hx7 := hx7.mono0 u20
  have ne25 : β9 ≠ β17 := by have := hx14.lt; omega
  replace hx14 := hx14.mono0 u20
  refine op_assign (v := .bool false) rfl rfl rfl ?_
  refine wpList_nil ?_
  refine hK1 _ _ ?_
  refine c_seq fun KhK26 hK26 => ?_
  refine c_seq fun KhK27 hK27 => ?_
  refine c_reg ?_
  refine op_fieldB fld93_1 rfl rfl rfl ?_
  refine op_loadB (v := .int .i64 x1.Kind) ty3 rfl rfl rfl rfl hx14 rfl ?_
  refine wpList_nil ?_
  refine hK27 _ _ ?_
  refine wp_block ?_
  refine c_seq fun KhK28 hK28 => ?_
  refine c_reg ?_
  refine op_eq rfl rfl rfl rfl ?_
  refine op_assign (v := .bool (decide (x1.Kind = 1))) rfl rfl rfl ?_
  refine wpList_nil ?_
  refine hK28 _ _ ?_
  refine c_if rfl rfl (fun hb29 => ?_) (fun hb29 => ?_)
  · -- x1.Kind = 1
    refine c_seq fun KhK30 hK30 => ?_
    refine c_reg ?_
    refine op_fieldB fld51_0 rfl rfl rfl ?_
    refine op_loadB (v := .int .i64 x2.Kind) ty3 rfl rfl rfl rfl hx22 rfl ?_
    refine op_eq rfl rfl rfl rfl ?_
    refine op_assign (v := .bool (decide (x2.Kind = 1))) rfl rfl rfl ?_
    refine wpList_nil ?_
    refine hK30 _ _ ?_
    refine wp_ret ?_
    have hr31 : (decide (x2.Kind = 1)) = (Pk.suits x0 x1 x2) := by simp [ Pk.suits, Pk.strANY, Pk.suits, hb29]
    exact ret1 Try.results121 rfl ⟨congrArg Value.bool hr31, ((e8.trans e15).trans e23).old⟩
  · -- ¬ (x1.Kind = 1)
    refine c_seq fun KhK32 hK32 => ?_
    refine c_reg ?_
    refine op_eq rfl rfl rfl rfl ?_
    refine op_assign (v := .bool (decide (x1.Kind = 2))) rfl rfl rfl ?_
    refine wpList_nil ?_
    refine hK32 _ _ ?_
    refine c_if rfl rfl (fun hb33 => ?_) (fun hb33 => ?_)
    · -- x1.Kind = 2
      refine c_seq fun KhK34 hK34 => ?_
      refine c_reg ?_
      refine op_fieldB fld51_0 rfl rfl rfl ?_
      refine op_loadB (v := .int .i64 x2.Kind) ty3 rfl rfl rfl rfl hx22 rfl ?_
      refine op_eq rfl rfl rfl rfl ?_
      refine op_assign (v := .bool (decide (x2.Kind = 2))) rfl rfl rfl ?_
      refine wpList_nil ?_
      refine hK34 _ _ ?_
      refine wp_ret ?_
      have hr35 : (decide (x2.Kind = 2)) = (Pk.suits x0 x1 x2) := by simp [ Pk.suits, Pk.strANY, Pk.suits, hb29, hb33]
      exact ret1 Try.results121 rfl ⟨congrArg Value.bool hr35, ((e8.trans e15).trans e23).old⟩
    · -- ¬ (x1.Kind = 2)
      refine wp_skip ?_
      refine hK26 _ _ ?_
      refine c_seq fun KhK36 hK36 => ?_
      refine c_quiet mixed (by kernel_rfl) ?_
      refine q_val (v := .pointer (some ⟨β17, 0, none⟩)) rfl rfl rfl (fun wq37 uq38 => op_fieldB fld51_0 rfl rfl rfl q1) ?_
      refine q_val (v := .int .i64 x2.Kind) rfl rfl rfl (fun wq39 uq40 => op_loadB (v := .int .i64 x2.Kind) ty3 rfl rfl rfl rfl (hx22.mono0 uq40) rfl q1) ?_
      refine q_val (v := .bool (decide (x2.Kind = 3))) rfl rfl rfl (fun wq41 uq42 => op_eq rfl rfl rfl rfl q1) ?_
      refine q_val (v := .bool (decide (x2.Kind = 3))) rfl rfl rfl (fun wq43 uq44 => op_move (v := .bool (decide (x2.Kind = 3))) rfl rfl rfl q1) ?_
      refine q_part 22 rfl (fun hb45 => ?_) (fun hb45 => ?_)
      · -- x2.Kind = 3
        refine q_not rfl ?_
        refine q_not rfl ?_
        refine q_not rfl ?_
        refine q_not rfl ?_
        refine q_not rfl ?_
        refine q_not rfl ?_
        refine q_not rfl ?_
        refine q_not rfl ?_
        refine q_not rfl ?_
        refine q_not rfl ?_
        refine q_not rfl ?_
        refine q_not rfl ?_
        refine q_not rfl ?_
        refine q_not rfl ?_
        refine q_not rfl ?_
        refine q_not rfl ?_
        refine q_not rfl ?_
        refine q_not rfl ?_
        refine q_not rfl ?_
        refine q_not rfl ?_
        refine q_val (v := .bool true) rfl rfl rfl (fun wq46 uq47 => op_pickT (v := .bool true) rfl rfl rfl rfl q1) ?_
        refine q_val (v := .bool true) rfl rfl rfl (fun wq48 uq49 => op_assign (v := .bool true) rfl rfl rfl q1) ?_
        refine wpQuiet_nil fun w50 u51 => ?_
        have e52 := u51.evo0 (m := (β17 :: (β9 :: (β2 :: []))))
        replace hx7 := hx7.mono0 u51
        replace hx14 := hx14.mono0 u51
        replace hx22 := hx22.mono0 u51
        refine hK36 _ _ ?_
        refine wp_ret ?_
        have hr53 : true = (Pk.suits x0 x1 x2) := by simp [ Pk.suits, Pk.strANY, Pk.suits, hb29, hb33, hb45]
        exact ret1 Try.results121 rfl ⟨congrArg Value.bool hr53, (((e8.trans e15).trans e23).trans e52).old⟩
      · -- ¬ (x2.Kind = 3)
        refine q_val (v := .pointer (some ⟨β17, 0, none⟩)) rfl rfl rfl (fun wq54 uq55 => op_fieldB fld51_0 rfl rfl rfl q1) ?_
        refine q_val (v := .int .i64 x2.Kind) rfl rfl rfl (fun wq56 uq57 => op_loadB (v := .int .i64 x2.Kind) ty3 rfl rfl rfl rfl (hx22.mono0 uq57) rfl q1) ?_
        refine q_val (v := .bool (decide (x2.Kind = 4))) rfl rfl rfl (fun wq58 uq59 => op_eq rfl rfl rfl rfl q1) ?_
        refine q_val (v := .bool (decide (x2.Kind = 4))) rfl rfl rfl (fun wq60 uq61 => op_move (v := .bool (decide (x2.Kind = 4))) rfl rfl rfl q1) ?_
        refine q_part 26 rfl (fun hb62 => ?_) (fun hb62 => ?_)
        · -- x2.Kind = 4
          refine q_val (v := .pointer (some ⟨β9, 2, none⟩)) rfl rfl rfl (fun wq63 uq64 => op_fieldB fld93_2 rfl rfl rfl q1) ?_
          refine q_val (v := .string x1.Class) rfl rfl rfl (fun wq65 uq66 => op_loadB (v := .string x1.Class) ty9 rfl rfl rfl rfl (hx14.mono0 uq66) rfl q1) ?_
          refine q_val (v := .bool (decide (x1.Class = (⟨#[65, 78, 89]⟩ : ByteArray)))) rfl rfl rfl (fun wq67 uq68 => op_eqS rfl rfl rfl rfl q1) ?_
          refine q_val (v := .bool (decide (x1.Class = (⟨#[65, 78, 89]⟩ : ByteArray)))) rfl rfl rfl (fun wq69 uq70 => op_move (v := .bool (decide (x1.Class = (⟨#[65, 78, 89]⟩ : ByteArray)))) rfl rfl rfl q1) ?_
          refine q_part 30 rfl (fun hb71 => ?_) (fun hb71 => ?_)
          · -- x1.Class = (⟨#[65, 78, 89]⟩ : ByteArray)
            refine q_not rfl ?_
            refine q_not rfl ?_
            refine q_not rfl ?_
            refine q_not rfl ?_
            refine q_not rfl ?_
            refine q_not rfl ?_
            refine q_not rfl ?_
            refine q_not rfl ?_
            refine q_not rfl ?_
            refine q_not rfl ?_
            refine q_val (v := .bool true) rfl rfl rfl (fun wq72 uq73 => op_pickT (v := .bool true) rfl rfl rfl rfl q1) ?_
            refine q_val (v := .bool true) rfl rfl rfl (fun wq74 uq75 => op_pickT (v := .bool true) rfl rfl rfl rfl q1) ?_
            refine q_val (v := .bool true) rfl rfl rfl (fun wq76 uq77 => op_pickF (v := .bool true) rfl rfl rfl rfl q1) ?_
            refine q_val (v := .bool true) rfl rfl rfl (fun wq78 uq79 => op_assign (v := .bool true) rfl rfl rfl q1) ?_
            refine wpQuiet_nil fun w80 u81 => ?_
            have e82 := u81.evo0 (m := (β17 :: (β9 :: (β2 :: []))))
            replace hx7 := hx7.mono0 u81
            replace hx14 := hx14.mono0 u81
            replace hx22 := hx22.mono0 u81
            refine hK36 _ _ ?_
            refine wp_ret ?_
            have hr83 : true = (Pk.suits x0 x1 x2) := by simp [ Pk.suits, Pk.strANY, Pk.suits, hb29, hb33, hb45, hb62, hb71]
            exact ret1 Try.results121 rfl ⟨congrArg Value.bool hr83, (((e8.trans e15).trans e23).trans e82).old⟩
          · -- ¬ (x1.Class = (⟨#[65, 78, 89]⟩ : ByteArray))
            refine q_val (v := .pointer (some ⟨β2, 0, none⟩)) rfl rfl rfl (fun wq84 uq85 => op_fieldB fld26_0 rfl rfl rfl q1) ?_
            refine q_val (v := .slice a1_x0 x0.Nodes.length c1_x0) rfl rfl rfl (fun wq86 uq87 => op_loadB (v := .slice a1_x0 x0.Nodes.length c1_x0) ty23 rfl rfl rfl rfl (hx7.mono0 uq87) rfl q1) ?_
            refine q_val (v := .pointer (some ⟨β17, 1, none⟩)) rfl rfl rfl (fun wq88 uq89 => op_fieldB fld51_1 rfl rfl rfl q1) ?_
            refine q_val (v := .int .i64 x2.N) rfl rfl rfl (fun wq90 uq91 => op_loadB (v := .int .i64 x2.N) ty3 rfl rfl rfl rfl (hx22.mono0 uq91) rfl q1) ?_
            obtain ⟨ad92, cs93, u94, hx95, he96, ca97, hr98⟩ := (h1_x0.mono (((e8.trans e15).trans e23).tr M)).idx (i := x2.N) ty23 ty49 rfl (by omega) (by omega)
            obtain ⟨a_u94, c_u94, rfl, h_u94⟩ := he96
            have lh_u94 := h_u94.lt63
            refine q_val (v := .pointer (some ad92)) rfl rfl rfl (fun wq99 uq100 => op_indexR hr98 rfl rfl rfl rfl q1) ?_
            refine q_val (v := .pointer (some ⟨ad92.block, ad92.off + 0, none⟩)) rfl rfl rfl (fun wq101 uq102 => op_field fld49_0 rfl rfl rfl ca97.spot q1) ?_
            refine q_val (v := .string u94.Class) rfl rfl rfl (fun wq103 uq104 => op_loadA (v := .string u94.Class) ty9 rfl rfl rfl rfl (ca97.mono ((uq104.evo0 (m := (β17 :: (β9 :: (β2 :: []))))).tr M)) rfl q1) ?_
            refine q_val (v := .pointer (some ⟨β9, 2, none⟩)) rfl rfl rfl (fun wq105 uq106 => op_fieldB fld93_2 rfl rfl rfl q1) ?_
            refine q_val (v := .string x1.Class) rfl rfl rfl (fun wq107 uq108 => op_loadB (v := .string x1.Class) ty9 rfl rfl rfl rfl (hx14.mono0 uq108) rfl q1) ?_
            refine q_val (v := .bool (decide (u94.Class = x1.Class))) rfl rfl rfl (fun wq109 uq110 => op_eqS rfl rfl rfl rfl q1) ?_
            refine q_val (v := .bool (decide (u94.Class = x1.Class))) rfl rfl rfl (fun wq111 uq112 => op_pickF (v := .bool (decide (u94.Class = x1.Class))) rfl rfl rfl rfl q1) ?_
            refine q_val (v := .bool (decide (u94.Class = x1.Class))) rfl rfl rfl (fun wq113 uq114 => op_pickT (v := .bool (decide (u94.Class = x1.Class))) rfl rfl rfl rfl q1) ?_
            refine q_val (v := .bool (decide (u94.Class = x1.Class))) rfl rfl rfl (fun wq115 uq116 => op_pickF (v := .bool (decide (u94.Class = x1.Class))) rfl rfl rfl rfl q1) ?_
            refine q_val (v := .bool (decide (u94.Class = x1.Class))) rfl rfl rfl (fun wq117 uq118 => op_assign (v := .bool (decide (u94.Class = x1.Class))) rfl rfl rfl q1) ?_
            refine wpQuiet_nil fun w119 u120 => ?_
            have e121 := u120.evo0 (m := (β17 :: (β9 :: (β2 :: []))))
            replace hx7 := hx7.mono0 u120
            replace hx14 := hx14.mono0 u120
            replace hx22 := hx22.mono0 u120
            refine hK36 _ _ ?_
            refine wp_ret ?_
            have hr122 : (decide (u94.Class = x1.Class)) = (Pk.suits x0 x1 x2) := by simp [drop_of hx95, Pk.suits, Pk.strANY, Pk.suits, hb29, hb33, hb45, hb62, hb71, hx95]
            exact ret1 Try.results121 rfl ⟨congrArg Value.bool hr122, (((e8.trans e15).trans e23).trans e121).old⟩
        · -- ¬ (x2.Kind = 4)
          refine q_not rfl ?_
          refine q_not rfl ?_
          refine q_not rfl ?_
          refine q_not rfl ?_
          refine q_not rfl ?_
          refine q_not rfl ?_
          refine q_not rfl ?_
          refine q_not rfl ?_
          refine q_not rfl ?_
          refine q_not rfl ?_
          refine q_not rfl ?_
          refine q_not rfl ?_
          refine q_not rfl ?_
          refine q_not rfl ?_
          refine q_not rfl ?_
          refine q_val (v := .bool false) rfl rfl rfl (fun wq123 uq124 => op_pickF (v := .bool false) rfl rfl rfl rfl q1) ?_
          refine q_val (v := .bool false) rfl rfl rfl (fun wq125 uq126 => op_pickF (v := .bool false) rfl rfl rfl rfl q1) ?_
          refine q_val (v := .bool false) rfl rfl rfl (fun wq127 uq128 => op_assign (v := .bool false) rfl rfl rfl q1) ?_
          refine wpQuiet_nil fun w129 u130 => ?_
          have e131 := u130.evo0 (m := (β17 :: (β9 :: (β2 :: []))))
          replace hx7 := hx7.mono0 u130
          replace hx14 := hx14.mono0 u130
          replace hx22 := hx22.mono0 u130
          refine hK36 _ _ ?_
          refine wp_ret ?_
          have hr132 : false = (Pk.suits x0 x1 x2) := by simp [ Pk.suits, Pk.strANY, Pk.suits, hb29, hb33, hb45, hb62]
          exact ret1 Try.results121 rfl ⟨congrArg Value.bool hr132, (((e8.trans e15).trans e23).trans e131).old⟩
set_option maxHeartbeats 1000000 in
theorem c98 {M : List Nat} {w : World} {x0 : Pk.Node} {a_x0 : Option Addr} {c_x0 : Nat} {l : List Pk.Form} {a_l : Option Addr} {c_l : Nat} {b_l : Nat} (hM : Lo M w) (h_x0 : SL M w a_x0 c_x0 x0.Vals) (h_l : SL M w a_l c_l l) (hb_l : Box w b_l [.slice a_l l.length c_l]) : Calls Try.prog 98 #[.agg #[.string x0.Class, .slice a_x0 x0.Vals.length c_x0], .pointer (some ⟨b_l, 0, none⟩)] w (Ret fun v w' => v = .bool (Pk.unknown x0 l) ∧ Upd [] w w') := by
  have lh_x0 := h_x0.lt63
  have lh_l := h_l.lt63
  refine enter (l := [.agg #[.string x0.Class, .slice a_x0 x0.Vals.length c_x0], .pointer (some ⟨b_l, 0, none⟩)]) Try.func98 rfl Try.ntmps98 rfl ?_
  refine c_seq fun KhK1 hK1 => ?_
  refine c_reg ?_
  refine op_box (v := .agg #[.string x0.Class, .slice a_x0 x0.Vals.length c_x0]) (zs := [.string x0.Class, .slice a_x0 x0.Vals.length c_x0]) rfl rfl rfl rfl fun β2 w3 hβ4 u5 hz6 hx7 => ?_
  have e8 := u5.evoN (m := []) hβ4 hz6
  have ne9 : b_l ≠ β2 := by have := hb_l.lt; omega
  replace hb_l := hb_l.mono0 u5
  refine op_assign (v := .bool false) rfl rfl rfl ?_
  refine wpList_nil ?_
  refine hK1 _ _ ?_
  refine c_seq fun KhK10 hK10 => ?_
  refine c_reg ?_
  refine op_loadB (v := .slice a_l l.length c_l) ty22 rfl rfl rfl rfl hb_l rfl ?_
  refine op_fieldB fld49_0 rfl rfl rfl ?_
  refine op_loadB (v := .string x0.Class) ty9 rfl rfl rfl rfl hx7 rfl ?_
  refine op_call (args := [.slice a_l l.length c_l, .string x0.Class]) cal52 rfl rfl rfl (c52 (e8.loM hM) (h_l.mono (e8.tr M))) ?_
  rintro _ w11 ⟨rfl, u12⟩
  have e14 := u12.evo0 (m := (β2 :: []))
  replace hb_l := hb_l.mono0 u12
  replace hx7 := hx7.mono0 u12
  refine op_lss rfl rfl rfl rfl ?_
  refine op_assign (v := .bool (decide ((Pk.form l x0.Class) < 0))) rfl rfl rfl ?_
  refine wpList_nil ?_
  refine hK10 _ _ ?_
  refine wp_ret ?_
  have hr15 : (decide ((Pk.form l x0.Class) < 0)) = (Pk.unknown x0 l) := by simp [ Pk.unknown]
  exact ret1 Try.results98 rfl ⟨congrArg Value.bool hr15, (e8.trans e14).old⟩
end Go.Proofs.Ytcnhjofpmpipfaa
