import Derived.Test.YtcnhjofpmpipfaaW5
import Derived.Test.YtcnhjofpmpipfaaSp3
set_option linter.unusedVariables false
set_option linter.unusedSimpArgs false
set_option maxRecDepth 100000
namespace Go.Proofs.Ytcnhjofpmpipfaa
open Go Go.Sx Go.RowKit
open Go.Sx.Dat (enc)
attribute [local irreducible] Go.wpList Go.wpQuiet Go.Code.wp
set_option maxHeartbeats 1000000 in
theorem c134 {M : List Nat} {w : World} {x0 : ByteArray} (hM : Lo M w) (p0 : x0.size < 9223372036854775808) : Calls Try.prog 134 #[.string x0] w (Ret fun v w' => v = .agg #[.int .i64 ((Pk.rword x0).K), .int .i64 ((Pk.rword x0).E)] ∧ Upd [] w w') := by
  refine enter (l := [.string x0]) Try.func134 rfl Try.ntmps134 rfl ?_
  refine c_seq fun KhK1 hK1 => ?_
  refine c_reg ?_
  refine op_alloc (zs := [.int .i64 0, .int .i64 0]) ty143 rfl rfl fun β2 w3 hβ4 u5 hz6 hx7 => ?_
  have e8 := u5.evoN (m := []) hβ4 hz6
  refine wpList_nil ?_
  refine hK1 _ _ ?_
  refine c_seq fun KhK9 hK9 => ?_
  refine c_seq fun KhK10 hK10 => ?_
  refine c_reg ?_
  refine op_call (args := []) cal147 rfl rfl rfl (c147 (e8.loM hM)) ?_
  rintro _ w11 ⟨a_r13, c_r13, rfl, h_r13, u12⟩
  have lh_r13 := h_r13.lt63
  have e14 := u12.evo0 (m := (β2 :: []))
  replace hx7 := hx7.mono0 u12
  refine op_move (v := .string x0) rfl rfl rfl ?_
  refine op_call (args := [.slice a_r13 (Pk.keywords).length c_r13, .string x0]) cal129 rfl rfl rfl (c129 ((e8.trans e14).loM hM) h_r13) ?_
  rintro _ w15 ⟨rfl, u16⟩
  have e18 := u16.evo0 (m := (β2 :: []))
  replace hx7 := hx7.mono0 u16
  refine op_move (v := .bool (Pk.rhas (Pk.keywords) x0)) rfl rfl rfl ?_
  refine op_partB 9 rfl (fun hb19 => ?_) (fun hb19 => ?_)
  · -- (Pk.rhas (Pk.keywords) x0) = true
    refine op_not rfl ?_
    refine op_not rfl ?_
    refine op_not rfl ?_
    refine op_pickT (v := .bool true) rfl rfl rfl rfl ?_
    refine wpList_nil ?_
    refine hK10 _ _ ?_
    refine c_ifT rfl rfl ?_
    refine c_seq fun KhK20 hK20 => ?_
    refine c_reg ?_
    refine op_build (r := [.int .i64 3, .int .i64 0]) ty143 szs143 rfl rfl rfl rfl rfl ?_
    refine op_store (v := .agg #[.int .i64 3, .int .i64 0]) (cs' := [.int .i64 3, .int .i64 0]) ty143 rfl rfl rfl rfl hx7 rfl rfl rfl fun w21 u22 hz23 hx7' => ?_
    have e24 := u22.evo (m := (β2 :: [])) (List.forall_mem_singleton.2 List.mem_cons_self)
    refine wpList_nil ?_
    refine hK20 _ _ ?_
    refine wp_ret ?_
    have hr25 : 3 = (Pk.rword x0).K := by first | (simp [ Pk.wordEnd, Pk.wordsT, Pk.smallWords, Pk.anyL_true, Pk.rword, Pk.anyL, hb19]; done) | (simp [Pk.rword, Pk.wordsT, Pk.smallWords, hb19]; done)
    have hr26 : 0 = (Pk.rword x0).E := by first | (simp [ Pk.wordEnd, Pk.wordsT, Pk.smallWords, Pk.anyL_true, Pk.rword, Pk.anyL, hb19]; done) | (simp [Pk.rword, Pk.wordsT, Pk.smallWords, hb19]; done)
    exact retG (rs := [.cell 2 143]) (vs := [.agg #[.int .i64 3, .int .i64 0]]) Try.results134 ⟨resC (ds := [.int .i64 3, .int .i64 0]) ty143 rfl rfl rfl hx7' rfl rfl, trivial⟩ ⟨agg_eq (lc (congrArg (Value.int .i64) hr25) (lc (congrArg (Value.int .i64) hr26) (rfl))), (((e8.trans e14).trans e18).trans e24).old⟩
  · -- (Pk.rhas (Pk.keywords) x0) = false
    refine op_buildSlice (r := [.string (⟨#[84, 114, 117, 101]⟩ : ByteArray), .string (⟨#[70, 97, 108, 115, 101]⟩ : ByteArray), .string (⟨#[86, 111, 105, 100]⟩ : ByteArray), .string (⟨#[67, 117, 114, 114, 101, 110, 116]⟩ : ByteArray), .string (⟨#[82, 101, 115, 117, 108, 116]⟩ : ByteArray)]) ty138 ty9 rfl rfl rfl rfl rfl rfl fun β27 w28 hβ29 u30 hz31 hx32 => ?_
    have nf33 : β27 ∉ (β2 :: []) ++ M := (((e8.trans e14).trans e18).loM hM).fresh hβ29
    have e34 := u30.evo0 (m := (β2 :: []))
    replace hx7 := hx7.mono0 u30
    have hs35 : SL ((β2 :: []) ++ M) w28 (some ⟨β27, 0, none⟩) 5 ([(⟨#[84, 114, 117, 101]⟩ : ByteArray), (⟨#[70, 97, 108, 115, 101]⟩ : ByteArray), (⟨#[86, 111, 105, 100]⟩ : ByteArray), (⟨#[67, 117, 114, 114, 101, 110, 116]⟩ : ByteArray), (⟨#[82, 101, 115, 117, 108, 116]⟩ : ByteArray)] : List ByteArray) := SL.of_boxL hx32 nf33 (by simp only [List.length_cons, List.length_nil]; omega) ⟨[.string (⟨#[84, 114, 117, 101]⟩ : ByteArray)], _, rfl, rfl, ⟨[.string (⟨#[70, 97, 108, 115, 101]⟩ : ByteArray)], _, rfl, rfl, ⟨[.string (⟨#[86, 111, 105, 100]⟩ : ByteArray)], _, rfl, rfl, ⟨[.string (⟨#[67, 117, 114, 114, 101, 110, 116]⟩ : ByteArray)], _, rfl, rfl, ⟨[.string (⟨#[82, 101, 115, 117, 108, 116]⟩ : ByteArray)], _, rfl, rfl, rfl⟩⟩⟩⟩⟩
    refine op_move (v := .string x0) rfl rfl rfl ?_
    refine op_call (args := [.slice (some ⟨β27, 0, none⟩) ([(⟨#[84, 114, 117, 101]⟩ : ByteArray), (⟨#[70, 97, 108, 115, 101]⟩ : ByteArray), (⟨#[86, 111, 105, 100]⟩ : ByteArray), (⟨#[67, 117, 114, 114, 101, 110, 116]⟩ : ByteArray), (⟨#[82, 101, 115, 117, 108, 116]⟩ : ByteArray)] : List ByteArray).length 5, .string x0]) cal129 rfl rfl rfl (c129 ((((e8.trans e14).trans e18).trans e34).loM hM) hs35) ?_
    rintro _ w36 ⟨rfl, u37⟩
    have e39 := u37.evo0 (m := (β2 :: []))
    replace hx7 := hx7.mono0 u37
    refine op_pickF (v := .bool (Pk.rhas ([(⟨#[84, 114, 117, 101]⟩ : ByteArray), (⟨#[70, 97, 108, 115, 101]⟩ : ByteArray), (⟨#[86, 111, 105, 100]⟩ : ByteArray), (⟨#[67, 117, 114, 114, 101, 110, 116]⟩ : ByteArray), (⟨#[82, 101, 115, 117, 108, 116]⟩ : ByteArray)] : List ByteArray) x0)) rfl rfl rfl rfl ?_
    refine wpList_nil ?_
    refine hK10 _ _ ?_
    refine c_ifB rfl rfl (fun hb40 => ?_) (fun hb40 => ?_)
    · -- (Pk.rhas ([(⟨#[84, 114, 117, 101]⟩ : ByteArray), (⟨#[70, 97, 108, 115, 101]⟩ : ByteArray), (⟨#[86, 111, 105, 100]⟩ : ByteArray), (⟨#[67, 117, 114, 114, 101, 110, 116]⟩ : ByteArray), (⟨#[82, 101, 115, 117, 108, 116]⟩ : ByteArray)] : List ByteArray) x0) = true
      refine c_seq fun KhK41 hK41 => ?_
      refine c_reg ?_
      refine op_build (r := [.int .i64 3, .int .i64 0]) ty143 szs143 rfl rfl rfl rfl rfl ?_
      refine op_store (v := .agg #[.int .i64 3, .int .i64 0]) (cs' := [.int .i64 3, .int .i64 0]) ty143 rfl rfl rfl rfl hx7 rfl rfl rfl fun w42 u43 hz44 hx7' => ?_
      have e45 := u43.evo (m := (β2 :: [])) (List.forall_mem_singleton.2 List.mem_cons_self)
      refine wpList_nil ?_
      refine hK41 _ _ ?_
      refine wp_ret ?_
      have hr46 : 3 = (Pk.rword x0).K := by first | (simp [ Pk.wordEnd, Pk.wordsT, Pk.smallWords, Pk.anyL_true, Pk.rword, Pk.anyL, hb19, hb40]; done) | (simp [Pk.rword, Pk.wordsT, Pk.smallWords, hb19, hb40]; done)
      have hr47 : 0 = (Pk.rword x0).E := by first | (simp [ Pk.wordEnd, Pk.wordsT, Pk.smallWords, Pk.anyL_true, Pk.rword, Pk.anyL, hb19, hb40]; done) | (simp [Pk.rword, Pk.wordsT, Pk.smallWords, hb19, hb40]; done)
      exact retG (rs := [.cell 2 143]) (vs := [.agg #[.int .i64 3, .int .i64 0]]) Try.results134 ⟨resC (ds := [.int .i64 3, .int .i64 0]) ty143 rfl rfl rfl hx7' rfl rfl, trivial⟩ ⟨agg_eq (lc (congrArg (Value.int .i64) hr46) (lc (congrArg (Value.int .i64) hr47) (rfl))), (((((e8.trans e14).trans e18).trans e34).trans e39).trans e45).old⟩
    · -- (Pk.rhas ([(⟨#[84, 114, 117, 101]⟩ : ByteArray), (⟨#[70, 97, 108, 115, 101]⟩ : ByteArray), (⟨#[86, 111, 105, 100]⟩ : ByteArray), (⟨#[67, 117, 114, 114, 101, 110, 116]⟩ : ByteArray), (⟨#[82, 101, 115, 117, 108, 116]⟩ : ByteArray)] : List ByteArray) x0) = false
      refine wp_skip ?_
      refine hK9 _ _ ?_
      refine c_seq fun KhK48 hK48 => ?_
      refine c_seq fun KhK49 hK49 => ?_
      refine c_reg ?_
      refine op_buildSlice (r := [.string (⟨#[116, 114, 117, 101]⟩ : ByteArray), .string (⟨#[102, 97, 108, 115, 101]⟩ : ByteArray), .string (⟨#[118, 111, 105, 100]⟩ : ByteArray), .string (⟨#[99, 117, 114, 114, 101, 110, 116]⟩ : ByteArray), .string (⟨#[114, 101, 115, 117, 108, 116]⟩ : ByteArray)]) ty138 ty9 rfl rfl rfl rfl rfl rfl fun β50 w51 hβ52 u53 hz54 hx55 => ?_
      have nf56 : β50 ∉ (β2 :: []) ++ M := (((((e8.trans e14).trans e18).trans e34).trans e39).loM hM).fresh hβ52
      have e57 := u53.evo0 (m := (β2 :: []))
      replace hx7 := hx7.mono0 u53
      have hs58 : SL ((β2 :: []) ++ M) w51 (some ⟨β50, 0, none⟩) 5 ([(⟨#[116, 114, 117, 101]⟩ : ByteArray), (⟨#[102, 97, 108, 115, 101]⟩ : ByteArray), (⟨#[118, 111, 105, 100]⟩ : ByteArray), (⟨#[99, 117, 114, 114, 101, 110, 116]⟩ : ByteArray), (⟨#[114, 101, 115, 117, 108, 116]⟩ : ByteArray)] : List ByteArray) := SL.of_boxL hx55 nf56 (by simp only [List.length_cons, List.length_nil]; omega) ⟨[.string (⟨#[116, 114, 117, 101]⟩ : ByteArray)], _, rfl, rfl, ⟨[.string (⟨#[102, 97, 108, 115, 101]⟩ : ByteArray)], _, rfl, rfl, ⟨[.string (⟨#[118, 111, 105, 100]⟩ : ByteArray)], _, rfl, rfl, ⟨[.string (⟨#[99, 117, 114, 114, 101, 110, 116]⟩ : ByteArray)], _, rfl, rfl, ⟨[.string (⟨#[114, 101, 115, 117, 108, 116]⟩ : ByteArray)], _, rfl, rfl, rfl⟩⟩⟩⟩⟩
      refine op_move (v := .string x0) rfl rfl rfl ?_
      refine op_call (args := [.slice (some ⟨β50, 0, none⟩) ([(⟨#[116, 114, 117, 101]⟩ : ByteArray), (⟨#[102, 97, 108, 115, 101]⟩ : ByteArray), (⟨#[118, 111, 105, 100]⟩ : ByteArray), (⟨#[99, 117, 114, 114, 101, 110, 116]⟩ : ByteArray), (⟨#[114, 101, 115, 117, 108, 116]⟩ : ByteArray)] : List ByteArray).length 5, .string x0]) cal129 rfl rfl rfl (c129 ((((((e8.trans e14).trans e18).trans e34).trans e39).trans e57).loM hM) hs58) ?_
      rintro _ w59 ⟨rfl, u60⟩
      have e62 := u60.evo0 (m := (β2 :: []))
      replace hx7 := hx7.mono0 u60
      refine wpList_nil ?_
      refine hK49 _ _ ?_
      refine c_ifB rfl rfl (fun hb63 => ?_) (fun hb63 => ?_)
      · -- (Pk.rhas ([(⟨#[116, 114, 117, 101]⟩ : ByteArray), (⟨#[102, 97, 108, 115, 101]⟩ : ByteArray), (⟨#[118, 111, 105, 100]⟩ : ByteArray), (⟨#[99, 117, 114, 114, 101, 110, 116]⟩ : ByteArray), (⟨#[114, 101, 115, 117, 108, 116]⟩ : ByteArray)] : List ByteArray) x0) = true
        refine c_seq fun KhK64 hK64 => ?_
        refine c_reg ?_
        refine op_build (r := [.int .i64 0, .int .i64 4]) ty143 szs143 rfl rfl rfl rfl rfl ?_
        refine op_store (v := .agg #[.int .i64 0, .int .i64 4]) (cs' := [.int .i64 0, .int .i64 4]) ty143 rfl rfl rfl rfl hx7 rfl rfl rfl fun w65 u66 hz67 hx7' => ?_
        have e68 := u66.evo (m := (β2 :: [])) (List.forall_mem_singleton.2 List.mem_cons_self)
        refine wpList_nil ?_
        refine hK64 _ _ ?_
        refine wp_ret ?_
        have hr69 : 0 = (Pk.rword x0).K := by first | (simp [ Pk.wordEnd, Pk.wordsT, Pk.smallWords, Pk.anyL_true, Pk.rword, Pk.anyL, hb19, hb40, hb63]; done) | (simp [Pk.rword, Pk.wordsT, Pk.smallWords, hb19, hb40, hb63]; done)
        have hr70 : 4 = (Pk.rword x0).E := by first | (simp [ Pk.wordEnd, Pk.wordsT, Pk.smallWords, Pk.anyL_true, Pk.rword, Pk.anyL, hb19, hb40, hb63]; done) | (simp [Pk.rword, Pk.wordsT, Pk.smallWords, hb19, hb40, hb63]; done)
        exact retG (rs := [.cell 2 143]) (vs := [.agg #[.int .i64 0, .int .i64 4]]) Try.results134 ⟨resC (ds := [.int .i64 0, .int .i64 4]) ty143 rfl rfl rfl hx7' rfl rfl, trivial⟩ ⟨agg_eq (lc (congrArg (Value.int .i64) hr69) (lc (congrArg (Value.int .i64) hr70) (rfl))), (((((((e8.trans e14).trans e18).trans e34).trans e39).trans e57).trans e62).trans e68).old⟩
      · -- (Pk.rhas ([(⟨#[116, 114, 117, 101]⟩ : ByteArray), (⟨#[102, 97, 108, 115, 101]⟩ : ByteArray), (⟨#[118, 111, 105, 100]⟩ : ByteArray), (⟨#[99, 117, 114, 114, 101, 110, 116]⟩ : ByteArray), (⟨#[114, 101, 115, 117, 108, 116]⟩ : ByteArray)] : List ByteArray) x0) = false
        refine wp_skip ?_
        refine hK48 _ _ ?_
        refine c_seq fun KhK71 hK71 => ?_
        refine c_reg ?_
        refine op_assign (v := .bool false) rfl rfl rfl ?_
        refine wpList_nil ?_
        refine hK71 _ _ ?_
        refine c_seq fun KhK72 hK72 => ?_
        refine c_reg ?_
        refine op_assign (v := .bool false) rfl rfl rfl ?_
        refine wpList_nil ?_
        refine hK72 _ _ ?_
        refine c_seq fun KhK73 hK73 => ?_
        refine c_seq fun KhK74 hK74 => ?_
        refine c_reg ?_
        refine op_assign (v := .int .i64 0) rfl rfl rfl ?_
        refine wpList_nil ?_
        refine hK74 _ _ ?_
        refine wp_block ?_
        refine c_loop (X := Nat × Bool × Bool) [3, 4, 5, 19, 20, 21, 22, 23, 24, 25, 26, 27, 28, 29, 30, 31, 32, 33, 34, 35, 36, 37, 38] (fun ⟨k, low, high⟩ => [(5, .int .i64 (k : Int)), (3, .bool low), (4, .bool high)]) (fun ⟨k, low, high⟩ w1 => (k ≤ x0.size) ∧ (Pk.rword x0 = Pk.wordEnd x0 (Pk.anyL Pk.isSmallByte low ((sbytes x0).drop k)) (Pk.anyL Pk.isCapByte high ((sbytes x0).drop k))) ∧ Evo (β2 :: []) w59 (β2 :: []) w1 ∧ Box w1 β2 [.int .i64 0, .int .i64 0]) (fun ⟨k, low, high⟩ => x0.size - k) ⟨0, false, false⟩ ⟨congrArg (Value.int .i64) (show 0 = ((0 : Nat) : Int) by omega), rfl, rfl, trivial⟩ ?_ ?_
        ·
          exact ⟨(by first | omega | simp), (by simp [Pk.rword, Pk.wordsT, Pk.smallWords, hb19, hb40, hb63]), Evo.refl _ _, hx7⟩
        ·
          rintro ⟨k, low, high⟩ τ w75 ⟨hi77, hi78, e76, hx7⟩
          refine c_seq fun KhK79 hK79 => ?_
          refine c_seq fun KhK80 hK80 => ?_
          refine c_reg ?_
          refine op_move (v := .int .i64 (k : Int)) rfl rfl rfl ?_
          refine op_move (v := .string x0) rfl rfl rfl ?_
          refine op_lenS ty9.und rfl rfl rfl ?_
          refine op_lss rfl rfl rfl rfl ?_
          refine wpList_nil ?_
          refine hK80 _ _ ?_
          refine c_if rfl rfl (fun hb81 => ?_) (fun hb81 => ?_)
          · -- (k : Int) < (x0.size : Int)
            refine wp_skip ?_
            refine hK79 _ _ ?_
            refine c_seq fun KhK82 hK82 => ?_
            refine wp_block ?_
            refine c_seq fun KhK83 hK83 => ?_
            refine c_reg ?_
            refine op_move (v := .bool low) rfl rfl rfl ?_
            refine op_move (v := .bool low) rfl rfl rfl ?_
            refine op_partB 26 rfl (fun hb84 => ?_) (fun hb84 => ?_)
            · -- low = true
              refine op_not rfl ?_
              refine op_not rfl ?_
              refine op_not rfl ?_
              refine op_not rfl ?_
              refine op_pickT (v := .bool true) rfl rfl rfl rfl ?_
              refine op_assign (v := .bool true) rfl rfl rfl ?_
              refine wpList_nil ?_
              refine hK83 _ _ ?_
              refine c_reg ?_
              refine op_move (v := .bool high) rfl rfl rfl ?_
              refine op_move (v := .bool high) rfl rfl rfl ?_
              refine op_partB 33 rfl (fun hb85 => ?_) (fun hb85 => ?_)
              · -- high = true
                refine op_not rfl ?_
                refine op_not rfl ?_
                refine op_not rfl ?_
                refine op_not rfl ?_
                refine op_pickT (v := .bool true) rfl rfl rfl rfl ?_
                refine op_assign (v := .bool true) rfl rfl rfl ?_
                refine wpList_nil ?_
                refine hK82 _ _ ?_
                refine c_reg ?_
                refine op_move (v := .int .i64 (k : Int)) rfl rfl rfl ?_
                refine op_add rfl rfl rfl rfl (by omega) ?_
                refine op_assign (v := .int .i64 ((k : Int) + 1)) rfl rfl rfl ?_
                refine wpList_nil ?_
                repeat (with_reducible refine inBlock_normal ?_)
                with_reducible refine then_normal ?_
                exact ⟨⟨k + 1, true, true⟩, (by first | omega | (dsimp only; omega)), ⟨(by first | omega | (simp only [List.length_append, List.length_cons, List.length_nil]; omega) | (rw [hi78]; simp [ Pk.anyL, Pk.anyL_true, hb19, hb40, hb63, hi77, hb81, hb84, hb85])), (by rw [hi78]; simp [ Pk.anyL, Pk.anyL_true, hb19, hb40, hb63, hi77, hb81, hb84, hb85]), (e76.drop (fun b hb => by simp [hb])), hx7⟩, _, rfl, (by repeat first | exact agree.refl _ _ | refine agree.upd rfl ?_ | refine agree.upds rfl ?_ | refine agree.mix rfl ?_), ⟨congrArg (Value.int .i64) (show ((k : Int) + 1) = ((k + 1 : Nat) : Int) by omega), rfl, rfl, trivial⟩⟩
              · -- high = false
                refine op_move (v := .string x0) rfl rfl rfl ?_
                refine op_move (v := .int .i64 (k : Int)) rfl rfl rfl ?_
                refine op_indexSN (j := k) ty9.und rfl rfl rfl rfl (by first | omega | (have := bsz (by assumption); omega)) ?_
                have hx86 := bytes_get (s := x0) (k := k) (by first | omega | (have := bsz (by assumption); omega))
                have lt87 := (byteAt x0 k).toNat_lt
                refine op_call (args := [.int .u8 (byteAt x0 k).toNat]) cal149 rfl rfl rfl (c149 (x0 := (byteAt x0 k)) ((((((((e8.trans e14).trans e18).trans e34).trans e39).trans e57).trans e62).trans e76).loM hM)) ?_
                rintro _ w88 ⟨rfl, u89⟩
                have e91 := u89.evo0 (m := (β2 :: []))
                replace hx7 := hx7.mono0 u89
                refine op_pickF (v := .bool (Pk.isCapByte (byteAt x0 k))) rfl rfl rfl rfl ?_
                refine op_assign (v := .bool (Pk.isCapByte (byteAt x0 k))) rfl rfl rfl ?_
                refine wpList_nil ?_
                refine hK82 _ _ ?_
                refine c_reg ?_
                refine op_move (v := .int .i64 (k : Int)) rfl rfl rfl ?_
                refine op_add rfl rfl rfl rfl (by omega) ?_
                refine op_assign (v := .int .i64 ((k : Int) + 1)) rfl rfl rfl ?_
                refine wpList_nil ?_
                repeat (with_reducible refine inBlock_normal ?_)
                with_reducible refine then_normal ?_
                exact ⟨⟨k + 1, true, (Pk.isCapByte (byteAt x0 k))⟩, (by first | omega | (dsimp only; omega)), ⟨(by first | omega | (simp only [List.length_append, List.length_cons, List.length_nil]; omega) | (rw [hi78]; simp [drop_of hx86, Pk.anyL, Pk.anyL_true, hb19, hb40, hb63, hi77, hb81, hb84, hb85, hx86])), (by rw [hi78]; simp [drop_of hx86, Pk.anyL, Pk.anyL_true, hb19, hb40, hb63, hi77, hb81, hb84, hb85, hx86]), ((e76.trans e91).drop (fun b hb => by simp [hb])), hx7⟩, _, rfl, (by repeat first | exact agree.refl _ _ | refine agree.upd rfl ?_ | refine agree.upds rfl ?_ | refine agree.mix rfl ?_), ⟨congrArg (Value.int .i64) (show ((k : Int) + 1) = ((k + 1 : Nat) : Int) by omega), rfl, rfl, trivial⟩⟩
            · -- low = false
              refine op_move (v := .string x0) rfl rfl rfl ?_
              refine op_move (v := .int .i64 (k : Int)) rfl rfl rfl ?_
              refine op_indexSN (j := k) ty9.und rfl rfl rfl rfl (by first | omega | (have := bsz (by assumption); omega)) ?_
              have hx92 := bytes_get (s := x0) (k := k) (by first | omega | (have := bsz (by assumption); omega))
              have lt93 := (byteAt x0 k).toNat_lt
              refine op_call (args := [.int .u8 (byteAt x0 k).toNat]) cal148 rfl rfl rfl (c148 (x0 := (byteAt x0 k)) ((((((((e8.trans e14).trans e18).trans e34).trans e39).trans e57).trans e62).trans e76).loM hM)) ?_
              rintro _ w94 ⟨rfl, u95⟩
              have e97 := u95.evo0 (m := (β2 :: []))
              replace hx7 := hx7.mono0 u95
              refine op_pickF (v := .bool (Pk.isSmallByte (byteAt x0 k))) rfl rfl rfl rfl ?_
              refine op_assign (v := .bool (Pk.isSmallByte (byteAt x0 k))) rfl rfl rfl ?_
              refine wpList_nil ?_
              refine hK83 _ _ ?_
              refine c_reg ?_
              refine op_move (v := .bool high) rfl rfl rfl ?_
              refine op_move (v := .bool high) rfl rfl rfl ?_
              refine op_partB 33 rfl (fun hb98 => ?_) (fun hb98 => ?_)
              · -- high = true
                refine op_not rfl ?_
                refine op_not rfl ?_
                refine op_not rfl ?_
                refine op_not rfl ?_
                refine op_pickT (v := .bool true) rfl rfl rfl rfl ?_
                refine op_assign (v := .bool true) rfl rfl rfl ?_
                refine wpList_nil ?_
                refine hK82 _ _ ?_
                refine c_reg ?_
                refine op_move (v := .int .i64 (k : Int)) rfl rfl rfl ?_
                refine op_add rfl rfl rfl rfl (by omega) ?_
                refine op_assign (v := .int .i64 ((k : Int) + 1)) rfl rfl rfl ?_
                refine wpList_nil ?_
                repeat (with_reducible refine inBlock_normal ?_)
                with_reducible refine then_normal ?_
                exact ⟨⟨k + 1, (Pk.isSmallByte (byteAt x0 k)), true⟩, (by first | omega | (dsimp only; omega)), ⟨(by first | omega | (simp only [List.length_append, List.length_cons, List.length_nil]; omega) | (rw [hi78]; simp [drop_of hx92, Pk.anyL, Pk.anyL_true, hb19, hb40, hb63, hi77, hb81, hb84, hx92, hb98])), (by rw [hi78]; simp [drop_of hx92, Pk.anyL, Pk.anyL_true, hb19, hb40, hb63, hi77, hb81, hb84, hx92, hb98]), ((e76.trans e97).drop (fun b hb => by simp [hb])), hx7⟩, _, rfl, (by repeat first | exact agree.refl _ _ | refine agree.upd rfl ?_ | refine agree.upds rfl ?_ | refine agree.mix rfl ?_), ⟨congrArg (Value.int .i64) (show ((k : Int) + 1) = ((k + 1 : Nat) : Int) by omega), rfl, rfl, trivial⟩⟩
              · -- high = false
                refine op_move (v := .string x0) rfl rfl rfl ?_
                refine op_move (v := .int .i64 (k : Int)) rfl rfl rfl ?_
                refine op_indexSN (j := k) ty9.und rfl rfl rfl rfl (by first | omega | (have := bsz (by assumption); omega)) ?_
                have hx99 := bytes_get (s := x0) (k := k) (by first | omega | (have := bsz (by assumption); omega))
                have lt100 := (byteAt x0 k).toNat_lt
                refine op_call (args := [.int .u8 (byteAt x0 k).toNat]) cal149 rfl rfl rfl (c149 (x0 := (byteAt x0 k)) (((((((((e8.trans e14).trans e18).trans e34).trans e39).trans e57).trans e62).trans e76).trans e97).loM hM)) ?_
                rintro _ w101 ⟨rfl, u102⟩
                have e104 := u102.evo0 (m := (β2 :: []))
                replace hx7 := hx7.mono0 u102
                refine op_pickF (v := .bool (Pk.isCapByte (byteAt x0 k))) rfl rfl rfl rfl ?_
                refine op_assign (v := .bool (Pk.isCapByte (byteAt x0 k))) rfl rfl rfl ?_
                refine wpList_nil ?_
                refine hK82 _ _ ?_
                refine c_reg ?_
                refine op_move (v := .int .i64 (k : Int)) rfl rfl rfl ?_
                refine op_add rfl rfl rfl rfl (by omega) ?_
                refine op_assign (v := .int .i64 ((k : Int) + 1)) rfl rfl rfl ?_
                refine wpList_nil ?_
                repeat (with_reducible refine inBlock_normal ?_)
                with_reducible refine then_normal ?_
                exact ⟨⟨k + 1, (Pk.isSmallByte (byteAt x0 k)), (Pk.isCapByte (byteAt x0 k))⟩, (by first | omega | (dsimp only; omega)), ⟨(by first | omega | (simp only [List.length_append, List.length_cons, List.length_nil]; omega) | (rw [hi78]; simp [drop_of hx92, drop_of hx99, Pk.anyL, Pk.anyL_true, hb19, hb40, hb63, hi77, hb81, hb84, hx92, hb98, hx99])), (by rw [hi78]; simp [drop_of hx92, drop_of hx99, Pk.anyL, Pk.anyL_true, hb19, hb40, hb63, hi77, hb81, hb84, hx92, hb98, hx99]), (((e76.trans e97).trans e104).drop (fun b hb => by simp [hb])), hx7⟩, _, rfl, (by repeat first | exact agree.refl _ _ | refine agree.upd rfl ?_ | refine agree.upds rfl ?_ | refine agree.mix rfl ?_), ⟨congrArg (Value.int .i64) (show ((k : Int) + 1) = ((k + 1 : Nat) : Int) by omega), rfl, rfl, trivial⟩⟩
          · -- ¬ ((k : Int) < (x0.size : Int))
            refine wp_exit ?_
            refine hK73 _ _ ?_
            refine c_seq fun KhK105 hK105 => ?_
            refine c_seq fun KhK106 hK106 => ?_
            refine c_reg ?_
            refine op_move (v := .bool low) rfl rfl rfl ?_
            refine op_move (v := .bool low) rfl rfl rfl ?_
            refine op_partB 40 rfl (fun hb107 => ?_) (fun hb107 => ?_)
            · -- low = true
              refine op_move (v := .bool high) rfl rfl rfl ?_
              refine op_pickT (v := .bool high) rfl rfl rfl rfl ?_
              refine wpList_nil ?_
              refine hK106 _ _ ?_
              refine c_ifB rfl rfl (fun hb108 => ?_) (fun hb108 => ?_)
              · -- high = true
                refine c_seq fun KhK109 hK109 => ?_
                refine c_reg ?_
                refine op_build (r := [.int .i64 0, .int .i64 2]) ty143 szs143 rfl rfl rfl rfl rfl ?_
                refine op_store (v := .agg #[.int .i64 0, .int .i64 2]) (cs' := [.int .i64 0, .int .i64 2]) ty143 rfl rfl rfl rfl hx7 rfl rfl rfl fun w110 u111 hz112 hx7' => ?_
                have e113 := u111.evo (m := (β2 :: [])) (List.forall_mem_singleton.2 List.mem_cons_self)
                refine wpList_nil ?_
                refine hK109 _ _ ?_
                refine wp_ret ?_
                have hr114 : 0 = (Pk.rword x0).K := by rw [hi78]; first | (simp [drop_end (l := sbytes x0) (k := k) (by first | omega | (rw [bytes_length]; omega)), Pk.wordEnd, Pk.wordsT, Pk.smallWords, Pk.anyL_true, Pk.anyL, hb19, hb40, hb63, hi77, hb81, hb107, hb108]; done) | (simp [Pk.rword, Pk.wordsT, Pk.smallWords, hb19, hb40, hb63, hi77, hb81, hb107, hb108]; done)
                have hr115 : 2 = (Pk.rword x0).E := by rw [hi78]; first | (simp [drop_end (l := sbytes x0) (k := k) (by first | omega | (rw [bytes_length]; omega)), Pk.wordEnd, Pk.wordsT, Pk.smallWords, Pk.anyL_true, Pk.anyL, hb19, hb40, hb63, hi77, hb81, hb107, hb108]; done) | (simp [Pk.rword, Pk.wordsT, Pk.smallWords, hb19, hb40, hb63, hi77, hb81, hb107, hb108]; done)
                exact retG (rs := [.cell 2 143]) (vs := [.agg #[.int .i64 0, .int .i64 2]]) Try.results134 ⟨resC (ds := [.int .i64 0, .int .i64 2]) ty143 rfl rfl rfl hx7' rfl rfl, trivial⟩ ⟨agg_eq (lc (congrArg (Value.int .i64) hr114) (lc (congrArg (Value.int .i64) hr115) (rfl))), ((((((((e8.trans e14).trans e18).trans e34).trans e39).trans e57).trans e62).trans e76).trans e113).old⟩
              · -- high = false
                refine wp_skip ?_
                refine hK105 _ _ ?_
                refine c_seq fun KhK116 hK116 => ?_
                refine c_seq fun KhK117 hK117 => ?_
                refine c_reg ?_
                refine op_move (v := .string x0) rfl rfl rfl ?_
                refine op_lenS ty9.und rfl rfl rfl ?_
                refine op_gtr rfl rfl rfl rfl ?_
                refine wpList_nil ?_
                refine hK117 _ _ ?_
                refine c_if rfl rfl (fun hb118 => ?_) (fun hb118 => ?_)
                · -- 20 < (x0.size : Int)
                  refine c_seq fun KhK119 hK119 => ?_
                  refine c_reg ?_
                  refine op_build (r := [.int .i64 0, .int .i64 3]) ty143 szs143 rfl rfl rfl rfl rfl ?_
                  refine op_store (v := .agg #[.int .i64 0, .int .i64 3]) (cs' := [.int .i64 0, .int .i64 3]) ty143 rfl rfl rfl rfl hx7 rfl rfl rfl fun w120 u121 hz122 hx7' => ?_
                  have e123 := u121.evo (m := (β2 :: [])) (List.forall_mem_singleton.2 List.mem_cons_self)
                  refine wpList_nil ?_
                  refine hK119 _ _ ?_
                  refine wp_ret ?_
                  have hr124 : 0 = (Pk.rword x0).K := by rw [hi78]; first | (simp [drop_end (l := sbytes x0) (k := k) (by first | omega | (rw [bytes_length]; omega)), Pk.wordEnd, Pk.wordsT, Pk.smallWords, Pk.anyL_true, Pk.anyL, hb19, hb40, hb63, hi77, hb81, hb107, hb108, hb118]; done) | (simp [Pk.rword, Pk.wordsT, Pk.smallWords, hb19, hb40, hb63, hi77, hb81, hb107, hb108, hb118]; done)
                  have hr125 : 3 = (Pk.rword x0).E := by rw [hi78]; first | (simp [drop_end (l := sbytes x0) (k := k) (by first | omega | (rw [bytes_length]; omega)), Pk.wordEnd, Pk.wordsT, Pk.smallWords, Pk.anyL_true, Pk.anyL, hb19, hb40, hb63, hi77, hb81, hb107, hb108, hb118]; done) | (simp [Pk.rword, Pk.wordsT, Pk.smallWords, hb19, hb40, hb63, hi77, hb81, hb107, hb108, hb118]; done)
                  exact retG (rs := [.cell 2 143]) (vs := [.agg #[.int .i64 0, .int .i64 3]]) Try.results134 ⟨resC (ds := [.int .i64 0, .int .i64 3]) ty143 rfl rfl rfl hx7' rfl rfl, trivial⟩ ⟨agg_eq (lc (congrArg (Value.int .i64) hr124) (lc (congrArg (Value.int .i64) hr125) (rfl))), ((((((((e8.trans e14).trans e18).trans e34).trans e39).trans e57).trans e62).trans e76).trans e123).old⟩
                · -- ¬ (20 < (x0.size : Int))
                  refine wp_skip ?_
                  refine hK116 _ _ ?_
                  refine c_seq fun KhK126 hK126 => ?_
                  refine c_seq fun KhK127 hK127 => ?_
                  refine c_reg ?_
                  refine op_move (v := .bool low) rfl rfl rfl ?_
                  refine wpList_nil ?_
                  refine hK127 _ _ ?_
                  refine c_ifB rfl rfl (fun hb128 => ?_) (fun hb128 => ?_)
                  · -- low = true
                    refine c_seq fun KhK129 hK129 => ?_
                    refine c_reg ?_
                    refine op_build (r := [.int .i64 1, .int .i64 0]) ty143 szs143 rfl rfl rfl rfl rfl ?_
                    refine op_store (v := .agg #[.int .i64 1, .int .i64 0]) (cs' := [.int .i64 1, .int .i64 0]) ty143 rfl rfl rfl rfl hx7 rfl rfl rfl fun w130 u131 hz132 hx7' => ?_
                    have e133 := u131.evo (m := (β2 :: [])) (List.forall_mem_singleton.2 List.mem_cons_self)
                    refine wpList_nil ?_
                    refine hK129 _ _ ?_
                    refine wp_ret ?_
                    have hr134 : 1 = (Pk.rword x0).K := by rw [hi78]; first | (simp [drop_end (l := sbytes x0) (k := k) (by first | omega | (rw [bytes_length]; omega)), Pk.wordEnd, Pk.wordsT, Pk.smallWords, Pk.anyL_true, Pk.anyL, hb19, hb40, hb63, hi77, hb81, hb107, hb108, hb118, hb128]; done) | (simp [Pk.rword, Pk.wordsT, Pk.smallWords, hb19, hb40, hb63, hi77, hb81, hb107, hb108, hb118, hb128]; done)
                    have hr135 : 0 = (Pk.rword x0).E := by rw [hi78]; first | (simp [drop_end (l := sbytes x0) (k := k) (by first | omega | (rw [bytes_length]; omega)), Pk.wordEnd, Pk.wordsT, Pk.smallWords, Pk.anyL_true, Pk.anyL, hb19, hb40, hb63, hi77, hb81, hb107, hb108, hb118, hb128]; done) | (simp [Pk.rword, Pk.wordsT, Pk.smallWords, hb19, hb40, hb63, hi77, hb81, hb107, hb108, hb118, hb128]; done)
                    exact retG (rs := [.cell 2 143]) (vs := [.agg #[.int .i64 1, .int .i64 0]]) Try.results134 ⟨resC (ds := [.int .i64 1, .int .i64 0]) ty143 rfl rfl rfl hx7' rfl rfl, trivial⟩ ⟨agg_eq (lc (congrArg (Value.int .i64) hr134) (lc (congrArg (Value.int .i64) hr135) (rfl))), ((((((((e8.trans e14).trans e18).trans e34).trans e39).trans e57).trans e62).trans e76).trans e133).old⟩
                  · -- low = false
                    exact absurd (hb107.symm.trans hb128) (by decide)
            · -- low = false
              refine op_not rfl ?_
              refine op_pickF (v := .bool false) rfl rfl rfl rfl ?_
              refine wpList_nil ?_
              refine hK106 _ _ ?_
              refine c_ifF rfl rfl ?_
              refine wp_skip ?_
              refine hK105 _ _ ?_
              refine c_seq fun KhK136 hK136 => ?_
              refine c_seq fun KhK137 hK137 => ?_
              refine c_reg ?_
              refine op_move (v := .string x0) rfl rfl rfl ?_
              refine op_lenS ty9.und rfl rfl rfl ?_
              refine op_gtr rfl rfl rfl rfl ?_
              refine wpList_nil ?_
              refine hK137 _ _ ?_
              refine c_if rfl rfl (fun hb138 => ?_) (fun hb138 => ?_)
              · -- 20 < (x0.size : Int)
                refine c_seq fun KhK139 hK139 => ?_
                refine c_reg ?_
                refine op_build (r := [.int .i64 0, .int .i64 3]) ty143 szs143 rfl rfl rfl rfl rfl ?_
                refine op_store (v := .agg #[.int .i64 0, .int .i64 3]) (cs' := [.int .i64 0, .int .i64 3]) ty143 rfl rfl rfl rfl hx7 rfl rfl rfl fun w140 u141 hz142 hx7' => ?_
                have e143 := u141.evo (m := (β2 :: [])) (List.forall_mem_singleton.2 List.mem_cons_self)
                refine wpList_nil ?_
                refine hK139 _ _ ?_
                refine wp_ret ?_
                have hr144 : 0 = (Pk.rword x0).K := by rw [hi78]; first | (simp [drop_end (l := sbytes x0) (k := k) (by first | omega | (rw [bytes_length]; omega)), Pk.wordEnd, Pk.wordsT, Pk.smallWords, Pk.anyL_true, Pk.anyL, hb19, hb40, hb63, hi77, hb81, hb107, hb138]; done) | (simp [Pk.rword, Pk.wordsT, Pk.smallWords, hb19, hb40, hb63, hi77, hb81, hb107, hb138]; done)
                have hr145 : 3 = (Pk.rword x0).E := by rw [hi78]; first | (simp [drop_end (l := sbytes x0) (k := k) (by first | omega | (rw [bytes_length]; omega)), Pk.wordEnd, Pk.wordsT, Pk.smallWords, Pk.anyL_true, Pk.anyL, hb19, hb40, hb63, hi77, hb81, hb107, hb138]; done) | (simp [Pk.rword, Pk.wordsT, Pk.smallWords, hb19, hb40, hb63, hi77, hb81, hb107, hb138]; done)
                exact retG (rs := [.cell 2 143]) (vs := [.agg #[.int .i64 0, .int .i64 3]]) Try.results134 ⟨resC (ds := [.int .i64 0, .int .i64 3]) ty143 rfl rfl rfl hx7' rfl rfl, trivial⟩ ⟨agg_eq (lc (congrArg (Value.int .i64) hr144) (lc (congrArg (Value.int .i64) hr145) (rfl))), ((((((((e8.trans e14).trans e18).trans e34).trans e39).trans e57).trans e62).trans e76).trans e143).old⟩
              · -- ¬ (20 < (x0.size : Int))
                refine wp_skip ?_
                refine hK136 _ _ ?_
                refine c_seq fun KhK146 hK146 => ?_
                refine c_seq fun KhK147 hK147 => ?_
                refine c_reg ?_
                refine op_move (v := .bool low) rfl rfl rfl ?_
                refine wpList_nil ?_
                refine hK147 _ _ ?_
                refine c_ifB rfl rfl (fun hb148 => ?_) (fun hb148 => ?_)
                · -- low = true
                  exact absurd (hb107.symm.trans hb148) (by decide)
                · -- low = false
                  refine wp_skip ?_
                  refine hK146 _ _ ?_
                  refine c_seq fun KhK149 hK149 => ?_
                  refine c_reg ?_
                  refine op_build (r := [.int .i64 2, .int .i64 0]) ty143 szs143 rfl rfl rfl rfl rfl ?_
                  refine op_store (v := .agg #[.int .i64 2, .int .i64 0]) (cs' := [.int .i64 2, .int .i64 0]) ty143 rfl rfl rfl rfl hx7 rfl rfl rfl fun w150 u151 hz152 hx7' => ?_
                  have e153 := u151.evo (m := (β2 :: [])) (List.forall_mem_singleton.2 List.mem_cons_self)
                  refine wpList_nil ?_
                  refine hK149 _ _ ?_
                  refine wp_ret ?_
                  have hr154 : 2 = (Pk.rword x0).K := by rw [hi78]; first | (simp [drop_end (l := sbytes x0) (k := k) (by first | omega | (rw [bytes_length]; omega)), Pk.wordEnd, Pk.wordsT, Pk.smallWords, Pk.anyL_true, Pk.anyL, hb19, hb40, hb63, hi77, hb81, hb107, hb138, hb148]; done) | (simp [Pk.rword, Pk.wordsT, Pk.smallWords, hb19, hb40, hb63, hi77, hb81, hb107, hb138, hb148]; done)
                  have hr155 : 0 = (Pk.rword x0).E := by rw [hi78]; first | (simp [drop_end (l := sbytes x0) (k := k) (by first | omega | (rw [bytes_length]; omega)), Pk.wordEnd, Pk.wordsT, Pk.smallWords, Pk.anyL_true, Pk.anyL, hb19, hb40, hb63, hi77, hb81, hb107, hb138, hb148]; done) | (simp [Pk.rword, Pk.wordsT, Pk.smallWords, hb19, hb40, hb63, hi77, hb81, hb107, hb138, hb148]; done)
                  exact retG (rs := [.cell 2 143]) (vs := [.agg #[.int .i64 2, .int .i64 0]]) Try.results134 ⟨resC (ds := [.int .i64 2, .int .i64 0]) ty143 rfl rfl rfl hx7' rfl rfl, trivial⟩ ⟨agg_eq (lc (congrArg (Value.int .i64) hr154) (lc (congrArg (Value.int .i64) hr155) (rfl))), ((((((((e8.trans e14).trans e18).trans e34).trans e39).trans e57).trans e62).trans e76).trans e153).old⟩
set_option maxHeartbeats 1000000 in
theorem c96 {M : List Nat} {w : World} {x0 : ByteArray} (hM : Lo M w) (p0 : x0.size < 4611686018427387904) : Calls Try.prog 96 #[.string x0] w (Ret fun v w' => v = .agg #[.int .i64 ((Pk.rshape x0).K), .int .i64 ((Pk.rshape x0).E)] ∧ Upd [] w w') := by
  refine enter (l := [.string x0]) Try.func96 rfl Try.ntmps96 rfl ?_
  refine c_seq fun KhK1 hK1 => ?_
  refine c_reg ?_
  refine op_alloc (zs := [.int .i64 0, .int .i64 0]) ty143 rfl rfl fun β2 w3 hβ4 u5 hz6 hx7 => ?_
  have e8 := u5.evoN (m := []) hβ4 hz6
  refine wpList_nil ?_
  refine hK1 _ _ ?_
  refine c_seq fun KhK9 hK9 => ?_
  refine c_seq fun KhK10 hK10 => ?_
  refine c_reg ?_
  refine op_call (args := []) cal130 rfl rfl rfl (c130 (e8.loM hM)) ?_
  rintro _ w11 ⟨a_r13, c_r13, rfl, h_r13, u12⟩
  have lh_r13 := h_r13.lt63
  have e14 := u12.evo0 (m := (β2 :: []))
  replace hx7 := hx7.mono0 u12
  refine op_move (v := .string x0) rfl rfl rfl ?_
  refine op_call (args := [.slice a_r13 (Pk.rsigns).length c_r13, .string x0]) cal129 rfl rfl rfl (c129 ((e8.trans e14).loM hM) h_r13) ?_
  rintro _ w15 ⟨rfl, u16⟩
  have e18 := u16.evo0 (m := (β2 :: []))
  replace hx7 := hx7.mono0 u16
  refine wpList_nil ?_
  refine hK10 _ _ ?_
  refine c_ifB rfl rfl (fun hb19 => ?_) (fun hb19 => ?_)
  · -- (Pk.rhas (Pk.rsigns) x0) = true
    refine c_seq fun KhK20 hK20 => ?_
    refine c_reg ?_
    refine op_build (r := [.int .i64 5, .int .i64 0]) ty143 szs143 rfl rfl rfl rfl rfl ?_
    refine op_store (v := .agg #[.int .i64 5, .int .i64 0]) (cs' := [.int .i64 5, .int .i64 0]) ty143 rfl rfl rfl rfl hx7 rfl rfl rfl fun w21 u22 hz23 hx7' => ?_
    have e24 := u22.evo (m := (β2 :: [])) (List.forall_mem_singleton.2 List.mem_cons_self)
    refine wpList_nil ?_
    refine hK20 _ _ ?_
    refine wp_ret ?_
    have hr25 : 5 = (Pk.rshape x0).K := by simp [Pk.rshape, hb19, -ByteArray.size_eq_zero_iff, -Int.natCast_eq_zero]
    have hr26 : 0 = (Pk.rshape x0).E := by simp [Pk.rshape, hb19, -ByteArray.size_eq_zero_iff, -Int.natCast_eq_zero]
    exact retG (rs := [.cell 2 143]) (vs := [.agg #[.int .i64 5, .int .i64 0]]) Try.results96 ⟨resC (ds := [.int .i64 5, .int .i64 0]) ty143 rfl rfl rfl hx7' rfl rfl, trivial⟩ ⟨agg_eq (lc (congrArg (Value.int .i64) hr25) (lc (congrArg (Value.int .i64) hr26) (rfl))), (((e8.trans e14).trans e18).trans e24).old⟩
  · -- (Pk.rhas (Pk.rsigns) x0) = false
    refine wp_skip ?_
    refine hK9 _ _ ?_
    refine c_seq fun KhK27 hK27 => ?_
    refine c_seq fun KhK28 hK28 => ?_
    refine c_reg ?_
    refine op_move (v := .string x0) rfl rfl rfl ?_
    refine op_lenS ty9.und rfl rfl rfl ?_
    refine op_eq rfl rfl rfl rfl ?_
    refine op_move (v := .bool (decide ((x0.size : Int) = 0))) rfl rfl rfl ?_
    refine op_part 11 rfl (fun hb29 => ?_) (fun hb29 => ?_)
    · -- (x0.size : Int) = 0
      refine op_not rfl ?_
      refine op_not rfl ?_
      refine op_not rfl ?_
      refine op_not rfl ?_
      refine op_not rfl ?_
      refine op_pickT (v := .bool true) rfl rfl rfl rfl ?_
      refine op_move (v := .bool true) rfl rfl rfl ?_
      refine op_not rfl ?_
      refine op_not rfl ?_
      refine op_not rfl ?_
      refine op_pickT (v := .bool true) rfl rfl rfl rfl ?_
      refine wpList_nil ?_
      refine hK28 _ _ ?_
      refine c_ifT rfl rfl ?_
      refine c_seq fun KhK30 hK30 => ?_
      refine c_reg ?_
      refine op_build (r := [.int .i64 0, .int .i64 2]) ty143 szs143 rfl rfl rfl rfl rfl ?_
      refine op_store (v := .agg #[.int .i64 0, .int .i64 2]) (cs' := [.int .i64 0, .int .i64 2]) ty143 rfl rfl rfl rfl hx7 rfl rfl rfl fun w31 u32 hz33 hx7' => ?_
      have e34 := u32.evo (m := (β2 :: [])) (List.forall_mem_singleton.2 List.mem_cons_self)
      refine wpList_nil ?_
      refine hK30 _ _ ?_
      refine wp_ret ?_
      have hr35 : 0 = (Pk.rshape x0).K := by simp [Pk.rshape, hb19, hb29, -ByteArray.size_eq_zero_iff, -Int.natCast_eq_zero]
      have hr36 : 2 = (Pk.rshape x0).E := by simp [Pk.rshape, hb19, hb29, -ByteArray.size_eq_zero_iff, -Int.natCast_eq_zero]
      exact retG (rs := [.cell 2 143]) (vs := [.agg #[.int .i64 0, .int .i64 2]]) Try.results96 ⟨resC (ds := [.int .i64 0, .int .i64 2]) ty143 rfl rfl rfl hx7' rfl rfl, trivial⟩ ⟨agg_eq (lc (congrArg (Value.int .i64) hr35) (lc (congrArg (Value.int .i64) hr36) (rfl))), (((e8.trans e14).trans e18).trans e34).old⟩
    · -- ¬ ((x0.size : Int) = 0)
      refine op_move (v := .string x0) rfl rfl rfl ?_
      refine op_call (args := [.string x0, .int .i64 0]) cal131 rfl rfl rfl (c131 (((e8.trans e14).trans e18).loM hM) (by omega) (by omega) (by omega)) ?_
      rintro _ w37 ⟨rfl, u38⟩
      have e40 := u38.evo0 (m := (β2 :: []))
      replace hx7 := hx7.mono0 u38
      refine op_move (v := .string x0) rfl rfl rfl ?_
      refine op_lenS ty9.und rfl rfl rfl ?_
      refine op_lss rfl rfl rfl rfl ?_
      refine op_pickF (v := .bool (decide ((Pk.run x0 0) < (x0.size : Int)))) rfl rfl rfl rfl ?_
      refine op_move (v := .bool (decide ((Pk.run x0 0) < (x0.size : Int)))) rfl rfl rfl ?_
      refine op_part 18 rfl (fun hb41 => ?_) (fun hb41 => ?_)
      · -- (Pk.run x0 0) < (x0.size : Int)
        refine op_not rfl ?_
        refine op_not rfl ?_
        refine op_not rfl ?_
        refine op_pickT (v := .bool true) rfl rfl rfl rfl ?_
        refine wpList_nil ?_
        refine hK28 _ _ ?_
        refine c_ifT rfl rfl ?_
        refine c_seq fun KhK42 hK42 => ?_
        refine c_reg ?_
        refine op_build (r := [.int .i64 0, .int .i64 2]) ty143 szs143 rfl rfl rfl rfl rfl ?_
        refine op_store (v := .agg #[.int .i64 0, .int .i64 2]) (cs' := [.int .i64 0, .int .i64 2]) ty143 rfl rfl rfl rfl hx7 rfl rfl rfl fun w43 u44 hz45 hx7' => ?_
        have e46 := u44.evo (m := (β2 :: [])) (List.forall_mem_singleton.2 List.mem_cons_self)
        refine wpList_nil ?_
        refine hK42 _ _ ?_
        refine wp_ret ?_
        have hr47 : 0 = (Pk.rshape x0).K := by simp [Pk.rshape, hb19, hb29, hb41, -ByteArray.size_eq_zero_iff, -Int.natCast_eq_zero]
        have hr48 : 2 = (Pk.rshape x0).E := by simp [Pk.rshape, hb19, hb29, hb41, -ByteArray.size_eq_zero_iff, -Int.natCast_eq_zero]
        exact retG (rs := [.cell 2 143]) (vs := [.agg #[.int .i64 0, .int .i64 2]]) Try.results96 ⟨resC (ds := [.int .i64 0, .int .i64 2]) ty143 rfl rfl rfl hx7' rfl rfl, trivial⟩ ⟨agg_eq (lc (congrArg (Value.int .i64) hr47) (lc (congrArg (Value.int .i64) hr48) (rfl))), ((((e8.trans e14).trans e18).trans e40).trans e46).old⟩
      · -- ¬ ((Pk.run x0 0) < (x0.size : Int))
        refine op_move (v := .string x0) rfl rfl rfl ?_
        refine op_indexSN (j := 0) ty9.und rfl rfl rfl rfl (by first | omega | (have := bsz (by assumption); omega)) ?_
        have hx49 := bytes_get (s := x0) (k := 0) (by first | omega | (have := bsz (by assumption); omega))
        have lt50 := (byteAt x0 0).toNat_lt
        refine op_eq rfl rfl rfl rfl ?_
        refine op_pickF (v := .bool (decide (((byteAt x0 0).toNat : Int) = 95))) rfl rfl rfl rfl ?_
        refine wpList_nil ?_
        refine hK28 _ _ ?_
        refine c_if rfl rfl (fun hb51 => ?_) (fun hb51 => ?_)
        · -- ((byteAt x0 0).toNat : Int) = 95
          refine c_seq fun KhK52 hK52 => ?_
          refine c_reg ?_
          refine op_build (r := [.int .i64 0, .int .i64 2]) ty143 szs143 rfl rfl rfl rfl rfl ?_
          refine op_store (v := .agg #[.int .i64 0, .int .i64 2]) (cs' := [.int .i64 0, .int .i64 2]) ty143 rfl rfl rfl rfl hx7 rfl rfl rfl fun w53 u54 hz55 hx7' => ?_
          have e56 := u54.evo (m := (β2 :: [])) (List.forall_mem_singleton.2 List.mem_cons_self)
          refine wpList_nil ?_
          refine hK52 _ _ ?_
          refine wp_ret ?_
          have hr57 : 0 = (Pk.rshape x0).K := by simp [Pk.rshape, hb19, hb29, hb41, hx49, hb51, -ByteArray.size_eq_zero_iff, -Int.natCast_eq_zero]
          have hr58 : 2 = (Pk.rshape x0).E := by simp [Pk.rshape, hb19, hb29, hb41, hx49, hb51, -ByteArray.size_eq_zero_iff, -Int.natCast_eq_zero]
          exact retG (rs := [.cell 2 143]) (vs := [.agg #[.int .i64 0, .int .i64 2]]) Try.results96 ⟨resC (ds := [.int .i64 0, .int .i64 2]) ty143 rfl rfl rfl hx7' rfl rfl, trivial⟩ ⟨agg_eq (lc (congrArg (Value.int .i64) hr57) (lc (congrArg (Value.int .i64) hr58) (rfl))), ((((e8.trans e14).trans e18).trans e40).trans e56).old⟩
        · -- ¬ (((byteAt x0 0).toNat : Int) = 95)
          refine wp_skip ?_
          refine hK27 _ _ ?_
          refine c_seq fun KhK59 hK59 => ?_
          refine c_seq fun KhK60 hK60 => ?_
          refine c_reg ?_
          refine op_move (v := .string x0) rfl rfl rfl ?_
          refine op_indexSN (j := 0) ty9.und rfl rfl rfl rfl (by first | omega | (have := bsz (by assumption); omega)) ?_
          have hx61 := bytes_get (s := x0) (k := 0) (by first | omega | (have := bsz (by assumption); omega))
          have lt62 := (byteAt x0 0).toNat_lt
          refine op_call (args := [.int .u8 (byteAt x0 0).toNat]) cal132 rfl rfl rfl (c132 (x0 := (byteAt x0 0)) ((((e8.trans e14).trans e18).trans e40).loM hM)) ?_
          rintro _ w63 ⟨rfl, u64⟩
          have e66 := u64.evo0 (m := (β2 :: []))
          replace hx7 := hx7.mono0 u64
          refine wpList_nil ?_
          refine hK60 _ _ ?_
          refine c_ifB rfl rfl (fun hb67 => ?_) (fun hb67 => ?_)
          · -- (Pk.isDigByte (byteAt x0 0)) = true
            refine c_seq fun KhK68 hK68 => ?_
            refine c_reg ?_
            refine op_move (v := .string x0) rfl rfl rfl ?_
            refine op_call (args := [.string x0]) cal133 rfl rfl rfl (c133 (((((e8.trans e14).trans e18).trans e40).trans e66).loM hM) (by omega) (by omega)) ?_
            rintro _ w69 ⟨rfl, u70⟩
            have e72 := u70.evo0 (m := (β2 :: []))
            replace hx7 := hx7.mono0 u70
            refine op_alloc (zs := [.int .i64 0, .int .i64 0]) ty186 rfl rfl fun β73 w74 hβ75 u76 hz77 hx78 => ?_
            have e79 := u76.evoN (m := (β2 :: [])) hβ75 hz77
            have ne80 : β2 ≠ β73 := by have := hx7.lt; omega
            replace hx7 := hx7.mono0 u76
            refine op_store (v := .agg #[.int .i64 ((Pk.rnumber x0).N), .int .i64 ((Pk.rnumber x0).E)]) (cs' := [.int .i64 ((Pk.rnumber x0).N), .int .i64 ((Pk.rnumber x0).E)]) ty186 rfl rfl rfl rfl hx78 rfl rfl rfl fun w81 u82 hz83 hx78' => ?_
            have e84 := u82.evo (m := (β73 :: (β2 :: []))) (List.forall_mem_singleton.2 List.mem_cons_self)
            replace hx7 := hx7.mono u82 (fun h => (ne80) (List.mem_singleton.1 h))
            refine wpList_nil ?_
            refine hK68 _ _ ?_
            refine c_seq fun KhK85 hK85 => ?_
            refine c_seq fun KhK86 hK86 => ?_
            refine c_reg ?_
            refine op_fieldB fld186_1 rfl rfl rfl ?_
            refine op_loadB (v := .int .i64 ((Pk.rnumber x0).E)) ty30 rfl rfl rfl rfl hx78' rfl ?_
            refine op_neq rfl rfl rfl rfl ?_
            refine wpList_nil ?_
            refine hK86 _ _ ?_
            refine c_ifN rfl rfl (fun hb87 => ?_) (fun hb87 => ?_)
            · -- ¬ ((Pk.rnumber x0).E = 0)
              refine c_seq fun KhK88 hK88 => ?_
              refine c_reg ?_
              refine op_fieldB fld186_1 rfl rfl rfl ?_
              refine op_loadB (v := .int .i64 ((Pk.rnumber x0).E)) ty30 rfl rfl rfl rfl hx78' rfl ?_
              refine op_build (r := [.int .i64 0, .int .i64 ((Pk.rnumber x0).E)]) ty143 szs143 rfl rfl rfl rfl rfl ?_
              refine op_store (v := .agg #[.int .i64 0, .int .i64 ((Pk.rnumber x0).E)]) (cs' := [.int .i64 0, .int .i64 ((Pk.rnumber x0).E)]) ty143 rfl rfl rfl rfl hx7 rfl rfl rfl fun w89 u90 hz91 hx7' => ?_
              have e92 := u90.evo (m := (β73 :: (β2 :: []))) (List.forall_mem_singleton.2 (List.mem_cons_of_mem _ List.mem_cons_self))
              replace hx78' := hx78'.mono u90 (fun h => (Ne.symm ne80) (List.mem_singleton.1 h))
              refine wpList_nil ?_
              refine hK88 _ _ ?_
              refine wp_ret ?_
              have hr93 : 0 = (Pk.rshape x0).K := by simp [Pk.rshape, hb19, hb29, hb41, hx49, hb51, hx61, hb67, hb87, -ByteArray.size_eq_zero_iff, -Int.natCast_eq_zero]
              have hr94 : (Pk.rnumber x0).E = (Pk.rshape x0).E := by simp [Pk.rshape, hb19, hb29, hb41, hx49, hb51, hx61, hb67, hb87, -ByteArray.size_eq_zero_iff, -Int.natCast_eq_zero]
              exact retG (rs := [.cell 2 143]) (vs := [.agg #[.int .i64 0, .int .i64 ((Pk.rnumber x0).E)]]) Try.results96 ⟨resC (ds := [.int .i64 0, .int .i64 ((Pk.rnumber x0).E)]) ty143 rfl rfl rfl hx7' rfl rfl, trivial⟩ ⟨agg_eq (lc (congrArg (Value.int .i64) hr93) (lc (congrArg (Value.int .i64) hr94) (rfl))), ((((((((e8.trans e14).trans e18).trans e40).trans e66).trans e72).trans e79).trans e84).trans e92).old⟩
            · -- (Pk.rnumber x0).E = 0
              refine wp_skip ?_
              refine hK85 _ _ ?_
              refine c_seq fun KhK95 hK95 => ?_
              refine c_reg ?_
              refine op_build (r := [.int .i64 4, .int .i64 0]) ty143 szs143 rfl rfl rfl rfl rfl ?_
              refine op_store (v := .agg #[.int .i64 4, .int .i64 0]) (cs' := [.int .i64 4, .int .i64 0]) ty143 rfl rfl rfl rfl hx7 rfl rfl rfl fun w96 u97 hz98 hx7' => ?_
              have e99 := u97.evo (m := (β73 :: (β2 :: []))) (List.forall_mem_singleton.2 (List.mem_cons_of_mem _ List.mem_cons_self))
              replace hx78' := hx78'.mono u97 (fun h => (Ne.symm ne80) (List.mem_singleton.1 h))
              refine wpList_nil ?_
              refine hK95 _ _ ?_
              refine wp_ret ?_
              have hr100 : 4 = (Pk.rshape x0).K := by simp [Pk.rshape, hb19, hb29, hb41, hx49, hb51, hx61, hb67, hb87, -ByteArray.size_eq_zero_iff, -Int.natCast_eq_zero]
              have hr101 : 0 = (Pk.rshape x0).E := by simp [Pk.rshape, hb19, hb29, hb41, hx49, hb51, hx61, hb67, hb87, -ByteArray.size_eq_zero_iff, -Int.natCast_eq_zero]
              exact retG (rs := [.cell 2 143]) (vs := [.agg #[.int .i64 4, .int .i64 0]]) Try.results96 ⟨resC (ds := [.int .i64 4, .int .i64 0]) ty143 rfl rfl rfl hx7' rfl rfl, trivial⟩ ⟨agg_eq (lc (congrArg (Value.int .i64) hr100) (lc (congrArg (Value.int .i64) hr101) (rfl))), ((((((((e8.trans e14).trans e18).trans e40).trans e66).trans e72).trans e79).trans e84).trans e99).old⟩
          · -- (Pk.isDigByte (byteAt x0 0)) = false
            refine wp_skip ?_
            refine hK59 _ _ ?_
            refine c_seq fun KhK102 hK102 => ?_
            refine c_reg ?_
            refine op_move (v := .string x0) rfl rfl rfl ?_
            refine op_call (args := [.string x0]) cal134 rfl rfl rfl (c134 (((((e8.trans e14).trans e18).trans e40).trans e66).loM hM) (by omega)) ?_
            rintro _ w103 ⟨rfl, u104⟩
            have e106 := u104.evo0 (m := (β2 :: []))
            replace hx7 := hx7.mono0 u104
            refine op_store (v := .agg #[.int .i64 ((Pk.rword x0).K), .int .i64 ((Pk.rword x0).E)]) (cs' := [.int .i64 ((Pk.rword x0).K), .int .i64 ((Pk.rword x0).E)]) ty143 rfl rfl rfl rfl hx7 rfl rfl rfl fun w107 u108 hz109 hx7' => ?_
            have e110 := u108.evo (m := (β2 :: [])) (List.forall_mem_singleton.2 List.mem_cons_self)
            refine wpList_nil ?_
            refine hK102 _ _ ?_
            refine wp_ret ?_
            have hr111 : (Pk.rword x0).K = (Pk.rshape x0).K := by simp [Pk.rshape, hb19, hb29, hb41, hx49, hb51, hx61, hb67, -ByteArray.size_eq_zero_iff, -Int.natCast_eq_zero]
            have hr112 : (Pk.rword x0).E = (Pk.rshape x0).E := by simp [Pk.rshape, hb19, hb29, hb41, hx49, hb51, hx61, hb67, -ByteArray.size_eq_zero_iff, -Int.natCast_eq_zero]
            exact retG (rs := [.cell 2 143]) (vs := [.agg #[.int .i64 ((Pk.rword x0).K), .int .i64 ((Pk.rword x0).E)]]) Try.results96 ⟨resC (ds := [.int .i64 ((Pk.rword x0).K), .int .i64 ((Pk.rword x0).E)]) ty143 rfl rfl rfl hx7' rfl rfl, trivial⟩ ⟨agg_eq (lc (congrArg (Value.int .i64) hr111) (lc (congrArg (Value.int .i64) hr112) (rfl))), ((((((e8.trans e14).trans e18).trans e40).trans e66).trans e106).trans e110).old⟩
set_option maxHeartbeats 1000000 in
theorem c54 {M : List Nat} {w : World} {x0 : ByteArray} (hM : Lo M w) (p0 : x0.size < 4611686018427387904) : Calls Try.prog 54 #[.string x0] w (Ret fun v w' => v = .bool (Pk.rclassed x0) ∧ Upd [] w w') := by
  refine enter (l := [.string x0]) Try.func54 rfl Try.ntmps54 rfl ?_
  refine c_seq fun KhK1 hK1 => ?_
  refine c_reg ?_
  refine op_assign (v := .bool false) rfl rfl rfl ?_
  refine wpList_nil ?_
  refine hK1 _ _ ?_
  refine c_seq fun KhK2 hK2 => ?_
  refine c_reg ?_
  refine op_move (v := .string x0) rfl rfl rfl ?_
  refine op_call (args := [.string x0]) cal96 rfl rfl rfl (c96 ((Evo.refl [] w).loM hM) (by omega)) ?_
  rintro _ w3 ⟨rfl, u4⟩
  have e6 := u4.evo0 (m := [])
  refine op_alloc (zs := [.int .i64 0, .int .i64 0]) ty143 rfl rfl fun β7 w8 hβ9 u10 hz11 hx12 => ?_
  have e13 := u10.evoN (m := []) hβ9 hz11
  refine op_store (v := .agg #[.int .i64 ((Pk.rshape x0).K), .int .i64 ((Pk.rshape x0).E)]) (cs' := [.int .i64 ((Pk.rshape x0).K), .int .i64 ((Pk.rshape x0).E)]) ty143 rfl rfl rfl rfl hx12 rfl rfl rfl fun w14 u15 hz16 hx12' => ?_
  have e17 := u15.evo (m := (β7 :: [])) (List.forall_mem_singleton.2 List.mem_cons_self)
  refine wpList_nil ?_
  refine hK2 _ _ ?_
  refine c_seq fun KhK18 hK18 => ?_
  refine c_reg ?_
  refine op_fieldB fld143_1 rfl rfl rfl ?_
  refine op_loadB (v := .int .i64 ((Pk.rshape x0).E)) ty30 rfl rfl rfl rfl hx12' rfl ?_
  refine op_eq rfl rfl rfl rfl ?_
  refine op_move (v := .bool (decide ((Pk.rshape x0).E = 0))) rfl rfl rfl ?_
  refine op_part 9 rfl (fun hb19 => ?_) (fun hb19 => ?_)
  · -- (Pk.rshape x0).E = 0
    refine op_fieldB fld143_0 rfl rfl rfl ?_
    refine op_loadB (v := .int .i64 ((Pk.rshape x0).K)) ty3 rfl rfl rfl rfl hx12' rfl ?_
    refine op_eq rfl rfl rfl rfl ?_
    refine op_pickT (v := .bool (decide ((Pk.rshape x0).K = 2))) rfl rfl rfl rfl ?_
    refine op_move (v := .bool (decide ((Pk.rshape x0).K = 2))) rfl rfl rfl ?_
    refine op_part 14 rfl (fun hb20 => ?_) (fun hb20 => ?_)
    · -- (Pk.rshape x0).K = 2
      refine op_move (v := .string x0) rfl rfl rfl ?_
      refine op_neqS rfl rfl rfl rfl ?_
      refine op_pickT (v := .bool (decide (¬ (x0 = (⟨#[73, 78, 84, 69, 71, 69, 82]⟩ : ByteArray))))) rfl rfl rfl rfl ?_
      refine op_move (v := .bool (decide (¬ (x0 = (⟨#[73, 78, 84, 69, 71, 69, 82]⟩ : ByteArray))))) rfl rfl rfl ?_
      refine op_partN 18 rfl (fun hb21 => ?_) (fun hb21 => ?_)
      · -- ¬ (x0 = (⟨#[73, 78, 84, 69, 71, 69, 82]⟩ : ByteArray))
        refine op_move (v := .string x0) rfl rfl rfl ?_
        refine op_neqS rfl rfl rfl rfl ?_
        refine op_pickT (v := .bool (decide (¬ (x0 = (⟨#[66, 79, 79, 76, 69, 65, 78]⟩ : ByteArray))))) rfl rfl rfl rfl ?_
        refine op_move (v := .bool (decide (¬ (x0 = (⟨#[66, 79, 79, 76, 69, 65, 78]⟩ : ByteArray))))) rfl rfl rfl ?_
        refine op_partN 22 rfl (fun hb22 => ?_) (fun hb22 => ?_)
        · -- ¬ (x0 = (⟨#[66, 79, 79, 76, 69, 65, 78]⟩ : ByteArray))
          refine op_move (v := .string x0) rfl rfl rfl ?_
          refine op_neqS rfl rfl rfl rfl ?_
          refine op_pickT (v := .bool (decide (¬ (x0 = (⟨#[65, 78, 89]⟩ : ByteArray))))) rfl rfl rfl rfl ?_
          refine op_move (v := .bool (decide (¬ (x0 = (⟨#[65, 78, 89]⟩ : ByteArray))))) rfl rfl rfl ?_
          refine op_partN 26 rfl (fun hb23 => ?_) (fun hb23 => ?_)
          · -- ¬ (x0 = (⟨#[65, 78, 89]⟩ : ByteArray))
            refine op_move (v := .string x0) rfl rfl rfl ?_
            refine op_neqS rfl rfl rfl rfl ?_
            refine op_pickT (v := .bool (decide (¬ (x0 = (⟨#[78, 79, 78, 69]⟩ : ByteArray))))) rfl rfl rfl rfl ?_
            refine op_assign (v := .bool (decide (¬ (x0 = (⟨#[78, 79, 78, 69]⟩ : ByteArray))))) rfl rfl rfl ?_
            refine wpList_nil ?_
            refine hK18 _ _ ?_
            refine wp_ret ?_
            have hr24 : (decide (¬ (x0 = (⟨#[78, 79, 78, 69]⟩ : ByteArray)))) = (Pk.rclassed x0) := by simp [ Pk.rclassed, hb19, hb20, hb21, hb22, hb23]
            exact ret1 Try.results54 rfl ⟨congrArg Value.bool hr24, ((e6.trans e13).trans e17).old⟩
          · -- x0 = (⟨#[65, 78, 89]⟩ : ByteArray)
            refine op_not rfl ?_
            refine op_not rfl ?_
            refine op_pickF (v := .bool false) rfl rfl rfl rfl ?_
            refine op_assign (v := .bool false) rfl rfl rfl ?_
            refine wpList_nil ?_
            refine hK18 _ _ ?_
            refine wp_ret ?_
            have hr25 : false = (Pk.rclassed x0) := by simp [ Pk.rclassed, hb19, hb20, hb21, hb22, hb23]
            exact ret1 Try.results54 rfl ⟨congrArg Value.bool hr25, ((e6.trans e13).trans e17).old⟩
        · -- x0 = (⟨#[66, 79, 79, 76, 69, 65, 78]⟩ : ByteArray)
          refine op_not rfl ?_
          refine op_not rfl ?_
          refine op_pickF (v := .bool false) rfl rfl rfl rfl ?_
          refine op_move (v := .bool false) rfl rfl rfl ?_
          refine op_not rfl ?_
          refine op_not rfl ?_
          refine op_pickF (v := .bool false) rfl rfl rfl rfl ?_
          refine op_assign (v := .bool false) rfl rfl rfl ?_
          refine wpList_nil ?_
          refine hK18 _ _ ?_
          refine wp_ret ?_
          have hr26 : false = (Pk.rclassed x0) := by simp [ Pk.rclassed, hb19, hb20, hb21, hb22]
          exact ret1 Try.results54 rfl ⟨congrArg Value.bool hr26, ((e6.trans e13).trans e17).old⟩
      · -- x0 = (⟨#[73, 78, 84, 69, 71, 69, 82]⟩ : ByteArray)
        refine op_not rfl ?_
        refine op_not rfl ?_
        refine op_pickF (v := .bool false) rfl rfl rfl rfl ?_
        refine op_move (v := .bool false) rfl rfl rfl ?_
        refine op_not rfl ?_
        refine op_not rfl ?_
        refine op_pickF (v := .bool false) rfl rfl rfl rfl ?_
        refine op_move (v := .bool false) rfl rfl rfl ?_
        refine op_not rfl ?_
        refine op_not rfl ?_
        refine op_pickF (v := .bool false) rfl rfl rfl rfl ?_
        refine op_assign (v := .bool false) rfl rfl rfl ?_
        refine wpList_nil ?_
        refine hK18 _ _ ?_
        refine wp_ret ?_
        have hr27 : false = (Pk.rclassed x0) := by simp [ Pk.rclassed, hb19, hb20, hb21]
        exact ret1 Try.results54 rfl ⟨congrArg Value.bool hr27, ((e6.trans e13).trans e17).old⟩
    · -- ¬ ((Pk.rshape x0).K = 2)
      refine op_not rfl ?_
      refine op_not rfl ?_
      refine op_pickF (v := .bool false) rfl rfl rfl rfl ?_
      refine op_move (v := .bool false) rfl rfl rfl ?_
      refine op_not rfl ?_
      refine op_not rfl ?_
      refine op_pickF (v := .bool false) rfl rfl rfl rfl ?_
      refine op_move (v := .bool false) rfl rfl rfl ?_
      refine op_not rfl ?_
      refine op_not rfl ?_
      refine op_pickF (v := .bool false) rfl rfl rfl rfl ?_
      refine op_move (v := .bool false) rfl rfl rfl ?_
      refine op_not rfl ?_
      refine op_not rfl ?_
      refine op_pickF (v := .bool false) rfl rfl rfl rfl ?_
      refine op_assign (v := .bool false) rfl rfl rfl ?_
      refine wpList_nil ?_
      refine hK18 _ _ ?_
      refine wp_ret ?_
      have hr28 : false = (Pk.rclassed x0) := by simp [ Pk.rclassed, hb19, hb20]
      exact ret1 Try.results54 rfl ⟨congrArg Value.bool hr28, ((e6.trans e13).trans e17).old⟩
  · -- ¬ ((Pk.rshape x0).E = 0)
    refine op_not rfl ?_
    refine op_not rfl ?_
    refine op_not rfl ?_
    refine op_pickF (v := .bool false) rfl rfl rfl rfl ?_
    refine op_move (v := .bool false) rfl rfl rfl ?_
    refine op_not rfl ?_
    refine op_not rfl ?_
    refine op_pickF (v := .bool false) rfl rfl rfl rfl ?_
    refine op_move (v := .bool false) rfl rfl rfl ?_
    refine op_not rfl ?_
    refine op_not rfl ?_
    refine op_pickF (v := .bool false) rfl rfl rfl rfl ?_
    refine op_move (v := .bool false) rfl rfl rfl ?_
    refine op_not rfl ?_
    refine op_not rfl ?_
    refine op_pickF (v := .bool false) rfl rfl rfl rfl ?_
    refine op_move (v := .bool false) rfl rfl rfl ?_
    refine op_not rfl ?_
    refine op_not rfl ?_
    refine op_pickF (v := .bool false) rfl rfl rfl rfl ?_
    refine op_assign (v := .bool false) rfl rfl rfl ?_
    refine wpList_nil ?_
    refine hK18 _ _ ?_
    refine wp_ret ?_
    have hr29 : false = (Pk.rclassed x0) := by simp [ Pk.rclassed, hb19]
    exact ret1 Try.results54 rfl ⟨congrArg Value.bool hr29, ((e6.trans e13).trans e17).old⟩
set_option maxHeartbeats 1000000 in
theorem c56 {M : List Nat} {w : World} {x0 : ByteArray} (hM : Lo M w)  : Calls Try.prog 56 #[.string x0] w (Ret fun v w' => v = .bool (Pk.rsmallNamed x0) ∧ Upd [] w w') := by
  refine enter (l := [.string x0]) Try.func56 rfl Try.ntmps56 rfl ?_
  refine c_seq fun KhK1 hK1 => ?_
  refine c_reg ?_
  refine op_assign (v := .bool false) rfl rfl rfl ?_
  refine wpList_nil ?_
  refine hK1 _ _ ?_
  refine c_seq fun KhK2 hK2 => ?_
  refine c_seq fun KhK3 hK3 => ?_
  refine c_reg ?_
  refine op_move (v := .string x0) rfl rfl rfl ?_
  refine op_lenS ty9.und rfl rfl rfl ?_
  refine op_lss rfl rfl rfl rfl ?_
  refine op_move (v := .bool (decide ((x0.size : Int) < 1))) rfl rfl rfl ?_
  refine op_part 8 rfl (fun hb4 => ?_) (fun hb4 => ?_)
  · -- (x0.size : Int) < 1
    refine op_not rfl ?_
    refine op_not rfl ?_
    refine op_not rfl ?_
    refine op_pickT (v := .bool true) rfl rfl rfl rfl ?_
    refine op_move (v := .bool true) rfl rfl rfl ?_
    refine op_not rfl ?_
    refine op_not rfl ?_
    refine op_not rfl ?_
    refine op_pickT (v := .bool true) rfl rfl rfl rfl ?_
    refine op_move (v := .bool true) rfl rfl rfl ?_
    refine op_not rfl ?_
    refine op_not rfl ?_
    refine op_not rfl ?_
    refine op_pickT (v := .bool true) rfl rfl rfl rfl ?_
    refine wpList_nil ?_
    refine hK3 _ _ ?_
    refine c_ifT rfl rfl ?_
    refine c_seq fun KhK5 hK5 => ?_
    refine c_reg ?_
    refine op_assign (v := .bool false) rfl rfl rfl ?_
    refine wpList_nil ?_
    refine hK5 _ _ ?_
    refine wp_ret ?_
    have hr6 : false = (Pk.rsmallNamed x0) := by simp [ Pk.allSmall, Pk.okSmall, Pk.rsmallNamed, hb4]
    exact ret1 Try.results56 rfl ⟨congrArg Value.bool hr6, (Evo.refl [] w).old⟩
  · -- ¬ ((x0.size : Int) < 1)
    refine op_move (v := .string x0) rfl rfl rfl ?_
    refine op_lenS ty9.und rfl rfl rfl ?_
    refine op_gtr rfl rfl rfl rfl ?_
    refine op_pickF (v := .bool (decide (20 < (x0.size : Int)))) rfl rfl rfl rfl ?_
    refine op_move (v := .bool (decide (20 < (x0.size : Int)))) rfl rfl rfl ?_
    refine op_part 13 rfl (fun hb7 => ?_) (fun hb7 => ?_)
    · -- 20 < (x0.size : Int)
      refine op_not rfl ?_
      refine op_not rfl ?_
      refine op_not rfl ?_
      refine op_pickT (v := .bool true) rfl rfl rfl rfl ?_
      refine op_move (v := .bool true) rfl rfl rfl ?_
      refine op_not rfl ?_
      refine op_not rfl ?_
      refine op_not rfl ?_
      refine op_pickT (v := .bool true) rfl rfl rfl rfl ?_
      refine wpList_nil ?_
      refine hK3 _ _ ?_
      refine c_ifT rfl rfl ?_
      refine c_seq fun KhK8 hK8 => ?_
      refine c_reg ?_
      refine op_assign (v := .bool false) rfl rfl rfl ?_
      refine wpList_nil ?_
      refine hK8 _ _ ?_
      refine wp_ret ?_
      have hr9 : false = (Pk.rsmallNamed x0) := by simp [ Pk.allSmall, Pk.okSmall, Pk.rsmallNamed, hb4, hb7]
      exact ret1 Try.results56 rfl ⟨congrArg Value.bool hr9, (Evo.refl [] w).old⟩
    · -- ¬ (20 < (x0.size : Int))
      refine op_move (v := .string x0) rfl rfl rfl ?_
      refine op_indexSN (j := 0) ty9.und rfl rfl rfl rfl (by first | omega | (have := bsz (by assumption); omega)) ?_
      have hx10 := bytes_get (s := x0) (k := 0) (by first | omega | (have := bsz (by assumption); omega))
      have lt11 := (byteAt x0 0).toNat_lt
      refine op_lss rfl rfl rfl rfl ?_
      refine op_pickF (v := .bool (decide (((byteAt x0 0).toNat : Int) < 97))) rfl rfl rfl rfl ?_
      refine op_move (v := .bool (decide (((byteAt x0 0).toNat : Int) < 97))) rfl rfl rfl ?_
      refine op_part 18 rfl (fun hb12 => ?_) (fun hb12 => ?_)
      · -- ((byteAt x0 0).toNat : Int) < 97
        refine op_not rfl ?_
        refine op_not rfl ?_
        refine op_not rfl ?_
        refine op_pickT (v := .bool true) rfl rfl rfl rfl ?_
        refine wpList_nil ?_
        refine hK3 _ _ ?_
        refine c_ifT rfl rfl ?_
        refine c_seq fun KhK13 hK13 => ?_
        refine c_reg ?_
        refine op_assign (v := .bool false) rfl rfl rfl ?_
        refine wpList_nil ?_
        refine hK13 _ _ ?_
        refine wp_ret ?_
        have hr14 : false = (Pk.rsmallNamed x0) := by simp [drop_of hx10, Pk.allSmall, Pk.okSmall, Pk.rsmallNamed, hb4, hb7, hx10, hb12]
        exact ret1 Try.results56 rfl ⟨congrArg Value.bool hr14, (Evo.refl [] w).old⟩
      · -- ¬ (((byteAt x0 0).toNat : Int) < 97)
        refine op_move (v := .string x0) rfl rfl rfl ?_
        refine op_indexSN (j := 0) ty9.und rfl rfl rfl rfl (by first | omega | (have := bsz (by assumption); omega)) ?_
        have hx15 := bytes_get (s := x0) (k := 0) (by first | omega | (have := bsz (by assumption); omega))
        have lt16 := (byteAt x0 0).toNat_lt
        refine op_gtr rfl rfl rfl rfl ?_
        refine op_pickF (v := .bool (decide (122 < ((byteAt x0 0).toNat : Int)))) rfl rfl rfl rfl ?_
        refine wpList_nil ?_
        refine hK3 _ _ ?_
        refine c_if rfl rfl (fun hb17 => ?_) (fun hb17 => ?_)
        · -- 122 < ((byteAt x0 0).toNat : Int)
          refine c_seq fun KhK18 hK18 => ?_
          refine c_reg ?_
          refine op_assign (v := .bool false) rfl rfl rfl ?_
          refine wpList_nil ?_
          refine hK18 _ _ ?_
          refine wp_ret ?_
          have hr19 : false = (Pk.rsmallNamed x0) := by simp [drop_of hx10, drop_of hx15, Pk.allSmall, Pk.okSmall, Pk.rsmallNamed, hb4, hb7, hx10, hb12, hx15, hb17]
          exact ret1 Try.results56 rfl ⟨congrArg Value.bool hr19, (Evo.refl [] w).old⟩
        · -- ¬ (122 < ((byteAt x0 0).toNat : Int))
          refine wp_skip ?_
          refine hK2 _ _ ?_
          refine c_seq fun KhK20 hK20 => ?_
          refine c_seq fun KhK21 hK21 => ?_
          refine c_reg ?_
          refine op_assign (v := .int .i64 0) rfl rfl rfl ?_
          refine wpList_nil ?_
          refine hK21 _ _ ?_
          refine wp_block ?_
          refine c_loop (X := Nat) [2, 3, 4, 23, 24, 25, 26, 27, 28, 29, 30, 31, 32, 33, 34, 35, 36, 37, 38, 39, 40, 41, 42, 43, 44, 45, 46, 47, 48, 49, 50, 51, 52, 53, 54, 55, 56, 57, 58] (fun k => [(3, .int .i64 (k : Int))]) (fun k w1 => (k ≤ x0.size) ∧ (Pk.rsmallNamed x0 = (if Pk.allSmall ((sbytes x0).drop k) = true then decide (¬ x0 = ⟨#[116, 114, 117, 101]⟩) && decide (¬ x0 = ⟨#[102, 97, 108, 115, 101]⟩) && decide (¬ x0 = ⟨#[118, 111, 105, 100]⟩) && decide (¬ x0 = ⟨#[99, 117, 114, 114, 101, 110, 116]⟩) && decide (¬ x0 = ⟨#[114, 101, 115, 117, 108, 116]⟩) else false)) ∧ Evo [] w [] w1) (fun k => x0.size - k) (0) ⟨congrArg (Value.int .i64) (show 0 = ((0 : Nat) : Int) by omega), trivial⟩ ?_ ?_
          ·
            exact ⟨(by first | omega | simp), (by simp [Pk.rsmallNamed, hb4, hb7, hx10, hb12, hx15, hb17]), Evo.refl _ _⟩
          ·
            rintro k τ w22 ⟨hi24, hi25, e23⟩
            refine c_seq fun KhK26 hK26 => ?_
            refine c_seq fun KhK27 hK27 => ?_
            refine c_reg ?_
            refine op_move (v := .int .i64 (k : Int)) rfl rfl rfl ?_
            refine op_move (v := .string x0) rfl rfl rfl ?_
            refine op_lenS ty9.und rfl rfl rfl ?_
            refine op_lss rfl rfl rfl rfl ?_
            refine wpList_nil ?_
            refine hK27 _ _ ?_
            refine c_if rfl rfl (fun hb28 => ?_) (fun hb28 => ?_)
            · -- (k : Int) < (x0.size : Int)
              refine wp_skip ?_
              refine hK26 _ _ ?_
              refine c_seq fun KhK29 hK29 => ?_
              refine wp_block ?_
              refine c_seq fun KhK30 hK30 => ?_
              refine c_reg ?_
              refine op_move (v := .string x0) rfl rfl rfl ?_
              refine op_move (v := .int .i64 (k : Int)) rfl rfl rfl ?_
              refine op_indexSN (j := k) ty9.und rfl rfl rfl rfl (by first | omega | (have := bsz (by assumption); omega)) ?_
              have hx31 := bytes_get (s := x0) (k := k) (by first | omega | (have := bsz (by assumption); omega))
              have lt32 := (byteAt x0 k).toNat_lt
              refine op_geq rfl rfl rfl rfl ?_
              refine op_move (v := .bool (decide (97 ≤ ((byteAt x0 k).toNat : Int)))) rfl rfl rfl ?_
              refine op_part 33 rfl (fun hb33 => ?_) (fun hb33 => ?_)
              · -- 97 ≤ ((byteAt x0 k).toNat : Int)
                refine op_move (v := .string x0) rfl rfl rfl ?_
                refine op_move (v := .int .i64 (k : Int)) rfl rfl rfl ?_
                refine op_indexSN (j := k) ty9.und rfl rfl rfl rfl (by first | omega | (have := bsz (by assumption); omega)) ?_
                have hx34 := bytes_get (s := x0) (k := k) (by first | omega | (have := bsz (by assumption); omega))
                have lt35 := (byteAt x0 k).toNat_lt
                refine op_leq rfl rfl rfl rfl ?_
                refine op_pickT (v := .bool (decide (((byteAt x0 k).toNat : Int) ≤ 122))) rfl rfl rfl rfl ?_
                refine op_move (v := .bool (decide (((byteAt x0 k).toNat : Int) ≤ 122))) rfl rfl rfl ?_
                refine op_part 39 rfl (fun hb36 => ?_) (fun hb36 => ?_)
                · -- ((byteAt x0 k).toNat : Int) ≤ 122
                  refine op_not rfl ?_
                  refine op_not rfl ?_
                  refine op_not rfl ?_
                  refine op_not rfl ?_
                  refine op_not rfl ?_
                  refine op_not rfl ?_
                  refine op_not rfl ?_
                  refine op_not rfl ?_
                  refine op_not rfl ?_
                  refine op_not rfl ?_
                  refine op_pickT (v := .bool true) rfl rfl rfl rfl ?_
                  refine op_move (v := .bool true) rfl rfl rfl ?_
                  refine op_not rfl ?_
                  refine op_not rfl ?_
                  refine op_not rfl ?_
                  refine op_not rfl ?_
                  refine op_pickT (v := .bool true) rfl rfl rfl rfl ?_
                  refine op_assign (v := .bool true) rfl rfl rfl ?_
                  refine wpList_nil ?_
                  refine hK30 _ _ ?_
                  refine c_seq fun KhK37 hK37 => ?_
                  refine c_reg ?_
                  refine op_move (v := .bool true) rfl rfl rfl ?_
                  refine op_notB rfl rfl rfl ?_
                  refine wpList_nil ?_
                  refine hK37 _ _ ?_
                  refine c_ifF rfl rfl ?_
                  refine wp_skip ?_
                  refine hK29 _ _ ?_
                  refine c_reg ?_
                  refine op_move (v := .int .i64 (k : Int)) rfl rfl rfl ?_
                  refine op_add rfl rfl rfl rfl (by omega) ?_
                  refine op_assign (v := .int .i64 ((k : Int) + 1)) rfl rfl rfl ?_
                  refine wpList_nil ?_
                  repeat (with_reducible refine inBlock_normal ?_)
                  with_reducible refine then_normal ?_
                  exact ⟨(k + 1), (by first | omega | (dsimp only; omega)), ⟨(by first | omega | (simp only [List.length_append, List.length_cons, List.length_nil]; omega) | (rw [hi25]; simp [drop_of hx31, drop_of hx34, Pk.allSmall, Pk.okSmall, hb4, hb7, hx10, hb12, hx15, hb17, hi24, hb28, hx31, hb33, hx34, hb36])), (by rw [hi25]; simp [drop_of hx31, drop_of hx34, Pk.allSmall, Pk.okSmall, hb4, hb7, hx10, hb12, hx15, hb17, hi24, hb28, hx31, hb33, hx34, hb36]), (e23.drop (fun b hb => by simp [hb]))⟩, _, rfl, (by repeat first | exact agree.refl _ _ | refine agree.upd rfl ?_ | refine agree.upds rfl ?_ | refine agree.mix rfl ?_), ⟨congrArg (Value.int .i64) (show ((k : Int) + 1) = ((k + 1 : Nat) : Int) by omega), trivial⟩⟩
                · -- ¬ (((byteAt x0 k).toNat : Int) ≤ 122)
                  refine op_move (v := .string x0) rfl rfl rfl ?_
                  refine op_move (v := .int .i64 (k : Int)) rfl rfl rfl ?_
                  refine op_indexSN (j := k) ty9.und rfl rfl rfl rfl (by first | omega | (have := bsz (by assumption); omega)) ?_
                  have hx38 := bytes_get (s := x0) (k := k) (by first | omega | (have := bsz (by assumption); omega))
                  have lt39 := (byteAt x0 k).toNat_lt
                  refine op_geq rfl rfl rfl rfl ?_
                  refine op_move (v := .bool (decide (48 ≤ ((byteAt x0 k).toNat : Int)))) rfl rfl rfl ?_
                  refine op_part 44 rfl (fun hb40 => ?_) (fun hb40 => ?_)
                  · -- 48 ≤ ((byteAt x0 k).toNat : Int)
                    refine op_move (v := .string x0) rfl rfl rfl ?_
                    refine op_move (v := .int .i64 (k : Int)) rfl rfl rfl ?_
                    refine op_indexSN (j := k) ty9.und rfl rfl rfl rfl (by first | omega | (have := bsz (by assumption); omega)) ?_
                    have hx41 := bytes_get (s := x0) (k := k) (by first | omega | (have := bsz (by assumption); omega))
                    have lt42 := (byteAt x0 k).toNat_lt
                    refine op_leq rfl rfl rfl rfl ?_
                    refine op_pickT (v := .bool (decide (((byteAt x0 k).toNat : Int) ≤ 57))) rfl rfl rfl rfl ?_
                    refine op_pickF (v := .bool (decide (((byteAt x0 k).toNat : Int) ≤ 57))) rfl rfl rfl rfl ?_
                    refine op_move (v := .bool (decide (((byteAt x0 k).toNat : Int) ≤ 57))) rfl rfl rfl ?_
                    refine op_part 51 rfl (fun hb43 => ?_) (fun hb43 => ?_)
                    · -- ((byteAt x0 k).toNat : Int) ≤ 57
                      refine op_not rfl ?_
                      refine op_not rfl ?_
                      refine op_not rfl ?_
                      refine op_not rfl ?_
                      refine op_pickT (v := .bool true) rfl rfl rfl rfl ?_
                      refine op_assign (v := .bool true) rfl rfl rfl ?_
                      refine wpList_nil ?_
                      refine hK30 _ _ ?_
                      refine c_seq fun KhK44 hK44 => ?_
                      refine c_reg ?_
                      refine op_move (v := .bool true) rfl rfl rfl ?_
                      refine op_notB rfl rfl rfl ?_
                      refine wpList_nil ?_
                      refine hK44 _ _ ?_
                      refine c_ifF rfl rfl ?_
                      refine wp_skip ?_
                      refine hK29 _ _ ?_
                      refine c_reg ?_
                      refine op_move (v := .int .i64 (k : Int)) rfl rfl rfl ?_
                      refine op_add rfl rfl rfl rfl (by omega) ?_
                      refine op_assign (v := .int .i64 ((k : Int) + 1)) rfl rfl rfl ?_
                      refine wpList_nil ?_
                      repeat (with_reducible refine inBlock_normal ?_)
                      with_reducible refine then_normal ?_
                      exact ⟨(k + 1), (by first | omega | (dsimp only; omega)), ⟨(by first | omega | (simp only [List.length_append, List.length_cons, List.length_nil]; omega) | (rw [hi25]; simp [drop_of hx31, drop_of hx34, drop_of hx38, drop_of hx41, Pk.allSmall, Pk.okSmall, hb4, hb7, hx10, hb12, hx15, hb17, hi24, hb28, hx31, hb33, hx34, hb36, hx38, hb40, hx41, hb43])), (by rw [hi25]; simp [drop_of hx31, drop_of hx34, drop_of hx38, drop_of hx41, Pk.allSmall, Pk.okSmall, hb4, hb7, hx10, hb12, hx15, hb17, hi24, hb28, hx31, hb33, hx34, hb36, hx38, hb40, hx41, hb43]), (e23.drop (fun b hb => by simp [hb]))⟩, _, rfl, (by repeat first | exact agree.refl _ _ | refine agree.upd rfl ?_ | refine agree.upds rfl ?_ | refine agree.mix rfl ?_), ⟨congrArg (Value.int .i64) (show ((k : Int) + 1) = ((k + 1 : Nat) : Int) by omega), trivial⟩⟩
                    · -- ¬ (((byteAt x0 k).toNat : Int) ≤ 57)
                      refine op_move (v := .string x0) rfl rfl rfl ?_
                      refine op_move (v := .int .i64 (k : Int)) rfl rfl rfl ?_
                      refine op_indexSN (j := k) ty9.und rfl rfl rfl rfl (by first | omega | (have := bsz (by assumption); omega)) ?_
                      have hx45 := bytes_get (s := x0) (k := k) (by first | omega | (have := bsz (by assumption); omega))
                      have lt46 := (byteAt x0 k).toNat_lt
                      refine op_eq rfl rfl rfl rfl ?_
                      refine op_pickF (v := .bool (decide (((byteAt x0 k).toNat : Int) = 95))) rfl rfl rfl rfl ?_
                      refine op_assign (v := .bool (decide (((byteAt x0 k).toNat : Int) = 95))) rfl rfl rfl ?_
                      refine wpList_nil ?_
                      refine hK30 _ _ ?_
                      refine c_seq fun KhK47 hK47 => ?_
                      refine c_reg ?_
                      refine op_move (v := .bool (decide (((byteAt x0 k).toNat : Int) = 95))) rfl rfl rfl ?_
                      refine op_notD rfl rfl rfl ?_
                      refine wpList_nil ?_
                      refine hK47 _ _ ?_
                      refine c_ifN rfl rfl (fun hb48 => ?_) (fun hb48 => ?_)
                      · -- ¬ (((byteAt x0 k).toNat : Int) = 95)
                        refine c_seq fun KhK49 hK49 => ?_
                        refine c_reg ?_
                        refine op_assign (v := .bool false) rfl rfl rfl ?_
                        refine wpList_nil ?_
                        refine hK49 _ _ ?_
                        refine wp_ret ?_
                        have hr50 : false = (Pk.rsmallNamed x0) := by rw [hi25]; simp [drop_of hx31, drop_of hx34, drop_of hx38, drop_of hx41, drop_of hx45, Pk.allSmall, Pk.okSmall, hb4, hb7, hx10, hb12, hx15, hb17, hi24, hb28, hx31, hb33, hx34, hb36, hx38, hb40, hx41, hb43, hx45, hb48]
                        exact ret1 Try.results56 rfl ⟨congrArg Value.bool hr50, e23.old⟩
                      · -- ((byteAt x0 k).toNat : Int) = 95
                        refine wp_skip ?_
                        refine hK29 _ _ ?_
                        refine c_reg ?_
                        refine op_move (v := .int .i64 (k : Int)) rfl rfl rfl ?_
                        refine op_add rfl rfl rfl rfl (by omega) ?_
                        refine op_assign (v := .int .i64 ((k : Int) + 1)) rfl rfl rfl ?_
                        refine wpList_nil ?_
                        repeat (with_reducible refine inBlock_normal ?_)
                        with_reducible refine then_normal ?_
                        exact ⟨(k + 1), (by first | omega | (dsimp only; omega)), ⟨(by first | omega | (simp only [List.length_append, List.length_cons, List.length_nil]; omega) | (rw [hi25]; simp [drop_of hx31, drop_of hx34, drop_of hx38, drop_of hx41, drop_of hx45, Pk.allSmall, Pk.okSmall, hb4, hb7, hx10, hb12, hx15, hb17, hi24, hb28, hx31, hb33, hx34, hb36, hx38, hb40, hx41, hb43, hx45, hb48])), (by rw [hi25]; simp [drop_of hx31, drop_of hx34, drop_of hx38, drop_of hx41, drop_of hx45, Pk.allSmall, Pk.okSmall, hb4, hb7, hx10, hb12, hx15, hb17, hi24, hb28, hx31, hb33, hx34, hb36, hx38, hb40, hx41, hb43, hx45, hb48]), (e23.drop (fun b hb => by simp [hb]))⟩, _, rfl, (by repeat first | exact agree.refl _ _ | refine agree.upd rfl ?_ | refine agree.upds rfl ?_ | refine agree.mix rfl ?_), ⟨congrArg (Value.int .i64) (show ((k : Int) + 1) = ((k + 1 : Nat) : Int) by omega), trivial⟩⟩
                  · -- ¬ (48 ≤ ((byteAt x0 k).toNat : Int))
                    refine op_not rfl ?_
                    refine op_not rfl ?_
                    refine op_not rfl ?_
                    refine op_not rfl ?_
                    refine op_pickF (v := .bool false) rfl rfl rfl rfl ?_
                    refine op_pickF (v := .bool false) rfl rfl rfl rfl ?_
                    refine op_move (v := .bool false) rfl rfl rfl ?_
                    refine op_move (v := .string x0) rfl rfl rfl ?_
                    refine op_move (v := .int .i64 (k : Int)) rfl rfl rfl ?_
                    refine op_indexSN (j := k) ty9.und rfl rfl rfl rfl (by first | omega | (have := bsz (by assumption); omega)) ?_
                    have hx51 := bytes_get (s := x0) (k := k) (by first | omega | (have := bsz (by assumption); omega))
                    have lt52 := (byteAt x0 k).toNat_lt
                    refine op_eq rfl rfl rfl rfl ?_
                    refine op_pickF (v := .bool (decide (((byteAt x0 k).toNat : Int) = 95))) rfl rfl rfl rfl ?_
                    refine op_assign (v := .bool (decide (((byteAt x0 k).toNat : Int) = 95))) rfl rfl rfl ?_
                    refine wpList_nil ?_
                    refine hK30 _ _ ?_
                    refine c_seq fun KhK53 hK53 => ?_
                    refine c_reg ?_
                    refine op_move (v := .bool (decide (((byteAt x0 k).toNat : Int) = 95))) rfl rfl rfl ?_
                    refine op_notD rfl rfl rfl ?_
                    refine wpList_nil ?_
                    refine hK53 _ _ ?_
                    refine c_ifN rfl rfl (fun hb54 => ?_) (fun hb54 => ?_)
                    · -- ¬ (((byteAt x0 k).toNat : Int) = 95)
                      refine c_seq fun KhK55 hK55 => ?_
                      refine c_reg ?_
                      refine op_assign (v := .bool false) rfl rfl rfl ?_
                      refine wpList_nil ?_
                      refine hK55 _ _ ?_
                      refine wp_ret ?_
                      have hr56 : false = (Pk.rsmallNamed x0) := by rw [hi25]; simp [drop_of hx31, drop_of hx34, drop_of hx38, drop_of hx51, Pk.allSmall, Pk.okSmall, hb4, hb7, hx10, hb12, hx15, hb17, hi24, hb28, hx31, hb33, hx34, hb36, hx38, hb40, hx51, hb54]
                      exact ret1 Try.results56 rfl ⟨congrArg Value.bool hr56, e23.old⟩
                    · -- ((byteAt x0 k).toNat : Int) = 95
                      refine wp_skip ?_
                      refine hK29 _ _ ?_
                      refine c_reg ?_
                      refine op_move (v := .int .i64 (k : Int)) rfl rfl rfl ?_
                      refine op_add rfl rfl rfl rfl (by omega) ?_
                      refine op_assign (v := .int .i64 ((k : Int) + 1)) rfl rfl rfl ?_
                      refine wpList_nil ?_
                      repeat (with_reducible refine inBlock_normal ?_)
                      with_reducible refine then_normal ?_
                      exact ⟨(k + 1), (by first | omega | (dsimp only; omega)), ⟨(by first | omega | (simp only [List.length_append, List.length_cons, List.length_nil]; omega) | (rw [hi25]; simp [drop_of hx31, drop_of hx34, drop_of hx38, drop_of hx51, Pk.allSmall, Pk.okSmall, hb4, hb7, hx10, hb12, hx15, hb17, hi24, hb28, hx31, hb33, hx34, hb36, hx38, hb40, hx51, hb54])), (by rw [hi25]; simp [drop_of hx31, drop_of hx34, drop_of hx38, drop_of hx51, Pk.allSmall, Pk.okSmall, hb4, hb7, hx10, hb12, hx15, hb17, hi24, hb28, hx31, hb33, hx34, hb36, hx38, hb40, hx51, hb54]), (e23.drop (fun b hb => by simp [hb]))⟩, _, rfl, (by repeat first | exact agree.refl _ _ | refine agree.upd rfl ?_ | refine agree.upds rfl ?_ | refine agree.mix rfl ?_), ⟨congrArg (Value.int .i64) (show ((k : Int) + 1) = ((k + 1 : Nat) : Int) by omega), trivial⟩⟩
              · -- ¬ (97 ≤ ((byteAt x0 k).toNat : Int))
                refine op_not rfl ?_
                refine op_not rfl ?_
                refine op_not rfl ?_
                refine op_not rfl ?_
                refine op_pickF (v := .bool false) rfl rfl rfl rfl ?_
                refine op_move (v := .bool false) rfl rfl rfl ?_
                refine op_move (v := .string x0) rfl rfl rfl ?_
                refine op_move (v := .int .i64 (k : Int)) rfl rfl rfl ?_
                refine op_indexSN (j := k) ty9.und rfl rfl rfl rfl (by first | omega | (have := bsz (by assumption); omega)) ?_
                have hx57 := bytes_get (s := x0) (k := k) (by first | omega | (have := bsz (by assumption); omega))
                have lt58 := (byteAt x0 k).toNat_lt
                refine op_geq rfl rfl rfl rfl ?_
                refine op_move (v := .bool (decide (48 ≤ ((byteAt x0 k).toNat : Int)))) rfl rfl rfl ?_
                refine op_part 44 rfl (fun hb59 => ?_) (fun hb59 => ?_)
                · -- 48 ≤ ((byteAt x0 k).toNat : Int)
                  refine op_move (v := .string x0) rfl rfl rfl ?_
                  refine op_move (v := .int .i64 (k : Int)) rfl rfl rfl ?_
                  refine op_indexSN (j := k) ty9.und rfl rfl rfl rfl (by first | omega | (have := bsz (by assumption); omega)) ?_
                  have hx60 := bytes_get (s := x0) (k := k) (by first | omega | (have := bsz (by assumption); omega))
                  have lt61 := (byteAt x0 k).toNat_lt
                  refine op_leq rfl rfl rfl rfl ?_
                  refine op_pickT (v := .bool (decide (((byteAt x0 k).toNat : Int) ≤ 57))) rfl rfl rfl rfl ?_
                  refine op_pickF (v := .bool (decide (((byteAt x0 k).toNat : Int) ≤ 57))) rfl rfl rfl rfl ?_
                  refine op_move (v := .bool (decide (((byteAt x0 k).toNat : Int) ≤ 57))) rfl rfl rfl ?_
                  refine op_part 51 rfl (fun hb62 => ?_) (fun hb62 => ?_)
                  · -- ((byteAt x0 k).toNat : Int) ≤ 57
                    refine op_not rfl ?_
                    refine op_not rfl ?_
                    refine op_not rfl ?_
                    refine op_not rfl ?_
                    refine op_pickT (v := .bool true) rfl rfl rfl rfl ?_
                    refine op_assign (v := .bool true) rfl rfl rfl ?_
                    refine wpList_nil ?_
                    refine hK30 _ _ ?_
                    refine c_seq fun KhK63 hK63 => ?_
                    refine c_reg ?_
                    refine op_move (v := .bool true) rfl rfl rfl ?_
                    refine op_notB rfl rfl rfl ?_
                    refine wpList_nil ?_
                    refine hK63 _ _ ?_
                    refine c_ifF rfl rfl ?_
                    refine wp_skip ?_
                    refine hK29 _ _ ?_
                    refine c_reg ?_
                    refine op_move (v := .int .i64 (k : Int)) rfl rfl rfl ?_
                    refine op_add rfl rfl rfl rfl (by omega) ?_
                    refine op_assign (v := .int .i64 ((k : Int) + 1)) rfl rfl rfl ?_
                    refine wpList_nil ?_
                    repeat (with_reducible refine inBlock_normal ?_)
                    with_reducible refine then_normal ?_
                    exact ⟨(k + 1), (by first | omega | (dsimp only; omega)), ⟨(by first | omega | (simp only [List.length_append, List.length_cons, List.length_nil]; omega) | (rw [hi25]; simp [drop_of hx31, drop_of hx57, drop_of hx60, Pk.allSmall, Pk.okSmall, hb4, hb7, hx10, hb12, hx15, hb17, hi24, hb28, hx31, hb33, hx57, hb59, hx60, hb62])), (by rw [hi25]; simp [drop_of hx31, drop_of hx57, drop_of hx60, Pk.allSmall, Pk.okSmall, hb4, hb7, hx10, hb12, hx15, hb17, hi24, hb28, hx31, hb33, hx57, hb59, hx60, hb62]), (e23.drop (fun b hb => by simp [hb]))⟩, _, rfl, (by repeat first | exact agree.refl _ _ | refine agree.upd rfl ?_ | refine agree.upds rfl ?_ | refine agree.mix rfl ?_), ⟨congrArg (Value.int .i64) (show ((k : Int) + 1) = ((k + 1 : Nat) : Int) by omega), trivial⟩⟩
                  · -- ¬ (((byteAt x0 k).toNat : Int) ≤ 57)
                    refine op_move (v := .string x0) rfl rfl rfl ?_
                    refine op_move (v := .int .i64 (k : Int)) rfl rfl rfl ?_
                    refine op_indexSN (j := k) ty9.und rfl rfl rfl rfl (by first | omega | (have := bsz (by assumption); omega)) ?_
                    have hx64 := bytes_get (s := x0) (k := k) (by first | omega | (have := bsz (by assumption); omega))
                    have lt65 := (byteAt x0 k).toNat_lt
                    refine op_eq rfl rfl rfl rfl ?_
                    refine op_pickF (v := .bool (decide (((byteAt x0 k).toNat : Int) = 95))) rfl rfl rfl rfl ?_
                    refine op_assign (v := .bool (decide (((byteAt x0 k).toNat : Int) = 95))) rfl rfl rfl ?_
                    refine wpList_nil ?_
                    refine hK30 _ _ ?_
                    refine c_seq fun KhK66 hK66 => ?_
                    refine c_reg ?_
                    refine op_move (v := .bool (decide (((byteAt x0 k).toNat : Int) = 95))) rfl rfl rfl ?_
                    refine op_notD rfl rfl rfl ?_
                    refine wpList_nil ?_
                    refine hK66 _ _ ?_
                    refine c_ifN rfl rfl (fun hb67 => ?_) (fun hb67 => ?_)
                    · -- ¬ (((byteAt x0 k).toNat : Int) = 95)
                      refine c_seq fun KhK68 hK68 => ?_
                      refine c_reg ?_
                      refine op_assign (v := .bool false) rfl rfl rfl ?_
                      refine wpList_nil ?_
                      refine hK68 _ _ ?_
                      refine wp_ret ?_
                      have hr69 : false = (Pk.rsmallNamed x0) := by rw [hi25]; simp [drop_of hx31, drop_of hx57, drop_of hx60, drop_of hx64, Pk.allSmall, Pk.okSmall, hb4, hb7, hx10, hb12, hx15, hb17, hi24, hb28, hx31, hb33, hx57, hb59, hx60, hb62, hx64, hb67]
                      exact ret1 Try.results56 rfl ⟨congrArg Value.bool hr69, e23.old⟩
                    · -- ((byteAt x0 k).toNat : Int) = 95
                      refine wp_skip ?_
                      refine hK29 _ _ ?_
                      refine c_reg ?_
                      refine op_move (v := .int .i64 (k : Int)) rfl rfl rfl ?_
                      refine op_add rfl rfl rfl rfl (by omega) ?_
                      refine op_assign (v := .int .i64 ((k : Int) + 1)) rfl rfl rfl ?_
                      refine wpList_nil ?_
                      repeat (with_reducible refine inBlock_normal ?_)
                      with_reducible refine then_normal ?_
                      exact ⟨(k + 1), (by first | omega | (dsimp only; omega)), ⟨(by first | omega | (simp only [List.length_append, List.length_cons, List.length_nil]; omega) | (rw [hi25]; simp [drop_of hx31, drop_of hx57, drop_of hx60, drop_of hx64, Pk.allSmall, Pk.okSmall, hb4, hb7, hx10, hb12, hx15, hb17, hi24, hb28, hx31, hb33, hx57, hb59, hx60, hb62, hx64, hb67])), (by rw [hi25]; simp [drop_of hx31, drop_of hx57, drop_of hx60, drop_of hx64, Pk.allSmall, Pk.okSmall, hb4, hb7, hx10, hb12, hx15, hb17, hi24, hb28, hx31, hb33, hx57, hb59, hx60, hb62, hx64, hb67]), (e23.drop (fun b hb => by simp [hb]))⟩, _, rfl, (by repeat first | exact agree.refl _ _ | refine agree.upd rfl ?_ | refine agree.upds rfl ?_ | refine agree.mix rfl ?_), ⟨congrArg (Value.int .i64) (show ((k : Int) + 1) = ((k + 1 : Nat) : Int) by omega), trivial⟩⟩
                · -- ¬ (48 ≤ ((byteAt x0 k).toNat : Int))
                  refine op_not rfl ?_
                  refine op_not rfl ?_
                  refine op_not rfl ?_
                  refine op_not rfl ?_
                  refine op_pickF (v := .bool false) rfl rfl rfl rfl ?_
                  refine op_pickF (v := .bool false) rfl rfl rfl rfl ?_
                  refine op_move (v := .bool false) rfl rfl rfl ?_
                  refine op_move (v := .string x0) rfl rfl rfl ?_
                  refine op_move (v := .int .i64 (k : Int)) rfl rfl rfl ?_
                  refine op_indexSN (j := k) ty9.und rfl rfl rfl rfl (by first | omega | (have := bsz (by assumption); omega)) ?_
                  have hx70 := bytes_get (s := x0) (k := k) (by first | omega | (have := bsz (by assumption); omega))
                  have lt71 := (byteAt x0 k).toNat_lt
                  refine op_eq rfl rfl rfl rfl ?_
                  refine op_pickF (v := .bool (decide (((byteAt x0 k).toNat : Int) = 95))) rfl rfl rfl rfl ?_
                  refine op_assign (v := .bool (decide (((byteAt x0 k).toNat : Int) = 95))) rfl rfl rfl ?_
                  refine wpList_nil ?_
                  refine hK30 _ _ ?_
                  refine c_seq fun KhK72 hK72 => ?_
                  refine c_reg ?_
                  refine op_move (v := .bool (decide (((byteAt x0 k).toNat : Int) = 95))) rfl rfl rfl ?_
                  refine op_notD rfl rfl rfl ?_
                  refine wpList_nil ?_
                  refine hK72 _ _ ?_
                  refine c_ifN rfl rfl (fun hb73 => ?_) (fun hb73 => ?_)
                  · -- ¬ (((byteAt x0 k).toNat : Int) = 95)
                    refine c_seq fun KhK74 hK74 => ?_
                    refine c_reg ?_
                    refine op_assign (v := .bool false) rfl rfl rfl ?_
                    refine wpList_nil ?_
                    refine hK74 _ _ ?_
                    refine wp_ret ?_
                    have hr75 : false = (Pk.rsmallNamed x0) := by rw [hi25]; simp [drop_of hx31, drop_of hx57, drop_of hx70, Pk.allSmall, Pk.okSmall, hb4, hb7, hx10, hb12, hx15, hb17, hi24, hb28, hx31, hb33, hx57, hb59, hx70, hb73]
                    exact ret1 Try.results56 rfl ⟨congrArg Value.bool hr75, e23.old⟩
                  · -- ((byteAt x0 k).toNat : Int) = 95
                    refine wp_skip ?_
                    refine hK29 _ _ ?_
                    refine c_reg ?_
                    refine op_move (v := .int .i64 (k : Int)) rfl rfl rfl ?_
                    refine op_add rfl rfl rfl rfl (by omega) ?_
                    refine op_assign (v := .int .i64 ((k : Int) + 1)) rfl rfl rfl ?_
                    refine wpList_nil ?_
                    repeat (with_reducible refine inBlock_normal ?_)
                    with_reducible refine then_normal ?_
                    exact ⟨(k + 1), (by first | omega | (dsimp only; omega)), ⟨(by first | omega | (simp only [List.length_append, List.length_cons, List.length_nil]; omega) | (rw [hi25]; simp [drop_of hx31, drop_of hx57, drop_of hx70, Pk.allSmall, Pk.okSmall, hb4, hb7, hx10, hb12, hx15, hb17, hi24, hb28, hx31, hb33, hx57, hb59, hx70, hb73])), (by rw [hi25]; simp [drop_of hx31, drop_of hx57, drop_of hx70, Pk.allSmall, Pk.okSmall, hb4, hb7, hx10, hb12, hx15, hb17, hi24, hb28, hx31, hb33, hx57, hb59, hx70, hb73]), (e23.drop (fun b hb => by simp [hb]))⟩, _, rfl, (by repeat first | exact agree.refl _ _ | refine agree.upd rfl ?_ | refine agree.upds rfl ?_ | refine agree.mix rfl ?_), ⟨congrArg (Value.int .i64) (show ((k : Int) + 1) = ((k + 1 : Nat) : Int) by omega), trivial⟩⟩
            · -- ¬ ((k : Int) < (x0.size : Int))
              refine wp_exit ?_
              refine hK20 _ _ ?_
              refine c_seq fun KhK76 hK76 => ?_
              refine c_reg ?_
              refine op_move (v := .string x0) rfl rfl rfl ?_
              refine op_neqS rfl rfl rfl rfl ?_
              refine op_move (v := .bool (decide (¬ (x0 = (⟨#[116, 114, 117, 101]⟩ : ByteArray))))) rfl rfl rfl ?_
              refine op_partN 61 rfl (fun hb77 => ?_) (fun hb77 => ?_)
              · -- ¬ (x0 = (⟨#[116, 114, 117, 101]⟩ : ByteArray))
                refine op_move (v := .string x0) rfl rfl rfl ?_
                refine op_neqS rfl rfl rfl rfl ?_
                refine op_pickT (v := .bool (decide (¬ (x0 = (⟨#[102, 97, 108, 115, 101]⟩ : ByteArray))))) rfl rfl rfl rfl ?_
                refine op_move (v := .bool (decide (¬ (x0 = (⟨#[102, 97, 108, 115, 101]⟩ : ByteArray))))) rfl rfl rfl ?_
                refine op_partN 65 rfl (fun hb78 => ?_) (fun hb78 => ?_)
                · -- ¬ (x0 = (⟨#[102, 97, 108, 115, 101]⟩ : ByteArray))
                  refine op_move (v := .string x0) rfl rfl rfl ?_
                  refine op_neqS rfl rfl rfl rfl ?_
                  refine op_pickT (v := .bool (decide (¬ (x0 = (⟨#[118, 111, 105, 100]⟩ : ByteArray))))) rfl rfl rfl rfl ?_
                  refine op_move (v := .bool (decide (¬ (x0 = (⟨#[118, 111, 105, 100]⟩ : ByteArray))))) rfl rfl rfl ?_
                  refine op_partN 69 rfl (fun hb79 => ?_) (fun hb79 => ?_)
                  · -- ¬ (x0 = (⟨#[118, 111, 105, 100]⟩ : ByteArray))
                    refine op_move (v := .string x0) rfl rfl rfl ?_
                    refine op_neqS rfl rfl rfl rfl ?_
                    refine op_pickT (v := .bool (decide (¬ (x0 = (⟨#[99, 117, 114, 114, 101, 110, 116]⟩ : ByteArray))))) rfl rfl rfl rfl ?_
                    refine op_move (v := .bool (decide (¬ (x0 = (⟨#[99, 117, 114, 114, 101, 110, 116]⟩ : ByteArray))))) rfl rfl rfl ?_
                    refine op_partN 73 rfl (fun hb80 => ?_) (fun hb80 => ?_)
                    · -- ¬ (x0 = (⟨#[99, 117, 114, 114, 101, 110, 116]⟩ : ByteArray))
                      refine op_move (v := .string x0) rfl rfl rfl ?_
                      refine op_neqS rfl rfl rfl rfl ?_
                      refine op_pickT (v := .bool (decide (¬ (x0 = (⟨#[114, 101, 115, 117, 108, 116]⟩ : ByteArray))))) rfl rfl rfl rfl ?_
                      refine op_assign (v := .bool (decide (¬ (x0 = (⟨#[114, 101, 115, 117, 108, 116]⟩ : ByteArray))))) rfl rfl rfl ?_
                      refine wpList_nil ?_
                      refine hK76 _ _ ?_
                      refine wp_ret ?_
                      have hr81 : (decide (¬ (x0 = (⟨#[114, 101, 115, 117, 108, 116]⟩ : ByteArray)))) = (Pk.rsmallNamed x0) := by rw [hi25]; simp [drop_end (l := sbytes x0) (k := k) (by first | omega | (rw [bytes_length]; omega)), Pk.allSmall, Pk.okSmall, hb4, hb7, hx10, hb12, hx15, hb17, hi24, hb28, hb77, hb78, hb79, hb80]
                      exact ret1 Try.results56 rfl ⟨congrArg Value.bool hr81, e23.old⟩
                    · -- x0 = (⟨#[99, 117, 114, 114, 101, 110, 116]⟩ : ByteArray)
                      refine op_not rfl ?_
                      refine op_not rfl ?_
                      refine op_pickF (v := .bool false) rfl rfl rfl rfl ?_
                      refine op_assign (v := .bool false) rfl rfl rfl ?_
                      refine wpList_nil ?_
                      refine hK76 _ _ ?_
                      refine wp_ret ?_
                      have hr82 : false = (Pk.rsmallNamed x0) := by rw [hi25]; simp [drop_end (l := sbytes x0) (k := k) (by first | omega | (rw [bytes_length]; omega)), Pk.allSmall, Pk.okSmall, hb4, hb7, hx10, hb12, hx15, hb17, hi24, hb28, hb77, hb78, hb79, hb80]
                      exact ret1 Try.results56 rfl ⟨congrArg Value.bool hr82, e23.old⟩
                  · -- x0 = (⟨#[118, 111, 105, 100]⟩ : ByteArray)
                    refine op_not rfl ?_
                    refine op_not rfl ?_
                    refine op_pickF (v := .bool false) rfl rfl rfl rfl ?_
                    refine op_move (v := .bool false) rfl rfl rfl ?_
                    refine op_not rfl ?_
                    refine op_not rfl ?_
                    refine op_pickF (v := .bool false) rfl rfl rfl rfl ?_
                    refine op_assign (v := .bool false) rfl rfl rfl ?_
                    refine wpList_nil ?_
                    refine hK76 _ _ ?_
                    refine wp_ret ?_
                    have hr83 : false = (Pk.rsmallNamed x0) := by rw [hi25]; simp [drop_end (l := sbytes x0) (k := k) (by first | omega | (rw [bytes_length]; omega)), Pk.allSmall, Pk.okSmall, hb4, hb7, hx10, hb12, hx15, hb17, hi24, hb28, hb77, hb78, hb79]
                    exact ret1 Try.results56 rfl ⟨congrArg Value.bool hr83, e23.old⟩
                · -- x0 = (⟨#[102, 97, 108, 115, 101]⟩ : ByteArray)
                  refine op_not rfl ?_
                  refine op_not rfl ?_
                  refine op_pickF (v := .bool false) rfl rfl rfl rfl ?_
                  refine op_move (v := .bool false) rfl rfl rfl ?_
                  refine op_not rfl ?_
                  refine op_not rfl ?_
                  refine op_pickF (v := .bool false) rfl rfl rfl rfl ?_
                  refine op_move (v := .bool false) rfl rfl rfl ?_
                  refine op_not rfl ?_
                  refine op_not rfl ?_
                  refine op_pickF (v := .bool false) rfl rfl rfl rfl ?_
                  refine op_assign (v := .bool false) rfl rfl rfl ?_
                  refine wpList_nil ?_
                  refine hK76 _ _ ?_
                  refine wp_ret ?_
                  have hr84 : false = (Pk.rsmallNamed x0) := by rw [hi25]; simp [drop_end (l := sbytes x0) (k := k) (by first | omega | (rw [bytes_length]; omega)), Pk.allSmall, Pk.okSmall, hb4, hb7, hx10, hb12, hx15, hb17, hi24, hb28, hb77, hb78]
                  exact ret1 Try.results56 rfl ⟨congrArg Value.bool hr84, e23.old⟩
              · -- x0 = (⟨#[116, 114, 117, 101]⟩ : ByteArray)
                refine op_not rfl ?_
                refine op_not rfl ?_
                refine op_pickF (v := .bool false) rfl rfl rfl rfl ?_
                refine op_move (v := .bool false) rfl rfl rfl ?_
                refine op_not rfl ?_
                refine op_not rfl ?_
                refine op_pickF (v := .bool false) rfl rfl rfl rfl ?_
                refine op_move (v := .bool false) rfl rfl rfl ?_
                refine op_not rfl ?_
                refine op_not rfl ?_
                refine op_pickF (v := .bool false) rfl rfl rfl rfl ?_
                refine op_move (v := .bool false) rfl rfl rfl ?_
                refine op_not rfl ?_
                refine op_not rfl ?_
                refine op_pickF (v := .bool false) rfl rfl rfl rfl ?_
                refine op_assign (v := .bool false) rfl rfl rfl ?_
                refine wpList_nil ?_
                refine hK76 _ _ ?_
                refine wp_ret ?_
                have hr85 : false = (Pk.rsmallNamed x0) := by rw [hi25]; simp [drop_end (l := sbytes x0) (k := k) (by first | omega | (rw [bytes_length]; omega)), Pk.allSmall, Pk.okSmall, hb4, hb7, hx10, hb12, hx15, hb17, hi24, hb28, hb77]
                exact ret1 Try.results56 rfl ⟨congrArg Value.bool hr85, e23.old⟩
set_option maxHeartbeats 1000000 in
theorem c17 {M : List Nat} {w : World} {x0 : List Pk.Form} {a_x0 : Option Addr} {c_x0 : Nat} (hM : Lo M w) (h_x0 : SL M w a_x0 c_x0 x0) (p0 : Pk.Short x0) : Calls Try.prog 17 #[.slice a_x0 x0.length c_x0] w (Ret fun v w' => v = .int .i64 (Pk.rcheckForms x0) ∧ Upd [] w w') := by
  have lh_x0 := h_x0.lt63
  refine enter (l := [.slice a_x0 x0.length c_x0]) Try.func17 rfl Try.ntmps17 rfl ?_
  refine c_seq fun KhK1 hK1 => ?_
  refine c_reg ?_
  refine op_assign (v := .int .i64 0) rfl rfl rfl ?_
  refine wpList_nil ?_
  refine hK1 _ _ ?_
  refine c_seq fun KhK2 hK2 => ?_
  refine c_seq fun KhK3 hK3 => ?_
  refine c_reg ?_
  refine op_move (v := .slice a_x0 x0.length c_x0) rfl rfl rfl ?_
  refine op_len ty22 rfl rfl rfl ?_
  refine op_gtr rfl rfl rfl rfl ?_
  refine wpList_nil ?_
  refine hK3 _ _ ?_
  refine c_if rfl rfl (fun hb4 => ?_) (fun hb4 => ?_)
  · -- 24 < (x0.length : Int)
    refine c_seq fun KhK5 hK5 => ?_
    refine c_reg ?_
    refine op_assign (v := .int .i64 3) rfl rfl rfl ?_
    refine wpList_nil ?_
    refine hK5 _ _ ?_
    refine wp_ret ?_
    have hr6 : 3 = (Pk.rcheckForms x0) := by simp [ Pk.within313, Pk.rcfGo, Pk.rcfCols, Pk.rcfEnd, Pk.rcfIn, Pk.strANY, Pk.rcheckForms, hb4]
    exact ret1 Try.results17 rfl ⟨congrArg (Value.int .i64) hr6, (Evo.refl [] w).old⟩
  · -- ¬ (24 < (x0.length : Int))
    refine wp_skip ?_
    refine hK2 _ _ ?_
    refine c_seq fun KhK7 hK7 => ?_
    refine c_seq fun KhK8 hK8 => ?_
    refine c_reg ?_
    refine op_assign (v := .int .i64 0) rfl rfl rfl ?_
    refine wpList_nil ?_
    refine hK8 _ _ ?_
    refine wp_block ?_
    refine c_loop (X := Nat) [2, 3, 4, 5, 6, 7, 14, 15, 16, 17, 18, 19, 20, 21, 22, 23, 24, 25, 26, 27, 28, 29, 30, 31, 32, 33, 34, 35, 36, 37, 38, 39, 40, 41, 42, 43, 44, 45, 46, 47, 48, 49, 50, 51, 52, 53, 54, 55, 56, 57, 58, 59, 60, 61, 62, 63, 64, 65, 66, 67, 68, 69, 70, 71, 72, 73, 74, 75, 76, 77, 78, 79, 80, 81, 82, 83, 84, 85, 86, 87, 88, 89] (fun k => [(3, .int .i64 (k : Int))]) (fun k w1 => (k ≤ x0.length) ∧ (Pk.rcheckForms x0 = Pk.rcfGo x0 k (x0.drop k)) ∧ Evo [] w [] w1) (fun k => x0.length - k) (0) ⟨congrArg (Value.int .i64) (show 0 = ((0 : Nat) : Int) by omega), trivial⟩ ?_ ?_
    ·
      exact ⟨(by first | omega | simp), (by simp [Pk.rcheckForms, hb4]), Evo.refl _ _⟩
    ·
      rintro k τ w9 ⟨hi11, hi12, e10⟩
      refine c_seq fun KhK13 hK13 => ?_
      refine c_seq fun KhK14 hK14 => ?_
      refine c_reg ?_
      refine op_move (v := .int .i64 (k : Int)) rfl rfl rfl ?_
      refine op_move (v := .slice a_x0 x0.length c_x0) rfl rfl rfl ?_
      refine op_len ty22 rfl rfl rfl ?_
      refine op_lss rfl rfl rfl rfl ?_
      refine wpList_nil ?_
      refine hK14 _ _ ?_
      refine c_if rfl rfl (fun hb15 => ?_) (fun hb15 => ?_)
      · -- (k : Int) < (x0.length : Int)
        refine wp_skip ?_
        refine hK13 _ _ ?_
        refine c_seq fun KhK16 hK16 => ?_
        refine wp_block ?_
        refine c_seq fun KhK17 hK17 => ?_
        refine c_reg ?_
        refine op_move (v := .slice a_x0 x0.length c_x0) rfl rfl rfl ?_
        refine op_move (v := .int .i64 (k : Int)) rfl rfl rfl ?_
        refine op_indexN (j := k) ty22 ty91 rfl rfl rfl rfl rfl (h_x0.mono (e10.tr M)) (by omega) fun ad18 cs19 u20 hx21 he22 ca23 => ?_
        obtain ⟨a_u20, c_u20, rfl, h_u20⟩ := he22
        have lh_u20 := h_u20.lt63
        have qu20 := p0 u20 (List.mem_of_getElem? hx21)
        have tu20 := fun s => Pk.rcol_lt u20 s
        refine op_field fld91_0 rfl rfl rfl ca23.spot ?_
        refine op_loadA (v := .string u20.Name) ty9 rfl rfl rfl rfl ca23 rfl ?_
        refine op_call (args := [.string u20.Name]) cal54 rfl rfl rfl (c54 (e10.loM hM) (by omega)) ?_
        rintro _ w24 ⟨rfl, u25⟩
        have e27 := u25.evo0 (m := [])
        refine op_assign (v := .bool (Pk.rclassed u20.Name)) rfl rfl rfl ?_
        refine wpList_nil ?_
        refine hK17 _ _ ?_
        refine c_seq fun KhK28 hK28 => ?_
        refine c_seq fun KhK29 hK29 => ?_
        refine c_reg ?_
        refine op_move (v := .bool (Pk.rclassed u20.Name)) rfl rfl rfl ?_
        refine op_notB rfl rfl rfl ?_
        refine wpList_nil ?_
        refine hK29 _ _ ?_
        refine c_ifNB rfl rfl (fun hb30 => ?_) (fun hb30 => ?_)
        · -- (Pk.rclassed u20.Name) = false
          refine c_seq fun KhK31 hK31 => ?_
          refine c_reg ?_
          refine op_assign (v := .int .i64 4) rfl rfl rfl ?_
          refine wpList_nil ?_
          refine hK31 _ _ ?_
          refine wp_ret ?_
          have hr32 : 4 = (Pk.rcheckForms x0) := by rw [hi12]; simp [drop_of hx21, Pk.within313, Pk.rcfGo, Pk.rcfCols, Pk.rcfEnd, Pk.rcfIn, Pk.strANY, hb4, hi11, hb15, hx21, hb30]
          exact ret1 Try.results17 rfl ⟨congrArg (Value.int .i64) hr32, (e10.trans e27).old⟩
        · -- (Pk.rclassed u20.Name) = true
          refine wp_skip ?_
          refine hK28 _ _ ?_
          refine c_seq fun KhK33 hK33 => ?_
          refine c_seq fun KhK34 hK34 => ?_
          refine c_reg ?_
          refine op_move (v := .slice a_x0 x0.length c_x0) rfl rfl rfl ?_
          refine op_move (v := .slice a_x0 x0.length c_x0) rfl rfl rfl ?_
          refine op_move (v := .int .i64 (k : Int)) rfl rfl rfl ?_
          refine op_indexN (j := k) ty22 ty91 rfl rfl rfl rfl rfl (h_x0.mono ((e10.trans e27).tr M)) (by omega) fun ad35 cs36 u37 hx38 he39 ca40 => ?_
          obtain rfl : u20 = u37 := Option.some.inj (hx21.symm.trans hx38)
          obtain ⟨a_u37, c_u37, rfl, h_u37⟩ := he39
          have lh_u37 := h_u37.lt63
          refine op_field fld91_0 rfl rfl rfl ca40.spot ?_
          refine op_loadA (v := .string u20.Name) ty9 rfl rfl rfl rfl ca40 rfl ?_
          refine op_call (args := [.slice a_x0 x0.length c_x0, .string u20.Name]) cal55 rfl rfl rfl (c55 ((e10.trans e27).loM hM) (h_x0.mono ((e10.trans e27).tr M))) ?_
          rintro _ w41 ⟨rfl, u42⟩
          have e44 := u42.evo0 (m := [])
          refine op_move (v := .int .i64 (k : Int)) rfl rfl rfl ?_
          refine op_lss rfl rfl rfl rfl ?_
          refine wpList_nil ?_
          refine hK34 _ _ ?_
          refine c_if rfl rfl (fun hb45 => ?_) (fun hb45 => ?_)
          · -- (Pk.rform x0 u20.Name) < (k : Int)
            refine c_seq fun KhK46 hK46 => ?_
            refine c_reg ?_
            refine op_assign (v := .int .i64 6) rfl rfl rfl ?_
            refine wpList_nil ?_
            refine hK46 _ _ ?_
            refine wp_ret ?_
            have hr47 : 6 = (Pk.rcheckForms x0) := by rw [hi12]; simp [drop_of hx21, Pk.within313, Pk.rcfGo, Pk.rcfCols, Pk.rcfEnd, Pk.rcfIn, Pk.strANY, hb4, hi11, hb15, hx21, hb30, hb45]
            exact ret1 Try.results17 rfl ⟨congrArg (Value.int .i64) hr47, ((e10.trans e27).trans e44).old⟩
          · -- ¬ ((Pk.rform x0 u20.Name) < (k : Int))
            refine wp_skip ?_
            refine hK33 _ _ ?_
            refine c_seq fun KhK48 hK48 => ?_
            refine c_seq fun KhK49 hK49 => ?_
            refine c_reg ?_
            refine op_move (v := .slice a_x0 x0.length c_x0) rfl rfl rfl ?_
            refine op_move (v := .int .i64 (k : Int)) rfl rfl rfl ?_
            refine op_indexN (j := k) ty22 ty91 rfl rfl rfl rfl rfl (h_x0.mono (((e10.trans e27).trans e44).tr M)) (by omega) fun ad50 cs51 u52 hx53 he54 ca55 => ?_
            obtain rfl : u20 = u52 := Option.some.inj (hx21.symm.trans hx53)
            obtain ⟨a_u52, c_u52, rfl, h_u52⟩ := he54
            have lh_u52 := h_u52.lt63
            refine op_field fld91_1 rfl rfl rfl ca55.spot ?_
            refine op_loadA (v := .slice a_u52 u20.Cols.length c_u52) ty89 rfl rfl rfl rfl ca55 rfl ?_
            refine op_len ty89 rfl rfl rfl ?_
            refine op_gtr rfl rfl rfl rfl ?_
            refine wpList_nil ?_
            refine hK49 _ _ ?_
            refine c_if rfl rfl (fun hb56 => ?_) (fun hb56 => ?_)
            · -- 30 < (u20.Cols.length : Int)
              refine c_seq fun KhK57 hK57 => ?_
              refine c_reg ?_
              refine op_assign (v := .int .i64 3) rfl rfl rfl ?_
              refine wpList_nil ?_
              refine hK57 _ _ ?_
              refine wp_ret ?_
              have hr58 : 3 = (Pk.rcheckForms x0) := by rw [hi12]; simp [drop_of hx21, Pk.within313, Pk.rcfGo, Pk.rcfCols, Pk.rcfEnd, Pk.rcfIn, Pk.strANY, hb4, hi11, hb15, hx21, hb30, hb45, hb56]
              exact ret1 Try.results17 rfl ⟨congrArg (Value.int .i64) hr58, ((e10.trans e27).trans e44).old⟩
            · -- ¬ (30 < (u20.Cols.length : Int))
              refine wp_skip ?_
              refine hK48 _ _ ?_
              refine c_seq fun KhK59 hK59 => ?_
              refine c_reg ?_
              refine op_assign (v := .int .i64 0) rfl rfl rfl ?_
              refine wpList_nil ?_
              refine hK59 _ _ ?_
              refine wp_block ?_
              refine c_loop (X := Nat) [2, 5, 6, 7, 44, 45, 46, 47, 48, 49, 50, 51, 52, 53, 54, 55, 56, 57, 58, 59, 60, 61, 62, 63, 64, 65, 66, 67, 68, 69, 70, 71, 72, 73, 74, 75, 76, 77, 78, 79, 80, 81, 82, 83, 84, 85, 86, 87, 88, 89] (fun j => [(5, .int .i64 (j : Int))]) (fun j w1 => (j ≤ u20.Cols.length) ∧ (Pk.rcheckForms x0 = if Pk.rcfCols u20 j (u20.Cols.drop j) ≠ 0 then Pk.rcfCols u20 j (u20.Cols.drop j) else Pk.rcfGo x0 (k + 1) (x0.drop (k + 1))) ∧ Evo [] w41 [] w1) (fun j => u20.Cols.length - j) (0) ⟨congrArg (Value.int .i64) (show 0 = ((0 : Nat) : Int) by omega), trivial⟩ ?_ ?_
              ·
                exact ⟨(by first | omega | simp), (by rw [hi12]; simp [drop_of hx21, Pk.rcfGo, hb4, hi11, hb15, hx21, hb30, hb45, hb56]), Evo.refl _ _⟩
              ·
                rintro j τ w60 ⟨hi62, hi63, e61⟩
                refine c_seq fun KhK64 hK64 => ?_
                refine c_seq fun KhK65 hK65 => ?_
                refine c_reg ?_
                refine op_move (v := .int .i64 (j : Int)) rfl rfl rfl ?_
                refine op_move (v := .slice a_x0 x0.length c_x0) rfl rfl rfl ?_
                refine op_move (v := .int .i64 (k : Int)) rfl rfl rfl ?_
                refine op_indexN (j := k) ty22 ty91 rfl rfl rfl rfl rfl (h_x0.mono ((((e10.trans e27).trans e44).trans e61).tr M)) (by omega) fun ad66 cs67 u68 hx69 he70 ca71 => ?_
                obtain rfl : u20 = u68 := Option.some.inj (hx21.symm.trans hx69)
                obtain ⟨a_u68, c_u68, rfl, h_u68⟩ := he70
                have lh_u68 := h_u68.lt63
                refine op_field fld91_1 rfl rfl rfl ca71.spot ?_
                refine op_loadA (v := .slice a_u68 u20.Cols.length c_u68) ty89 rfl rfl rfl rfl ca71 rfl ?_
                refine op_len ty89 rfl rfl rfl ?_
                refine op_lss rfl rfl rfl rfl ?_
                refine wpList_nil ?_
                refine hK65 _ _ ?_
                refine c_if rfl rfl (fun hb72 => ?_) (fun hb72 => ?_)
                · -- (j : Int) < (u20.Cols.length : Int)
                  refine wp_skip ?_
                  refine hK64 _ _ ?_
                  refine c_seq fun KhK73 hK73 => ?_
                  refine wp_block ?_
                  refine c_seq fun KhK74 hK74 => ?_
                  refine c_reg ?_
                  refine op_move (v := .slice a_x0 x0.length c_x0) rfl rfl rfl ?_
                  refine op_move (v := .int .i64 (k : Int)) rfl rfl rfl ?_
                  refine op_indexN (j := k) ty22 ty91 rfl rfl rfl rfl rfl (h_x0.mono ((((e10.trans e27).trans e44).trans e61).tr M)) (by omega) fun ad75 cs76 u77 hx78 he79 ca80 => ?_
                  obtain rfl : u20 = u77 := Option.some.inj (hx21.symm.trans hx78)
                  obtain ⟨a_u77, c_u77, rfl, h_u77⟩ := he79
                  have lh_u77 := h_u77.lt63
                  refine op_field fld91_1 rfl rfl rfl ca80.spot ?_
                  refine op_loadA (v := .slice a_u77 u20.Cols.length c_u77) ty89 rfl rfl rfl rfl ca80 rfl ?_
                  refine op_move (v := .int .i64 (j : Int)) rfl rfl rfl ?_
                  refine op_indexN (j := j) ty89 ty93 rfl rfl rfl rfl rfl h_u77 (by omega) fun ad81 cs82 u83 hx84 he85 ca86 => ?_
                  obtain rfl := he85
                  have qu83 := qu20.2 u83 (List.mem_of_getElem? hx84)
                  refine op_loadAA ty93 rfl rfl rfl rfl ca86 rfl ?_
                  refine op_alloc (zs := [.string (⟨#[]⟩ : ByteArray), .int .i64 0, .string (⟨#[]⟩ : ByteArray)]) ty93 rfl rfl fun β87 w88 hβ89 u90 hz91 hx92 => ?_
                  have e93 := u90.evoN (m := []) hβ89 hz91
                  refine op_store (v := .agg #[.string u83.Name, .int .i64 u83.Kind, .string u83.Class]) (cs' := [.string u83.Name, .int .i64 u83.Kind, .string u83.Class]) ty93 rfl rfl rfl rfl hx92 rfl rfl rfl fun w94 u95 hz96 hx92' => ?_
                  have e97 := u95.evo (m := (β87 :: [])) (List.forall_mem_singleton.2 List.mem_cons_self)
                  refine wpList_nil ?_
                  refine hK74 _ _ ?_
                  refine c_seq fun KhK98 hK98 => ?_
                  refine c_reg ?_
                  refine op_fieldB fld93_0 rfl rfl rfl ?_
                  refine op_loadB (v := .string u83.Name) ty9 rfl rfl rfl rfl hx92' rfl ?_
                  refine op_call (args := [.string u83.Name]) cal56 rfl rfl rfl (c56 ((((((e10.trans e27).trans e44).trans e61).trans e93).trans e97).loM hM)) ?_
                  rintro _ w99 ⟨rfl, u100⟩
                  have e102 := u100.evo0 (m := (β87 :: []))
                  replace hx92' := hx92'.mono0 u100
                  refine op_assign (v := .bool (Pk.rsmallNamed u83.Name)) rfl rfl rfl ?_
                  refine wpList_nil ?_
                  refine hK98 _ _ ?_
                  refine c_seq fun KhK103 hK103 => ?_
                  refine c_seq fun KhK104 hK104 => ?_
                  refine c_reg ?_
                  refine op_move (v := .bool (Pk.rsmallNamed u83.Name)) rfl rfl rfl ?_
                  refine op_notB rfl rfl rfl ?_
                  refine wpList_nil ?_
                  refine hK104 _ _ ?_
                  refine c_ifNB rfl rfl (fun hb105 => ?_) (fun hb105 => ?_)
                  · -- (Pk.rsmallNamed u83.Name) = false
                    refine c_seq fun KhK106 hK106 => ?_
                    refine c_reg ?_
                    refine op_assign (v := .int .i64 4) rfl rfl rfl ?_
                    refine wpList_nil ?_
                    refine hK106 _ _ ?_
                    refine wp_ret ?_
                    have hr107 : 4 = (Pk.rcheckForms x0) := by rw [hi63]; simp [drop_of hx84, Pk.within313, Pk.rcfGo, Pk.rcfCols, Pk.rcfEnd, Pk.rcfIn, Pk.strANY, hb4, hi11, hb15, hx21, hb30, hb45, hb56, hi62, hb72, hx84, hb105]
                    exact ret1 Try.results17 rfl ⟨congrArg (Value.int .i64) hr107, ((((((e10.trans e27).trans e44).trans e61).trans e93).trans e97).trans e102).old⟩
                  · -- (Pk.rsmallNamed u83.Name) = true
                    refine wp_skip ?_
                    refine hK103 _ _ ?_
                    refine c_seq fun KhK108 hK108 => ?_
                    refine c_seq fun KhK109 hK109 => ?_
                    refine c_quiet mixed (by kernel_rfl) ?_
                    refine q_val (v := .slice a_x0 x0.length c_x0) rfl rfl rfl (fun wq110 uq111 => op_move (v := .slice a_x0 x0.length c_x0) rfl rfl rfl q1) ?_
                    refine q_val (v := .int .i64 (k : Int)) rfl rfl rfl (fun wq112 uq113 => op_move (v := .int .i64 (k : Int)) rfl rfl rfl q1) ?_
                    obtain ⟨ad114, cs115, u116, hx117, he118, ca119, hr120⟩ := (h_x0.mono (((((((e10.trans e27).trans e44).trans e61).trans e93).trans e97).trans e102).tr M)).idxN (j := k) ty22 ty91 rfl (by omega)
                    obtain rfl : u20 = u116 := Option.some.inj (hx21.symm.trans hx117)
                    obtain ⟨a_u116, c_u116, rfl, h_u116⟩ := he118
                    have lh_u116 := h_u116.lt63
                    refine q_val (v := .pointer (some ad114)) rfl rfl rfl (fun wq121 uq122 => op_indexR hr120 rfl rfl rfl rfl q1) ?_
                    refine q_val (v := .agg #[.string u20.Name, .slice a_u116 u20.Cols.length c_u116]) rfl rfl rfl (fun wq123 uq124 => op_loadAA ty91 rfl rfl rfl rfl (ca119.mono ((uq124.evo0 (m := (β87 :: []))).tr M)) rfl q1) ?_
                    refine q_val (v := .pointer (some ⟨β87, 0, none⟩)) rfl rfl rfl (fun wq125 uq126 => op_fieldB fld93_0 rfl rfl rfl q1) ?_
                    refine q_val (v := .string u83.Name) rfl rfl rfl (fun wq127 uq128 => op_loadB (v := .string u83.Name) ty9 rfl rfl rfl rfl (hx92'.mono0 uq128) rfl q1) ?_
                    refine q_call (args := [.agg #[.string u20.Name, .slice a_u116 u20.Cols.length c_u116], .string u83.Name]) (v := .int .i64 (Pk.rcol u20 u83.Name)) cal57 rfl rfl rfl (fun wq129 uq130 => c57 ((((((((e10.trans e27).trans e44).trans e61).trans e93).trans e97).trans e102).trans (uq130.evo0 (m := (β87 :: [])))).loM hM) (h_u116.mono ((uq130.evo0 (m := (β87 :: []))).tr M))) ?_
                    refine q_val (v := .int .i64 (j : Int)) rfl rfl rfl (fun wq131 uq132 => op_move (v := .int .i64 (j : Int)) rfl rfl rfl q1) ?_
                    refine q_val (v := .bool (decide ((Pk.rcol u20 u83.Name) < (j : Int)))) rfl rfl rfl (fun wq133 uq134 => op_lss rfl rfl rfl rfl q1) ?_
                    refine wpQuiet_nil fun w135 u136 => ?_
                    have e137 := u136.evo0 (m := (β87 :: []))
                    replace hx92' := hx92'.mono0 u136
                    refine hK109 _ _ ?_
                    refine c_if rfl rfl (fun hb138 => ?_) (fun hb138 => ?_)
                    · -- (Pk.rcol u20 u83.Name) < (j : Int)
                      refine c_seq fun KhK139 hK139 => ?_
                      refine c_reg ?_
                      refine op_assign (v := .int .i64 6) rfl rfl rfl ?_
                      refine wpList_nil ?_
                      refine hK139 _ _ ?_
                      refine wp_ret ?_
                      have hr140 : 6 = (Pk.rcheckForms x0) := by rw [hi63]; simp [drop_of hx84, Pk.within313, Pk.rcfGo, Pk.rcfCols, Pk.rcfEnd, Pk.rcfIn, Pk.strANY, hb4, hi11, hb15, hx21, hb30, hb45, hb56, hi62, hb72, hx84, hb105, hb138]
                      exact ret1 Try.results17 rfl ⟨congrArg (Value.int .i64) hr140, (((((((e10.trans e27).trans e44).trans e61).trans e93).trans e97).trans e102).trans e137).old⟩
                    · -- ¬ ((Pk.rcol u20 u83.Name) < (j : Int))
                      refine wp_skip ?_
                      refine hK108 _ _ ?_
                      refine c_seq fun KhK141 hK141 => ?_
                      refine c_reg ?_
                      refine op_fieldB fld93_1 rfl rfl rfl ?_
                      refine op_loadB (v := .int .i64 u83.Kind) ty3 rfl rfl rfl rfl hx92' rfl ?_
                      refine op_call (args := [.int .i64 u83.Kind, .int .i64 1, .int .i64 3]) cal58 rfl rfl rfl (c58 ((((((((e10.trans e27).trans e44).trans e61).trans e93).trans e97).trans e102).trans e137).loM hM)) ?_
                      rintro _ w142 ⟨rfl, u143⟩
                      have e145 := u143.evo0 (m := (β87 :: []))
                      replace hx92' := hx92'.mono0 u143
                      refine op_notB rfl rfl rfl ?_
                      refine op_move (v := .bool (!(Pk.within u83.Kind 1 3))) rfl rfl rfl ?_
                      refine op_partNB 80 rfl (fun hb146 => ?_) (fun hb146 => ?_)
                      · -- (Pk.within u83.Kind 1 3) = false
                        refine op_not rfl ?_
                        refine op_not rfl ?_
                        refine op_not rfl ?_
                        refine op_not rfl ?_
                        refine op_not rfl ?_
                        refine op_not rfl ?_
                        refine op_not rfl ?_
                        refine op_not rfl ?_
                        refine op_pickT (v := .bool true) rfl rfl rfl rfl ?_
                        refine wpList_nil ?_
                        refine hK141 _ _ ?_
                        refine c_ifT rfl rfl ?_
                        refine c_seq fun KhK147 hK147 => ?_
                        refine c_reg ?_
                        refine op_assign (v := .int .i64 1) rfl rfl rfl ?_
                        refine wpList_nil ?_
                        refine hK147 _ _ ?_
                        refine wp_ret ?_
                        have hr148 : 1 = (Pk.rcheckForms x0) := by rw [hi63]; simp [drop_of hx84, Pk.within313, Pk.rcfGo, Pk.rcfCols, Pk.rcfEnd, Pk.rcfIn, Pk.strANY, hb4, hi11, hb15, hx21, hb30, hb45, hb56, hi62, hb72, hx84, hb105, hb138, hb146]
                        exact ret1 Try.results17 rfl ⟨congrArg (Value.int .i64) hr148, ((((((((e10.trans e27).trans e44).trans e61).trans e93).trans e97).trans e102).trans e137).trans e145).old⟩
                      · -- (Pk.within u83.Kind 1 3) = true
                        refine op_fieldB fld93_1 rfl rfl rfl ?_
                        refine op_loadB (v := .int .i64 u83.Kind) ty3 rfl rfl rfl rfl hx92' rfl ?_
                        refine op_neq rfl rfl rfl rfl ?_
                        refine op_move (v := .bool (decide (¬ (u83.Kind = 3)))) rfl rfl rfl ?_
                        refine op_partN 84 rfl (fun hb149 => ?_) (fun hb149 => ?_)
                        · -- ¬ (u83.Kind = 3)
                          refine op_fieldB fld93_2 rfl rfl rfl ?_
                          refine op_loadB (v := .string u83.Class) ty9 rfl rfl rfl rfl hx92' rfl ?_
                          refine op_neqS rfl rfl rfl rfl ?_
                          refine op_pickT (v := .bool (decide (¬ (u83.Class = (⟨#[]⟩ : ByteArray))))) rfl rfl rfl rfl ?_
                          refine op_pickF (v := .bool (decide (¬ (u83.Class = (⟨#[]⟩ : ByteArray))))) rfl rfl rfl rfl ?_
                          refine wpList_nil ?_
                          refine hK141 _ _ ?_
                          refine c_ifN rfl rfl (fun hb150 => ?_) (fun hb150 => ?_)
                          · -- ¬ (u83.Class = (⟨#[]⟩ : ByteArray))
                            refine c_seq fun KhK151 hK151 => ?_
                            refine c_reg ?_
                            refine op_assign (v := .int .i64 1) rfl rfl rfl ?_
                            refine wpList_nil ?_
                            refine hK151 _ _ ?_
                            refine wp_ret ?_
                            have hr152 : 1 = (Pk.rcheckForms x0) := by rw [hi63]; simp [drop_of hx84, Pk.within313, Pk.rcfGo, Pk.rcfCols, Pk.rcfEnd, Pk.rcfIn, Pk.strANY, hb4, hi11, hb15, hx21, hb30, hb45, hb56, hi62, hb72, hx84, hb105, hb138, hb146, hb149, hb150]
                            exact ret1 Try.results17 rfl ⟨congrArg (Value.int .i64) hr152, ((((((((e10.trans e27).trans e44).trans e61).trans e93).trans e97).trans e102).trans e137).trans e145).old⟩
                          · -- u83.Class = (⟨#[]⟩ : ByteArray)
                            refine wp_skip ?_
                            refine hK73 _ _ ?_
                            refine c_reg ?_
                            refine op_move (v := .int .i64 (j : Int)) rfl rfl rfl ?_
                            refine op_add rfl rfl rfl rfl (by omega) ?_
                            refine op_assign (v := .int .i64 ((j : Int) + 1)) rfl rfl rfl ?_
                            refine wpList_nil ?_
                            repeat (with_reducible refine inBlock_normal ?_)
                            with_reducible refine then_normal ?_
                            exact ⟨(j + 1), (by first | omega | (dsimp only; omega)), ⟨(by first | omega | (simp only [List.length_append, List.length_cons, List.length_nil]; omega) | (rw [hi63]; simp [drop_of hx84, Pk.within313, Pk.rcfGo, Pk.rcfCols, Pk.rcfEnd, Pk.rcfIn, Pk.strANY, hb4, hi11, hb15, hx21, hb30, hb45, hb56, hi62, hb72, hx84, hb105, hb138, hb146, hb149, hb150])), (by rw [hi63]; simp [drop_of hx84, Pk.within313, Pk.rcfGo, Pk.rcfCols, Pk.rcfEnd, Pk.rcfIn, Pk.strANY, hb4, hi11, hb15, hx21, hb30, hb45, hb56, hi62, hb72, hx84, hb105, hb138, hb146, hb149, hb150]), ((((((e61.trans e93).trans e97).trans e102).trans e137).trans e145).drop (fun b hb => by simp [hb]))⟩, _, rfl, (by repeat first | exact agree.refl _ _ | refine agree.upd rfl ?_ | refine agree.upds rfl ?_ | refine agree.mix rfl ?_), ⟨congrArg (Value.int .i64) (show ((j : Int) + 1) = ((j + 1 : Nat) : Int) by omega), trivial⟩⟩
                        · -- u83.Kind = 3
                          refine op_not rfl ?_
                          refine op_not rfl ?_
                          refine op_not rfl ?_
                          refine op_pickF (v := .bool false) rfl rfl rfl rfl ?_
                          refine op_pickF (v := .bool false) rfl rfl rfl rfl ?_
                          refine wpList_nil ?_
                          refine hK141 _ _ ?_
                          refine c_ifF rfl rfl ?_
                          refine wp_skip ?_
                          refine hK73 _ _ ?_
                          refine c_reg ?_
                          refine op_move (v := .int .i64 (j : Int)) rfl rfl rfl ?_
                          refine op_add rfl rfl rfl rfl (by omega) ?_
                          refine op_assign (v := .int .i64 ((j : Int) + 1)) rfl rfl rfl ?_
                          refine wpList_nil ?_
                          repeat (with_reducible refine inBlock_normal ?_)
                          with_reducible refine then_normal ?_
                          exact ⟨(j + 1), (by first | omega | (dsimp only; omega)), ⟨(by first | omega | (simp only [List.length_append, List.length_cons, List.length_nil]; omega) | (rw [hi63]; simp [drop_of hx84, Pk.within313, Pk.rcfGo, Pk.rcfCols, Pk.rcfEnd, Pk.rcfIn, Pk.strANY, hb4, hi11, hb15, hx21, hb30, hb45, hb56, hi62, hb72, hx84, hb105, hb138, hb146, hb149])), (by rw [hi63]; simp [drop_of hx84, Pk.within313, Pk.rcfGo, Pk.rcfCols, Pk.rcfEnd, Pk.rcfIn, Pk.strANY, hb4, hi11, hb15, hx21, hb30, hb45, hb56, hi62, hb72, hx84, hb105, hb138, hb146, hb149]), ((((((e61.trans e93).trans e97).trans e102).trans e137).trans e145).drop (fun b hb => by simp [hb]))⟩, _, rfl, (by repeat first | exact agree.refl _ _ | refine agree.upd rfl ?_ | refine agree.upds rfl ?_ | refine agree.mix rfl ?_), ⟨congrArg (Value.int .i64) (show ((j : Int) + 1) = ((j + 1 : Nat) : Int) by omega), trivial⟩⟩
                · -- ¬ ((j : Int) < (u20.Cols.length : Int))
                  refine wp_exit ?_
                  refine hK16 _ _ ?_
                  refine c_reg ?_
                  refine op_move (v := .int .i64 (k : Int)) rfl rfl rfl ?_
                  refine op_add rfl rfl rfl rfl (by omega) ?_
                  refine op_assign (v := .int .i64 ((k : Int) + 1)) rfl rfl rfl ?_
                  refine wpList_nil ?_
                  repeat (with_reducible refine inBlock_normal ?_)
                  with_reducible refine then_normal ?_
                  exact ⟨(k + 1), (by first | omega | (dsimp only; omega)), ⟨(by first | omega | (simp only [List.length_append, List.length_cons, List.length_nil]; omega) | (rw [hi63]; simp [drop_end (l := u20.Cols) (k := j) (by first | omega | (rw [bytes_length]; omega)), Pk.within313, Pk.rcfGo, Pk.rcfCols, Pk.rcfEnd, Pk.rcfIn, Pk.strANY, hb4, hi11, hb15, hx21, hb30, hb45, hb56, hi62, hb72])), (by rw [hi63]; simp [drop_end (l := u20.Cols) (k := j) (by first | omega | (rw [bytes_length]; omega)), Pk.within313, Pk.rcfGo, Pk.rcfCols, Pk.rcfEnd, Pk.rcfIn, Pk.strANY, hb4, hi11, hb15, hx21, hb30, hb45, hb56, hi62, hb72]), ((((e10.trans e27).trans e44).trans e61).drop (fun b hb => by simp [hb]))⟩, _, rfl, (by repeat first | exact agree.refl _ _ | refine agree.upd rfl ?_ | refine agree.upds rfl ?_ | refine agree.mix rfl ?_), ⟨congrArg (Value.int .i64) (show ((k : Int) + 1) = ((k + 1 : Nat) : Int) by omega), trivial⟩⟩
      · -- ¬ ((k : Int) < (x0.length : Int))
        refine wp_exit ?_
        refine hK7 _ _ ?_
        refine c_seq fun KhK153 hK153 => ?_
        refine c_seq fun KhK154 hK154 => ?_
        refine c_reg ?_
        refine op_assign (v := .int .i64 0) rfl rfl rfl ?_
        refine wpList_nil ?_
        refine hK154 _ _ ?_
        refine wp_block ?_
        refine c_loop (X := Nat) [2, 8, 9, 10, 90, 91, 92, 93, 94, 95, 96, 97, 98, 99, 100, 101, 102, 103, 104, 105, 106, 107, 108, 109, 110, 111, 112, 113, 114, 115, 116, 117, 118, 119, 120, 121, 122, 123, 124, 125, 126, 127, 128] (fun m => [(8, .int .i64 (m : Int))]) (fun m w1 => (m ≤ x0.length) ∧ (Pk.rcheckForms x0 = Pk.rcfEnd x0 (x0.drop m)) ∧ Evo [] w9 [] w1) (fun m => x0.length - m) (0) ⟨congrArg (Value.int .i64) (show 0 = ((0 : Nat) : Int) by omega), trivial⟩ ?_ ?_
        ·
          exact ⟨(by first | omega | simp), (by rw [hi12]; simp [drop_end (l := x0) (k := k) (by first | omega | (rw [bytes_length]; omega)), Pk.rcfGo]), Evo.refl _ _⟩
        ·
          rintro m τ w155 ⟨hi157, hi158, e156⟩
          refine c_seq fun KhK159 hK159 => ?_
          refine c_seq fun KhK160 hK160 => ?_
          refine c_reg ?_
          refine op_move (v := .int .i64 (m : Int)) rfl rfl rfl ?_
          refine op_move (v := .slice a_x0 x0.length c_x0) rfl rfl rfl ?_
          refine op_len ty22 rfl rfl rfl ?_
          refine op_lss rfl rfl rfl rfl ?_
          refine wpList_nil ?_
          refine hK160 _ _ ?_
          refine c_if rfl rfl (fun hb161 => ?_) (fun hb161 => ?_)
          · -- (m : Int) < (x0.length : Int)
            refine wp_skip ?_
            refine hK159 _ _ ?_
            refine c_seq fun KhK162 hK162 => ?_
            refine wp_block ?_
            refine c_seq fun KhK163 hK163 => ?_
            refine c_reg ?_
            refine op_assign (v := .int .i64 0) rfl rfl rfl ?_
            refine wpList_nil ?_
            refine hK163 _ _ ?_
            refine wp_block ?_
            obtain ⟨nd, hx_nd⟩ := get_lt (l := x0) (k := m) (by omega)
            have qnd := p0 nd (List.mem_of_getElem? hx_nd)
            have tnd := fun s => Pk.rcol_lt nd s
            refine c_loop (X := Nat) [2, 9, 10, 96, 97, 98, 99, 100, 101, 102, 103, 104, 105, 106, 107, 108, 109, 110, 111, 112, 113, 114, 115, 116, 117, 118, 119, 120, 121, 122, 123, 124, 125, 126, 127, 128] (fun i => [(9, .int .i64 (i : Int))]) (fun i w1 => (i ≤ nd.Cols.length) ∧ (Pk.rcheckForms x0 = if Pk.rcfIn x0 (nd.Cols.drop i) = true then Pk.rcfEnd x0 (x0.drop (m + 1)) else 5) ∧ Evo [] w155 [] w1) (fun i => nd.Cols.length - i) (0) ⟨congrArg (Value.int .i64) (show 0 = ((0 : Nat) : Int) by omega), trivial⟩ ?_ ?_
            ·
              exact ⟨(by first | omega | simp), (by rw [hi158]; simp [drop_of hx_nd, Pk.rcfEnd]), Evo.refl _ _⟩
            ·
              rintro i τ w164 ⟨hi166, hi167, e165⟩
              refine c_seq fun KhK168 hK168 => ?_
              refine c_seq fun KhK169 hK169 => ?_
              refine c_reg ?_
              refine op_move (v := .int .i64 (i : Int)) rfl rfl rfl ?_
              refine op_move (v := .slice a_x0 x0.length c_x0) rfl rfl rfl ?_
              refine op_move (v := .int .i64 (m : Int)) rfl rfl rfl ?_
              refine op_indexN (j := m) ty22 ty91 rfl rfl rfl rfl rfl (h_x0.mono (((e10.trans e156).trans e165).tr M)) (by omega) fun ad170 cs171 u172 hx173 he174 ca175 => ?_
              obtain rfl : nd = u172 := Option.some.inj (hx_nd.symm.trans hx173)
              obtain ⟨a_u172, c_u172, rfl, h_u172⟩ := he174
              have lh_u172 := h_u172.lt63
              refine op_field fld91_1 rfl rfl rfl ca175.spot ?_
              refine op_loadA (v := .slice a_u172 nd.Cols.length c_u172) ty89 rfl rfl rfl rfl ca175 rfl ?_
              refine op_len ty89 rfl rfl rfl ?_
              refine op_lss rfl rfl rfl rfl ?_
              refine wpList_nil ?_
              refine hK169 _ _ ?_
              refine c_if rfl rfl (fun hb176 => ?_) (fun hb176 => ?_)
              · -- (i : Int) < (nd.Cols.length : Int)
                refine wp_skip ?_
                refine hK168 _ _ ?_
                refine c_seq fun KhK177 hK177 => ?_
                refine wp_block ?_
                refine c_seq fun KhK178 hK178 => ?_
                refine c_reg ?_
                refine op_move (v := .slice a_x0 x0.length c_x0) rfl rfl rfl ?_
                refine op_move (v := .int .i64 (m : Int)) rfl rfl rfl ?_
                refine op_indexN (j := m) ty22 ty91 rfl rfl rfl rfl rfl (h_x0.mono (((e10.trans e156).trans e165).tr M)) (by omega) fun ad179 cs180 u181 hx182 he183 ca184 => ?_
                obtain rfl : nd = u181 := Option.some.inj (hx_nd.symm.trans hx182)
                obtain ⟨a_u181, c_u181, rfl, h_u181⟩ := he183
                have lh_u181 := h_u181.lt63
                refine op_field fld91_1 rfl rfl rfl ca184.spot ?_
                refine op_loadA (v := .slice a_u181 nd.Cols.length c_u181) ty89 rfl rfl rfl rfl ca184 rfl ?_
                refine op_move (v := .int .i64 (i : Int)) rfl rfl rfl ?_
                refine op_indexN (j := i) ty89 ty93 rfl rfl rfl rfl rfl h_u181 (by omega) fun ad185 cs186 u187 hx188 he189 ca190 => ?_
                obtain rfl := he189
                have qu187 := qnd.2 u187 (List.mem_of_getElem? hx188)
                refine op_loadAA ty93 rfl rfl rfl rfl ca190 rfl ?_
                refine op_alloc (zs := [.string (⟨#[]⟩ : ByteArray), .int .i64 0, .string (⟨#[]⟩ : ByteArray)]) ty93 rfl rfl fun β191 w192 hβ193 u194 hz195 hx196 => ?_
                have e197 := u194.evoN (m := []) hβ193 hz195
                refine op_store (v := .agg #[.string u187.Name, .int .i64 u187.Kind, .string u187.Class]) (cs' := [.string u187.Name, .int .i64 u187.Kind, .string u187.Class]) ty93 rfl rfl rfl rfl hx196 rfl rfl rfl fun w198 u199 hz200 hx196' => ?_
                have e201 := u199.evo (m := (β191 :: [])) (List.forall_mem_singleton.2 List.mem_cons_self)
                refine wpList_nil ?_
                refine hK178 _ _ ?_
                refine c_seq fun KhK202 hK202 => ?_
                refine c_reg ?_
                refine op_fieldB fld93_1 rfl rfl rfl ?_
                refine op_loadB (v := .int .i64 u187.Kind) ty3 rfl rfl rfl rfl hx196' rfl ?_
                refine op_eq rfl rfl rfl rfl ?_
                refine op_move (v := .bool (decide (u187.Kind = 3))) rfl rfl rfl ?_
                refine op_part 117 rfl (fun hb203 => ?_) (fun hb203 => ?_)
                · -- u187.Kind = 3
                  refine op_fieldB fld93_2 rfl rfl rfl ?_
                  refine op_loadB (v := .string u187.Class) ty9 rfl rfl rfl rfl hx196' rfl ?_
                  refine op_neqS rfl rfl rfl rfl ?_
                  refine op_pickT (v := .bool (decide (¬ (u187.Class = (⟨#[65, 78, 89]⟩ : ByteArray))))) rfl rfl rfl rfl ?_
                  refine op_move (v := .bool (decide (¬ (u187.Class = (⟨#[65, 78, 89]⟩ : ByteArray))))) rfl rfl rfl ?_
                  refine op_partN 122 rfl (fun hb204 => ?_) (fun hb204 => ?_)
                  · -- ¬ (u187.Class = (⟨#[65, 78, 89]⟩ : ByteArray))
                    refine op_move (v := .slice a_x0 x0.length c_x0) rfl rfl rfl ?_
                    refine op_fieldB fld93_2 rfl rfl rfl ?_
                    refine op_loadB (v := .string u187.Class) ty9 rfl rfl rfl rfl hx196' rfl ?_
                    refine op_call (args := [.slice a_x0 x0.length c_x0, .string u187.Class]) cal55 rfl rfl rfl (c55 (((((e10.trans e156).trans e165).trans e197).trans e201).loM hM) (h_x0.mono (((((e10.trans e156).trans e165).trans e197).trans e201).tr M))) ?_
                    rintro _ w205 ⟨rfl, u206⟩
                    have e208 := u206.evo0 (m := (β191 :: []))
                    replace hx196' := hx196'.mono0 u206
                    refine op_lss rfl rfl rfl rfl ?_
                    refine op_pickT (v := .bool (decide ((Pk.rform x0 u187.Class) < 0))) rfl rfl rfl rfl ?_
                    refine wpList_nil ?_
                    refine hK202 _ _ ?_
                    refine c_if rfl rfl (fun hb209 => ?_) (fun hb209 => ?_)
                    · -- (Pk.rform x0 u187.Class) < 0
                      refine c_seq fun KhK210 hK210 => ?_
                      refine c_reg ?_
                      refine op_assign (v := .int .i64 5) rfl rfl rfl ?_
                      refine wpList_nil ?_
                      refine hK210 _ _ ?_
                      refine wp_ret ?_
                      have hr211 : 5 = (Pk.rcheckForms x0) := by rw [hi167]; simp [drop_of hx188, Pk.within313, Pk.rcfGo, Pk.rcfCols, Pk.rcfEnd, Pk.rcfIn, Pk.strANY, hb4, hi11, hb15, hi157, hb161, hx_nd, hi166, hb176, hx188, hb203, hb204, hb209]
                      exact ret1 Try.results17 rfl ⟨congrArg (Value.int .i64) hr211, (((((e10.trans e156).trans e165).trans e197).trans e201).trans e208).old⟩
                    · -- ¬ ((Pk.rform x0 u187.Class) < 0)
                      refine wp_skip ?_
                      refine hK177 _ _ ?_
                      refine c_reg ?_
                      refine op_move (v := .int .i64 (i : Int)) rfl rfl rfl ?_
                      refine op_add rfl rfl rfl rfl (by omega) ?_
                      refine op_assign (v := .int .i64 ((i : Int) + 1)) rfl rfl rfl ?_
                      refine wpList_nil ?_
                      repeat (with_reducible refine inBlock_normal ?_)
                      with_reducible refine then_normal ?_
                      exact ⟨(i + 1), (by first | omega | (dsimp only; omega)), ⟨(by first | omega | (simp only [List.length_append, List.length_cons, List.length_nil]; omega) | (rw [hi167]; simp [drop_of hx188, Pk.within313, Pk.rcfGo, Pk.rcfCols, Pk.rcfEnd, Pk.rcfIn, Pk.strANY, hb4, hi11, hb15, hi157, hb161, hx_nd, hi166, hb176, hx188, hb203, hb204, hb209])), (by rw [hi167]; simp [drop_of hx188, Pk.within313, Pk.rcfGo, Pk.rcfCols, Pk.rcfEnd, Pk.rcfIn, Pk.strANY, hb4, hi11, hb15, hi157, hb161, hx_nd, hi166, hb176, hx188, hb203, hb204, hb209]), ((((e165.trans e197).trans e201).trans e208).drop (fun b hb => by simp [hb]))⟩, _, rfl, (by repeat first | exact agree.refl _ _ | refine agree.upd rfl ?_ | refine agree.upds rfl ?_ | refine agree.mix rfl ?_), ⟨congrArg (Value.int .i64) (show ((i : Int) + 1) = ((i + 1 : Nat) : Int) by omega), trivial⟩⟩
                  · -- u187.Class = (⟨#[65, 78, 89]⟩ : ByteArray)
                    refine op_not rfl ?_
                    refine op_not rfl ?_
                    refine op_not rfl ?_
                    refine op_not rfl ?_
                    refine op_not rfl ?_
                    refine op_pickF (v := .bool false) rfl rfl rfl rfl ?_
                    refine wpList_nil ?_
                    refine hK202 _ _ ?_
                    refine c_ifF rfl rfl ?_
                    refine wp_skip ?_
                    refine hK177 _ _ ?_
                    refine c_reg ?_
                    refine op_move (v := .int .i64 (i : Int)) rfl rfl rfl ?_
                    refine op_add rfl rfl rfl rfl (by omega) ?_
                    refine op_assign (v := .int .i64 ((i : Int) + 1)) rfl rfl rfl ?_
                    refine wpList_nil ?_
                    repeat (with_reducible refine inBlock_normal ?_)
                    with_reducible refine then_normal ?_
                    exact ⟨(i + 1), (by first | omega | (dsimp only; omega)), ⟨(by first | omega | (simp only [List.length_append, List.length_cons, List.length_nil]; omega) | (rw [hi167]; simp [drop_of hx188, Pk.within313, Pk.rcfGo, Pk.rcfCols, Pk.rcfEnd, Pk.rcfIn, Pk.strANY, hb4, hi11, hb15, hi157, hb161, hx_nd, hi166, hb176, hx188, hb203, hb204])), (by rw [hi167]; simp [drop_of hx188, Pk.within313, Pk.rcfGo, Pk.rcfCols, Pk.rcfEnd, Pk.rcfIn, Pk.strANY, hb4, hi11, hb15, hi157, hb161, hx_nd, hi166, hb176, hx188, hb203, hb204]), (((e165.trans e197).trans e201).drop (fun b hb => by simp [hb]))⟩, _, rfl, (by repeat first | exact agree.refl _ _ | refine agree.upd rfl ?_ | refine agree.upds rfl ?_ | refine agree.mix rfl ?_), ⟨congrArg (Value.int .i64) (show ((i : Int) + 1) = ((i + 1 : Nat) : Int) by omega), trivial⟩⟩
                · -- ¬ (u187.Kind = 3)
                  refine op_not rfl ?_
                  refine op_not rfl ?_
                  refine op_not rfl ?_
                  refine op_pickF (v := .bool false) rfl rfl rfl rfl ?_
                  refine op_move (v := .bool false) rfl rfl rfl ?_
                  refine op_not rfl ?_
                  refine op_not rfl ?_
                  refine op_not rfl ?_
                  refine op_not rfl ?_
                  refine op_not rfl ?_
                  refine op_pickF (v := .bool false) rfl rfl rfl rfl ?_
                  refine wpList_nil ?_
                  refine hK202 _ _ ?_
                  refine c_ifF rfl rfl ?_
                  refine wp_skip ?_
                  refine hK177 _ _ ?_
                  refine c_reg ?_
                  refine op_move (v := .int .i64 (i : Int)) rfl rfl rfl ?_
                  refine op_add rfl rfl rfl rfl (by omega) ?_
                  refine op_assign (v := .int .i64 ((i : Int) + 1)) rfl rfl rfl ?_
                  refine wpList_nil ?_
                  repeat (with_reducible refine inBlock_normal ?_)
                  with_reducible refine then_normal ?_
                  exact ⟨(i + 1), (by first | omega | (dsimp only; omega)), ⟨(by first | omega | (simp only [List.length_append, List.length_cons, List.length_nil]; omega) | (rw [hi167]; simp [drop_of hx188, Pk.within313, Pk.rcfGo, Pk.rcfCols, Pk.rcfEnd, Pk.rcfIn, Pk.strANY, hb4, hi11, hb15, hi157, hb161, hx_nd, hi166, hb176, hx188, hb203])), (by rw [hi167]; simp [drop_of hx188, Pk.within313, Pk.rcfGo, Pk.rcfCols, Pk.rcfEnd, Pk.rcfIn, Pk.strANY, hb4, hi11, hb15, hi157, hb161, hx_nd, hi166, hb176, hx188, hb203]), (((e165.trans e197).trans e201).drop (fun b hb => by simp [hb]))⟩, _, rfl, (by repeat first | exact agree.refl _ _ | refine agree.upd rfl ?_ | refine agree.upds rfl ?_ | refine agree.mix rfl ?_), ⟨congrArg (Value.int .i64) (show ((i : Int) + 1) = ((i + 1 : Nat) : Int) by omega), trivial⟩⟩
              · -- ¬ ((i : Int) < (nd.Cols.length : Int))
                refine wp_exit ?_
                refine hK162 _ _ ?_
                refine c_reg ?_
                refine op_move (v := .int .i64 (m : Int)) rfl rfl rfl ?_
                refine op_add rfl rfl rfl rfl (by omega) ?_
                refine op_assign (v := .int .i64 ((m : Int) + 1)) rfl rfl rfl ?_
                refine wpList_nil ?_
                repeat (with_reducible refine inBlock_normal ?_)
                with_reducible refine then_normal ?_
                exact ⟨(m + 1), (by first | omega | (dsimp only; omega)), ⟨(by first | omega | (simp only [List.length_append, List.length_cons, List.length_nil]; omega) | (rw [hi167]; simp [drop_end (l := nd.Cols) (k := i) (by first | omega | (rw [bytes_length]; omega)), Pk.within313, Pk.rcfGo, Pk.rcfCols, Pk.rcfEnd, Pk.rcfIn, Pk.strANY, hb4, hi11, hb15, hi157, hb161, hx_nd, hi166, hb176])), (by rw [hi167]; simp [drop_end (l := nd.Cols) (k := i) (by first | omega | (rw [bytes_length]; omega)), Pk.within313, Pk.rcfGo, Pk.rcfCols, Pk.rcfEnd, Pk.rcfIn, Pk.strANY, hb4, hi11, hb15, hi157, hb161, hx_nd, hi166, hb176]), ((e156.trans e165).drop (fun b hb => by simp [hb]))⟩, _, rfl, (by repeat first | exact agree.refl _ _ | refine agree.upd rfl ?_ | refine agree.upds rfl ?_ | refine agree.mix rfl ?_), ⟨congrArg (Value.int .i64) (show ((m : Int) + 1) = ((m + 1 : Nat) : Int) by omega), trivial⟩⟩
          · -- ¬ ((m : Int) < (x0.length : Int))
            refine wp_exit ?_
            refine hK153 _ _ ?_
            refine c_seq fun KhK212 hK212 => ?_
            refine c_reg ?_
            refine op_assign (v := .int .i64 0) rfl rfl rfl ?_
            refine wpList_nil ?_
            refine hK212 _ _ ?_
            refine wp_ret ?_
            have hr213 : 0 = (Pk.rcheckForms x0) := by rw [hi158]; simp [drop_end (l := x0) (k := m) (by first | omega | (rw [bytes_length]; omega)), Pk.within313, Pk.rcfGo, Pk.rcfCols, Pk.rcfEnd, Pk.rcfIn, Pk.strANY, hb4, hi11, hb15, hi157, hb161]
            exact ret1 Try.results17 rfl ⟨congrArg (Value.int .i64) hr213, (e10.trans e156).old⟩
set_option maxHeartbeats 1000000 in
theorem c60 {M : List Nat} {w : World} {x0 : Pk.Graph} {a1_x0 : Option Addr} {c1_x0 : Nat} {a2_x0 : Option Addr} {c2_x0 : Nat} (hM : Lo M w) (h1_x0 : SL M w a1_x0 c1_x0 x0.Nodes) (h2_x0 : SL M w a2_x0 c2_x0 x0.Roots) : Calls Try.prog 60 #[.agg #[.slice a1_x0 x0.Nodes.length c1_x0, .slice a2_x0 x0.Roots.length c2_x0]] w (Ret fun v w' => v = .int .i64 (Pk.rformed x0) ∧ Upd [] w w') := by
  have lh1_x0 := h1_x0.lt63
  have lh2_x0 := h2_x0.lt63
  refine enter (l := [.agg #[.slice a1_x0 x0.Nodes.length c1_x0, .slice a2_x0 x0.Roots.length c2_x0]]) Try.func60 rfl Try.ntmps60 rfl ?_
  refine c_seq fun KhK1 hK1 => ?_
  refine c_reg ?_
  refine op_box (v := .agg #[.slice a1_x0 x0.Nodes.length c1_x0, .slice a2_x0 x0.Roots.length c2_x0]) (zs := [.slice a1_x0 x0.Nodes.length c1_x0, .slice a2_x0 x0.Roots.length c2_x0]) rfl rfl rfl rfl fun β2 w3 hβ4 u5 hz6 hx7 => ?_
  have e8 := u5.evoN (m := []) hβ4 hz6
  refine op_assign (v := .int .i64 0) rfl rfl rfl ?_
  refine wpList_nil ?_
  refine hK1 _ _ ?_
  refine c_seq fun KhK9 hK9 => ?_
  refine c_reg ?_
  refine op_fieldB fld26_0 rfl rfl rfl ?_
  refine op_loadB (v := .slice a1_x0 x0.Nodes.length c1_x0) ty23 rfl rfl rfl rfl hx7 rfl ?_
  refine op_len ty23 rfl rfl rfl ?_
  refine op_assign (v := .int .i64 (x0.Nodes.length : Int)) rfl rfl rfl ?_
  refine wpList_nil ?_
  refine hK9 _ _ ?_
  refine c_seq fun KhK10 hK10 => ?_
  refine c_seq fun KhK11 hK11 => ?_
  refine c_reg ?_
  refine op_move (v := .int .i64 (x0.Nodes.length : Int)) rfl rfl rfl ?_
  refine op_gtr rfl rfl rfl rfl ?_
  refine op_move (v := .bool (decide (400 < (x0.Nodes.length : Int)))) rfl rfl rfl ?_
  refine op_part 15 rfl (fun hb12 => ?_) (fun hb12 => ?_)
  · -- 400 < (x0.Nodes.length : Int)
    refine op_not rfl ?_
    refine op_not rfl ?_
    refine op_not rfl ?_
    refine op_not rfl ?_
    refine op_pickT (v := .bool true) rfl rfl rfl rfl ?_
    refine wpList_nil ?_
    refine hK11 _ _ ?_
    refine c_ifT rfl rfl ?_
    refine c_seq fun KhK13 hK13 => ?_
    refine c_reg ?_
    refine op_assign (v := .int .i64 3) rfl rfl rfl ?_
    refine wpList_nil ?_
    refine hK13 _ _ ?_
    refine wp_ret ?_
    have hr14 : 3 = (Pk.rformed x0) := by simp [ Pk.rformedGo, Pk.rformedGo2, Pk.rvalsIn, Pk.rroots, Pk.rformed, hb12]
    exact ret1 Try.results60 rfl ⟨congrArg (Value.int .i64) hr14, e8.old⟩
  · -- ¬ (400 < (x0.Nodes.length : Int))
    refine op_fieldB fld26_1 rfl rfl rfl ?_
    refine op_loadB (v := .slice a2_x0 x0.Roots.length c2_x0) ty24 rfl rfl rfl rfl hx7 rfl ?_
    refine op_len ty24 rfl rfl rfl ?_
    refine op_gtr rfl rfl rfl rfl ?_
    refine op_pickF (v := .bool (decide (60 < (x0.Roots.length : Int)))) rfl rfl rfl rfl ?_
    refine wpList_nil ?_
    refine hK11 _ _ ?_
    refine c_if rfl rfl (fun hb15 => ?_) (fun hb15 => ?_)
    · -- 60 < (x0.Roots.length : Int)
      refine c_seq fun KhK16 hK16 => ?_
      refine c_reg ?_
      refine op_assign (v := .int .i64 3) rfl rfl rfl ?_
      refine wpList_nil ?_
      refine hK16 _ _ ?_
      refine wp_ret ?_
      have hr17 : 3 = (Pk.rformed x0) := by simp [ Pk.rformedGo, Pk.rformedGo2, Pk.rvalsIn, Pk.rroots, Pk.rformed, hb12, hb15]
      exact ret1 Try.results60 rfl ⟨congrArg (Value.int .i64) hr17, e8.old⟩
    · -- ¬ (60 < (x0.Roots.length : Int))
      refine wp_skip ?_
      refine hK10 _ _ ?_
      refine c_seq fun KhK18 hK18 => ?_
      refine c_seq fun KhK19 hK19 => ?_
      refine c_reg ?_
      refine op_assign (v := .int .i64 0) rfl rfl rfl ?_
      refine wpList_nil ?_
      refine hK19 _ _ ?_
      refine wp_block ?_
      refine c_loop (X := Nat) [2, 4, 21, 22, 23, 24, 25, 26, 27, 28, 29, 30, 31, 32, 33] (fun k => [(4, .int .i64 (k : Int))]) (fun k w1 => (k ≤ x0.Nodes.length) ∧ (Pk.rformed x0 = Pk.rformedGo x0 (x0.Nodes.drop k)) ∧ Evo (β2 :: []) w3 (β2 :: []) w1 ∧ Box w1 β2 [.slice a1_x0 x0.Nodes.length c1_x0, .slice a2_x0 x0.Roots.length c2_x0]) (fun k => x0.Nodes.length - k) (0) ⟨congrArg (Value.int .i64) (show 0 = ((0 : Nat) : Int) by omega), trivial⟩ ?_ ?_
      ·
        exact ⟨(by first | omega | simp), (by simp [Pk.rformed, hb12, hb15]), Evo.refl _ _, hx7⟩
      ·
        rintro k τ w20 ⟨hi22, hi23, e21, hx7⟩
        refine c_seq fun KhK24 hK24 => ?_
        refine c_seq fun KhK25 hK25 => ?_
        refine c_reg ?_
        refine op_move (v := .int .i64 (k : Int)) rfl rfl rfl ?_
        refine op_move (v := .int .i64 (x0.Nodes.length : Int)) rfl rfl rfl ?_
        refine op_lss rfl rfl rfl rfl ?_
        refine wpList_nil ?_
        refine hK25 _ _ ?_
        refine c_if rfl rfl (fun hb26 => ?_) (fun hb26 => ?_)
        · -- (k : Int) < (x0.Nodes.length : Int)
          refine wp_skip ?_
          refine hK24 _ _ ?_
          refine c_seq fun KhK27 hK27 => ?_
          refine wp_block ?_
          refine c_seq fun KhK28 hK28 => ?_
          refine c_reg ?_
          refine op_fieldB fld26_0 rfl rfl rfl ?_
          refine op_loadB (v := .slice a1_x0 x0.Nodes.length c1_x0) ty23 rfl rfl rfl rfl hx7 rfl ?_
          refine op_move (v := .int .i64 (k : Int)) rfl rfl rfl ?_
          refine op_indexN (j := k) ty23 ty49 rfl rfl rfl rfl rfl (h1_x0.mono ((e8.trans e21).tr M)) (by omega) fun ad29 cs30 u31 hx32 he33 ca34 => ?_
          obtain ⟨a_u31, c_u31, rfl, h_u31⟩ := he33
          have lh_u31 := h_u31.lt63
          refine op_field fld49_1 rfl rfl rfl ca34.spot ?_
          refine op_loadA (v := .slice a_u31 u31.Vals.length c_u31) ty24 rfl rfl rfl rfl ca34 rfl ?_
          refine op_len ty24 rfl rfl rfl ?_
          refine op_gtr rfl rfl rfl rfl ?_
          refine wpList_nil ?_
          refine hK28 _ _ ?_
          refine c_if rfl rfl (fun hb35 => ?_) (fun hb35 => ?_)
          · -- 30 < (u31.Vals.length : Int)
            refine c_seq fun KhK36 hK36 => ?_
            refine c_reg ?_
            refine op_assign (v := .int .i64 3) rfl rfl rfl ?_
            refine wpList_nil ?_
            refine hK36 _ _ ?_
            refine wp_ret ?_
            have hr37 : 3 = (Pk.rformed x0) := by rw [hi23]; simp [drop_of hx32, Pk.rformedGo, Pk.rformedGo2, Pk.rvalsIn, Pk.rroots, hb12, hb15, hi22, hb26, hx32, hb35]
            exact ret1 Try.results60 rfl ⟨congrArg (Value.int .i64) hr37, (e8.trans e21).old⟩
          · -- ¬ (30 < (u31.Vals.length : Int))
            refine wp_skip ?_
            refine hK27 _ _ ?_
            refine c_reg ?_
            refine op_move (v := .int .i64 (k : Int)) rfl rfl rfl ?_
            refine op_add rfl rfl rfl rfl (by omega) ?_
            refine op_assign (v := .int .i64 ((k : Int) + 1)) rfl rfl rfl ?_
            refine wpList_nil ?_
            repeat (with_reducible refine inBlock_normal ?_)
            with_reducible refine then_normal ?_
            exact ⟨(k + 1), (by first | omega | (dsimp only; omega)), ⟨(by first | omega | (simp only [List.length_append, List.length_cons, List.length_nil]; omega) | (rw [hi23]; simp [drop_of hx32, Pk.rformedGo, Pk.rformedGo2, Pk.rvalsIn, Pk.rroots, hb12, hb15, hi22, hb26, hx32, hb35])), (by rw [hi23]; simp [drop_of hx32, Pk.rformedGo, Pk.rformedGo2, Pk.rvalsIn, Pk.rroots, hb12, hb15, hi22, hb26, hx32, hb35]), (e21.drop (fun b hb => by simp [hb])), hx7⟩, _, rfl, (by repeat first | exact agree.refl _ _ | refine agree.upd rfl ?_ | refine agree.upds rfl ?_ | refine agree.mix rfl ?_), ⟨congrArg (Value.int .i64) (show ((k : Int) + 1) = ((k + 1 : Nat) : Int) by omega), trivial⟩⟩
        · -- ¬ ((k : Int) < (x0.Nodes.length : Int))
          refine wp_exit ?_
          refine hK18 _ _ ?_
          refine c_seq fun KhK38 hK38 => ?_
          refine c_seq fun KhK39 hK39 => ?_
          refine c_reg ?_
          refine op_assign (v := .int .i64 0) rfl rfl rfl ?_
          refine wpList_nil ?_
          refine hK39 _ _ ?_
          refine wp_block ?_
          refine c_loop (X := Nat) [2, 5, 6, 7, 34, 35, 36, 37, 38, 39, 40, 41, 42, 43, 44, 45, 46, 47, 48, 49, 50, 51, 52, 53, 54, 55, 56, 57, 58, 59, 60, 61, 62] (fun j => [(5, .int .i64 (j : Int))]) (fun j w1 => (j ≤ x0.Nodes.length) ∧ (Pk.rformed x0 = Pk.rformedGo2 x0 (x0.Nodes.drop j)) ∧ Evo (β2 :: []) w20 (β2 :: []) w1 ∧ Box w1 β2 [.slice a1_x0 x0.Nodes.length c1_x0, .slice a2_x0 x0.Roots.length c2_x0]) (fun j => x0.Nodes.length - j) (0) ⟨congrArg (Value.int .i64) (show 0 = ((0 : Nat) : Int) by omega), trivial⟩ ?_ ?_
          ·
            exact ⟨(by first | omega | simp), (by rw [hi23]; simp [drop_end (l := x0.Nodes) (k := k) (by first | omega | (rw [bytes_length]; omega)), Pk.rformedGo]), Evo.refl _ _, hx7⟩
          ·
            rintro j τ w40 ⟨hi42, hi43, e41, hx7⟩
            refine c_seq fun KhK44 hK44 => ?_
            refine c_seq fun KhK45 hK45 => ?_
            refine c_reg ?_
            refine op_move (v := .int .i64 (j : Int)) rfl rfl rfl ?_
            refine op_move (v := .int .i64 (x0.Nodes.length : Int)) rfl rfl rfl ?_
            refine op_lss rfl rfl rfl rfl ?_
            refine wpList_nil ?_
            refine hK45 _ _ ?_
            refine c_if rfl rfl (fun hb46 => ?_) (fun hb46 => ?_)
            · -- (j : Int) < (x0.Nodes.length : Int)
              refine wp_skip ?_
              refine hK44 _ _ ?_
              refine c_seq fun KhK47 hK47 => ?_
              refine wp_block ?_
              refine c_seq fun KhK48 hK48 => ?_
              refine c_reg ?_
              refine op_assign (v := .int .i64 0) rfl rfl rfl ?_
              refine wpList_nil ?_
              refine hK48 _ _ ?_
              refine wp_block ?_
              obtain ⟨nd, hx_nd⟩ := get_lt (l := x0.Nodes) (k := j) (by omega)
              refine c_loop (X := Nat) [2, 6, 7, 39, 40, 41, 42, 43, 44, 45, 46, 47, 48, 49, 50, 51, 52, 53, 54, 55, 56, 57, 58, 59, 60, 61, 62] (fun i => [(6, .int .i64 (i : Int))]) (fun i w1 => (i ≤ nd.Vals.length) ∧ (Pk.rformed x0 = if Pk.rvalsIn x0.Nodes.length (nd.Vals.drop i) = true then Pk.rformedGo2 x0 (x0.Nodes.drop (j + 1)) else 2) ∧ Evo (β2 :: []) w40 (β2 :: []) w1 ∧ Box w1 β2 [.slice a1_x0 x0.Nodes.length c1_x0, .slice a2_x0 x0.Roots.length c2_x0]) (fun i => nd.Vals.length - i) (0) ⟨congrArg (Value.int .i64) (show 0 = ((0 : Nat) : Int) by omega), trivial⟩ ?_ ?_
              ·
                exact ⟨(by first | omega | simp), (by rw [hi43]; simp [drop_of hx_nd, Pk.rformedGo2]), Evo.refl _ _, hx7⟩
              ·
                rintro i τ w49 ⟨hi51, hi52, e50, hx7⟩
                refine c_seq fun KhK53 hK53 => ?_
                refine c_seq fun KhK54 hK54 => ?_
                refine c_reg ?_
                refine op_move (v := .int .i64 (i : Int)) rfl rfl rfl ?_
                refine op_fieldB fld26_0 rfl rfl rfl ?_
                refine op_loadB (v := .slice a1_x0 x0.Nodes.length c1_x0) ty23 rfl rfl rfl rfl hx7 rfl ?_
                refine op_move (v := .int .i64 (j : Int)) rfl rfl rfl ?_
                refine op_indexN (j := j) ty23 ty49 rfl rfl rfl rfl rfl (h1_x0.mono ((((e8.trans e21).trans e41).trans e50).tr M)) (by omega) fun ad55 cs56 u57 hx58 he59 ca60 => ?_
                obtain rfl : nd = u57 := Option.some.inj (hx_nd.symm.trans hx58)
                obtain ⟨a_u57, c_u57, rfl, h_u57⟩ := he59
                have lh_u57 := h_u57.lt63
                refine op_field fld49_1 rfl rfl rfl ca60.spot ?_
                refine op_loadA (v := .slice a_u57 nd.Vals.length c_u57) ty24 rfl rfl rfl rfl ca60 rfl ?_
                refine op_len ty24 rfl rfl rfl ?_
                refine op_lss rfl rfl rfl rfl ?_
                refine wpList_nil ?_
                refine hK54 _ _ ?_
                refine c_if rfl rfl (fun hb61 => ?_) (fun hb61 => ?_)
                · -- (i : Int) < (nd.Vals.length : Int)
                  refine wp_skip ?_
                  refine hK53 _ _ ?_
                  refine c_seq fun KhK62 hK62 => ?_
                  refine wp_block ?_
                  refine c_seq fun KhK63 hK63 => ?_
                  refine c_reg ?_
                  refine op_fieldB fld26_0 rfl rfl rfl ?_
                  refine op_loadB (v := .slice a1_x0 x0.Nodes.length c1_x0) ty23 rfl rfl rfl rfl hx7 rfl ?_
                  refine op_move (v := .int .i64 (j : Int)) rfl rfl rfl ?_
                  refine op_indexN (j := j) ty23 ty49 rfl rfl rfl rfl rfl (h1_x0.mono ((((e8.trans e21).trans e41).trans e50).tr M)) (by omega) fun ad64 cs65 u66 hx67 he68 ca69 => ?_
                  obtain rfl : nd = u66 := Option.some.inj (hx_nd.symm.trans hx67)
                  obtain ⟨a_u66, c_u66, rfl, h_u66⟩ := he68
                  have lh_u66 := h_u66.lt63
                  refine op_field fld49_1 rfl rfl rfl ca69.spot ?_
                  refine op_loadA (v := .slice a_u66 nd.Vals.length c_u66) ty24 rfl rfl rfl rfl ca69 rfl ?_
                  refine op_move (v := .int .i64 (i : Int)) rfl rfl rfl ?_
                  refine op_indexN (j := i) ty24 ty51 rfl rfl rfl rfl rfl h_u66 (by omega) fun ad70 cs71 u72 hx73 he74 ca75 => ?_
                  obtain rfl := he74
                  refine op_loadAA ty51 rfl rfl rfl rfl ca75 rfl ?_
                  refine op_move (v := .int .i64 (x0.Nodes.length : Int)) rfl rfl rfl ?_
                  refine op_call (args := [.agg #[.int .i64 u72.Kind, .int .i64 u72.N], .int .i64 (x0.Nodes.length : Int)]) cal99 rfl rfl rfl (c99 ((((e8.trans e21).trans e41).trans e50).loM hM) (by omega) (by omega)) ?_
                  rintro _ w76 ⟨rfl, u77⟩
                  have e79 := u77.evo0 (m := (β2 :: []))
                  replace hx7 := hx7.mono0 u77
                  refine op_assign (v := .bool (Pk.value u72 (x0.Nodes.length : Int))) rfl rfl rfl ?_
                  refine wpList_nil ?_
                  refine hK63 _ _ ?_
                  refine c_seq fun KhK80 hK80 => ?_
                  refine c_reg ?_
                  refine op_move (v := .bool (Pk.value u72 (x0.Nodes.length : Int))) rfl rfl rfl ?_
                  refine op_notB rfl rfl rfl ?_
                  refine wpList_nil ?_
                  refine hK80 _ _ ?_
                  refine c_ifNB rfl rfl (fun hb81 => ?_) (fun hb81 => ?_)
                  · -- (Pk.value u72 (x0.Nodes.length : Int)) = false
                    refine c_seq fun KhK82 hK82 => ?_
                    refine c_reg ?_
                    refine op_assign (v := .int .i64 2) rfl rfl rfl ?_
                    refine wpList_nil ?_
                    refine hK82 _ _ ?_
                    refine wp_ret ?_
                    have hr83 : 2 = (Pk.rformed x0) := by rw [hi52]; simp [drop_of hx73, Pk.rformedGo, Pk.rformedGo2, Pk.rvalsIn, Pk.rroots, hb12, hb15, hi22, hb26, hi42, hb46, hx_nd, hi51, hb61, hx73, hb81]
                    exact ret1 Try.results60 rfl ⟨congrArg (Value.int .i64) hr83, ((((e8.trans e21).trans e41).trans e50).trans e79).old⟩
                  · -- (Pk.value u72 (x0.Nodes.length : Int)) = true
                    refine wp_skip ?_
                    refine hK62 _ _ ?_
                    refine c_reg ?_
                    refine op_move (v := .int .i64 (i : Int)) rfl rfl rfl ?_
                    refine op_add rfl rfl rfl rfl (by omega) ?_
                    refine op_assign (v := .int .i64 ((i : Int) + 1)) rfl rfl rfl ?_
                    refine wpList_nil ?_
                    repeat (with_reducible refine inBlock_normal ?_)
                    with_reducible refine then_normal ?_
                    exact ⟨(i + 1), (by first | omega | (dsimp only; omega)), ⟨(by first | omega | (simp only [List.length_append, List.length_cons, List.length_nil]; omega) | (rw [hi52]; simp [drop_of hx73, Pk.rformedGo, Pk.rformedGo2, Pk.rvalsIn, Pk.rroots, hb12, hb15, hi22, hb26, hi42, hb46, hx_nd, hi51, hb61, hx73, hb81])), (by rw [hi52]; simp [drop_of hx73, Pk.rformedGo, Pk.rformedGo2, Pk.rvalsIn, Pk.rroots, hb12, hb15, hi22, hb26, hi42, hb46, hx_nd, hi51, hb61, hx73, hb81]), ((e50.trans e79).drop (fun b hb => by simp [hb])), hx7⟩, _, rfl, (by repeat first | exact agree.refl _ _ | refine agree.upd rfl ?_ | refine agree.upds rfl ?_ | refine agree.mix rfl ?_), ⟨congrArg (Value.int .i64) (show ((i : Int) + 1) = ((i + 1 : Nat) : Int) by omega), trivial⟩⟩
                · -- ¬ ((i : Int) < (nd.Vals.length : Int))
                  refine wp_exit ?_
                  refine hK47 _ _ ?_
                  refine c_reg ?_
                  refine op_move (v := .int .i64 (j : Int)) rfl rfl rfl ?_
                  refine op_add rfl rfl rfl rfl (by omega) ?_
                  refine op_assign (v := .int .i64 ((j : Int) + 1)) rfl rfl rfl ?_
                  refine wpList_nil ?_
                  repeat (with_reducible refine inBlock_normal ?_)
                  with_reducible refine then_normal ?_
                  exact ⟨(j + 1), (by first | omega | (dsimp only; omega)), ⟨(by first | omega | (simp only [List.length_append, List.length_cons, List.length_nil]; omega) | (rw [hi52]; simp [drop_end (l := nd.Vals) (k := i) (by first | omega | (rw [bytes_length]; omega)), Pk.rformedGo, Pk.rformedGo2, Pk.rvalsIn, Pk.rroots, hb12, hb15, hi22, hb26, hi42, hb46, hx_nd, hi51, hb61])), (by rw [hi52]; simp [drop_end (l := nd.Vals) (k := i) (by first | omega | (rw [bytes_length]; omega)), Pk.rformedGo, Pk.rformedGo2, Pk.rvalsIn, Pk.rroots, hb12, hb15, hi22, hb26, hi42, hb46, hx_nd, hi51, hb61]), ((e41.trans e50).drop (fun b hb => by simp [hb])), hx7⟩, _, rfl, (by repeat first | exact agree.refl _ _ | refine agree.upd rfl ?_ | refine agree.upds rfl ?_ | refine agree.mix rfl ?_), ⟨congrArg (Value.int .i64) (show ((j : Int) + 1) = ((j + 1 : Nat) : Int) by omega), trivial⟩⟩
            · -- ¬ ((j : Int) < (x0.Nodes.length : Int))
              refine wp_exit ?_
              refine hK38 _ _ ?_
              refine c_seq fun KhK84 hK84 => ?_
              refine c_seq fun KhK85 hK85 => ?_
              refine c_reg ?_
              refine op_assign (v := .int .i64 0) rfl rfl rfl ?_
              refine wpList_nil ?_
              refine hK85 _ _ ?_
              refine wp_block ?_
              refine c_loop (X := Nat) [2, 8, 9, 63, 64, 65, 66, 67, 68, 69, 70, 71, 72, 73, 74, 75, 76, 77, 78, 79, 80, 81, 82, 83, 84, 85, 86, 87, 88, 89, 90, 91, 92, 93, 94, 95, 96] (fun m => [(8, .int .i64 (m : Int))]) (fun m w1 => (m ≤ x0.Roots.length) ∧ (Pk.rformed x0 = Pk.rroots x0.Nodes.length (x0.Roots.drop m)) ∧ Evo (β2 :: []) w40 (β2 :: []) w1 ∧ Box w1 β2 [.slice a1_x0 x0.Nodes.length c1_x0, .slice a2_x0 x0.Roots.length c2_x0]) (fun m => x0.Roots.length - m) (0) ⟨congrArg (Value.int .i64) (show 0 = ((0 : Nat) : Int) by omega), trivial⟩ ?_ ?_
              ·
                exact ⟨(by first | omega | simp), (by rw [hi43]; simp [drop_end (l := x0.Nodes) (k := j) (by first | omega | (rw [bytes_length]; omega)), Pk.rformedGo2]), Evo.refl _ _, hx7⟩
              ·
                rintro m τ w86 ⟨hi88, hi89, e87, hx7⟩
                refine c_seq fun KhK90 hK90 => ?_
                refine c_seq fun KhK91 hK91 => ?_
                refine c_reg ?_
                refine op_move (v := .int .i64 (m : Int)) rfl rfl rfl ?_
                refine op_fieldB fld26_1 rfl rfl rfl ?_
                refine op_loadB (v := .slice a2_x0 x0.Roots.length c2_x0) ty24 rfl rfl rfl rfl hx7 rfl ?_
                refine op_len ty24 rfl rfl rfl ?_
                refine op_lss rfl rfl rfl rfl ?_
                refine wpList_nil ?_
                refine hK91 _ _ ?_
                refine c_if rfl rfl (fun hb92 => ?_) (fun hb92 => ?_)
                · -- (m : Int) < (x0.Roots.length : Int)
                  refine wp_skip ?_
                  refine hK90 _ _ ?_
                  refine c_seq fun KhK93 hK93 => ?_
                  refine wp_block ?_
                  refine c_seq fun KhK94 hK94 => ?_
                  refine c_reg ?_
                  refine op_fieldB fld26_1 rfl rfl rfl ?_
                  refine op_loadB (v := .slice a2_x0 x0.Roots.length c2_x0) ty24 rfl rfl rfl rfl hx7 rfl ?_
                  refine op_move (v := .int .i64 (m : Int)) rfl rfl rfl ?_
                  refine op_indexN (j := m) ty24 ty51 rfl rfl rfl rfl rfl (h2_x0.mono ((((e8.trans e21).trans e41).trans e87).tr M)) (by omega) fun ad95 cs96 u97 hx98 he99 ca100 => ?_
                  obtain rfl := he99
                  refine op_loadAA ty51 rfl rfl rfl rfl ca100 rfl ?_
                  refine op_move (v := .int .i64 (x0.Nodes.length : Int)) rfl rfl rfl ?_
                  refine op_call (args := [.agg #[.int .i64 u97.Kind, .int .i64 u97.N], .int .i64 (x0.Nodes.length : Int)]) cal99 rfl rfl rfl (c99 ((((e8.trans e21).trans e41).trans e87).loM hM) (by omega) (by omega)) ?_
                  rintro _ w101 ⟨rfl, u102⟩
                  have e104 := u102.evo0 (m := (β2 :: []))
                  replace hx7 := hx7.mono0 u102
                  refine op_assign (v := .bool (Pk.value u97 (x0.Nodes.length : Int))) rfl rfl rfl ?_
                  refine wpList_nil ?_
                  refine hK94 _ _ ?_
                  refine c_seq fun KhK105 hK105 => ?_
                  refine c_reg ?_
                  refine op_move (v := .bool (Pk.value u97 (x0.Nodes.length : Int))) rfl rfl rfl ?_
                  refine op_notB rfl rfl rfl ?_
                  refine op_move (v := .bool (!(Pk.value u97 (x0.Nodes.length : Int)))) rfl rfl rfl ?_
                  refine op_partNB 79 rfl (fun hb106 => ?_) (fun hb106 => ?_)
                  · -- (Pk.value u97 (x0.Nodes.length : Int)) = false
                    refine op_not rfl ?_
                    refine op_not rfl ?_
                    refine op_not rfl ?_
                    refine op_not rfl ?_
                    refine op_not rfl ?_
                    refine op_not rfl ?_
                    refine op_not rfl ?_
                    refine op_not rfl ?_
                    refine op_not rfl ?_
                    refine op_not rfl ?_
                    refine op_not rfl ?_
                    refine op_not rfl ?_
                    refine op_not rfl ?_
                    refine op_not rfl ?_
                    refine op_not rfl ?_
                    refine op_not rfl ?_
                    refine op_pickT (v := .bool true) rfl rfl rfl rfl ?_
                    refine wpList_nil ?_
                    refine hK105 _ _ ?_
                    refine c_ifT rfl rfl ?_
                    refine c_seq fun KhK107 hK107 => ?_
                    refine c_reg ?_
                    refine op_assign (v := .int .i64 2) rfl rfl rfl ?_
                    refine wpList_nil ?_
                    refine hK107 _ _ ?_
                    refine wp_ret ?_
                    have hr108 : 2 = (Pk.rformed x0) := by rw [hi89]; simp [drop_of hx98, Pk.rformedGo, Pk.rformedGo2, Pk.rvalsIn, Pk.rroots, hb12, hb15, hi22, hb26, hi42, hb46, hi88, hb92, hx98, hb106]
                    exact ret1 Try.results60 rfl ⟨congrArg (Value.int .i64) hr108, ((((e8.trans e21).trans e41).trans e87).trans e104).old⟩
                  · -- (Pk.value u97 (x0.Nodes.length : Int)) = true
                    refine op_fieldB fld26_1 rfl rfl rfl ?_
                    refine op_loadB (v := .slice a2_x0 x0.Roots.length c2_x0) ty24 rfl rfl rfl rfl hx7 rfl ?_
                    refine op_move (v := .int .i64 (m : Int)) rfl rfl rfl ?_
                    refine op_indexN (j := m) ty24 ty51 rfl rfl rfl rfl rfl (h2_x0.mono (((((e8.trans e21).trans e41).trans e87).trans e104).tr M)) (by omega) fun ad109 cs110 u111 hx112 he113 ca114 => ?_
                    obtain rfl : u97 = u111 := Option.some.inj (hx98.symm.trans hx112)
                    obtain rfl := he113
                    refine op_field fld51_0 rfl rfl rfl ca114.spot ?_
                    refine op_loadA (v := .int .i64 u97.Kind) ty3 rfl rfl rfl rfl ca114 rfl ?_
                    refine op_neq rfl rfl rfl rfl ?_
                    refine op_move (v := .bool (decide (¬ (u97.Kind = 3)))) rfl rfl rfl ?_
                    refine op_partN 87 rfl (fun hb115 => ?_) (fun hb115 => ?_)
                    · -- ¬ (u97.Kind = 3)
                      refine op_fieldB fld26_1 rfl rfl rfl ?_
                      refine op_loadB (v := .slice a2_x0 x0.Roots.length c2_x0) ty24 rfl rfl rfl rfl hx7 rfl ?_
                      refine op_move (v := .int .i64 (m : Int)) rfl rfl rfl ?_
                      refine op_indexN (j := m) ty24 ty51 rfl rfl rfl rfl rfl (h2_x0.mono (((((e8.trans e21).trans e41).trans e87).trans e104).tr M)) (by omega) fun ad116 cs117 u118 hx119 he120 ca121 => ?_
                      obtain rfl : u97 = u118 := Option.some.inj (hx98.symm.trans hx119)
                      obtain rfl := he120
                      refine op_field fld51_0 rfl rfl rfl ca121.spot ?_
                      refine op_loadA (v := .int .i64 u97.Kind) ty3 rfl rfl rfl rfl ca121 rfl ?_
                      refine op_neq rfl rfl rfl rfl ?_
                      refine op_pickT (v := .bool (decide (¬ (u97.Kind = 4)))) rfl rfl rfl rfl ?_
                      refine op_pickF (v := .bool (decide (¬ (u97.Kind = 4)))) rfl rfl rfl rfl ?_
                      refine wpList_nil ?_
                      refine hK105 _ _ ?_
                      refine c_ifN rfl rfl (fun hb122 => ?_) (fun hb122 => ?_)
                      · -- ¬ (u97.Kind = 4)
                        refine c_seq fun KhK123 hK123 => ?_
                        refine c_reg ?_
                        refine op_assign (v := .int .i64 2) rfl rfl rfl ?_
                        refine wpList_nil ?_
                        refine hK123 _ _ ?_
                        refine wp_ret ?_
                        have hr124 : 2 = (Pk.rformed x0) := by rw [hi89]; simp [drop_of hx98, Pk.rformedGo, Pk.rformedGo2, Pk.rvalsIn, Pk.rroots, hb12, hb15, hi22, hb26, hi42, hb46, hi88, hb92, hx98, hb106, hb115, hb122]
                        exact ret1 Try.results60 rfl ⟨congrArg (Value.int .i64) hr124, ((((e8.trans e21).trans e41).trans e87).trans e104).old⟩
                      · -- u97.Kind = 4
                        refine wp_skip ?_
                        refine hK93 _ _ ?_
                        refine c_reg ?_
                        refine op_move (v := .int .i64 (m : Int)) rfl rfl rfl ?_
                        refine op_add rfl rfl rfl rfl (by omega) ?_
                        refine op_assign (v := .int .i64 ((m : Int) + 1)) rfl rfl rfl ?_
                        refine wpList_nil ?_
                        repeat (with_reducible refine inBlock_normal ?_)
                        with_reducible refine then_normal ?_
                        exact ⟨(m + 1), (by first | omega | (dsimp only; omega)), ⟨(by first | omega | (simp only [List.length_append, List.length_cons, List.length_nil]; omega) | (rw [hi89]; simp [drop_of hx98, Pk.rformedGo, Pk.rformedGo2, Pk.rvalsIn, Pk.rroots, hb12, hb15, hi22, hb26, hi42, hb46, hi88, hb92, hx98, hb106, hb115, hb122])), (by rw [hi89]; simp [drop_of hx98, Pk.rformedGo, Pk.rformedGo2, Pk.rvalsIn, Pk.rroots, hb12, hb15, hi22, hb26, hi42, hb46, hi88, hb92, hx98, hb106, hb115, hb122]), ((e87.trans e104).drop (fun b hb => by simp [hb])), hx7⟩, _, rfl, (by repeat first | exact agree.refl _ _ | refine agree.upd rfl ?_ | refine agree.upds rfl ?_ | refine agree.mix rfl ?_), ⟨congrArg (Value.int .i64) (show ((m : Int) + 1) = ((m + 1 : Nat) : Int) by omega), trivial⟩⟩
                    · -- u97.Kind = 3
                      refine op_not rfl ?_
                      refine op_not rfl ?_
                      refine op_not rfl ?_
                      refine op_not rfl ?_
                      refine op_not rfl ?_
                      refine op_not rfl ?_
                      refine op_not rfl ?_
                      refine op_pickF (v := .bool false) rfl rfl rfl rfl ?_
                      refine op_pickF (v := .bool false) rfl rfl rfl rfl ?_
                      refine wpList_nil ?_
                      refine hK105 _ _ ?_
                      refine c_ifF rfl rfl ?_
                      refine wp_skip ?_
                      refine hK93 _ _ ?_
                      refine c_reg ?_
                      refine op_move (v := .int .i64 (m : Int)) rfl rfl rfl ?_
                      refine op_add rfl rfl rfl rfl (by omega) ?_
                      refine op_assign (v := .int .i64 ((m : Int) + 1)) rfl rfl rfl ?_
                      refine wpList_nil ?_
                      repeat (with_reducible refine inBlock_normal ?_)
                      with_reducible refine then_normal ?_
                      exact ⟨(m + 1), (by first | omega | (dsimp only; omega)), ⟨(by first | omega | (simp only [List.length_append, List.length_cons, List.length_nil]; omega) | (rw [hi89]; simp [drop_of hx98, Pk.rformedGo, Pk.rformedGo2, Pk.rvalsIn, Pk.rroots, hb12, hb15, hi22, hb26, hi42, hb46, hi88, hb92, hx98, hb106, hb115])), (by rw [hi89]; simp [drop_of hx98, Pk.rformedGo, Pk.rformedGo2, Pk.rvalsIn, Pk.rroots, hb12, hb15, hi22, hb26, hi42, hb46, hi88, hb92, hx98, hb106, hb115]), ((e87.trans e104).drop (fun b hb => by simp [hb])), hx7⟩, _, rfl, (by repeat first | exact agree.refl _ _ | refine agree.upd rfl ?_ | refine agree.upds rfl ?_ | refine agree.mix rfl ?_), ⟨congrArg (Value.int .i64) (show ((m : Int) + 1) = ((m + 1 : Nat) : Int) by omega), trivial⟩⟩
                · -- ¬ ((m : Int) < (x0.Roots.length : Int))
                  refine wp_exit ?_
                  refine hK84 _ _ ?_
                  refine c_seq fun KhK125 hK125 => ?_
                  refine c_reg ?_
                  refine op_assign (v := .int .i64 0) rfl rfl rfl ?_
                  refine wpList_nil ?_
                  refine hK125 _ _ ?_
                  refine wp_ret ?_
                  have hr126 : 0 = (Pk.rformed x0) := by rw [hi89]; simp [drop_end (l := x0.Roots) (k := m) (by first | omega | (rw [bytes_length]; omega)), Pk.rformedGo, Pk.rformedGo2, Pk.rvalsIn, Pk.rroots, hb12, hb15, hi22, hb26, hi42, hb46, hi88, hb92]
                  exact ret1 Try.results60 rfl ⟨congrArg (Value.int .i64) hr126, (((e8.trans e21).trans e41).trans e87).old⟩
set_option maxHeartbeats 1000000 in
theorem c61 {M : List Nat} {w : World} {x0 : Pk.Col} {x1 : Pk.Val} {x2 : Pk.Graph} {a1_x2 : Option Addr} {c1_x2 : Nat} {a2_x2 : Option Addr} {c2_x2 : Nat} (hM : Lo M w) (h1_x2 : SL M w a1_x2 c1_x2 x2.Nodes) (h2_x2 : SL M w a2_x2 c2_x2 x2.Roots) (p0 : x1.Kind = 4 → 0 ≤ x1.N ∧ x1.N < x2.Nodes.length) : Calls Try.prog 61 #[.agg #[.string x0.Name, .int .i64 x0.Kind, .string x0.Class], .agg #[.int .i64 x1.Kind, .int .i64 x1.N], .agg #[.slice a1_x2 x2.Nodes.length c1_x2, .slice a2_x2 x2.Roots.length c2_x2]] w (Ret fun v w' => v = .bool (Pk.rfits x0 x1 x2) ∧ Upd [] w w') := by
  have lh1_x2 := h1_x2.lt63
  have lh2_x2 := h2_x2.lt63
  refine enter (l := [.agg #[.string x0.Name, .int .i64 x0.Kind, .string x0.Class], .agg #[.int .i64 x1.Kind, .int .i64 x1.N], .agg #[.slice a1_x2 x2.Nodes.length c1_x2, .slice a2_x2 x2.Roots.length c2_x2]]) Try.func61 rfl Try.ntmps61 rfl ?_
  refine c_seq fun KhK1 hK1 => ?_
  refine c_reg ?_
  refine op_box (v := .agg #[.string x0.Name, .int .i64 x0.Kind, .string x0.Class]) (zs := [.string x0.Name, .int .i64 x0.Kind, .string x0.Class]) rfl rfl rfl rfl fun β2 w3 hβ4 u5 hz6 hx7 => ?_
  have e8 := u5.evoN (m := []) hβ4 hz6
  refine op_box (v := .agg #[.int .i64 x1.Kind, .int .i64 x1.N]) (zs := [.int .i64 x1.Kind, .int .i64 x1.N]) rfl rfl rfl rfl fun β9 w10 hβ11 u12 hz13 hx14 => ?_
  have e15 := u12.evoN (m := (β2 :: [])) hβ11 hz13
  have ne16 : β2 ≠ β9 := by have := hx7.lt; omega
  replace hx7 := hx7.mono0 u12
  refine op_box (v := .agg #[.slice a1_x2 x2.Nodes.length c1_x2, .slice a2_x2 x2.Roots.length c2_x2]) (zs := [.slice a1_x2 x2.Nodes.length c1_x2, .slice a2_x2 x2.Roots.length c2_x2]) rfl rfl rfl rfl fun β17 w18 hβ19 u20 hz21 hx22 => ?_
  have e23 := u20.evoN (m := (β9 :: (β2 :: []))) hβ19 hz21
  have ne24 : β2 ≠ β17 := by have := hx7.lt; omega
  replace hx7 := hx7.mono0 u20
  have ne25 : β9 ≠ β17 := by have := hx14.lt; omega
  replace hx14 := hx14.mono0 u20
  refine op_assign (v := .bool false) rfl rfl rfl ?_
  refine wpList_nil ?_
  refine hK1 _ _ ?_
  refine c_seq fun KhK26 hK26 => ?_
  refine c_seq fun KhK27 hK27 => ?_
  refine c_reg ?_
  refine op_fieldB fld93_1 rfl rfl rfl ?_
  refine op_loadB (v := .int .i64 x0.Kind) ty3 rfl rfl rfl rfl hx7 rfl ?_
  refine wpList_nil ?_
  refine hK27 _ _ ?_
  refine wp_block ?_
  refine c_seq fun KhK28 hK28 => ?_
  refine c_reg ?_
  refine op_eq rfl rfl rfl rfl ?_
  refine op_assign (v := .bool (decide (x0.Kind = 1))) rfl rfl rfl ?_
  refine wpList_nil ?_
  refine hK28 _ _ ?_
  refine c_if rfl rfl (fun hb29 => ?_) (fun hb29 => ?_)
  · -- x0.Kind = 1
    refine c_seq fun KhK30 hK30 => ?_
    refine c_reg ?_
    refine op_fieldB fld51_0 rfl rfl rfl ?_
    refine op_loadB (v := .int .i64 x1.Kind) ty3 rfl rfl rfl rfl hx14 rfl ?_
    refine op_eq rfl rfl rfl rfl ?_
    refine op_assign (v := .bool (decide (x1.Kind = 1))) rfl rfl rfl ?_
    refine wpList_nil ?_
    refine hK30 _ _ ?_
    refine wp_ret ?_
    have hr31 : (decide (x1.Kind = 1)) = (Pk.rfits x0 x1 x2) := by simp [ Pk.rfits, Pk.strANY, Pk.rfits, hb29]
    exact ret1 Try.results61 rfl ⟨congrArg Value.bool hr31, ((e8.trans e15).trans e23).old⟩
  · -- ¬ (x0.Kind = 1)
    refine c_seq fun KhK32 hK32 => ?_
    refine c_reg ?_
    refine op_eq rfl rfl rfl rfl ?_
    refine op_assign (v := .bool (decide (x0.Kind = 2))) rfl rfl rfl ?_
    refine wpList_nil ?_
    refine hK32 _ _ ?_
    refine c_if rfl rfl (fun hb33 => ?_) (fun hb33 => ?_)
    · -- x0.Kind = 2
      refine c_seq fun KhK34 hK34 => ?_
      refine c_reg ?_
      refine op_fieldB fld51_0 rfl rfl rfl ?_
      refine op_loadB (v := .int .i64 x1.Kind) ty3 rfl rfl rfl rfl hx14 rfl ?_
      refine op_eq rfl rfl rfl rfl ?_
      refine op_assign (v := .bool (decide (x1.Kind = 2))) rfl rfl rfl ?_
      refine wpList_nil ?_
      refine hK34 _ _ ?_
      refine wp_ret ?_
      have hr35 : (decide (x1.Kind = 2)) = (Pk.rfits x0 x1 x2) := by simp [ Pk.rfits, Pk.strANY, Pk.rfits, hb29, hb33]
      exact ret1 Try.results61 rfl ⟨congrArg Value.bool hr35, ((e8.trans e15).trans e23).old⟩
    · -- ¬ (x0.Kind = 2)
      refine wp_skip ?_
      refine hK26 _ _ ?_
      refine c_seq fun KhK36 hK36 => ?_
      refine c_seq fun KhK37 hK37 => ?_
      refine c_reg ?_
      refine op_fieldB fld51_0 rfl rfl rfl ?_
      refine op_loadB (v := .int .i64 x1.Kind) ty3 rfl rfl rfl rfl hx14 rfl ?_
      refine op_eq rfl rfl rfl rfl ?_
      refine wpList_nil ?_
      refine hK37 _ _ ?_
      refine c_if rfl rfl (fun hb38 => ?_) (fun hb38 => ?_)
      · -- x1.Kind = 3
        refine c_seq fun KhK39 hK39 => ?_
        refine c_reg ?_
        refine op_assign (v := .bool true) rfl rfl rfl ?_
        refine wpList_nil ?_
        refine hK39 _ _ ?_
        refine wp_ret ?_
        have hr40 : true = (Pk.rfits x0 x1 x2) := by simp [ Pk.rfits, Pk.strANY, Pk.rfits, hb29, hb33, hb38]
        exact ret1 Try.results61 rfl ⟨congrArg Value.bool hr40, ((e8.trans e15).trans e23).old⟩
      · -- ¬ (x1.Kind = 3)
        refine wp_skip ?_
        refine hK36 _ _ ?_
        refine c_seq fun KhK41 hK41 => ?_
        refine c_quiet mixed (by kernel_rfl) ?_
        refine q_val (v := .pointer (some ⟨β9, 0, none⟩)) rfl rfl rfl (fun wq42 uq43 => op_fieldB fld51_0 rfl rfl rfl q1) ?_
        refine q_val (v := .int .i64 x1.Kind) rfl rfl rfl (fun wq44 uq45 => op_loadB (v := .int .i64 x1.Kind) ty3 rfl rfl rfl rfl (hx14.mono0 uq45) rfl q1) ?_
        refine q_val (v := .bool (decide (x1.Kind = 4))) rfl rfl rfl (fun wq46 uq47 => op_eq rfl rfl rfl rfl q1) ?_
        refine q_val (v := .bool (decide (x1.Kind = 4))) rfl rfl rfl (fun wq48 uq49 => op_move (v := .bool (decide (x1.Kind = 4))) rfl rfl rfl q1) ?_
        refine q_part 25 rfl (fun hb50 => ?_) (fun hb50 => ?_)
        · -- x1.Kind = 4
          refine q_val (v := .pointer (some ⟨β2, 2, none⟩)) rfl rfl rfl (fun wq51 uq52 => op_fieldB fld93_2 rfl rfl rfl q1) ?_
          refine q_val (v := .string x0.Class) rfl rfl rfl (fun wq53 uq54 => op_loadB (v := .string x0.Class) ty9 rfl rfl rfl rfl (hx7.mono0 uq54) rfl q1) ?_
          refine q_val (v := .bool (decide (x0.Class = (⟨#[65, 78, 89]⟩ : ByteArray)))) rfl rfl rfl (fun wq55 uq56 => op_eqS rfl rfl rfl rfl q1) ?_
          refine q_val (v := .bool (decide (x0.Class = (⟨#[65, 78, 89]⟩ : ByteArray)))) rfl rfl rfl (fun wq57 uq58 => op_move (v := .bool (decide (x0.Class = (⟨#[65, 78, 89]⟩ : ByteArray)))) rfl rfl rfl q1) ?_
          refine q_part 29 rfl (fun hb59 => ?_) (fun hb59 => ?_)
          · -- x0.Class = (⟨#[65, 78, 89]⟩ : ByteArray)
            refine q_not rfl ?_
            refine q_not rfl ?_
            refine q_not rfl ?_
            refine q_not rfl ?_
            refine q_not rfl ?_
            refine q_not rfl ?_
            refine q_not rfl ?_
            refine q_not rfl ?_
            refine q_not rfl ?_
            refine q_not rfl ?_
            refine q_not rfl ?_
            refine q_val (v := .bool true) rfl rfl rfl (fun wq60 uq61 => op_pickT (v := .bool true) rfl rfl rfl rfl q1) ?_
            refine q_val (v := .bool true) rfl rfl rfl (fun wq62 uq63 => op_pickT (v := .bool true) rfl rfl rfl rfl q1) ?_
            refine q_val (v := .bool true) rfl rfl rfl (fun wq64 uq65 => op_assign (v := .bool true) rfl rfl rfl q1) ?_
            refine wpQuiet_nil fun w66 u67 => ?_
            have e68 := u67.evo0 (m := (β17 :: (β9 :: (β2 :: []))))
            replace hx7 := hx7.mono0 u67
            replace hx14 := hx14.mono0 u67
            replace hx22 := hx22.mono0 u67
            refine hK41 _ _ ?_
            refine wp_ret ?_
            have hr69 : true = (Pk.rfits x0 x1 x2) := by simp [ Pk.rfits, Pk.strANY, Pk.rfits, hb29, hb33, hb38, hb50, hb59]
            exact ret1 Try.results61 rfl ⟨congrArg Value.bool hr69, (((e8.trans e15).trans e23).trans e68).old⟩
          · -- ¬ (x0.Class = (⟨#[65, 78, 89]⟩ : ByteArray))
            refine q_val (v := .pointer (some ⟨β17, 0, none⟩)) rfl rfl rfl (fun wq70 uq71 => op_fieldB fld26_0 rfl rfl rfl q1) ?_
            refine q_val (v := .slice a1_x2 x2.Nodes.length c1_x2) rfl rfl rfl (fun wq72 uq73 => op_loadB (v := .slice a1_x2 x2.Nodes.length c1_x2) ty23 rfl rfl rfl rfl (hx22.mono0 uq73) rfl q1) ?_
            refine q_val (v := .pointer (some ⟨β9, 1, none⟩)) rfl rfl rfl (fun wq74 uq75 => op_fieldB fld51_1 rfl rfl rfl q1) ?_
            refine q_val (v := .int .i64 x1.N) rfl rfl rfl (fun wq76 uq77 => op_loadB (v := .int .i64 x1.N) ty3 rfl rfl rfl rfl (hx14.mono0 uq77) rfl q1) ?_
            refine q_val (v := .int .i64 x1.N) rfl rfl rfl (fun wq78 uq79 => op_maxR rfl rfl rfl rfl (by omega) q1) ?_
            obtain ⟨ad80, cs81, u82, hx83, he84, ca85, hr86⟩ := (h1_x2.mono (((e8.trans e15).trans e23).tr M)).idx (i := x1.N) ty23 ty49 rfl (by omega) (by omega)
            obtain ⟨a_u82, c_u82, rfl, h_u82⟩ := he84
            have lh_u82 := h_u82.lt63
            refine q_val (v := .pointer (some ad80)) rfl rfl rfl (fun wq87 uq88 => op_indexR hr86 rfl rfl rfl rfl q1) ?_
            refine q_val (v := .pointer (some ⟨ad80.block, ad80.off + 0, none⟩)) rfl rfl rfl (fun wq89 uq90 => op_field fld49_0 rfl rfl rfl ca85.spot q1) ?_
            refine q_val (v := .string u82.Class) rfl rfl rfl (fun wq91 uq92 => op_loadA (v := .string u82.Class) ty9 rfl rfl rfl rfl (ca85.mono ((uq92.evo0 (m := (β17 :: (β9 :: (β2 :: []))))).tr M)) rfl q1) ?_
            refine q_val (v := .pointer (some ⟨β2, 2, none⟩)) rfl rfl rfl (fun wq93 uq94 => op_fieldB fld93_2 rfl rfl rfl q1) ?_
            refine q_val (v := .string x0.Class) rfl rfl rfl (fun wq95 uq96 => op_loadB (v := .string x0.Class) ty9 rfl rfl rfl rfl (hx7.mono0 uq96) rfl q1) ?_
            refine q_val (v := .bool (decide (u82.Class = x0.Class))) rfl rfl rfl (fun wq97 uq98 => op_eqS rfl rfl rfl rfl q1) ?_
            refine q_val (v := .bool (decide (u82.Class = x0.Class))) rfl rfl rfl (fun wq99 uq100 => op_pickF (v := .bool (decide (u82.Class = x0.Class))) rfl rfl rfl rfl q1) ?_
            refine q_val (v := .bool (decide (u82.Class = x0.Class))) rfl rfl rfl (fun wq101 uq102 => op_pickT (v := .bool (decide (u82.Class = x0.Class))) rfl rfl rfl rfl q1) ?_
            refine q_val (v := .bool (decide (u82.Class = x0.Class))) rfl rfl rfl (fun wq103 uq104 => op_assign (v := .bool (decide (u82.Class = x0.Class))) rfl rfl rfl q1) ?_
            refine wpQuiet_nil fun w105 u106 => ?_
            have e107 := u106.evo0 (m := (β17 :: (β9 :: (β2 :: []))))
            replace hx7 := hx7.mono0 u106
            replace hx14 := hx14.mono0 u106
            replace hx22 := hx22.mono0 u106
            refine hK41 _ _ ?_
            refine wp_ret ?_
            have hr108 : (decide (u82.Class = x0.Class)) = (Pk.rfits x0 x1 x2) := by simp [drop_of hx83, Pk.rfits, Pk.strANY, Pk.rfits, hb29, hb33, hb38, hb50, hb59, hx83]
            exact ret1 Try.results61 rfl ⟨congrArg Value.bool hr108, (((e8.trans e15).trans e23).trans e107).old⟩
        · -- ¬ (x1.Kind = 4)
          refine q_not rfl ?_
          refine q_not rfl ?_
          refine q_not rfl ?_
          refine q_not rfl ?_
          refine q_not rfl ?_
          refine q_not rfl ?_
          refine q_not rfl ?_
          refine q_not rfl ?_
          refine q_not rfl ?_
          refine q_not rfl ?_
          refine q_not rfl ?_
          refine q_not rfl ?_
          refine q_not rfl ?_
          refine q_not rfl ?_
          refine q_not rfl ?_
          refine q_not rfl ?_
          refine q_val (v := .bool false) rfl rfl rfl (fun wq109 uq110 => op_pickF (v := .bool false) rfl rfl rfl rfl q1) ?_
          refine q_val (v := .bool false) rfl rfl rfl (fun wq111 uq112 => op_assign (v := .bool false) rfl rfl rfl q1) ?_
          refine wpQuiet_nil fun w113 u114 => ?_
          have e115 := u114.evo0 (m := (β17 :: (β9 :: (β2 :: []))))
          replace hx7 := hx7.mono0 u114
          replace hx14 := hx14.mono0 u114
          replace hx22 := hx22.mono0 u114
          refine hK41 _ _ ?_
          refine wp_ret ?_
          have hr116 : false = (Pk.rfits x0 x1 x2) := by simp [ Pk.rfits, Pk.strANY, Pk.rfits, hb29, hb33, hb38, hb50]
          exact ret1 Try.results61 rfl ⟨congrArg Value.bool hr116, (((e8.trans e15).trans e23).trans e115).old⟩
set_option maxHeartbeats 1000000 in
theorem c19 {M : List Nat} {w : World} {x0 : List Pk.Form} {a_x0 : Option Addr} {c_x0 : Nat} {x1 : Pk.Graph} {a1_x1 : Option Addr} {c1_x1 : Nat} {a2_x1 : Option Addr} {c2_x1 : Nat} (hM : Lo M w) (h_x0 : SL M w a_x0 c_x0 x0) (h1_x1 : SL M w a1_x1 c1_x1 x1.Nodes) (h2_x1 : SL M w a2_x1 c2_x1 x1.Roots) (p0 : Pk.Short x0) : Calls Try.prog 19 #[.slice a_x0 x0.length c_x0, .agg #[.slice a1_x1 x1.Nodes.length c1_x1, .slice a2_x1 x1.Roots.length c2_x1]] w (Ret fun v w' => v = .int .i64 (Pk.rcheck x0 x1) ∧ Upd [] w w') := by
  have lh_x0 := h_x0.lt63
  have lh1_x1 := h1_x1.lt63
  have lh2_x1 := h2_x1.lt63
  refine enter (l := [.slice a_x0 x0.length c_x0, .agg #[.slice a1_x1 x1.Nodes.length c1_x1, .slice a2_x1 x1.Roots.length c2_x1]]) Try.func19 rfl Try.ntmps19 rfl ?_
  refine c_seq fun KhK1 hK1 => ?_
  refine c_reg ?_
  refine op_box (v := .agg #[.slice a1_x1 x1.Nodes.length c1_x1, .slice a2_x1 x1.Roots.length c2_x1]) (zs := [.slice a1_x1 x1.Nodes.length c1_x1, .slice a2_x1 x1.Roots.length c2_x1]) rfl rfl rfl rfl fun β2 w3 hβ4 u5 hz6 hx7 => ?_
  have e8 := u5.evoN (m := []) hβ4 hz6
  refine op_assign (v := .int .i64 0) rfl rfl rfl ?_
  refine wpList_nil ?_
  refine hK1 _ _ ?_
  refine c_seq fun KhK9 hK9 => ?_
  refine c_reg ?_
  refine op_move (v := .slice a_x0 x0.length c_x0) rfl rfl rfl ?_
  refine op_call (args := [.slice a_x0 x0.length c_x0]) cal17 rfl rfl rfl (c17 (e8.loM hM) (h_x0.mono (e8.tr M)) (by first | assumption | omega | exact fun hk => Pk.value_ref ((Pk.rformed_zero (by assumption)).vals _ (by assumption) _ (by assumption)) hk)) ?_
  rintro _ w10 ⟨rfl, u11⟩
  have e13 := u11.evo0 (m := (β2 :: []))
  replace hx7 := hx7.mono0 u11
  refine op_assign (v := .int .i64 (Pk.rcheckForms x0)) rfl rfl rfl ?_
  refine wpList_nil ?_
  refine hK9 _ _ ?_
  refine c_seq fun KhK14 hK14 => ?_
  refine c_seq fun KhK15 hK15 => ?_
  refine c_reg ?_
  refine op_move (v := .int .i64 (Pk.rcheckForms x0)) rfl rfl rfl ?_
  refine op_neq rfl rfl rfl rfl ?_
  refine wpList_nil ?_
  refine hK15 _ _ ?_
  refine c_ifN rfl rfl (fun hb16 => ?_) (fun hb16 => ?_)
  · -- ¬ ((Pk.rcheckForms x0) = 0)
    refine c_seq fun KhK17 hK17 => ?_
    refine c_reg ?_
    refine op_move (v := .int .i64 (Pk.rcheckForms x0)) rfl rfl rfl ?_
    refine op_assign (v := .int .i64 (Pk.rcheckForms x0)) rfl rfl rfl ?_
    refine wpList_nil ?_
    refine hK17 _ _ ?_
    refine wp_ret ?_
    have hr18 : (Pk.rcheckForms x0) = (Pk.rcheck x0 x1) := by simp [ Pk.rckGo, Pk.rckGo2, Pk.rfitsIn, Pk.rcheck, hb16]
    exact ret1 Try.results19 rfl ⟨congrArg (Value.int .i64) hr18, (e8.trans e13).old⟩
  · -- (Pk.rcheckForms x0) = 0
    refine wp_skip ?_
    refine hK14 _ _ ?_
    refine c_seq fun KhK19 hK19 => ?_
    refine c_reg ?_
    refine op_loadBA (ds := [.slice a1_x1 x1.Nodes.length c1_x1, .slice a2_x1 x1.Roots.length c2_x1]) ty26 rfl rfl rfl rfl hx7 rfl rfl ?_
    refine op_call (args := [.agg #[.slice a1_x1 x1.Nodes.length c1_x1, .slice a2_x1 x1.Roots.length c2_x1]]) cal60 rfl rfl rfl (c60 ((e8.trans e13).loM hM) (h1_x1.mono ((e8.trans e13).tr M)) (h2_x1.mono ((e8.trans e13).tr M))) ?_
    rintro _ w20 ⟨rfl, u21⟩
    have e23 := u21.evo0 (m := (β2 :: []))
    replace hx7 := hx7.mono0 u21
    refine op_assign (v := .int .i64 (Pk.rformed x1)) rfl rfl rfl ?_
    refine wpList_nil ?_
    refine hK19 _ _ ?_
    refine c_seq fun KhK24 hK24 => ?_
    refine c_seq fun KhK25 hK25 => ?_
    refine c_reg ?_
    refine op_move (v := .int .i64 (Pk.rformed x1)) rfl rfl rfl ?_
    refine op_neq rfl rfl rfl rfl ?_
    refine wpList_nil ?_
    refine hK25 _ _ ?_
    refine c_ifN rfl rfl (fun hb26 => ?_) (fun hb26 => ?_)
    · -- ¬ ((Pk.rformed x1) = 0)
      refine c_seq fun KhK27 hK27 => ?_
      refine c_reg ?_
      refine op_move (v := .int .i64 (Pk.rformed x1)) rfl rfl rfl ?_
      refine op_assign (v := .int .i64 (Pk.rformed x1)) rfl rfl rfl ?_
      refine wpList_nil ?_
      refine hK27 _ _ ?_
      refine wp_ret ?_
      have hr28 : (Pk.rformed x1) = (Pk.rcheck x0 x1) := by simp [ Pk.rckGo, Pk.rckGo2, Pk.rfitsIn, Pk.rcheck, hb16, hb26]
      exact ret1 Try.results19 rfl ⟨congrArg (Value.int .i64) hr28, ((e8.trans e13).trans e23).old⟩
    · -- (Pk.rformed x1) = 0
      refine wp_skip ?_
      refine hK24 _ _ ?_
      refine c_seq fun KhK29 hK29 => ?_
      refine c_seq fun KhK30 hK30 => ?_
      refine c_reg ?_
      refine op_assign (v := .int .i64 0) rfl rfl rfl ?_
      refine wpList_nil ?_
      refine hK30 _ _ ?_
      refine wp_block ?_
      refine c_loop (X := Nat) [4, 6, 21, 22, 23, 24, 25, 26, 27, 28, 29, 30, 31, 32, 33, 34, 35, 36] (fun k => [(6, .int .i64 (k : Int))]) (fun k w1 => (k ≤ x1.Nodes.length) ∧ (∀ n ∈ x1.Nodes.take k, 0 ≤ Pk.rform x0 n.Class) ∧ (Pk.rcheck x0 x1 = Pk.rckGo x0 x1 (x1.Nodes.drop k)) ∧ Evo (β2 :: []) w20 (β2 :: []) w1 ∧ Box w1 β2 [.slice a1_x1 x1.Nodes.length c1_x1, .slice a2_x1 x1.Roots.length c2_x1]) (fun k => x1.Nodes.length - k) (0) ⟨congrArg (Value.int .i64) (show 0 = ((0 : Nat) : Int) by omega), trivial⟩ ?_ ?_
      ·
        exact ⟨(by first | omega | simp), (by first | omega | simp), (by simp [Pk.rcheck, hb16, hb26]), Evo.refl _ _, hx7⟩
      ·
        rintro k τ w31 ⟨hi33, hi34, hi35, e32, hx7⟩
        refine c_seq fun KhK36 hK36 => ?_
        refine c_seq fun KhK37 hK37 => ?_
        refine c_reg ?_
        refine op_move (v := .int .i64 (k : Int)) rfl rfl rfl ?_
        refine op_fieldB fld26_0 rfl rfl rfl ?_
        refine op_loadB (v := .slice a1_x1 x1.Nodes.length c1_x1) ty23 rfl rfl rfl rfl hx7 rfl ?_
        refine op_len ty23 rfl rfl rfl ?_
        refine op_lss rfl rfl rfl rfl ?_
        refine wpList_nil ?_
        refine hK37 _ _ ?_
        refine c_if rfl rfl (fun hb38 => ?_) (fun hb38 => ?_)
        · -- (k : Int) < (x1.Nodes.length : Int)
          refine wp_skip ?_
          refine hK36 _ _ ?_
          refine c_seq fun KhK39 hK39 => ?_
          refine wp_block ?_
          refine c_seq fun KhK40 hK40 => ?_
          refine c_reg ?_
          refine op_move (v := .slice a_x0 x0.length c_x0) rfl rfl rfl ?_
          refine op_fieldB fld26_0 rfl rfl rfl ?_
          refine op_loadB (v := .slice a1_x1 x1.Nodes.length c1_x1) ty23 rfl rfl rfl rfl hx7 rfl ?_
          refine op_move (v := .int .i64 (k : Int)) rfl rfl rfl ?_
          refine op_indexN (j := k) ty23 ty49 rfl rfl rfl rfl rfl (h1_x1.mono ((((e8.trans e13).trans e23).trans e32).tr M)) (by omega) fun ad41 cs42 u43 hx44 he45 ca46 => ?_
          obtain ⟨a_u43, c_u43, rfl, h_u43⟩ := he45
          have lh_u43 := h_u43.lt63
          have mmu43 := List.mem_of_getElem? hx44
          have ru43 := Pk.rform_lt x0 u43.Class
          try (have := (by assumption : ∀ n ∈ x1.Nodes, 0 ≤ Pk.rform x0 n.Class) u43 mmu43)
          refine op_field fld49_0 rfl rfl rfl ca46.spot ?_
          refine op_loadA (v := .string u43.Class) ty9 rfl rfl rfl rfl ca46 rfl ?_
          refine op_call (args := [.slice a_x0 x0.length c_x0, .string u43.Class]) cal55 rfl rfl rfl (c55 ((((e8.trans e13).trans e23).trans e32).loM hM) (h_x0.mono ((((e8.trans e13).trans e23).trans e32).tr M))) ?_
          rintro _ w47 ⟨rfl, u48⟩
          have e50 := u48.evo0 (m := (β2 :: []))
          replace hx7 := hx7.mono0 u48
          refine op_lss rfl rfl rfl rfl ?_
          refine wpList_nil ?_
          refine hK40 _ _ ?_
          refine c_if rfl rfl (fun hb51 => ?_) (fun hb51 => ?_)
          · -- (Pk.rform x0 u43.Class) < 0
            refine c_seq fun KhK52 hK52 => ?_
            refine c_reg ?_
            refine op_assign (v := .int .i64 4) rfl rfl rfl ?_
            refine wpList_nil ?_
            refine hK52 _ _ ?_
            refine wp_ret ?_
            have hr53 : 4 = (Pk.rcheck x0 x1) := by rw [hi35]; simp [drop_of hx44, Pk.rckGo, Pk.rckGo2, Pk.rfitsIn, hb16, hb26, hi33, hi34, hb38, hx44, hb51]
            exact ret1 Try.results19 rfl ⟨congrArg (Value.int .i64) hr53, ((((e8.trans e13).trans e23).trans e32).trans e50).old⟩
          · -- ¬ ((Pk.rform x0 u43.Class) < 0)
            refine wp_skip ?_
            refine hK39 _ _ ?_
            refine c_reg ?_
            refine op_move (v := .int .i64 (k : Int)) rfl rfl rfl ?_
            refine op_add rfl rfl rfl rfl (by omega) ?_
            refine op_assign (v := .int .i64 ((k : Int) + 1)) rfl rfl rfl ?_
            refine wpList_nil ?_
            repeat (with_reducible refine inBlock_normal ?_)
            with_reducible refine then_normal ?_
            exact ⟨(k + 1), (by first | omega | (dsimp only; omega)), ⟨(by first | omega | (simp only [List.length_append, List.length_cons, List.length_nil]; omega) | (exact Pk.take_all (by assumption) (by assumption) (by omega))), (by first | omega | (simp only [List.length_append, List.length_cons, List.length_nil]; omega) | (exact Pk.take_all (by assumption) (by assumption) (by omega))), (by rw [hi35]; simp [drop_of hx44, Pk.rckGo, Pk.rckGo2, Pk.rfitsIn, hb16, hb26, hi33, hi34, hb38, hx44, hb51]), ((e32.trans e50).drop (fun b hb => by simp [hb])), hx7⟩, _, rfl, (by repeat first | exact agree.refl _ _ | refine agree.upd rfl ?_ | refine agree.upds rfl ?_ | refine agree.mix rfl ?_), ⟨congrArg (Value.int .i64) (show ((k : Int) + 1) = ((k + 1 : Nat) : Int) by omega), trivial⟩⟩
        · -- ¬ ((k : Int) < (x1.Nodes.length : Int))
          refine wp_exit ?_
          refine hK29 _ _ ?_
          refine c_seq fun KhK54 hK54 => ?_
          refine c_seq fun KhK55 hK55 => ?_
          refine c_reg ?_
          refine op_assign (v := .int .i64 0) rfl rfl rfl ?_
          refine wpList_nil ?_
          refine hK55 _ _ ?_
          refine wp_block ?_
          refine c_loop (X := Nat) [4, 7, 8, 9, 10, 37, 38, 39, 40, 41, 42, 43, 44, 45, 46, 47, 48, 49, 50, 51, 52, 53, 54, 55, 56, 57, 58, 59, 60, 61, 62, 63, 64, 65, 66, 67, 68, 69, 70, 71, 72, 73, 74, 75, 76, 77, 78, 79, 80, 81, 82, 83, 84, 85, 86, 87, 88, 89, 90] (fun j => [(7, .int .i64 (j : Int))]) (fun j w1 => (j ≤ x1.Nodes.length) ∧ (∀ n ∈ x1.Nodes, 0 ≤ Pk.rform x0 n.Class) ∧ (Pk.rcheck x0 x1 = Pk.rckGo2 x0 x1 (x1.Nodes.drop j)) ∧ Evo (β2 :: []) w31 (β2 :: []) w1 ∧ Box w1 β2 [.slice a1_x1 x1.Nodes.length c1_x1, .slice a2_x1 x1.Roots.length c2_x1]) (fun j => x1.Nodes.length - j) (0) ⟨congrArg (Value.int .i64) (show 0 = ((0 : Nat) : Int) by omega), trivial⟩ ?_ ?_
          ·
            exact ⟨(by first | omega | exact Pk.take_full (by assumption) (by omega)), (by first | omega | exact Pk.take_full (by assumption) (by omega)), (by rw [hi35]; simp [drop_end (l := x1.Nodes) (k := k) (by first | omega | (rw [bytes_length]; omega)), Pk.rckGo]), Evo.refl _ _, hx7⟩
          ·
            rintro j τ w56 ⟨hi58, hi59, hi60, e57, hx7⟩
            refine c_seq fun KhK61 hK61 => ?_
            refine c_seq fun KhK62 hK62 => ?_
            refine c_reg ?_
            refine op_move (v := .int .i64 (j : Int)) rfl rfl rfl ?_
            refine op_fieldB fld26_0 rfl rfl rfl ?_
            refine op_loadB (v := .slice a1_x1 x1.Nodes.length c1_x1) ty23 rfl rfl rfl rfl hx7 rfl ?_
            refine op_len ty23 rfl rfl rfl ?_
            refine op_lss rfl rfl rfl rfl ?_
            refine wpList_nil ?_
            refine hK62 _ _ ?_
            refine c_if rfl rfl (fun hb63 => ?_) (fun hb63 => ?_)
            · -- (j : Int) < (x1.Nodes.length : Int)
              refine wp_skip ?_
              refine hK61 _ _ ?_
              refine c_seq fun KhK64 hK64 => ?_
              refine wp_block ?_
              refine c_seq fun KhK65 hK65 => ?_
              refine c_reg ?_
              refine op_move (v := .slice a_x0 x0.length c_x0) rfl rfl rfl ?_
              refine op_move (v := .slice a_x0 x0.length c_x0) rfl rfl rfl ?_
              refine op_fieldB fld26_0 rfl rfl rfl ?_
              refine op_loadB (v := .slice a1_x1 x1.Nodes.length c1_x1) ty23 rfl rfl rfl rfl hx7 rfl ?_
              refine op_move (v := .int .i64 (j : Int)) rfl rfl rfl ?_
              refine op_indexN (j := j) ty23 ty49 rfl rfl rfl rfl rfl (h1_x1.mono (((((e8.trans e13).trans e23).trans e32).trans e57).tr M)) (by omega) fun ad66 cs67 u68 hx69 he70 ca71 => ?_
              obtain ⟨a_u68, c_u68, rfl, h_u68⟩ := he70
              have lh_u68 := h_u68.lt63
              have mmu68 := List.mem_of_getElem? hx69
              have ru68 := Pk.rform_lt x0 u68.Class
              try (have := (by assumption : ∀ n ∈ x1.Nodes, 0 ≤ Pk.rform x0 n.Class) u68 mmu68)
              refine op_field fld49_0 rfl rfl rfl ca71.spot ?_
              refine op_loadA (v := .string u68.Class) ty9 rfl rfl rfl rfl ca71 rfl ?_
              refine op_call (args := [.slice a_x0 x0.length c_x0, .string u68.Class]) cal55 rfl rfl rfl (c55 (((((e8.trans e13).trans e23).trans e32).trans e57).loM hM) (h_x0.mono (((((e8.trans e13).trans e23).trans e32).trans e57).tr M))) ?_
              rintro _ w72 ⟨rfl, u73⟩
              have e75 := u73.evo0 (m := (β2 :: []))
              replace hx7 := hx7.mono0 u73
              refine op_indexI ty22 ty91 rfl rfl rfl rfl rfl (h_x0.mono ((((((e8.trans e13).trans e23).trans e32).trans e57).trans e75).tr M)) (by omega) (by omega) fun ad76 cs77 u78 hx79 he80 ca81 => ?_
              obtain ⟨a_u78, c_u78, rfl, h_u78⟩ := he80
              have lh_u78 := h_u78.lt63
              refine op_loadAA ty91 rfl rfl rfl rfl ca81 rfl ?_
              refine op_alloc (zs := [.string (⟨#[]⟩ : ByteArray), .slice none 0 0]) ty91 rfl rfl fun β82 w83 hβ84 u85 hz86 hx87 => ?_
              have e88 := u85.evoN (m := (β2 :: [])) hβ84 hz86
              have ne89 : β2 ≠ β82 := by have := hx7.lt; omega
              replace hx7 := hx7.mono0 u85
              refine op_store (v := .agg #[.string u78.Name, .slice a_u78 u78.Cols.length c_u78]) (cs' := [.string u78.Name, .slice a_u78 u78.Cols.length c_u78]) ty91 rfl rfl rfl rfl hx87 rfl rfl rfl fun w90 u91 hz92 hx87' => ?_
              have e93 := u91.evo (m := (β82 :: (β2 :: []))) (List.forall_mem_singleton.2 List.mem_cons_self)
              replace hx7 := hx7.mono u91 (fun h => (ne89) (List.mem_singleton.1 h))
              refine wpList_nil ?_
              refine hK65 _ _ ?_
              refine c_seq fun KhK94 hK94 => ?_
              refine c_seq fun KhK95 hK95 => ?_
              refine c_quiet mixed (by kernel_rfl) ?_
              refine q_val (v := .pointer (some ⟨β82, 1, none⟩)) rfl rfl rfl (fun wq96 uq97 => op_fieldB fld91_1 rfl rfl rfl q1) ?_
              refine q_val (v := .slice a_u78 u78.Cols.length c_u78) rfl rfl rfl (fun wq98 uq99 => op_loadB (v := .slice a_u78 u78.Cols.length c_u78) ty89 rfl rfl rfl rfl (hx87'.mono0 uq99) rfl q1) ?_
              refine q_val (v := .int .i64 (u78.Cols.length : Int)) rfl rfl rfl (fun wq100 uq101 => op_len ty89 rfl rfl rfl q1) ?_
              refine q_val (v := .pointer (some ⟨β2, 0, none⟩)) rfl rfl rfl (fun wq102 uq103 => op_fieldB fld26_0 rfl rfl rfl q1) ?_
              refine q_val (v := .slice a1_x1 x1.Nodes.length c1_x1) rfl rfl rfl (fun wq104 uq105 => op_loadB (v := .slice a1_x1 x1.Nodes.length c1_x1) ty23 rfl rfl rfl rfl (hx7.mono0 uq105) rfl q1) ?_
              refine q_val (v := .int .i64 (j : Int)) rfl rfl rfl (fun wq106 uq107 => op_move (v := .int .i64 (j : Int)) rfl rfl rfl q1) ?_
              obtain ⟨ad108, cs109, u110, hx111, he112, ca113, hr114⟩ := (h1_x1.mono ((((((((e8.trans e13).trans e23).trans e32).trans e57).trans e75).trans e88).trans e93).tr M)).idxN (j := j) ty23 ty49 rfl (by omega)
              obtain rfl : u68 = u110 := Option.some.inj (hx69.symm.trans hx111)
              obtain ⟨a_u110, c_u110, rfl, h_u110⟩ := he112
              have lh_u110 := h_u110.lt63
              refine q_val (v := .pointer (some ad108)) rfl rfl rfl (fun wq115 uq116 => op_indexR hr114 rfl rfl rfl rfl q1) ?_
              refine q_val (v := .pointer (some ⟨ad108.block, ad108.off + 1, none⟩)) rfl rfl rfl (fun wq117 uq118 => op_field fld49_1 rfl rfl rfl ca113.spot q1) ?_
              refine q_val (v := .slice a_u110 u68.Vals.length c_u110) rfl rfl rfl (fun wq119 uq120 => op_loadA (v := .slice a_u110 u68.Vals.length c_u110) ty24 rfl rfl rfl rfl (ca113.mono ((uq120.evo0 (m := (β82 :: (β2 :: [])))).tr M)) rfl q1) ?_
              refine q_val (v := .int .i64 (u68.Vals.length : Int)) rfl rfl rfl (fun wq121 uq122 => op_len ty24 rfl rfl rfl q1) ?_
              refine q_val (v := .bool (decide (¬ ((u78.Cols.length : Int) = (u68.Vals.length : Int))))) rfl rfl rfl (fun wq123 uq124 => op_neq rfl rfl rfl rfl q1) ?_
              refine wpQuiet_nil fun w125 u126 => ?_
              have e127 := u126.evo0 (m := (β82 :: (β2 :: [])))
              replace hx7 := hx7.mono0 u126
              replace hx87' := hx87'.mono0 u126
              refine hK95 _ _ ?_
              refine c_ifN rfl rfl (fun hb128 => ?_) (fun hb128 => ?_)
              · -- ¬ ((u78.Cols.length : Int) = (u68.Vals.length : Int))
                refine c_seq fun KhK129 hK129 => ?_
                refine c_reg ?_
                refine op_assign (v := .int .i64 8) rfl rfl rfl ?_
                refine wpList_nil ?_
                refine hK129 _ _ ?_
                refine wp_ret ?_
                have hr130 : 8 = (Pk.rcheck x0 x1) := by rw [hi60]; simp [drop_of hx69, drop_of hx79, Pk.rckGo, Pk.rckGo2, Pk.rfitsIn, hb16, hb26, hi33, hi34, hb38, hi58, hi59, hb63, hx69, hx79, hb128]
                exact ret1 Try.results19 rfl ⟨congrArg (Value.int .i64) hr130, ((((((((e8.trans e13).trans e23).trans e32).trans e57).trans e75).trans e88).trans e93).trans e127).old⟩
              · -- (u78.Cols.length : Int) = (u68.Vals.length : Int)
                refine wp_skip ?_
                refine hK94 _ _ ?_
                refine c_seq fun KhK131 hK131 => ?_
                refine c_reg ?_
                refine op_assign (v := .int .i64 0) rfl rfl rfl ?_
                refine wpList_nil ?_
                refine hK131 _ _ ?_
                refine wp_block ?_
                refine c_loop (X := Nat) [4, 9, 10, 66, 67, 68, 69, 70, 71, 72, 73, 74, 75, 76, 77, 78, 79, 80, 81, 82, 83, 84, 85, 86, 87, 88, 89, 90] (fun i => [(9, .int .i64 (i : Int))]) (fun i w1 => (i ≤ u78.Cols.length) ∧ (Pk.rcheck x0 x1 = (if Pk.rfitsIn x1 u68.Vals i (u78.Cols.drop i) = true then Pk.rckGo2 x0 x1 (x1.Nodes.drop (j + 1)) else 8)) ∧ Evo (β82 :: (β2 :: [])) w125 (β82 :: (β2 :: [])) w1 ∧ Box w1 β2 [.slice a1_x1 x1.Nodes.length c1_x1, .slice a2_x1 x1.Roots.length c2_x1] ∧ Box w1 β82 [.string u78.Name, .slice a_u78 u78.Cols.length c_u78]) (fun i => u78.Cols.length - i) (0) ⟨congrArg (Value.int .i64) (show 0 = ((0 : Nat) : Int) by omega), trivial⟩ ?_ ?_
                ·
                  exact ⟨(by first | omega | simp), (by rw [hi60]; simp [drop_of hx69, drop_of hx79, Pk.rckGo2, hb16, hb26, hi33, hi34, hb38, hi58, hi59, hb63, hx69, hx79, hb128]), Evo.refl _ _, hx7, hx87'⟩
                ·
                  rintro i τ w132 ⟨hi134, hi135, e133, hx7, hx87'⟩
                  refine c_seq fun KhK136 hK136 => ?_
                  refine c_seq fun KhK137 hK137 => ?_
                  refine c_reg ?_
                  refine op_move (v := .int .i64 (i : Int)) rfl rfl rfl ?_
                  refine op_fieldB fld91_1 rfl rfl rfl ?_
                  refine op_loadB (v := .slice a_u78 u78.Cols.length c_u78) ty89 rfl rfl rfl rfl hx87' rfl ?_
                  refine op_len ty89 rfl rfl rfl ?_
                  refine op_lss rfl rfl rfl rfl ?_
                  refine wpList_nil ?_
                  refine hK137 _ _ ?_
                  refine c_if rfl rfl (fun hb138 => ?_) (fun hb138 => ?_)
                  · -- (i : Int) < (u78.Cols.length : Int)
                    refine wp_skip ?_
                    refine hK136 _ _ ?_
                    refine c_seq fun KhK139 hK139 => ?_
                    refine wp_block ?_
                    refine c_seq fun KhK140 hK140 => ?_
                    refine c_quiet mixed (by kernel_rfl) ?_
                    refine q_val (v := .pointer (some ⟨β82, 1, none⟩)) rfl rfl rfl (fun wq141 uq142 => op_fieldB fld91_1 rfl rfl rfl q1) ?_
                    refine q_val (v := .slice a_u78 u78.Cols.length c_u78) rfl rfl rfl (fun wq143 uq144 => op_loadB (v := .slice a_u78 u78.Cols.length c_u78) ty89 rfl rfl rfl rfl (hx87'.mono0 uq144) rfl q1) ?_
                    refine q_val (v := .int .i64 (i : Int)) rfl rfl rfl (fun wq145 uq146 => op_move (v := .int .i64 (i : Int)) rfl rfl rfl q1) ?_
                    obtain ⟨ad147, cs148, u149, hx150, he151, ca152, hr153⟩ := (h_u78.mono ((((e88.trans e93).trans e127).trans e133).tr M)).idxN (j := i) ty89 ty93 rfl (by omega)
                    obtain rfl := he151
                    refine q_val (v := .pointer (some ad147)) rfl rfl rfl (fun wq154 uq155 => op_indexR hr153 rfl rfl rfl rfl q1) ?_
                    refine q_val (v := .agg #[.string u149.Name, .int .i64 u149.Kind, .string u149.Class]) rfl rfl rfl (fun wq156 uq157 => op_loadAA ty93 rfl rfl rfl rfl (ca152.mono ((uq157.evo0 (m := (β82 :: (β2 :: [])))).tr M)) rfl q1) ?_
                    refine q_val (v := .pointer (some ⟨β2, 0, none⟩)) rfl rfl rfl (fun wq158 uq159 => op_fieldB fld26_0 rfl rfl rfl q1) ?_
                    refine q_val (v := .slice a1_x1 x1.Nodes.length c1_x1) rfl rfl rfl (fun wq160 uq161 => op_loadB (v := .slice a1_x1 x1.Nodes.length c1_x1) ty23 rfl rfl rfl rfl (hx7.mono0 uq161) rfl q1) ?_
                    refine q_val (v := .int .i64 (j : Int)) rfl rfl rfl (fun wq162 uq163 => op_move (v := .int .i64 (j : Int)) rfl rfl rfl q1) ?_
                    obtain ⟨ad164, cs165, u166, hx167, he168, ca169, hr170⟩ := (h1_x1.mono ((((((((((e8.trans e13).trans e23).trans e32).trans e57).trans e75).trans e88).trans e93).trans e127).trans e133).tr M)).idxN (j := j) ty23 ty49 rfl (by omega)
                    obtain rfl : u68 = u166 := Option.some.inj (hx69.symm.trans hx167)
                    obtain ⟨a_u166, c_u166, rfl, h_u166⟩ := he168
                    have lh_u166 := h_u166.lt63
                    refine q_val (v := .pointer (some ad164)) rfl rfl rfl (fun wq171 uq172 => op_indexR hr170 rfl rfl rfl rfl q1) ?_
                    refine q_val (v := .pointer (some ⟨ad164.block, ad164.off + 1, none⟩)) rfl rfl rfl (fun wq173 uq174 => op_field fld49_1 rfl rfl rfl ca169.spot q1) ?_
                    refine q_val (v := .slice a_u166 u68.Vals.length c_u166) rfl rfl rfl (fun wq175 uq176 => op_loadA (v := .slice a_u166 u68.Vals.length c_u166) ty24 rfl rfl rfl rfl (ca169.mono ((uq176.evo0 (m := (β82 :: (β2 :: [])))).tr M)) rfl q1) ?_
                    refine q_val (v := .int .i64 (i : Int)) rfl rfl rfl (fun wq177 uq178 => op_move (v := .int .i64 (i : Int)) rfl rfl rfl q1) ?_
                    obtain ⟨ad179, cs180, u181, hx182, he183, ca184, hr185⟩ := h_u166.idxN (j := i) ty24 ty51 rfl (by omega)
                    obtain rfl := he183
                    have mmu181 := List.mem_of_getElem? hx182
                    refine q_val (v := .pointer (some ad179)) rfl rfl rfl (fun wq186 uq187 => op_indexR hr185 rfl rfl rfl rfl q1) ?_
                    refine q_val (v := .agg #[.int .i64 u181.Kind, .int .i64 u181.N]) rfl rfl rfl (fun wq188 uq189 => op_loadAA ty51 rfl rfl rfl rfl (ca184.mono ((uq189.evo0 (m := (β82 :: (β2 :: [])))).tr M)) rfl q1) ?_
                    refine q_val (v := .agg #[.slice a1_x1 x1.Nodes.length c1_x1, .slice a2_x1 x1.Roots.length c2_x1]) rfl rfl rfl (fun wq190 uq191 => op_loadBA (ds := [.slice a1_x1 x1.Nodes.length c1_x1, .slice a2_x1 x1.Roots.length c2_x1]) ty26 rfl rfl rfl rfl (hx7.mono0 uq191) rfl rfl q1) ?_
                    refine q_call (args := [.agg #[.string u149.Name, .int .i64 u149.Kind, .string u149.Class], .agg #[.int .i64 u181.Kind, .int .i64 u181.N], .agg #[.slice a1_x1 x1.Nodes.length c1_x1, .slice a2_x1 x1.Roots.length c2_x1]]) (v := .bool (Pk.rfits u149 u181 x1)) cal61 rfl rfl rfl (fun wq192 uq193 => c61 (((((((((((e8.trans e13).trans e23).trans e32).trans e57).trans e75).trans e88).trans e93).trans e127).trans e133).trans (uq193.evo0 (m := (β82 :: (β2 :: []))))).loM hM) (h1_x1.mono (((((((((((e8.trans e13).trans e23).trans e32).trans e57).trans e75).trans e88).trans e93).trans e127).trans e133).trans (uq193.evo0 (m := (β82 :: (β2 :: []))))).tr M)) (h2_x1.mono (((((((((((e8.trans e13).trans e23).trans e32).trans e57).trans e75).trans e88).trans e93).trans e127).trans e133).trans (uq193.evo0 (m := (β82 :: (β2 :: []))))).tr M)) (by first | assumption | omega | exact fun hk => Pk.value_ref ((Pk.rformed_zero (by assumption)).vals _ (by assumption) _ (by assumption)) hk)) ?_
                    refine q_val (v := .bool (Pk.rfits u149 u181 x1)) rfl rfl rfl (fun wq194 uq195 => op_assign (v := .bool (Pk.rfits u149 u181 x1)) rfl rfl rfl q1) ?_
                    refine wpQuiet_nil fun w196 u197 => ?_
                    have e198 := u197.evo0 (m := (β82 :: (β2 :: [])))
                    replace hx7 := hx7.mono0 u197
                    replace hx87' := hx87'.mono0 u197
                    refine hK140 _ _ ?_
                    refine c_seq fun KhK199 hK199 => ?_
                    refine c_reg ?_
                    refine op_move (v := .bool (Pk.rfits u149 u181 x1)) rfl rfl rfl ?_
                    refine op_notB rfl rfl rfl ?_
                    refine wpList_nil ?_
                    refine hK199 _ _ ?_
                    refine c_ifNB rfl rfl (fun hb200 => ?_) (fun hb200 => ?_)
                    · -- (Pk.rfits u149 u181 x1) = false
                      refine c_seq fun KhK201 hK201 => ?_
                      refine c_reg ?_
                      refine op_assign (v := .int .i64 8) rfl rfl rfl ?_
                      refine wpList_nil ?_
                      refine hK201 _ _ ?_
                      refine wp_ret ?_
                      have hr202 : 8 = (Pk.rcheck x0 x1) := by rw [hi135]; simp [drop_of hx150, drop_of hx182, Pk.rckGo, Pk.rckGo2, Pk.rfitsIn, hb16, hb26, hi33, hi34, hb38, hi58, hi59, hb63, hx69, hx79, hb128, hi134, hb138, hx150, hx182, hb200]
                      exact ret1 Try.results19 rfl ⟨congrArg (Value.int .i64) hr202, ((((((((((e8.trans e13).trans e23).trans e32).trans e57).trans e75).trans e88).trans e93).trans e127).trans e133).trans e198).old⟩
                    · -- (Pk.rfits u149 u181 x1) = true
                      refine wp_skip ?_
                      refine hK139 _ _ ?_
                      refine c_reg ?_
                      refine op_move (v := .int .i64 (i : Int)) rfl rfl rfl ?_
                      refine op_add rfl rfl rfl rfl (by omega) ?_
                      refine op_assign (v := .int .i64 ((i : Int) + 1)) rfl rfl rfl ?_
                      refine wpList_nil ?_
                      repeat (with_reducible refine inBlock_normal ?_)
                      with_reducible refine then_normal ?_
                      exact ⟨(i + 1), (by first | omega | (dsimp only; omega)), ⟨(by first | omega | (simp only [List.length_append, List.length_cons, List.length_nil]; omega) | (rw [hi135]; simp [drop_of hx150, drop_of hx182, Pk.rckGo, Pk.rckGo2, Pk.rfitsIn, hb16, hb26, hi33, hi34, hb38, hi58, hi59, hb63, hx69, hx79, hb128, hi134, hb138, hx150, hx182, hb200])), (by rw [hi135]; simp [drop_of hx150, drop_of hx182, Pk.rckGo, Pk.rckGo2, Pk.rfitsIn, hb16, hb26, hi33, hi34, hb38, hi58, hi59, hb63, hx69, hx79, hb128, hi134, hb138, hx150, hx182, hb200]), ((e133.trans e198).drop (fun b hb => by simp [hb])), hx7, hx87'⟩, _, rfl, (by repeat first | exact agree.refl _ _ | refine agree.upd rfl ?_ | refine agree.upds rfl ?_ | refine agree.mix rfl ?_), ⟨congrArg (Value.int .i64) (show ((i : Int) + 1) = ((i + 1 : Nat) : Int) by omega), trivial⟩⟩
                  · -- ¬ ((i : Int) < (u78.Cols.length : Int))
                    refine wp_exit ?_
                    refine hK64 _ _ ?_
                    refine c_reg ?_
                    refine op_move (v := .int .i64 (j : Int)) rfl rfl rfl ?_
                    refine op_add rfl rfl rfl rfl (by omega) ?_
                    refine op_assign (v := .int .i64 ((j : Int) + 1)) rfl rfl rfl ?_
                    refine wpList_nil ?_
                    repeat (with_reducible refine inBlock_normal ?_)
                    with_reducible refine then_normal ?_
                    exact ⟨(j + 1), (by first | omega | (dsimp only; omega)), ⟨(by first | omega | (simp only [List.length_append, List.length_cons, List.length_nil]; omega) | (first | omega | assumption)), (by first | omega | (simp only [List.length_append, List.length_cons, List.length_nil]; omega) | (first | omega | assumption)), (by rw [hi135]; simp [drop_end (l := u78.Cols) (k := i) (by first | omega | (rw [bytes_length]; omega)), Pk.rckGo, Pk.rckGo2, Pk.rfitsIn, hb16, hb26, hi33, hi34, hb38, hi58, hi59, hb63, hx69, hx79, hb128, hi134, hb138]), ((((((e57.trans e75).trans e88).trans e93).trans e127).trans e133).drop (fun b hb => by simp [hb])), hx7⟩, _, rfl, (by repeat first | exact agree.refl _ _ | refine agree.upd rfl ?_ | refine agree.upds rfl ?_ | refine agree.mix rfl ?_), ⟨congrArg (Value.int .i64) (show ((j : Int) + 1) = ((j + 1 : Nat) : Int) by omega), trivial⟩⟩
            · -- ¬ ((j : Int) < (x1.Nodes.length : Int))
              refine wp_exit ?_
              refine hK54 _ _ ?_
              refine c_seq fun KhK203 hK203 => ?_
              refine c_reg ?_
              refine op_assign (v := .int .i64 0) rfl rfl rfl ?_
              refine wpList_nil ?_
              refine hK203 _ _ ?_
              refine wp_ret ?_
              have hr204 : 0 = (Pk.rcheck x0 x1) := by rw [hi60]; simp [drop_end (l := x1.Nodes) (k := j) (by first | omega | (rw [bytes_length]; omega)), Pk.rckGo, Pk.rckGo2, Pk.rfitsIn, hb16, hb26, hi33, hi34, hb38, hi58, hi59, hb63]
              exact ret1 Try.results19 rfl ⟨congrArg (Value.int .i64) hr204, ((((e8.trans e13).trans e23).trans e32).trans e57).old⟩
set_option maxHeartbeats 1000000 in
theorem c73 {M : List Nat} {w : World} {x0 : List Pk.Val} {a_x0 : Option Addr} {c_x0 : Nat} {x1 : List Pk.Val} {a_x1 : Option Addr} {c_x1 : Nat} (hM : Lo M w) (h_x0 : SL M w a_x0 c_x0 x0) (h_x1 : SL M w a_x1 c_x1 x1) : Calls Try.prog 73 #[.slice a_x0 x0.length c_x0, .slice a_x1 x1.length c_x1] w (Ret fun v w' => v = .bool (Pk.sameVals x0 x1) ∧ Upd [] w w') := by
  have lh_x0 := h_x0.lt63
  have lh_x1 := h_x1.lt63
  refine enter (l := [.slice a_x0 x0.length c_x0, .slice a_x1 x1.length c_x1]) Try.func73 rfl Try.ntmps73 rfl ?_
  refine c_seq fun KhK1 hK1 => ?_
  refine c_reg ?_
  refine op_assign (v := .bool false) rfl rfl rfl ?_
  refine wpList_nil ?_
  refine hK1 _ _ ?_
  refine c_seq fun KhK2 hK2 => ?_
  refine c_seq fun KhK3 hK3 => ?_
  refine c_reg ?_
  refine op_move (v := .slice a_x0 x0.length c_x0) rfl rfl rfl ?_
  refine op_len ty24 rfl rfl rfl ?_
  refine op_move (v := .slice a_x1 x1.length c_x1) rfl rfl rfl ?_
  refine op_len ty24 rfl rfl rfl ?_
  refine op_neq rfl rfl rfl rfl ?_
  refine wpList_nil ?_
  refine hK3 _ _ ?_
  refine c_ifN rfl rfl (fun hb4 => ?_) (fun hb4 => ?_)
  · -- ¬ ((x0.length : Int) = (x1.length : Int))
    refine c_seq fun KhK5 hK5 => ?_
    refine c_reg ?_
    refine op_assign (v := .bool false) rfl rfl rfl ?_
    refine wpList_nil ?_
    refine hK5 _ _ ?_
    refine wp_ret ?_
    have hr6 : false = (Pk.sameVals x0 x1) := by simp [ Pk.sameValsGo, Pk.sameVals, hb4]
    exact ret1 Try.results73 rfl ⟨congrArg Value.bool hr6, (Evo.refl [] w).old⟩
  · -- (x0.length : Int) = (x1.length : Int)
    refine wp_skip ?_
    refine hK2 _ _ ?_
    refine c_seq fun KhK7 hK7 => ?_
    refine c_seq fun KhK8 hK8 => ?_
    refine c_reg ?_
    refine op_assign (v := .int .i64 0) rfl rfl rfl ?_
    refine wpList_nil ?_
    refine hK8 _ _ ?_
    refine wp_block ?_
    refine c_loop (X := Nat) [4, 5, 11, 12, 13, 14, 15, 16, 17, 18, 19, 20, 21, 22, 23, 24, 25] (fun k => [(5, .int .i64 (k : Int))]) (fun k w1 => (k ≤ x0.length) ∧ (Pk.sameVals x0 x1 = Pk.sameValsGo (x0.drop k) (x1.drop k)) ∧ Evo [] w [] w1) (fun k => x0.length - k) (0) ⟨congrArg (Value.int .i64) (show 0 = ((0 : Nat) : Int) by omega), trivial⟩ ?_ ?_
    ·
      exact ⟨(by first | omega | simp), (by simp [Pk.sameVals, hb4]), Evo.refl _ _⟩
    ·
      rintro k τ w9 ⟨hi11, hi12, e10⟩
      refine c_seq fun KhK13 hK13 => ?_
      refine c_seq fun KhK14 hK14 => ?_
      refine c_reg ?_
      refine op_move (v := .int .i64 (k : Int)) rfl rfl rfl ?_
      refine op_move (v := .slice a_x0 x0.length c_x0) rfl rfl rfl ?_
      refine op_len ty24 rfl rfl rfl ?_
      refine op_lss rfl rfl rfl rfl ?_
      refine wpList_nil ?_
      refine hK14 _ _ ?_
      refine c_if rfl rfl (fun hb15 => ?_) (fun hb15 => ?_)
      · -- (k : Int) < (x0.length : Int)
        refine wp_skip ?_
        refine hK13 _ _ ?_
        refine c_seq fun KhK16 hK16 => ?_
        refine wp_block ?_
        refine c_seq fun KhK17 hK17 => ?_
        refine c_quiet mixed (by kernel_rfl) ?_
        refine q_val (v := .slice a_x0 x0.length c_x0) rfl rfl rfl (fun wq18 uq19 => op_move (v := .slice a_x0 x0.length c_x0) rfl rfl rfl q1) ?_
        refine q_val (v := .int .i64 (k : Int)) rfl rfl rfl (fun wq20 uq21 => op_move (v := .int .i64 (k : Int)) rfl rfl rfl q1) ?_
        obtain ⟨ad22, cs23, u24, hx25, he26, ca27, hr28⟩ := (h_x0.mono (e10.tr M)).idxN (j := k) ty24 ty51 rfl (by omega)
        obtain rfl := he26
        refine q_val (v := .pointer (some ad22)) rfl rfl rfl (fun wq29 uq30 => op_indexR hr28 rfl rfl rfl rfl q1) ?_
        refine q_val (v := .agg #[.int .i64 u24.Kind, .int .i64 u24.N]) rfl rfl rfl (fun wq31 uq32 => op_loadAA ty51 rfl rfl rfl rfl (ca27.mono ((uq32.evo0 (m := [])).tr M)) rfl q1) ?_
        refine q_val (v := .slice a_x1 x1.length c_x1) rfl rfl rfl (fun wq33 uq34 => op_move (v := .slice a_x1 x1.length c_x1) rfl rfl rfl q1) ?_
        refine q_val (v := .int .i64 (k : Int)) rfl rfl rfl (fun wq35 uq36 => op_move (v := .int .i64 (k : Int)) rfl rfl rfl q1) ?_
        obtain ⟨ad37, cs38, u39, hx40, he41, ca42, hr43⟩ := (h_x1.mono (e10.tr M)).idxN (j := k) ty24 ty51 rfl (by omega)
        obtain rfl := he41
        refine q_val (v := .pointer (some ad37)) rfl rfl rfl (fun wq44 uq45 => op_indexR hr43 rfl rfl rfl rfl q1) ?_
        refine q_val (v := .agg #[.int .i64 u39.Kind, .int .i64 u39.N]) rfl rfl rfl (fun wq46 uq47 => op_loadAA ty51 rfl rfl rfl rfl (ca42.mono ((uq47.evo0 (m := [])).tr M)) rfl q1) ?_
        refine q_val (v := .bool (decide (¬ (u24 = u39)))) rfl rfl rfl (fun wq48 uq49 => op_neqA (eqt51 (a := u24) (b := u39)) rfl rfl rfl rfl q1) ?_
        refine wpQuiet_nil fun w50 u51 => ?_
        have e52 := u51.evo0 (m := [])
        refine hK17 _ _ ?_
        refine c_ifN rfl rfl (fun hb53 => ?_) (fun hb53 => ?_)
        · -- ¬ (u24 = u39)
          refine c_seq fun KhK54 hK54 => ?_
          refine c_reg ?_
          refine op_assign (v := .bool false) rfl rfl rfl ?_
          refine wpList_nil ?_
          refine hK54 _ _ ?_
          refine wp_ret ?_
          have hr55 : false = (Pk.sameVals x0 x1) := by rw [hi12]; simp [drop_of hx25, drop_of hx40, Pk.sameValsGo, hb4, hi11, hb15, hx25, hx40, hb53]
          exact ret1 Try.results73 rfl ⟨congrArg Value.bool hr55, (e10.trans e52).old⟩
        · -- u24 = u39
          refine wp_skip ?_
          refine hK16 _ _ ?_
          refine c_reg ?_
          refine op_move (v := .int .i64 (k : Int)) rfl rfl rfl ?_
          refine op_add rfl rfl rfl rfl (by omega) ?_
          refine op_assign (v := .int .i64 ((k : Int) + 1)) rfl rfl rfl ?_
          refine wpList_nil ?_
          repeat (with_reducible refine inBlock_normal ?_)
          with_reducible refine then_normal ?_
          exact ⟨(k + 1), (by first | omega | (dsimp only; omega)), ⟨(by first | omega | (simp only [List.length_append, List.length_cons, List.length_nil]; omega) | (rw [hi12]; simp [drop_of hx25, drop_of hx40, Pk.sameValsGo, hb4, hi11, hb15, hx25, hx40, hb53])), (by rw [hi12]; simp [drop_of hx25, drop_of hx40, Pk.sameValsGo, hb4, hi11, hb15, hx25, hx40, hb53]), ((e10.trans e52).drop (fun b hb => by simp [hb]))⟩, _, rfl, (by repeat first | exact agree.refl _ _ | refine agree.upd rfl ?_ | refine agree.upds rfl ?_ | refine agree.mix rfl ?_), ⟨congrArg (Value.int .i64) (show ((k : Int) + 1) = ((k + 1 : Nat) : Int) by omega), trivial⟩⟩
      · -- ¬ ((k : Int) < (x0.length : Int))
        refine wp_exit ?_
        refine hK7 _ _ ?_
        refine c_seq fun KhK56 hK56 => ?_
        refine c_reg ?_
        refine op_assign (v := .bool true) rfl rfl rfl ?_
        refine wpList_nil ?_
        refine hK56 _ _ ?_
        refine wp_ret ?_
        have hr57 : true = (Pk.sameVals x0 x1) := by rw [hi12]; simp [drop_end (l := x0) (k := k) (by first | omega | (rw [bytes_length]; omega)), Pk.sameValsGo, hb4, hi11, hb15]
        exact ret1 Try.results73 rfl ⟨congrArg Value.bool hr57, e10.old⟩
set_option maxHeartbeats 1000000 in
theorem c26 {M : List Nat} {w : World} {x0 : Pk.Graph} {a1_x0 : Option Addr} {c1_x0 : Nat} {a2_x0 : Option Addr} {c2_x0 : Nat} {x1 : Pk.Graph} {a1_x1 : Option Addr} {c1_x1 : Nat} {a2_x1 : Option Addr} {c2_x1 : Nat} (hM : Lo M w) (h1_x0 : SL M w a1_x0 c1_x0 x0.Nodes) (h2_x0 : SL M w a2_x0 c2_x0 x0.Roots) (h1_x1 : SL M w a1_x1 c1_x1 x1.Nodes) (h2_x1 : SL M w a2_x1 c2_x1 x1.Roots) : Calls Try.prog 26 #[.agg #[.slice a1_x0 x0.Nodes.length c1_x0, .slice a2_x0 x0.Roots.length c2_x0], .agg #[.slice a1_x1 x1.Nodes.length c1_x1, .slice a2_x1 x1.Roots.length c2_x1]] w (Ret fun v w' => v = .bool (Pk.sameGraphs x0 x1) ∧ Upd [] w w') := by
  have lh1_x0 := h1_x0.lt63
  have lh2_x0 := h2_x0.lt63
  have lh1_x1 := h1_x1.lt63
  have lh2_x1 := h2_x1.lt63
  refine enter (l := [.agg #[.slice a1_x0 x0.Nodes.length c1_x0, .slice a2_x0 x0.Roots.length c2_x0], .agg #[.slice a1_x1 x1.Nodes.length c1_x1, .slice a2_x1 x1.Roots.length c2_x1]]) Try.func26 rfl Try.ntmps26 rfl ?_
  refine c_seq fun KhK1 hK1 => ?_
  refine c_reg ?_
  refine op_box (v := .agg #[.slice a1_x0 x0.Nodes.length c1_x0, .slice a2_x0 x0.Roots.length c2_x0]) (zs := [.slice a1_x0 x0.Nodes.length c1_x0, .slice a2_x0 x0.Roots.length c2_x0]) rfl rfl rfl rfl fun β2 w3 hβ4 u5 hz6 hx7 => ?_
  have e8 := u5.evoN (m := []) hβ4 hz6
  refine op_box (v := .agg #[.slice a1_x1 x1.Nodes.length c1_x1, .slice a2_x1 x1.Roots.length c2_x1]) (zs := [.slice a1_x1 x1.Nodes.length c1_x1, .slice a2_x1 x1.Roots.length c2_x1]) rfl rfl rfl rfl fun β9 w10 hβ11 u12 hz13 hx14 => ?_
  have e15 := u12.evoN (m := (β2 :: [])) hβ11 hz13
  have ne16 : β2 ≠ β9 := by have := hx7.lt; omega
  replace hx7 := hx7.mono0 u12
  refine op_assign (v := .bool false) rfl rfl rfl ?_
  refine wpList_nil ?_
  refine hK1 _ _ ?_
  refine c_seq fun KhK17 hK17 => ?_
  refine c_reg ?_
  refine op_fieldB fld26_1 rfl rfl rfl ?_
  refine op_loadB (v := .slice a2_x0 x0.Roots.length c2_x0) ty24 rfl rfl rfl rfl hx7 rfl ?_
  refine op_fieldB fld26_1 rfl rfl rfl ?_
  refine op_loadB (v := .slice a2_x1 x1.Roots.length c2_x1) ty24 rfl rfl rfl rfl hx14 rfl ?_
  refine op_call (args := [.slice a2_x0 x0.Roots.length c2_x0, .slice a2_x1 x1.Roots.length c2_x1]) cal73 rfl rfl rfl (c73 ((e8.trans e15).loM hM) (h2_x0.mono ((e8.trans e15).tr M)) (h2_x1.mono ((e8.trans e15).tr M))) ?_
  rintro _ w18 ⟨rfl, u19⟩
  have e21 := u19.evo0 (m := (β9 :: (β2 :: [])))
  replace hx7 := hx7.mono0 u19
  replace hx14 := hx14.mono0 u19
  refine op_assign (v := .bool (Pk.sameVals x0.Roots x1.Roots)) rfl rfl rfl ?_
  refine wpList_nil ?_
  refine hK17 _ _ ?_
  refine c_seq fun KhK22 hK22 => ?_
  refine c_seq fun KhK23 hK23 => ?_
  refine c_reg ?_
  refine op_move (v := .bool (Pk.sameVals x0.Roots x1.Roots)) rfl rfl rfl ?_
  refine op_notB rfl rfl rfl ?_
  refine op_move (v := .bool (!(Pk.sameVals x0.Roots x1.Roots))) rfl rfl rfl ?_
  refine op_partNB 15 rfl (fun hb24 => ?_) (fun hb24 => ?_)
  · -- (Pk.sameVals x0.Roots x1.Roots) = false
    refine op_not rfl ?_
    refine op_not rfl ?_
    refine op_not rfl ?_
    refine op_not rfl ?_
    refine op_not rfl ?_
    refine op_not rfl ?_
    refine op_not rfl ?_
    refine op_pickT (v := .bool true) rfl rfl rfl rfl ?_
    refine wpList_nil ?_
    refine hK23 _ _ ?_
    refine c_ifT rfl rfl ?_
    refine c_seq fun KhK25 hK25 => ?_
    refine c_reg ?_
    refine op_assign (v := .bool false) rfl rfl rfl ?_
    refine wpList_nil ?_
    refine hK25 _ _ ?_
    refine wp_ret ?_
    have hr26 : false = (Pk.sameGraphs x0 x1) := by simp [ Pk.sgGo, Pk.sameGraphs, hb24]
    exact ret1 Try.results26 rfl ⟨congrArg Value.bool hr26, ((e8.trans e15).trans e21).old⟩
  · -- (Pk.sameVals x0.Roots x1.Roots) = true
    refine op_fieldB fld26_0 rfl rfl rfl ?_
    refine op_loadB (v := .slice a1_x0 x0.Nodes.length c1_x0) ty23 rfl rfl rfl rfl hx7 rfl ?_
    refine op_len ty23 rfl rfl rfl ?_
    refine op_fieldB fld26_0 rfl rfl rfl ?_
    refine op_loadB (v := .slice a1_x1 x1.Nodes.length c1_x1) ty23 rfl rfl rfl rfl hx14 rfl ?_
    refine op_len ty23 rfl rfl rfl ?_
    refine op_neq rfl rfl rfl rfl ?_
    refine op_pickF (v := .bool (decide (¬ ((x0.Nodes.length : Int) = (x1.Nodes.length : Int))))) rfl rfl rfl rfl ?_
    refine wpList_nil ?_
    refine hK23 _ _ ?_
    refine c_ifN rfl rfl (fun hb27 => ?_) (fun hb27 => ?_)
    · -- ¬ ((x0.Nodes.length : Int) = (x1.Nodes.length : Int))
      refine c_seq fun KhK28 hK28 => ?_
      refine c_reg ?_
      refine op_assign (v := .bool false) rfl rfl rfl ?_
      refine wpList_nil ?_
      refine hK28 _ _ ?_
      refine wp_ret ?_
      have hr29 : false = (Pk.sameGraphs x0 x1) := by simp [ Pk.sgGo, Pk.sameGraphs, hb24, hb27]
      exact ret1 Try.results26 rfl ⟨congrArg Value.bool hr29, ((e8.trans e15).trans e21).old⟩
    · -- (x0.Nodes.length : Int) = (x1.Nodes.length : Int)
      refine wp_skip ?_
      refine hK22 _ _ ?_
      refine c_seq fun KhK30 hK30 => ?_
      refine c_seq fun KhK31 hK31 => ?_
      refine c_reg ?_
      refine op_assign (v := .int .i64 0) rfl rfl rfl ?_
      refine wpList_nil ?_
      refine hK31 _ _ ?_
      refine wp_block ?_
      refine c_loop (X := Nat) [4, 6, 7, 24, 25, 26, 27, 28, 29, 30, 31, 32, 33, 34, 35, 36, 37, 38, 39, 40, 41, 42, 43, 44, 45, 46, 47, 48, 49, 50, 51, 52, 53, 54, 55, 56, 57, 58, 59, 60] (fun k => [(6, .int .i64 (k : Int))]) (fun k w1 => (k ≤ x0.Nodes.length) ∧ (Pk.sameGraphs x0 x1 = Pk.sgGo (x0.Nodes.drop k) (x1.Nodes.drop k)) ∧ Evo (β9 :: (β2 :: [])) w18 (β9 :: (β2 :: [])) w1 ∧ Box w1 β2 [.slice a1_x0 x0.Nodes.length c1_x0, .slice a2_x0 x0.Roots.length c2_x0] ∧ Box w1 β9 [.slice a1_x1 x1.Nodes.length c1_x1, .slice a2_x1 x1.Roots.length c2_x1]) (fun k => x0.Nodes.length - k) (0) ⟨congrArg (Value.int .i64) (show 0 = ((0 : Nat) : Int) by omega), trivial⟩ ?_ ?_
      ·
        exact ⟨(by first | omega | simp), (by simp [Pk.sameGraphs, hb24, hb27]), Evo.refl _ _, hx7, hx14⟩
      ·
        rintro k τ w32 ⟨hi34, hi35, e33, hx7, hx14⟩
        refine c_seq fun KhK36 hK36 => ?_
        refine c_seq fun KhK37 hK37 => ?_
        refine c_reg ?_
        refine op_move (v := .int .i64 (k : Int)) rfl rfl rfl ?_
        refine op_fieldB fld26_0 rfl rfl rfl ?_
        refine op_loadB (v := .slice a1_x0 x0.Nodes.length c1_x0) ty23 rfl rfl rfl rfl hx7 rfl ?_
        refine op_len ty23 rfl rfl rfl ?_
        refine op_lss rfl rfl rfl rfl ?_
        refine wpList_nil ?_
        refine hK37 _ _ ?_
        refine c_if rfl rfl (fun hb38 => ?_) (fun hb38 => ?_)
        · -- (k : Int) < (x0.Nodes.length : Int)
          refine wp_skip ?_
          refine hK36 _ _ ?_
          refine c_seq fun KhK39 hK39 => ?_
          refine wp_block ?_
          refine c_seq fun KhK40 hK40 => ?_
          refine c_quiet mixed (by kernel_rfl) ?_
          refine q_val (v := .pointer (some ⟨β2, 0, none⟩)) rfl rfl rfl (fun wq41 uq42 => op_fieldB fld26_0 rfl rfl rfl q1) ?_
          refine q_val (v := .slice a1_x0 x0.Nodes.length c1_x0) rfl rfl rfl (fun wq43 uq44 => op_loadB (v := .slice a1_x0 x0.Nodes.length c1_x0) ty23 rfl rfl rfl rfl (hx7.mono0 uq44) rfl q1) ?_
          refine q_val (v := .int .i64 (k : Int)) rfl rfl rfl (fun wq45 uq46 => op_move (v := .int .i64 (k : Int)) rfl rfl rfl q1) ?_
          obtain ⟨ad47, cs48, u49, hx50, he51, ca52, hr53⟩ := (h1_x0.mono ((((e8.trans e15).trans e21).trans e33).tr M)).idxN (j := k) ty23 ty49 rfl (by omega)
          obtain ⟨a_u49, c_u49, rfl, h_u49⟩ := he51
          have lh_u49 := h_u49.lt63
          refine q_val (v := .pointer (some ad47)) rfl rfl rfl (fun wq54 uq55 => op_indexR hr53 rfl rfl rfl rfl q1) ?_
          refine q_val (v := .pointer (some ⟨ad47.block, ad47.off + 1, none⟩)) rfl rfl rfl (fun wq56 uq57 => op_field fld49_1 rfl rfl rfl ca52.spot q1) ?_
          refine q_val (v := .slice a_u49 u49.Vals.length c_u49) rfl rfl rfl (fun wq58 uq59 => op_loadA (v := .slice a_u49 u49.Vals.length c_u49) ty24 rfl rfl rfl rfl (ca52.mono ((uq59.evo0 (m := (β9 :: (β2 :: [])))).tr M)) rfl q1) ?_
          refine q_val (v := .pointer (some ⟨β9, 0, none⟩)) rfl rfl rfl (fun wq60 uq61 => op_fieldB fld26_0 rfl rfl rfl q1) ?_
          refine q_val (v := .slice a1_x1 x1.Nodes.length c1_x1) rfl rfl rfl (fun wq62 uq63 => op_loadB (v := .slice a1_x1 x1.Nodes.length c1_x1) ty23 rfl rfl rfl rfl (hx14.mono0 uq63) rfl q1) ?_
          refine q_val (v := .int .i64 (k : Int)) rfl rfl rfl (fun wq64 uq65 => op_move (v := .int .i64 (k : Int)) rfl rfl rfl q1) ?_
          obtain ⟨ad66, cs67, u68, hx69, he70, ca71, hr72⟩ := (h1_x1.mono ((((e8.trans e15).trans e21).trans e33).tr M)).idxN (j := k) ty23 ty49 rfl (by omega)
          obtain ⟨a_u68, c_u68, rfl, h_u68⟩ := he70
          have lh_u68 := h_u68.lt63
          refine q_val (v := .pointer (some ad66)) rfl rfl rfl (fun wq73 uq74 => op_indexR hr72 rfl rfl rfl rfl q1) ?_
          refine q_val (v := .pointer (some ⟨ad66.block, ad66.off + 1, none⟩)) rfl rfl rfl (fun wq75 uq76 => op_field fld49_1 rfl rfl rfl ca71.spot q1) ?_
          refine q_val (v := .slice a_u68 u68.Vals.length c_u68) rfl rfl rfl (fun wq77 uq78 => op_loadA (v := .slice a_u68 u68.Vals.length c_u68) ty24 rfl rfl rfl rfl (ca71.mono ((uq78.evo0 (m := (β9 :: (β2 :: [])))).tr M)) rfl q1) ?_
          refine q_call (args := [.slice a_u49 u49.Vals.length c_u49, .slice a_u68 u68.Vals.length c_u68]) (v := .bool (Pk.sameVals u49.Vals u68.Vals)) cal73 rfl rfl rfl (fun wq79 uq80 => c73 (((((e8.trans e15).trans e21).trans e33).trans (uq80.evo0 (m := (β9 :: (β2 :: []))))).loM hM) (h_u49.mono ((uq80.evo0 (m := (β9 :: (β2 :: [])))).tr M)) (h_u68.mono ((uq80.evo0 (m := (β9 :: (β2 :: [])))).tr M))) ?_
          refine q_val (v := .bool (Pk.sameVals u49.Vals u68.Vals)) rfl rfl rfl (fun wq81 uq82 => op_assign (v := .bool (Pk.sameVals u49.Vals u68.Vals)) rfl rfl rfl q1) ?_
          refine wpQuiet_nil fun w83 u84 => ?_
          have e85 := u84.evo0 (m := (β9 :: (β2 :: [])))
          replace hx7 := hx7.mono0 u84
          replace hx14 := hx14.mono0 u84
          refine hK40 _ _ ?_
          refine c_seq fun KhK86 hK86 => ?_
          refine c_quiet mixed (by kernel_rfl) ?_
          refine q_val (v := .bool (Pk.sameVals u49.Vals u68.Vals)) rfl rfl rfl (fun wq87 uq88 => op_move (v := .bool (Pk.sameVals u49.Vals u68.Vals)) rfl rfl rfl q1) ?_
          refine q_val (v := .bool (!(Pk.sameVals u49.Vals u68.Vals))) rfl rfl rfl (fun wq89 uq90 => op_notB rfl rfl rfl q1) ?_
          refine q_val (v := .bool (!(Pk.sameVals u49.Vals u68.Vals))) rfl rfl rfl (fun wq91 uq92 => op_move (v := .bool (!(Pk.sameVals u49.Vals u68.Vals))) rfl rfl rfl q1) ?_
          refine q_partNB 46 rfl (fun hb93 => ?_) (fun hb93 => ?_)
          · -- (Pk.sameVals u49.Vals u68.Vals) = false
            refine q_not rfl ?_
            refine q_not rfl ?_
            refine q_not rfl ?_
            refine q_not rfl ?_
            refine q_not rfl ?_
            refine q_not rfl ?_
            refine q_not rfl ?_
            refine q_not rfl ?_
            refine q_not rfl ?_
            refine q_not rfl ?_
            refine q_not rfl ?_
            refine q_not rfl ?_
            refine q_not rfl ?_
            refine q_val (v := .bool true) rfl rfl rfl (fun wq94 uq95 => op_pickT (v := .bool true) rfl rfl rfl rfl q1) ?_
            refine wpQuiet_nil fun w96 u97 => ?_
            have e98 := u97.evo0 (m := (β9 :: (β2 :: [])))
            replace hx7 := hx7.mono0 u97
            replace hx14 := hx14.mono0 u97
            refine hK86 _ _ ?_
            refine c_ifT rfl rfl ?_
            refine c_seq fun KhK99 hK99 => ?_
            refine c_reg ?_
            refine op_assign (v := .bool false) rfl rfl rfl ?_
            refine wpList_nil ?_
            refine hK99 _ _ ?_
            refine wp_ret ?_
            have hr100 : false = (Pk.sameGraphs x0 x1) := by rw [hi35]; simp [drop_of hx50, drop_of hx69, Pk.sgGo, hb24, hb27, hi34, hb38, hx50, hx69, hb93]
            exact ret1 Try.results26 rfl ⟨congrArg Value.bool hr100, (((((e8.trans e15).trans e21).trans e33).trans e85).trans e98).old⟩
          · -- (Pk.sameVals u49.Vals u68.Vals) = true
            refine q_val (v := .pointer (some ⟨β2, 0, none⟩)) rfl rfl rfl (fun wq101 uq102 => op_fieldB fld26_0 rfl rfl rfl q1) ?_
            refine q_val (v := .slice a1_x0 x0.Nodes.length c1_x0) rfl rfl rfl (fun wq103 uq104 => op_loadB (v := .slice a1_x0 x0.Nodes.length c1_x0) ty23 rfl rfl rfl rfl (hx7.mono0 uq104) rfl q1) ?_
            refine q_val (v := .int .i64 (k : Int)) rfl rfl rfl (fun wq105 uq106 => op_move (v := .int .i64 (k : Int)) rfl rfl rfl q1) ?_
            obtain ⟨ad107, cs108, u109, hx110, he111, ca112, hr113⟩ := (h1_x0.mono (((((e8.trans e15).trans e21).trans e33).trans e85).tr M)).idxN (j := k) ty23 ty49 rfl (by omega)
            obtain rfl : u49 = u109 := Option.some.inj (hx50.symm.trans hx110)
            obtain ⟨a_u109, c_u109, rfl, h_u109⟩ := he111
            have lh_u109 := h_u109.lt63
            refine q_val (v := .pointer (some ad107)) rfl rfl rfl (fun wq114 uq115 => op_indexR hr113 rfl rfl rfl rfl q1) ?_
            refine q_val (v := .pointer (some ⟨ad107.block, ad107.off + 0, none⟩)) rfl rfl rfl (fun wq116 uq117 => op_field fld49_0 rfl rfl rfl ca112.spot q1) ?_
            refine q_val (v := .string u49.Class) rfl rfl rfl (fun wq118 uq119 => op_loadA (v := .string u49.Class) ty9 rfl rfl rfl rfl (ca112.mono ((uq119.evo0 (m := (β9 :: (β2 :: [])))).tr M)) rfl q1) ?_
            refine q_val (v := .pointer (some ⟨β9, 0, none⟩)) rfl rfl rfl (fun wq120 uq121 => op_fieldB fld26_0 rfl rfl rfl q1) ?_
            refine q_val (v := .slice a1_x1 x1.Nodes.length c1_x1) rfl rfl rfl (fun wq122 uq123 => op_loadB (v := .slice a1_x1 x1.Nodes.length c1_x1) ty23 rfl rfl rfl rfl (hx14.mono0 uq123) rfl q1) ?_
            refine q_val (v := .int .i64 (k : Int)) rfl rfl rfl (fun wq124 uq125 => op_move (v := .int .i64 (k : Int)) rfl rfl rfl q1) ?_
            obtain ⟨ad126, cs127, u128, hx129, he130, ca131, hr132⟩ := (h1_x1.mono (((((e8.trans e15).trans e21).trans e33).trans e85).tr M)).idxN (j := k) ty23 ty49 rfl (by omega)
            obtain rfl : u68 = u128 := Option.some.inj (hx69.symm.trans hx129)
            obtain ⟨a_u128, c_u128, rfl, h_u128⟩ := he130
            have lh_u128 := h_u128.lt63
            refine q_val (v := .pointer (some ad126)) rfl rfl rfl (fun wq133 uq134 => op_indexR hr132 rfl rfl rfl rfl q1) ?_
            refine q_val (v := .pointer (some ⟨ad126.block, ad126.off + 0, none⟩)) rfl rfl rfl (fun wq135 uq136 => op_field fld49_0 rfl rfl rfl ca131.spot q1) ?_
            refine q_val (v := .string u68.Class) rfl rfl rfl (fun wq137 uq138 => op_loadA (v := .string u68.Class) ty9 rfl rfl rfl rfl (ca131.mono ((uq138.evo0 (m := (β9 :: (β2 :: [])))).tr M)) rfl q1) ?_
            refine q_val (v := .bool (decide (¬ (u49.Class = u68.Class)))) rfl rfl rfl (fun wq139 uq140 => op_neqS rfl rfl rfl rfl q1) ?_
            refine q_val (v := .bool (decide (¬ (u49.Class = u68.Class)))) rfl rfl rfl (fun wq141 uq142 => op_pickF (v := .bool (decide (¬ (u49.Class = u68.Class)))) rfl rfl rfl rfl q1) ?_
            refine wpQuiet_nil fun w143 u144 => ?_
            have e145 := u144.evo0 (m := (β9 :: (β2 :: [])))
            replace hx7 := hx7.mono0 u144
            replace hx14 := hx14.mono0 u144
            refine hK86 _ _ ?_
            refine c_ifN rfl rfl (fun hb146 => ?_) (fun hb146 => ?_)
            · -- ¬ (u49.Class = u68.Class)
              refine c_seq fun KhK147 hK147 => ?_
              refine c_reg ?_
              refine op_assign (v := .bool false) rfl rfl rfl ?_
              refine wpList_nil ?_
              refine hK147 _ _ ?_
              refine wp_ret ?_
              have hr148 : false = (Pk.sameGraphs x0 x1) := by rw [hi35]; simp [drop_of hx50, drop_of hx69, Pk.sgGo, hb24, hb27, hi34, hb38, hx50, hx69, hb93, hb146]
              exact ret1 Try.results26 rfl ⟨congrArg Value.bool hr148, (((((e8.trans e15).trans e21).trans e33).trans e85).trans e145).old⟩
            · -- u49.Class = u68.Class
              refine wp_skip ?_
              refine hK39 _ _ ?_
              refine c_reg ?_
              refine op_move (v := .int .i64 (k : Int)) rfl rfl rfl ?_
              refine op_add rfl rfl rfl rfl (by omega) ?_
              refine op_assign (v := .int .i64 ((k : Int) + 1)) rfl rfl rfl ?_
              refine wpList_nil ?_
              repeat (with_reducible refine inBlock_normal ?_)
              with_reducible refine then_normal ?_
              exact ⟨(k + 1), (by first | omega | (dsimp only; omega)), ⟨(by first | omega | (simp only [List.length_append, List.length_cons, List.length_nil]; omega) | (rw [hi35]; simp [drop_of hx50, drop_of hx69, Pk.sgGo, hb24, hb27, hi34, hb38, hx50, hx69, hb93, hb146])), (by rw [hi35]; simp [drop_of hx50, drop_of hx69, Pk.sgGo, hb24, hb27, hi34, hb38, hx50, hx69, hb93, hb146]), (((e33.trans e85).trans e145).drop (fun b hb => by simp [hb])), hx7, hx14⟩, _, rfl, (by repeat first | exact agree.refl _ _ | refine agree.upd rfl ?_ | refine agree.upds rfl ?_ | refine agree.mix rfl ?_), ⟨congrArg (Value.int .i64) (show ((k : Int) + 1) = ((k + 1 : Nat) : Int) by omega), trivial⟩⟩
        · -- ¬ ((k : Int) < (x0.Nodes.length : Int))
          refine wp_exit ?_
          refine hK30 _ _ ?_
          refine c_seq fun KhK149 hK149 => ?_
          refine c_reg ?_
          refine op_assign (v := .bool true) rfl rfl rfl ?_
          refine wpList_nil ?_
          refine hK149 _ _ ?_
          refine wp_ret ?_
          have hr150 : true = (Pk.sameGraphs x0 x1) := by rw [hi35]; simp [drop_end (l := x0.Nodes) (k := k) (by first | omega | (rw [bytes_length]; omega)), Pk.sgGo, hb24, hb27, hi34, hb38]
          exact ret1 Try.results26 rfl ⟨congrArg Value.bool hr150, (((e8.trans e15).trans e21).trans e33).old⟩
set_option maxHeartbeats 1000000 in
theorem c13 {M : List Nat} {w : World} {x0 : List Pk.Form} {a_x0 : Option Addr} {c_x0 : Nat} (hM : Lo M w) (h_x0 : SL M w a_x0 c_x0 x0) : Calls Try.prog 13 #[.slice a_x0 x0.length c_x0] w (Ret fun v w' => v = .bool (Pk.fewForms x0) ∧ Upd [] w w') := by
  have lh_x0 := h_x0.lt63
  refine enter (l := [.slice a_x0 x0.length c_x0]) Try.func13 rfl Try.ntmps13 rfl ?_
  refine c_seq fun KhK1 hK1 => ?_
  refine c_reg ?_
  refine op_assign (v := .bool false) rfl rfl rfl ?_
  refine wpList_nil ?_
  refine hK1 _ _ ?_
  refine c_seq fun KhK2 hK2 => ?_
  refine c_seq fun KhK3 hK3 => ?_
  refine c_reg ?_
  refine op_assign (v := .int .i64 0) rfl rfl rfl ?_
  refine wpList_nil ?_
  refine hK3 _ _ ?_
  refine wp_block ?_
  refine c_loop (X := Nat) [2, 3, 4, 5, 6, 7, 8, 9, 10, 11, 12, 13, 14, 15, 16, 17, 18, 19, 20, 21, 22, 23, 24, 25, 26, 27, 28, 29, 30, 31, 32, 33, 34, 35, 36, 37, 38, 39, 40, 41, 42, 43, 44, 45, 46, 47, 48, 49, 50, 51, 52, 53, 54, 55, 56, 57, 58, 59, 60, 61, 62, 63, 64, 65] (fun k => [(3, .int .i64 (k : Int))]) (fun k w1 => (k ≤ x0.length) ∧ (Pk.fewForms x0 = Pk.ffGo x0 (x0.drop k)) ∧ Evo [] w [] w1) (fun k => x0.length - k) (0) ⟨congrArg (Value.int .i64) (show 0 = ((0 : Nat) : Int) by omega), trivial⟩ ?_ ?_
  ·
    exact ⟨(by first | omega | simp), (by simp [Pk.fewForms]), Evo.refl _ _⟩
  ·
    rintro k τ w4 ⟨hi6, hi7, e5⟩
    refine c_seq fun KhK8 hK8 => ?_
    refine c_seq fun KhK9 hK9 => ?_
    refine c_reg ?_
    refine op_move (v := .int .i64 (k : Int)) rfl rfl rfl ?_
    refine op_move (v := .slice a_x0 x0.length c_x0) rfl rfl rfl ?_
    refine op_len ty22 rfl rfl rfl ?_
    refine op_lss rfl rfl rfl rfl ?_
    refine wpList_nil ?_
    refine hK9 _ _ ?_
    refine c_if rfl rfl (fun hb10 => ?_) (fun hb10 => ?_)
    · -- (k : Int) < (x0.length : Int)
      refine wp_skip ?_
      refine hK8 _ _ ?_
      refine c_seq fun KhK11 hK11 => ?_
      refine wp_block ?_
      refine c_seq fun KhK12 hK12 => ?_
      refine c_reg ?_
      refine op_move (v := .slice a_x0 x0.length c_x0) rfl rfl rfl ?_
      refine op_move (v := .int .i64 (k : Int)) rfl rfl rfl ?_
      refine op_indexN (j := k) ty22 ty91 rfl rfl rfl rfl rfl (h_x0.mono (e5.tr M)) (by omega) fun ad13 cs14 u15 hx16 he17 ca18 => ?_
      obtain ⟨a_u15, c_u15, rfl, h_u15⟩ := he17
      have lh_u15 := h_u15.lt63
      refine op_field fld91_1 rfl rfl rfl ca18.spot ?_
      refine op_loadA (v := .slice a_u15 u15.Cols.length c_u15) ty89 rfl rfl rfl rfl ca18 rfl ?_
      refine op_len ty89 rfl rfl rfl ?_
      refine op_assign (v := .int .i64 (u15.Cols.length : Int)) rfl rfl rfl ?_
      refine wpList_nil ?_
      refine hK12 _ _ ?_
      refine c_seq fun KhK19 hK19 => ?_
      refine c_seq fun KhK20 hK20 => ?_
      refine c_reg ?_
      refine op_move (v := .slice a_x0 x0.length c_x0) rfl rfl rfl ?_
      refine op_move (v := .int .i64 (k : Int)) rfl rfl rfl ?_
      refine op_indexN (j := k) ty22 ty91 rfl rfl rfl rfl rfl (h_x0.mono (e5.tr M)) (by omega) fun ad21 cs22 u23 hx24 he25 ca26 => ?_
      obtain rfl : u15 = u23 := Option.some.inj (hx16.symm.trans hx24)
      obtain ⟨a_u23, c_u23, rfl, h_u23⟩ := he25
      have lh_u23 := h_u23.lt63
      refine op_field fld91_0 rfl rfl rfl ca26.spot ?_
      refine op_loadA (v := .string u15.Name) ty9 rfl rfl rfl rfl ca26 rfl ?_
      refine op_lenS ty9.und rfl rfl rfl ?_
      refine op_gtr rfl rfl rfl rfl ?_
      refine op_move (v := .bool (decide (30 < (u15.Name.size : Int)))) rfl rfl rfl ?_
      refine op_part 25 rfl (fun hb27 => ?_) (fun hb27 => ?_)
      · -- 30 < (u15.Name.size : Int)
        refine op_not rfl ?_
        refine op_not rfl ?_
        refine op_not rfl ?_
        refine op_not rfl ?_
        refine op_not rfl ?_
        refine op_not rfl ?_
        refine op_pickT (v := .bool true) rfl rfl rfl rfl ?_
        refine op_move (v := .bool true) rfl rfl rfl ?_
        refine op_not rfl ?_
        refine op_not rfl ?_
        refine op_pickT (v := .bool true) rfl rfl rfl rfl ?_
        refine wpList_nil ?_
        refine hK20 _ _ ?_
        refine c_ifT rfl rfl ?_
        refine c_seq fun KhK28 hK28 => ?_
        refine c_reg ?_
        refine op_assign (v := .bool false) rfl rfl rfl ?_
        refine wpList_nil ?_
        refine hK28 _ _ ?_
        refine wp_ret ?_
        have hr29 : false = (Pk.fewForms x0) := by rw [hi7]; simp [drop_of hx16, Pk.ffGo, Pk.ffIn, hi6, hb10, hx16, hb27]
        exact ret1 Try.results13 rfl ⟨congrArg Value.bool hr29, e5.old⟩
      · -- ¬ (30 < (u15.Name.size : Int))
        refine op_move (v := .int .i64 (u15.Cols.length : Int)) rfl rfl rfl ?_
        refine op_gtr rfl rfl rfl rfl ?_
        refine op_move (v := .bool (decide (6 < (u15.Cols.length : Int)))) rfl rfl rfl ?_
        refine op_part 28 rfl (fun hb30 => ?_) (fun hb30 => ?_)
        · -- 6 < (u15.Cols.length : Int)
          refine op_move (v := .int .i64 (u15.Cols.length : Int)) rfl rfl rfl ?_
          refine op_leq rfl rfl rfl rfl ?_
          refine op_pickT (v := .bool (decide ((u15.Cols.length : Int) ≤ 30))) rfl rfl rfl rfl ?_
          refine op_pickF (v := .bool (decide ((u15.Cols.length : Int) ≤ 30))) rfl rfl rfl rfl ?_
          refine op_move (v := .bool (decide ((u15.Cols.length : Int) ≤ 30))) rfl rfl rfl ?_
          refine op_part 33 rfl (fun hb31 => ?_) (fun hb31 => ?_)
          · -- (u15.Cols.length : Int) ≤ 30
            refine op_not rfl ?_
            refine op_not rfl ?_
            refine op_pickT (v := .bool true) rfl rfl rfl rfl ?_
            refine wpList_nil ?_
            refine hK20 _ _ ?_
            refine c_ifT rfl rfl ?_
            refine c_seq fun KhK32 hK32 => ?_
            refine c_reg ?_
            refine op_assign (v := .bool false) rfl rfl rfl ?_
            refine wpList_nil ?_
            refine hK32 _ _ ?_
            refine wp_ret ?_
            have hr33 : false = (Pk.fewForms x0) := by rw [hi7]; simp [drop_of hx16, Pk.ffGo, Pk.ffIn, hi6, hb10, hx16, hb27, hb30, hb31]
            exact ret1 Try.results13 rfl ⟨congrArg Value.bool hr33, e5.old⟩
          · -- ¬ ((u15.Cols.length : Int) ≤ 30)
            refine op_move (v := .int .i64 (u15.Cols.length : Int)) rfl rfl rfl ?_
            refine op_gtr rfl rfl rfl rfl ?_
            refine op_pickF (v := .bool (decide (40 < (u15.Cols.length : Int)))) rfl rfl rfl rfl ?_
            refine wpList_nil ?_
            refine hK20 _ _ ?_
            refine c_if rfl rfl (fun hb34 => ?_) (fun hb34 => ?_)
            · -- 40 < (u15.Cols.length : Int)
              refine c_seq fun KhK35 hK35 => ?_
              refine c_reg ?_
              refine op_assign (v := .bool false) rfl rfl rfl ?_
              refine wpList_nil ?_
              refine hK35 _ _ ?_
              refine wp_ret ?_
              have hr36 : false = (Pk.fewForms x0) := by rw [hi7]; simp [drop_of hx16, Pk.ffGo, Pk.ffIn, hi6, hb10, hx16, hb27, hb30, hb31, hb34]
              exact ret1 Try.results13 rfl ⟨congrArg Value.bool hr36, e5.old⟩
            · -- ¬ (40 < (u15.Cols.length : Int))
              refine wp_skip ?_
              refine hK19 _ _ ?_
              refine c_seq fun KhK37 hK37 => ?_
              refine c_reg ?_
              refine op_assign (v := .int .i64 0) rfl rfl rfl ?_
              refine wpList_nil ?_
              refine hK37 _ _ ?_
              refine wp_block ?_
              refine c_loop (X := Nat) [2, 5, 37, 38, 39, 40, 41, 42, 43, 44, 45, 46, 47, 48, 49, 50, 51, 52, 53, 54, 55, 56, 57, 58, 59, 60, 61, 62, 63, 64, 65] (fun j => [(5, .int .i64 (j : Int))]) (fun j w1 => (j ≤ u15.Cols.length) ∧ (Pk.fewForms x0 = if Pk.ffIn (u15.Cols.drop j) = true then Pk.ffGo x0 (x0.drop (k + 1)) else false) ∧ Evo [] w4 [] w1) (fun j => u15.Cols.length - j) (0) ⟨congrArg (Value.int .i64) (show 0 = ((0 : Nat) : Int) by omega), trivial⟩ ?_ ?_
              ·
                exact ⟨(by first | omega | simp), (by rw [hi7]; simp [drop_of hx16, Pk.ffGo, hi6, hb10, hx16, hb27, hb30, hb31, hb34]), Evo.refl _ _⟩
              ·
                rintro j τ w38 ⟨hi40, hi41, e39⟩
                refine c_seq fun KhK42 hK42 => ?_
                refine c_seq fun KhK43 hK43 => ?_
                refine c_reg ?_
                refine op_move (v := .int .i64 (j : Int)) rfl rfl rfl ?_
                refine op_move (v := .int .i64 (u15.Cols.length : Int)) rfl rfl rfl ?_
                refine op_lss rfl rfl rfl rfl ?_
                refine wpList_nil ?_
                refine hK43 _ _ ?_
                refine c_if rfl rfl (fun hb44 => ?_) (fun hb44 => ?_)
                · -- (j : Int) < (u15.Cols.length : Int)
                  refine wp_skip ?_
                  refine hK42 _ _ ?_
                  refine c_seq fun KhK45 hK45 => ?_
                  refine wp_block ?_
                  refine c_seq fun KhK46 hK46 => ?_
                  refine c_reg ?_
                  refine op_move (v := .slice a_x0 x0.length c_x0) rfl rfl rfl ?_
                  refine op_move (v := .int .i64 (k : Int)) rfl rfl rfl ?_
                  refine op_indexN (j := k) ty22 ty91 rfl rfl rfl rfl rfl (h_x0.mono ((e5.trans e39).tr M)) (by omega) fun ad47 cs48 u49 hx50 he51 ca52 => ?_
                  obtain rfl : u15 = u49 := Option.some.inj (hx16.symm.trans hx50)
                  obtain ⟨a_u49, c_u49, rfl, h_u49⟩ := he51
                  have lh_u49 := h_u49.lt63
                  refine op_field fld91_1 rfl rfl rfl ca52.spot ?_
                  refine op_loadA (v := .slice a_u49 u15.Cols.length c_u49) ty89 rfl rfl rfl rfl ca52 rfl ?_
                  refine op_move (v := .int .i64 (j : Int)) rfl rfl rfl ?_
                  refine op_indexN (j := j) ty89 ty93 rfl rfl rfl rfl rfl h_u49 (by omega) fun ad53 cs54 u55 hx56 he57 ca58 => ?_
                  obtain rfl := he57
                  refine op_field fld93_0 rfl rfl rfl ca58.spot ?_
                  refine op_loadA (v := .string u55.Name) ty9 rfl rfl rfl rfl ca58 rfl ?_
                  refine op_lenS ty9.und rfl rfl rfl ?_
                  refine op_gtr rfl rfl rfl rfl ?_
                  refine op_move (v := .bool (decide (30 < (u55.Name.size : Int)))) rfl rfl rfl ?_
                  refine op_part 53 rfl (fun hb59 => ?_) (fun hb59 => ?_)
                  · -- 30 < (u55.Name.size : Int)
                    refine op_not rfl ?_
                    refine op_not rfl ?_
                    refine op_not rfl ?_
                    refine op_not rfl ?_
                    refine op_not rfl ?_
                    refine op_not rfl ?_
                    refine op_not rfl ?_
                    refine op_not rfl ?_
                    refine op_not rfl ?_
                    refine op_not rfl ?_
                    refine op_not rfl ?_
                    refine op_pickT (v := .bool true) rfl rfl rfl rfl ?_
                    refine wpList_nil ?_
                    refine hK46 _ _ ?_
                    refine c_ifT rfl rfl ?_
                    refine c_seq fun KhK60 hK60 => ?_
                    refine c_reg ?_
                    refine op_assign (v := .bool false) rfl rfl rfl ?_
                    refine wpList_nil ?_
                    refine hK60 _ _ ?_
                    refine wp_ret ?_
                    have hr61 : false = (Pk.fewForms x0) := by rw [hi41]; simp [drop_of hx56, Pk.ffGo, Pk.ffIn, hi6, hb10, hx16, hb27, hb30, hb31, hb34, hi40, hb44, hx56, hb59]
                    exact ret1 Try.results13 rfl ⟨congrArg Value.bool hr61, (e5.trans e39).old⟩
                  · -- ¬ (30 < (u55.Name.size : Int))
                    refine op_move (v := .slice a_x0 x0.length c_x0) rfl rfl rfl ?_
                    refine op_move (v := .int .i64 (k : Int)) rfl rfl rfl ?_
                    refine op_indexN (j := k) ty22 ty91 rfl rfl rfl rfl rfl (h_x0.mono ((e5.trans e39).tr M)) (by omega) fun ad62 cs63 u64 hx65 he66 ca67 => ?_
                    obtain rfl : u15 = u64 := Option.some.inj (hx16.symm.trans hx65)
                    obtain ⟨a_u64, c_u64, rfl, h_u64⟩ := he66
                    have lh_u64 := h_u64.lt63
                    refine op_field fld91_1 rfl rfl rfl ca67.spot ?_
                    refine op_loadA (v := .slice a_u64 u15.Cols.length c_u64) ty89 rfl rfl rfl rfl ca67 rfl ?_
                    refine op_move (v := .int .i64 (j : Int)) rfl rfl rfl ?_
                    refine op_indexN (j := j) ty89 ty93 rfl rfl rfl rfl rfl h_u64 (by omega) fun ad68 cs69 u70 hx71 he72 ca73 => ?_
                    obtain rfl : u55 = u70 := Option.some.inj (hx56.symm.trans hx71)
                    obtain rfl := he72
                    refine op_field fld93_2 rfl rfl rfl ca73.spot ?_
                    refine op_loadA (v := .string u55.Class) ty9 rfl rfl rfl rfl ca73 rfl ?_
                    refine op_lenS ty9.und rfl rfl rfl ?_
                    refine op_gtr rfl rfl rfl rfl ?_
                    refine op_pickF (v := .bool (decide (30 < (u55.Class.size : Int)))) rfl rfl rfl rfl ?_
                    refine wpList_nil ?_
                    refine hK46 _ _ ?_
                    refine c_if rfl rfl (fun hb74 => ?_) (fun hb74 => ?_)
                    · -- 30 < (u55.Class.size : Int)
                      refine c_seq fun KhK75 hK75 => ?_
                      refine c_reg ?_
                      refine op_assign (v := .bool false) rfl rfl rfl ?_
                      refine wpList_nil ?_
                      refine hK75 _ _ ?_
                      refine wp_ret ?_
                      have hr76 : false = (Pk.fewForms x0) := by rw [hi41]; simp [drop_of hx56, Pk.ffGo, Pk.ffIn, hi6, hb10, hx16, hb27, hb30, hb31, hb34, hi40, hb44, hx56, hb59, hb74]
                      exact ret1 Try.results13 rfl ⟨congrArg Value.bool hr76, (e5.trans e39).old⟩
                    · -- ¬ (30 < (u55.Class.size : Int))
                      refine wp_skip ?_
                      refine hK45 _ _ ?_
                      refine c_reg ?_
                      refine op_move (v := .int .i64 (j : Int)) rfl rfl rfl ?_
                      refine op_add rfl rfl rfl rfl (by omega) ?_
                      refine op_assign (v := .int .i64 ((j : Int) + 1)) rfl rfl rfl ?_
                      refine wpList_nil ?_
                      repeat (with_reducible refine inBlock_normal ?_)
                      with_reducible refine then_normal ?_
                      exact ⟨(j + 1), (by first | omega | (dsimp only; omega)), ⟨(by first | omega | (simp only [List.length_append, List.length_cons, List.length_nil]; omega) | (rw [hi41]; simp [drop_of hx56, Pk.ffGo, Pk.ffIn, hi6, hb10, hx16, hb27, hb30, hb31, hb34, hi40, hb44, hx56, hb59, hb74])), (by rw [hi41]; simp [drop_of hx56, Pk.ffGo, Pk.ffIn, hi6, hb10, hx16, hb27, hb30, hb31, hb34, hi40, hb44, hx56, hb59, hb74]), (e39.drop (fun b hb => by simp [hb]))⟩, _, rfl, (by repeat first | exact agree.refl _ _ | refine agree.upd rfl ?_ | refine agree.upds rfl ?_ | refine agree.mix rfl ?_), ⟨congrArg (Value.int .i64) (show ((j : Int) + 1) = ((j + 1 : Nat) : Int) by omega), trivial⟩⟩
                · -- ¬ ((j : Int) < (u15.Cols.length : Int))
                  refine wp_exit ?_
                  refine hK11 _ _ ?_
                  refine c_reg ?_
                  refine op_move (v := .int .i64 (k : Int)) rfl rfl rfl ?_
                  refine op_add rfl rfl rfl rfl (by omega) ?_
                  refine op_assign (v := .int .i64 ((k : Int) + 1)) rfl rfl rfl ?_
                  refine wpList_nil ?_
                  repeat (with_reducible refine inBlock_normal ?_)
                  with_reducible refine then_normal ?_
                  exact ⟨(k + 1), (by first | omega | (dsimp only; omega)), ⟨(by first | omega | (simp only [List.length_append, List.length_cons, List.length_nil]; omega) | (rw [hi41]; simp [drop_end (l := u15.Cols) (k := j) (by first | omega | (rw [bytes_length]; omega)), Pk.ffGo, Pk.ffIn, hi6, hb10, hx16, hb27, hb30, hb31, hb34, hi40, hb44])), (by rw [hi41]; simp [drop_end (l := u15.Cols) (k := j) (by first | omega | (rw [bytes_length]; omega)), Pk.ffGo, Pk.ffIn, hi6, hb10, hx16, hb27, hb30, hb31, hb34, hi40, hb44]), ((e5.trans e39).drop (fun b hb => by simp [hb]))⟩, _, rfl, (by repeat first | exact agree.refl _ _ | refine agree.upd rfl ?_ | refine agree.upds rfl ?_ | refine agree.mix rfl ?_), ⟨congrArg (Value.int .i64) (show ((k : Int) + 1) = ((k + 1 : Nat) : Int) by omega), trivial⟩⟩
        · -- ¬ (6 < (u15.Cols.length : Int))
          refine op_not rfl ?_
          refine op_not rfl ?_
          refine op_pickF (v := .bool false) rfl rfl rfl rfl ?_
          refine op_pickF (v := .bool false) rfl rfl rfl rfl ?_
          refine op_move (v := .bool false) rfl rfl rfl ?_
          refine op_move (v := .int .i64 (u15.Cols.length : Int)) rfl rfl rfl ?_
          refine op_gtr rfl rfl rfl rfl ?_
          refine op_pickF (v := .bool (decide (40 < (u15.Cols.length : Int)))) rfl rfl rfl rfl ?_
          refine wpList_nil ?_
          refine hK20 _ _ ?_
          refine c_if rfl rfl (fun hb77 => ?_) (fun hb77 => ?_)
          · -- 40 < (u15.Cols.length : Int)
            refine c_seq fun KhK78 hK78 => ?_
            refine c_reg ?_
            refine op_assign (v := .bool false) rfl rfl rfl ?_
            refine wpList_nil ?_
            refine hK78 _ _ ?_
            refine wp_ret ?_
            have hr79 : false = (Pk.fewForms x0) := by rw [hi7]; simp [drop_of hx16, Pk.ffGo, Pk.ffIn, hi6, hb10, hx16, hb27, hb30, hb77]
            exact ret1 Try.results13 rfl ⟨congrArg Value.bool hr79, e5.old⟩
          · -- ¬ (40 < (u15.Cols.length : Int))
            refine wp_skip ?_
            refine hK19 _ _ ?_
            refine c_seq fun KhK80 hK80 => ?_
            refine c_reg ?_
            refine op_assign (v := .int .i64 0) rfl rfl rfl ?_
            refine wpList_nil ?_
            refine hK80 _ _ ?_
            refine wp_block ?_
            refine c_loop (X := Nat) [2, 5, 37, 38, 39, 40, 41, 42, 43, 44, 45, 46, 47, 48, 49, 50, 51, 52, 53, 54, 55, 56, 57, 58, 59, 60, 61, 62, 63, 64, 65] (fun j => [(5, .int .i64 (j : Int))]) (fun j w1 => (j ≤ u15.Cols.length) ∧ (Pk.fewForms x0 = if Pk.ffIn (u15.Cols.drop j) = true then Pk.ffGo x0 (x0.drop (k + 1)) else false) ∧ Evo [] w4 [] w1) (fun j => u15.Cols.length - j) (0) ⟨congrArg (Value.int .i64) (show 0 = ((0 : Nat) : Int) by omega), trivial⟩ ?_ ?_
            ·
              exact ⟨(by first | omega | simp), (by rw [hi7]; simp [drop_of hx16, Pk.ffGo, hi6, hb10, hx16, hb27, hb30, hb77]), Evo.refl _ _⟩
            ·
              rintro j τ w81 ⟨hi83, hi84, e82⟩
              refine c_seq fun KhK85 hK85 => ?_
              refine c_seq fun KhK86 hK86 => ?_
              refine c_reg ?_
              refine op_move (v := .int .i64 (j : Int)) rfl rfl rfl ?_
              refine op_move (v := .int .i64 (u15.Cols.length : Int)) rfl rfl rfl ?_
              refine op_lss rfl rfl rfl rfl ?_
              refine wpList_nil ?_
              refine hK86 _ _ ?_
              refine c_if rfl rfl (fun hb87 => ?_) (fun hb87 => ?_)
              · -- (j : Int) < (u15.Cols.length : Int)
                refine wp_skip ?_
                refine hK85 _ _ ?_
                refine c_seq fun KhK88 hK88 => ?_
                refine wp_block ?_
                refine c_seq fun KhK89 hK89 => ?_
                refine c_reg ?_
                refine op_move (v := .slice a_x0 x0.length c_x0) rfl rfl rfl ?_
                refine op_move (v := .int .i64 (k : Int)) rfl rfl rfl ?_
                refine op_indexN (j := k) ty22 ty91 rfl rfl rfl rfl rfl (h_x0.mono ((e5.trans e82).tr M)) (by omega) fun ad90 cs91 u92 hx93 he94 ca95 => ?_
                obtain rfl : u15 = u92 := Option.some.inj (hx16.symm.trans hx93)
                obtain ⟨a_u92, c_u92, rfl, h_u92⟩ := he94
                have lh_u92 := h_u92.lt63
                refine op_field fld91_1 rfl rfl rfl ca95.spot ?_
                refine op_loadA (v := .slice a_u92 u15.Cols.length c_u92) ty89 rfl rfl rfl rfl ca95 rfl ?_
                refine op_move (v := .int .i64 (j : Int)) rfl rfl rfl ?_
                refine op_indexN (j := j) ty89 ty93 rfl rfl rfl rfl rfl h_u92 (by omega) fun ad96 cs97 u98 hx99 he100 ca101 => ?_
                obtain rfl := he100
                refine op_field fld93_0 rfl rfl rfl ca101.spot ?_
                refine op_loadA (v := .string u98.Name) ty9 rfl rfl rfl rfl ca101 rfl ?_
                refine op_lenS ty9.und rfl rfl rfl ?_
                refine op_gtr rfl rfl rfl rfl ?_
                refine op_move (v := .bool (decide (30 < (u98.Name.size : Int)))) rfl rfl rfl ?_
                refine op_part 53 rfl (fun hb102 => ?_) (fun hb102 => ?_)
                · -- 30 < (u98.Name.size : Int)
                  refine op_not rfl ?_
                  refine op_not rfl ?_
                  refine op_not rfl ?_
                  refine op_not rfl ?_
                  refine op_not rfl ?_
                  refine op_not rfl ?_
                  refine op_not rfl ?_
                  refine op_not rfl ?_
                  refine op_not rfl ?_
                  refine op_not rfl ?_
                  refine op_not rfl ?_
                  refine op_pickT (v := .bool true) rfl rfl rfl rfl ?_
                  refine wpList_nil ?_
                  refine hK89 _ _ ?_
                  refine c_ifT rfl rfl ?_
                  refine c_seq fun KhK103 hK103 => ?_
                  refine c_reg ?_
                  refine op_assign (v := .bool false) rfl rfl rfl ?_
                  refine wpList_nil ?_
                  refine hK103 _ _ ?_
                  refine wp_ret ?_
                  have hr104 : false = (Pk.fewForms x0) := by rw [hi84]; simp [drop_of hx99, Pk.ffGo, Pk.ffIn, hi6, hb10, hx16, hb27, hb30, hb77, hi83, hb87, hx99, hb102]
                  exact ret1 Try.results13 rfl ⟨congrArg Value.bool hr104, (e5.trans e82).old⟩
                · -- ¬ (30 < (u98.Name.size : Int))
                  refine op_move (v := .slice a_x0 x0.length c_x0) rfl rfl rfl ?_
                  refine op_move (v := .int .i64 (k : Int)) rfl rfl rfl ?_
                  refine op_indexN (j := k) ty22 ty91 rfl rfl rfl rfl rfl (h_x0.mono ((e5.trans e82).tr M)) (by omega) fun ad105 cs106 u107 hx108 he109 ca110 => ?_
                  obtain rfl : u15 = u107 := Option.some.inj (hx16.symm.trans hx108)
                  obtain ⟨a_u107, c_u107, rfl, h_u107⟩ := he109
                  have lh_u107 := h_u107.lt63
                  refine op_field fld91_1 rfl rfl rfl ca110.spot ?_
                  refine op_loadA (v := .slice a_u107 u15.Cols.length c_u107) ty89 rfl rfl rfl rfl ca110 rfl ?_
                  refine op_move (v := .int .i64 (j : Int)) rfl rfl rfl ?_
                  refine op_indexN (j := j) ty89 ty93 rfl rfl rfl rfl rfl h_u107 (by omega) fun ad111 cs112 u113 hx114 he115 ca116 => ?_
                  obtain rfl : u98 = u113 := Option.some.inj (hx99.symm.trans hx114)
                  obtain rfl := he115
                  refine op_field fld93_2 rfl rfl rfl ca116.spot ?_
                  refine op_loadA (v := .string u98.Class) ty9 rfl rfl rfl rfl ca116 rfl ?_
                  refine op_lenS ty9.und rfl rfl rfl ?_
                  refine op_gtr rfl rfl rfl rfl ?_
                  refine op_pickF (v := .bool (decide (30 < (u98.Class.size : Int)))) rfl rfl rfl rfl ?_
                  refine wpList_nil ?_
                  refine hK89 _ _ ?_
                  refine c_if rfl rfl (fun hb117 => ?_) (fun hb117 => ?_)
                  · -- 30 < (u98.Class.size : Int)
                    refine c_seq fun KhK118 hK118 => ?_
                    refine c_reg ?_
                    refine op_assign (v := .bool false) rfl rfl rfl ?_
                    refine wpList_nil ?_
                    refine hK118 _ _ ?_
                    refine wp_ret ?_
                    have hr119 : false = (Pk.fewForms x0) := by rw [hi84]; simp [drop_of hx99, Pk.ffGo, Pk.ffIn, hi6, hb10, hx16, hb27, hb30, hb77, hi83, hb87, hx99, hb102, hb117]
                    exact ret1 Try.results13 rfl ⟨congrArg Value.bool hr119, (e5.trans e82).old⟩
                  · -- ¬ (30 < (u98.Class.size : Int))
                    refine wp_skip ?_
                    refine hK88 _ _ ?_
                    refine c_reg ?_
                    refine op_move (v := .int .i64 (j : Int)) rfl rfl rfl ?_
                    refine op_add rfl rfl rfl rfl (by omega) ?_
                    refine op_assign (v := .int .i64 ((j : Int) + 1)) rfl rfl rfl ?_
                    refine wpList_nil ?_
                    repeat (with_reducible refine inBlock_normal ?_)
                    with_reducible refine then_normal ?_
                    exact ⟨(j + 1), (by first | omega | (dsimp only; omega)), ⟨(by first | omega | (simp only [List.length_append, List.length_cons, List.length_nil]; omega) | (rw [hi84]; simp [drop_of hx99, Pk.ffGo, Pk.ffIn, hi6, hb10, hx16, hb27, hb30, hb77, hi83, hb87, hx99, hb102, hb117])), (by rw [hi84]; simp [drop_of hx99, Pk.ffGo, Pk.ffIn, hi6, hb10, hx16, hb27, hb30, hb77, hi83, hb87, hx99, hb102, hb117]), (e82.drop (fun b hb => by simp [hb]))⟩, _, rfl, (by repeat first | exact agree.refl _ _ | refine agree.upd rfl ?_ | refine agree.upds rfl ?_ | refine agree.mix rfl ?_), ⟨congrArg (Value.int .i64) (show ((j : Int) + 1) = ((j + 1 : Nat) : Int) by omega), trivial⟩⟩
              · -- ¬ ((j : Int) < (u15.Cols.length : Int))
                refine wp_exit ?_
                refine hK11 _ _ ?_
                refine c_reg ?_
                refine op_move (v := .int .i64 (k : Int)) rfl rfl rfl ?_
                refine op_add rfl rfl rfl rfl (by omega) ?_
                refine op_assign (v := .int .i64 ((k : Int) + 1)) rfl rfl rfl ?_
                refine wpList_nil ?_
                repeat (with_reducible refine inBlock_normal ?_)
                with_reducible refine then_normal ?_
                exact ⟨(k + 1), (by first | omega | (dsimp only; omega)), ⟨(by first | omega | (simp only [List.length_append, List.length_cons, List.length_nil]; omega) | (rw [hi84]; simp [drop_end (l := u15.Cols) (k := j) (by first | omega | (rw [bytes_length]; omega)), Pk.ffGo, Pk.ffIn, hi6, hb10, hx16, hb27, hb30, hb77, hi83, hb87])), (by rw [hi84]; simp [drop_end (l := u15.Cols) (k := j) (by first | omega | (rw [bytes_length]; omega)), Pk.ffGo, Pk.ffIn, hi6, hb10, hx16, hb27, hb30, hb77, hi83, hb87]), ((e5.trans e82).drop (fun b hb => by simp [hb]))⟩, _, rfl, (by repeat first | exact agree.refl _ _ | refine agree.upd rfl ?_ | refine agree.upds rfl ?_ | refine agree.mix rfl ?_), ⟨congrArg (Value.int .i64) (show ((k : Int) + 1) = ((k + 1 : Nat) : Int) by omega), trivial⟩⟩
    · -- ¬ ((k : Int) < (x0.length : Int))
      refine wp_exit ?_
      refine hK2 _ _ ?_
      refine c_seq fun KhK120 hK120 => ?_
      refine c_reg ?_
      refine op_move (v := .slice a_x0 x0.length c_x0) rfl rfl rfl ?_
      refine op_len ty22 rfl rfl rfl ?_
      refine op_leq rfl rfl rfl rfl ?_
      refine op_move (v := .bool (decide ((x0.length : Int) ≤ 6))) rfl rfl rfl ?_
      refine op_part 69 rfl (fun hb121 => ?_) (fun hb121 => ?_)
      · -- (x0.length : Int) ≤ 6
        refine op_not rfl ?_
        refine op_not rfl ?_
        refine op_not rfl ?_
        refine op_not rfl ?_
        refine op_not rfl ?_
        refine op_not rfl ?_
        refine op_not rfl ?_
        refine op_not rfl ?_
        refine op_pickT (v := .bool true) rfl rfl rfl rfl ?_
        refine op_assign (v := .bool true) rfl rfl rfl ?_
        refine wpList_nil ?_
        refine hK120 _ _ ?_
        refine wp_ret ?_
        have hr122 : true = (Pk.fewForms x0) := by rw [hi7]; simp [drop_end (l := x0) (k := k) (by first | omega | (rw [bytes_length]; omega)), Pk.ffGo, Pk.ffIn, hi6, hb10, hb121]
        exact ret1 Try.results13 rfl ⟨congrArg Value.bool hr122, e5.old⟩
      · -- ¬ ((x0.length : Int) ≤ 6)
        refine op_move (v := .slice a_x0 x0.length c_x0) rfl rfl rfl ?_
        refine op_len ty22 rfl rfl rfl ?_
        refine op_gtr rfl rfl rfl rfl ?_
        refine op_move (v := .bool (decide (24 < (x0.length : Int)))) rfl rfl rfl ?_
        refine op_part 73 rfl (fun hb123 => ?_) (fun hb123 => ?_)
        · -- 24 < (x0.length : Int)
          refine op_move (v := .slice a_x0 x0.length c_x0) rfl rfl rfl ?_
          refine op_len ty22 rfl rfl rfl ?_
          refine op_leq rfl rfl rfl rfl ?_
          refine op_pickT (v := .bool (decide ((x0.length : Int) ≤ 30))) rfl rfl rfl rfl ?_
          refine op_pickF (v := .bool (decide ((x0.length : Int) ≤ 30))) rfl rfl rfl rfl ?_
          refine op_assign (v := .bool (decide ((x0.length : Int) ≤ 30))) rfl rfl rfl ?_
          refine wpList_nil ?_
          refine hK120 _ _ ?_
          refine wp_ret ?_
          have hr124 : (decide ((x0.length : Int) ≤ 30)) = (Pk.fewForms x0) := by rw [hi7]; simp [drop_end (l := x0) (k := k) (by first | omega | (rw [bytes_length]; omega)), Pk.ffGo, Pk.ffIn, hi6, hb10, hb121, hb123]
          exact ret1 Try.results13 rfl ⟨congrArg Value.bool hr124, e5.old⟩
        · -- ¬ (24 < (x0.length : Int))
          refine op_not rfl ?_
          refine op_not rfl ?_
          refine op_not rfl ?_
          refine op_pickF (v := .bool false) rfl rfl rfl rfl ?_
          refine op_pickF (v := .bool false) rfl rfl rfl rfl ?_
          refine op_assign (v := .bool false) rfl rfl rfl ?_
          refine wpList_nil ?_
          refine hK120 _ _ ?_
          refine wp_ret ?_
          have hr125 : false = (Pk.fewForms x0) := by rw [hi7]; simp [drop_end (l := x0) (k := k) (by first | omega | (rw [bytes_length]; omega)), Pk.ffGo, Pk.ffIn, hi6, hb10, hb121, hb123]
          exact ret1 Try.results13 rfl ⟨congrArg Value.bool hr125, e5.old⟩
set_option maxHeartbeats 1000000 in
theorem c14 {M : List Nat} {w : World} {x0 : Pk.Graph} {a1_x0 : Option Addr} {c1_x0 : Nat} {a2_x0 : Option Addr} {c2_x0 : Nat} (hM : Lo M w) (h1_x0 : SL M w a1_x0 c1_x0 x0.Nodes) (h2_x0 : SL M w a2_x0 c2_x0 x0.Roots) : Calls Try.prog 14 #[.agg #[.slice a1_x0 x0.Nodes.length c1_x0, .slice a2_x0 x0.Roots.length c2_x0]] w (Ret fun v w' => v = .bool (Pk.few x0) ∧ Upd [] w w') := by
  have lh1_x0 := h1_x0.lt63
  have lh2_x0 := h2_x0.lt63
  refine enter (l := [.agg #[.slice a1_x0 x0.Nodes.length c1_x0, .slice a2_x0 x0.Roots.length c2_x0]]) Try.func14 rfl Try.ntmps14 rfl ?_
  refine c_seq fun KhK1 hK1 => ?_
  refine c_reg ?_
  refine op_box (v := .agg #[.slice a1_x0 x0.Nodes.length c1_x0, .slice a2_x0 x0.Roots.length c2_x0]) (zs := [.slice a1_x0 x0.Nodes.length c1_x0, .slice a2_x0 x0.Roots.length c2_x0]) rfl rfl rfl rfl fun β2 w3 hβ4 u5 hz6 hx7 => ?_
  have e8 := u5.evoN (m := []) hβ4 hz6
  refine op_assign (v := .bool false) rfl rfl rfl ?_
  refine wpList_nil ?_
  refine hK1 _ _ ?_
  refine c_seq fun KhK9 hK9 => ?_
  refine c_reg ?_
  refine op_fieldB fld26_0 rfl rfl rfl ?_
  refine op_loadB (v := .slice a1_x0 x0.Nodes.length c1_x0) ty23 rfl rfl rfl rfl hx7 rfl ?_
  refine op_len ty23 rfl rfl rfl ?_
  refine op_assign (v := .int .i64 (x0.Nodes.length : Int)) rfl rfl rfl ?_
  refine wpList_nil ?_
  refine hK9 _ _ ?_
  refine c_seq fun KhK10 hK10 => ?_
  refine c_seq fun KhK11 hK11 => ?_
  refine c_reg ?_
  refine op_assign (v := .int .i64 0) rfl rfl rfl ?_
  refine wpList_nil ?_
  refine hK11 _ _ ?_
  refine wp_block ?_
  refine c_loop (X := Nat) [2, 4, 5, 10, 11, 12, 13, 14, 15, 16, 17, 18, 19, 20, 21, 22, 23, 24, 25, 26, 27, 28, 29, 30, 31] (fun k => [(4, .int .i64 (k : Int))]) (fun k w1 => (k ≤ x0.Nodes.length) ∧ (Pk.few x0 = Pk.fewGo x0 (x0.Nodes.drop k)) ∧ Evo (β2 :: []) w3 (β2 :: []) w1 ∧ Box w1 β2 [.slice a1_x0 x0.Nodes.length c1_x0, .slice a2_x0 x0.Roots.length c2_x0]) (fun k => x0.Nodes.length - k) (0) ⟨congrArg (Value.int .i64) (show 0 = ((0 : Nat) : Int) by omega), trivial⟩ ?_ ?_
  ·
    exact ⟨(by first | omega | simp), (by simp [Pk.few]), Evo.refl _ _, hx7⟩
  ·
    rintro k τ w12 ⟨hi14, hi15, e13, hx7⟩
    refine c_seq fun KhK16 hK16 => ?_
    refine c_seq fun KhK17 hK17 => ?_
    refine c_reg ?_
    refine op_move (v := .int .i64 (k : Int)) rfl rfl rfl ?_
    refine op_move (v := .int .i64 (x0.Nodes.length : Int)) rfl rfl rfl ?_
    refine op_lss rfl rfl rfl rfl ?_
    refine wpList_nil ?_
    refine hK17 _ _ ?_
    refine c_if rfl rfl (fun hb18 => ?_) (fun hb18 => ?_)
    · -- (k : Int) < (x0.Nodes.length : Int)
      refine wp_skip ?_
      refine hK16 _ _ ?_
      refine c_seq fun KhK19 hK19 => ?_
      refine wp_block ?_
      refine c_seq fun KhK20 hK20 => ?_
      refine c_reg ?_
      refine op_fieldB fld26_0 rfl rfl rfl ?_
      refine op_loadB (v := .slice a1_x0 x0.Nodes.length c1_x0) ty23 rfl rfl rfl rfl hx7 rfl ?_
      refine op_move (v := .int .i64 (k : Int)) rfl rfl rfl ?_
      refine op_indexN (j := k) ty23 ty49 rfl rfl rfl rfl rfl (h1_x0.mono ((e8.trans e13).tr M)) (by omega) fun ad21 cs22 u23 hx24 he25 ca26 => ?_
      obtain ⟨a_u23, c_u23, rfl, h_u23⟩ := he25
      have lh_u23 := h_u23.lt63
      refine op_field fld49_1 rfl rfl rfl ca26.spot ?_
      refine op_loadA (v := .slice a_u23 u23.Vals.length c_u23) ty24 rfl rfl rfl rfl ca26 rfl ?_
      refine op_len ty24 rfl rfl rfl ?_
      refine op_assign (v := .int .i64 (u23.Vals.length : Int)) rfl rfl rfl ?_
      refine wpList_nil ?_
      refine hK20 _ _ ?_
      refine c_seq fun KhK27 hK27 => ?_
      refine c_reg ?_
      refine op_move (v := .int .i64 (u23.Vals.length : Int)) rfl rfl rfl ?_
      refine op_gtr rfl rfl rfl rfl ?_
      refine op_move (v := .bool (decide (8 < (u23.Vals.length : Int)))) rfl rfl rfl ?_
      refine op_part 24 rfl (fun hb28 => ?_) (fun hb28 => ?_)
      · -- 8 < (u23.Vals.length : Int)
        refine op_move (v := .int .i64 (u23.Vals.length : Int)) rfl rfl rfl ?_
        refine op_leq rfl rfl rfl rfl ?_
        refine op_pickT (v := .bool (decide ((u23.Vals.length : Int) ≤ 30))) rfl rfl rfl rfl ?_
        refine op_move (v := .bool (decide ((u23.Vals.length : Int) ≤ 30))) rfl rfl rfl ?_
        refine op_part 28 rfl (fun hb29 => ?_) (fun hb29 => ?_)
        · -- (u23.Vals.length : Int) ≤ 30
          refine op_not rfl ?_
          refine op_not rfl ?_
          refine op_pickT (v := .bool true) rfl rfl rfl rfl ?_
          refine wpList_nil ?_
          refine hK27 _ _ ?_
          refine c_ifT rfl rfl ?_
          refine c_seq fun KhK30 hK30 => ?_
          refine c_reg ?_
          refine op_assign (v := .bool false) rfl rfl rfl ?_
          refine wpList_nil ?_
          refine hK30 _ _ ?_
          refine wp_ret ?_
          have hr31 : false = (Pk.few x0) := by rw [hi15]; simp [drop_of hx24, Pk.fewGo, hi14, hb18, hx24, hb28, hb29]
          exact ret1 Try.results14 rfl ⟨congrArg Value.bool hr31, (e8.trans e13).old⟩
        · -- ¬ ((u23.Vals.length : Int) ≤ 30)
          refine op_move (v := .int .i64 (u23.Vals.length : Int)) rfl rfl rfl ?_
          refine op_gtr rfl rfl rfl rfl ?_
          refine op_pickF (v := .bool (decide (40 < (u23.Vals.length : Int)))) rfl rfl rfl rfl ?_
          refine wpList_nil ?_
          refine hK27 _ _ ?_
          refine c_if rfl rfl (fun hb32 => ?_) (fun hb32 => ?_)
          · -- 40 < (u23.Vals.length : Int)
            refine c_seq fun KhK33 hK33 => ?_
            refine c_reg ?_
            refine op_assign (v := .bool false) rfl rfl rfl ?_
            refine wpList_nil ?_
            refine hK33 _ _ ?_
            refine wp_ret ?_
            have hr34 : false = (Pk.few x0) := by rw [hi15]; simp [drop_of hx24, Pk.fewGo, hi14, hb18, hx24, hb28, hb29, hb32]
            exact ret1 Try.results14 rfl ⟨congrArg Value.bool hr34, (e8.trans e13).old⟩
          · -- ¬ (40 < (u23.Vals.length : Int))
            refine wp_skip ?_
            refine hK19 _ _ ?_
            refine c_reg ?_
            refine op_move (v := .int .i64 (k : Int)) rfl rfl rfl ?_
            refine op_add rfl rfl rfl rfl (by omega) ?_
            refine op_assign (v := .int .i64 ((k : Int) + 1)) rfl rfl rfl ?_
            refine wpList_nil ?_
            repeat (with_reducible refine inBlock_normal ?_)
            with_reducible refine then_normal ?_
            exact ⟨(k + 1), (by first | omega | (dsimp only; omega)), ⟨(by first | omega | (simp only [List.length_append, List.length_cons, List.length_nil]; omega) | (rw [hi15]; simp [drop_of hx24, Pk.fewGo, hi14, hb18, hx24, hb28, hb29, hb32])), (by rw [hi15]; simp [drop_of hx24, Pk.fewGo, hi14, hb18, hx24, hb28, hb29, hb32]), (e13.drop (fun b hb => by simp [hb])), hx7⟩, _, rfl, (by repeat first | exact agree.refl _ _ | refine agree.upd rfl ?_ | refine agree.upds rfl ?_ | refine agree.mix rfl ?_), ⟨congrArg (Value.int .i64) (show ((k : Int) + 1) = ((k + 1 : Nat) : Int) by omega), trivial⟩⟩
      · -- ¬ (8 < (u23.Vals.length : Int))
        refine op_not rfl ?_
        refine op_not rfl ?_
        refine op_pickF (v := .bool false) rfl rfl rfl rfl ?_
        refine op_move (v := .bool false) rfl rfl rfl ?_
        refine op_move (v := .int .i64 (u23.Vals.length : Int)) rfl rfl rfl ?_
        refine op_gtr rfl rfl rfl rfl ?_
        refine op_pickF (v := .bool (decide (40 < (u23.Vals.length : Int)))) rfl rfl rfl rfl ?_
        refine wpList_nil ?_
        refine hK27 _ _ ?_
        refine c_if rfl rfl (fun hb35 => ?_) (fun hb35 => ?_)
        · -- 40 < (u23.Vals.length : Int)
          refine c_seq fun KhK36 hK36 => ?_
          refine c_reg ?_
          refine op_assign (v := .bool false) rfl rfl rfl ?_
          refine wpList_nil ?_
          refine hK36 _ _ ?_
          refine wp_ret ?_
          have hr37 : false = (Pk.few x0) := by rw [hi15]; simp [drop_of hx24, Pk.fewGo, hi14, hb18, hx24, hb28, hb35]
          exact ret1 Try.results14 rfl ⟨congrArg Value.bool hr37, (e8.trans e13).old⟩
        · -- ¬ (40 < (u23.Vals.length : Int))
          refine wp_skip ?_
          refine hK19 _ _ ?_
          refine c_reg ?_
          refine op_move (v := .int .i64 (k : Int)) rfl rfl rfl ?_
          refine op_add rfl rfl rfl rfl (by omega) ?_
          refine op_assign (v := .int .i64 ((k : Int) + 1)) rfl rfl rfl ?_
          refine wpList_nil ?_
          repeat (with_reducible refine inBlock_normal ?_)
          with_reducible refine then_normal ?_
          exact ⟨(k + 1), (by first | omega | (dsimp only; omega)), ⟨(by first | omega | (simp only [List.length_append, List.length_cons, List.length_nil]; omega) | (rw [hi15]; simp [drop_of hx24, Pk.fewGo, hi14, hb18, hx24, hb28, hb35])), (by rw [hi15]; simp [drop_of hx24, Pk.fewGo, hi14, hb18, hx24, hb28, hb35]), (e13.drop (fun b hb => by simp [hb])), hx7⟩, _, rfl, (by repeat first | exact agree.refl _ _ | refine agree.upd rfl ?_ | refine agree.upds rfl ?_ | refine agree.mix rfl ?_), ⟨congrArg (Value.int .i64) (show ((k : Int) + 1) = ((k + 1 : Nat) : Int) by omega), trivial⟩⟩
    · -- ¬ ((k : Int) < (x0.Nodes.length : Int))
      refine wp_exit ?_
      refine hK10 _ _ ?_
      refine c_seq fun KhK38 hK38 => ?_
      refine c_reg ?_
      refine op_fieldB fld26_1 rfl rfl rfl ?_
      refine op_loadB (v := .slice a2_x0 x0.Roots.length c2_x0) ty24 rfl rfl rfl rfl hx7 rfl ?_
      refine op_len ty24 rfl rfl rfl ?_
      refine op_assign (v := .int .i64 (x0.Roots.length : Int)) rfl rfl rfl ?_
      refine wpList_nil ?_
      refine hK38 _ _ ?_
      refine c_seq fun KhK39 hK39 => ?_
      refine c_reg ?_
      refine op_move (v := .int .i64 (x0.Nodes.length : Int)) rfl rfl rfl ?_
      refine op_leq rfl rfl rfl rfl ?_
      refine op_move (v := .bool (decide ((x0.Nodes.length : Int) ≤ 30))) rfl rfl rfl ?_
      refine op_part 37 rfl (fun hb40 => ?_) (fun hb40 => ?_)
      · -- (x0.Nodes.length : Int) ≤ 30
        refine op_not rfl ?_
        refine op_not rfl ?_
        refine op_not rfl ?_
        refine op_not rfl ?_
        refine op_not rfl ?_
        refine op_not rfl ?_
        refine op_pickT (v := .bool true) rfl rfl rfl rfl ?_
        refine op_move (v := .bool true) rfl rfl rfl ?_
        refine op_move (v := .int .i64 (x0.Roots.length : Int)) rfl rfl rfl ?_
        refine op_leq rfl rfl rfl rfl ?_
        refine op_move (v := .bool (decide ((x0.Roots.length : Int) ≤ 10))) rfl rfl rfl ?_
        refine op_part 48 rfl (fun hb41 => ?_) (fun hb41 => ?_)
        · -- (x0.Roots.length : Int) ≤ 10
          refine op_not rfl ?_
          refine op_not rfl ?_
          refine op_not rfl ?_
          refine op_not rfl ?_
          refine op_not rfl ?_
          refine op_not rfl ?_
          refine op_pickT (v := .bool true) rfl rfl rfl rfl ?_
          refine op_pickT (v := .bool true) rfl rfl rfl rfl ?_
          refine op_assign (v := .bool true) rfl rfl rfl ?_
          refine wpList_nil ?_
          refine hK39 _ _ ?_
          refine wp_ret ?_
          have hr42 : true = (Pk.few x0) := by rw [hi15]; simp [drop_end (l := x0.Nodes) (k := k) (by first | omega | (rw [bytes_length]; omega)), Pk.fewGo, hi14, hb18, hb40, hb41]
          exact ret1 Try.results14 rfl ⟨congrArg Value.bool hr42, (e8.trans e13).old⟩
        · -- ¬ ((x0.Roots.length : Int) ≤ 10)
          refine op_move (v := .int .i64 (x0.Roots.length : Int)) rfl rfl rfl ?_
          refine op_gtr rfl rfl rfl rfl ?_
          refine op_move (v := .bool (decide (60 < (x0.Roots.length : Int)))) rfl rfl rfl ?_
          refine op_part 51 rfl (fun hb43 => ?_) (fun hb43 => ?_)
          · -- 60 < (x0.Roots.length : Int)
            refine op_move (v := .int .i64 (x0.Roots.length : Int)) rfl rfl rfl ?_
            refine op_leq rfl rfl rfl rfl ?_
            refine op_pickT (v := .bool (decide ((x0.Roots.length : Int) ≤ 70))) rfl rfl rfl rfl ?_
            refine op_pickF (v := .bool (decide ((x0.Roots.length : Int) ≤ 70))) rfl rfl rfl rfl ?_
            refine op_pickT (v := .bool (decide ((x0.Roots.length : Int) ≤ 70))) rfl rfl rfl rfl ?_
            refine op_assign (v := .bool (decide ((x0.Roots.length : Int) ≤ 70))) rfl rfl rfl ?_
            refine wpList_nil ?_
            refine hK39 _ _ ?_
            refine wp_ret ?_
            have hr44 : (decide ((x0.Roots.length : Int) ≤ 70)) = (Pk.few x0) := by rw [hi15]; simp [drop_end (l := x0.Nodes) (k := k) (by first | omega | (rw [bytes_length]; omega)), Pk.fewGo, hi14, hb18, hb40, hb41, hb43]
            exact ret1 Try.results14 rfl ⟨congrArg Value.bool hr44, (e8.trans e13).old⟩
          · -- ¬ (60 < (x0.Roots.length : Int))
            refine op_not rfl ?_
            refine op_not rfl ?_
            refine op_pickF (v := .bool false) rfl rfl rfl rfl ?_
            refine op_pickF (v := .bool false) rfl rfl rfl rfl ?_
            refine op_pickT (v := .bool false) rfl rfl rfl rfl ?_
            refine op_assign (v := .bool false) rfl rfl rfl ?_
            refine wpList_nil ?_
            refine hK39 _ _ ?_
            refine wp_ret ?_
            have hr45 : false = (Pk.few x0) := by rw [hi15]; simp [drop_end (l := x0.Nodes) (k := k) (by first | omega | (rw [bytes_length]; omega)), Pk.fewGo, hi14, hb18, hb40, hb41, hb43]
            exact ret1 Try.results14 rfl ⟨congrArg Value.bool hr45, (e8.trans e13).old⟩
      · -- ¬ ((x0.Nodes.length : Int) ≤ 30)
        refine op_move (v := .int .i64 (x0.Nodes.length : Int)) rfl rfl rfl ?_
        refine op_gtr rfl rfl rfl rfl ?_
        refine op_move (v := .bool (decide (400 < (x0.Nodes.length : Int)))) rfl rfl rfl ?_
        refine op_part 40 rfl (fun hb46 => ?_) (fun hb46 => ?_)
        · -- 400 < (x0.Nodes.length : Int)
          refine op_move (v := .int .i64 (x0.Nodes.length : Int)) rfl rfl rfl ?_
          refine op_leq rfl rfl rfl rfl ?_
          refine op_pickT (v := .bool (decide ((x0.Nodes.length : Int) ≤ 410))) rfl rfl rfl rfl ?_
          refine op_pickF (v := .bool (decide ((x0.Nodes.length : Int) ≤ 410))) rfl rfl rfl rfl ?_
          refine op_move (v := .bool (decide ((x0.Nodes.length : Int) ≤ 410))) rfl rfl rfl ?_
          refine op_part 45 rfl (fun hb47 => ?_) (fun hb47 => ?_)
          · -- (x0.Nodes.length : Int) ≤ 410
            refine op_move (v := .int .i64 (x0.Roots.length : Int)) rfl rfl rfl ?_
            refine op_leq rfl rfl rfl rfl ?_
            refine op_move (v := .bool (decide ((x0.Roots.length : Int) ≤ 10))) rfl rfl rfl ?_
            refine op_part 48 rfl (fun hb48 => ?_) (fun hb48 => ?_)
            · -- (x0.Roots.length : Int) ≤ 10
              refine op_not rfl ?_
              refine op_not rfl ?_
              refine op_not rfl ?_
              refine op_not rfl ?_
              refine op_not rfl ?_
              refine op_not rfl ?_
              refine op_pickT (v := .bool true) rfl rfl rfl rfl ?_
              refine op_pickT (v := .bool true) rfl rfl rfl rfl ?_
              refine op_assign (v := .bool true) rfl rfl rfl ?_
              refine wpList_nil ?_
              refine hK39 _ _ ?_
              refine wp_ret ?_
              have hr49 : true = (Pk.few x0) := by rw [hi15]; simp [drop_end (l := x0.Nodes) (k := k) (by first | omega | (rw [bytes_length]; omega)), Pk.fewGo, hi14, hb18, hb40, hb46, hb47, hb48]
              exact ret1 Try.results14 rfl ⟨congrArg Value.bool hr49, (e8.trans e13).old⟩
            · -- ¬ ((x0.Roots.length : Int) ≤ 10)
              refine op_move (v := .int .i64 (x0.Roots.length : Int)) rfl rfl rfl ?_
              refine op_gtr rfl rfl rfl rfl ?_
              refine op_move (v := .bool (decide (60 < (x0.Roots.length : Int)))) rfl rfl rfl ?_
              refine op_part 51 rfl (fun hb50 => ?_) (fun hb50 => ?_)
              · -- 60 < (x0.Roots.length : Int)
                refine op_move (v := .int .i64 (x0.Roots.length : Int)) rfl rfl rfl ?_
                refine op_leq rfl rfl rfl rfl ?_
                refine op_pickT (v := .bool (decide ((x0.Roots.length : Int) ≤ 70))) rfl rfl rfl rfl ?_
                refine op_pickF (v := .bool (decide ((x0.Roots.length : Int) ≤ 70))) rfl rfl rfl rfl ?_
                refine op_pickT (v := .bool (decide ((x0.Roots.length : Int) ≤ 70))) rfl rfl rfl rfl ?_
                refine op_assign (v := .bool (decide ((x0.Roots.length : Int) ≤ 70))) rfl rfl rfl ?_
                refine wpList_nil ?_
                refine hK39 _ _ ?_
                refine wp_ret ?_
                have hr51 : (decide ((x0.Roots.length : Int) ≤ 70)) = (Pk.few x0) := by rw [hi15]; simp [drop_end (l := x0.Nodes) (k := k) (by first | omega | (rw [bytes_length]; omega)), Pk.fewGo, hi14, hb18, hb40, hb46, hb47, hb48, hb50]
                exact ret1 Try.results14 rfl ⟨congrArg Value.bool hr51, (e8.trans e13).old⟩
              · -- ¬ (60 < (x0.Roots.length : Int))
                refine op_not rfl ?_
                refine op_not rfl ?_
                refine op_pickF (v := .bool false) rfl rfl rfl rfl ?_
                refine op_pickF (v := .bool false) rfl rfl rfl rfl ?_
                refine op_pickT (v := .bool false) rfl rfl rfl rfl ?_
                refine op_assign (v := .bool false) rfl rfl rfl ?_
                refine wpList_nil ?_
                refine hK39 _ _ ?_
                refine wp_ret ?_
                have hr52 : false = (Pk.few x0) := by rw [hi15]; simp [drop_end (l := x0.Nodes) (k := k) (by first | omega | (rw [bytes_length]; omega)), Pk.fewGo, hi14, hb18, hb40, hb46, hb47, hb48, hb50]
                exact ret1 Try.results14 rfl ⟨congrArg Value.bool hr52, (e8.trans e13).old⟩
          · -- ¬ ((x0.Nodes.length : Int) ≤ 410)
            refine op_not rfl ?_
            refine op_not rfl ?_
            refine op_not rfl ?_
            refine op_not rfl ?_
            refine op_not rfl ?_
            refine op_not rfl ?_
            refine op_not rfl ?_
            refine op_not rfl ?_
            refine op_not rfl ?_
            refine op_not rfl ?_
            refine op_pickF (v := .bool false) rfl rfl rfl rfl ?_
            refine op_assign (v := .bool false) rfl rfl rfl ?_
            refine wpList_nil ?_
            refine hK39 _ _ ?_
            refine wp_ret ?_
            have hr53 : false = (Pk.few x0) := by rw [hi15]; simp [drop_end (l := x0.Nodes) (k := k) (by first | omega | (rw [bytes_length]; omega)), Pk.fewGo, hi14, hb18, hb40, hb46, hb47]
            exact ret1 Try.results14 rfl ⟨congrArg Value.bool hr53, (e8.trans e13).old⟩
        · -- ¬ (400 < (x0.Nodes.length : Int))
          refine op_not rfl ?_
          refine op_not rfl ?_
          refine op_pickF (v := .bool false) rfl rfl rfl rfl ?_
          refine op_pickF (v := .bool false) rfl rfl rfl rfl ?_
          refine op_move (v := .bool false) rfl rfl rfl ?_
          refine op_not rfl ?_
          refine op_not rfl ?_
          refine op_not rfl ?_
          refine op_not rfl ?_
          refine op_not rfl ?_
          refine op_not rfl ?_
          refine op_not rfl ?_
          refine op_not rfl ?_
          refine op_not rfl ?_
          refine op_not rfl ?_
          refine op_pickF (v := .bool false) rfl rfl rfl rfl ?_
          refine op_assign (v := .bool false) rfl rfl rfl ?_
          refine wpList_nil ?_
          refine hK39 _ _ ?_
          refine wp_ret ?_
          have hr54 : false = (Pk.few x0) := by rw [hi15]; simp [drop_end (l := x0.Nodes) (k := k) (by first | omega | (rw [bytes_length]; omega)), Pk.fewGo, hi14, hb18, hb40, hb46]
          exact ret1 Try.results14 rfl ⟨congrArg Value.bool hr54, (e8.trans e13).old⟩
end Go.Proofs.Ytcnhjofpmpipfaa
