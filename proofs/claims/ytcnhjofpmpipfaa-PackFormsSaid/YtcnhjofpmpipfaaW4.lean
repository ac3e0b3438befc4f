import Derived.Test.YtcnhjofpmpipfaaW3
import Derived.Test.YtcnhjofpmpipfaaSp2
set_option linter.unusedVariables false
set_option linter.unusedSimpArgs false
set_option maxRecDepth 100000
namespace Go.Proofs.Ytcnhjofpmpipfaa
open Go Go.Sx Go.RowKit
open Go.Sx.Dat (enc)
attribute [local irreducible] Go.wpList Go.wpQuiet Go.Code.wp
set_option maxHeartbeats 1000000 in
theorem c64 {M : List Nat} {w : World} {x0 : Int} (hM : Lo M w) (p0 : -1099511627777 ≤ x0) (p1 : x0 ≤ 1099511627777) : Calls Try.prog 64 #[.int .i64 x0] w (Ret fun v w' => ∃ a_r0 c_r0, v = .slice a_r0 (Pk.number x0).length c_r0 ∧ SL M w' a_r0 c_r0 (Pk.number x0) ∧ Upd [] w w') := by
  have hz : Pk.zig x0 ≤ 2199023255556 := by unfold Pk.zig; split <;> omega
  refine enter (l := [.int .i64 x0]) Try.func64 rfl Try.ntmps64 rfl ?_
  refine c_seq fun KhK1 hK1 => ?_
  refine c_reg ?_
  refine op_assign (v := .slice none 0 0) rfl rfl rfl ?_
  refine wpList_nil ?_
  refine hK1 _ _ ?_
  refine c_seq fun KhK2 hK2 => ?_
  refine c_reg ?_
  refine op_move (v := .int .i64 x0) rfl rfl rfl ?_
  refine op_mul rfl rfl rfl rfl (by omega) ?_
  refine op_conv (b := (IntKind.u64.wrap (2 * x0))) ty3.und ty154.und rfl rfl rfl rfl ?_
  refine op_assign (v := .int .u64 (IntKind.u64.wrap (2 * x0))) rfl rfl rfl ?_
  refine wpList_nil ?_
  refine hK2 _ _ ?_
  refine c_seq fun KhK3 hK3 => ?_
  refine c_seq fun KhK4 hK4 => ?_
  refine c_reg ?_
  refine op_move (v := .int .i64 x0) rfl rfl rfl ?_
  refine op_lss rfl rfl rfl rfl ?_
  refine wpList_nil ?_
  refine hK4 _ _ ?_
  refine c_if rfl rfl (fun hb5 => ?_) (fun hb5 => ?_)
  · -- x0 < 0
    refine c_reg ?_
    refine op_move (v := .int .i64 x0) rfl rfl rfl ?_
    refine op_mul rfl rfl rfl rfl (by omega) ?_
    refine op_sub rfl rfl rfl rfl (by omega) ?_
    refine op_convU64 ty3.und ty154.und rfl rfl rfl (by omega) (by omega) ?_
    refine op_assign (v := .int .u64 (((-2) * x0) - 1)) rfl rfl rfl ?_
    refine wpList_nil ?_
    refine hK3 _ _ ?_
    refine c_seq fun KhK6 hK6 => ?_
    refine c_reg ?_
    refine op_assign (v := .slice none 0 0) rfl rfl rfl ?_
    refine wpList_nil ?_
    refine hK6 _ _ ?_
    refine c_seq fun KhK7 hK7 => ?_
    refine wp_block ?_
    have ho9 : Own [] M w none 0 ([] : List UInt8) := Own.nil
    refine c_loop (X := Nat × Option Addr × Nat × List UInt8 × Nat × List Nat) [3, 4, 14, 15, 16, 17, 18, 19, 20, 21, 22, 23] (fun ⟨u, a_acc, c_acc, acc, f, mm10⟩ => [(3, .int .u64 (u : Int)), (4, .slice a_acc acc.length c_acc)]) (fun ⟨u, a_acc, c_acc, acc, f, mm10⟩ w1 => (u ≤ f) ∧ (u + acc.length ≤ 2199023255556) ∧ (Pk.number x0 = Pk.numGo f u acc) ∧ Evo [] w mm10 w1 ∧ Own mm10 M w1 a_acc c_acc acc) (fun ⟨u, a_acc, c_acc, acc, f, mm10⟩ => u) ⟨(Pk.zig x0), none, 0, ([] : List UInt8), (Pk.zig x0), []⟩ ⟨congrArg (Value.int .u64) (show (((-2) * x0) - 1) = (((Pk.zig x0) : Nat) : Int) by unfold Pk.zig; first | (rw [if_pos (by assumption)]; omega) | (rw [if_neg (by assumption), wrapU64_in (by omega) (by omega)]; omega)), rfl, trivial⟩ ?_ ?_
    ·
      exact ⟨(by first | omega | simp), (by first | omega | simp), (by rfl), Evo.refl _ _, ho9⟩
    ·
      rintro ⟨u, a_acc, c_acc, acc, f, mm10⟩ τ w11 ⟨hi13, hi14, hi15, e12, ho16⟩
      have lho16 := ho16.lt63
      refine c_seq fun KhK17 hK17 => ?_
      refine c_seq fun KhK18 hK18 => ?_
      refine c_reg ?_
      refine op_move (v := .int .u64 (u : Int)) rfl rfl rfl ?_
      refine op_geq rfl rfl rfl rfl ?_
      refine wpList_nil ?_
      refine hK18 _ _ ?_
      refine c_if rfl rfl (fun hb19 => ?_) (fun hb19 => ?_)
      · -- 128 ≤ (u : Int)
        refine wp_skip ?_
        refine hK17 _ _ ?_
        refine wp_block ?_
        refine c_seq fun KhK20 hK20 => ?_
        refine c_reg ?_
        refine op_move (v := .slice a_acc acc.length c_acc) rfl rfl rfl ?_
        refine op_move (v := .int .u64 (u : Int)) rfl rfl rfl ?_
        refine op_convByte ty154.und ty5.und rfl rfl rfl (by omega) ?_
        refine op_orU8 (a := (UInt8.ofNat ((u : Int) : Int).toNat)) (b := (128 : UInt8)) rfl rfl rfl rfl ?_
        refine op_buildSlice (r := [.int .u8 ((UInt8.ofNat ((u : Int) : Int).toNat) ||| (128 : UInt8)).toNat]) ty34 ty5 rfl rfl rfl rfl rfl rfl fun β21 w22 hβ23 u24 hz25 hx26 => ?_
        have nf27 : β21 ∉ mm10 ++ M := (e12.loM hM).fresh hβ23
        have e28 := u24.evo0 (m := mm10)
        replace ho16 := ho16.step u24 (fun _ _ h => nomatch h) e28 (fun _ h => h)
        have hs29 : SL (mm10 ++ M) w22 (some ⟨β21, 0, none⟩) 1 ([((UInt8.ofNat ((u : Int) : Int).toNat) ||| (128 : UInt8))] : List UInt8) := SL.of_boxL hx26 nf27 (by simp only [List.length_cons, List.length_nil]; omega) ⟨[.int .u8 ((UInt8.ofNat ((u : Int) : Int).toNat) ||| (128 : UInt8)).toNat], _, rfl, rfl, rfl⟩
        refine op_append ty34 ty34 ty5 rfl rfl rfl rfl rfl rfl rfl ho16 hs29 (hM.mono (e12.trans e28).size) (by simp only [List.length_append, List.length_cons, List.length_nil]; omega) fun a30 c31 w32 m33 ho34 e35 u36 hbk37 hsub38 => ?_
        refine op_assign (v := .slice a30 (acc ++ ([((UInt8.ofNat ((u : Int) : Int).toNat) ||| (128 : UInt8))] : List UInt8)).length c31) rfl rfl rfl ?_
        refine wpList_nil ?_
        refine hK20 _ _ ?_
        refine c_reg ?_
        refine op_move (v := .int .u64 (u : Int)) rfl rfl rfl ?_
        refine op_shr (dv := 128) rfl rfl rfl rfl (by decide) (by decide) ?_
        refine op_assign (v := .int .u64 ((u : Int) / 128)) rfl rfl rfl ?_
        refine wpList_nil ?_
        repeat (with_reducible refine inBlock_normal ?_)
        with_reducible refine then_normal ?_
        exact ⟨⟨(u / 128), a30, c31, (acc ++ ([((UInt8.ofNat ((u : Int) : Int).toNat) ||| (128 : UInt8))] : List UInt8)), (f - 1), m33⟩, (by first | omega | (dsimp only; omega)), ⟨(by first | omega | (simp only [List.length_append, List.length_cons, List.length_nil]; omega) | (rw [hi15]; cases f with | zero => omega | succ f => simp [Pk.numGo, hb5, hi13, hi14, hb19]; omega)), (by first | omega | (simp only [List.length_append, List.length_cons, List.length_nil]; omega) | (rw [hi15]; cases f with | zero => omega | succ f => simp [Pk.numGo, hb5, hi13, hi14, hb19]; omega)), (by rw [hi15]; cases f with | zero => omega | succ f => simp [Pk.numGo, hb5, hi13, hi14, hb19]; omega), ((e12.trans e28).trans e35), ho34⟩, _, rfl, (by repeat first | exact agree.refl _ _ | refine agree.upd rfl ?_ | refine agree.upds rfl ?_ | refine agree.mix rfl ?_), ⟨congrArg (Value.int .u64) (show ((u : Int) / 128) = (((u / 128) : Nat) : Int) by omega), rfl, trivial⟩⟩
      · -- ¬ (128 ≤ (u : Int))
        refine wp_exit ?_
        refine hK7 _ _ ?_
        refine c_seq fun KhK40 hK40 => ?_
        refine c_reg ?_
        refine op_move (v := .slice a_acc acc.length c_acc) rfl rfl rfl ?_
        refine op_move (v := .int .u64 (u : Int)) rfl rfl rfl ?_
        refine op_convByte ty154.und ty5.und rfl rfl rfl (by omega) ?_
        refine op_buildSlice (r := [.int .u8 (UInt8.ofNat ((u : Int) : Int).toNat).toNat]) ty34 ty5 rfl rfl rfl rfl rfl rfl fun β41 w42 hβ43 u44 hz45 hx46 => ?_
        have nf47 : β41 ∉ mm10 ++ M := (e12.loM hM).fresh hβ43
        have e48 := u44.evo0 (m := mm10)
        replace ho16 := ho16.step u44 (fun _ _ h => nomatch h) e48 (fun _ h => h)
        have hs49 : SL (mm10 ++ M) w42 (some ⟨β41, 0, none⟩) 1 ([(UInt8.ofNat ((u : Int) : Int).toNat)] : List UInt8) := SL.of_boxL hx46 nf47 (by simp only [List.length_cons, List.length_nil]; omega) ⟨[.int .u8 (UInt8.ofNat ((u : Int) : Int).toNat).toNat], _, rfl, rfl, rfl⟩
        refine op_append ty34 ty34 ty5 rfl rfl rfl rfl rfl rfl rfl ho16 hs49 (hM.mono (e12.trans e48).size) (by simp only [List.length_append, List.length_cons, List.length_nil]; omega) fun a50 c51 w52 m53 ho54 e55 u56 hbk57 hsub58 => ?_
        refine op_assign (v := .slice a50 (acc ++ ([(UInt8.ofNat ((u : Int) : Int).toNat)] : List UInt8)).length c51) rfl rfl rfl ?_
        refine wpList_nil ?_
        refine hK40 _ _ ?_
        refine wp_ret ?_
        have hr60 : ((acc ++ ([(UInt8.ofNat ((u : Int) : Int).toNat)] : List UInt8)) : List UInt8) = (Pk.number x0) := by rw [hi15]; rw [Pk.numGo_end (by omega)]; simp
        exact ret1 Try.results64 rfl ⟨a50, c51, slc_eq hr60, (hr60 ▸ (ho54.shutM : SL M w52 a50 c51 ((acc ++ ([(UInt8.ofNat ((u : Int) : Int).toNat)] : List UInt8)) : List UInt8))), ((e12.trans e48).trans e55).old⟩
  · -- ¬ (x0 < 0)
    refine wp_skip ?_
    refine hK3 _ _ ?_
    refine c_seq fun KhK61 hK61 => ?_
    refine c_reg ?_
    refine op_assign (v := .slice none 0 0) rfl rfl rfl ?_
    refine wpList_nil ?_
    refine hK61 _ _ ?_
    refine c_seq fun KhK62 hK62 => ?_
    refine wp_block ?_
    have ho64 : Own [] M w none 0 ([] : List UInt8) := Own.nil
    refine c_loop (X := Nat × Option Addr × Nat × List UInt8 × Nat × List Nat) [3, 4, 14, 15, 16, 17, 18, 19, 20, 21, 22, 23] (fun ⟨u, a_acc, c_acc, acc, f, mm65⟩ => [(3, .int .u64 (u : Int)), (4, .slice a_acc acc.length c_acc)]) (fun ⟨u, a_acc, c_acc, acc, f, mm65⟩ w1 => (u ≤ f) ∧ (u + acc.length ≤ 2199023255556) ∧ (Pk.number x0 = Pk.numGo f u acc) ∧ Evo [] w mm65 w1 ∧ Own mm65 M w1 a_acc c_acc acc) (fun ⟨u, a_acc, c_acc, acc, f, mm65⟩ => u) ⟨(Pk.zig x0), none, 0, ([] : List UInt8), (Pk.zig x0), []⟩ ⟨congrArg (Value.int .u64) (show (IntKind.u64.wrap (2 * x0)) = (((Pk.zig x0) : Nat) : Int) by unfold Pk.zig; first | (rw [if_pos (by assumption)]; omega) | (rw [if_neg (by assumption), wrapU64_in (by omega) (by omega)]; omega)), rfl, trivial⟩ ?_ ?_
    ·
      exact ⟨(by first | omega | simp), (by first | omega | simp), (by rfl), Evo.refl _ _, ho64⟩
    ·
      rintro ⟨u, a_acc, c_acc, acc, f, mm65⟩ τ w66 ⟨hi68, hi69, hi70, e67, ho71⟩
      have lho71 := ho71.lt63
      refine c_seq fun KhK72 hK72 => ?_
      refine c_seq fun KhK73 hK73 => ?_
      refine c_reg ?_
      refine op_move (v := .int .u64 (u : Int)) rfl rfl rfl ?_
      refine op_geq rfl rfl rfl rfl ?_
      refine wpList_nil ?_
      refine hK73 _ _ ?_
      refine c_if rfl rfl (fun hb74 => ?_) (fun hb74 => ?_)
      · -- 128 ≤ (u : Int)
        refine wp_skip ?_
        refine hK72 _ _ ?_
        refine wp_block ?_
        refine c_seq fun KhK75 hK75 => ?_
        refine c_reg ?_
        refine op_move (v := .slice a_acc acc.length c_acc) rfl rfl rfl ?_
        refine op_move (v := .int .u64 (u : Int)) rfl rfl rfl ?_
        refine op_convByte ty154.und ty5.und rfl rfl rfl (by omega) ?_
        refine op_orU8 (a := (UInt8.ofNat ((u : Int) : Int).toNat)) (b := (128 : UInt8)) rfl rfl rfl rfl ?_
        refine op_buildSlice (r := [.int .u8 ((UInt8.ofNat ((u : Int) : Int).toNat) ||| (128 : UInt8)).toNat]) ty34 ty5 rfl rfl rfl rfl rfl rfl fun β76 w77 hβ78 u79 hz80 hx81 => ?_
        have nf82 : β76 ∉ mm65 ++ M := (e67.loM hM).fresh hβ78
        have e83 := u79.evo0 (m := mm65)
        replace ho71 := ho71.step u79 (fun _ _ h => nomatch h) e83 (fun _ h => h)
        have hs84 : SL (mm65 ++ M) w77 (some ⟨β76, 0, none⟩) 1 ([((UInt8.ofNat ((u : Int) : Int).toNat) ||| (128 : UInt8))] : List UInt8) := SL.of_boxL hx81 nf82 (by simp only [List.length_cons, List.length_nil]; omega) ⟨[.int .u8 ((UInt8.ofNat ((u : Int) : Int).toNat) ||| (128 : UInt8)).toNat], _, rfl, rfl, rfl⟩
        refine op_append ty34 ty34 ty5 rfl rfl rfl rfl rfl rfl rfl ho71 hs84 (hM.mono (e67.trans e83).size) (by simp only [List.length_append, List.length_cons, List.length_nil]; omega) fun a85 c86 w87 m88 ho89 e90 u91 hbk92 hsub93 => ?_
        refine op_assign (v := .slice a85 (acc ++ ([((UInt8.ofNat ((u : Int) : Int).toNat) ||| (128 : UInt8))] : List UInt8)).length c86) rfl rfl rfl ?_
        refine wpList_nil ?_
        refine hK75 _ _ ?_
        refine c_reg ?_
        refine op_move (v := .int .u64 (u : Int)) rfl rfl rfl ?_
        refine op_shr (dv := 128) rfl rfl rfl rfl (by decide) (by decide) ?_
        refine op_assign (v := .int .u64 ((u : Int) / 128)) rfl rfl rfl ?_
        refine wpList_nil ?_
        repeat (with_reducible refine inBlock_normal ?_)
        with_reducible refine then_normal ?_
        exact ⟨⟨(u / 128), a85, c86, (acc ++ ([((UInt8.ofNat ((u : Int) : Int).toNat) ||| (128 : UInt8))] : List UInt8)), (f - 1), m88⟩, (by first | omega | (dsimp only; omega)), ⟨(by first | omega | (simp only [List.length_append, List.length_cons, List.length_nil]; omega) | (rw [hi70]; cases f with | zero => omega | succ f => simp [Pk.numGo, hb5, hi68, hi69, hb74]; omega)), (by first | omega | (simp only [List.length_append, List.length_cons, List.length_nil]; omega) | (rw [hi70]; cases f with | zero => omega | succ f => simp [Pk.numGo, hb5, hi68, hi69, hb74]; omega)), (by rw [hi70]; cases f with | zero => omega | succ f => simp [Pk.numGo, hb5, hi68, hi69, hb74]; omega), ((e67.trans e83).trans e90), ho89⟩, _, rfl, (by repeat first | exact agree.refl _ _ | refine agree.upd rfl ?_ | refine agree.upds rfl ?_ | refine agree.mix rfl ?_), ⟨congrArg (Value.int .u64) (show ((u : Int) / 128) = (((u / 128) : Nat) : Int) by omega), rfl, trivial⟩⟩
      · -- ¬ (128 ≤ (u : Int))
        refine wp_exit ?_
        refine hK62 _ _ ?_
        refine c_seq fun KhK95 hK95 => ?_
        refine c_reg ?_
        refine op_move (v := .slice a_acc acc.length c_acc) rfl rfl rfl ?_
        refine op_move (v := .int .u64 (u : Int)) rfl rfl rfl ?_
        refine op_convByte ty154.und ty5.und rfl rfl rfl (by omega) ?_
        refine op_buildSlice (r := [.int .u8 (UInt8.ofNat ((u : Int) : Int).toNat).toNat]) ty34 ty5 rfl rfl rfl rfl rfl rfl fun β96 w97 hβ98 u99 hz100 hx101 => ?_
        have nf102 : β96 ∉ mm65 ++ M := (e67.loM hM).fresh hβ98
        have e103 := u99.evo0 (m := mm65)
        replace ho71 := ho71.step u99 (fun _ _ h => nomatch h) e103 (fun _ h => h)
        have hs104 : SL (mm65 ++ M) w97 (some ⟨β96, 0, none⟩) 1 ([(UInt8.ofNat ((u : Int) : Int).toNat)] : List UInt8) := SL.of_boxL hx101 nf102 (by simp only [List.length_cons, List.length_nil]; omega) ⟨[.int .u8 (UInt8.ofNat ((u : Int) : Int).toNat).toNat], _, rfl, rfl, rfl⟩
        refine op_append ty34 ty34 ty5 rfl rfl rfl rfl rfl rfl rfl ho71 hs104 (hM.mono (e67.trans e103).size) (by simp only [List.length_append, List.length_cons, List.length_nil]; omega) fun a105 c106 w107 m108 ho109 e110 u111 hbk112 hsub113 => ?_
        refine op_assign (v := .slice a105 (acc ++ ([(UInt8.ofNat ((u : Int) : Int).toNat)] : List UInt8)).length c106) rfl rfl rfl ?_
        refine wpList_nil ?_
        refine hK95 _ _ ?_
        refine wp_ret ?_
        have hr115 : ((acc ++ ([(UInt8.ofNat ((u : Int) : Int).toNat)] : List UInt8)) : List UInt8) = (Pk.number x0) := by rw [hi70]; rw [Pk.numGo_end (by omega)]; simp
        exact ret1 Try.results64 rfl ⟨a105, c106, slc_eq hr115, (hr115 ▸ (ho109.shutM : SL M w107 a105 c106 ((acc ++ ([(UInt8.ofNat ((u : Int) : Int).toNat)] : List UInt8)) : List UInt8))), ((e67.trans e103).trans e110).old⟩
set_option maxHeartbeats 1000000 in
theorem c66 {M : List Nat} {w : World} {x0 : List UInt8} {a_x0 : Option Addr} {c_x0 : Nat} (hM : Lo M w) (h_x0 : SL M w a_x0 c_x0 x0) : Calls Try.prog 66 #[.slice a_x0 x0.length c_x0] w (Ret fun v w' => ∃ a_r0 c_r0, v = .slice a_r0 (Pk.sumB x0).length c_r0 ∧ SL M w' a_r0 c_r0 (Pk.sumB x0) ∧ Upd [] w w') := by
  have lh_x0 := h_x0.lt63
  refine enter (l := [.slice a_x0 x0.length c_x0]) Try.func66 rfl Try.ntmps66 rfl ?_
  refine c_seq fun KhK1 hK1 => ?_
  refine c_reg ?_
  refine op_assign (v := .slice none 0 0) rfl rfl rfl ?_
  refine wpList_nil ?_
  refine hK1 _ _ ?_
  refine c_seq fun KhK2 hK2 => ?_
  refine c_reg ?_
  refine op_assign (v := .int .i64 1) rfl rfl rfl ?_
  refine wpList_nil ?_
  refine hK2 _ _ ?_
  refine c_seq fun KhK3 hK3 => ?_
  refine c_seq fun KhK4 hK4 => ?_
  refine c_reg ?_
  refine op_move (v := .slice a_x0 x0.length c_x0) rfl rfl rfl ?_
  refine op_len ty34 rfl rfl rfl ?_
  refine op_move (v := .int .i64 0) rfl rfl rfl ?_
  refine wpList_nil ?_
  refine hK4 _ _ ?_
  refine wp_block ?_
  refine c_loop (X := Nat × Int) [3, 5, 8, 9, 10, 11, 12, 13, 14, 15, 16, 17, 18] (fun ⟨k, s⟩ => [(8, .int .i64 (k : Int)), (3, .int .i64 s)]) (fun ⟨k, s⟩ w1 => (k ≤ x0.length) ∧ (0 ≤ s) ∧ (s < 2147483647) ∧ (Pk.sumN x0 = Pk.sumGo s (x0.drop k)) ∧ Evo [] w [] w1) (fun ⟨k, s⟩ => x0.length - k) ⟨0, 1⟩ ⟨congrArg (Value.int .i64) (show 0 = ((0 : Nat) : Int) by omega), rfl, trivial⟩ ?_ ?_
  ·
    exact ⟨(by first | omega | simp), (by first | omega | simp), (by first | omega | simp), (by simp [Pk.sumN]), Evo.refl _ _⟩
  ·
    rintro ⟨k, s⟩ τ w5 ⟨hi7, hi8, hi9, hi10, e6⟩
    refine c_seq fun KhK11 hK11 => ?_
    refine c_reg ?_
    refine op_lss rfl rfl rfl rfl ?_
    refine wpList_nil ?_
    refine hK11 _ _ ?_
    refine c_seq fun KhK12 hK12 => ?_
    refine c_if rfl rfl (fun hb13 => ?_) (fun hb13 => ?_)
    · -- (k : Int) < (x0.length : Int)
      refine wp_skip ?_
      refine hK12 _ _ ?_
      refine c_seq fun KhK14 hK14 => ?_
      refine wp_block ?_
      refine c_seq fun KhK15 hK15 => ?_
      refine c_reg ?_
      refine op_indexN (j := k) ty34 ty5 rfl rfl rfl rfl rfl (h_x0.mono (e6.tr M)) (by omega) fun ad16 cs17 u18 hx19 he20 ca21 => ?_
      obtain rfl := he20
      have ltu18 := u18.toNat_lt
      refine op_loadA0 (v := .int .u8 u18.toNat) ty5 rfl rfl rfl rfl ca21 rfl ?_
      refine op_assign (v := .int .u8 u18.toNat) rfl rfl rfl ?_
      refine wpList_nil ?_
      refine hK15 _ _ ?_
      refine c_reg ?_
      refine op_move (v := .int .i64 s) rfl rfl rfl ?_
      refine op_mul rfl rfl rfl rfl (by omega) ?_
      refine op_move (v := .int .u8 u18.toNat) rfl rfl rfl ?_
      refine op_convU8 ty5.und ty3.und (by decide) rfl rfl rfl ?_
      refine op_add rfl rfl rfl rfl (by omega) ?_
      refine op_rem rfl rfl rfl rfl (by omega) (by omega) ?_
      refine op_assign (v := .int .i64 (((31 * s) + (u18.toNat : Int)) % 2147483647)) rfl rfl rfl ?_
      refine wpList_nil ?_
      refine hK14 _ _ ?_
      refine c_reg ?_
      refine op_add rfl rfl rfl rfl (by omega) ?_
      refine op_move (v := .int .i64 ((k : Int) + 1)) rfl rfl rfl ?_
      refine wpList_nil ?_
      repeat (with_reducible refine inBlock_normal ?_)
      with_reducible refine then_normal ?_
      exact ⟨⟨k + 1, (((31 * s) + (u18.toNat : Int)) % 2147483647)⟩, (by first | omega | (dsimp only; omega)), ⟨(by first | omega | (simp only [List.length_append, List.length_cons, List.length_nil]; omega) | (rw [hi10]; simp [drop_of hx19, Pk.sumGo])), (by first | omega | (simp only [List.length_append, List.length_cons, List.length_nil]; omega) | (rw [hi10]; simp [drop_of hx19, Pk.sumGo])), (by first | omega | (simp only [List.length_append, List.length_cons, List.length_nil]; omega) | (rw [hi10]; simp [drop_of hx19, Pk.sumGo])), (by rw [hi10]; simp [drop_of hx19, Pk.sumGo]), (e6.drop (fun b hb => by simp [hb]))⟩, _, rfl, (by repeat first | exact agree.refl _ _ | refine agree.upd rfl ?_ | refine agree.upds rfl ?_ | refine agree.mix rfl ?_), ⟨congrArg (Value.int .i64) (show ((k : Int) + 1) = ((k + 1 : Nat) : Int) by omega), rfl, trivial⟩⟩
    · -- ¬ ((k : Int) < (x0.length : Int))
      refine wp_exit ?_
      refine hK3 _ _ ?_
      refine c_seq fun KhK22 hK22 => ?_
      refine c_reg ?_
      refine op_move (v := .int .i64 s) rfl rfl rfl ?_
      refine op_shr (dv := 16777216) rfl rfl rfl rfl (by decide) (by decide) ?_
      refine op_convByte ty3.und ty5.und rfl rfl rfl (by omega) ?_
      refine op_move (v := .int .i64 s) rfl rfl rfl ?_
      refine op_shr (dv := 65536) rfl rfl rfl rfl (by decide) (by decide) ?_
      refine op_convByte ty3.und ty5.und rfl rfl rfl (by omega) ?_
      refine op_move (v := .int .i64 s) rfl rfl rfl ?_
      refine op_shr (dv := 256) rfl rfl rfl rfl (by decide) (by decide) ?_
      refine op_convByte ty3.und ty5.und rfl rfl rfl (by omega) ?_
      refine op_move (v := .int .i64 s) rfl rfl rfl ?_
      refine op_convByte ty3.und ty5.und rfl rfl rfl (by omega) ?_
      refine op_buildSlice (r := [.int .u8 (UInt8.ofNat ((s / 16777216) : Int).toNat).toNat, .int .u8 (UInt8.ofNat ((s / 65536) : Int).toNat).toNat, .int .u8 (UInt8.ofNat ((s / 256) : Int).toNat).toNat, .int .u8 (UInt8.ofNat (s : Int).toNat).toNat]) ty34 ty5 rfl rfl rfl rfl rfl rfl fun β23 w24 hβ25 u26 hz27 hx28 => ?_
      have nf29 : β23 ∉ [] ++ M := (e6.loM hM).fresh hβ25
      have e30 := u26.evo0 (m := [])
      have hs31 : SL ([] ++ M) w24 (some ⟨β23, 0, none⟩) 4 ([(UInt8.ofNat ((s / 16777216) : Int).toNat), (UInt8.ofNat ((s / 65536) : Int).toNat), (UInt8.ofNat ((s / 256) : Int).toNat), (UInt8.ofNat (s : Int).toNat)] : List UInt8) := SL.of_boxL hx28 nf29 (by simp only [List.length_cons, List.length_nil]; omega) ⟨[.int .u8 (UInt8.ofNat ((s / 16777216) : Int).toNat).toNat], _, rfl, rfl, ⟨[.int .u8 (UInt8.ofNat ((s / 65536) : Int).toNat).toNat], _, rfl, rfl, ⟨[.int .u8 (UInt8.ofNat ((s / 256) : Int).toNat).toNat], _, rfl, rfl, ⟨[.int .u8 (UInt8.ofNat (s : Int).toNat).toNat], _, rfl, rfl, rfl⟩⟩⟩⟩
      refine op_assign (v := .slice (some ⟨β23, 0, none⟩) ([(UInt8.ofNat ((s / 16777216) : Int).toNat), (UInt8.ofNat ((s / 65536) : Int).toNat), (UInt8.ofNat ((s / 256) : Int).toNat), (UInt8.ofNat (s : Int).toNat)] : List UInt8).length 4) rfl rfl rfl ?_
      refine wpList_nil ?_
      refine hK22 _ _ ?_
      refine wp_ret ?_
      have hr32 : (([(UInt8.ofNat ((s / 16777216) : Int).toNat), (UInt8.ofNat ((s / 65536) : Int).toNat), (UInt8.ofNat ((s / 256) : Int).toNat), (UInt8.ofNat (s : Int).toNat)] : List UInt8) : List UInt8) = (Pk.sumB x0) := by simp only [Pk.sumB, Pk.byteOf]; rw [hi10]; simp [drop_end (l := x0) (k := k) (by first | omega | (rw [bytes_length]; omega)), Pk.sumGo]
      exact ret1 Try.results66 rfl ⟨(some ⟨β23, 0, none⟩), 4, slc_eq hr32, (hr32 ▸ (hs31.mono (Tr.sub _ (fun b hb => List.mem_append_right _ hb)) : SL M w24 (some ⟨β23, 0, none⟩) 4 (([(UInt8.ofNat ((s / 16777216) : Int).toNat), (UInt8.ofNat ((s / 65536) : Int).toNat), (UInt8.ofNat ((s / 256) : Int).toNat), (UInt8.ofNat (s : Int).toNat)] : List UInt8) : List UInt8))), (e6.trans e30).old⟩
set_option maxHeartbeats 1000000 in
theorem c65 {M : List Nat} {w : World} {x0 : Pk.Val} (hM : Lo M w) (p0 : x0.N < 4611686018427387904) (p1 : -4611686018427387904 < x0.N) : Calls Try.prog 65 #[.agg #[.int .i64 x0.Kind, .int .i64 x0.N]] w (Ret fun v w' => v = .int .i64 (Pk.code x0) ∧ Upd [] w w') := by
  refine enter (l := [.agg #[.int .i64 x0.Kind, .int .i64 x0.N]]) Try.func65 rfl Try.ntmps65 rfl ?_
  refine c_seq fun KhK1 hK1 => ?_
  refine c_reg ?_
  refine op_box (v := .agg #[.int .i64 x0.Kind, .int .i64 x0.N]) (zs := [.int .i64 x0.Kind, .int .i64 x0.N]) rfl rfl rfl rfl fun β2 w3 hβ4 u5 hz6 hx7 => ?_
  have e8 := u5.evoN (m := []) hβ4 hz6
  refine op_assign (v := .int .i64 0) rfl rfl rfl ?_
  refine wpList_nil ?_
  refine hK1 _ _ ?_
  refine c_seq fun KhK9 hK9 => ?_
  refine c_seq fun KhK10 hK10 => ?_
  refine c_reg ?_
  refine op_fieldB fld51_0 rfl rfl rfl ?_
  refine op_loadB (v := .int .i64 x0.Kind) ty3 rfl rfl rfl rfl hx7 rfl ?_
  refine wpList_nil ?_
  refine hK10 _ _ ?_
  refine wp_block ?_
  refine c_seq fun KhK11 hK11 => ?_
  refine c_reg ?_
  refine op_eq rfl rfl rfl rfl ?_
  refine op_assign (v := .bool (decide (x0.Kind = 3))) rfl rfl rfl ?_
  refine wpList_nil ?_
  refine hK11 _ _ ?_
  refine c_if rfl rfl (fun hb12 => ?_) (fun hb12 => ?_)
  · -- x0.Kind = 3
    refine c_seq fun KhK13 hK13 => ?_
    refine c_reg ?_
    refine op_assign (v := .int .i64 0) rfl rfl rfl ?_
    refine wpList_nil ?_
    refine hK13 _ _ ?_
    refine wp_ret ?_
    have hr14 : 0 = (Pk.code x0) := by simp [ Pk.code, hb12]
    exact ret1 Try.results65 rfl ⟨congrArg (Value.int .i64) hr14, e8.old⟩
  · -- ¬ (x0.Kind = 3)
    refine c_seq fun KhK15 hK15 => ?_
    refine c_reg ?_
    refine op_eq rfl rfl rfl rfl ?_
    refine op_assign (v := .bool (decide (x0.Kind = 4))) rfl rfl rfl ?_
    refine wpList_nil ?_
    refine hK15 _ _ ?_
    refine c_if rfl rfl (fun hb16 => ?_) (fun hb16 => ?_)
    · -- x0.Kind = 4
      refine c_seq fun KhK17 hK17 => ?_
      refine c_reg ?_
      refine op_fieldB fld51_1 rfl rfl rfl ?_
      refine op_loadB (v := .int .i64 x0.N) ty3 rfl rfl rfl rfl hx7 rfl ?_
      refine op_add rfl rfl rfl rfl (by omega) ?_
      refine op_assign (v := .int .i64 (x0.N + 1)) rfl rfl rfl ?_
      refine wpList_nil ?_
      refine hK17 _ _ ?_
      refine wp_ret ?_
      have hr18 : (x0.N + 1) = (Pk.code x0) := by simp [ Pk.code, hb12, hb16]
      exact ret1 Try.results65 rfl ⟨congrArg (Value.int .i64) hr18, e8.old⟩
    · -- ¬ (x0.Kind = 4)
      refine wp_skip ?_
      refine hK9 _ _ ?_
      refine c_seq fun KhK19 hK19 => ?_
      refine c_reg ?_
      refine op_fieldB fld51_1 rfl rfl rfl ?_
      refine op_loadB (v := .int .i64 x0.N) ty3 rfl rfl rfl rfl hx7 rfl ?_
      refine op_assign (v := .int .i64 x0.N) rfl rfl rfl ?_
      refine wpList_nil ?_
      refine hK19 _ _ ?_
      refine wp_ret ?_
      have hr20 : x0.N = (Pk.code x0) := by simp [ Pk.code, hb12, hb16]
      exact ret1 Try.results65 rfl ⟨congrArg (Value.int .i64) hr20, e8.old⟩
set_option maxHeartbeats 1000000 in
theorem c89 {M : List Nat} {w : World} {x0 : List UInt8} {a_x0 : Option Addr} {c_x0 : Nat} (hM : Lo M w) (h_x0 : SL M w a_x0 c_x0 x0) : Calls Try.prog 89 #[.slice a_x0 x0.length c_x0] w (Ret fun v w' => v = .int .i64 (Pk.sumN x0) ∧ Upd [] w w') := by
  have lh_x0 := h_x0.lt63
  refine enter (l := [.slice a_x0 x0.length c_x0]) Try.func89 rfl Try.ntmps89 rfl ?_
  refine c_seq fun KhK1 hK1 => ?_
  refine c_reg ?_
  refine op_assign (v := .int .i64 0) rfl rfl rfl ?_
  refine wpList_nil ?_
  refine hK1 _ _ ?_
  refine c_seq fun KhK2 hK2 => ?_
  refine c_reg ?_
  refine op_assign (v := .int .i64 1) rfl rfl rfl ?_
  refine wpList_nil ?_
  refine hK2 _ _ ?_
  refine c_seq fun KhK3 hK3 => ?_
  refine c_seq fun KhK4 hK4 => ?_
  refine c_reg ?_
  refine op_assign (v := .int .i64 0) rfl rfl rfl ?_
  refine wpList_nil ?_
  refine hK4 _ _ ?_
  refine wp_block ?_
  refine c_loop (X := Nat × Int) [3, 4, 5, 6, 7, 8, 9, 10, 11, 12, 13, 14, 15, 16, 17, 18, 19] (fun ⟨k, s⟩ => [(4, .int .i64 (k : Int)), (3, .int .i64 s)]) (fun ⟨k, s⟩ w1 => (k ≤ x0.length) ∧ (0 ≤ s) ∧ (s < 2147483647) ∧ (Pk.sumN x0 = Pk.sumGo s (x0.drop k)) ∧ Evo [] w [] w1) (fun ⟨k, s⟩ => x0.length - k) ⟨0, 1⟩ ⟨congrArg (Value.int .i64) (show 0 = ((0 : Nat) : Int) by omega), rfl, trivial⟩ ?_ ?_
  ·
    exact ⟨(by first | omega | simp), (by first | omega | simp), (by first | omega | simp), (by simp [Pk.sumN]), Evo.refl _ _⟩
  ·
    rintro ⟨k, s⟩ τ w5 ⟨hi7, hi8, hi9, hi10, e6⟩
    refine c_seq fun KhK11 hK11 => ?_
    refine c_seq fun KhK12 hK12 => ?_
    refine c_reg ?_
    refine op_move (v := .int .i64 (k : Int)) rfl rfl rfl ?_
    refine op_move (v := .slice a_x0 x0.length c_x0) rfl rfl rfl ?_
    refine op_len ty34 rfl rfl rfl ?_
    refine op_lss rfl rfl rfl rfl ?_
    refine wpList_nil ?_
    refine hK12 _ _ ?_
    refine c_if rfl rfl (fun hb13 => ?_) (fun hb13 => ?_)
    · -- (k : Int) < (x0.length : Int)
      refine wp_skip ?_
      refine hK11 _ _ ?_
      refine c_seq fun KhK14 hK14 => ?_
      refine wp_block ?_
      refine c_reg ?_
      refine op_move (v := .int .i64 s) rfl rfl rfl ?_
      refine op_mul rfl rfl rfl rfl (by omega) ?_
      refine op_move (v := .slice a_x0 x0.length c_x0) rfl rfl rfl ?_
      refine op_move (v := .int .i64 (k : Int)) rfl rfl rfl ?_
      refine op_indexN (j := k) ty34 ty5 rfl rfl rfl rfl rfl (h_x0.mono (e6.tr M)) (by omega) fun ad15 cs16 u17 hx18 he19 ca20 => ?_
      obtain rfl := he19
      have ltu17 := u17.toNat_lt
      refine op_loadA0 (v := .int .u8 u17.toNat) ty5 rfl rfl rfl rfl ca20 rfl ?_
      refine op_convU8 ty5.und ty3.und (by decide) rfl rfl rfl ?_
      refine op_add rfl rfl rfl rfl (by omega) ?_
      refine op_rem rfl rfl rfl rfl (by omega) (by omega) ?_
      refine op_assign (v := .int .i64 (((31 * s) + (u17.toNat : Int)) % 2147483647)) rfl rfl rfl ?_
      refine wpList_nil ?_
      refine hK14 _ _ ?_
      refine c_reg ?_
      refine op_move (v := .int .i64 (k : Int)) rfl rfl rfl ?_
      refine op_add rfl rfl rfl rfl (by omega) ?_
      refine op_assign (v := .int .i64 ((k : Int) + 1)) rfl rfl rfl ?_
      refine wpList_nil ?_
      repeat (with_reducible refine inBlock_normal ?_)
      with_reducible refine then_normal ?_
      exact ⟨⟨k + 1, (((31 * s) + (u17.toNat : Int)) % 2147483647)⟩, (by first | omega | (dsimp only; omega)), ⟨(by first | omega | (simp only [List.length_append, List.length_cons, List.length_nil]; omega) | (rw [hi10]; simp [drop_of hx18, Pk.sumGo, hi7, hi8, hi9, hb13, hx18])), (by first | omega | (simp only [List.length_append, List.length_cons, List.length_nil]; omega) | (rw [hi10]; simp [drop_of hx18, Pk.sumGo, hi7, hi8, hi9, hb13, hx18])), (by first | omega | (simp only [List.length_append, List.length_cons, List.length_nil]; omega) | (rw [hi10]; simp [drop_of hx18, Pk.sumGo, hi7, hi8, hi9, hb13, hx18])), (by rw [hi10]; simp [drop_of hx18, Pk.sumGo, hi7, hi8, hi9, hb13, hx18]), (e6.drop (fun b hb => by simp [hb]))⟩, _, rfl, (by repeat first | exact agree.refl _ _ | refine agree.upd rfl ?_ | refine agree.upds rfl ?_ | refine agree.mix rfl ?_), ⟨congrArg (Value.int .i64) (show ((k : Int) + 1) = ((k + 1 : Nat) : Int) by omega), rfl, trivial⟩⟩
    · -- ¬ ((k : Int) < (x0.length : Int))
      refine wp_exit ?_
      refine hK3 _ _ ?_
      refine c_seq fun KhK21 hK21 => ?_
      refine c_reg ?_
      refine op_move (v := .int .i64 s) rfl rfl rfl ?_
      refine op_assign (v := .int .i64 s) rfl rfl rfl ?_
      refine wpList_nil ?_
      refine hK21 _ _ ?_
      refine wp_ret ?_
      have hr22 : s = (Pk.sumN x0) := by rw [hi10]; simp [drop_end (l := x0) (k := k) (by first | omega | (rw [bytes_length]; omega)), Pk.sumGo, hi7, hi8, hi9, hb13]
      exact ret1 Try.results89 rfl ⟨congrArg (Value.int .i64) hr22, e6.old⟩
set_option maxHeartbeats 1000000 in
theorem c43 {M : List Nat} {w : World} {x0 : List UInt8} {a_x0 : Option Addr} {c_x0 : Nat} (hM : Lo M w) (h_x0 : SL M w a_x0 c_x0 x0) (p0 : x0.length ≤ 1000000) : Calls Try.prog 43 #[.slice a_x0 x0.length c_x0] w (Ret fun v w' => ∃ a_r0 c_r0, v = .slice a_r0 (Pk.summed x0).length c_r0 ∧ SL M w' a_r0 c_r0 (Pk.summed x0) ∧ Upd [] w w') := by
  have lh_x0 := h_x0.lt63
  have hsr := Pk.sumN_range x0
  refine enter (l := [.slice a_x0 x0.length c_x0]) Try.func43 rfl Try.ntmps43 rfl ?_
  refine c_seq fun KhK1 hK1 => ?_
  refine c_reg ?_
  refine op_assign (v := .slice none 0 0) rfl rfl rfl ?_
  refine wpList_nil ?_
  refine hK1 _ _ ?_
  refine c_seq fun KhK2 hK2 => ?_
  refine c_reg ?_
  refine op_move (v := .slice a_x0 x0.length c_x0) rfl rfl rfl ?_
  refine op_call (args := [.slice a_x0 x0.length c_x0]) cal89 rfl rfl rfl (c89 ((Evo.refl [] w).loM hM) h_x0) ?_
  rintro _ w3 ⟨rfl, u4⟩
  have e6 := u4.evo0 (m := [])
  refine op_assign (v := .int .i64 (Pk.sumN x0)) rfl rfl rfl ?_
  refine wpList_nil ?_
  refine hK2 _ _ ?_
  refine c_seq fun KhK7 hK7 => ?_
  refine c_reg ?_
  refine op_buildSlice0 (α := UInt8) (m := []) (M := M) ty34 ty5 rfl (hM.mono e6.size) fun β14 w15 hβ16 u17 hz18 ho19 => ?_
  have e20 := u17.evoN (m := []) hβ16 hz18
  refine op_move (v := .slice a_x0 x0.length c_x0) rfl rfl rfl ?_
  refine op_append ty34 ty34 ty5 rfl rfl rfl rfl rfl rfl rfl ho19 (h_x0.mono ((e6.trans e20).tr M)) (hM.mono (e6.trans e20).size) (by simp only [List.length_append, List.length_cons, List.length_nil]; omega) fun a22 c23 w24 m25 ho26 e27 u28 hbk29 hsub30 => ?_
  refine op_move (v := .int .i64 (Pk.sumN x0)) rfl rfl rfl ?_
  refine op_quo rfl rfl rfl rfl (by omega) (by omega) (by omega) ?_
  refine op_convByte ty3.und ty5.und rfl rfl rfl (by omega) ?_
  refine op_move (v := .int .i64 (Pk.sumN x0)) rfl rfl rfl ?_
  refine op_quo rfl rfl rfl rfl (by omega) (by omega) (by omega) ?_
  refine op_rem rfl rfl rfl rfl (by omega) (by omega) ?_
  refine op_convByte ty3.und ty5.und rfl rfl rfl (by omega) ?_
  refine op_move (v := .int .i64 (Pk.sumN x0)) rfl rfl rfl ?_
  refine op_quo rfl rfl rfl rfl (by omega) (by omega) (by omega) ?_
  refine op_rem rfl rfl rfl rfl (by omega) (by omega) ?_
  refine op_convByte ty3.und ty5.und rfl rfl rfl (by omega) ?_
  refine op_move (v := .int .i64 (Pk.sumN x0)) rfl rfl rfl ?_
  refine op_rem rfl rfl rfl rfl (by omega) (by omega) ?_
  refine op_convByte ty3.und ty5.und rfl rfl rfl (by omega) ?_
  refine op_buildSlice (r := [.int .u8 (UInt8.ofNat (((Pk.sumN x0) / 16777216) : Int).toNat).toNat, .int .u8 (UInt8.ofNat ((((Pk.sumN x0) / 65536) % 256) : Int).toNat).toNat, .int .u8 (UInt8.ofNat ((((Pk.sumN x0) / 256) % 256) : Int).toNat).toNat, .int .u8 (UInt8.ofNat (((Pk.sumN x0) % 256) : Int).toNat).toNat]) ty34 ty5 rfl rfl rfl rfl rfl rfl fun β32 w33 hβ34 u35 hz36 hx37 => ?_
  have nf38 : β32 ∉ m25 ++ M := (((e6.trans e20).trans e27).loM hM).fresh hβ34
  have e39 := u35.evo0 (m := m25)
  replace ho26 := ho26.step u35 (fun _ _ h => nomatch h) e39 (fun _ h => h)
  have hs40 : SL (m25 ++ M) w33 (some ⟨β32, 0, none⟩) 4 ([(UInt8.ofNat (((Pk.sumN x0) / 16777216) : Int).toNat), (UInt8.ofNat ((((Pk.sumN x0) / 65536) % 256) : Int).toNat), (UInt8.ofNat ((((Pk.sumN x0) / 256) % 256) : Int).toNat), (UInt8.ofNat (((Pk.sumN x0) % 256) : Int).toNat)] : List UInt8) := SL.of_boxL hx37 nf38 (by simp only [List.length_cons, List.length_nil]; omega) ⟨[.int .u8 (UInt8.ofNat (((Pk.sumN x0) / 16777216) : Int).toNat).toNat], _, rfl, rfl, ⟨[.int .u8 (UInt8.ofNat ((((Pk.sumN x0) / 65536) % 256) : Int).toNat).toNat], _, rfl, rfl, ⟨[.int .u8 (UInt8.ofNat ((((Pk.sumN x0) / 256) % 256) : Int).toNat).toNat], _, rfl, rfl, ⟨[.int .u8 (UInt8.ofNat (((Pk.sumN x0) % 256) : Int).toNat).toNat], _, rfl, rfl, rfl⟩⟩⟩⟩
  refine op_append ty34 ty34 ty5 rfl rfl rfl rfl rfl rfl rfl ho26 hs40 (hM.mono (((e6.trans e20).trans e27).trans e39).size) (by simp only [List.length_append, List.length_cons, List.length_nil]; omega) fun a41 c42 w43 m44 ho45 e46 u47 hbk48 hsub49 => ?_
  refine op_assign (v := .slice a41 ((([] : List UInt8) ++ x0) ++ ([(UInt8.ofNat (((Pk.sumN x0) / 16777216) : Int).toNat), (UInt8.ofNat ((((Pk.sumN x0) / 65536) % 256) : Int).toNat), (UInt8.ofNat ((((Pk.sumN x0) / 256) % 256) : Int).toNat), (UInt8.ofNat (((Pk.sumN x0) % 256) : Int).toNat)] : List UInt8)).length c42) rfl rfl rfl ?_
  refine wpList_nil ?_
  refine hK7 _ _ ?_
  refine wp_ret ?_
  have hr51 : (((([] : List UInt8) ++ x0) ++ ([(UInt8.ofNat (((Pk.sumN x0) / 16777216) : Int).toNat), (UInt8.ofNat ((((Pk.sumN x0) / 65536) % 256) : Int).toNat), (UInt8.ofNat ((((Pk.sumN x0) / 256) % 256) : Int).toNat), (UInt8.ofNat (((Pk.sumN x0) % 256) : Int).toNat)] : List UInt8)) : List UInt8) = (Pk.summed x0) := by simp [ Pk.byteOf, Pk.summed]
  exact ret1 Try.results43 rfl ⟨a41, c42, slc_eq hr51, (hr51 ▸ (ho45.shutM : SL M w43 a41 c42 (((([] : List UInt8) ++ x0) ++ ([(UInt8.ofNat (((Pk.sumN x0) / 16777216) : Int).toNat), (UInt8.ofNat ((((Pk.sumN x0) / 65536) % 256) : Int).toNat), (UInt8.ofNat ((((Pk.sumN x0) / 256) % 256) : Int).toNat), (UInt8.ofNat (((Pk.sumN x0) % 256) : Int).toNat)] : List UInt8)) : List UInt8))), ((((e6.trans e20).trans e27).trans e39).trans e46).old⟩
set_option maxHeartbeats 1000000 in
theorem c40 {M : List Nat} {w : World} {x0 : List UInt8} {a_x0 : Option Addr} {c_x0 : Nat} (hM : Lo M w) (h_x0 : SL M w a_x0 c_x0 x0) (p0 : x0.length ≤ 1000000) : Calls Try.prog 40 #[.slice a_x0 x0.length c_x0] w (Ret fun v w' => ∃ a_r0 c_r0, v = .slice a_r0 (Pk.cloneL x0).length c_r0 ∧ SL M w' a_r0 c_r0 (Pk.cloneL x0) ∧ Upd [] w w') := by
  have lh_x0 := h_x0.lt63
  refine enter (l := [.slice a_x0 x0.length c_x0]) Try.func40 rfl Try.ntmps40 rfl ?_
  refine c_seq fun KhK1 hK1 => ?_
  refine c_reg ?_
  refine op_assign (v := .slice none 0 0) rfl rfl rfl ?_
  refine wpList_nil ?_
  refine hK1 _ _ ?_
  refine c_seq fun KhK2 hK2 => ?_
  refine c_seq fun KhK3 hK3 => ?_
  refine c_reg ?_
  refine op_move (v := .slice a_x0 x0.length c_x0) rfl rfl rfl ?_
  refine op_nilS ty34 rfl rfl rfl rfl ?_
  refine wpList_nil ?_
  refine hK3 _ _ ?_
  refine c_ifB rfl rfl (fun hb4 => ?_) (fun hb4 => ?_)
  · -- (a_x0.isNone) = true
    refine c_seq fun KhK5 hK5 => ?_
    refine c_reg ?_
    refine op_assign (v := .slice none 0 0) rfl rfl rfl ?_
    refine wpList_nil ?_
    refine hK5 _ _ ?_
    refine wp_ret ?_
    have hr6 : ([] : List UInt8) = (Pk.cloneL x0) := by first | (simp [Pk.cloneL, h_x0.isNone (by assumption)]; done) | (simp [Pk.cloneL]; done)
    exact ret1 Try.results40 rfl ⟨none, 0, slc_eq hr6, (hr6 ▸ (SL.nil : SL M w none 0 ([] : List UInt8))), (Evo.refl [] w).old⟩
  · -- (a_x0.isNone) = false
    refine wp_skip ?_
    refine hK2 _ _ ?_
    refine c_seq fun KhK7 hK7 => ?_
    refine c_reg ?_
    refine op_buildSlice0 (α := UInt8) (m := []) (M := M) ty34 ty5 rfl (hM.mono (Evo.refl [] w).size) fun β14 w15 hβ16 u17 hz18 ho19 => ?_
    have e20 := u17.evoN (m := []) hβ16 hz18
    refine op_move (v := .slice a_x0 x0.length c_x0) rfl rfl rfl ?_
    refine op_append ty34 ty34 ty5 rfl rfl rfl rfl rfl rfl rfl ho19 (h_x0.mono (e20.tr M)) (hM.mono e20.size) (by simp only [List.length_append, List.length_cons, List.length_nil]; omega) fun a22 c23 w24 m25 ho26 e27 u28 hbk29 hsub30 => ?_
    refine op_assign (v := .slice a22 (([] : List UInt8) ++ x0).length c23) rfl rfl rfl ?_
    refine wpList_nil ?_
    refine hK7 _ _ ?_
    refine wp_ret ?_
    have hr32 : ((([] : List UInt8) ++ x0) : List UInt8) = (Pk.cloneL x0) := by first | (simp [Pk.cloneL, h_x0.isNone (by assumption)]; done) | (simp [Pk.cloneL]; done)
    exact ret1 Try.results40 rfl ⟨a22, c23, slc_eq hr32, (hr32 ▸ (ho26.shutM : SL M w24 a22 c23 ((([] : List UInt8) ++ x0) : List UInt8))), (e20.trans e27).old⟩
set_option maxHeartbeats 1000000 in
theorem c74 {M : List Nat} {w : World} {x0 : List Pk.Val} {a_x0 : Option Addr} {c_x0 : Nat} (hM : Lo M w) (h_x0 : SL M w a_x0 c_x0 x0) (p0 : x0.length ≤ 1000000) : Calls Try.prog 74 #[.slice a_x0 x0.length c_x0] w (Ret fun v w' => ∃ a_r0 c_r0, v = .slice a_r0 (Pk.cloneL x0).length c_r0 ∧ SL M w' a_r0 c_r0 (Pk.cloneL x0) ∧ Upd [] w w') := by
  have lh_x0 := h_x0.lt63
  refine enter (l := [.slice a_x0 x0.length c_x0]) Try.func74 rfl Try.ntmps74 rfl ?_
  refine c_seq fun KhK1 hK1 => ?_
  refine c_reg ?_
  refine op_assign (v := .slice none 0 0) rfl rfl rfl ?_
  refine wpList_nil ?_
  refine hK1 _ _ ?_
  refine c_seq fun KhK2 hK2 => ?_
  refine c_seq fun KhK3 hK3 => ?_
  refine c_reg ?_
  refine op_move (v := .slice a_x0 x0.length c_x0) rfl rfl rfl ?_
  refine op_nilS ty24 rfl rfl rfl rfl ?_
  refine wpList_nil ?_
  refine hK3 _ _ ?_
  refine c_ifB rfl rfl (fun hb4 => ?_) (fun hb4 => ?_)
  · -- (a_x0.isNone) = true
    refine c_seq fun KhK5 hK5 => ?_
    refine c_reg ?_
    refine op_assign (v := .slice none 0 0) rfl rfl rfl ?_
    refine wpList_nil ?_
    refine hK5 _ _ ?_
    refine wp_ret ?_
    have hr6 : ([] : List Pk.Val) = (Pk.cloneL x0) := by first | (simp [Pk.cloneL, h_x0.isNone (by assumption)]; done) | (simp [Pk.cloneL]; done)
    exact ret1 Try.results74 rfl ⟨none, 0, slc_eq hr6, (hr6 ▸ (SL.nil : SL M w none 0 ([] : List Pk.Val))), (Evo.refl [] w).old⟩
  · -- (a_x0.isNone) = false
    refine wp_skip ?_
    refine hK2 _ _ ?_
    refine c_seq fun KhK7 hK7 => ?_
    refine c_reg ?_
    refine op_buildSlice0 (α := Pk.Val) (m := []) (M := M) ty24 ty51 rfl (hM.mono (Evo.refl [] w).size) fun β14 w15 hβ16 u17 hz18 ho19 => ?_
    have e20 := u17.evoN (m := []) hβ16 hz18
    refine op_move (v := .slice a_x0 x0.length c_x0) rfl rfl rfl ?_
    refine op_append ty24 ty24 ty51 rfl rfl rfl rfl rfl rfl rfl ho19 (h_x0.mono (e20.tr M)) (hM.mono e20.size) (by simp only [List.length_append, List.length_cons, List.length_nil]; omega) fun a22 c23 w24 m25 ho26 e27 u28 hbk29 hsub30 => ?_
    refine op_assign (v := .slice a22 (([] : List Pk.Val) ++ x0).length c23) rfl rfl rfl ?_
    refine wpList_nil ?_
    refine hK7 _ _ ?_
    refine wp_ret ?_
    have hr32 : ((([] : List Pk.Val) ++ x0) : List Pk.Val) = (Pk.cloneL x0) := by first | (simp [Pk.cloneL, h_x0.isNone (by assumption)]; done) | (simp [Pk.cloneL]; done)
    exact ret1 Try.results74 rfl ⟨a22, c23, slc_eq hr32, (hr32 ▸ (ho26.shutM : SL M w24 a22 c23 ((([] : List Pk.Val) ++ x0) : List Pk.Val))), (e20.trans e27).old⟩
set_option maxHeartbeats 1000000 in
theorem c55 {M : List Nat} {w : World} {x0 : List Pk.Form} {a_x0 : Option Addr} {c_x0 : Nat} {x1 : ByteArray} (hM : Lo M w) (h_x0 : SL M w a_x0 c_x0 x0) : Calls Try.prog 55 #[.slice a_x0 x0.length c_x0, .string x1] w (Ret fun v w' => v = .int .i64 (Pk.rform x0 x1) ∧ Upd [] w w') := by
  have lh_x0 := h_x0.lt63
  refine enter (l := [.slice a_x0 x0.length c_x0, .string x1]) Try.func55 rfl Try.ntmps55 rfl ?_
  refine c_seq fun KhK1 hK1 => ?_
  refine c_reg ?_
  refine op_assign (v := .int .i64 0) rfl rfl rfl ?_
  refine wpList_nil ?_
  refine hK1 _ _ ?_
  refine c_seq fun KhK2 hK2 => ?_
  refine c_seq fun KhK3 hK3 => ?_
  refine c_reg ?_
  refine op_assign (v := .int .i64 0) rfl rfl rfl ?_
  refine wpList_nil ?_
  refine hK3 _ _ ?_
  refine wp_block ?_
  refine c_loop (X := Nat) [4, 5, 6, 7, 8, 9, 10, 11, 12, 13, 14, 15, 16, 17, 18, 19] (fun k => [(5, .int .i64 (k : Int))]) (fun k w1 => (k ≤ x0.length) ∧ (Pk.rform x0 x1 = Pk.rformGo x1 k (x0.drop k)) ∧ Evo [] w [] w1) (fun k => x0.length - k) (0) ⟨congrArg (Value.int .i64) (show 0 = ((0 : Nat) : Int) by omega), trivial⟩ ?_ ?_
  ·
    exact ⟨(by first | omega | simp), (by simp [Pk.rform]), Evo.refl _ _⟩
  ·
    rintro k τ w4 ⟨hi6, hi7, e5⟩
    refine c_seq fun KhK8 hK8 => ?_
    refine c_seq fun KhK9 hK9 => ?_
    refine c_reg ?_
    refine op_move (v := .int .i64 (k : Int)) rfl rfl rfl ?_
    refine op_move (v := .slice a_x0 x0.length c_x0) rfl rfl rfl ?_
    refine op_len ty22 rfl rfl rfl ?_
    refine op_lss rfl rfl rfl rfl ?_
    refine wpList_nil ?_
    refine hK9 _ _ ?_
    refine c_if rfl rfl (fun hb10 => ?_) (fun hb10 => ?_)
    · -- (k : Int) < (x0.length : Int)
      refine wp_skip ?_
      refine hK8 _ _ ?_
      refine c_seq fun KhK11 hK11 => ?_
      refine wp_block ?_
      refine c_seq fun KhK12 hK12 => ?_
      refine c_reg ?_
      refine op_move (v := .slice a_x0 x0.length c_x0) rfl rfl rfl ?_
      refine op_move (v := .int .i64 (k : Int)) rfl rfl rfl ?_
      refine op_indexN (j := k) ty22 ty91 rfl rfl rfl rfl rfl (h_x0.mono (e5.tr M)) (by omega) fun ad13 cs14 u15 hx16 he17 ca18 => ?_
      obtain ⟨a_u15, c_u15, rfl, h_u15⟩ := he17
      have lh_u15 := h_u15.lt63
      refine op_field fld91_0 rfl rfl rfl ca18.spot ?_
      refine op_loadA (v := .string u15.Name) ty9 rfl rfl rfl rfl ca18 rfl ?_
      refine op_move (v := .string x1) rfl rfl rfl ?_
      refine op_eqS rfl rfl rfl rfl ?_
      refine wpList_nil ?_
      refine hK12 _ _ ?_
      refine c_if rfl rfl (fun hb19 => ?_) (fun hb19 => ?_)
      · -- u15.Name = x1
        refine c_seq fun KhK20 hK20 => ?_
        refine c_reg ?_
        refine op_move (v := .int .i64 (k : Int)) rfl rfl rfl ?_
        refine op_assign (v := .int .i64 (k : Int)) rfl rfl rfl ?_
        refine wpList_nil ?_
        refine hK20 _ _ ?_
        refine wp_ret ?_
        have hr21 : (k : Int) = (Pk.rform x0 x1) := by rw [hi7]; simp [drop_of hx16, Pk.rformGo, hi6, hb10, hx16, hb19]
        exact ret1 Try.results55 rfl ⟨congrArg (Value.int .i64) hr21, e5.old⟩
      · -- ¬ (u15.Name = x1)
        refine wp_skip ?_
        refine hK11 _ _ ?_
        refine c_reg ?_
        refine op_move (v := .int .i64 (k : Int)) rfl rfl rfl ?_
        refine op_add rfl rfl rfl rfl (by omega) ?_
        refine op_assign (v := .int .i64 ((k : Int) + 1)) rfl rfl rfl ?_
        refine wpList_nil ?_
        repeat (with_reducible refine inBlock_normal ?_)
        with_reducible refine then_normal ?_
        exact ⟨(k + 1), (by first | omega | (dsimp only; omega)), ⟨(by first | omega | (simp only [List.length_append, List.length_cons, List.length_nil]; omega) | (rw [hi7]; simp [drop_of hx16, Pk.rformGo, hi6, hb10, hx16, hb19])), (by rw [hi7]; simp [drop_of hx16, Pk.rformGo, hi6, hb10, hx16, hb19]), (e5.drop (fun b hb => by simp [hb]))⟩, _, rfl, (by repeat first | exact agree.refl _ _ | refine agree.upd rfl ?_ | refine agree.upds rfl ?_ | refine agree.mix rfl ?_), ⟨congrArg (Value.int .i64) (show ((k : Int) + 1) = ((k + 1 : Nat) : Int) by omega), trivial⟩⟩
    · -- ¬ ((k : Int) < (x0.length : Int))
      refine wp_exit ?_
      refine hK2 _ _ ?_
      refine c_seq fun KhK22 hK22 => ?_
      refine c_reg ?_
      refine op_assign (v := .int .i64 (-1)) rfl rfl rfl ?_
      refine wpList_nil ?_
      refine hK22 _ _ ?_
      refine wp_ret ?_
      have hr23 : (-1) = (Pk.rform x0 x1) := by rw [hi7]; simp [drop_end (l := x0) (k := k) (by first | omega | (rw [bytes_length]; omega)), Pk.rformGo, hi6, hb10]
      exact ret1 Try.results55 rfl ⟨congrArg (Value.int .i64) hr23, e5.old⟩
set_option maxHeartbeats 1000000 in
theorem c57 {M : List Nat} {w : World} {x0 : Pk.Form} {a_x0 : Option Addr} {c_x0 : Nat} {x1 : ByteArray} (hM : Lo M w) (h_x0 : SL M w a_x0 c_x0 x0.Cols) : Calls Try.prog 57 #[.agg #[.string x0.Name, .slice a_x0 x0.Cols.length c_x0], .string x1] w (Ret fun v w' => v = .int .i64 (Pk.rcol x0 x1) ∧ Upd [] w w') := by
  have lh_x0 := h_x0.lt63
  refine enter (l := [.agg #[.string x0.Name, .slice a_x0 x0.Cols.length c_x0], .string x1]) Try.func57 rfl Try.ntmps57 rfl ?_
  refine c_seq fun KhK1 hK1 => ?_
  refine c_reg ?_
  refine op_box (v := .agg #[.string x0.Name, .slice a_x0 x0.Cols.length c_x0]) (zs := [.string x0.Name, .slice a_x0 x0.Cols.length c_x0]) rfl rfl rfl rfl fun β2 w3 hβ4 u5 hz6 hx7 => ?_
  have e8 := u5.evoN (m := []) hβ4 hz6
  refine op_assign (v := .int .i64 0) rfl rfl rfl ?_
  refine wpList_nil ?_
  refine hK1 _ _ ?_
  refine c_seq fun KhK9 hK9 => ?_
  refine c_seq fun KhK10 hK10 => ?_
  refine c_reg ?_
  refine op_assign (v := .int .i64 0) rfl rfl rfl ?_
  refine wpList_nil ?_
  refine hK10 _ _ ?_
  refine wp_block ?_
  refine c_loop (X := Nat) [4, 5, 6, 7, 8, 9, 10, 11, 12, 13, 14, 15, 16, 17, 18, 19, 20, 21] (fun k => [(5, .int .i64 (k : Int))]) (fun k w1 => (k ≤ x0.Cols.length) ∧ (Pk.rcol x0 x1 = Pk.rcolGo x1 k (x0.Cols.drop k)) ∧ Evo (β2 :: []) w3 (β2 :: []) w1 ∧ Box w1 β2 [.string x0.Name, .slice a_x0 x0.Cols.length c_x0]) (fun k => x0.Cols.length - k) (0) ⟨congrArg (Value.int .i64) (show 0 = ((0 : Nat) : Int) by omega), trivial⟩ ?_ ?_
  ·
    exact ⟨(by first | omega | simp), (by simp [Pk.rcol]), Evo.refl _ _, hx7⟩
  ·
    rintro k τ w11 ⟨hi13, hi14, e12, hx7⟩
    refine c_seq fun KhK15 hK15 => ?_
    refine c_seq fun KhK16 hK16 => ?_
    refine c_reg ?_
    refine op_move (v := .int .i64 (k : Int)) rfl rfl rfl ?_
    refine op_fieldB fld91_1 rfl rfl rfl ?_
    refine op_loadB (v := .slice a_x0 x0.Cols.length c_x0) ty89 rfl rfl rfl rfl hx7 rfl ?_
    refine op_len ty89 rfl rfl rfl ?_
    refine op_lss rfl rfl rfl rfl ?_
    refine wpList_nil ?_
    refine hK16 _ _ ?_
    refine c_if rfl rfl (fun hb17 => ?_) (fun hb17 => ?_)
    · -- (k : Int) < (x0.Cols.length : Int)
      refine wp_skip ?_
      refine hK15 _ _ ?_
      refine c_seq fun KhK18 hK18 => ?_
      refine wp_block ?_
      refine c_seq fun KhK19 hK19 => ?_
      refine c_reg ?_
      refine op_fieldB fld91_1 rfl rfl rfl ?_
      refine op_loadB (v := .slice a_x0 x0.Cols.length c_x0) ty89 rfl rfl rfl rfl hx7 rfl ?_
      refine op_move (v := .int .i64 (k : Int)) rfl rfl rfl ?_
      refine op_indexN (j := k) ty89 ty93 rfl rfl rfl rfl rfl (h_x0.mono ((e8.trans e12).tr M)) (by omega) fun ad20 cs21 u22 hx23 he24 ca25 => ?_
      obtain rfl := he24
      refine op_field fld93_0 rfl rfl rfl ca25.spot ?_
      refine op_loadA (v := .string u22.Name) ty9 rfl rfl rfl rfl ca25 rfl ?_
      refine op_move (v := .string x1) rfl rfl rfl ?_
      refine op_eqS rfl rfl rfl rfl ?_
      refine wpList_nil ?_
      refine hK19 _ _ ?_
      refine c_if rfl rfl (fun hb26 => ?_) (fun hb26 => ?_)
      · -- u22.Name = x1
        refine c_seq fun KhK27 hK27 => ?_
        refine c_reg ?_
        refine op_move (v := .int .i64 (k : Int)) rfl rfl rfl ?_
        refine op_assign (v := .int .i64 (k : Int)) rfl rfl rfl ?_
        refine wpList_nil ?_
        refine hK27 _ _ ?_
        refine wp_ret ?_
        have hr28 : (k : Int) = (Pk.rcol x0 x1) := by rw [hi14]; simp [drop_of hx23, Pk.rcolGo, hi13, hb17, hx23, hb26]
        exact ret1 Try.results57 rfl ⟨congrArg (Value.int .i64) hr28, (e8.trans e12).old⟩
      · -- ¬ (u22.Name = x1)
        refine wp_skip ?_
        refine hK18 _ _ ?_
        refine c_reg ?_
        refine op_move (v := .int .i64 (k : Int)) rfl rfl rfl ?_
        refine op_add rfl rfl rfl rfl (by omega) ?_
        refine op_assign (v := .int .i64 ((k : Int) + 1)) rfl rfl rfl ?_
        refine wpList_nil ?_
        repeat (with_reducible refine inBlock_normal ?_)
        with_reducible refine then_normal ?_
        exact ⟨(k + 1), (by first | omega | (dsimp only; omega)), ⟨(by first | omega | (simp only [List.length_append, List.length_cons, List.length_nil]; omega) | (rw [hi14]; simp [drop_of hx23, Pk.rcolGo, hi13, hb17, hx23, hb26])), (by rw [hi14]; simp [drop_of hx23, Pk.rcolGo, hi13, hb17, hx23, hb26]), (e12.drop (fun b hb => by simp [hb])), hx7⟩, _, rfl, (by repeat first | exact agree.refl _ _ | refine agree.upd rfl ?_ | refine agree.upds rfl ?_ | refine agree.mix rfl ?_), ⟨congrArg (Value.int .i64) (show ((k : Int) + 1) = ((k + 1 : Nat) : Int) by omega), trivial⟩⟩
    · -- ¬ ((k : Int) < (x0.Cols.length : Int))
      refine wp_exit ?_
      refine hK9 _ _ ?_
      refine c_seq fun KhK29 hK29 => ?_
      refine c_reg ?_
      refine op_assign (v := .int .i64 (-1)) rfl rfl rfl ?_
      refine wpList_nil ?_
      refine hK29 _ _ ?_
      refine wp_ret ?_
      have hr30 : (-1) = (Pk.rcol x0 x1) := by rw [hi14]; simp [drop_end (l := x0.Cols) (k := k) (by first | omega | (rw [bytes_length]; omega)), Pk.rcolGo, hi13, hb17]
      exact ret1 Try.results57 rfl ⟨congrArg (Value.int .i64) hr30, (e8.trans e12).old⟩
set_option maxHeartbeats 1000000 in
theorem c148 {M : List Nat} {w : World} {x0 : UInt8} (hM : Lo M w)  : Calls Try.prog 148 #[.int .u8 x0.toNat] w (Ret fun v w' => v = .bool (Pk.isSmallByte x0) ∧ Upd [] w w') := by
  refine enter (l := [.int .u8 x0.toNat]) Try.func148 rfl Try.ntmps148 rfl ?_
  refine c_seq fun KhK1 hK1 => ?_
  refine c_reg ?_
  refine op_assign (v := .bool false) rfl rfl rfl ?_
  refine wpList_nil ?_
  refine hK1 _ _ ?_
  refine c_seq fun KhK2 hK2 => ?_
  refine c_reg ?_
  refine op_move (v := .int .u8 x0.toNat) rfl rfl rfl ?_
  refine op_geq rfl rfl rfl rfl ?_
  refine op_move (v := .bool (decide (97 ≤ (x0.toNat : Int)))) rfl rfl rfl ?_
  refine op_part 5 rfl (fun hb3 => ?_) (fun hb3 => ?_)
  · -- 97 ≤ (x0.toNat : Int)
    refine op_move (v := .int .u8 x0.toNat) rfl rfl rfl ?_
    refine op_leq rfl rfl rfl rfl ?_
    refine op_pickT (v := .bool (decide ((x0.toNat : Int) ≤ 122))) rfl rfl rfl rfl ?_
    refine op_assign (v := .bool (decide ((x0.toNat : Int) ≤ 122))) rfl rfl rfl ?_
    refine wpList_nil ?_
    refine hK2 _ _ ?_
    refine wp_ret ?_
    have hr4 : (decide ((x0.toNat : Int) ≤ 122)) = (Pk.isSmallByte x0) := by simp [ Pk.isSmallByte, hb3]
    exact ret1 Try.results148 rfl ⟨congrArg Value.bool hr4, (Evo.refl [] w).old⟩
  · -- ¬ (97 ≤ (x0.toNat : Int))
    refine op_not rfl ?_
    refine op_not rfl ?_
    refine op_pickF (v := .bool false) rfl rfl rfl rfl ?_
    refine op_assign (v := .bool false) rfl rfl rfl ?_
    refine wpList_nil ?_
    refine hK2 _ _ ?_
    refine wp_ret ?_
    have hr5 : false = (Pk.isSmallByte x0) := by simp [ Pk.isSmallByte, hb3]
    exact ret1 Try.results148 rfl ⟨congrArg Value.bool hr5, (Evo.refl [] w).old⟩
set_option maxHeartbeats 1000000 in
theorem c149 {M : List Nat} {w : World} {x0 : UInt8} (hM : Lo M w)  : Calls Try.prog 149 #[.int .u8 x0.toNat] w (Ret fun v w' => v = .bool (Pk.isCapByte x0) ∧ Upd [] w w') := by
  refine enter (l := [.int .u8 x0.toNat]) Try.func149 rfl Try.ntmps149 rfl ?_
  refine c_seq fun KhK1 hK1 => ?_
  refine c_reg ?_
  refine op_assign (v := .bool false) rfl rfl rfl ?_
  refine wpList_nil ?_
  refine hK1 _ _ ?_
  refine c_seq fun KhK2 hK2 => ?_
  refine c_reg ?_
  refine op_move (v := .int .u8 x0.toNat) rfl rfl rfl ?_
  refine op_geq rfl rfl rfl rfl ?_
  refine op_move (v := .bool (decide (65 ≤ (x0.toNat : Int)))) rfl rfl rfl ?_
  refine op_part 5 rfl (fun hb3 => ?_) (fun hb3 => ?_)
  · -- 65 ≤ (x0.toNat : Int)
    refine op_move (v := .int .u8 x0.toNat) rfl rfl rfl ?_
    refine op_leq rfl rfl rfl rfl ?_
    refine op_pickT (v := .bool (decide ((x0.toNat : Int) ≤ 90))) rfl rfl rfl rfl ?_
    refine op_assign (v := .bool (decide ((x0.toNat : Int) ≤ 90))) rfl rfl rfl ?_
    refine wpList_nil ?_
    refine hK2 _ _ ?_
    refine wp_ret ?_
    have hr4 : (decide ((x0.toNat : Int) ≤ 90)) = (Pk.isCapByte x0) := by simp [ Pk.isCapByte, hb3]
    exact ret1 Try.results149 rfl ⟨congrArg Value.bool hr4, (Evo.refl [] w).old⟩
  · -- ¬ (65 ≤ (x0.toNat : Int))
    refine op_not rfl ?_
    refine op_not rfl ?_
    refine op_pickF (v := .bool false) rfl rfl rfl rfl ?_
    refine op_assign (v := .bool false) rfl rfl rfl ?_
    refine wpList_nil ?_
    refine hK2 _ _ ?_
    refine wp_ret ?_
    have hr5 : false = (Pk.isCapByte x0) := by simp [ Pk.isCapByte, hb3]
    exact ret1 Try.results149 rfl ⟨congrArg Value.bool hr5, (Evo.refl [] w).old⟩
set_option maxHeartbeats 1000000 in
theorem c132 {M : List Nat} {w : World} {x0 : UInt8} (hM : Lo M w)  : Calls Try.prog 132 #[.int .u8 x0.toNat] w (Ret fun v w' => v = .bool (Pk.isDigByte x0) ∧ Upd [] w w') := by
  refine enter (l := [.int .u8 x0.toNat]) Try.func132 rfl Try.ntmps132 rfl ?_
  refine c_seq fun KhK1 hK1 => ?_
  refine c_reg ?_
  refine op_assign (v := .bool false) rfl rfl rfl ?_
  refine wpList_nil ?_
  refine hK1 _ _ ?_
  refine c_seq fun KhK2 hK2 => ?_
  refine c_reg ?_
  refine op_move (v := .int .u8 x0.toNat) rfl rfl rfl ?_
  refine op_geq rfl rfl rfl rfl ?_
  refine op_move (v := .bool (decide (48 ≤ (x0.toNat : Int)))) rfl rfl rfl ?_
  refine op_part 5 rfl (fun hb3 => ?_) (fun hb3 => ?_)
  · -- 48 ≤ (x0.toNat : Int)
    refine op_move (v := .int .u8 x0.toNat) rfl rfl rfl ?_
    refine op_leq rfl rfl rfl rfl ?_
    refine op_pickT (v := .bool (decide ((x0.toNat : Int) ≤ 57))) rfl rfl rfl rfl ?_
    refine op_assign (v := .bool (decide ((x0.toNat : Int) ≤ 57))) rfl rfl rfl ?_
    refine wpList_nil ?_
    refine hK2 _ _ ?_
    refine wp_ret ?_
    have hr4 : (decide ((x0.toNat : Int) ≤ 57)) = (Pk.isDigByte x0) := by simp [ Pk.isDigByte, hb3]
    exact ret1 Try.results132 rfl ⟨congrArg Value.bool hr4, (Evo.refl [] w).old⟩
  · -- ¬ (48 ≤ (x0.toNat : Int))
    refine op_not rfl ?_
    refine op_not rfl ?_
    refine op_pickF (v := .bool false) rfl rfl rfl rfl ?_
    refine op_assign (v := .bool false) rfl rfl rfl ?_
    refine wpList_nil ?_
    refine hK2 _ _ ?_
    refine wp_ret ?_
    have hr5 : false = (Pk.isDigByte x0) := by simp [ Pk.isDigByte, hb3]
    exact ret1 Try.results132 rfl ⟨congrArg Value.bool hr5, (Evo.refl [] w).old⟩
set_option maxHeartbeats 1000000 in
theorem c146 {M : List Nat} {w : World} {x0 : UInt8} (hM : Lo M w)  : Calls Try.prog 146 #[.int .u8 x0.toNat] w (Ret fun v w' => v = .bool (Pk.isPart x0) ∧ Upd [] w w') := by
  refine enter (l := [.int .u8 x0.toNat]) Try.func146 rfl Try.ntmps146 rfl ?_
  refine c_seq fun KhK1 hK1 => ?_
  refine c_reg ?_
  refine op_assign (v := .bool false) rfl rfl rfl ?_
  refine wpList_nil ?_
  refine hK1 _ _ ?_
  refine c_seq fun KhK2 hK2 => ?_
  refine c_reg ?_
  refine op_move (v := .int .u8 x0.toNat) rfl rfl rfl ?_
  refine op_call (args := [.int .u8 x0.toNat]) cal148 rfl rfl rfl (c148 (x0 := x0) ((Evo.refl [] w).loM hM)) ?_
  rintro _ w3 ⟨rfl, u4⟩
  have e6 := u4.evo0 (m := [])
  refine op_move (v := .bool (Pk.isSmallByte x0)) rfl rfl rfl ?_
  refine op_partB 5 rfl (fun hb7 => ?_) (fun hb7 => ?_)
  · -- (Pk.isSmallByte x0) = true
    refine op_not rfl ?_
    refine op_not rfl ?_
    refine op_pickT (v := .bool true) rfl rfl rfl rfl ?_
    refine op_move (v := .bool true) rfl rfl rfl ?_
    refine op_not rfl ?_
    refine op_not rfl ?_
    refine op_pickT (v := .bool true) rfl rfl rfl rfl ?_
    refine op_move (v := .bool true) rfl rfl rfl ?_
    refine op_not rfl ?_
    refine op_not rfl ?_
    refine op_pickT (v := .bool true) rfl rfl rfl rfl ?_
    refine op_assign (v := .bool true) rfl rfl rfl ?_
    refine wpList_nil ?_
    refine hK2 _ _ ?_
    refine wp_ret ?_
    have hr8 : true = (Pk.isPart x0) := by simp [ Pk.isPart, hb7]
    exact ret1 Try.results146 rfl ⟨congrArg Value.bool hr8, e6.old⟩
  · -- (Pk.isSmallByte x0) = false
    refine op_move (v := .int .u8 x0.toNat) rfl rfl rfl ?_
    refine op_call (args := [.int .u8 x0.toNat]) cal149 rfl rfl rfl (c149 (x0 := x0) (e6.loM hM)) ?_
    rintro _ w9 ⟨rfl, u10⟩
    have e12 := u10.evo0 (m := [])
    refine op_pickF (v := .bool (Pk.isCapByte x0)) rfl rfl rfl rfl ?_
    refine op_move (v := .bool (Pk.isCapByte x0)) rfl rfl rfl ?_
    refine op_partB 9 rfl (fun hb13 => ?_) (fun hb13 => ?_)
    · -- (Pk.isCapByte x0) = true
      refine op_not rfl ?_
      refine op_not rfl ?_
      refine op_pickT (v := .bool true) rfl rfl rfl rfl ?_
      refine op_move (v := .bool true) rfl rfl rfl ?_
      refine op_not rfl ?_
      refine op_not rfl ?_
      refine op_pickT (v := .bool true) rfl rfl rfl rfl ?_
      refine op_assign (v := .bool true) rfl rfl rfl ?_
      refine wpList_nil ?_
      refine hK2 _ _ ?_
      refine wp_ret ?_
      have hr14 : true = (Pk.isPart x0) := by simp [ Pk.isPart, hb7, hb13]
      exact ret1 Try.results146 rfl ⟨congrArg Value.bool hr14, (e6.trans e12).old⟩
    · -- (Pk.isCapByte x0) = false
      refine op_move (v := .int .u8 x0.toNat) rfl rfl rfl ?_
      refine op_call (args := [.int .u8 x0.toNat]) cal132 rfl rfl rfl (c132 (x0 := x0) ((e6.trans e12).loM hM)) ?_
      rintro _ w15 ⟨rfl, u16⟩
      have e18 := u16.evo0 (m := [])
      refine op_pickF (v := .bool (Pk.isDigByte x0)) rfl rfl rfl rfl ?_
      refine op_move (v := .bool (Pk.isDigByte x0)) rfl rfl rfl ?_
      refine op_partB 13 rfl (fun hb19 => ?_) (fun hb19 => ?_)
      · -- (Pk.isDigByte x0) = true
        refine op_not rfl ?_
        refine op_not rfl ?_
        refine op_pickT (v := .bool true) rfl rfl rfl rfl ?_
        refine op_assign (v := .bool true) rfl rfl rfl ?_
        refine wpList_nil ?_
        refine hK2 _ _ ?_
        refine wp_ret ?_
        have hr20 : true = (Pk.isPart x0) := by simp [ Pk.isPart, hb7, hb13, hb19]
        exact ret1 Try.results146 rfl ⟨congrArg Value.bool hr20, ((e6.trans e12).trans e18).old⟩
      · -- (Pk.isDigByte x0) = false
        refine op_move (v := .int .u8 x0.toNat) rfl rfl rfl ?_
        refine op_eq rfl rfl rfl rfl ?_
        refine op_pickF (v := .bool (decide ((x0.toNat : Int) = 95))) rfl rfl rfl rfl ?_
        refine op_assign (v := .bool (decide ((x0.toNat : Int) = 95))) rfl rfl rfl ?_
        refine wpList_nil ?_
        refine hK2 _ _ ?_
        refine wp_ret ?_
        have hr21 : (decide ((x0.toNat : Int) = 95)) = (Pk.isPart x0) := by simp [ Pk.isPart, hb7, hb13, hb19]
        exact ret1 Try.results146 rfl ⟨congrArg Value.bool hr21, ((e6.trans e12).trans e18).old⟩
set_option maxHeartbeats 1000000 in
theorem c129 {M : List Nat} {w : World} {x0 : List ByteArray} {a_x0 : Option Addr} {c_x0 : Nat} {x1 : ByteArray} (hM : Lo M w) (h_x0 : SL M w a_x0 c_x0 x0) : Calls Try.prog 129 #[.slice a_x0 x0.length c_x0, .string x1] w (Ret fun v w' => v = .bool (Pk.rhas x0 x1) ∧ Upd [] w w') := by
  have lh_x0 := h_x0.lt63
  refine enter (l := [.slice a_x0 x0.length c_x0, .string x1]) Try.func129 rfl Try.ntmps129 rfl ?_
  refine c_seq fun KhK1 hK1 => ?_
  refine c_reg ?_
  refine op_assign (v := .bool false) rfl rfl rfl ?_
  refine wpList_nil ?_
  refine hK1 _ _ ?_
  refine c_seq fun KhK2 hK2 => ?_
  refine c_seq fun KhK3 hK3 => ?_
  refine c_reg ?_
  refine op_assign (v := .int .i64 0) rfl rfl rfl ?_
  refine wpList_nil ?_
  refine hK3 _ _ ?_
  refine wp_block ?_
  refine c_loop (X := Nat) [4, 5, 6, 7, 8, 9, 10, 11, 12, 13, 14, 15, 16, 17] (fun k => [(5, .int .i64 (k : Int))]) (fun k w1 => (k ≤ x0.length) ∧ (Pk.rhas x0 x1 = Pk.rhasGo x1 (x0.drop k)) ∧ Evo [] w [] w1) (fun k => x0.length - k) (0) ⟨congrArg (Value.int .i64) (show 0 = ((0 : Nat) : Int) by omega), trivial⟩ ?_ ?_
  ·
    exact ⟨(by first | omega | simp), (by simp [Pk.rhas]), Evo.refl _ _⟩
  ·
    rintro k τ w4 ⟨hi6, hi7, e5⟩
    refine c_seq fun KhK8 hK8 => ?_
    refine c_seq fun KhK9 hK9 => ?_
    refine c_reg ?_
    refine op_move (v := .int .i64 (k : Int)) rfl rfl rfl ?_
    refine op_move (v := .slice a_x0 x0.length c_x0) rfl rfl rfl ?_
    refine op_len ty138 rfl rfl rfl ?_
    refine op_lss rfl rfl rfl rfl ?_
    refine wpList_nil ?_
    refine hK9 _ _ ?_
    refine c_if rfl rfl (fun hb10 => ?_) (fun hb10 => ?_)
    · -- (k : Int) < (x0.length : Int)
      refine wp_skip ?_
      refine hK8 _ _ ?_
      refine c_seq fun KhK11 hK11 => ?_
      refine wp_block ?_
      refine c_seq fun KhK12 hK12 => ?_
      refine c_reg ?_
      refine op_move (v := .slice a_x0 x0.length c_x0) rfl rfl rfl ?_
      refine op_move (v := .int .i64 (k : Int)) rfl rfl rfl ?_
      refine op_indexN (j := k) ty138 ty9 rfl rfl rfl rfl rfl (h_x0.mono (e5.tr M)) (by omega) fun ad13 cs14 u15 hx16 he17 ca18 => ?_
      obtain rfl := he17
      refine op_loadA0 (v := .string u15) ty9 rfl rfl rfl rfl ca18 rfl ?_
      refine op_move (v := .string x1) rfl rfl rfl ?_
      refine op_eqS rfl rfl rfl rfl ?_
      refine wpList_nil ?_
      refine hK12 _ _ ?_
      refine c_if rfl rfl (fun hb19 => ?_) (fun hb19 => ?_)
      · -- u15 = x1
        refine c_seq fun KhK20 hK20 => ?_
        refine c_reg ?_
        refine op_assign (v := .bool true) rfl rfl rfl ?_
        refine wpList_nil ?_
        refine hK20 _ _ ?_
        refine wp_ret ?_
        have hr21 : true = (Pk.rhas x0 x1) := by rw [hi7]; simp [drop_of hx16, Pk.rhasGo, hi6, hb10, hx16, hb19]
        exact ret1 Try.results129 rfl ⟨congrArg Value.bool hr21, e5.old⟩
      · -- ¬ (u15 = x1)
        refine wp_skip ?_
        refine hK11 _ _ ?_
        refine c_reg ?_
        refine op_move (v := .int .i64 (k : Int)) rfl rfl rfl ?_
        refine op_add rfl rfl rfl rfl (by omega) ?_
        refine op_assign (v := .int .i64 ((k : Int) + 1)) rfl rfl rfl ?_
        refine wpList_nil ?_
        repeat (with_reducible refine inBlock_normal ?_)
        with_reducible refine then_normal ?_
        exact ⟨(k + 1), (by first | omega | (dsimp only; omega)), ⟨(by first | omega | (simp only [List.length_append, List.length_cons, List.length_nil]; omega) | (rw [hi7]; simp [drop_of hx16, Pk.rhasGo, hi6, hb10, hx16, hb19])), (by rw [hi7]; simp [drop_of hx16, Pk.rhasGo, hi6, hb10, hx16, hb19]), (e5.drop (fun b hb => by simp [hb]))⟩, _, rfl, (by repeat first | exact agree.refl _ _ | refine agree.upd rfl ?_ | refine agree.upds rfl ?_ | refine agree.mix rfl ?_), ⟨congrArg (Value.int .i64) (show ((k : Int) + 1) = ((k + 1 : Nat) : Int) by omega), trivial⟩⟩
    · -- ¬ ((k : Int) < (x0.length : Int))
      refine wp_exit ?_
      refine hK2 _ _ ?_
      refine c_seq fun KhK22 hK22 => ?_
      refine c_reg ?_
      refine op_assign (v := .bool false) rfl rfl rfl ?_
      refine wpList_nil ?_
      refine hK22 _ _ ?_
      refine wp_ret ?_
      have hr23 : false = (Pk.rhas x0 x1) := by rw [hi7]; simp [drop_end (l := x0) (k := k) (by first | omega | (rw [bytes_length]; omega)), Pk.rhasGo, hi6, hb10]
      exact ret1 Try.results129 rfl ⟨congrArg Value.bool hr23, e5.old⟩
end Go.Proofs.Ytcnhjofpmpipfaa
