import Derived.Test.YtcnhjofpmpipfaaW4
set_option linter.unusedVariables false
set_option linter.unusedSimpArgs false
set_option maxRecDepth 100000
namespace Go.Proofs.Ytcnhjofpmpipfaa
open Go Go.Sx Go.RowKit
open Go.Sx.Dat (enc)
attribute [local irreducible] Go.wpList Go.wpQuiet Go.Code.wp
set_option maxHeartbeats 1000000 in
theorem c131 {M : List Nat} {w : World} {x0 : ByteArray} {x1 : Int} (hM : Lo M w) (p0 : 0 ≤ x1) (p1 : x1 < 4611686018427387904) (p2 : x0.size < 4611686018427387904) : Calls Try.prog 131 #[.string x0, .int .i64 x1] w (Ret fun v w' => v = .int .i64 (Pk.run x0 x1) ∧ Upd [] w w') := by
  refine enter (l := [.string x0, .int .i64 x1]) Try.func131 rfl Try.ntmps131 rfl ?_
  refine c_seq fun KhK1 hK1 => ?_
  refine c_reg ?_
  refine op_assign (v := .int .i64 0) rfl rfl rfl ?_
  refine wpList_nil ?_
  refine hK1 _ _ ?_
  refine c_seq fun KhK2 hK2 => ?_
  refine c_reg ?_
  refine op_assign (v := .int .i64 0) rfl rfl rfl ?_
  refine wpList_nil ?_
  refine hK2 _ _ ?_
  refine c_seq fun KhK3 hK3 => ?_
  refine wp_block ?_
  refine c_loop (X := Nat × Nat) [5, 6, 7, 8, 9, 10, 11, 12, 13, 14, 15, 16, 17, 18, 19, 20, 21] (fun ⟨n, f⟩ => [(5, .int .i64 (n : Int))]) (fun ⟨n, f⟩ w1 => (x0.size ≤ n + f) ∧ (n ≤ x0.size) ∧ (Pk.run x0 x1 = Pk.runGo x0 x1 f n) ∧ Evo [] w [] w1) (fun ⟨n, f⟩ => f) ⟨0, x0.size⟩ ⟨congrArg (Value.int .i64) (show 0 = ((0 : Nat) : Int) by omega), trivial⟩ ?_ ?_
  ·
    exact ⟨(by first | omega | simp), (by first | omega | simp), (by rfl), Evo.refl _ _⟩
  ·
    rintro ⟨n, f⟩ τ w4 ⟨hi6, hi7, hi8, e5⟩
    refine c_seq fun KhK9 hK9 => ?_
    refine c_seq fun KhK10 hK10 => ?_
    refine c_reg ?_
    refine op_move (v := .int .i64 x1) rfl rfl rfl ?_
    refine op_move (v := .int .i64 (n : Int)) rfl rfl rfl ?_
    refine op_add rfl rfl rfl rfl (by omega) ?_
    refine op_move (v := .string x0) rfl rfl rfl ?_
    refine op_lenS ty9.und rfl rfl rfl ?_
    refine op_lss rfl rfl rfl rfl ?_
    refine op_move (v := .bool (decide ((x1 + (n : Int)) < (x0.size : Int)))) rfl rfl rfl ?_
    refine op_part 12 rfl (fun hb11 => ?_) (fun hb11 => ?_)
    · -- (x1 + (n : Int)) < (x0.size : Int)
      refine op_move (v := .string x0) rfl rfl rfl ?_
      refine op_move (v := .int .i64 x1) rfl rfl rfl ?_
      refine op_move (v := .int .i64 (n : Int)) rfl rfl rfl ?_
      refine op_add rfl rfl rfl rfl (by omega) ?_
      refine op_indexS (i := (x1 + (n : Int))) ty9.und rfl rfl rfl rfl (by omega) (by first | omega | (have := bsz (by assumption); omega)) ?_
      have hx12 := bytes_get (s := x0) (k := (x1 + (n : Int)).toNat) (by first | omega | (have := bsz (by assumption); omega))
      have lt13 := (byteAt x0 ((x1 + (n : Int)).toNat)).toNat_lt
      refine op_call (args := [.int .u8 (byteAt x0 ((x1 + (n : Int)).toNat)).toNat]) cal146 rfl rfl rfl (c146 (x0 := (byteAt x0 ((x1 + (n : Int)).toNat))) (e5.loM hM)) ?_
      rintro _ w14 ⟨rfl, u15⟩
      have e17 := u15.evo0 (m := [])
      refine op_pickT (v := .bool (Pk.isPart (byteAt x0 ((x1 + (n : Int)).toNat)))) rfl rfl rfl rfl ?_
      refine wpList_nil ?_
      refine hK10 _ _ ?_
      refine c_ifB rfl rfl (fun hb18 => ?_) (fun hb18 => ?_)
      · -- (Pk.isPart (byteAt x0 ((x1 + (n : Int)).toNat))) = true
        refine wp_skip ?_
        refine hK9 _ _ ?_
        refine wp_block ?_
        refine c_reg ?_
        refine op_move (v := .int .i64 (n : Int)) rfl rfl rfl ?_
        refine op_add rfl rfl rfl rfl (by omega) ?_
        refine op_assign (v := .int .i64 ((n : Int) + 1)) rfl rfl rfl ?_
        refine wpList_nil ?_
        repeat (with_reducible refine inBlock_normal ?_)
        with_reducible refine then_normal ?_
        exact ⟨⟨n + 1, (f - 1)⟩, (by first | omega | (dsimp only; omega)), ⟨(by first | omega | (simp only [List.length_append, List.length_cons, List.length_nil]; omega) | (rw [hi8]; cases f with | zero => omega | succ f => simp [Pk.runGo, hi6, hi7, hb11, hx12, hb18])), (by first | omega | (simp only [List.length_append, List.length_cons, List.length_nil]; omega) | (rw [hi8]; cases f with | zero => omega | succ f => simp [Pk.runGo, hi6, hi7, hb11, hx12, hb18])), (by rw [hi8]; cases f with | zero => omega | succ f => simp [Pk.runGo, hi6, hi7, hb11, hx12, hb18]), ((e5.trans e17).drop (fun b hb => by simp [hb]))⟩, _, rfl, (by repeat first | exact agree.refl _ _ | refine agree.upd rfl ?_ | refine agree.upds rfl ?_ | refine agree.mix rfl ?_), ⟨congrArg (Value.int .i64) (show ((n : Int) + 1) = ((n + 1 : Nat) : Int) by omega), trivial⟩⟩
      · -- (Pk.isPart (byteAt x0 ((x1 + (n : Int)).toNat))) = false
        refine wp_exit ?_
        refine hK3 _ _ ?_
        refine c_seq fun KhK19 hK19 => ?_
        refine c_reg ?_
        refine op_move (v := .int .i64 (n : Int)) rfl rfl rfl ?_
        refine op_assign (v := .int .i64 (n : Int)) rfl rfl rfl ?_
        refine wpList_nil ?_
        refine hK19 _ _ ?_
        refine wp_ret ?_
        have hr20 : (n : Int) = (Pk.run x0 x1) := by rw [hi8]; first | (rw [Pk.runGo_end (by assumption)]; done) | (cases f with | zero => omega | succ f => simp [Pk.runGo, hi6, hi7, hb11, hx12, hb18])
        exact ret1 Try.results131 rfl ⟨congrArg (Value.int .i64) hr20, (e5.trans e17).old⟩
    · -- ¬ ((x1 + (n : Int)) < (x0.size : Int))
      refine op_not rfl ?_
      refine op_not rfl ?_
      refine op_not rfl ?_
      refine op_not rfl ?_
      refine op_not rfl ?_
      refine op_not rfl ?_
      refine op_pickF (v := .bool false) rfl rfl rfl rfl ?_
      refine wpList_nil ?_
      refine hK10 _ _ ?_
      refine c_ifF rfl rfl ?_
      refine wp_exit ?_
      refine hK3 _ _ ?_
      refine c_seq fun KhK21 hK21 => ?_
      refine c_reg ?_
      refine op_move (v := .int .i64 (n : Int)) rfl rfl rfl ?_
      refine op_assign (v := .int .i64 (n : Int)) rfl rfl rfl ?_
      refine wpList_nil ?_
      refine hK21 _ _ ?_
      refine wp_ret ?_
      have hr22 : (n : Int) = (Pk.run x0 x1) := by rw [hi8]; first | (rw [Pk.runGo_end (by assumption)]; done) | (cases f with | zero => omega | succ f => simp [Pk.runGo, hi6, hi7, hb11])
      exact ret1 Try.results131 rfl ⟨congrArg (Value.int .i64) hr22, e5.old⟩
set_option maxHeartbeats 1000000 in
theorem c133 {M : List Nat} {w : World} {x0 : ByteArray} (hM : Lo M w) (p0 : x0.size < 9223372036854775808) (p1 : 0 < x0.size) : Calls Try.prog 133 #[.string x0] w (Ret fun v w' => v = .agg #[.int .i64 ((Pk.rnumber x0).N), .int .i64 ((Pk.rnumber x0).E)] ∧ Upd [] w w') := by
  refine enter (l := [.string x0]) Try.func133 rfl Try.ntmps133 rfl ?_
  refine c_seq fun KhK1 hK1 => ?_
  refine c_reg ?_
  refine op_alloc (zs := [.int .i64 0, .int .i64 0]) ty186 rfl rfl fun β2 w3 hβ4 u5 hz6 hx7 => ?_
  have e8 := u5.evoN (m := []) hβ4 hz6
  refine wpList_nil ?_
  refine hK1 _ _ ?_
  refine c_seq fun KhK9 hK9 => ?_
  refine c_seq fun KhK10 hK10 => ?_
  refine c_reg ?_
  refine op_assign (v := .int .i64 0) rfl rfl rfl ?_
  refine wpList_nil ?_
  refine hK10 _ _ ?_
  refine wp_block ?_
  refine c_loop (X := Nat) [3, 6, 7, 8, 9, 10, 11, 12, 13, 14, 15, 16, 17] (fun k => [(3, .int .i64 (k : Int))]) (fun k w1 => (k ≤ x0.size) ∧ (Pk.allDig (sbytes x0) = Pk.allDig ((sbytes x0).drop k)) ∧ Evo (β2 :: []) w3 (β2 :: []) w1 ∧ Box w1 β2 [.int .i64 0, .int .i64 0]) (fun k => x0.size - k) (0) ⟨congrArg (Value.int .i64) (show 0 = ((0 : Nat) : Int) by omega), trivial⟩ ?_ ?_
  ·
    exact ⟨(by first | omega | simp), (by simp), Evo.refl _ _, hx7⟩
  ·
    rintro k τ w11 ⟨hi13, hi14, e12, hx7⟩
    refine c_seq fun KhK15 hK15 => ?_
    refine c_seq fun KhK16 hK16 => ?_
    refine c_reg ?_
    refine op_move (v := .int .i64 (k : Int)) rfl rfl rfl ?_
    refine op_move (v := .string x0) rfl rfl rfl ?_
    refine op_lenS ty9.und rfl rfl rfl ?_
    refine op_lss rfl rfl rfl rfl ?_
    refine wpList_nil ?_
    refine hK16 _ _ ?_
    refine c_if rfl rfl (fun hb17 => ?_) (fun hb17 => ?_)
    · -- (k : Int) < (x0.size : Int)
      refine wp_skip ?_
      refine hK15 _ _ ?_
      refine c_seq fun KhK18 hK18 => ?_
      refine wp_block ?_
      refine c_seq fun KhK19 hK19 => ?_
      refine c_reg ?_
      refine op_move (v := .string x0) rfl rfl rfl ?_
      refine op_move (v := .int .i64 (k : Int)) rfl rfl rfl ?_
      refine op_indexSN (j := k) ty9.und rfl rfl rfl rfl (by first | omega | (have := bsz (by assumption); omega)) ?_
      have hx20 := bytes_get (s := x0) (k := k) (by first | omega | (have := bsz (by assumption); omega))
      try (have := (by assumption : ∀ b ∈ sbytes x0, 48 ≤ (b.toNat : Int) ∧ (b.toNat : Int) ≤ 57) _ (List.mem_of_getElem? hx20))
      have lt21 := (byteAt x0 k).toNat_lt
      refine op_call (args := [.int .u8 (byteAt x0 k).toNat]) cal132 rfl rfl rfl (c132 (x0 := (byteAt x0 k)) ((e8.trans e12).loM hM)) ?_
      rintro _ w22 ⟨rfl, u23⟩
      have e25 := u23.evo0 (m := (β2 :: []))
      replace hx7 := hx7.mono0 u23
      refine op_notB rfl rfl rfl ?_
      refine wpList_nil ?_
      refine hK19 _ _ ?_
      refine c_ifNB rfl rfl (fun hb26 => ?_) (fun hb26 => ?_)
      · -- (Pk.isDigByte (byteAt x0 k)) = false
        refine c_seq fun KhK27 hK27 => ?_
        refine c_reg ?_
        refine op_build (r := [.int .i64 0, .int .i64 2]) ty186 szs186 rfl rfl rfl rfl rfl ?_
        refine op_store (v := .agg #[.int .i64 0, .int .i64 2]) (cs' := [.int .i64 0, .int .i64 2]) ty186 rfl rfl rfl rfl hx7 rfl rfl rfl fun w28 u29 hz30 hx7' => ?_
        have e31 := u29.evo (m := (β2 :: [])) (List.forall_mem_singleton.2 List.mem_cons_self)
        refine wpList_nil ?_
        refine hK27 _ _ ?_
        refine wp_ret ?_
        have hr32 : 0 = (Pk.rnumber x0).N := by first | (simp [Pk.rnumber, hi14, drop_of hx20, Pk.allDig, Pk.numVal, hi13, hb17, hx20, hb26]; done) | (rw [hi14]; simp [drop_of hx20, Pk.numVal, hi13, hb17, hx20, hb26]; done)
        have hr33 : 2 = (Pk.rnumber x0).E := by first | (simp [Pk.rnumber, hi14, drop_of hx20, Pk.allDig, Pk.numVal, hi13, hb17, hx20, hb26]; done) | (rw [hi14]; simp [drop_of hx20, Pk.numVal, hi13, hb17, hx20, hb26]; done)
        exact retG (rs := [.cell 2 186]) (vs := [.agg #[.int .i64 0, .int .i64 2]]) Try.results133 ⟨resC (ds := [.int .i64 0, .int .i64 2]) ty186 rfl rfl rfl hx7' rfl rfl, trivial⟩ ⟨agg_eq (lc (congrArg (Value.int .i64) hr32) (lc (congrArg (Value.int .i64) hr33) (rfl))), (((e8.trans e12).trans e25).trans e31).old⟩
      · -- (Pk.isDigByte (byteAt x0 k)) = true
        refine wp_skip ?_
        refine hK18 _ _ ?_
        refine c_reg ?_
        refine op_move (v := .int .i64 (k : Int)) rfl rfl rfl ?_
        refine op_add rfl rfl rfl rfl (by omega) ?_
        refine op_assign (v := .int .i64 ((k : Int) + 1)) rfl rfl rfl ?_
        refine wpList_nil ?_
        repeat (with_reducible refine inBlock_normal ?_)
        with_reducible refine then_normal ?_
        exact ⟨(k + 1), (by first | omega | (dsimp only; omega)), ⟨(by first | omega | (simp only [List.length_append, List.length_cons, List.length_nil]; omega) | (first | (simp [Pk.rnumber, hi14, drop_of hx20, Pk.allDig, Pk.numVal, hi13, hb17, hx20, hb26]; done) | (rw [hi14]; simp [drop_of hx20, Pk.numVal, hi13, hb17, hx20, hb26]; done))), (by first | (simp [Pk.rnumber, hi14, drop_of hx20, Pk.allDig, Pk.numVal, hi13, hb17, hx20, hb26]; done) | (rw [hi14]; simp [drop_of hx20, Pk.numVal, hi13, hb17, hx20, hb26]; done)), ((e12.trans e25).drop (fun b hb => by simp [hb])), hx7⟩, _, rfl, (by repeat first | exact agree.refl _ _ | refine agree.upd rfl ?_ | refine agree.upds rfl ?_ | refine agree.mix rfl ?_), ⟨congrArg (Value.int .i64) (show ((k : Int) + 1) = ((k + 1 : Nat) : Int) by omega), trivial⟩⟩
    · -- ¬ ((k : Int) < (x0.size : Int))
      refine wp_exit ?_
      refine hK9 _ _ ?_
      refine c_seq fun KhK34 hK34 => ?_
      refine c_seq fun KhK35 hK35 => ?_
      refine c_reg ?_
      refine op_move (v := .string x0) rfl rfl rfl ?_
      refine op_indexSN (j := 0) ty9.und rfl rfl rfl rfl (by first | omega | (have := bsz (by assumption); omega)) ?_
      have hx36 := bytes_get (s := x0) (k := 0) (by first | omega | (have := bsz (by assumption); omega))
      try (have := (by assumption : ∀ b ∈ sbytes x0, 48 ≤ (b.toNat : Int) ∧ (b.toNat : Int) ≤ 57) _ (List.mem_of_getElem? hx36))
      have lt37 := (byteAt x0 0).toNat_lt
      refine op_eq rfl rfl rfl rfl ?_
      refine op_move (v := .bool (decide (((byteAt x0 0).toNat : Int) = 48))) rfl rfl rfl ?_
      refine op_part 21 rfl (fun hb38 => ?_) (fun hb38 => ?_)
      · -- ((byteAt x0 0).toNat : Int) = 48
        refine op_move (v := .string x0) rfl rfl rfl ?_
        refine op_lenS ty9.und rfl rfl rfl ?_
        refine op_gtr rfl rfl rfl rfl ?_
        refine op_pickT (v := .bool (decide (1 < (x0.size : Int)))) rfl rfl rfl rfl ?_
        refine wpList_nil ?_
        refine hK35 _ _ ?_
        refine c_if rfl rfl (fun hb39 => ?_) (fun hb39 => ?_)
        · -- 1 < (x0.size : Int)
          refine c_seq fun KhK40 hK40 => ?_
          refine c_reg ?_
          refine op_build (r := [.int .i64 0, .int .i64 2]) ty186 szs186 rfl rfl rfl rfl rfl ?_
          refine op_store (v := .agg #[.int .i64 0, .int .i64 2]) (cs' := [.int .i64 0, .int .i64 2]) ty186 rfl rfl rfl rfl hx7 rfl rfl rfl fun w41 u42 hz43 hx7' => ?_
          have e44 := u42.evo (m := (β2 :: [])) (List.forall_mem_singleton.2 List.mem_cons_self)
          refine wpList_nil ?_
          refine hK40 _ _ ?_
          refine wp_ret ?_
          have hr45 : 0 = (Pk.rnumber x0).N := by first | (simp [Pk.rnumber, hi14, drop_end (l := sbytes x0) (k := k) (by first | omega | (rw [bytes_length]; omega)), drop_of hx36, Pk.allDig, Pk.numVal, hi13, hb17, hx36, hb38, hb39]; done) | (rw [hi14]; simp [drop_end (l := sbytes x0) (k := k) (by first | omega | (rw [bytes_length]; omega)), drop_of hx36, Pk.numVal, hi13, hb17, hx36, hb38, hb39]; done)
          have hr46 : 2 = (Pk.rnumber x0).E := by first | (simp [Pk.rnumber, hi14, drop_end (l := sbytes x0) (k := k) (by first | omega | (rw [bytes_length]; omega)), drop_of hx36, Pk.allDig, Pk.numVal, hi13, hb17, hx36, hb38, hb39]; done) | (rw [hi14]; simp [drop_end (l := sbytes x0) (k := k) (by first | omega | (rw [bytes_length]; omega)), drop_of hx36, Pk.numVal, hi13, hb17, hx36, hb38, hb39]; done)
          exact retG (rs := [.cell 2 186]) (vs := [.agg #[.int .i64 0, .int .i64 2]]) Try.results133 ⟨resC (ds := [.int .i64 0, .int .i64 2]) ty186 rfl rfl rfl hx7' rfl rfl, trivial⟩ ⟨agg_eq (lc (congrArg (Value.int .i64) hr45) (lc (congrArg (Value.int .i64) hr46) (rfl))), ((e8.trans e12).trans e44).old⟩
        · -- ¬ (1 < (x0.size : Int))
          refine wp_skip ?_
          refine hK34 _ _ ?_
          refine c_seq fun KhK47 hK47 => ?_
          refine c_reg ?_
          refine op_assign (v := .int .i64 0) rfl rfl rfl ?_
          refine wpList_nil ?_
          refine hK47 _ _ ?_
          refine c_seq fun KhK48 hK48 => ?_
          refine c_seq fun KhK49 hK49 => ?_
          refine c_reg ?_
          refine op_assign (v := .int .i64 0) rfl rfl rfl ?_
          refine wpList_nil ?_
          refine hK49 _ _ ?_
          refine wp_block ?_
          refine c_loop (X := Nat × Int) [4, 5, 27, 28, 29, 30, 31, 32, 33, 34, 35, 36, 37, 38, 39, 40, 41, 42, 43] (fun ⟨j, v⟩ => [(5, .int .i64 (j : Int)), (4, .int .i64 v)]) (fun ⟨j, v⟩ w1 => (j ≤ x0.size) ∧ (0 ≤ v) ∧ (v ≤ 1099511627776) ∧ (∀ b ∈ sbytes x0, 48 ≤ (b.toNat : Int) ∧ (b.toNat : Int) ≤ 57) ∧ (Pk.rnumber x0 = Pk.numVal v ((sbytes x0).drop j)) ∧ Evo (β2 :: []) w11 (β2 :: []) w1 ∧ Box w1 β2 [.int .i64 0, .int .i64 0]) (fun ⟨j, v⟩ => x0.size - j) ⟨0, 0⟩ ⟨congrArg (Value.int .i64) (show 0 = ((0 : Nat) : Int) by omega), rfl, trivial⟩ ?_ ?_
          ·
            exact ⟨(by first | omega | exact Pk.allDig_mem (by rw [hi14]; simp [drop_end (l := sbytes x0) (k := k) (by first | omega | (rw [bytes_length]; omega)), drop_of hx36, Pk.allDig])), (by first | omega | exact Pk.allDig_mem (by rw [hi14]; simp [drop_end (l := sbytes x0) (k := k) (by first | omega | (rw [bytes_length]; omega)), drop_of hx36, Pk.allDig])), (by first | omega | exact Pk.allDig_mem (by rw [hi14]; simp [drop_end (l := sbytes x0) (k := k) (by first | omega | (rw [bytes_length]; omega)), drop_of hx36, Pk.allDig])), (by first | omega | exact Pk.allDig_mem (by rw [hi14]; simp [drop_end (l := sbytes x0) (k := k) (by first | omega | (rw [bytes_length]; omega)), drop_of hx36, Pk.allDig])), (by rw [Pk.rnumber, if_pos (by rw [hi14]; simp [drop_end (l := sbytes x0) (k := k) (by first | omega | (rw [bytes_length]; omega)), drop_of hx36, Pk.allDig]), if_neg (by omega)]; simp), Evo.refl _ _, hx7⟩
          ·
            rintro ⟨j, v⟩ τ w50 ⟨hi52, hi53, hi54, hi55, hi56, e51, hx7⟩
            refine c_seq fun KhK57 hK57 => ?_
            refine c_seq fun KhK58 hK58 => ?_
            refine c_reg ?_
            refine op_move (v := .int .i64 (j : Int)) rfl rfl rfl ?_
            refine op_move (v := .string x0) rfl rfl rfl ?_
            refine op_lenS ty9.und rfl rfl rfl ?_
            refine op_lss rfl rfl rfl rfl ?_
            refine wpList_nil ?_
            refine hK58 _ _ ?_
            refine c_if rfl rfl (fun hb59 => ?_) (fun hb59 => ?_)
            · -- (j : Int) < (x0.size : Int)
              refine wp_skip ?_
              refine hK57 _ _ ?_
              refine c_seq fun KhK60 hK60 => ?_
              refine wp_block ?_
              refine c_seq fun KhK61 hK61 => ?_
              refine c_reg ?_
              refine op_move (v := .int .i64 v) rfl rfl rfl ?_
              refine op_mul rfl rfl rfl rfl (by omega) ?_
              refine op_move (v := .string x0) rfl rfl rfl ?_
              refine op_move (v := .int .i64 (j : Int)) rfl rfl rfl ?_
              refine op_indexSN (j := j) ty9.und rfl rfl rfl rfl (by first | omega | (have := bsz (by assumption); omega)) ?_
              have hx62 := bytes_get (s := x0) (k := j) (by first | omega | (have := bsz (by assumption); omega))
              try (have := (by assumption : ∀ b ∈ sbytes x0, 48 ≤ (b.toNat : Int) ∧ (b.toNat : Int) ≤ 57) _ (List.mem_of_getElem? hx62))
              have lt63 := (byteAt x0 j).toNat_lt
              refine op_convU8 ty5.und ty3.und (by decide) rfl rfl rfl ?_
              refine op_add rfl rfl rfl rfl (by omega) ?_
              refine op_sub rfl rfl rfl rfl (by omega) ?_
              refine op_assign (v := .int .i64 (((10 * v) + ((byteAt x0 j).toNat : Int)) - 48)) rfl rfl rfl ?_
              refine wpList_nil ?_
              refine hK61 _ _ ?_
              refine c_seq fun KhK64 hK64 => ?_
              refine c_reg ?_
              refine op_move (v := .int .i64 (((10 * v) + ((byteAt x0 j).toNat : Int)) - 48)) rfl rfl rfl ?_
              refine op_gtr rfl rfl rfl rfl ?_
              refine wpList_nil ?_
              refine hK64 _ _ ?_
              refine c_if rfl rfl (fun hb65 => ?_) (fun hb65 => ?_)
              · -- 1099511627776 < (((10 * v) + ((byteAt x0 j).toNat : Int)) - 48)
                refine c_seq fun KhK66 hK66 => ?_
                refine c_reg ?_
                refine op_build (r := [.int .i64 0, .int .i64 3]) ty186 szs186 rfl rfl rfl rfl rfl ?_
                refine op_store (v := .agg #[.int .i64 0, .int .i64 3]) (cs' := [.int .i64 0, .int .i64 3]) ty186 rfl rfl rfl rfl hx7 rfl rfl rfl fun w67 u68 hz69 hx7' => ?_
                have e70 := u68.evo (m := (β2 :: [])) (List.forall_mem_singleton.2 List.mem_cons_self)
                refine wpList_nil ?_
                refine hK66 _ _ ?_
                refine wp_ret ?_
                have hr71 : 0 = (Pk.rnumber x0).N := by first | (simp [Pk.rnumber, hi56, drop_of hx62, Pk.allDig, Pk.numVal, hi13, hb17, hx36, hb38, hb39, hi52, hi53, hi54, hi55, hb59, hx62, hb65]; done) | (rw [hi56]; simp [drop_of hx62, Pk.numVal, hi13, hb17, hx36, hb38, hb39, hi52, hi53, hi54, hi55, hb59, hx62, hb65]; done)
                have hr72 : 3 = (Pk.rnumber x0).E := by first | (simp [Pk.rnumber, hi56, drop_of hx62, Pk.allDig, Pk.numVal, hi13, hb17, hx36, hb38, hb39, hi52, hi53, hi54, hi55, hb59, hx62, hb65]; done) | (rw [hi56]; simp [drop_of hx62, Pk.numVal, hi13, hb17, hx36, hb38, hb39, hi52, hi53, hi54, hi55, hb59, hx62, hb65]; done)
                exact retG (rs := [.cell 2 186]) (vs := [.agg #[.int .i64 0, .int .i64 3]]) Try.results133 ⟨resC (ds := [.int .i64 0, .int .i64 3]) ty186 rfl rfl rfl hx7' rfl rfl, trivial⟩ ⟨agg_eq (lc (congrArg (Value.int .i64) hr71) (lc (congrArg (Value.int .i64) hr72) (rfl))), (((e8.trans e12).trans e51).trans e70).old⟩
              · -- ¬ (1099511627776 < (((10 * v) + ((byteAt x0 j).toNat : Int)) - 48))
                refine wp_skip ?_
                refine hK60 _ _ ?_
                refine c_reg ?_
                refine op_move (v := .int .i64 (j : Int)) rfl rfl rfl ?_
                refine op_add rfl rfl rfl rfl (by omega) ?_
                refine op_assign (v := .int .i64 ((j : Int) + 1)) rfl rfl rfl ?_
                refine wpList_nil ?_
                repeat (with_reducible refine inBlock_normal ?_)
                with_reducible refine then_normal ?_
                exact ⟨⟨j + 1, (((10 * v) + ((byteAt x0 j).toNat : Int)) - 48)⟩, (by first | omega | (dsimp only; omega)), ⟨(by first | omega | (simp only [List.length_append, List.length_cons, List.length_nil]; omega) | (first | omega | assumption)), (by first | omega | (simp only [List.length_append, List.length_cons, List.length_nil]; omega) | (first | omega | assumption)), (by first | omega | (simp only [List.length_append, List.length_cons, List.length_nil]; omega) | (first | omega | assumption)), (by first | omega | (simp only [List.length_append, List.length_cons, List.length_nil]; omega) | (first | omega | assumption)), (by rw [hi56]; simp [drop_of hx62, Pk.numVal, hi13, hb17, hx36, hb38, hb39, hi52, hi53, hi54, hi55, hb59, hx62, hb65]), (e51.drop (fun b hb => by simp [hb])), hx7⟩, _, rfl, (by repeat first | exact agree.refl _ _ | refine agree.upd rfl ?_ | refine agree.upds rfl ?_ | refine agree.mix rfl ?_), ⟨congrArg (Value.int .i64) (show ((j : Int) + 1) = ((j + 1 : Nat) : Int) by omega), rfl, trivial⟩⟩
            · -- ¬ ((j : Int) < (x0.size : Int))
              refine wp_exit ?_
              refine hK48 _ _ ?_
              refine c_seq fun KhK73 hK73 => ?_
              refine c_reg ?_
              refine op_move (v := .int .i64 v) rfl rfl rfl ?_
              refine op_build (r := [.int .i64 v, .int .i64 0]) ty186 szs186 rfl rfl rfl rfl rfl ?_
              refine op_store (v := .agg #[.int .i64 v, .int .i64 0]) (cs' := [.int .i64 v, .int .i64 0]) ty186 rfl rfl rfl rfl hx7 rfl rfl rfl fun w74 u75 hz76 hx7' => ?_
              have e77 := u75.evo (m := (β2 :: [])) (List.forall_mem_singleton.2 List.mem_cons_self)
              refine wpList_nil ?_
              refine hK73 _ _ ?_
              refine wp_ret ?_
              have hr78 : v = (Pk.rnumber x0).N := by first | (simp [Pk.rnumber, hi56, drop_end (l := sbytes x0) (k := j) (by first | omega | (rw [bytes_length]; omega)), Pk.allDig, Pk.numVal, hi13, hb17, hx36, hb38, hb39, hi52, hi53, hi54, hi55, hb59]; done) | (rw [hi56]; simp [drop_end (l := sbytes x0) (k := j) (by first | omega | (rw [bytes_length]; omega)), Pk.numVal, hi13, hb17, hx36, hb38, hb39, hi52, hi53, hi54, hi55, hb59]; done)
              have hr79 : 0 = (Pk.rnumber x0).E := by first | (simp [Pk.rnumber, hi56, drop_end (l := sbytes x0) (k := j) (by first | omega | (rw [bytes_length]; omega)), Pk.allDig, Pk.numVal, hi13, hb17, hx36, hb38, hb39, hi52, hi53, hi54, hi55, hb59]; done) | (rw [hi56]; simp [drop_end (l := sbytes x0) (k := j) (by first | omega | (rw [bytes_length]; omega)), Pk.numVal, hi13, hb17, hx36, hb38, hb39, hi52, hi53, hi54, hi55, hb59]; done)
              exact retG (rs := [.cell 2 186]) (vs := [.agg #[.int .i64 v, .int .i64 0]]) Try.results133 ⟨resC (ds := [.int .i64 v, .int .i64 0]) ty186 rfl rfl rfl hx7' rfl rfl, trivial⟩ ⟨agg_eq (lc (congrArg (Value.int .i64) hr78) (lc (congrArg (Value.int .i64) hr79) (rfl))), (((e8.trans e12).trans e51).trans e77).old⟩
      · -- ¬ (((byteAt x0 0).toNat : Int) = 48)
        refine op_not rfl ?_
        refine op_not rfl ?_
        refine op_not rfl ?_
        refine op_pickF (v := .bool false) rfl rfl rfl rfl ?_
        refine wpList_nil ?_
        refine hK35 _ _ ?_
        refine c_ifF rfl rfl ?_
        refine wp_skip ?_
        refine hK34 _ _ ?_
        refine c_seq fun KhK80 hK80 => ?_
        refine c_reg ?_
        refine op_assign (v := .int .i64 0) rfl rfl rfl ?_
        refine wpList_nil ?_
        refine hK80 _ _ ?_
        refine c_seq fun KhK81 hK81 => ?_
        refine c_seq fun KhK82 hK82 => ?_
        refine c_reg ?_
        refine op_assign (v := .int .i64 0) rfl rfl rfl ?_
        refine wpList_nil ?_
        refine hK82 _ _ ?_
        refine wp_block ?_
        refine c_loop (X := Nat × Int) [4, 5, 27, 28, 29, 30, 31, 32, 33, 34, 35, 36, 37, 38, 39, 40, 41, 42, 43] (fun ⟨j, v⟩ => [(5, .int .i64 (j : Int)), (4, .int .i64 v)]) (fun ⟨j, v⟩ w1 => (j ≤ x0.size) ∧ (0 ≤ v) ∧ (v ≤ 1099511627776) ∧ (∀ b ∈ sbytes x0, 48 ≤ (b.toNat : Int) ∧ (b.toNat : Int) ≤ 57) ∧ (Pk.rnumber x0 = Pk.numVal v ((sbytes x0).drop j)) ∧ Evo (β2 :: []) w11 (β2 :: []) w1 ∧ Box w1 β2 [.int .i64 0, .int .i64 0]) (fun ⟨j, v⟩ => x0.size - j) ⟨0, 0⟩ ⟨congrArg (Value.int .i64) (show 0 = ((0 : Nat) : Int) by omega), rfl, trivial⟩ ?_ ?_
        ·
          exact ⟨(by first | omega | exact Pk.allDig_mem (by rw [hi14]; simp [drop_end (l := sbytes x0) (k := k) (by first | omega | (rw [bytes_length]; omega)), drop_of hx36, Pk.allDig])), (by first | omega | exact Pk.allDig_mem (by rw [hi14]; simp [drop_end (l := sbytes x0) (k := k) (by first | omega | (rw [bytes_length]; omega)), drop_of hx36, Pk.allDig])), (by first | omega | exact Pk.allDig_mem (by rw [hi14]; simp [drop_end (l := sbytes x0) (k := k) (by first | omega | (rw [bytes_length]; omega)), drop_of hx36, Pk.allDig])), (by first | omega | exact Pk.allDig_mem (by rw [hi14]; simp [drop_end (l := sbytes x0) (k := k) (by first | omega | (rw [bytes_length]; omega)), drop_of hx36, Pk.allDig])), (by rw [Pk.rnumber, if_pos (by rw [hi14]; simp [drop_end (l := sbytes x0) (k := k) (by first | omega | (rw [bytes_length]; omega)), drop_of hx36, Pk.allDig]), if_neg (by omega)]; simp), Evo.refl _ _, hx7⟩
        ·
          rintro ⟨j, v⟩ τ w83 ⟨hi85, hi86, hi87, hi88, hi89, e84, hx7⟩
          refine c_seq fun KhK90 hK90 => ?_
          refine c_seq fun KhK91 hK91 => ?_
          refine c_reg ?_
          refine op_move (v := .int .i64 (j : Int)) rfl rfl rfl ?_
          refine op_move (v := .string x0) rfl rfl rfl ?_
          refine op_lenS ty9.und rfl rfl rfl ?_
          refine op_lss rfl rfl rfl rfl ?_
          refine wpList_nil ?_
          refine hK91 _ _ ?_
          refine c_if rfl rfl (fun hb92 => ?_) (fun hb92 => ?_)
          · -- (j : Int) < (x0.size : Int)
            refine wp_skip ?_
            refine hK90 _ _ ?_
            refine c_seq fun KhK93 hK93 => ?_
            refine wp_block ?_
            refine c_seq fun KhK94 hK94 => ?_
            refine c_reg ?_
            refine op_move (v := .int .i64 v) rfl rfl rfl ?_
            refine op_mul rfl rfl rfl rfl (by omega) ?_
            refine op_move (v := .string x0) rfl rfl rfl ?_
            refine op_move (v := .int .i64 (j : Int)) rfl rfl rfl ?_
            refine op_indexSN (j := j) ty9.und rfl rfl rfl rfl (by first | omega | (have := bsz (by assumption); omega)) ?_
            have hx95 := bytes_get (s := x0) (k := j) (by first | omega | (have := bsz (by assumption); omega))
            try (have := (by assumption : ∀ b ∈ sbytes x0, 48 ≤ (b.toNat : Int) ∧ (b.toNat : Int) ≤ 57) _ (List.mem_of_getElem? hx95))
            have lt96 := (byteAt x0 j).toNat_lt
            refine op_convU8 ty5.und ty3.und (by decide) rfl rfl rfl ?_
            refine op_add rfl rfl rfl rfl (by omega) ?_
            refine op_sub rfl rfl rfl rfl (by omega) ?_
            refine op_assign (v := .int .i64 (((10 * v) + ((byteAt x0 j).toNat : Int)) - 48)) rfl rfl rfl ?_
            refine wpList_nil ?_
            refine hK94 _ _ ?_
            refine c_seq fun KhK97 hK97 => ?_
            refine c_reg ?_
            refine op_move (v := .int .i64 (((10 * v) + ((byteAt x0 j).toNat : Int)) - 48)) rfl rfl rfl ?_
            refine op_gtr rfl rfl rfl rfl ?_
            refine wpList_nil ?_
            refine hK97 _ _ ?_
            refine c_if rfl rfl (fun hb98 => ?_) (fun hb98 => ?_)
            · -- 1099511627776 < (((10 * v) + ((byteAt x0 j).toNat : Int)) - 48)
              refine c_seq fun KhK99 hK99 => ?_
              refine c_reg ?_
              refine op_build (r := [.int .i64 0, .int .i64 3]) ty186 szs186 rfl rfl rfl rfl rfl ?_
              refine op_store (v := .agg #[.int .i64 0, .int .i64 3]) (cs' := [.int .i64 0, .int .i64 3]) ty186 rfl rfl rfl rfl hx7 rfl rfl rfl fun w100 u101 hz102 hx7' => ?_
              have e103 := u101.evo (m := (β2 :: [])) (List.forall_mem_singleton.2 List.mem_cons_self)
              refine wpList_nil ?_
              refine hK99 _ _ ?_
              refine wp_ret ?_
              have hr104 : 0 = (Pk.rnumber x0).N := by first | (simp [Pk.rnumber, hi89, drop_of hx95, Pk.allDig, Pk.numVal, hi13, hb17, hx36, hb38, hi85, hi86, hi87, hi88, hb92, hx95, hb98]; done) | (rw [hi89]; simp [drop_of hx95, Pk.numVal, hi13, hb17, hx36, hb38, hi85, hi86, hi87, hi88, hb92, hx95, hb98]; done)
              have hr105 : 3 = (Pk.rnumber x0).E := by first | (simp [Pk.rnumber, hi89, drop_of hx95, Pk.allDig, Pk.numVal, hi13, hb17, hx36, hb38, hi85, hi86, hi87, hi88, hb92, hx95, hb98]; done) | (rw [hi89]; simp [drop_of hx95, Pk.numVal, hi13, hb17, hx36, hb38, hi85, hi86, hi87, hi88, hb92, hx95, hb98]; done)
              exact retG (rs := [.cell 2 186]) (vs := [.agg #[.int .i64 0, .int .i64 3]]) Try.results133 ⟨resC (ds := [.int .i64 0, .int .i64 3]) ty186 rfl rfl rfl hx7' rfl rfl, trivial⟩ ⟨agg_eq (lc (congrArg (Value.int .i64) hr104) (lc (congrArg (Value.int .i64) hr105) (rfl))), (((e8.trans e12).trans e84).trans e103).old⟩
            · -- ¬ (1099511627776 < (((10 * v) + ((byteAt x0 j).toNat : Int)) - 48))
              refine wp_skip ?_
              refine hK93 _ _ ?_
              refine c_reg ?_
              refine op_move (v := .int .i64 (j : Int)) rfl rfl rfl ?_
              refine op_add rfl rfl rfl rfl (by omega) ?_
              refine op_assign (v := .int .i64 ((j : Int) + 1)) rfl rfl rfl ?_
              refine wpList_nil ?_
              repeat (with_reducible refine inBlock_normal ?_)
              with_reducible refine then_normal ?_
              exact ⟨⟨j + 1, (((10 * v) + ((byteAt x0 j).toNat : Int)) - 48)⟩, (by first | omega | (dsimp only; omega)), ⟨(by first | omega | (simp only [List.length_append, List.length_cons, List.length_nil]; omega) | (first | omega | assumption)), (by first | omega | (simp only [List.length_append, List.length_cons, List.length_nil]; omega) | (first | omega | assumption)), (by first | omega | (simp only [List.length_append, List.length_cons, List.length_nil]; omega) | (first | omega | assumption)), (by first | omega | (simp only [List.length_append, List.length_cons, List.length_nil]; omega) | (first | omega | assumption)), (by rw [hi89]; simp [drop_of hx95, Pk.numVal, hi13, hb17, hx36, hb38, hi85, hi86, hi87, hi88, hb92, hx95, hb98]), (e84.drop (fun b hb => by simp [hb])), hx7⟩, _, rfl, (by repeat first | exact agree.refl _ _ | refine agree.upd rfl ?_ | refine agree.upds rfl ?_ | refine agree.mix rfl ?_), ⟨congrArg (Value.int .i64) (show ((j : Int) + 1) = ((j + 1 : Nat) : Int) by omega), rfl, trivial⟩⟩
          · -- ¬ ((j : Int) < (x0.size : Int))
            refine wp_exit ?_
            refine hK81 _ _ ?_
            refine c_seq fun KhK106 hK106 => ?_
            refine c_reg ?_
            refine op_move (v := .int .i64 v) rfl rfl rfl ?_
            refine op_build (r := [.int .i64 v, .int .i64 0]) ty186 szs186 rfl rfl rfl rfl rfl ?_
            refine op_store (v := .agg #[.int .i64 v, .int .i64 0]) (cs' := [.int .i64 v, .int .i64 0]) ty186 rfl rfl rfl rfl hx7 rfl rfl rfl fun w107 u108 hz109 hx7' => ?_
            have e110 := u108.evo (m := (β2 :: [])) (List.forall_mem_singleton.2 List.mem_cons_self)
            refine wpList_nil ?_
            refine hK106 _ _ ?_
            refine wp_ret ?_
            have hr111 : v = (Pk.rnumber x0).N := by first | (simp [Pk.rnumber, hi89, drop_end (l := sbytes x0) (k := j) (by first | omega | (rw [bytes_length]; omega)), Pk.allDig, Pk.numVal, hi13, hb17, hx36, hb38, hi85, hi86, hi87, hi88, hb92]; done) | (rw [hi89]; simp [drop_end (l := sbytes x0) (k := j) (by first | omega | (rw [bytes_length]; omega)), Pk.numVal, hi13, hb17, hx36, hb38, hi85, hi86, hi87, hi88, hb92]; done)
            have hr112 : 0 = (Pk.rnumber x0).E := by first | (simp [Pk.rnumber, hi89, drop_end (l := sbytes x0) (k := j) (by first | omega | (rw [bytes_length]; omega)), Pk.allDig, Pk.numVal, hi13, hb17, hx36, hb38, hi85, hi86, hi87, hi88, hb92]; done) | (rw [hi89]; simp [drop_end (l := sbytes x0) (k := j) (by first | omega | (rw [bytes_length]; omega)), Pk.numVal, hi13, hb17, hx36, hb38, hi85, hi86, hi87, hi88, hb92]; done)
            exact retG (rs := [.cell 2 186]) (vs := [.agg #[.int .i64 v, .int .i64 0]]) Try.results133 ⟨resC (ds := [.int .i64 v, .int .i64 0]) ty186 rfl rfl rfl hx7' rfl rfl, trivial⟩ ⟨agg_eq (lc (congrArg (Value.int .i64) hr111) (lc (congrArg (Value.int .i64) hr112) (rfl))), (((e8.trans e12).trans e84).trans e110).old⟩
set_option maxHeartbeats 1000000 in
theorem c147 {M : List Nat} {w : World}  (hM : Lo M w)  : Calls Try.prog 147 #[] w (Ret fun v w' => ∃ a_r0 c_r0, v = .slice a_r0 (Pk.keywords).length c_r0 ∧ SL M w' a_r0 c_r0 (Pk.keywords) ∧ Upd [] w w') := by
  refine enter (l := []) Try.func147 rfl Try.ntmps147 rfl ?_
  refine c_seq fun KhK1 hK1 => ?_
  refine c_reg ?_
  refine op_assign (v := .slice none 0 0) rfl rfl rfl ?_
  refine wpList_nil ?_
  refine hK1 _ _ ?_
  refine c_seq fun KhK2 hK2 => ?_
  refine c_reg ?_
  refine op_buildSlice (r := [.string (⟨#[97, 110, 100]⟩ : ByteArray), .string (⟨#[97, 115]⟩ : ByteArray), .string (⟨#[97, 116, 116, 97, 99, 104, 101, 100]⟩ : ByteArray), .string (⟨#[99, 104, 101, 99, 107]⟩ : ByteArray), .string (⟨#[99, 108, 97, 115, 115]⟩ : ByteArray), .string (⟨#[99, 114, 101, 97, 116, 101]⟩ : ByteArray), .string (⟨#[100, 101, 102, 101, 114, 114, 101, 100]⟩ : ByteArray), .string (⟨#[100, 101, 116, 97, 99, 104, 97, 98, 108, 101]⟩ : ByteArray), .string (⟨#[100, 111]⟩ : ByteArray), .string (⟨#[101, 108, 115, 101]⟩ : ByteArray), .string (⟨#[101, 110, 100]⟩ : ByteArray), .string (⟨#[101, 110, 115, 117, 114, 101]⟩ : ByteArray), .string (⟨#[102, 101, 97, 116, 117, 114, 101]⟩ : ByteArray), .string (⟨#[102, 114, 111, 109]⟩ : ByteArray), .string (⟨#[105, 102]⟩ : ByteArray), .string (⟨#[105, 109, 112, 108, 105, 101, 115]⟩ : ByteArray), .string (⟨#[105, 110, 104, 101, 114, 105, 116]⟩ : ByteArray), .string (⟨#[105, 110, 118, 97, 114, 105, 97, 110, 116]⟩ : ByteArray), .string (⟨#[108, 111, 99, 97, 108]⟩ : ByteArray), .string (⟨#[108, 111, 111, 112]⟩ : ByteArray), .string (⟨#[110, 111, 116]⟩ : ByteArray), .string (⟨#[111, 108, 100]⟩ : ByteArray), .string (⟨#[111, 114]⟩ : ByteArray), .string (⟨#[112, 117, 116]⟩ : ByteArray), .string (⟨#[114, 97, 105, 115, 101]⟩ : ByteArray), .string (⟨#[114, 101, 100, 101, 102, 105, 110, 101]⟩ : ByteArray), .string (⟨#[114, 101, 110, 97, 109, 101]⟩ : ByteArray), .string (⟨#[114, 101, 113, 117, 105, 114, 101]⟩ : ByteArray), .string (⟨#[114, 101, 115, 99, 117, 101]⟩ : ByteArray), .string (⟨#[114, 101, 116, 114, 121]⟩ : ByteArray), .string (⟨#[115, 101, 108, 101, 99, 116]⟩ : ByteArray), .string (⟨#[115, 101, 112, 97, 114, 97, 116, 101]⟩ : ByteArray), .string (⟨#[116, 104, 101, 110]⟩ : ByteArray), .string (⟨#[117, 110, 100, 101, 102, 105, 110, 101]⟩ : ByteArray), .string (⟨#[117, 110, 116, 105, 108]⟩ : ByteArray), .string (⟨#[118, 97, 114, 105, 97, 110, 116]⟩ : ByteArray), .string (⟨#[119, 104, 101, 110]⟩ : ByteArray)]) ty138 ty9 rfl rfl rfl rfl rfl rfl fun β3 w4 hβ5 u6 hz7 hx8 => ?_
  have nf9 : β3 ∉ [] ++ M := ((Evo.refl [] w).loM hM).fresh hβ5
  have e10 := u6.evo0 (m := [])
  have hs11 : SL ([] ++ M) w4 (some ⟨β3, 0, none⟩) 37 ([(⟨#[97, 110, 100]⟩ : ByteArray), (⟨#[97, 115]⟩ : ByteArray), (⟨#[97, 116, 116, 97, 99, 104, 101, 100]⟩ : ByteArray), (⟨#[99, 104, 101, 99, 107]⟩ : ByteArray), (⟨#[99, 108, 97, 115, 115]⟩ : ByteArray), (⟨#[99, 114, 101, 97, 116, 101]⟩ : ByteArray), (⟨#[100, 101, 102, 101, 114, 114, 101, 100]⟩ : ByteArray), (⟨#[100, 101, 116, 97, 99, 104, 97, 98, 108, 101]⟩ : ByteArray), (⟨#[100, 111]⟩ : ByteArray), (⟨#[101, 108, 115, 101]⟩ : ByteArray), (⟨#[101, 110, 100]⟩ : ByteArray), (⟨#[101, 110, 115, 117, 114, 101]⟩ : ByteArray), (⟨#[102, 101, 97, 116, 117, 114, 101]⟩ : ByteArray), (⟨#[102, 114, 111, 109]⟩ : ByteArray), (⟨#[105, 102]⟩ : ByteArray), (⟨#[105, 109, 112, 108, 105, 101, 115]⟩ : ByteArray), (⟨#[105, 110, 104, 101, 114, 105, 116]⟩ : ByteArray), (⟨#[105, 110, 118, 97, 114, 105, 97, 110, 116]⟩ : ByteArray), (⟨#[108, 111, 99, 97, 108]⟩ : ByteArray), (⟨#[108, 111, 111, 112]⟩ : ByteArray), (⟨#[110, 111, 116]⟩ : ByteArray), (⟨#[111, 108, 100]⟩ : ByteArray), (⟨#[111, 114]⟩ : ByteArray), (⟨#[112, 117, 116]⟩ : ByteArray), (⟨#[114, 97, 105, 115, 101]⟩ : ByteArray), (⟨#[114, 101, 100, 101, 102, 105, 110, 101]⟩ : ByteArray), (⟨#[114, 101, 110, 97, 109, 101]⟩ : ByteArray), (⟨#[114, 101, 113, 117, 105, 114, 101]⟩ : ByteArray), (⟨#[114, 101, 115, 99, 117, 101]⟩ : ByteArray), (⟨#[114, 101, 116, 114, 121]⟩ : ByteArray), (⟨#[115, 101, 108, 101, 99, 116]⟩ : ByteArray), (⟨#[115, 101, 112, 97, 114, 97, 116, 101]⟩ : ByteArray), (⟨#[116, 104, 101, 110]⟩ : ByteArray), (⟨#[117, 110, 100, 101, 102, 105, 110, 101]⟩ : ByteArray), (⟨#[117, 110, 116, 105, 108]⟩ : ByteArray), (⟨#[118, 97, 114, 105, 97, 110, 116]⟩ : ByteArray), (⟨#[119, 104, 101, 110]⟩ : ByteArray)] : List ByteArray) := SL.of_boxL hx8 nf9 (by simp only [List.length_cons, List.length_nil]; omega) ⟨[.string (⟨#[97, 110, 100]⟩ : ByteArray)], _, rfl, rfl, ⟨[.string (⟨#[97, 115]⟩ : ByteArray)], _, rfl, rfl, ⟨[.string (⟨#[97, 116, 116, 97, 99, 104, 101, 100]⟩ : ByteArray)], _, rfl, rfl, ⟨[.string (⟨#[99, 104, 101, 99, 107]⟩ : ByteArray)], _, rfl, rfl, ⟨[.string (⟨#[99, 108, 97, 115, 115]⟩ : ByteArray)], _, rfl, rfl, ⟨[.string (⟨#[99, 114, 101, 97, 116, 101]⟩ : ByteArray)], _, rfl, rfl, ⟨[.string (⟨#[100, 101, 102, 101, 114, 114, 101, 100]⟩ : ByteArray)], _, rfl, rfl, ⟨[.string (⟨#[100, 101, 116, 97, 99, 104, 97, 98, 108, 101]⟩ : ByteArray)], _, rfl, rfl, ⟨[.string (⟨#[100, 111]⟩ : ByteArray)], _, rfl, rfl, ⟨[.string (⟨#[101, 108, 115, 101]⟩ : ByteArray)], _, rfl, rfl, ⟨[.string (⟨#[101, 110, 100]⟩ : ByteArray)], _, rfl, rfl, ⟨[.string (⟨#[101, 110, 115, 117, 114, 101]⟩ : ByteArray)], _, rfl, rfl, ⟨[.string (⟨#[102, 101, 97, 116, 117, 114, 101]⟩ : ByteArray)], _, rfl, rfl, ⟨[.string (⟨#[102, 114, 111, 109]⟩ : ByteArray)], _, rfl, rfl, ⟨[.string (⟨#[105, 102]⟩ : ByteArray)], _, rfl, rfl, ⟨[.string (⟨#[105, 109, 112, 108, 105, 101, 115]⟩ : ByteArray)], _, rfl, rfl, ⟨[.string (⟨#[105, 110, 104, 101, 114, 105, 116]⟩ : ByteArray)], _, rfl, rfl, ⟨[.string (⟨#[105, 110, 118, 97, 114, 105, 97, 110, 116]⟩ : ByteArray)], _, rfl, rfl, ⟨[.string (⟨#[108, 111, 99, 97, 108]⟩ : ByteArray)], _, rfl, rfl, ⟨[.string (⟨#[108, 111, 111, 112]⟩ : ByteArray)], _, rfl, rfl, ⟨[.string (⟨#[110, 111, 116]⟩ : ByteArray)], _, rfl, rfl, ⟨[.string (⟨#[111, 108, 100]⟩ : ByteArray)], _, rfl, rfl, ⟨[.string (⟨#[111, 114]⟩ : ByteArray)], _, rfl, rfl, ⟨[.string (⟨#[112, 117, 116]⟩ : ByteArray)], _, rfl, rfl, ⟨[.string (⟨#[114, 97, 105, 115, 101]⟩ : ByteArray)], _, rfl, rfl, ⟨[.string (⟨#[114, 101, 100, 101, 102, 105, 110, 101]⟩ : ByteArray)], _, rfl, rfl, ⟨[.string (⟨#[114, 101, 110, 97, 109, 101]⟩ : ByteArray)], _, rfl, rfl, ⟨[.string (⟨#[114, 101, 113, 117, 105, 114, 101]⟩ : ByteArray)], _, rfl, rfl, ⟨[.string (⟨#[114, 101, 115, 99, 117, 101]⟩ : ByteArray)], _, rfl, rfl, ⟨[.string (⟨#[114, 101, 116, 114, 121]⟩ : ByteArray)], _, rfl, rfl, ⟨[.string (⟨#[115, 101, 108, 101, 99, 116]⟩ : ByteArray)], _, rfl, rfl, ⟨[.string (⟨#[115, 101, 112, 97, 114, 97, 116, 101]⟩ : ByteArray)], _, rfl, rfl, ⟨[.string (⟨#[116, 104, 101, 110]⟩ : ByteArray)], _, rfl, rfl, ⟨[.string (⟨#[117, 110, 100, 101, 102, 105, 110, 101]⟩ : ByteArray)], _, rfl, rfl, ⟨[.string (⟨#[117, 110, 116, 105, 108]⟩ : ByteArray)], _, rfl, rfl, ⟨[.string (⟨#[118, 97, 114, 105, 97, 110, 116]⟩ : ByteArray)], _, rfl, rfl, ⟨[.string (⟨#[119, 104, 101, 110]⟩ : ByteArray)], _, rfl, rfl, rfl⟩⟩⟩⟩⟩⟩⟩⟩⟩⟩⟩⟩⟩⟩⟩⟩⟩⟩⟩⟩⟩⟩⟩⟩⟩⟩⟩⟩⟩⟩⟩⟩⟩⟩⟩⟩⟩
  refine op_assign (v := .slice (some ⟨β3, 0, none⟩) ([(⟨#[97, 110, 100]⟩ : ByteArray), (⟨#[97, 115]⟩ : ByteArray), (⟨#[97, 116, 116, 97, 99, 104, 101, 100]⟩ : ByteArray), (⟨#[99, 104, 101, 99, 107]⟩ : ByteArray), (⟨#[99, 108, 97, 115, 115]⟩ : ByteArray), (⟨#[99, 114, 101, 97, 116, 101]⟩ : ByteArray), (⟨#[100, 101, 102, 101, 114, 114, 101, 100]⟩ : ByteArray), (⟨#[100, 101, 116, 97, 99, 104, 97, 98, 108, 101]⟩ : ByteArray), (⟨#[100, 111]⟩ : ByteArray), (⟨#[101, 108, 115, 101]⟩ : ByteArray), (⟨#[101, 110, 100]⟩ : ByteArray), (⟨#[101, 110, 115, 117, 114, 101]⟩ : ByteArray), (⟨#[102, 101, 97, 116, 117, 114, 101]⟩ : ByteArray), (⟨#[102, 114, 111, 109]⟩ : ByteArray), (⟨#[105, 102]⟩ : ByteArray), (⟨#[105, 109, 112, 108, 105, 101, 115]⟩ : ByteArray), (⟨#[105, 110, 104, 101, 114, 105, 116]⟩ : ByteArray), (⟨#[105, 110, 118, 97, 114, 105, 97, 110, 116]⟩ : ByteArray), (⟨#[108, 111, 99, 97, 108]⟩ : ByteArray), (⟨#[108, 111, 111, 112]⟩ : ByteArray), (⟨#[110, 111, 116]⟩ : ByteArray), (⟨#[111, 108, 100]⟩ : ByteArray), (⟨#[111, 114]⟩ : ByteArray), (⟨#[112, 117, 116]⟩ : ByteArray), (⟨#[114, 97, 105, 115, 101]⟩ : ByteArray), (⟨#[114, 101, 100, 101, 102, 105, 110, 101]⟩ : ByteArray), (⟨#[114, 101, 110, 97, 109, 101]⟩ : ByteArray), (⟨#[114, 101, 113, 117, 105, 114, 101]⟩ : ByteArray), (⟨#[114, 101, 115, 99, 117, 101]⟩ : ByteArray), (⟨#[114, 101, 116, 114, 121]⟩ : ByteArray), (⟨#[115, 101, 108, 101, 99, 116]⟩ : ByteArray), (⟨#[115, 101, 112, 97, 114, 97, 116, 101]⟩ : ByteArray), (⟨#[116, 104, 101, 110]⟩ : ByteArray), (⟨#[117, 110, 100, 101, 102, 105, 110, 101]⟩ : ByteArray), (⟨#[117, 110, 116, 105, 108]⟩ : ByteArray), (⟨#[118, 97, 114, 105, 97, 110, 116]⟩ : ByteArray), (⟨#[119, 104, 101, 110]⟩ : ByteArray)] : List ByteArray).length 37) rfl rfl rfl ?_
  refine wpList_nil ?_
  refine hK2 _ _ ?_
  refine wp_ret ?_
  have hr12 : (([(⟨#[97, 110, 100]⟩ : ByteArray), (⟨#[97, 115]⟩ : ByteArray), (⟨#[97, 116, 116, 97, 99, 104, 101, 100]⟩ : ByteArray), (⟨#[99, 104, 101, 99, 107]⟩ : ByteArray), (⟨#[99, 108, 97, 115, 115]⟩ : ByteArray), (⟨#[99, 114, 101, 97, 116, 101]⟩ : ByteArray), (⟨#[100, 101, 102, 101, 114, 114, 101, 100]⟩ : ByteArray), (⟨#[100, 101, 116, 97, 99, 104, 97, 98, 108, 101]⟩ : ByteArray), (⟨#[100, 111]⟩ : ByteArray), (⟨#[101, 108, 115, 101]⟩ : ByteArray), (⟨#[101, 110, 100]⟩ : ByteArray), (⟨#[101, 110, 115, 117, 114, 101]⟩ : ByteArray), (⟨#[102, 101, 97, 116, 117, 114, 101]⟩ : ByteArray), (⟨#[102, 114, 111, 109]⟩ : ByteArray), (⟨#[105, 102]⟩ : ByteArray), (⟨#[105, 109, 112, 108, 105, 101, 115]⟩ : ByteArray), (⟨#[105, 110, 104, 101, 114, 105, 116]⟩ : ByteArray), (⟨#[105, 110, 118, 97, 114, 105, 97, 110, 116]⟩ : ByteArray), (⟨#[108, 111, 99, 97, 108]⟩ : ByteArray), (⟨#[108, 111, 111, 112]⟩ : ByteArray), (⟨#[110, 111, 116]⟩ : ByteArray), (⟨#[111, 108, 100]⟩ : ByteArray), (⟨#[111, 114]⟩ : ByteArray), (⟨#[112, 117, 116]⟩ : ByteArray), (⟨#[114, 97, 105, 115, 101]⟩ : ByteArray), (⟨#[114, 101, 100, 101, 102, 105, 110, 101]⟩ : ByteArray), (⟨#[114, 101, 110, 97, 109, 101]⟩ : ByteArray), (⟨#[114, 101, 113, 117, 105, 114, 101]⟩ : ByteArray), (⟨#[114, 101, 115, 99, 117, 101]⟩ : ByteArray), (⟨#[114, 101, 116, 114, 121]⟩ : ByteArray), (⟨#[115, 101, 108, 101, 99, 116]⟩ : ByteArray), (⟨#[115, 101, 112, 97, 114, 97, 116, 101]⟩ : ByteArray), (⟨#[116, 104, 101, 110]⟩ : ByteArray), (⟨#[117, 110, 100, 101, 102, 105, 110, 101]⟩ : ByteArray), (⟨#[117, 110, 116, 105, 108]⟩ : ByteArray), (⟨#[118, 97, 114, 105, 97, 110, 116]⟩ : ByteArray), (⟨#[119, 104, 101, 110]⟩ : ByteArray)] : List ByteArray) : List ByteArray) = (Pk.keywords) := by simp [ Pk.keywords]
  exact ret1 Try.results147 rfl ⟨(some ⟨β3, 0, none⟩), 37, slc_eq hr12, (hr12 ▸ (hs11.mono (Tr.sub _ (fun b hb => List.mem_append_right _ hb)) : SL M w4 (some ⟨β3, 0, none⟩) 37 (([(⟨#[97, 110, 100]⟩ : ByteArray), (⟨#[97, 115]⟩ : ByteArray), (⟨#[97, 116, 116, 97, 99, 104, 101, 100]⟩ : ByteArray), (⟨#[99, 104, 101, 99, 107]⟩ : ByteArray), (⟨#[99, 108, 97, 115, 115]⟩ : ByteArray), (⟨#[99, 114, 101, 97, 116, 101]⟩ : ByteArray), (⟨#[100, 101, 102, 101, 114, 114, 101, 100]⟩ : ByteArray), (⟨#[100, 101, 116, 97, 99, 104, 97, 98, 108, 101]⟩ : ByteArray), (⟨#[100, 111]⟩ : ByteArray), (⟨#[101, 108, 115, 101]⟩ : ByteArray), (⟨#[101, 110, 100]⟩ : ByteArray), (⟨#[101, 110, 115, 117, 114, 101]⟩ : ByteArray), (⟨#[102, 101, 97, 116, 117, 114, 101]⟩ : ByteArray), (⟨#[102, 114, 111, 109]⟩ : ByteArray), (⟨#[105, 102]⟩ : ByteArray), (⟨#[105, 109, 112, 108, 105, 101, 115]⟩ : ByteArray), (⟨#[105, 110, 104, 101, 114, 105, 116]⟩ : ByteArray), (⟨#[105, 110, 118, 97, 114, 105, 97, 110, 116]⟩ : ByteArray), (⟨#[108, 111, 99, 97, 108]⟩ : ByteArray), (⟨#[108, 111, 111, 112]⟩ : ByteArray), (⟨#[110, 111, 116]⟩ : ByteArray), (⟨#[111, 108, 100]⟩ : ByteArray), (⟨#[111, 114]⟩ : ByteArray), (⟨#[112, 117, 116]⟩ : ByteArray), (⟨#[114, 97, 105, 115, 101]⟩ : ByteArray), (⟨#[114, 101, 100, 101, 102, 105, 110, 101]⟩ : ByteArray), (⟨#[114, 101, 110, 97, 109, 101]⟩ : ByteArray), (⟨#[114, 101, 113, 117, 105, 114, 101]⟩ : ByteArray), (⟨#[114, 101, 115, 99, 117, 101]⟩ : ByteArray), (⟨#[114, 101, 116, 114, 121]⟩ : ByteArray), (⟨#[115, 101, 108, 101, 99, 116]⟩ : ByteArray), (⟨#[115, 101, 112, 97, 114, 97, 116, 101]⟩ : ByteArray), (⟨#[116, 104, 101, 110]⟩ : ByteArray), (⟨#[117, 110, 100, 101, 102, 105, 110, 101]⟩ : ByteArray), (⟨#[117, 110, 116, 105, 108]⟩ : ByteArray), (⟨#[118, 97, 114, 105, 97, 110, 116]⟩ : ByteArray), (⟨#[119, 104, 101, 110]⟩ : ByteArray)] : List ByteArray) : List ByteArray))), e10.old⟩
set_option maxHeartbeats 1000000 in
theorem c130 {M : List Nat} {w : World}  (hM : Lo M w)  : Calls Try.prog 130 #[] w (Ret fun v w' => ∃ a_r0 c_r0, v = .slice a_r0 (Pk.rsigns).length c_r0 ∧ SL M w' a_r0 c_r0 (Pk.rsigns) ∧ Upd [] w w') := by
  refine enter (l := []) Try.func130 rfl Try.ntmps130 rfl ?_
  refine c_seq fun KhK1 hK1 => ?_
  refine c_reg ?_
  refine op_assign (v := .slice none 0 0) rfl rfl rfl ?_
  refine wpList_nil ?_
  refine hK1 _ _ ?_
  refine c_seq fun KhK2 hK2 => ?_
  refine c_reg ?_
  refine op_buildSlice (r := [.string (⟨#[58, 61]⟩ : ByteArray), .string (⟨#[47, 61]⟩ : ByteArray), .string (⟨#[60, 61]⟩ : ByteArray), .string (⟨#[62, 61]⟩ : ByteArray), .string (⟨#[47, 47]⟩ : ByteArray), .string (⟨#[61]⟩ : ByteArray), .string (⟨#[60]⟩ : ByteArray), .string (⟨#[62]⟩ : ByteArray), .string (⟨#[43]⟩ : ByteArray), .string (⟨#[45]⟩ : ByteArray), .string (⟨#[42]⟩ : ByteArray), .string (⟨#[37]⟩ : ByteArray), .string (⟨#[40]⟩ : ByteArray), .string (⟨#[41]⟩ : ByteArray), .string (⟨#[91]⟩ : ByteArray), .string (⟨#[93]⟩ : ByteArray), .string (⟨#[123]⟩ : ByteArray), .string (⟨#[125]⟩ : ByteArray), .string (⟨#[44]⟩ : ByteArray), .string (⟨#[59]⟩ : ByteArray), .string (⟨#[58]⟩ : ByteArray), .string (⟨#[46]⟩ : ByteArray)]) ty138 ty9 rfl rfl rfl rfl rfl rfl fun β3 w4 hβ5 u6 hz7 hx8 => ?_
  have nf9 : β3 ∉ [] ++ M := ((Evo.refl [] w).loM hM).fresh hβ5
  have e10 := u6.evo0 (m := [])
  have hs11 : SL ([] ++ M) w4 (some ⟨β3, 0, none⟩) 22 ([(⟨#[58, 61]⟩ : ByteArray), (⟨#[47, 61]⟩ : ByteArray), (⟨#[60, 61]⟩ : ByteArray), (⟨#[62, 61]⟩ : ByteArray), (⟨#[47, 47]⟩ : ByteArray), (⟨#[61]⟩ : ByteArray), (⟨#[60]⟩ : ByteArray), (⟨#[62]⟩ : ByteArray), (⟨#[43]⟩ : ByteArray), (⟨#[45]⟩ : ByteArray), (⟨#[42]⟩ : ByteArray), (⟨#[37]⟩ : ByteArray), (⟨#[40]⟩ : ByteArray), (⟨#[41]⟩ : ByteArray), (⟨#[91]⟩ : ByteArray), (⟨#[93]⟩ : ByteArray), (⟨#[123]⟩ : ByteArray), (⟨#[125]⟩ : ByteArray), (⟨#[44]⟩ : ByteArray), (⟨#[59]⟩ : ByteArray), (⟨#[58]⟩ : ByteArray), (⟨#[46]⟩ : ByteArray)] : List ByteArray) := SL.of_boxL hx8 nf9 (by simp only [List.length_cons, List.length_nil]; omega) ⟨[.string (⟨#[58, 61]⟩ : ByteArray)], _, rfl, rfl, ⟨[.string (⟨#[47, 61]⟩ : ByteArray)], _, rfl, rfl, ⟨[.string (⟨#[60, 61]⟩ : ByteArray)], _, rfl, rfl, ⟨[.string (⟨#[62, 61]⟩ : ByteArray)], _, rfl, rfl, ⟨[.string (⟨#[47, 47]⟩ : ByteArray)], _, rfl, rfl, ⟨[.string (⟨#[61]⟩ : ByteArray)], _, rfl, rfl, ⟨[.string (⟨#[60]⟩ : ByteArray)], _, rfl, rfl, ⟨[.string (⟨#[62]⟩ : ByteArray)], _, rfl, rfl, ⟨[.string (⟨#[43]⟩ : ByteArray)], _, rfl, rfl, ⟨[.string (⟨#[45]⟩ : ByteArray)], _, rfl, rfl, ⟨[.string (⟨#[42]⟩ : ByteArray)], _, rfl, rfl, ⟨[.string (⟨#[37]⟩ : ByteArray)], _, rfl, rfl, ⟨[.string (⟨#[40]⟩ : ByteArray)], _, rfl, rfl, ⟨[.string (⟨#[41]⟩ : ByteArray)], _, rfl, rfl, ⟨[.string (⟨#[91]⟩ : ByteArray)], _, rfl, rfl, ⟨[.string (⟨#[93]⟩ : ByteArray)], _, rfl, rfl, ⟨[.string (⟨#[123]⟩ : ByteArray)], _, rfl, rfl, ⟨[.string (⟨#[125]⟩ : ByteArray)], _, rfl, rfl, ⟨[.string (⟨#[44]⟩ : ByteArray)], _, rfl, rfl, ⟨[.string (⟨#[59]⟩ : ByteArray)], _, rfl, rfl, ⟨[.string (⟨#[58]⟩ : ByteArray)], _, rfl, rfl, ⟨[.string (⟨#[46]⟩ : ByteArray)], _, rfl, rfl, rfl⟩⟩⟩⟩⟩⟩⟩⟩⟩⟩⟩⟩⟩⟩⟩⟩⟩⟩⟩⟩⟩⟩
  refine op_assign (v := .slice (some ⟨β3, 0, none⟩) ([(⟨#[58, 61]⟩ : ByteArray), (⟨#[47, 61]⟩ : ByteArray), (⟨#[60, 61]⟩ : ByteArray), (⟨#[62, 61]⟩ : ByteArray), (⟨#[47, 47]⟩ : ByteArray), (⟨#[61]⟩ : ByteArray), (⟨#[60]⟩ : ByteArray), (⟨#[62]⟩ : ByteArray), (⟨#[43]⟩ : ByteArray), (⟨#[45]⟩ : ByteArray), (⟨#[42]⟩ : ByteArray), (⟨#[37]⟩ : ByteArray), (⟨#[40]⟩ : ByteArray), (⟨#[41]⟩ : ByteArray), (⟨#[91]⟩ : ByteArray), (⟨#[93]⟩ : ByteArray), (⟨#[123]⟩ : ByteArray), (⟨#[125]⟩ : ByteArray), (⟨#[44]⟩ : ByteArray), (⟨#[59]⟩ : ByteArray), (⟨#[58]⟩ : ByteArray), (⟨#[46]⟩ : ByteArray)] : List ByteArray).length 22) rfl rfl rfl ?_
  refine wpList_nil ?_
  refine hK2 _ _ ?_
  refine wp_ret ?_
  have hr12 : (([(⟨#[58, 61]⟩ : ByteArray), (⟨#[47, 61]⟩ : ByteArray), (⟨#[60, 61]⟩ : ByteArray), (⟨#[62, 61]⟩ : ByteArray), (⟨#[47, 47]⟩ : ByteArray), (⟨#[61]⟩ : ByteArray), (⟨#[60]⟩ : ByteArray), (⟨#[62]⟩ : ByteArray), (⟨#[43]⟩ : ByteArray), (⟨#[45]⟩ : ByteArray), (⟨#[42]⟩ : ByteArray), (⟨#[37]⟩ : ByteArray), (⟨#[40]⟩ : ByteArray), (⟨#[41]⟩ : ByteArray), (⟨#[91]⟩ : ByteArray), (⟨#[93]⟩ : ByteArray), (⟨#[123]⟩ : ByteArray), (⟨#[125]⟩ : ByteArray), (⟨#[44]⟩ : ByteArray), (⟨#[59]⟩ : ByteArray), (⟨#[58]⟩ : ByteArray), (⟨#[46]⟩ : ByteArray)] : List ByteArray) : List ByteArray) = (Pk.rsigns) := by simp [ Pk.rsigns]
  exact ret1 Try.results130 rfl ⟨(some ⟨β3, 0, none⟩), 22, slc_eq hr12, (hr12 ▸ (hs11.mono (Tr.sub _ (fun b hb => List.mem_append_right _ hb)) : SL M w4 (some ⟨β3, 0, none⟩) 22 (([(⟨#[58, 61]⟩ : ByteArray), (⟨#[47, 61]⟩ : ByteArray), (⟨#[60, 61]⟩ : ByteArray), (⟨#[62, 61]⟩ : ByteArray), (⟨#[47, 47]⟩ : ByteArray), (⟨#[61]⟩ : ByteArray), (⟨#[60]⟩ : ByteArray), (⟨#[62]⟩ : ByteArray), (⟨#[43]⟩ : ByteArray), (⟨#[45]⟩ : ByteArray), (⟨#[42]⟩ : ByteArray), (⟨#[37]⟩ : ByteArray), (⟨#[40]⟩ : ByteArray), (⟨#[41]⟩ : ByteArray), (⟨#[91]⟩ : ByteArray), (⟨#[93]⟩ : ByteArray), (⟨#[123]⟩ : ByteArray), (⟨#[125]⟩ : ByteArray), (⟨#[44]⟩ : ByteArray), (⟨#[59]⟩ : ByteArray), (⟨#[58]⟩ : ByteArray), (⟨#[46]⟩ : ByteArray)] : List ByteArray) : List ByteArray))), e10.old⟩
set_option maxHeartbeats 1000000 in
theorem c99 {M : List Nat} {w : World} {x0 : Pk.Val} {x1 : Int} (hM : Lo M w) (p0 : 0 ≤ x1) (p1 : x1 < 9223372036854775808) : Calls Try.prog 99 #[.agg #[.int .i64 x0.Kind, .int .i64 x0.N], .int .i64 x1] w (Ret fun v w' => v = .bool (Pk.value x0 x1) ∧ Upd [] w w') := by
  refine enter (l := [.agg #[.int .i64 x0.Kind, .int .i64 x0.N], .int .i64 x1]) Try.func99 rfl Try.ntmps99 rfl ?_
  refine c_seq fun KhK1 hK1 => ?_
  refine c_reg ?_
  refine op_box (v := .agg #[.int .i64 x0.Kind, .int .i64 x0.N]) (zs := [.int .i64 x0.Kind, .int .i64 x0.N]) rfl rfl rfl rfl fun β2 w3 hβ4 u5 hz6 hx7 => ?_
  have e8 := u5.evoN (m := []) hβ4 hz6
  refine op_assign (v := .bool false) rfl rfl rfl ?_
  refine wpList_nil ?_
  refine hK1 _ _ ?_
  refine c_seq fun KhK9 hK9 => ?_
  refine c_seq fun KhK10 hK10 => ?_
  refine c_reg ?_
  refine op_fieldB fld51_0 rfl rfl rfl ?_
  refine op_loadB (v := .int .i64 x0.Kind) ty3 rfl rfl rfl rfl hx7 rfl ?_
  refine wpList_nil ?_
  refine hK10 _ _ ?_
  refine wp_block ?_
  refine c_seq fun KhK11 hK11 => ?_
  refine c_reg ?_
  refine op_eq rfl rfl rfl rfl ?_
  refine op_assign (v := .bool (decide (x0.Kind = 1))) rfl rfl rfl ?_
  refine wpList_nil ?_
  refine hK11 _ _ ?_
  refine c_if rfl rfl (fun hb12 => ?_) (fun hb12 => ?_)
  · -- x0.Kind = 1
    refine c_seq fun KhK13 hK13 => ?_
    refine c_reg ?_
    refine op_fieldB fld51_1 rfl rfl rfl ?_
    refine op_loadB (v := .int .i64 x0.N) ty3 rfl rfl rfl rfl hx7 rfl ?_
    refine op_call (args := [.int .i64 x0.N, .int .i64 (-1099511627776), .int .i64 1099511627776]) cal58 rfl rfl rfl (c58 (e8.loM hM)) ?_
    rintro _ w14 ⟨rfl, u15⟩
    have e17 := u15.evo0 (m := (β2 :: []))
    replace hx7 := hx7.mono0 u15
    refine op_assign (v := .bool (Pk.within x0.N (-1099511627776) 1099511627776)) rfl rfl rfl ?_
    refine wpList_nil ?_
    refine hK13 _ _ ?_
    refine wp_ret ?_
    have hr18 : (Pk.within x0.N (-1099511627776) 1099511627776) = (Pk.value x0 x1) := by simp [ Pk.value, hb12]
    exact ret1 Try.results99 rfl ⟨congrArg Value.bool hr18, (e8.trans e17).old⟩
  · -- ¬ (x0.Kind = 1)
    refine c_seq fun KhK19 hK19 => ?_
    refine c_reg ?_
    refine op_eq rfl rfl rfl rfl ?_
    refine op_assign (v := .bool (decide (x0.Kind = 2))) rfl rfl rfl ?_
    refine wpList_nil ?_
    refine hK19 _ _ ?_
    refine c_if rfl rfl (fun hb20 => ?_) (fun hb20 => ?_)
    · -- x0.Kind = 2
      refine c_seq fun KhK21 hK21 => ?_
      refine c_reg ?_
      refine op_fieldB fld51_1 rfl rfl rfl ?_
      refine op_loadB (v := .int .i64 x0.N) ty3 rfl rfl rfl rfl hx7 rfl ?_
      refine op_call (args := [.int .i64 x0.N, .int .i64 0, .int .i64 1]) cal58 rfl rfl rfl (c58 (e8.loM hM)) ?_
      rintro _ w22 ⟨rfl, u23⟩
      have e25 := u23.evo0 (m := (β2 :: []))
      replace hx7 := hx7.mono0 u23
      refine op_assign (v := .bool (Pk.within x0.N 0 1)) rfl rfl rfl ?_
      refine wpList_nil ?_
      refine hK21 _ _ ?_
      refine wp_ret ?_
      have hr26 : (Pk.within x0.N 0 1) = (Pk.value x0 x1) := by simp [ Pk.value, hb12, hb20]
      exact ret1 Try.results99 rfl ⟨congrArg Value.bool hr26, (e8.trans e25).old⟩
    · -- ¬ (x0.Kind = 2)
      refine c_seq fun KhK27 hK27 => ?_
      refine c_reg ?_
      refine op_eq rfl rfl rfl rfl ?_
      refine op_assign (v := .bool (decide (x0.Kind = 3))) rfl rfl rfl ?_
      refine wpList_nil ?_
      refine hK27 _ _ ?_
      refine c_if rfl rfl (fun hb28 => ?_) (fun hb28 => ?_)
      · -- x0.Kind = 3
        refine c_seq fun KhK29 hK29 => ?_
        refine c_reg ?_
        refine op_fieldB fld51_1 rfl rfl rfl ?_
        refine op_loadB (v := .int .i64 x0.N) ty3 rfl rfl rfl rfl hx7 rfl ?_
        refine op_eq rfl rfl rfl rfl ?_
        refine op_assign (v := .bool (decide (x0.N = 0))) rfl rfl rfl ?_
        refine wpList_nil ?_
        refine hK29 _ _ ?_
        refine wp_ret ?_
        have hr30 : (decide (x0.N = 0)) = (Pk.value x0 x1) := by simp [ Pk.value, hb12, hb20, hb28]
        exact ret1 Try.results99 rfl ⟨congrArg Value.bool hr30, e8.old⟩
      · -- ¬ (x0.Kind = 3)
        refine c_seq fun KhK31 hK31 => ?_
        refine c_reg ?_
        refine op_eq rfl rfl rfl rfl ?_
        refine op_assign (v := .bool (decide (x0.Kind = 4))) rfl rfl rfl ?_
        refine wpList_nil ?_
        refine hK31 _ _ ?_
        refine c_if rfl rfl (fun hb32 => ?_) (fun hb32 => ?_)
        · -- x0.Kind = 4
          refine c_seq fun KhK33 hK33 => ?_
          refine c_reg ?_
          refine op_fieldB fld51_1 rfl rfl rfl ?_
          refine op_loadB (v := .int .i64 x0.N) ty3 rfl rfl rfl rfl hx7 rfl ?_
          refine op_move (v := .int .i64 x1) rfl rfl rfl ?_
          refine op_sub rfl rfl rfl rfl (by omega) ?_
          refine op_call (args := [.int .i64 x0.N, .int .i64 0, .int .i64 (x1 - 1)]) cal58 rfl rfl rfl (c58 (e8.loM hM)) ?_
          rintro _ w34 ⟨rfl, u35⟩
          have e37 := u35.evo0 (m := (β2 :: []))
          replace hx7 := hx7.mono0 u35
          refine op_assign (v := .bool (Pk.within x0.N 0 (x1 - 1))) rfl rfl rfl ?_
          refine wpList_nil ?_
          refine hK33 _ _ ?_
          refine wp_ret ?_
          have hr38 : (Pk.within x0.N 0 (x1 - 1)) = (Pk.value x0 x1) := by simp [ Pk.value, hb12, hb20, hb28, hb32]
          exact ret1 Try.results99 rfl ⟨congrArg Value.bool hr38, (e8.trans e37).old⟩
        · -- ¬ (x0.Kind = 4)
          refine wp_skip ?_
          refine hK9 _ _ ?_
          refine c_seq fun KhK39 hK39 => ?_
          refine c_reg ?_
          refine op_assign (v := .bool false) rfl rfl rfl ?_
          refine wpList_nil ?_
          refine hK39 _ _ ?_
          refine wp_ret ?_
          have hr40 : false = (Pk.value x0 x1) := by simp [ Pk.value, hb12, hb20, hb28, hb32]
          exact ret1 Try.results99 rfl ⟨congrArg Value.bool hr40, e8.old⟩
end Go.Proofs.Ytcnhjofpmpipfaa
