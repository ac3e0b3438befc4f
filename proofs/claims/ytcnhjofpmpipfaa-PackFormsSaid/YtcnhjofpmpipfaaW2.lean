import Derived.Test.YtcnhjofpmpipfaaW1
set_option linter.unusedVariables false
set_option linter.unusedSimpArgs false
set_option maxRecDepth 100000
namespace Go.Proofs.Ytcnhjofpmpipfaa
open Go Go.Sx Go.RowKit
open Go.Sx.Dat (enc)
attribute [local irreducible] Go.wpList Go.wpQuiet Go.Code.wp
set_option maxHeartbeats 1000000 in
theorem c88 {M : List Nat} {w : World} {x0 : List Pk.Form} {a_x0 : Option Addr} {c_x0 : Nat} {x1 : Pk.Graph} {a1_x1 : Option Addr} {c1_x1 : Nat} {a2_x1 : Option Addr} {c2_x1 : Nat} (hM : Lo M w) (h_x0 : SL M w a_x0 c_x0 x0) (h1_x1 : SL M w a1_x1 c1_x1 x1.Nodes) (h2_x1 : SL M w a2_x1 c2_x1 x1.Roots) (p0 : ∀ n ∈ x1.Nodes, 0 ≤ Pk.form x0 n.Class) (p1 : ∀ n ∈ x1.Nodes, ∀ v ∈ n.Vals, Pk.value v x1.Nodes.length = true) : Calls Try.prog 88 #[.slice a_x0 x0.length c_x0, .agg #[.slice a1_x1 x1.Nodes.length c1_x1, .slice a2_x1 x1.Roots.length c2_x1]] w (Ret fun v w' => v = .bool (Pk.typed x0 x1) ∧ Upd [] w w') := by
  have lh_x0 := h_x0.lt63
  have lh1_x1 := h1_x1.lt63
  have lh2_x1 := h2_x1.lt63
  refine enter (l := [.slice a_x0 x0.length c_x0, .agg #[.slice a1_x1 x1.Nodes.length c1_x1, .slice a2_x1 x1.Roots.length c2_x1]]) Try.func88 rfl Try.ntmps88 rfl ?_
  refine c_seq fun KhK1 hK1 => ?_
  refine c_reg ?_
  refine op_box (v := .agg #[.slice a1_x1 x1.Nodes.length c1_x1, .slice a2_x1 x1.Roots.length c2_x1]) (zs := [.slice a1_x1 x1.Nodes.length c1_x1, .slice a2_x1 x1.Roots.length c2_x1]) rfl rfl rfl rfl fun β2 w3 hβ4 u5 hz6 hx7 => ?_
  have e8 := u5.evoN (m := []) hβ4 hz6
  refine op_assign (v := .bool false) rfl rfl rfl ?_
  refine wpList_nil ?_
  refine hK1 _ _ ?_
  refine c_seq fun KhK9 hK9 => ?_
  refine c_seq fun KhK10 hK10 => ?_
  refine c_reg ?_
  refine op_fieldB fld26_0 rfl rfl rfl ?_
  refine op_loadB (v := .slice a1_x1 x1.Nodes.length c1_x1) ty23 rfl rfl rfl rfl hx7 rfl ?_
  refine op_len ty23 rfl rfl rfl ?_
  refine op_move (v := .int .i64 0) rfl rfl rfl ?_
  refine wpList_nil ?_
  refine hK10 _ _ ?_
  refine wp_block ?_
  refine c_loop (X := Nat) [4, 6, 7, 8, 9, 13, 14, 15, 16, 17, 18, 19, 20, 21, 22, 23, 24, 25, 26, 27, 28, 29, 30, 31, 32, 33, 34, 35, 36, 37, 38, 39, 40, 41, 42, 43, 44, 45, 46, 47, 48] (fun k => [(13, .int .i64 (k : Int))]) (fun k w1 => (k ≤ x1.Nodes.length) ∧ (Pk.typed x0 x1 = Pk.typedGo x0 x1 (x1.Nodes.drop k)) ∧ Evo (β2 :: []) w3 (β2 :: []) w1 ∧ Box w1 β2 [.slice a1_x1 x1.Nodes.length c1_x1, .slice a2_x1 x1.Roots.length c2_x1]) (fun k => x1.Nodes.length - k) (0) ⟨congrArg (Value.int .i64) (show 0 = ((0 : Nat) : Int) by omega), trivial⟩ ?_ ?_
  ·
    exact ⟨(by first | omega | simp), (by simp [Pk.typed]), Evo.refl _ _, hx7⟩
  ·
    rintro k τ w11 ⟨hi13, hi14, e12, hx7⟩
    refine c_seq fun KhK15 hK15 => ?_
    refine c_reg ?_
    refine op_lss rfl rfl rfl rfl ?_
    refine wpList_nil ?_
    refine hK15 _ _ ?_
    refine c_seq fun KhK16 hK16 => ?_
    refine c_if rfl rfl (fun hb17 => ?_) (fun hb17 => ?_)
    · -- (k : Int) < (x1.Nodes.length : Int)
      refine wp_skip ?_
      refine hK16 _ _ ?_
      refine c_seq fun KhK18 hK18 => ?_
      refine wp_block ?_
      refine c_seq fun KhK19 hK19 => ?_
      refine c_reg ?_
      refine op_indexN (j := k) ty23 ty49 rfl rfl rfl rfl rfl (h1_x1.mono ((e8.trans e12).tr M)) (by omega) fun ad20 cs21 u22 hx23 he24 ca25 => ?_
      obtain ⟨a_u22, c_u22, rfl, h_u22⟩ := he24
      have lh_u22 := h_u22.lt63
      have mmu22 := List.mem_of_getElem? hx23
      have qu22 := p0 u22 mmu22
      have ru22 := Pk.form_lt x0 u22.Class
      refine op_loadAA ty49 rfl rfl rfl rfl ca25 rfl ?_
      refine op_alloc (zs := [.string (⟨#[]⟩ : ByteArray), .slice none 0 0]) ty49 rfl rfl fun β26 w27 hβ28 u29 hz30 hx31 => ?_
      have e32 := u29.evoN (m := (β2 :: [])) hβ28 hz30
      have ne33 : β2 ≠ β26 := by have := hx7.lt; omega
      replace hx7 := hx7.mono0 u29
      refine op_store (v := .agg #[.string u22.Class, .slice a_u22 u22.Vals.length c_u22]) (cs' := [.string u22.Class, .slice a_u22 u22.Vals.length c_u22]) ty49 rfl rfl rfl rfl hx31 rfl rfl rfl fun w34 u35 hz36 hx31' => ?_
      have e37 := u35.evo (m := (β26 :: (β2 :: []))) (List.forall_mem_singleton.2 List.mem_cons_self)
      replace hx7 := hx7.mono u35 (fun h => (ne33) (List.mem_singleton.1 h))
      refine wpList_nil ?_
      refine hK19 _ _ ?_
      refine c_seq fun KhK38 hK38 => ?_
      refine c_reg ?_
      refine op_move (v := .slice a_x0 x0.length c_x0) rfl rfl rfl ?_
      refine op_move (v := .slice a_x0 x0.length c_x0) rfl rfl rfl ?_
      refine op_fieldB fld49_0 rfl rfl rfl ?_
      refine op_loadB (v := .string u22.Class) ty9 rfl rfl rfl rfl hx31' rfl ?_
      refine op_call (args := [.slice a_x0 x0.length c_x0, .string u22.Class]) cal52 rfl rfl rfl (c52 ((((e8.trans e12).trans e32).trans e37).loM hM) (h_x0.mono ((((e8.trans e12).trans e32).trans e37).tr M))) ?_
      rintro _ w39 ⟨rfl, u40⟩
      have e42 := u40.evo0 (m := (β26 :: (β2 :: [])))
      replace hx7 := hx7.mono0 u40
      replace hx31' := hx31'.mono0 u40
      refine op_indexI ty22 ty91 rfl rfl rfl rfl rfl (h_x0.mono (((((e8.trans e12).trans e32).trans e37).trans e42).tr M)) (by omega) (by omega) fun ad43 cs44 u45 hx46 he47 ca48 => ?_
      obtain ⟨a_u45, c_u45, rfl, h_u45⟩ := he47
      have lh_u45 := h_u45.lt63
      refine op_field fld91_1 rfl rfl rfl ca48.spot ?_
      refine op_loadA (v := .slice a_u45 u45.Cols.length c_u45) ty89 rfl rfl rfl rfl ca48 rfl ?_
      refine op_assign (v := .slice a_u45 u45.Cols.length c_u45) rfl rfl rfl ?_
      refine wpList_nil ?_
      refine hK38 _ _ ?_
      refine c_seq fun KhK49 hK49 => ?_
      refine c_seq fun KhK50 hK50 => ?_
      refine c_reg ?_
      refine op_fieldB fld49_1 rfl rfl rfl ?_
      refine op_loadB (v := .slice a_u22 u22.Vals.length c_u22) ty24 rfl rfl rfl rfl hx31' rfl ?_
      refine op_len ty24 rfl rfl rfl ?_
      refine op_move (v := .slice a_u45 u45.Cols.length c_u45) rfl rfl rfl ?_
      refine op_len ty89 rfl rfl rfl ?_
      refine op_neq rfl rfl rfl rfl ?_
      refine wpList_nil ?_
      refine hK50 _ _ ?_
      refine c_ifN rfl rfl (fun hb51 => ?_) (fun hb51 => ?_)
      · -- ¬ ((u22.Vals.length : Int) = (u45.Cols.length : Int))
        refine c_seq fun KhK52 hK52 => ?_
        refine c_reg ?_
        refine op_assign (v := .bool false) rfl rfl rfl ?_
        refine wpList_nil ?_
        refine hK52 _ _ ?_
        refine wp_ret ?_
        have hr53 : false = (Pk.typed x0 x1) := by rw [hi14]; simp [drop_of hx23, drop_of hx46, Pk.typedGo, Pk.typedIn, hi13, hb17, hx23, hx46, hb51]
        exact ret1 Try.results88 rfl ⟨congrArg Value.bool hr53, ((((e8.trans e12).trans e32).trans e37).trans e42).old⟩
      · -- (u22.Vals.length : Int) = (u45.Cols.length : Int)
        refine wp_skip ?_
        refine hK49 _ _ ?_
        refine c_seq fun KhK54 hK54 => ?_
        refine c_reg ?_
        refine op_move (v := .slice a_u45 u45.Cols.length c_u45) rfl rfl rfl ?_
        refine op_len ty89 rfl rfl rfl ?_
        refine op_move (v := .int .i64 0) rfl rfl rfl ?_
        refine wpList_nil ?_
        refine hK54 _ _ ?_
        refine wp_block ?_
        refine c_loop (X := Nat) [4, 8, 9, 33, 34, 35, 36, 37, 38, 39, 40, 41, 42, 43, 44, 45, 46, 47] (fun j => [(33, .int .i64 (j : Int))]) (fun j w1 => (j ≤ u45.Cols.length) ∧ (Pk.typed x0 x1 = (if Pk.typedIn x1 u22.Vals j (u45.Cols.drop j) = true then Pk.typedGo x0 x1 (x1.Nodes.drop (k + 1)) else false)) ∧ Evo (β26 :: (β2 :: [])) w39 (β26 :: (β2 :: [])) w1 ∧ Box w1 β2 [.slice a1_x1 x1.Nodes.length c1_x1, .slice a2_x1 x1.Roots.length c2_x1] ∧ Box w1 β26 [.string u22.Class, .slice a_u22 u22.Vals.length c_u22]) (fun j => u45.Cols.length - j) (0) ⟨congrArg (Value.int .i64) (show 0 = ((0 : Nat) : Int) by omega), trivial⟩ ?_ ?_
        ·
          exact ⟨(by first | omega | simp), (by rw [hi14]; simp [drop_of hx23, drop_of hx46, Pk.typedGo, hi13, hb17, hx23, hx46, hb51]), Evo.refl _ _, hx7, hx31'⟩
        ·
          rintro j τ w55 ⟨hi57, hi58, e56, hx7, hx31'⟩
          refine c_seq fun KhK59 hK59 => ?_
          refine c_reg ?_
          refine op_lss rfl rfl rfl rfl ?_
          refine wpList_nil ?_
          refine hK59 _ _ ?_
          refine c_seq fun KhK60 hK60 => ?_
          refine c_if rfl rfl (fun hb61 => ?_) (fun hb61 => ?_)
          · -- (j : Int) < (u45.Cols.length : Int)
            refine wp_skip ?_
            refine hK60 _ _ ?_
            refine c_seq fun KhK62 hK62 => ?_
            refine wp_block ?_
            refine c_seq fun KhK63 hK63 => ?_
            refine c_reg ?_
            refine op_move (v := .int .i64 (j : Int)) rfl rfl rfl ?_
            refine op_indexN (j := j) ty89 ty93 rfl rfl rfl rfl rfl (h_u45.mono (e56.tr M)) (by omega) fun ad64 cs65 u66 hx67 he68 ca69 => ?_
            obtain rfl := he68
            refine op_loadAA ty93 rfl rfl rfl rfl ca69 rfl ?_
            refine op_alloc (zs := [.string (⟨#[]⟩ : ByteArray), .int .i64 0, .string (⟨#[]⟩ : ByteArray)]) ty93 rfl rfl fun β70 w71 hβ72 u73 hz74 hx75 => ?_
            have e76 := u73.evoN (m := (β26 :: (β2 :: []))) hβ72 hz74
            have ne77 : β2 ≠ β70 := by have := hx7.lt; omega
            replace hx7 := hx7.mono0 u73
            have ne78 : β26 ≠ β70 := by have := hx31'.lt; omega
            replace hx31' := hx31'.mono0 u73
            refine op_assign (v := .int .i64 (j : Int)) rfl rfl rfl ?_
            refine op_store (v := .agg #[.string u66.Name, .int .i64 u66.Kind, .string u66.Class]) (cs' := [.string u66.Name, .int .i64 u66.Kind, .string u66.Class]) ty93 rfl rfl rfl rfl hx75 rfl rfl rfl fun w79 u80 hz81 hx75' => ?_
            have e82 := u80.evo (m := (β70 :: (β26 :: (β2 :: [])))) (List.forall_mem_singleton.2 List.mem_cons_self)
            replace hx7 := hx7.mono u80 (fun h => (ne77) (List.mem_singleton.1 h))
            replace hx31' := hx31'.mono u80 (fun h => (ne78) (List.mem_singleton.1 h))
            refine wpList_nil ?_
            refine hK63 _ _ ?_
            refine c_seq fun KhK83 hK83 => ?_
            refine c_quiet mixed (by kernel_rfl) ?_
            refine q_val (v := .agg #[.slice a1_x1 x1.Nodes.length c1_x1, .slice a2_x1 x1.Roots.length c2_x1]) rfl rfl rfl (fun wq84 uq85 => op_loadBA (ds := [.slice a1_x1 x1.Nodes.length c1_x1, .slice a2_x1 x1.Roots.length c2_x1]) ty26 rfl rfl rfl rfl (hx7.mono0 uq85) rfl rfl q1) ?_
            refine q_val (v := .agg #[.string u66.Name, .int .i64 u66.Kind, .string u66.Class]) rfl rfl rfl (fun wq86 uq87 => op_loadBA (ds := [.string u66.Name, .int .i64 u66.Kind, .string u66.Class]) ty93 rfl rfl rfl rfl (hx75'.mono0 uq87) rfl rfl q1) ?_
            refine q_val (v := .pointer (some ⟨β26, 1, none⟩)) rfl rfl rfl (fun wq88 uq89 => op_fieldB fld49_1 rfl rfl rfl q1) ?_
            refine q_val (v := .slice a_u22 u22.Vals.length c_u22) rfl rfl rfl (fun wq90 uq91 => op_loadB (v := .slice a_u22 u22.Vals.length c_u22) ty24 rfl rfl rfl rfl (hx31'.mono0 uq91) rfl q1) ?_
            refine q_val (v := .int .i64 (j : Int)) rfl rfl rfl (fun wq92 uq93 => op_move (v := .int .i64 (j : Int)) rfl rfl rfl q1) ?_
            obtain ⟨ad94, cs95, u96, hx97, he98, ca99, hr100⟩ := (h_u22.mono ((((((e32.trans e37).trans e42).trans e56).trans e76).trans e82).tr M)).idxN (j := j) ty24 ty51 rfl (by omega)
            obtain rfl := he98
            have mmu96 := List.mem_of_getElem? hx97
            refine q_val (v := .pointer (some ad94)) rfl rfl rfl (fun wq101 uq102 => op_indexR hr100 rfl rfl rfl rfl q1) ?_
            refine q_val (v := .agg #[.int .i64 u96.Kind, .int .i64 u96.N]) rfl rfl rfl (fun wq103 uq104 => op_loadAA ty51 rfl rfl rfl rfl (ca99.mono ((uq104.evo0 (m := (β70 :: (β26 :: (β2 :: []))))).tr M)) rfl q1) ?_
            refine q_call (args := [.agg #[.slice a1_x1 x1.Nodes.length c1_x1, .slice a2_x1 x1.Roots.length c2_x1], .agg #[.string u66.Name, .int .i64 u66.Kind, .string u66.Class], .agg #[.int .i64 u96.Kind, .int .i64 u96.N]]) (v := .bool (Pk.suits x1 u66 u96)) cal121 rfl rfl rfl (fun wq105 uq106 => c121 (((((((((e8.trans e12).trans e32).trans e37).trans e42).trans e56).trans e76).trans e82).trans (uq106.evo0 (m := (β70 :: (β26 :: (β2 :: [])))))).loM hM) (h1_x1.mono (((((((((e8.trans e12).trans e32).trans e37).trans e42).trans e56).trans e76).trans e82).trans (uq106.evo0 (m := (β70 :: (β26 :: (β2 :: [])))))).tr M)) (h2_x1.mono (((((((((e8.trans e12).trans e32).trans e37).trans e42).trans e56).trans e76).trans e82).trans (uq106.evo0 (m := (β70 :: (β26 :: (β2 :: [])))))).tr M)) (by first | omega | exact fun hk => Pk.value_ref (p1 _ (by assumption) _ (by assumption)) hk)) ?_
            refine q_val (v := .bool (!(Pk.suits x1 u66 u96))) rfl rfl rfl (fun wq107 uq108 => op_notB rfl rfl rfl q1) ?_
            refine wpQuiet_nil fun w109 u110 => ?_
            have e111 := u110.evo0 (m := (β70 :: (β26 :: (β2 :: []))))
            replace hx7 := hx7.mono0 u110
            replace hx31' := hx31'.mono0 u110
            replace hx75' := hx75'.mono0 u110
            refine hK83 _ _ ?_
            refine c_ifNB rfl rfl (fun hb112 => ?_) (fun hb112 => ?_)
            · -- (Pk.suits x1 u66 u96) = false
              refine c_seq fun KhK113 hK113 => ?_
              refine c_reg ?_
              refine op_assign (v := .bool false) rfl rfl rfl ?_
              refine wpList_nil ?_
              refine hK113 _ _ ?_
              refine wp_ret ?_
              have hr114 : false = (Pk.typed x0 x1) := by rw [hi58]; simp [drop_of hx67, drop_of hx97, Pk.typedGo, Pk.typedIn, hi13, hb17, hx23, hx46, hb51, hi57, hb61, hx67, hx97, hb112]
              exact ret1 Try.results88 rfl ⟨congrArg Value.bool hr114, ((((((((e8.trans e12).trans e32).trans e37).trans e42).trans e56).trans e76).trans e82).trans e111).old⟩
            · -- (Pk.suits x1 u66 u96) = true
              refine wp_skip ?_
              refine hK62 _ _ ?_
              refine c_reg ?_
              refine op_add rfl rfl rfl rfl (by omega) ?_
              refine op_move (v := .int .i64 ((j : Int) + 1)) rfl rfl rfl ?_
              refine wpList_nil ?_
              repeat (with_reducible refine inBlock_normal ?_)
              with_reducible refine then_normal ?_
              exact ⟨(j + 1), (by first | omega | (dsimp only; omega)), ⟨(by first | omega | (simp only [List.length_append, List.length_cons, List.length_nil]; omega) | (rw [hi58]; simp [drop_of hx67, drop_of hx97, Pk.typedGo, Pk.typedIn, hi13, hb17, hx23, hx46, hb51, hi57, hb61, hx67, hx97, hb112])), (by rw [hi58]; simp [drop_of hx67, drop_of hx97, Pk.typedGo, Pk.typedIn, hi13, hb17, hx23, hx46, hb51, hi57, hb61, hx67, hx97, hb112]), ((((e56.trans e76).trans e82).trans e111).drop (fun b hb => by simp [hb])), hx7, hx31'⟩, _, rfl, (by repeat first | exact agree.refl _ _ | refine agree.upd rfl ?_ | refine agree.upds rfl ?_ | refine agree.mix rfl ?_), ⟨congrArg (Value.int .i64) (show ((j : Int) + 1) = ((j + 1 : Nat) : Int) by omega), trivial⟩⟩
          · -- ¬ ((j : Int) < (u45.Cols.length : Int))
            refine wp_exit ?_
            refine hK18 _ _ ?_
            refine c_reg ?_
            refine op_add rfl rfl rfl rfl (by omega) ?_
            refine op_move (v := .int .i64 ((k : Int) + 1)) rfl rfl rfl ?_
            refine wpList_nil ?_
            repeat (with_reducible refine inBlock_normal ?_)
            with_reducible refine then_normal ?_
            exact ⟨(k + 1), (by first | omega | (dsimp only; omega)), ⟨(by first | omega | (simp only [List.length_append, List.length_cons, List.length_nil]; omega) | (rw [hi58]; simp [drop_end (l := u45.Cols) (k := j) (by first | omega | (rw [bytes_length]; omega)), Pk.typedGo, Pk.typedIn, hi13, hb17, hx23, hx46, hb51, hi57, hb61])), (by rw [hi58]; simp [drop_end (l := u45.Cols) (k := j) (by first | omega | (rw [bytes_length]; omega)), Pk.typedGo, Pk.typedIn, hi13, hb17, hx23, hx46, hb51, hi57, hb61]), (((((e12.trans e32).trans e37).trans e42).trans e56).drop (fun b hb => by simp [hb])), hx7⟩, _, rfl, (by repeat first | exact agree.refl _ _ | refine agree.upd rfl ?_ | refine agree.upds rfl ?_ | refine agree.mix rfl ?_), ⟨congrArg (Value.int .i64) (show ((k : Int) + 1) = ((k + 1 : Nat) : Int) by omega), trivial⟩⟩
    · -- ¬ ((k : Int) < (x1.Nodes.length : Int))
      refine wp_exit ?_
      refine hK9 _ _ ?_
      refine c_seq fun KhK115 hK115 => ?_
      refine c_reg ?_
      refine op_assign (v := .bool true) rfl rfl rfl ?_
      refine wpList_nil ?_
      refine hK115 _ _ ?_
      refine wp_ret ?_
      have hr116 : true = (Pk.typed x0 x1) := by rw [hi14]; simp [drop_end (l := x1.Nodes) (k := k) (by first | omega | (rw [bytes_length]; omega)), Pk.typedGo, Pk.typedIn, hi13, hb17]
      exact ret1 Try.results88 rfl ⟨congrArg Value.bool hr116, (e8.trans e12).old⟩
set_option maxHeartbeats 1000000 in
theorem c59 {M : List Nat} {w : World} {x0 : List Pk.Form} {a_x0 : Option Addr} {c_x0 : Nat} {x1 : Pk.Graph} {a1_x1 : Option Addr} {c1_x1 : Nat} {a2_x1 : Option Addr} {c2_x1 : Nat} (hM : Lo M w) (h_x0 : SL M w a_x0 c_x0 x0) (h1_x1 : SL M w a1_x1 c1_x1 x1.Nodes) (h2_x1 : SL M w a2_x1 c2_x1 x1.Roots) : Calls Try.prog 59 #[.slice a_x0 x0.length c_x0, .agg #[.slice a1_x1 x1.Nodes.length c1_x1, .slice a2_x1 x1.Roots.length c2_x1]] w (Ret fun v w' => v = .int .i64 (Pk.check x0 x1) ∧ Upd [] w w') := by
  have lh_x0 := h_x0.lt63
  have lh1_x1 := h1_x1.lt63
  have lh2_x1 := h2_x1.lt63
  refine enter (l := [.slice a_x0 x0.length c_x0, .agg #[.slice a1_x1 x1.Nodes.length c1_x1, .slice a2_x1 x1.Roots.length c2_x1]]) Try.func59 rfl Try.ntmps59 rfl ?_
  refine c_seq fun KhK1 hK1 => ?_
  refine c_reg ?_
  refine op_box (v := .slice a_x0 x0.length c_x0) (zs := [.slice a_x0 x0.length c_x0]) rfl rfl rfl rfl fun β2 w3 hβ4 u5 hz6 hx7 => ?_
  have e8 := u5.evoN (m := []) hβ4 hz6
  refine op_box (v := .agg #[.slice a1_x1 x1.Nodes.length c1_x1, .slice a2_x1 x1.Roots.length c2_x1]) (zs := [.slice a1_x1 x1.Nodes.length c1_x1, .slice a2_x1 x1.Roots.length c2_x1]) rfl rfl rfl rfl fun β9 w10 hβ11 u12 hz13 hx14 => ?_
  have e15 := u12.evoN (m := (β2 :: [])) hβ11 hz13
  have ne16 : β2 ≠ β9 := by have := hx7.lt; omega
  replace hx7 := hx7.mono0 u12
  refine op_assign (v := .int .i64 0) rfl rfl rfl ?_
  refine wpList_nil ?_
  refine hK1 _ _ ?_
  refine c_seq fun KhK17 hK17 => ?_
  refine c_seq fun KhK18 hK18 => ?_
  refine c_reg ?_
  refine op_loadBA (ds := [.slice a1_x1 x1.Nodes.length c1_x1, .slice a2_x1 x1.Roots.length c2_x1]) ty26 rfl rfl rfl rfl hx14 rfl rfl ?_
  refine op_call (args := [.agg #[.slice a1_x1 x1.Nodes.length c1_x1, .slice a2_x1 x1.Roots.length c2_x1]]) cal70 rfl rfl rfl (c70 ((e8.trans e15).loM hM) (h1_x1.mono ((e8.trans e15).tr M)) (h2_x1.mono ((e8.trans e15).tr M))) ?_
  rintro _ w19 ⟨rfl, u20⟩
  have e22 := u20.evo0 (m := (β9 :: (β2 :: [])))
  replace hx7 := hx7.mono0 u20
  replace hx14 := hx14.mono0 u20
  refine op_assign (v := .int .i64 (Pk.formed x1)) rfl rfl rfl ?_
  refine wpList_nil ?_
  refine hK18 _ _ ?_
  refine c_seq fun KhK23 hK23 => ?_
  refine c_reg ?_
  refine op_move (v := .int .i64 (Pk.formed x1)) rfl rfl rfl ?_
  refine op_neq rfl rfl rfl rfl ?_
  refine wpList_nil ?_
  refine hK23 _ _ ?_
  refine c_ifN rfl rfl (fun hb24 => ?_) (fun hb24 => ?_)
  · -- ¬ ((Pk.formed x1) = 0)
    refine c_seq fun KhK25 hK25 => ?_
    refine c_reg ?_
    refine op_move (v := .int .i64 (Pk.formed x1)) rfl rfl rfl ?_
    refine op_assign (v := .int .i64 (Pk.formed x1)) rfl rfl rfl ?_
    refine wpList_nil ?_
    refine hK25 _ _ ?_
    refine wp_ret ?_
    have hr26 : (Pk.formed x1) = (Pk.check x0 x1) := by simp [ Pk.check, hb24]
    exact ret1 Try.results59 rfl ⟨congrArg (Value.int .i64) hr26, ((e8.trans e15).trans e22).old⟩
  · -- (Pk.formed x1) = 0
    refine wp_skip ?_
    refine hK17 _ _ ?_
    refine c_seq fun KhK27 hK27 => ?_
    refine c_seq fun KhK28 hK28 => ?_
    refine c_reg ?_
    refine op_fieldB fld26_0 rfl rfl rfl ?_
    refine op_loadB (v := .slice a1_x1 x1.Nodes.length c1_x1) ty23 rfl rfl rfl rfl hx14 rfl ?_
    refine op_makeFunc (vs := [.pointer (some ⟨β2, 0, none⟩)]) rfl rfl rfl ?_
    refine op_call (args := [.slice a1_x1 x1.Nodes.length c1_x1, .func (.func 98) #[] #[.pointer (some ⟨β2, 0, none⟩)]]) cal97 rfl rfl rfl (c97 (((e8.trans e15).trans e22).loM hM) (h1_x1.mono (((e8.trans e15).trans e22).tr M)) cal98 (fun w1 cs_y0 y0 hu hD he_y0 => by obtain ⟨a_y0, c_y0, rfl, h_y0⟩ := he_y0; exact c98 ((((e8.trans e15).trans e22).loM hM).mono hu.size) h_y0 (h_x0.mono ((((e8.trans e15).trans e22).trans hu.evo0).tr M)) (hx7.mono0 hu))) ?_
    rintro _ w29 ⟨rfl, u30⟩
    have e32 := u30.evo0 (m := (β9 :: (β2 :: [])))
    replace hx7 := hx7.mono0 u30
    replace hx14 := hx14.mono0 u30
    refine wpList_nil ?_
    refine hK28 _ _ ?_
    refine c_ifB rfl rfl (fun hb33 => ?_) (fun hb33 => ?_)
    · -- (Pk.contains x1.Nodes (fun (y0 : Pk.Node) => Pk.unknown y0 x0)) = true
      refine c_seq fun KhK34 hK34 => ?_
      refine c_reg ?_
      refine op_assign (v := .int .i64 4) rfl rfl rfl ?_
      refine wpList_nil ?_
      refine hK34 _ _ ?_
      refine wp_ret ?_
      have hr35 : 4 = (Pk.check x0 x1) := by simp [ Pk.check, hb24, hb33]
      exact ret1 Try.results59 rfl ⟨congrArg (Value.int .i64) hr35, (((e8.trans e15).trans e22).trans e32).old⟩
    · -- (Pk.contains x1.Nodes (fun (y0 : Pk.Node) => Pk.unknown y0 x0)) = false
      refine wp_skip ?_
      refine hK27 _ _ ?_
      refine c_seq fun KhK36 hK36 => ?_
      refine c_reg ?_
      refine op_loadB (v := .slice a_x0 x0.length c_x0) ty22 rfl rfl rfl rfl hx7 rfl ?_
      refine op_loadBA (ds := [.slice a1_x1 x1.Nodes.length c1_x1, .slice a2_x1 x1.Roots.length c2_x1]) ty26 rfl rfl rfl rfl hx14 rfl rfl ?_
      refine op_call (args := [.slice a_x0 x0.length c_x0, .agg #[.slice a1_x1 x1.Nodes.length c1_x1, .slice a2_x1 x1.Roots.length c2_x1]]) cal88 rfl rfl rfl (c88 ((((e8.trans e15).trans e22).trans e32).loM hM) (h_x0.mono ((((e8.trans e15).trans e22).trans e32).tr M)) (h1_x1.mono ((((e8.trans e15).trans e22).trans e32).tr M)) (h2_x1.mono ((((e8.trans e15).trans e22).trans e32).tr M)) (by first | exact Pk.known_of (by assumption) | exact (Pk.formed_zero (by assumption)).vals) (by first | exact Pk.known_of (by assumption) | exact (Pk.formed_zero (by assumption)).vals)) ?_
      rintro _ w37 ⟨rfl, u38⟩
      have e40 := u38.evo0 (m := (β9 :: (β2 :: [])))
      replace hx7 := hx7.mono0 u38
      replace hx14 := hx14.mono0 u38
      refine op_call (args := [.bool (Pk.typed x0 x1), .int .i64 8]) cal50 rfl rfl rfl (c50 (((((e8.trans e15).trans e22).trans e32).trans e40).loM hM)) ?_
      rintro _ w41 ⟨rfl, u42⟩
      have e44 := u42.evo0 (m := (β9 :: (β2 :: [])))
      replace hx7 := hx7.mono0 u42
      replace hx14 := hx14.mono0 u42
      refine op_assign (v := .int .i64 (Pk.unlessE (Pk.typed x0 x1) 8)) rfl rfl rfl ?_
      refine wpList_nil ?_
      refine hK36 _ _ ?_
      refine wp_ret ?_
      have hr45 : (Pk.unlessE (Pk.typed x0 x1) 8) = (Pk.check x0 x1) := by simp [ Pk.check, hb24, hb33]
      exact ret1 Try.results59 rfl ⟨congrArg (Value.int .i64) hr45, (((((e8.trans e15).trans e22).trans e32).trans e40).trans e44).old⟩
end Go.Proofs.Ytcnhjofpmpipfaa
