import Derived.Test.YtcnhjofpmpipfaaW6
import Derived.Test.YtcnhjofpmpipfaaL0
set_option linter.unusedVariables false
set_option linter.unusedSimpArgs false
set_option maxRecDepth 100000
namespace Go.Proofs.Ytcnhjofpmpipfaa
open Go Go.Sx Go.RowKit
open Go.Sx.Dat (enc)
attribute [local irreducible] Go.wpList Go.wpQuiet Go.Code.wp
set_option maxHeartbeats 1000000 in
theorem c3 {M : List Nat} {w : World} {x0 : List Pk.Form} {a_x0 : Option Addr} {c_x0 : Nat} {x1 : Pk.Graph} {a1_x1 : Option Addr} {c1_x1 : Nat} {a2_x1 : Option Addr} {c2_x1 : Nat} (hM : Lo M w) (h_x0 : SL M w a_x0 c_x0 x0) (h1_x1 : SL M w a1_x1 c1_x1 x1.Nodes) (h2_x1 : SL M w a2_x1 c2_x1 x1.Roots) : Calls Try.prog 3 #[.slice a_x0 x0.length c_x0, .agg #[.slice a1_x1 x1.Nodes.length c1_x1, .slice a2_x1 x1.Roots.length c2_x1]] w (Ret fun v w' => v = .bool (Pk.packForms x0 x1) ∧ Upd [] w w') := by
  have lh_x0 := h_x0.lt63
  have lh1_x1 := h1_x1.lt63
  have lh2_x1 := h2_x1.lt63
  refine enter (l := [.slice a_x0 x0.length c_x0, .agg #[.slice a1_x1 x1.Nodes.length c1_x1, .slice a2_x1 x1.Roots.length c2_x1]]) Try.func3 rfl Try.ntmps3 rfl ?_
  refine c_seq fun KhK1 hK1 => ?_
  refine c_reg ?_
  refine op_box (v := .agg #[.slice a1_x1 x1.Nodes.length c1_x1, .slice a2_x1 x1.Roots.length c2_x1]) (zs := [.slice a1_x1 x1.Nodes.length c1_x1, .slice a2_x1 x1.Roots.length c2_x1]) rfl rfl rfl rfl fun β2 w3 hβ4 u5 hz6 hx7 => ?_
  have e8 := u5.evoN (m := []) hβ4 hz6
  refine op_assign (v := .bool false) rfl rfl rfl ?_
  refine wpList_nil ?_
  refine hK1 _ _ ?_
  refine c_seq fun KhK9 hK9 => ?_
  refine c_seq fun KhK10 hK10 => ?_
  refine c_reg ?_
  refine op_move (v := .slice a_x0 x0.length c_x0) rfl rfl rfl ?_
  refine op_call (args := [.slice a_x0 x0.length c_x0]) cal13 rfl rfl rfl (c13 (e8.loM hM) (h_x0.mono (e8.tr M))) ?_
  rintro _ w11 ⟨rfl, u12⟩
  have e14 := u12.evo0 (m := (β2 :: []))
  replace hx7 := hx7.mono0 u12
  refine op_notB rfl rfl rfl ?_
  refine op_move (v := .bool (!(Pk.fewForms x0))) rfl rfl rfl ?_
  refine op_partNB 8 rfl (fun hb15 => ?_) (fun hb15 => ?_)
  · -- (Pk.fewForms x0) = false
    refine op_not rfl ?_
    refine op_not rfl ?_
    refine op_not rfl ?_
    refine op_pickT (v := .bool true) rfl rfl rfl rfl ?_
    refine wpList_nil ?_
    refine hK10 _ _ ?_
    refine c_ifT rfl rfl ?_
    refine c_seq fun KhK16 hK16 => ?_
    refine c_reg ?_
    refine op_call (args := []) cal15 rfl rfl rfl (c15 ((e8.trans e14).loM hM)) ?_
    rintro _ w17 ⟨rfl, u18⟩
    have e20 := u18.evo0 (m := (β2 :: []))
    replace hx7 := hx7.mono0 u18
    refine op_assign (v := .bool (Pk.sanityB)) rfl rfl rfl ?_
    refine wpList_nil ?_
    refine hK16 _ _ ?_
    refine wp_ret ?_
    have hr21 : (Pk.sanityB) = (Pk.packForms x0 x1) := by first | rfl | exact decide_eq_true (Pk.checkG_eq _ _) | exact absurd (Pk.checkForms_eq _) (by assumption) | exact absurd (show Pk.sanityB = false by assumption) (by decide)
    exact ret1 Try.results3 rfl ⟨congrArg Value.bool hr21, ((e8.trans e14).trans e20).old⟩
  · -- (Pk.fewForms x0) = true
    refine op_loadBA (ds := [.slice a1_x1 x1.Nodes.length c1_x1, .slice a2_x1 x1.Roots.length c2_x1]) ty26 rfl rfl rfl rfl hx7 rfl rfl ?_
    refine op_call (args := [.agg #[.slice a1_x1 x1.Nodes.length c1_x1, .slice a2_x1 x1.Roots.length c2_x1]]) cal14 rfl rfl rfl (c14 ((e8.trans e14).loM hM) (h1_x1.mono ((e8.trans e14).tr M)) (h2_x1.mono ((e8.trans e14).tr M))) ?_
    rintro _ w22 ⟨rfl, u23⟩
    have e25 := u23.evo0 (m := (β2 :: []))
    replace hx7 := hx7.mono0 u23
    refine op_notB rfl rfl rfl ?_
    refine op_pickF (v := .bool (!(Pk.few x1))) rfl rfl rfl rfl ?_
    refine wpList_nil ?_
    refine hK10 _ _ ?_
    refine c_ifNB rfl rfl (fun hb26 => ?_) (fun hb26 => ?_)
    · -- (Pk.few x1) = false
      refine c_seq fun KhK27 hK27 => ?_
      refine c_reg ?_
      refine op_call (args := []) cal15 rfl rfl rfl (c15 (((e8.trans e14).trans e25).loM hM)) ?_
      rintro _ w28 ⟨rfl, u29⟩
      have e31 := u29.evo0 (m := (β2 :: []))
      replace hx7 := hx7.mono0 u29
      refine op_assign (v := .bool (Pk.sanityB)) rfl rfl rfl ?_
      refine wpList_nil ?_
      refine hK27 _ _ ?_
      refine wp_ret ?_
      have hr32 : (Pk.sanityB) = (Pk.packForms x0 x1) := by first | rfl | exact decide_eq_true (Pk.checkG_eq _ _) | exact absurd (Pk.checkForms_eq _) (by assumption) | exact absurd (show Pk.sanityB = false by assumption) (by decide)
      exact ret1 Try.results3 rfl ⟨congrArg Value.bool hr32, (((e8.trans e14).trans e25).trans e31).old⟩
    · -- (Pk.few x1) = true
      refine wp_skip ?_
      refine hK9 _ _ ?_
      refine c_seq fun KhK33 hK33 => ?_
      refine c_quiet mixed (by kernel_rfl) ?_
      refine q_call (args := []) (v := .bool (Pk.sanityB)) cal15 rfl rfl rfl (fun wq34 uq35 => c15 ((((e8.trans e14).trans e25).trans (uq35.evo0 (m := (β2 :: [])))).loM hM)) ?_
      refine q_val (v := .bool (Pk.sanityB)) rfl rfl rfl (fun wq36 uq37 => op_move (v := .bool (Pk.sanityB)) rfl rfl rfl q1) ?_
      refine q_partB 15 rfl (fun hb38 => ?_) (fun hb38 => ?_)
      · -- (Pk.sanityB) = true
        refine q_val (v := .slice a_x0 x0.length c_x0) rfl rfl rfl (fun wq39 uq40 => op_move (v := .slice a_x0 x0.length c_x0) rfl rfl rfl q1) ?_
        refine q_call (args := [.slice a_x0 x0.length c_x0]) (v := .int .i64 (Pk.checkForms x0)) cal16 rfl rfl rfl (fun wq41 uq42 => c16 ((((e8.trans e14).trans e25).trans (uq42.evo0 (m := (β2 :: [])))).loM hM) (h_x0.mono ((((e8.trans e14).trans e25).trans (uq42.evo0 (m := (β2 :: [])))).tr M))) ?_
        refine q_val (v := .slice a_x0 x0.length c_x0) rfl rfl rfl (fun wq43 uq44 => op_move (v := .slice a_x0 x0.length c_x0) rfl rfl rfl q1) ?_
        refine q_call (args := [.slice a_x0 x0.length c_x0]) (v := .int .i64 (Pk.rcheckForms x0)) cal17 rfl rfl rfl (fun wq45 uq46 => c17 ((((e8.trans e14).trans e25).trans (uq46.evo0 (m := (β2 :: [])))).loM hM) (h_x0.mono ((((e8.trans e14).trans e25).trans (uq46.evo0 (m := (β2 :: [])))).tr M)) (by exact Pk.fewForms_short (by assumption))) ?_
        refine q_val (v := .bool (decide ((Pk.checkForms x0) = (Pk.rcheckForms x0)))) rfl rfl rfl (fun wq47 uq48 => op_eq rfl rfl rfl rfl q1) ?_
        refine q_val (v := .bool (decide ((Pk.checkForms x0) = (Pk.rcheckForms x0)))) rfl rfl rfl (fun wq49 uq50 => op_pickT (v := .bool (decide ((Pk.checkForms x0) = (Pk.rcheckForms x0)))) rfl rfl rfl rfl q1) ?_
        refine q_val (v := .bool (decide ((Pk.checkForms x0) = (Pk.rcheckForms x0)))) rfl rfl rfl (fun wq51 uq52 => op_move (v := .bool (decide ((Pk.checkForms x0) = (Pk.rcheckForms x0)))) rfl rfl rfl q1) ?_
        refine q_part 22 rfl (fun hb53 => ?_) (fun hb53 => ?_)
        · -- (Pk.checkForms x0) = (Pk.rcheckForms x0)
          refine q_val (v := .slice a_x0 x0.length c_x0) rfl rfl rfl (fun wq54 uq55 => op_move (v := .slice a_x0 x0.length c_x0) rfl rfl rfl q1) ?_
          refine q_val (v := .agg #[.slice a1_x1 x1.Nodes.length c1_x1, .slice a2_x1 x1.Roots.length c2_x1]) rfl rfl rfl (fun wq56 uq57 => op_loadBA (ds := [.slice a1_x1 x1.Nodes.length c1_x1, .slice a2_x1 x1.Roots.length c2_x1]) ty26 rfl rfl rfl rfl (hx7.mono0 uq57) rfl rfl q1) ?_
          refine q_call (args := [.slice a_x0 x0.length c_x0, .agg #[.slice a1_x1 x1.Nodes.length c1_x1, .slice a2_x1 x1.Roots.length c2_x1]]) (v := .int .i64 (Pk.checkG x0 x1)) cal18 rfl rfl rfl (fun wq58 uq59 => c18 ((((e8.trans e14).trans e25).trans (uq59.evo0 (m := (β2 :: [])))).loM hM) (h_x0.mono ((((e8.trans e14).trans e25).trans (uq59.evo0 (m := (β2 :: [])))).tr M)) (h1_x1.mono ((((e8.trans e14).trans e25).trans (uq59.evo0 (m := (β2 :: [])))).tr M)) (h2_x1.mono ((((e8.trans e14).trans e25).trans (uq59.evo0 (m := (β2 :: [])))).tr M))) ?_
          refine q_val (v := .slice a_x0 x0.length c_x0) rfl rfl rfl (fun wq60 uq61 => op_move (v := .slice a_x0 x0.length c_x0) rfl rfl rfl q1) ?_
          refine q_val (v := .agg #[.slice a1_x1 x1.Nodes.length c1_x1, .slice a2_x1 x1.Roots.length c2_x1]) rfl rfl rfl (fun wq62 uq63 => op_loadBA (ds := [.slice a1_x1 x1.Nodes.length c1_x1, .slice a2_x1 x1.Roots.length c2_x1]) ty26 rfl rfl rfl rfl (hx7.mono0 uq63) rfl rfl q1) ?_
          refine q_call (args := [.slice a_x0 x0.length c_x0, .agg #[.slice a1_x1 x1.Nodes.length c1_x1, .slice a2_x1 x1.Roots.length c2_x1]]) (v := .int .i64 (Pk.rcheck x0 x1)) cal19 rfl rfl rfl (fun wq64 uq65 => c19 ((((e8.trans e14).trans e25).trans (uq65.evo0 (m := (β2 :: [])))).loM hM) (h_x0.mono ((((e8.trans e14).trans e25).trans (uq65.evo0 (m := (β2 :: [])))).tr M)) (h1_x1.mono ((((e8.trans e14).trans e25).trans (uq65.evo0 (m := (β2 :: [])))).tr M)) (h2_x1.mono ((((e8.trans e14).trans e25).trans (uq65.evo0 (m := (β2 :: [])))).tr M)) (by exact Pk.fewForms_short (by assumption))) ?_
          refine q_val (v := .bool (decide ((Pk.checkG x0 x1) = (Pk.rcheck x0 x1)))) rfl rfl rfl (fun wq66 uq67 => op_eq rfl rfl rfl rfl q1) ?_
          refine q_val (v := .bool (decide ((Pk.checkG x0 x1) = (Pk.rcheck x0 x1)))) rfl rfl rfl (fun wq68 uq69 => op_pickT (v := .bool (decide ((Pk.checkG x0 x1) = (Pk.rcheck x0 x1)))) rfl rfl rfl rfl q1) ?_
          refine q_val (v := .bool (decide ((Pk.checkG x0 x1) = (Pk.rcheck x0 x1)))) rfl rfl rfl (fun wq70 uq71 => op_assign (v := .bool (decide ((Pk.checkG x0 x1) = (Pk.rcheck x0 x1)))) rfl rfl rfl q1) ?_
          refine wpQuiet_nil fun w72 u73 => ?_
          have e74 := u73.evo0 (m := (β2 :: []))
          replace hx7 := hx7.mono0 u73
          refine hK33 _ _ ?_
          refine wp_ret ?_
          have hr75 : (decide ((Pk.checkG x0 x1) = (Pk.rcheck x0 x1))) = (Pk.packForms x0 x1) := by first | rfl | exact decide_eq_true (Pk.checkG_eq _ _) | exact absurd (Pk.checkForms_eq _) (by assumption) | exact absurd (show Pk.sanityB = false by assumption) (by decide)
          exact ret1 Try.results3 rfl ⟨congrArg Value.bool hr75, (((e8.trans e14).trans e25).trans e74).old⟩
        · -- ¬ ((Pk.checkForms x0) = (Pk.rcheckForms x0))
          refine q_not rfl ?_
          refine q_not rfl ?_
          refine q_not rfl ?_
          refine q_not rfl ?_
          refine q_not rfl ?_
          refine q_not rfl ?_
          refine q_not rfl ?_
          refine q_val (v := .bool false) rfl rfl rfl (fun wq76 uq77 => op_pickF (v := .bool false) rfl rfl rfl rfl q1) ?_
          refine q_val (v := .bool false) rfl rfl rfl (fun wq78 uq79 => op_assign (v := .bool false) rfl rfl rfl q1) ?_
          refine wpQuiet_nil fun w80 u81 => ?_
          have e82 := u81.evo0 (m := (β2 :: []))
          replace hx7 := hx7.mono0 u81
          refine hK33 _ _ ?_
          refine wp_ret ?_
          have hr83 : false = (Pk.packForms x0 x1) := by first | rfl | exact decide_eq_true (Pk.checkG_eq _ _) | exact absurd (Pk.checkForms_eq _) (by assumption) | exact absurd (show Pk.sanityB = false by assumption) (by decide)
          exact ret1 Try.results3 rfl ⟨congrArg Value.bool hr83, (((e8.trans e14).trans e25).trans e82).old⟩
      · -- (Pk.sanityB) = false
        refine q_not rfl ?_
        refine q_not rfl ?_
        refine q_not rfl ?_
        refine q_not rfl ?_
        refine q_not rfl ?_
        refine q_val (v := .bool false) rfl rfl rfl (fun wq84 uq85 => op_pickF (v := .bool false) rfl rfl rfl rfl q1) ?_
        refine q_val (v := .bool false) rfl rfl rfl (fun wq86 uq87 => op_move (v := .bool false) rfl rfl rfl q1) ?_
        refine q_not rfl ?_
        refine q_not rfl ?_
        refine q_not rfl ?_
        refine q_not rfl ?_
        refine q_not rfl ?_
        refine q_not rfl ?_
        refine q_not rfl ?_
        refine q_val (v := .bool false) rfl rfl rfl (fun wq88 uq89 => op_pickF (v := .bool false) rfl rfl rfl rfl q1) ?_
        refine q_val (v := .bool false) rfl rfl rfl (fun wq90 uq91 => op_assign (v := .bool false) rfl rfl rfl q1) ?_
        refine wpQuiet_nil fun w92 u93 => ?_
        have e94 := u93.evo0 (m := (β2 :: []))
        replace hx7 := hx7.mono0 u93
        refine hK33 _ _ ?_
        refine wp_ret ?_
        have hr95 : false = (Pk.packForms x0 x1) := by first | rfl | exact decide_eq_true (Pk.checkG_eq _ _) | exact absurd (Pk.checkForms_eq _) (by assumption) | exact absurd (show Pk.sanityB = false by assumption) (by decide)
        exact ret1 Try.results3 rfl ⟨congrArg Value.bool hr95, (((e8.trans e14).trans e25).trans e94).old⟩
end Go.Proofs.Ytcnhjofpmpipfaa
