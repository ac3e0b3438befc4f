/- LexPlaces: the law returns true at all inputs, and its arguments read as before; the listed package-level variables are tied to the text. No condition. -/
import Derived.Test.YtanenikkloolfaaDoorRows
import Derived.Test.YtanenikkloolfaaDoorCards
import Derived.Test.YtanenikkloolfaaDoorTie
import Derived.Test.YtanenikkloolfaaDoorMb3
import Derived.Test.YtanenikkloolfaaDoorMb5
import Derived.SizedLaws
import Derived.Carry
import Derived.ProofKit
import Derived.OpenShut
import Derived.LaidMore
import Derived.Lay
import Derived.SevenTiedAt
import Derived.Stop.Joined
set_option maxRecDepth 100000
namespace Go.Proofs.YtanenikkloolfaaDoor
open Go Go.Sx Go.ChangeShapes Go.WideShapes Go.ChangeAt Go.RowKit Go.Jx

theorem lexPlaces_lifted (os : Os) (started : os.Started) (H : Type) (en : TypeId × Value → H) :
    ReturnsInHanded {} Tryd.checked os 3 .any (fun w args => (Rows.lexPlacesSpec.pre en Tryd.prog Tryd.f3 Rows.lexPlacesRow.domain false w args ∧ laidMetH Tryd.prog Rows.lexPlacesRow.laid w) ∧ sizedMet en Tryd.prog Tryd.f3 (OpenSpec.ofChange Rows.lexPlacesSpec) false w args)
      (Rows.lexPlacesSpec.post en Tryd.prog Tryd.f3 false true false false) := by
  refine returnsInHanded_of_change_and (C := Tryd.checked) (X := fun w _ => laidMetH Tryd.prog Rows.lexPlacesRow.laid w) (fun _ _ _ hh h => h.of_heap hh) ownKnobT started (by kernel_rfl) Tryd.func3
    (ChangeSpec.witness_shaped (enc := en) (C := Tryd.checked) (os := os) (X := fun w _ => laidMetH Tryd.prog Rows.lexPlacesRow.laid w) false (World.laidAll Tryd.prog os Rows.lexPlacesRow.laid) #[.string ByteArray.empty, .agg #[.int .i64 0, .int .i64 0], .int .i64 0, .agg #[.int .i64 0, .int .i64 0, .string ByteArray.empty], .slice none 0 0] 8 (World.laidAll_os _ _ _)
      (World.shaped_of_ZipB (by kernel_rfl) (by kernel_rfl)) (by kernel_rfl) (by kernel_rfl) (by kernel_rfl)
      (by rw [MakeChecks.laidMetH_plain _ _ _ (by kernel_rfl)]; exact laidMet_laidAll _ (by kernel_rfl) (by kernel_rfl))) ?_
  intro W base args ds gs before hval0 hW hcnd hwt hL _
  have hgl : Gl [] W := gl_of_laid (show laidMetH Tryd.prog laidL W from hL)
  have hval : ∀ (j : Nat) t v, Tryd.f3.params[j]? = some t → args[j]? = some v → Value.okWide Tryd.prog W .any base t v := hval0
  have hW' := hW
  obtain ⟨p, q, hA0, hV, rfl, hfz, hnd⟩ := hW
  have hA : DataW.TrodAll en Tryd.prog W 0 (fun _ => true) true Tryd.f3.params.toList args.toList ds p := hA0
  rw [Tryd.params3] at hA hval
  obtain ⟨v0, v1, v2, v3, v4, d0, d1, d2, d3, d4, p0, p1, p2, p3, p4, rfl, rfl, rfl, h0, h1, h2, h3, h4⟩ := trodAll_five hA
  obtain ⟨rfl, rfl⟩ := trodVars_none hV
  have hwt' := List.all_eq_true.1 hwt
  have w0 : ∀ n ∈ d0.weights Tryd.prog 9, n ≤ reachBytes := fun n hn => by simpa using hwt' n (DataW.weights_mem_each (j := 0) rfl rfl n hn)
  have w1 : ∀ n ∈ d1.weights Tryd.prog 23, n ≤ reachBytes := fun n hn => by simpa using hwt' n (DataW.weights_mem_each (j := 1) rfl rfl n hn)
  have w2 : ∀ n ∈ d2.weights Tryd.prog 3, n ≤ reachBytes := fun n hn => by simpa using hwt' n (DataW.weights_mem_each (j := 2) rfl rfl n hn)
  have w3 : ∀ n ∈ d3.weights Tryd.prog 25, n ≤ reachBytes := fun n hn => by simpa using hwt' n (DataW.weights_mem_each (j := 3) rfl rfl n hn)
  have w4 : ∀ n ∈ d4.weights Tryd.prog 26, n ≤ reachBytes := fun n hn => by simpa using hwt' n (DataW.weights_mem_each (j := 4) rfl rfl n hn)
  obtain ⟨s0, rfl⟩ := okWide_string Tryd.underlying9 (hval 0 9 v0 rfl rfl)
  obtain ⟨cs1, rfl, _⟩ := okWide_struct Tryd.underlying23 (hval 1 23 v1 rfl rfl)
  obtain ⟨k2, rfl, _⟩ := okWide_int Tryd.underlying3 (hval 2 3 v2 rfl rfl)
  obtain ⟨cs3, rfl, _⟩ := okWide_struct Tryd.underlying25 (hval 3 25 v3 rfl rfl)
  obtain ⟨a4, len4, cap4, rfl⟩ := okWide_slice Tryd.underlying26 (hval 4 26 v4 rfl rfl)
  obtain ⟨x0, g0⟩ := rd9.rd W _ (trw_of h0 w0)
  obtain ⟨x1, g1⟩ := rd23.rd W _ (trw_of h1 w1)
  obtain ⟨x2, g2⟩ := rd3.rd W _ (trw_of h2 w2)
  obtain ⟨x3, g3⟩ := rd25.rd W _ (trw_of h3 w3)
  obtain ⟨x4, g4⟩ := rd26.rd W _ (trw_of h4 w4)
  have hlt : ∀ x ∈ (p0 ++ p1 ++ p2 ++ p3 ++ p4) ++ [], x.block < W.heap.size := fun x hx => by simpa using hW'.lt x hx
  have hlt0 : ∀ x ∈ p0, x.block < W.heap.size := fun x hx => hlt x (by simp [hx])
  have hlt1 : ∀ x ∈ p1, x.block < W.heap.size := fun x hx => hlt x (by simp [hx])
  have hlt2 : ∀ x ∈ p2, x.block < W.heap.size := fun x hx => hlt x (by simp [hx])
  have hlt3 : ∀ x ∈ p3, x.block < W.heap.size := fun x hx => hlt x (by simp [hx])
  have hlt4 : ∀ x ∈ p4, x.block < W.heap.size := fun x hx => hlt x (by simp [hx])
  refine (con_true (pts := [.str, cPlace, .int .i64, cChange, .list .str]) con_l_LexPlaces W hgl (x0, x1, x2, x3, x4, ()) [_, _, _, _, _] (.cons (vr_str g0) (.cons (vr_two g1) (.cons (Jx.vr_int g2) (.cons (vr_two g3) (.cons (vr_list g4) .nil)))))).mono fun e W' he => ?_
  cases e with
  | returned v =>
    obtain ⟨rfl, hu⟩ := he
    have hb := hu.below
    exact ⟨_, rfl, _, _, _, _, _, _, hW', trodAll_mk1 (shut_bool Tryd.underlying4 true), trodAll_mk5 (Below.trod laidT (by kernel_rfl) (of_decide_eq_true (by kernel_rfl)) h0 hb hlt0) (Below.trod laidT (by kernel_rfl) (of_decide_eq_true (by kernel_rfl)) h1 hb hlt1) (Below.trod laidT (by kernel_rfl) (of_decide_eq_true (by kernel_rfl)) h2 hb hlt2) (Below.trod laidT (by kernel_rfl) (of_decide_eq_true (by kernel_rfl)) h3 hb hlt3) (Below.trod laidT (by kernel_rfl) (of_decide_eq_true (by kernel_rfl)) h4 hb hlt4), rfl, hb.frame _, fun h => by cases h⟩
  | panicked c => exact he.elim
  | outgrown => exact he.elim
theorem lexPlaces_row : Rows.LexPlacesSaid :=
  OpenClaim.holds_of_wide 3 Tryd.f3 rfl rfl rfl rfl rfl rfl rfl ⟨rfl, rfl, rfl, rfl, rfl⟩ rfl rfl rfl rfl rfl (by kernel_rfl) Tryd.func3 (by kernel_rfl)
    (of_decide_eq_true (by kernel_rfl)) (by unfold Func.isWrapper; first | (rw [if_pos (by decide +kernel)]; kernel_rfl) | (rw [if_neg (by decide +kernel)]; exact ⟨rfl, rfl⟩))
    (fun os started H enc _ => lexPlaces_lifted os started H enc)
theorem lexPlaces_holds : Rows.LexPlacesCardSaid :=
  Claim7.holds_tied_plain_at .later [] [.data, .listed, .data, .pinned] true (true, "95d80897834f3831e200caa41977b3c0c147cd2027fc3ee92cc251f97eabee89") false lexPlaces_row (fun _ h => by cases h) (by kernel_rfl) (fun _ h => by cases h) lexPlaces_row_tie rfl ⟨rfl, rfl⟩ (by kernel_rfl) rfl
    (fun f fn hf hfn => by
      obtain rfl : f = 3 := Option.some.inj ((show Tryd.prog.funcNamed "cosigner/cosignerlaw01.LexPlaces" = some 3 by kernel_rfl).symm.trans hf) |>.symm
      obtain rfl : fn = Tryd.f3 := (Option.some.inj (Tryd.func3.symm.trans hfn)).symm
      exact ⟨by kernel_rfl, fun j t ht => by
        rw [Tryd.params3] at ht
        have hm : t ∈ [9, 23, 3, 25, 26] := by simpa using Array.mem_of_getElem? ht
        have hall : ([9, 23, 3, 25, 26].all fun u => !Tryd.prog.wantsStandIn u) = true := by kernel_rfl
        exact (show Tryd.prog.wantsStandIn t = false by simpa using List.all_eq_true.1 hall t hm)⟩)
    (by kernel_rfl)
end Go.Proofs.YtanenikkloolfaaDoor
