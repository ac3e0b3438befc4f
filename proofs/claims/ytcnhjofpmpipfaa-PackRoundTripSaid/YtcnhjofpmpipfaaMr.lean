/- PackRoundTrip: the law returns true at all inputs; its arguments read as before. No condition. -/
import Derived.Test.YtcnhjofpmpipfaaRows
import Derived.Test.YtcnhjofpmpipfaaMr3
import Derived.Test.YtcnhjofpmpipfaaMr6
import Derived.SizedLaws
import Derived.Carry
import Derived.ProofKit
set_option maxRecDepth 100000
namespace Go.Proofs.Ytcnhjofpmpipfaa
open Go Go.Sx Go.ChangeShapes Go.WideShapes Go.ChangeAt Go.RowKit Go.Jx

theorem ownKnobT : ownKnob Try.prog.godebug = none := by kernel_rfl
theorem laidT : laidOutB Try.prog = true := by kernel_rfl
theorem trw_of {H : Type} {en : TypeId × Value → H} {W : World} {T : TypeId} {v : Value} {d : DataW H} {ps : List MemPlace} (h : DataW.Trod en Try.prog W 0 (fun _ => true) true T v d ps) (hw : ∀ n ∈ d.weights Try.prog T, n ≤ reachBytes) : TRW Try.prog W T v.cells.toList := by
 obtain ⟨fuel, h⟩ := h
 exact ⟨H, en, fuel, _, h, hw⟩
theorem packRoundTrip_lifted (os : Os) (started : os.Started) (H : Type) (en : TypeId × Value → H) :
   ReturnsInHanded {} Try.checked os 12 .any (Rows.packRoundTripSpec.pre6 en Try.prog Try.f12 Rows.packRoundTripRow.domain false) (Rows.packRoundTripSpec.post en Try.prog Try.f12 false true false false) := by
 refine returnsInHanded_of_change_sized (C := Try.checked) ownKnobT started (by kernel_rfl) Try.func12
   (ChangeSpec.witness6 (enc := en) (C := Try.checked) false ⟨#[], #[.slice none 0 0, .agg #[.slice none 0 0, .slice none 0 0], .agg #[.slice none 0 0, .slice none 0 0], .slice none 0 0], []⟩ 8 (by kernel_rfl) (by kernel_rfl) (by kernel_rfl) (by kernel_rfl)) ?_
 intro W base args ds gs before hval0 hW hcnd hwt _
 have hval : ∀ (j : Nat) t v, Try.f12.params[j]? = some t → args[j]? = some v → Value.okWide Try.prog W .any base t v := hval0
 have hW' := hW
 obtain ⟨p, q, hA0, hV, rfl, hfz, hnd⟩ := hW
 have hA : DataW.TrodAll en Try.prog W 0 (fun _ => true) true Try.f12.params.toList args.toList ds p := hA0
 rw [Try.params12] at hA hval
 obtain ⟨v0, v1, v2, v3, d0, d1, d2, d3, p0, p1, p2, p3, rfl, rfl, rfl, h0, h1, h2, h3⟩ := trodAll_four hA
 obtain ⟨rfl, rfl⟩ := trodVars_none hV
 have hwt' := List.all_eq_true.1 hwt
 have w0 : ∀ n ∈ d0.weights Try.prog 22, n ≤ reachBytes := fun n hn => by simpa using hwt' n (DataW.weights_mem_each (j := 0) rfl rfl n hn)
 have w1 : ∀ n ∈ d1.weights Try.prog 26, n ≤ reachBytes := fun n hn => by simpa using hwt' n (DataW.weights_mem_each (j := 1) rfl rfl n hn)
 have w2 : ∀ n ∈ d2.weights Try.prog 26, n ≤ reachBytes := fun n hn => by simpa using hwt' n (DataW.weights_mem_each (j := 2) rfl rfl n hn)
 have w3 : ∀ n ∈ d3.weights Try.prog 34, n ≤ reachBytes := fun n hn => by simpa using hwt' n (DataW.weights_mem_each (j := 3) rfl rfl n hn)
 obtain ⟨a0, len0, cap0, rfl⟩ := okWide_slice Try.underlying22 (hval 0 22 v0 rfl rfl)
 obtain ⟨cs1, rfl, _⟩ := okWide_struct Try.underlying26 (hval 1 26 v1 rfl rfl)
 obtain ⟨cs2, rfl, _⟩ := okWide_struct Try.underlying26 (hval 2 26 v2 rfl rfl)
 obtain ⟨a3, len3, cap3, rfl⟩ := okWide_slice Try.underlying34 (hval 3 34 v3 rfl rfl)
 obtain ⟨x0, g0⟩ := rd22.rd W _ (trw_of h0 w0)
 obtain ⟨x1, g1⟩ := rd26.rd W _ (trw_of h1 w1)
 obtain ⟨x2, g2⟩ := rd26.rd W _ (trw_of h2 w2)
 obtain ⟨x3, g3⟩ := rd34.rd W _ (trw_of h3 w3)
 have hlt : ∀ x ∈ (p0 ++ p1 ++ p2 ++ p3) ++ [], x.block < W.heap.size := fun x hx => by simpa using hW'.lt x hx
 have hlt0 : ∀ x ∈ p0, x.block < W.heap.size := fun x hx => hlt x (by simp [hx])
 have hlt1 : ∀ x ∈ p1, x.block < W.heap.size := fun x hx => hlt x (by simp [hx])
 have hlt2 : ∀ x ∈ p2, x.block < W.heap.size := fun x hx => hlt x (by simp [hx])
 have hlt3 : ∀ x ∈ p3, x.block < W.heap.size := fun x hx => hlt x (by simp [hx])
 refine (con_true (pts := [.list cForm, cGraph, cGraph, .list (.int .u8)]) con_PackRoundTrip W ⟨fun b hb => Bool.noConfusion (show false = true from hb)⟩ (x0, x1, x2, x3, ()) [_, _, _, _] (.cons (vr_list g0) (.cons (vr_two g1) (.cons (vr_two g2) (.cons (vr_list g3) .nil))))).mono fun e W' he => ?_
 cases e with
 | returned v =>
   obtain ⟨rfl, hu⟩ := he
   have hb := hu.below
   exact ⟨_, rfl, _, _, _, _, _, _, hW', trodAll_mk1 (shut_bool Try.underlying4 true), trodAll_mk4 (Below.trod laidT (by kernel_rfl) (of_decide_eq_true (by kernel_rfl)) h0 hb hlt0) (Below.trod laidT (by kernel_rfl) (of_decide_eq_true (by kernel_rfl)) h1 hb hlt1) (Below.trod laidT (by kernel_rfl) (of_decide_eq_true (by kernel_rfl)) h2 hb hlt2) (Below.trod laidT (by kernel_rfl) (of_decide_eq_true (by kernel_rfl)) h3 hb hlt3), rfl, hb.frame _, fun h => by cases h⟩
 | panicked c => exact he.elim
 | outgrown => exact he.elim
theorem packRoundTrip_holds : Rows.PackRoundTripSaid :=
 OpenClaim.holds_of_wide 12 Try.f12 rfl rfl rfl rfl rfl rfl rfl ⟨rfl, rfl, rfl, rfl, rfl⟩ rfl rfl rfl rfl rfl (by kernel_rfl) Try.func12 (by kernel_rfl)
   (of_decide_eq_true (by kernel_rfl)) (by unfold Func.isWrapper; first | (rw [if_pos (by decide +kernel)]; kernel_rfl) | (rw [if_neg (by decide +kernel)]; exact ⟨rfl, rfl⟩))
   (fun os started H enc _ => packRoundTrip_lifted os started H enc)
end Go.Proofs.Ytcnhjofpmpipfaa
