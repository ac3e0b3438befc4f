/- PackTorn: the law returns true at all inputs; its arguments read as before. No condition. -/
import Derived.Test.YtcnhjofpmpipfaaRows
import Derived.Test.YtcnhjofpmpipfaaMt3
import Derived.Test.YtcnhjofpmpipfaaMt5
import Derived.SizedLaws
import Derived.Carry
import Derived.ProofKit
set_option maxRecDepth 100000
namespace Go.Proofs.Ytcnhjofpmpipfaa
open Go Go.Sx Go.ChangeShapes Go.WideShapes Go.ChangeAt Go.RowKit Go.Jx

theorem ownKnobT : ownKnob Try.prog.godebug = none := by kernel_rfl
theorem laidT : laidOutB Try.prog = true := by kernel_rfl
theorem trw_of {H : Type} {en : TypeId × Value → H} {W : World} {T : TypeId} {v : Value} {d : DataW H} {ps : List MemPlace} (h : DataW.Trod en Try.prog W 0 (fun _ => true) true T v d ps) (hw : ∀ n ∈ d.weights Try.prog T, n ≤ reachBytes) : TRW Try.prog W T v.cells.toList := by
 obtain ⟨fuel, h⟩ := h
 exact ⟨H, en, fuel, _, h, hw⟩
theorem packTorn_lifted (os : Os) (started : os.Started) (H : Type) (en : TypeId × Value → H) :
   ReturnsInHanded {} Try.checked os 11 .any (Rows.packTornSpec.pre6 en Try.prog Try.f11 Rows.packTornRow.domain false) (Rows.packTornSpec.post en Try.prog Try.f11 false true false false) := by
 refine returnsInHanded_of_change_sized (C := Try.checked) ownKnobT started (by kernel_rfl) Try.func11
   (ChangeSpec.witness6 (enc := en) (C := Try.checked) false ⟨#[], #[.slice none 0 0, .agg #[.slice none 0 0, .slice none 0 0], .int .u16 0, .int .u8 0, .int .u16 0], []⟩ 8 (by kernel_rfl) (by kernel_rfl) (by kernel_rfl) (by kernel_rfl)) ?_
 intro W base args ds gs before hval0 hW hcnd hwt _
 have hval : ∀ (j : Nat) t v, Try.f11.params[j]? = some t → args[j]? = some v → Value.okWide Try.prog W .any base t v := hval0
 have hW' := hW
 obtain ⟨p, q, hA0, hV, rfl, hfz, hnd⟩ := hW
 have hA : DataW.TrodAll en Try.prog W 0 (fun _ => true) true Try.f11.params.toList args.toList ds p := hA0
 rw [Try.params11] at hA hval
 obtain ⟨v0, v1, v2, v3, v4, d0, d1, d2, d3, d4, p0, p1, p2, p3, p4, rfl, rfl, rfl, h0, h1, h2, h3, h4⟩ := trodAll_five hA
 obtain ⟨rfl, rfl⟩ := trodVars_none hV
 have hwt' := List.all_eq_true.1 hwt
 have w0 : ∀ n ∈ d0.weights Try.prog 22, n ≤ reachBytes := fun n hn => by simpa using hwt' n (DataW.weights_mem_each (j := 0) rfl rfl n hn)
 have w1 : ∀ n ∈ d1.weights Try.prog 26, n ≤ reachBytes := fun n hn => by simpa using hwt' n (DataW.weights_mem_each (j := 1) rfl rfl n hn)
 have w2 : ∀ n ∈ d2.weights Try.prog 81, n ≤ reachBytes := fun n hn => by simpa using hwt' n (DataW.weights_mem_each (j := 2) rfl rfl n hn)
 have w3 : ∀ n ∈ d3.weights Try.prog 5, n ≤ reachBytes := fun n hn => by simpa using hwt' n (DataW.weights_mem_each (j := 3) rfl rfl n hn)
 have w4 : ∀ n ∈ d4.weights Try.prog 81, n ≤ reachBytes := fun n hn => by simpa using hwt' n (DataW.weights_mem_each (j := 4) rfl rfl n hn)
 obtain ⟨a0, len0, cap0, rfl⟩ := okWide_slice Try.underlying22 (hval 0 22 v0 rfl rfl)
 obtain ⟨cs1, rfl, _⟩ := okWide_struct Try.underlying26 (hval 1 26 v1 rfl rfl)
 obtain ⟨k2, rfl, _⟩ := okWide_int Try.underlying81 (hval 2 81 v2 rfl rfl)
 obtain ⟨k3, rfl, _⟩ := okWide_int Try.underlying5 (hval 3 5 v3 rfl rfl)
 obtain ⟨k4, rfl, _⟩ := okWide_int Try.underlying81 (hval 4 81 v4 rfl rfl)
 obtain ⟨x0, g0⟩ := rd22.rd W _ (trw_of h0 w0)
 obtain ⟨x1, g1⟩ := rd26.rd W _ (trw_of h1 w1)
 obtain ⟨x2, g2⟩ := rd81.rd W _ (trw_of h2 w2)
 obtain ⟨x3, g3⟩ := rd5.rd W _ (trw_of h3 w3)
 obtain ⟨x4, g4⟩ := rd81.rd W _ (trw_of h4 w4)
 have hlt : ∀ x ∈ (p0 ++ p1 ++ p2 ++ p3 ++ p4) ++ [], x.block < W.heap.size := fun x hx => by simpa using hW'.lt x hx
 have hlt0 : ∀ x ∈ p0, x.block < W.heap.size := fun x hx => hlt x (by simp [hx])
 have hlt1 : ∀ x ∈ p1, x.block < W.heap.size := fun x hx => hlt x (by simp [hx])
 have hlt2 : ∀ x ∈ p2, x.block < W.heap.size := fun x hx => hlt x (by simp [hx])
 have hlt3 : ∀ x ∈ p3, x.block < W.heap.size := fun x hx => hlt x (by simp [hx])
 have hlt4 : ∀ x ∈ p4, x.block < W.heap.size := fun x hx => hlt x (by simp [hx])
 refine (con_true (pts := [.list cForm, cGraph, .int .u16, .int .u8, .int .u16]) con_PackTorn W ⟨fun b hb => Bool.noConfusion (show false = true from hb)⟩ (x0, x1, x2, x3, x4, ()) [_, _, _, _, _] (.cons (vr_list g0) (.cons (vr_two g1) (.cons (vr_int g2) (.cons (vr_int g3) (.cons (vr_int g4) .nil)))))).mono fun e W' he => ?_
 cases e with
 | returned v =>
   obtain ⟨rfl, hu⟩ := he
   have hb := hu.below
   exact ⟨_, rfl, _, _, _, _, _, _, hW', trodAll_mk1 (shut_bool Try.underlying4 true), trodAll_mk5 (Below.trod laidT (by kernel_rfl) (of_decide_eq_true (by kernel_rfl)) h0 hb hlt0) (Below.trod laidT (by kernel_rfl) (of_decide_eq_true (by kernel_rfl)) h1 hb hlt1) (Below.trod laidT (by kernel_rfl) (of_decide_eq_true (by kernel_rfl)) h2 hb hlt2) (Below.trod laidT (by kernel_rfl) (of_decide_eq_true (by kernel_rfl)) h3 hb hlt3) (Below.trod laidT (by kernel_rfl) (of_decide_eq_true (by kernel_rfl)) h4 hb hlt4), rfl, hb.frame _, fun h => by cases h⟩
 | panicked c => exact he.elim
 | outgrown => exact he.elim
theorem packTorn_holds : Rows.PackTornSaid :=
 OpenClaim.holds_of_wide 11 Try.f11 rfl rfl rfl rfl rfl rfl rfl ⟨rfl, rfl, rfl, rfl, rfl⟩ rfl rfl rfl rfl rfl (by kernel_rfl) Try.func11 (by kernel_rfl)
   (of_decide_eq_true (by kernel_rfl)) (by unfold Func.isWrapper; first | (rw [if_pos (by decide +kernel)]; kernel_rfl) | (rw [if_neg (by decide +kernel)]; exact ⟨rfl, rfl⟩))
   (fun os started H enc _ => packTorn_lifted os started H enc)
end Go.Proofs.Ytcnhjofpmpipfaa
