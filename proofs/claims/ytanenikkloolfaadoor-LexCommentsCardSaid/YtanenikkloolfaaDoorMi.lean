/- LexComments: the law returns true at all inputs, and its arguments read as before; the listed package-level variables are tied to the text. No condition. -/
import Derived.Test.YtanenikkloolfaaDoorRows
import Derived.Test.YtanenikkloolfaaDoorCards
import Derived.Test.YtanenikkloolfaaDoorTie
import Derived.Test.YtanenikkloolfaaDoorMi3
import Derived.Test.YtanenikkloolfaaDoorMi6
import Derived.SizedLaws
import Derived.Carry
import Derived.ProofKit
import Derived.OpenShut
import Derived.LaidMore
import Derived.Lay
import Derived.SevenTiedAt
import Derived.Stop.Joined
set_option maxRecDepth 100000
namespace Go.Proofs.YtanenikkloolfaaDoor
open Go Go.Sx Go.ChangeShapes Go.WideShapes Go.ChangeAt Go.RowKit Go.Jx

theorem lexComments_lifted (os : Os) (started : os.Started) (H : Type) (en : TypeId × Value → H) :
   ReturnsInHanded {} Tryd.checked os 11 .any (fun w args => (Rows.lexCommentsSpec.pre en Tryd.prog Tryd.f11 Rows.lexCommentsRow.domain false w args ∧ laidMetH Tryd.prog Rows.lexCommentsRow.laid w) ∧ sizedMet en Tryd.prog Tryd.f11 (OpenSpec.ofChange Rows.lexCommentsSpec) false w args)
     (Rows.lexCommentsSpec.post en Tryd.prog Tryd.f11 false true false false) := by
 refine returnsInHanded_of_change_and (C := Tryd.checked) (X := fun w _ => laidMetH Tryd.prog Rows.lexCommentsRow.laid w) (fun _ _ _ hh h => h.of_heap hh) ownKnobT started (by kernel_rfl) Tryd.func11
   (ChangeSpec.witness_shaped (enc := en) (C := Tryd.checked) (os := os) (X := fun w _ => laidMetH Tryd.prog Rows.lexCommentsRow.laid w) false (World.laidAll Tryd.prog os Rows.lexCommentsRow.laid) #[.string ByteArray.empty, .string ByteArray.empty, .int .u8 0] 8 (World.laidAll_os _ _ _)
     (World.shaped_of_ZipB (by kernel_rfl) (by kernel_rfl)) (by kernel_rfl) (by kernel_rfl) (by kernel_rfl)
     (by rw [MakeChecks.laidMetH_plain _ _ _ (by kernel_rfl)]; exact laidMet_laidAll _ (by kernel_rfl) (by kernel_rfl))) ?_
 intro W base args ds gs before hval0 hW hcnd hwt hL _
 have hgl : Gl [] W := gl_of_laid (show laidMetH Tryd.prog laidL W from hL)
 have hval : ∀ (j : Nat) t v, Tryd.f11.params[j]? = some t → args[j]? = some v → Value.okWide Tryd.prog W .any base t v := hval0
 have hW' := hW
 obtain ⟨p, q, hA0, hV, rfl, hfz, hnd⟩ := hW
 have hA : DataW.TrodAll en Tryd.prog W 0 (fun _ => true) true Tryd.f11.params.toList args.toList ds p := hA0
 rw [Tryd.params11] at hA hval
 obtain ⟨v0, v1, v2, d0, d1, d2, p0, p1, p2, rfl, rfl, rfl, h0, h1, h2⟩ := trodAll_three hA
 obtain ⟨rfl, rfl⟩ := trodVars_none hV
 have hwt' := List.all_eq_true.1 hwt
 have w0 : ∀ n ∈ d0.weights Tryd.prog 9, n ≤ reachBytes := fun n hn => by simpa using hwt' n (DataW.weights_mem_each (j := 0) rfl rfl n hn)
 have w1 : ∀ n ∈ d1.weights Tryd.prog 9, n ≤ reachBytes := fun n hn => by simpa using hwt' n (DataW.weights_mem_each (j := 1) rfl rfl n hn)
 have w2 : ∀ n ∈ d2.weights Tryd.prog 5, n ≤ reachBytes := fun n hn => by simpa using hwt' n (DataW.weights_mem_each (j := 2) rfl rfl n hn)
 obtain ⟨s0, rfl⟩ := okWide_string Tryd.underlying9 (hval 0 9 v0 rfl rfl)
 obtain ⟨s1, rfl⟩ := okWide_string Tryd.underlying9 (hval 1 9 v1 rfl rfl)
 obtain ⟨k2, rfl, _⟩ := okWide_int Tryd.underlying5 (hval 2 5 v2 rfl rfl)
 obtain ⟨x0, g0⟩ := rd9.rd W _ (trw_of h0 w0)
 obtain ⟨x1, g1⟩ := rd9.rd W _ (trw_of h1 w1)
 obtain ⟨x2, g2⟩ := rd5.rd W _ (trw_of h2 w2)
 have hlt : ∀ x ∈ (p0 ++ p1 ++ p2) ++ [], x.block < W.heap.size := fun x hx => by simpa using hW'.lt x hx
 have hlt0 : ∀ x ∈ p0, x.block < W.heap.size := fun x hx => hlt x (by simp [hx])
 have hlt1 : ∀ x ∈ p1, x.block < W.heap.size := fun x hx => hlt x (by simp [hx])
 have hlt2 : ∀ x ∈ p2, x.block < W.heap.size := fun x hx => hlt x (by simp [hx])
 refine (con_true (pts := [.str, .str, .int .u8]) conz20 W hgl (x0, x1, x2, ()) [_, _, _] (.cons (vr_str g0) (.cons (vr_str g1) (.cons (Jx.vr_int g2) .nil)))).mono fun e W' he => ?_
 cases e with
 | returned v =>
   obtain ⟨rfl, hu⟩ := he
   have hb := hu.below
   exact ⟨_, rfl, _, _, _, _, _, _, hW', trodAll_mk1 (shut_bool Tryd.underlying4 true), trodAll_mk3 (Below.trod laidT (by kernel_rfl) (of_decide_eq_true (by kernel_rfl)) h0 hb hlt0) (Below.trod laidT (by kernel_rfl) (of_decide_eq_true (by kernel_rfl)) h1 hb hlt1) (Below.trod laidT (by kernel_rfl) (of_decide_eq_true (by kernel_rfl)) h2 hb hlt2), rfl, hb.frame _, fun h => by cases h⟩
 | panicked c => exact he.elim
 | outgrown => exact he.elim
theorem lexComments_row : Rows.LexCommentsSaid :=
 OpenClaim.holds_of_wide 11 Tryd.f11 rfl rfl rfl rfl rfl rfl rfl ⟨rfl, rfl, rfl, rfl, rfl⟩ rfl rfl rfl rfl rfl (by kernel_rfl) Tryd.func11 (by kernel_rfl)
   (of_decide_eq_true (by kernel_rfl)) (by unfold Func.isWrapper; first | (rw [if_pos (by decide +kernel)]; kernel_rfl) | (rw [if_neg (by decide +kernel)]; exact ⟨rfl, rfl⟩))
   (fun os started H enc _ => lexComments_lifted os started H enc)
theorem lexComments_holds : Rows.LexCommentsCardSaid :=
 Claim7.holds_tied_plain_at .later [] [.data, .listed, .data, .pinned] true (true, "95d80897834f3831e200caa41977b3c0c147cd2027fc3ee92cc251f97eabee89") false lexComments_row (fun _ h => by cases h) (by kernel_rfl) (fun _ h => by cases h) lexComments_row_tie rfl ⟨rfl, rfl⟩ (by kernel_rfl) rfl
   (fun f fn hf hfn => by
     obtain rfl : f = 11 := Option.some.inj ((show Tryd.prog.funcNamed "cosigner/cosignerlaw01.LexComments" = some 11 by kernel_rfl).symm.trans hf) |>.symm
     obtain rfl : fn = Tryd.f11 := (Option.some.inj (Tryd.func11.symm.trans hfn)).symm
     exact ⟨by kernel_rfl, fun j t ht => by
       rw [Tryd.params11] at ht
       have hm : t ∈ [9, 9, 5] := by simpa using Array.mem_of_getElem? ht
       have hall : ([9, 9, 5].all fun u => !Tryd.prog.wantsStandIn u) = true := by kernel_rfl
       exact (show Tryd.prog.wantsStandIn t = false by simpa using List.all_eq_true.1 hall t hm)⟩)
   (by kernel_rfl)
end Go.Proofs.YtanenikkloolfaaDoor
