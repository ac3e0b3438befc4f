/- LexWrites: the law returns true at all inputs, and its arguments read as before; the listed package-level variables are tied to the text. No condition. -/
import Derived.Test.YtanenikkloolfaaGreatDoorRows
import Derived.Test.YtanenikkloolfaaGreatDoorCards
import Derived.Test.YtanenikkloolfaaGreatDoorTie
import Derived.Test.YtanenikkloolfaaGreatDoorMw3
import Derived.Test.YtanenikkloolfaaGreatDoorMw6
import Derived.SizedLaws
import Derived.Carry
import Derived.ProofKit
import Derived.OpenShut
import Derived.LaidMore
import Derived.Lay
import Derived.SevenTiedAt
import Derived.Stop.Joined
set_option maxRecDepth 100000
namespace Go.Proofs.YtanenikkloolfaaGreatDoor
open Go Go.Sx Go.ChangeShapes Go.WideShapes Go.ChangeAt Go.RowKit Go.Jx

theorem lexWrites_lifted (os : Os) (started : os.Started) (H : Type) (en : TypeId × Value → H) :
   ReturnsInHanded {} Tryz.checked os 4 .any (fun w args => (Rows.lexWritesSpec.pre en Tryz.prog Tryz.f4 Rows.lexWritesRow.domain false w args ∧ laidMetH Tryz.prog Rows.lexWritesRow.laid w) ∧ sizedMet en Tryz.prog Tryz.f4 (OpenSpec.ofChange Rows.lexWritesSpec) false w args)
     (Rows.lexWritesSpec.post en Tryz.prog Tryz.f4 false true false false) := by
 refine returnsInHanded_of_change_and (C := Tryz.checked) (X := fun w _ => laidMetH Tryz.prog Rows.lexWritesRow.laid w) (fun _ _ _ hh h => h.of_heap hh) ownKnobT started (by kernel_rfl) Tryz.func4
   (ChangeSpec.witness_shaped (enc := en) (C := Tryz.checked) (os := os) (X := fun w _ => laidMetH Tryz.prog Rows.lexWritesRow.laid w) false (World.laidAll Tryz.prog os Rows.lexWritesRow.laid) #[.slice none 0 0] 8 (World.laidAll_os _ _ _)
     (World.shaped_of_ZipB (by kernel_rfl) (by kernel_rfl)) (by kernel_rfl) (by kernel_rfl) (by kernel_rfl)
     (by rw [MakeChecks.laidMetH_plain _ _ _ (by kernel_rfl)]; exact laidMet_laidAll _ (by kernel_rfl) (by kernel_rfl))) ?_
 intro W base args ds gs before hval0 hW hcnd hwt hL _
 have hgl : Gl [] W := gl_of_laid (show laidMetH Tryz.prog laidL W from hL)
 have hval : ∀ (j : Nat) t v, Tryz.f4.params[j]? = some t → args[j]? = some v → Value.okWide Tryz.prog W .any base t v := hval0
 have hW' := hW
 obtain ⟨p, q, hA0, hV, rfl, hfz, hnd⟩ := hW
 have hA : DataW.TrodAll en Tryz.prog W 0 (fun _ => true) true Tryz.f4.params.toList args.toList ds p := hA0
 rw [Tryz.params4] at hA hval
 obtain ⟨v0, d0, rfl, rfl, h0⟩ := trodAll_one hA
 obtain ⟨rfl, rfl⟩ := trodVars_none hV
 have hwt' := List.all_eq_true.1 hwt
 have w0 : ∀ n ∈ d0.weights Tryz.prog 22, n ≤ reachBytes := fun n hn => by simpa using hwt' n (DataW.weights_mem_each (j := 0) rfl rfl n hn)
 obtain ⟨a0, len0, cap0, rfl⟩ := okWide_slice Tryz.underlying22 (hval 0 22 v0 rfl rfl)
 obtain ⟨x0, g0⟩ := rd22.rd W _ (trw_of h0 w0)
 have hlt : ∀ x ∈ p ++ [], x.block < W.heap.size := fun x hx => by simpa using hW'.lt x hx
 have hlt0 : ∀ x ∈ p, x.block < W.heap.size := fun x hx => hlt x (by simp [hx])
 refine (con_true (pts := [.list cToken]) conz40 W hgl (x0, ()) [_] (.cons (vr_list g0) .nil)).mono fun e W' he => ?_
 cases e with
 | returned v =>
   obtain ⟨rfl, hu⟩ := he
   have hb := hu.below
   exact ⟨_, rfl, _, _, _, _, _, _, hW', trodAll_mk1 (shut_bool Tryz.underlying4 true), trodAll_mk1 (Below.trod laidT (by kernel_rfl) (of_decide_eq_true (by kernel_rfl)) h0 hb hlt0), rfl, hb.frame _, fun h => by cases h⟩
 | panicked c => exact he.elim
 | outgrown => exact he.elim
theorem lexWrites_row : Rows.LexWritesSaid :=
 OpenClaim.holds_of_wide 4 Tryz.f4 rfl rfl rfl rfl rfl rfl rfl ⟨rfl, rfl, rfl, rfl, rfl⟩ rfl rfl rfl rfl rfl (by kernel_rfl) Tryz.func4 (by kernel_rfl)
   (of_decide_eq_true (by kernel_rfl)) (by unfold Func.isWrapper; first | (rw [if_pos (by decide +kernel)]; kernel_rfl) | (rw [if_neg (by decide +kernel)]; exact ⟨rfl, rfl⟩))
   (fun os started H enc _ => lexWrites_lifted os started H enc)
theorem lexWrites_holds : Rows.LexWritesCardSaid :=
 Claim7.holds_tied_plain_at .later [] [.data, .listed, .data, .pinned] true (true, "e4e6579d5f83b12412da746856a7387b26c396d56e128c5a361c0c886e08e3a7") false lexWrites_row (fun _ h => by cases h) (by kernel_rfl) (fun _ h => by cases h) lexWrites_row_tie rfl ⟨rfl, rfl⟩ (by kernel_rfl) rfl
   (fun f fn hf hfn => by
     obtain rfl : f = 4 := Option.some.inj ((show Tryz.prog.funcNamed "cosigner/cosignerlaw01.LexWrites" = some 4 by kernel_rfl).symm.trans hf) |>.symm
     obtain rfl : fn = Tryz.f4 := (Option.some.inj (Tryz.func4.symm.trans hfn)).symm
     exact ⟨by kernel_rfl, fun j t ht => by
       rw [Tryz.params4] at ht
       have hm : t ∈ [22] := by simpa using Array.mem_of_getElem? ht
       have hall : ([22].all fun u => !Tryz.prog.wantsStandIn u) = true := by kernel_rfl
       exact (show Tryz.prog.wantsStandIn t = false by simpa using List.all_eq_true.1 hall t hm)⟩)
   (by kernel_rfl)
end Go.Proofs.YtanenikkloolfaaGreatDoor
