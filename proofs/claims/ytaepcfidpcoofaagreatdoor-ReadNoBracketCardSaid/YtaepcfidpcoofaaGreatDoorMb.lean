/- ReadNoBracket: the law returns true at all inputs, and its arguments read as before; the listed package-level variables are tied to the text. No condition. -/
import Derived.Test.YtaepcfidpcoofaaGreatDoorRows
import Derived.Test.YtaepcfidpcoofaaGreatDoorCards
import Derived.Test.YtaepcfidpcoofaaGreatDoorTie
import Derived.Test.YtaepcfidpcoofaaGreatDoorMb6
import Derived.SizedLaws
import Derived.Carry
import Derived.ProofKit
import Derived.OpenShut
import Derived.LaidMore
import Derived.Lay
import Derived.SevenTiedAt
import Derived.Stop.Joined
set_option maxRecDepth 100000
namespace Go.Proofs.YtaepcfidpcoofaaGreatDoor
open Go Go.Sx Go.ChangeShapes Go.WideShapes Go.ChangeAt Go.RowKit Go.Jx

theorem readNoBracket_lifted (os : Os) (started : os.Started) (H : Type) (en : TypeId × Value → H) :
   ReturnsInHanded {} Tryz.checked os 6 .any (fun w args => (Rows.readNoBracketSpec.pre en Tryz.prog Tryz.f6 Rows.readNoBracketRow.domain false w args ∧ laidMetH Tryz.prog Rows.readNoBracketRow.laid w) ∧ sizedMet en Tryz.prog Tryz.f6 (OpenSpec.ofChange Rows.readNoBracketSpec) false w args)
     (Rows.readNoBracketSpec.post en Tryz.prog Tryz.f6 false true false false) := by
 refine returnsInHanded_of_change_and (C := Tryz.checked) (X := fun w _ => laidMetH Tryz.prog Rows.readNoBracketRow.laid w) (fun _ _ _ hh h => h.of_heap hh) ownKnobT started (by kernel_rfl) Tryz.func6
   (ChangeSpec.witness_shaped (enc := en) (C := Tryz.checked) (os := os) (X := fun w _ => laidMetH Tryz.prog Rows.readNoBracketRow.laid w) false (World.laidAll Tryz.prog os Rows.readNoBracketRow.laid) #[.agg #[.int .i64 0, .string ByteArray.empty, .int .i64 0, .slice none 0 0], .int .u8 0] 8 (World.laidAll_os _ _ _)
     (World.shaped_of_ZipB (by kernel_rfl) (by kernel_rfl)) (by kernel_rfl) (by kernel_rfl) (by kernel_rfl)
     (by rw [MakeChecks.laidMetH_plain _ _ _ (by kernel_rfl)]; exact laidMet_laidAll _ (by kernel_rfl) (by kernel_rfl))) ?_
 intro W base args ds gs before hval0 hW hcnd hwt hL _
 have hgl : Gl [] W := gl_of_laid (show laidMetH Tryz.prog laidL W from hL)
 have hval : ∀ (j : Nat) t v, Tryz.f6.params[j]? = some t → args[j]? = some v → Value.okWide Tryz.prog W .any base t v := hval0
 have hW' := hW
 obtain ⟨p, q, hA0, hV, rfl, hfz, hnd⟩ := hW
 have hA : DataW.TrodAll en Tryz.prog W 0 (fun _ => true) true Tryz.f6.params.toList args.toList ds p := hA0
 rw [Tryz.params6] at hA hval
 obtain ⟨v0, v1, d0, d1, p0, p1, rfl, rfl, rfl, h0, h1⟩ := trodAll_two hA
 obtain ⟨rfl, rfl⟩ := trodVars_none hV
 have hwt' := List.all_eq_true.1 hwt
 have w0 : ∀ n ∈ d0.weights Tryz.prog 35, n ≤ reachBytes := fun n hn => by simpa using hwt' n (DataW.weights_mem_each (j := 0) rfl rfl n hn)
 have w1 : ∀ n ∈ d1.weights Tryz.prog 5, n ≤ reachBytes := fun n hn => by simpa using hwt' n (DataW.weights_mem_each (j := 1) rfl rfl n hn)
 obtain ⟨cs0, rfl, _⟩ := okWide_struct Tryz.underlying35 (hval 0 35 v0 rfl rfl)
 obtain ⟨k1, rfl, _⟩ := okWide_int Tryz.underlying5 (hval 1 5 v1 rfl rfl)
 obtain ⟨x0, g0⟩ := rd35.rd W _ (trw_of h0 w0)
 obtain ⟨x1, g1⟩ := rd5.rd W _ (trw_of h1 w1)
 have hlt : ∀ x ∈ (p0 ++ p1) ++ [], x.block < W.heap.size := fun x hx => by simpa using hW'.lt x hx
 have hlt0 : ∀ x ∈ p0, x.block < W.heap.size := fun x hx => hlt x (by simp [hx])
 have hlt1 : ∀ x ∈ p1, x.block < W.heap.size := fun x hx => hlt x (by simp [hx])
 refine (con_true (pts := [cExpr, .int .u8]) conz43 W hgl (x0, x1, ()) [_, _] (.cons (vr_two g0) (.cons (Jx.vr_int g1) .nil))).mono fun e W' he => ?_
 cases e with
 | returned v =>
   obtain ⟨rfl, hu⟩ := he
   have hb := hu.below
   exact ⟨_, rfl, _, _, _, _, _, _, hW', trodAll_mk1 (shut_bool Tryz.underlying4 true), trodAll_mk2 (Below.trod laidT (by kernel_rfl) (of_decide_eq_true (by kernel_rfl)) h0 hb hlt0) (Below.trod laidT (by kernel_rfl) (of_decide_eq_true (by kernel_rfl)) h1 hb hlt1), rfl, hb.frame _, fun h => by cases h⟩
 | panicked c => exact he.elim
 | outgrown => exact he.elim
theorem reach_a : Tryz.prog.inPlace 6 = ["internal/bytealg.CountString", "internal/bytealg.IndexByteString", "internal/bytealg.IndexString", "internal/abi.NoEscape", "internal/bytealg.MakeNoZero"] := by kernel_rfl
theorem reach_b : Tryz.prog.unfollowed 6 = true := by kernel_rfl
theorem reach_c : Tryz.prog.recurses 6 = true := by kernel_rfl
theorem reach_d : Tryz.prog.varsNamed 6 = ["unicode/utf8.first", "unicode/utf8.acceptRanges", "internal/bytealg.MaxLen", "strings.asciiSpace", "unicode.White_Space", "internal/strconv.uint64pow10", "math/bits.deBruijn32tab", "math/bits.deBruijn64tab"] := by kernel_rfl
theorem reach_all : joinedFacts Tryz.prog 6 Tryz.f6 Rows.readNoBracketSpec Rows.readNoBracketRow = true := by
 unfold joinedFacts
 rw [reach_a, reach_b, reach_c, reach_d]
 kernel_rfl
theorem readNoBracket_row : Rows.ReadNoBracketSaid :=
 OpenClaim.holds_of_wide 6 Tryz.f6 rfl rfl rfl rfl rfl rfl rfl ⟨rfl, rfl, rfl, rfl, rfl⟩ rfl rfl rfl rfl rfl (by kernel_rfl) Tryz.func6 reach_all
   (of_decide_eq_true (by kernel_rfl)) (by unfold Func.isWrapper; first | (rw [if_pos (by decide +kernel)]; kernel_rfl) | (rw [if_neg (by decide +kernel)]; exact ⟨rfl, rfl⟩))
   (fun os started H enc _ => readNoBracket_lifted os started H enc)
theorem looks_a : true = Tryz.prog.looks [] := by kernel_rfl
theorem goes_a : false = Rows.readNoBracketRow.goesBy Tryz.prog := by kernel_rfl
theorem readNoBracket_holds : Rows.ReadNoBracketCardSaid :=
 Claim7.holds_tied_plain_at .later [] [.data, .data, .data, .data, .listed, .data, .pinned] true (true, "c5b39f24bd0d8621a3b9abcd77e7f154cbd582e8092ac4ab3713ec4e84a0fd13") true readNoBracket_row (fun _ h => by cases h) (by kernel_rfl) (fun _ h => by cases h) readNoBracket_row_tie rfl ⟨rfl, rfl⟩ (by kernel_rfl) rfl
   (fun f fn hf hfn => by
     obtain rfl : f = 6 := Option.some.inj ((show Tryz.prog.funcNamed "cosigner/cosignerlaw02.ReadNoBracket" = some 6 by kernel_rfl).symm.trans hf) |>.symm
     obtain rfl : fn = Tryz.f6 := (Option.some.inj (Tryz.func6.symm.trans hfn)).symm
     exact ⟨looks_a, fun j t ht => by
       rw [Tryz.params6] at ht
       have hm : t ∈ [35, 5] := by simpa using Array.mem_of_getElem? ht
       have hall : ([35, 5].all fun u => !Tryz.prog.wantsStandIn u) = true := by kernel_rfl
       exact (show Tryz.prog.wantsStandIn t = false by simpa using List.all_eq_true.1 hall t hm)⟩)
   goes_a
end Go.Proofs.YtaepcfidpcoofaaGreatDoor
