/- PackForms: the law returns true on every list of forms and every graph; its arguments read as before. No condition. -/
import Derived.Test.YtcnhjofpmpipfaaRows
import Derived.Test.YtcnhjofpmpipfaaL1
import Derived.Test.YtcnhjofpmpipfaaO1
import Derived.ProofKit
namespace Go.Proofs.Ytcnhjofpmpipfaa
open Go Go.Sx Go.ChangeShapes Go.WideShapes Go.ChangeAt Go.RowKit
open Go.Sx.Dat (enc)

theorem ownKnobT : ownKnob Try.prog.godebug = none := by kernel_rfl
theorem laidT : laidOutB Try.prog = true := by kernel_rfl
theorem aggCells {cs : Array Value} {l : List Value} (h : (Value.agg cs).cells.toList = l) : Value.agg cs = .agg l.toArray := by
  have : cs.toList = l := h
  rw [← this]
set_option maxRecDepth 100000 in
theorem packForms_lifted (os : Os) (started : os.Started) (H : Type) (en : TypeId × Value → H) :
    ReturnsInHanded {} Try.checked os 3 .any (Rows.packFormsSpec.pre6 en Try.prog Try.f3 Rows.packFormsRow.domain false) (Rows.packFormsSpec.post en Try.prog Try.f3 false true false false) := by
  refine returnsInHanded_of_change (C := Try.checked) ownKnobT started (by kernel_rfl) Try.func3
    (ChangeSpec.witness6 (enc := en) (C := Try.checked) false ⟨#[], #[.slice none 0 0, .agg #[.slice none 0 0, .slice none 0 0]], []⟩ 8 (by kernel_rfl) (by kernel_rfl) (by kernel_rfl) (by kernel_rfl)) ?_
  intro W base args ds gs before hval0 hW hcnd _
  have hval : ∀ (j : Nat) t v, Try.f3.params[j]? = some t → args[j]? = some v → Value.okWide Try.prog W .any base t v := hval0
  have hW' := hW
  obtain ⟨p, q, hA0, hV, rfl, hfz, hnd⟩ := hW
  have hA : DataW.TrodAll en Try.prog W 0 (fun _ => true) true Try.f3.params.toList args.toList ds p := hA0
  rw [Try.params3] at hA hval
  obtain ⟨v0, v1, d0, d1, p0, p1, rfl, rfl, rfl, h0, h1⟩ := trodAll_two hA
  obtain ⟨rfl, rfl⟩ := trodVars_none hV
  obtain ⟨a0, len0, cap0, rfl⟩ := okWide_slice ty22.und (hval 0 22 v0 rfl rfl)
  obtain ⟨cs1, rfl, _⟩ := okWide_struct ty26.und (hval 1 26 v1 rfl rfl)
  obtain ⟨b0, c0, l, e0, g0⟩ := (TR.of h0).slice ty22.und rdForm (by decide)
  obtain ⟨x1, b1, c1, b2, c2, e1, g1, g2⟩ := rdGraph.rd _ _ (TR.of h1)
  have e1' := aggCells e1
  cases e0
  have hlt : ∀ x ∈ (p0 ++ p1) ++ [], x.block < W.heap.size := fun x hx => by simpa using hW'.lt x hx
  have hlt0 : ∀ x ∈ p0, x.block < W.heap.size := fun x hx => hlt x (by simp [hx])
  have hlt1 : ∀ x ∈ p1, x.block < W.heap.size := fun x hx => hlt x (by simp [hx])
  rw [e1'] at h1 hW' ⊢
  refine (c3 (M := []) (fun b hb => by cases hb) g0 g1 g2).mono fun e W' he => ?_
  cases e with
  | returned v =>
    obtain ⟨rfl, hu⟩ := he
    have hb := hu.below
    exact ⟨_, rfl, _, _, _, _, _, _, hW', trodAll_mk1 (shut_bool ty4.und true), trodAll_mk2 (Below.trod laidT (by kernel_rfl) (of_decide_eq_true (by kernel_rfl)) h0 hb hlt0) (Below.trod laidT (by kernel_rfl) (of_decide_eq_true (by kernel_rfl)) h1 hb hlt1), rfl, hb.frame _, fun h => by cases h⟩
  | panicked c => exact he.elim
  | outgrown => exact he.elim
theorem packForms_holds : Rows.PackFormsSaid :=
  OpenClaim.holds_of_wide 3 Try.f3 rfl rfl rfl rfl rfl rfl rfl ⟨rfl, rfl, rfl, rfl, rfl⟩ rfl rfl rfl rfl rfl (by kernel_rfl) Try.func3 (by kernel_rfl)
    (of_decide_eq_true (by kernel_rfl)) (by unfold Func.isWrapper; first | (rw [if_pos (by decide +kernel)]; kernel_rfl) | (rw [if_neg (by decide +kernel)]; exact ⟨rfl, rfl⟩))
    (fun os started H enc _ => packForms_lifted os started H enc)
end Go.Proofs.Ytcnhjofpmpipfaa
