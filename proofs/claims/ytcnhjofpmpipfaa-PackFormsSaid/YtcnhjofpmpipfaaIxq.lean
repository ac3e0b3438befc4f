/- The interpreter's tables as trees. -/
import Derived.Test.YtcnhjofpmpipfaaIxp
set_option linter.unusedVariables false
namespace Go.Ix
open Go Go.Sx Go.RowKit
universe u
def PT.Fa {α : Type u} : PT α → (Nat → α → Prop) → Prop
  | .leaf, _ => True
  | .node v l r, p => (match v with | none => True | some x => p 0 x) ∧ l.Fa (fun k => p (2 * k + 1)) ∧ r.Fa (fun k => p (2 * k + 2))
theorem PT.fa {α : Type u} : ∀ {t : PT α} {p : Nat → α → Prop}, t.Fa p → ∀ k v, t.get k = some v → p k v
  | .leaf, p, h, k, v, hk => by cases hk
  | .node x l r, p, h, k, v, hk => by
    obtain ⟨h1, h2, h3⟩ := h
    unfold PT.get at hk
    by_cases h0 : k = 0
    · subst h0
      rw [beq_t rfl, cond_true] at hk
      subst hk; exact h1
    · rw [beq_f h0, cond_false] at hk
      by_cases h4 : k % 2 = 1
      · rw [beq_t h4, cond_true] at hk
        have := PT.fa h2 _ _ hk
        rwa [show 2 * (k / 2) + 1 = k by omega] at this
      · rw [beq_f h4, cond_false] at hk
        have := PT.fa h3 _ _ hk
        rwa [show 2 * ((k - 1) / 2) + 2 = k by omega] at this
def FIok (P : Program) (f : Nat) (fi : FI) : Prop := ∃ fn, P.funcs[f]? = some fn ∧ fn.body = some fi.body ∧ fn.ntmps = fi.nt ∧ fn.results = fi.res.toArray ∧ (fn.name == "runtime.NumGoroutine") = false ∧ codeOK fi.body = true
def isTrue : Option Res → Bool
  | some ⟨.bool true, _, _, _⟩ => true
  | _ => false
theorem isTrue_spec {x : Option Res} (h : isTrue x = true) : ∃ r, x = some r ∧ Plain r.v (.bool true) := by
  unfold isTrue at h
  split at h
  · exact ⟨_, rfl, .bool true⟩
  · cases h
end Go.Ix
