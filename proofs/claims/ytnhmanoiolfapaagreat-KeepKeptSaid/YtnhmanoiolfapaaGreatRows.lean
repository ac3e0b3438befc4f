/-
  No cell of these rows narrows 'for every input' (looked for: loops, veiled, ifaces, maps, wideKeys, modest, calm, conditions, laid).
  DERIVED. THE GIVEN ROWS OF THIS SEAT. 6 by the template 'for every input the law returns true; each argument reads behind the call as it read before'; 0 by the template 'total and deterministic' (their statements: YtnhmanoiolfapaaGreatTotals.lean).
  GIVEN WITH THE SEED: the statements are not yours to turn. If you find one false, say at which input.
  Laid BY PROGRAM, IN A SANDBOX (cutbox-rows.mjs): the forced cells as the released guide's own fill.sh prints them over the translation 06b0a76dfd100644… (all of the seat's roots in one cut). By AI agents, Wed Nov 11 2026. No macro, syntax, notation, axiom, sorry.
-/
import Derived.Test.YtnhmanoiolfapaaGreatChecked
import GoSem.Claim
import GoSem.ClaimJoined
import GoSem.ClaimMapViews
import Derived.JoinedTies
import Derived.KernelRfl
namespace Go.Proofs.YtnhmanoiolfapaaGreat
/- THE CELL 'sum', in the pinned program and in every row, IS THE sha256 OF THE DUMP (.gsa) THAT YtnhmanoiolfapaaGreatProg.lean LOADS. Nothing in Lean hashes anything: it is a label: what it is worth is what the hold of that sum in a sandbox is worth. -/
noncomputable def Tryz.pinned : Pinned := { name := "ytnhmanoiolfapaagreat", sum := "06b0a76dfd100644478f074a4a79f735e6347d7a46a1365015548787162e65d9", checked := Tryz.checked }
namespace Rows
def none {H : Type} : Left H := { results := [], args := [] }

/-- 'cosignerlaw23.KeepOpens': WHATEVER THE INPUT: true; the input reads as it did. -/
def keepOpensSpec : ChangeSpec := { name := "keepOpens", fn := fun _ => fun
  | [d] => { results := [.lit (.bool true)], args := [d] }
  | _ => none }
def keepOpensRow : OpenClaim := { program := "ytnhmanoiolfapaagreat", sum := "06b0a76dfd100644478f074a4a79f735e6347d7a46a1365015548787162e65d9", func := "cosigner/cosignerlaw23.KeepOpens", spec := "keepOpens", inPlace := ["internal/abi.NoEscape", "internal/bytealg.MakeNoZero"], unfollowed := true, recurses := true, apart := false }
def KeepOpensSaid : Prop := keepOpensRow.holds Tryz.pinned (OpenSpec.ofChange keepOpensSpec)

/-- ITS FALSE NEIGHBOUR: 'it returns false'. Refute it at one input. -/
def keepOpensWrong : ChangeSpec := { name := "keepOpens", fn := fun _ => fun
  | [d] => { results := [.lit (.bool false)], args := [d] }
  | _ => none }
def KeepOpensWrongFalsely : Prop := keepOpensRow.holds Tryz.pinned (OpenSpec.ofChange keepOpensWrong)

/-- 'cosignerlaw23.KeepCommits': WHATEVER THE INPUT: true; the input reads as it did. -/
def keepCommitsSpec : ChangeSpec := { name := "keepCommits", fn := fun _ => fun
  | [d1, d2, d3] => { results := [.lit (.bool true)], args := [d1, d2, d3] }
  | _ => none }
def keepCommitsRow : OpenClaim := { program := "ytnhmanoiolfapaagreat", sum := "06b0a76dfd100644478f074a4a79f735e6347d7a46a1365015548787162e65d9", func := "cosigner/cosignerlaw23.KeepCommits", spec := "keepCommits", inPlace := ["internal/abi.NoEscape", "internal/bytealg.MakeNoZero"], unfollowed := true, recurses := true, apart := false }
def KeepCommitsSaid : Prop := keepCommitsRow.holds Tryz.pinned (OpenSpec.ofChange keepCommitsSpec)

/-- ITS FALSE NEIGHBOUR: 'it returns false'. Refute it at one input. -/
def keepCommitsWrong : ChangeSpec := { name := "keepCommits", fn := fun _ => fun
  | [d1, d2, d3] => { results := [.lit (.bool false)], args := [d1, d2, d3] }
  | _ => none }
def KeepCommitsWrongFalsely : Prop := keepCommitsRow.holds Tryz.pinned (OpenSpec.ofChange keepCommitsWrong)

/-- 'cosignerlaw23.KeepDisks': WHATEVER THE INPUT: true; the input reads as it did. -/
def keepDisksSpec : ChangeSpec := { name := "keepDisks", fn := fun _ => fun
  | [d1, d2, d3, d4] => { results := [.lit (.bool true)], args := [d1, d2, d3, d4] }
  | _ => none }
def keepDisksRow : OpenClaim := { program := "ytnhmanoiolfapaagreat", sum := "06b0a76dfd100644478f074a4a79f735e6347d7a46a1365015548787162e65d9", func := "cosigner/cosignerlaw23.KeepDisks", spec := "keepDisks", inPlace := ["internal/abi.NoEscape", "internal/bytealg.MakeNoZero"], unfollowed := true, recurses := true, apart := false }
def KeepDisksSaid : Prop := keepDisksRow.holds Tryz.pinned (OpenSpec.ofChange keepDisksSpec)

/-- ITS FALSE NEIGHBOUR: 'it returns false'. Refute it at one input. -/
def keepDisksWrong : ChangeSpec := { name := "keepDisks", fn := fun _ => fun
  | [d1, d2, d3, d4] => { results := [.lit (.bool false)], args := [d1, d2, d3, d4] }
  | _ => none }
def KeepDisksWrongFalsely : Prop := keepDisksRow.holds Tryz.pinned (OpenSpec.ofChange keepDisksWrong)

/-- 'cosignerlaw23.KeepTurns': WHATEVER THE INPUT: true; the input reads as it did. -/
def keepTurnsSpec : ChangeSpec := { name := "keepTurns", fn := fun _ => fun
  | [d1, d2] => { results := [.lit (.bool true)], args := [d1, d2] }
  | _ => none }
def keepTurnsRow : OpenClaim := { program := "ytnhmanoiolfapaagreat", sum := "06b0a76dfd100644478f074a4a79f735e6347d7a46a1365015548787162e65d9", func := "cosigner/cosignerlaw23.KeepTurns", spec := "keepTurns", inPlace := ["internal/abi.NoEscape", "internal/bytealg.MakeNoZero"], unfollowed := true, recurses := true, apart := false }
def KeepTurnsSaid : Prop := keepTurnsRow.holds Tryz.pinned (OpenSpec.ofChange keepTurnsSpec)

/-- ITS FALSE NEIGHBOUR: 'it returns false'. Refute it at one input. -/
def keepTurnsWrong : ChangeSpec := { name := "keepTurns", fn := fun _ => fun
  | [d1, d2] => { results := [.lit (.bool false)], args := [d1, d2] }
  | _ => none }
def KeepTurnsWrongFalsely : Prop := keepTurnsRow.holds Tryz.pinned (OpenSpec.ofChange keepTurnsWrong)

/-- 'cosignerlaw23.KeepAllOrNone': WHATEVER THE INPUT: true; the input reads as it did. -/
def keepAllOrNoneSpec : ChangeSpec := { name := "keepAllOrNone", fn := fun _ => fun
  | [d1, d2, d3, d4, d5, d6, d7] => { results := [.lit (.bool true)], args := [d1, d2, d3, d4, d5, d6, d7] }
  | _ => none }
def keepAllOrNoneRow : OpenClaim := { program := "ytnhmanoiolfapaagreat", sum := "06b0a76dfd100644478f074a4a79f735e6347d7a46a1365015548787162e65d9", func := "cosigner/cosignerlaw23.KeepAllOrNone", spec := "keepAllOrNone", inPlace := ["internal/abi.NoEscape", "internal/bytealg.MakeNoZero"], unfollowed := true, recurses := true, apart := false }
def KeepAllOrNoneSaid : Prop := keepAllOrNoneRow.holds Tryz.pinned (OpenSpec.ofChange keepAllOrNoneSpec)

/-- ITS FALSE NEIGHBOUR: 'it returns false'. Refute it at one input. -/
def keepAllOrNoneWrong : ChangeSpec := { name := "keepAllOrNone", fn := fun _ => fun
  | [d1, d2, d3, d4, d5, d6, d7] => { results := [.lit (.bool false)], args := [d1, d2, d3, d4, d5, d6, d7] }
  | _ => none }
def KeepAllOrNoneWrongFalsely : Prop := keepAllOrNoneRow.holds Tryz.pinned (OpenSpec.ofChange keepAllOrNoneWrong)

/-- 'cosignerlaw23.KeepKept': WHATEVER THE INPUT: true; the input reads as it did. -/
def keepKeptSpec : ChangeSpec := { name := "keepKept", fn := fun _ => fun
  | [d1, d2, d3, d4, d5] => { results := [.lit (.bool true)], args := [d1, d2, d3, d4, d5] }
  | _ => none }
def keepKeptRow : OpenClaim := { program := "ytnhmanoiolfapaagreat", sum := "06b0a76dfd100644478f074a4a79f735e6347d7a46a1365015548787162e65d9", func := "cosigner/cosignerlaw23.KeepKept", spec := "keepKept", inPlace := ["internal/abi.NoEscape", "internal/bytealg.MakeNoZero"], unfollowed := true, recurses := true, apart := false }
def KeepKeptSaid : Prop := keepKeptRow.holds Tryz.pinned (OpenSpec.ofChange keepKeptSpec)

/-- ITS FALSE NEIGHBOUR: 'it returns false'. Refute it at one input. -/
def keepKeptWrong : ChangeSpec := { name := "keepKept", fn := fun _ => fun
  | [d1, d2, d3, d4, d5] => { results := [.lit (.bool false)], args := [d1, d2, d3, d4, d5] }
  | _ => none }
def KeepKeptWrongFalsely : Prop := keepKeptRow.holds Tryz.pinned (OpenSpec.ofChange keepKeptWrong)

/- THE SECOND FORM. 'bulk': how many values and letters a reading holds, each counted each time it is reached (what is shared counts as often as it is met; a slice's spare places count too). A statement '..UptoSaid' is the law's where the arguments, and the package variables that the reading takes, are together of bulk at most 1048576: NARROWER than '..Said'. Prove '..Said' where nothing that the law and all that it calls make is longer than what came in: it says more and counts as full. Else prove '..UptoSaid'. A law counts once. -/
mutual
def uptoBulk {H : Type} : DataW H → Nat
  | .lit (.string bytes) => bytes.length + 1
  | .lit _ => 1
  | .nil => 1
  | .ptr d => uptoBulk d + 1
  | .slice elems spare => uptoBulkAll elems + uptoBulkAll spare + 1
  | .agg parts => uptoBulkAll parts + 1
  | .iface _ d => uptoBulk d + 1
  | .map entries => uptoBulkEntries entries + 1
  | .held _ => 1
def uptoBulkAll {H : Type} : List (DataW H) → Nat
  | [] => 0
  | d :: r => uptoBulk d + uptoBulkAll r
def uptoBulkEntries {H : Type} : List (Lit × DataW H) → Nat
  | [] => 0
  | x :: r => uptoBulkEntry x + uptoBulkEntries r
def uptoBulkEntry {H : Type} : Lit × DataW H → Nat
  | (.string bytes, d) => bytes.length + uptoBulk d + 1
  | (_, d) => uptoBulk d + 1
 end
def uptoSmall : (H : Type) → List (DataW H) → Bool := fun _ ds => decide (uptoBulkAll ds ≤ 1048576)
def OpenSpec.upto (s : _root_.Go.ChangeSpec) : _root_.Go.OpenSpec := { _root_.Go.OpenSpec.ofChange s with cond := some uptoSmall }

/-- 'cosignerlaw23.KeepOpens', WHERE WHAT IT READS IS OF BULK AT MOST 1048576: true; the input reads as it did. -/
def keepOpensUptoRow : OpenClaim := { program := "ytnhmanoiolfapaagreat", sum := "06b0a76dfd100644478f074a4a79f735e6347d7a46a1365015548787162e65d9", func := "cosigner/cosignerlaw23.KeepOpens", spec := "keepOpens", inPlace := ["internal/abi.NoEscape", "internal/bytealg.MakeNoZero"], unfollowed := true, recurses := true, apart := false, narrowed := true }
def KeepOpensUptoSaid : Prop := keepOpensUptoRow.holds Tryz.pinned (OpenSpec.upto keepOpensSpec)

/-- 'cosignerlaw23.KeepCommits', WHERE WHAT IT READS IS OF BULK AT MOST 1048576: true; the input reads as it did. -/
def keepCommitsUptoRow : OpenClaim := { program := "ytnhmanoiolfapaagreat", sum := "06b0a76dfd100644478f074a4a79f735e6347d7a46a1365015548787162e65d9", func := "cosigner/cosignerlaw23.KeepCommits", spec := "keepCommits", inPlace := ["internal/abi.NoEscape", "internal/bytealg.MakeNoZero"], unfollowed := true, recurses := true, apart := false, narrowed := true }
def KeepCommitsUptoSaid : Prop := keepCommitsUptoRow.holds Tryz.pinned (OpenSpec.upto keepCommitsSpec)

/-- 'cosignerlaw23.KeepDisks', WHERE WHAT IT READS IS OF BULK AT MOST 1048576: true; the input reads as it did. -/
def keepDisksUptoRow : OpenClaim := { program := "ytnhmanoiolfapaagreat", sum := "06b0a76dfd100644478f074a4a79f735e6347d7a46a1365015548787162e65d9", func := "cosigner/cosignerlaw23.KeepDisks", spec := "keepDisks", inPlace := ["internal/abi.NoEscape", "internal/bytealg.MakeNoZero"], unfollowed := true, recurses := true, apart := false, narrowed := true }
def KeepDisksUptoSaid : Prop := keepDisksUptoRow.holds Tryz.pinned (OpenSpec.upto keepDisksSpec)

/-- 'cosignerlaw23.KeepTurns', WHERE WHAT IT READS IS OF BULK AT MOST 1048576: true; the input reads as it did. -/
def keepTurnsUptoRow : OpenClaim := { program := "ytnhmanoiolfapaagreat", sum := "06b0a76dfd100644478f074a4a79f735e6347d7a46a1365015548787162e65d9", func := "cosigner/cosignerlaw23.KeepTurns", spec := "keepTurns", inPlace := ["internal/abi.NoEscape", "internal/bytealg.MakeNoZero"], unfollowed := true, recurses := true, apart := false, narrowed := true }
def KeepTurnsUptoSaid : Prop := keepTurnsUptoRow.holds Tryz.pinned (OpenSpec.upto keepTurnsSpec)

/-- 'cosignerlaw23.KeepAllOrNone', WHERE WHAT IT READS IS OF BULK AT MOST 1048576: true; the input reads as it did. -/
def keepAllOrNoneUptoRow : OpenClaim := { program := "ytnhmanoiolfapaagreat", sum := "06b0a76dfd100644478f074a4a79f735e6347d7a46a1365015548787162e65d9", func := "cosigner/cosignerlaw23.KeepAllOrNone", spec := "keepAllOrNone", inPlace := ["internal/abi.NoEscape", "internal/bytealg.MakeNoZero"], unfollowed := true, recurses := true, apart := false, narrowed := true }
def KeepAllOrNoneUptoSaid : Prop := keepAllOrNoneUptoRow.holds Tryz.pinned (OpenSpec.upto keepAllOrNoneSpec)

/-- 'cosignerlaw23.KeepKept', WHERE WHAT IT READS IS OF BULK AT MOST 1048576: true; the input reads as it did. -/
def keepKeptUptoRow : OpenClaim := { program := "ytnhmanoiolfapaagreat", sum := "06b0a76dfd100644478f074a4a79f735e6347d7a46a1365015548787162e65d9", func := "cosigner/cosignerlaw23.KeepKept", spec := "keepKept", inPlace := ["internal/abi.NoEscape", "internal/bytealg.MakeNoZero"], unfollowed := true, recurses := true, apart := false, narrowed := true }
def KeepKeptUptoSaid : Prop := keepKeptUptoRow.holds Tryz.pinned (OpenSpec.upto keepKeptSpec)

end Rows
end Go.Proofs.YtnhmanoiolfapaaGreat
