/- sanity's contract, for the walks of the laws. -/
import Derived.Test.YtcnhjofpmpipfaaIxs
import Derived.Test.YtcnhjofpmpipfaaSp5
namespace Go.Proofs.Ytcnhjofpmpipfaa
open Go Go.Sx Go.RowKit Go.Ix
theorem c15 {M : List Nat} {w : World} (hM : Lo M w) : Calls Try.prog 15 #[] w (Ret fun v w' => v = .bool (Pk.sanityB) ∧ Upd [] w w') := k15 w
end Go.Proofs.Ytcnhjofpmpipfaa
