/- sanity answers true, in any world. -/
import Derived.Test.YtcnhjofpmpipfaaIxt
import Derived.KernelRfl
namespace Go.Proofs.Ytcnhjofpmpipfaa
open Go Go.Sx Go.RowKit Go.Ix
theorem san15 : isTrue (icall Try.prog ttT.get ftT.get 1000 100 (.fn 15) [] S0) = true := by kernel_rfl
theorem mixedI : Try.prog.follows .mixedOrders = true := by kernel_rfl
theorem k15 (w : World) : Calls Try.prog 15 #[] w (Ret fun v w' => v = .bool true ∧ Upd [] w w') := by
  obtain ⟨r, h, hp⟩ := isTrue_spec san15
  exact (icall_closed mixedI ttOK ftOK h hp w).2
end Go.Proofs.Ytcnhjofpmpipfaa
