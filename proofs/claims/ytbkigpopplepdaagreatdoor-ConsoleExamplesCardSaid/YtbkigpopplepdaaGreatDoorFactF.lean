/- The law's function is found under its name. -/
import Derived.Test.YtbkigpopplepdaaGreatDoorRows
import Derived.JoinedOf
namespace Go.Proofs.YtbkigpopplepdaaGreatDoor
theorem named3 : Tryz.pinned.checked.prog.funcNamed Rows.consoleExamplesRow.func = some 3 := by kernel_rfl
end Go.Proofs.YtbkigpopplepdaaGreatDoor
