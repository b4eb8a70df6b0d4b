/- ConsoleExamples, followed by the kernel: the answer is true. -/
import Derived.Test.YtbkigpopplepdaaGreatDoorRep
open Go.Ab
namespace Go.Proofs.YtbkigpopplepdaaGreatDoor
noncomputable def H2 : Hook := xOr H1 (xPure 9 [cfg] rep)
theorem main_is : chk (.bool true) ((self E H2 20000).call 3 [] ⟨.leaf, 0⟩) = true := by kernel_rfl
end Go.Proofs.YtbkigpopplepdaaGreatDoor
