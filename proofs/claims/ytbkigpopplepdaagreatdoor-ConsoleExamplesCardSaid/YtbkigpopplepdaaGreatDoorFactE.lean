/- Three looks at the whole program. -/
import Derived.Test.YtbkigpopplepdaaGreatDoorRows
import Derived.JoinedOf
namespace Go.Proofs.YtbkigpopplepdaaGreatDoor
theorem k3 : mapsRowed Tryz.prog = true := by kernel_rfl
theorem k25 : Tryz.prog.stopsHeard = true := by kernel_rfl
theorem k26 : Tryz.prog.mayEnter = true := by kernel_rfl
end Go.Proofs.YtbkigpopplepdaaGreatDoor
