/- What the program's own text lays in the listed variables, followed by the kernel. -/
import Derived.Test.YtbkigpopplepdaaGreatDoorTieA
namespace Go.Proofs.YtbkigpopplepdaaGreatDoor
open Go
theorem tg : ∀ os tape, varsDone Tryz.prog 400 (varsId Tryz.prog) os tape = true := fun _ _ => by kernel_rfl
theorem th : ∀ os tape, (DataW.laidRun Tryz.prog (varsWorld Tryz.prog 400 (varsId Tryz.prog) os tape).memory 8 (L.map (·.1))).map (·.1) = some L := fun _ _ => by kernel_rfl
theorem ti : ∀ os tape, (DataW.laidRun Tryz.prog (varsWorld Tryz.prog 400 (varsId Tryz.prog) os tape).memory 8 (L.map (·.1))).map (fun x => decide x.2.Nodup && laidRowsB Tryz.prog (varsWorld Tryz.prog 400 (varsId Tryz.prog) os tape).memory x.2) = some true := fun _ _ => by kernel_rfl
end Go.Proofs.YtbkigpopplepdaaGreatDoor
