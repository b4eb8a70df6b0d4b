/- The types' rows of the program are laid out, fifty at a time. -/
import Derived.Test.YtbkigpopplepdaaGreatDoorRows
import Derived.Test.YtbkigpopplepdaaGreatDoorAb5
open Go.Ab
namespace Go.Proofs.YtbkigpopplepdaaGreatDoor
theorem tsize : Tryz.prog.types.size = 802 := by kernel_rfl
theorem fine0 : (List.range' 0 50).all (rowFine Tryz.prog) = true := by kernel_rfl
theorem fine1 : (List.range' 50 50).all (rowFine Tryz.prog) = true := by kernel_rfl
theorem fine2 : (List.range' 100 50).all (rowFine Tryz.prog) = true := by kernel_rfl
theorem fine3 : (List.range' 150 50).all (rowFine Tryz.prog) = true := by kernel_rfl
theorem fine4 : (List.range' 200 50).all (rowFine Tryz.prog) = true := by kernel_rfl
theorem fine5 : (List.range' 250 50).all (rowFine Tryz.prog) = true := by kernel_rfl
theorem fine6 : (List.range' 300 50).all (rowFine Tryz.prog) = true := by kernel_rfl
theorem fine7 : (List.range' 350 50).all (rowFine Tryz.prog) = true := by kernel_rfl
theorem fine8 : (List.range' 400 50).all (rowFine Tryz.prog) = true := by kernel_rfl
theorem fine9 : (List.range' 450 50).all (rowFine Tryz.prog) = true := by kernel_rfl
theorem fine10 : (List.range' 500 50).all (rowFine Tryz.prog) = true := by kernel_rfl
theorem fine11 : (List.range' 550 50).all (rowFine Tryz.prog) = true := by kernel_rfl
theorem fine12 : (List.range' 600 50).all (rowFine Tryz.prog) = true := by kernel_rfl
theorem fine13 : (List.range' 650 50).all (rowFine Tryz.prog) = true := by kernel_rfl
theorem fine14 : (List.range' 700 50).all (rowFine Tryz.prog) = true := by kernel_rfl
theorem fine15 : (List.range' 750 50).all (rowFine Tryz.prog) = true := by kernel_rfl
theorem fine16 : (List.range' 800 2).all (rowFine Tryz.prog) = true := by kernel_rfl
theorem fines : Each (fun q : Nat × Nat => (List.range' q.1 q.2).all (rowFine Tryz.prog) = true) [(0, 50), (50, 50), (100, 50), (150, 50), (200, 50), (250, 50), (300, 50), (350, 50), (400, 50), (450, 50), (500, 50), (550, 50), (600, 50), (650, 50), (700, 50), (750, 50), (800, 2)] := ⟨fine0, fine1, fine2, fine3, fine4, fine5, fine6, fine7, fine8, fine9, fine10, fine11, fine12, fine13, fine14, fine15, fine16, trivial⟩
end Go.Proofs.YtbkigpopplepdaaGreatDoor
