/- What the row says of the functions that the law's function reaches is so. -/
import Derived.Test.YtbkigpopplepdaaGreatDoorFactA
open Go.Ab
namespace Go.Proofs.YtbkigpopplepdaaGreatDoor
theorem unf : Tryz.prog.unfollowed 3 = true := by
  unfold Program.unfollowed
  rw [cl]
  simp only [funcs_tab fl_funcs (TF := ftab) rfl]
  kernel_rfl
theorem k10 : (Rows.consoleExamplesRow.inPlace == Tryz.prog.inPlace 3) = true := by
  unfold Program.inPlace
  rw [cl]
  simp only [funcs_tab fl_funcs (TF := ftab) rfl]
  kernel_rfl
theorem k11 : (Rows.consoleExamplesRow.unfollowed == Tryz.prog.unfollowed 3) = true := by
  rw [unf]
  kernel_rfl
theorem k12 : (Rows.consoleExamplesRow.recurses == Tryz.prog.recurses 3) = true := by
  unfold Program.recurses
  rw [unf]
  kernel_rfl
theorem k13 : (Rows.consoleExamplesRow.named == Tryz.prog.varsNamed 3) = true := by
  unfold Program.varsNamed
  rw [cl]
  simp only [funcs_tab fl_funcs (TF := ftab) rfl]
  kernel_rfl
end Go.Proofs.YtbkigpopplepdaaGreatDoor
