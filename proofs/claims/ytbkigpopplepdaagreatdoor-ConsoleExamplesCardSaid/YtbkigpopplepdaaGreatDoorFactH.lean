/- The law's call starts no goroutine by any text that it can come to. -/
import Derived.Test.YtbkigpopplepdaaGreatDoorFactB
import Derived.Test.YtbkigpopplepdaaGreatDoorFactF
import Derived.SevenTiedAt
open Go Go.Ab
namespace Go.Proofs.YtbkigpopplepdaaGreatDoor
theorem goesA : ((Tryz.prog.closure 3).any fun g => (Tryz.prog.funcs[g]?).any Func.goes) = false := by
  rw [cl]
  simp only [funcs_tab fl_funcs (TF := ftab) rfl]
  kernel_rfl
theorem goesB : Tryz.prog.funcs.any Func.goes = false := by
  rw [fl_funcs, List.any_toArray]
  kernel_rfl
theorem goes3 : Tryz.prog.goes 3 = false := by
  unfold Program.goes
  rw [goesA, goesB, Bool.and_false, Bool.or_false]
theorem card_goes : false = Rows.consoleExamplesRow.goesBy Tryz.pinned.checked.prog := by
  show false = ((Tryz.pinned.checked.prog.funcNamed Rows.consoleExamplesRow.func).any Tryz.prog.goes || false)
  rw [named3, Option.any_some, goes3, Bool.or_false]
end Go.Proofs.YtbkigpopplepdaaGreatDoor
