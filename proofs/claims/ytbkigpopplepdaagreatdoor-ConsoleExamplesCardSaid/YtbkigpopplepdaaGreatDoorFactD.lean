/- The whole program is laid out. -/
import Derived.Test.YtbkigpopplepdaaGreatDoorFactC
open Go.Ab
namespace Go.Proofs.YtbkigpopplepdaaGreatDoor
theorem rowsFine : (List.range Tryz.prog.types.size).all (rowFine Tryz.prog) = true := by
  rw [tsize]
  refine all_range _ fines fun t ht => ?_
  have hm : ∀ q, q < 17 → (q * 50, min 50 (802 - q * 50)) ∈ ([(0, 50), (50, 50), (100, 50), (150, 50), (200, 50), (250, 50), (300, 50), (350, 50), (400, 50), (450, 50), (500, 50), (550, 50), (600, 50), (650, 50), (700, 50), (750, 50), (800, 2)] : List (Nat × Nat)) := by decide
  exact ⟨(t / 50 * 50, min 50 (802 - t / 50 * 50)), hm _ (by omega), by omega, by omega⟩
theorem globalsFit : (Tryz.prog.globals.all fun g => decide (g.type < Tryz.prog.types.size)) = true := by kernel_rfl
theorem paramsFit : (Tryz.prog.funcs.all fun f => f.params.all fun t => decide (t < Tryz.prog.types.size)) = true := by
  rw [tsize]
  kernel_rfl
theorem k2 : laidOutB Tryz.prog = true := and_t (and_t rowsFine globalsFit) paramsFit
end Go.Proofs.YtbkigpopplepdaaGreatDoor
