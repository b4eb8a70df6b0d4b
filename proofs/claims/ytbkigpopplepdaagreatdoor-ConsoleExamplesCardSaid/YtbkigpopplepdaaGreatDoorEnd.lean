/- ConsoleExamples gives back true in every world. -/
import Derived.Test.YtbkigpopplepdaaGreatDoorMain
open Go.Ab
namespace Go.Proofs.YtbkigpopplepdaaGreatDoor
theorem cfg_lit : [cfg].all lit = true := by kernel_rfl
theorem rep_lit : lit rep = true := by kernel_rfl
theorem h1_of (h15 : Tryz.prog.funcs[15]? = some Tryz.f15) (hs : SortsStr Tryz.prog 15) : HookOK Tryz.prog H1 := quer_of h15 hs
theorem h2_of (h15 : Tryz.prog.funcs[15]? = some Tryz.f15) (hs : SortsStr Tryz.prog 15) : HookOK Tryz.prog H2 :=
  (h1_of h15 hs).or (HookOK.pure (self_sound ok (h1_of h15 hs) 20000).1 rep_is cfg_lit rep_lit)
/-- the law's function gives back true, whatever the world -/
theorem law_of (h15 : Tryz.prog.funcs[15]? = some Tryz.f15) (hs : SortsStr Tryz.prog 15) (w : World) : CallRun Tryz.prog 3 #[] w fun v' w' => ∃ ρ', V ρ' (.bool true) v' ∧ Step (fun _ => none) ⟨.leaf, 0⟩ w ρ' ⟨.leaf, 0⟩ w' :=
  pure_call (self_sound ok (h2_of h15 hs) 20000).1 main_is rfl rfl .nil (HRel.empty w)
end Go.Proofs.YtbkigpopplepdaaGreatDoor
