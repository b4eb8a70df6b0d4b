/- The tied card of quartolaw41.ConsoleExamples: it returns true, whatever the memory; it has no arguments and no condition. -/
import Derived.Test.YtbkigpopplepdaaGreatDoorOver
import Derived.Test.YtbkigpopplepdaaGreatDoorFactH
import Derived.Test.YtbkigpopplepdaaGreatDoorTieC
import Derived.Test.YtbkigpopplepdaaGreatDoorCards
import Derived.SevenTiedAt
namespace Go.Proofs.YtbkigpopplepdaaGreatDoor
open Go
theorem card_wf : Rows.consoleExamplesRow.wfByText (OpenSpec.ofChange Rows.consoleExamplesSpec) = true := by kernel_rfl
theorem card_main : Tryz.pinned.checked.prog.mainIs = some (true, "8dcc550b68ca9e3ffbeb551cec863f9a9572c8f0d3528e539595ff32c68bfbc4".toList) := by kernel_rfl
theorem card_looks : false = Tryz.pinned.checked.prog.looks [] := by kernel_rfl
/-- THE STATEMENT -/
theorem proved : Rows.ConsoleExamplesCardSaid :=
  Claim7.holds_tied_plain_at .later [] [.data, .data, .data, .pinned, .data] true (true, "8dcc550b68ca9e3ffbeb551cec863f9a9572c8f0d3528e539595ff32c68bfbc4") false
    over (fun _ h => by cases h) card_wf (fun _ h => by cases h) own_row_tie rfl ⟨rfl, rfl⟩ card_main rfl
    (fun f fn hf hfn => by
      obtain rfl : f = 3 := Option.some.inj (named3.symm.trans hf) |>.symm
      obtain rfl : fn = Tryz.f3 := (Option.some.inj (Tryz.func3.symm.trans hfn)).symm
      exact ⟨card_looks, fun j t ht => by
        rw [Tryz.params3] at ht
        simp at ht⟩)
    card_goes
#print axioms proved
end Go.Proofs.YtbkigpopplepdaaGreatDoor
