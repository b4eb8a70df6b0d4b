/- The row of quartolaw41.ConsoleExamples holds: it returns true, whatever the memory; it has no arguments and no condition. -/
import Derived.Test.YtbkigpopplepdaaGreatDoorWit
import Derived.Test.YtbkigpopplepdaaGreatDoorFactF
import Derived.Test.YtbkigpopplepdaaGreatDoorFactG
import Derived.Test.YtbkigpopplepdaaGreatDoorEnd
import Derived.Test.YtbkigpopplepdaaGreatDoorSort
namespace Go.Proofs.YtbkigpopplepdaaGreatDoor
open Go Go.ChangeShapes Go.WideShapes Go.ChangeAt Go.RowKit
open Go.ChangeMaps (open_string shut_string)
theorem walk (w : World) : Calls Tryz.prog 3 #[] w fun e w' => e = .returned (.bool true) ∧ w.keptBut w' fun _ => False := by
  rcases law_of Tryz.func15 sorts w with ⟨v', w', h, _⟩ | ⟨_, h⟩
  · exact absurd h (by rw [ok.enter 3 Tryz.f3 (Go.Ab.cbody Tryz.f3) (by kernel_rfl) (by kernel_rfl)]; intro hh; cases hh)
  · refine callsIn_wide.1 (h.mono fun e w' he => ?_)
    cases e with
    | returned v =>
      obtain ⟨ρ, hv, hs⟩ := he
      refine ⟨by rw [hv.bool_inv], hs.os, hs.output, fun i hi => ?_⟩
      rw [hs.conc i hi (fun _ _ _ hh => nomatch hh)]
      obtain ⟨x, hx⟩ : ∃ x, w.heap[i]? = some x := ⟨_, Array.getElem?_eq_getElem hi⟩
      rw [hx]
      cases x <;> first | rfl | exact ⟨rfl, rfl, rfl, fun _ _ => rfl⟩ | exact .inr ⟨rfl, rfl⟩
    | panicked ch => exact he.elim
    | outgrown => exact he.elim

set_option maxRecDepth 100000 in
theorem lifted (os : Os) (started : os.Started) (H : Type) (enc : TypeId × Value → H) :
    ReturnsInHanded {} Tryz.checked os 3 .any (fun w args => (Rows.consoleExamplesSpec.pre enc Tryz.prog Tryz.f3 [] false w args ∧ laidMetH Tryz.prog Rows.consoleExamplesRow.laid w) ∧ sizedMet enc Tryz.prog Tryz.f3 (OpenSpec.ofChange Rows.consoleExamplesSpec) false w args)
      (Rows.consoleExamplesSpec.post enc Tryz.prog Tryz.f3 false true false false) := by
  refine returnsInHanded_of_change_and (C := Tryz.checked) (X := fun w _ => laidMetH Tryz.prog Rows.consoleExamplesRow.laid w) (fun _ _ _ hh h => h.of_heap hh) own started noInit Tryz.func3
    (ChangeSpec.witness_shaped (enc := enc) (C := Tryz.checked) (os := os) (X := fun w _ => laidMetH Tryz.prog Rows.consoleExamplesRow.laid w) false (World.laidAll Tryz.prog os Rows.consoleExamplesRow.laid) #[] 8 (World.laidAll_os _ _ _)
      (World.shaped_of_ZipB (wit_zip os) (wit_rest os)) (wit_ok os) (wit_pre os H enc) (wit_size os H enc)
      (by rw [MakeChecks.laidMetH_plain _ _ _ laid_plain]; exact laidMet_laidAll _ (lay_fits os) (lay_ifaces os))) ?_
  intro W base args ds gs before hval0 hW hcnd _ hL _
  have hval : ∀ (j : Nat) t v, Tryz.f3.params[j]? = some t → args[j]? = some v → Value.okWide Tryz.prog W .any base t v := hval0
  have hW' := hW
  obtain ⟨p, q, hA0, hV, rfl, hfz, hnd⟩ := hW
  have hA : DataW.TrodAll enc Tryz.prog W 0 (fun _ => true) true Tryz.f3.params.toList args.toList ds p := hA0
  rw [Tryz.params3] at hA hval
  obtain ⟨rfl, rfl, rfl⟩ := trodAll_none hA
  obtain ⟨rfl, rfl⟩ := trodVars_none hV
  clear hA0 hval0
  simp only [List.append_nil] at hW'
  refine (walk W).mono fun e W' ⟨he, hg⟩ => ?_
  subst he
  refine ⟨_, rfl, [], [], [], [], [], [], hW', (trodAll_cons_mk (shut_bool Tryz.underlying4 _) trodAll_mk0), rfl, rfl, World.keptBut_mono (fun _ h => h.elim) hg, fun h => by cases h⟩

theorem over : Rows.consoleExamplesRow.holds Tryz.pinned (OpenSpec.ofChange Rows.consoleExamplesSpec) :=
  OpenClaim.holds_of_wide 3 Tryz.f3 rfl rfl rfl rfl rfl rfl rfl ⟨rfl, rfl, rfl, rfl, rfl⟩ rfl rfl rfl rfl rfl named3 Tryz.func3 joined
    (of_decide_eq_true (by kernel_rfl)) (by unfold Func.isWrapper; rw [if_neg (of_decide_eq_false (by kernel_rfl))]; exact ⟨rfl, rfl⟩)
    (fun os started H enc _ => lifted os started H enc)
end Go.Proofs.YtbkigpopplepdaaGreatDoor
