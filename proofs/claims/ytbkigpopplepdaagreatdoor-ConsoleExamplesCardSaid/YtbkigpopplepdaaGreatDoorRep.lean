/- console.Report at the example's text, followed by the kernel. -/
import Derived.Test.YtbkigpopplepdaaGreatDoorQuer
open Go.Ab
namespace Go.Proofs.YtbkigpopplepdaaGreatDoor
noncomputable def cfg : Value := .string ⟨#[99,111,110,102,105,103,32,49,54,32,49,32,48,32,48,32,49,32,49,32,49,32,43,54,49,10]⟩
noncomputable def rep : Value := .tuple #[.string ⟨#[99,97,108,108,115,58,10,102,101,101,100,115,58,10,108,105,110,101,97,114,58,10,32,121,101,115,10,109,97,114,107,115,58,10,111,114,100,101,114,58,10,32,10,112,97,99,101,58,10,32,111,107,10,114,101,115,116,58,10,32,113,117,105,101,116,10,114,101,118,105,115,105,111,110,115,58,10,32,48,32,49,32,49,32,48,32,48,10,115,97,102,101,116,121,58,10,32,111,107,10,115,108,111,116,115,58,10,32,49,32,48,32,49,53,32,48,32,48,10,115,110,97,112,115,104,111,116,115,58,10,32,111,107,10,115,116,101,112,115,58,10,32,48,32,48,32,48,10,116,101,120,116,58,10,32,43,54,49,10,119,105,116,110,101,115,115,58,10,32,111,107,10]⟩, .int .i64 0]
noncomputable def H1 : Hook := xQuer 5 9 qs
theorem rep_is : chk rep ((self E H1 20000).call 9 [cfg] ⟨.leaf, 0⟩) = true := by kernel_rfl
end Go.Proofs.YtbkigpopplepdaaGreatDoor
