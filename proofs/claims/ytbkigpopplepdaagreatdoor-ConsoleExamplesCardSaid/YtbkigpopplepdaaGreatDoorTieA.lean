/- The words and the kinds of the variables that the row lists, looked up in the program. -/
import Derived.Test.YtbkigpopplepdaaGreatDoorRows
import Derived.LaidByTextLater
import Derived.SevenTiedAt
namespace Go.Proofs.YtbkigpopplepdaaGreatDoor
open Go
def L : List (String × DataW Unit) := [("internal/strconv.uint64pow10", Rows.laid_internal_strconv_uint64pow10), ("math/bits.deBruijn32tab", Rows.laid_math_bits_deBruijn32tab), ("math/bits.deBruijn64tab", Rows.laid_math_bits_deBruijn64tab), ("unicode/utf8.acceptRanges", Rows.laid_unicode_utf8_acceptRanges)]
theorem ta : Tryz.prog.worded (varsWordLater true) = true := by kernel_rfl
theorem tb : Tryz.prog.worded (varsWordLater !true) = false := by kernel_rfl
theorem tc : Tryz.prog.worded rootWordLater = true := by kernel_rfl
theorem td : L.map (fun x => Tryz.prog.kindOfLater x.1) = [LaidKind.data, .data, .data, .data].map some := by kernel_rfl
theorem te : (Tryz.prog.funcNamed "gosem.cut.vars").isSome = true := by kernel_rfl
theorem tf : varsNamedLaterB Tryz.prog (varsId Tryz.prog) L = true := by kernel_rfl
end Go.Proofs.YtbkigpopplepdaaGreatDoor
