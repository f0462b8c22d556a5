/-
  The tie of the two listed variables to the program's text, first part: the closed facts on words and names; each a theorem of its own, so that each has the kernel's memory for itself. No condition.
-/
import Derived.Test.YtdfbcjoopkiaeaaGreatDoorRows
import Derived.LaidByTextLater
import Derived.SevenTiedAt
import Derived.LaidOnce
namespace Go.Proofs.YtdfbcjoopkiaeaaGreatDoor
open Go
set_option maxRecDepth 100000
theorem vm_worded : Tryz.prog.worded (varsWordLater true) = true := by kernel_rfl
theorem vm_unworded : Tryz.prog.worded (varsWordLater !true) = false := by kernel_rfl
theorem vm_root : Tryz.prog.worded rootWordLater = true := by kernel_rfl
theorem vm_kinds : ([("math/bits.deBruijn32tab", Rows.laid_math_bits_deBruijn32tab), ("math/bits.deBruijn64tab", Rows.laid_math_bits_deBruijn64tab)] : List (String × DataW Unit)).map (fun x => Tryz.prog.kindOfLater x.1) = [LaidKind.data, LaidKind.data].map some := by kernel_rfl
theorem vm_door : (Tryz.prog.funcNamed "gosem.cut.vars").isSome = true := by kernel_rfl
theorem vm_names : varsNamedLaterB Tryz.prog (varsId Tryz.prog) [("math/bits.deBruijn32tab", Rows.laid_math_bits_deBruijn32tab), ("math/bits.deBruijn64tab", Rows.laid_math_bits_deBruijn64tab)] = true := by kernel_rfl
end Go.Proofs.YtdfbcjoopkiaeaaGreatDoor
