/-
  The tie of the row's two listed variables to the program's text. No condition.
-/
import Derived.Test.YtdfbcjoopkiaeaaGreatDoorVmTieA
import Derived.Test.YtdfbcjoopkiaeaaGreatDoorVmTieB
import Derived.Test.YtdfbcjoopkiaeaaGreatDoorRows
import Derived.LaidByTextLater
import Derived.SevenTiedAt
import Derived.LaidOnce
namespace Go.Proofs.YtdfbcjoopkiaeaaGreatDoor
open Go
set_option maxRecDepth 100000
theorem vm_tie : Tryz.prog.laidByTextLater [("math/bits.deBruijn32tab", Rows.laid_math_bits_deBruijn32tab), ("math/bits.deBruijn64tab", Rows.laid_math_bits_deBruijn64tab)] [.data, .data] true :=
  Program.laidByTextLater_by_one 248 8 257 vm_worded vm_unworded vm_root vm_kinds vm_door vm_names vm_leaves
theorem vm_noOwnUnsafe : Tryz.pinned.checked.prog.headLifts.contains "ownunsafe" = false := by kernel_rfl
theorem vm_row_tie : Rows.vmNamesRow.laidByTextAt .later Tryz.pinned [.data, .data] true :=
  OpenClaim.laidByTextAt_later rfl rfl vm_tie vm_noOwnUnsafe
end Go.Proofs.YtdfbcjoopkiaeaaGreatDoor
