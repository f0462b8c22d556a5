/-
  The tie of the two listed variables to the program's text, second part: what the start-up text leaves, on every tape. No condition.
-/
import Derived.Test.YtdfbcjoopkiaeaaGreatDoorRows
import Derived.LaidByTextLater
import Derived.SevenTiedAt
import Derived.LaidOnce
namespace Go.Proofs.YtdfbcjoopkiaeaaGreatDoor
open Go
set_option maxRecDepth 100000
theorem vm_leaves (os : Os) (tape : Tape) : doorLeaves Tryz.prog 248 8 257 [("math/bits.deBruijn32tab", Rows.laid_math_bits_deBruijn32tab), ("math/bits.deBruijn64tab", Rows.laid_math_bits_deBruijn64tab)] os tape = some (([("math/bits.deBruijn32tab", Rows.laid_math_bits_deBruijn32tab), ("math/bits.deBruijn64tab", Rows.laid_math_bits_deBruijn64tab)] : List (String × DataW Unit)).filter fun x => x.2.handleName?.isNone, (funcsListed [("math/bits.deBruijn32tab", Rows.laid_math_bits_deBruijn32tab), ("math/bits.deBruijn64tab", Rows.laid_math_bits_deBruijn64tab)]).map (·.2.funcsOut)) := by kernel_rfl
end Go.Proofs.YtdfbcjoopkiaeaaGreatDoor
