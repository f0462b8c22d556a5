/-
  The Go function VmNames returns true, called in whatever memory and on whatever tape; all that lay in memory lies there as before. Reckoned by the kernel: Go.Ev.runF (a reckoner over abstract memory, proved sound in the texts that this one imports). No condition.
-/
import Derived.Test.YtdfbcjoopkiaeaaGreatDoorEvAg
import Derived.Test.YtdfbcjoopkiaeaaGreatDoorProg
namespace Go.Proofs.YtdfbcjoopkiaeaaGreatDoor
open Go
def vmTys : List Nat := [3,4,5,9,23,24,26,27,28,29,31,32,33,36,38,39,41,45,47,49,55,58,60,62,64,71,73,75,80,84,85,97,99,104,116,119,129,138,166,168,172,174,176,178,197,235,284,293,294,296,352,370,441,490]
def vmFns : List Nat := [3,4,5,6,7,8,9,10,11,12,13,14,15,16,17,18,19,20,21,24,25,26,27,28,29,30,32,33,34,35,36,37,38,39,40,41,42,43,44,45,46,49,50,51,52,55,56,57,58,60,61,62,63,71,72,73,74,75,76,78,79,80,81,84,85,86,87,88,89,92,94,95,96,100,101,102,103,104,106,113,114,117,120,122,123,130,131,132,133,134,136,140,146,147,148,152,153,154,155,157,158,159,164,166,167,171,178,179,180,197,200,201,202,203,213,222,223,226,229,248,249,253,254,268,317,323,324,343,369,371,391,393,447,457,458,626,627,628]
theorem vm_reckoned : Go.Ev.runF Tryz.prog vmTys vmFns 415 100000 3 [] Go.Ev.isTrue = true := by kernel_rfl
theorem vm_mixed : Tryz.prog.follows .mixedOrders = true := by kernel_rfl
theorem vm_escape (x : Value) (w : World) : (callFunc 415 #[x]).run Tryz.prog w = .ok (.value x) w := by kernel_rfl
theorem vm_walk (w : World) : Calls Tryz.prog 3 #[] w fun e w' => e = .returned (.bool true) ∧ Go.Ev.Kept w w' := by
  have h := vm_reckoned
  rw [Go.Ev.runF_eq] at h
  exact Go.Ev.runK_true vm_mixed (by decide) vm_escape Tryz.func3 (by kernel_rfl) (by kernel_rfl) h w
end Go.Proofs.YtdfbcjoopkiaeaaGreatDoor
