/-
  The given statement Rows.VmNamesCardSaid: the Go function VmNames returns true, whatever memory it is called in; nothing that lay there is changed. Conditions: the row's own: the two listed variables read as listed (tied to the program's text by the card); the walk never reads them.
-/
import Derived.Test.YtdfbcjoopkiaeaaGreatDoorRows
import Derived.Test.YtdfbcjoopkiaeaaGreatDoorCards
import Derived.Test.YtdfbcjoopkiaeaaGreatDoorVmWalk
import Derived.Test.YtdfbcjoopkiaeaaGreatDoorVmTieC
import Derived.Test.YtdfbcjoopkiaeaaGreatDoorVmClosed
import Derived.Test.YtdfbcjoopkiaeaaGreatDoorEvFb
import Derived.ProofKit
import Derived.LaidMore
import Derived.OpenShut
import Derived.Handed
import Derived.Stop.Joined
import Derived.SevenTiedAt

namespace Go.Proofs.YtdfbcjoopkiaeaaGreatDoor
open Go Go.ChangeShapes Go.WideShapes Go.ChangeAt Go.RowKit
def vmTab32 : List Nat := [0, 1, 28, 2, 29, 14, 24, 3, 30, 22, 20, 15, 25, 17, 4, 8, 31, 27, 13, 23, 21, 19, 16, 7, 26, 12, 18, 6, 11, 5, 10, 9]
def vmTab64 : List Nat := [0, 1, 56, 2, 57, 49, 28, 3, 61, 58, 42, 50, 38, 29, 17, 4, 62, 47, 59, 36, 45, 43, 51, 22, 53, 39, 33, 30, 24, 18, 12, 5, 63, 55, 48, 27, 60, 41, 37, 16, 46, 35, 44, 21, 52, 32, 23, 11, 54, 26, 40, 15, 34, 20, 31, 10, 25, 14, 19, 9, 13, 8, 7, 6]
def vmBytes (l : List Nat) : Array Value := (l.map fun n => Value.int .u8 (.ofNat n)).toArray
/-- A world in which the two listed variables hold what they are listed with: the settled one, two variables' cells laid. -/
noncomputable def vmWorld (os : Os) : World :=
  let w0 := World.holding Tryz.prog os ⟨#[], #[], []⟩
  { w0 with heap := (w0.heap.modify 13 fun
      | .cells _ t frozen => .cells (vmBytes vmTab32) t frozen
      | o => o).modify 14 fun
      | .cells _ t frozen => .cells (vmBytes vmTab64) t frozen
      | o => o }
theorem vm_own : ownKnob Tryz.prog.godebug = none := by kernel_rfl
theorem vm_vars (os : Os) : ((List.range Tryz.prog.globals.size).all fun g => Go.Ev.varLin Tryz.prog ((vmWorld os).forCall (fun _ _ => 0) ⟨#[], #[], []⟩) g) = true := by kernel_rfl
theorem vm_rest (os : Os) : (((vmWorld os).forCall (fun _ _ => 0) ⟨#[], #[], []⟩).heap.toList.drop Tryz.prog.globals.size).take ((begin Tryz.prog (fun _ _ => 0) default).world.heap.size - Tryz.prog.globals.size) =
      (begin Tryz.prog (fun _ _ => 0) default).world.heap.toList.drop Tryz.prog.globals.size := by kernel_rfl
theorem vm_ok (os : Os) : Input.okWideB Tryz.prog ((vmWorld os).forCall (fun _ _ => 0) ⟨#[], #[], []⟩) 3 ⟨#[], #[], []⟩ = true := by kernel_rfl
theorem vm_pre (os : Os) {H : Type} (enc : TypeId × Value → H) : Rows.vmNamesSpec.preB enc Tryz.prog Tryz.f3 [] false ((vmWorld os).forCall (fun _ _ => 0) ⟨#[], #[], []⟩).memory #[] 8 = true := by kernel_rfl
theorem vm_sized (os : Os) {H : Type} (enc : TypeId × Value → H) : Rows.vmNamesSpec.sizedB enc Tryz.prog Tryz.f3 false ((vmWorld os).forCall (fun _ _ => 0) ⟨#[], #[], []⟩).memory #[] 8 = true := by kernel_rfl
theorem vm_met (os : Os) (args : Array Value) : laidMetH Tryz.prog Rows.vmNamesRow.laid ((vmWorld os).forCall (fun _ _ => 0) ⟨#[], args, []⟩).memory :=
  laidMetH_of_parts3 (fuel := 8) (laidMet_of_run' 8 (by kernel_rfl) (by kernel_rfl)) (by kernel_rfl) (by kernel_rfl)

set_option maxRecDepth 100000 in
theorem vm_lifted (os : Os) (started : os.Started) (H : Type) (enc : TypeId × Value → H) :
    ReturnsInHanded {} Tryz.checked os 3 .any (fun w args => (Rows.vmNamesSpec.pre enc Tryz.prog Tryz.f3 [] false w args ∧ laidMetH Tryz.prog Rows.vmNamesRow.laid w) ∧ sizedMet enc Tryz.prog Tryz.f3 (OpenSpec.ofChange Rows.vmNamesSpec) false w args)
      (Rows.vmNamesSpec.post enc Tryz.prog Tryz.f3 false true false false) := by
  refine returnsInHanded_of_change_and (C := Tryz.checked) (X := fun w _ => laidMetH Tryz.prog Rows.vmNamesRow.laid w) (fun _ _ _ hh h => h.of_heap hh) vm_own started (by kernel_rfl) Tryz.func3
    (ChangeSpec.witness_shaped (enc := enc) (C := Tryz.checked) (os := os) (X := fun w _ => laidMetH Tryz.prog Rows.vmNamesRow.laid w) false (vmWorld os) #[] 8 rfl (Go.Ev.shaped_of_lin (vm_vars os) (vm_rest os)) (vm_ok os) (vm_pre os enc) (vm_sized os enc) (vm_met os _)) ?_
  intro W base args ds gs before hval0 hW _ _ _ _
  have hW' := hW
  obtain ⟨p, q, hA0, hV0, rfl, hfz, hnd⟩ := hW
  have hA : DataW.TrodAll enc Tryz.prog W 0 (fun _ => true) true Tryz.f3.params.toList args.toList ds p := hA0
  rw [Tryz.params3] at hA
  obtain ⟨ha, rfl, rfl⟩ := trodAll_nil hA
  obtain rfl : args = #[] := by cases args; simp_all
  obtain ⟨rfl, rfl⟩ := trodVars_none hV0
  refine (vm_walk W).mono fun e W' ⟨he, hw⟩ => ?_
  subst he
  refine ⟨_, rfl, _, _, _, [], [], [], hW', ?_, ?_, ?_, hw.but _, fun h => by cases h⟩
  · exact trodAll_mk1 (shut_bool Tryz.underlying4 true)
  · exact trodAll_mk0
  · rfl

theorem vmNames_row : Rows.VmNamesSaid :=
  OpenClaim.holds_of_wide 3 Tryz.f3 rfl rfl rfl rfl rfl rfl rfl ⟨rfl, rfl, rfl, rfl, rfl⟩ rfl rfl rfl rfl rfl (by kernel_rfl) Tryz.func3 vm_closed
    (of_decide_eq_true (by kernel_rfl)) (by unfold Func.isWrapper; first | (rw [if_pos (by decide +kernel)]; kernel_rfl) | (rw [if_neg (by decide +kernel)]; exact ⟨rfl, rfl⟩))
    (fun os started H enc _ => vm_lifted os started H enc)

theorem vmNames_card : Rows.VmNamesCardSaid :=
  Claim7.holds_tied_plain_at .later [] [.data, .data] true (true, "e07c90f6d5b16c306bbf9b9cb5207245b387f382aac0f149ed2d84cc343bf389") true
    vmNames_row (fun _ h => by cases h) (by kernel_rfl) (fun _ h => by cases h) vm_row_tie rfl ⟨rfl, rfl⟩ (by kernel_rfl) rfl
    (fun f fn hf hfn => by
      obtain rfl : f = 3 := Option.some.inj ((show Tryz.prog.funcNamed "distaff/distafflaw22.VmNames" = some 3 by kernel_rfl).symm.trans hf) |>.symm
      obtain rfl : fn = Tryz.f3 := (Option.some.inj (Tryz.func3.symm.trans hfn)).symm
      exact ⟨by kernel_rfl, fun j t ht => by
        rw [Tryz.params3] at ht
        simp at ht⟩)
    (Go.Ev.goesBy_none rfl vm_goes)
end Go.Proofs.YtdfbcjoopkiaeaaGreatDoor
