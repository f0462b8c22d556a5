/-
  The row's computed cells are what the form reckons: one theorem a cell, then all together. No condition.
-/
import Derived.Test.YtdfbcjoopkiaeaaGreatDoorVmFacts
import Derived.Test.YtdfbcjoopkiaeaaGreatDoorRows
import Derived.JoinedOf
namespace Go.Proofs.YtdfbcjoopkiaeaaGreatDoor
open Go
theorem vm_c0 : (Rows.vmNamesRow.wf (OpenSpec.ofChange Rows.vmNamesSpec)) = true := by kernel_rfl
theorem vm_c1 : (laidOutB Tryz.prog) = true := by kernel_rfl
theorem vm_c2 : (mapsRowed Tryz.prog) = true := by kernel_rfl
theorem vm_c3 : (Tryz.f3.params.all (Tryz.prog.readableRec ·)) = true := by kernel_rfl
theorem vm_c4 : (namedTie Tryz.prog Rows.vmNamesRow.named Rows.vmNamesSpec.vars) = true := by kernel_rfl
theorem vm_c5 : ((Rows.vmNamesRow.stops == [])) = true := by kernel_rfl
theorem vm_c6 : ((Tryz.prog.stops == [])) = true := by kernel_rfl
theorem vm_c7 : ((Rows.vmNamesRow.knobs == [])) = true := by kernel_rfl
theorem vm_c8 : ((Tryz.prog.stopKnobs == [])) = true := by kernel_rfl
theorem vm_c9 : (Rows.vmNamesRow.inPlace == Tryz.prog.inPlace 3) = true := by
  rw [vm_inPlace]
  kernel_rfl
theorem vm_c10 : (Rows.vmNamesRow.unfollowed == Tryz.prog.unfollowed 3) = true := by
  rw [vm_unfollowed]
  kernel_rfl
theorem vm_c11 : (Rows.vmNamesRow.recurses == Tryz.prog.recurses 3) = true := by
  rw [vm_recurses]
  kernel_rfl
theorem vm_c12 : (Rows.vmNamesRow.named == Tryz.prog.varsNamed 3) = true := by
  rw [vm_named]
  kernel_rfl
theorem vm_c13 : ((Rows.vmNamesRow.maps == (Tryz.f3.params.toList ++ Rows.vmNamesSpec.plain.varTypes Tryz.prog).any (Tryz.prog.mapsRec ·))) = true := by kernel_rfl
theorem vm_c14 : ((Rows.vmNamesRow.ifaces == (Tryz.f3.params.toList ++ Rows.vmNamesSpec.plain.varTypes Tryz.prog).any (Tryz.prog.ifacesRec ·))) = true := by kernel_rfl
theorem vm_c15 : ((Rows.vmNamesRow.mapsOut == Tryz.prog.mapsAmong Tryz.f3.resultTypes.toList)) = true := by kernel_rfl
theorem vm_c16 : ((Rows.vmNamesRow.loops == (Tryz.f3.params.toList ++ Rows.vmNamesSpec.plain.varTypes Tryz.prog).any (Tryz.prog.loopsFrom ·))) = true := by kernel_rfl
theorem vm_c17 : ((Rows.vmNamesRow.wideKeys == (Tryz.f3.params.toList ++ Rows.vmNamesSpec.plain.varTypes Tryz.prog ++ Tryz.f3.resultTypes.toList).any (Tryz.prog.wideKeysFrom ·))) = true := by kernel_rfl
theorem vm_c18 : (Rows.vmNamesSpec.vars.all (Tryz.prog.varReadable ·)) = true := by kernel_rfl
theorem vm_c19 : (Tryz.f3.resultTypes.all (fun t => Tryz.prog.readableRec t && decide (t < Tryz.prog.types.size))) = true := by kernel_rfl
theorem vm_c20 : ((Rows.vmNamesRow.ifacesOut == Tryz.f3.resultTypes.toList.any (Tryz.prog.ifacesRec ·))) = true := by kernel_rfl
theorem vm_c21 : ((Rows.vmNamesRow.loopsOut == Tryz.f3.resultTypes.toList.any (Tryz.prog.loopsFrom ·))) = true := by kernel_rfl
theorem vm_c22 : ((Rows.vmNamesRow.plainKeys == Tryz.prog.plainKeys)) = true := by kernel_rfl
theorem vm_c23 : (Rows.vmNamesRow.shortTexts.isNone) = true := by kernel_rfl
theorem vm_c24 : (Tryz.prog.stopsHeard) = true := by kernel_rfl
theorem vm_c25 : (Tryz.prog.mayEnter) = true := by kernel_rfl
theorem vm_c26 : ((Rows.vmNamesRow.lifted == Tryz.prog.liftsFinal)) = true := by kernel_rfl
theorem vm_c27 : ((Tryz.prog.make == some Rows.vmNamesRow.make)) = true := by kernel_rfl
theorem vm_c28 : ((Rows.vmNamesRow.kinds == (if Rows.vmNamesRow.domain.isEmpty then [] else Tryz.f3.params.toList.map fun t => match Tryz.prog.underlying t with | some (.int k) => some k | _ => Option.none))) = true := by kernel_rfl
theorem vm_c29 : ((Rows.vmNamesRow.pinned == Rows.vmNamesRow.pinnedBy)) = true := by kernel_rfl
theorem vm_c30 : ((Rows.vmNamesRow.veiled == (Tryz.f3.params.toList ++ Rows.vmNamesSpec.plain.varTypes Tryz.prog ++ Tryz.f3.resultTypes.toList).any (Tryz.prog.veiledRec ·))) = true := by kernel_rfl
theorem vm_c31 : (Rows.vmNamesRow.veiledFits Tryz.prog Tryz.f3.params.toList (Tryz.f3.params.toList ++ Rows.vmNamesSpec.plain.varTypes Tryz.prog ++ Tryz.f3.resultTypes.toList)) = true := by kernel_rfl
set_option maxRecDepth 100000 in
theorem vm_closed : joinedFacts Tryz.prog 3 Tryz.f3 Rows.vmNamesSpec Rows.vmNamesRow = true := by
  unfold joinedFacts
  simp only [Bool.and_eq_true]
  exact ⟨⟨⟨⟨⟨⟨⟨⟨⟨⟨⟨⟨⟨⟨⟨⟨⟨⟨⟨⟨⟨⟨⟨⟨⟨⟨⟨⟨⟨⟨⟨vm_c0, vm_c1⟩, vm_c2⟩, vm_c3⟩, vm_c4⟩, vm_c5⟩, vm_c6⟩, vm_c7⟩, vm_c8⟩, vm_c9⟩, vm_c10⟩, vm_c11⟩, vm_c12⟩, vm_c13⟩, vm_c14⟩, vm_c15⟩, vm_c16⟩, vm_c17⟩, vm_c18⟩, vm_c19⟩, vm_c20⟩, vm_c21⟩, vm_c22⟩, vm_c23⟩, vm_c24⟩, vm_c25⟩, vm_c26⟩, vm_c27⟩, vm_c28⟩, vm_c29⟩, vm_c30⟩, vm_c31⟩
end Go.Proofs.YtdfbcjoopkiaeaaGreatDoor
