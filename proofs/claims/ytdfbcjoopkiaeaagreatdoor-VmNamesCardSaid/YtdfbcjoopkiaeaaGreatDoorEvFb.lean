/-
  A reckoner for the program's form over abstract values and memory, run by the kernel, and its proof: if it answers, the form's own run answers so, whatever the tape. Part EvFb. No condition.
-/
import Derived.Test.YtdfbcjoopkiaeaaGreatDoorEvFa
import Derived.Shaped
import Derived.LaidLaws
noncomputable section
namespace Go.Ev

/-! ## The shape of a world's variables, looked at in one pass -/
def zipOK (P : Program) : List TypeId → List Value → Bool
  | [], [] => true
  | u :: us, v :: vs => and (Cell.okB P u v) (zipOK P us vs)
  | _, _ => false
def rowLin (P : Program) (t : TypeId) (cs : Array Value) : Bool := match P.cellTypes P.depth t with
  | some ts => zipOK P ts cs.toList
  | none => false
theorem zipOK_spec {P : Program} : ∀ {us : List TypeId} {vs : List Value}, zipOK P us vs = true → us.length = vs.length ∧ ∀ (i : Nat) v, vs[i]? = some v → ∃ u, us[i]? = some u ∧ Cell.okB P u v = true
  | [], [], _ => ⟨rfl, by simp⟩
  | [], _ :: _, h => by cases h
  | _ :: _, [], h => by cases h
  | u :: us, v :: vs, h => by
    simp only [zipOK, Bool.and_eq_true] at h
    obtain ⟨h1, h2⟩ := zipOK_spec h.2
    refine ⟨by simp [h1], fun i x hx => ?_⟩
    cases i with
    | zero =>
      simp at hx
      subst hx
      exact ⟨u, rfl, h.1⟩
    | succ i => simpa using h2 i x (by simpa using hx)
theorem rowLin_ok {P : Program} {w : World} {r : Reach} {base : Nat} {t : TypeId} {cs : Array Value} (h : rowLin P t cs = true) : Row.ok P w r base t cs := by
  unfold rowLin at h
  split at h
  · rename_i ts hts
    obtain ⟨h1, h2⟩ := zipOK_spec h
    have h1 : ts.length = cs.size := by rw [h1]; simp
    refine ⟨ts, hts, ⟨1, by rw [Nat.one_mul, h1]⟩, fun i v hv => ?_⟩
    have hi : i < cs.size := (Array.getElem?_eq_some_iff.1 hv).1
    obtain ⟨u, h3, h4⟩ := h2 i v (by rw [Array.getElem?_toList]; exact hv)
    exact ⟨u, by rw [Nat.mod_eq_of_lt (by omega)]; exact h3, Cell.ok_of_okB h4⟩
  · cases h
def varLin (P : Program) (w : World) (g : Nat) : Bool :=
  match (((begin P (fun _ _ => 0) default).world).heap[g]?).bind Obj.row? with
  | none => true
  | some (zero, t) =>
    match w.heap[g]? with
    | some (.cells cs t' frozen) => decide (t' = t) && decide (frozen = (0, 0)) && cs.size == zero.size && (!P.buildable t || rowLin P t cs)
    | _ => false
theorem shaped_of_lin {P : Program} {w : World} (hv : ((List.range P.globals.size).all fun g => varLin P w g) = true)
    (hr : (w.heap.toList.drop P.globals.size).take ((begin P (fun _ _ => 0) default).world.heap.size - P.globals.size) =
      (begin P (fun _ _ => 0) default).world.heap.toList.drop P.globals.size) : w.Shaped P := by
  refine ⟨fun g zero t hg hz => ?_, fun k h1 h2 => ?_⟩
  case refine_2 =>
    have := congrArg (·[k - P.globals.size]?) hr
    simp only [List.getElem?_take, List.getElem?_drop, Array.getElem?_toList] at this
    rw [if_pos (by omega), Nat.add_sub_cancel' h1] at this
    exact this
  simp only [List.all_eq_true, List.mem_range] at hv
  have := hv g hg
  unfold varLin at this
  rw [hz] at this
  simp only at this
  split at this
  · rename_i cs t' fr hw
    simp only [Bool.and_eq_true, decide_eq_true_eq, beq_iff_eq, Bool.or_eq_true, Bool.not_eq_true'] at this
    obtain ⟨⟨⟨rfl, rfl⟩, hs⟩, hb⟩ := this
    refine ⟨cs, hw, hs, fun hbuild => ?_⟩
    rcases hb with hb | hb
    · rw [hbuild] at hb; cases hb
    · exact rowLin_ok hb
  · cases this
end Go.Ev
