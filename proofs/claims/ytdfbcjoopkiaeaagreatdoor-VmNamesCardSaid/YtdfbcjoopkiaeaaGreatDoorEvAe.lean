/-
  A reckoner for the program's form over abstract values and memory, run by the kernel, and its proof: if it answers, the form's own run answers so, whatever the tape. Part EvAe. No condition.
-/
import Derived.Test.YtdfbcjoopkiaeaaGreatDoorEvAd
import GoSem.ClaimChange
noncomputable section
namespace Go.Ev

/-! ## A closed call, reckoned -/
def envOf (P : Program) (TT : Tr TI) (FF : Tr Func) (esc : Nat) : Env := ⟨P, TT, FF, Tr.set 1 32 .nil esc, .nil⟩
def runK (P : Program) (tys fns : List Nat) (esc n f : Nat) (args : List AV) (k : KM) : Bool :=
  addTys P tys .nil fun TT => addFns P fns .nil fun FF => callK (envOf P TT FF esc) (drawK (envOf P TT FF esc)) n f args ⟨0, .nil⟩ k
def isTrue : KM := fun v _ => match v with | .bool true => true | _ => false
/-- All that lay there lies there as before. -/
def Kept (w w' : World) : Prop := w'.os = w.os ∧ w'.output = w.output ∧ w.heap.size ≤ w'.heap.size ∧ ∀ i, i < w.heap.size → w'.heap[i]? = w.heap[i]?
theorem Kept.but {w w' : World} (h : Kept w w') (may : MemPlace → Prop) : w.keptBut w' may := by
  refine ⟨h.1, h.2.1, fun i hi => ?_⟩
  rw [h.2.2.2 i hi]
  cases ho : w.heap[i]? with
  | none => rfl
  | some o =>
    cases o <;> simp
theorem kept_of {w w' : World} {G : Nat → Option Blk} {φ : Nat → Option Nat} {κ : Nat → Nat} {m : Nat → Option Blk} {nx : Nat} (h : MRel ⟨w, fun _ => none⟩ (fun c => w.heap[c]?) G φ κ m nx w') : Kept w w' := by
  have hk : ∀ i, i < w.heap.size → w'.heap[i]? = w.heap[i]? := fun i hi => by
    rw [(h.pro i w.heap[i] (by simp [hi])).1]
    simp [hi]
  refine ⟨h.os, h.output, ?_, hk⟩
  rcases Nat.lt_or_ge 0 w.heap.size with h0 | h0
  · have h1 := hk (w.heap.size - 1) (by omega)
    have hlt : w.heap.size - 1 < w.heap.size := by omega
    rw [Array.getElem?_eq_getElem (xs := w.heap) hlt] at h1
    exact Nat.le_of_pred_lt (lt_of_heap h1)
  · rw [show w.heap.size = 0 from Nat.le_zero.1 h0]
    exact Nat.zero_le _
theorem start_rel (w : World) : MRel ⟨w, fun _ => none⟩ (fun c => w.heap[c]?) (fun _ => none) (fun _ => none) (fun _ => 0) (Mem.get ⟨0, .nil⟩) 0 w :=
  ⟨rfl, rfl, rfl, fun b c B hb => (by cases hb), fun b c hb => (by cases hb), fun b b' c B B' hb => (by cases hb), fun b B hb => (by cases hb), fun c o hc => ⟨hc, fun b hb => (by cases hb)⟩, fun g l hg => (by cases hg), fun b c hb => (by cases hb)⟩
theorem runK_sound {P : Program} {tys fns : List Nat} {esc n f : Nat} {args : List AV} {k : KM} (hm : P.follows .mixedOrders = true) (hlt : esc < 2 ^ 32 - 1) (hX : ∀ x w, (callFunc esc #[x]).run P w = .ok (.value x) w)
    (h : runK P tys fns esc n f args k = true) (w : World) : ∃ v M', k v M' = true ∧ ∀ xs, LRel (fun _ => none) (fun _ => 0) args xs →
      Does P ((callFunc f xs.toArray).run P w) (After ⟨w, fun _ => none⟩ (fun c => w.heap[c]?) (fun _ => none) (fun _ => none) (fun _ => 0) M' v) := by
  unfold runK at h
  obtain ⟨TT, h1, h2⟩ := addTys_sound h (fun t ti e => by simp [Tr.get_nil] at e)
  obtain ⟨FF, h3, h4⟩ := addFns_sound h1 (fun t ti e => by simp [Tr.get_nil] at e)
  have hE : EnvOK (envOf P TT FF esc) ⟨w, fun _ => none⟩ := ⟨h2, h4, fun g l e => by simp [envOf, Tr.get_nil] at e⟩
  have hX' : ExtOK (envOf P TT FF esc) := fun g hg x w => by
    simp only [envOf] at hg
    rw [Tr.get_set _ _ _ _ _ hlt] at hg
    split at hg
    · rename_i e; subst e; exact hX x w
    · simp [Tr.get_nil] at hg
  obtain ⟨v, M', h5, _, h6⟩ := callK_sound hE hX' (drawK_sound hE hm) n f args _ _ h3
  exact ⟨v, M', h5, fun xs hx => h6 _ _ _ _ w xs (start_rel w) hx⟩
theorem runK_true {P : Program} {tys fns : List Nat} {esc n f : Nat} {fn : Func} (hm : P.follows .mixedOrders = true) (hlt : esc < 2 ^ 32 - 1) (hX : ∀ x w, (callFunc esc #[x]).run P w = .ok (.value x) w)
    (hf : P.funcs[f]? = some fn) (hb : fn.body.isNone = false) (hn : (fn.name == "runtime.NumGoroutine") = false)
    (h : runK P tys fns esc n f [] isTrue = true) (w : World) : Calls P f #[] w fun e w' => e = .returned (.bool true) ∧ Kept w w' := by
  obtain ⟨v, M', h1, h2⟩ := runK_sound hm hlt hX h w
  have h3 := h2 [] LRel.nil
  have hcall : (callFunc f #[]).run P w = .ok (.enter f #[]) w := by
    simp only [callFunc, Sem.run_bind, run_program, Result.andThen_ok, hf, hn, hb, Bool.false_eq_true, if_false, Sem.run_pure]
  have h4 : Does P ((callFunc f #[]).run P w) (After ⟨w, fun _ => none⟩ (fun c => w.heap[c]?) (fun _ => none) (fun _ => none) (fun _ => 0) M' v) := h3
  rw [hcall] at h4
  refine Calls.mono h4 fun e w' he => ?_
  obtain ⟨x, rfl, φ', κ', _, hmr, hv⟩ := he
  unfold isTrue at h1
  split at h1
  · simp only [VRel] at hv
    subst hv
    exact ⟨rfl, kept_of hmr⟩
  · cases h1
end Go.Ev
