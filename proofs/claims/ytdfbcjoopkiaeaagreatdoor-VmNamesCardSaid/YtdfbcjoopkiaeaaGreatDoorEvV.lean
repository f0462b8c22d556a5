/-
  A reckoner for the program's form over abstract values and memory, run by the kernel, and its proof: if it answers, the form's own run answers so, whatever the tape. Part EvV. No condition.
-/
import Derived.Test.YtdfbcjoopkiaeaaGreatDoorEvU
noncomputable section
namespace Go.Ev

variable {X : Fix} {Pr : Nat → Option Obj} {G : Nat → Option Blk} {φ : Nat → Option Nat} {κ : Nat → Nat} {m : Nat → Option Blk} {nx : Nat} {w : World} {E : Env}

/-! ## Temporaries, and plain regions -/
structure TRel (φ : Nat → Option Nat) (κ : Nat → Nat) (N : Nat) (T : Tr AV) (a : Act) : Prop where
  size : a.tmps.size = N
  defers : a.defers = []
  sm : ∀ t u, T.get t = some u → t < N ∧ VRel φ κ u (a.tmps.getD t undef)
  nn : ∀ t, T.get t = none → a.tmps.getD t undef = undef
theorem TRel.mono {φ' : Nat → Option Nat} {κ' : Nat → Nat} {N : Nat} {T : Tr AV} {a : Act} (h : TRel φ κ N T a) (he : Ext φ κ φ' κ') : TRel φ' κ' N T a :=
  ⟨h.size, h.defers, fun t u ht => ⟨(h.sm t u ht).1, (h.sm t u ht).2.mono he⟩, h.nn⟩
theorem TRel.ops {N : Nat} {T : Tr AV} {a : Act} (h : TRel φ κ N T a) (l : List Operand) : Ops φ κ T a.eval l := by
  intro x _ u hu
  cases x with
  | tmp t => exact (h.sm t u hu).2
  | const v => exact hu φ κ
  | global g =>
    rw [show u = .gptr g 0 from hu]
    simp only [VRel, Act.eval]
  | func f =>
    rw [show u = .func (.func f) [] [] from hu]
    simp only [VRel, Act.eval]
    exact ⟨#[], #[], rfl, LRel.nil, LRel.nil⟩
theorem setDst_sound {T : Tr AV} {N : Nat} {d : Option Nat} {v : AV} {k : Tr AV → Bool} (h : setDst T N d v k = true) :
    ∃ T', k T' = true ∧ (∀ j, d = some j → j < N) ∧ (∀ j, T'.get j = if d = some j then some v else T.get j) := by
  unfold setDst at h
  split at h
  · exact ⟨T, h, fun j e => (by cases e), fun j => by simp⟩
  · rename_i d
    obtain ⟨h1, h2⟩ := guardB_true h
    obtain ⟨T', h3, h4⟩ := put_sound h2
    refine ⟨T', h3, fun j e => ?_, fun j => ?_⟩
    · cases e; exact Nat.le_of_ble_eq_true h1
    · rw [h4]
      by_cases e : d = j
      · simp [e]
      · simp [e]
theorem TRel.put {N : Nat} {T T' : Tr AV} {a : Act} {d : Option Nat} {v : AV} {x : Value} (h : TRel φ κ N T a) (hd : ∀ j, d = some j → j < N) (hT : ∀ j, T'.get j = if d = some j then some v else T.get j) (hv : VRel φ κ v x) :
    TRel φ κ N T' (a.put d x) := by
  cases d with
  | none =>
    refine ⟨h.size, h.defers, fun t u ht => ?_, fun t ht => ?_⟩
    · rw [hT] at ht; exact h.sm t u (by simpa using ht)
    · rw [hT] at ht; exact h.nn t (by simpa using ht)
  | some d =>
    have hdN := hd d rfl
    have hg : ∀ t, (a.tmps.setIfInBounds d x).getD t undef = if d = t then x else a.tmps.getD t undef := by
      intro t
      simp only [Array.getD_eq_getD_getElem?, Array.getElem?_setIfInBounds]
      by_cases e : d = t
      · subst e
        rw [if_pos rfl, if_pos rfl, if_pos (by rw [h.size]; exact hdN)]; rfl
      · rw [if_neg e, if_neg e]
    refine ⟨by simp only [Act.put, Array.size_setIfInBounds]; exact h.size, h.defers, fun t u ht => ?_, fun t ht => ?_⟩
    · rw [hT] at ht
      simp only [Act.put, hg]
      by_cases e : d = t
      · subst e
        rw [if_pos rfl] at ht; cases ht
        rw [if_pos rfl]
        exact ⟨hdN, hv⟩
      · rw [if_neg (by simpa using e)] at ht
        rw [if_neg e]
        exact h.sm t u ht
    · rw [hT] at ht
      simp only [Act.put, hg]
      by_cases e : d = t
      · subst e
        rw [if_pos rfl] at ht; cases ht
      · rw [if_neg (by simpa using e)] at ht
        rw [if_neg e]
        exact h.nn t ht
theorem guardK_sound {ops : Array Oper} {T : Tr AV} {o : Oper} {yes no : Bool} (h : guardK ops.toList T o.guard yes no = true) :
    (yes = true ∧ ∀ φ κ N a, TRel φ κ N T a → Region.wanted o (yielded ops a.tmps) = true) ∨ (no = true ∧ ∀ φ κ N a, TRel φ κ N T a → Region.wanted o (yielded ops a.tmps) = false) := by
  unfold guardK at h
  split at h
  · rename_i hg
    exact .inl ⟨h, fun φ κ N a _ => by simp [Region.wanted, hg]⟩
  · rename_i j want hg
    unfold dstOf at h
    obtain ⟨o', h1, h2⟩ := nthK_sound h
    split at h2
    · rename_i d hd
      obtain ⟨u, h3, h4⟩ := getT_sound h2
      have hy : ∀ φ κ N a, TRel φ κ N T a → VRel φ κ u (a.tmps.getD d undef) ∧ yielded ops a.tmps j = (match a.tmps.getD d undef with | .bool b => some b | _ => none) := by
        intro φ κ N a ha
        obtain ⟨h5, h6⟩ := ha.sm d u h4
        refine ⟨h6, ?_⟩
        have ho : ops[j]? = some o' := by rw [← h1, Array.getElem?_toList]
        have hlt : d < a.tmps.size := by rw [ha.size]; exact h5
        have e1 : a.tmps[d]? = some a.tmps[d] := Array.getElem?_eq_getElem hlt
        have e2 : a.tmps.getD d undef = a.tmps[d] := by simp [Array.getD, hlt]
        rw [e2]
        simp only [yielded, ho, Option.bind_some, hd, e1]
        cases a.tmps[d] <;> rfl
      split at h3
      · refine .inl ⟨h3, fun φ κ N a ha => ?_⟩
        obtain ⟨h5, h6⟩ := hy φ κ N a ha
        simp only [VRel] at h5
        rw [h5] at h6
        simp [Region.wanted, hg, h6]
      · refine .inl ⟨h3, fun φ κ N a ha => ?_⟩
        obtain ⟨h5, h6⟩ := hy φ κ N a ha
        simp only [VRel] at h5
        rw [h5] at h6
        simp [Region.wanted, hg, h6]
      · refine .inr ⟨h3, fun φ κ N a ha => ?_⟩
        obtain ⟨h5, h6⟩ := hy φ κ N a ha
        simp only [VRel] at h5
        rw [h5] at h6
        simp [Region.wanted, hg, h6]
      · refine .inr ⟨h3, fun φ κ N a ha => ?_⟩
        obtain ⟨h5, h6⟩ := hy φ κ N a ha
        simp only [VRel] at h5
        rw [h5] at h6
        simp [Region.wanted, hg, h6]
      · refine .inr ⟨h3, fun φ κ N a ha => ?_⟩
        obtain ⟨h5, h6⟩ := hy φ κ N a ha
        simp only [VRel] at h5
        obtain ⟨l, h5, _⟩ := h5
        rw [h5] at h6
        simp [Region.wanted, hg, h6]
      · cases h3
    · cases h2
theorem opsK_cons (E : Env) (call : CallK) (all : List Oper) (N : Nat) (o : Oper) (l : List Oper) (T : Tr AV) (M : Mem) (k : Tr AV → Mem → Bool) :
    opsK E call all N (o :: l) T M k = guardK all T o.guard (opK E call T o M fun v M => setDst T N o.dst v fun T => opsK E call all N l T M k) (setDst T N o.dst (.tup []) fun T => opsK E call all N l T M k) := rfl
theorem opsK_sound (hE : EnvOK E X) {call : CallK} (hc : CallOK E X call) {ops : Array Oper} {N : Nat} : ∀ {l : List Oper} {T : Tr AV} {M : Mem} {k : Tr AV → Mem → Bool}, opsK E call ops.toList N l T M k = true →
    ∃ T' M', k T' M' = true ∧ M.next ≤ M'.next ∧ ∀ Pr G φ κ a w Q, MRel X Pr G φ κ M.get M.next w → TRel φ κ N T a →
      (∀ φ' κ' a' w', Ext φ κ φ' κ' → MRel X Pr G φ' κ' M'.get M'.next w' → TRel φ' κ' N T' a' → Q .normal a' w') → wpList E.P ops Q l a w
  | [], T, M, k, h => ⟨T, M, h, Nat.le_refl _, fun Pr G φ κ a w Q hm ht hQ => hQ φ κ a w (Ext.refl _ _) hm ht⟩
  | o :: l, T, M, k, h => by
    rw [opsK_cons] at h
    rcases guardK_sound h with ⟨h1, hw⟩ | ⟨h1, hw⟩
    · obtain ⟨v, M1, h2, h3, h4⟩ := opK_sound hE hc h1
      obtain ⟨T1, h5, h6, h7⟩ := setDst_sound h2
      obtain ⟨T', M', h8, h9, h10⟩ := opsK_sound hE hc h5
      refine ⟨T', M', h8, Nat.le_trans h3 h9, fun Pr G φ κ a w Q hm ht hQ => ?_⟩
      simp only [wpList, hw φ κ N a ht, if_true]
      refine .inl ((h4 Pr G φ κ a.eval w hm (ht.ops _)).upon o a fun x w' hx => ?_)
      obtain ⟨φ', κ', he, hm', hv⟩ := hx
      exact h10 Pr G φ' κ' _ w' Q hm' ((ht.mono he).put h6 h7 hv) fun φ2 κ2 a2 w2 he2 => hQ φ2 κ2 a2 w2 (he.trans he2)
    · obtain ⟨T1, h5, h6, h7⟩ := setDst_sound h1
      obtain ⟨T', M', h8, h9, h10⟩ := opsK_sound hE hc h5
      refine ⟨T', M', h8, h9, fun Pr G φ κ a w Q hm ht hQ => ?_⟩
      simp only [wpList, hw φ κ N a ht, Bool.false_eq_true, if_false]
      exact h10 Pr G φ κ _ w Q hm (ht.put h6 h7 (by simp only [VRel]; exact ⟨#[], rfl, LRel.nil⟩)) hQ
end Go.Ev
