/-
  A reckoner for the program's form over abstract values and memory, run by the kernel, and its proof: if it answers, the form's own run answers so, whatever the tape. Part EvU. No condition.
-/
import Derived.Test.YtdfbcjoopkiaeaaGreatDoorEvT
noncomputable section
namespace Go.Ev

variable {X : Fix} {Pr : Nat → Option Obj} {G : Nat → Option Blk} {φ : Nat → Option Nat} {κ : Nat → Nat} {m : Nat → Option Blk} {nx : Nat} {w : World} {E : Env}

theorem funcK_sound {call : CallK} (hc : CallOK E X call) {f : AV} {args : List AV} {M : Mem} {k : KM} (h : funcK call f args M k = true) :
    ∃ v M', k v M' = true ∧ M.next ≤ M'.next ∧ ∀ Pr G φ κ w y xs, MRel X Pr G φ κ M.get M.next w → VRel φ κ f y → LRel φ κ args xs →
      Does E.P ((do let d ← Deferred.ofValue y xs.toArray; invoke d.target d.args : Sem Next).run E.P w) (After X Pr G φ κ M' v) := by
  unfold funcK at h
  split at h
  · rename_i g first captured
    rw [appK_eq, appK_eq] at h
    obtain ⟨v, M', h1, h2, h3⟩ := hc _ _ _ _ h
    refine ⟨v, M', h1, h2, fun Pr G φ κ w y xs hm hy hx => ?_⟩
    simp only [VRel] at hy
    obtain ⟨f, c, rfl, hf, hcc⟩ := hy
    have := h3 Pr G φ κ w _ hm ((hf.append hx).append hcc)
    have he : (f.toList ++ xs ++ c.toList).toArray = f ++ xs.toArray ++ c := by
      apply Array.ext'
      simp
    rw [he] at this
    simpa only [Deferred.ofValue, Sem.run_bind, Sem.run_pure, Result.andThen_ok, invoke] using this
  · cases h
theorem map_list {α β : Type} (f : α → β) (a : Array α) : a.map f = (a.toList.map f).toArray := by
  apply Array.ext'
  simp
theorem optRel {u : Option AV} {y : Option Value} (h : match u, y with | none, none => True | some u, some y => VRel φ κ u y | _, _ => False) : ORel φ κ u y := by
  cases u <;> cases y <;> first | exact h.elim | rfl | exact ⟨_, rfl, h⟩
theorem opK_sound (hE : EnvOK E X) {call : CallK} (hc : CallOK E X call) {T : Tr AV} {o : Oper} {M : Mem} {k : KM} (h : opK E call T o M k = true) :
    ∃ v M', k v M' = true ∧ M.next ≤ M'.next ∧ ∀ Pr G φ κ ρ w, MRel X Pr G φ κ M.get M.next w → Ops φ κ T ρ o.op.operands.toList →
      Does E.P ((execOp ρ o).run E.P w) (After X Pr G φ κ M' v) := by
  unfold opK at h
  split at h
  · rename_i x hop
    obtain ⟨v, h1, h2⟩ := evalK_sound h
    refine ⟨v, M, h1, Nat.le_refl _, fun Pr G φ κ ρ w hm ho => ?_⟩
    rw [hop] at ho
    simp only [execOp, hop]
    exact ⟨φ, κ, Ext.refl _ _, hm, ho x (by simp [Op.operands]) v h2⟩
  · rename_i x hop
    obtain ⟨v, h1, h2⟩ := evalK_sound h
    refine ⟨v, M, h1, Nat.le_refl _, fun Pr G φ κ ρ w hm ho => ?_⟩
    rw [hop] at ho
    simp only [execOp, hop]
    exact ⟨φ, κ, Ext.refl _ _, hm, ho x (by simp [Op.operands]) v h2⟩
  · rename_i c a b hop
    obtain ⟨u, h1, h2⟩ := evalK_sound h
    split at h1
    · obtain ⟨v, h3, h4⟩ := evalK_sound h1
      refine ⟨v, M, h3, Nat.le_refl _, fun Pr G φ κ ρ w hm ho => ?_⟩
      rw [hop] at ho
      have hcc := ho c (by simp [Op.operands]) _ h2
      simp only [VRel] at hcc
      simp only [execOp, hop, hcc, asBool]
      exact ⟨φ, κ, Ext.refl _ _, hm, ho a (by simp [Op.operands]) v h4⟩
    · obtain ⟨v, h3, h4⟩ := evalK_sound h1
      refine ⟨v, M, h3, Nat.le_refl _, fun Pr G φ κ ρ w hm ho => ?_⟩
      rw [hop] at ho
      have hcc := ho c (by simp [Op.operands]) _ h2
      simp only [VRel] at hcc
      simp only [execOp, hop, hcc, asBool]
      exact ⟨φ, κ, Ext.refl _ _, hm, ho b (by simp [Op.operands]) v h4⟩
    · cases h1
  · -- alloc
    rename_i e hop
    obtain ⟨ti, i, d, z, h1, hti⟩ := tyK_sound hE h
    rw [lenK_eq, forceN_eq] at h1
    obtain ⟨M', h2, h3, h4⟩ := newBlk_sound h1
    refine ⟨_, M', h2, by omega, fun Pr G φ κ ρ w hm ho => ?_⟩
    have hr := hm.newRow (hti.zrel φ κ) e
    simp only [execOp, hop]
    refine does_val (φ' := upd φ M.next (some w.heap.size)) (κ' := upd κ M.next 0) (x := .pointer (some ⟨w.heap.size, 0, none⟩)) (w' := w.alloc (.cells z.cells e)) ?_ (hm.ext _ _) (by rw [h3, h4]; exact hr) ?_
    · simp only [Instr.alloc, Sem.run_bind, hti.run_zero, Result.andThen_ok]
      rfl
    · simp only [VRel]
      exact ⟨_, upd_same _ _ _, rfl⟩
  · -- box
    rename_i e x hop
    rw [forceN_eq] at h
    obtain ⟨v, h1, h2⟩ := evalK_sound h
    obtain ⟨M', h3, h4, h5⟩ := newVarK_sound h1
    refine ⟨_, M', h3, h4, fun Pr G φ κ ρ w hm ho => ?_⟩
    rw [hop] at ho
    obtain ⟨w', φ', κ', h6, h7, h8, h9⟩ := h5 E.P X Pr G φ κ w _ hm (ho x (by simp [Op.operands]) v h2)
    simp only [execOp, hop]
    refine does_val (x := .pointer (some ⟨w.heap.size, 0, none⟩)) (w' := w') ?_ h7 h8 (by simp only [VRel]; exact ⟨_, h9, rfl⟩)
    simp only [Instr.box, Sem.run_bind, h6, Result.andThen_ok, Sem.run_pure]
  · -- build
    rename_i t ps hop
    obtain ⟨us, h1, h2⟩ := evalPartsK_sound h
    obtain ⟨v, h3, h4⟩ := buildK_sound hE h1
    refine ⟨v, M, h3, Nat.le_refl _, fun Pr G φ κ ρ w hm ho => ?_⟩
    rw [hop] at ho
    obtain ⟨x, h5, h6⟩ := h4 φ κ w _ (h2 φ κ ρ (by simpa [Op.operands] using ho))
    simp only [execOp, hop, map_list]
    exact does_val h5 (Ext.refl _ _) hm h6
  · -- buildSlice
    rename_i t n ps hop
    obtain ⟨us, h1, h2⟩ := evalPartsK_sound h
    obtain ⟨v, M', h3, h4, h5⟩ := buildSliceK_sound hE h1
    refine ⟨v, M', h3, h4, fun Pr G φ κ ρ w hm ho => ?_⟩
    rw [hop] at ho
    obtain ⟨x, w', φ', κ', h6, h7, h8, h9⟩ := h5 Pr G φ κ w _ hm (h2 φ κ ρ (by simpa [Op.operands] using ho))
    simp only [execOp, hop, map_list]
    exact does_val h6 h7 h8 h9
  · -- load
    rename_i t a hop
    obtain ⟨u, h1, h2⟩ := evalK_sound h
    obtain ⟨v, h3, h4⟩ := loadK_sound hE h1
    refine ⟨v, M, h3, Nat.le_refl _, fun Pr G φ κ ρ w hm ho => ?_⟩
    rw [hop] at ho
    obtain ⟨x, h5, h6⟩ := h4 Pr G φ κ w _ hm (ho a (by simp [Op.operands]) u h2)
    simp only [execOp, hop]
    exact does_val h5 (Ext.refl _ _) hm h6
  · -- store
    rename_i t a x hop
    obtain ⟨u, h1, h2⟩ := evalK_sound h
    obtain ⟨v, h3, h4⟩ := evalK_sound h1
    obtain ⟨M', h5, h6, h7⟩ := storeAtK_sound hE h3
    refine ⟨_, M', h5, by omega, fun Pr G φ κ ρ w hm ho => ?_⟩
    rw [hop] at ho
    obtain ⟨w', h8, h9⟩ := h7 Pr G φ κ w _ _ hm (ho a (by simp [Op.operands]) u h2) (ho x (by simp [Op.operands]) v h4)
    simp only [execOp, hop]
    exact does_unit h8 h9
  · -- nilCheck
    rename_i x hop
    obtain ⟨u, h1, h2⟩ := evalK_sound h
    split at h1
    · refine ⟨_, M, h1, Nat.le_refl _, fun Pr G φ κ ρ w hm ho => ?_⟩
      rw [hop] at ho
      have hx := ho x (by simp [Op.operands]) _ h2
      have hx' := hx
      simp only [VRel] at hx
      obtain ⟨c, _, hx⟩ := hx
      rw [hx] at hx'
      simp only [execOp, hop, hx]
      exact ⟨φ, κ, Ext.refl _ _, hm, hx'⟩
    · refine ⟨_, M, h1, Nat.le_refl _, fun Pr G φ κ ρ w hm ho => ?_⟩
      rw [hop] at ho
      have hx := ho x (by simp [Op.operands]) _ h2
      have hx' := hx
      simp only [VRel] at hx
      rw [hx] at hx'
      simp only [execOp, hop, hx]
      exact ⟨φ, κ, Ext.refl _ _, hm, hx'⟩
    · cases h1
  · -- binOp
    rename_i op t x y b hop
    obtain ⟨u, h1, h2⟩ := evalK_sound h
    obtain ⟨v, h3, h4⟩ := evalK_sound h1
    obtain ⟨r, h5, h6⟩ := binK_sound hE h3
    refine ⟨r, M, h5, Nat.le_refl _, fun Pr G φ κ ρ w hm ho => ?_⟩
    rw [hop] at ho
    obtain ⟨z, h7, h8⟩ := h6 φ κ w _ _ (ho x (by simp [Op.operands]) u h2) (ho y (by simp [Op.operands]) v h4)
    simp only [execOp, hop]
    exact does_val h7 (Ext.refl _ _) hm h8
  · -- unOp
    rename_i op t x hop
    obtain ⟨u, h1, h2⟩ := evalK_sound h
    obtain ⟨r, h5, h6⟩ := unK_sound h1
    refine ⟨r, M, h5, Nat.le_refl _, fun Pr G φ κ ρ w hm ho => ?_⟩
    rw [hop] at ho
    obtain ⟨z, h7, h8⟩ := h6 E.P φ κ w _ (ho x (by simp [Op.operands]) u h2)
    simp only [execOp, hop]
    exact does_val h7 (Ext.refl _ _) hm h8
  · -- convert
    rename_i s d x hop
    obtain ⟨u, h1, h2⟩ := evalK_sound h
    obtain ⟨r, h5, h6⟩ := convertK_sound hE h1
    refine ⟨r, M, h5, Nat.le_refl _, fun Pr G φ κ ρ w hm ho => ?_⟩
    rw [hop] at ho
    obtain ⟨z, h7, h8⟩ := h6 Pr G φ κ w _ hm (ho x (by simp [Op.operands]) u h2)
    simp only [execOp, hop]
    exact does_val h7 (Ext.refl _ _) hm h8
  · -- makeInterface
    rename_i t x hop
    obtain ⟨ti, i, d, z, h1, hti⟩ := tyK_sound hE h
    have htd := hti.td
    have hd : ∀ ms, d ≠ .interface ms := by
      intro ms he
      subst he
      split at h1
      · cases h1
      · cases h1
      · rename_i h2 h3
        cases hd : ti.d with
        | iface => exact h2 hd
        | other => exact h3 hd
        | _ =>
          rw [hd] at htd
          simp [TDRel] at htd
    have h2 : (forceN t fun t => evalK T x fun x => k (.iface t x) M) = true := by
      split at h1
      · cases h1
      · cases h1
      · exact h1
    rw [forceN_eq] at h2
    obtain ⟨u, h3, h4⟩ := evalK_sound h2
    refine ⟨_, M, h3, Nat.le_refl _, fun Pr G φ κ ρ w hm ho => ?_⟩
    rw [hop] at ho
    have hx := ho x (by simp [Op.operands]) _ h4
    simp only [execOp, hop]
    refine does_val (x := .iface t (ρ x)) (w' := w) ?_ (Ext.refl _ _) hm (by simp only [VRel]; exact ⟨_, rfl, hx⟩)
    simp only [Instr.makeInterface, Sem.run_bind, hti.run_und, Result.andThen_ok]
    cases d <;> first | exact absurd rfl (hd _) | rfl
  · -- makeFunc
    rename_i fn first cap hop
    obtain ⟨us, h1, h2⟩ := evalsK_sound h
    obtain ⟨vs, h3, h4⟩ := evalsK_sound h1
    refine ⟨_, M, h3, Nat.le_refl _, fun Pr G φ κ ρ w hm ho => ?_⟩
    rw [hop] at ho
    have hf := h2 φ κ ρ fun y hy => ho y (by simp [Op.operands]; exact .inl (by simpa using hy))
    have hg := h4 φ κ ρ fun y hy => ho y (by simp [Op.operands]; exact .inr (by simpa using hy))
    simp only [execOp, hop]
    refine does_val (x := .func fn (first.map ρ) (cap.map ρ)) (w' := w) rfl (Ext.refl _ _) hm ?_
    simp only [VRel]
    exact ⟨_, _, rfl, by simpa using hf, by simpa using hg⟩
  · -- makeMap
    rename_i t r hop
    split at h
    · obtain ⟨M', h2, h3, h4⟩ := newBlk_sound h
      refine ⟨_, M', h2, by omega, fun Pr G φ κ ρ w hm ho => ?_⟩
      simp only [execOp, hop]
      refine does_val (φ' := upd φ M.next (some w.heap.size)) (κ' := upd κ M.next 0) (x := .map (some w.heap.size)) (w' := w.alloc (.map #[] 0)) rfl (hm.ext _ _) ?_ ?_
      · rw [h3, h4]
        exact hm.alloc 0 ⟨#[], rfl, rfl⟩
      · simp only [VRel]
        exact ⟨_, upd_same _ _ _, rfl⟩
    · cases h
  · -- makeSlice
    rename_i t l c hop
    obtain ⟨u, h1, h2⟩ := evalK_sound h
    obtain ⟨v, h3, h4⟩ := evalK_sound h1
    obtain ⟨r, M', h5, h6, h7⟩ := makeSliceK_sound hE h3
    refine ⟨r, M', h5, h6, fun Pr G φ κ ρ w hm ho => ?_⟩
    rw [hop] at ho
    obtain ⟨x, w', φ', κ', h8, h9, h10, h11⟩ := h7 Pr G φ κ w _ _ hm (ho l (by simp [Op.operands]) u h2) (ho c (by simp [Op.operands]) v h4)
    simp only [execOp, hop]
    exact does_val h8 h9 h10 h11
  · -- slice
    rename_i t x lo hi mx hop
    obtain ⟨u, h1, h2⟩ := evalK_sound h
    obtain ⟨ulo, h3, h4⟩ := optEvalK_sound h1
    obtain ⟨uhi, h5, h6⟩ := optEvalK_sound h3
    obtain ⟨umx, h7, h8⟩ := optEvalK_sound h5
    obtain ⟨r, h9, h10⟩ := sliceK_sound hE h7
    refine ⟨r, M, h9, Nat.le_refl _, fun Pr G φ κ ρ w hm ho => ?_⟩
    rw [hop] at ho
    have a1 := h4 φ κ ρ fun y hy => ho y (by simp only [Op.operands, Array.toList_append, List.mem_append]; exact .inl (.inl (.inr (by simpa using hy))))
    have a2 := h6 φ κ ρ fun y hy => ho y (by simp only [Op.operands, Array.toList_append, List.mem_append]; exact .inl (.inr (by simpa using hy)))
    have a3 := h8 φ κ ρ fun y hy => ho y (by simp only [Op.operands, Array.toList_append, List.mem_append]; exact .inr (by simpa using hy))
    obtain ⟨z, h11, h12⟩ := h10 φ κ w _ _ _ _ (ho x (by simp [Op.operands]) u h2) (optRel a1) (optRel a2) (optRel a3)
    simp only [execOp, hop]
    exact does_val h11 (Ext.refl _ _) hm h12
  · -- fieldAddr
    rename_i t x f hop
    obtain ⟨u, h1, h2⟩ := evalK_sound h
    obtain ⟨r, h5, h6⟩ := fieldAddrK_sound hE h1
    refine ⟨r, M, h5, Nat.le_refl _, fun Pr G φ κ ρ w hm ho => ?_⟩
    rw [hop] at ho
    obtain ⟨z, h7, h8⟩ := h6 φ κ w _ (ho x (by simp [Op.operands]) u h2)
    simp only [execOp, hop]
    exact does_val h7 (Ext.refl _ _) hm h8
  · -- field
    rename_i t x f hop
    obtain ⟨u, h1, h2⟩ := evalK_sound h
    obtain ⟨r, h5, h6⟩ := fieldK_sound hE h1
    refine ⟨r, M, h5, Nat.le_refl _, fun Pr G φ κ ρ w hm ho => ?_⟩
    rw [hop] at ho
    obtain ⟨z, h7, h8⟩ := h6 φ κ w _ (ho x (by simp [Op.operands]) u h2)
    simp only [execOp, hop]
    exact does_val h7 (Ext.refl _ _) hm h8
  · -- indexAddr
    rename_i t x y hop
    obtain ⟨u, h1, h2⟩ := evalK_sound h
    obtain ⟨v, h3, h4⟩ := evalK_sound h1
    obtain ⟨r, h5, h6⟩ := indexAddrK_sound hE h3
    refine ⟨r, M, h5, Nat.le_refl _, fun Pr G φ κ ρ w hm ho => ?_⟩
    rw [hop] at ho
    obtain ⟨z, h7, h8⟩ := h6 φ κ w _ _ (ho x (by simp [Op.operands]) u h2) (ho y (by simp [Op.operands]) v h4)
    simp only [execOp, hop]
    exact does_val h7 (Ext.refl _ _) hm h8
  · -- index
    rename_i t x y hop
    obtain ⟨u, h1, h2⟩ := evalK_sound h
    obtain ⟨v, h3, h4⟩ := evalK_sound h1
    obtain ⟨r, h5, h6⟩ := indexK_sound hE h3
    refine ⟨r, M, h5, Nat.le_refl _, fun Pr G φ κ ρ w hm ho => ?_⟩
    rw [hop] at ho
    obtain ⟨z, h7, h8⟩ := h6 φ κ w _ _ (ho x (by simp [Op.operands]) u h2) (ho y (by simp [Op.operands]) v h4)
    simp only [execOp, hop]
    exact does_val h7 (Ext.refl _ _) hm h8
  · -- typeAssert
    rename_i x xt t ok hop
    obtain ⟨u, h1, h2⟩ := evalK_sound h
    obtain ⟨r, h5, h6⟩ := typeAssertK_sound hE h1
    refine ⟨r, M, h5, Nat.le_refl _, fun Pr G φ κ ρ w hm ho => ?_⟩
    rw [hop] at ho
    obtain ⟨z, h7, h8⟩ := h6 φ κ w _ xt (ho x (by simp [Op.operands]) u h2)
    simp only [execOp, hop]
    exact does_val h7 (Ext.refl _ _) hm h8
  · -- extract
    rename_i x i hop
    obtain ⟨u, h1, h2⟩ := evalK_sound h
    obtain ⟨r, h5, h6⟩ := extractK_sound h1
    refine ⟨r, M, h5, Nat.le_refl _, fun Pr G φ κ ρ w hm ho => ?_⟩
    rw [hop] at ho
    obtain ⟨z, h7, h8⟩ := h6 E.P φ κ w _ (ho x (by simp [Op.operands]) u h2)
    simp only [execOp, hop]
    exact does_val h7 (Ext.refl _ _) hm h8
  · -- call
    rename_i c hop
    obtain ⟨us, h1, h2⟩ := evalsK_sound h
    have hargs : ∀ φ κ ρ, Ops φ κ T ρ o.op.operands.toList → LRel φ κ us (c.args.toList.map ρ) := fun φ κ ρ ho => h2 φ κ ρ fun y hy => ho y (by
      rw [hop]
      simp only [Op.operands, Call.operands, Array.toList_append, List.mem_append]
      exact .inr hy)
    clear h
    split at h1
    · rename_i b hcal
      obtain ⟨v, M', h3, h4, h5⟩ := builtinK_sound hE h1
      refine ⟨v, M', h3, h4, fun Pr G φ κ ρ w hm ho => ?_⟩
      have key : ∀ cs, Does E.P ((Go.builtin b c.argTypes o.type cs (c.args.map ρ)).run E.P w) (After X Pr G φ κ M' v) := by
        intro cs
        obtain ⟨r, w', φ', κ', h6, h7, h8, h9⟩ := h5 Pr G φ κ w _ o.type cs hm (hargs φ κ ρ ho)
        rw [← map_list] at h6
        rw [h6]
        exact ⟨φ', κ', h7, h8, h9⟩
      simp only [execOp, hop, resolve, hcal, Sem.run_bind, Sem.run_pure, Result.andThen_ok, invoke]
      exact key _
    · rename_i f hcal
      obtain ⟨u, h3, h4⟩ := evalK_sound h1
      obtain ⟨v, M', h5, h6, h7⟩ := funcK_sound hc h3
      refine ⟨v, M', h5, h6, fun Pr G φ κ ρ w hm ho => ?_⟩
      have := h7 Pr G φ κ w (ρ f) _ hm (ho f (by rw [hop]; simp [Op.operands, Call.operands, hcal]) u h4) (hargs φ κ ρ ho)
      rw [← map_list] at this
      simpa only [execOp, hop, resolve, hcal] using this
    · rename_i r name hcal
      obtain ⟨u, h3, h4⟩ := evalK_sound h1
      obtain ⟨v, M', h5, h6, h7⟩ := invokeK_sound hE hc h3
      refine ⟨v, M', h5, h6, fun Pr G φ κ ρ w hm ho => ?_⟩
      have := h7 Pr G φ κ w (ρ r) _ hm (ho r (by rw [hop]; simp [Op.operands, Call.operands, hcal]) u h4) (hargs φ κ ρ ho)
      rw [← map_list] at this
      have h0 : (#[ρ r] ++ c.args.map ρ)[0]? = some (ρ r) := by rw [Array.getElem?_append_left (by simp only [List.size_toArray, List.length_cons]; omega)]; rfl
      have h8 : (#[ρ r] ++ c.args.map ρ).extract 1 (#[ρ r] ++ c.args.map ρ).size = c.args.map ρ := by
        apply Array.ext'
        simp only [Array.toList_extract, List.extract_eq_take_drop, Array.toList_append, Array.size_append, List.singleton_append, List.drop_succ_cons, List.drop_zero, List.size_toArray, List.length_cons, List.length_nil]
        rw [List.take_of_length_le (by simp only [Array.length_toList]; omega)]
      simp only [execOp, hop, resolve, hcal, Sem.run_bind, Sem.run_pure, Result.andThen_ok, invoke, h0, h8]
      exact this
  · cases h
end Go.Ev
