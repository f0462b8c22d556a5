/-
  A reckoner for the program's form over abstract values and memory, run by the kernel, and its proof: if it answers, the form's own run answers so, whatever the tape. Part EvN. No condition.
-/
import Derived.Test.YtdfbcjoopkiaeaaGreatDoorEvM
import Derived.Laws.StructEq
noncomputable section
namespace Go.Ev

variable {X : Fix} {Pr : Nat → Option Obj} {G : Nat → Option Blk} {φ : Nat → Option Nat} {κ : Nat → Nat} {m : Nat → Option Blk} {nx : Nat} {w : World} {E : Env}

theorem eqB_eq (a b : Bool) : eqB a b = (a == b) := by cases a <;> cases b <;> rfl
/-- What eqK says. -/
def EqOK (P : Program) (t : Nat) (x y : AV) (n : Nat) (b : Bool) : Prop :=
  ∀ φ κ w D yx yy, n ≤ D → VRel φ κ x yx → VRel φ κ y yy → (Op.equalIn D t yx yy).run P w = .ok b w
theorem ptr_nil {e : TypeId} {P : Program} {t : Nat} (hu : P.underlying t = some (.pointer e)) {x y : AV} {k : Bool → Bool} (h : eqNil x y k = true) : ∃ b, k b = true ∧ ∀ n, 0 < n → EqOK P t x y n b := by
  unfold eqNil at h
  split at h
  all_goals first
    | (cases h; done)
    | (refine ⟨_, h, fun n hn φ κ w D yx yy hD hx hy => ?_⟩
       obtain ⟨D, rfl⟩ : ∃ D', D = D' + 1 := ⟨D - 1, by omega⟩
       simp only [VRel] at hx hy
       first
         | (subst hx hy; simp [Op.equalIn, underlying, hu]; done)
         | (subst hx; obtain ⟨c, _, rfl⟩ := hy; simp [Op.equalIn, underlying, hu]; done)
         | (subst hy; obtain ⟨c, _, rfl⟩ := hx; simp [Op.equalIn, underlying, hu]; done))
theorem slice_nil {e : TypeId} {P : Program} {t : Nat} (hu : P.underlying t = some (.slice e)) {x y : AV} {k : Bool → Bool} (h : eqNilS x y k = true) : ∃ b, k b = true ∧ ∀ n, 0 < n → EqOK P t x y n b := by
  unfold eqNilS at h
  split at h
  all_goals first
    | (cases h; done)
    | (refine ⟨_, h, fun n hn φ κ w D yx yy hD hx hy => ?_⟩
       obtain ⟨D, rfl⟩ : ∃ D', D = D' + 1 := ⟨D - 1, by omega⟩
       simp only [VRel] at hx hy
       first
         | (subst hx hy; simp [Op.equalIn, underlying, hu]; done)
         | (subst hx; obtain ⟨c, q, _, rfl, _⟩ := hy; simp [Op.equalIn, underlying, hu]; done)
         | (subst hy; obtain ⟨c, q, _, rfl, _⟩ := hx; simp [Op.equalIn, underlying, hu]; done))
theorem map_nil {e e' : TypeId} {P : Program} {t : Nat} (hu : P.underlying t = some (.map e e')) {x y : AV} {k : Bool → Bool} (h : eqNilM x y k = true) : ∃ b, k b = true ∧ ∀ n, 0 < n → EqOK P t x y n b := by
  unfold eqNilM at h
  split at h
  all_goals first
    | (cases h; done)
    | (refine ⟨_, h, fun n hn φ κ w D yx yy hD hx hy => ?_⟩
       obtain ⟨D, rfl⟩ : ∃ D', D = D' + 1 := ⟨D - 1, by omega⟩
       simp only [VRel] at hx hy
       first
         | (subst hx hy; simp [Op.equalIn, underlying, hu]; done)
         | (subst hx; obtain ⟨c, _, rfl⟩ := hy; simp [Op.equalIn, underlying, hu]; done)
         | (subst hy; obtain ⟨c, _, rfl⟩ := hx; simp [Op.equalIn, underlying, hu]; done))
theorem func_nil {a b : Array TypeId} {c : Bool} {P : Program} {t : Nat} (hu : P.underlying t = some (.func a b c)) {x y : AV} {k : Bool → Bool} (h : eqNilF x y k = true) : ∃ b, k b = true ∧ ∀ n, 0 < n → EqOK P t x y n b := by
  unfold eqNilF at h
  split at h
  all_goals first
    | (cases h; done)
    | (refine ⟨_, h, fun n hn φ κ w D yx yy hD hx hy => ?_⟩
       obtain ⟨D, rfl⟩ : ∃ D', D = D' + 1 := ⟨D - 1, by omega⟩
       simp only [VRel] at hx hy
       first
         | (subst hx hy; simp [Op.equalIn, underlying, hu]; done)
         | (subst hx; obtain ⟨f, c, rfl, _⟩ := hy; simp [Op.equalIn, underlying, hu]; done)
         | (subst hy; obtain ⟨f, c, rfl, _⟩ := hx; simp [Op.equalIn, underlying, hu]; done))

/-- The fields of two structs, one behind the other. -/
theorem eqFields_sound (hE : EnvOK E X) {n : Nat} {ih : Nat × AV × AV × (Bool → Bool) → Bool} (hih : ∀ t x y k, ih (t, x, y, k) = true → ∃ b, k b = true ∧ EqOK E.P t x y n b) :
    ∀ {fs : List (Nat × Nat × Nat)} {Fs : List Field} {xs ys : List AV} {k : Bool → Bool}, FRel E.P fs Fs →
    recL (A := Bool → Bool) (fun k => k true) (fun f _ more k => partK E f.2.1 xs f.1 fun u => partK E f.2.1 ys f.1 fun v => ih (f.2.1, u, v, fun b => match b with | true => more k | false => k false)) fs k = true →
    ∃ b, k b = true ∧ ∀ φ κ w D as bs, n ≤ D → LRel φ κ xs as → LRel φ κ ys bs → (Op.eqFields D as.toArray bs.toArray Fs).run E.P w = .ok b w
  | [], Fs, xs, ys, k, hF, h => by
    have : Fs = [] := hF
    subst this
    exact ⟨true, h, fun φ κ w D as bs hD ha hb => by simp [Op.eqFields]⟩
  | f :: fs, Fs, xs, ys, k, hF, h => by
    obtain ⟨fd, Fs, ii, rfl, h1, h2, h3, h4, h5, h6⟩ := hF
    rw [recL_cons] at h
    obtain ⟨u, h7, h8⟩ := partK_sound hE h
    obtain ⟨v, h9, h10⟩ := partK_sound hE h7
    obtain ⟨b, h11, h12⟩ := hih _ _ _ _ h9
    cases b with
    | true =>
      obtain ⟨b, h13, h14⟩ := eqFields_sound hE hih h6 h11
      refine ⟨b, h13, fun φ κ w D as bs hD ha hb => ?_⟩
      obtain ⟨xu, hu1, hu2⟩ := h8 φ κ w as ha
      obtain ⟨xv, hv1, hv2⟩ := h10 φ κ w bs hb
      simp only [Op.eqFields]
      rw [if_pos h5, ← h1, ← h2]
      simp only [Sem.run_bind, hu1, hv1, Result.andThen_ok, h12 φ κ w D xu xv hD hu2 hv2]
      simpa using h14 φ κ w D as bs hD ha hb
    | false =>
      refine ⟨false, h11, fun φ κ w D as bs hD ha hb => ?_⟩
      obtain ⟨xu, hu1, hu2⟩ := h8 φ κ w as ha
      obtain ⟨xv, hv1, hv2⟩ := h10 φ κ w bs hb
      simp only [Op.eqFields]
      rw [if_pos h5, ← h1, ← h2]
      simp only [Sem.run_bind, hu1, hv1, Result.andThen_ok, h12 φ κ w D xu xv hD hu2 hv2]
      simp
theorem eqK_sound (hE : EnvOK E X) : ∀ {n t : Nat} {x y : AV} {k : Bool → Bool}, eqK E n t x y k = true → ∃ b, k b = true ∧ EqOK E.P t x y n b
  | 0, t, x, y, k, h => by cases h
  | n + 1, t, x, y, k, h => by
    unfold eqK eqKrec at h
    rw [recN_succ] at h
    simp only at h
    obtain ⟨ti, i, d, z, h1, hti⟩ := tyK_sound hE h
    have htd := hti.td
    have hu := hti.und
    split at h1
    · rename_i a b hd
      rw [hd] at htd
      have htd' : d = .bool := htd
      subst htd'
      rw [forceB_eq, eqB_eq] at h1
      refine ⟨_, h1, fun φ κ w D yx yy hD hx hy => ?_⟩
      obtain ⟨D, rfl⟩ : ∃ D', D = D' + 1 := ⟨D - 1, by omega⟩
      simp only [VRel] at hx hy
      subst hx hy
      simp [Op.equalIn, underlying, hu]
    · rename_i kd ka a kb b hd
      rw [hd] at htd
      have htd' : d = .int kd := htd
      subst htd'
      obtain ⟨hk, hx1⟩ := guardB_true h1
      clear h1
      have hk := sameKind_eq hk
      subst hk
      rw [forceB_eq, eqI_eq] at hx1
      refine ⟨_, hx1, fun φ κ w D yx yy hD hx hy => ?_⟩
      obtain ⟨D, rfl⟩ : ∃ D', D = D' + 1 := ⟨D - 1, by omega⟩
      simp only [VRel] at hx hy
      subst hx hy
      simp [Op.equalIn, underlying, hu]
    · rename_i na a nb b hd
      rw [hd] at htd
      have htd' : d = .string := htd
      subst htd'
      rw [forceB_eq] at h1
      refine ⟨_, h1, fun φ κ w D yx yy hD hx hy => ?_⟩
      obtain ⟨D, rfl⟩ : ∃ D', D = D' + 1 := ⟨D - 1, by omega⟩
      simp only [VRel] at hx hy
      obtain ⟨ha, rfl⟩ := hx
      obtain ⟨hb, rfl⟩ := hy
      rw [str_beq _ _ _ _ ha hb]
      rw [run_equalIn_string w D t _ _ hu]
      congr 1
      rw [ByteArray.toList_eq, ByteArray.toList_eq]
      simp only [Bool.beq_eq_decide_eq]
    · rename_i e hd
      rw [hd] at htd
      have htd' : d = .pointer e := htd
      subst htd'
      obtain ⟨b, h2, h3⟩ := ptr_nil hu h1
      exact ⟨b, h2, h3 _ (by omega)⟩
    · rename_i e hd
      rw [hd] at htd
      have htd' : d = .slice e := htd
      subst htd'
      obtain ⟨b, h2, h3⟩ := slice_nil hu h1
      exact ⟨b, h2, h3 _ (by omega)⟩
    · rename_i e e' hd
      rw [hd] at htd
      have htd' : d = .map e e' := htd
      subst htd'
      obtain ⟨b, h2, h3⟩ := map_nil hu h1
      exact ⟨b, h2, h3 _ (by omega)⟩
    · rename_i hd
      rw [hd] at htd
      obtain ⟨a, b, c, rfl⟩ := htd
      obtain ⟨b, h2, h3⟩ := func_nil hu h1
      exact ⟨b, h2, h3 _ (by omega)⟩
    · rename_i hd
      rw [hd] at htd
      obtain ⟨ms, rfl⟩ := htd
      refine ⟨_, h1, fun φ κ w D yx yy hD hx hy => ?_⟩
      obtain ⟨D, rfl⟩ : ∃ D', D = D' + 1 := ⟨D - 1, by omega⟩
      simp only [VRel] at hx hy
      subst hx hy
      simp [Op.equalIn, underlying, hu]
    · rename_i hd
      rw [hd] at htd
      obtain ⟨ms, rfl⟩ := htd
      refine ⟨_, h1, fun φ κ w D yx yy hD hx hy => ?_⟩
      obtain ⟨D, rfl⟩ : ∃ D', D = D' + 1 := ⟨D - 1, by omega⟩
      simp only [VRel] at hx hy
      subst hx
      obtain ⟨yv, rfl, _⟩ := hy
      simp [Op.equalIn, underlying, hu]
    · rename_i hd
      rw [hd] at htd
      obtain ⟨ms, rfl⟩ := htd
      refine ⟨_, h1, fun φ κ w D yx yy hD hx hy => ?_⟩
      obtain ⟨D, rfl⟩ : ∃ D', D = D' + 1 := ⟨D - 1, by omega⟩
      simp only [VRel] at hx hy
      subst hy
      obtain ⟨yv, rfl, _⟩ := hx
      simp [Op.equalIn, underlying, hu]
    · rename_i fs xs ys hd
      rw [hd] at htd
      obtain ⟨Fs, rfl, hF⟩ := htd
      cases hst : E.P.stoodInHeld t
      · rw [hst] at h1
        simp only [cond_false] at h1
        obtain ⟨b, h2, h3⟩ := eqFields_sound hE (ih := eqKrec E n) (fun t x y k h => eqK_sound hE h) hF h1
        refine ⟨b, h2, fun φ κ w D yx yy hD hx hy => ?_⟩
        obtain ⟨D, rfl⟩ : ∃ D', D = D' + 1 := ⟨D - 1, by omega⟩
        simp only [VRel] at hx hy
        obtain ⟨as, rfl, ha⟩ := hx
        obtain ⟨bs, rfl, hb⟩ := hy
        have hfo : E.P.fieldsOf t = Fs := by simp [Program.fieldsOf, hu]
        rw [run_equalIn_struct w D t as bs (by rw [hfo]; exact hu) hst, hfo]
        simpa using h3 φ κ w D as.toList bs.toList (by omega) ha hb
      · rw [hst] at h1; cases h1
    · cases h1
end Go.Ev
