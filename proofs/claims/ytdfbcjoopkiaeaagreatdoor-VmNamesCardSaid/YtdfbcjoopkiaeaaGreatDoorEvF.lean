/-
  A reckoner for the program's form over abstract values and memory, run by the kernel, and its proof: if it answers, the form's own run answers so, whatever the tape. Part EvF. No condition.
-/
import Derived.Test.YtdfbcjoopkiaeaaGreatDoorEvE
noncomputable section
namespace Go.Ev

theorem two_pow_pos' (n : Nat) : (0 : Int) < 2 ^ n := by have := Nat.two_pow_pos n; norm_cast
theorem two_pow_nonneg (n : Nat) : (0 : Int) ≤ 2 ^ n := Int.le_of_lt (two_pow_pos' n)
theorem natBits_eq (kd : IntKind) (n : Int) : natBits kd n = (BitVec.ofInt kd.bits n).toNat := by
  unfold natBits
  rw [BitVec.toNat_ofInt]
  have hp : 0 < 2 ^ kd.bits := Nat.two_pow_pos _
  split
  · rename_i m
    simp only [Int.ofNat_eq_natCast]
    norm_cast
  · rename_i m
    rw [Int.negSucc_emod _ (by norm_cast)]
    norm_cast
    have : m % 2 ^ kd.bits < 2 ^ kd.bits := Nat.mod_lt _ hp
    omega
theorem bitsK_sound {op : BinOp} {kd : IntKind} {a b : Int} {k : K1} (h : bitsK op kd a b k = true) :
    ∃ n, k (.int kd n) = true ∧ ∀ P w, (Op.intBits op kd a b).run P w = .ok (.int kd n) w := by
  unfold bitsK at h
  simp only [forceN_eq, natBits_eq] at h
  split at h
  · rw [wrapK_eq] at h; exact ⟨_, h, fun P w => by simp [Op.intBits]⟩
  · rw [wrapK_eq] at h; exact ⟨_, h, fun P w => by simp [Op.intBits]⟩
  · rw [wrapK_eq] at h; exact ⟨_, h, fun P w => by simp [Op.intBits]⟩
  · rw [wrapK_eq] at h; exact ⟨_, h, fun P w => by simp [Op.intBits]⟩
  · cases h
theorem intOpK_sound {op : BinOp} {kd : IntKind} {a b : Int} {k : K1} (hs : op ≠ .shl ∧ op ≠ .shr) (h : intOpK op kd a b k = true) :
    ∃ u, k u = true ∧ ∀ P w, ∃ x, (∀ t, (binOp op t (.int kd a) (.int kd b)).run P w = .ok x w) ∧ ∀ φ κ, VRel φ κ u x := by
  unfold intOpK at h
  split at h
  · rw [wrapK_eq, addI_eq] at h; exact ⟨_, h, fun P w => ⟨_, fun t => by simp [binOp, Op.intArith]; rfl, fun _ _ => by simp [VRel]⟩⟩
  · rw [wrapK_eq, subI_eq] at h; exact ⟨_, h, fun P w => ⟨_, fun t => by simp [binOp, Op.intArith]; rfl, fun _ _ => by simp [VRel]⟩⟩
  · rw [wrapK_eq, mulI_eq] at h; exact ⟨_, h, fun P w => ⟨_, fun t => by simp [binOp, Op.intArith]; rfl, fun _ _ => by simp [VRel]⟩⟩
  · rw [forceB_eq, eqI_eq] at h; exact ⟨_, h, fun P w => ⟨_, fun t => by simp [binOp, Op.intCmp]; rfl, fun _ _ => by simp [VRel]⟩⟩
  · rw [forceB_eq, eqI_eq] at h; exact ⟨_, h, fun P w => ⟨_, fun t => by simp [binOp, Op.intCmp]; rfl, fun _ _ => by simp [VRel, bne]⟩⟩
  · rw [forceB_eq, ltI_eq] at h; exact ⟨_, h, fun P w => ⟨_, fun t => by simp [binOp, Op.intCmp]; rfl, fun _ _ => by simp [VRel]⟩⟩
  · rw [forceB_eq, ltI_eq] at h; exact ⟨_, h, fun P w => ⟨_, fun t => by simp [binOp, Op.intCmp]; rfl, fun _ _ => by simp only [VRel]; congr 1; rw [Bool.eq_iff_iff]; simp⟩⟩
  · rw [forceB_eq, ltI_eq] at h; exact ⟨_, h, fun P w => ⟨_, fun t => by simp [binOp, Op.intCmp]; rfl, fun _ _ => by simp [VRel]⟩⟩
  · rw [forceB_eq, ltI_eq] at h; exact ⟨_, h, fun P w => ⟨_, fun t => by simp [binOp, Op.intCmp]; rfl, fun _ _ => by simp only [VRel]; congr 1; rw [Bool.eq_iff_iff]; simp⟩⟩
  · split at h
    · rename_i a b
      rw [wrapK_eq] at h
      refine ⟨_, h, fun P w => ⟨.int kd (kd.wrap (Int.ofNat (a / (b + 1)))), fun t => ?_, fun _ _ => by simp only [VRel]⟩⟩
      have hb : (Int.ofNat (b + 1)) ≠ 0 := by simp only [Int.ofNat_eq_natCast]; omega
      simp only [binOp, ne_eq, not_true_eq_false, if_false, Op.intDiv, if_neg hb, Sem.run_pure]
      rfl
    · cases hb : eqI b 0
      · rw [hb] at h
        simp only [cond_false, wrapK_eq] at h
        rw [eqI_eq] at hb
        have hb' : b ≠ 0 := by simpa using hb
        exact ⟨_, h, fun P w => ⟨_, fun t => by simp [binOp, Op.intDiv, hb']; rfl, fun _ _ => by simp [VRel]⟩⟩
      · rw [hb] at h; cases h
  · split at h
    · rename_i a b
      rw [forceN_eq] at h
      refine ⟨_, h, fun P w => ⟨.int kd (Int.ofNat (a % (b + 1))), fun t => ?_, fun _ _ => by simp only [VRel]⟩⟩
      have hb : (Int.ofNat (b + 1)) ≠ 0 := by simp only [Int.ofNat_eq_natCast]; omega
      simp only [binOp, ne_eq, not_true_eq_false, if_false, Op.intDiv, if_neg hb, Sem.run_pure]
      rfl
    · cases hb : eqI b 0
      · rw [hb] at h
        simp only [cond_false, forceI_eq] at h
        rw [eqI_eq] at hb
        have hb' : b ≠ 0 := by simpa using hb
        exact ⟨_, h, fun P w => ⟨_, fun t => by simp [binOp, Op.intDiv, hb']; rfl, fun _ _ => by simp [VRel]⟩⟩
      · rw [hb] at h; cases h
  · obtain ⟨n, h1, h2⟩ := bitsK_sound h; exact ⟨_, h1, fun P w => ⟨.int kd n, fun t => by simp [binOp, h2], fun _ _ => by simp [VRel]⟩⟩
  · obtain ⟨n, h1, h2⟩ := bitsK_sound h; exact ⟨_, h1, fun P w => ⟨.int kd n, fun t => by simp [binOp, h2], fun _ _ => by simp [VRel]⟩⟩
  · obtain ⟨n, h1, h2⟩ := bitsK_sound h; exact ⟨_, h1, fun P w => ⟨.int kd n, fun t => by simp [binOp, h2], fun _ _ => by simp [VRel]⟩⟩
  · obtain ⟨n, h1, h2⟩ := bitsK_sound h; exact ⟨_, h1, fun P w => ⟨.int kd n, fun t => by simp [binOp, h2], fun _ _ => by simp [VRel]⟩⟩
  · cases h
theorem shiftK_sound {op : BinOp} {kd : IntKind} {a b : Int} {k : K1} (h : shiftK op kd a b k = true) :
    ∃ u, k u = true ∧ ∀ P w yk, ∃ x, (Op.shift op kd a yk b).run P w = .ok x w ∧ ∀ φ κ, VRel φ κ u x := by
  unfold shiftK at h
  split at h
  · cases h
  · rename_i b
    rw [forceN_eq] at h
    have hmin : cond (Nat.ble b kd.bits) b kd.bits = min b kd.bits := by
      cases hb : Nat.ble b kd.bits
      · have : ¬ b ≤ kd.bits := fun e => by rw [Nat.ble_eq_true_of_le e] at hb; cases hb
        simp only [cond_false]; omega
      · have := Nat.le_of_ble_eq_true hb
        simp only [cond_true]; omega
    rw [hmin] at h
    have hn : ¬ ((Int.ofNat b) < 0) := by simp only [Int.ofNat_eq_natCast]; omega
    split at h
    · rw [wrapK_eq, mulI_eq] at h
      exact ⟨_, h, fun P w yk => ⟨_, by simp only [Op.shift, if_neg hn, Sem.run_pure]; rfl, fun _ _ => by simp [VRel]⟩⟩
    · split at h
      · rw [forceN_eq] at h
        refine ⟨_, h, fun P w yk => ⟨_, by simp only [Op.shift, if_neg hn, Sem.run_pure]; rfl, fun _ _ => ?_⟩⟩
        simp only [VRel]
        congr 1
        simp only [Int.ofNat_eq_natCast, Int.toNat_natCast]
        rw [Int.fdiv_eq_ediv_of_nonneg _ (two_pow_nonneg _)]
        rw [show Nat.shiftRight _ _ = _ >>> _ from rfl, Nat.shiftRight_eq_div_pow]
        norm_cast
      · rw [forceN_eq] at h
        refine ⟨_, h, fun P w yk => ⟨_, by simp only [Op.shift, if_neg hn, Sem.run_pure]; rfl, fun _ _ => ?_⟩⟩
        simp only [VRel]
        congr 1
        simp only [Int.ofNat_eq_natCast, Int.toNat_natCast]
        rw [Int.fdiv_eq_ediv_of_nonneg _ (two_pow_nonneg _)]
        rw [show Nat.shiftRight _ _ = _ >>> _ from rfl, Nat.shiftRight_eq_div_pow]
        rw [Int.negSucc_ediv _ (two_pow_pos' _)]
        norm_cast
    · cases h
end Go.Ev
