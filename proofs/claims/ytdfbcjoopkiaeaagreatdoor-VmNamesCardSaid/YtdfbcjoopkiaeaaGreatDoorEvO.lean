/-
  A reckoner for the program's form over abstract values and memory, run by the kernel, and its proof: if it answers, the form's own run answers so, whatever the tape. Part EvO. No condition.
-/
import Derived.Test.YtdfbcjoopkiaeaaGreatDoorEvN
noncomputable section
namespace Go.Ev

variable {X : Fix} {Pr : Nat → Option Obj} {G : Nat → Option Blk} {φ : Nat → Option Nat} {κ : Nat → Nat} {m : Nat → Option Blk} {nx : Nat} {w : World} {E : Env}

theorem strBytes_append : ∀ (n a m b : Nat), a < 256 ^ n → strBytes (n + m) (a + b * 2 ^ (8 * n)) = strBytes n a ++ strBytes m b
  | 0, a, m, b, h => by
    have : a = 0 := by simp at h; omega
    subst this
    simp [strBytes]
  | n + 1, a, m, b, h => by
    rw [show n + 1 + m = (n + m) + 1 by omega]
    simp only [strBytes, List.cons_append]
    have e : 2 ^ (8 * (n + 1)) = 256 * 2 ^ (8 * n) := by
      rw [show 8 * (n + 1) = 8 * n + 8 by omega, Nat.pow_add]; omega
    have e1 : b * 2 ^ (8 * (n + 1)) = 256 * (b * 2 ^ (8 * n)) := by rw [e]; rw [Nat.mul_left_comm]
    rw [e1]
    have h2 : (a + 256 * (b * 2 ^ (8 * n))) / 256 = a / 256 + b * 2 ^ (8 * n) := by omega
    have h3 : (a + 256 * (b * 2 ^ (8 * n))) % 256 = a % 256 := by omega
    rw [h2, h3, strBytes_append n (a / 256) m b (by rw [Nat.pow_succ] at h; omega)]
theorem append_lt (n a m b : Nat) (ha : a < 256 ^ n) (hb : b < 256 ^ m) : a + b * 2 ^ (8 * n) < 256 ^ (n + m) := by
  have e : 2 ^ (8 * n) = 256 ^ n := by rw [Nat.pow_mul]
  rw [e, Nat.pow_add]
  have : (b + 1) * 256 ^ n ≤ 256 ^ m * 256 ^ n := Nat.mul_le_mul_right _ hb
  rw [Nat.add_mul] at this
  rw [Nat.mul_comm (256 ^ n)]
  omega
theorem run_eqGuard_int (P : Program) (w : World) (op : BinOp) (t : TypeId) (x y : Operand) (ka kb : IntKind) (a b : Int) : (eqGuard op t x y (.int ka a) (.int kb b)).run P w = .ok () w := by
  cases op <;> simp [eqGuard]
theorem run_eqGuard_str (P : Program) (w : World) (op : BinOp) (t : TypeId) (x y : Operand) (a b : ByteArray) : (eqGuard op t x y (.string a) (.string b)).run P w = .ok () w := by
  cases op <;> simp [eqGuard]
theorem bytes_eq (a b : List UInt8) : ((ByteArray.mk a.toArray).toList == (ByteArray.mk b.toArray).toList) = decide (a = b) := by
  rw [ByteArray.toList_eq, ByteArray.toList_eq]
  simp only [Bool.beq_eq_decide_eq]
theorem binOp_eql {x : AV} {y z : Value} (hx : noNum x = true) (r : VRel φ κ x y) (t : TypeId) : binOp .eql t y z = (do pure (.bool (← Op.equal t y z))) := by
  cases x <;> simp [noNum] at hx <;> simp only [VRel] at r
  all_goals first
    | (subst r; cases z <;> rfl)
    | (obtain ⟨c, q, _, rfl, _⟩ := r; cases z <;> rfl)
    | (obtain ⟨f, c, rfl, _⟩ := r; cases z <;> rfl)
    | (obtain ⟨c, _, rfl⟩ := r; cases z <;> rfl)
    | (obtain ⟨c, rfl, _⟩ := r; cases z <;> rfl)
theorem binOp_neq {x : AV} {y z : Value} (hx : noNum x = true) (r : VRel φ κ x y) (t : TypeId) : binOp .neq t y z = (do pure (.bool (!(← Op.equal t y z)))) := by
  cases x <;> simp [noNum] at hx <;> simp only [VRel] at r
  all_goals first
    | (subst r; cases z <;> rfl)
    | (obtain ⟨c, q, _, rfl, _⟩ := r; cases z <;> rfl)
    | (obtain ⟨f, c, rfl, _⟩ := r; cases z <;> rfl)
    | (obtain ⟨c, _, rfl⟩ := r; cases z <;> rfl)
    | (obtain ⟨c, rfl, _⟩ := r; cases z <;> rfl)
theorem vrel_nili {a : AV} (h : VRel φ κ a .nilIface) : a = .nili := by
  cases a <;> simp [VRel] at h ⊢
theorem vrel_agg {a : AV} {l : Array Value} (h : VRel φ κ a (.agg l)) : ∃ cs, a = .agg cs := by
  cases a <;> simp [VRel] at h ⊢
theorem run_eqGuard_other (P : Program) (w : World) (op : BinOp) (t : TypeId) (x0 y0 : Operand) {y z : Value} (h1 : y = .nilIface → z = .nilIface → False) (h2 : ∀ l r, y = .agg l → z = .agg r → False) :
    (eqGuard op t x0 y0 y z).run P w = .ok () w := by
  have key : ∀ (A : Sem Unit) (B : Array Value → Array Value → Sem Unit), (match y, z with
      | .nilIface, .nilIface => A
      | .agg l, .agg r => B l r
      | _, _ => (pure () : Sem Unit)) = pure () := by
    intro A B
    split
    · exact (h1 rfl rfl).elim
    · exact (h2 _ _ rfl rfl).elim
    · rfl
  unfold eqGuard
  cases op <;> simp <;> rw [key] <;> rfl
theorem run_eqGuard_nil (P : Program) (w : World) (op : BinOp) (t : TypeId) (x0 y0 : Operand) (h : (isC x0 || isC y0) = true) : (eqGuard op t x0 y0 .nilIface .nilIface).run P w = .ok () w := by
  cases op <;> cases x0 <;> cases y0 <;> simp_all [eqGuard, isC]
theorem run_eqGuard_ok {a b : AV} {y z : Value} {x0 y0 : Operand} {t : Nat} (op : BinOp) (h : eqOK E (isC x0 || isC y0) t a b = true) (ra : VRel φ κ a y) (rb : VRel φ κ b z) (w : World) :
    (eqGuard op t x0 y0 y z).run E.P w = .ok () w := by
  unfold eqOK at h
  split at h
  · simp only [VRel] at ra rb
    subst ra rb
    exact run_eqGuard_nil _ _ _ _ _ _ h
  · simp only [VRel] at ra rb
    obtain ⟨l, rfl, _⟩ := ra
    obtain ⟨r, rfl, _⟩ := rb
    exact run_eqGuard_agg w op t x0 y0 l r (by simpa using h)
  · rename_i h1 h2
    exact run_eqGuard_other _ _ _ _ _ _ (fun e1 e2 => by subst e1 e2; exact h1 (vrel_nili ra) (vrel_nili rb)) fun l r e1 e2 => by
      subst e1 e2
      obtain ⟨c1, e1⟩ := vrel_agg ra
      obtain ⟨c2, e2⟩ := vrel_agg rb
      exact h2 _ _ e1 e2
theorem binK_sound (hE : EnvOK E X) {op : BinOp} {x0 y0 : Operand} {t : Nat} {a b : AV} {k : K1} (h : binK E op (isC x0 || isC y0) t a b k = true) :
    ∃ v, k v = true ∧ ∀ φ κ w y z, VRel φ κ a y → VRel φ κ b z → ∃ x, (do eqGuard op t x0 y0 y z; binOp op t y z : Sem Value).run E.P w = .ok x w ∧ VRel φ κ v x := by
  unfold binK at h
  split at h
  · rename_i ka a kb b
    split at h
    · obtain ⟨u, h1, h2⟩ := shiftK_sound h
      refine ⟨u, h1, fun φ κ w y z hy hz => ?_⟩
      simp only [VRel] at hy hz
      subst hy hz
      obtain ⟨x, hx, hr⟩ := h2 E.P w kb
      exact ⟨x, by simp [run_eqGuard_int, binOp, hx], hr φ κ⟩
    · obtain ⟨u, h1, h2⟩ := shiftK_sound h
      refine ⟨u, h1, fun φ κ w y z hy hz => ?_⟩
      simp only [VRel] at hy hz
      subst hy hz
      obtain ⟨x, hx, hr⟩ := h2 E.P w kb
      exact ⟨x, by simp [run_eqGuard_int, binOp, hx], hr φ κ⟩
    · rename_i hn1 hn2
      obtain ⟨hk, hx1⟩ := guardB_true h
      have hk := sameKind_eq hk
      subst hk
      obtain ⟨u, h1, h2⟩ := intOpK_sound ⟨fun e => hn1 e, fun e => hn2 e⟩ hx1
      refine ⟨u, h1, fun φ κ w y z hy hz => ?_⟩
      simp only [VRel] at hy hz
      subst hy hz
      obtain ⟨x, hx, hr⟩ := h2 E.P w
      exact ⟨x, by simp [run_eqGuard_int, hx], hr φ κ⟩
  · rename_i n a m b
    split at h
    · rw [forceB_eq] at h
      refine ⟨_, h, fun φ κ w y z hy hz => ?_⟩
      simp only [VRel] at hy hz
      obtain ⟨ha, rfl⟩ := hy
      obtain ⟨hb, rfl⟩ := hz
      refine ⟨.bool (decide (strBytes n a = strBytes m b)), ?_, by simp only [VRel]; rw [str_beq _ _ _ _ ha hb]⟩
      simp only [Sem.run_bind, run_eqGuard_str, Result.andThen_ok, binOp, Op.stringOp, bytes_eq, Sem.run_pure]
    · rw [forceB_eq] at h
      refine ⟨_, h, fun φ κ w y z hy hz => ?_⟩
      simp only [VRel] at hy hz
      obtain ⟨ha, rfl⟩ := hy
      obtain ⟨hb, rfl⟩ := hz
      refine ⟨.bool (!decide (strBytes n a = strBytes m b)), ?_, by simp only [VRel]; rw [str_beq _ _ _ _ ha hb]⟩
      simp only [Sem.run_bind, run_eqGuard_str, Result.andThen_ok, binOp, Op.stringOp, bytes_eq, Sem.run_pure]
    · obtain ⟨hs, hx1⟩ := guardB_true h
      have hs := Nat.le_of_ble_eq_true hs
      simp only [forceN_eq] at hx1
      refine ⟨_, hx1, fun φ κ w y z hy hz => ?_⟩
      simp only [VRel] at hy hz
      obtain ⟨ha, rfl⟩ := hy
      obtain ⟨hb, rfl⟩ := hz
      refine ⟨.string ⟨(strBytes n a ++ strBytes m b).toArray⟩, ?_, by simp only [VRel]; exact ⟨append_lt n a m b ha hb, by rw [strBytes_append n a m b ha]⟩⟩
      simp only [Sem.run_bind, run_eqGuard_str, Result.andThen_ok, binOp, Op.stringOp]
      rw [if_neg (by simp [ByteArray.size, strBytes_length, IntKind.max, IntKind.signed, IntKind.bits]; omega)]
      simp only [Sem.run_pure]
      congr 2
    · cases h
  · obtain ⟨hna, h1⟩ := guardB_true h
    obtain ⟨hnb, h2⟩ := guardB_true h1
    obtain ⟨hok, h3⟩ := guardB_true h2
    clear h h1 h2
    split at h3
    · obtain ⟨b', h4, h5⟩ := eqK_sound hE h3
      rw [forceB_eq] at h4
      refine ⟨_, h4, fun φ κ w y z hy hz => ⟨.bool b', ?_, by simp only [VRel]⟩⟩
      have := h5 φ κ w 10000 y z (by omega) hy hz
      simp only [Sem.run_bind, run_eqGuard_ok .eql hok hy hz, Result.andThen_ok, binOp_eql hna hy, Op.equal, Op.maxDepth, this, Sem.run_pure]
    · obtain ⟨b', h4, h5⟩ := eqK_sound hE h3
      rw [forceB_eq] at h4
      refine ⟨_, h4, fun φ κ w y z hy hz => ⟨.bool (!b'), ?_, by simp only [VRel]⟩⟩
      have := h5 φ κ w 10000 y z (by omega) hy hz
      simp only [Sem.run_bind, run_eqGuard_ok .neq hok hy hz, Result.andThen_ok, binOp_neq hna hy, Op.equal, Op.maxDepth, this, Sem.run_pure]
    · cases h3
end Go.Ev
