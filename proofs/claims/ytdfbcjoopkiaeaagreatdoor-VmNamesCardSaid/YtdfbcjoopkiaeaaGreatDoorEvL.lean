/-
  A reckoner for the program's form over abstract values and memory, run by the kernel, and its proof: if it answers, the form's own run answers so, whatever the tape. Part EvL. No condition.
-/
import Derived.Test.YtdfbcjoopkiaeaaGreatDoorEvK
noncomputable section
namespace Go.Ev

variable {X : Fix} {Pr : Nat → Option Obj} {G : Nat → Option Blk} {φ : Nat → Option Nat} {κ : Nat → Nat} {m : Nat → Option Blk} {nx : Nat} {w : World} {E : Env}

def ORel (φ : Nat → Option Nat) (κ : Nat → Nat) : Option AV → Option Value → Prop
  | none, y => y = none
  | some u, y => ∃ x, y = some x ∧ VRel φ κ u x
theorem optNat_sound {v : Option AV} {d : Nat} {k : Nat → Bool} (h : optNat v d k = true) :
    ∃ n, k n = true ∧ ((v = none ∧ n = d) ∨ ∃ kd, v = some (.int kd (.ofNat n))) := by
  unfold optNat at h
  split at h
  · exact ⟨d, h, .inl ⟨rfl, rfl⟩⟩
  · obtain ⟨kd, n, rfl, h1⟩ := natIx_sound h; exact ⟨n, h1, .inr ⟨kd, rfl⟩⟩
theorem ORel.nat {v : Option AV} {n d : Nat} {y : Option Value} (h : (v = none ∧ n = d) ∨ ∃ kd, v = some (.int kd (.ofNat n))) (r : ORel φ κ v y) :
    (v = none ∧ y = none ∧ n = d) ∨ ∃ kd, v = some (.int kd (.ofNat n)) ∧ y = some (.int kd (.ofNat n)) := by
  rcases h with ⟨rfl, rfl⟩ | ⟨kd, rfl⟩
  · exact .inl ⟨rfl, r, rfl⟩
  · obtain ⟨x, rfl, hx⟩ := r
    simp only [VRel] at hx
    subst hx
    exact .inr ⟨kd, rfl, rfl⟩
theorem run_sliceBound (P : Program) (w : World) (kd : IntKind) {n y : Nat} (h : n ≤ y) (c : BoundsCode) : (Instr.sliceBound (.int kd (n : Int)) y c).run P w = .ok n w := by
  simp only [Instr.sliceBound, asIntOf, Sem.run_bind, Sem.run_pure, Result.andThen_ok]
  rw [if_pos ⟨by omega, by omega⟩]
  simp
/-- The bounds of a slice expression. -/
theorem run_sliceBounds (P : Program) (w : World) (s : Bool) {len cap l h m : Nat} {lo hi mx : Option AV} {ylo yhi ymx : Option Value} (hhm : okHM hi mx = true)
    (rm : (mx = none ∧ ymx = none ∧ m = cap) ∨ ∃ kd, mx = some (.int kd (.ofNat m)) ∧ ymx = some (.int kd (.ofNat m)))
    (rh : (hi = none ∧ yhi = none ∧ h = len) ∨ ∃ kd, hi = some (.int kd (.ofNat h)) ∧ yhi = some (.int kd (.ofNat h)))
    (rl : (lo = none ∧ ylo = none ∧ l = 0) ∨ ∃ kd, lo = some (.int kd (.ofNat l)) ∧ ylo = some (.int kd (.ofNat l)))
    (hm : m ≤ cap) (hh : yhi = none ∨ h ≤ m) (hl : l ≤ h) : (Instr.sliceBounds s len cap ylo yhi ymx).run P w = .ok (l, h, m) w := by
  rcases rm with ⟨rfl, rfl, rfl⟩ | ⟨km, rfl, rfl⟩
  · rcases rh with ⟨rfl, rfl, rfl⟩ | ⟨kh, rfl, rfl⟩
    · rcases rl with ⟨rfl, rfl, rfl⟩ | ⟨kl, rfl, rfl⟩
      · simp [Instr.sliceBounds]
      · simp [Instr.sliceBounds, run_sliceBound P w kl hl]
    · have hh' : h ≤ m := hh.resolve_left (by simp)
      rcases rl with ⟨rfl, rfl, rfl⟩ | ⟨kl, rfl, rfl⟩
      · simp [Instr.sliceBounds, run_sliceBound P w kh hh']
      · simp [Instr.sliceBounds, run_sliceBound P w kh hh', run_sliceBound P w kl hl]
  · rcases rh with ⟨rfl, rfl, rfl⟩ | ⟨kh, rfl, rfl⟩
    · simp [okHM] at hhm
    · have hh' : h ≤ m := hh.resolve_left (by simp)
      rcases rl with ⟨rfl, rfl, rfl⟩ | ⟨kl, rfl, rfl⟩
      · simp [Instr.sliceBounds, run_sliceBound P w km hm, run_sliceBound P w kh hh']
      · simp [Instr.sliceBounds, run_sliceBound P w km hm, run_sliceBound P w kh hh', run_sliceBound P w kl hl]
theorem cond_addr (m l off s : Nat) : cond (Nat.beq m l) off (off + l * s) = if m = l then off else off + l * s := by
  cases hb : Nat.beq m l
  · rw [if_neg (fun e => by subst e; simp at hb)]; rfl
  · rw [if_pos (Nat.eq_of_beq_eq_true hb)]; rfl
theorem strBytes_extract (n c l h : Nat) (h1 : l ≤ h) (h2 : h ≤ n) :
    strBytes (h - l) (Nat.shiftRight c (8 * l) % 2 ^ (8 * (h - l))) = (strBytes n c).extract l h := by
  rw [shr_pow, List.extract_eq_take_drop, Nat.pow_mul]
  refine List.ext_getElem? fun i => ?_
  by_cases hi : i < h - l
  · rw [strBytes_get _ _ _ hi, List.getElem?_take_of_lt hi, List.getElem?_drop, strBytes_get n c (l + i) (by omega)]
    congr 2
    have e1 : (2 ^ 8) ^ (h - l) = 256 ^ i * 256 ^ (h - l - i) := by rw [← Nat.pow_add]; congr 1; omega
    rw [e1, Nat.mod_mul_right_div_self, Nat.div_div_eq_div_mul, ← Nat.pow_add]
    have e2 : 256 ^ (h - l - i) = 256 * 256 ^ (h - l - i - 1) := by rw [← Nat.pow_succ']; congr 1; omega
    rw [e2, Nat.mod_mul_right_mod]
  · rw [List.getElem?_eq_none (by rw [strBytes_length]; omega), List.getElem?_eq_none (by simp [strBytes_length]; omega)]
theorem sliceK_sound (hE : EnvOK E X) {t : Nat} {a : AV} {lo hi mx : Option AV} {k : K1} (h : sliceK E t a lo hi mx k = true) :
    ∃ v, k v = true ∧ ∀ φ κ w y ylo yhi ymx, VRel φ κ a y → ORel φ κ lo ylo → ORel φ κ hi yhi → ORel φ κ mx ymx →
      ∃ x, (Instr.sliceAt t y ylo yhi ymx).run E.P w = .ok x w ∧ VRel φ κ v x := by
  unfold sliceK at h
  obtain ⟨hhm, hk⟩ := guardB_true h
  clear h
  obtain ⟨ti, i, d, z, h1, hti⟩ := tyK_sound hE hk
  have htd := hti.td
  split at h1
  · rename_i n c hd
    rw [hd] at htd
    have htd' : d = .string := htd
    subst htd'
    split at h1
    · obtain ⟨hh, h2, rh⟩ := optNat_sound h1
      obtain ⟨ll, h3, rl⟩ := optNat_sound h2
      obtain ⟨b1, h3⟩ := guardB_true h3
      obtain ⟨b2, h3⟩ := guardB_true h3
      have b1 := Nat.le_of_ble_eq_true b1
      have b2 := Nat.le_of_ble_eq_true b2
      simp only [forceN_eq] at h3
      refine ⟨_, h3, fun φ κ w y ylo yhi ymx hy rlo rhi rmx => ?_⟩
      simp only [VRel] at hy
      obtain ⟨_, rfl⟩ := hy
      have hymx : ymx = none := rmx
      subst hymx
      have hb := run_sliceBounds E.P w false (len := (ByteArray.mk (strBytes n c).toArray).size) (cap := (ByteArray.mk (strBytes n c).toArray).size) hhm (.inl ⟨rfl, rfl, rfl⟩)
        (by simpa [ByteArray.size, strBytes_length] using rhi.nat rh) (rlo.nat rl) (Nat.le_refl _) (.inr (by simpa [ByteArray.size, strBytes_length] using b1)) b2
      refine ⟨.string ((ByteArray.mk (strBytes n c).toArray).extract ll hh), ?_, ?_⟩
      · simp [Instr.sliceAt, Instr.slice, hti.run_und, hb]
      · simp only [VRel]
        refine ⟨by rw [Nat.pow_mul]; exact Nat.mod_lt _ (Nat.pow_pos (by omega)), ?_⟩
        congr 1
        rw [strBytes_extract n c ll hh b2 b1]
        apply ByteArray.ext
        apply Array.ext'
        simp [ByteArray.data_extract]
    · cases h1
  · rename_i e b off len cap hd
    rw [hd] at htd
    have htd' : d = .slice e := htd
    subst htd'
    obtain ⟨te, ie, de, ze, h2, hte⟩ := tyK_sound hE h1
    split at h2
    · rename_i c
      obtain ⟨mm, h3, rm⟩ := optNat_sound h2
      obtain ⟨hh, h4, rh⟩ := optNat_sound h3
      obtain ⟨ll, h5, rl⟩ := optNat_sound h4
      obtain ⟨b0, h5⟩ := guardB_true h5
      obtain ⟨b1, h5⟩ := guardB_true h5
      obtain ⟨b2, h5⟩ := guardB_true h5
      have b0 := Nat.le_of_ble_eq_true b0
      have b1 := Nat.le_of_ble_eq_true b1
      have b2 := Nat.le_of_ble_eq_true b2
      simp only [forceN_eq, cond_addr] at h5
      refine ⟨_, h5, fun φ κ w y ylo yhi ymx hy rlo rhi rmx => ?_⟩
      simp only [VRel] at hy
      obtain ⟨cc, q, hcc, rfl, hq⟩ := hy
      have hq : q = c := hq
      subst hq
      have hb := run_sliceBounds E.P w true (len := len) (cap := q) hhm (rmx.nat rm) (rhi.nat rh) (rlo.nat rl) b0 (.inr b1) b2
      refine ⟨.slice (some ⟨cc, if mm = ll then off else off + ll * te.size, none⟩) (hh - ll) (mm - ll), ?_, by simp only [VRel]; exact ⟨cc, _, hcc, rfl, rfl⟩⟩
      simp only [Instr.sliceAt, Instr.slice, Sem.run_bind, hti.run_und, Result.andThen_ok, hb, hte.run_size, Sem.run_pure]
      congr 2
      split <;> simp [addr_add]
    · rename_i j
      split at h2
      · obtain ⟨hh, h4, rh⟩ := optNat_sound h2
        obtain ⟨ll, h5, rl⟩ := optNat_sound h4
        obtain ⟨b1, h5⟩ := guardB_true h5
        obtain ⟨b2, h5⟩ := guardB_true h5
        have b1 := Nat.le_of_ble_eq_true b1
        have b2 := Nat.le_of_ble_eq_true b2
        simp only [forceN_eq] at h5
        cases hl0 : Nat.beq ll 0
        · rw [hl0] at h5
          simp only [cond_false] at h5
          obtain ⟨b3, h5⟩ := guardB_true h5
          have b3 := Nat.le_of_ble_eq_true b3
          refine ⟨_, h5, fun φ κ w y ylo yhi ymx hy rlo rhi rmx => ?_⟩
          simp only [VRel] at hy
          obtain ⟨cc, q, hcc, rfl, hq1, hq2⟩ := hy
          have hymx : ymx = none := rmx
          subst hymx
          have hb := run_sliceBounds E.P w true (len := len) (cap := q) hhm (.inl ⟨rfl, rfl, rfl⟩) (rhi.nat rh) (rlo.nat rl) (Nat.le_refl _) (.inr (by omega)) b2
          refine ⟨.slice (some ⟨cc, off + ll * te.size, none⟩) (hh - ll) (q - ll), ?_, by simp only [VRel]; exact ⟨cc, _, hcc, rfl, by omega, by omega⟩⟩
          simp only [Instr.sliceAt, Instr.slice, Sem.run_bind, hti.run_und, Result.andThen_ok, hb, hte.run_size, Sem.run_pure]
          rw [if_neg (by omega)]
          simp [addr_add]
        · rw [hl0] at h5
          have hl0 := Nat.eq_of_beq_eq_true hl0
          subst hl0
          simp only [cond_true] at h5
          refine ⟨_, h5, fun φ κ w y ylo yhi ymx hy rlo rhi rmx => ?_⟩
          simp only [VRel] at hy
          obtain ⟨cc, q, hcc, rfl, hq1, hq2⟩ := hy
          have hymx : ymx = none := rmx
          subst hymx
          have hb := run_sliceBounds E.P w true (len := len) (cap := q) hhm (.inl ⟨rfl, rfl, rfl⟩) (rhi.nat rh) (rlo.nat rl) (Nat.le_refl _) (.inr (by omega)) b2
          refine ⟨.slice (some ⟨cc, off, none⟩) hh q, ?_, by simp only [VRel]; exact ⟨cc, _, hcc, rfl, by omega, by omega⟩⟩
          simp only [Instr.sliceAt, Instr.slice, Sem.run_bind, hti.run_und, Result.andThen_ok, hb, hte.run_size, Sem.run_pure]
          split <;> simp [addr_add]
      · rename_i mv
        obtain ⟨kdm, mm, rfl, h3⟩ := natIx_sound h2
        obtain ⟨hh, h4, rh⟩ := optNat_sound h3
        obtain ⟨ll, h5, rl⟩ := optNat_sound h4
        obtain ⟨b0, h5⟩ := guardB_true h5
        obtain ⟨b1, h5⟩ := guardB_true h5
        obtain ⟨b2, h5⟩ := guardB_true h5
        have b0 := Nat.le_of_ble_eq_true b0
        have b1 := Nat.le_of_ble_eq_true b1
        have b2 := Nat.le_of_ble_eq_true b2
        simp only [forceN_eq, cond_addr] at h5
        refine ⟨_, h5, fun φ κ w y ylo yhi ymx hy rlo rhi rmx => ?_⟩
        simp only [VRel] at hy
        obtain ⟨cc, q, hcc, rfl, hq1, hq2⟩ := hy
        have hb := run_sliceBounds E.P w true (len := len) (cap := q) hhm (rmx.nat (d := 0) (.inr ⟨kdm, rfl⟩) |>.imp (fun h => by cases h.1) id) (rhi.nat rh) (rlo.nat rl) (by omega) (.inr b1) b2
        refine ⟨.slice (some ⟨cc, if mm = ll then off else off + ll * te.size, none⟩) (hh - ll) (mm - ll), ?_, by simp only [VRel]; exact ⟨cc, _, hcc, rfl, rfl⟩⟩
        simp only [Instr.sliceAt, Instr.slice, Sem.run_bind, hti.run_und, Result.andThen_ok, hb, hte.run_size, Sem.run_pure]
        congr 2
        split <;> simp [addr_add]
  · rename_i e hd
    rw [hd] at htd
    have htd' : d = .slice e := htd
    subst htd'
    obtain ⟨te, ie, de, ze, h2, hte⟩ := tyK_sound hE h1
    obtain ⟨mm, h3, rm⟩ := optNat_sound h2
    obtain ⟨hh, h4, rh⟩ := optNat_sound h3
    obtain ⟨ll, h5, rl⟩ := optNat_sound h4
    obtain ⟨b0, h5⟩ := guardB_true h5
    obtain ⟨b1, h5⟩ := guardB_true h5
    obtain ⟨b2, h5⟩ := guardB_true h5
    have b0 := Nat.eq_of_beq_eq_true b0
    have b1 := Nat.eq_of_beq_eq_true b1
    have b2 := Nat.eq_of_beq_eq_true b2
    subst b0 b1 b2
    refine ⟨_, h5, fun φ κ w y ylo yhi ymx hy rlo rhi rmx => ?_⟩
    simp only [VRel] at hy
    subst hy
    have hb := run_sliceBounds E.P w true (len := 0) (cap := 0) hhm (rmx.nat rm) (rhi.nat rh) (rlo.nat rl) (Nat.le_refl _) (.inr (Nat.le_refl _)) (Nat.le_refl _)
    refine ⟨.slice none 0 0, ?_, by simp only [VRel]⟩
    simp [Instr.sliceAt, Instr.slice, hti.run_und, hb, hte.run_size]
  · rename_i n e b off hd
    rw [hd] at htd
    have htd' : d = .array n e := htd
    subst htd'
    obtain ⟨te, ie, de, ze, h2, hte⟩ := tyK_sound hE h1
    obtain ⟨mm, h3, rm⟩ := optNat_sound h2
    obtain ⟨hh, h4, rh⟩ := optNat_sound h3
    obtain ⟨ll, h5, rl⟩ := optNat_sound h4
    obtain ⟨b0, h5⟩ := guardB_true h5
    obtain ⟨b1, h5⟩ := guardB_true h5
    obtain ⟨b2, h5⟩ := guardB_true h5
    have b0 := Nat.le_of_ble_eq_true b0
    have b1 := Nat.le_of_ble_eq_true b1
    have b2 := Nat.le_of_ble_eq_true b2
    simp only [forceN_eq, cond_addr] at h5
    refine ⟨_, h5, fun φ κ w y ylo yhi ymx hy rlo rhi rmx => ?_⟩
    simp only [VRel] at hy
    obtain ⟨cc, hcc, rfl⟩ := hy
    have hb := run_sliceBounds E.P w false (len := n) (cap := n) hhm (rmx.nat rm) (rhi.nat rh) (rlo.nat rl) b0 (.inr b1) b2
    refine ⟨.slice (some ⟨cc, if mm = ll then off else off + ll * te.size, none⟩) (hh - ll) (mm - ll), ?_, by simp only [VRel]; exact ⟨cc, _, hcc, rfl, rfl⟩⟩
    simp only [Instr.sliceAt, Sem.run_bind, hti.run_und, Result.andThen_ok, hb, hte.run_size, Sem.run_pure, Instr.sureAddr]
    congr 2
    split <;> simp [addr_add]
  · cases h1
end Go.Ev
