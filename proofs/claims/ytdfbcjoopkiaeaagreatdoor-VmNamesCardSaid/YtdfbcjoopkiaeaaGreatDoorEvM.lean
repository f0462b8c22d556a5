/-
  A reckoner for the program's form over abstract values and memory, run by the kernel, and its proof: if it answers, the form's own run answers so, whatever the tape. Part EvM. No condition.
-/
import Derived.Test.YtdfbcjoopkiaeaaGreatDoorEvL
noncomputable section
namespace Go.Ev

variable {X : Fix} {Pr : Nat → Option Obj} {G : Nat → Option Blk} {φ : Nat → Option Nat} {κ : Nat → Nat} {m : Nat → Option Blk} {nx : Nat} {w : World} {E : Env}

theorem shape_of_heap {w : World} {c : Nat} {cs : Array Value} {e : TypeId} {fz : Nat × Nat} (h : w.heap[c]? = some (.cells cs e fz)) : w.shape? c = some (e, cs.size) := by
  simp [World.shape?, h]
theorem run_viewAt {w : World} {c : Nat} {cs : Array Value} {e : TypeId} {fz : Nat × Nat} (P : Program) (h : w.heap[c]? = some (.cells cs e fz)) : (viewAt c).run P w = .ok none w := by
  simp [viewAt, shape_of_heap h]
theorem run_seenAt {w : World} {c off : Nat} {cs : Array Value} {e : TypeId} {fz : Nat × Nat} (P : Program) (h : w.heap[c]? = some (.cells cs e fz)) : (Conv.seenAt ⟨c, off, none⟩).run P w = .ok ⟨c, off, none⟩ w := by
  simp [Conv.seenAt, run_viewAt P h]
theorem convertK_sound (hE : EnvOK E X) {src dst : Nat} {a : AV} {M : Mem} {k : KM} (h : convertK E src dst a M k = true) :
    ∃ v, k v M = true ∧ ∀ Pr G φ κ w y, MRel X Pr G φ κ M.get M.next w → VRel φ κ a y → ∃ x, (convert src dst y).run E.P w = .ok x w ∧ VRel φ κ v x := by
  unfold convertK at h
  obtain ⟨ts, is, ds, zs, h1, hts⟩ := tyK_sound hE h
  obtain ⟨td, id, dd, zd, h2, htd⟩ := tyK_sound hE h1
  clear h1
  have hd := htd.td
  split at h2
  · rename_i kd kn n hk
    rw [hk] at hd
    have hd' : dd = .int kd := hd
    subst hd'
    rw [wrapK_eq] at h2
    refine ⟨_, h2, fun Pr G φ κ w y hm hy => ?_⟩
    simp only [VRel] at hy
    subst hy
    exact ⟨.int kd (kd.wrap n), by simp [convert, hts.run_und, htd.run_und, Conv.intToInt], by simp only [VRel]⟩
  · rename_i n c hk
    rw [hk] at hd
    have hd' : dd = .string := hd
    subst hd'
    refine ⟨_, h2, fun Pr G φ κ w y hm hy => ?_⟩
    have hy' := hy
    simp only [VRel] at hy
    obtain ⟨_, rfl⟩ := hy
    exact ⟨_, by simp only [convert, Sem.run_bind, hts.run_und, htd.run_und, Result.andThen_ok, Sem.run_pure], hy'⟩
  · rename_i b off hk
    rw [hk] at hd
    have hd' : dd = .unsafePointer := hd
    subst hd'
    split at h2
    · rename_i e hs
      have hsd := hts.td
      rw [hs] at hsd
      have hsd' : ds = .pointer e := hsd
      subst hsd'
      obtain ⟨te, ie, de, ze, h3, hte⟩ := tyK_sound hE h2
      obtain ⟨h1s, h3⟩ := guardB_true h3
      have h1s := Nat.le_of_ble_eq_true h1s
      obtain ⟨blk, h4, h5⟩ := blkK_sound h3
      obtain ⟨v0, h6, h7⟩ := cellK_sound h4
      refine ⟨_, h6, fun Pr G φ κ w y hm hy => ?_⟩
      have hy' := hy
      simp only [VRel] at hy
      obtain ⟨c, hc, rfl⟩ := hy
      obtain ⟨o, ho, hr⟩ := hm.blk b c blk hc h5
      obtain ⟨cs, e', fz, x, rfl, hx, hv⟩ := hr.cell h7
      have hlt : off < cs.size := by
        rcases Nat.lt_or_ge off cs.size with h' | h'
        · exact h'
        · rw [Array.getElem?_eq_none h'] at hx; cases hx
      refine ⟨_, ?_, hy'⟩
      simp only [convert, Sem.run_bind, hts.run_und, htd.run_und, Result.andThen_ok, Conv.unsafePointer, run_seenAt E.P ho, cellsIn, run_shape, shape_of_heap ho, Sem.run_pure, hte.run_size]
      rw [if_neg (by simp; omega)]
      simp
    · cases h2
  · rename_i e b off hk
    rw [hk] at hd
    have hd' : dd = .pointer e := hd
    subst hd'
    split at h2
    · rename_i hs
      have hsd := hts.td
      rw [hs] at hsd
      have hsd' : ds = .unsafePointer := hsd
      subst hsd'
      obtain ⟨te, ie, de, ze, h3, hte⟩ := tyK_sound hE h2
      obtain ⟨blk, h4, h5⟩ := blkK_sound h3
      split at h4
      · rename_i e' n d' t'
        cases hl : liesAt E.P E.P.depth e' (n / E.P.cellsOf e') off e 1
        · rw [hl] at h4; cases h4
        · rw [hl] at h4
          simp only [cond_true] at h4
          refine ⟨_, h4, fun Pr G φ κ w y hm hy => ?_⟩
          have hy' := hy
          simp only [VRel] at hy
          obtain ⟨c, hc, rfl⟩ := hy
          obtain ⟨o, ho, cs, rfl, hsz, hcr⟩ := hm.blk b c _ hc h5
          subst hsz
          refine ⟨_, ?_, hy'⟩
          have hva : (variablesAt ⟨c, off, none⟩ e 1).run E.P w = .ok true w := by
            simp [variablesAt, shape_of_heap ho, hl]
          simp only [convert, Sem.run_bind, hts.run_und, htd.run_und, Result.andThen_ok, Conv.unsafePointer, run_seenAt E.P ho]
          simp [hte.run_size, hva]
      · cases h4
    · cases h2
  · cases h2
theorem unK_sound {op : UnOp} {a : AV} {k : K1} (h : unK op a k = true) :
    ∃ v, k v = true ∧ ∀ P φ κ w y, VRel φ κ a y → ∃ x, (Op.unary op y).run P w = .ok x w ∧ VRel φ κ v x := by
  unfold unK at h
  split at h
  · rw [forceB_eq] at h
    refine ⟨_, h, fun P φ κ w y hy => ?_⟩
    simp only [VRel] at hy
    subst hy
    exact ⟨_, by simp [Op.unary]; rfl, by simp only [VRel]⟩
  · rename_i kd n
    rw [wrapK_eq, subI_eq] at h
    refine ⟨_, h, fun P φ κ w y hy => ?_⟩
    simp only [VRel] at hy
    subst hy
    exact ⟨.int kd (kd.wrap (0 - n)), by simp [Op.unary, Op.intArith], by simp only [VRel]⟩
  · cases h
theorem strBytes_inj : ∀ (n a b : Nat), a < 256 ^ n → b < 256 ^ n → strBytes n a = strBytes n b → a = b
  | 0, a, b, ha, hb, _ => by simp at ha hb; omega
  | n + 1, a, b, ha, hb, h => by
    simp only [strBytes] at h
    obtain ⟨h0, h1⟩ := List.cons.inj h
    have e0 : a % 256 = b % 256 := by
      have := congrArg UInt8.toNat h0
      simpa using this
    have e1 := strBytes_inj n (a / 256) (b / 256) (by rw [Nat.pow_succ] at ha; omega) (by rw [Nat.pow_succ] at hb; omega) h1
    omega
theorem str_beq (n a m b : Nat) (ha : a < 256 ^ n) (hb : b < 256 ^ m) : cond (Nat.beq n m) (Nat.beq a b) false = decide (strBytes n a = strBytes m b) := by
  cases h : Nat.beq n m
  · have hne : n ≠ m := fun e => by subst e; simp at h
    have : strBytes n a ≠ strBytes m b := fun e => hne (by have := congrArg List.length e; simpa [strBytes_length] using this)
    simp [this]
  · have := Nat.eq_of_beq_eq_true h
    subst this
    simp only [cond_true]
    cases h2 : Nat.beq a b
    · have hne : a ≠ b := fun e => by subst e; simp at h2
      have : strBytes n a ≠ strBytes n b := fun e => hne (strBytes_inj n a b ha hb e)
      simp [this]
    · have := Nat.eq_of_beq_eq_true h2
      subst this
      simp
end Go.Ev
