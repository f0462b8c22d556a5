/-
  A reckoner for the program's form over abstract values and memory, run by the kernel, and its proof: if it answers, the form's own run answers so, whatever the tape. Part EvH. No condition.
-/
import Derived.Test.YtdfbcjoopkiaeaaGreatDoorEvG
noncomputable section
namespace Go.Ev

variable {X : Fix} {Pr : Nat → Option Obj} {G : Nat → Option Blk} {φ : Nat → Option Nat} {κ : Nat → Nat} {m : Nat → Option Blk} {nx : Nat} {w : World}

theorem put_sound {α : Type} {t : Tr α} {i : Nat} {v : α} {k : Tr α → Bool} (h : t.put i v false k = true) : ∃ t', k t' = true ∧ ∀ j, t'.get j = if i = j then some v else t.get j := by
  unfold Tr.put at h
  cases hb : Nat.ble i 4294967290
  · rw [hb] at h; cases h
  · rw [hb] at h
    simp only [cond_true, Tr.setK_eq] at h
    have := Nat.le_of_ble_eq_true hb
    exact ⟨_, h, fun j => Tr.get_set _ _ _ _ _ (by omega)⟩
theorem setBlk_sound {M : Mem} {b : Nat} {blk : Blk} {k : Mem → Bool} (h : setBlk M b blk k = true) : ∃ M', k M' = true ∧ M'.get = upd M.get b (some blk) ∧ M'.next = M.next := by
  unfold setBlk at h
  obtain ⟨t', h1, h2⟩ := put_sound h
  exact ⟨_, h1, funext fun j => by simp only [Mem.get, upd, h2], rfl⟩
theorem newBlk_sound {M : Mem} {blk : Blk} {k : Nat → Mem → Bool} (h : newBlk M blk k = true) : ∃ M', k M.next M' = true ∧ M'.get = upd M.get M.next (some blk) ∧ M'.next = M.next + 1 := by
  unfold newBlk at h
  obtain ⟨t', h1, h2⟩ := put_sound h
  rw [forceN_eq] at h1
  exact ⟨_, h1, funext fun j => by simp only [Mem.get, upd, h2], rfl⟩
theorem setTrK_sound : ∀ {l : List AV} {t : Tr AV} {n i : Nat} {k : Tr AV → Bool}, setTrK t n l i k = true →
    ∃ t', k t' = true ∧ (l = [] ∨ i + l.length ≤ n) ∧ (∀ j, t'.get j = if i ≤ j ∧ j < i + l.length then l[j - i]? else t.get j) ∧ ∀ u ∈ l, flatV u = true
  | [], t, n, i, k, h => ⟨t, h, .inl rfl, fun j => by simp only [List.length_nil]; rw [if_neg (by omega)], by simp⟩
  | v :: l, t, n, i, k, h => by
    have h' : guardB (Nat.ble (Nat.succ i) n) (guardB (flatV v) (t.put i v false fun t => forceN (i + 1) fun i => setTrK t n l i k)) = true := h
    obtain ⟨hb, h'⟩ := guardB_true h'
    obtain ⟨hf, h'⟩ := guardB_true h'
    obtain ⟨t1, h1, h2⟩ := put_sound h'
    rw [forceN_eq] at h1
    obtain ⟨t', h3, h4, h5, h6⟩ := setTrK_sound h1
    have hb' := Nat.le_of_ble_eq_true hb
    refine ⟨t', h3, .inr ?_, fun j => ?_, by simpa using ⟨hf, h6⟩⟩
    · rcases h4 with h4 | h4
      · subst h4; simp; omega
      · simp only [List.length_cons]; omega
    · rw [h5, h2]
      simp only [List.length_cons]
      by_cases e : i = j
      · subst e
        rw [if_neg (by omega), if_pos (by omega), if_pos (by omega)]; simp
      · by_cases e2 : i + 1 ≤ j ∧ j < i + 1 + l.length
        · rw [if_pos e2, if_pos (by omega), show j - i = (j - (i + 1)) + 1 by omega]; simp
        · rw [if_neg e2, if_neg e, if_neg (by omega)]
theorem CRel.over {n : Nat} {d : List AV} {t t' : Tr AV} {cs : Array Value} {l : List AV} {xs : List Value} {i : Nat} (r : CRel φ κ n d t cs) (hx : LRel φ κ l xs)
    (hl : l = [] ∨ i + l.length ≤ cs.size) (ht : ∀ j, t'.get j = if i ≤ j ∧ j < i + l.length then l[j - i]? else t.get j) : CRel φ κ n d t' (overA cs xs i) := by
  have hlen := hx.length
  intro j v hj hv
  unfold arrAt at hv
  rw [ht j] at hv
  have hget : (overA cs xs i)[j]? = if i ≤ j ∧ j < i + l.length then xs[j - i]? else cs[j]? := by
    rcases hl with hl | hl
    · subst hl
      have : xs = [] := by cases xs <;> simp_all
      subst this
      simp only [overA, List.length_nil]
      rw [if_neg (by omega)]
    · rw [overA_get xs cs i j (by omega), hlen]
  rw [hget]
  by_cases e : i ≤ j ∧ j < i + l.length
  · rw [if_pos e] at hv ⊢
    have hs : l[j - i]? = some l[j - i] := List.getElem?_eq_getElem (by omega)
    rw [hs] at hv
    simp only [Option.some.injEq] at hv
    exact hx.get (j - i) v (by rw [hs, hv])
  · rw [if_neg e] at hv ⊢
    exact r j v hj hv
theorem storeBlk_sound {blk : Blk} {i : Nat} {l : List AV} {k : Blk → Bool} (h : storeBlk blk i l k = true) :
    ∃ blk', k blk' = true ∧ (∀ u ∈ l, flatV u = true) ∧ blk.isDead = false ∧
      ∀ φ κ b o xs, BRel φ κ b blk o → LRel φ κ l xs → ∃ cs e, o = .cells cs e (0, 0) ∧ (l = [] ∨ i + l.length ≤ cs.size) ∧ BRel φ κ b blk' (.cells (overA cs xs i) e (0, 0)) := by
  unfold storeBlk at h
  split at h
  · rename_i e n d t
    obtain ⟨t', h1, h2, h3, h4⟩ := setTrK_sound h
    refine ⟨_, h1, h4, rfl, fun φ κ b o xs hr hx => ?_⟩
    obtain ⟨cs, rfl, hs, hc⟩ := hr
    subst hs
    exact ⟨cs, e, rfl, h2, _, rfl, overA_size _ _ _, hc.over hx h2 h3⟩
  · rename_i e es n d t
    obtain ⟨t', h1, h2, h3, h4⟩ := setTrK_sound h
    refine ⟨_, h1, h4, rfl, fun φ κ b o xs hr hx => ?_⟩
    obtain ⟨cs, rfl, hs, hn, hc⟩ := hr
    have h2' : l = [] ∨ i + l.length ≤ cs.size := h2.imp id fun h => by omega
    exact ⟨cs, e, rfl, h2', _, rfl, by rw [overA_size]; exact hs, by rw [overA_size]; exact hn, hc.over hx h2' h3⟩
  · cases h
theorem run_storeCells' (P : Program) {xs : List Value} {w : World} {c off : Nat} {cs : Array Value} {e : TypeId} (h : w.heap[c]? = some (.cells cs e (0, 0))) (hl : xs = [] ∨ off + xs.length ≤ cs.size)
    (hx : ∀ x ∈ xs, x.oneCell' = true) : (storeCells ⟨c, off, none⟩ xs).run P w = .ok () (World.setObj w c (.cells (overA cs xs off) e (0, 0))) := by
  rcases hl with hl | hl
  · subst hl
    simp only [storeCells, Sem.run_pure, overA]
    rw [setObj_self h]
  · have := run_storeCells P xs 0 w c off cs e h (by omega) hx
    simpa using this
theorem LRel.flat_one : ∀ {l : List AV} {xs : List Value}, LRel φ κ l xs → (∀ u ∈ l, flatV u = true) → ∀ x ∈ xs, x.oneCell' = true
  | [], _, h, _ => by simp only [LRel] at h; subst h; simp
  | v :: l, _, h, hf => by
    simp only [LRel] at h
    obtain ⟨x, xs, rfl, h1, h2⟩ := h
    intro y hy
    rcases List.mem_cons.1 hy with rfl | hy
    · exact Ev.flat_one (hf v (by simp)) h1
    · exact h2.flat_one (fun u hu => hf u (by simp [hu])) y hy
/-- A store of some cells. -/
theorem storeK_sound {M : Mem} {b i : Nat} {l : List AV} {k : Mem → Bool} (h : storeK M b i l k = true) :
    ∃ M', k M' = true ∧ M'.next = M.next ∧ ∀ P X Pr G φ κ w c xs, MRel X Pr G φ κ M.get M.next w → φ b = some c → LRel φ κ l xs →
      ∃ w', (storeCells ⟨c, i, none⟩ xs).run P w = .ok () w' ∧ MRel X Pr G φ κ M'.get M'.next w' := by
  unfold storeK at h
  obtain ⟨blk, h1, h2⟩ := blkK_sound h
  obtain ⟨blk', h3, h4, h5, h6⟩ := storeBlk_sound h1
  obtain ⟨M', h7, h8, h9⟩ := setBlk_sound h3
  refine ⟨M', h7, h9, fun P X Pr G φ κ w c xs hm hb hx => ?_⟩
  obtain ⟨o, ho, hr⟩ := hm.blk b c blk hb h2
  obtain ⟨cs, e, rfl, hl, hr'⟩ := h6 φ κ b o xs hr hx
  have hxl := hx.length
  refine ⟨_, run_storeCells' P ho (hl.imp (fun e => by subst e; cases xs <;> simp_all) (fun e => by omega)) (hx.flat_one h4), ?_⟩
  rw [h8, h9]
  exact hm.write hb h2 h5 hr'

variable {E : Env}
theorem loadK_sound (hE : EnvOK E X) {t : Nat} {a : AV} {M : Mem} {k : K1} (h : loadK E t a M k = true) :
    ∃ v, k v = true ∧ ∀ Pr G φ κ w y, MRel X Pr G φ κ M.get M.next w → VRel φ κ a y → ∃ x, (Instr.loadAt t y).run E.P w = .ok x w ∧ VRel φ κ v x := by
  unfold loadK at h
  obtain ⟨ti, i, d, z, h1, hti⟩ := tyK_sound hE h
  split at h1
  · rename_i b off
    obtain ⟨blk, h2, h3⟩ := blkK_sound h1
    cases hag : ti.agg
    · rw [hag] at h2
      simp only [cond_false] at h2
      obtain ⟨v, h4, h5⟩ := cellK_sound h2
      refine ⟨v, h4, fun Pr G φ κ w y hm hy => ?_⟩
      simp only [VRel] at hy
      obtain ⟨c, hc, rfl⟩ := hy
      obtain ⟨x, hx, hv⟩ := hm.cell hc h3 h5
      exact ⟨x, by simp [Instr.loadAt, Instr.sureAddr, loadVar, hti.run_agg, hag, hx], hv⟩
    · rw [hag] at h2
      simp only [cond_true] at h2
      obtain ⟨l, h4, h5, h6⟩ := cellsK_sound h2
      refine ⟨_, h4, fun Pr G φ κ w y hm hy => ?_⟩
      simp only [VRel] at hy
      obtain ⟨c, hc, rfl⟩ := hy
      obtain ⟨xs, hx, _, hrun⟩ := hm.cells hc h3 h6
      rw [h5] at hrun
      exact ⟨.agg xs.toArray, by simp [Instr.loadAt, Instr.sureAddr, loadVar, hti.run_agg, hag, hti.run_size, hrun], by simp only [VRel]; exact ⟨_, rfl, by simpa using hx⟩⟩
  · rename_i g off
    split at h1
    · rename_i l hl
      cases hag : ti.agg
      · rw [hag] at h1
        simp only [cond_false] at h1
        obtain ⟨v, h2, h3⟩ := nthK_sound h1
        refine ⟨v, h3, fun Pr G φ κ w y hm hy => ?_⟩
        simp only [VRel] at hy
        subst hy
        obtain ⟨cs, e, fz, h4, h5, _⟩ := hm.glob g l (hE.gl g l hl)
        obtain ⟨x, hx, hv⟩ := h5 off v h2
        exact ⟨x, by simp [Instr.loadAt, Instr.sureAddr, loadVar, hti.run_agg, hag, cell_of_heap h4, hx], hv⟩
      · rw [hag] at h1; cases h1
    · cases h1
  · cases h1
theorem storeAtK_sound (hE : EnvOK E X) {t : Nat} {a v : AV} {M : Mem} {k : Mem → Bool} (h : storeAtK E t a v M k = true) :
    ∃ M', k M' = true ∧ M'.next = M.next ∧ ∀ Pr G φ κ w y z, MRel X Pr G φ κ M.get M.next w → VRel φ κ a y → VRel φ κ v z →
      ∃ w', (Instr.storeAt t y z).run E.P w = .ok () w' ∧ MRel X Pr G φ κ M'.get M'.next w' := by
  unfold storeAtK at h
  obtain ⟨ti, i, d, zz, h1, hti⟩ := tyK_sound hE h
  split at h1
  · rename_i b off
    rw [lenK_eq] at h1
    obtain ⟨hn, h1⟩ := guardB_true h1
    have hn := Nat.eq_of_beq_eq_true hn
    obtain ⟨M', h2, h3, h4⟩ := storeK_sound h1
    refine ⟨M', h2, h3, fun Pr G φ κ w y z hm hy hz => ?_⟩
    simp only [VRel] at hy
    obtain ⟨c, hc, rfl⟩ := hy
    have hcz := cells_one hz
    obtain ⟨w', h5, h6⟩ := h4 E.P X Pr G φ κ w c _ hm hc hcz
    have hsz : z.cells.size = ti.size := by rw [← hn, ← hcz.length]; simp
    exact ⟨w', by simp [Instr.storeAt, Instr.sureAddr, storeVar, hti.run_size, hsz, h5], h6⟩
  · cases h1
/-- A new block of cells, out of a list. -/
theorem crel_list {l : List AV} {xs : List Value} (h : LRel φ κ l xs) : CRel φ κ l.length l .nil xs.toArray := by
  intro i v hi hv
  simp only [arrAt, Tr.get_nil] at hv
  rw [Nat.mod_eq_of_lt hi] at hv
  obtain ⟨x, hx, hr⟩ := h.get i v hv
  exact ⟨x, by simpa using hx, hr⟩
theorem MRel.newRow (h : MRel X Pr G φ κ m nx w) {l : List AV} {xs : Array Value} (hl : LRel φ κ l xs.toList) (e : TypeId) :
    MRel X Pr G (upd φ nx (some w.heap.size)) (upd κ nx 0) (upd m nx (some (.cells e l.length l .nil))) (nx + 1) (w.alloc (.cells xs e)) := by
  refine h.alloc 0 ⟨xs, rfl, ?_, ?_⟩
  · have := hl.length; simpa using this
  · have := crel_list (hl.mono (h.ext w.heap.size 0)); simpa using this
theorem newVarK_sound {t : Nat} {v : AV} {M : Mem} {k : KM} (h : newVarK t v M k = true) :
    ∃ M', k (.ptr M.next 0) M' = true ∧ M.next ≤ M'.next ∧ ∀ P X Pr G φ κ w z, MRel X Pr G φ κ M.get M.next w → VRel φ κ v z →
      ∃ w' φ' κ', (newVar t z).run P w = .ok ⟨w.heap.size, 0, none⟩ w' ∧ Ext φ κ φ' κ' ∧ MRel X Pr G φ' κ' M'.get M'.next w' ∧ φ' M.next = some w.heap.size := by
  unfold newVarK at h
  rw [lenK_eq] at h
  obtain ⟨M', h1, h2, h3⟩ := newBlk_sound h
  refine ⟨M', h1, by omega, fun P X Pr G φ κ w z hm hz => ?_⟩
  refine ⟨w.alloc (.cells z.cells t), _, _, ?_, hm.ext w.heap.size 0, ?_, upd_same _ _ _⟩
  · simp [newVar, Go.newRow]
  · rw [h2, h3]; exact hm.newRow (cells_one hz) t
end Go.Ev
