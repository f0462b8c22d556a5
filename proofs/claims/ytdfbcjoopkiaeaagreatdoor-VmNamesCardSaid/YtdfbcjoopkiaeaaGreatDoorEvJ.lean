/-
  A reckoner for the program's form over abstract values and memory, run by the kernel, and its proof: if it answers, the form's own run answers so, whatever the tape. Part EvJ. No condition.
-/
import Derived.Test.YtdfbcjoopkiaeaaGreatDoorEvI
noncomputable section
namespace Go.Ev

variable {X : Fix} {Pr : Nat → Option Obj} {G : Nat → Option Blk} {φ : Nat → Option Nat} {κ : Nat → Nat} {m : Nat → Option Blk} {nx : Nat} {w : World} {E : Env}

theorem run_mapM_list {α β : Type} (P : Program) (w : World) (f : α → Sem β) (g : α → β) : ∀ (l : List α), (∀ x ∈ l, (f x).run P w = .ok (g x) w) → (l.mapM f).run P w = .ok (l.map g) w
  | [], _ => by simp
  | x :: l, h => by
    rw [List.mapM_cons]
    simp only [Sem.run_bind, h x (by simp), Result.andThen_ok, run_mapM_list P w f g l (fun y hy => h y (by simp [hy])), Sem.run_pure, List.map_cons]
theorem run_mapM {α β : Type} (P : Program) (w : World) (f : α → Sem β) (g : α → β) (a : Array α) (h : ∀ x ∈ a.toList, (f x).run P w = .ok (g x) w) : (a.mapM f).run P w = .ok (a.map g) w := by
  rw [Array.mapM_eq_mapM_toList]
  simp only [Sem.run_map, run_mapM_list P w f g _ h, Result.andThen_ok]
  congr 1
  apply Array.ext'
  simp

theorem FRel.infos {P : Program} : ∀ {ps : List (Nat × Nat × Nat)} {fs : List Field}, FRel P ps fs → ∀ f ∈ fs, ∃ i, P.info? f.type = some i
  | [], _, r, f, h => by rw [show _ = [] from r] at h; cases h
  | p :: ps, _, r, f, h => by
    obtain ⟨g, fs, ii, rfl, h1, h2, h3, h4, _, h5⟩ := r
    rcases List.mem_cons.1 h with rfl | h
    · exact ⟨ii, h3⟩
    · exact h5.infos f h
theorem buildK_sound (hE : EnvOK E X) {t : Nat} {ps : List (Nat × AV)} {k : K1} (h : buildK E t ps k = true) :
    ∃ v, k v = true ∧ ∀ φ κ w qs, PRel φ κ ps qs → ∃ x, (Instr.build t qs.toArray).run E.P w = .ok x w ∧ VRel φ κ v x := by
  unfold buildK at h
  obtain ⟨ti, i, d, z, h1, hti⟩ := tyK_sound hE h
  have htd := hti.td
  split at h1
  · rename_i fs hfs
    rw [hfs] at htd
    obtain ⟨Fs, rfl, hF⟩ := htd
    obtain ⟨l', h2, h3⟩ := fillK_sound (fieldPlace_ok hF (places := Fs.map fun f => (f.offset, ((E.P.info? f.type).map (·.size)).getD 0)) (fun i f ii hi hii => by
      rw [Array.getElem?_toList] at hi
      simp [hi, hii])) h1
    refine ⟨_, h2, fun φ κ w qs hq => ?_⟩
    obtain ⟨ys, h4, h5⟩ := h3 φ κ z.cells qs (hti.zrel φ κ) hq
    refine ⟨.agg ys, ?_, by simp only [VRel]; exact ⟨_, rfl, h5⟩⟩
    simp only [Instr.build, Sem.run_bind, hti.run_zero, Result.andThen_ok, hti.run_und]
    rw [run_mapM E.P w _ (fun f => (f.offset, ((E.P.info? f.type).map (·.size)).getD 0)) Fs (fun f hf => by
      obtain ⟨ii, hii⟩ := hF.infos f hf
      simp [sizeOf, typeInfo, hii])]
    simp only [Result.andThen_ok]
    rw [h4]
    simp
  · rename_i n e hd
    rw [hd] at htd
    have htd' : d = .array n e := htd
    subst htd'
    obtain ⟨te, ie, de, ze, h2, hte⟩ := tyK_sound hE h1
    obtain ⟨l', h3, h4⟩ := fillK_sound (pc := fun i => some (i * te.size, te.size)) (fun i k hk => by rw [forceN_eq] at hk; exact ⟨_, _, rfl, hk⟩) h2
    refine ⟨_, h3, fun φ κ w qs hq => ?_⟩
    obtain ⟨ys, h5, h6⟩ := h4 φ κ z.cells qs (hti.zrel φ κ) hq
    refine ⟨.agg ys, ?_, by simp only [VRel]; exact ⟨_, rfl, h6⟩⟩
    simp only [Instr.build, Sem.run_bind, hti.run_zero, Result.andThen_ok, hti.run_und, hte.run_size]
    rw [h5]
    simp
  · cases h1

theorem appK_eq : ∀ (a b : List AV) (k : List AV → Bool), appK a b k = k (a ++ b)
  | [], b, k => rfl
  | x :: a, b, k => by
    show appK a b (fun r => k (x :: r)) = _
    rw [appK_eq a b]; rfl
def repL (z : List AV) : Nat → List AV
  | 0 => []
  | n + 1 => z ++ repL z n
theorem repK_eq (z : List AV) : ∀ (n : Nat) (k : List AV → Bool), repK z n k = k (repL z n)
  | 0, k => rfl
  | n + 1, k => by
    show repK z n (fun r => appK z r k) = _
    rw [repK_eq z n, appK_eq]; rfl
theorem repL_length (z : List AV) : ∀ n, (repL z n).length = n * z.length
  | 0 => by simp [repL]
  | n + 1 => by simp [repL, repL_length z n, Nat.succ_mul]; omega
theorem repL_get (z : List AV) : ∀ (n i : Nat), i < n * z.length → (repL z n)[i]? = z[i % z.length]?
  | 0, i, h => by simp at h
  | n + 1, i, h => by
    simp only [repL]
    rw [List.getElem?_append]
    by_cases e : i < z.length
    · rw [if_pos e, Nat.mod_eq_of_lt e]
    · have h' : i < n * z.length + z.length := by rw [← Nat.succ_mul]; exact h
      rw [if_neg e, repL_get z n _ (by omega)]
      congr 1
      exact (Nat.mod_eq_sub_mod (by omega)).symm
/-- A row of zeros, as the model lays it. -/
theorem rep_rel {zs : List AV} {z : Array Value} (h : LRel φ κ zs z.toList) {n q : Nat} (hq : q = n * zs.length) (hz : 0 < zs.length) :
    LRel φ κ (repL zs n) ((Array.range q).map (z[· % z.size]!)).toList := by
  have hl : z.size = zs.length := by have := h.length; simpa using this
  subst hq
  refine LRel.of_get (by simp [repL_length]) fun i v x hv hx => ?_
  have hi : i < n * zs.length := by
    rcases Nat.lt_or_ge i (n * zs.length) with h' | h'
    · exact h'
    · rw [List.getElem?_eq_none (by rw [repL_length]; exact h')] at hv; cases hv
  rw [repL_get zs n i hi] at hv
  obtain ⟨y, hy, hr⟩ := h.get _ v hv
  have hm : i % zs.length < z.size := by rw [hl]; exact Nat.mod_lt _ hz
  rw [Array.getElem?_toList] at hx hy
  simp only [Array.getElem?_map, Array.getElem?_range, hi, if_true, Option.map_some, Option.some.injEq, hl] at hx
  rw [getElem!_pos z _ hm] at hx
  rw [Array.getElem?_eq_getElem hm] at hy
  simp only [Option.some.injEq] at hy
  rw [← hx, hy]; exact hr
theorem buildSliceK_sound (hE : EnvOK E X) {t len : Nat} {ps : List (Nat × AV)} {M : Mem} {k : KM} (h : buildSliceK E t len ps M k = true) :
    ∃ v M', k v M' = true ∧ M.next ≤ M'.next ∧ ∀ Pr G φ κ w qs, MRel X Pr G φ κ M.get M.next w → PRel φ κ ps qs →
      ∃ x w' φ' κ', (Instr.buildSlice t len qs.toArray).run E.P w = .ok x w' ∧ Ext φ κ φ' κ' ∧ MRel X Pr G φ' κ' M'.get M'.next w' ∧ VRel φ' κ' v x := by
  unfold buildSliceK at h
  obtain ⟨ti, i, d, z, h1, hti⟩ := tyK_sound hE h
  have htd := hti.td
  split at h1
  · rename_i e hd
    rw [hd] at htd
    have htd' : d = .slice e := htd
    subst htd'
    obtain ⟨te, ie, de, ze, h2, hte⟩ := tyK_sound hE h1
    obtain ⟨h1s, h2⟩ := guardB_true h2
    obtain ⟨hb, h2⟩ := guardB_true h2
    have h1s := Nat.le_of_ble_eq_true h1s
    have hb := Nat.le_of_ble_eq_true hb
    rw [forceN_eq, repK_eq] at h2
    obtain ⟨l', h3, h4⟩ := fillK_sound (pc := fun i => some (i * te.size, te.size)) (fun i k hk => by rw [forceN_eq] at hk; exact ⟨_, _, rfl, hk⟩) h2
    rw [lenK_eq] at h3
    obtain ⟨hn, h3⟩ := guardB_true h3
    have hn := Nat.eq_of_beq_eq_true hn
    obtain ⟨M', h5, h6, h7⟩ := newBlk_sound h3
    refine ⟨_, M', h5, by omega, fun Pr G φ κ w qs hm hq => ?_⟩
    have fin : ∀ zz : Array Value, LRel φ κ (repL te.zero len) ((Array.range (len * te.size)).map (zz[· % zz.size]!)).toList →
        (len * te.size = 0 ∧ zz = #[] ∨ len * te.size ≠ 0 ∧ zz = ze.cells) →
        ∃ x w' φ' κ', (Instr.buildSlice t len qs.toArray).run E.P w = .ok x w' ∧ Ext φ κ φ' κ' ∧ MRel X Pr G φ' κ' M'.get M'.next w' ∧ VRel φ' κ' (.slice M.next 0 len (.k len)) x := by
      intro zz hcells hzz
      obtain ⟨ys, h8, h9⟩ := h4 φ κ _ qs hcells hq
      refine ⟨.slice (some ⟨w.heap.size, 0, none⟩) len len, w.alloc (.cells ys e), _, _, ?_, hm.ext w.heap.size 0, ?_, ?_⟩
      · simp only [Instr.buildSlice, Sem.run_bind, hti.run_und, Result.andThen_ok, hte.run_size]
        rw [if_neg (by omega)]
        rcases hzz with ⟨h0, rfl⟩ | ⟨h0, rfl⟩
        · rw [if_pos h0]
          simp only [Sem.run_bind, Sem.run_pure, Result.andThen_ok]
          rw [h8]
          simp [Go.newRow]
        · rw [if_neg h0]
          simp only [Sem.run_bind, Sem.run_pure, Result.andThen_ok, hte.run_zero]
          rw [h8]
          simp [Go.newRow]
      · rw [h6, h7]; exact hm.newRow h9 e
      · simp only [VRel]; exact ⟨_, _, upd_same _ _ _, rfl, rfl⟩
    by_cases h0 : len * te.size = 0
    · refine fin #[] ?_ (.inl ⟨h0, rfl⟩)
      have hl0 : len = 0 := (Nat.mul_eq_zero.1 h0).resolve_right (by omega)
      subst hl0
      simp [repL, LRel.nil]
    · exact fin ze.cells (rep_rel (hte.zrel φ κ) (by rw [hte.zlen]) (by rw [hte.zlen]; omega)) (.inr ⟨h0, rfl⟩)
  · cases h1
end Go.Ev
