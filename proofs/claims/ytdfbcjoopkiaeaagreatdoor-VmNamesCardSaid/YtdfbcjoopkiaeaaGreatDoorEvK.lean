/-
  A reckoner for the program's form over abstract values and memory, run by the kernel, and its proof: if it answers, the form's own run answers so, whatever the tape. Part EvK. No condition.
-/
import Derived.Test.YtdfbcjoopkiaeaaGreatDoorEvJ
noncomputable section
namespace Go.Ev

variable {X : Fix} {Pr : Nat → Option Obj} {G : Nat → Option Blk} {φ : Nat → Option Nat} {κ : Nat → Nat} {m : Nat → Option Blk} {nx : Nat} {w : World} {E : Env}

theorem wrap_small (n : Nat) (h : n ≤ 9223372036854775807) : IntKind.i64.wrap (.ofNat n) = .ofNat n := wrap_i64 _ ⟨by simp only [Int.ofNat_eq_natCast]; omega, by simp only [Int.ofNat_eq_natCast]; omega⟩
theorem zeros_crel {zs : List AV} {z : Array Value} (h : LRel φ κ zs z.toList) {n : Nat} (hz : 0 < zs.length) :
    CRel φ κ n zs .nil ((Array.range n).map (z[· % z.size]!)) := by
  have hl : z.size = zs.length := by have := h.length; simpa using this
  intro i v hi hv
  simp only [arrAt, Tr.get_nil] at hv
  obtain ⟨y, hy, hr⟩ := h.get _ v hv
  have hm : i % zs.length < z.size := by rw [hl]; exact Nat.mod_lt _ hz
  refine ⟨y, ?_, hr⟩
  simp only [Array.getElem?_map, Array.getElem?_range, hi, if_true, Option.map_some, hl]
  rw [getElem!_pos z _ hm]
  rw [Array.getElem?_toList, Array.getElem?_eq_getElem hm] at hy
  exact hy
theorem makeSliceK_sound (hE : EnvOK E X) {t : Nat} {len cap : AV} {M : Mem} {k : KM} (h : makeSliceK E t len cap M k = true) :
    ∃ v M', k v M' = true ∧ M.next ≤ M'.next ∧ ∀ Pr G φ κ w y z, MRel X Pr G φ κ M.get M.next w → VRel φ κ len y → VRel φ κ cap z →
      ∃ x w' φ' κ', (Instr.makeSlice t y z).run E.P w = .ok x w' ∧ Ext φ κ φ' κ' ∧ MRel X Pr G φ' κ' M'.get M'.next w' ∧ VRel φ' κ' v x := by
  unfold makeSliceK at h
  obtain ⟨ti, i, d, z, h1, hti⟩ := tyK_sound hE h
  have htd := hti.td
  split at h1
  · rename_i e kl l kc c hd
    rw [hd] at htd
    have htd' : d = .slice e := htd
    subst htd'
    obtain ⟨te, ie, de, ze, h2, hte⟩ := tyK_sound hE h1
    obtain ⟨hlc, h2⟩ := guardB_true h2
    obtain ⟨hc, h2⟩ := guardB_true h2
    obtain ⟨hb, h2⟩ := guardB_true h2
    obtain ⟨h1s, h2⟩ := guardB_true h2
    have hlc := Nat.le_of_ble_eq_true hlc
    have hc := Nat.le_of_ble_eq_true hc
    have hb := Nat.le_of_ble_eq_true hb
    have h1s := Nat.le_of_ble_eq_true h1s
    simp only [forceN_eq] at h2
    obtain ⟨M', h5, h6, h7⟩ := newBlk_sound h2
    refine ⟨_, M', h5, by omega, fun Pr G φ κ w y zz hm hy hz => ?_⟩
    simp only [VRel] at hy hz
    subst hy hz
    have hbc : te.bytes * c ≤ 65536 * 4294967296 := Nat.mul_le_mul hb hc
    have fin : ∀ zz : Array Value, CRel φ κ (c * te.size) te.zero .nil ((Array.range (c * te.size)).map (zz[· % zz.size]!)) →
        (c * te.size = 0 ∧ zz = #[] ∨ c * te.size ≠ 0 ∧ zz = ze.cells) →
        ∃ x w' φ' κ', (Instr.makeSlice t (.int kl (.ofNat l)) (.int kc (.ofNat c))).run E.P w = .ok x w' ∧ Ext φ κ φ' κ' ∧ MRel X Pr G φ' κ' M'.get M'.next w' ∧ VRel φ' κ' (.slice M.next 0 l (.k c)) x := by
      intro zz hcells hzz
      refine ⟨.slice (some ⟨w.heap.size, 0, none⟩) l c, w.alloc (.cells ((Array.range (c * te.size)).map (zz[· % zz.size]!)) e), _, _, ?_, hm.ext w.heap.size 0, ?_, ?_⟩
      · simp only [Instr.makeSlice, Sem.run_bind, hti.run_und, Result.andThen_ok, hte.run_info, asInt, asIntOf, Sem.run_pure]
        rw [wrap_small l (by omega), wrap_small c (by omega)]
        rw [if_neg (by
          rw [hte.bytes]
          simp only [Int.ofNat_eq_natCast, Bool.or_eq_true, decide_eq_true_eq, not_or]
          refine ⟨⟨⟨by omega, ?_⟩, by omega⟩, by omega⟩
          have : (te.bytes : Int) * (c : Int) = ((te.bytes * c : Nat) : Int) := by norm_cast
          rw [this]
          have h248 : (2 : Int) ^ 48 = 281474976710656 := rfl
          rw [h248]
          omega)]
        simp only [Sem.run_bind, run_askRoom, Result.andThen_ok, hte.run_size, Int.ofNat_eq_natCast, Int.toNat_natCast]
        rcases hzz with ⟨h0, rfl⟩ | ⟨h0, rfl⟩
        · rw [if_pos h0]
          simp [Go.newRow]
        · rw [if_neg h0]
          simp [Go.newRow, hte.run_zero]
      · rw [h6, h7]
        exact hm.alloc 0 ⟨_, rfl, by simp, hcells.mono (hm.ext _ _)⟩
      · simp only [VRel]; exact ⟨_, _, upd_same _ _ _, rfl, rfl⟩
    by_cases h0 : c * te.size = 0
    · refine fin #[] ?_ (.inl ⟨h0, rfl⟩)
      rw [h0]
      intro i v hi; omega
    · exact fin ze.cells (zeros_crel (hte.zrel φ κ) (by rw [hte.zlen]; omega)) (.inr ⟨h0, rfl⟩)
  · cases h1

theorem natIx_sound {v : AV} {k : Nat → Bool} (h : natIx v k = true) : ∃ kd n, v = .int kd (.ofNat n) ∧ k n = true := by
  unfold natIx at h
  split at h
  · exact ⟨_, _, rfl, h⟩
  · cases h
theorem indexAddrK_sound (hE : EnvOK E X) {t : Nat} {a b : AV} {k : K1} (h : indexAddrK E t a b k = true) :
    ∃ v, k v = true ∧ ∀ φ κ w y z, VRel φ κ a y → VRel φ κ b z → ∃ x, (Instr.indexAt t y z).run E.P w = .ok x w ∧ VRel φ κ v x := by
  unfold indexAddrK at h
  obtain ⟨ti, i, d, z, h1, hti⟩ := tyK_sound hE h
  obtain ⟨kd, n, rfl, hx⟩ := natIx_sound h1
  clear h1
  have htd := hti.td
  split at hx
  · rename_i e b off len cap hd
    rw [hd] at htd
    have htd' : d = .slice e := htd
    subst htd'
    obtain ⟨te, ie, de, ze, h2, hte⟩ := tyK_sound hE hx
    obtain ⟨hl, h2⟩ := guardB_true h2
    have hl := Nat.le_of_ble_eq_true hl
    rw [forceN_eq] at h2
    refine ⟨_, h2, fun φ κ w y zz hy hz => ?_⟩
    simp only [VRel] at hy hz
    obtain ⟨c, q, hc, rfl, _⟩ := hy
    subst hz
    refine ⟨_, ?_, by simp only [VRel]; exact ⟨c, hc, rfl⟩⟩
    simp only [Instr.indexAt, asIntOf, Sem.run_bind, Sem.run_pure, Result.andThen_ok, hti.run_und]
    rw [if_pos ⟨by simp only [Int.ofNat_eq_natCast]; omega, by simp only [Int.ofNat_eq_natCast]; omega⟩]
    simp [hte.run_size, addr_add]
  · rename_i len e b off hd
    rw [hd] at htd
    have htd' : d = .array len e := htd
    subst htd'
    obtain ⟨te, ie, de, ze, h2, hte⟩ := tyK_sound hE hx
    obtain ⟨hl, h2⟩ := guardB_true h2
    have hl := Nat.le_of_ble_eq_true hl
    rw [forceN_eq] at h2
    refine ⟨_, h2, fun φ κ w y zz hy hz => ?_⟩
    simp only [VRel] at hy hz
    obtain ⟨c, hc, rfl⟩ := hy
    subst hz
    refine ⟨_, ?_, by simp only [VRel]; exact ⟨c, hc, rfl⟩⟩
    simp only [Instr.indexAt, asIntOf, Sem.run_bind, Sem.run_pure, Result.andThen_ok, hti.run_und, Instr.sureAddr]
    rw [if_pos ⟨by simp only [Int.ofNat_eq_natCast]; omega, by simp only [Int.ofNat_eq_natCast]; omega⟩]
    simp [hte.run_size, addr_add]
  · rename_i len e g off hd
    rw [hd] at htd
    have htd' : d = .array len e := htd
    subst htd'
    obtain ⟨te, ie, de, ze, h2, hte⟩ := tyK_sound hE hx
    obtain ⟨hl, h2⟩ := guardB_true h2
    have hl := Nat.le_of_ble_eq_true hl
    rw [forceN_eq] at h2
    refine ⟨_, h2, fun φ κ w y zz hy hz => ?_⟩
    simp only [VRel] at hy hz
    subst hy hz
    refine ⟨_, ?_, by simp only [VRel]; exact rfl⟩
    simp only [Instr.indexAt, asIntOf, Sem.run_bind, Sem.run_pure, Result.andThen_ok, hti.run_und, Instr.sureAddr]
    rw [if_pos ⟨by simp only [Int.ofNat_eq_natCast]; omega, by simp only [Int.ofNat_eq_natCast]; omega⟩]
    simp [hte.run_size, addr_add]
  · cases hx
theorem fieldAddrK_sound (hE : EnvOK E X) {t : Nat} {a : AV} {f : Nat} {k : K1} (h : fieldAddrK E t a f k = true) :
    ∃ v, k v = true ∧ ∀ φ κ w y, VRel φ κ a y → ∃ x, (Instr.fieldAt t y f).run E.P w = .ok x w ∧ VRel φ κ v x := by
  unfold fieldAddrK at h
  obtain ⟨ti, i, d, z, h1, hti⟩ := tyK_sound hE h
  have htd := hti.td
  split at h1
  · rename_i fs hd
    rw [hd] at htd
    obtain ⟨Fs, rfl, hF⟩ := htd
    obtain ⟨p, h2, h3⟩ := nthK_sound h1
    obtain ⟨hs, h3⟩ := guardB_true h3
    have hs := Nat.le_of_ble_eq_true hs
    obtain ⟨fd, ii, h4, h5, h6, h7, h8⟩ := hF.get f p h2
    rw [Array.getElem?_toList] at h4
    have hsz : ∀ w : World, (sizeOf fd.type).run E.P w = .ok p.2.2 w := fun w => by simp [sizeOf, typeInfo, h7, h8]
    split at h3
    · rename_i b off
      rw [forceN_eq] at h3
      refine ⟨_, h3, fun φ κ w y hy => ?_⟩
      simp only [VRel] at hy
      obtain ⟨c, hc, rfl⟩ := hy
      refine ⟨_, ?_, by simp only [VRel]; exact ⟨c, hc, rfl⟩⟩
      simp only [Instr.fieldAt, Sem.run_bind, hti.run_und, Result.andThen_ok, h4, Instr.sureAddr, Sem.run_pure, Go.fieldPlace, hsz]
      rw [if_neg (by omega)]
      simp [addr_add, h5]
    · rename_i g off
      rw [forceN_eq] at h3
      refine ⟨_, h3, fun φ κ w y hy => ?_⟩
      simp only [VRel] at hy
      subst hy
      refine ⟨_, ?_, by simp only [VRel]; exact rfl⟩
      simp only [Instr.fieldAt, Sem.run_bind, hti.run_und, Result.andThen_ok, h4, Instr.sureAddr, Sem.run_pure, Go.fieldPlace, hsz]
      rw [if_neg (by omega)]
      simp [addr_add, h5]
    · cases h3
  · cases h1
theorem subK_sound : ∀ {l : List AV} {off n : Nat} {k : List AV → Bool}, subK l off n k = true → ∃ r, k r = true ∧ r = (l.drop off).take n ∧ r.length = n
  | [], off, 0, k, h => ⟨[], h, by simp, rfl⟩
  | [], off, n + 1, k, h => by cases h
  | x :: l, off + 1, n, k, h => by
    have h' : subK l off n k = true := h
    obtain ⟨r, h1, h2, h3⟩ := subK_sound h'
    exact ⟨r, h1, by simpa using h2, h3⟩
  | x :: l, 0, 0, k, h => ⟨[], h, by simp, rfl⟩
  | x :: l, 0, n + 1, k, h => by
    have h' : subK l 0 n (fun r => k (x :: r)) = true := h
    obtain ⟨r, h1, h2, h3⟩ := subK_sound h'
    exact ⟨x :: r, h1, by simpa using h2, by simp [h3]⟩
theorem LRel.drop : ∀ {vs : List AV} {xs : List Value} (n : Nat), LRel φ κ vs xs → LRel φ κ (vs.drop n) (xs.drop n)
  | _, _, 0, h => by simpa using h
  | [], _, n + 1, h => by simp only [LRel] at h; subst h; simp [LRel.nil]
  | v :: vs, _, n + 1, h => by
    simp only [LRel] at h
    obtain ⟨x, xs, rfl, _, h⟩ := h
    simpa using h.drop n
theorem LRel.take : ∀ {vs : List AV} {xs : List Value} (n : Nat), LRel φ κ vs xs → LRel φ κ (vs.take n) (xs.take n)
  | _, _, 0, _ => by simp [LRel.nil]
  | [], _, n + 1, h => by simp only [LRel] at h; subst h; simp [LRel.nil]
  | v :: vs, _, n + 1, h => by
    simp only [LRel] at h
    obtain ⟨x, xs, rfl, h1, h⟩ := h
    simpa using LRel.cons h1 (h.take n)
theorem partK_sound (hE : EnvOK E X) {t : Nat} {cs : List AV} {off : Nat} {k : K1} (h : partK E t cs off k = true) :
    ∃ v, k v = true ∧ ∀ φ κ w ys, LRel φ κ cs ys → ∃ x, (part t ys.toArray off).run E.P w = .ok x w ∧ VRel φ κ v x := by
  unfold partK at h
  obtain ⟨ti, i, d, z, h1, hti⟩ := tyK_sound hE h
  cases hag : ti.agg
  · rw [hag] at h1
    simp only [cond_false] at h1
    obtain ⟨v, h2, h3⟩ := nthK_sound h1
    refine ⟨v, h3, fun φ κ w ys hy => ?_⟩
    obtain ⟨x, hx, hr⟩ := hy.get off v h2
    exact ⟨x, by simp [part, hti.run_agg, hag, hx], hr⟩
  · rw [hag] at h1
    simp only [cond_true] at h1
    obtain ⟨r, h2, rfl, h4⟩ := subK_sound h1
    refine ⟨_, h2, fun φ κ w ys hy => ?_⟩
    refine ⟨.agg (ys.toArray.extract off (off + ti.size)), by simp [part, hti.run_agg, hag, hti.run_size], ?_⟩
    simp only [VRel]
    refine ⟨_, rfl, ?_⟩
    simp only [Array.toList_extract, List.extract_eq_take_drop]
    rw [show off + ti.size - off = ti.size by omega]
    exact (hy.drop off).take ti.size
theorem fieldK_sound (hE : EnvOK E X) {t : Nat} {a : AV} {f : Nat} {k : K1} (h : fieldK E t a f k = true) :
    ∃ v, k v = true ∧ ∀ φ κ w y, VRel φ κ a y → ∃ x, (Instr.field t y f).run E.P w = .ok x w ∧ VRel φ κ v x := by
  unfold fieldK at h
  obtain ⟨ti, i, d, z, h1, hti⟩ := tyK_sound hE h
  have htd := hti.td
  split at h1
  · rename_i fs cs hd
    rw [hd] at htd
    obtain ⟨Fs, rfl, hF⟩ := htd
    obtain ⟨p, h2, h3⟩ := nthK_sound h1
    obtain ⟨fd, ii, h4, h5, h6, h7, h8⟩ := hF.get f p h2
    rw [Array.getElem?_toList] at h4
    obtain ⟨v, h9, h10⟩ := partK_sound hE h3
    refine ⟨v, h9, fun φ κ w y hy => ?_⟩
    simp only [VRel] at hy
    obtain ⟨l, rfl, hl⟩ := hy
    obtain ⟨x, hx, hr⟩ := h10 φ κ w _ hl
    refine ⟨x, ?_, hr⟩
    simp only [Instr.field, Sem.run_bind, hti.run_und, Result.andThen_ok, h4, asAgg, Sem.run_pure]
    rw [← h5, ← h6]
    simpa using hx
  · cases h1
theorem strBytes_get : ∀ (n c i : Nat), i < n → (strBytes n c)[i]? = some (UInt8.ofNat (c / 256 ^ i % 256))
  | 0, _, _, h => by omega
  | n + 1, c, 0, _ => by simp [strBytes]
  | n + 1, c, i + 1, h => by
    simp only [strBytes, List.getElem?_cons_succ]
    rw [strBytes_get n (c / 256) i (by omega), Nat.div_div_eq_div_mul, Nat.pow_succ, Nat.mul_comm 256]
theorem shr_pow (c i : Nat) : Nat.shiftRight c (8 * i) = c / 256 ^ i := by
  rw [show Nat.shiftRight c (8 * i) = c >>> (8 * i) from rfl, Nat.shiftRight_eq_div_pow, Nat.pow_mul]
theorem byteAt_sound {n c i : Nat} {k : K1} (h : byteAt n c i k = true) :
    ∃ v, k v = true ∧ i < n ∧ v = .int .u8 (.ofNat (c / 256 ^ i % 256)) := by
  unfold byteAt at h
  obtain ⟨h1, h2⟩ := guardB_true h
  have h1 := Nat.le_of_ble_eq_true h1
  rw [forceN_eq, shr_pow] at h2
  exact ⟨_, h2, h1, rfl⟩
theorem indexK_sound (hE : EnvOK E X) {t : Nat} {a b : AV} {k : K1} (h : indexK E t a b k = true) :
    ∃ v, k v = true ∧ ∀ φ κ w y z, VRel φ κ a y → VRel φ κ b z → ∃ x, (Instr.index t y z).run E.P w = .ok x w ∧ VRel φ κ v x := by
  unfold indexK at h
  obtain ⟨ti, i, d, z, h1, hti⟩ := tyK_sound hE h
  obtain ⟨kd, n, rfl, hx⟩ := natIx_sound h1
  clear h1
  have htd := hti.td
  split at hx
  · rename_i len c hd
    rw [hd] at htd
    have htd' : d = .string := htd
    subst htd'
    obtain ⟨v, h2, h3, rfl⟩ := byteAt_sound hx
    refine ⟨_, h2, fun φ κ w y zz hy hz => ?_⟩
    simp only [VRel] at hy hz
    obtain ⟨_, rfl⟩ := hy
    subst hz
    refine ⟨_, ?_, by simp only [VRel]; exact rfl⟩
    simp only [Instr.index, asIntOf, Sem.run_bind, Sem.run_pure, Result.andThen_ok, hti.run_und]
    rw [if_pos (by simp only [Int.ofNat_eq_natCast]; omega)]
    have hsz : n < (ByteArray.mk (strBytes len c).toArray).size := by simp [ByteArray.size, strBytes_length, h3]
    have hg : (ByteArray.mk (strBytes len c).toArray)[(Int.ofNat n).toNat]? = some (UInt8.ofNat (c / 256 ^ n % 256)) := by
      simp only [Int.ofNat_eq_natCast, Int.toNat_natCast]
      rw [getElem?_pos _ n hsz]
      have := strBytes_get len c n h3
      rw [List.getElem?_eq_getElem (by rw [strBytes_length]; exact h3)] at this
      simp only [Option.some.injEq] at this
      rw [← this]
      rfl
    rw [hg]
    simp only [Sem.run_pure]
    congr 2
    simp
  · rename_i len e cs hd
    rw [hd] at htd
    have htd' : d = .array len e := htd
    subst htd'
    obtain ⟨te, ie, de, ze, h2, hte⟩ := tyK_sound hE hx
    obtain ⟨hl, h2⟩ := guardB_true h2
    have hl := Nat.le_of_ble_eq_true hl
    obtain ⟨v, h3, h4⟩ := partK_sound hE h2
    refine ⟨v, h3, fun φ κ w y zz hy hz => ?_⟩
    simp only [VRel] at hy hz
    obtain ⟨l, rfl, hl'⟩ := hy
    subst hz
    obtain ⟨x, hx, hr⟩ := h4 φ κ w _ hl'
    refine ⟨x, ?_, hr⟩
    simp only [Instr.index, asIntOf, Sem.run_bind, Sem.run_pure, Result.andThen_ok, hti.run_und]
    rw [if_pos ⟨by simp only [Int.ofNat_eq_natCast]; omega, by simp only [Int.ofNat_eq_natCast]; omega⟩]
    simp only [Sem.run_bind, hte.run_size, Result.andThen_ok, Int.ofNat_eq_natCast, Int.toNat_natCast]
    simpa using hx
  · cases hx
end Go.Ev
