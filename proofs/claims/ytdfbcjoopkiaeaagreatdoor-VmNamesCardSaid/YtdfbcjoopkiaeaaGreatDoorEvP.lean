/-
  A reckoner for the program's form over abstract values and memory, run by the kernel, and its proof: if it answers, the form's own run answers so, whatever the tape. Part EvP. No condition.
-/
import Derived.Test.YtdfbcjoopkiaeaaGreatDoorEvO
noncomputable section
namespace Go.Ev

variable {X : Fix} {Pr : Nat → Option Obj} {G : Nat → Option Blk} {φ : Nat → Option Nat} {κ : Nat → Nat} {m : Nat → Option Blk} {nx : Nat} {w : World} {E : Env}

/-- The bytes of a text, as cells. -/
def byteCells : Nat → Nat → List AV
  | 0, _ => []
  | n + 1, c => .int .u8 (.ofNat (c % 256)) :: byteCells n (c / 256)
theorem strCells_eq : ∀ (n c : Nat) (k : List AV → Bool), strCells n c k = k (byteCells n c)
  | 0, c, k => rfl
  | n + 1, c, k => by
    show forceN (c % 256) (fun b => forceN (c / 256) fun c => strCells n c fun r => k (.int .u8 (.ofNat b) :: r)) = _
    rw [forceN_eq, forceN_eq, strCells_eq n]; rfl
theorem byteCells_length : ∀ (n c : Nat), (byteCells n c).length = n
  | 0, _ => rfl
  | n + 1, c => by simp [byteCells, byteCells_length n]
theorem byteCells_rel : ∀ (n c : Nat), LRel φ κ (byteCells n c) ((strBytes n c).map fun b => .int .u8 b.toNat)
  | 0, _ => LRel.nil
  | n + 1, c => by
    simp only [byteCells, strBytes, List.map_cons]
    refine LRel.cons ?_ (byteCells_rel n (c / 256))
    simp only [VRel]
    congr 1
    simp
theorem byteCells_take : ∀ (n c k : Nat), k ≤ n → (byteCells n c).take k = byteCells k c
  | n, c, 0, _ => by simp [byteCells]
  | 0, c, k + 1, h => by omega
  | n + 1, c, k + 1, h => by simp [byteCells, byteCells_take n (c / 256) k (by omega)]
/-- What is appended, or copied. -/
theorem srcK_sound {es : Nat} {a : AV} {M : Mem} {k : Nat → List AV → Bool} (h : srcK es a M k = true) :
    ∃ n l, k n l = true ∧ l.length = n * es ∧ ∀ P X Pr G φ κ w y, MRel X Pr G φ κ M.get M.next w → VRel φ κ a y →
      (Builtin.lenOf y).run P w = .ok n w ∧ ∃ xs : List Value, LRel φ κ l xs ∧ (Builtin.firstCells es n y).run P w = .ok xs.toArray w := by
  unfold srcK at h
  split at h
  · refine ⟨0, [], h, by simp, fun P X Pr G φ κ w y hm hy => ?_⟩
    simp only [VRel] at hy
    subst hy
    exact ⟨rfl, [], LRel.nil, by simp [Builtin.firstCells]⟩
  · rename_i n c
    obtain ⟨he, h1⟩ := guardB_true h
    have he := Nat.eq_of_beq_eq_true he
    subst he
    rw [strCells_eq] at h1
    refine ⟨n, _, h1, by simp [byteCells_length], fun P X Pr G φ κ w y hm hy => ?_⟩
    simp only [VRel] at hy
    obtain ⟨_, rfl⟩ := hy
    refine ⟨by simp [Builtin.lenOf, ByteArray.size, strBytes_length], _, byteCells_rel n c, ?_⟩
    simp only [Builtin.firstCells, Sem.run_pure]
    congr 1
    apply Array.ext'
    simp only [Array.toList_map, ByteArray.data_extract, Array.toList_extract, List.extract_eq_take_drop, List.drop_zero, Nat.sub_zero]
    rw [List.take_of_length_le (by simp [strBytes_length])]
  · rename_i b off n cap
    obtain ⟨blk, h1, h2⟩ := blkK_sound h
    obtain ⟨l, h3, h4, h5⟩ := cellsK_sound h1
    refine ⟨n, l, h3, h4, fun P X Pr G φ κ w y hm hy => ?_⟩
    simp only [VRel] at hy
    obtain ⟨c, q, hc, rfl, _⟩ := hy
    obtain ⟨xs, h6, _, h7⟩ := hm.cells hc h2 h5
    refine ⟨rfl, xs, h6, ?_⟩
    have := h7 P
    rw [h4] at this
    simpa [Builtin.firstCells] using this
  · cases h
theorem lenOpK_sound {P : Program} {t : Nat} {ti : TI} {i : TypeInfo} {d : TypeDesc} {z : Value} (hti : TIok P t ti i d z) {a : AV} {k : K1} (h : lenOpK ti.d a k = true) :
    ∃ v, k v = true ∧ ∀ φ κ w y ty, VRel φ κ a y → ∀ ts : Array TypeId, ts[0]? = some t → ∃ x, (Builtin.len_ ts ty #[y]).run P w = .ok x w ∧ VRel φ κ v x := by
  have htd := hti.td
  unfold lenOpK at h
  split at h
  · rename_i n c hd
    rw [hd] at htd
    have htd' : d = .string := htd
    subst htd'
    refine ⟨_, h, fun φ κ w y ty hy ts hts => ?_⟩
    simp only [VRel] at hy
    obtain ⟨_, rfl⟩ := hy
    refine ⟨.int .i64 n, ?_, by simp [VRel]⟩
    have hs : (ByteArray.mk (strBytes n c).toArray).size = n := by simp [ByteArray.size, strBytes_length]
    simp [Builtin.len_, hts, hti.run_und, goInt, hs]
  · rename_i e b off n cap hd
    rw [hd] at htd
    have htd' : d = .slice e := htd
    subst htd'
    refine ⟨_, h, fun φ κ w y ty hy ts hts => ?_⟩
    simp only [VRel] at hy
    obtain ⟨c, q, _, rfl, _⟩ := hy
    exact ⟨.int .i64 n, by simp [Builtin.len_, hts, hti.run_und, goInt], by simp [VRel]⟩
  · rename_i e hd
    rw [hd] at htd
    have htd' : d = .slice e := htd
    subst htd'
    refine ⟨_, h, fun φ κ w y ty hy ts hts => ?_⟩
    simp only [VRel] at hy
    subst hy
    exact ⟨.int .i64 0, by simp [Builtin.len_, hts, hti.run_und, goInt], by simp [VRel]⟩
  · rename_i e e' hd
    rw [hd] at htd
    have htd' : d = .map e e' := htd
    subst htd'
    refine ⟨_, h, fun φ κ w y ty hy ts hts => ?_⟩
    simp only [VRel] at hy
    subst hy
    exact ⟨.int .i64 0, by simp [Builtin.len_, hts, hti.run_und, goInt], by simp [VRel]⟩
  · rename_i n e hd
    rw [hd] at htd
    have htd' : d = .array n e := htd
    subst htd'
    refine ⟨_, h, fun φ κ w y ty hy ts hts => ?_⟩
    exact ⟨.int .i64 n, by simp [Builtin.len_, hts, hti.run_und, goInt], by simp [VRel]⟩
  · cases h
theorem capOpK_sound {P : Program} {t : Nat} {ti : TI} {i : TypeInfo} {d : TypeDesc} {z : Value} (hti : TIok P t ti i d z) {a : AV} {k : K1} (h : capOpK ti.d a k = true) :
    ∃ v, k v = true ∧ ∀ φ κ w y ty, VRel φ κ a y → ∀ ts : Array TypeId, ts[0]? = some t → ∃ x, (Builtin.cap_ ts ty #[y]).run P w = .ok x w ∧ VRel φ κ v x := by
  have htd := hti.td
  unfold capOpK at h
  split at h
  · rename_i e b off n c hd
    rw [hd] at htd
    have htd' : d = .slice e := htd
    subst htd'
    refine ⟨_, h, fun φ κ w y ty hy ts hts => ?_⟩
    simp only [VRel] at hy
    obtain ⟨cc, q, _, rfl, hq⟩ := hy
    have hq : q = c := hq
    subst hq
    exact ⟨.int .i64 q, by simp [Builtin.cap_, hts, hti.run_und, goInt], by simp [VRel]⟩
  · rename_i e hd
    rw [hd] at htd
    have htd' : d = .slice e := htd
    subst htd'
    refine ⟨_, h, fun φ κ w y ty hy ts hts => ?_⟩
    simp only [VRel] at hy
    subst hy
    exact ⟨.int .i64 0, by simp [Builtin.cap_, hts, hti.run_und, goInt], by simp [VRel]⟩
  · cases h
theorem nextslicecap_le (need old : Nat) (h : old < need) : Builtin.nextslicecap need old ≤ 4 * need + 2048 := by
  have grow : ∀ (r c : Nat), c ≤ 2 * need + 768 → Builtin.growBy need r c ≤ 4 * need + 2048 := by
    intro r
    induction r with
    | zero => intro c hc; simp only [Builtin.growBy]; omega
    | succ r ih =>
      intro c hc
      simp only [Builtin.growBy]
      split
      · omega
      · exact ih _ (by omega)
  unfold Builtin.nextslicecap
  split
  · omega
  · split
    · omega
    · exact grow _ _ (by omega)
end Go.Ev
