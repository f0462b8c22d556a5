/-
  A reckoner for the program's form over abstract values and memory, run by the kernel, and its proof: if it answers, the form's own run answers so, whatever the tape. Part EvS. No condition.
-/
import Derived.Test.YtdfbcjoopkiaeaaGreatDoorEvR
noncomputable section
namespace Go.Ev

variable {X : Fix} {Pr : Nat → Option Obj} {G : Nat → Option Blk} {φ : Nat → Option Nat} {κ : Nat → Nat} {m : Nat → Option Blk} {nx : Nat} {w : World} {E : Env}

theorem minK_eq (n len : Nat) : cond (Nat.ble n len) n len = Nat.min n len := by
  cases h : Nat.ble n len
  · have : ¬ n ≤ len := fun h' => by rw [Nat.ble_eq_true_of_le h'] at h; cases h
    simp only [cond_false]
    exact (Nat.min_eq_right (by omega)).symm
  · have := Nat.le_of_ble_eq_true h
    simp only [cond_true]
    exact (Nat.min_eq_left this).symm
theorem strBytes_take : ∀ (n c k : Nat), k ≤ n → (strBytes n c).take k = strBytes k c
  | n, c, 0, _ => by simp [strBytes]
  | 0, c, k + 1, h => by omega
  | n + 1, c, k + 1, h => by simp [strBytes, strBytes_take n (c / 256) k (by omega)]
theorem run_copy {P : Program} {t e : Nat} {ti te : TI} {i ie : TypeInfo} {z ze : Value} {de : TypeDesc} (hti : TIok P t ti i (.slice e) z) (hte : TIok P e te ie de ze)
    {ts : Array TypeId} (hts : ts[0]? = some t) {base : Option Addr} {len q n : Nat} {x : Value} {xs : List Value} {w : World} (hn : (Builtin.lenOf x).run P w = .ok n w)
    (hx : (Builtin.firstCells te.size (Nat.min n len) x).run P w = .ok xs.toArray w) (ty : TypeId) :
    (Builtin.copy_ ts ty #[.slice base len q, x]).run P w = match base with
      | none => .ok (.int .i64 (.ofNat (Nat.min n len))) w
      | some a => ((storeCells a xs).run P w).andThen fun _ w' => .ok (.int .i64 (.ofNat (Nat.min n len))) w' := by
  have e0 : (#[.slice base len q, x] : Array Value)[0]? = some (.slice base len q) := rfl
  have e1 : (#[.slice base len q, x] : Array Value)[1]? = some x := rfl
  simp only [Builtin.copy_, hts, e0, e1, Sem.run_bind, hti.run_und, Result.andThen_ok, hte.run_size, hn, hx]
  cases base with
  | none => simp [goInt]
  | some a => simp [goInt]
theorem copyK_sound (hE : EnvOK E X) {t : Nat} {d s : AV} {M : Mem} {k : KM} (h : copyK E t d s M k = true) :
    ∃ v M', k v M' = true ∧ M.next ≤ M'.next ∧ ∀ Pr G φ κ w y z (ts : Array TypeId) ty, ts[0]? = some t → MRel X Pr G φ κ M.get M.next w → VRel φ κ d y → VRel φ κ s z →
      ∃ r w', (Builtin.copy_ ts ty #[y, z]).run E.P w = .ok r w' ∧ MRel X Pr G φ κ M'.get M'.next w' ∧ VRel φ κ v r := by
  unfold copyK at h
  obtain ⟨ti, i, dd, zz, h1, hti⟩ := tyK_sound hE h
  have htd := hti.td
  split at h1
  · rename_i e b off len cap hd
    rw [hd] at htd
    have htd' : dd = .slice e := htd
    subst htd'
    obtain ⟨te, ie, de, ze, h2, hte⟩ := tyK_sound hE h1
    split at h2
    · refine ⟨_, M, h2, Nat.le_refl _, fun Pr G φ κ w y z ts ty hts hm hy hz => ?_⟩
      simp only [VRel] at hy hz
      obtain ⟨c, q, hc, rfl, _⟩ := hy
      subst hz
      refine ⟨_, w, (run_copy hti hte hts (n := 0) (xs := []) rfl (by simp [Builtin.firstCells]) ty).trans ?_, hm, by simp only [VRel]; rfl⟩
      simp [storeCells]
    · rename_i b' off' n cap'
      rw [minK_eq, forceN_eq] at h2
      obtain ⟨blk, h3, h4⟩ := blkK_sound h2
      obtain ⟨l, h5, h6, h7⟩ := cellsK_sound h3
      obtain ⟨M', h8, h9, h10⟩ := storeK_sound h5
      refine ⟨_, M', h8, by omega, fun Pr G φ κ w y z ts ty hts hm hy hz => ?_⟩
      simp only [VRel] at hy hz
      obtain ⟨c, q, hc, rfl, _⟩ := hy
      obtain ⟨c', q', hc', rfl, _⟩ := hz
      obtain ⟨xs, g1, _, g2⟩ := hm.cells hc' h4 h7
      obtain ⟨w', g3, g4⟩ := h10 E.P X Pr G φ κ w c xs hm hc g1
      have g5 := g2 E.P
      rw [h6] at g5
      refine ⟨.int .i64 (.ofNat (Nat.min n len)), w', (run_copy hti hte hts (n := n) (xs := xs) (x := .slice (some ⟨c', off', none⟩) n q') rfl g5 ty).trans ?_, g4, by simp only [VRel]⟩
      simp only [g3, Result.andThen_ok]
    · rename_i n c0
      rw [minK_eq, forceN_eq] at h2
      obtain ⟨g1, h3⟩ := guardB_true h2
      have g1 := Nat.eq_of_beq_eq_true g1
      rw [strCells_eq] at h3
      obtain ⟨M', h8, h9, h10⟩ := storeK_sound h3
      refine ⟨_, M', h8, by omega, fun Pr G φ κ w y z ts ty hts hm hy hz => ?_⟩
      simp only [VRel] at hy hz
      obtain ⟨c, q, hc, rfl, _⟩ := hy
      obtain ⟨_, rfl⟩ := hz
      obtain ⟨w', g3, g4⟩ := h10 E.P X Pr G φ κ w c _ hm hc (byteCells_rel _ _)
      refine ⟨.int .i64 (.ofNat (Nat.min n len)), w', (run_copy hti hte hts (n := n) (xs := (strBytes (Nat.min n len) c0).map fun b => .int .u8 b.toNat) (by simp [Builtin.lenOf, ByteArray.size, strBytes_length]) ?_ ty).trans ?_, g4, by simp only [VRel]⟩
      · simp only [Builtin.firstCells, Sem.run_pure]
        congr 1
        apply Array.ext'
        simp only [Array.toList_map, ByteArray.data_extract, Array.toList_extract, List.extract_eq_take_drop, List.drop_zero, Nat.sub_zero]
        congr 1
        exact strBytes_take n c0 _ (Nat.min_le_left _ _)
      · simp only [g3, Result.andThen_ok]
    · cases h2
  · rename_i e hd
    rw [hd] at htd
    have htd' : dd = .slice e := htd
    subst htd'
    obtain ⟨te, ie, de, ze, h2, hte⟩ := tyK_sound hE h1
    split at h2
    · refine ⟨_, M, h2, Nat.le_refl _, fun Pr G φ κ w y z ts ty hts hm hy hz => ?_⟩
      simp only [VRel] at hy hz
      subst hy hz
      exact ⟨_, w, (run_copy hti hte hts (n := 0) (xs := []) rfl (by simp [Builtin.firstCells]) ty).trans rfl, hm, by simp only [VRel]; rfl⟩
    · rename_i b0 off0 n cap0
      refine ⟨_, M, h2, Nat.le_refl _, fun Pr G φ κ w y z ts ty hts hm hy hz => ?_⟩
      simp only [VRel] at hy hz
      subst hy
      obtain ⟨c, q, hc, rfl, _⟩ := hz
      refine ⟨.int .i64 (.ofNat (Nat.min n 0)), w, (run_copy hti hte hts (n := n) (x := .slice (some ⟨c, off0, none⟩) n q) (xs := []) rfl ?_ ty).trans rfl, hm, by simp only [VRel]; exact congrArg (fun n => Value.int .i64 (Int.ofNat n)) (Nat.min_zero n)⟩
      have e0 : Nat.min n 0 * te.size = 0 := by rw [show Nat.min n 0 = 0 from Nat.min_zero n]; omega
      simp only [Builtin.firstCells, e0]
      rfl
    · rename_i n c0
      refine ⟨_, M, h2, Nat.le_refl _, fun Pr G φ κ w y z ts ty hts hm hy hz => ?_⟩
      simp only [VRel] at hy hz
      subst hy
      obtain ⟨_, rfl⟩ := hz
      refine ⟨.int .i64 (.ofNat (Nat.min n 0)), w, (run_copy hti hte hts (n := n) (xs := []) (by simp [Builtin.lenOf, ByteArray.size, strBytes_length]) ?_ ty).trans rfl, hm, by simp only [VRel]; exact congrArg (fun n => Value.int .i64 (Int.ofNat n)) (Nat.min_zero n)⟩
      have e0 : Nat.min n 0 = 0 := Nat.min_zero n
      simp [Builtin.firstCells, e0]
    · cases h2
  · cases h1
theorem maxK_cons (big : Bool) (x y : AV) (l : List AV) (k : K1) : maxK big (x :: y :: l) k = (match x, y with
    | .int ka a, .int kb b => guardB (sameKind ka kb) (cond (cond big (ltI a b) (ltI b a)) (maxK big (.int ka b :: l) k) (maxK big (.int ka a :: l) k))
    | _, _ => false) := rfl
theorem maxK_sound {big : Bool} {k : K1} : ∀ {l : List AV} {x : AV}, maxK big (x :: l) k = true →
    ∃ v, k v = true ∧ ∀ φ κ P w y xs, VRel φ κ x y → LRel φ κ l xs → ∃ r, (xs.foldlM (cond big Builtin.max2 Builtin.min2) y).run P w = .ok r w ∧ VRel φ κ v r
  | [], x, h => by
    have h' : (match (generalizing := false) x with | .int _ _ => k x | _ => false) = true := h
    split at h'
    · refine ⟨_, h', fun φ κ P w y xs hy hx => ?_⟩
      simp only [LRel] at hx
      subst hx
      exact ⟨y, by simp, hy⟩
    · cases h'
  | y :: l, x, h => by
    rw [maxK_cons] at h
    split at h
    · rename_i ka a kb b
      obtain ⟨h1, h2⟩ := guardB_true h
      have h1 := sameKind_eq h1
      subst h1
      clear h
      rw [ltI_eq, ltI_eq] at h2
      have hstep : ∀ P w, ((cond big Builtin.max2 Builtin.min2) (.int ka a) (.int ka b)).run P w = .ok (.int ka (if (cond big (decide (a < b)) (decide (b < a))) = true then b else a)) w := by
        intro P w
        cases big
        · simp only [cond_false, Builtin.min2, Sem.run_pure, decide_eq_true_eq]
        · simp only [cond_true, Builtin.max2, Sem.run_pure, decide_eq_true_eq, gt_iff_lt]
      cases hc : cond big (decide (a < b)) (decide (b < a))
      · rw [hc] at h2
        simp only [cond_false] at h2
        obtain ⟨v, h3, h4⟩ := maxK_sound h2
        refine ⟨v, h3, fun φ κ P w y xs hy hx => ?_⟩
        simp only [LRel] at hx
        obtain ⟨z, zs, rfl, hz, hzs⟩ := hx
        simp only [VRel] at hy hz
        subst hy hz
        obtain ⟨r, h5, h6⟩ := h4 φ κ P w (.int ka a) zs (by simp only [VRel]) hzs
        refine ⟨r, ?_, h6⟩
        simp only [List.foldlM_cons, Sem.run_bind, hstep, hc, Result.andThen_ok, Bool.false_eq_true, if_false]
        exact h5
      · rw [hc] at h2
        simp only [cond_true] at h2
        obtain ⟨v, h3, h4⟩ := maxK_sound h2
        refine ⟨v, h3, fun φ κ P w y xs hy hx => ?_⟩
        simp only [LRel] at hx
        obtain ⟨z, zs, rfl, hz, hzs⟩ := hx
        simp only [VRel] at hy hz
        subst hy hz
        obtain ⟨r, h5, h6⟩ := h4 φ κ P w (.int ka b) zs (by simp only [VRel]) hzs
        refine ⟨r, ?_, h6⟩
        simp only [List.foldlM_cons, Sem.run_bind, hstep, hc, Result.andThen_ok, if_true]
        exact h5
    · cases h
theorem usliceK_sound {a : AV} {k : K1} (h : usliceK a k = true) :
    ∃ v, k v = true ∧ ∀ φ κ P w y ts ty, VRel φ κ a y → ∃ r, (Builtin.unsafeSliceData_ ts ty #[y]).run P w = .ok r w ∧ VRel φ κ v r := by
  unfold usliceK at h
  split at h
  · rename_i b off len j
    obtain ⟨h1, h2⟩ := guardB_true h
    have h1 := Nat.le_of_ble_eq_true h1
    refine ⟨_, h2, fun φ κ P w y ts ty hy => ?_⟩
    simp only [VRel] at hy
    obtain ⟨c, q, hc, rfl, _, hq⟩ := hy
    refine ⟨.pointer (some ⟨c, off, none⟩), ?_, by simp only [VRel]; exact ⟨c, hc, rfl⟩⟩
    show Sem.run P (ite (q ≠ 0) (pure (Value.pointer (some ⟨c, off, none⟩))) _) w = _
    rw [if_pos (by omega)]
    rfl
  · rename_i b off len q0
    obtain ⟨h1, h2⟩ := guardB_true h
    have h1 := Nat.le_of_ble_eq_true h1
    refine ⟨_, h2, fun φ κ P w y ts ty hy => ?_⟩
    simp only [VRel] at hy
    obtain ⟨c, q, hc, rfl, hq⟩ := hy
    have hq : q = q0 := hq
    refine ⟨.pointer (some ⟨c, off, none⟩), ?_, by simp only [VRel]; exact ⟨c, hc, rfl⟩⟩
    show Sem.run P (ite (q ≠ 0) (pure (Value.pointer (some ⟨c, off, none⟩))) _) w = _
    rw [if_pos (by omega)]
    rfl
  · refine ⟨_, h, fun φ κ P w y ts ty hy => ?_⟩
    simp only [VRel] at hy
    subst hy
    exact ⟨_, rfl, by simp only [VRel]⟩
  · cases h
theorem bytesK_cons (v : AV) (l : List AV) (k : Nat → Nat → Bool) : bytesK (v :: l) k = (match v with
    | .int .u8 (.ofNat b) => guardB (Nat.ble b 255) (bytesK l fun n c => forceN (n + 1) fun n => forceN (b + 256 * c) fun c => k n c)
    | _ => false) := rfl
theorem bytesK_sound : ∀ {l : List AV} {k : Nat → Nat → Bool}, bytesK l k = true → ∃ c, k l.length c = true ∧ c < 256 ^ l.length ∧
    ∀ φ κ xs, LRel φ κ l xs → xs = (strBytes l.length c).map fun b => .int .u8 b.toNat
  | [], k, h => ⟨0, h, by simp, fun φ κ xs hx => by simp only [LRel] at hx; subst hx; rfl⟩
  | v :: l, k, h => by
    rw [bytesK_cons] at h
    split at h
    · rename_i b
      obtain ⟨h1, h2⟩ := guardB_true h
      have h1 := Nat.le_of_ble_eq_true h1
      obtain ⟨c, h3, h4, h5⟩ := bytesK_sound h2
      rw [forceN_eq, forceN_eq] at h3
      refine ⟨b + 256 * c, h3, ?_, fun φ κ xs hx => ?_⟩
      · simp only [List.length_cons, Nat.pow_succ]; omega
      · simp only [LRel] at hx
        obtain ⟨x, xs, rfl, hx1, hx2⟩ := hx
        simp only [VRel] at hx1
        subst hx1
        rw [h5 φ κ xs hx2]
        simp only [List.length_cons, strBytes, List.map_cons]
        have e1 : (b + 256 * c) % 256 = b := by omega
        have e2 : (b + 256 * c) / 256 = c := by omega
        rw [e1, e2]
        congr 2
        simp
        omega
    · cases h
theorem run_loadBytes (P : Program) (w : World) (c : Nat) : ∀ (bs : List UInt8) (off : Nat) (acc : ByteArray),
    (∀ (j : Nat) (b : UInt8), bs[j]? = some b → w.cell? ⟨c, off + j, none⟩ = some (.int .u8 b.toNat)) →
    (loadBytes ⟨c, off, none⟩ acc bs.length).run P w = .ok ⟨acc.data ++ bs.toArray⟩ w
  | [], off, acc, _ => by simp [loadBytes]
  | b :: bs, off, acc, h => by
    have h0 := h 0 b rfl
    simp only [Nat.add_zero] at h0
    simp only [List.length_cons, loadBytes, Sem.run_bind, run_load, h0, Result.andThen_ok]
    rw [addr_add, run_loadBytes P w c bs (off + 1) _ fun j b' hb => by
      have := h (j + 1) b' (by simpa using hb)
      rwa [show off + 1 + j = off + (j + 1) by omega]]
    congr 1
    simp
theorem lies_row {P : Program} {e u : TypeId} {ie : TypeInfo} (hi : P.info? e = some ie) (hs : ie.size = 1) (h : sameLayout P P.depth e u = true) {cells off n : Nat} (hb : off + n ≤ cells) :
    liesAt P P.depth e (cells / P.cellsOf e) off u n = true := by
  have hc : P.cellsOf e = 1 := by simp [Program.cellsOf, hi, hs]
  cases hd : P.depth with
  | zero => rw [hd] at h; simp [sameLayout] at h
  | succ d =>
    rw [hd] at h
    simp only [liesAt, rowAt, hd, hc, h, Nat.div_one, Nat.mod_one]
    simp [hb]
theorem run_unsafeString {P : Program} {t u : Nat} {ti : TI} {i : TypeInfo} {z : Value} (hti : TIok P t ti i (.pointer u) z) {ts : Array TypeId} (hts : ts[0]? = some t) {e : TypeId} {ie : TypeInfo}
    (hi : P.info? e = some ie) (hs : ie.size = 1) (h : sameLayout P P.depth e u = true) {w : World} {c off n : Nat} {cs : Array Value} (hh : w.heap[c]? = some (.cells cs e (0, 0))) (hn0 : n ≠ 0) (hn : n ≤ 16777216)
    (hb : off + n ≤ cs.size) {bs : List UInt8} (hl : bs.length = n) (hbs : ∀ (j : Nat) (b : UInt8), bs[j]? = some b → w.cell? ⟨c, off + j, none⟩ = some (.int .u8 b.toNat)) (kd : IntKind) (ty : TypeId) :
    (Builtin.unsafeString_ ts ty #[.pointer (some ⟨c, off, none⟩), .int kd (.ofNat n)]).run P w = .ok (.string ⟨bs.toArray⟩) (World.setObj w c (.cells cs e (off, off + n))) := by
  have hsh : w.shape? c = some (e, cs.size) := by simp [World.shape?, hh]
  have hlb := run_loadBytes P w c bs off .empty hbs
  rw [hl] at hlb
  have hfr : w.freeze ⟨c, off, none⟩ n = World.setObj w c (.cells cs e (off, off + n)) := by
    unfold World.freeze World.setObj
    rw [if_neg hn0]
    congr 1
    apply Array.ext_getElem?
    intro j
    rw [Array.getElem?_modify, Array.getElem?_setIfInBounds]
    by_cases ej : c = j
    · subst ej
      have : c < w.heap.size := by
        rcases Nat.lt_or_ge c w.heap.size with h' | h'
        · exact h'
        · rw [Array.getElem?_eq_none h'] at hh; cases hh
      have hh' : w.heap[c] = .cells cs e (0, 0) := by rw [Array.getElem?_eq_getElem this] at hh; exact Option.some.inj hh
      simp [hh', this]
    · simp [ej]
  have hia : (asInt (.int kd (.ofNat n))).run P w = .ok (.ofNat n) w := rfl
  have hel : (elemOf t).run P w = .ok u w := by simp only [elemOf, Sem.run_bind, hti.run_und, Result.andThen_ok, Sem.run_pure]
  have hva : (variablesAt ⟨c, off, none⟩ u n).run P w = .ok true w := by
    simp only [variablesAt, Sem.run_bind, run_program, run_shape, Result.andThen_ok, hsh, Sem.run_pure, lies_row hi hs h hb]
  have hmax : (IntKind.i64.max : Int) = 9223372036854775807 := by decide
  show Sem.run P (asInt (.int kd (.ofNat n)) >>= _) w = _
  simp only [Sem.run_bind, hia, hts, Result.andThen_ok]
  have n1 : ¬ (Int.ofNat n < 0) := by simp only [Int.ofNat_eq_natCast]; omega
  have n2 : ¬ (Int.ofNat n > IntKind.i64.max) := by simp only [Int.ofNat_eq_natCast]; omega
  have n3 : ¬ (Int.ofNat n = 0) := by simp only [Int.ofNat_eq_natCast]; omega
  simp only [n1, n2, n3, if_false, Sem.run_bind, hel, Result.andThen_ok, Int.toNat, hva, if_true, Sem.run_pure, hlb, run_freeze, hfr]
  simp
theorem bcell_lt {blk : Blk} {e : TypeId} {n0 : Nat} {d : List AV} {tr : Tr AV} (hb : blk = .cells e n0 d tr ∨ ∃ es, blk = .grown e es n0 d tr) {l : List AV} {off n : Nat} (hn : n ≠ 0) (hl : l.length = n)
    (h : ∀ (j : Nat) (v : AV), l[j]? = some v → bcell blk (off + j) = some v) : off + n ≤ n0 := by
  have h1 : l[n - 1]? = some l[n - 1] := List.getElem?_eq_getElem (by omega)
  have h2 := h _ _ h1
  rcases hb with rfl | ⟨es, rfl⟩
  all_goals
    simp only [bcell] at h2
    split at h2
    · omega
    · cases h2
theorem freezeK_sound (hE : EnvOK E X) {t : Nat} {p n : AV} {M : Mem} {k : KM} (h : freezeK E t p n M k = true) :
    ∃ v M', k v M' = true ∧ M.next ≤ M'.next ∧ ∀ Pr G φ κ w y z (ts : Array TypeId) ty, ts[0]? = some t → MRel X Pr G φ κ M.get M.next w → VRel φ κ p y → VRel φ κ n z →
      ∃ r w', (Builtin.unsafeString_ ts ty #[y, z]).run E.P w = .ok r w' ∧ MRel X Pr G φ κ M'.get M'.next w' ∧ VRel φ κ v r := by
  unfold freezeK at h
  obtain ⟨ti, i, dd, zz, h1, hti⟩ := tyK_sound hE h
  have htd := hti.td
  obtain ⟨kd, n, rfl, h2⟩ := natIx_sound h1
  have h0 : ∀ (φ : Nat → Option Nat) (κ : Nat → Nat), VRel φ κ (.str 0 0) (.string .empty) := fun φ κ => by simp only [VRel]; exact ⟨by omega, rfl⟩
  split at h2
  · rename_i u b off hd
    rw [hd] at htd
    have htd' : dd = .pointer u := htd
    subst htd'
    cases hn : Nat.beq n 0
    · rw [hn] at h2
      simp only [cond_false] at h2
      have hn0 : n ≠ 0 := fun e => by subst e; simp at hn
      obtain ⟨g1, h3⟩ := guardB_true h2
      have g1 := Nat.le_of_ble_eq_true g1
      obtain ⟨blk, h4, h5⟩ := blkK_sound h3
      obtain ⟨l, h6, h7, h8⟩ := cellsK_sound h4
      obtain ⟨c0, h9, h10, h11⟩ := bytesK_sound h6
      have key : ∀ (e : TypeId) (te : TI) (ie : TypeInfo) (de : TypeDesc) (ze : Value) (n0 : Nat) (d : List AV) (tr : Tr AV), TIok E.P e te ie de ze → (blk = .cells e n0 d tr ∨ ∃ es, blk = .grown e es n0 d tr) → te.size = 1 →
          sameLayout E.P E.P.depth e u = true → ∀ M' : Mem, M'.get = upd M.get b (some (.frz e n0 d tr)) → M'.next = M.next →
          ∀ Pr G φ κ w y z (ts : Array TypeId) ty, ts[0]? = some t → MRel X Pr G φ κ M.get M.next w → VRel φ κ (.ptr b off) y → VRel φ κ (.int kd (.ofNat n)) z →
            ∃ r w', (Builtin.unsafeString_ ts ty #[y, z]).run E.P w = .ok r w' ∧ MRel X Pr G φ κ M'.get M'.next w' ∧ VRel φ κ (.str l.length c0) r := by
        intro e te ie de ze n0 d tr hte hblk hsz hsl M' hM1 hM2 Pr G φ κ w y z ts ty hts hm hy hz
        simp only [VRel] at hy hz
        obtain ⟨c, hc, rfl⟩ := hy
        subst hz
        have hlt := bcell_lt hblk hn0 h7 h8
        obtain ⟨xs, g2, g3, _⟩ := hm.cells hc h5 h8
        obtain ⟨o, ho, hb⟩ := hm.blk b c blk hc h5
        have hO : ∃ cs : Array Value, o = .cells cs e (0, 0) ∧ n0 ≤ cs.size ∧ CRel φ κ n0 d tr cs := by
          rcases hblk with rfl | ⟨es, rfl⟩
          · obtain ⟨cs, a1, a2, a3⟩ := hb
            exact ⟨cs, a1, by omega, a3⟩
          · obtain ⟨cs, a1, a2, a3, a4⟩ := hb
            exact ⟨cs, a1, a3, a4⟩
        obtain ⟨cs, rfl, hcs, hcr⟩ := hO
        have hdead : blk.isDead = false := by rcases hblk with rfl | ⟨es, rfl⟩ <;> rfl
        have hxs := h11 φ κ xs g2
        refine ⟨_, _, run_unsafeString hti hts hte.info (by rw [hte.size, hsz]) hsl ho hn0 g1 (by omega) (bs := strBytes l.length c0) (by rw [strBytes_length, h7]) (fun j x hx => ?_) kd ty, ?_, ?_⟩
        · exact g3 j _ (by rw [hxs, List.getElem?_map, hx]; rfl)
        · rw [hM1, hM2]
          exact hm.write hc h5 hdead ⟨cs, _, rfl, hcs, hcr⟩
        · simp only [VRel]
          exact ⟨h10, trivial⟩
      split at h9
      · rename_i e n0 d tr
        obtain ⟨te, ie, de, ze, h12, hte⟩ := tyK_sound hE h9
        obtain ⟨g2, h13⟩ := guardB_true h12
        have g2 := Nat.eq_of_beq_eq_true g2
        cases hs : sameLayout E.P E.P.depth e u
        · rw [hs] at h13; cases h13
        · rw [hs] at h13
          simp only [cond_true] at h13
          obtain ⟨M', h14, h15, h16⟩ := setBlk_sound h13
          exact ⟨_, M', h14, by omega, key e te ie de ze n0 d tr hte (.inl rfl) g2 hs M' h15 h16⟩
      · rename_i e es n0 d tr
        obtain ⟨te, ie, de, ze, h12, hte⟩ := tyK_sound hE h9
        obtain ⟨g2, h13⟩ := guardB_true h12
        have g2 := Nat.eq_of_beq_eq_true g2
        obtain ⟨_, h13⟩ := guardB_true h13
        cases hs : sameLayout E.P E.P.depth e u
        · rw [hs] at h13; cases h13
        · rw [hs] at h13
          simp only [cond_true] at h13
          obtain ⟨M', h14, h15, h16⟩ := setBlk_sound h13
          exact ⟨_, M', h14, by omega, key e te ie de ze n0 d tr hte (.inr ⟨es, rfl⟩) g2 hs M' h15 h16⟩
      · cases h9
    · have hn0 := Nat.eq_of_beq_eq_true hn
      subst hn0
      rw [hn] at h2
      simp only [cond_true] at h2
      refine ⟨_, M, h2, Nat.le_refl _, fun Pr G φ κ w y z ts ty hts hm hy hz => ?_⟩
      simp only [VRel] at hy hz
      obtain ⟨c, hc, rfl⟩ := hy
      subst hz
      refine ⟨_, w, ?_, hm, h0 φ κ⟩
      have hmax : (IntKind.i64.max : Int) = 9223372036854775807 := by decide
      have n2 : ¬ (Int.ofNat 0 > IntKind.i64.max) := by rw [hmax]; decide
      have n1 : ¬ (Int.ofNat 0 < 0) := by decide
      have hia : (asInt (.int kd (.ofNat 0))).run E.P w = .ok (.ofNat 0) w := rfl
      show Sem.run E.P (asInt (.int kd (.ofNat 0)) >>= _) w = _
      simp only [Sem.run_bind, hia, hts, Result.andThen_ok, n1, n2, if_false]
      rfl
  · rename_i u hd
    obtain ⟨g1, h3⟩ := guardB_true h2
    have g1 := Nat.eq_of_beq_eq_true g1
    subst g1
    refine ⟨_, M, h3, Nat.le_refl _, fun Pr G φ κ w y z ts ty hts hm hy hz => ?_⟩
    simp only [VRel] at hy hz
    subst hy hz
    refine ⟨_, w, ?_, hm, h0 φ κ⟩
    have hmax : (IntKind.i64.max : Int) = 9223372036854775807 := by decide
    have n2 : ¬ (Int.ofNat 0 > IntKind.i64.max) := by rw [hmax]; decide
    have n1 : ¬ (Int.ofNat 0 < 0) := by decide
    have hia : (asInt (.int kd (.ofNat 0))).run E.P w = .ok (.ofNat 0) w := rfl
    show Sem.run E.P (asInt (.int kd (.ofNat 0)) >>= _) w = _
    simp only [Sem.run_bind, hia, hts, Result.andThen_ok, n1, n2, if_false]
    rfl
  · cases h2

theorem run_val {P : Program} {w w' : World} {s : Sem Value} {r : Value} (h : s.run P w = .ok r w') : (do pure (Next.value (← s)) : Sem Next).run P w = .ok (.value r) w' := by
  simp only [Sem.run_bind, h, Result.andThen_ok, Sem.run_pure]
theorem LRel.one {v : AV} {xs : List Value} (h : LRel φ κ [v] xs) : ∃ x, xs = [x] ∧ VRel φ κ v x := by
  simp only [LRel] at h
  obtain ⟨x, xs, rfl, hx, rfl⟩ := h
  exact ⟨x, rfl, hx⟩
theorem LRel.two {v u : AV} {xs : List Value} (h : LRel φ κ [v, u] xs) : ∃ x y, xs = [x, y] ∧ VRel φ κ v x ∧ VRel φ κ u y := by
  simp only [LRel] at h
  obtain ⟨x, xs, rfl, hx, y, ys, rfl, hy, rfl⟩ := h
  exact ⟨x, y, rfl, hx, hy⟩
theorem builtinK_sound (hE : EnvOK E X) {b : Builtin} {ats : Array TypeId} {args : List AV} {M : Mem} {k : KM} (h : builtinK E b ats.toList args M k = true) :
    ∃ v M', k v M' = true ∧ M.next ≤ M'.next ∧ ∀ Pr G φ κ w xs ty cs, MRel X Pr G φ κ M.get M.next w → LRel φ κ args xs →
      ∃ r w' φ' κ', (Go.builtin b ats ty cs xs.toArray).run E.P w = .ok (.value r) w' ∧ Ext φ κ φ' κ' ∧ MRel X Pr G φ' κ' M'.get M'.next w' ∧ VRel φ' κ' v r := by
  obtain ⟨ats⟩ := ats
  change builtinK E b ats args M k = true at h
  unfold builtinK at h
  split at h
  · rename_i t l x
    obtain ⟨ti, i, d, z, h1, hti⟩ := tyK_sound hE h
    obtain ⟨v, h2, h3⟩ := lenOpK_sound hti h1
    refine ⟨v, M, h2, Nat.le_refl _, fun Pr G φ κ w xs ty cs hm hx => ?_⟩
    obtain ⟨x, rfl, hy⟩ := hx.one
    obtain ⟨r, h4, h5⟩ := h3 φ κ w x ty hy _ (show (Array.mk (t :: l))[0]? = some t from rfl)
    exact ⟨r, w, φ, κ, run_val h4, Ext.refl _ _, hm, h5⟩
  · rename_i t l x
    obtain ⟨ti, i, d, z, h1, hti⟩ := tyK_sound hE h
    obtain ⟨v, h2, h3⟩ := capOpK_sound hti h1
    refine ⟨v, M, h2, Nat.le_refl _, fun Pr G φ κ w xs ty cs hm hx => ?_⟩
    obtain ⟨x, rfl, hy⟩ := hx.one
    obtain ⟨r, h4, h5⟩ := h3 φ κ w x ty hy _ (show (Array.mk (t :: l))[0]? = some t from rfl)
    exact ⟨r, w, φ, κ, run_val h4, Ext.refl _ _, hm, h5⟩
  · rename_i t t2 l s x
    obtain ⟨ti, i, d, z, h1, hti⟩ := tyK_sound hE h
    have htd := hti.td
    have hts : TsOK E.P (Array.mk (t :: t2 :: l)) t ∧ appendK E t s x M k = true := by
      split at h1
      · rename_i e hd
        rw [hd] at htd
        refine ⟨⟨rfl, .inr ⟨t2, d, rfl, hti.und, fun kd he => ?_⟩⟩, h1⟩
        rw [show d = .slice e from htd] at he
        cases he
      · rename_i hd
        rw [hd] at htd
        refine ⟨⟨rfl, .inr ⟨t2, d, rfl, hti.und, fun kd he => ?_⟩⟩, h1⟩
        rw [show d = .string from htd] at he
        cases he
      · cases h1
    obtain ⟨hts, h1'⟩ := hts
    obtain ⟨v, M', h2, h3, h4⟩ := appendK_sound hE h1'
    refine ⟨v, M', h2, h3, fun Pr G φ κ w xs ty cs hm hx => ?_⟩
    obtain ⟨y, z, rfl, hy, hz⟩ := hx.two
    obtain ⟨r, w', φ', κ', h5, h6, h7, h8⟩ := h4 Pr G φ κ w y z _ ty hts hm hy hz
    exact ⟨r, w', φ', κ', run_val h5, h6, h7, h8⟩
  · rename_i t s x
    have hts : TsOK E.P (Array.mk [t]) t := ⟨rfl, .inl rfl⟩
    obtain ⟨v, M', h2, h3, h4⟩ := appendK_sound hE h
    refine ⟨v, M', h2, h3, fun Pr G φ κ w xs ty cs hm hx => ?_⟩
    obtain ⟨y, z, rfl, hy, hz⟩ := hx.two
    obtain ⟨r, w', φ', κ', h5, h6, h7, h8⟩ := h4 Pr G φ κ w y z _ ty hts hm hy hz
    exact ⟨r, w', φ', κ', run_val h5, h6, h7, h8⟩
  · rename_i t l d s
    obtain ⟨v, M', h2, h3, h4⟩ := copyK_sound hE h
    refine ⟨v, M', h2, h3, fun Pr G φ κ w xs ty cs hm hx => ?_⟩
    obtain ⟨y, z, rfl, hy, hz⟩ := hx.two
    obtain ⟨r, w', h5, h6, h7⟩ := h4 Pr G φ κ w y z _ ty (show (Array.mk (t :: l))[0]? = some t from rfl) hm hy hz
    exact ⟨r, w', φ, κ, run_val h5, Ext.refl _ _, h6, h7⟩
  · rename_i x
    obtain ⟨v, h2, h3⟩ := usliceK_sound h
    refine ⟨v, M, h2, Nat.le_refl _, fun Pr G φ κ w xs ty cs hm hx => ?_⟩
    obtain ⟨x, rfl, hy⟩ := hx.one
    obtain ⟨r, h4, h5⟩ := h3 φ κ E.P w x ⟨ats⟩ ty hy
    exact ⟨r, w, φ, κ, run_val h4, Ext.refl _ _, hm, h5⟩
  · rename_i t l p n
    obtain ⟨v, M', h2, h3, h4⟩ := freezeK_sound hE h
    refine ⟨v, M', h2, h3, fun Pr G φ κ w xs ty cs hm hx => ?_⟩
    obtain ⟨y, z, rfl, hy, hz⟩ := hx.two
    obtain ⟨r, w', h5, h6, h7⟩ := h4 Pr G φ κ w y z _ ty (show (Array.mk (t :: l))[0]? = some t from rfl) hm hy hz
    exact ⟨r, w', φ, κ, run_val h5, Ext.refl _ _, h6, h7⟩
  · cases args with
    | nil => cases h
    | cons x l =>
      obtain ⟨v, h2, h3⟩ := maxK_sound h
      refine ⟨v, M, h2, Nat.le_refl _, fun Pr G φ κ w xs ty cs hm hx => ?_⟩
      simp only [LRel] at hx
      obtain ⟨y, ys, rfl, hy, hys⟩ := hx
      obtain ⟨r, h4, h5⟩ := h3 φ κ E.P w y ys hy hys
      exact ⟨r, w, φ, κ, run_val (s := Builtin.max_ ⟨ats⟩ ty (y :: ys).toArray) h4, Ext.refl _ _, hm, h5⟩
  · cases args with
    | nil => cases h
    | cons x l =>
      obtain ⟨v, h2, h3⟩ := maxK_sound h
      refine ⟨v, M, h2, Nat.le_refl _, fun Pr G φ κ w xs ty cs hm hx => ?_⟩
      simp only [LRel] at hx
      obtain ⟨y, ys, rfl, hy, hys⟩ := hx
      obtain ⟨r, h4, h5⟩ := h3 φ κ E.P w y ys hy hys
      exact ⟨r, w, φ, κ, run_val (s := Builtin.min_ ⟨ats⟩ ty (y :: ys).toArray) h4, Ext.refl _ _, hm, h5⟩
  · cases h
end Go.Ev
