/-
  A reckoner for the program's form over abstract values and memory, run by the kernel, and its proof: if it answers, the form's own run answers so, whatever the tape. Part EvR. No condition.
-/
import Derived.Test.YtdfbcjoopkiaeaaGreatDoorEvQ
noncomputable section
namespace Go.Ev

variable {X : Fix} {Pr : Nat → Option Obj} {G : Nat → Option Blk} {φ : Nat → Option Nat} {κ : Nat → Nat} {m : Nat → Option Blk} {nx : Nat} {w : World} {E : Env}

def TsOK (P : Program) (ts : Array TypeId) (t : Nat) : Prop := ts[0]? = some t ∧ (ts[1]? = none ∨ ∃ t1 d1, ts[1]? = some t1 ∧ P.underlying t1 = some d1 ∧ ∀ k, d1 ≠ .int k)
theorem run_append_none {P : Program} {t e : Nat} {ti te : TI} {i ie : TypeInfo} {z ze : Value} {de : TypeDesc} (hti : TIok P t ti i (.slice e) z) (hte : TIok P e te ie de ze)
    {ts : Array TypeId} (hts : TsOK P ts t) {x : Value} {new : Array Value} {w : World} (hn : (Builtin.lenOf x).run P w = .ok 0 w)
    (hnew : (Builtin.firstCells te.size 0 x).run P w = .ok new w) (ty : TypeId) :
    (Builtin.append_ ts ty #[.slice none 0 0, x]).run P w = .ok (.slice none 0 0) w := by
  obtain ⟨hts, hts1⟩ := hts
  have e0 : (#[.slice none 0 0, x] : Array Value)[0]? = some (.slice none 0 0) := rfl
  have e1 : (#[.slice none 0 0, x] : Array Value)[1]? = some x := rfl
  rcases hts1 with h1 | ⟨t1, d1, h1, hu, hd⟩
  · simp only [Builtin.append_, hts, h1, e0, e1, Sem.run_bind, hti.run_und, Result.andThen_ok, hte.run_size, Sem.run_pure, Bool.false_eq_true, if_false, hn, Bool.not_false, if_true]
    rw [if_pos (by omega)]
    simp only [Sem.run_bind, hnew, Result.andThen_ok, Sem.run_pure]
  · have hu1 : ∀ w : World, (underlying t1).run P w = .ok d1 w := fun w => by simp [underlying, hu]
    cases d1 with
    | int k => exact absurd rfl (hd k)
    | _ =>
      simp only [Builtin.append_, hts, h1, e0, e1, Sem.run_bind, hti.run_und, Result.andThen_ok, hte.run_size, Sem.run_pure, hu1, Bool.false_eq_true, if_false, hn, Bool.not_false, if_true]
      rw [if_pos (by omega)]
      simp only [Sem.run_bind, hnew, Result.andThen_ok, Sem.run_pure]
/-- A list's cells stand at the beginning of a row. -/
theorem crel_prefix {l : List AV} {xs : List Value} {cs : Array Value} (h : LRel φ κ l xs) (hc : ∀ i : Nat, i < xs.length → cs[i]? = xs[i]?) : CRel φ κ l.length l .nil cs := by
  intro i v hi hv
  simp only [arrAt, Tr.get_nil] at hv
  rw [Nat.mod_eq_of_lt hi] at hv
  obtain ⟨x, hx, hr⟩ := h.get i v hv
  exact ⟨x, by rw [hc i (by rw [h.length]; exact hi)]; exact hx, hr⟩
theorem growK_sound {e es need : Nat} {old new : List AV} {M : Mem} {k : KM} (h : growK e es need old new M k = true) :
    ∃ M', k (.slice M.next 0 need (.u 0)) M' = true ∧ M'.get = upd M.get M.next (some (.grown e es (need * es) (old ++ new) .nil)) ∧ M'.next = M.next + 1 := by
  unfold growK at h
  rw [appK_eq, forceN_eq] at h
  obtain ⟨M', h1, h2, h3⟩ := newBlk_sound h
  exact ⟨M', h1, h2, h3⟩
/-- The memory behind an append that grows. -/
theorem MRel.grow (h : MRel X Pr G φ κ m nx w) {P : Program} {te : TI} {ie : TypeInfo} {de : TypeDesc} {ze : Value} {e : Nat} (hte : TIok P e te ie de ze) {need newCap : Nat} (hcap : need ≤ newCap)
    {old new : List AV} {xo xn : List Value} (ho : LRel φ κ old xo) (hn : LRel φ κ new xn) (hlen : (old ++ new).length = need * te.size) :
    MRel X Pr G (upd φ nx (some w.heap.size)) (upd κ nx newCap) (upd m nx (some (.grown e te.size (need * te.size) (old ++ new) .nil))) (nx + 1)
      (w.drew.alloc (.cells (xo.toArray ++ xn.toArray ++ Builtin.zeroCells ze.cells (newCap - need)) e)) := by
  have hzs : ze.cells.size = te.size := by
    have := (hte.zrel φ κ).length
    rw [hte.zlen] at this
    simpa using this
  have hl := (ho.append hn).length
  refine h.drew.alloc newCap ⟨_, rfl, ?_, ?_, ?_⟩
  · rw [upd_same]
    simp only [Array.size_append, List.size_toArray, zeroCells_size, hzs]
    simp only [List.length_append] at hl hlen
    have : newCap * te.size = need * te.size + (newCap - need) * te.size := by rw [← Nat.add_mul]; congr 1; omega
    omega
  · simp only [Array.size_append, List.size_toArray]
    simp only [List.length_append] at hl hlen
    omega
  · rw [← hlen]
    refine crel_prefix ((ho.append hn).mono (h.drew.ext w.heap.size newCap)) fun i hi => ?_
    rw [Array.getElem?_append_left (by simpa using hi)]
    simp
/-- A block is given up. -/
theorem MRel.kill (h : MRel X Pr G φ κ m nx w) {b c : Nat} (hb : φ b = some c) : MRel X Pr G φ κ (upd m b (some .dead)) nx w := by
  refine ⟨h.os, h.tape, h.output, fun b1 c1 B1 h1 h2 => ?_, h.dom, fun b1 b2 c1 B1 B2 h1 h2 h3 h4 h5 h6 => ?_, fun b1 B1 hg => ?_, h.pro, h.glob, h.lt⟩
  · by_cases e : b = b1
    · subst e
      rw [upd_same] at h2; cases h2
      have := h.lt b c1 h1
      exact ⟨w.heap[c1], Array.getElem?_eq_getElem this, trivial⟩
    · rw [upd_ne _ _ e] at h2
      exact h.blk b1 c1 B1 h1 h2
  · by_cases e : b = b1
    · subst e
      rw [upd_same] at h3; cases h3; cases h5
    · by_cases e' : b = b2
      · subst e'
        rw [upd_same] at h4; cases h4; cases h6
      · rw [upd_ne _ _ e] at h3
        rw [upd_ne _ _ e'] at h4
        exact h.inj b1 b2 c1 B1 B2 h1 h2 h3 h4 h5 h6
  · obtain ⟨g1, g2, g3⟩ := h.gho b1 B1 hg
    have : b ≠ b1 := fun e => by rw [e, g2] at hb; cases hb
    rw [upd_ne _ _ this]
    exact ⟨g1, g2, g3⟩
theorem appendK_sound (hE : EnvOK E X) {t : Nat} {s a : AV} {M : Mem} {k : KM} (h : appendK E t s a M k = true) :
    ∃ v M', k v M' = true ∧ M.next ≤ M'.next ∧ ∀ Pr G φ κ w y z ts ty, TsOK E.P ts t → MRel X Pr G φ κ M.get M.next w → VRel φ κ s y → VRel φ κ a z →
      ∃ r w' φ' κ', (Builtin.append_ ts ty #[y, z]).run E.P w = .ok r w' ∧ Ext φ κ φ' κ' ∧ MRel X Pr G φ' κ' M'.get M'.next w' ∧ VRel φ' κ' v r := by
  unfold appendK at h
  obtain ⟨ti, i, d, zz, h1, hti⟩ := tyK_sound hE h
  have htd := hti.td
  split at h1
  · rename_i e hd
    rw [hd] at htd
    have htd' : d = .slice e := htd
    subst htd'
    obtain ⟨te, ie, de, ze, h2, hte⟩ := tyK_sound hE h1
    obtain ⟨g1, h3⟩ := guardB_true h2
    obtain ⟨g2, h4⟩ := guardB_true h3
    have g1 := Nat.le_of_ble_eq_true g1
    have g2 := Nat.le_of_ble_eq_true g2
    obtain ⟨n, new, h5, h6, h7⟩ := srcK_sound h4
    clear h1 h2 h3 h4
    split at h5
    · -- nothing was there
      cases hn0 : Nat.beq n 0
      · rw [hn0] at h5
        simp only [cond_false] at h5
        obtain ⟨g3, h8⟩ := guardB_true h5
        have g3 := Nat.le_of_ble_eq_true g3
        have hnz : n ≠ 0 := fun e => by subst e; simp at hn0
        obtain ⟨M', h9, h10, h11⟩ := growK_sound h8
        refine ⟨_, M', h9, by omega, fun Pr G φ κ w y z ts ty hts hm hy hz => ?_⟩
        simp only [VRel] at hy
        subst hy
        obtain ⟨hl, _⟩ := h7 E.P X Pr G φ κ w z hm hz
        obtain ⟨_, xs, hx, hf⟩ := h7 E.P X Pr G φ κ w.drew z hm.drew hz
        obtain ⟨newCap, hc, hrun⟩ := run_grow hti hte hts.1 hts.2 (base := none) (len := 0) (cap := 0) (old := []) (new := xs) hl (by omega) (by omega) g2 (by simp [Builtin.firstCells]) hf ty
        simp only [Nat.zero_add] at hrun hc
        refine ⟨_, _, _, _, hrun, hm.drew.ext w.heap.size newCap, ?_, ?_⟩
        · rw [h10, h11]
          exact hm.grow hte hc LRel.nil hx (by simpa using h6)
        · simp only [VRel]
          exact ⟨_, _, upd_same _ _ _, rfl, by rw [upd_same]; rfl, hc⟩
      · rw [hn0] at h5
        have hn0 := Nat.eq_of_beq_eq_true hn0
        subst hn0
        simp only [cond_true] at h5
        refine ⟨_, M, h5, Nat.le_refl _, fun Pr G φ κ w y z ts ty hts hm hy hz => ?_⟩
        simp only [VRel] at hy
        subst hy
        obtain ⟨hl, xs, hx, hf⟩ := h7 E.P X Pr G φ κ w z hm hz
        exact ⟨_, w, φ, κ, run_append_none hti hte hts hl hf ty, Ext.refl _ _, hm, by simp only [VRel]⟩
    · rename_i b off len cap
      rw [forceN_eq] at h5
      obtain ⟨g3, h8⟩ := guardB_true h5
      have g3 := Nat.le_of_ble_eq_true g3
      clear h5
      split at h8
      · rename_i c
        cases hc : Nat.ble (len + n) c
        · -- it grows
          rw [hc] at h8
          simp only [cond_false] at h8
          have hlt : c < len + n := by
            rcases Nat.lt_or_ge c (len + n) with h' | h'
            · exact h'
            · rw [Nat.ble_eq_true_of_le h'] at hc; cases hc
          obtain ⟨blk, h9, h10⟩ := blkK_sound h8
          obtain ⟨old, h11, h12, h13⟩ := cellsK_sound h9
          obtain ⟨M', h14, h15, h16⟩ := growK_sound h11
          refine ⟨_, M', h14, by omega, fun Pr G φ κ w y z ts ty hts hm hy hz => ?_⟩
          simp only [VRel] at hy
          obtain ⟨cc, q, hcc, rfl, hq⟩ := hy
          have hq : q = c := hq
          subst hq
          obtain ⟨hl, _⟩ := h7 E.P X Pr G φ κ w z hm hz
          obtain ⟨_, xs, hx, hf⟩ := h7 E.P X Pr G φ κ w.drew z hm.drew hz
          obtain ⟨xo, ho, _, hor⟩ := hm.drew.cells hcc h10 h13
          have hor' := hor E.P
          rw [h12] at hor'
          obtain ⟨newCap, hc', hrun⟩ := run_grow hti hte hts.1 hts.2 (base := some ⟨cc, off, none⟩) (len := len) (cap := q) (old := xo) (new := xs) hl hlt (by omega) g2 (by simpa [Builtin.firstCells] using hor') hf ty
          refine ⟨_, _, _, _, hrun, hm.drew.ext w.heap.size newCap, ?_, ?_⟩
          · rw [h15, h16]
            exact hm.grow hte hc' ho hx (by rw [List.length_append, h12, h6, Nat.add_mul])
          · simp only [VRel]
            exact ⟨_, _, upd_same _ _ _, rfl, by rw [upd_same]; rfl, hc'⟩
        · -- there is room
          rw [hc] at h8
          simp only [cond_true] at h8
          have hle := Nat.le_of_ble_eq_true hc
          obtain ⟨M', h9, h10, h11⟩ := storeK_sound h8
          refine ⟨_, M', h9, by omega, fun Pr G φ κ w y z ts ty hts hm hy hz => ?_⟩
          simp only [VRel] at hy
          obtain ⟨cc, q, hcc, rfl, hq⟩ := hy
          have hq : q = c := hq
          subst hq
          obtain ⟨hl, xs, hx, hf⟩ := h7 E.P X Pr G φ κ w z hm hz
          obtain ⟨w', h12, h13⟩ := h11 E.P X Pr G φ κ w cc xs hm hcc hx
          refine ⟨_, w', φ, κ, run_append_room hti hte hts.1 hts.2 hl hle hf (by rw [addr_add]; exact h12) ty, Ext.refl _ _, h13, ?_⟩
          simp only [VRel]
          exact ⟨cc, _, hcc, rfl, rfl⟩
      · rename_i j
        obtain ⟨blk, h9, h10⟩ := blkK_sound h8
        split at h9
        · rename_i e' es n0 dd tr
          obtain ⟨g4, h11⟩ := guardB_true h9
          obtain ⟨g5, h12⟩ := guardB_true h11
          have g4 := Nat.eq_of_beq_eq_true g4
          have g5 := Nat.eq_of_beq_eq_true g5
          subst g4 g5
          clear h9 h11 h8
          cases hc : Nat.ble (off + (len + n) * te.size) n0
          · -- behind what is known: in place, or not
            rw [hc] at h12
            simp only [cond_false] at h12
            obtain ⟨g6, h13⟩ := guardB_true h12
            obtain ⟨g7, h14⟩ := guardB_true h13
            obtain ⟨g8, h15⟩ := guardB_true h14
            have g6 := Nat.eq_of_beq_eq_true g6
            have g7 := Nat.eq_of_beq_eq_true g7
            have g8 := Nat.eq_of_beq_eq_true g8
            subst g6 g7 g8
            rw [forceN_eq] at h15
            clear h12 h13 h14
            obtain ⟨tr', h16, h17, h18, h19⟩ := setTrK_sound h15
            obtain ⟨M1, h20, h21, h22⟩ := setBlk_sound h16
            obtain ⟨M', h23, h24, h25⟩ := newBlk_sound h20
            refine ⟨_, M', h23, by omega, fun Pr G φ κ w y z ts ty hts hm hy hz => ?_⟩
            simp only [VRel] at hy
            obtain ⟨cc, q, hcc, rfl, hq1, hq2⟩ := hy
            obtain ⟨o, ho, cs, rfl, hcs, hn0, hcr⟩ := hm.blk b cc _ hcc h10
            obtain ⟨hl, xs, hx, hf⟩ := h7 E.P X Pr G φ κ w z hm hz
            have hxl := hx.length
            rw [h24, h25, h21, h22]
            -- the cells, new ones set
            have hcell : ∀ (xs : List Value), LRel φ κ new xs → ∀ (cs' : Array Value), (∀ i : Nat, i < len * te.size → cs'[i]? = cs[i]?) → (∀ i : Nat, i < new.length → cs'[len * te.size + i]? = xs[i]?) →
                CRel φ κ ((len + n) * te.size) dd tr' cs' := by
              intro xs hx cs' hA hB i v hi hv
              unfold arrAt at hv
              rw [h18] at hv
              rw [Nat.add_mul] at hi
              by_cases e : len * te.size ≤ i ∧ i < len * te.size + new.length
              · rw [if_pos e] at hv
                have hs : new[i - len * te.size]? = some new[i - len * te.size] := List.getElem?_eq_getElem (by omega)
                rw [hs] at hv
                simp only [Option.some.injEq] at hv
                obtain ⟨x, h1, h2⟩ := hx.get (i - len * te.size) v (by rw [hs, hv])
                have := hB (i - len * te.size) (by omega)
                rw [show len * te.size + (i - len * te.size) = i by omega] at this
                exact ⟨x, by rw [this]; exact h1, h2⟩
              · rw [if_neg e] at hv
                have hi' : i < len * te.size := by omega
                obtain ⟨x, h1, h2⟩ := hcr i v hi' hv
                exact ⟨x, by rw [hA i hi']; exact h1, h2⟩
            by_cases hroom : len + n ≤ q
            · -- in place
              have hsz : len * te.size + xs.length ≤ cs.size := by
                rw [hxl, h6, hcs, ← Nat.add_mul]
                exact Nat.mul_le_mul_right _ (by omega)
              have hst := run_storeCells' E.P (off := 0 + len * te.size) ho (.inr (by omega)) (hx.flat_one h19)
              refine ⟨_, _, _, _, run_append_room hti hte hts.1 hts.2 hl hroom hf (by rw [addr_add]; exact hst) ty, hm.ext cc (κ b), ?_, ?_⟩
              · refine hm.rebirth hcc h10 rfl ⟨_, rfl, ?_, ?_, ?_⟩
                · rw [upd_same, overA_size]; exact hcs
                · rw [overA_size, hcs]; exact Nat.mul_le_mul_right _ (by omega)
                · refine (hcell xs hx _ (fun i hi => ?_) (fun i hi => ?_)).mono (hm.ext cc (κ b))
                  · rw [overA_get _ _ _ _ (by omega), if_neg (by omega)]
                  · rw [overA_get _ _ _ _ (by omega), if_pos (by omega)]
                    congr 1; omega
              · simp only [VRel]
                exact ⟨cc, q, upd_same _ _ _, rfl, by rw [upd_same]; omega, hroom⟩
            · -- elsewhere
              obtain ⟨_, xs', hx', hf'⟩ := h7 E.P X Pr G φ κ w.drew z hm.drew hz
              have hxl' := hx'.length
              have hzs : ze.cells.size = te.size := by
                have := (hte.zrel φ κ).length
                rw [hte.zlen] at this
                simpa using this
              have hlc : len * te.size ≤ cs.size := by omega
              have htk : (cs.toList.take (len * te.size)).length = len * te.size := by
                rw [List.length_take, Array.length_toList]; omega
              have htg : ∀ (i : Nat), i < len * te.size → (cs.toList.take (len * te.size))[i]? = cs[i]? := fun i hi => by
                rw [List.getElem?_take, if_pos hi, Array.getElem?_toList]
              have hold : (Builtin.firstCells te.size len (.slice (some ⟨cc, 0, none⟩) len q)).run E.P w.drew = .ok (cs.toList.take (len * te.size)).toArray w.drew := by
                have := run_loadCellsFrom E.P w.drew cc 0 (len * te.size) 0 #[] _ htk fun j x hx => by
                  have hj : j < len * te.size := by
                    rcases Nat.lt_or_ge j (len * te.size) with h' | h'
                    · exact h'
                    · rw [List.getElem?_eq_none (by rw [htk]; exact h')] at hx; cases hx
                  rw [htg j hj] at hx
                  rw [show 0 + (0 + j) = j by omega]
                  have ho' : w.drew.heap[cc]? = some (.cells cs e (0, 0)) := ho
                  rw [cell_of_heap ho']
                  exact hx
                simpa [Builtin.firstCells, loadCells] using this
              obtain ⟨newCap, hc', hrun⟩ := run_grow hti hte hts.1 hts.2 (base := some ⟨cc, 0, none⟩) (len := len) (cap := q) (new := xs') hl (by omega) (by omega) g2 hold (by simpa using hf') ty
              refine ⟨_, _, _, _, hrun, hm.ext w.heap.size newCap, ?_, ?_⟩
              · refine (hm.drew.kill hcc).alloc newCap ⟨_, rfl, ?_, ?_, ?_⟩
                · rw [upd_same]
                  simp only [Array.size_append, List.size_toArray, zeroCells_size, hzs]
                  rw [htk, hxl', h6, ← Nat.add_mul, ← Nat.add_mul]
                  congr 1; omega
                · simp only [Array.size_append, List.size_toArray]
                  rw [htk, hxl', h6, ← Nat.add_mul]; omega
                · refine (hcell xs' hx' _ (fun i hi => ?_) (fun i hi => ?_)).mono (hm.ext w.heap.size newCap)
                  · rw [Array.getElem?_append_left (by simp only [Array.size_append, List.size_toArray]; omega), Array.getElem?_append_left (by simp only [List.size_toArray]; omega), List.getElem?_toArray, htg i hi]
                  · rw [Array.getElem?_append_left (by simp only [Array.size_append, List.size_toArray]; omega), Array.getElem?_append_right (by simp only [List.size_toArray]; omega), List.getElem?_toArray, List.size_toArray, htk]
                    congr 1; omega
              · simp only [VRel]
                exact ⟨_, _, upd_same _ _ _, rfl, by rw [upd_same]; omega, hc'⟩
          · -- within what is known
            rw [hc] at h12
            simp only [cond_true] at h12
            have hle := Nat.le_of_ble_eq_true hc
            obtain ⟨g6, h13⟩ := guardB_true h12
            have g6 := Nat.eq_of_beq_eq_true g6
            obtain ⟨M', h14, h15, h16⟩ := storeK_sound h13
            refine ⟨_, M', h14, by omega, fun Pr G φ κ w y z ts ty hts hm hy hz => ?_⟩
            simp only [VRel] at hy
            obtain ⟨cc, q, hcc, rfl, hq1, hq2⟩ := hy
            obtain ⟨o, ho, cs, rfl, hcs, hn0, hcr⟩ := hm.blk b cc _ hcc h10
            obtain ⟨hl, xs, hx, hf⟩ := h7 E.P X Pr G φ κ w z hm hz
            obtain ⟨w', h17, h18⟩ := h16 E.P X Pr G φ κ w cc xs hm hcc hx
            have hroom : len + n ≤ q := by
              have h19 : off + (len + n) * te.size ≤ κ b * te.size := by omega
              rw [g6, ← Nat.add_mul] at h19
              have := Nat.le_of_mul_le_mul_right h19 (by omega)
              omega
            refine ⟨_, w', φ, κ, run_append_room hti hte hts.1 hts.2 hl hroom hf (by rw [addr_add]; exact h17) ty, Ext.refl _ _, h18, ?_⟩
            simp only [VRel]
            exact ⟨cc, q, hcc, rfl, hq1, hroom⟩
        · cases h9
    · cases h5
  · cases h1
end Go.Ev
