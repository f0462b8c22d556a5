/-
  A reckoner for the program's form over abstract values and memory, run by the kernel, and its proof: if it answers, the form's own run answers so, whatever the tape. Part EvI. No condition.
-/
import Derived.Test.YtdfbcjoopkiaeaaGreatDoorEvH
noncomputable section
namespace Go.Ev

variable {X : Fix} {Pr : Nat → Option Obj} {G : Nat → Option Blk} {φ : Nat → Option Nat} {κ : Nat → Nat} {m : Nat → Option Blk} {nx : Nat} {w : World} {E : Env}

/-! ### parts of structs -/
theorem overK_sound : ∀ {l : List AV} {off : Nat} {vs : List AV} {k : List AV → Bool}, overK l off vs k = true →
    ∃ l', k l' = true ∧ l'.length = l.length ∧ (vs = [] ∨ off + vs.length ≤ l.length) ∧ ∀ j : Nat, l'[j]? = if off ≤ j ∧ j < off + vs.length then vs[j - off]? else l[j]?
  | [], off, [], k, h => ⟨[], h, rfl, .inl rfl, fun j => by simp⟩
  | [], off, v :: vs, k, h => by cases h
  | x :: l, 0, [], k, h => by
    have h' : overK l 0 [] (fun r => k (x :: r)) = true := h
    obtain ⟨l', h1, h2, _, h4⟩ := overK_sound h'
    refine ⟨x :: l', h1, by simp [h2], .inl rfl, fun j => ?_⟩
    rw [if_neg (by simp)]
    cases j with
    | zero => simp
    | succ j => have := h4 j; rw [if_neg (by simp)] at this; simpa using this
  | x :: l, 0, v :: vs, k, h => by
    have h' : overK l 0 vs (fun r => k (v :: r)) = true := h
    obtain ⟨l', h1, h2, h3, h4⟩ := overK_sound h'
    refine ⟨v :: l', h1, by simp [h2], .inr ?_, fun j => ?_⟩
    · rcases h3 with h3 | h3
      · subst h3; simp
      · simp only [List.length_cons]; omega
    · cases j with
      | zero => simp
      | succ j =>
        have := h4 j
        simp only [List.getElem?_cons_succ, this, List.length_cons, Nat.sub_zero]
        by_cases e : j < vs.length
        · rw [if_pos (by omega), if_pos (by omega)]
        · rw [if_neg (by omega), if_neg (by omega)]
  | x :: l, off + 1, vs, k, h => by
    have h' : overK l off vs (fun r => k (x :: r)) = true := by
      cases vs <;> exact h
    obtain ⟨l', h1, h2, h3, h4⟩ := overK_sound h'
    refine ⟨x :: l', h1, by simp [h2], h3.imp id fun h => by simp only [List.length_cons]; omega, fun j => ?_⟩
    cases j with
    | zero => rw [if_neg (by omega)]; simp
    | succ j =>
      have := h4 j
      simp only [List.getElem?_cons_succ, this]
      by_cases e : off ≤ j ∧ j < off + vs.length
      · rw [if_pos e, if_pos (by omega), show j + 1 - (off + 1) = j - off by omega]
      · rw [if_neg e, if_neg (by omega)]
theorem foldl_over (off : Nat) : ∀ (xs : List Value) (i : Nat) (cs : Array Value),
    (xs.zipIdx i).foldl (fun cs p => cs.setIfInBounds (off + p.2) p.1) cs = overA cs xs (off + i)
  | [], _, _ => rfl
  | x :: xs, i, cs => by
    simp only [List.zipIdx_cons, List.foldl_cons, overA]
    rw [foldl_over off xs (i + 1)]; rfl
theorem LRel.over {l vs l' : List AV} {xs : Array Value} {ys : List Value} {off : Nat} (h : LRel φ κ l xs.toList) (hv : LRel φ κ vs ys) (hlen : l'.length = l.length)
    (hb : vs = [] ∨ off + vs.length ≤ l.length) (hg : ∀ j : Nat, l'[j]? = if off ≤ j ∧ j < off + vs.length then vs[j - off]? else l[j]?) : LRel φ κ l' (overA xs ys off).toList := by
  have hl := h.length
  have hvl := hv.length
  rcases hb with hb | hb
  · subst hb
    have : ys = [] := by cases ys <;> simp_all
    subst this
    have : l' = l := List.ext_getElem? fun j => by rw [hg j, if_neg (by simp)]
    subst this
    exact h
  · refine LRel.of_get (by rw [hlen, ← hl, Array.length_toList, Array.length_toList, overA_size]) fun j u x hu hx => ?_
    rw [hg j] at hu
    rw [Array.getElem?_toList, overA_get _ _ _ _ (by rw [hvl]; rw [Array.length_toList] at hl; omega), hvl] at hx
    by_cases e : off ≤ j ∧ j < off + vs.length
    · rw [if_pos e] at hu hx
      obtain ⟨y, hy, hr⟩ := hv.get (j - off) u hu
      rw [hy] at hx; cases hx; exact hr
    · rw [if_neg e] at hu hx
      obtain ⟨y, hy, hr⟩ := h.get j u hu
      rw [Array.getElem?_toList, hx] at hy; cases hy; exact hr
def PlaceOK (place : Nat → (Nat → Nat → Bool) → Bool) (pc : Nat → Option (Nat × Nat)) : Prop := ∀ i k, place i k = true → ∃ off size, pc i = some (off, size) ∧ k off size = true
theorem fillK_sound {place : Nat → (Nat → Nat → Bool) → Bool} {pc : Nat → Option (Nat × Nat)} (hp : PlaceOK place pc) : ∀ {ps : List (Nat × AV)} {l : List AV} {k : List AV → Bool},
    fillK place l ps k = true → ∃ l', k l' = true ∧ ∀ φ κ xs qs, LRel φ κ l xs.toList → PRel φ κ ps qs → ∃ ys, Instr.fill pc xs qs = some ys ∧ LRel φ κ l' ys.toList
  | [], l, k, h => ⟨l, h, fun φ κ xs qs hx hq => by simp only [PRel] at hq; subst hq; exact ⟨xs, rfl, hx⟩⟩
  | (i, v) :: ps, l, k, h => by
    have h' : place i (fun off size => lenK (cellsOf v) fun n => guardB (Nat.beq n size) (guardB (Nat.ble 1 n) (overK l off (cellsOf v) fun l => fillK place l ps k))) = true := h
    obtain ⟨off, size, h1, h2⟩ := hp i _ h'
    rw [lenK_eq] at h2
    obtain ⟨hn, h2⟩ := guardB_true h2
    obtain ⟨h1n, h2⟩ := guardB_true h2
    have hn := Nat.eq_of_beq_eq_true hn
    have h1n := Nat.le_of_ble_eq_true h1n
    obtain ⟨l1, h3, h4, h5, h6⟩ := overK_sound h2
    obtain ⟨l', h7, h8⟩ := fillK_sound hp h3
    refine ⟨l', h7, fun φ κ xs qs hx hq => ?_⟩
    simp only [PRel] at hq
    obtain ⟨q, qs, rfl, hq1, hq2, hq3⟩ := hq
    have hc := cells_one hq2
    have hcs : q.2.cells.size = (cellsOf v).length := by have := hc.length; simpa using this
    have hxs : xs.size = l.length := by have := hx.length; simpa using this
    have hle : off + (cellsOf v).length ≤ l.length := by
      rcases h5 with h5 | h5
      · rw [h5] at h1n; simp at h1n
      · exact h5
    obtain ⟨ys, h9, h10⟩ := h8 φ κ _ qs (hx.over hc h4 h5 h6) hq3
    refine ⟨ys, ?_, h10⟩
    obtain ⟨q1, q2⟩ := q
    simp only at hq1 hcs hc h9
    subst hq1
    simp only [Instr.fill, h1]
    rw [if_neg (by simp; omega)]
    rw [← h9]
    congr 1
    have := foldl_over off q2.cells.toList 0 xs
    simp only [Nat.add_zero] at this
    rw [← this, ← Array.toList_zipIdx, Array.foldl_toList]
theorem fieldPlace_ok {P : Program} {Fs : List Field} {fs : List (Nat × Nat × Nat)} (hfs : FRel P fs Fs) {places : Array (Nat × Nat)}
    (hpl : ∀ (i : Nat) (f : Field) (ii : TypeInfo), Fs[i]? = some f → P.info? f.type = some ii → places[i]? = some (f.offset, ii.size)) : PlaceOK (fieldPlace fs) (places[·]?) := by
  intro i k h
  unfold fieldPlace at h
  obtain ⟨⟨off, t, s⟩, h1, h2⟩ := nthK_sound h
  obtain ⟨f, ii, h3, h4, h5, h6, h7⟩ := hfs.get i _ h1
  simp only at h2 h4 h5 h7
  subst h4 h7
  exact ⟨_, _, hpl i f ii h3 h6, h2⟩
end Go.Ev
