/-
  A reckoner for the program's form over abstract values and memory, run by the kernel, and its proof: if it answers, the form's own run answers so, whatever the tape. Part EvY. No condition.
-/
import Derived.Test.YtdfbcjoopkiaeaaGreatDoorEvX
noncomputable section
namespace Go.Ev

variable {X : Fix} {Pr : Nat → Option Obj} {G : Nat → Option Blk} {φ : Nat → Option Nat} {κ : Nat → Nat} {m : Nat → Option Blk} {nx : Nat} {w : World} {E : Env}

/-! ## Values whose blocks are old -/
mutual
def ltV (n : Nat) : AV → Bool
  | .ptr b _ => Nat.ble (Nat.succ b) n
  | .slice b _ _ _ => Nat.ble (Nat.succ b) n
  | .map b => Nat.ble (Nat.succ b) n
  | .func _ fs cs => and (ltL n fs) (ltL n cs)
  | .iface _ v => ltV n v
  | .agg cs => ltL n cs
  | .tup vs => ltL n vs
  | _ => true
def ltL (n : Nat) : List AV → Bool
  | [] => true
  | v :: vs => and (ltV n v) (ltL n vs)
end
def restr (φ : Nat → Option Nat) (n : Nat) : Nat → Option Nat := fun b => if b < n then φ b else none
theorem restr_lt {n b : Nat} (h : b < n) : restr φ n b = φ b := if_pos h
mutual
theorem VRel.agree {φ' : Nat → Option Nat} {κ' : Nat → Nat} {n : Nat} (h : ∀ b, b < n → φ' b = φ b ∧ κ' b = κ b) : ∀ (v : AV) {x : Value}, ltV n v = true → VRel φ κ v x → VRel φ' κ' v x
  | .bool _, _, _, r => by simpa [VRel] using r
  | .int _ _, _, _, r => by simpa [VRel] using r
  | .flo _ _, _, _, r => by simpa [VRel] using r
  | .str _ _, _, _, r => by simpa [VRel] using r
  | .nilp, _, _, r => by simpa [VRel] using r
  | .ptr b off, _, l, r => by
    have hb : b < n := Nat.le_of_ble_eq_true (by simpa only [ltV] using l)
    simp only [VRel] at r ⊢
    rw [(h b hb).1]
    exact r
  | .gptr _ _, _, _, r => by simpa [VRel] using r
  | .nils, _, _, r => by simpa [VRel] using r
  | .slice b off len cap, _, l, r => by
    have hb : b < n := Nat.le_of_ble_eq_true (by simpa only [ltV] using l)
    simp only [VRel] at r ⊢
    obtain ⟨c, q, hc, hx, hq⟩ := r
    refine ⟨c, q, by rw [(h b hb).1]; exact hc, hx, ?_⟩
    cases cap with
    | k m => exact hq
    | u j => exact ⟨by rw [(h b hb).2]; exact hq.1, hq.2⟩
  | .nilm, _, _, r => by simpa [VRel] using r
  | .map b, _, l, r => by
    have hb : b < n := Nat.le_of_ble_eq_true (by simpa only [ltV] using l)
    simp only [VRel] at r ⊢
    rw [(h b hb).1]
    exact r
  | .nilf, _, _, r => by simpa [VRel] using r
  | .func fn fs cs, _, l, r => by
    simp only [ltV, Bool.and_eq_true] at l
    simp only [VRel] at r ⊢
    obtain ⟨f, c, hx, hf, hc⟩ := r
    exact ⟨f, c, hx, LRel.agree h fs l.1 hf, LRel.agree h cs l.2 hc⟩
  | .nili, _, _, r => by simpa [VRel] using r
  | .iface t v, _, l, r => by
    simp only [ltV] at l
    simp only [VRel] at r ⊢
    obtain ⟨y, hx, hy⟩ := r
    exact ⟨y, hx, VRel.agree h v l hy⟩
  | .agg cs, _, l, r => by
    simp only [ltV] at l
    simp only [VRel] at r ⊢
    obtain ⟨y, hx, hy⟩ := r
    exact ⟨y, hx, LRel.agree h cs l hy⟩
  | .tup vs, _, l, r => by
    simp only [ltV] at l
    simp only [VRel] at r ⊢
    obtain ⟨y, hx, hy⟩ := r
    exact ⟨y, hx, LRel.agree h vs l hy⟩
theorem LRel.agree {φ' : Nat → Option Nat} {κ' : Nat → Nat} {n : Nat} (h : ∀ b, b < n → φ' b = φ b ∧ κ' b = κ b) : ∀ (v : List AV) {x : List Value}, ltL n v = true → LRel φ κ v x → LRel φ' κ' v x
  | [], _, _, r => by simpa [LRel] using r
  | v :: vs, _, l, r => by
    simp only [ltL, Bool.and_eq_true] at l
    simp only [LRel] at r ⊢
    obtain ⟨x, xs, he, hv, hs⟩ := r
    exact ⟨x, xs, he, VRel.agree h v l.1 hv, LRel.agree h vs l.2 hs⟩
end
/-- A row that is there already is taken into the memory. -/
theorem MRel.adopt (h : MRel X Pr G φ κ m nx w) {c q : Nat} {B : Blk} {o : Obj} (hc : w.heap[c]? = some o) (hf : ∀ b, φ b ≠ some c) (hp : Pr c = none) (hg : X.gl c = none)
    (hB : BRel (upd φ nx (some c)) (upd κ nx q) nx B o) : MRel X Pr G (upd φ nx (some c)) (upd κ nx q) (upd m nx (some B)) (nx + 1) w := by
  have he := h.ext c q
  have hlt : c < w.heap.size := by
    rcases Nat.lt_or_ge c w.heap.size with h' | h'
    · exact h'
    · rw [Array.getElem?_eq_none h'] at hc; cases hc
  refine ⟨h.os, h.tape, h.output, fun b c' B' hb hB' => ?_, fun b c' hb => ?_, fun b b' c' B1 B2 h1 h2 h3 h4 h5 h6 => ?_, fun b B' hg' => ?_, fun c' p hp' => ?_, fun g l hg' => ?_, fun b c' hb => ?_⟩
  · by_cases e : nx = b
    · subst e
      rw [upd_same] at hb hB'
      cases hb; cases hB'
      exact ⟨o, hc, hB⟩
    · rw [upd_ne _ _ e] at hb hB'
      obtain ⟨p, hp', hr⟩ := h.blk b c' B' hb hB'
      exact ⟨p, hp', hr.mono he (by rw [upd_ne _ _ e])⟩
  · by_cases e : nx = b
    · omega
    · rw [upd_ne _ _ e] at hb
      have := h.dom b c' hb
      omega
  · by_cases e : nx = b
    · by_cases e' : nx = b'
      · exact e.symm.trans e'
      · subst e
        rw [upd_same] at h1; cases h1
        rw [upd_ne _ _ e'] at h2
        exact absurd h2 (hf b')
    · by_cases e' : nx = b'
      · subst e'
        rw [upd_same] at h2; cases h2
        rw [upd_ne _ _ e] at h1
        exact absurd h1 (hf b)
      · rw [upd_ne _ _ e] at h1 h3
        rw [upd_ne _ _ e'] at h2 h4
        exact h.inj b b' c' B1 B2 h1 h2 h3 h4 h5 h6
  · obtain ⟨g1, g2, g3⟩ := h.gho b B' hg'
    have e : nx ≠ b := by omega
    rw [upd_ne _ _ e, upd_ne _ _ e]
    exact ⟨g1, g2, by omega⟩
  · obtain ⟨g1, g2⟩ := h.pro c' p hp'
    refine ⟨g1, fun b hb => ?_⟩
    by_cases e : nx = b
    · subst e
      rw [upd_same] at hb; cases hb
      rw [hp] at hp'; cases hp'
    · rw [upd_ne _ _ e] at hb
      exact g2 b hb
  · obtain ⟨cs, e0, fz, g1, g2, g3⟩ := h.glob g l hg'
    refine ⟨cs, e0, fz, g1, fun i v hv => ?_, fun b hb => ?_⟩
    · obtain ⟨x, hx, hr⟩ := g2 i v hv
      exact ⟨x, hx, hr.mono he⟩
    · by_cases e : nx = b
      · subst e
        rw [upd_same] at hb; cases hb
        rw [hg] at hg'; cases hg'
      · rw [upd_ne _ _ e] at hb
        exact g3 b hb
  · by_cases e : nx = b
    · subst e
      rw [upd_same] at hb; cases hb
      exact hlt
    · rw [upd_ne _ _ e] at hb
      exact h.lt b c' hb
end Go.Ev
