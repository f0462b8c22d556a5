/-
  A reckoner for the program's form over abstract values and memory, run by the kernel, and its proof: if it answers, the form's own run answers so, whatever the tape. Part EvD. No condition.
-/
import Derived.Test.YtdfbcjoopkiaeaaGreatDoorEvC
noncomputable section
namespace Go.Ev

/-! ## What the reckoner's values and memory say of the model's -/
def strBytes : Nat → Nat → List UInt8
  | 0, _ => []
  | n + 1, c => UInt8.ofNat (c % 256) :: strBytes n (c / 256)

mutual
def VRel (φ : Nat → Option Nat) (κ : Nat → Nat) : AV → Value → Prop
  | .bool b, x => x = .bool b
  | .int k n, x => x = .int k n
  | .flo k n, x => x = .float k n
  | .str n c, x => c < 256 ^ n ∧ x = .string ⟨(strBytes n c).toArray⟩
  | .nilp, x => x = .pointer none
  | .ptr b off, x => ∃ c, φ b = some c ∧ x = .pointer (some ⟨c, off, none⟩)
  | .gptr g off, x => x = .pointer (some ⟨g, off, none⟩)
  | .nils, x => x = .slice none 0 0
  | .slice b off len cap, x => ∃ c q, φ b = some c ∧ x = .slice (some ⟨c, off, none⟩) len q ∧ (match cap with | .k m => q = m | .u j => q + j = κ b ∧ len ≤ q)
  | .nilm, x => x = .map none
  | .map b, x => ∃ c, φ b = some c ∧ x = .map (some c)
  | .nilf, x => x = .nilFunc
  | .func fn fs cs, x => ∃ f c, x = .func fn f c ∧ LRel φ κ fs f.toList ∧ LRel φ κ cs c.toList
  | .nili, x => x = .nilIface
  | .iface t v, x => ∃ y, x = .iface t y ∧ VRel φ κ v y
  | .agg cs, x => ∃ l, x = .agg l ∧ LRel φ κ cs l.toList
  | .tup vs, x => ∃ l, x = .tuple l ∧ LRel φ κ vs l.toList
def LRel (φ : Nat → Option Nat) (κ : Nat → Nat) : List AV → List Value → Prop
  | [], l => l = []
  | v :: vs, l => ∃ x xs, l = x :: xs ∧ VRel φ κ v x ∧ LRel φ κ vs xs
end

def Ext (φ : Nat → Option Nat) (κ : Nat → Nat) (φ' : Nat → Option Nat) (κ' : Nat → Nat) : Prop := ∀ b c, φ b = some c → φ' b = some c ∧ κ' b = κ b
theorem Ext.refl (φ : Nat → Option Nat) (κ : Nat → Nat) : Ext φ κ φ κ := fun _ _ h => ⟨h, rfl⟩
theorem Ext.trans {φ φ' φ'' : Nat → Option Nat} {κ κ' κ'' : Nat → Nat} (h : Ext φ κ φ' κ') (g : Ext φ' κ' φ'' κ'') : Ext φ κ φ'' κ'' :=
  fun b c e => ⟨(g b c (h b c e).1).1, (g b c (h b c e).1).2.trans (h b c e).2⟩

mutual
theorem VRel.mono {φ φ' : Nat → Option Nat} {κ κ' : Nat → Nat} (h : Ext φ κ φ' κ') : ∀ (v : AV) {x : Value}, VRel φ κ v x → VRel φ' κ' v x
  | .bool _, _, r => by simpa [VRel] using r
  | .int _ _, _, r => by simpa [VRel] using r
  | .flo _ _, _, r => by simpa [VRel] using r
  | .str _ _, _, r => by simpa [VRel] using r
  | .nilp, _, r => by simpa [VRel] using r
  | .ptr b off, _, r => by
    simp only [VRel] at r ⊢
    obtain ⟨c, hc, hx⟩ := r
    exact ⟨c, (h b c hc).1, hx⟩
  | .gptr _ _, _, r => by simpa [VRel] using r
  | .nils, _, r => by simpa [VRel] using r
  | .slice b off len cap, _, r => by
    simp only [VRel] at r ⊢
    obtain ⟨c, q, hc, hx, hq⟩ := r
    refine ⟨c, q, (h b c hc).1, hx, ?_⟩
    cases cap with
    | k m => exact hq
    | u j => exact ⟨by rw [(h b c hc).2]; exact hq.1, hq.2⟩
  | .nilm, _, r => by simpa [VRel] using r
  | .map b, _, r => by
    simp only [VRel] at r ⊢
    obtain ⟨c, hc, hx⟩ := r
    exact ⟨c, (h b c hc).1, hx⟩
  | .nilf, _, r => by simpa [VRel] using r
  | .func fn fs cs, _, r => by
    simp only [VRel] at r ⊢
    obtain ⟨f, c, hx, hf, hc⟩ := r
    exact ⟨f, c, hx, LRel.mono h fs hf, LRel.mono h cs hc⟩
  | .nili, _, r => by simpa [VRel] using r
  | .iface t v, _, r => by
    simp only [VRel] at r ⊢
    obtain ⟨y, hx, hy⟩ := r
    exact ⟨y, hx, VRel.mono h v hy⟩
  | .agg cs, _, r => by
    simp only [VRel] at r ⊢
    obtain ⟨l, hx, hl⟩ := r
    exact ⟨l, hx, LRel.mono h cs hl⟩
  | .tup vs, _, r => by
    simp only [VRel] at r ⊢
    obtain ⟨l, hx, hl⟩ := r
    exact ⟨l, hx, LRel.mono h vs hl⟩
theorem LRel.mono {φ φ' : Nat → Option Nat} {κ κ' : Nat → Nat} (h : Ext φ κ φ' κ') : ∀ (v : List AV) {x : List Value}, LRel φ κ v x → LRel φ' κ' v x
  | [], _, r => by simpa [LRel] using r
  | v :: vs, _, r => by
    simp only [LRel] at r ⊢
    obtain ⟨x, xs, he, hv, hs⟩ := r
    exact ⟨x, xs, he, VRel.mono h v hv, LRel.mono h vs hs⟩
end

section
variable {φ : Nat → Option Nat} {κ : Nat → Nat}
theorem LRel.length : ∀ {vs : List AV} {xs : List Value}, LRel φ κ vs xs → xs.length = vs.length
  | [], _, r => by simp only [LRel] at r; simp [r]
  | v :: vs, _, r => by
    simp only [LRel] at r
    obtain ⟨x, xs, rfl, _, hs⟩ := r
    simp [hs.length]
theorem LRel.get : ∀ {vs : List AV} {xs : List Value}, LRel φ κ vs xs → ∀ (i : Nat) (v : AV), vs[i]? = some v → ∃ x, xs[i]? = some x ∧ VRel φ κ v x
  | [], _, _, i, v, h => by simp at h
  | v :: vs, _, r, i, u, h => by
    simp only [LRel] at r
    obtain ⟨x, xs, rfl, hv, hs⟩ := r
    cases i with
    | zero => simp at h; subst h; exact ⟨x, by simp, hv⟩
    | succ i => simpa using hs.get i u (by simpa using h)
theorem LRel.nil : LRel φ κ [] [] := by simp [LRel]
theorem LRel.cons {v : AV} {x : Value} {vs : List AV} {xs : List Value} (h : VRel φ κ v x) (hs : LRel φ κ vs xs) : LRel φ κ (v :: vs) (x :: xs) := by
  simp only [LRel]; exact ⟨x, xs, rfl, h, hs⟩
theorem LRel.append : ∀ {vs us : List AV} {xs ys : List Value}, LRel φ κ vs xs → LRel φ κ us ys → LRel φ κ (vs ++ us) (xs ++ ys)
  | [], _, _, _, r, h => by simp only [LRel] at r; subst r; exact h
  | v :: vs, us, _, ys, r, h => by
    simp only [LRel] at r
    obtain ⟨x, xs, rfl, hv, hs⟩ := r
    exact LRel.cons hv (hs.append h)
theorem LRel.of_get : ∀ {vs : List AV} {xs : List Value}, vs.length = xs.length → (∀ (i : Nat) (v : AV) (x : Value), vs[i]? = some v → xs[i]? = some x → VRel φ κ v x) → LRel φ κ vs xs
  | [], xs, h, _ => by have : xs = [] := by cases xs <;> simp_all
                       subst this; exact LRel.nil
  | v :: vs, [], h, _ => by simp at h
  | v :: vs, x :: xs, h, g => LRel.cons (g 0 v x (by simp) (by simp)) (LRel.of_get (by simpa using h) fun i u y hu hy => g (i + 1) u y (by simpa using hu) (by simpa using hy))
end

/-! ### memory -/
/-- The abstract cell. -/
def arrAt (d : List AV) (t : Tr AV) (i : Nat) : Option AV := match t.get i with | some v => some v | none => d[i % d.length]?
def CRel (φ : Nat → Option Nat) (κ : Nat → Nat) (n : Nat) (d : List AV) (t : Tr AV) (cs : Array Value) : Prop :=
  ∀ i v, i < n → arrAt d t i = some v → ∃ x, cs[i]? = some x ∧ VRel φ κ v x
def ERel (φ : Nat → Option Nat) (κ : Nat → Nat) : List (AV × AV × Nat) → List MapEntry → Prop
  | [], l => l = []
  | e :: es, l => ∃ x xs, l = x :: xs ∧ VRel φ κ e.1 x.key ∧ VRel φ κ e.2.1 x.val ∧ x.born = e.2.2 ∧ ERel φ κ es xs
def BRel (φ : Nat → Option Nat) (κ : Nat → Nat) (b : Nat) : Blk → Obj → Prop
  | .cells e n d t, o => ∃ cs : Array Value, o = .cells cs e (0, 0) ∧ cs.size = n ∧ CRel φ κ n d t cs
  | .grown e es n d t, o => ∃ cs : Array Value, o = .cells cs e (0, 0) ∧ cs.size = κ b * es ∧ n ≤ cs.size ∧ CRel φ κ n d t cs
  | .frz e n d t, o => ∃ (cs : Array Value) (fz : Nat × Nat), o = .cells cs e fz ∧ n ≤ cs.size ∧ CRel φ κ n d t cs
  | .map es clock, o => ∃ xs : Array MapEntry, o = .map xs clock ∧ ERel φ κ es xs.toList
  | .dead, _ => True
theorem CRel.mono {φ φ' : Nat → Option Nat} {κ κ' : Nat → Nat} (h : Ext φ κ φ' κ') {n : Nat} {d : List AV} {t : Tr AV} {cs : Array Value} (r : CRel φ κ n d t cs) : CRel φ' κ' n d t cs :=
  fun i v hi hv => let ⟨x, hx, hr⟩ := r i v hi hv; ⟨x, hx, hr.mono h⟩
theorem ERel.mono {φ φ' : Nat → Option Nat} {κ κ' : Nat → Nat} (h : Ext φ κ φ' κ') : ∀ {es : List (AV × AV × Nat)} {xs : List MapEntry}, ERel φ κ es xs → ERel φ' κ' es xs
  | [], _, r => r
  | e :: es, _, r => by
    obtain ⟨x, xs, he, h1, h2, h3, h4⟩ := r
    exact ⟨x, xs, he, h1.mono h, h2.mono h, h3, h4.mono h⟩
theorem BRel.mono {φ φ' : Nat → Option Nat} {κ κ' : Nat → Nat} (h : Ext φ κ φ' κ') {b : Nat} (hb : κ' b = κ b) : ∀ {blk : Blk} {o : Obj}, BRel φ κ b blk o → BRel φ' κ' b blk o
  | .cells .., _, ⟨cs, h1, h2, h3⟩ => ⟨cs, h1, h2, h3.mono h⟩
  | .grown .., _, ⟨cs, h1, h2, h3, h4⟩ => ⟨cs, h1, by rw [hb]; exact h2, h3, h4.mono h⟩
  | .frz .., _, ⟨cs, fz, h1, h2, h3⟩ => ⟨cs, fz, h1, h2, h3.mono h⟩
  | .map .., _, ⟨xs, h1, h2⟩ => ⟨xs, h1, h2.mono h⟩
  | .dead, _, _ => trivial

structure Fix where
  W : World
  gl : Nat → Option (List AV)

structure MRel (X : Fix) (Pr : Nat → Option Obj) (G : Nat → Option Blk) (φ : Nat → Option Nat) (κ : Nat → Nat) (m : Nat → Option Blk) (nx : Nat) (w : World) : Prop where
  os : w.os = X.W.os
  tape : w.tape = X.W.tape
  output : w.output = X.W.output
  blk : ∀ b c B, φ b = some c → m b = some B → ∃ o, w.heap[c]? = some o ∧ BRel φ κ b B o
  dom : ∀ b c, φ b = some c → b < nx
  inj : ∀ b b' c B B', φ b = some c → φ b' = some c → m b = some B → m b' = some B' → B.isDead = false → B'.isDead = false → b = b'
  gho : ∀ b B, G b = some B → m b = some B ∧ φ b = none ∧ b < nx
  pro : ∀ c o, Pr c = some o → w.heap[c]? = some o ∧ ∀ b, φ b ≠ some c
  glob : ∀ g l, X.gl g = some l → ∃ (cs : Array Value) (e : TypeId) (fz : Nat × Nat), w.heap[g]? = some (.cells cs e fz) ∧ (∀ (i : Nat) (v : AV), l[i]? = some v → ∃ x, cs[i]? = some x ∧ VRel φ κ v x) ∧ ∀ b, φ b ≠ some g
  lt : ∀ b c, φ b = some c → c < w.heap.size

variable {X : Fix} {Pr : Nat → Option Obj} {G : Nat → Option Blk} {φ : Nat → Option Nat} {κ : Nat → Nat} {m : Nat → Option Blk} {nx : Nat} {w : World}

def upd {α : Type} (f : Nat → α) (i : Nat) (v : α) : Nat → α := fun j => if i = j then v else f j
theorem upd_same {α : Type} (f : Nat → α) (i : Nat) (v : α) : upd f i v i = v := by simp [upd]
theorem upd_ne {α : Type} (f : Nat → α) {i j : Nat} (v : α) (h : i ≠ j) : upd f i v j = f j := by simp [upd, h]

theorem MRel.ext (h : MRel X Pr G φ κ m nx w) (c q : Nat) : Ext φ κ (upd φ nx (some c)) (upd κ nx q) := fun b d e => by
  have : nx ≠ b := by have := h.dom b d e; omega
  rw [upd_ne _ _ this, upd_ne _ _ this]
  exact ⟨e, rfl⟩

/-- A draw. -/
theorem MRel.drew (h : MRel X Pr G φ κ m nx w) : MRel X Pr G φ κ m nx w.drew :=
  ⟨h.os, h.tape, h.output, h.blk, h.dom, h.inj, h.gho, h.pro, h.glob, h.lt⟩

theorem heap_alloc_lt (w : World) (o : Obj) {c : Nat} {p : Obj} (h : w.heap[c]? = some p) : (w.alloc o).heap[c]? = some p := by
  have hc : c < w.heap.size := by
    rcases Nat.lt_or_ge c w.heap.size with h' | h'
    · exact h'
    · rw [Array.getElem?_eq_none h'] at h; cases h
  show (w.heap.push o)[c]? = _
  rw [Array.getElem?_push, if_neg (by omega)]; exact h
theorem heap_alloc_new (w : World) (o : Obj) : (w.alloc o).heap[w.heap.size]? = some o := by
  show (w.heap.push o)[w.heap.size]? = _
  simp
theorem lt_of_heap {w : World} {c : Nat} {p : Obj} (h : w.heap[c]? = some p) : c < w.heap.size := by
  rcases Nat.lt_or_ge c w.heap.size with h' | h'
  · exact h'
  · rw [Array.getElem?_eq_none h'] at h; cases h

/-- A new block. -/
theorem MRel.alloc (h : MRel X Pr G φ κ m nx w) {B : Blk} {o : Obj} (q : Nat)
    (hB : BRel (upd φ nx (some w.heap.size)) (upd κ nx q) nx B o) :
    MRel X Pr G (upd φ nx (some w.heap.size)) (upd κ nx q) (upd m nx (some B)) (nx + 1) (w.alloc o) := by
  have he := h.ext w.heap.size q
  have hs : (w.alloc o).heap.size = w.heap.size + 1 := by simp
  refine ⟨h.os, h.tape, h.output, fun b c B' hb hB' => ?_, fun b c hb => ?_, fun b b' c B1 B2 h1 h2 h3 h4 h5 h6 => ?_, fun b B' hg => ?_, fun c p hp => ?_, fun g l hg => ?_, fun b c hb => ?_⟩
  · by_cases e : nx = b
    · subst e
      rw [upd_same] at hb hB'
      cases hb; cases hB'
      exact ⟨o, heap_alloc_new w o, hB⟩
    · rw [upd_ne _ _ e] at hb hB'
      obtain ⟨p, hp, hr⟩ := h.blk b c B' hb hB'
      exact ⟨p, heap_alloc_lt w o hp, hr.mono he (upd_ne _ _ e)⟩
  · by_cases e : nx = b
    · omega
    · rw [upd_ne _ _ e] at hb
      have := h.dom b c hb; omega
  · by_cases e : nx = b
    · subst e
      rw [upd_same] at h1; cases h1
      by_cases e' : nx = b'
      · exact e'
      · rw [upd_ne _ _ e'] at h2
        have := h.lt _ _ h2; omega
    · rw [upd_ne _ _ e] at h1 h3
      by_cases e' : nx = b'
      · subst e'
        rw [upd_same] at h2; cases h2
        have := h.lt _ _ h1; omega
      · rw [upd_ne _ _ e'] at h2 h4
        exact h.inj b b' c B1 B2 h1 h2 h3 h4 h5 h6
  · obtain ⟨h1, h2, h3⟩ := h.gho b B' hg
    have e : nx ≠ b := by omega
    exact ⟨by rw [upd_ne _ _ e]; exact h1, by rw [upd_ne _ _ e]; exact h2, by omega⟩
  · obtain ⟨h1, h2⟩ := h.pro c p hp
    refine ⟨heap_alloc_lt w o h1, fun b hb => ?_⟩
    by_cases e : nx = b
    · subst e
      rw [upd_same] at hb
      have := lt_of_heap h1
      injection hb with hb; omega
    · rw [upd_ne _ _ e] at hb
      exact h2 b hb
  · obtain ⟨cs, e, fz, h1, h2, h3⟩ := h.glob g l hg
    refine ⟨cs, e, fz, heap_alloc_lt w o h1, fun i v hv => ?_, fun b hb => ?_⟩
    · obtain ⟨x, hx, hr⟩ := h2 i v hv
      exact ⟨x, hx, hr.mono he⟩
    · by_cases e : nx = b
      · subst e
        rw [upd_same] at hb
        have := lt_of_heap h1
        injection hb with hb; omega
      · rw [upd_ne _ _ e] at hb
        exact h3 b hb
  · by_cases e : nx = b
    · subst e
      rw [upd_same] at hb
      injection hb with hb; omega
    · rw [upd_ne _ _ e] at hb
      have := h.lt b c hb; omega

/-- The heap with one block turned. -/
def World.setObj (w : World) (c : Nat) (o : Obj) : World := { w with heap := w.heap.setIfInBounds c o }
theorem setObj_same (w : World) {c : Nat} (o : Obj) (h : c < w.heap.size) : (World.setObj w c o).heap[c]? = some o := by
  simp [World.setObj, h]
theorem setObj_ne (w : World) {c d : Nat} (o : Obj) (h : c ≠ d) : (World.setObj w c o).heap[d]? = w.heap[d]? := by
  simp [World.setObj, h]
theorem setObj_size (w : World) (c : Nat) (o : Obj) : (World.setObj w c o).heap.size = w.heap.size := by simp [World.setObj]

/-- A block is written. -/
theorem MRel.write (h : MRel X Pr G φ κ m nx w) {b c : Nat} {B B' : Blk} {o : Obj} (hb : φ b = some c) (hm : m b = some B) (hd : B.isDead = false)
    (hB : BRel φ κ b B' o) : MRel X Pr G φ κ (upd m b (some B')) nx (World.setObj w c o) := by
  have hc := h.lt b c hb
  refine ⟨h.os, h.tape, h.output, fun b1 c1 B1 h1 h2 => ?_, h.dom, fun b1 b2 c1 B1 B2 h1 h2 h3 h4 h5 h6 => ?_, fun b1 B1 hg => ?_, fun c1 p hp => ?_, fun g l hg => ?_, fun b1 c1 h1 => ?_⟩
  · by_cases e : b = b1
    · subst e
      rw [upd_same] at h2; cases h2
      rw [hb] at h1; cases h1
      exact ⟨o, setObj_same w o hc, hB⟩
    · rw [upd_ne _ _ e] at h2
      by_cases e' : c = c1
      · subst e'
        cases hdd : B1.isDead
        · exact absurd (h.inj b b1 c B B1 hb h1 hm h2 hd hdd) e
        · cases B1 <;> simp [Blk.isDead] at hdd
          exact ⟨o, setObj_same w o hc, trivial⟩
      · obtain ⟨p, hp, hr⟩ := h.blk b1 c1 B1 h1 h2
        exact ⟨p, by rw [setObj_ne w o e']; exact hp, hr⟩
  · have key : ∀ b3 B3, upd m b (some B') b3 = some B3 → φ b3 = some c1 → B3.isDead = false → ∃ B4, m b3 = some B4 ∧ B4.isDead = false := fun b3 B3 q _ q' => by
      by_cases e : b = b3
      · subst e; exact ⟨B, hm, hd⟩
      · rw [upd_ne _ _ e] at q; exact ⟨B3, q, q'⟩
    obtain ⟨B4, q1, q2⟩ := key b1 B1 h3 h1 h5
    obtain ⟨B5, q3, q4⟩ := key b2 B2 h4 h2 h6
    exact h.inj b1 b2 c1 B4 B5 h1 h2 q1 q3 q2 q4
  · obtain ⟨g1, g2, g3⟩ := h.gho b1 B1 hg
    have e : b ≠ b1 := fun e => by subst e; rw [hb] at g2; cases g2
    exact ⟨by rw [upd_ne _ _ e]; exact g1, g2, g3⟩
  · obtain ⟨p1, p2⟩ := h.pro c1 p hp
    have e : c ≠ c1 := fun e => p2 b (by rw [hb, e])
    exact ⟨by rw [setObj_ne w o e]; exact p1, p2⟩
  · obtain ⟨cs, e, fz, h1, h2, h3⟩ := h.glob g l hg
    have e : c ≠ g := fun e => h3 b (by rw [hb, e])
    exact ⟨cs, _, fz, by rw [setObj_ne w o e]; exact h1, h2, h3⟩
  · rw [setObj_size]; exact h.lt b1 c1 h1

/-- A block is given up, and its memory is a new one's. -/
theorem MRel.rebirth (h : MRel X Pr G φ κ m nx w) {b c : Nat} {B B' : Blk} {o : Obj} (hb : φ b = some c) (hm : m b = some B) (hd : B.isDead = false)
    (hB : BRel (upd φ nx (some c)) (upd κ nx (κ b)) nx B' o) :
    MRel X Pr G (upd φ nx (some c)) (upd κ nx (κ b)) (upd (upd m b (some .dead)) nx (some B')) (nx + 1) (World.setObj w c o) := by
  have hc := h.lt b c hb
  have he := h.ext c (κ b)
  have hbn : b < nx := h.dom b c hb
  have hnb : nx ≠ b := by omega
  refine ⟨h.os, h.tape, h.output, fun b1 c1 B1 h1 h2 => ?_, fun b1 c1 h1 => ?_, fun b1 b2 c1 B1 B2 h1 h2 h3 h4 h5 h6 => ?_, fun b1 B1 hg => ?_, fun c1 p hp => ?_, fun g l hg => ?_, fun b1 c1 h1 => ?_⟩
  · by_cases e : nx = b1
    · subst e
      rw [upd_same] at h1 h2; cases h1; cases h2
      exact ⟨o, setObj_same w o hc, hB⟩
    · rw [upd_ne _ _ e] at h1 h2
      by_cases e1 : b = b1
      · subst e1
        rw [upd_same] at h2; cases h2
        rw [hb] at h1; cases h1
        exact ⟨o, setObj_same w o hc, trivial⟩
      · rw [upd_ne _ _ e1] at h2
        by_cases e' : c = c1
        · subst e'
          cases hdd : B1.isDead
          · exact absurd (h.inj b b1 c B B1 hb h1 hm h2 hd hdd) e1
          · cases B1 <;> simp [Blk.isDead] at hdd
            exact ⟨o, setObj_same w o hc, trivial⟩
        · obtain ⟨p, hp, hr⟩ := h.blk b1 c1 B1 h1 h2
          exact ⟨p, by rw [setObj_ne w o e']; exact hp, hr.mono he (upd_ne _ _ e)⟩
  · by_cases e : nx = b1
    · omega
    · rw [upd_ne _ _ e] at h1
      have := h.dom b1 c1 h1; omega
  · have key : ∀ b3 B3, upd (upd m b (some .dead)) nx (some B') b3 = some B3 → B3.isDead = false → upd φ nx (some c) b3 = some c1 →
        (b3 = nx ∧ c1 = c) ∨ (b3 ≠ nx ∧ b3 ≠ b ∧ m b3 = some B3 ∧ φ b3 = some c1) := fun b3 B3 q q' q'' => by
      by_cases e : nx = b3
      · subst e; rw [upd_same] at q''; injection q'' with q''; exact .inl ⟨rfl, q''.symm⟩
      · rw [upd_ne _ _ e] at q q''
        by_cases e1 : b = b3
        · subst e1; rw [upd_same] at q; cases q; cases q'
        · rw [upd_ne _ _ e1] at q; exact .inr ⟨fun e' => e e'.symm, fun e' => e1 e'.symm, q, q''⟩
    rcases key b1 B1 h3 h5 h1 with ⟨rfl, rfl⟩ | ⟨a1, a2, a3, a4⟩
    · rcases key b2 B2 h4 h6 h2 with ⟨rfl, _⟩ | ⟨d1, d2, d3, d4⟩
      · rfl
      · exact absurd (h.inj b2 b c1 B2 B d4 hb d3 hm h6 hd) d2
    · rcases key b2 B2 h4 h6 h2 with ⟨rfl, rfl⟩ | ⟨d1, d2, d3, d4⟩
      · exact absurd (h.inj b1 b c1 B1 B a4 hb a3 hm h5 hd) a2
      · exact h.inj b1 b2 c1 B1 B2 a4 d4 a3 d3 h5 h6
  · obtain ⟨g1, g2, g3⟩ := h.gho b1 B1 hg
    have e : b ≠ b1 := fun e => by subst e; rw [hb] at g2; cases g2
    have e2 : nx ≠ b1 := by omega
    exact ⟨by rw [upd_ne _ _ e2, upd_ne _ _ e]; exact g1, by rw [upd_ne _ _ e2]; exact g2, by omega⟩
  · obtain ⟨p1, p2⟩ := h.pro c1 p hp
    have e : c ≠ c1 := fun e => p2 b (by rw [hb, e])
    refine ⟨by rw [setObj_ne w o e]; exact p1, fun b1 h1 => ?_⟩
    by_cases e1 : nx = b1
    · subst e1; rw [upd_same] at h1; injection h1 with h1; exact e h1
    · rw [upd_ne _ _ e1] at h1; exact p2 b1 h1
  · obtain ⟨cs, e0, fz, h1, h2, h3⟩ := h.glob g l hg
    have e : c ≠ g := fun e => h3 b (by rw [hb, e])
    refine ⟨cs, e0, fz, by rw [setObj_ne w o e]; exact h1, fun i v hv => ?_, fun b1 h1 => ?_⟩
    · obtain ⟨x, hx, hr⟩ := h2 i v hv
      exact ⟨x, hx, hr.mono he⟩
    · by_cases e1 : nx = b1
      · subst e1; rw [upd_same] at h1; injection h1 with h1; exact e h1
      · rw [upd_ne _ _ e1] at h1; exact h3 b1 h1
  · rw [setObj_size]
    by_cases e1 : nx = b1
    · subst e1; rw [upd_same] at h1; injection h1 with h1; omega
    · rw [upd_ne _ _ e1] at h1; exact h.lt b1 c1 h1
end Go.Ev
