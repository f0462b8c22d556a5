/-
  A reckoner for the program's form over abstract values and memory, run by the kernel, and its proof: if it answers, the form's own run answers so, whatever the tape. Part EvAc. No condition.
-/
import Derived.Test.YtdfbcjoopkiaeaaGreatDoorEvAb
noncomputable section
namespace Go.Ev

variable {X : Fix} {Pr : Nat → Option Obj} {G : Nat → Option Blk} {φ : Nat → Option Nat} {κ : Nat → Nat} {m : Nat → Option Blk} {nx : Nat} {w : World} {E : Env}

/-! ## All orders of a drawn region lead to the same -/
section
variable {ops : List Oper} {N : Nat} {ms : List Nat} {eb : Nat} {T0 : Tr AV}

theorem Plan.mono : ∀ {L er : List St} {T : Tr AV} {M : Mem} {bs : List (Mem × Nat)} {T' : Tr AV} {M' : Mem}, Plan E X ops N ms eb T0 er L T M bs T' M' →
    M.next ≤ M'.next ∧ ∀ s ∈ L, M.next ≤ s.M.next ∧ s.M1.next ≤ M'.next
  | [], _, _, _, _, _, _, h => by
    obtain ⟨_, rfl, _⟩ := h
    exact ⟨Nat.le_refl _, by simp⟩
  | s :: L, er, T, M, bs, T', M', h => by
    obtain ⟨_, rfl, _, h1, h2⟩ := h
    obtain ⟨h3, h4⟩ := Plan.mono h2
    have h5 := h1.nx
    refine ⟨Nat.le_trans h5 h3, fun q hq => ?_⟩
    rcases List.mem_cons.1 hq with rfl | hq
    · exact ⟨Nat.le_refl _, h3⟩
    · exact ⟨Nat.le_trans h5 (h4 q hq).1, (h4 q hq).2⟩
/-- Two rows have two ids. -/
theorem Plan.rows : ∀ {L er : List St} {T : Tr AV} {M : Mem} {bs : List (Mem × Nat)} {T' : Tr AV} {M' : Mem}, Plan E X ops N ms eb T0 er L T M bs T' M' →
    ∀ s ∈ L, ∀ q ∈ L, s.kd = .a → q.kd = .a → s.M.next = q.M.next → s = q
  | [], _, _, _, _, _, _, h => by simp
  | p :: L, er, T, M, bs, T', M', h => by
    obtain ⟨_, rfl, _, h1, h2⟩ := h
    have h4 := (Plan.mono h2).2
    intro s hs q hq hsa hqa he
    rcases List.mem_cons.1 hs with hs' | hs'
    · subst hs'
      rcases List.mem_cons.1 hq with hq' | hq'
      · exact hq'.symm
      · have := (h1.ha hsa).1
        have := (h4 q hq').1
        omega
    · rcases List.mem_cons.1 hq with hq' | hq'
      · subst hq'
        have := (h1.ha hqa).1
        have := (h4 s hs').1
        omega
      · exact Plan.rows h2 s hs' q hq' hsa hqa he
theorem Plan.at : ∀ {A er : List St} {s : St} {R : List St} {T : Tr AV} {M : Mem} {bs : List (Mem × Nat)} {T' : Tr AV} {M' : Mem}, Plan E X ops N ms eb T0 er (A ++ s :: R) T M bs T' M' →
    ∃ bs', Plan E X ops N ms eb T0 (A.reverse ++ er) (s :: R) s.T s.M bs' T' M' ∧ ∀ p ∈ bs, p ∈ bs'
  | [], er, s, R, T, M, bs, T', M', h => by
    have h' : Plan E X ops N ms eb T0 er (s :: R) T M bs T' M' := h
    have h0 := h'
    obtain ⟨rfl, rfl, _⟩ := h0
    exact ⟨bs, h', fun p hp => hp⟩
  | q :: A, er, s, R, T, M, bs, T', M', h => by
    have h' : Plan E X ops N ms eb T0 er (q :: (A ++ s :: R)) T M bs T' M' := h
    obtain ⟨_, _, _, _, h2⟩ := h'
    obtain ⟨bs', h3, h4⟩ := Plan.at h2
    refine ⟨bs', by simpa using h3, fun p hp => h4 p ?_⟩
    unfold nextBs
    split
    · simp [hp]
    · exact hp
theorem Plan.all : ∀ {L er : List St} {T : Tr AV} {M : Mem} {bs : List (Mem × Nat)} {T' : Tr AV} {M' : Mem}, Plan E X ops N ms eb T0 er L T M bs T' M' →
    ∀ s ∈ L, ∃ er' bs', SOK E X ops N ms eb er' bs' s ∧ ∀ q ∈ er', q ∈ er ∨ q ∈ L
  | [], _, _, _, _, _, _, h => by simp
  | p :: L, er, T, M, bs, T', M', h => by
    obtain ⟨_, rfl, _, h1, h2⟩ := h
    intro s hs
    rcases List.mem_cons.1 hs with rfl | hs
    · exact ⟨er, bs, h1, fun q hq => .inl hq⟩
    · obtain ⟨er', bs', h3, h4⟩ := Plan.all h2 s hs
      refine ⟨er', bs', h3, fun q hq => ?_⟩
      rcases h4 q hq with h5 | h5
      · rcases List.mem_cons.1 h5 with rfl | h5
        · exact .inr (by simp)
        · exact .inl h5
      · exact .inr (by simp [h5])
theorem Plan.uniq : ∀ {L er : List St} {T : Tr AV} {M : Mem} {bs : List (Mem × Nat)} {T' : Tr AV} {M' : Mem}, Plan E X ops N ms eb T0 er L T M bs T' M' →
    (∀ s ∈ L, ∀ q ∈ er, q.i ≠ s.i) ∧ ∀ s ∈ L, ∀ q ∈ L, s.i = q.i → s = q
  | [], _, _, _, _, _, _, h => by simp
  | p :: L, er, T, M, bs, T', M', h => by
    obtain ⟨_, rfl, _, h1, h2⟩ := h
    obtain ⟨h3, h4⟩ := Plan.uniq h2
    refine ⟨fun s hs q hq => ?_, fun s hs q hq he => ?_⟩
    · rcases List.mem_cons.1 hs with rfl | hs
      · exact h1.new q hq
      · exact h3 s hs q (by simp [hq])
    · rcases List.mem_cons.1 hs with hs' | hs'
      · subst hs'
        rcases List.mem_cons.1 hq with hq' | hq'
        · exact hq'.symm
        · exact absurd he (h3 q hq' s (by simp))
      · rcases List.mem_cons.1 hq with hq' | hq'
        · subst hq'
          exact absurd he.symm (h3 s hs' q (by simp))
        · exact h4 s hs' q hq' he
/-- If what waits for nothing that is undone is done, all is done. -/
theorem Plan.done : ∀ {L er : List St} {T : Tr AV} {M : Mem} {bs : List (Mem × Nat)} {T' : Tr AV} {M' : Mem} {D : Nat → Prop}, Plan E X ops N ms eb T0 er L T M bs T' M' →
    (∀ q ∈ er, D q.i) → (∀ s ∈ L, (∀ j, (nthD ms s.i).testBit j = true → D j) → D s.i) → ∀ s ∈ L, D s.i
  | [], _, _, _, _, _, _, _, h, _, _ => by simp
  | p :: L, er, T, M, bs, T', M', D, h, he, hd => by
    obtain ⟨_, rfl, _, h1, h2⟩ := h
    have hp : D p.i := hd p (by simp) fun j hj => by
      obtain ⟨q, hq, rfl⟩ := h1.bef j hj
      exact he q hq
    have h3 := Plan.done (D := D) h2 (fun q hq => by
      rcases List.mem_cons.1 hq with rfl | hq
      · exact hp
      · exact he q hq) fun s hs => hd s (by simp [hs])
    intro s hs
    rcases List.mem_cons.1 hs with rfl | hs
    · exact hp
    · exact h3 s hs

theorem ltL_get {n : Nat} : ∀ {l : List AV} {i : Nat} {v : AV}, ltL n l = true → l[i]? = some v → ltV n v = true
  | [], i, v, _, h => by simp at h
  | u :: l, 0, v, hl, h => by
    simp only [ltL, Bool.and_eq_true] at hl
    simp at h
    subst h
    exact hl.1
  | u :: l, i + 1, v, hl, h => by
    simp only [ltL, Bool.and_eq_true] at hl
    exact ltL_get hl.2 (by simpa using h)
theorem CRel.agree {φ' : Nat → Option Nat} {κ' : Nat → Nat} {q n : Nat} {l : List AV} {ys : Array Value} (h : ∀ b, b < q → φ' b = φ b ∧ κ' b = κ b) (hl : ltL q l = true) (r : CRel φ κ n l .nil ys) : CRel φ' κ' n l .nil ys := by
  intro i v hi hv
  obtain ⟨x, h1, h2⟩ := r i v hi hv
  unfold arrAt at hv
  rw [Tr.get_nil] at hv
  exact ⟨x, h1, VRel.agree h v (ltL_get hl hv) h2⟩

structure InvC (X : Fix) (Pr : Nat → Option Obj) (G : Nat → Option Blk) (φ : Nat → Option Nat) (κ : Nat → Nat) (f : Nat → Option Nat) (k : Nat → Nat) (D : Nat → Prop) (rest : List St) (Mb : Mem) (w : World) : Prop where
  mr : MRel X Pr G φ κ Mb.get Mb.next w
  ag : ∀ b, b < Mb.next → f b = φ b ∧ k b = κ b
  dom : ∀ b c, f b = some c → c < w.heap.size ∧ (b < Mb.next ∨ ∃ s ∈ rest, s.kd = .a ∧ D s.i ∧ s.M.next = b)
  row : ∀ s ∈ rest, s.kd = .a → D s.i → ∃ c ys, f s.M.next = some c ∧ w.heap[c]? = some (.cells ys s.e (0, 0)) ∧ ys.size = s.n ∧ CRel f k s.n s.l .nil ys ∧ Pr c = none ∧ X.gl c = none
  inj : ∀ b b' c, Mb.next ≤ b → f b = some c → f b' = some c → b = b'
theorem InvC.sub {f : Nat → Option Nat} {k : Nat → Nat} {D : Nat → Prop} {rest : List St} {Mb : Mem} (h : InvC X Pr G φ κ f k D rest Mb w) : Ext φ κ f k := fun b c hb => by
  obtain ⟨h1, h2⟩ := h.ag b (h.mr.dom b c hb)
  exact ⟨by rw [h1]; exact hb, h2⟩
theorem InvC.congr {f : Nat → Option Nat} {k : Nat → Nat} {D D' : Nat → Prop} {rest : List St} {Mb : Mem} (h : InvC X Pr G φ κ f k D rest Mb w) (hD : ∀ s ∈ rest, s.kd = .a → (D' s.i ↔ D s.i)) : InvC X Pr G φ κ f k D' rest Mb w :=
  ⟨h.mr, h.ag, fun b c hb => ⟨(h.dom b c hb).1, (h.dom b c hb).2.imp id fun ⟨s, h1, h2, h3, h4⟩ => ⟨s, h1, h2, (hD s h1 h2).2 h3, h4⟩⟩, fun s h1 h2 h3 => h.row s h1 h2 ((hD s h1 h2).1 h3), h.inj⟩
/-- What is no row is behind us. -/
theorem InvC.pass {f : Nat → Option Nat} {k : Nat → Nat} {D : Nat → Prop} {s : St} {rest : List St} {Mb : Mem} (h : InvC X Pr G φ κ f k D (s :: rest) Mb w) (hs : s.kd ≠ .a) : InvC X Pr G φ κ f k D rest Mb w :=
  ⟨h.mr, h.ag, fun b c hb => ⟨(h.dom b c hb).1, (h.dom b c hb).2.imp id fun ⟨q, h1, h2, h3, h4⟩ => by
    rcases List.mem_cons.1 h1 with rfl | h1
    · exact absurd h2 hs
    · exact ⟨q, h1, h2, h3, h4⟩⟩, fun q h1 h2 h3 => h.row q (by simp [h1]) h2 h3, h.inj⟩
/-- A row is taken into the memory. -/
theorem InvC.take {f : Nat → Option Nat} {k : Nat → Nat} {D : Nat → Prop} {s : St} {rest : List St} (h : InvC X Pr G φ κ f k D (s :: rest) s.M w) (hs : s.kd = .a) (hd : D s.i)
    (hn : s.M1.next = s.M.next + 1) (hg : s.M1.get = upd s.M.get s.M.next (some (.cells s.e s.n s.l .nil))) (hl : ltL (s.M.next + 1) s.l = true) :
    ∃ φ' κ', InvC X Pr G φ' κ' f k D rest s.M1 w := by
  obtain ⟨c, ys, h1, h2, h30, h3, h4, h5⟩ := h.row s (by simp) hs hd
  have hag : ∀ b, b < s.M.next + 1 → upd φ s.M.next (some c) b = f b ∧ upd κ s.M.next (k s.M.next) b = k b := fun b hb => by
    by_cases e : s.M.next = b
    · subst e
      rw [upd_same, upd_same, h1]
      exact ⟨rfl, rfl⟩
    · rw [upd_ne _ _ e, upd_ne _ _ e]
      obtain ⟨h6, h7⟩ := h.ag b (by omega)
      exact ⟨h6.symm, h7.symm⟩
  have hcr : BRel (upd φ s.M.next (some c)) (upd κ s.M.next (k s.M.next)) s.M.next (.cells s.e s.n s.l .nil) (.cells ys s.e (0, 0)) := ⟨ys, rfl, h30, CRel.agree hag hl h3⟩
  have hm := h.mr.adopt (q := k s.M.next) h2 (fun b hb => by
    have h6 := h.mr.dom b c hb
    have h7 : f b = some c := by rw [(h.ag b h6).1]; exact hb
    have := h.inj s.M.next b c (Nat.le_refl _) h1 h7
    omega) h4 h5 hcr
  refine ⟨_, _, by rw [hg, hn]; exact hm, fun b hb => ?_, fun b c' hb => ⟨(h.dom b c' hb).1, ?_⟩, fun q h6 h7 h8 => h.row q (by simp [h6]) h7 h8, fun b b' c' hb => h.inj b b' c' (by omega)⟩
  · obtain ⟨h6, h7⟩ := hag b (by omega)
    exact ⟨h6.symm, h7.symm⟩
  · rcases (h.dom b c' hb).2 with h6 | ⟨q, h6, h7, h8, h9⟩
    · exact .inl (by omega)
    · rcases List.mem_cons.1 h6 with rfl | h6
      · exact .inl (by omega)
      · exact .inr ⟨q, h6, h7, h8, h9⟩
/-- All that is done up to a place is taken into the memory. -/
theorem InvC.go {f : Nat → Option Nat} {k : Nat → Nat} {D : Nat → Prop} : ∀ {A er R : List St} {T : Tr AV} {M : Mem} {bs : List (Mem × Nat)} {T' : Tr AV} {M' : Mem} {φ : Nat → Option Nat} {κ : Nat → Nat}, Plan E X ops N ms eb T0 er (A ++ R) T M bs T' M' →
    (∀ s ∈ A, s.kd ≠ .e ∧ D s.i) → InvC X Pr G φ κ f k D (A ++ R) M w →
    ∃ T2 M2 bs2 φ2 κ2, Plan E X ops N ms eb T0 (A.reverse ++ er) R T2 M2 bs2 T' M' ∧ InvC X Pr G φ2 κ2 f k D R M2 w
  | [], er, R, T, M, bs, T', M', φ, κ, h, _, hi => ⟨T, M, bs, φ, κ, h, hi⟩
  | s :: A, er, R, T, M, bs, T', M', φ, κ, h, ha, hi => by
    have h' : Plan E X ops N ms eb T0 er (s :: (A ++ R)) T M bs T' M' := h
    obtain ⟨_, rfl, _, h1, h2⟩ := h'
    obtain ⟨hk, hd⟩ := ha s (by simp)
    have key : ∃ φ' κ', InvC X Pr G φ' κ' f k D (A ++ R) s.M1 w := by
      cases hkd : s.kd with
      | e => exact absurd hkd hk
      | a =>
        obtain ⟨h3, h4, h5, _⟩ := h1.ha hkd
        exact InvC.take hi hkd hd h3 h4 h5
      | r => exact ⟨φ, κ, by rw [(h1.hr hkd).1]; exact InvC.pass hi (by rw [hkd]; exact fun e => by cases e)⟩
      | p => exact ⟨φ, κ, by rw [(h1.hp hkd).1]; exact InvC.pass hi (by rw [hkd]; exact fun e => by cases e)⟩
    obtain ⟨φ', κ', hi'⟩ := key
    obtain ⟨T2, M2, bs2, φ2, κ2, h3, h4⟩ := InvC.go h2 (fun q hq => ha q (by simp [hq])) hi'
    exact ⟨T2, M2, bs2, φ2, κ2, by simpa using h3, h4⟩

structure TInv (T0 : Tr AV) (N : Nat) (f : Nat → Option Nat) (k : Nat → Nat) (D : Nat → Prop) (L : List St) (a : Act) : Prop where
  size : a.tmps.size = N
  defers : a.defers = []
  don : ∀ s ∈ L, D s.i → ∀ t, s.o.dst = some t → t < N ∧ VRel f k s.v (a.tmps.getD t undef)
  old : ∀ t, (∀ s ∈ L, D s.i → s.o.dst ≠ some t) → (∀ u, T0.get t = some u → t < N ∧ VRel f k u (a.tmps.getD t undef)) ∧ (T0.get t = none → a.tmps.getD t undef = undef)
theorem TInv.mono {f f' : Nat → Option Nat} {k k' : Nat → Nat} {D : Nat → Prop} {L : List St} {a : Act} (h : TInv T0 N f k D L a) (he : Ext f k f' k') : TInv T0 N f' k' D L a :=
  ⟨h.size, h.defers, fun s hs hd t ht => ⟨(h.don s hs hd t ht).1, (h.don s hs hd t ht).2.mono he⟩, fun t ht => ⟨fun u hu => ⟨((h.old t ht).1 u hu).1, ((h.old t ht).1 u hu).2.mono he⟩, (h.old t ht).2⟩⟩
theorem getD_put (a : Act) (d t : Nat) (x : Value) (h : d < a.tmps.size) : (a.put (some d) x).tmps.getD t undef = if d = t then x else a.tmps.getD t undef := by
  simp only [Act.put, Array.getD_eq_getD_getElem?, Array.getElem?_setIfInBounds]
  by_cases e : d = t
  · subst e
    rw [if_pos rfl, if_pos rfl, if_pos h]; rfl
  · rw [if_neg e, if_neg e]
theorem TInv.put {f : Nat → Option Nat} {k : Nat → Nat} {D D' : Nat → Prop} {L : List St} {a : Act} {s : St} {x : Value} (h : TInv T0 N f k D L a) (hs : s ∈ L) (hD : ∀ j, D' j ↔ D j ∨ j = s.i) (hx : VRel f k s.v x)
    (dN : ∀ t, s.o.dst = some t → t < N) (hu : ∀ q ∈ L, ∀ t, s.o.dst = some t → q.o.dst = some t → q = s) (hi : ∀ q ∈ L, q.i = s.i → q = s) : TInv T0 N f k D' L (a.put s.o.dst x) := by
  cases hd : s.o.dst with
  | none =>
    refine ⟨h.size, h.defers, fun q hq hqd t ht => ?_, fun t ht => h.old t fun q hq hqd => ht q hq ((hD q.i).2 (.inl hqd))⟩
    rcases (hD q.i).1 hqd with h1 | h1
    · exact h.don q hq h1 t ht
    · rw [hi q hq h1, hd] at ht; cases ht
  | some d =>
    have hdN := dN d hd
    have hg := fun t => getD_put a d t x (by rw [h.size]; exact hdN)
    refine ⟨by simp only [Act.put, Array.size_setIfInBounds]; exact h.size, h.defers, fun q hq hqd t ht => ?_, fun t ht => ?_⟩
    · rw [hg]
      by_cases e : d = t
      · subst e
        rw [if_pos rfl, hu q hq d hd ht]
        exact ⟨hdN, hx⟩
      · rw [if_neg e]
        rcases (hD q.i).1 hqd with h1 | h1
        · exact h.don q hq h1 t ht
        · rw [hi q hq h1, hd] at ht
          cases ht; exact absurd rfl e
    · have e : d ≠ t := fun e => ht s hs ((hD s.i).2 (.inr rfl)) (by rw [hd, e])
      rw [hg, if_neg e]
      exact h.old t fun q hq hqd => ht q hq ((hD q.i).2 (.inl hqd))
theorem ops_of {f : Nat → Option Nat} {k : Nat → Nat} {T : Tr AV} {a : Act} {l : List Operand} (h : ∀ t, .tmp t ∈ l → ∀ u, T.get t = some u → VRel f k u (a.tmps.getD t undef)) : Ops f k T a.eval l := by
  intro x hx u hu
  cases x with
  | tmp t => exact h t hx u hu
  | const v => exact hu f k
  | global g =>
    rw [show u = .gptr g 0 from hu]
    simp only [VRel, Act.eval]
  | func g =>
    rw [show u = .func (.func g) [] [] from hu]
    simp only [VRel, Act.eval]
    exact ⟨#[], #[], rfl, LRel.nil, LRel.nil⟩
theorem ops_agree {f φ : Nat → Option Nat} {k κ : Nat → Nat} {T : Tr AV} {a : Act} {l : List Operand} {n : Nat} (h : Ops f k T a.eval l) (hl : LtOps T n l) (hag : ∀ b, b < n → φ b = f b ∧ κ b = k b) : Ops φ κ T a.eval l :=
  ops_of fun t ht u hu => VRel.agree hag u (hl t ht u hu) (h (.tmp t) ht u hu)
end
end Go.Ev
