/-
  A reckoner for the program's form over abstract values and memory, run by the kernel, and its proof: if it answers, the form's own run answers so, whatever the tape. Part EvAb. No condition.
-/
import Derived.Test.YtdfbcjoopkiaeaaGreatDoorEvAa
noncomputable section
namespace Go.Ev

variable {X : Fix} {Pr : Nat → Option Obj} {G : Nat → Option Blk} {φ : Nat → Option Nat} {κ : Nat → Nat} {m : Nat → Option Blk} {nx : Nat} {w : World} {E : Env}

/-! ## What the plan of a drawn region says -/
inductive Kd where | e | a | r | p
structure St where
  i : Nat
  o : Oper
  kd : Kd
  T : Tr AV
  M : Mem
  v : AV
  e : Nat
  n : Nat
  l : List AV
  em : Nat
  T1 : Tr AV
  M1 : Mem
abbrev St.ins (s : St) : List Operand := s.o.op.operands.toList
def LtOps (T : Tr AV) (n : Nat) (l : List Operand) : Prop := ∀ t, .tmp t ∈ l → ∀ u, T.get t = some u → ltV n u = true
/-- A temporary is as one of these left it, or as it was, and none of these has written it. -/
def Hist (T0 : Tr AV) (er : List St) (T : Tr AV) : Prop := ∀ t, (∃ q ∈ er, q.o.dst = some t ∧ T.get t = some q.v) ∨ ((∀ q ∈ er, q.o.dst ≠ some t) ∧ T.get t = T0.get t)
structure SOK (E : Env) (X : Fix) (ops : List Oper) (N : Nat) (ms : List Nat) (eb : Nat) (er : List St) (bs : List (Mem × Nat)) (s : St) : Prop where
  op : ops[s.i]? = some s.o
  new : ∀ q ∈ er, q.i ≠ s.i
  msk : nthD ms s.i = maskE ms s.o.after.toList
  bef : ∀ j, (nthD ms s.i).testBit j = true → ∃ q ∈ er, q.i = j
  gd : s.o.guard = none
  inn : ∀ t, .tmp t ∈ s.ins → ∀ q ∈ er, ops[q.i]? = some q.o → q.o.dst = some t → (nthD ms s.i).testBit q.i = true
  aft : ∀ t, .tmp t ∈ s.ins → ∀ (j : Nat) o, ops[j]? = some o → o.dst = some t → (nthD ms s.i).testBit j = true ∨ (nthD ms j).testBit s.i = true
  uni : ∀ t, s.o.dst = some t → ∀ (j : Nat) o, ops[j]? = some o → o.dst = some t → j = s.i
  dN : ∀ t, s.o.dst = some t → t < N
  hT : ∀ j, s.T1.get j = if s.o.dst = some j then some s.v else s.T.get j
  bit : eb.testBit s.i = true ↔ s.kd = .e
  nx : s.M.next ≤ s.M1.next
  he : s.kd = .e → (∀ q ∈ er, (nthD ms s.i).testBit q.i = true) ∧ (∀ q ∈ s :: er, q.kd = .e → s.em.testBit q.i = true) ∧ LtOps s.T s.M.next s.ins ∧
    ∀ Pr G φ κ ρ w, MRel X Pr G φ κ s.M.get s.M.next w → Ops φ κ s.T ρ s.ins → Does E.P ((execOp ρ s.o).run E.P w) (After X Pr G φ κ s.M1 s.v)
  ha : s.kd = .a → s.M1.next = s.M.next + 1 ∧ s.M1.get = upd s.M.get s.M.next (some (.cells s.e s.n s.l .nil)) ∧ ltL (s.M.next + 1) s.l = true ∧
    ∀ φ κ ρ w, Ops φ κ s.T ρ s.ins → ∃ x ys, (execOp ρ s.o).run E.P w = .ok (.value x) (w.alloc (.cells ys s.e)) ∧ ys.size = s.n ∧ CRel φ κ s.n s.l .nil ys ∧ ∀ φ' κ', φ' s.M.next = some w.heap.size → VRel φ' κ' s.v x
  hr : s.kd = .r → s.M1 = s.M ∧ ∀ Mb em, (Mb, em) ∈ bs → (∀ j, (nthD ms s.i).testBit j = true → eb.testBit j = true → em.testBit j = true) → LtOps s.T Mb.next s.ins ∧
    ∀ Pr G φ κ ρ w, MRel X Pr G φ κ Mb.get Mb.next w → Ops φ κ s.T ρ s.ins → ∃ x, (execOp ρ s.o).run E.P w = .ok (.value x) w ∧ VRel φ κ s.v x
  hp : s.kd = .p → s.M1 = s.M ∧ LtOps s.T s.M.next s.ins ∧ ∀ Pr G φ κ ρ w, MRel X Pr G φ κ (fun _ => none) s.M.next w → Ops φ κ s.T ρ s.ins → ∃ x, (execOp ρ s.o).run E.P w = .ok (.value x) w ∧ VRel φ κ s.v x
def nextBs (s : St) (bs : List (Mem × Nat)) : List (Mem × Nat) := match s.kd with | .e => (s.M1, s.em) :: bs | _ => bs
def Plan (E : Env) (X : Fix) (ops : List Oper) (N : Nat) (ms : List Nat) (eb : Nat) (T0 : Tr AV) : List St → List St → Tr AV → Mem → List (Mem × Nat) → Tr AV → Mem → Prop
  | er, [], T, M, _, T', M' => T = T' ∧ M = M' ∧ Hist T0 er T
  | er, s :: L, T, M, bs, T', M' => s.T = T ∧ s.M = M ∧ Hist T0 er T ∧ SOK E X ops N ms eb er bs s ∧ Plan E X ops N ms eb T0 (s :: er) L s.T1 s.M1 (nextBs s bs) T' M'

theorem Hist.next {T0 T T1 : Tr AV} {er : List St} {s : St} (h : Hist T0 er T) (hT : ∀ j, T1.get j = if s.o.dst = some j then some s.v else T.get j) : Hist T0 (s :: er) T1 := by
  intro t
  by_cases hd : s.o.dst = some t
  · exact .inl ⟨s, by simp, hd, by rw [hT, if_pos hd]⟩
  · rcases h t with ⟨q, h1, h2, h3⟩ | ⟨h1, h2⟩
    · exact .inl ⟨q, by simp [h1], h2, by rw [hT, if_neg hd]; exact h3⟩
    · refine .inr ⟨fun q hq => ?_, by rw [hT, if_neg hd]; exact h2⟩
      rcases List.mem_cons.1 hq with rfl | hq
      · exact hd
      · exact h1 q hq
theorem opsIn_spec {ops : List Oper} {ms : List Nat} {dn i : Nat} : ∀ {l : List Operand}, opsIn ops ms dn i l = true → ∀ t, .tmp t ∈ l → ∀ (j : Nat) o, ops[j]? = some o → o.dst = some t →
    (dn.testBit j = true → (nthD ms i).testBit j = true) ∧ ((nthD ms i).testBit j = true ∨ (nthD ms j).testBit i = true)
  | [], _, t, ht, _, _, _, _ => by simp at ht
  | x :: l, h, t, ht, j, o, hj, hd => by
    cases x with
    | tmp u =>
      simp only [opsIn, Bool.and_eq_true] at h
      rcases List.mem_cons.1 ht with he | ht
      · cases he
        have h1 := wrL_bit (i := 0) hj hd
        have h2 := laterB_spec h.1.2 hj hd
        rw [Nat.zero_add] at h1 h2
        exact ⟨fun hn => subB_spec h.1.1 j (by rw [Nat.testBit_and, h1, hn]; rfl), h2⟩
      · exact opsIn_spec h.2 t ht j o hj hd
    | const v =>
      simp only [opsIn] at h
      rcases List.mem_cons.1 ht with he | ht
      · cases he
      · exact opsIn_spec h t ht j o hj hd
    | global v =>
      simp only [opsIn] at h
      rcases List.mem_cons.1 ht with he | ht
      · cases he
      · exact opsIn_spec h t ht j o hj hd
    | func v =>
      simp only [opsIn] at h
      rcases List.mem_cons.1 ht with he | ht
      · cases he
      · exact opsIn_spec h t ht j o hj hd
theorem ltOpsB_spec {T : Tr AV} {n : Nat} : ∀ {l : List Operand}, ltOpsB T n l = true → LtOps T n l
  | [], _, t, ht, _, _ => by simp at ht
  | x :: l, h, t, ht, u, hu => by
    cases x with
    | tmp t' =>
      simp only [ltOpsB, Bool.and_eq_true] at h
      rcases List.mem_cons.1 ht with he | ht
      · cases he
        have h1 := h.1
        rw [hu] at h1
        exact h1
      · exact ltOpsB_spec h.2 t ht u hu
    | const v =>
      simp only [ltOpsB] at h
      rcases List.mem_cons.1 ht with he | ht
      · cases he
      · exact ltOpsB_spec h t ht u hu
    | global v =>
      simp only [ltOpsB] at h
      rcases List.mem_cons.1 ht with he | ht
      · cases he
      · exact ltOpsB_spec h t ht u hu
    | func v =>
      simp only [ltOpsB] at h
      rcases List.mem_cons.1 ht with he | ht
      · cases he
      · exact ltOpsB_spec h t ht u hu
theorem dstIn_spec {ops : List Oper} {i : Nat} {d : Option Nat} (h : dstIn ops i d = true) : ∀ t, d = some t → ∀ (j : Nat) o, ops[j]? = some o → o.dst = some t → j = i := by
  intro t ht j o hj hd
  subst ht
  have h := Nat.eq_of_beq_eq_true h
  have := wrL_bit (i := 0) hj hd
  rw [Nat.zero_add, h] at this
  exact (bit_two this).symm
theorem sameAll_spec (hE : EnvOK E X) {T : Tr AV} {o : Oper} {need : Nat} {v : AV} : ∀ {bs : List (Mem × Nat)}, sameAll E T o need v bs = true → ∀ b ∈ bs, (∀ j, need.testBit j = true → b.2.testBit j = true) →
    LtOps T b.1.next o.op.operands.toList ∧ ∀ Pr G φ κ ρ w, MRel X Pr G φ κ b.1.get b.1.next w → Ops φ κ T ρ o.op.operands.toList → ∃ x, (execOp ρ o).run E.P w = .ok (.value x) w ∧ VRel φ κ v x
  | [], _, b, hb, _ => by simp at hb
  | b' :: bs, h, b, hb, hn => by
    simp only [sameAll, Bool.and_eq_true] at h
    rcases List.mem_cons.1 hb with rfl | hb
    · have hs : subB need b.2 = true := by
        unfold subB
        have : need ||| b.2 = b.2 := by
          apply Nat.eq_of_testBit_eq
          intro j
          rw [Nat.testBit_or]
          cases hj : need.testBit j
          · simp
          · simp [hn j hj]
        rw [this]; simp
      have h1 := h.1
      rw [hs] at h1
      simp only [cond_true, Bool.and_eq_true] at h1
      obtain ⟨u, h2, h3⟩ := readK_sound hE h1.2
      rw [sameV_eq _ _ h2] at h3
      exact ⟨ltOpsB_spec h1.1, h3⟩
    · exact sameAll_spec hE h.2 b hb hn
theorem readAll_spec (hE : EnvOK E X) {T : Tr AV} {o : Oper} {need : Nat} {bs : List (Mem × Nat)} {k : K1} (h : readAll E T o need bs k = true) : ∃ v, k v = true ∧ ∀ b ∈ bs, (∀ j, need.testBit j = true → b.2.testBit j = true) →
    LtOps T b.1.next o.op.operands.toList ∧ ∀ Pr G φ κ ρ w, MRel X Pr G φ κ b.1.get b.1.next w → Ops φ κ T ρ o.op.operands.toList → ∃ x, (execOp ρ o).run E.P w = .ok (.value x) w ∧ VRel φ κ v x := by
  unfold readAll at h
  split at h
  · cases h
  · rename_i b bs
    obtain ⟨h1, h2⟩ := guardB_true h
    obtain ⟨v, h3, h4⟩ := readK_sound hE h2
    obtain ⟨h5, h6⟩ := guardB_true h3
    refine ⟨v, h6, fun b' hb hn => ?_⟩
    rcases List.mem_cons.1 hb with rfl | hb
    · exact ⟨ltOpsB_spec h1, h4⟩
    · exact sameAll_spec hE h5 b' hb hn

theorem stepK_sound (hE : EnvOK E X) {call : CallK} (hc : CallOK E X call) {ops : List Oper} {N : Nat} {ms : List Nat} {eb i dn em : Nat} {bs : List (Mem × Nat)} {T : Tr AV} {M : Mem} {next : NextK} {er : List St}
    (h : stepK E call ops N ms eb i dn em bs T M next = true) (hdn : ∀ j, dn.testBit j = true ↔ ∃ q ∈ er, q.i = j) (hem : ∀ q ∈ er, q.kd = .e → em.testBit q.i = true) :
    ∃ s em', s.T = T ∧ s.M = M ∧ SOK E X ops N ms eb er bs s ∧ next (dn ||| 2 ^ s.i) em' (nextBs s bs) s.T1 s.M1 = true ∧ (∀ q ∈ s :: er, q.kd = .e → em'.testBit q.i = true) := by
  unfold stepK at h
  obtain ⟨o, ho, h⟩ := nthK_sound h
  obtain ⟨hst, h⟩ := guardB_true h
  rw [forceN_eq] at h
  simp only [statB, Bool.and_eq_true] at hst
  obtain ⟨s1, s2, s3, s4, s5, s6⟩ := hst
  have s1 := Nat.eq_of_beq_eq_true s1
  have s2 := noBit_spec s2
  have hgd : o.guard = none := by
    unfold noGuard at s4
    split at s4
    · assumption
    · cases s4
  have hnew : ∀ q ∈ er, q.i ≠ i := fun q hq e => by
    have := (hdn i).2 ⟨q, hq, e⟩
    rw [s2] at this; cases this
  have hinn : ∀ t, .tmp t ∈ o.op.operands.toList → ∀ q ∈ er, ops[q.i]? = some q.o → q.o.dst = some t → (nthD ms i).testBit q.i = true := fun t ht q hq h1 h2 =>
    (opsIn_spec s5 t ht q.i q.o h1 h2).1 ((hdn q.i).2 ⟨q, hq, rfl⟩)
  have haft : ∀ t, .tmp t ∈ o.op.operands.toList → ∀ (j : Nat) o', ops[j]? = some o' → o'.dst = some t → (nthD ms i).testBit j = true ∨ (nthD ms j).testBit i = true := fun t ht j o' h1 h2 =>
    (opsIn_spec s5 t ht j o' h1 h2).2
  have hbef : ∀ j, (nthD ms i).testBit j = true → ∃ q ∈ er, q.i = j := fun j hj => (hdn j).1 (subB_spec s3 j hj)
  cases hb : isE o
  · rw [hb] at h
    simp only [cond_false] at h
    obtain ⟨h1, h⟩ := guardB_true h
    have h1 := noBit_spec h1
    cases hb2 : isA o
    · rw [hb2] at h
      simp only [cond_false] at h
      cases hb3 : isR o
      · -- pure
        rw [hb3] at h
        simp only [cond_false] at h
        obtain ⟨h0, h⟩ := guardB_true h
        obtain ⟨v, h2, h3⟩ := readK_sound hE h
        obtain ⟨T1, h4, h5, h6⟩ := setDst_sound h2
        refine ⟨⟨i, o, .p, T, M, v, 0, 0, [], 0, T1, M⟩, em, rfl, rfl, ⟨ho, hnew, s1, hbef, hgd, hinn, haft, dstIn_spec s6, h5, h6, ?_, Nat.le_refl _, fun e => (by cases e), fun e => (by cases e), fun e => (by cases e), fun _ => ⟨rfl, ltOpsB_spec h0, h3⟩⟩, h4, fun q hq hk => ?_⟩
        · simp only [h1]
          exact ⟨fun e => (by cases e), fun e => (by cases e)⟩
        · rcases List.mem_cons.1 hq with rfl | hq
          · cases hk
          · exact hem q hq hk
      · rw [hb3] at h
        simp only [cond_true] at h
        obtain ⟨v, h2, h3⟩ := readAll_spec hE h
        obtain ⟨T1, h4, h5, h6⟩ := setDst_sound h2
        refine ⟨⟨i, o, .r, T, M, v, 0, 0, [], 0, T1, M⟩, em, rfl, rfl, ⟨ho, hnew, s1, hbef, hgd, hinn, haft, dstIn_spec s6, h5, h6, ?_, Nat.le_refl _, fun e => (by cases e), fun e => (by cases e), fun _ => ⟨rfl, ?_⟩, fun e => (by cases e)⟩, h4, fun q hq hk => ?_⟩
        · simp only [h1]
          exact ⟨fun e => (by cases e), fun e => (by cases e)⟩
        · intro Mb emb hbm hbits
          refine h3 (Mb, emb) hbm fun j hj => ?_
          rw [Nat.testBit_and, Bool.and_eq_true] at hj
          exact hbits j hj.1 hj.2
        · rcases List.mem_cons.1 hq with rfl | hq
          · cases hk
          · exact hem q hq hk
    · rw [hb2] at h
      simp only [cond_true] at h
      obtain ⟨v, e, n, l, h2, h3⟩ := allocK_sound hE h
      obtain ⟨h4, h2⟩ := guardB_true h2
      obtain ⟨M1, h5, h6, h7⟩ := newBlk_sound h2
      obtain ⟨T1, h8, h9, h10⟩ := setDst_sound h5
      refine ⟨⟨i, o, .a, T, M, v, e, n, l, 0, T1, M1⟩, em, rfl, rfl, ⟨ho, hnew, s1, hbef, hgd, hinn, haft, dstIn_spec s6, h9, h10, ?_, by simp only; omega, fun e => (by cases e), fun _ => ⟨h7, h6, h4, h3⟩, fun e => (by cases e), fun e => (by cases e)⟩, h8, fun q hq hk => ?_⟩
      · simp only [h1]
        exact ⟨fun e => (by cases e), fun e => (by cases e)⟩
      · rcases List.mem_cons.1 hq with rfl | hq
        · cases hk
        · exact hem q hq hk
  · rw [hb] at h
    simp only [cond_true] at h
    obtain ⟨h1, h⟩ := guardB_true h
    obtain ⟨h2, h⟩ := guardB_true h
    obtain ⟨h3, h⟩ := guardB_true h
    rw [forceN_eq] at h
    obtain ⟨v, M1, h4, h5, h6⟩ := opK_sound hE hc h
    obtain ⟨T1, h7, h8, h9⟩ := setDst_sound h4
    have hall : ∀ q ∈ (⟨i, o, .e, T, M, v, 0, 0, [], em ||| 2 ^ i, T1, M1⟩ : St) :: er, q.kd = .e → (em ||| 2 ^ i).testBit q.i = true := fun q hq hk => by
      rw [Nat.testBit_or, Bool.or_eq_true]
      rcases List.mem_cons.1 hq with rfl | hq
      · exact .inr (bit_self _)
      · exact .inl (hem q hq hk)
    refine ⟨⟨i, o, .e, T, M, v, 0, 0, [], em ||| 2 ^ i, T1, M1⟩, em ||| 2 ^ i, rfl, rfl, ⟨ho, hnew, s1, hbef, hgd, hinn, haft, dstIn_spec s6, h8, h9, ?_, h5, fun _ => ⟨fun q hq => ?_, hall, ltOpsB_spec h3, h6⟩, fun e => (by cases e), fun e => (by cases e), fun e => (by cases e)⟩, h7, hall⟩
    · exact ⟨fun _ => rfl, fun _ => subB_spec h1 i (bit_self i)⟩
    · exact subB_spec h2 q.i ((hdn q.i).2 ⟨q, hq, rfl⟩)
theorem walkK_sound (hE : EnvOK E X) {call : CallK} (hc : CallOK E X call) {ops : List Oper} {N : Nat} {ms : List Nat} {eb n : Nat} {T0 : Tr AV} {k : Tr AV → Mem → Bool} : ∀ {order : List Nat} {dn em : Nat} {bs : List (Mem × Nat)} {T : Tr AV} {M : Mem} {er : List St},
    walkK E call ops N ms eb n order k dn em bs T M = true → (∀ j, dn.testBit j = true ↔ ∃ q ∈ er, q.i = j) → (∀ q ∈ er, q.kd = .e → em.testBit q.i = true) → Hist T0 er T →
    ∃ L T' M', k T' M' = true ∧ M.next ≤ M'.next ∧ Plan E X ops N ms eb T0 er L T M bs T' M' ∧ L.length = order.length ∧ ∀ j, j < n → ∃ q, (q ∈ er ∨ q ∈ L) ∧ q.i = j
  | [], dn, em, bs, T, M, er, h, hdn, hem, hh => by
    rw [walkK_nil] at h
    obtain ⟨h1, h2⟩ := guardB_true h
    have h1 := Nat.eq_of_beq_eq_true h1
    refine ⟨[], T, M, h2, Nat.le_refl _, ⟨rfl, rfl, hh⟩, rfl, fun j hj => ?_⟩
    obtain ⟨q, h3, h4⟩ := (hdn j).1 (by rw [h1, Nat.testBit_two_pow_sub_one]; simpa using hj)
    exact ⟨q, .inl h3, h4⟩
  | i :: order, dn, em, bs, T, M, er, h, hdn, hem, hh => by
    rw [walkK_cons] at h
    obtain ⟨s, em', rfl, rfl, h1, h2, h3⟩ := stepK_sound hE hc h hdn hem
    obtain ⟨L, T', M', h4, h5, h6, h7, h8⟩ := walkK_sound (er := s :: er) hE hc h2 (fun j => by
      rw [Nat.testBit_or, Bool.or_eq_true, hdn j]
      constructor
      · rintro (⟨q, hq, hj⟩ | hj)
        · exact ⟨q, by simp [hq], hj⟩
        · exact ⟨s, by simp, bit_two hj⟩
      · rintro ⟨q, hq, hj⟩
        rcases List.mem_cons.1 hq with rfl | hq
        · rw [← hj]; exact .inr (bit_self _)
        · exact .inl ⟨q, hq, hj⟩) h3 (hh.next h1.hT)
    refine ⟨s :: L, T', M', h4, Nat.le_trans h1.nx h5, ⟨rfl, rfl, hh, h1, h6⟩, by simp [h7], fun j hj => ?_⟩
    obtain ⟨q, h9, h10⟩ := h8 j hj
    rcases h9 with h9 | h9
    · rcases List.mem_cons.1 h9 with rfl | h9
      · exact ⟨q, .inr (by simp), h10⟩
      · exact ⟨q, .inl h9, h10⟩
    · exact ⟨q, .inr (by simp [h9]), h10⟩
end Go.Ev
