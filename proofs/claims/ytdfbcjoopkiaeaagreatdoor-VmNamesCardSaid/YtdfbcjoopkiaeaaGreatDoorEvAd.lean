/-
  A reckoner for the program's form over abstract values and memory, run by the kernel, and its proof: if it answers, the form's own run answers so, whatever the tape. Part EvAd. No condition.
-/
import Derived.Test.YtdfbcjoopkiaeaaGreatDoorEvAc
noncomputable section
namespace Go.Ev

variable {X : Fix} {Pr : Nat → Option Obj} {G : Nat → Option Blk} {E : Env}

theorem getD_both {l : Array Bool} {j : Nat} (h : j < l.size) : l.getD j true = l.getD j false := by
  simp [Array.getD, h]
theorem set_iff {l : Array Bool} {i j : Nat} (h : i < l.size) : (l.setIfInBounds i true).getD j false = true ↔ l.getD j false = true ∨ j = i := by
  by_cases e : i = j
  · subst e
    simp [h]
  · rw [getD_set_ne false e]
    exact ⟨.inl, fun h => h.resolve_right fun e' => e e'.symm⟩
theorem filter_lt {α : Type} {p q : α → Bool} : ∀ {l : List α} {x : α}, (∀ y, q y = true → p y = true) → x ∈ l → p x = true → q x = false → (l.filter q).length < (l.filter p).length
  | [], x, _, hx, _, _ => by simp at hx
  | y :: l, x, h, hx, hp, hq => by
    have hle : ∀ l : List α, (l.filter q).length ≤ (l.filter p).length := by
      intro l
      induction l with
      | nil => simp
      | cons z l ih =>
        by_cases hz : q z = true
        · rw [List.filter_cons_of_pos hz, List.filter_cons_of_pos (h z hz)]
          simpa using ih
        · rw [List.filter_cons_of_neg hz]
          by_cases hz2 : p z = true
          · rw [List.filter_cons_of_pos hz2]
            simp only [List.length_cons]; omega
          · rw [List.filter_cons_of_neg hz2]; exact ih
    rcases List.mem_cons.1 hx with rfl | hx
    · rw [List.filter_cons_of_pos hp, List.filter_cons_of_neg (by rw [hq]; exact Bool.false_ne_true)]
      have := hle l
      simp only [List.length_cons]; omega
    · have ih := filter_lt h hx hp hq
      by_cases hz : q y = true
      · rw [List.filter_cons_of_pos hz, List.filter_cons_of_pos (h y hz)]
        simpa using ih
      · rw [List.filter_cons_of_neg hz]
        by_cases hz2 : p y = true
        · rw [List.filter_cons_of_pos hz2]
          simp only [List.length_cons]; omega
        · rw [List.filter_cons_of_neg hz2]; exact ih

section
variable {ops : Array Oper} {N : Nat} {ms : List Nat} {eb : Nat} {T0 : Tr AV} {L0 : List St}

/-- What is known of the whole plan. -/
structure Whole (E : Env) (X : Fix) (ops : Array Oper) (N : Nat) (ms : List Nat) (eb : Nat) (T0 : Tr AV) (L0 : List St) : Prop where
  all : ∀ s ∈ L0, ∃ er' bs', SOK E X ops.toList N ms eb er' bs' s ∧ ∀ q ∈ er', q ∈ L0
  uniq : ∀ s ∈ L0, ∀ q ∈ L0, s.i = q.i → s = q
  cov : ∀ j, j < ops.size → ∃ q ∈ L0, q.i = j

def Goal (X : Fix) (Pr : Nat → Option Obj) (G : Nat → Option Blk) (N : Nat) (φ0 : Nat → Option Nat) (κ0 : Nat → Nat) (T' : Tr AV) (M' : Mem) (Q : Exit → Act → World → Prop) : Prop :=
  ∀ φ' κ' a' w', Ext φ0 κ0 φ' κ' → MRel X Pr G φ' κ' M'.get M'.next w' → TRel φ' κ' N T' a' → Q .normal a' w'

theorem finish {φ0 : Nat → Option Nat} {κ0 : Nat → Nat} {T' : Tr AV} {M' : Mem} {Q : Exit → Act → World → Prop} (hQ : Goal X Pr G N φ0 κ0 T' M' Q)
    {D : Nat → Prop} {a : Act} {w : World} {er rest : List St} {T : Tr AV} {M : Mem} {bs : List (Mem × Nat)} {φ : Nat → Option Nat} {κ : Nat → Nat} {f : Nat → Option Nat} {k : Nat → Nat}
    (hL : ∀ q, q ∈ L0 ↔ q ∈ er ∨ q ∈ rest) (hp : Plan E X ops.toList N ms eb T0 er rest T M bs T' M') (hne : ∀ q ∈ rest, q.kd = .e → ¬ D q.i)
    (hi : InvC X Pr G φ κ f k D rest M w) (ht : TInv T0 N f k D L0 a) (he : Ext φ0 κ0 f k) (hall : ∀ s ∈ L0, D s.i) : Q .normal a w := by
  obtain ⟨T2, M2, bs2, φ2, κ2, h1, h2⟩ := InvC.go (A := rest) (R := []) (by simpa using hp) (fun s hs => ⟨fun e => hne s hs e (hall s ((hL s).2 (.inr hs))), hall s ((hL s).2 (.inr hs))⟩) (by simpa using hi)
  obtain ⟨rfl, rfl, hh⟩ := h1
  have hext : Ext f k φ2 κ2 := fun b c hb => by
    rcases (h2.dom b c hb).2 with h3 | ⟨s, h3, _⟩
    · obtain ⟨h4, h5⟩ := h2.ag b h3
      exact ⟨by rw [← h4]; exact hb, h5.symm⟩
    · simp at h3
  have hmem : ∀ q, q ∈ rest.reverse ++ er ↔ q ∈ L0 := fun q => by
    rw [hL, List.mem_append, List.mem_reverse]
    exact ⟨fun h => h.symm, fun h => h.symm⟩
  refine hQ φ2 κ2 a w (he.trans hext) h2.mr ⟨ht.size, ht.defers, fun t u hu => ?_, fun t hn => ?_⟩
  · rcases hh t with ⟨q, h3, h4, h5⟩ | ⟨h3, h4⟩
    · rw [hu] at h5; cases h5
      have hq := (hmem q).1 h3
      obtain ⟨h6, h7⟩ := ht.don q hq (hall q hq) t h4
      exact ⟨h6, h7.mono hext⟩
    · rw [h4] at hu
      obtain ⟨h6, h7⟩ := (ht.old t fun s hs _ => h3 s ((hmem s).2 hs)).1 u hu
      exact ⟨h6, h7.mono hext⟩
  · rcases hh t with ⟨q, h3, h4, h5⟩ | ⟨h3, h4⟩
    · rw [hn] at h5; cases h5
    · rw [h4] at hn
      exact (ht.old t fun s hs _ => h3 s ((hmem s).2 hs)).2 hn

/-- The operands of a step that is ready. -/
theorem ins_rel (hW : Whole E X ops N ms eb T0 L0) {D : Nat → Prop} {a : Act} {er : List St} {bs : List (Mem × Nat)} {f : Nat → Option Nat} {k : Nat → Nat} {s : St} (hs : SOK E X ops.toList N ms eb er bs s) (her : ∀ q ∈ er, q ∈ L0)
    (hh : Hist T0 er s.T) (ht : TInv T0 N f k D L0 a) (hm : ∀ j, (nthD ms s.i).testBit j = true → D j) (hnd : ¬ D s.i) (hdc : ∀ q ∈ L0, D q.i → ∀ j, (nthD ms q.i).testBit j = true → D j) : Ops f k s.T a.eval s.ins := by
  refine ops_of fun t hx u hu => ?_
  rcases hh t with ⟨q, h3, h4, h5⟩ | ⟨h3, h4⟩
  · rw [hu] at h5; cases h5
    obtain ⟨er', bs', h6, _⟩ := hW.all q (her q h3)
    exact (ht.don q (her q h3) (hm q.i (hs.inn t hx q h3 h6.op h4)) t h4).2
  · rw [h4] at hu
    refine ((ht.old t fun q hq hqd hd => ?_).1 u hu).2
    obtain ⟨er', bs', h6, _⟩ := hW.all q hq
    rcases hs.aft t hx q.i q.o h6.op hd with h9 | h9
    · obtain ⟨q', h7, h8⟩ := hs.bef q.i h9
      rw [← hW.uniq q' (her q' h7) q hq h8] at hd
      exact h3 q' h7 hd
    · exact hnd (hdc q hq hqd s.i h9)

theorem any_sound (hW : Whole E X ops N ms eb T0 L0) {φ0 : Nat → Option Nat} {κ0 : Nat → Nat} {T' : Tr AV} {M' : Mem} {Q : Exit → Act → World → Prop} (hQ : Goal X Pr G N φ0 κ0 T' M' Q) :
    ∀ (fuel : Nat) (listed : Array Bool) (a : Act) (w : World) (er rest : List St) (T : Tr AV) (M : Mem) (bs : List (Mem × Nat)) (em : Nat) (φ : Nat → Option Nat) (κ : Nat → Nat) (f : Nat → Option Nat) (k : Nat → Nat),
      listed.size = ops.size → (L0.filter fun s => !listed.getD s.i false).length ≤ fuel → (∀ q ∈ L0, listed.getD q.i false = true → ∀ j, (nthD ms q.i).testBit j = true → listed.getD j false = true) →
      (∀ q, q ∈ L0 ↔ q ∈ er ∨ q ∈ rest) → Plan E X ops.toList N ms eb T0 er rest T M bs T' M' → (∀ q ∈ er, listed.getD q.i false = true) → (M, em) ∈ bs → (∀ q ∈ er, q.kd = .e → em.testBit q.i = true) →
      (∀ q ∈ rest, q.kd = .e → ¬ listed.getD q.i false = true) → InvC X Pr G φ κ f k (fun j => listed.getD j false = true) rest M w → TInv T0 N f k (fun j => listed.getD j false = true) L0 a → Ext φ0 κ0 f k →
      wpAny E.P .any ops Q fuel listed a w
  | 0, listed, a, w, er, rest, T, M, bs, em, φ, κ, f, k, hsz, hf, hdc, hL, hp, her, hbs, hem, hne, hi, ht, he => by
    have hall : ∀ s ∈ L0, listed.getD s.i false = true := fun s hs => by
      cases hb : listed.getD s.i false
      · have hm : s ∈ L0.filter fun s => !listed.getD s.i false := by rw [List.mem_filter]; exact ⟨hs, by rw [hb]; rfl⟩
        have := List.length_pos_of_mem hm
        omega
      · rfl
    refine ⟨List.eq_nil_iff_forall_not_mem.2 fun j hj => ?_, finish hQ hL hp hne hi ht he hall⟩
    obtain ⟨h1, o, ho, _⟩ := mem_ready.1 hj
    have hj' : j < ops.size := (Array.getElem?_eq_some_iff.1 ho).1
    obtain ⟨q, hq, rfl⟩ := hW.cov j hj'
    have := hall q hq
    rw [getD_both (by omega), this] at h1
    cases h1
  | fuel + 1, listed, a, w, er, rest, T, M, bs, em, φ, κ, f, k, hsz, hf, hdc, hL, hp, her, hbs, hem, hne, hi, ht, he => by
    have hlt : ∀ {s : St}, s ∈ L0 → s.i < ops.size := fun {s} hs => by
      obtain ⟨er', bs', h1, _⟩ := hW.all s hs
      have h2 := h1.op
      rw [Array.getElem?_toList] at h2
      exact (Array.getElem?_eq_some_iff.1 h2).1
    refine ⟨fun hr => finish hQ hL hp hne hi ht he ?_, fun i hir => ?_⟩
    · -- nothing is ready: all is done
      have hrest := Plan.done (D := fun j => listed.getD j false = true) hp her fun s hs hm => by
        cases hb : listed.getD s.i false
        · exfalso
          have hs0 := (hL s).2 (.inr hs)
          obtain ⟨er', bs', h1, _⟩ := hW.all s hs0
          have h2 := h1.op
          rw [Array.getElem?_toList] at h2
          have : s.i ∈ Region.ready .any ops listed := by
            rw [mem_ready]
            refine ⟨by rw [getD_both (by have := hlt hs0; omega)]; exact hb, s.o, h2, fun e hee hbe => hm e.on ?_⟩
            rw [h1.msk, maskE_bit]
            exact ⟨e, by simpa using hee, by rw [← binds_any]; exact hbe, .inl rfl⟩
          rw [hr] at this
          simp at this
        · rfl
      intro s hs
      rcases (hL s).1 hs with h1 | h1
      · exact her s h1
      · exact hrest s h1
    · -- a step that is ready
      obtain ⟨hun, o, hoi, hpre⟩ := mem_ready.1 hir
      have hio : i < ops.size := (Array.getElem?_eq_some_iff.1 hoi).1
      obtain ⟨s, hs0, rfl⟩ := hW.cov i hio
      have hnd : ¬ listed.getD s.i false = true := by
        rw [← getD_both (by omega), hun]; exact Bool.false_ne_true
      have hsr : s ∈ rest := ((hL s).1 hs0).resolve_left fun h => hnd (her s h)
      obtain ⟨A, R, rfl⟩ := List.append_of_mem hsr
      obtain ⟨bs', hp', hbs'⟩ := Plan.at hp
      have hp0 := hp'
      obtain ⟨_, _, hh, hsok, hnext⟩ := hp0
      have hop := hsok.op
      rw [Array.getElem?_toList, hoi] at hop
      cases hop
      have her' : ∀ q ∈ A.reverse ++ er, q ∈ L0 := fun q hq => by
        rw [List.mem_append, List.mem_reverse] at hq
        rcases hq with hq | hq
        · exact (hL q).2 (.inr (by simp [hq]))
        · exact (hL q).2 (.inl hq)
      have hmask : ∀ j, (nthD ms s.i).testBit j = true → listed.getD j false = true := fun j hj => by
        rw [hsok.msk, maskE_bit] at hj
        obtain ⟨e, h1, h2, h3⟩ := hj
        have h4 := hpre e (by simpa using h1) (by rw [binds_any]; exact h2)
        rcases h3 with rfl | h3
        · exact h4
        · have h5 : e.on < ops.size := by
            rcases Nat.lt_or_ge e.on listed.size with h | h
            · omega
            · simp [Array.getD, Nat.not_lt.2 h] at h4
          obtain ⟨q, hq, hqe⟩ := hW.cov e.on h5
          rw [← hqe] at h3 h4
          exact hdc q hq h4 j h3
      have hops := ins_rel hW hsok her' hh ht hmask hnd hdc
      have hD' : ∀ j, (listed.setIfInBounds s.i true).getD j false = true ↔ listed.getD j false = true ∨ j = s.i := fun j => set_iff (by omega)
      have hsz' : (listed.setIfInBounds s.i true).size = ops.size := by rw [Array.size_setIfInBounds]; exact hsz
      have hf' : (L0.filter fun q => !(listed.setIfInBounds s.i true).getD q.i false).length ≤ fuel := by
        have := filter_lt (p := fun q : St => !listed.getD q.i false) (q := fun q : St => !(listed.setIfInBounds s.i true).getD q.i false) (l := L0) (x := s) (fun q hq => by
          cases hb : listed.getD q.i false
          · rfl
          · rw [(hD' q.i).2 (.inl hb)] at hq; cases hq) hs0 (by simp only [Bool.not_eq_true] at hnd; rw [hnd]; rfl) (by rw [(hD' s.i).2 (.inr rfl)]; rfl)
        omega
      have hdc' : ∀ q ∈ L0, (listed.setIfInBounds s.i true).getD q.i false = true → ∀ j, (nthD ms q.i).testBit j = true → (listed.setIfInBounds s.i true).getD j false = true := fun q hq hd j hj => by
        rcases (hD' q.i).1 hd with h1 | h1
        · exact (hD' j).2 (.inl (hdc q hq h1 j hj))
        · rw [h1] at hj; exact (hD' j).2 (.inl (hmask j hj))
      have hput : ∀ {f' : Nat → Option Nat} {k' : Nat → Nat} {x : Value}, Ext f k f' k' → VRel f' k' s.v x → TInv T0 N f' k' (fun j => (listed.setIfInBounds s.i true).getD j false = true) L0 (a.put s.o.dst x) := fun hx hv =>
        (ht.mono hx).put hs0 hD' hv hsok.dN (fun q hq t h1 h2 => by
          obtain ⟨er2, bs2, h3, _⟩ := hW.all q hq
          exact hW.uniq q hq s hs0 (hsok.uni t h1 q.i q.o h3.op h2)) fun q hq h => hW.uniq q hq s hs0 h
      have hwant : Region.wanted s.o (yielded ops a.tmps) = true := by simp [Region.wanted, hsok.gd]
      unfold wpOp
      simp only [hoi, hwant, if_true]
      -- a step that is no effect: the rest of the walk
      have still : ∀ {f' : Nat → Option Nat} {k' : Nat → Nat} {x : Value} {w' : World}, s.kd ≠ .e → Ext f k f' k' → VRel f' k' s.v x →
          InvC X Pr G φ κ f' k' (fun j => (listed.setIfInBounds s.i true).getD j false = true) (A ++ s :: R) M w' →
          wpAny E.P .any ops Q fuel (listed.setIfInBounds s.i true) (a.put s.o.dst x) w' := fun hk hx hv hi' =>
        any_sound hW hQ fuel _ _ _ er (A ++ s :: R) T M bs em φ κ _ _ hsz' hf' hdc' hL hp (fun q hq => (hD' q.i).2 (.inl (her q hq))) hbs hem (fun q hq hqe hd => by
          rcases (hD' q.i).1 hd with h1 | h1
          · exact hne q hq hqe h1
          · have := hW.uniq q ((hL q).2 (.inr hq)) s hs0 h1
            subst this
            exact hk hqe) hi' (hput hx hv) (he.trans hx)
      have hrowD : s.kd ≠ .a → InvC X Pr G φ κ f k (fun j => (listed.setIfInBounds s.i true).getD j false = true) (A ++ s :: R) M w := fun hk => hi.congr fun q hq hqa => by
        rw [hD']
        refine ⟨fun h => h.resolve_right fun h1 => ?_, .inl⟩
        have := hW.uniq q ((hL q).2 (.inr hq)) s hs0 h1
        subst this
        exact hk hqa
      have hmono := Plan.mono hp
      have hsM : M.next ≤ s.M.next := (hmono.2 s hsr).1
      -- nothing has the id of a row that is not made yet
      have hfree : s.kd = .a → f s.M.next = none := fun hk => by
        cases hb : f s.M.next with
        | none => rfl
        | some c =>
          rcases (hi.dom _ c hb).2 with h1 | ⟨q, h1, h2, h3, h4⟩
          · omega
          · have := Plan.rows hp q h1 s hsr h2 hk h4
            subst this
            exact absurd h3 hnd
      have hglob : ∀ {g : Nat} {l : List AV} {b : Nat}, X.gl g = some l → f b ≠ some g := fun {g l b} hg hb => by
        rcases (hi.dom b g hb).2 with h1 | ⟨q, h1, h2, h3, h4⟩
        · obtain ⟨_, _, _, _, _, h5⟩ := hi.mr.glob g l hg
          exact h5 b (by rw [← (hi.ag b h1).1]; exact hb)
        · obtain ⟨c, ys, h5, _, _, _, _, h6⟩ := hi.row q h1 h2 h3
          rw [h4, hb] at h5
          cases h5
          rw [hg] at h6; cases h6
      cases hkd : s.kd with
      | p =>
        obtain ⟨_, hlt', hpure⟩ := hsok.hp hkd
        have hm : MRel X (fun _ => none) (fun _ => none) (restr f s.M.next) k (fun _ => none) s.M.next w :=
          hi.mr.empty k (fun b c hb => by
              have h1 := hi.mr.dom b c hb
              rw [restr_lt (by omega), (hi.ag b h1).1]; exact hb) (fun b c hb => (hi.ag b (hi.mr.dom b c hb)).2) (fun b c hb => by
              unfold restr at hb
              split at hb
              · rename_i h1; exact ⟨h1, (hi.dom b c hb).1⟩
              · cases hb) fun g l b hg hb => by
              unfold restr at hb
              split at hb
              · exact hglob hg hb
              · cases hb
        obtain ⟨x, hrun, hv⟩ := hpure _ _ _ _ a.eval w hm (ops_agree hops hlt' fun b hb => ⟨restr_lt hb, rfl⟩)
        have hv' : VRel f k s.v x := hv.mono fun b c hb => by
          unfold restr at hb
          split at hb
          · exact ⟨hb, rfl⟩
          · cases hb
        refine .inl (Does.upon (Post := fun x' w' => x' = x ∧ w' = w) (by rw [hrun]; exact ⟨rfl, rfl⟩) s.o a fun x' w' hx => ?_)
        obtain ⟨rfl, rfl⟩ := hx
        exact still (by rw [hkd]; exact fun e => by cases e) (Ext.refl f k) hv' (hrowD (by rw [hkd]; exact fun e => by cases e))
      | r =>
        obtain ⟨_, hread⟩ := hsok.hr hkd
        obtain ⟨hlt', hread⟩ := hread M em (hbs' _ hbs) fun j h1 h2 => by
          obtain ⟨q, hq, rfl⟩ := hsok.bef j h1
          have hq0 := her' q hq
          obtain ⟨er2, bs2, h3, _⟩ := hW.all q hq0
          have hqe := h3.bit.1 h2
          rcases (hL q).1 hq0 with h4 | h4
          · exact hem q h4 hqe
          · exact absurd (hmask q.i h1) (hne q h4 hqe)
        obtain ⟨x, hrun, hv⟩ := hread _ _ _ _ a.eval w hi.mr (ops_agree hops hlt' fun b hb => ⟨(hi.ag b hb).1.symm, (hi.ag b hb).2.symm⟩)
        refine .inl (Does.upon (Post := fun x' w' => x' = x ∧ w' = w) (by rw [hrun]; exact ⟨rfl, rfl⟩) s.o a fun x' w' hx => ?_)
        obtain ⟨rfl, rfl⟩ := hx
        exact still (by rw [hkd]; exact fun e => by cases e) (Ext.refl f k) (hv.mono hi.sub) (hrowD (by rw [hkd]; exact fun e => by cases e))
      | a =>
        obtain ⟨hn1, hg1, hl1, hmake⟩ := hsok.ha hkd
        obtain ⟨x, ys, hrun, hsz3, hlr, hv⟩ := hmake f k a.eval w hops
        have hfr := hfree hkd
        have hx : Ext f k (upd f s.M.next (some w.heap.size)) k := fun b c hb => by
          have : s.M.next ≠ b := fun e => by rw [← e, hfr] at hb; cases hb
          rw [upd_ne _ _ this]
          exact ⟨hb, rfl⟩
        refine .inl (Does.upon (Post := fun x' w' => x' = x ∧ w' = w.alloc (.cells ys s.e)) (by rw [hrun]; exact ⟨rfl, rfl⟩) s.o a fun x' w' hx' => ?_)
        obtain ⟨rfl, rfl⟩ := hx'
        refine still (by rw [hkd]; exact fun e => by cases e) hx (hv _ _ (upd_same _ _ _)) ⟨hi.mr.more _, fun b hb => ?_, fun b c hb => ?_, fun q hq hqa hqd => ?_, fun b b' c hb h1 h2 => ?_⟩
        · rw [upd_ne _ _ (by omega)]
          exact hi.ag b hb
        · have hsz2 : (w.alloc (.cells ys s.e)).heap.size = w.heap.size + 1 := by simp
          by_cases e : s.M.next = b
          · subst e
            rw [upd_same] at hb
            injection hb with hb
            exact ⟨by omega, .inr ⟨s, hsr, hkd, (hD' s.i).2 (.inr rfl), rfl⟩⟩
          · rw [upd_ne _ _ e] at hb
            obtain ⟨h1, h2⟩ := hi.dom b c hb
            exact ⟨by omega, h2.imp id fun ⟨q, h3, h4, h5, h6⟩ => ⟨q, h3, h4, (hD' q.i).2 (.inl h5), h6⟩⟩
        · by_cases e : q.i = s.i
          · have := hW.uniq q ((hL q).2 (.inr hq)) s hs0 e
            subst this
            refine ⟨w.heap.size, ys, upd_same _ _ _, heap_alloc_new w _, hsz3, hlr.mono hx, ?_, ?_⟩
            · cases hb : Pr w.heap.size with
              | none => rfl
              | some p =>
                have := lt_of_heap (hi.mr.pro _ p hb).1
                omega
            · cases hb : X.gl w.heap.size with
              | none => rfl
              | some l =>
                obtain ⟨cs, e0, fz, h5, _⟩ := hi.mr.glob _ l hb
                have := lt_of_heap h5
                omega
          · obtain ⟨c, ys', h1, h2, h30, h3, h4⟩ := hi.row q hq hqa (((hD' q.i).1 hqd).resolve_right e)
            exact ⟨c, ys', (hx _ _ h1).1, heap_alloc_lt w _ h2, h30, h3.mono hx, h4⟩
        · by_cases e : s.M.next = b
          · subst e
            rw [upd_same] at h1
            cases h1
            by_cases e' : s.M.next = b'
            · exact e'
            · rw [upd_ne _ _ e'] at h2
              have := (hi.dom b' _ h2).1
              omega
          · rw [upd_ne _ _ e] at h1
            by_cases e' : s.M.next = b'
            · subst e'
              rw [upd_same] at h2
              cases h2
              have := (hi.dom b _ h1).1
              omega
            · rw [upd_ne _ _ e'] at h2
              exact hi.inj b b' c hb h1 h2
      | e =>
        obtain ⟨hbef, hem2, hlt', hdoes⟩ := hsok.he hkd
        have hAd : ∀ q ∈ A, q.kd ≠ .e ∧ listed.getD q.i false = true := fun q hq => by
          have h1 := hmask q.i (hbef q (by simp [hq]))
          exact ⟨fun e => hne q (by simp [hq]) e h1, h1⟩
        obtain ⟨T2, M2, bs2, φ2, κ2, h1, h2⟩ := InvC.go hp hAd hi
        have h1' := h1
        obtain ⟨_, hM2, _⟩ := h1'
        subst hM2
        let mine : Nat → Prop := fun c => ∃ q ∈ R, q.kd = .a ∧ listed.getD q.i false = true ∧ f q.M.next = some c
        have hmono2 := Plan.mono hnext
        have hnx := hsok.nx
        have hpr : MRel X (fun c => @ite _ (mine c) (Classical.propDecidable _) (w.heap[c]?) (Pr c)) G φ2 κ2 s.M.get s.M.next w := h2.mr.protect fun c o' ho' => by
          by_cases hm : mine c
          · rw [if_pos hm] at ho'
            refine ⟨ho', fun b hb => ?_⟩
            obtain ⟨q, h3, h4, h5, h6⟩ := hm
            have h7 := h2.mr.dom b c hb
            have h8 : f b = some c := by rw [(h2.ag b h7).1]; exact hb
            have h9 := (hmono2.2 q h3).1
            have := h2.inj q.M.next b c (by omega) h6 h8
            omega
          · rw [if_neg hm] at ho'
            exact h2.mr.pro c o' ho'
        have hpost := hdoes _ _ _ _ a.eval w hpr (ops_agree hops hlt' fun b hb => ⟨(h2.ag b hb).1.symm, (h2.ag b hb).2.symm⟩)
        refine .inl (hpost.upon s.o a fun x w' hx => ?_)
        obtain ⟨φ', κ', he', hm', hv⟩ := hx
        let f' : Nat → Option Nat := fun b => if b < s.M1.next then φ' b else f b
        let k' : Nat → Nat := fun b => if b < s.M1.next then κ' b else k b
        have hfx : ∀ b, b < s.M1.next → f' b = φ' b ∧ k' b = κ' b := fun b hb => ⟨if_pos hb, if_pos hb⟩
        have hfy : ∀ b, s.M1.next ≤ b → f' b = f b ∧ k' b = k b := fun b hb => ⟨if_neg (by omega), if_neg (by omega)⟩
        -- where an id of before lies
        have hwhere : ∀ b c, f b = some c → (b < s.M.next ∧ φ2 b = some c ∧ κ2 b = k b) ∨ (s.M1.next ≤ b ∧ ∃ q ∈ R, q.kd = .a ∧ listed.getD q.i false = true ∧ q.M.next = b) := fun b c hb => by
          rcases (h2.dom b c hb).2 with h3 | ⟨q, h3, h4, h5, h6⟩
          · exact .inl ⟨h3, by rw [← (h2.ag b h3).1]; exact hb, (h2.ag b h3).2.symm⟩
          · rcases List.mem_cons.1 h3 with rfl | h3
            · rw [hkd] at h4; cases h4
            · exact .inr ⟨by rw [← h6]; exact (hmono2.2 q h3).1, q, h3, h4, h5, h6⟩
        have hxx : Ext f k f' k' := fun b c hb => by
          rcases hwhere b c hb with ⟨h3, h4, h5⟩ | ⟨h3, _⟩
          · obtain ⟨h6, h7⟩ := he' b c h4
            obtain ⟨h8, h9⟩ := hfx b (by omega)
            exact ⟨by rw [h8]; exact h6, by rw [h9, h7, h5]⟩
          · obtain ⟨h8, h9⟩ := hfy b h3
            exact ⟨by rw [h8]; exact hb, h9⟩
        have hx2 : Ext φ' κ' f' k' := fun b c hb => by
          obtain ⟨h8, h9⟩ := hfx b (hm'.dom b c hb)
          exact ⟨by rw [h8]; exact hb, h9⟩
        have hsafe : ∀ q ∈ R, q.kd = .a → listed.getD q.i false = true → ∃ c ys, f q.M.next = some c ∧ w'.heap[c]? = some (.cells ys q.e (0, 0)) ∧ ys.size = q.n ∧ CRel f k q.n q.l .nil ys ∧ Pr c = none ∧ X.gl c = none ∧ ∀ b, φ' b ≠ some c := fun q hq hqa hqd => by
          obtain ⟨c, ys, h3, h4, h50, h5, h6, h7⟩ := h2.row q (by simp [hq]) hqa hqd
          have hmine : mine c := ⟨q, hq, hqa, hqd, h3⟩
          obtain ⟨h8, h9⟩ := hm'.pro c (.cells ys q.e (0, 0)) (by
            show @ite _ (mine c) (Classical.propDecidable _) (w.heap[c]?) (Pr c) = _
            rw [if_pos hmine]; exact h4)
          exact ⟨c, ys, h3, h8, h50, h5, h6, h7, h9⟩
        have hback : MRel X Pr G φ' κ' s.M1.get s.M1.next w' := hm'.protect fun c o' ho' => by
          by_cases hm : mine c
          · obtain ⟨q, h3, h4, h5, h6⟩ := hm
            obtain ⟨c', ys, h7, _, _, _, h8, _⟩ := hsafe q h3 h4 h5
            rw [h6] at h7
            cases h7
            rw [h8] at ho'; cases ho'
          · exact hm'.pro c o' (by
              show @ite _ (mine c) (Classical.propDecidable _) (w.heap[c]?) (Pr c) = _
              rw [if_neg hm]; exact ho')
        have hRD : ∀ q ∈ R, ((listed.setIfInBounds s.i true).getD q.i false = true ↔ listed.getD q.i false = true) := fun q hq => by
          rw [hD']
          refine ⟨fun h => h.resolve_right fun h1 => ?_, .inl⟩
          exact (Plan.uniq hnext).1 q hq s (by simp) h1.symm
        have hbs2 : (s.M1, s.em) ∈ nextBs s bs' := by
          unfold nextBs
          rw [hkd]
          simp
        refine any_sound hW hQ fuel _ _ _ (s :: (A.reverse ++ er)) R s.T1 s.M1 (nextBs s bs') s.em φ' κ' f' k' hsz' hf' hdc' (fun q => ?_) hnext (fun q hq => ?_) hbs2 hem2 (fun q hq hqe hd => ?_)
          ⟨hback, fun b hb => hfx b hb, fun b c hb => ?_, fun q hq hqa hqd => ?_, fun b b' c hb h3 h4 => ?_⟩ (hput hxx (hv.mono hx2)) (he.trans hxx)
        · rw [hL]
          simp only [List.mem_append, List.mem_cons, List.mem_reverse]
          constructor
          · rintro (h | h | h | h)
            · exact .inl (.inr (.inr h))
            · exact .inl (.inr (.inl h))
            · exact .inl (.inl h)
            · exact .inr h
          · rintro ((h | h | h) | h)
            · exact .inr (.inr (.inl h))
            · exact .inr (.inl h)
            · exact .inl h
            · exact .inr (.inr (.inr h))
        · rcases List.mem_cons.1 hq with rfl | hq
          · exact (hD' _).2 (.inr rfl)
          · rw [List.mem_append, List.mem_reverse] at hq
            rcases hq with hq | hq
            · exact (hD' _).2 (.inl (hAd q hq).2)
            · exact (hD' _).2 (.inl (her q hq))
        · exact hne q (by simp [hq]) hqe ((hRD q hq).1 hd)
        · rcases Nat.lt_or_ge b s.M1.next with h3 | h3
          · rw [(hfx b h3).1] at hb
            exact ⟨hm'.lt b c hb, .inl h3⟩
          · rw [(hfy b h3).1] at hb
            rcases hwhere b c hb with ⟨h4, _⟩ | ⟨_, q, h5, h6, h7, h8⟩
            · omega
            · obtain ⟨c', ys, h9, h10, _⟩ := hsafe q h5 h6 h7
              rw [h8, hb] at h9
              cases h9
              exact ⟨lt_of_heap h10, .inr ⟨q, h5, h6, (hRD q h5).2 h7, h8⟩⟩
        · obtain ⟨c, ys, h3, h4, h50, h5, h6, h7, _⟩ := hsafe q hq hqa ((hRD q hq).1 hqd)
          exact ⟨c, ys, by rw [(hfy _ (hmono2.2 q hq).1).1]; exact h3, h4, h50, h5.mono hxx, h6, h7⟩
        · rw [(hfy b hb).1] at h3
          rcases hwhere b c h3 with ⟨h5, _⟩ | ⟨_, q, h5, h6, h7, h8⟩
          · omega
          · rcases Nat.lt_or_ge b' s.M1.next with h9 | h9
            · rw [(hfx b' h9).1] at h4
              obtain ⟨c', ys, h10, _, _, _, _, _, h11⟩ := hsafe q h5 h6 h7
              rw [h8, h3] at h10
              cases h10
              exact absurd h4 (h11 b')
            · rw [(hfy b' h9).1] at h4
              exact h2.inj b b' c (by omega) h3 h4
end

theorem drawK_sound (hE : EnvOK E X) (hm : E.P.follows .mixedOrders = true) : DrawOK E X (drawK E) := by
  intro call hc ops N T M k h
  unfold drawK at h
  obtain ⟨ms, h⟩ := masksK_sound h
  obtain ⟨eb, h⟩ := eK_sound h
  rw [lenK_eq, lenK_eq] at h
  obtain ⟨hlen, h⟩ := guardB_true h
  have hlen := Nat.eq_of_beq_eq_true hlen
  obtain ⟨L, T', M', h1, h2, h3, h4, h5⟩ := walkK_sound (er := []) hE hc (T0 := T) h (fun j => by simp) (by simp) fun t => .inr ⟨by simp, rfl⟩
  refine ⟨T', M', h1, h2, fun Pr G φ κ a w Q id hmr htr hQ => wp_region_any hm ?_⟩
  have hW : Whole E X ops N ms eb T L := ⟨fun s hs => by
      obtain ⟨er', bs', h6, h7⟩ := Plan.all h3 s hs
      exact ⟨er', bs', h6, fun q hq => (h7 q hq).resolve_left (by simp)⟩, (Plan.uniq h3).2, fun j hj => by
      obtain ⟨q, h6, h7⟩ := h5 j (by simpa using hj)
      exact ⟨q, h6.resolve_left (by simp), h7⟩⟩
  have hnone : ∀ j, ¬ (Array.replicate ops.size false).getD j false = true := fun j => by
    simp [Array.getD_eq_getD_getElem?, Array.getElem?_replicate]
    split <;> simp
  have hmr' : MRel X Pr G φ κ M.get M.next { w with drawn := w.drawn + 1 } := hmr.drew
  refine any_sound hW hQ ops.size _ a _ [] L T M [(M, 0)] 0 φ κ φ κ (by simp) ?_ (fun q _ hd => absurd hd (hnone q.i)) (fun q => by simp) h3 (by simp) (by simp) (by simp) (fun q _ _ => hnone q.i)
    ⟨hmr', fun b _ => ⟨rfl, rfl⟩, fun b c hb => ⟨hmr'.lt b c hb, .inl (hmr'.dom b c hb)⟩, fun q _ _ hd => absurd hd (hnone q.i), fun b b' c hb h6 _ => by have := hmr'.dom b c h6; omega⟩
    ⟨htr.size, htr.defers, fun q _ hd => absurd hd (hnone q.i), fun t _ => ⟨fun u hu => htr.sm t u hu, fun hn => htr.nn t hn⟩⟩ (Ext.refl _ _)
  refine Nat.le_trans (List.length_filter_le _ _) ?_
  rw [h4, hlen, Array.length_toList]
  exact Nat.le_refl _
end Go.Ev
