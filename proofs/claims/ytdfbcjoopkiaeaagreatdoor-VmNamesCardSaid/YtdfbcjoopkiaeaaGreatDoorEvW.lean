/-
  A reckoner for the program's form over abstract values and memory, run by the kernel, and its proof: if it answers, the form's own run answers so, whatever the tape. Part EvW. No condition.
-/
import Derived.Test.YtdfbcjoopkiaeaaGreatDoorEvV
noncomputable section
namespace Go.Ev

variable {X : Fix} {Pr : Nat → Option Obj} {G : Nat → Option Blk} {φ : Nat → Option Nat} {κ : Nat → Nat} {m : Nat → Option Blk} {nx : Nat} {w : World} {E : Env}

/-! ## Code -/
abbrev DrawK := CallK → Array Oper → Nat → Tr AV → Mem → (Tr AV → Mem → Bool) → Bool
abbrev CodeA := Code × Nat × Tr AV × Mem × KC
def endK (E : Env) (fn : Func) (k : KM) : KC := fun ex T M => match ex with
  | .exit _ => false
  | _ => resultsK E fn.results.toList T M fun v => k v M
def callStep (E : Env) (ih : CodeA → Bool) : CallK := fun f args M k => match E.funcs.get f with
  | some fn => (match fn.body with
    | some c => argsK args fn.ntmps 0 .nil fun T => ih (c, fn.ntmps, T, M, endK E fn k)
    | none => false)
  | none => (match E.exts.get f with
    | some 1 => (match args with | [x] => k x M | _ => false)
    | _ => false)
def codeStep (E : Env) (dr : DrawK) (ih : CodeA → Bool) (c : Code) (N : Nat) (T : Tr AV) (M : Mem) (k : KC) : Bool := match c with
  | .skip => k .normal T M
  | .label _ => k .normal T M
  | .seq a b => ih (a, N, T, M, fun ex T M => match ex with | .normal => ih (b, N, T, M, k) | ex => k ex T M)
  | .cond c x y => evalK T c fun c => (match c with | .bool true => ih (x, N, T, M, k) | .bool false => ih (y, N, T, M, k) | _ => false)
  | .block id c => ih (c, N, T, M, fun ex T M => match ex with | .exit j => cond (Nat.beq j id) (k .normal T M) (k (.exit j) T M) | ex => k ex T M)
  | .loop c => ih (c, N, T, M, fun ex T M => match ex with | .normal => ih (.loop c, N, T, M, k) | ex => k ex T M)
  | .exit id => forceN id fun id => k (.exit id) T M
  | .ret => k .ret T M
  | .region _ ops d => cond d (dr (callStep E ih) ops N T M fun T M => k .normal T M) (opsK E (callStep E ih) ops.toList N ops.toList T M fun T M => k .normal T M)
  | _ => false
def codeK (E : Env) (dr : DrawK) (n : Nat) (a : CodeA) : Bool := recN (A := CodeA) (fun _ => false) (fun _ ih a => match a with | (c, N, T, M, k) => codeStep E dr ih c N T M k) n a
def callK (E : Env) (dr : DrawK) (n : Nat) (f : Nat) (args : List AV) (M : Mem) (k : KM) : Bool := callStep E (codeK E dr n) f args M k
theorem codeK_zero (E : Env) (dr : DrawK) (a : CodeA) : codeK E dr 0 a = false := rfl
theorem codeK_succ (E : Env) (dr : DrawK) (n : Nat) (c : Code) (N : Nat) (T : Tr AV) (M : Mem) (k : KC) : codeK E dr (n + 1) (c, N, T, M, k) = codeStep E dr (codeK E dr n) c N T M k := rfl

def DrawOK (E : Env) (X : Fix) (dr : DrawK) : Prop := ∀ call, CallOK E X call → ∀ ops N T M k, dr call ops N T M k = true →
  ∃ T' M', k T' M' = true ∧ M.next ≤ M'.next ∧ ∀ Pr G φ κ a w Q id, MRel X Pr G φ κ M.get M.next w → TRel φ κ N T a →
    (∀ φ' κ' a' w', Ext φ κ φ' κ' → MRel X Pr G φ' κ' M'.get M'.next w' → TRel φ' κ' N T' a' → Q .normal a' w') → (Code.region id ops true).wp E.P Q a w
def ExtOK (E : Env) : Prop := ∀ f, E.exts.get f = some 1 → ∀ x w, (callFunc f #[x]).run E.P w = .ok (.value x) w

/-! ### arguments and results -/
theorem argsK_cons (v : AV) (l : List AV) (N i : Nat) (T : Tr AV) (k : Tr AV → Bool) :
    argsK (v :: l) N i T k = guardB (Nat.ble (Nat.succ i) N) (T.put i v false fun T => forceN (i + 1) fun i => argsK l N i T k) := rfl
theorem argsK_sound : ∀ {l : List AV} {N i : Nat} {T : Tr AV} {k : Tr AV → Bool}, argsK l N i T k = true →
    ∃ T', k T' = true ∧ (l = [] ∨ i + l.length ≤ N) ∧ ∀ j, T'.get j = if i ≤ j ∧ j < i + l.length then l[j - i]? else T.get j
  | [], N, i, T, k, h => ⟨T, h, .inl rfl, fun j => by simp only [List.length_nil]; rw [if_neg (by omega)]⟩
  | v :: l, N, i, T, k, h => by
    rw [argsK_cons] at h
    obtain ⟨h1, h2⟩ := guardB_true h
    have h1 := Nat.le_of_ble_eq_true h1
    obtain ⟨T1, h3, h4⟩ := put_sound h2
    rw [forceN_eq] at h3
    obtain ⟨T', h5, h6, h7⟩ := argsK_sound h3
    refine ⟨T', h5, .inr ?_, fun j => ?_⟩
    · simp only [List.length_cons]
      rcases h6 with rfl | h6
      · simp only [List.length_nil]; omega
      · omega
    · rw [h7, h4]
      simp only [List.length_cons]
      by_cases e : i = j
      · subst e
        rw [if_neg (by omega), if_pos rfl, if_pos (by omega)]
        simp
      · rw [if_neg e]
        by_cases e2 : i + 1 ≤ j ∧ j < i + 1 + l.length
        · rw [if_pos e2, if_pos (by omega), show j - i = (j - (i + 1)) + 1 by omega, List.getElem?_cons_succ]
        · rw [if_neg e2, if_neg (by omega)]
theorem enter_rel {l : List AV} {xs : List Value} {N : Nat} {T : Tr AV} (hx : LRel φ κ l xs) (hl : l = [] ∨ 0 + l.length ≤ N) (hT : ∀ j, T.get j = if 0 ≤ j ∧ j < 0 + l.length then l[j - 0]? else Tr.get .nil j) :
    TRel φ κ N T { tmps := xs.toArray ++ Array.replicate (N - xs.toArray.size) undef, defers := [] } := by
  have hlen := hx.length
  have hN : l.length ≤ N := by
    rcases hl with rfl | hl
    · simp
    · omega
  refine ⟨by simp only [Array.size_append, List.size_toArray, Array.size_replicate]; omega, rfl, fun t u ht => ?_, fun t ht => ?_⟩
  · rw [hT] at ht
    by_cases e : t < l.length
    · rw [if_pos (by omega), Nat.sub_zero] at ht
      obtain ⟨x, h1, h2⟩ := hx.get t u ht
      refine ⟨by omega, ?_⟩
      have h3 : (xs.toArray ++ Array.replicate (N - xs.toArray.size) undef)[t]? = some x := by
        rw [Array.getElem?_append_left (by simp only [List.size_toArray]; omega)]
        simpa using h1
      simp only [Array.getD_eq_getD_getElem?, h3]
      exact h2
    · rw [if_neg (by omega)] at ht
      simp [Tr.get_nil] at ht
  · have e : ¬ t < l.length := fun e => by
      rw [hT, if_pos (by omega), Nat.sub_zero, List.getElem?_eq_getElem e] at ht
      cases ht
    simp only [Array.getD_eq_getD_getElem?]
    rw [Array.getElem?_append_right (by simp only [List.size_toArray]; omega), Array.getElem?_replicate]
    split <;> rfl
theorem resK_sound (hE : EnvOK E X) {T : Tr AV} {r : ResultVar} {M : Mem} {k : K1} (h : resK E T r M k = true) :
    ∃ v, k v = true ∧ ∀ Pr G φ κ N a w, MRel X Pr G φ κ M.get M.next w → TRel φ κ N T a →
      ∃ x, (match r with | .tmp t => pure (a.tmps.getD t undef) | .cell b t => do loadVar t (← asAddr (a.tmps.getD b undef)) : Sem Value).run E.P w = .ok x w ∧ VRel φ κ v x := by
  unfold resK at h
  split at h
  · rename_i t
    split at h
    · rename_i v hv
      exact ⟨v, h, fun Pr G φ κ N a w hm ht => ⟨_, rfl, (ht.sm t v hv).2⟩⟩
    · rename_i hv
      refine ⟨_, h, fun Pr G φ κ N a w hm ht => ⟨_, rfl, ?_⟩⟩
      rw [ht.nn t hv]
      simp only [VRel]
      exact ⟨#[], rfl, LRel.nil⟩
  · rename_i b t
    obtain ⟨u, h1, h2⟩ := getT_sound h
    obtain ⟨v, h3, h4⟩ := loadK_sound hE h1
    refine ⟨v, h3, fun Pr G φ κ N a w hm ht => ?_⟩
    obtain ⟨x, h5, h6⟩ := h4 Pr G φ κ w _ hm (ht.sm b u h2).2
    refine ⟨x, ?_, h6⟩
    simp only
    cases hy : a.tmps.getD b undef with
    | pointer p =>
      rw [hy] at h5
      cases p with
      | some p => exact h5
      | none => simp [Instr.loadAt, Instr.sureAddr, stuck] at h5
    | _ =>
      rw [hy] at h5
      simp [Instr.loadAt, Instr.sureAddr, stuck] at h5
def resL (E : Env) (l : List ResultVar) (T : Tr AV) (M : Mem) (k : List AV → Bool) : Bool := recL (A := List AV → Bool) (fun k => k []) (fun r _ ih k => resK E T r M fun v => ih fun vs => k (v :: vs)) l k
theorem resultsL_sound (hE : EnvOK E X) {T : Tr AV} {M : Mem} : ∀ {l : List ResultVar} {k : List AV → Bool}, resL E l T M k = true →
    ∃ vs, k vs = true ∧ ∀ Pr G φ κ N a w, MRel X Pr G φ κ M.get M.next w → TRel φ κ N T a →
      ∃ xs, (l.mapM fun r => (match r with | .tmp t => pure (a.tmps.getD t undef) | .cell b t => do loadVar t (← asAddr (a.tmps.getD b undef)) : Sem Value)).run E.P w = .ok xs w ∧ LRel φ κ vs xs
  | [], k, h => ⟨[], h, fun Pr G φ κ N a w hm ht => ⟨[], by simp, LRel.nil⟩⟩
  | r :: l, k, h => by
    have h' : resK E T r M (fun v => resL E l T M fun vs => k (v :: vs)) = true := h
    obtain ⟨v, h1, h2⟩ := resK_sound hE h'
    obtain ⟨vs, h3, h4⟩ := resultsL_sound hE h1
    refine ⟨v :: vs, h3, fun Pr G φ κ N a w hm ht => ?_⟩
    obtain ⟨x, h5, h6⟩ := h2 Pr G φ κ N a w hm ht
    obtain ⟨xs, h7, h8⟩ := h4 Pr G φ κ N a w hm ht
    refine ⟨x :: xs, ?_, LRel.cons h6 h8⟩
    rw [List.mapM_cons]
    simp only [Sem.run_bind, h5, Result.andThen_ok, h7, Sem.run_pure]
theorem resultsK_sound (hE : EnvOK E X) {fn : Func} {T : Tr AV} {M : Mem} {k : K1} (h : resultsK E fn.results.toList T M k = true) :
    ∃ v, k v = true ∧ ∀ Pr G φ κ N a w, MRel X Pr G φ κ M.get M.next w → TRel φ κ N T a → ∃ x, (results fn a.tmps).run E.P w = .ok x w ∧ VRel φ κ v x := by
  have h' : resL E fn.results.toList T M (fun vs => match vs with | [v] => k v | vs => k (.tup vs)) = true := h
  obtain ⟨vs, h1, h2⟩ := resultsL_sound hE h'
  have hrun : ∀ Pr G φ κ N a w, MRel X Pr G φ κ M.get M.next w → TRel φ κ N T a → ∃ xs : List Value, (results fn a.tmps).run E.P w = .ok (if h : xs.toArray.size = 1 then xs.toArray[0] else .tuple xs.toArray) w ∧ LRel φ κ vs xs := by
    intro Pr G φ κ N a w hm ht
    obtain ⟨xs, h3, h4⟩ := h2 Pr G φ κ N a w hm ht
    refine ⟨xs, ?_, h4⟩
    simp only [results, Sem.run_bind, Array.mapM_eq_mapM_toList, Sem.run_map]
    erw [h3]
    rfl
  split at h1
  · rename_i v
    refine ⟨v, h1, fun Pr G φ κ N a w hm ht => ?_⟩
    obtain ⟨xs, h3, h4⟩ := hrun Pr G φ κ N a w hm ht
    obtain ⟨x, rfl, hx⟩ := h4.one
    exact ⟨x, h3, hx⟩
  · rename_i hne
    refine ⟨_, h1, fun Pr G φ κ N a w hm ht => ?_⟩
    obtain ⟨xs, h3, h4⟩ := hrun Pr G φ κ N a w hm ht
    have hl := h4.length
    have hne' : xs.toArray.size ≠ 1 := by
      intro e
      simp only [List.size_toArray] at e
      rw [e] at hl
      obtain ⟨v, hv⟩ := List.length_eq_one_iff.1 hl.symm
      exact hne v hv
    rw [dif_neg hne'] at h3
    exact ⟨_, h3, by simp only [VRel]; exact ⟨_, rfl, h4⟩⟩

/-! ### the walk -/
def exitOf : AEx → Exit
  | .normal => .normal
  | .exit id => .exit id
  | .ret => .ret
/-- A loop, its mark on the stack. -/
def LoopWp (P : Program) (c : Code) (Q : Exit → Act → World → Prop) (a : Act) (w : World) : Prop :=
  ∀ (b : Frame) (k : List Item) (cs : List Frame), ∃ e a' w', Q e a' w' ∧ Arrives P (lone (b.at a (.inLoop c :: k)) cs w) b k cs e a' w'
theorem loop_aux {P : Program} {c : Code} {Q : Exit → Act → World → Prop} {a : Act} {w : World} (h : c.wp P (Exit.then (LoopWp P c Q) Q) a w) (b : Frame) (k : List Item) (cs : List Frame) :
    ∃ e a' w', Q e a' w' ∧ Arrives P (lone (b.at a (.code c :: .inLoop c :: k)) cs w) b k cs e a' w' := by
  obtain ⟨e, a₁, w₁, hq, harr⟩ := h b (.inLoop c :: k) cs
  cases e with
  | normal =>
    obtain ⟨e₂, a₂, w₂, hq₂, harr₂⟩ := hq b k cs
    exact ⟨e₂, a₂, w₂, hq₂, .of_steps harr harr₂⟩
  | exit id => exact ⟨_, a₁, w₁, hq, .pass (x := .inLoop c) rfl (fun _ _ => .inl (by simp)) harr⟩
  | goto l => exact ⟨_, a₁, w₁, hq, .pass (x := .inLoop c) rfl (fun _ _ => .inl (by simp)) harr⟩
  | ret => exact ⟨_, a₁, w₁, hq, .pass (x := .inLoop c) rfl (fun _ _ => .inl (by simp)) harr⟩
  | panic ch => exact ⟨_, a₁, w₁, hq, .pass (x := .inLoop c) rfl (fun _ _ => .inl (by simp)) harr⟩
  | outgrown => exact ⟨_, a₁, w₁, hq, .pass (x := .inLoop c) rfl (fun _ _ => .inl (by simp)) harr⟩
theorem loop_wp {P : Program} {c : Code} {Q : Exit → Act → World → Prop} {a : Act} {w : World} (h : c.wp P (Exit.then (LoopWp P c Q) Q) a w) : (Code.loop c).wp P Q a w := by
  intro b k cs
  obtain ⟨e, a', w', hq, harr⟩ := loop_aux h b k cs
  exact ⟨e, a', w', hq, .of_steps (.one step_loop) harr⟩
theorem loop_in {P : Program} {c : Code} {Q : Exit → Act → World → Prop} {a : Act} {w : World} (h : c.wp P (Exit.then (LoopWp P c Q) Q) a w) : LoopWp P c Q a w := by
  intro b k cs
  obtain ⟨e, a', w', hq, harr⟩ := loop_aux h b k cs
  exact ⟨e, a', w', hq, .of_steps (.one step_inLoop) harr⟩
def CodeWp (P : Program) (c : Code) (Q : Exit → Act → World → Prop) (a : Act) (w : World) : Prop := c.wp P Q a w ∧ ∀ d, c = .loop d → LoopWp P d Q a w
def CodeAll (E : Env) (X : Fix) (ih : CodeA → Bool) : Prop := ∀ c N T M k, ih (c, N, T, M, k) = true → ∃ ex T' M', k ex T' M' = true ∧ M.next ≤ M'.next ∧
  ∀ Pr G φ κ a w Q, MRel X Pr G φ κ M.get M.next w → TRel φ κ N T a →
    (∀ φ' κ' a' w', Ext φ κ φ' κ' → MRel X Pr G φ' κ' M'.get M'.next w' → TRel φ' κ' N T' a' → Q (exitOf ex) a' w') → CodeWp E.P c Q a w
theorem callStep_sound (hE : EnvOK E X) (hX : ExtOK E) {ih : CodeA → Bool} (hi : CodeAll E X ih) : CallOK E X (callStep E ih) := by
  intro f args M k h
  unfold callStep at h
  split at h
  · rename_i fn hfn
    have hok := hE.fn f fn hfn
    split at h
    · rename_i c hc
      obtain ⟨T, h1, h2, h3⟩ := argsK_sound h
      obtain ⟨ex, T', M', h4, h5, h6⟩ := hi _ _ _ _ _ h1
      have h7 : (ex = .normal ∨ ex = .ret) ∧ resultsK E fn.results.toList T' M' (fun v => k v M') = true := by
        unfold endK at h4
        cases ex with
        | normal => exact ⟨.inl rfl, h4⟩
        | ret => exact ⟨.inr rfl, h4⟩
        | exit id => cases h4
      obtain ⟨hex, h8⟩ := h7
      obtain ⟨v, h9, h10⟩ := resultsK_sound hE h8
      refine ⟨v, M', h9, h5, fun Pr G φ κ w xs hm hx => ?_⟩
      have hcall : (callFunc f xs.toArray).run E.P w = .ok (.enter f xs.toArray) w := by
        have hb : fn.body.isNone = false := by rw [hc]; rfl
        simp only [callFunc, Sem.run_bind, run_program, Result.andThen_ok, hok.get, hok.name, hb, Bool.false_eq_true, if_false, Sem.run_pure]
      rw [hcall]
      refine calls_of_wp hok.get hc (h6 Pr G φ κ _ w _ hm (enter_rel hx h2 h3) fun φ' κ' a' w' he hm' ht' => ?_).1
      obtain ⟨x, h11, h12⟩ := h10 Pr G φ' κ' _ a' w' hm' ht'
      rcases hex with rfl | rfl
      · exact ⟨ht'.defers, x, h11, x, rfl, φ', κ', he, hm', h12⟩
      · exact ⟨ht'.defers, x, h11, x, rfl, φ', κ', he, hm', h12⟩
    · cases h
  · split at h
    · rename_i hx
      split at h
      · rename_i x
        refine ⟨x, M, h, Nat.le_refl _, fun Pr G φ κ w xs hm hl => ?_⟩
        obtain ⟨y, rfl, hy⟩ := hl.one
        rw [hX f hx y w]
        exact ⟨φ, κ, Ext.refl _ _, hm, hy⟩
      · cases h
    · cases h
theorem codeStep_sound (hE : EnvOK E X) (hX : ExtOK E) {dr : DrawK} (hD : DrawOK E X dr) {ih : CodeA → Bool} (hi : CodeAll E X ih) :
    ∀ c N T M k, codeStep E dr ih c N T M k = true → ∃ ex T' M', k ex T' M' = true ∧ M.next ≤ M'.next ∧
      ∀ Pr G φ κ a w Q, MRel X Pr G φ κ M.get M.next w → TRel φ κ N T a →
        (∀ φ' κ' a' w', Ext φ κ φ' κ' → MRel X Pr G φ' κ' M'.get M'.next w' → TRel φ' κ' N T' a' → Q (exitOf ex) a' w') → CodeWp E.P c Q a w := by
  intro c N T M k h
  unfold codeStep at h
  split at h
  · exact ⟨.normal, T, M, h, Nat.le_refl _, fun Pr G φ κ a w Q hm ht hQ => ⟨wp_skip (hQ φ κ a w (Ext.refl _ _) hm ht), fun d hd => by cases hd⟩⟩
  · exact ⟨.normal, T, M, h, Nat.le_refl _, fun Pr G φ κ a w Q hm ht hQ => ⟨wp_label (hQ φ κ a w (Ext.refl _ _) hm ht), fun d hd => by cases hd⟩⟩
  · -- seq
    rename_i x y
    obtain ⟨ex, T1, M1, h1, h2, h3⟩ := hi _ _ _ _ _ h
    cases ex with
    | normal =>
      obtain ⟨ex2, T2, M2, h4, h5, h6⟩ := hi _ _ _ _ _ h1
      refine ⟨ex2, T2, M2, h4, Nat.le_trans h2 h5, fun Pr G φ κ a w Q hm ht hQ => ⟨wp_seq (h3 Pr G φ κ a w _ hm ht fun φ' κ' a' w' he hm' ht' => ?_).1, fun d hd => by cases hd⟩⟩
      exact (h6 Pr G φ' κ' a' w' Q hm' ht' fun φ2 κ2 a2 w2 he2 => hQ φ2 κ2 a2 w2 (he.trans he2)).1
    | exit id =>
      exact ⟨_, T1, M1, h1, h2, fun Pr G φ κ a w Q hm ht hQ => ⟨wp_seq (h3 Pr G φ κ a w (Exit.then (y.wp E.P Q) Q) hm ht (fun φ' κ' a' w' he hm' ht' => hQ φ' κ' a' w' he hm' ht')).1, fun d hd => by cases hd⟩⟩
    | ret =>
      exact ⟨_, T1, M1, h1, h2, fun Pr G φ κ a w Q hm ht hQ => ⟨wp_seq (h3 Pr G φ κ a w (Exit.then (y.wp E.P Q) Q) hm ht (fun φ' κ' a' w' he hm' ht' => hQ φ' κ' a' w' he hm' ht')).1, fun d hd => by cases hd⟩⟩
  · -- cond
    rename_i x y z
    obtain ⟨u, h1, h2⟩ := evalK_sound h
    have hu : ∀ φ κ a, TRel φ κ N T a → VRel φ κ u (a.eval x) := fun φ κ a ht => ht.ops [x] x (by simp) u h2
    split at h1
    · obtain ⟨ex, T1, M1, h3, h4, h5⟩ := hi _ _ _ _ _ h1
      refine ⟨ex, T1, M1, h3, h4, fun Pr G φ κ a w Q hm ht hQ => ⟨wp_cond_true ?_ (h5 Pr G φ κ a w Q hm ht hQ).1, fun d hd => by cases hd⟩⟩
      have := hu φ κ a ht
      simpa only [VRel] using this
    · obtain ⟨ex, T1, M1, h3, h4, h5⟩ := hi _ _ _ _ _ h1
      refine ⟨ex, T1, M1, h3, h4, fun Pr G φ κ a w Q hm ht hQ => ⟨wp_cond_false ?_ (h5 Pr G φ κ a w Q hm ht hQ).1, fun d hd => by cases hd⟩⟩
      have := hu φ κ a ht
      simpa only [VRel] using this
    · cases h1
  · -- block
    rename_i id x
    obtain ⟨ex, T1, M1, h1, h2, h3⟩ := hi _ _ _ _ _ h
    cases ex with
    | normal => exact ⟨_, T1, M1, h1, h2, fun Pr G φ κ a w Q hm ht hQ => ⟨wp_block (h3 Pr G φ κ a w (Exit.inBlock id Q) hm ht (fun φ' κ' a' w' he hm' ht' => hQ φ' κ' a' w' he hm' ht')).1, fun d hd => by cases hd⟩⟩
    | ret => exact ⟨_, T1, M1, h1, h2, fun Pr G φ κ a w Q hm ht hQ => ⟨wp_block (h3 Pr G φ κ a w (Exit.inBlock id Q) hm ht (fun φ' κ' a' w' he hm' ht' => hQ φ' κ' a' w' he hm' ht')).1, fun d hd => by cases hd⟩⟩
    | exit j =>
      simp only at h1
      cases hj : Nat.beq j id
      · rw [hj] at h1
        have hne : j ≠ id := fun e => by subst e; simp at hj
        refine ⟨_, T1, M1, h1, h2, fun Pr G φ κ a w Q hm ht hQ => ⟨wp_block (h3 Pr G φ κ a w _ hm ht fun φ' κ' a' w' he hm' ht' => ?_).1, fun d hd => by cases hd⟩⟩
        simp only [exitOf, Exit.inBlock, if_neg hne]
        exact hQ φ' κ' a' w' he hm' ht'
      · rw [hj] at h1
        have hje := Nat.eq_of_beq_eq_true hj
        refine ⟨_, T1, M1, h1, h2, fun Pr G φ κ a w Q hm ht hQ => ⟨wp_block (h3 Pr G φ κ a w _ hm ht fun φ' κ' a' w' he hm' ht' => ?_).1, fun d hd => by cases hd⟩⟩
        simp only [exitOf, Exit.inBlock, if_pos hje]
        exact hQ φ' κ' a' w' he hm' ht'
  · -- loop
    rename_i x
    obtain ⟨ex, T1, M1, h1, h2, h3⟩ := hi _ _ _ _ _ h
    have both : ∀ {ex : AEx} {T' : Tr AV} {M' : Mem}, (∀ Pr G φ κ a w Q, MRel X Pr G φ κ M.get M.next w → TRel φ κ N T a →
        (∀ φ' κ' a' w', Ext φ κ φ' κ' → MRel X Pr G φ' κ' M'.get M'.next w' → TRel φ' κ' N T' a' → Q (exitOf ex) a' w') → x.wp E.P (Exit.then (LoopWp E.P x Q) Q) a w) →
        ∀ Pr G φ κ a w Q, MRel X Pr G φ κ M.get M.next w → TRel φ κ N T a →
        (∀ φ' κ' a' w', Ext φ κ φ' κ' → MRel X Pr G φ' κ' M'.get M'.next w' → TRel φ' κ' N T' a' → Q (exitOf ex) a' w') → CodeWp E.P (.loop x) Q a w := by
      intro ex T' M' H Pr G φ κ a w Q hm ht hQ
      have := H Pr G φ κ a w Q hm ht hQ
      exact ⟨loop_wp this, fun d hd => by cases hd; exact loop_in this⟩
    cases ex with
    | normal =>
      obtain ⟨ex2, T2, M2, h4, h5, h6⟩ := hi _ _ _ _ _ h1
      refine ⟨ex2, T2, M2, h4, Nat.le_trans h2 h5, both fun Pr G φ κ a w Q hm ht hQ => (h3 Pr G φ κ a w _ hm ht fun φ' κ' a' w' he hm' ht' => ?_).1⟩
      exact (h6 Pr G φ' κ' a' w' Q hm' ht' fun φ2 κ2 a2 w2 he2 => hQ φ2 κ2 a2 w2 (he.trans he2)).2 x rfl
    | exit id => exact ⟨_, T1, M1, h1, h2, both fun Pr G φ κ a w Q hm ht hQ => (h3 Pr G φ κ a w (Exit.then (LoopWp E.P x Q) Q) hm ht (fun φ' κ' a' w' he hm' ht' => hQ φ' κ' a' w' he hm' ht')).1⟩
    | ret => exact ⟨_, T1, M1, h1, h2, both fun Pr G φ κ a w Q hm ht hQ => (h3 Pr G φ κ a w (Exit.then (LoopWp E.P x Q) Q) hm ht (fun φ' κ' a' w' he hm' ht' => hQ φ' κ' a' w' he hm' ht')).1⟩
  · -- exit
    rw [forceN_eq] at h
    exact ⟨_, T, M, h, Nat.le_refl _, fun Pr G φ κ a w Q hm ht hQ => ⟨wp_exit (hQ φ κ a w (Ext.refl _ _) hm ht), fun d hd => by cases hd⟩⟩
  · exact ⟨_, T, M, h, Nat.le_refl _, fun Pr G φ κ a w Q hm ht hQ => ⟨wp_ret (hQ φ κ a w (Ext.refl _ _) hm ht), fun d hd => by cases hd⟩⟩
  · -- region
    rename_i id ops d
    have hc := callStep_sound hE hX hi
    cases d
    · simp only [cond_false] at h
      obtain ⟨T', M', h1, h2, h3⟩ := opsK_sound hE hc h
      exact ⟨_, T', M', h1, h2, fun Pr G φ κ a w Q hm ht hQ => ⟨wp_region_list (h3 Pr G φ κ a w Q hm ht hQ), fun d hd => by cases hd⟩⟩
    · simp only [cond_true] at h
      obtain ⟨T', M', h1, h2, h3⟩ := hD _ hc _ _ _ _ _ h
      exact ⟨_, T', M', h1, h2, fun Pr G φ κ a w Q hm ht hQ => ⟨h3 Pr G φ κ a w Q id hm ht hQ, fun d hd => by cases hd⟩⟩
  · cases h
theorem codeK_sound (hE : EnvOK E X) (hX : ExtOK E) {dr : DrawK} (hD : DrawOK E X dr) : ∀ n, CodeAll E X (codeK E dr n)
  | 0 => fun c N T M k h => by rw [codeK_zero] at h; cases h
  | n + 1 => fun c N T M k h => by
    rw [codeK_succ] at h
    exact codeStep_sound hE hX hD (codeK_sound hE hX hD n) c N T M k h
theorem callK_sound (hE : EnvOK E X) (hX : ExtOK E) {dr : DrawK} (hD : DrawOK E X dr) (n : Nat) : CallOK E X (callK E dr n) := callStep_sound hE hX (codeK_sound hE hX hD n)
end Go.Ev
