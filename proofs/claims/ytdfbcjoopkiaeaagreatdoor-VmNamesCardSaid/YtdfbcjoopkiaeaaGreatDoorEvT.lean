/-
  A reckoner for the program's form over abstract values and memory, run by the kernel, and its proof: if it answers, the form's own run answers so, whatever the tape. Part EvT. No condition.
-/
import Derived.Test.YtdfbcjoopkiaeaaGreatDoorEvS
noncomputable section
namespace Go.Ev

variable {X : Fix} {Pr : Nat → Option Obj} {G : Nat → Option Blk} {φ : Nat → Option Nat} {κ : Nat → Nat} {m : Nat → Option Blk} {nx : Nat} {w : World} {E : Env}

/-- What an operation's run leads to. -/
def Does (P : Program) (r : Result Next) (Post : Value → World → Prop) : Prop := match r with
  | .ok (.value v) w' => Post v w'
  | .ok .skip w' => Post undef w'
  | .ok (.enter f args) w' => Calls P f args w' fun e w'' => ∃ v, e = .returned v ∧ Post v w''
  | _ => False
theorem Does.upon {P : Program} {r : Result Next} {Post : Value → World → Prop} (h : Does P r Post) (o : Oper) (a : Act) {next : Act → World → Prop} {Q : Exit → Act → World → Prop}
    (hn : ∀ v w', Post v w' → next (a.put o.dst v) w') : o.upon P a next Q r := by
  unfold Does at h
  split at h
  · exact hn _ _ h
  · exact hn _ _ h
  · rw [Oper.upon_enter]
    refine Calls.mono h fun e w'' he => ?_
    obtain ⟨v, rfl, hv⟩ := he
    exact hn _ _ hv
  · exact h.elim
theorem Does.mono {P : Program} {r : Result Next} {Post Post' : Value → World → Prop} (h : Does P r Post) (hn : ∀ v w', Post v w' → Post' v w') : Does P r Post' := by
  unfold Does at h ⊢
  split at h
  · exact hn _ _ h
  · exact hn _ _ h
  · refine Calls.mono h fun e w'' he => ?_
    obtain ⟨v, rfl, hv⟩ := he
    exact ⟨v, rfl, hn _ _ hv⟩
  · exact h.elim
def After (X : Fix) (Pr : Nat → Option Obj) (G : Nat → Option Blk) (φ : Nat → Option Nat) (κ : Nat → Nat) (M : Mem) (v : AV) (x : Value) (w : World) : Prop :=
  ∃ φ' κ', Ext φ κ φ' κ' ∧ MRel X Pr G φ' κ' M.get M.next w ∧ VRel φ' κ' v x
theorem does_val {P : Program} {s : Sem Value} {x : Value} {w' : World} {v : AV} {M : Mem} {φ' : Nat → Option Nat} {κ' : Nat → Nat} (h : s.run P w = .ok x w') (he : Ext φ κ φ' κ') (hm : MRel X Pr G φ' κ' M.get M.next w') (hv : VRel φ' κ' v x) :
    Does P ((do pure (Next.value (← s)) : Sem Next).run P w) (After X Pr G φ κ M v) := by
  rw [run_val h]
  exact ⟨φ', κ', he, hm, hv⟩
theorem does_unit {P : Program} {s : Sem Unit} {w' : World} {M : Mem} (h : s.run P w = .ok () w') (hm : MRel X Pr G φ κ M.get M.next w') :
    Does P ((do s; pure Next.skip : Sem Next).run P w) (After X Pr G φ κ M (.tup [])) := by
  simp only [Sem.run_bind, h, Result.andThen_ok, Sem.run_pure]
  exact ⟨φ, κ, Ext.refl _ _, hm, by simp only [VRel]; exact ⟨#[], rfl, LRel.nil⟩⟩
/-- What a call of a function is to do. -/
def CallOK (E : Env) (X : Fix) (call : CallK) : Prop := ∀ f args M k, call f args M k = true → ∃ v M', k v M' = true ∧ M.next ≤ M'.next ∧
  ∀ Pr G φ κ w xs, MRel X Pr G φ κ M.get M.next w → LRel φ κ args xs → Does E.P ((callFunc f xs.toArray).run E.P w) (After X Pr G φ κ M' v)

theorem typeAssertK_sound (hE : EnvOK E X) {a : AV} {t : Nat} {ok : Bool} {k : K1} (h : typeAssertK E a t ok k = true) :
    ∃ v, k v = true ∧ ∀ φ κ w y u, VRel φ κ a y → ∃ x, (Instr.typeAssert y u t ok).run E.P w = .ok x w ∧ VRel φ κ v x := by
  unfold typeAssertK at h
  obtain ⟨ti, i, d, z, h1, hti⟩ := tyK_sound hE h
  have htd := hti.td
  clear h
  have hd : ∀ ms, d ≠ .interface ms := by
    intro ms he
    subst he
    split at h1
    · cases h1
    · cases h1
    · rename_i h2 h3
      cases hd : ti.d with
      | iface => exact h2 hd
      | other => exact h3 hd
      | _ =>
        rw [hd] at htd
        simp [TDRel] at htd
  have h2 : (match (generalizing := false) a with
    | .iface u v => cond (Nat.beq u t) (cond ok (k (.tup [v, .bool true])) (k v)) false
    | _ => false) = true := by
    split at h1
    · cases h1
    · cases h1
    · exact h1
  clear h1
  split at h2
  · rename_i u v
    cases hu : Nat.beq u t
    · rw [hu] at h2; cases h2
    · rw [hu] at h2
      have hu := Nat.eq_of_beq_eq_true hu
      subst hu
      simp only [cond_true] at h2
      cases ok
      · refine ⟨v, h2, fun φ κ w y u' hy => ?_⟩
        simp only [VRel] at hy
        obtain ⟨y, rfl, hy⟩ := hy
        refine ⟨y, ?_, hy⟩
        simp only [Instr.typeAssert, Sem.run_bind, hti.run_und, Result.andThen_ok]
        cases d <;> first | exact absurd rfl (hd _) | simp
      · refine ⟨_, h2, fun φ κ w y u' hy => ?_⟩
        simp only [VRel] at hy
        obtain ⟨y, rfl, hy⟩ := hy
        refine ⟨.tuple #[y, .bool true], ?_, ?_⟩
        · simp only [Instr.typeAssert, Sem.run_bind, hti.run_und, Result.andThen_ok]
          cases d <;> first | exact absurd rfl (hd _) | simp
        · simp only [VRel]
          exact ⟨_, rfl, LRel.cons hy (LRel.cons (by simp only [VRel]) LRel.nil)⟩
  · cases h2
theorem extractK_sound {a : AV} {i : Nat} {k : K1} (h : extractK a i k = true) :
    ∃ v, k v = true ∧ ∀ P φ κ w y, VRel φ κ a y → ∃ x, (Instr.extract y i).run P w = .ok x w ∧ VRel φ κ v x := by
  unfold extractK at h
  split at h
  · rename_i vs
    obtain ⟨v, h1, h2⟩ := nthK_sound h
    refine ⟨v, h2, fun P φ κ w y hy => ?_⟩
    simp only [VRel] at hy
    obtain ⟨l, rfl, hl⟩ := hy
    obtain ⟨x, hx, hv⟩ := hl.get i v h1
    have hx' : l[i]? = some x := by rw [← hx, Array.getElem?_toList]
    exact ⟨x, by simp [Instr.extract, hx'], hv⟩
  · cases h
theorem findMeth_cons (m : Method) (l : List Method) (name : String) (k : Nat → Bool → Bool) : findMeth (m :: l) name k =
    cond (m.name == name) (match m.path.isEmpty, m.func with | true, some (f, p) => forceN f fun f => forceB p fun p => k f p | _, _ => false) (findMeth l name k) := rfl
theorem findMeth_sound {name : String} {k : Nat → Bool → Bool} : ∀ {l : List Method}, findMeth l name k = true →
    ∃ m f p, l.find? (·.name == name) = some m ∧ m.path.isEmpty = true ∧ m.func = some (f, p) ∧ k f p = true
  | [], h => by cases h
  | m :: l, h => by
    rw [findMeth_cons] at h
    cases hn : m.name == name
    · rw [hn] at h
      obtain ⟨m', f, p, h1, h2⟩ := findMeth_sound (l := l) h
      exact ⟨m', f, p, by simp [hn, h1], h2⟩
    · rw [hn] at h
      simp only [cond_true] at h
      split at h
      · rename_i f p h1 h2
        rw [forceN_eq, forceB_eq] at h
        exact ⟨m, f, p, by simp [hn], h1, h2, h⟩
      · cases h
theorem isEmpty_toList {α : Type} {a : Array α} (h : a.isEmpty = true) : a.toList = [] := by
  have : a = #[] := by simpa using h
  simp [this]
theorem run_method {P : Program} {t : Nat} {v : Value} {name : String} {i : TypeInfo} {m : Method} {f : FuncId} {p : Bool} (hi : P.info? t = some i) (hm : i.methods.toList.find? (·.name == name) = some m)
    (hp : m.path.isEmpty = true) (hf : m.func = some (f, p)) {r : Value} {w w' : World} (hr : (receiverAt t (.val v) p (some ((name.splitOn ".").getLastD name))).run P w = .ok r w') (n : Nat) :
    (method (n + 1) t v name).run P w = .ok (f, r) w' := by
  have hti : (typeInfo t).run P w = .ok i w := by simp [typeInfo, hi]
  have hfi : i.methods.find? (·.name == name) = some m := by rw [← hm, Array.find?_toList]
  simp only [method, Sem.run_bind, hti, Result.andThen_ok, hfi, isEmpty_toList hp, follow, Sem.run_pure, hf, hp, if_true, hr]
theorem invokeK_sound (hE : EnvOK E X) {call : CallK} (hc : CallOK E X call) {r : AV} {name : String} {args : List AV} {M : Mem} {k : KM} (h : invokeK E call r name args M k = true) :
    ∃ v M', k v M' = true ∧ M.next ≤ M'.next ∧ ∀ Pr G φ κ w y xs, MRel X Pr G φ κ M.get M.next w → VRel φ κ r y → LRel φ κ args xs →
      Does E.P ((callMethod y name xs.toArray).run E.P w) (After X Pr G φ κ M' v) := by
  unfold invokeK at h
  split at h
  · rename_i t u
    split at h
    · rename_i i hi
      obtain ⟨m, f, p, h1, h2, h3, h4⟩ := findMeth_sound h
      obtain ⟨ti, i', d, z, h5, hti⟩ := tyK_sound hE h4
      have htd := hti.td
      have key : ∀ (w : World) (y x : Value) (xs : List Value), (receiverAt t (.val y) p (some ((name.splitOn ".").getLastD name))).run E.P w = .ok x w →
          (callMethod (.iface t y) name xs.toArray).run E.P w = (callFunc f (x :: xs).toArray).run E.P w := by
        intro w y x xs hr
        have := run_method (n := E.P.types.size + 99) hi h1 h2 h3 hr
        simp only [callMethod, Sem.run_bind, run_program, Result.andThen_ok]
        rw [show E.P.types.size + Made.depth = E.P.types.size + 99 + 1 from rfl, this]
        simp
      clear h h4
      split at h5
      · -- a pointer's method
        rename_i e hd
        rw [hd] at htd
        have htd' : d = .pointer e := htd
        subst htd'
        obtain ⟨v, M', h6, h7, h8⟩ := hc _ _ _ _ h5
        refine ⟨v, M', h6, h7, fun Pr G φ κ w y xs hm hy hx => ?_⟩
        simp only [VRel] at hy
        obtain ⟨y, rfl, hy⟩ := hy
        rw [key w y y xs (by simp only [receiverAt, Sem.run_bind, hti.run_und, Result.andThen_ok, Place.get, Sem.run_pure])]
        exact h8 Pr G φ κ w (y :: xs) hm (LRel.cons hy hx)
      · -- a value's method, through a pointer
        rename_i e hd
        rw [hd] at htd
        have htd' : d = .pointer e := htd
        subst htd'
        split at h5
        · rename_i b off
          obtain ⟨u, h6, h7⟩ := loadK_sound hE h5
          obtain ⟨v, M', h8, h9, h10⟩ := hc _ _ _ _ h6
          refine ⟨v, M', h8, h9, fun Pr G φ κ w y xs hm hy hx => ?_⟩
          simp only [VRel] at hy
          obtain ⟨y, rfl, hy⟩ := hy
          obtain ⟨x, h11, h12⟩ := h7 Pr G φ κ w y hm (by simp only [VRel]; exact hy)
          obtain ⟨c, hcc, rfl⟩ := hy
          have h13 : (loadVar e ⟨c, off, none⟩).run E.P w = .ok x w := h11
          have hr : (receiverAt t (.val (.pointer (some ⟨c, off, none⟩))) false (some ((name.splitOn ".").getLastD name))).run E.P w = .ok x w := by
            simp only [receiverAt, Sem.run_bind, hti.run_und, Result.andThen_ok, Place.get, Sem.run_pure]
            show Sem.run E.P (do loadVar e (← asAddr (← Builtin.ssaWrapNilChk_ #[t] t #[.pointer (some ⟨c, off, none⟩), strVal "", strVal ((name.splitOn ".").getLastD name)]))) w = _
            have hs : ∀ a b : String, (Builtin.ssaWrapNilChk_ #[t] t #[.pointer (some ⟨c, off, none⟩), strVal a, strVal b]).run E.P w = .ok (.pointer (some ⟨c, off, none⟩)) w := fun _ _ => rfl
            simp only [Sem.run_bind, hs, Result.andThen_ok, asAddr, Sem.run_pure, h13]
          rw [key w _ x xs hr]
          exact h10 Pr G φ κ w (x :: xs) hm (LRel.cons h12 hx)
        · cases h5
      · cases h5
      · rename_i h9 h10 h11
        obtain ⟨v, M', h6, h7, h8⟩ := hc _ _ _ _ h5
        refine ⟨v, M', h6, h7, fun Pr G φ κ w y xs hm hy hx => ?_⟩
        simp only [VRel] at hy
        obtain ⟨y, rfl, hy⟩ := hy
        have hne : ∀ e, d ≠ .pointer e := by
          intro e he
          subst he
          cases hd : ti.d with
          | other => exact h11 hd
          | pointer e => exact h10 e hd
          | _ =>
            rw [hd] at htd
            simp [TDRel] at htd
        have hr : (receiverAt t (.val y) false (some ((name.splitOn ".").getLastD name))).run E.P w = .ok y w := by
          simp only [receiverAt, Sem.run_bind, hti.run_und, Result.andThen_ok]
          cases d <;> first | exact absurd rfl (hne _) | simp [Place.get]
        rw [key w y y xs hr]
        exact h8 Pr G φ κ w (y :: xs) hm (LRel.cons hy hx)
      · cases h5
    · cases h
  · cases h
end Go.Ev
