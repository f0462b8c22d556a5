/-
  A reckoner for the program's form over abstract values and memory, run by the kernel, and its proof: if it answers, the form's own run answers so, whatever the tape. Part EvX. No condition.
-/
import Derived.Test.YtdfbcjoopkiaeaaGreatDoorEvW
noncomputable section
namespace Go.Ev

variable {X : Fix} {Pr : Nat → Option Obj} {G : Nat → Option Blk} {φ : Nat → Option Nat} {κ : Nat → Nat} {m : Nat → Option Blk} {nx : Nat} {w : World} {E : Env}

/-! ## Drawn regions: the operations that change nothing -/
def readK (E : Env) (T : Tr AV) (o : Oper) (M : Mem) (k : K1) : Bool := match o.op with
  | .move x => evalK T x fun v => k v
  | .assign x => evalK T x fun v => k v
  | .pick c a b => evalK T c fun c => (match c with | .bool true => evalK T a fun v => k v | .bool false => evalK T b fun v => k v | _ => false)
  | .build t ps => evalPartsK T ps.toList fun ps => buildK E t ps fun v => k v
  | .load t a => evalK T a fun a => loadK E t a M fun v => k v
  | .nilCheck x => evalK T x fun v => (match v with | .ptr _ _ => k v | .gptr _ _ => k v | _ => false)
  | .binOp op t x0 y0 _ => evalK T x0 fun x => evalK T y0 fun y => binK E op (isC x0 || isC y0) t x y fun v => k v
  | .unOp op _ x => evalK T x fun x => unK op x fun v => k v
  | .convert s d x => evalK T x fun x => convertK E s d x M fun v _ => k v
  | .makeInterface t x => tyK E t fun ti => (match ti.d with | .iface => false | .other => false | _ => forceN t fun t => evalK T x fun x => k (.iface t x))
  | .makeFunc fn first cap => evalsK T first.toList fun first => evalsK T cap.toList fun cap => k (.func fn first cap)
  | .slice t x lo hi mx => evalK T x fun x => optEvalK T lo fun lo => optEvalK T hi fun hi => optEvalK T mx fun mx => sliceK E t x lo hi mx fun v => k v
  | .fieldAddr t x f => evalK T x fun x => fieldAddrK E t x f fun v => k v
  | .field t x f => evalK T x fun x => fieldK E t x f fun v => k v
  | .indexAddr t x i => evalK T x fun x => evalK T i fun i => indexAddrK E t x i fun v => k v
  | .index t x i => evalK T x fun x => evalK T i fun i => indexK E t x i fun v => k v
  | .typeAssert x _ t ok => evalK T x fun x => typeAssertK E x t ok fun v => k v
  | .extract x i => evalK T x fun x => extractK x i fun v => k v
  | .call c => (match c.callee with
    | .builtin .len => evalsK T c.args.toList fun args => (match c.argTypes.toList, args with | t :: _, [x] => tyK E t fun ti => lenOpK ti.d x fun v => k v | _, _ => false)
    | .builtin .cap => evalsK T c.args.toList fun args => (match c.argTypes.toList, args with | t :: _, [x] => tyK E t fun ti => capOpK ti.d x fun v => k v | _, _ => false)
    | .builtin .unsafeSliceData => evalsK T c.args.toList fun args => (match args with | [x] => usliceK x fun v => k v | _ => false)
    | _ => false)
  | _ => false
theorem readK_sound (hE : EnvOK E X) {T : Tr AV} {o : Oper} {M : Mem} {k : K1} (h : readK E T o M k = true) :
    ∃ v, k v = true ∧ ∀ Pr G φ κ ρ w, MRel X Pr G φ κ M.get M.next w → Ops φ κ T ρ o.op.operands.toList →
      ∃ x, (execOp ρ o).run E.P w = .ok (.value x) w ∧ VRel φ κ v x := by
  unfold readK at h
  split at h
  · rename_i x hop
    obtain ⟨v, h1, h2⟩ := evalK_sound h
    refine ⟨v, h1, fun Pr G φ κ ρ w hm ho => ?_⟩
    rw [hop] at ho
    simp only [execOp, hop]
    exact ⟨_, rfl, ho x (by simp [Op.operands]) v h2⟩
  · rename_i x hop
    obtain ⟨v, h1, h2⟩ := evalK_sound h
    refine ⟨v, h1, fun Pr G φ κ ρ w hm ho => ?_⟩
    rw [hop] at ho
    simp only [execOp, hop]
    exact ⟨_, rfl, ho x (by simp [Op.operands]) v h2⟩
  · rename_i c a b hop
    obtain ⟨u, h1, h2⟩ := evalK_sound h
    split at h1
    · obtain ⟨v, h3, h4⟩ := evalK_sound h1
      refine ⟨v, h3, fun Pr G φ κ ρ w hm ho => ?_⟩
      rw [hop] at ho
      have hcc := ho c (by simp [Op.operands]) _ h2
      simp only [VRel] at hcc
      simp only [execOp, hop, hcc, asBool]
      exact ⟨_, rfl, ho a (by simp [Op.operands]) v h4⟩
    · obtain ⟨v, h3, h4⟩ := evalK_sound h1
      refine ⟨v, h3, fun Pr G φ κ ρ w hm ho => ?_⟩
      rw [hop] at ho
      have hcc := ho c (by simp [Op.operands]) _ h2
      simp only [VRel] at hcc
      simp only [execOp, hop, hcc, asBool]
      exact ⟨_, rfl, ho b (by simp [Op.operands]) v h4⟩
    · cases h1
  · -- build
    rename_i t ps hop
    obtain ⟨us, h1, h2⟩ := evalPartsK_sound h
    obtain ⟨v, h3, h4⟩ := buildK_sound hE h1
    refine ⟨v, h3, fun Pr G φ κ ρ w hm ho => ?_⟩
    rw [hop] at ho
    obtain ⟨x, h5, h6⟩ := h4 φ κ w _ (h2 φ κ ρ (by simpa [Op.operands] using ho))
    simp only [execOp, hop, map_list]
    exact ⟨_, run_val h5, h6⟩
  · -- load
    rename_i t a hop
    obtain ⟨u, h1, h2⟩ := evalK_sound h
    obtain ⟨v, h3, h4⟩ := loadK_sound hE h1
    refine ⟨v, h3, fun Pr G φ κ ρ w hm ho => ?_⟩
    rw [hop] at ho
    obtain ⟨x, h5, h6⟩ := h4 Pr G φ κ w _ hm (ho a (by simp [Op.operands]) u h2)
    simp only [execOp, hop]
    exact ⟨_, run_val h5, h6⟩
  · -- nilCheck
    rename_i x hop
    obtain ⟨u, h1, h2⟩ := evalK_sound h
    split at h1
    · refine ⟨_, h1, fun Pr G φ κ ρ w hm ho => ?_⟩
      rw [hop] at ho
      have hx := ho x (by simp [Op.operands]) _ h2
      have hx' := hx
      simp only [VRel] at hx
      obtain ⟨c, _, hx⟩ := hx
      rw [hx] at hx'
      simp only [execOp, hop, hx]
      exact ⟨_, rfl, hx'⟩
    · refine ⟨_, h1, fun Pr G φ κ ρ w hm ho => ?_⟩
      rw [hop] at ho
      have hx := ho x (by simp [Op.operands]) _ h2
      have hx' := hx
      simp only [VRel] at hx
      rw [hx] at hx'
      simp only [execOp, hop, hx]
      exact ⟨_, rfl, hx'⟩
    · cases h1
  · -- binOp
    rename_i op t x y b hop
    obtain ⟨u, h1, h2⟩ := evalK_sound h
    obtain ⟨v, h3, h4⟩ := evalK_sound h1
    obtain ⟨r, h5, h6⟩ := binK_sound hE h3
    refine ⟨r, h5, fun Pr G φ κ ρ w hm ho => ?_⟩
    rw [hop] at ho
    obtain ⟨z, h7, h8⟩ := h6 φ κ w _ _ (ho x (by simp [Op.operands]) u h2) (ho y (by simp [Op.operands]) v h4)
    simp only [execOp, hop]
    exact ⟨_, run_val h7, h8⟩
  · -- unOp
    rename_i op t x hop
    obtain ⟨u, h1, h2⟩ := evalK_sound h
    obtain ⟨r, h5, h6⟩ := unK_sound h1
    refine ⟨r, h5, fun Pr G φ κ ρ w hm ho => ?_⟩
    rw [hop] at ho
    obtain ⟨z, h7, h8⟩ := h6 E.P φ κ w _ (ho x (by simp [Op.operands]) u h2)
    simp only [execOp, hop]
    exact ⟨_, run_val h7, h8⟩
  · -- convert
    rename_i s d x hop
    obtain ⟨u, h1, h2⟩ := evalK_sound h
    obtain ⟨r, h5, h6⟩ := convertK_sound hE h1
    refine ⟨r, h5, fun Pr G φ κ ρ w hm ho => ?_⟩
    rw [hop] at ho
    obtain ⟨z, h7, h8⟩ := h6 Pr G φ κ w _ hm (ho x (by simp [Op.operands]) u h2)
    simp only [execOp, hop]
    exact ⟨_, run_val h7, h8⟩
  · -- makeInterface
    rename_i t x hop
    obtain ⟨ti, i, d, z, h1, hti⟩ := tyK_sound hE h
    have htd := hti.td
    have hd : ∀ ms, d ≠ .interface ms := by
      intro ms he
      subst he
      split at h1
      · cases h1
      · cases h1
      · rename_i h2 h3
        cases hd : ti.d with
        | iface => exact h2 hd
        | other => exact h3 hd
        | _ =>
          rw [hd] at htd
          simp [TDRel] at htd
    have h2 : (forceN t fun t => evalK T x fun x => k (.iface t x)) = true := by
      split at h1
      · cases h1
      · cases h1
      · exact h1
    rw [forceN_eq] at h2
    obtain ⟨u, h3, h4⟩ := evalK_sound h2
    refine ⟨_, h3, fun Pr G φ κ ρ w hm ho => ?_⟩
    rw [hop] at ho
    have hx := ho x (by simp [Op.operands]) _ h4
    simp only [execOp, hop]
    refine ⟨.iface t (ρ x), run_val ?_, (by simp only [VRel]; exact ⟨_, rfl, hx⟩)⟩
    simp only [Instr.makeInterface, Sem.run_bind, hti.run_und, Result.andThen_ok]
    cases d <;> first | exact absurd rfl (hd _) | rfl
  · -- makeFunc
    rename_i fn first cap hop
    obtain ⟨us, h1, h2⟩ := evalsK_sound h
    obtain ⟨vs, h3, h4⟩ := evalsK_sound h1
    refine ⟨_, h3, fun Pr G φ κ ρ w hm ho => ?_⟩
    rw [hop] at ho
    have hf := h2 φ κ ρ fun y hy => ho y (by simp [Op.operands]; exact .inl (by simpa using hy))
    have hg := h4 φ κ ρ fun y hy => ho y (by simp [Op.operands]; exact .inr (by simpa using hy))
    simp only [execOp, hop]
    refine ⟨.func fn (first.map ρ) (cap.map ρ), run_val rfl, ?_⟩
    simp only [VRel]
    exact ⟨_, _, rfl, by simpa using hf, by simpa using hg⟩
  · -- slice
    rename_i t x lo hi mx hop
    obtain ⟨u, h1, h2⟩ := evalK_sound h
    obtain ⟨ulo, h3, h4⟩ := optEvalK_sound h1
    obtain ⟨uhi, h5, h6⟩ := optEvalK_sound h3
    obtain ⟨umx, h7, h8⟩ := optEvalK_sound h5
    obtain ⟨r, h9, h10⟩ := sliceK_sound hE h7
    refine ⟨r, h9, fun Pr G φ κ ρ w hm ho => ?_⟩
    rw [hop] at ho
    have a1 := h4 φ κ ρ fun y hy => ho y (by simp only [Op.operands, Array.toList_append, List.mem_append]; exact .inl (.inl (.inr (by simpa using hy))))
    have a2 := h6 φ κ ρ fun y hy => ho y (by simp only [Op.operands, Array.toList_append, List.mem_append]; exact .inl (.inr (by simpa using hy)))
    have a3 := h8 φ κ ρ fun y hy => ho y (by simp only [Op.operands, Array.toList_append, List.mem_append]; exact .inr (by simpa using hy))
    obtain ⟨z, h11, h12⟩ := h10 φ κ w _ _ _ _ (ho x (by simp [Op.operands]) u h2) (optRel a1) (optRel a2) (optRel a3)
    simp only [execOp, hop]
    exact ⟨_, run_val h11, h12⟩
  · -- fieldAddr
    rename_i t x f hop
    obtain ⟨u, h1, h2⟩ := evalK_sound h
    obtain ⟨r, h5, h6⟩ := fieldAddrK_sound hE h1
    refine ⟨r, h5, fun Pr G φ κ ρ w hm ho => ?_⟩
    rw [hop] at ho
    obtain ⟨z, h7, h8⟩ := h6 φ κ w _ (ho x (by simp [Op.operands]) u h2)
    simp only [execOp, hop]
    exact ⟨_, run_val h7, h8⟩
  · -- field
    rename_i t x f hop
    obtain ⟨u, h1, h2⟩ := evalK_sound h
    obtain ⟨r, h5, h6⟩ := fieldK_sound hE h1
    refine ⟨r, h5, fun Pr G φ κ ρ w hm ho => ?_⟩
    rw [hop] at ho
    obtain ⟨z, h7, h8⟩ := h6 φ κ w _ (ho x (by simp [Op.operands]) u h2)
    simp only [execOp, hop]
    exact ⟨_, run_val h7, h8⟩
  · -- indexAddr
    rename_i t x y hop
    obtain ⟨u, h1, h2⟩ := evalK_sound h
    obtain ⟨v, h3, h4⟩ := evalK_sound h1
    obtain ⟨r, h5, h6⟩ := indexAddrK_sound hE h3
    refine ⟨r, h5, fun Pr G φ κ ρ w hm ho => ?_⟩
    rw [hop] at ho
    obtain ⟨z, h7, h8⟩ := h6 φ κ w _ _ (ho x (by simp [Op.operands]) u h2) (ho y (by simp [Op.operands]) v h4)
    simp only [execOp, hop]
    exact ⟨_, run_val h7, h8⟩
  · -- index
    rename_i t x y hop
    obtain ⟨u, h1, h2⟩ := evalK_sound h
    obtain ⟨v, h3, h4⟩ := evalK_sound h1
    obtain ⟨r, h5, h6⟩ := indexK_sound hE h3
    refine ⟨r, h5, fun Pr G φ κ ρ w hm ho => ?_⟩
    rw [hop] at ho
    obtain ⟨z, h7, h8⟩ := h6 φ κ w _ _ (ho x (by simp [Op.operands]) u h2) (ho y (by simp [Op.operands]) v h4)
    simp only [execOp, hop]
    exact ⟨_, run_val h7, h8⟩
  · -- typeAssert
    rename_i x xt t ok hop
    obtain ⟨u, h1, h2⟩ := evalK_sound h
    obtain ⟨r, h5, h6⟩ := typeAssertK_sound hE h1
    refine ⟨r, h5, fun Pr G φ κ ρ w hm ho => ?_⟩
    rw [hop] at ho
    obtain ⟨z, h7, h8⟩ := h6 φ κ w _ xt (ho x (by simp [Op.operands]) u h2)
    simp only [execOp, hop]
    exact ⟨_, run_val h7, h8⟩
  · -- extract
    rename_i x i hop
    obtain ⟨u, h1, h2⟩ := evalK_sound h
    obtain ⟨r, h5, h6⟩ := extractK_sound h1
    refine ⟨r, h5, fun Pr G φ κ ρ w hm ho => ?_⟩
    rw [hop] at ho
    obtain ⟨z, h7, h8⟩ := h6 E.P φ κ w _ (ho x (by simp [Op.operands]) u h2)
    simp only [execOp, hop]
    exact ⟨_, run_val h7, h8⟩
  · -- len, cap, unsafe.SliceData
    rename_i c hop
    have hargs : ∀ us, (∀ φ κ ρ, Ops φ κ T ρ c.args.toList → LRel φ κ us (c.args.toList.map ρ)) → ∀ φ κ ρ, Ops φ κ T ρ o.op.operands.toList → LRel φ κ us (c.args.toList.map ρ) := fun us h2 φ κ ρ ho => h2 φ κ ρ fun y hy => ho y (by
      rw [hop]
      simp only [Op.operands, Call.operands, Array.toList_append, List.mem_append]
      exact .inr hy)
    have hts : ∀ {t : TypeId} {l : List TypeId}, c.argTypes.toList = t :: l → c.argTypes[0]? = some t := fun {t l} e => by
      rw [← Array.getElem?_toList, e]; rfl
    have hmap : ∀ (ρ : Operand → Value) (x : Value), c.args.toList.map ρ = [x] → c.args.map ρ = #[x] := fun ρ x e => by
      rw [map_list, e]
    split at h
    · rename_i hcal
      obtain ⟨us, h1, h2⟩ := evalsK_sound h
      split at h1
      · rename_i t l x hat
        obtain ⟨ti, i, d, z, h3, hti⟩ := tyK_sound hE h1
        obtain ⟨v, h4, h5⟩ := lenOpK_sound hti h3
        refine ⟨v, h4, fun Pr G φ κ ρ w hm ho => ?_⟩
        obtain ⟨y, hy, hv⟩ := (hargs _ h2 φ κ ρ ho).one
        obtain ⟨r, h6, h7⟩ := h5 φ κ w y o.type hv _ (hts hat)
        refine ⟨r, ?_, h7⟩
        simp only [execOp, hop, resolve, hcal, Sem.run_bind, Sem.run_pure, Result.andThen_ok, invoke, hmap ρ y hy]
        exact run_val h6
      · cases h1
    · rename_i hcal
      obtain ⟨us, h1, h2⟩ := evalsK_sound h
      split at h1
      · rename_i t l x hat
        obtain ⟨ti, i, d, z, h3, hti⟩ := tyK_sound hE h1
        obtain ⟨v, h4, h5⟩ := capOpK_sound hti h3
        refine ⟨v, h4, fun Pr G φ κ ρ w hm ho => ?_⟩
        obtain ⟨y, hy, hv⟩ := (hargs _ h2 φ κ ρ ho).one
        obtain ⟨r, h6, h7⟩ := h5 φ κ w y o.type hv _ (hts hat)
        refine ⟨r, ?_, h7⟩
        simp only [execOp, hop, resolve, hcal, Sem.run_bind, Sem.run_pure, Result.andThen_ok, invoke, hmap ρ y hy]
        exact run_val h6
      · cases h1
    · rename_i hcal
      obtain ⟨us, h1, h2⟩ := evalsK_sound h
      split at h1
      · obtain ⟨v, h4, h5⟩ := usliceK_sound h1
        refine ⟨v, h4, fun Pr G φ κ ρ w hm ho => ?_⟩
        obtain ⟨y, hy, hv⟩ := (hargs _ h2 φ κ ρ ho).one
        obtain ⟨r, h6, h7⟩ := h5 φ κ E.P w y c.argTypes o.type hv
        refine ⟨r, ?_, h7⟩
        simp only [execOp, hop, resolve, hcal, Sem.run_bind, Sem.run_pure, Result.andThen_ok, invoke, hmap ρ y hy]
        exact run_val h6
      · cases h1
    · cases h
  · cases h
/-! ### the operations that make one row -/
def rowSliceK (E : Env) (t len : Nat) (ps : List (Nat × AV)) (b : Nat) (k : AV → Nat → List AV → Bool) : Bool := tyK E t fun ti => match ti.d with
  | .slice e => tyK E e fun te => guardB (Nat.ble 1 te.size) (guardB (Nat.ble (len * te.size) 16777216) (forceN len fun len => repK te.zero len fun cells =>
      fillK (fun i k => forceN (i * te.size) fun o => k o te.size) cells ps fun l => k (.slice b 0 len (.k len)) e l))
  | _ => false
def rowMakeK (E : Env) (t : Nat) (len cap : AV) (b : Nat) (k : AV → Nat → Nat → List AV → Bool) : Bool := tyK E t fun ti => match ti.d, len, cap with
  | .slice e, .int _ (.ofNat l), .int _ (.ofNat c) => tyK E e fun te =>
      guardB (Nat.ble l c) (guardB (Nat.ble c 4294967296) (guardB (Nat.ble te.bytes 65536) (guardB (Nat.ble 1 te.size) (forceN (c * te.size) fun n => forceN l fun l => forceN c fun c =>
        k (.slice b 0 l (.k c)) e n te.zero))))
  | _, _, _ => false
def allocK (E : Env) (T : Tr AV) (o : Oper) (b : Nat) (k : AV → Nat → Nat → List AV → Bool) : Bool := match o.op with
  | .alloc e => tyK E e fun ti => lenK ti.zero fun n => k (.ptr b 0) e n ti.zero
  | .box e x => evalK T x fun v => lenK (cellsOf v) fun n => k (.ptr b 0) e n (cellsOf v)
  | .buildSlice t n ps => evalPartsK T ps.toList fun ps => rowSliceK E t n ps b fun v e l => lenK l fun n => k v e n l
  | .makeSlice t l c => evalK T l fun l => evalK T c fun c => rowMakeK E t l c b k
  | _ => false
theorem rowSliceK_sound (hE : EnvOK E X) {t len : Nat} {ps : List (Nat × AV)} {b : Nat} {k : AV → Nat → List AV → Bool} (h : rowSliceK E t len ps b k = true) :
    ∃ v e l, k v e l = true ∧ ∀ φ κ w qs, PRel φ κ ps qs →
      ∃ x ys, (Instr.buildSlice t len qs.toArray).run E.P w = .ok x (w.alloc (.cells ys e)) ∧ LRel φ κ l ys.toList ∧ ∀ φ' κ', φ' b = some w.heap.size → VRel φ' κ' v x := by
  unfold rowSliceK at h
  obtain ⟨ti, i, d, z, h1, hti⟩ := tyK_sound hE h
  have htd := hti.td
  split at h1
  · rename_i e hd
    rw [hd] at htd
    have htd' : d = .slice e := htd
    subst htd'
    obtain ⟨te, ie, de, ze, h2, hte⟩ := tyK_sound hE h1
    obtain ⟨h1s, h2⟩ := guardB_true h2
    obtain ⟨hb, h2⟩ := guardB_true h2
    have h1s := Nat.le_of_ble_eq_true h1s
    have hb := Nat.le_of_ble_eq_true hb
    rw [forceN_eq, repK_eq] at h2
    obtain ⟨l', h3, h4⟩ := fillK_sound (pc := fun i => some (i * te.size, te.size)) (fun i k hk => by rw [forceN_eq] at hk; exact ⟨_, _, rfl, hk⟩) h2
    refine ⟨_, e, l', h3, fun φ κ w qs hq => ?_⟩
    have fin : ∀ zz : Array Value, LRel φ κ (repL te.zero len) ((Array.range (len * te.size)).map (zz[· % zz.size]!)).toList →
        (len * te.size = 0 ∧ zz = #[] ∨ len * te.size ≠ 0 ∧ zz = ze.cells) →
        ∃ x ys, (Instr.buildSlice t len qs.toArray).run E.P w = .ok x (w.alloc (.cells ys e)) ∧ LRel φ κ l' ys.toList ∧ ∀ φ' κ', φ' b = some w.heap.size → VRel φ' κ' (.slice b 0 len (.k len)) x := by
      intro zz hcells hzz
      obtain ⟨ys, h8, h9⟩ := h4 φ κ _ qs hcells hq
      refine ⟨.slice (some ⟨w.heap.size, 0, none⟩) len len, ys, ?_, h9, ?_⟩
      · simp only [Instr.buildSlice, Sem.run_bind, hti.run_und, Result.andThen_ok, hte.run_size]
        rw [if_neg (by omega)]
        rcases hzz with ⟨h0, rfl⟩ | ⟨h0, rfl⟩
        · rw [if_pos h0]
          simp only [Sem.run_bind, Sem.run_pure, Result.andThen_ok]
          rw [h8]
          simp [Go.newRow]
        · rw [if_neg h0]
          simp only [Sem.run_bind, Sem.run_pure, Result.andThen_ok, hte.run_zero]
          rw [h8]
          simp [Go.newRow]
      · intro φ' κ' hb'
        simp only [VRel]; exact ⟨_, _, hb', rfl, rfl⟩
    by_cases h0 : len * te.size = 0
    · refine fin #[] ?_ (.inl ⟨h0, rfl⟩)
      have hl0 : len = 0 := (Nat.mul_eq_zero.1 h0).resolve_right (by omega)
      subst hl0
      simp [repL, LRel.nil]
    · exact fin ze.cells (rep_rel (hte.zrel φ κ) (by rw [hte.zlen]) (by rw [hte.zlen]; omega)) (.inr ⟨h0, rfl⟩)
  · cases h1
theorem rowMakeK_sound (hE : EnvOK E X) {t : Nat} {len cap : AV} {b : Nat} {k : AV → Nat → Nat → List AV → Bool} (h : rowMakeK E t len cap b k = true) :
    ∃ v e n l, k v e n l = true ∧ ∀ φ κ w y z, VRel φ κ len y → VRel φ κ cap z →
      ∃ x ys, (Instr.makeSlice t y z).run E.P w = .ok x (w.alloc (.cells ys e)) ∧ ys.size = n ∧ CRel φ κ n l .nil ys ∧ ∀ φ' κ', φ' b = some w.heap.size → VRel φ' κ' v x := by
  unfold rowMakeK at h
  obtain ⟨ti, i, d, z, h1, hti⟩ := tyK_sound hE h
  have htd := hti.td
  split at h1
  · rename_i e kl l kc c hd
    rw [hd] at htd
    have htd' : d = .slice e := htd
    subst htd'
    obtain ⟨te, ie, de, ze, h2, hte⟩ := tyK_sound hE h1
    obtain ⟨hlc, h2⟩ := guardB_true h2
    obtain ⟨hc, h2⟩ := guardB_true h2
    obtain ⟨hb, h2⟩ := guardB_true h2
    obtain ⟨h1s, h2⟩ := guardB_true h2
    have hlc := Nat.le_of_ble_eq_true hlc
    have hc := Nat.le_of_ble_eq_true hc
    have hb := Nat.le_of_ble_eq_true hb
    have h1s := Nat.le_of_ble_eq_true h1s
    simp only [forceN_eq] at h2
    refine ⟨_, _, _, _, h2, fun φ κ w y zz hy hz => ?_⟩
    simp only [VRel] at hy hz
    subst hy hz
    have hbc : te.bytes * c ≤ 65536 * 4294967296 := Nat.mul_le_mul hb hc
    have fin : ∀ zz : Array Value, CRel φ κ (c * te.size) te.zero .nil ((Array.range (c * te.size)).map (zz[· % zz.size]!)) →
        (c * te.size = 0 ∧ zz = #[] ∨ c * te.size ≠ 0 ∧ zz = ze.cells) →
        ∃ x ys, (Instr.makeSlice t (.int kl (.ofNat l)) (.int kc (.ofNat c))).run E.P w = .ok x (w.alloc (.cells ys e)) ∧ ys.size = c * te.size ∧ CRel φ κ (c * te.size) te.zero .nil ys ∧ ∀ φ' κ', φ' b = some w.heap.size → VRel φ' κ' (.slice b 0 l (.k c)) x := by
      intro zz hcells hzz
      refine ⟨.slice (some ⟨w.heap.size, 0, none⟩) l c, (Array.range (c * te.size)).map (zz[· % zz.size]!), ?_, by simp, hcells, fun φ' κ' hb' => ?_⟩
      · simp only [Instr.makeSlice, Sem.run_bind, hti.run_und, Result.andThen_ok, hte.run_info, asInt, asIntOf, Sem.run_pure]
        rw [wrap_small l (by omega), wrap_small c (by omega)]
        rw [if_neg (by
          rw [hte.bytes]
          simp only [Int.ofNat_eq_natCast, Bool.or_eq_true, decide_eq_true_eq, not_or]
          refine ⟨⟨⟨by omega, ?_⟩, by omega⟩, by omega⟩
          have : (te.bytes : Int) * (c : Int) = ((te.bytes * c : Nat) : Int) := by norm_cast
          rw [this]
          have h248 : (2 : Int) ^ 48 = 281474976710656 := rfl
          rw [h248]
          omega)]
        simp only [Sem.run_bind, run_askRoom, Result.andThen_ok, hte.run_size, Int.ofNat_eq_natCast, Int.toNat_natCast]
        rcases hzz with ⟨h0, rfl⟩ | ⟨h0, rfl⟩
        · rw [if_pos h0]
          simp [Go.newRow]
        · rw [if_neg h0]
          simp [Go.newRow, hte.run_zero]
      · simp only [VRel]; exact ⟨_, _, hb', rfl, rfl⟩
    by_cases h0 : c * te.size = 0
    · refine fin #[] ?_ (.inl ⟨h0, rfl⟩)
      rw [h0]
      intro i v hi; omega
    · exact fin ze.cells (zeros_crel (hte.zrel φ κ) (by rw [hte.zlen]; omega)) (.inr ⟨h0, rfl⟩)
  · cases h1
theorem crel_arr {l : List AV} {ys : Array Value} (h : LRel φ κ l ys.toList) : ys.size = l.length ∧ CRel φ κ l.length l .nil ys :=
  ⟨by have := h.length; simpa using this, by have := crel_list h; simpa using this⟩
theorem allocK_sound (hE : EnvOK E X) {T : Tr AV} {o : Oper} {b : Nat} {k : AV → Nat → Nat → List AV → Bool} (h : allocK E T o b k = true) :
    ∃ v e n l, k v e n l = true ∧ ∀ φ κ ρ w, Ops φ κ T ρ o.op.operands.toList →
      ∃ x ys, (execOp ρ o).run E.P w = .ok (.value x) (w.alloc (.cells ys e)) ∧ ys.size = n ∧ CRel φ κ n l .nil ys ∧ ∀ φ' κ', φ' b = some w.heap.size → VRel φ' κ' v x := by
  unfold allocK at h
  split at h
  · rename_i e hop
    obtain ⟨ti, i, d, z, h1, hti⟩ := tyK_sound hE h
    rw [lenK_eq] at h1
    have g1 : z.cells.size = ti.zero.length := (crel_arr (φ := fun _ => none) (κ := fun _ => 0) (ys := z.cells) (hti.zrel _ _)).1
    refine ⟨_, _, _, _, h1, fun φ κ ρ w ho => ⟨.pointer (some ⟨w.heap.size, 0, none⟩), z.cells, ?_, g1, (crel_arr (hti.zrel φ κ)).2, fun φ' κ' hb => ?_⟩⟩
    · simp only [execOp, hop]
      refine run_val ?_
      simp only [Instr.alloc, Sem.run_bind, hti.run_zero, Result.andThen_ok]
      rfl
    · simp only [VRel]
      exact ⟨_, hb, rfl⟩
  · rename_i e x hop
    obtain ⟨v, h1, h2⟩ := evalK_sound h
    rw [lenK_eq] at h1
    refine ⟨_, _, _, _, h1, fun φ κ ρ w ho => ?_⟩
    rw [hop] at ho
    obtain ⟨g1, g2⟩ := crel_arr (ys := (ρ x).cells) (cells_one (ho x (by simp [Op.operands]) v h2))
    refine ⟨.pointer (some ⟨w.heap.size, 0, none⟩), (ρ x).cells, ?_, g1, g2, fun φ' κ' hb => ?_⟩
    · simp only [execOp, hop]
      refine run_val ?_
      simp [Instr.box, newVar, Go.newRow]
    · simp only [VRel]
      exact ⟨_, hb, rfl⟩
  · rename_i t n ps hop
    obtain ⟨us, h1, h2⟩ := evalPartsK_sound h
    obtain ⟨v, e, l, h3, h4⟩ := rowSliceK_sound hE h1
    rw [lenK_eq] at h3
    refine ⟨v, e, _, l, h3, fun φ κ ρ w ho => ?_⟩
    rw [hop] at ho
    obtain ⟨x, ys, h5, h6, h7⟩ := h4 φ κ w _ (h2 φ κ ρ (by simpa [Op.operands] using ho))
    obtain ⟨g1, g2⟩ := crel_arr h6
    refine ⟨x, ys, ?_, g1, g2, h7⟩
    simp only [execOp, hop, map_list]
    exact run_val h5
  · rename_i t l c hop
    obtain ⟨u, h1, h2⟩ := evalK_sound h
    obtain ⟨u2, h3, h4⟩ := evalK_sound h1
    obtain ⟨v, e, n, l', h5, h6⟩ := rowMakeK_sound hE h3
    refine ⟨v, e, n, l', h5, fun φ κ ρ w ho => ?_⟩
    rw [hop] at ho
    obtain ⟨x, ys, h7, h8⟩ := h6 φ κ w _ _ (ho l (by simp [Op.operands]) u h2) (ho c (by simp [Op.operands]) u2 h4)
    refine ⟨x, ys, ?_, h8⟩
    simp only [execOp, hop]
    exact run_val h7
  · cases h
end Go.Ev
