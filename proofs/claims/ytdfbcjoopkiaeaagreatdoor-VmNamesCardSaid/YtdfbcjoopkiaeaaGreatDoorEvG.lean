/-
  A reckoner for the program's form over abstract values and memory, run by the kernel, and its proof: if it answers, the form's own run answers so, whatever the tape. Part EvG. No condition.
-/
import Derived.Test.YtdfbcjoopkiaeaaGreatDoorEvF
noncomputable section
namespace Go.Ev

variable {X : Fix} {Pr : Nat → Option Obj} {G : Nat → Option Blk} {φ : Nat → Option Nat} {κ : Nat → Nat} {m : Nat → Option Blk} {nx : Nat} {w : World}

def Mem.get (M : Mem) : Nat → Option Blk := fun b => M.tr.get b

/-! ### types -/
def isAggD : TypeDesc → Bool
  | .struct _ | .array _ _ => true
  | _ => false
/-- Fields, as the table has them. -/
def FRel (P : Program) : List (Nat × Nat × Nat) → List Field → Prop
  | [], l => l = []
  | p :: ps, l => ∃ f fs i, l = f :: fs ∧ p.1 = f.offset ∧ p.2.1 = f.type ∧ P.info? f.type = some i ∧ p.2.2 = i.size ∧ f.name ≠ "_" ∧ FRel P ps fs
theorem FRel.get {P : Program} : ∀ {ps : List (Nat × Nat × Nat)} {fs : List Field}, FRel P ps fs → ∀ (i : Nat) (p : Nat × Nat × Nat), ps[i]? = some p →
    ∃ f ii, fs[i]? = some f ∧ p.1 = f.offset ∧ p.2.1 = f.type ∧ P.info? f.type = some ii ∧ p.2.2 = ii.size
  | [], _, _, i, p, h => by simp at h
  | q :: ps, _, r, i, p, h => by
    obtain ⟨f, fs, ii, rfl, h1, h2, h3, h4, _, h5⟩ := r
    cases i with
    | zero => simp at h; subst h; exact ⟨f, ii, by simp, h1, h2, h3, h4⟩
    | succ i => simpa using h5.get i p (by simpa using h)
def TDRel (P : Program) : TD → TypeDesc → Prop
  | .struct fs, d => ∃ Fs : Array Field, d = .struct Fs ∧ FRel P fs Fs.toList
  | .array n e, d => d = .array n e
  | .slice e, d => d = .slice e
  | .int k, d => d = .int k
  | .bool, d => d = .bool
  | .string, d => d = .string
  | .iface, d => ∃ ms, d = .interface ms
  | .func, d => ∃ a b c, d = .func a b c
  | .uptr, d => d = .unsafePointer
  | .pointer e, d => d = .pointer e
  | .map a b, d => d = .map a b
  | .other, _ => True
structure TIok (P : Program) (t : Nat) (ti : TI) (i : TypeInfo) (d : TypeDesc) (z : Value) : Prop where
  info : P.info? t = some i
  und : P.underlying t = some d
  zero : i.zero = some z
  size : i.size = ti.size
  bytes : i.bytes = ti.bytes
  zrel : ∀ φ κ, LRel φ κ ti.zero z.cells.toList
  flat : ∀ u ∈ ti.zero, flatV u = true
  zlen : ti.zero.length = ti.size
  td : TDRel P ti.d d
  agg : ti.agg = isAggD d
def TyOK (P : Program) (t : Nat) (ti : TI) : Prop := ∃ i d z, TIok P t ti i d z

theorem fieldsK_sound {P : Program} : ∀ {l : List Field} {k : List (Nat × Nat × Nat) → Bool}, fieldsK P l k = true → ∃ ps, k ps = true ∧ FRel P ps l
  | [], k, h => ⟨[], h, rfl⟩
  | f :: l, k, h => by
    have h' : (match P.info? f.type with
      | some i => cond (f.name == "_") false (forceN f.offset fun o => forceN f.type fun t => forceN i.size fun s => fieldsK P l fun r => k ((o, t, s) :: r))
      | none => false) = true := h
    split at h'
    · rename_i i hi
      cases hn : f.name == "_"
      · rw [hn] at h'
        simp only [cond_false, forceN_eq] at h'
        obtain ⟨ps, h1, h2⟩ := fieldsK_sound h'
        exact ⟨_, h1, f, l, i, rfl, rfl, rfl, hi, rfl, by simpa using hn, h2⟩
      · rw [hn] at h'; cases h'
    · cases h'
theorem mkTI_sound {P : Program} {t : Nat} {i : TypeInfo} {d : TypeDesc} {k : TI → Bool} (hi : P.info? t = some i) (hd : P.underlying t = some d)
    (h : mkTI P i d k = true) : ∃ ti, k ti = true ∧ TyOK P t ti := by
  unfold mkTI at h
  split at h
  · cases h
  · rename_i z hz
    obtain ⟨us, h1, h2, h3⟩ := constsK_sound h
    simp only [forceN_eq, lenK_eq] at h1
    obtain ⟨hzl, h1⟩ := guardB_true h1
    have hzl := Nat.eq_of_beq_eq_true hzl
    split at h1
    · obtain ⟨ps, h4, h5⟩ := fieldsK_sound h1
      exact ⟨_, h4, i, _, z, ⟨hi, hd, hz, rfl, rfl, h2, h3, hzl, ⟨_, rfl, h5⟩, rfl⟩⟩
    all_goals exact ⟨_, h1, i, _, z, ⟨hi, hd, hz, rfl, rfl, h2, h3, hzl, by first | exact ⟨_, rfl, rfl⟩ | exact ⟨_, _, _, rfl⟩ | exact ⟨_, rfl⟩ | exact rfl | exact trivial, by first | rfl | (cases d <;> simp_all [isAggD])⟩⟩
theorem addTys_sound {P : Program} : ∀ {l : List Nat} {T : Tr TI} {k : Tr TI → Bool}, addTys P l T k = true → (∀ t ti, T.get t = some ti → TyOK P t ti) →
    ∃ T', k T' = true ∧ ∀ t ti, T'.get t = some ti → TyOK P t ti
  | [], T, k, h, hT => ⟨T, h, hT⟩
  | t :: l, T, k, h, hT => by
    have h' : addTy P t T (fun T => addTys P l T k) = true := h
    unfold addTy at h'
    split at h'
    · rename_i i d hi hd
      obtain ⟨ti, h1, h2⟩ := mkTI_sound hi hd h'
      unfold Tr.put at h1
      cases hb : Nat.ble t 4294967290
      · rw [hb] at h1; cases h1
      · rw [hb] at h1
        simp only [cond_true, Tr.setK_eq] at h1
        have hlt := Nat.le_of_ble_eq_true hb
        refine addTys_sound h1 fun s ti' hs => ?_
        rw [Tr.get_set _ _ _ _ _ (by omega)] at hs
        split at hs
        · rename_i e; cases hs; subst e; exact h2
        · exact hT s ti' hs
    · cases h'
structure FnOK (P : Program) (f : Nat) (fn : Func) : Prop where
  get : P.funcs[f]? = some fn
  name : (fn.name == "runtime.NumGoroutine") = false
  body : fn.body.isSome = true
theorem addFns_sound {P : Program} : ∀ {l : List Nat} {T : Tr Func} {k : Tr Func → Bool}, addFns P l T k = true → (∀ t ti, T.get t = some ti → FnOK P t ti) →
    ∃ T', k T' = true ∧ ∀ t ti, T'.get t = some ti → FnOK P t ti
  | [], T, k, h, hT => ⟨T, h, hT⟩
  | f :: l, T, k, h, hT => by
    have h' : addFn P f T (fun T => addFns P l T k) = true := h
    unfold addFn at h'
    split at h'
    · rename_i fn hf
      split at h'
      · rename_i c hc
        cases hn : fn.name == "runtime.NumGoroutine"
        · rw [hn] at h'
          simp only [cond_false] at h'
          unfold Tr.put at h'
          cases hb : Nat.ble f 4294967290
          · rw [hb] at h'; cases h'
          · rw [hb] at h'
            simp only [cond_true, Tr.setK_eq] at h'
            have hlt := Nat.le_of_ble_eq_true hb
            refine addFns_sound h' fun s ti' hs => ?_
            rw [Tr.get_set _ _ _ _ _ (by omega)] at hs
            split at hs
            · rename_i e; cases hs; subst e; exact ⟨hf, hn, by rw [hc]; rfl⟩
            · exact hT s ti' hs
        · rw [hn] at h'; cases h'
      · cases h'
    · cases h'
/-- What is known of the tables. -/
structure EnvOK (E : Env) (X : Fix) : Prop where
  ty : ∀ t ti, E.types.get t = some ti → TyOK E.P t ti
  fn : ∀ f fn, E.funcs.get f = some fn → FnOK E.P f fn
  gl : ∀ g l, E.globs.get g = some l → X.gl g = some l
theorem tyK_sound {E : Env} (hE : EnvOK E X) {t : Nat} {k : TI → Bool} (h : tyK E t k = true) : ∃ ti i d z, k ti = true ∧ TIok E.P t ti i d z := by
  unfold tyK at h
  split at h
  · rename_i ti hti
    obtain ⟨i, d, z, hok⟩ := hE.ty t ti hti
    exact ⟨ti, i, d, z, h, hok⟩
  · cases h
section
variable {P : Program} {t : Nat} {ti : TI} {i : TypeInfo} {d : TypeDesc} {z : Value}
theorem TIok.run_info (h : TIok P t ti i d z) (w : World) : (typeInfo t).run P w = .ok i w := by simp [typeInfo, h.info]
theorem TIok.run_und (h : TIok P t ti i d z) (w : World) : (underlying t).run P w = .ok d w := by simp [underlying, h.und]
theorem TIok.run_zero (h : TIok P t ti i d z) (w : World) : (zeroValue t).run P w = .ok z w := by simp [zeroValue, h.run_info, h.zero]
theorem TIok.run_size (h : TIok P t ti i d z) (w : World) : (sizeOf t).run P w = .ok ti.size w := by simp [sizeOf, h.run_info, h.size]
theorem TIok.run_agg (h : TIok P t ti i d z) (w : World) : (isAgg t).run P w = .ok ti.agg w := by
  rw [h.agg]
  simp only [isAgg, Sem.run_bind, h.run_und, Result.andThen_ok]
  cases d <;> rfl
end

/-! ### memory, read -/
theorem addr_add (c off n : Nat) : (Addr.mk c off none).add n = ⟨c, off + n, none⟩ := by
  unfold Addr.add
  split
  · rename_i h; subst h; rfl
  · rfl
theorem cell_of_heap {w : World} {c : Nat} {cs : Array Value} {e : TypeId} {fz : Nat × Nat} (h : w.heap[c]? = some (.cells cs e fz)) (i : Nat) :
    w.cell? ⟨c, i, none⟩ = cs[i]? := by simp [World.cell?, h]
def bcell : Blk → Nat → Option AV
  | .cells _ n d t, i => if i < n then arrAt d t i else none
  | .grown _ _ n d t, i => if i < n then arrAt d t i else none
  | .frz _ n d t, i => if i < n then arrAt d t i else none
  | _, _ => none
theorem modK_sound {α : Type} {d : List α} {i : Nat} {k : α → Bool} (h : modK d i k = true) : ∃ v, k v = true ∧ d[i % d.length]? = some v := by
  unfold modK at h
  rw [lenK_eq, forceN_eq] at h
  obtain ⟨x, h1, h2⟩ := nthK_sound h
  exact ⟨x, h2, h1⟩
theorem arrGet_sound {n : Nat} {d : List AV} {t : Tr AV} {i : Nat} {k : K1} (h : arrGet n d t i k = true) : ∃ v, k v = true ∧ i < n ∧ arrAt d t i = some v := by
  unfold arrGet at h
  cases hb : Nat.ble (Nat.succ i) n
  · rw [hb] at h; cases h
  · rw [hb] at h
    have := Nat.le_of_ble_eq_true hb
    simp only [cond_true] at h
    unfold arrAt
    split at h
    · rename_i v hv; exact ⟨v, h, by omega, by simp [hv]⟩
    · rename_i hv
      obtain ⟨v, h1, h2⟩ := modK_sound h
      exact ⟨v, h1, by omega, by simp [hv, h2]⟩
theorem cellK_sound {blk : Blk} {i : Nat} {k : K1} (h : cellK blk i k = true) : ∃ v, k v = true ∧ bcell blk i = some v := by
  unfold cellK at h
  split at h
  · obtain ⟨v, h1, h2, h3⟩ := arrGet_sound h; exact ⟨v, h1, by simp [bcell, h2, h3]⟩
  · obtain ⟨v, h1, h2, h3⟩ := arrGet_sound h; exact ⟨v, h1, by simp [bcell, h2, h3]⟩
  · obtain ⟨v, h1, h2, h3⟩ := arrGet_sound h; exact ⟨v, h1, by simp [bcell, h2, h3]⟩
  · cases h
theorem cellsK_sound {blk : Blk} : ∀ {n i : Nat} {k : List AV → Bool}, cellsK blk n i k = true → ∃ l, k l = true ∧ l.length = n ∧ ∀ (j : Nat) (v : AV), l[j]? = some v → bcell blk (i + j) = some v
  | 0, i, k, h => ⟨[], h, rfl, by simp⟩
  | n + 1, i, k, h => by
    have h' : cellK blk i (fun v => forceN (i + 1) fun i => cellsK blk n i fun vs => k (v :: vs)) = true := h
    obtain ⟨v, h1, h2⟩ := cellK_sound h'
    rw [forceN_eq] at h1
    obtain ⟨l, h3, h4, h5⟩ := cellsK_sound h1
    refine ⟨v :: l, h3, by simp [h4], fun j u hu => ?_⟩
    cases j with
    | zero => simp at hu; subst hu; exact h2
    | succ j =>
      have := h5 j u (by simpa using hu)
      rw [show i + (j + 1) = i + 1 + j by omega]; exact this
theorem blkK_sound {M : Mem} {b : Nat} {k : Blk → Bool} (h : blkK M b k = true) : ∃ blk, k blk = true ∧ M.get b = some blk := by
  unfold blkK at h
  split at h
  · rename_i blk hb; exact ⟨blk, h, hb⟩
  · cases h
theorem BRel.cell {b : Nat} {blk : Blk} {o : Obj} (r : BRel φ κ b blk o) {i : Nat} {v : AV} (h : bcell blk i = some v) :
    ∃ cs e fz x, o = .cells cs e fz ∧ cs[i]? = some x ∧ VRel φ κ v x := by
  cases blk with
  | cells e n d t =>
    obtain ⟨cs, rfl, h2, h3⟩ := r
    simp only [bcell] at h
    split at h
    · rename_i hi; obtain ⟨x, hx, hv⟩ := h3 i v hi h; exact ⟨cs, _, _, x, rfl, hx, hv⟩
    · cases h
  | grown e es n d t =>
    obtain ⟨cs, rfl, h1, h2, h3⟩ := r
    simp only [bcell] at h
    split at h
    · rename_i hi; obtain ⟨x, hx, hv⟩ := h3 i v hi h; exact ⟨cs, _, _, x, rfl, hx, hv⟩
    · cases h
  | frz e n d t =>
    obtain ⟨cs, fz, rfl, h2, h3⟩ := r
    simp only [bcell] at h
    split at h
    · rename_i hi; obtain ⟨x, hx, hv⟩ := h3 i v hi h; exact ⟨cs, _, _, x, rfl, hx, hv⟩
    · cases h
  | map es c => cases h
  | dead => cases h
theorem MRel.cell (h : MRel X Pr G φ κ m nx w) {b c i : Nat} {blk : Blk} {v : AV} (hb : φ b = some c) (hm : m b = some blk) (hc : bcell blk i = some v) :
    ∃ x, w.cell? ⟨c, i, none⟩ = some x ∧ VRel φ κ v x := by
  obtain ⟨o, ho, hr⟩ := h.blk b c blk hb hm
  obtain ⟨cs, e, fz, x, rfl, hx, hv⟩ := hr.cell hc
  exact ⟨x, by rw [cell_of_heap ho]; exact hx, hv⟩
theorem run_loadCellsFrom (P : Program) (w : World) (c off : Nat) : ∀ (n i : Nat) (acc : Array Value) (xs : List Value), xs.length = n →
    (∀ (j : Nat) (x : Value), xs[j]? = some x → w.cell? ⟨c, off + (i + j), none⟩ = some x) →
    (loadCellsFrom ⟨c, off, none⟩ i n acc).run P w = .ok (acc ++ xs.toArray) w
  | 0, i, acc, xs, hl, _ => by
    have : xs = [] := by cases xs <;> simp_all
    subst this
    simp [loadCellsFrom]
  | n + 1, i, acc, [], hl, _ => by simp at hl
  | n + 1, i, acc, x :: xs, hl, hx => by
    have h0 := hx 0 x (by simp)
    simp only [loadCellsFrom, Sem.run_bind, run_load, addr_add]
    rw [show off + (i + 0) = off + i by omega] at h0
    simp only [h0, Result.andThen_ok]
    rw [run_loadCellsFrom P w c off n (i + 1) (acc.push x) xs (by simpa using hl) fun j y hy => by
      have := hx (j + 1) y (by simpa using hy)
      rwa [show i + 1 + j = i + (j + 1) by omega]]
    simp
theorem MRel.cells (h : MRel X Pr G φ κ m nx w) {b c off : Nat} {blk : Blk} {l : List AV} (hb : φ b = some c) (hm : m b = some blk)
    (hl : ∀ (j : Nat) (v : AV), l[j]? = some v → bcell blk (off + j) = some v) :
    ∃ xs : List Value, LRel φ κ l xs ∧ (∀ (j : Nat) (x : Value), xs[j]? = some x → w.cell? ⟨c, off + j, none⟩ = some x) ∧ ∀ P : Program, (loadCells ⟨c, off, none⟩ l.length).run P w = .ok xs.toArray w := by
  suffices ∀ (l : List AV) (off : Nat), (∀ (j : Nat) (v : AV), l[j]? = some v → bcell blk (off + j) = some v) →
      ∃ xs : List Value, LRel φ κ l xs ∧ (∀ (j : Nat) (x : Value), xs[j]? = some x → w.cell? ⟨c, off + j, none⟩ = some x) by
    obtain ⟨xs, h1, h2⟩ := this l off hl
    refine ⟨xs, h1, h2, fun P => ?_⟩
    have := run_loadCellsFrom P w c off l.length 0 #[] xs h1.length fun j x hx => by rw [show off + (0 + j) = off + j by omega]; exact h2 j x hx
    simpa [loadCells] using this
  intro l
  induction l with
  | nil => exact fun _ _ => ⟨[], LRel.nil, by simp⟩
  | cons v l ih =>
    intro off hl
    obtain ⟨x, hx, hr⟩ := h.cell hb hm (hl 0 v (by simp))
    obtain ⟨xs, h1, h2⟩ := ih (off + 1) fun j u hu => by
      have := hl (j + 1) u (by simpa using hu)
      rwa [show off + 1 + j = off + (j + 1) by omega]
    refine ⟨x :: xs, LRel.cons hr h1, fun j y hy => ?_⟩
    cases j with
    | zero => simp at hy; subst hy; exact hx
    | succ j =>
      have := h2 j y (by simpa using hy)
      rwa [show off + 1 + j = off + (j + 1) by omega] at this

/-! ### memory, written -/
theorem flat_one {v : AV} {x : Value} (hf : flatV v = true) (h : VRel φ κ v x) : x.oneCell' = true := by
  cases v <;> simp [flatV] at hf <;> simp only [VRel] at h
  all_goals first
    | (subst h; rfl)
    | (obtain ⟨_, rfl⟩ := h; rfl)
    | (obtain ⟨c, q, _, rfl, _⟩ := h; rfl)
    | (obtain ⟨f, c, rfl, _⟩ := h; rfl)
    | (obtain ⟨c, _, rfl⟩ := h; rfl)
    | (obtain ⟨c, rfl, _⟩ := h; rfl)
theorem cells_one {v : AV} {x : Value} (h : VRel φ κ v x) : LRel φ κ (cellsOf v) x.cells.toList := by
  cases v <;> simp only [VRel] at h
  case agg cs =>
    obtain ⟨l, rfl, hl⟩ := h
    exact hl
  all_goals
    have hx : x.cells = #[x] := by
      first
        | (subst h; rfl)
        | (obtain ⟨_, rfl⟩ := h; rfl)
        | (obtain ⟨c, q, _, rfl, _⟩ := h; rfl)
        | (obtain ⟨f, c, rfl, _⟩ := h; rfl)
        | (obtain ⟨c, _, rfl⟩ := h; rfl)
        | (obtain ⟨c, rfl, _⟩ := h; rfl)
    rw [hx]
    exact LRel.cons (by simp only [VRel]; exact h) LRel.nil
theorem setCell_setObj {w : World} {c : Nat} {cs : Array Value} {e : TypeId} {fz : Nat × Nat} (h : w.heap[c]? = some (.cells cs e fz)) (i : Nat) (x : Value) :
    w.setCell ⟨c, i, none⟩ x = World.setObj w c (.cells (cs.setIfInBounds i x) e fz) := by
  unfold World.setCell World.setObj
  congr 1
  apply Array.ext_getElem?
  intro j
  rw [Array.getElem?_modify, Array.getElem?_setIfInBounds]
  by_cases e' : c = j
  · subst e'
    have this := lt_of_heap h
    rw [Array.getElem?_eq_getElem this] at h
    injection h with h
    simp [h, this]
  · simp [e']
theorem setObj_setObj (w : World) (c : Nat) (o o' : Obj) : World.setObj (World.setObj w c o) c o' = World.setObj w c o' := by
  unfold World.setObj
  simp
theorem setObj_self {w : World} {c : Nat} {o : Obj} (h : w.heap[c]? = some o) : World.setObj w c o = w := by
  unfold World.setObj
  have : w.heap.setIfInBounds c o = w.heap := by
    apply Array.ext_getElem?
    intro j
    rw [Array.getElem?_setIfInBounds]
    split
    · rename_i e; subst e
      have this := lt_of_heap h
      rw [Array.getElem?_eq_getElem this] at h
      injection h with h
      simp [this, h]
    · rfl
  rw [this]
/-- The cells with others laid over them. -/
def overA (cs : Array Value) : List Value → Nat → Array Value
  | [], _ => cs
  | x :: xs, i => overA (cs.setIfInBounds i x) xs (i + 1)
theorem overA_size : ∀ (xs : List Value) (cs : Array Value) (i : Nat), (overA cs xs i).size = cs.size
  | [], _, _ => rfl
  | x :: xs, cs, i => by simp [overA, overA_size xs]
theorem overA_get : ∀ (xs : List Value) (cs : Array Value) (i j : Nat), i + xs.length ≤ cs.size →
    (overA cs xs i)[j]? = if i ≤ j ∧ j < i + xs.length then xs[j - i]? else cs[j]?
  | [], cs, i, j, _ => by simp only [overA, List.length_nil]; rw [if_neg (by omega)]
  | x :: xs, cs, i, j, h => by
    simp only [List.length_cons] at h
    simp only [overA]
    rw [overA_get xs _ (i + 1) j (by simp; omega)]
    simp only [List.length_cons]
    by_cases e : i = j
    · subst e
      rw [if_neg (by omega), if_pos (by omega)]
      simp [show i < cs.size by omega]
    · by_cases e2 : i + 1 ≤ j ∧ j < i + 1 + xs.length
      · rw [if_pos e2, if_pos (by omega)]
        rw [show j - i = (j - (i + 1)) + 1 by omega]; simp
      · rw [if_neg e2, if_neg (by omega)]
        simp [e]
theorem run_storeCells (P : Program) : ∀ (xs : List Value) (i : Nat) (w : World) (c off : Nat) (cs : Array Value) (e : TypeId), w.heap[c]? = some (.cells cs e (0, 0)) → off + (i + xs.length) ≤ cs.size →
    (∀ x ∈ xs, x.oneCell' = true) → (storeCells ⟨c, off, none⟩ xs i).run P w = .ok () (World.setObj w c (.cells (overA cs xs (off + i)) e (0, 0)))
  | [], i, w, c, off, cs, e, h, _, _ => by
    simp only [storeCells, Sem.run_pure, overA]
    rw [setObj_self h]
  | x :: xs, i, w, c, off, cs, e, h, hl, hx => by
    simp only [List.length_cons] at hl
    simp only [storeCells, Sem.run_bind, addr_add]
    rw [run_store _ _ _ _ _ (hx x (by simp)), cell_of_heap h, show cs[off + i]? = some cs[off + i] from Array.getElem?_eq_getElem (by omega)]
    simp only
    rw [if_neg (by simp [World.frozen?, h])]
    simp only [Result.andThen_ok]
    rw [setCell_setObj h, run_storeCells P xs (i + 1) _ c off (cs.setIfInBounds (off + i) x) e (setObj_same _ _ (lt_of_heap h)) (by simp; omega) (fun y hy => hx y (by simp [hy])), setObj_setObj]
    simp only [overA, Nat.add_assoc]
end Go.Ev
