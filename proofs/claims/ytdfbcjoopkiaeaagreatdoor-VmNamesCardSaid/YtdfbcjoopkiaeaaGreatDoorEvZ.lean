/-
  A reckoner for the program's form over abstract values and memory, run by the kernel, and its proof: if it answers, the form's own run answers so, whatever the tape. Part EvZ. No condition.
-/
import Derived.Test.YtdfbcjoopkiaeaaGreatDoorEvY
noncomputable section
namespace Go.Ev

variable {X : Fix} {Pr : Nat → Option Obj} {G : Nat → Option Blk} {φ : Nat → Option Nat} {κ : Nat → Nat} {m : Nat → Option Blk} {nx : Nat} {w : World} {E : Env}

/-! ## Equal values -/
def sameCap (a b : Cap) : Bool := match a, b with
  | .k a, .k b => Nat.beq a b
  | .u a, .u b => Nat.beq a b
  | _, _ => false
theorem sameCap_eq {a b : Cap} (h : sameCap a b = true) : a = b := by
  cases a <;> cases b <;> simp only [sameCap] at h <;> first | exact Bool.noConfusion h | rw [Nat.eq_of_beq_eq_true h]
mutual
def sameV : AV → AV → Bool
  | .bool a, y => (match y with | .bool b => (match a, b with | true, true => true | false, false => true | _, _ => false) | _ => false)
  | .int k n, y => (match y with | .int k' n' => and (sameKind k k') (eqI n n') | _ => false)
  | .str n c, y => (match y with | .str n' c' => and (Nat.beq n n') (Nat.beq c c') | _ => false)
  | .nilp, y => (match y with | .nilp => true | _ => false)
  | .ptr a b, y => (match y with | .ptr a' b' => and (Nat.beq a a') (Nat.beq b b') | _ => false)
  | .gptr a b, y => (match y with | .gptr a' b' => and (Nat.beq a a') (Nat.beq b b') | _ => false)
  | .nils, y => (match y with | .nils => true | _ => false)
  | .slice a b c d, y => (match y with | .slice a' b' c' d' => and (Nat.beq a a') (and (Nat.beq b b') (and (Nat.beq c c') (sameCap d d'))) | _ => false)
  | .nilm, y => (match y with | .nilm => true | _ => false)
  | .map a, y => (match y with | .map a' => Nat.beq a a' | _ => false)
  | .nilf, y => (match y with | .nilf => true | _ => false)
  | .func (.func f) fs cs, y => (match y with | .func (.func f') fs' cs' => and (Nat.beq f f') (and (sameL fs fs') (sameL cs cs')) | _ => false)
  | .nili, y => (match y with | .nili => true | _ => false)
  | .iface t v, y => (match y with | .iface t' v' => and (Nat.beq t t') (sameV v v') | _ => false)
  | .agg cs, y => (match y with | .agg cs' => sameL cs cs' | _ => false)
  | .tup cs, y => (match y with | .tup cs' => sameL cs cs' | _ => false)
  | _, _ => false
def sameL : List AV → List AV → Bool
  | [], y => (match y with | [] => true | _ => false)
  | v :: vs, y => (match y with | u :: us => and (sameV v u) (sameL vs us) | _ => false)
end
theorem eqI_true {a b : Int} (h : eqI a b = true) : a = b := by rw [eqI_eq] at h; simpa using h
mutual
theorem sameV_eq : ∀ (a b : AV), sameV a b = true → a = b
  | .bool a, y, h => by cases y <;> simp only [sameV] at h <;> first | exact Bool.noConfusion h | (rename_i b; cases a <;> cases b <;> first | rfl | cases h)
  | .int k n, y, h => by
    cases y <;> simp only [sameV, Bool.and_eq_true] at h <;> first | exact Bool.noConfusion h | (rw [sameKind_eq h.1, eqI_true h.2])
  | .str n c, y, h => by
    cases y <;> simp only [sameV, Bool.and_eq_true] at h <;> first | exact Bool.noConfusion h | (rw [Nat.eq_of_beq_eq_true h.1, Nat.eq_of_beq_eq_true h.2])
  | .nilp, y, h => by cases y <;> simp only [sameV] at h <;> first | exact Bool.noConfusion h | rfl
  | .ptr a b, y, h => by
    cases y <;> simp only [sameV, Bool.and_eq_true] at h <;> first | exact Bool.noConfusion h | (rw [Nat.eq_of_beq_eq_true h.1, Nat.eq_of_beq_eq_true h.2])
  | .gptr a b, y, h => by
    cases y <;> simp only [sameV, Bool.and_eq_true] at h <;> first | exact Bool.noConfusion h | (rw [Nat.eq_of_beq_eq_true h.1, Nat.eq_of_beq_eq_true h.2])
  | .nils, y, h => by cases y <;> simp only [sameV] at h <;> first | exact Bool.noConfusion h | rfl
  | .slice a b c d, y, h => by
    cases y <;> simp only [sameV, Bool.and_eq_true] at h <;> first | exact Bool.noConfusion h | (rw [Nat.eq_of_beq_eq_true h.1, Nat.eq_of_beq_eq_true h.2.1, Nat.eq_of_beq_eq_true h.2.2.1, sameCap_eq h.2.2.2])
  | .nilm, y, h => by cases y <;> simp only [sameV] at h <;> first | exact Bool.noConfusion h | rfl
  | .map a, y, h => by
    cases y <;> simp only [sameV] at h <;> first | exact Bool.noConfusion h | (rw [Nat.eq_of_beq_eq_true h])
  | .nilf, y, h => by cases y <;> simp only [sameV] at h <;> first | exact Bool.noConfusion h | rfl
  | .func (.func f) fs cs, y, h => by
    cases y
    case func g fs' cs' =>
      cases g
      case func g =>
        simp only [sameV, Bool.and_eq_true] at h
        rw [Nat.eq_of_beq_eq_true h.1, sameL_eq fs fs' h.2.1, sameL_eq cs cs' h.2.2]
      all_goals simp only [sameV] at h; cases h
    all_goals simp only [sameV] at h; cases h
  | .nili, y, h => by cases y <;> simp only [sameV] at h <;> first | exact Bool.noConfusion h | rfl
  | .iface t v, y, h => by
    cases y
    case iface t' v' =>
      simp only [sameV, Bool.and_eq_true] at h
      rw [Nat.eq_of_beq_eq_true h.1, sameV_eq v v' h.2]
    all_goals simp only [sameV] at h; cases h
  | .agg cs, y, h => by
    cases y
    case agg cs' =>
      simp only [sameV] at h
      rw [sameL_eq cs cs' h]
    all_goals simp only [sameV] at h; cases h
  | .tup cs, y, h => by
    cases y
    case tup cs' =>
      simp only [sameV] at h
      rw [sameL_eq cs cs' h]
    all_goals simp only [sameV] at h; cases h
  | .flo _ _, y, h => by simp only [sameV] at h; cases h
  | .func (.method _) _ _, y, h => by simp only [sameV] at h; cases h
  | .func (.methodOf _ _) _ _, y, h => by simp only [sameV] at h; cases h
  | .func (.via _ _ _ _) _ _, y, h => by simp only [sameV] at h; cases h
  | .func (.yield _) _ _, y, h => by simp only [sameV] at h; cases h
theorem sameL_eq : ∀ (a b : List AV), sameL a b = true → a = b
  | [], y, h => by cases y <;> simp only [sameL] at h <;> first | exact Bool.noConfusion h | rfl
  | v :: vs, y, h => by
    cases y
    case nil => simp only [sameL] at h; cases h
    case cons u us =>
      simp only [sameL, Bool.and_eq_true] at h
      rw [sameV_eq v u h.1, sameL_eq vs us h.2]
end
/-! ## More of the memory -/
/-- A row that no id has. -/
theorem MRel.more (h : MRel X Pr G φ κ m nx w) (o : Obj) : MRel X Pr G φ κ m nx (w.alloc o) :=
  ⟨h.os, h.tape, h.output, fun b c B hb hB => let ⟨p, hp, hr⟩ := h.blk b c B hb hB; ⟨p, heap_alloc_lt w o hp, hr⟩, h.dom, h.inj, h.gho,
   fun c p hp => ⟨heap_alloc_lt w o (h.pro c p hp).1, (h.pro c p hp).2⟩,
   fun g l hg => let ⟨cs, e, fz, h1, h2⟩ := h.glob g l hg; ⟨cs, e, fz, heap_alloc_lt w o h1, h2⟩,
   fun b c hb => by have := h.lt b c hb; simp only [World.size_alloc]; omega⟩
/-- More, or less, is protected. -/
theorem MRel.protect {Pr' : Nat → Option Obj} (h : MRel X Pr G φ κ m nx w) (hp : ∀ c o, Pr' c = some o → w.heap[c]? = some o ∧ ∀ b, φ b ≠ some c) : MRel X Pr' G φ κ m nx w :=
  ⟨h.os, h.tape, h.output, h.blk, h.dom, h.inj, h.gho, hp, h.glob, h.lt⟩
/-- No abstract memory at all. -/
theorem MRel.empty (h : MRel X Pr G φ κ m nx w) {φ' : Nat → Option Nat} {n : Nat} (κ' : Nat → Nat) (hs : ∀ b c, φ b = some c → φ' b = some c) (hk : ∀ b c, φ b = some c → κ' b = κ b) (hd : ∀ b c, φ' b = some c → b < n ∧ c < w.heap.size)
    (hx : ∀ g l b, X.gl g = some l → φ' b ≠ some g) : MRel X (fun _ => none) (fun _ => none) φ' κ' (fun _ => none) n w :=
  ⟨h.os, h.tape, h.output, fun b c B _ hB => (by cases hB), fun b c hb => (hd b c hb).1, fun b b' c B B' _ _ h3 => (by cases h3), fun b B hB => (by cases hB), fun c o hc => (by cases hc),
   fun g l hg => let ⟨cs, e, fz, h1, h2, _⟩ := h.glob g l hg; ⟨cs, e, fz, h1, fun i v hv => let ⟨x, hx1, hx2⟩ := h2 i v hv; ⟨x, hx1, hx2.mono fun b c hb => ⟨hs b c hb, hk b c hb⟩⟩, fun b => hx g l b hg⟩,
   fun b c hb => (hd b c hb).2⟩
theorem readK_next (E : Env) (T : Tr AV) (o : Oper) (n n' : Nat) (t : Tr Blk) (k : K1) : readK E T o ⟨n, t⟩ k = readK E T o ⟨n', t⟩ k := by
  unfold readK
  split <;> rfl
/-! ## The plan of a drawn region -/
/-- The masks of all operations: with each edge that binds, the operation it comes from and all before that. -/
def edgesK (ms : List Nat) (i : Nat) : List Edge → Nat → (Nat → Bool) → Bool
  | [], acc, k => k acc
  | e :: es, acc, k => match e.ground with
    | .textOnly _ => edgesK ms i es acc k
    | .gcOnly _ => edgesK ms i es acc k
    | _ => guardB (Nat.ble (Nat.succ e.on) i) (nthK ms e.on fun m => forceN (Nat.lor acc (Nat.lor m (Nat.shiftLeft 1 e.on))) fun acc => edgesK ms i es acc k)
def isE (o : Oper) : Bool := match o.op with
  | .store _ _ _ => true
  | .call c => (match c.callee with | .builtin .len => false | .builtin .cap => false | .builtin .unsafeSliceData => false | _ => true)
  | _ => false
def isA (o : Oper) : Bool := match o.op with
  | .alloc _ => true
  | .box _ _ => true
  | .buildSlice _ _ _ => true
  | .makeSlice _ _ _ => true
  | _ => false
def isR (o : Oper) : Bool := match o.op with
  | .load _ _ => true
  | _ => false
end Go.Ev
