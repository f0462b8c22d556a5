/-
  A reckoner for the program's form over abstract values and memory, run by the kernel, and its proof: if it answers, the form's own run answers so, whatever the tape. Part EvE. No condition.
-/
import Derived.Test.YtdfbcjoopkiaeaaGreatDoorEvD
noncomputable section
namespace Go.Ev

/-! ## What the helpers hand on -/
theorem guardB_true {b k : Bool} (h : guardB b k = true) : b = true ∧ k = true := by
  cases b
  · cases h
  · exact ⟨rfl, h⟩
theorem nthK_sound {α : Type} : ∀ {l : List α} {i : Nat} {k : α → Bool}, nthK l i k = true → ∃ x, l[i]? = some x ∧ k x = true
  | [], i, k, h => by cases h
  | x :: l, 0, k, h => ⟨x, by simp, h⟩
  | x :: l, i + 1, k, h => by
    obtain ⟨y, h1, h2⟩ := nthK_sound (l := l) (i := i) (k := k) h
    exact ⟨y, by simpa using h1, h2⟩
theorem lenK_go {α : Type} (k : Nat → Bool) : ∀ (l : List α) (n : Nat), recL (A := Nat) (fun n => k n) (fun _ _ ih n => forceN (n + 1) ih) l n = k (n + l.length)
  | [], n => by simp [recL_nil]
  | x :: l, n => by rw [recL_cons, forceN_eq, lenK_go k l]; simp only [List.length_cons]; congr 1; omega
theorem lenK_eq {α : Type} (l : List α) (k : Nat → Bool) : lenK l k = k l.length := by
  unfold lenK; rw [lenK_go]; simp
theorem packK_eq : ∀ (l : List UInt8) (k : Nat → Nat → Bool), packK l k = k l.length (packL l)
  | [], k => rfl
  | b :: l, k => by
    show packK l (fun n c => forceN (n + 1) fun n => forceN (b.toNat + 256 * c) fun c => k n c) = _
    rw [packK_eq l]; simp only [forceN_eq, packL, List.length_cons]
theorem strBytes_packL : ∀ (l : List UInt8), strBytes l.length (packL l) = l
  | [] => rfl
  | b :: l => by
    simp only [List.length_cons, packL, strBytes]
    have hb : b.toNat < 256 := b.toNat_lt
    have h1 : (b.toNat + 256 * packL l) % 256 = b.toNat := by omega
    have h2 : (b.toNat + 256 * packL l) / 256 = packL l := by omega
    rw [h1, h2, strBytes_packL l]
    simp
theorem strBytes_length : ∀ (n c : Nat), (strBytes n c).length = n
  | 0, _ => rfl
  | n + 1, c => by simp [strBytes, strBytes_length n]

theorem packL_lt : ∀ (l : List UInt8), packL l < 256 ^ l.length
  | [] => by simp [packL]
  | b :: l => by
    simp only [packL, List.length_cons, Nat.pow_succ]
    have := b.toNat_lt
    have := packL_lt l
    omega
def Flat (v : AV) : Prop := flatV v = true

theorem constK_sound {v : Value} {k : K1} (h : constK v k = true) : ∃ u, k u = true ∧ (∀ φ κ, VRel φ κ u v) ∧ flatV u = true ∧ v.cells = #[v] := by
  unfold constK at h
  split at h
  · rename_i b; rw [forceB_eq] at h; exact ⟨_, h, fun _ _ => by simp [VRel], rfl, rfl⟩
  · rename_i kd n; rw [forceI_eq] at h; exact ⟨_, h, fun _ _ => by simp [VRel], rfl, rfl⟩
  · rename_i kd n; rw [forceN_eq] at h; exact ⟨_, h, fun _ _ => by simp [VRel], rfl, rfl⟩
  · rename_i s; rw [packK_eq] at h
    refine ⟨_, h, fun _ _ => ?_, rfl, rfl⟩
    simp only [VRel, strBytes_packL]
    exact ⟨packL_lt _, trivial⟩
  · exact ⟨_, h, fun _ _ => by simp [VRel], rfl, rfl⟩
  · exact ⟨_, h, fun _ _ => by simp [VRel], rfl, rfl⟩
  · exact ⟨_, h, fun _ _ => by simp [VRel], rfl, rfl⟩
  · exact ⟨_, h, fun _ _ => by simp [VRel], rfl, rfl⟩
  · exact ⟨_, h, fun _ _ => by simp [VRel], rfl, rfl⟩
  · cases h
theorem constsK_sound : ∀ {l : List Value} {k : List AV → Bool}, constsK l k = true → ∃ us, k us = true ∧ (∀ φ κ, LRel φ κ us l) ∧ ∀ u ∈ us, flatV u = true
  | [], k, h => ⟨[], h, fun _ _ => LRel.nil, by simp⟩
  | v :: l, k, h => by
    have h' : constK v (fun v => constsK l fun vs => k (v :: vs)) = true := h
    obtain ⟨u, h1, h2, h3, _⟩ := constK_sound h'
    obtain ⟨us, h4, h5, h6⟩ := constsK_sound h1
    exact ⟨u :: us, h4, fun φ κ => LRel.cons (h2 φ κ) (h5 φ κ), by simpa using ⟨h3, h6⟩⟩
theorem constAnyK_sound {v : Value} {k : K1} (h : constAnyK v k = true) : ∃ u, k u = true ∧ ∀ φ κ, VRel φ κ u v := by
  unfold constAnyK at h
  split at h
  · rename_i cs
    obtain ⟨us, h1, h2, _⟩ := constsK_sound h
    exact ⟨_, h1, fun φ κ => by simp only [VRel]; exact ⟨cs, rfl, h2 φ κ⟩⟩
  · obtain ⟨u, h1, h2, _⟩ := constK_sound h
    exact ⟨u, h1, h2⟩

/-- What an operand is, as the reckoner has it. -/
def AVal (T : Tr AV) : Operand → AV → Prop
  | .tmp t, u => T.get t = some u
  | .const v, u => ∀ φ κ, VRel φ κ u v
  | .global g, u => u = .gptr g 0
  | .func f, u => u = .func (.func f) [] []
theorem getT_sound {T : Tr AV} {t : Nat} {k : K1} (h : getT T t k = true) : ∃ u, k u = true ∧ T.get t = some u := by
  unfold getT at h
  split at h
  · rename_i v hv; exact ⟨v, h, hv⟩
  · cases h
theorem evalK_sound {T : Tr AV} {x : Operand} {k : K1} (h : evalK T x k = true) : ∃ u, k u = true ∧ AVal T x u := by
  unfold evalK at h
  split at h
  · exact getT_sound h
  · obtain ⟨u, h1, h2⟩ := constAnyK_sound h; exact ⟨u, h1, h2⟩
  · rw [forceN_eq] at h; exact ⟨_, h, rfl⟩
  · rw [forceN_eq] at h; exact ⟨_, h, rfl⟩

/-- Operands related. -/
def Ops (φ : Nat → Option Nat) (κ : Nat → Nat) (T : Tr AV) (ρ : Operand → Value) (l : List Operand) : Prop := ∀ x ∈ l, ∀ u, AVal T x u → VRel φ κ u (ρ x)

theorem evalsK_sound {T : Tr AV} : ∀ {l : List Operand} {k : List AV → Bool}, evalsK T l k = true → ∃ us, k us = true ∧ ∀ φ κ ρ, Ops φ κ T ρ l → LRel φ κ us (l.map ρ)
  | [], k, h => ⟨[], h, fun _ _ _ _ => LRel.nil⟩
  | x :: l, k, h => by
    have h' : evalK T x (fun v => evalsK T l fun vs => k (v :: vs)) = true := h
    obtain ⟨u, h1, h2⟩ := evalK_sound h'
    obtain ⟨us, h3, h4⟩ := evalsK_sound h1
    exact ⟨u :: us, h3, fun φ κ ρ ho => LRel.cons (ho x (by simp) u h2) (h4 φ κ ρ fun y hy => ho y (by simp [hy]))⟩
/-- Parts related. -/
def PRel (φ : Nat → Option Nat) (κ : Nat → Nat) : List (Nat × AV) → List (Nat × Value) → Prop
  | [], l => l = []
  | p :: ps, l => ∃ q qs, l = q :: qs ∧ q.1 = p.1 ∧ VRel φ κ p.2 q.2 ∧ PRel φ κ ps qs
theorem evalPartsK_sound {T : Tr AV} : ∀ {l : List (Nat × Operand)} {k : List (Nat × AV) → Bool}, evalPartsK T l k = true →
    ∃ us, k us = true ∧ ∀ φ κ ρ, Ops φ κ T ρ (l.map (·.2)) → PRel φ κ us (l.map fun (i, x) => (i, ρ x))
  | [], k, h => ⟨[], h, fun _ _ _ _ => rfl⟩
  | (i, x) :: l, k, h => by
    have h' : forceN i (fun i => evalK T x fun v => evalPartsK T l fun vs => k ((i, v) :: vs)) = true := h
    rw [forceN_eq] at h'
    obtain ⟨u, h1, h2⟩ := evalK_sound h'
    obtain ⟨us, h3, h4⟩ := evalPartsK_sound h1
    exact ⟨(i, u) :: us, h3, fun φ κ ρ ho => ⟨(i, ρ x), _, rfl, rfl, ho x (by simp) u h2, h4 φ κ ρ fun y hy => ho y (by simp only [List.map_cons, List.mem_cons]; exact .inr hy)⟩⟩
theorem optEvalK_sound {T : Tr AV} {x : Option Operand} {k : Option AV → Bool} (h : optEvalK T x k = true) :
    ∃ u, k u = true ∧ ∀ φ κ ρ, Ops φ κ T ρ x.toList → (match u, x.map ρ with | none, none => True | some u, some y => VRel φ κ u y | _, _ => False) := by
  unfold optEvalK at h
  split at h
  · exact ⟨none, h, fun _ _ _ _ => trivial⟩
  · rename_i x
    obtain ⟨u, h1, h2⟩ := evalK_sound h
    exact ⟨some u, h1, fun φ κ ρ ho => ho x (by simp) u h2⟩

/-! ### numbers -/
theorem wrap_i64 (n : Int) (h : -9223372036854775808 ≤ n ∧ n ≤ 9223372036854775807) : IntKind.i64.wrap n = n := by
  simp only [IntKind.wrap, IntKind.bits, IntKind.signed]
  simp
  omega
theorem wrap_u64 (n : Int) (h : 0 ≤ n ∧ n ≤ 18446744073709551615) : IntKind.u64.wrap n = n := by
  simp only [IntKind.wrap, IntKind.bits, IntKind.signed]
  simp
  omega
theorem wrap_u8 (n : Nat) : IntKind.u8.wrap (.ofNat n) = .ofNat (n % 256) := by
  simp only [IntKind.wrap, IntKind.bits, IntKind.signed]
  simp
theorem wrap_u32 (n : Nat) : IntKind.u32.wrap (.ofNat n) = .ofNat (n % 4294967296) := by
  simp only [IntKind.wrap, IntKind.bits, IntKind.signed]
  simp
theorem wrapK_eq (kd : IntKind) (n : Int) (k : K1) : wrapK kd n k = k (.int kd (kd.wrap n)) := by
  unfold wrapK
  split
  · rename_i m
    split
    · cases h : Nat.ble m 9223372036854775807
      · simp only [cond_false, forceI_eq]
      · simp only [cond_true, forceN_eq]
        rw [wrap_i64 _ ⟨by simp only [Int.ofNat_eq_natCast]; omega, by have := Nat.le_of_ble_eq_true h; simp only [Int.ofNat_eq_natCast]; omega⟩]
    · cases h : Nat.ble m 18446744073709551615
      · simp only [cond_false, forceI_eq]
      · simp only [cond_true, forceN_eq]
        rw [wrap_u64 _ ⟨by simp only [Int.ofNat_eq_natCast]; omega, by have := Nat.le_of_ble_eq_true h; simp only [Int.ofNat_eq_natCast]; omega⟩]
    · rw [forceN_eq, wrap_u8]
    · rw [forceN_eq, wrap_u32]
    · rw [forceI_eq]
  · rename_i m
    split
    · cases h : Nat.ble m 9223372036854775807
      · simp only [cond_false, forceI_eq]
      · simp only [cond_true, forceN_eq]
        rw [wrap_i64 _ ⟨by have := Nat.le_of_ble_eq_true h; rw [Int.negSucc_eq]; omega, by rw [Int.negSucc_eq]; omega⟩]
    · rw [forceI_eq]
theorem ltI_eq (a b : Int) : ltI a b = decide (a < b) := by
  unfold ltI
  cases a <;> cases b <;> simp only [Int.ofNat_eq_natCast, Int.negSucc_eq] <;> rw [Bool.eq_iff_iff] <;> simp <;> omega
theorem eqI_eq (a b : Int) : eqI a b = (a == b) := by
  unfold eqI
  cases a <;> cases b <;> simp only [Int.ofNat_eq_natCast, Int.negSucc_eq] <;> rw [Bool.eq_iff_iff] <;> simp <;> omega
theorem addI_eq (a b : Int) : addI a b = a + b := by
  unfold addI
  split
  · simp
  · rfl
theorem subI_eq (a b : Int) : subI a b = a - b := by
  unfold subI
  split
  · rename_i a b
    cases h : Nat.ble b a
    · have : ¬ b ≤ a := fun e => by rw [Nat.ble_eq_true_of_le e] at h; cases h
      simp only [cond_false, Int.ofNat_eq_natCast, Int.negSucc_eq]; omega
    · have := Nat.le_of_ble_eq_true h
      simp only [cond_true, Int.ofNat_eq_natCast]; omega
  · rfl
theorem mulI_eq (a b : Int) : mulI a b = a * b := by
  unfold mulI
  split
  · simp
  · rfl
theorem sameKind_eq {a b : IntKind} (h : sameKind a b = true) : a = b := by
  cases a <;> cases b <;> first | rfl | cases h
end Go.Ev
