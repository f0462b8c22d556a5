/-
  A reckoner for the program's form over abstract values and memory, run by the kernel, and its proof: if it answers, the form's own run answers so, whatever the tape. Part EvA. No condition.
-/
import Derived.Orders
import Derived.Tactics
import Derived.Laws.World
import Derived.Laws.Sem
import Derived.KernelRfl
noncomputable section
namespace Go.Ev

/-! ## Small things that the kernel reckons fast: everything is handed on in normal form. -/

/-- The number is reckoned before it is handed on. -/
def forceN {β : Type} (n : Nat) (k : Nat → β) : β := match n with | 0 => k 0 | m + 1 => k (Nat.succ m)
theorem forceN_eq {β : Type} (n : Nat) (k : Nat → β) : forceN n k = k n := by cases n <;> rfl
def forceI {β : Type} (n : Int) (k : Int → β) : β := match n with | .ofNat m => forceN m fun m => k (.ofNat m) | .negSucc m => forceN m fun m => k (.negSucc m)
theorem forceI_eq {β : Type} (n : Int) (k : Int → β) : forceI n k = k n := by cases n <;> simp [forceI, forceN_eq]
def forceB {β : Type} (b : Bool) (k : Bool → β) : β := match b with | true => k true | false => k false
theorem forceB_eq {β : Type} (b : Bool) (k : Bool → β) : forceB b k = k b := by cases b <;> rfl

/-- Recursion over a number, the recursor itself. -/
def recN {A B : Type} (z : A → B) (s : Nat → (A → B) → A → B) (n : Nat) : A → B := Nat.rec z s n
theorem recN_zero {A B : Type} (z : A → B) (s : Nat → (A → B) → A → B) : recN z s 0 = z := rfl
theorem recN_succ {A B : Type} (z : A → B) (s : Nat → (A → B) → A → B) (n : Nat) : recN z s (n + 1) = s n (recN z s n) := rfl
/-- Recursion over a list. -/
def recL {α A B : Type} (z : A → B) (s : α → List α → (A → B) → A → B) (l : List α) : A → B := List.rec z s l
theorem recL_nil {α A B : Type} (z : A → B) (s : α → List α → (A → B) → A → B) : recL z s [] = z := rfl
theorem recL_cons {α A B : Type} (z : A → B) (s : α → List α → (A → B) → A → B) (x : α) (l : List α) : recL z s (x :: l) = s x l (recL z s l) := rfl

/-! ## A tree of things by number -/
inductive Tr (α : Type) where
  | nil
  | node (l : Tr α) (v : Option α) (r : Tr α)

def Tr.get {α : Type} (t : Tr α) : Nat → Option α :=
  Tr.rec (fun _ => none) (fun _ v _ ihl ihr i => Nat.rec v (fun j _ => cond (Nat.beq (j % 2) 0) (ihl (j / 2)) (ihr (j / 2))) i) t

/-- The tree with a thing at a number; n: more than the number's length. -/
def Tr.setK {α β : Type} (v : α) (n : Nat) : Tr α → Nat → (Tr α → β) → β :=
  Nat.rec (fun t _ k => k t) (fun _ ih t i k =>
    Tr.rec (Nat.rec (k (.node .nil (some v) .nil)) (fun j _ => cond (Nat.beq (j % 2) 0) (ih .nil (j / 2) fun l => k (.node l none .nil)) (ih .nil (j / 2) fun r => k (.node .nil none r))) i)
      (fun l x r _ _ => Nat.rec (k (.node l (some v) r)) (fun j _ => cond (Nat.beq (j % 2) 0) (ih l (j / 2) fun l => k (.node l x r)) (ih r (j / 2) fun r => k (.node l x r))) i) t) n

theorem Tr.get_nil {α : Type} (i : Nat) : (Tr.nil : Tr α).get i = none := rfl
theorem Tr.get_node_zero {α : Type} (l r : Tr α) (v : Option α) : (Tr.node l v r).get 0 = v := rfl
theorem Tr.get_node_succ {α : Type} (l r : Tr α) (v : Option α) (j : Nat) : (Tr.node l v r).get (j + 1) = cond (Nat.beq (j % 2) 0) (l.get (j / 2)) (r.get (j / 2)) := rfl

/-- What setK hands on. -/
def Tr.set {α : Type} (v : α) : Nat → Tr α → Nat → Tr α
  | 0, t, _ => t
  | _ + 1, .nil, 0 => .node .nil (some v) .nil
  | n + 1, .nil, j + 1 => cond (Nat.beq (j % 2) 0) (.node (Tr.set v n .nil (j / 2)) none .nil) (.node .nil none (Tr.set v n .nil (j / 2)))
  | _ + 1, .node l _ r, 0 => .node l (some v) r
  | n + 1, .node l x r, j + 1 => cond (Nat.beq (j % 2) 0) (.node (Tr.set v n l (j / 2)) x r) (.node l x (Tr.set v n r (j / 2)))
theorem Tr.setK_eq {α β : Type} (v : α) : ∀ (n : Nat) (t : Tr α) (i : Nat) (k : Tr α → β), Tr.setK v n t i k = k (Tr.set v n t i)
  | 0, _, _, _ => rfl
  | n + 1, .nil, 0, _ => rfl
  | n + 1, .nil, j + 1, k => by
    show cond (Nat.beq (j % 2) 0) (Tr.setK v n .nil (j / 2) fun l => k (.node l none .nil)) (Tr.setK v n .nil (j / 2) fun r => k (.node .nil none r)) = _
    rw [Tr.setK_eq v n, Tr.setK_eq v n]
    simp only [Tr.set]
    cases Nat.beq (j % 2) 0 <;> rfl
  | n + 1, .node l x r, 0, _ => rfl
  | n + 1, .node l x r, j + 1, k => by
    show cond (Nat.beq (j % 2) 0) (Tr.setK v n l (j / 2) fun l => k (.node l x r)) (Tr.setK v n r (j / 2) fun r => k (.node l x r)) = _
    rw [Tr.setK_eq v n, Tr.setK_eq v n]
    simp only [Tr.set]
    cases Nat.beq (j % 2) 0 <;> rfl
theorem half_lt {j n : Nat} (h : j + 1 < 2 ^ (n + 1) - 1) : j / 2 < 2 ^ n - 1 := by
  have : 2 ^ (n + 1) = 2 * 2 ^ n := by rw [Nat.pow_succ]; omega
  omega
theorem Tr.get_set {α : Type} (v : α) : ∀ (n : Nat) (t : Tr α) (i j : Nat), i < 2 ^ n - 1 → (Tr.set v n t i).get j = if i = j then some v else t.get j
  | 0, _, _, _, h => by simp at h
  | n + 1, t, i, j, h => by
    cases i with
    | zero =>
      cases t <;> cases j <;> simp [Tr.set, Tr.get_node_zero, Tr.get_node_succ, Tr.get_nil]
    | succ i =>
      have hi := half_lt h
      cases t with
      | nil =>
        simp only [Tr.set]
        cases hb : Nat.beq (i % 2) 0
        · cases j with
          | zero => simp [Tr.get_node_zero, Tr.get_nil]
          | succ j =>
            simp only [cond_false, Tr.get_node_succ, Tr.get_nil]
            rw [Tr.get_set v n .nil _ _ hi]
            simp only [Tr.get_nil]
            have hb' : i % 2 ≠ 0 := fun e => by rw [e] at hb; cases hb
            cases hc : Nat.beq (j % 2) 0
            · have hc' : j % 2 ≠ 0 := fun e => by rw [e] at hc; cases hc
              have : (i / 2 = j / 2) ↔ (i + 1 = j + 1) := by omega
              simp [this]
            · have hc' : j % 2 = 0 := Nat.eq_of_beq_eq_true hc
              have : ¬ (i + 1 = j + 1) := by omega
              simp; omega
        · cases j with
          | zero => simp [Tr.get_node_zero, Tr.get_nil]
          | succ j =>
            simp only [cond_true, Tr.get_node_succ, Tr.get_nil]
            rw [Tr.get_set v n .nil _ _ hi]
            simp only [Tr.get_nil]
            have hb' : i % 2 = 0 := Nat.eq_of_beq_eq_true hb
            cases hc : Nat.beq (j % 2) 0
            · have hc' : j % 2 ≠ 0 := fun e => by rw [e] at hc; cases hc
              simp; omega
            · have hc' : j % 2 = 0 := Nat.eq_of_beq_eq_true hc
              have : (i / 2 = j / 2) ↔ (i + 1 = j + 1) := by omega
              simp [this]
      | node l x r =>
        simp only [Tr.set]
        cases hb : Nat.beq (i % 2) 0
        · cases j with
          | zero => simp [Tr.get_node_zero]
          | succ j =>
            simp only [cond_false, Tr.get_node_succ]
            rw [Tr.get_set v n r _ _ hi]
            have hb' : i % 2 ≠ 0 := fun e => by rw [e] at hb; cases hb
            cases hc : Nat.beq (j % 2) 0
            · have hc' : j % 2 ≠ 0 := fun e => by rw [e] at hc; cases hc
              have : (i / 2 = j / 2) ↔ (i + 1 = j + 1) := by omega
              simp [this]
            · have hc' : j % 2 = 0 := Nat.eq_of_beq_eq_true hc
              have : ¬ (i + 1 = j + 1) := by omega
              simp; omega
        · cases j with
          | zero => simp [Tr.get_node_zero]
          | succ j =>
            simp only [cond_true, Tr.get_node_succ]
            rw [Tr.get_set v n l _ _ hi]
            have hb' : i % 2 = 0 := Nat.eq_of_beq_eq_true hb
            cases hc : Nat.beq (j % 2) 0
            · have hc' : j % 2 ≠ 0 := fun e => by rw [e] at hc; cases hc
              simp; omega
            · have hc' : j % 2 = 0 := Nat.eq_of_beq_eq_true hc
              have : (i / 2 = j / 2) ↔ (i + 1 = j + 1) := by omega
              simp [this]
/-- Numbers below 2^32 alone. -/
def Tr.put {α β : Type} (t : Tr α) (i : Nat) (v : α) (d : β) (k : Tr α → β) : β := cond (Nat.ble i 4294967290) (Tr.setK v 32 t i k) d
end Go.Ev
