/-
  A reckoner for the program's form over abstract values and memory, run by the kernel, and its proof: if it answers, the form's own run answers so, whatever the tape. Part EvAa. No condition.
-/
import Derived.Test.YtdfbcjoopkiaeaaGreatDoorEvZ
noncomputable section
namespace Go.Ev

variable {X : Fix} {Pr : Nat → Option Obj} {G : Nat → Option Blk} {φ : Nat → Option Nat} {κ : Nat → Nat} {m : Nat → Option Blk} {nx : Nat} {w : World} {E : Env}

/-! ## Sets of operations as numbers -/
def subB (a b : Nat) : Bool := Nat.beq (a ||| b) b
theorem subB_spec {a b : Nat} (h : subB a b = true) (j : Nat) (hj : a.testBit j = true) : b.testBit j = true := by
  have := Nat.eq_of_beq_eq_true h
  rw [← this, Nat.testBit_or, hj]; rfl
theorem bit_self (i : Nat) : (2 ^ i).testBit i = true := by rw [Nat.testBit_two_pow]; simp
theorem bit_two {i j : Nat} (h : (2 ^ i).testBit j = true) : i = j := by rw [Nat.testBit_two_pow] at h; simpa using h
def noBit (m i : Nat) : Bool := Nat.beq (m &&& 2 ^ i) 0
theorem noBit_spec {m i : Nat} (h : noBit m i = true) : m.testBit i = false := by
  have h := Nat.eq_of_beq_eq_true h
  have : (m &&& 2 ^ i).testBit i = false := by rw [h, Nat.zero_testBit]
  rw [Nat.testBit_and, bit_self, Bool.and_true] at this
  exact this
def nthD : List Nat → Nat → Nat
  | [], _ => 0
  | x :: _, 0 => x
  | _ :: l, i + 1 => nthD l i
def bindsB (e : Edge) : Bool := match e.ground with
  | .textOnly _ => false
  | .gcOnly _ => false
  | _ => true
theorem binds_any (e : Edge) : Region.binds .any e = bindsB e := by
  unfold Region.binds bindsB
  cases e.ground <;> rfl
/-- The operations that an operation waits for, and all that those wait for. -/
def maskE (ms : List Nat) : List Edge → Nat
  | [] => 0
  | e :: es => cond (bindsB e) ((nthD ms e.on ||| 2 ^ e.on) ||| maskE ms es) (maskE ms es)
theorem maskE_bit {ms : List Nat} {q : Nat} : ∀ {es : List Edge}, (maskE ms es).testBit q = true ↔ ∃ e ∈ es, bindsB e = true ∧ (q = e.on ∨ (nthD ms e.on).testBit q = true)
  | [] => by simp [maskE]
  | e :: es => by
    simp only [maskE, List.mem_cons, exists_eq_or_imp]
    cases hb : bindsB e
    · simp only [cond_false, maskE_bit (es := es)]; simp
    · simp only [cond_true, Nat.testBit_or, Bool.or_eq_true, maskE_bit (es := es), Nat.testBit_two_pow, decide_eq_true_eq, true_and]
      constructor
      · rintro ((h | h) | h)
        · exact .inl (.inr h)
        · exact .inl (.inl h.symm)
        · exact .inr h
      · rintro ((h | h) | h)
        · exact .inl (.inr h.symm)
        · exact .inl (.inl h)
        · exact .inr h
def snocK : List Nat → Nat → (List Nat → Bool) → Bool
  | [], m, k => k [m]
  | x :: l, m, k => snocK l m fun r => k (x :: r)
theorem snocK_eq : ∀ (l : List Nat) (m : Nat) (k : List Nat → Bool), snocK l m k = k (l ++ [m])
  | [], _, _ => rfl
  | x :: l, m, k => by
    show snocK l m (fun r => k (x :: r)) = _
    rw [snocK_eq l]; rfl
def masksK : List Oper → List Nat → (List Nat → Bool) → Bool
  | [], acc, k => k acc
  | o :: l, acc, k => forceN (maskE acc o.after.toList) fun m => snocK acc m fun acc => masksK l acc k
theorem masksK_sound : ∀ {l : List Oper} {acc : List Nat} {k : List Nat → Bool}, masksK l acc k = true → ∃ ms, k ms = true
  | [], acc, k, h => ⟨acc, h⟩
  | o :: l, acc, k, h => by
    unfold masksK at h
    rw [forceN_eq, snocK_eq] at h
    exact masksK_sound h
def eK : List Oper → Nat → Nat → (Nat → Bool) → Bool
  | [], _, acc, k => k acc
  | o :: l, i, acc, k => forceN (cond (isE o) (acc ||| 2 ^ i) acc) fun acc => forceN (i + 1) fun i => eK l i acc k
theorem eK_sound : ∀ {l : List Oper} {i acc : Nat} {k : Nat → Bool}, eK l i acc k = true → ∃ eb, k eb = true
  | [], _, acc, k, h => ⟨acc, h⟩
  | o :: l, i, acc, k, h => by
    unfold eK at h
    rw [forceN_eq, forceN_eq] at h
    exact eK_sound h
/-- The operations that write a temporary. -/
def dstB (o : Oper) (t : Nat) : Bool := match o.dst with | some d => Nat.beq d t | none => false
def wrL (t : Nat) : List Oper → Nat → Nat
  | [], _ => 0
  | o :: l, i => cond (dstB o t) (2 ^ i ||| wrL t l (i + 1)) (wrL t l (i + 1))
theorem wrL_bit {t : Nat} : ∀ {l : List Oper} {i j : Nat} {o : Oper}, l[j]? = some o → o.dst = some t → (wrL t l i).testBit (i + j) = true
  | [], i, j, o, h, _ => by simp at h
  | p :: l, i, 0, o, h, hd => by
    simp only [List.getElem?_cons_zero, Option.some.injEq] at h
    subst h
    have hb : dstB p t = true := by simp [dstB, hd]
    simp only [wrL, hb, cond_true, Nat.add_zero, Nat.testBit_or, bit_self, Bool.true_or]
  | p :: l, i, j + 1, o, h, hd => by
    rw [List.getElem?_cons_succ] at h
    have := wrL_bit (i := i + 1) h hd
    rw [show i + 1 + j = i + (j + 1) by omega] at this
    simp only [wrL]
    cases dstB p t
    · exact this
    · simp only [cond_true, Nat.testBit_or, this, Bool.or_true]
/-- Members of a set, upward. -/
def listUp (m : Nat) : Nat → Nat → List Nat
  | 0, _ => []
  | f + 1, j => cond (Nat.beq ((m >>> j) &&& 1) 1) (j :: listUp m f (j + 1)) (listUp m f (j + 1))
def orderE (ms : List Nat) (n : Nat) : List Oper → Nat → Nat → List Nat
  | [], _, dn => listUp ((2 ^ n - 1) ^^^ dn) n 0
  | o :: l, i, dn => cond (isE o) (listUp (nthD ms i ^^^ (nthD ms i &&& dn)) n 0 ++ i :: orderE ms n l (i + 1) (dn ||| nthD ms i ||| 2 ^ i)) (orderE ms n l (i + 1) dn)

/-! ## One step of the canonical order -/
def bitB (m j : Nat) : Bool := subB (2 ^ j) m
theorem bitB_spec {m j : Nat} (h : bitB m j = true) : m.testBit j = true := subB_spec h j (bit_self j)
/-- Whoever writes a temporary comes ahead of one who reads it, or waits for him. -/
def laterB (ms : List Nat) (t i mask : Nat) : List Oper → Nat → Bool
  | [], _ => true
  | o :: l, j => and (cond (dstB o t) (or (bitB mask j) (bitB (nthD ms j) i)) true) (laterB ms t i mask l (j + 1))
theorem laterB_spec {ms : List Nat} {t i mask : Nat} : ∀ {l : List Oper} {j0 j : Nat} {o : Oper}, laterB ms t i mask l j0 = true → l[j]? = some o → o.dst = some t → mask.testBit (j0 + j) = true ∨ (nthD ms (j0 + j)).testBit i = true
  | [], _, j, o, _, h, _ => by simp at h
  | p :: l, j0, 0, o, h0, h, hd => by
    simp only [List.getElem?_cons_zero, Option.some.injEq] at h
    subst h
    have hb : dstB p t = true := by simp [dstB, hd]
    simp only [laterB, hb, cond_true, Bool.and_eq_true, Bool.or_eq_true] at h0
    exact h0.1.imp bitB_spec bitB_spec
  | p :: l, j0, j + 1, o, h0, h, hd => by
    rw [List.getElem?_cons_succ] at h
    simp only [laterB, Bool.and_eq_true] at h0
    have := laterB_spec (j0 := j0 + 1) h0.2 h hd
    rw [show j0 + 1 + j = j0 + (j + 1) by omega] at this
    exact this
def opsIn (ops : List Oper) (ms : List Nat) (dn i : Nat) : List Operand → Bool
  | [] => true
  | .tmp t :: l => and (and (subB (wrL t ops 0 &&& dn) (nthD ms i)) (laterB ms t i (nthD ms i) ops 0)) (opsIn ops ms dn i l)
  | _ :: l => opsIn ops ms dn i l
def dstIn (ops : List Oper) (i : Nat) (d : Option Nat) : Bool := match d with
  | some d => Nat.beq (wrL d ops 0) (2 ^ i)
  | none => true
def noGuard (o : Oper) : Bool := match o.guard with | none => true | some _ => false
def statB (ops : List Oper) (ms : List Nat) (dn i : Nat) (o : Oper) : Bool :=
  and (Nat.beq (nthD ms i) (maskE ms o.after.toList)) (and (noBit dn i) (and (subB (nthD ms i) dn) (and (noGuard o) (and (opsIn ops ms dn i o.op.operands.toList) (dstIn ops i o.dst)))))
def ltOpsB (T : Tr AV) (n : Nat) : List Operand → Bool
  | [] => true
  | .tmp t :: l => and (match T.get t with | some u => ltV n u | none => true) (ltOpsB T n l)
  | _ :: l => ltOpsB T n l
def sameAll (E : Env) (T : Tr AV) (o : Oper) (need : Nat) (v : AV) : List (Mem × Nat) → Bool
  | [] => true
  | b :: bs => and (cond (subB need b.2) (and (ltOpsB T b.1.next o.op.operands.toList) (readK E T o b.1 fun u => sameV u v)) true) (sameAll E T o need v bs)
def readAll (E : Env) (T : Tr AV) (o : Oper) (need : Nat) (bs : List (Mem × Nat)) (k : K1) : Bool := match bs with
  | [] => false
  | b :: bs => guardB (ltOpsB T b.1.next o.op.operands.toList) (readK E T o b.1 fun v => guardB (sameAll E T o need v bs) (k v))
abbrev NextK := Nat → Nat → List (Mem × Nat) → Tr AV → Mem → Bool
def stepK (E : Env) (call : CallK) (ops : List Oper) (N : Nat) (ms : List Nat) (eb : Nat) (i dn em : Nat) (bs : List (Mem × Nat)) (T : Tr AV) (M : Mem) (next : NextK) : Bool :=
  nthK ops i fun o => guardB (statB ops ms dn i o) (forceN (dn ||| 2 ^ i) fun dn1 =>
    cond (isE o)
      (guardB (subB (2 ^ i) eb) (guardB (subB dn (nthD ms i)) (guardB (ltOpsB T M.next o.op.operands.toList) (forceN (em ||| 2 ^ i) fun em => opK E call T o M fun v M => setDst T N o.dst v fun T => next dn1 em ((M, em) :: bs) T M))))
      (guardB (noBit eb i) (cond (isA o)
        (allocK E T o M.next fun v e n l => guardB (ltL (M.next + 1) l) (newBlk M (.cells e n l .nil) fun _ M => setDst T N o.dst v fun T => next dn1 em bs T M))
        (cond (isR o)
          (readAll E T o (nthD ms i &&& eb) bs fun v => setDst T N o.dst v fun T => next dn1 em bs T M)
          (guardB (ltOpsB T M.next o.op.operands.toList) (readK E T o ⟨M.next, .nil⟩ fun v => setDst T N o.dst v fun T => next dn1 em bs T M))))))
def walkK (E : Env) (call : CallK) (ops : List Oper) (N : Nat) (ms : List Nat) (eb n : Nat) (order : List Nat) (k : Tr AV → Mem → Bool) : NextK := fun dn em bs T M =>
  recL (A := Nat × Nat × List (Mem × Nat) × Tr AV × Mem) (fun a => match a with | (dn, _, _, T, M) => guardB (Nat.beq dn (2 ^ n - 1)) (k T M))
    (fun i _ ih a => match a with | (dn, em, bs, T, M) => forceN i fun i => stepK E call ops N ms eb i dn em bs T M fun dn em bs T M => ih (dn, em, bs, T, M)) order (dn, em, bs, T, M)
theorem walkK_nil (E : Env) (call : CallK) (ops : List Oper) (N : Nat) (ms : List Nat) (eb n : Nat) (k : Tr AV → Mem → Bool) (dn em : Nat) (bs : List (Mem × Nat)) (T : Tr AV) (M : Mem) :
    walkK E call ops N ms eb n [] k dn em bs T M = guardB (Nat.beq dn (2 ^ n - 1)) (k T M) := rfl
theorem walkK_cons (E : Env) (call : CallK) (ops : List Oper) (N : Nat) (ms : List Nat) (eb n : Nat) (i : Nat) (order : List Nat) (k : Tr AV → Mem → Bool) (dn em : Nat) (bs : List (Mem × Nat)) (T : Tr AV) (M : Mem) :
    walkK E call ops N ms eb n (i :: order) k dn em bs T M = stepK E call ops N ms eb i dn em bs T M (walkK E call ops N ms eb n order k) := by
  show forceN i (fun i => stepK E call ops N ms eb i dn em bs T M fun dn em bs T M => walkK E call ops N ms eb n order k dn em bs T M) = _
  rw [forceN_eq]
def drawK (E : Env) : DrawK := fun call ops N T M k => masksK ops.toList [] fun ms => eK ops.toList 0 0 fun eb => lenK ops.toList fun n =>
  lenK (orderE ms n ops.toList 0 0) fun m => guardB (Nat.beq m n) (walkK E call ops.toList N ms eb n (orderE ms n ops.toList 0 0) k 0 0 [(M, 0)] T M)
end Go.Ev
