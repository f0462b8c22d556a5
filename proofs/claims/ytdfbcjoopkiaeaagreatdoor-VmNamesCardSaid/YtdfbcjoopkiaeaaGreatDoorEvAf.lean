/-
  A reckoner for the program's form over abstract values and memory, run by the kernel, and its proof: if it answers, the form's own run answers so, whatever the tape. Part EvAf. No condition.
-/
import Derived.Test.YtdfbcjoopkiaeaaGreatDoorEvAe
noncomputable section
namespace Go.Ev

/-! ## The same, for the kernel: what a thing is, is asked before all else is at hand -/
def constF (v : Value) : K1 → Bool := match v with
  | .bool b => fun k => forceB b fun b => k (.bool b)
  | .int kd n => fun k => forceI n fun n => k (.int kd n)
  | .float kd n => fun k => forceN n fun n => k (.flo kd n)
  | .string s => fun k => packK s.data.toList fun n c => k (.str n c)
  | .pointer none => fun k => k .nilp
  | .slice none 0 0 => fun k => k .nils
  | .map none => fun k => k .nilm
  | .nilFunc => fun k => k .nilf
  | .nilIface => fun k => k .nili
  | _ => fun _ => false
theorem constF_eq (v : Value) : constF v = constK v := by
  funext k
  unfold constF constK
  split <;> first | rfl | (split <;> first | rfl | simp_all)
def constAnyF (v : Value) : K1 → Bool := match v with
  | .agg cs => fun k => constsK cs.toList fun l => k (.agg l)
  | v => constF v
theorem constAnyF_eq (v : Value) : constAnyF v = constAnyK v := by
  funext k
  cases v <;> first | rfl | (show constF _ k = constK _ k; rw [constF_eq])
def evalF (x : Operand) : Tr AV → K1 → Bool := match x with
  | .tmp t => fun T k => getT T t k
  | .const v => fun _ => constAnyF v
  | .global g => fun _ k => forceN g fun g => k (.gptr g 0)
  | .func f => fun _ k => forceN f fun f => k (.func (.func f) [] [])
theorem evalF_eq (x : Operand) (T : Tr AV) : evalF x T = evalK T x := by
  funext k
  cases x <;> simp only [evalF, evalK, constAnyF_eq]
def wrapI64 (n : Int) : K1 → Bool := match n with
  | .ofNat m => fun k => cond (Nat.ble m 9223372036854775807) (forceN m fun m => k (.int .i64 (.ofNat m))) (forceI (IntKind.wrap .i64 (.ofNat m)) fun n => k (.int .i64 n))
  | .negSucc m => fun k => cond (Nat.ble m 9223372036854775807) (forceN m fun m => k (.int .i64 (.negSucc m))) (forceI (IntKind.wrap .i64 (.negSucc m)) fun n => k (.int .i64 n))
def wrapU64 (n : Int) : K1 → Bool := match n with
  | .ofNat m => fun k => cond (Nat.ble m 18446744073709551615) (forceN m fun m => k (.int .u64 (.ofNat m))) (forceI (IntKind.wrap .u64 (.ofNat m)) fun n => k (.int .u64 n))
  | .negSucc m => fun k => forceI (IntKind.wrap .u64 (.negSucc m)) fun n => k (.int .u64 n)
def wrapU8 (n : Int) : K1 → Bool := match n with
  | .ofNat m => fun k => forceN (m % 256) fun m => k (.int .u8 (.ofNat m))
  | .negSucc m => fun k => forceI (IntKind.wrap .u8 (.negSucc m)) fun n => k (.int .u8 n)
def wrapU32 (n : Int) : K1 → Bool := match n with
  | .ofNat m => fun k => forceN (m % 4294967296) fun m => k (.int .u32 (.ofNat m))
  | .negSucc m => fun k => forceI (IntKind.wrap .u32 (.negSucc m)) fun n => k (.int .u32 n)
def wrapF (kd : IntKind) : Int → K1 → Bool := match kd with
  | .i64 => wrapI64
  | .u64 => wrapU64
  | .u8 => wrapU8
  | .u32 => wrapU32
  | kd => fun n k => forceI (kd.wrap n) fun n => k (.int kd n)
theorem wrapF_eq (kd : IntKind) (n : Int) : wrapF kd n = wrapK kd n := by
  funext k
  cases kd <;> cases n <;> rfl
def bitsF (op : BinOp) : IntKind → Nat → Nat → K1 → Bool := match op with
  | .and => fun kd x y => wrapF kd (.ofNat (Nat.land x y))
  | .or => fun kd x y => wrapF kd (.ofNat (Nat.lor x y))
  | .xor => fun kd x y => wrapF kd (.ofNat (Nat.xor x y))
  | .andNot => fun kd x y => wrapF kd (.ofNat (Nat.land x (2 ^ kd.bits - 1 - y)))
  | _ => fun _ _ _ _ => false
def quoF (a b : Int) : IntKind → K1 → Bool := match a, b with
  | .ofNat a, .ofNat (b + 1) => fun kd k => wrapF kd (.ofNat (a / (b + 1))) k
  | a, b => fun kd k => cond (eqI b 0) false (wrapF kd (a.tdiv b) k)
def remF (a b : Int) : IntKind → K1 → Bool := match a, b with
  | .ofNat a, .ofNat (b + 1) => fun kd k => forceN (a % (b + 1)) fun m => k (.int kd (.ofNat m))
  | a, b => fun kd k => cond (eqI b 0) false (forceI (a.tmod b) fun m => k (.int kd m))
def intOpF (op : BinOp) : IntKind → Int → Int → K1 → Bool := match op with
  | .add => fun kd a b => wrapF kd (addI a b)
  | .sub => fun kd a b => wrapF kd (subI a b)
  | .mul => fun kd a b => wrapF kd (mulI a b)
  | .eql => fun _ a b k => forceB (eqI a b) fun b => k (.bool b)
  | .neq => fun _ a b k => forceB (!eqI a b) fun b => k (.bool b)
  | .lss => fun _ a b k => forceB (ltI a b) fun b => k (.bool b)
  | .leq => fun _ a b k => forceB (!ltI b a) fun b => k (.bool b)
  | .gtr => fun _ a b k => forceB (ltI b a) fun b => k (.bool b)
  | .geq => fun _ a b k => forceB (!ltI a b) fun b => k (.bool b)
  | .quo => fun kd a b k => quoF a b kd k
  | .rem => fun kd a b k => remF a b kd k
  | .and => fun kd a b k => forceN (natBits kd a) fun x => forceN (natBits kd b) fun y => bitsF .and kd x y k
  | .or => fun kd a b k => forceN (natBits kd a) fun x => forceN (natBits kd b) fun y => bitsF .or kd x y k
  | .xor => fun kd a b k => forceN (natBits kd a) fun x => forceN (natBits kd b) fun y => bitsF .xor kd x y k
  | .andNot => fun kd a b k => forceN (natBits kd a) fun x => forceN (natBits kd b) fun y => bitsF .andNot kd x y k
  | _ => fun _ _ _ _ => false
theorem quoF_eq (a b : Int) (kd : IntKind) (k : K1) : quoF a b kd k = intOpK .quo kd a b k := by
  cases a with
  | ofNat a => cases b with
    | ofNat b => cases b <;> simp only [quoF, intOpK, wrapF_eq]
    | negSucc b => simp only [quoF, intOpK, wrapF_eq]
  | negSucc a => cases b <;> simp only [quoF, intOpK, wrapF_eq]
theorem remF_eq (a b : Int) (kd : IntKind) (k : K1) : remF a b kd k = intOpK .rem kd a b k := by
  cases a with
  | ofNat a => cases b with
    | ofNat b => cases b <;> rfl
    | negSucc b => rfl
  | negSucc a => cases b <;> rfl
theorem intOpF_eq (op : BinOp) (kd : IntKind) (a b : Int) : intOpF op kd a b = intOpK op kd a b := by
  funext k
  cases op <;> first | exact quoF_eq a b kd k | exact remF_eq a b kd k | simp only [intOpF, intOpK, bitsK, bitsF, wrapF_eq]
def shiftF (op : BinOp) : IntKind → Int → Nat → K1 → Bool := match op with
  | .shl => fun kd a n => wrapF kd (mulI a (.ofNat (2 ^ n)))
  | .shr => fun kd a n k => (match a with
        | .ofNat a => forceN (Nat.shiftRight a n) fun m => k (.int kd (.ofNat m))
        | .negSucc a => forceN (Nat.shiftRight a n) fun m => k (.int kd (.negSucc m)))
  | _ => fun _ _ _ _ => false
def intsF (op : BinOp) : IntKind → Int → IntKind → Int → K1 → Bool := match op with
  | .shl => fun ka a _ b k => (match b with | .negSucc _ => false | .ofNat b => forceN (cond (Nat.ble b ka.bits) b ka.bits) fun n => shiftF .shl ka a n k)
  | .shr => fun ka a _ b k => (match b with | .negSucc _ => false | .ofNat b => forceN (cond (Nat.ble b ka.bits) b ka.bits) fun n => shiftF .shr ka a n k)
  | op => fun ka a kb b k => guardB (sameKind ka kb) (intOpF op ka a b k)
def strsF (op : BinOp) : Nat → Nat → Nat → Nat → K1 → Bool := match op with
  | .eql => fun n a m b k => forceB (cond (Nat.beq n m) (Nat.beq a b) false) fun b => k (.bool b)
  | .neq => fun n a m b k => forceB (!(cond (Nat.beq n m) (Nat.beq a b) false)) fun b => k (.bool b)
  | .add => fun n a m b k => guardB (Nat.ble (n + m) 4294967296) (forceN (n + m) fun l => forceN (a + b * 2 ^ (8 * n)) fun c => k (.str l c))
  | _ => fun _ _ _ _ _ => false
def restF (op : BinOp) : Env → Bool → Nat → AV → AV → K1 → Bool := match op with
  | .eql => fun E cst t x y k => guardB (noNum x) (guardB (noNum y) (guardB (eqOK E cst t x y) (eqK E 8 t x y fun b => forceB b fun b => k (.bool b))))
  | .neq => fun E cst t x y k => guardB (noNum x) (guardB (noNum y) (guardB (eqOK E cst t x y) (eqK E 8 t x y fun b => forceB (!b) fun b => k (.bool b))))
  | _ => fun _ _ _ _ _ _ => false
def binF (x : AV) : BinOp → Env → Bool → Nat → AV → K1 → Bool := match x with
  | .int ka a => fun op _ _ _ y k => (match y with | .int kb b => intsF op ka a kb b k | _ => false)
  | .str n a => fun op _ _ _ y k => (match y with | .str m b => strsF op n a m b k | _ => false)
  | x => fun op E cst t y k => restF op E cst t x y k
theorem intsF_eq (op : BinOp) (ka kb : IntKind) (a b : Int) (k : K1) : intsF op ka a kb b k = (match op with
    | .shl => shiftK op ka a b k
    | .shr => shiftK op ka a b k
    | _ => guardB (sameKind ka kb) (intOpK op ka a b k)) := by
  cases op <;> first | (simp only [intsF, intOpF_eq]; done) | (cases b <;> first | rfl | (simp only [intsF, shiftK, shiftF, wrapF_eq]; done) | (cases a <;> rfl))
theorem guardB_false (b : Bool) : guardB b false = false := by cases b <;> rfl
theorem binF_eq (x : AV) (op : BinOp) (E : Env) (cst : Bool) (t : Nat) (y : AV) (k : K1) : binF x op E cst t y k = binK E op cst t x y k := by
  have hrest : ∀ x y : AV, restF op E cst t x y k = guardB (noNum x) (guardB (noNum y) (guardB (eqOK E cst t x y) (match op with
      | .eql => eqK E 8 t x y fun b => forceB b fun b => k (.bool b)
      | .neq => eqK E 8 t x y fun b => forceB (!b) fun b => k (.bool b)
      | _ => false))) := by
    intro x y
    cases op <;> simp only [restF, guardB_false]
  cases x with
  | int ka a =>
    cases y with
    | int kb b => simp only [binF, binK, intsF_eq]; cases op <;> rfl
    | _ => rfl
  | str n a =>
    cases y with
    | str m b => simp only [binF, binK]; cases op <;> rfl
    | _ => rfl
  | _ =>
    simp only [binF]
    rw [hrest]
    cases y <;> rfl
end Go.Ev
