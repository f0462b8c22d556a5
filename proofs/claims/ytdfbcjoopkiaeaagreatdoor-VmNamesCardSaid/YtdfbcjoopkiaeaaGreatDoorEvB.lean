/-
  A reckoner for the program's form over abstract values and memory, run by the kernel, and its proof: if it answers, the form's own run answers so, whatever the tape. Part EvB. No condition.
-/
import Derived.Test.YtdfbcjoopkiaeaaGreatDoorEvA
import GoSem.Dispatch
noncomputable section
namespace Go.Ev

/-! ## Values as the reckoner has them: addresses are numbers of its own -/
inductive Cap where
  | k (c : Nat)
  | u (j : Nat)

inductive AV where
  | bool (b : Bool)
  | int (k : IntKind) (n : Int)
  | flo (k : FloatKind) (bits : Nat)
  | str (len code : Nat)
  | nilp
  | ptr (b off : Nat)
  | gptr (g off : Nat)
  | nils
  | slice (b off len : Nat) (c : Cap)
  | nilm
  | map (b : Nat)
  | nilf
  | func (fn : Fn) (first captured : List AV)
  | nili
  | iface (t : TypeId) (v : AV)
  | agg (cs : List AV)
  | tup (vs : List AV)
instance : Inhabited AV := ⟨.nilp⟩

/-- A block of memory. -/
inductive Blk where
  | cells (e n : Nat) (d : List AV) (t : Tr AV)
  | grown (e es n : Nat) (d : List AV) (t : Tr AV)
  | map (es : List (AV × AV × Nat)) (clock : Nat)
  | frz (e n : Nat) (d : List AV) (t : Tr AV)
  | dead

structure Mem where
  next : Nat
  tr : Tr Blk

/-- What is asked of a type. -/
inductive TD where
  | struct (fs : List (Nat × Nat × Nat))
  | array (len elem : Nat)
  | slice (elem : Nat)
  | int (k : IntKind)
  | bool | string | iface | func | uptr
  | pointer (elem : Nat)
  | map (key elem : Nat)
  | other
structure TI where
  d : TD
  agg : Bool
  size : Nat
  bytes : Nat
  zero : List AV

abbrev K1 := AV → Bool
abbrev KM := AV → Mem → Bool

/-- The element of a list at a number. -/
def nthK {α : Type} (l : List α) (i : Nat) (k : α → Bool) : Bool :=
  recL (A := Nat) (fun _ => false) (fun x _ ih i => match i with | 0 => k x | j + 1 => ih j) l i

def lenK {α : Type} (l : List α) (k : Nat → Bool) : Bool := recL (A := Nat) (fun n => k n) (fun _ _ ih n => forceN (n + 1) ih) l 0

def guardB (b : Bool) (k : Bool) : Bool := cond b k false

/-! ### strings: the bytes as one number, the first one lowest -/
def packL : List UInt8 → Nat
  | [] => 0
  | b :: l => b.toNat + 256 * packL l
def packK (l : List UInt8) (k : Nat → Nat → Bool) : Bool :=
  recL (A := Nat → Nat → Bool) (fun k => k 0 0) (fun b _ ih k => ih fun n c => forceN (n + 1) fun n => forceN (b.toNat + 256 * c) fun c => k n c) l k

/-! ### operands -/
def constK (v : Value) (k : K1) : Bool := match v with
  | .bool b => forceB b fun b => k (.bool b)
  | .int kd n => forceI n fun n => k (.int kd n)
  | .float kd n => forceN n fun n => k (.flo kd n)
  | .string s => packK s.data.toList fun n c => k (.str n c)
  | .pointer none => k .nilp
  | .slice none 0 0 => k .nils
  | .map none => k .nilm
  | .nilFunc => k .nilf
  | .nilIface => k .nili
  | _ => false
def constsK (l : List Value) (k : List AV → Bool) : Bool :=
  recL (A := List AV → Bool) (fun k => k []) (fun v _ ih k => constK v fun v => ih fun vs => k (v :: vs)) l k
def constAnyK (v : Value) (k : K1) : Bool := match v with
  | .agg cs => constsK cs.toList fun l => k (.agg l)
  | v => constK v k
def getT (T : Tr AV) (t : Nat) (k : K1) : Bool := match T.get t with | some v => k v | none => false
def evalK (T : Tr AV) (x : Operand) (k : K1) : Bool := match x with
  | .tmp t => getT T t k
  | .const v => constAnyK v k
  | .global g => forceN g fun g => k (.gptr g 0)
  | .func f => forceN f fun f => k (.func (.func f) [] [])
def evalsK (T : Tr AV) (l : List Operand) (k : List AV → Bool) : Bool :=
  recL (A := List AV → Bool) (fun k => k []) (fun x _ ih k => evalK T x fun v => ih fun vs => k (v :: vs)) l k
def evalPartsK (T : Tr AV) (l : List (Nat × Operand)) (k : List (Nat × AV) → Bool) : Bool :=
  recL (A := List (Nat × AV) → Bool) (fun k => k []) (fun x _ ih k => match x with | (i, x) => forceN i fun i => evalK T x fun v => ih fun vs => k ((i, v) :: vs)) l k

/-! ### whole numbers -/
def wrapK (kd : IntKind) (n : Int) (k : K1) : Bool :=
  match n with
  | .ofNat m => (match kd with
      | .i64 => cond (Nat.ble m 9223372036854775807) (forceN m fun m => k (.int kd (.ofNat m))) (forceI (kd.wrap n) fun n => k (.int kd n))
      | .u64 => cond (Nat.ble m 18446744073709551615) (forceN m fun m => k (.int kd (.ofNat m))) (forceI (kd.wrap n) fun n => k (.int kd n))
      | .u8 => forceN (m % 256) fun m => k (.int kd (.ofNat m))
      | .u32 => forceN (m % 4294967296) fun m => k (.int kd (.ofNat m))
      | _ => forceI (kd.wrap n) fun n => k (.int kd n))
  | .negSucc m => (match kd with
      | .i64 => cond (Nat.ble m 9223372036854775807) (forceN m fun m => k (.int kd (.negSucc m))) (forceI (kd.wrap n) fun n => k (.int kd n))
      | _ => forceI (kd.wrap n) fun n => k (.int kd n))
/-- Is one number less than another one, the same as another one. -/
def ltI (a b : Int) : Bool := match a, b with
  | .ofNat a, .ofNat b => Nat.ble (Nat.succ a) b
  | .negSucc _, .ofNat _ => true
  | .ofNat _, .negSucc _ => false  --nt
  | .negSucc a, .negSucc b => Nat.ble (Nat.succ b) a
def eqI (a b : Int) : Bool := match a, b with
  | .ofNat a, .ofNat b => Nat.beq a b
  | .negSucc a, .negSucc b => Nat.beq a b
  | _, _ => false  --nt
def addI (a b : Int) : Int := match a, b with
  | .ofNat a, .ofNat b => .ofNat (a + b)
  | a, b => a + b
def subI (a b : Int) : Int := match a, b with
  | .ofNat a, .ofNat b => cond (Nat.ble b a) (.ofNat (a - b)) (.negSucc (b - a - 1))
  | a, b => a - b
def mulI (a b : Int) : Int := match a, b with
  | .ofNat a, .ofNat b => .ofNat (a * b)
  | a, b => a * b
def sameKind (a b : IntKind) : Bool := match a, b with
  | .i8, .i8 | .i16, .i16 | .i32, .i32 | .i64, .i64 | .u8, .u8 | .u16, .u16 | .u32, .u32 | .u64, .u64 => true
  | _, _ => false  --nt
/-- A number as one without sign, of so many bits. -/
def natBits (kd : IntKind) (n : Int) : Nat := match n with
  | .ofNat m => m % 2 ^ kd.bits
  | .negSucc m => 2 ^ kd.bits - 1 - m % 2 ^ kd.bits
def bitsK (op : BinOp) (kd : IntKind) (a b : Int) (k : K1) : Bool :=
  forceN (natBits kd a) fun x => forceN (natBits kd b) fun y => match op with
  | .and => wrapK kd (.ofNat (Nat.land x y)) k
  | .or => wrapK kd (.ofNat (Nat.lor x y)) k
  | .xor => wrapK kd (.ofNat (Nat.xor x y)) k
  | .andNot => wrapK kd (.ofNat (Nat.land x (2 ^ kd.bits - 1 - y))) k
  | _ => false
def intOpK (op : BinOp) (kd : IntKind) (a b : Int) (k : K1) : Bool := match op with
  | .add => wrapK kd (addI a b) k
  | .sub => wrapK kd (subI a b) k
  | .mul => wrapK kd (mulI a b) k
  | .eql => forceB (eqI a b) fun b => k (.bool b)
  | .neq => forceB (!eqI a b) fun b => k (.bool b)
  | .lss => forceB (ltI a b) fun b => k (.bool b)
  | .leq => forceB (!ltI b a) fun b => k (.bool b)
  | .gtr => forceB (ltI b a) fun b => k (.bool b)
  | .geq => forceB (!ltI a b) fun b => k (.bool b)
  | .quo => (match a, b with
      | .ofNat a, .ofNat (b + 1) => wrapK kd (.ofNat (a / (b + 1))) k
      | _, _ => cond (eqI b 0) false (wrapK kd (a.tdiv b) k))
  | .rem => (match a, b with
      | .ofNat a, .ofNat (b + 1) => forceN (a % (b + 1)) fun m => k (.int kd (.ofNat m))
      | _, _ => cond (eqI b 0) false (forceI (a.tmod b) fun m => k (.int kd m)))
  | .and | .or | .xor | .andNot => bitsK op kd a b k
  | _ => false
def shiftK (op : BinOp) (kd : IntKind) (a b : Int) (k : K1) : Bool := match b with
  | .negSucc _ => false
  | .ofNat b => forceN (cond (Nat.ble b kd.bits) b kd.bits) fun n => match op with
    | .shl => wrapK kd (mulI a (.ofNat (2 ^ n))) k
    | .shr => (match a with
        | .ofNat a => forceN (Nat.shiftRight a n) fun m => k (.int kd (.ofNat m))
        | .negSucc a => forceN (Nat.shiftRight a n) fun m => k (.int kd (.negSucc m)))
    | _ => false

/-! ### equality -/
/-- Is one of two references nothing: are they the same then? -/
def eqNil (x y : AV) (k : Bool → Bool) : Bool := match x, y with
  | .nilp, .nilp => k true
  | .nilp, .ptr _ _ => k false  --nt
  | .nilp, .gptr _ _ => k false
  | .ptr _ _, .nilp => k false
  | .gptr _ _, .nilp => k false
  | _, _ => false
def eqNilS (x y : AV) (k : Bool → Bool) : Bool := match x, y with
  | .nils, .nils => k true
  | .nils, .slice _ _ _ _ => k false
  | .slice _ _ _ _, .nils => k false
  | _, _ => false
def eqNilM (x y : AV) (k : Bool → Bool) : Bool := match x, y with
  | .nilm, .nilm => k true
  | .nilm, .map _ => k false
  | .map _, .nilm => k false
  | _, _ => false
def eqNilF (x y : AV) (k : Bool → Bool) : Bool := match x, y with
  | .nilf, .nilf => k true
  | .nilf, .func _ _ _ => k false
  | .func _ _ _, .nilf => k false
  | _, _ => false
def eqB (a b : Bool) : Bool := match a, b with | true, true => true | false, false => true | _, _ => false  --nt
/-- What no arithmetic is done with. -/
def noNum (x : AV) : Bool := match x with | .int _ _ | .flo _ _ | .str _ _ | .tup _ => false | _ => true  --nt

/-! ### memory -/
def Blk.isDead : Blk → Bool | .dead => true | _ => false  --nt
def blkK (M : Mem) (b : Nat) (k : Blk → Bool) : Bool := match M.tr.get b with | some blk => k blk | none => false
def modK {α : Type} (d : List α) (i : Nat) (k : α → Bool) : Bool := lenK d fun n => forceN (i % n) fun j => nthK d j k
def arrGet (n : Nat) (d : List AV) (t : Tr AV) (i : Nat) (k : K1) : Bool :=
  cond (Nat.ble (Nat.succ i) n) (match t.get i with | some v => k v | none => modK d i k) false
def cellK (blk : Blk) (i : Nat) (k : K1) : Bool := match blk with
  | .cells _ n d t => arrGet n d t i k
  | .grown _ _ n d t => arrGet n d t i k
  | .frz _ n d t => arrGet n d t i k
  | _ => false
/-- So many cells from one on. -/
def cellsK (blk : Blk) (n : Nat) (i : Nat) (k : List AV → Bool) : Bool :=
  recN (A := Nat × (List AV → Bool)) (fun a => a.2 []) (fun _ ih a => match a with | (i, k) => cellK blk i fun v => forceN (i + 1) fun i => ih (i, fun vs => k (v :: vs))) n (i, k)
def setBlk (M : Mem) (b : Nat) (blk : Blk) (k : Mem → Bool) : Bool := M.tr.put b blk false fun tr => k ⟨M.next, tr⟩
def newBlk (M : Mem) (blk : Blk) (k : Nat → Mem → Bool) : Bool := M.tr.put M.next blk false fun tr => forceN (M.next + 1) fun n => k M.next ⟨n, tr⟩
/-- No struct in a cell. -/
def flatV (v : AV) : Bool := match v with | .agg _ | .tup _ => false | _ => true  --nt
def setTrK (t : Tr AV) (n : Nat) (l : List AV) (i : Nat) (k : Tr AV → Bool) : Bool :=
  recL (A := Tr AV × Nat) (fun a => k a.1) (fun v _ ih a => match a with | (t, i) => guardB (Nat.ble (Nat.succ i) n) (guardB (flatV v) (t.put i v false fun t => forceN (i + 1) fun i => ih (t, i)))) l (t, i)
def storeBlk (blk : Blk) (i : Nat) (l : List AV) (k : Blk → Bool) : Bool := match blk with
  | .cells e n d t => setTrK t n l i fun t => k (.cells e n d t)
  | .grown e es n d t => setTrK t n l i fun t => k (.grown e es n d t)
  | _ => false
def storeK (M : Mem) (b i : Nat) (l : List AV) (k : Mem → Bool) : Bool :=
  blkK M b fun blk => storeBlk blk i l fun blk => setBlk M b blk k
def cellsOf (v : AV) : List AV := match v with | .agg cs => cs | v => [v]
end Go.Ev
