/-
  A reckoner for the program's form over abstract values and memory, run by the kernel, and its proof: if it answers, the form's own run answers so, whatever the tape. Part EvC. No condition.
-/
import Derived.Test.YtdfbcjoopkiaeaaGreatDoorEvB
noncomputable section
namespace Go.Ev

structure Env where
  P : Program
  types : Tr TI
  funcs : Tr Func
  exts : Tr Nat
  globs : Tr (List AV)

def tyK (E : Env) (t : Nat) (k : TI → Bool) : Bool := match E.types.get t with | some i => k i | none => false

/-! ### the tables, out of the program -/
def fieldsK (P : Program) (l : List Field) (k : List (Nat × Nat × Nat) → Bool) : Bool :=
  recL (A := List (Nat × Nat × Nat) → Bool) (fun k => k []) (fun f _ ih k => match P.info? f.type with
    | some i => cond (f.name == "_") false (forceN f.offset fun o => forceN f.type fun t => forceN i.size fun s => ih fun r => k ((o, t, s) :: r))
    | none => false) l k
def mkTI (P : Program) (i : TypeInfo) (d : TypeDesc) (k : TI → Bool) : Bool := match i.zero with
  | none => false
  | some z => constsK z.cells.toList fun zs => lenK zs fun n => forceN i.size fun size => guardB (Nat.beq n size) (forceN i.bytes fun bytes => match d with
    | .struct fs => fieldsK P fs.toList fun fs => k ⟨.struct fs, true, size, bytes, zs⟩
    | .array n e => forceN n fun n => forceN e fun e => k ⟨.array n e, true, size, bytes, zs⟩
    | .slice e => forceN e fun e => k ⟨.slice e, false, size, bytes, zs⟩
    | .int kd => k ⟨.int kd, false, size, bytes, zs⟩
    | .bool => k ⟨.bool, false, size, bytes, zs⟩
    | .string => k ⟨.string, false, size, bytes, zs⟩
    | .interface _ => k ⟨.iface, false, size, bytes, zs⟩
    | .func _ _ _ => k ⟨.func, false, size, bytes, zs⟩
    | .unsafePointer => k ⟨.uptr, false, size, bytes, zs⟩
    | .pointer e => forceN e fun e => k ⟨.pointer e, false, size, bytes, zs⟩
    | .map a b => forceN a fun a => forceN b fun b => k ⟨.map a b, false, size, bytes, zs⟩
    | _ => k ⟨.other, false, size, bytes, zs⟩)
def addTy (P : Program) (t : Nat) (T : Tr TI) (k : Tr TI → Bool) : Bool := match P.info? t, P.underlying t with
  | some i, some d => mkTI P i d fun ti => T.put t ti false k
  | _, _ => false
def addTys (P : Program) (l : List Nat) (T : Tr TI) (k : Tr TI → Bool) : Bool :=
  recL (A := Tr TI) k (fun t _ ih T => addTy P t T ih) l T
def addFn (P : Program) (f : Nat) (T : Tr Func) (k : Tr Func → Bool) : Bool := match P.funcs[f]? with
  | some fn => (match fn.body with
    | some _ => cond (fn.name == "runtime.NumGoroutine") false (T.put f fn false k)
    | none => false)
  | none => false
def addFns (P : Program) (l : List Nat) (T : Tr Func) (k : Tr Func → Bool) : Bool :=
  recL (A := Tr Func) k (fun f _ ih T => addFn P f T ih) l T

/-! ### operations -/
def loadK (E : Env) (t : Nat) (a : AV) (M : Mem) (k : K1) : Bool := tyK E t fun ti => match a with
  | .ptr b off => blkK M b fun blk => cond ti.agg (cellsK blk ti.size off fun l => k (.agg l)) (cellK blk off k)
  | .gptr g off => (match E.globs.get g with
    | some l => cond ti.agg false (nthK l off k)
    | none => false)
  | _ => false
def storeAtK (E : Env) (t : Nat) (a v : AV) (M : Mem) (k : Mem → Bool) : Bool := tyK E t fun ti => match a with
  | .ptr b off => lenK (cellsOf v) fun n => guardB (Nat.beq n ti.size) (storeK M b off (cellsOf v) k)
  | _ => false
def newVarK (t : Nat) (v : AV) (M : Mem) (k : KM) : Bool := lenK (cellsOf v) fun n => newBlk M (.cells t n (cellsOf v) .nil) fun b M => k (.ptr b 0) M
/-- A list with others laid over it from a place on. -/
def overK (l : List AV) (off : Nat) (vs : List AV) (k : List AV → Bool) : Bool :=
  recL (A := Nat × List AV × (List AV → Bool)) (fun a => match a with | (_, [], k) => k [] | (_, _ :: _, _) => false)
    (fun x _ ih a => match a with
      | (0, [], k) => ih (0, [], fun r => k (x :: r))
      | (0, v :: vs, k) => ih (0, vs, fun r => k (v :: r))
      | (off + 1, vs, k) => ih (off, vs, fun r => k (x :: r))) l (off, vs, k)
def fillK (place : Nat → (Nat → Nat → Bool) → Bool) (cells : List AV) (ps : List (Nat × AV)) (k : List AV → Bool) : Bool :=
  recL (A := List AV) k (fun p _ ih cells => match p with
    | (i, v) => place i fun off size => lenK (cellsOf v) fun n => guardB (Nat.beq n size) (guardB (Nat.ble 1 n) (overK cells off (cellsOf v) ih))) ps cells
def fieldPlace (fs : List (Nat × Nat × Nat)) (i : Nat) (k : Nat → Nat → Bool) : Bool :=
  nthK fs i fun f => match f with | (off, _, size) => k off size
def buildK (E : Env) (t : Nat) (ps : List (Nat × AV)) (k : K1) : Bool := tyK E t fun ti => match ti.d with
  | .struct fs => fillK (fieldPlace fs) ti.zero ps fun l => k (.agg l)
  | .array _ e => tyK E e fun te => fillK (fun i k => forceN (i * te.size) fun o => k o te.size) ti.zero ps fun l => k (.agg l)
  | _ => false
def appK (a b : List AV) (k : List AV → Bool) : Bool :=
  recL (A := List AV → Bool) (fun k => k b) (fun x _ ih k => ih fun r => k (x :: r)) a k
def repK (z : List AV) (n : Nat) (k : List AV → Bool) : Bool :=
  recN (A := List AV → Bool) (fun k => k []) (fun _ ih k => ih fun r => appK z r k) n k
def buildSliceK (E : Env) (t len : Nat) (ps : List (Nat × AV)) (M : Mem) (k : KM) : Bool := tyK E t fun ti => match ti.d with
  | .slice e => tyK E e fun te => guardB (Nat.ble 1 te.size) (guardB (Nat.ble (len * te.size) 16777216) (forceN len fun len => repK te.zero len fun cells =>
      fillK (fun i k => forceN (i * te.size) fun o => k o te.size) cells ps fun l =>
      lenK l fun n => guardB (Nat.beq n (len * te.size)) (newBlk M (.cells e n l .nil) fun b M => k (.slice b 0 len (.k len)) M)))
  | _ => false
def makeSliceK (E : Env) (t : Nat) (len cap : AV) (M : Mem) (k : KM) : Bool := tyK E t fun ti => match ti.d, len, cap with
  | .slice e, .int _ (.ofNat l), .int _ (.ofNat c) => tyK E e fun te =>
      guardB (Nat.ble l c) (guardB (Nat.ble c 4294967296) (guardB (Nat.ble te.bytes 65536) (guardB (Nat.ble 1 te.size) (forceN (c * te.size) fun n => forceN l fun l => forceN c fun c =>
        newBlk M (.cells e n te.zero .nil) fun b M => k (.slice b 0 l (.k c)) M))))
  | _, _, _ => false
def natIx (v : AV) (k : Nat → Bool) : Bool := match v with | .int _ (.ofNat n) => k n | _ => false
def indexAddrK (E : Env) (t : Nat) (x ix : AV) (k : K1) : Bool := tyK E t fun ti => natIx ix fun i => match ti.d, x with
  | .slice e, .slice b off len _ => tyK E e fun te => guardB (Nat.ble (Nat.succ i) len) (forceN (off + i * te.size) fun o => k (.ptr b o))
  | .array len e, .ptr b off => tyK E e fun te => guardB (Nat.ble (Nat.succ i) len) (forceN (off + i * te.size) fun o => k (.ptr b o))
  | .array len e, .gptr g off => tyK E e fun te => guardB (Nat.ble (Nat.succ i) len) (forceN (off + i * te.size) fun o => k (.gptr g o))
  | _, _ => false
def fieldAddrK (E : Env) (t : Nat) (x : AV) (f : Nat) (k : K1) : Bool := tyK E t fun ti => match ti.d with
  | .struct fs => nthK fs f fun p => guardB (Nat.ble 1 p.2.2) (match x with
      | .ptr b off => forceN (off + p.1) fun o => k (.ptr b o)
      | .gptr g off => forceN (off + p.1) fun o => k (.gptr g o)
      | _ => false)
  | _ => false
/-- So many of a list, from a place on. -/
def subK (l : List AV) (off n : Nat) (k : List AV → Bool) : Bool :=
  recL (A := Nat × Nat × (List AV → Bool)) (fun a => match a with | (_, 0, k) => k [] | (_, _ + 1, _) => false)
    (fun x _ ih a => match a with
      | (off + 1, n, k) => ih (off, n, k)
      | (0, 0, k) => k []
      | (0, n + 1, k) => ih (0, n, fun r => k (x :: r))) l (off, n, k)
def partK (E : Env) (t : Nat) (cs : List AV) (off : Nat) (k : K1) : Bool := tyK E t fun ti =>
  cond ti.agg (subK cs off ti.size fun l => k (.agg l)) (nthK cs off k)
def fieldK (E : Env) (t : Nat) (x : AV) (f : Nat) (k : K1) : Bool := tyK E t fun ti => match ti.d, x with
  | .struct fs, .agg cs => nthK fs f fun p => partK E p.2.1 cs p.1 k
  | _, _ => false
def byteAt (n c i : Nat) (k : K1) : Bool := guardB (Nat.ble (Nat.succ i) n) (forceN (Nat.shiftRight c (8 * i) % 256) fun b => k (.int .u8 (.ofNat b)))
def indexK (E : Env) (t : Nat) (x ix : AV) (k : K1) : Bool := tyK E t fun ti => natIx ix fun i => match ti.d, x with
  | .string, .str n c => byteAt n c i k
  | .array len e, .agg cs => tyK E e fun te => guardB (Nat.ble (Nat.succ i) len) (partK E e cs (i * te.size) k)
  | _, _ => false
def optNat (v : Option AV) (d : Nat) (k : Nat → Bool) : Bool := match v with | none => k d | some v => natIx v k
def okHM (hi mx : Option AV) : Bool := match hi, mx with | none, some _ => false | _, _ => true
def sliceK (E : Env) (t : Nat) (x : AV) (lo hi mx : Option AV) (k : K1) : Bool := guardB (okHM hi mx) (tyK E t fun ti => match ti.d, x with
  | .string, .str n c => (match mx with
    | none => optNat hi n fun h => optNat lo 0 fun l => guardB (Nat.ble h n) (guardB (Nat.ble l h) (forceN (h - l) fun n => forceN (Nat.shiftRight c (8 * l) % 2 ^ (8 * n)) fun c => k (.str n c)))
    | some _ => false)
  | .slice e, .slice b off len cap => tyK E e fun te => (match cap with
    | .k c => optNat mx c fun m => optNat hi len fun h => optNat lo 0 fun l => guardB (Nat.ble m c) (guardB (Nat.ble h m) (guardB (Nat.ble l h)
        (forceN (cond (Nat.beq m l) off (off + l * te.size)) fun o => forceN (h - l) fun n => forceN (m - l) fun m => k (.slice b o n (.k m)))))
    | .u j => (match mx with
      | none => optNat hi len fun h => optNat lo 0 fun l => guardB (Nat.ble h len) (guardB (Nat.ble l h)
          (cond (Nat.beq l 0) (forceN h fun h => k (.slice b off h (.u j)))
            (guardB (Nat.ble (Nat.succ l) len) (forceN (off + l * te.size) fun o => forceN (h - l) fun n => forceN (j + l) fun j => k (.slice b o n (.u j))))))
      | some m => natIx m fun m => optNat hi len fun h => optNat lo 0 fun l => guardB (Nat.ble m len) (guardB (Nat.ble h m) (guardB (Nat.ble l h)
          (forceN (cond (Nat.beq m l) off (off + l * te.size)) fun o => forceN (h - l) fun n => forceN (m - l) fun m => k (.slice b o n (.k m)))))))
  | .slice e, .nils => tyK E e fun _ => optNat mx 0 fun m => optNat hi 0 fun h => optNat lo 0 fun l => guardB (Nat.beq m 0) (guardB (Nat.beq h 0) (guardB (Nat.beq l 0) (k .nils)))
  | .array n e, .ptr b off => tyK E e fun te => optNat mx n fun m => optNat hi n fun h => optNat lo 0 fun l => guardB (Nat.ble m n) (guardB (Nat.ble h m) (guardB (Nat.ble l h)
        (forceN (cond (Nat.beq m l) off (off + l * te.size)) fun o => forceN (h - l) fun n => forceN (m - l) fun m => k (.slice b o n (.k m)))))
  | _, _ => false)
def convertK (E : Env) (src dst : Nat) (x : AV) (M : Mem) (k : KM) : Bool := tyK E src fun ts => tyK E dst fun td => match td.d, x with
  | .int kd, .int _ n => wrapK kd n fun v => k v M
  | .string, .str n c => k (.str n c) M
  | .uptr, .ptr b off => (match ts.d with
    | .pointer e => tyK E e fun te => guardB (Nat.ble 1 te.size) (blkK M b fun blk => cellK blk off fun _ => k (.ptr b off) M)
    | _ => false)
  | .pointer e, .ptr b off => (match ts.d with
    | .uptr => tyK E e fun _ => blkK M b fun blk => (match blk with
      | .cells e' n _ _ => cond (liesAt E.P E.P.depth e' (n / E.P.cellsOf e') off e 1) (k (.ptr b off) M) false
      | _ => false)
    | _ => false)
  | _, _ => false
def unK (op : UnOp) (x : AV) (k : K1) : Bool := match op, x with
  | .not, .bool b => forceB (!b) fun b => k (.bool b)
  | .neg, .int kd n => wrapK kd (subI 0 n) k
  | _, _ => false
/-- Equality of two values of one type; n: how deep types may lie in one another. -/
def eqKrec (E : Env) (n : Nat) : Nat × AV × AV × (Bool → Bool) → Bool :=
  recN (A := Nat × AV × AV × (Bool → Bool)) (fun _ => false) (fun _ ih a => match a with
    | (t, x, y, k) => tyK E t fun ti => match ti.d, x, y with
      | .bool, .bool a, .bool b => forceB (eqB a b) k
      | .int _, .int ka a, .int kb b => guardB (sameKind ka kb) (forceB (eqI a b) k)
      | .string, .str n a, .str m b => forceB (cond (Nat.beq n m) (Nat.beq a b) false) k
      | .pointer _, x, y => eqNil x y k
      | .slice _, x, y => eqNilS x y k
      | .map _ _, x, y => eqNilM x y k
      | .func, x, y => eqNilF x y k
      | .iface, .nili, .nili => k true
      | .iface, .nili, .iface _ _ => k false
      | .iface, .iface _ _, .nili => k false
      | .struct fs, .agg xs, .agg ys => cond (E.P.stoodInHeld t) false
        (recL (A := Bool → Bool) (fun k => k true) (fun f _ more k => partK E f.2.1 xs f.1 fun u => partK E f.2.1 ys f.1 fun v => ih (f.2.1, u, v, fun b => match b with | true => more k | false => k false)) fs k)
      | _, _, _ => false) n
def eqK (E : Env) (n : Nat) (t : Nat) (x y : AV) (k : Bool → Bool) : Bool := eqKrec E n (t, x, y, k)
/-- Does nothing stand in the way of a comparison? -/
def eqOK (E : Env) (cst : Bool) (t : Nat) (x y : AV) : Bool := match x, y with
  | .nili, .nili => cst  --nt
  | .agg _, .agg _ => !(E.P.eqGuardType E.P.depth t)
  | _, _ => true  --nt
def binK (E : Env) (op : BinOp) (cst : Bool) (t : Nat) (x y : AV) (k : K1) : Bool := match x, y with
  | .int ka a, .int kb b => (match op with
    | .shl => shiftK op ka a b k
    | .shr => shiftK op ka a b k
    | _ => guardB (sameKind ka kb) (intOpK op ka a b k))
  | .str n a, .str m b => (match op with
    | .eql => forceB (cond (Nat.beq n m) (Nat.beq a b) false) fun b => k (.bool b)
    | .neq => forceB (!(cond (Nat.beq n m) (Nat.beq a b) false)) fun b => k (.bool b)
    | .add => guardB (Nat.ble (n + m) 4294967296) (forceN (n + m) fun l => forceN (a + b * 2 ^ (8 * n)) fun c => k (.str l c))
    | _ => false)
  | x, y => guardB (noNum x) (guardB (noNum y) (guardB (eqOK E cst t x y) (match op with
    | .eql => eqK E 8 t x y fun b => forceB b fun b => k (.bool b)
    | .neq => eqK E 8 t x y fun b => forceB (!b) fun b => k (.bool b)
    | _ => false)))
def lenOpK (d : TD) (x : AV) (k : K1) : Bool := match d, x with
  | .string, .str n _ => k (.int .i64 (.ofNat n))
  | .slice _, .slice _ _ n _ => k (.int .i64 (.ofNat n))
  | .slice _, .nils => k (.int .i64 (.ofNat 0))
  | .map _ _, .nilm => k (.int .i64 (.ofNat 0))
  | .array n _, _ => k (.int .i64 (.ofNat n))
  | _, _ => false
def capOpK (d : TD) (x : AV) (k : K1) : Bool := match d, x with
  | .slice _, .slice _ _ _ (.k c) => k (.int .i64 (.ofNat c))
  | .slice _, .nils => k (.int .i64 (.ofNat 0))
  | _, _ => false
/-- The bytes of a text as values, so many. -/
def strCells (n c : Nat) (k : List AV → Bool) : Bool :=
  recN (A := Nat × (List AV → Bool)) (fun a => a.2 []) (fun _ ih a => match a with | (c, k) => forceN (c % 256) fun b => forceN (c / 256) fun c => ih (c, fun r => k (.int .u8 (.ofNat b) :: r))) n (c, k)
/-- The first cells of what is appended, or copied, and how many elements. -/
def srcK (es : Nat) (x : AV) (M : Mem) (k : Nat → List AV → Bool) : Bool := match x with
  | .nils => k 0 []
  | .str n c => guardB (Nat.beq es 1) (strCells n c fun l => k n l)
  | .slice b off n _ => blkK M b fun blk => cellsK blk (n * es) off fun l => k n l
  | _ => false
def growK (e es need : Nat) (old new : List AV) (M : Mem) (k : KM) : Bool :=
  appK old new fun l => forceN (need * es) fun n => newBlk M (.grown e es n l .nil) fun b M => k (.slice b 0 need (.u 0)) M
def appendK (E : Env) (t : Nat) (s x : AV) (M : Mem) (k : KM) : Bool := tyK E t fun ti => match ti.d with
  | .slice e => tyK E e fun te => guardB (Nat.ble 1 te.size) (guardB (Nat.ble te.bytes 65536) (srcK te.size x M fun n new => match s with
    | .nils => cond (Nat.beq n 0) (k .nils M) (guardB (Nat.ble n 16777216) (growK e te.size n [] new M k))
    | .slice b off len cap => forceN (len + n) fun need => guardB (Nat.ble need 16777216) (match cap with
      | .k c => cond (Nat.ble need c) (storeK M b (off + len * te.size) new fun M => k (.slice b off need (.k c)) M)
          (blkK M b fun blk => cellsK blk (len * te.size) off fun old => growK e te.size need old new M k)
      | .u j => blkK M b fun blk => (match blk with
        | .grown e' es n0 d tr => guardB (Nat.beq e e') (guardB (Nat.beq es te.size)
            (cond (Nat.ble (off + need * es) n0) (guardB (Nat.beq off (j * es)) (storeK M b (off + len * es) new fun M => k (.slice b off need (.u j)) M))
              (guardB (Nat.beq off 0) (guardB (Nat.beq j 0) (guardB (Nat.beq (len * es) n0) (forceN (need * es) fun n1 =>
                setTrK tr n1 new n0 fun tr => setBlk M b .dead fun M => newBlk M (.grown e es n1 d tr) fun b M => k (.slice b 0 need (.u 0)) M))))))
        | _ => false))
    | _ => false))
  | _ => false
def copyK (E : Env) (t : Nat) (d s : AV) (M : Mem) (k : KM) : Bool := tyK E t fun ti => match ti.d, d with
  | .slice e, .slice b off len _ => tyK E e fun te => (match s with
    | .nils => k (.int .i64 (.ofNat 0)) M
    | .slice b' off' n _ => forceN (cond (Nat.ble n len) n len) fun n => blkK M b' fun blk => cellsK blk (n * te.size) off' fun l => storeK M b off l fun M => k (.int .i64 (.ofNat n)) M
    | .str n c => forceN (cond (Nat.ble n len) n len) fun n => guardB (Nat.beq te.size 1) (strCells n c fun l => storeK M b off l fun M => k (.int .i64 (.ofNat n)) M)
    | _ => false)
  | .slice e, .nils => tyK E e fun _ => (match s with | .nils | .slice _ _ _ _ | .str _ _ => k (.int .i64 (.ofNat 0)) M | _ => false)
  | _, _ => false
def maxK (big : Bool) (l : List AV) (k : K1) : Bool := match l with
  | [] => false
  | x :: l => recL (A := AV) (fun x => match x with | .int _ _ => k x | _ => false) (fun y _ ih x => match x, y with
    | .int ka a, .int kb b => guardB (sameKind ka kb) (cond (cond big (ltI a b) (ltI b a)) (ih (.int ka b)) (ih (.int ka a)))
    | _, _ => false) l x
/-- Bytes as a text. -/
def bytesK (l : List AV) (k : Nat → Nat → Bool) : Bool :=
  recL (A := Nat → Nat → Bool) (fun k => k 0 0) (fun v _ ih k => match v with
    | .int .u8 (.ofNat b) => guardB (Nat.ble b 255) (ih fun n c => forceN (n + 1) fun n => forceN (b + 256 * c) fun c => k n c)
    | _ => false) l k
def usliceK (x : AV) (k : K1) : Bool := match x with
  | .slice b off len (.u _) => guardB (Nat.ble 1 len) (k (.ptr b off))
  | .slice b off _ (.k c) => guardB (Nat.ble 1 c) (k (.ptr b off))
  | .nils => k .nilp
  | _ => false
def freezeK (E : Env) (t : Nat) (p n : AV) (M : Mem) (k : KM) : Bool := tyK E t fun ti => natIx n fun n => match ti.d, p with
  | .pointer u, .ptr b off => cond (Nat.beq n 0) (k (.str 0 0) M) (guardB (Nat.ble n 16777216) (blkK M b fun blk => cellsK blk n off fun l => bytesK l fun m c => (match blk with
    | .cells e n0 d tr => tyK E e fun te => guardB (Nat.beq te.size 1) (cond (sameLayout E.P E.P.depth e u) (setBlk M b (.frz e n0 d tr) fun M => k (.str m c) M) false)
    | .grown e es n0 d tr => tyK E e fun te => guardB (Nat.beq te.size 1) (guardB (Nat.beq es 1) (cond (sameLayout E.P E.P.depth e u) (setBlk M b (.frz e n0 d tr) fun M => k (.str m c) M) false))
    | _ => false)))
  | .pointer _, .nilp => guardB (Nat.beq n 0) (k (.str 0 0) M)
  | _, _ => false
def builtinK (E : Env) (b : Builtin) (ats : List TypeId) (args : List AV) (M : Mem) (k : KM) : Bool := match b, ats, args with
  | .len, t :: _, [x] => tyK E t fun ti => lenOpK ti.d x fun v => k v M
  | .cap, t :: _, [x] => tyK E t fun ti => capOpK ti.d x fun v => k v M
  | .append, t :: t2 :: _, [s, x] => tyK E t2 fun ti => (match ti.d with | .slice _ => appendK E t s x M k | .string => appendK E t s x M k | _ => false)
  | .append, [t], [s, x] => appendK E t s x M k
  | .copy, t :: _, [d, s] => copyK E t d s M k
  | .unsafeSliceData, _, [x] => usliceK x fun v => k v M
  | .unsafeString, t :: _, [p, n] => freezeK E t p n M k
  | .max, _, l => maxK true l fun v => k v M
  | .min, _, l => maxK false l fun v => k v M
  | _, _, _ => false
def typeAssertK (E : Env) (x : AV) (t : Nat) (ok : Bool) (k : K1) : Bool := tyK E t fun ti => match ti.d with
  | .iface => false
  | .other => false
  | _ => (match x with
    | .iface u v => cond (Nat.beq u t) (cond ok (k (.tup [v, .bool true])) (k v)) false
    | _ => false)
def extractK (x : AV) (i : Nat) (k : K1) : Bool := match x with | .tup vs => nthK vs i k | _ => false
def optEvalK (T : Tr AV) (x : Option Operand) (k : Option AV → Bool) : Bool := match x with | none => k none | some x => evalK T x fun v => k (some v)
def findMeth (l : List Method) (name : String) (k : Nat → Bool → Bool) : Bool :=
  recL (A := Unit) (fun _ => false) (fun m _ ih _ => cond (m.name == name) (match m.path.isEmpty, m.func with | true, some (f, p) => forceN f fun f => forceB p fun p => k f p | _, _ => false) (ih ())) l ()

def isC (x : Operand) : Bool := match x with | .const _ => true | _ => false
abbrev CallK := Nat → List AV → Mem → KM → Bool
def invokeK (E : Env) (call : CallK) (r : AV) (name : String) (args : List AV) (M : Mem) (k : KM) : Bool := match r with
  | .iface t v => (match E.P.info? t with
    | some i => findMeth i.methods.toList name fun f p => tyK E t fun ti => (match ti.d, p with
      | .pointer _, true => call f (v :: args) M k
      | .pointer e, false => (match v with | .ptr _ _ => loadK E e v M fun v => call f (v :: args) M k | _ => false)
      | .other, _ => false
      | _, false => call f (v :: args) M k
      | _, true => false)
    | none => false)
  | _ => false
def funcK (call : CallK) (f : AV) (args : List AV) (M : Mem) (k : KM) : Bool := match f with
  | .func (.func g) first captured => appK first args fun l => appK l captured fun l => call g l M k
  | _ => false
def opK (E : Env) (call : CallK) (T : Tr AV) (o : Oper) (M : Mem) (k : KM) : Bool := match o.op with
  | .move x => evalK T x fun v => k v M
  | .assign x => evalK T x fun v => k v M
  | .pick c a b => evalK T c fun c => (match c with | .bool true => evalK T a fun v => k v M | .bool false => evalK T b fun v => k v M | _ => false)
  | .alloc e => tyK E e fun ti => lenK ti.zero fun n => forceN e fun e => newBlk M (.cells e n ti.zero .nil) fun b M => k (.ptr b 0) M
  | .box e x => forceN e fun e => evalK T x fun v => newVarK e v M k
  | .build t ps => evalPartsK T ps.toList fun ps => buildK E t ps fun v => k v M
  | .buildSlice t n ps => evalPartsK T ps.toList fun ps => buildSliceK E t n ps M k
  | .load t a => evalK T a fun a => loadK E t a M fun v => k v M
  | .store t a x => evalK T a fun a => evalK T x fun v => storeAtK E t a v M fun M => k (.tup []) M
  | .nilCheck x => evalK T x fun v => (match v with | .ptr _ _ => k v M | .gptr _ _ => k v M | _ => false)
  | .binOp op t x0 y0 _ => evalK T x0 fun x => evalK T y0 fun y => binK E op (isC x0 || isC y0) t x y fun v => k v M
  | .unOp op _ x => evalK T x fun x => unK op x fun v => k v M
  | .convert s d x => evalK T x fun x => convertK E s d x M k
  | .makeInterface t x => tyK E t fun ti => (match ti.d with | .iface => false | .other => false | _ => forceN t fun t => evalK T x fun x => k (.iface t x) M)
  | .makeFunc fn first cap => evalsK T first.toList fun first => evalsK T cap.toList fun cap => k (.func fn first cap) M
  | .makeMap _ r => (match r with | none => newBlk M (.map [] 0) fun b M => k (.map b) M | some _ => false)
  | .makeSlice t l c => evalK T l fun l => evalK T c fun c => makeSliceK E t l c M k
  | .slice t x lo hi mx => evalK T x fun x => optEvalK T lo fun lo => optEvalK T hi fun hi => optEvalK T mx fun mx => sliceK E t x lo hi mx fun v => k v M
  | .fieldAddr t x f => evalK T x fun x => fieldAddrK E t x f fun v => k v M
  | .field t x f => evalK T x fun x => fieldK E t x f fun v => k v M
  | .indexAddr t x i => evalK T x fun x => evalK T i fun i => indexAddrK E t x i fun v => k v M
  | .index t x i => evalK T x fun x => evalK T i fun i => indexK E t x i fun v => k v M
  | .typeAssert x _ t ok => evalK T x fun x => typeAssertK E x t ok fun v => k v M
  | .extract x i => evalK T x fun x => extractK x i fun v => k v M
  | .call c => evalsK T c.args.toList fun args => (match c.callee with
    | .builtin b => builtinK E b c.argTypes.toList args M k
    | .value f => evalK T f fun f => funcK call f args M k
    | .invoke r name => evalK T r fun r => invokeK E call r name args M k)
  | _ => false

/-! ### code -/
inductive AEx where | normal | exit (id : Nat) | ret
abbrev KC := AEx → Tr AV → Mem → Bool
def setDst (T : Tr AV) (N : Nat) (d : Option Nat) (v : AV) (k : Tr AV → Bool) : Bool := match d with
  | none => k T
  | some d => guardB (Nat.ble (Nat.succ d) N) (T.put d v false k)
def dstOf (ops : List Oper) (j : Nat) (k : Nat → Bool) : Bool := nthK ops j fun o => match o.dst with | some d => k d | none => false
def guardK (ops : List Oper) (T : Tr AV) (g : Option (Nat × Bool)) (yes no : Bool) : Bool := match g with
  | none => yes
  | some (j, want) => dstOf ops j fun d => getT T d fun v => match v, want with
    | .bool true, true | .bool false, false => yes
    | .bool true, false | .bool false, true => no
    | .tup _, _ => no
    | _, _ => false
def opsK (E : Env) (call : CallK) (all : List Oper) (N : Nat) (l : List Oper) (T : Tr AV) (M : Mem) (k : Tr AV → Mem → Bool) : Bool :=
  recL (A := Tr AV × Mem) (fun a => k a.1 a.2) (fun o _ ih a => match a with
    | (T, M) => guardK all T o.guard (opK E call T o M fun v M => setDst T N o.dst v fun T => ih (T, M)) (setDst T N o.dst (.tup []) fun T => ih (T, M))) l (T, M)
def resK (E : Env) (T : Tr AV) (r : ResultVar) (M : Mem) (k : K1) : Bool := match r with
  | .tmp t => (match T.get t with | some v => k v | none => k (.tup []))
  | .cell a t => getT T a fun a => loadK E t a M k
def resultsK (E : Env) (l : List ResultVar) (T : Tr AV) (M : Mem) (k : K1) : Bool :=
  recL (A := List AV → Bool) (fun k => k []) (fun r _ ih k => resK E T r M fun v => ih fun vs => k (v :: vs)) l fun vs => match vs with
    | [v] => k v
    | vs => k (.tup vs)
def argsK (l : List AV) (N i : Nat) (T : Tr AV) (k : Tr AV → Bool) : Bool :=
  recL (A := Nat × Tr AV) (fun a => k a.2) (fun v _ ih a => match a with | (i, T) => guardB (Nat.ble (Nat.succ i) N) (T.put i v false fun T => forceN (i + 1) fun i => ih (i, T))) l (i, T)
end Go.Ev
