/-
  A reckoner for the program's form over abstract values and memory, run by the kernel, and its proof: if it answers, the form's own run answers so, whatever the tape. Part EvAg. No condition.
-/
import Derived.Test.YtdfbcjoopkiaeaaGreatDoorEvAf
noncomputable section
namespace Go.Ev

def evalsF (l : List Operand) (T : Tr AV) (k : List AV → Bool) : Bool :=
  recL (A := List AV → Bool) (fun k => k []) (fun x _ ih k => evalF x T fun v => ih fun vs => k (v :: vs)) l k
theorem evalsF_eq (l : List Operand) (T : Tr AV) (k : List AV → Bool) : evalsF l T k = evalsK T l k := by
  unfold evalsF evalsK
  simp only [evalF_eq]
def loadPF (ti : TI) (b off : Nat) (M : Mem) (k : K1) : Bool := blkK M b fun blk => cond ti.agg (cellsK blk ti.size off fun l => k (.agg l)) (cellK blk off k)
def loadGF (E : Env) (ti : TI) (g off : Nat) (k : K1) : Bool := match E.globs.get g with
  | some l => cond ti.agg false (nthK l off k)
  | none => false
def loadF (a : AV) : Env → TI → Mem → K1 → Bool := match a with
  | .ptr b off => fun _ ti M k => loadPF ti b off M k
  | .gptr g off => fun E ti _ k => loadGF E ti g off k
  | _ => fun _ _ _ _ => false
theorem loadF_eq (a : AV) (E : Env) (t : Nat) (M : Mem) (k : K1) : tyK E t (fun ti => loadF a E ti M k) = loadK E t a M k := by
  unfold loadK
  congr 1
  funext ti
  cases a <;> rfl
def storeAtF (a : AV) : TI → AV → Mem → (Mem → Bool) → Bool := match a with
  | .ptr b off => fun ti v M k => lenK (cellsOf v) fun n => guardB (Nat.beq n ti.size) (storeK M b off (cellsOf v) k)
  | _ => fun _ _ _ _ => false
theorem storeAtF_eq (a : AV) (E : Env) (t : Nat) (v : AV) (M : Mem) (k : Mem → Bool) : tyK E t (fun ti => storeAtF a ti v M k) = storeAtK E t a v M k := by
  unfold storeAtK
  congr 1
  funext ti
  cases a <;> rfl
def callF (c : Callee) : Env → CallK → Tr AV → List TypeId → List AV → Mem → KM → Bool := match c with
  | .builtin b => fun E _ _ ts args M k => builtinK E b ts args M k
  | .value f => fun _ call T _ args M k => evalF f T fun f => funcK call f args M k
  | .invoke r name => fun E call T _ args M k => evalF r T fun r => invokeK E call r name args M k
def opF (op : Op) : Env → CallK → Tr AV → Mem → KM → Bool := match op with
  | .move x => fun _ _ T M k => evalF x T fun v => k v M
  | .assign x => fun _ _ T M k => evalF x T fun v => k v M
  | .pick c a b => fun _ _ T M k => evalF c T fun c => (match c with | .bool true => evalF a T fun v => k v M | .bool false => evalF b T fun v => k v M | _ => false)
  | .alloc e => fun E _ _ M k => tyK E e fun ti => lenK ti.zero fun n => forceN e fun e => newBlk M (.cells e n ti.zero .nil) fun b M => k (.ptr b 0) M
  | .box e x => fun _ _ T M k => forceN e fun e => evalF x T fun v => newVarK e v M k
  | .build t ps => fun E _ T M k => evalPartsK T ps.toList fun ps => buildK E t ps fun v => k v M
  | .buildSlice t n ps => fun E _ T M k => evalPartsK T ps.toList fun ps => buildSliceK E t n ps M k
  | .load t a => fun E _ T M k => evalF a T fun a => tyK E t fun ti => loadF a E ti M fun v => k v M
  | .store t a x => fun E _ T M k => evalF a T fun a => evalF x T fun v => tyK E t fun ti => storeAtF a ti v M fun M => k (.tup []) M
  | .nilCheck x => fun _ _ T M k => evalF x T fun v => (match v with | .ptr _ _ => k v M | .gptr _ _ => k v M | _ => false)
  | .binOp op t x0 y0 _ => fun E _ T M k => evalF x0 T fun x => evalF y0 T fun y => binF x op E (isC x0 || isC y0) t y fun v => k v M
  | .unOp op _ x => fun _ _ T M k => evalF x T fun x => unK op x fun v => k v M
  | .convert s d x => fun E _ T M k => evalF x T fun x => convertK E s d x M k
  | .makeInterface t x => fun E _ T M k => tyK E t fun ti => (match ti.d with | .iface => false | .other => false | _ => forceN t fun t => evalF x T fun x => k (.iface t x) M)
  | .makeFunc fn first cap => fun _ _ T M k => evalsF first.toList T fun first => evalsF cap.toList T fun cap => k (.func fn first cap) M
  | .makeMap _ r => fun _ _ _ M k => (match r with | none => newBlk M (.map [] 0) fun b M => k (.map b) M | some _ => false)
  | .makeSlice t l c => fun E _ T M k => evalF l T fun l => evalF c T fun c => makeSliceK E t l c M k
  | .slice t x lo hi mx => fun E _ T M k => evalF x T fun x => optEvalK T lo fun lo => optEvalK T hi fun hi => optEvalK T mx fun mx => sliceK E t x lo hi mx fun v => k v M
  | .fieldAddr t x f => fun E _ T M k => evalF x T fun x => fieldAddrK E t x f fun v => k v M
  | .field t x f => fun E _ T M k => evalF x T fun x => fieldK E t x f fun v => k v M
  | .indexAddr t x i => fun E _ T M k => evalF x T fun x => evalF i T fun i => indexAddrK E t x i fun v => k v M
  | .index t x i => fun E _ T M k => evalF x T fun x => evalF i T fun i => indexK E t x i fun v => k v M
  | .typeAssert x _ t ok => fun E _ T M k => evalF x T fun x => typeAssertK E x t ok fun v => k v M
  | .extract x i => fun _ _ T M k => evalF x T fun x => extractK x i fun v => k v M
  | .call c => fun E call T M k => evalsF c.args.toList T fun args => callF c.callee E call T c.argTypes.toList args M k
  | _ => fun _ _ _ _ _ => false
theorem callF_eq (c : Callee) (E : Env) (call : CallK) (T : Tr AV) (ts : List TypeId) (args : List AV) (M : Mem) (k : KM) : callF c E call T ts args M k = (match c with
    | .builtin b => builtinK E b ts args M k
    | .value f => evalK T f fun f => funcK call f args M k
    | .invoke r name => evalK T r fun r => invokeK E call r name args M k) := by
  cases c <;> simp only [callF, evalF_eq]
theorem opF_eq (E : Env) (call : CallK) (T : Tr AV) (o : Oper) (M : Mem) (k : KM) : opF o.op E call T M k = opK E call T o M k := by
  unfold opF opK
  cases o.op <;> first
    | (simp only [evalF_eq, evalsF_eq, binF_eq, loadF_eq, storeAtF_eq]; done)
    | (simp only [evalF_eq]; refine congrArg _ (funext fun v => ?_); cases v with
        | bool b => cases b <;> rfl
        | _ => rfl)
    | (simp only [evalF_eq]; refine congrArg _ (funext fun v => ?_); cases v <;> rfl)
    | (refine congrArg _ (funext fun ti => ?_); cases ti.d <;> rfl)
    | (simp only [evalsF_eq, callF_eq]; refine congrArg _ (funext fun args => ?_); rename_i c; cases c.callee <;> rfl)
    | (rename_i r; cases r <;> rfl)
def setDstF (d : Option Nat) : Tr AV → Nat → AV → (Tr AV → Bool) → Bool := match d with
  | none => fun T _ _ k => k T
  | some d => fun T N v k => guardB (Nat.ble (Nat.succ d) N) (T.put d v false k)
theorem setDstF_eq (d : Option Nat) (T : Tr AV) (N : Nat) (v : AV) (k : Tr AV → Bool) : setDstF d T N v k = setDst T N d v k := by cases d <;> rfl
def guardF (g : Option (Nat × Bool)) : List Oper → Tr AV → Bool → Bool → Bool := match g with
  | none => fun _ _ yes _ => yes
  | some (j, want) => fun ops T yes no => dstOf ops j fun d => getT T d fun v => match v, want with
    | .bool true, true | .bool false, false => yes
    | .bool true, false | .bool false, true => no
    | .tup _, _ => no
    | _, _ => false
theorem guardF_eq (g : Option (Nat × Bool)) (ops : List Oper) (T : Tr AV) (yes no : Bool) : guardF g ops T yes no = guardK ops T g yes no := by
  cases g <;> rfl
def opsF (E : Env) (call : CallK) (all : List Oper) (N : Nat) (l : List Oper) (T : Tr AV) (M : Mem) (k : Tr AV → Mem → Bool) : Bool :=
  recL (A := Tr AV × Mem) (fun a => k a.1 a.2) (fun o _ ih a => match a with
    | (T, M) => guardF o.guard all T (opF o.op E call T M fun v M => setDstF o.dst T N v fun T => ih (T, M)) (setDstF o.dst T N (.tup []) fun T => ih (T, M))) l (T, M)
theorem opsF_eq (E : Env) (call : CallK) (all : List Oper) (N : Nat) (l : List Oper) (T : Tr AV) (M : Mem) (k : Tr AV → Mem → Bool) : opsF E call all N l T M k = opsK E call all N l T M k := by
  unfold opsF opsK
  simp only [opF_eq, setDstF_eq, guardF_eq]
def codeStepF (c : Code) : Env → DrawK → (CodeA → Bool) → Nat → Tr AV → Mem → KC → Bool := match c with
  | .skip => fun _ _ _ _ T M k => k .normal T M
  | .label _ => fun _ _ _ _ T M k => k .normal T M
  | .seq a b => fun _ _ ih N T M k => ih (a, N, T, M, fun ex T M => match ex with | .normal => ih (b, N, T, M, k) | ex => k ex T M)
  | .cond c x y => fun _ _ ih N T M k => evalF c T fun c => (match c with | .bool true => ih (x, N, T, M, k) | .bool false => ih (y, N, T, M, k) | _ => false)
  | .block id c => fun _ _ ih N T M k => ih (c, N, T, M, fun ex T M => match ex with | .exit j => cond (Nat.beq j id) (k .normal T M) (k (.exit j) T M) | ex => k ex T M)
  | .loop c => fun _ _ ih N T M k => ih (c, N, T, M, fun ex T M => match ex with | .normal => ih (.loop c, N, T, M, k) | ex => k ex T M)
  | .exit id => fun _ _ _ _ T M k => forceN id fun id => k (.exit id) T M
  | .ret => fun _ _ _ _ T M k => k .ret T M
  | .region _ ops d => fun E dr ih N T M k => cond d (dr (callStep E ih) ops N T M fun T M => k .normal T M) (opsF E (callStep E ih) ops.toList N ops.toList T M fun T M => k .normal T M)
  | _ => fun _ _ _ _ _ _ _ => false
theorem codeStepF_eq (c : Code) (E : Env) (dr : DrawK) (ih : CodeA → Bool) (N : Nat) (T : Tr AV) (M : Mem) (k : KC) : codeStepF c E dr ih N T M k = codeStep E dr ih c N T M k := by
  unfold codeStepF codeStep
  cases c <;> first
    | rfl
    | (simp only [opsF_eq]; done)
    | (simp only [evalF_eq]; refine congrArg _ (funext fun v => ?_); cases v with
        | bool b => cases b <;> rfl
        | _ => rfl)
    | (congr 1; simp only [Prod.mk.injEq, true_and]; funext ex T M; cases ex <;> rfl)
def codeF (E : Env) (dr : DrawK) (n : Nat) (a : CodeA) : Bool := recN (A := CodeA) (fun _ => false) (fun _ ih a => match a with | (c, N, T, M, k) => codeStepF c E dr ih N T M k) n a
theorem codeF_eq (E : Env) (dr : DrawK) (n : Nat) : codeF E dr n = codeK E dr n := by
  unfold codeF codeK
  simp only [codeStepF_eq]
def callFast (E : Env) (dr : DrawK) (n : Nat) (f : Nat) (args : List AV) (M : Mem) (k : KM) : Bool := callStep E (codeF E dr n) f args M k
theorem callFast_eq (E : Env) (dr : DrawK) (n : Nat) : callFast E dr n = callK E dr n := by
  funext f args M k
  unfold callFast callK
  rw [codeF_eq]
def runF (P : Program) (tys fns : List Nat) (esc n f : Nat) (args : List AV) (k : KM) : Bool :=
  addTys P tys .nil fun TT => addFns P fns .nil fun FF => callFast (envOf P TT FF esc) (drawK (envOf P TT FF esc)) n f args ⟨0, .nil⟩ k
theorem runF_eq (P : Program) (tys fns : List Nat) (esc n f : Nat) (args : List AV) (k : KM) : runF P tys fns esc n f args k = runK P tys fns esc n f args k := by
  unfold runF runK
  simp only [callFast_eq]
end Go.Ev
