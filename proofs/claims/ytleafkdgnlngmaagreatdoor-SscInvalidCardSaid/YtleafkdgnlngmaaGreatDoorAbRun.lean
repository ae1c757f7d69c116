/- The abstract evaluator: regions that draw their order, code, calls. No statement is proved here. -/
import Derived.Test.YtleafkdgnlngmaaGreatDoorAbCore
namespace Go.Ab
open Go

/-- 0: neither writes nor makes; 1: makes one block out of its operands alone; 2: all else -/
noncomputable def kindOf (P : Program) (o : Op) : Nat :=
  match o with
  | .alloc _ => 1 | .box _ _ => 1 | .buildSlice _ _ _ => 1 | .makeMap _ _ => 1 | .makeSlice _ _ _ => 1
  | .move _ => 0 | .assign _ => 0 | .pick _ _ _ => 0 | .build _ _ => 0 | .load _ _ => 0 | .nilCheck _ => 0 | .binOp _ _ _ _ _ => 0 | .unOp _ _ _ => 0
  | .makeInterface _ _ => 0 | .makeFunc _ _ _ => 0 | .slice _ _ _ _ _ => 0 | .fieldAddr _ _ _ => 0 | .field _ _ _ => 0 | .indexAddr _ _ _ => 0 | .index _ _ _ => 0
  | .lookup _ _ _ _ => 0 | .typeAssert _ _ _ _ => 0 | .extract _ _ => 0
  | .convert _ d _ => (match P.underlying d with | some (.int _) => 0 | some .string => 0 | _ => 2)
  | .call c => (match c.callee with | .builtin .len => 0 | .builtin .cap => 0 | .builtin .min => 0 | .builtin .max => 0 | _ => 2)
  | _ => 2

def bindsA (e : Edge) : Bool := Region.binds .any e

/-- what must be done ahead of each operation: as bits -/
noncomputable def preOf (l : List Oper) : List Nat → List Nat :=
  List.rec (fun acc => acc) (fun o _ ih acc => ih (acc ++ [o.after.toList.foldl (fun s e => if bindsA e then Nat.lor (Nat.lor s (Nat.pow 2 e.on)) ((nth acc e.on).getD 0) else s) 0])) l

def opnds : Op → List Operand
  | .move x => [x] | .assign x => [x] | .pick a b c => [a, b, c] | .alloc _ => [] | .box _ x => [x] | .build _ ps => ps.toList.map (·.2) | .buildSlice _ _ ps => ps.toList.map (·.2)
  | .load _ x => [x] | .store _ a b => [a, b] | .nilCheck x => [x] | .binOp _ _ a b _ => [a, b] | .unOp _ _ x => [x] | .convert _ _ x => [x] | .makeInterface _ x => [x]
  | .makeFunc _ a b => a.toList ++ b.toList | .makeMap _ _ => [] | .makeSlice _ a b => [a, b] | .slice _ x a b c => x :: (a.toList ++ (b.toList ++ c.toList))
  | .fieldAddr _ x _ => [x] | .field _ x _ => [x] | .indexAddr _ a b => [a, b] | .index _ a b => [a, b] | .lookup _ a b _ => [a, b] | .mapUpdate _ a b c => [a, b, c]
  | .range _ x => [x] | .next x _ => [x] | .typeAssert x _ _ _ => [x] | .extract x _ => [x]
  | .call c => (match c.callee with | .value f => [f] | .invoke r _ => [r] | .builtin _ => []) ++ c.args.toList
  | _ => []

def tmpOf (x : Operand) : List Nat := match x with | .tmp t => [t] | _ => []

/-- the slots that an operation reads -/
noncomputable def readsOf (ops : List Oper) (o : Oper) : List Nat :=
  (opnds o.op).flatMap tmpOf ++ (match o.guard with | some (j, _) => (guardTmp ops j).toList | none => [])

/-- what is asked of the edges: they bind to what stands ahead; no slot is written twice; what writes a slot and what else reads it are ordered -/
noncomputable def drawOk (ops : List Oper) (pre : List Nat) : Bool :=
  ops.zipIdx.all fun q =>
    q.1.after.toList.all (fun e => !(bindsA e) || Nat.blt e.on q.2) &&
    ops.zipIdx.all fun p =>
      Nat.beq p.2 q.2 || (match p.1.dst with
        | none => true
        | some d => (match q.1.dst with | none => true | some d' => !(Nat.beq d d')) &&
            (!((readsOf ops q.1).any (Nat.beq d)) || (Nat.testBit ((nth pre q.2).getD 0) p.2 || Nat.testBit ((nth pre p.2).getD 0) q.2)))

/-- the order in which they are done here: ahead of each that writes what must be, and no more -/
noncomputable def demand (P : Program) (ops : List Oper) (pre : List Nat) : List Nat :=
  let ks := (ops.zipIdx.filter fun (o, _) => Nat.beq (kindOf P o.op) 2).map (·.2)
  let go := ks.foldl (fun (acc : List Nat) k =>
    let need := (List.range ops.length).filter fun i => !(acc.contains i) && Nat.testBit ((nth pre k).getD 0) i
    acc ++ (need ++ [k])) []
  go ++ (List.range ops.length).filter (fun i => !(go.contains i))

mutual
def avEq : AV → AV → Bool
  | .int k a, .int k' b => kEq k k' && a == b
  | .bool a, .bool b => a == b
  | .str a, .str b => a == b
  | .nilp, .nilp => true
  | .ptr a i, .ptr b j => Nat.beq a b && Nat.beq i j
  | .nils, .nils => true
  | .sl a b c d e f, .sl a' b' c' d' e' f' => Nat.beq a a' && Nat.beq b b' && Nat.beq c c' && Nat.beq d d' && Nat.beq e e' && f == f'
  | .sl0, .sl0 => true
  | .nilm, .nilm => true
  | .map a, .map b => Nat.beq a b
  | .nilf, .nilf => true
  | .fn f a b, .fn f' a' b' => Nat.beq f f' && avsEq a a' && avsEq b b'
  | .nili, .nili => true
  | .ifc t v, .ifc t' v' => Nat.beq t t' && avEq v v'
  | .agg a, .agg b => avsEq a b
  | .tup a, .tup b => avsEq a b
  | .junk a, .junk b => Nat.beq a b
  | _, _ => false
def avsEq : List AV → List AV → Bool
  | [], [] => true
  | a :: x, b :: y => avEq a b && avsEq x y
  | _, _ => false
end

/-- at each of these heaps, the ones aside that end with an operation which must be done ahead, an operation comes to that value -/
noncomputable def stableE (P : Program) (X : Ext) (ε : Env) (o : Op) (v : AV) (pi : Nat) (hs : List (Nat × H)) : Bool :=
  List.rec true (fun q _ ih => bc (Nat.testBit pi q.1) ih (Option.casesOn (exec P X ε q.2 o) false (fun r => R.casesOn r (fun v' _ => bc (avEq v v') ih false) (fun _ _ _ => false)))) hs

noncomputable def backNext (n : Nat) (h : H) : H := H.casesOn h fun _ t => ⟨n, t⟩

noncomputable def valOf {α : Type} (r : R) (k : AV → H → Option α) : Option α := R.casesOn r k (fun _ _ _ => none)

/-- how far the order has come: the slots; the heap; the heap as it was behind the last operation that writes; the ones before it, each with the operation that ended it; those that write and are still to come; what is done, as bits -/
structure DS where
  ρ : Fm
  h : H
  cur : H
  ended : List (Nat × H)
  effs : List Nat
  done : Nat

noncomputable def effsOf (P : Program) (ops : List Oper) : List Nat := (ops.zipIdx.filter fun q => Nat.beq (kindOf P q.1.op) 2).map (·.2)

noncomputable def needOk (pre : List Nat) (effs : List Nat) (i : Nat) : Bool := List.casesOn effs true (fun k _ => Nat.testBit ((nth pre k).getD 0) i)

/-- one operation of the order; base: the first one of the blocks that are kept back -/
noncomputable def stepD (P : Program) (X : Ext) (call : Caller) (ops : List Oper) (pre : List Nat) (base i : Nat) (s : DS) : Option DS :=
  DS.casesOn s fun ρ h cur ended effs done =>
  ob (nth ops i) fun o => ob (nth pre i) fun pi => bc (Nat.testBit done i) none (bc (Nat.beq (Nat.land pi done) pi)
    (ob (wantedA ops ρ o.guard) fun w => bc (Nat.beq (kindOf P o.op) 2)
      (List.casesOn effs none fun k effs' => bc (Nat.beq k i) (bc (ended.all fun q => Nat.testBit pi q.1)
        (bc w
          (ob (exec P X (ev P ρ) h o.op) fun r => after call r fun v h' => ob (putT ρ o.dst v) fun ρ' => some ⟨ρ', h', h', (i, cur) :: ended, effs', Nat.lor done (Nat.pow 2 i)⟩)
          (ob (putT ρ o.dst undef) fun ρ' => some ⟨ρ', h, h, (i, cur) :: ended, effs', Nat.lor done (Nat.pow 2 i)⟩)) none) none)
      (bc (needOk pre effs i)
        (bc w
          (bc (Nat.beq (kindOf P o.op) 1)
            (ob (exec P X (ev P ρ) (backNext (Nat.add base i) h) o.op) fun r => valOf r fun v h' => ob (putT ρ o.dst v) fun ρ' => some ⟨ρ', backNext h.next h', cur, ended, effs, Nat.lor done (Nat.pow 2 i)⟩)
            (ob (exec P X (ev P ρ) cur o.op) fun r => valOf r fun v _ => bc (stableE P X (ev P ρ) o.op v pi ended) (ob (putT ρ o.dst v) fun ρ' => some ⟨ρ', h, cur, ended, effs, Nat.lor done (Nat.pow 2 i)⟩) none))
          (ob (putT ρ o.dst undef) fun ρ' => some ⟨ρ', h, cur, ended, effs, Nat.lor done (Nat.pow 2 i)⟩))
        none)) none)

noncomputable def foldD (f : Nat → DS → Option DS) (l : List Nat) : DS → Option DS := List.rec (fun s => some s) (fun i _ ih s => ob (f i s) ih) l

noncomputable def endD (n : Nat) (s : DS) : Option (Fm × H) := DS.casesOn s fun ρ h _ _ effs done => bc effs.isEmpty (bc (Nat.beq done (Nat.sub (Nat.pow 2 n) 1)) (some (ρ, h)) none) none

/-- a region that draws its order -/
noncomputable def runDraw (P : Program) (X : Ext) (call : Caller) (ops : List Oper) (ρ : Fm) (h : H) : Option (Fm × H) :=
  bc (drawOk ops (preOf ops []))
    (ob (foldD (fun i s => stepD P X call ops (preOf ops []) h.next i s) (demand P ops (preOf ops [])) ⟨ρ, backNext (Nat.add h.next ops.length) h, backNext (Nat.add h.next ops.length) h, [], effsOf P ops, 0⟩) fun s => endD ops.length s) none

abbrev CR := Option (AX × Fm × H)

noncomputable def ifNormal (r : CR) (k : Fm → H → CR) : CR := ob r fun x => AX.casesOn x.1 (k x.2.1 x.2.2) (fun _ => r) (fun _ => r) r
noncomputable def unblock (id : Nat) (r : CR) : CR := ob r fun x => AX.casesOn x.1 r (fun i => bc (Nat.beq i id) (some (.normal, x.2)) r) (fun _ => r) r
noncomputable def isEnd (x : AX) : Bool := AX.casesOn x true (fun _ => false) (fun _ => false) true

noncomputable def entryT (args : List AV) : Nat → Tr AV → Tr AV := List.rec (fun _ t => t) (fun v _ ih n t => ih (Nat.add n 1) (Tr.set t n (some v))) args
noncomputable def entry (fn : Func) (args : List AV) : Option Fm := bc (Nat.ble args.length fn.ntmps) (some ⟨fn.ntmps, entryT args 0 .e⟩) none

noncomputable def callBody (P : Program) (run : Code → Fm → H → CR) : Caller := fun f args h =>
  ob (P.funcs[f]?) fun fn => ob fn.body fun body => ob (entry fn args) fun ρ => ob (run body ρ h) fun x => bc (isEnd x.1) (ob (resultsA P fn x.2.1 x.2.2) fun v => some (v, x.2.2)) none

abbrev Specs := FuncId → Option Caller

noncomputable def caller (P : Program) (S : Specs) (run : Code → Fm → H → CR) : Caller :=
  fun f args h => Option.casesOn (S f) (callBody P run f args h) (fun g => g f args h)

abbrev CodeT := Program → Ext → Specs → (Code → Fm → H → CR) → Fm → H → CR

noncomputable def c_skip : CodeT := fun _ _ _ _ ρ h => some (.normal, ρ, h)
noncomputable def c_region (_id : Nat) (ops : Array Oper) (d : Bool) : CodeT := fun P X S run ρ h =>
  ob (bc d (runDraw P X (caller P S run) ops.toList ρ h) (runOps P X (caller P S run) ops.toList ops.toList ρ h)) fun x => some (.normal, x)
noncomputable def c_seq (a b : Code) : CodeT := fun _ _ _ run ρ h => ifNormal (run a ρ h) fun ρ h => run b ρ h
noncomputable def c_cond (c : Operand) (a b : Code) : CodeT := fun P _ _ run ρ h => ob (ev P ρ c) fun v => ob (asB v) fun t => bc t (run a ρ h) (run b ρ h)
noncomputable def c_block (id : Nat) (b : Code) : CodeT := fun _ _ _ run ρ h => unblock id (run b ρ h)
noncomputable def c_loop (b : Code) : CodeT := fun _ _ _ run ρ h => ifNormal (run b ρ h) fun ρ h => run (.loop b) ρ h
noncomputable def c_exit (i : Nat) : CodeT := fun _ _ _ _ ρ h => some (.exit i, ρ, h)
noncomputable def c_ret : CodeT := fun _ _ _ _ ρ h => some (.ret, ρ, h)
noncomputable def c_no : CodeT := fun _ _ _ _ _ _ => none
noncomputable def codeT (c : Code) : CodeT :=
  Code.rec (motive := fun _ => CodeT) c_skip c_region (fun a b _ _ => c_seq a b) (fun c a b _ _ => c_cond c a b) (fun id b _ => c_block id b) (fun b _ => c_loop b) (fun _ _ _ _ _ _ => c_no) c_exit (fun _ _ => c_no) (fun _ => c_skip) (fun _ => c_no) c_ret (fun _ => c_no) c

noncomputable def runCode (P : Program) (X : Ext) (S : Specs) (n : Nat) : Code → Fm → H → CR :=
  Nat.rec (fun _ _ _ => none) (fun _ ih c ρ h => codeT c P X S ih ρ h) n

noncomputable def callFn (P : Program) (X : Ext) (S : Specs) (n : Nat) : Caller := callBody P (runCode P X S n)

end Go.Ab
