/- The abstract, deterministic evaluator of the model's code: abstract values, a heap of abstract blocks. No statement is proved here. -/
import GoSem.Dispatch
namespace Go.Ab
open Go

inductive AV where
  | int (k : IntKind) (n : Int)
  | bool (b : Bool)
  | str (s : List UInt8)
  | nilp
  | ptr (b o : Nat)
  | nils
  | sl (b o len cap es : Nat) (ex : Bool)
  | sl0
  | nilm
  | map (b : Nat)
  | nilf
  | fn (f : FuncId) (first captured : List AV)
  | nili
  | ifc (t : TypeId) (v : AV)
  | agg (vs : List AV)
  | tup (vs : List AV)
  | junk (i : Nat)

inductive AObj where
  | cells (c : List AV) (plain : Bool)
  | map (es : List (AV × AV))
  | iter (s : List UInt8) (pos : Nat)

inductive Tr (α : Type) where
  | e
  | n (v : Option α) (l r : Tr α)

/-- bind -/
noncomputable def ob {α β : Type} (x : Option α) (f : α → Option β) : Option β := Option.casesOn x none f

noncomputable def bc {α : Type} (c : Bool) (a b : α) : α := Bool.rec b a c

inductive Ix where
  | z | o (i : Ix) | i (i : Ix)

noncomputable def ixF (f : Nat) : Nat → Ix :=
  Nat.rec (fun _ => .z) (fun _ ih k => bc (Nat.beq k 0) .z (bc (Nat.beq (Nat.land k 1) 1) (.o (ih (Nat.div k 2))) (.i (ih (Nat.div (Nat.sub k 1) 2))))) f

noncomputable def ixOf (k : Nat) : Ix := ixF k k

noncomputable def Tr.val {α : Type} (t : Tr α) : Option α := Tr.casesOn t none (fun v _ _ => v)
noncomputable def Tr.lft {α : Type} (t : Tr α) : Tr α := Tr.casesOn t .e (fun _ l _ => l)
noncomputable def Tr.rgt {α : Type} (t : Tr α) : Tr α := Tr.casesOn t .e (fun _ _ r => r)

noncomputable def Tr.getI {α : Type} (i : Ix) : Tr α → Option α :=
  Ix.rec (fun t => Tr.val t) (fun _ ih t => ih (Tr.lft t)) (fun _ ih t => ih (Tr.rgt t)) i

noncomputable def Tr.setI {α : Type} (o : Option α) (i : Ix) : Tr α → Tr α :=
  Ix.rec (fun t => Tr.casesOn t (.n o .e .e) (fun _ l r => .n o l r))
    (fun _ ih t => Tr.casesOn t (.n none (ih .e) .e) (fun v l r => .n v (ih l) r))
    (fun _ ih t => Tr.casesOn t (.n none .e (ih .e)) (fun v l r => .n v l (ih r))) i

noncomputable def Tr.get {α : Type} (t : Tr α) (k : Nat) : Option α := Tr.getI (ixOf k) t
noncomputable def Tr.set {α : Type} (t : Tr α) (k : Nat) (o : Option α) : Tr α := Tr.setI o (ixOf k) t

structure H where
  next : Nat
  tr : Tr AObj

noncomputable def H.get (h : H) (b : Nat) : Option AObj := h.tr.get b
noncomputable def H.set (h : H) (b : Nat) (o : AObj) : H := H.casesOn h fun n t => ⟨n, t.set b (some o)⟩
noncomputable def H.kill (h : H) (b : Nat) : H := H.casesOn h fun n t => ⟨n, t.set b none⟩
noncomputable def H.new (h : H) (o : AObj) : H := H.casesOn h fun n t => ⟨Nat.add n 1, t.set n (some o)⟩

mutual
def ofVal : Value → Option AV
  | .int k n => some (.int k n)
  | .bool b => some (.bool b)
  | .string s => some (.str s.data.toList)
  | .pointer none => some .nilp
  | .slice none 0 0 => some .nils
  | .map none => some .nilm
  | .nilFunc => some .nilf
  | .nilIface => some .nili
  | .iface t v => match ofVal v with | some a => some (.ifc t a) | none => none
  | .agg ⟨cs⟩ => match ofVals cs with | some a => some (.agg a) | none => none
  | .tuple ⟨cs⟩ => match ofVals cs with | some a => some (.tup a) | none => none
  | .func (.func f) ⟨[]⟩ ⟨[]⟩ => some (.fn f [] [])
  | _ => none
def ofVals : List Value → Option (List AV)
  | [] => some []
  | v :: l => match ofVal v, ofVals l with
    | some a, some b => some (a :: b)
    | _, _ => none
end

noncomputable def AV.cells (v : AV) : List AV := AV.casesOn (motive_1 := fun _ => List AV) v (fun _ _ => [v]) (fun _ => [v]) (fun _ => [v]) ([v]) (fun _ _ => [v]) ([v]) (fun _ _ _ _ _ _ => [v]) ([v]) ([v]) (fun _ => [v]) ([v]) (fun _ _ _ => [v]) ([v]) (fun _ _ => [v]) (fun c => c) (fun _ => [v]) (fun _ => [v])
noncomputable def AV.one (v : AV) : Bool := AV.casesOn (motive_1 := fun _ => Bool) v (fun _ _ => true) (fun _ => true) (fun _ => true) (true) (fun _ _ => true) (true) (fun _ _ _ _ _ _ => true) (true) (true) (fun _ => true) (true) (fun _ _ _ => true) (true) (fun _ _ => true) (fun _ => false) (fun _ => false) (fun _ => true)

noncomputable def nth {α : Type} (l : List α) : Nat → Option α :=
  List.rec (fun _ => none) (fun a _ ih n => bc (Nat.beq n 0) (some a) (ih (Nat.sub n 1))) l

/-- a frame: how many slots there are, and what is known of them -/
structure Fm where
  n : Nat
  t : Tr AV

noncomputable def tget (ρ : Fm) (t : Nat) : Option AV := Tr.get (Fm.t ρ) t

abbrev Env := Operand → Option AV

noncomputable def ev (P : Program) (ρ : Fm) : Env := fun x =>
  Operand.casesOn x (fun t => tget ρ t) (fun v => ofVal v) (fun g => bc (Nat.blt g P.globals.size) (some (.ptr g 0)) none) (fun f => some (.fn f [] []))

def isConst (x : Operand) : Bool := match x with | .const _ => true | _ => false

section
variable (P : Program)

def tsize (t : TypeId) : Option Nat := match P.info? t with | some i => some i.size | none => none
def tbytes (t : TypeId) : Option Nat := match P.info? t with | some i => some i.bytes | none => none
def tzero (t : TypeId) : Option (List AV) := match P.info? t with | some i => (match i.zero with | some z => ofVals z.cells.toList | none => none) | none => none
def tzeroV (t : TypeId) : Option AV := match P.info? t with | some i => (match i.zero with | some z => ofVal z | none => none) | none => none
def isAggD (d : TypeDesc) : Bool := match d with | .struct _ => true | .array _ _ => true | _ => false
def tagg (t : TypeId) : Option Bool := match P.underlying t with | some d => some (isAggD d) | none => none
def telemD (d : TypeDesc) : Option TypeId := match d with | .slice e => some e | _ => none
def telem (t : TypeId) : Option TypeId := match P.underlying t with | some d => telemD d | none => none
/-- an element's type: its size (not 0), its bytes, its zero cells (as many as its size) -/
noncomputable def elemInfo (e : TypeId) : Option (Nat × Nat × List AV) :=
  ob (tsize P e) fun s => ob (tbytes P e) fun b => ob (tzero P e) fun z => bc (Nat.beq s 0) none (bc (Nat.beq z.length s) (some (s, b, z)) none)

noncomputable def takeN {α : Type} (n : Nat) : List α → Option (List α) :=
  Nat.rec (fun _ => some []) (fun _ ih l => List.casesOn l none (fun a l => ob (ih l) fun r => some (a :: r))) n

noncomputable def dropN {α : Type} (n : Nat) : List α → List α :=
  Nat.rec (fun l => l) (fun _ ih l => List.casesOn l [] (fun _ l => ih l)) n

noncomputable def asCells (o : AObj) : Option (List AV) := AObj.casesOn o (fun c _ => some c) (fun _ => none) (fun _ _ => none)
noncomputable def asPlain (o : AObj) : Bool := AObj.casesOn o (fun _ p => p) (fun _ => false) (fun _ _ => false)
noncomputable def asMap (o : AObj) : Option (List (AV × AV)) := AObj.casesOn o (fun _ _ => none) (fun c => some c) (fun _ _ => none)
noncomputable def asIter (o : AObj) : Option (List UInt8 × Nat) := AObj.casesOn o (fun _ _ => none) (fun _ => none) (fun s p => some (s, p))

noncomputable def loadCells (h : H) (b o n : Nat) : Option (List AV) :=
  ob (h.get b) fun x => ob (asCells x) fun c => takeN n (dropN o c)

noncomputable def loadCell (h : H) (b o : Nat) : Option AV :=
  ob (h.get b) fun x => ob (asCells x) fun c => nth c o

noncomputable def setHere (vs : List AV) : List AV → Option (List AV) :=
  List.rec (fun c => some c) (fun v _ ih c => bc v.one (List.casesOn c none (fun _ c => ob (ih c) fun r => some (v :: r))) none) vs

noncomputable def setRange (c : List AV) : Nat → List AV → Option (List AV) :=
  List.rec (fun o vs => bc (Nat.beq o 0) (setHere vs []) none) (fun x c ih o vs => bc (Nat.beq o 0) (setHere vs (x :: c)) (ob (ih (Nat.sub o 1) vs) fun r => some (x :: r))) c

noncomputable def storeCells (h : H) (b o : Nat) (vs : List AV) : Option H :=
  ob (h.get b) fun x => ob (asCells x) fun c => ob (setRange c o vs) fun c => some (h.set b (.cells c (asPlain x)))

noncomputable def loadT (h : H) (t : TypeId) (b o : Nat) : Option AV :=
  ob (tagg P t) fun a => bc a (ob (tsize P t) fun n => ob (loadCells h b o n) fun l => some (.agg l)) (loadCell h b o)

noncomputable def storeT (h : H) (t : TypeId) (b o : Nat) (v : AV) : Option H :=
  ob (tsize P t) fun n => bc (Nat.beq v.cells.length n) (storeCells h b o v.cells) none

def asStruct (d : TypeDesc) : Option (Array Field) := match d with | .struct fs => some fs | _ => none
noncomputable def fieldOf (t : TypeId) (f : Nat) : Option Field := ob (P.underlying t) fun d => ob (asStruct d) fun fs => nth fs.toList f

noncomputable def partOf (t : TypeId) (cs : List AV) (off : Nat) : Option AV :=
  ob (tagg P t) fun a => bc a (ob (tsize P t) fun n => ob (takeN n (dropN off cs)) fun l => some (.agg l)) (nth cs off)

def bitsK (k : IntKind) : Nat := match k with | .i8 => 8 | .u8 => 8 | .i16 => 16 | .u16 => 16 | .i32 => 32 | .u32 => 32 | .i64 => 64 | .u64 => 64
def modK (k : IntKind) : Nat := match k with | .i8 => 256 | .u8 => 256 | .i16 => 65536 | .u16 => 65536 | .i32 => 4294967296 | .u32 => 4294967296 | .i64 => 18446744073709551616 | .u64 => 18446744073709551616
/-- from here on a number is read as a negative one (of the unsigned kinds: nowhere) -/
def halfK (k : IntKind) : Nat := match k with | .i8 => 128 | .i16 => 32768 | .i32 => 2147483648 | .i64 => 9223372036854775808 | .u8 => 256 | .u16 => 65536 | .u32 => 4294967296 | .u64 => 18446744073709551616
def sgnK (k : IntKind) : Bool := match k with | .i8 => true | .i16 => true | .i32 => true | .i64 => true | .u8 => false | .u16 => false | .u32 => false | .u64 => false

/-- as a natural number modulo the kind's -/
noncomputable def natK (k : IntKind) (n : Int) : Nat :=
  Int.casesOn n (fun m => Nat.mod m (modK k)) (fun m => Nat.sub (Nat.sub (modK k) 1) (Nat.mod m (modK k)))

/-- back: a natural number below the modulus as the kind reads it -/
noncomputable def backK (k : IntKind) (m : Nat) : Int :=
  bc (Nat.ble (halfK k) m) (Int.negSucc (Nat.sub (Nat.sub (modK k) 1) m)) (Int.ofNat m)

noncomputable def wrapK (k : IntKind) (n : Int) : Int :=
  Int.casesOn n (fun m => bc (Nat.ble (halfK k) m) (backK k (Nat.mod m (modK k))) (Int.ofNat m))
    (fun m => bc (sgnK k) (bc (Nat.ble (halfK k) m) (backK k (natK k (Int.negSucc m))) (Int.negSucc m)) (Int.ofNat (natK k (Int.negSucc m))))

noncomputable def eqI (a b : Int) : Bool := Int.casesOn a (fun m => Int.casesOn b (fun n => Nat.beq m n) (fun _ => false)) (fun m => Int.casesOn b (fun _ => false) (fun n => Nat.beq m n))
noncomputable def leI (a b : Int) : Bool := Int.casesOn a (fun m => Int.casesOn b (fun n => Nat.ble m n) (fun _ => false)) (fun m => Int.casesOn b (fun _ => true) (fun n => Nat.ble n m))

def kNo (k : IntKind) : Nat := match k with | .i8 => 0 | .i16 => 1 | .i32 => 2 | .i64 => 3 | .u8 => 4 | .u16 => 5 | .u32 => 6 | .u64 => 7
def kEq (a b : IntKind) : Bool := Nat.beq (kNo a) (kNo b)

noncomputable def shl (k : IntKind) (x : Int) (n : Nat) : AV := .int k (wrapK k (Int.mul x (Int.ofNat (Nat.pow 2 n))))
noncomputable def shr (k : IntKind) (x : Int) (n : Nat) : AV := .int k (Int.fdiv x (Int.ofNat (Nat.pow 2 n)))
noncomputable def minN (a b : Nat) : Nat := bc (Nat.ble a b) a b
noncomputable def shN (k : IntKind) (y : Int) : Option Nat := Int.casesOn y (fun m => some (minN m (bitsK k))) (fun _ => none)

noncomputable def b_add (k : IntKind) (a : Int) (k' : IntKind) (b : Int) : Option AV := bc (kEq k k') (some (.int k (wrapK k (Int.add a b)))) none
noncomputable def b_sub (k : IntKind) (a : Int) (k' : IntKind) (b : Int) : Option AV := bc (kEq k k') (some (.int k (wrapK k (Int.sub a b)))) none
noncomputable def b_mul (k : IntKind) (a : Int) (k' : IntKind) (b : Int) : Option AV := bc (kEq k k') (some (.int k (wrapK k (Int.mul a b)))) none
noncomputable def b_quo (k : IntKind) (a : Int) (k' : IntKind) (b : Int) : Option AV := bc (kEq k k') (bc (eqI b 0) none (some (.int k (wrapK k (Int.tdiv a b))))) none
noncomputable def b_rem (k : IntKind) (a : Int) (k' : IntKind) (b : Int) : Option AV := bc (kEq k k') (bc (eqI b 0) none (some (.int k (Int.tmod a b)))) none
noncomputable def b_and (k : IntKind) (a : Int) (k' : IntKind) (b : Int) : Option AV := bc (kEq k k') (some (.int k (backK k (Nat.land (natK k a) (natK k b))))) none
noncomputable def b_or (k : IntKind) (a : Int) (k' : IntKind) (b : Int) : Option AV := bc (kEq k k') (some (.int k (backK k (Nat.lor (natK k a) (natK k b))))) none
noncomputable def b_xor (k : IntKind) (a : Int) (k' : IntKind) (b : Int) : Option AV := bc (kEq k k') (some (.int k (backK k (Nat.xor (natK k a) (natK k b))))) none
noncomputable def b_shl (k : IntKind) (a : Int) (_k' : IntKind) (b : Int) : Option AV := ob (shN k b) fun n => some (shl k a n)
noncomputable def b_shr (k : IntKind) (a : Int) (_k' : IntKind) (b : Int) : Option AV := ob (shN k b) fun n => some (shr k a n)
noncomputable def b_andNot (k : IntKind) (a : Int) (k' : IntKind) (b : Int) : Option AV := bc (kEq k k') (some (.int k (backK k (Nat.land (natK k a) (Nat.sub (Nat.sub (modK k) 1) (natK k b)))))) none
noncomputable def b_eql (k : IntKind) (a : Int) (k' : IntKind) (b : Int) : Option AV := bc (kEq k k') (some (.bool (eqI a b))) none
noncomputable def b_neq (k : IntKind) (a : Int) (k' : IntKind) (b : Int) : Option AV := bc (kEq k k') (some (.bool (not (eqI a b)))) none
noncomputable def b_lss (k : IntKind) (a : Int) (k' : IntKind) (b : Int) : Option AV := bc (kEq k k') (some (.bool (not (leI b a)))) none
noncomputable def b_leq (k : IntKind) (a : Int) (k' : IntKind) (b : Int) : Option AV := bc (kEq k k') (some (.bool (leI a b))) none
noncomputable def b_gtr (k : IntKind) (a : Int) (k' : IntKind) (b : Int) : Option AV := bc (kEq k k') (some (.bool (not (leI a b)))) none
noncomputable def b_geq (k : IntKind) (a : Int) (k' : IntKind) (b : Int) : Option AV := bc (kEq k k') (some (.bool (leI b a))) none
noncomputable def intBin (op : BinOp) : IntKind → Int → IntKind → Int → Option AV :=
  BinOp.rec (motive := fun _ => IntKind → Int → IntKind → Int → Option AV) b_add b_sub b_mul b_quo b_rem b_and b_or b_xor b_shl b_shr b_andNot b_eql b_neq b_lss b_leq b_gtr b_geq op

def bytesLess : List UInt8 → List UInt8 → Bool
  | _, [] => false
  | [], _ :: _ => true
  | a :: x, b :: y => bif Nat.blt a.toNat b.toNat then true else bif Nat.beq a.toNat b.toNat then bytesLess x y else false

def bytesEq : List UInt8 → List UInt8 → Bool
  | [], [] => true
  | a :: x, b :: y => bif Nat.beq a.toNat b.toNat then bytesEq x y else false
  | _, _ => false

def strBin (op : BinOp) (x y : List UInt8) : Option AV :=
  match op with
  | .add => bif Nat.ble (Nat.add x.length y.length) 4611686018427387904 then some (.str (x ++ y)) else none
  | .eql => some (.bool (bytesEq x y))
  | .neq => some (.bool (not (bytesEq x y)))
  | .lss => some (.bool (bytesLess x y))
  | .leq => some (.bool (or (bytesLess x y) (bytesEq x y)))
  | .gtr => some (.bool (not (or (bytesLess x y) (bytesEq x y))))
  | .geq => some (.bool (not (bytesLess x y)))
  | _ => none

/-- whether two places are one: of blocks that are there, and are none of a string's -/
noncomputable def ptrEq (h : H) (a i b j : Nat) : Option Bool :=
  bc (Nat.beq a b) (some (Nat.beq i j)) (ob (h.get a) fun x => ob (h.get b) fun y => bc (asPlain x) (bc (asPlain y) (some false) none) none)

/-- equality of values that are no numbers and no texts; lit: one of them is written out -/
noncomputable def q_bool2 (a : Bool) (y : AV) : Option Bool := AV.casesOn (motive_1 := fun _ => Option Bool) y (fun _ _ => none) (fun b => some (Bool.casesOn a (not b) b)) (fun _ => none) (none) (fun _ _ => none) (none) (fun _ _ _ _ _ _ => none) (none) (none) (fun _ => none) (none) (fun _ _ _ => none) (none) (fun _ _ => none) (fun _ => none) (fun _ => none) (fun _ => none)
noncomputable def q_bool (x y : AV) : Option Bool := AV.casesOn (motive_1 := fun _ => Option Bool) x (fun _ _ => none) (fun a => q_bool2 a y) (fun _ => none) (none) (fun _ _ => none) (none) (fun _ _ _ _ _ _ => none) (none) (none) (fun _ => none) (none) (fun _ _ _ => none) (none) (fun _ _ => none) (fun _ => none) (fun _ => none) (fun _ => none)
noncomputable def q_nilp (y : AV) : Option Bool := AV.casesOn (motive_1 := fun _ => Option Bool) y (fun _ _ => none) (fun _ => none) (fun _ => none) (some true) (fun _ _ => some false) (none) (fun _ _ _ _ _ _ => none) (none) (none) (fun _ => none) (none) (fun _ _ _ => none) (none) (fun _ _ => none) (fun _ => none) (fun _ => none) (fun _ => none)
noncomputable def q_ptr2 (h : H) (a i : Nat) (y : AV) : Option Bool := AV.casesOn (motive_1 := fun _ => Option Bool) y (fun _ _ => none) (fun _ => none) (fun _ => none) (some false) (fun b j => ptrEq h a i b j) (none) (fun _ _ _ _ _ _ => none) (none) (none) (fun _ => none) (none) (fun _ _ _ => none) (none) (fun _ _ => none) (fun _ => none) (fun _ => none) (fun _ => none)
noncomputable def q_ptr (h : H) (x y : AV) : Option Bool := AV.casesOn (motive_1 := fun _ => Option Bool) x (fun _ _ => none) (fun _ => none) (fun _ => none) (q_nilp y) (fun a i => q_ptr2 h a i y) (none) (fun _ _ _ _ _ _ => none) (none) (none) (fun _ => none) (none) (fun _ _ _ => none) (none) (fun _ _ => none) (fun _ => none) (fun _ => none) (fun _ => none)
noncomputable def q_nili (lit : Bool) (y : AV) : Option Bool := AV.casesOn (motive_1 := fun _ => Option Bool) y (fun _ _ => none) (fun _ => none) (fun _ => none) (none) (fun _ _ => none) (none) (fun _ _ _ _ _ _ => none) (none) (none) (fun _ => none) (none) (fun _ _ _ => none) (bc lit (some true) none) (fun _ _ => some false) (fun _ => none) (fun _ => none) (fun _ => none)
noncomputable def q_ifc2 (y : AV) : Option Bool := AV.casesOn (motive_1 := fun _ => Option Bool) y (fun _ _ => none) (fun _ => none) (fun _ => none) (none) (fun _ _ => none) (none) (fun _ _ _ _ _ _ => none) (none) (none) (fun _ => none) (none) (fun _ _ _ => none) (some false) (fun _ _ => none) (fun _ => none) (fun _ => none) (fun _ => none)
noncomputable def q_ifc (lit : Bool) (x y : AV) : Option Bool := AV.casesOn (motive_1 := fun _ => Option Bool) x (fun _ _ => none) (fun _ => none) (fun _ => none) (none) (fun _ _ => none) (none) (fun _ _ _ _ _ _ => none) (none) (none) (fun _ => none) (none) (fun _ _ _ => none) (q_nili lit y) (fun _ _ => q_ifc2 y) (fun _ => none) (fun _ => none) (fun _ => none)
noncomputable def q_nils (y : AV) : Option Bool := AV.casesOn (motive_1 := fun _ => Option Bool) y (fun _ _ => none) (fun _ => none) (fun _ => none) (none) (fun _ _ => none) (some true) (fun _ _ _ _ _ _ => some false) (some false) (none) (fun _ => none) (none) (fun _ _ _ => none) (none) (fun _ _ => none) (fun _ => none) (fun _ => none) (fun _ => none)
noncomputable def q_sl2 (y : AV) : Option Bool := AV.casesOn (motive_1 := fun _ => Option Bool) y (fun _ _ => none) (fun _ => none) (fun _ => none) (none) (fun _ _ => none) (some false) (fun _ _ _ _ _ _ => none) (none) (none) (fun _ => none) (none) (fun _ _ _ => none) (none) (fun _ _ => none) (fun _ => none) (fun _ => none) (fun _ => none)
noncomputable def q_sl (x y : AV) : Option Bool := AV.casesOn (motive_1 := fun _ => Option Bool) x (fun _ _ => none) (fun _ => none) (fun _ => none) (none) (fun _ _ => none) (q_nils y) (fun _ _ _ _ _ _ => q_sl2 y) (q_sl2 y) (none) (fun _ => none) (none) (fun _ _ _ => none) (none) (fun _ _ => none) (fun _ => none) (fun _ => none) (fun _ => none)

/-- '==' at a type -/
noncomputable def eqD (h : H) (lit : Bool) (d : TypeDesc) (x y : AV) : Option Bool :=
  match d with
  | .bool => q_bool x y
  | .pointer e => ob (tsize P e) fun n => bc (Nat.beq n 0) none (q_ptr h x y)
  | .interface _ => q_ifc lit x y
  | .slice _ => q_sl x y
  | _ => none

def eqBin (op : BinOp) (r : Bool) : Option AV :=
  match op with
  | .eql => some (.bool r)
  | .neq => some (.bool (not r))
  | _ => none

noncomputable def bo_int (k : IntKind) (a : Int) (op : BinOp) (y : AV) : Option AV := AV.casesOn (motive_1 := fun _ => Option AV) y (fun k' b => intBin op k a k' b) (fun _ => none) (fun _ => none) (none) (fun _ _ => none) (none) (fun _ _ _ _ _ _ => none) (none) (none) (fun _ => none) (none) (fun _ _ _ => none) (none) (fun _ _ => none) (fun _ => none) (fun _ => none) (fun _ => none)
noncomputable def bo_str (a : List UInt8) (op : BinOp) (y : AV) : Option AV := AV.casesOn (motive_1 := fun _ => Option AV) y (fun _ _ => none) (fun _ => none) (fun b => strBin op a b) (none) (fun _ _ => none) (none) (fun _ _ _ _ _ _ => none) (none) (none) (fun _ => none) (none) (fun _ _ _ => none) (none) (fun _ _ => none) (fun _ => none) (fun _ => none) (fun _ => none)
noncomputable def bo_eq (h : H) (lit : Bool) (t : TypeId) (x : AV) (op : BinOp) (y : AV) : Option AV := ob (P.underlying t) fun d => ob (eqD P h lit d x y) fun r => eqBin op r
noncomputable def binop (h : H) (lit : Bool) (t : TypeId) (op : BinOp) (x y : AV) : Option AV := AV.casesOn (motive_1 := fun _ => Option AV) x (fun k a => bo_int k a op y) (fun _ => bo_eq P h lit t x op y) (fun a => bo_str a op y) (bo_eq P h lit t x op y) (fun _ _ => bo_eq P h lit t x op y) (bo_eq P h lit t x op y) (fun _ _ _ _ _ _ => bo_eq P h lit t x op y) (bo_eq P h lit t x op y) (bo_eq P h lit t x op y) (fun _ => bo_eq P h lit t x op y) (bo_eq P h lit t x op y) (fun _ _ _ => bo_eq P h lit t x op y) (bo_eq P h lit t x op y) (fun _ _ => bo_eq P h lit t x op y) (fun _ => bo_eq P h lit t x op y) (fun _ => bo_eq P h lit t x op y) (fun _ => bo_eq P h lit t x op y)

noncomputable def u_int (op : UnOp) (k : IntKind) (n : Int) : Option AV :=
  UnOp.casesOn op (some (.int k (wrapK k (Int.neg n)))) (some (.int k (backK k (Nat.sub (Nat.sub (modK k) 1) (natK k n))))) none none
noncomputable def u_bool (op : UnOp) (b : Bool) : Option AV := UnOp.casesOn op none none (some (.bool (not b))) none

noncomputable def unop (op : UnOp) (x : AV) : Option AV := AV.casesOn (motive_1 := fun _ => Option AV) x (fun k n => u_int op k n) (fun b => u_bool op b) (fun _ => none) (none) (fun _ _ => none) (none) (fun _ _ _ _ _ _ => none) (none) (none) (fun _ => none) (none) (fun _ _ _ => none) (none) (fun _ _ => none) (fun _ => none) (fun _ => none) (fun _ => none)
noncomputable def lenOf (v : AV) : Option Nat := AV.casesOn (motive_1 := fun _ => Option Nat) v (fun _ _ => none) (fun _ => none) (fun s => some s.length) (none) (fun _ _ => none) (some 0) (fun _ _ n _ _ _ => some n) (some 0) (none) (fun _ => none) (none) (fun _ _ _ => none) (none) (fun _ _ => none) (fun _ => none) (fun _ => none) (fun _ => none)
noncomputable def asInt (v : AV) : Option Int := AV.casesOn (motive_1 := fun _ => Option Int) v (fun _ n => some n) (fun _ => none) (fun _ => none) (none) (fun _ _ => none) (none) (fun _ _ _ _ _ _ => none) (none) (none) (fun _ => none) (none) (fun _ _ _ => none) (none) (fun _ _ => none) (fun _ => none) (fun _ => none) (fun _ => none)
noncomputable def asIdx (v : AV) : Option Nat := ob (asInt v) fun n => Int.casesOn n some (fun _ => none)
noncomputable def asPtr (v : AV) : Option (Nat × Nat) := AV.casesOn (motive_1 := fun _ => Option (Nat × Nat)) v (fun _ _ => none) (fun _ => none) (fun _ => none) (none) (fun b o => some (b, o)) (none) (fun _ _ _ _ _ _ => none) (none) (none) (fun _ => none) (none) (fun _ _ _ => none) (none) (fun _ _ => none) (fun _ => none) (fun _ => none) (fun _ => none)
noncomputable def asB (v : AV) : Option Bool := AV.casesOn (motive_1 := fun _ => Option Bool) v (fun _ _ => none) (fun b => some b) (fun _ => none) (none) (fun _ _ => none) (none) (fun _ _ _ _ _ _ => none) (none) (none) (fun _ => none) (none) (fun _ _ _ => none) (none) (fun _ _ => none) (fun _ => none) (fun _ => none) (fun _ => none)
noncomputable def asTup (v : AV) : Option (List AV) := AV.casesOn (motive_1 := fun _ => Option (List AV)) v (fun _ _ => none) (fun _ => none) (fun _ => none) (none) (fun _ _ => none) (none) (fun _ _ _ _ _ _ => none) (none) (none) (fun _ => none) (none) (fun _ _ _ => none) (none) (fun _ _ => none) (fun _ => none) (fun b => some b) (fun _ => none)
noncomputable def asAgg (v : AV) : Option (List AV) := AV.casesOn (motive_1 := fun _ => Option (List AV)) v (fun _ _ => none) (fun _ => none) (fun _ => none) (none) (fun _ _ => none) (none) (fun _ _ _ _ _ _ => none) (none) (none) (fun _ => none) (none) (fun _ _ _ => none) (none) (fun _ _ => none) (fun b => some b) (fun _ => none) (fun _ => none)
noncomputable def asStr (v : AV) : Option (List UInt8) := AV.casesOn (motive_1 := fun _ => Option (List UInt8)) v (fun _ _ => none) (fun _ => none) (fun b => some b) (none) (fun _ _ => none) (none) (fun _ _ _ _ _ _ => none) (none) (none) (fun _ => none) (none) (fun _ _ _ => none) (none) (fun _ _ => none) (fun _ => none) (fun _ => none) (fun _ => none)
noncomputable def asMapV (v : AV) : Option Nat := AV.casesOn (motive_1 := fun _ => Option Nat) v (fun _ _ => none) (fun _ => none) (fun _ => none) (none) (fun _ _ => none) (none) (fun _ _ _ _ _ _ => none) (none) (none) (fun b => some b) (none) (fun _ _ _ => none) (none) (fun _ _ => none) (fun _ => none) (fun _ => none) (fun _ => none)
noncomputable def fnOf (v : AV) : Option (FuncId × List AV × List AV) := AV.casesOn (motive_1 := fun _ => Option (FuncId × List AV × List AV)) v (fun _ _ => none) (fun _ => none) (fun _ => none) (none) (fun _ _ => none) (none) (fun _ _ _ _ _ _ => none) (none) (none) (fun _ => none) (none) (fun f a b => some (f, a, b)) (none) (fun _ _ => none) (fun _ => none) (fun _ => none) (fun _ => none)
noncomputable def ifcOf (v : AV) : Option (TypeId × AV) := AV.casesOn (motive_1 := fun _ => Option (TypeId × AV)) v (fun _ _ => none) (fun _ => none) (fun _ => none) (none) (fun _ _ => none) (none) (fun _ _ _ _ _ _ => none) (none) (none) (fun _ => none) (none) (fun _ _ _ => none) (none) (fun t v => some (t, v)) (fun _ => none) (fun _ => none) (fun _ => none)
noncomputable def nilOk (v : AV) : Option AV := AV.casesOn (motive_1 := fun _ => Option AV) v (fun _ _ => none) (fun _ => none) (fun _ => none) (none) (fun _ _ => some v) (none) (fun _ _ _ _ _ _ => none) (none) (none) (fun _ => none) (none) (fun _ _ _ => some v) (none) (fun _ _ => some v) (fun _ => none) (fun _ => none) (fun _ => none)

noncomputable def byteCells (s : List UInt8) : List AV := List.rec [] (fun b _ ih => .int .u8 (Int.ofNat b.toNat) :: ih) s

noncomputable def firstCells (h : H) (es n : Nat) (v : AV) : Option (List AV) := AV.casesOn (motive_1 := fun _ => Option (List AV)) v (fun _ _ => none) (fun _ => none) (fun s => bc (Nat.beq es 1) (ob (takeN n s) fun s => some (byteCells s)) none) (none) (fun _ _ => none) (some []) (fun b o _ _ e _ => bc (Nat.beq e es) (loadCells h b o (Nat.mul n es)) none) (bc (Nat.beq n 0) (some []) none) (none) (fun _ => none) (none) (fun _ _ _ => none) (none) (fun _ _ => none) (fun _ => none) (fun _ => none) (fun _ => none)

noncomputable def repl (z : List AV) (n : Nat) : List AV := Nat.rec [] (fun _ ih => z ++ ih) n

/-- what an operation comes to: a value and a heap, or a call -/
inductive R where
  | val (v : AV) (h : H)
  | call (f : FuncId) (args : List AV) (h : H)

def isIntD (d : TypeDesc) : Bool := match d with | .int _ => true | _ => false

noncomputable def newSl (h : H) (cs : List AV) (n c es : Nat) (ex : Bool) : Option R := some (.val (.sl h.next 0 n c es ex) (h.new (.cells cs true)))

/-- as many bytes as a slice may have here -/
def maxBytes : Nat := 1099511627776

noncomputable def plainOf (h : H) (b : Nat) : Bool := Option.casesOn (h.get b) false asPlain

noncomputable def a_nils (h : H) (es n : Nat) (news : List AV) : Option R := bc (Nat.beq n 0) (some (.val .nils h)) (newSl h news n n es false)
noncomputable def a_sl (h : H) (es n : Nat) (news : List AV) (b o len cap e : Nat) (ex : Bool) : Option R :=
  bc (Nat.beq e es) (bc (Nat.ble (Nat.add len n) cap)
      (ob (storeCells h b (Nat.add o (Nat.mul len es)) news) fun h => some (.val (.sl b o (Nat.add len n) cap es ex) h))
      (ob (loadCells h b o (Nat.mul len es)) fun old => some (.val (.sl h.next 0 (Nat.add len n) (Nat.add len n) es false) ((bc ex h (h.kill b)).new (.cells (old ++ news) (bc ex true (plainOf h b))))))) none

noncomputable def appTo (h : H) (es n : Nat) (news : List AV) (s : AV) : Option R := AV.casesOn (motive_1 := fun _ => Option R) s (fun _ _ => none) (fun _ => none) (fun _ => none) (none) (fun _ _ => none) (a_nils h es n news) (fun b o len cap e ex => a_sl h es n news b o len cap e ex) (bc (Nat.beq n 0) (some (.val .sl0 h)) none) (none) (fun _ => none) (none) (fun _ _ _ => none) (none) (fun _ _ => none) (fun _ => none) (fun _ => none) (fun _ => none)

noncomputable def allOne (l : List AV) : Bool := List.rec true (fun v _ ih => bc v.one ih false) l

/-- what is appended: zeros (a number of them), or the cells of a slice or a text -/
noncomputable def newsOf (h : H) (es : Nat) (z : List AV) (d : TypeDesc) (x : AV) : Option (Nat × List AV) :=
  bc (isIntD d) (ob (asIdx x) fun m => some (m, repl z m)) (ob (lenOf x) fun n => ob (firstCells h es n x) fun l => some (n, l))

noncomputable def appendA (h : H) (st xt : TypeId) (s x : AV) : Option R :=
  ob (telem P st) fun e => ob (elemInfo P e) fun i => ob (P.underlying xt) fun d =>
  ob (newsOf h i.1 i.2.2 d x) fun news => ob (lenOf s) fun len =>
  bc (Nat.ble (Nat.mul (Nat.add len news.1) (Nat.add i.2.1 1)) maxBytes) (bc (allOne news.2) (appTo h i.1 news.1 news.2 s) none) none

noncomputable def bnd (d top : Nat) (v : Option AV) : Option Nat := Option.casesOn v (some d) (fun v => ob (asIdx v) fun i => bc (Nat.ble i top) (some i) none)

noncomputable def sl3 (es b o : Nat) (ex full : Bool) (l h m : Nat) : AV :=
  bc (or ex full) (.sl b (bc (Nat.beq m l) o (Nat.add o (Nat.mul l es))) (Nat.sub h l) (Nat.sub m l) es true)
    (bc (or (Nat.beq l 0) (Nat.blt l m)) (.sl b (Nat.add o (Nat.mul l es)) (Nat.sub h l) (Nat.sub m l) es false) .sl0)

noncomputable def s_str (s : List UInt8) (lo hi : Option AV) : Option AV :=
  ob (bnd s.length s.length hi) fun h => ob (bnd 0 h lo) fun l => ob (takeN (Nat.sub h l) (dropN l s)) fun r => some (.str r)
noncomputable def s_nil (r : AV) (lo hi mx : Option AV) : Option AV := ob (bnd 0 0 mx) fun m => ob (bnd 0 m hi) fun h => ob (bnd 0 h lo) fun _ => some r
noncomputable def s_sl (size b o len cap es : Nat) (ex : Bool) (lo hi mx : Option AV) : Option AV :=
  bc (Nat.beq size es) (ob (bnd cap cap mx) fun m => ob (bnd len m hi) fun h => ob (bnd 0 h lo) fun l => some (sl3 es b o ex mx.isSome l h m)) none
noncomputable def s_arr (h : H) (n size b o : Nat) (lo hi mx : Option AV) : Option AV :=
  bc (Nat.beq n 0) none (ob (loadCell h b (Nat.sub (Nat.add o (Nat.mul n size)) 1)) fun _ => ob (bnd n n mx) fun m => ob (bnd n m hi) fun hh => ob (bnd 0 hh lo) fun l => some (sl3 size b o true mx.isSome l hh m))

noncomputable def s_slice (size : Nat) (x : AV) (lo hi mx : Option AV) : Option AV := AV.casesOn (motive_1 := fun _ => Option AV) x (fun _ _ => none) (fun _ => none) (fun _ => none) (none) (fun _ _ => none) (s_nil .nils lo hi mx) (fun b o len cap es ex => s_sl size b o len cap es ex lo hi mx) (s_nil .sl0 lo hi mx) (none) (fun _ => none) (none) (fun _ _ _ => none) (none) (fun _ _ => none) (fun _ => none) (fun _ => none) (fun _ => none)

noncomputable def sliceV (h : H) (d : TypeDesc) (x : AV) (lo hi mx : Option AV) : Option AV :=
  match d with
  | .string => bc mx.isNone (ob (asStr x) fun s => s_str s lo hi) none
  | .slice e => bc (or hi.isSome mx.isNone) (ob (tsize P e) fun size => bc (Nat.beq size 0) none (s_slice size x lo hi mx)) none
  | .array n e => bc (or hi.isSome mx.isNone) (ob (tsize P e) fun size => bc (Nat.beq size 0) none (ob (asPtr x) fun p => s_arr h n size p.1 p.2 lo hi mx)) none
  | _ => none

/-- a map's key: a number of a kind -/

noncomputable def keyOf (v : AV) : Option (IntKind × Int) := AV.casesOn (motive_1 := fun _ => Option (IntKind × Int)) v (fun k n => some (k, n)) (fun _ => none) (fun _ => none) (none) (fun _ _ => none) (none) (fun _ _ _ _ _ _ => none) (none) (none) (fun _ => none) (none) (fun _ _ _ => none) (none) (fun _ _ => none) (fun _ => none) (fun _ => none) (fun _ => none)
noncomputable def sameKey (k : IntKind) (n : Int) (v : AV) : Option Bool := ob (keyOf v) fun q => bc (kEq k q.1) (some (eqI n q.2)) none

noncomputable def findE (k : IntKind) (n : Int) (es : List (AV × AV)) : Option (Option AV) :=
  List.rec (some none) (fun p _ ih => ob (sameKey k n p.1) fun r => bc r (some (some p.2)) ih) es

noncomputable def putE (k : IntKind) (n : Int) (v : AV) (es : List (AV × AV)) : Option (List (AV × AV)) :=
  List.rec (some [(.int k n, v)]) (fun p es ih => ob (sameKey k n p.1) fun r => bc r (some ((.int k n, v) :: es)) (ob ih fun r => some (p :: r))) es

noncomputable def delE (k : IntKind) (n : Int) (es : List (AV × AV)) : Option (List (AV × AV)) :=
  List.rec (some []) (fun p es ih => ob (sameKey k n p.1) fun r => bc r (some es) (ob ih fun r => some (p :: r))) es

noncomputable def evs (ε : Env) (l : List Operand) : Option (List AV) :=
  List.rec (some []) (fun x _ ih => ob (ε x) fun v => ob ih fun r => some (v :: r)) l

noncomputable def fillParts (place : Nat → Option (Nat × Nat)) (ps : List (Nat × AV)) : List AV → Option (List AV) :=
  List.rec (fun cells => some cells) (fun p _ ih cells => ob (place p.1) fun q => bc (Nat.beq p.2.cells.length q.2) (ob (setRange cells q.1 p.2.cells) fun cells => ih cells) none) ps

noncomputable def evParts (ε : Env) (l : List (Nat × Operand)) : Option (List (Nat × AV)) :=
  List.rec (some []) (fun p _ ih => ob (ε p.2) fun v => ob ih fun r => some ((p.1, v) :: r)) l

noncomputable def evO (ε : Env) (x : Option Operand) : Option (Option AV) := Option.casesOn x (some none) (fun x => ob (ε x) fun v => some (some v))

def undef : AV := .tup []

noncomputable def asByte (v : AV) : Option UInt8 := AV.casesOn (motive_1 := fun _ => Option UInt8) v (fun k n => bc (kEq k .u8) (Int.casesOn n (fun m => bc (Nat.blt m 256) (some (UInt8.ofNat m)) none) (fun _ => none)) none) (fun _ => none) (fun _ => none) (none) (fun _ _ => none) (none) (fun _ _ _ _ _ _ => none) (none) (none) (fun _ => none) (none) (fun _ _ _ => none) (none) (fun _ _ => none) (fun _ => none) (fun _ => none) (fun _ => none)

noncomputable def toBytes (l : List AV) : Option (List UInt8) := List.rec (some []) (fun v _ ih => ob (asByte v) fun b => ob ih fun r => some (b :: r)) l

noncomputable def bytesOf (h : H) (v : AV) : Option (List UInt8) := AV.casesOn (motive_1 := fun _ => Option (List UInt8)) v (fun _ _ => none) (fun _ => none) (fun _ => none) (none) (fun _ _ => none) (some []) (fun b o n _ es _ => bc (Nat.beq es 1) (ob (loadCells h b o n) toBytes) none) (some []) (none) (fun _ => none) (none) (fun _ _ _ => none) (none) (fun _ _ => none) (fun _ => none) (fun _ => none) (fun _ => none)

noncomputable def retV (v : AV) (h : H) : Option R := some (.val v h)

/-- what is known from outside: what functions without a body answer; what operations on unknown values come to -/
structure Ext where
  fn : FuncId → List AV → H → Option (AV × H)
  bin : BinOp → TypeId → AV → AV → Option AV
  un : UnOp → TypeId → AV → Option AV
  cv : TypeDesc → TypeDesc → AV → Option AV
  bu : Builtin → Array TypeId → List AV → Option AV

/-- the second where the first is nothing -/
noncomputable def orE {α : Type} (a b : Option α) : Option α := Option.casesOn a b some
abbrev Caller := FuncId → List AV → H → Option (AV × H)

noncomputable def callF (X : Ext) (f : FuncId) (args : List AV) (h : H) : Option R :=
  ob (P.funcs[f]?) fun fn => Option.casesOn fn.body (ob (X.fn f args h) fun p => retV p.1 p.2) fun _ => some (.call f args h)

noncomputable def taHit (ok : Bool) (v : AV) : AV := bc ok (.tup [v, .bool true]) v
noncomputable def taMiss (a : TypeId) (ok : Bool) : Option AV := bc ok (ob (tzeroV P a) fun z => some (.tup [z, .bool false])) none

def isIfcD (d : TypeDesc) : Bool := match d with | .interface _ => true | _ => false

noncomputable def ta (x : AV) (a : TypeId) (ok : Bool) : Option AV := AV.casesOn (motive_1 := fun _ => Option AV) x (fun _ _ => none) (fun _ => none) (fun _ => none) (none) (fun _ _ => none) (none) (fun _ _ _ _ _ _ => none) (none) (none) (fun _ => none) (none) (fun _ _ _ => none) (taMiss P a ok) (fun t v => bc (Nat.beq t a) (some (taHit ok v)) (taMiss P a ok)) (fun _ => none) (fun _ => none) (fun _ => none)

def decodeAt (s : List UInt8) (pos : Nat) : Nat × Nat := Utf8.decode ⟨s.toArray⟩ pos

noncomputable def placesOf (l : List Field) : Option (List (Nat × Nat)) := List.rec (some []) (fun f _ ih => ob (tsize P f.type) fun n => ob ih fun r => some ((f.offset, n) :: r)) l
noncomputable def buildD (d : TypeDesc) (z : List AV) (ps : List (Nat × AV)) : Option AV :=
  match d with
  | .struct fs => ob (placesOf P fs.toList) fun pl => ob (fillParts (nth pl) ps z) fun c => some (.agg c)
  | .array _ e => ob (tsize P e) fun s => ob (fillParts (fun i => some (Nat.mul i s, s)) ps z) fun c => some (.agg c)
  | _ => none
noncomputable def convInt (k : IntKind) (x : AV) (h : H) : Option R := ob (asInt x) fun n => retV (.int k (wrapK k n)) h
def isByteD (d : TypeDesc) : Bool := match d with | .int .u8 => true | _ => false
noncomputable def toStr (e : TypeId) (x : AV) (h : H) : Option R := ob (P.underlying e) fun d => bc (isByteD d) (ob (bytesOf h x) fun b => retV (.str b) h) none
noncomputable def fromStr (e : TypeId) (x : AV) (h : H) : Option R := ob (P.underlying e) fun d => bc (isByteD d) (ob (asStr x) fun s => bc (Nat.ble s.length maxBytes) (some (.val (.sl h.next 0 s.length s.length 1 false) (h.new (.cells (byteCells s) false)))) none) none
noncomputable def convD (s d : TypeDesc) (x : AV) (h : H) : Option R :=
  match d with
  | .int k => bc (isIntD s) (convInt k x h) none
  | .string => (match s with | .string => ob (asStr x) fun s => retV (.str s) h | .slice e => toStr P e x h | _ => none)
  | .slice e => (match s with | .string => fromStr P e x h | _ => none)
  | _ => none
noncomputable def indexAddrD (h : H) (d : TypeDesc) (x : AV) (i : Nat) : Option R :=
  match d with
  | .array n e => bc (Nat.blt i n) (ob (asPtr x) fun p => ob (tsize P e) fun s => retV (.ptr p.1 (Nat.add p.2 (Nat.mul i s))) h) none
  | .slice e => ob (tsize P e) fun s => AV.casesOn (motive_1 := fun _ => Option R) x (fun _ _ => none) (fun _ => none) (fun _ => none) (none) (fun _ _ => none) (none) (fun b o len _ es _ => bc (Nat.beq es s) (bc (Nat.blt i len) (retV (.ptr b (Nat.add o (Nat.mul i s))) h) none) none) (none) (none) (fun _ => none) (none) (fun _ _ _ => none) (none) (fun _ _ => none) (fun _ => none) (fun _ => none) (fun _ => none)
  | _ => none
noncomputable def indexD (h : H) (d : TypeDesc) (x : AV) (i : Nat) : Option R :=
  match d with
  | .array n e => bc (Nat.blt i n) (ob (asAgg x) fun cs => ob (tsize P e) fun s => ob (partOf P e cs (Nat.mul i s)) fun v => retV v h) none
  | .string => ob (asStr x) fun s => ob (nth s i) fun b => retV (.int .u8 (Int.ofNat b.toNat)) h
  | _ => none
/-- a map's type: its key is a number; its element's zero value -/
noncomputable def mapElem (t : TypeId) : Option AV := ob (P.underlying t) fun d => match d with | .map k e => ob (P.underlying k) fun kd => bc (isIntD kd) (tzeroV P e) none | _ => none

noncomputable def lookupM (h : H) (m : AV) (k : IntKind) (n : Int) : Option (Option AV) := AV.casesOn (motive_1 := fun _ => Option (Option AV)) m (fun _ _ => none) (fun _ => none) (fun _ => none) (none) (fun _ _ => none) (none) (fun _ _ _ _ _ _ => none) (none) (some none) (fun b => ob (h.get b) fun x => ob (asMap x) fun es => findE k n es) (none) (fun _ _ _ => none) (none) (fun _ _ => none) (fun _ => none) (fun _ => none) (fun _ => none)
noncomputable def lookR (ok : Bool) (z : AV) (r : Option AV) : AV := Option.casesOn r (bc ok (.tup [z, .bool false]) z) (fun v => bc ok (.tup [v, .bool true]) v)
def isPtrD (d : TypeDesc) : Bool := match d with | .pointer _ => true | _ => false
/-- a method of a dynamic type, called on its value -/
noncomputable def invokeM (X : Ext) (m : Method) (d : TypeDesc) (v : AV) (args : List AV) (h : H) : Option R :=
  bc m.path.isEmpty (ob m.func fun fp => bc fp.2 (bc (isPtrD d) (callF P X fp.1 (v :: args) h) none) (bc (isPtrD d) none (callF P X fp.1 (v :: args) h))) none
noncomputable def one1 (l : List AV) (k : AV → Option R) : Option R := List.casesOn l none (fun a l => List.casesOn l (k a) (fun _ _ => none))
noncomputable def two2 (l : List AV) (k : AV → AV → Option R) : Option R := List.casesOn l none (fun a l => List.casesOn l none (fun b l => List.casesOn l (k a b) (fun _ _ => none)))
noncomputable def lenD (d : TypeDesc) (x : AV) (h : H) : Option R :=
  match d with
  | .array n _ => retV (.int .i64 (Int.ofNat n)) h
  | .pointer a => ob (P.underlying a) fun d => (match d with | .array n _ => retV (.int .i64 (Int.ofNat n)) h | _ => none)
  | .slice _ => bc (asStr x).isSome none (ob (lenOf x) fun n => retV (.int .i64 (Int.ofNat n)) h)
  | .string => ob (asStr x) fun s => retV (.int .i64 (Int.ofNat s.length)) h
  | _ => none

noncomputable def capV (x : AV) (h : H) : Option R := AV.casesOn (motive_1 := fun _ => Option R) x (fun _ _ => none) (fun _ => none) (fun _ => none) (none) (fun _ _ => none) (retV (.int .i64 0) h) (fun _ _ _ c _ ex => bc ex (retV (.int .i64 (Int.ofNat c)) h) none) (none) (none) (fun _ => none) (none) (fun _ _ _ => none) (none) (fun _ _ => none) (fun _ => none) (fun _ => none) (fun _ => none)
noncomputable def isSliceD (d : TypeDesc) : Bool := (telemD d).isSome
noncomputable def copyTo (h : H) (es n : Nat) (cs : List AV) (d : AV) : Option R := AV.casesOn (motive_1 := fun _ => Option R) d (fun _ _ => none) (fun _ => none) (fun _ => none) (none) (fun _ _ => none) (retV (.int .i64 0) h) (fun b o _ _ e _ => bc (Nat.beq e es) (ob (storeCells h b o cs) fun h => retV (.int .i64 (Int.ofNat n)) h) none) (retV (.int .i64 0) h) (none) (fun _ => none) (none) (fun _ _ _ => none) (none) (fun _ _ => none) (fun _ => none) (fun _ => none) (fun _ => none)
noncomputable def clearV (h : H) (es : Nat) (z : List AV) (d : AV) : Option R := AV.casesOn (motive_1 := fun _ => Option R) d (fun _ _ => none) (fun _ => none) (fun _ => none) (none) (fun _ _ => none) (retV undef h) (fun b o n _ e _ => bc (Nat.beq e es) (ob (storeCells h b o (repl z n)) fun h => retV undef h) none) (retV undef h) (none) (fun _ => none) (none) (fun _ _ _ => none) (none) (fun _ _ => none) (fun _ => none) (fun _ => none) (fun _ => none)
noncomputable def t0 (ts : Array TypeId) (k : TypeId → Option R) : Option R := ob (nth ts.toList 0) k
noncomputable def min2 (x y : AV) (h : H) : Option R := ob (keyOf x) fun a => ob (keyOf y) fun b => bc (kEq a.1 b.1) (retV (.int a.1 (bc (leI a.2 b.2) a.2 b.2)) h) none
noncomputable def max2 (x y : AV) (h : H) : Option R := ob (keyOf x) fun a => ob (keyOf y) fun b => bc (kEq a.1 b.1) (retV (.int a.1 (bc (leI b.2 a.2) a.2 b.2)) h) none

noncomputable def x_no : Program → H → Array TypeId → List AV → Option R := fun _ _ _ _ => none
noncomputable def x_append : Program → H → Array TypeId → List AV → Option R := fun P h ts args => ob (nth ts.toList 0) fun t => ob (nth ts.toList 1) fun u => two2 args fun s x => appendA P h t u s x
noncomputable def x_cap : Program → H → Array TypeId → List AV → Option R := fun P h ts args => t0 ts fun t => ob (telem P t) fun _ => one1 args fun x => capV x h
noncomputable def x_clear : Program → H → Array TypeId → List AV → Option R := fun P h ts args => t0 ts fun t => ob (telem P t) fun e => ob (elemInfo P e) fun i => one1 args fun x => clearV h i.1 i.2.2 x
noncomputable def x_copy : Program → H → Array TypeId → List AV → Option R := fun P h ts args => t0 ts fun t => ob (telem P t) fun e => ob (tsize P e) fun s => two2 args fun d x => bc (Nat.beq s 0) none (ob (lenOf x) fun m => ob (lenOf d) fun n => ob (firstCells h s (minN m n) x) fun cs => copyTo h s (minN m n) cs d)
noncomputable def x_delete : Program → H → Array TypeId → List AV → Option R := fun P h ts args => t0 ts fun t => ob (mapElem P t) fun _ => two2 args fun m k => ob (asMapV m) fun b => ob (keyOf k) fun q => ob (h.get b) fun x => ob (asMap x) fun es => ob (delE q.1 q.2 es) fun es => retV (.tup []) (h.set b (.map es))
noncomputable def x_len : Program → H → Array TypeId → List AV → Option R := fun P h ts args => t0 ts fun t => ob (P.underlying t) fun d => one1 args fun x => lenD P d x h
noncomputable def x_max : Program → H → Array TypeId → List AV → Option R := fun _ h _ args => two2 args fun x y => max2 x y h
noncomputable def x_min : Program → H → Array TypeId → List AV → Option R := fun _ h _ args => two2 args fun x y => min2 x y h

noncomputable def builtinT (b : Builtin) : Program → H → Array TypeId → List AV → Option R :=
  Builtin.rec (motive := fun _ => Program → H → Array TypeId → List AV → Option R) x_append x_cap x_clear x_no x_no x_copy x_delete x_no x_len x_no x_max x_min x_no x_no x_no x_no x_no x_no x_no x_no x_no x_no x_no x_no x_no x_no b

noncomputable def k_value (f : Operand) : Program → Ext → Env → H → Array TypeId → List AV → Option R := fun P X ε h _ args => ob (ε f) fun v => ob (fnOf v) fun x => callF P X x.1 (x.2.1 ++ (args ++ x.2.2)) h
noncomputable def k_invoke (r : Operand) (name : String) : Program → Ext → Env → H → Array TypeId → List AV → Option R := fun P X ε h _ args => ob (ε r) fun v => ob (ifcOf v) fun x => ob (P.info? x.1) fun i => ob (P.underlying x.1) fun d => ob (i.methods.toList.find? (·.name == name)) fun m => invokeM P X m d x.2 args h
noncomputable def k_builtin (b : Builtin) : Program → Ext → Env → H → Array TypeId → List AV → Option R := fun P X _ h ts args => orE (builtinT b P h ts args) (ob (X.bu b ts args) fun v => retV v h)
noncomputable def calleeT (c : Callee) : Program → Ext → Env → H → Array TypeId → List AV → Option R := Callee.rec (motive := fun _ => Program → Ext → Env → H → Array TypeId → List AV → Option R) k_value k_invoke k_builtin c

noncomputable def e_move (x : Operand) : Program → Ext → Env → H → Option R := fun _ _ ε h => ob (ε x) fun v => retV v h
noncomputable def e_assign (x : Operand) : Program → Ext → Env → H → Option R := fun _ _ ε h => ob (ε x) fun v => retV v h
noncomputable def e_pick (c a b : Operand) : Program → Ext → Env → H → Option R := fun _ _ ε h => ob (ε c) fun c => ob (asB c) fun t => ob (bc t (ε a) (ε b)) fun v => retV v h
noncomputable def e_alloc (e : TypeId) : Program → Ext → Env → H → Option R := fun P _ _ h => ob (tzero P e) fun z => some (.val (.ptr h.next 0) (h.new (.cells z true)))
noncomputable def e_box (_t : TypeId) (x : Operand) : Program → Ext → Env → H → Option R := fun _ _ ε h => ob (ε x) fun v => some (.val (.ptr h.next 0) (h.new (.cells v.cells true)))
noncomputable def e_build (t : TypeId) (ps : Array (Nat × Operand)) : Program → Ext → Env → H → Option R := fun P _ ε h => ob (tzero P t) fun z => ob (evParts ε ps.toList) fun ps => ob (P.underlying t) fun d => ob (buildD P d z ps) fun v => retV v h
noncomputable def e_buildSlice (t : TypeId) (len : Nat) (ps : Array (Nat × Operand)) : Program → Ext → Env → H → Option R := fun P _ ε h => ob (telem P t) fun e => ob (elemInfo P e) fun i => ob (evParts ε ps.toList) fun ps => bc (Nat.ble (Nat.mul len i.1) 16777216) (ob (fillParts (fun j => some (Nat.mul j i.1, i.1)) ps (repl i.2.2 len)) fun cs => newSl h cs len len i.1 true) none
noncomputable def e_load (t : TypeId) (a : Operand) : Program → Ext → Env → H → Option R := fun P _ ε h => ob (ε a) fun v => ob (asPtr v) fun p => ob (loadT P h t p.1 p.2) fun v => retV v h
noncomputable def e_store (t : TypeId) (a x : Operand) : Program → Ext → Env → H → Option R := fun P _ ε h => ob (ε a) fun v => ob (asPtr v) fun p => ob (ε x) fun x => ob (storeT P h t p.1 p.2 x) fun h => retV undef h
noncomputable def e_nilCheck (x : Operand) : Program → Ext → Env → H → Option R := fun _ _ ε h => ob (ε x) fun v => ob (nilOk v) fun v => retV v h
noncomputable def e_binOp (op : BinOp) (t : TypeId) (x y : Operand) (_u : TypeId) : Program → Ext → Env → H → Option R := fun P X ε h => ob (ε x) fun a => ob (ε y) fun b => ob (orE (binop P h (or (isConst x) (isConst y)) t op a b) (X.bin op t a b)) fun v => retV v h
noncomputable def e_unOp (op : UnOp) (t : TypeId) (x : Operand) : Program → Ext → Env → H → Option R := fun _ X ε h => ob (ε x) fun a => ob (orE (unop op a) (X.un op t a)) fun v => retV v h
noncomputable def e_convert (s d : TypeId) (x : Operand) : Program → Ext → Env → H → Option R := fun P X ε h => ob (P.underlying s) fun s => ob (P.underlying d) fun d => ob (ε x) fun v => orE (convD P s d v h) (ob (X.cv s d v) fun v => retV v h)
noncomputable def e_makeInterface (t : TypeId) (x : Operand) : Program → Ext → Env → H → Option R := fun P _ ε h => ob (P.underlying t) fun d => bc (isIfcD d) none (ob (ε x) fun v => retV (.ifc t v) h)
noncomputable def e_makeFunc (fn : Fn) (a b : Array Operand) : Program → Ext → Env → H → Option R := fun _ _ ε h => match fn with | .func f => ob (evs ε a.toList) fun a => ob (evs ε b.toList) fun b => retV (.fn f a b) h | _ => none
noncomputable def e_makeMap (_t : TypeId) (r : Option Operand) : Program → Ext → Env → H → Option R := fun _ _ _ h => bc r.isNone (some (.val (.map h.next) (h.new (.map [])))) none
noncomputable def e_makeSlice (t : TypeId) (l c : Operand) : Program → Ext → Env → H → Option R := fun P _ ε h => ob (telem P t) fun e => ob (elemInfo P e) fun i => ob (ε l) fun l => ob (asIdx l) fun l => ob (ε c) fun c => ob (asIdx c) fun c => bc (Nat.ble l c) (bc (Nat.ble (Nat.mul c (Nat.add i.2.1 1)) maxBytes) (newSl h (repl i.2.2 c) l c i.1 true) none) none
noncomputable def e_slice (t : TypeId) (x : Operand) (lo hi mx : Option Operand) : Program → Ext → Env → H → Option R := fun P _ ε h => ob (P.underlying t) fun d => ob (ε x) fun x => ob (evO ε lo) fun lo => ob (evO ε hi) fun hi => ob (evO ε mx) fun mx => ob (sliceV P h d x lo hi mx) fun v => retV v h
noncomputable def e_fieldAddr (t : TypeId) (x : Operand) (f : Nat) : Program → Ext → Env → H → Option R := fun P _ ε h => ob (fieldOf P t f) fun f => ob (tsize P f.type) fun s => bc (Nat.beq s 0) none (ob (ε x) fun v => ob (asPtr v) fun p => retV (.ptr p.1 (Nat.add p.2 f.offset)) h)
noncomputable def e_field (t : TypeId) (x : Operand) (f : Nat) : Program → Ext → Env → H → Option R := fun P _ ε h => ob (fieldOf P t f) fun f => ob (ε x) fun v => ob (asAgg v) fun cs => ob (partOf P f.type cs f.offset) fun v => retV v h
noncomputable def e_indexAddr (t : TypeId) (x ix : Operand) : Program → Ext → Env → H → Option R := fun P _ ε h => ob (P.underlying t) fun d => ob (ε ix) fun i => ob (asIdx i) fun i => ob (ε x) fun x => indexAddrD P h d x i
noncomputable def e_index (t : TypeId) (x ix : Operand) : Program → Ext → Env → H → Option R := fun P _ ε h => ob (P.underlying t) fun d => ob (ε ix) fun i => ob (asIdx i) fun i => ob (ε x) fun x => indexD P h d x i
noncomputable def e_lookup (t : TypeId) (x k : Operand) (ok : Bool) : Program → Ext → Env → H → Option R := fun P _ ε h => ob (mapElem P t) fun z => ob (ε x) fun m => ob (ε k) fun k => ob (keyOf k) fun q => ob (lookupM h m q.1 q.2) fun r => retV (lookR ok z r) h
noncomputable def e_mapUpdate (t : TypeId) (m k v : Operand) : Program → Ext → Env → H → Option R := fun P _ ε h => ob (mapElem P t) fun _ => ob (ε m) fun m => ob (asMapV m) fun b => ob (h.get b) fun x => ob (asMap x) fun es => ob (ε k) fun k => ob (keyOf k) fun q => ob (ε v) fun v => ob (putE q.1 q.2 v es) fun es => retV undef (h.set b (.map es))
noncomputable def e_range (t : TypeId) (x : Operand) : Program → Ext → Env → H → Option R := fun P _ ε h => ob (P.underlying t) fun d => match d with | .string => ob (ε x) fun v => ob (asStr v) fun s => some (.val (.ptr h.next 0) (h.new (.iter s 0))) | _ => none
noncomputable def e_next (it : Operand) (s : Bool) : Program → Ext → Env → H → Option R := fun _ _ ε h => bc s (ob (ε it) fun v => ob (asPtr v) fun p => bc (Nat.beq p.2 0) (ob (h.get p.1) fun o => ob (asIter o) fun i => bc (Nat.blt i.2 i.1.length) (some (.val (.tup [.bool true, .int .i64 (Int.ofNat i.2), .int .i32 (Int.ofNat (decodeAt i.1 i.2).1)]) (h.set p.1 (.iter i.1 (Nat.add i.2 (decodeAt i.1 i.2).2))))) (retV (.tup [.bool false]) h)) none) none
noncomputable def e_typeAssert (x : Operand) (_t a : TypeId) (ok : Bool) : Program → Ext → Env → H → Option R := fun P _ ε h => ob (P.underlying a) fun d => bc (isIfcD d) none (ob (ε x) fun x => ob (ta P x a ok) fun v => retV v h)
noncomputable def e_extract (t : Operand) (i : Nat) : Program → Ext → Env → H → Option R := fun _ _ ε h => ob (ε t) fun v => ob (asTup v) fun l => ob (nth l i) fun v => retV v h
noncomputable def e_call (c : Call) : Program → Ext → Env → H → Option R := fun P X ε h => ob (evs ε c.args.toList) fun args => calleeT c.callee P X ε h c.argTypes args
noncomputable def e_no : Program → Ext → Env → H → Option R := fun _ _ _ _ => none
noncomputable def execT (o : Op) : Program → Ext → Env → H → Option R :=
  Op.rec (motive := fun _ => Program → Ext → Env → H → Option R) e_move e_assign e_pick e_alloc e_box e_build e_buildSlice (fun _ _ _ _ => e_no) e_load e_store (fun _ => e_no) (fun _ => e_no) e_nilCheck e_binOp e_unOp e_convert (fun _ _ => e_no) e_makeInterface e_makeFunc e_makeMap (fun _ _ => e_no) e_makeSlice e_slice e_fieldAddr e_field e_indexAddr e_index e_lookup e_mapUpdate (fun _ _ _ => e_no) (fun _ _ _ _ => e_no) e_range e_next (fun _ => e_no) e_typeAssert e_extract e_call (fun _ => e_no) (fun _ => e_no) (fun _ => e_no) (fun _ _ => e_no) (fun _ _ _ => e_no) (fun _ _ => e_no) o

noncomputable def exec (X : Ext) (ε : Env) (h : H) (o : Op) : Option R := execT o P X ε h

inductive AX where
  | normal | exit (id : Nat) | goto (l : Nat) | ret

noncomputable def fput (ρ : Fm) (d : Nat) (v : AV) : Option Fm := Fm.casesOn ρ fun n t => bc (Nat.blt d n) (some ⟨n, Tr.set t d (some v)⟩) none
noncomputable def putT (ρ : Fm) (dst : Option Tmp) (v : AV) : Option Fm := Option.casesOn dst (some ρ) (fun d => fput ρ d v)

/-- the slot that a guard looks at, and what it asks for -/
noncomputable def guardTmp (ops : List Oper) (j : Nat) : Option Nat := ob (nth ops j) fun o => o.dst

/-- does a guard let an operation run? -/
noncomputable def wants (want : Bool) (v : AV) : Option Bool := AV.casesOn (motive_1 := fun _ => Option Bool) v (fun _ _ => some false) (fun b => some (Bool.casesOn want (not b) b)) (fun _ => some false) (some false) (fun _ _ => some false) (some false) (fun _ _ _ _ _ _ => some false) (some false) (some false) (fun _ => some false) (some false) (fun _ _ _ => some false) (some false) (fun _ _ => some false) (fun _ => some false) (fun _ => some false) (fun _ => none)
noncomputable def wantedA (ops : List Oper) (ρ : Fm) (g : Option (Nat × Bool)) : Option Bool :=
  Option.casesOn g (some true) (fun q => ob (guardTmp ops q.1) fun d => ob (tget ρ d) fun v => wants q.2 v)

noncomputable def resV (ρ : Fm) (h : H) (r : ResultVar) : Option AV :=
  match r with
  | .tmp t => tget ρ t
  | .cell a t => ob (tget ρ a) fun v => ob (asPtr v) fun p => loadT P h t p.1 p.2

noncomputable def resVs (ρ : Fm) (h : H) (l : List ResultVar) : Option (List AV) :=
  List.rec (some []) (fun r _ ih => ob (resV P ρ h r) fun v => ob ih fun vs => some (v :: vs)) l

noncomputable def oneOf (vs : List AV) : AV := List.casesOn vs (.tup vs) (fun v l => List.casesOn l v (fun _ _ => .tup vs))

noncomputable def resultsA (fn : Func) (ρ : Fm) (h : H) : Option AV := ob (resVs P ρ h fn.results.toList) fun vs => some (oneOf vs)

noncomputable def after {β : Type} (call : Caller) (r : R) (k : AV → H → Option β) : Option β :=
  R.casesOn r k (fun f args h => ob (call f args h) fun p => k p.1 p.2)

/-- the operations of a region, in their order -/
noncomputable def runOps (X : Ext) (call : Caller) (ops : List Oper) (l : List Oper) : Fm → H → Option (Fm × H) :=
  List.rec (fun ρ h => some (ρ, h)) (fun o _ ih ρ h =>
    ob (wantedA ops ρ o.guard) fun w => bc w
      (ob (exec P X (ev P ρ) h o.op) fun r => after call r fun v h => ob (putT ρ o.dst v) fun ρ => ih ρ h)
      (ob (putT ρ o.dst undef) fun ρ => ih ρ h)) l

end
end Go.Ab
