/-
  A machine without a tape: the given code is run over an abstract memory in which no capacity, no order of a statement and no address is left open. What it computes is, by the soundness text, what the model's run computes on every tape.
-/
import Derived.WalkKit
namespace Go.AM

/-! ### Values -/
inductive V where
  | bool (b : Bool)
  | int (k : IntKind) (n : Int)
  | str (s : List UInt8)
  | nilp
  | ptr (a ver i j : Nat)
  | iptr (cs : List V) (j : Nat)
  | nils
  | sl (a ver es off len : Nat)
  | imm (es : List (List V))
  | agg (cs : List V)
  | tup (vs : List V)
  | nili
  | iface (t : TypeId) (v : V)
  | nilf
  | func (f : FuncId) (first captured : List V)
  | nilm
  | mp (a : Nat)
  /-- any int that leaves r behind a division by m; or, from tokBase on, one that stands for one number throughout (see tokId) -/
  | res (m r : Nat)

def V.cells : V → List V
  | .agg cs => cs
  | v => [v]
def V.one : V → Bool
  | .agg _ | .tup _ => false
  | _ => true

/-- A constant of the code. -/
def ofLit : Value → Option V
  | .bool b => some (.bool b)
  | .int k n => some (.int k n)
  | .string s => some (.str s.data.toList)
  | .pointer none => some .nilp
  | .slice none 0 0 => some .nils
  | .nilIface => some .nili
  | .nilFunc => some .nilf
  | .map none => some .nilm
  | _ => none
def ofLits : List Value → Option (List V)
  | [] => some []
  | v :: r => match ofLit v with
    | some x => match ofLits r with
      | some xs => some (x :: xs)
      | none => none
    | none => none
def ofValue : Value → Option V
  | .agg cs => match ofLits cs.toList with
    | some xs => some (.agg xs)
    | none => none
  | v => ofLit v

/-! ### Trees: slots and blocks by number -/
inductive Tr (α : Type) where
  | nil
  | node (l : Tr α) (v : Option α) (r : Tr α)

def Tr.get {α : Type} : Tr α → Nat → Option α
  | .nil, _ => none
  | .node l v r, n => bif Nat.beq n 0 then v else bif Nat.beq (n % 2) 1 then l.get (n / 2) else r.get (n / 2 - 1)
def Tr.set {α : Type} : Nat → Tr α → Nat → α → Tr α
  | 0, t, _, _ => t
  | f + 1, .nil, n, x => bif Nat.beq n 0 then .node .nil (some x) .nil else bif Nat.beq (n % 2) 1 then .node (Tr.set f .nil (n / 2) x) none .nil else .node .nil none (Tr.set f .nil (n / 2 - 1) x)
  | f + 1, .node l v r, n, x => bif Nat.beq n 0 then .node l (some x) r else bif Nat.beq (n % 2) 1 then .node (Tr.set f l (n / 2) x) v r else .node l v (Tr.set f r (n / 2 - 1) x)
def lim : Nat := 2147483648
def Tr.put {α : Type} (t : Tr α) (n : Nat) (x : α) : Tr α := Tr.set 32 t n x

/-! ### Memory -/
inductive Blk where
  | row (ver es : Nat) (elems : List (List V))
  | mp (kvs : List (V × V))
  | iter (s : List UInt8) (pos : Nat)

structure St where
  next : Nat
  heap : Tr Blk

abbrev Env := Tr V
abbrev R (α : Type) := Except String α

/-! ### Types -/
def sz (P : Program) (t : TypeId) : Nat := P.cellsOf t
def aggD : TypeDesc → Bool
  | .struct _ | .array _ _ => true
  | _ => false
def zeroOf (P : Program) (t : TypeId) : Option V :=
  match (P.info? t).bind (·.zero) with
  | some v => ofValue v
  | none => none

/-! ### Integers -/
def lo : IntKind → Int
  | .i8 => -128 | .i16 => -32768 | .i32 => -2147483648 | .i64 => -9223372036854775808
  | _ => 0
def hi : IntKind → Int
  | .i8 => 127 | .i16 => 32767 | .i32 => 2147483647 | .i64 => 9223372036854775807
  | .u8 => 255 | .u16 => 65535 | .u32 => 4294967295 | .u64 => 18446744073709551615
def wr (k : IntKind) (n : Int) : Int := if lo k ≤ n ∧ n ≤ hi k then n else k.wrap n
def beqB : List UInt8 → List UInt8 → Bool
  | [], [] => true
  | a :: x, b :: y => bif Nat.beq a.toNat b.toNat then beqB x y else false
  | _, _ => false
def ltB : List UInt8 → List UInt8 → Bool
  | _, [] => false
  | [], _ :: _ => true
  | a :: x, b :: y => bif Nat.blt a.toNat b.toNat then true else bif Nat.beq a.toNat b.toNat then ltB x y else false

def kindBeq (j k : IntKind) : Bool :=
  match j, k with
  | .i8, .i8 | .i16, .i16 | .i32, .i32 | .i64, .i64 | .u8, .u8 | .u16, .u16 | .u32, .u32 | .u64, .u64 => true
  | _, _ => false

def intOp (op : BinOp) (k : IntKind) (a b : Int) : R V :=
  match op with
  | .add => .ok (.int k (wr k (a + b)))
  | .sub => .ok (.int k (wr k (a - b)))
  | .mul => .ok (.int k (wr k (a * b)))
  | .quo => bif decide (b = 0) then .error "division by zero" else .ok (.int k (wr k (a.tdiv b)))
  | .rem => bif decide (b = 0) then .error "division by zero" else .ok (.int k (a.tmod b))
  | .and => .ok (.int k (wr k ((BitVec.ofInt k.bits a &&& BitVec.ofInt k.bits b).toNat)))
  | .or => .ok (.int k (wr k ((BitVec.ofInt k.bits a ||| BitVec.ofInt k.bits b).toNat)))
  | .xor => .ok (.int k (wr k ((BitVec.ofInt k.bits a ^^^ BitVec.ofInt k.bits b).toNat)))
  | .andNot => .ok (.int k (wr k ((BitVec.ofInt k.bits a &&& ~~~(BitVec.ofInt k.bits b)).toNat)))
  | .eql => .ok (.bool (decide (a = b)))
  | .neq => .ok (.bool (!decide (a = b)))
  | .lss => .ok (.bool (decide (a < b)))
  | .leq => .ok (.bool (decide (a ≤ b)))
  | .gtr => .ok (.bool (decide (b < a)))
  | .geq => .ok (.bool (decide (b ≤ a)))
  | _ => .error "binOp on ints"

def shiftOp (op : BinOp) (k : IntKind) (a b : Int) : R V :=
  bif decide (b < 0) then .error "negative shift" else
  match op with
  | .shl => .ok (.int k (wr k (a * 2 ^ (min b.toNat k.bits))))
  | .shr => .ok (.int k (a.fdiv (2 ^ (min b.toNat k.bits))))
  | _ => .error "shift"

def strOp (op : BinOp) (a b : List UInt8) : R V :=
  match op with
  | .add => bif Nat.blt (a.length + b.length) lim then .ok (.str (a ++ b)) else .error "a text too long"
  | .eql => .ok (.bool (beqB a b))
  | .neq => .ok (.bool (!beqB a b))
  | .lss => .ok (.bool (ltB a b))
  | .leq => .ok (.bool (ltB a b || beqB a b))
  | .gtr => .ok (.bool (!(ltB a b || beqB a b)))
  | .geq => .ok (.bool (!ltB a b))
  | _ => .error "binOp on texts"

/-- A part of a struct's or an array's cells. -/
def partV (P : Program) (t : TypeId) (cs : List V) (off : Nat) : R V :=
  match P.underlying t with
  | none => .error "part: no such type"
  | some d =>
    bif aggD d then (bif Nat.ble (off + sz P t) cs.length then .ok (.agg ((cs.drop off).take (sz P t))) else .error "part") else
    match cs[off]? with
    | some v => .ok v
    | none => .error "part"

/-- Are two values of a type equal? -/
def eqT (P : Program) : Nat → TypeId → V → V → R Bool
  | 0, _, _, _ => .error "== too deep"
  | d + 1, t, x, y =>
    match P.underlying t with
    | some (.int _) => (match x, y with
      | .int j a, .int k b => bif kindBeq j k then .ok (decide (a = b)) else .error "== kinds"
      | _, _ => .error "==")
    | some .bool => (match x, y with
      | .bool a, .bool b => .ok (a == b)
      | _, _ => .error "==")
    | some .string => (match x, y with
      | .str a, .str b => .ok (beqB a b)
      | _, _ => .error "==")
    | some (.pointer _) => (match x, y with
      | .nilp, .nilp => .ok true
      | .nilp, .ptr .. => .ok false
      | .nilp, .iptr .. => .ok false
      | .ptr .., .nilp => .ok false
      | .iptr .., .nilp => .ok false
      | _, _ => .error "== of pointers")
    | some (.slice _) => (match x, y with
      | .nils, .nils => .ok true
      | .nils, .sl .. => .ok false
      | .nils, .imm _ => .ok false
      | .sl .., .nils => .ok false
      | .imm _, .nils => .ok false
      | _, _ => .error "== of slices")
    | some (.interface _) => (match x, y with
      | .nili, .nili => .ok true
      | .nili, .iface .. => .ok false
      | .iface .., .nili => .ok false
      | _, _ => .error "== of interfaces")
    | some (.struct fs) => (match x, y with
      | .agg xs, .agg ys => bif P.stoodInHeld t then .error "== stoodIn" else eqFs (eqT P d) xs ys fs.toList
      | _, _ => .error "==")
    | _ => .error "== of what"
where
  eqFs (eq : TypeId → V → V → R Bool) (xs ys : List V) : List Field → R Bool
    | [] => .ok true
    | f :: fs =>
      bif f.name == "_" then .error "a blank field" else
      match partV P f.type xs f.offset with
      | .error e => .error e
      | .ok a => match partV P f.type ys f.offset with
        | .error e => .error e
        | .ok b => match eq f.type a b with
          | .error e => .error e
          | .ok r => bif r then eqFs eq xs ys fs else .ok false

/-- A token: its kind, its number, what it lies between. -/
def tokBase : Nat := 4294967296
def tokKind (m : Nat) : IntKind := bif Nat.beq (m % 2) 0 then .i64 else .u8
def tokId (m : Nat) : Nat := (m - tokBase) / 2
def tokLo (r : Nat) : Int := ((r / tokBase : Nat) : Int)
def tokHi (r : Nat) : Int := ((r % tokBase : Nat) : Int)
def tokCmp (op : BinOp) (m r : Nat) (k : IntKind) (b : Int) : R V :=
  bif Nat.ble tokBase m && kindBeq (tokKind m) k then
    (match op with
    | .eql => bif decide (b < tokLo r) || decide (tokHi r < b) then .ok (.bool false) else .error "token"
    | .neq => bif decide (b < tokLo r) || decide (tokHi r < b) then .ok (.bool true) else .error "token"
    | .lss => bif decide (tokHi r < b) then .ok (.bool true) else bif decide (b ≤ tokLo r) then .ok (.bool false) else .error "token"
    | .leq => bif decide (tokHi r ≤ b) then .ok (.bool true) else bif decide (b < tokLo r) then .ok (.bool false) else .error "token"
    | .gtr => bif decide (b < tokLo r) then .ok (.bool true) else bif decide (tokHi r ≤ b) then .ok (.bool false) else .error "token"
    | .geq => bif decide (b ≤ tokLo r) then .ok (.bool true) else bif decide (tokHi r < b) then .ok (.bool false) else .error "token"
    | _ => .error "token") else .error "res"
def flipOp : BinOp → BinOp
  | .lss => .gtr
  | .leq => .geq
  | .gtr => .lss
  | .geq => .leq
  | .eql => .eql
  | .neq => .neq
  | _ => .add
def binV (P : Program) (op : BinOp) (t : TypeId) (x y : V) : R V :=
  match x, y with
  | .int j a, .int k b => match op with
    | .shl | .shr => shiftOp op j a b
    | _ => bif kindBeq j k then intOp op j a b else .error "kinds"
  | .str a, .str b => strOp op a b
  | .res m r, y => (match y with
    | .int k b => tokCmp op m r k b
    | _ => .error "res")
  | x, .res m r => (match x with
    | .int k a => tokCmp (flipOp op) m r k a
    | _ => .error "res")
  | _, _ => match op with
    | .eql => (match eqT P 100 t x y with
      | .ok r => .ok (.bool r)
      | .error e => .error e)
    | .neq => (match eqT P 100 t x y with
      | .ok r => .ok (.bool (!r))
      | .error e => .error e)
    | _ => .error "binOp"
/-- Is '==' on this pair one that the model's guard lets by? -/
def guardP (P : Program) (t : TypeId) (x y : V) : Bool :=
  match x, y with
  | .nili, .nili => false
  | .agg _, .agg _ => !P.eqGuardType P.depth t
  | _, _ => true
def guardV (P : Program) (op : BinOp) (t : TypeId) (x y : V) : Bool :=
  match op with
  | .eql | .neq => guardP P t x y
  | _ => true

/-! ### Memory's operations -/
def newBlk (fr : Option Nat) (S : St) (b : Blk) : R (Nat × St) :=
  match fr with
  | none => bif Nat.blt S.next lim then .ok (S.next, ⟨S.next + 1, S.heap.put S.next b⟩) else .error "full"
  | some k => bif Nat.blt k lim then .ok (k, ⟨S.next, S.heap.put k b⟩) else .error "full"
def getRow (S : St) (a ver : Nat) : R (Nat × List (List V)) :=
  match S.heap.get a with
  | some (.row v es elems) => bif Nat.beq v ver then .ok (es, elems) else .error "a stale view"
  | _ => .error "no such row"
def allOne (l : List V) : Bool := l.all V.one
def splice (cs : List V) (j : Nat) (xs : List V) : List V := cs.take j ++ (xs ++ cs.drop (j + xs.length))

def loadV (P : Program) (t : TypeId) (p : V) (S : St) : R V :=
  match p with
  | .ptr a ver i j => (match getRow S a ver with
    | .error e => .error e
    | .ok (_, elems) => match elems[i]? with
      | some cs => partV P t cs j
      | none => .error "load")
  | .iptr cs j => partV P t cs j
  | _ => .error "load: a pointer expected"
def storeV (P : Program) (t : TypeId) (p x : V) (S : St) : R St :=
  match p, P.underlying t with
  | .ptr a ver i j, some _ => (match getRow S a ver with
    | .error e => .error e
    | .ok (es, elems) => match elems[i]? with
      | some cs => bif Nat.beq x.cells.length (sz P t) && allOne x.cells && Nat.ble (j + x.cells.length) cs.length then
          .ok ⟨S.next, S.heap.put a (.row ver es (elems.set i (splice cs j x.cells)))⟩ else .error "store: the size"
      | none => .error "store")
  | _, _ => .error "store: a pointer expected"

def fieldOf (P : Program) (s : TypeId) (f : Nat) : Option Field :=
  match P.underlying s with
  | some (.struct fs) => fs[f]?
  | _ => none
def fieldAddrV (P : Program) (s : TypeId) (p : V) (f : Nat) : R V :=
  match fieldOf P s f with
  | none => .error "no such field"
  | some fd => bif Nat.beq (sz P fd.type) 0 then .error "a field of no size" else
    match p with
    | .ptr a ver i j => .ok (.ptr a ver i (j + fd.offset))
    | .iptr cs j => .ok (.iptr cs (j + fd.offset))
    | _ => .error "fieldAddr"
def idxIn (x : V) (n : Nat) : Option Nat :=
  match x with
  | .int _ i => bif decide (0 ≤ i) && decide (i < n) then some i.toNat else none
  | _ => none
def indexAddrV (P : Program) (t : TypeId) (x ix : V) : R V :=
  match P.underlying t with
  | some (.array n elem) => bif !(P.underlying elem).isSome then .error "indexAddr" else (match idxIn ix n with
    | none => .error "index"
    | some k => match x with
      | .ptr a ver i j => .ok (.ptr a ver i (j + k * sz P elem))
      | .iptr cs j => .ok (.iptr cs (j + k * sz P elem))
      | _ => .error "indexAddr")
  | some (.slice elem) => bif !(P.underlying elem).isSome then .error "indexAddr" else (match x with
    | .sl a ver es off len => (match idxIn ix len with
      | some k => bif Nat.beq es (sz P elem) then .ok (.ptr a ver (off + k) 0) else .error "indexAddr: the size"
      | none => .error "index out of range")
    | .imm es => (match idxIn ix es.length with
      | some k => match es[k]? with
        | some cs => bif Nat.beq cs.length (sz P elem) then .ok (.iptr cs 0) else .error "indexAddr: the size"
        | none => .error "index"
      | none => .error "index out of range")
    | _ => .error "indexAddr")
  | _ => .error "indexAddr"
def indexV (P : Program) (t : TypeId) (x ix : V) : R V :=
  match P.underlying t with
  | some (.array n elem) => bif !(P.underlying elem).isSome then .error "index" else (match x with
    | .agg cs => (match idxIn ix n with
      | some k => partV P elem cs (k * sz P elem)
      | none => .error "index out of range")
    | _ => .error "index")
  | some .string => (match x with
    | .str s => (match idxIn ix s.length with
      | some k => match s[k]? with
        | some b => .ok (.int .u8 b.toNat)
        | none => .error "index"
      | none => .error "index out of range")
    | _ => .error "index")
  | _ => .error "index"
def fieldV (P : Program) (t : TypeId) (x : V) (f : Nat) : R V :=
  match fieldOf P t f with
  | none => .error "no such field"
  | some fd => match x with
    | .agg cs => partV P fd.type cs fd.offset
    | _ => .error "field"

def allLen (n : Nat) (l : List (List V)) : Bool := l.all fun cs => Nat.beq cs.length n
/-- The bounds of x[lo:hi], both within the length. -/
def bounds (len : Nat) (lo hi : Option V) : R (Nat × Nat) :=
  match (match hi with
    | none => some len
    | some (.int _ h) => bif decide (0 ≤ h) && decide (h ≤ len) then some h.toNat else none
    | _ => none) with
  | none => .error "slice bounds"
  | some h => match lo with
    | none => .ok (0, h)
    | some (.int _ l) => bif decide (0 ≤ l) && decide (l ≤ h) then .ok (l.toNat, h) else .error "slice bounds"
    | _ => .error "slice bounds"
def sliceV (P : Program) (t : TypeId) (x : V) (lo hi : Option V) : R V :=
  match P.underlying t with
  | some .string => (match x with
    | .str s => (match bounds s.length lo hi with
      | .ok (l, h) => .ok (.str ((s.take h).drop l))
      | .error e => .error e)
    | _ => .error "slice")
  | some (.slice elem) => bif !(P.underlying elem).isSome then .error "slice" else (match x with
    | .sl a ver es off len => (match bounds len lo hi with
      | .ok (l, h) => bif Nat.beq es (sz P elem) then .ok (.sl a ver es (off + l) (h - l)) else .error "slice: the size"
      | .error e => .error e)
    | .imm es => (match bounds es.length lo hi with
      | .ok (l, h) => bif allLen (sz P elem) es then .ok (.imm ((es.take h).drop l)) else .error "slice: the size"
      | .error e => .error e)
    | .nils => (match bounds 0 lo hi with
      | .ok _ => .ok .nils
      | .error e => .error e)
    | _ => .error "slice")
  | _ => .error "slice"

/-- The elements that a slice or a text tells. -/
def elemsOf (S : St) (x : V) : R (List (List V)) :=
  match x with
  | .nils => .ok []
  | .sl a ver _ off len => (match getRow S a ver with
    | .error e => .error e
    | .ok (_, elems) => bif Nat.ble (off + len) elems.length then .ok ((elems.drop off).take len) else .error "a view too long")
  | .imm es => .ok es
  | .str s => .ok (s.map fun b => [.int .u8 b.toNat])
  | _ => .error "elements"
def room (P : Program) (elem : TypeId) (n : Nat) : Bool := Nat.ble (n * P.bytesOf elem) 35184372088832 && Nat.blt n lim
def elemT (P : Program) (t : TypeId) : Option TypeId :=
  match P.underlying t with
  | some (.slice e) => some e
  | _ => none
/-- Has the zero of a type as many cells as the type? -/
def zeroFits (P : Program) (e : TypeId) : Bool :=
  match zeroOf P e with
  | some z => Nat.beq z.cells.length (sz P e)
  | none => false
def appendV (P : Program) (t : TypeId) (s x : V) (fr : Option Nat) (S : St) : R (V × St) :=
  match elemT P t with
  | none => .error "append"
  | some e => match elemsOf S x with
    | .error e => .error e
    | .ok xs => bif !(allLen (sz P e) xs && xs.all allOne && zeroFits P e) then .error "append: sizes" else
      match s with
      | .nils => (match xs with
        | [] => .ok (.nils, S)
        | _ => bif room P e xs.length then (match newBlk fr S (.row 0 (sz P e) xs) with
          | .error e => .error e
          | .ok (a, S') => .ok (.sl a 0 (sz P e) 0 xs.length, S')) else .error "append: room")
      | .sl a ver _ off len => (match getRow S a ver with
        | .error e => .error e
        | .ok (es, elems) =>
          bif Nat.ble (off + len) elems.length && Nat.beq es (sz P e) && room P e (len + xs.length) then
            .ok (.sl a (ver + 1) es 0 (len + xs.length), ⟨S.next, S.heap.put a (.row (ver + 1) es ((elems.drop off).take len ++ xs))⟩)
          else .error "append: room")
      | _ => .error "append"

/-- slices.Insert(s, i, x...): x in a block of its own, of elements of more cells than one. -/
def insertV (P : Program) (T : TypeId) (s i x : V) (S : St) : R (V × St) :=
  match elemT P T, i, x with
  | some e, .int .i64 i, .sl b bv bes boff blen => (match elemsOf S x with
    | .error w => .error w
    | .ok xs => bif Nat.ble (sz P e) 1 || Nat.beq blen 0 then .error "insert" else
      match s with
      | .nils => bif decide (i = 0) then appendV P T .nils (.sl b bv bes boff blen) none S else .error "insert"
      | .sl a ver es0 off len => bif decide (i = (len : Int)) then appendV P T (.sl a ver es0 off len) (.sl b bv bes boff blen) none S else
        bif Nat.beq a b || decide (i < 0) || decide ((len : Int) < i) || !(allLen (sz P e) xs && xs.all allOne && zeroFits P e) then .error "insert" else
        (match getRow S a ver with
        | .error w => .error w
        | .ok (es, elems) =>
          bif Nat.ble (off + len) elems.length && Nat.beq es (sz P e) && room P e (len + xs.length) && ((elems.drop off).take len).all allOne then
            .ok (.sl a (ver + 1) es 0 (len + xs.length), ⟨S.next, S.heap.put a (.row (ver + 1) es (((elems.drop off).take len).take i.toNat ++ (xs ++ ((elems.drop off).take len).drop i.toNat)))⟩)
          else .error "insert: room")
      | _ => .error "insert")
  | _, _, _ => .error "insert"

/-- Elements laid over a row's, from a place on. -/
def spliceL (l : List (List V)) (a : Nat) (mid : List (List V)) : List (List V) := l.take a ++ (mid ++ l.drop (a + mid.length))
/-- The zero of a type, where it has as many cells as the type, each of them one. -/
def zeroOne (P : Program) (e : TypeId) : Option (List V) :=
  match zeroOf P e with
  | some z => bif Nat.beq z.cells.length (sz P e) && allOne z.cells then some z.cells else none
  | none => none
/-- clear(s), s a slice. -/
def clearV (P : Program) (T : TypeId) (x : V) (S : St) : R (V × St) :=
  match elemT P T, x with
  | some _, .nils => .ok (.tup [], S)
  | some e, .sl a ver _ off len => bif Nat.beq len 0 then .ok (.tup [], S) else
    (match zeroOne P e, getRow S a ver with
    | some z, .ok (es, elems) => bif Nat.beq es (sz P e) && Nat.ble (off + len) elems.length then
        .ok (.tup [], ⟨S.next, S.heap.put a (.row ver es (spliceL elems off (List.replicate len z)))⟩) else .error "clear"
    | _, _ => .error "clear")
  | _, _ => .error "clear"
/-- slices.Delete(s, i, j). -/
def deleteV (P : Program) (T : TypeId) (s i j : V) (S : St) : R (V × St) :=
  match elemT P T, s, i, j with
  | some e, .sl a ver es0 off len, .int .i64 i, .int .i64 j =>
    bif decide (i < 0) || decide (j < i) || decide ((len : Int) < j) || !(Nat.blt len lim) || Nat.beq len 0 then .error "delete" else
    bif decide (i = j) then (match getRow S a ver with
      | .ok _ => .ok (.sl a ver es0 off len, S)
      | .error w => .error w) else
    (match zeroOne P e, getRow S a ver with
    | some z, .ok (es, elems) => bif Nat.beq es (sz P e) && Nat.ble (off + len) elems.length && ((elems.drop off).take len).all allOne then
        .ok (.sl a ver es0 off (len - (j.toNat - i.toNat)), ⟨S.next, S.heap.put a (.row ver es (spliceL elems (off + i.toNat) (((elems.drop off).take len).drop j.toNat ++ List.replicate (j.toNat - i.toNat) z)))⟩) else .error "delete: the row"
    | _, _ => .error "delete")
  | _, _, _, _ => .error "delete"

/-- Parts laid over cells: (where, how many). -/
def fillV (place : Nat → Option (Nat × Nat)) (cells : List V) : List (Nat × V) → R (List V)
  | [] => .ok cells
  | (i, v) :: rest => match place i with
    | none => .error "fill"
    | some (off, size) => bif Nat.beq v.cells.length size && Nat.ble (off + v.cells.length) cells.length && allOne v.cells then fillV place (splice cells off v.cells) rest else .error "fill"
def buildV (P : Program) (t : TypeId) (parts : List (Nat × V)) : R V :=
  match zeroOf P t with
  | none => .error "build: no zero"
  | some z => match P.underlying t with
    | some (.struct fs) => bif !(fs.toList.all fun f => (P.underlying f.type).isSome) then .error "build: a field" else (match fillV (fun i => (fs[i]?).map fun f => (f.offset, sz P f.type)) z.cells parts with
      | .ok cs => .ok (.agg cs)
      | .error e => .error e)
    | some (.array _ elem) => bif !(P.underlying elem).isSome then .error "build: the element" else (match fillV (fun i => some (i * sz P elem, sz P elem)) z.cells parts with
      | .ok cs => .ok (.agg cs)
      | .error e => .error e)
    | _ => .error "build"
def layV (es : Nat) (elems : List (List V)) : List (Nat × V) → R (List (List V))
  | [] => .ok elems
  | (i, v) :: rest => bif Nat.beq v.cells.length es && Nat.blt i elems.length && allOne v.cells then layV es (elems.set i v.cells) rest else .error "buildSlice"
def buildSliceV (P : Program) (t : TypeId) (len : Nat) (parts : List (Nat × V)) (fr : Option Nat) (S : St) : R (V × St) :=
  match elemT P t with
  | none => .error "buildSlice"
  | some e => match zeroOf P e with
    | none => .error "buildSlice: no zero"
    | some z => bif Nat.beq z.cells.length (sz P e) && Nat.ble (len * sz P e) 16777216 then
      (match layV (sz P e) (List.replicate len z.cells) parts with
      | .error e => .error e
      | .ok elems => match newBlk fr S (.row 0 (sz P e) elems) with
        | .error e => .error e
        | .ok (a, S') => .ok (.sl a 0 (sz P e) 0 len, S')) else .error "buildSlice: the size"
def makeSliceV (P : Program) (t : TypeId) (l c : V) (fr : Option Nat) (S : St) : R (V × St) :=
  match elemT P t, l, c with
  | some e, .int _ l, .int _ c => (match zeroOf P e with
    | none => .error "makeSlice: no zero"
    | some z => bif Nat.beq z.cells.length (sz P e) && decide (0 ≤ l) && decide (l ≤ c) && decide (c < 2147483648) && room P e c.toNat then
      (match newBlk fr S (.row 0 (sz P e) (List.replicate l.toNat z.cells)) with
      | .error e => .error e
      | .ok (a, S') => .ok (.sl a 0 (sz P e) 0 l.toNat, S')) else .error "makeSlice: the size")
  | _, _, _ => .error "makeSlice"
def bytesOfElems : List (List V) → Option (List UInt8)
  | [] => some []
  | [.int .u8 n] :: r => match bytesOfElems r with
    | some l => some (UInt8.ofNat n.toNat :: l)
    | none => none
  | _ => none
def convertV (P : Program) (src dst : TypeId) (x : V) (fr : Option Nat) (S : St) : R (V × St) :=
  match P.underlying src, P.underlying dst with
  | some _, some (.int k) => (match x with
    | .int _ n => .ok (.int k (wr k n), S)
    | _ => .error "convert")
  | some u, some .string => (match x with
    | .str s => .ok (.str s, S)
    | _ => match u with
      | .slice e => (match P.underlying e with
        | some (.int .u8) => (match x with
          | .nils | .sl .. | .imm _ => (match elemsOf S x with
            | .error e => .error e
            | .ok l => match bytesOfElems l with
              | some b => .ok (.str b, S)
              | none => .error "convert: bytes")
          | _ => .error "convert")
        | _ => .error "convert")
      | _ => .error "convert")
  | some _, some (.slice e) => (match P.underlying e, x with
    | some (.int .u8), .str s => bif Nat.blt s.length lim && Nat.beq (sz P e) 1 then
      (match newBlk fr S (.row 0 1 (s.map fun b => [.int .u8 b.toNat])) with
      | .error e => .error e
      | .ok (a, S') => .ok (.sl a 0 1 0 s.length, S')) else .error "convert"
    | _, _ => .error "convert")
  | _, _ => .error "convert"

def lenV (P : Program) (t : TypeId) (x : V) (S : St) : R V :=
  match P.underlying t with
  | some .string => (match x with
    | .str s => .ok (.int .i64 s.length)
    | _ => .error "len")
  | some (.array n _) => .ok (.int .i64 n)
  | some (.slice _) => (match x with
    | .nils => .ok (.int .i64 0)
    | .sl _ _ _ _ len => .ok (.int .i64 len)
    | .imm es => .ok (.int .i64 es.length)
    | _ => .error "len")
  | some (.map _ _) => (match x with
    | .nilm => .ok (.int .i64 0)
    | .mp a => (match S.heap.get a with
      | some (.mp kvs) => .ok (.int .i64 kvs.length)
      | _ => .error "len")
    | _ => .error "len")
  | _ => .error "len"
/-- The entry of a text in a map: where, and what. -/
def findS (s : List UInt8) : List (V × V) → Nat → Option (Option (Nat × V))
  | [], _ => some none
  | (.str t, v) :: l, i => bif beqB s t then some (some (i, v)) else findS s l (i + 1)
  | _ :: _, _ => none
/-- A map of texts: its elements' type. -/
def mapT (P : Program) (t : TypeId) : Option TypeId :=
  match P.underlying t with
  | some (.map k e) => (match P.underlying k with
    | some .string => some e
    | _ => none)
  | _ => none
def entriesOf (S : St) (m : V) : R (List (V × V)) :=
  match m with
  | .nilm => .ok []
  | .mp a => (match S.heap.get a with
    | some (.mp kvs) => .ok kvs
    | _ => .error "a map")
  | _ => .error "a map"
def okV (ok b : Bool) (v : V) : V := bif ok then .tup [v, .bool b] else v
def lookupV (P : Program) (t : TypeId) (m k : V) (ok : Bool) (S : St) : R V :=
  match mapT P t, k with
  | some e, .str s => (match entriesOf S m with
    | .error w => .error w
    | .ok kvs => match findS s kvs 0 with
      | some (some (_, v)) => .ok (okV ok true v)
      | some none => (match zeroOf P e with
        | some z => .ok (okV ok false z)
        | none => .error "lookup: no zero")
      | none => .error "lookup")
  | _, _ => .error "lookup"
def mapUpdateV (P : Program) (t : TypeId) (m k v : V) (S : St) : R St :=
  match mapT P t, k, m with
  | some _, .str s, .mp a => (match S.heap.get a with
    | some (.mp kvs) => (match findS s kvs 0 with
      | some (some (i, _)) => .ok ⟨S.next, S.heap.put a (.mp (kvs.set i (.str s, v)))⟩
      | some none => .ok ⟨S.next, S.heap.put a (.mp (kvs ++ [(.str s, v)]))⟩
      | none => .error "mapUpdate")
    | _ => .error "mapUpdate")
  | _, _, _ => .error "mapUpdate"
def minV : List V → R V
  | [.int j a, .int k b] => bif kindBeq j k then .ok (.int j (if b < a then b else a)) else .error "min"
  | _ => .error "min"
def maxV : List V → R V
  | [.int j a, .int k b] => bif kindBeq j k then .ok (.int j (if a < b then b else a)) else .error "max"
  | _ => .error "max"
def unV (op : UnOp) (x : V) : R V :=
  match op, x with
  | .not, .bool b => .ok (.bool !b)
  | .neg, .int k n => .ok (.int k (wr k (0 - n)))
  | .xor, .int k n => .ok (.int k (wr k ((BitVec.ofInt k.bits (if k.signed then -1 else k.max) ^^^ BitVec.ofInt k.bits n).toNat)))
  | _, _ => .error "unOp"

/-- x.(t), a concrete type. -/
def assertV (P : Program) (x : V) (t : TypeId) (ok : Bool) : R V :=
  let fails : R V := bif ok then (match zeroOf P t with
    | some z => .ok (.tup [z, .bool false])
    | none => .error "typeAssert") else .error "typeAssert"
  match P.underlying t with
  | none => .error "typeAssert"
  | some (.interface _) => .error "typeAssert to an interface"
  | some _ => match x with
    | .iface u v => bif Nat.beq u t then .ok (bif ok then .tup [v, .bool true] else v) else fails
    | .nili => fails
    | _ => .error "typeAssert"
/-- The library's functions that have no text. -/
def externV (fn : Func) (args : List V) : R V :=
  bif fn.name == "math/bits.Add64" && fn.origin == "" then (match args with
    | [.int _ a, .int _ b, .int _ c] => bif decide (0 ≤ a) && decide (0 ≤ b) && decide (0 ≤ c) && decide (c ≤ 1) then .ok (.tup [.int .u64 ((a + b + c) % 18446744073709551616), .int .u64 ((a + b + c) / 18446744073709551616)]) else .error "Add64"
    | _ => .error "Add64") else .error "a function without a text"
/-- The method of a type, of its own. -/
def methodV (P : Program) (t : TypeId) (name : String) : Option FuncId :=
  match P.info? t with
  | none => none
  | some i => match i.methods.find? (·.name == name) with
    | none => none
    | some m => match m.func, m.path.toList, P.underlying t with
      | some (g, false), [], some (.struct _) => some g
      | _, _, _ => none

/-! ### One operation -/
inductive Out where
  | val (v : V) (S : St)
  | skip (S : St)
  | call (f : FuncId) (args : List V)

def ev (e : Env) : Operand → Option V
  | .tmp t => e.get t
  | .const v => ofValue v
  | .func f => some (.func f [] [])
  | .global _ => none
def evs (ρ : Operand → Option V) : List Operand → Option (List V)
  | [] => some []
  | x :: r => match ρ x with
    | some v => match evs ρ r with
      | some vs => some (v :: vs)
      | none => none
    | none => none
def evPs (ρ : Operand → Option V) : List (Nat × Operand) → Option (List (Nat × V))
  | [] => some []
  | (i, x) :: r => match ρ x with
    | some v => match evPs ρ r with
      | some vs => some ((i, v) :: vs)
      | none => none
    | none => none
def evO (ρ : Operand → Option V) : Option Operand → Option (Option V)
  | none => some none
  | some x => match ρ x with
    | some v => some (some v)
    | none => none

def pureR (S : St) : R V → R Out
  | .ok v => .ok (.val v S)
  | .error e => .error e
def pairR : R (V × St) → R Out
  | .ok (v, S) => .ok (.val v S)
  | .error e => .error e

def builtinV (P : Program) (b : Builtin) (ts : Array TypeId) (args : List V) (fr : Option Nat) (S : St) : R Out :=
  match b, args with
  | .len, [x] => (match ts[0]? with
    | some t => pureR S (lenV P t x S)
    | none => .error "len")
  | .min, args => pureR S (minV args)
  | .max, args => pureR S (maxV args)
  | .append, [s, x] => (match ts[0]?, ts[1]? with
    | some t, some u => (match P.underlying u with
      | some (.slice _) => pairR (appendV P t s x fr S)
      | some .string => pairR (appendV P t s x fr S)
      | _ => .error "append")
    | _, _ => .error "append")
  | .clear, [x] => (match ts[0]? with
    | some t => pairR (clearV P t x S)
    | none => .error "clear")
  | _, _ => .error "builtin"

/-- A call: of a function with a text it is entered; of one without it is reckoned. -/
def callOr (P : Program) (S : St) (g : FuncId) (args : List V) : R Out :=
  match P.funcs[g]? with
  | none => .error "no such function"
  | some fn => match fn.body with
    | some _ => .ok (.call g args)
    | none => pureR S (externV fn args)

def evalOp (P : Program) (ρ : Operand → Option V) (o : Oper) (fr : Option Nat) (S : St) : R Out :=
  match o.op with
  | .move x | .assign x => (match ρ x with
    | some v => .ok (.val v S)
    | none => .error "operand")
  | .pick c a b => (match ρ c with
    | some (.bool true) => (match ρ a with
      | some v => .ok (.val v S)
      | none => .error "operand")
    | some (.bool false) => (match ρ b with
      | some v => .ok (.val v S)
      | none => .error "operand")
    | _ => .error "pick")
  | .alloc t => (match zeroOf P t with
    | none => .error "alloc: no zero"
    | some z => match newBlk fr S (.row 0 z.cells.length [z.cells]) with
      | .ok (a, S') => .ok (.val (.ptr a 0 0 0) S')
      | .error e => .error e)
  | .box _ x => (match ρ x with
    | some v => bif allOne v.cells then (match newBlk fr S (.row 0 v.cells.length [v.cells]) with
      | .ok (a, S') => .ok (.val (.ptr a 0 0 0) S')
      | .error e => .error e) else .error "box"
    | none => .error "operand")
  | .build t ps => (match evPs ρ ps.toList with
    | some vs => pureR S (buildV P t vs)
    | none => .error "operand")
  | .buildSlice t n ps => (match evPs ρ ps.toList with
    | some vs => pairR (buildSliceV P t n vs fr S)
    | none => .error "operand")
  | .load t a => (match ρ a with
    | some p => pureR S (loadV P t p S)
    | none => .error "operand")
  | .store t a x => (match ρ a, ρ x with
    | some p, some v => (match storeV P t p v S with
      | .ok S' => .ok (.skip S')
      | .error e => .error e)
    | _, _ => .error "operand")
  | .nilCheck x => (match ρ x with
    | some (.ptr a ver i j) => .ok (.val (.ptr a ver i j) S)
    | some (.iptr cs j) => .ok (.val (.iptr cs j) S)
    | _ => .error "nilCheck")
  | .binOp op t x y _ => (match ρ x, ρ y with
    | some a, some b => bif guardV P op t a b then pureR S (binV P op t a b) else .error "guard"
    | _, _ => .error "operand")
  | .unOp op _ x => (match ρ x with
    | some v => pureR S (unV op v)
    | none => .error "operand")
  | .convert s d x => (match ρ x with
    | some v => pairR (convertV P s d v fr S)
    | none => .error "operand")
  | .makeSlice t l c => (match ρ l, ρ c with
    | some l, some c => pairR (makeSliceV P t l c fr S)
    | _, _ => .error "operand")
  | .slice t x lo hi mx => (match mx, ρ x, evO ρ lo, evO ρ hi with
    | none, some v, some l, some h => pureR S (sliceV P t v l h)
    | _, _, _, _ => .error "slice")
  | .fieldAddr s x f => (match ρ x with
    | some p => pureR S (fieldAddrV P s p f)
    | none => .error "operand")
  | .field t x f => (match ρ x with
    | some v => pureR S (fieldV P t v f)
    | none => .error "operand")
  | .indexAddr t x i => (match ρ x, ρ i with
    | some v, some k => pureR S (indexAddrV P t v k)
    | _, _ => .error "operand")
  | .index t x i => (match ρ x, ρ i with
    | some v, some k => pureR S (indexV P t v k)
    | _, _ => .error "operand")
  | .range t x => (match ρ x, P.underlying t with
    | some (.str s), some .string => (match newBlk fr S (.iter s 0) with
      | .ok (a, S') => .ok (.val (.ptr a 0 0 0) S')
      | .error e => .error e)
    | _, _ => .error "range")
  | .next it isS => (match ρ it with
    | some (.ptr a 0 0 0) => bif isS then (match S.heap.get a with
      | some (.iter s pos) => bif Nat.blt pos s.length then
          (match s[pos]? with
          | some b => bif Nat.blt b.toNat 128 then .ok (.val (.tup [.bool true, .int .i64 pos, .int .i32 b.toNat]) ⟨S.next, S.heap.put a (.iter s (pos + 1))⟩) else .error "next: not ascii"
          | none => .error "next") else .ok (.val (.tup [.bool false]) S)
      | _ => .error "next") else .error "next"
    | _ => .error "next")
  | .makeMap _ none => (match newBlk fr S (.mp []) with
    | .ok (a, S') => .ok (.val (.mp a) S')
    | .error e => .error e)
  | .lookup t m k ok => (match ρ m, ρ k with
    | some m, some k => pureR S (lookupV P t m k ok S)
    | _, _ => .error "operand")
  | .mapUpdate t m k v => (match ρ m, ρ k, ρ v with
    | some m, some k, some v => (match mapUpdateV P t m k v S with
      | .ok S' => .ok (.skip S')
      | .error e => .error e)
    | _, _, _ => .error "operand")
  | .makeFunc fn first captured => (match fn, evs ρ first.toList, evs ρ captured.toList with
    | .func f, some a, some b => .ok (.val (.func f a b) S)
    | _, _, _ => .error "operand")
  | .makeInterface t x => (match ρ x, P.underlying t with
    | some _, some (.interface _) => .error "makeInterface"
    | some v, some _ => .ok (.val (.iface t v) S)
    | _, _ => .error "operand")
  | .typeAssert x _ t ok => (match ρ x with
    | some v => pureR S (assertV P v t ok)
    | none => .error "operand")
  | .extract t i => (match ρ t with
    | some (.tup vs) => (match vs[i]? with
      | some v => .ok (.val v S)
      | none => .error "extract")
    | _ => .error "extract")
  | .call c => (match c.callee with
    | .value f => (match ρ f, evs ρ c.args.toList with
      | some (.func g first captured), some args => callOr P S g (first ++ args ++ captured)
      | _, _ => .error "call")
    | .builtin b => (match evs ρ c.args.toList with
      | some args => builtinV P b c.argTypes args fr S
      | none => .error "operand")
    | .invoke r name => (match ρ r, evs ρ c.args.toList with
      | some (.iface t v), some args => (match methodV P t name with
        | some g => callOr P S g (v :: args)
        | none => .error "invoke")
      | _, _ => .error "invoke"))
  | _ => .error "an operation that is not known"

/-! ### A region -/
def putDst (n : Nat) (e : Env) (d : Option Tmp) (v : V) : R Env :=
  match d with
  | none => .ok e
  | some d => bif Nat.blt d n then .ok (e.put d v) else .error "slot"
def wanted (ops : Array Oper) (o : Oper) (e : Env) : R Bool :=
  match o.guard with
  | none => .ok true
  | some (j, want) => match ops[j]? with
    | none => .ok false
    | some oj => match oj.dst with
      | none => .ok false
      | some d => match e.get d with
        | some (.bool b) => .ok (b == want)
        | some _ => .ok false
        | none => .error "guard"

abbrev Call := FuncId → List V → St → R (V × St)

def stepOp (P : Program) (call : Call) (n : Nat) (ops : Array Oper) (o : Oper) (fr : Option Nat) (e : Env) (S : St) : R (Env × St) :=
  match wanted ops o e with
  | .error w => .error w
  | .ok false => (match putDst n e o.dst (.tup []) with
    | .ok e' => .ok (e', S)
    | .error w => .error w)
  | .ok true => match evalOp P (ev e) o fr S with
    | .error w => .error w
    | .ok (.val v S') => (match putDst n e o.dst v with
      | .ok e' => .ok (e', S')
      | .error w => .error w)
    | .ok (.skip S') => (match putDst n e o.dst (.tup []) with
      | .ok e' => .ok (e', S')
      | .error w => .error w)
    | .ok (.call f args) => match call f args S with
      | .error w => .error w
      | .ok (v, S') => match putDst n e o.dst v with
        | .ok e' => .ok (e', S')
        | .error w => .error w

def runOps (P : Program) (call : Call) (n : Nat) (ops : Array Oper) : List Oper → Env → St → R (Env × St)
  | [], e, S => .ok (e, S)
  | o :: l, e, S => match stepOp P call n ops o none e S with
    | .ok (e', S') => runOps P call n ops l e' S'
    | .error w => .error w

/-! ### A region whose order is drawn: a plan, checked ahead -/
/-- 0: it neither reads nor changes memory; 1: it reads; 2: it makes a block; 3: it may change what was there. -/
def cls (P : Program) : Op → Nat
  | .move _ | .assign _ | .pick .. | .build .. | .nilCheck _ | .binOp .. | .unOp .. | .slice .. | .fieldAddr .. | .field .. | .indexAddr .. | .index .. | .extract .. => 0
  | .load .. => 1
  | .alloc _ | .box .. | .buildSlice .. | .makeSlice .. => 2
  | .convert _ d _ => (match P.underlying d with
    | some (.int _) => 0
    | some .string => 1
    | _ => 2)
  | .call c => (match c.callee with
    | .builtin .len => 1
    | .builtin .min => 0
    | .builtin .max => 0
    | _ => 3)
  | _ => 3

abbrev Step := Nat × List Nat

mutual
def beqV : V → V → Bool
  | .bool a, .bool b => a == b
  | .int j a, .int k b => kindBeq j k && decide (a = b)
  | .str a, .str b => beqB a b
  | .nilp, .nilp => true
  | .ptr a b c d, .ptr a' b' c' d' => Nat.beq a a' && Nat.beq b b' && Nat.beq c c' && Nat.beq d d'
  | .iptr a b, .iptr a' b' => beqVs a a' && Nat.beq b b'
  | .nils, .nils => true
  | .sl a b c d f, .sl a' b' c' d' f' => Nat.beq a a' && Nat.beq b b' && Nat.beq c c' && Nat.beq d d' && Nat.beq f f'
  | .imm a, .imm b => beqVss a b
  | .agg a, .agg b => beqVs a b
  | .tup a, .tup b => beqVs a b
  | .nili, .nili => true
  | .iface t a, .iface u b => Nat.beq t u && beqV a b
  | .nilf, .nilf => true
  | .func f a b, .func g c d => Nat.beq f g && beqVs a c && beqVs b d
  | .nilm, .nilm => true
  | .mp a, .mp b => Nat.beq a b
  | .res a b, .res c d => Nat.beq a c && Nat.beq b d
  | _, _ => false
def beqVs : List V → List V → Bool
  | [], [] => true
  | a :: x, b :: y => beqV a b && beqVs x y
  | _, _ => false
def beqVss : List (List V) → List (List V) → Bool
  | [], [] => true
  | a :: x, b :: y => beqVs a b && beqVss x y
  | _, _ => false
end

/-- What a reader read: its number, its slots then, what it gave. -/
abbrev Rec := Nat × Env × V
def findRec (i : Nat) : List Rec → Option (Env × V)
  | [] => none
  | (j, x) :: l => bif Nat.beq i j then some x else findRec i l
/-- Would each of these readers give now what it gave? -/
def again (P : Program) (ops : Array Oper) (recs : List Rec) (S : St) : List Nat → Bool
  | [] => true
  | i :: l => (match findRec i recs with
    | none => true
    | some (e, v) => match ops[i]? with
      | none => false
      | some o => match evalOp P (ev e) o none S with
        | .ok (.val v' _) => beqV v v'
        | _ => false) && again P ops recs S l
def isTrue : R Bool → Bool
  | .ok b => b
  | .error _ => false
def drawGo (P : Program) (call : Call) (n : Nat) (ops : Array Oper) (base : Nat) : List Step → List Rec → Env → St → R (Env × St)
  | [], _, e, S => .ok (e, S)
  | (i, re) :: l, recs, e, S => match ops[i]? with
    | none => .error "no such operation"
    | some o => match stepOp P call n ops o (some (base + i)) e S with
      | .error w => .error w
      | .ok (e', S') =>
        bif again P ops recs S' re then
          drawGo P call n ops base l (bif Nat.beq (cls P o.op) 1 && isTrue (wanted ops o e) then
            (match o.dst with
            | none => recs
            | some d => match e'.get d with
              | some v => (i, e, v) :: recs
              | none => recs) else recs) e' S'
        else .error "a reader is told otherwise in another order"
def draw (P : Program) (call : Call) (n : Nat) (ops : Array Oper) (steps : List Step) (e : Env) (S : St) : R (Env × St) :=
  drawGo P call n ops S.next steps [] e ⟨S.next + ops.size, S.heap⟩

/-- The check of a plan. -/
def bitB (m i : Nat) : Bool := m.testBit i
def apartB (ops : Array Oper) (x y : Oper) : Bool :=
  (match x.dst with
   | some d => !(y.looksAt ops).contains d && y.dst != some d
   | none => true) &&
  (match y.dst with
   | some d => !(x.looksAt ops).contains d
   | none => true)
/-- One step, with the numbers of those ahead of it: may it stand there? 'b': whom each must follow. -/
def stepOK (P : Program) (ops : Array Oper) (b : Array Nat) (done : List Nat) (i : Nat) (re : List Nat) : Bool :=
  match ops[i]? with
  | none => false
  | some o =>
    let bi := b.getD i 0
    let ci := cls P o.op
    !done.contains i &&
    (Nat.beq ci 1 == false || o.dst.isSome) &&
    (o.after.toList.all fun e => !Region.binds .any e || done.contains e.on) &&
    ((List.range ops.size).all fun j => !bitB bi j || (done.contains j && o.after.toList.any fun e => Region.binds .any e && (e.on == j || bitB (b.getD e.on 0) j))) &&
    (done.all fun j => bitB bi j || (match ops[j]? with
      | none => false
      | some p =>
        apartB ops o p &&
        (match cls P p.op, ci with
        | 3, 3 => false
        | 2, 3 => false
        | 3, 1 => false
        | 2, 1 => false
        | 1, 3 => re.contains j
        | _, _ => true)))
def stepsOK (P : Program) (ops : Array Oper) (b : Array Nat) : List Nat → List Step → Bool
  | _, [] => true
  | done, (i, re) :: l => stepOK P ops b done i re && stepsOK P ops b (i :: done) l
def planOK (P : Program) (ops : Array Oper) (steps : List Step) : Bool :=
  ((List.range ops.size).all fun j => steps.any fun s => Nat.beq s.1 j) && stepsOK P ops (Region.before ops) [] steps

/-! ### Code -/
inductive Ex where
  | normal
  | exit (id : Nat)
  | ret

abbrev Run := R (Ex × Env × St)
def iter (body : Env → St → Run) : Nat → Env → St → Run
  | 0, _, _ => .error "fuel"
  | k + 1, e, S => match body e S with
    | .ok (.normal, e', S') => iter body k e' S'
    | r => r
def ident : Nat → List Step
  | 0 => []
  | n + 1 => ident n ++ [(n, [])]
def stepsOf (p : Option (List Step)) (n : Nat) : List Step :=
  match p with
  | some s => s
  | none => ident n
def exec (P : Program) (pl : Nat → Option (List Step)) (call : Call) (k n : Nat) : Code → Env → St → Run
  | .skip, e, S => .ok (.normal, e, S)
  | .label _, e, S => .ok (.normal, e, S)
  | .exit id, e, S => .ok (.exit id, e, S)
  | .ret, e, S => .ok (.ret, e, S)
  | .region id ops d, e, S => match (bif d then draw P call n ops (stepsOf (pl id) ops.size) e S else runOps P call n ops ops.toList e S) with
    | .ok (e', S') => .ok (.normal, e', S')
    | .error w => .error w
  | .seq a b, e, S => match exec P pl call k n a e S with
    | .ok (.normal, e', S') => exec P pl call k n b e' S'
    | r => r
  | .cond c a b, e, S => match ev e c with
    | some (.bool true) => exec P pl call k n a e S
    | some (.bool false) => exec P pl call k n b e S
    | _ => .error "cond"
  | .block id a, e, S => match exec P pl call k n a e S with
    | .ok (.exit id', e', S') => bif Nat.beq id' id then .ok (.normal, e', S') else .ok (.exit id', e', S')
    | r => r
  | .loop a, e, S => iter (exec P pl call k n a) k e S
  | .scope _, _, _ => .error "scope"
  | .rangeFunc .., _, _ => .error "rangeFunc"
  | .goto _, _, _ => .error "goto"
  | .refuse _, _, _ => .error "refuse"

/-! ### Calls -/
def argsEnv : Nat → List V → Env → Env
  | _, [], e => e
  | i, v :: l, e => argsEnv (i + 1) l (e.put i v)
def resV (P : Program) (e : Env) (S : St) : List ResultVar → R (List V)
  | [] => .ok []
  | .tmp t :: l => (match e.get t, resV P e S l with
    | some v, .ok vs => .ok (v :: vs)
    | none, _ => .error "no result"
    | _, .error w => .error w)
  | .cell a t :: l => (match e.get a with
    | none => .error "no result"
    | some p => match loadV P t p S, resV P e S l with
      | .ok v, .ok vs => .ok (v :: vs)
      | .error w, _ => .error w
      | _, .error w => .error w)
def resOne : List V → V
  | [v] => v
  | vs => .tup vs
/-- A function that may be called: by its code (the orders of its drawn regions), or as one step. -/
inductive Ent where
  | code (p : Nat → Option (List Step))
  | spec (g : List V → St → R (V × St))
/-- Which functions may be called, and how. -/
abbrev Plans := FuncId → Option Ent
def callF (P : Program) (pl : Plans) : Nat → Call
  | 0, _, _, _ => .error "fuel"
  | k + 1, f, args, S => match pl f with
    | none => .error "a function that was not checked"
    | some (.spec g) => g args S
    | some (.code p) => match P.funcs[f]? with
      | none => .error "no such function"
      | some fn => match fn.body with
        | none => .error "no body"
        | some c => bif Nat.ble args.length fn.ntmps && Nat.blt fn.ntmps lim then
          (match exec P p (callF P pl k) k fn.ntmps c (argsEnv 0 args .nil) S with
          | .error w => .error w
          | .ok (.exit _, _, _) => .error "exit"
          | .ok (_, e, S') => match resV P e S' fn.results.toList with
            | .ok vs => .ok (resOne vs, S')
            | .error w => .error w) else .error "slots"

/-- The plans of a code are in order. -/
def codeOK (P : Program) (p : Nat → Option (List Step)) : Code → Bool
  | .region id ops d => !d || planOK P ops (stepsOf (p id) ops.size)
  | .seq a b => codeOK P p a && codeOK P p b
  | .cond _ a b => codeOK P p a && codeOK P p b
  | .block _ a => codeOK P p a
  | .loop a => codeOK P p a
  | _ => true
def lookN {α : Type} (n : Nat) : List (Nat × α) → Option α
  | [] => none
  | (m, x) :: l => bif Nat.beq n m then some x else lookN n l
/-- A table of plans: by function, by region. -/
abbrev PlTab := List (Nat × List (Nat × List Step))
/-- The functions that are taken as one step. -/
inductive Sp where
  | ins (T : TypeId)
  | del (T : TypeId)
  | within
  | told
  /-- c and what is left behind a division by m -/
  | emod (m c : Nat)
abbrev SpTab := List (Nat × Sp)
def Sp.run (P : Program) : Sp → List V → St → R (V × St)
  | .ins T, [s, i, x], S => insertV P T s i x S
  | .del T, [s, i, j], S => deleteV P T s i j S
  | .within, [x, .int .i64 lo, .int .i64 hi], S => bif decide (lo ≤ hi) && decide (hi ≤ 1000000) && decide (-1000000 ≤ lo) then (match x with
    | .res m r => bif decide (hi - lo + 1 = (m : Int)) then .ok (.int .i64 (lo + r), S) else .error "within"
    | .int .i64 n => .ok (.int .i64 (lo + n % (hi - lo + 1)), S)
    | _ => .error "within") else .error "within"
  | .emod m c, [x], S => (match x with
    | .res m' r => bif Nat.beq m m' && Nat.blt 0 m && Nat.blt m 1000000 && Nat.blt c 1000000 then .ok (.int .i64 (((c + r : Nat)) : Int), S) else .error "emod"
    | .int .i64 n => bif Nat.blt 0 m && Nat.blt m 1000000 && Nat.blt c 1000000 then .ok (.int .i64 (c + n % (m : Int)), S) else .error "emod"
    | _ => .error "emod")
  | .told, [], S => .ok (.bool true, S)
  | _, _, _ => .error "a step of other arguments"
def plansOf (P : Program) (sp : SpTab) (t : PlTab) : Plans := fun f => match lookN f sp with
  | some x => some (.spec (x.run P))
  | none => match lookN f t with
    | some l => some (.code fun id => lookN id l)
    | none => none
def funcOK (P : Program) (p : Nat → Option (List Step)) (f : FuncId) : Bool :=
  match P.funcs[f]? with
  | none => true
  | some fn => !(fn.name == "runtime.NumGoroutine") && (match fn.body with
    | none => true
    | some c => codeOK P p c)
def tabOK (P : Program) (t : PlTab) : Bool := t.all fun x => funcOK P (fun id => lookN id x.2) x.1

def saysTrue : R (V × St) → Bool
  | .ok (.bool b, _) => b
  | _ => false

end Go.AM
