/-
  The machine once more, in the shape that the kernel runs quickly: every step hands on what it made, small texts alone are unfolded. What it says, the machine of AmDef says.
-/
import Derived.Test.YtcdegmbabbgiaaaAmDef
set_option linter.unusedVariables false
namespace Go.AM

abbrev Ans := Option (V × St)
abbrev KM := V → Nat → Tr Blk → Ans
/-- The slots: what this region made, and what stays. -/
inductive Lc where
  | nil
  | cons (d : Nat) (v : V) (r : Lc)
structure FE where
  l : Lc
  g : Tr V
abbrev KE := FE → Nat → Tr Blk → Ans
abbrev KV := V → Ans
abbrev CallQ := FuncId → List V → Nat → Tr Blk → KM → Ans

noncomputable def bindO {α : Type} (x : Option α) (K : α → Ans) : Ans := @Option.rec α (fun _ => Ans) none K x
noncomputable def bindR {α : Type} (x : R α) (K : α → Ans) : Ans := @Except.rec String α (fun _ => Ans) (fun _ => none) K x
noncomputable def ifQ (b : Bool) (x : Ans) : Ans := @Bool.rec (fun _ => Ans) none x b
noncomputable def selQ (b : Bool) (x y : Ans) : Ans := @Bool.rec (fun _ => Ans) y x b
noncomputable def forceN (n : Nat) (K : Nat → Ans) : Ans := @Nat.rec (fun _ => Ans) (K 0) (fun m _ => K (Nat.succ m)) n
noncomputable def forceI (z : Int) (K : Int → Ans) : Ans := @Int.rec (fun _ => Ans) (fun n => forceN n (fun n => K (.ofNat n))) (fun n => forceN n (fun n => K (.negSucc n))) z
noncomputable def forceB (b : Bool) (K : Bool → Ans) : Ans := @Bool.rec (fun _ => Ans) (K false) (K true) b

/-! ### Lists -/
noncomputable def lenQV (l : List V) : Nat := @List.rec V (fun _ => Nat) 0 (fun _ _ ih => Nat.succ ih) l
noncomputable def lenQL (l : List (List V)) : Nat := @List.rec (List V) (fun _ => Nat) 0 (fun _ _ ih => Nat.succ ih) l
noncomputable def lenQO (l : List Oper) : Nat := @List.rec Oper (fun _ => Nat) 0 (fun _ _ ih => Nat.succ ih) l
noncomputable def nthQV (l : List V) (i : Nat) : Option V :=
  @Nat.rec (fun _ => List V → Option V) (@List.rec V (fun _ => Option V) none (fun a _ _ => some a)) (fun _ ih => @List.rec V (fun _ => Option V) none (fun _ t _ => ih t)) i l
noncomputable def nthQL (l : List (List V)) (i : Nat) : Option (List V) :=
  @Nat.rec (fun _ => List (List V) → Option (List V)) (@List.rec (List V) (fun _ => Option (List V)) none (fun a _ _ => some a)) (fun _ ih => @List.rec (List V) (fun _ => Option (List V)) none (fun _ t _ => ih t)) i l
noncomputable def nthQO (l : List Oper) (i : Nat) : Option Oper :=
  @Nat.rec (fun _ => List Oper → Option Oper) (@List.rec Oper (fun _ => Option Oper) none (fun a _ _ => some a)) (fun _ ih => @List.rec Oper (fun _ => Option Oper) none (fun _ t _ => ih t)) i l
noncomputable def nthQT (l : List TypeId) (i : Nat) : Option TypeId :=
  @Nat.rec (fun _ => List TypeId → Option TypeId) (@List.rec TypeId (fun _ => Option TypeId) none (fun a _ _ => some a)) (fun _ ih => @List.rec TypeId (fun _ => Option TypeId) none (fun _ t _ => ih t)) i l
noncomputable def dropQV (l : List V) (i : Nat) : List V :=
  @Nat.rec (fun _ => List V → List V) (fun l => l) (fun _ ih => @List.rec V (fun _ => List V) [] (fun _ t _ => ih t)) i l
noncomputable def dropQL (l : List (List V)) (i : Nat) : List (List V) :=
  @Nat.rec (fun _ => List (List V) → List (List V)) (fun l => l) (fun _ ih => @List.rec (List V) (fun _ => List (List V)) [] (fun _ t _ => ih t)) i l
noncomputable def takeKV (n : Nat) : List V → (List V → Ans) → Ans :=
  @Nat.rec (fun _ => List V → (List V → Ans) → Ans) (fun _ K => K []) (fun _ ih l K => @List.rec V (fun _ => Ans) none (fun a t _ => ih t (fun r => K (a :: r))) l) n
noncomputable def takeKL (n : Nat) : List (List V) → (List (List V) → Ans) → Ans :=
  @Nat.rec (fun _ => List (List V) → (List (List V) → Ans) → Ans) (fun _ K => K []) (fun _ ih l K => @List.rec (List V) (fun _ => Ans) none (fun a t _ => ih t (fun r => K (a :: r))) l) n
noncomputable def appKL (a b : List (List V)) (K : List (List V) → Ans) : Ans :=
  @List.rec (List V) (fun _ => (List (List V) → Ans) → Ans) (fun K => K b) (fun x _ ih K => ih (fun r => K (x :: r))) a K
noncomputable def setNthKL (x : (List V)) (i : Nat) : List (List V) → (List (List V) → Ans) → Ans :=
  @Nat.rec (fun _ => List (List V) → (List (List V) → Ans) → Ans) (fun l K => @List.rec (List V) (fun _ => Ans) none (fun _ t _ => K (x :: t)) l) (fun _ ih l K => @List.rec (List V) (fun _ => Ans) none (fun a t _ => ih t (fun r => K (a :: r))) l) i
noncomputable def overKV (xs : List V) : List V → (List V → Ans) → Ans :=
  @List.rec V (fun _ => List V → (List V → Ans) → Ans) (fun l K => K l) (fun x _ ih l K => @List.rec V (fun _ => Ans) none (fun _ t _ => ih t (fun r => K (x :: r))) l) xs
noncomputable def spliceKV (xs : List V) (j : Nat) : List V → (List V → Ans) → Ans :=
  @Nat.rec (fun _ => List V → (List V → Ans) → Ans) (overKV xs) (fun _ ih l K => @List.rec V (fun _ => Ans) none (fun a t _ => ih t (fun r => K (a :: r))) l) j

/-! ### Trees -/
/-- The way to a place of a tree. -/
inductive Pth where
  | stop
  | here
  | left (p : Pth)
  | right (p : Pth)
def pth : Nat → Nat → Pth
  | 0, _ => .stop
  | f + 1, n => bif Nat.beq n 0 then .here else bif Nat.beq (Nat.mod n 2) 1 then .left (pth f (Nat.div n 2)) else .right (pth f (Nat.pred (Nat.div n 2)))
noncomputable def getPV (p : Pth) : Tr V → (V → Ans) → Ans :=
  @Pth.rec (fun _ => Tr V → (V → Ans) → Ans) (fun _ _ => none) (fun t K => @Tr.rec V (fun _ => Ans) none (fun _ v _ _ _ => @Option.rec V (fun _ => Ans) none K v) t)
    (fun _ ih t K => @Tr.rec V (fun _ => Ans) none (fun l _ _ _ _ => ih l K) t) (fun _ ih t K => @Tr.rec V (fun _ => Ans) none (fun _ _ r _ _ => ih r K) t) p
noncomputable def getPB (p : Pth) : Tr Blk → (Blk → Ans) → Ans :=
  @Pth.rec (fun _ => Tr Blk → (Blk → Ans) → Ans) (fun _ _ => none) (fun t K => @Tr.rec Blk (fun _ => Ans) none (fun _ v _ _ _ => @Option.rec Blk (fun _ => Ans) none K v) t)
    (fun _ ih t K => @Tr.rec Blk (fun _ => Ans) none (fun l _ _ _ _ => ih l K) t) (fun _ ih t K => @Tr.rec Blk (fun _ => Ans) none (fun _ _ r _ _ => ih r K) t) p
noncomputable def setPV (x : V) (p : Pth) : Tr V → (Tr V → Ans) → Ans :=
  @Pth.rec (fun _ => Tr V → (Tr V → Ans) → Ans) (fun t K => K t) (fun t K => @Tr.rec V (fun _ => Ans) (K (.node .nil (some x) .nil)) (fun l _ r _ _ => K (.node l (some x) r)) t)
    (fun _ ih t K => @Tr.rec V (fun _ => Ans) (ih .nil (fun l => K (.node l none .nil))) (fun l v r _ _ => ih l (fun l => K (.node l v r))) t)
    (fun _ ih t K => @Tr.rec V (fun _ => Ans) (ih .nil (fun r => K (.node .nil none r))) (fun l v r _ _ => ih r (fun r => K (.node l v r))) t) p
noncomputable def setPB (x : Blk) (p : Pth) : Tr Blk → (Tr Blk → Ans) → Ans :=
  @Pth.rec (fun _ => Tr Blk → (Tr Blk → Ans) → Ans) (fun t K => K t) (fun t K => @Tr.rec Blk (fun _ => Ans) (K (.node .nil (some x) .nil)) (fun l _ r _ _ => K (.node l (some x) r)) t)
    (fun _ ih t K => @Tr.rec Blk (fun _ => Ans) (ih .nil (fun l => K (.node l none .nil))) (fun l v r _ _ => ih l (fun l => K (.node l v r))) t)
    (fun _ ih t K => @Tr.rec Blk (fun _ => Ans) (ih .nil (fun r => K (.node .nil none r))) (fun l v r _ _ => ih r (fun r => K (.node l v r))) t) p
noncomputable def getK (t : Tr Blk) (n : Nat) (K : Blk → Ans) : Ans := getPB (pth 32 n) t K
noncomputable def putQ (t : Tr Blk) (n : Nat) (x : Blk) (K : Tr Blk → Ans) : Ans := setPB x (pth 32 n) t K

/-! ### Values -/
noncomputable def asInt (v : V) (K : (IntKind → Int → Ans)) (other : Ans) : Ans :=
  @V.rec (fun _ => (IntKind → Int → Ans) → Ans → Ans) (fun _ => Unit) (fun _ => Unit) (fun _ _ o => o) (fun x0 x1 K _ => K x0 x1) (fun _ _ o => o) (fun _ o => o) (fun _ _ _ _ _ o => o) (fun _ _ _ _ o => o) (fun _ o => o) (fun _ _ _ _ _ _ o => o) (fun _ _ _ o => o) (fun _ _ _ o => o) (fun _ _ _ o => o) (fun _ o => o) (fun _ _ _ _ o => o) (fun _ o => o) (fun _ _ _ _ _ _ o => o) (fun _ o => o) (fun _ _ o => o) (fun _ _ _ o => o) () (fun _ _ _ _ => ()) () (fun _ _ _ _ => ()) v K other
noncomputable def asBool (v : V) (K : (Bool → Ans)) (other : Ans) : Ans :=
  @V.rec (fun _ => (Bool → Ans) → Ans → Ans) (fun _ => Unit) (fun _ => Unit) (fun x0 K _ => K x0) (fun _ _ _ o => o) (fun _ _ o => o) (fun _ o => o) (fun _ _ _ _ _ o => o) (fun _ _ _ _ o => o) (fun _ o => o) (fun _ _ _ _ _ _ o => o) (fun _ _ _ o => o) (fun _ _ _ o => o) (fun _ _ _ o => o) (fun _ o => o) (fun _ _ _ _ o => o) (fun _ o => o) (fun _ _ _ _ _ _ o => o) (fun _ o => o) (fun _ _ o => o) (fun _ _ _ o => o) () (fun _ _ _ _ => ()) () (fun _ _ _ _ => ()) v K other
noncomputable def asPtr (v : V) (K : (Nat → Nat → Nat → Nat → Ans)) (Ki : (List V → Nat → Ans)) (other : Ans) : Ans :=
  @V.rec (fun _ => (Nat → Nat → Nat → Nat → Ans) → (List V → Nat → Ans) → Ans → Ans) (fun _ => Unit) (fun _ => Unit) (fun _ _ _ o => o) (fun _ _ _ _ o => o) (fun _ _ _ o => o) (fun _ _ o => o) (fun x0 x1 x2 x3 K _ _ => K x0 x1 x2 x3) (fun x0 x1 _ _ Ki _ => Ki x0 x1) (fun _ _ o => o) (fun _ _ _ _ _ _ _ o => o) (fun _ _ _ _ o => o) (fun _ _ _ _ o => o) (fun _ _ _ _ o => o) (fun _ _ o => o) (fun _ _ _ _ _ o => o) (fun _ _ o => o) (fun _ _ _ _ _ _ _ o => o) (fun _ _ o => o) (fun _ _ _ o => o) (fun _ _ _ _ o => o) () (fun _ _ _ _ => ()) () (fun _ _ _ _ => ()) v K Ki other
noncomputable def asSl (v : V) (K : (Nat → Nat → Nat → Nat → Nat → Ans)) (Kn : Ans) (other : Ans) : Ans :=
  @V.rec (fun _ => (Nat → Nat → Nat → Nat → Nat → Ans) → Ans → Ans → Ans) (fun _ => Unit) (fun _ => Unit) (fun _ _ _ o => o) (fun _ _ _ _ o => o) (fun _ _ _ o => o) (fun _ _ o => o) (fun _ _ _ _ _ _ o => o) (fun _ _ _ _ _ o => o) (fun _ Kn _ => Kn) (fun x0 x1 x2 x3 x4 K _ _ => K x0 x1 x2 x3 x4) (fun _ _ _ _ o => o) (fun _ _ _ _ o => o) (fun _ _ _ _ o => o) (fun _ _ o => o) (fun _ _ _ _ _ o => o) (fun _ _ o => o) (fun _ _ _ _ _ _ _ o => o) (fun _ _ o => o) (fun _ _ _ o => o) (fun _ _ _ _ o => o) () (fun _ _ _ _ => ()) () (fun _ _ _ _ => ()) v K Kn other
noncomputable def asTup (v : V) (K : (List V → Ans)) (other : Ans) : Ans :=
  @V.rec (fun _ => (List V → Ans) → Ans → Ans) (fun _ => Unit) (fun _ => Unit) (fun _ _ o => o) (fun _ _ _ o => o) (fun _ _ o => o) (fun _ o => o) (fun _ _ _ _ _ o => o) (fun _ _ _ _ o => o) (fun _ o => o) (fun _ _ _ _ _ _ o => o) (fun _ _ _ o => o) (fun _ _ _ o => o) (fun x0 _ K _ => K x0) (fun _ o => o) (fun _ _ _ _ o => o) (fun _ o => o) (fun _ _ _ _ _ _ o => o) (fun _ o => o) (fun _ _ o => o) (fun _ _ _ o => o) () (fun _ _ _ _ => ()) () (fun _ _ _ _ => ()) v K other
noncomputable def asAgg (v : V) (K : (List V → Ans)) : Ans :=
  @V.rec (fun _ => (List V → Ans) → Ans) (fun _ => Unit) (fun _ => Unit) (fun _ _ => none) (fun _ _ _ => none) (fun _ _ => none) (fun _ => none) (fun _ _ _ _ _ => none) (fun _ _ _ _ => none) (fun _ => none) (fun _ _ _ _ _ _ => none) (fun _ _ _ => none) (fun x0 _ K => K x0) (fun _ _ _ => none) (fun _ => none) (fun _ _ _ _ => none) (fun _ => none) (fun _ _ _ _ _ _ => none) (fun _ => none) (fun _ _ => none) (fun _ _ _ => none) () (fun _ _ _ _ => ()) () (fun _ _ _ _ => ()) v K
noncomputable def asFunc (v : V) (K : (FuncId → List V → List V → Ans)) (other : Ans) : Ans :=
  @V.rec (fun _ => (FuncId → List V → List V → Ans) → Ans → Ans) (fun _ => Unit) (fun _ => Unit) (fun _ _ o => o) (fun _ _ _ o => o) (fun _ _ o => o) (fun _ o => o) (fun _ _ _ _ _ o => o) (fun _ _ _ _ o => o) (fun _ o => o) (fun _ _ _ _ _ _ o => o) (fun _ _ _ o => o) (fun _ _ _ o => o) (fun _ _ _ o => o) (fun _ o => o) (fun _ _ _ _ o => o) (fun _ o => o) (fun x0 x1 x2 _ _ K _ => K x0 x1 x2) (fun _ o => o) (fun _ _ o => o) (fun _ _ _ o => o) () (fun _ _ _ _ => ()) () (fun _ _ _ _ => ()) v K other
/-- A value's cells. -/
noncomputable def cellsK (v : V) (K : List V → Ans) : Ans :=
  @V.rec (fun _ => Ans) (fun _ => Unit) (fun _ => Unit) (fun b => K [.bool b]) (fun k n => K [.int k n]) (fun s => K [.str s]) (K [.nilp]) (fun a b c d => K [.ptr a b c d]) (fun a b _ => K [.iptr a b]) (K [.nils]) (fun a b c d e => K [.sl a b c d e]) (fun a _ => K [.imm a]) (fun cs _ => K cs) (fun a _ => K [.tup a]) (K [.nili]) (fun a b _ => K [.iface a b]) (K [.nilf]) (fun a b c _ _ => K [.func a b c]) (K [.nilm]) (fun a => K [.mp a]) (fun a b => K [.res a b]) () (fun _ _ _ _ => ()) () (fun _ _ _ _ => ()) v
noncomputable def oneQ (v : V) : Bool :=
  @V.rec (fun _ => Bool) (fun _ => Unit) (fun _ => Unit) (fun _ => true) (fun _ _ => true) (fun _ => true) true (fun _ _ _ _ => true) (fun _ _ _ => true) true (fun _ _ _ _ _ => true) (fun _ _ => true) (fun _ _ => false) (fun _ _ => false) true (fun _ _ _ => true) true (fun _ _ _ _ _ => true) true (fun _ => true) (fun _ _ => true) () (fun _ _ _ _ => ()) () (fun _ _ _ _ => ()) v
noncomputable def allOneQ (l : List V) : Bool := @List.rec V (fun _ => Bool) true (fun v _ ih => @Bool.rec (fun _ => Bool) false ih (oneQ v)) l
/-- A value whose numbers are reckoned. -/
noncomputable def normV (v : V) (K : KV) : Ans :=
  asInt v (fun k n => forceI n (fun n => K (.int k n))) (asBool v (fun b => forceB b (fun b => K (.bool b))) (K v))

/-! ### What the types tell -/
def tk (P : Program) (t : TypeId) : Option (Option Nat) :=
  match P.underlying t with
  | none => none
  | some d => bif aggD d then some (some (sz P t)) else some none
def fo (P : Program) (s : TypeId) (f : Nat) : Option Nat :=
  match fieldOf P s f with
  | none => none
  | some fd => bif Nat.beq (sz P fd.type) 0 then none else some fd.offset
def fp (P : Program) (s : TypeId) (f : Nat) : Option (Nat × TypeId) :=
  match fieldOf P s f with
  | none => none
  | some fd => some (fd.offset, fd.type)
/-- An element's size, of a slice's type. -/
def esT (P : Program) (t : TypeId) : Option Nat :=
  match P.underlying t with
  | some (.slice e) => bif (P.underlying e).isSome then some (sz P e) else none
  | _ => none
def isSlT (P : Program) (t : TypeId) : Bool :=
  match P.underlying t with
  | some (.slice _) => true
  | _ => false
def isStT (P : Program) (t : TypeId) : Bool :=
  match P.underlying t with
  | some .string => true
  | _ => false
def toIntT (P : Program) (s d : TypeId) : Option IntKind :=
  match P.underlying s, P.underlying d with
  | some _, some (.int k) => some k
  | _, _ => none
/-- A slice's element, where its zero fits: the cells, the bytes. -/
def apT (P : Program) (t : TypeId) : Option (Nat × Nat) :=
  match elemT P t with
  | none => none
  | some e => bif zeroFits P e then some (sz P e, P.bytesOf e) else none
/-- Where a struct's field lies. -/
def plT (P : Program) (t : TypeId) (i : Nat) : Option (Nat × Nat) :=
  match P.underlying t with
  | some (.struct fs) => (match fs[i]? with
    | some f => some (f.offset, sz P f.type)
    | none => none)
  | _ => none
def bdT (P : Program) (t : TypeId) : Option V :=
  match zeroOf P t, P.underlying t with
  | some z, some (.struct fs) => bif fs.toList.all fun f => (P.underlying f.type).isSome then some z else none
  | _, _ => none
def kn : IntKind → Nat
  | .i8 => 0 | .i16 => 1 | .i32 => 2 | .i64 => 3 | .u8 => 4 | .u16 => 5 | .u32 => 6 | .u64 => 7
def hiN : IntKind → Nat
  | .i8 => 127 | .i16 => 32767 | .i32 => 2147483647 | .i64 => 9223372036854775807
  | .u8 => 255 | .u16 => 65535 | .u32 => 4294967295 | .u64 => 18446744073709551615
noncomputable def nthQF (l : List Func) (i : Nat) : Option Func :=
  @Nat.rec (fun _ => List Func → Option Func) (@List.rec Func (fun _ => Option Func) none (fun a _ _ => some a)) (fun _ ih => @List.rec Func (fun _ => Option Func) none (fun _ t _ => ih t)) i l
noncomputable def hasBody (P : Program) (g : FuncId) : Bool :=
  match nthQF P.funcs.toList g with
  | none => false
  | some fn => fn.body.isSome

/-! ### Operands -/
noncomputable def lcK (l : Lc) : Nat → KV → Ans :=
  @Lc.rec (fun _ => Nat → KV → Ans) (fun _ _ => none) (fun d v _ ih t K => @Bool.rec (fun _ => Ans) (ih t K) (K v) (Nat.beq d t)) l
noncomputable def slotL0 (t : Nat) (E : FE) (K : KV) : Ans := lcK E.l t K
noncomputable def slotG0 (p : Pth) (E : FE) (K : KV) : Ans := getPV p E.g K
noncomputable def slotL (E : FE) (t : Nat) (K : KV) : Ans := lcK E.l t K
noncomputable def slotG (E : FE) (t : Nat) (K : KV) : Ans := getPV (pth 32 t) E.g K
noncomputable def slotK (G : Nat → Bool) (E : FE) (t : Nat) (K : KV) : Ans :=
  @Bool.rec (fun _ => FE → Nat → KV → Ans) slotL slotG (G t) E t K
/-- Where an operand lies. -/
inductive OK where
  | loc (t : Nat)
  | glob (p : Pth)
  | val (v : V)
  | bad
def okind (G : Nat → Bool) (x : Operand) : OK :=
  match x with
  | .tmp t => bif G t then .glob (pth 32 t) else .loc t
  | .const v => (match ofValue v with
    | some v => .val v
    | none => .bad)
  | .func f => .val (.func f [] [])
  | .global _ => .bad
noncomputable def evK (G : Nat → Bool) (E : FE) (x : Operand) (K : KV) : Ans :=
  @OK.rec (fun _ => FE → KV → Ans) slotL0 slotG0 (fun v _ K => K v) (fun _ _ => none) (okind G x) E K
noncomputable def lcF (l : Lc) (t : Nat) : Option V := @Lc.rec (fun _ => Option V) none (fun d v _ ih => @Bool.rec (fun _ => Option V) ih (some v) (Nat.beq d t)) l
noncomputable def evF (G : Nat → Bool) (E : FE) (x : Operand) : Option V :=
  @Operand.rec (fun _ => Option V) (fun t => @Bool.rec (fun _ => Option V) (lcF E.l t) (Tr.get E.g t) (G t)) ofValue (fun _ => none) (fun f => some (.func f [] [])) x
noncomputable def evsK (G : Nat → Bool) (E : FE) (l : List Operand) (K : List V → Ans) : Ans :=
  @List.rec Operand (fun _ => (List V → Ans) → Ans) (fun K => K []) (fun x _ ih K => evK G E x (fun v => ih (fun r => K (v :: r)))) l K
noncomputable def evPsK (G : Nat → Bool) (E : FE) (l : List (Nat × Operand)) (K : List (Nat × V) → Ans) : Ans :=
  @List.rec (Nat × Operand) (fun _ => (List (Nat × V) → Ans) → Ans) (fun K => K []) (fun x _ ih K => evK G E x.2 (fun v => ih (fun r => K ((x.1, v) :: r)))) l K

/-! ### Memory -/
noncomputable def rowK (h : Tr Blk) (a ver : Nat) (K : Nat → List (List V) → Ans) : Ans :=
  getK h a (fun b => @Blk.rec (fun _ => Ans) (fun v es elems => ifQ (Nat.beq v ver) (K es elems)) (fun _ => none) (fun _ _ => none) b)
noncomputable def newK (fr : Option Nat) (n : Nat) (h : Tr Blk) (b : Blk) (K : Nat → Nat → Tr Blk → Ans) : Ans :=
  @Option.rec Nat (fun _ => Ans) (ifQ (Nat.blt n lim) (putQ h n b (fun h => forceN (Nat.succ n) (fun m => K n m h)))) (fun k => ifQ (Nat.blt k lim) (putQ h k b (fun h => K k n h))) fr
noncomputable def aggK (cs : List V) (off s : Nat) (K : KV) : Ans :=
  selQ (Nat.beq off 0) (selQ (Nat.beq s (lenQV cs)) (K (.agg cs)) (takeKV s cs (fun l => K (.agg l)))) (ifQ (Nat.ble (Nat.add off s) (lenQV cs)) (takeKV s (dropQV cs off) (fun l => K (.agg l))))
noncomputable def partK (P : Program) (t : TypeId) (cs : List V) (off : Nat) (K : KV) : Ans :=
  bindO (tk P t) (fun d => @Option.rec Nat (fun _ => Ans) (bindO (nthQV cs off) K) (fun s => aggK cs off s K) d)
noncomputable def ldK (P : Program) (t : TypeId) (p : V) (h : Tr Blk) (K : KV) : Ans :=
  asPtr p (fun a ver i j => rowK h a ver (fun _ elems => bindO (nthQL elems i) (fun cs => partK P t cs j K))) (fun cs j => partK P t cs j K) none
noncomputable def layK (cs : List V) (j : Nat) (xs : List V) (K : List V → Ans) : Ans :=
  selQ (Nat.beq j 0) (selQ (Nat.beq (lenQV xs) (lenQV cs)) (K xs) (spliceKV xs j cs K)) (spliceKV xs j cs K)
noncomputable def stK (P : Program) (t : TypeId) (p : V) (xs : List V) (h : Tr Blk) (K : Tr Blk → Ans) : Ans :=
  asPtr p (fun a ver i j => rowK h a ver (fun es elems => bindO (nthQL elems i) (fun cs => ifQ (tk P t).isSome (ifQ (Nat.beq (lenQV xs) (sz P t)) (ifQ (allOneQ xs)
    (layK cs j xs (fun cs => setNthKL cs i elems (fun elems => putQ h a (.row ver es elems) K)))))))) (fun _ _ => none) none
/-- The elements that a slice or a text tells. -/
noncomputable def elemsK (h : Tr Blk) (n : Nat) (x : V) (K : List (List V) → Ans) : Ans :=
  asSl x (fun a ver _ off len => rowK h a ver (fun _ elems => selQ (Nat.beq off 0) (selQ (Nat.beq len (lenQL elems)) (K elems) (takeKL len elems K)) (ifQ (Nat.ble (Nat.add off len) (lenQL elems)) (takeKL len (dropQL elems off) K)))) (K [])
    (bindR (elemsOf ⟨n, h⟩ x) K)
noncomputable def allFitQ (s : Nat) (l : List (List V)) : Bool :=
  @List.rec (List V) (fun _ => Bool) true (fun cs _ ih => @Bool.rec (fun _ => Bool) false (@Bool.rec (fun _ => Bool) false ih (allOneQ cs)) (Nat.beq (lenQV cs) s)) l
def roomQ (n b : Nat) : Bool := Nat.ble (n * b) 35184372088832 && Nat.blt n lim
noncomputable def apSlK (s b : Nat) (x : List (List V)) (h : Tr Blk) (n a ver off len : Nat) (K : KM) : Ans :=
  elemsK h n (.sl a ver s off len) (fun old => rowK h a ver (fun es _ => ifQ (Nat.beq es s) (forceN (Nat.add len (lenQL x)) (fun m => ifQ (roomQ m b)
    (appKL old x (fun l => putQ h a (.row (Nat.succ ver) s l) (fun h => K (.sl a (Nat.succ ver) s 0 m) n h)))))))
noncomputable def apNilK (s b : Nat) (x : List (List V)) (fr : Option Nat) (n : Nat) (h : Tr Blk) (K : KM) : Ans :=
  @List.rec (List V) (fun _ => Ans) (K .nils n h) (fun _ _ _ => forceN (lenQL x) (fun m => ifQ (roomQ m b) (newK fr n h (.row 0 s x) (fun a n h => K (.sl a 0 s 0 m) n h)))) x
noncomputable def appendK (P : Program) (t : TypeId) (s x : V) (fr : Option Nat) (n : Nat) (h : Tr Blk) (K : KM) : Ans :=
  bindO (apT P t) (fun sb => elemsK h n x (fun xs => ifQ (allFitQ sb.1 xs)
    (asSl s (fun a ver _ off len => apSlK sb.1 sb.2 xs h n a ver off len K) (apNilK sb.1 sb.2 xs fr n h K) none)))
noncomputable def fillK (P : Program) (t : TypeId) (l : List (Nat × V)) : List V → KV → Ans :=
  @List.rec (Nat × V) (fun _ => List V → KV → Ans) (fun cs K => K (.agg cs)) (fun x _ ih cs K => bindO (plT P t x.1) (fun os => cellsK x.2 (fun xs =>
    ifQ (Nat.beq (lenQV xs) os.2) (ifQ (allOneQ xs) (layK cs os.1 xs (fun cs => ih cs K)))))) l

/-! ### Numbers -/
noncomputable def slowI (op : BinOp) (j : IntKind) (a b : Int) (K : KV) : Ans := bindR (intOp op j a b) (fun v => normV v K)
noncomputable def numK (op : BinOp) (j : IntKind) (a b : Int) (f : Nat → Nat → Nat) (K : KV) : Ans :=
  @Int.rec (fun _ => Ans) (fun m => @Int.rec (fun _ => Ans) (fun n => forceN (f m n) (fun r => selQ (Nat.ble r (hiN j)) (K (.int j (.ofNat r))) (slowI op j a b K))) (fun _ => slowI op j a b K) b) (fun _ => slowI op j a b K) a
noncomputable def subK (j : IntKind) (a b : Int) (K : KV) : Ans :=
  @Int.rec (fun _ => Ans) (fun m => @Int.rec (fun _ => Ans) (fun n => selQ (Nat.ble n m) (forceN (Nat.sub m n) (fun r => selQ (Nat.ble r (hiN j)) (K (.int j (.ofNat r))) (slowI .sub j a b K))) (slowI .sub j a b K)) (fun _ => slowI .sub j a b K) b) (fun _ => slowI .sub j a b K) a
noncomputable def divK (op : BinOp) (j : IntKind) (a b : Int) (f : Nat → Nat → Nat) (K : KV) : Ans :=
  @Int.rec (fun _ => Ans) (fun m => @Int.rec (fun _ => Ans) (fun n => selQ (Nat.beq n 0) none (forceN (f m n) (fun r => selQ (Nat.ble m (hiN j)) (K (.int j (.ofNat r))) (slowI op j a b K)))) (fun _ => slowI op j a b K) b) (fun _ => slowI op j a b K) a
noncomputable def bitK (op : BinOp) (j : IntKind) (a b : Int) (f : Nat → Nat → Nat) (K : KV) : Ans :=
  @Int.rec (fun _ => Ans) (fun m => @Int.rec (fun _ => Ans) (fun n => selQ (Nat.ble m (hiN j)) (selQ (Nat.ble n (hiN j)) (forceN (f m n) (fun r => selQ (Nat.ble r (hiN j)) (K (.int j (.ofNat r))) (slowI op j a b K))) (slowI op j a b K)) (slowI op j a b K)) (fun _ => slowI op j a b K) b) (fun _ => slowI op j a b K) a
noncomputable def cmpK (op : BinOp) (j : IntKind) (a b : Int) (f : Nat → Nat → Bool) (K : KV) : Ans :=
  @Int.rec (fun _ => Ans) (fun m => @Int.rec (fun _ => Ans) (fun n => forceB (f m n) (fun r => K (.bool r))) (fun _ => slowI op j a b K) b) (fun _ => slowI op j a b K) a
noncomputable def slowSh (op : BinOp) (j : IntKind) (a b : Int) (K : KV) : Ans := bindR (shiftOp op j a b) (fun v => normV v K)
noncomputable def intK (op : BinOp) : IntKind → Int → Int → KV → Ans :=
  @BinOp.rec (fun _ => IntKind → Int → Int → KV → Ans) (fun j a b => numK .add j a b Nat.add) subK (fun j a b => numK .mul j a b Nat.mul) (fun j a b => divK .quo j a b Nat.div) (fun j a b => divK .rem j a b Nat.mod)
    (fun j a b => bitK .and j a b Nat.land) (fun j a b => bitK .or j a b Nat.lor) (fun j a b => bitK .xor j a b Nat.xor) (slowI .shl) (slowI .shr) (slowI .andNot)
    (fun j a b => cmpK .eql j a b Nat.beq) (fun j a b => cmpK .neq j a b (fun m n => @Bool.rec (fun _ => Bool) true false (Nat.beq m n))) (fun j a b => cmpK .lss j a b Nat.blt) (fun j a b => cmpK .leq j a b Nat.ble)
    (fun j a b => cmpK .gtr j a b (fun m n => Nat.blt n m)) (fun j a b => cmpK .geq j a b (fun m n => Nat.ble n m)) op
def isSh : BinOp → Bool
  | .shl | .shr => true
  | _ => false
noncomputable def binSlow (P : Program) (op : BinOp) (t : TypeId) (x y : V) (K : KV) : Ans := ifQ (guardV P op t x y) (bindR (binV P op t x y) (fun v => normV v K))
noncomputable def binK (P : Program) (op : BinOp) (t : TypeId) (x y : V) (K : KV) : Ans :=
  asInt x (fun j a => asInt y (fun k b => selQ (isSh op) (slowSh op j a b K) (ifQ (Nat.beq (kn j) (kn k)) (intK op j a b K))) (binSlow P op t x y K)) (binSlow P op t x y K)
noncomputable def cvK (k : IntKind) (z : Int) (K : KV) : Ans :=
  @Int.rec (fun _ => Ans) (fun m => selQ (Nat.ble m (hiN k)) (K (.int k (.ofNat m))) (normV (.int k (wr k z)) K)) (fun _ => normV (.int k (wr k z)) K) z
noncomputable def idxK (x : V) (n : Nat) (K : Nat → Ans) : Ans :=
  asInt x (fun _ z => @Int.rec (fun _ => Ans) (fun m => ifQ (Nat.blt m n) (K m)) (fun _ => none) z) none

/-! ### One operation -/
structure Cx where
  n : Nat
  g : Nat → Bool
/-- Where a result goes. -/
inductive DK where
  | none
  | loc (d : Nat)
  | glob (p : Pth)
  | bad
def dkind (X : Cx) (d : Option Tmp) : DK :=
  match d with
  | none => .none
  | some d => bif Nat.blt d X.n then (bif X.g d then .glob (pth 32 d) else .loc d) else .bad
noncomputable def setL0 (d : Nat) (E : FE) (K : KE) (v : V) (n : Nat) (h : Tr Blk) : Ans := K ⟨.cons d v E.l, E.g⟩ n h
noncomputable def setG0 (p : Pth) (E : FE) (K : KE) (v : V) (n : Nat) (h : Tr Blk) : Ans := setPV v p E.g (fun g => K ⟨E.l, g⟩ n h)
noncomputable def dstK (X : Cx) (d : Option Tmp) (E : FE) (K : KE) (v : V) (n : Nat) (h : Tr Blk) : Ans :=
  @DK.rec (fun _ => FE → KE → V → Nat → Tr Blk → Ans) (fun E K _ n h => K E n h) setL0 setG0 (fun _ _ _ _ _ => none) (dkind X d) E K v n h
abbrev OpQ := Program → CallQ → Cx → Oper → Option Nat → FE → Nat → Tr Blk → KM → Ans
noncomputable def outK (C : CallQ) (n : Nat) (h : Tr Blk) (K : KM) (r : Out) : Ans :=
  @Out.rec (fun _ => Ans) (fun v S => normV v (fun v => forceN S.next (fun n => K v n S.heap))) (fun S => forceN S.next (fun n => K (.tup []) n S.heap)) (fun f args => C f args n h K) r
noncomputable def pairK (K : KM) (r : V × St) : Ans := forceN r.2.next (fun n => K r.1 n r.2.heap)
noncomputable def slowQ : OpQ := fun P C X o fr e n h K => bindR (evalOp P (evF X.g e) o fr ⟨n, h⟩) (outK C n h K)
noncomputable def mvQ (x : Operand) : OpQ := fun _ _ X _ _ e n h K => evK X.g e x (fun v => K v n h)
noncomputable def pickQ (c a b : Operand) : OpQ := fun _ _ X _ _ e n h K => evK X.g e c (fun v => asBool v (fun r => evK X.g e (@Bool.rec (fun _ => Operand) b a r) (fun v => K v n h)) none)
noncomputable def allocQ (t : TypeId) : OpQ := fun P _ _ _ fr _ n h K => bindO (zeroOf P t) (fun z => cellsK z (fun cs => forceN (lenQV cs) (fun s => newK fr n h (.row 0 s [cs]) (fun a n h => K (.ptr a 0 0 0) n h))))
noncomputable def boxQ (_ : TypeId) (x : Operand) : OpQ := fun _ _ X _ fr e n h K => evK X.g e x (fun v => cellsK v (fun cs => ifQ (allOneQ cs) (forceN (lenQV cs) (fun s => newK fr n h (.row 0 s [cs]) (fun a n h => K (.ptr a 0 0 0) n h)))))
noncomputable def buildQ (t : TypeId) (ps : Array (Nat × Operand)) : OpQ := fun P C X o fr e n h K =>
  @Option.rec V (fun _ => Ans) (slowQ P C X o fr e n h K) (fun z => evPsK X.g e ps.toList (fun l => cellsK z (fun cs => fillK P t l cs (fun v => K v n h)))) (bdT P t)
noncomputable def loadQ (t : TypeId) (a : Operand) : OpQ := fun P C X _ _ e n h K => evK X.g e a (fun p => ldK P t p h (fun v => K v n h))
noncomputable def storeQ (t : TypeId) (a x : Operand) : OpQ := fun P C X _ _ e n h K => evK X.g e a (fun p => evK X.g e x (fun v => cellsK v (fun xs => stK P t p xs h (fun h => K (.tup []) n h))))
noncomputable def nilCheckQ (x : Operand) : OpQ := fun _ _ X _ _ e n h K => evK X.g e x (fun v => asPtr v (fun _ _ _ _ => K v n h) (fun _ _ => K v n h) none)
noncomputable def binQ (op : BinOp) (t : TypeId) (x y : Operand) (_ : TypeId) : OpQ := fun P C X _ _ e n h K => evK X.g e x (fun a => evK X.g e y (fun b => binK P op t a b (fun v => K v n h)))
noncomputable def unQ (op : UnOp) (t : TypeId) (x : Operand) : OpQ := fun P C X o fr e n h K => evK X.g e x (fun v => bindR (unV op v) (fun v => normV v (fun v => K v n h)))
noncomputable def cvQ (s d : TypeId) (x : Operand) : OpQ := fun P C X o fr e n h K =>
  @Option.rec IntKind (fun _ => Ans) (evK X.g e x (fun v => bindR (convertV P s d v fr ⟨n, h⟩) (pairK K))) (fun k => evK X.g e x (fun v => asInt v (fun _ z => cvK k z (fun v => K v n h)) none)) (toIntT P s d)
noncomputable def fieldAddrQ (s : TypeId) (x : Operand) (f : Nat) : OpQ := fun P C X _ _ e n h K =>
  bindO (fo P s f) (fun off => evK X.g e x (fun p => asPtr p (fun a ver i j => forceN (Nat.add j off) (fun j => K (.ptr a ver i j) n h)) (fun cs j => forceN (Nat.add j off) (fun j => K (.iptr cs j) n h)) none))
noncomputable def fieldQ (t : TypeId) (x : Operand) (f : Nat) : OpQ := fun P C X _ _ e n h K =>
  bindO (fp P t f) (fun of => evK X.g e x (fun v => asAgg v (fun cs => partK P of.2 cs of.1 (fun v => K v n h))))
noncomputable def indexAddrQ (t : TypeId) (x i : Operand) : OpQ := fun P C X o fr e n h K =>
  @Option.rec Nat (fun _ => Ans) (slowQ P C X o fr e n h K) (fun s => evK X.g e x (fun v => asSl v (fun a ver es off len => evK X.g e i (fun ix => idxK ix len (fun k => ifQ (Nat.beq es s) (forceN (Nat.add off k) (fun k => K (.ptr a ver k 0) n h))))) none (slowQ P C X o fr e n h K))) (esT P t)
noncomputable def extractQ (t : Operand) (i : Nat) : OpQ := fun _ _ X _ _ e n h K => evK X.g e t (fun v => asTup v (fun vs => bindO (nthQV vs i) (fun v => K v n h)) none)
noncomputable def joinK (a b c : List V) (K : List V → Ans) : Ans :=
  @List.rec V (fun _ => Ans) (@List.rec V (fun _ => Ans) (K b) (fun _ _ _ => K (a ++ b ++ c)) c) (fun _ _ _ => K (a ++ b ++ c)) a
noncomputable def callVQ (f : Operand) (args : Array Operand) : OpQ := fun P C X o fr e n h K =>
  evK X.g e f (fun v => asFunc v (fun g a b => selQ (hasBody P g) (evsK X.g e args.toList (fun l => joinK a l b (fun l => C g l n h K))) (evsK X.g e args.toList (fun l => joinK a l b (fun l => bindO P.funcs[g]? (fun fn => bindR (externV fn l) (fun v => normV v (fun v => K v n h))))))) none)
noncomputable def lenBQ (c : Go.Call) : OpQ := fun P C X o fr e n h K =>
  bindO (nthQT c.argTypes.toList 0) (fun t => selQ (isSlT P t) (@List.rec Operand (fun _ => Ans) none (fun x r _ => evK X.g e x (fun v => @List.rec Operand (fun _ => Ans) (asSl v (fun _ _ _ _ len => K (.int .i64 (.ofNat len)) n h) (K (.int .i64 (.ofNat 0)) n h) (slowQ P C X o fr e n h K)) (fun _ _ _ => none) r)) c.args.toList) (evsK X.g e c.args.toList (fun l => @List.rec V (fun _ => Ans) none (fun x r _ => @List.rec V (fun _ => Ans) (bindR (lenV P t x ⟨n, h⟩) (fun v => normV v (fun v => K v n h))) (fun _ _ _ => none) r) l)))
noncomputable def appBQ (c : Go.Call) : OpQ := fun P C X o fr e n h K =>
  bindO (nthQT c.argTypes.toList 0) (fun t => bindO (nthQT c.argTypes.toList 1) (fun u => ifQ (@Bool.rec (fun _ => Bool) (isStT P u) true (isSlT P u)) (evsK X.g e c.args.toList (fun l =>
    @List.rec V (fun _ => Ans) none (fun s r _ => @List.rec V (fun _ => Ans) none (fun x q _ => @List.rec V (fun _ => Ans) (appendK P t s x fr n h K) (fun _ _ _ => none) q) r) l))))
def bnum : Builtin → Nat
  | .len => 1
  | .append => 2
  | _ => 0
noncomputable def callBQ (b : Builtin) (c : Go.Call) : OpQ := fun P C X o fr e n h K =>
  selQ (Nat.beq (bnum b) 1) (lenBQ c P C X o fr e n h K) (selQ (Nat.beq (bnum b) 2) (appBQ c P C X o fr e n h K) (slowQ P C X o fr e n h K))
noncomputable def callOpQ (c : Go.Call) : OpQ :=
  @Callee.rec (fun _ => OpQ) (fun f => callVQ f c.args) (fun _ _ => slowQ) (fun b => callBQ b c) c.callee
noncomputable def buildSliceQ (t : TypeId) (len : Nat) (ps : Array (Nat × Operand)) : OpQ := fun P C X _ fr e n h K => evPsK X.g e ps.toList (fun l => bindR (buildSliceV P t len l fr ⟨n, h⟩) (pairK K))
noncomputable def makeSliceQ (t : TypeId) (l c : Operand) : OpQ := fun P C X _ fr e n h K => evK X.g e l (fun l => evK X.g e c (fun c => bindR (makeSliceV P t l c fr ⟨n, h⟩) (pairK K)))
noncomputable def evOK (G : Nat → Bool) (E : FE) (x : Option Operand) (K : Option V → Ans) : Ans := @Option.rec Operand (fun _ => Ans) (K none) (fun x => evK G E x (fun v => K (some v))) x
noncomputable def sliceQ (t : TypeId) (x : Operand) (lo hi mx : Option Operand) : OpQ := fun P C X o fr e n h K =>
  @Option.rec Operand (fun _ => Ans) (evK X.g e x (fun v => evOK X.g e lo (fun l => evOK X.g e hi (fun u => bindR (sliceV P t v l u) (fun v => K v n h))))) (fun _ => none) mx
noncomputable def indexQ (t : TypeId) (x i : Operand) : OpQ := fun P C X _ _ e n h K => evK X.g e x (fun v => evK X.g e i (fun k => bindR (indexV P t v k) (fun v => K v n h)))
noncomputable def typeAssertQ (x : Operand) (_ t : TypeId) (ok : Bool) : OpQ := fun P C X _ _ e n h K => evK X.g e x (fun v => bindR (assertV P v t ok) (fun v => K v n h))
noncomputable def lookupQ (t : TypeId) (m k : Operand) (ok : Bool) : OpQ := fun P C X _ _ e n h K => evK X.g e m (fun m => evK X.g e k (fun k => bindR (lookupV P t m k ok ⟨n, h⟩) (fun v => normV v (fun v => K v n h))))
noncomputable def mapUpdateQ (t : TypeId) (m k v : Operand) : OpQ := fun P C X _ _ e n h K => evK X.g e m (fun m => evK X.g e k (fun k => evK X.g e v (fun v => bindR (mapUpdateV P t m k v ⟨n, h⟩) (fun S => K (.tup []) n S.heap))))
noncomputable def opQ (op : Op) : OpQ :=
  @Op.rec (fun _ => OpQ) mvQ mvQ pickQ allocQ boxQ buildQ buildSliceQ (fun _ _ _ _ => slowQ) loadQ storeQ (fun _ => slowQ) (fun _ => slowQ) nilCheckQ binQ
    unQ cvQ (fun _ _ => slowQ) (fun _ _ => slowQ) (fun _ _ _ => slowQ) (fun _ _ => slowQ) (fun _ _ => slowQ) makeSliceQ sliceQ fieldAddrQ fieldQ indexAddrQ
    indexQ lookupQ mapUpdateQ (fun _ _ _ => slowQ) (fun _ _ _ _ => slowQ) (fun _ _ => slowQ) (fun _ _ => slowQ) (fun _ => slowQ) typeAssertQ extractQ callOpQ
    (fun _ => slowQ) (fun _ => slowQ) (fun _ => slowQ) (fun _ _ => slowQ) (fun _ _ _ => slowQ) (fun _ _ => slowQ) op
/-- Is the operation wanted? -/
noncomputable def wantK (G : Nat → Bool) (E : FE) (ops : Array Oper) (j : Nat) (want : Bool) (x y : Ans) : Ans :=
  @Option.rec Oper (fun _ => Ans) y (fun o => @Option.rec Tmp (fun _ => Ans) y (fun d => slotK G E d (fun v => asBool v (fun b => @Bool.rec (fun _ => Ans) (selQ want y x) (selQ want x y) b) y)) o.dst) (nthQO ops.toList j)
noncomputable def plainQ (P : Program) (C : CallQ) (X : Cx) (_ : Array Oper) (o : Oper) (fr : Option Nat) (E : FE) (n : Nat) (h : Tr Blk) (Kd : KM) (_ : Ans) : Ans := opQ o.op P C X o fr E n h Kd
noncomputable def guardedQ (g : Nat × Bool) (P : Program) (C : CallQ) (X : Cx) (ops : Array Oper) (o : Oper) (fr : Option Nat) (E : FE) (n : Nat) (h : Tr Blk) (Kd : KM) (Ks : Ans) : Ans :=
  wantK X.g E ops g.1 g.2 (opQ o.op P C X o fr E n h Kd) Ks
noncomputable def stepQ (P : Program) (C : CallQ) (X : Cx) (ops : Array Oper) (o : Oper) (fr : Option Nat) (E : FE) (n : Nat) (h : Tr Blk) (Kd : KM) (Ks : Ans) : Ans :=
  @Option.rec (Nat × Bool) (fun _ => Program → CallQ → Cx → Array Oper → Oper → Option Nat → FE → Nat → Tr Blk → KM → Ans → Ans) plainQ guardedQ o.guard P C X ops o fr E n h Kd Ks
noncomputable def runQ (P : Program) (C : CallQ) (X : Cx) (ops : Array Oper) (l : List Oper) (K : KE) : KE :=
  @List.rec Oper (fun _ => KE) K (fun o _ ih E n h => stepQ P C X ops o none E n h (dstK X o.dst E ih) (dstK X o.dst E ih (.tup []) n h)) l

/-! ### Code -/
abbrev RecQ := Nat × FE × V
noncomputable def againQ1 (P : Program) (C : CallQ) (X : Cx) (ops : Array Oper) (n : Nat) (h : Tr Blk) (x : Ans) (i : Nat) (recs : List RecQ) : Ans :=
  @List.rec RecQ (fun _ => Ans) x (fun r _ ih => selQ (Nat.beq i r.1) (bindO (nthQO ops.toList i) (fun o => opQ o.op P C X o none r.2.1 n h (fun v _ _ => ifQ (beqV r.2.2 v) x))) ih) recs
noncomputable def againQ (P : Program) (C : CallQ) (X : Cx) (ops : Array Oper) (recs : List RecQ) (n : Nat) (h : Tr Blk) (re : List Nat) (x : Ans) : Ans :=
  @List.rec Nat (fun _ => Ans) x (fun i _ ih => againQ1 P C X ops n h ih i recs) re
/-- The readers' records, one more. -/
def recQ (P : Program) (o : Oper) (i : Nat) (E : FE) (v : V) (recs : List RecQ) : List RecQ := bif Nat.beq (cls P o.op) 1 && o.dst.isSome then (i, E, v) :: recs else recs
noncomputable def drawQ (P : Program) (C : CallQ) (X : Cx) (ops : Array Oper) (base : Nat) (l : List Step) (K : KE) : List RecQ → KE :=
  @List.rec Step (fun _ => List RecQ → KE) (fun _ => K) (fun s _ ih recs E n h => bindO (nthQO ops.toList s.1) (fun o => forceN (Nat.add base s.1) (fun k => stepQ P C X ops o (some k) E n h
    (fun v n h => dstK X o.dst E (fun E' n h => againQ P C X ops recs n h s.2 (ih (recQ P o s.1 E v recs) E' n h)) v n h)
    (dstK X o.dst E (fun E' n h => againQ P C X ops recs n h s.2 (ih recs E' n h)) (.tup []) n h)))) l
noncomputable def regionQ (P : Program) (C : CallQ) (X : Cx) (pl : Nat → Option (List Step)) (id : Nat) (ops : Array Oper) (d : Bool) (e : FE) (n : Nat) (h : Tr Blk) (K : KE) : Ans :=
  selQ d (forceN (Nat.add n (lenQO ops.toList)) (fun m => drawQ P C X ops n (stepsOf (pl id) ops.size) K [] ⟨.nil, e.g⟩ m h))
    (runQ P C X ops ops.toList K ⟨.nil, e.g⟩ n h)
abbrev KX := Nat → KE
abbrev ExQ := FE → Nat → Tr Blk → KE → KX → KE → Ans
noncomputable def condQ (G : Nat → Bool) (c : Operand) (a b : ExQ) : ExQ := fun e n h Kn Kx Kr => evK G e c (fun v => asBool v (fun r => selQ r (a e n h Kn Kx Kr) (b e n h Kn Kx Kr)) none)
noncomputable def loopQ (a : ExQ) (Kx : KX) (Kr : KE) (k : Nat) : KE := @Nat.rec (fun _ => KE) (fun _ _ _ => none) (fun _ ih e n h => a e n h ih Kx Kr) k
noncomputable def execQ (P : Program) (C : CallQ) (X : Cx) (pl : Nat → Option (List Step)) (k : Nat) (c : Code) : ExQ :=
  @Code.rec (fun _ => ExQ) (fun e n h Kn _ _ => Kn e n h) (fun id ops d e n h Kn _ _ => regionQ P C X pl id ops d e n h Kn) (fun _ _ a b e n h Kn Kx Kr => a e n h (fun e n h => b e n h Kn Kx Kr) Kx Kr)
    (fun c _ _ a b => condQ X.g c a b) (fun id _ a e n h Kn Kx Kr => a e n h Kn (fun j e n h => selQ (Nat.beq j id) (Kn e n h) (Kx j e n h)) Kr) (fun _ a e n h _ Kx Kr => loopQ a Kx Kr k e n h)
    (fun _ _ _ _ _ _ _ _ _ _ _ _ => none) (fun id e n h _ Kx _ => Kx id e n h) (fun _ _ _ _ _ _ _ _ => none) (fun _ e n h Kn _ _ => Kn e n h) (fun _ _ _ _ _ _ _ => none) (fun e n h _ _ Kr => Kr e n h) (fun _ _ _ _ _ _ _ => none) c
noncomputable def argsK (l : List V) : Nat → Env → (Env → Ans) → Ans :=
  @List.rec V (fun _ => Nat → Env → (Env → Ans) → Ans) (fun _ e K => K e) (fun v _ ih i e K => setPV v (pth 32 i) e (fun e => ih (Nat.succ i) e K)) l
noncomputable def resK (P : Program) (G : Nat → Bool) (E : FE) (h : Tr Blk) (l : List ResultVar) (K : List V → Ans) : Ans :=
  @List.rec ResultVar (fun _ => (List V → Ans) → Ans) (fun K => K []) (fun x _ ih K => @ResultVar.rec (fun _ => Ans) (fun t => slotK G E t (fun v => ih (fun r => K (v :: r)))) (fun a t => slotK G E a (fun p => ldK P t p h (fun v => ih (fun r => K (v :: r))))) x) l K
noncomputable def oneK (l : List V) (K : KV) : Ans :=
  @List.rec V (fun _ => Ans) (K (.tup [])) (fun v r _ => @List.rec V (fun _ => Ans) (K v) (fun _ _ _ => K (.tup l)) r) l
/-- What is known of a function: its code, its slots, its results. -/
noncomputable def bodyOf (P : Program) (f : FuncId) : Option (Code × Nat × List ResultVar) :=
  match nthQF P.funcs.toList f with
  | none => none
  | some fn => match fn.body with
    | none => none
    | some c => bif Nat.blt fn.ntmps lim then some (c, fn.ntmps, fn.results.toList) else none
/-- Which slots are read in another region than the one that made them (a guess: a wrong one makes the run fail, no more). -/
def bitOf (t : Nat) : Nat := Nat.shiftLeft 1 t
def readsOf : List Operand → Nat
  | [] => 0
  | .tmp t :: l => Nat.lor (bitOf t) (readsOf l)
  | _ :: l => readsOf l
def minus (a b : Nat) : Nat := Nat.xor a (Nat.land a b)
def dstsOf : List Oper → Nat
  | [] => 0
  | o :: l => match o.dst with
    | some d => Nat.lor (bitOf d) (dstsOf l)
    | none => dstsOf l
def exposed : List Oper → Nat → Nat
  | [], _ => 0
  | o :: l, w => Nat.lor (minus (readsOf o.op.operands.toList) w) (exposed l (match o.dst with
    | some d => Nat.lor (bitOf d) w
    | none => w))
/-- What a code reads of what an earlier region made; what its last region made. -/
def walk : Code → Nat → Nat × Nat
  | .region _ ops d, _ => (exposed ops.toList (bif d then dstsOf ops.toList else 0), dstsOf ops.toList)
  | .seq a b, w => match walk a w with
    | (x, w) => match walk b w with
      | (y, w) => (Nat.lor x y, w)
  | .cond c a b, w => match walk a w with
    | (x, _) => match walk b w with
      | (y, _) => (Nat.lor (minus (readsOf [c]) w) (Nat.lor x y), 0)
  | .block _ a, w => match walk a w with
    | (x, _) => (x, 0)
  | .loop a, _ => match walk a 0 with
    | (x, _) => (x, 0)
  | _, w => (0, w)
def resBits : List ResultVar → Nat
  | [] => 0
  | .tmp t :: l => Nat.lor (bitOf t) (resBits l)
  | .cell t _ :: l => Nat.lor (bitOf t) (resBits l)
noncomputable def maskOf (P : Program) (f : FuncId) : Nat :=
  match nthQF P.funcs.toList f with
  | none => 0
  | some fn => match fn.body with
    | none => 0
    | some c => Nat.lor (resBits fn.results.toList) (Nat.lor (Nat.pred (bitOf (fn.params.size + fn.nfree))) (walk c 0).1)
def isG (m t : Nat) : Bool := Nat.beq (Nat.land (Nat.shiftRight m t) 1) 1
noncomputable def retK (P : Program) (G : Nat → Bool) (rs : List ResultVar) (K : KM) : KE := fun E n h => resK P G E h rs (fun l => oneK l (fun v => K v n h))
noncomputable def codeQ (P : Program) (call : CallQ) (p : Nat → Option (List Step)) (G : Nat → Bool) (k : Nat) (args : List V) (n : Nat) (h : Tr Blk) (K : KM) (c : Code) (N : Nat) (rs : List ResultVar) : Ans :=
  ifQ (Nat.ble (lenQV args) N) (argsK args 0 .nil (fun g => execQ P call ⟨N, G⟩ p k c ⟨.nil, g⟩ n h (retK P G rs K) (fun _ _ _ _ => none) (retK P G rs K)))
noncomputable def specQ (g : List V → St → R (V × St)) (args : List V) (n : Nat) (h : Tr Blk) (K : KM) : Ans :=
  bindR (g args ⟨n, h⟩) (fun r => normV r.1 (fun v => forceN r.2.next (fun n => K v n r.2.heap)))
noncomputable def callQ (P : Program) (pl : Plans) (k : Nat) : CallQ :=
  @Nat.rec (fun _ => CallQ) (fun _ _ _ _ _ => none) (fun k ih f args n h K => bindO (pl f) (fun x => @Ent.rec (fun _ => Ans) (fun p => bindO (bodyOf P f) (fun b => forceN (maskOf P f) (fun m => codeQ P ih p (isG m) k args n h K b.1 b.2.1 b.2.2))) (fun g => specQ g args n h K) x)) k
noncomputable def saysQ (P : Program) (pl : Plans) (k : Nat) (f : FuncId) : Bool :=
  @Option.rec (V × St) (fun _ => Bool) false (fun r => saysTrue (.ok r)) (callQ P pl k f [] 0 .nil (fun v n h => some (v, ⟨n, h⟩)))
end Go.AM
