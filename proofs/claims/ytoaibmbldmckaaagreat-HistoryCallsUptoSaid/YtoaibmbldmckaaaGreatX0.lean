import Derived.Laws.Externs
import Derived.WalkKit
set_option linter.unusedSimpArgs false
set_option linter.unusedVariables false
set_option linter.unusedSectionVars false
set_option maxRecDepth 100000
section
namespace Go.AM
inductive V where
 | bool (b:Bool)
 | int (k:IntKind) (n:Int)
 | str (s:List UInt8)
 | nilp
 | ptr (a ver i j:Nat)
 | iptr (cs:List V) (j:Nat)
 | nils
 | sl (a ver es off len:Nat)
 | imm (es:List (List V))
 | agg (cs:List V)
 | tup (vs:List V)
 | nili
 | iface (t:TypeId) (v:V)
 | nilf
 | func (f:FuncId) (first captured:List V)
 | nilm
 | mp (a:Nat)
 | res (m r:Nat)
def V.cells:V→List V
 | .agg cs=>cs
 | v=>[v]
def V.one:V→Bool
 | .agg _ | .tup _=>false
 | _=>true
def iY:Value→Option V
 | .bool b=>some (.bool b)
 | .int k n=>some (.int k n)
 | .string s=>some (.str s.data.toList)
 | .pointer none=>some .nilp
 | .slice none 0 0=>some .nils
 | .nilIface=>some .nili
 | .nilFunc=>some .nilf
 | .map none=>some .nilm
 | _=>none
def fT:List Value→Option (List V)
 | []=>some []
 | v::r=>match iY v with
  | some x=>match fT r with
   | some xs=>some (x::xs)
   | none=>none
  | none=>none
def ofValue:Value→Option V
 | .agg cs=>match fT cs.toList with
  | some xs=>some (.agg xs)
  | none=>none
 | v=>iY v
inductive Tr (α:Type) where
 | nil
 | node (l:Tr α) (v:Option α) (r:Tr α)
def Tr.get {α:Type}:Tr α→Nat→Option α
 | .nil,_=>none
 | .node l v r,n=>bif Nat.beq n 0 then v else bif Nat.beq (n % 2) 1 then l.get (n / 2) else r.get (n / 2 - 1)
def Tr.set {α:Type}:Nat→Tr α→Nat→α→Tr α
 | 0,t,_,_=>t
 | f+1,.nil,n,x=>bif Nat.beq n 0 then .node .nil (some x) .nil else bif Nat.beq (n % 2) 1 then .node (Tr.set f .nil (n / 2) x) none .nil else .node .nil none (Tr.set f .nil (n / 2 - 1) x)
 | f+1,.node l v r,n,x=>bif Nat.beq n 0 then .node l (some x) r else bif Nat.beq (n % 2) 1 then .node (Tr.set f l (n / 2) x) v r else .node l v (Tr.set f r (n / 2 - 1) x)
def fZ:Nat:=2147483648
def Tr.put {α:Type} (t:Tr α) (n:Nat) (x:α):Tr α:=Tr.set (n+1) t n x
def jM (n:Nat):Nat:=n+1
inductive Blk where
 | row (ver es:Nat) (elems:List (List V))
 | mp (kvs:List (V×V))
 | iter (s:List UInt8) (pos:Nat)
structure St where
 next:Nat
 heap:Tr Blk
abbrev aJ:=Tr V
abbrev R (α:Type):=Except String α
def sz (P:Program) (t:TypeId):Nat:=P.cellsOf t
def aEm:TypeDesc→Bool
 | .struct _ | .array _ _=>true
 | _=>false
def aF (P:Program) (t:TypeId):Option V:=
 match (P.info? t).bind (·.zero) with
 | some v=>ofValue v
 | none=>none
def lo:IntKind→Int
 | .i8=>-128 | .i16=>-32768 | .i32=>-2147483648 | .i64=>-9223372036854775808
 | _=>0
def hi:IntKind→Int
 | .i8=>127 | .i16=>32767 | .i32=>2147483647 | .i64=>9223372036854775807
 | .u8=>255 | .u16=>65535 | .u32=>4294967295 | .u64=>18446744073709551615
def wr (k:IntKind) (n:Int):Int:=if lo k≤n∧n≤hi k then n else k.wrap n
def jN:List UInt8→List UInt8→Bool
 | [],[]=>true
 | a::x,b::y=>bif Nat.beq a.toNat b.toNat then jN x y else false
 | _,_=>false
def ltB:List UInt8→List UInt8→Bool
 | _,[]=>false
 | [],_::_=>true
 | a::x,b::y=>bif Nat.blt a.toNat b.toNat then true else bif Nat.beq a.toNat b.toNat then ltB x y else false
def fN (j k:IntKind):Bool:=
 match j,k with
 | .i8,.i8 | .i16,.i16 | .i32,.i32 | .i64,.i64 | .u8,.u8 | .u16,.u16 | .u32,.u32 | .u64,.u64=>true
 | _,_=>false
def eY (op:BinOp) (k:IntKind) (a b:Int):R V:=
 match op with
 | .add=>.ok (.int k (wr k (a+b)))
 | .sub=>.ok (.int k (wr k (a - b)))
 | .mul=>.ok (.int k (wr k (a*b)))
 | .quo=>bif decide (b=0) then .error "division by zero" else .ok (.int k (wr k (a.tdiv b)))
 | .rem=>bif decide (b=0) then .error "division by zero" else .ok (.int k (a.tmod b))
 | .and=>.ok (.int k (wr k ((BitVec.ofInt k.bits a &&& BitVec.ofInt k.bits b).toNat)))
 | .or=>.ok (.int k (wr k ((BitVec.ofInt k.bits a ||| BitVec.ofInt k.bits b).toNat)))
 | .xor=>.ok (.int k (wr k ((BitVec.ofInt k.bits a ^^^ BitVec.ofInt k.bits b).toNat)))
 | .andNot=>.ok (.int k (wr k ((BitVec.ofInt k.bits a &&& ~~~(BitVec.ofInt k.bits b)).toNat)))
 | .eql=>.ok (.bool (decide (a=b)))
 | .neq=>.ok (.bool (!decide (a=b)))
 | .lss=>.ok (.bool (decide (a<b)))
 | .leq=>.ok (.bool (decide (a≤b)))
 | .gtr=>.ok (.bool (decide (b<a)))
 | .geq=>.ok (.bool (decide (b≤a)))
 | _=>.error "binOp on ints"
def mW (op:BinOp) (k:IntKind) (a b:Int):R V:=
 bif decide (b<0) then .error "negative shift" else
 match op with
 | .shl=>.ok (.int k (wr k (a*2 ^ (min b.toNat k.bits))))
 | .shr=>.ok (.int k (a.fdiv (2 ^ (min b.toNat k.bits))))
 | _=>.error "shift"
def rJ (op:BinOp) (a b:List UInt8):R V:=
 match op with
 | .add=>bif Nat.blt (a.length+b.length) fZ then .ok (.str (a++b)) else .error "a text too long"
 | .eql=>.ok (.bool (jN a b))
 | .neq=>.ok (.bool (!jN a b))
 | .lss=>.ok (.bool (ltB a b))
 | .leq=>.ok (.bool (ltB a b||jN a b))
 | .gtr=>.ok (.bool (!(ltB a b||jN a b)))
 | .geq=>.ok (.bool (!ltB a b))
 | _=>.error "binOp on texts"
def kC (P:Program) (t:TypeId) (cs:List V) (off:Nat):R V:=
 match P.underlying t with
 | none=>.error "part: no such type"
 | some d=>
  bif aEm d then (bif Nat.ble (off+sz P t) cs.length then .ok (.agg ((cs.drop off).take (sz P t))) else .error "part") else
  match cs[off]? with
  | some v=>.ok v
  | none=>.error "part"
def kM (P:Program):Nat→TypeId→V→V→R Bool
 | 0,_,_,_=>.error "== too deep"
 | d+1,t,x,y=>
  match P.underlying t with
  | some (.int _)=>(match x,y with
   | .int j a,.int k b=>bif fN j k then .ok (decide (a=b)) else .error "== kinds"
   | _,_=>.error "==")
  | some .bool=>(match x,y with
   | .bool a,.bool b=>.ok (a == b)
   | _,_=>.error "==")
  | some .string=>(match x,y with
   | .str a,.str b=>.ok (jN a b)
   | _,_=>.error "==")
  | some (.pointer _)=>(match x,y with
   | .nilp,.nilp=>.ok true
   | .nilp,.ptr ..=>.ok false
   | .nilp,.iptr ..=>.ok false
   | .ptr ..,.nilp=>.ok false
   | .iptr ..,.nilp=>.ok false
   | _,_=>.error "== of pointers")
  | some (.slice _)=>(match x,y with
   | .nils,.nils=>.ok true
   | .nils,.sl ..=>.ok false
   | .sl ..,.nils=>.ok false
   | _,_=>.error "== of slices")
  | some (.interface _)=>(match x,y with
   | .nili,.nili=>.ok true
   | .nili,.iface ..=>.ok false
   | .iface ..,.nili=>.ok false
   | _,_=>.error "== of interfaces")
  | some (.struct fs)=>(match x,y with
   | .agg xs,.agg ys=>bif P.stoodInHeld t then .error "== stoodIn" else eqFs (kM P d) xs ys fs.toList
   | _,_=>.error "==")
  | _=>.error "== of what"
where
 eqFs (eq:TypeId→V→V→R Bool) (xs ys:List V):List Field→R Bool
  | []=>.ok true
  | f::fs=>
   bif f.name == "_" then .error "a blank field" else
   match kC P f.type xs f.offset with
   | .error e=>.error e
   | .ok a=>match kC P f.type ys f.offset with
    | .error e=>.error e
    | .ok b=>match eq f.type a b with
     | .error e=>.error e
     | .ok r=>bif r then eqFs eq xs ys fs else .ok false
def lI:Nat:=4294967296
def qT (m:Nat):IntKind:=bif Nat.beq (m % 2) 0 then .i64 else .u8
def aOj (m:Nat):Nat:=(m - lI) / 2
def rK (r:Nat):Int:=((r / lI:Nat):Int)
def rL (r:Nat):Int:=((r % lI:Nat):Int)
def vK (op:BinOp) (m r:Nat) (k:IntKind) (b:Int):R V:=
 bif Nat.ble lI m&&fN (qT m) k then
  (match op with
  | .eql=>bif decide (b<rK r)||decide (rL r<b) then .ok (.bool false) else .error "token"
  | .neq=>bif decide (b<rK r)||decide (rL r<b) then .ok (.bool true) else .error "token"
  | .lss=>bif decide (rL r<b) then .ok (.bool true) else bif decide (b≤rK r) then .ok (.bool false) else .error "token"
  | .leq=>bif decide (rL r≤b) then .ok (.bool true) else bif decide (b<rK r) then .ok (.bool false) else .error "token"
  | .gtr=>bif decide (b<rK r) then .ok (.bool true) else bif decide (rL r≤b) then .ok (.bool false) else .error "token"
  | .geq=>bif decide (b≤rK r) then .ok (.bool true) else bif decide (rL r<b) then .ok (.bool false) else .error "token"
  | _=>.error "token") else .error "res"
def kN:BinOp→BinOp
 | .lss=>.gtr
 | .leq=>.geq
 | .gtr=>.lss
 | .geq=>.leq
 | .eql=>.eql
 | .neq=>.neq
 | _=>.add
def aZ (P:Program) (op:BinOp) (t:TypeId) (x y:V):R V:=
 match x,y with
 | .int j a,.int k b=>match op with
  | .shl | .shr=>mW op j a b
  | _=>bif fN j k then eY op j a b else .error "kinds"
 | .str a,.str b=>rJ op a b
 | .res m r,y=>(match y with
  | .int k b=>vK op m r k b
  | _=>.error "res")
 | x,.res m r=>(match x with
  | .int k a=>vK (kN op) m r k a
  | _=>.error "res")
 | _,_=>match op with
  | .eql=>(match kM P 100 t x y with
   | .ok r=>.ok (.bool r)
   | .error e=>.error e)
  | .neq=>(match kM P 100 t x y with
   | .ok r=>.ok (.bool (!r))
   | .error e=>.error e)
  | _=>.error "binOp"
def aU (P:Program) (t:TypeId) (x y:V):Bool:=
 match x,y with
 | .nili,.nili=>false
 | .agg _,.agg _=>!P.eqGuardType P.depth t
 | _,_=>true
def aEn (P:Program) (op:BinOp) (t:TypeId) (x y:V):Bool:=
 match op with
 | .eql | .neq=>aU P t x y
 | _=>true
def isC:Operand→Bool
 | .const _=>true
 | _=>false
def zL (x y:Operand) (a b:V):Bool:=
 match b with
 | .nili=>(match a with
  | .nili=>isC x||isC y
  | _=>false)
 | _=>false
def aEo (P:Program) (t:TypeId):Bool:=match P.underlying t with
 | some (.interface _)=>true
 | _=>false
def cW (P:Program) (t:TypeId) (x y:Operand) (a b:V):Bool:=match aEo P t with
 | true=>aU P t a b||zL x y a b
 | false=>aU P t a b
def zM (P:Program) (op:BinOp) (t:TypeId) (x y:Operand) (a b:V):Bool:=
 match op with
 | .eql | .neq=>cW P t x y a b
 | _=>true
def aV (fr:Option Nat) (S:St) (b:Blk):R (Nat×St):=
 match fr with
 | none=>bif Nat.blt S.next (jM S.next) then .ok (S.next,⟨S.next+1,S.heap.put S.next b⟩) else .error "full"
 | some k=>bif Nat.blt k (jM k) then .ok (k,⟨S.next,S.heap.put k b⟩) else .error "full"
def bA (S:St) (a ver:Nat):R (Nat×List (List V)):=
 match S.heap.get a with
 | some (.row v es elems)=>bif Nat.beq v ver then .ok (es,elems) else .error "a stale view"
 | _=>.error "no such row"
def aP (l:List V):Bool:=l.all V.one
def splice (cs:List V) (j:Nat) (xs:List V):List V:=cs.take j++(xs++cs.drop (j+xs.length))
def gA (P:Program) (t:TypeId) (p:V) (S:St):R V:=
 match p with
 | .ptr a ver i j=>(match bA S a ver with
  | .error e=>.error e
  | .ok (_,elems)=>match elems[i]? with
   | some cs=>kC P t cs j
   | none=>.error "load")
 | .iptr cs j=>kC P t cs j
 | _=>.error "load: a pointer expected"
def iQ (P:Program) (t:TypeId) (p x:V) (S:St):R St:=
 match p,P.underlying t with
 | .ptr a ver i j,some _=>(match bA S a ver with
  | .error e=>.error e
  | .ok (es,elems)=>match elems[i]? with
   | some cs=>bif Nat.beq x.cells.length (sz P t)&&aP x.cells&&Nat.ble (j+x.cells.length) cs.length then
     .ok ⟨S.next,S.heap.put a (.row ver es (elems.set i (splice cs j x.cells)))⟩ else .error "store: the size"
   | none=>.error "store")
 | _,_=>.error "store: a pointer expected"
def mX (P:Program) (s:TypeId) (f:Nat):Option Field:=
 match P.underlying s with
 | some (.struct fs)=>fs[f]?
 | _=>none
def bX (P:Program) (s:TypeId) (p:V) (f:Nat):R V:=
 match mX P s f with
 | none=>.error "no such field"
 | some fd=>bif Nat.beq (sz P fd.type) 0 then .error "a field of no size" else
  match p with
  | .ptr a ver i j=>.ok (.ptr a ver i (j+fd.offset))
  | .iptr cs j=>.ok (.iptr cs (j+fd.offset))
  | _=>.error "fieldAddr"
def iZ (x:V) (n:Nat):Option Nat:=
 match x with
 | .int _ i=>bif decide (0≤i)&&decide (i<n) then some i.toNat else none
 | _=>none
def cL (P:Program) (t:TypeId) (x ix:V):R V:=
 match P.underlying t with
 | some (.array n elem)=>bif !(P.underlying elem).isSome then .error "indexAddr" else (match iZ ix n with
  | none=>.error "index"
  | some k=>match x with
   | .ptr a ver i j=>.ok (.ptr a ver i (j+k*sz P elem))
   | .iptr cs j=>.ok (.iptr cs (j+k*sz P elem))
   | _=>.error "indexAddr")
 | some (.slice elem)=>bif !(P.underlying elem).isSome then .error "indexAddr" else (match x with
  | .sl a ver es off len=>(match iZ ix len with
   | some k=>bif Nat.beq es (sz P elem) then .ok (.ptr a ver (off+k) 0) else .error "indexAddr: the size"
   | none=>.error "index out of range")
  | .imm es=>(match iZ ix es.length with
   | some k=>match es[k]? with
    | some cs=>bif Nat.beq cs.length (sz P elem) then .ok (.iptr cs 0) else .error "indexAddr: the size"
    | none=>.error "index"
   | none=>.error "index out of range")
  | _=>.error "indexAddr")
 | _=>.error "indexAddr"
def rM (P:Program) (t:TypeId) (x ix:V):R V:=
 match P.underlying t with
 | some (.array n elem)=>bif !(P.underlying elem).isSome then .error "index" else (match x with
  | .agg cs=>(match iZ ix n with
   | some k=>kC P elem cs (k*sz P elem)
   | none=>.error "index out of range")
  | _=>.error "index")
 | some .string=>(match x with
  | .str s=>(match iZ ix s.length with
   | some k=>match s[k]? with
    | some b=>.ok (.int .u8 b.toNat)
    | none=>.error "index"
   | none=>.error "index out of range")
  | _=>.error "index")
 | _=>.error "index"
def rN (P:Program) (t:TypeId) (x:V) (f:Nat):R V:=
 match mX P t f with
 | none=>.error "no such field"
 | some fd=>match x with
  | .agg cs=>kC P fd.type cs fd.offset
  | _=>.error "field"
def fU (n:Nat) (l:List (List V)):Bool:=l.all fun cs=>Nat.beq cs.length n
def eA (len:Nat) (lo hi:Option V):R (Nat×Nat):=
 match (match hi with
  | none=>some len
  | some (.int _ h)=>bif decide (0≤h)&&decide (h≤len) then some h.toNat else none
  | _=>none) with
 | none=>.error "slice bounds"
 | some h=>match lo with
  | none=>.ok (0,h)
  | some (.int _ l)=>bif decide (0≤l)&&decide (l≤h) then .ok (l.toNat,h) else .error "slice bounds"
  | _=>.error "slice bounds"
def eK (P:Program) (t:TypeId) (x:V) (lo hi:Option V):R V:=
 match P.underlying t with
 | some .string=>(match x with
  | .str s=>(match eA s.length lo hi with
   | .ok (l,h)=>.ok (.str ((s.take h).drop l))
   | .error e=>.error e)
  | _=>.error "slice")
 | some (.slice elem)=>bif !(P.underlying elem).isSome then .error "slice" else (match x with
  | .sl a ver es off len=>(match eA len lo hi with
   | .ok (l,h)=>bif Nat.beq es (sz P elem) then .ok (.sl a ver es (off+l) (h - l)) else .error "slice: the size"
   | .error e=>.error e)
  | .imm es=>(match eA es.length lo hi with
   | .ok (l,h)=>bif fU (sz P elem) es then .ok (.imm ((es.take h).drop l)) else .error "slice: the size"
   | .error e=>.error e)
  | .nils=>(match eA 0 lo hi with
   | .ok _=>.ok .nils
   | .error e=>.error e)
  | _=>.error "slice")
 | _=>.error "slice"
def aN (S:St) (x:V):R (List (List V)):=
 match x with
 | .nils=>.ok []
 | .sl a ver _ off len=>(match bA S a ver with
  | .error e=>.error e
  | .ok (_,elems)=>bif Nat.ble (off+len) elems.length then .ok ((elems.drop off).take len) else .error "a view too long")
 | .imm es=>.ok es
 | .str s=>.ok (s.map fun b=>[.int .u8 b.toNat])
 | _=>.error "elements"
def sY (P:Program) (elem:TypeId) (n:Nat):Bool:=Nat.ble (n*P.bytesOf elem) 35184372088832&&Nat.blt n fZ
def gB (P:Program) (t:TypeId):Option TypeId:=
 match P.underlying t with
 | some (.slice e)=>some e
 | _=>none
def hM (P:Program) (e:TypeId):Bool:=
 match aF P e with
 | some z=>Nat.beq z.cells.length (sz P e)
 | none=>false
def cX (P:Program) (t:TypeId) (s x:V) (fr:Option Nat) (S:St):R (V×St):=
 match gB P t with
 | none=>.error "append"
 | some e=>match aN S x with
  | .error e=>.error e
  | .ok xs=>bif !(fU (sz P e) xs&&xs.all aP&&hM P e) then .error "append: sizes" else
   match s with
   | .nils=>(match xs with
    | []=>.ok (.nils,S)
    | _=>bif sY P e xs.length then (match aV fr S (.row 0 (sz P e) xs) with
     | .error e=>.error e
     | .ok (a,S')=>.ok (.sl a 0 (sz P e) 0 xs.length,S')) else .error "append: room")
   | .sl a ver _ off len=>(match bA S a ver with
    | .error e=>.error e
    | .ok (es,elems)=>
     bif Nat.ble (off+len) elems.length&&Nat.beq es (sz P e)&&sY P e (len+xs.length) then
      .ok (.sl a (ver+1) es 0 (len+xs.length),⟨S.next,S.heap.put a (.row (ver+1) es ((elems.drop off).take len++xs))⟩)
     else .error "append: room")
   | _=>.error "append"
def qU (P:Program) (T:TypeId) (s i x:V) (S:St):R (V×St):=
 match gB P T,i,x with
 | some e,.int .i64 i,.sl b bv bes boff blen=>(match aN S x with
  | .error w=>.error w
  | .ok xs=>bif Nat.ble (sz P e) 1||Nat.beq blen 0 then .error "insert" else
   match s with
   | .nils=>bif decide (i=0) then cX P T .nils (.sl b bv bes boff blen) none S else .error "insert"
   | .sl a ver es0 off len=>bif decide (i=(len:Int)) then cX P T (.sl a ver es0 off len) (.sl b bv bes boff blen) none S else
    bif Nat.beq a b||decide (i<0)||decide ((len:Int)<i)||!(fU (sz P e) xs&&xs.all aP&&hM P e) then .error "insert" else
    (match bA S a ver with
    | .error w=>.error w
    | .ok (es,elems)=>
     bif Nat.ble (off+len) elems.length&&Nat.beq es (sz P e)&&sY P e (len+xs.length)&&((elems.drop off).take len).all aP then
      .ok (.sl a (ver+1) es 0 (len+xs.length),⟨S.next,S.heap.put a (.row (ver+1) es (((elems.drop off).take len).take i.toNat++(xs++((elems.drop off).take len).drop i.toNat)))⟩)
     else .error "insert: room")
   | _=>.error "insert")
 | _,_,_=>.error "insert"
def iH (l:List (List V)) (a:Nat) (mid:List (List V)):List (List V):=l.take a++(mid++l.drop (a+mid.length))
def qV (P:Program) (e:TypeId):Option (List V):=
 match aF P e with
 | some z=>bif Nat.beq z.cells.length (sz P e)&&aP z.cells then some z.cells else none
 | none=>none
def rO (P:Program) (T:TypeId) (x:V) (S:St):R (V×St):=
 match gB P T,x with
 | some _,.nils=>.ok (.tup [],S)
 | some e,.sl a ver _ off len=>bif Nat.beq len 0 then .ok (.tup [],S) else
  (match qV P e,bA S a ver with
  | some z,.ok (es,elems)=>bif Nat.beq es (sz P e)&&Nat.ble (off+len) elems.length then
    .ok (.tup [],⟨S.next,S.heap.put a (.row ver es (iH elems off (List.replicate len z)))⟩) else .error "clear"
  | _,_=>.error "clear")
 | _,_=>.error "clear"
def xC (P:Program) (T:TypeId) (d x:V) (S:St):R (V×St):=
 match gB P T,d with
 | some e,.sl a ver _ off len=>(match aN S x,bA S a ver with
  | .ok xs,.ok (es,elems)=>bif Nat.beq es (sz P e)&&Nat.ble (off+len) elems.length&&Nat.ble xs.length len&&fU (sz P e) xs&&xs.all aP&&Nat.blt 0 len&&Nat.blt 0 (sz P e) then
    .ok (.int .i64 xs.length,⟨S.next,S.heap.put a (.row ver es (iH elems off xs))⟩) else .error "copy"
  | _,_=>.error "copy")
 | _,_=>.error "copy"
def qW (P:Program) (T:TypeId) (s i j:V) (S:St):R (V×St):=
 match gB P T,s,i,j with
 | some e,.sl a ver es0 off len,.int .i64 i,.int .i64 j=>
  bif decide (i<0)||decide (j<i)||decide ((len:Int)<j)||!(Nat.blt len fZ)||Nat.beq len 0 then .error "delete" else
  bif decide (i=j) then (match bA S a ver with
   | .ok _=>.ok (.sl a ver es0 off len,S)
   | .error w=>.error w) else
  (match qV P e,bA S a ver with
  | some z,.ok (es,elems)=>bif Nat.beq es (sz P e)&&Nat.ble (off+len) elems.length&&((elems.drop off).take len).all aP then
    .ok (.sl a ver es0 off (len - (j.toNat - i.toNat)),⟨S.next,S.heap.put a (.row ver es (iH elems (off+i.toNat) (((elems.drop off).take len).drop j.toNat++List.replicate (j.toNat - i.toNat) z)))⟩) else .error "delete: the row"
  | _,_=>.error "delete")
 | _,_,_,_=>.error "delete"
def kO (place:Nat→Option (Nat×Nat)) (cells:List V):List (Nat×V)→R (List V)
 | []=>.ok cells
 | (i,v)::rest=>match place i with
  | none=>.error "fill"
  | some (off,size)=>bif Nat.beq v.cells.length size&&Nat.ble (off+v.cells.length) cells.length&&aP v.cells then kO place (splice cells off v.cells) rest else .error "fill"
def iR (P:Program) (t:TypeId) (parts:List (Nat×V)):R V:=
 match aF P t with
 | none=>.error "build: no zero"
 | some z=>match P.underlying t with
  | some (.struct fs)=>bif !(fs.toList.all fun f=>(P.underlying f.type).isSome) then .error "build: a field" else (match kO (fun i=>(fs[i]?).map fun f=>(f.offset,sz P f.type)) z.cells parts with
   | .ok cs=>.ok (.agg cs)
   | .error e=>.error e)
  | some (.array _ elem)=>bif !(P.underlying elem).isSome then .error "build: the element" else (match kO (fun i=>some (i*sz P elem,sz P elem)) z.cells parts with
   | .ok cs=>.ok (.agg cs)
   | .error e=>.error e)
  | _=>.error "build"
def qI (es:Nat) (elems:List (List V)):List (Nat×V)→R (List (List V))
 | []=>.ok elems
 | (i,v)::rest=>bif Nat.beq v.cells.length es&&Nat.blt i elems.length&&aP v.cells then qI es (elems.set i v.cells) rest else .error "buildSlice"
def bM (P:Program) (t:TypeId) (len:Nat) (parts:List (Nat×V)) (fr:Option Nat) (S:St):R (V×St):=
 match gB P t with
 | none=>.error "buildSlice"
 | some e=>match aF P e with
  | none=>.error "buildSlice: no zero"
  | some z=>bif Nat.beq z.cells.length (sz P e)&&Nat.ble (len*sz P e) 16777216 then
   (match qI (sz P e) (List.replicate len z.cells) parts with
   | .error e=>.error e
   | .ok elems=>match aV fr S (.row 0 (sz P e) elems) with
    | .error e=>.error e
    | .ok (a,S')=>.ok (.sl a 0 (sz P e) 0 len,S')) else .error "buildSlice: the size"
def dG (P:Program) (t:TypeId) (l c:V) (fr:Option Nat) (S:St):R (V×St):=
 match gB P t,l,c with
 | some e,.int _ l,.int _ c=>(match aF P e with
  | none=>.error "makeSlice: no zero"
  | some z=>bif Nat.beq z.cells.length (sz P e)&&decide (0≤l)&&decide (l≤c)&&decide (c<2147483648)&&sY P e c.toNat then
   (match aV fr S (.row 0 (sz P e) (List.replicate l.toNat z.cells)) with
   | .error e=>.error e
   | .ok (a,S')=>.ok (.sl a 0 (sz P e) 0 l.toNat,S')) else .error "makeSlice: the size")
 | _,_,_=>.error "makeSlice"
def bU:List (List V)→Option (List UInt8)
 | []=>some []
 | [.int .u8 n]::r=>match bU r with
  | some l=>some (UInt8.ofNat n.toNat::l)
  | none=>none
 | _=>none
def bP (P:Program) (src dst:TypeId) (x:V) (fr:Option Nat) (S:St):R (V×St):=
 match P.underlying src,P.underlying dst with
 | some _,some (.int k)=>(match x with
  | .int _ n=>.ok (.int k (wr k n),S)
  | _=>.error "convert")
 | some u,some .string=>(match x with
  | .str s=>.ok (.str s,S)
  | _=>match u with
   | .slice e=>(match P.underlying e with
    | some (.int .u8)=>(match x with
     | .nils | .sl .. | .imm _=>(match aN S x with
      | .error e=>.error e
      | .ok l=>match bU l with
       | some b=>.ok (.str b,S)
       | none=>.error "convert: bytes")
     | _=>.error "convert")
    | _=>.error "convert")
   | _=>.error "convert")
 | some _,some (.slice e)=>(match P.underlying e,x with
  | some (.int .u8),.str s=>bif Nat.blt s.length fZ&&Nat.beq (sz P e) 1 then
   (match aV fr S (.row 0 1 (s.map fun b=>[.int .u8 b.toNat])) with
   | .error e=>.error e
   | .ok (a,S')=>.ok (.sl a 0 1 0 s.length,S')) else .error "convert"
  | _,_=>.error "convert")
 | _,_=>.error "convert"
def oO (P:Program) (t:TypeId) (x:V) (S:St):R V:=
 match P.underlying t with
 | some .string=>(match x with
  | .str s=>.ok (.int .i64 s.length)
  | _=>.error "len")
 | some (.array n _)=>.ok (.int .i64 n)
 | some (.slice _)=>(match x with
  | .nils=>.ok (.int .i64 0)
  | .sl _ _ _ _ len=>.ok (.int .i64 len)
  | .imm es=>.ok (.int .i64 es.length)
  | _=>.error "len")
 | some (.map _ _)=>(match x with
  | .nilm=>.ok (.int .i64 0)
  | .mp a=>(match S.heap.get a with
   | some (.mp kvs)=>.ok (.int .i64 kvs.length)
   | _=>.error "len")
  | _=>.error "len")
 | _=>.error "len"
def tV (s:List UInt8):List (V×V)→Nat→Option (Option (Nat×V))
 | [],_=>some none
 | (.str t,v)::l,i=>bif jN s t then some (some (i,v)) else tV s l (i+1)
 | _::_,_=>none
def aIi (P:Program) (t:TypeId):Option TypeId:=
 match P.underlying t with
 | some (.map k e)=>(match P.underlying k with
  | some .string=>some e
  | _=>none)
 | _=>none
def tW (S:St) (m:V):R (List (V×V)):=
 match m with
 | .nilm=>.ok []
 | .mp a=>(match S.heap.get a with
  | some (.mp kvs)=>.ok kvs
  | _=>.error "a map")
 | _=>.error "a map"
def okV (ok b:Bool) (v:V):V:=bif ok then .tup [v,.bool b] else v
def mY (P:Program) (t:TypeId) (m k:V) (ok:Bool) (S:St):R V:=
 match aIi P t,k with
 | some e,.str s=>(match tW S m with
  | .error w=>.error w
  | .ok kvs=>match tV s kvs 0 with
   | some (some (_,v))=>.ok (okV ok true v)
   | some none=>(match aF P e with
    | some z=>.ok (okV ok false z)
    | none=>.error "lookup: no zero")
   | none=>.error "lookup")
 | _,_=>.error "lookup"
def hP (P:Program) (t:TypeId) (m k v:V) (S:St):R St:=
 match aIi P t,k,m with
 | some _,.str s,.mp a=>(match S.heap.get a with
  | some (.mp kvs)=>(match tV s kvs 0 with
   | some (some (i,_))=>.ok ⟨S.next,S.heap.put a (.mp (kvs.set i (.str s,v)))⟩
   | some none=>.ok ⟨S.next,S.heap.put a (.mp (kvs++[(.str s,v)]))⟩
   | none=>.error "mapUpdate")
  | _=>.error "mapUpdate")
 | _,_,_=>.error "mapUpdate"
def aEp:List V→R V
 | [.int j a,.int k b]=>bif fN j k then .ok (.int j (if b<a then b else a)) else .error "min"
 | _=>.error "min"
def aEq:List V→R V
 | [.int j a,.int k b]=>bif fN j k then .ok (.int j (if a<b then b else a)) else .error "max"
 | _=>.error "max"
def unV (op:UnOp) (x:V):R V:=
 match op,x with
 | .not,.bool b=>.ok (.bool !b)
 | .neg,.int k n=>.ok (.int k (wr k (0 - n)))
 | .xor,.int k n=>.ok (.int k (wr k ((BitVec.ofInt k.bits (if k.signed then -1 else k.max) ^^^ BitVec.ofInt k.bits n).toNat)))
 | _,_=>.error "unOp"
def gC (P:Program) (x:V) (t:TypeId) (ok:Bool):R V:=
 let fails:R V:=bif ok then (match aF P t with
  | some z=>.ok (.tup [z,.bool false])
  | none=>.error "typeAssert") else .error "typeAssert"
 match P.underlying t with
 | none=>.error "typeAssert"
 | some (.interface _)=>.error "typeAssert to an interface"
 | some _=>match x with
  | .iface u v=>bif Nat.beq u t then .ok (bif ok then .tup [v,.bool true] else v) else fails
  | .nili=>fails
  | _=>.error "typeAssert"
def mZ (fn:Func) (args:List V):R V:=
 bif fn.name == "math/bits.Add64"&&fn.origin == "" then (match args with
  | [.int _ a,.int _ b,.int _ c]=>bif decide (0≤a)&&decide (0≤b)&&decide (0≤c)&&decide (c≤1) then .ok (.tup [.int .u64 ((a+b+c) % 18446744073709551616),.int .u64 ((a+b+c) / 18446744073709551616)]) else .error "Add64"
  | _=>.error "Add64") else .error "a function without a text"
def dQ (P:Program) (t:TypeId) (name:String):Option FuncId:=
 match P.info? t with
 | none=>none
 | some i=>match i.methods.find? (·.name == name) with
  | none=>none
  | some m=>match m.func,m.path.toList,P.underlying t with
   | some (g,false),[],some (.struct _)=>some g
   | _,_,_=>none
inductive Out where
 | val (v:V) (S:St)
 | skip (S:St)
 | call (f:FuncId) (args:List V)
def ev (e:aJ):Operand→Option V
 | .tmp t=>e.get t
 | .const v=>ofValue v
 | .func f=>some (.func f [] [])
 | .global _=>none
def jA (ρ:Operand→Option V):List Operand→Option (List V)
 | []=>some []
 | x::r=>match ρ x with
  | some v=>match jA ρ r with
   | some vs=>some (v::vs)
   | none=>none
  | none=>none
def hU (ρ:Operand→Option V):List (Nat×Operand)→Option (List (Nat×V))
 | []=>some []
 | (i,x)::r=>match ρ x with
  | some v=>match hU ρ r with
   | some vs=>some ((i,v)::vs)
   | none=>none
  | none=>none
def tX (ρ:Operand→Option V):Option Operand→Option (Option V)
 | none=>some none
 | some x=>match ρ x with
  | some v=>some (some v)
  | none=>none
def bN (S:St):R V→R Out
 | .ok v=>.ok (.val v S)
 | .error e=>.error e
def bZ:R (V×St)→R Out
 | .ok (v,S)=>.ok (.val v S)
 | .error e=>.error e
def cD (P:Program) (b:Builtin) (ts:Array TypeId) (args:List V) (fr:Option Nat) (S:St):R Out:=
 match b,args with
 | .len,[x]=>(match ts[0]? with
  | some t=>bN S (oO P t x S)
  | none=>.error "len")
 | .min,args=>bN S (aEp args)
 | .max,args=>bN S (aEq args)
 | .append,[s,x]=>(match ts[0]?,ts[1]? with
  | some t,some u=>(match P.underlying u with
   | some (.slice _)=>bZ (cX P t s x fr S)
   | some .string=>bZ (cX P t s x fr S)
   | _=>.error "append")
  | _,_=>.error "append")
 | .clear,[x]=>(match ts[0]? with
  | some t=>bZ (rO P t x S)
  | none=>.error "clear")
 | .copy,[d,x]=>(match ts[0]? with
  | some t=>bZ (xC P t d x S)
  | none=>.error "copy")
 | _,_=>.error "builtin"
def mC (P:Program) (S:St) (g:FuncId) (args:List V):R Out:=
 match P.funcs[g]? with
 | none=>.error "no such function"
 | some fn=>match fn.body with
  | some _=>.ok (.call g args)
  | none=>bN S (mZ fn args)
def aI (P:Program) (ρ:Operand→Option V) (o:Oper) (fr:Option Nat) (S:St):R Out:=
 match o.op with
 | .move x | .assign x=>(match ρ x with
  | some v=>.ok (.val v S)
  | none=>.error "operand")
 | .pick c a b=>(match ρ c with
  | some (.bool true)=>(match ρ a with
   | some v=>.ok (.val v S)
   | none=>.error "operand")
  | some (.bool false)=>(match ρ b with
   | some v=>.ok (.val v S)
   | none=>.error "operand")
  | _=>.error "pick")
 | .alloc t=>(match aF P t with
  | none=>.error "alloc: no zero"
  | some z=>match aV fr S (.row 0 z.cells.length [z.cells]) with
   | .ok (a,S')=>.ok (.val (.ptr a 0 0 0) S')
   | .error e=>.error e)
 | .box _ x=>(match ρ x with
  | some v=>bif aP v.cells then (match aV fr S (.row 0 v.cells.length [v.cells]) with
   | .ok (a,S')=>.ok (.val (.ptr a 0 0 0) S')
   | .error e=>.error e) else .error "box"
  | none=>.error "operand")
 | .build t ps=>(match hU ρ ps.toList with
  | some vs=>bN S (iR P t vs)
  | none=>.error "operand")
 | .buildSlice t n ps=>(match hU ρ ps.toList with
  | some vs=>bZ (bM P t n vs fr S)
  | none=>.error "operand")
 | .load t a=>(match ρ a with
  | some p=>bN S (gA P t p S)
  | none=>.error "operand")
 | .store t a x=>(match ρ a,ρ x with
  | some p,some v=>(match iQ P t p v S with
   | .ok S'=>.ok (.skip S')
   | .error e=>.error e)
  | _,_=>.error "operand")
 | .nilCheck x=>(match ρ x with
  | some (.ptr a ver i j)=>.ok (.val (.ptr a ver i j) S)
  | some (.iptr cs j)=>.ok (.val (.iptr cs j) S)
  | _=>.error "nilCheck")
 | .binOp op t x y _=>(match ρ x,ρ y with
  | some a,some b=>bif zM P op t x y a b then bN S (aZ P op t a b) else .error "guard"
  | _,_=>.error "operand")
 | .unOp op _ x=>(match ρ x with
  | some v=>bN S (unV op v)
  | none=>.error "operand")
 | .convert s d x=>(match ρ x with
  | some v=>bZ (bP P s d v fr S)
  | none=>.error "operand")
 | .makeSlice t l c=>(match ρ l,ρ c with
  | some l,some c=>bZ (dG P t l c fr S)
  | _,_=>.error "operand")
 | .slice t x lo hi mx=>(match mx,ρ x,tX ρ lo,tX ρ hi with
  | none,some v,some l,some h=>bN S (eK P t v l h)
  | _,_,_,_=>.error "slice")
 | .fieldAddr s x f=>(match ρ x with
  | some p=>bN S (bX P s p f)
  | none=>.error "operand")
 | .field t x f=>(match ρ x with
  | some v=>bN S (rN P t v f)
  | none=>.error "operand")
 | .indexAddr t x i=>(match ρ x,ρ i with
  | some v,some k=>bN S (cL P t v k)
  | _,_=>.error "operand")
 | .index t x i=>(match ρ x,ρ i with
  | some v,some k=>bN S (rM P t v k)
  | _,_=>.error "operand")
 | .range t x=>(match ρ x,P.underlying t with
  | some (.str s),some .string=>(match aV fr S (.iter s 0) with
   | .ok (a,S')=>.ok (.val (.ptr a 0 0 0) S')
   | .error e=>.error e)
  | _,_=>.error "range")
 | .next it isS=>(match ρ it with
  | some (.ptr a 0 0 0)=>bif isS then (match S.heap.get a with
   | some (.iter s pos)=>bif Nat.blt pos s.length then
     (match s[pos]? with
     | some b=>bif Nat.blt b.toNat 128 then .ok (.val (.tup [.bool true,.int .i64 pos,.int .i32 b.toNat]) ⟨S.next,S.heap.put a (.iter s (pos+1))⟩) else
      .ok (.val (.tup [.bool true,.int .i64 pos,.int .i32 (Utf8.decode ⟨⟨s⟩⟩ pos).1]) ⟨S.next,S.heap.put a (.iter s (pos+(Utf8.decode ⟨⟨s⟩⟩ pos).2))⟩)
     | none=>.error "next") else .ok (.val (.tup [.bool false]) S)
   | _=>.error "next") else .error "next"
  | _=>.error "next")
 | .makeMap _ none=>(match aV fr S (.mp []) with
  | .ok (a,S')=>.ok (.val (.mp a) S')
  | .error e=>.error e)
 | .lookup t m k ok=>(match ρ m,ρ k with
  | some m,some k=>bN S (mY P t m k ok S)
  | _,_=>.error "operand")
 | .mapUpdate t m k v=>(match ρ m,ρ k,ρ v with
  | some m,some k,some v=>(match hP P t m k v S with
   | .ok S'=>.ok (.skip S')
   | .error e=>.error e)
  | _,_,_=>.error "operand")
 | .makeFunc fn first captured=>(match fn,jA ρ first.toList,jA ρ captured.toList with
  | .func f,some a,some b=>.ok (.val (.func f a b) S)
  | _,_,_=>.error "operand")
 | .makeInterface t x=>(match ρ x,P.underlying t with
  | some _,some (.interface _)=>.error "makeInterface"
  | some v,some _=>.ok (.val (.iface t v) S)
  | _,_=>.error "operand")
 | .typeAssert x _ t ok=>(match ρ x with
  | some v=>bN S (gC P v t ok)
  | none=>.error "operand")
 | .extract t i=>(match ρ t with
  | some (.tup vs)=>(match vs[i]? with
   | some v=>.ok (.val v S)
   | none=>.error "extract")
  | _=>.error "extract")
 | .call c=>(match c.callee with
  | .value f=>(match ρ f,jA ρ c.args.toList with
   | some (.func g first captured),some args=>mC P S g (first++args++captured)
   | _,_=>.error "call")
  | .builtin b=>(match jA ρ c.args.toList with
   | some args=>cD P b c.argTypes args fr S
   | none=>.error "operand")
  | .invoke r name=>(match ρ r,jA ρ c.args.toList with
   | some (.iface t v),some args=>(match dQ P t name with
    | some g=>mC P S g (v::args)
    | none=>.error "invoke")
   | _,_=>.error "invoke"))
 | _=>.error "an operation that is not known"
def cR (n:Nat) (e:aJ) (d:Option Tmp) (v:V):R aJ:=
 match d with
 | none=>.ok e
 | some d=>bif Nat.blt d n then .ok (e.put d v) else .error "slot"
def wanted (ops:Array Oper) (o:Oper) (e:aJ):R Bool:=
 match o.guard with
 | none=>.ok true
 | some (j,want)=>match ops[j]? with
  | none=>.ok false
  | some oj=>match oj.dst with
   | none=>.ok false
   | some d=>match e.get d with
    | some (.bool b)=>.ok (b == want)
    | some _=>.ok false
    | none=>.error "guard"
abbrev Call:=FuncId→List V→St→R (V×St)
def cM (P:Program) (call:Call) (n:Nat) (ops:Array Oper) (o:Oper) (fr:Option Nat) (e:aJ) (S:St):R (aJ×St):=
 match wanted ops o e with
 | .error w=>.error w
 | .ok false=>(match cR n e o.dst (.tup []) with
  | .ok e'=>.ok (e',S)
  | .error w=>.error w)
 | .ok true=>match aI P (ev e) o fr S with
  | .error w=>.error w
  | .ok (.val v S')=>(match cR n e o.dst v with
   | .ok e'=>.ok (e',S')
   | .error w=>.error w)
  | .ok (.skip S')=>(match cR n e o.dst (.tup []) with
   | .ok e'=>.ok (e',S')
   | .error w=>.error w)
  | .ok (.call f args)=>match call f args S with
   | .error w=>.error w
   | .ok (v,S')=>match cR n e o.dst v with
    | .ok e'=>.ok (e',S')
    | .error w=>.error w
def jO (P:Program) (call:Call) (n:Nat) (ops:Array Oper):List Oper→aJ→St→R (aJ×St)
 | [],e,S=>.ok (e,S)
 | o::l,e,S=>match cM P call n ops o none e S with
  | .ok (e',S')=>jO P call n ops l e' S'
  | .error w=>.error w
def cA (P:Program):Op→Nat
 | .move _ | .assign _ | .pick .. | .build .. | .nilCheck _ | .binOp .. | .unOp .. | .slice .. | .fieldAddr .. | .field .. | .indexAddr .. | .index .. | .extract ..=>0
 | .load ..=>1
 | .alloc _ | .box .. | .buildSlice .. | .makeSlice ..=>2
 | .convert _ d _=>(match P.underlying d with
  | some (.int _)=>0
  | some .string=>1
  | _=>2)
 | .call c=>(match c.callee with
  | .builtin .len=>1
  | .builtin .min=>0
  | .builtin .max=>0
  | _=>3)
 | _=>3
abbrev bB:=Nat×List Nat
mutual
def dC:V→V→Bool
 | .bool a,.bool b=>a == b
 | .int j a,.int k b=>fN j k&&decide (a=b)
 | .str a,.str b=>jN a b
 | .nilp,.nilp=>true
 | .ptr a b c d,.ptr a' b' c' d'=>Nat.beq a a'&&Nat.beq b b'&&Nat.beq c c'&&Nat.beq d d'
 | .iptr a b,.iptr a' b'=>beqVs a a'&&Nat.beq b b'
 | .nils,.nils=>true
 | .sl a b c d f,.sl a' b' c' d' f'=>Nat.beq a a'&&Nat.beq b b'&&Nat.beq c c'&&Nat.beq d d'&&Nat.beq f f'
 | .imm a,.imm b=>beqVss a b
 | .agg a,.agg b=>beqVs a b
 | .tup a,.tup b=>beqVs a b
 | .nili,.nili=>true
 | .iface t a,.iface u b=>Nat.beq t u&&dC a b
 | .nilf,.nilf=>true
 | .func f a b,.func g c d=>Nat.beq f g&&beqVs a c&&beqVs b d
 | .nilm,.nilm=>true
 | .mp a,.mp b=>Nat.beq a b
 | .res a b,.res c d=>Nat.beq a c&&Nat.beq b d
 | _,_=>false
def beqVs:List V→List V→Bool
 | [],[]=>true
 | a::x,b::y=>dC a b&&beqVs x y
 | _,_=>false
def beqVss:List (List V)→List (List V)→Bool
 | [],[]=>true
 | a::x,b::y=>beqVs a b&&beqVss x y
 | _,_=>false
end
abbrev kL:=Nat×aJ×V
def iI (i:Nat):List kL→Option (aJ×V)
 | []=>none
 | (j,x)::l=>bif Nat.beq i j then some x else iI i l
def bF (P:Program) (ops:Array Oper) (recs:List kL) (S:St):List Nat→Bool
 | []=>true
 | i::l=>(match iI i recs with
  | none=>true
  | some (e,v)=>match ops[i]? with
   | none=>false
   | some o=>match aI P (ev e) o none S with
    | .ok (.val v' _)=>dC v v'
    | _=>false)&&bF P ops recs S l
def rP:R Bool→Bool
 | .ok b=>b
 | .error _=>false
def jP (P:Program) (call:Call) (n:Nat) (ops:Array Oper) (base:Nat):List bB→List kL→aJ→St→R (aJ×St)
 | [],_,e,S=>.ok (e,S)
 | (i,re)::l,recs,e,S=>match ops[i]? with
  | none=>.error "no such operation"
  | some o=>match cM P call n ops o (some (base+i)) e S with
   | .error w=>.error w
   | .ok (e',S')=>
    bif bF P ops recs S' re then
     jP P call n ops base l (bif Nat.beq (cA P o.op) 1&&rP (wanted ops o e) then
      (match o.dst with
      | none=>recs
      | some d=>match e'.get d with
       | some v=>(i,e,v)::recs
       | none=>recs) else recs) e' S'
    else .error "a reader is told otherwise in another order"
def aIj (P:Program) (call:Call) (n:Nat) (ops:Array Oper) (steps:List bB) (e:aJ) (S:St):R (aJ×St):=
 jP P call n ops S.next steps [] e ⟨S.next+ops.size,S.heap⟩
def oP (m i:Nat):Bool:=m.testBit i
def rQ (ops : Array Oper) (x y : Oper) : Bool :=
  (match x.dst with
   | some d => !(y.looksAt ops).contains d && y.dst != some d
   | none => true) &&
  (match y.dst with
   | some d => !(x.looksAt ops).contains d
   | none => true)
def vL (P:Program) (ops:Array Oper) (b:Array Nat) (done:List Nat) (i:Nat) (re:List Nat):Bool:=
 match ops[i]? with
 | none=>false
 | some o=>
  let bi:=b.getD i 0
  let ci:=cA P o.op
  !done.contains i &&
  (Nat.beq ci 1 == false||o.dst.isSome) &&
  (o.after.toList.all fun e=>!Region.binds .any e||done.contains e.on) &&
  ((List.range ops.size).all fun j=>!oP bi j||(done.contains j&&o.after.toList.any fun e=>Region.binds .any e&&(e.on == j||oP (b.getD e.on 0) j))) &&
  (done.all fun j=>oP bi j||(match ops[j]? with
   | none=>false
   | some p=>
    rQ ops o p &&
    (match cA P p.op,ci with
    | 3,3=>false
    | 2,3=>false
    | 3,1=>false
    | 2,1=>false
    | 1,3=>re.contains j
    | _,_=>true)))
def lJ (P:Program) (ops:Array Oper) (b:Array Nat):List Nat→List bB→Bool
 | _,[]=>true
 | done,(i,re)::l=>vL P ops b done i re&&lJ P ops b (i::done) l
def zN (P:Program) (ops:Array Oper) (steps:List bB):Bool:=
 ((List.range ops.size).all fun j=>steps.any fun s=>Nat.beq s.1 j)&&lJ P ops (Region.before ops) [] steps
inductive Ex where
 | normal
 | exit (id:Nat)
 | ret
abbrev Run:=R (Ex×aJ×St)
def iter (body:aJ→St→Run):Nat→aJ→St→Run
 | 0,_,_=>.error "fuel"
 | k+1,e,S=>match body e S with
  | .ok (.normal,e',S')=>iter body k e' S'
  | r=>r
def xD:Nat→List bB
 | 0=>[]
 | n+1=>xD n++[(n,[])]
def rA (p:Option (List bB)) (n:Nat):List bB:=
 match p with
 | some s=>s
 | none=>xD n
def cK (P:Program) (pl:Nat→Option (List bB)) (call:Call) (k n:Nat):Code→aJ→St→Run
 | .skip,e,S=>.ok (.normal,e,S)
 | .label _,e,S=>.ok (.normal,e,S)
 | .exit id,e,S=>.ok (.exit id,e,S)
 | .ret,e,S=>.ok (.ret,e,S)
 | .region id ops d,e,S=>match (bif d then aIj P call n ops (rA (pl id) ops.size) e S else jO P call n ops ops.toList e S) with
  | .ok (e',S')=>.ok (.normal,e',S')
  | .error w=>.error w
 | .seq a b,e,S=>match cK P pl call k n a e S with
  | .ok (.normal,e',S')=>cK P pl call k n b e' S'
  | r=>r
 | .cond c a b,e,S=>match ev e c with
  | some (.bool true)=>cK P pl call k n a e S
  | some (.bool false)=>cK P pl call k n b e S
  | _=>.error "cond"
 | .block id a,e,S=>match cK P pl call k n a e S with
  | .ok (.exit id',e',S')=>bif Nat.beq id' id then .ok (.normal,e',S') else .ok (.exit id',e',S')
  | r=>r
 | .loop a,e,S=>iter (cK P pl call k n a) k e S
 | .scope _,_,_=>.error "scope"
 | .rangeFunc ..,_,_=>.error "rangeFunc"
 | .goto _,_,_=>.error "goto"
 | .refuse _,_,_=>.error "refuse"
def cI:Nat→List V→aJ→aJ
 | _,[],e=>e
 | i,v::l,e=>cI (i+1) l (e.put i v)
def vM (P:Program) (e:aJ) (S:St):List ResultVar→R (List V)
 | []=>.ok []
 | .tmp t::l=>(match e.get t,vM P e S l with
  | some v,.ok vs=>.ok (v::vs)
  | none,_=>.error "no result"
  | _,.error w=>.error w)
 | .cell a t::l=>(match e.get a with
  | none=>.error "no result"
  | some p=>match gA P t p S,vM P e S l with
   | .ok v,.ok vs=>.ok (v::vs)
   | .error w,_=>.error w
   | _,.error w=>.error w)
def jQ:List V→V
 | [v]=>v
 | vs=>.tup vs
def Tr.cut {α:Type}:Tr α→Nat→Tr α
 | .nil,_=>.nil
 | .node l v r,n=>bif Nat.beq n 0 then .node l none r else bif Nat.beq (n % 2) 1 then .node (l.cut (n / 2)) v r else .node l v (r.cut (n / 2 - 1))
mutual
def cC (ρ:Nat→Option Nat) (σ:V→R V):V→R V
 | .bool b=>.ok (.bool b)
 | .int k n=>.ok (.int k n)
 | .str s=>.ok (.str s)
 | .nilp=>.ok .nilp
 | .ptr a ver i j=>(match ρ a with
  | some k=>.ok (.ptr k ver i j)
  | none=>.error "a pointer")
 | .iptr cs j=>.ok (.iptr cs j)
 | .nils=>.ok (.imm [])
 | .sl a ver es off len=>σ (.sl a ver es off len)
 | .imm es=>.ok (.imm es)
 | .agg cs=>(match frzVs ρ σ cs with
  | .ok cs=>.ok (.agg cs)
  | .error e=>.error e)
 | .tup cs=>(match frzVs ρ σ cs with
  | .ok cs=>.ok (.tup cs)
  | .error e=>.error e)
 | .nili=>.ok .nili
 | .iface t v=>(match cC ρ σ v with
  | .ok v=>.ok (.iface t v)
  | .error e=>.error e)
 | .nilf=>.ok .nilf
 | .func f a b=>(match frzVs ρ σ a with
  | .ok a=>(match frzVs ρ σ b with
   | .ok b=>.ok (.func f a b)
   | .error e=>.error e)
  | .error e=>.error e)
 | .nilm=>.ok .nilm
 | .mp _=>.error "a map"
 | .res m r=>.ok (.res m r)
def frzVs (ρ:Nat→Option Nat) (σ:V→R V):List V→R (List V)
 | []=>.ok []
 | v::l=>(match cC ρ σ v with
  | .ok v=>(match frzVs ρ σ l with
   | .ok l=>.ok (v::l)
   | .error e=>.error e)
  | .error e=>.error e)
end
def gD {α β:Type} (φ:α→R β):List α→R (List β)
 | []=>.ok []
 | x::l=>(match φ x with
  | .ok y=>(match gD φ l with
   | .ok l=>.ok (y::l)
   | .error e=>.error e)
  | .error e=>.error e)
def kD:Nat→Option Nat:=fun _=>none
def lK (φ:List V→R (List V)) (S:St) (v:V):R V:=match aN S v with
 | .ok es=>(match gD φ es with
  | .ok es=>.ok (.imm es)
  | .error e=>.error e)
 | .error e=>.error e
def iS (S:St):Nat→List V→R (List V)
 | 0=>fun _=>.error "too deep"
 | n+1=>frzVs kD (lK (iS S n) S)
mutual
def pF:V→List Nat
 | .ptr a _ _ _=>[a]
 | .agg cs=>ptrsVs cs
 | .tup cs=>ptrsVs cs
 | .iface _ v=>pF v
 | .func _ a b=>ptrsVs a++ptrsVs b
 | _=>[]
def ptrsVs:List V→List Nat
 | []=>[]
 | v::l=>pF v++ptrsVs l
end
mutual
def eL (τ:V→List Nat):V→List Nat
 | .sl a ver es off len=>τ (.sl a ver es off len)
 | .agg cs=>slsVs τ cs
 | .tup cs=>slsVs τ cs
 | .iface _ v=>eL τ v
 | .func _ a b=>slsVs τ a++slsVs τ b
 | _=>[]
def slsVs (τ:V→List Nat):List V→List Nat
 | []=>[]
 | v::l=>eL τ v++slsVs τ l
end
def hZ (φ:List V→List Nat):List (List V)→List Nat
 | []=>[]
 | x::l=>φ x++hZ φ l
def fV (φ:List V→List Nat) (S:St):V→List Nat
 | .sl a ver es off len=>a::(match aN S (.sl a ver es off len) with
  | .ok es=>hZ φ es
  | .error _=>[])
 | _=>[]
def eX (S:St):Nat→List V→List Nat
 | 0=>fun _=>[]
 | n+1=>slsVs (fV (eX S n) S)
mutual
def eZ:V→Bool
 | .iptr _ _=>false
 | .imm es=>es.isEmpty
 | .agg cs=>bareVs cs
 | .tup cs=>bareVs cs
 | .iface _ v=>eZ v
 | .func _ a b=>bareVs a&&bareVs b
 | _=>true
def bareVs:List V→Bool
 | []=>true
 | v::l=>eZ v&&bareVs l
end
def fI (a:Nat):List Nat→Bool
 | []=>false
 | b::l=>Nat.beq a b||fI a l
def dW:List Nat→List Nat
 | []=>[]
 | a::l=>bif fI a l then dW l else a::dW l
def lP (a:Nat):Nat→List Nat→Option Nat
 | _,[]=>none
 | i,b::l=>bif Nat.beq a b then some i else lP a (i+1) l
def vN:List Nat→Nat→Option Nat
 | [],_=>none
 | a::_,0=>some a
 | _::l,n+1=>vN l n
abbrev Rows:=List (Nat×Nat×List (List V))
def eM (S:St):List Nat→R Rows
 | []=>.ok []
 | a::l=>(match S.heap.get a with
  | some (.row ver es els)=>(match gD (iS S 3) els with
   | .ok els=>(match eM S l with
    | .ok rs=>.ok ((ver,es,els)::rs)
    | .error e=>.error e)
   | .error e=>.error e)
  | _=>.error "no such row")
def bS (S:St):List Nat→List Nat
 | []=>[]
 | a::l=>(match S.heap.get a with
  | some (.row _ _ els)=>hZ (eX S 3) els
  | _=>[])++bS S l
def nA:Nat→Rows→Tr Blk→Tr Blk
 | _,[],h=>h
 | i,(ver,es,els)::l,h=>nA (i+1) l (h.put i (.row ver es els))
def iG:List Nat→Rows→Tr Blk→Tr Blk
 | a::l,(ver,es,els)::rs,h=>iG l rs (h.put a (.row ver es els))
 | _,_,h=>h
def jB:List Nat→Tr Blk→Tr Blk
 | [],h=>h
 | a::l,h=>jB l (h.cut a)
def kE (rs:Rows):Bool:=rs.all fun r=>r.2.2.all bareVs
def jR:Nat→Nat→List Nat
 | _,0=>[]
 | i,n+1=>i::jR (i+1) n
def oQ (run:List V→St→R (V×St)) (args:List V) (S:St):R (V×St):=
 match frzVs (fun a=>lP a 0 (dW (ptrsVs args))) (lK (iS S 3) S) args with
 | .error e=>.error e
 | .ok bs=>match eM S (dW (ptrsVs args)) with
  | .error e=>.error e
  | .ok rows=>bif (slsVs (fV (eX S 3) S) args++bS S (dW (ptrsVs args))).any (fun a=>fI a (dW (ptrsVs args))) then .error "a pointer into a list" else
   match run bs ⟨(dW (ptrsVs args)).length,nA 0 rows .nil⟩ with
   | .error e=>.error e
   | .ok (v,S2)=>match cC (vN (dW (ptrsVs args))) (lK (iS S2 3) S2) v with
    | .error e=>.error e
    | .ok v'=>match eM S2 (jR 0 (dW (ptrsVs args)).length) with
     | .error e=>.error e
     | .ok rows'=>bif (eL (fV (eX S2 3) S2) v++bS S2 (jR 0 (dW (ptrsVs args)).length)).any (fun a=>Nat.blt a (dW (ptrsVs args)).length) then .error "a list in a block" else
      .ok (v',⟨S.next,iG (dW (ptrsVs args)) rows' (bif eZ v'&&kE rows' then S.heap else jB (slsVs (fV (eX S 3) S) args++bS S (dW (ptrsVs args))) S.heap)⟩)
def zO (S:St) (mask:List Nat):Nat→Nat→List V→R (List V×List Nat)
 | _,_,[]=>.ok ([],[])
 | i,nx,v::l=>bif fI i mask then (match v with
   | .nils=>(match zO S mask (i+1) nx l with
    | .ok r=>.ok (.nils::r.1,r.2)
    | .error e=>.error e)
   | .sl j ver es off len=>(match zO S mask (i+1) (nx+1) l with
    | .ok r=>.ok (.sl nx ver es off len::r.1,j::r.2)
    | .error e=>.error e)
   | _=>.error "no list") else (match cC kD (lK (iS S 3) S) v with
   | .ok v=>(match zO S mask (i+1) nx l with
    | .ok r=>.ok (v::r.1,r.2)
    | .error e=>.error e)
   | .error e=>.error e)
def oR (S:St) (mask:List Nat):Nat→List V→List Nat
 | _,[]=>[]
 | i,v::l=>(bif fI i mask then [] else eL (fV (eX S 3) S) v)++oR S mask (i+1) l
def rB:V→List V→R V
 | .agg _,cs=>.ok (.agg cs)
 | .sl _ _ _ _ _,[c]=>.ok c
 | .nils,[c]=>.ok c
 | _,_=>.error "cells"
def xE:List Nat→Bool
 | []=>true
 | a::l=>!fI a l&&xE l
def jS:V→Bool
 | .bool _ | .int _ _ | .str _ | .nilp | .nili | .nilf | .nilm=>true
 | _=>false
def aEr (S:St):V→Bool
 | .nils=>true
 | .sl a ver es off len=>(match aN S (.sl a ver es off len) with
  | .ok es=>es.all fun cs=>cs.all jS
  | .error _=>false)
 | v=>jS v
def aEs (S:St):V→Bool
 | .tup l=>l.all (aEr S)
 | v=>aEr S v
def aB0 (run:List V→St→R (V×St)) (args:List V) (S:St):R (V×St):=
 match frzVs kD (lK (iS S 3) S) args with
 | .error e=>.error e
 | .ok bs=>match run bs ⟨0,.nil⟩ with
  | .error e=>.error e
  | .ok (v,S2)=>match cC kD (lK (iS S2 3) S2) v with
   | .error e=>.error e
   | .ok v'=>bif aEs S2 v then .ok (v',S) else .error "a list is not new"
def kpN:Nat:=999
def aEt (mask:List Nat) (run:List V→St→R (V×St)) (args:List V) (S:St):R (V×St):=
 match frzVs kD (lK (iS S 3) S) args with
 | .error e=>.error e
 | .ok bs=>match run bs ⟨0,.nil⟩ with
  | .error e=>.error e
  | .ok (v,S2)=>match zO S2 mask 0 S.next v.cells with
   | .error e=>.error e
   | .ok r=>match eM S2 r.2 with
    | .error e=>.error e
    | .ok rows=>match rB v r.1 with
     | .error e=>.error e
     | .ok v'=>bif xE r.2&&!(oR S2 mask 0 v.cells++bS S2 r.2).any (fun a=>fI a r.2) then
      .ok (v',⟨S.next+r.2.length,iG (jR S.next r.2.length) rows (jB (slsVs (fV (eX S 3) S) args) S.heap)⟩) else .error "blocks"
def aD8 (mask:List Nat) (run:List V→St→R (V×St)) (args:List V) (S:St):R (V×St):=bif fI kpN mask then aB0 run args S else aEt mask run args S
inductive Ent where
 | code (p:Nat→Option (List bB))
 | spec (g:List V→St→R (V×St))
 | val (p:Nat→Option (List bB))
 | own (p:Nat→Option (List bB)) (mask:List Nat)
abbrev eE:=FuncId→Option Ent
def kF (P:Program) (call:Call) (k:Nat) (p:Nat→Option (List bB)) (f:FuncId) (args:List V) (S:St):R (V×St):=
 match P.funcs[f]? with
 | none=>.error "no such function"
 | some fn=>match fn.body with
  | none=>.error "no body"
  | some c=>bif Nat.ble args.length fn.ntmps&&Nat.blt fn.ntmps fZ then
   (match cK P p call k fn.ntmps c (cI 0 args .nil) S with
   | .error w=>.error w
   | .ok (.exit _,_,_)=>.error "exit"
   | .ok (_,e,S')=>match vM P e S' fn.results.toList with
    | .ok vs=>.ok (jQ vs,S')
    | .error w=>.error w) else .error "slots"
def cP (P:Program) (pl:eE):Nat→Call
 | 0,_,_,_=>.error "fuel"
 | k+1,f,args,S=>match pl f with
  | none=>.error "a function that was not checked"
  | some (.spec g)=>g args S
  | some (.code p)=>kF P (cP P pl k) k p f args S
  | some (.val p)=>oQ (fun bs S=>kF P (cP P pl k) k p f bs S) args S
  | some (.own p mask)=>aD8 mask (fun bs S=>kF P (cP P pl k) k p f bs S) args S
def fJ (P:Program) (p:Nat→Option (List bB)):Code→Bool
 | .region id ops d=>!d||zN P ops (rA (p id) ops.size)
 | .seq a b=>fJ P p a&&fJ P p b
 | .cond _ a b=>fJ P p a&&fJ P p b
 | .block _ a=>fJ P p a
 | .loop a=>fJ P p a
 | _=>true
def dS {α:Type} (n:Nat):List (Nat×α)→Option α
 | []=>none
 | (m,x)::l=>bif Nat.beq n m then some x else dS n l
abbrev dT:=List (Nat×List (Nat×List bB))
inductive Sp where
 | ins (T:TypeId)
 | del (T:TypeId)
 | within
 | told
 | emod (m c:Nat)
abbrev tY:=List (Nat×Sp)
def Sp.run (P:Program):Sp→List V→St→R (V×St)
 | .ins T,[s,i,x],S=>qU P T s i x S
 | .del T,[s,i,j],S=>qW P T s i j S
 | .within,[x,.int .i64 lo,.int .i64 hi],S=>bif decide (lo≤hi)&&decide (hi≤1000000)&&decide (-1000000≤lo) then (match x with
  | .res m r=>bif decide (hi - lo+1=(m:Int)) then .ok (.int .i64 (lo+r),S) else .error "within"
  | .int .i64 n=>.ok (.int .i64 (lo+n % (hi - lo+1)),S)
  | _=>.error "within") else .error "within"
 | .emod m c,[x],S=>(match x with
  | .res m' r=>bif Nat.beq m m'&&Nat.blt 0 m&&Nat.blt m 1000000&&Nat.blt c 1000000 then .ok (.int .i64 (((c+r:Nat)):Int),S) else .error "emod"
  | .int .i64 n=>bif Nat.blt 0 m&&Nat.blt m 1000000&&Nat.blt c 1000000 then .ok (.int .i64 (c+n % (m:Int)),S) else .error "emod"
  | _=>.error "emod")
 | .told,[],S=>.ok (.bool true,S)
 | _,_,_=>.error "a step of other arguments"
def iJ (P:Program) (sp:tY) (t:dT) (vl:List Nat:=[]) (ol:List (Nat×List Nat):=[]):eE:=fun f=>match dS f sp with
 | some x=>some (.spec (x.run P))
 | none=>match dS f t with
  | some l=>(match dS f ol with
   | some m=>some (.own (fun id=>dS id l) m)
   | none=>bif fI f vl then some (.val fun id=>dS id l) else some (.code fun id=>dS id l))
  | none=>none
def oS (P:Program) (p:Nat→Option (List bB)) (f:FuncId):Bool:=
 match P.funcs[f]? with
 | none=>true
 | some fn=>!(fn.name == "runtime.NumGoroutine")&&(match fn.body with
  | none=>true
  | some c=>fJ P p c)
def dH (P:Program) (t:dT):Bool:=t.all fun x=>oS P (fun id=>dS id x.2) x.1
def nB:R (V×St)→Bool
 | .ok (.bool b,_)=>b
 | _=>false
theorem Tr.get_node {α:Type} (l:Tr α) (v:Option α) (r:Tr α) (m:Nat):
  (Tr.node l v r).get m=if m=0 then v else if m % 2=1 then l.get (m / 2) else r.get (m / 2 - 1):=by
 simp only [Tr.get,cond_eq_ite,Nat.beq_eq]
theorem Tr.get_nil {α:Type} (m:Nat):(Tr.nil:Tr α).get m=none:=rfl
theorem Tr.get_set {α:Type}:∀ (f:Nat) (t:Tr α) (n m:Nat) (x:α),n+1<2 ^ f→
  (Tr.set f t n x).get m=if m=n then some x else t.get m:=by
 intro f
 induction f with
 | zero=>intro t n m x h;simp at h
 | succ f ih=>
  intro t n m x h
  have h2:2 ^ (f+1)=2*2 ^ f:=by rw [Nat.pow_succ];omega
  rw [h2] at h
  have hl:n % 2=1→n / 2+1<2 ^ f:=by intro _;omega
  have hr:n≠0→n % 2≠1→n / 2 - 1+1<2 ^ f:=by intro _ _;omega
  cases t with
  | nil=>
   simp only [Tr.set,cond_eq_ite,Nat.beq_eq]
   split
   ·rw [Tr.get_node];subst n
    split<;>simp [Tr.get_nil, *]
   ·split
    ·rename_i h0 h1
     rw [Tr.get_node,ih _ _ _ _ (hl h1)]
     by_cases hm:m=n
     ·subst hm;simp [h0,h1]
     ·simp only [Tr.get_nil,hm,if_false]
      split
      ·rfl
      ·split
       ·rw [if_neg (by omega)]
       ·rfl
    ·rename_i h0 h1
     rw [Tr.get_node,ih _ _ _ _ (hr h0 h1)]
     by_cases hm:m=n
     ·subst hm;simp [h0,h1]
     ·simp only [Tr.get_nil,hm,if_false]
      split
      ·rfl
      ·split
       ·rfl
       ·rw [if_neg (by omega)]
  | node l v r=>
   simp only [Tr.set,cond_eq_ite,Nat.beq_eq]
   split
   ·subst n;rw [Tr.get_node,Tr.get_node]
    split<;>simp [*]
   ·split
    ·rename_i h0 h1
     rw [Tr.get_node,Tr.get_node,ih _ _ _ _ (hl h1)]
     by_cases hm:m=n
     ·subst hm;simp [h0,h1]
     ·simp only [hm,if_false]
      split
      ·rfl
      ·split
       ·rw [if_neg (by omega)]
       ·rfl
    ·rename_i h0 h1
     rw [Tr.get_node,Tr.get_node,ih _ _ _ _ (hr h0 h1)]
     by_cases hm:m=n
     ·subst hm;simp [h0,h1]
     ·simp only [hm,if_false]
      split
      ·rfl
      ·split
       ·rfl
       ·rw [if_neg (by omega)]
theorem xF (n:Nat):Nat.blt n (jM n)=true:=Nat.ble_eq_true_of_le (Nat.le_refl _)
theorem dI (S:St) (b:Blk):aV none S b=.ok (S.next,⟨S.next+1,S.heap.put S.next b⟩):=by simp only [aV,xF,cond_true]
theorem tZ (k:Nat) (S:St) (b:Blk):aV (some k) S b=.ok (k,⟨S.next,S.heap.put k b⟩):=by simp only [aV,xF,cond_true]
theorem Tr.get_putB {α:Type} (t:Tr α) (n m:Nat) (x:α) {p:Prop} (_:p):(t.put n x).get m=if m=n then some x else t.get m:=
 Tr.get_set (n+1) t n m x Nat.lt_two_pow_self
theorem Tr.get_put_sameB {α:Type} (t:Tr α) (n:Nat) (x:α) {p:Prop} (h:p):(t.put n x).get n=some x:=by rw [Tr.get_putB t n n x h,if_pos rfl]
theorem Tr.get_put_neB {α:Type} (t:Tr α) (n m:Nat) (x:α) {p:Prop} (h:p) (hm:m≠n):(t.put n x).get m=t.get m:=by rw [Tr.get_putB t n m x h,if_neg hm]
theorem Tr.get_put {α:Type} (t:Tr α) (n m:Nat) (x:α) (h:n<fZ):(t.put n x).get m=if m=n then some x else t.get m:=Tr.get_putB t n m x h
theorem Tr.get_put_same {α:Type} (t:Tr α) (n:Nat) (x:α) (h:n<fZ):(t.put n x).get n=some x:=Tr.get_put_sameB t n x h
theorem Tr.get_put_ne {α:Type} (t:Tr α) (n m:Nat) (x:α) (h:n<fZ) (hm:m≠n):(t.put n x).get m=t.get m:=Tr.get_put_neB t n m x h hm
structure Loc where
 ver:Nat
 cb:Nat
 co:Nat
 cap:Nat
 es:Nat
structure Gh where
 loc:Nat→Option Loc
 ml:Nat→Option Nat
 pr:Nat→Option Obj
 sy:Nat→Int:=fun _=>0
def aOk (sy:Nat→Int) (m r:Nat) (k:IntKind) (n:Int):Prop:=
 (m<lI∧k=.i64∧n % (m:Int)=(r:Int))∨(lI≤m∧k=qT m∧n=sy (aOj m)∧rK r≤n∧n≤rL r)
structure Gh.le (G G':Gh):Prop where
 loc:∀ a L,G.loc a=some L→∃ L',G'.loc a=some L'∧(L'=L∨L.ver<L'.ver)
 ml:∀ a b,G.ml a=some b→G'.ml a=some b
 pr:∀ b o,G.pr b=some o→G'.pr b=some o
 sy:G'.sy=G.sy
theorem Gh.le_refl (G:Gh):G.le G:=⟨fun _ L h=>⟨L,h,.inl rfl⟩,fun _ _ h=>h,fun _ _ h=>h,rfl⟩
theorem Gh.le_trans {A B C:Gh} (h:A.le B) (k:B.le C):A.le C:=by
 refine ⟨fun a L ha=>?_,fun a b hb=>k.ml a b (h.ml a b hb),fun b o hb=>k.pr b o (h.pr b o hb),k.sy.trans h.sy⟩
 obtain ⟨L1,h1,e1⟩:=h.loc a L ha
 obtain ⟨L2,h2,e2⟩:=k.loc a L1 h1
 refine ⟨L2,h2,?_⟩
 rcases e1 with rfl | e1
 ·exact e2
 ·rcases e2 with rfl | e2
  ·exact .inr e1
  ·exact .inr (Nat.lt_trans e1 e2)
def Gh.shut (G:Gh):Gh:={ G with loc:=fun _=>none,ml:=fun _=>none }
theorem Gh.shut_le (G:Gh):G.shut.le G:=⟨fun _ _ h=>(by cases h),fun _ _ h=>(by cases h),fun _ _ h=>h,rfl⟩
theorem Gh.le_shut {G G':Gh} (h:G.le G'):G.shut.le G'.shut:=⟨fun _ _ h=>(by cases h),fun _ _ h=>(by cases h),h.pr,h.sy⟩
def PtrAt (G:Gh) (a ver i j:Nat) (p:Addr):Prop:=
 ∃ L,G.loc a=some L∧(ver<L.ver∨(ver=L.ver∧p=⟨L.cb,L.co+i*L.es+j,none⟩))
def SlAt (G:Gh) (a ver es off len:Nat) (p:Addr) (n c:Nat):Prop:=
 n=len∧len≤c∧∃ L,G.loc a=some L∧(ver<L.ver∨(ver=L.ver∧es=L.es∧off+c≤L.cap∧(c≠0→p=⟨L.cb,L.co+off*L.es,none⟩)))
mutual
inductive VR:Gh→V→Value→Prop
 | bool {G:Gh} (b:Bool):VR G (.bool b) (.bool b)
 | int {G:Gh} (k:IntKind) (n:Int):VR G (.int k n) (.int k n)
 | str {G:Gh} (s:List UInt8):VR G (.str s) (.string ⟨⟨s⟩⟩)
 | nilp {G:Gh}:VR G .nilp (.pointer none)
 | ptr {G:Gh} (a ver i j:Nat) (p:Addr) (h:PtrAt G a ver i j p):VR G (.ptr a ver i j) (.pointer (some p))
 | iptr {G:Gh} (cs:List V) (j:Nat) (b o:Nat) (c:Array Value) (ty:TypeId) (fr:Nat×Nat) (hb:G.pr b=some (.cells c ty fr)) (vs:List Value)
   (hv:∀ k v,vs[k]?=some v→c[o+k]?=some v) (h:VRs G.shut cs vs):VR G (.iptr cs j) (.pointer (some ⟨b,o+j,none⟩))
 | nils {G:Gh}:VR G .nils (.slice none 0 0)
 | sl {G:Gh} (a ver es off len:Nat) (p:Addr) (n c:Nat) (h:SlAt G a ver es off len p n c):VR G (.sl a ver es off len) (.slice (some p) n c)
 | imm {G:Gh} (es:List (List V)) (p:Addr) (n c e:Nat) (hn:n=es.length) (hc:n≤c) (vs:List (List Value)) (h:VRss G.shut es vs) (he:∀ cs,cs∈es→cs.length=e)
   (hp:n=0∨∃ (ca:Array Value) (ty:TypeId) (fr:Nat×Nat),G.pr p.block=some (.cells ca ty fr)∧p.spot=none ∧
    ∀ i l,vs[i]?=some l→∀ k v,l[k]?=some v→ca[p.off+i*e+k]?=some v):VR G (.imm es) (.slice (some p) n c)
 | imm0 {G:Gh}:VR G (.imm []) (.slice none 0 0)
 | agg {G:Gh} (cs:List V) (vs:Array Value) (h:VRs G cs vs.toList):VR G (.agg cs) (.agg vs)
 | tup {G:Gh} (cs:List V) (vs:Array Value) (h:VRs G cs vs.toList):VR G (.tup cs) (.tuple vs)
 | nili {G:Gh}:VR G .nili .nilIface
 | iface {G:Gh} (t:TypeId) (v:V) (w:Value) (h:VR G v w):VR G (.iface t v) (.iface t w)
 | nilf {G:Gh}:VR G .nilf .nilFunc
 | func {G:Gh} (f:FuncId) (a b:List V) (x y:Array Value) (ha:VRs G a x.toList) (hb:VRs G b y.toList):VR G (.func f a b) (.func (.func f) x y)
 | nilm {G:Gh}:VR G .nilm (.map none)
 | mp {G:Gh} (a cb:Nat) (h:G.ml a=some cb):VR G (.mp a) (.map (some cb))
 | res {G:Gh} (m r:Nat) (k:IntKind) (n:Int) (h:aOk G.sy m r k n):VR G (.res m r) (.int k n)
inductive VRs:Gh→List V→List Value→Prop
 | nil {G:Gh}:VRs G [] []
 | cons {G:Gh} (v:V) (w:Value) (vs:List V) (ws:List Value) (h:VR G v w) (t:VRs G vs ws):VRs G (v::vs) (w::ws)
inductive VRss:Gh→List (List V)→List (List Value)→Prop
 | nil {G:Gh}:VRss G [] []
 | cons {G:Gh} (v:List V) (w:List Value) (vs:List (List V)) (ws:List (List Value)) (h:VRs G v w) (t:VRss G vs ws):VRss G (v::vs) (w::ws)
end
theorem PtrAt.mono {G G':Gh} (hg:G.le G') {a ver i j:Nat} {p:Addr} (h:PtrAt G a ver i j p):PtrAt G' a ver i j p:=by
 obtain ⟨L,hL,h⟩:=h
 obtain ⟨L',hL',e⟩:=hg.loc a L hL
 refine ⟨L',hL',?_⟩
 rcases e with rfl | e
 ·exact h
 ·rcases h with h | ⟨h,_⟩
  ·exact .inl (Nat.lt_trans h e)
  ·exact .inl (h▸e)
theorem SlAt.mono {G G':Gh} (hg:G.le G') {a ver es off len:Nat} {p:Addr} {n c:Nat} (h:SlAt G a ver es off len p n c):SlAt G' a ver es off len p n c:=by
 obtain ⟨hn,hc,L,hL,h⟩:=h
 obtain ⟨L',hL',e⟩:=hg.loc a L hL
 refine ⟨hn,hc,L',hL',?_⟩
 rcases e with rfl | e
 ·exact h
 ·rcases h with h | ⟨h,_⟩
  ·exact .inl (Nat.lt_trans h e)
  ·exact .inl (h▸e)
mutual
theorem VR.mono {G G':Gh} (hg:G.le G') {v:V} {w:Value} (h:VR G v w):VR G' v w:=by
 cases h with
 | bool b=>exact .bool b
 | int k n=>exact .int k n
 | str s=>exact .str s
 | nilp=>exact .nilp
 | ptr a ver i j p h=>exact .ptr a ver i j p (h.mono hg)
 | iptr cs j b o c ty fr hb vs hv h=>exact .iptr cs j b o c ty fr (hg.pr _ _ hb) vs hv (VRs.mono (Gh.le_shut hg) h)
 | nils=>exact .nils
 | sl a ver es off len p n c h=>exact .sl a ver es off len p n c (h.mono hg)
 | imm es p n c e hn hc vs h he hp=>
  refine .imm es p n c e hn hc vs (VRss.mono (Gh.le_shut hg) h) he (hp.imp id ?_)
  rintro ⟨ca,ty,fr,h1,h2,h3⟩
  exact ⟨ca,ty,fr,hg.pr _ _ h1,h2,h3⟩
 | imm0=>exact .imm0
 | agg cs vs h=>exact .agg cs vs (VRs.mono hg h)
 | tup cs vs h=>exact .tup cs vs (VRs.mono hg h)
 | nili=>exact .nili
 | iface t v w h=>exact .iface t v w (VR.mono hg h)
 | nilf=>exact .nilf
 | func f a b x y ha hb=>exact .func f a b x y (VRs.mono hg ha) (VRs.mono hg hb)
 | nilm=>exact .nilm
 | mp a cb h=>exact .mp a cb (hg.ml _ _ h)
 | res m r k n h=>exact .res m r k n (by rw [hg.sy];exact h)
theorem VRs.mono {G G':Gh} (hg:G.le G') {v:List V} {w:List Value} (h:VRs G v w):VRs G' v w:=by
 cases h with
 | nil=>exact .nil
 | cons v w vs ws h t=>exact .cons v w vs ws (VR.mono hg h) (VRs.mono hg t)
theorem VRss.mono {G G':Gh} (hg:G.le G') {v:List (List V)} {w:List (List Value)} (h:VRss G v w):VRss G' v w:=by
 cases h with
 | nil=>exact .nil
 | cons v w vs ws h t=>exact .cons v w vs ws (VRs.mono hg h) (VRss.mono hg t)
end
theorem VRs.length {G:Gh} {vs:List V} {ws:List Value} (h:VRs G vs ws):vs.length=ws.length:=by
 induction vs generalizing ws with
 | nil=>cases h;rfl
 | cons v vs ih=>cases h with | cons _ w _ ws _ t=>simp [ih t]
theorem VRs.get {G:Gh} {vs:List V} {ws:List Value} (h:VRs G vs ws) {i:Nat} {v:V} (hv:vs[i]?=some v):∃ w,ws[i]?=some w∧VR G v w:=by
 induction vs generalizing ws i with
 | nil=>simp at hv
 | cons x vs ih=>
  cases h with
  | cons _ w _ ws hx t=>
   cases i with
   | zero=>simp at hv;subst hv;exact ⟨w,by simp,hx⟩
   | succ i=>simp at hv;simpa using ih t hv
theorem VRs.of {G:Gh} {vs:List V} {ws:List Value} (hl:vs.length=ws.length) (h:∀ (i:Nat) (v:V) (w:Value),vs[i]?=some v→ws[i]?=some w→VR G v w):VRs G vs ws:=by
 induction vs generalizing ws with
 | nil=>cases ws with
  | nil=>exact .nil
  | cons w ws=>simp at hl
 | cons v vs ih=>cases ws with
  | nil=>simp at hl
  | cons w ws=>
   refine .cons v w vs ws (h 0 v w (by simp) (by simp)) (ih (by simpa using hl) fun i v w hv hw=>h (i+1) v w (by simpa using hv) (by simpa using hw))
theorem VRs.append {G:Gh} {a b:List V} {x y:List Value} (h:VRs G a x) (k:VRs G b y):VRs G (a++b) (x++y):=by
 induction a generalizing x with
 | nil=>cases h;simpa using k
 | cons v a ih=>cases h with | cons _ w _ ws hv t=>exact .cons v w _ _ hv (ih t)
theorem VRs.take {G:Gh} {a:List V} {x:List Value} (h:VRs G a x) (n:Nat):VRs G (a.take n) (x.take n):=by
 refine VRs.of (by simp [h.length]) fun i v w hv hw=>?_
 rw [List.getElem?_take] at hv hw
 split at hv
 ·obtain ⟨w',hw',r⟩:=h.get hv
  rw [if_pos (by assumption)] at hw
  rw [hw'] at hw;cases hw;exact r
 ·cases hv
theorem VRs.drop {G:Gh} {a:List V} {x:List Value} (h:VRs G a x) (n:Nat):VRs G (a.drop n) (x.drop n):=by
 refine VRs.of (by simp [h.length]) fun i v w hv hw=>?_
 rw [List.getElem?_drop] at hv hw
 obtain ⟨w',hw',r⟩:=h.get hv
 rw [hw'] at hw;cases hw;exact r
theorem VR.cells {G:Gh} {v:V} {w:Value} (h:VR G v w):VRs G v.cells w.cells.toList:=by
 cases h<;>first
  | (simp only [V.cells,Value.cells];assumption)
  | (simp only [V.cells,Value.cells];exact .cons _ _ _ _ (by constructor<;>assumption) .nil)
  | skip
theorem VR.one {G:Gh} {v:V} {w:Value} (h:VR G v w) (ho:v.one=true):w.oneCell'=true:=by
 cases h<;>first | rfl | (simp [V.one] at ho)
theorem xG (G:Gh) {w:Value} {v:V} (h:iY w=some v):VR G v w:=by
 unfold iY at h
 split at h<;>first | (cases h;first | exact .bool _ | exact .int _ _ | exact .nilp | exact .nils | exact .nili | exact .nilf | exact .nilm | skip) | skip
 rename_i s
 obtain ⟨⟨l⟩⟩:=s
 exact .str l
theorem rR (G:Gh):∀ {ws:List Value} {vs:List V},fT ws=some vs→VRs G vs ws
 | [],vs,h=>by simp [fT] at h;subst h;exact .nil
 | w::ws,vs,h=>by
  simp only [fT] at h
  split at h
  ·rename_i x hx
   split at h
   ·rename_i xs hxs
    cases h
    exact .cons _ _ _ _ (xG G hx) (rR G hxs)
   ·cases h
  ·cases h
theorem cN (G:Gh) {w:Value} {v:V} (h:ofValue w=some v):VR G v w:=by
 unfold ofValue at h
 split at h
 ·split at h
  ·rename_i hx;cases h;exact .agg _ _ (rR G hx)
  ·cases h
 ·exact xG G h
structure Same (W W':World):Prop where
 os:W'.os=W.os
 tape:W'.tape=W.tape
 output:W'.output=W.output
 size:W.heap.size≤W'.heap.size
theorem Same.refl (W:World):Same W W:=⟨rfl,rfl,rfl,Nat.le_refl _⟩
theorem Same.trans {A B C:World} (h:Same A B) (k:Same B C):Same A C:=
 ⟨k.os.trans h.os,k.tape.trans h.tape,k.output.trans h.output,Nat.le_trans h.size k.size⟩
theorem Same.drew (W:World):Same W W.drew:=⟨rfl,rfl,rfl,Nat.le_refl _⟩
theorem Same.alloc (W:World) (o:Obj):Same W (W.alloc o):=⟨rfl,rfl,rfl,by simp⟩
def RowR (G:Gh) (c:Array Value) (o es:Nat) (elems:List (List V)):Prop:=
 ∀ i cs,elems[i]?=some cs→cs.length=es∧∀ j v,cs[j]?=some v→∃ w,c[o+i*es+j]?=some w∧VR G v w
theorem RowR.mono {G G':Gh} (hg:G.le G') {c:Array Value} {o es:Nat} {elems:List (List V)} (h:RowR G c o es elems):RowR G' c o es elems:=
 fun i cs hc=>⟨(h i cs hc).1,fun j v hv=>let ⟨w,a,b⟩:=(h i cs hc).2 j v hv;⟨w,a,b.mono hg⟩⟩
def xH (G:Gh) (H:Array Obj) (L:Loc) (ver es:Nat) (elems:List (List V)):Prop:=
 L.ver=ver∧L.es=es∧elems.length≤L.cap∧∃ c ty fr,H[L.cb]?=some (.cells c ty fr)∧L.co+L.cap*es≤c.size ∧
  ((∀ o,L.co≤o→o<L.co+L.cap*es→¬ (fr.1≤o∧o<fr.2))∧(es≠1→¬ (fr.1≤c.size∧c.size<fr.2)))∧RowR G c L.co es elems
inductive MapR (G:Gh):List MapEntry→List (V×V)→Prop
 | nil:MapR G [] []
 | cons (e:MapEntry) (k v:V) (es:List MapEntry) (l:List (V×V)) (hk:VR G k e.key) (hv:VR G v e.val) (t:MapR G es l):MapR G (e::es) ((k,v)::l)
theorem MapR.mono {G G':Gh} (hg:G.le G'):∀ {es:List MapEntry} {l:List (V×V)},MapR G es l→MapR G' es l
 | _,_,.nil=>.nil
 | _,_,.cons e k v es l hk hv t=>.cons e k v es l (hk.mono hg) (hv.mono hg) (t.mono hg)
def BlkAt (G:Gh) (H:Array Obj) (a:Nat):Blk→Prop
 | .row ver es elems=>∃ L,G.loc a=some L∧xH G H L ver es elems
 | .mp kvs=>∃ b es clock,G.ml a=some b∧H[b]?=some (.map es clock)∧MapR G es.toList kvs∧(∀ e∈es.toList,e.born<clock)∧(es.toList.map (·.born)).Nodup
 | .iter s pos=>∃ L,G.loc a=some L∧L.ver=0∧L.co=0∧H[L.cb]?=some (.stringIter ⟨⟨s⟩⟩ pos)
def bI (G:Gh) (a i:Nat):Prop:=(∃ L,G.loc a=some L∧L.cb=i)∨G.ml a=some i
structure RelH (F:Nat→Option Obj) (G:Gh) (nx:Nat) (hp:Nat→Option Blk) (H:Array Obj):Prop where
 fresh:∀ a,nx≤a→G.loc a=none∧G.ml a=none
 sep:∀ a L,G.loc a=some L→G.ml a=none
 blk:∀ a b,hp a=some b→BlkAt G H a b
 inj:∀ a a' b b' i,hp a=some b→hp a'=some b'→bI G a i→bI G a' i→a=a'
 fr:∀ i o,F i=some o→H[i]?=some o
 pr:∀ i o,G.pr i=some o→H[i]?=some o
 own:∀ a b i,hp a=some b→bI G a i→F i=none∧G.pr i=none
 lt:∀ a i,bI G a i→i<H.size
 small:∀ a b,hp a=some b→a<jM a
abbrev cO (F:Nat→Option Obj) (G:Gh) (S:St) (H:Array Obj):Prop:=RelH F G S.next S.heap.get H
theorem BlkAt.next {G:Gh} {H:Array Obj} {a:Nat} {b:Blk} (h:BlkAt G H a b):∃ i,bI G a i:=by
 cases b with
 | row ver es elems=>obtain ⟨L,hL,_⟩:=h;exact ⟨L.cb,.inl ⟨L,hL,rfl⟩⟩
 | mp kvs=>obtain ⟨i,_,_,hi,_⟩:=h;exact ⟨i,.inr hi⟩
 | iter s pos=>obtain ⟨L,hL,_⟩:=h;exact ⟨L.cb,.inl ⟨L,hL,rfl⟩⟩
theorem RelH.alive {F:Nat→Option Obj} {G:Gh} {nx:Nat} {hp:Nat→Option Blk} {H:Array Obj} (R:RelH F G nx hp H) {a:Nat} {b:Blk} (h:hp a=some b):a<nx:=by
 rcases Nat.lt_or_ge a nx with k | k
 ·exact k
 ·obtain ⟨i,hi⟩:=(R.blk a b h).next
  have:=R.fresh a k
  rcases hi with ⟨L,hL,_⟩ | hi
  ·rw [this.1] at hL;cases hL
  ·rw [this.2] at hi;cases hi
theorem Gh.le_set {G:Gh} {a:Nat} {L L':Loc} (hL:G.loc a=some L) (hver:L'=L∨L.ver<L'.ver):G.le { G with loc:=fun x=>if x=a then some L' else G.loc x }:=by
 refine ⟨fun x K hK=>?_,fun _ _ h=>h,fun _ _ h=>h,rfl⟩
 by_cases hx:x=a
 ·subst hx
  rw [hL] at hK;cases hK
  exact ⟨L',by simp,hver⟩
 ·exact ⟨K,by simp [hx,hK],.inl rfl⟩
theorem RelH.setBlk {F:Nat→Option Obj} {G:Gh} {S:St} {H H':Array Obj} (R:cO F G S H) {a:Nat} {b0:Blk} (hget:S.heap.get a=some b0)
  {L L':Loc} (hL:G.loc a=some L) (hver:L'=L∨L.ver<L'.ver) (hcb:L'.cb=L.cb∨L'.cb=H.size)
  (hoth:∀ i,i<H.size→i≠L'.cb→H'[i]?=H[i]?) (hsz:H.size≤H'.size) (hlt:L'.cb<H'.size) {nb:Blk}
  (row:BlkAt { G with loc:=fun x=>if x=a then some L' else G.loc x } H' a nb):
  G.le { G with loc:=fun x=>if x=a then some L' else G.loc x } ∧
  cO F { G with loc:=fun x=>if x=a then some L' else G.loc x } ⟨S.next,S.heap.put a nb⟩ H':=by
 have hlim:=R.small a b0 hget
 have hle:G.le { G with loc:=fun x=>if x=a then some L' else G.loc x }:=by
  refine ⟨fun x K hK=>?_,fun _ _ h=>h,fun _ _ h=>h,rfl⟩
  by_cases hx:x=a
  ·subst hx
   rw [hL] at hK;cases hK
   exact ⟨L',by simp,hver⟩
  ·exact ⟨K,by simp [hx,hK],.inl rfl⟩
 have holds:∀ x i,x≠a→bI { G with loc:=fun x=>if x=a then some L' else G.loc x } x i→bI G x i:=by
  intro x i hx h
  rcases h with ⟨K,hK,e⟩ | h
  ·simp [hx] at hK;exact .inl ⟨K,hK,e⟩
  ·exact .inr h
 have holda:∀ i,bI { G with loc:=fun x=>if x=a then some L' else G.loc x } a i→i=L'.cb:=by
  intro i h
  rcases h with ⟨K,hK,e⟩ | h
  ·simp at hK;subst hK;exact e.symm
  ·have:=R.sep a L hL
   change G.ml a=some i at h
   rw [this] at h;cases h
 have hLa:bI G a L.cb:=.inl ⟨L,hL,rfl⟩
 have nota:∀ x b,S.heap.get x=some b→x≠a→¬ bI G x L'.cb:=by
  intro x b hb hx h
  rcases hcb with e | e
  ·rw [e] at h
   exact hx (R.inj x a b b0 L.cb hb hget h hLa)
  ·have:=R.lt x _ h;omega
 refine ⟨hle,?_⟩
 constructor
 ·intro x hx
  have hx':S.next≤x:=hx
  have:x≠a:=fun e=>by have:=R.alive hget;omega
  simp only [this,if_false]
  exact R.fresh x hx'
 ·intro x K hK
  by_cases hx:x=a
  ·subst hx;exact R.sep _ L hL
  ·simp [hx] at hK;exact R.sep x K hK
 ·intro x b hb
  simp only at hb
  rw [Tr.get_putB _ _ _ _ hlim] at hb
  by_cases hx:x=a
  ·subst hx
   simp at hb;subst hb
   exact row
  ·rw [if_neg hx] at hb
   have old:=R.blk x b hb
   cases b with
   | row ver' es' elems'=>
    obtain ⟨K,hK,r1,r2,r3,c,ty,fr,hc,r4,r5,r6⟩:=old
    have hne:K.cb≠L'.cb:=fun e=>nota x _ hb hx (.inl ⟨K,hK,e⟩)
    exact ⟨K,by simp [hx,hK],r1,r2,r3,c,ty,fr,by rw [hoth _ (R.lt x _ (.inl ⟨K,hK,rfl⟩)) hne];exact hc,r4,r5,r6.mono hle⟩
   | mp kvs=>
    obtain ⟨i,es',clock,hi,hH,r1,r2⟩:=old
    have hne:i≠L'.cb:=fun e=>nota x _ hb hx (.inr (e▸hi))
    exact ⟨i,es',clock,hi,by rw [hoth _ (R.lt x _ (.inr hi)) hne];exact hH,r1.mono hle,r2⟩
   | iter s pos=>
    obtain ⟨K,hK,r1,r2,hH⟩:=old
    have hne:K.cb≠L'.cb:=fun e=>nota x _ hb hx (.inl ⟨K,hK,e⟩)
    exact ⟨K,by simp [hx,hK],r1,r2,by rw [hoth _ (R.lt x _ (.inl ⟨K,hK,rfl⟩)) hne];exact hH⟩
 ·intro x y b b' i hb hb' h1 h2
  simp only at hb hb'
  rw [Tr.get_putB _ _ _ _ hlim] at hb hb'
  by_cases hx:x=a
  ·by_cases hy:y=a
   ·rw [hx,hy]
   ·rw [if_neg hy] at hb'
    subst hx
    have e:=holda i h1
    subst e
    exact absurd (holds y _ hy h2) (nota y b' hb' hy)
  ·rw [if_neg hx] at hb
   by_cases hy:y=a
   ·subst hy
    have e:=holda i h2
    subst e
    exact absurd (holds x _ hx h1) (nota x b hb hx)
   ·rw [if_neg hy] at hb'
    exact R.inj x y b b' i hb hb' (holds x i hx h1) (holds y i hy h2)
 ·intro i o h
  have hlt':i<H.size:=by
   have:=R.fr i o h
   exact (Array.getElem?_eq_some_iff.1 this).1
  rw [hoth i hlt' ?_]
  ·exact R.fr i o h
  ·intro e
   rcases hcb with e' | e'
   ·have:=(R.own a b0 L.cb hget hLa).1
    rw [e,e',this] at h;cases h
   ·omega
 ·intro i o h
  have hlt':i<H.size:=by
   have:=R.pr i o h
   exact (Array.getElem?_eq_some_iff.1 this).1
  rw [hoth i hlt' ?_]
  ·exact R.pr i o h
  ·intro e
   rcases hcb with e' | e'
   ·have:=(R.own a b0 L.cb hget hLa).2
    change G.pr i=some o at h
    rw [e,e',this] at h;cases h
   ·omega
 ·intro x b i hb h
  simp only at hb
  rw [Tr.get_putB _ _ _ _ hlim] at hb
  by_cases hx:x=a
  ·subst hx
   have e:=holda i h
   subst e
   rcases hcb with e' | e'
   ·rw [e'];exact R.own _ b0 L.cb hget hLa
   ·constructor
    ·cases hF:F L'.cb with
     | none=>rfl
     | some o=>
      have:=(Array.getElem?_eq_some_iff.1 (R.fr _ o hF)).1;omega
    ·cases hF:G.pr L'.cb with
     | none=>rfl
     | some o=>
      have:=(Array.getElem?_eq_some_iff.1 (R.pr _ o hF)).1;omega
  ·rw [if_neg hx] at hb
   exact R.own x b i hb (holds x i hx h)
 ·intro x i h
  by_cases hx:x=a
  ·subst hx
   rw [holda i h];exact hlt
  ·exact Nat.lt_of_lt_of_le (R.lt x i (holds x i hx h)) hsz
 ·intro x b hb
  simp only at hb
  rw [Tr.get_putB _ _ _ _ hlim] at hb
  by_cases hx:x=a
  ·subst hx;exact hlim
  ·rw [if_neg hx] at hb;exact R.small x b hb
theorem RelH.setRow {F:Nat→Option Obj} {G:Gh} {S:St} {H H':Array Obj} (R:cO F G S H) {a:Nat} {b0:Blk} (hget:S.heap.get a=some b0)
  {L L':Loc} (hL:G.loc a=some L) (hver:L'=L∨L.ver<L'.ver) (hcb:L'.cb=L.cb∨L'.cb=H.size)
  (hoth:∀ i,i<H.size→i≠L'.cb→H'[i]?=H[i]?) (hsz:H.size≤H'.size) (hlt:L'.cb<H'.size) {ver es:Nat} {elems:List (List V)}
  (row:xH { G with loc:=fun x=>if x=a then some L' else G.loc x } H' L' ver es elems):
  G.le { G with loc:=fun x=>if x=a then some L' else G.loc x } ∧
  cO F { G with loc:=fun x=>if x=a then some L' else G.loc x } ⟨S.next,S.heap.put a (.row ver es elems)⟩ H':=
 R.setBlk hget hL hver hcb hoth hsz hlt (nb:=.row ver es elems) ⟨L',by simp,row⟩
theorem RelH.keepBlk {F:Nat→Option Obj} {G:Gh} {S:St} {H H':Array Obj} (R:cO F G S H) {a:Nat} {b0:Blk} (hget:S.heap.get a=some b0)
  {L:Loc} (hL:G.loc a=some L) (hoth:∀ i,i≠L.cb→H'[i]?=H[i]?) (hsz:H'.size=H.size) {nb:Blk} (row:BlkAt G H' a nb):cO F G ⟨S.next,S.heap.put a nb⟩ H':=by
 have e:{ G with loc:=fun x=>if x=a then some L else G.loc x }=G:=by
  cases G with
  | mk loc ml pr=>
   congr 1
   funext x
   by_cases hx:x=a
   ·subst hx;simpa using hL.symm
   ·simp [hx]
 have:=R.setBlk (H':=H') hget hL (.inl rfl) (.inl rfl) (fun i _ hi=>hoth i hi) (by omega) (by rw [hsz];exact R.lt a _ (.inl ⟨L,hL,rfl⟩)) (nb:=nb) (by rw [e];exact row)
 rw [e] at this
 exact this.2
theorem RelH.keepRow {F:Nat→Option Obj} {G:Gh} {S:St} {H H':Array Obj} (R:cO F G S H) {a:Nat} {b0:Blk} (hget:S.heap.get a=some b0)
  {L:Loc} (hL:G.loc a=some L) (hoth:∀ i,i≠L.cb→H'[i]?=H[i]?) (hsz:H'.size=H.size) {ver es:Nat} {elems:List (List V)}
  (row:xH G H' L ver es elems):cO F G ⟨S.next,S.heap.put a (.row ver es elems)⟩ H':=by
 have e:{ G with loc:=fun x=>if x=a then some L else G.loc x }=G:=by
  cases G with
  | mk loc ml pr=>
   congr 1
   funext x
   by_cases hx:x=a
   ·subst hx;simpa using hL.symm
   ·simp [hx]
 have:=R.setRow (H':=H') hget hL (.inl rfl) (.inl rfl) (fun i _ hi=>hoth i hi) (by omega) (by rw [hsz];exact R.lt a _ (.inl ⟨L,hL,rfl⟩)) (ver:=ver) (es:=es) (elems:=elems) (by rw [e];exact row)
 rw [e] at this
 exact this.2
theorem RelH.allocBlk {F:Nat→Option Obj} {G:Gh} {S:St} {H:Array Obj} (R:cO F G S H) {k nx:Nat} (hk:G.loc k=none) (hm:G.ml k=none) (hlim:k<jM k)
  (hn:S.next≤nx) (hkn:k<nx) {ob:Obj} {cap es:Nat} {nb:Blk}
  (hrow:G.le { G with loc:=fun x=>if x=k then some ⟨0,H.size,0,cap,es⟩ else G.loc x }→BlkAt { G with loc:=fun x=>if x=k then some ⟨0,H.size,0,cap,es⟩ else G.loc x } (H.push ob) k nb):
  G.le { G with loc:=fun x=>if x=k then some ⟨0,H.size,0,cap,es⟩ else G.loc x } ∧
  cO F { G with loc:=fun x=>if x=k then some ⟨0,H.size,0,cap,es⟩ else G.loc x } ⟨nx,S.heap.put k nb⟩ (H.push ob):=by
 have hle:G.le { G with loc:=fun x=>if x=k then some ⟨0,H.size,0,cap,es⟩ else G.loc x }:=by
  refine ⟨fun x K hK=>?_,fun _ _ h=>h,fun _ _ h=>h,rfl⟩
  have hx:x≠k:=fun e=>by rw [e,hk] at hK;cases hK
  exact ⟨K,by simp [hx,hK],.inl rfl⟩
 have holds:∀ x i,x≠k→bI { G with loc:=fun x=>if x=k then some ⟨0,H.size,0,cap,es⟩ else G.loc x } x i→bI G x i:=by
  intro x i hx h
  rcases h with ⟨K,hK,e⟩ | h
  ·simp [hx] at hK;exact .inl ⟨K,hK,e⟩
  ·exact .inr h
 have holdk:∀ i,bI { G with loc:=fun x=>if x=k then some ⟨0,H.size,0,cap,es⟩ else G.loc x } k i→i=H.size:=by
  intro i h
  rcases h with ⟨K,hK,e⟩ | h
  ·simp at hK;subst hK;exact e.symm
  ·change G.ml k=some i at h
   rw [hm] at h;cases h
 have old:∀ i,i<H.size→(H.push ob)[i]?=H[i]?:=by
  intro i hi
  rw [Array.getElem?_push,if_neg (by omega)]
 refine ⟨hle,?_⟩
 constructor
 ·intro x hx
  have hx':nx≤x:=hx
  have:x≠k:=by omega
  simp only [this,if_false]
  exact R.fresh x (by omega)
 ·intro x K hK
  by_cases hx:x=k
  ·subst hx;exact hm
  ·simp [hx] at hK;exact R.sep x K hK
 ·intro x b hb
  simp only at hb
  rw [Tr.get_putB _ _ _ _ hlim] at hb
  by_cases hx:x=k
  ·subst hx
   simp at hb;subst hb
   exact hrow hle
  ·rw [if_neg hx] at hb
   have hold:=R.blk x b hb
   cases b with
   | row ver' es' elems'=>
    obtain ⟨K,hK,r1,r2,r3,c',ty',fr',hc,r4,r5,r6⟩:=hold
    exact ⟨K,by simp [hx,hK],r1,r2,r3,c',ty',fr',by rw [old _ (R.lt x _ (.inl ⟨K,hK,rfl⟩))];exact hc,r4,r5,r6.mono hle⟩
   | mp kvs=>
    obtain ⟨i,es',clock,hi,hH,r1,r2⟩:=hold
    exact ⟨i,es',clock,hi,by rw [old _ (R.lt x _ (.inr hi))];exact hH,r1.mono hle,r2⟩
   | iter s pos=>
    obtain ⟨K,hK,r1,r2,hH⟩:=hold
    exact ⟨K,by simp [hx,hK],r1,r2,by rw [old _ (R.lt x _ (.inl ⟨K,hK,rfl⟩))];exact hH⟩
 ·intro x y b b' i hb hb' h1 h2
  simp only at hb hb'
  rw [Tr.get_putB _ _ _ _ hlim] at hb hb'
  by_cases hx:x=k
  ·by_cases hy:y=k
   ·rw [hx,hy]
   ·subst hx
    have e:=holdk i h1
    subst e
    have:=R.lt y _ (holds y _ hy h2);omega
  ·rw [if_neg hx] at hb
   by_cases hy:y=k
   ·subst hy
    have e:=holdk i h2
    subst e
    have:=R.lt x _ (holds x _ hx h1);omega
   ·rw [if_neg hy] at hb'
    exact R.inj x y b b' i hb hb' (holds x i hx h1) (holds y i hy h2)
 ·intro i o h
  have hlt':i<H.size:=(Array.getElem?_eq_some_iff.1 (R.fr i o h)).1
  rw [old i hlt'];exact R.fr i o h
 ·intro i o h
  have hlt':i<H.size:=(Array.getElem?_eq_some_iff.1 (R.pr i o h)).1
  rw [old i hlt'];exact R.pr i o h
 ·intro x b i hb h
  simp only at hb
  rw [Tr.get_putB _ _ _ _ hlim] at hb
  by_cases hx:x=k
  ·subst hx
   have e:=holdk i h
   subst e
   constructor
   ·cases hF:F H.size with
    | none=>rfl
    | some o=>have:=(Array.getElem?_eq_some_iff.1 (R.fr _ o hF)).1;omega
   ·cases hF:G.pr H.size with
    | none=>rfl
    | some o=>have:=(Array.getElem?_eq_some_iff.1 (R.pr _ o hF)).1;omega
  ·rw [if_neg hx] at hb
   exact R.own x b i hb (holds x i hx h)
 ·intro x i h
  by_cases hx:x=k
  ·subst hx
   rw [holdk i h];simp
  ·have:=R.lt x i (holds x i hx h);simp;omega
 ·intro x b hb
  simp only at hb
  rw [Tr.get_putB _ _ _ _ hlim] at hb
  by_cases hx:x=k
  ·subst hx;exact hlim
  ·rw [if_neg hx] at hb;exact R.small x b hb
theorem RelH.alloc {F:Nat→Option Obj} {G:Gh} {S:St} {H:Array Obj} (R:cO F G S H) {k nx:Nat} (hk:G.loc k=none) (hm:G.ml k=none) (hlim:k<jM k)
  (hn:S.next≤nx) (hkn:k<nx) {c:Array Value} {ty:TypeId} {fr:Nat×Nat} {cap es:Nat} {elems:List (List V)} (hlen:elems.length≤cap) (hsz:cap*es≤c.size)
  (hfr:∀ o,o<cap*es→¬ (fr.1≤o∧o<fr.2)) (hfr':es≠1→¬ (fr.1≤c.size∧c.size<fr.2)) (hrow:RowR G c 0 es elems):
  G.le { G with loc:=fun x=>if x=k then some ⟨0,H.size,0,cap,es⟩ else G.loc x } ∧
  cO F { G with loc:=fun x=>if x=k then some ⟨0,H.size,0,cap,es⟩ else G.loc x } ⟨nx,S.heap.put k (.row 0 es elems)⟩ (H.push (.cells c ty fr)):=by
 refine R.allocBlk hk hm hlim hn hkn (nb:=.row 0 es elems) (fun hle=>?_)
 refine ⟨⟨0,H.size,0,cap,es⟩,by simp,rfl,rfl,hlen,c,ty,fr,by simp,by simpa using hsz,⟨?_,hfr'⟩,hrow.mono hle⟩
 intro o _ ho
 exact hfr o (by simpa using ho)
def CellsAt (G:Gh) (W:World) (b o:Nat) (cs:List V):Prop:=
 ∀ q v,cs[q]?=some v→∃ w,W.cell? ⟨b,o+q,none⟩=some w∧VR G v w
theorem CellsAt.values {G:Gh} {W:World} {b o:Nat} {cs:List V} (h:CellsAt G W b o cs):
  ∃ ws,VRs G cs ws∧∀ q w,ws[q]?=some w→W.cell? ⟨b,o+q,none⟩=some w:=by
 induction cs generalizing o with
 | nil=>exact ⟨[],.nil,by simp⟩
 | cons v cs ih=>
  obtain ⟨w,hw,hv⟩:=h 0 v (by simp)
  obtain ⟨ws,h1,h2⟩:=ih (o:=o+1) (fun q v hv=>by
   obtain ⟨w,a,b⟩:=h (q+1) v (by simpa using hv)
   exact ⟨w,by rw [show o+1+q=o+(q+1) by omega];exact a,b⟩)
  refine ⟨w::ws,.cons _ _ _ _ hv h1,fun q w' hq=>?_⟩
  cases q with
  | zero=>simp at hq;subst hq;exact hw
  | succ q=>
   have:=h2 q w' (by simpa using hq)
   rw [show o+(q+1)=o+1+q by omega];exact this
theorem cY (b o n:Nat):(Addr.mk b o none).add n=⟨b,o+n,none⟩:=by
 unfold Addr.add
 split
 ·subst n;rfl
 ·rfl
theorem bY {P:Program} {t:TypeId} {d:TypeDesc} (h:P.underlying t=some d) (W:World):(sizeOf t).run P W=.ok (sz P t) W:=by
 have:∃ i,P.info? t=some i:=by
  unfold Program.underlying at h
  cases hi:P.info? t with
  | none=>rw [hi] at h;cases h
  | some i=>exact ⟨i,rfl⟩
 obtain ⟨i,hi⟩:=this
 simp [sizeOf,typeInfo,hi,sz,Program.cellsOf]
theorem uA {P:Program} {t:TypeId} {d:TypeDesc} (h:P.underlying t=some d) (W:World):(Go.isAgg t).run P W=.ok (aEm d) W:=by
 simp only [Go.isAgg,Sem.run_bind,run_underlying h,Result.andThen_ok]
 cases d<;>rfl
theorem jT {P:Program} {t:TypeId} {cs:List V} {off:Nat} {v:V} (h:kC P t cs off=.ok v) {G:Gh} {ws:List Value} (hw:VRs G cs ws) (W:World):
  ∃ w,(part t ws.toArray off).run P W=.ok w W∧VR G v w:=by
 unfold kC at h
 split at h
 ·cases h
 ·rename_i d hd
  simp only [part,Sem.run_bind,uA hd,Result.andThen_ok]
  cases ha:aEm d
  ·rw [ha] at h
   simp only [cond_false] at h
   simp only [Bool.false_eq_true,if_false]
   split at h
   ·rename_i x hx
    cases h
    obtain ⟨w,a,b⟩:=hw.get hx
    exact ⟨w,by simp [a],b⟩
   ·cases h
  ·rw [ha] at h
   simp only [cond_true] at h
   simp only [cond_eq_ite] at h
   split at h
   ·cases h
    simp only [if_true,Sem.run_bind,bY hd,Result.andThen_ok]
    refine ⟨_,rfl,?_⟩
    refine .agg _ _ ?_
    have:(ws.toArray.extract off (off+sz P t)).toList=(ws.drop off).take (sz P t):=by
     simp [List.extract_eq_take_drop]
    rw [this]
    exact (hw.drop off).take _
   ·cases h
theorem lR {P:Program} {t:TypeId} {cs:List V} {j:Nat} {v:V} (h:kC P t cs j=.ok v) {G:Gh} {W:World} {b o:Nat} (hc:CellsAt G W b o cs):
  ∃ w,(loadVar t ⟨b,o+j,none⟩).run P W=.ok w W∧VR G v w:=by
 unfold kC at h
 split at h
 ·cases h
 ·rename_i d hd
  simp only [loadVar,Sem.run_bind,uA hd,Result.andThen_ok]
  cases ha:aEm d
  ·rw [ha] at h
   simp only [cond_false] at h
   simp only [Bool.false_eq_true,if_false]
   split at h
   ·rename_i x hx
    cases h
    obtain ⟨w,a,b⟩:=hc _ _ hx
    exact ⟨w,by simp [run_load,a],b⟩
   ·cases h
  ·rw [ha] at h
   simp only [cond_true] at h
   simp only [cond_eq_ite] at h
   split at h
   ·rename_i hle
    cases h
    have hle':j+sz P t≤cs.length:=by simpa using hle
    simp only [if_true,Sem.run_bind,bY hd,Result.andThen_ok]
    obtain ⟨ws,h1,h2⟩:=hc.values
    have hlen:((ws.drop j).take (sz P t)).length=sz P t:=by
     have:=h1.length
     simp;omega
    have:=run_loadCells_list (P:=P) W ⟨b,o+j,none⟩ ((ws.drop j).take (sz P t)) (fun q w hq=>by
     rw [cY,show o+j+q=o+(j+q) by omega]
     refine h2 (j+q) w ?_
     rw [List.getElem?_take] at hq
     split at hq
     ·rw [List.getElem?_drop] at hq;exact hq
     ·cases hq)
    rw [hlen] at this
    rw [this]
    exact ⟨_,rfl,.agg _ _ (by simpa using (h1.drop j).take (sz P t))⟩
   ·cases h
theorem bK {W:World} {b:Nat} {c:Array Value} {ty:TypeId} {fr:Nat×Nat} (h:W.heap[b]?=some (.cells c ty fr)) (o:Nat):W.cell? ⟨b,o,none⟩=c[o]?:=by
 simp [World.cell?,h]
theorem RowR.cellsAt {G:Gh} {W:World} {L:Loc} {c:Array Value} {ty:TypeId} {fr:Nat×Nat} {es:Nat} {elems:List (List V)} (hb:W.heap[L.cb]?=some (.cells c ty fr))
  (h:RowR G c L.co es elems) {i:Nat} {cs:List V} (hi:elems[i]?=some cs):CellsAt G W L.cb (L.co+i*es) cs:=by
 intro q v hv
 obtain ⟨w,a,b⟩:=(h i cs hi).2 q v hv
 exact ⟨w,by rw [bK hb];exact a,b⟩
theorem dA {S:St} {a ver es:Nat} {elems:List (List V)} (h:bA S a ver=.ok (es,elems)):S.heap.get a=some (.row ver es elems):=by
 unfold bA at h
 split at h
 ·rename_i v es' el hg
  cases hb:Nat.beq v ver
  ·rw [hb] at h;cases h
  ·rw [hb] at h
   simp only [cond_true] at h
   cases h
   rw [hg,Nat.eq_of_beq_eq_true hb]
 ·cases h
theorem rS {P:Program} {t:TypeId} {p:V} {S:St} {v:V} (h:gA P t p S=.ok v) {F:Nat→Option Obj} {G:Gh} {W:World} (R:cO F G S W.heap)
  {q:Value} (hq:VR G p q):∃ w,(Instr.loadAt t q).run P W=.ok w W∧VR G v w:=by
 unfold gA at h
 split at h
 ·rename_i a ver i j
  split at h
  ·cases h
  ·rename_i es elems hrow
   have hr:=dA hrow
   split at h
   ·rename_i cs hcs
    cases hq with
    | ptr _ _ _ _ ad hp=>
     obtain ⟨L,hL,hp⟩:=hp
     obtain ⟨L',hL',r1,r2,r3,c,ty,fr,hc,r4,r5,r6⟩:=R.blk a _ hr
     rw [hL] at hL';cases hL'
     rcases hp with hp | ⟨_,rfl⟩
     ·omega
     ·obtain ⟨w,a1,a2⟩:=lR h (r6.cellsAt hc hcs)
      refine ⟨w,?_,a2⟩
      simp only [Instr.loadAt,Instr.sureAddr,Sem.run_bind,Sem.run_pure,Result.andThen_ok]
      rw [r2];exact a1
   ·cases h
 ·rename_i cs j
  cases hq with
  | iptr _ _ b o c ty fr hb vs hv hvs=>
   have hH:=R.pr _ _ hb
   obtain ⟨w,a1,a2⟩:=lR (G:=G) (W:=W) (b:=b) (o:=o) h (fun q v hq=>by
    obtain ⟨w,x,y⟩:=hvs.get hq
    exact ⟨w,by rw [bK hH];exact hv _ _ x,y.mono G.shut_le⟩)
   exact ⟨w,by simp only [Instr.loadAt,Instr.sureAddr,Sem.run_bind,Sem.run_pure,Result.andThen_ok];exact a1,a2⟩
 ·cases h
def aM (c:Array Value) (o:Nat):List Value→Array Value
 | []=>c
 | v::l=>aM (c.setIfInBounds o v) (o+1) l
theorem aO (c:Array Value) (o:Nat) (l:List Value):(aM c o l).size=c.size:=by
 induction l generalizing c o with
 | nil=>rfl
 | cons v l ih=>simp [aM,ih]
theorem bE (c:Array Value) (o:Nat) (l:List Value) (k:Nat):
  (aM c o l)[k]?=if o≤k∧k<o+l.length∧k<c.size then l[k - o]? else c[k]?:=by
 induction l generalizing c o with
 | nil=>simp only [aM,List.length_nil];rw [if_neg (by omega)]
 | cons v l ih=>
  simp only [aM,ih,Array.size_setIfInBounds,List.length_cons]
  by_cases h1:k=o
  ·subst h1
   rw [if_neg (by omega)]
   by_cases h2:k<c.size
   ·rw [if_pos (by omega)];simp [h2]
   ·rw [if_neg (by omega)];simp [h2]
  ·rw [Array.getElem?_setIfInBounds_ne (by omega)]
   by_cases h2:o+1≤k∧k<o+1+l.length∧k<c.size
   ·rw [if_pos h2,if_pos (by omega)]
    obtain ⟨m,rfl⟩:∃ m,k=o+1+m:=⟨k - (o+1),by omega⟩
    rw [show o+1+m - (o+1)=m by omega,show o+1+m - o=m+1 by omega]
    simp
   ·rw [if_neg h2,if_neg (by omega)]
theorem vO {W:World} {b o:Nat} {v:Value} {c:Array Value} {ty:TypeId} {fr:Nat×Nat} (h:W.heap[b]?=some (.cells c ty fr)):
  (W.setCell ⟨b,o,none⟩ v).heap[b]?=some (.cells (c.setIfInBounds o v) ty fr)∧(∀ k,k≠b→(W.setCell ⟨b,o,none⟩ v).heap[k]?=W.heap[k]?) ∧
  (W.setCell ⟨b,o,none⟩ v).heap.size=W.heap.size∧Same W (W.setCell ⟨b,o,none⟩ v):=by
 refine ⟨?_,?_,by simp,⟨rfl,rfl,rfl,by simp⟩⟩
 ·simp [World.setCell,Array.getElem?_modify,h]
 ·intro k hk
  simp only [World.setCell,Array.getElem?_modify]
  rw [if_neg (by omega)]
theorem cE {P:Program} {b o:Nat} {ty:TypeId} {fr:Nat×Nat}:∀ (l:List Value) (i:Nat) (W:World) (c:Array Value),
  W.heap[b]?=some (.cells c ty fr)→(∀ v∈l,v.oneCell'=true)→o+i+l.length≤c.size→(∀ k,o+i≤k→k<o+i+l.length→¬ (fr.1≤k∧k<fr.2))→
  ∃ W',(storeCells ⟨b,o,none⟩ l i).run P W=.ok () W'∧W'.heap[b]?=some (.cells (aM c (o+i) l) ty fr)∧(∀ k,k≠b→W'.heap[k]?=W.heap[k]?) ∧
   W'.heap.size=W.heap.size∧Same W W':=by
 intro l
 induction l with
 | nil=>
  intro i W c hb _ _ _
  exact ⟨W,by simp [storeCells],by simpa [aM] using hb,fun _ _=>rfl,rfl,Same.refl W⟩
 | cons v l ih=>
  intro i W c hb ho hs hf
  have hcell:W.cell? ⟨b,o+i,none⟩=some (c[o+i]'(by simp at hs;omega)):=by
   rw [bK hb];exact Array.getElem?_eq_getElem _
  have hfz:W.frozen? ⟨b,o+i,none⟩=false:=by
   have:=hf (o+i) (by omega) (by simp)
   simp only [World.frozen?,hb]
   simp only [Bool.and_eq_false_iff,decide_eq_false_iff_not]
   omega
  obtain ⟨h1,h2,h3,h4⟩:=vO (o:=o+i) (v:=v) hb
  obtain ⟨W',r1,r2,r3,r4,r5⟩:=ih (i+1) (W.setCell ⟨b,o+i,none⟩ v) (c.setIfInBounds (o+i) v) h1 (fun x hx=>ho x (List.mem_cons_of_mem _ hx))
   (by simp at hs ⊢;omega) (fun k hk1 hk2=>hf k (by omega) (by simp;omega))
  refine ⟨W',?_,?_,fun k hk=>(r3 k hk).trans (h2 k hk),r4.trans h3,h4.trans r5⟩
  ·simp only [storeCells,Sem.run_bind,cY,run_store P W _ v _ (ho v (by simp)),hcell,hfz,Bool.false_eq_true,if_false,Result.andThen_ok]
   exact r1
  ·simpa [aM,Nat.add_assoc] using r2
theorem eB {l:List V} (h:aP l=true) {v:V} (hv:v∈l):v.one=true:=List.all_eq_true.1 h v hv
theorem VRs.ones {G:Gh} {vs:List V} {ws:List Value} (h:VRs G vs ws) (ho:aP vs=true):∀ w∈ws,w.oneCell'=true:=by
 intro w hw
 obtain ⟨i,hi,e⟩:=List.getElem_of_mem hw
 have hi':i<vs.length:=by rw [h.length];exact hi
 obtain ⟨w',hw',r⟩:=h.get (i:=i) (v:=vs[i]) (by simp)
 have:w'=w:=by
  rw [List.getElem?_eq_getElem hi] at hw'
  exact (Option.some.inj hw').symm.trans e
 subst this
 exact r.one (eB ho (List.getElem_mem _))
theorem lS (cs:List V) (j:Nat) (xs:List V) (h:j+xs.length≤cs.length):(splice cs j xs).length=cs.length:=by
 simp [splice];omega
theorem mD (cs:List V) (j:Nat) (xs:List V) (h:j+xs.length≤cs.length) (k:Nat):
  (splice cs j xs)[k]?=if j≤k∧k<j+xs.length then xs[k - j]? else cs[k]?:=by
 unfold splice
 by_cases h1:k<j
 ·rw [if_neg (by omega),List.getElem?_append_left (by simp;omega),List.getElem?_take,if_pos h1]
 ·rw [List.getElem?_append_right (by simp;omega)]
  have e:(cs.take j).length=j:=by simp;omega
  rw [e]
  by_cases h2:k<j+xs.length
  ·rw [if_pos (by omega),List.getElem?_append_left (by omega)]
  ·rw [if_neg (by omega),List.getElem?_append_right (by omega),List.getElem?_drop]
   congr 1;omega
theorem xI {P:Program} {t:TypeId} {p x:V} {S S':St} (h:iQ P t p x S=.ok S') {F:Nat→Option Obj} {G:Gh} {W:World} (R:cO F G S W.heap)
  {q y:Value} (hq:VR G p q) (hy:VR G x y):∃ W',(Instr.storeAt t q y).run P W=.ok () W'∧cO F G S' W'.heap∧Same W W'∧S'.next=S.next∧(∀ a,S.heap.get a=none→S'.heap.get a=none):=by
 unfold iQ at h
 split at h
 ·rename_i a ver i j d hd
  split at h
  ·cases h
  ·rename_i es elems hrow
   have hr:=dA hrow
   split at h
   ·rename_i cs hcs
    rw [cond_eq_ite] at h
    split at h
    ·rename_i hc
     cases h
     simp only [Bool.and_eq_true,Nat.beq_eq,Nat.ble_eq] at hc
     obtain ⟨⟨hsz,hone⟩,hle⟩:=hc
     cases hq with
     | ptr _ _ _ _ ad hp=>
      obtain ⟨L,hL,hp⟩:=hp
      obtain ⟨L',hL',r1,r2,r3,c,ty,fr,hcb,r4,r5,r6⟩:=R.blk a _ hr
      rw [hL] at hL';cases hL'
      rcases hp with hp | ⟨_,rfl⟩
      ·omega
      ·have hxy:=hy.cells
       have hlen:=hxy.length
       have hi:i<elems.length:=(List.getElem?_eq_some_iff.1 hcs).1
       have hcl:=(r6 i cs hcs).1
       have hin:(i+1)*es≤L.cap*es:=Nat.mul_le_mul_right es (by omega)
       have hin':i*es+es≤L.cap*es:=by rw [Nat.succ_mul] at hin;exact hin
       obtain ⟨W',s1,s2,s3,s4,s5⟩:=cE (P:=P) (b:=L.cb) (o:=L.co+i*L.es+j) (ty:=ty) (fr:=fr) y.cells.toList 0 W c hcb (hxy.ones hone)
        (by rw [r2];omega) (fun k hk1 hk2=>r5.1 k (by rw [r2] at hk1;omega) (by rw [r2] at hk2;omega))
       simp only [Nat.add_zero] at s2
       refine ⟨W',?_,?_,s5,rfl,fun x hx=>by
        show (S.heap.put a _).get x=none
        rw [Tr.get_put_neB _ _ _ _ (R.small a _ hr) (fun e=>by rw [e,hr] at hx;cases hx)];exact hx⟩
       ·simp only [Instr.storeAt,Instr.sureAddr,Sem.run_bind,Sem.run_pure,Result.andThen_ok,storeVar,bY hd]
        rw [if_neg (by rw [←hsz,hlen];simp)]
        exact s1
       ·refine R.keepRow hr hL s3 s4 ⟨r1,r2,by simpa using r3,_,ty,fr,s2,by rw [aO];exact r4,⟨r5.1,by rw [aO];exact r5.2⟩,?_⟩
        have hset:∀ (k:Nat) (w:Value),c[k]?=some w→¬ (L.co+i*L.es+j≤k∧k<L.co+i*L.es+j+x.cells.length)→
          (aM c (L.co+i*L.es+j) y.cells.toList)[k]?=some w:=by
         intro k w hk hn
         rw [bE,if_neg (by omega)];exact hk
        intro i' cs' hcs'
        rw [List.getElem?_set] at hcs'
        by_cases hii:i=i'
        ·subst hii
         rw [if_pos rfl,if_pos hi] at hcs'
         cases hcs'
         refine ⟨by rw [lS _ _ _ hle];exact hcl,fun q v hv=>?_⟩
         rw [mD _ _ _ hle] at hv
         split at hv
         ·rename_i hq
          obtain ⟨w,w1,w2⟩:=hxy.get hv
          refine ⟨w,?_,w2⟩
          rw [bE,if_pos ⟨by rw [r2];omega,by rw [r2];omega,by omega⟩]
          rw [r2,show L.co+i*es+q - (L.co+i*es+j)=q - j by omega];exact w1
         ·obtain ⟨w,w1,w2⟩:=(r6 i cs hcs).2 q v hv
          exact ⟨w,hset _ w w1 (by rw [r2];omega),w2⟩
        ·rw [if_neg hii] at hcs'
         refine ⟨(r6 i' cs' hcs').1,fun q v hv=>?_⟩
         obtain ⟨w,w1,w2⟩:=(r6 i' cs' hcs').2 q v hv
         have hq:q<es:=by
          have:=(List.getElem?_eq_some_iff.1 hv).1
          rw [(r6 i' cs' hcs').1] at this;exact this
         refine ⟨w,hset _ w w1 ?_,w2⟩
         rw [r2]
         rcases Nat.lt_or_ge i' i with hlt | hge
         ·have:(i'+1)*es≤i*es:=Nat.mul_le_mul_right es (by omega)
          rw [Nat.succ_mul] at this;omega
         ·have:(i+1)*es≤i'*es:=Nat.mul_le_mul_right es (by omega)
          rw [Nat.succ_mul] at this;omega
    ·cases h
   ·cases h
 ·cases h
structure Sim (F:Nat→Option Obj) (fr:Option Nat) (G:Gh) (S:St) (W:World) (G':Gh) (S':St) (W':World):Prop where
 le:G.le G'
 rel:cO F G' S' W'.heap
 same:Same W W'
 next:S.next≤S'.next
 keep:∀ a,S.heap.get a=none→a<S.next→fr≠some a→G'.loc a=G.loc a∧G'.ml a=G.ml a
 dead:∀ a,S.heap.get a=none→a<S.next→fr≠some a→S'.heap.get a=none
 prn:∀ i o,G'.pr i=some o→G.pr i=some o∨F i=none
theorem Sim.refl {F:Nat→Option Obj} {fr:Option Nat} {G:Gh} {S:St} {W:World} (R:cO F G S W.heap):Sim F fr G S W G S W:=
 ⟨G.le_refl,R,Same.refl W,Nat.le_refl _,fun _ _ _ _=>⟨rfl,rfl⟩,fun _ h _ _=>h,fun _ _ h=>.inl h⟩
def kP (fr:Option Nat) (G:Gh) (S:St):Prop:=∀ k,fr=some k→k<S.next∧G.loc k=none∧G.ml k=none
theorem eN {α:Type} (n:Nat):∀ (l:List (List α)),(∀ x∈l,x.length=n)→∀ (i j:Nat),j<n→l.flatten[i*n+j]?=(l[i]?).bind (·[j]?)
 | [],_,i,j,_=>by simp
 | x::l,h,i,j,hj=>by
  have hx:x.length=n:=h x (by simp)
  cases i with
  | zero=>simp only [Nat.zero_mul,Nat.zero_add,List.flatten_cons];rw [List.getElem?_append_left (by omega)];simp
  | succ i=>
   rw [List.flatten_cons,Nat.succ_mul,List.getElem?_append_right (by omega),show i*n+n+j - x.length=i*n+j by omega,eN n l (fun y hy=>h y (List.mem_cons_of_mem _ hy)) i j hj]
   simp
theorem aX {α:Type} (n:Nat):∀ (l:List (List α)),(∀ x∈l,x.length=n)→l.flatten.length=l.length*n
 | [],_=>by simp
 | x::l,h=>by
  rw [List.flatten_cons,List.length_append,aX n l (fun y hy=>h y (List.mem_cons_of_mem _ hy)),h x (by simp),List.length_cons,Nat.succ_mul];omega
theorem eO {G:Gh} {c:Array Value} {es:Nat} {elems:List (List V)} {ws:List Value} (hl:∀ x∈elems,x.length=es) (hv:VRs G elems.flatten ws)
  (hc:∀ (k:Nat) (w:Value),ws[k]?=some w→c[k]?=some w):RowR G c 0 es elems:=by
 intro i cs hi
 have hcs:cs∈elems:=List.mem_of_getElem? hi
 refine ⟨hl cs hcs,fun j v hj=>?_⟩
 have hj':j<es:=by rw [←hl cs hcs];exact (List.getElem?_eq_some_iff.1 hj).1
 have:elems.flatten[i*es+j]?=some v:=by rw [eN es elems hl i j hj',hi];exact hj
 obtain ⟨w,w1,w2⟩:=hv.get this
 exact ⟨w,by rw [Nat.zero_add];exact hc _ _ w1,w2⟩
theorem lT {fr:Option Nat} {S S':St} {es:Nat} {elems:List (List V)} {a:Nat} (h:aV fr S (.row 0 es elems)=.ok (a,S'))
  {F:Nat→Option Obj} {G:Gh} {W W':World} (R:cO F G S W.heap) (hf:kP fr G S) {c:Array Value} {ty:TypeId} {fz:Nat×Nat} {cap:Nat} (hW:W'.heap=W.heap.push (.cells c ty fz))
  (hs:Same W W') (hlen:elems.length≤cap) (hsz:cap*es≤c.size) (hfz:∀ o,o<cap*es→¬ (fz.1≤o∧o<fz.2)) (hfz':es≠1→¬ (fz.1≤c.size∧c.size<fz.2)) (hrow:RowR G c 0 es elems):
  ∃ G',Sim F fr G S W G' S' W'∧G'.loc a=some ⟨0,W.heap.size,0,cap,es⟩:=by
 unfold aV at h
 split at h
 ·rw [cond_eq_ite] at h
  split at h
  ·rename_i hl
   cases h
   have hl':S.next<jM S.next:=by simpa using hl
   obtain ⟨f1,f2⟩:=R.fresh S.next (Nat.le_refl _)
   obtain ⟨g1,g2⟩:=R.alloc (k:=S.next) (nx:=S.next+1) f1 f2 hl' (by omega) (by omega) (c:=c) (ty:=ty) (fr:=fz) hlen hsz hfz hfz' hrow
   refine ⟨_,⟨g1,by rw [hW];exact g2,hs,by simp,fun x hx hlt _=>⟨?_,rfl⟩,fun x hx hlt _=>?_,fun _ _ h=>.inl h⟩,by simp⟩
   ·have:x≠S.next:=by omega
    simp [this]
   ·show (S.heap.put S.next _).get x=none
    rw [Tr.get_put_neB _ _ _ _ hl' (by omega)];exact hx
  ·cases h
 ·rename_i k
  rw [cond_eq_ite] at h
  split at h
  ·rename_i hl
   cases h
   have hl':a<jM a:=by simpa using hl
   obtain ⟨f0,f1,f2⟩:=hf a rfl
   obtain ⟨g1,g2⟩:=R.alloc (k:=a) (nx:=S.next) f1 f2 hl' (Nat.le_refl _) f0 (c:=c) (ty:=ty) (fr:=fz) hlen hsz hfz hfz' hrow
   refine ⟨_,⟨g1,by rw [hW];exact g2,hs,by simp,fun x hx hlt hne=>⟨?_,rfl⟩,fun x hx hlt hne=>?_,fun _ _ h=>.inl h⟩,by simp⟩
   ·have:x≠a:=fun e=>hne (by rw [e])
    simp [this]
   ·show (S.heap.put a _).get x=none
    rw [Tr.get_put_neB _ _ _ _ hl' (fun e=>hne (by rw [e]))];exact hx
  ·cases h
theorem gE {fr:Option Nat} {S S':St} {es:Nat} {elems:List (List V)} {a:Nat} (h:aV fr S (.row 0 es elems)=.ok (a,S'))
  {F:Nat→Option Obj} {G:Gh} {W W':World} (R:cO F G S W.heap) (hf:kP fr G S) {c:Array Value} {ty:TypeId} {cap:Nat} (hW:W'.heap=W.heap.push (.cells c ty))
  (hs:Same W W') (hlen:elems.length≤cap) (hsz:cap*es≤c.size) (hrow:RowR G c 0 es elems):
  ∃ G',Sim F fr G S W G' S' W'∧G'.loc a=some ⟨0,W.heap.size,0,cap,es⟩:=
 lT h R hf hW hs hlen hsz (fun o _=>by simp) (fun _=>by simp) hrow
theorem cU {P:Program} {t:TypeId} {z:V} (h:aF P t=some z):∃ i w,P.info? t=some i∧i.zero=some w∧ofValue w=some z:=by
 unfold aF at h
 split at h
 ·rename_i w hw
  cases hi:P.info? t with
  | none=>rw [hi] at hw;cases hw
  | some i=>rw [hi] at hw;exact ⟨i,w,rfl,hw,h⟩
 ·cases h
theorem eC {P:Program} {t:TypeId} {i:TypeInfo} (h:P.info? t=some i):sz P t=i.size:=by simp [sz,Program.cellsOf,h]
theorem iT {P:Program} {t:TypeId} {i:TypeInfo} (h:P.info? t=some i):P.bytesOf t=i.bytes:=by simp [Program.bytesOf,h]
theorem nC {P:Program} {v:V} {w:Value} {G:Gh} (hv:VR G v w) {fr:Option Nat} {S S':St} {a:Nat} (h:aV fr S (.row 0 v.cells.length [v.cells])=.ok (a,S'))
  {F:Nat→Option Obj} {W:World} (R:cO F G S W.heap) (hf:kP fr G S) (t:TypeId):
  ∃ W' G',(newVar t w).run P W=.ok ⟨W.heap.size,0,none⟩ W'∧Sim F fr G S W G' S' W'∧VR G' (.ptr a 0 0 0) (.pointer (some ⟨W.heap.size,0,none⟩)):=by
 have hc:=hv.cells
 have hl:=hc.length
 obtain ⟨G',h1,h2⟩:=gE (W':=W.alloc (.cells w.cells t)) (c:=w.cells) (ty:=t) (cap:=1) h R hf rfl (Same.alloc _ _) (by simp) (by simp at hl;omega)
  (eO (ws:=w.cells.toList) (by simp) (by simpa using hc) (fun k x hx=>by simpa using hx))
 refine ⟨_,G',?_,h1,.ptr _ _ _ _ _ ⟨_,h2,.inr ⟨rfl,by simp⟩⟩⟩
 simp [newVar,newRow]
theorem xJ {P:Program} {t:TypeId} {z:V} (hz:aF P t=some z) {fr:Option Nat} {S S':St} {a:Nat} (h:aV fr S (.row 0 z.cells.length [z.cells])=.ok (a,S'))
  {F:Nat→Option Obj} {G:Gh} {W:World} (R:cO F G S W.heap) (hf:kP fr G S):
  ∃ W' G' w,(Instr.alloc t true (.tuple #[])).run P W=.ok w W'∧Sim F fr G S W G' S' W'∧VR G' (.ptr a 0 0 0) w:=by
 obtain ⟨i,w,hi,hw,ho⟩:=cU hz
 obtain ⟨W',G',h1,h2,h3⟩:=nC (P:=P) (cN G ho) h R hf t
 exact ⟨W',G',_,by simp [Instr.alloc,zeroValue,typeInfo,hi,hw,h1],h2,h3⟩
theorem aD9 {P:Program} {t:TypeId} {v:V} {w:Value} {G:Gh} (hv:VR G v w) {fr:Option Nat} {S S':St} {a:Nat} (h:aV fr S (.row 0 v.cells.length [v.cells])=.ok (a,S'))
  {F:Nat→Option Obj} {W:World} (R:cO F G S W.heap) (hf:kP fr G S):
  ∃ W' G' x,(Instr.box t w).run P W=.ok x W'∧Sim F fr G S W G' S' W'∧VR G' (.ptr a 0 0 0) x:=by
 obtain ⟨W',G',h1,h2,h3⟩:=nC (P:=P) hv h R hf t
 exact ⟨W',G',_,by simp [Instr.box,h1],h2,h3⟩
theorem pG (off:Nat):∀ (l:List Value) (n:Nat) (cells:Array Value),
  (l.zipIdx n).foldl (fun cs x=>cs.setIfInBounds (off+x.2) x.1) cells=aM cells (off+n) l
 | [],_,_=>rfl
 | v::l,n,cells=>by
  simp only [List.zipIdx_cons,List.foldl_cons,aM]
  rw [pG off l (n+1),Nat.add_assoc]
theorem nD (cells:Array Value) (off:Nat) (l:Array Value):
  l.zipIdx.foldl (fun cs (x:Value×Nat)=>cs.setIfInBounds (off+x.2) x.1) cells=aM cells off l.toList:=by
 rw [←Array.foldl_toList,Array.toList_zipIdx]
 exact pG off l.toList 0 cells
theorem VRs.splice {G:Gh} {cs xs:List V} {c y:Array Value} {j:Nat} (h:VRs G cs c.toList) (k:VRs G xs y.toList) (hj:j+xs.length≤cs.length):
  VRs G (AM.splice cs j xs) (aM c j y.toList).toList:=by
 have l1:=h.length
 have l2:=k.length
 refine VRs.of (by rw [lS _ _ _ hj,l1];simp [aO]) fun i v w hv hw=>?_
 rw [mD _ _ _ hj] at hv
 have hw':(aM c j y.toList)[i]?=some w:=by simpa using hw
 rw [bE] at hw'
 split at hv
 ·rename_i hi
  rw [if_pos ⟨hi.1,by omega,by simp at l1;omega⟩] at hw'
  obtain ⟨w2,a,b⟩:=k.get hv
  rw [a] at hw';cases hw';exact b
 ·rename_i hi
  rw [if_neg (by omega)] at hw'
  obtain ⟨w2,a,b⟩:=h.get hv
  have:c[i]?=some w2:=by simpa using a
  rw [this] at hw';cases hw';exact b
inductive PsR (G:Gh):List (Nat×V)→List (Nat×Value)→Prop
 | nil:PsR G [] []
 | cons (i:Nat) (v:V) (w:Value) (vs:List (Nat×V)) (ws:List (Nat×Value)) (h:VR G v w) (t:PsR G vs ws):PsR G ((i,v)::vs) ((i,w)::ws)
theorem mE {G:Gh} {place place':Nat→Option (Nat×Nat)} (hp:∀ i x,place i=some x→place' i=some x):∀ {parts:List (Nat×V)} {ps:List (Nat×Value)},PsR G parts ps→
  ∀ {cells out:List V} {c:Array Value},VRs G cells c.toList→kO place cells parts=.ok out→∃ c',Instr.fill place' c ps=some c'∧VRs G out c'.toList
 | _,_,.nil,cells,out,c,hc,h=>by simp [kO] at h;subst h;exact ⟨c,rfl,hc⟩
 | _,_,.cons i v w vs ws hv t,cells,out,c,hc,h=>by
  simp only [kO] at h
  split at h
  ·cases h
  ·rename_i off size hpl
   rw [cond_eq_ite] at h
   split at h
   ·rename_i hok
    simp only [Bool.and_eq_true,Nat.beq_eq,Nat.ble_eq] at hok
    have hl:=hv.cells.length
    have hcl:=hc.length
    obtain ⟨c',h1,h2⟩:=mE hp t (hc.splice hv.cells hok.1.2) h
    refine ⟨c',?_,h2⟩
    simp only [Instr.fill,hp _ _ hpl]
    rw [if_neg ?_]
    ·rw [nD];exact h1
    ·simp only [Bool.or_eq_true,decide_eq_true_eq,ne_eq,not_or,Decidable.not_not]
     simp at hl hcl
     omega
   ·cases h
theorem lU {P:Program} {α β:Type} {f:α→Sem β} {g:α→β} {W:World}:∀ (l:List α),(∀ x∈l,(f x).run P W=.ok (g x) W)→(l.mapM f).run P W=.ok (l.map g) W
 | [],_=>by simp
 | x::l,h=>by
  simp only [List.mapM_cons,Sem.run_bind,h x (by simp),Result.andThen_ok,lU l (fun y hy=>h y (List.mem_cons_of_mem _ hy)),Sem.run_pure,List.map_cons]
theorem zP {P:Program} {W:World} (fs:Array Field) (h:∀ f∈fs.toList,∃ d,P.underlying f.type=some d):
  (fs.mapM fun f=>do pure (f.offset,←sizeOf f.type):Sem (Array (Nat×Nat))).run P W=.ok (fs.map fun f=>(f.offset,sz P f.type)) W:=by
 rw [Array.mapM_eq_mapM_toList,Sem.run_map,lU (g:=fun f=>(f.offset,sz P f.type)) fs.toList (fun f hf=>by
  obtain ⟨d,hd⟩:=h f hf
  simp [bY hd])]
 simp only [Result.andThen_ok]
 congr 1
 apply Array.ext'
 simp
theorem xK {P:Program} {t:TypeId} {parts:List (Nat×V)} {v:V} (h:iR P t parts=.ok v) {G:Gh} {ps:Array (Nat×Value)} (hp:PsR G parts ps.toList) (W:World):
  ∃ w,(Instr.build t ps).run P W=.ok w W∧VR G v w:=by
 unfold iR at h
 split at h
 ·cases h
 ·rename_i z hz
  obtain ⟨i,zw,hi,hzw,ho⟩:=cU hz
  have hzr:=(cN G ho).cells
  have hzv:(zeroValue t).run P W=.ok zw W:=by simp [zeroValue,typeInfo,hi,hzw]
  split at h
  ·rename_i fs hd
   rw [cond_eq_ite] at h
   split at h
   ·cases h
   ·rename_i hall
    have hall':∀ f∈fs.toList,∃ d,P.underlying f.type=some d:=by
     intro f hf
     simp only [Bool.not_eq_true,Bool.not_eq_false',List.all_eq_true] at hall
     exact Option.isSome_iff_exists.1 (hall f hf)
    split at h
    ·rename_i cs hcs
     cases h
     obtain ⟨c',f1,f2⟩:=mE (place':=fun i=>(fs.map fun f=>(f.offset,sz P f.type))[i]?) (fun i x hx=>by simpa using hx) hp hzr hcs
     refine ⟨.agg c',?_,.agg _ _ f2⟩
     simp only [Instr.build,Sem.run_bind,hzv,Result.andThen_ok,run_underlying hd,zP fs hall',f1,Sem.run_pure]
    ·cases h
  ·rename_i n elem hd
   rw [cond_eq_ite] at h
   split at h
   ·cases h
   ·rename_i hall
    simp only [Bool.not_eq_true,Bool.not_eq_false'] at hall
    obtain ⟨d,hd'⟩:=Option.isSome_iff_exists.1 hall
    split at h
    ·rename_i cs hcs
     cases h
     obtain ⟨c',f1,f2⟩:=mE (place':=fun i=>some (i*sz P elem,sz P elem)) (fun i x hx=>hx) hp hzr hcs
     refine ⟨.agg c',?_,.agg _ _ f2⟩
     simp only [Instr.build,Sem.run_bind,hzv,Result.andThen_ok,run_underlying hd,bY hd',f1,Sem.run_pure]
    ·cases h
  ·cases h
theorem uC {G:Gh} {es:Nat}:∀ {parts:List (Nat×V)} {ps:List (Nat×Value)},PsR G parts ps→
  ∀ {elems out:List (List V)} {c:Array Value},(∀ x∈elems,x.length=es)→VRs G elems.flatten c.toList→qI es elems parts=.ok out→
   ∃ c',Instr.fill (fun i=>some (i*es,es)) c ps=some c'∧VRs G out.flatten c'.toList∧(∀ x∈out,x.length=es)∧out.length=elems.length
 | _,_,.nil,elems,out,c,hl,hc,h=>by simp [qI] at h;subst h;exact ⟨c,rfl,hc,hl,rfl⟩
 | _,_,.cons i v w vs ws hv t,elems,out,c,hl,hc,h=>by
  simp only [qI] at h
  rw [cond_eq_ite] at h
  split at h
  ·rename_i hok
   simp only [Bool.and_eq_true,Nat.beq_eq,Nat.blt_eq] at hok
   obtain ⟨⟨h1,h2⟩,h3⟩:=hok
   have hvl:=hv.cells.length
   have hcl:=hc.length
   have hfl:=aX es elems hl
   have hin:(i+1)*es≤elems.length*es:=Nat.mul_le_mul_right es (by omega)
   rw [Nat.succ_mul] at hin
   have hset:(elems.set i v.cells).flatten=splice elems.flatten (i*es) v.cells:=by
    apply List.ext_getElem?
    intro k
    have hl':∀ x∈elems.set i v.cells,x.length=es:=by
     intro x hx
     rcases List.mem_or_eq_of_mem_set hx with hx | rfl
     ·exact hl x hx
     ·exact h1
    rw [mD _ _ _ (by omega)]
    rcases Nat.eq_zero_or_pos es with he | he
    ·subst he
     have e1:(elems.set i v.cells).flatten=[]:=List.eq_nil_of_length_eq_zero (by rw [aX 0 _ hl'];simp)
     have e2:elems.flatten=[]:=List.eq_nil_of_length_eq_zero (by rw [hfl];simp)
     rw [e1,e2,if_neg (by omega)]
    ·have hdm:=Nat.div_add_mod k es
     have hk:k=k / es*es+k % es:=by rw [Nat.mul_comm];exact hdm.symm
     have hlt:=Nat.mod_lt k he
     generalize k / es=a at hk
     generalize k % es=b at hk hlt
     subst hk
     rw [eN es _ hl' a b hlt,eN es _ hl a b hlt,List.getElem?_set]
     by_cases hia:i=a
     ·subst hia
      rw [if_pos rfl,if_pos h2,if_pos (by omega)]
      simp
     ·rw [if_neg hia]
      rw [if_neg ?_]
      rcases Nat.lt_or_ge a i with q | q
      ·have:(a+1)*es≤i*es:=Nat.mul_le_mul_right es (by omega)
       rw [Nat.succ_mul] at this;omega
      ·have:(i+1)*es≤a*es:=Nat.mul_le_mul_right es (by omega)
       rw [Nat.succ_mul] at this;omega
   obtain ⟨c',f1,f2,f3,f4⟩:=uC t (elems:=elems.set i v.cells) (c:=aM c (i*es) w.cells.toList) (fun x hx=>by
     rcases List.mem_or_eq_of_mem_set hx with hx | rfl
     ·exact hl x hx
     ·exact h1) (by rw [hset];exact hc.splice hv.cells (by omega)) h
   refine ⟨c',?_,f2,f3,by rw [f4];simp⟩
   simp only [Instr.fill]
   rw [if_neg ?_]
   ·rw [nD];exact f1
   ·simp only [Bool.or_eq_true,decide_eq_true_eq,ne_eq,not_or,Decidable.not_not]
    rw [hfl] at hcl
    simp only [Array.length_toList] at hvl hcl
    omega
  ·cases h
theorem iK {G:Gh} {z:List V} {zw:Array Value} (h:VRs G z zw.toList) (n:Nat):
  VRs G (List.replicate n z).flatten (((Array.range (n*zw.size)).map (zw[· % zw.size]!)).toList):=by
 have hl:z.length=zw.size:=by simpa using h.length
 have hlen:∀ x∈List.replicate n z,x.length=zw.size:=fun x hx=>by rw [List.eq_of_mem_replicate hx];exact hl
 refine VRs.of (by rw [aX zw.size _ hlen];simp) fun i v w hv hw=>?_
 have hi:i<n*zw.size:=by
  have:=(List.getElem?_eq_some_iff.1 hw).1
  simpa using this
 rcases Nat.eq_zero_or_pos zw.size with he | he
 ·rw [he] at hi;simp at hi
 ·have hdm:=Nat.div_add_mod i zw.size
  have hk:i=i / zw.size*zw.size+i % zw.size:=by rw [Nat.mul_comm];exact hdm.symm
  have hlt:=Nat.mod_lt i he
  rw [hk,eN zw.size _ hlen _ _ hlt] at hv
  have hdn:i / zw.size<n:=by rw [Nat.div_lt_iff_lt_mul he];exact hi
  simp [hdn] at hv
  obtain ⟨w',a,b⟩:=h.get hv
  have hw2:w=zw[i % zw.size]!:=by
   simp [hi] at hw
   exact hw.symm
  have a':zw[i % zw.size]?=some w':=by simpa using a
  rw [hw2,getElem!_def,a'];exact b
theorem oT {P:Program} {t:TypeId} {len:Nat} {parts:List (Nat×V)} {fr:Option Nat} {S S':St} {v:V} (h:bM P t len parts fr S=.ok (v,S'))
  {F:Nat→Option Obj} {G:Gh} {W:World} (R:cO F G S W.heap) (hf:kP fr G S) {ps:Array (Nat×Value)} (hp:PsR G parts ps.toList):
  ∃ W' G' w,(Instr.buildSlice t len ps).run P W=.ok w W'∧Sim F fr G S W G' S' W'∧VR G' v w:=by
 unfold bM at h
 split at h
 ·cases h
 ·rename_i e he
  have hd:P.underlying t=some (.slice e):=by
   unfold gB at he
   split at he
   ·rename_i e' hd;cases he;exact hd
   ·cases he
  split at h
  ·cases h
  ·rename_i z hz
   obtain ⟨i,zw,hi,hzw,ho⟩:=cU hz
   have hzr:=(cN G ho).cells
   rw [cond_eq_ite] at h
   split at h
   ·rename_i hok
    simp only [Bool.and_eq_true,Nat.beq_eq,Nat.ble_eq] at hok
    obtain ⟨hzl,hsm⟩:=hok
    split at h
    ·cases h
    ·rename_i elems hlay
     split at h
     ·cases h
     ·rename_i a S1 hnew
      cases h
      have hzs:zw.cells.size=sz P e:=by have:=hzr.length;simp at this;omega
      have hszi:sz P e=i.size:=eC hi
      have hz0:=iK hzr len
      rw [hzs] at hz0
      obtain ⟨c',f1,f2,f3,f4⟩:=uC hp (fun x hx=>by rw [List.eq_of_mem_replicate hx];exact hzl) hz0 hlay
      have hlen:elems.length=len:=by rw [f4];simp
      have hcs:elems.length*sz P e≤c'.size:=by
       have:=f2.length
       rw [aX _ _ f3] at this
       simp at this;omega
      obtain ⟨G',h1,h2⟩:=gE (W':=W.alloc (.cells c' e)) (c:=c') (ty:=e) (cap:=elems.length) hnew R hf rfl (Same.alloc _ _) (Nat.le_refl _) hcs
       (eO f3 f2 (fun k x hx=>by simpa using hx))
      refine ⟨_,G',.slice (some ⟨W.heap.size,0,none⟩) len len,?_,h1,.sl _ _ _ _ _ _ _ _ ⟨rfl,Nat.le_refl _,_,h2,.inr ⟨rfl,rfl,by simp [hlen],fun _=>by simp⟩⟩⟩
      have hsize:(sizeOf e).run P W=.ok (sz P e) W:=by simp [sizeOf,typeInfo,hi,hszi]
      have hzv:(zeroValue e).run P W=.ok zw W:=by simp [zeroValue,typeInfo,hi,hzw]
      have hns:¬ (len*sz P e>2 ^ 24):=by omega
      simp only [Instr.buildSlice,Sem.run_bind,run_underlying hd,Result.andThen_ok,hsize,hns,if_false]
      by_cases h0:len*sz P e=0
      ·simp only [h0,if_true,Sem.run_bind,Sem.run_pure,Result.andThen_ok]
       rw [h0] at f1
       have:∀ (z1 z2:Array Value),(Array.range 0).map (z1[· % z1.size]!)=(Array.range 0).map (z2[· % z2.size]!):=by intro z1 z2;simp
       rw [this #[] zw.cells,hzs,f1]
       simp [newRow]
      ·simp only [h0,if_false,Sem.run_bind,hzv,Result.andThen_ok,Sem.run_pure]
       rw [hzs,f1]
       simp [newRow]
   ·cases h
theorem RowR.sub {G:Gh} {c:Array Value} {o es:Nat} {e1 e2:List (List V)} (h:RowR G c o es e2) (hs:∀ (i:Nat) (cs:List V),e1[i]?=some cs→e2[i]?=some cs):RowR G c o es e1:=
 fun i cs hi=>h i cs (hs i cs hi)
theorem iA {P:Program} {t e:TypeId} (h:gB P t=some e):P.underlying t=some (.slice e):=by
 unfold gB at h
 split at h
 ·rename_i e' hd;cases h;exact hd
 ·cases h
theorem qJ {P:Program} {t:TypeId} {l c:V} {fr:Option Nat} {S S':St} {v:V} (h:dG P t l c fr S=.ok (v,S'))
  {F:Nat→Option Obj} {G:Gh} {W:World} (R:cO F G S W.heap) (hf:kP fr G S) {lc cc:Value} (hl:VR G l lc) (hc:VR G c cc):
  ∃ W' G' w,(Instr.makeSlice t lc cc).run P W=.ok w W'∧Sim F fr G S W G' S' W'∧VR G' v w:=by
 unfold dG at h
 split at h
 ·rename_i e kl l kc c he
  have hd:=iA he
  split at h
  ·cases h
  ·rename_i z hz
   obtain ⟨i,zw,hi,hzw,ho⟩:=cU hz
   have hzr:=(cN G ho).cells
   rw [cond_eq_ite] at h
   split at h
   ·rename_i hok
    simp only [Bool.and_eq_true,Nat.beq_eq,decide_eq_true_eq,sY,Nat.ble_eq,Nat.blt_eq] at hok
    obtain ⟨⟨⟨⟨hzl,h0⟩,hlc⟩,hcb⟩,hroom,_⟩:=hok
    split at h
    ·cases h
    ·rename_i a S1 hnew
     cases h
     cases hl;cases hc
     have hzs:zw.cells.size=sz P e:=by have:=hzr.length;simp at this;omega
     have hszi:sz P e=i.size:=eC hi
     have hby:P.bytesOf e=i.bytes:=iT hi
     have hz0:=iK hzr c.toNat
     have hlz:∀ x∈List.replicate c.toNat z.cells,x.length=sz P e:=fun x hx=>by rw [List.eq_of_mem_replicate hx];exact hzl
     have hrow:RowR G (madeCells zw.cells (c.toNat*i.size)) 0 (sz P e) (List.replicate l.toNat z.cells):=by
      refine (eO hlz hz0 (fun k x hx=>?_)).sub fun i cs hi=>?_
      ·simp only [hzs,hszi] at hx
       simp only [madeCells,hzs,hszi]
       rw [Array.getElem?_toList] at hx
       exact hx
      ·rw [List.getElem?_replicate] at hi ⊢
       split at hi
       ·rw [if_pos (by omega)];exact hi
       ·cases hi
     obtain ⟨G',h1,h2⟩:=gE (W':=W.alloc (.cells (madeCells zw.cells (c.toNat*i.size)) e)) (c:=madeCells zw.cells (c.toNat*i.size)) (ty:=e) (cap:=c.toNat) hnew R hf rfl (Same.alloc _ _)
      (by simp;omega) (by rw [size_madeCells,hszi];exact Nat.le_refl _) hrow
     refine ⟨_,G',.slice (some ⟨W.heap.size,0,none⟩) l.toNat c.toNat,?_,h1,.sl _ _ _ _ _ _ _ _ ⟨rfl,by omega,_,h2,.inr ⟨rfl,rfl,by simp,fun _=>by simp⟩⟩⟩
     refine run_make W t e i zw hd hi hzw kl kc l c h0 hlc ?_ (by omega)
     rw [hby] at hroom
     have:(i.bytes:Int)*c=((c.toNat*i.bytes:Nat):Int):=by
      rw [Int.natCast_mul,Int.toNat_of_nonneg (by omega),Int.mul_comm]
     rw [this];omega
   ·cases h
 ·cases h
theorem mF:∀ s:List UInt8,(s.map fun b=>[V.int .u8 (b.toNat:Int)]).flatten=s.map fun b=>V.int .u8 (b.toNat:Int)
 | []=>rfl
 | b::s=>by rw [List.map_cons,List.flatten_cons,mF s];rfl
theorem iU {P : Program} {S : St} {x : V} {xs : List (List V)} (h : aN S x = .ok xs) {n : Nat} (hn : ∀ cs ∈ xs, cs.length = n)
    {F : Nat → Option Obj} {G : Gh} {W : World} (R : cO F G S W.heap) {y : Value} (hx : VR G x y) :
    (∀ W', (Builtin.lenOf y).run P W' = .ok xs.length W') ∧ ∃ ws, VRs G xs.flatten ws ∧ ∀ W' : World, W'.heap = W.heap → (Builtin.firstCells n xs.length y).run P W' = .ok ws.toArray W' := by
  have hfl := aX n xs hn
  have side : ∀ (p : Addr) (ws : List Value) (c : Nat), VRs G xs.flatten ws → (∀ (k : Nat) (w : Value), ws[k]? = some w → W.cell? (p.add k) = some w) →
      ∃ ws, VRs G xs.flatten ws ∧ ∀ W' : World, W'.heap = W.heap → (Builtin.firstCells n xs.length (.slice (some p) xs.length c)).run P W' = .ok ws.toArray W' := by
    intro p ws c h1 h2
    refine ⟨ws, h1, fun W' hW => ?_⟩
    have hl : ws.length = xs.length * n := by rw [← h1.length, hfl]
    have := run_loadCells_list (P := P) W' p ws (fun j v hj => by
      have := h2 j v hj
      simpa [World.cell?, hW] using this)
    simp only [Builtin.firstCells]
    rw [← hl]; exact this
  unfold aN at h
  split at h
  · cases h
    cases hx
    exact ⟨fun W' => by simp [Builtin.lenOf], [], .nil, fun W' _ => by simp [Builtin.firstCells]⟩
  · rename_i a ver es0 off len
    split at h
    · cases h
    · rename_i es elems hrow
      have hr := dA hrow
      rw [cond_eq_ite] at h
      split at h
      · rename_i hle
        cases h
        have hle' : off + len ≤ elems.length := by simpa using hle
        cases hx with
        | sl _ _ _ _ _ p m c hs =>
          obtain ⟨rfl, hc1, L, hL, hs⟩ := hs
          obtain ⟨L', hL', r1, r2, r3, ca, ty, fr, hcb, r4, r5, r6⟩ := R.blk a _ hr
          rw [hL] at hL'; cases hL'
          rcases hs with hs | ⟨_, _, hc2, hp⟩
          · omega
          · have hlen : ((elems.drop off).take m).length = m := by simp; omega
            rw [hlen] at side hfl ⊢
            refine ⟨fun W' => by simp [Builtin.lenOf], ?_⟩
            rcases Nat.eq_zero_or_pos m with h0 | h0
            · subst h0
              exact side p [] c (by simp; exact .nil) (by simp)
            · have hp' := hp (by omega)
              subst hp'
              have hnes : n = es := by
                have hin : off < elems.length := by omega
                have hmem : elems[off] ∈ (elems.drop off).take m := by
                  rw [List.mem_iff_getElem?]
                  exact ⟨0, by rw [List.getElem?_take, if_pos h0]; simp⟩
                rw [← hn _ hmem]
                exact (r6 off elems[off] (by simp)).1
              have hcells : CellsAt G W L.cb (L.co + off * L.es) ((elems.drop off).take m).flatten := by
                intro q v hq
                have hql : q < m * n := by
                  have := (List.getElem?_eq_some_iff.1 hq).1
                  rw [hfl] at this; exact this
                have hnp : 0 < n := by rcases Nat.eq_zero_or_pos n with e | e
                                       · subst e; simp at hql
                                       · exact e
                have hdm := Nat.div_add_mod q n
                have hk : q = q / n * n + q % n := by rw [Nat.mul_comm]; exact hdm.symm
                have hlt := Nat.mod_lt q hnp
                generalize q / n = i at hk
                generalize q % n = j at hk hlt
                subst hk
                rw [eN n _ hn i j hlt] at hq
                cases hi : ((elems.drop off).take m)[i]? with
                | none => rw [hi] at hq; cases hq
                | some cs =>
                  rw [hi] at hq
                  have hi' : elems[off + i]? = some cs := by
                    rw [List.getElem?_take] at hi
                    split at hi
                    · rw [List.getElem?_drop] at hi; exact hi
                    · cases hi
                  obtain ⟨w, w1, w2⟩ := (r6 _ cs hi').2 j v hq
                  refine ⟨w, ?_, w2⟩
                  rw [bK hcb, r2, hnes]
                  rw [show L.co + off * es + (i * es + j) = L.co + (off + i) * es + j by rw [Nat.add_mul]; omega]
                  exact w1
              obtain ⟨ws, h1, h2⟩ := hcells.values
              exact side _ ws c h1 (fun k w hk => by rw [cY]; exact h2 k w hk)
      · cases h
  · rename_i es
    cases h
    cases hx with
    | imm0 => exact ⟨fun W' => by simp [Builtin.lenOf], [], .nil, fun W' _ => by simp [Builtin.firstCells]⟩
    | imm _ p m c e hm hc vs hv he hp =>
      replace hv := hv.mono G.shut_le
      subst hm
      refine ⟨fun W' => by simp [Builtin.lenOf], ?_⟩
      have hvf : ∀ {es : List (List V)} {vs : List (List Value)}, VRss G es vs → VRs G es.flatten vs.flatten := by
        intro es vs h
        induction es generalizing vs with
        | nil => cases h; exact .nil
        | cons x es ih => cases h with | cons _ w _ ws h t => simpa using h.append (ih t)
      have hvl : ∀ {es : List (List V)} {vs : List (List Value)}, VRss G es vs → (∀ x ∈ es, x.length = n) → (∀ x ∈ vs, x.length = n) := by
        intro es vs h
        induction es generalizing vs with
        | nil => cases h; intro _ x hx; cases hx
        | cons x es ih =>
          cases h with
          | cons _ w _ ws h t =>
            intro hx y hy
            rcases List.mem_cons.1 hy with rfl | hy
            · rw [← h.length]; exact hx _ (by simp)
            · exact ih t (fun z hz => hx z (List.mem_cons_of_mem _ hz)) y hy
      refine side p vs.flatten c (hvf hv) fun k w hk => ?_
      have hvn := hvl hv hn
      rcases hp with hp | ⟨ca, ty, fr, h1, h2, h3⟩
      · have : xs = [] := List.eq_nil_of_length_eq_zero hp
        subst this; cases hv; simp at hk
      · have hkl : k < vs.length * n := by
          have := (List.getElem?_eq_some_iff.1 hk).1
          rw [aX n _ hvn] at this; exact this
        have hnp : 0 < n := by rcases Nat.eq_zero_or_pos n with e | e
                               · subst e; simp at hkl
                               · exact e
        have hdm := Nat.div_add_mod k n
        have hk' : k = k / n * n + k % n := by rw [Nat.mul_comm]; exact hdm.symm
        have hlt := Nat.mod_lt k hnp
        generalize k / n = i at hk'
        generalize k % n = j at hk' hlt
        subst hk'
        rw [eN n _ hvn i j hlt] at hk
        cases hi : vs[i]? with
        | none => rw [hi] at hk; cases hk
        | some l =>
          rw [hi] at hk
          have hne : e = n := by
            cases xs with
            | nil => cases hv; simp at hi
            | cons x es => rw [← he x (by simp)]; exact hn x (by simp)
          subst hne
          have := h3 i l hi j w hk
          obtain ⟨pb, po, ps⟩ := p
          simp only at h1 h2 this
          subst h2
          rw [cY, bK (R.pr _ _ h1), ← Nat.add_assoc]; exact this
  · rename_i s
    cases h
    cases hx
    have hlen : (s.map fun b => [V.int .u8 (b.toNat : Int)]).length = s.length := by simp
    refine ⟨fun W' => by simp [Builtin.lenOf, ByteArray.size], s.map fun b => .int .u8 b.toNat, ?_, fun W' _ => ?_⟩
    · rw [mF]
      refine VRs.of (by simp) fun i v w hv hw => ?_
      simp at hv hw
      obtain ⟨b, hb, rfl⟩ := hv
      obtain ⟨b', hb', rfl⟩ := hw
      rw [hb] at hb'; cases hb'
      exact .int _ _
    · rw [hlen]
      simp only [Builtin.firstCells, Sem.run_pure]
      congr 1
      apply Array.ext'
      simp [ByteArray.extract, ByteArray.copySlice]
  · cases h
theorem fW {G:Gh} {c:Array Value} {o es:Nat} {elems:List (List V)} {ws:List Value} (hl:∀ x∈elems,x.length=es) (hv:VRs G elems.flatten ws)
  (hc:∀ (k:Nat) (w:Value),ws[k]?=some w→c[o+k]?=some w):RowR G c o es elems:=by
 intro i cs hi
 have hcs:cs∈elems:=List.mem_of_getElem? hi
 refine ⟨hl cs hcs,fun j v hj=>?_⟩
 have hj':j<es:=by rw [←hl cs hcs];exact (List.getElem?_eq_some_iff.1 hj).1
 have:elems.flatten[i*es+j]?=some v:=by rw [eN es elems hl i j hj',hi];exact hj
 obtain ⟨w,w1,w2⟩:=hv.get this
 exact ⟨w,by rw [Nat.add_assoc];exact hc _ _ w1,w2⟩
theorem RowR.lens {G:Gh} {c:Array Value} {o es:Nat} {elems:List (List V)} (h:RowR G c o es elems):∀ x∈elems,x.length=es:=by
 intro x hx
 obtain ⟨i,hi⟩:=List.mem_iff_getElem?.1 hx
 exact (h i x hi).1
theorem RowR.flat {G:Gh} {ca:Array Value} {co es:Nat} {elems:List (List V)} (h:RowR G ca co es elems) (off len:Nat) (hle:off+len≤elems.length):
  ∃ ws,VRs G ((elems.drop off).take len).flatten ws∧∀ (k:Nat) (w:Value),ws[k]?=some w→ca[co+off*es+k]?=some w:=by
 induction len generalizing off with
 | zero=>exact ⟨[],by simp;exact .nil,by simp⟩
 | succ len ih=>
  have hin:off<elems.length:=by omega
  obtain ⟨ws,h1,h2⟩:=ih (off+1) (by omega)
  have hcs:=h off elems[off] (by simp)
  have hc:∀ cs:List V,(∀ j v,cs[j]?=some v→∃ w,ca[co+off*es+j]?=some w∧VR G v w)→∃ us,VRs G cs us∧∀ (k:Nat) (w:Value),us[k]?=some w→ca[co+off*es+k]?=some w:=by
   intro cs hcs
   generalize co+off*es=o at hcs
   induction cs generalizing o with
   | nil=>exact ⟨[],.nil,by simp⟩
   | cons v cs ih2=>
    obtain ⟨w,a,b⟩:=hcs 0 v (by simp)
    obtain ⟨us,u1,u2⟩:=ih2 (o+1) (fun j v hv=>by
     obtain ⟨w,a,b⟩:=hcs (j+1) v (by simpa using hv)
     exact ⟨w,by rw [show o+1+j=o+(j+1) by omega];exact a,b⟩)
    refine ⟨w::us,.cons _ _ _ _ b u1,fun k w' hk=>?_⟩
    cases k with
    | zero=>simp at hk;subst hk;exact a
    | succ k=>have:=u2 k w' (by simpa using hk);rw [show o+(k+1)=o+1+k by omega];exact this
  obtain ⟨us,u1,u2⟩:=hc elems[off] hcs.2
  have hul:us.length=es:=by rw [←u1.length];exact hcs.1
  have e:(elems.drop off).take (len+1)=elems[off]::(elems.drop (off+1)).take len:=by
   rw [List.drop_eq_getElem_cons hin,List.take_succ_cons]
  refine ⟨us++ws,by rw [e,List.flatten_cons];exact u1.append h1,fun k w hk=>?_⟩
  rcases Nat.lt_or_ge k us.length with hlt | hge
  ·rw [List.getElem?_append_left hlt] at hk;exact u2 k w hk
  ·rw [List.getElem?_append_right hge] at hk
   have:=h2 _ w hk
   rw [show co+off*es+k=co+(off+1)*es+(k - us.length) by rw [Nat.add_mul];omega];exact this
theorem dJ (z:Array Value) (n:Nat):(Builtin.zeroCells z n).size=n*z.size:=by simp [Builtin.zeroCells]
theorem iL (W:World) (need old:Nat) (e:TypeId) (_h:need<2 ^ 63):need≤grownCap W need old e:=by
 unfold grownCap Question.cut
 exact Nat.le_add_right _ _
theorem jU {P : Program} {ts : Array TypeId} {t u ty : TypeId} (ht0 : ts[0]? = some t) (ht1 : ts[1]? = some u)
    (hu : (∃ e, P.underlying u = some (.slice e)) ∨ P.underlying u = some .string) {s x : V} {fr : Option Nat} {S S' : St} {v : V} (h : cX P t s x fr S = .ok (v, S'))
    {F : Nat → Option Obj} {G : Gh} {W : World} (R : cO F G S W.heap) (hf : kP fr G S) {sc xc : Value} (hs : VR G s sc) (hx : VR G x xc) :
    ∃ W' G' w, (Builtin.append_ ts ty #[sc, xc]).run P W = .ok w W' ∧ Sim F fr G S W G' S' W' ∧ VR G' v w := by
  unfold cX at h
  split at h
  · cases h
  · rename_i e he
    have hd := iA he
    split at h
    · cases h
    · rename_i xs hxs
      rw [cond_eq_ite] at h
      split at h
      · cases h
      · rename_i hok
        simp only [Bool.not_eq_true, Bool.not_eq_false', Bool.and_eq_true] at hok
        obtain ⟨⟨hall, hones⟩, hzf⟩ := hok
        have hxl : ∀ cs ∈ xs, cs.length = sz P e := by
          intro cs hcs
          have := List.all_eq_true.1 hall cs hcs
          simpa using this
        obtain ⟨z, hz, hzl⟩ : ∃ z, aF P e = some z ∧ z.cells.length = sz P e := by
          unfold hM at hzf
          split at hzf
          · rename_i z hz; exact ⟨z, hz, by simpa using hzf⟩
          · cases hzf
        obtain ⟨i, zw, hi, hzw, ho⟩ := cU hz
        have hzs : zw.cells.size = i.size := by
          have := ((cN G ho).cells).length
          rw [← eC hi]
          simp at this; omega
        have hszi : sz P e = i.size := eC hi
        have hby : P.bytesOf e = i.bytes := iT hi
        rw [hszi] at hxl h
        obtain ⟨hlen, ws, hws, hfirst⟩ := iU (P := P) hxs hxl R hx
        have hwl : ws.length = xs.length * i.size := by rw [← hws.length, aX _ _ hxl]
        split at h
        ·
          cases hs
          split at h
          ·
            cases h
            have hws0 : ws = [] := List.eq_nil_of_length_eq_zero (by rw [hwl]; simp)
            subst hws0
            have hlen0 := hlen W
            have hf0 := hfirst W rfl
            simp only [List.length_nil] at hlen0 hf0
            refine ⟨W, G, .slice none 0 0, ?_, Sim.refl R, .nils⟩
            rcases hu with ⟨e', hu⟩ | hu <;>
              simp [Builtin.append_, ht0, ht1, run_underlying hd, run_underlying hu, sizeOf, typeInfo, hi, hlen0, hf0]
          · rename_i hne
            rw [cond_eq_ite] at h
            split at h
            · rename_i hroom
              simp only [sY, Bool.and_eq_true, Nat.ble_eq, Nat.blt_eq] at hroom
              obtain ⟨hroom, hlm⟩ := hroom
              rw [hby] at hroom
              unfold fZ at hlm
              split at h
              · cases h
              · rename_i a S1 hnew
                cases h
                have hpos : 0 < xs.length := by
                  rcases Nat.eq_zero_or_pos xs.length with q | q
                  · exact absurd (List.eq_nil_of_length_eq_zero q) (by simpa using hne)
                  · exact q
                have hge := iL W xs.length 0 e (by omega)
                have hn0 : xs.length ≠ 0 := by omega
                have h63 : ¬ (9223372036854775807 < (xs.length : Int)) := by omega
                have h48 : ¬ (281474976710656 < Builtin.nextslicecap xs.length 0 * i.bytes) := by rw [nextslicecap_zero hpos]; omega
                have hf0 := hfirst W.drew rfl
                have hsize : (ws.toArray ++ Builtin.zeroCells zw.cells (grownCap W xs.length 0 e - xs.length)).size = grownCap W xs.length 0 e * i.size := by
                  simp only [Array.size_append, List.size_toArray, dJ, hwl, hzs]
                  rw [← Nat.add_mul]; congr 1; omega
                obtain ⟨G', h1, h2⟩ := gE (W' := W.drew.alloc (.cells (ws.toArray ++ Builtin.zeroCells zw.cells (grownCap W xs.length 0 e - xs.length)) e)) hnew R hf rfl
                  ((Same.drew W).trans (Same.alloc _ _)) hge (by rw [hsize]; exact Nat.le_refl _)
                  (eO hxl hws (fun k w hk => by
                    have : k < ws.length := (List.getElem?_eq_some_iff.1 hk).1
                    rw [Array.getElem?_append_left (by simpa using this)]; simpa using hk))
                refine ⟨_, G', .slice (some ⟨W.heap.size, 0, none⟩) xs.length (grownCap W xs.length 0 e), ?_, h1, .sl _ _ _ _ _ _ _ _ ⟨rfl, hge, _, h2, .inr ⟨rfl, rfl, by simp, fun _ => by simp⟩⟩⟩
                rcases hu with ⟨e', hu⟩ | hu <;>
                  simp [Builtin.append_, ht0, ht1, run_underlying hd, run_underlying hu, sizeOf, typeInfo, zeroValue, hi, hzw, hlen W, hn0, h63, h48, Question.forced, run_firstCells_none, hf0, newRow, grownCap]
            · cases h
        ·
          rename_i a ver es0 off len
          split at h
          · cases h
          · rename_i es elems hrow
            have hr := dA hrow
            rw [cond_eq_ite] at h
            split at h
            · rename_i hok
              simp only [Bool.and_eq_true, Nat.ble_eq, Nat.beq_eq, sY, Nat.blt_eq] at hok
              obtain ⟨⟨hle, hes⟩, hroom, hlm⟩ := hok
              subst hes
              cases h
              rw [hby] at hroom
              unfold fZ at hlm
              cases hs with
              | sl _ _ _ _ _ p n c hsl =>
                obtain ⟨rfl, hc1, L, hL, hsl⟩ := hsl
                obtain ⟨L', hL', r1, r2, r3, ca, cty, cfr, hcb, r4, r5, r6⟩ := R.blk a _ hr
                rw [hL] at hL'; cases hL'
                rcases hsl with hsl | ⟨_, _, hc2, hp⟩
                · omega
                · have hlens := r6.lens
                  have holdl : ∀ x ∈ (elems.drop off).take n, x.length = i.size := fun x hx => hlens x (List.mem_of_mem_drop (List.mem_of_mem_take hx))
                  have hol : ((elems.drop off).take n).length = n := by simp; omega
                  have hnewl : ∀ x ∈ (elems.drop off).take n ++ xs, x.length = i.size := by
                    intro x hx
                    rcases List.mem_append.1 hx with hx | hx
                    · exact holdl x hx
                    · exact hxl x hx
                  obtain ⟨os, o1, o2⟩ := r6.flat off n hle
                  have hosl : os.length = n * i.size := by rw [← o1.length, aX _ _ holdl, hol]
                  by_cases hfit : n + xs.length ≤ c
                  ·
                    have hcap : (off + c) * i.size ≤ L.cap * i.size := Nat.mul_le_mul_right _ hc2
                    rw [Nat.add_mul] at hcap
                    have hfc : (n + xs.length) * i.size ≤ c * i.size := Nat.mul_le_mul_right _ hfit
                    rw [Nat.add_mul] at hfc
                    have hstore : ∃ W', (storeCells (p.add (n * i.size)) ws).run P W = .ok () W' ∧ W'.heap[L.cb]? = some (.cells (aM ca (L.co + off * i.size + n * i.size) ws) cty cfr) ∧
                        (∀ k, k ≠ L.cb → W'.heap[k]? = W.heap[k]?) ∧ W'.heap.size = W.heap.size ∧ Same W W' := by
                      rcases Nat.eq_zero_or_pos c with h0 | h0
                      · have hws0 : ws = [] := List.eq_nil_of_length_eq_zero (by rw [hwl, show xs.length = 0 by omega]; simp)
                        subst hws0
                        exact ⟨W, by simp [storeCells], by simpa [aM] using hcb, fun _ _ => rfl, rfl, Same.refl W⟩
                      · have hp' := hp (by omega)
                        subst hp'
                        rw [cY, r2]
                        obtain ⟨W', s1, s2, s3, s4, s5⟩ := cE (P := P) (b := L.cb) (o := L.co + off * i.size + n * i.size) (ty := cty) (fr := cfr) ws 0 W ca hcb
                          (hws.ones (by
                            refine List.all_eq_true.2 fun v hv => ?_
                            obtain ⟨l, hl, hvl⟩ := List.mem_flatten.1 hv
                            exact eB (List.all_eq_true.1 hones l hl) hvl))
                          (by omega) (fun k hk1 hk2 => r5.1 k (by omega) (by omega))
                        simp only [Nat.add_zero] at s2
                        exact ⟨W', s1, s2, s3, s4, s5⟩
                    obtain ⟨W', s1, s2, s3, s4, s5⟩ := hstore
                    have hsz : (aM ca (L.co + off * i.size + n * i.size) ws).size = ca.size := aO _ _ _
                    obtain ⟨g1, g2⟩ := R.setRow (H' := W'.heap) hr hL (L' := ⟨ver + 1, L.cb, L.co + off * i.size, c, i.size⟩) (.inr (by simp; omega)) (.inl rfl) (fun k _ hk => s3 k hk) (by omega)
                      (by rw [s4]; exact R.lt a _ (.inl ⟨L, hL, rfl⟩)) (ver := ver + 1) (es := i.size) (elems := (elems.drop off).take n ++ xs)
                      ⟨rfl, rfl, by simp; omega, _, cty, cfr, s2, by rw [hsz]; simp; omega, ⟨fun o ho1 ho2 => r5.1 o (by simp at ho1; omega) (by simp at ho2; omega), fun hne => by rw [hsz]; exact r5.2 hne⟩, by
                        refine (fW (ws := os ++ ws) hnewl (by rw [List.flatten_append]; exact o1.append hws) (fun k w hk => ?_)).mono (G := G) ?_
                        · show (aM ca (L.co + off * i.size + n * i.size) ws)[L.co + off * i.size + k]? = some w
                          rw [bE]
                          rcases Nat.lt_or_ge k os.length with q | q
                          · rw [if_neg (by omega)]
                            rw [List.getElem?_append_left q] at hk
                            exact o2 k w hk
                          · rw [List.getElem?_append_right q] at hk
                            have hkl : k - os.length < ws.length := (List.getElem?_eq_some_iff.1 hk).1
                            rw [if_pos ⟨by omega, by omega, by omega⟩]
                            rw [show L.co + off * i.size + k - (L.co + off * i.size + n * i.size) = k - os.length by omega]
                            exact hk
                        · exact Gh.le_set hL (.inr (by simp; omega))⟩
                    refine ⟨W', _, .slice (some p) (n + xs.length) c, ?_, ⟨g1, g2, s5, Nat.le_refl _, fun y hy _ _ => ⟨?_, rfl⟩, fun y hy _ _ => ?_, fun _ _ h => .inl h⟩, ?_⟩
                    · have hf0 := hfirst W rfl
                      rcases hu with ⟨e', hu⟩ | hu <;>
                        simp [Builtin.append_, ht0, ht1, run_underlying hd, run_underlying hu, sizeOf, typeInfo, hi, hlen W, hfit, hf0, s1]
                    · have : y ≠ a := fun e => by rw [e, hr] at hy; cases hy
                      simp [this]
                    · show (S.heap.put a _).get y = none
                      rw [Tr.get_put_neB _ _ _ _ (R.small a _ hr) (fun e => by rw [e, hr] at hy; cases hy)]; exact hy
                    · refine .sl _ _ _ _ _ _ _ _ ⟨rfl, hfit, ⟨ver + 1, L.cb, L.co + off * i.size, c, i.size⟩, by simp, .inr ⟨rfl, rfl, by simp, fun h0 => ?_⟩⟩
                      simp only [Nat.zero_mul, Nat.add_zero]
                      rw [← r2]; exact hp h0
                  ·
                    have hge := iL W (n + xs.length) c e (by omega)
                    have hn : ¬ (n + xs.length ≤ c) := hfit
                    have h63 : ¬ (9223372036854775807 < ((n : Int) + (xs.length : Int))) := by omega
                    have h48 : ¬ (281474976710656 < Builtin.nextslicecap (n + xs.length) c * i.bytes) := by
                      have := growslice_fits (need := n + xs.length) (old := c) (bytes := i.bytes) (by omega) (by omega)
                      omega
                    have hf0 := hfirst W.drew rfl
                    have hfo : (Builtin.firstCells i.size n (.slice (some p) n c)).run P W.drew = .ok os.toArray W.drew := by
                      simp only [Builtin.firstCells]
                      have := run_loadCells_list (P := P) W.drew p os (fun j w hj => by
                        have hjl : j < os.length := (List.getElem?_eq_some_iff.1 hj).1
                        have hc0 : c ≠ 0 := by
                          intro e0
                          have : n = 0 := by omega
                          rw [this, Nat.zero_mul] at hosl; omega
                        rw [hp hc0, cY]
                        have : W.cell? ⟨L.cb, L.co + off * L.es + j, none⟩ = some w := by rw [bK hcb, r2]; exact o2 j w hj
                        exact this)
                      rw [hosl] at this; exact this
                    have hsize : (os.toArray ++ ws.toArray ++ Builtin.zeroCells zw.cells (grownCap W (n + xs.length) c e - (n + xs.length))).size = grownCap W (n + xs.length) c e * i.size := by
                      simp only [Array.size_append, List.size_toArray, dJ, hwl, hosl, hzs]
                      rw [← Nat.add_mul, ← Nat.add_mul]; congr 1; omega
                    obtain ⟨g1, g2⟩ := R.setRow (H' := W.heap.push (.cells (os.toArray ++ ws.toArray ++ Builtin.zeroCells zw.cells (grownCap W (n + xs.length) c e - (n + xs.length))) e)) hr hL
                      (L' := ⟨ver + 1, W.heap.size, 0, grownCap W (n + xs.length) c e, i.size⟩) (.inr (by simp; omega)) (.inr rfl)
                      (fun k hk _ => by rw [Array.getElem?_push, if_neg (by omega)]) (by simp) (by simp) (ver := ver + 1) (es := i.size) (elems := (elems.drop off).take n ++ xs)
                      ⟨rfl, rfl, by simp; omega, os.toArray ++ ws.toArray ++ Builtin.zeroCells zw.cells (grownCap W (n + xs.length) c e - (n + xs.length)), e, (0, 0), by simp, by simp only [Nat.zero_add]; rw [hsize]; exact Nat.le_refl _, ⟨fun o _ _ => by simp, fun _ => by simp⟩, by
                        refine (fW (ws := os ++ ws) hnewl (by rw [List.flatten_append]; exact o1.append hws) (fun k w hk => ?_)).mono (G := G) (Gh.le_set hL (.inr (by simp; omega)))
                        simp only [Nat.zero_add]
                        have hkl : k < (os ++ ws).length := (List.getElem?_eq_some_iff.1 hk).1
                        rw [Array.getElem?_append_left (by simpa using hkl)]
                        simpa using hk⟩
                    refine ⟨W.drew.alloc (.cells (os.toArray ++ ws.toArray ++ Builtin.zeroCells zw.cells (grownCap W (n + xs.length) c e - (n + xs.length))) e), _,
                      .slice (some ⟨W.heap.size, 0, none⟩) (n + xs.length) (grownCap W (n + xs.length) c e), ?_, ⟨g1, g2, (Same.drew W).trans (Same.alloc _ _), Nat.le_refl _, fun y hy _ _ => ⟨?_, rfl⟩, fun y hy _ _ => ?_, fun _ _ h => .inl h⟩, ?_⟩
                    · rcases hu with ⟨e', hu⟩ | hu <;>
                        (simp [Builtin.append_, ht0, ht1, run_underlying hd, run_underlying hu, sizeOf, typeInfo, zeroValue, hi, hzw, hlen W, hn, h63, h48, Question.forced, hf0, hfo, newRow, grownCap]
                         congr 2
                         apply Array.ext'
                         simp [List.append_assoc])
                    · have : y ≠ a := fun e => by rw [e, hr] at hy; cases hy
                      simp [this]
                    · show (S.heap.put a _).get y = none
                      rw [Tr.get_put_neB _ _ _ _ (R.small a _ hr) (fun e => by rw [e, hr] at hy; cases hy)]; exact hy
                    · exact .sl _ _ _ _ _ _ _ _ ⟨rfl, hge, ⟨ver + 1, W.heap.size, 0, grownCap W (n + xs.length) c e, i.size⟩, by simp, .inr ⟨rfl, rfl, by simp, fun _ => by simp⟩⟩
            · cases h
        · cases h
theorem rT (k:IntKind) (n:Int):wr k n=k.wrap n:=by
 unfold wr
 split
 ·rename_i h
  obtain ⟨h1,h2⟩:=h
  cases k<;>simp only [lo,hi] at h1 h2<;>simp [IntKind.wrap,IntKind.bits,IntKind.signed]<;>omega
 ·rfl
theorem nE:∀ {l:List (List V)} {b:List UInt8},bU l=some b→(∀ cs∈l,cs.length=1)∧∃ ns:List Int,l.flatten=ns.map (V.int .u8)∧b=ns.map fun n=>UInt8.ofNat n.toNat
 | [],b,h=>by simp [bU] at h;subst h;exact ⟨by simp,[],rfl,rfl⟩
 | x::l,b,h=>by
  unfold bU at h
  split at h
  ·cases ‹x::l=[]›
  ·rename_i n r he
   cases he
   split at h
   ·rename_i l' hl'
    cases h
    obtain ⟨h1,ns,h2,h3⟩:=nE hl'
    refine ⟨?_,n::ns,by simp [h2],by simp [h3]⟩
    intro cs hcs
    rcases List.mem_cons.1 hcs with rfl | hcs
    ·rfl
    ·exact h1 cs hcs
   ·cases h
  ·cases h
theorem aDa (ns:List Int) (b:List UInt8):ns.foldl (fun r n=>r.push (UInt8.ofNat n.toNat)) (ByteArray.mk ⟨b⟩)=⟨⟨b++ns.map fun n=>UInt8.ofNat n.toNat⟩⟩:=by
 induction ns generalizing b with
 | nil=>simp
 | cons n ns ih=>
  simp only [List.foldl_cons]
  have:(ByteArray.mk ⟨b⟩).push (UInt8.ofNat n.toNat)=ByteArray.mk ⟨b++[UInt8.ofNat n.toNat]⟩:=by
   simp [ByteArray.push]
  rw [this,ih]
  simp
theorem aB1 {G:Gh}:∀ {ns:List Int} {ws:List Value},VRs G (ns.map (V.int .u8)) ws→ws=ns.map (Value.int .u8)
 | [],_,.nil=>rfl
 | _::_,_,.cons _ _ _ _ hv t=>by cases hv;rw [aB1 t];rfl
theorem sZ {P:Program} {src dst:TypeId} {x:V} {fr:Option Nat} {S S':St} {v:V} (h:bP P src dst x fr S=.ok (v,S'))
  {F:Nat→Option Obj} {G:Gh} {W:World} (R:cO F G S W.heap) (hf:kP fr G S) {y:Value} (hx:VR G x y):
  ∃ W' G' w,(convert src dst y).run P W=.ok w W'∧Sim F fr G S W G' S' W'∧VR G' v w:=by
 unfold bP at h
 split at h
 ·rename_i u k hs hd
  split at h
  ·cases h
   cases hx
   rename_i n
   exact ⟨W,G,.int k (k.wrap n),by simp [convert,run_underlying hs,run_underlying hd,Conv.intToInt],Sim.refl R,by rw [rT];exact .int _ _⟩
  ·cases h
 ·rename_i u hs hd
  split at h
  ·cases h
   cases hx
   exact ⟨W,G,_,by simp [convert,run_underlying hs,run_underlying hd],Sim.refl R,.str _⟩
  ·split at h
   ·rename_i e
    split at h
    ·rename_i he
     have key:∀ l b,aN S x=.ok l→bU l=some b→(∃ p n c,y=.slice (some p) n c)→
       ∃ W' G' w,(convert src dst y).run P W=.ok w W'∧Sim F fr G S W G' S W'∧VR G' (.str b) w:=by
      rintro l b hl hb ⟨p,n,c,rfl⟩
      obtain ⟨h1,ns,h2,h3⟩:=nE hb
      obtain ⟨e1,ws,e2,e3⟩:=iU (P:=P) hl h1 R hx
      have e3':=e3 W rfl
      have hn:l.length=n:=by
       have:=e1 W
       simp [Builtin.lenOf] at this
       exact this.symm
      have hws:ws=ns.map (Value.int .u8):=by
       rw [h2] at e2
       exact aB1 e2
      subst hws
      have hload:(loadCells p n).run P W=.ok (ns.map (Value.int .u8)).toArray W:=by
       rw [hn] at e3'
       simpa [Builtin.firstCells] using e3'
      refine ⟨W,G,.string ⟨⟨b⟩⟩,?_,Sim.refl R,.str _⟩
      rw [run_convert_bytes_string W src dst e (some p) n c hs he hd,run_bytesToString W p n c ns hload]
      have:=aDa ns []
      rw [h3]
      refine congrArg (fun s=>Result.ok (Value.string s) W) (Eq.trans ?_ (Eq.trans this (by simp)))
      rfl
     split at h
     ·
      split at h
      ·cases h
      ·rename_i l hl
       split at h
       ·rename_i b hb
        cases h
        simp [aN] at hl;subst hl
        simp [bU] at hb;subst hb
        cases hx
        refine ⟨W,G,.string ⟨⟨[]⟩⟩,?_,Sim.refl R,.str _⟩
        rw [run_convert_bytes_string W src dst e none 0 0 hs he hd]
        rfl
       ·cases h
     ·split at h
      ·cases h
      ·rename_i l hl
       split at h
       ·rename_i b hb
        cases h
        refine key l b hl hb ?_
        cases hx;exact ⟨_,_,_,rfl⟩
       ·cases h
     ·split at h
      ·cases h
      ·rename_i l hl
       split at h
       ·rename_i b hb
        cases h
        cases hx with
        | imm0=>
         simp [aN] at hl;subst hl
         simp [bU] at hb;subst hb
         refine ⟨W,G,.string ⟨⟨[]⟩⟩,?_,Sim.refl R,.str _⟩
         rw [run_convert_bytes_string W src dst e none 0 0 hs he hd]
         rfl
        | imm=>exact key l b hl hb ⟨_,_,_,rfl⟩
       ·cases h
     ·cases h
    ·cases h
   ·cases h
 ·rename_i u e hs hd
  split at h
  ·rename_i s he
   rw [cond_eq_ite] at h
   split at h
   ·rename_i hok
    simp only [Bool.and_eq_true,Nat.blt_eq,Nat.beq_eq] at hok
    obtain ⟨hl,hsz⟩:=hok
    unfold fZ at hl
    split at h
    ·cases h
    ·rename_i a S1 hnew
     cases h
     cases hx
     have hge:s.length≤grownCap W s.length 0 e:=iL W _ _ _ (by omega)
     let cells:Array Value:=(s.map fun b=>Value.int .u8 b.toNat).toArray++Array.replicate (grownCap W s.length 0 e - s.length) (.int .u8 0)
     have hcs:cells.size=grownCap W s.length 0 e:=by simp [cells];omega
     have hlens:∀ x∈s.map (fun b=>[V.int .u8 (b.toNat:Int)]),x.length=1:=by
      intro x hx
      obtain ⟨b,_,rfl⟩:=List.mem_map.1 hx
      rfl
     have hw':((W.drew.alloc (.cells cells e)).freeze { block:=W.heap.size,off:=cells.size } 1).heap=W.heap.push (.cells cells e (cells.size,cells.size+1)):=by
      unfold World.freeze
      rw [if_neg (by decide)]
      apply Array.ext_getElem?
      intro k
      simp only [World.alloc,World.drew,Array.getElem?_modify,Array.getElem?_push]
      by_cases hk:k=W.heap.size
      ·subst hk;simp
      ·simp [hk,Ne.symm hk]
     obtain ⟨G',h1,h2⟩:=lT (W':=(W.drew.alloc (.cells cells e)).freeze { block:=W.heap.size,off:=cells.size } 1) hnew R hf hw'
      ⟨rfl,rfl,rfl,by rw [hw'];simp⟩ (cap:=grownCap W s.length 0 e) (by simpa using hge) (by rw [hcs];omega) (fun o ho=>by simp only;omega) (fun h=>absurd rfl h)
      (eO (ws:=s.map fun b=>Value.int .u8 b.toNat) hlens (by
       rw [mF]
       refine VRs.of (by simp) fun i v w hv hw=>?_
       simp at hv hw
       obtain ⟨b,hb,rfl⟩:=hv
       obtain ⟨b',hb',rfl⟩:=hw
       rw [hb] at hb';cases hb'
       exact .int _ _) (fun k w hk=>by
       have hkl:=(List.getElem?_eq_some_iff.1 hk).1
       show cells[k]?=some w
       rw [Array.getElem?_append_left (by simpa using hkl)]
       simpa using hk))
     refine ⟨_,G',.slice (some ⟨W.heap.size,0,none⟩) s.length (grownCap W s.length 0 e),?_,h1,.sl _ _ _ _ _ _ _ _ ⟨rfl,hge,_,h2,.inr ⟨rfl,rfl,by simp,fun _=>by simp⟩⟩⟩
     have hb:(⟨⟨s⟩⟩:ByteArray).size=s.length:=rfl
     simp only [convert,Sem.run_bind,run_underlying hs,run_underlying hd,Result.andThen_ok,run_underlying he,Conv.stringToBytes,run_choose,hb,Question.forced,Bool.false_eq_true,if_false]
     have hm:Array.map (fun b:UInt8=>Value.int IntKind.u8 (b.toNat:Int)) (⟨s⟩:Array UInt8)=(s.map fun b=>Value.int .u8 b.toNat).toArray:=by simp
     have hshape:(W.drew.alloc (.cells cells e)).shape? W.heap.size=some (e,cells.size):=by
      unfold World.shape?
      rw [show (W.drew.alloc (.cells cells e)).heap[W.heap.size]?=some (.cells cells e) from heap_alloc_new W.drew (.cells cells e)]
     show _=Result.ok (Value.slice (some ⟨W.heap.size,0,none⟩) s.length (grownCap W s.length 0 e)) ((W.drew.alloc (.cells cells e)).freeze { block:=W.heap.size,off:=cells.size } 1)
     simp only [hm,newRow,Sem.run_bind,run_newObj,Result.andThen_ok,Sem.run_pure,markStringish,run_shape]
     change ((Sem.run P (match (W.drew.alloc (.cells cells e)).shape? W.heap.size with | some (_,n)=>freeze { block:=W.heap.size,off:=n } 1 | _=>pure ()) (W.drew.alloc (.cells cells e))).andThen
      fun a w'=>Result.ok (Value.slice (some ⟨W.heap.size,0,none⟩) s.length (grownCap W s.length 0 e)) w')=_
     rw [hshape]
     rfl
   ·cases h
  ·cases h
 ·cases h
theorem kQ {P:Program} {t:TypeId} (h:sz P t≠0) (W:World):(sizeOf t).run P W=.ok (sz P t) W:=by
 unfold sz Program.cellsOf at h ⊢
 cases hi:P.info? t with
 | none=>rw [hi] at h;exact absurd rfl h
 | some i=>simp [sizeOf,typeInfo,hi]
theorem PtrAt.add {G:Gh} {a ver i j n:Nat} {p:Addr} (h:PtrAt G a ver i j p):PtrAt G a ver i (j+n) (p.add n):=by
 obtain ⟨L,hL,h⟩:=h
 refine ⟨L,hL,h.imp id ?_⟩
 rintro ⟨h1,rfl⟩
 exact ⟨h1,by rw [cY,Nat.add_assoc]⟩
theorem VR.ptrAdd {G:Gh} {a ver i j n:Nat} {p:Addr} (h:VR G (.ptr a ver i j) (.pointer (some p))):VR G (.ptr a ver i (j+n)) (.pointer (some (p.add n))):=by
 cases h with
 | ptr _ _ _ _ _ h=>exact .ptr _ _ _ _ _ h.add
theorem VR.iptrAdd {G:Gh} {cs:List V} {j n:Nat} {p:Addr} (h:VR G (.iptr cs j) (.pointer (some p))):VR G (.iptr cs (j+n)) (.pointer (some (p.add n))):=by
 cases h with
 | iptr _ _ b o c ty fr hb vs hv h=>
  rw [cY,Nat.add_assoc]
  exact .iptr _ _ _ _ _ _ _ hb vs hv h
theorem nF {P:Program} {s:TypeId} {f:Nat} {fd:Field} (h:mX P s f=some fd):∃ fs,P.underlying s=some (.struct fs)∧fs[f]?=some fd:=by
 unfold mX at h
 split at h
 ·rename_i fs hd;exact ⟨fs,hd,h⟩
 ·cases h
theorem qK {P:Program} {s:TypeId} {p v:V} {f:Nat} (h:bX P s p f=.ok v) {G:Gh} {q:Value} (hq:VR G p q) (W:World):
  ∃ w,(Instr.fieldAt s q f).run P W=.ok w W∧VR G v w:=by
 unfold bX at h
 split at h
 ·cases h
 ·rename_i fd hfd
  obtain ⟨fs,hd,hf⟩:=nF hfd
  rw [cond_eq_ite] at h
  split at h
  ·cases h
  ·rename_i h0
   have h0':sz P fd.type≠0:=by simpa using h0
   have key:∀ a:Addr,(Instr.fieldAt s (.pointer (some a)) f).run P W=.ok (.pointer (some (a.add fd.offset))) W:=by
    intro a
    simp [Instr.fieldAt,run_underlying hd,hf,Instr.sureAddr,fieldPlace,kQ h0',h0']
   split at h
   ·cases h
    cases hq with
    | ptr _ _ _ _ a hp=>exact ⟨_,key a,(VR.ptr _ _ _ _ _ hp).ptrAdd⟩
   ·cases h
    cases hq with
    | iptr _ _ b o c ty fr hb vs hv h=>exact ⟨_,key _,(VR.iptr _ _ b o c ty fr hb vs hv h).iptrAdd⟩
   ·cases h
theorem xL {P:Program} {t:TypeId} {x v:V} {f:Nat} (h:rN P t x f=.ok v) {G:Gh} {y:Value} (hy:VR G x y) (W:World):
  ∃ w,(Instr.field t y f).run P W=.ok w W∧VR G v w:=by
 unfold rN at h
 split at h
 ·cases h
 ·rename_i fd hfd
  obtain ⟨fs,hd,hf⟩:=nF hfd
  split at h
  ·cases hy with
   | agg _ vs hvs=>
    obtain ⟨w,h1,h2⟩:=jT h hvs W
    exact ⟨w,by simpa [Instr.field,run_underlying hd,hf,asAgg] using h1,h2⟩
  ·cases h
theorem iM {α:Type} {o:Option α} (h:¬ (!o.isSome)=true):∃ d,o=some d:=by
 cases o with
 | none=>simp at h
 | some d=>exact ⟨d,rfl⟩
theorem iB {x:V} {n k:Nat} (h:iZ x n=some k):∃ kk i,x=.int kk i∧0≤i∧i<n∧k=i.toNat:=by
 unfold iZ at h
 split at h
 ·rename_i kk i
  rw [cond_eq_ite] at h
  split at h
  ·rename_i hc
   simp only [Bool.and_eq_true,decide_eq_true_eq] at hc
   cases h
   exact ⟨kk,i,rfl,hc.1,hc.2,rfl⟩
  ·cases h
 ·cases h
theorem qM {P:Program} {t:TypeId} {x ix v:V} (h:cL P t x ix=.ok v) {G:Gh} {y iy:Value} (hy:VR G x y) (hi:VR G ix iy) (W:World):
  ∃ w,(Instr.indexAt t y iy).run P W=.ok w W∧VR G v w:=by
 unfold cL at h
 split at h
 ·rename_i n elem hd
  rw [cond_eq_ite] at h
  split at h
  ·cases h
  ·rename_i hel
   obtain ⟨de,hde⟩:=iM hel
   split at h
   ·cases h
   ·rename_i k hk
    obtain ⟨kk,i,rfl,hi0,hin,rfl⟩:=iB hk
    cases hi
    have key:∀ a:Addr,(Instr.indexAt t (.pointer (some a)) (.int kk i)).run P W=.ok (.pointer (some (a.add (i.toNat*sz P elem)))) W:=by
     intro a
     simp [Instr.indexAt,asIntOf,run_underlying hd,Instr.sureAddr,hi0,hin,bY hde]
    split at h
    ·cases h
     cases hy with
     | ptr _ _ _ _ a hp=>exact ⟨_,key a,(VR.ptr _ _ _ _ _ hp).ptrAdd⟩
    ·cases h
     cases hy with
     | iptr _ _ b o c ty fr hb vs hv h=>exact ⟨_,key _,(VR.iptr _ _ b o c ty fr hb vs hv h).iptrAdd⟩
    ·cases h
 ·rename_i elem hd
  rw [cond_eq_ite] at h
  split at h
  ·cases h
  ·rename_i hel
   obtain ⟨de,hde⟩:=iM hel
   have key:∀ (a:Addr) (n c:Nat) (kk:IntKind) (i:Int),0≤i→i<n→
     (Instr.indexAt t (.slice (some a) n c) (.int kk i)).run P W=.ok (.pointer (some (a.add (i.toNat*sz P elem)))) W:=by
    intro a n c kk i h0 hn
    simp [Instr.indexAt,asIntOf,run_underlying hd,h0,hn,bY hde]
   split at h
   ·rename_i a ver es off len
    split at h
    ·rename_i k hk
     rw [cond_eq_ite] at h
     split at h
     ·rename_i hes
      have hes':es=sz P elem:=by simpa using hes
      cases h
      obtain ⟨kk,i,rfl,hi0,hin,rfl⟩:=iB hk
      cases hi
      cases hy with
      | sl _ _ _ _ _ p n c hs=>
       obtain ⟨rfl,h3,L,hL,hs⟩:=hs
       refine ⟨_,key p n c kk i hi0 hin,.ptr _ _ _ _ _ ⟨L,hL,?_⟩⟩
       rcases hs with hs | ⟨h1,h2,h4,h5⟩
       ·exact .inl hs
       ·refine .inr ⟨h1,?_⟩
        have hc:c≠0:=by omega
        rw [h5 hc,cY,←hes',h2]
        congr 1
        rw [Nat.add_mul];omega
     ·cases h
    ·cases h
   ·rename_i es
    split at h
    ·rename_i k hk
     split at h
     ·rename_i cs hcs
      rw [cond_eq_ite] at h
      split at h
      ·rename_i hes
       have hes':cs.length=sz P elem:=by simpa using hes
       cases h
       obtain ⟨kk,i,rfl,hi0,hin,rfl⟩:=iB hk
       cases hi
       cases hy with
       | imm0=>simp at hcs
       | imm _ p n c e hn hc vs hv he hp=>
        subst hn
        refine ⟨_,key p es.length c kk i hi0 hin,?_⟩
        have hne:cs.length=e:=he cs (List.mem_of_getElem? hcs)
        rcases hp with hp | ⟨ca,ty,fr,h1,h2,h3⟩
        ·omega
        ·have get:∀ {es:List (List V)} {vs:List (List Value)},VRss G.shut es vs→∀ {k:Nat} {cs:List V},es[k]?=some cs→∃ l,vs[k]?=some l∧VRs G.shut cs l:=by
          intro es vs h
          induction es generalizing vs with
          | nil=>intro k cs hk;simp at hk
          | cons x es ih=>
           cases h with
           | cons _ w _ ws h t=>
            intro k cs hk
            cases k with
            | zero=>simp at hk;subst hk;exact ⟨w,by simp,h⟩
            | succ k=>simp at hk;simpa using ih t hk
         obtain ⟨l,l1,l2⟩:=get hv hcs
         obtain ⟨pb,po,ps⟩:=p
         simp only at h1 h2 h3
         subst h2
         rw [cY,←hes',hne]
         exact .iptr cs 0 pb (po+i.toNat*e) ca ty fr h1 l (fun q w hq=>h3 _ l l1 q w hq) l2
      ·cases h
     ·cases h
    ·cases h
   ·cases h
 ·cases h
theorem xM {P:Program} {t:TypeId} {x ix v:V} (h:rM P t x ix=.ok v) {G:Gh} {y iy:Value} (hy:VR G x y) (hi:VR G ix iy) (W:World):
  ∃ w,(Instr.index t y iy).run P W=.ok w W∧VR G v w:=by
 unfold rM at h
 split at h
 ·rename_i n elem hd
  rw [cond_eq_ite] at h
  split at h
  ·cases h
  ·rename_i hel
   obtain ⟨de,hde⟩:=iM hel
   split at h
   ·split at h
    ·rename_i k hk
     obtain ⟨kk,i,rfl,hi0,hin,rfl⟩:=iB hk
     cases hi
     cases hy with
     | agg _ vs hvs=>
      obtain ⟨w,h1,h2⟩:=jT h hvs W
      exact ⟨w,by simpa [Instr.index,asIntOf,run_underlying hd,hi0,hin,bY hde] using h1,h2⟩
    ·cases h
   ·cases h
 ·rename_i hd
  split at h
  ·rename_i s
   split at h
   ·rename_i k hk
    obtain ⟨kk,i,rfl,hi0,hin,rfl⟩:=iB hk
    cases hi
    split at h
    ·rename_i b hb
     cases h
     cases hy
     have:(⟨⟨s⟩⟩:ByteArray)[i.toNat]?=some b:=by
      have h1:=(List.getElem?_eq_some_iff.1 hb)
      obtain ⟨h1,h2⟩:=h1
      have hsz:i.toNat<(⟨⟨s⟩⟩:ByteArray).size:=h1
      rw [getElem?_pos (⟨⟨s⟩⟩:ByteArray) i.toNat hsz]
      exact congrArg some h2
     exact ⟨_,by simp [Instr.index,asIntOf,run_underlying hd,hi0,this],.int _ _⟩
    ·cases h
   ·cases h
  ·cases h
 ·cases h
theorem tA (s:List UInt8) (l h:Nat):(⟨⟨s⟩⟩:ByteArray).extract l h=⟨⟨(s.take h).drop l⟩⟩:=by
 apply ByteArray.ext
 apply Array.ext'
 simp [ByteArray.extract,ByteArray.copySlice,List.extract_eq_take_drop,List.drop_take]
theorem vP {len:Nat} {lo hi:Option V} {l h:Nat} (hb:eA len lo hi=.ok (l,h)):
  ((hi=none∧h=len)∨∃ k n,hi=some (.int k n)∧0≤n∧n≤len∧h=n.toNat) ∧
  ((lo=none∧l=0)∨∃ k n,lo=some (.int k n)∧0≤n∧n≤h∧l=n.toNat):=by
 unfold eA at hb
 split at hb
 ·cases hb
 ·rename_i H hH
  have hlow:h=H∧((lo=none∧l=0)∨∃ k n,lo=some (.int k n)∧0≤n∧n≤H∧l=n.toNat):=by
   split at hb
   ·cases hb;exact ⟨rfl,.inl ⟨rfl,rfl⟩⟩
   ·rename_i kk ll
    rw [cond_eq_ite] at hb
    split at hb
    ·rename_i hc
     simp only [Bool.and_eq_true,decide_eq_true_eq] at hc
     cases hb
     exact ⟨rfl,.inr ⟨kk,ll,rfl,hc.1,hc.2,rfl⟩⟩
    ·cases hb
   ·cases hb
  obtain ⟨rfl,hlow⟩:=hlow
  refine ⟨?_,hlow⟩
  split at hH
  ·cases hH;exact .inl ⟨rfl,rfl⟩
  ·rename_i kk hv
   rw [cond_eq_ite] at hH
   split at hH
   ·rename_i hc'
    simp only [Bool.and_eq_true,decide_eq_true_eq] at hc'
    cases hH
    exact .inr ⟨kk,hv,rfl,hc'.1,hc'.2,rfl⟩
   ·cases hH
  ·cases hH
theorem eP {P:Program} {len:Nat} {lo hi:Option V} {l h:Nat} (hb:eA len lo hi=.ok (l,h)) {G:Gh} {lo' hi':Option Value}
  (hlo:∀ v,lo=some v→∃ w,lo'=some w∧VR G v w) (hlo0:lo=none→lo'=none) (hhi:∀ v,hi=some v→∃ w,hi'=some w∧VR G v w) (hhi0:hi=none→hi'=none)
  (isSlice:Bool) (cap:Nat) (hc:len≤cap) (W:World):
  (Instr.sliceBounds isSlice len cap lo' hi' none).run P W=.ok (l,h,cap) W∧l≤h∧h≤len:=by
 obtain ⟨h1,h2⟩:=vP hb
 rcases h1 with ⟨e1,rfl⟩ | ⟨k,n,e1,a1,a2,rfl⟩<;>rcases h2 with ⟨e2,rfl⟩ | ⟨k',n',e2,b1,b2,rfl⟩
 ·have:=hhi0 e1;subst this
  have:=hlo0 e2;subst this
  exact ⟨by simp [Instr.sliceBounds],by omega,by omega⟩
 ·have:=hhi0 e1;subst this
  obtain ⟨w,rfl,hw⟩:=hlo _ e2
  cases hw
  have hq:0≤n'∧n'≤(h:Int):=⟨b1,b2⟩
  exact ⟨by simp [Instr.sliceBounds,Instr.sliceBound,asIntOf,hq],by omega,by omega⟩
 ·obtain ⟨w,rfl,hw⟩:=hhi _ e1
  cases hw
  have:=hlo0 e2;subst this
  have hq:0≤n∧n≤(cap:Int):=⟨a1,by omega⟩
  exact ⟨by simp [Instr.sliceBounds,Instr.sliceBound,asIntOf,hq],by omega,by omega⟩
 ·obtain ⟨w,rfl,hw⟩:=hhi _ e1
  cases hw
  obtain ⟨w,rfl,hw⟩:=hlo _ e2
  cases hw
  have hq:0≤n∧n≤(cap:Int):=⟨a1,by omega⟩
  have hq':0≤n'∧n'≤n:=⟨b1,by omega⟩
  have hmax:max n 0=n:=by omega
  exact ⟨by simp [Instr.sliceBounds,Instr.sliceBound,asIntOf,hq,hq',hmax],by omega,by omega⟩
theorem xN {P:Program} {t:TypeId} {x v:V} {lo hi:Option V} (h:eK P t x lo hi=.ok v) {G:Gh} {y:Value} (hy:VR G x y) {lo' hi':Option Value}
  (hlo:∀ v,lo=some v→∃ w,lo'=some w∧VR G v w) (hlo0:lo=none→lo'=none) (hhi:∀ v,hi=some v→∃ w,hi'=some w∧VR G v w) (hhi0:hi=none→hi'=none)
  (W:World):∃ w,(Instr.sliceAt t y lo' hi' none).run P W=.ok w W∧VR G v w:=by
 unfold eK at h
 split at h
 ·rename_i hd
  split at h
  ·rename_i s
   split at h
   ·rename_i l hh hb
    cases h
    cases hy
    obtain ⟨b1,b2,b3⟩:=eP (P:=P) hb hlo hlo0 hhi hhi0 false s.length (Nat.le_refl _) W
    have hs:(⟨⟨s⟩⟩:ByteArray).size=s.length:=rfl
    refine ⟨.string ((⟨⟨s⟩⟩:ByteArray).extract l hh),?_,by rw [tA];exact .str _⟩
    simp only [Instr.sliceAt,Sem.run_bind,run_underlying hd,Result.andThen_ok,Instr.slice,hs]
    simp [b1]
   ·cases h
  ·cases h
 ·rename_i elem hd
  rw [cond_eq_ite] at h
  split at h
  ·cases h
  ·rename_i hel
   obtain ⟨de,hde⟩:=iM hel
   split at h
   ·rename_i a ver es off len
    split at h
    ·rename_i l hh hb
     rw [cond_eq_ite] at h
     split at h
     ·rename_i hes
      have hes':es=sz P elem:=by simpa using hes
      cases h
      cases hy with
      | sl _ _ _ _ _ p n c hs=>
       obtain ⟨rfl,hnc,L,hL,hs⟩:=hs
       obtain ⟨b1,b2,b3⟩:=eP (P:=P) hb hlo hlo0 hhi hhi0 true c hnc W
       refine ⟨.slice (some (if c=l then p else p.add (l*sz P elem))) (hh - l) (c - l),?_,.sl _ _ _ _ _ _ _ _ ⟨rfl,by omega,L,hL,?_⟩⟩
       ·simp only [Instr.sliceAt,Sem.run_bind,run_underlying hd,Result.andThen_ok,Instr.slice,b1,bY hde,Sem.run_pure]
        split<;>simp
       ·rcases hs with hs | ⟨h1,h2,h4,h5⟩
        ·exact .inl hs
        ·refine .inr ⟨h1,h2,by omega,fun h0=>?_⟩
         rw [if_neg (by omega),h5 (by omega),cY,←hes',h2]
         congr 1
         rw [Nat.add_mul];omega
     ·cases h
    ·cases h
   ·rename_i es
    split at h
    ·rename_i l hh hb
     rw [cond_eq_ite] at h
     split at h
     ·rename_i hes
      cases h
      cases hy with
      | imm0=>
       obtain ⟨b1,b2,b3⟩:=eP (P:=P) hb hlo hlo0 hhi hhi0 true 0 (Nat.zero_le _) W
       rw [List.length_nil] at b1 b3
       obtain rfl:hh=0:=by omega
       obtain rfl:l=0:=by omega
       refine ⟨.slice none 0 0,?_,?_⟩
       ·simp only [Instr.sliceAt,Sem.run_bind,run_underlying hd,Result.andThen_ok,Instr.slice,b1,Sem.run_pure,bY hde,if_true,Nat.sub_zero]
       ·simpa using VR.imm0
      | imm _ p n c e hn hc vs hv he hp=>
       subst hn
       obtain ⟨b1,b2,b3⟩:=eP (P:=P) hb hlo hlo0 hhi hhi0 true c hc W
       have htd:∀ {es:List (List V)} {vs:List (List Value)},VRss G.shut es vs→∀ l h,VRss G.shut ((es.take h).drop l) ((vs.take h).drop l):=by
        intro es vs hv
        induction es generalizing vs with
        | nil=>cases hv;intro l h;simpa using VRss.nil
        | cons x es ih=>
         cases hv with
         | cons _ w _ ws hx t=>
          intro l h
          cases h with
          | zero=>simpa using VRss.nil
          | succ h=>
           cases l with
           | zero=>
            have:=ih t 0 h
            simp at this ⊢
            exact .cons _ _ _ _ hx this
           | succ l=>simpa using ih t l h
       refine ⟨.slice (some (if c=l then p else p.add (l*sz P elem))) (hh - l) (c - l),?_,.imm _ _ _ _ e (by simp;omega) (by omega) _ (htd hv l hh)
        (fun cs hcs=>he cs (List.mem_of_mem_take (List.mem_of_mem_drop hcs))) ?_⟩
       ·simp only [Instr.sliceAt,Sem.run_bind,run_underlying hd,Result.andThen_ok,Instr.slice,b1,bY hde,Sem.run_pure]
        split<;>simp
       ·by_cases h0:hh - l=0
        ·exact .inl h0
        ·right
         rcases hp with hp | ⟨ca,ty,fr,h1,h2,h3⟩
         ·omega
         ·rw [if_neg (by omega)]
          have hse:sz P elem=e:=by
           cases es with
           | nil=>simp at b3;omega
           | cons x es=>
            have:=List.all_eq_true.1 hes x (by simp)
            rw [←he x (by simp)];exact (show x.length=sz P elem by simpa using this).symm
          obtain ⟨pb,po,ps⟩:=p
          simp only at h1 h2 h3
          subst h2
          rw [cY]
          refine ⟨ca,ty,fr,h1,rfl,fun i l' hl' k v hk=>?_⟩
          rw [List.getElem?_drop,List.getElem?_take] at hl'
          split at hl'
          ·have:=h3 _ l' hl' k v hk
           simp only
           rw [hse,show po+l*e+i*e+k=po+(l+i)*e+k by rw [Nat.add_mul];omega]
           exact this
          ·cases hl'
     ·cases h
    ·cases h
   ·split at h
    ·rename_i x' hb
     obtain ⟨l,hh⟩:=x'
     cases h
     cases hy
     obtain ⟨b1,b2,b3⟩:=eP (P:=P) hb hlo hlo0 hhi hhi0 true 0 (Nat.le_refl _) W
     have hl0:l=0:=by omega
     have hh0:hh=0:=by omega
     subst hl0;subst hh0
     refine ⟨.slice none 0 0,?_,.nils⟩
     simp only [Instr.sliceAt,Sem.run_bind,run_underlying hd,Result.andThen_ok,Instr.slice,b1,bY hde,Sem.run_pure]
     simp
    ·cases h
   ·cases h
 ·cases h
theorem bR:∀ (a b:List UInt8),jN a b=(a == b)
 | [],[]=>rfl
 | [],_::_=>rfl
 | _::_,[]=>rfl
 | a::x,b::y=>by
  simp only [jN,bR x y,cond_eq_ite,Nat.beq_eq,List.cons_beq_cons]
  by_cases h:a=b
  ·subst h;simp
  ·have:a.toNat≠b.toNat:=fun e=>h (UInt8.toNat_inj.1 e)
   simp [h,this]
theorem zQ:∀ (a b:List UInt8),ltB a b=Op.bytesLess a b
 | _,[]=>by simp [ltB,Op.bytesLess]
 | [],_::_=>by simp [ltB,Op.bytesLess]
 | a::x,b::y=>by
  simp only [ltB,Op.bytesLess,zQ x y,cond_eq_ite,Nat.beq_eq,Nat.blt_eq]
  by_cases h:a=b
  ·subst h;simp
  ·have h1:a.toNat≠b.toNat:=fun e=>h (UInt8.toNat_inj.1 e)
   by_cases h2:a.toNat<b.toNat
   ·have:a<b:=UInt8.lt_iff_toNat_lt.2 h2
    simp [h2,this]
   ·have:¬ a<b:=fun q=>h2 (UInt8.lt_iff_toNat_lt.1 q)
    simp [h,h1,h2,this]
theorem jV {j k:IntKind} (h:fN j k=true):j=k:=by
 cases j<;>cases k<;>first | rfl | (simp [fN] at h)
theorem eQ (s:List UInt8):(⟨⟨s⟩⟩:ByteArray).toList=s:=by rw [ByteArray.toList_eq]
theorem kR {P : Program} {op : BinOp} {t : TypeId} {k : IntKind} {a b : Int} {v : V} (hs : op ≠ .shl) (hr : op ≠ .shr) (h : eY op k a b = .ok v) (G : Gh) (W : World) :
    ∃ w, (binOp op t (.int k a) (.int k b)).run P W = .ok w W ∧ VR G v w := by
  cases op <;> simp only [eY] at h <;> first
    | (exact absurd rfl hs)
    | (exact absurd rfl hr)
    | (cases h; exact ⟨_, by simp [binOp, Op.intArith, Op.intBits, Op.intCmp]; rfl, by first | (rw [rT]; exact .int _ _) | exact .bool _⟩)
    | (cases h
       refine ⟨.int k (k.wrap ((BitVec.ofInt k.bits a &&& ~~~(BitVec.ofInt k.bits b)).toNat)), ?_, by rw [rT]; exact .int _ _⟩
       simp only [binOp, ne_eq, not_true_eq_false, if_false, Op.intBits]
       rfl)
    | (rw [cond_eq_ite] at h
       split at h
       · cases h
       · rename_i hb
         have hb' : b ≠ 0 := by simpa using hb
         cases h
         exact ⟨_, by simp [binOp, Op.intDiv, hb']; rfl, by first | (rw [rT]; exact .int _ _) | exact .int _ _⟩)
    | (cases h)
theorem lV {P:Program} {op:BinOp} {t:TypeId} {k k':IntKind} {a b:Int} {v:V} (h:mW op k a b=.ok v) (G:Gh) (W:World):
  ∃ w,(binOp op t (.int k a) (.int k' b)).run P W=.ok w W∧VR G v w:=by
 unfold mW at h
 rw [cond_eq_ite] at h
 split at h
 ·cases h
 ·rename_i hb
  have hb':¬ b<0:=by simpa using hb
  split at h
  ·cases h
   exact ⟨.int k (k.wrap (a*2 ^ (min b.toNat k.bits))),by simp [binOp,Op.shift,hb'],by rw [rT];exact .int _ _⟩
  ·cases h
   exact ⟨.int k (a.fdiv (2 ^ (min b.toNat k.bits))),by simp [binOp,Op.shift,hb'],.int _ _⟩
  ·cases h
theorem xO {P:Program} {op:BinOp} {t:TypeId} {a b:List UInt8} {v:V} (h:rJ op a b=.ok v) (G:Gh) (W:World):
  ∃ w,(binOp op t (.string ⟨⟨a⟩⟩) (.string ⟨⟨b⟩⟩)).run P W=.ok w W∧VR G v w:=by
 have hb:∀ s:List UInt8,(⟨⟨s⟩⟩:ByteArray).size=s.length:=fun _=>rfl
 unfold rJ at h
 split at h
 ·rw [cond_eq_ite] at h
  split at h
  ·rename_i hl
   cases h
   have hl':a.length+b.length<2147483648:=by simpa [fZ] using hl
   have h63:¬ (9223372036854775807<(a.length:Int)+(b.length:Int)):=by omega
   refine ⟨.string (⟨⟨a⟩⟩++⟨⟨b⟩⟩),by simp [binOp,Op.stringOp,hb,h63],?_⟩
   have:(⟨⟨a⟩⟩++⟨⟨b⟩⟩:ByteArray)=⟨⟨a++b⟩⟩:=by
    apply ByteArray.ext
    simp
   rw [this];exact .str _
  ·cases h
 all_goals first
  | (cases h;exact ⟨_,by simp only [binOp,Op.stringOp,eQ];rfl,by rw [bR];exact .bool _⟩)
  | (cases h;exact ⟨_,by simp only [binOp,Op.stringOp,eQ];rfl,by rw [zQ,bR];exact .bool _⟩)
  | (cases h;exact ⟨_,by simp only [binOp,Op.stringOp,eQ];rfl,by rw [zQ];exact .bool _⟩)
  | (cases h)
theorem uD {P:Program}:∀ (d:Nat) {t:TypeId} {x y:V} {r:Bool},kM P d t x y=.ok r→∀ {G:Gh} {a b:Value},VR G x a→VR G y b→∀ (m:Nat) (W:World),d≤m→
  (Op.equalIn m t a b).run P W=.ok r W
 | 0,_,_,_,_,h,_,_,_,_,_,_,_,_=>by simp [kM] at h
 | d+1,t,x,y,r,h,G,a,b,hx,hy,m,W,hm=>by
  obtain ⟨m,rfl⟩:∃ m',m=m'+1:=⟨m - 1,by omega⟩
  have hdm:d≤m:=by omega
  unfold kM at h
  split at h
  ·rename_i k hd
   split at h
   ·rename_i j a' k' b'
    rw [cond_eq_ite] at h
    split at h
    ·rename_i hk
     have:=jV hk
     subst this
     cases h;cases hx;cases hy
     simp [Op.equalIn,run_underlying hd]
     rfl
    ·cases h
   ·cases h
  ·rename_i hd
   split at h
   ·cases h;cases hx;cases hy
    simp [Op.equalIn,run_underlying hd]
   ·cases h
  ·rename_i hd
   split at h
   ·rename_i a' b'
    cases h;cases hx;cases hy
    rw [run_equalIn_string W m t _ _ hd,eQ,eQ,bR]
   ·cases h
  ·rename_i e hd
   split at h<;>first
    | (cases h;cases hx;cases hy;simp [Op.equalIn,run_underlying hd])
    | (cases h)
  ·rename_i e hd
   split at h<;>first
    | (cases h;cases hx;cases hy;simp [Op.equalIn,run_underlying hd])
    | (cases h)
  ·rename_i e hd
   split at h<;>first
    | (cases h;cases hx;cases hy;simp [Op.equalIn,run_underlying hd])
    | (cases h)
  ·rename_i fs hd
   split at h
   ·rename_i xs ys
    rw [cond_eq_ite] at h
    split at h
    ·cases h
    ·rename_i hst
     have hst':P.stoodInHeld t=false:=by simpa using hst
     cases hx with
     | agg _ xv hxv=>
      cases hy with
      | agg _ yv hyv=>
       have hfo:P.fieldsOf t=fs:=by simp [Program.fieldsOf,hd]
       rw [run_equalIn_struct W m t xv yv (by rw [hfo];exact hd) hst',hfo]
       have key:∀ (l:List Field) (r:Bool),kM.eqFs P (kM P d) xs ys l=.ok r→(Op.eqFields m xv yv l).run P W=.ok r W:=by
        intro l
        induction l with
        | nil=>intro r h;simp [kM.eqFs] at h;subst h;simp [Op.eqFields]
        | cons f l ih=>
         intro r h
         simp only [kM.eqFs] at h
         rw [cond_eq_ite] at h
         split at h
         ·cases h
         ·rename_i hn
          have hn':f.name ≠ "_":=by simpa using hn
          split at h
          ·cases h
          ·rename_i a' ha
           split at h
           ·cases h
           ·rename_i b' hb
            split at h
            ·cases h
            ·rename_i r' hr
             obtain ⟨w1,p1,p2⟩:=jT ha hxv W
             obtain ⟨w2,q1,q2⟩:=jT hb hyv W
             have he:=uD d hr p2 q2 m W hdm
             have p1':(part f.type xv f.offset).run P W=.ok w1 W:=by simpa using p1
             have q1':(part f.type yv f.offset).run P W=.ok w2 W:=by simpa using q1
             simp only [Op.eqFields,hn',ne_eq,not_false_eq_true,if_true,Sem.run_bind,p1',q1',he,Result.andThen_ok]
             cases r'
             ·simp at h ⊢;exact h
             ·simp at h ⊢;exact ih r h
       exact key fs.toList r h
   ·cases h
  ·cases h
theorem xP {P:Program} {op:BinOp} {t:TypeId} {x y:V} (h:aEn P op t x y=true) {G:Gh} {a b:Value} (hx:VR G x a) (hy:VR G y b) (ox oy:Operand) (W:World):
  (eqGuard op t ox oy a b).run P W=.ok () W:=by
 by_cases hop:op=.eql∨op=.neq
 ·have hg:aU P t x y=true:=by
   rcases hop with rfl | rfl<;>exact h
  clear h
  cases hx<;>cases hy<;>first
   | (simp [aU] at hg;done)
   | (exact run_eqGuard_agg W op t ox oy _ _ (by simpa [aU] using hg))
   | (rcases hop with rfl | rfl<;>simp [eqGuard])
 ·have:(eqGuard op t ox oy a b)=pure ():=by
   unfold eqGuard
   cases op<;>first | rfl | (simp at hop)
  rw [this];rfl
theorem aDb {P:Program} {t:TypeId} {x y:Operand} {a b:V} (h:cW P t x y a b=true):aU P t a b=true∨zL x y a b=true:=by
 unfold cW at h
 split at h
 ·simpa only [Bool.or_eq_true] using h
 ·exact .inl h
theorem vQ {P:Program} {op:BinOp} {t:TypeId} {x y:V} {ox oy:Operand} (h:zM P op t ox oy x y=true) {G:Gh} {a b:Value} (hx:VR G x a) (hy:VR G y b) (W:World):
  (eqGuard op t ox oy a b).run P W=.ok () W:=by
 by_cases hg:aEn P op t x y=true
 ·exact xP hg hx hy ox oy W
 ·have hn:zL ox oy x y=true:=by
   cases op<;>first | exact (aDb h).resolve_left hg | exact absurd rfl hg
  unfold zL at hn
  split at hn
  ·split at hn
   ·cases hx
    cases hy
    unfold isC at hn
    cases ox<;>cases oy<;>cases op<;>first | (simp at hn;done) | rfl
   ·cases hn
  ·cases hn
theorem xQ {m:Nat} {k:IntKind} (h:fN (qT m) k=true):qT m=k:=jV h
theorem rU {op : BinOp} {m r : Nat} {k k' : IntKind} {n b : Int} {v : V} {sy : Nat → Int} (h : vK op m r k b = .ok v) (hr : aOk sy m r k' n) :
    k' = k ∧ eY op k n b = .ok v ∧ eY (kN op) k b n = .ok v ∧ (op = .eql ∨ op = .neq ∨ op = .lss ∨ op = .leq ∨ op = .gtr ∨ op = .geq) := by
  unfold vK at h
  rw [cond_eq_ite] at h
  split at h
  · rename_i hc
    simp only [Bool.and_eq_true, Nat.ble_eq] at hc
    have hk := xQ hc.2
    rcases hr with ⟨h1, _, _⟩ | ⟨h1, h2, _, h3, h4⟩
    · omega
    · refine ⟨h2.trans hk, ?_⟩
      cases op <;> simp only [cond_eq_ite, Bool.or_eq_true, decide_eq_true_eq] at h <;>
        first
        | (cases h; done)
        | (split at h
           · cases h
             refine ⟨?_, ?_, by simp⟩ <;> simp only [eY, kN] <;> congr 2 <;> simp <;> omega
           · first
             | (cases h; done)
             | (split at h
                · cases h
                  refine ⟨?_, ?_, by simp⟩ <;> simp only [eY, kN] <;> congr 2 <;> simp <;> omega
                · cases h))
  · cases h
theorem uE {op:BinOp} (h:op=.eql∨op=.neq∨op=.lss∨op=.leq∨op=.gtr∨op=.geq):op≠.shl∧op≠.shr:=by
 rcases h with rfl | rfl | rfl | rfl | rfl | rfl<;>simp
theorem aDc {P:Program} {op:BinOp} {t:TypeId} {x y v:V} (h:aZ P op t x y=.ok v) {G:Gh} {a b:Value} (hx:VR G x a) (hy:VR G y b) (W:World):
  ∃ w,(binOp op t a b).run P W=.ok w W∧VR G v w:=by
 unfold aZ at h
 split at h
 ·rename_i j a' k b'
  cases hx;cases hy
  split at h
  ·exact lV h G W
  ·exact lV h G W
  ·rename_i h1 h2
   rw [cond_eq_ite] at h
   split at h
   ·rename_i hk
    have:=jV hk
    subst this
    exact kR (fun e=>h1 e) (fun e=>h2 e) h G W
   ·cases h
 ·cases hx;cases hy
  exact xO h G W
 ·rename_i m r y' _
  split at h
  ·cases hx with
   | res _ _ k' n hr=>
    cases hy
    obtain ⟨rfl,h1,_,h2⟩:=rU h hr
    exact kR (uE h2).1 (uE h2).2 h1 G W
  ·cases h
 ·split at h
  ·cases hy with
   | res _ _ k' n hr=>
    cases hx
    obtain ⟨rfl,_,h1,h2⟩:=rU h hr
    have hf:kN (kN op)=op:=by cases op<;>first | rfl | (simp [kN] at h2)
    rw [hf] at h1
    have h3:op≠.shl∧op≠.shr:=by cases op<;>first | (simp;done) | (simp [kN] at h2)
    exact kR h3.1 h3.2 h1 G W
  ·cases h
 ·rename_i n1 n2 n3 n4
  have key:∀ r,kM P 100 t x y=.ok r→(Op.equal t a b).run P W=.ok r W:=fun r hr=>uD 100 hr hx hy 10000 W (by omega)
  have hint:∀ j n k m,a=.int j n→b=.int k m→False:=by
   intro j n k m h1 h2
   subst h1;subst h2
   cases hx<;>cases hy<;>first | exact n3 _ _ _ _ rfl rfl | exact n1 _ _ rfl | exact n2 _ _ rfl
  have hstr:∀ s u,a=.string s→b=.string u→False:=by
   intro s u h1 h2
   subst h1;subst h2
   cases hx;cases hy
   exact n4 _ _ rfl rfl
  split at h
  ·split at h
   ·rename_i r hr
    cases h
    refine ⟨.bool r,?_,.bool _⟩
    have:binOp .eql t a b=(do pure (.bool (←Op.equal t a b))):=by
     clear key hr n1 n2 n3 n4
     cases hx<;>cases hy<;>first
      | rfl
      | exact (hint _ _ _ _ rfl rfl).elim
      | exact (hstr _ _ rfl rfl).elim
    rw [this];simp [key r hr]
   ·cases h
  ·split at h
   ·rename_i r hr
    cases h
    refine ⟨.bool (!r),?_,.bool _⟩
    have:binOp .neq t a b=(do pure (.bool (!(←Op.equal t a b)))):=by
     clear key hr n1 n2 n3 n4
     cases hx<;>cases hy<;>first
      | rfl
      | exact (hint _ _ _ _ rfl rfl).elim
      | exact (hstr _ _ rfl rfl).elim
    rw [this];simp [key r hr]
   ·cases h
  ·cases h
theorem tC {fr:Option Nat} {S S':St} {s:List UInt8} {a:Nat} (h:aV fr S (.iter s 0)=.ok (a,S'))
  {F:Nat→Option Obj} {G:Gh} {W:World} (R:cO F G S W.heap) (hf:kP fr G S):
  ∃ G',Sim F fr G S W G' S' (W.alloc (.stringIter ⟨⟨s⟩⟩ 0))∧G'.loc a=some ⟨0,W.heap.size,0,0,0⟩:=by
 have row:∀ k,G.le { G with loc:=fun x=>if x=k then some ⟨0,W.heap.size,0,0,0⟩ else G.loc x }→
   BlkAt { G with loc:=fun x=>if x=k then some ⟨0,W.heap.size,0,0,0⟩ else G.loc x } (W.heap.push (.stringIter ⟨⟨s⟩⟩ 0)) k (.iter s 0):=
  fun k _=>⟨⟨0,W.heap.size,0,0,0⟩,by simp,rfl,rfl,by simp⟩
 unfold aV at h
 split at h
 ·rw [cond_eq_ite] at h
  split at h
  ·rename_i hl
   cases h
   have hl':S.next<jM S.next:=by simpa using hl
   obtain ⟨f1,f2⟩:=R.fresh S.next (Nat.le_refl _)
   obtain ⟨g1,g2⟩:=R.allocBlk (k:=S.next) (nx:=S.next+1) f1 f2 hl' (by omega) (by omega) (ob:=.stringIter ⟨⟨s⟩⟩ 0) (row _)
   refine ⟨_,⟨g1,g2,Same.alloc _ _,by simp,fun x hx hlt _=>⟨?_,rfl⟩,fun x hx hlt _=>?_,fun _ _ h=>.inl h⟩,by simp⟩
   ·have:x≠S.next:=by omega
    simp [this]
   ·show (S.heap.put S.next _).get x=none
    rw [Tr.get_put_neB _ _ _ _ hl' (by omega)];exact hx
  ·cases h
 ·rename_i k
  rw [cond_eq_ite] at h
  split at h
  ·rename_i hl
   cases h
   have hl':a<jM a:=by simpa using hl
   obtain ⟨f0,f1,f2⟩:=hf a rfl
   obtain ⟨g1,g2⟩:=R.allocBlk (k:=a) (nx:=S.next) f1 f2 hl' (Nat.le_refl _) f0 (ob:=.stringIter ⟨⟨s⟩⟩ 0) (row _)
   refine ⟨_,⟨g1,g2,Same.alloc _ _,by simp,fun x hx hlt hne=>⟨?_,rfl⟩,fun x hx hlt hne=>?_,fun _ _ h=>.inl h⟩,by simp⟩
   ·have:x≠a:=fun e=>hne (by rw [e])
    simp [this]
   ·show (S.heap.put a _).get x=none
    rw [Tr.get_put_neB _ _ _ _ hl' (fun e=>hne (by rw [e]))];exact hx
  ·cases h
theorem xR {P:Program} {t:TypeId} (hd:P.underlying t=some .string) {s:List UInt8} {fr:Option Nat} {S S':St} {a:Nat} (h:aV fr S (.iter s 0)=.ok (a,S'))
  {F:Nat→Option Obj} {G:Gh} {W:World} (R:cO F G S W.heap) (hf:kP fr G S) {y:Value} (hy:VR G (.str s) y):
  ∃ W' G' w,(Instr.range t y).run P W=.ok w W'∧Sim F fr G S W G' S' W'∧VR G' (.ptr a 0 0 0) w:=by
 cases hy
 obtain ⟨G',h1,h2⟩:=tC h R hf
 refine ⟨_,G',.pointer (some ⟨W.heap.size,0,none⟩),?_,h1,.ptr _ _ _ _ _ ⟨_,h2,.inr ⟨rfl,rfl⟩⟩⟩
 simp only [Instr.range,Sem.run_bind,run_underlying hd,Result.andThen_ok,Sem.run_pure,run_newObj]
 rfl
theorem vR {s:List UInt8} {pos:Nat} {b:UInt8} (hb:s[pos]?=some b) (hlt:b.toNat<128):Utf8.decode ⟨⟨s⟩⟩ pos=(b.toNat,1):=by
 have hb0:(ByteArray.get! ⟨⟨s⟩⟩ (pos+0)).toNat=b.toNat:=by
  have:ByteArray.get! ⟨⟨s⟩⟩ (pos+0)=b:=by
   show ((⟨s⟩:Array UInt8)[pos+0]!)=b
   simp [List.getElem!_eq_getElem?_getD,hb]
  rw [this]
 unfold Utf8.decode
 simp only [hb0]
 rw [if_pos hlt]
theorem zR {P:Program} {ty:TypeId} {a pos:Nat} {s:List UInt8} {S:St} (hg:S.heap.get a=some (.iter s pos)) {fr:Option Nat}
  {F:Nat→Option Obj} {G:Gh} {W:World} (R:cO F G S W.heap) {y:Value} (hy:VR G (.ptr a 0 0 0) y):
  (s.length≤pos→∃ w,(Instr.next y true ty).run P W=.ok w W∧VR G (.tup [.bool false]) w) ∧
  (pos<s.length→∃ W' w,(Instr.next y true ty).run P W=.ok w W' ∧
   Sim F fr G S W G ⟨S.next,S.heap.put a (.iter s (pos+(Utf8.decode ⟨⟨s⟩⟩ pos).2))⟩ W'∧VR G (.tup [.bool true,.int .i64 pos,.int .i32 (Utf8.decode ⟨⟨s⟩⟩ pos).1]) w):=by
 cases hy with
 | ptr _ _ _ _ ad hp=>
  obtain ⟨L,hL,hp⟩:=hp
  obtain ⟨L',hL',r1,r2,hH⟩:=R.blk a _ hg
  rw [hL] at hL';cases hL'
  rcases hp with hp | ⟨_,rfl⟩
  ·omega
  ·have e0:L.co+0*L.es+0=0:=by rw [r2];simp
   rw [e0]
   have hsz:(⟨⟨s⟩⟩:ByteArray).size=s.length:=rfl
   have hget:(getObj L.cb).run P W=.ok (.stringIter ⟨⟨s⟩⟩ pos) W:=by simp [getObj,Sem.run,hH]
   refine ⟨fun hge=>⟨.tuple #[.bool false],?_,.tup _ _ (.cons _ _ _ _ (.bool _) .nil)⟩,fun hpos=>?_⟩
   ·unfold Instr.next
    simp only [Sem.run_bind,hget,Result.andThen_ok,hsz]
    rw [if_neg (by omega)];rfl
   ·have hi:=R.lt a L.cb (.inl ⟨L,hL,rfl⟩)
    refine ⟨{ W with heap:=W.heap.setIfInBounds L.cb (.stringIter ⟨⟨s⟩⟩ (pos+(Utf8.decode ⟨⟨s⟩⟩ pos).2)) },.tuple #[.bool true,.int .i64 pos,.int .i32 (Utf8.decode ⟨⟨s⟩⟩ pos).1],?_,⟨G.le_refl,?_,⟨rfl,rfl,rfl,by simp⟩,Nat.le_refl _,fun _ _ _ _=>⟨rfl,rfl⟩,fun x hx _ _=>?_,fun _ _ h=>.inl h⟩,
     .tup _ _ (.cons _ _ _ _ (.bool _) (.cons _ _ _ _ (.int _ _) (.cons _ _ _ _ (.int _ _) .nil)))⟩
    ·unfold Instr.next
     simp only [Sem.run_bind,hget,Result.andThen_ok,hsz]
     rw [if_pos hpos]
     simp only [Sem.run_bind]
     have hset:(setObj L.cb (.stringIter ⟨⟨s⟩⟩ (pos+(Utf8.decode ⟨⟨s⟩⟩ pos).2))).run P W=.ok () { W with heap:=W.heap.setIfInBounds L.cb (.stringIter ⟨⟨s⟩⟩ (pos+(Utf8.decode ⟨⟨s⟩⟩ pos).2)) }:=by
      simp [setObj,Sem.run,hH]
     rw [hset];rfl
    ·refine R.keepBlk hg hL (fun i hi=>?_) (by simp) ⟨L,hL,r1,r2,?_⟩
     ·show (W.heap.setIfInBounds L.cb _)[i]?=W.heap[i]?
      rw [Array.getElem?_setIfInBounds_ne (Ne.symm hi)]
     ·show (W.heap.setIfInBounds L.cb _)[L.cb]?=_
      simp [hi]
    ·show (S.heap.put a _).get x=none
     rw [Tr.get_put_neB _ _ _ _ (R.small a _ hg) (fun e=>by rw [e,hg] at hx;cases hx)];exact hx
theorem kG {P:Program} {t:TypeId} {z:V} (hz:aF P t=some z) (G:Gh):∃ w,(∀ W,(zeroValue t).run P W=.ok w W)∧VR G z w:=by
 obtain ⟨i,w,h1,h2,h3⟩:=cU hz
 exact ⟨w,fun W=>by simp [zeroValue,typeInfo,h1,h2],cN G h3⟩
theorem vS {P:Program} {x v:V} {xt t:TypeId} {ok:Bool} (h:gC P x t ok=.ok v) {G:Gh} {y:Value} (hy:VR G x y) (W:World):
  ∃ w,(Instr.typeAssert y xt t ok).run P W=.ok w W∧VR G v w:=by
 have fails:(bif ok then (match aF P t with
  | some z=>.ok (.tup [z,.bool false])
  | none=>.error "typeAssert") else .error "typeAssert")=(Except.ok v:AM.R V)→∃ w,(∀ a b c,(if ok=true then (do pure (Value.tuple #[←zeroValue t,.bool false])) else runtimePanic (.typeAssertion a b t c):Sem Value).run P W=.ok w W)∧VR G v w:=by
  intro hv
  cases ok
  ·cases hv
  ·simp only [cond_true] at hv
   split at hv
   ·rename_i z hz
    cases hv
    obtain ⟨w,w1,w2⟩:=kG hz G
    exact ⟨.tuple #[w,.bool false],fun _ _ _=>by simp [w1],.tup _ _ (.cons _ _ _ _ w2 (.cons _ _ _ _ (.bool _) .nil))⟩
   ·cases hv
 unfold gC at h
 simp only at h
 split at h
 ·cases h
 ·cases h
 ·rename_i d hni hd
  split at h
  ·rename_i u x
   cases hy with
   | iface _ _ w hw=>
    rw [cond_eq_ite] at h
    split at h
    ·rename_i hb
     have hb':=Nat.eq_of_beq_eq_true hb
     subst hb'
     cases h
     refine ⟨if ok then .tuple #[w,.bool true] else w,?_,?_⟩
     ·cases d<;>first | exact (hni _ rfl).elim | (simp [Instr.typeAssert,run_underlying hd];done)
     ·cases ok
      ·exact hw
      ·exact .tup _ _ (.cons _ _ _ _ hw (.cons _ _ _ _ (.bool _) .nil))
    ·rename_i hb
     have hb':u≠t:=fun e=>hb (by simp [e])
     obtain ⟨w',w1,w2⟩:=fails h
     refine ⟨w',?_,w2⟩
     cases d<;>first | exact (hni _ rfl).elim | (simp only [Instr.typeAssert,Sem.run_bind,run_underlying hd,Result.andThen_ok,hb',if_false];exact w1 _ _ _)
  ·cases hy
   obtain ⟨w',w1,w2⟩:=fails h
   refine ⟨w',?_,w2⟩
   cases d<;>first | exact (hni _ rfl).elim | (simp only [Instr.typeAssert,Sem.run_bind,run_underlying hd,Result.andThen_ok];exact w1 _ _ _)
  ·cases h
theorem vT {P:Program} {g:FuncId} {fn:Func} (hf:P.funcs[g]?=some fn) (hb:fn.body=none) {args:List V} {v:V} (h:mZ fn args=.ok v) {G:Gh} {cs:List Value} (ha:VRs G args cs) (W:World):
  ∃ w,(callFunc g cs.toArray).run P W=.ok (.value w) W∧VR G v w:=by
 unfold mZ at h
 rw [cond_eq_ite] at h
 split at h
 ·rename_i hn
  simp only [Bool.and_eq_true,beq_iff_eq] at hn
  obtain ⟨hn1,hn2⟩:=hn
  split at h
  ·rename_i ka a kb b kc c
   rw [cond_eq_ite] at h
   split at h
   ·rename_i hc
    simp only [Bool.and_eq_true,decide_eq_true_eq] at hc
    obtain ⟨⟨⟨c1,c2⟩,c3⟩,c4⟩:=hc
    cases h
    cases ha with
    | cons _ _ _ _ ha t=>cases t with
     | cons _ _ _ _ hb' t=>cases t with
      | cons _ _ _ _ hc t=>
       cases t;cases ha;cases hb';cases hc
       have hfn:Extern.findNext fn=none:=by
        unfold Extern.findNext
        rw [hn1,hn2]
        kernel_rfl
       obtain ⟨e,he,hrun⟩:∃ e,Extern.find fn=some e∧(e #[.int ka a,.int kb b,.int kc c]).run P W=.ok (Extern.MathBitsCarry.pair ((a.toNat+b.toNat+c.toNat) % Extern.MathBitsCarry.m64) ((a.toNat+b.toNat+c.toNat) / Extern.MathBitsCarry.m64)) W:=by
        refine ⟨fun args=>do
         let (x,y,c)←Extern.MathBitsCarry.three "Add64" args
         pure (Extern.MathBitsCarry.pair ((x+y+c) % Extern.MathBitsCarry.m64) ((x+y+c) / Extern.MathBitsCarry.m64)),?_,?_⟩
        ·unfold Extern.find
         rw [hn1,hn2]
         rfl
        ·rcases (by omega:c=0∨c=1) with rfl | rfl<;>rfl
       refine ⟨_,by
        rw [run_callFunc_extern hf (by rw [hn1];kernel_rfl) (by rw [hb];rfl) hfn he,hrun];rfl,?_⟩
       refine .tup _ _ (.cons _ _ _ _ ?_ (.cons _ _ _ _ ?_ .nil))
       ·have:((a.toNat+b.toNat+c.toNat) % Extern.MathBitsCarry.m64:Nat)=((a+b+c) % 18446744073709551616:Int):=by
         unfold Extern.MathBitsCarry.m64;omega
        rw [←this];exact .int _ _
       ·have:((a.toNat+b.toNat+c.toNat) / Extern.MathBitsCarry.m64:Nat)=((a+b+c) / 18446744073709551616:Int):=by
         unfold Extern.MathBitsCarry.m64;omega
        rw [←this];exact .int _ _
   ·cases h
  ·cases h
 ·cases h
theorem RelH.allocMap {F:Nat→Option Obj} {G:Gh} {S:St} {H:Array Obj} (R:cO F G S H) {k nx:Nat} (hk:G.loc k=none) (hm:G.ml k=none) (hlim:k<jM k)
  (hn:S.next≤nx) (hkn:k<nx):
  G.le { G with ml:=fun x=>if x=k then some H.size else G.ml x } ∧
  cO F { G with ml:=fun x=>if x=k then some H.size else G.ml x } ⟨nx,S.heap.put k (.mp [])⟩ (H.push (.map #[] 0)):=by
 have hle:G.le { G with ml:=fun x=>if x=k then some H.size else G.ml x }:=by
  refine ⟨fun x K hK=>⟨K,hK,.inl rfl⟩,fun x b hb=>?_,fun _ _ h=>h,rfl⟩
  have hx:x≠k:=fun e=>by rw [e,hm] at hb;cases hb
  simp [hx,hb]
 have holds:∀ x i,x≠k→bI { G with ml:=fun x=>if x=k then some H.size else G.ml x } x i→bI G x i:=by
  intro x i hx h
  rcases h with h | h
  ·exact .inl h
  ·simp [hx] at h;exact .inr h
 have holdk:∀ i,bI { G with ml:=fun x=>if x=k then some H.size else G.ml x } k i→i=H.size:=by
  intro i h
  rcases h with ⟨K,hK,e⟩ | h
  ·change G.loc k=some K at hK
   rw [hk] at hK;cases hK
  ·simp at h;exact h.symm
 have old:∀ i,i<H.size→(H.push (.map #[] 0))[i]?=H[i]?:=by
  intro i hi
  rw [Array.getElem?_push,if_neg (by omega)]
 refine ⟨hle,?_⟩
 constructor
 ·intro x hx
  have hx':nx≤x:=hx
  have:x≠k:=by omega
  simp only [this,if_false]
  exact R.fresh x (by omega)
 ·intro x K hK
  by_cases hx:x=k
  ·subst hx;change G.loc x=some K at hK;rw [hk] at hK;cases hK
  ·simp [hx];exact R.sep x K hK
 ·intro x b hb
  simp only at hb
  rw [Tr.get_putB _ _ _ _ hlim] at hb
  by_cases hx:x=k
  ·subst hx
   simp at hb;subst hb
   exact ⟨H.size,#[],0,by simp,by simp,.nil,by simp,by simp⟩
  ·rw [if_neg hx] at hb
   have hold:=R.blk x b hb
   cases b with
   | row ver' es' elems'=>
    obtain ⟨K,hK,r1,r2,r3,c',ty',fr',hc,r4,r5,r6⟩:=hold
    exact ⟨K,hK,r1,r2,r3,c',ty',fr',by rw [old _ (R.lt x _ (.inl ⟨K,hK,rfl⟩))];exact hc,r4,r5,r6.mono hle⟩
   | mp kvs=>
    obtain ⟨i,es',clock,hi,hH,r1,r2⟩:=hold
    exact ⟨i,es',clock,by simp [hx,hi],by rw [old _ (R.lt x _ (.inr hi))];exact hH,r1.mono hle,r2⟩
   | iter s pos=>
    obtain ⟨K,hK,r1,r2,hH⟩:=hold
    exact ⟨K,hK,r1,r2,by rw [old _ (R.lt x _ (.inl ⟨K,hK,rfl⟩))];exact hH⟩
 ·intro x y b b' i hb hb' h1 h2
  simp only at hb hb'
  rw [Tr.get_putB _ _ _ _ hlim] at hb hb'
  by_cases hx:x=k
  ·by_cases hy:y=k
   ·rw [hx,hy]
   ·subst hx
    have e:=holdk i h1
    subst e
    have:=R.lt y _ (holds y _ hy h2);omega
  ·rw [if_neg hx] at hb
   by_cases hy:y=k
   ·subst hy
    have e:=holdk i h2
    subst e
    have:=R.lt x _ (holds x _ hx h1);omega
   ·rw [if_neg hy] at hb'
    exact R.inj x y b b' i hb hb' (holds x i hx h1) (holds y i hy h2)
 ·intro i o h
  have hlt':i<H.size:=(Array.getElem?_eq_some_iff.1 (R.fr i o h)).1
  rw [old i hlt'];exact R.fr i o h
 ·intro i o h
  have hlt':i<H.size:=(Array.getElem?_eq_some_iff.1 (R.pr i o h)).1
  rw [old i hlt'];exact R.pr i o h
 ·intro x b i hb h
  simp only at hb
  rw [Tr.get_putB _ _ _ _ hlim] at hb
  by_cases hx:x=k
  ·subst hx
   have e:=holdk i h
   subst e
   constructor
   ·cases hF:F H.size with
    | none=>rfl
    | some o=>have:=(Array.getElem?_eq_some_iff.1 (R.fr _ o hF)).1;omega
   ·cases hF:G.pr H.size with
    | none=>rfl
    | some o=>have:=(Array.getElem?_eq_some_iff.1 (R.pr _ o hF)).1;omega
  ·rw [if_neg hx] at hb
   exact R.own x b i hb (holds x i hx h)
 ·intro x i h
  by_cases hx:x=k
  ·subst hx
   rw [holdk i h];simp
  ·have:=R.lt x i (holds x i hx h);simp;omega
 ·intro x b hb
  simp only at hb
  rw [Tr.get_putB _ _ _ _ hlim] at hb
  by_cases hx:x=k
  ·subst hx;exact hlim
  ·rw [if_neg hx] at hb;exact R.small x b hb
theorem tD {P:Program} {t:TypeId} {fr:Option Nat} {S S':St} {a:Nat} (h:aV fr S (.mp [])=.ok (a,S'))
  {F:Nat→Option Obj} {G:Gh} {W:World} (R:cO F G S W.heap) (hf:kP fr G S):
  ∃ W' G' w,(Instr.makeMap t none).run P W=.ok w W'∧Sim F fr G S W G' S' W'∧VR G' (.mp a) w:=by
 unfold aV at h
 split at h
 ·rw [cond_eq_ite] at h
  split at h
  ·rename_i hl
   cases h
   have hl':S.next<jM S.next:=by simpa using hl
   obtain ⟨f1,f2⟩:=R.fresh S.next (Nat.le_refl _)
   obtain ⟨g1,g2⟩:=R.allocMap (k:=S.next) (nx:=S.next+1) f1 f2 hl' (by omega) (by omega)
   refine ⟨W.alloc (.map #[] 0),_,.map (some W.heap.size),rfl,⟨g1,g2,Same.alloc _ _,by simp,fun x hx hlt _=>⟨rfl,?_⟩,fun x hx hlt _=>?_,fun _ _ h=>.inl h⟩,.mp _ _ (by simp)⟩
   ·have:x≠S.next:=by omega
    simp [this]
   ·show (S.heap.put S.next _).get x=none
    rw [Tr.get_put_neB _ _ _ _ hl' (by omega)];exact hx
  ·cases h
 ·rename_i k
  rw [cond_eq_ite] at h
  split at h
  ·rename_i hl
   cases h
   have hl':a<jM a:=by simpa using hl
   obtain ⟨f0,f1,f2⟩:=hf a rfl
   obtain ⟨g1,g2⟩:=R.allocMap (k:=a) (nx:=S.next) f1 f2 hl' (Nat.le_refl _) f0
   refine ⟨W.alloc (.map #[] 0),_,.map (some W.heap.size),rfl,⟨g1,g2,Same.alloc _ _,by simp,fun x hx hlt hne=>⟨rfl,?_⟩,fun x hx hlt hne=>?_,fun _ _ h=>.inl h⟩,.mp _ _ (by simp)⟩
   ·have:x≠a:=fun e=>hne (by rw [e])
    simp [this]
   ·show (S.heap.put a _).get x=none
    rw [Tr.get_put_neB _ _ _ _ hl' (fun e=>hne (by rw [e]))];exact hx
  ·cases h
theorem uF {P:Program} {t e:TypeId} (h:aIi P t=some e):∃ k,P.underlying t=some (.map k e)∧P.underlying k=some .string:=by
 unfold aIi at h
 split at h
 ·rename_i k e' hd
  split at h
  ·rename_i hk
   cases h
   exact ⟨k,hd,hk⟩
  ·cases h
 ·cases h
theorem oU (s t:List UInt8):((⟨⟨s⟩⟩:ByteArray) == ⟨⟨t⟩⟩)=jN s t:=by
 rw [bR]
 have:((⟨⟨s⟩⟩:ByteArray) == ⟨⟨t⟩⟩)=((⟨s⟩:Array UInt8) == ⟨t⟩):=rfl
 rw [this];simp
theorem fO {G:Gh} {s:List UInt8}:∀ {es:List MapEntry} {kvs:List (V×V)} {i:Nat} {r:Option (Nat×V)},MapR G es kvs→tV s kvs i=some r→
  ∃ r',Instr.findNow .string (.string ⟨⟨s⟩⟩) es i=some r'∧(match r,r' with
   | none,none=>True
   | some (j,v),some (j',w)=>j=j'∧VR G v w∧i≤j∧∃ e,es[j - i]?=some e∧e.key=.string ⟨⟨s⟩⟩
   | _,_=>False)
 | _,_,i,r,.nil,h=>by cases h;exact ⟨none,rfl,trivial⟩
 | _,_,i,r,.cons e k v es l hk hv t,h=>by
  obtain ⟨ek,ev,eb⟩:=e
  simp only at hk hv
  cases hk with
  | str u=>
   simp only [tV] at h
   rw [cond_eq_ite] at h
   split at h
   ·rename_i hb
    cases h
    have he:s=u:=by rw [bR] at hb;simpa using hb
    subst he
    refine ⟨some (i,ev),?_,rfl,hv,Nat.le_refl _,⟨_,ev,eb⟩,by simp,rfl⟩
    have:((⟨⟨s⟩⟩:ByteArray) == ⟨⟨s⟩⟩)=true:=by rw [oU];exact hb
    simp only [Instr.findNow,Instr.sameNow,this]
   ·rename_i hb
    obtain ⟨r',h1,h2⟩:=fO t h
    refine ⟨r',?_,?_⟩
    ·have:((⟨⟨s⟩⟩:ByteArray) == ⟨⟨u⟩⟩)=false:=by rw [oU];simpa using hb
     simp only [Instr.findNow,Instr.sameNow,this];exact h1
    ·cases r with
     | none=>
      cases r' with
      | none=>exact h2
      | some q=>exact h2
     | some p=>
      cases r' with
      | none=>exact h2
      | some q=>
       obtain ⟨j,v'⟩:=p
       obtain ⟨j',w'⟩:=q
       obtain ⟨a1,a2,a3,e,a4,a5⟩:=h2
       refine ⟨a1,a2,by omega,e,?_,a5⟩
       rw [show j - i=(j - (i+1))+1 by omega,List.getElem?_cons_succ];exact a4
  | _=>simp [tV] at h
theorem fX {P:Program} {w:World} {kt:TypeId} {d:TypeDesc} {k:Value} {l:List MapEntry} {a:Option (Nat×Value)} (hd:P.underlying kt=some d) (h:Instr.findNow d k l 0=some a):(Instr.findKey kt k l).run P w=.ok a w:=by
 simp [Instr.findKey,run_underlying hd,h]
theorem dU {P:Program} {w:World} {kt:TypeId} (hd:P.underlying kt=some .string) (b:Bool) (v:Value):(Instr.checkKey b 10000 kt v).run P w=.ok () w:=by
 show (Instr.checkKey b (9999+1) kt v).run P w=_
 unfold Instr.checkKey
 rw [Sem.run_bind,run_underlying hd]
 rfl
theorem MapR.set {G:Gh}:∀ {es:List MapEntry} {kvs:List (V×V)},MapR G es kvs→∀ (i:Nat) (f:MapEntry→MapEntry) (k v:V),(∀ e,es[i]?=some e→VR G k (f e).key∧VR G v (f e).val)→MapR G (es.modify i f) (kvs.set i (k,v))
 | _,_,.nil,i,f,k,v,h=>by simp;exact .nil
 | _,_,.cons e k0 v0 es l hk hv t,0,f,k,v,h=>by
  have:=h e (by simp)
  exact .cons _ _ _ _ _ this.1 this.2 t
 | _,_,.cons e k0 v0 es l hk hv t,i+1,f,k,v,h=>by
  exact .cons _ _ _ _ _ hk hv (t.set i f k v fun e he=>h e (by simpa using he))
theorem MapR.push {G:Gh}:∀ {es:List MapEntry} {kvs:List (V×V)},MapR G es kvs→∀ (e:MapEntry) (k v:V),VR G k e.key→VR G v e.val→MapR G (es++[e]) (kvs++[(k,v)])
 | _,_,.nil,e,k,v,h1,h2=>.cons _ _ _ _ _ h1 h2 .nil
 | _,_,.cons e0 k0 v0 es l hk hv t,e,k,v,h1,h2=>.cons _ _ _ _ _ hk hv (t.push e k v h1 h2)
theorem vU {P:Program} {t:TypeId} {m k v:V} {ok:Bool} {S:St} (h:mY P t m k ok S=.ok v)
  {F:Nat→Option Obj} {G:Gh} {W:World} (R:cO F G S W.heap) {mc kc:Value} (hm:VR G m mc) (hk:VR G k kc):
  ∃ w,(Instr.lookup t mc kc ok).run P W=.ok w W∧VR G v w:=by
 unfold mY at h
 split at h
 ·rename_i e s he
  obtain ⟨kt,hd,hkt⟩:=uF he
  cases hk
  split at h
  ·cases h
  ·rename_i kvs hkv
   have hes:∃ es:Array MapEntry,MapR G es.toList kvs∧((mc=.map none∧es=#[])∨∃ cb clock,mc=.map (some cb)∧(getObj cb).run P W=.ok (.map es clock) W):=by
    unfold tW at hkv
    split at hkv
    ·cases hkv;cases hm
     exact ⟨#[],.nil,.inl ⟨rfl,rfl⟩⟩
    ·rename_i a
     split at hkv
     ·rename_i kvs' hg
      cases hkv
      cases hm with
      | mp _ cb hml=>
       obtain ⟨b,es,clock,hb,hH,r1,r2⟩:=R.blk a _ hg
       rw [hml] at hb;cases hb
       exact ⟨es,r1,.inr ⟨cb,clock,rfl,by simp [getObj,Sem.run,hH]⟩⟩
     ·cases hkv
    ·cases hkv
   obtain ⟨es,hr,hes⟩:=hes
   have okR:∀ {b:Bool} {v:V} {w:Value},VR G v w→VR G (okV ok b v) (if ok then .tuple #[w,.bool b] else w):=by
    intro b v w hv
    cases ok
    ·exact hv
    ·exact .tup _ _ (.cons _ _ _ _ hv (.cons _ _ _ _ (.bool _) .nil))
   have run:∀ {r:Option (Nat×Value)},Instr.findNow .string (.string ⟨⟨s⟩⟩) es.toList 0=some r→(Instr.lookup t mc (.string ⟨⟨s⟩⟩) ok).run P W=
     ((match r with
      | some (_,v)=>pure (v,true)
      | none=>do pure (←zeroValue e,false):Sem (Value×Bool)) >>= fun x=>pure (if ok then .tuple #[x.1,.bool x.2] else x.1)).run P W:=by
    intro r hr
    unfold Instr.lookup
    rw [Sem.run_bind,run_underlying hd]
    simp only [Result.andThen_ok]
    rcases hes with ⟨rfl,rfl⟩ | ⟨cb,clock,rfl,hg⟩
    ·simp only [Sem.run_bind,Sem.run_pure,Result.andThen_ok,dU hkt,fX hkt hr]
     cases r<;>simp [Sem.run_bind]<;>(cases Sem.run P (zeroValue e) W<;>rfl)
    ·simp only [Sem.run_bind,hg,Sem.run_pure,Result.andThen_ok,dU hkt,fX hkt hr]
     cases r<;>simp [Sem.run_bind]<;>(cases Sem.run P (zeroValue e) W<;>rfl)
   split at h
   ·rename_i j v' hfnd
    cases h
    obtain ⟨r',h1,h2⟩:=fO hr hfnd
    cases r' with
    | none=>exact h2.elim
    | some q=>
     obtain ⟨j',w⟩:=q
     refine ⟨_,?_,okR h2.2.1⟩
     rw [run h1];rfl
   ·rename_i hfnd
    split at h
    ·rename_i z hz
     cases h
     obtain ⟨r',h1,h2⟩:=fO hr hfnd
     cases r' with
     | some q=>exact h2.elim
     | none=>
      obtain ⟨w,w1,w2⟩:=kG hz G
      refine ⟨_,?_,okR w2⟩
      rw [run h1]
      simp [w1]
    ·cases h
   ·cases h
 ·cases h
theorem RelH.keepMap {F:Nat→Option Obj} {G:Gh} {S:St} {H H':Array Obj} (R:cO F G S H) {a b:Nat} {b0:Blk} (hget:S.heap.get a=some b0)
  (hL:G.ml a=some b) (hoth:∀ i,i≠b→H'[i]?=H[i]?) (hsz:H'.size=H.size) {nb:Blk} (row:BlkAt G H' a nb):cO F G ⟨S.next,S.heap.put a nb⟩ H':=by
 have hlim:=R.small a b0 hget
 have hH:bI G a b:=.inr hL
 have old:∀ x c,x≠a→S.heap.get x=some c→∀ i,bI G x i→H'[i]?=H[i]?:=by
  intro x c hx hc i hi
  refine hoth i fun e=>hx ?_
  subst e
  exact R.inj x a c b0 i hc hget hi hH
 have get:∀ x c,(S.heap.put a nb).get x=some c→(x=a∧c=nb)∨(x≠a∧S.heap.get x=some c):=by
  intro x c h
  rw [Tr.get_putB _ _ _ _ hlim] at h
  by_cases hx:x=a
  ·rw [if_pos hx] at h;cases h;exact .inl ⟨hx,rfl⟩
  ·rw [if_neg hx] at h;exact .inr ⟨hx,h⟩
 have getOld:∀ x c,(S.heap.put a nb).get x=some c→∃ c',S.heap.get x=some c':=by
  intro x c h
  rcases get x c h with ⟨rfl,_⟩ | ⟨_,h⟩
  ·exact ⟨b0,hget⟩
  ·exact ⟨c,h⟩
 constructor
 ·exact R.fresh
 ·exact R.sep
 ·intro x c hc
  rcases get x c hc with ⟨rfl,rfl⟩ | ⟨hx,hc⟩
  ·exact row
  ·have hold:=R.blk x c hc
   cases c with
   | row ver' es' elems'=>
    obtain ⟨K,hK,r1,r2,r3,c',ty',fr',hc',r⟩:=hold
    exact ⟨K,hK,r1,r2,r3,c',ty',fr',by rw [old x _ hx hc _ (.inl ⟨K,hK,rfl⟩)];exact hc',r⟩
   | mp kvs=>
    obtain ⟨i,es',clock,hi,hH',r⟩:=hold
    exact ⟨i,es',clock,hi,by rw [old x _ hx hc _ (.inr hi)];exact hH',r⟩
   | iter s pos=>
    obtain ⟨K,hK,r1,r2,hH'⟩:=hold
    exact ⟨K,hK,r1,r2,by rw [old x _ hx hc _ (.inl ⟨K,hK,rfl⟩)];exact hH'⟩
 ·intro x y c c' i hc hc' h1 h2
  obtain ⟨d,hd⟩:=getOld x c hc
  obtain ⟨d',hd'⟩:=getOld y c' hc'
  exact R.inj x y d d' i hd hd' h1 h2
 ·intro i o h
  have hne:i≠b:=fun e=>by
   have:=(R.own a b0 b hget hH).1
   rw [←e,h] at this;cases this
  rw [hoth i hne];exact R.fr i o h
 ·intro i o h
  have hne:i≠b:=fun e=>by
   have:=(R.own a b0 b hget hH).2
   rw [←e,h] at this;cases this
  rw [hoth i hne];exact R.pr i o h
 ·intro x c i hc h
  obtain ⟨d,hd⟩:=getOld x c hc
  exact R.own x d i hd h
 ·intro x i h
  rw [hsz];exact R.lt x i h
 ·intro x c hc
  obtain ⟨d,hd⟩:=getOld x c hc
  exact R.small x d hd
theorem xS (es:List MapEntry) (i:Nat) (f:MapEntry→MapEntry) (hf:∀ e,(f e).born=e.born):(es.modify i f).map (·.born)=es.map (·.born):=by
 induction es generalizing i with
 | nil=>simp
 | cons e es ih=>
  cases i with
  | zero=>simp [hf]
  | succ i=>simp [ih]
theorem qO {P:Program} {t:TypeId} {m k v:V} {S S':St} (h:hP P t m k v S=.ok S')
  {F:Nat→Option Obj} {G:Gh} {W:World} (R:cO F G S W.heap) {mc kc vc:Value} (hm:VR G m mc) (hk:VR G k kc) (hv:VR G v vc) {fr:Option Nat}:
  ∃ W',(Instr.mapUpdate t mc kc vc).run P W=.ok () W'∧Sim F fr G S W G S' W':=by
 unfold hP at h
 split at h
 ·rename_i e s a he
  obtain ⟨kt,hd,hkt⟩:=uF he
  have hk0:=hk
  cases hk
  cases hm with
  | mp _ b hml=>
   split at h
   ·rename_i kvs hg
    obtain ⟨b',es,clock,hb,hH,r1,r2,r3⟩:=R.blk a _ hg
    rw [hml] at hb;cases hb
    have hlt:=R.lt a b (.inr hml)
    have hget:(getObj b).run P W=.ok (.map es clock) W:=by simp [getObj,Sem.run,hH]
    have hset:∀ o,(setObj b o).run P W=.ok () { W with heap:=W.heap.setIfInBounds b o }:=by
     intro o;simp [setObj,Sem.run,hH]
    have fin:∀ {es':Array MapEntry} {clock':Nat} {kvs':List (V×V)},MapR G es'.toList kvs'→((∀ e∈es'.toList,e.born<clock')∧(es'.toList.map (·.born)).Nodup)→
      Sim F fr G S W G ⟨S.next,S.heap.put a (.mp kvs')⟩ { W with heap:=W.heap.setIfInBounds b (.map es' clock') }:=by
     intro es' clock' kvs' q1 q2
     refine ⟨G.le_refl,?_,⟨rfl,rfl,rfl,by simp⟩,Nat.le_refl _,fun _ _ _ _=>⟨rfl,rfl⟩,fun x hx _ _=>?_,fun _ _ h=>.inl h⟩
     ·refine R.keepMap hg hml (fun i hi=>?_) (by simp) ⟨b,es',clock',hml,?_,q1,q2⟩
      ·show (W.heap.setIfInBounds b _)[i]?=W.heap[i]?
       rw [Array.getElem?_setIfInBounds_ne (Ne.symm hi)]
      ·show (W.heap.setIfInBounds b _)[b]?=_
       simp [hlt]
     ·show (S.heap.put a _).get x=none
      rw [Tr.get_put_neB _ _ _ _ (R.small a _ hg) (fun e=>by rw [e,hg] at hx;cases hx)];exact hx
    have run:∀ {r:Option (Nat×Value)},Instr.findNow .string (.string ⟨⟨s⟩⟩) es.toList 0=some r→(Instr.mapUpdate t (.map (some b)) (.string ⟨⟨s⟩⟩) vc).run P W=
      (match r with
      | some (i,_)=>do
       let key←Instr.keyThatStays (((es[i]?).map (·.key)).getD (.string ⟨⟨s⟩⟩)) (.string ⟨⟨s⟩⟩)
       setObj b (.map (es.modify i fun e=>{ e with key,val:=vc }) clock)
      | none=>setObj b (.map (es.push { key:=.string ⟨⟨s⟩⟩,val:=vc,born:=clock }) (clock+1)):Sem Unit).run P W:=by
     intro r hr
     unfold Instr.mapUpdate
     rw [Sem.run_bind,run_underlying hd]
     simp only [Result.andThen_ok]
     rw [Sem.run_bind,hget]
     simp only [Result.andThen_ok]
     rw [Sem.run_bind,dU hkt]
     simp only [Result.andThen_ok]
     rw [Sem.run_bind,fX hkt hr]
     simp only [Result.andThen_ok]
     cases r<;>rfl
    split at h
    ·rename_i j v' hfnd
     cases h
     obtain ⟨r',h1,h2⟩:=fO r1 hfnd
     cases r' with
     | none=>exact h2.elim
     | some q=>
      obtain ⟨j',w⟩:=q
      obtain ⟨rfl,_,_,e0,e1,e2⟩:=h2
      simp only [Nat.sub_zero] at e1
      have e1':es[j]?=some e0:=by simpa using e1
      refine ⟨{ W with heap:=W.heap.setIfInBounds b (.map (es.modify j fun e=>{ e with key:=.string ⟨⟨s⟩⟩,val:=vc }) clock) },?_,fin ?_ ?_⟩
      ·rw [run h1]
       have:(Instr.keyThatStays (((es[j]?).map (·.key)).getD (.string ⟨⟨s⟩⟩)) (.string ⟨⟨s⟩⟩)).run P W=.ok (.string ⟨⟨s⟩⟩) W:=by
        have hself:((⟨⟨s⟩⟩:ByteArray) == ⟨⟨s⟩⟩)=true:=by rw [oU,bR];simp
        rw [e1']
        simp [e2,Instr.keyThatStays,Instr.sameBits,hself]
       simp only [Sem.run_bind,this,Result.andThen_ok,hset]
      ·rw [Array.toList_modify]
       exact r1.set j _ _ _ fun e _=>⟨hk0,hv⟩
      ·rw [Array.toList_modify]
       have hbm:=xS es.toList j (fun e=>{ e with key:=.string ⟨⟨s⟩⟩,val:=vc }) (fun _=>rfl)
       refine ⟨fun e he=>?_,by rw [hbm];exact r3⟩
       have hm:=List.mem_map_of_mem (f:=(·.born)) he
       rw [hbm] at hm
       obtain ⟨e',m1,m2⟩:=List.mem_map.1 hm
       rw [←m2];exact r2 e' m1
    ·rename_i hfnd
     cases h
     obtain ⟨r',h1,h2⟩:=fO r1 hfnd
     cases r' with
     | some q=>exact h2.elim
     | none=>
      refine ⟨{ W with heap:=W.heap.setIfInBounds b (.map (es.push { key:=.string ⟨⟨s⟩⟩,val:=vc,born:=clock }) (clock+1)) },?_,fin ?_ ?_⟩
      ·rw [run h1];exact hset _
      ·rw [Array.toList_push]
       exact r1.push _ _ _ hk0 hv
      ·rw [Array.toList_push]
       refine ⟨fun e he=>?_,?_⟩
       ·rcases List.mem_append.1 he with he | he
        ·have:=r2 e he;omega
        ·simp at he;subst he;simp
       ·rw [List.map_append,List.nodup_append]
        refine ⟨r3,by simp,fun x hx y hy=>?_⟩
        simp at hy;subst hy
        obtain ⟨e',m1,m2⟩:=List.mem_map.1 hx
        have:=r2 e' m1;omega
    ·cases h
   ·cases h
 ·cases h
theorem iC (l:List (List V)) (a:Nat) (mid:List (List V)) (h:a+mid.length≤l.length):(iH l a mid).length=l.length:=by
 simp [iH];omega
theorem xU (l:List (List V)) (a:Nat) (mid:List (List V)) (h:a+mid.length≤l.length) (i:Nat):
  (iH l a mid)[i]?=if a≤i∧i<a+mid.length then mid[i - a]? else l[i]?:=by
 unfold iH
 have hl:(l.take a).length=a:=by simp;omega
 rcases Nat.lt_or_ge i a with q | q
 ·rw [if_neg (by omega),List.getElem?_append_left (by omega),List.getElem?_take,if_pos q]
 ·rw [List.getElem?_append_right (by omega),hl]
  rcases Nat.lt_or_ge i (a+mid.length) with q2 | q2
  ·rw [if_pos ⟨q,q2⟩,List.getElem?_append_left (by omega)]
  ·rw [if_neg (by omega),List.getElem?_append_right (by omega),List.getElem?_drop]
   congr 1;omega
theorem RowR.over {G:Gh} {c:Array Value} {co es:Nat} {elems:List (List V)} (h:RowR G c co es elems) {a:Nat} {mid:List (List V)} {ws:List Value} (hm:∀ x∈mid,x.length=es) (hw:VRs G mid.flatten ws)
  (hle:a+mid.length≤elems.length) (hsz:co+elems.length*es≤c.size):RowR G (aM c (co+a*es) ws) co es (iH elems a mid):=by
 have hwl:ws.length=mid.length*es:=by rw [←hw.length,aX _ _ hm]
 have hb:(a+mid.length)*es≤elems.length*es:=Nat.mul_le_mul_right _ hle
 rw [Nat.add_mul] at hb
 intro i cs hi
 rw [xU _ _ _ hle] at hi
 split at hi
 ·rename_i hin
  have hmem:cs∈mid:=List.mem_of_getElem? hi
  refine ⟨hm cs hmem,fun j v hj=>?_⟩
  have hj':j<es:=by rw [←hm cs hmem];exact (List.getElem?_eq_some_iff.1 hj).1
  have:mid.flatten[(i - a)*es+j]?=some v:=by rw [eN es mid hm (i - a) j hj',hi];exact hj
  obtain ⟨w,w1,w2⟩:=hw.get this
  refine ⟨w,?_,w2⟩
  have hlt:(i - a+1)*es≤mid.length*es:=Nat.mul_le_mul_right _ (by omega)
  rw [Nat.succ_mul] at hlt
  have he:i*es=a*es+(i - a)*es:=by rw [←Nat.add_mul];congr 1;omega
  rw [bE,if_pos ⟨by omega,by omega,by omega⟩]
  rw [show co+i*es+j - (co+a*es)=(i - a)*es+j by omega];exact w1
 ·rename_i hout
  refine ⟨(h i cs hi).1,fun j v hj=>?_⟩
  have hj':j<es:=by rw [←(h i cs hi).1];exact (List.getElem?_eq_some_iff.1 hj).1
  obtain ⟨w,w1,w2⟩:=(h i cs hi).2 j v hj
  refine ⟨w,?_,w2⟩
  rw [bE,if_neg]
  ·exact w1
  ·intro hc
   rcases Nat.lt_or_ge i a with q | q
   ·have:(i+1)*es≤a*es:=Nat.mul_le_mul_right _ q
    rw [Nat.succ_mul] at this;omega
   ·have:(a+mid.length)*es≤i*es:=Nat.mul_le_mul_right _ (by omega)
    rw [Nat.add_mul] at this;omega
theorem nG {P:Program} {e:TypeId} {z:List V} (h:qV P e=some z):
  ∃ i zw,P.info? e=some i∧i.zero=some zw∧i.size=sz P e∧z.length=sz P e∧aP z=true∧zw.cells.size=sz P e∧(∀ G:Gh,VRs G z zw.cells.toList)∧(∀ W,(zeroValue e).run P W=.ok zw W):=by
 unfold qV at h
 split at h
 ·rename_i z0 hz
  rw [cond_eq_ite] at h
  split at h
  ·rename_i hb
   cases h
   simp only [Bool.and_eq_true,Nat.beq_eq] at hb
   obtain ⟨i,zw,hi,hzw,ho⟩:=cU hz
   have hv:=fun G:Gh=>(cN G ho).cells
   refine ⟨i,zw,hi,hzw,(eC hi).symm,hb.1,hb.2,?_,hv,fun W=>by simp [zeroValue,typeInfo,hi,hzw]⟩
   have:=(hv ⟨fun _=>none,fun _=>none,fun _=>none,fun _=>0⟩).length
   simp at this;omega
  ·cases h
 ·cases h
theorem kS {z:List V} (h:aP z=true) (n:Nat):aP (List.replicate n z).flatten=true:=by
 refine List.all_eq_true.2 fun v hv=>?_
 obtain ⟨l,hl,hvl⟩:=List.mem_flatten.1 hv
 rw [List.eq_of_mem_replicate hl] at hvl
 exact eB h hvl
theorem xV {P:Program} {ts:Array TypeId} {t ty:TypeId} (ht:ts[0]?=some t) {x v:V} {S S':St} (h:rO P t x S=.ok (v,S'))
  {F:Nat→Option Obj} {G:Gh} {W:World} (R:cO F G S W.heap) {xc:Value} (hx:VR G x xc) {fr:Option Nat}:
  ∃ W' G' w,(Builtin.clear_ ts ty #[xc]).run P W=.ok w W'∧Sim F fr G S W G' S' W'∧VR G' v w:=by
 unfold rO at h
 split at h
 ·rename_i e he
  cases h
  cases hx
  exact ⟨W,G,.tuple #[],by simp [Builtin.clear_,ht,run_underlying (iA he)],Sim.refl R,.tup _ _ .nil⟩
 ·rename_i e a ver es0 off len he
  have hd:=iA he
  cases hx with
  | sl _ _ _ _ _ p n c hsl=>
   obtain ⟨rfl,hnc,L,hL,hsl⟩:=hsl
   rw [cond_eq_ite] at h
   split at h
   ·rename_i h0
    cases h
    have h0':n=0:=by simpa using h0
    subst h0'
    exact ⟨W,G,.tuple #[],by simp [Builtin.clear_,ht,run_underlying hd],Sim.refl R,.tup _ _ .nil⟩
   ·rename_i h0
    have hn0:n≠0:=by simpa using h0
    split at h
    ·rename_i z es elems hz hrow
     have hr:=dA hrow
     rw [cond_eq_ite] at h
     split at h
     ·rename_i hok
      cases h
      simp only [Bool.and_eq_true,Nat.beq_eq,Nat.ble_eq] at hok
      obtain ⟨hes,hle⟩:=hok
      obtain ⟨i,zw,hi,hzw,his,hzl,hz1,hzs,hzv,hzr⟩:=nG hz
      obtain ⟨L',hL',r1,r2,r3,ca,cty,cfr,hcb,r4,r5,r6⟩:=R.blk a _ hr
      rw [hL] at hL';cases hL'
      rcases hsl with hsl | ⟨_,_,hc2,hp⟩
      ·omega
      ·have hp':=hp (by omega)
       subst hp'
       have hml:∀ x∈List.replicate n z,x.length=es:=fun x hx=>by rw [List.eq_of_mem_replicate hx,hzl,hes]
       have hzz:=iK (hzv G) n
       have hwl:(Builtin.zeroCells zw.cells n).toList.length=n*es:=by
        show (Builtin.zeroCells zw.cells n).size=n*es
        rw [dJ,hzs,hes]
       have hcap:(off+n)*es≤L.cap*es:=Nat.mul_le_mul_right _ (by omega)
       rw [Nat.add_mul] at hcap
       obtain ⟨W',s1,s2,s3,s4,s5⟩:=cE (P:=P) (b:=L.cb) (o:=L.co+off*L.es) (ty:=cty) (fr:=cfr) (Builtin.zeroCells zw.cells n).toList 0 W ca hcb
        (hzz.ones (kS hz1 n)) (by rw [r2,hwl];omega) (fun k hk1 hk2=>r5.1 k (by rw [r2] at hk1;omega) (by rw [r2,hwl] at hk2;omega))
       simp only [Nat.add_zero] at s2
       refine ⟨W',G,.tuple #[],?_,⟨G.le_refl,?_,s5,Nat.le_refl _,fun _ _ _ _=>⟨rfl,rfl⟩,fun x hx _ _=>?_,fun _ _ h=>.inl h⟩,.tup _ _ .nil⟩
       ·have:n≠0:=hn0
        obtain ⟨m,rfl⟩:∃ m,n=m+1:=⟨n - 1,by omega⟩
        simp [Builtin.clear_,ht,run_underlying hd,hzr]
        rw [s1];rfl
       ·have hle':off+(List.replicate n z).length≤elems.length:=by simpa using hle
        have hcs:elems.length*es≤L.cap*es:=Nat.mul_le_mul_right _ r3
        refine R.keepRow hr hL s3 s4 ⟨r1,r2,by rw [iC _ _ _ hle'];exact r3,_,cty,cfr,s2,by rw [aO];exact r4,⟨r5.1,by rw [aO];exact r5.2⟩,?_⟩
        rw [r2]
        exact r6.over hml hzz hle' (by omega)
       ·show (S.heap.put a _).get x=none
        rw [Tr.get_put_neB _ _ _ _ (R.small a _ hr) (fun e=>by rw [e,hr] at hx;cases hx)];exact hx
     ·cases h
    ·cases h
 ·cases h
theorem zS {P:Program} {ts:Array TypeId} {t ty:TypeId} (ht:ts[0]?=some t) {d x v:V} {S S':St} (h:xC P t d x S=.ok (v,S'))
  {F:Nat→Option Obj} {G:Gh} {W:World} (R:cO F G S W.heap) {dc xc:Value} (hd:VR G d dc) (hx:VR G x xc) {fr:Option Nat}:
  ∃ W' G' w,(Builtin.copy_ ts ty #[dc,xc]).run P W=.ok w W'∧Sim F fr G S W G' S' W'∧VR G' v w:=by
 unfold xC at h
 split at h
 ·rename_i e a ver es0 off len he
  have hdT:=iA he
  cases hd with
  | sl _ _ _ _ _ p n c hsl=>
   obtain ⟨rfl,hnc,L,hL,hsl⟩:=hsl
   split at h
   ·rename_i xs es elems hxs hrow
    have hr:=dA hrow
    rw [cond_eq_ite] at h
    split at h
    ·rename_i hok
     cases h
     simp only [Bool.and_eq_true,Nat.beq_eq,Nat.ble_eq,Nat.blt_eq] at hok
     obtain ⟨⟨⟨⟨⟨⟨hes,hle⟩,hxl⟩,hall⟩,hones⟩,hn0⟩,hsz⟩:=hok
     have hxlen:∀ cs∈xs,cs.length=sz P e:=by
      intro cs hcs
      have:=List.all_eq_true.1 hall cs hcs
      simpa using this
     obtain ⟨hlen,ws,hws,hfirst⟩:=iU (P:=P) hxs hxlen R hx
     have hwl:ws.length=xs.length*es:=by rw [←hws.length,aX _ _ hxlen,hes]
     obtain ⟨L',hL',r1,r2,r3,ca,cty,cfr,hcb,r4,r5,r6⟩:=R.blk a _ hr
     rw [hL] at hL';cases hL'
     rcases hsl with hsl | ⟨_,_,hc2,hp⟩
     ·omega
     ·have hp':=hp (by omega)
      subst hp'
      have hml:∀ x∈xs,x.length=es:=fun x hx=>by rw [hxlen x hx,hes]
      have hcap:(off+xs.length)*es≤L.cap*es:=Nat.mul_le_mul_right _ (by omega)
      rw [Nat.add_mul] at hcap
      have hon:aP xs.flatten=true:=List.all_eq_true.2 fun v hv=>by
       obtain ⟨l,hl,hvl⟩:=List.mem_flatten.1 hv
       exact eB (List.all_eq_true.1 hones l hl) hvl
      obtain ⟨W',s1,s2,s3,s4,s5⟩:=cE (P:=P) (b:=L.cb) (o:=L.co+off*L.es) (ty:=cty) (fr:=cfr) ws 0 W ca hcb
       (hws.ones hon) (by rw [r2,hwl];omega) (fun k hk1 hk2=>r5.1 k (by rw [r2] at hk1;omega) (by rw [r2,hwl] at hk2;omega))
      simp only [Nat.add_zero] at s2
      refine ⟨W',G,.int .i64 xs.length,?_,⟨G.le_refl,?_,s5,Nat.le_refl _,fun _ _ _ _=>⟨rfl,rfl⟩,fun x hx _ _=>?_,fun _ _ h=>.inl h⟩,.int _ _⟩
      ·have hmin:Nat.min xs.length n=xs.length:=Nat.min_eq_left hxl
       have hf:=hfirst W rfl
       have hz:=kQ (P:=P) (t:=e) (by omega)
       simp only [Builtin.copy_,List.getElem?_toArray,List.getElem?_cons_zero,List.getElem?_cons_succ,ht]
       simp [run_underlying hdT,hlen W,hz,hmin,hf,s1]
       rfl
      ·have hle':off+xs.length≤elems.length:=by omega
       have hcs:elems.length*es≤L.cap*es:=Nat.mul_le_mul_right _ r3
       refine R.keepRow hr hL s3 s4 ⟨r1,r2,by rw [iC _ _ _ hle'];exact r3,_,cty,cfr,s2,by rw [aO];exact r4,⟨r5.1,by rw [aO];exact r5.2⟩,?_⟩
       rw [r2]
       exact r6.over hml hws hle' (by omega)
      ·show (S.heap.put a _).get x=none
       rw [Tr.get_put_neB _ _ _ _ (R.small a _ hr) (fun e=>by rw [e,hr] at hx;cases hx)];exact hx
    ·cases h
   ·cases h
 ·cases h
def xW (P:Program) (F:Nat→Option Obj) (fr:Option Nat) (G:Gh) (S:St) (W:World) (run:Result Next):Out→Prop
 | .val v S'=>∃ W' G' w,run=.ok (.value w) W'∧Sim F fr G S W G' S' W'∧VR G' v w
 | .skip S'=>∃ W' G',run=.ok .skip W'∧Sim F fr G S W G' S' W'
 | .call f args=>∃ cs:List Value,VRs G args cs∧run=(callFunc f cs.toArray).run P W
theorem gW {ρ:Operand→Option V} {ρc:Operand→Value} {G:Gh} (hρ:∀ x v,ρ x=some v→VR G v (ρc x)):∀ {l:List Operand} {vs:List V},jA ρ l=some vs→VRs G vs (l.map ρc)
 | [],vs,h=>by simp [jA] at h;subst h;exact .nil
 | x::l,vs,h=>by
  simp only [jA] at h
  split at h
  ·rename_i v hv
   split at h
   ·rename_i us hus
    cases h
    exact .cons _ _ _ _ (hρ x v hv) (gW hρ hus)
   ·cases h
  ·cases h
theorem mG {ρ:Operand→Option V} {ρc:Operand→Value} {G:Gh} (hρ:∀ x v,ρ x=some v→VR G v (ρc x)):∀ {l:List (Nat×Operand)} {vs:List (Nat×V)},hU ρ l=some vs→PsR G vs (l.map fun p=>(p.1,ρc p.2))
 | [],vs,h=>by simp [hU] at h;subst h;exact .nil
 | (i,x)::l,vs,h=>by
  simp only [hU] at h
  split at h
  ·rename_i v hv
   split at h
   ·rename_i us hus
    cases h
    exact .cons _ _ _ _ _ (hρ x v hv) (mG hρ hus)
   ·cases h
  ·cases h
theorem uG {ρ:Operand→Option V} {ρc:Operand→Value} {G:Gh} (hρ:∀ x v,ρ x=some v→VR G v (ρc x)) {o:Option Operand} {r:Option V} (h:tX ρ o=some r):
  (∀ v,r=some v→∃ w,o.map ρc=some w∧VR G v w)∧(r=none→o.map ρc=none):=by
 cases o with
 | none=>simp [tX] at h;subst h;exact ⟨fun v hv=>(by cases hv),fun _=>rfl⟩
 | some x=>
  simp only [tX] at h
  split at h
  ·rename_i v hv
   cases h
   exact ⟨fun u hu=>(by cases hu;exact ⟨_,rfl,hρ x v hv⟩),fun hu=>(by cases hu)⟩
  ·cases h
theorem aDd {P:Program} {t:TypeId} {x v:V} {S:St} (h:oO P t x S=.ok v) {F:Nat→Option Obj} {G:Gh} {W:World} (R:cO F G S W.heap) {y:Value} (hy:VR G x y)
  {ts:Array TypeId} (ht:ts[0]?=some t) (ty:TypeId):∃ w,(Builtin.len_ ts ty #[y]).run P W=.ok w W∧VR G v w:=by
 unfold oO at h
 split at h
 ·rename_i hd
  split at h
  ·rename_i s
   cases h;cases hy
   have hb:(⟨⟨s⟩⟩:ByteArray).size=s.length:=rfl
   exact ⟨.int .i64 s.length,by simp [Builtin.len_,ht,run_underlying hd,goInt,hb],.int _ _⟩
  ·cases h
 ·rename_i n e hd
  cases h
  exact ⟨.int .i64 n,by simp [Builtin.len_,ht,run_underlying hd,goInt],.int _ _⟩
 ·rename_i e hd
  split at h
  ·cases h;cases hy
   exact ⟨.int .i64 0,by simp [Builtin.len_,ht,run_underlying hd,goInt],.int _ _⟩
  ·rename_i len
   cases h
   cases hy with
   | sl _ _ _ _ _ p n c hs=>
    obtain ⟨rfl,_⟩:=hs
    exact ⟨.int .i64 n,by simp [Builtin.len_,ht,run_underlying hd,goInt],.int _ _⟩
  ·rename_i es
   cases h
   cases hy with
   | imm0=>exact ⟨.int .i64 0,by simp [Builtin.len_,ht,run_underlying hd,goInt],.int _ _⟩
   | imm _ p n c e' hn hc vs hv he hp=>
    subst hn
    exact ⟨.int .i64 es.length,by simp [Builtin.len_,ht,run_underlying hd,goInt],.int _ _⟩
  ·cases h
 ·rename_i k e hd
  split at h
  ·cases h;cases hy
   exact ⟨.int .i64 0,by simp [Builtin.len_,ht,run_underlying hd,goInt],.int _ _⟩
  ·rename_i a
   split at h
   ·rename_i kvs hg
    cases h
    cases hy with
    | mp _ cb hm=>
     obtain ⟨b,es,clock,h1,h2,h3,h4,h5⟩:=R.blk a _ hg
     rw [hm] at h1;cases h1
     have hl:∀ {es:List MapEntry} {l:List (V×V)},MapR G es l→es.length=l.length:=by
      intro es l h
      induction h with
      | nil=>rfl
      | cons e k v es l hk hv t ih=>simp [ih]
     have:=hl h3
     refine ⟨.int .i64 es.size,?_,by rw [←this];exact .int _ _⟩
     simp [Builtin.len_,ht,run_underlying hd,goInt,getObj,Sem.run,h2]
   ·cases h
  ·cases h
 ·cases h
theorem aDe {P:Program} {l:List V} {v:V} (h:aEp l=.ok v) {G:Gh} {cs:List Value} (hl:VRs G l cs) (ts:Array TypeId) (ty:TypeId) (W:World):
  ∃ w,(Builtin.min_ ts ty cs.toArray).run P W=.ok w W∧VR G v w:=by
 unfold aEp at h
 split at h
 ·rw [cond_eq_ite] at h
  split at h
  ·cases h
   cases hl with
   | cons _ _ _ _ ha t=>cases t with
    | cons _ _ _ _ hb t=>cases t;cases ha;cases hb;exact ⟨_,run_min_int2 W ts ty _ _ _ _,.int _ _⟩
  ·cases h
 ·cases h
theorem aDf {P:Program} {l:List V} {v:V} (h:aEq l=.ok v) {G:Gh} {cs:List Value} (hl:VRs G l cs) (ts:Array TypeId) (ty:TypeId) (W:World):
  ∃ w,(Builtin.max_ ts ty cs.toArray).run P W=.ok w W∧VR G v w:=by
 unfold aEq at h
 split at h
 ·rw [cond_eq_ite] at h
  split at h
  ·cases h
   cases hl with
   | cons _ _ _ _ ha t=>cases t with
    | cons _ _ _ _ hb t=>cases t;cases ha;cases hb;exact ⟨_,run_max_int2 W ts ty _ _ _ _,.int _ _⟩
  ·cases h
 ·cases h
theorem aEu {P:Program} {op:UnOp} {x v:V} (h:unV op x=.ok v) {G:Gh} {y:Value} (hy:VR G x y) (W:World):∃ w,(Op.unary op y).run P W=.ok w W∧VR G v w:=by
 unfold unV at h
 split at h
 ·cases h;cases hy;exact ⟨_,rfl,.bool _⟩
 ·cases h;cases hy;exact ⟨_,rfl,by rw [rT];exact .int _ _⟩
 ·cases h;cases hy;exact ⟨_,rfl,by rw [rT];exact .int _ _⟩
 ·cases h
theorem tE {P:Program} {b:Builtin} {ts:Array TypeId} {args:List V} {fr:Option Nat} {S:St} {r:Out} (h:cD P b ts args fr S=.ok r)
  {F:Nat→Option Obj} {G:Gh} {W:World} (R:cO F G S W.heap) (hf:kP fr G S) {cs:List Value} (ha:VRs G args cs) (ty:TypeId) (consts:Array Bool):
  xW P F fr G S W ((builtin b ts ty consts cs.toArray).run P W) r:=by
 unfold cD at h
 split at h
 ·cases ha with
  | cons _ y _ _ hy t=>
   cases t
   split at h
   ·rename_i t ht
    unfold bN at h
    split at h
    ·rename_i v hv
     cases h
     obtain ⟨w,w1,w2⟩:=aDd hv R hy ht ty
     exact ⟨W,G,w,by simp [builtin,w1],Sim.refl R,w2⟩
    ·cases h
   ·cases h
 ·unfold bN at h
  split at h
  ·rename_i v hv
   cases h
   obtain ⟨w,w1,w2⟩:=aDe (P:=P) hv ha ts ty W
   exact ⟨W,G,w,by simp [builtin,w1],Sim.refl R,w2⟩
  ·cases h
 ·unfold bN at h
  split at h
  ·rename_i v hv
   cases h
   obtain ⟨w,w1,w2⟩:=aDf (P:=P) hv ha ts ty W
   exact ⟨W,G,w,by simp [builtin,w1],Sim.refl R,w2⟩
  ·cases h
 ·cases ha with
  | cons _ y _ _ hy t=>
   cases t with
   | cons _ z _ _ hz t=>
    cases t
    split at h
    ·rename_i t u ht hu
     split at h
     ·rename_i e hd
      unfold bZ at h
      split at h
      ·rename_i v S' hv
       cases h
       obtain ⟨W',G',w,w1,w2,w3⟩:=jU (ty:=ty) ht hu (.inl ⟨e,hd⟩) hv R hf hy hz
       exact ⟨W',G',w,by simp [builtin,w1],w2,w3⟩
      ·cases h
     ·rename_i hd
      unfold bZ at h
      split at h
      ·rename_i v S' hv
       cases h
       obtain ⟨W',G',w,w1,w2,w3⟩:=jU (ty:=ty) ht hu (.inr hd) hv R hf hy hz
       exact ⟨W',G',w,by simp [builtin,w1],w2,w3⟩
      ·cases h
     ·cases h
    ·cases h
 ·cases ha with
  | cons _ y _ _ hy t=>
   cases t
   split at h
   ·rename_i t ht
    unfold bZ at h
    split at h
    ·rename_i v S' hv
     cases h
     obtain ⟨W',G',w,w1,w2,w3⟩:=xV (ty:=ty) (fr:=fr) ht hv R hy
     exact ⟨W',G',w,by simp [builtin,w1],w2,w3⟩
    ·cases h
   ·cases h
 ·cases ha with
  | cons _ y _ _ hy t=>
   cases t with
   | cons _ z _ _ hz t=>
    cases t
    split at h
    ·rename_i t ht
     unfold bZ at h
     split at h
     ·rename_i v S' hv
      cases h
      obtain ⟨W',G',w,w1,w2,w3⟩:=zS (ty:=ty) (fr:=fr) ht hv R hy hz
      exact ⟨W',G',w,by simp [builtin,w1],w2,w3⟩
     ·cases h
    ·cases h
 ·cases h
theorem nH {P:Program} {S:St} {g:FuncId} {args:List V} {r:Out} (h:mC P S g args=.ok r) {F:Nat→Option Obj} {fr:Option Nat} {G:Gh} {W:World} (R:cO F G S W.heap)
  {cs:List Value} (ha:VRs G args cs):xW P F fr G S W ((callFunc g cs.toArray).run P W) r:=by
 unfold mC at h
 split at h
 ·cases h
 ·rename_i fn hf
  split at h
  ·cases h
   exact ⟨cs,ha,rfl⟩
  ·rename_i hb
   unfold bN at h
   split at h
   ·rename_i v hv
    cases h
    obtain ⟨w,w1,w2⟩:=vT hf hb hv ha W
    exact ⟨W,G,w,w1,Sim.refl R,w2⟩
   ·cases h
theorem aEv (v:Value) (xs:Array Value):(#[v]++xs)[0]?=some v:=by
 rw [Array.getElem?_append_left (by simp)];rfl
theorem aEw (v:Value) (xs:Array Value):(#[v]++xs).extract 1 (#[v]++xs).size=xs:=by
 apply Array.ext_getElem?
 intro i
 rw [Array.getElem?_extract]
 have e:(#[v]++xs).size=xs.size+1:=by simp [Nat.add_comm]
 rw [e]
 split
 ·rw [Array.getElem?_append_right (by simp)];simp
 ·rename_i h
  have:xs.size≤i:=by omega
  rw [Array.getElem?_eq_none this]
theorem aEx (v:Value) (xs:Array Value):#[v]++xs=(v::xs.toList).toArray:=by
 apply Array.ext'
 simp
theorem vV {P:Program} {t:TypeId} {name:String} {g:FuncId} (h:dQ P t name=some g) (w:Value) (args:Array Value) (W:World):
  (callMethod (.iface t w) name args).run P W=(callFunc g (#[w]++args)).run P W:=by
 unfold dQ at h
 split at h
 ·cases h
 ·rename_i i hi
  split at h
  ·cases h
  ·rename_i m hm
   split at h
   ·rename_i g' fs hf hp hu
    cases h
    have hpath:m.path=#[]:=by
     cases hq:m.path with
     | mk l=>rw [hq] at hp;simp at hp;rw [hp]
    unfold callMethod
    rw [Sem.run_bind,show Sem.run P program W=.ok P W from rfl]
    simp only [Result.andThen_ok]
    rw [Sem.run_bind]
    have hmeth:(method (P.types.size+Made.depth) t w name).run P W=.ok (g,w) W:=by
     rw [show P.types.size+Made.depth=(P.types.size+Made.depth - 1)+1 from by unfold Made.depth;omega]
     unfold method
     simp only [Sem.run_bind,typeInfo,Sem.run_pure,Result.andThen_ok]
     rw [show Sem.run P program W=.ok P W from rfl]
     simp only [Result.andThen_ok,hi,Sem.run_pure,hm,hp,follow,hf]
     simp only [receiverAt,Sem.run_bind,Sem.run_pure,run_underlying hu,Result.andThen_ok]
     rfl
    rw [hmeth]
    rfl
   ·cases h
set_option maxHeartbeats 4000000 in
theorem fK {P:Program} {ρ:Operand→Option V} {o:Oper} {fr:Option Nat} {S:St} {r:Out} (h:aI P ρ o fr S=.ok r)
  {F:Nat→Option Obj} {G:Gh} {W:World} (R:cO F G S W.heap) (hf:kP fr G S) {ρc:Operand→Value} (hρ:∀ x v,ρ x=some v→VR G v (ρc x)):
  xW P F fr G S W ((execOp ρc o).run P W) r:=by
 obtain ⟨dst,op,ty,pos,after,gd⟩:=o
 have pure':∀ {x:AM.R V} {s:Sem Value},bN S x=.ok r→(∀ v,x=.ok v→∃ w,s.run P W=.ok w W∧VR G v w)→(execOp ρc ⟨dst,op,ty,pos,after,gd⟩=do pure (.value (←s)))→
   xW P F fr G S W ((execOp ρc ⟨dst,op,ty,pos,after,gd⟩).run P W) r:=by
  intro x s hx hs he
  unfold bN at hx
  split at hx
  ·rename_i v
   cases hx
   obtain ⟨w,w1,w2⟩:=hs v rfl
   exact ⟨W,G,w,by rw [he];simp [w1],Sim.refl R,w2⟩
  ·cases hx
 have pair':∀ {x:AM.R (V×St)} {s:Sem Value},bZ x=.ok r→(∀ v S',x=.ok (v,S')→∃ W' G' w,s.run P W=.ok w W'∧Sim F fr G S W G' S' W'∧VR G' v w)→
   (execOp ρc ⟨dst,op,ty,pos,after,gd⟩=do pure (.value (←s)))→xW P F fr G S W ((execOp ρc ⟨dst,op,ty,pos,after,gd⟩).run P W) r:=by
  intro x s hx hs he
  unfold bZ at hx
  split at hx
  ·rename_i v S'
   cases hx
   obtain ⟨W',G',w,w1,w2,w3⟩:=hs v S' rfl
   exact ⟨W',G',w,by rw [he];simp [w1],w2,w3⟩
  ·cases hx
 cases op<;>simp only [aI] at h<;>try (cases h;done)
 case move x=>
  split at h
  ·rename_i v hv;cases h
   exact ⟨W,G,_,rfl,Sim.refl R,hρ _ _ hv⟩
  ·cases h
 case assign x=>
  split at h
  ·rename_i v hv;cases h
   exact ⟨W,G,_,rfl,Sim.refl R,hρ _ _ hv⟩
  ·cases h
 case pick c a b=>
  split at h
  ·rename_i hc
   split at h
   ·rename_i v hv;cases h
    have:=hρ _ _ hc
    refine ⟨W,G,ρc a,?_,Sim.refl R,hρ _ _ hv⟩
    simp only [execOp]
    generalize ρc c=cv at this
    cases this
    simp [asBool]
   ·cases h
  ·rename_i hc
   split at h
   ·rename_i v hv;cases h
    have:=hρ _ _ hc
    refine ⟨W,G,ρc b,?_,Sim.refl R,hρ _ _ hv⟩
    simp only [execOp]
    generalize ρc c=cv at this
    cases this
    simp [asBool]
   ·cases h
  ·cases h
 case alloc t=>
  split at h
  ·cases h
  ·rename_i z hz
   split at h
   ·rename_i a S' hn
    cases h
    obtain ⟨W',G',w,w1,w2,w3⟩:=xJ hz hn R hf
    exact ⟨W',G',w,by simp [execOp,w1],w2,w3⟩
   ·cases h
 case box t x=>
  split at h
  ·rename_i v hv
   rw [cond_eq_ite] at h
   split at h
   ·split at h
    ·rename_i a S' hn
     cases h
     obtain ⟨W',G',w,w1,w2,w3⟩:=aD9 (P:=P) (t:=t) (hρ _ _ hv) hn R hf
     exact ⟨W',G',w,by simp [execOp,w1],w2,w3⟩
    ·cases h
   ·cases h
  ·cases h
 case build t ps=>
  split at h
  ·rename_i vs hvs
   refine pure' h (s:=Instr.build t (ps.map fun (i,x)=>(i,ρc x))) (fun v hv=>?_) rfl
   exact xK hv (by have:=mG hρ hvs;simpa using this) W
  ·cases h
 case buildSlice t n ps=>
  split at h
  ·rename_i vs hvs
   refine pair' h (s:=Instr.buildSlice t n (ps.map fun (i,x)=>(i,ρc x))) (fun v S' hv=>?_) rfl
   exact oT hv R hf (by have:=mG hρ hvs;simpa using this)
  ·cases h
 case load t a=>
  split at h
  ·rename_i p hp
   exact pure' h (s:=Instr.loadAt t (ρc a)) (fun v hv=>rS hv R (hρ _ _ hp)) rfl
  ·cases h
 case store t a x=>
  split at h
  ·rename_i p v hp hv
   split at h
   ·rename_i S' hs
    cases h
    obtain ⟨W',w1,w2,w3,w4,w5⟩:=xI hs R (hρ _ _ hp) (hρ _ _ hv)
    exact ⟨W',G,by simp [execOp,w1],G.le_refl,w2,w3,by omega,fun _ _ _ _=>⟨rfl,rfl⟩,fun a h _ _=>w5 a h,fun _ _ h=>.inl h⟩
   ·cases h
  ·cases h
 case nilCheck x=>
  split at h
  ·rename_i a ver i j hp
   cases h
   have:=hρ _ _ hp
   refine ⟨W,G,ρc x,?_,Sim.refl R,this⟩
   simp only [execOp]
   generalize ρc x=cv at this
   cases this
   rfl
  ·rename_i cs j hp
   cases h
   have:=hρ _ _ hp
   refine ⟨W,G,ρc x,?_,Sim.refl R,this⟩
   simp only [execOp]
   generalize ρc x=cv at this
   cases this
   rfl
  ·cases h
 case binOp op t x y yt=>
  split at h
  ·rename_i a b hx hy
   rw [cond_eq_ite] at h
   split at h
   ·rename_i hg
    refine pure' h (s:=(do eqGuard op t x y (ρc x) (ρc y);binOp op t (ρc x) (ρc y))) (fun v hv=>?_) rfl
    obtain ⟨w,w1,w2⟩:=aDc hv (hρ _ _ hx) (hρ _ _ hy) W
    exact ⟨w,by simp [vQ hg (hρ _ _ hx) (hρ _ _ hy),w1],w2⟩
   ·cases h
  ·cases h
 case unOp op t x=>
  split at h
  ·rename_i v hv
   exact pure' h (s:=Op.unary op (ρc x)) (fun v' hv'=>aEu hv' (hρ _ _ hv) W) rfl
  ·cases h
 case convert s d x=>
  split at h
  ·rename_i v hv
   exact pair' h (s:=convert s d (ρc x)) (fun v' S' hv'=>sZ hv' R hf (hρ _ _ hv)) rfl
  ·cases h
 case makeSlice t l c=>
  split at h
  ·rename_i lv cv hl hc
   exact pair' h (s:=Instr.makeSlice t (ρc l) (ρc c)) (fun v' S' hv'=>qJ hv' R hf (hρ _ _ hl) (hρ _ _ hc)) rfl
  ·cases h
 case slice t x lo hi mx=>
  split at h
  ·rename_i v l hh hv hl hhi
   obtain ⟨a1,a2⟩:=uG hρ hl
   obtain ⟨b1,b2⟩:=uG hρ hhi
   exact pure' h (s:=Instr.sliceAt t (ρc x) (lo.map ρc) (hi.map ρc) none) (fun v' hv'=>xN hv' (hρ _ _ hv) a1 a2 b1 b2 W) rfl
  ·cases h
 case fieldAddr s x f=>
  split at h
  ·rename_i p hp
   exact pure' h (s:=Instr.fieldAt s (ρc x) f) (fun v hv=>qK hv (hρ _ _ hp) W) rfl
  ·cases h
 case field t x f=>
  split at h
  ·rename_i p hp
   exact pure' h (s:=Instr.field t (ρc x) f) (fun v hv=>xL hv (hρ _ _ hp) W) rfl
  ·cases h
 case indexAddr t x i=>
  split at h
  ·rename_i v k hv hk
   exact pure' h (s:=Instr.indexAt t (ρc x) (ρc i)) (fun v' hv'=>qM hv' (hρ _ _ hv) (hρ _ _ hk) W) rfl
  ·cases h
 case index t x i=>
  split at h
  ·rename_i v k hv hk
   exact pure' h (s:=Instr.index t (ρc x) (ρc i)) (fun v' hv'=>xM hv' (hρ _ _ hv) (hρ _ _ hk) W) rfl
  ·cases h
 case extract t i=>
  split at h
  ·rename_i vs hvs
   split at h
   ·rename_i v hv
    cases h
    have:=hρ _ _ hvs
    simp only [execOp]
    generalize ρc t=cv at this
    cases this with
    | tup _ cvs hc=>
     obtain ⟨w,w1,w2⟩:=hc.get hv
     have w1':cvs[i]?=some w:=by simpa using w1
     exact ⟨W,G,w,by simp [Instr.extract,w1'],Sim.refl R,w2⟩
   ·cases h
  ·cases h
 case call c=>
  obtain ⟨callee,args,ats⟩:=c
  cases callee with
  | value f=>
   simp only at h
   split at h
   ·rename_i g first captured as' hg has
    have hf':=hρ _ _ hg
    have ha:=gW hρ has
    simp only [execOp,resolve]
    generalize ρc f=fv at hf'
    cases hf' with
    | func _ _ _ x y hx hy=>
     have:=nH (fr:=fr) h R ((hx.append ha).append hy)
     simp only [Deferred.ofValue,Sem.run_bind,Sem.run_pure,Result.andThen_ok,invoke]
     have e:x++args.map ρc++y=(x.toList++args.toList.map ρc++y.toList).toArray:=by
      apply Array.ext'
      simp
     rw [e];exact this
   ·cases h
  | builtin b=>
   simp only at h
   split at h
   ·rename_i as' has
    have ha:=gW hρ has
    have:=tE h R hf ha ty (args.map fun | .const _=>true | _=>false)
    simp only [execOp,resolve,Sem.run_bind,Sem.run_pure,Result.andThen_ok,invoke]
    have e:(args.map ρc)=(args.toList.map ρc).toArray:=by apply Array.ext';simp
    rw [e];exact this
   ·cases h
  | invoke r m=>
   simp only at h
   split at h
   ·rename_i t v as' hr has
    split at h
    ·rename_i g hg
     have hr':=hρ _ _ hr
     have ha:=gW hρ has
     simp only [execOp,resolve]
     generalize ρc r=rv at hr'
     cases hr' with
     | iface _ _ w hw=>
      have:=nH (fr:=fr) h R (.cons _ _ _ _ hw ha)
      have e4:(w::args.toList.map ρc).toArray=#[w]++args.map ρc:=by rw [aEx];simp
      rw [e4] at this
      simp only [Sem.run_bind,Sem.run_pure,Result.andThen_ok,invoke,aEv,aEw,vV hg]
      exact this
    ·cases h
   ·cases h
 case range t x=>
  split at h
  ·rename_i s hx hd
   split at h
   ·rename_i a S' hn
    cases h
    obtain ⟨W',G',w,w1,w2,w3⟩:=xR hd hn R hf (hρ _ _ hx)
    exact ⟨W',G',w,by simp [execOp,w1],w2,w3⟩
   ·cases h
  ·cases h
 case next it isS=>
  split at h
  ·rename_i a hx
   rw [cond_eq_ite] at h
   split at h
   ·rename_i hs
    subst hs
    split at h
    ·rename_i s pos hg
     obtain ⟨n1,n2⟩:=zR (ty:=ty) (fr:=fr) hg R (hρ _ _ hx)
     rw [cond_eq_ite] at h
     split at h
     ·split at h
      ·rename_i b hb
       rw [cond_eq_ite] at h
       split at h
       ·rename_i hlt
        cases h
        have hpos:pos<s.length:=(List.getElem?_eq_some_iff.1 hb).1
        obtain ⟨W',w,w1,w2,w3⟩:=n2 hpos
        rw [vR hb (by simpa using hlt)] at w2 w3
        exact ⟨W',G,w,by show (do pure (Next.value (←Instr.next (ρc it) true ty)):Sem Next).run P W=_;rw [Sem.run_bind,w1];rfl,w2,w3⟩
       ·cases h
        have hpos:pos<s.length:=(List.getElem?_eq_some_iff.1 hb).1
        obtain ⟨W',w,w1,w2,w3⟩:=n2 hpos
        exact ⟨W',G,w,by show (do pure (Next.value (←Instr.next (ρc it) true ty)):Sem Next).run P W=_;rw [Sem.run_bind,w1];rfl,w2,w3⟩
      ·cases h
     ·rename_i hge
      cases h
      obtain ⟨w,w1,w2⟩:=n1 (by simp at hge;omega)
      exact ⟨W,G,w,by show (do pure (Next.value (←Instr.next (ρc it) true ty)):Sem Next).run P W=_;rw [Sem.run_bind,w1];rfl,Sim.refl R,w2⟩
    ·cases h
   ·cases h
  ·cases h
 case makeMap t r=>
  cases r with
  | some r=>cases h
  | none=>
   simp only at h
   split at h
   ·rename_i a S' hn
    cases h
    obtain ⟨W',G',w,w1,w2,w3⟩:=tD (t:=t) hn R hf
    exact ⟨W',G',w,by show (do pure (Next.value (←Instr.makeMap t none)):Sem Next).run P W=_;rw [Sem.run_bind,w1];rfl,w2,w3⟩
   ·cases h
 case lookup t m k ok=>
  split at h
  ·rename_i mv kv hm hk
   unfold bN at h
   split at h
   ·rename_i v hv
    cases h
    obtain ⟨w,w1,w2⟩:=vU hv R (hρ _ _ hm) (hρ _ _ hk)
    exact ⟨W,G,w,by simp [execOp,w1],Sim.refl R,w2⟩
   ·cases h
  ·cases h
 case mapUpdate t m k x=>
  split at h
  ·rename_i mv kv xv hm hk hx
   split at h
   ·rename_i S' hs
    cases h
    obtain ⟨W',w1,w2⟩:=qO (fr:=fr) hs R (hρ _ _ hm) (hρ _ _ hk) (hρ _ _ hx)
    exact ⟨W',G,by simp [execOp,w1],w2⟩
   ·cases h
  ·cases h
 case makeFunc fn first captured=>
  split at h
  ·rename_i f a b h1 h2
   cases h
   exact ⟨W,G,.func (.func f) (first.map ρc) (captured.map ρc),rfl,Sim.refl R,.func _ _ _ _ _ (by simpa using gW hρ h1) (by simpa using gW hρ h2)⟩
  ·cases h
 case makeInterface t x=>
  split at h
  ·cases h
  ·rename_i v d hni hv hd
   cases h
   refine ⟨W,G,.iface t (ρc x),?_,Sim.refl R,.iface _ _ _ (hρ _ _ hv)⟩
   cases d<;>first | exact (hni _ rfl).elim | (simp [execOp,Instr.makeInterface,run_underlying hd];done)
  ·cases h
 case typeAssert x xt t ok=>
  split at h
  ·rename_i v hv
   exact pure' h (s:=Instr.typeAssert (ρc x) xt t ok) (fun v' hv'=>vS hv' (hρ _ _ hv) W) rfl
  ·cases h
def EnvR (G:Gh) (n:Nat) (e:aJ) (tmps:Array Value):Prop:=
 tmps.size=n∧∀ t v,e.get t=some v→∃ w,tmps[t]?=some w∧VR G v w
theorem EnvR.mono {G G':Gh} (hg:G.le G') {n:Nat} {e:aJ} {tmps:Array Value} (h:EnvR G n e tmps):EnvR G' n e tmps:=
 ⟨h.1,fun t v ht=>let ⟨w,a,b⟩:=h.2 t v ht;⟨w,a,b.mono hg⟩⟩
theorem kT {G:Gh} {n:Nat} {e:aJ} {a:Act} (h:EnvR G n e a.tmps):∀ x v,ev e x=some v→VR G v (a.eval x):=by
 intro x v hx
 cases x with
 | tmp t=>
  obtain ⟨w,w1,w2⟩:=h.2 t v hx
  simp only [Act.eval]
  rw [show a.tmps.getD t undef=w by simp [w1]]
  exact w2
 | const c=>exact cN G hx
 | global g=>cases hx
 | func f=>cases hx;exact .func f [] [] #[] #[] .nil .nil
theorem nI (G:Gh):VR G (.tup []) undef:=.tup [] #[] .nil
theorem lL {G:Gh} {n:Nat} {e e':aJ} {a:Act} {d:Option Tmp} {v:V} {w:Value} (hn:n<fZ) (h:EnvR G n e a.tmps) (hp:cR n e d v=.ok e') (hv:VR G v w):
  EnvR G n e' (a.put d w).tmps∧(a.put d w).defers=a.defers:=by
 unfold cR at hp
 split at hp
 ·cases hp;exact ⟨h,rfl⟩
 ·rename_i d
  rw [cond_eq_ite] at hp
  split at hp
  ·rename_i hd
   have hd':d<n:=by simpa using hd
   cases hp
   refine ⟨⟨by simp [Act.put,h.1],fun t u ht=>?_⟩,rfl⟩
   rw [Tr.get_put _ _ _ _ (Nat.lt_trans hd' hn)] at ht
   have hs:d<a.tmps.size:=by rw [h.1];exact hd'
   by_cases htd:t=d
   ·subst htd
    simp at ht;subst ht
    exact ⟨w,by simp [Act.put,hs],hv⟩
   ·rw [if_neg htd] at ht
    obtain ⟨w',w1,w2⟩:=h.2 t u ht
    exact ⟨w',by simp only [Act.put];rw [Array.getElem?_setIfInBounds_ne (Ne.symm htd)];exact w1,w2⟩
  ·cases hp
theorem nJ {G:Gh} {n:Nat} {ops:Array Oper} {o:Oper} {e:aJ} {a:Act} {b:Bool} (h:wanted ops o e=.ok b) (he:EnvR G n e a.tmps):
  Region.wanted o (yielded ops a.tmps)=b:=by
 unfold wanted at h
 unfold Region.wanted
 split at h
 ·rename_i hg;cases h;simp [hg]
 ·rename_i j want hg
  simp only [hg]
  unfold yielded
  split at h
  ·rename_i hj;cases h;simp [hj]
  ·rename_i oj hj
   split at h
   ·rename_i hd;cases h;simp [hj,hd]
   ·rename_i d hd
    split at h
    ·rename_i b' hb
     cases h
     obtain ⟨w,w1,w2⟩:=he.2 d _ hb
     cases w2
     simp only [hj,hd,Option.bind_some,w1]
     cases b'<;>cases want<;>rfl
    ·rename_i v hne hb
     cases h
     obtain ⟨w,w1,w2⟩:=he.2 d _ hb
     simp only [hj,hd,Option.bind_some,w1]
     cases w2<;>first | rfl | (exact absurd rfl (hne _))
    ·cases h
structure CallOK (P:Program) (call:Call):Prop where
 enters:∀ {f args S r},call f args S=.ok r→∀ (cs:Array Value) (W:World),(callFunc f cs).run P W=.ok (.enter f cs) W
 calls:∀ {f args S v S'},call f args S=.ok (v,S')→∀ {F:Nat→Option Obj} {G:Gh} {W:World} {cs:List Value},cO F G S W.heap→VRs G args cs→
  Calls P f cs.toArray W fun e W'=>∃ G' w,e=.returned w∧Sim F none G S W G' S' W'∧VR G' v w
theorem Sim.weaken {F:Nat→Option Obj} {fr:Option Nat} {G G':Gh} {S S':St} {W W':World} (h:Sim F none G S W G' S' W'):Sim F fr G S W G' S' W':=
 ⟨h.le,h.rel,h.same,h.next,fun a h1 h2 _=>h.keep a h1 h2 (by simp),fun a h1 h2 _=>h.dead a h1 h2 (by simp),h.prn⟩
theorem Sim.trans {F:Nat→Option Obj} {G G1 G2:Gh} {S S1 S2:St} {W W1 W2:World} (h:Sim F none G S W G1 S1 W1) (k:Sim F none G1 S1 W1 G2 S2 W2):Sim F none G S W G2 S2 W2:=by
 refine ⟨Gh.le_trans h.le k.le,k.rel,h.same.trans k.same,Nat.le_trans h.next k.next,fun a h1 h2 h3=>?_,fun a h1 h2 h3=>?_,fun i o ho=>(k.prn i o ho).elim (h.prn i o) .inr⟩
 ·obtain ⟨q1,q2⟩:=h.keep a h1 h2 h3
  obtain ⟨r1,r2⟩:=k.keep a (h.dead a h1 h2 h3) (Nat.lt_of_lt_of_le h2 h.next) h3
  exact ⟨r1.trans q1,r2.trans q2⟩
 ·exact k.dead a (h.dead a h1 h2 h3) (Nat.lt_of_lt_of_le h2 h.next) h3
theorem rV {P:Program} {call:Call} (hc:CallOK P call) {n:Nat} {ops:Array Oper} {i:Nat} {o:Oper} (ho:ops[i]?=some o) {fr:Option Nat} {e e':aJ} {S S':St}
  (h:cM P call n ops o fr e S=.ok (e',S')) {F:Nat→Option Obj} {G:Gh} {W:World} (R:cO F G S W.heap) (hf:kP fr G S) {a:Act} (he:EnvR G n e a.tmps) (hn:n<fZ)
  {Q:Exit→Act→World→Prop} {K:Act→World→Prop} (hK:∀ G' W' a',Sim F fr G S W G' S' W'→EnvR G' n e' a'.tmps→a'.defers=a.defers→K a' W'):
  wpOp P ops Q i K a W:=by
 unfold wpOp
 simp only [ho]
 unfold cM at h
 split at h
 ·cases h
 ·rename_i hw
  rw [nJ hw he]
  simp only [Bool.false_eq_true,if_false]
  split at h
  ·rename_i e1 hp
   cases h
   obtain ⟨p1,p2⟩:=lL hn he hp (nI G)
   exact hK G W _ (Sim.refl R) p1 p2
  ·cases h
 ·rename_i hw
  rw [nJ hw he]
  simp only [if_true]
  refine .inl ?_
  unfold Oper.wp
  split at h
  ·cases h
  ·rename_i v S1 hv
   have:=fK hv R hf (kT he)
   obtain ⟨W',G',w,w1,w2,w3⟩:=this
   split at h
   ·rename_i e1 hp
    cases h
    rw [w1,Oper.upon_value]
    obtain ⟨p1,p2⟩:=lL hn (he.mono w2.le) hp w3
    exact hK G' W' _ w2 p1 p2
   ·cases h
  ·rename_i S1 hv
   have:=fK hv R hf (kT he)
   obtain ⟨W',G',w1,w2⟩:=this
   split at h
   ·rename_i e1 hp
    cases h
    rw [w1,Oper.upon_skip]
    obtain ⟨p1,p2⟩:=lL hn (he.mono w2.le) hp (nI G')
    exact hK G' W' _ w2 p1 p2
   ·cases h
  ·rename_i f args hv
   have:=fK hv R hf (kT he)
   obtain ⟨cs,w1,w2⟩:=this
   split at h
   ·cases h
   ·rename_i v S1 hcall
    split at h
    ·rename_i e1 hp
     cases h
     rw [w2,hc.enters hcall,Oper.upon_enter]
     refine (hc.calls hcall R w1).mono ?_
     rintro e W' ⟨G',w,rfl,q1,q2⟩
     obtain ⟨p1,p2⟩:=lL hn (he.mono q1.le) hp q2
     exact hK G' W' _ q1.weaken p1 p2
    ·cases h
theorem nK {P:Program} {call:Call} (hc:CallOK P call) {n:Nat} {ops:Array Oper} (hn:n<fZ) {F:Nat→Option Obj} {Q:Exit→Act→World→Prop}:
  ∀ (l:List Oper) (k:Nat) (_:ops.toList.drop k=l) {e e':aJ} {S S':St} (_:jO P call n ops l e S=.ok (e',S')) {G:Gh} {W:World} (_:cO F G S W.heap) {a:Act}
   (_:EnvR G n e a.tmps) (_:∀ G' W' a',Sim F none G S W G' S' W'→EnvR G' n e' a'.tmps→a'.defers=a.defers→Q .normal a' W'),
   wpOps P ops Q (List.range' k l.length) a W
 | [],k,_,e,e',S,S',h,G,W,R,a,he,hQ=>by
  simp [jO] at h
  obtain ⟨rfl,rfl⟩:=h
  simp only [List.length_nil,List.range'_zero,wpOps]
  exact hQ G W a (Sim.refl R) he rfl
 | o::l,k,hl,e,e',S,S',h,G,W,R,a,he,hQ=>by
  simp only [jO] at h
  split at h
  ·rename_i e1 S1 hs
   have ho:ops[k]?=some o:=by
    have:(ops.toList.drop k)[0]?=some o:=by rw [hl];rfl
    rw [List.getElem?_drop] at this
    simpa using this
   have hl':ops.toList.drop (k+1)=l:=by
    rw [←List.drop_drop,hl];rfl
   simp only [List.length_cons,List.range'_succ]
   rw [wpOps_cons]
   refine rV hc ho hs R (by intro k hk;cases hk) he hn fun G' W' a' q1 q2 q3=>?_
   refine nK hc hn l (k+1) hl' h q1.rel q2 fun G2 W2 a2 r1 r2 r3=>?_
   exact hQ G2 W2 a2 (q1.trans r1) r2 (r3.trans q3)
  ·cases h
theorem RelH.drop {F:Nat→Option Obj} {G:Gh} {nx:Nat} {hp hp':Nat→Option Blk} {H:Array Obj} (R:RelH F G nx hp H) (h:∀ a b,hp' a=some b→hp a=some b):RelH F G nx hp' H:=
 ⟨R.fresh,R.sep,fun a b hb=>R.blk a b (h a b hb),fun a a' b b' i h1 h2=>R.inj a a' b b' i (h a b h1) (h a' b' h2),R.fr,R.pr,fun a b i hb=>R.own a b i (h a b hb),R.lt,fun a b hb=>R.small a b (h a b hb)⟩
open Classical in
noncomputable def eD (F:Nat→Option Obj) (G:Gh) (hp:Nat→Option Blk) (S:St) (H:Array Obj) (i:Nat):Option Obj:=
 if ∃ a b,hp a=some b∧S.heap.get a=none∧bI G a i then H[i]? else F i
theorem RelH.frame {F:Nat→Option Obj} {G:Gh} {nx:Nat} {hp:Nat→Option Blk} {H:Array Obj} (R:RelH F G nx hp H) {S:St} (hs:∀ a b,S.heap.get a=some b→hp a=some b):
  RelH (eD F G hp S H) G nx S.heap.get H:=by
 have R':=R.drop hs
 refine ⟨R'.fresh,R'.sep,R'.blk,R'.inj,fun i o h=>?_,R'.pr,fun a b i hb h=>⟨?_,(R'.own a b i hb h).2⟩,R'.lt,R'.small⟩
 ·unfold eD at h
  split at h
  ·exact h
  ·exact R.fr i o h
 ·unfold eD
  rw [if_neg]
  ·exact (R'.own a b i hb h).1
  ·rintro ⟨a',b',h1,h2,h3⟩
   have:=R.inj a a' b b' i (hs a b hb) h1 h h3
   subst this
   rw [hb] at h2;cases h2
theorem RelH.framed_none {F:Nat→Option Obj} {G:Gh} {nx:Nat} {hp:Nat→Option Blk} {H:Array Obj} (R:RelH F G nx hp H) {S:St} (i:Nat) (hi:eD F G hp S H i=none):F i=none:=by
 unfold eD at hi
 split at hi
 ·rename_i hq
  obtain ⟨a,b,h1,h2,h3⟩:=hq
  exact (R.own a b i h1 h3).1
 ·exact hi
open Classical in
noncomputable def fY (hp:Nat→Option Blk) (S S1:St) (a:Nat):Option Blk:=
 if S.heap.get a=none∧∃ b,hp a=some b then hp a else S1.heap.get a
theorem RelH.unframe {F:Nat→Option Obj} {G:Gh} {nx:Nat} {hp:Nat→Option Blk} {W:World} (R:RelH F G nx hp W.heap) {S:St} (hn:S.next=nx)
  {fr:Option Nat} (hfr:∀ k,fr=some k→hp k=none) {G2:Gh} {S1:St} {W2:World} (h:Sim (eD F G hp S W.heap) fr G S W G2 S1 W2):
  RelH F G2 S1.next (fY hp S S1) W2.heap:=by
 have ext:∀ a b,S.heap.get a=none→hp a=some b→a<S.next∧fr≠some a:=by
  intro a b _ hb
  refine ⟨by rw [hn];exact R.alive hb,fun e=>?_⟩
  rw [hfr a e] at hb;cases hb
 have hold:∀ a b i,S.heap.get a=none→hp a=some b→(bI G2 a i↔bI G a i):=by
  intro a b i h1 h2
  obtain ⟨e1,e2⟩:=ext a b h1 h2
  obtain ⟨k1,k2⟩:=h.keep a h1 e1 e2
  unfold bI
  rw [k1,k2]
 have obj:∀ a b i,S.heap.get a=none→hp a=some b→bI G a i→W2.heap[i]?=W.heap[i]?:=by
  intro a b i h1 h2 h3
  have hi:=R.lt a i h3
  obtain ⟨o,ho⟩:∃ o,W.heap[i]?=some o:=⟨_,Array.getElem?_eq_getElem hi⟩
  rw [ho]
  refine h.rel.fr i o ?_
  unfold eD
  rw [if_pos ⟨a,b,h2,h1,h3⟩];exact ho
 have cases':∀ a b,fY hp S S1 a=some b→(S.heap.get a=none∧hp a=some b)∨(¬ (S.heap.get a=none∧∃ b,hp a=some b)∧S1.heap.get a=some b):=by
  intro a b hb
  unfold fY at hb
  split at hb
  ·rename_i hq;exact .inl ⟨hq.1,hb⟩
  ·rename_i hq;exact .inr ⟨hq,hb⟩
 have F2:∀ i,eD F G hp S W.heap i=none→F i=none:=by
  intro i hi
  unfold eD at hi
  split at hi
  ·rename_i hq
   obtain ⟨a,b,h1,h2,h3⟩:=hq
   exact (R.own a b i h1 h3).1
  ·exact hi
 constructor
 ·exact h.rel.fresh
 ·exact h.rel.sep
 ·intro a b hb
  rcases cases' a b hb with ⟨h1,h2⟩ | ⟨_,h1⟩
  ·obtain ⟨e1,e2⟩:=ext a b h1 h2
   obtain ⟨k1,k2⟩:=h.keep a h1 e1 e2
   have old:=R.blk a b h2
   cases b with
   | row ver es elems=>
    obtain ⟨L,hL,r1,r2,r3,c,ty,fz,hc,r4,r5,r6⟩:=old
    exact ⟨L,k1.trans hL,r1,r2,r3,c,ty,fz,by rw [obj a _ _ h1 h2 (.inl ⟨L,hL,rfl⟩)];exact hc,r4,r5,r6.mono h.le⟩
   | mp kvs=>
    obtain ⟨i,es,clock,hi,hH,r1,r2⟩:=old
    exact ⟨i,es,clock,k2.trans hi,by rw [obj a _ _ h1 h2 (.inr hi)];exact hH,r1.mono h.le,r2⟩
   | iter s pos=>
    obtain ⟨L,hL,r1,r2,hH⟩:=old
    exact ⟨L,k1.trans hL,r1,r2,by rw [obj a _ _ h1 h2 (.inl ⟨L,hL,rfl⟩)];exact hH⟩
  ·exact h.rel.blk a b h1
 ·intro a a' b b' i hb hb' h1 h2
  rcases cases' a b hb with ⟨q1,q2⟩ | ⟨_,q2⟩
  ·rcases cases' a' b' hb' with ⟨p1,p2⟩ | ⟨_,p2⟩
   ·exact R.inj a a' b b' i q2 p2 ((hold a b i q1 q2).1 h1) ((hold a' b' i p1 p2).1 h2)
   ·have:=(h.rel.own a' b' i p2 h2).1
    unfold eD at this
    rw [if_pos ⟨a,b,q2,q1,(hold a b i q1 q2).1 h1⟩] at this
    have hi:=R.lt a i ((hold a b i q1 q2).1 h1)
    rw [Array.getElem?_eq_getElem hi] at this;cases this
  ·rcases cases' a' b' hb' with ⟨p1,p2⟩ | ⟨_,p2⟩
   ·have:=(h.rel.own a b i q2 h1).1
    unfold eD at this
    rw [if_pos ⟨a',b',p2,p1,(hold a' b' i p1 p2).1 h2⟩] at this
    have hi:=R.lt a' i ((hold a' b' i p1 p2).1 h2)
    rw [Array.getElem?_eq_getElem hi] at this;cases this
   ·exact h.rel.inj a a' b b' i q2 p2 h1 h2
 ·intro i o ho
  by_cases hq:∃ a b,hp a=some b∧S.heap.get a=none∧bI G a i
  ·obtain ⟨a,b,h1,h2,h3⟩:=hq
   rw [(R.own a b i h1 h3).1] at ho;cases ho
  ·refine h.rel.fr i o ?_
   unfold eD
   rw [if_neg hq];exact ho
 ·exact h.rel.pr
 ·intro a b i hb h1
  rcases cases' a b hb with ⟨q1,q2⟩ | ⟨_,q2⟩
  ·have hG:=(hold a b i q1 q2).1 h1
   refine ⟨(R.own a b i q2 hG).1,?_⟩
   cases hp2:G2.pr i with
   | none=>rfl
   | some o=>
    exfalso
    rcases h.prn i o hp2 with hp2 | hp2
    ·rw [(R.own a b i q2 hG).2] at hp2;cases hp2
    ·unfold eD at hp2
     rw [if_pos ⟨a,b,q2,q1,hG⟩,Array.getElem?_eq_getElem (R.lt a i hG)] at hp2;cases hp2
  ·exact ⟨F2 i (h.rel.own a b i q2 h1).1,(h.rel.own a b i q2 h1).2⟩
 ·exact h.rel.lt
 ·intro a b hb
  rcases cases' a b hb with ⟨_,q2⟩ | ⟨_,q2⟩
  ·exact R.small a b q2
  ·exact h.rel.small a b q2
theorem gX {ρ ρ':Operand→Option V}:∀ {l:List Operand},(∀ x∈l,ρ x=ρ' x)→jA ρ l=jA ρ' l
 | [],_=>rfl
 | x::l,h=>by simp only [jA,h x (by simp),gX (fun y hy=>h y (List.mem_cons_of_mem _ hy))]
theorem mH {ρ ρ':Operand→Option V}:∀ {l:List (Nat×Operand)},(∀ x∈l.map (·.2),ρ x=ρ' x)→hU ρ l=hU ρ' l
 | [],_=>rfl
 | (i,x)::l,h=>by simp only [hU,h x (by simp),mH (fun y hy=>h y (by simp at hy ⊢;exact .inr hy))]
theorem uH {ρ ρ':Operand→Option V} {o:Option Operand} (h:∀ x,o=some x→ρ x=ρ' x):tX ρ o=tX ρ' o:=by
 cases o with
 | none=>rfl
 | some x=>simp only [tX,h x rfl]
theorem vW {P:Program} {ρ ρ':Operand→Option V} {o:Oper} {fr:Option Nat} {S:St} (h:∀ x∈o.op.operands,ρ x=ρ' x):aI P ρ o fr S=aI P ρ' o fr S:=by
 obtain ⟨dst,op,ty,pos,after,gd⟩:=o
 cases op<;>simp only [Op.operands] at h<;>simp only [aI]
 case build t ps=>rw [mH (fun x hx=>h x (by simpa using hx))]
 case buildSlice t n ps=>rw [mH (fun x hx=>h x (by simpa using hx))]
 case slice t x lo hi mx=>
  rw [h x (by simp),uH (fun y hy=>h y (by subst hy;simp)),uH (fun y hy=>h y (by subst hy;simp))]
 case call c=>
  obtain ⟨callee,args,ats⟩:=c
  cases callee with
  | value f=>simp only;rw [h f (by simp [Call.operands]),gX (fun x hx=>h x (by simp [Call.operands];exact .inr (by simpa using hx)))]
  | builtin b=>simp only;rw [gX (fun x hx=>h x (by simp [Call.operands];simpa using hx))]
  | invoke r m=>simp only;rw [h r (by simp [Call.operands]),gX (fun x hx=>h x (by simp [Call.operands];exact .inr (by simpa using hx)))]
 case makeFunc fn first captured=>rw [gX (l:=first.toList) (fun x hx=>h x (by simp;exact .inl (by simpa using hx))),gX (l:=captured.toList) (fun x hx=>h x (by simp;exact .inr (by simpa using hx)))]
 case makeMap t r=>cases r<;>rfl
 all_goals (first | rfl | (simp_all;done))
theorem aOl {P:Program} {ρ:Operand→Option V} {o:Oper} {fr:Option Nat} {S:St} {r:Out} (hc:cA P o.op=0) (h:aI P ρ o fr S=.ok r):
  ∃ v,r=.val v S∧∀ fr' S',aI P ρ o fr' S'=.ok (.val v S'):=by
 obtain ⟨dst,op,ty,pos,after,gd⟩:=o
 have pr:∀ {x:AM.R V},bN S x=.ok r→∃ v,r=.val v S∧∀ S',bN S' x=.ok (.val v S'):=by
  intro x hx
  unfold bN at hx
  split at hx
  ·cases hx;exact ⟨_,rfl,fun _=>rfl⟩
  ·cases hx
 cases op<;>simp only [cA] at hc<;>try (cases hc;done)
 all_goals simp only [aI] at h ⊢
 case move x=>split at h<;>cases h;rename_i v hv;exact ⟨_,rfl,fun _ S'=>by simp only [hv]⟩
 case assign x=>split at h<;>cases h;rename_i v hv;exact ⟨_,rfl,fun _ S'=>by simp only [hv]⟩
 case pick c a b=>
  split at h
  ·rename_i hc';split at h<;>cases h;rename_i v hv;exact ⟨_,rfl,fun _ S'=>by simp only [hc',hv]⟩
  ·rename_i hc';split at h<;>cases h;rename_i v hv;exact ⟨_,rfl,fun _ S'=>by simp only [hc',hv]⟩
  ·cases h
 case build t ps=>
  split at h
  ·rename_i vs hvs
   obtain ⟨v,h1,h2⟩:=pr h
   exact ⟨v,h1,fun _ S'=>by first | exact h2 S' | (simp only [hvs];exact h2 S')⟩
  ·cases h
 case nilCheck x=>
  split at h
  ·rename_i hv;cases h;exact ⟨_,rfl,fun _ S'=>by simp only [hv]⟩
  ·rename_i hv;cases h;exact ⟨_,rfl,fun _ S'=>by simp only [hv]⟩
  ·cases h
 case binOp op t x y yt=>
  split at h
  ·rename_i a b hx hy
   rw [cond_eq_ite] at h
   split at h
   ·rename_i hg
    obtain ⟨v,h1,h2⟩:=pr h
    exact ⟨v,h1,fun _ S'=>by simp only [hx,hy,cond_eq_ite];rw [if_pos hg];exact h2 S'⟩
   ·cases h
  ·cases h
 case unOp op t x=>
  split at h
  ·rename_i a hx
   obtain ⟨v,h1,h2⟩:=pr h
   exact ⟨v,h1,fun _ S'=>by first | exact h2 S' | (simp only [hx];exact h2 S')⟩
  ·cases h
 case convert s d x=>
  split at h
  ·rename_i a hx
   split at hc
   ·rename_i k hd
    unfold bZ at h
    split at h
    ·rename_i v S1 hv
     cases h
     unfold bP at hv
     rw [hd] at hv
     split at hv<;>rename_i hs' hd'
     ·cases hd'
      split at hv
      ·rename_i n
       cases hv
       refine ⟨_,rfl,fun _ S'=>?_⟩
       simp only [hx,bZ,bP,hs',hd]
      ·cases hv
     ·cases hd'
     ·cases hd'
     ·cases hv
    ·cases h
   ·cases hc
   ·cases hc
  ·cases h
 case slice t x lo hi mx=>
  split at h
  ·rename_i v l hh hv hl hhi
   obtain ⟨v',h1,h2⟩:=pr h
   exact ⟨v',h1,fun _ S'=>by first | exact h2 S' | (simp only [hv,hl,hhi];exact h2 S')⟩
  ·cases h
 case fieldAddr s x f=>
  split at h
  ·rename_i a hx
   obtain ⟨v,h1,h2⟩:=pr h
   exact ⟨v,h1,fun _ S'=>by first | exact h2 S' | (simp only [hx];exact h2 S')⟩
  ·cases h
 case field s x f=>
  split at h
  ·rename_i a hx
   obtain ⟨v,h1,h2⟩:=pr h
   exact ⟨v,h1,fun _ S'=>by first | exact h2 S' | (simp only [hx];exact h2 S')⟩
  ·cases h
 case indexAddr t x i=>
  split at h
  ·rename_i a b hx hy
   obtain ⟨v,h1,h2⟩:=pr h
   exact ⟨v,h1,fun _ S'=>by first | exact h2 S' | (simp only [hx,hy];exact h2 S')⟩
  ·cases h
 case index t x i=>
  split at h
  ·rename_i a b hx hy
   obtain ⟨v,h1,h2⟩:=pr h
   exact ⟨v,h1,fun _ S'=>by first | exact h2 S' | (simp only [hx,hy];exact h2 S')⟩
  ·cases h
 case extract t i=>
  split at h
  ·rename_i vs hvs
   split at h
   ·rename_i v hv
    cases h
    exact ⟨v,rfl,fun _ S'=>by simp only [hvs,hv]⟩
   ·cases h
  ·cases h
 case call c=>
  obtain ⟨callee,args,ats⟩:=c
  cases callee with
  | value f=>cases hc
  | invoke r m=>cases hc
  | builtin b=>
   simp only at h ⊢
   split at h
   ·rename_i as' has
    cases b<;>simp only at hc<;>try (cases hc;done)
    all_goals
     simp only [cD] at h
     obtain ⟨v,h1,h2⟩:=pr h
     exact ⟨v,h1,fun _ S'=>by first | exact h2 S' | (simp only [has,cD];exact h2 S')⟩
   ·cases h
theorem aIk {P:Program} {ρ:Operand→Option V} {o:Oper} {fr:Option Nat} {S:St} {r:Out} (hc:cA P o.op=1) (h:aI P ρ o fr S=.ok r):
  ∃ v,r=.val v S∧∀ fr',aI P ρ o fr' S=.ok (.val v S):=by
 obtain ⟨dst,op,ty,pos,after,gd⟩:=o
 have pr:∀ {x:AM.R V},bN S x=.ok r→∃ v,r=.val v S∧bN S x=.ok (.val v S):=by
  intro x hx
  unfold bN at hx
  split at hx
  ·cases hx;exact ⟨_,rfl,rfl⟩
  ·cases hx
 cases op<;>simp only [cA] at hc<;>try (cases hc;done)
 all_goals simp only [aI] at h ⊢
 case load t a=>
  split at h
  ·rename_i p hp
   obtain ⟨v,h1,h2⟩:=pr h
   exact ⟨v,h1,fun _=>by first | exact h2 | (simp only [hp];exact h2)⟩
  ·cases h
 case convert s d x=>
  split at h
  ·rename_i a hx
   split at hc
   ·cases hc
   ·rename_i hd
    unfold bZ at h
    split at h
    ·rename_i v S1 hv
     cases h
     have:S1=S∧∀ fr',bP P s d a fr' S=.ok (v,S):=by
      unfold bP at hv ⊢
      rw [hd] at hv
      split at hv<;>rename_i hs' hd'
      ·cases hd'
      ·split at hv
       ·cases hv;exact ⟨rfl,fun _=>by simp only [hs',hd]⟩
       ·split at hv
        ·rename_i e
         split at hv
         ·rename_i he
          split at hv
          ·split at hv
           ·cases hv
           ·rename_i l hl
            split at hv
            ·rename_i b hb;cases hv;exact ⟨rfl,fun _=>by simp only [hs',hd,he,hl,hb]⟩
            ·cases hv
          ·split at hv
           ·cases hv
           ·rename_i l hl
            split at hv
            ·rename_i b hb;cases hv;exact ⟨rfl,fun _=>by simp only [hs',hd,he,hl,hb]⟩
            ·cases hv
          ·split at hv
           ·cases hv
           ·rename_i l hl
            split at hv
            ·rename_i b hb;cases hv;exact ⟨rfl,fun _=>by simp only [hs',hd,he,hl,hb]⟩
            ·cases hv
          ·cases hv
         ·cases hv
        ·cases hv
      ·cases hd'
      ·cases hv
     obtain ⟨rfl,h2⟩:=this
     exact ⟨v,rfl,fun _=>by simp only [hx,bZ,h2]⟩
    ·cases h
   ·cases hc
  ·cases h
 case call c=>
  obtain ⟨callee,args,ats⟩:=c
  cases callee with
  | value f=>cases hc
  | invoke r m=>cases hc
  | builtin b=>
   simp only at h ⊢
   split at h
   ·rename_i as' has
    cases b<;>simp only at hc<;>try (cases hc;done)
    all_goals
     simp only [cD] at h
     split at h
     ·rename_i x
      split at h
      ·rename_i t ht
       obtain ⟨v,h1,h2⟩:=pr h
       exact ⟨v,h1,fun _=>by first | exact h2 | (simp only [has,cD,ht];exact h2)⟩
      ·cases h
     all_goals (try (cases h;done))
     all_goals (simp_all;done)
   ·cases h
theorem fP {k:Nat} {S:St} {b:Blk} {x:Nat×St} (h:aV (some k) S b=.ok x):k<jM k∧x=(k,⟨S.next,S.heap.put k b⟩)∧∀ S',aV (some k) S' b=.ok (k,⟨S'.next,S'.heap.put k b⟩):=by
 unfold aV at h
 simp only [cond_eq_ite] at h
 split at h
 ·rename_i hl
  cases h
  exact ⟨by simpa using hl,rfl,fun S'=>by unfold aV;simp only [cond_eq_ite];rw [if_pos hl]⟩
 ·cases h
theorem aOm {P:Program} {ρ:Operand→Option V} {o:Oper} {k:Nat} {S:St} {r:Out} (hc:cA P o.op=2) (h:aI P ρ o (some k) S=.ok r):
  ∃ v b,k<jM k∧r=.val v ⟨S.next,S.heap.put k b⟩∧∀ S',aI P ρ o (some k) S'=.ok (.val v ⟨S'.next,S'.heap.put k b⟩):=by
 obtain ⟨dst,op,ty,pos,after,gd⟩:=o
 cases op<;>simp only [cA] at hc<;>try (cases hc;done)
 all_goals simp only [aI] at h ⊢
 case alloc t=>
  split at h
  ·cases h
  ·rename_i z hz
   split at h
   ·rename_i a S1 hn
    cases h
    obtain ⟨h1,h2,h3⟩:=fP hn
    cases h2
    exact ⟨_,_,h1,rfl,fun S'=>by simp only [h3]⟩
   ·cases h
 case box t x=>
  split at h
  ·rename_i v hv
   rw [cond_eq_ite] at h
   split at h
   ·rename_i hone
    split at h
    ·rename_i a S1 hn
     cases h
     obtain ⟨h1,h2,h3⟩:=fP hn
     cases h2
     exact ⟨_,_,h1,rfl,fun S'=>by simp only [cond_eq_ite];rw [if_pos hone];simp only [h3]⟩
    ·cases h
   ·cases h
  ·cases h
 case buildSlice t n ps=>
  split at h
  ·rename_i vs hvs
   unfold bZ at h
   split at h
   ·rename_i v S1 hv
    cases h
    have:∃ v' b,k<jM k∧v=v'∧S1=⟨S.next,S.heap.put k b⟩∧∀ S',bM P t n vs (some k) S'=.ok (v',⟨S'.next,S'.heap.put k b⟩):=by
     unfold bM at hv
     split at hv
     ·cases hv
     ·rename_i e he
      split at hv
      ·cases hv
      ·rename_i z hz
       rw [cond_eq_ite] at hv
       split at hv
       ·rename_i hok
        split at hv
        ·cases hv
        ·rename_i elems hl
         split at hv
         ·cases hv
         ·rename_i a S2 hn
          cases hv
          obtain ⟨h1,h2,h3⟩:=fP hn
          cases h2
          refine ⟨_,_,h1,rfl,rfl,fun S'=>?_⟩
          unfold bM
          simp only [he,hz,cond_eq_ite]
          rw [if_pos hok]
          simp only [hl,h3]
       ·cases hv
    obtain ⟨v',b,h1,rfl,rfl,h3⟩:=this
    exact ⟨v,b,h1,rfl,fun S'=>by first | (simp only [bZ,h3]) | (simp only [hvs,bZ,h3])⟩
   ·cases h
  ·cases h
 case makeSlice t l c=>
  split at h
  ·rename_i lv cv hl hc'
   unfold bZ at h
   split at h
   ·rename_i v S1 hv
    cases h
    have:∃ v' b,k<jM k∧v=v'∧S1=⟨S.next,S.heap.put k b⟩∧∀ S',dG P t lv cv (some k) S'=.ok (v',⟨S'.next,S'.heap.put k b⟩):=by
     unfold dG at hv
     split at hv
     ·rename_i e kl l kc c he
      split at hv
      ·cases hv
      ·rename_i z hz
       rw [cond_eq_ite] at hv
       split at hv
       ·rename_i hok
        split at hv
        ·cases hv
        ·rename_i a S2 hn
         cases hv
         obtain ⟨h1,h2,h3⟩:=fP hn
         cases h2
         refine ⟨_,_,h1,rfl,rfl,fun S'=>?_⟩
         unfold dG
         simp only [he,hz,cond_eq_ite]
         rw [if_pos hok]
         simp only [h3]
       ·cases hv
     ·cases hv
    obtain ⟨v',b,h1,rfl,rfl,h3⟩:=this
    exact ⟨v,b,h1,rfl,fun S'=>by first | (simp only [bZ,h3]) | (simp only [hl,hc',bZ,h3])⟩
   ·cases h
  ·cases h
 case convert s d x=>
  split at h
  ·rename_i a hx
   unfold bZ at h
   split at h
   ·rename_i v S1 hv
    cases h
    have:∃ v' b,k<jM k∧v=v'∧S1=⟨S.next,S.heap.put k b⟩∧∀ S',bP P s d a (some k) S'=.ok (v',⟨S'.next,S'.heap.put k b⟩):=by
     unfold bP at hv
     split at hv
     ·rename_i hs' hd;rw [hd] at hc;cases hc
     ·rename_i hs' hd;rw [hd] at hc;cases hc
     ·rename_i u e hs' hd
      split at hv
      ·rename_i s' he
       rw [cond_eq_ite] at hv
       split at hv
       ·rename_i hok
        split at hv
        ·cases hv
        ·rename_i a' S2 hn
         cases hv
         obtain ⟨h1,h2,h3⟩:=fP hn
         cases h2
         refine ⟨_,_,h1,rfl,rfl,fun S'=>?_⟩
         unfold bP
         simp only [hs',hd,he,cond_eq_ite]
         rw [if_pos hok]
         simp only [h3]
       ·cases hv
      ·cases hv
     ·cases hv
    obtain ⟨v',b,h1,rfl,rfl,h3⟩:=this
    exact ⟨v,b,h1,rfl,fun S'=>by first | (simp only [bZ,h3]) | (simp only [hx,bZ,h3])⟩
   ·cases h
  ·cases h
 case call c=>
  obtain ⟨callee,args,ats⟩:=c
  cases callee with
  | value f=>cases hc
  | invoke r m=>cases hc
  | builtin b=>cases b<;>simp only at hc<;>cases hc
def fQ (P:Program) (call:Call) (ρ:Operand→Option V) (o:Oper) (fr:Option Nat) (S:St):R (V×St):=
 match aI P ρ o fr S with
 | .error w=>.error w
 | .ok (.val v S')=>.ok (v,S')
 | .ok (.skip S')=>.ok (.tup [],S')
 | .ok (.call f args)=>call f args S
theorem jW {P:Program} {call:Call} {n:Nat} {ops:Array Oper} {o:Oper} {fr:Option Nat} {e e1:aJ} {S S1:St} (h:cM P call n ops o fr e S=.ok (e1,S1)):
  (wanted ops o e=.ok false∧cR n e o.dst (.tup [])=.ok e1∧S1=S) ∨
  (wanted ops o e=.ok true∧∃ v,fQ P call (ev e) o fr S=.ok (v,S1)∧cR n e o.dst v=.ok e1):=by
 unfold cM at h
 split at h
 ·cases h
 ·rename_i hw
  split at h
  ·rename_i e2 hp;cases h;exact .inl ⟨hw,hp,rfl⟩
  ·cases h
 ·rename_i hw
  refine .inr ⟨hw,?_⟩
  split at h
  ·cases h
  ·rename_i v S2 hv
   split at h
   ·rename_i e2 hp;cases h;exact ⟨v,by unfold fQ;rw [hv],hp⟩
   ·cases h
  ·rename_i S2 hv
   split at h
   ·rename_i e2 hp;cases h;exact ⟨.tup [],by unfold fQ;rw [hv],hp⟩
   ·cases h
  ·rename_i f args hv
   split at h
   ·cases h
   ·rename_i v S2 hcall
    split at h
    ·rename_i e2 hp;cases h;exact ⟨v,by unfold fQ;rw [hv];exact hcall,hp⟩
    ·cases h
theorem zU {P:Program} {call:Call} (hc:CallOK P call) {ops:Array Oper} {i:Nat} {o:Oper} (ho:ops[i]?=some o) {ρ:Operand→Option V} {fr:Option Nat} {S S1:St} {v:V}
  (h:fQ P call ρ o fr S=.ok (v,S1)) {F:Nat→Option Obj} {G:Gh} {nx:Nat} {hp:Nat→Option Blk} {W:World} (R:RelH F G nx hp W.heap) (hn:S.next=nx)
  (hsub:∀ a b,S.heap.get a=some b→hp a=some b) (hfr:∀ k,fr=some k→k<nx∧G.loc k=none∧G.ml k=none) {a:Act} (hw:Region.wanted o (yielded ops a.tmps)=true)
  (hρ:∀ x v,ρ x=some v→VR G v (a.eval x)) {Q:Exit→Act→World→Prop} {K:Act→World→Prop}
  (hK:∀ G2 W2 w,G.le G2→RelH F G2 S1.next (fY hp S S1) W2.heap→Same W W2→nx≤S1.next→
   (∀ k,hp k=none→k<nx→fr≠some k→(G2.loc k=G.loc k∧G2.ml k=G.ml k)∧fY hp S S1 k=none)→(∀ i o,G2.pr i=some o→G.pr i=some o∨F i=none)→VR G2 v w→K (a.put o.dst w) W2):
  wpOp P ops Q i K a W:=by
 have none_of:∀ k,G.loc k=none→G.ml k=none→hp k=none:=by
  intro k h1 h2
  cases hk:hp k with
  | none=>rfl
  | some b=>
   obtain ⟨j,hj⟩:=(R.blk k b hk).next
   rcases hj with ⟨L,hL,_⟩ | hj
   ·rw [h1] at hL;cases hL
   ·rw [h2] at hj;cases hj
 have hfrn:∀ k,fr=some k→hp k=none:=fun k hk=>none_of k (hfr k hk).2.1 (hfr k hk).2.2
 have hf:kP fr G S:=fun k hk=>⟨by rw [hn];exact (hfr k hk).1,(hfr k hk).2⟩
 have R':cO (eD F G hp S W.heap) G S W.heap:=by
  have:=R.frame hsub
  rw [←hn] at this
  exact this
 have fin:∀ G2 W2 w,Sim (eD F G hp S W.heap) fr G S W G2 S1 W2→VR G2 v w→K (a.put o.dst w) W2:=by
  intro G2 W2 w hs hv
  refine hK G2 W2 w hs.le (R.unframe hn hfrn hs) hs.same (by rw [←hn];exact hs.next) (fun k h1 h2 h3=>?_) (fun i o ho=>(hs.prn i o ho).imp id (R.framed_none i)) hv
  have hk0:S.heap.get k=none:=by
   cases hk:S.heap.get k with
   | none=>rfl
   | some b=>rw [hsub k b hk] at h1;cases h1
  refine ⟨hs.keep k hk0 (by rw [hn];exact h2) h3,?_⟩
  unfold fY
  rw [if_neg (by rintro ⟨_,b,hb⟩;rw [h1] at hb;cases hb)]
  exact hs.dead k hk0 (by rw [hn];exact h2) h3
 unfold wpOp
 simp only [ho,hw,if_true]
 refine .inl ?_
 unfold Oper.wp
 unfold fQ at h
 split at h
 ·cases h
 ·rename_i v' S' hv
  cases h
  obtain ⟨W',G',w,w1,w2,w3⟩:=fK hv R' hf hρ
  rw [w1,Oper.upon_value]
  exact fin G' W' w w2 w3
 ·rename_i S' hv
  cases h
  obtain ⟨W',G',w1,w2⟩:=fK hv R' hf hρ
  rw [w1,Oper.upon_skip]
  exact fin G' W' undef w2 (nI G')
 ·rename_i f args hv
  obtain ⟨cs,w1,w2⟩:=fK hv R' hf hρ
  rw [w2,hc.enters h,Oper.upon_enter]
  refine (hc.calls h R' w1).mono ?_
  rintro e W' ⟨G',w,rfl,q1,q2⟩
  exact fin G' W' w q1.weaken q2
theorem xX {P:Program} {ops:Array Oper} {i:Nat} {o:Oper} (ho:ops[i]?=some o) {K:Act→World→Prop} {a:Act} {w:World} (h:wpOp P ops (fun _ _ _=>False) i K a w):
  ∃ a' w',K a' w':=by
 unfold wpOp at h
 simp only [ho] at h
 split at h
 ·rcases h with h | ⟨_,_,_,h⟩
  ·unfold Oper.wp at h
   generalize (execOp a.eval o).run P w=r at h
   cases r with
   | ok n w'=>
    cases n<;>simp only [Oper.upon] at h<;>try exact h.elim
    case value u=>exact ⟨_,_,h⟩
    case skip=>exact ⟨_,_,h⟩
    case defer d=>exact ⟨_,_,h⟩
    case enter f args=>
     obtain ⟨e,w2,fr,h1,_⟩:=h []
     cases e with
     | returned u=>exact ⟨_,_,h1⟩
     | panicked c=>exact h1.elim
     | outgrown=>obtain ⟨_,_,h⟩:=h1;exact h.elim
    case row row args=>
     obtain ⟨u,w2,h1,_⟩:=h default []
     exact ⟨_,_,h1⟩
   | halt x w'=>cases x<;>simp only [Oper.upon] at h<;>exact h.elim
  ·exact h.elim
 ·exact ⟨_,_,h⟩
theorem xY {P:Program} {call:Call} (hc:CallOK P call) {n:Nat} {ops:Array Oper} {i:Nat} {o:Oper} (ho:ops[i]?=some o) {fr:Option Nat} {e e':aJ} {S S':St}
  (h:cM P call n ops o fr e S=.ok (e',S')) {F:Nat→Option Obj} {G:Gh} {W:World} (R:cO F G S W.heap) (hf:kP fr G S) {tmps:Array Value} (he:EnvR G n e tmps) (hn:n<fZ):
  ∃ G' W' tmps',Sim F fr G S W G' S' W'∧EnvR G' n e' tmps':=by
 obtain ⟨a',W',G',h1,h2⟩:=xX (P:=P) ho (rV hc ho h R hf (a:=⟨tmps,[]⟩) he hn (Q:=fun _ _ _=>False)
  (K:=fun a' W'=>∃ G',Sim F fr G S W G' S' W'∧EnvR G' n e' a'.tmps) (fun G' W' a' q1 q2 _=>⟨G',q1,q2⟩))
 exact ⟨G',W',a'.tmps,h1,h2⟩
end Go.AM
end
