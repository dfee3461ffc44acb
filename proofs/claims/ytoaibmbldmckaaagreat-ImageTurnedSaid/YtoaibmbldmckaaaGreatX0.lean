import Derived.Laws.Externs
import Derived.WalkKit
set_option linter.unusedSimpArgs false
set_option linter.unusedVariables false
set_option linter.unusedSectionVars false
set_option maxRecDepth 100000
open _root_ renaming List→On,if_false→Ou,Option→Ow,if_true→Oy,if_neg→Oz,if_pos→OE,UInt8→OP,Array→Pa,Bool→Ps,decide_eq_true_eq→PB,cond_true→PW,ByteArray→RF
open List renaming getElem?_eq_some_iff→Oq,mem_of_getElem?→OM,length_cons→OQ,mem_cons_of_mem→OY,getElem?_append_right→Pe,length_nil→Pf,getElem?_append_left→Pr,mem_cons→Pu,mem_map→Pv,mem_iff_getElem?→PA,all_eq_true→PD,mem_or_eq_of_mem_set→PN,getElem?_drop→PP,replicate→PT,map_cons→Qd,mem_append→Qf,getElem?_set→Qi,getElem?_take→Qp,mem_of_mem_drop→QM,mem_of_mem_take→QP,eq_nil_of_length_eq_zero→QU,range→RC,eq_of_mem_replicate→RG,size_toArray→RO,flatten_append→SC,getElem?_cons_succ→SD,flatten_cons→To,mem_flatten→TS,extract_eq_take_drop→Wp,foldl_cons→Wv
open Option renaming some→Ot,none→OG,bind_some→VD,isSome_iff_exists→Wk
open Nat renaming le_refl→Ov,mul_le_mul_right→Po,beq→Pw,zero_add→Px,add_mul→Qn,eq_of_beq_eq_true→Qv,le_trans→QC,beq_eq→QE,blt→QI,add_zero→QT,lt_or_ge→Q',ble→Ru,ble_eq→RA,lt_of_lt_of_le→RE,eq_zero_or_pos→RW,succ_mul→Sf,blt_eq→Sx,add_assoc→SO,lt_trans→Ut,sub_zero→UK,div_add_mod→UN,mul_comm→Vq,mod_lt→Wq,zero_mul→WW
open Bool renaming false→OA,true→OB,false_eq_true→OO,and_eq_true→OU,or_eq_true→Ra,not_eq_false'→Vf,not_eq_true→Vv
open Go renaming TypeId→OH,Program→OI,run_underlying→OW,Value→O',Operand→Pj,World→PE,FuncId→PU,IntKind→Qa,Oper→Qh,grownCap→QS,zeroValue→RZ,MapEntry→Sb,execOp→SK,typeInfo→SX,run_loadCells_list→TZ,BinOp→Ux,run_convert_bytes_string→UJ,callFunc→UZ,storeCells→VN,asIntOf→Wb,Addr→Wi,eqGuard→WQ,getObj→WZ,madeCells→Xq,goInt→Xx,newRow→XC,setObj→XD,TypeDesc→XQ
open BitVec renaming ofInt→OX
open Go.Result renaming andThen_ok→Pb,ok→Vw
open Go.Sem renaming run_bind→Pk,run_pure→Qs,run→Ug
open Array renaming getElem?_eq_some_iff→PF,getElem?_eq_getElem→Qu,getElem?_append_left→RY,getElem?_setIfInBounds_ne→Sj,getElem?_push→TR,ext'→Uf,getElem?_modify→UI,range→WX,toList_modify→Xd,ext_getElem?→Xj,size_append→Xr,toList_push→Xw
open Decidable renaming not_not→PM
open Go.Builtin renaming zeroCells→P',firstCells→QJ,append_→Sa,clear_→Ss,len_→SA,lenOf→SE,copy_→SU,nextslicecap→WG
open Option.some renaming inj→Qz
open UInt8 renaming ofNat→QK,lt_iff_toNat_lt→WP,toNat_inj→XL
open Go.Extern.MathBitsCarry renaming m64→QN,pair→UL,three→Xv
open Go.Utf8 renaming decode→QZ
open Ne renaming symm→SJ
open Go.Instr renaming sliceAt→SY,sliceBounds→Ti,typeAssert→TB,indexAt→TG,findNow→TH,sureAddr→Ue,next→Uh,slice→UR,fieldAt→UY,keyThatStays→Vc,loadAt→Vh,buildSlice→Vr,sliceBound→Vs,build→Vu,index→Vx,mapUpdate→VO,fill→V',checkKey→Wd,lookup→WH,field→WY,makeSlice→XK,storeAt→Ya,makeMap→Yb,sameNow→Yc,findKey→Yd,alloc→YA,range→YC
open Go.Act renaming put→Uu
open Go.Call renaming operands→Uv
open Go.Value renaming int→Uy,slice→Xs,cells→Yy
open Go.Op renaming equalIn→UO,bytesLess→Vy,stringOp→Wc,eqFields→Xu,equal→YB
open Go.Region renaming wanted→Vd
open Go.Question renaming forced→Vj
open Go.Program renaming cellsOf→Vp
open ByteArray renaming mk→Wa,copySlice→Ww,extract→WO,get!→Xk,ext→Xt
open Go.Made renaming depth→Wl
open Go.Next renaming value→Wm
open Go.Extern renaming findNext→XE,find→Yq
open Go.Oper renaming upon_value→XR,upon_enter→XS,upon_skip→Ye,wp→Yr
open Go.World renaming setCell→XY,cell?→Yz
open Go.IntKind renaming i64→J,u64→ξ,u8→ω
section
namespace Go.AM
inductive V where
 | bool (b:Ps)
 | int (k:Qa) (n:Int)
 | str (s:On OP)
 | nilp
 | ptr (a ver i j:Nat)
 | iptr (cs:On V) (j:Nat)
 | nils
 | sl (a ver es off len:Nat)
 | imm (es:On (On V))
 | agg (cs:On V)
 | tup (vs:On V)
 | nili
 | iface (t:OH) (v:V)
 | nilf
 | func (f:PU) (first captured:On V)
 | nilm
 | mp (a:Nat)
 | res (m r:Nat)
def V.cells:V->On V
 | .agg cs=>cs
 | v=>[v]
def V.one:V->Ps
 | .agg _ | .tup _=>OA
 | _=>OB
def sC:O'->Ow V
 | .bool b=>Ot (.bool b)
 | .int k n=>Ot (.int k n)
 | .string s=>Ot (.str s.data.toList)
 | .pointer OG=>Ot .nilp
 | .slice OG 0 0=>Ot .nils
 | .nilIface=>Ot .nili
 | .nilFunc=>Ot .nilf
 | .map OG=>Ot .nilm
 | _=>OG
def nQ:On O'->Ow (On V)
 | []=>Ot []
 | v::r=>match sC v with
  | some x=>match nQ r with
   | some xs=>Ot (x::xs)
   | none=>OG
  | none=>OG
def ofValue:O'->Ow V
 | .agg cs=>match nQ cs.toList with
  | some xs=>Ot (.agg xs)
  | none=>OG
 | v=>sC v
inductive Tr (α:Type) where
 | nil
 | node (l:Tr α) (v:Ow α) (r:Tr α)
def Tr.get{α:Type}:Tr α->Nat->Ow α
 | .nil,_=>OG
 | .node l v r,n=>bif Pw n 0 then v else bif Pw (n % 2) 1 then l.get (n / 2) else r.get (n / 2 - 1)
def Tr.set{α:Type}:Nat->Tr α->Nat->α->Tr α
 | 0,t,_,_=>t
 | f+1,.nil,n,x=>bif Pw n 0 then .node .nil (Ot x) .nil else bif Pw (n % 2) 1 then .node (Tr.set f .nil (n / 2) x) OG .nil else .node .nil OG (Tr.set f .nil (n / 2 - 1) x)
 | f+1,.node l v r,n,x=>bif Pw n 0 then .node l (Ot x) r else bif Pw (n % 2) 1 then .node (Tr.set f l (n / 2) x) v r else .node l v (Tr.set f r (n / 2 - 1) x)
def eG:Nat:=2147483648
def Tr.put{α:Type}(t:Tr α)(n:Nat)(x:α):Tr α:=Tr.set (n+1) t n x
def tE(n:Nat):Nat:=n+1
inductive Blk where
 | row (ver es:Nat) (elems:On (On V))
 | mp (kvs:On (V×V))
 | iter (s:On OP) (pos:Nat)
structure St where
 next:Nat
 heap:Tr Blk
abbrev bD:=Tr V
abbrev R(α:Type):=Except String α
def sz(P:OI)(t:OH):Nat:=P.cellsOf t
def aVa:XQ->Ps
 | .struct _ | .array _ _=>OB
 | _=>OA
def aQ(P:OI)(t:OH):Ow V:=
 match (P.info? t).bind (·.zero) with
 | some v=>ofValue v
 | none=>OG
def lo:Qa->Int
 | .i8=>-128 | .i16=>-32768 | .i32=>-2147483648 | J=>-9223372036854775808
 | _=>0
def hi:Qa->Int
 | .i8=>127 | .i16=>32767 | .i32=>2147483647 | J=>9223372036854775807
 | ω=>255 | .u16=>65535 | .u32=>4294967295 | ξ=>18446744073709551615
def wr(k:Qa)(n:Int):Int:=if lo k<=n/\n<=hi k then n else k.wrap n
def tF:On OP->On OP->Ps
 | [],[]=>OB
 | a::x,b::y=>bif Pw a.toNat b.toNat then tF x y else OA
 | _,_=>OA
def iL:On OP->On OP->Ps
 | _,[]=>OA
 | [],_::_=>OB
 | a::x,b::y=>bif QI a.toNat b.toNat then OB else bif Pw a.toNat b.toNat then iL x y else OA
def mS(j k:Qa):Bool:=
 match j,k with
 | .i8,.i8 | .i16,.i16 | .i32,.i32 | J,J | ω,ω | .u16,.u16 | .u32,.u32 | ξ,ξ=>OB
 | _,_=>OA
def lJ(op:Ux)(k:Qa)(a b:Int):R V:=
 match op with
 | .add=>.ok (.int k (wr k (a+b)))
 | .sub=>.ok (.int k (wr k (a - b)))
 | .mul=>.ok (.int k (wr k (a*b)))
 | .quo=>bif decide (b=0) then .error "division by zero" else .ok (.int k (wr k (a.tdiv b)))
 | .rem=>bif decide (b=0) then .error "division by zero" else .ok (.int k (a.tmod b))
 | .and=>.ok (.int k (wr k ((OX k.bits a &&& OX k.bits b).toNat)))
 | .or=>.ok (.int k (wr k ((OX k.bits a ||| OX k.bits b).toNat)))
 | .xor=>.ok (.int k (wr k ((OX k.bits a ^^^ OX k.bits b).toNat)))
 | .andNot=>.ok (.int k (wr k ((OX k.bits a &&& ~~~(OX k.bits b)).toNat)))
 | .eql=>.ok (.bool (decide (a=b)))
 | .neq=>.ok (.bool (!decide (a=b)))
 | .lss=>.ok (.bool (decide (a<b)))
 | .leq=>.ok (.bool (decide (a<=b)))
 | .gtr=>.ok (.bool (decide (b<a)))
 | .geq=>.ok (.bool (decide (b<=a)))
 | _=>.error "binOp on ints"
def aA6(op:Ux)(k:Qa)(a b:Int):R V:=
 bif decide (b<0) then .error "negative shift" else
 match op with
 | .shl=>.ok (.int k (wr k (a*2 ^ (min b.toNat k.bits))))
 | .shr=>.ok (.int k (a.fdiv (2 ^ (min b.toNat k.bits))))
 | _=>.error "shift"
def aCe(op:Ux)(a b:On OP):R V:=
 match op with
 | .add=>bif QI (a.length+b.length) eG then .ok (.str (a++b)) else .error "a text too long"
 | .eql=>.ok (.bool (tF a b))
 | .neq=>.ok (.bool (!tF a b))
 | .lss=>.ok (.bool (iL a b))
 | .leq=>.ok (.bool (iL a b||tF a b))
 | .gtr=>.ok (.bool (!(iL a b||tF a b)))
 | .geq=>.ok (.bool (!iL a b))
 | _=>.error "binOp on texts"
def uM(P:OI)(t:OH)(cs:On V)(off:Nat):R V:=
 match P.underlying t with
 | none=>.error "part: no such type"
 | some d=>
  bif aVa d then(bif Ru (off+sz P t) cs.length then .ok (.agg ((cs.drop off).take (sz P t))) else .error "part") else
  match cs[off]? with
  | some v=>.ok v
  | none=>.error "part"
def vC(P:OI):Nat->OH->V->V->R Ps
 | 0,_,_,_=>.error "== too deep"
 | d+1,t,x,y=>
  match P.underlying t with
  | some (.int _)=>(match x,y with
   | .int j a,.int k b=>bif mS j k then .ok (decide (a=b)) else .error "== kinds"
   | _,_=>.error "==")
  | some .bool=>(match x,y with
   | .bool a,.bool b=>.ok (a == b)
   | _,_=>.error "==")
  | some .string=>(match x,y with
   | .str a,.str b=>.ok (tF a b)
   | _,_=>.error "==")
  | some (.pointer _)=>(match x,y with
   | .nilp,.nilp=>.ok OB
   | .nilp,.ptr ..=>.ok OA
   | .nilp,.iptr ..=>.ok OA
   | .ptr ..,.nilp=>.ok OA
   | .iptr ..,.nilp=>.ok OA
   | _,_=>.error "== of pointers")
  | some (.slice _)=>(match x,y with
   | .nils,.nils=>.ok OB
   | .nils,.sl ..=>.ok OA
   | .sl ..,.nils=>.ok OA
   | _,_=>.error "== of slices")
  | some (.interface _)=>(match x,y with
   | .nili,.nili=>.ok OB
   | .nili,.iface ..=>.ok OA
   | .iface ..,.nili=>.ok OA
   | _,_=>.error "== of interfaces")
  | some (.struct fs)=>(match x,y with
   | .agg xs,.agg ys=>bif P.stoodInHeld t then .error "== stoodIn" else eqFs (vC P d) xs ys fs.toList
   | _,_=>.error "==")
  | _=>.error "== of what"
where
 eqFs (eq:OH->V->V->R Ps) (xs ys:On V):On Field->R Ps
  | []=>.ok OB
  | f::fs=>
   bif f.name == "_" then .error "a blank field" else
   match uM P f.type xs f.offset with
   | .error e=>.error e
   | .ok a=>match uM P f.type ys f.offset with
    | .error e=>.error e
    | .ok b=>match eq f.type a b with
     | .error e=>.error e
     | .ok r=>bif r then eqFs eq xs ys fs else .ok OA
def wV:Nat:=4294967296
def aDn(m:Nat):IntKind:=bif Pw (m % 2) 0 then J else ω
def bJ6(m:Nat):Nat:=(m - wV) / 2
def aEd(r:Nat):Int:=((r / wV:Nat):Int)
def aEe(r:Nat):Int:=((r % wV:Nat):Int)
def aJg(op:Ux)(m r:Nat)(k:Qa)(b:Int):R V:=
 bif Ru wV m&&mS (aDn m) k then
  (match op with
  | .eql=>bif decide (b<aEd r)||decide (aEe r<b) then .ok (.bool OA) else .error "token"
  | .neq=>bif decide (b<aEd r)||decide (aEe r<b) then .ok (.bool OB) else .error "token"
  | .lss=>bif decide (aEe r<b) then .ok (.bool OB) else bif decide (b<=aEd r) then .ok (.bool OA) else .error "token"
  | .leq=>bif decide (aEe r<=b) then .ok (.bool OB) else bif decide (b<aEd r) then .ok (.bool OA) else .error "token"
  | .gtr=>bif decide (b<aEd r) then .ok (.bool OB) else bif decide (aEe r<=b) then .ok (.bool OA) else .error "token"
  | .geq=>bif decide (b<=aEd r) then .ok (.bool OB) else bif decide (aEe r<b) then .ok (.bool OA) else .error "token"
  | _=>.error "token") else .error "res"
def vD:Ux->Ux
 | .lss=>.gtr
 | .leq=>.geq
 | .gtr=>.lss
 | .geq=>.leq
 | .eql=>.eql
 | .neq=>.neq
 | _=>.add
def cC(P:OI)(op:Ux)(t:OH)(x y:V):R V:=
 match x,y with
 | .int j a,.int k b=>match op with
  | .shl | .shr=>aA6 op j a b
  | _=>bif mS j k then lJ op j a b else .error "kinds"
 | .str a,.str b=>aCe op a b
 | .res m r,y=>(match y with
  | .int k b=>aJg op m r k b
  | _=>.error "res")
 | x,.res m r=>(match x with
  | .int k a=>aJg (vD op) m r k a
  | _=>.error "res")
 | _,_=>match op with
  | .eql=>(match vC P 100 t x y with
   | .ok r=>.ok (.bool r)
   | .error e=>.error e)
  | .neq=>(match vC P 100 t x y with
   | .ok r=>.ok (.bool (!r))
   | .error e=>.error e)
  | _=>.error "binOp"
def cF(P:OI)(t:OH)(x y:V):Bool:=
 match x,y with
 | .nili,.nili=>OA
 | .agg _,.agg _=>!P.eqGuardType P.depth t
 | _,_=>OB
def aVb(P:OI)(op:Ux)(t:OH)(x y:V):Bool:=
 match op with
 | .eql | .neq=>cF P t x y
 | _=>OB
def isC:Pj->Ps
 | .const _=>OB
 | _=>OA
def aSz(x y:Pj)(a b:V):Bool:=
 match b with
 | .nili=>(match a with
  | .nili=>isC x||isC y
  | _=>OA)
 | _=>OA
def bHm(P:OI)(t:OH):Bool:=match P.underlying t with
 | some (.interface _)=>OB
 | _=>OA
def jF(P:OI)(t:OH)(x y:Pj)(a b:V):Bool:=match bHm P t with
 | true=>cF P t a b||aSz x y a b
 | false=>cF P t a b
def aNt(P:OI)(op:Ux)(t:OH)(x y:Pj)(a b:V):Bool:=
 match op with
 | .eql | .neq=>jF P t x y a b
 | _=>OB
def bR(fr:Ow Nat)(S:St)(b:Blk):R (Nat×St):=
 match fr with
 | none=>bif QI S.next (tE S.next) then .ok (S.next,⟨S.next+1,S.heap.put S.next b⟩) else .error "full"
 | some k=>bif QI k (tE k) then .ok (k,⟨S.next,S.heap.put k b⟩) else .error "full"
def aC(S:St)(a ver:Nat):R (Nat×On (On V)):=
 match S.heap.get a with
 | some (.row v es elems)=>bif Pw v ver then .ok (es,elems) else .error "a stale view"
 | _=>.error "no such row"
def aH(l:On V):Bool:=l.all V.one
def splice(cs:On V)(j:Nat)(xs:On V):On V:=cs.take j++(xs++cs.drop (j+xs.length))
def oG(P:OI)(t:OH)(p:V)(S:St):R V:=
 match p with
 | .ptr a ver i j=>(match aC S a ver with
  | .error e=>.error e
  | .ok (_,elems)=>match elems[i]? with
   | some cs=>uM P t cs j
   | none=>.error "load")
 | .iptr cs j=>uM P t cs j
 | _=>.error "load: a pointer expected"
def rN(P:OI)(t:OH)(p x:V)(S:St):R St:=
 match p,P.underlying t with
 | .ptr a ver i j,Ot _=>(match aC S a ver with
  | .error e=>.error e
  | .ok (es,elems)=>match elems[i]? with
   | some cs=>bif Pw x.cells.length (sz P t)&&aH x.cells&&Ru (j+x.cells.length) cs.length then
     .ok ⟨S.next,S.heap.put a (.row ver es (elems.set i (splice cs j x.cells)))⟩ else .error "store: the size"
   | none=>.error "store")
 | _,_=>.error "store: a pointer expected"
def aA7(P:OI)(s:OH)(f:Nat):Ow Field:=
 match P.underlying s with
 | some (.struct fs)=>fs[f]?
 | _=>OG
def eQ(P:OI)(s:OH)(p:V)(f:Nat):R V:=
 match aA7 P s f with
 | none=>.error "no such field"
 | some fd=>bif Pw (sz P fd.type) 0 then .error "a field of no size" else
  match p with
  | .ptr a ver i j=>.ok (.ptr a ver i (j+fd.offset))
  | .iptr cs j=>.ok (.iptr cs (j+fd.offset))
  | _=>.error "fieldAddr"
def pG(x:V)(n:Nat):Ow Nat:=
 match x with
 | .int _ i=>bif decide (0<=i)&&decide (i<n) then Ot i.toNat else OG
 | _=>OG
def dT(P:OI)(t:OH)(x ix:V):R V:=
 match P.underlying t with
 | some (.array n elem)=>bif !(P.underlying elem).isSome then .error "indexAddr" else(match pG ix n with
  | none=>.error "index"
  | some k=>match x with
   | .ptr a ver i j=>.ok (.ptr a ver i (j+k*sz P elem))
   | .iptr cs j=>.ok (.iptr cs (j+k*sz P elem))
   | _=>.error "indexAddr")
 | some (.slice elem)=>bif !(P.underlying elem).isSome then .error "indexAddr" else(match x with
  | .sl a ver es off len=>(match pG ix len with
   | some k=>bif Pw es (sz P elem) then .ok (.ptr a ver (off+k) 0) else .error "indexAddr: the size"
   | none=>.error "index out of range")
  | .imm es=>(match pG ix es.length with
   | some k=>match es[k]? with
    | some cs=>bif Pw cs.length (sz P elem) then .ok (.iptr cs 0) else .error "indexAddr: the size"
    | none=>.error "index"
   | none=>.error "index out of range")
  | _=>.error "indexAddr")
 | _=>.error "indexAddr"
def aEf(P:OI)(t:OH)(x ix:V):R V:=
 match P.underlying t with
 | some (.array n elem)=>bif !(P.underlying elem).isSome then .error "index" else(match x with
  | .agg cs=>(match pG ix n with
   | some k=>uM P elem cs (k*sz P elem)
   | none=>.error "index out of range")
  | _=>.error "index")
 | some .string=>(match x with
  | .str s=>(match pG ix s.length with
   | some k=>match s[k]? with
    | some b=>.ok (.int ω b.toNat)
    | none=>.error "index"
   | none=>.error "index out of range")
  | _=>.error "index")
 | _=>.error "index"
def aEg(P:OI)(t:OH)(x:V)(f:Nat):R V:=
 match aA7 P t f with
 | none=>.error "no such field"
 | some fd=>match x with
  | .agg cs=>uM P fd.type cs fd.offset
  | _=>.error "field"
def kG(n:Nat)(l:On (On V)):Bool:=l.all λcs=>Pw cs.length n
def eR(len:Nat)(lo hi:Ow V):R (Nat×Nat):=
 match (match hi with
  | none=>Ot len
  | some (.int _ h)=>bif decide (0<=h)&&decide (h<=len) then Ot h.toNat else OG
  | _=>OG) with
 | none=>.error "slice bounds"
 | some h=>match lo with
  | none=>.ok (0,h)
  | some (.int _ l)=>bif decide (0<=l)&&decide (l<=h) then .ok (l.toNat,h) else .error "slice bounds"
  | _=>.error "slice bounds"
def iZ(P:OI)(t:OH)(x:V)(lo hi:Ow V):R V:=
 match P.underlying t with
 | some .string=>(match x with
  | .str s=>(match eR s.length lo hi with
   | .ok (l,h)=>.ok (.str ((s.take h).drop l))
   | .error e=>.error e)
  | _=>.error "slice")
 | some (.slice elem)=>bif !(P.underlying elem).isSome then .error "slice" else(match x with
  | .sl a ver es off len=>(match eR len lo hi with
   | .ok (l,h)=>bif Pw es (sz P elem) then .ok (.sl a ver es (off+l) (h - l)) else .error "slice: the size"
   | .error e=>.error e)
  | .imm es=>(match eR es.length lo hi with
   | .ok (l,h)=>bif kG (sz P elem) es then .ok (.imm ((es.take h).drop l)) else .error "slice: the size"
   | .error e=>.error e)
  | .nils=>(match eR 0 lo hi with
   | .ok _=>.ok .nils
   | .error e=>.error e)
  | _=>.error "slice")
 | _=>.error "slice"
def aK(S:St)(x:V):R (On (On V)):=
 match x with
 | .nils=>.ok []
 | .sl a ver _ off len=>(match aC S a ver with
  | .error e=>.error e
  | .ok (_,elems)=>bif Ru (off+len) elems.length then .ok ((elems.drop off).take len) else .error "a view too long")
 | .imm es=>.ok es
 | .str s=>.ok (s.map λb=>[.int ω b.toNat])
 | _=>.error "elements"
def room(P:OI)(elem:OH)(n:Nat):Bool:=Ru (n*P.bytesOf elem) 35184372088832&&QI n eG
def lD(P:OI)(t:OH):Ow TypeId:=
 match P.underlying t with
 | some (.slice e)=>Ot e
 | _=>OG
def nF(P:OI)(e:OH):Bool:=
 match aQ P e with
 | some z=>Pw z.cells.length (sz P e)
 | none=>OA
def iP(P:OI)(t:OH)(s x:V)(fr:Ow Nat)(S:St):R (V×St):=
 match lD P t with
 | none=>.error "append"
 | some e=>match aK S x with
  | .error e=>.error e
  | .ok xs=>bif !(kG (sz P e) xs&&xs.all aH&&nF P e) then .error "append: sizes" else
   match s with
   | .nils=>(match xs with
    | []=>.ok (.nils,S)
    | _=>bif room P e xs.length then(match bR fr S (.row 0 (sz P e) xs) with
     | .error e=>.error e
     | .ok (a,S')=>.ok (.sl a 0 (sz P e) 0 xs.length,S')) else .error "append: room")
   | .sl a ver _ off len=>(match aC S a ver with
    | .error e=>.error e
    | .ok (es,elems)=>
     bif Ru (off+len) elems.length&&Pw es (sz P e)&&room P e (len+xs.length) then
      .ok (.sl a (ver+1) es 0 (len+xs.length),⟨S.next,S.heap.put a (.row (ver+1) es ((elems.drop off).take len++xs))⟩)
     else .error "append: room")
   | _=>.error "append"
def jR(P:OI)(T:OH)(s i x:V)(S:St):R (V×St):=
 match lD P T,i,x with
 | some e,.int J i,.sl b bv bes boff blen=>(match aK S x with
  | .error w=>.error w
  | .ok xs=>bif Ru (sz P e) 1||Pw blen 0 then .error "insert" else
   match s with
   | .nils=>bif decide (i=0) then iP P T .nils (.sl b bv bes boff blen) OG S else .error "insert"
   | .sl a ver sx off len=>bif decide (i=(len:Int)) then iP P T (.sl a ver sx off len) (.sl b bv bes boff blen) OG S else
    bif Pw a b||decide (i<0)||decide ((len:Int)<i)||!(kG (sz P e) xs&&xs.all aH&&nF P e) then .error "insert" else
    (match aC S a ver with
    | .error w=>.error w
    | .ok (es,elems)=>
     bif Ru (off+len) elems.length&&Pw es (sz P e)&&room P e (len+xs.length)&&((elems.drop off).take len).all aH then
      .ok (.sl a (ver+1) es 0 (len+xs.length),⟨S.next,S.heap.put a (.row (ver+1) es (((elems.drop off).take len).take i.toNat++(xs++((elems.drop off).take len).drop i.toNat)))⟩)
     else .error "insert: room")
   | _=>.error "insert")
 | _,_,_=>.error "insert"
def mT(l:On (On V))(a:Nat)(mid:On (On V)):On (On V):=l.take a++(mid++l.drop (a+mid.length))
def wW(P:OI)(e:OH):Ow (On V):=
 match aQ P e with
 | some z=>bif Pw z.cells.length (sz P e)&&aH z.cells then Ot z.cells else OG
 | none=>OG
def aEh(P:OI)(T:OH)(x:V)(S:St):R (V×St):=
 match lD P T,x with
 | some _,.nils=>.ok (.tup [],S)
 | some e,.sl a ver _ off len=>bif Pw len 0 then .ok (.tup [],S) else
  (match wW P e,aC S a ver with
  | some z,.ok (es,elems)=>bif Pw es (sz P e)&&Ru (off+len) elems.length then
    .ok (.tup [],⟨S.next,S.heap.put a (.row ver es (mT elems off (PT len z)))⟩) else .error "clear"
  | _,_=>.error "clear")
 | _,_=>.error "clear"
def aLa(P:OI)(T:OH)(d x:V)(S:St):R (V×St):=
 match lD P T,d with
 | some e,.sl a ver _ off len=>(match aK S x,aC S a ver with
  | .ok xs,.ok (es,elems)=>bif Pw es (sz P e)&&Ru (off+len) elems.length&&Ru xs.length len&&kG (sz P e) xs&&xs.all aH&&QI 0 len&&QI 0 (sz P e) then
    .ok (.int J xs.length,⟨S.next,S.heap.put a (.row ver es (mT elems off xs))⟩) else .error "copy"
  | _,_=>.error "copy")
 | _,_=>.error "copy"
def tG(P:OI)(T:OH)(s i j:V)(S:St):R (V×St):=
 match lD P T,s,i,j with
 | some e,.sl a ver sx off len,.int J i,.int J j=>
  bif decide (i<0)||decide (j<i)||decide ((len:Int)<j)||!(QI len eG)||Pw len 0 then .error "delete" else
  bif decide (i=j) then(match aC S a ver with
   | .ok _=>.ok (.sl a ver sx off len,S)
   | .error w=>.error w) else
  (match wW P e,aC S a ver with
  | some z,.ok (es,elems)=>bif Pw es (sz P e)&&Ru (off+len) elems.length&&((elems.drop off).take len).all aH then
    .ok (.sl a ver sx off (len - (j.toNat - i.toNat)),⟨S.next,S.heap.put a (.row ver es (mT elems (off+i.toNat) (((elems.drop off).take len).drop j.toNat++PT (j.toNat - i.toNat) z)))⟩) else .error "delete: the row"
  | _,_=>.error "delete")
 | _,_,_,_=>.error "delete"
def vE(place:Nat->Ow (Nat×Nat))(cells:On V):On (Nat×V)->R (On V)
 | []=>.ok cells
 | (i,v)::rest=>match place i with
  | none=>.error "fill"
  | some (off,size)=>bif Pw v.cells.length size&&Ru (off+v.cells.length) cells.length&&aH v.cells then vE place (splice cells off v.cells) rest else .error "fill"
def rO(P:OI)(t:OH)(parts:On (Nat×V)):R V:=
 match aQ P t with
 | none=>.error "build: no zero"
 | some z=>match P.underlying t with
  | some (.struct fs)=>bif !(fs.toList.all λf=>(P.underlying f.type).isSome) then .error "build: a field" else(match vE (λi=>(fs[i]?).map λf=>(f.offset,sz P f.type)) z.cells parts with
   | .ok cs=>.ok (.agg cs)
   | .error e=>.error e)
  | some (.array _ elem)=>bif !(P.underlying elem).isSome then .error "build: the element" else(match vE (λi=>Ot (i*sz P elem,sz P elem)) z.cells parts with
   | .ok cs=>.ok (.agg cs)
   | .error e=>.error e)
  | _=>.error "build"
def aA8(es:Nat)(elems:On (On V)):On (Nat×V)->R (On (On V))
 | []=>.ok elems
 | (i,v)::rest=>bif Pw v.cells.length es&&QI i elems.length&&aH v.cells then aA8 es (elems.set i v.cells) rest else .error "buildSlice"
def dO(P:OI)(t:OH)(len:Nat)(parts:On (Nat×V))(fr:Ow Nat)(S:St):R (V×St):=
 match lD P t with
 | none=>.error "buildSlice"
 | some e=>match aQ P e with
  | none=>.error "buildSlice: no zero"
  | some z=>bif Pw z.cells.length (sz P e)&&Ru (len*sz P e) 16777216 then
   (match aA8 (sz P e) (PT len z.cells) parts with
   | .error e=>.error e
   | .ok elems=>match bR fr S (.row 0 (sz P e) elems) with
    | .error e=>.error e
    | .ok (a,S')=>.ok (.sl a 0 (sz P e) 0 len,S')) else .error "buildSlice: the size"
def fD(P:OI)(t:OH)(l c:V)(fr:Ow Nat)(S:St):R (V×St):=
 match lD P t,l,c with
 | some e,.int _ l,.int _ c=>(match aQ P e with
  | none=>.error "makeSlice: no zero"
  | some z=>bif Pw z.cells.length (sz P e)&&decide (0<=l)&&decide (l<=c)&&decide (c<2147483648)&&room P e c.toNat then
   (match bR fr S (.row 0 (sz P e) (PT l.toNat z.cells)) with
   | .error e=>.error e
   | .ok (a,S')=>.ok (.sl a 0 (sz P e) 0 l.toNat,S')) else .error "makeSlice: the size")
 | _,_,_=>.error "makeSlice"
def eJ:On (On V)->Ow (On OP)
 | []=>Ot []
 | [.int ω n]::r=>match eJ r with
  | some l=>Ot (QK n.toNat::l)
  | none=>OG
 | _=>OG
def eK(P:OI)(src dst:OH)(x:V)(fr:Ow Nat)(S:St):R (V×St):=
 match P.underlying src,P.underlying dst with
 | some _,Ot (.int k)=>(match x with
  | .int _ n=>.ok (.int k (wr k n),S)
  | _=>.error "convert")
 | some u,Ot .string=>(match x with
  | .str s=>.ok (.str s,S)
  | _=>match u with
   | .slice e=>(match P.underlying e with
    | some (.int ω)=>(match x with
     | .nils | .sl .. | .imm _=>(match aK S x with
      | .error e=>.error e
      | .ok l=>match eJ l with
       | some b=>.ok (.str b,S)
       | none=>.error "convert: bytes")
     | _=>.error "convert")
    | _=>.error "convert")
   | _=>.error "convert")
 | some _,Ot (.slice e)=>(match P.underlying e,x with
  | some (.int ω),.str s=>bif QI s.length eG&&Pw (sz P e) 1 then
   (match bR fr S (.row 0 1 (s.map λb=>[.int ω b.toNat])) with
   | .error e=>.error e
   | .ok (a,S')=>.ok (.sl a 0 1 0 s.length,S')) else .error "convert"
  | _,_=>.error "convert")
 | _,_=>.error "convert"
def aBn(P:OI)(t:OH)(x:V)(S:St):R V:=
 match P.underlying t with
 | some .string=>(match x with
  | .str s=>.ok (.int J s.length)
  | _=>.error "len")
 | some (.array n _)=>.ok (.int J n)
 | some (.slice _)=>(match x with
  | .nils=>.ok (.int J 0)
  | .sl _ _ _ _ len=>.ok (.int J len)
  | .imm es=>.ok (.int J es.length)
  | _=>.error "len")
 | some (.map _ _)=>(match x with
  | .nilm=>.ok (.int J 0)
  | .mp a=>(match S.heap.get a with
   | some (.mp kvs)=>.ok (.int J kvs.length)
   | _=>.error "len")
  | _=>.error "len")
 | _=>.error "len"
def aHg(s:On OP):On (V×V)->Nat->Ow (Ow (Nat×V))
 | [],_=>Ot OG
 | (.str t,v)::l,i=>bif tF s t then Ot (Ot (i,v)) else aHg s l (i+1)
 | _::_,_=>OG
def bB1(P:OI)(t:OH):Ow TypeId:=
 match P.underlying t with
 | some (.map k e)=>(match P.underlying k with
  | some .string=>Ot e
  | _=>OG)
 | _=>OG
def aHh(S:St)(m:V):R (On (V×V)):=
 match m with
 | .nilm=>.ok []
 | .mp a=>(match S.heap.get a with
  | some (.mp kvs)=>.ok kvs
  | _=>.error "a map")
 | _=>.error "a map"
def okV(ok b:Ps)(v:V):V:=bif ok then .tup [v,.bool b] else v
def aA9(P:OI)(t:OH)(m k:V)(ok:Ps)(S:St):R V:=
 match bB1 P t,k with
 | some e,.str s=>(match aHh S m with
  | .error w=>.error w
  | .ok kvs=>match aHg s kvs 0 with
   | some (Ot (_,v))=>.ok (okV ok OB v)
   | some OG=>(match aQ P e with
    | some z=>.ok (okV ok OA z)
    | none=>.error "lookup: no zero")
   | none=>.error "lookup")
 | _,_=>.error "lookup"
def pH(P:OI)(t:OH)(m k v:V)(S:St):R St:=
 match bB1 P t,k,m with
 | some _,.str s,.mp a=>(match S.heap.get a with
  | some (.mp kvs)=>(match aHg s kvs 0 with
   | some (Ot (i,_))=>.ok ⟨S.next,S.heap.put a (.mp (kvs.set i (.str s,v)))⟩
   | some OG=>.ok ⟨S.next,S.heap.put a (.mp (kvs++[(.str s,v)]))⟩
   | none=>.error "mapUpdate")
  | _=>.error "mapUpdate")
 | _,_,_=>.error "mapUpdate"
def aVc:On V->R V
 | [.int j a,.int k b]=>bif mS j k then .ok (.int j (if b<a then b else a)) else .error "min"
 | _=>.error "min"
def aVd:On V->R V
 | [.int j a,.int k b]=>bif mS j k then .ok (.int j (if a<b then b else a)) else .error "max"
 | _=>.error "max"
def unV(op:UnOp)(x:V):R V:=
 match op,x with
 | .not,.bool b=>.ok (.bool !b)
 | .neg,.int k n=>.ok (.int k (wr k (0 - n)))
 | .xor,.int k n=>.ok (.int k (wr k ((OX k.bits (if k.signed then -1 else k.max) ^^^ OX k.bits n).toNat)))
 | _,_=>.error "unOp"
def aAa(P:OI)(x:V)(t:OH)(ok:Ps):R V:=
 let fails:R V:=bif ok then(match aQ P t with
  | some z=>.ok (.tup [z,.bool OA])
  | none=>.error "typeAssert") else .error "typeAssert"
 match P.underlying t with
 | none=>.error "typeAssert"
 | some (.interface _)=>.error "typeAssert to an interface"
 | some _=>match x with
  | .iface u v=>bif Pw u t then .ok (bif ok then .tup [v,.bool OB] else v) else fails
  | .nili=>fails
  | _=>.error "typeAssert"
def tH(fn:Func)(args:On V):R V:=
 bif fn.name == "math/bits.Add64"&&fn.origin == "" then(match args with
  | [.int _ a,.int _ b,.int _ c]=>bif decide (0<=a)&&decide (0<=b)&&decide (0<=c)&&decide (c<=1) then .ok (.tup [.int ξ ((a+b+c) % 18446744073709551616),.int ξ ((a+b+c) / 18446744073709551616)]) else .error "Add64"
  | _=>.error "Add64") else .error "a function without a text"
def aDo(P:OI)(t:OH)(name:String):Ow FuncId:=
 match P.info? t with
 | none=>OG
 | some i=>match i.methods.find? (·.name == name) with
  | none=>OG
  | some m=>match m.func,m.path.toList,P.underlying t with
   | some (g,OA),[],Ot (.struct _)=>Ot g
   | _,_,_=>OG
inductive Out where
 | val (v:V) (S:St)
 | skip (S:St)
 | call (f:PU) (args:On V)
def ev(e:bD):Pj->Ow V
 | .tmp t=>e.get t
 | .const v=>ofValue v
 | .func f=>Ot (.func f [] [])
 | .global _=>OG
def tD(ρ:Pj->Ow V):On Pj->Ow (On V)
 | []=>Ot []
 | x::r=>match ρ x with
  | some v=>match tD ρ r with
   | some vs=>Ot (v::vs)
   | none=>OG
  | none=>OG
def pI(ρ:Pj->Ow V):On (Nat×Pj)->Ow (On (Nat×V))
 | []=>Ot []
 | (i,x)::r=>match ρ x with
  | some v=>match pI ρ r with
   | some vs=>Ot ((i,v)::vs)
   | none=>OG
  | none=>OG
def evO(ρ:Pj->Ow V):Ow Pj->Ow (Ow V)
 | none=>Ot OG
 | some x=>match ρ x with
  | some v=>Ot (Ot v)
  | none=>OG
def dQ(S:St):R V->R Out
 | .ok v=>.ok (.val v S)
 | .error e=>.error e
def eT:R (V×St)->R Out
 | .ok (v,S)=>.ok (.val v S)
 | .error e=>.error e
def fE(P:OI)(b:Builtin)(ts:Pa OH)(args:On V)(fr:Ow Nat)(S:St):R Out:=
 match b,args with
 | .len,[x]=>(match ts[0]? with
  | some t=>dQ S (aBn P t x S)
  | none=>.error "len")
 | .min,args=>dQ S (aVc args)
 | .max,args=>dQ S (aVd args)
 | .append,[s,x]=>(match ts[0]?,ts[1]? with
  | some t,Ot u=>(match P.underlying u with
   | some (.slice _)=>eT (iP P t s x fr S)
   | some .string=>eT (iP P t s x fr S)
   | _=>.error "append")
  | _,_=>.error "append")
 | .clear,[x]=>(match ts[0]? with
  | some t=>eT (aEh P t x S)
  | none=>.error "clear")
 | .copy,[d,x]=>(match ts[0]? with
  | some t=>eT (aLa P t d x S)
  | none=>.error "copy")
 | _,_=>.error "builtin"
def yO(P:OI)(S:St)(g:PU)(args:On V):R Out:=
 match P.funcs[g]? with
 | none=>.error "no such function"
 | some fn=>match fn.body with
  | some _=>.ok (.call g args)
  | none=>dQ S (tH fn args)
def aW(P:OI)(ρ:Pj->Ow V)(o:Qh)(fr:Ow Nat)(S:St):R Out:=
 match o.op with
 | .move x | .assign x=>(match ρ x with
  | some v=>.ok (.val v S)
  | none=>.error "operand")
 | .pick c a b=>(match ρ c with
  | some (.bool OB)=>(match ρ a with
   | some v=>.ok (.val v S)
   | none=>.error "operand")
  | some (.bool OA)=>(match ρ b with
   | some v=>.ok (.val v S)
   | none=>.error "operand")
  | _=>.error "pick")
 | .alloc t=>(match aQ P t with
  | none=>.error "alloc: no zero"
  | some z=>match bR fr S (.row 0 z.cells.length [z.cells]) with
   | .ok (a,S')=>.ok (.val (.ptr a 0 0 0) S')
   | .error e=>.error e)
 | .box _ x=>(match ρ x with
  | some v=>bif aH v.cells then(match bR fr S (.row 0 v.cells.length [v.cells]) with
   | .ok (a,S')=>.ok (.val (.ptr a 0 0 0) S')
   | .error e=>.error e) else .error "box"
  | none=>.error "operand")
 | .build t ps=>(match pI ρ ps.toList with
  | some vs=>dQ S (rO P t vs)
  | none=>.error "operand")
 | .buildSlice t n ps=>(match pI ρ ps.toList with
  | some vs=>eT (dO P t n vs fr S)
  | none=>.error "operand")
 | .load t a=>(match ρ a with
  | some p=>dQ S (oG P t p S)
  | none=>.error "operand")
 | .store t a x=>(match ρ a,ρ x with
  | some p,Ot v=>(match rN P t p v S with
   | .ok S'=>.ok (.skip S')
   | .error e=>.error e)
  | _,_=>.error "operand")
 | .nilCheck x=>(match ρ x with
  | some (.ptr a ver i j)=>.ok (.val (.ptr a ver i j) S)
  | some (.iptr cs j)=>.ok (.val (.iptr cs j) S)
  | _=>.error "nilCheck")
 | .binOp op t x y _=>(match ρ x,ρ y with
  | some a,Ot b=>bif aNt P op t x y a b then dQ S (cC P op t a b) else .error "guard"
  | _,_=>.error "operand")
 | .unOp op _ x=>(match ρ x with
  | some v=>dQ S (unV op v)
  | none=>.error "operand")
 | .convert s d x=>(match ρ x with
  | some v=>eT (eK P s d v fr S)
  | none=>.error "operand")
 | .makeSlice t l c=>(match ρ l,ρ c with
  | some l,Ot c=>eT (fD P t l c fr S)
  | _,_=>.error "operand")
 | .slice t x lo hi mx=>(match mx,ρ x,evO ρ lo,evO ρ hi with
  | none,Ot v,Ot l,Ot h=>dQ S (iZ P t v l h)
  | _,_,_,_=>.error "slice")
 | .fieldAddr s x f=>(match ρ x with
  | some p=>dQ S (eQ P s p f)
  | none=>.error "operand")
 | .field t x f=>(match ρ x with
  | some v=>dQ S (aEg P t v f)
  | none=>.error "operand")
 | .indexAddr t x i=>(match ρ x,ρ i with
  | some v,Ot k=>dQ S (dT P t v k)
  | _,_=>.error "operand")
 | .index t x i=>(match ρ x,ρ i with
  | some v,Ot k=>dQ S (aEf P t v k)
  | _,_=>.error "operand")
 | .range t x=>(match ρ x,P.underlying t with
  | some (.str s),Ot .string=>(match bR fr S (.iter s 0) with
   | .ok (a,S')=>.ok (.val (.ptr a 0 0 0) S')
   | .error e=>.error e)
  | _,_=>.error "range")
 | .next it isS=>(match ρ it with
  | some (.ptr a 0 0 0)=>bif isS then(match S.heap.get a with
   | some (.iter s pos)=>bif QI pos s.length then
     (match s[pos]? with
     | some b=>bif QI b.toNat 128 then .ok (.val (.tup [.bool OB,.int J pos,.int .i32 b.toNat]) ⟨S.next,S.heap.put a (.iter s (pos+1))⟩) else
      .ok (.val (.tup [.bool OB,.int J pos,.int .i32 (QZ ⟨⟨s⟩⟩ pos).1]) ⟨S.next,S.heap.put a (.iter s (pos+(QZ ⟨⟨s⟩⟩ pos).2))⟩)
     | none=>.error "next") else .ok (.val (.tup [.bool OA]) S)
   | _=>.error "next") else .error "next"
  | _=>.error "next")
 | .makeMap _ OG=>(match bR fr S (.mp []) with
  | .ok (a,S')=>.ok (.val (.mp a) S')
  | .error e=>.error e)
 | .lookup t m k ok=>(match ρ m,ρ k with
  | some m,Ot k=>dQ S (aA9 P t m k ok S)
  | _,_=>.error "operand")
 | .mapUpdate t m k v=>(match ρ m,ρ k,ρ v with
  | some m,Ot k,Ot v=>(match pH P t m k v S with
   | .ok S'=>.ok (.skip S')
   | .error e=>.error e)
  | _,_,_=>.error "operand")
 | .makeFunc fn first captured=>(match fn,tD ρ first.toList,tD ρ captured.toList with
  | .func f,Ot a,Ot b=>.ok (.val (.func f a b) S)
  | _,_,_=>.error "operand")
 | .makeInterface t x=>(match ρ x,P.underlying t with
  | some _,Ot (.interface _)=>.error "makeInterface"
  | some v,Ot _=>.ok (.val (.iface t v) S)
  | _,_=>.error "operand")
 | .typeAssert x _ t ok=>(match ρ x with
  | some v=>dQ S (aAa P v t ok)
  | none=>.error "operand")
 | .extract t i=>(match ρ t with
  | some (.tup vs)=>(match vs[i]? with
   | some v=>.ok (.val v S)
   | none=>.error "extract")
  | _=>.error "extract")
 | .call c=>(match c.callee with
  | .value f=>(match ρ f,tD ρ c.args.toList with
   | some (.func g first captured),Ot args=>yO P S g (first++args++captured)
   | _,_=>.error "call")
  | .builtin b=>(match tD ρ c.args.toList with
   | some args=>fE P b c.argTypes args fr S
   | none=>.error "operand")
  | .invoke r name=>(match ρ r,tD ρ c.args.toList with
   | some (.iface t v),Ot args=>(match aDo P t name with
    | some g=>yO P S g (v::args)
    | none=>.error "invoke")
   | _,_=>.error "invoke"))
 | _=>.error "an operation that is not known"
def hM(n:Nat)(e:bD)(d:Ow Tmp)(v:V):R bD:=
 match d with
 | none=>.ok e
 | some d=>bif QI d n then .ok (e.put d v) else .error "slot"
def wanted(ops:Pa Qh)(o:Qh)(e:bD):R Bool:=
 match o.guard with
 | none=>.ok OB
 | some (j,want)=>match ops[j]? with
  | none=>.ok OA
  | some oj=>match oj.dst with
   | none=>.ok OA
   | some d=>match e.get d with
    | some (.bool b)=>.ok (b == want)
    | some _=>.ok OA
    | none=>.error "guard"
abbrev Call:=PU->On V->St->R (V×St)
def gG(P:OI)(call:Call)(n:Nat)(ops:Pa Qh)(o:Qh)(fr:Ow Nat)(e:bD)(S:St):R (bD×St):=
 match wanted ops o e with
 | .error w=>.error w
 | .ok OA=>(match hM n e o.dst (.tup []) with
  | .ok e'=>.ok (e',S)
  | .error w=>.error w)
 | .ok OB=>match aW P (ev e) o fr S with
  | .error w=>.error w
  | .ok (.val v S')=>(match hM n e o.dst v with
   | .ok e'=>.ok (e',S')
   | .error w=>.error w)
  | .ok (.skip S')=>(match hM n e o.dst (.tup []) with
   | .ok e'=>.ok (e',S')
   | .error w=>.error w)
  | .ok (.call f args)=>match call f args S with
   | .error w=>.error w
   | .ok (v,S')=>match hM n e o.dst v with
    | .ok e'=>.ok (e',S')
    | .error w=>.error w
def tJ(P:OI)(call:Call)(n:Nat)(ops:Pa Qh):On Qh->bD->St->R (bD×St)
 | [],e,S=>.ok (e,S)
 | o::l,e,S=>match gG P call n ops o OG e S with
  | .ok (e',S')=>tJ P call n ops l e' S'
  | .error w=>.error w
def eV(P:OI):Op->Nat
 | .move _ | .assign _ | .pick .. | .build .. | .nilCheck _ | .binOp .. | .unOp .. | .slice .. | .fieldAddr .. | .field .. | .indexAddr .. | .index .. | .extract ..=>0
 | .load ..=>1
 | .alloc _ | .box .. | .buildSlice .. | .makeSlice ..=>2
 | .convert _ d _=>(match P.underlying d with
  | some (.int _)=>0
  | some .string=>1
  | _=>2)
 | .call c=>(match c.callee with
  | .builtin .len=>1
  | .builtin .min=>0
  | .builtin .max=>0
  | _=>3)
 | _=>3
abbrev bY:=Nat×On Nat
mutual
def gW:V->V->Ps
 | .bool a,.bool b=>a == b
 | .int j a,.int k b=>mS j k&&decide (a=b)
 | .str a,.str b=>tF a b
 | .nilp,.nilp=>OB
 | .ptr a b c d,.ptr a' b' c' d'=>Pw a a'&&Pw b b'&&Pw c c'&&Pw d d'
 | .iptr a b,.iptr a' b'=>beqVs a a'&&Pw b b'
 | .nils,.nils=>OB
 | .sl a b c d f,.sl a' b' c' d' f'=>Pw a a'&&Pw b b'&&Pw c c'&&Pw d d'&&Pw f f'
 | .imm a,.imm b=>beqVss a b
 | .agg a,.agg b=>beqVs a b
 | .tup a,.tup b=>beqVs a b
 | .nili,.nili=>OB
 | .iface t a,.iface u b=>Pw t u&&gW a b
 | .nilf,.nilf=>OB
 | .func f a b,.func g c d=>Pw f g&&beqVs a c&&beqVs b d
 | .nilm,.nilm=>OB
 | .mp a,.mp b=>Pw a b
 | .res a b,.res c d=>Pw a c&&Pw b d
 | _,_=>OA
def beqVs:On V->On V->Ps
 | [],[]=>OB
 | a::x,b::y=>gW a b&&beqVs x y
 | _,_=>OA
def beqVss:On (On V)->On (On V)->Ps
 | [],[]=>OB
 | a::x,b::y=>beqVs a b&&beqVss x y
 | _,_=>OA
end
abbrev uZ:=Nat×bD×V
def qK(i:Nat):On uZ->Ow (bD×V)
 | []=>OG
 | (j,x)::l=>bif Pw i j then Ot x else qK i l
def aE(P:OI)(ops:Pa Qh)(recs:On uZ)(S:St):On Nat->Ps
 | []=>OB
 | i::l=>(match qK i recs with
  | none=>OB
  | some (e,v)=>match ops[i]? with
   | none=>OA
   | some o=>match aW P (ev e) o OG S with
    | .ok (.val v' _)=>gW v v'
    | _=>OA)&&aE P ops recs S l
def aEj:R Ps->Ps
 | .ok b=>b
 | .error _=>OA
def tK(P:OI)(call:Call)(n:Nat)(ops:Pa Qh)(base:Nat):On bY->On uZ->bD->St->R (bD×St)
 | [],_,e,S=>.ok (e,S)
 | (i,re)::l,recs,e,S=>match ops[i]? with
  | none=>.error "no such operation"
  | some o=>match gG P call n ops o (Ot (base+i)) e S with
   | .error w=>.error w
   | .ok (e',S')=>
    bif aE P ops recs S' re then
     tK P call n ops base l (bif Pw (eV P o.op) 1&&aEj (wanted ops o e) then
      (match o.dst with
      | none=>recs
      | some d=>match e'.get d with
       | some v=>(i,e,v)::recs
       | none=>recs) else recs) e' S'
    else .error "a reader is told otherwise in another order"
def bB2(P:OI)(call:Call)(n:Nat)(ops:Pa Qh)(steps:On bY)(e:bD)(S:St):R (bD×St):=
 tK P call n ops S.next steps [] e ⟨S.next+ops.size,S.heap⟩
def aBo(m i:Nat):Bool:=m.testBit i
def aEk(ops : Pa Qh)(x y : Qh) : Bool :=
  (match x.dst with
   | some d => !(y.looksAt ops).contains d && y.dst != Ot d
   | none => OB) &&
  (match y.dst with
   | some d => !(x.looksAt ops).contains d
   | none => OB)
def aJh(P:OI)(ops:Pa Qh)(b:Pa Nat)(done:On Nat)(i:Nat)(re:On Nat):Bool:=
 match ops[i]? with
 | none=>OA
 | some o=>
  let bi:=b.getD i 0
  let ci:=eV P o.op
  !done.contains i &&
  (Pw ci 1 == OA||o.dst.isSome) &&
  (o.after.toList.all λe=>!Region.binds .any e||done.contains e.on) &&
  ((RC ops.size).all λj=>!aBo bi j||(done.contains j&&o.after.toList.any λe=>Region.binds .any e&&(e.on == j||aBo (b.getD e.on 0) j))) &&
  (done.all λj=>aBo bi j||(match ops[j]? with
   | none=>OA
   | some p=>
    aEk ops o p &&
    (match eV P p.op,ci with
    | 3,3=>OA
    | 2,3=>OA
    | 3,1=>OA
    | 2,1=>OA
    | 1,3=>re.contains j
    | _,_=>OB)))
def xA(P:OI)(ops:Pa Qh)(b:Pa Nat):On Nat->On bY->Ps
 | _,[]=>OB
 | done,(i,re)::l=>aJh P ops b done i re&&xA P ops b (i::done) l
def aNu(P:OI)(ops:Pa Qh)(steps:On bY):Bool:=
 ((RC ops.size).all λj=>steps.any λs=>Pw s.1 j)&&xA P ops (Region.before ops) [] steps
inductive Ex where
 | normal
 | exit (id:Nat)
 | ret
abbrev Run:=R (Ex×bD×St)
def iter(body:bD->St->Run):Nat->bD->St->Run
 | 0,_,_=>.error "fuel"
 | k+1,e,S=>match body e S with
  | .ok (.normal,e',S')=>iter body k e' S'
  | r=>r
def aLb:Nat->On bY
 | 0=>[]
 | n+1=>aLb n++[(n,[])]
def aDp(p:Ow (On bY))(n:Nat):On bY:=
 match p with
 | some s=>s
 | none=>aLb n
def fY(P:OI)(pl:Nat->Ow (On bY))(call:Call)(k n:Nat):Code->bD->St->Run
 | .skip,e,S=>.ok (.normal,e,S)
 | .label _,e,S=>.ok (.normal,e,S)
 | .exit id,e,S=>.ok (.exit id,e,S)
 | .ret,e,S=>.ok (.ret,e,S)
 | .region id ops d,e,S=>match (bif d then bB2 P call n ops (aDp (pl id) ops.size) e S else tJ P call n ops ops.toList e S) with
  | .ok (e',S')=>.ok (.normal,e',S')
  | .error w=>.error w
 | .seq a b,e,S=>match fY P pl call k n a e S with
  | .ok (.normal,e',S')=>fY P pl call k n b e' S'
  | r=>r
 | .cond c a b,e,S=>match ev e c with
  | some (.bool OB)=>fY P pl call k n a e S
  | some (.bool OA)=>fY P pl call k n b e S
  | _=>.error "cond"
 | .block id a,e,S=>match fY P pl call k n a e S with
  | .ok (.exit zd,e',S')=>bif Pw zd id then .ok (.normal,e',S') else .ok (.exit zd,e',S')
  | r=>r
 | .loop a,e,S=>iter (fY P pl call k n a) k e S
 | .scope _,_,_=>.error "scope"
 | .rangeFunc ..,_,_=>.error "rangeFunc"
 | .goto _,_,_=>.error "goto"
 | .refuse _,_,_=>.error "refuse"
def fQ:Nat->On V->bD->bD
 | _,[],e=>e
 | i,v::l,e=>fQ (i+1) l (e.put i v)
def aJi(P:OI)(e:bD)(S:St):On ResultVar->R (On V)
 | []=>.ok []
 | .tmp t::l=>(match e.get t,aJi P e S l with
  | some v,.ok vs=>.ok (v::vs)
  | none,_=>.error "no result"
  | _,.error w=>.error w)
 | .cell a t::l=>(match e.get a with
  | none=>.error "no result"
  | some p=>match oG P t p S,aJi P e S l with
   | .ok v,.ok vs=>.ok (v::vs)
   | .error w,_=>.error w
   | _,.error w=>.error w)
def tL:On V->V
 | [v]=>v
 | vs=>.tup vs
def Tr.cut{α:Type}:Tr α->Nat->Tr α
 | .nil,_=>.nil
 | .node l v r,n=>bif Pw n 0 then .node l OG r else bif Pw (n % 2) 1 then .node (l.cut (n / 2)) v r else .node l v (r.cut (n / 2 - 1))
mutual
def cP(ρ:Nat->Ow Nat)(σ:V->R V):V->R V
 | .bool b=>.ok (.bool b)
 | .int k n=>.ok (.int k n)
 | .str s=>.ok (.str s)
 | .nilp=>.ok .nilp
 | .ptr a ver i j=>(match ρ a with
  | some k=>.ok (.ptr k ver i j)
  | none=>.error "a pointer")
 | .iptr cs j=>.ok (.iptr cs j)
 | .nils=>.ok (.imm [])
 | .sl a ver es off len=>σ (.sl a ver es off len)
 | .imm es=>.ok (.imm es)
 | .agg cs=>(match frzVs ρ σ cs with
  | .ok cs=>.ok (.agg cs)
  | .error e=>.error e)
 | .tup cs=>(match frzVs ρ σ cs with
  | .ok cs=>.ok (.tup cs)
  | .error e=>.error e)
 | .nili=>.ok .nili
 | .iface t v=>(match cP ρ σ v with
  | .ok v=>.ok (.iface t v)
  | .error e=>.error e)
 | .nilf=>.ok .nilf
 | .func f a b=>(match frzVs ρ σ a with
  | .ok a=>(match frzVs ρ σ b with
   | .ok b=>.ok (.func f a b)
   | .error e=>.error e)
  | .error e=>.error e)
 | .nilm=>.ok .nilm
 | .mp _=>.error "a map"
 | .res m r=>.ok (.res m r)
def frzVs(ρ:Nat->Ow Nat)(σ:V->R V):On V->R (On V)
 | []=>.ok []
 | v::l=>(match cP ρ σ v with
  | .ok v=>(match frzVs ρ σ l with
   | .ok l=>.ok (v::l)
   | .error e=>.error e)
  | .error e=>.error e)
end
def kU{α β:Type}(φ:α->R β):On α->R (On β)
 | []=>.ok []
 | x::l=>(match φ x with
  | .ok y=>(match kU φ l with
   | .ok l=>.ok (y::l)
   | .error e=>.error e)
  | .error e=>.error e)
def kP:Nat->Ow Nat:=λ_=>OG
def kV(φ:On V->R (On V))(S:St)(v:V):R V:=match aK S v with
 | .ok es=>(match kU φ es with
  | .ok es=>.ok (.imm es)
  | .error e=>.error e)
 | .error e=>.error e
def iS(S:St):Nat->On V->R (On V)
 | 0=>λ_=>.error "too deep"
 | n+1=>frzVs kP (kV (iS S n) S)
mutual
def pJ:V->On Nat
 | .ptr a _ _ _=>[a]
 | .agg cs=>ptrsVs cs
 | .tup cs=>ptrsVs cs
 | .iface _ v=>pJ v
 | .func _ a b=>ptrsVs a++ptrsVs b
 | _=>[]
def ptrsVs:On V->On Nat
 | []=>[]
 | v::l=>pJ v++ptrsVs l
end
mutual
def fF(τ:V->On Nat):V->On Nat
 | .sl a ver es off len=>τ (.sl a ver es off len)
 | .agg cs=>slsVs τ cs
 | .tup cs=>slsVs τ cs
 | .iface _ v=>fF τ v
 | .func _ a b=>slsVs τ a++slsVs τ b
 | _=>[]
def slsVs(τ:V->On Nat):On V->On Nat
 | []=>[]
 | v::l=>fF τ v++slsVs τ l
end
def lK(φ:On V->On Nat):On (On V)->On Nat
 | []=>[]
 | x::l=>φ x++lK φ l
def jS(φ:On V->On Nat)(S:St):V->On Nat
 | .sl a ver es off len=>a::(match aK S (.sl a ver es off len) with
  | .ok es=>lK φ es
  | .error _=>[])
 | _=>[]
def iA(S:St):Nat->On V->On Nat
 | 0=>λ_=>[]
 | n+1=>slsVs (jS (iA S n) S)
mutual
def jG:V->Ps
 | .iptr _ _=>OA
 | .imm es=>es.isEmpty
 | .agg cs=>bareVs cs
 | .tup cs=>bareVs cs
 | .iface _ v=>jG v
 | .func _ a b=>bareVs a&&bareVs b
 | _=>OB
def bareVs:On V->Ps
 | []=>OB
 | v::l=>jG v&&bareVs l
end
def iT(a:Nat):On Nat->Ps
 | []=>OA
 | b::l=>Pw a b||iT a l
def jH:On Nat->On Nat
 | []=>[]
 | a::l=>bif iT a l then jH l else a::jH l
def uS(a:Nat):Nat->On Nat->Ow Nat
 | _,[]=>OG
 | i,b::l=>bif Pw a b then Ot i else uS a (i+1) l
def aGs:On Nat->Nat->Ow Nat
 | [],_=>OG
 | a::_,0=>Ot a
 | _::l,n+1=>aGs l n
abbrev Rows:=On (Nat×Nat×On (On V))
def gP(S:St):On Nat->R Rows
 | []=>.ok []
 | a::l=>(match S.heap.get a with
  | some (.row ver es ae)=>(match kU (iS S 3) ae with
   | .ok ae=>(match gP S l with
    | .ok rs=>.ok ((ver,es,ae)::rs)
    | .error e=>.error e)
   | .error e=>.error e)
  | _=>.error "no such row")
def cZ(S:St):On Nat->On Nat
 | []=>[]
 | a::l=>(match S.heap.get a with
  | some (.row _ _ ae)=>lK (iA S 3) ae
  | _=>[])++cZ S l
def vF:Nat->Rows->Tr Blk->Tr Blk
 | _,[],h=>h
 | i,(ver,es,ae)::l,h=>vF (i+1) l (h.put i (.row ver es ae))
def nR:On Nat->Rows->Tr Blk->Tr Blk
 | a::l,(ver,es,ae)::rs,h=>nR l rs (h.put a (.row ver es ae))
 | _,_,h=>h
def rQ:On Nat->Tr Blk->Tr Blk
 | [],h=>h
 | a::l,h=>rQ l (h.cut a)
def pK(rs:Rows):Bool:=rs.all λr=>r.2.2.all bareVs
def qH:Nat->Nat->On Nat
 | _,0=>[]
 | i,n+1=>i::qH (i+1) n
def vG(run:On V->St->R (V×St))(args:On V)(S:St):R (V×St):=
 match frzVs (λa=>uS a 0 (jH (ptrsVs args))) (kV (iS S 3) S) args with
 | .error e=>.error e
 | .ok bs=>match gP S (jH (ptrsVs args)) with
  | .error e=>.error e
  | .ok rows=>bif (slsVs (jS (iA S 3) S) args++cZ S (jH (ptrsVs args))).any (λa=>iT a (jH (ptrsVs args))) then .error "a pointer into a list" else
   match run bs ⟨(jH (ptrsVs args)).length,vF 0 rows .nil⟩ with
   | .error e=>.error e
   | .ok (v,S2)=>match cP (aGs (jH (ptrsVs args))) (kV (iS S2 3) S2) v with
    | .error e=>.error e
    | .ok v'=>match gP S2 (qH 0 (jH (ptrsVs args)).length) with
     | .error e=>.error e
     | .ok cl=>bif (fF (jS (iA S2 3) S2) v++cZ S2 (qH 0 (jH (ptrsVs args)).length)).any (λa=>QI a (jH (ptrsVs args)).length) then .error "a list in a block" else
      .ok (v',⟨S.next,nR (jH (ptrsVs args)) cl (bif jG v'&&pK cl then S.heap else rQ (slsVs (jS (iA S 3) S) args++cZ S (jH (ptrsVs args))) S.heap)⟩)
def aDf(S:St)(mask:On Nat):Nat->Nat->On V->R (On V×On Nat)
 | _,_,[]=>.ok ([],[])
 | i,nx,v::l=>bif iT i mask then(match v with
   | .nils=>(match aDf S mask (i+1) nx l with
    | .ok r=>.ok (.nils::r.1,r.2)
    | .error e=>.error e)
   | .sl j ver es off len=>(match aDf S mask (i+1) (nx+1) l with
    | .ok r=>.ok (.sl nx ver es off len::r.1,j::r.2)
    | .error e=>.error e)
   | _=>.error "no list") else(match cP kP (kV (iS S 3) S) v with
   | .ok v=>(match aDf S mask (i+1) nx l with
    | .ok r=>.ok (v::r.1,r.2)
    | .error e=>.error e)
   | .error e=>.error e)
def yP(S:St)(mask:On Nat):Nat->On V->On Nat
 | _,[]=>[]
 | i,v::l=>(bif iT i mask then[] else fF (jS (iA S 3) S) v)++yP S mask (i+1) l
def tM:V->On V->R V
 | .agg _,cs=>.ok (.agg cs)
 | .sl _ _ _ _ _,[c]=>.ok c
 | .nils,[c]=>.ok c
 | _,_=>.error "cells"
def aHj:On Nat->Ps
 | []=>OB
 | a::l=>!iT a l&&aHj l
def nV:V->Ps
 | .bool _ | .int _ _ | .str _ | .nilp | .nili | .nilf | .nilm=>OB
 | _=>OA
def newV(S:St):V->Ps
 | .nils=>OB
 | .sl a ver es off len=>(match aK S (.sl a ver es off len) with
  | .ok es=>es.all λcs=>cs.all nV
  | .error _=>OA)
 | v=>nV v
def aEl(S:St):V->Ps
 | .tup l=>l.all (newV S)
 | v=>newV S v
def aLc(run:On V->St->R (V×St))(args:On V)(S:St):R (V×St):=
 match frzVs kP (kV (iS S 3) S) args with
 | .error e=>.error e
 | .ok bs=>match run bs ⟨0,.nil⟩ with
  | .error e=>.error e
  | .ok (v,S2)=>match cP kP (kV (iS S2 3) S2) v with
   | .error e=>.error e
   | .ok v'=>bif aEl S2 v then .ok (v',S) else .error "a list is not new"
def kpN:Nat:=999
def aVe(mask:On Nat)(run:On V->St->R (V×St))(args:On V)(S:St):R (V×St):=
 match frzVs kP (kV (iS S 3) S) args with
 | .error e=>.error e
 | .ok bs=>match run bs ⟨0,.nil⟩ with
  | .error e=>.error e
  | .ok (v,S2)=>match aDf S2 mask 0 S.next v.cells with
   | .error e=>.error e
   | .ok r=>match gP S2 r.2 with
    | .error e=>.error e
    | .ok rows=>match tM v r.1 with
     | .error e=>.error e
     | .ok v'=>bif aHj r.2&&!(yP S2 mask 0 v.cells++cZ S2 r.2).any (λa=>iT a r.2) then
      .ok (v',⟨S.next+r.2.length,nR (qH S.next r.2.length) rows (rQ (slsVs (jS (iA S 3) S) args) S.heap)⟩) else .error "blocks"
def aNv(mask:On Nat)(run:On V->St->R (V×St))(args:On V)(S:St):R (V×St):=bif iT kpN mask then aLc run args S else aVe mask run args S
inductive Ent where
 | code (p:Nat->Ow (On bY))
 | spec (g:On V->St->R (V×St))
 | val (p:Nat->Ow (On bY))
 | own (p:Nat->Ow (On bY)) (mask:On Nat)
abbrev kA:=PU->Ow Ent
def uN(P:OI)(call:Call)(k:Nat)(p:Nat->Ow (On bY))(f:PU)(args:On V)(S:St):R (V×St):=
 match P.funcs[f]? with
 | none=>.error "no such function"
 | some fn=>match fn.body with
  | none=>.error "no body"
  | some c=>bif Ru args.length fn.ntmps&&QI fn.ntmps eG then
   (match fY P p call k fn.ntmps c (fQ 0 args .nil) S with
   | .error w=>.error w
   | .ok (.exit _,_,_)=>.error "exit"
   | .ok (_,e,S')=>match aJi P e S' fn.results.toList with
    | .ok vs=>.ok (tL vs,S')
    | .error w=>.error w) else .error "slots"
def fG(P:OI)(pl:kA):Nat->Call
 | 0,_,_,_=>.error "fuel"
 | k+1,f,args,S=>match pl f with
  | none=>.error "a function that was not checked"
  | some (.spec g)=>g args S
  | some (.code p)=>uN P (fG P pl k) k p f args S
  | some (.val p)=>vG (λbs S=>uN P (fG P pl k) k p f bs S) args S
  | some (.own p mask)=>aNv mask (λbs S=>uN P (fG P pl k) k p f bs S) args S
def mG(P:OI)(p:Nat->Ow (On bY)):Code->Ps
 | .region id ops d=>!d||aNu P ops (aDp (p id) ops.size)
 | .seq a b=>mG P p a&&mG P p b
 | .cond _ a b=>mG P p a&&mG P p b
 | .block _ a=>mG P p a
 | .loop a=>mG P p a
 | _=>OB
def kC{α:Type}(n:Nat):On (Nat×α)->Ow α
 | []=>OG
 | (m,x)::l=>bif Pw n m then Ot x else kC n l
abbrev kE:=On (Nat×On (Nat×On bY))
inductive Sp where
 | ins (T:OH)
 | del (T:OH)
 | within
 | told
 | emod (m c:Nat)
abbrev aHk:=On (Nat×Sp)
def Sp.run(P:OI):Sp->On V->St->R (V×St)
 | .ins T,[s,i,x],S=>jR P T s i x S
 | .del T,[s,i,j],S=>tG P T s i j S
 | .within,[x,.int J lo,.int J hi],S=>bif decide (lo<=hi)&&decide (hi<=1000000)&&decide (-1000000<=lo) then(match x with
  | .res m r=>bif decide (hi - lo+1=(m:Int)) then .ok (.int J (lo+r),S) else .error "within"
  | .int J n=>.ok (.int J (lo+n % (hi - lo+1)),S)
  | _=>.error "within") else .error "within"
 | .emod m c,[x],S=>(match x with
  | .res m' r=>bif Pw m m'&&QI 0 m&&QI m 1000000&&QI c 1000000 then .ok (.int J (((c+r:Nat)):Int),S) else .error "emod"
  | .int J n=>bif QI 0 m&&QI m 1000000&&QI c 1000000 then .ok (.int J (c+n % (m:Int)),S) else .error "emod"
  | _=>.error "emod")
 | .told,[],S=>.ok (.bool OB,S)
 | _,_,_=>.error "a step of other arguments"
def tN(P:OI)(sp:aHk)(t:kE)(vl:On Nat:=[])(ol:On (Nat×On Nat):=[]):kA:=λf=>match kC f sp with
 | some x=>Ot (.spec (x.run P))
 | none=>match kC f t with
  | some l=>(match kC f ol with
   | some m=>Ot (.own (λid=>kC id l) m)
   | none=>bif iT f vl then Ot (.val λid=>kC id l) else Ot (.code λid=>kC id l))
  | none=>OG
def aBp(P:OI)(p:Nat->Ow (On bY))(f:PU):Bool:=
 match P.funcs[f]? with
 | none=>OB
 | some fn=>!(fn.name == "runtime.NumGoroutine")&&(match fn.body with
  | none=>OB
  | some c=>mG P p c)
def jJ(P:OI)(t:kE):Bool:=t.all λx=>aBp P (λid=>kC id x.2) x.1
def aEm:R (V×St)->Ps
 | .ok (.bool b,_)=>b
 | _=>OA
theorem Tr.get_node{α:Type}(l:Tr α)(v:Ow α)(r:Tr α)(m:Nat):
  (Tr.node l v r).get m=if m=0 then v else if m % 2=1 then l.get (m / 2) else r.get (m / 2 - 1):=by
 simp only[Tr.get,cond_eq_ite,QE]
theorem Tr.get_nil{α:Type}(m:Nat):(Tr.nil:Tr α).get m=none:=rfl
theorem Tr.get_set{α:Type}:∀(f:Nat) (t:Tr α) (n m:Nat) (x:α),n+1<2 ^ f->
  (Tr.set f t n x).get m=if m=n then Ot x else t.get m:=by
 intro f
 induction f with
 | zero=>intro t n m x h;simp at h
 | succ f ih=>
  intro t n m x h;have h2:2 ^ (f+1)=2*2 ^ f:=by rw[Nat.pow_succ];omega
  rw[h2] at h;have hl:n % 2=1->n / 2+1<2 ^ f:=by intro _;omega
  have hr:n≠0->n % 2≠1->n / 2 - 1+1<2 ^ f:=by intro _ _;omega
  cases t with
  | nil=>
   simp only[Tr.set,cond_eq_ite,QE];split
   ·rw[Tr.get_node];subst n;split<;>simp[Tr.get_nil, *]
   ·split
    ·rename_i h0 h1;rw[Tr.get_node,ih _ _ _ _ (hl h1)];by_cases hm:m=n
     ·subst hm;simp[h0,h1]
     ·simp only[Tr.get_nil,hm,Ou];split
      ·rfl
      ·split
       ·rw[Oz (by omega)]
       ·rfl
    ·rename_i h0 h1;rw[Tr.get_node,ih _ _ _ _ (hr h0 h1)];by_cases hm:m=n
     ·subst hm;simp[h0,h1]
     ·simp only[Tr.get_nil,hm,Ou];split
      ·rfl
      ·split
       ·rfl
       ·rw[Oz (by omega)]
  | node l v r=>
   simp only[Tr.set,cond_eq_ite,QE];split
   ·subst n;rw[Tr.get_node,Tr.get_node];split<;>simp[*]
   ·split
    ·rename_i h0 h1;rw[Tr.get_node,Tr.get_node,ih _ _ _ _ (hl h1)];by_cases hm:m=n
     ·subst hm;simp[h0,h1]
     ·simp only[hm,Ou];split
      ·rfl
      ·split
       ·rw[Oz (by omega)]
       ·rfl
    ·rename_i h0 h1;rw[Tr.get_node,Tr.get_node,ih _ _ _ _ (hr h0 h1)];by_cases hm:m=n
     ·subst hm;simp[h0,h1]
     ·simp only[hm,Ou];split
      ·rfl
      ·split
       ·rfl
       ·rw[Oz (by omega)]
theorem aLd(n:Nat):QI n (tE n)=true:=Nat.ble_eq_true_of_le (Ov _)
theorem dX(S:St)(b:Blk):bR OG S b=.ok (S.next,⟨S.next+1,S.heap.put S.next b⟩):=by simp only[bR,aLd,PW]
theorem xB(k:Nat)(S:St)(b:Blk):bR (Ot k) S b=.ok (k,⟨S.next,S.heap.put k b⟩):=by simp only[bR,aLd,PW]
theorem Tr.get_putB{α:Type}(t:Tr α)(n m:Nat)(x:α){p:Prop}(_:p):(t.put n x).get m=if m=n then Ot x else t.get m:=
 Tr.get_set (n+1) t n m x Nat.lt_two_pow_self
theorem Tr.get_put_sameB{α:Type}(t:Tr α)(n:Nat)(x:α){p:Prop}(h:p):(t.put n x).get n=Ot x:=by rw[Tr.get_putB t n n x h,OE rfl]
theorem Tr.get_put_neB{α:Type}(t:Tr α)(n m:Nat)(x:α){p:Prop}(h:p)(hm:m≠n):(t.put n x).get m=t.get m:=by rw[Tr.get_putB t n m x h,Oz hm]
theorem Tr.get_put{α:Type}(t:Tr α)(n m:Nat)(x:α)(h:n<eG):(t.put n x).get m=if m=n then Ot x else t.get m:=Tr.get_putB t n m x h
theorem Tr.get_put_same{α:Type}(t:Tr α)(n:Nat)(x:α)(h:n<eG):(t.put n x).get n=Ot x:=Tr.get_put_sameB t n x h
theorem Tr.get_put_ne{α:Type}(t:Tr α)(n m:Nat)(x:α)(h:n<eG)(hm:m≠n):(t.put n x).get m=t.get m:=Tr.get_put_neB t n m x h hm
structure Loc where
 ver:Nat
 cb:Nat
 co:Nat
 cap:Nat
 es:Nat
structure Gh where
 loc:Nat->Ow Loc
 ml:Nat->Ow Nat
 pr:Nat->Ow Obj
 sy:Nat->Int:=λ_=>0
def bJ7(sy:Nat->Int)(m r:Nat)(k:Qa)(n:Int):Prop:=
 (m<wV/\k=J/\n % (m:Int)=(r:Int))\/(wV<=m/\k=aDn m/\n=sy (bJ6 m)/\aEd r<=n/\n<=aEe r)
structure Gh.le (G G':Gh):Prop where
 loc:∀a L,G.loc a=Ot L->∃L',G'.loc a=Ot L'/\(L'=L\/L.ver<L'.ver)
 ml:∀a b,G.ml a=Ot b->G'.ml a=Ot b
 pr:∀b o,G.pr b=Ot o->G'.pr b=Ot o
 sy:G'.sy=G.sy
theorem Gh.le_refl(G:Gh):G.le G:=⟨λ_ L h=>⟨L,h,.inl rfl⟩,λ_ _ h=>h,λ_ _ h=>h,rfl⟩
theorem Gh.le_trans{A B C:Gh}(h:A.le B)(k:B.le C):A.le C:=by
 refine⟨λa L ha=>?_,λa b hb=>k.ml a b (h.ml a b hb),λb o hb=>k.pr b o (h.pr b o hb),k.sy.trans h.sy⟩;obtain⟨L1,h1,e1⟩:=h.loc a L ha;obtain⟨L2,h2,e2⟩:=k.loc a L1 h1;refine⟨L2,h2,?_⟩;rcases e1 with rfl | e1
 ·exact e2
 ·rcases e2 with rfl | e2
  ·exact .inr e1
  ·exact .inr (Ut e1 e2)
def Gh.shut(G:Gh):Gh:={ G with loc:=λ_=>OG,ml:=λ_=>OG }
theorem Gh.shut_le(G:Gh):G.shut.le G:=⟨λ_ _ h=>(by cases h),λ_ _ h=>(by cases h),λ_ _ h=>h,rfl⟩
theorem Gh.le_shut{G G':Gh}(h:G.le G'):G.shut.le G'.shut:=⟨λ_ _ h=>(by cases h),λ_ _ h=>(by cases h),h.pr,h.sy⟩
def PtrAt(G:Gh)(a ver i j:Nat)(p:Wi):Prop:=
 ∃L,G.loc a=Ot L/\(ver<L.ver\/(ver=L.ver/\p=⟨L.cb,L.co+i*L.es+j,OG⟩))
def SlAt(G:Gh)(a ver es off len:Nat)(p:Wi)(n c:Nat):Prop:=
 n=len/\len<=c/\∃L,G.loc a=Ot L/\(ver<L.ver\/(ver=L.ver/\es=L.es/\off+c<=L.cap/\(c≠0->p=⟨L.cb,L.co+off*L.es,OG⟩)))
mutual
inductive VR:Gh->V->O'->Prop
 | bool {G:Gh} (b:Ps):VR G (.bool b) (.bool b)
 | int {G:Gh} (k:Qa) (n:Int):VR G (.int k n) (.int k n)
 | str {G:Gh} (s:On OP):VR G (.str s) (.string ⟨⟨s⟩⟩)
 | nilp {G:Gh}:VR G .nilp (.pointer OG)
 | ptr {G:Gh} (a ver i j:Nat) (p:Wi) (h:PtrAt G a ver i j p):VR G (.ptr a ver i j) (.pointer (Ot p))
 | iptr {G:Gh} (cs:On V) (j:Nat) (b o:Nat) (c:Pa O') (ty:OH) (fr:Nat×Nat) (hb:G.pr b=Ot (.cells c ty fr)) (vs:On O')
  (hv:∀k v,vs[k]?=Ot v->c[o+k]?=Ot v) (h:VRs G.shut cs vs):VR G (.iptr cs j) (.pointer (Ot ⟨b,o+j,OG⟩))
 | nils {G:Gh}:VR G .nils (.slice OG 0 0)
 | sl {G:Gh} (a ver es off len:Nat) (p:Wi) (n c:Nat) (h:SlAt G a ver es off len p n c):VR G (.sl a ver es off len) (.slice (Ot p) n c)
 | imm {G:Gh} (es:On (On V)) (p:Wi) (n c e:Nat) (hn:n=es.length) (hc:n<=c) (vs:On (On O')) (h:VRss G.shut es vs) (he:∀cs,cs∈es->cs.length=e)
  (hp:n=0\/∃(ca:Pa O') (ty:OH) (fr:Nat×Nat),G.pr p.block=Ot (.cells ca ty fr)/\p.spot=OG /\
   ∀i l,vs[i]?=Ot l->∀k v,l[k]?=Ot v->ca[p.off+i*e+k]?=Ot v):VR G (.imm es) (.slice (Ot p) n c)
 | imm0 {G:Gh}:VR G (.imm []) (.slice OG 0 0)
 | agg {G:Gh} (cs:On V) (vs:Pa O') (h:VRs G cs vs.toList):VR G (.agg cs) (.agg vs)
 | tup {G:Gh} (cs:On V) (vs:Pa O') (h:VRs G cs vs.toList):VR G (.tup cs) (.tuple vs)
 | nili {G:Gh}:VR G .nili .nilIface
 | iface {G:Gh} (t:OH) (v:V) (w:O') (h:VR G v w):VR G (.iface t v) (.iface t w)
 | nilf {G:Gh}:VR G .nilf .nilFunc
 | func {G:Gh} (f:PU) (a b:On V) (x y:Pa O') (ha:VRs G a x.toList) (hb:VRs G b y.toList):VR G (.func f a b) (.func (.func f) x y)
 | nilm {G:Gh}:VR G .nilm (.map OG)
 | mp {G:Gh} (a cb:Nat) (h:G.ml a=Ot cb):VR G (.mp a) (.map (Ot cb))
 | res {G:Gh} (m r:Nat) (k:Qa) (n:Int) (h:bJ7 G.sy m r k n):VR G (.res m r) (.int k n)
inductive VRs:Gh->On V->On O'->Prop
 | nil {G:Gh}:VRs G [] []
 | cons {G:Gh} (v:V) (w:O') (vs:On V) (ws:On O') (h:VR G v w) (t:VRs G vs ws):VRs G (v::vs) (w::ws)
inductive VRss:Gh->On (On V)->On (On O')->Prop
 | nil {G:Gh}:VRss G [] []
 | cons {G:Gh} (v:On V) (w:On O') (vs:On (On V)) (ws:On (On O')) (h:VRs G v w) (t:VRss G vs ws):VRss G (v::vs) (w::ws)
end
theorem PtrAt.mono{G G':Gh}(hg:G.le G'){a ver i j:Nat}{p:Wi}(h:PtrAt G a ver i j p):PtrAt G' a ver i j p:=by
 obtain⟨L,hL,h⟩:=h;obtain⟨L',cy,e⟩:=hg.loc a L hL;refine⟨L',cy,?_⟩;rcases e with rfl | e
 ·exact h
 ·rcases h with h | ⟨h,_⟩
  ·exact .inl (Ut h e)
  ·exact .inl (h▸e)
theorem SlAt.mono{G G':Gh}(hg:G.le G'){a ver es off len:Nat}{p:Wi}{n c:Nat}(h:SlAt G a ver es off len p n c):SlAt G' a ver es off len p n c:=by
 obtain⟨hn,hc,L,hL,h⟩:=h;obtain⟨L',cy,e⟩:=hg.loc a L hL;refine⟨hn,hc,L',cy,?_⟩;rcases e with rfl | e
 ·exact h
 ·rcases h with h | ⟨h,_⟩
  ·exact .inl (Ut h e)
  ·exact .inl (h▸e)
mutual
theorem VR.mono{G G':Gh}(hg:G.le G'){v:V}{w:O'}(h:VR G v w):VR G' v w:=by
 cases h with
 | bool b=>exact .bool b
 | int k n=>exact .int k n
 | str s=>exact .str s
 | nilp=>exact .nilp
 | ptr a ver i j p h=>exact .ptr a ver i j p (h.mono hg)
 | iptr cs j b o c ty fr hb vs hv h=>exact .iptr cs j b o c ty fr (hg.pr _ _ hb) vs hv (VRs.mono (Gh.le_shut hg) h)
 | nils=>exact .nils
 | sl a ver es off len p n c h=>exact .sl a ver es off len p n c (h.mono hg)
 | imm es p n c e hn hc vs h he hp=>
  refine .imm es p n c e hn hc vs (VRss.mono (Gh.le_shut hg) h) he (hp.imp id ?_);rintro⟨ca,ty,fr,h1,h2,h3⟩;exact⟨ca,ty,fr,hg.pr _ _ h1,h2,h3⟩
 | imm0=>exact .imm0
 | agg cs vs h=>exact .agg cs vs (VRs.mono hg h)
 | tup cs vs h=>exact .tup cs vs (VRs.mono hg h)
 | nili=>exact .nili
 | iface t v w h=>exact .iface t v w (VR.mono hg h)
 | nilf=>exact .nilf
 | func f a b x y ha hb=>exact .func f a b x y (VRs.mono hg ha) (VRs.mono hg hb)
 | nilm=>exact .nilm
 | mp a cb h=>exact .mp a cb (hg.ml _ _ h)
 | res m r k n h=>exact .res m r k n (by rw[hg.sy];exact h)
theorem VRs.mono{G G':Gh}(hg:G.le G'){v:On V}{w:On O'}(h:VRs G v w):VRs G' v w:=by
 cases h with
 | nil=>exact .nil
 | cons v w vs ws h t=>exact .cons v w vs ws (VR.mono hg h) (VRs.mono hg t)
theorem VRss.mono{G G':Gh}(hg:G.le G'){v:On (On V)}{w:On (On O')}(h:VRss G v w):VRss G' v w:=by
 cases h with
 | nil=>exact .nil
 | cons v w vs ws h t=>exact .cons v w vs ws (VRs.mono hg h) (VRss.mono hg t)
end
theorem VRs.length{G:Gh}{vs:On V}{ws:On O'}(h:VRs G vs ws):vs.length=ws.length:=by
 induction vs generalizing ws with
 | nil=>cases h;rfl
 | cons v vs ih=>cases h with | cons _ w _ ws _ t=>simp[ih t]
theorem VRs.get{G:Gh}{vs:On V}{ws:On O'}(h:VRs G vs ws){i:Nat}{v:V}(hv:vs[i]?=Ot v):∃w,ws[i]?=Ot w/\VR G v w:=by
 induction vs generalizing ws i with
 | nil=>simp at hv
 | cons x vs ih=>
  cases h with
  | cons _ w _ ws hx t=>
   cases i with
   | zero=>simp at hv;subst hv;exact⟨w,by simp,hx⟩
   | succ i=>simp at hv;simpa using ih t hv
theorem VRs.of{G:Gh}{vs:On V}{ws:On O'}(hl:vs.length=ws.length)(h:∀(i:Nat) (v:V) (w:O'),vs[i]?=Ot v->ws[i]?=Ot w->VR G v w):VRs G vs ws:=by
 induction vs generalizing ws with
 | nil=>cases ws with
  | nil=>exact .nil
  | cons w ws=>simp at hl
 | cons v vs ih=>cases ws with
  | nil=>simp at hl
  | cons w ws=>
   refine .cons v w vs ws (h 0 v w (by simp) (by simp)) (ih (by simpa using hl) λi v w hv hw=>h (i+1) v w (by simpa using hv) (by simpa using hw))
theorem VRs.append{G:Gh}{a b:On V}{x y:On O'}(h:VRs G a x)(k:VRs G b y):VRs G (a++b) (x++y):=by
 induction a generalizing x with
 | nil=>cases h;simpa using k
 | cons v a ih=>cases h with | cons _ w _ ws hv t=>exact .cons v w _ _ hv (ih t)
theorem VRs.take{G:Gh}{a:On V}{x:On O'}(h:VRs G a x)(n:Nat):VRs G (a.take n) (x.take n):=by
 refine VRs.of (by simp[h.length]) λi v w hv hw=>?_;rw[Qp] at hv hw;split at hv
 ·obtain⟨w',je,r⟩:=h.get hv;rw[OE (by assumption)] at hw;rw[je] at hw;cases hw;exact r
 ·cases hv
theorem VRs.drop{G:Gh}{a:On V}{x:On O'}(h:VRs G a x)(n:Nat):VRs G (a.drop n) (x.drop n):=by
 refine VRs.of (by simp[h.length]) λi v w hv hw=>?_;rw[PP] at hv hw;obtain⟨w',je,r⟩:=h.get hv;rw[je] at hw;cases hw;exact r
theorem VR.cells{G:Gh}{v:V}{w:O'}(h:VR G v w):VRs G v.cells w.cells.toList:=by
 cases h<;>first
  | (simp only[V.cells,Yy];assumption)
  | (simp only[V.cells,Yy];exact .cons _ _ _ _ (by constructor<;>assumption) .nil)
  | skip
theorem VR.one{G:Gh}{v:V}{w:O'}(h:VR G v w)(ho:v.one=OB):w.oneCell'=true:=by
 cases h<;>first | rfl | (simp[V.one] at ho)
theorem aLe(G:Gh){w:O'}{v:V}(h:sC w=Ot v):VR G v w:=by
 unfold sC at h;split at h<;>first | (cases h;first | exact .bool _ | exact .int _ _ | exact .nilp | exact .nils | exact .nili | exact .nilf | exact .nilm | skip) | skip
 rename_i s;obtain⟨⟨l⟩⟩:=s;exact .str l
theorem aEn(G:Gh):∀{ws:On O'} {vs:On V},nQ ws=Ot vs->VRs G vs ws
 | [],vs,h=>by simp[nQ] at h;subst h;exact .nil
 | w::ws,vs,h=>by
  simp only[nQ] at h;split at h
  ·rename_i x hx;split at h
   ·rename_i xs pn;cases h;exact .cons _ _ _ _ (aLe G hx) (aEn G pn)
   ·cases h
  ·cases h
theorem gH(G:Gh){w:O'}{v:V}(h:ofValue w=Ot v):VR G v w:=by
 unfold ofValue at h;split at h
 ·split at h
  ·rename_i hx;cases h;exact .agg _ _ (aEn G hx)
  ·cases h
 ·exact aLe G h
structure Same (W W':PE):Prop where
 os:W'.os=W.os
 tape:W'.tape=W.tape
 output:W'.output=W.output
 size:W.heap.size<=W'.heap.size
theorem Same.refl(W:PE):Same W W:=⟨rfl,rfl,rfl,Ov _⟩
theorem Same.trans{A B C:PE}(h:Same A B)(k:Same B C):Same A C:=
 ⟨k.os.trans h.os,k.tape.trans h.tape,k.output.trans h.output,QC h.size k.size⟩
theorem Same.drew(W:PE):Same W W.drew:=⟨rfl,rfl,rfl,Ov _⟩
theorem Same.alloc(W:PE)(o:Obj):Same W (W.alloc o):=⟨rfl,rfl,rfl,by simp⟩
def RowR(G:Gh)(c:Pa O')(o es:Nat)(elems:On (On V)):Prop:=
 ∀i cs,elems[i]?=Ot cs->cs.length=es/\∀j v,cs[j]?=Ot v->∃w,c[o+i*es+j]?=Ot w/\VR G v w
theorem RowR.mono{G G':Gh}(hg:G.le G'){c:Pa O'}{o es:Nat}{elems:On (On V)}(h:RowR G c o es elems):RowR G' c o es elems:=
 λi cs hc=>⟨(h i cs hc).1,λj v hv=>let ⟨w,a,b⟩:=(h i cs hc).2 j v hv;⟨w,a,b.mono hg⟩⟩
def aLf(G:Gh)(H:Pa Obj)(L:Loc)(ver es:Nat)(elems:On (On V)):Prop:=
 L.ver=ver/\L.es=es/\elems.length<=L.cap/\∃c ty fr,H[L.cb]?=Ot (.cells c ty fr)/\L.co+L.cap*es<=c.size /\
  ((∀o,L.co<=o->o<L.co+L.cap*es->¬(fr.1<=o/\o<fr.2))/\(es≠1->¬(fr.1<=c.size/\c.size<fr.2)))/\RowR G c L.co es elems
inductive MapR (G:Gh):On Sb->On (V×V)->Prop
 | nil:MapR G [] []
 | cons (e:Sb) (k v:V) (es:On Sb) (l:On (V×V)) (hk:VR G k e.key) (hv:VR G v e.val) (t:MapR G es l):MapR G (e::es) ((k,v)::l)
theorem MapR.mono{G G':Gh}(hg:G.le G'):∀{es:On Sb} {l:On (V×V)},MapR G es l->MapR G' es l
 | _,_,.nil=>.nil
 | _,_,.cons e k v es l hk hv t=>.cons e k v es l (hk.mono hg) (hv.mono hg) (t.mono hg)
def BlkAt(G:Gh)(H:Pa Obj)(a:Nat):Blk->Prop
 | .row ver es elems=>∃L,G.loc a=Ot L/\aLf G H L ver es elems
 | .mp kvs=>∃b es clock,G.ml a=Ot b/\H[b]?=Ot (.map es clock)/\MapR G es.toList kvs/\(∀e∈es.toList,e.born<clock)/\(es.toList.map (·.born)).Nodup
 | .iter s pos=>∃L,G.loc a=Ot L/\L.ver=0/\L.co=0/\H[L.cb]?=Ot (.stringIter ⟨⟨s⟩⟩ pos)
def dC(G:Gh)(a i:Nat):Prop:=(∃L,G.loc a=Ot L/\L.cb=i)\/G.ml a=Ot i
structure RelH (F:Nat->Ow Obj) (G:Gh) (nx:Nat) (hp:Nat->Ow Blk) (H:Pa Obj):Prop where
 fresh:∀a,nx<=a->G.loc a=OG/\G.ml a=OG
 sep:∀a L,G.loc a=Ot L->G.ml a=OG
 blk:∀a b,hp a=Ot b->BlkAt G H a b
 inj:∀a a' b b' i,hp a=Ot b->hp a'=Ot b'->dC G a i->dC G a' i->a=a'
 fr:∀i o,F i=Ot o->H[i]?=Ot o
 pr:∀i o,G.pr i=Ot o->H[i]?=Ot o
 own:∀a b i,hp a=Ot b->dC G a i->F i=OG/\G.pr i=OG
 lt:∀a i,dC G a i->i<H.size
 small:∀a b,hp a=Ot b->a<tE a
abbrev gJ(F:Nat->Ow Obj)(G:Gh)(S:St)(H:Pa Obj):Prop:=RelH F G S.next S.heap.get H
theorem BlkAt.next{G:Gh}{H:Pa Obj}{a:Nat}{b:Blk}(h:BlkAt G H a b):∃i,dC G a i:=by
 cases b with
 | row ver es elems=>obtain⟨L,hL,_⟩:=h;exact⟨L.cb,.inl ⟨L,hL,rfl⟩⟩
 | mp kvs=>obtain⟨i,_,_,hi,_⟩:=h;exact⟨i,.inr hi⟩
 | iter s pos=>obtain⟨L,hL,_⟩:=h;exact⟨L.cb,.inl ⟨L,hL,rfl⟩⟩
theorem RelH.alive{F:Nat->Ow Obj}{G:Gh}{nx:Nat}{hp:Nat->Ow Blk}{H:Pa Obj}(R:RelH F G nx hp H){a:Nat}{b:Blk}(h:hp a=Ot b):a<nx:=by
 rcases Q' a nx with k | k
 ·exact k
 ·obtain⟨i,hi⟩:=(R.blk a b h).next
  have:=R.fresh a k
  rcases hi with ⟨L,hL,_⟩ | hi
  ·rw[this.1] at hL;cases hL
  ·rw[this.2] at hi;cases hi
theorem Gh.le_set{G:Gh}{a:Nat}{L L':Loc}(hL:G.loc a=Ot L)(tc:L'=L\/L.ver<L'.ver):G.le { G with loc:=λx=>if x=a then Ot L' else G.loc x }:=by
 refine⟨λx K hK=>?_,λ_ _ h=>h,λ_ _ h=>h,rfl⟩;by_cases hx:x=a
 ·subst hx;rw[hL] at hK;cases hK;exact⟨L',by simp,tc⟩
 ·exact⟨K,by simp[hx,hK],.inl rfl⟩
theorem RelH.setBlk{F:Nat->Ow Obj}{G:Gh}{S:St}{H H':Pa Obj}(R:gJ F G S H){a:Nat}{b0:Blk}(bg:S.heap.get a=Ot b0)
  {L L':Loc} (hL:G.loc a=Ot L) (tc:L'=L\/L.ver<L'.ver) (dv:L'.cb=L.cb\/L'.cb=H.size)
  (db:∀i,i<H.size->i≠L'.cb->H'[i]?=H[i]?) (bk:H.size<=H'.size) (ag:L'.cb<H'.size) {nb:Blk}
  (row:BlkAt { G with loc:=λx=>if x=a then Ot L' else G.loc x } H' a nb):
  G.le { G with loc:=λx=>if x=a then Ot L' else G.loc x } /\
  gJ F { G with loc:=λx=>if x=a then Ot L' else G.loc x } ⟨S.next,S.heap.put a nb⟩ H':=by
 have cq:=R.small a b0 bg;have hle:G.le { G with loc:=λx=>if x=a then Ot L' else G.loc x }:=by
  refine⟨λx K hK=>?_,λ_ _ h=>h,λ_ _ h=>h,rfl⟩;by_cases hx:x=a
  ·subst hx;rw[hL] at hK;cases hK;exact⟨L',by simp,tc⟩
  ·exact⟨K,by simp[hx,hK],.inl rfl⟩
 have holds:∀x i,x≠a->dC { G with loc:=λx=>if x=a then Ot L' else G.loc x } x i->dC G x i:=by
  intro x i hx h;rcases h with ⟨K,hK,e⟩ | h
  ·simp[hx] at hK;exact .inl ⟨K,hK,e⟩
  ·exact .inr h
 have pq:∀i,dC { G with loc:=λx=>if x=a then Ot L' else G.loc x } a i->i=L'.cb:=by
  intro i h;rcases h with ⟨K,hK,e⟩ | h
  ·simp at hK;subst hK;exact e.symm
  ·have:=R.sep a L hL
   change G.ml a=Ot i at h
   rw[this] at h;cases h
 have Fd:dC G a L.cb:=.inl ⟨L,hL,rfl⟩;have nota:∀x b,S.heap.get x=Ot b->x≠a->¬dC G x L'.cb:=by
  intro x b hb hx h;rcases dv with e | e
  ·rw[e] at h;exact hx (R.inj x a b b0 L.cb hb bg h Fd)
  ·have:=R.lt x _ h;omega
 refine⟨hle,?_⟩;constructor
 ·intro x hx;have AD:S.next<=x:=hx
  have:x≠a:=λe=>by have:=R.alive bg;omega
  simp only[this,Ou];exact R.fresh x AD
 ·intro x K hK;by_cases hx:x=a
  ·subst hx;exact R.sep _ L hL
  ·simp[hx] at hK;exact R.sep x K hK
 ·intro x b hb;simp only at hb;rw[Tr.get_putB _ _ _ _ cq] at hb;by_cases hx:x=a
  ·subst hx;simp at hb;subst hb;exact row
  ·rw[Oz hx] at hb;have old:=R.blk x b hb;cases b with
   | row bd dz jw=>
    obtain⟨K,hK,r1,r2,r3,c,ty,fr,hc,r4,r5,r6⟩:=old;have ah:K.cb≠L'.cb:=λe=>nota x _ hb hx (.inl ⟨K,hK,e⟩);exact⟨K,by simp[hx,hK],r1,r2,r3,c,ty,fr,by rw[db _ (R.lt x _ (.inl ⟨K,hK,rfl⟩)) ah];exact hc,r4,r5,r6.mono hle⟩
   | mp kvs=>
    obtain⟨i,dz,clock,hi,hH,r1,r2⟩:=old;have ah:i≠L'.cb:=λe=>nota x _ hb hx (.inr (e▸hi));exact⟨i,dz,clock,hi,by rw[db _ (R.lt x _ (.inr hi)) ah];exact hH,r1.mono hle,r2⟩
   | iter s pos=>
    obtain⟨K,hK,r1,r2,hH⟩:=old;have ah:K.cb≠L'.cb:=λe=>nota x _ hb hx (.inl ⟨K,hK,e⟩);exact⟨K,by simp[hx,hK],r1,r2,by rw[db _ (R.lt x _ (.inl ⟨K,hK,rfl⟩)) ah];exact hH⟩
 ·intro x y b b' i hb bm h1 h2;simp only at hb bm;rw[Tr.get_putB _ _ _ _ cq] at hb bm;by_cases hx:x=a
  ·by_cases hy:y=a
   ·rw[hx,hy]
   ·rw[Oz hy] at bm;subst hx;have e:=pq i h1;subst e;exact absurd (holds y _ hy h2) (nota y b' bm hy)
  ·rw[Oz hx] at hb;by_cases hy:y=a
   ·subst hy;have e:=pq i h2;subst e;exact absurd (holds x _ hx h1) (nota x b hb hx)
   ·rw[Oz hy] at bm;exact R.inj x y b b' i hb bm (holds x i hx h1) (holds y i hy h2)
 ·intro i o h;have dt:i<H.size:=by
   have:=R.fr i o h
   exact(PF.1 this).1
  rw[db i dt ?_]
  ·exact R.fr i o h
  ·intro e;rcases dv with e' | e'
   ·have:=(R.own a b0 L.cb bg Fd).1
    rw[e,e',this] at h;cases h
   ·omega
 ·intro i o h;have dt:i<H.size:=by
   have:=R.pr i o h
   exact(PF.1 this).1
  rw[db i dt ?_]
  ·exact R.pr i o h
  ·intro e;rcases dv with e' | e'
   ·have:=(R.own a b0 L.cb bg Fd).2
    change G.pr i=Ot o at h
    rw[e,e',this] at h;cases h
   ·omega
 ·intro x b i hb h;simp only at hb;rw[Tr.get_putB _ _ _ _ cq] at hb;by_cases hx:x=a
  ·subst hx;have e:=pq i h;subst e;rcases dv with e' | e'
   ·rw[e'];exact R.own _ b0 L.cb bg Fd
   ·constructor
    ·cases hF:F L'.cb with
     | none=>rfl
     | some o=>
      have:=(PF.1 (R.fr _ o hF)).1;omega
    ·cases hF:G.pr L'.cb with
     | none=>rfl
     | some o=>
      have:=(PF.1 (R.pr _ o hF)).1;omega
  ·rw[Oz hx] at hb;exact R.own x b i hb (holds x i hx h)
 ·intro x i h;by_cases hx:x=a
  ·subst hx;rw[pq i h];exact ag
  ·exact RE (R.lt x i (holds x i hx h)) bk
 ·intro x b hb;simp only at hb;rw[Tr.get_putB _ _ _ _ cq] at hb;by_cases hx:x=a
  ·subst hx;exact cq
  ·rw[Oz hx] at hb;exact R.small x b hb
theorem RelH.setRow{F:Nat->Ow Obj}{G:Gh}{S:St}{H H':Pa Obj}(R:gJ F G S H){a:Nat}{b0:Blk}(bg:S.heap.get a=Ot b0)
  {L L':Loc} (hL:G.loc a=Ot L) (tc:L'=L\/L.ver<L'.ver) (dv:L'.cb=L.cb\/L'.cb=H.size)
  (db:∀i,i<H.size->i≠L'.cb->H'[i]?=H[i]?) (bk:H.size<=H'.size) (ag:L'.cb<H'.size) {ver es:Nat} {elems:On (On V)}
  (row:aLf { G with loc:=λx=>if x=a then Ot L' else G.loc x } H' L' ver es elems):
  G.le { G with loc:=λx=>if x=a then Ot L' else G.loc x } /\
  gJ F { G with loc:=λx=>if x=a then Ot L' else G.loc x } ⟨S.next,S.heap.put a (.row ver es elems)⟩ H':=
 R.setBlk bg hL tc dv db bk ag (nb:=.row ver es elems) ⟨L',by simp,row⟩
theorem RelH.keepBlk{F:Nat->Ow Obj}{G:Gh}{S:St}{H H':Pa Obj}(R:gJ F G S H){a:Nat}{b0:Blk}(bg:S.heap.get a=Ot b0)
  {L:Loc} (hL:G.loc a=Ot L) (db:∀i,i≠L.cb->H'[i]?=H[i]?) (bk:H'.size=H.size) {nb:Blk} (row:BlkAt G H' a nb):gJ F G ⟨S.next,S.heap.put a nb⟩ H':=by
 have e:{ G with loc:=λx=>if x=a then Ot L else G.loc x }=G:=by
  cases G with
  | mk loc ml pr=>
   congr 1
   funext x;by_cases hx:x=a
   ·subst hx;simpa using hL.symm
   ·simp[hx]
 have:=R.setBlk (H':=H') bg hL (.inl rfl) (.inl rfl) (λi _ hi=>db i hi) (by omega) (by rw[bk];exact R.lt a _ (.inl ⟨L,hL,rfl⟩)) (nb:=nb) (by rw[e];exact row)
 rw[e] at this;exact this.2
theorem RelH.keepRow{F:Nat->Ow Obj}{G:Gh}{S:St}{H H':Pa Obj}(R:gJ F G S H){a:Nat}{b0:Blk}(bg:S.heap.get a=Ot b0)
  {L:Loc} (hL:G.loc a=Ot L) (db:∀i,i≠L.cb->H'[i]?=H[i]?) (bk:H'.size=H.size) {ver es:Nat} {elems:On (On V)}
  (row:aLf G H' L ver es elems):gJ F G ⟨S.next,S.heap.put a (.row ver es elems)⟩ H':=by
 have e:{ G with loc:=λx=>if x=a then Ot L else G.loc x }=G:=by
  cases G with
  | mk loc ml pr=>
   congr 1
   funext x;by_cases hx:x=a
   ·subst hx;simpa using hL.symm
   ·simp[hx]
 have:=R.setRow (H':=H') bg hL (.inl rfl) (.inl rfl) (λi _ hi=>db i hi) (by omega) (by rw[bk];exact R.lt a _ (.inl ⟨L,hL,rfl⟩)) (ver:=ver) (es:=es) (elems:=elems) (by rw[e];exact row)
 rw[e] at this;exact this.2
theorem RelH.allocBlk{F:Nat->Ow Obj}{G:Gh}{S:St}{H:Pa Obj}(R:gJ F G S H){k nx:Nat}(hk:G.loc k=OG)(hm:G.ml k=OG)(cq:k<tE k)
  (hn:S.next<=nx) (xg:k<nx) {ob:Obj} {cap es:Nat} {nb:Blk}
  (al:G.le { G with loc:=λx=>if x=k then Ot ⟨0,H.size,0,cap,es⟩ else G.loc x }->BlkAt { G with loc:=λx=>if x=k then Ot ⟨0,H.size,0,cap,es⟩ else G.loc x } (H.push ob) k nb):
  G.le { G with loc:=λx=>if x=k then Ot ⟨0,H.size,0,cap,es⟩ else G.loc x } /\
  gJ F { G with loc:=λx=>if x=k then Ot ⟨0,H.size,0,cap,es⟩ else G.loc x } ⟨nx,S.heap.put k nb⟩ (H.push ob):=by
 have hle:G.le { G with loc:=λx=>if x=k then Ot ⟨0,H.size,0,cap,es⟩ else G.loc x }:=by
  refine⟨λx K hK=>?_,λ_ _ h=>h,λ_ _ h=>h,rfl⟩;have hx:x≠k:=λe=>by rw[e,hk] at hK;cases hK
  exact⟨K,by simp[hx,hK],.inl rfl⟩
 have holds:∀x i,x≠k->dC { G with loc:=λx=>if x=k then Ot ⟨0,H.size,0,cap,es⟩ else G.loc x } x i->dC G x i:=by
  intro x i hx h;rcases h with ⟨K,hK,e⟩ | h
  ·simp[hx] at hK;exact .inl ⟨K,hK,e⟩
  ·exact .inr h
 have fh:∀i,dC { G with loc:=λx=>if x=k then Ot ⟨0,H.size,0,cap,es⟩ else G.loc x } k i->i=H.size:=by
  intro i h;rcases h with ⟨K,hK,e⟩ | h
  ·simp at hK;subst hK;exact e.symm
  ·change G.ml k=Ot i at h
   rw[hm] at h;cases h
 have old:∀i,i<H.size->(H.push ob)[i]?=H[i]?:=by
  intro i hi;rw[TR,Oz (by omega)]
 refine⟨hle,?_⟩;constructor
 ·intro x hx;have AD:nx<=x:=hx
  have:x≠k:=by omega
  simp only[this,Ou];exact R.fresh x (by omega)
 ·intro x K hK;by_cases hx:x=k
  ·subst hx;exact hm
  ·simp[hx] at hK;exact R.sep x K hK
 ·intro x b hb;simp only at hb;rw[Tr.get_putB _ _ _ _ cq] at hb;by_cases hx:x=k
  ·subst hx;simp at hb;subst hb;exact al hle
  ·rw[Oz hx] at hb;have hold:=R.blk x b hb;cases b with
   | row bd dz jw=>
    obtain⟨K,hK,r1,r2,r3,c',ze,mn,hc,r4,r5,r6⟩:=hold;exact⟨K,by simp[hx,hK],r1,r2,r3,c',ze,mn,by rw[old _ (R.lt x _ (.inl ⟨K,hK,rfl⟩))];exact hc,r4,r5,r6.mono hle⟩
   | mp kvs=>
    obtain⟨i,dz,clock,hi,hH,r1,r2⟩:=hold;exact⟨i,dz,clock,hi,by rw[old _ (R.lt x _ (.inr hi))];exact hH,r1.mono hle,r2⟩
   | iter s pos=>
    obtain⟨K,hK,r1,r2,hH⟩:=hold;exact⟨K,by simp[hx,hK],r1,r2,by rw[old _ (R.lt x _ (.inl ⟨K,hK,rfl⟩))];exact hH⟩
 ·intro x y b b' i hb bm h1 h2;simp only at hb bm;rw[Tr.get_putB _ _ _ _ cq] at hb bm;by_cases hx:x=k
  ·by_cases hy:y=k
   ·rw[hx,hy]
   ·subst hx;have e:=fh i h1;subst e
    have:=R.lt y _ (holds y _ hy h2);omega
  ·rw[Oz hx] at hb;by_cases hy:y=k
   ·subst hy;have e:=fh i h2;subst e
    have:=R.lt x _ (holds x _ hx h1);omega
   ·rw[Oz hy] at bm;exact R.inj x y b b' i hb bm (holds x i hx h1) (holds y i hy h2)
 ·intro i o h;have dt:i<H.size:=(PF.1 (R.fr i o h)).1;rw[old i dt];exact R.fr i o h
 ·intro i o h;have dt:i<H.size:=(PF.1 (R.pr i o h)).1;rw[old i dt];exact R.pr i o h
 ·intro x b i hb h;simp only at hb;rw[Tr.get_putB _ _ _ _ cq] at hb;by_cases hx:x=k
  ·subst hx;have e:=fh i h;subst e;constructor
   ·cases hF:F H.size with
    | none=>rfl
    | some o=>have:=(PF.1 (R.fr _ o hF)).1;omega
   ·cases hF:G.pr H.size with
    | none=>rfl
    | some o=>have:=(PF.1 (R.pr _ o hF)).1;omega
  ·rw[Oz hx] at hb;exact R.own x b i hb (holds x i hx h)
 ·intro x i h;by_cases hx:x=k
  ·subst hx;rw[fh i h];simp
  ·have:=R.lt x i (holds x i hx h);simp;omega
 ·intro x b hb;simp only at hb;rw[Tr.get_putB _ _ _ _ cq] at hb;by_cases hx:x=k
  ·subst hx;exact cq
  ·rw[Oz hx] at hb;exact R.small x b hb
theorem RelH.alloc{F:Nat->Ow Obj}{G:Gh}{S:St}{H:Pa Obj}(R:gJ F G S H){k nx:Nat}(hk:G.loc k=OG)(hm:G.ml k=OG)(cq:k<tE k)
  (hn:S.next<=nx) (xg:k<nx) {c:Pa O'} {ty:OH} {fr:Nat×Nat} {cap es:Nat} {elems:On (On V)} (hlen:elems.length<=cap) (bk:cap*es<=c.size)
  (qt:∀o,o<cap*es->¬(fr.1<=o/\o<fr.2)) (Gi:es≠1->¬(fr.1<=c.size/\c.size<fr.2)) (al:RowR G c 0 es elems):
  G.le { G with loc:=λx=>if x=k then Ot ⟨0,H.size,0,cap,es⟩ else G.loc x } /\
  gJ F { G with loc:=λx=>if x=k then Ot ⟨0,H.size,0,cap,es⟩ else G.loc x } ⟨nx,S.heap.put k (.row 0 es elems)⟩ (H.push (.cells c ty fr)):=by
 refine R.allocBlk hk hm cq hn xg (nb:=.row 0 es elems) (λhle=>?_);refine⟨⟨0,H.size,0,cap,es⟩,by simp,rfl,rfl,hlen,c,ty,fr,by simp,by simpa using bk,⟨?_,Gi⟩,al.mono hle⟩;intro o _ ho;exact qt o (by simpa using ho)
def CellsAt(G:Gh)(W:PE)(b o:Nat)(cs:On V):Prop:=
 ∀q v,cs[q]?=Ot v->∃w,W.cell? ⟨b,o+q,OG⟩=Ot w/\VR G v w
theorem CellsAt.values{G:Gh}{W:PE}{b o:Nat}{cs:On V}(h:CellsAt G W b o cs):
  ∃ws,VRs G cs ws/\∀q w,ws[q]?=Ot w->W.cell? ⟨b,o+q,OG⟩=Ot w:=by
 induction cs generalizing o with
 | nil=>exact⟨[],.nil,by simp⟩
 | cons v cs ih=>
  obtain⟨w,hw,hv⟩:=h 0 v (by simp);obtain⟨ws,h1,h2⟩:=ih (o:=o+1) (λq v hv=>by
   obtain⟨w,a,b⟩:=h (q+1) v (by simpa using hv);exact⟨w,by rw[show o+1+q=o+(q+1) by omega];exact a,b⟩)
  refine⟨w::ws,.cons _ _ _ _ hv h1,λq w' hq=>?_⟩;cases q with
  | zero=>simp at hq;subst hq;exact hw
  | succ q=>
   have:=h2 q w' (by simpa using hq)
   rw[show o+(q+1)=o+1+q by omega];exact this
theorem iU(b o n:Nat):(Addr.mk b o OG).add n=⟨b,o+n,OG⟩:=by
 unfold Addr.add;split
 ·subst n;rfl
 ·rfl
theorem eS{P:OI}{t:OH}{d:XQ}(h:P.underlying t=Ot d)(W:PE):(sizeOf t).run P W=.ok (sz P t) W:=by
 have:∃i,P.info? t=Ot i:=by
  unfold Program.underlying at h;cases hi:P.info? t with
  | none=>rw[hi] at h;cases h
  | some i=>exact⟨i,rfl⟩
 obtain⟨i,hi⟩:=this;simp[sizeOf,SX,hi,sz,Vp]
theorem aHl{P:OI}{t:OH}{d:XQ}(h:P.underlying t=Ot d)(W:PE):(Go.isAgg t).run P W=.ok (aVa d) W:=by
 simp only[Go.isAgg,Pk,OW h,Pb];cases d<;>rfl
theorem tO{P:OI}{t:OH}{cs:On V}{off:Nat}{v:V}(h:uM P t cs off=.ok v){G:Gh}{ws:On O'}(hw:VRs G cs ws)(W:PE):
  ∃w,(part t ws.toArray off).run P W=.ok w W/\VR G v w:=by
 unfold uM at h;split at h
 ·cases h
 ·rename_i d hd;simp only[part,Pk,aHl hd,Pb];cases ha:aVa d
  ·rw[ha] at h;simp only[cond_false] at h;simp only[OO,Ou];split at h
   ·rename_i x hx;cases h;obtain⟨w,a,b⟩:=hw.get hx;exact⟨w,by simp[a],b⟩
   ·cases h
  ·rw[ha] at h;simp only[PW] at h;simp only[cond_eq_ite] at h;split at h
   ·cases h;simp only[Oy,Pk,eS hd,Pb];refine⟨_,rfl,?_⟩;refine .agg _ _ ?_
    have:(ws.toArray.extract off (off+sz P t)).toList=(ws.drop off).take (sz P t):=by
     simp[Wp]
    rw[this];exact(hw.drop off).take _
   ·cases h
theorem yA{P:OI}{t:OH}{cs:On V}{j:Nat}{v:V}(h:uM P t cs j=.ok v){G:Gh}{W:PE}{b o:Nat}(hc:CellsAt G W b o cs):
  ∃w,(loadVar t ⟨b,o+j,OG⟩).run P W=.ok w W/\VR G v w:=by
 unfold uM at h;split at h
 ·cases h
 ·rename_i d hd;simp only[loadVar,Pk,aHl hd,Pb];cases ha:aVa d
  ·rw[ha] at h;simp only[cond_false] at h;simp only[OO,Ou];split at h
   ·rename_i x hx;cases h;obtain⟨w,a,b⟩:=hc _ _ hx;exact⟨w,by simp[run_load,a],b⟩
   ·cases h
  ·rw[ha] at h;simp only[PW] at h;simp only[cond_eq_ite] at h;split at h
   ·rename_i hle;cases h;have jf:j+sz P t<=cs.length:=by simpa using hle
    simp only[Oy,Pk,eS hd,Pb];obtain⟨ws,h1,h2⟩:=hc.values;have hlen:((ws.drop j).take (sz P t)).length=sz P t:=by
     have:=h1.length
     simp;omega
    have:=TZ (P:=P) W ⟨b,o+j,OG⟩ ((ws.drop j).take (sz P t)) (λq w hq=>by
     rw[iU,show o+j+q=o+(j+q) by omega];refine h2 (j+q) w ?_;rw[Qp] at hq;split at hq
     ·rw[PP] at hq;exact hq
     ·cases hq)
    rw[hlen] at this;rw[this];exact⟨_,rfl,.agg _ _ (by simpa using(h1.drop j).take (sz P t))⟩
   ·cases h
theorem dJ{W:PE}{b:Nat}{c:Pa O'}{ty:OH}{fr:Nat×Nat}(h:W.heap[b]?=Ot (.cells c ty fr))(o:Nat):W.cell? ⟨b,o,OG⟩=c[o]?:=by
 simp[Yz,h]
theorem RowR.cellsAt{G:Gh}{W:PE}{L:Loc}{c:Pa O'}{ty:OH}{fr:Nat×Nat}{es:Nat}{elems:On (On V)}(hb:W.heap[L.cb]?=Ot (.cells c ty fr))
  (h:RowR G c L.co es elems) {i:Nat} {cs:On V} (hi:elems[i]?=Ot cs):CellsAt G W L.cb (L.co+i*es) cs:=by
 intro q v hv;obtain⟨w,a,b⟩:=(h i cs hi).2 q v hv;exact⟨w,by rw[dJ hb];exact a,b⟩
theorem iW{S:St}{a ver es:Nat}{elems:On (On V)}(h:aC S a ver=.ok (es,elems)):S.heap.get a=Ot (.row ver es elems):=by
 unfold aC at h;split at h
 ·rename_i v dz el hg;cases hb:Pw v ver
  ·rw[hb] at h;cases h
  ·rw[hb] at h;simp only[PW] at h;cases h;rw[hg,Qv hb]
 ·cases h
theorem aEo{P:OI}{t:OH}{p:V}{S:St}{v:V}(h:oG P t p S=.ok v){F:Nat->Ow Obj}{G:Gh}{W:PE}(R:gJ F G S W.heap)
  {q:O'} (hq:VR G p q):∃w,(Vh t q).run P W=.ok w W/\VR G v w:=by
 unfold oG at h;split at h
 ·rename_i a ver i j;split at h
  ·cases h
  ·rename_i es elems al;have hr:=iW al;split at h
   ·rename_i cs hcs;cases hq with
    | ptr _ _ _ _ ad hp=>
     obtain⟨L,hL,hp⟩:=hp;obtain⟨L',cy,r1,r2,r3,c,ty,fr,hc,r4,r5,r6⟩:=R.blk a _ hr;rw[hL] at cy;cases cy;rcases hp with hp | ⟨_,rfl⟩
     ·omega
     ·obtain⟨w,a1,a2⟩:=yA h (r6.cellsAt hc hcs);refine⟨w,?_,a2⟩;simp only[Vh,Ue,Pk,Qs,Pb];rw[r2];exact a1
   ·cases h
 ·rename_i cs j;cases hq with
  | iptr _ _ b o c ty fr hb vs hv dh=>
   have hH:=R.pr _ _ hb;obtain⟨w,a1,a2⟩:=yA (G:=G) (W:=W) (b:=b) (o:=o) h (λq v hq=>by
    obtain⟨w,x,y⟩:=dh.get hq;exact⟨w,by rw[dJ hH];exact hv _ _ x,y.mono G.shut_le⟩)
   exact⟨w,by simp only[Vh,Ue,Pk,Qs,Pb];exact a1,a2⟩
 ·cases h
def bH(c:Pa O')(o:Nat):On O'->Pa O'
 | []=>c
 | v::l=>bH (c.setIfInBounds o v) (o+1) l
theorem bK(c:Pa O')(o:Nat)(l:On O'):(bH c o l).size=c.size:=by
 induction l generalizing c o with
 | nil=>rfl
 | cons v l ih=>simp[bH,ih]
theorem cR(c:Pa O')(o:Nat)(l:On O')(k:Nat):
  (bH c o l)[k]?=if o<=k/\k<o+l.length/\k<c.size then l[k - o]? else c[k]?:=by
 induction l generalizing c o with
 | nil=>simp only[bH,Pf];rw[Oz (by omega)]
 | cons v l ih=>
  simp only[bH,ih,Array.size_setIfInBounds,OQ];by_cases h1:k=o
  ·subst h1;rw[Oz (by omega)];by_cases h2:k<c.size
   ·rw[OE (by omega)];simp[h2]
   ·rw[Oz (by omega)];simp[h2]
  ·rw[Sj (by omega)];by_cases h2:o+1<=k/\k<o+1+l.length/\k<c.size
   ·rw[OE h2,OE (by omega)];obtain⟨m,rfl⟩:∃m,k=o+1+m:=⟨k - (o+1),by omega⟩;rw[show o+1+m - (o+1)=m by omega,show o+1+m - o=m+1 by omega];simp
   ·rw[Oz h2,Oz (by omega)]
theorem aJj{W:PE}{b o:Nat}{v:O'}{c:Pa O'}{ty:OH}{fr:Nat×Nat}(h:W.heap[b]?=Ot (.cells c ty fr)):
  (W.setCell ⟨b,o,OG⟩ v).heap[b]?=Ot (.cells (c.setIfInBounds o v) ty fr)/\(∀k,k≠b->(W.setCell ⟨b,o,OG⟩ v).heap[k]?=W.heap[k]?) /\
  (W.setCell ⟨b,o,OG⟩ v).heap.size=W.heap.size/\Same W (W.setCell ⟨b,o,OG⟩ v):=by
 refine⟨?_,?_,by simp,⟨rfl,rfl,rfl,by simp⟩⟩
 ·simp[XY,UI,h]
 ·intro k hk;simp only[XY,UI];rw[Oz (by omega)]
theorem fH{P:OI}{b o:Nat}{ty:OH}{fr:Nat×Nat}:∀(l:On O') (i:Nat) (W:PE) (c:Pa O'),
  W.heap[b]?=Ot (.cells c ty fr)->(∀v∈l,v.oneCell'=OB)->o+i+l.length<=c.size->(∀k,o+i<=k->k<o+i+l.length->¬(fr.1<=k/\k<fr.2))->
  ∃W',(VN ⟨b,o,OG⟩ l i).run P W=.ok () W'/\W'.heap[b]?=Ot (.cells (bH c (o+i) l) ty fr)/\(∀k,k≠b->W'.heap[k]?=W.heap[k]?) /\
   W'.heap.size=W.heap.size/\Same W W':=by
 intro l
 induction l with
 | nil=>
  intro i W c hb _ _ _;exact⟨W,by simp[VN],by simpa[bH] using hb,λ_ _=>rfl,rfl,Same.refl W⟩
 | cons v l ih=>
  intro i W c hb ho hs hf;have jl:W.cell? ⟨b,o+i,OG⟩=Ot (c[o+i]'(by simp at hs;omega)):=by
   rw[dJ hb];exact Qu _
  have td:W.frozen? ⟨b,o+i,OG⟩=false:=by
   have:=hf (o+i) (by omega) (by simp)
   simp only[World.frozen?,hb];simp only[Bool.and_eq_false_iff,decide_eq_false_iff_not];omega
  obtain⟨h1,h2,h3,h4⟩:=aJj (o:=o+i) (v:=v) hb;obtain⟨W',r1,r2,r3,r4,r5⟩:=ih (i+1) (W.setCell ⟨b,o+i,OG⟩ v) (c.setIfInBounds (o+i) v) h1 (λx hx=>ho x (OY _ hx))
   (by simp at hs|-;omega) (λk qv di=>hf k (by omega) (by simp;omega))
  refine⟨W',?_,?_,λk hk=>(r3 k hk).trans (h2 k hk),r4.trans h3,h4.trans r5⟩
  ·simp only[VN,Pk,iU,run_store P W _ v _ (ho v (by simp)),jl,td,OO,Ou,Pb];exact r1
  ·simpa[bH,SO] using r2
theorem kW{l:On V}(h:aH l=OB){v:V}(hv:v∈l):v.one=true:=PD.1 h v hv
theorem VRs.ones{G:Gh}{vs:On V}{ws:On O'}(h:VRs G vs ws)(ho:aH vs=OB):∀w∈ws,w.oneCell'=true:=by
 intro w hw;obtain⟨i,hi,e⟩:=List.getElem_of_mem hw;have df:i<vs.length:=by rw[h.length];exact hi
 obtain⟨w',je,r⟩:=h.get (i:=i) (v:=vs[i]) (by simp)
 have:w'=w:=by
  rw[List.getElem?_eq_getElem hi] at je;exact(Qz je).symm.trans e
 subst this;exact r.one (kW ho (List.getElem_mem _))
theorem yB(cs:On V)(j:Nat)(xs:On V)(h:j+xs.length<=cs.length):(splice cs j xs).length=cs.length:=by
 simp[splice];omega
theorem yQ(cs:On V)(j:Nat)(xs:On V)(h:j+xs.length<=cs.length)(k:Nat):
  (splice cs j xs)[k]?=if j<=k/\k<j+xs.length then xs[k - j]? else cs[k]?:=by
 unfold splice;by_cases h1:k<j
 ·rw[Oz (by omega),Pr (by simp;omega),Qp,OE h1]
 ·rw[Pe (by simp;omega)];have e:(cs.take j).length=j:=by simp;omega
  rw[e];by_cases h2:k<j+xs.length
  ·rw[OE (by omega),Pr (by omega)]
  ·rw[Oz (by omega),Pe (by omega),PP]
   congr 1;omega
theorem aLg{P:OI}{t:OH}{p x:V}{S S':St}(h:rN P t p x S=.ok S'){F:Nat->Ow Obj}{G:Gh}{W:PE}(R:gJ F G S W.heap)
  {q y:O'} (hq:VR G p q) (hy:VR G x y):∃W',(Ya t q y).run P W=.ok () W'/\gJ F G S' W'.heap/\Same W W'/\S'.next=S.next/\(∀a,S.heap.get a=OG->S'.heap.get a=OG):=by
 unfold rN at h;split at h
 ·rename_i a ver i j d hd;split at h
  ·cases h
  ·rename_i es elems al;have hr:=iW al;split at h
   ·rename_i cs hcs;rw[cond_eq_ite] at h;split at h
    ·rename_i hc;cases h;simp only[OU,QE,RA] at hc;obtain⟨⟨bk,lh⟩,hle⟩:=hc;cases hq with
     | ptr _ _ _ _ ad hp=>
      obtain⟨L,hL,hp⟩:=hp;obtain⟨L',cy,r1,r2,r3,c,ty,fr,dv,r4,r5,r6⟩:=R.blk a _ hr;rw[hL] at cy;cases cy;rcases hp with hp | ⟨_,rfl⟩
      ·omega
      ·have wh:=hy.cells;have hlen:=wh.length;have hi:i<elems.length:=(Oq.1 hcs).1;have gj:=(r6 i cs hcs).1;have ba:(i+1)*es<=L.cap*es:=Po es (by omega);have MG:i*es+es<=L.cap*es:=by rw[Sf] at ba;exact ba
       obtain⟨W',s1,s2,s3,s4,s5⟩:=fH (P:=P) (b:=L.cb) (o:=L.co+i*L.es+j) (ty:=ty) (fr:=fr) y.cells.toList 0 W c dv (wh.ones lh)
        (by rw[r2];omega) (λk qv di=>r5.1 k (by rw[r2] at qv;omega) (by rw[r2] at di;omega))
       simp only[QT] at s2;refine⟨W',?_,?_,s5,rfl,λx hx=>by
        show(S.heap.put a _).get x=OG;rw[Tr.get_put_neB _ _ _ _ (R.small a _ hr) (λe=>by rw[e,hr] at hx;cases hx)];exact hx⟩
       ·simp only[Ya,Ue,Pk,Qs,Pb,storeVar,eS hd];rw[Oz (by rw[<-bk,hlen];simp)];exact s1
       ·refine R.keepRow hr hL s3 s4 ⟨r1,r2,by simpa using r3,_,ty,fr,s2,by rw[bK];exact r4,⟨r5.1,by rw[bK];exact r5.2⟩,?_⟩;have ce:∀(k:Nat) (w:O'),c[k]?=Ot w->¬(L.co+i*L.es+j<=k/\k<L.co+i*L.es+j+x.cells.length)->
          (bH c (L.co+i*L.es+j) y.cells.toList)[k]?=Ot w:=by
         intro k w hk hn;rw[cR,Oz (by omega)];exact hk
        intro i' ef my;rw[Qi] at my;by_cases Kq:i=i'
        ·subst Kq;rw[OE rfl,OE hi] at my;cases my;refine⟨by rw[yB _ _ _ hle];exact gj,λq v hv=>?_⟩;rw[yQ _ _ _ hle] at hv;split at hv
         ·rename_i hq;obtain⟨w,w1,w2⟩:=wh.get hv;refine⟨w,?_,w2⟩;rw[cR,OE ⟨by rw[r2];omega,by rw[r2];omega,by omega⟩];rw[r2,show L.co+i*es+q - (L.co+i*es+j)=q - j by omega];exact w1
         ·obtain⟨w,w1,w2⟩:=(r6 i cs hcs).2 q v hv;exact⟨w,ce _ w w1 (by rw[r2];omega),w2⟩
        ·rw[Oz Kq] at my;refine⟨(r6 i' ef my).1,λq v hv=>?_⟩;obtain⟨w,w1,w2⟩:=(r6 i' ef my).2 q v hv;have hq:q<es:=by
          have:=(Oq.1 hv).1
          rw[(r6 i' ef my).1] at this;exact this
         refine⟨w,ce _ w w1 ?_,w2⟩;rw[r2];rcases Q' i' i with ag | hge
         ·have:(i'+1)*es<=i*es:=Po es (by omega)
          rw[Sf] at this;omega
         ·have:(i+1)*es<=i'*es:=Po es (by omega)
          rw[Sf] at this;omega
    ·cases h
   ·cases h
 ·cases h
structure Sim (F:Nat->Ow Obj) (fr:Ow Nat) (G:Gh) (S:St) (W:PE) (G':Gh) (S':St) (W':PE):Prop where
 le:G.le G'
 rel:gJ F G' S' W'.heap
 same:Same W W'
 next:S.next<=S'.next
 keep:∀a,S.heap.get a=OG->a<S.next->fr≠Ot a->G'.loc a=G.loc a/\G'.ml a=G.ml a
 dead:∀a,S.heap.get a=OG->a<S.next->fr≠Ot a->S'.heap.get a=OG
 prn:∀i o,G'.pr i=Ot o->G.pr i=Ot o\/F i=OG
theorem Sim.refl{F:Nat->Ow Obj}{fr:Ow Nat}{G:Gh}{S:St}{W:PE}(R:gJ F G S W.heap):Sim F fr G S W G S W:=
 ⟨G.le_refl,R,Same.refl W,Ov _,λ_ _ _ _=>⟨rfl,rfl⟩,λ_ h _ _=>h,λ_ _ h=>.inl h⟩
def vH(fr:Ow Nat)(G:Gh)(S:St):Prop:=∀k,fr=Ot k->k<S.next/\G.loc k=OG/\G.ml k=OG
theorem lL{α:Type}(n:Nat):∀(l:On (On α)),(∀x∈l,x.length=n)->∀(i j:Nat),j<n->l.flatten[i*n+j]?=(l[i]?).bind (·[j]?)
 | [],_,i,j,_=>by simp
 | x::l,h,i,j,hj=>by
  have hx:x.length=n:=h x (by simp);cases i with
  | zero=>simp only[WW,Px,To];rw[Pr (by omega)];simp
  | succ i=>
   rw[To,Sf,Pe (by omega),show i*n+n+j - x.length=i*n+j by omega,lL n l (λy hy=>h y (OY _ hy)) i j hj];simp
theorem cG{α:Type}(n:Nat):∀(l:On (On α)),(∀x∈l,x.length=n)->l.flatten.length=l.length*n
 | [],_=>by simp
 | x::l,h=>by
  rw[To,List.length_append,cG n l (λy hy=>h y (OY _ hy)),h x (by simp),OQ,Sf];omega
theorem lM{G:Gh}{c:Pa O'}{es:Nat}{elems:On (On V)}{ws:On O'}(hl:∀x∈elems,x.length=es)(hv:VRs G elems.flatten ws)
  (hc:∀(k:Nat) (w:O'),ws[k]?=Ot w->c[k]?=Ot w):RowR G c 0 es elems:=by
 intro i cs hi;have hcs:cs∈elems:=OM hi;refine⟨hl cs hcs,λj v hj=>?_⟩;have rm:j<es:=by rw[<-hl cs hcs];exact(Oq.1 hj).1
 have:elems.flatten[i*es+j]?=Ot v:=by rw[lL es elems hl i j rm,hi];exact hj
 obtain⟨w,w1,w2⟩:=hv.get this;exact⟨w,by rw[Px];exact hc _ _ w1,w2⟩
theorem yC{fr:Ow Nat}{S S':St}{es:Nat}{elems:On (On V)}{a:Nat}(h:bR fr S (.row 0 es elems)=.ok (a,S'))
  {F:Nat->Ow Obj} {G:Gh} {W W':PE} (R:gJ F G S W.heap) (hf:vH fr G S) {c:Pa O'} {ty:OH} {fz:Nat×Nat} {cap:Nat} (hW:W'.heap=W.heap.push (.cells c ty fz))
  (hs:Same W W') (hlen:elems.length<=cap) (bk:cap*es<=c.size) (td:∀o,o<cap*es->¬(fz.1<=o/\o<fz.2)) (CK:es≠1->¬(fz.1<=c.size/\c.size<fz.2)) (al:RowR G c 0 es elems):
  ∃G',Sim F fr G S W G' S' W'/\G'.loc a=Ot ⟨0,W.heap.size,0,cap,es⟩:=by
 unfold bR at h;split at h
 ·rw[cond_eq_ite] at h;split at h
  ·rename_i hl;cases h;have fc:S.next<tE S.next:=by simpa using hl
   obtain⟨f1,f2⟩:=R.fresh S.next (Ov _);obtain⟨g1,g2⟩:=R.alloc (k:=S.next) (nx:=S.next+1) f1 f2 fc (by omega) (by omega) (c:=c) (ty:=ty) (fr:=fz) hlen bk td CK al;refine⟨_,⟨g1,by rw[hW];exact g2,hs,by simp,λx hx ag _=>⟨?_,rfl⟩,λx hx ag _=>?_,λ_ _ h=>.inl h⟩,by simp⟩
   ·have:x≠S.next:=by omega
    simp[this]
   ·show(S.heap.put S.next _).get x=OG;rw[Tr.get_put_neB _ _ _ _ fc (by omega)];exact hx
  ·cases h
 ·rename_i k;rw[cond_eq_ite] at h;split at h
  ·rename_i hl;cases h;have fc:a<tE a:=by simpa using hl
   obtain⟨f0,f1,f2⟩:=hf a rfl;obtain⟨g1,g2⟩:=R.alloc (k:=a) (nx:=S.next) f1 f2 fc (Ov _) f0 (c:=c) (ty:=ty) (fr:=fz) hlen bk td CK al;refine⟨_,⟨g1,by rw[hW];exact g2,hs,by simp,λx hx ag ah=>⟨?_,rfl⟩,λx hx ag ah=>?_,λ_ _ h=>.inl h⟩,by simp⟩
   ·have:x≠a:=λe=>ah (by rw[e])
    simp[this]
   ·show(S.heap.put a _).get x=OG;rw[Tr.get_put_neB _ _ _ _ fc (λe=>ah (by rw[e]))];exact hx
  ·cases h
theorem oL{fr:Ow Nat}{S S':St}{es:Nat}{elems:On (On V)}{a:Nat}(h:bR fr S (.row 0 es elems)=.ok (a,S'))
  {F:Nat->Ow Obj} {G:Gh} {W W':PE} (R:gJ F G S W.heap) (hf:vH fr G S) {c:Pa O'} {ty:OH} {cap:Nat} (hW:W'.heap=W.heap.push (.cells c ty))
  (hs:Same W W') (hlen:elems.length<=cap) (bk:cap*es<=c.size) (al:RowR G c 0 es elems):
  ∃G',Sim F fr G S W G' S' W'/\G'.loc a=Ot ⟨0,W.heap.size,0,cap,es⟩:=
 yC h R hf hW hs hlen bk (λo _=>by simp) (λ_=>by simp) al
theorem iM{P:OI}{t:OH}{z:V}(h:aQ P t=Ot z):∃i w,P.info? t=Ot i/\i.zero=Ot w/\ofValue w=Ot z:=by
 unfold aQ at h;split at h
 ·rename_i w hw;cases hi:P.info? t with
  | none=>rw[hi] at hw;cases hw
  | some i=>rw[hi] at hw;exact⟨i,w,rfl,hw,h⟩
 ·cases h
theorem kX{P:OI}{t:OH}{i:TypeInfo}(h:P.info? t=Ot i):sz P t=i.size:=by simp[sz,Vp,h]
theorem rR{P:OI}{t:OH}{i:TypeInfo}(h:P.info? t=Ot i):P.bytesOf t=i.bytes:=by simp[Program.bytesOf,h]
theorem aAb{P:OI}{v:V}{w:O'}{G:Gh}(hv:VR G v w){fr:Ow Nat}{S S':St}{a:Nat}(h:bR fr S (.row 0 v.cells.length [v.cells])=.ok (a,S'))
  {F:Nat->Ow Obj} {W:PE} (R:gJ F G S W.heap) (hf:vH fr G S) (t:OH):
  ∃W' G',(newVar t w).run P W=.ok ⟨W.heap.size,0,OG⟩ W'/\Sim F fr G S W G' S' W'/\VR G' (.ptr a 0 0 0) (.pointer (Ot ⟨W.heap.size,0,OG⟩)):=by
 have hc:=hv.cells;have hl:=hc.length;obtain⟨G',h1,h2⟩:=oL (W':=W.alloc (.cells w.cells t)) (c:=w.cells) (ty:=t) (cap:=1) h R hf rfl (Same.alloc _ _) (by simp) (by simp at hl;omega)
  (lM (ws:=w.cells.toList) (by simp) (by simpa using hc) (λk x hx=>by simpa using hx))
 refine⟨_,G',?_,h1,.ptr _ _ _ _ _ ⟨_,h2,.inr ⟨rfl,by simp⟩⟩⟩;simp[newVar,XC]
theorem aLh{P:OI}{t:OH}{z:V}(hz:aQ P t=Ot z){fr:Ow Nat}{S S':St}{a:Nat}(h:bR fr S (.row 0 z.cells.length [z.cells])=.ok (a,S'))
  {F:Nat->Ow Obj} {G:Gh} {W:PE} (R:gJ F G S W.heap) (hf:vH fr G S):
  ∃W' G' w,(YA t OB (.tuple #[])).run P W=.ok w W'/\Sim F fr G S W G' S' W'/\VR G' (.ptr a 0 0 0) w:=by
 obtain⟨i,w,hi,hw,ho⟩:=iM hz;obtain⟨W',G',h1,h2,h3⟩:=aAb (P:=P) (gH G ho) h R hf t;exact⟨W',G',_,by simp[YA,RZ,SX,hi,hw,h1],h2,h3⟩
theorem aT0{P:OI}{t:OH}{v:V}{w:O'}{G:Gh}(hv:VR G v w){fr:Ow Nat}{S S':St}{a:Nat}(h:bR fr S (.row 0 v.cells.length [v.cells])=.ok (a,S'))
  {F:Nat->Ow Obj} {W:PE} (R:gJ F G S W.heap) (hf:vH fr G S):
  ∃W' G' x,(Instr.box t w).run P W=.ok x W'/\Sim F fr G S W G' S' W'/\VR G' (.ptr a 0 0 0) x:=by
 obtain⟨W',G',h1,h2,h3⟩:=aAb (P:=P) hv h R hf t;exact⟨W',G',_,by simp[Instr.box,h1],h2,h3⟩
theorem aCf(off:Nat):∀(l:On O') (n:Nat) (cells:Pa O'),
  (l.zipIdx n).foldl (λcs x=>cs.setIfInBounds (off+x.2) x.1) cells=bH cells (off+n) l
 | [],_,_=>rfl
 | v::l,n,cells=>by
  simp only[List.zipIdx_cons,Wv,bH];rw[aCf off l (n+1),SO]
theorem aAc(cells:Pa O')(off:Nat)(l:Pa O'):
  l.zipIdx.foldl (λcs (x:O'×Nat)=>cs.setIfInBounds (off+x.2) x.1) cells=bH cells off l.toList:=by
 rw[<-Array.foldl_toList,Array.toList_zipIdx];exact aCf off l.toList 0 cells
theorem VRs.splice{G:Gh}{cs xs:On V}{c y:Pa O'}{j:Nat}(h:VRs G cs c.toList)(k:VRs G xs y.toList)(hj:j+xs.length<=cs.length):
  VRs G (AM.splice cs j xs) (bH c j y.toList).toList:=by
 have l1:=h.length;have l2:=k.length;refine VRs.of (by rw[yB _ _ _ hj,l1];simp[bK]) λi v w hv hw=>?_;rw[yQ _ _ _ hj] at hv;have je:(bH c j y.toList)[i]?=Ot w:=by simpa using hw
 rw[cR] at je;split at hv
 ·rename_i hi;rw[OE ⟨hi.1,by omega,by simp at l1;omega⟩] at je;obtain⟨w2,a,b⟩:=k.get hv;rw[a] at je;cases je;exact b
 ·rename_i hi;rw[Oz (by omega)] at je;obtain⟨w2,a,b⟩:=h.get hv
  have:c[i]?=Ot w2:=by simpa using a
  rw[this] at je;cases je;exact b
inductive PsR (G:Gh):On (Nat×V)->On (Nat×O')->Prop
 | nil:PsR G [] []
 | cons (i:Nat) (v:V) (w:O') (vs:On (Nat×V)) (ws:On (Nat×O')) (h:VR G v w) (t:PsR G vs ws):PsR G ((i,v)::vs) ((i,w)::ws)
theorem yR{G:Gh}{place place':Nat->Ow (Nat×Nat)}(hp:∀i x,place i=Ot x->place' i=Ot x):∀{parts:On (Nat×V)} {ps:On (Nat×O')},PsR G parts ps->
  ∀{cells out:On V} {c:Pa O'},VRs G cells c.toList->vE place cells parts=.ok out->∃c',V' place' c ps=Ot c'/\VRs G out c'.toList
 | _,_,.nil,cells,out,c,hc,h=>by simp[vE] at h;subst h;exact⟨c,rfl,hc⟩
 | _,_,.cons i v w vs ws hv t,cells,out,c,hc,h=>by
  simp only[vE] at h;split at h
  ·cases h
  ·rename_i off size bc;rw[cond_eq_ite] at h;split at h
   ·rename_i bh;simp only[OU,QE,RA] at bh;have hl:=hv.cells.length;have gj:=hc.length;obtain⟨c',h1,h2⟩:=yR hp t (hc.splice hv.cells bh.1.2) h;refine⟨c',?_,h2⟩;simp only[V',hp _ _ bc];rw[Oz ?_]
    ·rw[aAc];exact h1
    ·simp only[Ra,PB,ne_eq,not_or,PM];simp at hl gj;omega
   ·cases h
theorem yD{P:OI}{α β:Type}{f:α->Sem β}{g:α->β}{W:PE}:∀(l:On α),(∀x∈l,(f x).run P W=.ok (g x) W)->(l.mapM f).run P W=.ok (l.map g) W
 | [],_=>by simp
 | x::l,h=>by
  simp only[List.mapM_cons,Pk,h x (by simp),Pb,yD l (λy hy=>h y (OY _ hy)),Qs,Qd]
theorem aNw{P:OI}{W:PE}(fs:Pa Field)(h:∀f∈fs.toList,∃d,P.underlying f.type=Ot d):
  (fs.mapM λf=>do pure (f.offset,<-sizeOf f.type):Sem (Pa (Nat×Nat))).run P W=.ok (fs.map λf=>(f.offset,sz P f.type)) W:=by
 rw[Array.mapM_eq_mapM_toList,Sem.run_map,yD (g:=λf=>(f.offset,sz P f.type)) fs.toList (λf hf=>by
  obtain⟨d,hd⟩:=h f hf;simp[eS hd])]
 simp only[Pb]
 congr 1
 apply Uf;simp
theorem aLi{P:OI}{t:OH}{parts:On (Nat×V)}{v:V}(h:rO P t parts=.ok v){G:Gh}{ps:Pa (Nat×O')}(hp:PsR G parts ps.toList)(W:PE):
  ∃w,(Vu t ps).run P W=.ok w W/\VR G v w:=by
 unfold rO at h;split at h
 ·cases h
 ·rename_i z hz;obtain⟨i,zw,hi,mz,ho⟩:=iM hz;have ro:=(gH G ho).cells;have wi:(RZ t).run P W=.ok zw W:=by simp[RZ,SX,hi,mz]
  split at h
  ·rename_i fs hd;rw[cond_eq_ite] at h;split at h
   ·cases h
   ·rename_i dj;have CL:∀f∈fs.toList,∃d,P.underlying f.type=Ot d:=by
     intro f hf;simp only[Vv,Vf,PD] at dj;exact Wk.1 (dj f hf)
    split at h
    ·rename_i cs hcs;cases h;obtain⟨c',f1,f2⟩:=yR (place':=λi=>(fs.map λf=>(f.offset,sz P f.type))[i]?) (λi x hx=>by simpa using hx) hp ro hcs;refine⟨.agg c',?_,.agg _ _ f2⟩;simp only[Vu,Pk,wi,Pb,OW hd,aNw fs CL,f1,Qs]
    ·cases h
  ·rename_i n elem hd;rw[cond_eq_ite] at h;split at h
   ·cases h
   ·rename_i dj;simp only[Vv,Vf] at dj;obtain⟨d,fe⟩:=Wk.1 dj;split at h
    ·rename_i cs hcs;cases h;obtain⟨c',f1,f2⟩:=yR (place':=λi=>Ot (i*sz P elem,sz P elem)) (λi x hx=>hx) hp ro hcs;refine⟨.agg c',?_,.agg _ _ f2⟩;simp only[Vu,Pk,wi,Pb,OW hd,eS fe,f1,Qs]
    ·cases h
  ·cases h
theorem aHm{G:Gh}{es:Nat}:∀{parts:On (Nat×V)} {ps:On (Nat×O')},PsR G parts ps->
  ∀{elems out:On (On V)} {c:Pa O'},(∀x∈elems,x.length=es)->VRs G elems.flatten c.toList->aA8 es elems parts=.ok out->
   ∃c',V' (λi=>Ot (i*es,es)) c ps=Ot c'/\VRs G out.flatten c'.toList/\(∀x∈out,x.length=es)/\out.length=elems.length
 | _,_,.nil,elems,out,c,hl,hc,h=>by simp[aA8] at h;subst h;exact⟨c,rfl,hc,hl,rfl⟩
 | _,_,.cons i v w vs ws hv t,elems,out,c,hl,hc,h=>by
  simp only[aA8] at h;rw[cond_eq_ite] at h;split at h
  ·rename_i bh;simp only[OU,QE,Sx] at bh;obtain⟨⟨h1,h2⟩,h3⟩:=bh;have mo:=hv.cells.length;have gj:=hc.length;have AE:=cG es elems hl;have ba:(i+1)*es<=elems.length*es:=Po es (by omega);rw[Sf] at ba;have ce:(elems.set i v.cells).flatten=splice elems.flatten (i*es) v.cells:=by
    apply List.ext_getElem?;intro k;have fc:∀x∈elems.set i v.cells,x.length=es:=by
     intro x hx;rcases PN hx with hx | rfl
     ·exact hl x hx
     ·exact h1
    rw[yQ _ _ _ (by omega)];rcases RW es with he | he
    ·subst he;have e1:(elems.set i v.cells).flatten=[]:=QU (by rw[cG 0 _ fc];simp);have e2:elems.flatten=[]:=QU (by rw[AE];simp);rw[e1,e2,Oz (by omega)]
    ·have xh:=UN k es;have hk:k=k / es*es+k % es:=by rw[Vq];exact xh.symm
     have ag:=Wq k he;generalize k / es=a at hk;generalize k % es=b at hk ag;subst hk;rw[lL es _ fc a b ag,lL es _ hl a b ag,Qi];by_cases Ks:i=a
     ·subst Ks;rw[OE rfl,OE h2,OE (by omega)];simp
     ·rw[Oz Ks];rw[Oz ?_];rcases Q' a i with q | q
      ·have:(a+1)*es<=i*es:=Po es (by omega)
       rw[Sf] at this;omega
      ·have:(i+1)*es<=a*es:=Po es (by omega)
       rw[Sf] at this;omega
   obtain⟨c',f1,f2,f3,f4⟩:=aHm t (elems:=elems.set i v.cells) (c:=bH c (i*es) w.cells.toList) (λx hx=>by
     rcases PN hx with hx | rfl
     ·exact hl x hx
     ·exact h1) (by rw[ce];exact hc.splice hv.cells (by omega)) h
   refine⟨c',?_,f2,f3,by rw[f4];simp⟩;simp only[V'];rw[Oz ?_]
   ·rw[aAc];exact f1
   ·simp only[Ra,PB,ne_eq,not_or,PM];rw[AE] at gj;simp only[Array.length_toList] at mo gj;omega
  ·cases h
theorem qM{G:Gh}{z:On V}{zw:Pa O'}(h:VRs G z zw.toList)(n:Nat):
  VRs G (PT n z).flatten (((WX (n*zw.size)).map (zw[· % zw.size]!)).toList):=by
 have hl:z.length=zw.size:=by simpa using h.length
 have hlen:∀x∈PT n z,x.length=zw.size:=λx hx=>by rw[RG hx];exact hl
 refine VRs.of (by rw[cG zw.size _ hlen];simp) λi v w hv hw=>?_;have hi:i<n*zw.size:=by
  have:=(Oq.1 hw).1
  simpa using this
 rcases RW zw.size with he | he
 ·rw[he] at hi;simp at hi
 ·have xh:=UN i zw.size;have hk:i=i / zw.size*zw.size+i % zw.size:=by rw[Vq];exact xh.symm
  have ag:=Wq i he;rw[hk,lL zw.size _ hlen _ _ ag] at hv;have MH:i / zw.size<n:=by rw[Nat.div_lt_iff_lt_mul he];exact hi
  simp[MH] at hv;obtain⟨w',a,b⟩:=h.get hv;have nc:w=zw[i % zw.size]!:=by
   simp[hi] at hw;exact hw.symm
  have a':zw[i % zw.size]?=Ot w':=by simpa using a
  rw[nc,getElem!_def,a'];exact b
theorem aBq{P:OI}{t:OH}{len:Nat}{parts:On (Nat×V)}{fr:Ow Nat}{S S':St}{v:V}(h:dO P t len parts fr S=.ok (v,S'))
  {F:Nat->Ow Obj} {G:Gh} {W:PE} (R:gJ F G S W.heap) (hf:vH fr G S) {ps:Pa (Nat×O')} (hp:PsR G parts ps.toList):
  ∃W' G' w,(Vr t len ps).run P W=.ok w W'/\Sim F fr G S W G' S' W'/\VR G' v w:=by
 unfold dO at h;split at h
 ·cases h
 ·rename_i e he;have hd:P.underlying t=Ot (.slice e):=by
   unfold lD at he;split at he
   ·rename_i e' hd;cases he;exact hd
   ·cases he
  split at h
  ·cases h
  ·rename_i z hz;obtain⟨i,zw,hi,mz,ho⟩:=iM hz;have ro:=(gH G ho).cells;rw[cond_eq_ite] at h;split at h
   ·rename_i bh;simp only[OU,QE,RA] at bh;obtain⟨ku,Ca⟩:=bh;split at h
    ·cases h
    ·rename_i elems Gj;split at h
     ·cases h
     ·rename_i a S1 jx;cases h;have nd:zw.cells.size=sz P e:=by have:=ro.length;simp at this;omega
      have ng:sz P e=i.size:=kX hi;have zf:=qM ro len;rw[nd] at zf;obtain⟨c',f1,f2,f3,f4⟩:=aHm hp (λx hx=>by rw[RG hx];exact ku) zf Gj;have hlen:elems.length=len:=by rw[f4];simp
      have hcs:elems.length*sz P e<=c'.size:=by
       have:=f2.length
       rw[cG _ _ f3] at this;simp at this;omega
      obtain⟨G',h1,h2⟩:=oL (W':=W.alloc (.cells c' e)) (c:=c') (ty:=e) (cap:=elems.length) jx R hf rfl (Same.alloc _ _) (Ov _) hcs
       (lM f3 f2 (λk x hx=>by simpa using hx))
      refine⟨_,G',.slice (Ot ⟨W.heap.size,0,OG⟩) len len,?_,h1,.sl _ _ _ _ _ _ _ _ ⟨rfl,Ov _,_,h2,.inr ⟨rfl,rfl,by simp[hlen],λ_=>by simp⟩⟩⟩;have lk:(sizeOf e).run P W=.ok (sz P e) W:=by simp[sizeOf,SX,hi,ng]
      have wi:(RZ e).run P W=.ok zw W:=by simp[RZ,SX,hi,mz]
      have MI:¬(len*sz P e>2 ^ 24):=by omega
      simp only[Vr,Pk,OW hd,Pb,lk,MI,Ou];by_cases h0:len*sz P e=0
      ·simp only[h0,Oy,Pk,Qs,Pb];rw[h0] at f1
       have:∀(z1 z2:Pa O'),(WX 0).map (z1[· % z1.size]!)=(WX 0).map (z2[· % z2.size]!):=by intro z1 z2;simp
       rw[this #[] zw.cells,nd,f1];simp[XC]
      ·simp only[h0,Ou,Pk,wi,Pb,Qs];rw[nd,f1];simp[XC]
   ·cases h
theorem RowR.sub{G:Gh}{c:Pa O'}{o es:Nat}{e1 e2:On (On V)}(h:RowR G c o es e2)(hs:∀(i:Nat) (cs:On V),e1[i]?=Ot cs->e2[i]?=Ot cs):RowR G c o es e1:=
 λi cs hi=>h i cs (hs i cs hi)
theorem pM{P:OI}{t e:OH}(h:lD P t=Ot e):P.underlying t=Ot (.slice e):=by
 unfold lD at h;split at h
 ·rename_i e' hd;cases h;exact hd
 ·cases h
theorem aDg{P:OI}{t:OH}{l c:V}{fr:Ow Nat}{S S':St}{v:V}(h:fD P t l c fr S=.ok (v,S'))
  {F:Nat->Ow Obj} {G:Gh} {W:PE} (R:gJ F G S W.heap) (hf:vH fr G S) {lc cc:O'} (hl:VR G l lc) (hc:VR G c cc):
  ∃W' G' w,(XK t lc cc).run P W=.ok w W'/\Sim F fr G S W G' S' W'/\VR G' v w:=by
 unfold fD at h;split at h
 ·rename_i e kl l kc c he;have hd:=pM he;split at h
  ·cases h
  ·rename_i z hz;obtain⟨i,zw,hi,mz,ho⟩:=iM hz;have ro:=(gH G ho).cells;rw[cond_eq_ite] at h;split at h
   ·rename_i bh;simp only[OU,QE,PB,room,RA,Sx] at bh;obtain⟨⟨⟨⟨ku,h0⟩,Gk⟩,dv⟩,ay,_⟩:=bh;split at h
    ·cases h
    ·rename_i a S1 jx;cases h;cases hl;cases hc;have nd:zw.cells.size=sz P e:=by have:=ro.length;simp at this;omega
     have ng:sz P e=i.size:=kX hi;have Cb:P.bytesOf e=i.bytes:=rR hi;have zf:=qM ro c.toNat
     have MJ:∀x∈PT c.toNat z.cells,x.length=sz P e:=λx hx=>by rw[RG hx];exact ku
     have al:RowR G (Xq zw.cells (c.toNat*i.size)) 0 (sz P e) (PT l.toNat z.cells):=by
      refine(lM MJ zf (λk x hx=>?_)).sub λi cs hi=>?_
      ·simp only[nd,ng] at hx;simp only[Xq,nd,ng];rw[Array.getElem?_toList] at hx;exact hx
      ·rw[List.getElem?_replicate] at hi|-
       split at hi
       ·rw[OE (by omega)];exact hi
       ·cases hi
     obtain⟨G',h1,h2⟩:=oL (W':=W.alloc (.cells (Xq zw.cells (c.toNat*i.size)) e)) (c:=Xq zw.cells (c.toNat*i.size)) (ty:=e) (cap:=c.toNat) jx R hf rfl (Same.alloc _ _)
      (by simp;omega) (by rw[size_madeCells,ng];exact Ov _) al
     refine⟨_,G',.slice (Ot ⟨W.heap.size,0,OG⟩) l.toNat c.toNat,?_,h1,.sl _ _ _ _ _ _ _ _ ⟨rfl,by omega,_,h2,.inr ⟨rfl,rfl,by simp,λ_=>by simp⟩⟩⟩;refine run_make W t e i zw hd hi mz kl kc l c h0 Gk ?_ (by omega);rw[Cb] at ay
     have:(i.bytes:Int)*c=((c.toNat*i.bytes:Nat):Int):=by
      rw[Int.natCast_mul,Int.toNat_of_nonneg (by omega),Int.mul_comm]
     rw[this];omega
   ·cases h
 ·cases h
theorem yS:∀s:On OP,(s.map λb=>[V.int ω (b.toNat:Int)]).flatten=s.map λb=>V.int ω (b.toNat:Int)
 | []=>rfl
 | b::s=>by rw[Qd,To,yS s];rfl
theorem rT{P:OI}{S:St}{x:V}{xs:On (On V)}(h:aK S x=.ok xs){n:Nat}(hn:∀cs∈xs,cs.length=n)
  {F:Nat->Ow Obj} {G:Gh} {W:PE} (R:gJ F G S W.heap) {y:O'} (hx:VR G x y):
  (∀W',(SE y).run P W'=.ok xs.length W')/\∃ws,VRs G xs.flatten ws/\∀W':PE,W'.heap=W.heap->(QJ n xs.length y).run P W'=.ok ws.toArray W':=by
 have AE:=cG n xs hn;have side:∀(p:Wi) (ws:On O') (c:Nat),VRs G xs.flatten ws->(∀(k:Nat) (w:O'),ws[k]?=Ot w->W.cell? (p.add k)=Ot w)->
   ∃ws,VRs G xs.flatten ws/\∀W':PE,W'.heap=W.heap->(QJ n xs.length (.slice (Ot p) xs.length c)).run P W'=.ok ws.toArray W':=by
  intro p ws c h1 h2;refine⟨ws,h1,λW' hW=>?_⟩;have hl:ws.length=xs.length*n:=by rw[<-h1.length,AE]
  have:=TZ (P:=P) W' p ws (λj v hj=>by
   have:=h2 j v hj
   simpa[Yz,hW] using this)
  simp only[QJ];rw[<-hl];exact this
 unfold aK at h;split at h
 ·cases h;cases hx;exact⟨λW'=>by simp[SE],[],.nil,λW' _=>by simp[QJ]⟩
 ·rename_i a ver sx off len;split at h
  ·cases h
  ·rename_i es elems al;have hr:=iW al;rw[cond_eq_ite] at h;split at h
   ·rename_i hle;cases h;have jf:off+len<=elems.length:=by simpa using hle
    cases hx with
    | sl _ _ _ _ _ p m c hs=>
     obtain⟨rfl,Cc,L,hL,hs⟩:=hs;obtain⟨L',cy,r1,r2,r3,ca,ty,fr,dv,r4,r5,r6⟩:=R.blk a _ hr;rw[hL] at cy;cases cy;rcases hs with hs | ⟨_,_,nh,hp⟩
     ·omega
     ·have hlen:((elems.drop off).take m).length=m:=by simp;omega
      rw[hlen] at side AE|-
      refine⟨λW'=>by simp[SE],?_⟩;rcases RW m with h0 | h0
      ·subst h0;exact side p [] c (by simp;exact .nil) (by simp)
      ·have gk:=hp (by omega);subst gk;have Gl:n=es:=by
        have ba:off<elems.length:=by omega
        have cg:elems[off]∈(elems.drop off).take m:=by
         rw[PA];exact⟨0,by rw[Qp,OE h0];simp⟩
        rw[<-hn _ cg];exact(r6 off elems[off] (by simp)).1
       have ni:CellsAt G W L.cb (L.co+off*L.es) ((elems.drop off).take m).flatten:=by
        intro q v hq;have MK:q<m*n:=by
         have:=(Oq.1 hq).1
         rw[AE] at this;exact this
        have CM:0<n:=by
         rcases RW n with e | e
         ·subst e;simp at MK
         ·exact e
        have xh:=UN q n;have hk:q=q / n*n+q % n:=by rw[Vq];exact xh.symm
        have ag:=Wq q CM;generalize q / n=i at hk;generalize q % n=j at hk ag;subst hk;rw[lL n _ hn i j ag] at hq;cases hi:((elems.drop off).take m)[i]? with
        | none=>rw[hi] at hq;cases hq
        | some cs=>
         rw[hi] at hq;have df:elems[off+i]?=Ot cs:=by
          rw[Qp] at hi;split at hi
          ·rw[PP] at hi;exact hi
          ·cases hi
         obtain⟨w,w1,w2⟩:=(r6 _ cs df).2 j v hq;refine⟨w,?_,w2⟩;rw[dJ dv,r2,Gl];rw[show L.co+off*es+(i*es+j)=L.co+(off+i)*es+j by rw[Qn];omega];exact w1
       obtain⟨ws,h1,h2⟩:=ni.values;exact side _ ws c h1 (λk w hk=>by rw[iU];exact h2 k w hk)
   ·cases h
 ·rename_i es;cases h;cases hx with
  | imm0=>exact⟨λW'=>by simp[SE],[],.nil,λW' _=>by simp[QJ]⟩
  | imm _ p m c e hm hc vs hv he hp=>
   replace hv:=hv.mono G.shut_le
   subst hm;refine⟨λW'=>by simp[SE],?_⟩;have ML:∀{es:On (On V)} {vs:On (On O')},VRss G es vs->VRs G es.flatten vs.flatten:=by
    intro es vs h
    induction es generalizing vs with
    | nil=>cases h;exact .nil
    | cons x es ih=>cases h with | cons _ w _ ws h t=>simpa using h.append (ih t)
   have mo:∀{es:On (On V)} {vs:On (On O')},VRss G es vs->(∀x∈es,x.length=n)->(∀x∈vs,x.length=n):=by
    intro es vs h
    induction es generalizing vs with
    | nil=>cases h;intro _ x hx;cases hx
    | cons x es ih=>
     cases h with
     | cons _ w _ ws h t=>
      intro hx y hy;rcases Pu.1 hy with rfl | hy
      ·rw[<-h.length];exact hx _ (by simp)
      ·exact ih t (λz hz=>hx z (OY _ hz)) y hy
   refine side p vs.flatten c (ML hv) λk w hk=>?_;have Cd:=mo hv hn;rcases hp with hp | ⟨ca,ty,fr,h1,h2,h3⟩
   ·have:xs=[]:=QU hp
    subst this;cases hv;simp at hk
   ·have dw:k<vs.length*n:=by
     have:=(Oq.1 hk).1
     rw[cG n _ Cd] at this;exact this
    have CM:0<n:=by
     rcases RW n with e | e
     ·subst e;simp at dw
     ·exact e
    have xh:=UN k n;have dl:k=k / n*n+k % n:=by rw[Vq];exact xh.symm
    have ag:=Wq k CM;generalize k / n=i at dl;generalize k % n=j at dl ag;subst dl;rw[lL n _ Cd i j ag] at hk;cases hi:vs[i]? with
    | none=>rw[hi] at hk;cases hk
    | some l=>
     rw[hi] at hk;have ah:e=n:=by
      cases xs with
      | nil=>cases hv;simp at hi
      | cons x es=>rw[<-he x (by simp)];exact hn x (by simp)
     subst ah
     have:=h3 i l hi j w hk
     obtain⟨pb,po,ps⟩:=p;simp only at h1 h2 this;subst h2;rw[iU,dJ (R.pr _ _ h1),<-SO];exact this
 ·rename_i s;cases h;cases hx;have hlen:(s.map λb=>[V.int ω (b.toNat:Int)]).length=s.length:=by simp
  refine⟨λW'=>by simp[SE,ByteArray.size],s.map λb=>.int ω b.toNat,?_,λW' _=>?_⟩
  ·rw[yS];refine VRs.of (by simp) λi v w hv hw=>?_;simp at hv hw;obtain⟨b,hb,rfl⟩:=hv;obtain⟨b',bm,rfl⟩:=hw;rw[hb] at bm;cases bm;exact .int _ _
  ·rw[hlen];simp only[QJ,Qs]
   congr 1
   apply Uf;simp[WO,Ww]
 ·cases h
theorem nW{G:Gh}{c:Pa O'}{o es:Nat}{elems:On (On V)}{ws:On O'}(hl:∀x∈elems,x.length=es)(hv:VRs G elems.flatten ws)
  (hc:∀(k:Nat) (w:O'),ws[k]?=Ot w->c[o+k]?=Ot w):RowR G c o es elems:=by
 intro i cs hi;have hcs:cs∈elems:=OM hi;refine⟨hl cs hcs,λj v hj=>?_⟩;have rm:j<es:=by rw[<-hl cs hcs];exact(Oq.1 hj).1
 have:elems.flatten[i*es+j]?=Ot v:=by rw[lL es elems hl i j rm,hi];exact hj
 obtain⟨w,w1,w2⟩:=hv.get this;exact⟨w,by rw[SO];exact hc _ _ w1,w2⟩
theorem RowR.lens{G:Gh}{c:Pa O'}{o es:Nat}{elems:On (On V)}(h:RowR G c o es elems):∀x∈elems,x.length=es:=by
 intro x hx;obtain⟨i,hi⟩:=PA.1 hx;exact(h i x hi).1
theorem RowR.flat{G:Gh}{ca:Pa O'}{co es:Nat}{elems:On (On V)}(h:RowR G ca co es elems)(off len:Nat)(hle:off+len<=elems.length):
  ∃ws,VRs G ((elems.drop off).take len).flatten ws/\∀(k:Nat) (w:O'),ws[k]?=Ot w->ca[co+off*es+k]?=Ot w:=by
 induction len generalizing off with
 | zero=>exact⟨[],by simp;exact .nil,by simp⟩
 | succ len ih=>
  have ba:off<elems.length:=by omega
  obtain⟨ws,h1,h2⟩:=ih (off+1) (by omega);have hcs:=h off elems[off] (by simp);have hc:∀cs:On V,(∀j v,cs[j]?=Ot v->∃w,ca[co+off*es+j]?=Ot w/\VR G v w)->∃us,VRs G cs us/\∀(k:Nat) (w:O'),us[k]?=Ot w->ca[co+off*es+k]?=Ot w:=by
   intro cs hcs;generalize co+off*es=o at hcs
   induction cs generalizing o with
   | nil=>exact⟨[],.nil,by simp⟩
   | cons v cs xi=>
    obtain⟨w,a,b⟩:=hcs 0 v (by simp);obtain⟨us,u1,u2⟩:=xi (o+1) (λj v hv=>by
     obtain⟨w,a,b⟩:=hcs (j+1) v (by simpa using hv);exact⟨w,by rw[show o+1+j=o+(j+1) by omega];exact a,b⟩)
    refine⟨w::us,.cons _ _ _ _ b u1,λk w' hk=>?_⟩;cases k with
    | zero=>simp at hk;subst hk;exact a
    | succ k=>have:=u2 k w' (by simpa using hk);rw[show o+(k+1)=o+1+k by omega];exact this
  obtain⟨us,u1,u2⟩:=hc elems[off] hcs.2;have Fe:us.length=es:=by rw[<-u1.length];exact hcs.1
  have e:(elems.drop off).take (len+1)=elems[off]::(elems.drop (off+1)).take len:=by
   rw[List.drop_eq_getElem_cons ba,List.take_succ_cons]
  refine⟨us++ws,by rw[e,To];exact u1.append h1,λk w hk=>?_⟩;rcases Q' k us.length with ag | hge
  ·rw[Pr ag] at hk;exact u2 k w hk
  ·rw[Pe hge] at hk
   have:=h2 _ w hk
   rw[show co+off*es+k=co+(off+1)*es+(k - us.length) by rw[Qn];omega];exact this
theorem jK(z:Pa O')(n:Nat):(P' z n).size=n*z.size:=by simp[P']
theorem qO(W:PE)(need old:Nat)(e:OH)(_h:need<2 ^ 63):need<=QS W need old e:=by
 unfold QS Question.cut;exact Nat.le_add_right _ _
theorem tP{P : OI}{ts : Pa OH}{t u ty : OH}(Ce : ts[0]? = Ot t)(Ff : ts[1]? = Ot u)
    (hu : (∃e, P.underlying u = Ot (.slice e)) \/ P.underlying u = Ot .string) {s x : V} {fr : Ow Nat} {S S' : St} {v : V} (h : iP P t s x fr S = .ok (v, S'))
    {F : Nat -> Ow Obj} {G : Gh} {W : PE} (R : gJ F G S W.heap) (hf : vH fr G S) {sc xc : O'} (hs : VR G s sc) (hx : VR G x xc) :
    ∃W' G' w, (Sa ts ty #[sc, xc]).run P W = .ok w W' /\ Sim F fr G S W G' S' W' /\ VR G' v w := by
  unfold iP at h;split at h
  · cases h
  · rename_i e he
    have hd := pM he;split at h
    · cases h
    · rename_i xs pn
      rw[cond_eq_ite] at h;split at h
      · cases h
      · rename_i bh
        simp only[Vv, Vf, OU] at bh;obtain⟨⟨dj, jm⟩, xj⟩ := bh;have kx : ∀cs ∈ xs, cs.length = sz P e := by
          intro cs hcs;have := PD.1 dj cs hcs;simpa using this
        obtain⟨z, hz, ku⟩ : ∃z, aQ P e = Ot z /\ z.cells.length = sz P e := by
          unfold nF at xj;split at xj
          · rename_i z hz; exact⟨z, hz, by simpa using xj⟩
          · cases xj
        obtain⟨i, zw, hi, mz, ho⟩ := iM hz;have nd : zw.cells.size = i.size := by
          have := ((gH G ho).cells).length;rw[<- kX hi];simp at this; omega
        have ng : sz P e = i.size := kX hi;have Cb : P.bytesOf e = i.bytes := rR hi;rw[ng] at kx h;obtain⟨hlen, ws, lp, bo⟩ := rT (P := P) pn kx R hx;have jy : ws.length = xs.length * i.size := by rw[<- lp.length, cG _ _ kx]
        split at h
        · cases hs
          split at h
          · cases h
            have AF : ws = [] := QU (by rw[jy]; simp);subst AF;have px := hlen W;have zg := bo W rfl;simp only[Pf] at px zg;refine⟨W, G, .slice OG 0 0, ?_, Sim.refl R, .nils⟩;rcases hu with ⟨e', hu⟩ | hu <;>
              simp[Sa, Ce, Ff, OW hd, OW hu, sizeOf, SX, hi, px, zg]
          · rename_i ah
            rw[cond_eq_ite] at h;split at h
            · rename_i ay
              simp only[room, OU, RA, Sx] at ay;obtain⟨ay, zi⟩ := ay;rw[Cb] at ay;unfold eG at zi;split at h
              · cases h
              · rename_i a S1 jx
                cases h;have du : 0 < xs.length := by
                  rcases RW xs.length with q | q
                  · exact absurd (QU q) (by simpa using ah)
                  · exact q
                have hge := qO W xs.length 0 e (by omega);have Cf : xs.length ≠ 0 := by omega
                have CN : ¬(9223372036854775807 < (xs.length : Int)) := by omega
                have CO : ¬(281474976710656 < WG xs.length 0 * i.bytes) := by rw[nextslicecap_zero du]; omega
                have zg := bo W.drew rfl;have lk : (ws.toArray ++ P' zw.cells (QS W xs.length 0 e - xs.length)).size = QS W xs.length 0 e * i.size := by
                  simp only[Xr, RO, jK, jy, nd];rw[<- Qn]; congr 1; omega
                obtain⟨G', h1, h2⟩ := oL (W' := W.drew.alloc (.cells (ws.toArray ++ P' zw.cells (QS W xs.length 0 e - xs.length)) e)) jx R hf rfl
                  ((Same.drew W).trans (Same.alloc _ _)) hge (by rw[lk]; exact Ov _)
                  (lM kx lp (λk w hk => by
                    have : k < ws.length := (Oq.1 hk).1;rw[RY (by simpa using this)]; simpa using hk))
                refine⟨_, G', .slice (Ot ⟨W.heap.size, 0, OG⟩) xs.length (QS W xs.length 0 e), ?_, h1, .sl _ _ _ _ _ _ _ _ ⟨rfl, hge, _, h2, .inr ⟨rfl, rfl, by simp, λ_ => by simp⟩⟩⟩;rcases hu with ⟨e', hu⟩ | hu <;>
                  simp[Sa, Ce, Ff, OW hd, OW hu, sizeOf, SX, RZ, hi, mz, hlen W, Cf, CN, CO, Vj, run_firstCells_none, zg, XC, QS]
            · cases h
        · rename_i a ver sx off len
          split at h
          · cases h
          · rename_i es elems al
            have hr := iW al;rw[cond_eq_ite] at h;split at h
            · rename_i bh
              simp only[OU, RA, QE, room, Sx] at bh;obtain⟨⟨hle, ch⟩, ay, zi⟩ := bh;subst ch;cases h;rw[Cb] at ay;unfold eG at zi;cases hs with
              | sl _ _ _ _ _ p n c cd =>
                obtain⟨rfl, Cc, L, hL, cd⟩ := cd;obtain⟨L', cy, r1, r2, r3, ca, cty, cfr, dv, r4, r5, r6⟩ := R.blk a _ hr;rw[hL] at cy; cases cy;rcases cd with cd | ⟨_, _, nh, hp⟩
                · omega
                · have te := r6.lens
                  have eg : ∀x ∈ (elems.drop off).take n, x.length = i.size := λx hx => te x (QM (QP hx));have ru : ((elems.drop off).take n).length = n := by simp; omega
                  have zj : ∀x ∈ (elems.drop off).take n ++ xs, x.length = i.size := by
                    intro x hx;rcases Qf.1 hx with hx | hx
                    · exact eg x hx
                    · exact kx x hx
                  obtain⟨os, o1, o2⟩ := r6.flat off n hle;have gn : os.length = n * i.size := by rw[<- o1.length, cG _ _ eg, ru]
                  by_cases hfit : n + xs.length <= c
                  · have fu : (off + c) * i.size <= L.cap * i.size := Po _ nh
                    rw[Qn] at fu;have Gn : (n + xs.length) * i.size <= c * i.size := Po _ hfit;rw[Qn] at Gn;have AG : ∃W', (VN (p.add (n * i.size)) ws).run P W = .ok () W' /\ W'.heap[L.cb]? = Ot (.cells (bH ca (L.co + off * i.size + n * i.size) ws) cty cfr) /\
                        (∀k, k ≠ L.cb -> W'.heap[k]? = W.heap[k]?) /\ W'.heap.size = W.heap.size /\ Same W W' := by
                      rcases RW c with h0 | h0
                      · have AF : ws = [] := QU (by rw[jy, show xs.length = 0 by omega]; simp)
                        subst AF;exact⟨W, by simp[VN], by simpa[bH] using dv, λ_ _ => rfl, rfl, Same.refl W⟩
                      · have gk := hp (by omega)
                        subst gk;rw[iU, r2];obtain⟨W', s1, s2, s3, s4, s5⟩ := fH (P := P) (b := L.cb) (o := L.co + off * i.size + n * i.size) (ty := cty) (fr := cfr) ws 0 W ca dv
                          (lp.ones (by
                            refine PD.2 λv hv => ?_;obtain⟨l, hl, mo⟩ := TS.1 hv;exact kW (PD.1 jm l hl) mo))
                          (by omega) (λk qv di => r5.1 k (by omega) (by omega))
                        simp only[QT] at s2;exact⟨W', s1, s2, s3, s4, s5⟩
                    obtain⟨W', s1, s2, s3, s4, s5⟩ := AG;have bk : (bH ca (L.co + off * i.size + n * i.size) ws).size = ca.size := bK _ _ _;obtain⟨g1, g2⟩ := R.setRow (H' := W'.heap) hr hL (L' := ⟨ver + 1, L.cb, L.co + off * i.size, c, i.size⟩) (.inr (by simp; omega)) (.inl rfl) (λk _ hk => s3 k hk) (by omega)
                      (by rw[s4]; exact R.lt a _ (.inl ⟨L, hL, rfl⟩)) (ver := ver + 1) (es := i.size) (elems := (elems.drop off).take n ++ xs)
                      ⟨rfl, rfl, by simp; omega, _, cty, cfr, s2, by rw[bk]; simp; omega, ⟨λo zk nj => r5.1 o (by simp at zk; omega) (by simp at nj; omega), λah => by rw[bk]; exact r5.2 ah⟩, by
                        refine(nW (ws := os ++ ws) zj (by rw[SC]; exact o1.append lp) (λk w hk => ?_)).mono (G := G) ?_
                        · show(bH ca (L.co + off * i.size + n * i.size) ws)[L.co + off * i.size + k]? = Ot w
                          rw[cR];rcases Q' k os.length with q | q
                          · rw[Oz (by omega)]
                            rw[Pr q] at hk;exact o2 k w hk
                          · rw[Pe q] at hk
                            have dw : k - os.length < ws.length := (Oq.1 hk).1;rw[OE ⟨by omega, by omega, by omega⟩];rw[show L.co + off * i.size + k - (L.co + off * i.size + n * i.size) = k - os.length by omega];exact hk
                        · exact Gh.le_set hL (.inr (by simp; omega))⟩
                    refine⟨W', _, .slice (Ot p) (n + xs.length) c, ?_, ⟨g1, g2, s5, Ov _, λy hy _ _ => ⟨?_, rfl⟩, λy hy _ _ => ?_, λ_ _ h => .inl h⟩, ?_⟩
                    · have zg := bo W rfl
                      rcases hu with ⟨e', hu⟩ | hu <;>
                        simp[Sa, Ce, Ff, OW hd, OW hu, sizeOf, SX, hi, hlen W, hfit, zg, s1]
                    · have : y ≠ a := λe => by rw[e, hr] at hy; cases hy
                      simp[this]
                    · show(S.heap.put a _).get y = OG
                      rw[Tr.get_put_neB _ _ _ _ (R.small a _ hr) (λe => by rw[e, hr] at hy; cases hy)]; exact hy
                    · refine .sl _ _ _ _ _ _ _ _ ⟨rfl, hfit, ⟨ver + 1, L.cb, L.co + off * i.size, c, i.size⟩, by simp, .inr ⟨rfl, rfl, by simp, λh0 => ?_⟩⟩
                      simp only[WW, QT];rw[<- r2]; exact hp h0
                  · have hge := qO W (n + xs.length) c e (by omega)
                    have hn : ¬(n + xs.length <= c) := hfit;have CN : ¬(9223372036854775807 < ((n : Int) + (xs.length : Int))) := by omega
                    have CO : ¬(281474976710656 < WG (n + xs.length) c * i.bytes) := by
                      have := growslice_fits (need := n + xs.length) (old := c) (bytes := i.bytes) (by omega) (by omega);omega
                    have zg := bo W.drew rfl;have Fg : (QJ i.size n (.slice (Ot p) n c)).run P W.drew = .ok os.toArray W.drew := by
                      simp only[QJ];have := TZ (P := P) W.drew p os (λj w hj => by
                        have ed : j < os.length := (Oq.1 hj).1;have qw : c ≠ 0 := by
                          intro e0;have : n = 0 := by omega
                          rw[this, WW] at gn; omega
                        rw[hp qw, iU];have : W.cell? ⟨L.cb, L.co + off * L.es + j, OG⟩ = Ot w := by rw[dJ dv, r2]; exact o2 j w hj
                        exact this)
                      rw[gn] at this; exact this
                    have lk : (os.toArray ++ ws.toArray ++ P' zw.cells (QS W (n + xs.length) c e - (n + xs.length))).size = QS W (n + xs.length) c e * i.size := by
                      simp only[Xr, RO, jK, jy, gn, nd];rw[<- Qn, <- Qn]; congr 1; omega
                    obtain⟨g1, g2⟩ := R.setRow (H' := W.heap.push (.cells (os.toArray ++ ws.toArray ++ P' zw.cells (QS W (n + xs.length) c e - (n + xs.length))) e)) hr hL
                      (L' := ⟨ver + 1, W.heap.size, 0, QS W (n + xs.length) c e, i.size⟩) (.inr (by simp; omega)) (.inr rfl)
                      (λk hk _ => by rw[TR, Oz (by omega)]) (by simp) (by simp) (ver := ver + 1) (es := i.size) (elems := (elems.drop off).take n ++ xs)
                      ⟨rfl, rfl, by simp; omega, os.toArray ++ ws.toArray ++ P' zw.cells (QS W (n + xs.length) c e - (n + xs.length)), e, (0, 0), by simp, by simp only[Px]; rw[lk]; exact Ov _, ⟨λo _ _ => by simp, λ_ => by simp⟩, by
                        refine(nW (ws := os ++ ws) zj (by rw[SC]; exact o1.append lp) (λk w hk => ?_)).mono (G := G) (Gh.le_set hL (.inr (by simp; omega)));simp only[Px];have dw : k < (os ++ ws).length := (Oq.1 hk).1;rw[RY (by simpa using dw)];simpa using hk⟩
                    refine⟨W.drew.alloc (.cells (os.toArray ++ ws.toArray ++ P' zw.cells (QS W (n + xs.length) c e - (n + xs.length))) e), _,
                      .slice (Ot ⟨W.heap.size, 0, OG⟩) (n + xs.length) (QS W (n + xs.length) c e), ?_, ⟨g1, g2, (Same.drew W).trans (Same.alloc _ _), Ov _, λy hy _ _ => ⟨?_, rfl⟩, λy hy _ _ => ?_, λ_ _ h => .inl h⟩, ?_⟩
                    · rcases hu with ⟨e', hu⟩ | hu <;>
                        (simp[Sa, Ce, Ff, OW hd, OW hu, sizeOf, SX, RZ, hi, mz, hlen W, hn, CN, CO, Vj, zg, Fg, XC, QS]
                         congr 2
                         apply Uf;simp[List.append_assoc])
                    · have : y ≠ a := λe => by rw[e, hr] at hy; cases hy
                      simp[this]
                    · show(S.heap.put a _).get y = OG
                      rw[Tr.get_put_neB _ _ _ _ (R.small a _ hr) (λe => by rw[e, hr] at hy; cases hy)]; exact hy
                    · exact .sl _ _ _ _ _ _ _ _ ⟨rfl, hge, ⟨ver + 1, W.heap.size, 0, QS W (n + xs.length) c e, i.size⟩, by simp, .inr ⟨rfl, rfl, by simp, λ_ => by simp⟩⟩
            · cases h
        · cases h
theorem aEp(k:Qa)(n:Int):wr k n=k.wrap n:=by
 unfold wr;split
 ·rename_i h;obtain⟨h1,h2⟩:=h;cases k<;>simp only[lo,hi] at h1 h2<;>simp[IntKind.wrap,IntKind.bits,IntKind.signed]<;>omega
 ·rfl
theorem aAd:∀{l:On (On V)} {b:On OP},eJ l=Ot b->(∀cs∈l,cs.length=1)/\∃ns:On Int,l.flatten=ns.map (V.int ω)/\b=ns.map λn=>QK n.toNat
 | [],b,h=>by simp[eJ] at h;subst h;exact⟨by simp,[],rfl,rfl⟩
 | x::l,b,h=>by
  unfold eJ at h;split at h
  ·cases ‹x::l=[]›
  ·rename_i n r he;cases he;split at h
   ·rename_i l' fc;cases h;obtain⟨h1,ns,h2,h3⟩:=aAd fc;refine⟨?_,n::ns,by simp[h2],by simp[h3]⟩;intro cs hcs;rcases Pu.1 hcs with rfl | hcs
    ·rfl
    ·exact h1 cs hcs
   ·cases h
  ·cases h
theorem aT1(ns:On Int)(b:On OP):ns.foldl (λr n=>r.push (QK n.toNat)) (Wa ⟨b⟩)=⟨⟨b++ns.map λn=>QK n.toNat⟩⟩:=by
 induction ns generalizing b with
 | nil=>simp
 | cons n ns ih=>
  simp only[Wv]
  have:(Wa ⟨b⟩).push (QK n.toNat)=Wa ⟨b++[QK n.toNat]⟩:=by
   simp[ByteArray.push]
  rw[this,ih];simp
theorem aQ0{G:Gh}:∀{ns:On Int} {ws:On O'},VRs G (ns.map (V.int ω)) ws->ws=ns.map (Uy ω)
 | [],_,.nil=>rfl
 | _::_,_,.cons _ _ _ _ hv t=>by cases hv;rw[aQ0 t];rfl
theorem aGt{P:OI}{src dst:OH}{x:V}{fr:Ow Nat}{S S':St}{v:V}(h:eK P src dst x fr S=.ok (v,S'))
  {F:Nat->Ow Obj} {G:Gh} {W:PE} (R:gJ F G S W.heap) (hf:vH fr G S) {y:O'} (hx:VR G x y):
  ∃W' G' w,(convert src dst y).run P W=.ok w W'/\Sim F fr G S W G' S' W'/\VR G' v w:=by
 unfold eK at h;split at h
 ·rename_i u k hs hd;split at h
  ·cases h;cases hx;rename_i n;exact⟨W,G,.int k (k.wrap n),by simp[convert,OW hs,OW hd,Conv.intToInt],Sim.refl R,by rw[aEp];exact .int _ _⟩
  ·cases h
 ·rename_i u hs hd;split at h
  ·cases h;cases hx;exact⟨W,G,_,by simp[convert,OW hs,OW hd],Sim.refl R,.str _⟩
  ·split at h
   ·rename_i e;split at h
    ·rename_i he;have key:∀l b,aK S x=.ok l->eJ l=Ot b->(∃p n c,y=.slice (Ot p) n c)->
       ∃W' G' w,(convert src dst y).run P W=.ok w W'/\Sim F fr G S W G' S W'/\VR G' (.str b) w:=by
      rintro l b hl hb ⟨p,n,c,rfl⟩;obtain⟨h1,ns,h2,h3⟩:=aAd hb;obtain⟨e1,ws,e2,e3⟩:=rT (P:=P) hl h1 R hx;have Fh:=e3 W rfl;have hn:l.length=n:=by
       have:=e1 W
       simp[SE] at this;exact this.symm
      have lp:ws=ns.map (Uy ω):=by
       rw[h2] at e2;exact aQ0 e2
      subst lp;have CP:(loadCells p n).run P W=.ok (ns.map (Uy ω)).toArray W:=by
       rw[hn] at Fh;simpa[QJ] using Fh
      refine⟨W,G,.string ⟨⟨b⟩⟩,?_,Sim.refl R,.str _⟩;rw[UJ W src dst e (Ot p) n c hs he hd,run_bytesToString W p n c ns CP]
      have:=aT1 ns []
      rw[h3];refine congrArg (λs=>Vw (Value.string s) W) (Eq.trans ?_ (Eq.trans this (by simp)));rfl
     split at h
     ·split at h
      ·cases h
      ·rename_i l hl;split at h
       ·rename_i b hb;cases h;simp[aK] at hl;subst hl;simp[eJ] at hb;subst hb;cases hx;refine⟨W,G,.string ⟨⟨[]⟩⟩,?_,Sim.refl R,.str _⟩;rw[UJ W src dst e OG 0 0 hs he hd];rfl
       ·cases h
     ·split at h
      ·cases h
      ·rename_i l hl;split at h
       ·rename_i b hb;cases h;refine key l b hl hb ?_;cases hx;exact⟨_,_,_,rfl⟩
       ·cases h
     ·split at h
      ·cases h
      ·rename_i l hl;split at h
       ·rename_i b hb;cases h;cases hx with
        | imm0=>
         simp[aK] at hl;subst hl;simp[eJ] at hb;subst hb;refine⟨W,G,.string ⟨⟨[]⟩⟩,?_,Sim.refl R,.str _⟩;rw[UJ W src dst e OG 0 0 hs he hd];rfl
        | imm=>exact key l b hl hb ⟨_,_,_,rfl⟩
       ·cases h
     ·cases h
    ·cases h
   ·cases h
 ·rename_i u e hs hd;split at h
  ·rename_i s he;rw[cond_eq_ite] at h;split at h
   ·rename_i bh;simp only[OU,Sx,QE] at bh;obtain⟨hl,bk⟩:=bh;unfold eG at hl;split at h
    ·cases h
    ·rename_i a S1 jx;cases h;cases hx;have hge:s.length<=QS W s.length 0 e:=qO W _ _ _ (by omega)
     let cells:Pa Value:=(s.map λb=>Uy ω b.toNat).toArray++Array.replicate (QS W s.length 0 e - s.length) (.int ω 0)
     have hcs:cells.size=QS W s.length 0 e:=by simp[cells];omega
     have te:∀x∈s.map (λb=>[V.int ω (b.toNat:Int)]),x.length=1:=by
      intro x hx;obtain⟨b,_,rfl⟩:=Pv.1 hx;rfl
     have je:((W.drew.alloc (.cells cells e)).freeze { block:=W.heap.size,off:=cells.size } 1).heap=W.heap.push (.cells cells e (cells.size,cells.size+1)):=by
      unfold World.freeze;rw[Oz (by decide)];apply Xj;intro k;simp only[World.alloc,World.drew,UI,TR];by_cases hk:k=W.heap.size
      ·subst hk;simp
      ·simp[hk,SJ hk]
     obtain⟨G',h1,h2⟩:=yC (W':=(W.drew.alloc (.cells cells e)).freeze { block:=W.heap.size,off:=cells.size } 1) jx R hf je
      ⟨rfl,rfl,rfl,by rw[je];simp⟩ (cap:=QS W s.length 0 e) (by simpa using hge) (by rw[hcs];omega) (λo ho=>by simp only;omega) (λh=>absurd rfl h)
      (lM (ws:=s.map λb=>Uy ω b.toNat) te (by
       rw[yS];refine VRs.of (by simp) λi v w hv hw=>?_;simp at hv hw;obtain⟨b,hb,rfl⟩:=hv;obtain⟨b',bm,rfl⟩:=hw;rw[hb] at bm;cases bm;exact .int _ _) (λk w hk=>by
       have dw:=(Oq.1 hk).1;show cells[k]?=Ot w;rw[RY (by simpa using dw)];simpa using hk))
     refine⟨_,G',.slice (Ot ⟨W.heap.size,0,OG⟩) s.length (QS W s.length 0 e),?_,h1,.sl _ _ _ _ _ _ _ _ ⟨rfl,hge,_,h2,.inr ⟨rfl,rfl,by simp,λ_=>by simp⟩⟩⟩;have hb:(⟨⟨s⟩⟩:RF).size=s.length:=rfl;simp only[convert,Pk,OW hs,OW hd,Pb,OW he,Conv.stringToBytes,run_choose,hb,Vj,OO,Ou];have hm:Array.map (λb:OP=>Uy IntKind.u8 (b.toNat:Int)) (⟨s⟩:Pa OP)=(s.map λb=>Uy ω b.toNat).toArray:=by simp
     have AH:(W.drew.alloc (.cells cells e)).shape? W.heap.size=Ot (e,cells.size):=by
      unfold World.shape?;rw[show(W.drew.alloc (.cells cells e)).heap[W.heap.size]?=Ot (.cells cells e) from heap_alloc_new W.drew (.cells cells e)]
     show _=Vw (Xs (Ot ⟨W.heap.size,0,OG⟩) s.length (QS W s.length 0 e)) ((W.drew.alloc (.cells cells e)).freeze { block:=W.heap.size,off:=cells.size } 1);simp only[hm,XC,Pk,run_newObj,Pb,Qs,markStringish,run_shape]
     change ((Ug P (match (W.drew.alloc (.cells cells e)).shape? W.heap.size with | some (_,n)=>freeze { block:=W.heap.size,off:=n } 1 | _=>pure ()) (W.drew.alloc (.cells cells e))).andThen
      λa w'=>Vw (Xs (Ot ⟨W.heap.size,0,OG⟩) s.length (QS W s.length 0 e)) w')=_
     rw[AH];rfl
   ·cases h
  ·cases h
 ·cases h
theorem vI{P:OI}{t:OH}(h:sz P t≠0)(W:PE):(sizeOf t).run P W=.ok (sz P t) W:=by
 unfold sz Vp at h|-
 cases hi:P.info? t with
 | none=>rw[hi] at h;exact absurd rfl h
 | some i=>simp[sizeOf,SX,hi]
theorem PtrAt.add{G:Gh}{a ver i j n:Nat}{p:Wi}(h:PtrAt G a ver i j p):PtrAt G a ver i (j+n) (p.add n):=by
 obtain⟨L,hL,h⟩:=h;refine⟨L,hL,h.imp id ?_⟩;rintro⟨h1,rfl⟩;exact⟨h1,by rw[iU,SO]⟩
theorem VR.ptrAdd{G:Gh}{a ver i j n:Nat}{p:Wi}(h:VR G (.ptr a ver i j) (.pointer (Ot p))):VR G (.ptr a ver i (j+n)) (.pointer (Ot (p.add n))):=by
 cases h with
 | ptr _ _ _ _ _ h=>exact .ptr _ _ _ _ _ h.add
theorem VR.iptrAdd{G:Gh}{cs:On V}{j n:Nat}{p:Wi}(h:VR G (.iptr cs j) (.pointer (Ot p))):VR G (.iptr cs (j+n)) (.pointer (Ot (p.add n))):=by
 cases h with
 | iptr _ _ b o c ty fr hb vs hv h=>
  rw[iU,SO];exact .iptr _ _ _ _ _ _ _ hb vs hv h
theorem aAe{P:OI}{s:OH}{f:Nat}{fd:Field}(h:aA7 P s f=Ot fd):∃fs,P.underlying s=Ot (.struct fs)/\fs[f]?=Ot fd:=by
 unfold aA7 at h;split at h
 ·rename_i fs hd;exact⟨fs,hd,h⟩
 ·cases h
theorem aDh{P:OI}{s:OH}{p v:V}{f:Nat}(h:eQ P s p f=.ok v){G:Gh}{q:O'}(hq:VR G p q)(W:PE):
  ∃w,(UY s q f).run P W=.ok w W/\VR G v w:=by
 unfold eQ at h;split at h
 ·cases h
 ·rename_i fd zl;obtain⟨fs,hd,hf⟩:=aAe zl;rw[cond_eq_ite] at h;split at h
  ·cases h
  ·rename_i h0;have Fi:sz P fd.type≠0:=by simpa using h0
   have key:∀a:Wi,(UY s (.pointer (Ot a)) f).run P W=.ok (.pointer (Ot (a.add fd.offset))) W:=by
    intro a;simp[UY,OW hd,hf,Ue,fieldPlace,vI Fi,Fi]
   split at h
   ·cases h;cases hq with
    | ptr _ _ _ _ a hp=>exact⟨_,key a,(VR.ptr _ _ _ _ _ hp).ptrAdd⟩
   ·cases h;cases hq with
    | iptr _ _ b o c ty fr hb vs hv h=>exact⟨_,key _,(VR.iptr _ _ b o c ty fr hb vs hv h).iptrAdd⟩
   ·cases h
theorem aLj{P:OI}{t:OH}{x v:V}{f:Nat}(h:aEg P t x f=.ok v){G:Gh}{y:O'}(hy:VR G x y)(W:PE):
  ∃w,(WY t y f).run P W=.ok w W/\VR G v w:=by
 unfold aEg at h;split at h
 ·cases h
 ·rename_i fd zl;obtain⟨fs,hd,hf⟩:=aAe zl;split at h
  ·cases hy with
   | agg _ vs dh=>
    obtain⟨w,h1,h2⟩:=tO h dh W;exact⟨w,by simpa[WY,OW hd,hf,asAgg] using h1,h2⟩
  ·cases h
theorem qR{α:Type}{o:Ow α}(h:¬(!o.isSome)=OB):∃d,o=Ot d:=by
 cases o with
 | none=>simp at h
 | some d=>exact⟨d,rfl⟩
theorem pN{x:V}{n k:Nat}(h:pG x n=Ot k):∃kk i,x=.int kk i/\0<=i/\i<n/\k=i.toNat:=by
 unfold pG at h;split at h
 ·rename_i kk i;rw[cond_eq_ite] at h;split at h
  ·rename_i hc;simp only[OU,PB] at hc;cases h;exact⟨kk,i,rfl,hc.1,hc.2,rfl⟩
  ·cases h
 ·cases h
theorem aDi{P:OI}{t:OH}{x ix v:V}(h:dT P t x ix=.ok v){G:Gh}{y iy:O'}(hy:VR G x y)(hi:VR G ix iy)(W:PE):
  ∃w,(TG t y iy).run P W=.ok w W/\VR G v w:=by
 unfold dT at h;split at h
 ·rename_i n elem hd;rw[cond_eq_ite] at h;split at h
  ·cases h
  ·rename_i ff;obtain⟨de,wj⟩:=qR ff;split at h
   ·cases h
   ·rename_i k hk;obtain⟨kk,i,rfl,jg,ba,rfl⟩:=pN hk;cases hi;have key:∀a:Wi,(TG t (.pointer (Ot a)) (.int kk i)).run P W=.ok (.pointer (Ot (a.add (i.toNat*sz P elem)))) W:=by
     intro a;simp[TG,Wb,OW hd,Ue,jg,ba,eS wj]
    split at h
    ·cases h;cases hy with
     | ptr _ _ _ _ a hp=>exact⟨_,key a,(VR.ptr _ _ _ _ _ hp).ptrAdd⟩
    ·cases h;cases hy with
     | iptr _ _ b o c ty fr hb vs hv h=>exact⟨_,key _,(VR.iptr _ _ b o c ty fr hb vs hv h).iptrAdd⟩
    ·cases h
 ·rename_i elem hd;rw[cond_eq_ite] at h;split at h
  ·cases h
  ·rename_i ff;obtain⟨de,wj⟩:=qR ff;have key:∀(a:Wi) (n c:Nat) (kk:Qa) (i:Int),0<=i->i<n->
     (TG t (.slice (Ot a) n c) (.int kk i)).run P W=.ok (.pointer (Ot (a.add (i.toNat*sz P elem)))) W:=by
    intro a n c kk i h0 hn;simp[TG,Wb,OW hd,h0,hn,eS wj]
   split at h
   ·rename_i a ver es off len;split at h
    ·rename_i k hk;rw[cond_eq_ite] at h;split at h
     ·rename_i ch;have tf:es=sz P elem:=by simpa using ch
      cases h;obtain⟨kk,i,rfl,jg,ba,rfl⟩:=pN hk;cases hi;cases hy with
      | sl _ _ _ _ _ p n c hs=>
       obtain⟨rfl,h3,L,hL,hs⟩:=hs;refine⟨_,key p n c kk i jg ba,.ptr _ _ _ _ _ ⟨L,hL,?_⟩⟩;rcases hs with hs | ⟨h1,h2,h4,h5⟩
       ·exact .inl hs
       ·refine .inr ⟨h1,?_⟩;have hc:c≠0:=by omega
        rw[h5 hc,iU,<-tf,h2]
        congr 1
        rw[Qn];omega
     ·cases h
    ·cases h
   ·rename_i es;split at h
    ·rename_i k hk;split at h
     ·rename_i cs hcs;rw[cond_eq_ite] at h;split at h
      ·rename_i ch;have tf:cs.length=sz P elem:=by simpa using ch
       cases h;obtain⟨kk,i,rfl,jg,ba,rfl⟩:=pN hk;cases hi;cases hy with
       | imm0=>simp at hcs
       | imm _ p n c e hn hc vs hv he hp=>
        subst hn;refine⟨_,key p es.length c kk i jg ba,?_⟩;have ah:cs.length=e:=he cs (OM hcs);rcases hp with hp | ⟨ca,ty,fr,h1,h2,h3⟩
        ·omega
        ·have get:∀{es:On (On V)} {vs:On (On O')},VRss G.shut es vs->∀{k:Nat} {cs:On V},es[k]?=Ot cs->∃l,vs[k]?=Ot l/\VRs G.shut cs l:=by
          intro es vs h
          induction es generalizing vs with
          | nil=>intro k cs hk;simp at hk
          | cons x es ih=>
           cases h with
           | cons _ w _ ws h t=>
            intro k cs hk;cases k with
            | zero=>simp at hk;subst hk;exact⟨w,by simp,h⟩
            | succ k=>simp at hk;simpa using ih t hk
         obtain⟨l,l1,l2⟩:=get hv hcs;obtain⟨pb,po,ps⟩:=p;simp only at h1 h2 h3;subst h2;rw[iU,<-tf,ah];exact .iptr cs 0 pb (po+i.toNat*e) ca ty fr h1 l (λq w hq=>h3 _ l l1 q w hq) l2
      ·cases h
     ·cases h
    ·cases h
   ·cases h
 ·cases h
theorem aLk{P:OI}{t:OH}{x ix v:V}(h:aEf P t x ix=.ok v){G:Gh}{y iy:O'}(hy:VR G x y)(hi:VR G ix iy)(W:PE):
  ∃w,(Vx t y iy).run P W=.ok w W/\VR G v w:=by
 unfold aEf at h;split at h
 ·rename_i n elem hd;rw[cond_eq_ite] at h;split at h
  ·cases h
  ·rename_i ff;obtain⟨de,wj⟩:=qR ff;split at h
   ·split at h
    ·rename_i k hk;obtain⟨kk,i,rfl,jg,ba,rfl⟩:=pN hk;cases hi;cases hy with
     | agg _ vs dh=>
      obtain⟨w,h1,h2⟩:=tO h dh W;exact⟨w,by simpa[Vx,Wb,OW hd,jg,ba,eS wj] using h1,h2⟩
    ·cases h
   ·cases h
 ·rename_i hd;split at h
  ·rename_i s;split at h
   ·rename_i k hk;obtain⟨kk,i,rfl,jg,ba,rfl⟩:=pN hk;cases hi;split at h
    ·rename_i b hb;cases h;cases hy
     have:(⟨⟨s⟩⟩:RF)[i.toNat]?=Ot b:=by
      have h1:=(Oq.1 hb);obtain⟨h1,h2⟩:=h1;have bk:i.toNat<(⟨⟨s⟩⟩:RF).size:=h1;rw[getElem?_pos (⟨⟨s⟩⟩:RF) i.toNat bk];exact congrArg Ot h2
     exact⟨_,by simp[Vx,Wb,OW hd,jg,this],.int _ _⟩
    ·cases h
   ·cases h
  ·cases h
 ·cases h
theorem aGu(s:On OP)(l h:Nat):(⟨⟨s⟩⟩:RF).extract l h=⟨⟨(s.take h).drop l⟩⟩:=by
 apply Xt;apply Uf;simp[WO,Ww,Wp,List.drop_take]
theorem aJk{len:Nat}{lo hi:Ow V}{l h:Nat}(hb:eR len lo hi=.ok (l,h)):
  ((hi=OG/\h=len)\/∃k n,hi=Ot (.int k n)/\0<=n/\n<=len/\h=n.toNat) /\
  ((lo=OG/\l=0)\/∃k n,lo=Ot (.int k n)/\0<=n/\n<=h/\l=n.toNat):=by
 unfold eR at hb;split at hb
 ·cases hb
 ·rename_i H hH;have np:h=H/\((lo=OG/\l=0)\/∃k n,lo=Ot (.int k n)/\0<=n/\n<=H/\l=n.toNat):=by
   split at hb
   ·cases hb;exact⟨rfl,.inl ⟨rfl,rfl⟩⟩
   ·rename_i kk ll;rw[cond_eq_ite] at hb;split at hb
    ·rename_i hc;simp only[OU,PB] at hc;cases hb;exact⟨rfl,.inr ⟨kk,ll,rfl,hc.1,hc.2,rfl⟩⟩
    ·cases hb
   ·cases hb
  obtain⟨rfl,np⟩:=np;refine⟨?_,np⟩;split at hH
  ·cases hH;exact .inl ⟨rfl,rfl⟩
  ·rename_i kk hv;rw[cond_eq_ite] at hH;split at hH
   ·rename_i jn;simp only[OU,PB] at jn;cases hH;exact .inr ⟨kk,hv,rfl,jn.1,jn.2,rfl⟩
   ·cases hH
  ·cases hH
theorem lN{P:OI}{len:Nat}{lo hi:Ow V}{l h:Nat}(hb:eR len lo hi=.ok (l,h)){G:Gh}{ry df:Ow O'}
  (zm:∀v,lo=Ot v->∃w,ry=Ot w/\VR G v w) (lr:lo=OG->ry=OG) (sd:∀v,hi=Ot v->∃w,df=Ot w/\VR G v w) (lw:hi=OG->df=OG)
  (isSlice:Ps) (cap:Nat) (hc:len<=cap) (W:PE):
  (Ti isSlice len cap ry df OG).run P W=.ok (l,h,cap) W/\l<=h/\h<=len:=by
 obtain⟨h1,h2⟩:=aJk hb;rcases h1 with ⟨e1,rfl⟩ | ⟨k,n,e1,a1,a2,rfl⟩<;>rcases h2 with ⟨e2,rfl⟩ | ⟨k',n',e2,b1,b2,rfl⟩
 ·have:=lw e1;subst this
  have:=lr e2;subst this
  exact⟨by simp[Ti],by omega,by omega⟩
 ·have:=lw e1;subst this
  obtain⟨w,rfl,hw⟩:=zm _ e2;cases hw;have hq:0<=n'/\n'<=(h:Int):=⟨b1,b2⟩;exact⟨by simp[Ti,Vs,Wb,hq],by omega,by omega⟩
 ·obtain⟨w,rfl,hw⟩:=sd _ e1;cases hw
  have:=lr e2;subst this
  have hq:0<=n/\n<=(cap:Int):=⟨a1,by omega⟩;exact⟨by simp[Ti,Vs,Wb,hq],by omega,by omega⟩
 ·obtain⟨w,rfl,hw⟩:=sd _ e1;cases hw;obtain⟨w,rfl,hw⟩:=zm _ e2;cases hw;have hq:0<=n/\n<=(cap:Int):=⟨a1,by omega⟩;have jo:0<=n'/\n'<=n:=⟨b1,by omega⟩;have th:max n 0=n:=by omega
  exact⟨by simp[Ti,Vs,Wb,hq,jo,th],by omega,by omega⟩
theorem aLl{P:OI}{t:OH}{x v:V}{lo hi:Ow V}(h:iZ P t x lo hi=.ok v){G:Gh}{y:O'}(hy:VR G x y){ry df:Ow O'}
  (zm:∀v,lo=Ot v->∃w,ry=Ot w/\VR G v w) (lr:lo=OG->ry=OG) (sd:∀v,hi=Ot v->∃w,df=Ot w/\VR G v w) (lw:hi=OG->df=OG)
  (W:PE):∃w,(SY t y ry df OG).run P W=.ok w W/\VR G v w:=by
 unfold iZ at h;split at h
 ·rename_i hd;split at h
  ·rename_i s;split at h
   ·rename_i l hh hb;cases h;cases hy;obtain⟨b1,b2,b3⟩:=lN (P:=P) hb zm lr sd lw OA s.length (Ov _) W;have hs:(⟨⟨s⟩⟩:RF).size=s.length:=rfl;refine⟨.string ((⟨⟨s⟩⟩:RF).extract l hh),?_,by rw[aGu];exact .str _⟩;simp only[SY,Pk,OW hd,Pb,UR,hs];simp[b1]
   ·cases h
  ·cases h
 ·rename_i elem hd;rw[cond_eq_ite] at h;split at h
  ·cases h
  ·rename_i ff;obtain⟨de,wj⟩:=qR ff;split at h
   ·rename_i a ver es off len;split at h
    ·rename_i l hh hb;rw[cond_eq_ite] at h;split at h
     ·rename_i ch;have tf:es=sz P elem:=by simpa using ch
      cases h;cases hy with
      | sl _ _ _ _ _ p n c hs=>
       obtain⟨rfl,ky,L,hL,hs⟩:=hs;obtain⟨b1,b2,b3⟩:=lN (P:=P) hb zm lr sd lw OB c ky W;refine⟨.slice (Ot (if c=l then p else p.add (l*sz P elem))) (hh - l) (c - l),?_,.sl _ _ _ _ _ _ _ _ ⟨rfl,by omega,L,hL,?_⟩⟩
       ·simp only[SY,Pk,OW hd,Pb,UR,b1,eS wj,Qs];split<;>simp
       ·rcases hs with hs | ⟨h1,h2,h4,h5⟩
        ·exact .inl hs
        ·refine .inr ⟨h1,h2,by omega,λh0=>?_⟩;rw[Oz (by omega),h5 (by omega),iU,<-tf,h2]
         congr 1
         rw[Qn];omega
     ·cases h
    ·cases h
   ·rename_i es;split at h
    ·rename_i l hh hb;rw[cond_eq_ite] at h;split at h
     ·rename_i ch;cases h;cases hy with
      | imm0=>
       obtain⟨b1,b2,b3⟩:=lN (P:=P) hb zm lr sd lw OB 0 (Nat.zero_le _) W;rw[Pf] at b1 b3;obtain rfl:hh=0:=by omega
       obtain rfl:l=0:=by omega
       refine⟨.slice OG 0 0,?_,?_⟩
       ·simp only[SY,Pk,OW hd,Pb,UR,b1,Qs,eS wj,Oy,UK]
       ·simpa using VR.imm0
      | imm _ p n c e hn hc vs hv he hp=>
       subst hn;obtain⟨b1,b2,b3⟩:=lN (P:=P) hb zm lr sd lw OB c hc W;have CQ:∀{es:On (On V)} {vs:On (On O')},VRss G.shut es vs->∀l h,VRss G.shut ((es.take h).drop l) ((vs.take h).drop l):=by
        intro es vs hv
        induction es generalizing vs with
        | nil=>cases hv;intro l h;simpa using VRss.nil
        | cons x es ih=>
         cases hv with
         | cons _ w _ ws hx t=>
          intro l h;cases h with
          | zero=>simpa using VRss.nil
          | succ h=>
           cases l with
           | zero=>
            have:=ih t 0 h
            simp at this|-
            exact .cons _ _ _ _ hx this
           | succ l=>simpa using ih t l h
       refine⟨.slice (Ot (if c=l then p else p.add (l*sz P elem))) (hh - l) (c - l),?_,.imm _ _ _ _ e (by simp;omega) (by omega) _ (CQ hv l hh)
        (λcs hcs=>he cs (QP (QM hcs))) ?_⟩
       ·simp only[SY,Pk,OW hd,Pb,UR,b1,eS wj,Qs];split<;>simp
       ·by_cases h0:hh - l=0
        ·exact .inl h0
        ·right
         rcases hp with hp | ⟨ca,ty,fr,h1,h2,h3⟩
         ·omega
         ·rw[Oz (by omega)];have Kt:sz P elem=e:=by
           cases es with
           | nil=>simp at b3;omega
           | cons x es=>
            have:=PD.1 ch x (by simp)
            rw[<-he x (by simp)];exact(show x.length=sz P elem by simpa using this).symm
          obtain⟨pb,po,ps⟩:=p;simp only at h1 h2 h3;subst h2;rw[iU];refine⟨ca,ty,fr,h1,rfl,λi l' fc k v hk=>?_⟩;rw[PP,Qp] at fc;split at fc
          ·have:=h3 _ l' fc k v hk
           simp only;rw[Kt,show po+l*e+i*e+k=po+(l+i)*e+k by rw[Qn];omega];exact this
          ·cases fc
     ·cases h
    ·cases h
   ·split at h
    ·rename_i x' hb;obtain⟨l,hh⟩:=x';cases h;cases hy;obtain⟨b1,b2,b3⟩:=lN (P:=P) hb zm lr sd lw OB 0 (Ov _) W;have Ku:l=0:=by omega
     have MM:hh=0:=by omega
     subst Ku;subst MM;refine⟨.slice OG 0 0,?_,.nils⟩;simp only[SY,Pk,OW hd,Pb,UR,b1,eS wj,Qs];simp
    ·cases h
   ·cases h
 ·cases h
theorem eB:∀(a b:On OP),tF a b=(a == b)
 | [],[]=>rfl
 | [],_::_=>rfl
 | _::_,[]=>rfl
 | a::x,b::y=>by
  simp only[tF,eB x y,cond_eq_ite,QE,List.cons_beq_cons];by_cases h:a=b
  ·subst h;simp
  ·have:a.toNat≠b.toNat:=λe=>h (XL.1 e)
   simp[h,this]
theorem aNx:∀(a b:On OP),iL a b=Vy a b
 | _,[]=>by simp[iL,Vy]
 | [],_::_=>by simp[iL,Vy]
 | a::x,b::y=>by
  simp only[iL,Vy,aNx x y,cond_eq_ite,QE,Sx];by_cases h:a=b
  ·subst h;simp
  ·have h1:a.toNat≠b.toNat:=λe=>h (XL.1 e);by_cases h2:a.toNat<b.toNat
   ·have:a<b:=WP.2 h2
    simp[h2,this]
   ·have:¬a<b:=λq=>h2 (WP.1 q)
    simp[h,h1,h2,this]
theorem tQ{j k:Qa}(h:mS j k=OB):j=k:=by
 cases j<;>cases k<;>first | rfl | (simp[mS] at h)
theorem lO(s:On OP):(⟨⟨s⟩⟩:RF).toList=s:=by rw[ByteArray.toList_eq]
theorem vJ{P : OI}{op : Ux}{t : OH}{k : Qa}{a b : Int}{v : V}(hs : op ≠ .shl)(hr : op ≠ .shr)(h : lJ op k a b = .ok v)(G : Gh)(W : PE) :
    ∃w, (binOp op t (.int k a) (.int k b)).run P W = .ok w W /\ VR G v w := by
  cases op <;> simp only[lJ] at h <;> first
    | (exact absurd rfl hs)
    | (exact absurd rfl hr)
    | (cases h; exact⟨_, by simp[binOp, Op.intArith, Op.intBits, Op.intCmp]; rfl, by first | (rw[aEp]; exact .int _ _) | exact .bool _⟩)
    | (cases h
       refine⟨.int k (k.wrap ((OX k.bits a &&& ~~~(OX k.bits b)).toNat)), ?_, by rw[aEp]; exact .int _ _⟩;simp only[binOp, ne_eq, not_true_eq_false, Ou, Op.intBits];rfl)
    | (rw[cond_eq_ite] at h
       split at h
       · cases h
       · rename_i hb
         have bm : b ≠ 0 := by simpa using hb
         cases h;exact⟨_, by simp[binOp, Op.intDiv, bm]; rfl, by first | (rw[aEp]; exact .int _ _) | exact .int _ _⟩)
    | (cases h)
theorem yE{P:OI}{op:Ux}{t:OH}{k k':Qa}{a b:Int}{v:V}(h:aA6 op k a b=.ok v)(G:Gh)(W:PE):
  ∃w,(binOp op t (.int k a) (.int k' b)).run P W=.ok w W/\VR G v w:=by
 unfold aA6 at h;rw[cond_eq_ite] at h;split at h
 ·cases h
 ·rename_i hb;have bm:¬b<0:=by simpa using hb
  split at h
  ·cases h;exact⟨.int k (k.wrap (a*2 ^ (min b.toNat k.bits))),by simp[binOp,Op.shift,bm],by rw[aEp];exact .int _ _⟩
  ·cases h;exact⟨.int k (a.fdiv (2 ^ (min b.toNat k.bits))),by simp[binOp,Op.shift,bm],.int _ _⟩
  ·cases h
theorem aLm{P:OI}{op:Ux}{t:OH}{a b:On OP}{v:V}(h:aCe op a b=.ok v)(G:Gh)(W:PE):
  ∃w,(binOp op t (.string ⟨⟨a⟩⟩) (.string ⟨⟨b⟩⟩)).run P W=.ok w W/\VR G v w:=by
 have hb:∀s:On OP,(⟨⟨s⟩⟩:RF).size=s.length:=λ_=>rfl;unfold aCe at h;split at h
 ·rw[cond_eq_ite] at h;split at h
  ·rename_i hl;cases h;have fc:a.length+b.length<2147483648:=by simpa[eG] using hl
   have CN:¬(9223372036854775807<(a.length:Int)+(b.length:Int)):=by omega
   refine⟨.string (⟨⟨a⟩⟩++⟨⟨b⟩⟩),by simp[binOp,Wc,hb,CN],?_⟩
   have:(⟨⟨a⟩⟩++⟨⟨b⟩⟩:RF)=⟨⟨a++b⟩⟩:=by
    apply Xt;simp
   rw[this];exact .str _
  ·cases h
 all_goals first
  | (cases h;exact⟨_,by simp only[binOp,Wc,lO];rfl,by rw[eB];exact .bool _⟩)
  | (cases h;exact⟨_,by simp only[binOp,Wc,lO];rfl,by rw[aNx,eB];exact .bool _⟩)
  | (cases h;exact⟨_,by simp only[binOp,Wc,lO];rfl,by rw[aNx];exact .bool _⟩)
  | (cases h)
theorem aHn{P:OI}:∀(d:Nat) {t:OH} {x y:V} {r:Ps},vC P d t x y=.ok r->∀{G:Gh} {a b:O'},VR G x a->VR G y b->∀(m:Nat) (W:PE),d<=m->
  (UO m t a b).run P W=.ok r W
 | 0,_,_,_,_,h,_,_,_,_,_,_,_,_=>by simp[vC] at h
 | d+1,t,x,y,r,h,G,a,b,hx,hy,m,W,hm=>by
  obtain⟨m,rfl⟩:∃m',m=m'+1:=⟨m - 1,by omega⟩;have xh:d<=m:=by omega
  unfold vC at h;split at h
  ·rename_i k hd;split at h
   ·rename_i j a' k' b';rw[cond_eq_ite] at h;split at h
    ·rename_i hk
     have:=tQ hk
     subst this;cases h;cases hx;cases hy;simp[UO,OW hd];rfl
    ·cases h
   ·cases h
  ·rename_i hd;split at h
   ·cases h;cases hx;cases hy;simp[UO,OW hd]
   ·cases h
  ·rename_i hd;split at h
   ·rename_i a' b';cases h;cases hx;cases hy;rw[run_equalIn_string W m t _ _ hd,lO,lO,eB]
   ·cases h
  ·rename_i e hd;split at h<;>first
    | (cases h;cases hx;cases hy;simp[UO,OW hd])
    | (cases h)
  ·rename_i e hd;split at h<;>first
    | (cases h;cases hx;cases hy;simp[UO,OW hd])
    | (cases h)
  ·rename_i e hd;split at h<;>first
    | (cases h;cases hx;cases hy;simp[UO,OW hd])
    | (cases h)
  ·rename_i fs hd;split at h
   ·rename_i xs ys;rw[cond_eq_ite] at h;split at h
    ·cases h
    ·rename_i fq;have tj:P.stoodInHeld t=false:=by simpa using fq
     cases hx with
     | agg _ xv MN=>
      cases hy with
      | agg _ yv Fj=>
       have Fg:P.fieldsOf t=fs:=by simp[Program.fieldsOf,hd]
       rw[run_equalIn_struct W m t xv yv (by rw[Fg];exact hd) tj,Fg];have key:∀(l:On Field) (r:Ps),vC.eqFs P (vC P d) xs ys l=.ok r->(Xu m xv yv l).run P W=.ok r W:=by
        intro l
        induction l with
        | nil=>intro r h;simp[vC.eqFs] at h;subst h;simp[Xu]
        | cons f l ih=>
         intro r h;simp only[vC.eqFs] at h;rw[cond_eq_ite] at h;split at h
         ·cases h
         ·rename_i hn;have qx:f.name ≠ "_":=by simpa using hn
          split at h
          ·cases h
          ·rename_i a' ha;split at h
           ·cases h
           ·rename_i b' hb;split at h
            ·cases h
            ·rename_i r' hr;obtain⟨w1,p1,p2⟩:=tO ha MN W;obtain⟨w2,q1,q2⟩:=tO hb Fj W;have he:=aHn d hr p2 q2 m W xh;have MO:(part f.type xv f.offset).run P W=.ok w1 W:=by simpa using p1
             have nr:(part f.type yv f.offset).run P W=.ok w2 W:=by simpa using q1
             simp only[Xu,qx,ne_eq,not_false_eq_true,Oy,Pk,MO,nr,he,Pb];cases r'
             ·simp at h|-;exact h
             ·simp at h|-;exact ih r h
       exact key fs.toList r h
   ·cases h
  ·cases h
theorem aLn{P:OI}{op:Ux}{t:OH}{x y:V}(h:aVb P op t x y=OB){G:Gh}{a b:O'}(hx:VR G x a)(hy:VR G y b)(ox oy:Pj)(W:PE):
  (WQ op t ox oy a b).run P W=.ok () W:=by
 by_cases Gp:op=.eql\/op=.neq
 ·have hg:cF P t x y=true:=by
   rcases Gp with rfl | rfl<;>exact h
  clear h;cases hx<;>cases hy<;>first
   | (simp[cF] at hg;done)
   | (exact run_eqGuard_agg W op t ox oy _ _ (by simpa[cF] using hg))
   | (rcases Gp with rfl | rfl<;>simp[WQ])
 ·have:(WQ op t ox oy a b)=pure ():=by
   unfold WQ;cases op<;>first | rfl | (simp at Gp)
  rw[this];rfl
theorem aT2{P:OI}{t:OH}{x y:Pj}{a b:V}(h:jF P t x y a b=OB):cF P t a b=OB\/aSz x y a b=true:=by
 unfold jF at h;split at h
 ·simpa only[Ra] using h
 ·exact .inl h
theorem aJl{P:OI}{op:Ux}{t:OH}{x y:V}{ox oy:Pj}(h:aNt P op t ox oy x y=OB){G:Gh}{a b:O'}(hx:VR G x a)(hy:VR G y b)(W:PE):
  (WQ op t ox oy a b).run P W=.ok () W:=by
 by_cases hg:aVb P op t x y=OB
 ·exact aLn hg hx hy ox oy W
 ·have hn:aSz ox oy x y=true:=by
   cases op<;>first | exact(aT2 h).resolve_left hg | exact absurd rfl hg
  unfold aSz at hn;split at hn
  ·split at hn
   ·cases hx;cases hy;unfold isC at hn;cases ox<;>cases oy<;>cases op<;>first | (simp at hn;done) | rfl
   ·cases hn
  ·cases hn
theorem aLo{m:Nat}{k:Qa}(h:mS (aDn m) k=OB):aDn m=k:=tQ h
theorem aEq{op : Ux}{m r : Nat}{k k' : Qa}{n b : Int}{v : V}{sy : Nat -> Int}(h : aJg op m r k b = .ok v)(hr : bJ7 sy m r k' n) :
    k' = k /\ lJ op k n b = .ok v /\ lJ (vD op) k b n = .ok v /\ (op = .eql \/ op = .neq \/ op = .lss \/ op = .leq \/ op = .gtr \/ op = .geq) := by
  unfold aJg at h;rw[cond_eq_ite] at h;split at h
  · rename_i hc
    simp only[OU, RA] at hc;have hk := aLo hc.2;rcases hr with ⟨h1, _, _⟩ | ⟨h1, h2, _, h3, h4⟩
    · omega
    · refine⟨h2.trans hk, ?_⟩
      cases op <;> simp only[cond_eq_ite, Ra, PB] at h <;>
        first
        | (cases h; done)
        | (split at h
           · cases h
             refine⟨?_, ?_, by simp⟩ <;> simp only[lJ, vD] <;> congr 2 <;> simp <;> omega
           · first
             | (cases h; done)
             | (split at h
                · cases h
                  refine⟨?_, ?_, by simp⟩ <;> simp only[lJ, vD] <;> congr 2 <;> simp <;> omega
                · cases h))
  · cases h
theorem aHo{op:Ux}(h:op=.eql\/op=.neq\/op=.lss\/op=.leq\/op=.gtr\/op=.geq):op≠.shl/\op≠.shr:=by
 rcases h with rfl | rfl | rfl | rfl | rfl | rfl<;>simp
theorem aT3{P:OI}{op:Ux}{t:OH}{x y v:V}(h:cC P op t x y=.ok v){G:Gh}{a b:O'}(hx:VR G x a)(hy:VR G y b)(W:PE):
  ∃w,(binOp op t a b).run P W=.ok w W/\VR G v w:=by
 unfold cC at h;split at h
 ·rename_i j a' k b';cases hx;cases hy;split at h
  ·exact yE h G W
  ·exact yE h G W
  ·rename_i h1 h2;rw[cond_eq_ite] at h;split at h
   ·rename_i hk
    have:=tQ hk
    subst this;exact vJ (λe=>h1 e) (λe=>h2 e) h G W
   ·cases h
 ·cases hx;cases hy;exact aLm h G W
 ·rename_i m r y' _;split at h
  ·cases hx with
   | res _ _ k' n hr=>
    cases hy;obtain⟨rfl,h1,_,h2⟩:=aEq h hr;exact vJ (aHo h2).1 (aHo h2).2 h1 G W
  ·cases h
 ·split at h
  ·cases hy with
   | res _ _ k' n hr=>
    cases hx;obtain⟨rfl,_,h1,h2⟩:=aEq h hr;have hf:vD (vD op)=op:=by cases op<;>first | rfl | (simp[vD] at h2)
    rw[hf] at h1;have h3:op≠.shl/\op≠.shr:=by cases op<;>first | (simp;done) | (simp[vD] at h2)
    exact vJ h3.1 h3.2 h1 G W
  ·cases h
 ·rename_i n1 n2 n3 n4;have key:∀r,vC P 100 t x y=.ok r->(YB t a b).run P W=.ok r W:=λr hr=>aHn 100 hr hx hy 10000 W (by omega);have hint:∀j n k m,a=.int j n->b=.int k m->False:=by
   intro j n k m h1 h2;subst h1;subst h2;cases hx<;>cases hy<;>first | exact n3 _ _ _ _ rfl rfl | exact n1 _ _ rfl | exact n2 _ _ rfl
  have CR:∀s u,a=.string s->b=.string u->False:=by
   intro s u h1 h2;subst h1;subst h2;cases hx;cases hy;exact n4 _ _ rfl rfl
  split at h
  ·split at h
   ·rename_i r hr;cases h;refine⟨.bool r,?_,.bool _⟩
    have:binOp .eql t a b=(do pure (.bool (<-YB t a b))):=by
     clear key hr n1 n2 n3 n4;cases hx<;>cases hy<;>first
      | rfl
      | exact(hint _ _ _ _ rfl rfl).elim
      | exact(CR _ _ rfl rfl).elim
    rw[this];simp[key r hr]
   ·cases h
  ·split at h
   ·rename_i r hr;cases h;refine⟨.bool (!r),?_,.bool _⟩
    have:binOp .neq t a b=(do pure (.bool (!(<-YB t a b)))):=by
     clear key hr n1 n2 n3 n4;cases hx<;>cases hy<;>first
      | rfl
      | exact(hint _ _ _ _ rfl rfl).elim
      | exact(CR _ _ rfl rfl).elim
    rw[this];simp[key r hr]
   ·cases h
  ·cases h
theorem aGv{fr:Ow Nat}{S S':St}{s:On OP}{a:Nat}(h:bR fr S (.iter s 0)=.ok (a,S'))
  {F:Nat->Ow Obj} {G:Gh} {W:PE} (R:gJ F G S W.heap) (hf:vH fr G S):
  ∃G',Sim F fr G S W G' S' (W.alloc (.stringIter ⟨⟨s⟩⟩ 0))/\G'.loc a=Ot ⟨0,W.heap.size,0,0,0⟩:=by
 have row:∀k,G.le { G with loc:=λx=>if x=k then Ot ⟨0,W.heap.size,0,0,0⟩ else G.loc x }->
   BlkAt { G with loc:=λx=>if x=k then Ot ⟨0,W.heap.size,0,0,0⟩ else G.loc x } (W.heap.push (.stringIter ⟨⟨s⟩⟩ 0)) k (.iter s 0):=
  λk _=>⟨⟨0,W.heap.size,0,0,0⟩,by simp,rfl,rfl,by simp⟩
 unfold bR at h;split at h
 ·rw[cond_eq_ite] at h;split at h
  ·rename_i hl;cases h;have fc:S.next<tE S.next:=by simpa using hl
   obtain⟨f1,f2⟩:=R.fresh S.next (Ov _);obtain⟨g1,g2⟩:=R.allocBlk (k:=S.next) (nx:=S.next+1) f1 f2 fc (by omega) (by omega) (ob:=.stringIter ⟨⟨s⟩⟩ 0) (row _);refine⟨_,⟨g1,g2,Same.alloc _ _,by simp,λx hx ag _=>⟨?_,rfl⟩,λx hx ag _=>?_,λ_ _ h=>.inl h⟩,by simp⟩
   ·have:x≠S.next:=by omega
    simp[this]
   ·show(S.heap.put S.next _).get x=OG;rw[Tr.get_put_neB _ _ _ _ fc (by omega)];exact hx
  ·cases h
 ·rename_i k;rw[cond_eq_ite] at h;split at h
  ·rename_i hl;cases h;have fc:a<tE a:=by simpa using hl
   obtain⟨f0,f1,f2⟩:=hf a rfl;obtain⟨g1,g2⟩:=R.allocBlk (k:=a) (nx:=S.next) f1 f2 fc (Ov _) f0 (ob:=.stringIter ⟨⟨s⟩⟩ 0) (row _);refine⟨_,⟨g1,g2,Same.alloc _ _,by simp,λx hx ag ah=>⟨?_,rfl⟩,λx hx ag ah=>?_,λ_ _ h=>.inl h⟩,by simp⟩
   ·have:x≠a:=λe=>ah (by rw[e])
    simp[this]
   ·show(S.heap.put a _).get x=OG;rw[Tr.get_put_neB _ _ _ _ fc (λe=>ah (by rw[e]))];exact hx
  ·cases h
theorem aLp{P:OI}{t:OH}(hd:P.underlying t=Ot .string){s:On OP}{fr:Ow Nat}{S S':St}{a:Nat}(h:bR fr S (.iter s 0)=.ok (a,S'))
  {F:Nat->Ow Obj} {G:Gh} {W:PE} (R:gJ F G S W.heap) (hf:vH fr G S) {y:O'} (hy:VR G (.str s) y):
  ∃W' G' w,(YC t y).run P W=.ok w W'/\Sim F fr G S W G' S' W'/\VR G' (.ptr a 0 0 0) w:=by
 cases hy;obtain⟨G',h1,h2⟩:=aGv h R hf;refine⟨_,G',.pointer (Ot ⟨W.heap.size,0,OG⟩),?_,h1,.ptr _ _ _ _ _ ⟨_,h2,.inr ⟨rfl,rfl⟩⟩⟩;simp only[YC,Pk,OW hd,Pb,Qs,run_newObj];rfl
theorem decode_ascii{s:On OP}{pos:Nat}{b:OP}(hb:s[pos]?=Ot b)(ag:b.toNat<128):QZ ⟨⟨s⟩⟩ pos=(b.toNat,1):=by
 have MP:(Xk ⟨⟨s⟩⟩ (pos+0)).toNat=b.toNat:=by
  have:Xk ⟨⟨s⟩⟩ (pos+0)=b:=by
   show((⟨s⟩:Pa OP)[pos+0]!)=b;simp[List.getElem!_eq_getElem?_getD,hb]
  rw[this]
 unfold QZ;simp only[MP];rw[OE ag]
theorem aNy{P:OI}{ty:OH}{a pos:Nat}{s:On OP}{S:St}(hg:S.heap.get a=Ot (.iter s pos)){fr:Ow Nat}
  {F:Nat->Ow Obj} {G:Gh} {W:PE} (R:gJ F G S W.heap) {y:O'} (hy:VR G (.ptr a 0 0 0) y):
  (s.length<=pos->∃w,(Uh y OB ty).run P W=.ok w W/\VR G (.tup [.bool OA]) w) /\
  (pos<s.length->∃W' w,(Uh y OB ty).run P W=.ok w W' /\
   Sim F fr G S W G ⟨S.next,S.heap.put a (.iter s (pos+(QZ ⟨⟨s⟩⟩ pos).2))⟩ W'/\VR G (.tup [.bool OB,.int J pos,.int .i32 (QZ ⟨⟨s⟩⟩ pos).1]) w):=by
 cases hy with
 | ptr _ _ _ _ ad hp=>
  obtain⟨L,hL,hp⟩:=hp;obtain⟨L',cy,r1,r2,hH⟩:=R.blk a _ hg;rw[hL] at cy;cases cy;rcases hp with hp | ⟨_,rfl⟩
  ·omega
  ·have e0:L.co+0*L.es+0=0:=by rw[r2];simp
   rw[e0];have bk:(⟨⟨s⟩⟩:RF).size=s.length:=rfl;have bg:(WZ L.cb).run P W=.ok (.stringIter ⟨⟨s⟩⟩ pos) W:=by simp[WZ,Ug,hH]
   refine⟨λhge=>⟨.tuple #[.bool OA],?_,.tup _ _ (.cons _ _ _ _ (.bool _) .nil)⟩,λdu=>?_⟩
   ·unfold Uh;simp only[Pk,bg,Pb,bk];rw[Oz (by omega)];rfl
   ·have hi:=R.lt a L.cb (.inl ⟨L,hL,rfl⟩);refine⟨{ W with heap:=W.heap.setIfInBounds L.cb (.stringIter ⟨⟨s⟩⟩ (pos+(QZ ⟨⟨s⟩⟩ pos).2)) },.tuple #[.bool OB,.int J pos,.int .i32 (QZ ⟨⟨s⟩⟩ pos).1],?_,⟨G.le_refl,?_,⟨rfl,rfl,rfl,by simp⟩,Ov _,λ_ _ _ _=>⟨rfl,rfl⟩,λx hx _ _=>?_,λ_ _ h=>.inl h⟩,
     .tup _ _ (.cons _ _ _ _ (.bool _) (.cons _ _ _ _ (.int _ _) (.cons _ _ _ _ (.int _ _) .nil)))⟩
    ·unfold Uh;simp only[Pk,bg,Pb,bk];rw[OE du];simp only[Pk];have ce:(XD L.cb (.stringIter ⟨⟨s⟩⟩ (pos+(QZ ⟨⟨s⟩⟩ pos).2))).run P W=.ok () { W with heap:=W.heap.setIfInBounds L.cb (.stringIter ⟨⟨s⟩⟩ (pos+(QZ ⟨⟨s⟩⟩ pos).2)) }:=by
      simp[XD,Ug,hH]
     rw[ce];rfl
    ·refine R.keepBlk hg hL (λi hi=>?_) (by simp) ⟨L,hL,r1,r2,?_⟩
     ·show(W.heap.setIfInBounds L.cb _)[i]?=W.heap[i]?;rw[Sj (SJ hi)]
     ·show(W.heap.setIfInBounds L.cb _)[L.cb]?=_;simp[hi]
    ·show(S.heap.put a _).get x=OG;rw[Tr.get_put_neB _ _ _ _ (R.small a _ hg) (λe=>by rw[e,hg] at hx;cases hx)];exact hx
theorem uO{P:OI}{t:OH}{z:V}(hz:aQ P t=Ot z)(G:Gh):∃w,(∀W,(RZ t).run P W=.ok w W)/\VR G z w:=by
 obtain⟨i,w,h1,h2,h3⟩:=iM hz;exact⟨w,λW=>by simp[RZ,SX,h1,h2],gH G h3⟩
theorem aJm{P:OI}{x v:V}{xt t:OH}{ok:Ps}(h:aAa P x t ok=.ok v){G:Gh}{y:O'}(hy:VR G x y)(W:PE):
  ∃w,(TB y xt t ok).run P W=.ok w W/\VR G v w:=by
 have fails:(bif ok then(match aQ P t with
  | some z=>.ok (.tup [z,.bool OA])
  | none=>.error "typeAssert") else .error "typeAssert")=(Except.ok v:AM.R V)->∃w,(∀a b c,(if ok=OB then(do pure (Value.tuple #[<-RZ t,.bool OA])) else runtimePanic (.typeAssertion a b t c):Sem O').run P W=.ok w W)/\VR G v w:=by
  intro hv;cases ok
  ·cases hv
  ·simp only[PW] at hv;split at hv
   ·rename_i z hz;cases hv;obtain⟨w,w1,w2⟩:=uO hz G;exact⟨.tuple #[w,.bool OA],λ_ _ _=>by simp[w1],.tup _ _ (.cons _ _ _ _ w2 (.cons _ _ _ _ (.bool _) .nil))⟩
   ·cases hv
 unfold aAa at h;simp only at h;split at h
 ·cases h
 ·cases h
 ·rename_i d CS hd;split at h
  ·rename_i u x;cases hy with
   | iface _ _ w hw=>
    rw[cond_eq_ite] at h;split at h
    ·rename_i hb;have bm:=Qv hb;subst bm;cases h;refine⟨if ok then .tuple #[w,.bool OB] else w,?_,?_⟩
     ·cases d<;>first | exact(CS _ rfl).elim | (simp[TB,OW hd];done)
     ·cases ok
      ·exact hw
      ·exact .tup _ _ (.cons _ _ _ _ hw (.cons _ _ _ _ (.bool _) .nil))
    ·rename_i hb;have bm:u≠t:=λe=>hb (by simp[e]);obtain⟨w',w1,w2⟩:=fails h;refine⟨w',?_,w2⟩;cases d<;>first | exact(CS _ rfl).elim | (simp only[TB,Pk,OW hd,Pb,bm,Ou];exact w1 _ _ _)
  ·cases hy;obtain⟨w',w1,w2⟩:=fails h;refine⟨w',?_,w2⟩;cases d<;>first | exact(CS _ rfl).elim | (simp only[TB,Pk,OW hd,Pb];exact w1 _ _ _)
  ·cases h
theorem aJn{P:OI}{g:PU}{fn:Func}(hf:P.funcs[g]?=Ot fn)(hb:fn.body=OG){args:On V}{v:V}(h:tH fn args=.ok v){G:Gh}{cs:On O'}(ha:VRs G args cs)(W:PE):
  ∃w,(UZ g cs.toArray).run P W=.ok (.value w) W/\VR G v w:=by
 unfold tH at h;rw[cond_eq_ite] at h;split at h
 ·rename_i hn;simp only[OU,beq_iff_eq] at hn;obtain⟨CT,CU⟩:=hn;split at h
  ·rename_i ka a kb b kc c;rw[cond_eq_ite] at h;split at h
   ·rename_i hc;simp only[OU,PB] at hc;obtain⟨⟨⟨c1,c2⟩,c3⟩,c4⟩:=hc;cases h;cases ha with
    | cons _ _ _ _ ha t=>cases t with
     | cons _ _ _ _ bm t=>cases t with
      | cons _ _ _ _ hc t=>
       cases t;cases ha;cases bm;cases hc;have Cg:XE fn=none:=by
        unfold XE;rw[CT,CU]
        kernel_rfl
       obtain⟨e,he,az⟩:∃e,Yq fn=Ot e/\(e #[.int ka a,.int kb b,.int kc c]).run P W=.ok (UL ((a.toNat+b.toNat+c.toNat) % QN) ((a.toNat+b.toNat+c.toNat) / QN)) W:=by
        refine⟨λargs=>do
         let (x,y,c)<-Xv "Add64" args
         pure (UL ((x+y+c) % QN) ((x+y+c) / QN)),?_,?_⟩
        ·unfold Yq;rw[CT,CU];rfl
        ·rcases(by omega:c=0\/c=1) with rfl | rfl<;>rfl
       refine⟨_,by
        rw[run_callFunc_extern hf (by rw[CT];kernel_rfl) (by rw[hb];rfl) Cg he,az];rfl,?_⟩
       refine .tup _ _ (.cons _ _ _ _ ?_ (.cons _ _ _ _ ?_ .nil))
       ·have:((a.toNat+b.toNat+c.toNat) % QN:Nat)=((a+b+c) % 18446744073709551616:Int):=by
         unfold QN;omega
        rw[<-this];exact .int _ _
       ·have:((a.toNat+b.toNat+c.toNat) / QN:Nat)=((a+b+c) / 18446744073709551616:Int):=by
         unfold QN;omega
        rw[<-this];exact .int _ _
   ·cases h
  ·cases h
 ·cases h
theorem RelH.allocMap{F:Nat->Ow Obj}{G:Gh}{S:St}{H:Pa Obj}(R:gJ F G S H){k nx:Nat}(hk:G.loc k=OG)(hm:G.ml k=OG)(cq:k<tE k)
  (hn:S.next<=nx) (xg:k<nx):
  G.le { G with ml:=λx=>if x=k then Ot H.size else G.ml x } /\
  gJ F { G with ml:=λx=>if x=k then Ot H.size else G.ml x } ⟨nx,S.heap.put k (.mp [])⟩ (H.push (.map #[] 0)):=by
 have hle:G.le { G with ml:=λx=>if x=k then Ot H.size else G.ml x }:=by
  refine⟨λx K hK=>⟨K,hK,.inl rfl⟩,λx b hb=>?_,λ_ _ h=>h,rfl⟩;have hx:x≠k:=λe=>by rw[e,hm] at hb;cases hb
  simp[hx,hb]
 have holds:∀x i,x≠k->dC { G with ml:=λx=>if x=k then Ot H.size else G.ml x } x i->dC G x i:=by
  intro x i hx h;rcases h with h | h
  ·exact .inl h
  ·simp[hx] at h;exact .inr h
 have fh:∀i,dC { G with ml:=λx=>if x=k then Ot H.size else G.ml x } k i->i=H.size:=by
  intro i h;rcases h with ⟨K,hK,e⟩ | h
  ·change G.loc k=Ot K at hK
   rw[hk] at hK;cases hK
  ·simp at h;exact h.symm
 have old:∀i,i<H.size->(H.push (.map #[] 0))[i]?=H[i]?:=by
  intro i hi;rw[TR,Oz (by omega)]
 refine⟨hle,?_⟩;constructor
 ·intro x hx;have AD:nx<=x:=hx
  have:x≠k:=by omega
  simp only[this,Ou];exact R.fresh x (by omega)
 ·intro x K hK;by_cases hx:x=k
  ·subst hx;change G.loc x=Ot K at hK;rw[hk] at hK;cases hK
  ·simp[hx];exact R.sep x K hK
 ·intro x b hb;simp only at hb;rw[Tr.get_putB _ _ _ _ cq] at hb;by_cases hx:x=k
  ·subst hx;simp at hb;subst hb;exact⟨H.size,#[],0,by simp,by simp,.nil,by simp,by simp⟩
  ·rw[Oz hx] at hb;have hold:=R.blk x b hb;cases b with
   | row bd dz jw=>
    obtain⟨K,hK,r1,r2,r3,c',ze,mn,hc,r4,r5,r6⟩:=hold;exact⟨K,hK,r1,r2,r3,c',ze,mn,by rw[old _ (R.lt x _ (.inl ⟨K,hK,rfl⟩))];exact hc,r4,r5,r6.mono hle⟩
   | mp kvs=>
    obtain⟨i,dz,clock,hi,hH,r1,r2⟩:=hold;exact⟨i,dz,clock,by simp[hx,hi],by rw[old _ (R.lt x _ (.inr hi))];exact hH,r1.mono hle,r2⟩
   | iter s pos=>
    obtain⟨K,hK,r1,r2,hH⟩:=hold;exact⟨K,hK,r1,r2,by rw[old _ (R.lt x _ (.inl ⟨K,hK,rfl⟩))];exact hH⟩
 ·intro x y b b' i hb bm h1 h2;simp only at hb bm;rw[Tr.get_putB _ _ _ _ cq] at hb bm;by_cases hx:x=k
  ·by_cases hy:y=k
   ·rw[hx,hy]
   ·subst hx;have e:=fh i h1;subst e
    have:=R.lt y _ (holds y _ hy h2);omega
  ·rw[Oz hx] at hb;by_cases hy:y=k
   ·subst hy;have e:=fh i h2;subst e
    have:=R.lt x _ (holds x _ hx h1);omega
   ·rw[Oz hy] at bm;exact R.inj x y b b' i hb bm (holds x i hx h1) (holds y i hy h2)
 ·intro i o h;have dt:i<H.size:=(PF.1 (R.fr i o h)).1;rw[old i dt];exact R.fr i o h
 ·intro i o h;have dt:i<H.size:=(PF.1 (R.pr i o h)).1;rw[old i dt];exact R.pr i o h
 ·intro x b i hb h;simp only at hb;rw[Tr.get_putB _ _ _ _ cq] at hb;by_cases hx:x=k
  ·subst hx;have e:=fh i h;subst e;constructor
   ·cases hF:F H.size with
    | none=>rfl
    | some o=>have:=(PF.1 (R.fr _ o hF)).1;omega
   ·cases hF:G.pr H.size with
    | none=>rfl
    | some o=>have:=(PF.1 (R.pr _ o hF)).1;omega
  ·rw[Oz hx] at hb;exact R.own x b i hb (holds x i hx h)
 ·intro x i h;by_cases hx:x=k
  ·subst hx;rw[fh i h];simp
  ·have:=R.lt x i (holds x i hx h);simp;omega
 ·intro x b hb;simp only at hb;rw[Tr.get_putB _ _ _ _ cq] at hb;by_cases hx:x=k
  ·subst hx;exact cq
  ·rw[Oz hx] at hb;exact R.small x b hb
theorem aGw{P:OI}{t:OH}{fr:Ow Nat}{S S':St}{a:Nat}(h:bR fr S (.mp [])=.ok (a,S'))
  {F:Nat->Ow Obj} {G:Gh} {W:PE} (R:gJ F G S W.heap) (hf:vH fr G S):
  ∃W' G' w,(Yb t OG).run P W=.ok w W'/\Sim F fr G S W G' S' W'/\VR G' (.mp a) w:=by
 unfold bR at h;split at h
 ·rw[cond_eq_ite] at h;split at h
  ·rename_i hl;cases h;have fc:S.next<tE S.next:=by simpa using hl
   obtain⟨f1,f2⟩:=R.fresh S.next (Ov _);obtain⟨g1,g2⟩:=R.allocMap (k:=S.next) (nx:=S.next+1) f1 f2 fc (by omega) (by omega);refine⟨W.alloc (.map #[] 0),_,.map (Ot W.heap.size),rfl,⟨g1,g2,Same.alloc _ _,by simp,λx hx ag _=>⟨rfl,?_⟩,λx hx ag _=>?_,λ_ _ h=>.inl h⟩,.mp _ _ (by simp)⟩
   ·have:x≠S.next:=by omega
    simp[this]
   ·show(S.heap.put S.next _).get x=OG;rw[Tr.get_put_neB _ _ _ _ fc (by omega)];exact hx
  ·cases h
 ·rename_i k;rw[cond_eq_ite] at h;split at h
  ·rename_i hl;cases h;have fc:a<tE a:=by simpa using hl
   obtain⟨f0,f1,f2⟩:=hf a rfl;obtain⟨g1,g2⟩:=R.allocMap (k:=a) (nx:=S.next) f1 f2 fc (Ov _) f0;refine⟨W.alloc (.map #[] 0),_,.map (Ot W.heap.size),rfl,⟨g1,g2,Same.alloc _ _,by simp,λx hx ag ah=>⟨rfl,?_⟩,λx hx ag ah=>?_,λ_ _ h=>.inl h⟩,.mp _ _ (by simp)⟩
   ·have:x≠a:=λe=>ah (by rw[e])
    simp[this]
   ·show(S.heap.put a _).get x=OG;rw[Tr.get_put_neB _ _ _ _ fc (λe=>ah (by rw[e]))];exact hx
  ·cases h
theorem aHp{P:OI}{t e:OH}(h:bB1 P t=Ot e):∃k,P.underlying t=Ot (.map k e)/\P.underlying k=Ot .string:=by
 unfold bB1 at h;split at h
 ·rename_i k e' hd;split at h
  ·rename_i hk;cases h;exact⟨k,hd,hk⟩
  ·cases h
 ·cases h
theorem aBr(s t:On OP):((⟨⟨s⟩⟩:RF) == ⟨⟨t⟩⟩)=tF s t:=by
 rw[eB]
 have:((⟨⟨s⟩⟩:RF) == ⟨⟨t⟩⟩)=((⟨s⟩:Pa OP) == ⟨t⟩):=rfl
 rw[this];simp
theorem nG{G:Gh}{s:On OP}:∀{es:On Sb} {kvs:On (V×V)} {i:Nat} {r:Ow (Nat×V)},MapR G es kvs->aHg s kvs i=Ot r->
  ∃r',TH .string (.string ⟨⟨s⟩⟩) es i=Ot r'/\(match r,r' with
   | none,OG=>True
   | some (j,v),Ot (j',w)=>j=j'/\VR G v w/\i<=j/\∃e,es[j - i]?=Ot e/\e.key=.string ⟨⟨s⟩⟩
   | _,_=>False)
 | _,_,i,r,.nil,h=>by cases h;exact⟨OG,rfl,trivial⟩
 | _,_,i,r,.cons e k v es l hk hv t,h=>by
  obtain⟨ek,ev,eb⟩:=e;simp only at hk hv;cases hk with
  | str u=>
   simp only[aHg] at h;rw[cond_eq_ite] at h;split at h
   ·rename_i hb;cases h;have he:s=u:=by rw[eB] at hb;simpa using hb
    subst he;refine⟨Ot (i,ev),?_,rfl,hv,Ov _,⟨_,ev,eb⟩,by simp,rfl⟩
    have:((⟨⟨s⟩⟩:RF) == ⟨⟨s⟩⟩)=true:=by rw[aBr];exact hb
    simp only[TH,Yc,this]
   ·rename_i hb;obtain⟨r',h1,h2⟩:=nG t h;refine⟨r',?_,?_⟩
    ·have:((⟨⟨s⟩⟩:RF) == ⟨⟨u⟩⟩)=false:=by rw[aBr];simpa using hb
     simp only[TH,Yc,this];exact h1
    ·cases r with
     | none=>
      cases r' with
      | none=>exact h2
      | some q=>exact h2
     | some p=>
      cases r' with
      | none=>exact h2
      | some q=>
       obtain⟨j,v'⟩:=p;obtain⟨j',w'⟩:=q;obtain⟨a1,a2,a3,e,a4,a5⟩:=h2;refine⟨a1,a2,by omega,e,?_,a5⟩;rw[show j - i=(j - (i+1))+1 by omega,SD];exact a4
  | _=>simp[aHg] at h
theorem nX{P:OI}{w:PE}{kt:OH}{d:XQ}{k:O'}{l:On Sb}{a:Ow (Nat×O')}(hd:P.underlying kt=Ot d)(h:TH d k l 0=Ot a):(Yd kt k l).run P w=.ok a w:=by
 simp[Yd,OW hd,h]
theorem kH{P:OI}{w:PE}{kt:OH}(hd:P.underlying kt=Ot .string)(b:Ps)(v:O'):(Wd b 10000 kt v).run P w=.ok () w:=by
 show(Wd b (9999+1) kt v).run P w=_;unfold Wd;rw[Pk,OW hd];rfl
theorem MapR.set{G:Gh}:∀{es:On Sb} {kvs:On (V×V)},MapR G es kvs->∀(i:Nat) (f:Sb->Sb) (k v:V),(∀e,es[i]?=Ot e->VR G k (f e).key/\VR G v (f e).val)->MapR G (es.modify i f) (kvs.set i (k,v))
 | _,_,.nil,i,f,k,v,h=>by simp;exact .nil
 | _,_,.cons e k0 v0 es l hk hv t,0,f,k,v,h=>by
  have:=h e (by simp)
  exact .cons _ _ _ _ _ this.1 this.2 t
 | _,_,.cons e k0 v0 es l hk hv t,i+1,f,k,v,h=>by
  exact .cons _ _ _ _ _ hk hv (t.set i f k v λe he=>h e (by simpa using he))
theorem MapR.push{G:Gh}:∀{es:On Sb} {kvs:On (V×V)},MapR G es kvs->∀(e:Sb) (k v:V),VR G k e.key->VR G v e.val->MapR G (es++[e]) (kvs++[(k,v)])
 | _,_,.nil,e,k,v,h1,h2=>.cons _ _ _ _ _ h1 h2 .nil
 | _,_,.cons e0 k0 v0 es l hk hv t,e,k,v,h1,h2=>.cons _ _ _ _ _ hk hv (t.push e k v h1 h2)
theorem aJo{P:OI}{t:OH}{m k v:V}{ok:Ps}{S:St}(h:aA9 P t m k ok S=.ok v)
  {F:Nat->Ow Obj} {G:Gh} {W:PE} (R:gJ F G S W.heap) {mc kc:O'} (hm:VR G m mc) (hk:VR G k kc):
  ∃w,(WH t mc kc ok).run P W=.ok w W/\VR G v w:=by
 unfold aA9 at h;split at h
 ·rename_i e s he;obtain⟨kt,hd,sg⟩:=aHp he;cases hk;split at h
  ·cases h
  ·rename_i kvs AI;have ch:∃es:Pa Sb,MapR G es.toList kvs/\((mc=.map OG/\es=#[])\/∃cb clock,mc=.map (Ot cb)/\(WZ cb).run P W=.ok (.map es clock) W):=by
    unfold aHh at AI;split at AI
    ·cases AI;cases hm;exact⟨#[],.nil,.inl ⟨rfl,rfl⟩⟩
    ·rename_i a;split at AI
     ·rename_i xk hg;cases AI;cases hm with
      | mp _ cb jp=>
       obtain⟨b,es,clock,hb,hH,r1,r2⟩:=R.blk a _ hg;rw[jp] at hb;cases hb;exact⟨es,r1,.inr ⟨cb,clock,rfl,by simp[WZ,Ug,hH]⟩⟩
     ·cases AI
    ·cases AI
   obtain⟨es,hr,ch⟩:=ch;have okR:∀{b:Ps} {v:V} {w:O'},VR G v w->VR G (okV ok b v) (if ok then .tuple #[w,.bool b] else w):=by
    intro b v w hv;cases ok
    ·exact hv
    ·exact .tup _ _ (.cons _ _ _ _ hv (.cons _ _ _ _ (.bool _) .nil))
   have run:∀{r:Ow (Nat×O')},TH .string (.string ⟨⟨s⟩⟩) es.toList 0=Ot r->(WH t mc (.string ⟨⟨s⟩⟩) ok).run P W=
     ((match r with
      | some (_,v)=>pure (v,OB)
      | none=>do pure (<-RZ e,OA):Sem (O'×Ps)) >>= λx=>pure (if ok then .tuple #[x.1,.bool x.2] else x.1)).run P W:=by
    intro r hr;unfold WH;rw[Pk,OW hd];simp only[Pb];rcases ch with ⟨rfl,rfl⟩ | ⟨cb,clock,rfl,hg⟩
    ·simp only[Pk,Qs,Pb,kH sg,nX sg hr];cases r<;>simp[Pk]<;>(cases Ug P (RZ e) W<;>rfl)
    ·simp only[Pk,hg,Qs,Pb,kH sg,nX sg hr];cases r<;>simp[Pk]<;>(cases Ug P (RZ e) W<;>rfl)
   split at h
   ·rename_i j v' nu;cases h;obtain⟨r',h1,h2⟩:=nG hr nu;cases r' with
    | none=>exact h2.elim
    | some q=>
     obtain⟨j',w⟩:=q;refine⟨_,?_,okR h2.2.1⟩;rw[run h1];rfl
   ·rename_i nu;split at h
    ·rename_i z hz;cases h;obtain⟨r',h1,h2⟩:=nG hr nu;cases r' with
     | some q=>exact h2.elim
     | none=>
      obtain⟨w,w1,w2⟩:=uO hz G;refine⟨_,?_,okR w2⟩;rw[run h1];simp[w1]
    ·cases h
   ·cases h
 ·cases h
theorem RelH.keepMap{F:Nat->Ow Obj}{G:Gh}{S:St}{H H':Pa Obj}(R:gJ F G S H){a b:Nat}{b0:Blk}(bg:S.heap.get a=Ot b0)
  (hL:G.ml a=Ot b) (db:∀i,i≠b->H'[i]?=H[i]?) (bk:H'.size=H.size) {nb:Blk} (row:BlkAt G H' a nb):gJ F G ⟨S.next,S.heap.put a nb⟩ H':=by
 have cq:=R.small a b0 bg;have hH:dC G a b:=.inr hL;have old:∀x c,x≠a->S.heap.get x=Ot c->∀i,dC G x i->H'[i]?=H[i]?:=by
  intro x c hx hc i hi;refine db i λe=>hx ?_;subst e;exact R.inj x a c b0 i hc bg hi hH
 have get:∀x c,(S.heap.put a nb).get x=Ot c->(x=a/\c=nb)\/(x≠a/\S.heap.get x=Ot c):=by
  intro x c h;rw[Tr.get_putB _ _ _ _ cq] at h;by_cases hx:x=a
  ·rw[OE hx] at h;cases h;exact .inl ⟨hx,rfl⟩
  ·rw[Oz hx] at h;exact .inr ⟨hx,h⟩
 have getOld:∀x c,(S.heap.put a nb).get x=Ot c->∃c',S.heap.get x=Ot c':=by
  intro x c h;rcases get x c h with ⟨rfl,_⟩ | ⟨_,h⟩
  ·exact⟨b0,bg⟩
  ·exact⟨c,h⟩
 constructor
 ·exact R.fresh
 ·exact R.sep
 ·intro x c hc;rcases get x c hc with ⟨rfl,rfl⟩ | ⟨hx,hc⟩
  ·exact row
  ·have hold:=R.blk x c hc;cases c with
   | row bd dz jw=>
    obtain⟨K,hK,r1,r2,r3,c',ze,mn,jn,r⟩:=hold;exact⟨K,hK,r1,r2,r3,c',ze,mn,by rw[old x _ hx hc _ (.inl ⟨K,hK,rfl⟩)];exact jn,r⟩
   | mp kvs=>
    obtain⟨i,dz,clock,hi,xl,r⟩:=hold;exact⟨i,dz,clock,hi,by rw[old x _ hx hc _ (.inr hi)];exact xl,r⟩
   | iter s pos=>
    obtain⟨K,hK,r1,r2,xl⟩:=hold;exact⟨K,hK,r1,r2,by rw[old x _ hx hc _ (.inl ⟨K,hK,rfl⟩)];exact xl⟩
 ·intro x y c c' i hc jn h1 h2;obtain⟨d,hd⟩:=getOld x c hc;obtain⟨d',fe⟩:=getOld y c' jn;exact R.inj x y d d' i hd fe h1 h2
 ·intro i o h;have ah:i≠b:=λe=>by
   have:=(R.own a b0 b bg hH).1
   rw[<-e,h] at this;cases this
  rw[db i ah];exact R.fr i o h
 ·intro i o h;have ah:i≠b:=λe=>by
   have:=(R.own a b0 b bg hH).2
   rw[<-e,h] at this;cases this
  rw[db i ah];exact R.pr i o h
 ·intro x c i hc h;obtain⟨d,hd⟩:=getOld x c hc;exact R.own x d i hd h
 ·intro x i h;rw[bk];exact R.lt x i h
 ·intro x c hc;obtain⟨d,hd⟩:=getOld x c hc;exact R.small x d hd
theorem aLq(es:On Sb)(i:Nat)(f:Sb->Sb)(hf:∀e,(f e).born=e.born):(es.modify i f).map (·.born)=es.map (·.born):=by
 induction es generalizing i with
 | nil=>simp
 | cons e es ih=>
  cases i with
  | zero=>simp[hf]
  | succ i=>simp[ih]
theorem aDj{P:OI}{t:OH}{m k v:V}{S S':St}(h:pH P t m k v S=.ok S')
  {F:Nat->Ow Obj} {G:Gh} {W:PE} (R:gJ F G S W.heap) {mc kc vc:O'} (hm:VR G m mc) (hk:VR G k kc) (hv:VR G v vc) {fr:Ow Nat}:
  ∃W',(VO t mc kc vc).run P W=.ok () W'/\Sim F fr G S W G S' W':=by
 unfold pH at h;split at h
 ·rename_i e s a he;obtain⟨kt,hd,sg⟩:=aHp he;have sh:=hk;cases hk;cases hm with
  | mp _ b jp=>
   split at h
   ·rename_i kvs hg;obtain⟨b',es,clock,hb,hH,r1,r2,r3⟩:=R.blk a _ hg;rw[jp] at hb;cases hb;have ag:=R.lt a b (.inr jp);have bg:(WZ b).run P W=.ok (.map es clock) W:=by simp[WZ,Ug,hH]
    have ce:∀o,(XD b o).run P W=.ok () { W with heap:=W.heap.setIfInBounds b o }:=by
     intro o;simp[XD,Ug,hH]
    have fin:∀{dz:Pa Sb} {jz:Nat} {xk:On (V×V)},MapR G dz.toList xk->((∀e∈dz.toList,e.born<jz)/\(dz.toList.map (·.born)).Nodup)->
      Sim F fr G S W G ⟨S.next,S.heap.put a (.mp xk)⟩ { W with heap:=W.heap.setIfInBounds b (.map dz jz) }:=by
     intro dz jz xk q1 q2;refine⟨G.le_refl,?_,⟨rfl,rfl,rfl,by simp⟩,Ov _,λ_ _ _ _=>⟨rfl,rfl⟩,λx hx _ _=>?_,λ_ _ h=>.inl h⟩
     ·refine R.keepMap hg jp (λi hi=>?_) (by simp) ⟨b,dz,jz,jp,?_,q1,q2⟩
      ·show(W.heap.setIfInBounds b _)[i]?=W.heap[i]?;rw[Sj (SJ hi)]
      ·show(W.heap.setIfInBounds b _)[b]?=_;simp[ag]
     ·show(S.heap.put a _).get x=OG;rw[Tr.get_put_neB _ _ _ _ (R.small a _ hg) (λe=>by rw[e,hg] at hx;cases hx)];exact hx
    have run:∀{r:Ow (Nat×O')},TH .string (.string ⟨⟨s⟩⟩) es.toList 0=Ot r->(VO t (.map (Ot b)) (.string ⟨⟨s⟩⟩) vc).run P W=
      (match r with
      | some (i,_)=>do
       let key<-Vc (((es[i]?).map (·.key)).getD (.string ⟨⟨s⟩⟩)) (.string ⟨⟨s⟩⟩)
       XD b (.map (es.modify i λe=>{ e with key,val:=vc }) clock)
      | none=>XD b (.map (es.push { key:=.string ⟨⟨s⟩⟩,val:=vc,born:=clock }) (clock+1)):Sem Unit).run P W:=by
     intro r hr;unfold VO;rw[Pk,OW hd];simp only[Pb];rw[Pk,bg];simp only[Pb];rw[Pk,kH sg];simp only[Pb];rw[Pk,nX sg hr];simp only[Pb];cases r<;>rfl
    split at h
    ·rename_i j v' nu;cases h;obtain⟨r',h1,h2⟩:=nG r1 nu;cases r' with
     | none=>exact h2.elim
     | some q=>
      obtain⟨j',w⟩:=q;obtain⟨rfl,_,_,e0,e1,e2⟩:=h2;simp only[UK] at e1;have AJ:es[j]?=Ot e0:=by simpa using e1
      refine⟨{ W with heap:=W.heap.setIfInBounds b (.map (es.modify j λe=>{ e with key:=.string ⟨⟨s⟩⟩,val:=vc }) clock) },?_,fin ?_ ?_⟩
      ·rw[run h1]
       have:(Vc (((es[j]?).map (·.key)).getD (.string ⟨⟨s⟩⟩)) (.string ⟨⟨s⟩⟩)).run P W=.ok (.string ⟨⟨s⟩⟩) W:=by
        have CV:((⟨⟨s⟩⟩:RF) == ⟨⟨s⟩⟩)=true:=by rw[aBr,eB];simp
        rw[AJ];simp[e2,Vc,Instr.sameBits,CV]
       simp only[Pk,this,Pb,ce]
      ·rw[Xd];exact r1.set j _ _ _ λe _=>⟨sh,hv⟩
      ·rw[Xd];have xm:=aLq es.toList j (λe=>{ e with key:=.string ⟨⟨s⟩⟩,val:=vc }) (λ_=>rfl);refine⟨λe he=>?_,by rw[xm];exact r3⟩;have hm:=List.mem_map_of_mem (f:=(·.born)) he;rw[xm] at hm;obtain⟨e',m1,m2⟩:=Pv.1 hm;rw[<-m2];exact r2 e' m1
    ·rename_i nu;cases h;obtain⟨r',h1,h2⟩:=nG r1 nu;cases r' with
     | some q=>exact h2.elim
     | none=>
      refine⟨{ W with heap:=W.heap.setIfInBounds b (.map (es.push { key:=.string ⟨⟨s⟩⟩,val:=vc,born:=clock }) (clock+1)) },?_,fin ?_ ?_⟩
      ·rw[run h1];exact ce _
      ·rw[Xw];exact r1.push _ _ _ sh hv
      ·rw[Xw];refine⟨λe he=>?_,?_⟩
       ·rcases Qf.1 he with he | he
        ·have:=r2 e he;omega
        ·simp at he;subst he;simp
       ·rw[List.map_append,List.nodup_append];refine⟨r3,by simp,λx hx y hy=>?_⟩;simp at hy;subst hy;obtain⟨e',m1,m2⟩:=Pv.1 hx
        have:=r2 e' m1;omega
    ·cases h
   ·cases h
 ·cases h
theorem pO(l:On (On V))(a:Nat)(mid:On (On V))(h:a+mid.length<=l.length):(mT l a mid).length=l.length:=by
 simp[mT];omega
theorem aLr(l:On (On V))(a:Nat)(mid:On (On V))(h:a+mid.length<=l.length)(i:Nat):
  (mT l a mid)[i]?=if a<=i/\i<a+mid.length then mid[i - a]? else l[i]?:=by
 unfold mT;have hl:(l.take a).length=a:=by simp;omega
 rcases Q' i a with q | q
 ·rw[Oz (by omega),Pr (by omega),Qp,OE q]
 ·rw[Pe (by omega),hl];rcases Q' i (a+mid.length) with q2 | q2
  ·rw[OE ⟨q,q2⟩,Pr (by omega)]
  ·rw[Oz (by omega),Pe (by omega),PP]
   congr 1;omega
theorem RowR.over{G:Gh}{c:Pa O'}{co es:Nat}{elems:On (On V)}(h:RowR G c co es elems){a:Nat}{mid:On (On V)}{ws:On O'}(hm:∀x∈mid,x.length=es)(hw:VRs G mid.flatten ws)
  (hle:a+mid.length<=elems.length) (bk:co+elems.length*es<=c.size):RowR G (bH c (co+a*es) ws) co es (mT elems a mid):=by
 have jy:ws.length=mid.length*es:=by rw[<-hw.length,cG _ _ hm]
 have hb:(a+mid.length)*es<=elems.length*es:=Po _ hle;rw[Qn] at hb;intro i cs hi;rw[aLr _ _ _ hle] at hi;split at hi
 ·rename_i ba;have cg:cs∈mid:=OM hi;refine⟨hm cs cg,λj v hj=>?_⟩;have rm:j<es:=by rw[<-hm cs cg];exact(Oq.1 hj).1
  have:mid.flatten[(i - a)*es+j]?=Ot v:=by rw[lL es mid hm (i - a) j rm,hi];exact hj
  obtain⟨w,w1,w2⟩:=hw.get this;refine⟨w,?_,w2⟩;have ag:(i - a+1)*es<=mid.length*es:=Po _ (by omega);rw[Sf] at ag;have he:i*es=a*es+(i - a)*es:=by rw[<-Qn];congr 1;omega
  rw[cR,OE ⟨by omega,by omega,by omega⟩];rw[show co+i*es+j - (co+a*es)=(i - a)*es+j by omega];exact w1
 ·rename_i qy;refine⟨(h i cs hi).1,λj v hj=>?_⟩;have rm:j<es:=by rw[<-(h i cs hi).1];exact(Oq.1 hj).1
  obtain⟨w,w1,w2⟩:=(h i cs hi).2 j v hj;refine⟨w,?_,w2⟩;rw[cR,Oz]
  ·exact w1
  ·intro hc;rcases Q' i a with q | q
   ·have:(i+1)*es<=a*es:=Po _ q
    rw[Sf] at this;omega
   ·have:(a+mid.length)*es<=i*es:=Po _ (by omega)
    rw[Qn] at this;omega
theorem aAf{P:OI}{e:OH}{z:On V}(h:wW P e=Ot z):
  ∃i zw,P.info? e=Ot i/\i.zero=Ot zw/\i.size=sz P e/\z.length=sz P e/\aH z=OB/\zw.cells.size=sz P e/\(∀G:Gh,VRs G z zw.cells.toList)/\(∀W,(RZ e).run P W=.ok zw W):=by
 unfold wW at h;split at h
 ·rename_i z0 hz;rw[cond_eq_ite] at h;split at h
  ·rename_i hb;cases h;simp only[OU,QE] at hb;obtain⟨i,zw,hi,mz,ho⟩:=iM hz;have hv:=λG:Gh=>(gH G ho).cells;refine⟨i,zw,hi,mz,(kX hi).symm,hb.1,hb.2,?_,hv,λW=>by simp[RZ,SX,hi,mz]⟩
   have:=(hv ⟨λ_=>OG,λ_=>OG,λ_=>OG,λ_=>0⟩).length
   simp at this;omega
  ·cases h
 ·cases h
theorem vK{z:On V}(h:aH z=OB)(n:Nat):aH (PT n z).flatten=true:=by
 refine PD.2 λv hv=>?_;obtain⟨l,hl,mo⟩:=TS.1 hv;rw[RG hl] at mo;exact kW h mo
theorem aLs{P:OI}{ts:Pa OH}{t ty:OH}(ht:ts[0]?=Ot t){x v:V}{S S':St}(h:aEh P t x S=.ok (v,S'))
  {F:Nat->Ow Obj} {G:Gh} {W:PE} (R:gJ F G S W.heap) {xc:O'} (hx:VR G x xc) {fr:Ow Nat}:
  ∃W' G' w,(Ss ts ty #[xc]).run P W=.ok w W'/\Sim F fr G S W G' S' W'/\VR G' v w:=by
 unfold aEh at h;split at h
 ·rename_i e he;cases h;cases hx;exact⟨W,G,.tuple #[],by simp[Ss,ht,OW (pM he)],Sim.refl R,.tup _ _ .nil⟩
 ·rename_i e a ver sx off len he;have hd:=pM he;cases hx with
  | sl _ _ _ _ _ p n c cd=>
   obtain⟨rfl,ky,L,hL,cd⟩:=cd;rw[cond_eq_ite] at h;split at h
   ·rename_i h0;cases h;have Fi:n=0:=by simpa using h0
    subst Fi;exact⟨W,G,.tuple #[],by simp[Ss,ht,OW hd],Sim.refl R,.tup _ _ .nil⟩
   ·rename_i h0;have Cf:n≠0:=by simpa using h0
    split at h
    ·rename_i z es elems hz al;have hr:=iW al;rw[cond_eq_ite] at h;split at h
     ·rename_i bh;cases h;simp only[OU,QE,RA] at bh;obtain⟨ch,hle⟩:=bh;obtain⟨i,zw,hi,mz,MQ,ku,xn,nd,wi,ro⟩:=aAf hz;obtain⟨L',cy,r1,r2,r3,ca,cty,cfr,dv,r4,r5,r6⟩:=R.blk a _ hr;rw[hL] at cy;cases cy;rcases cd with cd | ⟨_,_,nh,hp⟩
      ·omega
      ·have gk:=hp (by omega);subst gk;have jp:∀x∈PT n z,x.length=es:=λx hx=>by rw[RG hx,ku,ch]
       have CW:=qM (wi G) n;have jy:(P' zw.cells n).toList.length=n*es:=by
        show(P' zw.cells n).size=n*es;rw[jK,nd,ch]
       have fu:(off+n)*es<=L.cap*es:=Po _ (by omega);rw[Qn] at fu;obtain⟨W',s1,s2,s3,s4,s5⟩:=fH (P:=P) (b:=L.cb) (o:=L.co+off*L.es) (ty:=cty) (fr:=cfr) (P' zw.cells n).toList 0 W ca dv
        (CW.ones (vK xn n)) (by rw[r2,jy];omega) (λk qv di=>r5.1 k (by rw[r2] at qv;omega) (by rw[r2,jy] at di;omega))
       simp only[QT] at s2;refine⟨W',G,.tuple #[],?_,⟨G.le_refl,?_,s5,Ov _,λ_ _ _ _=>⟨rfl,rfl⟩,λx hx _ _=>?_,λ_ _ h=>.inl h⟩,.tup _ _ .nil⟩
       ·have:n≠0:=Cf
        obtain⟨m,rfl⟩:∃m,n=m+1:=⟨n - 1,by omega⟩;simp[Ss,ht,OW hd,ro];rw[s1];rfl
       ·have jf:off+(PT n z).length<=elems.length:=by simpa using hle
        have hcs:elems.length*es<=L.cap*es:=Po _ r3;refine R.keepRow hr hL s3 s4 ⟨r1,r2,by rw[pO _ _ _ jf];exact r3,_,cty,cfr,s2,by rw[bK];exact r4,⟨r5.1,by rw[bK];exact r5.2⟩,?_⟩;rw[r2];exact r6.over jp CW jf (by omega)
       ·show(S.heap.put a _).get x=OG;rw[Tr.get_put_neB _ _ _ _ (R.small a _ hr) (λe=>by rw[e,hr] at hx;cases hx)];exact hx
     ·cases h
    ·cases h
 ·cases h
theorem aNz{P:OI}{ts:Pa OH}{t ty:OH}(ht:ts[0]?=Ot t){d x v:V}{S S':St}(h:aLa P t d x S=.ok (v,S'))
  {F:Nat->Ow Obj} {G:Gh} {W:PE} (R:gJ F G S W.heap) {dc xc:O'} (hd:VR G d dc) (hx:VR G x xc) {fr:Ow Nat}:
  ∃W' G' w,(SU ts ty #[dc,xc]).run P W=.ok w W'/\Sim F fr G S W G' S' W'/\VR G' v w:=by
 unfold aLa at h;split at h
 ·rename_i e a ver sx off len he;have MR:=pM he;cases hd with
  | sl _ _ _ _ _ p n c cd=>
   obtain⟨rfl,ky,L,hL,cd⟩:=cd;split at h
   ·rename_i xs es elems pn al;have hr:=iW al;rw[cond_eq_ite] at h;split at h
    ·rename_i bh;cases h;simp only[OU,QE,RA,Sx] at bh;obtain⟨⟨⟨⟨⟨⟨ch,hle⟩,kx⟩,dj⟩,jm⟩,Cf⟩,bk⟩:=bh;have tm:∀cs∈xs,cs.length=sz P e:=by
      intro cs hcs
      have:=PD.1 dj cs hcs
      simpa using this
     obtain⟨hlen,ws,lp,bo⟩:=rT (P:=P) pn tm R hx;have jy:ws.length=xs.length*es:=by rw[<-lp.length,cG _ _ tm,ch]
     obtain⟨L',cy,r1,r2,r3,ca,cty,cfr,dv,r4,r5,r6⟩:=R.blk a _ hr;rw[hL] at cy;cases cy;rcases cd with cd | ⟨_,_,nh,hp⟩
     ·omega
     ·have gk:=hp (by omega);subst gk;have jp:∀x∈xs,x.length=es:=λx hx=>by rw[tm x hx,ch]
      have fu:(off+xs.length)*es<=L.cap*es:=Po _ (by omega);rw[Qn] at fu;have MS:aH xs.flatten=true:=PD.2 λv hv=>by
       obtain⟨l,hl,mo⟩:=TS.1 hv;exact kW (PD.1 jm l hl) mo
      obtain⟨W',s1,s2,s3,s4,s5⟩:=fH (P:=P) (b:=L.cb) (o:=L.co+off*L.es) (ty:=cty) (fr:=cfr) ws 0 W ca dv
       (lp.ones MS) (by rw[r2,jy];omega) (λk qv di=>r5.1 k (by rw[r2] at qv;omega) (by rw[r2,jy] at di;omega))
      simp only[QT] at s2;refine⟨W',G,.int J xs.length,?_,⟨G.le_refl,?_,s5,Ov _,λ_ _ _ _=>⟨rfl,rfl⟩,λx hx _ _=>?_,λ_ _ h=>.inl h⟩,.int _ _⟩
      ·have Gr:Nat.min xs.length n=xs.length:=Nat.min_eq_left kx;have hf:=bo W rfl;have hz:=vI (P:=P) (t:=e) (by omega);simp only[SU,List.getElem?_toArray,List.getElem?_cons_zero,SD,ht];simp[OW MR,hlen W,hz,Gr,hf,s1];rfl
      ·have jf:off+xs.length<=elems.length:=by omega
       have hcs:elems.length*es<=L.cap*es:=Po _ r3;refine R.keepRow hr hL s3 s4 ⟨r1,r2,by rw[pO _ _ _ jf];exact r3,_,cty,cfr,s2,by rw[bK];exact r4,⟨r5.1,by rw[bK];exact r5.2⟩,?_⟩;rw[r2];exact r6.over jp lp jf (by omega)
      ·show(S.heap.put a _).get x=OG;rw[Tr.get_put_neB _ _ _ _ (R.small a _ hr) (λe=>by rw[e,hr] at hx;cases hx)];exact hx
    ·cases h
   ·cases h
 ·cases h
def aLt(P:OI)(F:Nat->Ow Obj)(fr:Ow Nat)(G:Gh)(S:St)(W:PE)(run:Result Next):Out->Prop
 | .val v S'=>∃W' G' w,run=.ok (.value w) W'/\Sim F fr G S W G' S' W'/\VR G' v w
 | .skip S'=>∃W' G',run=.ok .skip W'/\Sim F fr G S W G' S' W'
 | .call f args=>∃cs:On O',VRs G args cs/\run=(UZ f cs.toArray).run P W
theorem oW{ρ:Pj->Ow V}{ρc:Pj->O'}{G:Gh}(hρ:∀x v,ρ x=Ot v->VR G v (ρc x)):∀{l:On Pj} {vs:On V},tD ρ l=Ot vs->VRs G vs (l.map ρc)
 | [],vs,h=>by simp[tD] at h;subst h;exact .nil
 | x::l,vs,h=>by
  simp only[tD] at h;split at h
  ·rename_i v hv;split at h
   ·rename_i us Gs;cases h;exact .cons _ _ _ _ (hρ x v hv) (oW hρ Gs)
   ·cases h
  ·cases h
theorem yT{ρ:Pj->Ow V}{ρc:Pj->O'}{G:Gh}(hρ:∀x v,ρ x=Ot v->VR G v (ρc x)):∀{l:On (Nat×Pj)} {vs:On (Nat×V)},pI ρ l=Ot vs->PsR G vs (l.map λp=>(p.1,ρc p.2))
 | [],vs,h=>by simp[pI] at h;subst h;exact .nil
 | (i,x)::l,vs,h=>by
  simp only[pI] at h;split at h
  ·rename_i v hv;split at h
   ·rename_i us Gs;cases h;exact .cons _ _ _ _ _ (hρ x v hv) (yT hρ Gs)
   ·cases h
  ·cases h
theorem aHq{ρ:Pj->Ow V}{ρc:Pj->O'}{G:Gh}(hρ:∀x v,ρ x=Ot v->VR G v (ρc x)){o:Ow Pj}{r:Ow V}(h:evO ρ o=Ot r):
  (∀v,r=Ot v->∃w,o.map ρc=Ot w/\VR G v w)/\(r=OG->o.map ρc=OG):=by
 cases o with
 | none=>simp[evO] at h;subst h;exact⟨λv hv=>(by cases hv),λ_=>rfl⟩
 | some x=>
  simp only[evO] at h;split at h
  ·rename_i v hv;cases h;exact⟨λu hu=>(by cases hu;exact⟨_,rfl,hρ x v hv⟩),λhu=>(by cases hu)⟩
  ·cases h
theorem aT4{P:OI}{t:OH}{x v:V}{S:St}(h:aBn P t x S=.ok v){F:Nat->Ow Obj}{G:Gh}{W:PE}(R:gJ F G S W.heap){y:O'}(hy:VR G x y)
  {ts:Pa OH} (ht:ts[0]?=Ot t) (ty:OH):∃w,(SA ts ty #[y]).run P W=.ok w W/\VR G v w:=by
 unfold aBn at h;split at h
 ·rename_i hd;split at h
  ·rename_i s;cases h;cases hy;have hb:(⟨⟨s⟩⟩:RF).size=s.length:=rfl;exact⟨.int J s.length,by simp[SA,ht,OW hd,Xx,hb],.int _ _⟩
  ·cases h
 ·rename_i n e hd;cases h;exact⟨.int J n,by simp[SA,ht,OW hd,Xx],.int _ _⟩
 ·rename_i e hd;split at h
  ·cases h;cases hy;exact⟨.int J 0,by simp[SA,ht,OW hd,Xx],.int _ _⟩
  ·rename_i len;cases h;cases hy with
   | sl _ _ _ _ _ p n c hs=>
    obtain⟨rfl,_⟩:=hs;exact⟨.int J n,by simp[SA,ht,OW hd,Xx],.int _ _⟩
  ·rename_i es;cases h;cases hy with
   | imm0=>exact⟨.int J 0,by simp[SA,ht,OW hd,Xx],.int _ _⟩
   | imm _ p n c e' hn hc vs hv he hp=>
    subst hn;exact⟨.int J es.length,by simp[SA,ht,OW hd,Xx],.int _ _⟩
  ·cases h
 ·rename_i k e hd;split at h
  ·cases h;cases hy;exact⟨.int J 0,by simp[SA,ht,OW hd,Xx],.int _ _⟩
  ·rename_i a;split at h
   ·rename_i kvs hg;cases h;cases hy with
    | mp _ cb hm=>
     obtain⟨b,es,clock,h1,h2,h3,h4,h5⟩:=R.blk a _ hg;rw[hm] at h1;cases h1;have hl:∀{es:On Sb} {l:On (V×V)},MapR G es l->es.length=l.length:=by
      intro es l h
      induction h with
      | nil=>rfl
      | cons e k v es l hk hv t ih=>simp[ih]
     have:=hl h3
     refine⟨.int J es.size,?_,by rw[<-this];exact .int _ _⟩;simp[SA,ht,OW hd,Xx,WZ,Ug,h2]
   ·cases h
  ·cases h
 ·cases h
theorem aT5{P:OI}{l:On V}{v:V}(h:aVc l=.ok v){G:Gh}{cs:On O'}(hl:VRs G l cs)(ts:Pa OH)(ty:OH)(W:PE):
  ∃w,(Builtin.min_ ts ty cs.toArray).run P W=.ok w W/\VR G v w:=by
 unfold aVc at h;split at h
 ·rw[cond_eq_ite] at h;split at h
  ·cases h;cases hl with
   | cons _ _ _ _ ha t=>cases t with
    | cons _ _ _ _ hb t=>cases t;cases ha;cases hb;exact⟨_,run_min_int2 W ts ty _ _ _ _,.int _ _⟩
  ·cases h
 ·cases h
theorem aT6{P:OI}{l:On V}{v:V}(h:aVd l=.ok v){G:Gh}{cs:On O'}(hl:VRs G l cs)(ts:Pa OH)(ty:OH)(W:PE):
  ∃w,(Builtin.max_ ts ty cs.toArray).run P W=.ok w W/\VR G v w:=by
 unfold aVd at h;split at h
 ·rw[cond_eq_ite] at h;split at h
  ·cases h;cases hl with
   | cons _ _ _ _ ha t=>cases t with
    | cons _ _ _ _ hb t=>cases t;cases ha;cases hb;exact⟨_,run_max_int2 W ts ty _ _ _ _,.int _ _⟩
  ·cases h
 ·cases h
theorem aVf{P:OI}{op:UnOp}{x v:V}(h:unV op x=.ok v){G:Gh}{y:O'}(hy:VR G x y)(W:PE):∃w,(Op.unary op y).run P W=.ok w W/\VR G v w:=by
 unfold unV at h;split at h
 ·cases h;cases hy;exact⟨_,rfl,.bool _⟩
 ·cases h;cases hy;exact⟨_,rfl,by rw[aEp];exact .int _ _⟩
 ·cases h;cases hy;exact⟨_,rfl,by rw[aEp];exact .int _ _⟩
 ·cases h
theorem aGx{P:OI}{b:Builtin}{ts:Pa OH}{args:On V}{fr:Ow Nat}{S:St}{r:Out}(h:fE P b ts args fr S=.ok r)
  {F:Nat->Ow Obj} {G:Gh} {W:PE} (R:gJ F G S W.heap) (hf:vH fr G S) {cs:On O'} (ha:VRs G args cs) (ty:OH) (consts:Pa Ps):
  aLt P F fr G S W ((builtin b ts ty consts cs.toArray).run P W) r:=by
 unfold fE at h;split at h
 ·cases ha with
  | cons _ y _ _ hy t=>
   cases t;split at h
   ·rename_i t ht;unfold dQ at h;split at h
    ·rename_i v hv;cases h;obtain⟨w,w1,w2⟩:=aT4 hv R hy ht ty;exact⟨W,G,w,by simp[builtin,w1],Sim.refl R,w2⟩
    ·cases h
   ·cases h
 ·unfold dQ at h;split at h
  ·rename_i v hv;cases h;obtain⟨w,w1,w2⟩:=aT5 (P:=P) hv ha ts ty W;exact⟨W,G,w,by simp[builtin,w1],Sim.refl R,w2⟩
  ·cases h
 ·unfold dQ at h;split at h
  ·rename_i v hv;cases h;obtain⟨w,w1,w2⟩:=aT6 (P:=P) hv ha ts ty W;exact⟨W,G,w,by simp[builtin,w1],Sim.refl R,w2⟩
  ·cases h
 ·cases ha with
  | cons _ y _ _ hy t=>
   cases t with
   | cons _ z _ _ hz t=>
    cases t;split at h
    ·rename_i t u ht hu;split at h
     ·rename_i e hd;unfold eT at h;split at h
      ·rename_i v S' hv;cases h;obtain⟨W',G',w,w1,w2,w3⟩:=tP (ty:=ty) ht hu (.inl ⟨e,hd⟩) hv R hf hy hz;exact⟨W',G',w,by simp[builtin,w1],w2,w3⟩
      ·cases h
     ·rename_i hd;unfold eT at h;split at h
      ·rename_i v S' hv;cases h;obtain⟨W',G',w,w1,w2,w3⟩:=tP (ty:=ty) ht hu (.inr hd) hv R hf hy hz;exact⟨W',G',w,by simp[builtin,w1],w2,w3⟩
      ·cases h
     ·cases h
    ·cases h
 ·cases ha with
  | cons _ y _ _ hy t=>
   cases t;split at h
   ·rename_i t ht;unfold eT at h;split at h
    ·rename_i v S' hv;cases h;obtain⟨W',G',w,w1,w2,w3⟩:=aLs (ty:=ty) (fr:=fr) ht hv R hy;exact⟨W',G',w,by simp[builtin,w1],w2,w3⟩
    ·cases h
   ·cases h
 ·cases ha with
  | cons _ y _ _ hy t=>
   cases t with
   | cons _ z _ _ hz t=>
    cases t;split at h
    ·rename_i t ht;unfold eT at h;split at h
     ·rename_i v S' hv;cases h;obtain⟨W',G',w,w1,w2,w3⟩:=aNz (ty:=ty) (fr:=fr) ht hv R hy hz;exact⟨W',G',w,by simp[builtin,w1],w2,w3⟩
     ·cases h
    ·cases h
 ·cases h
theorem aAg{P:OI}{S:St}{g:PU}{args:On V}{r:Out}(h:yO P S g args=.ok r){F:Nat->Ow Obj}{fr:Ow Nat}{G:Gh}{W:PE}(R:gJ F G S W.heap)
  {cs:On O'} (ha:VRs G args cs):aLt P F fr G S W ((UZ g cs.toArray).run P W) r:=by
 unfold yO at h;split at h
 ·cases h
 ·rename_i fn hf;split at h
  ·cases h;exact⟨cs,ha,rfl⟩
  ·rename_i hb;unfold dQ at h;split at h
   ·rename_i v hv;cases h;obtain⟨w,w1,w2⟩:=aJn hf hb hv ha W;exact⟨W,G,w,w1,Sim.refl R,w2⟩
   ·cases h
theorem aVg(v:O')(xs:Pa O'):(#[v]++xs)[0]?=Ot v:=by
 rw[RY (by simp)];rfl
theorem aVh(v:O')(xs:Pa O'):(#[v]++xs).extract 1 (#[v]++xs).size=xs:=by
 apply Xj;intro i;rw[Array.getElem?_extract];have e:(#[v]++xs).size=xs.size+1:=by simp[Nat.add_comm]
 rw[e];split
 ·rw[Array.getElem?_append_right (by simp)];simp
 ·rename_i h
  have:xs.size<=i:=by omega
  rw[Array.getElem?_eq_none this]
theorem aVi(v:O')(xs:Pa O'):#[v]++xs=(v::xs.toList).toArray:=by
 apply Uf;simp
theorem aJp{P:OI}{t:OH}{name:String}{g:PU}(h:aDo P t name=Ot g)(w:O')(args:Pa O')(W:PE):
  (callMethod (.iface t w) name args).run P W=(UZ g (#[w]++args)).run P W:=by
 unfold aDo at h;split at h
 ·cases h
 ·rename_i i hi;split at h
  ·cases h
  ·rename_i m hm;split at h
   ·rename_i g' fs hf hp hu;cases h;have Kv:m.path=#[]:=by
     cases hq:m.path with
     | mk l=>rw[hq] at hp;simp at hp;rw[hp]
    unfold callMethod;rw[Pk,show Ug P program W=.ok P W from rfl];simp only[Pb];rw[Pk];have CX:(method (P.types.size+Wl) t w name).run P W=.ok (g,w) W:=by
     rw[show P.types.size+Wl=(P.types.size+Wl - 1)+1 from by unfold Wl;omega];unfold method;simp only[Pk,SX,Qs,Pb];rw[show Ug P program W=.ok P W from rfl];simp only[Pb,hi,Qs,hm,hp,follow,hf];simp only[receiverAt,Pk,Qs,OW hu,Pb];rfl
    rw[CX];rfl
   ·cases h
set_option maxHeartbeats 4000000 in
theorem mH{P:OI}{ρ:Pj->Ow V}{o:Qh}{fr:Ow Nat}{S:St}{r:Out}(h:aW P ρ o fr S=.ok r)
  {F:Nat->Ow Obj} {G:Gh} {W:PE} (R:gJ F G S W.heap) (hf:vH fr G S) {ρc:Pj->O'} (hρ:∀x v,ρ x=Ot v->VR G v (ρc x)):
  aLt P F fr G S W ((SK ρc o).run P W) r:=by
 obtain⟨dst,op,ty,pos,after,gd⟩:=o;have pure':∀{x:AM.R V} {s:Sem O'},dQ S x=.ok r->(∀v,x=.ok v->∃w,s.run P W=.ok w W/\VR G v w)->(SK ρc ⟨dst,op,ty,pos,after,gd⟩=do pure (.value (<-s)))->
   aLt P F fr G S W ((SK ρc ⟨dst,op,ty,pos,after,gd⟩).run P W) r:=by
  intro x s hx hs he;unfold dQ at hx;split at hx
  ·rename_i v;cases hx;obtain⟨w,w1,w2⟩:=hs v rfl;exact⟨W,G,w,by rw[he];simp[w1],Sim.refl R,w2⟩
  ·cases hx
 have tq:∀{x:AM.R (V×St)} {s:Sem O'},eT x=.ok r->(∀v S',x=.ok (v,S')->∃W' G' w,s.run P W=.ok w W'/\Sim F fr G S W G' S' W'/\VR G' v w)->
   (SK ρc ⟨dst,op,ty,pos,after,gd⟩=do pure (.value (<-s)))->aLt P F fr G S W ((SK ρc ⟨dst,op,ty,pos,after,gd⟩).run P W) r:=by
  intro x s hx hs he;unfold eT at hx;split at hx
  ·rename_i v S';cases hx;obtain⟨W',G',w,w1,w2,w3⟩:=hs v S' rfl;exact⟨W',G',w,by rw[he];simp[w1],w2,w3⟩
  ·cases hx
 cases op<;>simp only[aW] at h<;>try (cases h;done)
 case move x=>
  split at h
  ·rename_i v hv;cases h;exact⟨W,G,_,rfl,Sim.refl R,hρ _ _ hv⟩
  ·cases h
 case assign x=>
  split at h
  ·rename_i v hv;cases h;exact⟨W,G,_,rfl,Sim.refl R,hρ _ _ hv⟩
  ·cases h
 case pick c a b=>
  split at h
  ·rename_i hc;split at h
   ·rename_i v hv;cases h
    have:=hρ _ _ hc
    refine⟨W,G,ρc a,?_,Sim.refl R,hρ _ _ hv⟩;simp only[SK];generalize ρc c=cv at this;cases this;simp[asBool]
   ·cases h
  ·rename_i hc;split at h
   ·rename_i v hv;cases h
    have:=hρ _ _ hc
    refine⟨W,G,ρc b,?_,Sim.refl R,hρ _ _ hv⟩;simp only[SK];generalize ρc c=cv at this;cases this;simp[asBool]
   ·cases h
  ·cases h
 case alloc t=>
  split at h
  ·cases h
  ·rename_i z hz;split at h
   ·rename_i a S' hn;cases h;obtain⟨W',G',w,w1,w2,w3⟩:=aLh hz hn R hf;exact⟨W',G',w,by simp[SK,w1],w2,w3⟩
   ·cases h
 case box t x=>
  split at h
  ·rename_i v hv;rw[cond_eq_ite] at h;split at h
   ·split at h
    ·rename_i a S' hn;cases h;obtain⟨W',G',w,w1,w2,w3⟩:=aT0 (P:=P) (t:=t) (hρ _ _ hv) hn R hf;exact⟨W',G',w,by simp[SK,w1],w2,w3⟩
    ·cases h
   ·cases h
  ·cases h
 case build t ps=>
  split at h
  ·rename_i vs dh;refine pure' h (s:=Vu t (ps.map λ(i,x)=>(i,ρc x))) (λv hv=>?_) rfl;exact aLi hv (by have:=yT hρ dh;simpa using this) W
  ·cases h
 case buildSlice t n ps=>
  split at h
  ·rename_i vs dh;refine tq h (s:=Vr t n (ps.map λ(i,x)=>(i,ρc x))) (λv S' hv=>?_) rfl;exact aBq hv R hf (by have:=yT hρ dh;simpa using this)
  ·cases h
 case load t a=>
  split at h
  ·rename_i p hp;exact pure' h (s:=Vh t (ρc a)) (λv hv=>aEo hv R (hρ _ _ hp)) rfl
  ·cases h
 case store t a x=>
  split at h
  ·rename_i p v hp hv;split at h
   ·rename_i S' hs;cases h;obtain⟨W',w1,w2,w3,w4,w5⟩:=aLg hs R (hρ _ _ hp) (hρ _ _ hv);exact⟨W',G,by simp[SK,w1],G.le_refl,w2,w3,by omega,λ_ _ _ _=>⟨rfl,rfl⟩,λa h _ _=>w5 a h,λ_ _ h=>.inl h⟩
   ·cases h
  ·cases h
 case nilCheck x=>
  split at h
  ·rename_i a ver i j hp;cases h
   have:=hρ _ _ hp
   refine⟨W,G,ρc x,?_,Sim.refl R,this⟩;simp only[SK];generalize ρc x=cv at this;cases this;rfl
  ·rename_i cs j hp;cases h
   have:=hρ _ _ hp
   refine⟨W,G,ρc x,?_,Sim.refl R,this⟩;simp only[SK];generalize ρc x=cv at this;cases this;rfl
  ·cases h
 case binOp op t x y yt=>
  split at h
  ·rename_i a b hx hy;rw[cond_eq_ite] at h;split at h
   ·rename_i hg;refine pure' h (s:=(do WQ op t x y (ρc x) (ρc y);binOp op t (ρc x) (ρc y))) (λv hv=>?_) rfl;obtain⟨w,w1,w2⟩:=aT3 hv (hρ _ _ hx) (hρ _ _ hy) W;exact⟨w,by simp[aJl hg (hρ _ _ hx) (hρ _ _ hy),w1],w2⟩
   ·cases h
  ·cases h
 case unOp op t x=>
  split at h
  ·rename_i v hv;exact pure' h (s:=Op.unary op (ρc x)) (λv' ft=>aVf ft (hρ _ _ hv) W) rfl
  ·cases h
 case convert s d x=>
  split at h
  ·rename_i v hv;exact tq h (s:=convert s d (ρc x)) (λv' S' ft=>aGt ft R hf (hρ _ _ hv)) rfl
  ·cases h
 case makeSlice t l c=>
  split at h
  ·rename_i lv cv hl hc;exact tq h (s:=XK t (ρc l) (ρc c)) (λv' S' ft=>aDg ft R hf (hρ _ _ hl) (hρ _ _ hc)) rfl
  ·cases h
 case slice t x lo hi mx=>
  split at h
  ·rename_i v l hh hv hl sd;obtain⟨a1,a2⟩:=aHq hρ hl;obtain⟨b1,b2⟩:=aHq hρ sd;exact pure' h (s:=SY t (ρc x) (lo.map ρc) (hi.map ρc) OG) (λv' ft=>aLl ft (hρ _ _ hv) a1 a2 b1 b2 W) rfl
  ·cases h
 case fieldAddr s x f=>
  split at h
  ·rename_i p hp;exact pure' h (s:=UY s (ρc x) f) (λv hv=>aDh hv (hρ _ _ hp) W) rfl
  ·cases h
 case field t x f=>
  split at h
  ·rename_i p hp;exact pure' h (s:=WY t (ρc x) f) (λv hv=>aLj hv (hρ _ _ hp) W) rfl
  ·cases h
 case indexAddr t x i=>
  split at h
  ·rename_i v k hv hk;exact pure' h (s:=TG t (ρc x) (ρc i)) (λv' ft=>aDi ft (hρ _ _ hv) (hρ _ _ hk) W) rfl
  ·cases h
 case index t x i=>
  split at h
  ·rename_i v k hv hk;exact pure' h (s:=Vx t (ρc x) (ρc i)) (λv' ft=>aLk ft (hρ _ _ hv) (hρ _ _ hk) W) rfl
  ·cases h
 case extract t i=>
  split at h
  ·rename_i vs dh;split at h
   ·rename_i v hv;cases h
    have:=hρ _ _ dh
    simp only[SK];generalize ρc t=cv at this;cases this with
    | tup _ cvs hc=>
     obtain⟨w,w1,w2⟩:=hc.get hv;have MT:cvs[i]?=Ot w:=by simpa using w1
     exact⟨W,G,w,by simp[Instr.extract,MT],Sim.refl R,w2⟩
   ·cases h
  ·cases h
 case call c=>
  obtain⟨callee,args,ats⟩:=c;cases callee with
  | value f=>
   simp only at h;split at h
   ·rename_i g first captured Fk hg has
    have Kw:=hρ _ _ hg;have ha:=oW hρ has;simp only[SK,resolve];generalize ρc f=fv at Kw;cases Kw with
    | func _ _ _ x y hx hy=>
     have:=aAg (fr:=fr) h R ((hx.append ha).append hy)
     simp only[Deferred.ofValue,Pk,Qs,Pb,invoke];have e:x++args.map ρc++y=(x.toList++args.toList.map ρc++y.toList).toArray:=by
      apply Uf;simp
     rw[e];exact this
   ·cases h
  | builtin b=>
   simp only at h;split at h
   ·rename_i Fk has;have ha:=oW hρ has
    have:=aGx h R hf ha ty (args.map λ| .const _=>OB | _=>OA)
    simp only[SK,resolve,Pk,Qs,Pb,invoke];have e:(args.map ρc)=(args.toList.map ρc).toArray:=by apply Uf;simp
    rw[e];exact this
   ·cases h
  | invoke r m=>
   simp only at h;split at h
   ·rename_i t v Fk hr has;split at h
    ·rename_i g hg;have mr:=hρ _ _ hr;have ha:=oW hρ has;simp only[SK,resolve];generalize ρc r=rv at mr;cases mr with
     | iface _ _ w hw=>
      have:=aAg (fr:=fr) h R (.cons _ _ _ _ hw ha)
      have e4:(w::args.toList.map ρc).toArray=#[w]++args.map ρc:=by rw[aVi];simp
      rw[e4] at this;simp only[Pk,Qs,Pb,invoke,aVg,aVh,aJp hg];exact this
    ·cases h
   ·cases h
 case range t x=>
  split at h
  ·rename_i s hx hd;split at h
   ·rename_i a S' hn;cases h;obtain⟨W',G',w,w1,w2,w3⟩:=aLp hd hn R hf (hρ _ _ hx);exact⟨W',G',w,by simp[SK,w1],w2,w3⟩
   ·cases h
  ·cases h
 case next it isS=>
  split at h
  ·rename_i a hx;rw[cond_eq_ite] at h;split at h
   ·rename_i hs;subst hs;split at h
    ·rename_i s pos hg;obtain⟨n1,n2⟩:=aNy (ty:=ty) (fr:=fr) hg R (hρ _ _ hx);rw[cond_eq_ite] at h;split at h
     ·split at h
      ·rename_i b hb;rw[cond_eq_ite] at h;split at h
       ·rename_i ag;cases h;have du:pos<s.length:=(Oq.1 hb).1;obtain⟨W',w,w1,w2,w3⟩:=n2 du;rw[decode_ascii hb (by simpa using ag)] at w2 w3;exact⟨W',G,w,by show(do pure (Wm (<-Uh (ρc it) OB ty)):Sem Next).run P W=_;rw[Pk,w1];rfl,w2,w3⟩
       ·cases h;have du:pos<s.length:=(Oq.1 hb).1;obtain⟨W',w,w1,w2,w3⟩:=n2 du;exact⟨W',G,w,by show(do pure (Wm (<-Uh (ρc it) OB ty)):Sem Next).run P W=_;rw[Pk,w1];rfl,w2,w3⟩
      ·cases h
     ·rename_i hge;cases h;obtain⟨w,w1,w2⟩:=n1 (by simp at hge;omega);exact⟨W,G,w,by show(do pure (Wm (<-Uh (ρc it) OB ty)):Sem Next).run P W=_;rw[Pk,w1];rfl,Sim.refl R,w2⟩
    ·cases h
   ·cases h
  ·cases h
 case makeMap t r=>
  cases r with
  | some r=>cases h
  | none=>
   simp only at h;split at h
   ·rename_i a S' hn;cases h;obtain⟨W',G',w,w1,w2,w3⟩:=aGw (t:=t) hn R hf;exact⟨W',G',w,by show(do pure (Wm (<-Yb t OG)):Sem Next).run P W=_;rw[Pk,w1];rfl,w2,w3⟩
   ·cases h
 case lookup t m k ok=>
  split at h
  ·rename_i mv kv hm hk;unfold dQ at h;split at h
   ·rename_i v hv;cases h;obtain⟨w,w1,w2⟩:=aJo hv R (hρ _ _ hm) (hρ _ _ hk);exact⟨W,G,w,by simp[SK,w1],Sim.refl R,w2⟩
   ·cases h
  ·cases h
 case mapUpdate t m k x=>
  split at h
  ·rename_i mv kv xv hm hk hx;split at h
   ·rename_i S' hs;cases h;obtain⟨W',w1,w2⟩:=aDj (fr:=fr) hs R (hρ _ _ hm) (hρ _ _ hk) (hρ _ _ hx);exact⟨W',G,by simp[SK,w1],w2⟩
   ·cases h
  ·cases h
 case makeFunc fn first captured=>
  split at h
  ·rename_i f a b h1 h2;cases h;exact⟨W,G,.func (.func f) (first.map ρc) (captured.map ρc),rfl,Sim.refl R,.func _ _ _ _ _ (by simpa using oW hρ h1) (by simpa using oW hρ h2)⟩
  ·cases h
 case makeInterface t x=>
  split at h
  ·cases h
  ·rename_i v d CS hv hd;cases h;refine⟨W,G,.iface t (ρc x),?_,Sim.refl R,.iface _ _ _ (hρ _ _ hv)⟩;cases d<;>first | exact(CS _ rfl).elim | (simp[SK,Instr.makeInterface,OW hd];done)
  ·cases h
 case typeAssert x xt t ok=>
  split at h
  ·rename_i v hv;exact pure' h (s:=TB (ρc x) xt t ok) (λv' ft=>aJm ft (hρ _ _ hv) W) rfl
  ·cases h
def EnvR(G:Gh)(n:Nat)(e:bD)(tmps:Pa O'):Prop:=
 tmps.size=n/\∀t v,e.get t=Ot v->∃w,tmps[t]?=Ot w/\VR G v w
theorem EnvR.mono{G G':Gh}(hg:G.le G'){n:Nat}{e:bD}{tmps:Pa O'}(h:EnvR G n e tmps):EnvR G' n e tmps:=
 ⟨h.1,λt v ht=>let ⟨w,a,b⟩:=h.2 t v ht;⟨w,a,b.mono hg⟩⟩
theorem vL{G:Gh}{n:Nat}{e:bD}{a:Act}(h:EnvR G n e a.tmps):∀x v,ev e x=Ot v->VR G v (a.eval x):=by
 intro x v hx;cases x with
 | tmp t=>
  obtain⟨w,w1,w2⟩:=h.2 t v hx;simp only[Act.eval];rw[show a.tmps.getD t undef=w by simp[w1]];exact w2
 | const c=>exact gH G hx
 | global g=>cases hx
 | func f=>cases hx;exact .func f [] [] #[] #[] .nil .nil
theorem aAh(G:Gh):VR G (.tup []) undef:=.tup [] #[] .nil
theorem xC{G:Gh}{n:Nat}{e e':bD}{a:Act}{d:Ow Tmp}{v:V}{w:O'}(hn:n<eG)(h:EnvR G n e a.tmps)(hp:hM n e d v=.ok e')(hv:VR G v w):
  EnvR G n e' (a.put d w).tmps/\(a.put d w).defers=a.defers:=by
 unfold hM at hp;split at hp
 ·cases hp;exact⟨h,rfl⟩
 ·rename_i d;rw[cond_eq_ite] at hp;split at hp
  ·rename_i hd;have fe:d<n:=by simpa using hd
   cases hp;refine⟨⟨by simp[Uu,h.1],λt u ht=>?_⟩,rfl⟩;rw[Tr.get_put _ _ _ _ (Ut fe hn)] at ht;have hs:d<a.tmps.size:=by rw[h.1];exact fe
   by_cases CQ:t=d
   ·subst CQ;simp at ht;subst ht;exact⟨w,by simp[Uu,hs],hv⟩
   ·rw[Oz CQ] at ht;obtain⟨w',w1,w2⟩:=h.2 t u ht;exact⟨w',by simp only[Uu];rw[Sj (SJ CQ)];exact w1,w2⟩
  ·cases hp
theorem aAi{G:Gh}{n:Nat}{ops:Pa Qh}{o:Qh}{e:bD}{a:Act}{b:Ps}(h:wanted ops o e=.ok b)(he:EnvR G n e a.tmps):
  Vd o (yielded ops a.tmps)=b:=by
 unfold wanted at h;unfold Vd;split at h
 ·rename_i hg;cases h;simp[hg]
 ·rename_i j want hg;simp only[hg];unfold yielded;split at h
  ·rename_i hj;cases h;simp[hj]
  ·rename_i oj hj;split at h
   ·rename_i hd;cases h;simp[hj,hd]
   ·rename_i d hd;split at h
    ·rename_i b' hb;cases h;obtain⟨w,w1,w2⟩:=he.2 d _ hb;cases w2;simp only[hj,hd,VD,w1];cases b'<;>cases want<;>rfl
    ·rename_i v ah hb;cases h;obtain⟨w,w1,w2⟩:=he.2 d _ hb;simp only[hj,hd,VD,w1];cases w2<;>first | rfl | (exact absurd rfl (ah _))
    ·cases h
structure CallOK (P:OI) (call:Call):Prop where
 enters:∀{f args S r},call f args S=.ok r->∀(cs:Pa O') (W:PE),(UZ f cs).run P W=.ok (.enter f cs) W
 calls:∀{f args S v S'},call f args S=.ok (v,S')->∀{F:Nat->Ow Obj} {G:Gh} {W:PE} {cs:On O'},gJ F G S W.heap->VRs G args cs->
  Calls P f cs.toArray W λe W'=>∃G' w,e=.returned w/\Sim F OG G S W G' S' W'/\VR G' v w
theorem Sim.weaken{F:Nat->Ow Obj}{fr:Ow Nat}{G G':Gh}{S S':St}{W W':PE}(h:Sim F OG G S W G' S' W'):Sim F fr G S W G' S' W':=
 ⟨h.le,h.rel,h.same,h.next,λa h1 h2 _=>h.keep a h1 h2 (by simp),λa h1 h2 _=>h.dead a h1 h2 (by simp),h.prn⟩
theorem Sim.trans{F:Nat->Ow Obj}{G G1 G2:Gh}{S S1 S2:St}{W W1 W2:PE}(h:Sim F OG G S W G1 S1 W1)(k:Sim F OG G1 S1 W1 G2 S2 W2):Sim F OG G S W G2 S2 W2:=by
 refine⟨Gh.le_trans h.le k.le,k.rel,h.same.trans k.same,QC h.next k.next,λa h1 h2 h3=>?_,λa h1 h2 h3=>?_,λi o ho=>(k.prn i o ho).elim (h.prn i o) .inr⟩
 ·obtain⟨q1,q2⟩:=h.keep a h1 h2 h3;obtain⟨r1,r2⟩:=k.keep a (h.dead a h1 h2 h3) (RE h2 h.next) h3;exact⟨r1.trans q1,r2.trans q2⟩
 ·exact k.dead a (h.dead a h1 h2 h3) (RE h2 h.next) h3
theorem aEr{P:OI}{call:Call}(hc:CallOK P call){n:Nat}{ops:Pa Qh}{i:Nat}{o:Qh}(ho:ops[i]?=Ot o){fr:Ow Nat}{e e':bD}{S S':St}
  (h:gG P call n ops o fr e S=.ok (e',S')) {F:Nat->Ow Obj} {G:Gh} {W:PE} (R:gJ F G S W.heap) (hf:vH fr G S) {a:Act} (he:EnvR G n e a.tmps) (hn:n<eG)
  {Q:Exit->Act->PE->Prop} {K:Act->PE->Prop} (hK:∀G' W' a',Sim F fr G S W G' S' W'->EnvR G' n e' a'.tmps->a'.defers=a.defers->K a' W'):
  wpOp P ops Q i K a W:=by
 unfold wpOp;simp only[ho];unfold gG at h;split at h
 ·cases h
 ·rename_i hw;rw[aAi hw he];simp only[OO,Ou];split at h
  ·rename_i e1 hp;cases h;obtain⟨p1,p2⟩:=xC hn he hp (aAh G);exact hK G W _ (Sim.refl R) p1 p2
  ·cases h
 ·rename_i hw;rw[aAi hw he];simp only[Oy];refine .inl ?_;unfold Yr;split at h
  ·cases h
  ·rename_i v S1 hv
   have:=mH hv R hf (vL he)
   obtain⟨W',G',w,w1,w2,w3⟩:=this;split at h
   ·rename_i e1 hp;cases h;rw[w1,XR];obtain⟨p1,p2⟩:=xC hn (he.mono w2.le) hp w3;exact hK G' W' _ w2 p1 p2
   ·cases h
  ·rename_i S1 hv
   have:=mH hv R hf (vL he)
   obtain⟨W',G',w1,w2⟩:=this;split at h
   ·rename_i e1 hp;cases h;rw[w1,Ye];obtain⟨p1,p2⟩:=xC hn (he.mono w2.le) hp (aAh G');exact hK G' W' _ w2 p1 p2
   ·cases h
  ·rename_i f args hv
   have:=mH hv R hf (vL he)
   obtain⟨cs,w1,w2⟩:=this;split at h
   ·cases h
   ·rename_i v S1 gf;split at h
    ·rename_i e1 hp;cases h;rw[w2,hc.enters gf,XS];refine(hc.calls gf R w1).mono ?_;rintro e W' ⟨G',w,rfl,q1,q2⟩;obtain⟨p1,p2⟩:=xC hn (he.mono q1.le) hp q2;exact hK G' W' _ q1.weaken p1 p2
    ·cases h
theorem aAj{P:OI}{call:Call}(hc:CallOK P call){n:Nat}{ops:Pa Qh}(hn:n<eG){F:Nat->Ow Obj}{Q:Exit->Act->PE->Prop}:
  ∀(l:On Qh) (k:Nat) (_:ops.toList.drop k=l) {e e':bD} {S S':St} (_:tJ P call n ops l e S=.ok (e',S')) {G:Gh} {W:PE} (_:gJ F G S W.heap) {a:Act}
   (_:EnvR G n e a.tmps) (_:∀G' W' a',Sim F OG G S W G' S' W'->EnvR G' n e' a'.tmps->a'.defers=a.defers->Q .normal a' W'),
   wpOps P ops Q (List.range' k l.length) a W
 | [],k,_,e,e',S,S',h,G,W,R,a,he,hQ=>by
  simp[tJ] at h;obtain⟨rfl,rfl⟩:=h;simp only[Pf,List.range'_zero,wpOps];exact hQ G W a (Sim.refl R) he rfl
 | o::l,k,hl,e,e',S,S',h,G,W,R,a,he,hQ=>by
  simp only[tJ] at h;split at h
  ·rename_i e1 S1 hs;have ho:ops[k]?=Ot o:=by
    have:(ops.toList.drop k)[0]?=Ot o:=by rw[hl];rfl
    rw[PP] at this;simpa using this
   have fc:ops.toList.drop (k+1)=l:=by
    rw[<-List.drop_drop,hl];rfl
   simp only[OQ,List.range'_succ];rw[wpOps_cons];refine aEr hc ho hs R (by intro k hk;cases hk) he hn λG' W' a' q1 q2 q3=>?_;refine aAj hc hn l (k+1) fc h q1.rel q2 λG2 W2 a2 r1 r2 r3=>?_;exact hQ G2 W2 a2 (q1.trans r1) r2 (r3.trans q3)
  ·cases h
theorem RelH.drop{F:Nat->Ow Obj}{G:Gh}{nx:Nat}{hp gk:Nat->Ow Blk}{H:Pa Obj}(R:RelH F G nx hp H)(h:∀a b,gk a=Ot b->hp a=Ot b):RelH F G nx gk H:=
 ⟨R.fresh,R.sep,λa b hb=>R.blk a b (h a b hb),λa a' b b' i h1 h2=>R.inj a a' b b' i (h a b h1) (h a' b' h2),R.fr,R.pr,λa b i hb=>R.own a b i (h a b hb),R.lt,λa b hb=>R.small a b (h a b hb)⟩
open Classical in
noncomputable def lA(F:Nat->Ow Obj)(G:Gh)(hp:Nat->Ow Blk)(S:St)(H:Pa Obj)(i:Nat):Ow Obj:=
 if∃a b,hp a=Ot b/\S.heap.get a=OG/\dC G a i then H[i]? else F i
theorem RelH.frame{F:Nat->Ow Obj}{G:Gh}{nx:Nat}{hp:Nat->Ow Blk}{H:Pa Obj}(R:RelH F G nx hp H){S:St}(hs:∀a b,S.heap.get a=Ot b->hp a=Ot b):
  RelH (lA F G hp S H) G nx S.heap.get H:=by
 have R':=R.drop hs;refine⟨R'.fresh,R'.sep,R'.blk,R'.inj,λi o h=>?_,R'.pr,λa b i hb h=>⟨?_,(R'.own a b i hb h).2⟩,R'.lt,R'.small⟩
 ·unfold lA at h;split at h
  ·exact h
  ·exact R.fr i o h
 ·unfold lA;rw[Oz]
  ·exact(R'.own a b i hb h).1
  ·rintro⟨a',b',h1,h2,h3⟩
   have:=R.inj a a' b b' i (hs a b hb) h1 h h3
   subst this;rw[hb] at h2;cases h2
theorem RelH.framed_none{F:Nat->Ow Obj}{G:Gh}{nx:Nat}{hp:Nat->Ow Blk}{H:Pa Obj}(R:RelH F G nx hp H){S:St}(i:Nat)(hi:lA F G hp S H i=OG):F i=none:=by
 unfold lA at hi;split at hi
 ·rename_i hq;obtain⟨a,b,h1,h2,h3⟩:=hq;exact(R.own a b i h1 h3).1
 ·exact hi
open Classical in
noncomputable def nY(hp:Nat->Ow Blk)(S S1:St)(a:Nat):Ow Blk:=
 if S.heap.get a=OG/\∃b,hp a=Ot b then hp a else S1.heap.get a
theorem RelH.unframe{F:Nat->Ow Obj}{G:Gh}{nx:Nat}{hp:Nat->Ow Blk}{W:PE}(R:RelH F G nx hp W.heap){S:St}(hn:S.next=nx)
  {fr:Ow Nat} (qt:∀k,fr=Ot k->hp k=OG) {G2:Gh} {S1:St} {W2:PE} (h:Sim (lA F G hp S W.heap) fr G S W G2 S1 W2):
  RelH F G2 S1.next (nY hp S S1) W2.heap:=by
 have ext:∀a b,S.heap.get a=OG->hp a=Ot b->a<S.next/\fr≠Ot a:=by
  intro a b _ hb;refine⟨by rw[hn];exact R.alive hb,λe=>?_⟩;rw[qt a e] at hb;cases hb
 have hold:∀a b i,S.heap.get a=OG->hp a=Ot b->(dC G2 a i↔dC G a i):=by
  intro a b i h1 h2;obtain⟨e1,e2⟩:=ext a b h1 h2;obtain⟨k1,k2⟩:=h.keep a h1 e1 e2;unfold dC;rw[k1,k2]
 have obj:∀a b i,S.heap.get a=OG->hp a=Ot b->dC G a i->W2.heap[i]?=W.heap[i]?:=by
  intro a b i h1 h2 h3;have hi:=R.lt a i h3;obtain⟨o,ho⟩:∃o,W.heap[i]?=Ot o:=⟨_,Qu hi⟩;rw[ho];refine h.rel.fr i o ?_;unfold lA;rw[OE ⟨a,b,h2,h1,h3⟩];exact ho
 have fw:∀a b,nY hp S S1 a=Ot b->(S.heap.get a=OG/\hp a=Ot b)\/(¬(S.heap.get a=OG/\∃b,hp a=Ot b)/\S1.heap.get a=Ot b):=by
  intro a b hb;unfold nY at hb;split at hb
  ·rename_i hq;exact .inl ⟨hq.1,hb⟩
  ·rename_i hq;exact .inr ⟨hq,hb⟩
 have F2:∀i,lA F G hp S W.heap i=OG->F i=none:=by
  intro i hi;unfold lA at hi;split at hi
  ·rename_i hq;obtain⟨a,b,h1,h2,h3⟩:=hq;exact(R.own a b i h1 h3).1
  ·exact hi
 constructor
 ·exact h.rel.fresh
 ·exact h.rel.sep
 ·intro a b hb;rcases fw a b hb with ⟨h1,h2⟩ | ⟨_,h1⟩
  ·obtain⟨e1,e2⟩:=ext a b h1 h2;obtain⟨k1,k2⟩:=h.keep a h1 e1 e2;have old:=R.blk a b h2;cases b with
   | row ver es elems=>
    obtain⟨L,hL,r1,r2,r3,c,ty,fz,hc,r4,r5,r6⟩:=old;exact⟨L,k1.trans hL,r1,r2,r3,c,ty,fz,by rw[obj a _ _ h1 h2 (.inl ⟨L,hL,rfl⟩)];exact hc,r4,r5,r6.mono h.le⟩
   | mp kvs=>
    obtain⟨i,es,clock,hi,hH,r1,r2⟩:=old;exact⟨i,es,clock,k2.trans hi,by rw[obj a _ _ h1 h2 (.inr hi)];exact hH,r1.mono h.le,r2⟩
   | iter s pos=>
    obtain⟨L,hL,r1,r2,hH⟩:=old;exact⟨L,k1.trans hL,r1,r2,by rw[obj a _ _ h1 h2 (.inl ⟨L,hL,rfl⟩)];exact hH⟩
  ·exact h.rel.blk a b h1
 ·intro a a' b b' i hb bm h1 h2;rcases fw a b hb with ⟨q1,q2⟩ | ⟨_,q2⟩
  ·rcases fw a' b' bm with ⟨p1,p2⟩ | ⟨_,p2⟩
   ·exact R.inj a a' b b' i q2 p2 ((hold a b i q1 q2).1 h1) ((hold a' b' i p1 p2).1 h2)
   ·have:=(h.rel.own a' b' i p2 h2).1
    unfold lA at this;rw[OE ⟨a,b,q2,q1,(hold a b i q1 q2).1 h1⟩] at this;have hi:=R.lt a i ((hold a b i q1 q2).1 h1);rw[Qu hi] at this;cases this
  ·rcases fw a' b' bm with ⟨p1,p2⟩ | ⟨_,p2⟩
   ·have:=(h.rel.own a b i q2 h1).1
    unfold lA at this;rw[OE ⟨a',b',p2,p1,(hold a' b' i p1 p2).1 h2⟩] at this;have hi:=R.lt a' i ((hold a' b' i p1 p2).1 h2);rw[Qu hi] at this;cases this
   ·exact h.rel.inj a a' b b' i q2 p2 h1 h2
 ·intro i o ho;by_cases hq:∃a b,hp a=Ot b/\S.heap.get a=OG/\dC G a i
  ·obtain⟨a,b,h1,h2,h3⟩:=hq;rw[(R.own a b i h1 h3).1] at ho;cases ho
  ·refine h.rel.fr i o ?_;unfold lA;rw[Oz hq];exact ho
 ·exact h.rel.pr
 ·intro a b i hb h1;rcases fw a b hb with ⟨q1,q2⟩ | ⟨_,q2⟩
  ·have hG:=(hold a b i q1 q2).1 h1;refine⟨(R.own a b i q2 hG).1,?_⟩;cases hp2:G2.pr i with
   | none=>rfl
   | some o=>
    exfalso;rcases h.prn i o hp2 with hp2 | hp2
    ·rw[(R.own a b i q2 hG).2] at hp2;cases hp2
    ·unfold lA at hp2;rw[OE ⟨a,b,q2,q1,hG⟩,Qu (R.lt a i hG)] at hp2;cases hp2
  ·exact⟨F2 i (h.rel.own a b i q2 h1).1,(h.rel.own a b i q2 h1).2⟩
 ·exact h.rel.lt
 ·intro a b hb;rcases fw a b hb with ⟨_,q2⟩ | ⟨_,q2⟩
  ·exact R.small a b q2
  ·exact h.rel.small a b q2
theorem oX{ρ ρ':Pj->Ow V}:∀{l:On Pj},(∀x∈l,ρ x=ρ' x)->tD ρ l=tD ρ' l
 | [],_=>rfl
 | x::l,h=>by simp only[tD,h x (by simp),oX (λy hy=>h y (OY _ hy))]
theorem yU{ρ ρ':Pj->Ow V}:∀{l:On (Nat×Pj)},(∀x∈l.map (·.2),ρ x=ρ' x)->pI ρ l=pI ρ' l
 | [],_=>rfl
 | (i,x)::l,h=>by simp only[pI,h x (by simp),yU (λy hy=>h y (by simp at hy|-;exact .inr hy))]
theorem aHr{ρ ρ':Pj->Ow V}{o:Ow Pj}(h:∀x,o=Ot x->ρ x=ρ' x):evO ρ o=evO ρ' o:=by
 cases o with
 | none=>rfl
 | some x=>simp only[evO,h x rfl]
theorem aJq{P:OI}{ρ ρ':Pj->Ow V}{o:Qh}{fr:Ow Nat}{S:St}(h:∀x∈o.op.operands,ρ x=ρ' x):aW P ρ o fr S=aW P ρ' o fr S:=by
 obtain⟨dst,op,ty,pos,after,gd⟩:=o;cases op<;>simp only[Op.operands] at h<;>simp only[aW]
 case build t ps=>rw[yU (λx hx=>h x (by simpa using hx))]
 case buildSlice t n ps=>rw[yU (λx hx=>h x (by simpa using hx))]
 case slice t x lo hi mx=>
  rw[h x (by simp),aHr (λy hy=>h y (by subst hy;simp)),aHr (λy hy=>h y (by subst hy;simp))]
 case call c=>
  obtain⟨callee,args,ats⟩:=c;cases callee with
  | value f=>simp only;rw[h f (by simp[Uv]),oX (λx hx=>h x (by simp[Uv];exact .inr (by simpa using hx)))]
  | builtin b=>simp only;rw[oX (λx hx=>h x (by simp[Uv];simpa using hx))]
  | invoke r m=>simp only;rw[h r (by simp[Uv]),oX (λx hx=>h x (by simp[Uv];exact .inr (by simpa using hx)))]
 case makeFunc fn first captured=>rw[oX (l:=first.toList) (λx hx=>h x (by simp;exact .inl (by simpa using hx))),oX (l:=captured.toList) (λx hx=>h x (by simp;exact .inr (by simpa using hx)))]
 case makeMap t r=>cases r<;>rfl
 all_goals (first | rfl | (simp_all;done))
theorem bJ8{P:OI}{ρ:Pj->Ow V}{o:Qh}{fr:Ow Nat}{S:St}{r:Out}(hc:eV P o.op=0)(h:aW P ρ o fr S=.ok r):
  ∃v,r=.val v S/\∀mn S',aW P ρ o mn S'=.ok (.val v S'):=by
 obtain⟨dst,op,ty,pos,after,gd⟩:=o;have pr:∀{x:AM.R V},dQ S x=.ok r->∃v,r=.val v S/\∀S',dQ S' x=.ok (.val v S'):=by
  intro x hx;unfold dQ at hx;split at hx
  ·cases hx;exact⟨_,rfl,λ_=>rfl⟩
  ·cases hx
 cases op<;>simp only[eV] at hc<;>try (cases hc;done)
 all_goals simp only[aW] at h|-
 case move x=>split at h<;>cases h;rename_i v hv;exact⟨_,rfl,λ_ S'=>by simp only[hv]⟩
 case assign x=>split at h<;>cases h;rename_i v hv;exact⟨_,rfl,λ_ S'=>by simp only[hv]⟩
 case pick c a b=>
  split at h
  ·rename_i jn;split at h<;>cases h;rename_i v hv;exact⟨_,rfl,λ_ S'=>by simp only[jn,hv]⟩
  ·rename_i jn;split at h<;>cases h;rename_i v hv;exact⟨_,rfl,λ_ S'=>by simp only[jn,hv]⟩
  ·cases h
 case build t ps=>
  split at h
  ·rename_i vs dh;obtain⟨v,h1,h2⟩:=pr h;exact⟨v,h1,λ_ S'=>by first | exact h2 S' | (simp only[dh];exact h2 S')⟩
  ·cases h
 case nilCheck x=>
  split at h
  ·rename_i hv;cases h;exact⟨_,rfl,λ_ S'=>by simp only[hv]⟩
  ·rename_i hv;cases h;exact⟨_,rfl,λ_ S'=>by simp only[hv]⟩
  ·cases h
 case binOp op t x y yt=>
  split at h
  ·rename_i a b hx hy;rw[cond_eq_ite] at h;split at h
   ·rename_i hg;obtain⟨v,h1,h2⟩:=pr h;exact⟨v,h1,λ_ S'=>by simp only[hx,hy,cond_eq_ite];rw[OE hg];exact h2 S'⟩
   ·cases h
  ·cases h
 case unOp op t x=>
  split at h
  ·rename_i a hx;obtain⟨v,h1,h2⟩:=pr h;exact⟨v,h1,λ_ S'=>by first | exact h2 S' | (simp only[hx];exact h2 S')⟩
  ·cases h
 case convert s d x=>
  split at h
  ·rename_i a hx;split at hc
   ·rename_i k hd;unfold eT at h;split at h
    ·rename_i v S1 hv;cases h;unfold eK at hv;rw[hd] at hv;split at hv<;>rename_i gp fe
     ·cases fe;split at hv
      ·rename_i n;cases hv;refine⟨_,rfl,λ_ S'=>?_⟩;simp only[hx,eT,eK,gp,hd]
      ·cases hv
     ·cases fe
     ·cases fe
     ·cases hv
    ·cases h
   ·cases hc
   ·cases hc
  ·cases h
 case slice t x lo hi mx=>
  split at h
  ·rename_i v l hh hv hl sd;obtain⟨v',h1,h2⟩:=pr h;exact⟨v',h1,λ_ S'=>by first | exact h2 S' | (simp only[hv,hl,sd];exact h2 S')⟩
  ·cases h
 case fieldAddr s x f=>
  split at h
  ·rename_i a hx;obtain⟨v,h1,h2⟩:=pr h;exact⟨v,h1,λ_ S'=>by first | exact h2 S' | (simp only[hx];exact h2 S')⟩
  ·cases h
 case field s x f=>
  split at h
  ·rename_i a hx;obtain⟨v,h1,h2⟩:=pr h;exact⟨v,h1,λ_ S'=>by first | exact h2 S' | (simp only[hx];exact h2 S')⟩
  ·cases h
 case indexAddr t x i=>
  split at h
  ·rename_i a b hx hy;obtain⟨v,h1,h2⟩:=pr h;exact⟨v,h1,λ_ S'=>by first | exact h2 S' | (simp only[hx,hy];exact h2 S')⟩
  ·cases h
 case index t x i=>
  split at h
  ·rename_i a b hx hy;obtain⟨v,h1,h2⟩:=pr h;exact⟨v,h1,λ_ S'=>by first | exact h2 S' | (simp only[hx,hy];exact h2 S')⟩
  ·cases h
 case extract t i=>
  split at h
  ·rename_i vs dh;split at h
   ·rename_i v hv;cases h;exact⟨v,rfl,λ_ S'=>by simp only[dh,hv]⟩
   ·cases h
  ·cases h
 case call c=>
  obtain⟨callee,args,ats⟩:=c;cases callee with
  | value f=>cases hc
  | invoke r m=>cases hc
  | builtin b=>
   simp only at h|-
   split at h
   ·rename_i Fk has;cases b<;>simp only at hc<;>try (cases hc;done)
    all_goals
     simp only[fE] at h;obtain⟨v,h1,h2⟩:=pr h;exact⟨v,h1,λ_ S'=>by first | exact h2 S' | (simp only[has,fE];exact h2 S')⟩
   ·cases h
theorem bB3{P:OI}{ρ:Pj->Ow V}{o:Qh}{fr:Ow Nat}{S:St}{r:Out}(hc:eV P o.op=1)(h:aW P ρ o fr S=.ok r):
  ∃v,r=.val v S/\∀mn,aW P ρ o mn S=.ok (.val v S):=by
 obtain⟨dst,op,ty,pos,after,gd⟩:=o;have pr:∀{x:AM.R V},dQ S x=.ok r->∃v,r=.val v S/\dQ S x=.ok (.val v S):=by
  intro x hx;unfold dQ at hx;split at hx
  ·cases hx;exact⟨_,rfl,rfl⟩
  ·cases hx
 cases op<;>simp only[eV] at hc<;>try (cases hc;done)
 all_goals simp only[aW] at h|-
 case load t a=>
  split at h
  ·rename_i p hp;obtain⟨v,h1,h2⟩:=pr h;exact⟨v,h1,λ_=>by first | exact h2 | (simp only[hp];exact h2)⟩
  ·cases h
 case convert s d x=>
  split at h
  ·rename_i a hx;split at hc
   ·cases hc
   ·rename_i hd;unfold eT at h;split at h
    ·rename_i v S1 hv;cases h
     have:S1=S/\∀mn,eK P s d a mn S=.ok (v,S):=by
      unfold eK at hv|-
      rw[hd] at hv;split at hv<;>rename_i gp fe
      ·cases fe
      ·split at hv
       ·cases hv;exact⟨rfl,λ_=>by simp only[gp,hd]⟩
       ·split at hv
        ·rename_i e;split at hv
         ·rename_i he;split at hv
          ·split at hv
           ·cases hv
           ·rename_i l hl;split at hv
            ·rename_i b hb;cases hv;exact⟨rfl,λ_=>by simp only[gp,hd,he,hl,hb]⟩
            ·cases hv
          ·split at hv
           ·cases hv
           ·rename_i l hl;split at hv
            ·rename_i b hb;cases hv;exact⟨rfl,λ_=>by simp only[gp,hd,he,hl,hb]⟩
            ·cases hv
          ·split at hv
           ·cases hv
           ·rename_i l hl;split at hv
            ·rename_i b hb;cases hv;exact⟨rfl,λ_=>by simp only[gp,hd,he,hl,hb]⟩
            ·cases hv
          ·cases hv
         ·cases hv
        ·cases hv
      ·cases fe
      ·cases hv
     obtain⟨rfl,h2⟩:=this;exact⟨v,rfl,λ_=>by simp only[hx,eT,h2]⟩
    ·cases h
   ·cases hc
  ·cases h
 case call c=>
  obtain⟨callee,args,ats⟩:=c;cases callee with
  | value f=>cases hc
  | invoke r m=>cases hc
  | builtin b=>
   simp only at h|-
   split at h
   ·rename_i Fk has;cases b<;>simp only at hc<;>try (cases hc;done)
    all_goals
     simp only[fE] at h;split at h
     ·rename_i x;split at h
      ·rename_i t ht;obtain⟨v,h1,h2⟩:=pr h;exact⟨v,h1,λ_=>by first | exact h2 | (simp only[has,fE,ht];exact h2)⟩
      ·cases h
     all_goals (try (cases h;done))
     all_goals (simp_all;done)
   ·cases h
theorem nH{k:Nat}{S:St}{b:Blk}{x:Nat×St}(h:bR (Ot k) S b=.ok x):k<tE k/\x=(k,⟨S.next,S.heap.put k b⟩)/\∀S',bR (Ot k) S' b=.ok (k,⟨S'.next,S'.heap.put k b⟩):=by
 unfold bR at h;simp only[cond_eq_ite] at h;split at h
 ·rename_i hl;cases h;exact⟨by simpa using hl,rfl,λS'=>by unfold bR;simp only[cond_eq_ite];rw[OE hl]⟩
 ·cases h
theorem bJ9{P:OI}{ρ:Pj->Ow V}{o:Qh}{k:Nat}{S:St}{r:Out}(hc:eV P o.op=2)(h:aW P ρ o (Ot k) S=.ok r):
  ∃v b,k<tE k/\r=.val v ⟨S.next,S.heap.put k b⟩/\∀S',aW P ρ o (Ot k) S'=.ok (.val v ⟨S'.next,S'.heap.put k b⟩):=by
 obtain⟨dst,op,ty,pos,after,gd⟩:=o;cases op<;>simp only[eV] at hc<;>try (cases hc;done)
 all_goals simp only[aW] at h|-
 case alloc t=>
  split at h
  ·cases h
  ·rename_i z hz;split at h
   ·rename_i a S1 hn;cases h;obtain⟨h1,h2,h3⟩:=nH hn;cases h2;exact⟨_,_,h1,rfl,λS'=>by simp only[h3]⟩
   ·cases h
 case box t x=>
  split at h
  ·rename_i v hv;rw[cond_eq_ite] at h;split at h
   ·rename_i lh;split at h
    ·rename_i a S1 hn;cases h;obtain⟨h1,h2,h3⟩:=nH hn;cases h2;exact⟨_,_,h1,rfl,λS'=>by simp only[cond_eq_ite];rw[OE lh];simp only[h3]⟩
    ·cases h
   ·cases h
  ·cases h
 case buildSlice t n ps=>
  split at h
  ·rename_i vs dh;unfold eT at h;split at h
   ·rename_i v S1 hv;cases h
    have:∃v' b,k<tE k/\v=v'/\S1=⟨S.next,S.heap.put k b⟩/\∀S',dO P t n vs (Ot k) S'=.ok (v',⟨S'.next,S'.heap.put k b⟩):=by
     unfold dO at hv;split at hv
     ·cases hv
     ·rename_i e he;split at hv
      ·cases hv
      ·rename_i z hz;rw[cond_eq_ite] at hv;split at hv
       ·rename_i bh;split at hv
        ·cases hv
        ·rename_i elems hl;split at hv
         ·cases hv
         ·rename_i a S2 hn;cases hv;obtain⟨h1,h2,h3⟩:=nH hn;cases h2;refine⟨_,_,h1,rfl,rfl,λS'=>?_⟩;unfold dO;simp only[he,hz,cond_eq_ite];rw[OE bh];simp only[hl,h3]
       ·cases hv
    obtain⟨v',b,h1,rfl,rfl,h3⟩:=this;exact⟨v,b,h1,rfl,λS'=>by first | (simp only[eT,h3]) | (simp only[dh,eT,h3])⟩
   ·cases h
  ·cases h
 case makeSlice t l c=>
  split at h
  ·rename_i lv cv hl jn;unfold eT at h;split at h
   ·rename_i v S1 hv;cases h
    have:∃v' b,k<tE k/\v=v'/\S1=⟨S.next,S.heap.put k b⟩/\∀S',fD P t lv cv (Ot k) S'=.ok (v',⟨S'.next,S'.heap.put k b⟩):=by
     unfold fD at hv;split at hv
     ·rename_i e kl l kc c he;split at hv
      ·cases hv
      ·rename_i z hz;rw[cond_eq_ite] at hv;split at hv
       ·rename_i bh;split at hv
        ·cases hv
        ·rename_i a S2 hn;cases hv;obtain⟨h1,h2,h3⟩:=nH hn;cases h2;refine⟨_,_,h1,rfl,rfl,λS'=>?_⟩;unfold fD;simp only[he,hz,cond_eq_ite];rw[OE bh];simp only[h3]
       ·cases hv
     ·cases hv
    obtain⟨v',b,h1,rfl,rfl,h3⟩:=this;exact⟨v,b,h1,rfl,λS'=>by first | (simp only[eT,h3]) | (simp only[hl,jn,eT,h3])⟩
   ·cases h
  ·cases h
 case convert s d x=>
  split at h
  ·rename_i a hx;unfold eT at h;split at h
   ·rename_i v S1 hv;cases h
    have:∃v' b,k<tE k/\v=v'/\S1=⟨S.next,S.heap.put k b⟩/\∀S',eK P s d a (Ot k) S'=.ok (v',⟨S'.next,S'.heap.put k b⟩):=by
     unfold eK at hv;split at hv
     ·rename_i gp hd;rw[hd] at hc;cases hc
     ·rename_i gp hd;rw[hd] at hc;cases hc
     ·rename_i u e gp hd;split at hv
      ·rename_i s' he;rw[cond_eq_ite] at hv;split at hv
       ·rename_i bh;split at hv
        ·cases hv
        ·rename_i a' S2 hn;cases hv;obtain⟨h1,h2,h3⟩:=nH hn;cases h2;refine⟨_,_,h1,rfl,rfl,λS'=>?_⟩;unfold eK;simp only[gp,hd,he,cond_eq_ite];rw[OE bh];simp only[h3]
       ·cases hv
      ·cases hv
     ·cases hv
    obtain⟨v',b,h1,rfl,rfl,h3⟩:=this;exact⟨v,b,h1,rfl,λS'=>by first | (simp only[eT,h3]) | (simp only[hx,eT,h3])⟩
   ·cases h
  ·cases h
 case call c=>
  obtain⟨callee,args,ats⟩:=c;cases callee with
  | value f=>cases hc
  | invoke r m=>cases hc
  | builtin b=>cases b<;>simp only at hc<;>cases hc
def nI(P:OI)(call:Call)(ρ:Pj->Ow V)(o:Qh)(fr:Ow Nat)(S:St):R (V×St):=
 match aW P ρ o fr S with
 | .error w=>.error w
 | .ok (.val v S')=>.ok (v,S')
 | .ok (.skip S')=>.ok (.tup [],S')
 | .ok (.call f args)=>call f args S
theorem tR{P:OI}{call:Call}{n:Nat}{ops:Pa Qh}{o:Qh}{fr:Ow Nat}{e e1:bD}{S S1:St}(h:gG P call n ops o fr e S=.ok (e1,S1)):
  (wanted ops o e=.ok OA/\hM n e o.dst (.tup [])=.ok e1/\S1=S) \/
  (wanted ops o e=.ok OB/\∃v,nI P call (ev e) o fr S=.ok (v,S1)/\hM n e o.dst v=.ok e1):=by
 unfold gG at h;split at h
 ·cases h
 ·rename_i hw;split at h
  ·rename_i e2 hp;cases h;exact .inl ⟨hw,hp,rfl⟩
  ·cases h
 ·rename_i hw;refine .inr ⟨hw,?_⟩;split at h
  ·cases h
  ·rename_i v S2 hv;split at h
   ·rename_i e2 hp;cases h;exact⟨v,by unfold nI;rw[hv],hp⟩
   ·cases h
  ·rename_i S2 hv;split at h
   ·rename_i e2 hp;cases h;exact⟨.tup [],by unfold nI;rw[hv],hp⟩
   ·cases h
  ·rename_i f args hv;split at h
   ·cases h
   ·rename_i v S2 gf;split at h
    ·rename_i e2 hp;cases h;exact⟨v,by unfold nI;rw[hv];exact gf,hp⟩
    ·cases h
theorem aO0{P:OI}{call:Call}(hc:CallOK P call){ops:Pa Qh}{i:Nat}{o:Qh}(ho:ops[i]?=Ot o){ρ:Pj->Ow V}{fr:Ow Nat}{S S1:St}{v:V}
  (h:nI P call ρ o fr S=.ok (v,S1)) {F:Nat->Ow Obj} {G:Gh} {nx:Nat} {hp:Nat->Ow Blk} {W:PE} (R:RelH F G nx hp W.heap) (hn:S.next=nx)
  (gi:∀a b,S.heap.get a=Ot b->hp a=Ot b) (qt:∀k,fr=Ot k->k<nx/\G.loc k=OG/\G.ml k=OG) {a:Act} (hw:Vd o (yielded ops a.tmps)=OB)
  (hρ:∀x v,ρ x=Ot v->VR G v (a.eval x)) {Q:Exit->Act->PE->Prop} {K:Act->PE->Prop}
  (hK:∀G2 W2 w,G.le G2->RelH F G2 S1.next (nY hp S S1) W2.heap->Same W W2->nx<=S1.next->
   (∀k,hp k=OG->k<nx->fr≠Ot k->(G2.loc k=G.loc k/\G2.ml k=G.ml k)/\nY hp S S1 k=OG)->(∀i o,G2.pr i=Ot o->G.pr i=Ot o\/F i=OG)->VR G2 v w->K (a.put o.dst w) W2):
  wpOp P ops Q i K a W:=by
 have none_of:∀k,G.loc k=OG->G.ml k=OG->hp k=none:=by
  intro k h1 h2;cases hk:hp k with
  | none=>rfl
  | some b=>
   obtain⟨j,hj⟩:=(R.blk k b hk).next;rcases hj with ⟨L,hL,_⟩ | hj
   ·rw[h1] at hL;cases hL
   ·rw[h2] at hj;cases hj
 have Gu:∀k,fr=Ot k->hp k=none:=λk hk=>none_of k (qt k hk).2.1 (qt k hk).2.2;have hf:vH fr G S:=λk hk=>⟨by rw[hn];exact(qt k hk).1,(qt k hk).2⟩;have R':gJ (lA F G hp S W.heap) G S W.heap:=by
  have:=R.frame gi
  rw[<-hn] at this;exact this
 have fin:∀G2 W2 w,Sim (lA F G hp S W.heap) fr G S W G2 S1 W2->VR G2 v w->K (a.put o.dst w) W2:=by
  intro G2 W2 w hs hv;refine hK G2 W2 w hs.le (R.unframe hn Gu hs) hs.same (by rw[<-hn];exact hs.next) (λk h1 h2 h3=>?_) (λi o ho=>(hs.prn i o ho).imp id (R.framed_none i)) hv;have sh:S.heap.get k=none:=by
   cases hk:S.heap.get k with
   | none=>rfl
   | some b=>rw[gi k b hk] at h1;cases h1
  refine⟨hs.keep k sh (by rw[hn];exact h2) h3,?_⟩;unfold nY;rw[Oz (by rintro⟨_,b,hb⟩;rw[h1] at hb;cases hb)];exact hs.dead k sh (by rw[hn];exact h2) h3
 unfold wpOp;simp only[ho,hw,Oy];refine .inl ?_;unfold Yr;unfold nI at h;split at h
 ·cases h
 ·rename_i v' S' hv;cases h;obtain⟨W',G',w,w1,w2,w3⟩:=mH hv R' hf hρ;rw[w1,XR];exact fin G' W' w w2 w3
 ·rename_i S' hv;cases h;obtain⟨W',G',w1,w2⟩:=mH hv R' hf hρ;rw[w1,Ye];exact fin G' W' undef w2 (aAh G')
 ·rename_i f args hv;obtain⟨cs,w1,w2⟩:=mH hv R' hf hρ;rw[w2,hc.enters h,XS];refine(hc.calls h R' w1).mono ?_;rintro e W' ⟨G',w,rfl,q1,q2⟩;exact fin G' W' w q1.weaken q2
theorem aLu{P:OI}{ops:Pa Qh}{i:Nat}{o:Qh}(ho:ops[i]?=Ot o){K:Act->PE->Prop}{a:Act}{w:PE}(h:wpOp P ops (λ_ _ _=>False) i K a w):
  ∃a' w',K a' w':=by
 unfold wpOp at h;simp only[ho] at h;split at h
 ·rcases h with h | ⟨_,_,_,h⟩
  ·unfold Yr at h;generalize (SK a.eval o).run P w=r at h;cases r with
   | ok n w'=>
    cases n<;>simp only[Oper.upon] at h<;>try exact h.elim
    case value u=>exact⟨_,_,h⟩
    case skip=>exact⟨_,_,h⟩
    case defer d=>exact⟨_,_,h⟩
    case enter f args=>
     obtain⟨e,w2,fr,h1,_⟩:=h [];cases e with
     | returned u=>exact⟨_,_,h1⟩
     | panicked c=>exact h1.elim
     | outgrown=>obtain⟨_,_,h⟩:=h1;exact h.elim
    case row row args=>
     obtain⟨u,w2,h1,_⟩:=h default [];exact⟨_,_,h1⟩
   | halt x w'=>cases x<;>simp only[Oper.upon] at h<;>exact h.elim
  ·exact h.elim
 ·exact⟨_,_,h⟩
theorem aLv{P:OI}{call:Call}(hc:CallOK P call){n:Nat}{ops:Pa Qh}{i:Nat}{o:Qh}(ho:ops[i]?=Ot o){fr:Ow Nat}{e e':bD}{S S':St}
  (h:gG P call n ops o fr e S=.ok (e',S')) {F:Nat->Ow Obj} {G:Gh} {W:PE} (R:gJ F G S W.heap) (hf:vH fr G S) {tmps:Pa O'} (he:EnvR G n e tmps) (hn:n<eG):
  ∃G' W' CY,Sim F fr G S W G' S' W'/\EnvR G' n e' CY:=by
 obtain⟨a',W',G',h1,h2⟩:=aLu (P:=P) ho (aEr hc ho h R hf (a:=⟨tmps,[]⟩) he hn (Q:=λ_ _ _=>False)
  (K:=λa' W'=>∃G',Sim F fr G S W G' S' W'/\EnvR G' n e' a'.tmps) (λG' W' a' q1 q2 _=>⟨G',q1,q2⟩))
 exact⟨G',W',a'.tmps,h1,h2⟩
end Go.AM
end
