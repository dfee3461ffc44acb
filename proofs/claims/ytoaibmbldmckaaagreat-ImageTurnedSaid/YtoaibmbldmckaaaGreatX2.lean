import Derived.KernelRfl
import Derived.Lib.Walk
import Derived.Test.YtoaibmbldmckaaaGreatProg
import Derived.WalkKit
import Derived.Test.YtoaibmbldmckaaaGreatX1
set_option linter.unusedSimpArgs false
set_option linter.unusedVariables false
set_option linter.unusedSectionVars false
set_option maxRecDepth 100000
open Go.AM.V renaming int→O
open _root_ renaming List→On,Option→Ow,if_true→Oy,if_neg→Oz,if_pos→OE,UInt8→OP,congrFun→OR,Array→Pa,Bool→Ps,cond_true→PW,congrArg→Qo,String→Qq,cond_false→QF,decide_true→Rk,decide_false→Rp,decide_eq_false→RL
open List renaming getElem?_eq_some_iff→Oq,length_append→OC,mem_of_getElem?→OM,length_cons→OQ,append_nil→OS,mem_cons_of_mem→OY,length_nil→Pf,mem_cons_self→Ph,nil_append→Pp,getElem?_append_left→Pr,all_eq_true→PD,length_drop→PQ,length_take→PY,mem_append→Qf,mem_of_mem_drop→QM,mem_of_mem_take→QP,drop_zero→Rh,range→RC,mem_range→SV,any_nil→SZ,getElem?_cons_zero→Te,take_left'→Tk,any_eq_false→UC,getElem?_toArray→UP
open Option renaming some→Ot,none→OG,isSome→XU
open Nat renaming le_refl→Ov,beq→Pw,zero_add→Px,le_succ→PX,lt_succ_self→Qb,eq_of_beq_eq_true→Qv,le_trans→QC,beq_eq→QE,blt→QI,ble→Ru,ble_eq→RA,lt_of_lt_of_le→RE,ble_eq_true_of_le→RK,blt_eq→Sx,beq_refl→SS,ne_of_lt→Tt,ne_of_gt→Tu,sub_add_cancel→Um,le_add_right→UT
open Go.AM renaming Tr.get_put_sameB→Ox,Tr.get_put_neB→OJ,frzVs→Sm,ptrsVs→TC,slsVs→TM,Tr.get_putB→VI,SpecOK→VQ,Tr.put→VX
open Bool renaming false→OA,true→OB,and_eq_true→OU,and_self→QG,not_true→QL,and_true→QQ,true_and→Rn,and_assoc→Ro,or_false→Ul,false_or→UG
open Go renaming TypeId→OH,Program→OI,Value→O',Operand→Pj,FuncId→PU,IntKind→Qa,Oper→Qh,Edge→Rt,sizeOf→Ry,Code→ST,ResultVar→Ud,Func→Un
open Int renaming toNat_natCast→Pn
open Ne renaming symm→SJ
open Except.ok renaming inj→SL
open Go.Extern.SlicesOverlaps renaming overlaps→Vk
open Go.IntKind renaming i64→J,u64→ξ,u8→ω
section
namespace Go.AM
section
def jB(k:Ow Nat)(cs:On V)(j:Nat):R V:=match k with
 | none=>(match cs[j]? with
  | some v=>.ok v
  | none=>.error "part")
 | some n=>if j+n<=cs.length then .ok (.agg ((cs.drop j).take n)) else .error "part"
def fZ(k:Ow Nat)(p:V)(S:St):R V:=match p with
 | .ptr a ver i j=>(match aC S a ver with
  | .error e=>.error e
  | .ok (_,elems)=>match elems[i]? with
   | some cs=>jB k cs j
   | none=>.error "load")
 | .iptr cs j=>jB k cs j
 | _=>.error "load: a pointer expected"
theorem aW1{P:OI}{t:OH}{k:Ow Nat}(h:tk P t=Ot k)(cs:On V)(j:Nat):uM P t cs j=jB k cs j:=by
 unfold tk at h;unfold uM;split at h
 ·cases h
 ·rename_i d hd;simp only[hd];rw[cond_eq_ite] at h|-
  split at h
  ·rename_i ha;cases h;rw[OE ha,cond_eq_ite];simp only[jB,RA]
  ·rename_i ha;cases h;rw[Oz ha];rfl
theorem bJ{P:OI}{t:OH}{k:Ow Nat}(h:tk P t=Ot k:=by kernel_rfl)(p:V)(S:St):oG P t p S=fZ k p S:=by
 unfold oG fZ;cases p<;>simp only[aW1 h]<;>rfl
def stT(P:OI)(t:OH):Ow Nat:=match P.underlying t with
 | some _=>Ot (sz P t)
 | none=>OG
def eL(n:Nat)(p x:V)(S:St):R St:=match p with
 | .ptr a ver i j=>(match aC S a ver with
  | .error e=>.error e
  | .ok (es,elems)=>match elems[i]? with
   | some cs=>if x.cells.length=n/\aH x.cells=OB/\j+x.cells.length<=cs.length then .ok ⟨S.next,S.heap.put a (.row ver es (elems.set i (splice cs j x.cells)))⟩ else .error "store: the size"
   | none=>.error "store")
 | _=>.error "store: a pointer expected"
theorem bF{P:OI}{t:OH}{n:Nat}(h:stT P t=Ot n:=by kernel_rfl)(p x:V)(S:St):rN P t p x S=eL n p x S:=by
 unfold stT at h;split at h
 ·rename_i d hd;cases h;unfold rN eL;rw[hd];cases p<;>try rfl
  rename_i a ver i j;simp only;cases aC S a ver with
  | error e=>rfl
  | ok r=>
   simp only;cases r.2[i]? with
   | none=>rfl
   | some cs=>simp only[cond_eq_ite,OU,QE,RA,and_assoc]
 ·cases h
def advW(off:Nat)(p:V):R V:=match p with
 | .ptr a ver i j=>.ok (.ptr a ver i (j+off))
 | .iptr cs j=>.ok (.iptr cs (j+off))
 | _=>.error "fieldAddr"
theorem aB{P:OI}{s:OH}{f off:Nat}(h:fo P s f=Ot off:=by kernel_rfl)(p:V):eQ P s p f=advW off p:=by
 unfold fo at h;unfold eQ;split at h
 ·cases h
 ·rename_i fd zl;rw[cond_eq_ite] at h;split at h
  ·cases h
  ·rename_i hz;cases h;have hz:Pw (sz P fd.type) 0=false:=by
    cases hb:Pw (sz P fd.type) 0 with
    | false=>rfl
    | true=>exact absurd hb hz
   simp only[zl,hz,QF];cases p<;>rfl
def lenW(x:V):R V:=match x with
 | .nils=>.ok (.int J 0)
 | .sl _ _ _ _ len=>.ok (.int J len)
 | .imm es=>.ok (.int J es.length)
 | _=>.error "len"
theorem fR{P:OI}{t:OH}(h:bDh P t=true:=by kernel_rfl)(x:V)(S:St):aBn P t x S=lenW x:=by
 unfold bDh at h;unfold aBn;split at h
 ·rename_i e he;rw[he];cases x<;>rfl
 ·cases h
theorem aTm{P:OI}{t:OH}(h:bDi P t=OB)(s:On OP)(S:St):aBn P t (.str s) S=.ok (.int J s.length):=by
 unfold bDi at h;unfold aBn;split at h
 ·rename_i he;rw[he]
 ·cases h
def fV(n:Nat)(x ix:V):R V:=match x with
 | .sl a ver es off len=>(match pG ix len with
  | some k=>if es=n then .ok (.ptr a ver (off+k) 0) else .error "indexAddr: the size"
  | none=>.error "index out of range")
 | .imm es=>(match pG ix es.length with
  | some k=>match es[k]? with
   | some cs=>if cs.length=n then .ok (.iptr cs 0) else .error "indexAddr: the size"
   | none=>.error "index"
  | none=>.error "index out of range")
 | _=>.error "indexAddr"
theorem bO{P:OI}{t:OH}{n:Nat}(h:esT P t=Ot n:=by kernel_rfl)(x ix:V):dT P t x ix=fV n x ix:=by
 unfold esT at h;unfold dT fV;split at h
 ·rename_i e he;rw[cond_eq_ite] at h;split at h
  ·rename_i hs;cases h;rw[he];simp only[hs,QL,QF];cases x<;>try rfl
   ·rename_i a ver es off len;simp only;cases pG ix len<;>simp only[cond_eq_ite,QE]
   ·rename_i es;simp only;cases pG ix es.length with
    | none=>rfl
    | some k=>simp only[cond_eq_ite,QE];rfl
  ·cases h
 ·cases h
def bdS(P:OI)(t:OH):Ow (On V×On (Nat×Nat)):=match aQ P t,P.underlying t with
 | some z,Ot (.struct fs)=>(match fs.toList.all λf=>(P.underlying f.type).isSome with
  | true=>Ot (z.cells,fs.toList.map λf=>(f.offset,sz P f.type))
  | false=>OG)
 | _,_=>OG
theorem aCr{p q:Nat->Ow (Nat×Nat)}(h:∀i,p i=q i):∀(l:On (Nat×V)) (cs:On V),vE p cs l=vE q cs l
 | [],cs=>rfl
 | (i,v)::l,cs=>by simp only[vE,h,aCr h l]
def zD(z:On V)(pl:On (Nat×Nat))(parts:On (Nat×V)):R V:=match vE (λi=>pl[i]?) z parts with
 | .ok cs=>.ok (.agg cs)
 | .error e=>.error e
theorem cK{P:OI}{t:OH}{z:On V}{pl:On (Nat×Nat)}(h:bdS P t=Ot (z,pl):=by kernel_rfl)(parts:On (Nat×V)):rO P t parts=zD z pl parts:=by
 unfold bdS at h;unfold rO zD;split at h
 ·rename_i z' fs hz hu;split at h
  ·rename_i ha;cases h;simp only[hz,hu,ha,QL,QF];rw[aCr (q:=λi=>(fs.toList.map λf=>(f.offset,sz P f.type))[i]?) (λi=>by simp)];rfl
  ·cases h
 ·cases h
def bsT(P:OI)(t:OH):Ow (Nat×On V):=match lD P t with
 | some e=>(match aQ P e with
  | some z=>(match Pw z.cells.length (sz P e) with
   | true=>Ot (sz P e,z.cells)
   | false=>OG)
  | none=>OG)
 | none=>OG
def cX(n:Nat)(z:On V)(len:Nat)(parts:On (Nat×V))(fr:Ow Nat)(S:St):R (V×St):=if len*n<=16777216 then
  (match aA8 n (List.replicate len z) parts with
  | .error e=>.error e
  | .ok elems=>match bR fr S (.row 0 n elems) with
   | .error e=>.error e
   | .ok (a,S')=>.ok (.sl a 0 n 0 len,S')) else .error "buildSlice: the size"
theorem bM{P:OI}{t:OH}{n:Nat}{z:On V}(h:bsT P t=Ot (n,z):=by kernel_rfl)(len:Nat)(parts:On (Nat×V))(fr:Ow Nat)(S:St):dO P t len parts fr S=cX n z len parts fr S:=by
 unfold bsT at h;unfold dO cX;split at h
 ·rename_i e he;split at h
  ·rename_i z' hz;split at h
   ·rename_i hb;cases h;simp only[he,hz,hb,Rn,cond_eq_ite,RA];rfl
   ·cases h
  ·cases h
 ·cases h
def eC(n b:Nat)(s x:V)(fr:Ow Nat)(S:St):R (V×St):=
 match aK S x with
 | .error e=>.error e
 | .ok xs=>if kG n xs=OB/\xs.all aH=OB then
  (match s with
  | .nils=>(match xs with
   | []=>.ok (.nils,S)
   | _=>if xs.length*b<=35184372088832/\xs.length<eG then(match bR fr S (.row 0 n xs) with
    | .error e=>.error e
    | .ok (a,S')=>.ok (.sl a 0 n 0 xs.length,S')) else .error "append: room")
  | .sl a ver _ off len=>(match aC S a ver with
   | .error e=>.error e
   | .ok (es,elems)=>
    if off+len<=elems.length/\es=n/\(len+xs.length)*b<=35184372088832/\len+xs.length<eG then
     .ok (.sl a (ver+1) es 0 (len+xs.length),⟨S.next,S.heap.put a (.row (ver+1) es ((elems.drop off).take len++xs))⟩)
    else .error "append: room")
  | _=>.error "append") else .error "append: sizes"
theorem dM{P:OI}{t:OH}{n b:Nat}(h:apT P t=Ot (n,b):=by kernel_rfl)(s x:V)(fr:Ow Nat)(S:St):iP P t s x fr S=eC n b s x fr S:=by
 unfold apT at h;split at h
 ·cases h
 ·rename_i e he;rw[cond_eq_ite] at h;split at h
  ·rename_i hz;cases h;unfold iP eC;simp only[he];cases aK S x with
   | error w=>rfl
   | ok xs=>
    simp only;by_cases h12:kG (sz P e) xs=OB/\xs.all aH=OB
    ·have e1:(!(kG (sz P e) xs&&xs.all aH&&nF P e))=false:=by rw[h12.1,h12.2,hz];rfl
     rw[e1,OE h12];simp only[QF];cases s with
     | nils=>
      cases xs with
      | nil=>rfl
      | cons c xs=>simp only[room,cond_eq_ite,OU,RA,Sx];rfl
     | sl a ver es off len=>
      simp only;cases aC S a ver with
      | error w=>rfl
      | ok r=>simp only[room,cond_eq_ite,OU,RA,Sx,QE,and_assoc]
     | _=>rfl
    ·have e1:(!(kG (sz P e) xs&&xs.all aH&&nF P e))=true:=by
      cases h1:kG (sz P e) xs with
      | false=>rfl
      | true=>
       cases h2:xs.all aH with
       | false=>rfl
       | true=>exact absurd ⟨h1,h2⟩ h12
     rw[e1,Oz h12];rfl
  ·cases h
def cvT(P:OI)(s d:OH):Ow IntKind:=match P.underlying s,P.underlying d with
 | some _,Ot (.int k)=>Ot k
 | _,_=>OG
theorem nJ{P:OI}{s d:OH}{k:Qa}(h:cvT P s d=Ot k:=by kernel_rfl)(j:Qa)(n:Int)(fr:Ow Nat)(S:St):eK P s d (.int j n) fr S=.ok (.int k (wr k n),S):=by
 unfold cvT at h;split at h
 ·rename_i u k' hu hd;cases h;simp only[eK,hu,hd]
 ·cases h
theorem iB{P:OI}{t:OH}{n:Nat}(h:esT P t=Ot n:=by kernel_rfl)(a ver off len:Nat)(lo hi:Ow V):iZ P t (.sl a ver n off len) lo hi=(match eR len lo hi with
   | .ok (l,h)=>.ok (.sl a ver n (off+l) (h - l))
   | .error e=>.error e):=by
 unfold esT at h;unfold iZ;split at h
 ·rename_i e he;rw[cond_eq_ite] at h;split at h
  ·rename_i hs;cases h;rw[he];simp only[hs,QL,QF,SS,PW];rfl
  ·cases h
 ·cases h
theorem zF{P:OI}{t:OH}{n:Nat}(h:esT P t=Ot n)(es:On (On V))(hl:kG n es=OB)(lo hi:Ow V):iZ P t (.imm es) lo hi=(match eR es.length lo hi with
   | .ok (l,h)=>.ok (.imm ((es.take h).drop l))
   | .error e=>.error e):=by
 unfold esT at h;unfold iZ;split at h
 ·rename_i e he;rw[cond_eq_ite] at h;split at h
  ·rename_i hs;cases h;rw[he];simp only[hs,QL,QF,hl,PW];rfl
  ·cases h
 ·cases h
section
variable(P:OI)(t:OH)(k:Qa)(a b:Int)
theorem dK(k:Qa):mS k k=true:=by cases k<;>rfl
theorem bB5:cC P .add t (.int k a) (.int k b)=.ok (.int k (wr k (a+b))):=by simp only[cC,dK,PW,lJ]
theorem bB6:cC P .sub t (.int k a) (.int k b)=.ok (.int k (wr k (a - b))):=by simp only[cC,dK,PW,lJ]
theorem bB7:cC P .mul t (.int k a) (.int k b)=.ok (.int k (wr k (a*b))):=by simp only[cC,dK,PW,lJ]
theorem bB8(h:b≠0):cC P .quo t (.int k a) (.int k b)=.ok (.int k (wr k (a.tdiv b))):=by simp only[cC,dK,PW,lJ,h,Rp,QF]
theorem aQ9(h:b≠0):cC P .rem t (.int k a) (.int k b)=.ok (.int k (a.tmod b)):=by simp only[cC,dK,PW,lJ,h,Rp,QF]
theorem bB9:cC P .lss t (.int k a) (.int k b)=.ok (.bool (decide (a<b))):=by simp only[cC,dK,PW,lJ]
theorem bBa:cC P .leq t (.int k a) (.int k b)=.ok (.bool (decide (a<=b))):=by simp only[cC,dK,PW,lJ]
theorem bBb:cC P .gtr t (.int k a) (.int k b)=.ok (.bool (decide (b<a))):=by simp only[cC,dK,PW,lJ]
theorem bBc:cC P .geq t (.int k a) (.int k b)=.ok (.bool (decide (b<=a))):=by simp only[cC,dK,PW,lJ]
theorem bBd:cC P .eql t (.int k a) (.int k b)=.ok (.bool (decide (a=b))):=by simp only[cC,dK,PW,lJ]
theorem bBe:cC P .neq t (.int k a) (.int k b)=.ok (.bool (!decide (a=b))):=by simp only[cC,dK,PW,lJ]
theorem bBf(x y:On OP):cC P .eql t (.str x) (.str y)=.ok (.bool (x == y)):=by simp only[cC,aCe,eB]
theorem bBg(x y:On OP):cC P .neq t (.str x) (.str y)=.ok (.bool (!(x == y))):=by simp only[cC,aCe,eB]
theorem bBh(x y:On OP):cC P .lss t (.str x) (.str y)=.ok (.bool (iL x y)):=by simp only[cC,aCe]
theorem bBi(x y:On OP):cC P .geq t (.str x) (.str y)=.ok (.bool (!iL x y)):=by simp only[cC,aCe]
end
theorem fB{n:Int}(h1:-9223372036854775808<=n)(h2:n<=9223372036854775807):wr J n=n:=by
 unfold wr lo hi;simp only;rw[OE ⟨h1,h2⟩]
def WF(S:St):Prop:=∀a b,S.heap.get a=Ot b->a<S.next
structure Ext (S S':St):Prop where
 old:∀a b,S.heap.get a=Ot b->S'.heap.get a=Ot b
 next:S.next<=S'.next
 wf:WF S->WF S'
theorem Ext.refl(S:St):Ext S S:=⟨λ_ _ h=>h,Ov _,λh=>h⟩
theorem Ext.trans{A B C:St}(h:Ext A B)(k:Ext B C):Ext A C:=⟨λa b q=>k.old a b (h.old a b q),QC h.next k.next,λw=>k.wf (h.wf w)⟩
theorem Ext.row{S S':St}(h:Ext S S'){a ver:Nat}{r:Nat×On (On V)}(hr:aC S a ver=.ok r):aC S' a ver=.ok r:=by
 unfold aC at hr|-
 split at hr
 ·rename_i v es el hb;rw[h.old a _ hb];exact hr
 ·cases hr
theorem Ext.elems{S S':St}(h:Ext S S'){v:V}{es:On (On V)}(he:aK S v=.ok es):aK S' v=.ok es:=by
 unfold aK at he|-
 split at he<;>try exact he
 rename_i a ver x off len;split at he
 ·cases he
 ·rename_i r hr;rw[h.row hr];exact he
theorem Ext.new{S:St}(w:WF S)(b:Blk):Ext S ⟨S.next+1,S.heap.put S.next b⟩:=by
 refine⟨λa c h=>?_,PX _,λ_ a c h=>?_⟩
 ·have:=w a c h
  show(S.heap.put S.next b).get a=Ot c;rw[OJ _ _ _ _ trivial (by omega)];exact h
 ·have h':(S.heap.put S.next b).get a=Ot c:=h;rw[VI _ _ _ _ trivial] at h';split at h'
  ·show a<S.next+1;omega
  ·have:=w a c h';show a<S.next+1;omega
theorem Ext.set{S S':St}(h:Ext S S'){a:Nat}(ha:S.next<=a)(hb:a<S'.next)(w:WF S)(b:Blk):Ext S ⟨S'.next,S'.heap.put a b⟩:=by
 refine⟨λx c hx=>?_,h.next,λ_ x c hx=>?_⟩
 ·have:=w x c hx
  show(S'.heap.put a b).get x=Ot c;rw[OJ _ _ _ _ trivial (by omega)];exact h.old x c hx
 ·have AD:(S'.heap.put a b).get x=Ot c:=hx;rw[VI _ _ _ _ trivial] at AD;split at AD
  ·show x<S'.next;omega
  ·exact h.wf w x c AD
theorem aA(n:Nat)(h:Tr Blk)(a ver es:Nat)(el:On (On V)):aC ⟨n,h.put a (.row ver es el)⟩ a ver=.ok (es,el):=by
 simp only[aC,Ox _ _ _ trivial,SS,PW]
theorem dG(n m:Nat)(h:Tr Blk)(a c ver:Nat)(b:Blk)(hc:c≠a):aC ⟨n,h.put a b⟩ c ver=aC ⟨m,h⟩ c ver:=by
 simp only[aC,OJ _ _ _ _ trivial hc]
structure Sl (S:St) (n:Nat) (v:V) (es:On (On V)):Prop where
 is:(v=.nils/\es=[])\/v=.imm es\/∃a ver off elems,v=.sl a ver n off es.length/\aC S a ver=.ok (n,elems)/\off+es.length<=elems.length/\(elems.drop off).take es.length=es
 len:∀cs,cs∈es->cs.length=n/\aH cs=OB
theorem Sl.ext{S S':St}{n:Nat}{v:V}{es:On (On V)}(h:Sl S n v es)(x:Ext S S'):Sl S' n v es:=by
 refine⟨?_,h.len⟩;rcases h.is with h1 | h1 | ⟨a,ver,off,elems,h1,h2,h3,h4⟩
 ·exact .inl h1
 ·exact .inr (.inl h1)
 ·exact .inr (.inr ⟨a,ver,off,elems,h1,x.row h2,h3,h4⟩)
theorem Sl.elems{S:St}{n:Nat}{v:V}{es:On (On V)}(h:Sl S n v es):aK S v=.ok es:=by
 rcases h.is with ⟨rfl,rfl⟩ | rfl | ⟨a,ver,off,elems,rfl,h2,h3,h4⟩
 ·rfl
 ·rfl
 ·simp only[aK,h2,RK h3,PW,h4]
theorem Sl.lenW{S:St}{n:Nat}{v:V}{es:On (On V)}(h:Sl S n v es):Go.AM.lenW v=.ok (.int J es.length):=by
 rcases h.is with ⟨rfl,rfl⟩ | rfl | ⟨a,ver,off,elems,rfl,h2,h3,h4⟩<;>rfl
def At(S:St)(p:V)(cs:On V):Prop:=(∃a ver i es elems,p=.ptr a ver i 0/\aC S a ver=.ok (es,elems)/\elems[i]?=Ot cs)\/p=.iptr cs 0
def adv(j:Nat)(p:V):V:=match p with
 | .ptr a ver i x=>.ptr a ver i (x+j)
 | .iptr cs x=>.iptr cs (x+j)
 | p=>p
theorem At.advW{S:St}{p:V}{cs:On V}(h:At S p cs)(j:Nat):Go.AM.advW j p=.ok (adv j p):=by
 rcases h with ⟨a,ver,i,es,elems,rfl,h2,h3⟩ | rfl<;>rfl
theorem At.load{S:St}{p:V}{cs:On V}(h:At S p cs)(k:Ow Nat)(j:Nat):fZ k (adv j p) S=jB k cs j:=by
 rcases h with ⟨a,ver,i,es,elems,rfl,h2,h3⟩ | rfl
 ·simp only[adv,fZ,h2,h3,Px]
 ·simp only[adv,fZ,Px]
theorem At.load0{S:St}{p:V}{cs:On V}(h:At S p cs)(k:Ow Nat):fZ k p S=jB k cs 0:=by
 rcases h with ⟨a,ver,i,es,elems,rfl,h2,h3⟩ | rfl
 ·simp only[fZ,h2,h3]
 ·simp only[fZ]
theorem aC0(cs:On V)(n:Nat)(h:cs.length=n):jB (Ot n) cs 0=.ok (.agg cs):=by
 subst h;simp[jB]
theorem gA{k:Qa}{i:Nat}{n:Nat}(h:i<n):pG (.int k (i:Int)) n=Ot i:=by
 have h1:(0:Int)<=(i:Int):=by omega
 have h2:(i:Int)<(n:Int):=by omega
 simp only[pG,h1,h2,Rk,QG,PW,Pn]
theorem Sl.idx{S:St}{n:Nat}{v:V}{es:On (On V)}(h:Sl S n v es){i:Nat}{cs:On V}(hc:es[i]?=Ot cs)(k:Qa):∃p,fV n v (.int k (i:Int))=.ok p/\At S p cs:=by
 have hi:i<es.length:=(Oq.1 hc).1;have hl:=(h.len cs (OM hc)).1;rcases h.is with ⟨rfl,rfl⟩ | rfl | ⟨a,ver,off,elems,rfl,h2,h3,h4⟩
 ·simp at hi
 ·exact⟨.iptr cs 0,by simp only[fV,gA hi,hc,hl,Oy],.inr rfl⟩
 ·refine⟨.ptr a ver (off+i) 0,by simp only[fV,gA hi,Oy],.inl ⟨a,ver,off+i,n,elems,rfl,h2,?_⟩⟩;rw[<-h4,List.getElem?_take,OE hi,List.getElem?_drop] at hc;exact hc
def St.var(S:St)(n:Nat)(zs cs:On V):St:=⟨S.next+1,(S.heap.put S.next (.row 0 n [zs])).put S.next (.row 0 n [cs])⟩
theorem Ext.var{S:St}(w:WF S)(n:Nat)(zs cs:On V):Ext S (S.var n zs cs):=(Ext.new w _).set (Ov _) (Qb _) w _
theorem bBj(S:St)(n:Nat)(zs cs:On V):aC (S.var n zs cs) S.next 0=.ok (n,[cs]):=aA _ _ _ _ _ _
theorem aOh(zs cs:On V)(h:cs.length=zs.length):splice zs 0 cs=cs:=by simp[splice,h]
theorem aTo(S:St)(n:Nat)(zs:On V)(x:V)(hz:zs.length=n)(hx:x.cells.length=n)(ho:aH x.cells=OB):
  eL n (.ptr S.next 0 0 0) x ⟨S.next+1,S.heap.put S.next (.row 0 n [zs])⟩=.ok (S.var n zs x.cells):=by
 simp only[eL,aA,Te,hx,ho,hz,Px,Ov,and_self,Oy,List.set_cons_zero,St.var,aOh zs x.cells (by rw[hx,hz])]
def iC(x y:R Ps):R Bool:=match x with
 | .error e=>.error e
 | .ok r=>bif r then y else .ok OA
theorem lQ(a b:Ps):iC (.ok a) (.ok b)=.ok (a&&b):=by cases a<;>rfl
theorem Ext.bump{S S':St}(h:Ext S S')(c:Nat):Ext S ⟨S'.next+c,S'.heap⟩:=
 ⟨h.old,QC h.next (UT _ _),λw a b hb=>RE (h.wf w a b hb) (UT _ _)⟩
theorem Sl.elem{α:Type}{S:St}{n:Nat}{v:V}{all:On α}{enc:α->On V}(hs:Sl S n v (all.map enc)){i:Nat}{a:α}(hi:all[i]?=Ot a):
  ∃p,fV n v (.int J (i:Int))=.ok p/\At S p (enc a)/\(enc a).length=n/\aH (enc a)=true:=by
 have hc:(all.map enc)[i]?=Ot (enc a):=by simp[hi]
 obtain⟨p,hp,em⟩:=hs.idx hc J;have hl:=hs.len (enc a) (OM hc);exact⟨p,hp,em,hl.1,hl.2⟩
theorem Sl.lenI{α:Type}{S:St}{n:Nat}{v:V}{all:On α}{enc:α->On V}(hs:Sl S n v (all.map enc)):Go.AM.lenW v=.ok (.int J all.length):=by
 have:=hs.lenW
 rwa [List.length_map] at this
end
def aD{σ ρ α:Type}(step:σ->α->ρ⊕σ)(fin:σ->ρ):On α->σ->ρ
 | [],s=>fin s
 | a::l,s=>match step s a with
  | .inl r=>r
  | .inr s'=>aD step fin l s'
end Go.AM
end
section
namespace Go.AM
structure Own (S0 S:St) (n:Nat) (v:V) (es:On (On V)):Prop where
 is:(v=.nils/\es=[])\/∃a ver tl,v=.sl a ver n 0 es.length/\S0.next<=a/\a<S.next/\S.heap.get a=Ot (.row ver n (es++tl))
 len:∀cs,cs∈es->cs.length=n/\aH cs=OB
theorem aF{S:St}{a ver n:Nat}{el:On (On V)}(h:S.heap.get a=Ot (.row ver n el)):aC S a ver=.ok (n,el):=by
 simp only[aC,h,SS,PW]
theorem Own.sl{S0 S:St}{n:Nat}{v:V}{es:On (On V)}(h:Own S0 S n v es):Sl S n v es:=by
 refine⟨?_,h.len⟩;rcases h.is with h1 | ⟨a,ver,tl,h1,h2,h3,h4⟩
 ·exact .inl h1
 ·exact .inr (.inr ⟨a,ver,0,es++tl,h1,aF h4,by simp,by simp⟩)
theorem Own.ext{S0 S S':St}{n:Nat}{v:V}{es:On (On V)}(h:Own S0 S n v es)(x:Ext S S'):Own S0 S' n v es:=by
 refine⟨?_,h.len⟩;rcases h.is with h1 | ⟨a,ver,tl,h1,h2,h3,h4⟩
 ·exact .inl h1
 ·exact .inr ⟨a,ver,tl,h1,h2,RE h3 x.next,x.old _ _ h4⟩
theorem Own.nil(S0 S:St)(n:Nat):Own S0 S n .nils []:=⟨.inl ⟨rfl,rfl⟩,λ_ h=>by cases h⟩
theorem Own.weaken{A B S:St}{n:Nat}{v:V}{es:On (On V)}(h:Own B S n v es)(x:A.next<=B.next):Own A S n v es:=by
 refine⟨?_,h.len⟩;rcases h.is with h1 | ⟨a,ver,tl,h1,h2,h3,h4⟩
 ·exact .inl h1
 ·exact .inr ⟨a,ver,tl,h1,QC x h2,h3,h4⟩
theorem cU{n:Nat}{es:On (On V)}(h:∀cs,cs∈es->cs.length=n/\aH cs=OB):kG n es=OB/\es.all aH=true:=
 ⟨PD.2 λcs hc=>by simp[(h cs hc).1],PD.2 λcs hc=>(h cs hc).2⟩
theorem Sl.copy{S:St}{n b:Nat}{v:V}{es:On (On V)}(h:Sl S n v es)(w:WF S)(h1:es.length*b<=35184372088832)(h2:es.length<eG):
  ∃v' S',eC n b .nils v OG S=.ok (v',S')/\Ext S S'/\Own S S' n v' es:=by
 obtain⟨a1,a2⟩:=cU h.len;cases es with
 | nil=>exact⟨.nils,S,by simp only[eC,h.elems,a1,a2,and_self,Oy],Ext.refl S,Own.nil _ _ _⟩
 | cons c es=>
  refine⟨.sl S.next 0 n 0 (c::es).length,⟨S.next+1,S.heap.put S.next (.row 0 n (c::es))⟩,?_,Ext.new w _,⟨.inr ⟨S.next,0,[],rfl,Ov _,Qb _,?_⟩,h.len⟩⟩
  ·simp only[eC,h.elems,a1,a2,and_self,Oy,h1,h2,dX]
  ·rw[OS];exact Ox _ _ _ trivial
theorem Own.pushK{S0 S:St}{n b:Nat}{v:V}{es:On (On V)}(h:Own S0 S n v es)(x:Ext S0 S)(w:WF S0){u:V}{cs:On (On V)}(hu:aK S u=.ok cs)(hc:∀c,c∈cs->c.length=n/\aH c=OB)(ah:cs≠[])
  (h1:(es.length+cs.length)*b<=35184372088832) (h2:es.length+cs.length<eG):∃v' S',eC n b v u OG S=.ok (v',S')/\Ext S0 S'/\S'.next<=S.next+1/\Own S0 S' n v' (es++cs)/\∀y,y<S.next->(∀a ver m,v=.sl a ver n 0 m->y≠a)->S'.heap.get y=S.heap.get y:=by
 obtain⟨a1,a2⟩:=cU hc;have hlen:∀c,c∈es++cs->c.length=n/\aH c=true:=λc hm=>(Qf.1 hm).elim (h.len c) (hc c);rcases h.is with ⟨rfl,rfl⟩ | ⟨a,ver,tl,rfl,q1,q2,q3⟩
 ·cases cs with
  | nil=>exact absurd rfl ah
  | cons c cs=>
   refine⟨.sl S.next 0 n 0 (c::cs).length,⟨S.next+1,S.heap.put S.next (.row 0 n (c::cs))⟩,?_,x.trans (Ext.new (x.wf w) _),Ov _,⟨.inr ⟨S.next,0,[],rfl,x.next,Qb _,?_⟩,hlen⟩,λy hy _=>OJ _ _ _ _ trivial (by omega)⟩
   ·simp only[Pf,Px] at h1 h2;simp only[eC,hu,a1,a2,and_self,Oy,h1,h2,dX]
   ·rw[OS];exact Ox _ _ _ trivial
 ·have hb:0+es.length<=es.length+tl.length:=by omega
  refine⟨.sl a (ver+1) n 0 (es++cs).length,⟨S.next,S.heap.put a (.row (ver+1) n (es++cs))⟩,?_,x.set q1 q2 w _,PX _,⟨.inr ⟨a,ver+1,[],rfl,q1,q2,?_⟩,hlen⟩,λy _ hy=>OJ _ _ _ _ trivial (hy a ver _ rfl)⟩
  ·simp only[eC,hu,a1,a2,and_self,Oy,aF q3,hb,h1,h2,Rh,Tk,OC]
  ·rw[OS];exact Ox _ _ _ trivial
theorem Own.push{S0 S:St}{n b:Nat}{v:V}{es:On (On V)}(h:Own S0 S n v es)(x:Ext S0 S)(w:WF S0){u:V}{cs:On (On V)}(hu:aK S u=.ok cs)(hc:∀c,c∈cs->c.length=n/\aH c=OB)(ah:cs≠[])
  (h1:(es.length+cs.length)*b<=35184372088832) (h2:es.length+cs.length<eG):∃v' S',eC n b v u OG S=.ok (v',S')/\Ext S0 S'/\S'.next<=S.next+1/\Own S0 S' n v' (es++cs):=by
 obtain⟨v',S',q1,q2,q3,q4,_⟩:=h.pushK x w hu hc ah h1 h2;exact⟨v',S',q1,q2,q3,q4⟩
theorem Own.set{S0 S:St}{n:Nat}{v:V}{es:On (On V)}(h:Own S0 S n v es)(x:Ext S0 S)(w:WF S0){i:Nat}{cs:On V}(hi:es[i]?=Ot cs)(k:Qa):
  ∃p,fV n v (.int k (i:Int))=.ok p/\At S p cs/\∀(j m:Nat) (u:V),u.cells.length=m->aH u.cells=OB->j+m<=n->∃S',eL m (adv j p) u S=.ok S'/\Ext S0 S'/\S'.next=S.next/\Own S0 S' n v (es.set i (splice cs j u.cells)) /\
   ∀S1,Ext S1 S->(∀a ver,v=.sl a ver n 0 es.length->S1.next<=a)->WF S1->Ext S1 S':=by
 have ai:i<es.length:=(Oq.1 hi).1;have hl:=h.len cs (OM hi);rcases h.is with ⟨rfl,rfl⟩ | ⟨a,ver,tl,rfl,q1,q2,q3⟩
 ·simp at ai
 ·have hg:(es++tl)[0+i]?=Ot cs:=by rw[Px,Pr ai];exact hi
  refine⟨.ptr a ver (0+i) 0,by simp only[fV,gA ai,Oy],.inl ⟨a,ver,0+i,n,es++tl,rfl,aF q3,hg⟩,λj m u hu ho hj=>?_⟩;have cd:(splice cs j u.cells).length=n:=by simp only[splice,OC,PY,PQ];omega
  have qg:aH (splice cs j u.cells)=true:=by
   have h1:=hl.2;simp only[aH,PD] at h1 ho|-
   intro y hy;simp only[splice,Qf] at hy;rcases hy with hy | hy | hy
   ·exact h1 y (QP hy)
   ·exact ho y hy
   ·exact h1 y (QM hy)
  have fq:eL m (adv j (.ptr a ver (0+i) 0)) u S=.ok ⟨S.next,S.heap.put a (.row ver n ((es++tl).set (0+i) (splice cs j u.cells)))⟩:=by
   have rm:0+j+u.cells.length<=cs.length:=by omega
   simp only[adv,eL,aF q3,hg,hu,ho,true_and];rw[OE (by omega)];simp only[Px]
  have ce:(es++tl).set (0+i) (splice cs j u.cells)=es.set i (splice cs j u.cells)++tl:=by rw[Px,List.set_append_left _ _ ai]
  refine⟨_,fq,x.set q1 q2 w _,rfl,⟨.inr ⟨a,ver,tl,by rw[List.length_set],q1,q2,?_⟩,λc hc=>?_⟩,λS1 x1 ha w1=>x1.set (ha a ver rfl) q2 w1 _⟩
  ·rw[ce];exact Ox _ _ _ trivial
  ·rcases List.mem_or_eq_of_mem_set hc with hc | rfl
   ·exact h.len c hc
   ·exact⟨cd,qg⟩
theorem aW2{P:OI}{T:OH}{n b:Nat}(h:apT P T=Ot (n,b)):∃e,lD P T=Ot e/\nF P e=OB/\sz P e=n/\P.bytesOf e=b:=by
 unfold apT at h;split at h
 ·cases h
 ·rename_i e he;rw[cond_eq_ite] at h;split at h
  ·rename_i hz;cases h;exact⟨e,he,hz,rfl,rfl⟩
  ·cases h
theorem Own.insertK{P:OI}{T:OH}{n b:Nat}(hT:apT P T=Ot (n,b))(hn:1<n){S0 S:St}{v:V}{es:On (On V)}(h:Own S0 S n v es)(x:Ext S0 S)(w:WF S0){bx:Nat}{c:On V}(hb:aC S bx 0=.ok (n,[c]))
  (ah:∀a ver m,v=.sl a ver n 0 m->a≠bx) (hc:c.length=n/\aH c=OB) (h1:(es.length+1)*b<=35184372088832) (h2:es.length+1<eG) {i:Nat} (hi:i<=es.length):
  ∃v' S',jR P T v (.int J (i:Int)) (.sl bx 0 n 0 1) S=.ok (v',S')/\Ext S0 S'/\Own S0 S' n v' (es.take i++c::es.drop i)/\∀y,y<S.next->(∀a ver m,v=.sl a ver n 0 m->y≠a)->S'.heap.get y=S.heap.get y:=by
 obtain⟨e,he,hz,bk,Cb⟩:=aW2 hT;have hx:aK S (.sl bx 0 n 0 1)=.ok [c]:=by
  simp only[aK,hb];rfl
 have KQ:Ru n 1=false:=by
  cases hq:Ru n 1 with
  | false=>rfl
  | true=>exact absurd (Nat.le_of_ble_eq_true hq) (by omega)
 have hcs:∀d,d∈[c]->d.length=n/\aH d=true:=λd hd=>by cases hd with
  | head=>exact hc
  | tail _ hd=>cases hd
 have hlen:∀d,d∈es.take i++c::es.drop i->d.length=n/\aH d=true:=by
  intro d hd;rcases Qf.1 hd with hd | hd
  ·exact h.len d (QP hd)
  ·rcases List.mem_cons.1 hd with rfl | hd
   ·exact hc
   ·exact h.len d (QM hd)
 have ag:(es.take i++c::es.drop i).length=es.length+1:=by simp only[OC,PY,OQ,PQ];omega
 by_cases bj:i=es.length
 ·subst bj;obtain⟨v',S',q1,q2,_,q3,q4⟩:=h.pushK (b:=b) x w hx hcs (by simp) h1 h2;refine⟨v',S',?_,q2,by simpa using q3,q4⟩;rw[<-dM hT] at q1;unfold jR;simp only[he,hx,bk,KQ,UG];rcases h.is with ⟨rfl,rfl⟩ | ⟨a,ver,tl,rfl,_⟩
  ·simp only[Pf];show(bif Pw 1 0 then _ else bif decide (((0:Nat):Int)=0) then _ else _)=_;simp only[Int.natCast_zero,Rk,PW];exact q1
  ·simp only[Rk,PW];exact q1
 ·rcases h.is with ⟨rfl,rfl⟩ | ⟨a,ver,tl,rfl,p1,p2,p3⟩
  ·simp at hi;exact absurd hi bj
  ·have Fq:Pw a bx=false:=by
    cases hq:Pw a bx with
    | false=>rfl
    | true=>exact absurd (Qv hq) (ah a ver _ rfl)
   obtain⟨a1,a2⟩:=cU hcs;obtain⟨_,a3⟩:=cU h.len;have ea:Ru (0+es.length) (es++tl).length=true:=RK (by simp);have ay:room P e (es.length+[c].length)=true:=by
    simp only[room,Cb,OU,RA,Sx,OQ,Pf];exact⟨h1,h2⟩
   have e1:decide ((i:Int)=((es.length:Nat):Int))=false:=RL (by omega);have e2:decide ((i:Int)<0)=false:=RL (by omega);have e3:decide (((es.length:Nat):Int)<(i:Int))=false:=RL (by omega);refine⟨.sl a (ver+1) n 0 (es.take i++c::es.drop i).length,⟨S.next,S.heap.put a (.row (ver+1) n (es.take i++c::es.drop i))⟩,?_,x.set p1 p2 w _,⟨.inr ⟨a,ver+1,[],rfl,p1,p2,?_⟩,hlen⟩,λy _ hy=>OJ _ _ _ _ trivial (hy a ver _ rfl)⟩
   ·unfold jR;simp only[he,hx,bk,KQ,UG,e1,QF,Fq,e2,e3,a1,a2,hz,QG,QL,aF p3,ea,SS,ay,Rh,Tk,a3,PW,Pn,ag];rfl
   ·rw[OS];exact Ox _ _ _ trivial
theorem Own.insert{P:OI}{T:OH}{n b:Nat}(hT:apT P T=Ot (n,b))(hn:1<n){S0 S:St}{v:V}{es:On (On V)}(h:Own S0 S n v es)(x:Ext S0 S)(w:WF S0){bx:Nat}{c:On V}(hb:aC S bx 0=.ok (n,[c]))
  (ah:∀a ver m,v=.sl a ver n 0 m->a≠bx) (hc:c.length=n/\aH c=OB) (h1:(es.length+1)*b<=35184372088832) (h2:es.length+1<eG) {i:Nat} (hi:i<=es.length):
  ∃v' S',jR P T v (.int J (i:Int)) (.sl bx 0 n 0 1) S=.ok (v',S')/\Ext S0 S'/\Own S0 S' n v' (es.take i++c::es.drop i):=by
 obtain⟨v',S',q1,q2,q3,_⟩:=h.insertK hT hn x w hb ah hc h1 h2 hi;exact⟨v',S',q1,q2,q3⟩
theorem Own.delete{P:OI}{T e:OH}{n:Nat}{z:On V}(he:lD P T=Ot e)(hz:wW P e=Ot z)(bk:sz P e=n){S0 S:St}{v:V}{es:On (On V)}(h:Own S0 S n v es)(x:Ext S0 S)(w:WF S0)
  (h2:es.length<eG) {i:Nat} (hi:i<es.length):
  ∃v' S',tG P T v (.int J (i:Int)) (.int J ((i:Int)+1)) S=.ok (v',S')/\Ext S0 S'/\Own S0 S' n v' (es.take i++es.drop (i+1)):=by
 have hlen:∀d,d∈es.take i++es.drop (i+1)->d.length=n/\aH d=true:=by
  intro d hd;rcases Qf.1 hd with hd | hd
  ·exact h.len d (QP hd)
  ·exact h.len d (QM hd)
 have ag:(es.take i++es.drop (i+1)).length=es.length - 1:=by simp only[OC,PY,PQ];omega
 rcases h.is with ⟨rfl,rfl⟩ | ⟨a,ver,tl,rfl,p1,p2,p3⟩
 ·simp at hi
 ·obtain⟨_,a3⟩:=cU h.len;have e1:decide ((i:Int)<0)=false:=RL (by omega);have e2:decide ((i:Int)+1<(i:Int))=false:=RL (by omega);have e3:decide (((es.length:Nat):Int)<(i:Int)+1)=false:=RL (by omega);have e4:QI es.length eG=true:=RK h2;have e5:Pw es.length 0=false:=by
   cases hq:Pw es.length 0 with
   | false=>rfl
   | true=>have:=Qv hq;omega
  have e6:decide ((i:Int)=(i:Int)+1)=false:=RL (by omega);have ea:Ru (0+es.length) (es++tl).length=true:=RK (by simp);have hj:((i:Int)+1).toNat=i+1:=by omega
  have hk:i+1 - i=1:=by omega
  have al:mT (es++tl) (0+i) (es.drop (i+1)++[z])=(es.take i++es.drop (i+1))++(z::tl):=by
   unfold mT;rw[Px,List.take_append_of_le_length (by omega)]
   have:i+(es.drop (i+1)++[z]).length=es.length+0:=by simp only[OC,PQ,OQ,Pf];omega
   rw[this,List.drop_length_add_append];simp
  refine⟨.sl a ver n 0 (es.length - 1),⟨S.next,S.heap.put a (.row ver n ((es.take i++es.drop (i+1))++(z::tl)))⟩,?_,x.set p1 p2 w _,⟨.inr ⟨a,ver,z::tl,by rw[ag],p1,p2,Ox _ _ _ trivial⟩,hlen⟩⟩;unfold tG;simp only[he,e1,e2,e3,e4,e5,e6,Ul,QL,QF,hz,bk,aF p3,SS,ea,Rn,Rh,Tk,a3,PW,Pn,hj,hk,List.replicate_one,al]
end Go.AM
namespace Go.AM
theorem Ext.newAt{S:St}{k:Nat}(hk:S.heap.get k=OG)(di:k<S.next)(b:Blk):Ext S ⟨S.next,S.heap.put k b⟩:=by
 refine⟨λa d hd=>?_,Ov _,λw a d hd=>?_⟩
 ·show(S.heap.put k _).get a=Ot d;rw[OJ _ _ _ _ trivial (λe=>by rw[e,hk] at hd;cases hd)];exact hd
 ·have fe:(S.heap.put k b).get a=Ot d:=hd;rw[VI _ _ _ _ trivial] at fe;split at fe
  ·show a<S.next;omega
  ·exact w a d fe
end Go.AM
namespace Go.AM
theorem Own.other{S0 S S':St}{n:Nat}{v:V}{es:On (On V)}(h:Own S0 S n v es)(hn:S.next<=S'.next)(hg:∀a ver m,v=.sl a ver n 0 m->S'.heap.get a=S.heap.get a):Own S0 S' n v es:=by
 refine⟨?_,h.len⟩;rcases h.is with h1 | ⟨a,ver,tl,h1,h2,h3,h4⟩
 ·exact .inl h1
 ·exact .inr ⟨a,ver,tl,h1,h2,RE h3 hn,by rw[hg a ver _ h1];exact h4⟩
theorem Own.setK{S0 S:St}{n:Nat}{v:V}{es:On (On V)}(h:Own S0 S n v es)(x:Ext S0 S)(w:WF S0){i:Nat}{cs:On V}(hi:es[i]?=Ot cs)(k:Qa):
  ∃a ver,v=.sl a ver n 0 es.length/\S0.next<=a/\a<S.next/\fV n v (.int k (i:Int))=.ok (.ptr a ver i 0)/\At S (.ptr a ver i 0) cs /\
   ∀(j m:Nat) (u:V),u.cells.length=m->aH u.cells=OB->j+m<=n->∃S',eL m (.ptr a ver i j) u S=.ok S'/\Ext S0 S'/\S'.next=S.next/\Own S0 S' n v (es.set i (splice cs j u.cells))/\(∀y,y≠a->S'.heap.get y=S.heap.get y)/\(WF S->WF S'):=by
 have ai:i<es.length:=(Oq.1 hi).1;rcases h.is with ⟨rfl,rfl⟩ | ⟨a,ver,tl,rfl,q1,q2,q3⟩
 ·simp at ai
 ·obtain⟨p,hp,em,ce⟩:=h.set x w hi k;have Ft:p=.ptr a ver (0+i) 0:=by
   simp only[fV,gA ai,Oy] at hp;cases hp;rfl
  subst Ft;rw[Px] at hp em ce;refine⟨a,ver,rfl,q1,q2,hp,em,λj m u hu ho hj=>?_⟩;obtain⟨S',t1,t2,t3,t4,_⟩:=ce j m u hu ho hj;have Ak:eL m (.ptr a ver i j) u S=.ok S':=by
   have:adv j (.ptr a ver i 0)=.ptr a ver i j:=by simp only[adv,Px]
   rw[<-this];exact t1
  have ul:∃b,S'=⟨S.next,S.heap.put a b⟩:=by
   have hg:(es++tl)[i]?=Ot cs:=by rw[Pr ai];exact hi
   simp only[eL,aF q3,hg] at Ak;split at Ak
   ·cases Ak;exact⟨_,rfl⟩
   ·cases Ak
  obtain⟨b,rfl⟩:=ul;refine⟨_,Ak,t2,rfl,t4,λy hy=>OJ _ _ _ _ trivial hy,λww y d hd=>?_⟩;have fe:(S.heap.put a b).get y=Ot d:=hd;rw[VI _ _ _ _ trivial] at fe;split at fe
  ·show y<S.next;omega
  ·exact ww y d fe
theorem bBk{S:St}{a ver n:Nat}{el:On (On V)}(h:aC S a ver=.ok (n,el)):S.heap.get a=Ot (.row ver n el):=by
 unfold aC at h;split at h
 ·rename_i v es elems hg;rw[cond_eq_ite] at h;split at h
  ·rename_i hb
   have:=Qv hb
   cases h;subst this;exact hg
  ·cases h
 ·cases h
end Go.AM
end
section
namespace Go.AM
structure D (b:Nat) (S S':St):Prop where
 next:S.next<=S'.next
 dead:∀a,a<b->S.heap.get a=OG->S'.heap.get a=OG
section
variable{P:OI}{b:Nat}{S S':St}{fr:Ow Nat}
end
end Go.AM
namespace Go.AM
end Go.AM
end
section
namespace Go.AM
section
section
variable{P:OI}{pl:kA}{lv:bJa}
end
theorem Sl.nilv(S:St)(n:Nat):Sl S n .nils []:=⟨.inl ⟨rfl,rfl⟩,λ_ h=>by cases h⟩
def blkOf:V->Ow Nat
 | .sl a _ _ _ _=>Ot a
 | _=>OG
theorem cE{S0 S:St}{n:Nat}{v:V}{es:On (On V)}(h:Own S0 S n v es){y:Nat}(hy:blkOf v=Ot y):S0.next<=y/\y<S.next:=by
 rcases h.is with ⟨e1,_⟩ | ⟨a,ver,tl,e1,e2,e3,_⟩
 ·rw[e1] at hy;cases hy
 ·rw[e1] at hy;cases hy;exact⟨e2,e3⟩
theorem Own.same{S0 S S':St}{n:Nat}{v:V}{es:On (On V)}(h:Own S0 S n v es)(hn:S.next<=S'.next)(hg:∀a,blkOf v=Ot a->S'.heap.get a=S.heap.get a):Own S0 S' n v es:=
 h.other hn λa ver m hv=>hg a (by rw[hv];rfl)
theorem Own.pushAt{S0 S:St}{n b:Nat}{v:V}{es:On (On V)}(h:Own S0 S n v es)(x:Ext S0 S)(w:WF S0){u:V}{cs:On (On V)}(hu:aK S u=.ok cs)(hc:∀c,c∈cs->c.length=n/\aH c=OB)(ah:cs≠[])
  {k:Nat} (hk:S0.next<=k) (di:k<S.next) (wk:S.heap.get k=OG)
  (h1:(es.length+cs.length)*b<=35184372088832) (h2:es.length+cs.length<eG):∃v' S',eC n b v u (Ot k) S=.ok (v',S')/\Ext S0 S'/\S'.next=S.next/\Own S0 S' n v' (es++cs)/\(blkOf v'=Ot k\/blkOf v'=blkOf v)/\∀y,y≠k->blkOf v≠Ot y->S'.heap.get y=S.heap.get y:=by
 obtain⟨a1,a2⟩:=cU hc;have hlen:∀c,c∈es++cs->c.length=n/\aH c=true:=λc hm=>(Qf.1 hm).elim (h.len c) (hc c);rcases h.is with ⟨rfl,rfl⟩ | ⟨a,ver,tl,rfl,q1,q2,q3⟩
 ·cases cs with
  | nil=>exact absurd rfl ah
  | cons c cs=>
   refine⟨.sl k 0 n 0 (c::cs).length,⟨S.next,S.heap.put k (.row 0 n (c::cs))⟩,?_,x.trans (Ext.newAt wk di _),rfl,⟨.inr ⟨k,0,[],rfl,hk,di,?_⟩,hlen⟩,.inl rfl,λy hy _=>OJ _ _ _ _ trivial hy⟩
   ·simp only[Pf,Px] at h1 h2;simp only[eC,hu,a1,a2,and_self,Oy,h1,h2,xB]
   ·rw[OS];exact Ox _ _ _ trivial
 ·have hb:0+es.length<=es.length+tl.length:=by omega
  refine⟨.sl a (ver+1) n 0 (es++cs).length,⟨S.next,S.heap.put a (.row (ver+1) n (es++cs))⟩,?_,x.set q1 q2 w _,rfl,⟨.inr ⟨a,ver+1,[],rfl,q1,q2,?_⟩,hlen⟩,.inr rfl,λy _ hy=>OJ _ _ _ _ trivial (λe=>hy (by rw[e];rfl))⟩
  ·simp only[eC,hu,a1,a2,and_self,Oy,aF q3,hb,h1,h2,Rh,Tk,OC]
  ·rw[OS];exact Ox _ _ _ trivial
theorem vb{S:St}(w:WF S)(n:Nat)(zs:On V)(x:V)(hz:zs.length=n)(hx:x.cells.length=n)(ho:aH x.cells=OB):
  ∃S1 S2,bR OG S (.row 0 n [zs])=.ok (S.next,S1)/\eL n (.ptr S.next 0 0 0) x S1=.ok S2/\Ext S S2/\S2.heap.get S.next=Ot (.row 0 n [x.cells])/\S2.next=S.next+1:=
 ⟨_,_,dX ..,aTo S n zs x hz hx ho,Ext.var w n zs x.cells,bBk (bBj S n zs x.cells),rfl⟩
theorem Own.pushG{S0 S:St}{n b:Nat}{v:V}{es:On (On V)}(h:Own S0 S n v es)(x:Ext S0 S)(w:WF S0){u:V}{cs:On (On V)}(hu:aK S u=.ok cs)(hc:∀c,c∈cs->c.length=n/\aH c=OB)(ah:cs≠[])
  (h1:(es.length+cs.length)*b<=35184372088832) (h2:es.length+cs.length<eG):∃v' S',eC n b v u OG S=.ok (v',S')/\Ext S0 S'/\Own S0 S' n v' (es++cs)/\(blkOf v'=Ot S.next\/blkOf v'=blkOf v)/\(∀y,y<S.next->blkOf v≠Ot y->S'.heap.get y=S.heap.get y)/\S.next<=S'.next:=by
 obtain⟨a1,a2⟩:=cU hc;have hlen:∀c,c∈es++cs->c.length=n/\aH c=true:=λc hm=>(Qf.1 hm).elim (h.len c) (hc c);rcases h.is with ⟨rfl,rfl⟩ | ⟨a,ver,tl,rfl,q1,q2,q3⟩
 ·cases cs with
  | nil=>exact absurd rfl ah
  | cons c cs=>
   refine⟨.sl S.next 0 n 0 (c::cs).length,⟨S.next+1,S.heap.put S.next (.row 0 n (c::cs))⟩,?_,x.trans (Ext.new (x.wf w) _),⟨.inr ⟨S.next,0,[],rfl,x.next,Qb _,?_⟩,hlen⟩,.inl rfl,λy hy _=>OJ _ _ _ _ trivial (by omega),PX _⟩
   ·simp only[Pf,Px] at h1 h2;simp only[eC,hu,a1,a2,and_self,Oy,h1,h2,dX]
   ·rw[OS];exact Ox _ _ _ trivial
 ·have hb:0+es.length<=es.length+tl.length:=by omega
  refine⟨.sl a (ver+1) n 0 (es++cs).length,⟨S.next,S.heap.put a (.row (ver+1) n (es++cs))⟩,?_,x.set q1 q2 w _,⟨.inr ⟨a,ver+1,[],rfl,q1,q2,?_⟩,hlen⟩,.inr rfl,λy _ hy=>OJ _ _ _ _ trivial (λe=>hy (by rw[e];rfl)),Ov _⟩
  ·simp only[eC,hu,a1,a2,and_self,Oy,aF q3,hb,h1,h2,Rh,Tk,OC]
  ·rw[OS];exact Ox _ _ _ trivial
mutual
theorem aC1:∀v:V,gW v v=OB
 | .bool b=>by simp[gW]
 | .int k n=>by simp[gW,dK]
 | .str s=>by rw[gW];rw[eB];simp
 | .nilp=>rfl
 | .ptr a b c d=>by simp[gW]
 | .iptr a b=>by simp[gW,beqVs_refl a]
 | .nils=>rfl
 | .sl a b c d f=>by simp[gW]
 | .imm a=>by simp[gW,beqVss_refl a]
 | .agg a=>by simp[gW,beqVs_refl a]
 | .tup a=>by simp[gW,beqVs_refl a]
 | .nili=>rfl
 | .iface t a=>by simp[gW,aC1 a]
 | .nilf=>rfl
 | .func f a b=>by simp[gW,beqVs_refl a,beqVs_refl b]
 | .nilm=>rfl
 | .mp a=>by simp[gW]
 | .res a b=>by simp[gW]
theorem beqVs_refl:∀l:On V,beqVs l l=OB
 | []=>rfl
 | a::l=>by simp[beqVs,aC1 a,beqVs_refl l]
theorem beqVss_refl:∀l:On (On V),beqVss l l=OB
 | []=>rfl
 | a::l=>by simp[beqVss,beqVs_refl a,beqVss_refl l]
end
end
section
mutual
def nK:V->Ps
 | .ptr _ _ _ _=>OA
 | .nils=>OA
 | .sl _ _ _ _ _=>OA
 | .agg cs=>cloVs cs
 | .tup cs=>cloVs cs
 | .iface _ v=>nK v
 | .func _ a b=>cloVs a&&cloVs b
 | .mp _=>OA
 | _=>OB
def cloVs:On V->Ps
 | []=>OB
 | v::l=>nK v&&cloVs l
end
mutual
theorem mV{ρ:Nat->Ow Nat}{σ:V->R V}:∀(v:V),nK v=OB->cP ρ σ v=.ok v
 | .bool _,_ | .int _ _,_ | .str _,_ | .nilp,_ | .iptr _ _,_ | .imm _,_ | .nili,_ | .nilf,_ | .nilm,_ | .res _ _,_=>rfl
 | .agg cs,h=>by simp only[cP,clo_frzs cs h]
 | .tup cs,h=>by simp only[cP,clo_frzs cs h]
 | .iface t v,h=>by simp only[cP,mV v h]
 | .func f a b,h=>by
  simp only[nK,OU] at h;simp only[cP,clo_frzs a h.1,clo_frzs b h.2]
theorem clo_frzs{ρ:Nat->Ow Nat}{σ:V->R V}:∀(l:On V),cloVs l=OB->Sm ρ σ l=.ok l
 | [],_=>rfl
 | v::l,h=>by
  simp only[cloVs,OU] at h;simp only[Sm,mV v h.1,clo_frzs l h.2]
end
mutual
theorem xF:∀(v:V),nK v=OB->pJ v=[]
 | .bool _,_ | .int _ _,_ | .str _,_ | .nilp,_ | .iptr _ _,_ | .imm _,_ | .nili,_ | .nilf,_ | .nilm,_ | .res _ _,_=>rfl
 | .agg cs,h=>clo_ptrs cs h
 | .tup cs,h=>clo_ptrs cs h
 | .iface t v,h=>xF v h
 | .func f a b,h=>by
  simp only[nK,OU] at h;simp only[pJ,clo_ptrs a h.1,clo_ptrs b h.2,OS]
theorem clo_ptrs:∀(l:On V),cloVs l=OB->TC l=[]
 | [],_=>rfl
 | v::l,h=>by
  simp only[cloVs,OU] at h;simp only[TC,xF v h.1,clo_ptrs l h.2,OS]
end
mutual
theorem zG{τ:V->On Nat}:∀(v:V),nK v=OB->fF τ v=[]
 | .bool _,_ | .int _ _,_ | .str _,_ | .nilp,_ | .iptr _ _,_ | .imm _,_ | .nili,_ | .nilf,_ | .nilm,_ | .res _ _,_=>rfl
 | .agg cs,h=>clo_sls cs h
 | .tup cs,h=>clo_sls cs h
 | .iface t v,h=>zG v h
 | .func f a b,h=>by
  simp only[nK,OU] at h;simp only[fF,clo_sls a h.1,clo_sls b h.2,OS]
theorem clo_sls{τ:V->On Nat}:∀(l:On V),cloVs l=OB->TM τ l=[]
 | [],_=>rfl
 | v::l,h=>by
  simp only[cloVs,OU] at h;simp only[TM,zG v h.1,clo_sls l h.2,OS]
end
theorem aF8:aGs []=kP:=by funext i;cases i<;>rfl
theorem vS(l:On Nat):(l.any λa=>QI a 0)=false:=by
 rw[UC];intro a _;simp
def eX(S:St)(v:V):R V:=cP kP (kV (iS S 3) S) v
theorem aW3{run:On V->St->R (V×St)}{args:On V}(hc:cloVs args=OB){S S0:St}{v0 v:V}(h:run args ⟨0,.nil⟩=.ok (v0,S0))(ho:eX S0 v0=.ok v):vG run args S=.ok (v,S):=by
 unfold vG;have h1:jH (TC args)=[]:=by rw[clo_ptrs args hc];rfl
 have h2:TM (jS (iA S 3) S) args=[]:=clo_sls args hc;have Fl:cP (aGs []) (kV (iS S0 3) S0) v0=.ok v:=by rw[aF8];exact ho
 rw[h1,h2];simp only[clo_frzs args hc,gP,cZ,OS,SZ,QF,Pf,vF,h,Fl,qH,vS];cases jG v&&pK []<;>rfl
section
variable{P:OI}{pl:kA}
def W(P:OI)(pl:kA):aL:=λf args S K=>∃v S',Evt (λk=>fG P pl k f args S) (v,S')/\K v S'
theorem aM8:qT (fG P pl) (W P pl):=λf args S K h=>h
theorem aF9{f:PU}{args:On V}{S S':St}{v:V}(h:Evt (λk=>fG P pl k f args S) (v,S'))(K:KW):W P pl f args S K=K v S':=by
 refine propext ⟨?_,λh1=>⟨v,S',h,h1⟩⟩;rintro⟨v1,S1,h1,h2⟩;cases h.eq h1;exact h2
theorem lR{f:PU}{args:On V}{S:St}{r:V×St}(h:Evt (λk=>fG P pl (k+1) f args S) r):Evt (λk=>fG P pl k f args S) r:=by
 obtain⟨N,h⟩:=h;refine⟨N+1,λk hk=>?_⟩;obtain⟨k,rfl⟩:∃m,k=m+1:=⟨k - 1,by omega⟩;exact h k (by omega)
theorem aOi{f:PU}{p:Nat->Ow (On bY)}(bc:pl f=Ot (.code p)){lv:Nat->On Nat}{args:On V}{S:St}{K:KW}(h:dR P (W P pl) p lv f args S K):W P pl f args S K:=by
 obtain⟨v,S',h1,h2⟩:=jM aM8 h;exact⟨v,S',lR (h1.one λk h1=>by simp only[fG,bc];exact h1),h2⟩
theorem aOj{f:PU}{g:On V->St->R (V×St)}(bc:pl f=Ot (.spec g)){args:On V}{S S':St}{v:V}(h:g args S=.ok (v,S'))(K:KW):W P pl f args S K=K v S':=
 aF9 (lR (.of λk=>by simp only[fG,bc,h])) K
def Fn(P:OI)(pl:kA)(f:PU)(args:On V)(v:V):Prop:=∀S,Evt (λk=>fG P pl k f args S) (v,S)
theorem Fn.eq{f:PU}{args:On V}{v:V}(h:Fn P pl f args v)(S:St)(K:KW):W P pl f args S K=K v S:=aF9 (h S) K
theorem Fn.of{f:PU}{p:Nat->Ow (On bY)}(bc:pl f=Ot (.val p)){lv:Nat->On Nat}{args:On V}{v:V}(hc:cloVs args=OB)
  (h:dR P (W P pl) p lv f args ⟨0,.nil⟩ λv0 S0=>eX S0 v0=.ok v):Fn P pl f args v:=by
 obtain⟨v0,S0,h1,h2⟩:=jM aM8 h
 exactλS=>lR (h1.one λk h1=>by simp only[fG,bc];exact aW3 hc h1 h2)
structure Pt (mk:Nat->On V):Prop where
 ptr:∀a,jH (TC (mk a))=[a]
 frz:∀a σ,Sm (λb=>uS b 0 [a]) σ (mk a)=.ok (mk 0)
 sls:∀a τ,TM τ (mk a)=[]
theorem Pt.head{ver i j:Nat}{args:On V}(hc:cloVs args=OB):Pt λa=>.ptr a ver i j::args:=
 ⟨λa=>by simp only[TC,pJ,clo_ptrs args hc];rfl,λa σ=>by simp only[Sm,cP,uS,SS,PW,clo_frzs args hc],λa τ=>by simp only[TM,fF,clo_sls args hc,OS]⟩
theorem Pt.next{v:V}{mk:Nat->On V}(hv:nK v=OB)(h:Pt mk):Pt λa=>v::mk a:=
 ⟨λa=>by simp only[TC,xF v hv,Pp];exact h.ptr a,λa σ=>by simp only[Sm,mV v hv,h.frz],λa τ=>by simp only[TM,zG v hv,h.sls,OS]⟩
theorem Pt.func{f:PU}{ver i j:Nat}{args:On V}(hc:cloVs args=OB):Pt λa=>.func f [] [.ptr a ver i j]::args:=
 ⟨λa=>by simp only[TC,pJ,clo_ptrs args hc];rfl,λa σ=>by simp only[Sm,cP,uS,SS,PW,clo_frzs args hc],λa τ=>by simp only[TM,fF,clo_sls args hc,OS]⟩
def FnR(P:OI)(pl:kA)(f:PU)(mk:Nat->On V)(ver n:Nat)(pre:On (On V))(v:V)(post:On (On V)):Prop:=
 ∀S a,S.heap.get a=Ot (.row ver n pre)->Evt (λk=>fG P pl k f (mk a) S) (v,⟨S.next,S.heap.put a (.row ver n post)⟩)
theorem aQa{φ:On V->R (On V)}:∀{l:On (On V)},(∀x,x∈l->φ x=.ok x)->kU φ l=.ok l
 | [],_=>rfl
 | x::l,h=>by simp only[kU,h x (Ph ..),aQa λy hy=>h y (OY _ hy)]
theorem aM9{φ:On V->On Nat}:∀{l:On (On V)},(∀x,x∈l->φ x=[])->lK φ l=[]
 | [],_=>rfl
 | x::l,h=>by simp only[lK,h x (Ph ..),aM9 λy hy=>h y (OY _ hy),OS]
theorem bBl{S:St}{n:Nat}{x:On V}(h:cloVs x=OB):iS S (n+1) x=.ok x:=clo_frzs x h
theorem bBm{S:St}{n:Nat}{x:On V}(h:cloVs x=OB):iA S (n+1) x=[]:=clo_sls x h
theorem fK{S:St}{n:Nat}{l:On (On V)}(h:l.all cloVs=OB):kU (iS S (n+1)) l=.ok l/\lK (iA S (n+1)) l=[]:=
 ⟨aQa λx hx=>bBl (PD.1 h x hx),aM9 λx hx=>bBm (PD.1 h x hx)⟩
theorem aW4{run:On V->St->R (V×St)}{mk:Nat->On V}(hm:Pt mk){a ver n:Nat}{pre post um:On (On V)}(hp:pre.all cloVs=OB){S S0:St}{v0 v:V}(hS:S.heap.get a=Ot (.row ver n pre))
  (h:run (mk 0) ⟨1,Tr.nil.put 0 (.row ver n pre)⟩=.ok (v0,S0)) (ho:∀ρ,cP ρ (kV (iS S0 3) S0) v0=.ok v) (hs:(fF (jS (iA S0 3) S0) v0).any (λa=>QI a 1)=OA) (h0:S0.heap.get 0=Ot (.row ver n um)) (hq:kU (iS S0 3) um=.ok post)
  (yb:(lK (iA S0 3) um).any (λa=>QI a 1)=OA):vG run (mk a) S=.ok (v,⟨S.next,S.heap.put a (.row ver n post)⟩):=by
 unfold vG;obtain⟨q1,q2⟩:=fK (S:=S) (n:=2) hp;rw[hm.ptr,hm.sls];have hA:([]++cZ S [a])=[]:=by simp only[cZ,hS,q2,OS]
 have hB:(fF (jS (iA S0 3) S0) v0++cZ S0 (qH 0 1)).any (λa=>QI a 1)=false:=by
  simp only[qH,cZ,h0,OS,List.any_append,hs,yb,Ul]
 rw[hA];simp only[hm.frz,gP,hS,q1,SZ,QF,OQ,Pf,Px,vF,h,ho,hB,nR]
 have:gP S0 (qH 0 1)=.ok [(ver,n,post)]:=by simp only[qH,gP,h0,hq]
 rw[this];simp only[rQ,nR];cases jG v&&pK [(ver,n,post)]<;>rfl
theorem FnR.of{f:PU}{p:Nat->Ow (On bY)}(bc:pl f=Ot (.val p)){lv:Nat->On Nat}{mk:Nat->On V}(hm:Pt mk){ver n:Nat}{pre post:On (On V)}{v:V}(hp:pre.all cloVs=OB)
  (h:dR P (W P pl) p lv f (mk 0) ⟨1,Tr.nil.put 0 (.row ver n pre)⟩ λv0 S0=>v0=v/\S0.heap.get 0=Ot (.row ver n post)) (hv:nK v=OB) (hq:post.all cloVs=OB):FnR P pl f mk ver n pre v post:=by
 obtain⟨v0,S0,h1,rfl,h2⟩:=jM aM8 h;intro S a hS;obtain⟨q1,q2⟩:=fK (S:=S0) (n:=2) hq;refine lR (h1.one λk h1=>?_);simp only[fG,bc];exact aW4 hm hp hS h1 (λρ=>mV v0 hv) (by rw[zG v0 hv];rfl) h2 q1 (by rw[q2];rfl)
theorem FnR.eq{f:PU}{mk:Nat->On V}{ver n:Nat}{pre post:On (On V)}{v:V}(h:FnR P pl f mk ver n pre v post){S:St}{a:Nat}(hS:S.heap.get a=Ot (.row ver n pre))(K:KW):
 W P pl f (mk a) S K=K v ⟨S.next,S.heap.put a (.row ver n post)⟩:=aF9 (h S a hS) K
theorem aFa{α:Type}:∀(f:Nat) (t:Tr α) (n:Nat) (x:α),t.get n=Ot x->Tr.set f t n x=t
 | 0,t,n,x,_=>rfl
 | f+1,.nil,n,x,h=>by cases h
 | f+1,.node l v r,n,x,h=>by
  rw[Tr.get_node] at h;simp only[Tr.set,cond_eq_ite,QE];by_cases h0:n=0
  ·rw[OE h0] at h|-;rw[h]
  ·rw[Oz h0] at h|-
   by_cases h1:n % 2=1
   ·rw[OE h1] at h|-;rw[aFa f l _ _ h]
   ·rw[Oz h1] at h|-;rw[aFa f r _ _ h]
theorem aW5{t:Tr Blk}{n:Nat}{x:Blk}(h:t.get n=Ot x):t.put n x=t:=aFa _ t n x h
theorem FnR.eq_same{f:PU}{mk:Nat->On V}{ver n:Nat}{pre:On (On V)}{v:V}(h:FnR P pl f mk ver n pre v pre){S:St}{a:Nat}(hS:S.heap.get a=Ot (.row ver n pre))(K:KW):W P pl f (mk a) S K=K v S:=by
 rw[h.eq hS K,aW5 hS]
theorem aW6{run:On V->St->R (V×St)}{args bs:On V}{S:St}(hb:Sm kP (kV (iS S 3) S) args=.ok bs)(hp:TC args=[]){S0:St}{v0 v:V}(h:run bs ⟨0,.nil⟩=.ok (v0,S0))(ho:eX S0 v0=.ok v)
  (hk:jG v=OB\/TM (jS (iA S 3) S) args=[]):vG run args S=.ok (v,S):=by
 unfold vG;have h1:jH (TC args)=[]:=by rw[hp];rfl
 have Fl:cP (aGs []) (kV (iS S0 3) S0) v0=.ok v:=by rw[aF8];exact ho
 have hi:(λa=>uS a 0 ([]:On Nat))=kP:=rfl;have hh:∀l:On Nat,(l.any λa=>iT a [])=false:=by intro l;rw[UC];intro a _;simp[iT]
 rw[h1];simp only[hi,hb,gP,cZ,hh,QF,Pf,vF,h,Fl,qH,vS,OS];rcases hk with hk | hk
 ·rw[hk];rfl
 ·rw[hk];cases jG v&&pK []<;>rfl
theorem Fn.frz{f:PU}{bs:On V}{v:V}(h:Fn P pl f bs v){p:Nat->Ow (On bY)}(bc:pl f=Ot (.val p))(hc:cloVs bs=OB){args:On V}{S:St}(hb:Sm kP (kV (iS S 3) S) args=.ok bs)(hp:TC args=[])(hk:jG v=OB\/TM (jS (iA S 3) S) args=[])
  (K:KW):W P pl f args S K=K v S:=by
 refine aF9 ?_ K;obtain⟨N,h⟩:=h ⟨0,.nil⟩;refine⟨N+1,λk dl=>?_⟩;obtain⟨k,rfl⟩:∃m,k=m+1:=⟨k - 1,by omega⟩
 have:=h (k+1) (by omega)
 simp only[fG,bc] at this|-
 unfold vG at this;have e1:jH (TC bs)=[]:=by rw[clo_ptrs bs hc];rfl
 have e2:TM (jS (iA (⟨0,.nil⟩:St) 3) ⟨0,.nil⟩) bs=[]:=clo_sls bs hc;rw[e1,e2] at this;simp only[clo_frzs bs hc,gP,cZ,OS,SZ,QF,Pf,vF,qH,vS] at this;split at this
 ·cases this
 ·rename_i v0 S0 az;split at this
  ·cases this
  ·rename_i v' ft;have hv:v'=v:=(Prod.mk.inj (SL this)).1;subst hv;rw[aF8] at ft;exact aW6 hb hp az ft hk
def vT(mask:On Nat)(v:V)(S2:St)(S:St):R (V×St):=match aDf S2 mask 0 S.next v.cells with
 | .error e=>.error e
 | .ok r=>match gP S2 r.2 with
  | .error e=>.error e
  | .ok rows=>match tM v r.1 with
   | .error e=>.error e
   | .ok v'=>bif aHj r.2&&!(yP S2 mask 0 v.cells++cZ S2 r.2).any (λa=>iT a r.2) then .ok (v',⟨S.next+r.2.length,nR (qH S.next r.2.length) rows S.heap⟩) else .error "blocks"
theorem bJj{f:PU}{p:Nat->Ow (On bY)}{mask:On Nat}(bc:pl f=Ot (.own p mask))(hm:iT kpN mask=OA){lv:Nat->On Nat}{args:On V}(hc:cloVs args=OB){S:St}{K:KW}
  (h:dR P (W P pl) p lv f args ⟨0,.nil⟩ λv0 S0=>wR (vT mask v0 S0 S) λr=>K r.1 r.2):W P pl f args S K:=by
 obtain⟨v0,S0,h1,h2⟩:=jM aM8 h;obtain⟨r,h3,h4⟩:=cQ h2;refine⟨r.1,r.2,lR (h1.one λk h1=>?_),h4⟩;simp only[fG,bc];unfold aNv aVe;rw[hm];have e2:TM (jS (iA S 3) S) args=[]:=clo_sls args hc;simp only[QF,clo_frzs args hc,h1,e2,rQ];exact h3
def FnK(P:OI)(pl:kA)(f:PU)(bs:On V)(v:V):Prop:=∀(S:St) (args:On V),Sm kP (kV (iS S 3) S) args=.ok bs->Evt (λk=>fG P pl k f args S) (v,S)
theorem FnK.of{f:PU}{p:Nat->Ow (On bY)}(bc:pl f=Ot (.own p [kpN])){lv:Nat->On Nat}{bs:On V}{v:V}
  (h:dR P (W P pl) p lv f bs ⟨0,.nil⟩ λv0 S0=>aEl S0 v0=OB/\eX S0 v0=.ok v):FnK P pl f bs v:=by
 obtain⟨v0,S0,h1,h2,h3⟩:=jM aM8 h;intro S args hb;refine lR (h1.one λk h1=>?_);simp only[fG,bc];have h3:cP kP (kV (iS S0 3) S0) v0=.ok v:=h3;have hm:iT kpN [kpN]=true:=rfl;unfold aNv aLc;simp only[hm,PW,hb,h1,h3,h2]
theorem FnK.frz{f:PU}{bs:On V}{v:V}(h:FnK P pl f bs v){S:St}{args:On V}(hb:Sm kP (kV (iS S 3) S) args=.ok bs)(K:KW):W P pl f args S K=K v S:=aF9 (h S args hb) K
theorem FnK.eq{f:PU}{bs:On V}{v:V}(h:FnK P pl f bs v)(hc:cloVs bs=OB)(S:St)(K:KW):W P pl f bs S K=K v S:=aF9 (h S bs (clo_frzs bs hc)) K
theorem bHq{f:PU}{args:On V}{S:St}{K:KW}(h:W P pl f args S K):∃k v S',K v S'/\fG P pl k f args S=.ok (v,S'):=by
 obtain⟨v,S',⟨N,h⟩,k⟩:=h;exact⟨N,v,S',k,h N (Ov _)⟩
theorem aI1{F:On V->St->(On V->St->Prop)->Prop}(n:Nat)(I:Nat->On V->St->Prop)
  (h:∀i vs S,i<=n->I i vs S->∀aE:On V->St->Prop,(∀ia S',i<n->I (i+1) ia S'->aE ia S')->F vs S aE) {vs:On V} {S:St} (h0:I 0 vs S):iN vs S F:=by
 have:∀m i vs S,i+m=n->I i vs S->aCl (m+1) vs S F:=by
  intro m
  induction m with
  | zero=>intro i vs S hi hI;exact h i vs S (by omega) hI _ λia S' ag _=>by omega
  | succ m ih=>intro i vs S hi hI;exact h i vs S (by omega) hI _ λia S' ag un=>ih (i+1) ia S' (by omega) un
 exact⟨n+1,this n 0 vs S (by omega) h0⟩
theorem eH{F:On V->St->(On V->St->Prop)->Prop}(I:Nat->On V->St->Prop)
  (h:∀i vs S,I i vs S->∀aE:On V->St->Prop,(∀j ia S',j<i->I j ia S'->aE ia S')->F vs S aE) {n:Nat} {vs:On V} {S:St} (h0:I n vs S):iN vs S F:=by
 refine aI1 n (λi vs S=>∃j,j+i<=n/\I j vs S) ?_ ⟨n,by omega,h0⟩;rintro i vs S hi ⟨j,hj,hI⟩ aE ha;exact h j vs S hI aE λj' ia S' ag un=>ha ia S' (by omega) ⟨j',by omega,un⟩
theorem aG{F:On V->St->(On V->St->Prop)->Prop}{α σ ρ:Type}(l:On α){step:σ->α->ρ⊕σ}{fin:σ->ρ}(I:Nat->σ->On V->St->Prop)(E:ρ->Prop)
  (hs:∀i a s vs S,l[i]?=Ot a->I i s vs S->∀aE:On V->St->Prop,(match step s a with
   | .inl r=>E r
   | .inr s'=>∀ia S',I (i+1) s' ia S'->aE ia S')->F vs S aE)
  (he:∀s vs S,I l.length s vs S->∀aE:On V->St->Prop,E (fin s)->F vs S aE) {s:σ} {vs:On V} {S:St} (h0:I 0 s vs S) (hE:E (aD step fin l s)):iN vs S F:=by
 refine aI1 l.length (λi vs S=>∃s,I i s vs S/\E (aD step fin (l.drop i) s)) ?_ ⟨s,h0,hE⟩;rintro i vs S hi ⟨s,hI,hE⟩ aE ha;by_cases hl:i=l.length
 ·subst hl;rw[List.drop_length] at hE;exact he s vs S hI aE hE
 ·have ag:i<l.length:=by omega
  have qz:l[i]?=Ot l[i]:=List.getElem?_eq_getElem ag;rw[List.drop_eq_getElem_cons ag] at hE;refine hs i _ s vs S qz hI aE ?_;simp only[aD] at hE;split
  ·rename_i r hr;rw[hr] at hE;exact hE
  ·rename_i s' hr;rw[hr] at hE
   exactλia S' un=>ha ia S' ag ⟨s',un,hE⟩
end
end
section
theorem aMa{d t:Nat}(h:d≠t):Pw d t=false:=Bool.eq_false_iff.2 λh'=>h (Qv h')
theorem aW7{α:Type}{x y:R α}(K:α->Prop)(h:x=y):wR x K=wR y K:=by rw[h]
theorem aW8{α:Type}{x y:Ow α}(K:α->Prop)(h:x=y):wO x K=wO y K:=by rw[h]
theorem aTp{b c:Ps}(x:Prop)(h:b=c):wIf b x=wIf c x:=by rw[h]
theorem aMb{v w:V}(x y:Prop)(h:v=w):aN v x y=aN w x y:=by rw[h]
theorem aOk{v w:V}(i:Nat)(K:V->Prop)(h:v=w):fI v i K=fI w i K:=by rw[h]
theorem aTq{v w:On V}(K:V->On V->Prop)(h:v=w):vA v K=vA w K:=by rw[h]
theorem aOl{v w:V}(x:Prop)(h:v=w):uU v x=uU w x:=by rw[h]
theorem aMc{vs ws:On V}{S T:St}(F:On V->St->(On V->St->Prop)->Prop)(h:vs=ws)(g:S=T):iN vs S F=iN ws T F:=by rw[h,g]
theorem bBn(P:OI)(pl:kA)(f:PU){a b:On V}{S T:St}(K:KW)(h:a=b)(g:S=T):W P pl f a S K=W P pl f b T K:=by rw[h,g]
attribute [congr] bBn aW7 aW8 aTp aMb aOk aTq aOl aMc
def wG:On Qh->Nat->(Nat->Prop)->Prop
 | [],_,_=>False
 | o::_,0,K=>wO o.dst K
 | _::l,j+1,K=>wG l j K
def wI:On Qh->Nat->(Qh->Prop)->Prop
 | [],_,_=>False
 | o::_,0,K=>K o
 | _::l,j+1,K=>wI l j K
theorem aI2(K:Qh->Prop):∀(l:On Qh) (j:Nat),wO l.toArray[j]? K=wI l j K
 | [],j=>by simp[wO,wI]
 | o::l,0=>by simp[wO,wI]
 | o::l,j+1=>by rw[wI,<-aI2 K l j];simp
theorem aW9(K:Nat->Prop):∀(l:On Qh) (j:Nat),wO (pB l.toArray j) K=wG l j K
 | [],j=>by simp[wO,wG,pB]
 | o::l,0=>by simp[wG,pB]
 | o::l,j+1=>by rw[wG,<-aW9 K l j];simp[pB]
def hl{α:Type}(a:α):α:=a
theorem bDj{α:Type}(a:α):hl a=a:=Eq.trans rfl rfl
def wLn:On Qh->On Nat->Nat->(Nat->Prop)->Prop
 | [],[],i,K=>K i
 | [],k::_,i,K=>K k
 | _::l,[],i,K=>wLn l [] (i+1) K
 | _::l,_::ks,i,K=>wLn l ks (i+1) K
def zH:Nat->On Nat->Prop
 | _,[]=>True
 | i,k::l=>k=i/\zH (i+1) l
theorem aOm(K:Nat->Prop):∀(l:On Qh) (ks:On Nat) (i:Nat),zH i ks->wLn l ks i K=K (i+l.length)
 | [],[],i,h=>rfl
 | [],k::ks,i,h=>by rw[wLn,h.1];rfl
 | o::l,[],i,h=>by rw[wLn,aOm K l [] (i+1) trivial];congr 1;simp;omega
 | o::l,k::ks,i,h=>by rw[wLn,aOm K l ks (i+1) h.2];congr 1;simp;omega
def wLv:On (Nat×On Nat)->Nat->(On Nat->Prop)->Prop
 | [],_,K=>K []
 | (i,l)::r,j,K=>match Pw i j with
  | true=>K l
  | false=>wLv r j K
def dY:On (Nat×On Nat)->Nat->On Nat
 | [],_=>[]
 | (i,l)::r,j=>match Pw i j with
  | true=>l
  | false=>dY r j
theorem aOn(K:On Nat->Prop):∀(t:On (Nat×On Nat)) (j:Nat),wLv t j K=K (dY t j)
 | [],j=>rfl
 | (i,l)::r,j=>by
  simp only[wLv,dY,aOn K r j];cases Pw i j<;>rfl
theorem aTr{j k:Nat}(t:On (Nat×On Nat))(K:On Nat->Prop)(h:j=k):wLv t j K=wLv t k K:=by rw[h]
attribute [congr] aTr
def wSt:On (Nat×On bY)->Nat->(On bY->Prop)->Prop->Prop
 | [],_,_,x=>x
 | (i,l)::r,j,K,x=>match Pw i j with
  | true=>K l
  | false=>wSt r j K x
def dD(t:On (Nat×On bY))(id:Nat):Ow (On bY):=kC id t
section
variable(P:OI)(C:aL)(n:Nat)
def aAx(ops:Pa Qh)(base:Nat):On Qh->On Nat->Nat->On Nat->bD->St->oN->Prop
 | [],_,_,_,e,S,K=>K e S
 | o::l,[],i,sk,e,S,K=>mC P C n ops sk o (Ot (base+i)) e S λran _ e' S'=>aAx ops base l [] (i+1) (aAt ran i sk) e' S' K
 | o::l,k::ks,i,sk,e,S,K=>mC P C n ops sk o (Ot (base+k)) e S λran _ e' S'=>aAx ops base l ks (i+1) (aAt ran k sk) e' S' K
def aK3(ops:Pa Qh):On Qh->On Nat->Nat->On Nat->bD->St->oN->Prop
 | [],_,_,_,e,S,K=>K e S
 | o::l,[],i,sk,e,S,K=>mC P C n ops sk o OG e S λran _ e' S'=>aK3 ops l [] (i+1) (aAt ran i sk) e' S' K
 | o::l,k::ks,i,sk,e,S,K=>mC P C n ops sk o OG e S λran _ e' S'=>aK3 ops l ks (i+1) (aAt ran k sk) e' S' K
theorem qU{ops:Pa Qh}{sk:On Nat}{o:Qh}{fr:Ow Nat}{e:bD}{S:St}{K K':Ps->V->bD->St->Prop}(h:∀b v e S,K b v e S=K' b v e S):mC P C n ops sk o fr e S K=mC P C n ops sk o fr e S K':=by
 rw[show K=K' from funext λb=>funext λv=>funext λe=>funext λS=>h b v e S]
def tV:Nat->Nat->On bY
 | _,0=>[]
 | i,k+1=>(i,[])::tV (i+1) k
theorem aCs:∀(k i:Nat),tV i (k+1)=tV i k++[(i+k,[])]
 | 0,i=>rfl
 | k+1,i=>by
  rw[tV,aCs k (i+1),tV];simp only[List.cons_append,Nat.add_assoc,Nat.add_comm 1 k]
theorem aMe:∀k,aLb k=tV 0 k
 | 0=>rfl
 | k+1=>by rw[aLb,aMe k,aCs,Px]
theorem aFb(ops:Pa Qh)(base:Nat)(K:oN):∀(l:On Qh) (ks:On Nat) (i:Nat) (sk:On Nat) (recs:On uZ) (e:bD) (S:St),zH i ks->(∀k,ops[i+k]?=l[k]?)->uP P C n ops base (tV i l.length) sk recs e S K=aAx P C n ops base l ks i sk e S K
 | [],ks,i,sk,recs,e,S,_,h=>by cases ks<;>rfl
 | o::l,ks,i,sk,recs,e,S,hk,h=>by
  have h0:ops[i]?=Ot o:=h 0;cases ks with
  | nil=>
   simp only[OQ,tV,uP,aAx,h0,wO,tU];exact qU P C n λb v e S=>aFb ops base K l [] (i+1) _ _ e S trivial λk=>by have:=h (k+1);rw[show i+1+k=i+(k+1) by omega,this];simp
  | cons k ks=>
   obtain⟨rfl,hk⟩:=hk;simp only[OQ,tV,uP,aAx,h0,wO,tU];exact qU P C n λb v e S=>aFb ops base K l ks (k+1) _ _ e S hk λj=>by have:=h (j+1);rw[show k+1+j=k+(j+1) by omega,this];simp
theorem aK4(ops:Pa Qh)(K:oN):∀(l:On Qh) (ks:On Nat) (i:Nat) (sk:On Nat) (e:bD) (S:St),zH i ks->aOe P C n ops l i sk e S K=aK3 P C n ops l ks i sk e S K
 | [],ks,i,sk,e,S,_=>by cases ks<;>rfl
 | o::l,[],i,sk,e,S,hk=>by
  simp only[aOe,aK3];exact qU P C n λb v e S=>aK4 ops K l [] (i+1) _ e S trivial
 | o::l,k::ks,i,sk,e,S,hk=>by
  obtain⟨rfl,hk⟩:=hk;simp only[aOe,aK3];exact qU P C n λb v e S=>aK4 ops K l ks (k+1) _ e S hk
def aOp(id:Nat)(Kn:oN)(Kx:KXW):KXW:=λj e S=>match Pw j id with
 | true=>Kn e S
 | false=>Kx j e S
def bDk(p:Nat->Ow (On bY))(lv:Nat->On Nat)(a:ST)(e:bD)(Kx:KXW)(Kr:oN)(vs:On V)(S:St)(aE:On V->St->Prop):Prop:=
 aK2 (lv (bZ a)) vs (e.filt λt=>!oM a t) λe=>fJ P C n p lv a e S (λe S=>pP e (lv (bZ a)) λvs=>aE vs S) Kx Kr
end
section
variable{P:OI}{C:aL}{n:Nat}{tp:On (Nat×On bY)}{tl:On (Nat×On Nat)}
theorem aQb:(∀(e:bD) (t:Nat) (K:V->Prop),wO (ev e (.tmp t)) K=wO (e.get t) K)/\(∀(e:bD) (v:O') (K:V->Prop),wO (ev e (.const v)) K=wO (ofValue v) K)/\(∀(e:bD) (f:Nat) (K:V->Prop),wO (ev e (.func f)) K=K (.func f [] [])) /\
  (∀(e:bD) (t:Nat) (v:V) (K:V->Prop),wO ((e.put t v).get t) K=K v)/\(∀(b:Ps) (K:V->Prop),wO (ofValue (.bool b)) K=K (.bool b))/\(∀(k:Qa) (i:Int) (K:V->Prop),wO (ofValue (.int k i)) K=K (.int k i)) /\
  (∀(l:On OP) (K:V->Prop),wO (ofValue (.string ⟨l.toArray⟩)) K=K (.str l))/\(∀(K:V->Prop),wO (ofValue (.slice OG 0 0)) K=K .nils)/\(∀(K:V->Prop),wO (ofValue (.pointer OG)) K=K .nilp)/\(∀(K:V->Prop),wO (ofValue .nilIface) K=K .nili)/\(∀(K:V->Prop),wO (ofValue .nilFunc) K=K .nilf)/\(∀(K:V->Prop),wO (ofValue (.map OG)) K=K .nilm) /\
  (∀(l:On O') (K:V->Prop),wO (ofValue (.agg l.toArray)) K=wO (nQ l) λxs=>K (.agg xs))/\(∀(K:On V->Prop),wO (nQ []) K=K [])/\(∀(v:O') (l:On O') (K:On V->Prop),wO (nQ (v::l)) K=wO (sC v) λx=>wO (nQ l) λxs=>K (x::xs)) /\
  (∀(b:Ps) (K:V->Prop),wO (sC (.bool b)) K=K (.bool b))/\(∀(k:Qa) (i:Int) (K:V->Prop),wO (sC (.int k i)) K=K (.int k i))/\(∀(l:On OP) (K:V->Prop),wO (sC (.string ⟨l.toArray⟩)) K=K (.str l))/\(∀(K:V->Prop),wO (sC (.slice OG 0 0)) K=K .nils)/\(∀(K:V->Prop),wO (sC (.pointer OG)) K=K .nilp) /\
  (∀(e:bD) (K:On V->Prop),wO (tD (ev e) []) K=K [])/\(∀(e:bD) (x:Pj) (l:On Pj) (K:On V->Prop),wO (tD (ev e) (x::l)) K=wO (ev e x) λv=>wO (tD (ev e) l) λvs=>K (v::vs)) /\
  (∀(e:bD) (K:On (Nat×V)->Prop),wO (pI (ev e) []) K=K [])/\(∀(e:bD) (i:Nat) (x:Pj) (l:On (Nat×Pj)) (K:On (Nat×V)->Prop),wO (pI (ev e) ((i,x)::l)) K=wO (ev e x) λv=>wO (pI (ev e) l) λvs=>K ((i,v)::vs)) /\
  (∀(e:bD) (K:Ow V->Prop),wO (evO (ev e) OG) K=K OG)/\(∀(e:bD) (x:Pj) (K:Ow V->Prop),wO (evO (ev e) (Ot x)) K=wO (ev e x) λv=>K (Ot v)):=by
 refine⟨λ_ _ _=>rfl,λ_ _ _=>rfl,λ_ _ _=>rfl,λe t v K=>by rw[Ox _ _ _ trivial];rfl,λ_ _=>rfl,λ_ _ _=>rfl,λl K=>by simp[ofValue,sC,wO],λ_=>rfl,λ_=>rfl,λ_=>rfl,λ_=>rfl,λ_=>rfl,
  λl K=>?_,λ_=>rfl,λv l K=>?_,λ_ _=>rfl,λ_ _ _=>rfl,λl K=>by simp[sC,wO],λ_=>rfl,λ_=>rfl,λ_ _=>rfl,λe x l K=>?_,λ_ _=>rfl,λe i x l K=>?_,λ_ _=>rfl,λe x K=>?_⟩
 ·simp only[ofValue];cases nQ l<;>rfl
 ·simp only[nQ];cases sC v with
  | none=>rfl
  | some x=>cases nQ l<;>rfl
 ·simp only[tD];cases ev e x with
  | none=>rfl
  | some x=>cases tD (ev e) l<;>rfl
 ·simp only[pI];cases ev e x with
  | none=>rfl
  | some x=>cases pI (ev e) l<;>rfl
 ·simp only[evO];cases ev e x<;>rfl
theorem bDl{t d:Nat}(h:¬t=d)(e:bD)(v:V)(K:V->Prop):wO ((e.put d v).get t) K=wO (e.get t) K:=by rw[OJ _ _ _ _ trivial h]
theorem bJk{t d:Nat}(h:t<d)(e:bD)(v:V)(K:V->Prop):wO ((e.put d v).get t) K=wO (e.get t) K:=bDl (Tt h) e v K
theorem bDm{t d:Nat}(h:d<t)(e:bD)(v:V)(K:V->Prop):wO ((e.put d v).get t) K=wO (e.get t) K:=bDl (Tu h) e v K
def pL(l:On ST)(t:Nat):Bool:=l.any λa=>oM a t
def dL(l:On Qh)(r:On ST)(t:Nat):Bool:=aF3 l t||pL r t
theorem bBo(a:ST)(r:On ST)(t:Nat):pL (a::r) t=(oM a t||pL r t):=by simp[pL]
theorem aWa{a:ST}{t:Nat}(h:pL [a] t=OA)(e:bD)(K:V->Prop):wO ((e.filt λt=>!oM a t).get t) K=wO (e.get t) K:=by
 have h:oM a t=false:=by simpa[pL] using h
 rw[vQ,OE (by rw[h];rfl)]
theorem aQc:(∀t,pL [] t=OA)/\(∀(a b:ST) (r:On ST) (t:Nat),pL (.seq a b::r) t=pL (a::b::r) t)/\(∀(c:Pj) (a b:ST) (r:On ST) (t:Nat),pL (.cond c a b::r) t=pL (a::b::r) t)/\(∀(i:Nat) (a:ST) (r:On ST) (t:Nat),pL (.block i a::r) t=pL (a::r) t) /\
  (∀(a:ST) (r:On ST) (t:Nat),pL (.loop a::r) t=pL (a::r) t)/\(∀(r:On ST) (t:Nat),pL (.skip::r) t=pL r t)/\(∀(r:On ST) (t:Nat),pL (.ret::r) t=pL r t)/\(∀(i:Nat) (r:On ST) (t:Nat),pL (.exit i::r) t=pL r t)/\(∀(i:Nat) (r:On ST) (t:Nat),pL (.label i::r) t=pL r t) /\
  (∀(id:Nat) (l:On Qh) (d:Ps) (r:On ST) (t:Nat),pL (.region id l.toArray d::r) t=dL l r t)/\(∀(r:On ST) (t:Nat),dL [] r t=pL r t)/\(∀(op:Op) (ty:OH) (pos:Qq) (af:Pa Rt) (g:Ow (Nat×Ps)) (l:On Qh) (r:On ST) (t:Nat),dL (⟨OG,op,ty,pos,af,g⟩::l) r t=dL l r t):=by
 refine⟨λ_=>rfl,λa b r t=>?_,λc a b r t=>?_,λi a r t=>?_,λa r t=>?_,λr t=>?_,λr t=>?_,λi r t=>?_,λi r t=>?_,λid l d r t=>?_,λr t=>?_,λop ty pos af g l r t=>?_⟩
 all_goals simp only[bBo,oM,dL,aF3,UG,Bool.or_assoc]
theorem aWb{d t:Nat}(h:¬t=d)(op:Op)(ty:OH)(pos:Qq)(af:Pa Rt)(g:Ow (Nat×Ps))(l:On Qh)(r:On ST):dL (⟨Ot d,op,ty,pos,af,g⟩::l) r t=dL l r t:=by
 simp only[dL,aF3,aMa (SJ h),UG]
theorem bDn{d t:Nat}(h:t<d)(op:Op)(ty:OH)(pos:Qq)(af:Pa Rt)(g:Ow (Nat×Ps))(l:On Qh)(r:On ST):dL (⟨Ot d,op,ty,pos,af,g⟩::l) r t=dL l r t:=aWb (Tt h) ..
theorem aWc{d t:Nat}(h:d<t)(op:Op)(ty:OH)(pos:Qq)(af:Pa Rt)(g:Ow (Nat×Ps))(l:On Qh)(r:On ST):dL (⟨Ot d,op,ty,pos,af,g⟩::l) r t=dL l r t:=aWb (Tu h) ..end
def vU(P:OI)(u:OH):Bool:=match P.underlying u with
 | some (.slice _)=>OB
 | some .string=>OB
 | _=>OA
theorem aFc{α:Type}(x:Ow α){K K':α->Prop}(h:∀a,K a=K' a):wO x K=wO x K':=by rw[show K=K' from funext h]
theorem bBp(e:bD)(x:Pj)(K:On V->Prop):wO (tD (ev e) [x]) K=wO (ev e x) λv=>K [v]:=by simp only[tD];cases ev e x<;>rfl
theorem aQd(e:bD)(x y:Pj)(K:On V->Prop):wO (tD (ev e) [x,y]) K=wO (ev e x) λv=>wO (ev e y) λw=>K [v,w]:=by
 simp only[tD];cases ev e x with
 | none=>rfl
 | some a=>cases ev e y<;>rfl
theorem aQe(P:OI)(C:aL):(∀(x:Pj) (d:Ow Tmp) (ty:OH) (pos:Qq) (af:Pa Rt) (g:Ow (Nat×Ps)) (fr:Ow Nat) (e:bD) (S:St) (K:KW),lG P C ⟨d,.move x,ty,pos,af,g⟩ fr e S K=wO (ev e x) λv=>K v S) /\
  (∀(x:Pj) (d:Ow Tmp) (ty:OH) (pos:Qq) (af:Pa Rt) (g:Ow (Nat×Ps)) (fr:Ow Nat) (e:bD) (S:St) (K:KW),lG P C ⟨d,.assign x,ty,pos,af,g⟩ fr e S K=wO (ev e x) λv=>K v S) /\
  (∀(c a b:Pj) (d:Ow Tmp) (ty:OH) (pos:Qq) (af:Pa Rt) (g:Ow (Nat×Ps)) (fr:Ow Nat) (e:bD) (S:St) (K:KW),lG P C ⟨d,.pick c a b,ty,pos,af,g⟩ fr e S K=wO (ev e c) λc=>wO (ev e a) λa=>wO (ev e b) λb=>wR (hl (aM2 c a b)) λv=>K v S) /\
  (∀(t:OH) (d:Ow Tmp) (ty:OH) (pos:Qq) (af:Pa Rt) (g:Ow (Nat×Ps)) (fr:Ow Nat) (e:bD) (S:St) (K:KW),lG P C ⟨d,.alloc t,ty,pos,af,g⟩ fr e S K=wO (aQ P t) λz=>wR (hl (bR fr S (.row 0 z.cells.length [z.cells]))) λr=>K (.ptr r.1 0 0 0) r.2) /\
  (∀(u:OH) (x:Pj) (d:Ow Tmp) (ty:OH) (pos:Qq) (af:Pa Rt) (g:Ow (Nat×Ps)) (fr:Ow Nat) (e:bD) (S:St) (K:KW),lG P C ⟨d,.box u x,ty,pos,af,g⟩ fr e S K=wO (ev e x) λv=>wIf (hl (aH v.cells)) (wR (hl (bR fr S (.row 0 v.cells.length [v.cells]))) λr=>K (.ptr r.1 0 0 0) r.2)) /\
  (∀(t:OH) (ps:On (Nat×Pj)) (d:Ow Tmp) (ty:OH) (pos:Qq) (af:Pa Rt) (g:Ow (Nat×Ps)) (fr:Ow Nat) (e:bD) (S:St) (K:KW),lG P C ⟨d,.build t ps.toArray,ty,pos,af,g⟩ fr e S K=wO (pI (ev e) ps) λvs=>wR (hl (rO P t vs)) λv=>K v S) /\
  (∀(t:OH) (m:Nat) (ps:On (Nat×Pj)) (d:Ow Tmp) (ty:OH) (pos:Qq) (af:Pa Rt) (g:Ow (Nat×Ps)) (fr:Ow Nat) (e:bD) (S:St) (K:KW),lG P C ⟨d,.buildSlice t m ps.toArray,ty,pos,af,g⟩ fr e S K=wO (pI (ev e) ps) λvs=>wR (hl (dO P t m vs fr S)) λr=>K r.1 r.2) /\
  (∀(t:OH) (a:Pj) (d:Ow Tmp) (ty:OH) (pos:Qq) (af:Pa Rt) (g:Ow (Nat×Ps)) (fr:Ow Nat) (e:bD) (S:St) (K:KW),lG P C ⟨d,.load t a,ty,pos,af,g⟩ fr e S K=wO (ev e a) λp=>wR (hl (oG P t p S)) λv=>K v S) /\
  (∀(t:OH) (a x:Pj) (d:Ow Tmp) (ty:OH) (pos:Qq) (af:Pa Rt) (g:Ow (Nat×Ps)) (fr:Ow Nat) (e:bD) (S:St) (K:KW),lG P C ⟨d,.store t a x,ty,pos,af,g⟩ fr e S K=wO (ev e a) λp=>wO (ev e x) λv=>wR (hl (rN P t p v S)) λS'=>K (.tup []) S') /\
  (∀(x:Pj) (d:Ow Tmp) (ty:OH) (pos:Qq) (af:Pa Rt) (g:Ow (Nat×Ps)) (fr:Ow Nat) (e:bD) (S:St) (K:KW),lG P C ⟨d,.nilCheck x,ty,pos,af,g⟩ fr e S K=wO (ev e x) λv=>uU (hl v) (K v S)) /\
  (∀(t u:OH) (x y:Pj) (d:Ow Tmp) (ty:OH) (pos:Qq) (af:Pa Rt) (g:Ow (Nat×Ps)) (fr:Ow Nat) (e:bD) (S:St) (K:KW),lG P C ⟨d,.binOp .add t x y u,ty,pos,af,g⟩ fr e S K=wO (ev e x) λa=>wO (ev e y) λb=>wR (hl (cC P .add t a b)) λv=>K v S) /\
  (∀(t u:OH) (x y:Pj) (d:Ow Tmp) (ty:OH) (pos:Qq) (af:Pa Rt) (g:Ow (Nat×Ps)) (fr:Ow Nat) (e:bD) (S:St) (K:KW),lG P C ⟨d,.binOp .sub t x y u,ty,pos,af,g⟩ fr e S K=wO (ev e x) λa=>wO (ev e y) λb=>wR (hl (cC P .sub t a b)) λv=>K v S) /\
  (∀(t u:OH) (x y:Pj) (d:Ow Tmp) (ty:OH) (pos:Qq) (af:Pa Rt) (g:Ow (Nat×Ps)) (fr:Ow Nat) (e:bD) (S:St) (K:KW),lG P C ⟨d,.binOp .mul t x y u,ty,pos,af,g⟩ fr e S K=wO (ev e x) λa=>wO (ev e y) λb=>wR (hl (cC P .mul t a b)) λv=>K v S) /\
  (∀(t u:OH) (x y:Pj) (d:Ow Tmp) (ty:OH) (pos:Qq) (af:Pa Rt) (g:Ow (Nat×Ps)) (fr:Ow Nat) (e:bD) (S:St) (K:KW),lG P C ⟨d,.binOp .quo t x y u,ty,pos,af,g⟩ fr e S K=wO (ev e x) λa=>wO (ev e y) λb=>wR (hl (cC P .quo t a b)) λv=>K v S) /\
  (∀(t u:OH) (x y:Pj) (d:Ow Tmp) (ty:OH) (pos:Qq) (af:Pa Rt) (g:Ow (Nat×Ps)) (fr:Ow Nat) (e:bD) (S:St) (K:KW),lG P C ⟨d,.binOp .rem t x y u,ty,pos,af,g⟩ fr e S K=wO (ev e x) λa=>wO (ev e y) λb=>wR (hl (cC P .rem t a b)) λv=>K v S) /\
  (∀(t u:OH) (x y:Pj) (d:Ow Tmp) (ty:OH) (pos:Qq) (af:Pa Rt) (g:Ow (Nat×Ps)) (fr:Ow Nat) (e:bD) (S:St) (K:KW),lG P C ⟨d,.binOp .and t x y u,ty,pos,af,g⟩ fr e S K=wO (ev e x) λa=>wO (ev e y) λb=>wR (hl (cC P .and t a b)) λv=>K v S) /\
  (∀(t u:OH) (x y:Pj) (d:Ow Tmp) (ty:OH) (pos:Qq) (af:Pa Rt) (g:Ow (Nat×Ps)) (fr:Ow Nat) (e:bD) (S:St) (K:KW),lG P C ⟨d,.binOp .or t x y u,ty,pos,af,g⟩ fr e S K=wO (ev e x) λa=>wO (ev e y) λb=>wR (hl (cC P .or t a b)) λv=>K v S) /\
  (∀(t u:OH) (x y:Pj) (d:Ow Tmp) (ty:OH) (pos:Qq) (af:Pa Rt) (g:Ow (Nat×Ps)) (fr:Ow Nat) (e:bD) (S:St) (K:KW),lG P C ⟨d,.binOp .xor t x y u,ty,pos,af,g⟩ fr e S K=wO (ev e x) λa=>wO (ev e y) λb=>wR (hl (cC P .xor t a b)) λv=>K v S) /\
  (∀(t u:OH) (x y:Pj) (d:Ow Tmp) (ty:OH) (pos:Qq) (af:Pa Rt) (g:Ow (Nat×Ps)) (fr:Ow Nat) (e:bD) (S:St) (K:KW),lG P C ⟨d,.binOp .andNot t x y u,ty,pos,af,g⟩ fr e S K=wO (ev e x) λa=>wO (ev e y) λb=>wR (hl (cC P .andNot t a b)) λv=>K v S) /\
  (∀(t u:OH) (x y:Pj) (d:Ow Tmp) (ty:OH) (pos:Qq) (af:Pa Rt) (g:Ow (Nat×Ps)) (fr:Ow Nat) (e:bD) (S:St) (K:KW),lG P C ⟨d,.binOp .shl t x y u,ty,pos,af,g⟩ fr e S K=wO (ev e x) λa=>wO (ev e y) λb=>wR (hl (cC P .shl t a b)) λv=>K v S) /\
  (∀(t u:OH) (x y:Pj) (d:Ow Tmp) (ty:OH) (pos:Qq) (af:Pa Rt) (g:Ow (Nat×Ps)) (fr:Ow Nat) (e:bD) (S:St) (K:KW),lG P C ⟨d,.binOp .shr t x y u,ty,pos,af,g⟩ fr e S K=wO (ev e x) λa=>wO (ev e y) λb=>wR (hl (cC P .shr t a b)) λv=>K v S) /\
  (∀(t u:OH) (x y:Pj) (d:Ow Tmp) (ty:OH) (pos:Qq) (af:Pa Rt) (g:Ow (Nat×Ps)) (fr:Ow Nat) (e:bD) (S:St) (K:KW),lG P C ⟨d,.binOp .lss t x y u,ty,pos,af,g⟩ fr e S K=wO (ev e x) λa=>wO (ev e y) λb=>wR (hl (cC P .lss t a b)) λv=>K v S) /\
  (∀(t u:OH) (x y:Pj) (d:Ow Tmp) (ty:OH) (pos:Qq) (af:Pa Rt) (g:Ow (Nat×Ps)) (fr:Ow Nat) (e:bD) (S:St) (K:KW),lG P C ⟨d,.binOp .leq t x y u,ty,pos,af,g⟩ fr e S K=wO (ev e x) λa=>wO (ev e y) λb=>wR (hl (cC P .leq t a b)) λv=>K v S) /\
  (∀(t u:OH) (x y:Pj) (d:Ow Tmp) (ty:OH) (pos:Qq) (af:Pa Rt) (g:Ow (Nat×Ps)) (fr:Ow Nat) (e:bD) (S:St) (K:KW),lG P C ⟨d,.binOp .gtr t x y u,ty,pos,af,g⟩ fr e S K=wO (ev e x) λa=>wO (ev e y) λb=>wR (hl (cC P .gtr t a b)) λv=>K v S) /\
  (∀(t u:OH) (x y:Pj) (d:Ow Tmp) (ty:OH) (pos:Qq) (af:Pa Rt) (g:Ow (Nat×Ps)) (fr:Ow Nat) (e:bD) (S:St) (K:KW),lG P C ⟨d,.binOp .geq t x y u,ty,pos,af,g⟩ fr e S K=wO (ev e x) λa=>wO (ev e y) λb=>wR (hl (cC P .geq t a b)) λv=>K v S) /\
  (∀(t u:OH) (x y:Pj) (d:Ow Tmp) (ty:OH) (pos:Qq) (af:Pa Rt) (g:Ow (Nat×Ps)) (fr:Ow Nat) (e:bD) (S:St) (K:KW),lG P C ⟨d,.binOp .eql t x y u,ty,pos,af,g⟩ fr e S K=wO (ev e x) λa=>wO (ev e y) λb=>wIf (hl (jF P t x y a b)) (wR (hl (cC P .eql t a b)) λv=>K v S)) /\
  (∀(t u:OH) (x y:Pj) (d:Ow Tmp) (ty:OH) (pos:Qq) (af:Pa Rt) (g:Ow (Nat×Ps)) (fr:Ow Nat) (e:bD) (S:St) (K:KW),lG P C ⟨d,.binOp .neq t x y u,ty,pos,af,g⟩ fr e S K=wO (ev e x) λa=>wO (ev e y) λb=>wIf (hl (jF P t x y a b)) (wR (hl (cC P .neq t a b)) λv=>K v S)) /\
  (∀(o:UnOp) (t:OH) (x:Pj) (d:Ow Tmp) (ty:OH) (pos:Qq) (af:Pa Rt) (g:Ow (Nat×Ps)) (fr:Ow Nat) (e:bD) (S:St) (K:KW),lG P C ⟨d,.unOp o t x,ty,pos,af,g⟩ fr e S K=wO (ev e x) λv=>wR (hl (unV o v)) λv=>K v S) /\
  (∀(s u:OH) (x:Pj) (d:Ow Tmp) (ty:OH) (pos:Qq) (af:Pa Rt) (g:Ow (Nat×Ps)) (fr:Ow Nat) (e:bD) (S:St) (K:KW),lG P C ⟨d,.convert s u x,ty,pos,af,g⟩ fr e S K=wO (ev e x) λv=>wR (hl (eK P s u v fr S)) λr=>K r.1 r.2) /\
  (∀(t:OH) (l c:Pj) (d:Ow Tmp) (ty:OH) (pos:Qq) (af:Pa Rt) (g:Ow (Nat×Ps)) (fr:Ow Nat) (e:bD) (S:St) (K:KW),lG P C ⟨d,.makeSlice t l c,ty,pos,af,g⟩ fr e S K=wO (ev e l) λl=>wO (ev e c) λc=>wR (hl (fD P t l c fr S)) λr=>K r.1 r.2) /\
  (∀(t:OH) (x:Pj) (lo hi:Ow Pj) (d:Ow Tmp) (ty:OH) (pos:Qq) (af:Pa Rt) (g:Ow (Nat×Ps)) (fr:Ow Nat) (e:bD) (S:St) (K:KW),lG P C ⟨d,.slice t x lo hi OG,ty,pos,af,g⟩ fr e S K=wO (ev e x) λv=>wO (evO (ev e) lo) λl=>wO (evO (ev e) hi) λh=>wR (hl (iZ P t v l h)) λv=>K v S) /\
  (∀(s:OH) (x:Pj) (f:Nat) (d:Ow Tmp) (ty:OH) (pos:Qq) (af:Pa Rt) (g:Ow (Nat×Ps)) (fr:Ow Nat) (e:bD) (S:St) (K:KW),lG P C ⟨d,.fieldAddr s x f,ty,pos,af,g⟩ fr e S K=wO (ev e x) λp=>wR (hl (eQ P s p f)) λv=>K v S) /\
  (∀(s:OH) (x:Pj) (f:Nat) (d:Ow Tmp) (ty:OH) (pos:Qq) (af:Pa Rt) (g:Ow (Nat×Ps)) (fr:Ow Nat) (e:bD) (S:St) (K:KW),lG P C ⟨d,.field s x f,ty,pos,af,g⟩ fr e S K=wO (ev e x) λp=>wR (hl (aEg P s p f)) λv=>K v S) /\
  (∀(t:OH) (x i:Pj) (d:Ow Tmp) (ty:OH) (pos:Qq) (af:Pa Rt) (g:Ow (Nat×Ps)) (fr:Ow Nat) (e:bD) (S:St) (K:KW),lG P C ⟨d,.indexAddr t x i,ty,pos,af,g⟩ fr e S K=wO (ev e x) λv=>wO (ev e i) λk=>wR (hl (dT P t v k)) λv=>K v S) /\
  (∀(t:OH) (x i:Pj) (d:Ow Tmp) (ty:OH) (pos:Qq) (af:Pa Rt) (g:Ow (Nat×Ps)) (fr:Ow Nat) (e:bD) (S:St) (K:KW),lG P C ⟨d,.index t x i,ty,pos,af,g⟩ fr e S K=wO (ev e x) λv=>wO (ev e i) λk=>wR (hl (aEf P t v k)) λv=>K v S) /\
  (∀(t:OH) (x:Pj) (d:Ow Tmp) (ty:OH) (pos:Qq) (af:Pa Rt) (g:Ow (Nat×Ps)) (fr:Ow Nat) (e:bD) (S:St) (K:KW),lG P C ⟨d,.range t x,ty,pos,af,g⟩ fr e S K=wO (ev e x) λv=>wIf (hl (aK0 P t)) (wR (hl (aK1 v fr S)) λr=>K r.1 r.2)) /\
  (∀(it:Pj) (isS:Ps) (d:Ow Tmp) (ty:OH) (pos:Qq) (af:Pa Rt) (g:Ow (Nat×Ps)) (fr:Ow Nat) (e:bD) (S:St) (K:KW),lG P C ⟨d,.next it isS,ty,pos,af,g⟩ fr e S K=wO (ev e it) λv=>wIf (hl isS) (wR (hl (aAs v S)) λr=>K r.1 r.2)) /\
  (∀(t:OH) (d:Ow Tmp) (ty:OH) (pos:Qq) (af:Pa Rt) (g:Ow (Nat×Ps)) (fr:Ow Nat) (e:bD) (S:St) (K:KW),lG P C ⟨d,.makeMap t OG,ty,pos,af,g⟩ fr e S K=wR (hl (bR fr S (.mp []))) λr=>K (.mp r.1) r.2) /\
  (∀(t:OH) (m k:Pj) (ok:Ps) (d:Ow Tmp) (ty:OH) (pos:Qq) (af:Pa Rt) (g:Ow (Nat×Ps)) (fr:Ow Nat) (e:bD) (S:St) (K:KW),lG P C ⟨d,.lookup t m k ok,ty,pos,af,g⟩ fr e S K=wO (ev e m) λm=>wO (ev e k) λk=>wR (hl (aA9 P t m k ok S)) λv=>K v S) /\
  (∀(t:OH) (m k v:Pj) (d:Ow Tmp) (ty:OH) (pos:Qq) (af:Pa Rt) (g:Ow (Nat×Ps)) (fr:Ow Nat) (e:bD) (S:St) (K:KW),lG P C ⟨d,.mapUpdate t m k v,ty,pos,af,g⟩ fr e S K=wO (ev e m) λm=>wO (ev e k) λk=>wO (ev e v) λv=>wR (hl (pH P t m k v S)) λS'=>K (.tup []) S') /\
  (∀(f:PU) (a b:On Pj) (d:Ow Tmp) (ty:OH) (pos:Qq) (af:Pa Rt) (g:Ow (Nat×Ps)) (fr:Ow Nat) (e:bD) (S:St) (K:KW),lG P C ⟨d,.makeFunc (.func f) a.toArray b.toArray,ty,pos,af,g⟩ fr e S K=wO (tD (ev e) a) λa=>wO (tD (ev e) b) λb=>K (.func f a b) S) /\
  (∀(x:Pj) (u t:OH) (ok:Ps) (d:Ow Tmp) (ty:OH) (pos:Qq) (af:Pa Rt) (g:Ow (Nat×Ps)) (fr:Ow Nat) (e:bD) (S:St) (K:KW),lG P C ⟨d,.typeAssert x u t ok,ty,pos,af,g⟩ fr e S K=wO (ev e x) λv=>wR (hl (aAa P v t ok)) λv=>K v S) /\
  (∀(t:Pj) (i:Nat) (d:Ow Tmp) (ty:OH) (pos:Qq) (af:Pa Rt) (g:Ow (Nat×Ps)) (fr:Ow Nat) (e:bD) (S:St) (K:KW),lG P C ⟨d,.extract t i,ty,pos,af,g⟩ fr e S K=wO (ev e t) λv=>fI (hl v) i λv=>K v S) /\
  (∀(f:PU) (a:On Pj) (ts:Pa OH) (d:Ow Tmp) (ty:OH) (pos:Qq) (af:Pa Rt) (g:Ow (Nat×Ps)) (fr:Ow Nat) (e:bD) (S:St) (K:KW),lG P C ⟨d,.call ⟨.value (.func f),a.toArray,ts⟩,ty,pos,af,g⟩ fr e S K=wO (tD (ev e) a) λargs=>mI P C f args S K) /\
  (∀(t:Tmp) (a:On Pj) (ts:Pa OH) (d:Ow Tmp) (ty:OH) (pos:Qq) (af:Pa Rt) (g:Ow (Nat×Ps)) (fr:Ow Nat) (e:bD) (S:St) (K:KW),lG P C ⟨d,.call ⟨.value (.tmp t),a.toArray,ts⟩,ty,pos,af,g⟩ fr e S K=wO (ev e (.tmp t)) λv=>wO (tD (ev e) a) λargs=>aVx P C v args S K) /\
  (∀(x:Pj) (t:OH) (ts:On OH) (d:Ow Tmp) (ty:OH) (pos:Qq) (af:Pa Rt) (g:Ow (Nat×Ps)) (fr:Ow Nat) (e:bD) (S:St) (K:KW),lG P C ⟨d,.call ⟨.builtin .len,[x].toArray,(t::ts).toArray⟩,ty,pos,af,g⟩ fr e S K=wO (ev e x) λx=>wR (hl (aBn P t x S)) λv=>K v S) /\
  (∀(a:On Pj) (ts:Pa OH) (d:Ow Tmp) (ty:OH) (pos:Qq) (af:Pa Rt) (g:Ow (Nat×Ps)) (fr:Ow Nat) (e:bD) (S:St) (K:KW),lG P C ⟨d,.call ⟨.builtin .min,a.toArray,ts⟩,ty,pos,af,g⟩ fr e S K=wO (tD (ev e) a) λargs=>wR (hl (aVc args)) λv=>K v S) /\
  (∀(a:On Pj) (ts:Pa OH) (d:Ow Tmp) (ty:OH) (pos:Qq) (af:Pa Rt) (g:Ow (Nat×Ps)) (fr:Ow Nat) (e:bD) (S:St) (K:KW),lG P C ⟨d,.call ⟨.builtin .max,a.toArray,ts⟩,ty,pos,af,g⟩ fr e S K=wO (tD (ev e) a) λargs=>wR (hl (aVd args)) λv=>K v S) /\
  (∀(s x:Pj) (t u:OH) (ts:On OH) (d:Ow Tmp) (ty:OH) (pos:Qq) (af:Pa Rt) (g:Ow (Nat×Ps)) (fr:Ow Nat) (e:bD) (S:St) (K:KW),lG P C ⟨d,.call ⟨.builtin .append,[s,x].toArray,(t::u::ts).toArray⟩,ty,pos,af,g⟩ fr e S K=wO (ev e s) λs=>wO (ev e x) λx=>wIf (hl (vU P u)) (wR (hl (iP P t s x fr S)) λr=>K r.1 r.2)) /\
  (∀(x:Pj) (t:OH) (ts:On OH) (d:Ow Tmp) (ty:OH) (pos:Qq) (af:Pa Rt) (g:Ow (Nat×Ps)) (fr:Ow Nat) (e:bD) (S:St) (K:KW),lG P C ⟨d,.call ⟨.builtin .clear,[x].toArray,(t::ts).toArray⟩,ty,pos,af,g⟩ fr e S K=wO (ev e x) λx=>wR (hl (aEh P t x S)) λr=>K r.1 r.2) /\
  (∀(s x:Pj) (t:OH) (ts:On OH) (d:Ow Tmp) (ty:OH) (pos:Qq) (af:Pa Rt) (g:Ow (Nat×Ps)) (fr:Ow Nat) (e:bD) (S:St) (K:KW),lG P C ⟨d,.call ⟨.builtin .copy,[s,x].toArray,(t::ts).toArray⟩,ty,pos,af,g⟩ fr e S K=wO (ev e s) λs=>wO (ev e x) λx=>wR (hl (aLa P t s x S)) λr=>K r.1 r.2):=by
 refine⟨?_,?_,?_,?_,?_,?_,?_,?_,?_,?_,?_,?_,?_,?_,?_,?_,?_,?_,?_,?_,?_,?_,?_,?_,?_,?_,?_,?_,?_,?_,?_,?_,?_,?_,?_,?_,?_,?_,?_,?_,?_,?_,?_,?_,?_,?_,?_,?_,?_,?_,?_⟩
 all_goals intros
 all_goals first
  | rfl
  | (simp only[hl];refine(bBp _ _ _).trans (aFc _ λv=>?_);simp only[aBy,UP,Te,wO])
  | (simp only[hl];refine(aQd _ _ _ _).trans (aFc _ λv=>aFc _ λw=>?_);simp only[aBy,UP,Te,List.getElem?_cons_succ,wO,vU];split<;>simp[wIf, *];done)
  | (simp only[hl];refine(aQd _ _ _ _).trans (aFc _ λv=>aFc _ λw=>?_);simp only[aBy,UP,Te,wO];done)
  | (simp only[lG,ev,aVx,wO,Pp,OS];done)
  | skip
def uW(j:Nat)(sk:On Nat)(x y:Prop):Prop:=match aVu j sk with
 | true=>x
 | false=>y
theorem bDo{i j:Nat}(h:¬j=i)(l:On Nat)(x y:Prop):uW j (i::l) x y=uW j l x y:=by simp only[uW,aVu,aMa (SJ h)]
theorem bJl{i j:Nat}(h:j<i)(l:On Nat)(x y:Prop):uW j (i::l) x y=uW j l x y:=bDo (Tt h) l x y
theorem bDp{i j:Nat}(h:i<j)(l:On Nat)(x y:Prop):uW j (i::l) x y=uW j l x y:=bDo (Tu h) l x y
theorem aWd{i j:Nat}(h:¬j=i)(l:On Nat)(r:On (Nat×On Nat))(K:On Nat->Prop):wLv ((i,l)::r) j K=wLv r j K:=by simp only[wLv,aMa (SJ h)]
theorem bDq{i j:Nat}(h:j<i)(l:On Nat)(r:On (Nat×On Nat))(K:On Nat->Prop):wLv ((i,l)::r) j K=wLv r j K:=aWd (Tt h) l r K
theorem aWe{i j:Nat}(h:i<j)(l:On Nat)(r:On (Nat×On Nat))(K:On Nat->Prop):wLv ((i,l)::r) j K=wLv r j K:=aWd (Tu h) l r K
theorem aWf{i j:Nat}(h:¬j=i)(l:On bY)(r:On (Nat×On bY))(K:On bY->Prop)(x:Prop):wSt ((i,l)::r) j K x=wSt r j K x:=by simp only[wSt,aMa (SJ h)]
theorem bDr{i j:Nat}(h:j<i)(l:On bY)(r:On (Nat×On bY))(K:On bY->Prop)(x:Prop):wSt ((i,l)::r) j K x=wSt r j K x:=aWf (Tt h) l r K x
theorem aWg{i j:Nat}(h:i<j)(l:On bY)(r:On (Nat×On bY))(K:On bY->Prop)(x:Prop):wSt ((i,l)::r) j K x=wSt r j K x:=aWf (Tu h) l r K x
theorem aQf{i j:Nat}(h:¬j=i)(Kn:oN)(Kx:KXW)(e:bD)(S:St):aOp i Kn Kx j e S=Kx j e S:=by simp only[aOp,aMa h]
theorem aWh{i j:Nat}(h:j<i)(Kn:oN)(Kx:KXW)(e:bD)(S:St):aOp i Kn Kx j e S=Kx j e S:=aQf (Tt h) Kn Kx e S
theorem aQg{i j:Nat}(h:i<j)(Kn:oN)(Kx:KXW)(e:bD)(S:St):aOp i Kn Kx j e S=Kx j e S:=aQf (Tu h) Kn Kx e S
theorem aWi{d n:Nat}(h:d<n)(e:bD)(v:V)(K:bD->Prop):uV n (Ot d) e v K=K (e.put d v):=by simp only[uV,show QI d n=OB by rw[Sx];exact h]
theorem aOq(i:Nat):Pw i i=true:=SS i
theorem aI3{i j:Nat}(h:¬i=j)(P:OI)(C:aL)(ops:Pa Qh)(S:St)(K:Prop)(o:Qh)(e:bD)(ran:Ps)(v:V)(recs:On uZ):eW P C ops i S K (aAu P o j e ran v recs)=eW P C ops i S K recs:=by
 unfold aAu;split
 ·simp only[eW,aMa h]
 ·rfl
theorem aMf{i j:Nat}(h:i<j)(P:OI)(C:aL)(ops:Pa Qh)(S:St)(K:Prop)(o:Qh)(e:bD)(ran:Ps)(v:V)(recs:On uZ):eW P C ops i S K (aAu P o j e ran v recs)=eW P C ops i S K recs:=aI3 (Tt h) P C ops S K o e ran v recs
theorem aI4{i j:Nat}(h:j<i)(P:OI)(C:aL)(ops:Pa Qh)(S:St)(K:Prop)(o:Qh)(e:bD)(ran:Ps)(v:V)(recs:On uZ):eW P C ops i S K (aAu P o j e ran v recs)=eW P C ops i S K recs:=aI3 (Tu h) P C ops S K o e ran v recs
theorem aWj(K:On bY->Prop)(x:Prop)(id:Nat):∀t:On (Nat×On bY),wSt t id K x=(match dD t id with
  | some l=>K l
  | none=>x)
 | []=>rfl
 | (i,l)::r=>by
  have ih:=aWj K x id r;unfold dD at ih|-
  by_cases h:i=id
  ·subst h;simp only[wSt,kC,aOq,PW]
  ·simp only[wSt,kC,aMa h,aMa (SJ h),QF,ih]
theorem aI5(P:OI)(C:aL)(n:Nat)(tp:On (Nat×On bY))(lv:Nat->On Nat)(id:Nat)(l:On Qh)(e:bD)(S:St)(Kn:oN)(Kx:KXW)(Kr:oN):
  fJ P C n (dD tp) lv (.region id l.toArray OB) e S Kn Kx Kr=wLn l [0,1,2,3,4,5,6,7,8,9,10,11,12,13,14,15,16,17,18,19,20,21,22,23,24,25,26,27,28,29,30,31,32,33,34,35,36,37,38,39,40,41,42,43,44,45,46,47,48,49,50,51,52,53,54,55,56,57,58,59,60,61,62,63,64,65,66,67,68,69,70,71,72,73,74,75,76,77,78,79,80,81,82,83,84,85,86,87,88,89,90,91,92,93,94,95,96,97,98,99,100,101,102,103,104,105,106,107,108,109,110,111,112,113,114,115,116,117,118,119,120,121,122,123,124,125,126,127,128,129,130,131,132,133,134,135,136,137,138,139,140,141,142,143,144,145,146,147,148,149,150,151,152,153,154,155,156,157,158,159,160] 0 λk=>wSt tp id (λst=>uP P C n l.toArray S.next st [] [] e ⟨S.next+k,S.heap⟩ Kn) (aAx P C n l.toArray S.next l [0,1,2,3,4,5,6,7,8,9,10,11,12,13,14,15,16,17,18,19,20,21,22,23,24,25,26,27,28,29,30,31,32,33,34,35,36,37,38,39,40,41,42,43,44,45,46,47,48,49,50,51,52,53,54,55,56,57,58,59,60,61,62,63,64,65,66,67,68,69,70,71,72,73,74,75,76,77,78,79,80,81,82,83,84,85,86,87,88,89,90,91,92,93,94,95,96,97,98,99,100,101,102,103,104,105,106,107,108,109,110,111,112,113,114,115,116,117,118,119,120,121,122,123,124,125,126,127,128,129,130,131,132,133,134,135,136,137,138,139,140,141,142,143,144,145,146,147,148,149,150,151,152,153,154,155,156,157,158,159,160] 0 [] e ⟨S.next+k,S.heap⟩ Kn):=by
 have hu:zH 0 [0,1,2,3,4,5,6,7,8,9,10,11,12,13,14,15,16,17,18,19,20,21,22,23,24,25,26,27,28,29,30,31,32,33,34,35,36,37,38,39,40,41,42,43,44,45,46,47,48,49,50,51,52,53,54,55,56,57,58,59,60,61,62,63,64,65,66,67,68,69,70,71,72,73,74,75,76,77,78,79,80,81,82,83,84,85,86,87,88,89,90,91,92,93,94,95,96,97,98,99,100,101,102,103,104,105,106,107,108,109,110,111,112,113,114,115,116,117,118,119,120,121,122,123,124,125,126,127,128,129,130,131,132,133,134,135,136,137,138,139,140,141,142,143,144,145,146,147,148,149,150,151,152,153,154,155,156,157,158,159,160]:=by simp only[zH,and_self]
 generalize [0,1,2,3,4,5,6,7,8,9,10,11,12,13,14,15,16,17,18,19,20,21,22,23,24,25,26,27,28,29,30,31,32,33,34,35,36,37,38,39,40,41,42,43,44,45,46,47,48,49,50,51,52,53,54,55,56,57,58,59,60,61,62,63,64,65,66,67,68,69,70,71,72,73,74,75,76,77,78,79,80,81,82,83,84,85,86,87,88,89,90,91,92,93,94,95,96,97,98,99,100,101,102,103,104,105,106,107,108,109,110,111,112,113,114,115,116,117,118,119,120,121,122,123,124,125,126,127,128,129,130,131,132,133,134,135,136,137,138,139,140,141,142,143,144,145,146,147,148,149,150,151,152,153,154,155,156,157,158,159,160]=ks at hu|-
 rw[aOm _ _ _ _ hu,aWj,Px];simp only[fJ,List.size_toArray];cases dD tp id with
 | some st=>rfl
 | none=>
  show uP P C n l.toArray S.next (aLb l.length) [] [] e _ Kn=_;rw[aMe];exact aFb P C n l.toArray S.next Kn l ks 0 [] [] e _ hu λk=>by simp
theorem aI6(P:OI)(C:aL)(n:Nat)(p:Nat->Ow (On bY))(tl:On (Nat×On Nat))(a:ST)(e:bD)(S:St)(Kn:oN)(Kx:KXW)(Kr:oN):
 fJ P C n p (dY tl) (.loop a) e S Kn Kx Kr=wLv tl (bZ a) λts=>pP e ts λvs=>iN (hl vs) S (bDk P C n p (dY tl) a e Kx Kr):=by rw[aOn];rfl
theorem aWk(P:OI)(C:aL)(n:Nat)(p:Nat->Ow (On bY))(tl:On (Nat×On Nat))(a:ST)(e:bD)(Kx:KXW)(Kr:oN)(vs:On V)(S:St)(aE:On V->St->Prop):
 bDk P C n p (dY tl) a e Kx Kr vs S aE=wLv tl (bZ a) λts=>aK2 ts vs (e.filt λt=>!oM a t) λe=>fJ P C n p (dY tl) a e S (λe S=>pP e ts λvs=>aE vs S) Kx Kr:=by rw[aOn];rfl
theorem aQh(P:OI)(C:aL):
  (∀(n:Nat) (p:Nat->Ow (On bY)) (lv:Nat->On Nat) (e:bD) (S:St) (Kn:oN) (Kx:KXW) (Kr:oN),fJ P C n p lv .skip e S Kn Kx Kr=Kn e S) /\
  (∀(n:Nat) (p:Nat->Ow (On bY)) (lv:Nat->On Nat) (l:Nat) (e:bD) (S:St) (Kn:oN) (Kx:KXW) (Kr:oN),fJ P C n p lv (.label l) e S Kn Kx Kr=Kn e S) /\
  (∀(n:Nat) (p:Nat->Ow (On bY)) (lv:Nat->On Nat) (id:Nat) (e:bD) (S:St) (Kn:oN) (Kx:KXW) (Kr:oN),fJ P C n p lv (.exit id) e S Kn Kx Kr=Kx id e S) /\
  (∀(n:Nat) (p:Nat->Ow (On bY)) (lv:Nat->On Nat) (e:bD) (S:St) (Kn:oN) (Kx:KXW) (Kr:oN),fJ P C n p lv .ret e S Kn Kx Kr=Kr e S) /\
  (∀(n:Nat) (p:Nat->Ow (On bY)) (lv:Nat->On Nat) (id:Nat) (l:On Qh) (e:bD) (S:St) (Kn:oN) (Kx:KXW) (Kr:oN),fJ P C n p lv (.region id l.toArray OA) e S Kn Kx Kr=aK3 P C n l.toArray l [0,1,2,3,4,5,6,7,8,9,10,11,12,13,14,15,16,17,18,19,20,21,22,23,24,25,26,27,28,29,30,31,32,33,34,35,36,37,38,39,40,41,42,43,44,45,46,47,48,49,50,51,52,53,54,55,56,57,58,59,60,61,62,63,64,65,66,67,68,69,70,71,72,73,74,75,76,77,78,79,80,81,82,83,84,85,86,87,88,89,90,91,92,93,94,95,96,97,98,99,100,101,102,103,104,105,106,107,108,109,110,111,112,113,114,115,116,117,118,119,120,121,122,123,124,125,126,127,128,129,130,131,132,133,134,135,136,137,138,139,140,141,142,143,144,145,146,147,148,149,150,151,152,153,154,155,156,157,158,159,160] 0 [] e S Kn) /\
  (∀(n:Nat) (p:Nat->Ow (On bY)) (lv:Nat->On Nat) (a b:ST) (e:bD) (S:St) (Kn:oN) (Kx:KXW) (Kr:oN),fJ P C n p lv (.seq a b) e S Kn Kx Kr=fJ P C n p lv a e S (λe S=>fJ P C n p lv b e S Kn Kx Kr) Kx Kr) /\
  (∀(n:Nat) (p:Nat->Ow (On bY)) (lv:Nat->On Nat) (c:Pj) (a b:ST) (e:bD) (S:St) (Kn:oN) (Kx:KXW) (Kr:oN),fJ P C n p lv (.cond c a b) e S Kn Kx Kr=wO (ev e c) λv=>aN (hl v) (fJ P C n p lv a (aCj e c OB) S Kn Kx Kr) (fJ P C n p lv b (aCj e c OA) S Kn Kx Kr)) /\
  (∀(n:Nat) (p:Nat->Ow (On bY)) (lv:Nat->On Nat) (id:Nat) (a:ST) (e:bD) (S:St) (Kn:oN) (Kx:KXW) (Kr:oN),fJ P C n p lv (.block id a) e S Kn Kx Kr=fJ P C n p lv a e S Kn (aOp id Kn Kx) Kr) /\
  (∀(n:Nat) (ops:Pa Qh) (ks:On Nat) (i:Nat) (sk:On Nat) (e:bD) (S:St) (K:oN),aK3 P C n ops [] ks i sk e S K=K e S) /\
  (∀(n:Nat) (ops:Pa Qh) (o:Qh) (l:On Qh) (k i:Nat) (ks sk:On Nat) (e:bD) (S:St) (K:oN),aK3 P C n ops (o::l) (k::ks) i sk e S K=mC P C n ops sk o OG e S λran _ e' S'=>aK3 P C n ops l ks (i+1) (aAt ran k sk) e' S' K) /\
  (∀(n:Nat) (ops:Pa Qh) (b:Nat) (ks:On Nat) (i:Nat) (sk:On Nat) (e:bD) (S:St) (K:oN),aAx P C n ops b [] ks i sk e S K=K e S) /\
  (∀(n:Nat) (ops:Pa Qh) (o:Qh) (l:On Qh) (b k i:Nat) (ks:On Nat) (sk:On Nat) (e:bD) (S:St) (K:oN),aAx P C n ops b (o::l) (k::ks) i sk e S K=mC P C n ops sk o (Ot (b+k)) e S λran _ e' S'=>aAx P C n ops b l ks (i+1) (aAt ran k sk) e' S' K) /\
  (∀(n:Nat) (ops:Pa Qh) (b:Nat) (sk:On Nat) (recs:On uZ) (e:bD) (S:St) (K:oN),uP P C n ops b [] sk recs e S K=K e S) /\
  (∀(n:Nat) (ops:On Qh) (i:Nat) (re:On Nat) (l:On bY) (b:Nat) (sk:On Nat) (recs:On uZ) (e:bD) (S:St) (K:oN),uP P C n ops.toArray b ((i,re)::l) sk recs e S K=wI ops i λo=>mC P C n ops.toArray sk o (Ot (b+i)) e S λran v e' S'=>tU P C ops.toArray recs S' (uP P C n ops.toArray b l (aAt ran i sk) (aAu P o i e ran v recs) e' S' K) re) /\
  (∀(ops:Pa Qh) (recs:On uZ) (S:St) (K:Prop),tU P C ops recs S K []=K) /\
  (∀(ops:Pa Qh) (recs:On uZ) (S:St) (K:Prop) (i:Nat) (l:On Nat),tU P C ops recs S K (i::l)=eW P C ops i S (tU P C ops recs S K l) recs) /\
  (∀(ops:Pa Qh) (i:Nat) (S:St) (K:Prop),eW P C ops i S K []=K) /\
  (∀(ops:On Qh) (i:Nat) (S:St) (K:Prop) (d t:Nat) (a:Pj) (ty:OH) (pos:Qq) (af:Pa Rt) (g:Ow (Nat×Ps)) (e:bD) (v:V) (recs:On uZ),eW P C ops.toArray i S K (aAu P ⟨Ot d,.load t a,ty,pos,af,g⟩ i e OB v recs)=wI ops i λo=>lG P C o OG e S λv' _=>wIf (hl (gW v v')) K) /\
  (∀(ops:On Qh) (i:Nat) (S:St) (K:Prop) (d:Nat) (a:Pa Pj) (ts:Pa OH) (ty:OH) (pos:Qq) (af:Pa Rt) (g:Ow (Nat×Ps)) (e:bD) (v:V) (recs:On uZ),eW P C ops.toArray i S K (aAu P ⟨Ot d,.call ⟨.builtin .len,a,ts⟩,ty,pos,af,g⟩ i e OB v recs)=wI ops i λo=>lG P C o OG e S λv' _=>wIf (hl (gW v v')) K) /\
  (∀(o:Qh) (i:Nat) (e:bD) (v:V) (recs:On uZ) (ops:Pa Qh) (S:St) (K:Prop),eW P C ops i S K (aAu P o i e OA v recs)=eW P C ops i S K recs) /\
  (∀(n:Nat) (ops:Pa Qh) (sk:On Nat) (d:Ow Tmp) (op:Op) (ty:OH) (pos:Qq) (af:Pa Rt) (fr:Ow Nat) (e:bD) (S:St) (K:Ps->V->bD->St->Prop),mC P C n ops sk ⟨d,op,ty,pos,af,OG⟩ fr e S K=lG P C ⟨d,op,ty,pos,af,OG⟩ fr e S λv S'=>uV n d e v λe'=>K OB v e' S') /\
  (∀(n:Nat) (ops:On Qh) (sk:On Nat) (d:Ow Tmp) (op:Op) (ty:OH) (pos:Qq) (af:Pa Rt) (j:Nat) (fr:Ow Nat) (e:bD) (S:St) (K:Ps->V->bD->St->Prop),mC P C n ops.toArray sk ⟨d,op,ty,pos,af,Ot (j,OB)⟩ fr e S K=wG ops j λs=>wO (e.get s) λv=>uW j sk (aTf v (uV n d e (.tup []) λe'=>K OA (.tup []) e' S)) (aN (hl v) (lG P C ⟨d,op,ty,pos,af,Ot (j,OB)⟩ fr (e.put s (.bool OB)) S λv S'=>uV n d (e.put s (.bool OB)) v λe'=>K OB v e' S') (uV n d (e.put s (.bool OA)) (.tup []) λe'=>K OA (.tup []) e' S))) /\
  (∀(n:Nat) (ops:On Qh) (sk:On Nat) (d:Ow Tmp) (op:Op) (ty:OH) (pos:Qq) (af:Pa Rt) (j:Nat) (fr:Ow Nat) (e:bD) (S:St) (K:Ps->V->bD->St->Prop),mC P C n ops.toArray sk ⟨d,op,ty,pos,af,Ot (j,OA)⟩ fr e S K=wG ops j λs=>wO (e.get s) λv=>uW j sk (aTf v (uV n d e (.tup []) λe'=>K OA (.tup []) e' S)) (aN (hl v) (uV n d (e.put s (.bool OB)) (.tup []) λe'=>K OA (.tup []) e' S) (lG P C ⟨d,op,ty,pos,af,Ot (j,OA)⟩ fr (e.put s (.bool OA)) S λv S'=>uV n d (e.put s (.bool OA)) v λe'=>K OB v e' S'))) /\
  (∀(n:Nat) (e:bD) (v:V) (K:bD->Prop),uV n OG e v K=K e) /\
  (∀(rs:On Ud) (K:KW) (e:bD) (S:St),aTg P rs K e S=aH2 P e S rs λvs=>K (tL vs) S) /\
  (∀(e:bD) (S:St) (K:On V->Prop),aH2 P e S [] K=K []) /\
  (∀(e:bD) (S:St) (t:Tmp) (l:On Ud) (K:On V->Prop),aH2 P e S (.tmp t::l) K=wO (e.get t) λv=>aH2 P e S l λvs=>K (v::vs)) /\
  (∀(e:bD) (S:St) (a:Tmp) (t:OH) (l:On Ud) (K:On V->Prop),aH2 P e S (.cell a t::l) K=wO (e.get a) λp=>wR (hl (oG P t p S)) λv=>aH2 P e S l λvs=>K (v::vs)) /\
  (∀(f:PU) (a b args:On V) (S:St) (K:KW),aVx P C (.func f a b) args S K=mI P C f (a++args++b) S K):=by
 refine⟨λn _ _ _ _ _ _ _=>rfl,λn _ _ _ _ _ _ _ _=>rfl,λn _ _ _ _ _ _ _ _=>rfl,λn _ _ _ _ _ _ _=>rfl,λn p lv id l e S Kn Kx Kr=>aK4 P C n l.toArray Kn l _ 0 [] e S (by simp only[zH,and_self]),λn _ _ _ _ _ _ _ _ _=>rfl,λn _ _ _ _ _ _ _ _ _ _=>rfl,λn _ _ _ _ _ _ _ _ _=>rfl,λn ops ks i sk e S K=>by cases ks<;>rfl,λn _ _ _ _ _ _ _ _ _ _=>rfl,λn ops b ks i sk e S K=>by cases ks<;>rfl,λn _ _ _ _ _ _ _ _ _ _ _=>rfl,λn _ _ _ _ _ _ _=>rfl,λn ops i re l b sk recs e S K=>?_,λ_ _ _ _=>rfl,λ_ _ _ _ _ _=>rfl,λ_ _ _ _=>rfl,λops i S K d t a ty pos af g e v recs=>?_,λops i S K d a ts ty pos af g e v recs=>?_,λo i e v recs ops S K=>?_,λn _ _ _ _ _ _ _ _ _ _ _=>rfl,λn ops sk d op ty pos af j fr e S K=>?_,λn ops sk d op ty pos af j fr e S K=>?_,λn _ _ _=>rfl,λ_ _ _ _=>rfl,λ_ _ _=>rfl,λ_ _ _ _ _=>rfl,λ_ _ _ _ _ _=>rfl,λ_ _ _ _ _ _=>rfl⟩
 ·rw[uP,aI2]
 ·simp only[aAu,eV,aOq,QQ,XU,eW,hl];rw[aI2]
 ·simp only[aAu,eV,aOq,QQ,XU,eW,hl];rw[aI2]
 ·simp only[aAu,Bool.and_false,Bool.false_and]
 ·simp only[mC,doW,aHy,uW];rw[aW9];rfl
 ·simp only[mC,doW,aHy,uW];rw[aW9];rfl
theorem aQi:(∀(k:Nat) (ks:On Nat) (i:Nat) (K:Nat->Prop),wLn [] (k::ks) i K=K k)/\(∀(o:Qh) (l:On Qh) (k:Nat) (ks:On Nat) (i:Nat) (K:Nat->Prop),wLn (o::l) (k::ks) i K=wLn l ks (i+1) K)/\(∀(j:Nat) (x y:Prop),uW j [] x y=y)/\(∀(j i:Nat) (l:On Nat) (x y:Prop),uW j (aAt OB i l) x y=uW j l x y)/\(∀(j i:Nat) (l:On Nat) (x y:Prop),uW j (aAt OA i l) x y=uW j (i::l) x y)/\(∀(j:Nat) (l:On Nat) (x y:Prop),uW j (j::l) x y=x) /\
  (∀(j:Nat) (K:On Nat->Prop),wLv [] j K=K [])/\(∀(j:Nat) (l:On Nat) (r:On (Nat×On Nat)) (K:On Nat->Prop),wLv ((j,l)::r) j K=K l)/\(∀(j:Nat) (K:On bY->Prop) (x:Prop),wSt [] j K x=x)/\(∀(j:Nat) (l:On bY) (r:On (Nat×On bY)) (K:On bY->Prop) (x:Prop),wSt ((j,l)::r) j K x=K l) /\
  (∀(o:Qh) (l:On Qh) (K:Nat->Prop),wG (o::l) 0 K=wO o.dst K)/\(∀(o:Qh) (l:On Qh) (j:Nat) (K:Nat->Prop),wG (o::l) (j+1) K=wG l j K)/\(∀(o:Qh) (l:On Qh) (K:Qh->Prop),wI (o::l) 0 K=K o)/\(∀(o:Qh) (l:On Qh) (j:Nat) (K:Qh->Prop),wI (o::l) (j+1) K=wI l j K) /\
  (∀(d:Nat) (op:Op) (ty:OH) (pos:Qq) (af:Pa Rt) (g:Ow (Nat×Ps)) (K:Nat->Prop),wO (Oper.dst ⟨Ot d,op,ty,pos,af,g⟩) K=K d) /\
  (∀(i:Nat) (Kn:oN) (Kx:KXW) (e:bD) (S:St),aOp i Kn Kx i e S=Kn e S)/\(∀(e:bD) (K:On V->Prop),pP e [] K=K [])/\(∀(e:bD) (t:Nat) (l:On Nat) (K:On V->Prop),pP e (t::l) K=wO (e.get t) λv=>pP e l λvs=>K (v::vs)) /\
  (∀(vs:On V) (e:bD) (K:bD->Prop),aK2 [] vs e K=K e)/\(∀(t:Nat) (l:On Nat) (v:V) (vs:On V) (e:bD) (K:bD->Prop),aK2 (t::l) (v::vs) e K=aK2 l vs (e.put t v) K)/\(fQ 0 [] .nil=.nil)/\(∀a0:V,fQ 0 [a0] .nil=(VX .nil 0 a0))/\(∀a0 a1:V,fQ 0 [a0,a1] .nil=((VX .nil 0 a0).put 1 a1))/\(∀a0 a1 a2:V,fQ 0 [a0,a1,a2] .nil=(((VX .nil 0 a0).put 1 a1).put 2 a2))/\(∀a0 a1 a2 a3:V,fQ 0 [a0,a1,a2,a3] .nil=((((VX .nil 0 a0).put 1 a1).put 2 a2).put 3 a3))/\(∀a0 a1 a2 a3 a4:V,fQ 0 [a0,a1,a2,a3,a4] .nil=(((((VX .nil 0 a0).put 1 a1).put 2 a2).put 3 a3).put 4 a4))/\(∀a0 a1 a2 a3 a4 a5:V,fQ 0 [a0,a1,a2,a3,a4,a5] .nil=((((((VX .nil 0 a0).put 1 a1).put 2 a2).put 3 a3).put 4 a4).put 5 a5))/\(∀a0 a1 a2 a3 a4 a5 a6:V,fQ 0 [a0,a1,a2,a3,a4,a5,a6] .nil=(((((((VX .nil 0 a0).put 1 a1).put 2 a2).put 3 a3).put 4 a4).put 5 a5).put 6 a6))/\(∀a0 a1 a2 a3 a4 a5 a6 a7:V,fQ 0 [a0,a1,a2,a3,a4,a5,a6,a7] .nil=((((((((VX .nil 0 a0).put 1 a1).put 2 a2).put 3 a3).put 4 a4).put 5 a5).put 6 a6).put 7 a7)) /\
  (∀(i:Nat) (sk:On Nat),aAt OB i sk=sk)/\(∀(i:Nat) (sk:On Nat),aAt OA i sk=i::sk)/\(∀(e:bD) (t:Nat) (b:Ps),aCj e (.tmp t) b=e.put t (.bool b))/\(∀(e:bD) (v:O') (b:Ps),aCj e (.const v) b=e)/\(∀v:V,tL [v]=v)/\tL []=.tup []/\(∀(v w:V) (l:On V),tL (v::w::l)=.tup (v::w::l)) /\
  (∀(l:On V) (x:Prop),aTf (.tup l) x=x)/\(∀a b:ST,bZ (.seq a b)=bZ a)/\(∀(i:Nat) (a:ST),bZ (.block i a)=bZ a)/\(∀(id:Nat) (ops:Pa Qh) (d:Ps),bZ (.region id ops d)=id)/\(∀a:ST,bZ (.loop a)=bZ a)/\(∀(c:Pj) (a b:ST),bZ (.cond c a b)=0)/\(∀x y:Prop,aN (hl (.bool OB)) x y=x)/\(∀x y:Prop,aN (hl (.bool OA)) x y=y)/\(OB=OB)=True/\(OA=OB)=False/\(∀a b:V,aM2 (.bool OB) a b=.ok a)/\(∀a b:V,aM2 (.bool OA) a b=.ok b):=by
 refine⟨λ_ _ _ _=>rfl,λ_ _ _ _ _ _=>rfl,λ_ _ _=>rfl,λ_ _ _ _ _=>rfl,λ_ _ _ _ _=>rfl,λj l x y=>by simp only[uW,aVu,aOq],λ_ _=>rfl,λj l r K=>by simp only[wLv,aOq],λ_ _ _=>rfl,λj l r K x=>by simp only[wSt,aOq],λ_ _ _=>rfl,λ_ _ _ _=>rfl,λ_ _ _=>rfl,λ_ _ _ _=>rfl,λ_ _ _ _ _ _ _=>rfl,λi Kn Kx e S=>by simp only[aOp,aOq],λ_ _=>rfl,λ_ _ _ _=>rfl,λ_ _ _=>rfl,λ_ _ _ _ _ _=>rfl,rfl,λ_=>rfl,λ_ _=>rfl,λ_ _ _=>rfl,λ_ _ _ _=>rfl,λ_ _ _ _ _=>rfl,λ_ _ _ _ _ _=>rfl,λ_ _ _ _ _ _ _=>rfl,λ_ _ _ _ _ _ _ _=>rfl,λ_ _=>rfl,λ_ _=>rfl,λ_ _ _=>rfl,λ_ _ _=>rfl,λ_=>rfl,rfl,λ_ _ _=>rfl,λ_ _=>rfl,λ_ _=>rfl,λ_ _=>rfl,λ_ _ _=>rfl,λ_=>rfl,λ_ _ _=>rfl,λ_ _=>rfl,λ_ _=>rfl,by simp,by simp,λ_ _=>rfl,λ_ _=>rfl⟩
theorem aQj(P:OI):(∀(t:OH) (i j:Nat) (a b:V),jF P t (.tmp i) (.tmp j) a b=cF P t a b)/\(∀(t:OH) (x:Pj) (c:O') (i:OH) (v:V),jF P t x (.const c) (.iface i v) .nili=OB) /\
  (∀(t:OH) (x y:Pj) (a:V) (k:Qa) (n:Int),jF P t x y a (.int k n)=cF P t a (.int k n))/\(∀(t:OH) (x y:Pj) (a:V) (s:On OP),jF P t x y a (.str s)=cF P t a (.str s))/\(∀(t:OH) (x y:Pj) (a:V) (b:Ps),jF P t x y a (.bool b)=cF P t a (.bool b)) /\
  (∀(t:OH) (x y:Pj) (a:V) (l:On V),jF P t x y a (.agg l)=cF P t a (.agg l))/\(∀(t:OH) (x y:Pj) (a:V),jF P t x y a .nilp=cF P t a .nilp)/\(∀(t:OH) (x y:Pj) (a:V),jF P t x y a .nils=cF P t a .nils)/\(∀(t:OH) (x y:Pj) (a:V),jF P t x y a .nilf=cF P t a .nilf)/\(∀(t:OH) (x y:Pj) (a:V),jF P t x y a .nilm=cF P t a .nilm):=
 have key:∀(t:OH) (x y:Pj) (a b:V),aSz x y a b=OA->jF P t x y a b=cF P t a b:=λt x y a b h=>by
  unfold jF;split
  ·rw[h,Ul]
  ·rfl
 ⟨λt i j a b=>key _ _ _ _ _ (by unfold aSz;cases b<;>first | rfl | (cases a<;>rfl)),λt x c i v=>(key _ _ _ _ _ rfl).trans rfl,
  λ_ _ _ _ _ _=>key _ _ _ _ _ rfl,λ_ _ _ _ _=>key _ _ _ _ _ rfl,λ_ _ _ _ _=>key _ _ _ _ _ rfl,λ_ _ _ _ _=>key _ _ _ _ _ rfl,λ_ _ _ _=>key _ _ _ _ _ rfl,λ_ _ _ _=>key _ _ _ _ _ rfl,λ_ _ _ _=>key _ _ _ _ _ rfl,λ_ _ _ _=>key _ _ _ _ _ rfl⟩
def aCt(P:OI)(C:aL)(fn:Un)(tp:On (Nat×On bY))(tl:On (Nat×On Nat))(args:On V)(S:St)(K:KW):Prop:=aVy P C (dD tp) (dY tl) args S K (fn.body.getD .skip) fn.ntmps fn.results.toList
theorem bDs(P:OI)(C:aL)(nm og:Qq)(ta pa rt:Pa OH)(nf nt:Nat)(rs:On Ud)(c:ST)(b1 b2:Ps)(fl:Qq)(el:Nat)(ln:Ow Nat)(me:On Departure)(tn:Pa Qq)(tp:On (Nat×On bY))(tl:On (Nat×On Nat))(args:On V)(S:St)(K:KW):
 aCt P C ⟨nm,og,ta,pa,rt,nf,nt,rs.toArray,Ot c,b1,b2,fl,el,ln,me,tn⟩ tp tl args S K=wIf (Ru args.length nt) (fJ P C nt (dD tp) (dY tl) c (fQ 0 args .nil) S (aTg P rs K) (λ_ _ _=>False) (aTg P rs K)):=rfl
def aFd(fn:Un):ST×Nat×On ResultVar:=(fn.body.getD .skip,fn.ntmps,fn.results.toList)
theorem aI7:(∀n,Ru ([]:On V).length n=OB)/\(∀(a:V) (l:On V) (n:Nat),Ru (a::l).length (n+1)=Ru l.length n):=⟨λn=>by cases n<;>rfl,λ_ _ _=>rfl⟩
theorem qV(P:OI)(C:aL){g:PU}(h:cV P g=Ot OG)(args:On V)(S:St)(K:KW):mI P C g args S K=C g (hl args) S K:=by unfold mI;rw[h];rfl
section
variable{P:OI}{pl:kA}{f:PU}{fn:Un}{tp:On (Nat×On bY)}{tl:On (Nat×On Nat)}
theorem bJm(hp:pl f=Ot (.val (dD tp)))(hb:aAv P f=Ot (aFd fn)){args:On V}{v:V}(hc:cloVs args=OB)(h:aCt P (W P pl) fn tp tl args ⟨0,.nil⟩ λv0 S0=>eX S0 v0=.ok v):Fn P pl f args v:=
 Fn.of (p:=dD tp) (lv:=dY tl) hp hc (by unfold dR;rw[hb];exact h)
theorem bHr(hp:pl f=Ot (.code (dD tp)))(hb:aAv P f=Ot (aFd fn)){args:On V}{S:St}{K:KW}(h:aCt P (W P pl) fn tp tl args S K):W P pl f args S K:=
 aOi (p:=dD tp) (lv:=dY tl) hp (by unfold dR;rw[hb];exact h)
end
end
end Go.AM
end
section
namespace Go.Proofs.YtoaibmbldmckaaaGreat
open Go.AM Tryz
def dSp:aHk:=[(202,.ins 68),(221,.ins 27),(230,.ins 28),(234,.ins 25),(237,.ins 24),(280,.ins 80),(240,.del 28),(25,.told)]
def bBq:kE:=[
 (3,[]),
 (4,[(4,[(0,[]),(2,[]),(1,[2]),(3,[]),(4,[]),(5,[]),(6,[]),(7,[]),(8,[]),(9,[]),(10,[]),(11,[]),(12,[]),(13,[])])]),
 (5,[(10,[(0,[]),(1,[]),(2,[1]),(3,[])])]),
 (6,[(8,[(0,[]),(2,[]),(1,[2]),(3,[]),(4,[]),(5,[]),(6,[]),(7,[]),(8,[]),(9,[]),(10,[]),(11,[]),(12,[]),(13,[]),(14,[]),(15,[])])]),
 (7,[]),
 (8,[(7,[(1,[]),(2,[]),(3,[]),(4,[]),(6,[]),(7,[]),(8,[]),(9,[]),(10,[]),(0,[]),(5,[7]),(11,[]),(12,[])]),(15,[(0,[]),(1,[0]),(2,[0]),(3,[]),(4,[]),(5,[]),(6,[]),(7,[]),(8,[])])]),
 (9,[]),
 (10,[]),
 (11,[]),
 (12,[]),
 (13,[(2,[(0,[]),(2,[]),(1,[2]),(3,[]),(4,[]),(5,[]),(6,[]),(7,[]),(8,[]),(9,[]),(10,[]),(11,[]),(12,[]),(13,[]),(14,[])])]),
 (14,[]),
 (15,[(5,[(0,[]),(1,[]),(2,[0]),(3,[]),(4,[]),(5,[]),(6,[]),(7,[]),(8,[]),(9,[])]),(6,[(0,[]),(1,[]),(2,[0]),(3,[]),(4,[]),(5,[]),(6,[]),(7,[]),(8,[]),(9,[])])]),
 (16,[(3,[(0,[]),(2,[]),(1,[2]),(3,[]),(4,[]),(5,[])]),(4,[(0,[]),(1,[]),(2,[]),(3,[]),(4,[]),(5,[]),(6,[]),(7,[]),(8,[]),(9,[]),(10,[]),(12,[]),(13,[]),(11,[13,12]),(14,[]),(15,[]),(16,[]),(17,[]),(18,[]),(19,[]),(20,[])])]),
 (17,[(32,[(0,[]),(1,[]),(2,[]),(3,[]),(4,[]),(5,[]),(6,[]),(7,[]),(8,[]),(9,[]),(10,[]),(11,[]),(12,[]),(13,[]),(14,[]),(15,[]),(16,[]),(17,[]),(18,[]),(19,[]),(20,[]),(21,[]),(22,[]),(23,[]),(24,[]),(25,[]),(26,[]),(27,[]),(28,[25,23]),(29,[]),(30,[]),(31,[25,23]),(32,[]),(33,[]),(34,[25]),(35,[]),(36,[]),(37,[])])]),
 (18,[]),
 (19,[]),
 (20,[]),
 (21,[]),
 (22,[]),
 (23,[]),
 (24,[]),
 (25,[(6,[(0,[]),(1,[]),(2,[]),(3,[]),(4,[]),(5,[]),(6,[]),(7,[]),(8,[]),(9,[8]),(10,[]),(11,[]),(12,[]),(13,[]),(14,[]),(15,[]),(16,[]),(17,[]),(18,[]),(19,[]),(20,[]),(21,[]),(22,[]),(23,[]),(24,[])])]),
 (26,[]),
 (27,[]),
 (28,[]),
 (29,[(7,[(0,[]),(1,[]),(2,[]),(3,[]),(4,[]),(5,[]),(6,[]),(8,[]),(9,[]),(10,[]),(11,[]),(12,[]),(13,[]),(15,[]),(16,[]),(17,[]),(18,[]),(19,[]),(20,[]),(7,[20,16,13,9]),(14,[20,16]),(21,[]),(22,[])]),(12,[(0,[]),(1,[]),(2,[]),(3,[]),(4,[]),(5,[]),(6,[]),(8,[]),(9,[]),(10,[]),(11,[]),(12,[]),(13,[]),(15,[]),(16,[]),(17,[]),(18,[]),(19,[]),(20,[]),(7,[20,16,13,9]),(14,[20,16]),(21,[]),(22,[])]),(18,[(0,[]),(1,[]),(2,[]),(3,[]),(5,[]),(6,[]),(4,[6]),(7,[]),(8,[])]),(19,[(0,[]),(1,[]),(2,[]),(3,[]),(5,[]),(6,[]),(7,[]),(4,[7]),(8,[]),(9,[])]),(25,[(0,[]),(1,[]),(2,[]),(4,[]),(5,[]),(7,[]),(8,[]),(3,[8,5]),(6,[8]),(9,[]),(10,[])]),(30,[(0,[]),(1,[]),(2,[]),(3,[]),(4,[]),(5,[]),(6,[]),(8,[]),(9,[]),(10,[]),(11,[]),(12,[]),(13,[]),(15,[]),(16,[]),(17,[]),(18,[]),(19,[]),(20,[]),(7,[20,16,13,9]),(14,[20,16]),(21,[]),(22,[])])]),
 (30,[]),
 (31,[]),
 (32,[]),
 (33,[(3,[(0,[]),(1,[0]),(2,[]),(3,[])]),(5,[(0,[]),(1,[0]),(2,[]),(3,[])]),(10,[(0,[]),(1,[]),(2,[0]),(3,[]),(4,[])]),(12,[(0,[]),(1,[]),(2,[1]),(3,[])]),(17,[(0,[]),(1,[]),(2,[1]),(3,[])])]),
 (34,[(9,[(1,[]),(2,[]),(4,[]),(5,[]),(6,[]),(0,[]),(3,[5]),(7,[]),(8,[]),(9,[]),(10,[])]),(11,[(0,[]),(1,[]),(2,[]),(3,[]),(4,[]),(5,[2]),(6,[])]),(16,[(0,[]),(1,[]),(2,[1]),(3,[])]),(21,[(0,[]),(1,[]),(2,[1]),(3,[])])]),
 (35,[]),
 (36,[]),
 (37,[]),
 (38,[]),
 (39,[]),
 (40,[]),
 (41,[(10,[(0,[]),(1,[]),(3,[]),(2,[3]),(4,[]),(5,[]),(6,[]),(7,[]),(8,[]),(10,[]),(9,[10]),(11,[]),(12,[]),(13,[])]),(19,[(1,[]),(2,[]),(3,[]),(5,[]),(6,[]),(7,[]),(8,[]),(9,[]),(12,[]),(13,[]),(14,[]),(0,[]),(4,[8,6]),(10,[]),(11,[]),(15,[]),(16,[])])]),
 (42,[]),
 (43,[]),
 (44,[(3,[(0,[]),(1,[0]),(2,[0]),(3,[]),(4,[]),(5,[]),(6,[]),(7,[]),(8,[])]),(4,[(0,[]),(1,[0]),(2,[0]),(3,[]),(4,[]),(5,[]),(6,[]),(7,[]),(8,[])])]),
 (45,[]),
 (46,[]),
 (47,[]),
 (48,[]),
 (49,[]),
 (50,[]),
 (51,[]),
 (52,[]),
 (53,[]),
 (54,[(7,[(0,[]),(1,[]),(3,[]),(4,[]),(6,[]),(2,[4]),(5,[]),(7,[]),(8,[]),(9,[]),(10,[])])]),
 (55,[]),
 (56,[]),
 (57,[]),
 (58,[]),
 (59,[]),
 (60,[]),
 (61,[]),
 (62,[]),
 (63,[]),
 (64,[]),
 (65,[]),
 (66,[]),
 (67,[]),
 (68,[]),
 (69,[]),
 (70,[]),
 (71,[]),
 (72,[]),
 (73,[]),
 (74,[]),
 (75,[]),
 (76,[]),
 (77,[]),
 (78,[]),
 (79,[]),
 (80,[]),
 (81,[]),
 (82,[]),
 (83,[]),
 (84,[]),
 (85,[]),
 (86,[]),
 (87,[]),
 (88,[]),
 (89,[]),
 (90,[]),
 (91,[]),
 (92,[]),
 (93,[]),
 (94,[]),
 (95,[]),
 (96,[]),
 (97,[]),
 (98,[(1,[(0,[]),(1,[]),(2,[]),(4,[]),(5,[]),(7,[]),(8,[]),(3,[8,5]),(6,[8]),(9,[]),(10,[])])]),
 (99,[]),
 (100,[]),
 (101,[(1,[(0,[]),(1,[]),(2,[]),(4,[]),(5,[]),(7,[]),(8,[]),(3,[8,5]),(6,[8]),(9,[]),(10,[])])]),
 (102,[(9,[(0,[]),(1,[]),(2,[]),(3,[]),(4,[]),(5,[]),(6,[]),(7,[]),(8,[]),(9,[]),(10,[1]),(11,[]),(12,[]),(13,[]),(14,[])])]),
 (103,[]),
 (104,[(2,[(0,[]),(1,[0]),(2,[]),(3,[])]),(5,[(0,[]),(1,[]),(2,[0]),(3,[]),(4,[])]),(9,[(0,[]),(1,[]),(2,[1]),(3,[])])]),
 (105,[]),
 (106,[]),
 (107,[(8,[(0,[]),(1,[]),(2,[]),(3,[]),(4,[]),(5,[]),(6,[]),(7,[]),(8,[5]),(9,[]),(10,[]),(11,[])])]),
 (108,[(5,[(0,[]),(1,[]),(2,[]),(3,[]),(4,[]),(5,[3]),(6,[]),(7,[])]),(12,[(0,[]),(1,[]),(2,[]),(3,[]),(4,[]),(5,[3]),(6,[]),(7,[])]),(15,[(0,[]),(1,[]),(2,[]),(3,[]),(4,[]),(5,[]),(6,[]),(7,[5,3]),(8,[]),(9,[5]),(10,[]),(11,[])])]),
 (109,[]),
 (110,[(33,[(1,[]),(2,[]),(3,[]),(4,[]),(6,[]),(7,[]),(8,[]),(9,[]),(10,[]),(0,[]),(5,[7]),(11,[]),(12,[]),(13,[])]),(44,[(0,[]),(1,[]),(2,[1]),(3,[])])]),
 (111,[(4,[(0,[]),(1,[]),(2,[]),(3,[]),(4,[]),(5,[]),(6,[]),(7,[]),(8,[5]),(9,[]),(10,[]),(11,[])])]),
 (112,[]),
 (113,[]),
 (114,[]),
 (115,[]),
 (116,[]),
 (117,[]),
 (118,[(1,[(0,[]),(1,[]),(2,[]),(3,[]),(4,[]),(5,[]),(6,[]),(7,[]),(8,[]),(9,[]),(10,[]),(11,[]),(12,[]),(13,[]),(14,[]),(15,[]),(16,[]),(17,[]),(18,[]),(19,[]),(20,[15]),(21,[]),(22,[]),(23,[])])]),
 (119,[]),
 (120,[(19,[(0,[]),(1,[]),(2,[]),(3,[]),(4,[]),(5,[]),(6,[]),(7,[]),(8,[]),(9,[]),(10,[]),(11,[]),(12,[]),(13,[]),(15,[]),(16,[]),(17,[]),(18,[]),(19,[]),(14,[19]),(20,[]),(21,[]),(22,[]),(23,[]),(24,[]),(25,[]),(26,[]),(27,[]),(28,[]),(29,[]),(30,[]),(31,[]),(32,[]),(33,[]),(34,[]),(35,[]),(36,[]),(37,[]),(38,[]),(39,[]),(40,[]),(41,[]),(42,[]),(43,[]),(44,[]),(45,[]),(46,[]),(47,[]),(48,[])])]),
 (121,[]),
 (122,[(11,[(1,[]),(2,[]),(3,[]),(5,[]),(6,[]),(7,[]),(8,[]),(9,[]),(10,[]),(13,[]),(14,[]),(15,[]),(0,[]),(4,[9]),(11,[]),(12,[]),(16,[]),(17,[])])]),
 (123,[(1,[(0,[]),(1,[]),(2,[]),(3,[]),(4,[]),(5,[]),(6,[]),(7,[]),(8,[]),(9,[]),(10,[]),(11,[]),(12,[]),(13,[]),(14,[]),(15,[]),(16,[]),(17,[]),(18,[]),(19,[]),(20,[]),(21,[]),(22,[]),(23,[]),(24,[]),(25,[]),(26,[]),(27,[]),(28,[]),(29,[]),(30,[25]),(31,[]),(32,[]),(33,[])])]),
 (124,[(1,[(0,[]),(1,[]),(2,[]),(3,[]),(4,[]),(5,[]),(6,[]),(7,[]),(9,[]),(8,[9]),(10,[]),(11,[]),(12,[]),(13,[])])]),
 (125,[]),
 (126,[]),
 (127,[]),
 (128,[]),
 (129,[]),
 (130,[]),
 (131,[]),
 (132,[]),
 (133,[]),
 (134,[]),
 (135,[]),
 (136,[]),
 (137,[]),
 (138,[]),
 (139,[]),
 (140,[]),
 (141,[]),
 (142,[(5,[(0,[]),(1,[]),(2,[]),(3,[]),(4,[]),(5,[3]),(6,[]),(7,[])]),(14,[(0,[]),(1,[]),(2,[]),(3,[]),(4,[]),(5,[]),(6,[]),(7,[]),(8,[]),(10,[]),(9,[5,2]),(11,[5]),(12,[]),(13,[]),(14,[]),(15,[])]),(17,[(0,[]),(1,[]),(2,[]),(3,[]),(4,[]),(5,[]),(6,[]),(7,[5,3]),(8,[]),(9,[5]),(10,[]),(11,[])]),(24,[(0,[]),(1,[]),(2,[]),(3,[]),(4,[2]),(5,[])])]),
 (143,[(5,[(0,[]),(1,[]),(2,[]),(3,[]),(4,[]),(5,[4]),(6,[])])]),
 (144,[]),
 (145,[]),
 (146,[]),
 (147,[]),
 (148,[]),
 (149,[]),
 (150,[]),
 (151,[]),
 (152,[]),
 (153,[]),
 (154,[(10,[(0,[]),(1,[]),(2,[]),(3,[]),(4,[]),(7,[]),(8,[]),(9,[]),(10,[]),(11,[]),(5,[]),(6,[11]),(12,[]),(13,[]),(14,[]),(15,[])])]),
 (155,[]),
 (156,[]),
 (157,[]),
 (158,[]),
 (159,[]),
 (160,[]),
 (161,[(5,[(0,[]),(1,[]),(2,[]),(3,[]),(4,[]),(5,[]),(8,[]),(9,[]),(10,[]),(11,[]),(12,[]),(13,[]),(6,[]),(7,[13]),(14,[]),(15,[]),(16,[]),(17,[])])]),
 (162,[]),
 (163,[]),
 (164,[]),
 (165,[]),
 (166,[]),
 (167,[]),
 (168,[]),
 (169,[]),
 (170,[]),
 (171,[]),
 (172,[]),
 (173,[]),
 (174,[]),
 (175,[]),
 (176,[]),
 (177,[]),
 (178,[(17,[(0,[]),(2,[]),(3,[]),(1,[3]),(4,[]),(5,[]),(6,[]),(7,[])])]),
 (179,[]),
 (180,[]),
 (181,[]),
 (182,[]),
 (183,[]),
 (184,[]),
 (185,[]),
 (186,[(14,[(1,[]),(2,[]),(3,[]),(5,[]),(6,[]),(7,[]),(10,[]),(11,[]),(12,[]),(0,[]),(4,[]),(8,[]),(9,[]),(13,[]),(14,[]),(15,[])])]),
 (187,[]),
 (188,[]),
 (189,[(13,[(1,[]),(2,[]),(3,[]),(5,[]),(8,[]),(9,[]),(10,[]),(0,[]),(4,[5]),(6,[]),(7,[]),(11,[]),(12,[]),(13,[])])]),
 (190,[(30,[(1,[]),(2,[]),(3,[]),(4,[]),(6,[]),(7,[]),(8,[]),(9,[]),(12,[]),(13,[]),(14,[]),(15,[]),(0,[]),(5,[13,7]),(10,[]),(11,[13]),(16,[]),(17,[]),(18,[])]),(31,[(0,[]),(1,[]),(2,[]),(3,[]),(4,[]),(5,[]),(6,[]),(7,[]),(8,[]),(9,[]),(10,[1]),(11,[]),(12,[]),(13,[]),(14,[]),(15,[]),(16,[]),(17,[])])]),
 (191,[(13,[(1,[]),(2,[]),(4,[]),(5,[]),(6,[]),(7,[]),(8,[]),(9,[]),(10,[]),(11,[]),(12,[]),(13,[]),(0,[]),(3,[12,10,9,5]),(14,[]),(15,[]),(16,[]),(17,[])]),(14,[(0,[]),(1,[]),(2,[]),(3,[]),(4,[]),(5,[3]),(6,[])])]),
 (192,[(12,[(0,[]),(1,[]),(2,[]),(3,[]),(4,[]),(5,[]),(6,[]),(8,[]),(9,[]),(7,[9]),(10,[]),(11,[]),(12,[])]),(22,[(0,[]),(1,[]),(2,[1]),(3,[])])]),
 (193,[]),
 (194,[(3,[(0,[]),(1,[]),(3,[]),(4,[]),(2,[4]),(5,[]),(6,[]),(7,[])])]),
 (195,[]),
 (196,[]),
 (197,[]),
 (198,[]),
 (199,[]),
 (200,[]),
 (201,[]),
 (203,[]),
 (204,[]),
 (205,[]),
 (206,[]),
 (207,[(4,[(0,[]),(1,[]),(3,[]),(4,[]),(6,[]),(2,[4]),(5,[]),(7,[]),(8,[]),(9,[]),(10,[])])]),
 (208,[(9,[(0,[]),(1,[]),(2,[]),(3,[]),(4,[]),(5,[]),(6,[3,1]),(7,[]),(8,[]),(9,[]),(10,[])])]),
 (209,[]),
 (210,[]),
 (211,[]),
 (212,[]),
 (213,[]),
 (214,[]),
 (215,[(6,[(0,[]),(1,[]),(2,[]),(3,[]),(4,[]),(5,[4]),(6,[])])]),
 (216,[]),
 (217,[]),
 (218,[]),
 (219,[]),
 (220,[]),
 (222,[]),
 (223,[(7,[(0,[]),(1,[]),(2,[]),(3,[]),(4,[1]),(5,[]),(6,[]),(7,[])])]),
 (224,[]),
 (225,[]),
 (226,[(5,[(0,[]),(1,[]),(2,[]),(5,[]),(6,[]),(7,[]),(3,[]),(4,[7]),(8,[]),(9,[]),(10,[]),(11,[])])]),
 (227,[]),
 (228,[]),
 (229,[]),
 (231,[]),
 (232,[]),
 (233,[]),
 (235,[]),
 (236,[]),
 (238,[]),
 (239,[]),
 (241,[]),
 (242,[(7,[(0,[]),(1,[]),(2,[]),(3,[]),(4,[]),(5,[]),(6,[]),(7,[]),(8,[]),(9,[]),(10,[]),(11,[]),(12,[]),(14,[]),(13,[14]),(15,[]),(16,[]),(17,[])])]),
 (243,[]),
 (244,[]),
 (245,[]),
 (246,[]),
 (249,[(7,[(0,[]),(1,[]),(2,[]),(4,[]),(5,[]),(3,[5]),(6,[]),(7,[])]),(16,[(0,[]),(1,[]),(2,[]),(3,[]),(5,[]),(6,[]),(7,[]),(9,[]),(10,[]),(11,[]),(4,[11,7]),(8,[11]),(12,[]),(13,[])]),(20,[(0,[]),(1,[]),(2,[]),(4,[]),(5,[]),(7,[]),(8,[]),(9,[]),(3,[9,8,5]),(6,[9,8]),(10,[]),(11,[])]),(27,[(0,[]),(1,[]),(2,[]),(4,[]),(5,[]),(7,[]),(8,[]),(10,[]),(11,[]),(3,[11,8,5]),(6,[11,8]),(9,[11]),(12,[]),(13,[])]),(31,[(0,[]),(1,[]),(2,[]),(4,[]),(5,[]),(7,[]),(8,[]),(9,[]),(11,[]),(12,[]),(13,[]),(3,[13,9,5]),(6,[13,9]),(10,[13]),(14,[]),(15,[])])]),
 (250,[]),
 (251,[]),
 (252,[]),
 (253,[]),
 (254,[]),
 (258,[]),
 (259,[]),
 (260,[]),
 (263,[]),
 (268,[]),
 (269,[]),
 (270,[]),
 (271,[]),
 (273,[]),
 (278,[]),
 (279,[]),
 (286,[]),
 (287,[]),
 (307,[]),
 (308,[]),
 (309,[]),
 (310,[]),
 (311,[]),
 (312,[]),
 (313,[]),
 (314,[])]
def dVl:On Nat:=[3,4,5,6,7,8,9,10,11,12,13,14,15,16,17,18,19,21,22,23,24,25,26,27,28,30,31,32,33,34,35,36,37,38,40,41,42,43,44,45,46,47,48,49,50,51,52,53,54,55,56,57,58,59,62,64,68,69,70,73,74,75,76,77,78,80,81,82,83,84,85,86,87,88,89,90,91,103,104,105,107,108,109,110,111,112,113,114,115,116,117,118,119,120,122,123,124,126,127,128,129,130,131,132,133,134,135,136,137,139,140,141,142,143,144,145,146,147,148,150,151,158,159,160,161,162,163,164,165,166,167,168,169,170,173,174,175,177,178,182,185,186,187,188,189,190,191,192,193,194,195,196,197,198,199,200,201,203,204,205,206,207,208,213,214,215,216,217,218,219,220,222,223,224,225,226,227,228,229,231,232,233,236,238,241,242,243,244,245,246,249,253,254,258,260,263,268,271,273,278,279,286,287,307,308,309,310,311,312,313,314]
def dOl:On (Nat×On Nat):=[(235,[0]),(102,[2]),(157,[999]),(121,[999])]
noncomputable def lS:kA:=tN prog dSp bBq dVl dOl
end Go.Proofs.YtoaibmbldmckaaaGreat
end
section
namespace Go.Proofs.YtoaibmbldmckaaaGreat
open Go.RowKit Go.AM Tryz
def aWl:kE:=[
 (3,[]),
 (4,[(4,[(0,[]),(2,[]),(1,[2]),(3,[]),(4,[]),(5,[]),(6,[]),(7,[]),(8,[]),(9,[]),(10,[]),(11,[]),(12,[]),(13,[])])]),
 (5,[(10,[(0,[]),(1,[]),(2,[1]),(3,[])])]),
 (6,[(8,[(0,[]),(2,[]),(1,[2]),(3,[]),(4,[]),(5,[]),(6,[]),(7,[]),(8,[]),(9,[]),(10,[]),(11,[]),(12,[]),(13,[]),(14,[]),(15,[])])]),
 (7,[]),
 (8,[(7,[(1,[]),(2,[]),(3,[]),(4,[]),(6,[]),(7,[]),(8,[]),(9,[]),(10,[]),(0,[]),(5,[7]),(11,[]),(12,[])]),(15,[(0,[]),(1,[0]),(2,[0]),(3,[]),(4,[]),(5,[]),(6,[]),(7,[]),(8,[])])]),
 (9,[]),
 (10,[]),
 (11,[]),
 (12,[]),
 (13,[(2,[(0,[]),(2,[]),(1,[2]),(3,[]),(4,[]),(5,[]),(6,[]),(7,[]),(8,[]),(9,[]),(10,[]),(11,[]),(12,[]),(13,[]),(14,[])])]),
 (14,[]),
 (15,[(5,[(0,[]),(1,[]),(2,[0]),(3,[]),(4,[]),(5,[]),(6,[]),(7,[]),(8,[]),(9,[])]),(6,[(0,[]),(1,[]),(2,[0]),(3,[]),(4,[]),(5,[]),(6,[]),(7,[]),(8,[]),(9,[])])]),
 (16,[(3,[(0,[]),(2,[]),(1,[2]),(3,[]),(4,[]),(5,[])]),(4,[(0,[]),(1,[]),(2,[]),(3,[]),(4,[]),(5,[]),(6,[]),(7,[]),(8,[]),(9,[]),(10,[]),(12,[]),(13,[]),(11,[13,12]),(14,[]),(15,[]),(16,[]),(17,[]),(18,[]),(19,[]),(20,[])])]),
 (17,[(32,[(0,[]),(1,[]),(2,[]),(3,[]),(4,[]),(5,[]),(6,[]),(7,[]),(8,[]),(9,[]),(10,[]),(11,[]),(12,[]),(13,[]),(14,[]),(15,[]),(16,[]),(17,[]),(18,[]),(19,[]),(20,[]),(21,[]),(22,[]),(23,[]),(24,[]),(25,[]),(26,[]),(27,[]),(28,[25,23]),(29,[]),(30,[]),(31,[25,23]),(32,[]),(33,[]),(34,[25]),(35,[]),(36,[]),(37,[])])]),
 (18,[])]
theorem aTs:jJ prog aWl=true:=by kernel_rfl
def aWm:kE:=[
 (19,[]),
 (20,[]),
 (21,[]),
 (22,[]),
 (23,[]),
 (24,[]),
 (25,[(6,[(0,[]),(1,[]),(2,[]),(3,[]),(4,[]),(5,[]),(6,[]),(7,[]),(8,[]),(9,[8]),(10,[]),(11,[]),(12,[]),(13,[]),(14,[]),(15,[]),(16,[]),(17,[]),(18,[]),(19,[]),(20,[]),(21,[]),(22,[]),(23,[]),(24,[])])]),
 (26,[]),
 (27,[]),
 (28,[]),
 (29,[(7,[(0,[]),(1,[]),(2,[]),(3,[]),(4,[]),(5,[]),(6,[]),(8,[]),(9,[]),(10,[]),(11,[]),(12,[]),(13,[]),(15,[]),(16,[]),(17,[]),(18,[]),(19,[]),(20,[]),(7,[20,16,13,9]),(14,[20,16]),(21,[]),(22,[])]),(12,[(0,[]),(1,[]),(2,[]),(3,[]),(4,[]),(5,[]),(6,[]),(8,[]),(9,[]),(10,[]),(11,[]),(12,[]),(13,[]),(15,[]),(16,[]),(17,[]),(18,[]),(19,[]),(20,[]),(7,[20,16,13,9]),(14,[20,16]),(21,[]),(22,[])]),(18,[(0,[]),(1,[]),(2,[]),(3,[]),(5,[]),(6,[]),(4,[6]),(7,[]),(8,[])]),(19,[(0,[]),(1,[]),(2,[]),(3,[]),(5,[]),(6,[]),(7,[]),(4,[7]),(8,[]),(9,[])]),(25,[(0,[]),(1,[]),(2,[]),(4,[]),(5,[]),(7,[]),(8,[]),(3,[8,5]),(6,[8]),(9,[]),(10,[])]),(30,[(0,[]),(1,[]),(2,[]),(3,[]),(4,[]),(5,[]),(6,[]),(8,[]),(9,[]),(10,[]),(11,[]),(12,[]),(13,[]),(15,[]),(16,[]),(17,[]),(18,[]),(19,[]),(20,[]),(7,[20,16,13,9]),(14,[20,16]),(21,[]),(22,[])])]),
 (30,[]),
 (31,[]),
 (32,[]),
 (33,[(3,[(0,[]),(1,[0]),(2,[]),(3,[])]),(5,[(0,[]),(1,[0]),(2,[]),(3,[])]),(10,[(0,[]),(1,[]),(2,[0]),(3,[]),(4,[])]),(12,[(0,[]),(1,[]),(2,[1]),(3,[])]),(17,[(0,[]),(1,[]),(2,[1]),(3,[])])]),
 (34,[(9,[(1,[]),(2,[]),(4,[]),(5,[]),(6,[]),(0,[]),(3,[5]),(7,[]),(8,[]),(9,[]),(10,[])]),(11,[(0,[]),(1,[]),(2,[]),(3,[]),(4,[]),(5,[2]),(6,[])]),(16,[(0,[]),(1,[]),(2,[1]),(3,[])]),(21,[(0,[]),(1,[]),(2,[1]),(3,[])])])]
theorem aTt:jJ prog aWm=true:=by kernel_rfl
def aWn:kE:=[
 (35,[]),
 (36,[]),
 (37,[]),
 (38,[]),
 (39,[]),
 (40,[]),
 (41,[(10,[(0,[]),(1,[]),(3,[]),(2,[3]),(4,[]),(5,[]),(6,[]),(7,[]),(8,[]),(10,[]),(9,[10]),(11,[]),(12,[]),(13,[])]),(19,[(1,[]),(2,[]),(3,[]),(5,[]),(6,[]),(7,[]),(8,[]),(9,[]),(12,[]),(13,[]),(14,[]),(0,[]),(4,[8,6]),(10,[]),(11,[]),(15,[]),(16,[])])]),
 (42,[]),
 (43,[]),
 (44,[(3,[(0,[]),(1,[0]),(2,[0]),(3,[]),(4,[]),(5,[]),(6,[]),(7,[]),(8,[])]),(4,[(0,[]),(1,[0]),(2,[0]),(3,[]),(4,[]),(5,[]),(6,[]),(7,[]),(8,[])])]),
 (45,[]),
 (46,[]),
 (47,[]),
 (48,[]),
 (49,[]),
 (50,[])]
theorem aTu:jJ prog aWn=true:=by kernel_rfl
def aWo:kE:=[
 (51,[]),
 (52,[]),
 (53,[]),
 (54,[(7,[(0,[]),(1,[]),(3,[]),(4,[]),(6,[]),(2,[4]),(5,[]),(7,[]),(8,[]),(9,[]),(10,[])])]),
 (55,[]),
 (56,[]),
 (57,[]),
 (58,[]),
 (59,[]),
 (60,[]),
 (61,[]),
 (62,[]),
 (63,[]),
 (64,[]),
 (65,[]),
 (66,[])]
theorem aTv:jJ prog aWo=true:=by kernel_rfl
def aWp:kE:=[
 (67,[]),
 (68,[]),
 (69,[]),
 (70,[]),
 (71,[]),
 (72,[]),
 (73,[]),
 (74,[]),
 (75,[]),
 (76,[]),
 (77,[]),
 (78,[]),
 (79,[]),
 (80,[]),
 (81,[]),
 (82,[])]
theorem aTw:jJ prog aWp=true:=by kernel_rfl
def aWq:kE:=[
 (83,[]),
 (84,[]),
 (85,[]),
 (86,[]),
 (87,[]),
 (88,[]),
 (89,[]),
 (90,[]),
 (91,[]),
 (92,[]),
 (93,[]),
 (94,[]),
 (95,[]),
 (96,[]),
 (97,[]),
 (98,[(1,[(0,[]),(1,[]),(2,[]),(4,[]),(5,[]),(7,[]),(8,[]),(3,[8,5]),(6,[8]),(9,[]),(10,[])])])]
theorem aTx:jJ prog aWq=true:=by kernel_rfl
def aWr:kE:=[
 (99,[]),
 (100,[]),
 (101,[(1,[(0,[]),(1,[]),(2,[]),(4,[]),(5,[]),(7,[]),(8,[]),(3,[8,5]),(6,[8]),(9,[]),(10,[])])]),
 (102,[(9,[(0,[]),(1,[]),(2,[]),(3,[]),(4,[]),(5,[]),(6,[]),(7,[]),(8,[]),(9,[]),(10,[1]),(11,[]),(12,[]),(13,[]),(14,[])])]),
 (103,[]),
 (104,[(2,[(0,[]),(1,[0]),(2,[]),(3,[])]),(5,[(0,[]),(1,[]),(2,[0]),(3,[]),(4,[])]),(9,[(0,[]),(1,[]),(2,[1]),(3,[])])]),
 (105,[]),
 (106,[]),
 (107,[(8,[(0,[]),(1,[]),(2,[]),(3,[]),(4,[]),(5,[]),(6,[]),(7,[]),(8,[5]),(9,[]),(10,[]),(11,[])])]),
 (108,[(5,[(0,[]),(1,[]),(2,[]),(3,[]),(4,[]),(5,[3]),(6,[]),(7,[])]),(12,[(0,[]),(1,[]),(2,[]),(3,[]),(4,[]),(5,[3]),(6,[]),(7,[])]),(15,[(0,[]),(1,[]),(2,[]),(3,[]),(4,[]),(5,[]),(6,[]),(7,[5,3]),(8,[]),(9,[5]),(10,[]),(11,[])])]),
 (109,[]),
 (110,[(33,[(1,[]),(2,[]),(3,[]),(4,[]),(6,[]),(7,[]),(8,[]),(9,[]),(10,[]),(0,[]),(5,[7]),(11,[]),(12,[]),(13,[])]),(44,[(0,[]),(1,[]),(2,[1]),(3,[])])]),
 (111,[(4,[(0,[]),(1,[]),(2,[]),(3,[]),(4,[]),(5,[]),(6,[]),(7,[]),(8,[5]),(9,[]),(10,[]),(11,[])])]),
 (112,[]),
 (113,[]),
 (114,[])]
theorem aTy:jJ prog aWr=true:=by kernel_rfl
def aWs:kE:=[
 (115,[]),
 (116,[]),
 (117,[]),
 (118,[(1,[(0,[]),(1,[]),(2,[]),(3,[]),(4,[]),(5,[]),(6,[]),(7,[]),(8,[]),(9,[]),(10,[]),(11,[]),(12,[]),(13,[]),(14,[]),(15,[]),(16,[]),(17,[]),(18,[]),(19,[]),(20,[15]),(21,[]),(22,[]),(23,[])])]),
 (119,[]),
 (120,[(19,[(0,[]),(1,[]),(2,[]),(3,[]),(4,[]),(5,[]),(6,[]),(7,[]),(8,[]),(9,[]),(10,[]),(11,[]),(12,[]),(13,[]),(15,[]),(16,[]),(17,[]),(18,[]),(19,[]),(14,[19]),(20,[]),(21,[]),(22,[]),(23,[]),(24,[]),(25,[]),(26,[]),(27,[]),(28,[]),(29,[]),(30,[]),(31,[]),(32,[]),(33,[]),(34,[]),(35,[]),(36,[]),(37,[]),(38,[]),(39,[]),(40,[]),(41,[]),(42,[]),(43,[]),(44,[]),(45,[]),(46,[]),(47,[]),(48,[])])]),
 (121,[]),
 (122,[(11,[(1,[]),(2,[]),(3,[]),(5,[]),(6,[]),(7,[]),(8,[]),(9,[]),(10,[]),(13,[]),(14,[]),(15,[]),(0,[]),(4,[9]),(11,[]),(12,[]),(16,[]),(17,[])])]),
 (123,[(1,[(0,[]),(1,[]),(2,[]),(3,[]),(4,[]),(5,[]),(6,[]),(7,[]),(8,[]),(9,[]),(10,[]),(11,[]),(12,[]),(13,[]),(14,[]),(15,[]),(16,[]),(17,[]),(18,[]),(19,[]),(20,[]),(21,[]),(22,[]),(23,[]),(24,[]),(25,[]),(26,[]),(27,[]),(28,[]),(29,[]),(30,[25]),(31,[]),(32,[]),(33,[])])]),
 (124,[(1,[(0,[]),(1,[]),(2,[]),(3,[]),(4,[]),(5,[]),(6,[]),(7,[]),(9,[]),(8,[9]),(10,[]),(11,[]),(12,[]),(13,[])])]),
 (125,[]),
 (126,[]),
 (127,[]),
 (128,[]),
 (129,[]),
 (130,[])]
theorem aTz:jJ prog aWs=true:=by kernel_rfl
def aWt:kE:=[
 (131,[]),
 (132,[]),
 (133,[]),
 (134,[]),
 (135,[]),
 (136,[]),
 (137,[]),
 (138,[]),
 (139,[]),
 (140,[]),
 (141,[]),
 (142,[(5,[(0,[]),(1,[]),(2,[]),(3,[]),(4,[]),(5,[3]),(6,[]),(7,[])]),(14,[(0,[]),(1,[]),(2,[]),(3,[]),(4,[]),(5,[]),(6,[]),(7,[]),(8,[]),(10,[]),(9,[5,2]),(11,[5]),(12,[]),(13,[]),(14,[]),(15,[])]),(17,[(0,[]),(1,[]),(2,[]),(3,[]),(4,[]),(5,[]),(6,[]),(7,[5,3]),(8,[]),(9,[5]),(10,[]),(11,[])]),(24,[(0,[]),(1,[]),(2,[]),(3,[]),(4,[2]),(5,[])])]),
 (143,[(5,[(0,[]),(1,[]),(2,[]),(3,[]),(4,[]),(5,[4]),(6,[])])]),
 (144,[]),
 (145,[]),
 (146,[])]
theorem aU0:jJ prog aWt=true:=by kernel_rfl
def aWu:kE:=[
 (147,[]),
 (148,[]),
 (149,[]),
 (150,[]),
 (151,[]),
 (152,[]),
 (153,[]),
 (154,[(10,[(0,[]),(1,[]),(2,[]),(3,[]),(4,[]),(7,[]),(8,[]),(9,[]),(10,[]),(11,[]),(5,[]),(6,[11]),(12,[]),(13,[]),(14,[]),(15,[])])]),
 (155,[]),
 (156,[]),
 (157,[]),
 (158,[]),
 (159,[]),
 (160,[]),
 (161,[(5,[(0,[]),(1,[]),(2,[]),(3,[]),(4,[]),(5,[]),(8,[]),(9,[]),(10,[]),(11,[]),(12,[]),(13,[]),(6,[]),(7,[13]),(14,[]),(15,[]),(16,[]),(17,[])])]),
 (162,[])]
theorem aU1:jJ prog aWu=true:=by kernel_rfl
def aQk:kE:=[
 (163,[]),
 (164,[]),
 (165,[]),
 (166,[]),
 (167,[]),
 (168,[]),
 (169,[]),
 (170,[]),
 (171,[]),
 (172,[]),
 (173,[]),
 (174,[]),
 (175,[]),
 (176,[]),
 (177,[]),
 (178,[(17,[(0,[]),(2,[]),(3,[]),(1,[3]),(4,[]),(5,[]),(6,[]),(7,[])])])]
theorem aOr:jJ prog aQk=true:=by kernel_rfl
def aQl:kE:=[
 (179,[]),
 (180,[]),
 (181,[]),
 (182,[]),
 (183,[]),
 (184,[]),
 (185,[]),
 (186,[(14,[(1,[]),(2,[]),(3,[]),(5,[]),(6,[]),(7,[]),(10,[]),(11,[]),(12,[]),(0,[]),(4,[]),(8,[]),(9,[]),(13,[]),(14,[]),(15,[])])]),
 (187,[]),
 (188,[]),
 (189,[(13,[(1,[]),(2,[]),(3,[]),(5,[]),(8,[]),(9,[]),(10,[]),(0,[]),(4,[5]),(6,[]),(7,[]),(11,[]),(12,[]),(13,[])])]),
 (190,[(30,[(1,[]),(2,[]),(3,[]),(4,[]),(6,[]),(7,[]),(8,[]),(9,[]),(12,[]),(13,[]),(14,[]),(15,[]),(0,[]),(5,[13,7]),(10,[]),(11,[13]),(16,[]),(17,[]),(18,[])]),(31,[(0,[]),(1,[]),(2,[]),(3,[]),(4,[]),(5,[]),(6,[]),(7,[]),(8,[]),(9,[]),(10,[1]),(11,[]),(12,[]),(13,[]),(14,[]),(15,[]),(16,[]),(17,[])])]),
 (191,[(13,[(1,[]),(2,[]),(4,[]),(5,[]),(6,[]),(7,[]),(8,[]),(9,[]),(10,[]),(11,[]),(12,[]),(13,[]),(0,[]),(3,[12,10,9,5]),(14,[]),(15,[]),(16,[]),(17,[])]),(14,[(0,[]),(1,[]),(2,[]),(3,[]),(4,[]),(5,[3]),(6,[])])]),
 (192,[(12,[(0,[]),(1,[]),(2,[]),(3,[]),(4,[]),(5,[]),(6,[]),(8,[]),(9,[]),(7,[9]),(10,[]),(11,[]),(12,[])]),(22,[(0,[]),(1,[]),(2,[1]),(3,[])])]),
 (193,[]),
 (194,[(3,[(0,[]),(1,[]),(3,[]),(4,[]),(2,[4]),(5,[]),(6,[]),(7,[])])])]
theorem aOs:jJ prog aQl=true:=by kernel_rfl
def aQm:kE:=[
 (195,[]),
 (196,[]),
 (197,[]),
 (198,[]),
 (199,[]),
 (200,[]),
 (201,[]),
 (203,[]),
 (204,[]),
 (205,[]),
 (206,[]),
 (207,[(4,[(0,[]),(1,[]),(3,[]),(4,[]),(6,[]),(2,[4]),(5,[]),(7,[]),(8,[]),(9,[]),(10,[])])]),
 (208,[(9,[(0,[]),(1,[]),(2,[]),(3,[]),(4,[]),(5,[]),(6,[3,1]),(7,[]),(8,[]),(9,[]),(10,[])])]),
 (209,[]),
 (210,[]),
 (211,[])]
theorem aOt:jJ prog aQm=true:=by kernel_rfl
def aQn:kE:=[
 (212,[]),
 (213,[]),
 (214,[]),
 (215,[(6,[(0,[]),(1,[]),(2,[]),(3,[]),(4,[]),(5,[4]),(6,[])])]),
 (216,[]),
 (217,[]),
 (218,[]),
 (219,[]),
 (220,[]),
 (222,[]),
 (223,[(7,[(0,[]),(1,[]),(2,[]),(3,[]),(4,[1]),(5,[]),(6,[]),(7,[])])]),
 (224,[]),
 (225,[]),
 (226,[(5,[(0,[]),(1,[]),(2,[]),(5,[]),(6,[]),(7,[]),(3,[]),(4,[7]),(8,[]),(9,[]),(10,[]),(11,[])])]),
 (227,[]),
 (228,[])]
theorem aOu:jJ prog aQn=true:=by kernel_rfl
def aQo:kE:=[
 (229,[]),
 (231,[]),
 (232,[]),
 (233,[]),
 (235,[]),
 (236,[]),
 (238,[]),
 (239,[]),
 (241,[]),
 (242,[(7,[(0,[]),(1,[]),(2,[]),(3,[]),(4,[]),(5,[]),(6,[]),(7,[]),(8,[]),(9,[]),(10,[]),(11,[]),(12,[]),(14,[]),(13,[14]),(15,[]),(16,[]),(17,[])])]),
 (243,[]),
 (244,[]),
 (245,[]),
 (246,[]),
 (249,[(7,[(0,[]),(1,[]),(2,[]),(4,[]),(5,[]),(3,[5]),(6,[]),(7,[])]),(16,[(0,[]),(1,[]),(2,[]),(3,[]),(5,[]),(6,[]),(7,[]),(9,[]),(10,[]),(11,[]),(4,[11,7]),(8,[11]),(12,[]),(13,[])]),(20,[(0,[]),(1,[]),(2,[]),(4,[]),(5,[]),(7,[]),(8,[]),(9,[]),(3,[9,8,5]),(6,[9,8]),(10,[]),(11,[])]),(27,[(0,[]),(1,[]),(2,[]),(4,[]),(5,[]),(7,[]),(8,[]),(10,[]),(11,[]),(3,[11,8,5]),(6,[11,8]),(9,[11]),(12,[]),(13,[])]),(31,[(0,[]),(1,[]),(2,[]),(4,[]),(5,[]),(7,[]),(8,[]),(9,[]),(11,[]),(12,[]),(13,[]),(3,[13,9,5]),(6,[13,9]),(10,[13]),(14,[]),(15,[])])]),
 (250,[])]
theorem aOv:jJ prog aQo=true:=by kernel_rfl
def aQp:kE:=[
 (251,[]),
 (252,[]),
 (253,[]),
 (254,[]),
 (258,[]),
 (259,[]),
 (260,[]),
 (263,[]),
 (268,[]),
 (269,[]),
 (270,[]),
 (271,[]),
 (273,[]),
 (278,[]),
 (279,[]),
 (286,[])]
theorem aOw:jJ prog aQp=true:=by kernel_rfl
def aQq:kE:=[
 (287,[]),
 (307,[]),
 (308,[]),
 (309,[]),
 (310,[]),
 (311,[]),
 (312,[]),
 (313,[]),
 (314,[])]
theorem aOx:jJ prog aQq=true:=by kernel_rfl
end Go.Proofs.YtoaibmbldmckaaaGreat
end
section
namespace Go.Proofs.YtoaibmbldmckaaaGreat
open Go.AM Tryz
section
noncomputable abbrev C:aL:=W prog lS
abbrev Fv(f:Nat)(args:On V)(v:V):Prop:=Go.AM.Fn prog lS f args v
abbrev Fr(f:Nat)(mk:Nat->On V)(n:Nat)(pre:On V)(v:V)(post:On V):Prop:=Go.AM.FnR prog lS f mk 0 n [pre] v [post]
theorem A2{p q:Prop}(a:p)(b:q):p/\q:=⟨a,b⟩
abbrev TP:=On (Nat×On bY)
abbrev TL:=On (Nat×On Nat)
abbrev VA(f:Nat)(fn:Un)(tp:TP)(tl:TL):Prop:=∀{args:On V} {v:V},cloVs args=OB->(aCt prog C fn tp tl args ⟨0,.nil⟩ λv0 S0=>eX S0 v0=.ok v)->Fv f args v
abbrev VB(f:Nat)(fn:Un)(tp:TP)(tl:TL):Prop:=∀{args:On V} {S:St} {K:KW},aCt prog C fn tp tl args S K->C f args S K
abbrev VC(f:Nat)(fn:Un)(tp:TP)(tl:TL)(w:On Nat):Prop:=∀{args:On V} {S:St} {K:KW},cloVs args=OB->(aCt prog C fn tp tl args ⟨0,.nil⟩ λv0 S0=>wR (hl (vT w v0 S0 S)) λr=>K r.1 r.2)->C f args S K
abbrev VT(f:Nat)(fn:Un)(tp:TP)(tl:TL):Prop:=∀(args:On V) (S:St) (K:KW),dR prog C (dD tp) (dY tl) f args S K=aCt prog C fn tp tl args S K
abbrev VK(f:Nat)(fn:Un)(tp:TP)(tl:TL):Prop:=∀{bs:On V} {v:V},(aCt prog C fn tp tl bs ⟨0,.nil⟩ λv0 S0=>aEl S0 v0=OB/\eX S0 v0=.ok v)->FnK prog lS f bs v
section
variable{f:Nat}{fn:Un}{tp:TP}{tl:TL}
theorem va(hp:lS f=Ot (.val (dD tp)):=by kernel_rfl)(hb:aAv prog f=Ot (aFd fn):=by kernel_rfl):VA f fn tp tl:=λhc h=>bJm hp hb hc h
theorem vb(hp:lS f=Ot (.code (dD tp)))(hb:aAv prog f=Ot (aFd fn)):VB f fn tp tl:=λh=>bHr hp hb h
theorem vt(hb:aAv prog f=Ot (aFd fn):=by kernel_rfl):VT f fn tp tl:=λargs S K=>by unfold dR;rw[hb];rfl
theorem vc{w:On Nat}(hp:lS f=Ot (.own (dD tp) w))(hb:aAv prog f=Ot (aFd fn))(hm:iT kpN w=OA):VC f fn tp tl w:=λhc h=>bJj (p:=dD tp) (lv:=dY tl) hp hm hc (by rw[vt (tp:=tp) (tl:=tl) hb];exact h)
theorem vk(hp:lS f=Ot (.own (dD tp) [kpN]))(hb:aAv prog f=Ot (aFd fn)):VK f fn tp tl:=λh=>FnK.of (p:=dD tp) (lv:=dY tl) hp (by rw[vt (tp:=tp) (tl:=tl) hb];exact h)
end
theorem v20:VB 20 Tryz.f20 [] []:=vb (by kernel_rfl) (by kernel_rfl)
theorem v22:VA 22 Tryz.f22 [] []:=va
theorem v24:VA 24 Tryz.f24 [] []:=va
theorem bJn:lS 24=Ot (.val (dD [])):=by kernel_rfl
theorem v29:VB 29 Tryz.f29 [(7,[(0,[]),(1,[]),(2,[]),(3,[]),(4,[]),(5,[]),(6,[]),(8,[]),(9,[]),(10,[]),(11,[]),(12,[]),(13,[]),(15,[]),(16,[]),(17,[]),(18,[]),(19,[]),(20,[]),(7,[20,16,13,9]),(14,[20,16]),(21,[]),(22,[])]),(12,[(0,[]),(1,[]),(2,[]),(3,[]),(4,[]),(5,[]),(6,[]),(8,[]),(9,[]),(10,[]),(11,[]),(12,[]),(13,[]),(15,[]),(16,[]),(17,[]),(18,[]),(19,[]),(20,[]),(7,[20,16,13,9]),(14,[20,16]),(21,[]),(22,[])]),(18,[(0,[]),(1,[]),(2,[]),(3,[]),(5,[]),(6,[]),(4,[6]),(7,[]),(8,[])]),(19,[(0,[]),(1,[]),(2,[]),(3,[]),(5,[]),(6,[]),(7,[]),(4,[7]),(8,[]),(9,[])]),(25,[(0,[]),(1,[]),(2,[]),(4,[]),(5,[]),(7,[]),(8,[]),(3,[8,5]),(6,[8]),(9,[]),(10,[])]),(30,[(0,[]),(1,[]),(2,[]),(3,[]),(4,[]),(5,[]),(6,[]),(8,[]),(9,[]),(10,[]),(11,[]),(12,[]),(13,[]),(15,[]),(16,[]),(17,[]),(18,[]),(19,[]),(20,[]),(7,[20,16,13,9]),(14,[20,16]),(21,[]),(22,[])])] [(28,[3,10]),(22,[3,8]),(15,[3,6]),(10,[3,5]),(5,[3,4])]:=vb (by kernel_rfl) (by kernel_rfl)
theorem v31:VA 31 Tryz.f31 [] []:=va
theorem v35:VA 35 Tryz.f35 [] [(4,[6,14])]:=va
theorem v45:VA 45 Tryz.f45 [] []:=va
theorem v60:VB 60 Tryz.f60 [] []:=vb (by kernel_rfl) (by kernel_rfl)
theorem v61:VB 61 Tryz.f61 [] [(3,[7,11])]:=vb (by kernel_rfl) (by kernel_rfl)
theorem v63:VB 63 Tryz.f63 [] [(3,[7,11])]:=vb (by kernel_rfl) (by kernel_rfl)
theorem v65:VB 65 Tryz.f65 [] [(3,[7,11])]:=vb (by kernel_rfl) (by kernel_rfl)
theorem v66:VB 66 Tryz.f66 [] []:=vb (by kernel_rfl) (by kernel_rfl)
theorem v67:VB 67 Tryz.f67 [] [(3,[7,11])]:=vb (by kernel_rfl) (by kernel_rfl)
theorem v71:VB 71 Tryz.f71 [] [(17,[2,91]),(2,[2,15])]:=vb (by kernel_rfl) (by kernel_rfl)
theorem v72:VB 72 Tryz.f72 [] []:=vb (by kernel_rfl) (by kernel_rfl)
theorem v79:VB 79 Tryz.f79 [] [(24,[16]),(12,[3,8]),(2,[3,4])]:=vb (by kernel_rfl) (by kernel_rfl)
theorem v80:VA 80 Tryz.f80 [] [(4,[4,5])]:=va
theorem v81:VA 81 Tryz.f81 [] [(4,[4,5])]:=va
theorem v82:VA 82 Tryz.f82 [] [(4,[4,5])]:=va
theorem v83:VA 83 Tryz.f83 [] [(4,[4,5])]:=va
theorem v84:VA 84 Tryz.f84 [] [(4,[4,5])]:=va
theorem v85:VA 85 Tryz.f85 [] [(4,[2,10])]:=va
theorem v86:VA 86 Tryz.f86 [] [(4,[2,10])]:=va
theorem v87:VA 87 Tryz.f87 [] []:=va
theorem v88:VA 88 Tryz.f88 [] [(16,[2,58]),(5,[2,14])]:=va
theorem v89:VA 89 Tryz.f89 [] [(13,[2,38]),(3,[2,12])]:=va
theorem v90:VA 90 Tryz.f90 [] [(3,[2,3,4,11])]:=va
theorem v91:VA 91 Tryz.f91 [] [(4,[4,13])]:=va
theorem v97:VB 97 Tryz.f97 [] [(3,[5,6])]:=vb (by kernel_rfl) (by kernel_rfl)
theorem v98:VB 98 Tryz.f98 [(1,[(0,[]),(1,[]),(2,[]),(4,[]),(5,[]),(7,[]),(8,[]),(3,[8,5]),(6,[8]),(9,[]),(10,[])])] []:=vb (by kernel_rfl) (by kernel_rfl)
theorem v99:VB 99 Tryz.f99 [] []:=vb (by kernel_rfl) (by kernel_rfl)
theorem bQv:VB 100 Tryz.f100 [] []:=vb (by kernel_rfl) (by kernel_rfl)
theorem bQw:VB 101 Tryz.f101 [(1,[(0,[]),(1,[]),(2,[]),(4,[]),(5,[]),(7,[]),(8,[]),(3,[8,5]),(6,[8]),(9,[]),(10,[])])] []:=vb (by kernel_rfl) (by kernel_rfl)
theorem bQx:VC 102 Tryz.f102 [(9,[(0,[]),(1,[]),(2,[]),(3,[]),(4,[]),(5,[]),(6,[]),(7,[]),(8,[]),(9,[]),(10,[1]),(11,[]),(12,[]),(13,[]),(14,[])])] [(7,[27])] [2]:=vc (by kernel_rfl) (by kernel_rfl) rfl
theorem bQy:VA 103 Tryz.f103 [] []:=va
theorem bQz:VA 104 Tryz.f104 [(2,[(0,[]),(1,[0]),(2,[]),(3,[])]),(5,[(0,[]),(1,[]),(2,[0]),(3,[]),(4,[])]),(9,[(0,[]),(1,[]),(2,[1]),(3,[])])] []:=va
theorem bJo:lS 104=Ot (.val (dD [(2,[(0,[]),(1,[0]),(2,[]),(3,[])]),(5,[(0,[]),(1,[]),(2,[0]),(3,[]),(4,[])]),(9,[(0,[]),(1,[]),(2,[1]),(3,[])])])):=by kernel_rfl
theorem bR0:VA 105 Tryz.f105 [] []:=va
theorem bR1:VB 106 Tryz.f106 [] []:=vb (by kernel_rfl) (by kernel_rfl)
theorem bR2:VA 107 Tryz.f107 [(8,[(0,[]),(1,[]),(2,[]),(3,[]),(4,[]),(5,[]),(6,[]),(7,[]),(8,[5]),(9,[]),(10,[]),(11,[])])] []:=va
theorem bR3:VA 114 Tryz.f114 [] [(4,[2,3])]:=va
theorem bR4:VA 115 Tryz.f115 [] [(4,[2,3])]:=va
theorem bR5:VA 116 Tryz.f116 [] [(4,[2,3])]:=va
theorem bR6:VA 117 Tryz.f117 [] [(2,[4,5])]:=va
theorem bR7:VA 118 Tryz.f118 [(1,[(0,[]),(1,[]),(2,[]),(3,[]),(4,[]),(5,[]),(6,[]),(7,[]),(8,[]),(9,[]),(10,[]),(11,[]),(12,[]),(13,[]),(14,[]),(15,[]),(16,[]),(17,[]),(18,[]),(19,[]),(20,[15]),(21,[]),(22,[]),(23,[])])] []:=va
theorem bR8:VA 120 Tryz.f120 [(19,[(0,[]),(1,[]),(2,[]),(3,[]),(4,[]),(5,[]),(6,[]),(7,[]),(8,[]),(9,[]),(10,[]),(11,[]),(12,[]),(13,[]),(15,[]),(16,[]),(17,[]),(18,[]),(19,[]),(14,[19]),(20,[]),(21,[]),(22,[]),(23,[]),(24,[]),(25,[]),(26,[]),(27,[]),(28,[]),(29,[]),(30,[]),(31,[]),(32,[]),(33,[]),(34,[]),(35,[]),(36,[]),(37,[]),(38,[]),(39,[]),(40,[]),(41,[]),(42,[]),(43,[]),(44,[]),(45,[]),(46,[]),(47,[]),(48,[])])] [(22,[4,11]),(15,[4,8]),(4,[6,7])]:=va
theorem bR9:VK 121 Tryz.f121 [] [(3,[2,3,4,5])]:=vk (by kernel_rfl) (by kernel_rfl)
theorem bRa:VA 123 Tryz.f123 [(1,[(0,[]),(1,[]),(2,[]),(3,[]),(4,[]),(5,[]),(6,[]),(7,[]),(8,[]),(9,[]),(10,[]),(11,[]),(12,[]),(13,[]),(14,[]),(15,[]),(16,[]),(17,[]),(18,[]),(19,[]),(20,[]),(21,[]),(22,[]),(23,[]),(24,[]),(25,[]),(26,[]),(27,[]),(28,[]),(29,[]),(30,[25]),(31,[]),(32,[]),(33,[])])] []:=va
theorem bRb:VA 124 Tryz.f124 [(1,[(0,[]),(1,[]),(2,[]),(3,[]),(4,[]),(5,[]),(6,[]),(7,[]),(9,[]),(8,[9]),(10,[]),(11,[]),(12,[]),(13,[])])] []:=va
theorem bRc:VA 126 Tryz.f126 [] [(6,[4,5])]:=va
theorem bRd:VA 127 Tryz.f127 [] []:=va
theorem bRe:VA 131 Tryz.f131 [] []:=va
theorem bRf:VA 132 Tryz.f132 [] []:=va
theorem bRg:VB 149 Tryz.f149 [] [(3,[7,11])]:=vb (by kernel_rfl) (by kernel_rfl)
theorem bJp:VB 152 Tryz.f152 [] [(2,[4,8])]:=vb (by kernel_rfl) (by kernel_rfl)
theorem bRh:VB 153 Tryz.f153 [] []:=vb (by kernel_rfl) (by kernel_rfl)
theorem bRi:VB 154 Tryz.f154 [(10,[(0,[]),(1,[]),(2,[]),(3,[]),(4,[]),(7,[]),(8,[]),(9,[]),(10,[]),(11,[]),(5,[]),(6,[11]),(12,[]),(13,[]),(14,[]),(15,[])])] [(3,[2,3,4,16])]:=vb (by kernel_rfl) (by kernel_rfl)
theorem bJq:VB 155 Tryz.f155 [] [(2,[4,8])]:=vb (by kernel_rfl) (by kernel_rfl)
theorem bRj:VB 156 Tryz.f156 [] []:=vb (by kernel_rfl) (by kernel_rfl)
theorem bRk:VK 157 Tryz.f157 [] [(3,[2,3,4,18])]:=vk (by kernel_rfl) (by kernel_rfl)
theorem bRl:VA 160 Tryz.f160 [] []:=va
theorem bRm:VA 161 Tryz.f161 [(5,[(0,[]),(1,[]),(2,[]),(3,[]),(4,[]),(5,[]),(8,[]),(9,[]),(10,[]),(11,[]),(12,[]),(13,[]),(6,[]),(7,[13]),(14,[]),(15,[]),(16,[]),(17,[])])] [(3,[5,6,7])]:=va
theorem bRn:VA 162 Tryz.f162 [] []:=va
theorem bRo:VA 163 Tryz.f163 [] []:=va
theorem bRp:VA 164 Tryz.f164 [] []:=va
theorem bRq:VA 165 Tryz.f165 [] [(4,[2])]:=va
theorem bRr:VA 166 Tryz.f166 [] [(5,[2,3,11])]:=va
theorem bRs:VA 167 Tryz.f167 [] [(4,[2,20])]:=va
theorem bRt:VA 168 Tryz.f168 [] []:=va
theorem bJr:lS 168=Ot (.val (dD [])):=by kernel_rfl
theorem bRu:VA 169 Tryz.f169 [] []:=va
theorem bJs:lS 170=Ot (.val (dD [])):=by kernel_rfl
theorem bHs:VT 170 Tryz.f170 [] []:=vt
theorem bRv:VA 174 Tryz.f174 [] []:=va
theorem bJt:lS 174=Ot (.val (dD [])):=by kernel_rfl
theorem bRw:VB 176 Tryz.f176 [] []:=vb (by kernel_rfl) (by kernel_rfl)
theorem bRx:VA 177 Tryz.f177 [] []:=va
theorem bRy:VA 178 Tryz.f178 [(17,[(0,[]),(2,[]),(3,[]),(1,[3]),(4,[]),(5,[]),(6,[]),(7,[])])] [(8,[4,5,7,20])]:=va
theorem bRz:VB 179 Tryz.f179 [] []:=vb (by kernel_rfl) (by kernel_rfl)
theorem bS0:VB 180 Tryz.f180 [] []:=vb (by kernel_rfl) (by kernel_rfl)
theorem bS1:VB 181 Tryz.f181 [] []:=vb (by kernel_rfl) (by kernel_rfl)
theorem bS2:VA 182 Tryz.f182 [] []:=va
theorem bS3:VB 183 Tryz.f183 [] []:=vb (by kernel_rfl) (by kernel_rfl)
theorem bS4:VB 184 Tryz.f184 [] [(6,[31])]:=vb (by kernel_rfl) (by kernel_rfl)
theorem bS5:VA 193 Tryz.f193 [] []:=va
theorem bS6:VA 194 Tryz.f194 [(3,[(0,[]),(1,[]),(3,[]),(4,[]),(2,[4]),(5,[]),(6,[]),(7,[])])] []:=va
theorem bS7:VA 195 Tryz.f195 [] [(4,[2])]:=va
theorem bS8:VA 196 Tryz.f196 [] []:=va
theorem bS9:VA 197 Tryz.f197 [] [(8,[3,11])]:=va
theorem bSa:VA 198 Tryz.f198 [] []:=va
theorem bSb:VA 199 Tryz.f199 [] [(2,[2,3])]:=va
theorem bSc:VA 200 Tryz.f200 [] [(5,[3,4])]:=va
theorem bSd:VA 203 Tryz.f203 [] []:=va
theorem bSe:VA 204 Tryz.f204 [] []:=va
theorem bSf:VA 217 Tryz.f217 [] []:=va
theorem bSg:VA 218 Tryz.f218 [] [(3,[4,5,12])]:=va
theorem bJu:lS 218=Ot (.val (dD [])):=by kernel_rfl
theorem bSh:VA 219 Tryz.f219 [] []:=va
theorem bSi:VA 220 Tryz.f220 [] [(2,[2,3])]:=va
theorem bSj:VA 222 Tryz.f222 [] []:=va
theorem bSk:VA 223 Tryz.f223 [(7,[(0,[]),(1,[]),(2,[]),(3,[]),(4,[1]),(5,[]),(6,[]),(7,[])])] [(3,[5])]:=va
theorem bJv:lS 223=Ot (.val (dD [(7,[(0,[]),(1,[]),(2,[]),(3,[]),(4,[1]),(5,[]),(6,[]),(7,[])])])):=by kernel_rfl
theorem bSl:VA 224 Tryz.f224 [] [(4,[4,5])]:=va
theorem bSm:VA 225 Tryz.f225 [] []:=va
theorem bSn:VA 226 Tryz.f226 [(5,[(0,[]),(1,[]),(2,[]),(5,[]),(6,[]),(7,[]),(3,[]),(4,[7]),(8,[]),(9,[]),(10,[]),(11,[])])] [(3,[3,4,16])]:=va
theorem bJw:lS 227=Ot (.val (dD [])):=by kernel_rfl
theorem bSo:VT 227 Tryz.f227 [] []:=vt
theorem bSp:VA 228 Tryz.f228 [] [(6,[3,23])]:=va
theorem bSq:VA 229 Tryz.f229 [] []:=va
theorem bJx:lS 231=Ot (.val (dD [])):=by kernel_rfl
theorem bSr:VT 231 Tryz.f231 [] [(2,[4,8])]:=vt
theorem bJy:lS 232=Ot (.val (dD [])):=by kernel_rfl
theorem bSs:VT 232 Tryz.f232 [] []:=vt
theorem bSt:VA 233 Tryz.f233 [] []:=va
theorem bSu:VC 235 Tryz.f235 [] [] [0]:=vc (by kernel_rfl) (by kernel_rfl) rfl
theorem bSv:VA 236 Tryz.f236 [] []:=va
theorem bSw:VA 238 Tryz.f238 [] [(11,[7,8,36])]:=va
theorem bSx:VB 239 Tryz.f239 [] []:=vb (by kernel_rfl) (by kernel_rfl)
theorem bSy:VA 241 Tryz.f241 [] []:=va
theorem bSz:VA 245 Tryz.f245 [] []:=va
theorem bT0:VA 246 Tryz.f246 [] []:=va
theorem bT1:VA 254 Tryz.f254 [] []:=va
theorem bT2:VA 258 Tryz.f258 [] []:=va
theorem bJz:VB 259 Tryz.f259 [] [(2,[2,9])]:=vb (by kernel_rfl) (by kernel_rfl)
theorem bT3:VA 260 Tryz.f260 [] [(4,[4,13])]:=va
theorem bK0:lS 263=Ot (.val (dD [])):=by kernel_rfl
theorem bT4:VT 263 Tryz.f263 [] []:=vt
theorem bT5:VA 268 Tryz.f268 [] []:=va
theorem bT6:VA 271 Tryz.f271 [] []:=va
theorem bT7:VA 278 Tryz.f278 [] [(5,[8,9,22])]:=va
theorem bT8:VA 279 Tryz.f279 [] []:=va
theorem bT9:VA 286 Tryz.f286 [] []:=va
theorem bTa:VA 287 Tryz.f287 [] []:=va
theorem tx0:∀g:Nat,2<=g->g<247->cV prog g=Ot none:=by
 have h:((RC 245).all λg=>match cV prog (g+2) with
  | some OG=>OB
  | _=>OA)=true:=by kernel_rfl
 intro g h0 h1
 have:=PD.1 h (g - 2) (SV.2 (by omega))
 rw[Um h0] at this;split at this
 ·assumption
 ·cases this
theorem bDt{g:Nat}(h0:1<g)(h1:g<247)(args:On V)(S:St)(K:KW):mI prog C g args S K=C g (hl args) S K:=qV _ _ (tx0 g h0 h1) _ _ _
theorem tx1:∀g:Nat,248<=g->g<255->cV prog g=Ot none:=by
 have h:((RC 7).all λg=>match cV prog (g+248) with
  | some OG=>OB
  | _=>OA)=true:=by kernel_rfl
 intro g h0 h1
 have:=PD.1 h (g - 248) (SV.2 (by omega))
 rw[Um h0] at this;split at this
 ·assumption
 ·cases this
theorem bDu{g:Nat}(h0:247<g)(h1:g<255)(args:On V)(S:St)(K:KW):mI prog C g args S K=C g (hl args) S K:=qV _ _ (tx1 g h0 h1) _ _ _
theorem tx2:∀g:Nat,257<=g->g<261->cV prog g=Ot none:=by
 have h:((RC 4).all λg=>match cV prog (g+257) with
  | some OG=>OB
  | _=>OA)=true:=by kernel_rfl
 intro g h0 h1
 have:=PD.1 h (g - 257) (SV.2 (by omega))
 rw[Um h0] at this;split at this
 ·assumption
 ·cases this
theorem bDv{g:Nat}(h0:256<g)(h1:g<261)(args:On V)(S:St)(K:KW):mI prog C g args S K=C g (hl args) S K:=qV _ _ (tx2 g h0 h1) _ _ _
theorem tx3:∀g:Nat,267<=g->g<288->cV prog g=Ot none:=by
 have h:((RC 21).all λg=>match cV prog (g+267) with
  | some OG=>OB
  | _=>OA)=true:=by kernel_rfl
 intro g h0 h1
 have:=PD.1 h (g - 267) (SV.2 (by omega))
 rw[Um h0] at this;split at this
 ·assumption
 ·cases this
theorem bDw{g:Nat}(h0:266<g)(h1:g<288)(args:On V)(S:St)(K:KW):mI prog C g args S K=C g (hl args) S K:=qV _ _ (tx3 g h0 h1) _ _ _
theorem aMg(args:On V)(S:St)(K:KW):mI prog C 255 args S K=wR (hl (tH Tryz.f255 args)) λv=>K v S:=by
 unfold mI;rw[show cV prog 255=Ot (Ot Tryz.f255) by kernel_rfl];rfl
theorem bK1(K:V->Prop):wO (aQ prog 30) K=K (.agg [.nils,.nils,.nils,.nils,.nils,O J 0]):=Qo (λx=>wO x K) (show aQ prog 30=Ot (.agg [.nils,.nils,.nils,.nils,.nils,O J 0]) by kernel_rfl)
theorem bK2(K:V->Prop):wO (aQ prog 48) K=K (.agg [O J 0,O J 0,O J 0]):=Qo (λx=>wO x K) (show aQ prog 48=Ot (.agg [O J 0,O J 0,O J 0]) by kernel_rfl)
theorem bDx:vU prog 26=true:=by kernel_rfl
theorem bK3(K:V->Prop):wO (aQ prog 52) K=K (.agg [O J 0,O J 0,O J 0]):=Qo (λx=>wO x K) (show aQ prog 52=Ot (.agg [O J 0,O J 0,O J 0]) by kernel_rfl)
theorem bDy:vU prog 22=true:=by kernel_rfl
theorem bK4(K:V->Prop):wO (aQ prog 61) K=K (.agg [O J 0,O J 0,O J 0,.str [],O J 0,.str [],O J 0,O J 0,O J 0,O J 0,O J 0,O J 0,O J 0,.nils,.str [],O J 0,O J 0]):=Qo (λx=>wO x K) (show aQ prog 61=Ot (.agg [O J 0,O J 0,O J 0,.str [],O J 0,.str [],O J 0,O J 0,O J 0,O J 0,O J 0,O J 0,O J 0,.nils,.str [],O J 0,O J 0]) by kernel_rfl)
theorem bDz:vU prog 44=true:=by kernel_rfl
theorem bE0:vU prog 96=true:=by kernel_rfl
theorem bE1:vU prog 97=true:=by kernel_rfl
theorem bK5(K:V->Prop):wO (aQ prog 99) K=K (.agg [O J 0,O J 0,O J 0,.str [],O J 0,.str [],O J 0,O J 0,O J 0,O J 0,O J 0,O J 0,O J 0,.nils,.str [],O J 0,O J 0,O J 0,O J 0,O J 0,O J 0,O J 0,O J 0]):=Qo (λx=>wO x K) (show aQ prog 99=Ot (.agg [O J 0,O J 0,O J 0,.str [],O J 0,.str [],O J 0,O J 0,O J 0,O J 0,O J 0,O J 0,O J 0,.nils,.str [],O J 0,O J 0,O J 0,O J 0,O J 0,O J 0,O J 0,O J 0]) by kernel_rfl)
theorem bK6(K:V->Prop):wO (aQ prog 54) K=K (.agg [.str [],O J 0,O J 0,O J 0,O J 0]):=Qo (λx=>wO x K) (show aQ prog 54=Ot (.agg [.str [],O J 0,O J 0,O J 0,O J 0]) by kernel_rfl)
theorem bE2:vU prog 24=true:=by kernel_rfl
theorem bE3(K:V->Prop):wO (aQ prog 126) K=K (.agg [.str [],O J 0,O J 0,.bool OA]):=Qo (λx=>wO x K) (show aQ prog 126=Ot (.agg [.str [],O J 0,O J 0,.bool OA]) by kernel_rfl)
theorem bE4:vU prog 25=true:=by kernel_rfl
theorem bK7(K:V->Prop):wO (aQ prog 84) K=K (.agg [.str [],O J 0,O J 0,O J 0,O J 0,O J 0,O J 0,O J 0,.nils,.str [],O J 0,.bool OA]):=Qo (λx=>wO x K) (show aQ prog 84=Ot (.agg [.str [],O J 0,O J 0,O J 0,O J 0,O J 0,O J 0,O J 0,.nils,.str [],O J 0,.bool OA]) by kernel_rfl)
theorem bE5(K:V->Prop):wO (aQ prog 145) K=K (.agg [.str [],O J 0,O J 0,O J 0]):=Qo (λx=>wO x K) (show aQ prog 145=Ot (.agg [.str [],O J 0,O J 0,O J 0]) by kernel_rfl)
theorem bE6:vU prog 80=true:=by kernel_rfl
theorem bE7(K:V->Prop):wO (aQ prog 132) K=K (.agg [O J 0,O J 0,O J 0,O J 0,O J 0]):=Qo (λx=>wO x K) (show aQ prog 132=Ot (.agg [O J 0,O J 0,O J 0,O J 0,O J 0]) by kernel_rfl)
theorem bE8:vU prog 28=true:=by kernel_rfl
theorem bE9:vU prog 27=true:=by kernel_rfl
theorem bK8(K:V->Prop):wO (aQ prog 59) K=K (.agg [O J 0,.str [],O J 0,.str [],O J 0,O J 0,O J 0,O J 0,O J 0,O J 0,O J 0,.nils,.str [],O J 0,O J 0]):=Qo (λx=>wO x K) (show aQ prog 59=Ot (.agg [O J 0,.str [],O J 0,.str [],O J 0,O J 0,O J 0,O J 0,O J 0,O J 0,O J 0,.nils,.str [],O J 0,O J 0]) by kernel_rfl)
theorem bEa:vU prog 62=true:=by kernel_rfl
theorem bEb:vU prog 71=true:=by kernel_rfl
theorem aWv:vU prog 102=true:=by kernel_rfl
theorem bEc(K:V->Prop):wO (aQ prog 212) K=K (.agg [.nili]):=Qo (λx=>wO x K) (show aQ prog 212=Ot (.agg [.nili]) by kernel_rfl)
theorem bEd(K:V->Prop):wO (aQ prog 220) K=K (.agg [O J 0,O J 0,.str []]):=Qo (λx=>wO x K) (show aQ prog 220=Ot (.agg [O J 0,O J 0,.str []]) by kernel_rfl)
theorem bEe(K:V->Prop):wO (aQ prog 232) K=K (.nilp):=Qo (λx=>wO x K) (show aQ prog 232=Ot (.nilp) by kernel_rfl)
theorem bEf(K:V->Prop):wO (aQ prog 246) K=K (.agg [O J 0,O J 0,O J 0,O J 0,O J 0,O J 0,O J 0,O J 0,O J 0,O J 0,O J 0,O J 0,O J 0,O J 0,O J 0,O J 0,O J 0,O J 0,O J 0,O J 0,O J 0,O J 0,O J 0,O J 0,O J 0,O J 0,O J 0,O J 0,O J 0,O J 0,O J 0,O J 0,O J 0,O J 0,O J 0,O J 0,O J 0,O J 0,O J 0,O J 0]):=Qo (λx=>wO x K) (show aQ prog 246=Ot (.agg [O J 0,O J 0,O J 0,O J 0,O J 0,O J 0,O J 0,O J 0,O J 0,O J 0,O J 0,O J 0,O J 0,O J 0,O J 0,O J 0,O J 0,O J 0,O J 0,O J 0,O J 0,O J 0,O J 0,O J 0,O J 0,O J 0,O J 0,O J 0,O J 0,O J 0,O J 0,O J 0,O J 0,O J 0,O J 0,O J 0,O J 0,O J 0,O J 0,O J 0]) by kernel_rfl)
theorem bEg(K:V->Prop):wO (aQ prog 249) K=K (.agg [O J 0,O J 0,O J 0,O J 0,O J 0,O J 0,O J 0,O J 0]):=Qo (λx=>wO x K) (show aQ prog 249=Ot (.agg [O J 0,O J 0,O J 0,O J 0,O J 0,O J 0,O J 0,O J 0]) by kernel_rfl)
theorem bK9:vU prog 9=true:=by kernel_rfl
theorem bEh:vU prog 55=true:=by kernel_rfl
theorem bKa(K:V->Prop):wO (aQ prog 82) K=K (.agg [O J 0,O J 0,O J 0,.nils]):=Qo (λx=>wO x K) (show aQ prog 82=Ot (.agg [O J 0,O J 0,O J 0,.nils]) by kernel_rfl)
theorem bEi(K:V->Prop):wO (aQ prog 293) K=K (.agg [.str [],O J 0]):=Qo (λx=>wO x K) (show aQ prog 293=Ot (.agg [.str [],O J 0]) by kernel_rfl)
theorem bEj(K:V->Prop):wO (aQ prog 295) K=K (.agg [.str []]):=Qo (λx=>wO x K) (show aQ prog 295=Ot (.agg [.str []]) by kernel_rfl)
theorem bEk(K:V->Prop):wO (aQ prog 297) K=K (.agg [.str [],O J 0,O J 0,O J 0,O J 0]):=Qo (λx=>wO x K) (show aQ prog 297=Ot (.agg [.str [],O J 0,O J 0,O J 0,O J 0]) by kernel_rfl)
theorem bEl(K:V->Prop):wO (aQ prog 301) K=K (.agg [.str [],O J 0,O J 0,O J 0,.nils]):=Qo (λx=>wO x K) (show aQ prog 301=Ot (.agg [.str [],O J 0,O J 0,O J 0,.nils]) by kernel_rfl)
theorem bEm(K:V->Prop):wO (aQ prog 304) K=K (.agg [.str [],O J 0,O J 0,O J 0,.str [],O J 0]):=Qo (λx=>wO x K) (show aQ prog 304=Ot (.agg [.str [],O J 0,O J 0,O J 0,.str [],O J 0]) by kernel_rfl)
theorem bEn(K:V->Prop):wO (aQ prog 306) K=K (.agg [O J 0]):=Qo (λx=>wO x K) (show aQ prog 306=Ot (.agg [O J 0]) by kernel_rfl)
theorem bEo(K:V->Prop):wO (aQ prog 307) K=K (.agg [.str []]):=Qo (λx=>wO x K) (show aQ prog 307=Ot (.agg [.str []]) by kernel_rfl)
theorem bKb(K:V->Prop):wO (aQ prog 90) K=K (.agg [.str [],O J 0]):=Qo (λx=>wO x K) (show aQ prog 90=Ot (.agg [.str [],O J 0]) by kernel_rfl)
theorem rg9:aK0 prog 9=true:=by kernel_rfl
theorem bEp(K:V->Prop):wO (aQ prog 201) K=K (.agg [.str [],.str [],O J 0,O J 0]):=Qo (λx=>wO x K) (show aQ prog 201=Ot (.agg [.str [],.str [],O J 0,O J 0]) by kernel_rfl)
theorem bEq(K:V->Prop):wO (aQ prog 346) K=K (.agg [O J 0,.int ξ 0]):=Qo (λx=>wO x K) (show aQ prog 346=Ot (.agg [O J 0,.int ξ 0]) by kernel_rfl)
theorem bBr(f:PU){a b:On V}{S T:St}(K:KW)(h:a=b)(g:S=T):C f a S K=C f b T K:=by rw[h,g]
attribute [congr] bBr
theorem cw:type_of% (A2 (aQj prog) <| A2 (aQh prog C) <| A2 (aQe prog C) <| A2 aQi <| A2 aQb <| A2 aQc <| A2 bDs <| A2 (aI5 prog C) <| A2 (aI6 prog C) <| A2 (aWk prog C) <| A2 @bJk <| A2 @bDm <| A2 @aWa <| A2 @bDn <| A2 @aWc <| A2 @aWi <| A2 @bJl <| A2 @bDp <| A2 @bDq <| A2 @aWe <| A2 @bDr <| A2 @aWg <| A2 @aWh <| A2 @aQg <| A2 @aMf <| A2 @aI4 <| A2 aI7 <| A2 aI2 <| A2 @bDj <| A2 @bDt <| A2 @bDu <| A2 @bDv <| A2 @bDw <| A2 aMg <| A2 bK1 <| A2 bK2 <| A2 bDx <| A2 bK3 <| A2 bDy <| A2 bK4 <| A2 bDz <| A2 bE0 <| A2 bE1 <| A2 bK5 <| A2 bK6 <| A2 bE2 <| A2 bE3 <| A2 bE4 <| A2 bK7 <| A2 bE5 <| A2 bE6 <| A2 bE7 <| A2 bE8 <| A2 bE9 <| A2 bK8 <| A2 bEa <| A2 bEb <| A2 aWv <| A2 bEc <| A2 bEd <| A2 bEe <| A2 bEf <| A2 bEg <| A2 bK9 <| A2 bEh <| A2 bKa <| A2 bEi <| A2 bEj <| A2 bEk <| A2 bEl <| A2 bEm <| A2 bEn <| A2 bEo <| A2 bKb <| A2 rg9 <| A2 bEp <| bEq):=A2 (aQj prog) <| A2 (aQh prog C) <| A2 (aQe prog C) <| A2 aQi <| A2 aQb <| A2 aQc <| A2 bDs <| A2 (aI5 prog C) <| A2 (aI6 prog C) <| A2 (aWk prog C) <| A2 @bJk <| A2 @bDm <| A2 @aWa <| A2 @bDn <| A2 @aWc <| A2 @aWi <| A2 @bJl <| A2 @bDp <| A2 @bDq <| A2 @aWe <| A2 @bDr <| A2 @aWg <| A2 @aWh <| A2 @aQg <| A2 @aMf <| A2 @aI4 <| A2 aI7 <| A2 aI2 <| A2 @bDj <| A2 @bDt <| A2 @bDu <| A2 @bDv <| A2 @bDw <| A2 aMg <| A2 bK1 <| A2 bK2 <| A2 bDx <| A2 bK3 <| A2 bDy <| A2 bK4 <| A2 bDz <| A2 bE0 <| A2 bE1 <| A2 bK5 <| A2 bK6 <| A2 bE2 <| A2 bE3 <| A2 bE4 <| A2 bK7 <| A2 bE5 <| A2 bE6 <| A2 bE7 <| A2 bE8 <| A2 bE9 <| A2 bK8 <| A2 bEa <| A2 bEb <| A2 aWv <| A2 bEc <| A2 bEd <| A2 bEe <| A2 bEf <| A2 bEg <| A2 bK9 <| A2 bEh <| A2 bKa <| A2 bEi <| A2 bEj <| A2 bEk <| A2 bEl <| A2 bEm <| A2 bEn <| A2 bEo <| A2 bKb <| A2 rg9 <| A2 bEp <| bEq
end
def qL(t:OH)(p:V)(S:St)(K:V->Prop):Prop:=wR (oG prog t p S) K
def qF(s:OH)(p:V)(f:Nat)(K:V->Prop):Prop:=wR (eQ prog s p f) K
def qE(s:OH)(p:V)(f:Nat)(t:OH)(S:St)(K:V->Prop):Prop:=wR (eQ prog s p f) λq=>wR (oG prog t q S) K
def qX(t:OH)(v i:V)(K:V->Prop):Prop:=wR (dT prog t v i) K
def qS(t:OH)(p x:V)(S:St)(K:St->Prop):Prop:=wR (rN prog t p x S) K
def qZ(t:OH)(x:V)(S:St)(K:V->Prop):Prop:=wR (aBn prog t x S) K
def qB(o:BinOp)(t:OH)(x y:V)(K:V->Prop):Prop:=wR (cC prog o t x y) K
def qG(o:BinOp)(t:OH)(x y:V)(K:V->Prop):Prop:=wIf (cF prog t x y) (wR (cC prog o t x y) K)
def qD(t:OH)(l:On (Nat×V))(K:V->Prop):Prop:=wR (rO prog t l) K
def qP(t:OH)(s x:V)(r:Ow Nat)(S:St)(K:V×St->Prop):Prop:=wR (iP prog t s x r S) K
def qQ(t:OH)(n:Nat)(l:On (Nat×V))(r:Ow Nat)(S:St)(K:V×St->Prop):Prop:=wR (dO prog t n l r S) K
def qA(a:V)(S:St)(K:Nat×St->Prop):Prop:=wIf (aH a.cells) (wR (bR OG S (.row 0 a.cells.length [a.cells])) K)
def qN(S:St)(n:Nat)(c:On V)(K:Nat×St->Prop):Prop:=wR (bR OG S (.row 0 n [c])) K
def pt(r:Nat×St):V:=.ptr r.1 0 0 0
def up(S:St)(n:Nat):St:=⟨S.next+n,S.heap⟩
def jI(n:Int):V:=O J n
theorem sf:(∀(t:OH) (p:V) (S:St) (K:V->Prop),qL t p S K=(wR (oG prog t p S) K))/\(∀(s:OH) (p:V) (f:Nat) (K:V->Prop),qF s p f K=(wR (eQ prog s p f) K))/\(∀(s:OH) (p:V) (f:Nat) (t:OH) (S:St) (K:V->Prop),qE s p f t S K=(wR (eQ prog s p f) λq=>wR (oG prog t q S) K))/\(∀(t:OH) (v i:V) (K:V->Prop),qX t v i K=(wR (dT prog t v i) K))/\(∀(t:OH) (p x:V) (S:St) (K:St->Prop),qS t p x S K=(wR (rN prog t p x S) K))/\(∀(t:OH) (x:V) (S:St) (K:V->Prop),qZ t x S K=(wR (aBn prog t x S) K))/\(∀(o:BinOp) (t:OH) (x y:V) (K:V->Prop),qB o t x y K=(wR (cC prog o t x y) K))/\(∀(o:BinOp) (t:OH) (x y:V) (K:V->Prop),qG o t x y K=(wIf (cF prog t x y) (wR (cC prog o t x y) K)))/\(∀(t:OH) (l:On (Nat×V)) (K:V->Prop),qD t l K=(wR (rO prog t l) K))/\(∀(t:OH) (s x:V) (r:Ow Nat) (S:St) (K:V×St->Prop),qP t s x r S K=(wR (iP prog t s x r S) K))/\(∀(t:OH) (n:Nat) (l:On (Nat×V)) (r:Ow Nat) (S:St) (K:V×St->Prop),qQ t n l r S K=(wR (dO prog t n l r S) K))/\(∀(a:V) (S:St) (K:Nat×St->Prop),qA a S K=(wIf (aH a.cells) (wR (bR OG S (.row 0 a.cells.length [a.cells])) K)))/\(∀(S:St) (n:Nat) (c:On V) (K:Nat×St->Prop),qN S n c K=(wR (bR OG S (.row 0 n [c])) K))/\(∀(r:Nat×St),pt r=.ptr r.1 0 0 0)/\(∀(S:St) (n:Nat),up S n=⟨S.next+n,S.heap⟩)/\(∀(n:Int),jI n=O J n):=⟨λ_ _ _ _=>rfl,λ_ _ _ _=>rfl,λ_ _ _ _ _ _=>rfl,λ_ _ _ _=>rfl,λ_ _ _ _ _=>rfl,λ_ _ _ _=>rfl,λ_ _ _ _ _=>rfl,λ_ _ _ _ _=>rfl,λ_ _ _=>rfl,λ_ _ _ _ _ _=>rfl,λ_ _ _ _ _ _=>rfl,λ_ _ _=>rfl,λ_ _ _ _=>rfl,λ_=>rfl,λ_ _=>rfl,λ_=>rfl⟩
abbrev aOy:Nat->Ow (On bY):=dD []
abbrev aOz:Nat->On Nat:=dY [(2,[10])]
abbrev aP0:Nat->Ow (On bY):=dD []
abbrev aP1:Nat->On Nat:=dY [(3,[3,16])]
abbrev aQr:Nat->Ow (On bY):=dD [(3,[(0,[]),(1,[0]),(2,[]),(3,[])]),(5,[(0,[]),(1,[0]),(2,[]),(3,[])]),(10,[(0,[]),(1,[]),(2,[0]),(3,[]),(4,[])]),(12,[(0,[]),(1,[]),(2,[1]),(3,[])]),(17,[(0,[]),(1,[]),(2,[1]),(3,[])])]
abbrev aWw:Nat->On Nat:=dY []
abbrev aWx:Nat->Ow (On bY):=dD []
abbrev aWy:Nat->On Nat:=dY [(3,[5,6])]
abbrev aP2:Nat->Ow (On bY):=dD []
abbrev aP3:Nat->On Nat:=dY [(4,[2,3])]
abbrev aK5:Nat->Ow (On bY):=dD [(11,[(1,[]),(2,[]),(3,[]),(5,[]),(6,[]),(7,[]),(8,[]),(9,[]),(10,[]),(13,[]),(14,[]),(15,[]),(0,[]),(4,[9]),(11,[]),(12,[]),(16,[]),(17,[])])]
abbrev aP4:Nat->On Nat:=dY [(8,[8]),(5,[4,5,6,7])]
abbrev aWz:Nat->Ow (On bY):=dD []
abbrev aX0:Nat->On Nat:=dY [(30,[2,12]),(23,[2,11]),(9,[2,5,6])]
abbrev aP5:Nat->Ow (On bY):=dD []
abbrev aP6:Nat->On Nat:=dY [(8,[6])]
abbrev aP7:Nat->Ow (On bY):=dD []
abbrev aP8:Nat->On Nat:=dY [(12,[8])]
abbrev aK6:Nat->Ow (On bY):=dD []
abbrev aP9:Nat->On Nat:=dY [(8,[9]),(5,[4,5,6,19])]
def aK7(C:aL)(K:KW)(aa:On V->St->Prop)(p0 p1 p5 p6 p7:V)(S:St):Prop:=
qL 61 p7 S λt7=>
qQ 44 1 [(0,t7)] OG S λr8=>
qP 44 p5 r8.1 OG r8.2 λr9=>
qB .add 3 p6 (jI 1) λt10=>
aa [r9.1,t10] r9.2
def aK8(C:aL)(K:KW)(p0 p1:V)(vs:On V)(S:St)(aa:On V->St->Prop):Prop:=
vA vs λx5 vs=>
vA vs λx6 vs=>
qZ 44 p0 S λt0=>
qB .lss 3 x6 t0 λt1=>
aN t1 (qB .lss 3 x6 p1 λt2=>
aN t2 (qX 44 p0 x6 λt3=>
qL 61 t3 S λt4=>
qN S 17 [jI 0,jI 0,jI 0,.str [],jI 0,.str [],jI 0,jI 0,jI 0,jI 0,jI 0,jI 0,jI 0,.nils,.str [],jI 0,jI 0] λr5=>
qS 61 (pt r5) t4 r5.2 λS6=>
qF 61 (pt r5) 2 λt11=>
qE 59 t11 5 55 S6 λt13=>
qZ 55 t13 S6 λt14=>
qB .gtr 3 t14 (jI 15) λt15=>
aN t15 (qF 61 (pt r5) 2 λt16=>
qE 59 t16 5 55 S6 λt18=>
wR (iZ prog 55 t18 OG (Ot (jI 15))) λt19=>
qF 61 (pt r5) 2 λt20=>
qF 59 t20 5 λt21=>
qS 55 t21 t19 S6 λAl=>
aK7 C K aa p0 p1 x5 x6 (pt r5) Al) (aK7 C K aa p0 p1 x5 x6 (pt r5) S6)) (K x5 S)) (K x5 S)
def m30(C:aL)(a0 a1:V)(S:St)(K:KW):Prop:=
iN [(.nils),(jI 0)] S (aK8 C K a0 a1)
theorem bHt:(λ(C:aL) (a0 a1:V) (S:St) (K:KW)=>dR prog C aWx aWy 30 [a0,a1] S K)=λC a0 a1 S K=>m30 C a0 a1 S K:=by kernel_rfl
theorem t30(C:aL)(a0 a1:V)(S:St)(K:KW):dR prog C aWx aWy 30 [a0,a1] S K=m30 C a0 a1 S K:=OR (OR (OR (OR (OR bHt C) a0) a1) S) K
theorem v30{a0 a1:V}{v:V}(hc:cloVs [a0,a1]=OB)(h:m30 C a0 a1 ⟨0,.nil⟩ λv0 S0=>eX S0 v0=.ok v):Fv 30 [a0,a1] v:=Go.AM.Fn.of (p:=aWx) (lv:=aWy) (by kernel_rfl) hc (by rw[t30];exact h)
def aK9(C:aL)(K:KW)(p2 p4 p5 p9:V)(S:St):Prop:=
qL 30 p2 (up S 4) λt76=>
qL 48 p9 (up S 4) λt77=>
qS 30 p4 t76 (up S 4) λDB=>
qL 48 p9 DB λDC=>
wIf (gW t77 DC) (qS 48 p5 t77 DB λDD=>
qL 30 p4 DD λDE=>
qL 48 p5 DD λCl=>
K (.tup [DE,Cl]) DD)
def aFe(C:aL)(K:KW)(p2 p3 p4 p5 NB:V)(S:St):Prop:=
aN NB (qL 30 p2 (up S 4) λt20=>
C 103 [(jI 17)] (up S 4) λt21 Al=>
qL 30 p2 Al λt23=>
wIf (gW t20 t23) (qS 30 p4 t20 Al λwq=>
qS 48 p5 t21 wq λHh=>
qL 30 p4 Hh λt26=>
qL 48 p5 Hh λt27=>
K (.tup [t26,t27]) Hh)) (qF 61 p3 2 λt28=>
qE 59 t28 0 3 S λt30=>
(qG .eql 3 t30 (jI 6) λt31=>
aN t31 (qL 30 p2 S λt32=>
C 104 [t32] S λt33 NC=>
fI t33 0 λt35=>
fI t33 1 λt36=>
qS 30 p4 t35 NC λDF=>
qS 48 p5 t36 DF λCm=>
qL 30 p4 Cm λt39=>
qL 48 p5 Cm λt40=>
K (.tup [t39,t40]) Cm) (qE 30 p2 4 28 S λt42=>
qE 61 p3 0 3 S λt44=>
qE 61 p3 1 3 S λt46=>
C 105 [t42,t44,t46] S λt47 ND=>
fI t47 0 λt49=>
fI t47 1 λt50=>
fI t47 2 λt51=>
qN ND 3 [jI 0,jI 0,jI 0] λFz=>
qS 48 (pt Fz) t49 Fz.2 λyg=>
(qG .neq 31 t51 (jI 0) λt54=>
aN t54 (qL 30 p2 (up yg 5) λt55=>
C 103 [t51] (up yg 5) λt56 DG=>
qL 30 p2 DG λt58=>
wIf (gW t55 t58) (qS 30 p4 t55 DG λFA=>
qS 48 p5 t56 FA λHi=>
qL 30 p4 Hi λt61=>
qL 48 p5 Hi λt62=>
K (.tup [t61,t62]) Hi)) (aN t50 (qL 30 p2 (up yg 4) λHj=>
qL 48 (pt Fz) (up yg 4) λt64=>
qS 30 p4 Hj (up yg 4) λKR=>
qL 48 (pt Fz) KR λDH=>
wIf (gW t64 DH) (qS 48 p5 t64 KR λHk=>
qL 30 p4 Hk λt68=>
qL 48 p5 Hk λt69=>
K (.tup [t68,t69]) Hk)) (qE 61 p3 2 59 yg λHl=>
C 106 [p2,Hl] yg λBf Hm=>
qN Hm 3 [jI 0,jI 0,jI 0] λr74=>
qS 48 (pt r74) Bf r74.2 λDI=>
qE 30 p2 4 28 DI λHn=>
qE 61 p3 0 3 DI λHo=>
qE 61 p3 1 3 DI λHp=>
qL 48 (pt r74) DI λDJ=>
C 107 [Hn,Ho,Hp,DJ] DI λFB KS=>
fI FB 0 λHr=>
fI FB 1 λHs=>
(qG .eql 31 Hs (jI 0) λDK=>
aN DK (qF 30 p2 4 λNE=>
qS 28 NE Hr KS λNF=>
aK9 C K p2 p4 p5 (pt r74) NF) (aK9 C K p2 p4 p5 (pt r74) KS))))))))
def m33(C:aL)(a0 a1:V)(S:St)(K:KW):Prop:=
(qA a0 S λr0=>
(qA a1 r0.2 λr1=>
qN r1.2 6 [.nils,.nils,.nils,.nils,.nils,jI 0] λr2=>
qN r2.2 3 [jI 0,jI 0,jI 0] λr3=>
qL 30 (pt r0) r3.2 λt4=>
C 102 [t4] r3.2 λt5 S6=>
qS 30 (pt r0) t5 S6 λS7=>
qL 30 (pt r0) S7 λt8=>
C 24 [t8] S7 λt9 Cn=>
wR (unV .not t9) λt11=>
aN t11 (qL 30 (pt r0) (up Cn 4) λt12=>
C 103 [(jI 1)] (up Cn 4) λt13 jd=>
qL 30 (pt r0) jd λt15=>
wIf (gW t12 t15) (qS 30 (pt r2) t12 jd λwt=>
qS 48 (pt r3) t13 wt λBg=>
qL 30 (pt r2) Bg λt18=>
qL 48 (pt r3) Bg λt19=>
K (.tup [t18,t19]) Bg)) (qF 61 (pt r1) 2 λDL=>
qE 59 DL 0 3 Cn λDM=>
qB .lss 3 DM (jI 1) λBh=>
aN Bh (aFe C K (pt r0) (pt r1) (pt r2) (pt r3) (.bool OB) Cn) (qF 61 (pt r1) 2 λHt=>
qE 59 Ht 0 3 Cn λuo=>
qB .gtr 3 uo (jI 8) λBi=>
aFe C K (pt r0) (pt r1) (pt r2) (pt r3) Bi Cn))))
theorem bHu:(λ(C:aL) (a0 a1:V) (S:St) (K:KW)=>dR prog C aQr aWw 33 [a0,a1] S K)=λC a0 a1 S K=>m33 C a0 a1 S K:=by kernel_rfl
theorem t33(C:aL)(a0 a1:V)(S:St)(K:KW):dR prog C aQr aWw 33 [a0,a1] S K=m33 C a0 a1 S K:=OR (OR (OR (OR (OR bHu C) a0) a1) S) K
theorem v33{a0 a1:V}{v:V}(hc:cloVs [a0,a1]=OB)(h:m33 C a0 a1 ⟨0,.nil⟩ λv0 S0=>eX S0 v0=.ok v):Fv 33 [a0,a1] v:=Go.AM.Fn.of (p:=aQr) (lv:=aWw) (by kernel_rfl) hc (by rw[t33];exact h)
theorem bTb:lS 33=Ot (.val aQr):=by kernel_rfl
def aPa(C:aL)(K:KW)(p1 p5:V)(vs:On V)(S:St)(cz:On V->St->Prop):Prop:=
vA vs λx2 vs=>
vA vs λuq vs=>
qZ 27 p5 S λHu=>
qB .lss 3 uq Hu λBj=>
aN Bj (qX 27 p5 uq λHv=>
qL 90 Hv (up S 10) λBk=>
qE 30 p1 3 27 (up S 10) λHw=>
qX 27 Hw uq λBl=>
qL 90 Bl (up S 10) λBm=>
(qG .neq 90 Bk Bm λBn=>
aN Bn (K (.bool OA) (up S 10)) (qB .add 3 uq (jI 1) λHx=>
cz [x2,Hx] (up S 10)))) (K (.bool OB) S)
def aPb(C:aL)(K:KW)(p1 p4 p5:V)(vs:On V)(S:St)(cj:On V->St->Prop):Prop:=
vA vs λx2 vs=>
vA vs λBo vs=>
qZ 96 p4 S λHp=>
qB .lss 3 Bo Hp λDJ=>
aN DJ (qX 96 p4 Bo λFB=>
qL 3 FB (up S 12) λHy=>
qE 30 p1 1 25 (up S 12) λHs=>
qX 25 Hs Bo λDK=>
qE 126 DK 1 3 (up S 12) λHz=>
qB .sub 3 Hz (jI 1) λDL=>
(qG .neq 3 Hy DL λNG=>
aN NG (K (.bool OA) (up S 12)) (qB .add 3 Bo (jI 1) λDM=>
cj [x2,DM] (up S 12)))) (qZ 27 p5 S λBh=>
qE 30 p1 3 27 S λBp=>
qZ 27 Bp S λuo=>
(qG .neq 3 Bh uo λBi=>
aN Bi (K (.bool OA) S) (iN [x2,(jI 0)] S (aPa C K p1 p5))))
def aPc(C:aL)(K:KW)(p1 p4:V)(vs:On V)(S:St)(aa:On V->St->Prop):Prop:=
vA vs λx2 vs=>
vA vs λx5 vs=>
vA vs λx6 vs=>
qE 30 p1 2 26 S λt31=>
qZ 26 t31 S λt32=>
qB .lss 3 x6 t32 λt33=>
aN t33 (qE 30 p1 2 26 S λt35=>
qX 26 t35 x6 λt36=>
qL 84 t36 S λt37=>
qN S 12 [.str [],jI 0,jI 0,jI 0,jI 0,jI 0,jI 0,jI 0,.nils,.str [],jI 0,.bool OA] λBq=>
qS 84 (pt Bq) t37 Bq.2 λAm=>
qE 30 p1 1 25 Am λt41=>
qF 84 (pt Bq) 0 λt42=>
qE 57 t42 0 9 Am λt44=>
C 117 [t41,t44] Am λt45 Co=>
qB .lss 3 t45 (jI 0) λt47=>
aN t47 (K (.bool OA) (up Co 32)) (qF 84 (pt Bq) 0 λt48=>
qE 57 t48 1 3 (up Co 32) λt50=>
qX 96 p4 t45 λt51=>
qL 3 t51 (up Co 32) λt52=>
qB .add 3 t52 (jI 1) λt53=>
(qG .neq 3 t50 t53 λt54=>
aN t54 (K (.bool OA) (up Co 32)) (qE 84 (pt Bq) 1 52 (up Co 32) λt56=>
C 118 [t56] (up Co 32) λt57 DN=>
wR (unV .not t57) λt59=>
aN t59 (K (.bool OA) DN) (qE 84 (pt Bq) 2 82 DN λt61=>
C 119 [t61] DN λt62 DO=>
wR (unV .not t62) λt64=>
aN t64 (K (.bool OA) DO) (qE 30 p1 2 26 DO λDH=>
C 120 [DH,x6] DO λHA HB=>
wR (unV .not HA) λt69=>
aN t69 (K (.bool OA) HB) (qX 96 p4 t45 λt70=>
qL 3 t70 HB λHl=>
qB .add 3 Hl (jI 1) λBf=>
qX 96 p4 t45 λt73=>
qS 3 t73 Bf HB λKT=>
qE 84 (pt Bq) 2 82 KT λt76=>
C 121 [t76] KT λt77 DB=>
fI t77 0 λDC=>
fI t77 1 λNH=>
(qG .neq 3 NH (jI 0) λDE=>
aN DE (K (.bool OA) DB) (C 122 [x5,DC] DB λCl KU=>
fI Cl 0 λHn=>
fI Cl 1 λHC=>
(qG .neq 3 HC (jI 0) λHo=>
aN Ho (K (.bool OA) KU) (qB .add 3 x6 (jI 1) λHD=>
aa [x2,Hn,HD] KU))))))))))) (iN [x2,(jI 0)] S (aPb C K p1 p4 x5))
def aKa(C:aL)(K:KW)(p1:V)(S:St):Prop:=
qE 30 p1 1 25 S λt27=>
qZ 25 t27 S λt28=>
wR (fD prog 96 t28 t28 OG S) λwv=>
iN [(.bool OA),(.nils),(jI 0)] wv.2 (aPc C K p1 wv.1)
def m38(C:aL)(a0:V)(S:St)(K:KW):Prop:=
(qA a0 S λr0=>
qE 30 (pt r0) 0 24 r0.2 λt2=>
C 114 [t2] r0.2 λt3 S4=>
wR (unV .not t3) λt5=>
aN t5 (K (.bool OA) S4) (qE 30 (pt r0) 1 25 S4 λt7=>
C 115 [t7] S4 λt8 S9=>
wR (unV .not t8) λt10=>
aN t10 (K (.bool OA) S9) (qE 30 (pt r0) 4 28 S9 λt12=>
C 116 [t12] S9 λt13 jd=>
wR (unV .not t13) λt15=>
aN t15 (K (.bool OA) jd) (qE 30 (pt r0) 2 26 jd λt17=>
qZ 26 t17 jd λt18=>
qB .gtr 3 t18 (jI 40) λt19=>
aN t19 (K (.bool OA) jd) (qE 30 (pt r0) 5 3 jd λt21=>
qB .lss 3 t21 (jI 1) λt22=>
aN t22 (K (.bool OA) jd) (qE 30 (pt r0) 5 3 jd λt24=>
qB .gtr 3 t24 (jI 1099511627776) λt25=>
aN t25 (K (.bool OA) jd) (qE 30 (pt r0) 4 28 jd λHE=>
qZ 28 HE jd λDP=>
qB .gtr 3 DP (jI 0) λBr=>
aN Br (qE 30 (pt r0) 4 28 (up jd 14) λBt=>
qB .sub 3 DP (jI 1) λHF=>
qX 28 Bt HF λt122=>
qE 132 t122 0 3 (up jd 14) λBu=>
qE 30 (pt r0) 5 3 (up jd 14) λBv=>
qB .geq 3 Bu Bv λHG=>
aN HG (K (.bool OA) (up jd 14)) (aKa C K (pt r0) (up jd 14))) (aKa C K (pt r0) (up jd 14)))))))))
theorem bHv:(λ(C:aL) (a0:V) (S:St) (K:KW)=>dR prog C aWz aX0 38 [a0] S K)=λC a0 S K=>m38 C a0 S K:=by kernel_rfl
theorem t38(C:aL)(a0:V)(S:St)(K:KW):dR prog C aWz aX0 38 [a0] S K=m38 C a0 S K:=OR (OR (OR (OR bHv C) a0) S) K
theorem v38{a0:V}{v:V}(hc:cloVs [a0]=OB)(h:m38 C a0 ⟨0,.nil⟩ λv0 S0=>eX S0 v0=.ok v):Fv 38 [a0] v:=Go.AM.Fn.of (p:=aWz) (lv:=aX0) (by kernel_rfl) hc (by rw[t38];exact h)
def aDv(C:aL)(K:KW)(aa:On V->St->Prop)(p1 p2 p3 p4:V)(S:St):Prop:=
qE 145 p4 2 3 S λt20=>
qE 145 p4 1 3 S λt22=>
C 160 [t20,t22] S λt23 wq=>
fI t23 0 λt25=>
fI t23 1 λt26=>
(qG .neq 3 t26 (jI 0) λt27=>
aN t27 (K (.bool OA) wq) (qE 145 p4 3 3 wq λt29=>
(qG .neq 3 t25 t29 λt30=>
aN t30 (K (.bool OA) wq) (qB .add 3 p3 (jI 1) λt31=>
aa [p2,t31] wq))))
def aKb(C:aL)(K:KW)(p1:V)(vs:On V)(S:St)(aa:On V->St->Prop):Prop:=
vA vs λx2 vs=>
vA vs λx3 vs=>
qE 82 p1 3 80 S λt10=>
qZ 80 t10 S λt11=>
qB .lss 3 x3 t11 λt12=>
aN t12 (qE 82 p1 3 80 S λt14=>
qX 80 t14 x3 λt15=>
qL 145 t15 S λt16=>
qN S 4 [.str [],jI 0,jI 0,jI 0] λAo=>
qS 145 (pt Ao) t16 Ao.2 λBw=>
qE 145 (pt Ao) 0 9 (up Bw 30) λt33=>
C 195 [t33] (up Bw 30) λt34 qi=>
wR (unV .not t34) λt36=>
aN t36 (K (.bool OA) qi) (qE 145 (pt Ao) 1 3 qi λt38=>
qB .lss 3 t38 (jI 0) λt39=>
aN t39 (K (.bool OA) qi) (qE 145 (pt Ao) 1 3 qi λt41=>
qB .gtr 3 t41 (jI 100000) λt42=>
aN t42 (K (.bool OA) qi) (qB .gtr 3 x3 (jI 0) λt43=>
aN t43 (qE 82 p1 3 80 qi λt45=>
qB .sub 3 x3 (jI 1) λt46=>
qX 80 t45 t46 λt47=>
qE 145 t47 0 9 qi λt49=>
qE 145 (pt Ao) 0 9 qi λt51=>
qB .geq 9 t49 t51 λt52=>
aN t52 (K (.bool OA) qi) (aDv C K aa p1 x2 x3 (pt Ao) qi)) (aDv C K aa p1 x2 x3 (pt Ao) qi))))) (qE 82 p1 3 80 S λt54=>
C 161 [t54] S λt55 HH=>
fI t55 0 λt57=>
fI t55 1 λt58=>
fI t55 2 λt59=>
C 127 [t57,t58] HH λt60 wx=>
fI t60 0 λt62=>
fI t60 1 λHj=>
aN t59 ((qG .eql 3 Hj (jI 0) λt64=>
aN t64 (qE 82 p1 0 3 wx λDH=>
(qG .eql 3 t57 DH λHA=>
aN HA (qE 82 p1 1 3 wx λt69=>
(qG .eql 3 t58 t69 λt70=>
aN t70 (qE 82 p1 2 3 wx λBf=>
(qG .eql 3 t62 Bf λt73=>
K t73 wx)) (K (.bool OA) wx))) (K (.bool OA) wx))) (K (.bool OA) wx))) (K (.bool OA) wx))
def bBs(C:aL)(a0:V)(S:St)(K:KW):Prop:=
(qA a0 S λr0=>
qE 82 (pt r0) 3 80 r0.2 λt2=>
qZ 80 t2 r0.2 λt3=>
(qG .eql 3 t3 (jI 0) λt4=>
aN t4 (K (.bool OA) r0.2) (qE 82 (pt r0) 3 80 r0.2 λt6=>
qZ 80 t6 r0.2 λt7=>
qB .gtr 3 t7 (jI 12) λt8=>
aN t8 (K (.bool OA) r0.2) (iN [(.bool OA),(jI 0)] r0.2 (aKb C K (pt r0))))))
theorem bBt:(λ(C:aL) (a0:V) (S:St) (K:KW)=>dR prog C aP2 aP3 119 [a0] S K)=λC a0 S K=>bBs C a0 S K:=by kernel_rfl
theorem bTc(C:aL)(a0:V)(S:St)(K:KW):dR prog C aP2 aP3 119 [a0] S K=bBs C a0 S K:=OR (OR (OR (OR bBt C) a0) S) K
theorem bTd{a0:V}{v:V}(hc:cloVs [a0]=OB)(h:bBs C a0 ⟨0,.nil⟩ λv0 S0=>eX S0 v0=.ok v):Fv 119 [a0] v:=Go.AM.Fn.of (p:=aP2) (lv:=aP3) (by kernel_rfl) hc (by rw[bTc];exact h)
def aDw(C:aL)(K:KW)(aa:On V->St->Prop)(p1 p4 p5 p6 p7 p8:V)(S:St):Prop:=
qX 27 p6 p8 λt7=>
qE 90 t7 1 3 (up S 16) λt9=>
qX 27 p1 p7 λt10=>
qE 90 t10 1 3 (up S 16) λt12=>
C 127 [t9,t12] (up S 16) λt13 jd=>
fI t13 0 λt15=>
fI t13 1 λt16=>
(qG .neq 3 t16 (jI 0) λt17=>
aN t17 (K (.tup [(.nils),t16]) jd) (qX 27 p6 p8 λt18=>
qF 90 t18 1 λt19=>
qS 3 t19 t15 jd λCq=>
qB .add 3 p7 (jI 1) λt21=>
aa [p4,p5,p6,t21] Cq))
def aAy(C:aL)(K:KW)(aa:On V->St->Prop)(p1 p4 p5 p6 p7 p8 NI:V)(S:St):Prop:=
aN NI (wR (iZ prog 27 p6 OG (Ot p8)) λt22=>
qX 27 p1 p7 λt23=>
qF 90 t23 0 λt24=>
qL 9 t24 (up S 18) λt25=>
qD 90 [(0,t25)] λt26=>
wR (iZ prog 27 p6 (Ot p8) OG) λt27=>
qQ 27 0 [] (Ot (S.next+0)) (up S 18) λKX=>
qP 27 KX.1 t22 (Ot (S.next+4)) KX.2 λwv=>
qL 9 t24 wv.2 λt30=>
wIf (gW t25 t30) (qQ 27 1 [(0,t26)] (Ot (S.next+11)) wv.2 λKY=>
qP 27 wv.1 KY.1 (Ot (S.next+12)) KY.2 λKZ=>
qP 27 KZ.1 t27 (Ot (S.next+16)) KZ.2 λLa=>
aDw C K aa p1 p4 p5 La.1 p7 p8 La.2)) (aDw C K aa p1 p4 p5 p6 p7 p8 S)
def aAz(C:aL)(K:KW)(aa:On V->St->Prop)(p1 p4 p5 p6 p7 p8:V)(S:St):Prop:=
qZ 27 p6 (up S 17) λt34=>
(qG .eql 3 p8 t34 λt35=>
aN t35 (aAy C K aa p1 p4 p5 p6 p7 p8 (.bool OB) (up S 17)) (qX 27 p6 p8 λt36=>
qE 90 t36 0 9 (up S 17) λt38=>
qX 27 p1 p7 λt39=>
qE 90 t39 0 9 (up S 17) λt41=>
(qG .neq 9 t38 t41 λt42=>
aAy C K aa p1 p4 p5 p6 p7 p8 t42 (up S 17))))
def aKc(C:aL)(K:KW)(aa:On V->St->Prop)(p1 p4 p5 p6 p7:V)(vs:On V)(S:St)(cj:On V->St->Prop):Prop:=
vA vs λx8 vs=>
qZ 27 p6 (up S 17) λt43=>
qB .lss 3 x8 t43 λt44=>
aN t44 (qX 27 p6 x8 λt45=>
qE 90 t45 0 9 (up S 17) λt47=>
qX 27 p1 p7 λt48=>
qE 90 t48 0 9 (up S 17) λt50=>
qB .lss 9 t47 t50 λt51=>
aN t51 (qB .add 3 x8 (jI 1) λt52=>
cj [t52] (up S 17)) (aAz C K aa p1 p4 p5 p6 p7 x8 (up S 17))) (aAz C K aa p1 p4 p5 p6 p7 x8 (up S 17))
def aKd(C:aL)(K:KW)(p1:V)(vs:On V)(S:St)(aa:On V->St->Prop):Prop:=
vA vs λx4 vs=>
vA vs λx5 vs=>
vA vs λx6 vs=>
vA vs λx7 vs=>
qZ 27 p1 S λt5=>
qB .lss 3 x7 t5 λt6=>
aN t6 (iN [(jI 0)] S (aKc C K aa p1 x4 x5 x6 x7)) (K (.tup [x6,(jI 0)]) S)
def bBu(C:aL)(a0 a1:V)(S:St)(K:KW):Prop:=
C 199 [a0] S λt0 S1=>
wR (unV .not t0) λt2=>
aN t2 (K (.tup [(.nils),(jI 1)]) S1) (qQ 27 0 [] OG S1 λr3=>
qP 27 r3.1 a0 OG r3.2 λr4=>
iN [(.nils),(jI 0),r4.1,(jI 0)] r4.2 (aKd C K a1))
theorem bBv:(λ(C:aL) (a0 a1:V) (S:St) (K:KW)=>dR prog C aK5 aP4 122 [a0,a1] S K)=λC a0 a1 S K=>bBu C a0 a1 S K:=by kernel_rfl
theorem t122(C:aL)(a0 a1:V)(S:St)(K:KW):dR prog C aK5 aP4 122 [a0,a1] S K=bBu C a0 a1 S K:=OR (OR (OR (OR (OR bBv C) a0) a1) S) K
theorem bTe{a0 a1:V}{v:V}(hc:cloVs [a0,a1]=OB)(h:bBu C a0 a1 ⟨0,.nil⟩ λv0 S0=>eX S0 v0=.ok v):Fv 122 [a0,a1] v:=Go.AM.Fn.of (p:=aK5) (lv:=aP4) (by kernel_rfl) hc (by rw[t122];exact h)
theorem bKc:lS 122=Ot (.val aK5):=by kernel_rfl
def aDx(C:aL)(K:KW)(aa:On V->St->Prop)(p4 p5 p6 p8 p9 qj sn wy:V)(S:St):Prop:=
qX 27 p6 p9 λt10=>
qE 90 t10 1 3 (up S 13) λt12=>
qE 90 p8 1 3 (up S 13) λt14=>
C 203 [t12,t14] (up S 13) λt15 wt=>
fI t15 0 λt17=>
fI t15 1 λt18=>
(qG .neq 31 t18 (jI 0) λt19=>
aN t19 (K (.tup [(.nils),t18]) wt) (qX 27 p6 p9 λt20=>
qF 90 t20 1 λt21=>
qS 3 t21 t17 wt λAl=>
qB .add 3 wy (jI 1) λt23=>
aa [p4,p5,p6,t23] Al))
def aB0(C:aL)(K:KW)(aa:On V->St->Prop)(p4 p5 p6 p8 p9 qj sn wy NJ:V)(S:St):Prop:=
aN NJ (qE 90 p8 0 9 S λt25=>
qD 90 [(0,t25)] λt26=>
qQ 27 1 [(0,t26)] OG S λLb=>
C 221 [p6,p9,Lb.1] Lb.2 λt28 FC=>
aDx C K aa p4 p5 t28 p8 p9 qj sn wy FC) (aDx C K aa p4 p5 p6 p8 p9 qj sn wy S)
def aDy(C:aL)(K:KW)(aa:On V->St->Prop)(p4 p5 p6 p8 p9 qj sn wy:V)(S:St):Prop:=
qZ 27 p6 (up S 14) λt30=>
(qG .eql 3 p9 t30 λt31=>
aN t31 (aB0 C K aa p4 p5 p6 p8 p9 qj sn wy (.bool OB) (up S 14)) (qX 27 p6 p9 λt32=>
qE 90 t32 0 9 (up S 14) λt34=>
qE 90 p8 0 9 (up S 14) λt36=>
(qG .neq 9 t34 t36 λt37=>
aB0 C K aa p4 p5 p6 p8 p9 qj sn wy t37 (up S 14))))
def aKe(C:aL)(K:KW)(aa:On V->St->Prop)(p4 p5 p6 p8 qj sn wy:V)(vs:On V)(S:St)(cj:On V->St->Prop):Prop:=
vA vs λx9 vs=>
qZ 27 p6 (up S 14) λt38=>
qB .lss 3 x9 t38 λt39=>
aN t39 (qX 27 p6 x9 λt40=>
qE 90 t40 0 9 (up S 14) λt42=>
qE 90 p8 0 9 (up S 14) λt44=>
qB .lss 9 t42 t44 λt45=>
aN t45 (qB .add 3 x9 (jI 1) λt46=>
cj [t46] (up S 14)) (aDy C K aa p4 p5 p6 p8 x9 qj sn wy (up S 14))) (aDy C K aa p4 p5 p6 p8 x9 qj sn wy (up S 14))
def aKf(C:aL)(K:KW)(qj sn:V)(vs:On V)(S:St)(aa:On V->St->Prop):Prop:=
vA vs λx4 vs=>
vA vs λx5 vs=>
vA vs λx6 vs=>
vA vs λHI vs=>
qB .lss 3 HI sn λt5=>
aN t5 (qX 27 qj HI λt6=>
qL 90 t6 S λt7=>
qN S 2 [.str [],jI 0] λr8=>
qS 90 (pt r8) t7 r8.2 λS9=>
iN [(jI 0)] S9 (aKe C K aa x4 x5 x6 (pt r8) qj sn HI)) (K (.tup [x6,(jI 0)]) S)
def bBw(C:aL)(a0 a1:V)(S:St)(K:KW):Prop:=
C 220 [a0] S λt0 S1=>
wR (unV .not t0) λt2=>
aN t2 (K (.tup [(.nils),(jI 1)]) S1) (qP 27 (.nils) a0 OG S1 λr3=>
qZ 27 a1 r3.2 λt4=>
iN [(.nils),(jI 0),r3.1,(jI 0)] r3.2 (aKf C K a1 t4))
theorem bBx:(λ(C:aL) (a0 a1:V) (S:St) (K:KW)=>dR prog C aK6 aP9 158 [a0,a1] S K)=λC a0 a1 S K=>bBw C a0 a1 S K:=by kernel_rfl
theorem bHw(C:aL)(a0 a1:V)(S:St)(K:KW):dR prog C aK6 aP9 158 [a0,a1] S K=bBw C a0 a1 S K:=OR (OR (OR (OR (OR bBx C) a0) a1) S) K
theorem bTf{a0 a1:V}{v:V}(hc:cloVs [a0,a1]=OB)(h:bBw C a0 a1 ⟨0,.nil⟩ λv0 S0=>eX S0 v0=.ok v):Fv 158 [a0,a1] v:=Go.AM.Fn.of (p:=aK6) (lv:=aP9) (by kernel_rfl) hc (by rw[bHw];exact h)
theorem bKd:lS 158=Ot (.val aK6):=by kernel_rfl
def aDz(C:aL)(K:KW)(p0 p1 p6:V)(S:St):Prop:=
qP 28 (.nils) p0 OG S λr5=>
qD 132 [(0,p1)] λt6=>
qQ 28 1 [(0,t6)] OG r5.2 λr7=>
C 230 [r5.1,p6,r7.1] r7.2 λt8 S9=>
K (.tup [t8,(jI 0)]) S9
def aKg(C:aL)(K:KW)(p0 p1:V)(vs:On V)(S:St)(aa:On V->St->Prop):Prop:=
vA vs λx6 vs=>
qZ 28 p0 S λt10=>
qB .lss 3 x6 t10 λt11=>
aN t11 (qX 28 p0 x6 λt12=>
qE 132 t12 0 3 S λt14=>
qB .lss 3 t14 p1 λt15=>
aN t15 (qB .add 3 x6 (jI 1) λt16=>
aa [t16] S) (aDz C K p0 p1 x6 S)) (aDz C K p0 p1 x6 S)
def aKh(C:aL)(K:KW)(p0 p1 p7:V)(S:St):Prop:=
aN p7 (K (.tup [(.nils),(jI 1)]) S) (C 174 [p0,p1] S λt0 S1=>
qB .geq 3 t0 (jI 0) λt2=>
aN t2 (K (.tup [(.nils),(jI 12)]) S1) (qZ 28 p0 S1 λt3=>
qB .geq 3 t3 (jI 8) λt4=>
aN t4 (K (.tup [(.nils),(jI 14)]) S1) (iN [(jI 0)] S1 (aKg C K p0 p1))))
def bBy(C:aL)(a0 a1:V)(S:St)(K:KW):Prop:=
C 166 [a0] S λt17 Bw=>
wR (unV .not t17) λt19=>
aN t19 (aKh C K a0 a1 (.bool OB) Bw) (qB .lss 3 a1 (jI 1) λt20=>
aKh C K a0 a1 t20 Bw)
theorem bBz:(λ(C:aL) (a0 a1:V) (S:St) (K:KW)=>dR prog C aP5 aP6 173 [a0,a1] S K)=λC a0 a1 S K=>bBy C a0 a1 S K:=by kernel_rfl
theorem bTg(C:aL)(a0 a1:V)(S:St)(K:KW):dR prog C aP5 aP6 173 [a0,a1] S K=bBy C a0 a1 S K:=OR (OR (OR (OR (OR bBz C) a0) a1) S) K
theorem bTh{a0 a1:V}{v:V}(hc:cloVs [a0,a1]=OB)(h:bBy C a0 a1 ⟨0,.nil⟩ λv0 S0=>eX S0 v0=.ok v):Fv 173 [a0,a1] v:=Go.AM.Fn.of (p:=aP5) (lv:=aP6) (by kernel_rfl) hc (by rw[bTg];exact h)
def aE0(C:aL)(K:KW)(p0 p1 p2 p8:V)(S:St):Prop:=
C 235 [p0] S λt11 Ap=>
qD 126 [(0,p1),(1,(jI 1)),(2,p2)] λt13=>
qQ 25 1 [(0,t13)] OG Ap λAq=>
C 234 [t11,p8,Aq.1] Aq.2 λt15 wt=>
K (.tup [t15,(jI 0)]) wt
def aKi(C:aL)(K:KW)(p0 p1 p2:V)(vs:On V)(S:St)(aa:On V->St->Prop):Prop:=
vA vs λx8 vs=>
qZ 25 p0 S λt17=>
qB .lss 3 x8 t17 λt18=>
aN t18 (qX 25 p0 x8 λt19=>
qE 126 t19 0 9 S λt21=>
qB .lss 9 t21 p1 λt22=>
aN t22 (qB .add 3 x8 (jI 1) λt23=>
aa [t23] S) (aE0 C K p0 p1 p2 x8 S)) (aE0 C K p0 p1 p2 x8 S)
def aKj(C:aL)(K:KW)(p0 p1 p2 qj:V)(S:St):Prop:=
aN qj (K (.tup [(.nils),(jI 1)]) S) (C 233 [p0,p1] S λt6 S7=>
qB .geq 3 t6 (jI 0) λt8=>
aN t8 (K (.tup [(.nils),(jI 12)]) S7) (qZ 25 p0 S7 λt9=>
qB .geq 3 t9 (jI 8) λt10=>
aN t10 (K (.tup [(.nils),(jI 14)]) S7) (iN [(jI 0)] S7 (aKi C K p0 p1 p2))))
def bC0(C:aL)(a0 a1 a2:V)(S:St)(K:KW):Prop:=
C 86 [a0] S λt0 S1=>
wR (unV .not t0) λt2=>
aN t2 (K (.tup [(.nils),(jI 1)]) S1) (C 165 [a1] S1 λt3 S4=>
wR (unV .not t3) λt5=>
aN t5 (K (.tup [(.nils),(jI 8)]) S4) (qB .lss 3 a2 (jI 1) λt24=>
aN t24 (aKj C K a0 a1 a2 (.bool OB) S4) (qB .gtr 3 a2 (jI 1099511627776) λt25=>
aKj C K a0 a1 a2 t25 S4)))
theorem bC1:(λ(C:aL) (a0 a1 a2:V) (S:St) (K:KW)=>dR prog C aP7 aP8 175 [a0,a1,a2] S K)=λC a0 a1 a2 S K=>bC0 C a0 a1 a2 S K:=by kernel_rfl
theorem bTi(C:aL)(a0 a1 a2:V)(S:St)(K:KW):dR prog C aP7 aP8 175 [a0,a1,a2] S K=bC0 C a0 a1 a2 S K:=OR (OR (OR (OR (OR (OR bC1 C) a0) a1) a2) S) K
theorem bTj{a0 a1 a2:V}{v:V}(hc:cloVs [a0,a1,a2]=OB)(h:bC0 C a0 a1 a2 ⟨0,.nil⟩ λv0 S0=>eX S0 v0=.ok v):Fv 175 [a0,a1,a2] v:=Go.AM.Fn.of (p:=aP7) (lv:=aP8) (by kernel_rfl) hc (by rw[bTi];exact h)
def aE1(C:aL)(K:KW)(p0 p3 ur:V)(S:St):Prop:=
qX 80 p0 ur λt0=>
qE 145 t0 2 3 S λt2=>
C 203 [t2,p3] S λt3 S4=>
fI t3 0 λt5=>
fI t3 1 λt6=>
qX 80 p0 ur λt7=>
qF 145 t7 2 λt8=>
qS 3 t8 t5 S4 λS9=>
K (.tup [p0,t6]) S9
def aB1(C:aL)(K:KW)(p0 p1 p2 p3 ur NK:V)(S:St):Prop:=
aN NK (qD 145 [(0,p1),(1,p2)] λt10=>
qQ 80 1 [(0,t10)] OG S λLc=>
C 280 [p0,ur,Lc.1] Lc.2 λt12 HJ=>
aE1 C K t12 p3 ur HJ) (aE1 C K p0 p3 ur S)
def aE2(C:aL)(K:KW)(p0 p1 p2 p3 ur:V)(S:St):Prop:=
qZ 80 p0 S λt14=>
(qG .eql 3 ur t14 λt15=>
aN t15 (aB1 C K p0 p1 p2 p3 ur (.bool OB) S) (qX 80 p0 ur λt16=>
qE 145 t16 0 9 S λt18=>
(qG .neq 9 t18 p1 λt19=>
aB1 C K p0 p1 p2 p3 ur t19 S)))
def aKk(C:aL)(K:KW)(p0 p1 p2 p3:V)(vs:On V)(S:St)(aa:On V->St->Prop):Prop:=
vA vs λDQ vs=>
qZ 80 p0 S λt20=>
qB .lss 3 DQ t20 λt21=>
aN t21 (qX 80 p0 DQ λt22=>
qE 145 t22 0 9 S λt24=>
qB .lss 9 t24 p1 λt25=>
aN t25 (qB .add 3 DQ (jI 1) λt26=>
aa [t26] S) (aE2 C K p0 p1 p2 p3 DQ S)) (aE2 C K p0 p1 p2 p3 DQ S)
def bC2(C:aL)(a0 a1 a2 a3:V)(S:St)(K:KW):Prop:=
iN [(jI 0)] S (aKk C K a0 a1 a2 a3)
theorem bC3:(λ(C:aL) (a0 a1 a2 a3:V) (S:St) (K:KW)=>dR prog C aOy aOz 269 [a0,a1,a2,a3] S K)=λC a0 a1 a2 a3 S K=>bC2 C a0 a1 a2 a3 S K:=by kernel_rfl
theorem bTk(C:aL)(a0 a1 a2 a3:V)(S:St)(K:KW):dR prog C aOy aOz 269 [a0,a1,a2,a3] S K=bC2 C a0 a1 a2 a3 S K:=OR (OR (OR (OR (OR (OR (OR bC3 C) a0) a1) a2) a3) S) K
theorem bTl{a0 a1 a2 a3:V}{S:St}{K:KW}(h:bC2 C a0 a1 a2 a3 S K):C 269 [a0,a1,a2,a3] S K:=aOi (p:=aOy) (lv:=aOz) (by kernel_rfl) (by rw[bTk];exact h)
def xG(C:aL)(K:KW)(aa:On V->St->Prop)(p0 p2 p3 p4 DS NL NM:V)(S:St):Prop:=
aN NM (qD 82 [] λt37=>
qS 82 p2 t37 S λCm=>
qL 82 p2 Cm λt39=>
K (.tup [t39,(jI 7)]) Cm) (qB .add 3 NL (jI 1) λt40=>
aa [p3,t40] S)
def aKl(C:aL)(K:KW)(p0 p2 p4 DS:V)(vs:On V)(S:St)(aa:On V->St->Prop):Prop:=
vA vs λx3 vs=>
vA vs λAr vs=>
qB .lss 3 Ar DS λt5=>
aN t5 (qX 80 p0 Ar λt6=>
uU t6 (qE 145 t6 2 3 (up S 17) λt8=>
uU t6 (qE 145 t6 1 3 (up S 17) λt10=>
C 217 [t8,t10] (up S 17) λt11 Ap=>
fI t11 0 λt13=>
fI t11 1 λt14=>
uU t6 (qF 145 t6 3 λt15=>
qS 3 t15 t13 Ap λwt=>
qE 82 p4 0 3 (up wt 13) λt18=>
uU t6 (qE 145 t6 2 3 (up wt 13) λt20=>
C 203 [t18,t20] (up wt 13) λt21 Al=>
fI t21 0 λt23=>
fI t21 1 λt24=>
qF 82 p4 0 λt25=>
qS 3 t25 t23 Al λDT=>
qE 82 p4 1 3 (up DT 13) λt28=>
uU t6 (qE 145 t6 3 3 (up DT 13) λt30=>
C 203 [t28,t30] (up DT 13) λt31 FD=>
fI t31 0 λt33=>
fI t31 1 λt34=>
qF 82 p4 1 λt35=>
qS 3 t35 t33 FD λHK=>
(qG .neq 31 t14 (jI 0) λt41=>
aN t41 (xG C K aa p0 p2 x3 p4 DS Ar (.bool OB) HK) ((qG .neq 31 t24 (jI 0) λt42=>
aN t42 (xG C K aa p0 p2 x3 p4 DS Ar (.bool OB) HK) ((qG .neq 31 t34 (jI 0) λt43=>
xG C K aa p0 p2 x3 p4 DS Ar t43 HK))))))))))) (qE 82 p4 0 3 S λt45=>
qE 82 p4 1 3 S λt47=>
C 203 [t45,t47] S λt48 FE=>
fI t48 0 λt50=>
fI t48 1 λt51=>
(qG .neq 31 t51 (jI 0) λt52=>
aN t52 (qD 82 [] λt53=>
qS 82 p2 t53 FE λLe=>
qL 82 p2 Le λt55=>
K (.tup [t55,t51]) Le) (qF 82 p4 2 λt56=>
qS 3 t56 t50 FE λDG=>
qL 82 p4 DG λt58=>
qS 82 p2 t58 DG λFA=>
qL 82 p2 FA λt60=>
K (.tup [t60,(jI 0)]) FA)))
def bC4(C:aL)(a0:V)(S:St)(K:KW):Prop:=
qN S 4 [jI 0,jI 0,jI 0,.nils] λr0=>
qD 82 [(3,a0)] λt1=>
qN r0.2 4 [jI 0,jI 0,jI 0,.nils] λr2=>
qS 82 (pt r2) t1 r2.2 λS3=>
qZ 80 a0 S3 λt4=>
iN [(jI 0),(jI 0)] S3 (aKl C K a0 (pt r0) (pt r2) t4)
theorem bC5:(λ(C:aL) (a0:V) (S:St) (K:KW)=>dR prog C aP0 aP1 270 [a0] S K)=λC a0 S K=>bC4 C a0 S K:=by kernel_rfl
theorem bTm(C:aL)(a0:V)(S:St)(K:KW):dR prog C aP0 aP1 270 [a0] S K=bC4 C a0 S K:=OR (OR (OR (OR bC5 C) a0) S) K
theorem bTn{a0:V}{S:St}{K:KW}(h:bC4 C a0 S K):C 270 [a0] S K:=aOi (p:=aP0) (lv:=aP1) (by kernel_rfl) (by rw[bTm];exact h)
abbrev App(T n b:Nat):Prop:=∀(s x:V) (fr:Ow Nat) (S:St),iP prog T s x fr S=eC n b s x fr S
abbrev Bd(T:Nat)(z:On V)(pl:On (Nat×Nat)):Prop:=∀parts:On (Nat×V),rO prog T parts=zD z pl parts
abbrev Bs(T n:Nat)(z:On V):Prop:=∀(len:Nat) (parts:On (Nat×V)) (fr:Ow Nat) (S:St),dO prog T len parts fr S=cX n z len parts fr S
abbrev Cv(s d:Nat)(k:Qa):Prop:=∀(j:Qa) (n:Int) (fr:Ow Nat) (S:St),eK prog s d (.int j n) fr S=.ok (.int k (wr k n),S)
abbrev Fa(s f o:Nat):Prop:=∀p:V,eQ prog s p f=advW o p
abbrev Ix(T n:Nat):Prop:=∀x i:V,dT prog T x i=fV n x i
abbrev Ld(T:Nat)(k:Ow Nat):Prop:=∀(p:V) (S:St),oG prog T p S=fZ k p S
abbrev Ln(T:Nat):Prop:=∀(x:V) (S:St),aBn prog T x S=lenW x
abbrev Sl_(T n:Nat):Prop:=∀(a ver off len:Nat) (lo hi:Ow V),iZ prog T (.sl a ver n off len) lo hi=(match eR len lo hi with
 | .ok (l,h)=>.ok (.sl a ver n (off+l) (h - l))
 | .error e=>.error e)
abbrev Si(T n:Nat):Prop:=∀(es:On (On V)) (hl:kG n es=OB) (lo hi:Ow V),iZ prog T (.imm es) lo hi=(match eR es.length lo hi with
 | .ok (l,h)=>.ok (.imm ((es.take h).drop l))
 | .error e=>.error e)
abbrev Sr(T n:Nat):Prop:=∀(p x:V) (S:St),rN prog T p x S=eL n p x S
theorem aX2:App 102 23 224:=dM
theorem bEr:App 22 1 1:=dM
theorem bEs:App 24 5 48:=dM
theorem bEt:App 25 4 40:=dM
theorem bEu:App 26 12 128:=dM
theorem bEv:App 27 2 24:=dM
theorem bEw:App 28 5 40:=dM
theorem bEx:App 44 17 176:=dM
theorem bEy:App 55 4 48:=dM
theorem bEz:App 62 3 24:=dM
theorem bF0:App 71 4 40:=dM
theorem bF1:App 80 4 40:=dM
theorem bF2:App 96 1 8:=dM
theorem bF3:App 97 23 224:=dM
theorem bF4:Bd 126 [.str [],O J 0,O J 0,.bool OA] [(0,1),(1,1),(2,1),(3,1)]:=cK
theorem bF5:Bd 132 [O J 0,O J 0,O J 0,O J 0,O J 0] [(0,1),(1,1),(2,3)]:=cK
theorem bF6:Bd 142 [.nils,O J 0,O J 0] [(0,1),(1,1),(2,1)]:=cK
theorem bF7:Bd 145 [.str [],O J 0,O J 0,O J 0] [(0,1),(1,1),(2,1),(3,1)]:=cK
theorem bF8:Bd 160 [.nils] [(0,1)]:=cK
theorem bF9:Bd 201 [.str [],.str [],O J 0,O J 0] [(0,1),(1,1),(2,1),(3,1)]:=cK
theorem bFa:Bd 207 [O J 0,O J 0,O J 0,.str [],O J 0,.str [],O J 0,O J 0,O J 0,O J 0,O J 0,O J 0,O J 0,.nils,.str [],O J 0,O J 0,O J 0,O J 0,O J 0,O J 0,O J 0,O J 0] [(0,17),(17,1),(18,1),(19,1),(20,3)]:=cK
theorem bFb:Bd 212 [.nili] [(0,1)]:=cK
theorem bFc:Bd 225 [.nils,O J 0,O J 0] [(0,1),(1,1),(2,1)]:=cK
theorem bFd:Bd 287 [.nils,.bool OA] [(0,1),(1,1)]:=cK
theorem bKe:Bd 30 [.nils,.nils,.nils,.nils,.nils,O J 0] [(0,1),(1,1),(2,1),(3,1),(4,1),(5,1)]:=cK
theorem bFe:Bd 346 [O J 0,.int ξ 0] [(0,1),(1,1)]:=cK
theorem bKf:Bd 48 [O J 0,O J 0,O J 0] [(0,1),(1,1),(2,1)]:=cK
theorem bKg:Bd 52 [O J 0,O J 0,O J 0] [(0,1),(1,1),(2,1)]:=cK
theorem bKh:Bd 54 [.str [],O J 0,O J 0,O J 0,O J 0] [(0,1),(1,3),(4,1)]:=cK
theorem bKi:Bd 57 [.str [],O J 0] [(0,1),(1,1)]:=cK
theorem bKj:Bd 59 [O J 0,.str [],O J 0,.str [],O J 0,O J 0,O J 0,O J 0,O J 0,O J 0,O J 0,.nils,.str [],O J 0,O J 0] [(0,1),(1,1),(2,1),(3,5),(8,3),(11,1),(12,2),(14,1)]:=cK
theorem bKk:Bd 61 [O J 0,O J 0,O J 0,.str [],O J 0,.str [],O J 0,O J 0,O J 0,O J 0,O J 0,O J 0,O J 0,.nils,.str [],O J 0,O J 0] [(0,1),(1,1),(2,15)]:=cK
theorem bKl:Bd 76 [.str [],O J 0,O J 0,O J 0] [(0,1),(1,1),(2,1),(3,1)]:=cK
theorem bKm:Bd 77 [.str [],O J 0,O J 0,O J 0] [(0,1),(1,1),(2,1),(3,1)]:=cK
theorem bKn:Bd 82 [O J 0,O J 0,O J 0,.nils] [(0,1),(1,1),(2,1),(3,1)]:=cK
theorem bKo:Bd 84 [.str [],O J 0,O J 0,O J 0,O J 0,O J 0,O J 0,O J 0,.nils,.str [],O J 0,.bool OA] [(0,2),(2,3),(5,4),(9,2),(11,1)]:=cK
theorem bKp:Bd 90 [.str [],O J 0] [(0,1),(1,1)]:=cK
theorem bKq:Bd 99 [O J 0,O J 0,O J 0,.str [],O J 0,.str [],O J 0,O J 0,O J 0,O J 0,O J 0,O J 0,O J 0,.nils,.str [],O J 0,O J 0,O J 0,O J 0,O J 0,O J 0,O J 0,O J 0] [(0,17),(17,1),(18,1),(19,1),(20,3)]:=cK
theorem bFf:Bs 102 23 [O J 0,O J 0,O J 0,.str [],O J 0,.str [],O J 0,O J 0,O J 0,O J 0,O J 0,O J 0,O J 0,.nils,.str [],O J 0,O J 0,O J 0,O J 0,O J 0,O J 0,O J 0,O J 0]:=bM
theorem bKr:Bs 22 1 [.int ω 0]:=bM
theorem bKs:Bs 24 5 [.str [],O J 0,O J 0,O J 0,O J 0]:=bM
theorem bKt:Bs 25 4 [.str [],O J 0,O J 0,.bool OA]:=bM
theorem bKu:Bs 26 12 [.str [],O J 0,O J 0,O J 0,O J 0,O J 0,O J 0,O J 0,.nils,.str [],O J 0,.bool OA]:=bM
theorem bKv:Bs 27 2 [.str [],O J 0]:=bM
theorem bKw:Bs 28 5 [O J 0,O J 0,O J 0,O J 0,O J 0]:=bM
theorem bFg:Bs 361 1 [.nilp]:=bM
theorem bFh:Bs 364 1 [.str []]:=bM
theorem bKx:Bs 44 17 [O J 0,O J 0,O J 0,.str [],O J 0,.str [],O J 0,O J 0,O J 0,O J 0,O J 0,O J 0,O J 0,.nils,.str [],O J 0,O J 0]:=bM
theorem bKy:Bs 55 4 [.str [],.str [],O J 0,O J 0]:=bM
theorem bKz:Bs 62 3 [O J 0,O J 0,O J 0]:=bM
theorem bL0:Bs 68 4 [.str [],O J 0,O J 0,O J 0]:=bM
theorem bL1:Bs 71 4 [.str [],O J 0,O J 0,O J 0]:=bM
theorem bL2:Bs 80 4 [.str [],O J 0,O J 0,O J 0]:=bM
theorem bL3:Bs 96 1 [O J 0]:=bM
theorem bL4:Bs 97 23 [O J 0,O J 0,O J 0,.str [],O J 0,.str [],O J 0,O J 0,O J 0,O J 0,O J 0,O J 0,O J 0,.nils,.str [],O J 0,O J 0,O J 0,O J 0,O J 0,O J 0,O J 0,O J 0]:=bM
theorem aQt:Cv 229 3 J:=nJ
theorem aQu:Cv 229 5 ω:=nJ
theorem aQv:Cv 3 229 ξ:=nJ
theorem aQw:Cv 3 231 ξ:=nJ
theorem aQx:Cv 5 229 ξ:=nJ
theorem bHx:(λ(ap:On OP) (aw:Int) (br:Int) (eo:Ps) (ar:On OP) (ax:Int) (bw:Int) (ep:Ps)=>vC prog 100 126 (.agg [.str ap,O J aw,O J br,.bool eo]) (.agg [.str ar,O J ax,O J bw,.bool ep]))=λap aw br eo ar ax bw ep=>(iC (.ok (tF ap ar)) (iC (.ok (decide (aw=ax))) (iC (.ok (decide (br=bw))) (iC (.ok (eo == ep)) (.ok OB))))):=by kernel_rfl
theorem bFi(ap:On OP)(aw:Int)(br:Int)(eo:Ps)(ar:On OP)(ax:Int)(bw:Int)(ep:Ps):vC prog 100 126 (.agg [.str ap,O J aw,O J br,.bool eo]) (.agg [.str ar,O J ax,O J bw,.bool ep])=.ok ((ap == ar)&&decide (aw=ax)&&decide (br=bw)&&(eo == ep)):=by
 refine(OR (OR (OR (OR (OR (OR (OR (OR bHx ap) aw) br) eo) ar) ax) bw) ep).trans ?_;simp only[lQ,eB,QQ,Ro]
theorem bL5:(λa b=>cF prog 126 (.agg a) (.agg b))=λ_ _=>true:=by kernel_rfl
theorem bFj(a b:On V):cF prog 126 (.agg a) (.agg b)=true:=OR (OR bL5 a) b
theorem bHy:(λ(ap:Int) (aw:Int) (ib:Int) (ic:Int) (ie:Int) (ar:Int) (ax:Int) (ig:Int) (ii:Int) (ij:Int)=>vC prog 100 132 (.agg [O J ap,O J aw,O J ib,O J ic,O J ie]) (.agg [O J ar,O J ax,O J ig,O J ii,O J ij]))=λap aw ib ic ie ar ax ig ii ij=>(iC (.ok (decide (ap=ar))) (iC (.ok (decide (aw=ax))) (iC (iC (.ok (decide (ib=ig))) (iC (.ok (decide (ic=ii))) (iC (.ok (decide (ie=ij))) (.ok OB)))) (.ok OB)))):=by kernel_rfl
theorem bFk(ap:Int)(aw:Int)(ib:Int)(ic:Int)(ie:Int)(ar:Int)(ax:Int)(ig:Int)(ii:Int)(ij:Int):vC prog 100 132 (.agg [O J ap,O J aw,O J ib,O J ic,O J ie]) (.agg [O J ar,O J ax,O J ig,O J ii,O J ij])=.ok (decide (ap=ar)&&decide (aw=ax)&&decide (ib=ig)&&decide (ic=ii)&&decide (ie=ij)):=by
 refine(OR (OR (OR (OR (OR (OR (OR (OR (OR (OR bHy ap) aw) ib) ic) ie) ar) ax) ig) ii) ij).trans ?_;simp only[lQ,eB,QQ,Ro]
theorem bL6:(λa b=>cF prog 132 (.agg a) (.agg b))=λ_ _=>true:=by kernel_rfl
theorem bFl(a b:On V):cF prog 132 (.agg a) (.agg b)=true:=OR (OR bL6 a) b
theorem bHz:(λ(ap:On OP) (aw:Int) (br:Int) (eo:Int) (ar:On OP) (ax:Int) (bw:Int) (ep:Int)=>vC prog 100 145 (.agg [.str ap,O J aw,O J br,O J eo]) (.agg [.str ar,O J ax,O J bw,O J ep]))=λap aw br eo ar ax bw ep=>(iC (.ok (tF ap ar)) (iC (.ok (decide (aw=ax))) (iC (.ok (decide (br=bw))) (iC (.ok (decide (eo=ep))) (.ok OB))))):=by kernel_rfl
theorem bFm(ap:On OP)(aw:Int)(br:Int)(eo:Int)(ar:On OP)(ax:Int)(bw:Int)(ep:Int):vC prog 100 145 (.agg [.str ap,O J aw,O J br,O J eo]) (.agg [.str ar,O J ax,O J bw,O J ep])=.ok ((ap == ar)&&decide (aw=ax)&&decide (br=bw)&&decide (eo=ep)):=by
 refine(OR (OR (OR (OR (OR (OR (OR (OR bHz ap) aw) br) eo) ar) ax) bw) ep).trans ?_;simp only[lQ,eB,QQ,Ro]
theorem bL7:(λa b=>cF prog 145 (.agg a) (.agg b))=λ_ _=>true:=by kernel_rfl
theorem bFn(a b:On V):cF prog 145 (.agg a) (.agg b)=true:=OR (OR bL7 a) b
theorem bI0:(λ(ap:On OP) (aw:On OP) (br:Int) (eo:Int) (ar:On OP) (ax:On OP) (bw:Int) (ep:Int)=>vC prog 100 201 (.agg [.str ap,.str aw,O J br,O J eo]) (.agg [.str ar,.str ax,O J bw,O J ep]))=λap aw br eo ar ax bw ep=>(iC (.ok (tF ap ar)) (iC (.ok (tF aw ax)) (iC (.ok (decide (br=bw))) (iC (.ok (decide (eo=ep))) (.ok OB))))):=by kernel_rfl
theorem bFo(ap:On OP)(aw:On OP)(br:Int)(eo:Int)(ar:On OP)(ax:On OP)(bw:Int)(ep:Int):vC prog 100 201 (.agg [.str ap,.str aw,O J br,O J eo]) (.agg [.str ar,.str ax,O J bw,O J ep])=.ok ((ap == ar)&&(aw == ax)&&decide (br=bw)&&decide (eo=ep)):=by
 refine(OR (OR (OR (OR (OR (OR (OR (OR bI0 ap) aw) br) eo) ar) ax) bw) ep).trans ?_;simp only[lQ,eB,QQ,Ro]
theorem bL8:(λa b=>cF prog 201 (.agg a) (.agg b))=λ_ _=>true:=by kernel_rfl
theorem bFp(a b:On V):cF prog 201 (.agg a) (.agg b)=true:=OR (OR bL8 a) b
theorem bI1:(λ(ap:Int) (aw:Int) (ar:Int) (ax:Int)=>vC prog 100 346 (.agg [O J ap,.int ξ aw]) (.agg [O J ar,.int ξ ax]))=λap aw ar ax=>(iC (.ok (decide (ap=ar))) (iC (.ok (decide (aw=ax))) (.ok OB))):=by kernel_rfl
theorem bFq(ap:Int)(aw:Int)(ar:Int)(ax:Int):vC prog 100 346 (.agg [O J ap,.int ξ aw]) (.agg [O J ar,.int ξ ax])=.ok (decide (ap=ar)&&decide (aw=ax)):=by
 refine(OR (OR (OR (OR bI1 ap) aw) ar) ax).trans ?_;simp only[lQ,eB,QQ,Ro]
theorem bL9:(λa b=>cF prog 346 (.agg a) (.agg b))=λ_ _=>true:=by kernel_rfl
theorem bFr(a b:On V):cF prog 346 (.agg a) (.agg b)=true:=OR (OR bL9 a) b
theorem bLa:(λ(ap:Int) (aw:Int) (br:Int) (ar:Int) (ax:Int) (bw:Int)=>vC prog 100 48 (.agg [O J ap,O J aw,O J br]) (.agg [O J ar,O J ax,O J bw]))=λap aw br ar ax bw=>(iC (.ok (decide (ap=ar))) (iC (.ok (decide (aw=ax))) (iC (.ok (decide (br=bw))) (.ok OB)))):=by kernel_rfl
theorem bLb(ap:Int)(aw:Int)(br:Int)(ar:Int)(ax:Int)(bw:Int):vC prog 100 48 (.agg [O J ap,O J aw,O J br]) (.agg [O J ar,O J ax,O J bw])=.ok (decide (ap=ar)&&decide (aw=ax)&&decide (br=bw)):=by
 refine(OR (OR (OR (OR (OR (OR bLa ap) aw) br) ar) ax) bw).trans ?_;simp only[lQ,eB,QQ,Ro]
theorem bTo:(λa b=>cF prog 48 (.agg a) (.agg b))=λ_ _=>true:=by kernel_rfl
theorem bLc(a b:On V):cF prog 48 (.agg a) (.agg b)=true:=OR (OR bTo a) b
theorem bLd:(λ(ap:Int) (aw:Int) (br:Int) (ar:Int) (ax:Int) (bw:Int)=>vC prog 100 52 (.agg [O J ap,O J aw,O J br]) (.agg [O J ar,O J ax,O J bw]))=λap aw br ar ax bw=>(iC (.ok (decide (ap=ar))) (iC (.ok (decide (aw=ax))) (iC (.ok (decide (br=bw))) (.ok OB)))):=by kernel_rfl
theorem bLe(ap:Int)(aw:Int)(br:Int)(ar:Int)(ax:Int)(bw:Int):vC prog 100 52 (.agg [O J ap,O J aw,O J br]) (.agg [O J ar,O J ax,O J bw])=.ok (decide (ap=ar)&&decide (aw=ax)&&decide (br=bw)):=by
 refine(OR (OR (OR (OR (OR (OR bLd ap) aw) br) ar) ax) bw).trans ?_;simp only[lQ,eB,QQ,Ro]
theorem bTp:(λa b=>cF prog 52 (.agg a) (.agg b))=λ_ _=>true:=by kernel_rfl
theorem bLf(a b:On V):cF prog 52 (.agg a) (.agg b)=true:=OR (OR bTp a) b
theorem bLg:(λ(ap:On OP) (ik:Int) (im:Int) (io:Int) (br:Int) (ar:On OP) (ip:Int) (iq:Int) (iu:Int) (bw:Int)=>vC prog 100 54 (.agg [.str ap,O J ik,O J im,O J io,O J br]) (.agg [.str ar,O J ip,O J iq,O J iu,O J bw]))=λap ik im io br ar ip iq iu bw=>(iC (.ok (tF ap ar)) (iC (iC (.ok (decide (ik=ip))) (iC (.ok (decide (im=iq))) (iC (.ok (decide (io=iu))) (.ok OB)))) (iC (.ok (decide (br=bw))) (.ok OB)))):=by kernel_rfl
theorem bLh(ap:On OP)(ik:Int)(im:Int)(io:Int)(br:Int)(ar:On OP)(ip:Int)(iq:Int)(iu:Int)(bw:Int):vC prog 100 54 (.agg [.str ap,O J ik,O J im,O J io,O J br]) (.agg [.str ar,O J ip,O J iq,O J iu,O J bw])=.ok ((ap == ar)&&decide (ik=ip)&&decide (im=iq)&&decide (io=iu)&&decide (br=bw)):=by
 refine(OR (OR (OR (OR (OR (OR (OR (OR (OR (OR bLg ap) ik) im) io) br) ar) ip) iq) iu) bw).trans ?_;simp only[lQ,eB,QQ,Ro]
theorem bTq:(λa b=>cF prog 54 (.agg a) (.agg b))=λ_ _=>true:=by kernel_rfl
theorem bLi(a b:On V):cF prog 54 (.agg a) (.agg b)=true:=OR (OR bTq a) b
theorem bLj:(λ(ap:On OP) (aw:Int) (ar:On OP) (ax:Int)=>vC prog 100 57 (.agg [.str ap,O J aw]) (.agg [.str ar,O J ax]))=λap aw ar ax=>(iC (.ok (tF ap ar)) (iC (.ok (decide (aw=ax))) (.ok OB))):=by kernel_rfl
theorem bLk(ap:On OP)(aw:Int)(ar:On OP)(ax:Int):vC prog 100 57 (.agg [.str ap,O J aw]) (.agg [.str ar,O J ax])=.ok ((ap == ar)&&decide (aw=ax)):=by
 refine(OR (OR (OR (OR bLj ap) aw) ar) ax).trans ?_;simp only[lQ,eB,QQ,Ro]
theorem bTr:(λa b=>cF prog 57 (.agg a) (.agg b))=λ_ _=>true:=by kernel_rfl
theorem bLl(a b:On V):cF prog 57 (.agg a) (.agg b)=true:=OR (OR bTr a) b
theorem bLm:(λ(ap:On OP) (aw:Int) (br:Int) (eo:Int) (ar:On OP) (ax:Int) (bw:Int) (ep:Int)=>vC prog 100 76 (.agg [.str ap,O J aw,O J br,O J eo]) (.agg [.str ar,O J ax,O J bw,O J ep]))=λap aw br eo ar ax bw ep=>(iC (.ok (tF ap ar)) (iC (.ok (decide (aw=ax))) (iC (.ok (decide (br=bw))) (iC (.ok (decide (eo=ep))) (.ok OB))))):=by kernel_rfl
theorem bLn(ap:On OP)(aw:Int)(br:Int)(eo:Int)(ar:On OP)(ax:Int)(bw:Int)(ep:Int):vC prog 100 76 (.agg [.str ap,O J aw,O J br,O J eo]) (.agg [.str ar,O J ax,O J bw,O J ep])=.ok ((ap == ar)&&decide (aw=ax)&&decide (br=bw)&&decide (eo=ep)):=by
 refine(OR (OR (OR (OR (OR (OR (OR (OR bLm ap) aw) br) eo) ar) ax) bw) ep).trans ?_;simp only[lQ,eB,QQ,Ro]
theorem bTs:(λa b=>cF prog 76 (.agg a) (.agg b))=λ_ _=>true:=by kernel_rfl
theorem bLo(a b:On V):cF prog 76 (.agg a) (.agg b)=true:=OR (OR bTs a) b
theorem bLp:(λ(ap:On OP) (aw:Int) (ar:On OP) (ax:Int)=>vC prog 100 90 (.agg [.str ap,O J aw]) (.agg [.str ar,O J ax]))=λap aw ar ax=>(iC (.ok (tF ap ar)) (iC (.ok (decide (aw=ax))) (.ok OB))):=by kernel_rfl
theorem bLq(ap:On OP)(aw:Int)(ar:On OP)(ax:Int):vC prog 100 90 (.agg [.str ap,O J aw]) (.agg [.str ar,O J ax])=.ok ((ap == ar)&&decide (aw=ax)):=by
 refine(OR (OR (OR (OR bLp ap) aw) ar) ax).trans ?_;simp only[lQ,eB,QQ,Ro]
theorem bTt:(λa b=>cF prog 90 (.agg a) (.agg b))=λ_ _=>true:=by kernel_rfl
theorem bLr(a b:On V):cF prog 90 (.agg a) (.agg b)=true:=OR (OR bTt a) b
theorem aQy:Fa 126 0 0:=aB
theorem aQz:Fa 126 1 1:=aB
theorem aR0:Fa 126 2 2:=aB
theorem aR1:Fa 126 3 3:=aB
theorem aR2:Fa 132 0 0:=aB
theorem aR3:Fa 132 1 1:=aB
theorem aR4:Fa 132 2 2:=aB
theorem aR5:Fa 142 0 0:=aB
theorem aR6:Fa 142 1 1:=aB
theorem aR7:Fa 142 2 2:=aB
theorem aR8:Fa 145 0 0:=aB
theorem aR9:Fa 145 1 1:=aB
theorem aRa:Fa 145 2 2:=aB
theorem aRb:Fa 145 3 3:=aB
theorem aRc:Fa 160 0 0:=aB
theorem aRd:Fa 201 0 0:=aB
theorem aRe:Fa 201 1 1:=aB
theorem aRf:Fa 201 2 2:=aB
theorem aRg:Fa 201 3 3:=aB
theorem aRh:Fa 207 0 0:=aB
theorem aRi:Fa 207 1 17:=aB
theorem aRj:Fa 207 2 18:=aB
theorem aRk:Fa 207 3 19:=aB
theorem aRl:Fa 207 4 20:=aB
theorem aRm:Fa 220 1 1:=aB
theorem aRn:Fa 220 2 2:=aB
theorem aRo:Fa 225 0 0:=aB
theorem aRp:Fa 225 1 1:=aB
theorem aRq:Fa 225 2 2:=aB
theorem aRr:Fa 287 0 0:=aB
theorem aRs:Fa 287 1 1:=aB
theorem aX3:Fa 30 0 0:=aB
theorem aX4:Fa 30 1 1:=aB
theorem aX5:Fa 30 2 2:=aB
theorem aX6:Fa 30 3 3:=aB
theorem aX7:Fa 30 4 4:=aB
theorem aX8:Fa 30 5 5:=aB
theorem aRt:Fa 346 0 0:=aB
theorem aRu:Fa 346 1 1:=aB
theorem aX9:Fa 48 0 0:=aB
theorem aXa:Fa 48 1 1:=aB
theorem aXb:Fa 48 2 2:=aB
theorem aXc:Fa 52 0 0:=aB
theorem aXd:Fa 52 1 1:=aB
theorem aXe:Fa 52 2 2:=aB
theorem aXf:Fa 54 0 0:=aB
theorem aXg:Fa 54 1 1:=aB
theorem aXh:Fa 54 2 4:=aB
theorem aXi:Fa 57 0 0:=aB
theorem aXj:Fa 57 1 1:=aB
theorem aXk:Fa 59 0 0:=aB
theorem aXl:Fa 59 1 1:=aB
theorem aXm:Fa 59 2 2:=aB
theorem aXn:Fa 59 3 3:=aB
theorem aXo:Fa 59 4 8:=aB
theorem aXp:Fa 59 5 11:=aB
theorem aXq:Fa 59 6 12:=aB
theorem aXr:Fa 59 7 14:=aB
theorem aXs:Fa 61 0 0:=aB
theorem aXt:Fa 61 1 1:=aB
theorem aXu:Fa 61 2 2:=aB
theorem aXv:Fa 76 0 0:=aB
theorem aXw:Fa 76 1 1:=aB
theorem aXx:Fa 76 2 2:=aB
theorem aXy:Fa 76 3 3:=aB
theorem aXz:Fa 77 0 0:=aB
theorem aY0:Fa 77 1 1:=aB
theorem aY1:Fa 77 2 2:=aB
theorem aY2:Fa 77 3 3:=aB
theorem aY3:Fa 82 0 0:=aB
theorem aY4:Fa 82 1 1:=aB
theorem aY5:Fa 82 2 2:=aB
theorem aY6:Fa 82 3 3:=aB
theorem aY7:Fa 84 0 0:=aB
theorem aY8:Fa 84 1 2:=aB
theorem aY9:Fa 84 2 5:=aB
theorem aYa:Fa 84 3 9:=aB
theorem aYb:Fa 84 4 11:=aB
theorem aYc:Fa 90 0 0:=aB
theorem aYd:Fa 90 1 1:=aB
theorem aYe:Fa 99 0 0:=aB
theorem aYf:Fa 99 1 17:=aB
theorem aYg:Fa 99 2 18:=aB
theorem aYh:Fa 99 3 19:=aB
theorem aYi:Fa 99 4 20:=aB
theorem bFs:Ix 102 23:=bO
theorem bFt:Ix 114 3:=bO
theorem bLs:Ix 22 1:=bO
theorem bLt:Ix 24 5:=bO
theorem bLu:Ix 25 4:=bO
theorem bLv:Ix 26 12:=bO
theorem bLw:Ix 27 2:=bO
theorem bLx:Ix 28 5:=bO
theorem bFu:Ix 361 1:=bO
theorem bFv:Ix 364 1:=bO
theorem bLy:Ix 44 17:=bO
theorem bLz:Ix 55 4:=bO
theorem bM0:Ix 62 3:=bO
theorem bM1:Ix 68 4:=bO
theorem bM2:Ix 71 4:=bO
theorem bM3:Ix 80 4:=bO
theorem bM4:Ix 96 1:=bO
theorem bM5:Ix 97 23:=bO
theorem bFw:Ld 126 (Ot 4):=bJ
theorem bFx:Ld 132 (Ot 5):=bJ
theorem bFy:Ld 145 (Ot 4):=bJ
theorem ld2:Ld 2 none:=bJ
theorem bFz:Ld 201 (Ot 4):=bJ
theorem bG0:Ld 212 (Ot 1):=bJ
theorem bM6:Ld 22 none:=bJ
theorem bG1:Ld 220 (Ot 3):=bJ
theorem bG2:Ld 229 none:=bJ
theorem bG3:Ld 232 none:=bJ
theorem bM7:Ld 24 none:=bJ
theorem bM8:Ld 25 none:=bJ
theorem bM9:Ld 26 none:=bJ
theorem bMa:Ld 27 none:=bJ
theorem bMb:Ld 28 none:=bJ
theorem ld3:Ld 3 none:=bJ
theorem bMc:Ld 30 (Ot 6):=bJ
theorem bMd:Ld 31 none:=bJ
theorem bG4:Ld 346 (Ot 2):=bJ
theorem bG5:Ld 349 none:=bJ
theorem ld4:Ld 4 none:=bJ
theorem bMe:Ld 48 (Ot 3):=bJ
theorem ld5:Ld 5 none:=bJ
theorem bMf:Ld 52 (Ot 3):=bJ
theorem bMg:Ld 54 (Ot 5):=bJ
theorem bMh:Ld 55 none:=bJ
theorem bMi:Ld 57 (Ot 2):=bJ
theorem bMj:Ld 59 (Ot 15):=bJ
theorem bMk:Ld 61 (Ot 17):=bJ
theorem bMl:Ld 76 (Ot 4):=bJ
theorem bMm:Ld 80 none:=bJ
theorem bMn:Ld 82 (Ot 4):=bJ
theorem bMo:Ld 84 (Ot 12):=bJ
theorem ld9:Ld 9 none:=bJ
theorem bMp:Ld 90 (Ot 2):=bJ
theorem bMq:Ld 99 (Ot 23):=bJ
theorem aYj:Ln 102:=fR
theorem aYk:Ln 114:=fR
theorem bG6:Ln 22:=fR
theorem bG7:Ln 24:=fR
theorem bG8:Ln 25:=fR
theorem bG9:Ln 26:=fR
theorem bGa:Ln 27:=fR
theorem bGb:Ln 28:=fR
theorem aYl:Ln 361:=fR
theorem aYm:Ln 364:=fR
theorem bGc:Ln 44:=fR
theorem bGd:Ln 55:=fR
theorem bGe:Ln 62:=fR
theorem bGf:Ln 68:=fR
theorem bGg:Ln 71:=fR
theorem bGh:Ln 80:=fR
theorem bMr(s:On OP)(S:St):aBn prog 9 (.str s) S=.ok (O J s.length):=aTm (by kernel_rfl) s S
theorem bGi:Ln 96:=fR
theorem bGj:Ln 97:=fR
theorem bMs:Sl_ 22 1:=iB
theorem bMt:Si 22 1:=zF (by kernel_rfl)
theorem bMu:Sl_ 24 5:=iB
theorem bMv:Sl_ 25 4:=iB
theorem bMw:Sl_ 26 12:=iB
theorem bMx:Si 26 12:=zF (by kernel_rfl)
theorem bI2:Sl_ 27 2:=iB
theorem bMy:Sl_ 28 5:=iB
theorem bMz:Sl_ 55 4:=iB
theorem bN0:Si 55 4:=zF (by kernel_rfl)
theorem bN1:Sl_ 71 4:=iB
theorem bN2:Sl_ 80 4:=iB
theorem bN3:Sl_ 96 1:=iB
theorem bN4:Sl_ 97 23:=iB
theorem bGk:Sr 126 4:=bF
theorem bGl:Sr 132 5:=bF
theorem bGm:Sr 145 4:=bF
theorem bGn:Sr 201 4:=bF
theorem bGo:Sr 212 1:=bF
theorem bN5:Sr 22 1:=bF
theorem bGp:Sr 220 3:=bF
theorem bGq:Sr 232 1:=bF
theorem bN6:Sr 24 1:=bF
theorem bN7:Sr 25 1:=bF
theorem bN8:Sr 26 1:=bF
theorem bN9:Sr 27 1:=bF
theorem bNa:Sr 28 1:=bF
theorem st3:Sr 3 1:=bF
theorem bNb:Sr 30 6:=bF
theorem bNc:Sr 31 1:=bF
theorem bGr:Sr 346 2:=bF
theorem st4:Sr 4 1:=bF
theorem bNd:Sr 48 3:=bF
theorem st5:Sr 5 1:=bF
theorem bNe:Sr 52 3:=bF
theorem bNf:Sr 54 5:=bF
theorem bNg:Sr 55 1:=bF
theorem bNh:Sr 57 2:=bF
theorem bNi:Sr 59 15:=bF
theorem bNj:Sr 61 17:=bF
theorem bNk:Sr 80 1:=bF
theorem bNl:Sr 82 4:=bF
theorem bNm:Sr 84 12:=bF
theorem st9:Sr 9 1:=bF
theorem bNn:Sr 90 2:=bF
theorem bNo:Sr 99 23:=bF
end Go.Proofs.YtoaibmbldmckaaaGreat
end
section
namespace Go.AM
open Go.RowKit Go.Lib Go.Proofs Go.Shelf
theorem aFf{P:OI}{t:OH}(h:(P.info? t).isSome=OB)(w:World):(Ry t).run P w=.ok (sz P t) w:=by
 obtain⟨i,hi⟩:=Option.isSome_iff_exists.1 h;simp[sizeOf,typeInfo,hi,kX hi]
theorem mJ{P:OI}{t:OH}(h:(P.info? t).map (·.size)=Ot 1)(w:World):(Ry t).run P w=.ok 1 w:=by
 cases hi:P.info? t with
 | none=>rw[hi] at h;cases h
 | some i=>rw[hi] at h;simp[sizeOf,typeInfo,hi] at h|-;exact h
theorem sH{P:OI}{f:PU}{T e I B:OH}{ov rr:PU}{fn fo:Un}(mixed:P.follows .mixedOrders=OB)(hf:P.funcs[f]?=Ot fn)(hb:fn.body=Ot (aAm T I B ov rr))(hn:fn.ntmps=95)(hr:fn.results=#[.tmp 6])
  (tT:P.underlying T=Ot (.slice e)) (tI:P.underlying I=Ot (.int J)) (tB:P.underlying B=Ot .bool)
  (ho:P.funcs[ov]?=Ot fo) (o1:(fo.name == "runtime.NumGoroutine")=OA) (o2:fo.body.isNone=OB) (o3:Extern.findNext fo=OG) (o4:Extern.find fo=Ot (Vk #[T,T] #[B]))
  (zE:(P.info? e).isSome=OB) (zT:(P.info? T).map (·.size)=Ot 1) (zI:(P.info? I).map (·.size)=Ot 1) (zB:(P.info? B).map (·.size)=Ot 1):InsAt P f T e I B ov rr fn:=
 ⟨mixed,hf,hb,hn,hr,tT,tI,tB,run_callFunc_extern ho o1 o2 o3 o4,aFf zE,mJ zT,mJ zI,mJ zB⟩
theorem aYn{P:OI}{f:PU}{T e I B:OH}{fn:Un}(mixed:P.follows .mixedOrders=OB)(hf:P.funcs[f]?=Ot fn)(hb:fn.body=Ot (aDr T I B))(hn:fn.ntmps=33)(hr:fn.results=#[.tmp 6])
  (tT:P.underlying T=Ot (.slice e)) (tI:P.underlying I=Ot (.int J)) (tB:P.underlying B=Ot .bool)
  (zE:(P.info? e).isSome=OB) (zT:(P.info? T).map (·.size)=Ot 1) (zI:(P.info? I).map (·.size)=Ot 1) (zB:(P.info? B).map (·.size)=Ot 1):DelAt P f T e I B fn:=
 ⟨mixed,hf,hb,hn,hr,tT,tI,tB,aFf zE,mJ zT,mJ zI,mJ zB⟩
end Go.AM
end
section
namespace Go.AM
structure Lit where
 args:On V
 n:Nat
 blocks:On (Nat×Blk)
 v:V
 n':Nat
 blocks':On (Nat×Blk)
end Go.AM
namespace Go.AM
theorem aYo{fn:Un}(h:fn.body.isSome=OB):fn.body=Ot (fn.body.get h):=(Option.some_get h).symm
end Go.AM
end
section
namespace Go.AM
open Go.RowKit
theorem RelH.grow{F:Nat->Ow Obj}{G:Gh}{S:St}{H H':Pa Obj}(R:gJ F G S H)(hs:H.size<=H'.size)(old:∀i,i<H.size->H'[i]?=H[i]?):gJ F G S H':=by
 have lt:∀{i:Nat} {o:Obj},H[i]?=Ot o->i<H.size:=λh=>(Array.getElem?_eq_some_iff.1 h).1;constructor
 ·exact R.fresh
 ·exact R.sep
 ·intro a b hb;have hold:=R.blk a b hb;cases b with
  | row bd dz jw=>
   obtain⟨K,hK,r1,r2,r3,c',ze,mn,jn,r⟩:=hold;exact⟨K,hK,r1,r2,r3,c',ze,mn,by rw[old _ (lt jn)];exact jn,r⟩
  | mp kvs=>
   obtain⟨i,dz,clock,hi,xl,r⟩:=hold;exact⟨i,dz,clock,hi,by rw[old _ (lt xl)];exact xl,r⟩
  | iter s pos=>
   obtain⟨K,hK,r1,r2,xl⟩:=hold;exact⟨K,hK,r1,r2,by rw[old _ (lt xl)];exact xl⟩
 ·exact R.inj
 ·intro i o h
  have:=R.fr i o h
  rw[old i (lt this)];exact this
 ·intro i o h
  have:=R.pr i o h
  rw[old i (lt this)];exact this
 ·exact R.own
 ·intro a i h
  have:=R.lt a i h
  omega
 ·exact R.small
theorem aU4{P:OI}{f:PU}{fn:Un}(hf:P.funcs[f]?=Ot fn)(hn:(fn.name == "runtime.NumGoroutine")=OA)(hb:fn.body.isSome=OB)
  (h:∀W,Calls P f #[] W λe W'=>e=.returned (.bool OB)/\Below W.heap.size W W'):VQ P f (Sp.told.run P):=by
 refine⟨⟨fn,_,hf,hn,aYo hb⟩,λ{args S S' v} hr=>?_⟩;intro F G W cs R dh
 match args,hr with
 | [],hr=>
  cases hr;cases dh;refine(h W).mono ?_;rintro e W' ⟨rfl,hw⟩;have je:=hw;obtain⟨w1,w2,w3,w4,w5⟩:=hw;have old:∀i,i<W.heap.size->W'.heap[i]?=W.heap[i]?:=w5;exact⟨G,.bool OB,rfl,⟨G.le_refl,R.grow w4 old,⟨w1,w2,w3,w4⟩,Ov _,λ_ _ _ _=>⟨rfl,rfl⟩,λ_ h _ _=>h,λ_ _ h=>.inl h⟩,.bool OB⟩
end Go.AM
namespace Go.AM
open Go.RowKit
end Go.AM
end
section
namespace Go.Proofs.YtoaibmbldmckaaaGreat
open Go.RowKit Go.AM Tryz
theorem bGs:VQ prog 202 ((Sp.ins 68).run prog):=
 lF (e:=76) (I:=3) (B:=4) (ov:=247) (rr:=248) (fn:=Tryz.f202) (sH (fo:=Tryz.f247) (by kernel_rfl) (by kernel_rfl) (by kernel_rfl) (by kernel_rfl) (by kernel_rfl)
  (by kernel_rfl) (by kernel_rfl) (by kernel_rfl) (by kernel_rfl) (by kernel_rfl) (by kernel_rfl) (by kernel_rfl) (by kernel_rfl) (by kernel_rfl) (by kernel_rfl) (by kernel_rfl) (by kernel_rfl)) (by kernel_rfl)
theorem bGt:VQ prog 221 ((Sp.ins 27).run prog):=
 lF (e:=90) (I:=3) (B:=4) (ov:=256) (rr:=257) (fn:=Tryz.f221) (sH (fo:=Tryz.f256) (by kernel_rfl) (by kernel_rfl) (by kernel_rfl) (by kernel_rfl) (by kernel_rfl)
  (by kernel_rfl) (by kernel_rfl) (by kernel_rfl) (by kernel_rfl) (by kernel_rfl) (by kernel_rfl) (by kernel_rfl) (by kernel_rfl) (by kernel_rfl) (by kernel_rfl) (by kernel_rfl) (by kernel_rfl)) (by kernel_rfl)
theorem bGu:VQ prog 230 ((Sp.ins 28).run prog):=
 lF (e:=132) (I:=3) (B:=4) (ov:=261) (rr:=262) (fn:=Tryz.f230) (sH (fo:=Tryz.f261) (by kernel_rfl) (by kernel_rfl) (by kernel_rfl) (by kernel_rfl) (by kernel_rfl)
  (by kernel_rfl) (by kernel_rfl) (by kernel_rfl) (by kernel_rfl) (by kernel_rfl) (by kernel_rfl) (by kernel_rfl) (by kernel_rfl) (by kernel_rfl) (by kernel_rfl) (by kernel_rfl) (by kernel_rfl)) (by kernel_rfl)
theorem bGv:VQ prog 234 ((Sp.ins 25).run prog):=
 lF (e:=126) (I:=3) (B:=4) (ov:=264) (rr:=265) (fn:=Tryz.f234) (sH (fo:=Tryz.f264) (by kernel_rfl) (by kernel_rfl) (by kernel_rfl) (by kernel_rfl) (by kernel_rfl)
  (by kernel_rfl) (by kernel_rfl) (by kernel_rfl) (by kernel_rfl) (by kernel_rfl) (by kernel_rfl) (by kernel_rfl) (by kernel_rfl) (by kernel_rfl) (by kernel_rfl) (by kernel_rfl) (by kernel_rfl)) (by kernel_rfl)
theorem bGw:VQ prog 237 ((Sp.ins 24).run prog):=
 lF (e:=54) (I:=3) (B:=4) (ov:=266) (rr:=267) (fn:=Tryz.f237) (sH (fo:=Tryz.f266) (by kernel_rfl) (by kernel_rfl) (by kernel_rfl) (by kernel_rfl) (by kernel_rfl)
  (by kernel_rfl) (by kernel_rfl) (by kernel_rfl) (by kernel_rfl) (by kernel_rfl) (by kernel_rfl) (by kernel_rfl) (by kernel_rfl) (by kernel_rfl) (by kernel_rfl) (by kernel_rfl) (by kernel_rfl)) (by kernel_rfl)
theorem bGx:VQ prog 280 ((Sp.ins 80).run prog):=
 lF (e:=145) (I:=3) (B:=4) (ov:=288) (rr:=289) (fn:=Tryz.f280) (sH (fo:=Tryz.f288) (by kernel_rfl) (by kernel_rfl) (by kernel_rfl) (by kernel_rfl) (by kernel_rfl)
  (by kernel_rfl) (by kernel_rfl) (by kernel_rfl) (by kernel_rfl) (by kernel_rfl) (by kernel_rfl) (by kernel_rfl) (by kernel_rfl) (by kernel_rfl) (by kernel_rfl) (by kernel_rfl) (by kernel_rfl)) (by kernel_rfl)
theorem bGy:VQ prog 240 ((Sp.del 28).run prog):=
 aM1 (e:=132) (I:=3) (B:=4) (fn:=Tryz.f240) (aYn (by kernel_rfl) (by kernel_rfl) (by kernel_rfl) (by kernel_rfl) (by kernel_rfl)
  (by kernel_rfl) (by kernel_rfl) (by kernel_rfl) (by kernel_rfl) (by kernel_rfl) (by kernel_rfl) (by kernel_rfl)) (by kernel_rfl)
theorem kI{P:OI}{a b:kE}(h:jJ P a=OB)(k:jJ P b=OB):jJ P (a++b)=true:=by unfold jJ at *;rw[List.all_append,h,k];rfl
def bNp:aHk:=[(202,.ins 68),(221,.ins 27),(230,.ins 28),(234,.ins 25),(237,.ins 24),(280,.ins 80),(240,.del 28)]
theorem bC6:SpAll prog bNp:=⟨bGs,bGt,bGu,bGv,bGw,bGx,bGy,trivial⟩
theorem aYp:bBq=aWl++(aWm++(aWn++(aWo++(aWp++(aWq++(aWr++(aWs++(aWt++(aWu++(aQk++(aQl++(aQm++(aQn++(aQo++(aQp++(aQq)))))))))))))))):=rfl
theorem aRv:jJ prog bBq=true:=by
 rw[aYp];exact kI aTs (kI aTt (kI aTu (kI aTv (kI aTw (kI aTx (kI aTy (kI aTz (kI aU0 (kI aU1 (kI aOr (kI aOs (kI aOt (kI aOu (kI aOv (kI aOw (aOx))))))))))))))))
theorem aYq:aEm (fG prog (tN prog bNp bBq) 1000 25 [] St.empty)=true:=by kernel_rfl
theorem bTu:VQ prog 25 (Sp.told.run prog):=aU4 Tryz.func25 (by kernel_rfl) (by kernel_rfl) λW=>aOb (aF2 (by kernel_rfl) bC6 aRv) aYq W
theorem bI3:SpAll prog dSp:=⟨bGs,bGt,bGu,bGv,bGw,bGx,bGy,bTu,trivial⟩
theorem aU5:PlansOK prog lS:=aF2 (by kernel_rfl) bI3 aRv
end Go.Proofs.YtoaibmbldmckaaaGreat
end
