import Derived.KernelRfl
import Derived.Lib.Walk
import Derived.Test.YtoaibmbldmckaaaGreatProg
import Derived.WalkKit
import Derived.Test.YtoaibmbldmckaaaGreatX1
set_option linter.unusedSimpArgs false
set_option linter.unusedVariables false
set_option linter.unusedSectionVars false
set_option maxRecDepth 100000
section
namespace Go.AM
section
def gO (k:Option Nat) (cs:List V) (j:Nat):R V:=match k with
 | none=>(match cs[j]? with
  | some v=>.ok v
  | none=>.error "part")
 | some n=>if j+n≤cs.length then .ok (.agg ((cs.drop j).take n)) else .error "part"
def fN (k:Option Nat) (p:V) (S:St):R V:=match p with
 | .ptr a ver i j=>(match aC S a ver with
  | .error e=>.error e
  | .ok (_,elems)=>match elems[i]? with
   | some cs=>gO k cs j
   | none=>.error "load")
 | .iptr cs j=>gO k cs j
 | _=>.error "load: a pointer expected"
theorem aOc {P:Program} {t:TypeId} {k:Option Nat} (h:tk P t=some k) (cs:List V) (j:Nat):pB P t cs j=gO k cs j:=by
 unfold tk at h
 unfold pB
 split at h
 ·cases h
 ·rename_i d hd
  simp only [hd]
  rw [cond_eq_ite] at h ⊢
  split at h
  ·rename_i ha
   cases h
   rw [if_pos ha,cond_eq_ite]
   simp only [gO,Nat.ble_eq]
  ·rename_i ha
   cases h
   rw [if_neg ha]
   rfl
theorem aX {P:Program} {t:TypeId} {k:Option Nat} (h:tk P t=some k) (p:V) (S:St):kO P t p S=fN k p S:=by
 unfold kO fN
 cases p<;>simp only [aOc h]<;>rfl
def stT (P:Program) (t:TypeId):Option Nat:=match P.underlying t with
 | some _=>some (sz P t)
 | none=>none
def dT (n:Nat) (p x:V) (S:St):R St:=match p with
 | .ptr a ver i j=>(match aC S a ver with
  | .error e=>.error e
  | .ok (es,elems)=>match elems[i]? with
   | some cs=>if x.cells.length=n∧aI x.cells=true∧j+x.cells.length≤cs.length then .ok ⟨S.next,S.heap.put a (.row ver es (elems.set i (splice cs j x.cells)))⟩ else .error "store: the size"
   | none=>.error "store")
 | _=>.error "store: a pointer expected"
theorem aU {P:Program} {t:TypeId} {n:Nat} (h:stT P t=some n) (p x:V) (S:St):mV P t p x S=dT n p x S:=by
 unfold stT at h
 split at h
 ·rename_i d hd
  cases h
  unfold mV dT
  rw [hd]
  cases p<;>try rfl
  rename_i a ver i j
  simp only
  cases aC S a ver with
  | error e=>rfl
  | ok r=>
   simp only
   cases r.2[i]? with
   | none=>rfl
   | some cs=>simp only [cond_eq_ite,Bool.and_eq_true,Nat.beq_eq,Nat.ble_eq,and_assoc]
 ·cases h
def advW (off:Nat) (p:V):R V:=match p with
 | .ptr a ver i j=>.ok (.ptr a ver i (j+off))
 | .iptr cs j=>.ok (.iptr cs (j+off))
 | _=>.error "fieldAddr"
theorem aB {P:Program} {s:TypeId} {f off:Nat} (h:fo P s f=some off) (p:V):dQ P s p f=advW off p:=by
 unfold fo at h
 unfold dQ
 split at h
 ·cases h
 ·rename_i fd hfd
  rw [cond_eq_ite] at h
  split at h
  ·cases h
  ·rename_i hz
   cases h
   have hz:Nat.beq (sz P fd.type) 0=false:=by
    cases hb:Nat.beq (sz P fd.type) 0 with
    | false=>rfl
    | true=>exact absurd hb hz
   simp only [hfd,hz,cond_false]
   cases p<;>rfl
def lenW (x:V):R V:=match x with
 | .nils=>.ok (.int .i64 0)
 | .sl _ _ _ _ len=>.ok (.int .i64 len)
 | .imm es=>.ok (.int .i64 es.length)
 | _=>.error "len"
theorem eL {P:Program} {t:TypeId} (h:aU5 P t=true) (x:V) (S:St):vS P t x S=lenW x:=by
 unfold aU5 at h
 unfold vS
 split at h
 ·rename_i e he;rw [he];cases x<;>rfl
 ·cases h
theorem aM5 {P:Program} {t:TypeId} (h:aU6 P t=true) (s:List UInt8) (S:St):vS P t (.str s) S=.ok (.int .i64 s.length):=by
 unfold aU6 at h
 unfold vS
 split at h
 ·rename_i he;rw [he]
 ·cases h
def fK (n:Nat) (x ix:V):R V:=match x with
 | .sl a ver es off len=>(match lO ix len with
  | some k=>if es=n then .ok (.ptr a ver (off+k) 0) else .error "indexAddr: the size"
  | none=>.error "index out of range")
 | .imm es=>(match lO ix es.length with
  | some k=>match es[k]? with
   | some cs=>if cs.length=n then .ok (.iptr cs 0) else .error "indexAddr: the size"
   | none=>.error "index"
  | none=>.error "index out of range")
 | _=>.error "indexAddr"
theorem bB {P:Program} {t:TypeId} {n:Nat} (h:esT P t=some n) (x ix:V):dA P t x ix=fK n x ix:=by
 unfold esT at h
 unfold dA fK
 split at h
 ·rename_i e he
  rw [cond_eq_ite] at h
  split at h
  ·rename_i hs
   cases h
   rw [he]
   simp only [hs,Bool.not_true,cond_false]
   cases x<;>try rfl
   ·rename_i a ver es off len
    simp only
    cases lO ix len<;>simp only [cond_eq_ite,Nat.beq_eq]
   ·rename_i es
    simp only
    cases lO ix es.length with
    | none=>rfl
    | some k=>simp only [cond_eq_ite,Nat.beq_eq];rfl
  ·cases h
 ·cases h
def bdS (P:Program) (t:TypeId):Option (List V×List (Nat×Nat)):=match aM P t,P.underlying t with
 | some z,some (.struct fs)=>(match fs.toList.all fun f=>(P.underlying f.type).isSome with
  | true=>some (z.cells,fs.toList.map fun f=>(f.offset,sz P f.type))
  | false=>none)
 | _,_=>none
theorem xU {p q:Nat→Option (Nat×Nat)} (h:∀ i,p i=q i):∀ (l:List (Nat×V)) (cs:List V),pQ p cs l=pQ q cs l
 | [],cs=>rfl
 | (i,v)::l,cs=>by simp only [pQ,h,xU h l]
def tE (z:List V) (pl:List (Nat×Nat)) (parts:List (Nat×V)):R V:=match pQ (fun i=>pl[i]?) z parts with
 | .ok cs=>.ok (.agg cs)
 | .error e=>.error e
theorem bQ {P:Program} {t:TypeId} {z:List V} {pl:List (Nat×Nat)} (h:bdS P t=some (z,pl)) (parts:List (Nat×V)):mW P t parts=tE z pl parts:=by
 unfold bdS at h
 unfold mW tE
 split at h
 ·rename_i z' fs hz hu
  split at h
  ·rename_i ha
   cases h
   simp only [hz,hu,ha,Bool.not_true,cond_false]
   rw [xU (q:=fun i=>(fs.toList.map fun f=>(f.offset,sz P f.type))[i]?) (fun i=>by simp)]
   rfl
  ·cases h
 ·cases h
def bsT (P:Program) (t:TypeId):Option (Nat×List V):=match iG P t with
 | some e=>(match aM P e with
  | some z=>(match Nat.beq z.cells.length (sz P e) with
   | true=>some (sz P e,z.cells)
   | false=>none)
  | none=>none)
 | none=>none
def cW (n:Nat) (z:List V) (len:Nat) (parts:List (Nat×V)) (fr:Option Nat) (S:St):R (V×St):=if len*n≤16777216 then
  (match tW n (List.replicate len z) parts with
  | .error e=>.error e
  | .ok elems=>match bD fr S (.row 0 n elems) with
   | .error e=>.error e
   | .ok (a,S')=>.ok (.sl a 0 n 0 len,S')) else .error "buildSlice: the size"
theorem aZ {P:Program} {t:TypeId} {n:Nat} {z:List V} (h:bsT P t=some (n,z)) (len:Nat) (parts:List (Nat×V)) (fr:Option Nat) (S:St):cT P t len parts fr S=cW n z len parts fr S:=by
 unfold bsT at h
 unfold cT cW
 split at h
 ·rename_i e he
  split at h
  ·rename_i z' hz
   split at h
   ·rename_i hb
    cases h
    simp only [he,hz,hb,Bool.true_and,cond_eq_ite,Nat.ble_eq]
    rfl
   ·cases h
  ·cases h
 ·cases h
def eW (n b:Nat) (s x:V) (fr:Option Nat) (S:St):R (V×St):=
 match aL S x with
 | .error e=>.error e
 | .ok xs=>if jF n xs=true∧xs.all aI=true then
  (match s with
  | .nils=>(match xs with
   | []=>.ok (.nils,S)
   | _=>if xs.length*b≤35184372088832∧xs.length<fL then (match bD fr S (.row 0 n xs) with
    | .error e=>.error e
    | .ok (a,S')=>.ok (.sl a 0 n 0 xs.length,S')) else .error "append: room")
  | .sl a ver _ off len=>(match aC S a ver with
   | .error e=>.error e
   | .ok (es,elems)=>
    if off+len≤elems.length∧es=n∧(len+xs.length)*b≤35184372088832∧len+xs.length<fL then
     .ok (.sl a (ver+1) es 0 (len+xs.length),⟨S.next,S.heap.put a (.row (ver+1) es ((elems.drop off).take len++xs))⟩)
    else .error "append: room")
  | _=>.error "append") else .error "append: sizes"
theorem cR {P:Program} {t:TypeId} {n b:Nat} (h:apT P t=some (n,b)) (s x:V) (fr:Option Nat) (S:St):fO P t s x fr S=eW n b s x fr S:=by
 unfold apT at h
 split at h
 ·cases h
 ·rename_i e he
  rw [cond_eq_ite] at h
  split at h
  ·rename_i hz
   cases h
   unfold fO eW
   simp only [he]
   cases aL S x with
   | error w=>rfl
   | ok xs=>
    simp only
    by_cases h12:jF (sz P e) xs=true∧xs.all aI=true
    ·have e1:(!(jF (sz P e) xs&&xs.all aI&&jV P e))=false:=by rw [h12.1,h12.2,hz];rfl
     rw [e1,if_pos h12]
     simp only [cond_false]
     cases s with
     | nils=>
      cases xs with
      | nil=>rfl
      | cons c xs=>simp only [sM,cond_eq_ite,Bool.and_eq_true,Nat.ble_eq,Nat.blt_eq];rfl
     | sl a ver es off len=>
      simp only
      cases aC S a ver with
      | error w=>rfl
      | ok r=>simp only [sM,cond_eq_ite,Bool.and_eq_true,Nat.ble_eq,Nat.blt_eq,Nat.beq_eq,and_assoc]
     | _=>rfl
    ·have e1:(!(jF (sz P e) xs&&xs.all aI&&jV P e))=true:=by
      cases h1:jF (sz P e) xs with
      | false=>rfl
      | true=>
       cases h2:xs.all aI with
       | false=>rfl
       | true=>exact absurd ⟨h1,h2⟩ h12
     rw [e1,if_neg h12]
     rfl
  ·cases h
def cvT (P:Program) (s d:TypeId):Option IntKind:=match P.underlying s,P.underlying d with
 | some _,some (.int k)=>some k
 | _,_=>none
theorem jZ {P:Program} {s d:TypeId} {k:IntKind} (h:cvT P s d=some k) (j:IntKind) (n:Int) (fr:Option Nat) (S:St):dJ P s d (.int j n) fr S=.ok (.int k (wr k n),S):=by
 unfold cvT at h
 split at h
 ·rename_i u k' hu hd
  cases h
  simp only [dJ,hu,hd]
 ·cases h
theorem fE {P : Program} {t : TypeId} {n : Nat} (h : esT P t = some n) (a ver off len : Nat) (lo hi : Option V) : gA P t (.sl a ver n off len) lo hi = (match dR len lo hi with
      | .ok (l, h) => .ok (.sl a ver n (off + l) (h - l))
      | .error e => .error e) := by
  unfold esT at h
  unfold gA
  split at h
  · rename_i e he
    rw [cond_eq_ite] at h
    split at h
    · rename_i hs
      cases h
      rw [he]
      simp only [hs, Bool.not_true, cond_false, Nat.beq_refl, cond_true]
      rfl
    · cases h
  · cases h
theorem aAn {P : Program} {t : TypeId} {n : Nat} (h : esT P t = some n) (es : List (List V)) (hl : jF n es = true) (lo hi : Option V) : gA P t (.imm es) lo hi = (match dR es.length lo hi with
      | .ok (l, h) => .ok (.imm ((es.take h).drop l))
      | .error e => .error e) := by
  unfold esT at h
  unfold gA
  split at h
  · rename_i e he
    rw [cond_eq_ite] at h
    split at h
    · rename_i hs
      cases h
      rw [he]
      simp only [hs, Bool.not_true, cond_false, hl, cond_true]
      rfl
    · cases h
  · cases h
section
variable (P:Program) (t:TypeId) (k:IntKind) (a b:Int)
theorem cQ (k:IntKind):jR k k=true:=by cases k<;>rfl
theorem aSi:bW P .add t (.int k a) (.int k b)=.ok (.int k (wr k (a+b))):=by simp only [bW,cQ,cond_true,iO]
theorem aSj:bW P .sub t (.int k a) (.int k b)=.ok (.int k (wr k (a - b))):=by simp only [bW,cQ,cond_true,iO]
theorem aSk:bW P .mul t (.int k a) (.int k b)=.ok (.int k (wr k (a*b))):=by simp only [bW,cQ,cond_true,iO]
theorem aSl (h:b≠0):bW P .quo t (.int k a) (.int k b)=.ok (.int k (wr k (a.tdiv b))):=by simp only [bW,cQ,cond_true,iO,h,decide_false,cond_false]
theorem aSm (h:b≠0):bW P .rem t (.int k a) (.int k b)=.ok (.int k (a.tmod b)):=by simp only [bW,cQ,cond_true,iO,h,decide_false,cond_false]
theorem aSn:bW P .lss t (.int k a) (.int k b)=.ok (.bool (decide (a<b))):=by simp only [bW,cQ,cond_true,iO]
theorem aSo:bW P .leq t (.int k a) (.int k b)=.ok (.bool (decide (a≤b))):=by simp only [bW,cQ,cond_true,iO]
theorem aSp:bW P .gtr t (.int k a) (.int k b)=.ok (.bool (decide (b<a))):=by simp only [bW,cQ,cond_true,iO]
theorem aSq:bW P .geq t (.int k a) (.int k b)=.ok (.bool (decide (b≤a))):=by simp only [bW,cQ,cond_true,iO]
theorem aSr:bW P .eql t (.int k a) (.int k b)=.ok (.bool (decide (a=b))):=by simp only [bW,cQ,cond_true,iO]
theorem aSs:bW P .neq t (.int k a) (.int k b)=.ok (.bool (!decide (a=b))):=by simp only [bW,cQ,cond_true,iO]
theorem aSt (x y:List UInt8):bW P .eql t (.str x) (.str y)=.ok (.bool (x == y)):=by simp only [bW,xG,dC]
theorem aSu (x y:List UInt8):bW P .neq t (.str x) (.str y)=.ok (.bool (!(x == y))):=by simp only [bW,xG,dC]
theorem aSv (x y:List UInt8):bW P .lss t (.str x) (.str y)=.ok (.bool (kU x y)):=by simp only [bW,xG]
theorem aSw (x y:List UInt8):bW P .geq t (.str x) (.str y)=.ok (.bool (!kU x y)):=by simp only [bW,xG]
end
theorem eX {n:Int} (h1:-9223372036854775808≤n) (h2:n≤9223372036854775807):wr .i64 n=n:=by
 unfold wr lo hi
 simp only
 rw [if_pos ⟨h1,h2⟩]
def WF (S:St):Prop:=∀ a b,S.heap.get a=some b→a<S.next
structure Ext (S S':St):Prop where
 old:∀ a b,S.heap.get a=some b→S'.heap.get a=some b
 next:S.next≤S'.next
 wf:WF S→WF S'
theorem Ext.refl (S:St):Ext S S:=⟨fun _ _ h=>h,Nat.le_refl _,fun h=>h⟩
theorem Ext.trans {A B C:St} (h:Ext A B) (k:Ext B C):Ext A C:=⟨fun a b q=>k.old a b (h.old a b q),Nat.le_trans h.next k.next,fun w=>k.wf (h.wf w)⟩
theorem Ext.row {S S':St} (h:Ext S S') {a ver:Nat} {r:Nat×List (List V)} (hr:aC S a ver=.ok r):aC S' a ver=.ok r:=by
 unfold aC at hr ⊢
 split at hr
 ·rename_i v es el hb
  rw [h.old a _ hb]
  exact hr
 ·cases hr
theorem Ext.elems {S S':St} (h:Ext S S') {v:V} {es:List (List V)} (he:aL S v=.ok es):aL S' v=.ok es:=by
 unfold aL at he ⊢
 split at he<;>try exact he
 rename_i a ver x off len
 split at he
 ·cases he
 ·rename_i r hr
  rw [h.row hr]
  exact he
theorem Ext.new {S:St} (w:WF S) (b:Blk):Ext S ⟨S.next+1,S.heap.put S.next b⟩:=by
 refine ⟨fun a c h=>?_,Nat.le_succ _,fun _ a c h=>?_⟩
 ·have:=w a c h
  show (S.heap.put S.next b).get a=some c
  rw [Tr.get_put_neB _ _ _ _ trivial (by omega)];exact h
 ·have h':(S.heap.put S.next b).get a=some c:=h
  rw [Tr.get_putB _ _ _ _ trivial] at h'
  split at h'
  ·show a<S.next+1;omega
  ·have:=w a c h';show a<S.next+1;omega
theorem Ext.set {S S':St} (h:Ext S S') {a:Nat} (ha:S.next≤a) (hb:a<S'.next) (w:WF S) (b:Blk):Ext S ⟨S'.next,S'.heap.put a b⟩:=by
 refine ⟨fun x c hx=>?_,h.next,fun _ x c hx=>?_⟩
 ·have:=w x c hx
  show (S'.heap.put a b).get x=some c
  rw [Tr.get_put_neB _ _ _ _ trivial (by omega)];exact h.old x c hx
 ·have hx':(S'.heap.put a b).get x=some c:=hx
  rw [Tr.get_putB _ _ _ _ trivial] at hx'
  split at hx'
  ·show x<S'.next;omega
  ·exact h.wf w x c hx'
theorem aA (n:Nat) (h:Tr Blk) (a ver es:Nat) (el:List (List V)):aC ⟨n,h.put a (.row ver es el)⟩ a ver=.ok (es,el):=by
 simp only [aC,Tr.get_put_sameB _ _ _ trivial,Nat.beq_refl,cond_true]
theorem sI (n m:Nat) (h:Tr Blk) (a c ver:Nat) (b:Blk) (hc:c≠a):aC ⟨n,h.put a b⟩ c ver=aC ⟨m,h⟩ c ver:=by
 simp only [aC,Tr.get_put_neB _ _ _ _ trivial hc]
structure Sl (S:St) (n:Nat) (v:V) (es:List (List V)):Prop where
 is:(v=.nils∧es=[])∨v=.imm es∨∃ a ver off elems,v=.sl a ver n off es.length∧aC S a ver=.ok (n,elems)∧off+es.length≤elems.length∧(elems.drop off).take es.length=es
 len:∀ cs,cs∈es→cs.length=n∧aI cs=true
theorem Sl.ext {S S':St} {n:Nat} {v:V} {es:List (List V)} (h:Sl S n v es) (x:Ext S S'):Sl S' n v es:=by
 refine ⟨?_,h.len⟩
 rcases h.is with h1 | h1 | ⟨a,ver,off,elems,h1,h2,h3,h4⟩
 ·exact .inl h1
 ·exact .inr (.inl h1)
 ·exact .inr (.inr ⟨a,ver,off,elems,h1,x.row h2,h3,h4⟩)
theorem Sl.elems {S:St} {n:Nat} {v:V} {es:List (List V)} (h:Sl S n v es):aL S v=.ok es:=by
 rcases h.is with ⟨rfl,rfl⟩ | rfl | ⟨a,ver,off,elems,rfl,h2,h3,h4⟩
 ·rfl
 ·rfl
 ·simp only [aL,h2,Nat.ble_eq_true_of_le h3,cond_true,h4]
theorem Sl.lenW {S:St} {n:Nat} {v:V} {es:List (List V)} (h:Sl S n v es):Go.AM.lenW v=.ok (.int .i64 es.length):=by
 rcases h.is with ⟨rfl,rfl⟩ | rfl | ⟨a,ver,off,elems,rfl,h2,h3,h4⟩<;>rfl
def At (S:St) (p:V) (cs:List V):Prop:=(∃ a ver i es elems,p=.ptr a ver i 0∧aC S a ver=.ok (es,elems)∧elems[i]?=some cs)∨p=.iptr cs 0
def adv (j:Nat) (p:V):V:=match p with
 | .ptr a ver i x=>.ptr a ver i (x+j)
 | .iptr cs x=>.iptr cs (x+j)
 | p=>p
theorem At.advW {S:St} {p:V} {cs:List V} (h:At S p cs) (j:Nat):Go.AM.advW j p=.ok (adv j p):=by
 rcases h with ⟨a,ver,i,es,elems,rfl,h2,h3⟩ | rfl<;>rfl
theorem At.load {S:St} {p:V} {cs:List V} (h:At S p cs) (k:Option Nat) (j:Nat):fN k (adv j p) S=gO k cs j:=by
 rcases h with ⟨a,ver,i,es,elems,rfl,h2,h3⟩ | rfl
 ·simp only [adv,fN,h2,h3,Nat.zero_add]
 ·simp only [adv,fN,Nat.zero_add]
theorem At.load0 {S:St} {p:V} {cs:List V} (h:At S p cs) (k:Option Nat):fN k p S=gO k cs 0:=by
 rcases h with ⟨a,ver,i,es,elems,rfl,h2,h3⟩ | rfl
 ·simp only [fN,h2,h3]
 ·simp only [fN]
theorem wM (cs:List V) (n:Nat) (h:cs.length=n):gO (some n) cs 0=.ok (.agg cs):=by
 subst h
 simp [gO]
theorem fF {k:IntKind} {i:Nat} {n:Nat} (h:i<n):lO (.int k (i:Int)) n=some i:=by
 have h1:(0:Int)≤(i:Int):=by omega
 have h2:(i:Int)<(n:Int):=by omega
 simp only [lO,h1,h2,decide_true,Bool.and_self,cond_true,Int.toNat_natCast]
theorem Sl.idx {S:St} {n:Nat} {v:V} {es:List (List V)} (h:Sl S n v es) {i:Nat} {cs:List V} (hc:es[i]?=some cs) (k:IntKind):∃ p,fK n v (.int k (i:Int))=.ok p∧At S p cs:=by
 have hi:i<es.length:=(List.getElem?_eq_some_iff.1 hc).1
 have hl:=(h.len cs (List.mem_of_getElem? hc)).1
 rcases h.is with ⟨rfl,rfl⟩ | rfl | ⟨a,ver,off,elems,rfl,h2,h3,h4⟩
 ·simp at hi
 ·exact ⟨.iptr cs 0,by simp only [fK,fF hi,hc,hl,if_true],.inr rfl⟩
 ·refine ⟨.ptr a ver (off+i) 0,by simp only [fK,fF hi,if_true],.inl ⟨a,ver,off+i,n,elems,rfl,h2,?_⟩⟩
  rw [←h4,List.getElem?_take,if_pos hi,List.getElem?_drop] at hc
  exact hc
def St.var (S:St) (n:Nat) (zs cs:List V):St:=⟨S.next+1,(S.heap.put S.next (.row 0 n [zs])).put S.next (.row 0 n [cs])⟩
theorem Ext.var {S:St} (w:WF S) (n:Nat) (zs cs:List V):Ext S (S.var n zs cs):=(Ext.new w _).set (Nat.le_refl _) (Nat.lt_succ_self _) w _
theorem aSx (S:St) (n:Nat) (zs cs:List V):aC (S.var n zs cs) S.next 0=.ok (n,[cs]):=aA _ _ _ _ _ _
theorem aI3 (zs cs:List V) (h:cs.length=zs.length):splice zs 0 cs=cs:=by simp [splice,h]
theorem aM6 (S:St) (n:Nat) (zs:List V) (x:V) (hz:zs.length=n) (hx:x.cells.length=n) (ho:aI x.cells=true):
  dT n (.ptr S.next 0 0 0) x ⟨S.next+1,S.heap.put S.next (.row 0 n [zs])⟩=.ok (S.var n zs x.cells):=by
 simp only [dT,aA,List.getElem?_cons_zero,hx,ho,hz,Nat.zero_add,Nat.le_refl,and_self,if_true,List.set_cons_zero,St.var,aI3 zs x.cells (by rw [hx,hz])]
def fG (x y:R Bool):R Bool:=match x with
 | .error e=>.error e
 | .ok r=>bif r then y else .ok false
theorem iV (a b:Bool):fG (.ok a) (.ok b)=.ok (a&&b):=by cases a<;>rfl
theorem Ext.bump {S S':St} (h:Ext S S') (c:Nat):Ext S ⟨S'.next+c,S'.heap⟩:=
 ⟨h.old,Nat.le_trans h.next (Nat.le_add_right _ _),fun w a b hb=>Nat.lt_of_lt_of_le (h.wf w a b hb) (Nat.le_add_right _ _)⟩
theorem Sl.elem {α:Type} {S:St} {n:Nat} {v:V} {all:List α} {enc:α→List V} (hs:Sl S n v (all.map enc)) {i:Nat} {a:α} (hi:all[i]?=some a):
  ∃ p,fK n v (.int .i64 (i:Int))=.ok p∧At S p (enc a)∧(enc a).length=n∧aI (enc a)=true:=by
 have hc:(all.map enc)[i]?=some (enc a):=by simp [hi]
 obtain ⟨p,hp,hat⟩:=hs.idx hc .i64
 have hl:=hs.len (enc a) (List.mem_of_getElem? hc)
 exact ⟨p,hp,hat,hl.1,hl.2⟩
theorem Sl.lenI {α:Type} {S:St} {n:Nat} {v:V} {all:List α} {enc:α→List V} (hs:Sl S n v (all.map enc)):Go.AM.lenW v=.ok (.int .i64 all.length):=by
 have:=hs.lenW
 rwa [List.length_map] at this
end
def aD {σ ρ α:Type} (step:σ→α→ρ⊕σ) (fin:σ→ρ):List α→σ→ρ
 | [],s=>fin s
 | a::l,s=>match step s a with
  | .inl r=>r
  | .inr s'=>aD step fin l s'
end Go.AM
end
section
set_option linter.unusedSimpArgs false
set_option linter.unusedVariables false
namespace Go.AM
structure Own (S0 S:St) (n:Nat) (v:V) (es:List (List V)):Prop where
 is:(v=.nils∧es=[])∨∃ a ver tl,v=.sl a ver n 0 es.length∧S0.next≤a∧a<S.next∧S.heap.get a=some (.row ver n (es++tl))
 len:∀ cs,cs∈es→cs.length=n∧aI cs=true
theorem aE {S:St} {a ver n:Nat} {el:List (List V)} (h:S.heap.get a=some (.row ver n el)):aC S a ver=.ok (n,el):=by
 simp only [aC,h,Nat.beq_refl,cond_true]
theorem Own.sl {S0 S:St} {n:Nat} {v:V} {es:List (List V)} (h:Own S0 S n v es):Sl S n v es:=by
 refine ⟨?_,h.len⟩
 rcases h.is with h1 | ⟨a,ver,tl,h1,h2,h3,h4⟩
 ·exact .inl h1
 ·exact .inr (.inr ⟨a,ver,0,es++tl,h1,aE h4,by simp,by simp⟩)
theorem Own.ext {S0 S S':St} {n:Nat} {v:V} {es:List (List V)} (h:Own S0 S n v es) (x:Ext S S'):Own S0 S' n v es:=by
 refine ⟨?_,h.len⟩
 rcases h.is with h1 | ⟨a,ver,tl,h1,h2,h3,h4⟩
 ·exact .inl h1
 ·exact .inr ⟨a,ver,tl,h1,h2,Nat.lt_of_lt_of_le h3 x.next,x.old _ _ h4⟩
theorem Own.nil (S0 S:St) (n:Nat):Own S0 S n .nils []:=⟨.inl ⟨rfl,rfl⟩,fun _ h=>by cases h⟩
theorem Own.weaken {A B S:St} {n:Nat} {v:V} {es:List (List V)} (h:Own B S n v es) (x:A.next≤B.next):Own A S n v es:=by
 refine ⟨?_,h.len⟩
 rcases h.is with h1 | ⟨a,ver,tl,h1,h2,h3,h4⟩
 ·exact .inl h1
 ·exact .inr ⟨a,ver,tl,h1,Nat.le_trans x h2,h3,h4⟩
theorem cX {n:Nat} {es:List (List V)} (h:∀ cs,cs∈es→cs.length=n∧aI cs=true):jF n es=true∧es.all aI=true:=
 ⟨List.all_eq_true.2 fun cs hc=>by simp [(h cs hc).1],List.all_eq_true.2 fun cs hc=>(h cs hc).2⟩
theorem Sl.copy {S:St} {n b:Nat} {v:V} {es:List (List V)} (h:Sl S n v es) (w:WF S) (h1:es.length*b≤35184372088832) (h2:es.length<fL):
  ∃ v' S',eW n b .nils v none S=.ok (v',S')∧Ext S S'∧Own S S' n v' es:=by
 obtain ⟨a1,a2⟩:=cX h.len
 cases es with
 | nil=>exact ⟨.nils,S,by simp only [eW,h.elems,a1,a2,and_self,if_true],Ext.refl S,Own.nil _ _ _⟩
 | cons c es=>
  refine ⟨.sl S.next 0 n 0 (c::es).length,⟨S.next+1,S.heap.put S.next (.row 0 n (c::es))⟩,?_,Ext.new w _,⟨.inr ⟨S.next,0,[],rfl,Nat.le_refl _,Nat.lt_succ_self _,?_⟩,h.len⟩⟩
  ·simp only [eW,h.elems,a1,a2,and_self,if_true,h1,h2,dK]
  ·rw [List.append_nil];exact Tr.get_put_sameB _ _ _ trivial
theorem Own.pushK {S0 S:St} {n b:Nat} {v:V} {es:List (List V)} (h:Own S0 S n v es) (x:Ext S0 S) (w:WF S0) {u:V} {cs:List (List V)} (hu:aL S u=.ok cs) (hc:∀ c,c∈cs→c.length=n∧aI c=true) (hne:cs≠[])
  (h1:(es.length+cs.length)*b≤35184372088832) (h2:es.length+cs.length<fL):∃ v' S',eW n b v u none S=.ok (v',S')∧Ext S0 S'∧S'.next≤S.next+1∧Own S0 S' n v' (es++cs)∧∀ y,y<S.next→(∀ a ver m,v=.sl a ver n 0 m→y≠a)→S'.heap.get y=S.heap.get y:=by
 obtain ⟨a1,a2⟩:=cX hc
 have hlen:∀ c,c∈es++cs→c.length=n∧aI c=true:=fun c hm=>(List.mem_append.1 hm).elim (h.len c) (hc c)
 rcases h.is with ⟨rfl,rfl⟩ | ⟨a,ver,tl,rfl,q1,q2,q3⟩
 ·cases cs with
  | nil=>exact absurd rfl hne
  | cons c cs=>
   refine ⟨.sl S.next 0 n 0 (c::cs).length,⟨S.next+1,S.heap.put S.next (.row 0 n (c::cs))⟩,?_,x.trans (Ext.new (x.wf w) _),Nat.le_refl _,⟨.inr ⟨S.next,0,[],rfl,x.next,Nat.lt_succ_self _,?_⟩,hlen⟩,fun y hy _=>Tr.get_put_neB _ _ _ _ trivial (by omega)⟩
   ·simp only [List.length_nil,Nat.zero_add] at h1 h2
    simp only [eW,hu,a1,a2,and_self,if_true,h1,h2,dK]
   ·rw [List.append_nil];exact Tr.get_put_sameB _ _ _ trivial
 ·have hb:0+es.length≤es.length+tl.length:=by omega
  refine ⟨.sl a (ver+1) n 0 (es++cs).length,⟨S.next,S.heap.put a (.row (ver+1) n (es++cs))⟩,?_,x.set q1 q2 w _,Nat.le_succ _,⟨.inr ⟨a,ver+1,[],rfl,q1,q2,?_⟩,hlen⟩,fun y _ hy=>Tr.get_put_neB _ _ _ _ trivial (hy a ver _ rfl)⟩
  ·simp only [eW,hu,a1,a2,and_self,if_true,aE q3,hb,h1,h2,List.drop_zero,List.take_left',List.length_append]
  ·rw [List.append_nil];exact Tr.get_put_sameB _ _ _ trivial
theorem Own.push {S0 S:St} {n b:Nat} {v:V} {es:List (List V)} (h:Own S0 S n v es) (x:Ext S0 S) (w:WF S0) {u:V} {cs:List (List V)} (hu:aL S u=.ok cs) (hc:∀ c,c∈cs→c.length=n∧aI c=true) (hne:cs≠[])
  (h1:(es.length+cs.length)*b≤35184372088832) (h2:es.length+cs.length<fL):∃ v' S',eW n b v u none S=.ok (v',S')∧Ext S0 S'∧S'.next≤S.next+1∧Own S0 S' n v' (es++cs):=by
 obtain ⟨v',S',q1,q2,q3,q4,_⟩:=h.pushK x w hu hc hne h1 h2
 exact ⟨v',S',q1,q2,q3,q4⟩
theorem Own.set {S0 S:St} {n:Nat} {v:V} {es:List (List V)} (h:Own S0 S n v es) (x:Ext S0 S) (w:WF S0) {i:Nat} {cs:List V} (hi:es[i]?=some cs) (k:IntKind):
  ∃ p,fK n v (.int k (i:Int))=.ok p∧At S p cs∧∀ (j m:Nat) (u:V),u.cells.length=m→aI u.cells=true→j+m≤n→∃ S',dT m (adv j p) u S=.ok S'∧Ext S0 S'∧S'.next=S.next∧Own S0 S' n v (es.set i (splice cs j u.cells)) ∧
   ∀ S1,Ext S1 S→(∀ a ver,v=.sl a ver n 0 es.length→S1.next≤a)→WF S1→Ext S1 S':=by
 have hil:i<es.length:=(List.getElem?_eq_some_iff.1 hi).1
 have hl:=h.len cs (List.mem_of_getElem? hi)
 rcases h.is with ⟨rfl,rfl⟩ | ⟨a,ver,tl,rfl,q1,q2,q3⟩
 ·simp at hil
 ·have hg:(es++tl)[0+i]?=some cs:=by rw [Nat.zero_add,List.getElem?_append_left hil];exact hi
  refine ⟨.ptr a ver (0+i) 0,by simp only [fK,fF hil,if_true],.inl ⟨a,ver,0+i,n,es++tl,rfl,aE q3,hg⟩,fun j m u hu ho hj=>?_⟩
  have hsl:(splice cs j u.cells).length=n:=by simp only [splice,List.length_append,List.length_take,List.length_drop];omega
  have hso:aI (splice cs j u.cells)=true:=by
   have h1:=hl.2
   simp only [aI,List.all_eq_true] at h1 ho ⊢
   intro y hy
   simp only [splice,List.mem_append] at hy
   rcases hy with hy | hy | hy
   ·exact h1 y (List.mem_of_mem_take hy)
   ·exact ho y hy
   ·exact h1 y (List.mem_of_mem_drop hy)
  have hst:dT m (adv j (.ptr a ver (0+i) 0)) u S=.ok ⟨S.next,S.heap.put a (.row ver n ((es++tl).set (0+i) (splice cs j u.cells)))⟩:=by
   have hj':0+j+u.cells.length≤cs.length:=by omega
   simp only [adv,dT,aE q3,hg,hu,ho,true_and]
   rw [if_pos (by omega)]
   simp only [Nat.zero_add]
  have hset:(es++tl).set (0+i) (splice cs j u.cells)=es.set i (splice cs j u.cells)++tl:=by rw [Nat.zero_add,List.set_append_left _ _ hil]
  refine ⟨_,hst,x.set q1 q2 w _,rfl,⟨.inr ⟨a,ver,tl,by rw [List.length_set],q1,q2,?_⟩,fun c hc=>?_⟩,fun S1 x1 ha w1=>x1.set (ha a ver rfl) q2 w1 _⟩
  ·rw [hset];exact Tr.get_put_sameB _ _ _ trivial
  ·rcases List.mem_or_eq_of_mem_set hc with hc | rfl
   ·exact h.len c hc
   ·exact ⟨hsl,hso⟩
theorem aOd {P:Program} {T:TypeId} {n b:Nat} (h:apT P T=some (n,b)):∃ e,iG P T=some e∧jV P e=true∧sz P e=n∧P.bytesOf e=b:=by
 unfold apT at h
 split at h
 ·cases h
 ·rename_i e he
  rw [cond_eq_ite] at h
  split at h
  ·rename_i hz;cases h;exact ⟨e,he,hz,rfl,rfl⟩
  ·cases h
theorem Own.insertK {P:Program} {T:TypeId} {n b:Nat} (hT:apT P T=some (n,b)) (hn:1<n) {S0 S:St} {v:V} {es:List (List V)} (h:Own S0 S n v es) (x:Ext S0 S) (w:WF S0) {bx:Nat} {c:List V} (hb:aC S bx 0=.ok (n,[c]))
  (hne:∀ a ver m,v=.sl a ver n 0 m→a≠bx) (hc:c.length=n∧aI c=true) (h1:(es.length+1)*b≤35184372088832) (h2:es.length+1<fL) {i:Nat} (hi:i≤es.length):
  ∃ v' S',kV P T v (.int .i64 (i:Int)) (.sl bx 0 n 0 1) S=.ok (v',S')∧Ext S0 S'∧Own S0 S' n v' (es.take i++c::es.drop i)∧∀ y,y<S.next→(∀ a ver m,v=.sl a ver n 0 m→y≠a)→S'.heap.get y=S.heap.get y:=by
 obtain ⟨e,he,hz,hsz,hby⟩:=aOd hT
 have hx:aL S (.sl bx 0 n 0 1)=.ok [c]:=by
  simp only [aL,hb]
  rfl
 have h1n:Nat.ble n 1=false:=by
  cases hq:Nat.ble n 1 with
  | false=>rfl
  | true=>exact absurd (Nat.le_of_ble_eq_true hq) (by omega)
 have hcs:∀ d,d∈[c]→d.length=n∧aI d=true:=fun d hd=>by cases hd with
  | head=>exact hc
  | tail _ hd=>cases hd
 have hlen:∀ d,d∈es.take i++c::es.drop i→d.length=n∧aI d=true:=by
  intro d hd
  rcases List.mem_append.1 hd with hd | hd
  ·exact h.len d (List.mem_of_mem_take hd)
  ·rcases List.mem_cons.1 hd with rfl | hd
   ·exact hc
   ·exact h.len d (List.mem_of_mem_drop hd)
 have hlt:(es.take i++c::es.drop i).length=es.length+1:=by simp only [List.length_append,List.length_take,List.length_cons,List.length_drop];omega
 by_cases hend:i=es.length
 ·subst hend
  obtain ⟨v',S',q1,q2,_,q3,q4⟩:=h.pushK (b:=b) x w hx hcs (by simp) h1 h2
  refine ⟨v',S',?_,q2,by simpa using q3,q4⟩
  rw [←cR hT] at q1
  unfold kV
  simp only [he,hx,hsz,h1n,Bool.false_or]
  rcases h.is with ⟨rfl,rfl⟩ | ⟨a,ver,tl,rfl,_⟩
  ·simp only [List.length_nil]
   show (bif Nat.beq 1 0 then _ else bif decide (((0:Nat):Int)=0) then _ else _)=_
   simp only [Int.natCast_zero,decide_true,cond_true]
   exact q1
  ·simp only [decide_true,cond_true]
   exact q1
 ·rcases h.is with ⟨rfl,rfl⟩ | ⟨a,ver,tl,rfl,p1,p2,p3⟩
  ·simp at hi;exact absurd hi hend
  ·have hab:Nat.beq a bx=false:=by
    cases hq:Nat.beq a bx with
    | false=>rfl
    | true=>exact absurd (Nat.eq_of_beq_eq_true hq) (hne a ver _ rfl)
   obtain ⟨a1,a2⟩:=cX hcs
   obtain ⟨_,a3⟩:=cX h.len
   have hb1:Nat.ble (0+es.length) (es++tl).length=true:=Nat.ble_eq_true_of_le (by simp)
   have hroom:sM P e (es.length+[c].length)=true:=by
    simp only [sM,hby,Bool.and_eq_true,Nat.ble_eq,Nat.blt_eq,List.length_cons,List.length_nil]
    exact ⟨h1,h2⟩
   have e1:decide ((i:Int)=((es.length:Nat):Int))=false:=decide_eq_false (by omega)
   have e2:decide ((i:Int)<0)=false:=decide_eq_false (by omega)
   have e3:decide (((es.length:Nat):Int)<(i:Int))=false:=decide_eq_false (by omega)
   refine ⟨.sl a (ver+1) n 0 (es.take i++c::es.drop i).length,⟨S.next,S.heap.put a (.row (ver+1) n (es.take i++c::es.drop i))⟩,?_,x.set p1 p2 w _,⟨.inr ⟨a,ver+1,[],rfl,p1,p2,?_⟩,hlen⟩,fun y _ hy=>Tr.get_put_neB _ _ _ _ trivial (hy a ver _ rfl)⟩
   ·unfold kV
    simp only [he,hx,hsz,h1n,Bool.false_or,e1,cond_false,hab,e2,e3,a1,a2,hz,Bool.and_self,Bool.not_true,aE p3,hb1,Nat.beq_refl,hroom,List.drop_zero,List.take_left',a3,cond_true,Int.toNat_natCast,hlt]
    rfl
   ·rw [List.append_nil];exact Tr.get_put_sameB _ _ _ trivial
end Go.AM
namespace Go.AM
theorem Ext.newAt {S:St} {k:Nat} (hk:S.heap.get k=none) (hk2:k<S.next) (b:Blk):Ext S ⟨S.next,S.heap.put k b⟩:=by
 refine ⟨fun a d hd=>?_,Nat.le_refl _,fun w a d hd=>?_⟩
 ·show (S.heap.put k _).get a=some d
  rw [Tr.get_put_neB _ _ _ _ trivial (fun e=>by rw [e,hk] at hd;cases hd)];exact hd
 ·have hd':(S.heap.put k b).get a=some d:=hd
  rw [Tr.get_putB _ _ _ _ trivial] at hd'
  split at hd'
  ·show a<S.next;omega
  ·exact w a d hd'
end Go.AM
namespace Go.AM
theorem Own.other {S0 S S':St} {n:Nat} {v:V} {es:List (List V)} (h:Own S0 S n v es) (hn:S.next≤S'.next) (hg:∀ a ver m,v=.sl a ver n 0 m→S'.heap.get a=S.heap.get a):Own S0 S' n v es:=by
 refine ⟨?_,h.len⟩
 rcases h.is with h1 | ⟨a,ver,tl,h1,h2,h3,h4⟩
 ·exact .inl h1
 ·exact .inr ⟨a,ver,tl,h1,h2,Nat.lt_of_lt_of_le h3 hn,by rw [hg a ver _ h1];exact h4⟩
theorem Own.setK {S0 S:St} {n:Nat} {v:V} {es:List (List V)} (h:Own S0 S n v es) (x:Ext S0 S) (w:WF S0) {i:Nat} {cs:List V} (hi:es[i]?=some cs) (k:IntKind):
  ∃ a ver,v=.sl a ver n 0 es.length∧S0.next≤a∧a<S.next∧fK n v (.int k (i:Int))=.ok (.ptr a ver i 0)∧At S (.ptr a ver i 0) cs ∧
   ∀ (j m:Nat) (u:V),u.cells.length=m→aI u.cells=true→j+m≤n→∃ S',dT m (.ptr a ver i j) u S=.ok S'∧Ext S0 S'∧S'.next=S.next∧Own S0 S' n v (es.set i (splice cs j u.cells))∧(∀ y,y≠a→S'.heap.get y=S.heap.get y)∧(WF S→WF S'):=by
 have hil:i<es.length:=(List.getElem?_eq_some_iff.1 hi).1
 rcases h.is with ⟨rfl,rfl⟩ | ⟨a,ver,tl,rfl,q1,q2,q3⟩
 ·simp at hil
 ·obtain ⟨p,hp,hat,hset⟩:=h.set x w hi k
  have hpe:p=.ptr a ver (0+i) 0:=by
   simp only [fK,fF hil,if_true] at hp
   cases hp;rfl
  subst hpe
  rw [Nat.zero_add] at hp hat hset
  refine ⟨a,ver,rfl,q1,q2,hp,hat,fun j m u hu ho hj=>?_⟩
  obtain ⟨S',t1,t2,t3,t4,_⟩:=hset j m u hu ho hj
  have t1':dT m (.ptr a ver i j) u S=.ok S':=by
   have:adv j (.ptr a ver i 0)=.ptr a ver i j:=by simp only [adv,Nat.zero_add]
   rw [←this];exact t1
  have hS':∃ b,S'=⟨S.next,S.heap.put a b⟩:=by
   have hg:(es++tl)[i]?=some cs:=by rw [List.getElem?_append_left hil];exact hi
   simp only [dT,aE q3,hg] at t1'
   split at t1'
   ·cases t1';exact ⟨_,rfl⟩
   ·cases t1'
  obtain ⟨b,rfl⟩:=hS'
  refine ⟨_,t1',t2,rfl,t4,fun y hy=>Tr.get_put_neB _ _ _ _ trivial hy,fun ww y d hd=>?_⟩
  have hd':(S.heap.put a b).get y=some d:=hd
  rw [Tr.get_putB _ _ _ _ trivial] at hd'
  split at hd'
  ·show y<S.next;omega
  ·exact ww y d hd'
theorem aSy {S:St} {a ver n:Nat} {el:List (List V)} (h:aC S a ver=.ok (n,el)):S.heap.get a=some (.row ver n el):=by
 unfold aC at h
 split at h
 ·rename_i v es elems hg
  rw [cond_eq_ite] at h
  split at h
  ·rename_i hb
   have:=Nat.eq_of_beq_eq_true hb
   cases h
   subst this
   exact hg
  ·cases h
 ·cases h
end Go.AM
end
section
set_option linter.unusedSimpArgs false
set_option linter.unusedVariables false
namespace Go.AM
structure D (b:Nat) (S S':St):Prop where
 next:S.next≤S'.next
 dead:∀ a,a<b→S.heap.get a=none→S'.heap.get a=none
section
variable {P:Program} {b:Nat} {S S':St} {fr:Option Nat}
end
end Go.AM
namespace Go.AM
end Go.AM
end
section
namespace Go.AM
section
section
variable {P:Program} {pl:gX} {lv:aZs}
end
def blkOf:V→Option Nat
 | .sl a _ _ _ _=>some a
 | _=>none
theorem cS {S0 S:St} {n:Nat} {v:V} {es:List (List V)} (h:Own S0 S n v es) {y:Nat} (hy:blkOf v=some y):S0.next≤y∧y<S.next:=by
 rcases h.is with ⟨e1,_⟩ | ⟨a,ver,tl,e1,e2,e3,_⟩
 ·rw [e1] at hy;cases hy
 ·rw [e1] at hy;cases hy;exact ⟨e2,e3⟩
theorem Own.same {S0 S S':St} {n:Nat} {v:V} {es:List (List V)} (h:Own S0 S n v es) (hn:S.next≤S'.next) (hg:∀ a,blkOf v=some a→S'.heap.get a=S.heap.get a):Own S0 S' n v es:=
 h.other hn fun a ver m hv=>hg a (by rw [hv];rfl)
theorem Own.pushAt {S0 S:St} {n b:Nat} {v:V} {es:List (List V)} (h:Own S0 S n v es) (x:Ext S0 S) (w:WF S0) {u:V} {cs:List (List V)} (hu:aL S u=.ok cs) (hc:∀ c,c∈cs→c.length=n∧aI c=true) (hne:cs≠[])
  {k:Nat} (hk:S0.next≤k) (hk2:k<S.next) (hk3:S.heap.get k=none)
  (h1:(es.length+cs.length)*b≤35184372088832) (h2:es.length+cs.length<fL):∃ v' S',eW n b v u (some k) S=.ok (v',S')∧Ext S0 S'∧S'.next=S.next∧Own S0 S' n v' (es++cs)∧(blkOf v'=some k∨blkOf v'=blkOf v)∧∀ y,y≠k→blkOf v≠some y→S'.heap.get y=S.heap.get y:=by
 obtain ⟨a1,a2⟩:=cX hc
 have hlen:∀ c,c∈es++cs→c.length=n∧aI c=true:=fun c hm=>(List.mem_append.1 hm).elim (h.len c) (hc c)
 rcases h.is with ⟨rfl,rfl⟩ | ⟨a,ver,tl,rfl,q1,q2,q3⟩
 ·cases cs with
  | nil=>exact absurd rfl hne
  | cons c cs=>
   refine ⟨.sl k 0 n 0 (c::cs).length,⟨S.next,S.heap.put k (.row 0 n (c::cs))⟩,?_,x.trans (Ext.newAt hk3 hk2 _),rfl,⟨.inr ⟨k,0,[],rfl,hk,hk2,?_⟩,hlen⟩,.inl rfl,fun y hy _=>Tr.get_put_neB _ _ _ _ trivial hy⟩
   ·simp only [List.length_nil,Nat.zero_add] at h1 h2
    simp only [eW,hu,a1,a2,and_self,if_true,h1,h2,aCh]
   ·rw [List.append_nil];exact Tr.get_put_sameB _ _ _ trivial
 ·have hb:0+es.length≤es.length+tl.length:=by omega
  refine ⟨.sl a (ver+1) n 0 (es++cs).length,⟨S.next,S.heap.put a (.row (ver+1) n (es++cs))⟩,?_,x.set q1 q2 w _,rfl,⟨.inr ⟨a,ver+1,[],rfl,q1,q2,?_⟩,hlen⟩,.inr rfl,fun y _ hy=>Tr.get_put_neB _ _ _ _ trivial (fun e=>hy (by rw [e];rfl))⟩
  ·simp only [eW,hu,a1,a2,and_self,if_true,aE q3,hb,h1,h2,List.drop_zero,List.take_left',List.length_append]
  ·rw [List.append_nil];exact Tr.get_put_sameB _ _ _ trivial
theorem vb {S:St} (w:WF S) (n:Nat) (zs:List V) (x:V) (hz:zs.length=n) (hx:x.cells.length=n) (ho:aI x.cells=true):
  ∃ S1 S2,bD none S (.row 0 n [zs])=.ok (S.next,S1)∧dT n (.ptr S.next 0 0 0) x S1=.ok S2∧Ext S S2∧S2.heap.get S.next=some (.row 0 n [x.cells])∧S2.next=S.next+1:=
 ⟨_,_,dK ..,aM6 S n zs x hz hx ho,Ext.var w n zs x.cells,aSy (aSx S n zs x.cells),rfl⟩
theorem Own.pushG {S0 S:St} {n b:Nat} {v:V} {es:List (List V)} (h:Own S0 S n v es) (x:Ext S0 S) (w:WF S0) {u:V} {cs:List (List V)} (hu:aL S u=.ok cs) (hc:∀ c,c∈cs→c.length=n∧aI c=true) (hne:cs≠[])
  (h1:(es.length+cs.length)*b≤35184372088832) (h2:es.length+cs.length<fL):∃ v' S',eW n b v u none S=.ok (v',S')∧Ext S0 S'∧Own S0 S' n v' (es++cs)∧(blkOf v'=some S.next∨blkOf v'=blkOf v)∧(∀ y,y<S.next→blkOf v≠some y→S'.heap.get y=S.heap.get y)∧S.next≤S'.next:=by
 obtain ⟨a1,a2⟩:=cX hc
 have hlen:∀ c,c∈es++cs→c.length=n∧aI c=true:=fun c hm=>(List.mem_append.1 hm).elim (h.len c) (hc c)
 rcases h.is with ⟨rfl,rfl⟩ | ⟨a,ver,tl,rfl,q1,q2,q3⟩
 ·cases cs with
  | nil=>exact absurd rfl hne
  | cons c cs=>
   refine ⟨.sl S.next 0 n 0 (c::cs).length,⟨S.next+1,S.heap.put S.next (.row 0 n (c::cs))⟩,?_,x.trans (Ext.new (x.wf w) _),⟨.inr ⟨S.next,0,[],rfl,x.next,Nat.lt_succ_self _,?_⟩,hlen⟩,.inl rfl,fun y hy _=>Tr.get_put_neB _ _ _ _ trivial (by omega),Nat.le_succ _⟩
   ·simp only [List.length_nil,Nat.zero_add] at h1 h2
    simp only [eW,hu,a1,a2,and_self,if_true,h1,h2,dK]
   ·rw [List.append_nil];exact Tr.get_put_sameB _ _ _ trivial
 ·have hb:0+es.length≤es.length+tl.length:=by omega
  refine ⟨.sl a (ver+1) n 0 (es++cs).length,⟨S.next,S.heap.put a (.row (ver+1) n (es++cs))⟩,?_,x.set q1 q2 w _,⟨.inr ⟨a,ver+1,[],rfl,q1,q2,?_⟩,hlen⟩,.inr rfl,fun y _ hy=>Tr.get_put_neB _ _ _ _ trivial (fun e=>hy (by rw [e];rfl)),Nat.le_refl _⟩
  ·simp only [eW,hu,a1,a2,and_self,if_true,aE q3,hb,h1,h2,List.drop_zero,List.take_left',List.length_append]
  ·rw [List.append_nil];exact Tr.get_put_sameB _ _ _ trivial
mutual
theorem wN:∀ v:V,fV v v=true
 | .bool b=>by simp [fV]
 | .int k n=>by simp [fV,cQ]
 | .str s=>by rw [fV];rw [dC];simp
 | .nilp=>rfl
 | .ptr a b c d=>by simp [fV]
 | .iptr a b=>by simp [fV,beqVs_refl a]
 | .nils=>rfl
 | .sl a b c d f=>by simp [fV]
 | .imm a=>by simp [fV,beqVss_refl a]
 | .agg a=>by simp [fV,beqVs_refl a]
 | .tup a=>by simp [fV,beqVs_refl a]
 | .nili=>rfl
 | .iface t a=>by simp [fV,wN a]
 | .nilf=>rfl
 | .func f a b=>by simp [fV,beqVs_refl a,beqVs_refl b]
 | .nilm=>rfl
 | .mp a=>by simp [fV]
 | .res a b=>by simp [fV]
theorem beqVs_refl:∀ l:List V,beqVs l l=true
 | []=>rfl
 | a::l=>by simp [beqVs,wN a,beqVs_refl l]
theorem beqVss_refl:∀ l:List (List V),beqVss l l=true
 | []=>rfl
 | a::l=>by simp [beqVss,beqVs_refl a,beqVss_refl l]
end
end
section
mutual
def lE:V→Bool
 | .ptr _ _ _ _=>false
 | .nils=>false
 | .sl _ _ _ _ _=>false
 | .agg cs=>cloVs cs
 | .tup cs=>cloVs cs
 | .iface _ v=>lE v
 | .func _ a b=>cloVs a&&cloVs b
 | .mp _=>false
 | _=>true
def cloVs:List V→Bool
 | []=>true
 | v::l=>lE v&&cloVs l
end
mutual
theorem mK {ρ:Nat→Option Nat} {σ:V→R V}:∀ (v:V),lE v=true→cZ ρ σ v=.ok v
 | .bool _,_ | .int _ _,_ | .str _,_ | .nilp,_ | .iptr _ _,_ | .imm _,_ | .nili,_ | .nilf,_ | .nilm,_ | .res _ _,_=>rfl
 | .agg cs,h=>by simp only [cZ,clo_frzs cs h]
 | .tup cs,h=>by simp only [cZ,clo_frzs cs h]
 | .iface t v,h=>by simp only [cZ,mK v h]
 | .func f a b,h=>by
  simp only [lE,Bool.and_eq_true] at h
  simp only [cZ,clo_frzs a h.1,clo_frzs b h.2]
theorem clo_frzs {ρ:Nat→Option Nat} {σ:V→R V}:∀ (l:List V),cloVs l=true→frzVs ρ σ l=.ok l
 | [],_=>rfl
 | v::l,h=>by
  simp only [cloVs,Bool.and_eq_true] at h
  simp only [frzVs,mK v h.1,clo_frzs l h.2]
end
mutual
theorem zC:∀ (v:V),lE v=true→pR v=[]
 | .bool _,_ | .int _ _,_ | .str _,_ | .nilp,_ | .iptr _ _,_ | .imm _,_ | .nili,_ | .nilf,_ | .nilm,_ | .res _ _,_=>rfl
 | .agg cs,h=>clo_ptrs cs h
 | .tup cs,h=>clo_ptrs cs h
 | .iface t v,h=>zC v h
 | .func f a b,h=>by
  simp only [lE,Bool.and_eq_true] at h
  simp only [pR,clo_ptrs a h.1,clo_ptrs b h.2,List.append_nil]
theorem clo_ptrs:∀ (l:List V),cloVs l=true→ptrsVs l=[]
 | [],_=>rfl
 | v::l,h=>by
  simp only [cloVs,Bool.and_eq_true] at h
  simp only [ptrsVs,zC v h.1,clo_ptrs l h.2,List.append_nil]
end
mutual
theorem tF {τ:V→List Nat}:∀ (v:V),lE v=true→jH τ v=[]
 | .bool _,_ | .int _ _,_ | .str _,_ | .nilp,_ | .iptr _ _,_ | .imm _,_ | .nili,_ | .nilf,_ | .nilm,_ | .res _ _,_=>rfl
 | .agg cs,h=>clo_sls cs h
 | .tup cs,h=>clo_sls cs h
 | .iface t v,h=>tF v h
 | .func f a b,h=>by
  simp only [lE,Bool.and_eq_true] at h
  simp only [jH,clo_sls a h.1,clo_sls b h.2,List.append_nil]
theorem clo_sls {τ:V→List Nat}:∀ (l:List V),cloVs l=true→slsVs τ l=[]
 | [],_=>rfl
 | v::l,h=>by
  simp only [cloVs,Bool.and_eq_true] at h
  simp only [slsVs,tF v h.1,clo_sls l h.2,List.append_nil]
end
theorem aAo:aBt []=lH:=by funext i;cases i<;>rfl
theorem aAp (l:List Nat):(l.any fun a=>Nat.blt a 0)=false:=by
 rw [List.any_eq_false]
 intro a _
 simp
def fW (S:St) (v:V):R V:=cZ lH (lR (iP S 3) S) v
theorem aOe {run:List V→St→R (V×St)} {args:List V} (hc:cloVs args=true) {S S0:St} {v0 v:V} (h:run args ⟨0,.nil⟩=.ok (v0,S0)) (ho:fW S0 v0=.ok v):sP run args S=.ok (v,S):=by
 unfold sP
 have h1:gW (ptrsVs args)=[]:=by rw [clo_ptrs args hc];rfl
 have h2:slsVs (kX (iN S 3) S) args=[]:=clo_sls args hc
 have ho':cZ (aBt []) (lR (iP S0 3) S0) v0=.ok v:=by rw [aAo];exact ho
 rw [h1,h2]
 simp only [clo_frzs args hc,gK,cV,List.append_nil,List.any_nil,cond_false,List.length_nil,sO,h,ho',mX,aAp]
 cases gV v&&nD []<;>rfl
section
variable {P:Program} {pl:gX}
def W (P:Program) (pl:gX):aT:=fun f args S K=>∃ v S',Evt (fun k=>eO P pl k f args S) (v,S')∧K v S'
theorem aGc:mJ (eO P pl) (W P pl):=fun f args S K h=>h
theorem aC4 {f:FuncId} {args:List V} {S S':St} {v:V} (h:Evt (fun k=>eO P pl k f args S) (v,S')) (K:KW):W P pl f args S K=K v S':=by
 refine propext ⟨?_,fun h1=>⟨v,S',h,h1⟩⟩
 rintro ⟨v1,S1,h1,h2⟩
 cases h.eq h1
 exact h2
theorem iW {f:FuncId} {args:List V} {S:St} {r:V×St} (h:Evt (fun k=>eO P pl (k+1) f args S) r):Evt (fun k=>eO P pl k f args S) r:=by
 obtain ⟨N,h⟩:=h
 refine ⟨N+1,fun k hk=>?_⟩
 obtain ⟨k,rfl⟩:∃ m,k=m+1:=⟨k - 1,by omega⟩
 exact h k (by omega)
theorem aYd {f:FuncId} {p:Nat→Option (List bH)} (hpl:pl f=some (.code p)) {lv:Nat→List Nat} {args:List V} {S:St} {K:KW} (h:fD P (W P pl) p lv f args S K):W P pl f args S K:=by
 obtain ⟨v,S',h1,h2⟩:=gE aGc h
 exact ⟨v,S',iW (h1.one fun k h1=>by simp only [eO,hpl];exact h1),h2⟩
theorem aOf {f:FuncId} {g:List V→St→R (V×St)} (hpl:pl f=some (.spec g)) {args:List V} {S S':St} {v:V} (h:g args S=.ok (v,S')) (K:KW):W P pl f args S K=K v S':=
 aC4 (iW (.of fun k=>by simp only [eO,hpl,h])) K
def Fn (P:Program) (pl:gX) (f:FuncId) (args:List V) (v:V):Prop:=∀ S,Evt (fun k=>eO P pl k f args S) (v,S)
theorem Fn.eq {f:FuncId} {args:List V} {v:V} (h:Fn P pl f args v) (S:St) (K:KW):W P pl f args S K=K v S:=aC4 (h S) K
theorem Fn.of {f:FuncId} {p:Nat→Option (List bH)} (hpl:pl f=some (.val p)) {lv:Nat→List Nat} {args:List V} {v:V} (hc:cloVs args=true)
  (h:fD P (W P pl) p lv f args ⟨0,.nil⟩ fun v0 S0=>fW S0 v0=.ok v):Fn P pl f args v:=by
 obtain ⟨v0,S0,h1,h2⟩:=gE aGc h
 exact fun S=>iW (h1.one fun k h1=>by simp only [eO,hpl];exact aOe hc h1 h2)
structure Pt (mk:Nat→List V):Prop where
 ptr:∀ a,gW (ptrsVs (mk a))=[a]
 frz:∀ a σ,frzVs (fun b=>rY b 0 [a]) σ (mk a)=.ok (mk 0)
 sls:∀ a τ,slsVs τ (mk a)=[]
theorem Pt.head {ver i j:Nat} {args:List V} (hc:cloVs args=true):Pt fun a=>.ptr a ver i j::args:=
 ⟨fun a=>by simp only [ptrsVs,pR,clo_ptrs args hc];rfl,fun a σ=>by simp only [frzVs,cZ,rY,Nat.beq_refl,cond_true,clo_frzs args hc],fun a τ=>by simp only [slsVs,jH,clo_sls args hc,List.append_nil]⟩
theorem Pt.next {v:V} {mk:Nat→List V} (hv:lE v=true) (h:Pt mk):Pt fun a=>v::mk a:=
 ⟨fun a=>by simp only [ptrsVs,zC v hv,List.nil_append];exact h.ptr a,fun a σ=>by simp only [frzVs,mK v hv,h.frz],fun a τ=>by simp only [slsVs,tF v hv,h.sls,List.append_nil]⟩
def FnR (P:Program) (pl:gX) (f:FuncId) (mk:Nat→List V) (ver n:Nat) (pre:List (List V)) (v:V) (post:List (List V)):Prop:=
 ∀ S a,S.heap.get a=some (.row ver n pre)→Evt (fun k=>eO P pl k f (mk a) S) (v,⟨S.next,S.heap.put a (.row ver n post)⟩)
theorem aJ9 {φ:List V→R (List V)}:∀ {l:List (List V)},(∀ x,x∈l→φ x=.ok x)→jG φ l=.ok l
 | [],_=>rfl
 | x::l,h=>by simp only [jG,h x (List.mem_cons_self ..),aJ9 fun y hy=>h y (List.mem_cons_of_mem _ hy)]
theorem aGd {φ:List V→List Nat}:∀ {l:List (List V)},(∀ x,x∈l→φ x=[])→kW φ l=[]
 | [],_=>rfl
 | x::l,h=>by simp only [kW,h x (List.mem_cons_self ..),aGd fun y hy=>h y (List.mem_cons_of_mem _ hy),List.append_nil]
theorem aSz {S:St} {n:Nat} {x:List V} (h:cloVs x=true):iP S (n+1) x=.ok x:=clo_frzs x h
theorem aT0 {S:St} {n:Nat} {x:List V} (h:cloVs x=true):iN S (n+1) x=[]:=clo_sls x h
theorem gF {S:St} {n:Nat} {l:List (List V)} (h:l.all cloVs=true):jG (iP S (n+1)) l=.ok l∧kW (iN S (n+1)) l=[]:=
 ⟨aJ9 fun x hx=>aSz (List.all_eq_true.1 h x hx),aGd fun x hx=>aT0 (List.all_eq_true.1 h x hx)⟩
theorem aOg {run:List V→St→R (V×St)} {mk:Nat→List V} (hm:Pt mk) {a ver n:Nat} {pre post post0:List (List V)} (hp:pre.all cloVs=true) {S S0:St} {v0 v:V} (hS:S.heap.get a=some (.row ver n pre))
  (h:run (mk 0) ⟨1,Tr.nil.put 0 (.row ver n pre)⟩=.ok (v0,S0)) (ho:∀ ρ,cZ ρ (lR (iP S0 3) S0) v0=.ok v) (hs:(jH (kX (iN S0 3) S0) v0).any (fun a=>Nat.blt a 1)=false) (h0:S0.heap.get 0=some (.row ver n post0)) (hq:jG (iP S0 3) post0=.ok post)
  (hs2:(kW (iN S0 3) post0).any (fun a=>Nat.blt a 1)=false):sP run (mk a) S=.ok (v,⟨S.next,S.heap.put a (.row ver n post)⟩):=by
 unfold sP
 obtain ⟨q1,q2⟩:=gF (S:=S) (n:=2) hp
 rw [hm.ptr,hm.sls]
 have hA:([]++cV S [a])=[]:=by simp only [cV,hS,q2,List.append_nil]
 have hB:(jH (kX (iN S0 3) S0) v0++cV S0 (mX 0 1)).any (fun a=>Nat.blt a 1)=false:=by
  simp only [mX,cV,h0,List.append_nil,List.any_append,hs,hs2,Bool.or_false]
 rw [hA]
 simp only [hm.frz,gK,hS,q1,List.any_nil,cond_false,List.length_cons,List.length_nil,Nat.zero_add,sO,h,ho,hB,lS]
 have:gK S0 (mX 0 1)=.ok [(ver,n,post)]:=by simp only [mX,gK,h0,hq]
 rw [this]
 simp only [pJ,lS]
 cases gV v&&nD [(ver,n,post)]<;>rfl
theorem FnR.of {f:FuncId} {p:Nat→Option (List bH)} (hpl:pl f=some (.val p)) {lv:Nat→List Nat} {mk:Nat→List V} (hm:Pt mk) {ver n:Nat} {pre post:List (List V)} {v:V} (hp:pre.all cloVs=true)
  (h:fD P (W P pl) p lv f (mk 0) ⟨1,Tr.nil.put 0 (.row ver n pre)⟩ fun v0 S0=>v0=v∧S0.heap.get 0=some (.row ver n post)) (hv:lE v=true) (hq:post.all cloVs=true):FnR P pl f mk ver n pre v post:=by
 obtain ⟨v0,S0,h1,rfl,h2⟩:=gE aGc h
 intro S a hS
 obtain ⟨q1,q2⟩:=gF (S:=S0) (n:=2) hq
 refine iW (h1.one fun k h1=>?_)
 simp only [eO,hpl]
 exact aOg hm hp hS h1 (fun ρ=>mK v0 hv) (by rw [tF v0 hv];rfl) h2 q1 (by rw [q2];rfl)
theorem FnR.eq {f:FuncId} {mk:Nat→List V} {ver n:Nat} {pre post:List (List V)} {v:V} (h:FnR P pl f mk ver n pre v post) {S:St} {a:Nat} (hS:S.heap.get a=some (.row ver n pre)) (K:KW):
  W P pl f (mk a) S K=K v ⟨S.next,S.heap.put a (.row ver n post)⟩:=aC4 (h S a hS) K
theorem aAq {α:Type}:∀ (f:Nat) (t:Tr α) (n:Nat) (x:α),t.get n=some x→Tr.set f t n x=t
 | 0,t,n,x,_=>rfl
 | f+1,.nil,n,x,h=>by cases h
 | f+1,.node l v r,n,x,h=>by
  rw [Tr.get_node] at h
  simp only [Tr.set,cond_eq_ite,Nat.beq_eq]
  by_cases h0:n=0
  ·rw [if_pos h0] at h ⊢;rw [h]
  ·rw [if_neg h0] at h ⊢
   by_cases h1:n % 2=1
   ·rw [if_pos h1] at h ⊢;rw [aAq f l _ _ h]
   ·rw [if_neg h1] at h ⊢;rw [aAq f r _ _ h]
theorem aOh {t:Tr Blk} {n:Nat} {x:Blk} (h:t.get n=some x):t.put n x=t:=aAq _ t n x h
theorem FnR.eq_same {f:FuncId} {mk:Nat→List V} {ver n:Nat} {pre:List (List V)} {v:V} (h:FnR P pl f mk ver n pre v pre) {S:St} {a:Nat} (hS:S.heap.get a=some (.row ver n pre)) (K:KW):W P pl f (mk a) S K=K v S:=by
 rw [h.eq hS K,aOh hS]
theorem aOi {run:List V→St→R (V×St)} {args bs:List V} {S:St} (hb:frzVs lH (lR (iP S 3) S) args=.ok bs) (hp:ptrsVs args=[]) {S0:St} {v0 v:V} (h:run bs ⟨0,.nil⟩=.ok (v0,S0)) (ho:fW S0 v0=.ok v)
  (hk:gV v=true∨slsVs (kX (iN S 3) S) args=[]):sP run args S=.ok (v,S):=by
 unfold sP
 have h1:gW (ptrsVs args)=[]:=by rw [hp];rfl
 have ho':cZ (aBt []) (lR (iP S0 3) S0) v0=.ok v:=by rw [aAo];exact ho
 have hi:(fun a=>rY a 0 ([]:List Nat))=lH:=rfl
 have hh:∀ l:List Nat,(l.any fun a=>iM a [])=false:=by intro l;rw [List.any_eq_false];intro a _;simp [iM]
 rw [h1]
 simp only [hi,hb,gK,cV,hh,cond_false,List.length_nil,sO,h,ho',mX,aAp,List.append_nil]
 rcases hk with hk | hk
 ·rw [hk];rfl
 ·rw [hk]
  cases gV v&&nD []<;>rfl
theorem Fn.frz {f:FuncId} {bs:List V} {v:V} (h:Fn P pl f bs v) {p:Nat→Option (List bH)} (hpl:pl f=some (.val p)) (hc:cloVs bs=true) {args:List V} {S:St} (hb:frzVs lH (lR (iP S 3) S) args=.ok bs) (hp:ptrsVs args=[]) (hk:gV v=true∨slsVs (kX (iN S 3) S) args=[])
  (K:KW):W P pl f args S K=K v S:=by
 refine aC4 ?_ K
 obtain ⟨N,h⟩:=h ⟨0,.nil⟩
 refine ⟨N+1,fun k hk'=>?_⟩
 obtain ⟨k,rfl⟩:∃ m,k=m+1:=⟨k - 1,by omega⟩
 have:=h (k+1) (by omega)
 simp only [eO,hpl] at this ⊢
 unfold sP at this
 have e1:gW (ptrsVs bs)=[]:=by rw [clo_ptrs bs hc];rfl
 have e2:slsVs (kX (iN (⟨0,.nil⟩:St) 3) ⟨0,.nil⟩) bs=[]:=clo_sls bs hc
 rw [e1,e2] at this
 simp only [clo_frzs bs hc,gK,cV,List.append_nil,List.any_nil,cond_false,List.length_nil,sO,mX,aAp] at this
 split at this
 ·cases this
 ·rename_i v0 S0 hrun
  split at this
  ·cases this
  ·rename_i v' hv'
   have hv:v'=v:=(Prod.mk.inj (Except.ok.inj this)).1
   subst hv
   rw [aAo] at hv'
   exact aOi hb hp hrun hv' hk
def aOj (mask:List Nat) (v:V) (S2:St) (S:St):R (V×St):=match aHh S2 mask 0 S.next v.cells with
 | .error e=>.error e
 | .ok r=>match gK S2 r.2 with
  | .error e=>.error e
  | .ok rows=>match yV v r.1 with
   | .error e=>.error e
   | .ok v'=>bif aFf r.2&&!(vU S2 mask 0 v.cells++cV S2 r.2).any (fun a=>iM a r.2) then .ok (v',⟨S.next+r.2.length,lS (mX S.next r.2.length) rows S.heap⟩) else .error "blocks"
theorem bA0 {f:FuncId} {p:Nat→Option (List bH)} {mask:List Nat} (hpl:pl f=some (.own p mask)) (hm:iM kpN mask=false) {lv:Nat→List Nat} {args:List V} (hc:cloVs args=true) {S:St} {K:KW}
  (h:fD P (W P pl) p lv f args ⟨0,.nil⟩ fun v0 S0=>wR (aOj mask v0 S0 S) fun r=>K r.1 r.2):W P pl f args S K:=by
 obtain ⟨v0,S0,h1,h2⟩:=gE aGc h
 obtain ⟨r,h3,h4⟩:=cB h2
 refine ⟨r.1,r.2,iW (h1.one fun k h1=>?_),h4⟩
 simp only [eO,hpl]
 unfold aHi aNp
 rw [hm]
 have e2:slsVs (kX (iN S 3) S) args=[]:=clo_sls args hc
 simp only [cond_false,clo_frzs args hc,h1,e2,pJ]
 exact h3
def FnK (P:Program) (pl:gX) (f:FuncId) (bs:List V) (v:V):Prop:=∀ (S:St) (args:List V),frzVs lH (lR (iP S 3) S) args=.ok bs→Evt (fun k=>eO P pl k f args S) (v,S)
theorem FnK.of {f:FuncId} {p:Nat→Option (List bH)} (hpl:pl f=some (.own p [kpN])) {lv:Nat→List Nat} {bs:List V} {v:V}
  (h:fD P (W P pl) p lv f bs ⟨0,.nil⟩ fun v0 S0=>zZ S0 v0=true∧fW S0 v0=.ok v):FnK P pl f bs v:=by
 obtain ⟨v0,S0,h1,h2,h3⟩:=gE aGc h
 intro S args hb
 refine iW (h1.one fun k h1=>?_)
 simp only [eO,hpl]
 have h3:cZ lH (lR (iP S0 3) S0) v0=.ok v:=h3
 have hm:iM kpN [kpN]=true:=rfl
 unfold aHi aFg
 simp only [hm,cond_true,hb,h1,h3,h2]
theorem FnK.frz {f:FuncId} {bs:List V} {v:V} (h:FnK P pl f bs v) {S:St} {args:List V} (hb:frzVs lH (lR (iP S 3) S) args=.ok bs) (K:KW):W P pl f args S K=K v S:=aC4 (h S args hb) K
theorem FnK.eq {f:FuncId} {bs:List V} {v:V} (h:FnK P pl f bs v) (hc:cloVs bs=true) (S:St) (K:KW):W P pl f bs S K=K v S:=aC4 (h S bs (clo_frzs bs hc)) K
theorem aYe {f:FuncId} {args:List V} {S:St} {K:KW} (h:W P pl f args S K):∃ k v S',K v S'∧eO P pl k f args S=.ok (v,S'):=by
 obtain ⟨v,S',⟨N,h⟩,k⟩:=h
 exact ⟨N,v,S',k,h N (Nat.le_refl _)⟩
theorem aCy {F:List V→St→(List V→St→Prop)→Prop} (n:Nat) (I:Nat→List V→St→Prop)
  (h:∀ i vs S,i≤n→I i vs S→∀ aF:List V→St→Prop,(∀ vs' S',i<n→I (i+1) vs' S'→aF vs' S')→F vs S aF) {vs:List V} {S:St} (h0:I 0 vs S):iJ vs S F:=by
 have:∀ m i vs S,i+m=n→I i vs S→aAi (m+1) vs S F:=by
  intro m
  induction m with
  | zero=>intro i vs S hi hI;exact h i vs S (by omega) hI _ fun vs' S' hlt _=>by omega
  | succ m ih=>intro i vs S hi hI;exact h i vs S (by omega) hI _ fun vs' S' hlt hI'=>ih (i+1) vs' S' (by omega) hI'
 exact ⟨n+1,this n 0 vs S (by omega) h0⟩
theorem dB {F:List V→St→(List V→St→Prop)→Prop} (I:Nat→List V→St→Prop)
  (h:∀ i vs S,I i vs S→∀ aF:List V→St→Prop,(∀ j vs' S',j<i→I j vs' S'→aF vs' S')→F vs S aF) {n:Nat} {vs:List V} {S:St} (h0:I n vs S):iJ vs S F:=by
 refine aCy n (fun i vs S=>∃ j,j+i≤n∧I j vs S) ?_ ⟨n,by omega,h0⟩
 rintro i vs S hi ⟨j,hj,hI⟩ aF ha
 exact h j vs S hI aF fun j' vs' S' hlt hI'=>ha vs' S' (by omega) ⟨j',by omega,hI'⟩
theorem aG {F:List V→St→(List V→St→Prop)→Prop} {α σ ρ:Type} (l:List α) {step:σ→α→ρ⊕σ} {fin:σ→ρ} (I:Nat→σ→List V→St→Prop) (E:ρ→Prop)
  (hs:∀ i a s vs S,l[i]?=some a→I i s vs S→∀ aF:List V→St→Prop,(match step s a with
   | .inl r=>E r
   | .inr s'=>∀ vs' S',I (i+1) s' vs' S'→aF vs' S')→F vs S aF)
  (he:∀ s vs S,I l.length s vs S→∀ aF:List V→St→Prop,E (fin s)→F vs S aF) {s:σ} {vs:List V} {S:St} (h0:I 0 s vs S) (hE:E (aD step fin l s)):iJ vs S F:=by
 refine aCy l.length (fun i vs S=>∃ s,I i s vs S∧E (aD step fin (l.drop i) s)) ?_ ⟨s,h0,hE⟩
 rintro i vs S hi ⟨s,hI,hE⟩ aF ha
 by_cases hl:i=l.length
 ·subst hl
  rw [List.drop_length] at hE
  exact he s vs S hI aF hE
 ·have hlt:i<l.length:=by omega
  have ha':l[i]?=some l[i]:=List.getElem?_eq_getElem hlt
  rw [List.drop_eq_getElem_cons hlt] at hE
  refine hs i _ s vs S ha' hI aF ?_
  simp only [aD] at hE
  split
  ·rename_i r hr
   rw [hr] at hE;exact hE
  ·rename_i s' hr
   rw [hr] at hE
   exact fun vs' S' hI'=>ha vs' S' hlt ⟨s',hI',hE⟩
end
end
section
theorem aGe {d t:Nat} (h:d≠t):Nat.beq d t=false:=Bool.eq_false_iff.2 fun h'=>h (Nat.eq_of_beq_eq_true h')
theorem aOk {α:Type} {x y:R α} (K:α→Prop) (h:x=y):wR x K=wR y K:=by rw [h]
theorem aOl {α:Type} {x y:Option α} (K:α→Prop) (h:x=y):wO x K=wO y K:=by rw [h]
theorem aM7 {b c:Bool} (x:Prop) (h:b=c):yN b x=yN c x:=by rw [h]
theorem aGf {v w:V} (x y:Prop) (h:v=w):aV v x y=aV w x y:=by rw [h]
theorem aI4 {v w:V} (i:Nat) (K:V→Prop) (h:v=w):lD v i K=lD w i K:=by rw [h]
theorem aM8 {v w:List V} (K:V→List V→Prop) (h:v=w):uX v K=uX w K:=by rw [h]
theorem aI5 {v w:V} (x:Prop) (h:v=w):wJ v x=wJ w x:=by rw [h]
theorem aGg {vs ws:List V} {S T:St} (F:List V→St→(List V→St→Prop)→Prop) (h:vs=ws) (g:S=T):iJ vs S F=iJ ws T F:=by rw [h,g]
theorem aT1 (P:Program) (pl:gX) (f:FuncId) {a b:List V} {S T:St} (K:KW) (h:a=b) (g:S=T):W P pl f a S K=W P pl f b T K:=by rw [h,g]
attribute [congr] aT1 aOk aOl aM7 aGf aI4 aM8 aI5 aGg
def wG:List Oper→Nat→(Nat→Prop)→Prop
 | [],_,_=>False
 | o::_,0,K=>wO o.dst K
 | _::l,j+1,K=>wG l j K
def wI:List Oper→Nat→(Oper→Prop)→Prop
 | [],_,_=>False
 | o::_,0,K=>K o
 | _::l,j+1,K=>wI l j K
theorem aCz (K:Oper→Prop):∀ (l:List Oper) (j:Nat),wO l.toArray[j]? K=wI l j K
 | [],j=>by simp [wO,wI]
 | o::l,0=>by simp [wO,wI]
 | o::l,j+1=>by rw [wI,←aCz K l j];simp
theorem aOm (K:Nat→Prop):∀ (l:List Oper) (j:Nat),wO (lL l.toArray j) K=wG l j K
 | [],j=>by simp [wO,wG,lL]
 | o::l,0=>by simp [wG,lL]
 | o::l,j+1=>by rw [wG,←aOm K l j];simp [lL]
def hl {α:Type} (a:α):α:=a
theorem aU7 {α:Type} (a:α):hl a=a:=Eq.trans rfl rfl
def wLn:List Oper→List Nat→Nat→(Nat→Prop)→Prop
 | [],[],i,K=>K i
 | [],k::_,i,K=>K k
 | _::l,[],i,K=>wLn l [] (i+1) K
 | _::l,_::ks,i,K=>wLn l ks (i+1) K
def tG:Nat→List Nat→Prop
 | _,[]=>True
 | i,k::l=>k=i∧tG (i+1) l
theorem aI6 (K:Nat→Prop):∀ (l:List Oper) (ks:List Nat) (i:Nat),tG i ks→wLn l ks i K=K (i+l.length)
 | [],[],i,h=>rfl
 | [],k::ks,i,h=>by rw [wLn,h.1];rfl
 | o::l,[],i,h=>by rw [wLn,aI6 K l [] (i+1) trivial];congr 1;simp;omega
 | o::l,k::ks,i,h=>by rw [wLn,aI6 K l ks (i+1) h.2];congr 1;simp;omega
def wLv:List (Nat×List Nat)→Nat→(List Nat→Prop)→Prop
 | [],_,K=>K []
 | (i,l)::r,j,K=>match Nat.beq i j with
  | true=>K l
  | false=>wLv r j K
def eG:List (Nat×List Nat)→Nat→List Nat
 | [],_=>[]
 | (i,l)::r,j=>match Nat.beq i j with
  | true=>l
  | false=>eG r j
theorem aI7 (K:List Nat→Prop):∀ (t:List (Nat×List Nat)) (j:Nat),wLv t j K=K (eG t j)
 | [],j=>rfl
 | (i,l)::r,j=>by
  simp only [wLv,eG,aI7 K r j]
  cases Nat.beq i j<;>rfl
theorem aM9 {j k:Nat} (t:List (Nat×List Nat)) (K:List Nat→Prop) (h:j=k):wLv t j K=wLv t k K:=by rw [h]
attribute [congr] aM9
def wSt:List (Nat×List bH)→Nat→(List bH→Prop)→Prop→Prop
 | [],_,_,x=>x
 | (i,l)::r,j,K,x=>match Nat.beq i j with
  | true=>K l
  | false=>wSt r j K x
def dI (t:List (Nat×List bH)) (id:Nat):Option (List bH):=gL id t
section
variable (P:Program) (C:aT) (n:Nat)
def uZ (ops:Array Oper) (base:Nat):List Oper→List Nat→Nat→List Nat→aS→St→lC→Prop
 | [],_,_,_,e,S,K=>K e S
 | o::l,[],i,sk,e,S,K=>jD P C n ops sk o (some (base+i)) e S fun ran _ e' S'=>uZ ops base l [] (i+1) (uU ran i sk) e' S' K
 | o::l,k::ks,i,sk,e,S,K=>jD P C n ops sk o (some (base+k)) e S fun ran _ e' S'=>uZ ops base l ks (i+1) (uU ran k sk) e' S' K
def aEm (ops:Array Oper):List Oper→List Nat→Nat→List Nat→aS→St→lC→Prop
 | [],_,_,_,e,S,K=>K e S
 | o::l,[],i,sk,e,S,K=>jD P C n ops sk o none e S fun ran _ e' S'=>aEm ops l [] (i+1) (uU ran i sk) e' S' K
 | o::l,k::ks,i,sk,e,S,K=>jD P C n ops sk o none e S fun ran _ e' S'=>aEm ops l ks (i+1) (uU ran k sk) e' S' K
theorem mL {ops:Array Oper} {sk:List Nat} {o:Oper} {fr:Option Nat} {e:aS} {S:St} {K K':Bool→V→aS→St→Prop} (h:∀ b v e S,K b v e S=K' b v e S):jD P C n ops sk o fr e S K=jD P C n ops sk o fr e S K':=by
 rw [show K=K' from funext fun b=>funext fun v=>funext fun e=>funext fun S=>h b v e S]
def oQ:Nat→Nat→List bH
 | _,0=>[]
 | i,k+1=>(i,[])::oQ (i+1) k
theorem xV:∀ (k i:Nat),oQ i (k+1)=oQ i k++[(i+k,[])]
 | 0,i=>rfl
 | k+1,i=>by
  rw [oQ,xV k (i+1),oQ]
  simp only [List.cons_append,Nat.add_assoc,Nat.add_comm 1 k]
theorem aGi:∀ k,aFe k=oQ 0 k
 | 0=>rfl
 | k+1=>by rw [aFe,aGi k,xV,Nat.zero_add]
theorem aAr (ops:Array Oper) (base:Nat) (K:lC):∀ (l:List Oper) (ks:List Nat) (i:Nat) (sk:List Nat) (recs:List pN) (e:aS) (S:St),tG i ks→(∀ k,ops[i+k]?=l[k]?)→pE P C n ops base (oQ i l.length) sk recs e S K=uZ P C n ops base l ks i sk e S K
 | [],ks,i,sk,recs,e,S,_,h=>by cases ks<;>rfl
 | o::l,ks,i,sk,recs,e,S,hk,h=>by
  have h0:ops[i]?=some o:=h 0
  cases ks with
  | nil=>
   simp only [List.length_cons,oQ,pE,uZ,h0,wO,oP]
   exact mL P C n fun b v e S=>aAr ops base K l [] (i+1) _ _ e S trivial fun k=>by have:=h (k+1);rw [show i+1+k=i+(k+1) by omega,this];simp
  | cons k ks=>
   obtain ⟨rfl,hk⟩:=hk
   simp only [List.length_cons,oQ,pE,uZ,h0,wO,oP]
   exact mL P C n fun b v e S=>aAr ops base K l ks (k+1) _ _ e S hk fun j=>by have:=h (j+1);rw [show k+1+j=k+(j+1) by omega,this];simp
theorem aEn (ops:Array Oper) (K:lC):∀ (l:List Oper) (ks:List Nat) (i:Nat) (sk:List Nat) (e:aS) (S:St),tG i ks→aI0 P C n ops l i sk e S K=aEm P C n ops l ks i sk e S K
 | [],ks,i,sk,e,S,_=>by cases ks<;>rfl
 | o::l,[],i,sk,e,S,hk=>by
  simp only [aI0,aEm]
  exact mL P C n fun b v e S=>aEn ops K l [] (i+1) _ e S trivial
 | o::l,k::ks,i,sk,e,S,hk=>by
  obtain ⟨rfl,hk⟩:=hk
  simp only [aI0,aEm]
  exact mL P C n fun b v e S=>aEn ops K l ks (k+1) _ e S hk
def aI9 (id:Nat) (Kn:lC) (Kx:KXW):KXW:=fun j e S=>match Nat.beq j id with
 | true=>Kn e S
 | false=>Kx j e S
def aU8 (p:Nat→Option (List bH)) (lv:Nat→List Nat) (a:Code) (e:aS) (Kx:KXW) (Kr:lC) (vs:List V) (S:St) (aF:List V→St→Prop):Prop:=
 aEl (lv (bE a)) vs (e.filt fun t=>!lB a t) fun e=>eF P C n p lv a e S (fun e S=>lW e (lv (bE a)) fun vs=>aF vs S) Kx Kr
end
section
variable {P:Program} {C:aT} {n:Nat} {tp:List (Nat×List bH)} {tl:List (Nat×List Nat)}
theorem aJa:(∀ (e:aS) (t:Nat) (K:V→Prop),wO (ev e (.tmp t)) K=wO (e.get t) K)∧(∀ (e:aS) (v:Value) (K:V→Prop),wO (ev e (.const v)) K=wO (ofValue v) K)∧(∀ (e:aS) (f:Nat) (K:V→Prop),wO (ev e (.func f)) K=K (.func f [] [])) ∧
  (∀ (e:aS) (t:Nat) (v:V) (K:V→Prop),wO ((e.put t v).get t) K=K v)∧(∀ (b:Bool) (K:V→Prop),wO (ofValue (.bool b)) K=K (.bool b))∧(∀ (k:IntKind) (i:Int) (K:V→Prop),wO (ofValue (.int k i)) K=K (.int k i)) ∧
  (∀ (l:List UInt8) (K:V→Prop),wO (ofValue (.string ⟨l.toArray⟩)) K=K (.str l))∧(∀ (K:V→Prop),wO (ofValue (.slice none 0 0)) K=K .nils)∧(∀ (K:V→Prop),wO (ofValue (.pointer none)) K=K .nilp)∧(∀ (K:V→Prop),wO (ofValue .nilIface) K=K .nili)∧(∀ (K:V→Prop),wO (ofValue .nilFunc) K=K .nilf)∧(∀ (K:V→Prop),wO (ofValue (.map none)) K=K .nilm) ∧
  (∀ (l:List Value) (K:V→Prop),wO (ofValue (.agg l.toArray)) K=wO (kF l) fun xs=>K (.agg xs))∧(∀ (K:List V→Prop),wO (kF []) K=K [])∧(∀ (v:Value) (l:List Value) (K:List V→Prop),wO (kF (v::l)) K=wO (nC v) fun x=>wO (kF l) fun xs=>K (x::xs)) ∧
  (∀ (b:Bool) (K:V→Prop),wO (nC (.bool b)) K=K (.bool b))∧(∀ (k:IntKind) (i:Int) (K:V→Prop),wO (nC (.int k i)) K=K (.int k i))∧(∀ (l:List UInt8) (K:V→Prop),wO (nC (.string ⟨l.toArray⟩)) K=K (.str l))∧(∀ (K:V→Prop),wO (nC (.slice none 0 0)) K=K .nils)∧(∀ (K:V→Prop),wO (nC (.pointer none)) K=K .nilp) ∧
  (∀ (e:aS) (K:List V→Prop),wO (oC (ev e) []) K=K [])∧(∀ (e:aS) (x:Operand) (l:List Operand) (K:List V→Prop),wO (oC (ev e) (x::l)) K=wO (ev e x) fun v=>wO (oC (ev e) l) fun vs=>K (v::vs)) ∧
  (∀ (e:aS) (K:List (Nat×V)→Prop),wO (lQ (ev e) []) K=K [])∧(∀ (e:aS) (i:Nat) (x:Operand) (l:List (Nat×Operand)) (K:List (Nat×V)→Prop),wO (lQ (ev e) ((i,x)::l)) K=wO (ev e x) fun v=>wO (lQ (ev e) l) fun vs=>K ((i,v)::vs)) ∧
  (∀ (e:aS) (K:Option V→Prop),wO (evO (ev e) none) K=K none)∧(∀ (e:aS) (x:Operand) (K:Option V→Prop),wO (evO (ev e) (some x)) K=wO (ev e x) fun v=>K (some v)):=by
 refine ⟨fun _ _ _=>rfl,fun _ _ _=>rfl,fun _ _ _=>rfl,fun e t v K=>by rw [Tr.get_put_sameB _ _ _ trivial];rfl,fun _ _=>rfl,fun _ _ _=>rfl,fun l K=>by simp [ofValue,nC,wO],fun _=>rfl,fun _=>rfl,fun _=>rfl,fun _=>rfl,fun _=>rfl,
  fun l K=>?_,fun _=>rfl,fun v l K=>?_,fun _ _=>rfl,fun _ _ _=>rfl,fun l K=>by simp [nC,wO],fun _=>rfl,fun _=>rfl,fun _ _=>rfl,fun e x l K=>?_,fun _ _=>rfl,fun e i x l K=>?_,fun _ _=>rfl,fun e x K=>?_⟩
 ·simp only [ofValue];cases kF l<;>rfl
 ·simp only [kF]
  cases nC v with
  | none=>rfl
  | some x=>cases kF l<;>rfl
 ·simp only [oC]
  cases ev e x with
  | none=>rfl
  | some x=>cases oC (ev e) l<;>rfl
 ·simp only [lQ]
  cases ev e x with
  | none=>rfl
  | some x=>cases lQ (ev e) l<;>rfl
 ·simp only [evO];cases ev e x<;>rfl
theorem aU9 {t d:Nat} (h:¬ t=d) (e:aS) (v:V) (K:V→Prop):wO ((e.put d v).get t) K=wO (e.get t) K:=by rw [Tr.get_put_neB _ _ _ _ trivial h]
theorem bA1 {t d:Nat} (h:t<d) (e:aS) (v:V) (K:V→Prop):wO ((e.put d v).get t) K=wO (e.get t) K:=aU9 (Nat.ne_of_lt h) e v K
theorem aUa {t d:Nat} (h:d<t) (e:aS) (v:V) (K:V→Prop):wO ((e.put d v).get t) K=wO (e.get t) K:=aU9 (Nat.ne_of_gt h) e v K
def pL (l:List Code) (t:Nat):Bool:=l.any fun a=>lB a t
def dL (l:List Oper) (r:List Code) (t:Nat):Bool:=aAh l t||pL r t
theorem aT2 (a:Code) (r:List Code) (t:Nat):pL (a::r) t=(lB a t||pL r t):=by simp [pL]
theorem aOn {a:Code} {t:Nat} (h:pL [a] t=false) (e:aS) (K:V→Prop):wO ((e.filt fun t=>!lB a t).get t) K=wO (e.get t) K:=by
 have h:lB a t=false:=by simpa [pL] using h
 rw [qI,if_pos (by rw [h];rfl)]
theorem aJb:(∀ t,pL [] t=false)∧(∀ (a b:Code) (r:List Code) (t:Nat),pL (.seq a b::r) t=pL (a::b::r) t)∧(∀ (c:Operand) (a b:Code) (r:List Code) (t:Nat),pL (.cond c a b::r) t=pL (a::b::r) t)∧(∀ (i:Nat) (a:Code) (r:List Code) (t:Nat),pL (.block i a::r) t=pL (a::r) t) ∧
  (∀ (a:Code) (r:List Code) (t:Nat),pL (.loop a::r) t=pL (a::r) t)∧(∀ (r:List Code) (t:Nat),pL (.skip::r) t=pL r t)∧(∀ (r:List Code) (t:Nat),pL (.ret::r) t=pL r t)∧(∀ (i:Nat) (r:List Code) (t:Nat),pL (.exit i::r) t=pL r t)∧(∀ (i:Nat) (r:List Code) (t:Nat),pL (.label i::r) t=pL r t) ∧
  (∀ (id:Nat) (l:List Oper) (d:Bool) (r:List Code) (t:Nat),pL (.region id l.toArray d::r) t=dL l r t)∧(∀ (r:List Code) (t:Nat),dL [] r t=pL r t)∧(∀ (op:Op) (ty:TypeId) (pos:String) (aft:Array Edge) (g:Option (Nat×Bool)) (l:List Oper) (r:List Code) (t:Nat),dL (⟨none,op,ty,pos,aft,g⟩::l) r t=dL l r t):=by
 refine ⟨fun _=>rfl,fun a b r t=>?_,fun c a b r t=>?_,fun i a r t=>?_,fun a r t=>?_,fun r t=>?_,fun r t=>?_,fun i r t=>?_,fun i r t=>?_,fun id l d r t=>?_,fun r t=>?_,fun op ty pos aft g l r t=>?_⟩
 all_goals simp only [aT2,lB,dL,aAh,Bool.false_or,Bool.or_assoc]
theorem aOo {d t:Nat} (h:¬ t=d) (op:Op) (ty:TypeId) (pos:String) (aft:Array Edge) (g:Option (Nat×Bool)) (l:List Oper) (r:List Code):dL (⟨some d,op,ty,pos,aft,g⟩::l) r t=dL l r t:=by
 simp only [dL,aAh,aGe (Ne.symm h),Bool.false_or]
theorem aUb {d t:Nat} (h:t<d) (op:Op) (ty:TypeId) (pos:String) (aft:Array Edge) (g:Option (Nat×Bool)) (l:List Oper) (r:List Code):dL (⟨some d,op,ty,pos,aft,g⟩::l) r t=dL l r t:=aOo (Nat.ne_of_lt h) ..
theorem aOp {d t:Nat} (h:d<t) (op:Op) (ty:TypeId) (pos:String) (aft:Array Edge) (g:Option (Nat×Bool)) (l:List Oper) (r:List Code):dL (⟨some d,op,ty,pos,aft,g⟩::l) r t=dL l r t:=aOo (Nat.ne_of_gt h) ..end
def qK (P:Program) (u:TypeId):Bool:=match P.underlying u with
 | some (.slice _)=>true
 | some .string=>true
 | _=>false
theorem aAs {α:Type} (x:Option α) {K K':α→Prop} (h:∀ a,K a=K' a):wO x K=wO x K':=by rw [show K=K' from funext h]
theorem aT3 (e:aS) (x:Operand) (K:List V→Prop):wO (oC (ev e) [x]) K=wO (ev e x) fun v=>K [v]:=by simp only [oC];cases ev e x<;>rfl
theorem aJc (e:aS) (x y:Operand) (K:List V→Prop):wO (oC (ev e) [x,y]) K=wO (ev e x) fun v=>wO (ev e y) fun w=>K [v,w]:=by
 simp only [oC]
 cases ev e x with
 | none=>rfl
 | some a=>cases ev e y<;>rfl
theorem aJd (P:Program) (C:aT):(∀ (x:Operand) (d:Option Tmp) (ty:TypeId) (pos:String) (aft:Array Edge) (g:Option (Nat×Bool)) (fr:Option Nat) (e:aS) (S:St) (K:KW),iK P C ⟨d,.move x,ty,pos,aft,g⟩ fr e S K=wO (ev e x) fun v=>K v S) ∧
  (∀ (x:Operand) (d:Option Tmp) (ty:TypeId) (pos:String) (aft:Array Edge) (g:Option (Nat×Bool)) (fr:Option Nat) (e:aS) (S:St) (K:KW),iK P C ⟨d,.assign x,ty,pos,aft,g⟩ fr e S K=wO (ev e x) fun v=>K v S) ∧
  (∀ (c a b:Operand) (d:Option Tmp) (ty:TypeId) (pos:String) (aft:Array Edge) (g:Option (Nat×Bool)) (fr:Option Nat) (e:aS) (S:St) (K:KW),iK P C ⟨d,.pick c a b,ty,pos,aft,g⟩ fr e S K=wO (ev e c) fun c=>wO (ev e a) fun a=>wO (ev e b) fun b=>wR (hl (aG6 c a b)) fun v=>K v S) ∧
  (∀ (t:TypeId) (d:Option Tmp) (ty:TypeId) (pos:String) (aft:Array Edge) (g:Option (Nat×Bool)) (fr:Option Nat) (e:aS) (S:St) (K:KW),iK P C ⟨d,.alloc t,ty,pos,aft,g⟩ fr e S K=wO (aM P t) fun z=>wR (hl (bD fr S (.row 0 z.cells.length [z.cells]))) fun r=>K (.ptr r.1 0 0 0) r.2) ∧
  (∀ (u:TypeId) (x:Operand) (d:Option Tmp) (ty:TypeId) (pos:String) (aft:Array Edge) (g:Option (Nat×Bool)) (fr:Option Nat) (e:aS) (S:St) (K:KW),iK P C ⟨d,.box u x,ty,pos,aft,g⟩ fr e S K=wO (ev e x) fun v=>yN (hl (aI v.cells)) (wR (hl (bD fr S (.row 0 v.cells.length [v.cells]))) fun r=>K (.ptr r.1 0 0 0) r.2)) ∧
  (∀ (t:TypeId) (ps:List (Nat×Operand)) (d:Option Tmp) (ty:TypeId) (pos:String) (aft:Array Edge) (g:Option (Nat×Bool)) (fr:Option Nat) (e:aS) (S:St) (K:KW),iK P C ⟨d,.build t ps.toArray,ty,pos,aft,g⟩ fr e S K=wO (lQ (ev e) ps) fun vs=>wR (hl (mW P t vs)) fun v=>K v S) ∧
  (∀ (t:TypeId) (m:Nat) (ps:List (Nat×Operand)) (d:Option Tmp) (ty:TypeId) (pos:String) (aft:Array Edge) (g:Option (Nat×Bool)) (fr:Option Nat) (e:aS) (S:St) (K:KW),iK P C ⟨d,.buildSlice t m ps.toArray,ty,pos,aft,g⟩ fr e S K=wO (lQ (ev e) ps) fun vs=>wR (hl (cT P t m vs fr S)) fun r=>K r.1 r.2) ∧
  (∀ (t:TypeId) (a:Operand) (d:Option Tmp) (ty:TypeId) (pos:String) (aft:Array Edge) (g:Option (Nat×Bool)) (fr:Option Nat) (e:aS) (S:St) (K:KW),iK P C ⟨d,.load t a,ty,pos,aft,g⟩ fr e S K=wO (ev e a) fun p=>wR (hl (kO P t p S)) fun v=>K v S) ∧
  (∀ (t:TypeId) (a x:Operand) (d:Option Tmp) (ty:TypeId) (pos:String) (aft:Array Edge) (g:Option (Nat×Bool)) (fr:Option Nat) (e:aS) (S:St) (K:KW),iK P C ⟨d,.store t a x,ty,pos,aft,g⟩ fr e S K=wO (ev e a) fun p=>wO (ev e x) fun v=>wR (hl (mV P t p v S)) fun S'=>K (.tup []) S') ∧
  (∀ (x:Operand) (d:Option Tmp) (ty:TypeId) (pos:String) (aft:Array Edge) (g:Option (Nat×Bool)) (fr:Option Nat) (e:aS) (S:St) (K:KW),iK P C ⟨d,.nilCheck x,ty,pos,aft,g⟩ fr e S K=wO (ev e x) fun v=>wJ (hl v) (K v S)) ∧
  (∀ (t u:TypeId) (x y:Operand) (d:Option Tmp) (ty:TypeId) (pos:String) (aft:Array Edge) (g:Option (Nat×Bool)) (fr:Option Nat) (e:aS) (S:St) (K:KW),iK P C ⟨d,.binOp .add t x y u,ty,pos,aft,g⟩ fr e S K=wO (ev e x) fun a=>wO (ev e y) fun b=>wR (hl (bW P .add t a b)) fun v=>K v S) ∧
  (∀ (t u:TypeId) (x y:Operand) (d:Option Tmp) (ty:TypeId) (pos:String) (aft:Array Edge) (g:Option (Nat×Bool)) (fr:Option Nat) (e:aS) (S:St) (K:KW),iK P C ⟨d,.binOp .sub t x y u,ty,pos,aft,g⟩ fr e S K=wO (ev e x) fun a=>wO (ev e y) fun b=>wR (hl (bW P .sub t a b)) fun v=>K v S) ∧
  (∀ (t u:TypeId) (x y:Operand) (d:Option Tmp) (ty:TypeId) (pos:String) (aft:Array Edge) (g:Option (Nat×Bool)) (fr:Option Nat) (e:aS) (S:St) (K:KW),iK P C ⟨d,.binOp .mul t x y u,ty,pos,aft,g⟩ fr e S K=wO (ev e x) fun a=>wO (ev e y) fun b=>wR (hl (bW P .mul t a b)) fun v=>K v S) ∧
  (∀ (t u:TypeId) (x y:Operand) (d:Option Tmp) (ty:TypeId) (pos:String) (aft:Array Edge) (g:Option (Nat×Bool)) (fr:Option Nat) (e:aS) (S:St) (K:KW),iK P C ⟨d,.binOp .quo t x y u,ty,pos,aft,g⟩ fr e S K=wO (ev e x) fun a=>wO (ev e y) fun b=>wR (hl (bW P .quo t a b)) fun v=>K v S) ∧
  (∀ (t u:TypeId) (x y:Operand) (d:Option Tmp) (ty:TypeId) (pos:String) (aft:Array Edge) (g:Option (Nat×Bool)) (fr:Option Nat) (e:aS) (S:St) (K:KW),iK P C ⟨d,.binOp .rem t x y u,ty,pos,aft,g⟩ fr e S K=wO (ev e x) fun a=>wO (ev e y) fun b=>wR (hl (bW P .rem t a b)) fun v=>K v S) ∧
  (∀ (t u:TypeId) (x y:Operand) (d:Option Tmp) (ty:TypeId) (pos:String) (aft:Array Edge) (g:Option (Nat×Bool)) (fr:Option Nat) (e:aS) (S:St) (K:KW),iK P C ⟨d,.binOp .and t x y u,ty,pos,aft,g⟩ fr e S K=wO (ev e x) fun a=>wO (ev e y) fun b=>wR (hl (bW P .and t a b)) fun v=>K v S) ∧
  (∀ (t u:TypeId) (x y:Operand) (d:Option Tmp) (ty:TypeId) (pos:String) (aft:Array Edge) (g:Option (Nat×Bool)) (fr:Option Nat) (e:aS) (S:St) (K:KW),iK P C ⟨d,.binOp .or t x y u,ty,pos,aft,g⟩ fr e S K=wO (ev e x) fun a=>wO (ev e y) fun b=>wR (hl (bW P .or t a b)) fun v=>K v S) ∧
  (∀ (t u:TypeId) (x y:Operand) (d:Option Tmp) (ty:TypeId) (pos:String) (aft:Array Edge) (g:Option (Nat×Bool)) (fr:Option Nat) (e:aS) (S:St) (K:KW),iK P C ⟨d,.binOp .xor t x y u,ty,pos,aft,g⟩ fr e S K=wO (ev e x) fun a=>wO (ev e y) fun b=>wR (hl (bW P .xor t a b)) fun v=>K v S) ∧
  (∀ (t u:TypeId) (x y:Operand) (d:Option Tmp) (ty:TypeId) (pos:String) (aft:Array Edge) (g:Option (Nat×Bool)) (fr:Option Nat) (e:aS) (S:St) (K:KW),iK P C ⟨d,.binOp .andNot t x y u,ty,pos,aft,g⟩ fr e S K=wO (ev e x) fun a=>wO (ev e y) fun b=>wR (hl (bW P .andNot t a b)) fun v=>K v S) ∧
  (∀ (t u:TypeId) (x y:Operand) (d:Option Tmp) (ty:TypeId) (pos:String) (aft:Array Edge) (g:Option (Nat×Bool)) (fr:Option Nat) (e:aS) (S:St) (K:KW),iK P C ⟨d,.binOp .shl t x y u,ty,pos,aft,g⟩ fr e S K=wO (ev e x) fun a=>wO (ev e y) fun b=>wR (hl (bW P .shl t a b)) fun v=>K v S) ∧
  (∀ (t u:TypeId) (x y:Operand) (d:Option Tmp) (ty:TypeId) (pos:String) (aft:Array Edge) (g:Option (Nat×Bool)) (fr:Option Nat) (e:aS) (S:St) (K:KW),iK P C ⟨d,.binOp .shr t x y u,ty,pos,aft,g⟩ fr e S K=wO (ev e x) fun a=>wO (ev e y) fun b=>wR (hl (bW P .shr t a b)) fun v=>K v S) ∧
  (∀ (t u:TypeId) (x y:Operand) (d:Option Tmp) (ty:TypeId) (pos:String) (aft:Array Edge) (g:Option (Nat×Bool)) (fr:Option Nat) (e:aS) (S:St) (K:KW),iK P C ⟨d,.binOp .lss t x y u,ty,pos,aft,g⟩ fr e S K=wO (ev e x) fun a=>wO (ev e y) fun b=>wR (hl (bW P .lss t a b)) fun v=>K v S) ∧
  (∀ (t u:TypeId) (x y:Operand) (d:Option Tmp) (ty:TypeId) (pos:String) (aft:Array Edge) (g:Option (Nat×Bool)) (fr:Option Nat) (e:aS) (S:St) (K:KW),iK P C ⟨d,.binOp .leq t x y u,ty,pos,aft,g⟩ fr e S K=wO (ev e x) fun a=>wO (ev e y) fun b=>wR (hl (bW P .leq t a b)) fun v=>K v S) ∧
  (∀ (t u:TypeId) (x y:Operand) (d:Option Tmp) (ty:TypeId) (pos:String) (aft:Array Edge) (g:Option (Nat×Bool)) (fr:Option Nat) (e:aS) (S:St) (K:KW),iK P C ⟨d,.binOp .gtr t x y u,ty,pos,aft,g⟩ fr e S K=wO (ev e x) fun a=>wO (ev e y) fun b=>wR (hl (bW P .gtr t a b)) fun v=>K v S) ∧
  (∀ (t u:TypeId) (x y:Operand) (d:Option Tmp) (ty:TypeId) (pos:String) (aft:Array Edge) (g:Option (Nat×Bool)) (fr:Option Nat) (e:aS) (S:St) (K:KW),iK P C ⟨d,.binOp .geq t x y u,ty,pos,aft,g⟩ fr e S K=wO (ev e x) fun a=>wO (ev e y) fun b=>wR (hl (bW P .geq t a b)) fun v=>K v S) ∧
  (∀ (t u:TypeId) (x y:Operand) (d:Option Tmp) (ty:TypeId) (pos:String) (aft:Array Edge) (g:Option (Nat×Bool)) (fr:Option Nat) (e:aS) (S:St) (K:KW),iK P C ⟨d,.binOp .eql t x y u,ty,pos,aft,g⟩ fr e S K=wO (ev e x) fun a=>wO (ev e y) fun b=>yN (hl (fZ P t x y a b)) (wR (hl (bW P .eql t a b)) fun v=>K v S)) ∧
  (∀ (t u:TypeId) (x y:Operand) (d:Option Tmp) (ty:TypeId) (pos:String) (aft:Array Edge) (g:Option (Nat×Bool)) (fr:Option Nat) (e:aS) (S:St) (K:KW),iK P C ⟨d,.binOp .neq t x y u,ty,pos,aft,g⟩ fr e S K=wO (ev e x) fun a=>wO (ev e y) fun b=>yN (hl (fZ P t x y a b)) (wR (hl (bW P .neq t a b)) fun v=>K v S)) ∧
  (∀ (o:UnOp) (t:TypeId) (x:Operand) (d:Option Tmp) (ty:TypeId) (pos:String) (aft:Array Edge) (g:Option (Nat×Bool)) (fr:Option Nat) (e:aS) (S:St) (K:KW),iK P C ⟨d,.unOp o t x,ty,pos,aft,g⟩ fr e S K=wO (ev e x) fun v=>wR (hl (unV o v)) fun v=>K v S) ∧
  (∀ (s u:TypeId) (x:Operand) (d:Option Tmp) (ty:TypeId) (pos:String) (aft:Array Edge) (g:Option (Nat×Bool)) (fr:Option Nat) (e:aS) (S:St) (K:KW),iK P C ⟨d,.convert s u x,ty,pos,aft,g⟩ fr e S K=wO (ev e x) fun v=>wR (hl (dJ P s u v fr S)) fun r=>K r.1 r.2) ∧
  (∀ (t:TypeId) (l c:Operand) (d:Option Tmp) (ty:TypeId) (pos:String) (aft:Array Edge) (g:Option (Nat×Bool)) (fr:Option Nat) (e:aS) (S:St) (K:KW),iK P C ⟨d,.makeSlice t l c,ty,pos,aft,g⟩ fr e S K=wO (ev e l) fun l=>wO (ev e c) fun c=>wR (hl (dF P t l c fr S)) fun r=>K r.1 r.2) ∧
  (∀ (t:TypeId) (x:Operand) (lo hi:Option Operand) (d:Option Tmp) (ty:TypeId) (pos:String) (aft:Array Edge) (g:Option (Nat×Bool)) (fr:Option Nat) (e:aS) (S:St) (K:KW),iK P C ⟨d,.slice t x lo hi none,ty,pos,aft,g⟩ fr e S K=wO (ev e x) fun v=>wO (evO (ev e) lo) fun l=>wO (evO (ev e) hi) fun h=>wR (hl (gA P t v l h)) fun v=>K v S) ∧
  (∀ (s:TypeId) (x:Operand) (f:Nat) (d:Option Tmp) (ty:TypeId) (pos:String) (aft:Array Edge) (g:Option (Nat×Bool)) (fr:Option Nat) (e:aS) (S:St) (K:KW),iK P C ⟨d,.fieldAddr s x f,ty,pos,aft,g⟩ fr e S K=wO (ev e x) fun p=>wR (hl (dQ P s p f)) fun v=>K v S) ∧
  (∀ (s:TypeId) (x:Operand) (f:Nat) (d:Option Tmp) (ty:TypeId) (pos:String) (aft:Array Edge) (g:Option (Nat×Bool)) (fr:Option Nat) (e:aS) (S:St) (K:KW),iK P C ⟨d,.field s x f,ty,pos,aft,g⟩ fr e S K=wO (ev e x) fun p=>wR (hl (zV P s p f)) fun v=>K v S) ∧
  (∀ (t:TypeId) (x i:Operand) (d:Option Tmp) (ty:TypeId) (pos:String) (aft:Array Edge) (g:Option (Nat×Bool)) (fr:Option Nat) (e:aS) (S:St) (K:KW),iK P C ⟨d,.indexAddr t x i,ty,pos,aft,g⟩ fr e S K=wO (ev e x) fun v=>wO (ev e i) fun k=>wR (hl (dA P t v k)) fun v=>K v S) ∧
  (∀ (t:TypeId) (x i:Operand) (d:Option Tmp) (ty:TypeId) (pos:String) (aft:Array Edge) (g:Option (Nat×Bool)) (fr:Option Nat) (e:aS) (S:St) (K:KW),iK P C ⟨d,.index t x i,ty,pos,aft,g⟩ fr e S K=wO (ev e x) fun v=>wO (ev e i) fun k=>wR (hl (zU P t v k)) fun v=>K v S) ∧
  (∀ (t:TypeId) (x:Operand) (d:Option Tmp) (ty:TypeId) (pos:String) (aft:Array Edge) (g:Option (Nat×Bool)) (fr:Option Nat) (e:aS) (S:St) (K:KW),iK P C ⟨d,.range t x,ty,pos,aft,g⟩ fr e S K=wO (ev e x) fun v=>yN (hl (aEj P t)) (wR (hl (aEk v fr S)) fun r=>K r.1 r.2)) ∧
  (∀ (it:Operand) (isS:Bool) (d:Option Tmp) (ty:TypeId) (pos:String) (aft:Array Edge) (g:Option (Nat×Bool)) (fr:Option Nat) (e:aS) (S:St) (K:KW),iK P C ⟨d,.next it isS,ty,pos,aft,g⟩ fr e S K=wO (ev e it) fun v=>yN (hl isS) (wR (hl (uS v S)) fun r=>K r.1 r.2)) ∧
  (∀ (t:TypeId) (d:Option Tmp) (ty:TypeId) (pos:String) (aft:Array Edge) (g:Option (Nat×Bool)) (fr:Option Nat) (e:aS) (S:St) (K:KW),iK P C ⟨d,.makeMap t none,ty,pos,aft,g⟩ fr e S K=wR (hl (bD fr S (.mp []))) fun r=>K (.mp r.1) r.2) ∧
  (∀ (t:TypeId) (m k:Operand) (ok:Bool) (d:Option Tmp) (ty:TypeId) (pos:String) (aft:Array Edge) (g:Option (Nat×Bool)) (fr:Option Nat) (e:aS) (S:St) (K:KW),iK P C ⟨d,.lookup t m k ok,ty,pos,aft,g⟩ fr e S K=wO (ev e m) fun m=>wO (ev e k) fun k=>wR (hl (tX P t m k ok S)) fun v=>K v S) ∧
  (∀ (t:TypeId) (m k v:Operand) (d:Option Tmp) (ty:TypeId) (pos:String) (aft:Array Edge) (g:Option (Nat×Bool)) (fr:Option Nat) (e:aS) (S:St) (K:KW),iK P C ⟨d,.mapUpdate t m k v,ty,pos,aft,g⟩ fr e S K=wO (ev e m) fun m=>wO (ev e k) fun k=>wO (ev e v) fun v=>wR (hl (lP P t m k v S)) fun S'=>K (.tup []) S') ∧
  (∀ (f:FuncId) (a b:List Operand) (d:Option Tmp) (ty:TypeId) (pos:String) (aft:Array Edge) (g:Option (Nat×Bool)) (fr:Option Nat) (e:aS) (S:St) (K:KW),iK P C ⟨d,.makeFunc (.func f) a.toArray b.toArray,ty,pos,aft,g⟩ fr e S K=wO (oC (ev e) a) fun a=>wO (oC (ev e) b) fun b=>K (.func f a b) S) ∧
  (∀ (x:Operand) (u t:TypeId) (ok:Bool) (d:Option Tmp) (ty:TypeId) (pos:String) (aft:Array Edge) (g:Option (Nat×Bool)) (fr:Option Nat) (e:aS) (S:St) (K:KW),iK P C ⟨d,.typeAssert x u t ok,ty,pos,aft,g⟩ fr e S K=wO (ev e x) fun v=>wR (hl (tY P v t ok)) fun v=>K v S) ∧
  (∀ (t:Operand) (i:Nat) (d:Option Tmp) (ty:TypeId) (pos:String) (aft:Array Edge) (g:Option (Nat×Bool)) (fr:Option Nat) (e:aS) (S:St) (K:KW),iK P C ⟨d,.extract t i,ty,pos,aft,g⟩ fr e S K=wO (ev e t) fun v=>lD (hl v) i fun v=>K v S) ∧
  (∀ (f:FuncId) (a:List Operand) (ts:Array TypeId) (d:Option Tmp) (ty:TypeId) (pos:String) (aft:Array Edge) (g:Option (Nat×Bool)) (fr:Option Nat) (e:aS) (S:St) (K:KW),iK P C ⟨d,.call ⟨.value (.func f),a.toArray,ts⟩,ty,pos,aft,g⟩ fr e S K=wO (oC (ev e) a) fun args=>jL P C f args S K) ∧
  (∀ (t:Tmp) (a:List Operand) (ts:Array TypeId) (d:Option Tmp) (ty:TypeId) (pos:String) (aft:Array Edge) (g:Option (Nat×Bool)) (fr:Option Nat) (e:aS) (S:St) (K:KW),iK P C ⟨d,.call ⟨.value (.tmp t),a.toArray,ts⟩,ty,pos,aft,g⟩ fr e S K=wO (ev e (.tmp t)) fun v=>wO (oC (ev e) a) fun args=>aO8 P C v args S K) ∧
  (∀ (x:Operand) (t:TypeId) (ts:List TypeId) (d:Option Tmp) (ty:TypeId) (pos:String) (aft:Array Edge) (g:Option (Nat×Bool)) (fr:Option Nat) (e:aS) (S:St) (K:KW),iK P C ⟨d,.call ⟨.builtin .len,[x].toArray,(t::ts).toArray⟩,ty,pos,aft,g⟩ fr e S K=wO (ev e x) fun x=>wR (hl (vS P t x S)) fun v=>K v S) ∧
  (∀ (a:List Operand) (ts:Array TypeId) (d:Option Tmp) (ty:TypeId) (pos:String) (aft:Array Edge) (g:Option (Nat×Bool)) (fr:Option Nat) (e:aS) (S:St) (K:KW),iK P C ⟨d,.call ⟨.builtin .min,a.toArray,ts⟩,ty,pos,aft,g⟩ fr e S K=wO (oC (ev e) a) fun args=>wR (hl (aNn args)) fun v=>K v S) ∧
  (∀ (a:List Operand) (ts:Array TypeId) (d:Option Tmp) (ty:TypeId) (pos:String) (aft:Array Edge) (g:Option (Nat×Bool)) (fr:Option Nat) (e:aS) (S:St) (K:KW),iK P C ⟨d,.call ⟨.builtin .max,a.toArray,ts⟩,ty,pos,aft,g⟩ fr e S K=wO (oC (ev e) a) fun args=>wR (hl (aNo args)) fun v=>K v S) ∧
  (∀ (s x:Operand) (t u:TypeId) (ts:List TypeId) (d:Option Tmp) (ty:TypeId) (pos:String) (aft:Array Edge) (g:Option (Nat×Bool)) (fr:Option Nat) (e:aS) (S:St) (K:KW),iK P C ⟨d,.call ⟨.builtin .append,[s,x].toArray,(t::u::ts).toArray⟩,ty,pos,aft,g⟩ fr e S K=wO (ev e s) fun s=>wO (ev e x) fun x=>yN (hl (qK P u)) (wR (hl (fO P t s x fr S)) fun r=>K r.1 r.2)) ∧
  (∀ (x:Operand) (t:TypeId) (ts:List TypeId) (d:Option Tmp) (ty:TypeId) (pos:String) (aft:Array Edge) (g:Option (Nat×Bool)) (fr:Option Nat) (e:aS) (S:St) (K:KW),iK P C ⟨d,.call ⟨.builtin .clear,[x].toArray,(t::ts).toArray⟩,ty,pos,aft,g⟩ fr e S K=wO (ev e x) fun x=>wR (hl (zW P t x S)) fun r=>K r.1 r.2) ∧
  (∀ (s x:Operand) (t:TypeId) (ts:List TypeId) (d:Option Tmp) (ty:TypeId) (pos:String) (aft:Array Edge) (g:Option (Nat×Bool)) (fr:Option Nat) (e:aS) (S:St) (K:KW),iK P C ⟨d,.call ⟨.builtin .copy,[s,x].toArray,(t::ts).toArray⟩,ty,pos,aft,g⟩ fr e S K=wO (ev e s) fun s=>wO (ev e x) fun x=>wR (hl (copyV P t s x S)) fun r=>K r.1 r.2):=by
 refine ⟨?_,?_,?_,?_,?_,?_,?_,?_,?_,?_,?_,?_,?_,?_,?_,?_,?_,?_,?_,?_,?_,?_,?_,?_,?_,?_,?_,?_,?_,?_,?_,?_,?_,?_,?_,?_,?_,?_,?_,?_,?_,?_,?_,?_,?_,?_,?_,?_,?_,?_,?_⟩
 all_goals intros
 all_goals first
  | rfl
  | (simp only [hl];refine (aT3 _ _ _).trans (aAs _ fun v=>?_);simp only [wK,List.getElem?_toArray,List.getElem?_cons_zero,wO])
  | (simp only [hl];refine (aJc _ _ _ _).trans (aAs _ fun v=>aAs _ fun w=>?_);simp only [wK,List.getElem?_toArray,List.getElem?_cons_zero,List.getElem?_cons_succ,wO,qK];split<;>simp [yN, *];done)
  | (simp only [hl];refine (aJc _ _ _ _).trans (aAs _ fun v=>aAs _ fun w=>?_);simp only [wK,List.getElem?_toArray,List.getElem?_cons_zero,wO];done)
  | (simp only [iK,ev,aO8,wO,List.nil_append,List.append_nil];done)
  | skip
def pM (j:Nat) (sk:List Nat) (x y:Prop):Prop:=match aO5 j sk with
 | true=>x
 | false=>y
theorem aUc {i j:Nat} (h:¬ j=i) (l:List Nat) (x y:Prop):pM j (i::l) x y=pM j l x y:=by simp only [pM,aO5,aGe (Ne.symm h)]
theorem bA2 {i j:Nat} (h:j<i) (l:List Nat) (x y:Prop):pM j (i::l) x y=pM j l x y:=aUc (Nat.ne_of_lt h) l x y
theorem aUd {i j:Nat} (h:i<j) (l:List Nat) (x y:Prop):pM j (i::l) x y=pM j l x y:=aUc (Nat.ne_of_gt h) l x y
theorem aOq {i j:Nat} (h:¬ j=i) (l:List Nat) (r:List (Nat×List Nat)) (K:List Nat→Prop):wLv ((i,l)::r) j K=wLv r j K:=by simp only [wLv,aGe (Ne.symm h)]
theorem aUe {i j:Nat} (h:j<i) (l:List Nat) (r:List (Nat×List Nat)) (K:List Nat→Prop):wLv ((i,l)::r) j K=wLv r j K:=aOq (Nat.ne_of_lt h) l r K
theorem aOr {i j:Nat} (h:i<j) (l:List Nat) (r:List (Nat×List Nat)) (K:List Nat→Prop):wLv ((i,l)::r) j K=wLv r j K:=aOq (Nat.ne_of_gt h) l r K
theorem aOs {i j:Nat} (h:¬ j=i) (l:List bH) (r:List (Nat×List bH)) (K:List bH→Prop) (x:Prop):wSt ((i,l)::r) j K x=wSt r j K x:=by simp only [wSt,aGe (Ne.symm h)]
theorem aUf {i j:Nat} (h:j<i) (l:List bH) (r:List (Nat×List bH)) (K:List bH→Prop) (x:Prop):wSt ((i,l)::r) j K x=wSt r j K x:=aOs (Nat.ne_of_lt h) l r K x
theorem aOt {i j:Nat} (h:i<j) (l:List bH) (r:List (Nat×List bH)) (K:List bH→Prop) (x:Prop):wSt ((i,l)::r) j K x=wSt r j K x:=aOs (Nat.ne_of_gt h) l r K x
theorem aJe {i j:Nat} (h:¬ j=i) (Kn:lC) (Kx:KXW) (e:aS) (S:St):aI9 i Kn Kx j e S=Kx j e S:=by simp only [aI9,aGe h]
theorem aOu {i j:Nat} (h:j<i) (Kn:lC) (Kx:KXW) (e:aS) (S:St):aI9 i Kn Kx j e S=Kx j e S:=aJe (Nat.ne_of_lt h) Kn Kx e S
theorem aJf {i j:Nat} (h:i<j) (Kn:lC) (Kx:KXW) (e:aS) (S:St):aI9 i Kn Kx j e S=Kx j e S:=aJe (Nat.ne_of_gt h) Kn Kx e S
theorem aOv {d n:Nat} (h:d<n) (e:aS) (v:V) (K:aS→Prop):pK n (some d) e v K=K (e.put d v):=by simp only [pK,show Nat.blt d n=true by rw [Nat.blt_eq];exact h]
theorem aIa (i:Nat):Nat.beq i i=true:=Nat.beq_refl i
theorem aD0 {i j:Nat} (h:¬ i=j) (P:Program) (C:aT) (ops:Array Oper) (S:St) (K:Prop) (o:Oper) (e:aS) (ran:Bool) (v:V) (recs:List pN):eA P C ops i S K (uV P o j e ran v recs)=eA P C ops i S K recs:=by
 unfold uV
 split
 ·simp only [eA,aGe h]
 ·rfl
theorem aGj {i j:Nat} (h:i<j) (P:Program) (C:aT) (ops:Array Oper) (S:St) (K:Prop) (o:Oper) (e:aS) (ran:Bool) (v:V) (recs:List pN):eA P C ops i S K (uV P o j e ran v recs)=eA P C ops i S K recs:=aD0 (Nat.ne_of_lt h) P C ops S K o e ran v recs
theorem aD1 {i j:Nat} (h:j<i) (P:Program) (C:aT) (ops:Array Oper) (S:St) (K:Prop) (o:Oper) (e:aS) (ran:Bool) (v:V) (recs:List pN):eA P C ops i S K (uV P o j e ran v recs)=eA P C ops i S K recs:=aD0 (Nat.ne_of_gt h) P C ops S K o e ran v recs
theorem aOw (K:List bH→Prop) (x:Prop) (id:Nat):∀ t:List (Nat×List bH),wSt t id K x=(match dI t id with
  | some l=>K l
  | none=>x)
 | []=>rfl
 | (i,l)::r=>by
  have ih:=aOw K x id r
  unfold dI at ih ⊢
  by_cases h:i=id
  ·subst h;simp only [wSt,gL,aIa,cond_true]
  ·simp only [wSt,gL,aGe h,aGe (Ne.symm h),cond_false,ih]
theorem aD2 (P:Program) (C:aT) (n:Nat) (tp:List (Nat×List bH)) (lv:Nat→List Nat) (id:Nat) (l:List Oper) (e:aS) (S:St) (Kn:lC) (Kx:KXW) (Kr:lC):
  eF P C n (dI tp) lv (.region id l.toArray true) e S Kn Kx Kr=wLn l [0,1,2,3,4,5,6,7,8,9,10,11,12,13,14,15,16,17,18,19,20,21,22,23,24,25,26,27,28,29,30,31,32,33,34,35,36,37,38,39,40,41,42,43,44,45,46,47,48,49,50,51,52,53,54,55,56,57,58,59,60,61,62,63,64,65,66,67,68,69,70,71,72,73,74,75,76,77,78,79,80,81,82,83,84,85,86,87,88,89,90,91,92,93,94,95,96,97,98,99,100,101,102,103,104,105,106,107,108,109,110,111,112,113,114,115,116,117,118,119,120,121,122,123,124,125,126,127,128,129,130,131,132,133,134,135,136,137,138,139,140,141,142,143,144,145,146,147,148,149,150,151,152,153,154,155,156,157,158,159,160] 0 fun k=>wSt tp id (fun st=>pE P C n l.toArray S.next st [] [] e ⟨S.next+k,S.heap⟩ Kn) (uZ P C n l.toArray S.next l [0,1,2,3,4,5,6,7,8,9,10,11,12,13,14,15,16,17,18,19,20,21,22,23,24,25,26,27,28,29,30,31,32,33,34,35,36,37,38,39,40,41,42,43,44,45,46,47,48,49,50,51,52,53,54,55,56,57,58,59,60,61,62,63,64,65,66,67,68,69,70,71,72,73,74,75,76,77,78,79,80,81,82,83,84,85,86,87,88,89,90,91,92,93,94,95,96,97,98,99,100,101,102,103,104,105,106,107,108,109,110,111,112,113,114,115,116,117,118,119,120,121,122,123,124,125,126,127,128,129,130,131,132,133,134,135,136,137,138,139,140,141,142,143,144,145,146,147,148,149,150,151,152,153,154,155,156,157,158,159,160] 0 [] e ⟨S.next+k,S.heap⟩ Kn):=by
 have hu:tG 0 [0,1,2,3,4,5,6,7,8,9,10,11,12,13,14,15,16,17,18,19,20,21,22,23,24,25,26,27,28,29,30,31,32,33,34,35,36,37,38,39,40,41,42,43,44,45,46,47,48,49,50,51,52,53,54,55,56,57,58,59,60,61,62,63,64,65,66,67,68,69,70,71,72,73,74,75,76,77,78,79,80,81,82,83,84,85,86,87,88,89,90,91,92,93,94,95,96,97,98,99,100,101,102,103,104,105,106,107,108,109,110,111,112,113,114,115,116,117,118,119,120,121,122,123,124,125,126,127,128,129,130,131,132,133,134,135,136,137,138,139,140,141,142,143,144,145,146,147,148,149,150,151,152,153,154,155,156,157,158,159,160]:=by simp only [tG,and_self]
 generalize [0,1,2,3,4,5,6,7,8,9,10,11,12,13,14,15,16,17,18,19,20,21,22,23,24,25,26,27,28,29,30,31,32,33,34,35,36,37,38,39,40,41,42,43,44,45,46,47,48,49,50,51,52,53,54,55,56,57,58,59,60,61,62,63,64,65,66,67,68,69,70,71,72,73,74,75,76,77,78,79,80,81,82,83,84,85,86,87,88,89,90,91,92,93,94,95,96,97,98,99,100,101,102,103,104,105,106,107,108,109,110,111,112,113,114,115,116,117,118,119,120,121,122,123,124,125,126,127,128,129,130,131,132,133,134,135,136,137,138,139,140,141,142,143,144,145,146,147,148,149,150,151,152,153,154,155,156,157,158,159,160]=ks at hu ⊢
 rw [aI6 _ _ _ _ hu,aOw,Nat.zero_add]
 simp only [eF,List.size_toArray]
 cases dI tp id with
 | some st=>rfl
 | none=>
  show pE P C n l.toArray S.next (aFe l.length) [] [] e _ Kn=_
  rw [aGi]
  exact aAr P C n l.toArray S.next Kn l ks 0 [] [] e _ hu fun k=>by simp
theorem aD3 (P:Program) (C:aT) (n:Nat) (p:Nat→Option (List bH)) (tl:List (Nat×List Nat)) (a:Code) (e:aS) (S:St) (Kn:lC) (Kx:KXW) (Kr:lC):
  eF P C n p (eG tl) (.loop a) e S Kn Kx Kr=wLv tl (bE a) fun ts=>lW e ts fun vs=>iJ (hl vs) S (aU8 P C n p (eG tl) a e Kx Kr):=by rw [aI7];rfl
theorem aOx (P:Program) (C:aT) (n:Nat) (p:Nat→Option (List bH)) (tl:List (Nat×List Nat)) (a:Code) (e:aS) (Kx:KXW) (Kr:lC) (vs:List V) (S:St) (aF:List V→St→Prop):
  aU8 P C n p (eG tl) a e Kx Kr vs S aF=wLv tl (bE a) fun ts=>aEl ts vs (e.filt fun t=>!lB a t) fun e=>eF P C n p (eG tl) a e S (fun e S=>lW e ts fun vs=>aF vs S) Kx Kr:=by rw [aI7];rfl
theorem aJg (P:Program) (C:aT):
  (∀ (n:Nat) (p:Nat→Option (List bH)) (lv:Nat→List Nat) (e:aS) (S:St) (Kn:lC) (Kx:KXW) (Kr:lC),eF P C n p lv .skip e S Kn Kx Kr=Kn e S) ∧
  (∀ (n:Nat) (p:Nat→Option (List bH)) (lv:Nat→List Nat) (l:Nat) (e:aS) (S:St) (Kn:lC) (Kx:KXW) (Kr:lC),eF P C n p lv (.label l) e S Kn Kx Kr=Kn e S) ∧
  (∀ (n:Nat) (p:Nat→Option (List bH)) (lv:Nat→List Nat) (id:Nat) (e:aS) (S:St) (Kn:lC) (Kx:KXW) (Kr:lC),eF P C n p lv (.exit id) e S Kn Kx Kr=Kx id e S) ∧
  (∀ (n:Nat) (p:Nat→Option (List bH)) (lv:Nat→List Nat) (e:aS) (S:St) (Kn:lC) (Kx:KXW) (Kr:lC),eF P C n p lv .ret e S Kn Kx Kr=Kr e S) ∧
  (∀ (n:Nat) (p:Nat→Option (List bH)) (lv:Nat→List Nat) (id:Nat) (l:List Oper) (e:aS) (S:St) (Kn:lC) (Kx:KXW) (Kr:lC),eF P C n p lv (.region id l.toArray false) e S Kn Kx Kr=aEm P C n l.toArray l [0,1,2,3,4,5,6,7,8,9,10,11,12,13,14,15,16,17,18,19,20,21,22,23,24,25,26,27,28,29,30,31,32,33,34,35,36,37,38,39,40,41,42,43,44,45,46,47,48,49,50,51,52,53,54,55,56,57,58,59,60,61,62,63,64,65,66,67,68,69,70,71,72,73,74,75,76,77,78,79,80,81,82,83,84,85,86,87,88,89,90,91,92,93,94,95,96,97,98,99,100,101,102,103,104,105,106,107,108,109,110,111,112,113,114,115,116,117,118,119,120,121,122,123,124,125,126,127,128,129,130,131,132,133,134,135,136,137,138,139,140,141,142,143,144,145,146,147,148,149,150,151,152,153,154,155,156,157,158,159,160] 0 [] e S Kn) ∧
  (∀ (n:Nat) (p:Nat→Option (List bH)) (lv:Nat→List Nat) (a b:Code) (e:aS) (S:St) (Kn:lC) (Kx:KXW) (Kr:lC),eF P C n p lv (.seq a b) e S Kn Kx Kr=eF P C n p lv a e S (fun e S=>eF P C n p lv b e S Kn Kx Kr) Kx Kr) ∧
  (∀ (n:Nat) (p:Nat→Option (List bH)) (lv:Nat→List Nat) (c:Operand) (a b:Code) (e:aS) (S:St) (Kn:lC) (Kx:KXW) (Kr:lC),eF P C n p lv (.cond c a b) e S Kn Kx Kr=wO (ev e c) fun v=>aV (hl v) (eF P C n p lv a (xL e c true) S Kn Kx Kr) (eF P C n p lv b (xL e c false) S Kn Kx Kr)) ∧
  (∀ (n:Nat) (p:Nat→Option (List bH)) (lv:Nat→List Nat) (id:Nat) (a:Code) (e:aS) (S:St) (Kn:lC) (Kx:KXW) (Kr:lC),eF P C n p lv (.block id a) e S Kn Kx Kr=eF P C n p lv a e S Kn (aI9 id Kn Kx) Kr) ∧
  (∀ (n:Nat) (ops:Array Oper) (ks:List Nat) (i:Nat) (sk:List Nat) (e:aS) (S:St) (K:lC),aEm P C n ops [] ks i sk e S K=K e S) ∧
  (∀ (n:Nat) (ops:Array Oper) (o:Oper) (l:List Oper) (k i:Nat) (ks sk:List Nat) (e:aS) (S:St) (K:lC),aEm P C n ops (o::l) (k::ks) i sk e S K=jD P C n ops sk o none e S fun ran _ e' S'=>aEm P C n ops l ks (i+1) (uU ran k sk) e' S' K) ∧
  (∀ (n:Nat) (ops:Array Oper) (b:Nat) (ks:List Nat) (i:Nat) (sk:List Nat) (e:aS) (S:St) (K:lC),uZ P C n ops b [] ks i sk e S K=K e S) ∧
  (∀ (n:Nat) (ops:Array Oper) (o:Oper) (l:List Oper) (b k i:Nat) (ks:List Nat) (sk:List Nat) (e:aS) (S:St) (K:lC),uZ P C n ops b (o::l) (k::ks) i sk e S K=jD P C n ops sk o (some (b+k)) e S fun ran _ e' S'=>uZ P C n ops b l ks (i+1) (uU ran k sk) e' S' K) ∧
  (∀ (n:Nat) (ops:Array Oper) (b:Nat) (sk:List Nat) (recs:List pN) (e:aS) (S:St) (K:lC),pE P C n ops b [] sk recs e S K=K e S) ∧
  (∀ (n:Nat) (ops:List Oper) (i:Nat) (re:List Nat) (l:List bH) (b:Nat) (sk:List Nat) (recs:List pN) (e:aS) (S:St) (K:lC),pE P C n ops.toArray b ((i,re)::l) sk recs e S K=wI ops i fun o=>jD P C n ops.toArray sk o (some (b+i)) e S fun ran v e' S'=>oP P C ops.toArray recs S' (pE P C n ops.toArray b l (uU ran i sk) (uV P o i e ran v recs) e' S' K) re) ∧
  (∀ (ops:Array Oper) (recs:List pN) (S:St) (K:Prop),oP P C ops recs S K []=K) ∧
  (∀ (ops:Array Oper) (recs:List pN) (S:St) (K:Prop) (i:Nat) (l:List Nat),oP P C ops recs S K (i::l)=eA P C ops i S (oP P C ops recs S K l) recs) ∧
  (∀ (ops:Array Oper) (i:Nat) (S:St) (K:Prop),eA P C ops i S K []=K) ∧
  (∀ (ops:List Oper) (i:Nat) (S:St) (K:Prop) (d t:Nat) (a:Operand) (ty:TypeId) (pos:String) (aft:Array Edge) (g:Option (Nat×Bool)) (e:aS) (v:V) (recs:List pN),eA P C ops.toArray i S K (uV P ⟨some d,.load t a,ty,pos,aft,g⟩ i e true v recs)=wI ops i fun o=>iK P C o none e S fun v' _=>yN (hl (fV v v')) K) ∧
  (∀ (ops:List Oper) (i:Nat) (S:St) (K:Prop) (d:Nat) (a:Array Operand) (ts:Array TypeId) (ty:TypeId) (pos:String) (aft:Array Edge) (g:Option (Nat×Bool)) (e:aS) (v:V) (recs:List pN),eA P C ops.toArray i S K (uV P ⟨some d,.call ⟨.builtin .len,a,ts⟩,ty,pos,aft,g⟩ i e true v recs)=wI ops i fun o=>iK P C o none e S fun v' _=>yN (hl (fV v v')) K) ∧
  (∀ (o:Oper) (i:Nat) (e:aS) (v:V) (recs:List pN) (ops:Array Oper) (S:St) (K:Prop),eA P C ops i S K (uV P o i e false v recs)=eA P C ops i S K recs) ∧
  (∀ (n:Nat) (ops:Array Oper) (sk:List Nat) (d:Option Tmp) (op:Op) (ty:TypeId) (pos:String) (aft:Array Edge) (fr:Option Nat) (e:aS) (S:St) (K:Bool→V→aS→St→Prop),jD P C n ops sk ⟨d,op,ty,pos,aft,none⟩ fr e S K=iK P C ⟨d,op,ty,pos,aft,none⟩ fr e S fun v S'=>pK n d e v fun e'=>K true v e' S') ∧
  (∀ (n:Nat) (ops:List Oper) (sk:List Nat) (d:Option Tmp) (op:Op) (ty:TypeId) (pos:String) (aft:Array Edge) (j:Nat) (fr:Option Nat) (e:aS) (S:St) (K:Bool→V→aS→St→Prop),jD P C n ops.toArray sk ⟨d,op,ty,pos,aft,some (j,true)⟩ fr e S K=wG ops j fun s=>wO (e.get s) fun v=>pM j sk (aLy v (pK n d e (.tup []) fun e'=>K false (.tup []) e' S)) (aV (hl v) (iK P C ⟨d,op,ty,pos,aft,some (j,true)⟩ fr (e.put s (.bool true)) S fun v S'=>pK n d (e.put s (.bool true)) v fun e'=>K true v e' S') (pK n d (e.put s (.bool false)) (.tup []) fun e'=>K false (.tup []) e' S))) ∧
  (∀ (n:Nat) (ops:List Oper) (sk:List Nat) (d:Option Tmp) (op:Op) (ty:TypeId) (pos:String) (aft:Array Edge) (j:Nat) (fr:Option Nat) (e:aS) (S:St) (K:Bool→V→aS→St→Prop),jD P C n ops.toArray sk ⟨d,op,ty,pos,aft,some (j,false)⟩ fr e S K=wG ops j fun s=>wO (e.get s) fun v=>pM j sk (aLy v (pK n d e (.tup []) fun e'=>K false (.tup []) e' S)) (aV (hl v) (pK n d (e.put s (.bool true)) (.tup []) fun e'=>K false (.tup []) e' S) (iK P C ⟨d,op,ty,pos,aft,some (j,false)⟩ fr (e.put s (.bool false)) S fun v S'=>pK n d (e.put s (.bool false)) v fun e'=>K true v e' S'))) ∧
  (∀ (n:Nat) (e:aS) (v:V) (K:aS→Prop),pK n none e v K=K e) ∧
  (∀ (rs:List ResultVar) (K:KW) (e:aS) (S:St),aLz P rs K e S=aC3 P e S rs fun vs=>K (oI vs) S) ∧
  (∀ (e:aS) (S:St) (K:List V→Prop),aC3 P e S [] K=K []) ∧
  (∀ (e:aS) (S:St) (t:Tmp) (l:List ResultVar) (K:List V→Prop),aC3 P e S (.tmp t::l) K=wO (e.get t) fun v=>aC3 P e S l fun vs=>K (v::vs)) ∧
  (∀ (e:aS) (S:St) (a:Tmp) (t:TypeId) (l:List ResultVar) (K:List V→Prop),aC3 P e S (.cell a t::l) K=wO (e.get a) fun p=>wR (hl (kO P t p S)) fun v=>aC3 P e S l fun vs=>K (v::vs)) ∧
  (∀ (f:FuncId) (a b args:List V) (S:St) (K:KW),aO8 P C (.func f a b) args S K=jL P C f (a++args++b) S K):=by
 refine ⟨fun n _ _ _ _ _ _ _=>rfl,fun n _ _ _ _ _ _ _ _=>rfl,fun n _ _ _ _ _ _ _ _=>rfl,fun n _ _ _ _ _ _ _=>rfl,fun n p lv id l e S Kn Kx Kr=>aEn P C n l.toArray Kn l _ 0 [] e S (by simp only [tG,and_self]),fun n _ _ _ _ _ _ _ _ _=>rfl,fun n _ _ _ _ _ _ _ _ _ _=>rfl,fun n _ _ _ _ _ _ _ _ _=>rfl,fun n ops ks i sk e S K=>by cases ks<;>rfl,fun n _ _ _ _ _ _ _ _ _ _=>rfl,fun n ops b ks i sk e S K=>by cases ks<;>rfl,fun n _ _ _ _ _ _ _ _ _ _ _=>rfl,fun n _ _ _ _ _ _ _=>rfl,fun n ops i re l b sk recs e S K=>?_,fun _ _ _ _=>rfl,fun _ _ _ _ _ _=>rfl,fun _ _ _ _=>rfl,fun ops i S K d t a ty pos aft g e v recs=>?_,fun ops i S K d a ts ty pos aft g e v recs=>?_,fun o i e v recs ops S K=>?_,fun n _ _ _ _ _ _ _ _ _ _ _=>rfl,fun n ops sk d op ty pos aft j fr e S K=>?_,fun n ops sk d op ty pos aft j fr e S K=>?_,fun n _ _ _=>rfl,fun _ _ _ _=>rfl,fun _ _ _=>rfl,fun _ _ _ _ _=>rfl,fun _ _ _ _ _ _=>rfl,fun _ _ _ _ _ _=>rfl⟩
 ·rw [pE,aCz]
 ·simp only [uV,dZ,aIa,Bool.and_true,Option.isSome,eA,hl];rw [aCz]
 ·simp only [uV,dZ,aIa,Bool.and_true,Option.isSome,eA,hl];rw [aCz]
 ·simp only [uV,Bool.and_false,Bool.false_and]
 ·simp only [jD,doW,aCv,pM];rw [aOm];rfl
 ·simp only [jD,doW,aCv,pM];rw [aOm];rfl
theorem aJh:(∀ (k:Nat) (ks:List Nat) (i:Nat) (K:Nat→Prop),wLn [] (k::ks) i K=K k)∧(∀ (o:Oper) (l:List Oper) (k:Nat) (ks:List Nat) (i:Nat) (K:Nat→Prop),wLn (o::l) (k::ks) i K=wLn l ks (i+1) K)∧(∀ (j:Nat) (x y:Prop),pM j [] x y=y)∧(∀ (j i:Nat) (l:List Nat) (x y:Prop),pM j (uU true i l) x y=pM j l x y)∧(∀ (j i:Nat) (l:List Nat) (x y:Prop),pM j (uU false i l) x y=pM j (i::l) x y)∧(∀ (j:Nat) (l:List Nat) (x y:Prop),pM j (j::l) x y=x) ∧
  (∀ (j:Nat) (K:List Nat→Prop),wLv [] j K=K [])∧(∀ (j:Nat) (l:List Nat) (r:List (Nat×List Nat)) (K:List Nat→Prop),wLv ((j,l)::r) j K=K l)∧(∀ (j:Nat) (K:List bH→Prop) (x:Prop),wSt [] j K x=x)∧(∀ (j:Nat) (l:List bH) (r:List (Nat×List bH)) (K:List bH→Prop) (x:Prop),wSt ((j,l)::r) j K x=K l) ∧
  (∀ (o:Oper) (l:List Oper) (K:Nat→Prop),wG (o::l) 0 K=wO o.dst K)∧(∀ (o:Oper) (l:List Oper) (j:Nat) (K:Nat→Prop),wG (o::l) (j+1) K=wG l j K)∧(∀ (o:Oper) (l:List Oper) (K:Oper→Prop),wI (o::l) 0 K=K o)∧(∀ (o:Oper) (l:List Oper) (j:Nat) (K:Oper→Prop),wI (o::l) (j+1) K=wI l j K) ∧
  (∀ (d:Nat) (op:Op) (ty:TypeId) (pos:String) (aft:Array Edge) (g:Option (Nat×Bool)) (K:Nat→Prop),wO (Oper.dst ⟨some d,op,ty,pos,aft,g⟩) K=K d) ∧
  (∀ (i:Nat) (Kn:lC) (Kx:KXW) (e:aS) (S:St),aI9 i Kn Kx i e S=Kn e S)∧(∀ (e:aS) (K:List V→Prop),lW e [] K=K [])∧(∀ (e:aS) (t:Nat) (l:List Nat) (K:List V→Prop),lW e (t::l) K=wO (e.get t) fun v=>lW e l fun vs=>K (v::vs)) ∧
  (∀ (vs:List V) (e:aS) (K:aS→Prop),aEl [] vs e K=K e)∧(∀ (t:Nat) (l:List Nat) (v:V) (vs:List V) (e:aS) (K:aS→Prop),aEl (t::l) (v::vs) e K=aEl l vs (e.put t v) K)∧(eK 0 [] .nil=.nil)∧(∀ a0:V,eK 0 [a0] .nil=(Tr.put .nil 0 a0))∧(∀ a0 a1:V,eK 0 [a0,a1] .nil=((Tr.put .nil 0 a0).put 1 a1))∧(∀ a0 a1 a2:V,eK 0 [a0,a1,a2] .nil=(((Tr.put .nil 0 a0).put 1 a1).put 2 a2))∧(∀ a0 a1 a2 a3:V,eK 0 [a0,a1,a2,a3] .nil=((((Tr.put .nil 0 a0).put 1 a1).put 2 a2).put 3 a3))∧(∀ a0 a1 a2 a3 a4:V,eK 0 [a0,a1,a2,a3,a4] .nil=(((((Tr.put .nil 0 a0).put 1 a1).put 2 a2).put 3 a3).put 4 a4))∧(∀ a0 a1 a2 a3 a4 a5:V,eK 0 [a0,a1,a2,a3,a4,a5] .nil=((((((Tr.put .nil 0 a0).put 1 a1).put 2 a2).put 3 a3).put 4 a4).put 5 a5))∧(∀ a0 a1 a2 a3 a4 a5 a6:V,eK 0 [a0,a1,a2,a3,a4,a5,a6] .nil=(((((((Tr.put .nil 0 a0).put 1 a1).put 2 a2).put 3 a3).put 4 a4).put 5 a5).put 6 a6))∧(∀ a0 a1 a2 a3 a4 a5 a6 a7:V,eK 0 [a0,a1,a2,a3,a4,a5,a6,a7] .nil=((((((((Tr.put .nil 0 a0).put 1 a1).put 2 a2).put 3 a3).put 4 a4).put 5 a5).put 6 a6).put 7 a7)) ∧
  (∀ (i:Nat) (sk:List Nat),uU true i sk=sk)∧(∀ (i:Nat) (sk:List Nat),uU false i sk=i::sk)∧(∀ (e:aS) (t:Nat) (b:Bool),xL e (.tmp t) b=e.put t (.bool b))∧(∀ (e:aS) (v:Value) (b:Bool),xL e (.const v) b=e)∧(∀ v:V,oI [v]=v)∧oI []=.tup []∧(∀ (v w:V) (l:List V),oI (v::w::l)=.tup (v::w::l)) ∧
  (∀ (l:List V) (x:Prop),aLy (.tup l) x=x)∧(∀ a b:Code,bE (.seq a b)=bE a)∧(∀ (i:Nat) (a:Code),bE (.block i a)=bE a)∧(∀ (id:Nat) (ops:Array Oper) (d:Bool),bE (.region id ops d)=id)∧(∀ a:Code,bE (.loop a)=bE a)∧(∀ (c:Operand) (a b:Code),bE (.cond c a b)=0)∧(∀ x y:Prop,aV (hl (.bool true)) x y=x)∧(∀ x y:Prop,aV (hl (.bool false)) x y=y)∧(true=true)=True∧(false=true)=False∧(∀ a b:V,aG6 (.bool true) a b=.ok a)∧(∀ a b:V,aG6 (.bool false) a b=.ok b):=by
 refine ⟨fun _ _ _ _=>rfl,fun _ _ _ _ _ _=>rfl,fun _ _ _=>rfl,fun _ _ _ _ _=>rfl,fun _ _ _ _ _=>rfl,fun j l x y=>by simp only [pM,aO5,aIa],fun _ _=>rfl,fun j l r K=>by simp only [wLv,aIa],fun _ _ _=>rfl,fun j l r K x=>by simp only [wSt,aIa],fun _ _ _=>rfl,fun _ _ _ _=>rfl,fun _ _ _=>rfl,fun _ _ _ _=>rfl,fun _ _ _ _ _ _ _=>rfl,fun i Kn Kx e S=>by simp only [aI9,aIa],fun _ _=>rfl,fun _ _ _ _=>rfl,fun _ _ _=>rfl,fun _ _ _ _ _ _=>rfl,rfl,fun _=>rfl,fun _ _=>rfl,fun _ _ _=>rfl,fun _ _ _ _=>rfl,fun _ _ _ _ _=>rfl,fun _ _ _ _ _ _=>rfl,fun _ _ _ _ _ _ _=>rfl,fun _ _ _ _ _ _ _ _=>rfl,fun _ _=>rfl,fun _ _=>rfl,fun _ _ _=>rfl,fun _ _ _=>rfl,fun _=>rfl,rfl,fun _ _ _=>rfl,fun _ _=>rfl,fun _ _=>rfl,fun _ _=>rfl,fun _ _ _=>rfl,fun _=>rfl,fun _ _ _=>rfl,fun _ _=>rfl,fun _ _=>rfl,by simp,by simp,fun _ _=>rfl,fun _ _=>rfl⟩
theorem aJi (P:Program):(∀ (t:TypeId) (i j:Nat) (a b:V),fZ P t (.tmp i) (.tmp j) a b=bI P t a b)∧(∀ (t:TypeId) (x:Operand) (c:Value) (i:TypeId) (v:V),fZ P t x (.const c) (.iface i v) .nili=true) ∧
  (∀ (t:TypeId) (x y:Operand) (a:V) (k:IntKind) (n:Int),fZ P t x y a (.int k n)=bI P t a (.int k n))∧(∀ (t:TypeId) (x y:Operand) (a:V) (s:List UInt8),fZ P t x y a (.str s)=bI P t a (.str s))∧(∀ (t:TypeId) (x y:Operand) (a:V) (b:Bool),fZ P t x y a (.bool b)=bI P t a (.bool b)) ∧
  (∀ (t:TypeId) (x y:Operand) (a:V) (l:List V),fZ P t x y a (.agg l)=bI P t a (.agg l))∧(∀ (t:TypeId) (x y:Operand) (a:V),fZ P t x y a .nilp=bI P t a .nilp)∧(∀ (t:TypeId) (x y:Operand) (a:V),fZ P t x y a .nils=bI P t a .nils)∧(∀ (t:TypeId) (x y:Operand) (a:V),fZ P t x y a .nilf=bI P t a .nilf)∧(∀ (t:TypeId) (x y:Operand) (a:V),fZ P t x y a .nilm=bI P t a .nilm):=
 have key:∀ (t:TypeId) (x y:Operand) (a b:V),aLi x y a b=false→fZ P t x y a b=bI P t a b:=fun t x y a b h=>by
  unfold fZ
  split
  ·rw [h,Bool.or_false]
  ·rfl
 ⟨fun t i j a b=>key _ _ _ _ _ (by unfold aLi;cases b<;>first | rfl | (cases a<;>rfl)),fun t x c i v=>(key _ _ _ _ _ rfl).trans rfl,
  fun _ _ _ _ _ _=>key _ _ _ _ _ rfl,fun _ _ _ _ _=>key _ _ _ _ _ rfl,fun _ _ _ _ _=>key _ _ _ _ _ rfl,fun _ _ _ _ _=>key _ _ _ _ _ rfl,fun _ _ _ _=>key _ _ _ _ _ rfl,fun _ _ _ _=>key _ _ _ _ _ rfl,fun _ _ _ _=>key _ _ _ _ _ rfl,fun _ _ _ _=>key _ _ _ _ _ rfl⟩
def xW (P:Program) (C:aT) (fn:Func) (tp:List (Nat×List bH)) (tl:List (Nat×List Nat)) (args:List V) (S:St) (K:KW):Prop:=aO9 P C (dI tp) (eG tl) args S K (fn.body.getD .skip) fn.ntmps fn.results.toList
theorem aUg (P:Program) (C:aT) (nm og:String) (ta pa rt:Array TypeId) (nf nt:Nat) (rs:List ResultVar) (c:Code) (b1 b2:Bool) (fl:String) (el:Nat) (ln:Option Nat) (me:List Departure) (tn:Array String) (tp:List (Nat×List bH)) (tl:List (Nat×List Nat)) (args:List V) (S:St) (K:KW):
  xW P C ⟨nm,og,ta,pa,rt,nf,nt,rs.toArray,some c,b1,b2,fl,el,ln,me,tn⟩ tp tl args S K=yN (Nat.ble args.length nt) (eF P C nt (dI tp) (eG tl) c (eK 0 args .nil) S (aLz P rs K) (fun _ _ _=>False) (aLz P rs K)):=rfl
def aAt (fn:Func):Code×Nat×List ResultVar:=(fn.body.getD .skip,fn.ntmps,fn.results.toList)
theorem aD4:(∀ n,Nat.ble ([]:List V).length n=true)∧(∀ (a:V) (l:List V) (n:Nat),Nat.ble (a::l).length (n+1)=Nat.ble l.length n):=⟨fun n=>by cases n<;>rfl,fun _ _ _=>rfl⟩
theorem nI (P:Program) (C:aT) {g:FuncId} (h:cP P g=some none) (args:List V) (S:St) (K:KW):jL P C g args S K=C g (hl args) S K:=by unfold jL;rw [h];rfl
section
variable {P:Program} {pl:gX} {f:FuncId} {fn:Func} {tp:List (Nat×List bH)} {tl:List (Nat×List Nat)}
theorem bA3 (hp:pl f=some (.val (dI tp))) (hb:uW P f=some (aAt fn)) {args:List V} {v:V} (hc:cloVs args=true) (h:xW P (W P pl) fn tp tl args ⟨0,.nil⟩ fun v0 S0=>fW S0 v0=.ok v):Fn P pl f args v:=
 Fn.of (p:=dI tp) (lv:=eG tl) hp hc (by unfold fD;rw [hb];exact h)
theorem aYf (hp:pl f=some (.code (dI tp))) (hb:uW P f=some (aAt fn)) {args:List V} {S:St} {K:KW} (h:xW P (W P pl) fn tp tl args S K):W P pl f args S K:=
 aYd (p:=dI tp) (lv:=eG tl) hp (by unfold fD;rw [hb];exact h)
end
end
end Go.AM
end
section
namespace Go.Proofs.YtoaibmbldmckaaaGreat
open Go.AM Tryz
def dSp:aCg:=[(202,.ins 68),(221,.ins 27),(230,.ins 28),(234,.ins 25),(237,.ins 24),(280,.ins 80),(240,.del 28),(25,.told)]
def aT4:gM:=[
 (3,[]),
 (4,[(4,[(0,[]),(2,[]),(1,[2]),(3,[]),(4,[]),(5,[]),(6,[]),(7,[]),(8,[]),(9,[]),(10,[]),(11,[]),(12,[]),(13,[])])]),
 (5,[(10,[(0,[]),(1,[]),(2,[1]),(3,[])])]),
 (6,[(8,[(0,[]),(2,[]),(1,[2]),(3,[]),(4,[]),(5,[]),(6,[]),(7,[]),(8,[]),(9,[]),(10,[]),(11,[]),(12,[]),(13,[]),(14,[]),(15,[])])]),
 (7,[]),
 (8,[(7,[(1,[]),(2,[]),(3,[]),(4,[]),(6,[]),(7,[]),(8,[]),(9,[]),(10,[]),(0,[]),(5,[7]),(11,[]),(12,[])]),(15,[(0,[]),(1,[0]),(2,[0]),(3,[]),(4,[]),(5,[]),(6,[]),(7,[]),(8,[])])]),
 (9,[]),
 (10,[]),
 (11,[]),
 (12,[]),
 (13,[(2,[(0,[]),(2,[]),(1,[2]),(3,[]),(4,[]),(5,[]),(6,[]),(7,[]),(8,[]),(9,[]),(10,[]),(11,[]),(12,[]),(13,[]),(14,[])])]),
 (14,[]),
 (15,[(5,[(0,[]),(1,[]),(2,[0]),(3,[]),(4,[]),(5,[]),(6,[]),(7,[]),(8,[]),(9,[])]),(6,[(0,[]),(1,[]),(2,[0]),(3,[]),(4,[]),(5,[]),(6,[]),(7,[]),(8,[]),(9,[])])]),
 (16,[(3,[(0,[]),(2,[]),(1,[2]),(3,[]),(4,[]),(5,[])]),(4,[(0,[]),(1,[]),(2,[]),(3,[]),(4,[]),(5,[]),(6,[]),(7,[]),(8,[]),(9,[]),(10,[]),(12,[]),(13,[]),(11,[13,12]),(14,[]),(15,[]),(16,[]),(17,[]),(18,[]),(19,[]),(20,[])])]),
 (17,[(32,[(0,[]),(1,[]),(2,[]),(3,[]),(4,[]),(5,[]),(6,[]),(7,[]),(8,[]),(9,[]),(10,[]),(11,[]),(12,[]),(13,[]),(14,[]),(15,[]),(16,[]),(17,[]),(18,[]),(19,[]),(20,[]),(21,[]),(22,[]),(23,[]),(24,[]),(25,[]),(26,[]),(27,[]),(28,[25,23]),(29,[]),(30,[]),(31,[25,23]),(32,[]),(33,[]),(34,[25]),(35,[]),(36,[]),(37,[])])]),
 (18,[]),
 (19,[]),
 (20,[]),
 (21,[]),
 (22,[]),
 (23,[]),
 (24,[]),
 (25,[(6,[(0,[]),(1,[]),(2,[]),(3,[]),(4,[]),(5,[]),(6,[]),(7,[]),(8,[]),(9,[8]),(10,[]),(11,[]),(12,[]),(13,[]),(14,[]),(15,[]),(16,[]),(17,[]),(18,[]),(19,[]),(20,[]),(21,[]),(22,[]),(23,[]),(24,[])])]),
 (26,[]),
 (27,[]),
 (28,[]),
 (29,[(7,[(0,[]),(1,[]),(2,[]),(3,[]),(4,[]),(5,[]),(6,[]),(8,[]),(9,[]),(10,[]),(11,[]),(12,[]),(13,[]),(15,[]),(16,[]),(17,[]),(18,[]),(19,[]),(20,[]),(7,[20,16,13,9]),(14,[20,16]),(21,[]),(22,[])]),(12,[(0,[]),(1,[]),(2,[]),(3,[]),(4,[]),(5,[]),(6,[]),(8,[]),(9,[]),(10,[]),(11,[]),(12,[]),(13,[]),(15,[]),(16,[]),(17,[]),(18,[]),(19,[]),(20,[]),(7,[20,16,13,9]),(14,[20,16]),(21,[]),(22,[])]),(18,[(0,[]),(1,[]),(2,[]),(3,[]),(5,[]),(6,[]),(4,[6]),(7,[]),(8,[])]),(19,[(0,[]),(1,[]),(2,[]),(3,[]),(5,[]),(6,[]),(7,[]),(4,[7]),(8,[]),(9,[])]),(25,[(0,[]),(1,[]),(2,[]),(4,[]),(5,[]),(7,[]),(8,[]),(3,[8,5]),(6,[8]),(9,[]),(10,[])]),(30,[(0,[]),(1,[]),(2,[]),(3,[]),(4,[]),(5,[]),(6,[]),(8,[]),(9,[]),(10,[]),(11,[]),(12,[]),(13,[]),(15,[]),(16,[]),(17,[]),(18,[]),(19,[]),(20,[]),(7,[20,16,13,9]),(14,[20,16]),(21,[]),(22,[])])]),
 (30,[]),
 (31,[]),
 (32,[]),
 (33,[(3,[(0,[]),(1,[0]),(2,[]),(3,[])]),(5,[(0,[]),(1,[0]),(2,[]),(3,[])]),(10,[(0,[]),(1,[]),(2,[0]),(3,[]),(4,[])]),(12,[(0,[]),(1,[]),(2,[1]),(3,[])]),(17,[(0,[]),(1,[]),(2,[1]),(3,[])])]),
 (34,[(9,[(1,[]),(2,[]),(4,[]),(5,[]),(6,[]),(0,[]),(3,[5]),(7,[]),(8,[]),(9,[]),(10,[])]),(11,[(0,[]),(1,[]),(2,[]),(3,[]),(4,[]),(5,[2]),(6,[])]),(16,[(0,[]),(1,[]),(2,[1]),(3,[])]),(21,[(0,[]),(1,[]),(2,[1]),(3,[])])]),
 (35,[]),
 (36,[]),
 (37,[]),
 (38,[]),
 (39,[]),
 (40,[]),
 (41,[(10,[(0,[]),(1,[]),(3,[]),(2,[3]),(4,[]),(5,[]),(6,[]),(7,[]),(8,[]),(10,[]),(9,[10]),(11,[]),(12,[]),(13,[])]),(19,[(1,[]),(2,[]),(3,[]),(5,[]),(6,[]),(7,[]),(8,[]),(9,[]),(12,[]),(13,[]),(14,[]),(0,[]),(4,[8,6]),(10,[]),(11,[]),(15,[]),(16,[])])]),
 (42,[]),
 (43,[]),
 (44,[(3,[(0,[]),(1,[0]),(2,[0]),(3,[]),(4,[]),(5,[]),(6,[]),(7,[]),(8,[])]),(4,[(0,[]),(1,[0]),(2,[0]),(3,[]),(4,[]),(5,[]),(6,[]),(7,[]),(8,[])])]),
 (45,[]),
 (46,[]),
 (47,[]),
 (48,[]),
 (49,[]),
 (50,[]),
 (51,[]),
 (52,[]),
 (53,[]),
 (54,[(7,[(0,[]),(1,[]),(3,[]),(4,[]),(6,[]),(2,[4]),(5,[]),(7,[]),(8,[]),(9,[]),(10,[])])]),
 (55,[]),
 (56,[]),
 (57,[]),
 (58,[]),
 (59,[]),
 (60,[]),
 (61,[]),
 (62,[]),
 (63,[]),
 (64,[]),
 (65,[]),
 (66,[]),
 (67,[]),
 (68,[]),
 (69,[]),
 (70,[]),
 (71,[]),
 (72,[]),
 (73,[]),
 (74,[]),
 (75,[]),
 (76,[]),
 (77,[]),
 (78,[]),
 (79,[]),
 (80,[]),
 (81,[]),
 (82,[]),
 (83,[]),
 (84,[]),
 (85,[]),
 (86,[]),
 (87,[]),
 (88,[]),
 (89,[]),
 (90,[]),
 (91,[]),
 (92,[]),
 (93,[]),
 (94,[]),
 (95,[]),
 (96,[]),
 (97,[]),
 (98,[(1,[(0,[]),(1,[]),(2,[]),(4,[]),(5,[]),(7,[]),(8,[]),(3,[8,5]),(6,[8]),(9,[]),(10,[])])]),
 (99,[]),
 (100,[]),
 (101,[(1,[(0,[]),(1,[]),(2,[]),(4,[]),(5,[]),(7,[]),(8,[]),(3,[8,5]),(6,[8]),(9,[]),(10,[])])]),
 (102,[(9,[(0,[]),(1,[]),(2,[]),(3,[]),(4,[]),(5,[]),(6,[]),(7,[]),(8,[]),(9,[]),(10,[1]),(11,[]),(12,[]),(13,[]),(14,[])])]),
 (103,[]),
 (104,[(2,[(0,[]),(1,[0]),(2,[]),(3,[])]),(5,[(0,[]),(1,[]),(2,[0]),(3,[]),(4,[])]),(9,[(0,[]),(1,[]),(2,[1]),(3,[])])]),
 (105,[]),
 (106,[]),
 (107,[(8,[(0,[]),(1,[]),(2,[]),(3,[]),(4,[]),(5,[]),(6,[]),(7,[]),(8,[5]),(9,[]),(10,[]),(11,[])])]),
 (108,[(5,[(0,[]),(1,[]),(2,[]),(3,[]),(4,[]),(5,[3]),(6,[]),(7,[])]),(12,[(0,[]),(1,[]),(2,[]),(3,[]),(4,[]),(5,[3]),(6,[]),(7,[])]),(15,[(0,[]),(1,[]),(2,[]),(3,[]),(4,[]),(5,[]),(6,[]),(7,[5,3]),(8,[]),(9,[5]),(10,[]),(11,[])])]),
 (109,[]),
 (110,[(33,[(1,[]),(2,[]),(3,[]),(4,[]),(6,[]),(7,[]),(8,[]),(9,[]),(10,[]),(0,[]),(5,[7]),(11,[]),(12,[]),(13,[])]),(44,[(0,[]),(1,[]),(2,[1]),(3,[])])]),
 (111,[(4,[(0,[]),(1,[]),(2,[]),(3,[]),(4,[]),(5,[]),(6,[]),(7,[]),(8,[5]),(9,[]),(10,[]),(11,[])])]),
 (112,[]),
 (113,[]),
 (114,[]),
 (115,[]),
 (116,[]),
 (117,[]),
 (118,[(1,[(0,[]),(1,[]),(2,[]),(3,[]),(4,[]),(5,[]),(6,[]),(7,[]),(8,[]),(9,[]),(10,[]),(11,[]),(12,[]),(13,[]),(14,[]),(15,[]),(16,[]),(17,[]),(18,[]),(19,[]),(20,[15]),(21,[]),(22,[]),(23,[])])]),
 (119,[]),
 (120,[(19,[(0,[]),(1,[]),(2,[]),(3,[]),(4,[]),(5,[]),(6,[]),(7,[]),(8,[]),(9,[]),(10,[]),(11,[]),(12,[]),(13,[]),(15,[]),(16,[]),(17,[]),(18,[]),(19,[]),(14,[19]),(20,[]),(21,[]),(22,[]),(23,[]),(24,[]),(25,[]),(26,[]),(27,[]),(28,[]),(29,[]),(30,[]),(31,[]),(32,[]),(33,[]),(34,[]),(35,[]),(36,[]),(37,[]),(38,[]),(39,[]),(40,[]),(41,[]),(42,[]),(43,[]),(44,[]),(45,[]),(46,[]),(47,[]),(48,[])])]),
 (121,[]),
 (122,[(11,[(1,[]),(2,[]),(3,[]),(5,[]),(6,[]),(7,[]),(8,[]),(9,[]),(10,[]),(13,[]),(14,[]),(15,[]),(0,[]),(4,[9]),(11,[]),(12,[]),(16,[]),(17,[])])]),
 (123,[(1,[(0,[]),(1,[]),(2,[]),(3,[]),(4,[]),(5,[]),(6,[]),(7,[]),(8,[]),(9,[]),(10,[]),(11,[]),(12,[]),(13,[]),(14,[]),(15,[]),(16,[]),(17,[]),(18,[]),(19,[]),(20,[]),(21,[]),(22,[]),(23,[]),(24,[]),(25,[]),(26,[]),(27,[]),(28,[]),(29,[]),(30,[25]),(31,[]),(32,[]),(33,[])])]),
 (124,[(1,[(0,[]),(1,[]),(2,[]),(3,[]),(4,[]),(5,[]),(6,[]),(7,[]),(9,[]),(8,[9]),(10,[]),(11,[]),(12,[]),(13,[])])]),
 (125,[]),
 (126,[]),
 (127,[]),
 (128,[]),
 (129,[]),
 (130,[]),
 (131,[]),
 (132,[]),
 (133,[]),
 (134,[]),
 (135,[]),
 (136,[]),
 (137,[]),
 (138,[]),
 (139,[]),
 (140,[]),
 (141,[]),
 (142,[(5,[(0,[]),(1,[]),(2,[]),(3,[]),(4,[]),(5,[3]),(6,[]),(7,[])]),(14,[(0,[]),(1,[]),(2,[]),(3,[]),(4,[]),(5,[]),(6,[]),(7,[]),(8,[]),(10,[]),(9,[5,2]),(11,[5]),(12,[]),(13,[]),(14,[]),(15,[])]),(17,[(0,[]),(1,[]),(2,[]),(3,[]),(4,[]),(5,[]),(6,[]),(7,[5,3]),(8,[]),(9,[5]),(10,[]),(11,[])]),(24,[(0,[]),(1,[]),(2,[]),(3,[]),(4,[2]),(5,[])])]),
 (143,[(5,[(0,[]),(1,[]),(2,[]),(3,[]),(4,[]),(5,[4]),(6,[])])]),
 (144,[]),
 (145,[]),
 (146,[]),
 (147,[]),
 (148,[]),
 (149,[]),
 (150,[]),
 (151,[]),
 (152,[]),
 (153,[]),
 (154,[(10,[(0,[]),(1,[]),(2,[]),(3,[]),(4,[]),(7,[]),(8,[]),(9,[]),(10,[]),(11,[]),(5,[]),(6,[11]),(12,[]),(13,[]),(14,[]),(15,[])])]),
 (155,[]),
 (156,[]),
 (157,[]),
 (158,[]),
 (159,[]),
 (160,[]),
 (161,[(5,[(0,[]),(1,[]),(2,[]),(3,[]),(4,[]),(5,[]),(8,[]),(9,[]),(10,[]),(11,[]),(12,[]),(13,[]),(6,[]),(7,[13]),(14,[]),(15,[]),(16,[]),(17,[])])]),
 (162,[]),
 (163,[]),
 (164,[]),
 (165,[]),
 (166,[]),
 (167,[]),
 (168,[]),
 (169,[]),
 (170,[]),
 (171,[]),
 (172,[]),
 (173,[]),
 (174,[]),
 (175,[]),
 (176,[]),
 (177,[]),
 (178,[(17,[(0,[]),(2,[]),(3,[]),(1,[3]),(4,[]),(5,[]),(6,[]),(7,[])])]),
 (179,[]),
 (180,[]),
 (181,[]),
 (182,[]),
 (183,[]),
 (184,[]),
 (185,[]),
 (186,[(14,[(1,[]),(2,[]),(3,[]),(5,[]),(6,[]),(7,[]),(10,[]),(11,[]),(12,[]),(0,[]),(4,[]),(8,[]),(9,[]),(13,[]),(14,[]),(15,[])])]),
 (187,[]),
 (188,[]),
 (189,[(13,[(1,[]),(2,[]),(3,[]),(5,[]),(8,[]),(9,[]),(10,[]),(0,[]),(4,[5]),(6,[]),(7,[]),(11,[]),(12,[]),(13,[])])]),
 (190,[(30,[(1,[]),(2,[]),(3,[]),(4,[]),(6,[]),(7,[]),(8,[]),(9,[]),(12,[]),(13,[]),(14,[]),(15,[]),(0,[]),(5,[13,7]),(10,[]),(11,[13]),(16,[]),(17,[]),(18,[])]),(31,[(0,[]),(1,[]),(2,[]),(3,[]),(4,[]),(5,[]),(6,[]),(7,[]),(8,[]),(9,[]),(10,[1]),(11,[]),(12,[]),(13,[]),(14,[]),(15,[]),(16,[]),(17,[])])]),
 (191,[(13,[(1,[]),(2,[]),(4,[]),(5,[]),(6,[]),(7,[]),(8,[]),(9,[]),(10,[]),(11,[]),(12,[]),(13,[]),(0,[]),(3,[12,10,9,5]),(14,[]),(15,[]),(16,[]),(17,[])]),(14,[(0,[]),(1,[]),(2,[]),(3,[]),(4,[]),(5,[3]),(6,[])])]),
 (192,[(12,[(0,[]),(1,[]),(2,[]),(3,[]),(4,[]),(5,[]),(6,[]),(8,[]),(9,[]),(7,[9]),(10,[]),(11,[]),(12,[])]),(22,[(0,[]),(1,[]),(2,[1]),(3,[])])]),
 (193,[]),
 (194,[(3,[(0,[]),(1,[]),(3,[]),(4,[]),(2,[4]),(5,[]),(6,[]),(7,[])])]),
 (195,[]),
 (196,[]),
 (197,[]),
 (198,[]),
 (199,[]),
 (200,[]),
 (201,[]),
 (203,[]),
 (204,[]),
 (205,[]),
 (206,[]),
 (207,[(4,[(0,[]),(1,[]),(3,[]),(4,[]),(6,[]),(2,[4]),(5,[]),(7,[]),(8,[]),(9,[]),(10,[])])]),
 (208,[(9,[(0,[]),(1,[]),(2,[]),(3,[]),(4,[]),(5,[]),(6,[3,1]),(7,[]),(8,[]),(9,[]),(10,[])])]),
 (209,[]),
 (210,[]),
 (211,[]),
 (212,[]),
 (213,[]),
 (214,[]),
 (215,[(6,[(0,[]),(1,[]),(2,[]),(3,[]),(4,[]),(5,[4]),(6,[])])]),
 (216,[]),
 (217,[]),
 (218,[]),
 (219,[]),
 (220,[]),
 (222,[]),
 (223,[(7,[(0,[]),(1,[]),(2,[]),(3,[]),(4,[1]),(5,[]),(6,[]),(7,[])])]),
 (224,[]),
 (225,[]),
 (226,[(5,[(0,[]),(1,[]),(2,[]),(5,[]),(6,[]),(7,[]),(3,[]),(4,[7]),(8,[]),(9,[]),(10,[]),(11,[])])]),
 (227,[]),
 (228,[]),
 (229,[]),
 (231,[]),
 (232,[]),
 (233,[]),
 (235,[]),
 (236,[]),
 (238,[]),
 (239,[]),
 (241,[]),
 (242,[(7,[(0,[]),(1,[]),(2,[]),(3,[]),(4,[]),(5,[]),(6,[]),(7,[]),(8,[]),(9,[]),(10,[]),(11,[]),(12,[]),(14,[]),(13,[14]),(15,[]),(16,[]),(17,[])])]),
 (243,[]),
 (244,[]),
 (245,[]),
 (246,[]),
 (249,[(7,[(0,[]),(1,[]),(2,[]),(4,[]),(5,[]),(3,[5]),(6,[]),(7,[])]),(16,[(0,[]),(1,[]),(2,[]),(3,[]),(5,[]),(6,[]),(7,[]),(9,[]),(10,[]),(11,[]),(4,[11,7]),(8,[11]),(12,[]),(13,[])]),(20,[(0,[]),(1,[]),(2,[]),(4,[]),(5,[]),(7,[]),(8,[]),(9,[]),(3,[9,8,5]),(6,[9,8]),(10,[]),(11,[])]),(27,[(0,[]),(1,[]),(2,[]),(4,[]),(5,[]),(7,[]),(8,[]),(10,[]),(11,[]),(3,[11,8,5]),(6,[11,8]),(9,[11]),(12,[]),(13,[])]),(31,[(0,[]),(1,[]),(2,[]),(4,[]),(5,[]),(7,[]),(8,[]),(9,[]),(11,[]),(12,[]),(13,[]),(3,[13,9,5]),(6,[13,9]),(10,[13]),(14,[]),(15,[])])]),
 (250,[]),
 (251,[]),
 (252,[]),
 (253,[]),
 (254,[]),
 (258,[]),
 (259,[]),
 (260,[]),
 (263,[]),
 (268,[]),
 (269,[]),
 (270,[]),
 (271,[]),
 (273,[]),
 (278,[]),
 (279,[]),
 (286,[]),
 (287,[]),
 (307,[]),
 (308,[]),
 (309,[]),
 (310,[]),
 (311,[]),
 (312,[]),
 (313,[]),
 (314,[])]
def dVl:List Nat:=[3,4,5,6,7,8,9,10,11,12,13,14,15,16,17,18,19,21,22,23,24,25,26,27,28,30,31,32,33,34,35,36,37,38,40,41,42,43,44,45,46,47,48,49,50,51,52,53,54,55,56,57,58,59,62,64,68,69,70,73,74,75,76,77,78,80,81,82,83,84,85,86,87,88,89,90,91,103,104,105,107,108,109,110,111,112,113,114,115,116,117,118,119,120,122,123,124,126,127,128,129,130,131,132,133,134,135,136,137,139,140,141,142,143,144,145,146,147,148,150,151,158,159,160,161,162,163,164,165,166,167,168,169,170,173,174,175,177,178,182,185,186,187,188,189,190,191,192,193,194,195,196,197,198,199,200,201,203,204,205,206,207,208,213,214,215,216,217,218,219,220,222,223,224,225,226,227,228,229,231,232,233,236,238,241,242,243,244,245,246,249,253,254,258,260,263,268,271,273,278,279,286,287,307,308,309,310,311,312,313,314]
def dOl:List (Nat×List Nat):=[(235,[0]),(102,[2]),(157,[999]),(121,[999])]
noncomputable def mE:gX:=oJ prog dSp aT4 dVl dOl
end Go.Proofs.YtoaibmbldmckaaaGreat
end
section
namespace Go.Proofs.YtoaibmbldmckaaaGreat
open Go.RowKit Go.AM Tryz
def aOy:gM:=[
 (3,[]),
 (4,[(4,[(0,[]),(2,[]),(1,[2]),(3,[]),(4,[]),(5,[]),(6,[]),(7,[]),(8,[]),(9,[]),(10,[]),(11,[]),(12,[]),(13,[])])]),
 (5,[(10,[(0,[]),(1,[]),(2,[1]),(3,[])])]),
 (6,[(8,[(0,[]),(2,[]),(1,[2]),(3,[]),(4,[]),(5,[]),(6,[]),(7,[]),(8,[]),(9,[]),(10,[]),(11,[]),(12,[]),(13,[]),(14,[]),(15,[])])]),
 (7,[]),
 (8,[(7,[(1,[]),(2,[]),(3,[]),(4,[]),(6,[]),(7,[]),(8,[]),(9,[]),(10,[]),(0,[]),(5,[7]),(11,[]),(12,[])]),(15,[(0,[]),(1,[0]),(2,[0]),(3,[]),(4,[]),(5,[]),(6,[]),(7,[]),(8,[])])]),
 (9,[]),
 (10,[]),
 (11,[]),
 (12,[]),
 (13,[(2,[(0,[]),(2,[]),(1,[2]),(3,[]),(4,[]),(5,[]),(6,[]),(7,[]),(8,[]),(9,[]),(10,[]),(11,[]),(12,[]),(13,[]),(14,[])])]),
 (14,[]),
 (15,[(5,[(0,[]),(1,[]),(2,[0]),(3,[]),(4,[]),(5,[]),(6,[]),(7,[]),(8,[]),(9,[])]),(6,[(0,[]),(1,[]),(2,[0]),(3,[]),(4,[]),(5,[]),(6,[]),(7,[]),(8,[]),(9,[])])]),
 (16,[(3,[(0,[]),(2,[]),(1,[2]),(3,[]),(4,[]),(5,[])]),(4,[(0,[]),(1,[]),(2,[]),(3,[]),(4,[]),(5,[]),(6,[]),(7,[]),(8,[]),(9,[]),(10,[]),(12,[]),(13,[]),(11,[13,12]),(14,[]),(15,[]),(16,[]),(17,[]),(18,[]),(19,[]),(20,[])])]),
 (17,[(32,[(0,[]),(1,[]),(2,[]),(3,[]),(4,[]),(5,[]),(6,[]),(7,[]),(8,[]),(9,[]),(10,[]),(11,[]),(12,[]),(13,[]),(14,[]),(15,[]),(16,[]),(17,[]),(18,[]),(19,[]),(20,[]),(21,[]),(22,[]),(23,[]),(24,[]),(25,[]),(26,[]),(27,[]),(28,[25,23]),(29,[]),(30,[]),(31,[25,23]),(32,[]),(33,[]),(34,[25]),(35,[]),(36,[]),(37,[])])]),
 (18,[])]
theorem aMa:gB prog aOy=true:=by kernel_rfl
def aOz:gM:=[
 (19,[]),
 (20,[]),
 (21,[]),
 (22,[]),
 (23,[]),
 (24,[]),
 (25,[(6,[(0,[]),(1,[]),(2,[]),(3,[]),(4,[]),(5,[]),(6,[]),(7,[]),(8,[]),(9,[8]),(10,[]),(11,[]),(12,[]),(13,[]),(14,[]),(15,[]),(16,[]),(17,[]),(18,[]),(19,[]),(20,[]),(21,[]),(22,[]),(23,[]),(24,[])])]),
 (26,[]),
 (27,[]),
 (28,[]),
 (29,[(7,[(0,[]),(1,[]),(2,[]),(3,[]),(4,[]),(5,[]),(6,[]),(8,[]),(9,[]),(10,[]),(11,[]),(12,[]),(13,[]),(15,[]),(16,[]),(17,[]),(18,[]),(19,[]),(20,[]),(7,[20,16,13,9]),(14,[20,16]),(21,[]),(22,[])]),(12,[(0,[]),(1,[]),(2,[]),(3,[]),(4,[]),(5,[]),(6,[]),(8,[]),(9,[]),(10,[]),(11,[]),(12,[]),(13,[]),(15,[]),(16,[]),(17,[]),(18,[]),(19,[]),(20,[]),(7,[20,16,13,9]),(14,[20,16]),(21,[]),(22,[])]),(18,[(0,[]),(1,[]),(2,[]),(3,[]),(5,[]),(6,[]),(4,[6]),(7,[]),(8,[])]),(19,[(0,[]),(1,[]),(2,[]),(3,[]),(5,[]),(6,[]),(7,[]),(4,[7]),(8,[]),(9,[])]),(25,[(0,[]),(1,[]),(2,[]),(4,[]),(5,[]),(7,[]),(8,[]),(3,[8,5]),(6,[8]),(9,[]),(10,[])]),(30,[(0,[]),(1,[]),(2,[]),(3,[]),(4,[]),(5,[]),(6,[]),(8,[]),(9,[]),(10,[]),(11,[]),(12,[]),(13,[]),(15,[]),(16,[]),(17,[]),(18,[]),(19,[]),(20,[]),(7,[20,16,13,9]),(14,[20,16]),(21,[]),(22,[])])]),
 (30,[]),
 (31,[]),
 (32,[]),
 (33,[(3,[(0,[]),(1,[0]),(2,[]),(3,[])]),(5,[(0,[]),(1,[0]),(2,[]),(3,[])]),(10,[(0,[]),(1,[]),(2,[0]),(3,[]),(4,[])]),(12,[(0,[]),(1,[]),(2,[1]),(3,[])]),(17,[(0,[]),(1,[]),(2,[1]),(3,[])])]),
 (34,[(9,[(1,[]),(2,[]),(4,[]),(5,[]),(6,[]),(0,[]),(3,[5]),(7,[]),(8,[]),(9,[]),(10,[])]),(11,[(0,[]),(1,[]),(2,[]),(3,[]),(4,[]),(5,[2]),(6,[])]),(16,[(0,[]),(1,[]),(2,[1]),(3,[])]),(21,[(0,[]),(1,[]),(2,[1]),(3,[])])])]
theorem aMb:gB prog aOz=true:=by kernel_rfl
def aP0:gM:=[
 (35,[]),
 (36,[]),
 (37,[]),
 (38,[]),
 (39,[]),
 (40,[]),
 (41,[(10,[(0,[]),(1,[]),(3,[]),(2,[3]),(4,[]),(5,[]),(6,[]),(7,[]),(8,[]),(10,[]),(9,[10]),(11,[]),(12,[]),(13,[])]),(19,[(1,[]),(2,[]),(3,[]),(5,[]),(6,[]),(7,[]),(8,[]),(9,[]),(12,[]),(13,[]),(14,[]),(0,[]),(4,[8,6]),(10,[]),(11,[]),(15,[]),(16,[])])]),
 (42,[]),
 (43,[]),
 (44,[(3,[(0,[]),(1,[0]),(2,[0]),(3,[]),(4,[]),(5,[]),(6,[]),(7,[]),(8,[])]),(4,[(0,[]),(1,[0]),(2,[0]),(3,[]),(4,[]),(5,[]),(6,[]),(7,[]),(8,[])])]),
 (45,[]),
 (46,[]),
 (47,[]),
 (48,[]),
 (49,[]),
 (50,[])]
theorem aMc:gB prog aP0=true:=by kernel_rfl
def aP1:gM:=[
 (51,[]),
 (52,[]),
 (53,[]),
 (54,[(7,[(0,[]),(1,[]),(3,[]),(4,[]),(6,[]),(2,[4]),(5,[]),(7,[]),(8,[]),(9,[]),(10,[])])]),
 (55,[]),
 (56,[]),
 (57,[]),
 (58,[]),
 (59,[]),
 (60,[]),
 (61,[]),
 (62,[]),
 (63,[]),
 (64,[]),
 (65,[]),
 (66,[])]
theorem aMd:gB prog aP1=true:=by kernel_rfl
def aP2:gM:=[
 (67,[]),
 (68,[]),
 (69,[]),
 (70,[]),
 (71,[]),
 (72,[]),
 (73,[]),
 (74,[]),
 (75,[]),
 (76,[]),
 (77,[]),
 (78,[]),
 (79,[]),
 (80,[]),
 (81,[]),
 (82,[])]
theorem aMe:gB prog aP2=true:=by kernel_rfl
def aP3:gM:=[
 (83,[]),
 (84,[]),
 (85,[]),
 (86,[]),
 (87,[]),
 (88,[]),
 (89,[]),
 (90,[]),
 (91,[]),
 (92,[]),
 (93,[]),
 (94,[]),
 (95,[]),
 (96,[]),
 (97,[]),
 (98,[(1,[(0,[]),(1,[]),(2,[]),(4,[]),(5,[]),(7,[]),(8,[]),(3,[8,5]),(6,[8]),(9,[]),(10,[])])])]
theorem aMf:gB prog aP3=true:=by kernel_rfl
def aP4:gM:=[
 (99,[]),
 (100,[]),
 (101,[(1,[(0,[]),(1,[]),(2,[]),(4,[]),(5,[]),(7,[]),(8,[]),(3,[8,5]),(6,[8]),(9,[]),(10,[])])]),
 (102,[(9,[(0,[]),(1,[]),(2,[]),(3,[]),(4,[]),(5,[]),(6,[]),(7,[]),(8,[]),(9,[]),(10,[1]),(11,[]),(12,[]),(13,[]),(14,[])])]),
 (103,[]),
 (104,[(2,[(0,[]),(1,[0]),(2,[]),(3,[])]),(5,[(0,[]),(1,[]),(2,[0]),(3,[]),(4,[])]),(9,[(0,[]),(1,[]),(2,[1]),(3,[])])]),
 (105,[]),
 (106,[]),
 (107,[(8,[(0,[]),(1,[]),(2,[]),(3,[]),(4,[]),(5,[]),(6,[]),(7,[]),(8,[5]),(9,[]),(10,[]),(11,[])])]),
 (108,[(5,[(0,[]),(1,[]),(2,[]),(3,[]),(4,[]),(5,[3]),(6,[]),(7,[])]),(12,[(0,[]),(1,[]),(2,[]),(3,[]),(4,[]),(5,[3]),(6,[]),(7,[])]),(15,[(0,[]),(1,[]),(2,[]),(3,[]),(4,[]),(5,[]),(6,[]),(7,[5,3]),(8,[]),(9,[5]),(10,[]),(11,[])])]),
 (109,[]),
 (110,[(33,[(1,[]),(2,[]),(3,[]),(4,[]),(6,[]),(7,[]),(8,[]),(9,[]),(10,[]),(0,[]),(5,[7]),(11,[]),(12,[]),(13,[])]),(44,[(0,[]),(1,[]),(2,[1]),(3,[])])]),
 (111,[(4,[(0,[]),(1,[]),(2,[]),(3,[]),(4,[]),(5,[]),(6,[]),(7,[]),(8,[5]),(9,[]),(10,[]),(11,[])])]),
 (112,[]),
 (113,[]),
 (114,[])]
theorem aMg:gB prog aP4=true:=by kernel_rfl
def aP5:gM:=[
 (115,[]),
 (116,[]),
 (117,[]),
 (118,[(1,[(0,[]),(1,[]),(2,[]),(3,[]),(4,[]),(5,[]),(6,[]),(7,[]),(8,[]),(9,[]),(10,[]),(11,[]),(12,[]),(13,[]),(14,[]),(15,[]),(16,[]),(17,[]),(18,[]),(19,[]),(20,[15]),(21,[]),(22,[]),(23,[])])]),
 (119,[]),
 (120,[(19,[(0,[]),(1,[]),(2,[]),(3,[]),(4,[]),(5,[]),(6,[]),(7,[]),(8,[]),(9,[]),(10,[]),(11,[]),(12,[]),(13,[]),(15,[]),(16,[]),(17,[]),(18,[]),(19,[]),(14,[19]),(20,[]),(21,[]),(22,[]),(23,[]),(24,[]),(25,[]),(26,[]),(27,[]),(28,[]),(29,[]),(30,[]),(31,[]),(32,[]),(33,[]),(34,[]),(35,[]),(36,[]),(37,[]),(38,[]),(39,[]),(40,[]),(41,[]),(42,[]),(43,[]),(44,[]),(45,[]),(46,[]),(47,[]),(48,[])])]),
 (121,[]),
 (122,[(11,[(1,[]),(2,[]),(3,[]),(5,[]),(6,[]),(7,[]),(8,[]),(9,[]),(10,[]),(13,[]),(14,[]),(15,[]),(0,[]),(4,[9]),(11,[]),(12,[]),(16,[]),(17,[])])]),
 (123,[(1,[(0,[]),(1,[]),(2,[]),(3,[]),(4,[]),(5,[]),(6,[]),(7,[]),(8,[]),(9,[]),(10,[]),(11,[]),(12,[]),(13,[]),(14,[]),(15,[]),(16,[]),(17,[]),(18,[]),(19,[]),(20,[]),(21,[]),(22,[]),(23,[]),(24,[]),(25,[]),(26,[]),(27,[]),(28,[]),(29,[]),(30,[25]),(31,[]),(32,[]),(33,[])])]),
 (124,[(1,[(0,[]),(1,[]),(2,[]),(3,[]),(4,[]),(5,[]),(6,[]),(7,[]),(9,[]),(8,[9]),(10,[]),(11,[]),(12,[]),(13,[])])]),
 (125,[]),
 (126,[]),
 (127,[]),
 (128,[]),
 (129,[]),
 (130,[])]
theorem aMh:gB prog aP5=true:=by kernel_rfl
def aP6:gM:=[
 (131,[]),
 (132,[]),
 (133,[]),
 (134,[]),
 (135,[]),
 (136,[]),
 (137,[]),
 (138,[]),
 (139,[]),
 (140,[]),
 (141,[]),
 (142,[(5,[(0,[]),(1,[]),(2,[]),(3,[]),(4,[]),(5,[3]),(6,[]),(7,[])]),(14,[(0,[]),(1,[]),(2,[]),(3,[]),(4,[]),(5,[]),(6,[]),(7,[]),(8,[]),(10,[]),(9,[5,2]),(11,[5]),(12,[]),(13,[]),(14,[]),(15,[])]),(17,[(0,[]),(1,[]),(2,[]),(3,[]),(4,[]),(5,[]),(6,[]),(7,[5,3]),(8,[]),(9,[5]),(10,[]),(11,[])]),(24,[(0,[]),(1,[]),(2,[]),(3,[]),(4,[2]),(5,[])])]),
 (143,[(5,[(0,[]),(1,[]),(2,[]),(3,[]),(4,[]),(5,[4]),(6,[])])]),
 (144,[]),
 (145,[]),
 (146,[])]
theorem aMi:gB prog aP6=true:=by kernel_rfl
def aP7:gM:=[
 (147,[]),
 (148,[]),
 (149,[]),
 (150,[]),
 (151,[]),
 (152,[]),
 (153,[]),
 (154,[(10,[(0,[]),(1,[]),(2,[]),(3,[]),(4,[]),(7,[]),(8,[]),(9,[]),(10,[]),(11,[]),(5,[]),(6,[11]),(12,[]),(13,[]),(14,[]),(15,[])])]),
 (155,[]),
 (156,[]),
 (157,[]),
 (158,[]),
 (159,[]),
 (160,[]),
 (161,[(5,[(0,[]),(1,[]),(2,[]),(3,[]),(4,[]),(5,[]),(8,[]),(9,[]),(10,[]),(11,[]),(12,[]),(13,[]),(6,[]),(7,[13]),(14,[]),(15,[]),(16,[]),(17,[])])]),
 (162,[])]
theorem aMj:gB prog aP7=true:=by kernel_rfl
def aJj:gM:=[
 (163,[]),
 (164,[]),
 (165,[]),
 (166,[]),
 (167,[]),
 (168,[]),
 (169,[]),
 (170,[]),
 (171,[]),
 (172,[]),
 (173,[]),
 (174,[]),
 (175,[]),
 (176,[]),
 (177,[]),
 (178,[(17,[(0,[]),(2,[]),(3,[]),(1,[3]),(4,[]),(5,[]),(6,[]),(7,[])])])]
theorem aIb:gB prog aJj=true:=by kernel_rfl
def aJk:gM:=[
 (179,[]),
 (180,[]),
 (181,[]),
 (182,[]),
 (183,[]),
 (184,[]),
 (185,[]),
 (186,[(14,[(1,[]),(2,[]),(3,[]),(5,[]),(6,[]),(7,[]),(10,[]),(11,[]),(12,[]),(0,[]),(4,[]),(8,[]),(9,[]),(13,[]),(14,[]),(15,[])])]),
 (187,[]),
 (188,[]),
 (189,[(13,[(1,[]),(2,[]),(3,[]),(5,[]),(8,[]),(9,[]),(10,[]),(0,[]),(4,[5]),(6,[]),(7,[]),(11,[]),(12,[]),(13,[])])]),
 (190,[(30,[(1,[]),(2,[]),(3,[]),(4,[]),(6,[]),(7,[]),(8,[]),(9,[]),(12,[]),(13,[]),(14,[]),(15,[]),(0,[]),(5,[13,7]),(10,[]),(11,[13]),(16,[]),(17,[]),(18,[])]),(31,[(0,[]),(1,[]),(2,[]),(3,[]),(4,[]),(5,[]),(6,[]),(7,[]),(8,[]),(9,[]),(10,[1]),(11,[]),(12,[]),(13,[]),(14,[]),(15,[]),(16,[]),(17,[])])]),
 (191,[(13,[(1,[]),(2,[]),(4,[]),(5,[]),(6,[]),(7,[]),(8,[]),(9,[]),(10,[]),(11,[]),(12,[]),(13,[]),(0,[]),(3,[12,10,9,5]),(14,[]),(15,[]),(16,[]),(17,[])]),(14,[(0,[]),(1,[]),(2,[]),(3,[]),(4,[]),(5,[3]),(6,[])])]),
 (192,[(12,[(0,[]),(1,[]),(2,[]),(3,[]),(4,[]),(5,[]),(6,[]),(8,[]),(9,[]),(7,[9]),(10,[]),(11,[]),(12,[])]),(22,[(0,[]),(1,[]),(2,[1]),(3,[])])]),
 (193,[]),
 (194,[(3,[(0,[]),(1,[]),(3,[]),(4,[]),(2,[4]),(5,[]),(6,[]),(7,[])])])]
theorem aIc:gB prog aJk=true:=by kernel_rfl
def aJl:gM:=[
 (195,[]),
 (196,[]),
 (197,[]),
 (198,[]),
 (199,[]),
 (200,[]),
 (201,[]),
 (203,[]),
 (204,[]),
 (205,[]),
 (206,[]),
 (207,[(4,[(0,[]),(1,[]),(3,[]),(4,[]),(6,[]),(2,[4]),(5,[]),(7,[]),(8,[]),(9,[]),(10,[])])]),
 (208,[(9,[(0,[]),(1,[]),(2,[]),(3,[]),(4,[]),(5,[]),(6,[3,1]),(7,[]),(8,[]),(9,[]),(10,[])])]),
 (209,[]),
 (210,[]),
 (211,[])]
theorem aId:gB prog aJl=true:=by kernel_rfl
def aJm:gM:=[
 (212,[]),
 (213,[]),
 (214,[]),
 (215,[(6,[(0,[]),(1,[]),(2,[]),(3,[]),(4,[]),(5,[4]),(6,[])])]),
 (216,[]),
 (217,[]),
 (218,[]),
 (219,[]),
 (220,[]),
 (222,[]),
 (223,[(7,[(0,[]),(1,[]),(2,[]),(3,[]),(4,[1]),(5,[]),(6,[]),(7,[])])]),
 (224,[]),
 (225,[]),
 (226,[(5,[(0,[]),(1,[]),(2,[]),(5,[]),(6,[]),(7,[]),(3,[]),(4,[7]),(8,[]),(9,[]),(10,[]),(11,[])])]),
 (227,[]),
 (228,[])]
theorem aIe:gB prog aJm=true:=by kernel_rfl
def aJn:gM:=[
 (229,[]),
 (231,[]),
 (232,[]),
 (233,[]),
 (235,[]),
 (236,[]),
 (238,[]),
 (239,[]),
 (241,[]),
 (242,[(7,[(0,[]),(1,[]),(2,[]),(3,[]),(4,[]),(5,[]),(6,[]),(7,[]),(8,[]),(9,[]),(10,[]),(11,[]),(12,[]),(14,[]),(13,[14]),(15,[]),(16,[]),(17,[])])]),
 (243,[]),
 (244,[]),
 (245,[]),
 (246,[]),
 (249,[(7,[(0,[]),(1,[]),(2,[]),(4,[]),(5,[]),(3,[5]),(6,[]),(7,[])]),(16,[(0,[]),(1,[]),(2,[]),(3,[]),(5,[]),(6,[]),(7,[]),(9,[]),(10,[]),(11,[]),(4,[11,7]),(8,[11]),(12,[]),(13,[])]),(20,[(0,[]),(1,[]),(2,[]),(4,[]),(5,[]),(7,[]),(8,[]),(9,[]),(3,[9,8,5]),(6,[9,8]),(10,[]),(11,[])]),(27,[(0,[]),(1,[]),(2,[]),(4,[]),(5,[]),(7,[]),(8,[]),(10,[]),(11,[]),(3,[11,8,5]),(6,[11,8]),(9,[11]),(12,[]),(13,[])]),(31,[(0,[]),(1,[]),(2,[]),(4,[]),(5,[]),(7,[]),(8,[]),(9,[]),(11,[]),(12,[]),(13,[]),(3,[13,9,5]),(6,[13,9]),(10,[13]),(14,[]),(15,[])])]),
 (250,[])]
theorem aIf:gB prog aJn=true:=by kernel_rfl
def aJo:gM:=[
 (251,[]),
 (252,[]),
 (253,[]),
 (254,[]),
 (258,[]),
 (259,[]),
 (260,[]),
 (263,[]),
 (268,[]),
 (269,[]),
 (270,[]),
 (271,[]),
 (273,[]),
 (278,[]),
 (279,[]),
 (286,[])]
theorem aIg:gB prog aJo=true:=by kernel_rfl
def aJp:gM:=[
 (287,[]),
 (307,[]),
 (308,[]),
 (309,[]),
 (310,[]),
 (311,[]),
 (312,[]),
 (313,[]),
 (314,[])]
theorem aIh:gB prog aJp=true:=by kernel_rfl
end Go.Proofs.YtoaibmbldmckaaaGreat
end
section
namespace Go.Proofs.YtoaibmbldmckaaaGreat
open Go.AM Tryz
section
noncomputable abbrev C:aT:=W prog mE
abbrev Fv (f:Nat) (args:List V) (v:V):Prop:=Go.AM.Fn prog mE f args v
abbrev Fr (f:Nat) (mk:Nat→List V) (n:Nat) (pre:List V) (v:V) (post:List V):Prop:=Go.AM.FnR prog mE f mk 0 n [pre] v [post]
theorem A2 {p q:Prop} (a:p) (b:q):p∧q:=⟨a,b⟩
abbrev TP:=List (Nat×List bH)
abbrev TL:=List (Nat×List Nat)
abbrev VA (f:Nat) (fn:Func) (tp:TP) (tl:TL):Prop:=∀ {args:List V} {v:V},cloVs args=true→(xW prog C fn tp tl args ⟨0,.nil⟩ fun v0 S0=>fW S0 v0=.ok v)→Fv f args v
abbrev VB (f:Nat) (fn:Func) (tp:TP) (tl:TL):Prop:=∀ {args:List V} {S:St} {K:KW},xW prog C fn tp tl args S K→C f args S K
abbrev VC (f:Nat) (fn:Func) (tp:TP) (tl:TL) (w:List Nat):Prop:=∀ {args:List V} {S:St} {K:KW},cloVs args=true→(xW prog C fn tp tl args ⟨0,.nil⟩ fun v0 S0=>wR (hl (aOj w v0 S0 S)) fun r=>K r.1 r.2)→C f args S K
abbrev VT (f:Nat) (fn:Func) (tp:TP) (tl:TL):Prop:=∀ (args:List V) (S:St) (K:KW),fD prog C (dI tp) (eG tl) f args S K=xW prog C fn tp tl args S K
abbrev VK (f:Nat) (fn:Func) (tp:TP) (tl:TL):Prop:=∀ {bs:List V} {v:V},(xW prog C fn tp tl bs ⟨0,.nil⟩ fun v0 S0=>zZ S0 v0=true∧fW S0 v0=.ok v)→FnK prog mE f bs v
section
variable {f:Nat} {fn:Func} {tp:TP} {tl:TL}
theorem va (hp:mE f=some (.val (dI tp))) (hb:uW prog f=some (aAt fn)):VA f fn tp tl:=fun hc h=>bA3 hp hb hc h
theorem vb (hp:mE f=some (.code (dI tp))) (hb:uW prog f=some (aAt fn)):VB f fn tp tl:=fun h=>aYf hp hb h
theorem vt (hb:uW prog f=some (aAt fn)):VT f fn tp tl:=fun args S K=>by unfold fD;rw [hb];rfl
theorem vc {w:List Nat} (hp:mE f=some (.own (dI tp) w)) (hb:uW prog f=some (aAt fn)) (hm:iM kpN w=false):VC f fn tp tl w:=fun hc h=>bA0 (p:=dI tp) (lv:=eG tl) hp hm hc (by rw [vt (tp:=tp) (tl:=tl) hb];exact h)
theorem vk (hp:mE f=some (.own (dI tp) [kpN])) (hb:uW prog f=some (aAt fn)):VK f fn tp tl:=fun h=>FnK.of (p:=dI tp) (lv:=eG tl) hp (by rw [vt (tp:=tp) (tl:=tl) hb];exact h)
end
theorem v3:VA 3 Tryz.f3 [] []:=va (by kernel_rfl) (by kernel_rfl)
theorem v20:VB 20 Tryz.f20 [] []:=vb (by kernel_rfl) (by kernel_rfl)
theorem v22:VA 22 Tryz.f22 [] []:=va (by kernel_rfl) (by kernel_rfl)
theorem v23:VA 23 Tryz.f23 [] [(4,[6,7])]:=va (by kernel_rfl) (by kernel_rfl)
theorem v24:VA 24 Tryz.f24 [] []:=va (by kernel_rfl) (by kernel_rfl)
theorem bA4:mE 24=some (.val (dI [])):=by kernel_rfl
theorem v27:VA 27 Tryz.f27 [] [(4,[4,5])]:=va (by kernel_rfl) (by kernel_rfl)
theorem v60:VB 60 Tryz.f60 [] []:=vb (by kernel_rfl) (by kernel_rfl)
theorem v61:VB 61 Tryz.f61 [] [(3,[7,11])]:=vb (by kernel_rfl) (by kernel_rfl)
theorem v63:VB 63 Tryz.f63 [] [(3,[7,11])]:=vb (by kernel_rfl) (by kernel_rfl)
theorem v65:VB 65 Tryz.f65 [] [(3,[7,11])]:=vb (by kernel_rfl) (by kernel_rfl)
theorem v66:VB 66 Tryz.f66 [] []:=vb (by kernel_rfl) (by kernel_rfl)
theorem v67:VB 67 Tryz.f67 [] [(3,[7,11])]:=vb (by kernel_rfl) (by kernel_rfl)
theorem v71:VB 71 Tryz.f71 [] [(17,[2,91]),(2,[2,15])]:=vb (by kernel_rfl) (by kernel_rfl)
theorem v72:VB 72 Tryz.f72 [] []:=vb (by kernel_rfl) (by kernel_rfl)
theorem v79:VB 79 Tryz.f79 [] [(24,[16]),(12,[3,8]),(2,[3,4])]:=vb (by kernel_rfl) (by kernel_rfl)
theorem v80:VA 80 Tryz.f80 [] [(4,[4,5])]:=va (by kernel_rfl) (by kernel_rfl)
theorem v81:VA 81 Tryz.f81 [] [(4,[4,5])]:=va (by kernel_rfl) (by kernel_rfl)
theorem v82:VA 82 Tryz.f82 [] [(4,[4,5])]:=va (by kernel_rfl) (by kernel_rfl)
theorem v83:VA 83 Tryz.f83 [] [(4,[4,5])]:=va (by kernel_rfl) (by kernel_rfl)
theorem v84:VA 84 Tryz.f84 [] [(4,[4,5])]:=va (by kernel_rfl) (by kernel_rfl)
theorem v85:VA 85 Tryz.f85 [] [(4,[2,10])]:=va (by kernel_rfl) (by kernel_rfl)
theorem v86:VA 86 Tryz.f86 [] [(4,[2,10])]:=va (by kernel_rfl) (by kernel_rfl)
theorem v87:VA 87 Tryz.f87 [] []:=va (by kernel_rfl) (by kernel_rfl)
theorem v88:VA 88 Tryz.f88 [] [(16,[2,58]),(5,[2,14])]:=va (by kernel_rfl) (by kernel_rfl)
theorem v89:VA 89 Tryz.f89 [] [(13,[2,38]),(3,[2,12])]:=va (by kernel_rfl) (by kernel_rfl)
theorem v90:VA 90 Tryz.f90 [] [(3,[2,3,4,11])]:=va (by kernel_rfl) (by kernel_rfl)
theorem v91:VA 91 Tryz.f91 [] [(4,[4,13])]:=va (by kernel_rfl) (by kernel_rfl)
theorem bGb:VA 114 Tryz.f114 [] [(4,[2,3])]:=va (by kernel_rfl) (by kernel_rfl)
theorem bGc:VA 115 Tryz.f115 [] [(4,[2,3])]:=va (by kernel_rfl) (by kernel_rfl)
theorem bGd:VA 116 Tryz.f116 [] [(4,[2,3])]:=va (by kernel_rfl) (by kernel_rfl)
theorem bGe:VA 117 Tryz.f117 [] [(2,[4,5])]:=va (by kernel_rfl) (by kernel_rfl)
theorem bGf:VA 118 Tryz.f118 [(1,[(0,[]),(1,[]),(2,[]),(3,[]),(4,[]),(5,[]),(6,[]),(7,[]),(8,[]),(9,[]),(10,[]),(11,[]),(12,[]),(13,[]),(14,[]),(15,[]),(16,[]),(17,[]),(18,[]),(19,[]),(20,[15]),(21,[]),(22,[]),(23,[])])] []:=va (by kernel_rfl) (by kernel_rfl)
theorem bGg:VA 120 Tryz.f120 [(19,[(0,[]),(1,[]),(2,[]),(3,[]),(4,[]),(5,[]),(6,[]),(7,[]),(8,[]),(9,[]),(10,[]),(11,[]),(12,[]),(13,[]),(15,[]),(16,[]),(17,[]),(18,[]),(19,[]),(14,[19]),(20,[]),(21,[]),(22,[]),(23,[]),(24,[]),(25,[]),(26,[]),(27,[]),(28,[]),(29,[]),(30,[]),(31,[]),(32,[]),(33,[]),(34,[]),(35,[]),(36,[]),(37,[]),(38,[]),(39,[]),(40,[]),(41,[]),(42,[]),(43,[]),(44,[]),(45,[]),(46,[]),(47,[]),(48,[])])] [(22,[4,11]),(15,[4,8]),(4,[6,7])]:=va (by kernel_rfl) (by kernel_rfl)
theorem bGh:VK 121 Tryz.f121 [] [(3,[2,3,4,5])]:=vk (by kernel_rfl) (by kernel_rfl)
theorem bGi:VA 123 Tryz.f123 [(1,[(0,[]),(1,[]),(2,[]),(3,[]),(4,[]),(5,[]),(6,[]),(7,[]),(8,[]),(9,[]),(10,[]),(11,[]),(12,[]),(13,[]),(14,[]),(15,[]),(16,[]),(17,[]),(18,[]),(19,[]),(20,[]),(21,[]),(22,[]),(23,[]),(24,[]),(25,[]),(26,[]),(27,[]),(28,[]),(29,[]),(30,[25]),(31,[]),(32,[]),(33,[])])] []:=va (by kernel_rfl) (by kernel_rfl)
theorem bGj:VA 124 Tryz.f124 [(1,[(0,[]),(1,[]),(2,[]),(3,[]),(4,[]),(5,[]),(6,[]),(7,[]),(9,[]),(8,[9]),(10,[]),(11,[]),(12,[]),(13,[])])] []:=va (by kernel_rfl) (by kernel_rfl)
theorem bGk:VA 126 Tryz.f126 [] [(6,[4,5])]:=va (by kernel_rfl) (by kernel_rfl)
theorem bGl:VA 127 Tryz.f127 [] []:=va (by kernel_rfl) (by kernel_rfl)
theorem bGm:VA 131 Tryz.f131 [] []:=va (by kernel_rfl) (by kernel_rfl)
theorem bGn:VA 132 Tryz.f132 [] []:=va (by kernel_rfl) (by kernel_rfl)
theorem bGo:VB 149 Tryz.f149 [] [(3,[7,11])]:=vb (by kernel_rfl) (by kernel_rfl)
theorem bA5:VB 152 Tryz.f152 [] [(2,[4,8])]:=vb (by kernel_rfl) (by kernel_rfl)
theorem bGp:VB 153 Tryz.f153 [] []:=vb (by kernel_rfl) (by kernel_rfl)
theorem bGq:VB 154 Tryz.f154 [(10,[(0,[]),(1,[]),(2,[]),(3,[]),(4,[]),(7,[]),(8,[]),(9,[]),(10,[]),(11,[]),(5,[]),(6,[11]),(12,[]),(13,[]),(14,[]),(15,[])])] [(3,[2,3,4,16])]:=vb (by kernel_rfl) (by kernel_rfl)
theorem bA6:VB 155 Tryz.f155 [] [(2,[4,8])]:=vb (by kernel_rfl) (by kernel_rfl)
theorem bGr:VB 156 Tryz.f156 [] []:=vb (by kernel_rfl) (by kernel_rfl)
theorem bGs:VK 157 Tryz.f157 [] [(3,[2,3,4,18])]:=vk (by kernel_rfl) (by kernel_rfl)
theorem bGt:VA 160 Tryz.f160 [] []:=va (by kernel_rfl) (by kernel_rfl)
theorem bGu:VA 161 Tryz.f161 [(5,[(0,[]),(1,[]),(2,[]),(3,[]),(4,[]),(5,[]),(8,[]),(9,[]),(10,[]),(11,[]),(12,[]),(13,[]),(6,[]),(7,[13]),(14,[]),(15,[]),(16,[]),(17,[])])] [(3,[5,6,7])]:=va (by kernel_rfl) (by kernel_rfl)
theorem bGv:VA 162 Tryz.f162 [] []:=va (by kernel_rfl) (by kernel_rfl)
theorem bGw:VA 163 Tryz.f163 [] []:=va (by kernel_rfl) (by kernel_rfl)
theorem bGx:VA 164 Tryz.f164 [] []:=va (by kernel_rfl) (by kernel_rfl)
theorem bGy:VA 165 Tryz.f165 [] [(4,[2])]:=va (by kernel_rfl) (by kernel_rfl)
theorem bGz:VA 166 Tryz.f166 [] [(5,[2,3,11])]:=va (by kernel_rfl) (by kernel_rfl)
theorem bH0:VA 167 Tryz.f167 [] [(4,[2,20])]:=va (by kernel_rfl) (by kernel_rfl)
theorem bH1:VA 168 Tryz.f168 [] []:=va (by kernel_rfl) (by kernel_rfl)
theorem bH2:VA 169 Tryz.f169 [] []:=va (by kernel_rfl) (by kernel_rfl)
theorem bA7:mE 170=some (.val (dI [])):=by kernel_rfl
theorem aYg:VT 170 Tryz.f170 [] []:=vt (by kernel_rfl)
theorem bH3:VA 193 Tryz.f193 [] []:=va (by kernel_rfl) (by kernel_rfl)
theorem bH4:VA 194 Tryz.f194 [(3,[(0,[]),(1,[]),(3,[]),(4,[]),(2,[4]),(5,[]),(6,[]),(7,[])])] []:=va (by kernel_rfl) (by kernel_rfl)
theorem bH5:VA 195 Tryz.f195 [] [(4,[2])]:=va (by kernel_rfl) (by kernel_rfl)
theorem bH6:VA 196 Tryz.f196 [] []:=va (by kernel_rfl) (by kernel_rfl)
theorem bH7:VA 197 Tryz.f197 [] [(8,[3,11])]:=va (by kernel_rfl) (by kernel_rfl)
theorem bH8:VA 198 Tryz.f198 [] []:=va (by kernel_rfl) (by kernel_rfl)
theorem bH9:VA 199 Tryz.f199 [] [(2,[2,3])]:=va (by kernel_rfl) (by kernel_rfl)
theorem bHa:VA 200 Tryz.f200 [] [(5,[3,4])]:=va (by kernel_rfl) (by kernel_rfl)
theorem bHb:VA 203 Tryz.f203 [] []:=va (by kernel_rfl) (by kernel_rfl)
theorem bHc:VA 204 Tryz.f204 [] []:=va (by kernel_rfl) (by kernel_rfl)
theorem bHd:VA 217 Tryz.f217 [] []:=va (by kernel_rfl) (by kernel_rfl)
theorem bHe:VA 218 Tryz.f218 [] [(3,[4,5,12])]:=va (by kernel_rfl) (by kernel_rfl)
theorem bA8:mE 218=some (.val (dI [])):=by kernel_rfl
theorem bHf:VA 219 Tryz.f219 [] []:=va (by kernel_rfl) (by kernel_rfl)
theorem bHg:VA 220 Tryz.f220 [] [(2,[2,3])]:=va (by kernel_rfl) (by kernel_rfl)
theorem bHh:VA 222 Tryz.f222 [] []:=va (by kernel_rfl) (by kernel_rfl)
theorem bHi:VA 223 Tryz.f223 [(7,[(0,[]),(1,[]),(2,[]),(3,[]),(4,[1]),(5,[]),(6,[]),(7,[])])] [(3,[5])]:=va (by kernel_rfl) (by kernel_rfl)
theorem bA9:mE 223=some (.val (dI [(7,[(0,[]),(1,[]),(2,[]),(3,[]),(4,[1]),(5,[]),(6,[]),(7,[])])])):=by kernel_rfl
theorem bHj:VA 224 Tryz.f224 [] [(4,[4,5])]:=va (by kernel_rfl) (by kernel_rfl)
theorem bHk:VA 225 Tryz.f225 [] []:=va (by kernel_rfl) (by kernel_rfl)
theorem bHl:VA 226 Tryz.f226 [(5,[(0,[]),(1,[]),(2,[]),(5,[]),(6,[]),(7,[]),(3,[]),(4,[7]),(8,[]),(9,[]),(10,[]),(11,[])])] [(3,[3,4,16])]:=va (by kernel_rfl) (by kernel_rfl)
theorem bAa:mE 227=some (.val (dI [])):=by kernel_rfl
theorem bHm:VT 227 Tryz.f227 [] []:=vt (by kernel_rfl)
theorem bHn:VA 228 Tryz.f228 [] [(6,[3,23])]:=va (by kernel_rfl) (by kernel_rfl)
theorem bHo:VA 229 Tryz.f229 [] []:=va (by kernel_rfl) (by kernel_rfl)
theorem bHp:VA 245 Tryz.f245 [] []:=va (by kernel_rfl) (by kernel_rfl)
theorem bHq:VA 246 Tryz.f246 [] []:=va (by kernel_rfl) (by kernel_rfl)
theorem bHr:VA 254 Tryz.f254 [] []:=va (by kernel_rfl) (by kernel_rfl)
theorem bHs:VA 258 Tryz.f258 [] []:=va (by kernel_rfl) (by kernel_rfl)
theorem bAb:VB 259 Tryz.f259 [] [(2,[2,9])]:=vb (by kernel_rfl) (by kernel_rfl)
theorem bHt:VA 260 Tryz.f260 [] [(4,[4,13])]:=va (by kernel_rfl) (by kernel_rfl)
theorem tx0:∀ g:Nat,2≤g→g<247→cP prog g=some none:=by
 have h:((List.range 245).all fun g=>match cP prog (g+2) with
  | some none=>true
  | _=>false)=true:=by kernel_rfl
 intro g h0 h1
 have:=List.all_eq_true.1 h (g - 2) (List.mem_range.2 (by omega))
 rw [Nat.sub_add_cancel h0] at this
 split at this
 ·assumption
 ·cases this
theorem aUh {g:Nat} (h0:1<g) (h1:g<247) (args:List V) (S:St) (K:KW):jL prog C g args S K=C g (hl args) S K:=nI _ _ (tx0 g h0 h1) _ _ _
theorem tx1:∀ g:Nat,248≤g→g<255→cP prog g=some none:=by
 have h:((List.range 7).all fun g=>match cP prog (g+248) with
  | some none=>true
  | _=>false)=true:=by kernel_rfl
 intro g h0 h1
 have:=List.all_eq_true.1 h (g - 248) (List.mem_range.2 (by omega))
 rw [Nat.sub_add_cancel h0] at this
 split at this
 ·assumption
 ·cases this
theorem aUi {g:Nat} (h0:247<g) (h1:g<255) (args:List V) (S:St) (K:KW):jL prog C g args S K=C g (hl args) S K:=nI _ _ (tx1 g h0 h1) _ _ _
theorem tx2:∀ g:Nat,257≤g→g<261→cP prog g=some none:=by
 have h:((List.range 4).all fun g=>match cP prog (g+257) with
  | some none=>true
  | _=>false)=true:=by kernel_rfl
 intro g h0 h1
 have:=List.all_eq_true.1 h (g - 257) (List.mem_range.2 (by omega))
 rw [Nat.sub_add_cancel h0] at this
 split at this
 ·assumption
 ·cases this
theorem aUj {g:Nat} (h0:256<g) (h1:g<261) (args:List V) (S:St) (K:KW):jL prog C g args S K=C g (hl args) S K:=nI _ _ (tx2 g h0 h1) _ _ _
theorem tx3:∀ g:Nat,267≤g→g<288→cP prog g=some none:=by
 have h:((List.range 21).all fun g=>match cP prog (g+267) with
  | some none=>true
  | _=>false)=true:=by kernel_rfl
 intro g h0 h1
 have:=List.all_eq_true.1 h (g - 267) (List.mem_range.2 (by omega))
 rw [Nat.sub_add_cancel h0] at this
 split at this
 ·assumption
 ·cases this
theorem aUk {g:Nat} (h0:266<g) (h1:g<288) (args:List V) (S:St) (K:KW):jL prog C g args S K=C g (hl args) S K:=nI _ _ (tx3 g h0 h1) _ _ _
theorem aGk (args:List V) (S:St) (K:KW):jL prog C 255 args S K=wR (hl (oF Tryz.f255 args)) fun v=>K v S:=by
 unfold jL
 rw [show cP prog 255=some (some Tryz.f255) by kernel_rfl]
 rfl
theorem bAc (K:V→Prop):wO (aM prog 30) K=K (.agg [.nils,.nils,.nils,.nils,.nils,.int .i64 0]):=congrArg (fun x=>wO x K) (show aM prog 30=some (.agg [.nils,.nils,.nils,.nils,.nils,.int .i64 0]) by kernel_rfl)
theorem bAd (K:V→Prop):wO (aM prog 48) K=K (.agg [.int .i64 0,.int .i64 0,.int .i64 0]):=congrArg (fun x=>wO x K) (show aM prog 48=some (.agg [.int .i64 0,.int .i64 0,.int .i64 0]) by kernel_rfl)
theorem aUl:qK prog 26=true:=by kernel_rfl
theorem bAe (K:V→Prop):wO (aM prog 52) K=K (.agg [.int .i64 0,.int .i64 0,.int .i64 0]):=congrArg (fun x=>wO x K) (show aM prog 52=some (.agg [.int .i64 0,.int .i64 0,.int .i64 0]) by kernel_rfl)
theorem aUm:qK prog 22=true:=by kernel_rfl
theorem bAf (K:V→Prop):wO (aM prog 61) K=K (.agg [.int .i64 0,.int .i64 0,.int .i64 0,.str [],.int .i64 0,.str [],.int .i64 0,.int .i64 0,.int .i64 0,.int .i64 0,.int .i64 0,.int .i64 0,.int .i64 0,.nils,.str [],.int .i64 0,.int .i64 0]):=congrArg (fun x=>wO x K) (show aM prog 61=some (.agg [.int .i64 0,.int .i64 0,.int .i64 0,.str [],.int .i64 0,.str [],.int .i64 0,.int .i64 0,.int .i64 0,.int .i64 0,.int .i64 0,.int .i64 0,.int .i64 0,.nils,.str [],.int .i64 0,.int .i64 0]) by kernel_rfl)
theorem aUn:qK prog 44=true:=by kernel_rfl
theorem aUo:qK prog 96=true:=by kernel_rfl
theorem aUp:qK prog 97=true:=by kernel_rfl
theorem bAg (K:V→Prop):wO (aM prog 99) K=K (.agg [.int .i64 0,.int .i64 0,.int .i64 0,.str [],.int .i64 0,.str [],.int .i64 0,.int .i64 0,.int .i64 0,.int .i64 0,.int .i64 0,.int .i64 0,.int .i64 0,.nils,.str [],.int .i64 0,.int .i64 0,.int .i64 0,.int .i64 0,.int .i64 0,.int .i64 0,.int .i64 0,.int .i64 0]):=congrArg (fun x=>wO x K) (show aM prog 99=some (.agg [.int .i64 0,.int .i64 0,.int .i64 0,.str [],.int .i64 0,.str [],.int .i64 0,.int .i64 0,.int .i64 0,.int .i64 0,.int .i64 0,.int .i64 0,.int .i64 0,.nils,.str [],.int .i64 0,.int .i64 0,.int .i64 0,.int .i64 0,.int .i64 0,.int .i64 0,.int .i64 0,.int .i64 0]) by kernel_rfl)
theorem bAh (K:V→Prop):wO (aM prog 54) K=K (.agg [.str [],.int .i64 0,.int .i64 0,.int .i64 0,.int .i64 0]):=congrArg (fun x=>wO x K) (show aM prog 54=some (.agg [.str [],.int .i64 0,.int .i64 0,.int .i64 0,.int .i64 0]) by kernel_rfl)
theorem aUq:qK prog 24=true:=by kernel_rfl
theorem aUr (K:V→Prop):wO (aM prog 126) K=K (.agg [.str [],.int .i64 0,.int .i64 0,.bool false]):=congrArg (fun x=>wO x K) (show aM prog 126=some (.agg [.str [],.int .i64 0,.int .i64 0,.bool false]) by kernel_rfl)
theorem aUs:qK prog 25=true:=by kernel_rfl
theorem bAi (K:V→Prop):wO (aM prog 84) K=K (.agg [.str [],.int .i64 0,.int .i64 0,.int .i64 0,.int .i64 0,.int .i64 0,.int .i64 0,.int .i64 0,.nils,.str [],.int .i64 0,.bool false]):=congrArg (fun x=>wO x K) (show aM prog 84=some (.agg [.str [],.int .i64 0,.int .i64 0,.int .i64 0,.int .i64 0,.int .i64 0,.int .i64 0,.int .i64 0,.nils,.str [],.int .i64 0,.bool false]) by kernel_rfl)
theorem aUt (K:V→Prop):wO (aM prog 145) K=K (.agg [.str [],.int .i64 0,.int .i64 0,.int .i64 0]):=congrArg (fun x=>wO x K) (show aM prog 145=some (.agg [.str [],.int .i64 0,.int .i64 0,.int .i64 0]) by kernel_rfl)
theorem aUu:qK prog 80=true:=by kernel_rfl
theorem aUv (K:V→Prop):wO (aM prog 132) K=K (.agg [.int .i64 0,.int .i64 0,.int .i64 0,.int .i64 0,.int .i64 0]):=congrArg (fun x=>wO x K) (show aM prog 132=some (.agg [.int .i64 0,.int .i64 0,.int .i64 0,.int .i64 0,.int .i64 0]) by kernel_rfl)
theorem aUw:qK prog 28=true:=by kernel_rfl
theorem aUx:qK prog 27=true:=by kernel_rfl
theorem bAj (K:V→Prop):wO (aM prog 59) K=K (.agg [.int .i64 0,.str [],.int .i64 0,.str [],.int .i64 0,.int .i64 0,.int .i64 0,.int .i64 0,.int .i64 0,.int .i64 0,.int .i64 0,.nils,.str [],.int .i64 0,.int .i64 0]):=congrArg (fun x=>wO x K) (show aM prog 59=some (.agg [.int .i64 0,.str [],.int .i64 0,.str [],.int .i64 0,.int .i64 0,.int .i64 0,.int .i64 0,.int .i64 0,.int .i64 0,.int .i64 0,.nils,.str [],.int .i64 0,.int .i64 0]) by kernel_rfl)
theorem aUy:qK prog 62=true:=by kernel_rfl
theorem aUz:qK prog 71=true:=by kernel_rfl
theorem aP8:qK prog 102=true:=by kernel_rfl
theorem aV0 (K:V→Prop):wO (aM prog 212) K=K (.agg [.nili]):=congrArg (fun x=>wO x K) (show aM prog 212=some (.agg [.nili]) by kernel_rfl)
theorem aV1 (K:V→Prop):wO (aM prog 220) K=K (.agg [.int .i64 0,.int .i64 0,.str []]):=congrArg (fun x=>wO x K) (show aM prog 220=some (.agg [.int .i64 0,.int .i64 0,.str []]) by kernel_rfl)
theorem aV2 (K:V→Prop):wO (aM prog 232) K=K (.nilp):=congrArg (fun x=>wO x K) (show aM prog 232=some (.nilp) by kernel_rfl)
theorem aV3 (K:V→Prop):wO (aM prog 246) K=K (.agg [.int .i64 0,.int .i64 0,.int .i64 0,.int .i64 0,.int .i64 0,.int .i64 0,.int .i64 0,.int .i64 0,.int .i64 0,.int .i64 0,.int .i64 0,.int .i64 0,.int .i64 0,.int .i64 0,.int .i64 0,.int .i64 0,.int .i64 0,.int .i64 0,.int .i64 0,.int .i64 0,.int .i64 0,.int .i64 0,.int .i64 0,.int .i64 0,.int .i64 0,.int .i64 0,.int .i64 0,.int .i64 0,.int .i64 0,.int .i64 0,.int .i64 0,.int .i64 0,.int .i64 0,.int .i64 0,.int .i64 0,.int .i64 0,.int .i64 0,.int .i64 0,.int .i64 0,.int .i64 0]):=congrArg (fun x=>wO x K) (show aM prog 246=some (.agg [.int .i64 0,.int .i64 0,.int .i64 0,.int .i64 0,.int .i64 0,.int .i64 0,.int .i64 0,.int .i64 0,.int .i64 0,.int .i64 0,.int .i64 0,.int .i64 0,.int .i64 0,.int .i64 0,.int .i64 0,.int .i64 0,.int .i64 0,.int .i64 0,.int .i64 0,.int .i64 0,.int .i64 0,.int .i64 0,.int .i64 0,.int .i64 0,.int .i64 0,.int .i64 0,.int .i64 0,.int .i64 0,.int .i64 0,.int .i64 0,.int .i64 0,.int .i64 0,.int .i64 0,.int .i64 0,.int .i64 0,.int .i64 0,.int .i64 0,.int .i64 0,.int .i64 0,.int .i64 0]) by kernel_rfl)
theorem aV4 (K:V→Prop):wO (aM prog 249) K=K (.agg [.int .i64 0,.int .i64 0,.int .i64 0,.int .i64 0,.int .i64 0,.int .i64 0,.int .i64 0,.int .i64 0]):=congrArg (fun x=>wO x K) (show aM prog 249=some (.agg [.int .i64 0,.int .i64 0,.int .i64 0,.int .i64 0,.int .i64 0,.int .i64 0,.int .i64 0,.int .i64 0]) by kernel_rfl)
theorem bAk:qK prog 9=true:=by kernel_rfl
theorem aV5:qK prog 55=true:=by kernel_rfl
theorem bAl (K:V→Prop):wO (aM prog 82) K=K (.agg [.int .i64 0,.int .i64 0,.int .i64 0,.nils]):=congrArg (fun x=>wO x K) (show aM prog 82=some (.agg [.int .i64 0,.int .i64 0,.int .i64 0,.nils]) by kernel_rfl)
theorem aV6 (K:V→Prop):wO (aM prog 293) K=K (.agg [.str [],.int .i64 0]):=congrArg (fun x=>wO x K) (show aM prog 293=some (.agg [.str [],.int .i64 0]) by kernel_rfl)
theorem aV7 (K:V→Prop):wO (aM prog 295) K=K (.agg [.str []]):=congrArg (fun x=>wO x K) (show aM prog 295=some (.agg [.str []]) by kernel_rfl)
theorem aV8 (K:V→Prop):wO (aM prog 297) K=K (.agg [.str [],.int .i64 0,.int .i64 0,.int .i64 0,.int .i64 0]):=congrArg (fun x=>wO x K) (show aM prog 297=some (.agg [.str [],.int .i64 0,.int .i64 0,.int .i64 0,.int .i64 0]) by kernel_rfl)
theorem aV9 (K:V→Prop):wO (aM prog 301) K=K (.agg [.str [],.int .i64 0,.int .i64 0,.int .i64 0,.nils]):=congrArg (fun x=>wO x K) (show aM prog 301=some (.agg [.str [],.int .i64 0,.int .i64 0,.int .i64 0,.nils]) by kernel_rfl)
theorem aVa (K:V→Prop):wO (aM prog 304) K=K (.agg [.str [],.int .i64 0,.int .i64 0,.int .i64 0,.str [],.int .i64 0]):=congrArg (fun x=>wO x K) (show aM prog 304=some (.agg [.str [],.int .i64 0,.int .i64 0,.int .i64 0,.str [],.int .i64 0]) by kernel_rfl)
theorem aVb (K:V→Prop):wO (aM prog 306) K=K (.agg [.int .i64 0]):=congrArg (fun x=>wO x K) (show aM prog 306=some (.agg [.int .i64 0]) by kernel_rfl)
theorem aVc (K:V→Prop):wO (aM prog 307) K=K (.agg [.str []]):=congrArg (fun x=>wO x K) (show aM prog 307=some (.agg [.str []]) by kernel_rfl)
theorem bAm (K:V→Prop):wO (aM prog 90) K=K (.agg [.str [],.int .i64 0]):=congrArg (fun x=>wO x K) (show aM prog 90=some (.agg [.str [],.int .i64 0]) by kernel_rfl)
theorem rg9:aEj prog 9=true:=by kernel_rfl
theorem aVd (K:V→Prop):wO (aM prog 201) K=K (.agg [.str [],.str [],.int .i64 0,.int .i64 0]):=congrArg (fun x=>wO x K) (show aM prog 201=some (.agg [.str [],.str [],.int .i64 0,.int .i64 0]) by kernel_rfl)
theorem aVe (K:V→Prop):wO (aM prog 346) K=K (.agg [.int .i64 0,.int .u64 0]):=congrArg (fun x=>wO x K) (show aM prog 346=some (.agg [.int .i64 0,.int .u64 0]) by kernel_rfl)
theorem aT5 (f:FuncId) {a b:List V} {S T:St} (K:KW) (h:a=b) (g:S=T):C f a S K=C f b T K:=by rw [h,g]
attribute [congr] aT5
theorem cw:type_of% (A2 (aJi prog) <| A2 (aJg prog C) <| A2 (aJd prog C) <| A2 aJh <| A2 aJa <| A2 aJb <| A2 aUg <| A2 (aD2 prog C) <| A2 (aD3 prog C) <| A2 (aOx prog C) <| A2 @bA1 <| A2 @aUa <| A2 @aOn <| A2 @aUb <| A2 @aOp <| A2 @aOv <| A2 @bA2 <| A2 @aUd <| A2 @aUe <| A2 @aOr <| A2 @aUf <| A2 @aOt <| A2 @aOu <| A2 @aJf <| A2 @aGj <| A2 @aD1 <| A2 aD4 <| A2 aCz <| A2 @aU7 <| A2 @aUh <| A2 @aUi <| A2 @aUj <| A2 @aUk <| A2 aGk <| A2 bAc <| A2 bAd <| A2 aUl <| A2 bAe <| A2 aUm <| A2 bAf <| A2 aUn <| A2 aUo <| A2 aUp <| A2 bAg <| A2 bAh <| A2 aUq <| A2 aUr <| A2 aUs <| A2 bAi <| A2 aUt <| A2 aUu <| A2 aUv <| A2 aUw <| A2 aUx <| A2 bAj <| A2 aUy <| A2 aUz <| A2 aP8 <| A2 aV0 <| A2 aV1 <| A2 aV2 <| A2 aV3 <| A2 aV4 <| A2 bAk <| A2 aV5 <| A2 bAl <| A2 aV6 <| A2 aV7 <| A2 aV8 <| A2 aV9 <| A2 aVa <| A2 aVb <| A2 aVc <| A2 bAm <| A2 rg9 <| A2 aVd <| aVe):=A2 (aJi prog) <| A2 (aJg prog C) <| A2 (aJd prog C) <| A2 aJh <| A2 aJa <| A2 aJb <| A2 aUg <| A2 (aD2 prog C) <| A2 (aD3 prog C) <| A2 (aOx prog C) <| A2 @bA1 <| A2 @aUa <| A2 @aOn <| A2 @aUb <| A2 @aOp <| A2 @aOv <| A2 @bA2 <| A2 @aUd <| A2 @aUe <| A2 @aOr <| A2 @aUf <| A2 @aOt <| A2 @aOu <| A2 @aJf <| A2 @aGj <| A2 @aD1 <| A2 aD4 <| A2 aCz <| A2 @aU7 <| A2 @aUh <| A2 @aUi <| A2 @aUj <| A2 @aUk <| A2 aGk <| A2 bAc <| A2 bAd <| A2 aUl <| A2 bAe <| A2 aUm <| A2 bAf <| A2 aUn <| A2 aUo <| A2 aUp <| A2 bAg <| A2 bAh <| A2 aUq <| A2 aUr <| A2 aUs <| A2 bAi <| A2 aUt <| A2 aUu <| A2 aUv <| A2 aUw <| A2 aUx <| A2 bAj <| A2 aUy <| A2 aUz <| A2 aP8 <| A2 aV0 <| A2 aV1 <| A2 aV2 <| A2 aV3 <| A2 aV4 <| A2 bAk <| A2 aV5 <| A2 bAl <| A2 aV6 <| A2 aV7 <| A2 aV8 <| A2 aV9 <| A2 aVa <| A2 aVb <| A2 aVc <| A2 bAm <| A2 rg9 <| A2 aVd <| aVe
end
def qL (t:TypeId) (p:V) (S:St) (K:V→Prop):Prop:=wR (kO prog t p S) K
def qF (s:TypeId) (p:V) (f:Nat) (K:V→Prop):Prop:=wR (dQ prog s p f) K
def qE (s:TypeId) (p:V) (f:Nat) (t:TypeId) (S:St) (K:V→Prop):Prop:=wR (dQ prog s p f) fun q=>wR (kO prog t q S) K
def qX (t:TypeId) (v i:V) (K:V→Prop):Prop:=wR (dA prog t v i) K
def qS (t:TypeId) (p x:V) (S:St) (K:St→Prop):Prop:=wR (mV prog t p x S) K
def qZ (t:TypeId) (x:V) (S:St) (K:V→Prop):Prop:=wR (vS prog t x S) K
def qB (o:BinOp) (t:TypeId) (x y:V) (K:V→Prop):Prop:=wR (bW prog o t x y) K
def qG (o:BinOp) (t:TypeId) (x y:V) (K:V→Prop):Prop:=yN (bI prog t x y) (wR (bW prog o t x y) K)
def qD (t:TypeId) (l:List (Nat×V)) (K:V→Prop):Prop:=wR (mW prog t l) K
def qP (t:TypeId) (s x:V) (r:Option Nat) (S:St) (K:V×St→Prop):Prop:=wR (fO prog t s x r S) K
def qQ (t:TypeId) (n:Nat) (l:List (Nat×V)) (r:Option Nat) (S:St) (K:V×St→Prop):Prop:=wR (cT prog t n l r S) K
def qA (a:V) (S:St) (K:Nat×St→Prop):Prop:=yN (aI a.cells) (wR (bD none S (.row 0 a.cells.length [a.cells])) K)
def qN (S:St) (n:Nat) (c:List V) (K:Nat×St→Prop):Prop:=wR (bD none S (.row 0 n [c])) K
def pt (r:Nat×St):V:=.ptr r.1 0 0 0
def up (S:St) (n:Nat):St:=⟨S.next+n,S.heap⟩
def jI (n:Int):V:=.int .i64 n
theorem sf:(∀ (t:TypeId) (p:V) (S:St) (K:V→Prop),qL t p S K=(wR (kO prog t p S) K))∧(∀ (s:TypeId) (p:V) (f:Nat) (K:V→Prop),qF s p f K=(wR (dQ prog s p f) K))∧(∀ (s:TypeId) (p:V) (f:Nat) (t:TypeId) (S:St) (K:V→Prop),qE s p f t S K=(wR (dQ prog s p f) fun q=>wR (kO prog t q S) K))∧(∀ (t:TypeId) (v i:V) (K:V→Prop),qX t v i K=(wR (dA prog t v i) K))∧(∀ (t:TypeId) (p x:V) (S:St) (K:St→Prop),qS t p x S K=(wR (mV prog t p x S) K))∧(∀ (t:TypeId) (x:V) (S:St) (K:V→Prop),qZ t x S K=(wR (vS prog t x S) K))∧(∀ (o:BinOp) (t:TypeId) (x y:V) (K:V→Prop),qB o t x y K=(wR (bW prog o t x y) K))∧(∀ (o:BinOp) (t:TypeId) (x y:V) (K:V→Prop),qG o t x y K=(yN (bI prog t x y) (wR (bW prog o t x y) K)))∧(∀ (t:TypeId) (l:List (Nat×V)) (K:V→Prop),qD t l K=(wR (mW prog t l) K))∧(∀ (t:TypeId) (s x:V) (r:Option Nat) (S:St) (K:V×St→Prop),qP t s x r S K=(wR (fO prog t s x r S) K))∧(∀ (t:TypeId) (n:Nat) (l:List (Nat×V)) (r:Option Nat) (S:St) (K:V×St→Prop),qQ t n l r S K=(wR (cT prog t n l r S) K))∧(∀ (a:V) (S:St) (K:Nat×St→Prop),qA a S K=(yN (aI a.cells) (wR (bD none S (.row 0 a.cells.length [a.cells])) K)))∧(∀ (S:St) (n:Nat) (c:List V) (K:Nat×St→Prop),qN S n c K=(wR (bD none S (.row 0 n [c])) K))∧(∀ (r:Nat×St),pt r=.ptr r.1 0 0 0)∧(∀ (S:St) (n:Nat),up S n=⟨S.next+n,S.heap⟩)∧(∀ (n:Int),jI n=.int .i64 n):=⟨fun _ _ _ _=>rfl,fun _ _ _ _=>rfl,fun _ _ _ _ _ _=>rfl,fun _ _ _ _=>rfl,fun _ _ _ _ _=>rfl,fun _ _ _ _=>rfl,fun _ _ _ _ _=>rfl,fun _ _ _ _ _=>rfl,fun _ _ _=>rfl,fun _ _ _ _ _ _=>rfl,fun _ _ _ _ _ _=>rfl,fun _ _ _=>rfl,fun _ _ _ _=>rfl,fun _=>rfl,fun _ _=>rfl,fun _=>rfl⟩
abbrev aIi:Nat→Option (List bH):=dI []
abbrev aIj:Nat→List Nat:=eG [(4,[2,3])]
abbrev aEo:Nat→Option (List bH):=dI [(11,[(1,[]),(2,[]),(3,[]),(5,[]),(6,[]),(7,[]),(8,[]),(9,[]),(10,[]),(13,[]),(14,[]),(15,[]),(0,[]),(4,[9]),(11,[]),(12,[]),(16,[]),(17,[])])]
abbrev aIk:Nat→List Nat:=eG [(8,[8]),(5,[4,5,6,7])]
abbrev aP9:Nat→Option (List bH):=dI []
abbrev aPa:Nat→List Nat:=eG [(30,[2,12]),(23,[2,11]),(9,[2,5,6])]
abbrev aEp:Nat→Option (List bH):=dI []
abbrev aIl:Nat→List Nat:=eG [(8,[9]),(5,[4,5,6,19])]
def aIm (C:aT) (K:KW) (p1 p5:V) (vs:List V) (S:St) (again2:List V→St→Prop):Prop:=
uX vs fun x2 vs=>
uX vs fun x12 vs=>
qZ 27 p5 S fun t105=>
qB .lss 3 x12 t105 fun t106=>
aV t106 (qX 27 p5 x12 fun t107=>
qL 90 t107 (up S 10) fun t108=>
qE 30 p1 3 27 (up S 10) fun t110=>
qX 27 t110 x12 fun t111=>
qL 90 t111 (up S 10) fun t112=>
(qG .neq 90 t108 t112 fun t113=>
aV t113 (K (.bool false) (up S 10)) (qB .add 3 x12 (jI 1) fun t114=>
again2 [x2,t114] (up S 10)))) (K (.bool true) S)
def aIn (C:aT) (K:KW) (p1 p4 p5:V) (vs:List V) (S:St) (again1:List V→St→Prop):Prop:=
uX vs fun x2 vs=>
uX vs fun x11 vs=>
qZ 96 p4 S fun t88=>
qB .lss 3 x11 t88 fun t89=>
aV t89 (qX 96 p4 x11 fun t90=>
qL 3 t90 (up S 12) fun t91=>
qE 30 p1 1 25 (up S 12) fun t93=>
qX 25 t93 x11 fun t94=>
qE 126 t94 1 3 (up S 12) fun t96=>
qB .sub 3 t96 (jI 1) fun t97=>
(qG .neq 3 t91 t97 fun t98=>
aV t98 (K (.bool false) (up S 12)) (qB .add 3 x11 (jI 1) fun t99=>
again1 [x2,t99] (up S 12)))) (qZ 27 p5 S fun t100=>
qE 30 p1 3 27 S fun t102=>
qZ 27 t102 S fun t103=>
(qG .neq 3 t100 t103 fun t104=>
aV t104 (K (.bool false) S) (iJ [x2,(jI 0)] S (aIm C K p1 p5))))
def aIo (C:aT) (K:KW) (p1 p4:V) (vs:List V) (S:St) (again0:List V→St→Prop):Prop:=
uX vs fun x2 vs=>
uX vs fun x5 vs=>
uX vs fun x6 vs=>
qE 30 p1 2 26 S fun t31=>
qZ 26 t31 S fun t32=>
qB .lss 3 x6 t32 fun t33=>
aV t33 (qE 30 p1 2 26 S fun t35=>
qX 26 t35 x6 fun t36=>
qL 84 t36 S fun t37=>
qN S 12 [.str [],jI 0,jI 0,jI 0,jI 0,jI 0,jI 0,jI 0,.nils,.str [],jI 0,.bool false] fun r38=>
qS 84 (pt r38) t37 r38.2 fun S39=>
qE 30 p1 1 25 S39 fun t41=>
qF 84 (pt r38) 0 fun t42=>
qE 57 t42 0 9 S39 fun t44=>
C 117 [t41,t44] S39 fun t45 S46=>
qB .lss 3 t45 (jI 0) fun t47=>
aV t47 (K (.bool false) (up S46 32)) (qF 84 (pt r38) 0 fun t48=>
qE 57 t48 1 3 (up S46 32) fun t50=>
qX 96 p4 t45 fun t51=>
qL 3 t51 (up S46 32) fun t52=>
qB .add 3 t52 (jI 1) fun t53=>
(qG .neq 3 t50 t53 fun t54=>
aV t54 (K (.bool false) (up S46 32)) (qE 84 (pt r38) 1 52 (up S46 32) fun t56=>
C 118 [t56] (up S46 32) fun t57 S58=>
wR (unV .not t57) fun t59=>
aV t59 (K (.bool false) S58) (qE 84 (pt r38) 2 82 S58 fun t61=>
C 119 [t61] S58 fun t62 S63=>
wR (unV .not t62) fun t64=>
aV t64 (K (.bool false) S63) (qE 30 p1 2 26 S63 fun t66=>
C 120 [t66,x6] S63 fun t67 S68=>
wR (unV .not t67) fun t69=>
aV t69 (K (.bool false) S68) (qX 96 p4 t45 fun t70=>
qL 3 t70 S68 fun t71=>
qB .add 3 t71 (jI 1) fun t72=>
qX 96 p4 t45 fun t73=>
qS 3 t73 t72 S68 fun S74=>
qE 84 (pt r38) 2 82 S74 fun t76=>
C 121 [t76] S74 fun t77 S78=>
lD t77 0 fun t79=>
lD t77 1 fun t80=>
(qG .neq 3 t80 (jI 0) fun t81=>
aV t81 (K (.bool false) S78) (C 122 [x5,t79] S78 fun t82 S83=>
lD t82 0 fun t84=>
lD t82 1 fun t85=>
(qG .neq 3 t85 (jI 0) fun t86=>
aV t86 (K (.bool false) S83) (qB .add 3 x6 (jI 1) fun t87=>
again0 [x2,t84,t87] S83))))))))))) (iJ [x2,(jI 0)] S (aIn C K p1 p4 x5))
def aEq (C:aT) (K:KW) (p1:V) (S:St):Prop:=
qE 30 p1 1 25 S fun t27=>
qZ 25 t27 S fun t28=>
wR (dF prog 96 t28 t28 none S) fun r29=>
iJ [(.bool false),(.nils),(jI 0)] r29.2 (aIo C K p1 r29.1)
def m38 (C:aT) (a0:V) (S:St) (K:KW):Prop:=
(qA a0 S fun r0=>
qE 30 (pt r0) 0 24 r0.2 fun t2=>
C 114 [t2] r0.2 fun t3 S4=>
wR (unV .not t3) fun t5=>
aV t5 (K (.bool false) S4) (qE 30 (pt r0) 1 25 S4 fun t7=>
C 115 [t7] S4 fun t8 S9=>
wR (unV .not t8) fun t10=>
aV t10 (K (.bool false) S9) (qE 30 (pt r0) 4 28 S9 fun t12=>
C 116 [t12] S9 fun t13 S14=>
wR (unV .not t13) fun t15=>
aV t15 (K (.bool false) S14) (qE 30 (pt r0) 2 26 S14 fun t17=>
qZ 26 t17 S14 fun t18=>
qB .gtr 3 t18 (jI 40) fun t19=>
aV t19 (K (.bool false) S14) (qE 30 (pt r0) 5 3 S14 fun t21=>
qB .lss 3 t21 (jI 1) fun t22=>
aV t22 (K (.bool false) S14) (qE 30 (pt r0) 5 3 S14 fun t24=>
qB .gtr 3 t24 (jI 1099511627776) fun t25=>
aV t25 (K (.bool false) S14) (qE 30 (pt r0) 4 28 S14 fun t116=>
qZ 28 t116 S14 fun t117=>
qB .gtr 3 t117 (jI 0) fun t118=>
aV t118 (qE 30 (pt r0) 4 28 (up S14 14) fun t120=>
qB .sub 3 t117 (jI 1) fun t121=>
qX 28 t120 t121 fun t122=>
qE 132 t122 0 3 (up S14 14) fun t124=>
qE 30 (pt r0) 5 3 (up S14 14) fun t126=>
qB .geq 3 t124 t126 fun t127=>
aV t127 (K (.bool false) (up S14 14)) (aEq C K (pt r0) (up S14 14))) (aEq C K (pt r0) (up S14 14)))))))))
theorem aYh:(fun (C:aT) (a0:V) (S:St) (K:KW)=>fD prog C aP9 aPa 38 [a0] S K)=fun C a0 S K=>m38 C a0 S K:=by kernel_rfl
theorem t38 (C:aT) (a0:V) (S:St) (K:KW):fD prog C aP9 aPa 38 [a0] S K=m38 C a0 S K:=congrFun (congrFun (congrFun (congrFun aYh C) a0) S) K
theorem v38 {a0:V} {v:V} (hc:cloVs [a0]=true) (h:m38 C a0 ⟨0,.nil⟩ fun v0 S0=>fW S0 v0=.ok v):Fv 38 [a0] v:=Go.AM.Fn.of (p:=aP9) (lv:=aPa) (by kernel_rfl) hc (by rw [t38];exact h)
def zD (C:aT) (K:KW) (again0:List V→St→Prop) (p1 p2 p3 p4:V) (S:St):Prop:=
qE 145 p4 2 3 S fun t20=>
qE 145 p4 1 3 S fun t22=>
C 160 [t20,t22] S fun t23 S24=>
lD t23 0 fun t25=>
lD t23 1 fun t26=>
(qG .neq 3 t26 (jI 0) fun t27=>
aV t27 (K (.bool false) S24) (qE 145 p4 3 3 S24 fun t29=>
(qG .neq 3 t25 t29 fun t30=>
aV t30 (K (.bool false) S24) (qB .add 3 p3 (jI 1) fun t31=>
again0 [p2,t31] S24))))
def aEr (C:aT) (K:KW) (p1:V) (vs:List V) (S:St) (again0:List V→St→Prop):Prop:=
uX vs fun x2 vs=>
uX vs fun x3 vs=>
qE 82 p1 3 80 S fun t10=>
qZ 80 t10 S fun t11=>
qB .lss 3 x3 t11 fun t12=>
aV t12 (qE 82 p1 3 80 S fun t14=>
qX 80 t14 x3 fun t15=>
qL 145 t15 S fun t16=>
qN S 4 [.str [],jI 0,jI 0,jI 0] fun r17=>
qS 145 (pt r17) t16 r17.2 fun S18=>
qE 145 (pt r17) 0 9 (up S18 30) fun t33=>
C 195 [t33] (up S18 30) fun t34 S35=>
wR (unV .not t34) fun t36=>
aV t36 (K (.bool false) S35) (qE 145 (pt r17) 1 3 S35 fun t38=>
qB .lss 3 t38 (jI 0) fun t39=>
aV t39 (K (.bool false) S35) (qE 145 (pt r17) 1 3 S35 fun t41=>
qB .gtr 3 t41 (jI 100000) fun t42=>
aV t42 (K (.bool false) S35) (qB .gtr 3 x3 (jI 0) fun t43=>
aV t43 (qE 82 p1 3 80 S35 fun t45=>
qB .sub 3 x3 (jI 1) fun t46=>
qX 80 t45 t46 fun t47=>
qE 145 t47 0 9 S35 fun t49=>
qE 145 (pt r17) 0 9 S35 fun t51=>
qB .geq 9 t49 t51 fun t52=>
aV t52 (K (.bool false) S35) (zD C K again0 p1 x2 x3 (pt r17) S35)) (zD C K again0 p1 x2 x3 (pt r17) S35))))) (qE 82 p1 3 80 S fun t54=>
C 161 [t54] S fun t55 S56=>
lD t55 0 fun t57=>
lD t55 1 fun t58=>
lD t55 2 fun t59=>
C 127 [t57,t58] S56 fun t60 S61=>
lD t60 0 fun t62=>
lD t60 1 fun t63=>
aV t59 ((qG .eql 3 t63 (jI 0) fun t64=>
aV t64 (qE 82 p1 0 3 S61 fun t66=>
(qG .eql 3 t57 t66 fun t67=>
aV t67 (qE 82 p1 1 3 S61 fun t69=>
(qG .eql 3 t58 t69 fun t70=>
aV t70 (qE 82 p1 2 3 S61 fun t72=>
(qG .eql 3 t62 t72 fun t73=>
K t73 S61)) (K (.bool false) S61))) (K (.bool false) S61))) (K (.bool false) S61))) (K (.bool false) S61))
def aT7 (C:aT) (a0:V) (S:St) (K:KW):Prop:=
(qA a0 S fun r0=>
qE 82 (pt r0) 3 80 r0.2 fun t2=>
qZ 80 t2 r0.2 fun t3=>
(qG .eql 3 t3 (jI 0) fun t4=>
aV t4 (K (.bool false) r0.2) (qE 82 (pt r0) 3 80 r0.2 fun t6=>
qZ 80 t6 r0.2 fun t7=>
qB .gtr 3 t7 (jI 12) fun t8=>
aV t8 (K (.bool false) r0.2) (iJ [(.bool false),(jI 0)] r0.2 (aEr C K (pt r0))))))
theorem aT8:(fun (C:aT) (a0:V) (S:St) (K:KW)=>fD prog C aIi aIj 119 [a0] S K)=fun C a0 S K=>aT7 C a0 S K:=by kernel_rfl
theorem bHu (C:aT) (a0:V) (S:St) (K:KW):fD prog C aIi aIj 119 [a0] S K=aT7 C a0 S K:=congrFun (congrFun (congrFun (congrFun aT8 C) a0) S) K
theorem bHv {a0:V} {v:V} (hc:cloVs [a0]=true) (h:aT7 C a0 ⟨0,.nil⟩ fun v0 S0=>fW S0 v0=.ok v):Fv 119 [a0] v:=Go.AM.Fn.of (p:=aIi) (lv:=aIj) (by kernel_rfl) hc (by rw [bHu];exact h)
def zF (C:aT) (K:KW) (again0:List V→St→Prop) (p1 p4 p5 p6 p7 p8:V) (S:St):Prop:=
qX 27 p6 p8 fun t7=>
qE 90 t7 1 3 (up S 16) fun t9=>
qX 27 p1 p7 fun t10=>
qE 90 t10 1 3 (up S 16) fun t12=>
C 127 [t9,t12] (up S 16) fun t13 S14=>
lD t13 0 fun t15=>
lD t13 1 fun t16=>
(qG .neq 3 t16 (jI 0) fun t17=>
aV t17 (K (.tup [(.nils),t16]) S14) (qX 27 p6 p8 fun t18=>
qF 90 t18 1 fun t19=>
qS 3 t19 t15 S14 fun S20=>
qB .add 3 p7 (jI 1) fun t21=>
again0 [p4,p5,p6,t21] S20))
def vA (C:aT) (K:KW) (again0:List V→St→Prop) (p1 p4 p5 p6 p7 p8 p58:V) (S:St):Prop:=
aV p58 (wR (gA prog 27 p6 none (some p8)) fun t22=>
qX 27 p1 p7 fun t23=>
qF 90 t23 0 fun t24=>
qL 9 t24 (up S 18) fun t25=>
qD 90 [(0,t25)] fun t26=>
wR (gA prog 27 p6 (some p8) none) fun t27=>
qQ 27 0 [] (some (S.next+0)) (up S 18) fun r28=>
qP 27 r28.1 t22 (some (S.next+4)) r28.2 fun r29=>
qL 9 t24 r29.2 fun t30=>
yN (fV t25 t30) (qQ 27 1 [(0,t26)] (some (S.next+11)) r29.2 fun r31=>
qP 27 r29.1 r31.1 (some (S.next+12)) r31.2 fun r32=>
qP 27 r32.1 t27 (some (S.next+16)) r32.2 fun r33=>
zF C K again0 p1 p4 p5 r33.1 p7 p8 r33.2)) (zF C K again0 p1 p4 p5 p6 p7 p8 S)
def vB (C:aT) (K:KW) (again0:List V→St→Prop) (p1 p4 p5 p6 p7 p8:V) (S:St):Prop:=
qZ 27 p6 (up S 17) fun t34=>
(qG .eql 3 p8 t34 fun t35=>
aV t35 (vA C K again0 p1 p4 p5 p6 p7 p8 (.bool true) (up S 17)) (qX 27 p6 p8 fun t36=>
qE 90 t36 0 9 (up S 17) fun t38=>
qX 27 p1 p7 fun t39=>
qE 90 t39 0 9 (up S 17) fun t41=>
(qG .neq 9 t38 t41 fun t42=>
vA C K again0 p1 p4 p5 p6 p7 p8 t42 (up S 17))))
def aEs (C:aT) (K:KW) (again0:List V→St→Prop) (p1 p4 p5 p6 p7:V) (vs:List V) (S:St) (again1:List V→St→Prop):Prop:=
uX vs fun x8 vs=>
qZ 27 p6 (up S 17) fun t43=>
qB .lss 3 x8 t43 fun t44=>
aV t44 (qX 27 p6 x8 fun t45=>
qE 90 t45 0 9 (up S 17) fun t47=>
qX 27 p1 p7 fun t48=>
qE 90 t48 0 9 (up S 17) fun t50=>
qB .lss 9 t47 t50 fun t51=>
aV t51 (qB .add 3 x8 (jI 1) fun t52=>
again1 [t52] (up S 17)) (vB C K again0 p1 p4 p5 p6 p7 x8 (up S 17))) (vB C K again0 p1 p4 p5 p6 p7 x8 (up S 17))
def aEt (C:aT) (K:KW) (p1:V) (vs:List V) (S:St) (again0:List V→St→Prop):Prop:=
uX vs fun x4 vs=>
uX vs fun x5 vs=>
uX vs fun x6 vs=>
uX vs fun x7 vs=>
qZ 27 p1 S fun t5=>
qB .lss 3 x7 t5 fun t6=>
aV t6 (iJ [(jI 0)] S (aEs C K again0 p1 x4 x5 x6 x7)) (K (.tup [x6,(jI 0)]) S)
def aT9 (C:aT) (a0 a1:V) (S:St) (K:KW):Prop:=
C 199 [a0] S fun t0 S1=>
wR (unV .not t0) fun t2=>
aV t2 (K (.tup [(.nils),(jI 1)]) S1) (qQ 27 0 [] none S1 fun r3=>
qP 27 r3.1 a0 none r3.2 fun r4=>
iJ [(.nils),(jI 0),r4.1,(jI 0)] r4.2 (aEt C K a1))
theorem aTa:(fun (C:aT) (a0 a1:V) (S:St) (K:KW)=>fD prog C aEo aIk 122 [a0,a1] S K)=fun C a0 a1 S K=>aT9 C a0 a1 S K:=by kernel_rfl
theorem t122 (C:aT) (a0 a1:V) (S:St) (K:KW):fD prog C aEo aIk 122 [a0,a1] S K=aT9 C a0 a1 S K:=congrFun (congrFun (congrFun (congrFun (congrFun aTa C) a0) a1) S) K
theorem bHw {a0 a1:V} {v:V} (hc:cloVs [a0,a1]=true) (h:aT9 C a0 a1 ⟨0,.nil⟩ fun v0 S0=>fW S0 v0=.ok v):Fv 122 [a0,a1] v:=Go.AM.Fn.of (p:=aEo) (lv:=aIk) (by kernel_rfl) hc (by rw [t122];exact h)
theorem bAn:mE 122=some (.val aEo):=by kernel_rfl
def zG (C:aT) (K:KW) (again0:List V→St→Prop) (p4 p5 p6 p8 p9 p17 p18 p19:V) (S:St):Prop:=
qX 27 p6 p9 fun t10=>
qE 90 t10 1 3 (up S 13) fun t12=>
qE 90 p8 1 3 (up S 13) fun t14=>
C 203 [t12,t14] (up S 13) fun t15 S16=>
lD t15 0 fun t17=>
lD t15 1 fun t18=>
(qG .neq 31 t18 (jI 0) fun t19=>
aV t19 (K (.tup [(.nils),t18]) S16) (qX 27 p6 p9 fun t20=>
qF 90 t20 1 fun t21=>
qS 3 t21 t17 S16 fun S22=>
qB .add 3 p19 (jI 1) fun t23=>
again0 [p4,p5,p6,t23] S22))
def vC (C:aT) (K:KW) (again0:List V→St→Prop) (p4 p5 p6 p8 p9 p17 p18 p19 p52:V) (S:St):Prop:=
aV p52 (qE 90 p8 0 9 S fun t25=>
qD 90 [(0,t25)] fun t26=>
qQ 27 1 [(0,t26)] none S fun r27=>
C 221 [p6,p9,r27.1] r27.2 fun t28 S29=>
zG C K again0 p4 p5 t28 p8 p9 p17 p18 p19 S29) (zG C K again0 p4 p5 p6 p8 p9 p17 p18 p19 S)
def zH (C:aT) (K:KW) (again0:List V→St→Prop) (p4 p5 p6 p8 p9 p17 p18 p19:V) (S:St):Prop:=
qZ 27 p6 (up S 14) fun t30=>
(qG .eql 3 p9 t30 fun t31=>
aV t31 (vC C K again0 p4 p5 p6 p8 p9 p17 p18 p19 (.bool true) (up S 14)) (qX 27 p6 p9 fun t32=>
qE 90 t32 0 9 (up S 14) fun t34=>
qE 90 p8 0 9 (up S 14) fun t36=>
(qG .neq 9 t34 t36 fun t37=>
vC C K again0 p4 p5 p6 p8 p9 p17 p18 p19 t37 (up S 14))))
def aEu (C:aT) (K:KW) (again0:List V→St→Prop) (p4 p5 p6 p8 p17 p18 p19:V) (vs:List V) (S:St) (again1:List V→St→Prop):Prop:=
uX vs fun x9 vs=>
qZ 27 p6 (up S 14) fun t38=>
qB .lss 3 x9 t38 fun t39=>
aV t39 (qX 27 p6 x9 fun t40=>
qE 90 t40 0 9 (up S 14) fun t42=>
qE 90 p8 0 9 (up S 14) fun t44=>
qB .lss 9 t42 t44 fun t45=>
aV t45 (qB .add 3 x9 (jI 1) fun t46=>
again1 [t46] (up S 14)) (zH C K again0 p4 p5 p6 p8 x9 p17 p18 p19 (up S 14))) (zH C K again0 p4 p5 p6 p8 x9 p17 p18 p19 (up S 14))
def aEv (C:aT) (K:KW) (p17 p18:V) (vs:List V) (S:St) (again0:List V→St→Prop):Prop:=
uX vs fun x4 vs=>
uX vs fun x5 vs=>
uX vs fun x6 vs=>
uX vs fun x19 vs=>
qB .lss 3 x19 p18 fun t5=>
aV t5 (qX 27 p17 x19 fun t6=>
qL 90 t6 S fun t7=>
qN S 2 [.str [],jI 0] fun r8=>
qS 90 (pt r8) t7 r8.2 fun S9=>
iJ [(jI 0)] S9 (aEu C K again0 x4 x5 x6 (pt r8) p17 p18 x19)) (K (.tup [x6,(jI 0)]) S)
def aTb (C:aT) (a0 a1:V) (S:St) (K:KW):Prop:=
C 220 [a0] S fun t0 S1=>
wR (unV .not t0) fun t2=>
aV t2 (K (.tup [(.nils),(jI 1)]) S1) (qP 27 (.nils) a0 none S1 fun r3=>
qZ 27 a1 r3.2 fun t4=>
iJ [(.nils),(jI 0),r3.1,(jI 0)] r3.2 (aEv C K a1 t4))
theorem aTc:(fun (C:aT) (a0 a1:V) (S:St) (K:KW)=>fD prog C aEp aIl 158 [a0,a1] S K)=fun C a0 a1 S K=>aTb C a0 a1 S K:=by kernel_rfl
theorem aYi (C:aT) (a0 a1:V) (S:St) (K:KW):fD prog C aEp aIl 158 [a0,a1] S K=aTb C a0 a1 S K:=congrFun (congrFun (congrFun (congrFun (congrFun aTc C) a0) a1) S) K
theorem bHx {a0 a1:V} {v:V} (hc:cloVs [a0,a1]=true) (h:aTb C a0 a1 ⟨0,.nil⟩ fun v0 S0=>fW S0 v0=.ok v):Fv 158 [a0,a1] v:=Go.AM.Fn.of (p:=aEp) (lv:=aIl) (by kernel_rfl) hc (by rw [aYi];exact h)
theorem bAo:mE 158=some (.val aEp):=by kernel_rfl
abbrev App (T n b:Nat):Prop:=∀ (s x:V) (fr:Option Nat) (S:St),fO prog T s x fr S=eW n b s x fr S
abbrev Bd (T:Nat) (z:List V) (pl:List (Nat×Nat)):Prop:=∀ parts:List (Nat×V),mW prog T parts=tE z pl parts
abbrev Bs (T n:Nat) (z:List V):Prop:=∀ (len:Nat) (parts:List (Nat×V)) (fr:Option Nat) (S:St),cT prog T len parts fr S=cW n z len parts fr S
abbrev Cv (s d:Nat) (k:IntKind):Prop:=∀ (j:IntKind) (n:Int) (fr:Option Nat) (S:St),dJ prog s d (.int j n) fr S=.ok (.int k (wr k n),S)
abbrev Fa (s f o:Nat):Prop:=∀ p:V,dQ prog s p f=advW o p
abbrev Ix (T n:Nat):Prop:=∀ x i:V,dA prog T x i=fK n x i
abbrev Ld (T:Nat) (k:Option Nat):Prop:=∀ (p:V) (S:St),kO prog T p S=fN k p S
abbrev Ln (T:Nat):Prop:=∀ (x:V) (S:St),vS prog T x S=lenW x
abbrev Sl_ (T n:Nat):Prop:=∀ (a ver off len:Nat) (lo hi:Option V),gA prog T (.sl a ver n off len) lo hi=(match dR len lo hi with
  | .ok (l,h)=>.ok (.sl a ver n (off+l) (h - l))
  | .error e=>.error e)
abbrev Si (T n:Nat):Prop:=∀ (es:List (List V)) (hl:jF n es=true) (lo hi:Option V),gA prog T (.imm es) lo hi=(match dR es.length lo hi with
  | .ok (l,h)=>.ok (.imm ((es.take h).drop l))
  | .error e=>.error e)
abbrev Sr (T n:Nat):Prop:=∀ (p x:V) (S:St),mV prog T p x S=dT n p x S
theorem aPc:App 102 23 224:=cR (by kernel_rfl)
theorem aVf:App 22 1 1:=cR (by kernel_rfl)
theorem aVg:App 24 5 48:=cR (by kernel_rfl)
theorem aVh:App 25 4 40:=cR (by kernel_rfl)
theorem aVi:App 26 12 128:=cR (by kernel_rfl)
theorem aVj:App 27 2 24:=cR (by kernel_rfl)
theorem aVk:App 28 5 40:=cR (by kernel_rfl)
theorem aVl:App 44 17 176:=cR (by kernel_rfl)
theorem aVm:App 55 4 48:=cR (by kernel_rfl)
theorem aVn:App 62 3 24:=cR (by kernel_rfl)
theorem aVo:App 71 4 40:=cR (by kernel_rfl)
theorem aVp:App 80 4 40:=cR (by kernel_rfl)
theorem aVq:App 96 1 8:=cR (by kernel_rfl)
theorem aVr:App 97 23 224:=cR (by kernel_rfl)
theorem aVs:Bd 126 [.str [],.int .i64 0,.int .i64 0,.bool false] [(0,1),(1,1),(2,1),(3,1)]:=bQ (by kernel_rfl)
theorem aVt:Bd 132 [.int .i64 0,.int .i64 0,.int .i64 0,.int .i64 0,.int .i64 0] [(0,1),(1,1),(2,3)]:=bQ (by kernel_rfl)
theorem aVu:Bd 142 [.nils,.int .i64 0,.int .i64 0] [(0,1),(1,1),(2,1)]:=bQ (by kernel_rfl)
theorem aVv:Bd 145 [.str [],.int .i64 0,.int .i64 0,.int .i64 0] [(0,1),(1,1),(2,1),(3,1)]:=bQ (by kernel_rfl)
theorem aVw:Bd 160 [.nils] [(0,1)]:=bQ (by kernel_rfl)
theorem aVx:Bd 201 [.str [],.str [],.int .i64 0,.int .i64 0] [(0,1),(1,1),(2,1),(3,1)]:=bQ (by kernel_rfl)
theorem aVy:Bd 207 [.int .i64 0,.int .i64 0,.int .i64 0,.str [],.int .i64 0,.str [],.int .i64 0,.int .i64 0,.int .i64 0,.int .i64 0,.int .i64 0,.int .i64 0,.int .i64 0,.nils,.str [],.int .i64 0,.int .i64 0,.int .i64 0,.int .i64 0,.int .i64 0,.int .i64 0,.int .i64 0,.int .i64 0] [(0,17),(17,1),(18,1),(19,1),(20,3)]:=bQ (by kernel_rfl)
theorem aVz:Bd 212 [.nili] [(0,1)]:=bQ (by kernel_rfl)
theorem aW0:Bd 225 [.nils,.int .i64 0,.int .i64 0] [(0,1),(1,1),(2,1)]:=bQ (by kernel_rfl)
theorem aW1:Bd 287 [.nils,.bool false] [(0,1),(1,1)]:=bQ (by kernel_rfl)
theorem bAp:Bd 30 [.nils,.nils,.nils,.nils,.nils,.int .i64 0] [(0,1),(1,1),(2,1),(3,1),(4,1),(5,1)]:=bQ (by kernel_rfl)
theorem aW2:Bd 346 [.int .i64 0,.int .u64 0] [(0,1),(1,1)]:=bQ (by kernel_rfl)
theorem bAq:Bd 48 [.int .i64 0,.int .i64 0,.int .i64 0] [(0,1),(1,1),(2,1)]:=bQ (by kernel_rfl)
theorem bAr:Bd 52 [.int .i64 0,.int .i64 0,.int .i64 0] [(0,1),(1,1),(2,1)]:=bQ (by kernel_rfl)
theorem bAs:Bd 54 [.str [],.int .i64 0,.int .i64 0,.int .i64 0,.int .i64 0] [(0,1),(1,3),(4,1)]:=bQ (by kernel_rfl)
theorem bAt:Bd 57 [.str [],.int .i64 0] [(0,1),(1,1)]:=bQ (by kernel_rfl)
theorem bAu:Bd 59 [.int .i64 0,.str [],.int .i64 0,.str [],.int .i64 0,.int .i64 0,.int .i64 0,.int .i64 0,.int .i64 0,.int .i64 0,.int .i64 0,.nils,.str [],.int .i64 0,.int .i64 0] [(0,1),(1,1),(2,1),(3,5),(8,3),(11,1),(12,2),(14,1)]:=bQ (by kernel_rfl)
theorem bAv:Bd 61 [.int .i64 0,.int .i64 0,.int .i64 0,.str [],.int .i64 0,.str [],.int .i64 0,.int .i64 0,.int .i64 0,.int .i64 0,.int .i64 0,.int .i64 0,.int .i64 0,.nils,.str [],.int .i64 0,.int .i64 0] [(0,1),(1,1),(2,15)]:=bQ (by kernel_rfl)
theorem bAw:Bd 76 [.str [],.int .i64 0,.int .i64 0,.int .i64 0] [(0,1),(1,1),(2,1),(3,1)]:=bQ (by kernel_rfl)
theorem bAx:Bd 77 [.str [],.int .i64 0,.int .i64 0,.int .i64 0] [(0,1),(1,1),(2,1),(3,1)]:=bQ (by kernel_rfl)
theorem bAy:Bd 82 [.int .i64 0,.int .i64 0,.int .i64 0,.nils] [(0,1),(1,1),(2,1),(3,1)]:=bQ (by kernel_rfl)
theorem bAz:Bd 84 [.str [],.int .i64 0,.int .i64 0,.int .i64 0,.int .i64 0,.int .i64 0,.int .i64 0,.int .i64 0,.nils,.str [],.int .i64 0,.bool false] [(0,2),(2,3),(5,4),(9,2),(11,1)]:=bQ (by kernel_rfl)
theorem bB0:Bd 90 [.str [],.int .i64 0] [(0,1),(1,1)]:=bQ (by kernel_rfl)
theorem bB1:Bd 99 [.int .i64 0,.int .i64 0,.int .i64 0,.str [],.int .i64 0,.str [],.int .i64 0,.int .i64 0,.int .i64 0,.int .i64 0,.int .i64 0,.int .i64 0,.int .i64 0,.nils,.str [],.int .i64 0,.int .i64 0,.int .i64 0,.int .i64 0,.int .i64 0,.int .i64 0,.int .i64 0,.int .i64 0] [(0,17),(17,1),(18,1),(19,1),(20,3)]:=bQ (by kernel_rfl)
theorem aW3:Bs 102 23 [.int .i64 0,.int .i64 0,.int .i64 0,.str [],.int .i64 0,.str [],.int .i64 0,.int .i64 0,.int .i64 0,.int .i64 0,.int .i64 0,.int .i64 0,.int .i64 0,.nils,.str [],.int .i64 0,.int .i64 0,.int .i64 0,.int .i64 0,.int .i64 0,.int .i64 0,.int .i64 0,.int .i64 0]:=aZ (by kernel_rfl)
theorem bB2:Bs 22 1 [.int .u8 0]:=aZ (by kernel_rfl)
theorem bB3:Bs 24 5 [.str [],.int .i64 0,.int .i64 0,.int .i64 0,.int .i64 0]:=aZ (by kernel_rfl)
theorem bB4:Bs 25 4 [.str [],.int .i64 0,.int .i64 0,.bool false]:=aZ (by kernel_rfl)
theorem bB5:Bs 26 12 [.str [],.int .i64 0,.int .i64 0,.int .i64 0,.int .i64 0,.int .i64 0,.int .i64 0,.int .i64 0,.nils,.str [],.int .i64 0,.bool false]:=aZ (by kernel_rfl)
theorem bB6:Bs 27 2 [.str [],.int .i64 0]:=aZ (by kernel_rfl)
theorem bB7:Bs 28 5 [.int .i64 0,.int .i64 0,.int .i64 0,.int .i64 0,.int .i64 0]:=aZ (by kernel_rfl)
theorem aW4:Bs 361 1 [.nilp]:=aZ (by kernel_rfl)
theorem aW5:Bs 364 1 [.str []]:=aZ (by kernel_rfl)
theorem bB8:Bs 44 17 [.int .i64 0,.int .i64 0,.int .i64 0,.str [],.int .i64 0,.str [],.int .i64 0,.int .i64 0,.int .i64 0,.int .i64 0,.int .i64 0,.int .i64 0,.int .i64 0,.nils,.str [],.int .i64 0,.int .i64 0]:=aZ (by kernel_rfl)
theorem bB9:Bs 55 4 [.str [],.str [],.int .i64 0,.int .i64 0]:=aZ (by kernel_rfl)
theorem bBa:Bs 62 3 [.int .i64 0,.int .i64 0,.int .i64 0]:=aZ (by kernel_rfl)
theorem bBb:Bs 68 4 [.str [],.int .i64 0,.int .i64 0,.int .i64 0]:=aZ (by kernel_rfl)
theorem bBc:Bs 71 4 [.str [],.int .i64 0,.int .i64 0,.int .i64 0]:=aZ (by kernel_rfl)
theorem bBd:Bs 80 4 [.str [],.int .i64 0,.int .i64 0,.int .i64 0]:=aZ (by kernel_rfl)
theorem bBe:Bs 96 1 [.int .i64 0]:=aZ (by kernel_rfl)
theorem bBf:Bs 97 23 [.int .i64 0,.int .i64 0,.int .i64 0,.str [],.int .i64 0,.str [],.int .i64 0,.int .i64 0,.int .i64 0,.int .i64 0,.int .i64 0,.int .i64 0,.int .i64 0,.nils,.str [],.int .i64 0,.int .i64 0,.int .i64 0,.int .i64 0,.int .i64 0,.int .i64 0,.int .i64 0,.int .i64 0]:=aZ (by kernel_rfl)
theorem aJr:Cv 229 3 .i64:=jZ (by kernel_rfl)
theorem aJs:Cv 229 5 .u8:=jZ (by kernel_rfl)
theorem aJt:Cv 3 229 .u64:=jZ (by kernel_rfl)
theorem aJu:Cv 3 231 .u64:=jZ (by kernel_rfl)
theorem aJv:Cv 5 229 .u64:=jZ (by kernel_rfl)
theorem aYj:(fun (a_0:List UInt8) (a_1:Int) (a_2:Int) (a_3:Bool) (b_0:List UInt8) (b_1:Int) (b_2:Int) (b_3:Bool)=>pO prog 100 126 (.agg [.str a_0,.int .i64 a_1,.int .i64 a_2,.bool a_3]) (.agg [.str b_0,.int .i64 b_1,.int .i64 b_2,.bool b_3]))=fun a_0 a_1 a_2 a_3 b_0 b_1 b_2 b_3=>(fG (.ok (oE a_0 b_0)) (fG (.ok (decide (a_1=b_1))) (fG (.ok (decide (a_2=b_2))) (fG (.ok (a_3 == b_3)) (.ok true))))):=by kernel_rfl
theorem aW6 (a_0:List UInt8) (a_1:Int) (a_2:Int) (a_3:Bool) (b_0:List UInt8) (b_1:Int) (b_2:Int) (b_3:Bool):pO prog 100 126 (.agg [.str a_0,.int .i64 a_1,.int .i64 a_2,.bool a_3]) (.agg [.str b_0,.int .i64 b_1,.int .i64 b_2,.bool b_3])=.ok ((a_0 == b_0)&&decide (a_1=b_1)&&decide (a_2=b_2)&&(a_3 == b_3)):=by
 refine (congrFun (congrFun (congrFun (congrFun (congrFun (congrFun (congrFun (congrFun aYj a_0) a_1) a_2) a_3) b_0) b_1) b_2) b_3).trans ?_
 simp only [iV,dC,Bool.and_true,Bool.and_assoc]
theorem bBg:(fun a b=>bI prog 126 (.agg a) (.agg b))=fun _ _=>true:=by kernel_rfl
theorem aW7 (a b:List V):bI prog 126 (.agg a) (.agg b)=true:=congrFun (congrFun bBg a) b
theorem aYk:(fun (a_0:Int) (a_1:Int) (a_2_0:Int) (a_2_1:Int) (a_2_2:Int) (b_0:Int) (b_1:Int) (b_2_0:Int) (b_2_1:Int) (b_2_2:Int)=>pO prog 100 132 (.agg [.int .i64 a_0,.int .i64 a_1,.int .i64 a_2_0,.int .i64 a_2_1,.int .i64 a_2_2]) (.agg [.int .i64 b_0,.int .i64 b_1,.int .i64 b_2_0,.int .i64 b_2_1,.int .i64 b_2_2]))=fun a_0 a_1 a_2_0 a_2_1 a_2_2 b_0 b_1 b_2_0 b_2_1 b_2_2=>(fG (.ok (decide (a_0=b_0))) (fG (.ok (decide (a_1=b_1))) (fG (fG (.ok (decide (a_2_0=b_2_0))) (fG (.ok (decide (a_2_1=b_2_1))) (fG (.ok (decide (a_2_2=b_2_2))) (.ok true)))) (.ok true)))):=by kernel_rfl
theorem aW8 (a_0:Int) (a_1:Int) (a_2_0:Int) (a_2_1:Int) (a_2_2:Int) (b_0:Int) (b_1:Int) (b_2_0:Int) (b_2_1:Int) (b_2_2:Int):pO prog 100 132 (.agg [.int .i64 a_0,.int .i64 a_1,.int .i64 a_2_0,.int .i64 a_2_1,.int .i64 a_2_2]) (.agg [.int .i64 b_0,.int .i64 b_1,.int .i64 b_2_0,.int .i64 b_2_1,.int .i64 b_2_2])=.ok (decide (a_0=b_0)&&decide (a_1=b_1)&&decide (a_2_0=b_2_0)&&decide (a_2_1=b_2_1)&&decide (a_2_2=b_2_2)):=by
 refine (congrFun (congrFun (congrFun (congrFun (congrFun (congrFun (congrFun (congrFun (congrFun (congrFun aYk a_0) a_1) a_2_0) a_2_1) a_2_2) b_0) b_1) b_2_0) b_2_1) b_2_2).trans ?_
 simp only [iV,dC,Bool.and_true,Bool.and_assoc]
theorem bBh:(fun a b=>bI prog 132 (.agg a) (.agg b))=fun _ _=>true:=by kernel_rfl
theorem aW9 (a b:List V):bI prog 132 (.agg a) (.agg b)=true:=congrFun (congrFun bBh a) b
theorem aYl:(fun (a_0:List UInt8) (a_1:Int) (a_2:Int) (a_3:Int) (b_0:List UInt8) (b_1:Int) (b_2:Int) (b_3:Int)=>pO prog 100 145 (.agg [.str a_0,.int .i64 a_1,.int .i64 a_2,.int .i64 a_3]) (.agg [.str b_0,.int .i64 b_1,.int .i64 b_2,.int .i64 b_3]))=fun a_0 a_1 a_2 a_3 b_0 b_1 b_2 b_3=>(fG (.ok (oE a_0 b_0)) (fG (.ok (decide (a_1=b_1))) (fG (.ok (decide (a_2=b_2))) (fG (.ok (decide (a_3=b_3))) (.ok true))))):=by kernel_rfl
theorem aWa (a_0:List UInt8) (a_1:Int) (a_2:Int) (a_3:Int) (b_0:List UInt8) (b_1:Int) (b_2:Int) (b_3:Int):pO prog 100 145 (.agg [.str a_0,.int .i64 a_1,.int .i64 a_2,.int .i64 a_3]) (.agg [.str b_0,.int .i64 b_1,.int .i64 b_2,.int .i64 b_3])=.ok ((a_0 == b_0)&&decide (a_1=b_1)&&decide (a_2=b_2)&&decide (a_3=b_3)):=by
 refine (congrFun (congrFun (congrFun (congrFun (congrFun (congrFun (congrFun (congrFun aYl a_0) a_1) a_2) a_3) b_0) b_1) b_2) b_3).trans ?_
 simp only [iV,dC,Bool.and_true,Bool.and_assoc]
theorem bBi:(fun a b=>bI prog 145 (.agg a) (.agg b))=fun _ _=>true:=by kernel_rfl
theorem aWb (a b:List V):bI prog 145 (.agg a) (.agg b)=true:=congrFun (congrFun bBi a) b
theorem aYm:(fun (a_0:List UInt8) (a_1:List UInt8) (a_2:Int) (a_3:Int) (b_0:List UInt8) (b_1:List UInt8) (b_2:Int) (b_3:Int)=>pO prog 100 201 (.agg [.str a_0,.str a_1,.int .i64 a_2,.int .i64 a_3]) (.agg [.str b_0,.str b_1,.int .i64 b_2,.int .i64 b_3]))=fun a_0 a_1 a_2 a_3 b_0 b_1 b_2 b_3=>(fG (.ok (oE a_0 b_0)) (fG (.ok (oE a_1 b_1)) (fG (.ok (decide (a_2=b_2))) (fG (.ok (decide (a_3=b_3))) (.ok true))))):=by kernel_rfl
theorem aWc (a_0:List UInt8) (a_1:List UInt8) (a_2:Int) (a_3:Int) (b_0:List UInt8) (b_1:List UInt8) (b_2:Int) (b_3:Int):pO prog 100 201 (.agg [.str a_0,.str a_1,.int .i64 a_2,.int .i64 a_3]) (.agg [.str b_0,.str b_1,.int .i64 b_2,.int .i64 b_3])=.ok ((a_0 == b_0)&&(a_1 == b_1)&&decide (a_2=b_2)&&decide (a_3=b_3)):=by
 refine (congrFun (congrFun (congrFun (congrFun (congrFun (congrFun (congrFun (congrFun aYm a_0) a_1) a_2) a_3) b_0) b_1) b_2) b_3).trans ?_
 simp only [iV,dC,Bool.and_true,Bool.and_assoc]
theorem bBj:(fun a b=>bI prog 201 (.agg a) (.agg b))=fun _ _=>true:=by kernel_rfl
theorem aWd (a b:List V):bI prog 201 (.agg a) (.agg b)=true:=congrFun (congrFun bBj a) b
theorem aYn:(fun (a_0:Int) (a_1:Int) (b_0:Int) (b_1:Int)=>pO prog 100 346 (.agg [.int .i64 a_0,.int .u64 a_1]) (.agg [.int .i64 b_0,.int .u64 b_1]))=fun a_0 a_1 b_0 b_1=>(fG (.ok (decide (a_0=b_0))) (fG (.ok (decide (a_1=b_1))) (.ok true))):=by kernel_rfl
theorem aWe (a_0:Int) (a_1:Int) (b_0:Int) (b_1:Int):pO prog 100 346 (.agg [.int .i64 a_0,.int .u64 a_1]) (.agg [.int .i64 b_0,.int .u64 b_1])=.ok (decide (a_0=b_0)&&decide (a_1=b_1)):=by
 refine (congrFun (congrFun (congrFun (congrFun aYn a_0) a_1) b_0) b_1).trans ?_
 simp only [iV,dC,Bool.and_true,Bool.and_assoc]
theorem bBk:(fun a b=>bI prog 346 (.agg a) (.agg b))=fun _ _=>true:=by kernel_rfl
theorem aWf (a b:List V):bI prog 346 (.agg a) (.agg b)=true:=congrFun (congrFun bBk a) b
theorem bBl:(fun (a_0:Int) (a_1:Int) (a_2:Int) (b_0:Int) (b_1:Int) (b_2:Int)=>pO prog 100 48 (.agg [.int .i64 a_0,.int .i64 a_1,.int .i64 a_2]) (.agg [.int .i64 b_0,.int .i64 b_1,.int .i64 b_2]))=fun a_0 a_1 a_2 b_0 b_1 b_2=>(fG (.ok (decide (a_0=b_0))) (fG (.ok (decide (a_1=b_1))) (fG (.ok (decide (a_2=b_2))) (.ok true)))):=by kernel_rfl
theorem bBm (a_0:Int) (a_1:Int) (a_2:Int) (b_0:Int) (b_1:Int) (b_2:Int):pO prog 100 48 (.agg [.int .i64 a_0,.int .i64 a_1,.int .i64 a_2]) (.agg [.int .i64 b_0,.int .i64 b_1,.int .i64 b_2])=.ok (decide (a_0=b_0)&&decide (a_1=b_1)&&decide (a_2=b_2)):=by
 refine (congrFun (congrFun (congrFun (congrFun (congrFun (congrFun bBl a_0) a_1) a_2) b_0) b_1) b_2).trans ?_
 simp only [iV,dC,Bool.and_true,Bool.and_assoc]
theorem bHy:(fun a b=>bI prog 48 (.agg a) (.agg b))=fun _ _=>true:=by kernel_rfl
theorem bBn (a b:List V):bI prog 48 (.agg a) (.agg b)=true:=congrFun (congrFun bHy a) b
theorem bBo:(fun (a_0:Int) (a_1:Int) (a_2:Int) (b_0:Int) (b_1:Int) (b_2:Int)=>pO prog 100 52 (.agg [.int .i64 a_0,.int .i64 a_1,.int .i64 a_2]) (.agg [.int .i64 b_0,.int .i64 b_1,.int .i64 b_2]))=fun a_0 a_1 a_2 b_0 b_1 b_2=>(fG (.ok (decide (a_0=b_0))) (fG (.ok (decide (a_1=b_1))) (fG (.ok (decide (a_2=b_2))) (.ok true)))):=by kernel_rfl
theorem bBp (a_0:Int) (a_1:Int) (a_2:Int) (b_0:Int) (b_1:Int) (b_2:Int):pO prog 100 52 (.agg [.int .i64 a_0,.int .i64 a_1,.int .i64 a_2]) (.agg [.int .i64 b_0,.int .i64 b_1,.int .i64 b_2])=.ok (decide (a_0=b_0)&&decide (a_1=b_1)&&decide (a_2=b_2)):=by
 refine (congrFun (congrFun (congrFun (congrFun (congrFun (congrFun bBo a_0) a_1) a_2) b_0) b_1) b_2).trans ?_
 simp only [iV,dC,Bool.and_true,Bool.and_assoc]
theorem bHz:(fun a b=>bI prog 52 (.agg a) (.agg b))=fun _ _=>true:=by kernel_rfl
theorem bBq (a b:List V):bI prog 52 (.agg a) (.agg b)=true:=congrFun (congrFun bHz a) b
theorem bBr:(fun (a_0:List UInt8) (a_1_0:Int) (a_1_1:Int) (a_1_2:Int) (a_2:Int) (b_0:List UInt8) (b_1_0:Int) (b_1_1:Int) (b_1_2:Int) (b_2:Int)=>pO prog 100 54 (.agg [.str a_0,.int .i64 a_1_0,.int .i64 a_1_1,.int .i64 a_1_2,.int .i64 a_2]) (.agg [.str b_0,.int .i64 b_1_0,.int .i64 b_1_1,.int .i64 b_1_2,.int .i64 b_2]))=fun a_0 a_1_0 a_1_1 a_1_2 a_2 b_0 b_1_0 b_1_1 b_1_2 b_2=>(fG (.ok (oE a_0 b_0)) (fG (fG (.ok (decide (a_1_0=b_1_0))) (fG (.ok (decide (a_1_1=b_1_1))) (fG (.ok (decide (a_1_2=b_1_2))) (.ok true)))) (fG (.ok (decide (a_2=b_2))) (.ok true)))):=by kernel_rfl
theorem bBs (a_0:List UInt8) (a_1_0:Int) (a_1_1:Int) (a_1_2:Int) (a_2:Int) (b_0:List UInt8) (b_1_0:Int) (b_1_1:Int) (b_1_2:Int) (b_2:Int):pO prog 100 54 (.agg [.str a_0,.int .i64 a_1_0,.int .i64 a_1_1,.int .i64 a_1_2,.int .i64 a_2]) (.agg [.str b_0,.int .i64 b_1_0,.int .i64 b_1_1,.int .i64 b_1_2,.int .i64 b_2])=.ok ((a_0 == b_0)&&decide (a_1_0=b_1_0)&&decide (a_1_1=b_1_1)&&decide (a_1_2=b_1_2)&&decide (a_2=b_2)):=by
 refine (congrFun (congrFun (congrFun (congrFun (congrFun (congrFun (congrFun (congrFun (congrFun (congrFun bBr a_0) a_1_0) a_1_1) a_1_2) a_2) b_0) b_1_0) b_1_1) b_1_2) b_2).trans ?_
 simp only [iV,dC,Bool.and_true,Bool.and_assoc]
theorem bI0:(fun a b=>bI prog 54 (.agg a) (.agg b))=fun _ _=>true:=by kernel_rfl
theorem bBt (a b:List V):bI prog 54 (.agg a) (.agg b)=true:=congrFun (congrFun bI0 a) b
theorem bBu:(fun (a_0:List UInt8) (a_1:Int) (b_0:List UInt8) (b_1:Int)=>pO prog 100 57 (.agg [.str a_0,.int .i64 a_1]) (.agg [.str b_0,.int .i64 b_1]))=fun a_0 a_1 b_0 b_1=>(fG (.ok (oE a_0 b_0)) (fG (.ok (decide (a_1=b_1))) (.ok true))):=by kernel_rfl
theorem bBv (a_0:List UInt8) (a_1:Int) (b_0:List UInt8) (b_1:Int):pO prog 100 57 (.agg [.str a_0,.int .i64 a_1]) (.agg [.str b_0,.int .i64 b_1])=.ok ((a_0 == b_0)&&decide (a_1=b_1)):=by
 refine (congrFun (congrFun (congrFun (congrFun bBu a_0) a_1) b_0) b_1).trans ?_
 simp only [iV,dC,Bool.and_true,Bool.and_assoc]
theorem bI1:(fun a b=>bI prog 57 (.agg a) (.agg b))=fun _ _=>true:=by kernel_rfl
theorem bBw (a b:List V):bI prog 57 (.agg a) (.agg b)=true:=congrFun (congrFun bI1 a) b
theorem bBx:(fun (a_0:List UInt8) (a_1:Int) (a_2:Int) (a_3:Int) (b_0:List UInt8) (b_1:Int) (b_2:Int) (b_3:Int)=>pO prog 100 76 (.agg [.str a_0,.int .i64 a_1,.int .i64 a_2,.int .i64 a_3]) (.agg [.str b_0,.int .i64 b_1,.int .i64 b_2,.int .i64 b_3]))=fun a_0 a_1 a_2 a_3 b_0 b_1 b_2 b_3=>(fG (.ok (oE a_0 b_0)) (fG (.ok (decide (a_1=b_1))) (fG (.ok (decide (a_2=b_2))) (fG (.ok (decide (a_3=b_3))) (.ok true))))):=by kernel_rfl
theorem bBy (a_0:List UInt8) (a_1:Int) (a_2:Int) (a_3:Int) (b_0:List UInt8) (b_1:Int) (b_2:Int) (b_3:Int):pO prog 100 76 (.agg [.str a_0,.int .i64 a_1,.int .i64 a_2,.int .i64 a_3]) (.agg [.str b_0,.int .i64 b_1,.int .i64 b_2,.int .i64 b_3])=.ok ((a_0 == b_0)&&decide (a_1=b_1)&&decide (a_2=b_2)&&decide (a_3=b_3)):=by
 refine (congrFun (congrFun (congrFun (congrFun (congrFun (congrFun (congrFun (congrFun bBx a_0) a_1) a_2) a_3) b_0) b_1) b_2) b_3).trans ?_
 simp only [iV,dC,Bool.and_true,Bool.and_assoc]
theorem bI2:(fun a b=>bI prog 76 (.agg a) (.agg b))=fun _ _=>true:=by kernel_rfl
theorem bBz (a b:List V):bI prog 76 (.agg a) (.agg b)=true:=congrFun (congrFun bI2 a) b
theorem bC0:(fun (a_0:List UInt8) (a_1:Int) (b_0:List UInt8) (b_1:Int)=>pO prog 100 90 (.agg [.str a_0,.int .i64 a_1]) (.agg [.str b_0,.int .i64 b_1]))=fun a_0 a_1 b_0 b_1=>(fG (.ok (oE a_0 b_0)) (fG (.ok (decide (a_1=b_1))) (.ok true))):=by kernel_rfl
theorem bC1 (a_0:List UInt8) (a_1:Int) (b_0:List UInt8) (b_1:Int):pO prog 100 90 (.agg [.str a_0,.int .i64 a_1]) (.agg [.str b_0,.int .i64 b_1])=.ok ((a_0 == b_0)&&decide (a_1=b_1)):=by
 refine (congrFun (congrFun (congrFun (congrFun bC0 a_0) a_1) b_0) b_1).trans ?_
 simp only [iV,dC,Bool.and_true,Bool.and_assoc]
theorem bI3:(fun a b=>bI prog 90 (.agg a) (.agg b))=fun _ _=>true:=by kernel_rfl
theorem bC2 (a b:List V):bI prog 90 (.agg a) (.agg b)=true:=congrFun (congrFun bI3 a) b
theorem aJw:Fa 126 0 0:=aB (by kernel_rfl)
theorem aJx:Fa 126 1 1:=aB (by kernel_rfl)
theorem aJy:Fa 126 2 2:=aB (by kernel_rfl)
theorem aJz:Fa 126 3 3:=aB (by kernel_rfl)
theorem aK0:Fa 132 0 0:=aB (by kernel_rfl)
theorem aK1:Fa 132 1 1:=aB (by kernel_rfl)
theorem aK2:Fa 132 2 2:=aB (by kernel_rfl)
theorem aK3:Fa 142 0 0:=aB (by kernel_rfl)
theorem aK4:Fa 142 1 1:=aB (by kernel_rfl)
theorem aK5:Fa 142 2 2:=aB (by kernel_rfl)
theorem aK6:Fa 145 0 0:=aB (by kernel_rfl)
theorem aK7:Fa 145 1 1:=aB (by kernel_rfl)
theorem aK8:Fa 145 2 2:=aB (by kernel_rfl)
theorem aK9:Fa 145 3 3:=aB (by kernel_rfl)
theorem aKa:Fa 160 0 0:=aB (by kernel_rfl)
theorem aKb:Fa 201 0 0:=aB (by kernel_rfl)
theorem aKc:Fa 201 1 1:=aB (by kernel_rfl)
theorem aKd:Fa 201 2 2:=aB (by kernel_rfl)
theorem aKe:Fa 201 3 3:=aB (by kernel_rfl)
theorem aKf:Fa 207 0 0:=aB (by kernel_rfl)
theorem aKg:Fa 207 1 17:=aB (by kernel_rfl)
theorem aKh:Fa 207 2 18:=aB (by kernel_rfl)
theorem aKi:Fa 207 3 19:=aB (by kernel_rfl)
theorem aKj:Fa 207 4 20:=aB (by kernel_rfl)
theorem aKk:Fa 220 1 1:=aB (by kernel_rfl)
theorem aKl:Fa 220 2 2:=aB (by kernel_rfl)
theorem aKm:Fa 225 0 0:=aB (by kernel_rfl)
theorem aKn:Fa 225 1 1:=aB (by kernel_rfl)
theorem aKo:Fa 225 2 2:=aB (by kernel_rfl)
theorem aKp:Fa 287 0 0:=aB (by kernel_rfl)
theorem aKq:Fa 287 1 1:=aB (by kernel_rfl)
theorem aPd:Fa 30 0 0:=aB (by kernel_rfl)
theorem aPe:Fa 30 1 1:=aB (by kernel_rfl)
theorem aPf:Fa 30 2 2:=aB (by kernel_rfl)
theorem aPg:Fa 30 3 3:=aB (by kernel_rfl)
theorem aPh:Fa 30 4 4:=aB (by kernel_rfl)
theorem aPi:Fa 30 5 5:=aB (by kernel_rfl)
theorem aKr:Fa 346 0 0:=aB (by kernel_rfl)
theorem aKs:Fa 346 1 1:=aB (by kernel_rfl)
theorem aPj:Fa 48 0 0:=aB (by kernel_rfl)
theorem aPk:Fa 48 1 1:=aB (by kernel_rfl)
theorem aPl:Fa 48 2 2:=aB (by kernel_rfl)
theorem aPm:Fa 52 0 0:=aB (by kernel_rfl)
theorem aPn:Fa 52 1 1:=aB (by kernel_rfl)
theorem aPo:Fa 52 2 2:=aB (by kernel_rfl)
theorem aPp:Fa 54 0 0:=aB (by kernel_rfl)
theorem aPq:Fa 54 1 1:=aB (by kernel_rfl)
theorem aPr:Fa 54 2 4:=aB (by kernel_rfl)
theorem aPs:Fa 57 0 0:=aB (by kernel_rfl)
theorem aPt:Fa 57 1 1:=aB (by kernel_rfl)
theorem aPu:Fa 59 0 0:=aB (by kernel_rfl)
theorem aPv:Fa 59 1 1:=aB (by kernel_rfl)
theorem aPw:Fa 59 2 2:=aB (by kernel_rfl)
theorem aPx:Fa 59 3 3:=aB (by kernel_rfl)
theorem aPy:Fa 59 4 8:=aB (by kernel_rfl)
theorem aPz:Fa 59 5 11:=aB (by kernel_rfl)
theorem aQ0:Fa 59 6 12:=aB (by kernel_rfl)
theorem aQ1:Fa 59 7 14:=aB (by kernel_rfl)
theorem aQ2:Fa 61 0 0:=aB (by kernel_rfl)
theorem aQ3:Fa 61 1 1:=aB (by kernel_rfl)
theorem aQ4:Fa 61 2 2:=aB (by kernel_rfl)
theorem aQ5:Fa 76 0 0:=aB (by kernel_rfl)
theorem aQ6:Fa 76 1 1:=aB (by kernel_rfl)
theorem aQ7:Fa 76 2 2:=aB (by kernel_rfl)
theorem aQ8:Fa 76 3 3:=aB (by kernel_rfl)
theorem aQ9:Fa 77 0 0:=aB (by kernel_rfl)
theorem aQa:Fa 77 1 1:=aB (by kernel_rfl)
theorem aQb:Fa 77 2 2:=aB (by kernel_rfl)
theorem aQc:Fa 77 3 3:=aB (by kernel_rfl)
theorem aQd:Fa 82 0 0:=aB (by kernel_rfl)
theorem aQe:Fa 82 1 1:=aB (by kernel_rfl)
theorem aQf:Fa 82 2 2:=aB (by kernel_rfl)
theorem aQg:Fa 82 3 3:=aB (by kernel_rfl)
theorem aQh:Fa 84 0 0:=aB (by kernel_rfl)
theorem aQi:Fa 84 1 2:=aB (by kernel_rfl)
theorem aQj:Fa 84 2 5:=aB (by kernel_rfl)
theorem aQk:Fa 84 3 9:=aB (by kernel_rfl)
theorem aQl:Fa 84 4 11:=aB (by kernel_rfl)
theorem aQm:Fa 90 0 0:=aB (by kernel_rfl)
theorem aQn:Fa 90 1 1:=aB (by kernel_rfl)
theorem aQo:Fa 99 0 0:=aB (by kernel_rfl)
theorem aQp:Fa 99 1 17:=aB (by kernel_rfl)
theorem aQq:Fa 99 2 18:=aB (by kernel_rfl)
theorem aQr:Fa 99 3 19:=aB (by kernel_rfl)
theorem aQs:Fa 99 4 20:=aB (by kernel_rfl)
theorem aWg:Ix 102 23:=bB (by kernel_rfl)
theorem aWh:Ix 114 3:=bB (by kernel_rfl)
theorem bC3:Ix 22 1:=bB (by kernel_rfl)
theorem bC4:Ix 24 5:=bB (by kernel_rfl)
theorem bC5:Ix 25 4:=bB (by kernel_rfl)
theorem bC6:Ix 26 12:=bB (by kernel_rfl)
theorem bC7:Ix 27 2:=bB (by kernel_rfl)
theorem bC8:Ix 28 5:=bB (by kernel_rfl)
theorem aWi:Ix 361 1:=bB (by kernel_rfl)
theorem aWj:Ix 364 1:=bB (by kernel_rfl)
theorem bC9:Ix 44 17:=bB (by kernel_rfl)
theorem bCa:Ix 55 4:=bB (by kernel_rfl)
theorem bCb:Ix 62 3:=bB (by kernel_rfl)
theorem bCc:Ix 68 4:=bB (by kernel_rfl)
theorem bCd:Ix 71 4:=bB (by kernel_rfl)
theorem bCe:Ix 80 4:=bB (by kernel_rfl)
theorem bCf:Ix 96 1:=bB (by kernel_rfl)
theorem bCg:Ix 97 23:=bB (by kernel_rfl)
theorem aWk:Ld 126 (some 4):=aX (by kernel_rfl)
theorem aWl:Ld 132 (some 5):=aX (by kernel_rfl)
theorem aWm:Ld 145 (some 4):=aX (by kernel_rfl)
theorem ld2:Ld 2 none:=aX (by kernel_rfl)
theorem aWn:Ld 201 (some 4):=aX (by kernel_rfl)
theorem aWo:Ld 212 (some 1):=aX (by kernel_rfl)
theorem bCh:Ld 22 none:=aX (by kernel_rfl)
theorem aWp:Ld 220 (some 3):=aX (by kernel_rfl)
theorem aWq:Ld 229 none:=aX (by kernel_rfl)
theorem aWr:Ld 232 none:=aX (by kernel_rfl)
theorem bCi:Ld 24 none:=aX (by kernel_rfl)
theorem bCj:Ld 25 none:=aX (by kernel_rfl)
theorem bCk:Ld 26 none:=aX (by kernel_rfl)
theorem bCl:Ld 27 none:=aX (by kernel_rfl)
theorem bCm:Ld 28 none:=aX (by kernel_rfl)
theorem ld3:Ld 3 none:=aX (by kernel_rfl)
theorem bCn:Ld 30 (some 6):=aX (by kernel_rfl)
theorem bCo:Ld 31 none:=aX (by kernel_rfl)
theorem aWs:Ld 346 (some 2):=aX (by kernel_rfl)
theorem aWt:Ld 349 none:=aX (by kernel_rfl)
theorem ld4:Ld 4 none:=aX (by kernel_rfl)
theorem bCp:Ld 48 (some 3):=aX (by kernel_rfl)
theorem ld5:Ld 5 none:=aX (by kernel_rfl)
theorem bCq:Ld 52 (some 3):=aX (by kernel_rfl)
theorem bCr:Ld 54 (some 5):=aX (by kernel_rfl)
theorem bCs:Ld 55 none:=aX (by kernel_rfl)
theorem bCt:Ld 57 (some 2):=aX (by kernel_rfl)
theorem bCu:Ld 59 (some 15):=aX (by kernel_rfl)
theorem bCv:Ld 61 (some 17):=aX (by kernel_rfl)
theorem bCw:Ld 76 (some 4):=aX (by kernel_rfl)
theorem bCx:Ld 80 none:=aX (by kernel_rfl)
theorem bCy:Ld 82 (some 4):=aX (by kernel_rfl)
theorem bCz:Ld 84 (some 12):=aX (by kernel_rfl)
theorem ld9:Ld 9 none:=aX (by kernel_rfl)
theorem bD0:Ld 90 (some 2):=aX (by kernel_rfl)
theorem bD1:Ld 99 (some 23):=aX (by kernel_rfl)
theorem aQt:Ln 102:=eL (by kernel_rfl)
theorem aQu:Ln 114:=eL (by kernel_rfl)
theorem aWu:Ln 22:=eL (by kernel_rfl)
theorem aWv:Ln 24:=eL (by kernel_rfl)
theorem aWw:Ln 25:=eL (by kernel_rfl)
theorem aWx:Ln 26:=eL (by kernel_rfl)
theorem aWy:Ln 27:=eL (by kernel_rfl)
theorem aWz:Ln 28:=eL (by kernel_rfl)
theorem aQv:Ln 361:=eL (by kernel_rfl)
theorem aQw:Ln 364:=eL (by kernel_rfl)
theorem aX0:Ln 44:=eL (by kernel_rfl)
theorem aX1:Ln 55:=eL (by kernel_rfl)
theorem aX2:Ln 62:=eL (by kernel_rfl)
theorem aX3:Ln 68:=eL (by kernel_rfl)
theorem aX4:Ln 71:=eL (by kernel_rfl)
theorem aX5:Ln 80:=eL (by kernel_rfl)
theorem bD2 (s:List UInt8) (S:St):vS prog 9 (.str s) S=.ok (.int .i64 s.length):=aM5 (by kernel_rfl) s S
theorem aX6:Ln 96:=eL (by kernel_rfl)
theorem aX7:Ln 97:=eL (by kernel_rfl)
theorem bD3:Sl_ 22 1:=fE (by kernel_rfl)
theorem aQx:Si 22 1:=aAn (by kernel_rfl)
theorem bD4:Sl_ 24 5:=fE (by kernel_rfl)
theorem bD5:Sl_ 25 4:=fE (by kernel_rfl)
theorem bD6:Sl_ 26 12:=fE (by kernel_rfl)
theorem bD7:Si 26 12:=aAn (by kernel_rfl)
theorem aYo:Sl_ 27 2:=fE (by kernel_rfl)
theorem bD8:Sl_ 28 5:=fE (by kernel_rfl)
theorem bD9:Sl_ 55 4:=fE (by kernel_rfl)
theorem bDa:Sl_ 71 4:=fE (by kernel_rfl)
theorem bDb:Sl_ 80 4:=fE (by kernel_rfl)
theorem bDc:Sl_ 96 1:=fE (by kernel_rfl)
theorem bDd:Sl_ 97 23:=fE (by kernel_rfl)
theorem aX8:Sr 126 4:=aU (by kernel_rfl)
theorem aX9:Sr 132 5:=aU (by kernel_rfl)
theorem aXa:Sr 145 4:=aU (by kernel_rfl)
theorem aXb:Sr 201 4:=aU (by kernel_rfl)
theorem aXc:Sr 212 1:=aU (by kernel_rfl)
theorem bDe:Sr 22 1:=aU (by kernel_rfl)
theorem aXd:Sr 220 3:=aU (by kernel_rfl)
theorem aXe:Sr 232 1:=aU (by kernel_rfl)
theorem bDf:Sr 24 1:=aU (by kernel_rfl)
theorem bDg:Sr 25 1:=aU (by kernel_rfl)
theorem bDh:Sr 26 1:=aU (by kernel_rfl)
theorem bDi:Sr 27 1:=aU (by kernel_rfl)
theorem bDj:Sr 28 1:=aU (by kernel_rfl)
theorem st3:Sr 3 1:=aU (by kernel_rfl)
theorem bDk:Sr 30 6:=aU (by kernel_rfl)
theorem bDl:Sr 31 1:=aU (by kernel_rfl)
theorem aXf:Sr 346 2:=aU (by kernel_rfl)
theorem st4:Sr 4 1:=aU (by kernel_rfl)
theorem bDm:Sr 48 3:=aU (by kernel_rfl)
theorem st5:Sr 5 1:=aU (by kernel_rfl)
theorem bDn:Sr 52 3:=aU (by kernel_rfl)
theorem bDo:Sr 54 5:=aU (by kernel_rfl)
theorem bDp:Sr 55 1:=aU (by kernel_rfl)
theorem bDq:Sr 57 2:=aU (by kernel_rfl)
theorem bDr:Sr 59 15:=aU (by kernel_rfl)
theorem bDs:Sr 61 17:=aU (by kernel_rfl)
theorem bDt:Sr 80 1:=aU (by kernel_rfl)
theorem bDu:Sr 82 4:=aU (by kernel_rfl)
theorem bDv:Sr 84 12:=aU (by kernel_rfl)
theorem st9:Sr 9 1:=aU (by kernel_rfl)
theorem bDw:Sr 90 2:=aU (by kernel_rfl)
theorem bDx:Sr 99 23:=aU (by kernel_rfl)
end Go.Proofs.YtoaibmbldmckaaaGreat
end
section
namespace Go.AM
open Go.RowKit Go.Lib Go.Proofs Go.Shelf
theorem aAu {P:Program} {t:TypeId} (h:(P.info? t).isSome=true) (w:World):(Go.sizeOf t).run P w=.ok (sz P t) w:=by
 obtain ⟨i,hi⟩:=Option.isSome_iff_exists.1 h
 simp [sizeOf,typeInfo,hi,iB hi]
theorem jM {P:Program} {t:TypeId} (h:(P.info? t).map (·.size)=some 1) (w:World):(Go.sizeOf t).run P w=.ok 1 w:=by
 cases hi:P.info? t with
 | none=>rw [hi] at h;cases h
 | some i=>rw [hi] at h;simp [sizeOf,typeInfo,hi] at h ⊢;exact h
theorem nJ {P:Program} {f:FuncId} {T e I B:TypeId} {ov rr:FuncId} {fn fo:Func} (mixed:P.follows .mixedOrders=true) (hf:P.funcs[f]?=some fn) (hb:fn.body=some (uM T I B ov rr)) (hn:fn.ntmps=95) (hr:fn.results=#[.tmp 6])
  (tT:P.underlying T=some (.slice e)) (tI:P.underlying I=some (.int .i64)) (tB:P.underlying B=some .bool)
  (ho:P.funcs[ov]?=some fo) (o1:(fo.name == "runtime.NumGoroutine")=false) (o2:fo.body.isNone=true) (o3:Extern.findNext fo=none) (o4:Extern.find fo=some (Extern.SlicesOverlaps.overlaps #[T,T] #[B]))
  (zE:(P.info? e).isSome=true) (zT:(P.info? T).map (·.size)=some 1) (zI:(P.info? I).map (·.size)=some 1) (zB:(P.info? B).map (·.size)=some 1):InsAt P f T e I B ov rr fn:=
 ⟨mixed,hf,hb,hn,hr,tT,tI,tB,run_callFunc_extern ho o1 o2 o3 o4,aAu zE,jM zT,jM zI,jM zB⟩
theorem aQy {P:Program} {f:FuncId} {T e I B:TypeId} {fn:Func} (mixed:P.follows .mixedOrders=true) (hf:P.funcs[f]?=some fn) (hb:fn.body=some (yX T I B)) (hn:fn.ntmps=33) (hr:fn.results=#[.tmp 6])
  (tT:P.underlying T=some (.slice e)) (tI:P.underlying I=some (.int .i64)) (tB:P.underlying B=some .bool)
  (zE:(P.info? e).isSome=true) (zT:(P.info? T).map (·.size)=some 1) (zI:(P.info? I).map (·.size)=some 1) (zB:(P.info? B).map (·.size)=some 1):DelAt P f T e I B fn:=
 ⟨mixed,hf,hb,hn,hr,tT,tI,tB,aAu zE,jM zT,jM zI,jM zB⟩
end Go.AM
end
section
set_option linter.unusedSimpArgs false
set_option linter.unusedVariables false
namespace Go.AM
structure Lit where
 args:List V
 n:Nat
 blocks:List (Nat×Blk)
 v:V
 n':Nat
 blocks':List (Nat×Blk)
end Go.AM
namespace Go.AM
theorem aQz {fn:Func} (h:fn.body.isSome=true):fn.body=some (fn.body.get h):=(Option.some_get h).symm
end Go.AM
end
section
set_option linter.unusedSimpArgs false
set_option linter.unusedVariables false
namespace Go.AM
open Go.RowKit
theorem RelH.grow {F:Nat→Option Obj} {G:Gh} {S:St} {H H':Array Obj} (R:eV F G S H) (hs:H.size≤H'.size) (old:∀ i,i<H.size→H'[i]?=H[i]?):eV F G S H':=by
 have lt:∀ {i:Nat} {o:Obj},H[i]?=some o→i<H.size:=fun h=>(Array.getElem?_eq_some_iff.1 h).1
 constructor
 ·exact R.fresh
 ·exact R.sep
 ·intro a b hb
  have hold:=R.blk a b hb
  cases b with
  | row ver' es' elems'=>
   obtain ⟨K,hK,r1,r2,r3,c',ty',fr',hc',r⟩:=hold
   exact ⟨K,hK,r1,r2,r3,c',ty',fr',by rw [old _ (lt hc')];exact hc',r⟩
  | mp kvs=>
   obtain ⟨i,es',clock,hi,hH',r⟩:=hold
   exact ⟨i,es',clock,hi,by rw [old _ (lt hH')];exact hH',r⟩
  | iter s pos=>
   obtain ⟨K,hK,r1,r2,hH'⟩:=hold
   exact ⟨K,hK,r1,r2,by rw [old _ (lt hH')];exact hH'⟩
 ·exact R.inj
 ·intro i o h
  have:=R.fr i o h
  rw [old i (lt this)];exact this
 ·intro i o h
  have:=R.pr i o h
  rw [old i (lt this)];exact this
 ·exact R.own
 ·intro a i h
  have:=R.lt a i h
  omega
 ·exact R.small
theorem aMk {P:Program} {f:FuncId} {fn:Func} (hf:P.funcs[f]?=some fn) (hn:(fn.name == "runtime.NumGoroutine")=false) (hb:fn.body.isSome=true)
  (h:∀ W,Calls P f #[] W fun e W'=>e=.returned (.bool true)∧Below W.heap.size W W'):SpecOK P f (Sp.told.run P):=by
 refine ⟨⟨fn,_,hf,hn,aQz hb⟩,fun {args S S' v} hr=>?_⟩
 intro F G W cs R hvs
 match args,hr with
 | [],hr=>
  cases hr
  cases hvs
  refine (h W).mono ?_
  rintro e W' ⟨rfl,hw⟩
  have hw':=hw
  obtain ⟨w1,w2,w3,w4,w5⟩:=hw
  have old:∀ i,i<W.heap.size→W'.heap[i]?=W.heap[i]?:=w5
  exact ⟨G,.bool true,rfl,⟨G.le_refl,R.grow w4 old,⟨w1,w2,w3,w4⟩,Nat.le_refl _,fun _ _ _ _=>⟨rfl,rfl⟩,fun _ h _ _=>h,fun _ _ h=>.inl h⟩,.bool true⟩
end Go.AM
namespace Go.AM
open Go.RowKit
end Go.AM
end
section
namespace Go.Proofs.YtoaibmbldmckaaaGreat
open Go.RowKit Go.AM Tryz
theorem aXg:SpecOK prog 202 ((Sp.ins 68).run prog):=
 iI (e:=76) (I:=3) (B:=4) (ov:=247) (rr:=248) (fn:=Tryz.f202) (nJ (fo:=Tryz.f247) (by kernel_rfl) (by kernel_rfl) (by kernel_rfl) (by kernel_rfl) (by kernel_rfl)
  (by kernel_rfl) (by kernel_rfl) (by kernel_rfl) (by kernel_rfl) (by kernel_rfl) (by kernel_rfl) (by kernel_rfl) (by kernel_rfl) (by kernel_rfl) (by kernel_rfl) (by kernel_rfl) (by kernel_rfl)) (by kernel_rfl)
theorem aXh:SpecOK prog 221 ((Sp.ins 27).run prog):=
 iI (e:=90) (I:=3) (B:=4) (ov:=256) (rr:=257) (fn:=Tryz.f221) (nJ (fo:=Tryz.f256) (by kernel_rfl) (by kernel_rfl) (by kernel_rfl) (by kernel_rfl) (by kernel_rfl)
  (by kernel_rfl) (by kernel_rfl) (by kernel_rfl) (by kernel_rfl) (by kernel_rfl) (by kernel_rfl) (by kernel_rfl) (by kernel_rfl) (by kernel_rfl) (by kernel_rfl) (by kernel_rfl) (by kernel_rfl)) (by kernel_rfl)
theorem aXi:SpecOK prog 230 ((Sp.ins 28).run prog):=
 iI (e:=132) (I:=3) (B:=4) (ov:=261) (rr:=262) (fn:=Tryz.f230) (nJ (fo:=Tryz.f261) (by kernel_rfl) (by kernel_rfl) (by kernel_rfl) (by kernel_rfl) (by kernel_rfl)
  (by kernel_rfl) (by kernel_rfl) (by kernel_rfl) (by kernel_rfl) (by kernel_rfl) (by kernel_rfl) (by kernel_rfl) (by kernel_rfl) (by kernel_rfl) (by kernel_rfl) (by kernel_rfl) (by kernel_rfl)) (by kernel_rfl)
theorem aXj:SpecOK prog 234 ((Sp.ins 25).run prog):=
 iI (e:=126) (I:=3) (B:=4) (ov:=264) (rr:=265) (fn:=Tryz.f234) (nJ (fo:=Tryz.f264) (by kernel_rfl) (by kernel_rfl) (by kernel_rfl) (by kernel_rfl) (by kernel_rfl)
  (by kernel_rfl) (by kernel_rfl) (by kernel_rfl) (by kernel_rfl) (by kernel_rfl) (by kernel_rfl) (by kernel_rfl) (by kernel_rfl) (by kernel_rfl) (by kernel_rfl) (by kernel_rfl) (by kernel_rfl)) (by kernel_rfl)
theorem aXk:SpecOK prog 237 ((Sp.ins 24).run prog):=
 iI (e:=54) (I:=3) (B:=4) (ov:=266) (rr:=267) (fn:=Tryz.f237) (nJ (fo:=Tryz.f266) (by kernel_rfl) (by kernel_rfl) (by kernel_rfl) (by kernel_rfl) (by kernel_rfl)
  (by kernel_rfl) (by kernel_rfl) (by kernel_rfl) (by kernel_rfl) (by kernel_rfl) (by kernel_rfl) (by kernel_rfl) (by kernel_rfl) (by kernel_rfl) (by kernel_rfl) (by kernel_rfl) (by kernel_rfl)) (by kernel_rfl)
theorem aXl:SpecOK prog 280 ((Sp.ins 80).run prog):=
 iI (e:=145) (I:=3) (B:=4) (ov:=288) (rr:=289) (fn:=Tryz.f280) (nJ (fo:=Tryz.f288) (by kernel_rfl) (by kernel_rfl) (by kernel_rfl) (by kernel_rfl) (by kernel_rfl)
  (by kernel_rfl) (by kernel_rfl) (by kernel_rfl) (by kernel_rfl) (by kernel_rfl) (by kernel_rfl) (by kernel_rfl) (by kernel_rfl) (by kernel_rfl) (by kernel_rfl) (by kernel_rfl) (by kernel_rfl)) (by kernel_rfl)
theorem aXm:SpecOK prog 240 ((Sp.del 28).run prog):=
 aG5 (e:=132) (I:=3) (B:=4) (fn:=Tryz.f240) (aQy (by kernel_rfl) (by kernel_rfl) (by kernel_rfl) (by kernel_rfl) (by kernel_rfl)
  (by kernel_rfl) (by kernel_rfl) (by kernel_rfl) (by kernel_rfl) (by kernel_rfl) (by kernel_rfl) (by kernel_rfl)) (by kernel_rfl)
theorem gT {P:Program} {a b:gM} (h:gB P a=true) (k:gB P b=true):gB P (a++b)=true:=by unfold gB at *;rw [List.all_append,h,k];rfl
def bDy:aCg:=[(202,.ins 68),(221,.ins 27),(230,.ins 28),(234,.ins 25),(237,.ins 24),(280,.ins 80),(240,.del 28)]
theorem aTd:SpAll prog bDy:=⟨aXg,aXh,aXi,aXj,aXk,aXl,aXm,trivial⟩
theorem aR0:aT4=aOy++(aOz++(aP0++(aP1++(aP2++(aP3++(aP4++(aP5++(aP6++(aP7++(aJj++(aJk++(aJl++(aJm++(aJn++(aJo++(aJp)))))))))))))))):=rfl
theorem aKt:gB prog aT4=true:=by
 rw [aR0]
 exact gT aMa (gT aMb (gT aMc (gT aMd (gT aMe (gT aMf (gT aMg (gT aMh (gT aMi (gT aMj (gT aIb (gT aIc (gT aId (gT aIe (gT aIf (gT aIg (aIh))))))))))))))))
theorem aR1:aA0 (eO prog (oJ prog bDy aT4) 1000 25 [] St.empty)=true:=by kernel_rfl
theorem bI4:SpecOK prog 25 (Sp.told.run prog):=aMk Tryz.func25 (by kernel_rfl) (by kernel_rfl) fun W=>aHy (aAg (by kernel_rfl) aTd aKt) aR1 W
theorem aYp:SpAll prog dSp:=⟨aXg,aXh,aXi,aXj,aXk,aXl,aXm,bI4,trivial⟩
theorem aMl:PlansOK prog mE:=aAg (by kernel_rfl) aYp aKt
end Go.Proofs.YtoaibmbldmckaaaGreat
end
section
namespace Go.Proofs.YtoaibmbldmckaaaGreat
open Go.AM Tryz
def aR2 (y:Int):Bool:=if y.tmod 4=0 then (if y.tmod 100=0 then decide (y.tmod 400=0) else true) else false
def nK (y m:Int):Int:=if m=2 then (if aR2 y=true then 29 else 28) else if m=4∨m=6∨m=9∨m=11 then 30 else 31
structure Date where
 y:Int
 m:Int
 d:Int
deriving DecidableEq
def Date.enc (d:Date):List V:=[.int .i64 d.y,.int .i64 d.m,.int .i64 d.d]
def Date.right (d:Date):Bool:=decide (1≤d.y)&&(decide (d.y≤9999)&&(decide (1≤d.m)&&(decide (d.m≤12)&&(decide (1≤d.d)&&decide (d.d≤nK d.y d.m)))))
def aGl (y:Int):Int:=
 wr .i64 (wr .i64 (wr .i64 (wr .i64 (365*wr .i64 (y - 1))+wr .i64 ((wr .i64 (y - 1)).tdiv 4)) - wr .i64 ((wr .i64 (y - 1)).tdiv 100))+wr .i64 ((wr .i64 (y - 1)).tdiv 400))
def jN (y:Int) (n:Int) (i:Nat):Int⊕Int:=.inr (wr .i64 (n+nK y ((i:Int)+1)))
def Date.days (d:Date):Int:=if d.right=true then wr .i64 (wr .i64 (aD (jN d.y) id (List.range (d.m - 1).toNat) (aGl d.y)+d.d) - 1) else -1
def Date.before (a b:Date):Bool:=a.right&&(b.right&&decide (a.days<b.days))
def iX (a b:Int):Int×Int:=
 if (0<b∧wr .i64 (9223372036854775807 - b)<a)∨(b<0∧a<wr .i64 (-9223372036854775808 - b)) then (0,7) else (wr .i64 (a+b),0)
def bZ (a b:Int):Int×Int:=
 if (b<0∧wr .i64 (9223372036854775807+b)<a)∨(0<b∧a<wr .i64 (-9223372036854775808+b)) then (0,7) else (wr .i64 (a - b),0)
def eQ (r:Int×Int):V:=.tup [.int .i64 r.1,.int .i64 r.2]
def aGm (n:Int):Int:=wr .u64 ((BitVec.ofInt IntKind.u64.bits (if IntKind.u64.signed then -1 else IntKind.u64.max) ^^^ BitVec.ofInt IntKind.u64.bits n).toNat)
def aKu (n:Int):Int:=if n<0 then wr .u64 (aGm (wr .u64 n)+1) else wr .u64 n
def cH (n bp:Int):Int×Int:=
 if bp<0∨100000<bp then (0,1) else
  let u:=aKu n
  let p:=wr .u64 bp
  let many:=wr .u64 (u.tdiv 10000)
  let rest:=u.tmod 10000
  if 0<p∧wr .u64 ((9223372036854775807:Int).tdiv p)<many then (0,7) else
   let out:=wr .u64 (wr .u64 (many*p)+wr .u64 ((wr .u64 (wr .u64 (wr .u64 (2*rest)*p)+10000)).tdiv (wr .u64 (2*10000))))
   if 9223372036854775807<out then (0,7) else if n<0 then (wr .i64 (0 - wr .i64 out),0) else (wr .i64 out,0)
theorem aAv:wr .u64 (2*10000)=20000:=by decide
theorem aYq:wr .u64 10000=10000:=by decide
def lF (r:Int):Bool:=
 if (97≤r∧r≤122)∨(65≤r∧r≤90) then true else if r=215 then false else if r=247 then false else decide (192≤r)&&decide (r≤591)
def kP (s:List UInt8):Nat→Nat→List (Nat×Nat)
 | 0,_=>[]
 | f+1,pos=>if pos<s.length then (pos,(Utf8.decode ⟨⟨s⟩⟩ pos).1)::kP s f (pos+(Utf8.decode ⟨⟨s⟩⟩ pos).2) else []
theorem aGn (s:ByteArray) (i:Nat):1≤(Utf8.decode s i).2:=by
 unfold Utf8.decode
 simp only
 repeat' split
 all_goals simp
def lX (_:Unit) (x:Nat×Nat):Bool⊕Unit:=
 if lF x.2=true then .inr () else if x.1=0 then .inl false else if (48≤x.2∧x.2≤57)∨x.2=45∨x.2=95∨x.2=46 then .inr () else .inl false
def gP (s:List UInt8):Bool:=if s.length<1 then false else if 24<s.length then false else aD lX (fun _=>true) (kP s s.length 0) ()
structure Rate where
 cat:List UInt8
 day:Date
 bp:Int
deriving DecidableEq
def Rate.enc (r:Rate):List V:=[.str r.cat,.int .i64 r.day.y,.int .i64 r.day.m,.int .i64 r.day.d,.int .i64 r.bp]
def aEw (r:Rate):Int:=if gP r.cat=false then 8 else if r.day.right=false then 9 else if r.bp<0 then 10 else if 100000<r.bp then 10 else 0
def tH (a b:Rate):Bool:=if kU a.cat b.cat=true then true else if (a.cat == b.cat)=true then a.day.before b.day else false
def jO (prev:Option Rate) (r:Rate):Bool⊕Option Rate:=
 if aEw r≠0 then .inl false else match prev with
  | none=>.inr (some r)
  | some p=>if tH p r=true then .inr (some r) else .inl false
def kK (l:List Rate):Bool:=if 24<l.length then false else aD jO (fun _=>true) l none
def cA {α:Type} (l:List α) (i:Nat):Option α:=if i=0 then none else l[i - 1]?
structure Rep where
 why:Int
 number:Int
 gross:Int
deriving DecidableEq
structure Sess where
 id:Int
 last:Int
 reply:Rep
deriving DecidableEq
def Sess.enc (s:Sess):List V:=[.int .i64 s.id,.int .i64 s.last,.int .i64 s.reply.why,.int .i64 s.reply.number,.int .i64 s.reply.gross]
def Rep.zero:Rep:=⟨0,0,0⟩
def eR (last:Int) (s:Sess):Bool⊕Int:=
 if s.id≤last then .inl false else if s.last<0 then .inl false else if 1099511627776<s.last then .inl false else if s.last=0∧s.reply≠Rep.zero then .inl false else .inr s.id
def kQ (l:List Sess):Bool:=if 8<l.length then false else aD eR (fun _=>true) l 0
def cN {α:Type} (p:α→Bool) (n:Nat) (a:α):Int⊕Nat:=if p a=true then .inl (n:Int) else .inr (n+1)
def vR {α:Type} (p:α→Bool) (l:List α):Int:=aD (cN p) (fun _=>-1) l 0
theorem aD5 {α:Type} (p:α→Bool):∀ (l:List α) (n:Nat),(aD (cN p) (fun _=>-1) l n=-1)∨∃ (i:Nat) (a:α),aD (cN p) (fun _=>-1) l n=((n+i:Nat):Int)∧l[i]?=some a∧p a=true
 | [],n=>.inl rfl
 | a::l,n=>by
  by_cases h:p a=true
  ·refine .inr ⟨0,a,?_,rfl,h⟩
   simp [aD,cN,h]
  ·rcases aD5 p l (n+1) with h1 | ⟨i,b,h1,h2,h3⟩
   ·left;simp [aD,cN,h,h1]
   ·right
    refine ⟨i+1,b,?_,by simpa using h2,h3⟩
    simp only [aD,cN,h,if_false]
    simp only [h1,Bool.false_eq_true,if_false]
    omega
theorem lM {α:Type} (p:α→Bool) (l:List α):(vR p l=-1)∨∃ (i:Nat) (a:α),vR p l=(i:Int)∧l[i]?=some a∧p a=true:=by
 rcases aD5 p l 0 with h | ⟨i,a,h1,h2,h3⟩
 ·exact .inl h
 ·exact .inr ⟨i,a,by rw [vR,h1];simp,h2,h3⟩
def aR3 (l:List Sess) (id:Int):Int:=vR (fun s:Sess=>decide (s.id=id)) l
def bLf (l:List Sess) (id seq:Int):Rep×Bool×Int:=
 if kQ l=false then (Rep.zero,false,1) else if aR3 l id<0 then (Rep.zero,false,15) else if seq<1∨1099511627776<seq then (Rep.zero,false,1) else
  match l[(aR3 l id).toNat]? with
  | none=>(Rep.zero,false,1)
  | some s=>if seq=s.last then (s.reply,true,0) else if seq<s.last then (Rep.zero,false,16) else (Rep.zero,false,0)
theorem wP {l:List Sess} (h:kQ l=true):l.length≤8:=by
 unfold kQ at h
 split at h
 ·cases h
 ·omega
def mM {α:Type} (p:α→Bool) (n:Nat) (a:α):Nat⊕Nat:=if p a=true then .inr (n+1) else .inl n
def aTe {α:Type} (p:α→Bool) (l:List α):Nat:=aD (mM p) id l 0
theorem aD6 {α:Type} (p:α→Bool):∀ (l:List α) (n:Nat),aD (mM p) id l n≤n+l.length
 | [],n=>by simp [aD]
 | a::l,n=>by
  have ih:=aD6 p l (n+1)
  by_cases h:p a=true
  ·simp only [aD,mM,h,if_true,List.length_cons];omega
  ·simp only [aD,mM,h,if_false,List.length_cons,Bool.false_eq_true];omega
theorem aTf {α:Type} (p:α→Bool) (l:List α):aTe p l≤l.length:=by have:=aD6 p l 0;simp only [aTe];omega
def pF {α:Type} (l:List α) (i:Nat) (a:α):List α:=l.take i++a::l.drop i
theorem aMm {α β:Type} (f:α→β) (l:List α) (i:Nat) (a:α):(pF l i a).map f=(l.map f).take i++f a::(l.map f).drop i:=by simp [pF,List.map_take,List.map_drop]
structure Ser where
 name:List UInt8
 next:Int
 limit:Int
 shut:Bool
deriving DecidableEq
def Ser.enc (s:Ser):List V:=[.str s.name,.int .i64 s.next,.int .i64 s.limit,.bool s.shut]
def cE (l:List Ser) (name:List UInt8):Int:=vR (fun s:Ser=>s.name == name) l
theorem mN (l:List Ser) (name:List UInt8):cE l name=-1∨∃ (i:Nat) (s:Ser),cE l name=(i:Int)∧l[i]?=some s∧s.name=name:=by
 rcases lM (fun s:Ser=>s.name == name) l with h | ⟨i,s,h1,h2,h3⟩
 ·exact .inl h
 ·exact .inr ⟨i,s,h1,h2,by simpa using h3⟩
def qM (s:Ser):Bool:=decide (s.limit<1)||(decide (1099511627776<s.limit)||(decide (s.next<1)||decide (wr .i64 (s.limit+1)<s.next)))
def kA (prev:Option Ser) (s:Ser):Bool:=match prev with
 | none=>false
 | some p=>!kU p.name s.name
def iY (prev:Option Ser) (s:Ser):Bool⊕Option Ser:=
 if gP s.name=false then .inl false else if kA prev s=true then .inl false else if qM s=true then .inl false else .inr (some s)
def tJ (l:List Ser):Bool:=if 8<l.length then false else aD iY (fun _=>true) l none
theorem aAw {l:List Ser} (h:tJ l=true):l.length≤8:=by
 unfold tJ at h
 split at h
 ·cases h
 ·omega
theorem aIp {l:List Rate} (h:kK l=true):l.length≤24:=by
 unfold kK at h
 split at h
 ·cases h
 ·omega
structure Bal where
 acc:List UInt8
 amount:Int
deriving DecidableEq
def Bal.enc (b:Bal):List V:=[.str b.acc,.int .i64 b.amount]
structure Part where
 cat:List UInt8
 bp:Int
 net:Int
 tax:Int
deriving DecidableEq
def Part.enc (p:Part):List V:=[.str p.cat,.int .i64 p.bp,.int .i64 p.net,.int .i64 p.tax]
structure Total where
 net:Int
 tax:Int
 gross:Int
 parts:List Part
deriving DecidableEq
def qO (prev:Option Bal) (b:Bal):Bool⊕Option Bal:=match prev with
 | none=>.inl false
 | some p=>if kU p.acc b.acc=true then .inr (some b) else .inl false
def sJ (l:List Bal):Bool:=aD qO (fun _=>true) (l.drop 1) l[0]?
def tK:List UInt8:=[110,101,116,47]
def tL:List UInt8:=[116,97,120,47]
def oR (l:List Bal) (p:Part):(List Bal×Int)⊕List Bal:=
 if (bZ 0 p.net).2≠0 then .inl ([],7) else if (bZ 0 p.tax).2≠0 then .inl ([],7) else .inr (l++[⟨tK++p.cat,(bZ 0 p.net).1⟩,⟨tL++p.cat,(bZ 0 p.tax).1⟩])
def cG (t:Total):List Bal×Int:=aD oR (fun l=>(l,0)) t.parts [⟨[111,119,101,100],t.gross⟩]
theorem aGo:∀ (l:List Part) (a:List Bal) (r:List Bal×Int),aD oR (fun l=>(l,0)) l a=r→r.2=0→r.1.length=a.length+2*l.length
 | [],a,r,h,_=>by subst h;simp [aD]
 | p::l,a,r,h,h0=>by
  simp only [aD,oR] at h
  split at h
  ·rename_i r' he
   split at he
   ·cases he;subst h;cases h0
   ·split at he
    ·cases he;subst h;cases h0
    ·cases he
  ·rename_i s' he
   split at he
   ·cases he
   ·split at he
    ·cases he
    ·cases he
     have:=aGo l _ r h h0
     simp only [List.length_append,List.length_cons,List.length_nil] at this ⊢
     omega
theorem aMn {α:Type} (l:List α) (i:Nat) (a:α) (h:i≤l.length):(pF l i a)[i]?=some a:=by
 unfold pF
 rw [List.getElem?_append_right (by rw [List.length_take];omega),List.length_take,Nat.min_eq_left h,Nat.sub_self]
 rfl
theorem nL {α:Type} (l:List α) (i:Nat) (a:α) (h:i≤l.length):(pF l i a).length=l.length+1:=by
 simp only [pF,List.length_append,List.length_take,List.length_cons,List.length_drop];omega
def aJ (l:List Bal) (acc:List UInt8):Nat:=aTe (fun b=>kU b.acc acc) l
def fB (l:List Bal) (acc:List UInt8):Bool:=match l[aJ l acc]? with
 | none=>true
 | some b=>!(b.acc == acc)
def bK (l:List Bal) (acc:List UInt8):List Bal:=if fB l acc=true then pF l (aJ l acc) ⟨acc,0⟩ else l
def bR (l:List Bal) (x:Bal):(List Bal×Int)⊕List Bal:=match (bK l x.acc)[aJ l x.acc]? with
 | none=>.inl ([],0)
 | some b=>if (iX b.amount x.amount).2≠0 then .inl ([],(iX b.amount x.amount).2) else .inr ((bK l x.acc).set (aJ l x.acc) ⟨b.acc,(iX b.amount x.amount).1⟩)
def bY (book l:List Bal):List Bal×Int:=if sJ book=false then ([],1) else aD bR (fun l=>(l,0)) l book
theorem mO (l:List Bal) (acc:List UInt8):aJ l acc≤l.length:=aTf _ _
theorem xZ (l:List Bal) (acc:List UInt8):∃ b,(bK l acc)[aJ l acc]?=some b:=by
 unfold bK
 split
 ·exact ⟨_,aMn _ _ _ (mO l acc)⟩
 ·rename_i h
  unfold fB at h
  split at h
  ·exact absurd rfl h
  ·rename_i b hb;exact ⟨b,hb⟩
theorem yA (l:List Bal) (acc:List UInt8):(bK l acc).length≤l.length+1:=by
 unfold bK
 split
 ·rw [nL _ _ _ (mO l acc)];exact Nat.le_refl _
 ·omega
theorem oS (l:List Bal) (x:Bal):bR l x=if (iX ((bK l x.acc)[aJ l x.acc]?.map (·.amount) |>.getD 0) x.amount).2≠0 then .inl ([],(iX ((bK l x.acc)[aJ l x.acc]?.map (·.amount) |>.getD 0) x.amount).2)
  else .inr ((bK l x.acc).set (aJ l x.acc) ⟨((bK l x.acc)[aJ l x.acc]?.map (·.acc) |>.getD []),(iX ((bK l x.acc)[aJ l x.acc]?.map (·.amount) |>.getD 0) x.amount).1⟩):=by
 obtain ⟨b,hb⟩:=xZ l x.acc
 unfold bR
 simp only [hb,Option.map_some,Option.getD_some]
theorem aC5 {l l':List Bal} {x:Bal} (h:bR l x=.inr l'):l'.length≤l.length+1:=by
 rw [oS] at h
 split at h
 ·cases h
 ·cases h
  rw [List.length_set]
  exact yA l x.acc
theorem aAx:∀ (l:List Bal) (a:List Bal) (r:List Bal×Int),aD bR (fun l=>(l,0)) l a=r→r.1.length≤a.length+l.length
 | [],a,r,h=>by subst h;simp [aD]
 | x::l,a,r,h=>by
  simp only [aD] at h
  split at h
  ·rename_i r' he
   subst h
   rw [oS] at he
   split at he
   ·cases he;simp
   ·cases he
  ·rename_i s' he
   have h1:=aC5 he
   have:=aAx l _ r h
   simp only [List.length_cons]
   omega
def cM (n:Int):List V:=[.int .i64 n]
theorem aMo (n:Int):0≤wr .u64 n∧wr .u64 n<18446744073709551616:=by
 unfold wr lo hi
 simp only
 split
 ·omega
 ·show 0≤n % 18446744073709551616∧n % 18446744073709551616<18446744073709551616
  omega
theorem bDz:aGm 0=18446744073709551615:=by decide
def rQ (st:Int×Int) (n:Int):(Int×Bool)⊕(Int×Int):=
 .inr ((st.1+(if n<0 then 18446744073709551615 else 0)+(st.2+wr .u64 n+0) / 18446744073709551616) % 18446744073709551616,(st.2+wr .u64 n+0) % 18446744073709551616)
def qR (st:Int×Int):Int×Bool:=(wr .i64 st.2,if st.2.fdiv (2 ^ 63)=0 then decide (st.1=0) else decide (st.1=18446744073709551615))
def bO (l:List Int):Int×Bool:=aD rQ qR l (0,0)
structure Line where
 text:List UInt8
 cat:List UInt8
 count:Int
 price:Int
deriving DecidableEq
def Line.enc (l:Line):List V:=[.str l.text,.str l.cat,.int .i64 l.count,.int .i64 l.price]
def aMp (l:List Part) (cat:List UInt8):Nat:=aTe (fun p=>kU p.cat cat) l
def bE0 (l:List Part) (cat:List UInt8):Bool:=match l[aMp l cat]? with
 | none=>true
 | some b=>!(b.cat == cat)
def Total.zero:Total:=⟨0,0,0,[]⟩
def nM (n:Int):V:=.int .i64 n
def oT (done:List Int) (x:Int):(List Int×Int)⊕List Int:=if (bZ 0 x).2≠0 then .inl ([],(bZ 0 x).2) else .inr (done++[(bZ 0 x).1])
def fP (l:List Int):List Int×Int:=aD oT (fun l=>(l,0)) l []
def eH (acc:List Part) (p:Part):(List Part×Int)⊕List Part:=
 if (fP [p.net,p.tax]).2≠0 then .inl ([],(fP [p.net,p.tax]).2) else .inr (acc++[{ p with net:=(fP [p.net,p.tax]).1.getD 0 0,tax:=(fP [p.net,p.tax]).1.getD 1 0 }])
def fH (t:Total):Total×Int:=
 if (fP [t.net,t.tax,t.gross]).2≠0 then (Total.zero,(fP [t.net,t.tax,t.gross]).2) else
  if (aD eH (fun l=>(l,0)) t.parts []).2≠0 then (Total.zero,(aD eH (fun l=>(l,0)) t.parts []).2) else
   (⟨(fP [t.net,t.tax,t.gross]).1.getD 0 0,(fP [t.net,t.tax,t.gross]).1.getD 1 0,(fP [t.net,t.tax,t.gross]).1.getD 2 0,(aD eH (fun l=>(l,0)) t.parts []).1⟩,0)
structure Ref where
 ser:List UInt8
 num:Int
deriving DecidableEq
def Ref.zero:Ref:=⟨[],0⟩
structure Posted where
 ref:Ref
 day:Date
 total:Total
 of:Ref
 back:Bool
deriving DecidableEq
theorem aKv {α β:Type} (f:α→β) (p:β→Bool) (l:List α):vR (fun a=>p (f a)) l=vR p (l.map f):=by
 have:∀ (l:List α) (n:Nat),aD (cN fun a=>p (f a)) (fun _=>(-1:Int)) l n=aD (cN p) (fun _=>-1) (l.map f) n:=by
  intro l
  induction l with
  | nil=>intro n;rfl
  | cons a l ih=>
   intro n
   simp only [aD,List.map_cons,cN]
   by_cases h:p (f a)=true
   ·simp only [h,if_true]
   ·simp only [h,if_false]
    exact ih (n+1)
 exact this l 0
def cC (l:List Posted) (r:Ref):Int:=vR (fun p:Posted=>decide (p.ref=r)) l
theorem iZ (l:List Posted) (r:Ref):cC l r=-1∨∃ (i:Nat) (s:Posted),cC l r=(i:Int)∧l[i]?=some s∧s.ref=r:=by
 rcases lM (fun p:Posted=>decide (p.ref=r)) l with h | ⟨i,s,h1,h2,h3⟩
 ·exact .inl h
 ·exact .inr ⟨i,s,h1,h2,by simpa using h3⟩
def dU {α:Type} [DecidableEq α] (r:List α) (n:Nat) (a:α):Bool⊕Nat:=if r[n]?=some a then .inr (n+1) else .inl false
theorem eqL {α:Type} [DecidableEq α] {l r:List α} (h:l.length=r.length):aD (dU r) (fun _=>true) l 0=decide (l=r):=by
 have:∀ (l t r:List α),l.length=(r.drop t.length).length→r.take t.length=t→aD (dU r) (fun _=>true) l t.length=decide (l=r.drop t.length):=by
  intro l
  induction l with
  | nil=>
   intro t r h1 h2
   have:r.drop t.length=[]:=List.length_eq_zero_iff.1 h1.symm
   rw [this];rfl
  | cons a l ih=>
   intro t r h1 h2
   have hlt:t.length<r.length:=by rw [List.length_drop] at h1;simp only [List.length_cons] at h1;omega
   rw [List.drop_eq_getElem_cons hlt]
   simp only [aD,dU,List.getElem?_eq_getElem hlt]
   by_cases c:r[t.length]=a
   ·have e1:(t++[a]).length=t.length+1:=by simp
    have:=ih (t++[a]) r (by rw [e1];rw [List.length_drop] at h1 ⊢;simp only [List.length_cons] at h1;omega) (by rw [e1,List.take_succ_eq_append_getElem hlt,h2,c])
    rw [e1] at this
    simp only [c,if_true]
    rw [this]
    by_cases d:l=r.drop (t.length+1)<;>simp [d]
   ·have c':¬ (some r[t.length]=some a):=fun e=>c (Option.some.inj e)
    simp only [c',if_false]
    rw [eq_comm,decide_eq_false_iff_not]
    intro e
    exact c (List.cons.inj e).1.symm
 have:=this l [] r (by simpa using h) rfl
 simpa using this
def blkOf:V→Option Nat
 | .sl a _ _ _ _=>some a
 | _=>none
def gQ (t:Total):Bool:=
 if (bO (t.parts.map (·.net))).2=true then (if (bO (t.parts.map (·.tax))).2=true then (if (bO [t.net,t.tax]).2=true then
  (if (bO (t.parts.map (·.net))).1=t.net then (if (bO (t.parts.map (·.tax))).1=t.tax then decide ((bO [t.net,t.tax]).1=t.gross) else false) else false) else false) else false) else false
def rR (st:List Int×List Int) (p:Part):(List Int×List Int)⊕(List Int×List Int):=.inr (st.1++[p.net],st.2++[p.tax])
theorem aYr:∀ (l:List Part) (a b:List Int),aD rR id l (a,b)=(a++l.map (·.net),b++l.map (·.tax))
 | [],a,b=>by simp [aD]
 | p::l,a,b=>by simp only [aD,rR];rw [aYr l];simp
def fU (prev:Option Part) (s:Part):Bool:=match prev with
 | none=>false
 | some p=>!kU p.cat s.cat
def rT (s:Part):Bool:=decide (s.bp<0)||decide (100000<s.bp)
def rU (s:Part):Bool:=!decide ((cH s.net s.bp).2=0)||!decide ((cH s.net s.bp).1=s.tax)
def cI (prev:Option Part) (s:Part):Bool⊕Option Part:=
 if gP s.cat=false then .inl false else if fU prev s=true then .inl false else if rT s=true then .inl false else if rU s=true then .inl false else .inr (some s)
def cF (t:Total):Bool:=if t.parts.length<1 then false else if 12<t.parts.length then false else aD cI (fun _=>gQ t) t.parts none
def oV (p fr:Posted):Bool:=if fr.of=Ref.zero then (if p.day.before fr.day=false then (if (fH fr.total).2=0 then decide ((fH fr.total).1=p.total) else false) else false) else false
theorem aD7:∀ (l a:List Part) (r:List Part×Int),aD eH (fun l=>(l,0)) l a=r→r.1.length≤a.length+l.length
 | [],a,r,h=>by subst h;simp [aD]
 | x::l,a,r,h=>by
  simp only [aD] at h
  split at h
  ·rename_i r' he
   subst h
   unfold eH at he
   split at he
   ·cases he;simp
   ·cases he
  ·rename_i a' he
   unfold eH at he
   split at he
   ·cases he
   ·cases he
    have:=aD7 l _ r h
    simp only [List.length_append,List.length_cons,List.length_nil] at this ⊢
    omega
theorem aD8 (t:Total):(fH t).1.parts.length≤t.parts.length:=by
 unfold fH
 split
 ·simp [Total.zero]
 ·split
  ·simp [Total.zero]
  ·have:=aD7 t.parts [] _ rfl
   simpa using this
def aP (book:List Bal) (p:Posted):(List Bal×Int)⊕List Bal:=
 if (cG p.total).2≠0 then .inl ([],(cG p.total).2) else if (bY book (cG p.total).1).2≠0 then .inl ([],(bY book (cG p.total).1).2) else .inr (bY book (cG p.total).1).1
def cK (l:List Posted):List Bal×Int:=aD aP (fun b=>(b,0)) l []
theorem lY (book l:List Bal):(bY book l).1.length≤book.length+l.length:=by
 unfold bY
 split
 ·simp
 ·exact aAx l book _ rfl
theorem qT (t:Total):(cG t).1.length≤1+2*t.parts.length∨(cG t).2≠0:=by
 by_cases h:(cG t).2=0
 ·exact .inl (by have:=aGo t.parts _ _ rfl h;simp only [List.length_cons,List.length_nil] at this;unfold cG;omega)
 ·exact .inr h
def aGp:List V:=[.str [],.int .i64 0,.int .i64 0,.int .i64 0,.int .i64 0,.int .i64 0,.int .i64 0,.int .i64 0,.nils,.str [],.int .i64 0,.bool false]
def Fit (p:Posted):Prop:=p.total.parts.length≤12∧∀ q∈p.total.parts,q.cat.length≤1000000
def bump (l:List Int) (k:Nat):List Int:=l.set k (l.getD k 0+1)
def fS (st:List Posted×List Int) (p:Posted):Bool⊕(List Posted×List Int):=
 if p.day.right=false then .inl false else if cF p.total=false then .inl false else if p.of=Ref.zero then .inr (st.1++[p],st.2) else
  if cC st.1 p.of<0 then .inl false else if oV p (st.1.getD (cC st.1 p.of).toNat ⟨Ref.zero,⟨0,0,0⟩,Total.zero,Ref.zero,false⟩)=false then .inl false else
   .inr (st.1++[p],bump st.2 (cC st.1 p.of).toNat)
def gG (bs:List Int) (p:Posted):Bool⊕List Int:=if 1<bs.headD 0 then .inl false else if p.back=decide (bs.headD 0=1) then .inr bs.tail else .inl false
def jT (l:List Posted):Bool:=if 40<l.length then false else aD fS (fun st=>aD gG (fun _=>true) l st.2) l ([],List.replicate 40 0)
theorem mP {t:Total} (h:cF t=true):t.parts.length≤12:=by
 unfold cF at h
 split at h
 ·cases h
 ·split at h
  ·cases h
  ·omega
theorem vD (l:List Int) (k:Nat) (h:k<l.length):l.getD k 0=l[k]:=by rw [List.getD_eq_getElem?_getD,List.getElem?_eq_getElem h];rfl
structure State where
 table:List Rate
 ser:List Ser
 posted:List Posted
 book:List Bal
 sess:List Sess
 next:Int
deriving DecidableEq
def jU (ser:List Ser) (is:List Int) (p:Posted):Bool⊕List Int:=
 if cE ser p.ref.ser<0 then .inl false else if p.ref.num=(bump is (cE ser p.ref.ser).toNat).getD (cE ser p.ref.ser).toNat 0 then .inr (bump is (cE ser p.ref.ser).toNat) else .inl false
def jA (is:List Int) (s:Ser):Bool⊕List Int:=if s.next=is.headD 0+1 then .inr is.tail else .inl false
def lZ (ser:List Ser) (l:List Posted):Bool:=aD (jU ser) (fun is=>aD jA (fun _=>true) ser is) l (List.replicate 8 0)
theorem vE (l:List Int) (k:Nat):(bump l k).length=l.length:=List.length_set ..
theorem aR5 (l:List Int) (k:Nat) (h:k<l.length):(bump l k).getD k 0=l[k]+1:=by
 rw [List.getD_eq_getElem?_getD,bump,List.getElem?_set_self h,vD l k h];rfl
def oW (l:List Sess) (next:Int):Bool:=match l[l.length - 1]? with
 | none=>true
 | some s=>decide (s.id<next)
def gH (s:State):Bool:=if kQ s.sess=true then (if 1≤s.next then (if s.next≤1099511627776 then oW s.sess s.next else false) else false) else false
theorem aAy {σ α:Type} {step:σ→α→Bool⊕σ} {fin:σ→Bool} (hs:∀ s a r,step s a=.inl r→r=false):∀ (l:List α) (s:σ),aD step fin l s=true→∀ a∈l,∃ s s',step s a=.inr s'
 | [],s,h,a,ha=>by cases ha
 | b::l,s,h,a,ha=>by
  simp only [aD] at h
  split at h
  ·rename_i r he
   have:=hs s b r he
   rw [this] at h;cases h
  ·rename_i s' he
   rcases List.mem_cons.1 ha with rfl | ha
   ·exact ⟨s,s',he⟩
   ·exact aAy hs l s' h a ha
theorem aMq {s:List UInt8} (h:gP s=true):s.length≤24:=by
 unfold gP at h
 split at h
 ·cases h
 ·split at h
  ·cases h
  ·omega
theorem aEx {t:Total} (h:cF t=true):∀ q∈t.parts,gP q.cat=true:=by
 unfold cF at h
 split at h
 ·cases h
 ·split at h
  ·cases h
  ·intro q hq
   obtain ⟨s,s',he⟩:=aAy (fun s a r hr=>by
    unfold cI at hr
    repeat' split at hr
    all_goals cases hr
    all_goals rfl) t.parts none h q hq
   unfold cI at he
   split at he
   ·cases he
   ·rename_i hn;simpa using hn
theorem yB {p:Posted} (h:cF p.total=true):Fit p:=⟨mP h,fun q hq=>by have:=aMq (aEx h q hq);omega⟩
theorem aAz {l:List Posted} (h:jT l=true):l.length≤40∧∀ p∈l,p.day.right=true∧cF p.total=true:=by
 unfold jT at h
 split at h
 ·cases h
 ·refine ⟨by omega,fun p hp=>?_⟩
  obtain ⟨s,s',he⟩:=aAy (fun s a r hr=>by
   unfold fS at hr
   repeat' split at hr
   all_goals cases hr
   all_goals rfl) l _ h p hp
  unfold fS at he
  split at he
  ·cases he
  ·rename_i h1
   split at he
   ·cases he
   ·rename_i h2
    exact ⟨by simpa using h1,by simpa using h2⟩
def fX (s:State):Bool:=if kK s.table=false then false else if tJ s.ser=false then false else if gH s=false then false else if jT s.posted=false then false else
 if lZ s.ser s.posted=false then false else if (cK s.posted).2=0 then decide ((cK s.posted).1=s.book) else false
theorem qU:∀ (l:List Posted) (a:List Bal) (r:List Bal×Int),(∀ p∈l,p.total.parts.length≤12)→aD aP (fun b=>(b,0)) l a=r→r.1.length≤a.length+25*l.length
 | [],a,r,_,h=>by subst h;simp [aD]
 | p::l,a,r,hp,h=>by
  simp only [aD] at h
  split at h
  ·rename_i r' he
   subst h
   unfold aP at he
   repeat' split at he
   all_goals cases he
   all_goals simp
  ·rename_i a' he
   unfold aP at he
   split at he
   ·cases he
   ·rename_i h1
    split at he
    ·cases he
    ·cases he
     have h2:=(qT p.total).resolve_right h1
     have h3:=lY a (cG p.total).1
     have h4:=hp p (List.mem_cons_self ..)
     have:=qU l _ r (fun q hq=>hp q (List.mem_cons_of_mem _ hq)) h
     simp only [List.length_cons]
     omega
def why (e:Int):Rep:=⟨e,0,0⟩
structure Cmd where
 kind:Int
 series:List UInt8
 limit:Int
 row:Rate
 day:Date
 lines:List Line
 of:Ref
 session:Int
def hM (l:List Posted) (k:Nat):List Posted:=match l[k]? with
 | none=>l
 | some p=>l.set k { p with back:=true }
theorem aGq {s:State} (h:fX s=true):s.table.length≤24∧s.ser.length≤8∧s.sess.length≤8∧s.posted.length≤40∧s.book.length≤1000∧(∀ p∈s.posted,p.total.parts.length≤12)∧s.book=(cK s.posted).1:=by
 unfold fX at h
 split at h
 ·cases h
 ·rename_i h1
  split at h
  ·cases h
  ·rename_i h2
   split at h
   ·cases h
   ·rename_i h3
    split at h
    ·cases h
    ·rename_i h4
     split at h
     ·cases h
     ·split at h
      ·have hb:=of_decide_eq_true h
       have h4':jT s.posted=true:=by simpa using h4
       obtain ⟨p1,p2⟩:=aAz h4'
       have hparts:∀ p∈s.posted,p.total.parts.length≤12:=fun p hp=>mP (p2 p hp).2
       have hl:=qU s.posted [] (cK s.posted) hparts rfl
       have hs:kQ s.sess=true:=by
        unfold gH at h3
        by_cases c:kQ s.sess=true
        ·exact c
        ·rw [if_neg c] at h3;exact absurd rfl h3
       refine ⟨aIp (by simpa using h1),aAw (by simpa using h2),wP hs,p1,?_,hparts,hb.symm⟩
       rw [←hb]
       simp only [List.length_nil] at hl
       omega
      ·cases h
end Go.Proofs.YtoaibmbldmckaaaGreat
end
section
namespace Go.AM
def qV {α:Type} (a:α):Option (List α)→Option (List α)
 | some l=>some (a::l)
 | none=>none
def vF:List V→Nat→Option (List V)
 | _,0=>some []
 | [],_+1=>none
 | a::l,n+1=>qV a (vF l n)
def qW:List V→Nat→List V→Option (List V)
 | cs,0,[]=>some cs
 | [],0,_::_=>none
 | _::cs,0,x::xs=>qV x (qW cs 0 xs)
 | [],_+1,_=>none
 | c::cs,j+1,xs=>qV c (qW cs j xs)
def rB:List V→Nat→Bool
 | [],0=>true
 | _::l,n+1=>rB l n
 | _,_=>false
def aEy {α:Type}:List α→Nat→α→Option (List α)
 | [],_,_=>none
 | _::l,0,x=>some (x::l)
 | a::l,i+1,x=>qV a (aEy l i x)
theorem aGr:∀ (l:List V) (n:Nat),vF l n=if n≤l.length then some (l.take n) else none
 | l,0=>by cases l<;>simp [vF]
 | [],n+1=>by simp [vF]
 | a::l,n+1=>by
  simp only [vF,aGr l n,List.length_cons,Nat.add_le_add_iff_right,List.take_succ_cons]
  split<;>rfl
theorem vG:∀ (cs:List V) (j:Nat) (xs:List V),qW cs j xs=if j+xs.length≤cs.length then some (splice cs j xs) else none
 | cs,0,[]=>by cases cs<;>simp [qW,splice]
 | [],0,x::xs=>by simp [qW]
 | c::cs,0,x::xs=>by
  have h:=vG cs 0 xs
  simp only [qW,h,List.length_cons,splice,List.take_zero,List.nil_append,Nat.zero_add]
  by_cases c1:xs.length≤cs.length
  ·rw [if_pos c1,if_pos (by omega)];simp [qV]
  ·rw [if_neg c1,if_neg (by omega)];rfl
 | [],j+1,xs=>by simp [qW]
 | c::cs,j+1,xs=>by
  have h:=vG cs j xs
  simp only [qW,h,List.length_cons,splice]
  by_cases c1:j+xs.length≤cs.length
  ·rw [if_pos c1,if_pos (by omega)]
   simp only [qV,List.take_succ_cons,List.cons_append,show j+1+xs.length=(j+xs.length)+1 by omega,List.drop_succ_cons]
  ·rw [if_neg c1,if_neg (by omega)];rfl
theorem vH:∀ (l:List V) (n:Nat),rB l n=decide (l.length=n)
 | [],0=>rfl
 | [],n+1=>by simp [rB]
 | a::l,0=>by simp [rB]
 | a::l,n+1=>by simp [rB,vH l n]
theorem aKw {α:Type}:∀ (l:List α) (i:Nat) (x:α),aEy l i x=if i<l.length then some (l.set i x) else none
 | [],i,x=>by simp [aEy]
 | a::l,0,x=>by simp [aEy]
 | a::l,i+1,x=>by
  simp only [aEy,aKw l i x,List.length_cons,Nat.add_lt_add_iff_right,List.set_cons_succ]
  split<;>rfl
theorem pt2 (n:Nat) (cs:List V) (j:Nat):gO (some (n+1)) cs j=(match vF (cs.drop j) (n+1) with
  | some l=>.ok (.agg l)
  | none=>.error "part"):=by
 simp only [gO,aGr,List.length_drop]
 by_cases c:j+(n+1)≤cs.length
 ·rw [if_pos c,if_pos (by omega)]
 ·rw [if_neg c,if_neg (by omega)]
theorem st2 (n a ver i j:Nat) (x:V) (S:St):dT n (.ptr a ver i j) x S=(match aC S a ver with
  | .error e=>.error e
  | .ok (es,elems)=>match elems[i]? with
   | some cs=>(match rB x.cells n&&aI x.cells with
    | true=>(match qW cs j x.cells with
     | some cs'=>.ok ⟨S.next,S.heap.put a (.row ver es (elems.set i cs'))⟩
     | none=>.error "store: the size")
    | false=>.error "store: the size")
   | none=>.error "store"):=by
 simp only [dT,vG,vH]
 cases aC S a ver with
 | error e=>rfl
 | ok r=>
  obtain ⟨es,elems⟩:=r
  simp only
  cases elems[i]? with
  | none=>rfl
  | some cs=>
   simp only
   by_cases c1:x.cells.length=n
   ·cases c2:aI x.cells
    ·simp [c1]
    ·by_cases c3:j+x.cells.length≤cs.length
     ·rw [if_pos ⟨c1,rfl,c3⟩];simp [c1];simp [←c1,c3]
     ·rw [if_neg (fun h=>c3 h.2.2)];simp [c1];simp [←c1,c3]
   ·rw [if_neg (fun h=>c1 h.1)];simp [c1]
theorem bw0 (z:List V) (pl:List (Nat×Nat)):tE z pl []=.ok (.agg z):=rfl
theorem bw1 (z:List V) (pl:List (Nat×Nat)) (i:Nat) (v:V) (rest:List (Nat×V)):tE z pl ((i,v)::rest)=(match pl[i]? with
  | none=>.error "fill"
  | some (off,size)=>(match rB v.cells size&&aI v.cells with
   | true=>(match qW z off v.cells with
    | some z'=>tE z' pl rest
    | none=>.error "fill")
   | false=>.error "fill")):=by
 simp only [tE,pQ]
 cases pl[i]? with
 | none=>rfl
 | some p=>
  obtain ⟨off,size⟩:=p
  simp only [vG,vH,cond_eq_ite]
  by_cases c1:v.cells.length=size
  ·cases c2:aI v.cells
   ·simp [c1]
   ·by_cases c3:off+v.cells.length≤z.length
    ·have h1:Nat.beq v.cells.length size=true:=by simpa using c1
     have h2:Nat.ble (off+v.cells.length) z.length=true:=Nat.ble_eq_true_of_le c3
     simp [h1,h2,c1]
     simp [←c1,c3]
    ·have h2:Nat.ble (off+v.cells.length) z.length=false:=by
      cases h:Nat.ble (off+v.cells.length) z.length with
      | false=>rfl
      | true=>exact absurd (Nat.le_of_ble_eq_true h) c3
     simp [h2,c1]
     simp [←c1,c3]
  ·have h1:Nat.beq v.cells.length size=false:=by
    cases h:Nat.beq v.cells.length size with
    | false=>rfl
    | true=>exact absurd (Nat.eq_of_beq_eq_true h) c1
   simp [h1,c1]
theorem lv1 (es:Nat) (elems:List (List V)) (i:Nat) (v:V) (rest:List (Nat×V)):tW es elems ((i,v)::rest)=(match rB v.cells es&&aI v.cells with
  | true=>(match aEy elems i v.cells with
   | some e=>tW es e rest
   | none=>.error "buildSlice")
  | false=>.error "buildSlice"):=by
 simp only [tW,aKw,vH,cond_eq_ite]
 by_cases c1:v.cells.length=es
 ·have h1:Nat.beq v.cells.length es=true:=by simpa using c1
  cases c2:aI v.cells
  ·simp [c1]
  ·by_cases c3:i<elems.length
   ·have h2:Nat.blt i elems.length=true:=by simpa using c3
    simp [h1,h2,c1,c3]
   ·have h2:Nat.blt i elems.length=false:=by
     cases h:Nat.blt i elems.length with
     | false=>rfl
     | true=>exact absurd (by simpa using h) c3
    simp [h2,c1,c3]
 ·have h1:Nat.beq v.cells.length es=false:=by
   cases h:Nat.beq v.cells.length es with
   | false=>rfl
   | true=>exact absurd (Nat.eq_of_beq_eq_true h) c1
  simp [h1,c1]
theorem aXn:(∀ {α:Type} (a:α) (l:List α),qV a (some l)=some (a::l))∧(∀ l:List V,vF l 0=some [])∧(∀ (a:V) (l:List V) (n:Nat),vF (a::l) (n+1)=qV a (vF l n)) ∧
  (∀ cs:List V,qW cs 0 []=some cs)∧(∀ (c x:V) (cs xs:List V),qW (c::cs) 0 (x::xs)=qV x (qW cs 0 xs))∧(∀ (c:V) (cs:List V) (j:Nat) (xs:List V),qW (c::cs) (j+1) xs=qV c (qW cs j xs)) ∧
  rB [] 0=true∧(∀ (a:V) (l:List V) (n:Nat),rB (a::l) (n+1)=rB l n)∧(∀ {α:Type} (a:α) (l:List α) (x:α),aEy (a::l) 0 x=some (x::l))∧(∀ {α:Type} (a:α) (l:List α) (i:Nat) (x:α),aEy (a::l) (i+1) x=qV a (aEy l i x)) ∧
  type_of% pt2∧(∀ (n a j:Nat) (x:V) (S:St),type_of% (st2 n a 0 0 j x S))∧type_of% bw0∧type_of% bw1∧type_of% lv1∧(∀ (es:Nat) (l:List (List V)),tW es l []=.ok l):=
 ⟨fun _ _=>rfl,fun l=>by cases l<;>rfl,fun _ _ _=>rfl,fun cs=>by cases cs<;>rfl,fun _ _ _ _=>rfl,fun _ _ _ _=>by simp only [qW],rfl,fun _ _ _=>rfl,fun _ _ _=>rfl,fun _ _ _ _=>rfl,pt2,fun n a j x S=>st2 n a 0 0 j x S,bw0,bw1,lv1,fun _ _=>rfl⟩
section
section
variable {P:Program}
theorem aTg (b:Bool) (x y:Prop):aV (.bool b) x y=if b=true then x else y:=by cases b<;>rfl
theorem ldP (k:Option Nat) (a ver i j:Nat) (S:St):fN k (.ptr a ver i j) S=(match aC S a ver with
  | .error e=>.error e
  | .ok (_,elems)=>match elems[i]? with
   | some cs=>gO k cs j
   | none=>.error "load"):=rfl
theorem ptN (cs:List V) (j:Nat):gO none cs j=(match cs[j]? with
  | some v=>.ok v
  | none=>.error "part"):=rfl
theorem grS (n:Nat) (h:Tr Blk) (a ver es:Nat) (el:List (List V)):aC ⟨n,h.put a (.row ver es el)⟩ a ver=.ok (es,el):=aA ..
theorem kE {c a:Nat} (hc:c≠a) (n:Nat) (h:Tr Blk) (ver:Nat) (b:Blk):aC ⟨n,h.put a b⟩ c ver=aC ⟨n,h⟩ c ver:=sI n n h a c ver b hc
theorem nb0 (S:St) (b:Blk):bD none S b=.ok (S.next,⟨S.next+1,S.heap.put S.next b⟩):=dK S b
theorem nb1 (k:Nat) (S:St) (b:Blk):bD (some k) S b=.ok (k,⟨S.next,S.heap.put k b⟩):=aCh k S b
theorem stP (n a ver i j:Nat) (x:V) (S:St):dT n (.ptr a ver i j) x S=(match aC S a ver with
  | .error e=>.error e
  | .ok (es,elems)=>match elems[i]? with
   | some cs=>if x.cells.length=n∧aI x.cells=true∧j+x.cells.length≤cs.length then .ok ⟨S.next,S.heap.put a (.row ver es (elems.set i (splice cs j x.cells)))⟩ else .error "store: the size"
   | none=>.error "store"):=rfl
theorem ixI {α:Type} {l:List α} {enc:α→List V} {i:Nat} {a:α} {n:Nat} (hi:l[i]?=some a) (hn:(enc a).length=n) (k:IntKind):fK n (.imm (l.map enc)) (.int k (i:Int))=.ok (.iptr (enc a) 0):=by
 have hil:=(List.getElem?_eq_some_iff.1 hi).1
 have hx:(l.map enc)[i]?=some (enc a):=by rw [List.getElem?_map,hi];rfl
 simp only [fK,List.length_map,fF hil,hx]
 simp only [hn,if_true]
theorem aR6 (S:St) (es:List (List V)):fW S (.imm es)=.ok (.imm es):=rfl
theorem okI {α:Type} (a b:α):((Except.ok a:R α)=.ok b)=(a=b):=by simp
end
theorem kit:(∀ {α:Type} (a:α) (K:α→Prop),wR (.ok a) K=K a)∧(∀ {α:Type} (a:α) (K:α→Prop),wO (some a) K=K a)∧(∀ x:Prop,yN true x=x)∧(∀ (b:Bool) (x y:Prop),aV (.bool b) x y=if b=true then x else y) ∧
  (∀ (v:V) (r:List V) (K:V→List V→Prop),uX (v::r) K=K v r)∧(∀ (vs:List V) (i:Nat) (K:V→Prop),lD (.tup vs) i K=wO vs[i]? K)∧(∀ (a b c d:Nat) (x:Prop),wJ (.ptr a b c d) x=x)∧(∀ (a:List V) (b:Nat) (x:Prop),wJ (.iptr a b) x=x) ∧
  (∀ b:Bool,unV .not (.bool b)=.ok (.bool !b))∧(∀ v:V,fV v v=true):=
 ⟨fun _ _=>rfl,fun _ _=>rfl,fun _=>rfl,aTg,fun _ _ _=>rfl,fun _ _ _=>rfl,fun _ _ _ _ _=>rfl,fun _ _ _=>rfl,fun _=>rfl,wN⟩
theorem bE1 (P:Program):(∀ (t:TypeId) (k:IntKind) (a b:Int),bW P .add t (.int k a) (.int k b)=.ok (.int k (wr k (a+b))))∧(∀ (t:TypeId) (k:IntKind) (a b:Int),bW P .sub t (.int k a) (.int k b)=.ok (.int k (wr k (a - b)))) ∧
  (∀ (t:TypeId) (k:IntKind) (a b:Int),bW P .mul t (.int k a) (.int k b)=.ok (.int k (wr k (a*b))))∧(∀ (t:TypeId) (k:IntKind) (a b:Int),bW P .lss t (.int k a) (.int k b)=.ok (.bool (decide (a<b)))) ∧
  (∀ (t:TypeId) (k:IntKind) (a b:Int),bW P .leq t (.int k a) (.int k b)=.ok (.bool (decide (a≤b))))∧(∀ (t:TypeId) (k:IntKind) (a b:Int),bW P .gtr t (.int k a) (.int k b)=.ok (.bool (decide (b<a)))) ∧
  (∀ (t:TypeId) (k:IntKind) (a b:Int),bW P .geq t (.int k a) (.int k b)=.ok (.bool (decide (b≤a))))∧(∀ (t:TypeId) (k:IntKind) (a b:Int),bW P .eql t (.int k a) (.int k b)=.ok (.bool (decide (a=b)))) ∧
  (∀ (t:TypeId) (k:IntKind) (a b:Int),bW P .neq t (.int k a) (.int k b)=.ok (.bool (!decide (a=b)))) ∧
  (∀ (t:TypeId) (j k:IntKind) (a b:Int),bI P t (.int j a) (.int k b)=true)∧(∀ (t:TypeId) (x y:List UInt8),bI P t (.str x) (.str y)=true)∧(∀ (t:TypeId) (x y:Bool),bI P t (.bool x) (.bool y)=true) ∧
  (∀ (t:TypeId) (x y:List UInt8),bW P .eql t (.str x) (.str y)=.ok (.bool (x == y)))∧(∀ (t:TypeId) (x y:List UInt8),bW P .neq t (.str x) (.str y)=.ok (.bool (!(x == y)))) ∧
  (∀ (t:TypeId) (x y:List UInt8),bW P .lss t (.str x) (.str y)=.ok (.bool (kU x y)))∧(∀ (t:TypeId) (x y:List UInt8),bW P .geq t (.str x) (.str y)=.ok (.bool (!kU x y))) ∧
  (∀ (t:TypeId) (k:IntKind) (a b:Int),b≠0→bW P .quo t (.int k a) (.int k b)=.ok (.int k (wr k (a.tdiv b))))∧(∀ (t:TypeId) (k:IntKind) (a b:Int),b≠0→bW P .rem t (.int k a) (.int k b)=.ok (.int k (a.tmod b))):=
 ⟨aSi P,aSj P,aSk P,aSn P,aSo P,aSp P,aSq P,aSr P,aSs P,fun _ _ _ _ _=>rfl,fun _ _ _=>rfl,fun _ _ _=>rfl,aSt P,aSu P,aSv P,aSw P,fun _ _ _ _ h=>aSl P _ _ _ _ h,fun _ _ _ _ h=>aSm P _ _ _ _ h⟩
theorem bE2 : (∀ (k : Option Nat) (a j : Nat) (S : St), fN k (.ptr a 0 0 j) S = (match aC S a 0 with
      | .error e => .error e
      | .ok (_, elems) => match elems[0]? with
        | some cs => gO k cs j
        | none => .error "load")) ∧ (∀ (k : Option Nat) (cs : List V) (j : Nat) (S : St), fN k (.iptr cs j) S = gO k cs j) ∧
    (∀ (cs : List V) (j : Nat), gO none cs j = (match cs[j]? with
      | some v => .ok v
      | none => .error "part")) ∧
    (∀ off a ver i j : Nat, advW off (.ptr a ver i j) = .ok (.ptr a ver i (j + off))) ∧ (∀ (off : Nat) (cs : List V) (j : Nat), advW off (.iptr cs j) = .ok (.iptr cs (j + off))) ∧
    (∀ (n : Nat) (h : Tr Blk) (a ver es : Nat) (el : List (List V)), aC ⟨n, h.put a (.row ver es el)⟩ a ver = .ok (es, el)) ∧ (∀ (S : St) (b : Blk), bD none S b = .ok (S.next, ⟨S.next + 1, S.heap.put S.next b⟩)) ∧
    (∀ (k : Nat) (S : St) (b : Blk), bD (some k) S b = .ok (k, ⟨S.next, S.heap.put k b⟩)) ∧ (∀ cs : List V, (V.agg cs).cells = cs) ∧ (∀ b : Bool, (V.bool b).cells = [.bool b]) ∧ (∀ (k : IntKind) (n : Int), (V.int k n).cells = [.int k n]) ∧
    (∀ s : List UInt8, (V.str s).cells = [.str s]) ∧ (∀ es : List (List V), (V.imm es).cells = [.imm es]) ∧ V.nils.cells = [.nils] ∧ (∀ a b c d : Nat, (V.ptr a b c d).cells = [.ptr a b c d]) ∧ (∀ a b c d e : Nat, (V.sl a b c d e).cells = [.sl a b c d e]) ∧
    (∀ (f : FuncId) (a b : List V), (V.func f a b).cells = [.func f a b]) ∧ aI [] = true ∧ (∀ (v : V) (l : List V), aI (v :: l) = (v.one && aI l)) ∧ (∀ b : Bool, (V.bool b).one = true) ∧ (∀ (k : IntKind) (n : Int), (V.int k n).one = true) ∧ (∀ s : List UInt8, (V.str s).one = true) ∧
    (∀ es : List (List V), (V.imm es).one = true) ∧ V.nils.one = true ∧ (∀ a b c d : Nat, (V.ptr a b c d).one = true) ∧ (∀ a b c d e : Nat, (V.sl a b c d e).one = true) ∧ (∀ (f : FuncId) (a b : List V), (V.func f a b).one = true) ∧
    (∀ es : List (List V), lenW (.imm es) = .ok (.int .i64 es.length)) ∧ lenW .nils = .ok (.int .i64 0) ∧ (∀ a b c d e : Nat, lenW (.sl a b c d e) = .ok (.int .i64 e)) ∧
    (∀ (S : St) (b : Bool), fW S (.bool b) = .ok (.bool b)) ∧ (∀ (S : St) (k : IntKind) (n : Int), fW S (.int k n) = .ok (.int k n)) ∧ (∀ (S : St) (s : List UInt8), fW S (.str s) = .ok (.str s)) ∧ (∀ (S : St) (es : List (List V)), fW S (.imm es) = .ok (.imm es)) ∧
    (∀ {α : Type} (a b : α), ((Except.ok a : R α) = .ok b) = (a = b)) :=
  ⟨fun _ _ _ _ => rfl, fun _ _ _ _ => rfl, fun _ _ => rfl, fun _ _ _ _ _ => rfl, fun _ _ _ => rfl, grS, nb0, nb1, fun _ => rfl, fun _ => rfl, fun _ _ => rfl, fun _ => rfl, fun _ => rfl, rfl, fun _ _ _ _ => rfl, fun _ _ _ _ _ => rfl, fun _ _ _ => rfl, rfl, fun _ _ => rfl,
    fun _ => rfl, fun _ _ => rfl, fun _ => rfl, fun _ => rfl, rfl, fun _ _ _ _ => rfl, fun _ _ _ _ _ => rfl, fun _ _ _ => rfl, fun _ => rfl, rfl, fun _ _ _ _ _ => rfl, fun _ _ => rfl, fun _ _ _ => rfl, fun _ _ => rfl, fun _ _ => rfl, okI⟩
end
end Go.AM
end
section
namespace Go.Proofs.YtoaibmbldmckaaaGreat
open Go.AM Tryz
theorem fx:type_of% (A2 aPc <| A2 aVf <| A2 aVg <| A2 aVh <| A2 aVi <| A2 aVj <| A2 aVk <| A2 aVl <| A2 aVm <| A2 aVn <| A2 aVo <| A2 aVp <| A2 aVq <| A2 aVr <| A2 aVs <| A2 aVt <| A2 aVu <| A2 aVv <| A2 aVw <| A2 aVx <| A2 aVy <| A2 aVz <| A2 aW0 <| A2 aW1 <| A2 bAp <| A2 aW2 <| A2 bAq <| A2 bAr <| A2 bAs <| A2 bAt <| A2 bAu <| A2 bAv <| A2 bAw <| A2 bAx <| A2 bAy <| A2 bAz <| A2 bB0 <| A2 bB1 <| A2 aW3 <| A2 bB2 <| A2 bB3 <| A2 bB4 <| A2 bB5 <| A2 bB6 <| A2 bB7 <| A2 aW4 <| A2 aW5 <| A2 bB8 <| A2 bB9 <| A2 bBa <| A2 bBb <| A2 bBc <| A2 bBd <| A2 bBe <| A2 bBf <| A2 aJr <| A2 aJs <| A2 aJt <| A2 aJu <| A2 aJv <| A2 aJw <| A2 aJx <| A2 aJy <| A2 aJz <| A2 aK0 <| A2 aK1 <| A2 aK2 <| A2 aK3 <| A2 aK4 <| A2 aK5 <| A2 aK6 <| A2 aK7 <| A2 aK8 <| A2 aK9 <| A2 aKa <| A2 aKb <| A2 aKc <| A2 aKd <| A2 aKe <| A2 aKf <| A2 aKg <| A2 aKh <| A2 aKi <| A2 aKj <| A2 aKk <| A2 aKl <| A2 aKm <| A2 aKn <| A2 aKo <| A2 aKp <| A2 aKq <| A2 aPd <| A2 aPe <| A2 aPf <| A2 aPg <| A2 aPh <| A2 aPi <| A2 aKr <| A2 aKs <| A2 aPj <| A2 aPk <| A2 aPl <| A2 aPm <| A2 aPn <| A2 aPo <| A2 aPp <| A2 aPq <| A2 aPr <| A2 aPs <| A2 aPt <| A2 aPu <| A2 aPv <| A2 aPw <| A2 aPx <| A2 aPy <| A2 aPz <| A2 aQ0 <| A2 aQ1 <| A2 aQ2 <| A2 aQ3 <| A2 aQ4 <| A2 aQ5 <| A2 aQ6 <| A2 aQ7 <| A2 aQ8 <| A2 aQ9 <| A2 aQa <| A2 aQb <| A2 aQc <| A2 aQd <| A2 aQe <| A2 aQf <| A2 aQg <| A2 aQh <| A2 aQi <| A2 aQj <| A2 aQk <| A2 aQl <| A2 aQm <| A2 aQn <| A2 aQo <| A2 aQp <| A2 aQq <| A2 aQr <| A2 aQs <| A2 aWg <| A2 aWh <| A2 bC3 <| A2 bC4 <| A2 bC5 <| A2 bC6 <| A2 bC7 <| A2 bC8 <| A2 aWi <| A2 aWj <| A2 bC9 <| A2 bCa <| A2 bCb <| A2 bCc <| A2 bCd <| A2 bCe <| A2 bCf <| A2 bCg <| A2 aWk <| A2 aWl <| A2 aWm <| A2 ld2 <| A2 aWn <| A2 aWo <| A2 bCh <| A2 aWp <| A2 aWq <| A2 aWr <| A2 bCi <| A2 bCj <| A2 bCk <| A2 bCl <| A2 bCm <| A2 ld3 <| A2 bCn <| A2 bCo <| A2 aWs <| A2 aWt <| A2 ld4 <| A2 bCp <| A2 ld5 <| A2 bCq <| A2 bCr <| A2 bCs <| A2 bCt <| A2 bCu <| A2 bCv <| A2 bCw <| A2 bCx <| A2 bCy <| A2 bCz <| A2 ld9 <| A2 bD0 <| A2 bD1 <| A2 aQt <| A2 aQu <| A2 aWu <| A2 aWv <| A2 aWw <| A2 aWx <| A2 aWy <| A2 aWz <| A2 aQv <| A2 aQw <| A2 aX0 <| A2 aX1 <| A2 aX2 <| A2 aX3 <| A2 aX4 <| A2 aX5 <| A2 bD2 <| A2 aX6 <| A2 aX7 <| A2 bD3 <| A2 bD4 <| A2 bD5 <| A2 bD6 <| A2 aYo <| A2 bD8 <| A2 bD9 <| A2 bDa <| A2 bDb <| A2 bDc <| A2 bDd <| A2 aX8 <| A2 aX9 <| A2 aXa <| A2 aXb <| A2 aXc <| A2 bDe <| A2 aXd <| A2 aXe <| A2 bDf <| A2 bDg <| A2 bDh <| A2 bDi <| A2 bDj <| A2 st3 <| A2 bDk <| A2 bDl <| A2 aXf <| A2 st4 <| A2 bDm <| A2 st5 <| A2 bDn <| A2 bDo <| A2 bDp <| A2 bDq <| A2 bDr <| A2 bDs <| A2 bDt <| A2 bDu <| A2 bDv <| A2 st9 <| A2 bDw <| bDx):=A2 aPc <| A2 aVf <| A2 aVg <| A2 aVh <| A2 aVi <| A2 aVj <| A2 aVk <| A2 aVl <| A2 aVm <| A2 aVn <| A2 aVo <| A2 aVp <| A2 aVq <| A2 aVr <| A2 aVs <| A2 aVt <| A2 aVu <| A2 aVv <| A2 aVw <| A2 aVx <| A2 aVy <| A2 aVz <| A2 aW0 <| A2 aW1 <| A2 bAp <| A2 aW2 <| A2 bAq <| A2 bAr <| A2 bAs <| A2 bAt <| A2 bAu <| A2 bAv <| A2 bAw <| A2 bAx <| A2 bAy <| A2 bAz <| A2 bB0 <| A2 bB1 <| A2 aW3 <| A2 bB2 <| A2 bB3 <| A2 bB4 <| A2 bB5 <| A2 bB6 <| A2 bB7 <| A2 aW4 <| A2 aW5 <| A2 bB8 <| A2 bB9 <| A2 bBa <| A2 bBb <| A2 bBc <| A2 bBd <| A2 bBe <| A2 bBf <| A2 aJr <| A2 aJs <| A2 aJt <| A2 aJu <| A2 aJv <| A2 aJw <| A2 aJx <| A2 aJy <| A2 aJz <| A2 aK0 <| A2 aK1 <| A2 aK2 <| A2 aK3 <| A2 aK4 <| A2 aK5 <| A2 aK6 <| A2 aK7 <| A2 aK8 <| A2 aK9 <| A2 aKa <| A2 aKb <| A2 aKc <| A2 aKd <| A2 aKe <| A2 aKf <| A2 aKg <| A2 aKh <| A2 aKi <| A2 aKj <| A2 aKk <| A2 aKl <| A2 aKm <| A2 aKn <| A2 aKo <| A2 aKp <| A2 aKq <| A2 aPd <| A2 aPe <| A2 aPf <| A2 aPg <| A2 aPh <| A2 aPi <| A2 aKr <| A2 aKs <| A2 aPj <| A2 aPk <| A2 aPl <| A2 aPm <| A2 aPn <| A2 aPo <| A2 aPp <| A2 aPq <| A2 aPr <| A2 aPs <| A2 aPt <| A2 aPu <| A2 aPv <| A2 aPw <| A2 aPx <| A2 aPy <| A2 aPz <| A2 aQ0 <| A2 aQ1 <| A2 aQ2 <| A2 aQ3 <| A2 aQ4 <| A2 aQ5 <| A2 aQ6 <| A2 aQ7 <| A2 aQ8 <| A2 aQ9 <| A2 aQa <| A2 aQb <| A2 aQc <| A2 aQd <| A2 aQe <| A2 aQf <| A2 aQg <| A2 aQh <| A2 aQi <| A2 aQj <| A2 aQk <| A2 aQl <| A2 aQm <| A2 aQn <| A2 aQo <| A2 aQp <| A2 aQq <| A2 aQr <| A2 aQs <| A2 aWg <| A2 aWh <| A2 bC3 <| A2 bC4 <| A2 bC5 <| A2 bC6 <| A2 bC7 <| A2 bC8 <| A2 aWi <| A2 aWj <| A2 bC9 <| A2 bCa <| A2 bCb <| A2 bCc <| A2 bCd <| A2 bCe <| A2 bCf <| A2 bCg <| A2 aWk <| A2 aWl <| A2 aWm <| A2 ld2 <| A2 aWn <| A2 aWo <| A2 bCh <| A2 aWp <| A2 aWq <| A2 aWr <| A2 bCi <| A2 bCj <| A2 bCk <| A2 bCl <| A2 bCm <| A2 ld3 <| A2 bCn <| A2 bCo <| A2 aWs <| A2 aWt <| A2 ld4 <| A2 bCp <| A2 ld5 <| A2 bCq <| A2 bCr <| A2 bCs <| A2 bCt <| A2 bCu <| A2 bCv <| A2 bCw <| A2 bCx <| A2 bCy <| A2 bCz <| A2 ld9 <| A2 bD0 <| A2 bD1 <| A2 aQt <| A2 aQu <| A2 aWu <| A2 aWv <| A2 aWw <| A2 aWx <| A2 aWy <| A2 aWz <| A2 aQv <| A2 aQw <| A2 aX0 <| A2 aX1 <| A2 aX2 <| A2 aX3 <| A2 aX4 <| A2 aX5 <| A2 bD2 <| A2 aX6 <| A2 aX7 <| A2 bD3 <| A2 bD4 <| A2 bD5 <| A2 bD6 <| A2 aYo <| A2 bD8 <| A2 bD9 <| A2 bDa <| A2 bDb <| A2 bDc <| A2 bDd <| A2 aX8 <| A2 aX9 <| A2 aXa <| A2 aXb <| A2 aXc <| A2 bDe <| A2 aXd <| A2 aXe <| A2 bDf <| A2 bDg <| A2 bDh <| A2 bDi <| A2 bDj <| A2 st3 <| A2 bDk <| A2 bDl <| A2 aXf <| A2 st4 <| A2 bDm <| A2 st5 <| A2 bDn <| A2 bDo <| A2 bDp <| A2 bDq <| A2 bDr <| A2 bDs <| A2 bDt <| A2 bDu <| A2 bDv <| A2 st9 <| A2 bDw <| bDx
theorem ls:(∀ {α:Type} (a:α) (l:List α),(a::l)[0]?=some a)∧(∀ {α:Type} (a:α) (l:List α) (i:Nat),(a::l)[i+1]?=l[i]?)∧(∀ {α:Type} (i:Nat),([]:List α)[i]?=none)∧(∀ {α:Type} (a:α) (l:List α),(a::l).length=l.length+1)∧(∀ {α:Type},([]:List α).length=0) ∧
  (∀ {α:Type} (l:List α),l.drop 0=l)∧(∀ {α:Type} (a:α) (l:List α) (i:Nat),(a::l).drop (i+1)=l.drop i)∧(∀ {α:Type} (l:List α),l.take 0=[])∧(∀ {α:Type} (a:α) (l:List α) (i:Nat),(a::l).take (i+1)=a::l.take i)∧(∀ {α:Type} (i:Nat),([]:List α).take i=[])∧(∀ {α:Type} (i:Nat),([]:List α).drop i=[]) ∧
  (∀ {α:Type} (l:List α),[]++l=l)∧(∀ {α:Type} (a:α) (l m:List α),a::l++m=a::(l++m))∧(∀ {α:Type} (a b:α) (l:List α),(a::l).set 0 b=b::l)∧(∀ {α:Type} (a b:α) (l:List α) (i:Nat),(a::l).set (i+1) b=a::l.set i b) ∧
  (∀ b:Bool,(true&&b)=b)∧(∀ b:Bool,(b&&true)=b)∧(∀ b:Bool,(!!b)=b)∧(∀ {p q:Prop},(if true=true then p else q)=p)∧(∀ {p q:Prop},(if false=true then p else q)=q)∧(!true)=false∧(!false)=true∧(∀ {α:Type} (a b:α),(if True then a else b)=a)∧(∀ {α:Type} (a b:α),(if False then a else b)=b)∧(∀ n:Nat,0+n=n)∧(∀ n:Nat,n+0=n)∧(∀ {α:Type} (f:α→List V) (l:List α),(l.map f).length=l.length) ∧
  (∀ (p:Prop) [Decidable p],(decide p=true)=p)∧(∀ (p:Prop) [Decidable p],((!decide p)=true)=¬ p)∧(∀ p:Prop,(p∧True)=p)∧(∀ p:Prop,(True∧p)=p)∧(∀ n:Nat,(n≤n)=True)∧(∀ n:Nat,(0≤n)=True)∧(∀ (a:Nat),(a=a)=True):=
 ⟨fun _ _=>rfl,fun _ _ _=>rfl,fun _=>rfl,fun _ _=>rfl,rfl,fun _=>rfl,fun _ _ _=>rfl,fun _=>rfl,fun _ _ _=>rfl,fun _=>by simp,fun _=>by simp,fun _=>rfl,fun _ _ _=>rfl,fun _ _ _=>rfl,fun _ _ _ _=>rfl,Bool.true_and,Bool.and_true,Bool.not_not,by intros;rfl,by intros;rfl,rfl,rfl,fun _ _=>if_pos trivial,fun _ _=>if_neg id,Nat.zero_add,Nat.add_zero,fun _ _=>List.length_map ..,fun p _=>by simp,fun p _=>by simp,and_true,true_and,fun n=>by simp,fun n=>by simp,fun n=>by simp⟩
theorem gm (n:Nat) (S:St) (a v:Nat):aC ⟨n,S.heap⟩ a v=aC S a v:=rfl
theorem bE3 {l:List Int} {i:Nat} {a:Int} (hi:l[i]?=some a) (k:IntKind):fK 1 (.imm (l.map cM)) (.int k (i:Int))=.ok (.iptr (cM a) 0):=ixI (enc:=cM) hi rfl k
theorem wQ {l:List Rate} {i:Nat} {a:Rate} (hi:l[i]?=some a) (k:IntKind):fK 5 (.imm (l.map Rate.enc)) (.int k (i:Int))=.ok (.iptr a.enc 0):=ixI (enc:=Rate.enc) hi rfl k
theorem sK {l:List Ser} {i:Nat} {a:Ser} (hi:l[i]?=some a) (k:IntKind):fK 4 (.imm (l.map Ser.enc)) (.int k (i:Int))=.ok (.iptr a.enc 0):=ixI (enc:=Ser.enc) hi rfl k
theorem tM {l:List Sess} {i:Nat} {a:Sess} (hi:l[i]?=some a) (k:IntKind):fK 5 (.imm (l.map Sess.enc)) (.int k (i:Int))=.ok (.iptr a.enc 0):=ixI (enc:=Sess.enc) hi rfl k
theorem mA {l:List Bal} {i:Nat} {a:Bal} (hi:l[i]?=some a) (k:IntKind):fK 2 (.imm (l.map Bal.enc)) (.int k (i:Int))=.ok (.iptr a.enc 0):=ixI (enc:=Bal.enc) hi rfl k
theorem iD {l:List Part} {i:Nat} {a:Part} (hi:l[i]?=some a) (k:IntKind):fK 4 (.imm (l.map Part.enc)) (.int k (i:Int))=.ok (.iptr a.enc 0):=ixI (enc:=Part.enc) hi rfl k
theorem bG {α:Type} {l:List α} {i:Nat} {a:α} (h:l[i]?=some a):((i:Int)<(l.length:Int))=True:=by
 have:=(List.getElem?_eq_some_iff.1 h).1
 simp;exact this
theorem gJ {i:Nat} (h:i<1000000000):wr .i64 ((i:Int)+1)=((i+1:Nat):Int):=by rw [eX (by omega) (by omega)];omega
theorem wrm {i:Nat} (h:i+1<1000000000):wr .i64 (((i+1:Nat):Int) - 1)=(i:Int):=by rw [eX (by omega) (by omega)];omega
theorem gt0 (i:Nat):((0:Int)<((i+1:Nat):Int))=True:=by simp
theorem aGs {n i a:Nat} (h:(List.range n)[i]?=some a):i<n∧a=i:=by
 have hl:i<n:=by simpa using (List.getElem?_eq_some_iff.1 h).1
 rw [List.getElem?_range hl] at h
 exact ⟨hl,(Option.some.inj h).symm⟩
theorem oo : (∀ (S : St) (v : V), fW S v = cZ lH (lR (iP S 3) S) v) ∧ (∀ (σ : V → Go.AM.R V) (l : List V), cZ lH σ (.tup l) = (match frzVs lH σ l with
      | .ok cs => .ok (.tup cs)
      | .error e => .error e)) ∧ (∀ (σ : V → Go.AM.R V) (l : List V), cZ lH σ (.agg l) = (match frzVs lH σ l with
      | .ok cs => .ok (.agg cs)
      | .error e => .error e)) ∧ (∀ σ : V → Go.AM.R V, frzVs lH σ [] = .ok []) ∧ (∀ (σ : V → Go.AM.R V) (v : V) (l : List V), frzVs lH σ (v :: l) = (match cZ lH σ v with
      | .ok v => (match frzVs lH σ l with
        | .ok l => .ok (v :: l)
        | .error e => .error e)
      | .error e => .error e)) ∧ (∀ (σ : V → Go.AM.R V) (b : Bool), cZ lH σ (.bool b) = .ok (.bool b)) ∧ (∀ (σ : V → Go.AM.R V) (k : IntKind) (n : Int), cZ lH σ (.int k n) = .ok (.int k n)) ∧ (∀ (σ : V → Go.AM.R V) (s : List UInt8), cZ lH σ (.str s) = .ok (.str s)) ∧
    (∀ (σ : V → Go.AM.R V) (es : List (List V)), cZ lH σ (.imm es) = .ok (.imm es)) ∧ (∀ σ : V → Go.AM.R V, cZ lH σ .nils = .ok (.imm [])) ∧ (∀ (σ : V → Go.AM.R V) (a b c d e : Nat), cZ lH σ (.sl a b c d e) = σ (.sl a b c d e)) :=
  ⟨fun _ _ => rfl, fun σ l => by simp only [cZ] <;> rfl, fun σ l => by simp only [cZ] <;> rfl, fun _ => rfl, fun σ v l => by simp only [frzVs] <;> rfl, fun _ _ => rfl, fun _ _ _ => rfl, fun _ _ => rfl, fun _ _ => rfl, fun _ => rfl, fun _ _ _ _ _ _ => rfl⟩
theorem unK:(∀ (k:IntKind) (n:Int),unV .neg (.int k n)=.ok (.int k (wr k (0 - n))))∧(∀ n:Int,unV .xor (.int .u64 n)=.ok (.int .u64 (aGm n))):=⟨fun _ _=>rfl,fun _=>rfl⟩
theorem nk:(∀ n:Nat,(0=n+1)=False)∧(∀ n:Nat,(n+1=0)=False)∧(∀ n m:Nat,(n+1=m+1)=(n=m))∧(∀ {α:Type} {a b:α},(a≠b)=¬ a=b)∧(¬ False)=True:=⟨fun n=>by simp,fun n=>by simp,fun n m=>by simp,by intros;rfl,by simp⟩
theorem ex:type_of% (A2 aW6 <| A2 aW7 <| A2 aW8 <| A2 aW9 <| A2 aWa <| A2 aWb <| A2 aWc <| A2 aWd <| A2 aWe <| A2 aWf <| A2 bBm <| A2 bBn <| A2 bBp <| A2 bBq <| A2 bBs <| A2 bBt <| A2 bBv <| A2 bBw <| A2 bBy <| A2 bBz <| A2 bC1 <| bC2):=A2 aW6 <| A2 aW7 <| A2 aW8 <| A2 aW9 <| A2 aWa <| A2 aWb <| A2 aWc <| A2 aWd <| A2 aWe <| A2 aWf <| A2 bBm <| A2 bBn <| A2 bBp <| A2 bBq <| A2 bBs <| A2 bBt <| A2 bBv <| A2 bBw <| A2 bBy <| A2 bBz <| A2 bC1 <| bC2
theorem agK (P : Program) : (∀ (t : TypeId) (a b : List V), bW P .eql t (.agg a) (.agg b) = (match pO P 100 t (.agg a) (.agg b) with
      | .ok r => .ok (.bool r)
      | .error e => .error e)) ∧ (∀ (t : TypeId) (a b : List V), bW P .neq t (.agg a) (.agg b) = (match pO P 100 t (.agg a) (.agg b) with
      | .ok r => .ok (.bool (!r))
      | .error e => .error e)) := ⟨fun _ _ _ => rfl, fun _ _ _ => rfl⟩
theorem kk:type_of% (A2 sf <| A2 ex <| A2 (agK prog) <| A2 aXn <| A2 nk <| A2 kit <| A2 (bE1 prog) <| A2 bE2 <| A2 fx ls):=A2 sf <| A2 ex <| A2 (agK prog) <| A2 aXn <| A2 nk <| A2 kit <| A2 (bE1 prog) <| A2 bE2 <| A2 fx ls
theorem bI5 (y:Int) (S:St) (K:KW):C 204 [.int .i64 y] S K=K (.bool (aR2 y)) S:=by
 refine (bHc rfl ?_).eq S K
 delta Tryz.f204;simp only [↓cw,↓reduceIte,Nat.reduceLT,kk,ne_eq,Int.reduceEq,not_false_eq_true,aR2]
 grind
theorem bI6 (y:Int) (S:St) (K:KW):C 246 [.int .i64 y] S K=K (.bool (aR2 y)) S:=by
 refine (bHq rfl ?_).eq S K
 delta Tryz.f246;simp only [↓cw,↓reduceIte,Nat.reduceLT,kk,ne_eq,Int.reduceEq,not_false_eq_true,aR2]
 grind
theorem bE5 (y m:Int) (S:St) (K:KW):C 132 [.int .i64 y,.int .i64 m] S K=K (.int .i64 (nK y m)) S:=by
 refine (bGn rfl ?_).eq S K
 delta Tryz.f132;simp only [↓cw,↓reduceIte,Nat.reduceLT,kk,bI5,nK]
 grind
def rV (y m:Int):Int:=if 1≤m∧m≤12 then nK y m else 0
theorem bE6 (y m:Int) (S:St) (K:KW):C 196 [.int .i64 y,.int .i64 m] S K=K (.int .i64 (rV y m)) S:=by
 refine (bH6 rfl ?_).eq S K
 delta Tryz.f196;simp only [↓cw,↓reduceIte,Nat.reduceLT,kk,bI6,rV,nK]
 by_cases h:1≤m∧m≤12
 ·have h:m=1∨m=2∨m=3∨m=4∨m=5∨m=6∨m=7∨m=8∨m=9∨m=10∨m=11∨m=12:=by omega
  rcases h with rfl | rfl | rfl | rfl | rfl | rfl | rfl | rfl | rfl | rfl | rfl | rfl<;>simp
 ·have e:∀ k:Int,1≤k→k≤12→m≠k:=by omega
  simp [h,e]
theorem aTj (d:Date) (S:St) (K:KW):C 123 [.agg [.int .i64 d.y,.int .i64 d.m,.int .i64 d.d]] S K=K (.bool d.right) S:=by
 refine (bGi rfl ?_).eq S K
 delta Tryz.f123;simp only [↓cw,↓reduceIte,Nat.reduceLT,kk,bE5,Date.right]
 grind
theorem aYs (d:Date) (S:St) (K:KW):C 118 [.agg [.int .i64 d.y,.int .i64 d.m,.int .i64 d.d]] S K=K (.bool d.right) S:=by
 refine (bGf rfl ?_).eq S K
 delta Tryz.f118;simp only [↓cw,↓reduceIte,Nat.reduceLT,kk,bE6,Date.right,rV]
 grind
theorem bI7 (y:Int) (S:St) (K:KW):C 131 [.int .i64 y] S K=K (.int .i64 (aGl y)) S:=by
 refine (bGm rfl ?_).eq S K
 delta Tryz.f131;simp only [↓cw,↓reduceIte,Nat.reduceLT,kk,ne_eq,Int.reduceEq,not_false_eq_true,aGl]
theorem bI8 (d:Date) (S:St) (K:KW):C 200 [.agg [.int .i64 d.y,.int .i64 d.m,.int .i64 d.d]] S K=K (.int .i64 d.days) S:=by
 refine (bHa rfl ?_).eq S K
 delta Tryz.f200;simp only [↓cw,↓reduceIte,Nat.reduceLT,kk,aTj,bI7,Date.days]
 by_cases hr:d.right=true
 ·simp only [↓cw,↓reduceIte,Nat.reduceLT,hr,kk]
  have hm:1≤d.m∧d.m≤12:=by simp only [Date.right,Bool.and_eq_true,decide_eq_true_eq] at hr;omega
  refine aG (List.range (d.m - 1).toNat) (step:=jN d.y) (fin:=id) (fun i n vs S=>vs=[.int .i64 n,.int .i64 ((i:Int)+1)]∧aC S 0 0=.ok (3,[d.enc])) (fun r=>V.int .i64 (wr .i64 (wr .i64 (r+d.d) - 1))=.int .i64 (wr .i64 (wr .i64 (aD (jN d.y) id (List.range (d.m - 1).toNat) (aGl d.y)+d.d) - 1))) ?_ ?_ ⟨rfl,by simp only [↓cw,↓reduceIte,Nat.reduceLT,kk];rfl⟩ rfl
  ·rintro i a n vs S hi ⟨rfl,hg⟩ aF H
   obtain ⟨hil,rfl⟩:=aGs hi
   simp only [jN] at H
   simp only [↓cw,↓reduceIte,Nat.reduceLT,kk,hg,Date.enc,bE5]
   rw [if_pos (by omega)]
   refine H _ _ ⟨?_,hg⟩
   rw [eX (n:=(a:Int)+1+1) (by omega) (by omega)]
   simp
  ·rintro n vs S ⟨rfl,hg⟩ aF H
   simp only [↓cw,↓reduceIte,Nat.reduceLT,kk,hg,Date.enc]
   rw [if_neg (by simp;omega)]
   exact H
 ·have hr:d.right=false:=by simpa using hr
  simp only [↓cw,↓reduceIte,Nat.reduceLT,hr,kk]
theorem bE7 (a b:Date) (S:St) (K:KW):C 124 [.agg [.int .i64 a.y,.int .i64 a.m,.int .i64 a.d],.agg [.int .i64 b.y,.int .i64 b.m,.int .i64 b.d]] S K=K (.bool (a.before b)) S:=by
 refine (bGj rfl ?_).eq S K
 delta Tryz.f124;simp only [↓cw,↓reduceIte,Nat.reduceLT,kk,kE,aTj,bI8,Date.before]
 cases a.right<;>cases b.right<;>simp
theorem bI9 (a b:Int) (S:St) (K:KW):C 203 [.int .i64 a,.int .i64 b] S K=K (eQ (iX a b)) S:=by
 refine (bHb rfl ?_).eq S K
 delta Tryz.f203;simp only [↓cw,↓reduceIte,Nat.reduceLT,kk,oo,iX,eQ]
 grind
theorem aYt (a b:Int) (S:St) (K:KW):C 127 [.int .i64 a,.int .i64 b] S K=K (eQ (iX a b)) S:=by
 refine (bGl rfl ?_).eq S K
 delta Tryz.f127;simp only [↓cw,↓reduceIte,Nat.reduceLT,kk,oo,iX,eQ]
 grind
theorem aYu (a b:Int) (S:St) (K:KW):C 219 [.int .i64 a,.int .i64 b] S K=K (eQ (bZ a b)) S:=by
 refine (bHf rfl ?_).eq S K
 delta Tryz.f219;simp only [↓cw,↓reduceIte,Nat.reduceLT,kk,oo,bZ,eQ]
 grind
theorem aYv (a b:Int) (S:St) (K:KW):C 198 [.int .i64 a,.int .i64 b] S K=K (eQ (bZ a b)) S:=by
 refine (bH8 rfl ?_).eq S K
 delta Tryz.f198;simp only [↓cw,↓reduceIte,Nat.reduceLT,kk,oo,bZ,eQ]
 grind
def aB0 (n:Int):Int:=if n<0 then wr .u64 (wr .u64 (wr .i64 (0 - wr .i64 (n+1)))+1) else wr .u64 n
theorem bIa (n:Int) (S:St) (K:KW):C 222 [.int .i64 n] S K=K (.int .u64 (aB0 n)) S:=by
 refine (bHh rfl ?_).eq S K
 delta Tryz.f222;simp only [↓cw,↓reduceIte,Nat.reduceLT,kk,unK,aB0]
 split<;>rfl
theorem bIb (n bp:Int) (S:St) (K:KW):C 254 [.int .i64 n,.int .i64 bp,.int .i64 10000] S K=K (eQ (cH n bp)) S:=by
 refine (bHr rfl ?_).eq S K
 delta Tryz.f254;simp only [↓cw,↓reduceIte,Nat.reduceLT,kk,unK,oo,eQ,aYq,aAv,ne_eq,Int.reduceEq,not_false_eq_true]
 unfold cH
 simp only [aKu]
 by_cases hn:n<0<;>simp only [↓cw,↓reduceIte,Nat.reduceLT,hn,kk,if_true,if_false,aAv]
 all_goals
  by_cases hp:wr .u64 bp=0
  ·simp only [↓cw,↓reduceIte,Nat.reduceLT,hp,kk,aAv]
   grind
  ·simp only [↓cw,↓reduceIte,Nat.reduceLT,hp,kk,aAv,ne_eq,not_false_eq_true]
   grind
theorem aYw (n bp:Int) (S:St) (K:KW):C 217 [.int .i64 n,.int .i64 bp] S K=K (eQ (cH n bp)) S:=by
 refine (bHd rfl ?_).eq S K
 delta Tryz.f217;simp only [↓cw,↓reduceIte,Nat.reduceLT,kk,bIb,eQ,oo]
def aR7 (n bp:Int):Int×Int:=if bp<0∨100000<bp then (0,1) else
 if 0<bp∧wr .u64 ((9223372036854775807:Int).tdiv (wr .u64 bp))<wr .u64 ((aB0 n).tdiv 10000) then (0,7) else
  let t:=wr .u64 (wr .u64 (wr .u64 ((aB0 n).tdiv 10000)*wr .u64 bp)+wr .u64 ((wr .u64 (wr .u64 ((aB0 n).tmod 10000*wr .u64 bp)+5000)).tdiv 10000))
  if 9223372036854775807<t then (0,7) else if n<0 then (wr .i64 (0 - wr .i64 t),0) else (wr .i64 t,0)
theorem bE8 (n bp:Int) (S:St) (K:KW):C 160 [.int .i64 n,.int .i64 bp] S K=K (eQ (aR7 n bp)) S:=by
 refine (bGt rfl ?_).eq S K
 delta Tryz.f160;simp only [↓cw,↓reduceIte,Nat.reduceLT,kk,bIa,unK,oo,eQ,ne_eq,Int.reduceEq,not_false_eq_true,aR7]
 by_cases hb:bp<0∨100000<bp
 ·grind
 ·have hw:wr .u64 bp=bp:=by unfold wr lo hi;simp only;rw [if_pos (by omega)]
  by_cases hp:0<bp
  ·have hp2:bp≠0:=by omega
   simp only [↓cw,↓reduceIte,Nat.reduceLT,hp,hp2,hw,kk,ne_eq,not_false_eq_true]
   grind
  ·simp only [↓cw,↓reduceIte,Nat.reduceLT,hp,kk]
   grind
theorem aYx:(fun (a b c:Int)=>oF Tryz.f255 [.int .u64 a,.int .u64 b,.int .u64 c])=fun a b c=>
  bif decide (0≤a)&&decide (0≤b)&&decide (0≤c)&&decide (c≤1) then .ok (.tup [.int .u64 ((a+b+c) % 18446744073709551616),.int .u64 ((a+b+c) / 18446744073709551616)]) else .error "Add64":=by kernel_rfl
theorem aKx {a b c:Int} (ha:0≤a) (hb:0≤b) (hc:0≤c) (hc1:c≤1):oF Tryz.f255 [.int .u64 a,.int .u64 b,.int .u64 c]=.ok (.tup [.int .u64 ((a+b+c) % 18446744073709551616),.int .u64 ((a+b+c) / 18446744073709551616)]):=by
 refine (congrFun (congrFun (congrFun aYx a) b) c).trans ?_
 simp only [ha,hb,hc,hc1,decide_true,Bool.and_self,cond_true]
theorem aMr (P:Program) (t:TypeId) (a:Int):bW P .shr t (.int .u64 a) (.int .u64 63)=.ok (.int .u64 (a.fdiv (2 ^ 63))):=rfl
theorem bIc (l:List Int) (hb:l.length<1000000) (S:St) (K:KW):C 218 [.imm (l.map cM)] S K=K (.tup [.int .i64 (bO l).1,.bool (bO l).2]) S:=by
 refine (bHe rfl ?_).eq S K
 delta Tryz.f218;simp only [↓cw,↓reduceIte,Nat.reduceLT,kk]
 refine aG l (step:=rQ) (fin:=qR) (fun i st vs S=>vs=[.int .u64 st.1,.int .u64 st.2,.int .i64 (i:Int)]∧0≤st.1∧st.1<18446744073709551616∧0≤st.2∧st.2<18446744073709551616) (fun r=>V.tup [.int .i64 r.1,.bool r.2]=.tup [.int .i64 (bO l).1,.bool (bO l).2])
  ?_ ?_ (s:=(0,0)) ⟨rfl,by decide,by decide,by decide,by decide⟩ rfl
 ·rintro i n ⟨h,lo⟩ vs S hi ⟨rfl,r1,r2,r3,r4⟩ aF H
  have hr:=aMo n
  have hil:=(List.getElem?_eq_some_iff.1 hi).1
  simp only at r1 r2 r3 r4
  have hc1:(lo+wr .u64 n+0) / 18446744073709551616≤1:=by omega
  have hc0:0≤(lo+wr .u64 n+0) / 18446744073709551616:=by omega
  have hI:=H [.int .u64 ((h+(if n<0 then 18446744073709551615 else 0)+(lo+wr .u64 n+0) / 18446744073709551616) % 18446744073709551616),.int .u64 ((lo+wr .u64 n+0) % 18446744073709551616),.int .i64 ((i+1:Nat):Int)] S ⟨rfl,by simp only;omega,by simp only;omega,by simp only;omega,by simp only;omega⟩
  simp only [↓cw,↓reduceIte,Nat.reduceLT,kk,bG hi,bE3 hi,cM,unK,bDz]
  by_cases hn:n<0
  ·simp only [↓cw,↓reduceIte,Nat.reduceLT,hn,kk,if_true,aKx (c:=0) r3 hr.1 (by decide) (by decide),aKx r1 (show (0:Int)≤18446744073709551615 by decide) hc0 hc1,gJ (show i<1000000000 by omega)] at hI ⊢
   exact hI
  ·simp only [↓cw,↓reduceIte,Nat.reduceLT,hn,kk,if_false,aKx (c:=0) r3 hr.1 (by decide) (by decide),aKx r1 (show (0:Int)≤0 by decide) hc0 hc1,gJ (show i<1000000000 by omega)] at hI ⊢
   exact hI
 ·rintro ⟨h,lo⟩ vs S ⟨rfl,r1,r2,r3,r4⟩ aF H
  simp only [↓cw,↓reduceIte,Nat.reduceLT,kk,Int.lt_irrefl,aMr,qR,oo] at H ⊢
  by_cases c:lo.fdiv (2 ^ 63)=0<;>simp only [↓cw,↓reduceIte,Nat.reduceLT,c,kk,if_true,if_false] at H ⊢<;>exact H
theorem bId (r:Int) (S:St) (K:KW):C 225 [.int .i32 r] S K=K (.bool (lF r)) S:=by
 refine (bHk rfl ?_).eq S K
 delta Tryz.f225;simp only [↓cw,↓reduceIte,Nat.reduceLT,kk,lF]
 grind
theorem bIe (r:Int) (S:St) (K:KW):C 245 [.int .i32 r] S K=K (.bool (lF r)) S:=by
 refine (bHp rfl ?_).eq S K
 delta Tryz.f245;simp only [↓cw,↓reduceIte,Nat.reduceLT,kk,lF]
 grind
theorem aTk (s:List UInt8) (a pos:Nat) (S:St) (hg:S.heap.get a=some (.iter s pos)) (hl:pos<s.length):
  uS (.ptr a 0 0 0) S=.ok (.tup [.bool true,.int .i64 pos,.int .i32 (Utf8.decode ⟨⟨s⟩⟩ pos).1],⟨S.next,S.heap.put a (.iter s (pos+(Utf8.decode ⟨⟨s⟩⟩ pos).2))⟩):=by
 have hb:Nat.blt pos s.length=true:=Nat.ble_eq_true_of_le hl
 have hs:s[pos]?=some s[pos]:=List.getElem?_eq_getElem hl
 simp only [uS,hg,hb,hs]
 split
 ·rename_i h
  rw [Go.AM.decode_ascii hs (by simpa using h)]
 ·rfl
theorem aGt (s:List UInt8) (a pos:Nat) (S:St) (hg:S.heap.get a=some (.iter s pos)) (hl:s.length≤pos):uS (.ptr a 0 0 0) S=.ok (.tup [.bool false],S):=by
 have hb:Nat.blt pos s.length=false:=by
  cases h:Nat.blt pos s.length with
  | false=>rfl
  | true=>exact absurd (Nat.le_of_ble_eq_true h) (by omega)
 simp only [uS,hg,hb]
def IterAt (s:List UInt8) (i:Nat) (S:St):Prop:=∃ pos f,S.heap.get 0=some (.iter s pos)∧(kP s s.length 0).drop i=kP s f pos∧s.length≤f+pos
theorem IterAt.next {s:List UInt8} {i:Nat} {S:St} (h:IterAt s i S) {q r:Nat} (hi:(kP s s.length 0)[i]?=some (q,r)):∃ S',uS (.ptr 0 0 0 0) S=.ok (.tup [.bool true,.int .i64 q,.int .i32 r],S')∧IterAt s (i+1) S':=by
 obtain ⟨pos,f,hg,hd,hf⟩:=h
 have hd0:=congrArg (·[0]?) hd
 simp only [List.getElem?_drop,Nat.add_zero,hi] at hd0
 cases f with
 | zero=>simp [kP] at hd0
 | succ f=>
  have hl:pos<s.length:=by
   by_cases hl:pos<s.length
   ·exact hl
   ·simp [kP,hl] at hd0
  have hd2:kP s (f+1) pos=(pos,(Utf8.decode ⟨⟨s⟩⟩ pos).1)::kP s f (pos+(Utf8.decode ⟨⟨s⟩⟩ pos).2):=by simp only [kP,hl,if_true]
  rw [hd2] at hd0 hd
  simp only [List.getElem?_cons_zero,Option.some.injEq,Prod.mk.injEq] at hd0
  obtain ⟨rfl,rfl⟩:=hd0
  have hw:=aGn ⟨⟨s⟩⟩ q
  exact ⟨_,aTk s 0 q S hg hl,_,f,Tr.get_put_sameB _ _ _ trivial,by rw [←List.drop_drop,hd];rfl,by omega⟩
theorem IterAt.last {s:List UInt8} {S:St} (h:IterAt s (kP s s.length 0).length S):uS (.ptr 0 0 0 0) S=.ok (.tup [.bool false],S):=by
 obtain ⟨pos,f,hg,hd,hf⟩:=h
 rw [List.drop_length] at hd
 cases f with
 | zero=>exact aGt s 0 pos S hg (by omega)
 | succ f=>
  by_cases hl:pos<s.length
  ·simp [kP,hl] at hd
  ·exact aGt s 0 pos S hg (by omega)
theorem vI (s:List UInt8):aEk (.str s) none ⟨0,.nil⟩=.ok (.ptr 0 0 0 0,⟨1,Tr.nil.put 0 (.iter s 0)⟩)∧IterAt s 0 ⟨1,Tr.nil.put 0 (.iter s 0)⟩:=⟨rfl,0,s.length,Tr.get_put_sameB _ _ _ trivial,rfl,by omega⟩
theorem aYy (s:List UInt8) (S:St) (K:KW):C 165 [.str s] S K=K (.bool (gP s)) S:=by
 refine (bGy rfl ?_).eq S K
 delta Tryz.f165;simp only [↓cw,↓reduceIte,Nat.reduceLT,kk,(vI s).1,gP]
 by_cases h1:s.length<1
 ·rw [if_pos (by omega)];simp [h1]
 by_cases h2:24<s.length
 ·rw [if_neg (by omega),if_pos (by omega)];simp [h1,h2]
 rw [if_neg (by omega),if_neg (by omega)]
 simp only [↓cw,↓reduceIte,Nat.reduceLT,h1,h2,kk]
 refine aG (kP s s.length 0) (step:=lX) (fin:=fun _=>true) (fun i _ vs S=>vs=[.bool false]∧IterAt s i S) (fun r=>V.bool r=.bool (aD lX (fun _=>true) (kP s s.length 0) ())) ?_ ?_ (s:=()) ⟨rfl,(vI s).2⟩ rfl
 ·rintro i ⟨q,r⟩ _ vs S hi ⟨rfl,hI⟩ aF H
  obtain ⟨S',e,hI'⟩:=hI.next hi
  simp only [↓cw,↓reduceIte,Nat.reduceLT,kk,e,bId]
  simp only [lX] at H
  have H1:=fun h:lF (r:Int)=true=>(by simpa only [h,if_true] using H:∀ vs' S',vs'=[.bool false]∧IterAt s (i+1) S'→aF vs' S') [.bool false] S' ⟨rfl,hI'⟩
  by_cases c1:lF (r:Int)=true
  ·simp only [c1,if_true];exact H1 c1
  ·simp only [c1,if_false] at H ⊢
   by_cases c2:q=0
   ·subst c2;simp at H ⊢;exact H
   ·have c2':¬ (q:Int)=0:=by omega
    simp only [c2,c2',if_false] at H ⊢
    by_cases c3:(48≤r∧r≤57)∨r=45∨r=95∨r=46
    ·simp only [c3,if_true] at H
     have h0:=H [.bool false] S' ⟨rfl,hI'⟩
     grind
    ·simp only [c3,if_false] at H
     grind
 ·rintro _ vs S ⟨rfl,hI⟩ aF H
  simp only [↓cw,↓reduceIte,Nat.reduceLT,kk,hI.last]
  exact H
end Go.Proofs.YtoaibmbldmckaaaGreat
end
