import Derived.KernelRfl
import Derived.Test.YtoaibmbldmckaaaGreatProg
import Derived.Test.YtoaibmbldmckaaaGreatX1
set_option linter.unusedSimpArgs false
set_option linter.unusedVariables false
set_option linter.unusedSectionVars false
set_option maxRecDepth 100000
section
namespace Go.AM
section
def gN (k:Option Nat) (cs:List V) (j:Nat):R V:=match k with
 | none=>(match cs[j]? with
  | some v=>.ok v
  | none=>.error "part")
 | some n=>if j+n≤cs.length then .ok (.agg ((cs.drop j).take n)) else .error "part"
def bB (k:Option Nat) (p:V) (S:St):R V:=match p with
 | .ptr a ver i j=>(match aI S a ver with
  | .error e=>.error e
  | .ok (_,elems)=>match elems[i]? with
   | some cs=>gN k cs j
   | none=>.error "load")
 | .iptr cs j=>gN k cs j
 | _=>.error "load: a pointer expected"
theorem aPe {P:Program} {t:TypeId} {k:Option Nat} (h:tk P t=some k) (cs:List V) (j:Nat):pV P t cs j=gN k cs j:=by
 unfold tk at h
 unfold pV
 split at h
 ·cases h
 ·rename_i d hd
  simp only [hd]
  rw [cond_eq_ite] at h ⊢
  split at h
  ·rename_i ha
   cases h
   rw [if_pos ha,cond_eq_ite]
   simp only [gN,Nat.ble_eq]
  ·rename_i ha
   cases h
   rw [if_neg ha]
   rfl
theorem bL {P:Program} {t:TypeId} {k:Option Nat} (h:tk P t=some k) (p:V) (S:St):aB P t p S=bB k p S:=by
 unfold aB bB
 cases p<;>simp only [aPe h]<;>rfl
def stT (P:Program) (t:TypeId):Option Nat:=match P.underlying t with
 | some _=>some (sz P t)
 | none=>none
def aV (n:Nat) (p x:V) (S:St):R St:=match p with
 | .ptr a ver i j=>(match aI S a ver with
  | .error e=>.error e
  | .ok (es,elems)=>match elems[i]? with
   | some cs=>if x.cells.length=n∧aN x.cells=true∧j+x.cells.length≤cs.length then .ok ⟨S.next,S.heap.put a (.row ver es (elems.set i (splice cs j x.cells)))⟩ else .error "store: the size"
   | none=>.error "store")
 | _=>.error "store: a pointer expected"
theorem bJ {P:Program} {t:TypeId} {n:Nat} (h:stT P t=some n) (p x:V) (S:St):aH P t p x S=aV n p x S:=by
 unfold stT at h
 split at h
 ·rename_i d hd
  cases h
  unfold aH aV
  rw [hd]
  cases p<;>try rfl
  rename_i a ver i j
  simp only
  cases aI S a ver with
  | error e=>rfl
  | ok r=>
   simp only
   cases r.2[i]? with
   | none=>rfl
   | some cs=>simp only [cond_eq_ite,Bool.and_eq_true,Nat.beq_eq,Nat.ble_eq,and_assoc]
 ·cases h
def advW (off:Nat) (p:V):R V:=match p with
 | .ptr a ver i j=>.ok (.ptr a ver i (j+off))
 | .iptr cs j=>.ok (.iptr cs (j+off))
 | _=>.error "fieldAddr"
theorem aF {P:Program} {s:TypeId} {f off:Nat} (h:fo P s f=some off) (p:V):aA P s p f=advW off p:=by
 unfold fo at h
 unfold aA
 split at h
 ·cases h
 ·rename_i fd hfd
  rw [cond_eq_ite] at h
  split at h
  ·cases h
  ·rename_i hz
   cases h
   have hz:Nat.beq (sz P fd.type) 0=false:=by
    cases hb:Nat.beq (sz P fd.type) 0 with
    | false=>rfl
    | true=>exact absurd hb hz
   simp only [hfd,hz,cond_false]
   cases p<;>rfl
def lenW (x:V):R V:=match x with
 | .nils=>.ok (.int .i64 0)
 | .sl _ _ _ _ len=>.ok (.int .i64 len)
 | .imm es=>.ok (.int .i64 es.length)
 | _=>.error "len"
theorem eI {P:Program} {t:TypeId} (h:aYb P t=true) (x:V) (S:St):bH P t x S=lenW x:=by
 unfold aYb at h
 unfold bH
 split at h
 ·rename_i e he;rw [he];cases x<;>rfl
 ·cases h
theorem aNd {P:Program} {t:TypeId} (h:aYc P t=true) (s:List UInt8) (S:St):bH P t (.str s) S=.ok (.int .i64 s.length):=by
 unfold aYc at h
 unfold bH
 split at h
 ·rename_i he;rw [he]
 ·cases h
def cV (n:Nat) (x ix:V):R V:=match x with
 | .sl a ver es off len=>(match mA ix len with
  | some k=>if es=n then .ok (.ptr a ver (off+k) 0) else .error "indexAddr: the size"
  | none=>.error "index out of range")
 | .imm es=>(match mA ix es.length with
  | some k=>match es[k]? with
   | some cs=>if cs.length=n then .ok (.iptr cs 0) else .error "indexAddr: the size"
   | none=>.error "index"
  | none=>.error "index out of range")
 | _=>.error "indexAddr"
theorem bP {P:Program} {t:TypeId} {n:Nat} (h:esT P t=some n) (x ix:V):aC P t x ix=cV n x ix:=by
 unfold esT at h
 unfold aC cV
 split at h
 ·rename_i e he
  rw [cond_eq_ite] at h
  split at h
  ·rename_i hs
   cases h
   rw [he]
   simp only [hs,Bool.not_true,cond_false]
   cases x<;>try rfl
   ·rename_i a ver es off len
    simp only
    cases mA ix len<;>simp only [cond_eq_ite,Nat.beq_eq]
   ·rename_i es
    simp only
    cases mA ix es.length with
    | none=>rfl
    | some k=>simp only [cond_eq_ite,Nat.beq_eq];rfl
  ·cases h
 ·cases h
def bdS (P:Program) (t:TypeId):Option (List V×List (Nat×Nat)):=match eQ P t,P.underlying t with
 | some z,some (.struct fs)=>(match fs.toList.all fun f=>(P.underlying f.type).isSome with
  | true=>some (z.cells,fs.toList.map fun f=>(f.offset,sz P f.type))
  | false=>none)
 | _,_=>none
theorem yV {p q:Nat→Option (Nat×Nat)} (h:∀ i,p i=q i):∀ (l:List (Nat×V)) (cs:List V),qI p cs l=qI q cs l
 | [],cs=>rfl
 | (i,v)::l,cs=>by simp only [qI,h,yV h l]
def bM (z:List V) (pl:List (Nat×Nat)) (parts:List (Nat×V)):R V:=match qI (fun i=>pl[i]?) z parts with
 | .ok cs=>.ok (.agg cs)
 | .error e=>.error e
theorem cB {P:Program} {t:TypeId} {z:List V} {pl:List (Nat×Nat)} (h:bdS P t=some (z,pl)) (parts:List (Nat×V)):aQ P t parts=bM z pl parts:=by
 unfold bdS at h
 unfold aQ bM
 split at h
 ·rename_i z' fs hz hu
  split at h
  ·rename_i ha
   cases h
   simp only [hz,hu,ha,Bool.not_true,cond_false]
   rw [yV (q:=fun i=>(fs.toList.map fun f=>(f.offset,sz P f.type))[i]?) (fun i=>by simp)]
   rfl
  ·cases h
 ·cases h
def bsT (P:Program) (t:TypeId):Option (Nat×List V):=match jL P t with
 | some e=>(match eQ P e with
  | some z=>(match Nat.beq z.cells.length (sz P e) with
   | true=>some (sz P e,z.cells)
   | false=>none)
  | none=>none)
 | none=>none
def aR (n:Nat) (z:List V) (len:Nat) (parts:List (Nat×V)) (fr:Option Nat) (S:St):R (V×St):=if len*n≤16777216 then
  (match sL n (List.replicate len z) parts with
  | .error e=>.error e
  | .ok elems=>match aJ fr S (.row 0 n elems) with
   | .error e=>.error e
   | .ok (a,S')=>.ok (.sl a 0 n 0 len,S')) else .error "buildSlice: the size"
theorem bN {P:Program} {t:TypeId} {n:Nat} {z:List V} (h:bsT P t=some (n,z)) (len:Nat) (parts:List (Nat×V)) (fr:Option Nat) (S:St):aK P t len parts fr S=aR n z len parts fr S:=by
 unfold bsT at h
 unfold aK aR
 split at h
 ·rename_i e he
  split at h
  ·rename_i z' hz
   split at h
   ·rename_i hb
    cases h
    simp only [he,hz,hb,Bool.true_and,cond_eq_ite,Nat.ble_eq]
    rfl
   ·cases h
  ·cases h
 ·cases h
def dL (n b:Nat) (s x:V) (fr:Option Nat) (S:St):R (V×St):=
 match bX S x with
 | .error e=>.error e
 | .ok xs=>if iW n xs=true∧xs.all aN=true then
  (match s with
  | .nils=>(match xs with
   | []=>.ok (.nils,S)
   | _=>if xs.length*b≤35184372088832∧xs.length<fK then (match aJ fr S (.row 0 n xs) with
    | .error e=>.error e
    | .ok (a,S')=>.ok (.sl a 0 n 0 xs.length,S')) else .error "append: room")
  | .sl a ver _ off len=>(match aI S a ver with
   | .error e=>.error e
   | .ok (es,elems)=>
    if off+len≤elems.length∧es=n∧(len+xs.length)*b≤35184372088832∧len+xs.length<fK then
     .ok (.sl a (ver+1) es 0 (len+xs.length),⟨S.next,S.heap.put a (.row (ver+1) es ((elems.drop off).take len++xs))⟩)
    else .error "append: room")
  | _=>.error "append") else .error "append: sizes"
theorem dG {P:Program} {t:TypeId} {n b:Nat} (h:apT P t=some (n,b)) (s x:V) (fr:Option Nat) (S:St):aW P t s x fr S=dL n b s x fr S:=by
 unfold apT at h
 split at h
 ·cases h
 ·rename_i e he
  rw [cond_eq_ite] at h
  split at h
  ·rename_i hz
   cases h
   unfold aW dL
   simp only [he]
   cases bX S x with
   | error w=>rfl
   | ok xs=>
    simp only
    by_cases h12:iW (sz P e) xs=true∧xs.all aN=true
    ·have e1:(!(iW (sz P e) xs&&xs.all aN&&kM P e))=false:=by rw [h12.1,h12.2,hz];rfl
     rw [e1,if_pos h12]
     simp only [cond_false]
     cases s with
     | nils=>
      cases xs with
      | nil=>rfl
      | cons c xs=>simp only [room,cond_eq_ite,Bool.and_eq_true,Nat.ble_eq,Nat.blt_eq];rfl
     | sl a ver es off len=>
      simp only
      cases aI S a ver with
      | error w=>rfl
      | ok r=>simp only [room,cond_eq_ite,Bool.and_eq_true,Nat.ble_eq,Nat.blt_eq,Nat.beq_eq,and_assoc]
     | _=>rfl
    ·have e1:(!(iW (sz P e) xs&&xs.all aN&&kM P e))=true:=by
      cases h1:iW (sz P e) xs with
      | false=>rfl
      | true=>
       cases h2:xs.all aN with
       | false=>rfl
       | true=>exact absurd ⟨h1,h2⟩ h12
     rw [e1,if_neg h12]
     rfl
  ·cases h
def cvT (P:Program) (s d:TypeId):Option IntKind:=match P.underlying s,P.underlying d with
 | some _,some (.int k)=>some k
 | _,_=>none
theorem kR {P:Program} {s d:TypeId} {k:IntKind} (h:cvT P s d=some k) (j:IntKind) (n:Int) (fr:Option Nat) (S:St):bG P s d (.int j n) fr S=.ok (.int k (wr k n),S):=by
 unfold cvT at h
 split at h
 ·rename_i u k' hu hd
  cases h
  simp only [bG,hu,hd]
 ·cases h
theorem fD {P : Program} {t : TypeId} {n : Nat} (h : esT P t = some n) (a ver off len : Nat) (lo hi : Option V) : cL P t (.sl a ver n off len) lo hi = (match cK len lo hi with
      | .ok (l, h) => .ok (.sl a ver n (off + l) (h - l))
      | .error e => .error e) := by
  unfold esT at h
  unfold cL
  split at h
  · rename_i e he
    rw [cond_eq_ite] at h
    split at h
    · rename_i hs
      cases h
      rw [he]
      simp only [hs, Bool.not_true, cond_false, Nat.beq_refl, cond_true]
      rfl
    · cases h
  · cases h
theorem aBi {P : Program} {t : TypeId} {n : Nat} (h : esT P t = some n) (es : List (List V)) (hl : iW n es = true) (lo hi : Option V) : cL P t (.imm es) lo hi = (match cK es.length lo hi with
      | .ok (l, h) => .ok (.imm ((es.take h).drop l))
      | .error e => .error e) := by
  unfold esT at h
  unfold cL
  split at h
  · rename_i e he
    rw [cond_eq_ite] at h
    split at h
    · rename_i hs
      cases h
      rw [he]
      simp only [hs, Bool.not_true, cond_false, hl, cond_true]
      rfl
    · cases h
  · cases h
section
variable (P:Program) (t:TypeId) (k:IntKind) (a b:Int)
theorem dC (k:IntKind):kE k k=true:=by cases k<;>rfl
theorem aS7:aG P .add t (.int k a) (.int k b)=.ok (.int k (wr k (a+b))):=by simp only [aG,dC,cond_true,jK]
theorem aS8:aG P .sub t (.int k a) (.int k b)=.ok (.int k (wr k (a - b))):=by simp only [aG,dC,cond_true,jK]
theorem aS9:aG P .mul t (.int k a) (.int k b)=.ok (.int k (wr k (a*b))):=by simp only [aG,dC,cond_true,jK]
theorem aSa (h:b≠0):aG P .quo t (.int k a) (.int k b)=.ok (.int k (wr k (a.tdiv b))):=by simp only [aG,dC,cond_true,jK,h,decide_false,cond_false]
theorem aSb (h:b≠0):aG P .rem t (.int k a) (.int k b)=.ok (.int k (a.tmod b)):=by simp only [aG,dC,cond_true,jK,h,decide_false,cond_false]
theorem aSc:aG P .lss t (.int k a) (.int k b)=.ok (.bool (decide (a<b))):=by simp only [aG,dC,cond_true,jK]
theorem aSd:aG P .leq t (.int k a) (.int k b)=.ok (.bool (decide (a≤b))):=by simp only [aG,dC,cond_true,jK]
theorem aSe:aG P .gtr t (.int k a) (.int k b)=.ok (.bool (decide (b<a))):=by simp only [aG,dC,cond_true,jK]
theorem aSf:aG P .geq t (.int k a) (.int k b)=.ok (.bool (decide (b≤a))):=by simp only [aG,dC,cond_true,jK]
theorem aSg:aG P .eql t (.int k a) (.int k b)=.ok (.bool (decide (a=b))):=by simp only [aG,dC,cond_true,jK]
theorem aSh:aG P .neq t (.int k a) (.int k b)=.ok (.bool (!decide (a=b))):=by simp only [aG,dC,cond_true,jK]
theorem aSi (x y:List UInt8):aG P .eql t (.str x) (.str y)=.ok (.bool (x == y)):=by simp only [aG,yF,dJ]
theorem aSj (x y:List UInt8):aG P .neq t (.str x) (.str y)=.ok (.bool (!(x == y))):=by simp only [aG,yF,dJ]
theorem aSk (x y:List UInt8):aG P .lss t (.str x) (.str y)=.ok (.bool (eZ x y)):=by simp only [aG,yF]
theorem aSl (x y:List UInt8):aG P .geq t (.str x) (.str y)=.ok (.bool (!eZ x y)):=by simp only [aG,yF]
end
theorem qW {n:Int} (h1:-9223372036854775808≤n) (h2:n≤9223372036854775807):wr .i64 n=n:=by
 unfold wr lo hi
 simp only
 rw [if_pos ⟨h1,h2⟩]
theorem bCg {α:Type} (a:α) (K:α→An):dR (.ok a) K=K a:=rfl
theorem bCh {α:Type} (a:α) (K:α→An):dO (some a) K=K a:=rfl
theorem tY (k:Nat) (vs:List V) (S:St) (F:List V→St→(List V→St→An)→An):sX (k+1) vs S F=F vs S fun vs S=>sX k vs S F:=rfl
def WF (S:St):Prop:=∀ a b,S.heap.get a=some b→a<S.next
structure Ext (S S':St):Prop where
 old:∀ a b,S.heap.get a=some b→S'.heap.get a=some b
 next:S.next≤S'.next
 wf:WF S→WF S'
theorem Ext.refl (S:St):Ext S S:=⟨fun _ _ h=>h,Nat.le_refl _,fun h=>h⟩
theorem Ext.trans {A B C:St} (h:Ext A B) (k:Ext B C):Ext A C:=⟨fun a b q=>k.old a b (h.old a b q),Nat.le_trans h.next k.next,fun w=>k.wf (h.wf w)⟩
theorem Ext.row {S S':St} (h:Ext S S') {a ver:Nat} {r:Nat×List (List V)} (hr:aI S a ver=.ok r):aI S' a ver=.ok r:=by
 unfold aI at hr ⊢
 split at hr
 ·rename_i v es el hb
  rw [h.old a _ hb]
  exact hr
 ·cases hr
theorem Ext.elems {S S':St} (h:Ext S S') {v:V} {es:List (List V)} (he:bX S v=.ok es):bX S' v=.ok es:=by
 unfold bX at he ⊢
 split at he<;>try exact he
 rename_i a ver x off len
 split at he
 ·cases he
 ·rename_i r hr
  rw [h.row hr]
  exact he
theorem Ext.new {S:St} (w:WF S) (b:Blk):Ext S ⟨S.next+1,S.heap.put S.next b⟩:=by
 refine ⟨fun a c h=>?_,Nat.le_succ _,fun _ a c h=>?_⟩
 ·have:=w a c h
  show (S.heap.put S.next b).get a=some c
  rw [Tr.get_put_neB _ _ _ _ trivial (by omega)];exact h
 ·have h':(S.heap.put S.next b).get a=some c:=h
  rw [Tr.get_putB _ _ _ _ trivial] at h'
  split at h'
  ·show a<S.next+1;omega
  ·have:=w a c h';show a<S.next+1;omega
theorem Ext.set {S S':St} (h:Ext S S') {a:Nat} (ha:S.next≤a) (hb:a<S'.next) (w:WF S) (b:Blk):Ext S ⟨S'.next,S'.heap.put a b⟩:=by
 refine ⟨fun x c hx=>?_,h.next,fun _ x c hx=>?_⟩
 ·have:=w x c hx
  show (S'.heap.put a b).get x=some c
  rw [Tr.get_put_neB _ _ _ _ trivial (by omega)];exact h.old x c hx
 ·have hx':(S'.heap.put a b).get x=some c:=hx
  rw [Tr.get_putB _ _ _ _ trivial] at hx'
  split at hx'
  ·show x<S'.next;omega
  ·exact h.wf w x c hx'
theorem aS (n:Nat) (h:Tr Blk) (a ver es:Nat) (el:List (List V)):aI ⟨n,h.put a (.row ver es el)⟩ a ver=.ok (es,el):=by
 simp only [aI,Tr.get_put_sameB _ _ _ trivial,Nat.beq_refl,cond_true]
theorem dA (n m:Nat) (h:Tr Blk) (a c ver:Nat) (b:Blk) (hc:c≠a):aI ⟨n,h.put a b⟩ c ver=aI ⟨m,h⟩ c ver:=by
 simp only [aI,Tr.get_put_neB _ _ _ _ trivial hc]
structure Sl (S:St) (n:Nat) (v:V) (es:List (List V)):Prop where
 is:(v=.nils∧es=[])∨v=.imm es∨∃ a ver off elems,v=.sl a ver n off es.length∧aI S a ver=.ok (n,elems)∧off+es.length≤elems.length∧(elems.drop off).take es.length=es
 len:∀ cs,cs∈es→cs.length=n∧aN cs=true
theorem Sl.ext {S S':St} {n:Nat} {v:V} {es:List (List V)} (h:Sl S n v es) (x:Ext S S'):Sl S' n v es:=by
 refine ⟨?_,h.len⟩
 rcases h.is with h1 | h1 | ⟨a,ver,off,elems,h1,h2,h3,h4⟩
 ·exact .inl h1
 ·exact .inr (.inl h1)
 ·exact .inr (.inr ⟨a,ver,off,elems,h1,x.row h2,h3,h4⟩)
theorem Sl.elems {S:St} {n:Nat} {v:V} {es:List (List V)} (h:Sl S n v es):bX S v=.ok es:=by
 rcases h.is with ⟨rfl,rfl⟩ | rfl | ⟨a,ver,off,elems,rfl,h2,h3,h4⟩
 ·rfl
 ·rfl
 ·simp only [bX,h2,Nat.ble_eq_true_of_le h3,cond_true,h4]
theorem Sl.lenW {S:St} {n:Nat} {v:V} {es:List (List V)} (h:Sl S n v es):Go.AM.lenW v=.ok (.int .i64 es.length):=by
 rcases h.is with ⟨rfl,rfl⟩ | rfl | ⟨a,ver,off,elems,rfl,h2,h3,h4⟩<;>rfl
def At (S:St) (p:V) (cs:List V):Prop:=(∃ a ver i es elems,p=.ptr a ver i 0∧aI S a ver=.ok (es,elems)∧elems[i]?=some cs)∨p=.iptr cs 0
theorem At.ext {S S':St} {p:V} {cs:List V} (h:At S p cs) (x:Ext S S'):At S' p cs:=by
 rcases h with ⟨a,ver,i,es,elems,h1,h2,h3⟩ | h
 ·exact .inl ⟨a,ver,i,es,elems,h1,x.row h2,h3⟩
 ·exact .inr h
def adv (j:Nat) (p:V):V:=match p with
 | .ptr a ver i x=>.ptr a ver i (x+j)
 | .iptr cs x=>.iptr cs (x+j)
 | p=>p
theorem At.advW {S:St} {p:V} {cs:List V} (h:At S p cs) (j:Nat):Go.AM.advW j p=.ok (adv j p):=by
 rcases h with ⟨a,ver,i,es,elems,rfl,h2,h3⟩ | rfl<;>rfl
theorem At.load {S:St} {p:V} {cs:List V} (h:At S p cs) (k:Option Nat) (j:Nat):bB k (adv j p) S=gN k cs j:=by
 rcases h with ⟨a,ver,i,es,elems,rfl,h2,h3⟩ | rfl
 ·simp only [adv,bB,h2,h3,Nat.zero_add]
 ·simp only [adv,bB,Nat.zero_add]
theorem At.load0 {S:St} {p:V} {cs:List V} (h:At S p cs) (k:Option Nat):bB k p S=gN k cs 0:=by
 rcases h with ⟨a,ver,i,es,elems,rfl,h2,h3⟩ | rfl
 ·simp only [bB,h2,h3]
 ·simp only [bB]
theorem aNf (cs:List V) (n:Nat) (h:cs.length=n):gN (some n) cs 0=.ok (.agg cs):=by
 subst h
 simp [gN]
theorem kS {k:IntKind} {i:Nat} {n:Nat} (h:i<n):mA (.int k (i:Int)) n=some i:=by
 have h1:(0:Int)≤(i:Int):=by omega
 have h2:(i:Int)<(n:Int):=by omega
 simp only [mA,h1,h2,decide_true,Bool.and_self,cond_true,Int.toNat_natCast]
theorem Sl.idx {S:St} {n:Nat} {v:V} {es:List (List V)} (h:Sl S n v es) {i:Nat} {cs:List V} (hc:es[i]?=some cs) (k:IntKind):∃ p,cV n v (.int k (i:Int))=.ok p∧At S p cs:=by
 have hi:i<es.length:=(List.getElem?_eq_some_iff.1 hc).1
 have hl:=(h.len cs (List.mem_of_getElem? hc)).1
 rcases h.is with ⟨rfl,rfl⟩ | rfl | ⟨a,ver,off,elems,rfl,h2,h3,h4⟩
 ·simp at hi
 ·exact ⟨.iptr cs 0,by simp only [cV,kS hi,hc,hl,if_true],.inr rfl⟩
 ·refine ⟨.ptr a ver (off+i) 0,by simp only [cV,kS hi,if_true],.inl ⟨a,ver,off+i,n,elems,rfl,h2,?_⟩⟩
  rw [←h4,List.getElem?_take,if_pos hi,List.getElem?_drop] at hc
  exact hc
def St.var (S:St) (n:Nat) (zs cs:List V):St:=⟨S.next+1,(S.heap.put S.next (.row 0 n [zs])).put S.next (.row 0 n [cs])⟩
theorem Ext.var {S:St} (w:WF S) (n:Nat) (zs cs:List V):Ext S (S.var n zs cs):=(Ext.new w _).set (Nat.le_refl _) (Nat.lt_succ_self _) w _
theorem aLp (S:St) (n:Nat) (zs cs:List V):aI (S.var n zs cs) S.next 0=.ok (n,[cs]):=aS _ _ _ _ _ _
theorem aJn (zs cs:List V) (h:cs.length=zs.length):splice zs 0 cs=cs:=by simp [splice,h]
theorem aDm (S:St) (n:Nat) (zs:List V) (x:V) (hz:zs.length=n) (hx:x.cells.length=n) (ho:aN x.cells=true):
  aV n (.ptr S.next 0 0 0) x ⟨S.next+1,S.heap.put S.next (.row 0 n [zs])⟩=.ok (S.var n zs x.cells):=by
 simp only [aV,aS,List.getElem?_cons_zero,hx,ho,hz,Nat.zero_add,Nat.le_refl,and_self,if_true,List.set_cons_zero,St.var,aJn zs x.cells (by rw [hx,hz])]
theorem aPf (k:Option Nat) (a ver i j:Nat) (S:St) {es:Nat} {elems:List (List V)} {cs:List V} (h:aI S a ver=.ok (es,elems)) (hc:elems[i]?=some cs):bB k (.ptr a ver i j) S=gN k cs j:=by
 simp only [bB,h,hc]
theorem aPg (k:Option Nat) (a ver j:Nat) (S:St) {es:Nat} {cs:List V} (h:aI S a ver=.ok (es,[cs])):bB k (.ptr a ver 0 j) S=gN k cs j:=aPf k a ver 0 j S h rfl
def fE (x y:R Bool):R Bool:=match x with
 | .error e=>.error e
 | .ok r=>bif r then y else .ok false
theorem jC (a b:Bool):fE (.ok a) (.ok b)=.ok (a&&b):=by cases a<;>rfl
theorem Ext.bump {S S':St} (h:Ext S S') (c:Nat):Ext S ⟨S'.next+c,S'.heap⟩:=
 ⟨h.old,Nat.le_trans h.next (Nat.le_add_right _ _),fun w a b hb=>Nat.lt_of_lt_of_le (h.wf w a b hb) (Nat.le_add_right _ _)⟩
theorem aPh (S:St) (n:Nat) (zs cs:List V) {S':St} (x:Ext (S.var n zs cs) S') (k:Option Nat) (j:Nat):bB k (.ptr S.next 0 0 j) S'=gN k cs j:=aPg k S.next 0 j S' (x.row (aLp S n zs cs))
theorem Sl.elem {α:Type} {S:St} {n:Nat} {v:V} {all:List α} {enc:α→List V} (hs:Sl S n v (all.map enc)) {i:Nat} {a:α} (hi:all[i]?=some a):
  ∃ p,cV n v (.int .i64 (i:Int))=.ok p∧At S p (enc a)∧(enc a).length=n∧aN (enc a)=true:=by
 have hc:(all.map enc)[i]?=some (enc a):=by simp [hi]
 obtain ⟨p,hp,hat⟩:=hs.idx hc .i64
 have hl:=hs.len (enc a) (List.mem_of_getElem? hc)
 exact ⟨p,hp,hat,hl.1,hl.2⟩
theorem Sl.var {α:Type} {S:St} {n:Nat} {v:V} {all:List α} {enc:α→List V} (hs:Sl S n v (all.map enc)) (w:WF S) {i:Nat} {a:α} (hi:all[i]?=some a) (zs:List V) (hz:zs.length=n):
  ∃ p,cV n v (.int .i64 (i:Int))=.ok p∧bB (some n) p S=.ok (.agg (enc a))∧aV n (.ptr S.next 0 0 0) (.agg (enc a)) ⟨S.next+1,S.heap.put S.next (.row 0 n [zs])⟩=.ok (S.var n zs (enc a))∧Ext S (S.var n zs (enc a)) ∧
   ∀ S',Ext (S.var n zs (enc a)) S'→∀ k j,bB k (.ptr S.next 0 0 j) S'=gN k (enc a) j:=by
 obtain ⟨p,hp,hat,h1,h2⟩:=hs.elem hi
 refine ⟨p,hp,?_,?_,Ext.var w _ _ _,fun S' x k j=>aPh S n zs (enc a) x k j⟩
 ·rw [hat.load0,aNf _ _ h1]
 ·have:=aDm S n zs (.agg (enc a)) hz h1 h2
  exact this
theorem Sl.lenI {α:Type} {S:St} {n:Nat} {v:V} {all:List α} {enc:α→List V} (hs:Sl S n v (all.map enc)):Go.AM.lenW v=.ok (.int .i64 all.length):=by
 have:=hs.lenW
 rwa [List.length_map] at this
end
def Ok (g:Nat→KS→An) (Q:V→St→Prop):Prop:=∃ v S N,Q v S∧∀ k K,N≤k→g k K=K v S
theorem Ok.ret {Q:V→St→Prop} {v:V} {S:St} (h:Q v S):Ok (fun _ K=>K v S) Q:=⟨v,S,0,h,fun _ _ _=>rfl⟩
theorem Ok.mono {g:Nat→KS→An} {Q R:V→St→Prop} (h:Ok g Q) (hq:∀ v S,Q v S→R v S):Ok g R:=by
 obtain ⟨v,S,N,q,h⟩:=h
 exact ⟨v,S,N,hq v S q,h⟩
theorem Ok.bind {g:Nat→KS→An} {G:Nat→KS→V→St→An} {Q R:V→St→Prop} (h:Ok g Q) (k:∀ v S,Q v S→Ok (fun k K=>G k K v S) R):Ok (fun k K=>g k (fun v S=>G k K v S)) R:=by
 obtain ⟨v,S,N,q,h⟩:=h
 obtain ⟨v',S',N',q',h'⟩:=k v S q
 refine ⟨v',S',max N N',q',fun k K hk=>?_⟩
 show g k (fun v S=>G k K v S)=K v' S'
 rw [h k _ (by omega)]
 exact h' k K (by omega)
theorem Ok.pick {b:Bool} {g g':Nat→KS→An} {Q:V→St→Prop} (h:b=true→Ok g Q) (h':b=false→Ok g' Q):Ok (fun k K=>aDg (.bool b) (g k K) (g' k K)) Q:=by
 cases b with
 | true=>exact h rfl
 | false=>exact h' rfl
def Does (P:Program) (pl:eX) (lv:lF) (f:FuncId) (args:List V) (S:St) (Q:V→St→Prop):Prop:=Ok (fun k K=>nY P pl lv k f args S K) Q
theorem Does.enter {P:Program} {pl:eX} {lv:lF} {f:FuncId} {args:List V} {S:St} {Q:V→St→Prop} {m:eM→Nat→KS→An} (he:∀ k K,nY P pl lv (k+1) f args S K=m (nY P pl lv k) k K)
  (h:Ok (fun k K=>m (nY P pl lv k) k K) Q):Does P pl lv f args S Q:=by
 obtain ⟨v,S',N,q,h⟩:=h
 refine ⟨v,S',N+1,q,fun k K hk=>?_⟩
 obtain ⟨k,rfl⟩:∃ m,k=m+1:=⟨k - 1,by omega⟩
 show nY P pl lv (k+1) f args S K=_
 rw [he]
 exact h k K (by omega)
theorem Does.step {P:Program} {pl:eX} {lv:lF} {f:FuncId} {args:List V} {S:St} {g:List V→St→R (V×St)} (hf:pl f=some (.spec g)) {v:V} {S':St} {Q:V→St→Prop} (h:g args S=.ok (v,S')) (q:Q v S'):Does P pl lv f args S Q:=by
 refine ⟨v,S',1,q,fun k K hk=>?_⟩
 obtain ⟨k,rfl⟩:∃ m,k=m+1:=⟨k - 1,by omega⟩
 simp only [nY,hf,bCh,h,bCg]
theorem Does.call {P:Program} {pl:eX} {lv:lF} {f:FuncId} {args:List V} {S:St} {Q R:V→St→Prop} (h:Does P pl lv f args S Q) {G:Nat→KS→V→St→An} (k:∀ v S,Q v S→Ok (fun k K=>G k K v S) R):
  Ok (fun k K=>nY P pl lv k f args S (fun v S=>G k K v S)) R:=Ok.bind h k
theorem Does.says {P:Program} {pl:eX} {lv:lF} {f:FuncId} {args:List V} {S:St} {Q:V→St→Prop} (h:Does P pl lv f args S Q):∃ k v S',Q v S'∧eA P pl k f args S=.ok (v,S'):=by
 obtain ⟨v,S',N,q,h⟩:=h
 obtain ⟨v1,S1,h1,h2⟩:=mE N f args S (fun v S=>some (v,S)) (v,S') (h N _ (Nat.le_refl _))
 cases h2
 exact ⟨N,v,S',q,h1⟩
def aO {σ ρ α:Type} (step:σ→α→ρ⊕σ) (fin:σ→ρ):List α→σ→ρ
 | [],s=>fin s
 | a::l,s=>match step s a with
  | .inl r=>r
  | .inr s'=>aO step fin l s'
theorem aDn {κ σ ρ α X:Type} {F:Nat→κ→List V→St→(List V→St→An)→An} {out:Nat→κ→X→St→An} (all:List α) {step:σ→α→ρ⊕σ} {fin:σ→ρ} (Inv:Nat→σ→List V→St→Prop) (Post:ρ→X→St→Prop)
  (hstep:∀ i a s vs S,Inv i s vs S→all[i]?=some a→
   ∃ N,(∃ r x S',step s a=.inl r∧Post r x S'∧∀ k K aP,N≤k→F k K vs S aP=out k K x S')∨(∃ s' vs' S',step s a=.inr s'∧Inv (i+1) s' vs' S'∧∀ k K aP,N≤k→F k K vs S aP=aP vs' S'))
  (hend:∀ s vs S,Inv all.length s vs S→∃ N x S',Post (fin s) x S'∧∀ k K aP,N≤k→F k K vs S aP=out k K x S'):
  ∀ (l:List α) (i:Nat) (s:σ) (vs:List V) (S:St),all.drop i=l→i≤all.length→Inv i s vs S→∃ N x S',Post (aO step fin l s) x S'∧∀ k m K,N≤k→l.length<m→sX m vs S (F k K)=out k K x S':=by
 intro l
 induction l with
 | nil=>
  intro i s vs S hd hle hI
  have hi:i=all.length:=by
   have:all.length≤i:=by simpa using hd
   omega
  subst hi
  obtain ⟨N,x,S',hp,h⟩:=hend s vs S hI
  refine ⟨N,x,S',hp,fun k m K hk hm=>?_⟩
  obtain ⟨m,rfl⟩:∃ j,m=j+1:=⟨m - 1,by simp at hm;omega⟩
  rw [tY,h k K _ hk]
 | cons a l ih=>
  intro i s vs S hd hle hI
  have hi:all[i]?=some a:=by
   have:=congrArg (·[0]?) hd
   simpa using this
  have hil:i<all.length:=(List.getElem?_eq_some_iff.1 hi).1
  have hd':all.drop (i+1)=l:=by rw [←List.drop_drop,hd];rfl
  obtain ⟨N,h⟩:=hstep i a s vs S hI hi
  rcases h with ⟨r,x,S',h1,h2,h3⟩ | ⟨s',vs',S',h1,h2,h3⟩
  ·refine ⟨N,x,S',by simp only [aO,h1];exact h2,fun k m K hk hm=>?_⟩
   obtain ⟨m,rfl⟩:∃ j,m=j+1:=⟨m - 1,by simp at hm;omega⟩
   rw [tY,h3 k K _ hk]
  ·obtain ⟨N',x,S2,h4,h5⟩:=ih (i+1) s' vs' S' hd' (by omega) h2
   refine ⟨max N N',x,S2,by simp only [aO,h1];exact h4,fun k m K hk hm=>?_⟩
   obtain ⟨m,rfl⟩:∃ j,m=j+1:=⟨m - 1,by simp at hm;omega⟩
   rw [tY,h3 k K _ (by omega),h5 k m K (by omega) (by simp at hm;omega)]
theorem Ok.loop {σ ρ α X:Type} {F:Nat→KS→List V→St→(List V→St→An)→An} {out:Nat→KS→X→St→An} (all:List α) {step:σ→α→ρ⊕σ} {fin:σ→ρ} (Inv:Nat→σ→List V→St→Prop) (Post:ρ→X→St→Prop)
  (hstep:∀ i a s vs S,Inv i s vs S→all[i]?=some a→
   ∃ N,(∃ r x S',step s a=.inl r∧Post r x S'∧∀ k K aP,N≤k→F k K vs S aP=out k K x S')∨(∃ s' vs' S',step s a=.inr s'∧Inv (i+1) s' vs' S'∧∀ k K aP,N≤k→F k K vs S aP=aP vs' S'))
  (hend:∀ s vs S,Inv all.length s vs S→∃ N x S',Post (fin s) x S'∧∀ k K aP,N≤k→F k K vs S aP=out k K x S')
  {s:σ} {vs:List V} {S:St} (hI:Inv 0 s vs S) {Q:V→St→Prop} (hout:∀ x S',Post (aO step fin all s) x S'→Ok (fun k K=>out k K x S') Q):Ok (fun k K=>sX k vs S (F k K)) Q:=by
 obtain ⟨N,x,S',hp,h⟩:=aDn all Inv Post hstep hend all 0 s vs S rfl (Nat.zero_le _) hI
 obtain ⟨v,S2,N',hq,h'⟩:=hout x S' hp
 refine ⟨v,S2,max N (max N' (all.length+1)),hq,fun k K hk=>?_⟩
 show sX k vs S (F k K)=K v S2
 rw [h k k K (by omega) (by omega)]
 exact h' k K (by omega)
end Go.AM
end
section
set_option linter.unusedSimpArgs false
set_option linter.unusedVariables false
namespace Go.AM
structure Own (S0 S:St) (n:Nat) (v:V) (es:List (List V)):Prop where
 is:(v=.nils∧es=[])∨∃ a ver tl,v=.sl a ver n 0 es.length∧S0.next≤a∧a<S.next∧S.heap.get a=some (.row ver n (es++tl))
 len:∀ cs,cs∈es→cs.length=n∧aN cs=true
theorem fN {S:St} {a ver n:Nat} {el:List (List V)} (h:S.heap.get a=some (.row ver n el)):aI S a ver=.ok (n,el):=by
 simp only [aI,h,Nat.beq_refl,cond_true]
theorem Own.sl {S0 S:St} {n:Nat} {v:V} {es:List (List V)} (h:Own S0 S n v es):Sl S n v es:=by
 refine ⟨?_,h.len⟩
 rcases h.is with h1 | ⟨a,ver,tl,h1,h2,h3,h4⟩
 ·exact .inl h1
 ·exact .inr (.inr ⟨a,ver,0,es++tl,h1,fN h4,by simp,by simp⟩)
theorem Own.ext {S0 S S':St} {n:Nat} {v:V} {es:List (List V)} (h:Own S0 S n v es) (x:Ext S S'):Own S0 S' n v es:=by
 refine ⟨?_,h.len⟩
 rcases h.is with h1 | ⟨a,ver,tl,h1,h2,h3,h4⟩
 ·exact .inl h1
 ·exact .inr ⟨a,ver,tl,h1,h2,Nat.lt_of_lt_of_le h3 x.next,x.old _ _ h4⟩
theorem Own.nil (S0 S:St) (n:Nat):Own S0 S n .nils []:=⟨.inl ⟨rfl,rfl⟩,fun _ h=>by cases h⟩
theorem Own.weaken {A B S:St} {n:Nat} {v:V} {es:List (List V)} (h:Own B S n v es) (x:A.next≤B.next):Own A S n v es:=by
 refine ⟨?_,h.len⟩
 rcases h.is with h1 | ⟨a,ver,tl,h1,h2,h3,h4⟩
 ·exact .inl h1
 ·exact .inr ⟨a,ver,tl,h1,Nat.le_trans x h2,h3,h4⟩
theorem eG {n:Nat} {es:List (List V)} (h:∀ cs,cs∈es→cs.length=n∧aN cs=true):iW n es=true∧es.all aN=true:=
 ⟨List.all_eq_true.2 fun cs hc=>by simp [(h cs hc).1],List.all_eq_true.2 fun cs hc=>(h cs hc).2⟩
theorem Sl.copy {S:St} {n b:Nat} {v:V} {es:List (List V)} (h:Sl S n v es) (w:WF S) (h1:es.length*b≤35184372088832) (h2:es.length<fK):
  ∃ v' S',dL n b .nils v none S=.ok (v',S')∧Ext S S'∧Own S S' n v' es:=by
 obtain ⟨a1,a2⟩:=eG h.len
 cases es with
 | nil=>exact ⟨.nils,S,by simp only [dL,h.elems,a1,a2,and_self,if_true],Ext.refl S,Own.nil _ _ _⟩
 | cons c es=>
  refine ⟨.sl S.next 0 n 0 (c::es).length,⟨S.next+1,S.heap.put S.next (.row 0 n (c::es))⟩,?_,Ext.new w _,⟨.inr ⟨S.next,0,[],rfl,Nat.le_refl _,Nat.lt_succ_self _,?_⟩,h.len⟩⟩
  ·simp only [dL,h.elems,a1,a2,and_self,if_true,h1,h2,fL]
  ·rw [List.append_nil];exact Tr.get_put_sameB _ _ _ trivial
theorem Sl.copyAt {S:St} {n b:Nat} {v:V} {es:List (List V)} (h:Sl S n v es) {S0:St} (x:Ext S0 S) (w:WF S0) {k:Nat} (hk:S0.next≤k) (hk2:k<S.next) (hk3:S.heap.get k=none) (h1:es.length*b≤35184372088832) (h2:es.length<fK):
  ∃ v' S',dL n b .nils v (some k) S=.ok (v',S')∧Ext S S'∧Own S0 S' n v' es:=by
 obtain ⟨a1,a2⟩:=eG h.len
 cases es with
 | nil=>exact ⟨.nils,S,by simp only [dL,h.elems,a1,a2,and_self,if_true],Ext.refl S,Own.nil _ _ _⟩
 | cons c es=>
  refine ⟨.sl k 0 n 0 (c::es).length,⟨S.next,S.heap.put k (.row 0 n (c::es))⟩,?_,⟨fun a d hd=>?_,Nat.le_refl _,fun w a d hd=>?_⟩,⟨.inr ⟨k,0,[],rfl,hk,hk2,?_⟩,h.len⟩⟩
  ·simp only [dL,h.elems,a1,a2,and_self,if_true,h1,h2,lQ]
  ·show (S.heap.put k _).get a=some d
   rw [Tr.get_put_neB _ _ _ _ trivial (fun e=>by rw [e,hk3] at hd;cases hd)];exact hd
  ·have hd':(S.heap.put k (.row 0 n (c::es))).get a=some d:=hd
   rw [Tr.get_putB _ _ _ _ trivial] at hd'
   split at hd'
   ·show a<S.next;omega
   ·exact w a d hd'
  ·rw [List.append_nil];exact Tr.get_put_sameB _ _ _ trivial
theorem Own.pushK {S0 S:St} {n b:Nat} {v:V} {es:List (List V)} (h:Own S0 S n v es) (x:Ext S0 S) (w:WF S0) {u:V} {cs:List (List V)} (hu:bX S u=.ok cs) (hc:∀ c,c∈cs→c.length=n∧aN c=true) (hne:cs≠[])
  (h1:(es.length+cs.length)*b≤35184372088832) (h2:es.length+cs.length<fK):∃ v' S',dL n b v u none S=.ok (v',S')∧Ext S0 S'∧S'.next≤S.next+1∧Own S0 S' n v' (es++cs)∧∀ y,y<S.next→(∀ a ver m,v=.sl a ver n 0 m→y≠a)→S'.heap.get y=S.heap.get y:=by
 obtain ⟨a1,a2⟩:=eG hc
 have hlen:∀ c,c∈es++cs→c.length=n∧aN c=true:=fun c hm=>(List.mem_append.1 hm).elim (h.len c) (hc c)
 rcases h.is with ⟨rfl,rfl⟩ | ⟨a,ver,tl,rfl,q1,q2,q3⟩
 ·cases cs with
  | nil=>exact absurd rfl hne
  | cons c cs=>
   refine ⟨.sl S.next 0 n 0 (c::cs).length,⟨S.next+1,S.heap.put S.next (.row 0 n (c::cs))⟩,?_,x.trans (Ext.new (x.wf w) _),Nat.le_refl _,⟨.inr ⟨S.next,0,[],rfl,x.next,Nat.lt_succ_self _,?_⟩,hlen⟩,fun y hy _=>Tr.get_put_neB _ _ _ _ trivial (by omega)⟩
   ·simp only [List.length_nil,Nat.zero_add] at h1 h2
    simp only [dL,hu,a1,a2,and_self,if_true,h1,h2,fL]
   ·rw [List.append_nil];exact Tr.get_put_sameB _ _ _ trivial
 ·have hb:0+es.length≤es.length+tl.length:=by omega
  refine ⟨.sl a (ver+1) n 0 (es++cs).length,⟨S.next,S.heap.put a (.row (ver+1) n (es++cs))⟩,?_,x.set q1 q2 w _,Nat.le_succ _,⟨.inr ⟨a,ver+1,[],rfl,q1,q2,?_⟩,hlen⟩,fun y _ hy=>Tr.get_put_neB _ _ _ _ trivial (hy a ver _ rfl)⟩
  ·simp only [dL,hu,a1,a2,and_self,if_true,fN q3,hb,h1,h2,List.drop_zero,List.take_left',List.length_append]
  ·rw [List.append_nil];exact Tr.get_put_sameB _ _ _ trivial
theorem Own.push {S0 S:St} {n b:Nat} {v:V} {es:List (List V)} (h:Own S0 S n v es) (x:Ext S0 S) (w:WF S0) {u:V} {cs:List (List V)} (hu:bX S u=.ok cs) (hc:∀ c,c∈cs→c.length=n∧aN c=true) (hne:cs≠[])
  (h1:(es.length+cs.length)*b≤35184372088832) (h2:es.length+cs.length<fK):∃ v' S',dL n b v u none S=.ok (v',S')∧Ext S0 S'∧S'.next≤S.next+1∧Own S0 S' n v' (es++cs):=by
 obtain ⟨v',S',q1,q2,q3,q4,_⟩:=h.pushK x w hu hc hne h1 h2
 exact ⟨v',S',q1,q2,q3,q4⟩
theorem Own.set {S0 S:St} {n:Nat} {v:V} {es:List (List V)} (h:Own S0 S n v es) (x:Ext S0 S) (w:WF S0) {i:Nat} {cs:List V} (hi:es[i]?=some cs) (k:IntKind):
  ∃ p,cV n v (.int k (i:Int))=.ok p∧At S p cs∧∀ (j m:Nat) (u:V),u.cells.length=m→aN u.cells=true→j+m≤n→∃ S',aV m (adv j p) u S=.ok S'∧Ext S0 S'∧S'.next=S.next∧Own S0 S' n v (es.set i (splice cs j u.cells)) ∧
   ∀ S1,Ext S1 S→(∀ a ver,v=.sl a ver n 0 es.length→S1.next≤a)→WF S1→Ext S1 S':=by
 have hil:i<es.length:=(List.getElem?_eq_some_iff.1 hi).1
 have hl:=h.len cs (List.mem_of_getElem? hi)
 rcases h.is with ⟨rfl,rfl⟩ | ⟨a,ver,tl,rfl,q1,q2,q3⟩
 ·simp at hil
 ·have hg:(es++tl)[0+i]?=some cs:=by rw [Nat.zero_add,List.getElem?_append_left hil];exact hi
  refine ⟨.ptr a ver (0+i) 0,by simp only [cV,kS hil,if_true],.inl ⟨a,ver,0+i,n,es++tl,rfl,fN q3,hg⟩,fun j m u hu ho hj=>?_⟩
  have hsl:(splice cs j u.cells).length=n:=by simp only [splice,List.length_append,List.length_take,List.length_drop];omega
  have hso:aN (splice cs j u.cells)=true:=by
   have h1:=hl.2
   simp only [aN,List.all_eq_true] at h1 ho ⊢
   intro y hy
   simp only [splice,List.mem_append] at hy
   rcases hy with hy | hy | hy
   ·exact h1 y (List.mem_of_mem_take hy)
   ·exact ho y hy
   ·exact h1 y (List.mem_of_mem_drop hy)
  have hst:aV m (adv j (.ptr a ver (0+i) 0)) u S=.ok ⟨S.next,S.heap.put a (.row ver n ((es++tl).set (0+i) (splice cs j u.cells)))⟩:=by
   have hj':0+j+u.cells.length≤cs.length:=by omega
   simp only [adv,aV,fN q3,hg,hu,ho,true_and]
   rw [if_pos (by omega)]
   simp only [Nat.zero_add]
  have hset:(es++tl).set (0+i) (splice cs j u.cells)=es.set i (splice cs j u.cells)++tl:=by rw [Nat.zero_add,List.set_append_left _ _ hil]
  refine ⟨_,hst,x.set q1 q2 w _,rfl,⟨.inr ⟨a,ver,tl,by rw [List.length_set],q1,q2,?_⟩,fun c hc=>?_⟩,fun S1 x1 ha w1=>x1.set (ha a ver rfl) q2 w1 _⟩
  ·rw [hset];exact Tr.get_put_sameB _ _ _ trivial
  ·rcases List.mem_or_eq_of_mem_set hc with hc | rfl
   ·exact h.len c hc
   ·exact ⟨hsl,hso⟩
theorem aPi {P:Program} {T:TypeId} {n b:Nat} (h:apT P T=some (n,b)):∃ e,jL P T=some e∧kM P e=true∧sz P e=n∧P.bytesOf e=b:=by
 unfold apT at h
 split at h
 ·cases h
 ·rename_i e he
  rw [cond_eq_ite] at h
  split at h
  ·rename_i hz;cases h;exact ⟨e,he,hz,rfl,rfl⟩
  ·cases h
theorem Own.insertK {P:Program} {T:TypeId} {n b:Nat} (hT:apT P T=some (n,b)) (hn:1<n) {S0 S:St} {v:V} {es:List (List V)} (h:Own S0 S n v es) (x:Ext S0 S) (w:WF S0) {bx:Nat} {c:List V} (hb:aI S bx 0=.ok (n,[c]))
  (hne:∀ a ver m,v=.sl a ver n 0 m→a≠bx) (hc:c.length=n∧aN c=true) (h1:(es.length+1)*b≤35184372088832) (h2:es.length+1<fK) {i:Nat} (hi:i≤es.length):
  ∃ v' S',gC P T v (.int .i64 (i:Int)) (.sl bx 0 n 0 1) S=.ok (v',S')∧Ext S0 S'∧Own S0 S' n v' (es.take i++c::es.drop i)∧∀ y,y<S.next→(∀ a ver m,v=.sl a ver n 0 m→y≠a)→S'.heap.get y=S.heap.get y:=by
 obtain ⟨e,he,hz,hsz,hby⟩:=aPi hT
 have hx:bX S (.sl bx 0 n 0 1)=.ok [c]:=by
  simp only [bX,hb]
  rfl
 have h1n:Nat.ble n 1=false:=by
  cases hq:Nat.ble n 1 with
  | false=>rfl
  | true=>exact absurd (Nat.le_of_ble_eq_true hq) (by omega)
 have hcs:∀ d,d∈[c]→d.length=n∧aN d=true:=fun d hd=>by cases hd with
  | head=>exact hc
  | tail _ hd=>cases hd
 have hlen:∀ d,d∈es.take i++c::es.drop i→d.length=n∧aN d=true:=by
  intro d hd
  rcases List.mem_append.1 hd with hd | hd
  ·exact h.len d (List.mem_of_mem_take hd)
  ·rcases List.mem_cons.1 hd with rfl | hd
   ·exact hc
   ·exact h.len d (List.mem_of_mem_drop hd)
 have hlt:(es.take i++c::es.drop i).length=es.length+1:=by simp only [List.length_append,List.length_take,List.length_cons,List.length_drop];omega
 by_cases hend:i=es.length
 ·subst hend
  obtain ⟨v',S',q1,q2,_,q3,q4⟩:=h.pushK (b:=b) x w hx hcs (by simp) h1 h2
  refine ⟨v',S',?_,q2,by simpa using q3,q4⟩
  rw [←dG hT] at q1
  unfold gC
  simp only [he,hx,hsz,h1n,Bool.false_or]
  rcases h.is with ⟨rfl,rfl⟩ | ⟨a,ver,tl,rfl,_⟩
  ·simp only [List.length_nil]
   show (bif Nat.beq 1 0 then _ else bif decide (((0:Nat):Int)=0) then _ else _)=_
   simp only [Int.natCast_zero,decide_true,cond_true]
   exact q1
  ·simp only [decide_true,cond_true]
   exact q1
 ·rcases h.is with ⟨rfl,rfl⟩ | ⟨a,ver,tl,rfl,p1,p2,p3⟩
  ·simp at hi;exact absurd hi hend
  ·have hab:Nat.beq a bx=false:=by
    cases hq:Nat.beq a bx with
    | false=>rfl
    | true=>exact absurd (Nat.eq_of_beq_eq_true hq) (hne a ver _ rfl)
   obtain ⟨a1,a2⟩:=eG hcs
   obtain ⟨_,a3⟩:=eG h.len
   have hb1:Nat.ble (0+es.length) (es++tl).length=true:=Nat.ble_eq_true_of_le (by simp)
   have hroom:room P e (es.length+[c].length)=true:=by
    simp only [room,hby,Bool.and_eq_true,Nat.ble_eq,Nat.blt_eq,List.length_cons,List.length_nil]
    exact ⟨h1,h2⟩
   have e1:decide ((i:Int)=((es.length:Nat):Int))=false:=decide_eq_false (by omega)
   have e2:decide ((i:Int)<0)=false:=decide_eq_false (by omega)
   have e3:decide (((es.length:Nat):Int)<(i:Int))=false:=decide_eq_false (by omega)
   refine ⟨.sl a (ver+1) n 0 (es.take i++c::es.drop i).length,⟨S.next,S.heap.put a (.row (ver+1) n (es.take i++c::es.drop i))⟩,?_,x.set p1 p2 w _,⟨.inr ⟨a,ver+1,[],rfl,p1,p2,?_⟩,hlen⟩,fun y _ hy=>Tr.get_put_neB _ _ _ _ trivial (hy a ver _ rfl)⟩
   ·unfold gC
    simp only [he,hx,hsz,h1n,Bool.false_or,e1,cond_false,hab,e2,e3,a1,a2,hz,Bool.and_self,Bool.not_true,fN p3,hb1,Nat.beq_refl,hroom,List.drop_zero,List.take_left',a3,cond_true,Int.toNat_natCast,hlt]
    rfl
   ·rw [List.append_nil];exact Tr.get_put_sameB _ _ _ trivial
theorem Own.insert {P:Program} {T:TypeId} {n b:Nat} (hT:apT P T=some (n,b)) (hn:1<n) {S0 S:St} {v:V} {es:List (List V)} (h:Own S0 S n v es) (x:Ext S0 S) (w:WF S0) {bx:Nat} {c:List V} (hb:aI S bx 0=.ok (n,[c]))
  (hne:∀ a ver m,v=.sl a ver n 0 m→a≠bx) (hc:c.length=n∧aN c=true) (h1:(es.length+1)*b≤35184372088832) (h2:es.length+1<fK) {i:Nat} (hi:i≤es.length):
  ∃ v' S',gC P T v (.int .i64 (i:Int)) (.sl bx 0 n 0 1) S=.ok (v',S')∧Ext S0 S'∧Own S0 S' n v' (es.take i++c::es.drop i):=by
 obtain ⟨v',S',q1,q2,q3,_⟩:=h.insertK hT hn x w hb hne hc h1 h2 hi
 exact ⟨v',S',q1,q2,q3⟩
theorem Own.delete {P:Program} {T e:TypeId} {n:Nat} {z:List V} (he:jL P T=some e) (hz:rR P e=some z) (hsz:sz P e=n) {S0 S:St} {v:V} {es:List (List V)} (h:Own S0 S n v es) (x:Ext S0 S) (w:WF S0)
  (h2:es.length<fK) {i:Nat} (hi:i<es.length):
  ∃ v' S',oZ P T v (.int .i64 (i:Int)) (.int .i64 ((i:Int)+1)) S=.ok (v',S')∧Ext S0 S'∧Own S0 S' n v' (es.take i++es.drop (i+1)):=by
 have hlen:∀ d,d∈es.take i++es.drop (i+1)→d.length=n∧aN d=true:=by
  intro d hd
  rcases List.mem_append.1 hd with hd | hd
  ·exact h.len d (List.mem_of_mem_take hd)
  ·exact h.len d (List.mem_of_mem_drop hd)
 have hlt:(es.take i++es.drop (i+1)).length=es.length - 1:=by simp only [List.length_append,List.length_take,List.length_drop];omega
 rcases h.is with ⟨rfl,rfl⟩ | ⟨a,ver,tl,rfl,p1,p2,p3⟩
 ·simp at hi
 ·obtain ⟨_,a3⟩:=eG h.len
  have e1:decide ((i:Int)<0)=false:=decide_eq_false (by omega)
  have e2:decide ((i:Int)+1<(i:Int))=false:=decide_eq_false (by omega)
  have e3:decide (((es.length:Nat):Int)<(i:Int)+1)=false:=decide_eq_false (by omega)
  have e4:Nat.blt es.length fK=true:=Nat.ble_eq_true_of_le h2
  have e5:Nat.beq es.length 0=false:=by
   cases hq:Nat.beq es.length 0 with
   | false=>rfl
   | true=>have:=Nat.eq_of_beq_eq_true hq;omega
  have e6:decide ((i:Int)=(i:Int)+1)=false:=decide_eq_false (by omega)
  have hb1:Nat.ble (0+es.length) (es++tl).length=true:=Nat.ble_eq_true_of_le (by simp)
  have hj:((i:Int)+1).toNat=i+1:=by omega
  have hk:i+1 - i=1:=by omega
  have hrow:lH (es++tl) (0+i) (es.drop (i+1)++[z])=(es.take i++es.drop (i+1))++(z::tl):=by
   unfold lH
   rw [Nat.zero_add,List.take_append_of_le_length (by omega)]
   have:i+(es.drop (i+1)++[z]).length=es.length+0:=by simp only [List.length_append,List.length_drop,List.length_cons,List.length_nil];omega
   rw [this,List.drop_length_add_append]
   simp
  refine ⟨.sl a ver n 0 (es.length - 1),⟨S.next,S.heap.put a (.row ver n ((es.take i++es.drop (i+1))++(z::tl)))⟩,?_,x.set p1 p2 w _,⟨.inr ⟨a,ver,z::tl,by rw [hlt],p1,p2,Tr.get_put_sameB _ _ _ trivial⟩,hlen⟩⟩
  unfold oZ
  simp only [he,e1,e2,e3,e4,e5,e6,Bool.or_false,Bool.not_true,cond_false,hz,hsz,fN p3,Nat.beq_refl,hb1,Bool.true_and,List.drop_zero,List.take_left',a3,cond_true,Int.toNat_natCast,hj,hk,List.replicate_one,hrow]
end Go.AM
namespace Go.AM
theorem Ext.newAt {S:St} {k:Nat} (hk:S.heap.get k=none) (hk2:k<S.next) (b:Blk):Ext S ⟨S.next,S.heap.put k b⟩:=by
 refine ⟨fun a d hd=>?_,Nat.le_refl _,fun w a d hd=>?_⟩
 ·show (S.heap.put k _).get a=some d
  rw [Tr.get_put_neB _ _ _ _ trivial (fun e=>by rw [e,hk] at hd;cases hd)];exact hd
 ·have hd':(S.heap.put k b).get a=some d:=hd
  rw [Tr.get_putB _ _ _ _ trivial] at hd'
  split at hd'
  ·show a<S.next;omega
  ·exact w a d hd'
end Go.AM
namespace Go.AM
theorem Own.other {S0 S S':St} {n:Nat} {v:V} {es:List (List V)} (h:Own S0 S n v es) (hn:S.next≤S'.next) (hg:∀ a ver m,v=.sl a ver n 0 m→S'.heap.get a=S.heap.get a):Own S0 S' n v es:=by
 refine ⟨?_,h.len⟩
 rcases h.is with h1 | ⟨a,ver,tl,h1,h2,h3,h4⟩
 ·exact .inl h1
 ·exact .inr ⟨a,ver,tl,h1,h2,Nat.lt_of_lt_of_le h3 hn,by rw [hg a ver _ h1];exact h4⟩
theorem Own.setK {S0 S:St} {n:Nat} {v:V} {es:List (List V)} (h:Own S0 S n v es) (x:Ext S0 S) (w:WF S0) {i:Nat} {cs:List V} (hi:es[i]?=some cs) (k:IntKind):
  ∃ a ver,v=.sl a ver n 0 es.length∧S0.next≤a∧a<S.next∧cV n v (.int k (i:Int))=.ok (.ptr a ver i 0)∧At S (.ptr a ver i 0) cs ∧
   ∀ (j m:Nat) (u:V),u.cells.length=m→aN u.cells=true→j+m≤n→∃ S',aV m (.ptr a ver i j) u S=.ok S'∧Ext S0 S'∧S'.next=S.next∧Own S0 S' n v (es.set i (splice cs j u.cells))∧(∀ y,y≠a→S'.heap.get y=S.heap.get y)∧(WF S→WF S'):=by
 have hil:i<es.length:=(List.getElem?_eq_some_iff.1 hi).1
 rcases h.is with ⟨rfl,rfl⟩ | ⟨a,ver,tl,rfl,q1,q2,q3⟩
 ·simp at hil
 ·obtain ⟨p,hp,hat,hset⟩:=h.set x w hi k
  have hpe:p=.ptr a ver (0+i) 0:=by
   simp only [cV,kS hil,if_true] at hp
   cases hp;rfl
  subst hpe
  rw [Nat.zero_add] at hp hat hset
  refine ⟨a,ver,rfl,q1,q2,hp,hat,fun j m u hu ho hj=>?_⟩
  obtain ⟨S',t1,t2,t3,t4,_⟩:=hset j m u hu ho hj
  have t1':aV m (.ptr a ver i j) u S=.ok S':=by
   have:adv j (.ptr a ver i 0)=.ptr a ver i j:=by simp only [adv,Nat.zero_add]
   rw [←this];exact t1
  have hS':∃ b,S'=⟨S.next,S.heap.put a b⟩:=by
   have hg:(es++tl)[i]?=some cs:=by rw [List.getElem?_append_left hil];exact hi
   simp only [aV,fN q3,hg] at t1'
   split at t1'
   ·cases t1';exact ⟨_,rfl⟩
   ·cases t1'
  obtain ⟨b,rfl⟩:=hS'
  refine ⟨_,t1',t2,rfl,t4,fun y hy=>Tr.get_put_neB _ _ _ _ trivial hy,fun ww y d hd=>?_⟩
  have hd':(S.heap.put a b).get y=some d:=hd
  rw [Tr.get_putB _ _ _ _ trivial] at hd'
  split at hd'
  ·show y<S.next;omega
  ·exact ww y d hd'
theorem sA {S:St} {a ver n:Nat} {el:List (List V)} (h:aI S a ver=.ok (n,el)):S.heap.get a=some (.row ver n el):=by
 unfold aI at h
 split at h
 ·rename_i v es elems hg
  rw [cond_eq_ite] at h
  split at h
  ·rename_i hb
   have:=Nat.eq_of_beq_eq_true hb
   cases h
   subst this
   exact hg
  ·cases h
 ·cases h
end Go.AM
end
section
set_option linter.unusedSimpArgs false
set_option linter.unusedVariables false
namespace Go.AM
structure D (b:Nat) (S S':St):Prop where
 next:S.next≤S'.next
 dead:∀ a,a<b→S.heap.get a=none→S'.heap.get a=none
theorem D.refl {b:Nat} (S:St):D b S S:=⟨Nat.le_refl _,fun _ _ h=>h⟩
theorem D.trans {b:Nat} {A B C:St} (h:D b A B) (k:D b B C):D b A C:=⟨Nat.le_trans h.next k.next,fun a ha h1=>k.dead a ha (h.dead a ha h1)⟩
theorem D.put {b:Nat} {S:St} {a:Nat} {x y:Blk} (h:S.heap.get a=some x):D b S ⟨S.next,S.heap.put a y⟩:=by
 refine ⟨Nat.le_refl _,fun c _ hc=>?_⟩
 show (S.heap.put a y).get c=none
 rw [Tr.get_put_neB _ _ _ _ trivial (fun e=>by rw [e,h] at hc;cases hc)];exact hc
def FrB (b:Nat) (fr:Option Nat):Prop:=∀ k,fr=some k→b≤k
theorem D.new {b:Nat} {S S':St} {fr:Option Nat} {x:Blk} {a:Nat} (hb:b≤S.next) (hf:FrB b fr) (h:aJ fr S x=.ok (a,S')):D b S S':=by
 cases fr with
 | none=>
  rw [fL] at h
  cases h
  refine ⟨Nat.le_succ _,fun c hc hn=>?_⟩
  show (S.heap.put S.next x).get c=none
  rw [Tr.get_put_neB _ _ _ _ trivial (by omega)];exact hn
 | some k=>
  rw [lQ] at h
  cases h
  have:=hf _ rfl
  refine ⟨Nat.le_refl _,fun c hc hn=>?_⟩
  show (S.heap.put a x).get c=none
  rw [Tr.get_put_neB _ _ _ _ trivial (by omega)];exact hn
section
variable {P:Program} {b:Nat} {S S':St} {fr:Option Nat}
theorem aPj {t:TypeId} {p x:V} (h:aH P t p x S=.ok S'):D b S S':=by
 unfold aH at h
 split at h
 ·split at h
  ·cases h
  ·rename_i hg
   split at h
   ·rw [cond_eq_ite] at h
    split at h
    ·cases h;exact D.put (sA hg)
    ·cases h
   ·cases h
 ·cases h
theorem aDo {t:TypeId} {s x v:V} (hb:b≤S.next) (hf:FrB b fr) (h:aW P t s x fr S=.ok (v,S')):D b S S':=by
 unfold aW at h
 split at h
 ·cases h
 ·split at h
  ·cases h
  ·rw [cond_eq_ite] at h
   split at h
   ·cases h
   ·split at h
    ·split at h
     ·cases h;exact D.refl S
     ·rw [cond_eq_ite] at h
      split at h
      ·split at h
       ·cases h
       ·rename_i hn;cases h;exact D.new hb hf hn
      ·cases h
    ·split at h
     ·cases h
     ·rename_i hg
      rw [cond_eq_ite] at h
      split at h
      ·cases h;exact D.put (sA hg)
      ·cases h
    ·cases h
theorem aPk {t:TypeId} {x v:V} (h:tF P t x S=.ok (v,S')):D b S S':=by
 unfold tF at h
 split at h
 ·cases h;exact D.refl S
 ·rw [cond_eq_ite] at h
  split at h
  ·cases h;exact D.refl S
  ·split at h
   ·rename_i hg
    rw [cond_eq_ite] at h
    split at h
    ·cases h;exact D.put (sA hg)
    ·cases h
   ·cases h
 ·cases h
theorem aCv {t:TypeId} {n:Nat} {ps:List (Nat×V)} {v:V} (hb:b≤S.next) (hf:FrB b fr) (h:aK P t n ps fr S=.ok (v,S')):D b S S':=by
 unfold aK at h
 split at h
 ·cases h
 ·split at h
  ·cases h
  ·rw [cond_eq_ite] at h
   split at h
   ·split at h
    ·cases h
    ·split at h
     ·cases h
     ·rename_i hn;cases h;exact D.new hb hf hn
   ·cases h
theorem aF5 {t:TypeId} {l c v:V} (hb:b≤S.next) (hf:FrB b fr) (h:eR P t l c fr S=.ok (v,S')):D b S S':=by
 unfold eR at h
 split at h
 ·split at h
  ·cases h
  ·rw [cond_eq_ite] at h
   split at h
   ·split at h
    ·cases h
    ·rename_i hn;cases h;exact D.new hb hf hn
   ·cases h
 ·cases h
theorem aJo {s d : TypeId} {x v : V} (hb : b ≤ S.next) (hf : FrB b fr) (h : bG P s d x fr S = .ok (v, S')) : D b S S' := by
  unfold bG at h
  split at h
  · split at h
    · cases h; exact D.refl S
    · cases h
  · split at h
    · cases h; exact D.refl S
    · split at h
      · split at h
        · split at h
          all_goals first
            | cases h; done
            | (split at h
               · cases h
               · split at h
                 · cases h; exact D.refl S
                 · cases h)
        · cases h
      · cases h
  · split at h
    · rw [cond_eq_ite] at h
      split at h
      · split at h
        · cases h
        · rename_i hn; cases h; exact D.new hb hf hn
      · cases h
    · cases h
  · cases h
theorem aF6 {t:TypeId} {m k v:V} (h:eS P t m k v S=.ok S'):D b S S':=by
 unfold eS at h
 split at h
 ·split at h
  ·rename_i hg
   split at h
   ·cases h;exact D.put hg
   ·cases h;exact D.put hg
   ·cases h
  ·cases h
 ·cases h
theorem aSm {r:R V} {v:V} (h:bY S r=.ok (.val v S')):S'=S:=by
 unfold bY at h
 split at h<;>cases h;rfl
theorem aJp {r:R V} (h:bY S r=.ok (.skip S')):False:=by
 unfold bY at h
 split at h<;>cases h
theorem aSn {r:R (V×St)} {v:V} (h:dH r=.ok (.val v S')):r=.ok (v,S'):=by
 unfold dH at h
 split at h<;>cases h;rfl
theorem aJq {r:R (V×St)} (h:dH r=.ok (.skip S')):False:=by
 unfold dH at h
 split at h<;>cases h
def Out.left:Out→Option St
 | .val _ S=>some S
 | .skip S=>some S
 | .call _ _=>none
theorem jU {r:R V} {o:Out} (h:bY S r=.ok o) (hl:o.left=some S'):D b S S':=by
 cases o with
 | val v S1=>cases hl;rw [aSm h];exact D.refl S
 | skip S1=>exact (aJp h).elim
 | call f a=>cases hl
theorem jV {r:R (V×St)} {o:Out} (h:dH r=.ok o) (hl:o.left=some S') (hd:∀ v S1,r=.ok (v,S1)→D b S S1):D b S S':=by
 cases o with
 | val v S1=>cases hl;exact hd _ _ (aSn h)
 | skip S1=>exact (aJq h).elim
 | call f a=>cases hl
theorem yW {g:FuncId} {args:List V} {o:Out} (h:kW P S g args=.ok o) (hl:o.left=some S'):D b S S':=by
 unfold kW at h
 split at h
 ·cases h
 ·split at h
  ·cases h;cases hl
  ·exact jU h hl
theorem aCw {B:Builtin} {ts:Array TypeId} {args:List V} {o:Out} (hb:b≤S.next) (hf:FrB b fr) (h:cQ P B ts args fr S=.ok o) (hl:o.left=some S'):D b S S':=by
 unfold cQ at h
 split at h
 ·split at h
  ·exact jU h hl
  ·cases h
 ·exact jU h hl
 ·exact jU h hl
 ·split at h
  ·split at h
   ·exact jV h hl fun v S1 e=>aDo hb hf e
   ·exact jV h hl fun v S1 e=>aDo hb hf e
   ·cases h
  ·cases h
 ·split at h
  ·exact jV h hl fun v S1 e=>aPk e
  ·cases h
 ·cases h
theorem yX {ρ:Operand→Option V} {o:Oper} {u:Out} (hb:b≤S.next) (hf:FrB b fr) (h:aT P ρ o fr S=.ok u) (hl:u.left=some S'):D b S S':=by
 unfold aT at h
 split at h
 all_goals try (cases h;done)
 all_goals try (exact yW h hl)
 all_goals repeat' split at h
 all_goals try (cases h;done)
 all_goals try (exact jU h hl)
 all_goals try (exact yW h hl)
 all_goals try (exact aCw hb hf h hl)
 all_goals try (cases h;cases hl;exact D.refl S)
 all_goals try (rename_i hn;cases h;cases hl;exact D.new hb hf hn)
 all_goals try (rename_i hn;cases h;cases hl;exact aPj hn)
 all_goals try (rename_i hn;cases h;cases hl;exact aF6 hn)
 all_goals try (exact jV h hl fun v S1 e=>aCv hb hf e)
 all_goals try (exact jV h hl fun v S1 e=>aJo hb hf e)
 all_goals try (exact jV h hl fun v S1 e=>aF5 hb hf e)
 all_goals simp only [cond_eq_ite] at h
 all_goals repeat' split at h
 all_goals try (cases h;done)
 all_goals try (exact jU h hl)
 all_goals try (cases h;cases hl;exact D.refl S)
 all_goals try (cases h;cases hl;exact D.new hb hf (by assumption))
 all_goals (cases h;cases hl;exact D.put (by assumption))
def mF (C:Call):Prop:=∀ f args S v S',C f args S=.ok (v,S')→∀ b,b≤S.next→D b S S'
theorem aHw {C:Call} (hC:mF C) {n:Nat} {ops:Array Oper} {o:Oper} {e e':cG} (hb:b≤S.next) (hf:FrB b fr) (h:dF P C n ops o fr e S=.ok (e',S')):D b S S':=by
 unfold dF at h
 split at h
 ·cases h
 ·split at h
  ·cases h;exact D.refl S
  ·cases h
 ·split at h
  ·cases h
  ·rename_i hv
   split at h
   ·cases h;exact yX hb hf hv rfl
   ·cases h
  ·rename_i hv
   split at h
   ·cases h;exact yX hb hf hv rfl
   ·cases h
  ·split at h
   ·cases h
   ·rename_i hc
    split at h
    ·cases h;exact hC _ _ _ _ _ hc b hb
    ·cases h
theorem aHx {C:Call} (hC:mF C) {n:Nat} {ops:Array Oper}:∀ (l:List Oper) {e e':cG} {S S':St},b≤S.next→jO P C n ops l e S=.ok (e',S')→D b S S'
 | [],e,e',S,S',hb,h=>by cases h;exact D.refl S
 | o::l,e,e',S,S',hb,h=>by
  simp only [jO] at h
  split at h
  ·rename_i hs
   have h1:=aHw hC hb (fun _ h=>by cases h) hs
   exact h1.trans (aHx hC l (Nat.le_trans hb h1.next) h)
  ·cases h
theorem aHy {C:Call} (hC:mF C) {n:Nat} {ops:Array Oper} {base:Nat} (hbb:b≤base):∀ (l:List dN) {recs:List sN} {e e':cG} {S S':St},b≤S.next→jP P C n ops base l recs e S=.ok (e',S')→D b S S'
 | [],recs,e,e',S,S',hb,h=>by cases h;exact D.refl S
 | (i,re)::l,recs,e,e',S,S',hb,h=>by
  simp only [jP] at h
  split at h
  ·cases h
  ·split at h
   ·cases h
   ·rename_i hs
    have h1:=aHw hC hb (fun k hk=>by cases hk;omega) hs
    rw [cond_eq_ite] at h
    split at h
    ·exact h1.trans (aHy hC hbb l (Nat.le_trans hb h1.next) h)
    ·cases h
theorem aZ2 {C:Call} (hC:mF C) {n:Nat} {ops:Array Oper} {l:List dN} {e e':cG} (hb:b≤S.next) (h:aIx P C n ops l e S=.ok (e',S')):D b S S':=by
 unfold aIx at h
 have:=aHy hC hb l (S:=⟨S.next+ops.size,S.heap⟩) (Nat.le_trans hb (Nat.le_add_right _ _)) h
 exact ⟨Nat.le_trans (Nat.le_add_right _ _) this.next,this.dead⟩
theorem nP {C:Call} (hC:mF C) {pl:Nat→Option (List dN)} {k n:Nat}:∀ (c:Code) {e e':cG} {x:Ex} {S S':St},b≤S.next→cY P pl C k n c e S=.ok (x,e',S')→D b S S'
 | .skip,e,e',x,S,S',hb,h=>by cases h;exact D.refl S
 | .label _,e,e',x,S,S',hb,h=>by cases h;exact D.refl S
 | .exit id,e,e',x,S,S',hb,h=>by cases h;exact D.refl S
 | .ret,e,e',x,S,S',hb,h=>by cases h;exact D.refl S
 | .region id ops d,e,e',x,S,S',hb,h=>by
  simp only [cY] at h
  split at h
  ·rename_i hr
   cases h
   cases d with
   | true=>exact aZ2 hC hb hr
   | false=>exact aHx hC _ hb hr
  ·cases h
 | .seq a c,e,e',x,S,S',hb,h=>by
  simp only [cY] at h
  split at h
  ·rename_i h1
   have d1:=nP hC a hb h1
   exact d1.trans (nP hC c (Nat.le_trans hb d1.next) h)
  ·exact nP hC a hb h
 | .cond q a c,e,e',x,S,S',hb,h=>by
  simp only [cY] at h
  split at h
  ·exact nP hC a hb h
  ·exact nP hC c hb h
  ·cases h
 | .block id a,e,e',x,S,S',hb,h=>by
  simp only [cY] at h
  split at h
  ·rename_i h1
   have d1:=nP hC a hb h1
   rw [cond_eq_ite] at h
   split at h
   ·cases h;exact d1
   ·cases h;exact d1
  ·exact nP hC a hb h
 | .loop a,e,e',x,S,S',hb,h=>by
  simp only [cY] at h
  have:∀ (m:Nat) (e:cG) (S:St),b≤S.next→iter (cY P pl C k n a) m e S=.ok (x,e',S')→D b S S':=by
   intro m
   induction m with
   | zero=>intro e S _ h;cases h
   | succ m ih=>
    intro e S hb h
    simp only [iter] at h
    split at h
    ·rename_i h1
     have d1:=nP hC a hb h1
     exact d1.trans (ih _ _ (Nat.le_trans hb d1.next) h)
    ·exact nP hC a hb h
  exact this k e S hb h
 | .scope _,e,e',x,S,S',hb,h=>by cases h
 | .rangeFunc ..,e,e',x,S,S',hb,h=>by cases h
 | .goto _,e,e',x,S,S',hb,h=>by cases h
 | .refuse _,e,e',x,S,S',hb,h=>by cases h
def aDp (pl:eX):Prop:=∀ f g,pl f=some (.spec g)→∀ args S v S',g args S=.ok (v,S')→∀ b,b≤S.next→D b S S'
theorem aSo {C:Call} (hC:mF C) {k:Nat} {p:Nat→Option (List dN)} {f:FuncId} {args:List V} {v:V} (hb:b≤S.next) (h:jM P C k p f args S=.ok (v,S')):D b S S':=by
 unfold jM at h
 split at h
 ·cases h
 ·split at h
  ·cases h
  ·rw [cond_eq_ite] at h
   split at h
   ·split at h
    ·cases h
    ·cases h
    ·rename_i he
     split at h
     ·cases h;exact nP hC _ hb he
     ·cases h
   ·cases h
theorem aZ3 {run:List V→St→R (V×St)} {args:List V} {v:V} (h:qE run args S=.ok (v,S')):D b S S':=by
 unfold qE at h
 split at h
 ·cases h
 split at h
 ·cases h
 rename_i rows hrows
 rw [cond_eq_ite] at h
 split at h
 ·cases h
 split at h
 ·cases h
 split at h
 ·cases h
 split at h
 ·cases h
 rw [cond_eq_ite] at h
 split at h
 ·cases h
 obtain ⟨_,rfl⟩:=Prod.mk.inj (Except.ok.inj h)
 refine ⟨Nat.le_refl _,fun a _ ha=>?_⟩
 have hn:¬ a∈dW (ptrsVs args):=fun hc=>by
  obtain ⟨k,hk⟩:=List.mem_iff_getElem?.1 hc
  obtain ⟨_,_,_,_,h1,_⟩:=(mC hrows).2 k a hk
  rw [ha] at h1;cases h1
 show (mS _ _ _).get a=none
 rw [jT _ _ _ _ hn,cond_eq_ite]
 split
 ·exact ha
 ·rw [nX,ha,ite_self]
theorem aZ4 {mask:List Nat} {run:List V→St→R (V×St)} {args:List V} {v:V} (hb:b≤S.next) (h:aGw mask run args S=.ok (v,S')):D b S S':=by
 unfold aGw at h
 split at h
 ·cases h
 split at h
 ·cases h
 split at h
 ·cases h
 rename_i r _
 split at h
 ·cases h
 split at h
 ·cases h
 rw [cond_eq_ite] at h
 split at h
 ·obtain ⟨_,rfl⟩:=Prod.mk.inj (Except.ok.inj h)
  refine ⟨Nat.le_add_right _ _,fun a hab ha=>?_⟩
  show (mS _ _ _).get a=none
  rw [jT _ _ _ _ (fun hc=>by have:=(vM.1 hc).1;omega),nX,ha,ite_self]
 ·cases h
theorem aLq {pl:eX} (hp:aDp pl):∀ k,mF (eA P pl k)
 | 0=>fun _ _ _ _ _ h=>by cases h
 | k+1=>by
  intro f args S v S' h b hb
  simp only [eA] at h
  split at h
  ·cases h
  ·rename_i g hg
   exact hp f g hg args S v S' h b hb
  ·exact aSo (aLq hp k) hb h
  ·exact aZ3 h
  ·exact aZ4 hb h
end
end Go.AM
namespace Go.AM
theorem Does.dead {P:Program} {pl:eX} {lv:lF} (hp:aDp pl) {f:FuncId} {args:List V} {S:St} {Q:V→St→Prop} (h:Does P pl lv f args S Q):Does P pl lv f args S fun v S'=>Q v S'∧D S.next S S':=by
 obtain ⟨v,S',N,q,h⟩:=h
 obtain ⟨v1,S1,h1,h2⟩:=mE N f args S (fun v S=>some (v,S)) (v,S') (h N _ (Nat.le_refl _))
 cases h2
 exact ⟨v,S',N,⟨q,aLq hp N f args S v S' h1 S.next (Nat.le_refl _)⟩,h⟩
end Go.AM
end
section
namespace Go.AM
section
section
variable {P:Program} {pl:eX} {lv:lF}
def Gives (P:Program) (pl:eX) (lv:lF) (f:FuncId) (args:List V) (S:St) (v:V):Prop:=Does P pl lv f args S fun w S'=>w=v∧Ext S S'
theorem Gives.call {f:FuncId} {args:List V} {S:St} {v:V} (h:Gives P pl lv f args S v) {G:Nat→KS→V→St→An} {R:V→St→Prop} (k:∀ S',Ext S S'→Ok (fun k K=>G k K v S') R):
  Ok (fun k K=>nY P pl lv k f args S (fun v S=>G k K v S)) R:=Does.call h fun w S' ⟨e,x⟩=>by subst e;exact k S' x
theorem Gives.get {f:FuncId} {args:List V} {S:St} {v:V} (h:Gives P pl lv f args S v):∃ N S',Ext S S'∧∀ k K,N≤k→nY P pl lv k f args S K=K v S':=by
 obtain ⟨w,S',N,⟨rfl,x⟩,h⟩:=h
 exact ⟨N,S',x,h⟩
end
theorem Sl.one {S:St} {n:Nat} {v:V} {es:List (List V)} (h:Sl S n v es):v.one=true:=by
 rcases h.is with ⟨rfl,_⟩ | rfl | ⟨a,ver,off,elems,rfl,_⟩<;>rfl
structure But (a:Nat) (S S':St):Prop where
 old:∀ y b,y≠a→S.heap.get y=some b→S'.heap.get y=some b
 next:S.next≤S'.next
 wf:WF S→WF S'
theorem But.of {a:Nat} {S S':St} (x:Ext S S'):But a S S':=⟨fun y b _ h=>x.old y b h,x.next,x.wf⟩
theorem But.trans {a:Nat} {A B C:St} (h:But a A B) (k:But a B C):But a A C:=⟨fun y b hy q=>k.old y b hy (h.old y b hy q),Nat.le_trans h.next k.next,fun w=>k.wf (h.wf w)⟩
theorem But.put {a:Nat} {S:St} (ha:a<S.next) (b:Blk):But a S ⟨S.next,S.heap.put a b⟩:=by
 refine ⟨fun y c hy h=>?_,Nat.le_refl _,fun w y c hc=>?_⟩
 ·show (S.heap.put a b).get y=some c
  rw [Tr.get_put_neB _ _ _ _ trivial hy];exact h
 ·have hc':(S.heap.put a b).get y=some c:=hc
  rw [Tr.get_putB _ _ _ _ trivial] at hc'
  split at hc'
  ·show y<S.next;omega
  ·exact w y c hc'
theorem But.ext {a:Nat} {S0 S S':St} (w:WF S0) (x:Ext S0 S) (ha:S0.next≤a) (h:But a S S'):Ext S0 S':=
 ⟨fun y b hy=>h.old y b (by have:=w y b hy;omega) (x.old y b hy),Nat.le_trans x.next h.next,fun w=>h.wf (x.wf w)⟩
def blkOf:V→Option Nat
 | .sl a _ _ _ _=>some a
 | _=>none
theorem gO {S0 S:St} {n:Nat} {v:V} {es:List (List V)} (h:Own S0 S n v es) {y:Nat} (hy:blkOf v=some y):S0.next≤y∧y<S.next:=by
 rcases h.is with ⟨e1,_⟩ | ⟨a,ver,tl,e1,e2,e3,_⟩
 ·rw [e1] at hy;cases hy
 ·rw [e1] at hy;cases hy;exact ⟨e2,e3⟩
theorem Own.same {S0 S S':St} {n:Nat} {v:V} {es:List (List V)} (h:Own S0 S n v es) (hn:S.next≤S'.next) (hg:∀ a,blkOf v=some a→S'.heap.get a=S.heap.get a):Own S0 S' n v es:=
 h.other hn fun a ver m hv=>hg a (by rw [hv];rfl)
theorem Own.pushAt {S0 S:St} {n b:Nat} {v:V} {es:List (List V)} (h:Own S0 S n v es) (x:Ext S0 S) (w:WF S0) {u:V} {cs:List (List V)} (hu:bX S u=.ok cs) (hc:∀ c,c∈cs→c.length=n∧aN c=true) (hne:cs≠[])
  {k:Nat} (hk:S0.next≤k) (hk2:k<S.next) (hk3:S.heap.get k=none)
  (h1:(es.length+cs.length)*b≤35184372088832) (h2:es.length+cs.length<fK):∃ v' S',dL n b v u (some k) S=.ok (v',S')∧Ext S0 S'∧S'.next=S.next∧Own S0 S' n v' (es++cs)∧(blkOf v'=some k∨blkOf v'=blkOf v)∧∀ y,y≠k→blkOf v≠some y→S'.heap.get y=S.heap.get y:=by
 obtain ⟨a1,a2⟩:=eG hc
 have hlen:∀ c,c∈es++cs→c.length=n∧aN c=true:=fun c hm=>(List.mem_append.1 hm).elim (h.len c) (hc c)
 rcases h.is with ⟨rfl,rfl⟩ | ⟨a,ver,tl,rfl,q1,q2,q3⟩
 ·cases cs with
  | nil=>exact absurd rfl hne
  | cons c cs=>
   refine ⟨.sl k 0 n 0 (c::cs).length,⟨S.next,S.heap.put k (.row 0 n (c::cs))⟩,?_,x.trans (Ext.newAt hk3 hk2 _),rfl,⟨.inr ⟨k,0,[],rfl,hk,hk2,?_⟩,hlen⟩,.inl rfl,fun y hy _=>Tr.get_put_neB _ _ _ _ trivial hy⟩
   ·simp only [List.length_nil,Nat.zero_add] at h1 h2
    simp only [dL,hu,a1,a2,and_self,if_true,h1,h2,lQ]
   ·rw [List.append_nil];exact Tr.get_put_sameB _ _ _ trivial
 ·have hb:0+es.length≤es.length+tl.length:=by omega
  refine ⟨.sl a (ver+1) n 0 (es++cs).length,⟨S.next,S.heap.put a (.row (ver+1) n (es++cs))⟩,?_,x.set q1 q2 w _,rfl,⟨.inr ⟨a,ver+1,[],rfl,q1,q2,?_⟩,hlen⟩,.inr rfl,fun y _ hy=>Tr.get_put_neB _ _ _ _ trivial (fun e=>hy (by rw [e];rfl))⟩
  ·simp only [dL,hu,a1,a2,and_self,if_true,fN q3,hb,h1,h2,List.drop_zero,List.take_left',List.length_append]
  ·rw [List.append_nil];exact Tr.get_put_sameB _ _ _ trivial
theorem Sl.but {a ver m n:Nat} {el:List (List V)} {S S':St} {v:V} {es:List (List V)} (h:Sl S n v es) (b:∀ y c,y≠a→S.heap.get y=some c→S'.heap.get y=some c) (hr:S.heap.get a=some (.row ver m el)) (hne:m≠n):Sl S' n v es:=by
 refine ⟨?_,h.len⟩
 rcases h.is with h1 | h1 | ⟨a',ver',off,elems,h1,h2,h3⟩
 ·exact .inl h1
 ·exact .inr (.inl h1)
 ·have h4:=sA h2
  refine .inr (.inr ⟨a',ver',off,elems,h1,fN (b a' _ (fun e=>?_) h4),h3⟩)
  rw [e,hr] at h4
  exact hne (by cases h4;rfl)
theorem Own.but {a ver m n:Nat} {el:List (List V)} {S0 S S':St} {v:V} {es:List (List V)} (h:Own S0 S n v es) (b:∀ y c,y≠a→S.heap.get y=some c→S'.heap.get y=some c) (hn:S.next≤S'.next) (hr:S.heap.get a=some (.row ver m el)) (hne:m≠n):Own S0 S' n v es:=by
 refine ⟨?_,h.len⟩
 rcases h.is with h1 | ⟨a',ver',tl,h1,h2,h3,h4⟩
 ·exact .inl h1
 ·refine .inr ⟨a',ver',tl,h1,h2,Nat.lt_of_lt_of_le h3 hn,b a' _ (fun e=>?_) h4⟩
  rw [e,hr] at h4
  exact hne (by cases h4;rfl)
theorem Own.beq {S0 S:St} {n:Nat} {v:V} {es:List (List V)} (h:Own S0 S n v es):dP v v=true:=by
 rcases h.is with ⟨rfl,_⟩ | ⟨a',ver',tl,rfl,_⟩
 ·rfl
 ·simp [dP]
theorem nb {S:St} (w:WF S) (n:Nat) (cs:List V):∃ S1,aJ none S (.row 0 n [cs])=.ok (S.next,S1)∧Ext S S1∧S1.heap.get S.next=some (.row 0 n [cs])∧S1.next=S.next+1:=
 ⟨_,fL ..,Ext.new w _,Tr.get_put_sameB _ _ _ trivial,rfl⟩
theorem vb {S:St} (w:WF S) (n:Nat) (zs:List V) (x:V) (hz:zs.length=n) (hx:x.cells.length=n) (ho:aN x.cells=true):
  ∃ S1 S2,aJ none S (.row 0 n [zs])=.ok (S.next,S1)∧aV n (.ptr S.next 0 0 0) x S1=.ok S2∧Ext S S2∧S2.heap.get S.next=some (.row 0 n [x.cells])∧S2.next=S.next+1:=
 ⟨_,_,fL ..,aDm S n zs x hz hx ho,Ext.var w n zs x.cells,sA (aLp S n zs x.cells),rfl⟩
abbrev Ag:=List V→St→An
inductive Turn (X:Type) where
 | stop (x:X) (S:St)
 | next (vs:List V) (S:St)
def Turn.run {X:Type} (out:Nat→KS→X→St→An) (k:Nat) (K:KS) (aP:Ag):Turn X→An
 | .stop x S=>out k K x S
 | .next vs S=>aP vs S
def OkL {X:Type} (out:Nat→KS→X→St→An) (g:Nat→KS→Ag→An) (Q:Turn X→Prop):Prop:=∃ o N,Q o∧∀ k K aP,N≤k→g k K aP=o.run out k K aP
theorem OkL.stop {X:Type} {out:Nat→KS→X→St→An} {Q:Turn X→Prop} {g:Nat→KS→Ag→An} (x:X) {S:St} (h:Q (.stop x S)) (he:∀ k K aP,g k K aP=out k K x S:=by intros;rfl):OkL out g Q:=⟨_,0,h,fun k K aP _=>he k K aP⟩
theorem OkL.next {X:Type} {out:Nat→KS→X→St→An} {Q:Turn X→Prop} {vs:List V} {S:St} (h:Q (.next vs S)):OkL out (fun _ _ aP=>aP vs S) Q:=⟨_,0,h,fun _ _ _ _=>rfl⟩
theorem OkL.pick {X:Type} {out:Nat→KS→X→St→An} {Q:Turn X→Prop} {b:Bool} {g g':Nat→KS→Ag→An} (h:b=true→OkL out g Q) (h':b=false→OkL out g' Q):OkL out (fun k K aP=>aDg (.bool b) (g k K aP) (g' k K aP)) Q:=by
 cases b with
 | true=>exact h rfl
 | false=>exact h' rfl
theorem OkL.call {P:Program} {pl:eX} {lv:lF} {X:Type} {out:Nat→KS→X→St→An} {Q:Turn X→Prop} {f:FuncId} {args:List V} {S:St} {R:V→St→Prop} (h:Does P pl lv f args S R) {G:Nat→KS→Ag→V→St→An} (k:∀ v S,R v S→OkL out (fun k K aP=>G k K aP v S) Q):
  OkL out (fun k K aP=>nY P pl lv k f args S (fun v S=>G k K aP v S)) Q:=by
 obtain ⟨v,S',N,q,h⟩:=h
 obtain ⟨o,M,q2,h2⟩:=k v S' q
 exact ⟨o,max N M,q2,fun k K aP hk=>(h k (fun v S=>G k K aP v S) (by omega)).trans (h2 k K aP (by omega))⟩
theorem OkL.loop {X:Type} {out:Nat→KS→X→St→An} {Q:Turn X→Prop} {σ ρ α Y:Type} {F:Nat→KS→Ag→List V→St→Ag→An} {out2:Nat→KS→Ag→Y→St→An} (all:List α) {step:σ→α→ρ⊕σ} {fin:σ→ρ} (Inv:Nat→σ→List V→St→Prop) (Post:ρ→Y→St→Prop)
  (hstep:∀ i a s vs S,Inv i s vs S→all[i]?=some a→∃ N,(∃ r y S',step s a=.inl r∧Post r y S'∧∀ k K ag aP,N≤k→F k K ag vs S aP=out2 k K ag y S')∨(∃ s' vs' S',step s a=.inr s'∧Inv (i+1) s' vs' S'∧∀ k K ag aP,N≤k→F k K ag vs S aP=aP vs' S'))
  (hend:∀ s vs S,Inv all.length s vs S→∃ N y S',Post (fin s) y S'∧∀ k K ag aP,N≤k→F k K ag vs S aP=out2 k K ag y S')
  {s:σ} {vs:List V} {S:St} (hI:Inv 0 s vs S) (hout:∀ y S',Post (aO step fin all s) y S'→OkL out (fun k K ag=>out2 k K ag y S') Q):OkL out (fun k K ag=>sX k vs S (F k K ag)) Q:=by
 obtain ⟨N,y,S',hp,h⟩:=aDn (κ:=KS×Ag) (F:=fun k κ=>F k κ.1 κ.2) (out:=fun k κ=>out2 k κ.1 κ.2) all Inv Post
  (fun i a s vs S h1 h2=>by
   obtain ⟨N,h⟩:=hstep i a s vs S h1 h2
   rcases h with ⟨r,y,S',a1,a2,a3⟩ | ⟨s',vs',S',a1,a2,a3⟩
   ·exact ⟨N,.inl ⟨r,y,S',a1,a2,fun k κ aP hk=>a3 k κ.1 κ.2 aP hk⟩⟩
   ·exact ⟨N,.inr ⟨s',vs',S',a1,a2,fun k κ aP hk=>a3 k κ.1 κ.2 aP hk⟩⟩)
  (fun s vs S h1=>by
   obtain ⟨N,y,S',a1,a2⟩:=hend s vs S h1
   exact ⟨N,y,S',a1,fun k κ aP hk=>a2 k κ.1 κ.2 aP hk⟩) all 0 s vs S rfl (Nat.zero_le _) hI
 obtain ⟨o,M,hq,h2⟩:=hout y S' hp
 refine ⟨o,max N (max M (all.length+1)),hq,fun k K ag hk=>?_⟩
 exact (h k k (K,ag) (by omega) (by omega)).trans (h2 k K ag (by omega))
def Grown (n B:Nat) (T T':St):Prop:=Ext T T'∨∃ a ver el,B≤a∧T.heap.get a=some (.row ver n el)∧But a T T'
theorem Sl.keep {S S':St} {n:Nat} {v:V} {es:List (List V)} (h:Sl S n v es) (hg:∀ y c,blkOf v=some y→S.heap.get y=some c→S'.heap.get y=some c):Sl S' n v es:=by
 refine ⟨?_,h.len⟩
 rcases h.is with h1 | h1 | ⟨a,ver,off,elems,h1,h2,h3⟩
 ·exact .inl h1
 ·exact .inr (.inl h1)
 ·exact .inr (.inr ⟨a,ver,off,elems,h1,fN (hg a _ (by rw [h1];rfl) (sA h2)),h3⟩)
theorem Grown.old {n B:Nat} {T T':St} (g:Grown n B T T') {y:Nat} {c:Blk} (h:T.heap.get y=some c) (hc:y<B∨∀ ver el,c≠.row ver n el):T'.heap.get y=some c:=by
 rcases g with x | ⟨a,ver,el,ha,hr,b⟩
 ·exact x.old _ _ h
 ·refine b.old _ _ (fun e=>?_) h
  subst e
  rcases hc with hc | hc
  ·omega
  ·rw [h] at hr;cases hr;exact hc _ _ rfl
theorem Grown.sl {n B m:Nat} {T T':St} (g:Grown n B T T') {v:V} {es:List (List V)} (h:Sl T m v es) (hm:m≠n):Sl T' m v es:=by
 rcases g with x | ⟨a,ver,el,ha,hr,b⟩
 ·exact h.ext x
 ·exact h.but b.old hr (Ne.symm hm)
mutual
theorem xN:∀ v:V,dP v v=true
 | .bool b=>by simp [dP]
 | .int k n=>by simp [dP,dC]
 | .str s=>by rw [dP];rw [dJ];simp
 | .nilp=>rfl
 | .ptr a b c d=>by simp [dP]
 | .iptr a b=>by simp [dP,beqVs_refl a]
 | .nils=>rfl
 | .sl a b c d f=>by simp [dP]
 | .imm a=>by simp [dP,beqVss_refl a]
 | .agg a=>by simp [dP,beqVs_refl a]
 | .tup a=>by simp [dP,beqVs_refl a]
 | .nili=>rfl
 | .iface t a=>by simp [dP,xN a]
 | .nilf=>rfl
 | .func f a b=>by simp [dP,beqVs_refl a,beqVs_refl b]
 | .nilm=>rfl
 | .mp a=>by simp [dP]
 | .res a b=>by simp [dP]
theorem beqVs_refl:∀ l:List V,beqVs l l=true
 | []=>rfl
 | a::l=>by simp [beqVs,xN a,beqVs_refl l]
theorem beqVss_refl:∀ l:List (List V),beqVss l l=true
 | []=>rfl
 | a::l=>by simp [beqVss,beqVs_refl a,beqVss_refl l]
end
theorem Sl.many {S:St} {n a:Nat} {cs:List (List V)} (h:S.heap.get a=some (.row 0 n cs)) (hc:∀ c,c∈cs→c.length=n∧aN c=true):Sl S n (.sl a 0 n 0 cs.length) cs:=
 ⟨.inr (.inr ⟨a,0,0,cs,rfl,fN h,by simp,by simp⟩),hc⟩
end
section
mutual
def xO:V→Bool
 | .ptr _ _ _ _=>false
 | .nils=>false
 | .sl _ _ _ _ _=>false
 | .agg cs=>cloVs cs
 | .tup cs=>cloVs cs
 | .iface _ v=>xO v
 | .func _ a b=>cloVs a&&cloVs b
 | .mp _=>false
 | _=>true
def cloVs:List V→Bool
 | []=>true
 | v::l=>xO v&&cloVs l
end
mutual
theorem pJ {ρ:Nat→Option Nat} {σ:V→R V}:∀ (v:V),xO v=true→dQ ρ σ v=.ok v
 | .bool _,_ | .int _ _,_ | .str _,_ | .nilp,_ | .iptr _ _,_ | .imm _,_ | .nili,_ | .nilf,_ | .nilm,_ | .res _ _,_=>rfl
 | .agg cs,h=>by simp only [dQ,clo_frzs cs h]
 | .tup cs,h=>by simp only [dQ,clo_frzs cs h]
 | .iface t v,h=>by simp only [dQ,pJ v h]
 | .func f a b,h=>by
  simp only [xO,Bool.and_eq_true] at h
  simp only [dQ,clo_frzs a h.1,clo_frzs b h.2]
theorem clo_frzs {ρ:Nat→Option Nat} {σ:V→R V}:∀ (l:List V),cloVs l=true→frzVs ρ σ l=.ok l
 | [],_=>rfl
 | v::l,h=>by
  simp only [cloVs,Bool.and_eq_true] at h
  simp only [frzVs,pJ v h.1,clo_frzs l h.2]
end
mutual
theorem vS:∀ (v:V),xO v=true→qJ v=[]
 | .bool _,_ | .int _ _,_ | .str _,_ | .nilp,_ | .iptr _ _,_ | .imm _,_ | .nili,_ | .nilf,_ | .nilm,_ | .res _ _,_=>rfl
 | .agg cs,h=>clo_ptrs cs h
 | .tup cs,h=>clo_ptrs cs h
 | .iface t v,h=>vS v h
 | .func f a b,h=>by
  simp only [xO,Bool.and_eq_true] at h
  simp only [qJ,clo_ptrs a h.1,clo_ptrs b h.2,List.append_nil]
theorem clo_ptrs:∀ (l:List V),cloVs l=true→ptrsVs l=[]
 | [],_=>rfl
 | v::l,h=>by
  simp only [cloVs,Bool.and_eq_true] at h
  simp only [ptrsVs,vS v h.1,clo_ptrs l h.2,List.append_nil]
end
mutual
theorem aF7 {τ:V→List Nat}:∀ (v:V),xO v=true→gJ τ v=[]
 | .bool _,_ | .int _ _,_ | .str _,_ | .nilp,_ | .iptr _ _,_ | .imm _,_ | .nili,_ | .nilf,_ | .nilm,_ | .res _ _,_=>rfl
 | .agg cs,h=>clo_sls cs h
 | .tup cs,h=>clo_sls cs h
 | .iface t v,h=>aF7 v h
 | .func f a b,h=>by
  simp only [xO,Bool.and_eq_true] at h
  simp only [gJ,clo_sls a h.1,clo_sls b h.2,List.append_nil]
theorem clo_sls {τ:V→List Nat}:∀ (l:List V),cloVs l=true→slsVs τ l=[]
 | [],_=>rfl
 | v::l,h=>by
  simp only [cloVs,Bool.and_eq_true] at h
  simp only [slsVs,aF7 v h.1,clo_sls l h.2,List.append_nil]
end
theorem aBj:aAt []=mQ:=by funext i;cases i<;>rfl
theorem qX (l:List Nat):(l.any fun a=>Nat.blt a 0)=false:=by
 rw [List.any_eq_false]
 intro a _
 simp
def cC (S:St) (v:V):R V:=dQ mQ (qD (lE S 3) S) v
theorem aPl {run:List V→St→R (V×St)} {args:List V} (hc:cloVs args=true) {S S0:St} {v0 v:V} (h:run args ⟨0,.nil⟩=.ok (v0,S0)) (ho:cC S0 v0=.ok v):qE run args S=.ok (v,S):=by
 unfold qE
 have h1:dW (ptrsVs args)=[]:=by rw [clo_ptrs args hc];rfl
 have h2:slsVs (lK (iL S 3) S) args=[]:=clo_sls args hc
 have ho':dQ (aAt []) (qD (lE S0 3) S0) v0=.ok v:=by rw [aBj];exact ho
 rw [h1,h2]
 simp only [clo_frzs args hc,iB,dS,List.append_nil,List.any_nil,cond_false,List.length_nil,tJ,h,ho',qG,qX]
 cases iX v&&qK []<;>rfl
section
variable {P:Program} {pl:eX}
def W (P:Program) (pl:eX):aD:=fun f args S K=>∃ v S',Evt (fun k=>eA P pl k f args S) (v,S')∧K v S'
theorem aSp:mZ (eA P pl) (W P pl):=fun f args S K h=>h
theorem aPm {f:FuncId} {args:List V} {S S':St} {v:V} (h:Evt (fun k=>eA P pl k f args S) (v,S')) (K:KW):W P pl f args S K=K v S':=by
 refine propext ⟨?_,fun h1=>⟨v,S',h,h1⟩⟩
 rintro ⟨v1,S1,h1,h2⟩
 cases h.eq h1
 exact h2
theorem qY {f:FuncId} {args:List V} {S:St} {r:V×St} (h:Evt (fun k=>eA P pl (k+1) f args S) r):Evt (fun k=>eA P pl k f args S) r:=by
 obtain ⟨N,h⟩:=h
 refine ⟨N+1,fun k hk=>?_⟩
 obtain ⟨k,rfl⟩:∃ m,k=m+1:=⟨k - 1,by omega⟩
 exact h k (by omega)
theorem lA {f:FuncId} {p:Nat→Option (List dN)} (hpl:pl f=some (.code p)) {lv:Nat→List Nat} {args:List V} {S:St} {K:KW} (h:aM P (W P pl) p lv f args S K):W P pl f args S K:=by
 obtain ⟨v,S',h1,h2⟩:=pI aSp h
 exact ⟨v,S',qY (h1.one fun k h1=>by simp only [eA,hpl];exact h1),h2⟩
theorem aPn {f:FuncId} {g:List V→St→R (V×St)} (hpl:pl f=some (.spec g)) {args:List V} {S S':St} {v:V} (h:g args S=.ok (v,S')) (K:KW):W P pl f args S K=K v S':=
 aPm (qY (.of fun k=>by simp only [eA,hpl,h])) K
def Fn (P:Program) (pl:eX) (f:FuncId) (args:List V) (v:V):Prop:=∀ S,Evt (fun k=>eA P pl k f args S) (v,S)
theorem Fn.eq {f:FuncId} {args:List V} {v:V} (h:Fn P pl f args v) (S:St) (K:KW):W P pl f args S K=K v S:=aPm (h S) K
theorem Fn.of {f:FuncId} {p:Nat→Option (List dN)} (hpl:pl f=some (.val p)) {lv:Nat→List Nat} {args:List V} {v:V} (hc:cloVs args=true)
  (h:aM P (W P pl) p lv f args ⟨0,.nil⟩ fun v0 S0=>cC S0 v0=.ok v):Fn P pl f args v:=by
 obtain ⟨v0,S0,h1,h2⟩:=pI aSp h
 exact fun S=>qY (h1.one fun k h1=>by simp only [eA,hpl];exact aPl hc h1 h2)
structure Pt (mk:Nat→List V):Prop where
 ptr:∀ a,dW (ptrsVs (mk a))=[a]
 frz:∀ a σ,frzVs (fun b=>pA b 0 [a]) σ (mk a)=.ok (mk 0)
 sls:∀ a τ,slsVs τ (mk a)=[]
theorem Pt.head {ver i j:Nat} {args:List V} (hc:cloVs args=true):Pt fun a=>.ptr a ver i j::args:=
 ⟨fun a=>by simp only [ptrsVs,qJ,clo_ptrs args hc];rfl,fun a σ=>by simp only [frzVs,dQ,pA,Nat.beq_refl,cond_true,clo_frzs args hc],fun a τ=>by simp only [slsVs,gJ,clo_sls args hc,List.append_nil]⟩
theorem Pt.next {v:V} {mk:Nat→List V} (hv:xO v=true) (h:Pt mk):Pt fun a=>v::mk a:=
 ⟨fun a=>by simp only [ptrsVs,vS v hv,List.nil_append];exact h.ptr a,fun a σ=>by simp only [frzVs,pJ v hv,h.frz],fun a τ=>by simp only [slsVs,aF7 v hv,h.sls,List.append_nil]⟩
theorem Pt.func {f:FuncId} {ver i j:Nat} {args:List V} (hc:cloVs args=true):Pt fun a=>.func f [] [.ptr a ver i j]::args:=
 ⟨fun a=>by simp only [ptrsVs,qJ,clo_ptrs args hc];rfl,fun a σ=>by simp only [frzVs,dQ,pA,Nat.beq_refl,cond_true,clo_frzs args hc],fun a τ=>by simp only [slsVs,gJ,clo_sls args hc,List.append_nil]⟩
def FnR (P:Program) (pl:eX) (f:FuncId) (mk:Nat→List V) (ver n:Nat) (pre:List (List V)) (v:V) (post:List (List V)):Prop:=
 ∀ S a,S.heap.get a=some (.row ver n pre)→Evt (fun k=>eA P pl k f (mk a) S) (v,⟨S.next,S.heap.put a (.row ver n post)⟩)
theorem aLr {φ:List V→R (List V)}:∀ {l:List (List V)},(∀ x,x∈l→φ x=.ok x)→mP φ l=.ok l
 | [],_=>rfl
 | x::l,h=>by simp only [mP,h x (List.mem_cons_self ..),aLr fun y hy=>h y (List.mem_cons_of_mem _ hy)]
theorem aHz {φ:List V→List Nat}:∀ {l:List (List V)},(∀ x,x∈l→φ x=[])→mR φ l=[]
 | [],_=>rfl
 | x::l,h=>by simp only [mR,h x (List.mem_cons_self ..),aHz fun y hy=>h y (List.mem_cons_of_mem _ hy),List.append_nil]
theorem aSq {S:St} {n:Nat} {x:List V} (h:cloVs x=true):lE S (n+1) x=.ok x:=clo_frzs x h
theorem aSr {S:St} {n:Nat} {x:List V} (h:cloVs x=true):iL S (n+1) x=[]:=clo_sls x h
theorem oG {S:St} {n:Nat} {l:List (List V)} (h:l.all cloVs=true):mP (lE S (n+1)) l=.ok l∧mR (iL S (n+1)) l=[]:=
 ⟨aLr fun x hx=>aSq (List.all_eq_true.1 h x hx),aHz fun x hx=>aSr (List.all_eq_true.1 h x hx)⟩
theorem aPo {run:List V→St→R (V×St)} {mk:Nat→List V} (hm:Pt mk) {a ver n:Nat} {pre post post0:List (List V)} (hp:pre.all cloVs=true) {S S0:St} {v0 v:V} (hS:S.heap.get a=some (.row ver n pre))
  (h:run (mk 0) ⟨1,Tr.nil.put 0 (.row ver n pre)⟩=.ok (v0,S0)) (ho:∀ ρ,dQ ρ (qD (lE S0 3) S0) v0=.ok v) (hs:(gJ (lK (iL S0 3) S0) v0).any (fun a=>Nat.blt a 1)=false) (h0:S0.heap.get 0=some (.row ver n post0)) (hq:mP (lE S0 3) post0=.ok post)
  (hs2:(mR (iL S0 3) post0).any (fun a=>Nat.blt a 1)=false):qE run (mk a) S=.ok (v,⟨S.next,S.heap.put a (.row ver n post)⟩):=by
 unfold qE
 obtain ⟨q1,q2⟩:=oG (S:=S) (n:=2) hp
 rw [hm.ptr,hm.sls]
 have hA:([]++dS S [a])=[]:=by simp only [dS,hS,q2,List.append_nil]
 have hB:(gJ (lK (iL S0 3) S0) v0++dS S0 (qG 0 1)).any (fun a=>Nat.blt a 1)=false:=by
  simp only [qG,dS,h0,List.append_nil,List.any_append,hs,hs2,Bool.or_false]
 rw [hA]
 simp only [hm.frz,iB,hS,q1,List.any_nil,cond_false,List.length_cons,List.length_nil,Nat.zero_add,tJ,h,ho,hB,mS]
 have:iB S0 (qG 0 1)=.ok [(ver,n,post)]:=by simp only [qG,iB,h0,hq]
 rw [this]
 simp only [pB,mS]
 cases iX v&&qK [(ver,n,post)]<;>rfl
theorem FnR.of {f:FuncId} {p:Nat→Option (List dN)} (hpl:pl f=some (.val p)) {lv:Nat→List Nat} {mk:Nat→List V} (hm:Pt mk) {ver n:Nat} {pre post:List (List V)} {v:V} (hp:pre.all cloVs=true)
  (h:aM P (W P pl) p lv f (mk 0) ⟨1,Tr.nil.put 0 (.row ver n pre)⟩ fun v0 S0=>v0=v∧S0.heap.get 0=some (.row ver n post)) (hv:xO v=true) (hq:post.all cloVs=true):FnR P pl f mk ver n pre v post:=by
 obtain ⟨v0,S0,h1,rfl,h2⟩:=pI aSp h
 intro S a hS
 obtain ⟨q1,q2⟩:=oG (S:=S0) (n:=2) hq
 refine qY (h1.one fun k h1=>?_)
 simp only [eA,hpl]
 exact aPo hm hp hS h1 (fun ρ=>pJ v0 hv) (by rw [aF7 v0 hv];rfl) h2 q1 (by rw [q2];rfl)
theorem FnR.eq {f:FuncId} {mk:Nat→List V} {ver n:Nat} {pre post:List (List V)} {v:V} (h:FnR P pl f mk ver n pre v post) {S:St} {a:Nat} (hS:S.heap.get a=some (.row ver n pre)) (K:KW):
  W P pl f (mk a) S K=K v ⟨S.next,S.heap.put a (.row ver n post)⟩:=aPm (h S a hS) K
theorem aBk {α:Type}:∀ (f:Nat) (t:Tr α) (n:Nat) (x:α),t.get n=some x→Tr.set f t n x=t
 | 0,t,n,x,_=>rfl
 | f+1,.nil,n,x,h=>by cases h
 | f+1,.node l v r,n,x,h=>by
  rw [Tr.get_node] at h
  simp only [Tr.set,cond_eq_ite,Nat.beq_eq]
  by_cases h0:n=0
  ·rw [if_pos h0] at h ⊢;rw [h]
  ·rw [if_neg h0] at h ⊢
   by_cases h1:n % 2=1
   ·rw [if_pos h1] at h ⊢;rw [aBk f l _ _ h]
   ·rw [if_neg h1] at h ⊢;rw [aBk f r _ _ h]
theorem aPp {t:Tr Blk} {n:Nat} {x:Blk} (h:t.get n=some x):t.put n x=t:=aBk _ t n x h
theorem FnR.eq_same {f:FuncId} {mk:Nat→List V} {ver n:Nat} {pre:List (List V)} {v:V} (h:FnR P pl f mk ver n pre v pre) {S:St} {a:Nat} (hS:S.heap.get a=some (.row ver n pre)) (K:KW):W P pl f (mk a) S K=K v S:=by
 rw [h.eq hS K,aPp hS]
theorem aPq {run:List V→St→R (V×St)} {args bs:List V} {S:St} (hb:frzVs mQ (qD (lE S 3) S) args=.ok bs) (hp:ptrsVs args=[]) {S0:St} {v0 v:V} (h:run bs ⟨0,.nil⟩=.ok (v0,S0)) (ho:cC S0 v0=.ok v)
  (hk:iX v=true∨slsVs (lK (iL S 3) S) args=[]):qE run args S=.ok (v,S):=by
 unfold qE
 have h1:dW (ptrsVs args)=[]:=by rw [hp];rfl
 have ho':dQ (aAt []) (qD (lE S0 3) S0) v0=.ok v:=by rw [aBj];exact ho
 have hi:(fun a=>pA a 0 ([]:List Nat))=mQ:=rfl
 have hh:∀ l:List Nat,(l.any fun a=>iM a [])=false:=by intro l;rw [List.any_eq_false];intro a _;simp [iM]
 rw [h1]
 simp only [hi,hb,iB,dS,hh,cond_false,List.length_nil,tJ,h,ho',qG,qX,List.append_nil]
 rcases hk with hk | hk
 ·rw [hk];rfl
 ·rw [hk]
  cases iX v&&qK []<;>rfl
theorem Fn.frz {f:FuncId} {bs:List V} {v:V} (h:Fn P pl f bs v) {p:Nat→Option (List dN)} (hpl:pl f=some (.val p)) (hc:cloVs bs=true) {args:List V} {S:St} (hb:frzVs mQ (qD (lE S 3) S) args=.ok bs) (hp:ptrsVs args=[]) (hk:iX v=true∨slsVs (lK (iL S 3) S) args=[])
  (K:KW):W P pl f args S K=K v S:=by
 refine aPm ?_ K
 obtain ⟨N,h⟩:=h ⟨0,.nil⟩
 refine ⟨N+1,fun k hk'=>?_⟩
 obtain ⟨k,rfl⟩:∃ m,k=m+1:=⟨k - 1,by omega⟩
 have:=h (k+1) (by omega)
 simp only [eA,hpl] at this ⊢
 unfold qE at this
 have e1:dW (ptrsVs bs)=[]:=by rw [clo_ptrs bs hc];rfl
 have e2:slsVs (lK (iL (⟨0,.nil⟩:St) 3) ⟨0,.nil⟩) bs=[]:=clo_sls bs hc
 rw [e1,e2] at this
 simp only [clo_frzs bs hc,iB,dS,List.append_nil,List.any_nil,cond_false,List.length_nil,tJ,qG,qX] at this
 split at this
 ·cases this
 ·rename_i v0 S0 hrun
  split at this
  ·cases this
  ·rename_i v' hv'
   have hv:v'=v:=(Prod.mk.inj (Except.ok.inj this)).1
   subst hv
   rw [aBj] at hv'
   exact aPq hb hp hrun hv' hk
def pK (mask:List Nat) (v:V) (S2:St) (S:St):R (V×St):=match zR S2 mask 0 S.next v.cells with
 | .error e=>.error e
 | .ok r=>match iB S2 r.2 with
  | .error e=>.error e
  | .ok rows=>match pC v r.1 with
   | .error e=>.error e
   | .ok v'=>bif aD5 r.2&&!(tK S2 mask 0 v.cells++dS S2 r.2).any (fun a=>iM a r.2) then .ok (v',⟨S.next+r.2.length,mS (qG S.next r.2.length) rows S.heap⟩) else .error "blocks"
theorem aYe {f:FuncId} {p:Nat→Option (List dN)} {mask:List Nat} (hpl:pl f=some (.own p mask)) {lv:Nat→List Nat} {args:List V} (hc:cloVs args=true) {S:St} {K:KW}
  (h:aM P (W P pl) p lv f args ⟨0,.nil⟩ fun v0 S0=>wR (pK mask v0 S0 S) fun r=>K r.1 r.2):W P pl f args S K:=by
 obtain ⟨v0,S0,h1,h2⟩:=pI aSp h
 obtain ⟨r,h3,h4⟩:=cI h2
 refine ⟨r.1,r.2,qY (h1.one fun k h1=>?_),h4⟩
 simp only [eA,hpl]
 unfold aGw
 have e2:slsVs (lK (iL S 3) S) args=[]:=clo_sls args hc
 simp only [clo_frzs args hc,h1,e2,pB]
 exact h3
theorem Does.evt {lv:lF} {f:FuncId} {args:List V} {S:St} {Q:V→St→Prop} (h:Does P pl lv f args S Q):∃ v S',Q v S'∧Evt (fun k=>eA P pl k f args S) (v,S'):=by
 obtain ⟨v,S',N,q,h⟩:=h
 refine ⟨v,S',q,N,fun k hk=>?_⟩
 obtain ⟨v1,S1,h1,h2⟩:=mE k f args S (fun v S=>some (v,S)) (v,S') (h k _ hk)
 cases h2
 exact h1
theorem Does.w {lv:lF} {f:FuncId} {args:List V} {S:St} {Q:V→St→Prop} (h:Does P pl lv f args S Q) {K:KW} (k:∀ v S',Q v S'→K v S'):W P pl f args S K:=by
 obtain ⟨v,S',q,e⟩:=h.evt
 exact ⟨v,S',e,k v S' q⟩
theorem Gives.fn {lv:lF} {f:FuncId} {args:List V} {v:V} {S:St} (h:Gives P pl lv f args S v) {K:KW} (k:∀ S',Ext S S'→K v S'):W P pl f args S K:=
 h.w fun w S' ⟨e,x⟩=>by subst e;exact k S' x
theorem aZ5 {f:FuncId} {args:List V} {S:St} {K:KW} (h:W P pl f args S K):∃ k v S',K v S'∧eA P pl k f args S=.ok (v,S'):=by
 obtain ⟨v,S',⟨N,h⟩,k⟩:=h
 exact ⟨N,v,S',k,h N (Nat.le_refl _)⟩
theorem aNg {F:List V→St→(List V→St→Prop)→Prop} (n:Nat) (I:Nat→List V→St→Prop)
  (h:∀ i vs S,i≤n→I i vs S→∀ aP:List V→St→Prop,(∀ vs' S',i<n→I (i+1) vs' S'→aP vs' S')→F vs S aP) {vs:List V} {S:St} (h0:I 0 vs S):cU vs S F:=by
 have:∀ m i vs S,i+m=n→I i vs S→yO (m+1) vs S F:=by
  intro m
  induction m with
  | zero=>intro i vs S hi hI;exact h i vs S (by omega) hI _ fun vs' S' hlt _=>by omega
  | succ m ih=>intro i vs S hi hI;exact h i vs S (by omega) hI _ fun vs' S' hlt hI'=>ih (i+1) vs' S' (by omega) hI'
 exact ⟨n+1,this n 0 vs S (by omega) h0⟩
theorem aY {F:List V→St→(List V→St→Prop)→Prop} {α σ ρ:Type} (l:List α) {step:σ→α→ρ⊕σ} {fin:σ→ρ} (I:Nat→σ→List V→St→Prop) (E:ρ→Prop)
  (hs:∀ i a s vs S,l[i]?=some a→I i s vs S→∀ aP:List V→St→Prop,(match step s a with
   | .inl r=>E r
   | .inr s'=>∀ vs' S',I (i+1) s' vs' S'→aP vs' S')→F vs S aP)
  (he:∀ s vs S,I l.length s vs S→∀ aP:List V→St→Prop,E (fin s)→F vs S aP) {s:σ} {vs:List V} {S:St} (h0:I 0 s vs S) (hE:E (aO step fin l s)):cU vs S F:=by
 refine aNg l.length (fun i vs S=>∃ s,I i s vs S∧E (aO step fin (l.drop i) s)) ?_ ⟨s,h0,hE⟩
 rintro i vs S hi ⟨s,hI,hE⟩ aP ha
 by_cases hl:i=l.length
 ·subst hl
  rw [List.drop_length] at hE
  exact he s vs S hI aP hE
 ·have hlt:i<l.length:=by omega
  have ha':l[i]?=some l[i]:=List.getElem?_eq_getElem hlt
  rw [List.drop_eq_getElem_cons hlt] at hE
  refine hs i _ s vs S ha' hI aP ?_
  simp only [aO] at hE
  split
  ·rename_i r hr
   rw [hr] at hE;exact hE
  ·rename_i s' hr
   rw [hr] at hE
   exact fun vs' S' hI'=>ha vs' S' hlt ⟨s',hI',hE⟩
end
end
end Go.AM
end
section
namespace Go.Proofs.YtoaibmbldmckaaaGreat
open Go.AM Tryz
def dSp:aGx:=[(202,.ins 68),(221,.ins 27),(230,.ins 28),(234,.ins 25),(237,.ins 24),(280,.ins 80),(240,.del 28)]
def aSs:hM:=[
 (3,[]),
 (4,[(4,[(0,[]),(2,[]),(1,[2]),(3,[]),(4,[]),(5,[]),(6,[]),(7,[]),(8,[]),(9,[]),(10,[]),(11,[]),(12,[]),(13,[])])]),
 (5,[(10,[(0,[]),(1,[]),(2,[1]),(3,[])])]),
 (6,[(8,[(0,[]),(2,[]),(1,[2]),(3,[]),(4,[]),(5,[]),(6,[]),(7,[]),(8,[]),(9,[]),(10,[]),(11,[]),(12,[]),(13,[]),(14,[]),(15,[])])]),
 (7,[]),
 (8,[(7,[(1,[]),(2,[]),(3,[]),(4,[]),(6,[]),(7,[]),(8,[]),(9,[]),(10,[]),(0,[]),(5,[7]),(11,[]),(12,[])]),(15,[(0,[]),(1,[0]),(2,[0]),(3,[]),(4,[]),(5,[]),(6,[]),(7,[]),(8,[])])]),
 (9,[]),
 (10,[]),
 (11,[]),
 (12,[]),
 (13,[(2,[(0,[]),(2,[]),(1,[2]),(3,[]),(4,[]),(5,[]),(6,[]),(7,[]),(8,[]),(9,[]),(10,[]),(11,[]),(12,[]),(13,[]),(14,[])])]),
 (14,[]),
 (15,[(5,[(0,[]),(1,[]),(2,[0]),(3,[]),(4,[]),(5,[]),(6,[]),(7,[]),(8,[]),(9,[])]),(6,[(0,[]),(1,[]),(2,[0]),(3,[]),(4,[]),(5,[]),(6,[]),(7,[]),(8,[]),(9,[])])]),
 (16,[(3,[(0,[]),(2,[]),(1,[2]),(3,[]),(4,[]),(5,[])]),(4,[(0,[]),(1,[]),(2,[]),(3,[]),(4,[]),(5,[]),(6,[]),(7,[]),(8,[]),(9,[]),(10,[]),(12,[]),(13,[]),(11,[13,12]),(14,[]),(15,[]),(16,[]),(17,[]),(18,[]),(19,[]),(20,[])])]),
 (17,[(32,[(0,[]),(1,[]),(2,[]),(3,[]),(4,[]),(5,[]),(6,[]),(7,[]),(8,[]),(9,[]),(10,[]),(11,[]),(12,[]),(13,[]),(14,[]),(15,[]),(16,[]),(17,[]),(18,[]),(19,[]),(20,[]),(21,[]),(22,[]),(23,[]),(24,[]),(25,[]),(26,[]),(27,[]),(28,[25,23]),(29,[]),(30,[]),(31,[25,23]),(32,[]),(33,[]),(34,[25]),(35,[]),(36,[]),(37,[])])]),
 (18,[]),
 (19,[]),
 (20,[]),
 (21,[]),
 (22,[]),
 (23,[]),
 (24,[]),
 (25,[(6,[(0,[]),(1,[]),(2,[]),(3,[]),(4,[]),(5,[]),(6,[]),(7,[]),(8,[]),(9,[8]),(10,[]),(11,[]),(12,[]),(13,[]),(14,[]),(15,[]),(16,[]),(17,[]),(18,[]),(19,[]),(20,[]),(21,[]),(22,[]),(23,[]),(24,[])])]),
 (26,[]),
 (27,[]),
 (28,[]),
 (29,[(7,[(0,[]),(1,[]),(2,[]),(3,[]),(4,[]),(5,[]),(6,[]),(8,[]),(9,[]),(10,[]),(11,[]),(12,[]),(13,[]),(15,[]),(16,[]),(17,[]),(18,[]),(19,[]),(20,[]),(7,[20,16,13,9]),(14,[20,16]),(21,[]),(22,[])]),(12,[(0,[]),(1,[]),(2,[]),(3,[]),(4,[]),(5,[]),(6,[]),(8,[]),(9,[]),(10,[]),(11,[]),(12,[]),(13,[]),(15,[]),(16,[]),(17,[]),(18,[]),(19,[]),(20,[]),(7,[20,16,13,9]),(14,[20,16]),(21,[]),(22,[])]),(18,[(0,[]),(1,[]),(2,[]),(3,[]),(5,[]),(6,[]),(4,[6]),(7,[]),(8,[])]),(19,[(0,[]),(1,[]),(2,[]),(3,[]),(5,[]),(6,[]),(7,[]),(4,[7]),(8,[]),(9,[])]),(25,[(0,[]),(1,[]),(2,[]),(4,[]),(5,[]),(7,[]),(8,[]),(3,[8,5]),(6,[8]),(9,[]),(10,[])]),(30,[(0,[]),(1,[]),(2,[]),(3,[]),(4,[]),(5,[]),(6,[]),(8,[]),(9,[]),(10,[]),(11,[]),(12,[]),(13,[]),(15,[]),(16,[]),(17,[]),(18,[]),(19,[]),(20,[]),(7,[20,16,13,9]),(14,[20,16]),(21,[]),(22,[])])]),
 (30,[]),
 (31,[]),
 (32,[]),
 (33,[(3,[(0,[]),(1,[0]),(2,[]),(3,[])]),(5,[(0,[]),(1,[0]),(2,[]),(3,[])]),(10,[(0,[]),(1,[]),(2,[0]),(3,[]),(4,[])]),(12,[(0,[]),(1,[]),(2,[1]),(3,[])]),(17,[(0,[]),(1,[]),(2,[1]),(3,[])])]),
 (34,[(9,[(1,[]),(2,[]),(4,[]),(5,[]),(6,[]),(0,[]),(3,[5]),(7,[]),(8,[]),(9,[]),(10,[])]),(11,[(0,[]),(1,[]),(2,[]),(3,[]),(4,[]),(5,[2]),(6,[])]),(16,[(0,[]),(1,[]),(2,[1]),(3,[])]),(21,[(0,[]),(1,[]),(2,[1]),(3,[])])]),
 (35,[]),
 (36,[]),
 (37,[]),
 (38,[]),
 (39,[]),
 (40,[]),
 (41,[(10,[(0,[]),(1,[]),(3,[]),(2,[3]),(4,[]),(5,[]),(6,[]),(7,[]),(8,[]),(10,[]),(9,[10]),(11,[]),(12,[]),(13,[])]),(19,[(1,[]),(2,[]),(3,[]),(5,[]),(6,[]),(7,[]),(8,[]),(9,[]),(12,[]),(13,[]),(14,[]),(0,[]),(4,[8,6]),(10,[]),(11,[]),(15,[]),(16,[])])]),
 (42,[]),
 (43,[]),
 (44,[(3,[(0,[]),(1,[0]),(2,[0]),(3,[]),(4,[]),(5,[]),(6,[]),(7,[]),(8,[])]),(4,[(0,[]),(1,[0]),(2,[0]),(3,[]),(4,[]),(5,[]),(6,[]),(7,[]),(8,[])])]),
 (45,[]),
 (46,[]),
 (47,[]),
 (48,[]),
 (49,[]),
 (50,[]),
 (51,[]),
 (52,[]),
 (53,[]),
 (54,[(7,[(0,[]),(1,[]),(3,[]),(4,[]),(6,[]),(2,[4]),(5,[]),(7,[]),(8,[]),(9,[]),(10,[])])]),
 (55,[]),
 (56,[]),
 (57,[]),
 (58,[]),
 (59,[]),
 (60,[]),
 (61,[]),
 (62,[]),
 (63,[]),
 (64,[]),
 (65,[]),
 (66,[]),
 (67,[]),
 (68,[]),
 (69,[]),
 (70,[]),
 (71,[]),
 (72,[]),
 (73,[]),
 (74,[]),
 (75,[]),
 (76,[]),
 (77,[]),
 (78,[]),
 (79,[]),
 (80,[]),
 (81,[]),
 (82,[]),
 (83,[]),
 (84,[]),
 (85,[]),
 (86,[]),
 (87,[]),
 (88,[]),
 (89,[]),
 (90,[]),
 (91,[]),
 (92,[]),
 (93,[]),
 (94,[]),
 (95,[]),
 (96,[]),
 (97,[]),
 (98,[(1,[(0,[]),(1,[]),(2,[]),(4,[]),(5,[]),(7,[]),(8,[]),(3,[8,5]),(6,[8]),(9,[]),(10,[])])]),
 (99,[]),
 (100,[]),
 (101,[(1,[(0,[]),(1,[]),(2,[]),(4,[]),(5,[]),(7,[]),(8,[]),(3,[8,5]),(6,[8]),(9,[]),(10,[])])]),
 (102,[(9,[(0,[]),(1,[]),(2,[]),(3,[]),(4,[]),(5,[]),(6,[]),(7,[]),(8,[]),(9,[]),(10,[1]),(11,[]),(12,[]),(13,[]),(14,[])])]),
 (103,[]),
 (104,[(2,[(0,[]),(1,[0]),(2,[]),(3,[])]),(5,[(0,[]),(1,[]),(2,[0]),(3,[]),(4,[])]),(9,[(0,[]),(1,[]),(2,[1]),(3,[])])]),
 (105,[]),
 (106,[]),
 (107,[(8,[(0,[]),(1,[]),(2,[]),(3,[]),(4,[]),(5,[]),(6,[]),(7,[]),(8,[5]),(9,[]),(10,[]),(11,[])])]),
 (108,[(5,[(0,[]),(1,[]),(2,[]),(3,[]),(4,[]),(5,[3]),(6,[]),(7,[])]),(12,[(0,[]),(1,[]),(2,[]),(3,[]),(4,[]),(5,[3]),(6,[]),(7,[])]),(15,[(0,[]),(1,[]),(2,[]),(3,[]),(4,[]),(5,[]),(6,[]),(7,[5,3]),(8,[]),(9,[5]),(10,[]),(11,[])])]),
 (109,[]),
 (110,[(33,[(1,[]),(2,[]),(3,[]),(4,[]),(6,[]),(7,[]),(8,[]),(9,[]),(10,[]),(0,[]),(5,[7]),(11,[]),(12,[]),(13,[])]),(44,[(0,[]),(1,[]),(2,[1]),(3,[])])]),
 (111,[(4,[(0,[]),(1,[]),(2,[]),(3,[]),(4,[]),(5,[]),(6,[]),(7,[]),(8,[5]),(9,[]),(10,[]),(11,[])])]),
 (112,[]),
 (113,[]),
 (114,[]),
 (115,[]),
 (116,[]),
 (117,[]),
 (118,[(1,[(0,[]),(1,[]),(2,[]),(3,[]),(4,[]),(5,[]),(6,[]),(7,[]),(8,[]),(9,[]),(10,[]),(11,[]),(12,[]),(13,[]),(14,[]),(15,[]),(16,[]),(17,[]),(18,[]),(19,[]),(20,[15]),(21,[]),(22,[]),(23,[])])]),
 (119,[]),
 (120,[(19,[(0,[]),(1,[]),(2,[]),(3,[]),(4,[]),(5,[]),(6,[]),(7,[]),(8,[]),(9,[]),(10,[]),(11,[]),(12,[]),(13,[]),(15,[]),(16,[]),(17,[]),(18,[]),(19,[]),(14,[19]),(20,[]),(21,[]),(22,[]),(23,[]),(24,[]),(25,[]),(26,[]),(27,[]),(28,[]),(29,[]),(30,[]),(31,[]),(32,[]),(33,[]),(34,[]),(35,[]),(36,[]),(37,[]),(38,[]),(39,[]),(40,[]),(41,[]),(42,[]),(43,[]),(44,[]),(45,[]),(46,[]),(47,[]),(48,[])])]),
 (121,[]),
 (122,[(11,[(1,[]),(2,[]),(3,[]),(5,[]),(6,[]),(7,[]),(8,[]),(9,[]),(10,[]),(13,[]),(14,[]),(15,[]),(0,[]),(4,[9]),(11,[]),(12,[]),(16,[]),(17,[])])]),
 (123,[(1,[(0,[]),(1,[]),(2,[]),(3,[]),(4,[]),(5,[]),(6,[]),(7,[]),(8,[]),(9,[]),(10,[]),(11,[]),(12,[]),(13,[]),(14,[]),(15,[]),(16,[]),(17,[]),(18,[]),(19,[]),(20,[]),(21,[]),(22,[]),(23,[]),(24,[]),(25,[]),(26,[]),(27,[]),(28,[]),(29,[]),(30,[25]),(31,[]),(32,[]),(33,[])])]),
 (124,[(1,[(0,[]),(1,[]),(2,[]),(3,[]),(4,[]),(5,[]),(6,[]),(7,[]),(9,[]),(8,[9]),(10,[]),(11,[]),(12,[]),(13,[])])]),
 (125,[]),
 (126,[]),
 (127,[]),
 (128,[]),
 (129,[]),
 (130,[]),
 (131,[]),
 (132,[]),
 (133,[]),
 (134,[]),
 (135,[]),
 (136,[]),
 (137,[]),
 (138,[]),
 (139,[]),
 (140,[]),
 (141,[]),
 (142,[(5,[(0,[]),(1,[]),(2,[]),(3,[]),(4,[]),(5,[3]),(6,[]),(7,[])]),(14,[(0,[]),(1,[]),(2,[]),(3,[]),(4,[]),(5,[]),(6,[]),(7,[]),(8,[]),(10,[]),(9,[5,2]),(11,[5]),(12,[]),(13,[]),(14,[]),(15,[])]),(17,[(0,[]),(1,[]),(2,[]),(3,[]),(4,[]),(5,[]),(6,[]),(7,[5,3]),(8,[]),(9,[5]),(10,[]),(11,[])]),(24,[(0,[]),(1,[]),(2,[]),(3,[]),(4,[2]),(5,[])])]),
 (143,[(5,[(0,[]),(1,[]),(2,[]),(3,[]),(4,[]),(5,[4]),(6,[])])]),
 (144,[]),
 (145,[]),
 (146,[]),
 (147,[]),
 (148,[]),
 (149,[]),
 (150,[]),
 (151,[]),
 (152,[]),
 (153,[]),
 (154,[(10,[(0,[]),(1,[]),(2,[]),(3,[]),(4,[]),(7,[]),(8,[]),(9,[]),(10,[]),(11,[]),(5,[]),(6,[11]),(12,[]),(13,[]),(14,[]),(15,[])])]),
 (155,[]),
 (156,[]),
 (157,[]),
 (158,[]),
 (159,[]),
 (160,[]),
 (161,[(5,[(0,[]),(1,[]),(2,[]),(3,[]),(4,[]),(5,[]),(8,[]),(9,[]),(10,[]),(11,[]),(12,[]),(13,[]),(6,[]),(7,[13]),(14,[]),(15,[]),(16,[]),(17,[])])]),
 (162,[]),
 (163,[]),
 (164,[]),
 (165,[]),
 (166,[]),
 (167,[]),
 (168,[]),
 (169,[]),
 (170,[]),
 (171,[]),
 (172,[]),
 (173,[]),
 (174,[]),
 (175,[]),
 (176,[]),
 (177,[]),
 (178,[(17,[(0,[]),(2,[]),(3,[]),(1,[3]),(4,[]),(5,[]),(6,[]),(7,[])])]),
 (179,[]),
 (180,[]),
 (181,[]),
 (182,[]),
 (183,[]),
 (184,[]),
 (185,[]),
 (186,[(14,[(1,[]),(2,[]),(3,[]),(5,[]),(6,[]),(7,[]),(10,[]),(11,[]),(12,[]),(0,[]),(4,[]),(8,[]),(9,[]),(13,[]),(14,[]),(15,[])])]),
 (187,[]),
 (188,[]),
 (189,[(13,[(1,[]),(2,[]),(3,[]),(5,[]),(8,[]),(9,[]),(10,[]),(0,[]),(4,[5]),(6,[]),(7,[]),(11,[]),(12,[]),(13,[])])]),
 (190,[(30,[(1,[]),(2,[]),(3,[]),(4,[]),(6,[]),(7,[]),(8,[]),(9,[]),(12,[]),(13,[]),(14,[]),(15,[]),(0,[]),(5,[13,7]),(10,[]),(11,[13]),(16,[]),(17,[]),(18,[])]),(31,[(0,[]),(1,[]),(2,[]),(3,[]),(4,[]),(5,[]),(6,[]),(7,[]),(8,[]),(9,[]),(10,[1]),(11,[]),(12,[]),(13,[]),(14,[]),(15,[]),(16,[]),(17,[])])]),
 (191,[(13,[(1,[]),(2,[]),(4,[]),(5,[]),(6,[]),(7,[]),(8,[]),(9,[]),(10,[]),(11,[]),(12,[]),(13,[]),(0,[]),(3,[12,10,9,5]),(14,[]),(15,[]),(16,[]),(17,[])]),(14,[(0,[]),(1,[]),(2,[]),(3,[]),(4,[]),(5,[3]),(6,[])])]),
 (192,[(12,[(0,[]),(1,[]),(2,[]),(3,[]),(4,[]),(5,[]),(6,[]),(8,[]),(9,[]),(7,[9]),(10,[]),(11,[]),(12,[])]),(22,[(0,[]),(1,[]),(2,[1]),(3,[])])]),
 (193,[]),
 (194,[(3,[(0,[]),(1,[]),(3,[]),(4,[]),(2,[4]),(5,[]),(6,[]),(7,[])])]),
 (195,[]),
 (196,[]),
 (197,[]),
 (198,[]),
 (199,[]),
 (200,[]),
 (201,[]),
 (203,[]),
 (204,[]),
 (205,[]),
 (206,[]),
 (207,[(4,[(0,[]),(1,[]),(3,[]),(4,[]),(6,[]),(2,[4]),(5,[]),(7,[]),(8,[]),(9,[]),(10,[])])]),
 (208,[(9,[(0,[]),(1,[]),(2,[]),(3,[]),(4,[]),(5,[]),(6,[3,1]),(7,[]),(8,[]),(9,[]),(10,[])])]),
 (209,[]),
 (210,[]),
 (211,[]),
 (212,[]),
 (213,[]),
 (214,[]),
 (215,[(6,[(0,[]),(1,[]),(2,[]),(3,[]),(4,[]),(5,[4]),(6,[])])]),
 (216,[]),
 (217,[]),
 (218,[]),
 (219,[]),
 (220,[]),
 (222,[]),
 (223,[(7,[(0,[]),(1,[]),(2,[]),(3,[]),(4,[1]),(5,[]),(6,[]),(7,[])])]),
 (224,[]),
 (225,[]),
 (226,[(5,[(0,[]),(1,[]),(2,[]),(5,[]),(6,[]),(7,[]),(3,[]),(4,[7]),(8,[]),(9,[]),(10,[]),(11,[])])]),
 (227,[]),
 (228,[]),
 (229,[]),
 (231,[]),
 (232,[]),
 (233,[]),
 (235,[]),
 (236,[]),
 (238,[]),
 (239,[]),
 (241,[]),
 (242,[(7,[(0,[]),(1,[]),(2,[]),(3,[]),(4,[]),(5,[]),(6,[]),(7,[]),(8,[]),(9,[]),(10,[]),(11,[]),(12,[]),(14,[]),(13,[14]),(15,[]),(16,[]),(17,[])])]),
 (243,[]),
 (244,[]),
 (245,[]),
 (246,[]),
 (249,[(7,[(0,[]),(1,[]),(2,[]),(4,[]),(5,[]),(3,[5]),(6,[]),(7,[])]),(16,[(0,[]),(1,[]),(2,[]),(3,[]),(5,[]),(6,[]),(7,[]),(9,[]),(10,[]),(11,[]),(4,[11,7]),(8,[11]),(12,[]),(13,[])]),(20,[(0,[]),(1,[]),(2,[]),(4,[]),(5,[]),(7,[]),(8,[]),(9,[]),(3,[9,8,5]),(6,[9,8]),(10,[]),(11,[])]),(27,[(0,[]),(1,[]),(2,[]),(4,[]),(5,[]),(7,[]),(8,[]),(10,[]),(11,[]),(3,[11,8,5]),(6,[11,8]),(9,[11]),(12,[]),(13,[])]),(31,[(0,[]),(1,[]),(2,[]),(4,[]),(5,[]),(7,[]),(8,[]),(9,[]),(11,[]),(12,[]),(13,[]),(3,[13,9,5]),(6,[13,9]),(10,[13]),(14,[]),(15,[])])]),
 (250,[]),
 (251,[]),
 (252,[]),
 (253,[]),
 (254,[]),
 (258,[]),
 (259,[]),
 (260,[]),
 (263,[]),
 (268,[]),
 (269,[]),
 (270,[]),
 (271,[]),
 (273,[]),
 (278,[]),
 (279,[]),
 (286,[]),
 (287,[]),
 (307,[]),
 (308,[]),
 (309,[]),
 (310,[]),
 (311,[]),
 (312,[]),
 (313,[]),
 (314,[])]
def bC (f:Nat):Nat→Option (List dN):=match iC f aSs with
 | some l=>fun id=>iC id l
 | none=>fun _=>none
def bE:lF:=fun f=>match f with
 | 5=>fun r=>match r with
  | 4=>[2,5]
  | _=>[]
 | 7=>fun r=>match r with
  | 10=>[8,16]
  | _=>[]
 | 8=>fun r=>match r with
  | 10=>[9,10]
  | _=>[]
 | 9=>fun r=>match r with
  | 10=>[12,13,14]
  | _=>[]
 | 10=>fun r=>match r with
  | 6=>[6,11]
  | _=>[]
 | 11=>fun r=>match r with
  | 24=>[29,30,32]
  | 19=>[29,30,31]
  | 15=>[8,28]
  | _=>[]
 | 12=>fun r=>match r with
  | 5=>[6,7]
  | _=>[]
 | 17=>fun r=>match r with
  | 15=>[16,17]
  | 5=>[7,8,9]
  | _=>[]
 | 18=>fun r=>match r with
  | 8=>[4,9]
  | _=>[]
 | 21=>fun r=>match r with
  | 5=>[7]
  | 13=>[9]
  | 29=>[14]
  | 21=>[11]
  | 38=>[16]
  | _=>[]
 | 23=>fun r=>match r with
  | 4=>[6,7]
  | _=>[]
 | 26=>fun r=>match r with
  | 7=>[4]
  | _=>[]
 | 27=>fun r=>match r with
  | 4=>[4,5]
  | _=>[]
 | 28=>fun r=>match r with
  | 28=>[97]
  | 22=>[80]
  | 14=>[53]
  | 6=>[26]
  | _=>[]
 | 29=>fun r=>match r with
  | 28=>[3,10]
  | 22=>[3,8]
  | 15=>[3,6]
  | 10=>[3,5]
  | 5=>[3,4]
  | _=>[]
 | 30=>fun r=>match r with
  | 3=>[5,6]
  | _=>[]
 | 35=>fun r=>match r with
  | 4=>[6,14]
  | _=>[]
 | 37=>fun r=>match r with
  | 4=>[2,3]
  | _=>[]
 | 38=>fun r=>match r with
  | 30=>[2,12]
  | 23=>[2,11]
  | 9=>[2,5,6]
  | _=>[]
 | 39=>fun r=>match r with
  | 21=>[7]
  | 18=>[6]
  | 14=>[5]
  | 10=>[4]
  | 6=>[3]
  | 2=>[2]
  | _=>[]
 | 40=>fun r=>match r with
  | 11=>[6,7,8,46]
  | 7=>[6,7,8,28]
  | _=>[]
 | 41=>fun r=>match r with
  | 16=>[13]
  | 12=>[6,7,8,11]
  | 7=>[6,7,8,9]
  | _=>[]
 | 42=>fun r=>match r with
  | 3=>[2,9]
  | _=>[]
 | 43=>fun r=>match r with
  | 6=>[4,5]
  | 2=>[2,3]
  | _=>[]
 | 47=>fun r=>match r with
  | 3=>[4,5,6,7,8,9]
  | _=>[]
 | 48=>fun r=>match r with
  | 13=>[5,9]
  | _=>[]
 | 50=>fun r=>match r with
  | 9=>[6,40]
  | 3=>[6,21]
  | _=>[]
 | 51=>fun r=>match r with
  | 14=>[12]
  | 19=>[6,13]
  | 10=>[6,11]
  | 4=>[8,9]
  | _=>[]
 | 52=>fun r=>match r with
  | 3=>[3,4]
  | _=>[]
 | 53=>fun r=>match r with
  | 4=>[4,5]
  | _=>[]
 | 56=>fun r=>match r with
  | 4=>[6,7,14]
  | _=>[]
 | 57=>fun r=>match r with
  | 4=>[6,7,8]
  | _=>[]
 | 58=>fun r=>match r with
  | 4=>[4,5]
  | _=>[]
 | 61=>fun r=>match r with
  | 3=>[7,11]
  | _=>[]
 | 63=>fun r=>match r with
  | 3=>[7,11]
  | _=>[]
 | 65=>fun r=>match r with
  | 3=>[7,11]
  | _=>[]
 | 67=>fun r=>match r with
  | 3=>[7,11]
  | _=>[]
 | 69=>fun r=>match r with
  | 6=>[2,3,4]
  | _=>[]
 | 71=>fun r=>match r with
  | 17=>[2,91]
  | 2=>[2,15]
  | _=>[]
 | 76=>fun r=>match r with
  | 6=>[2,3,4]
  | _=>[]
 | 79=>fun r=>match r with
  | 24=>[16]
  | 12=>[3,8]
  | 2=>[3,4]
  | _=>[]
 | 80=>fun r=>match r with
  | 4=>[4,5]
  | _=>[]
 | 81=>fun r=>match r with
  | 4=>[4,5]
  | _=>[]
 | 82=>fun r=>match r with
  | 4=>[4,5]
  | _=>[]
 | 83=>fun r=>match r with
  | 4=>[4,5]
  | _=>[]
 | 84=>fun r=>match r with
  | 4=>[4,5]
  | _=>[]
 | 85=>fun r=>match r with
  | 4=>[2,10]
  | _=>[]
 | 86=>fun r=>match r with
  | 4=>[2,10]
  | _=>[]
 | 88=>fun r=>match r with
  | 16=>[2,58]
  | 5=>[2,14]
  | _=>[]
 | 89=>fun r=>match r with
  | 13=>[2,38]
  | 3=>[2,12]
  | _=>[]
 | 90=>fun r=>match r with
  | 3=>[2,3,4,11]
  | _=>[]
 | 91=>fun r=>match r with
  | 4=>[4,13]
  | _=>[]
 | 92=>fun r=>match r with
  | 1=>[8]
  | _=>[]
 | 96=>fun r=>match r with
  | 6=>[34]
  | _=>[]
 | 97=>fun r=>match r with
  | 3=>[5,6]
  | _=>[]
 | 102=>fun r=>match r with
  | 7=>[27]
  | _=>[]
 | 110=>fun r=>match r with
  | 40=>[17]
  | _=>[]
 | 114=>fun r=>match r with
  | 4=>[2,3]
  | _=>[]
 | 115=>fun r=>match r with
  | 4=>[2,3]
  | _=>[]
 | 116=>fun r=>match r with
  | 4=>[2,3]
  | _=>[]
 | 117=>fun r=>match r with
  | 2=>[4,5]
  | _=>[]
 | 119=>fun r=>match r with
  | 4=>[2,3]
  | _=>[]
 | 120=>fun r=>match r with
  | 22=>[4,11]
  | 15=>[4,8]
  | 4=>[6,7]
  | _=>[]
 | 121=>fun r=>match r with
  | 3=>[2,3,4,5]
  | _=>[]
 | 122=>fun r=>match r with
  | 8=>[8]
  | 5=>[4,5,6,7]
  | _=>[]
 | 125=>fun r=>match r with
  | 2=>[6]
  | _=>[]
 | 126=>fun r=>match r with
  | 6=>[4,5]
  | _=>[]
 | 130=>fun r=>match r with
  | 4=>[4,5]
  | _=>[]
 | 138=>fun r=>match r with
  | 5=>[5,6]
  | _=>[]
 | 144=>fun r=>match r with
  | 4=>[4,5]
  | _=>[]
 | 149=>fun r=>match r with
  | 3=>[7,11]
  | _=>[]
 | 152=>fun r=>match r with
  | 2=>[4,8]
  | _=>[]
 | 154=>fun r=>match r with
  | 3=>[2,3,4,16]
  | _=>[]
 | 155=>fun r=>match r with
  | 2=>[4,8]
  | _=>[]
 | 157=>fun r=>match r with
  | 3=>[2,3,4,18]
  | _=>[]
 | 158=>fun r=>match r with
  | 8=>[9]
  | 5=>[4,5,6,19]
  | _=>[]
 | 161=>fun r=>match r with
  | 3=>[5,6,7]
  | _=>[]
 | 165=>fun r=>match r with
  | 4=>[2]
  | _=>[]
 | 166=>fun r=>match r with
  | 5=>[2,3,11]
  | _=>[]
 | 167=>fun r=>match r with
  | 4=>[2,20]
  | _=>[]
 | 173=>fun r=>match r with
  | 8=>[6]
  | _=>[]
 | 175=>fun r=>match r with
  | 12=>[8]
  | _=>[]
 | 178=>fun r=>match r with
  | 8=>[4,5,7,20]
  | _=>[]
 | 184=>fun r=>match r with
  | 6=>[31]
  | _=>[]
 | 185=>fun r=>match r with
  | 2=>[4,5]
  | _=>[]
 | 186=>fun r=>match r with
  | 12=>[8]
  | _=>[]
 | 189=>fun r=>match r with
  | 7=>[7]
  | _=>[]
 | 190=>fun r=>match r with
  | 35=>[7,16]
  | 27=>[15]
  | 11=>[7,9]
  | _=>[]
 | 192=>fun r=>match r with
  | 3=>[6,7]
  | _=>[]
 | 195=>fun r=>match r with
  | 4=>[2]
  | _=>[]
 | 197=>fun r=>match r with
  | 8=>[3,11]
  | _=>[]
 | 199=>fun r=>match r with
  | 2=>[2,3]
  | _=>[]
 | 200=>fun r=>match r with
  | 5=>[3,4]
  | _=>[]
 | 205=>fun r=>match r with
  | 2=>[4,8]
  | _=>[]
 | 212=>fun r=>match r with
  | 16=>[65]
  | _=>[]
 | 215=>fun r=>match r with
  | 24=>[7]
  | _=>[]
 | 218=>fun r=>match r with
  | 3=>[4,5,12]
  | _=>[]
 | 220=>fun r=>match r with
  | 2=>[2,3]
  | _=>[]
 | 223=>fun r=>match r with
  | 3=>[5]
  | _=>[]
 | 224=>fun r=>match r with
  | 4=>[4,5]
  | _=>[]
 | 226=>fun r=>match r with
  | 3=>[3,4,16]
  | _=>[]
 | 228=>fun r=>match r with
  | 6=>[3,23]
  | _=>[]
 | 231=>fun r=>match r with
  | 2=>[4,8]
  | _=>[]
 | 238=>fun r=>match r with
  | 11=>[7,8,36]
  | _=>[]
 | 242=>fun r=>match r with
  | 5=>[8,9,10]
  | _=>[]
 | 249=>fun r=>match r with
  | 22=>[2,3,4,5]
  | _=>[]
 | 252=>fun r=>match r with
  | 4=>[18]
  | _=>[]
 | 259=>fun r=>match r with
  | 2=>[2,9]
  | _=>[]
 | 260=>fun r=>match r with
  | 4=>[4,13]
  | _=>[]
 | 269=>fun r=>match r with
  | 2=>[10]
  | _=>[]
 | 270=>fun r=>match r with
  | 3=>[3,16]
  | _=>[]
 | 273=>fun r=>match r with
  | 2=>[2,3]
  | _=>[]
 | 278=>fun r=>match r with
  | 5=>[8,9,22]
  | _=>[]
 | _=>fun _=>[]
end Go.Proofs.YtoaibmbldmckaaaGreat
end
section
namespace Go.Proofs.YtoaibmbldmckaaaGreat
open Go.RowKit Go.AM Tryz
def aPr:hM:=[
 (3,[]),
 (4,[(4,[(0,[]),(2,[]),(1,[2]),(3,[]),(4,[]),(5,[]),(6,[]),(7,[]),(8,[]),(9,[]),(10,[]),(11,[]),(12,[]),(13,[])])]),
 (5,[(10,[(0,[]),(1,[]),(2,[1]),(3,[])])]),
 (6,[(8,[(0,[]),(2,[]),(1,[2]),(3,[]),(4,[]),(5,[]),(6,[]),(7,[]),(8,[]),(9,[]),(10,[]),(11,[]),(12,[]),(13,[]),(14,[]),(15,[])])]),
 (7,[]),
 (8,[(7,[(1,[]),(2,[]),(3,[]),(4,[]),(6,[]),(7,[]),(8,[]),(9,[]),(10,[]),(0,[]),(5,[7]),(11,[]),(12,[])]),(15,[(0,[]),(1,[0]),(2,[0]),(3,[]),(4,[]),(5,[]),(6,[]),(7,[]),(8,[])])]),
 (9,[]),
 (10,[]),
 (11,[]),
 (12,[]),
 (13,[(2,[(0,[]),(2,[]),(1,[2]),(3,[]),(4,[]),(5,[]),(6,[]),(7,[]),(8,[]),(9,[]),(10,[]),(11,[]),(12,[]),(13,[]),(14,[])])]),
 (14,[]),
 (15,[(5,[(0,[]),(1,[]),(2,[0]),(3,[]),(4,[]),(5,[]),(6,[]),(7,[]),(8,[]),(9,[])]),(6,[(0,[]),(1,[]),(2,[0]),(3,[]),(4,[]),(5,[]),(6,[]),(7,[]),(8,[]),(9,[])])]),
 (16,[(3,[(0,[]),(2,[]),(1,[2]),(3,[]),(4,[]),(5,[])]),(4,[(0,[]),(1,[]),(2,[]),(3,[]),(4,[]),(5,[]),(6,[]),(7,[]),(8,[]),(9,[]),(10,[]),(12,[]),(13,[]),(11,[13,12]),(14,[]),(15,[]),(16,[]),(17,[]),(18,[]),(19,[]),(20,[])])]),
 (17,[(32,[(0,[]),(1,[]),(2,[]),(3,[]),(4,[]),(5,[]),(6,[]),(7,[]),(8,[]),(9,[]),(10,[]),(11,[]),(12,[]),(13,[]),(14,[]),(15,[]),(16,[]),(17,[]),(18,[]),(19,[]),(20,[]),(21,[]),(22,[]),(23,[]),(24,[]),(25,[]),(26,[]),(27,[]),(28,[25,23]),(29,[]),(30,[]),(31,[25,23]),(32,[]),(33,[]),(34,[25]),(35,[]),(36,[]),(37,[])])]),
 (18,[])]
theorem aNh:gK prog aPr=true:=by kernel_rfl
def aPs:hM:=[
 (19,[]),
 (20,[]),
 (21,[]),
 (22,[]),
 (23,[]),
 (24,[]),
 (25,[(6,[(0,[]),(1,[]),(2,[]),(3,[]),(4,[]),(5,[]),(6,[]),(7,[]),(8,[]),(9,[8]),(10,[]),(11,[]),(12,[]),(13,[]),(14,[]),(15,[]),(16,[]),(17,[]),(18,[]),(19,[]),(20,[]),(21,[]),(22,[]),(23,[]),(24,[])])]),
 (26,[]),
 (27,[]),
 (28,[]),
 (29,[(7,[(0,[]),(1,[]),(2,[]),(3,[]),(4,[]),(5,[]),(6,[]),(8,[]),(9,[]),(10,[]),(11,[]),(12,[]),(13,[]),(15,[]),(16,[]),(17,[]),(18,[]),(19,[]),(20,[]),(7,[20,16,13,9]),(14,[20,16]),(21,[]),(22,[])]),(12,[(0,[]),(1,[]),(2,[]),(3,[]),(4,[]),(5,[]),(6,[]),(8,[]),(9,[]),(10,[]),(11,[]),(12,[]),(13,[]),(15,[]),(16,[]),(17,[]),(18,[]),(19,[]),(20,[]),(7,[20,16,13,9]),(14,[20,16]),(21,[]),(22,[])]),(18,[(0,[]),(1,[]),(2,[]),(3,[]),(5,[]),(6,[]),(4,[6]),(7,[]),(8,[])]),(19,[(0,[]),(1,[]),(2,[]),(3,[]),(5,[]),(6,[]),(7,[]),(4,[7]),(8,[]),(9,[])]),(25,[(0,[]),(1,[]),(2,[]),(4,[]),(5,[]),(7,[]),(8,[]),(3,[8,5]),(6,[8]),(9,[]),(10,[])]),(30,[(0,[]),(1,[]),(2,[]),(3,[]),(4,[]),(5,[]),(6,[]),(8,[]),(9,[]),(10,[]),(11,[]),(12,[]),(13,[]),(15,[]),(16,[]),(17,[]),(18,[]),(19,[]),(20,[]),(7,[20,16,13,9]),(14,[20,16]),(21,[]),(22,[])])]),
 (30,[]),
 (31,[]),
 (32,[]),
 (33,[(3,[(0,[]),(1,[0]),(2,[]),(3,[])]),(5,[(0,[]),(1,[0]),(2,[]),(3,[])]),(10,[(0,[]),(1,[]),(2,[0]),(3,[]),(4,[])]),(12,[(0,[]),(1,[]),(2,[1]),(3,[])]),(17,[(0,[]),(1,[]),(2,[1]),(3,[])])]),
 (34,[(9,[(1,[]),(2,[]),(4,[]),(5,[]),(6,[]),(0,[]),(3,[5]),(7,[]),(8,[]),(9,[]),(10,[])]),(11,[(0,[]),(1,[]),(2,[]),(3,[]),(4,[]),(5,[2]),(6,[])]),(16,[(0,[]),(1,[]),(2,[1]),(3,[])]),(21,[(0,[]),(1,[]),(2,[1]),(3,[])])])]
theorem aNi:gK prog aPs=true:=by kernel_rfl
def aPt:hM:=[
 (35,[]),
 (36,[]),
 (37,[]),
 (38,[]),
 (39,[]),
 (40,[]),
 (41,[(10,[(0,[]),(1,[]),(3,[]),(2,[3]),(4,[]),(5,[]),(6,[]),(7,[]),(8,[]),(10,[]),(9,[10]),(11,[]),(12,[]),(13,[])]),(19,[(1,[]),(2,[]),(3,[]),(5,[]),(6,[]),(7,[]),(8,[]),(9,[]),(12,[]),(13,[]),(14,[]),(0,[]),(4,[8,6]),(10,[]),(11,[]),(15,[]),(16,[])])]),
 (42,[]),
 (43,[]),
 (44,[(3,[(0,[]),(1,[0]),(2,[0]),(3,[]),(4,[]),(5,[]),(6,[]),(7,[]),(8,[])]),(4,[(0,[]),(1,[0]),(2,[0]),(3,[]),(4,[]),(5,[]),(6,[]),(7,[]),(8,[])])]),
 (45,[]),
 (46,[]),
 (47,[]),
 (48,[]),
 (49,[]),
 (50,[])]
theorem aNj:gK prog aPt=true:=by kernel_rfl
def aPu:hM:=[
 (51,[]),
 (52,[]),
 (53,[]),
 (54,[(7,[(0,[]),(1,[]),(3,[]),(4,[]),(6,[]),(2,[4]),(5,[]),(7,[]),(8,[]),(9,[]),(10,[])])]),
 (55,[]),
 (56,[]),
 (57,[]),
 (58,[]),
 (59,[]),
 (60,[]),
 (61,[]),
 (62,[]),
 (63,[]),
 (64,[]),
 (65,[]),
 (66,[])]
theorem aNk:gK prog aPu=true:=by kernel_rfl
def aPv:hM:=[
 (67,[]),
 (68,[]),
 (69,[]),
 (70,[]),
 (71,[]),
 (72,[]),
 (73,[]),
 (74,[]),
 (75,[]),
 (76,[]),
 (77,[]),
 (78,[]),
 (79,[]),
 (80,[]),
 (81,[]),
 (82,[])]
theorem aNl:gK prog aPv=true:=by kernel_rfl
def aPw:hM:=[
 (83,[]),
 (84,[]),
 (85,[]),
 (86,[]),
 (87,[]),
 (88,[]),
 (89,[]),
 (90,[]),
 (91,[]),
 (92,[]),
 (93,[]),
 (94,[]),
 (95,[]),
 (96,[]),
 (97,[]),
 (98,[(1,[(0,[]),(1,[]),(2,[]),(4,[]),(5,[]),(7,[]),(8,[]),(3,[8,5]),(6,[8]),(9,[]),(10,[])])])]
theorem aNm:gK prog aPw=true:=by kernel_rfl
def aPx:hM:=[
 (99,[]),
 (100,[]),
 (101,[(1,[(0,[]),(1,[]),(2,[]),(4,[]),(5,[]),(7,[]),(8,[]),(3,[8,5]),(6,[8]),(9,[]),(10,[])])]),
 (102,[(9,[(0,[]),(1,[]),(2,[]),(3,[]),(4,[]),(5,[]),(6,[]),(7,[]),(8,[]),(9,[]),(10,[1]),(11,[]),(12,[]),(13,[]),(14,[])])]),
 (103,[]),
 (104,[(2,[(0,[]),(1,[0]),(2,[]),(3,[])]),(5,[(0,[]),(1,[]),(2,[0]),(3,[]),(4,[])]),(9,[(0,[]),(1,[]),(2,[1]),(3,[])])]),
 (105,[]),
 (106,[]),
 (107,[(8,[(0,[]),(1,[]),(2,[]),(3,[]),(4,[]),(5,[]),(6,[]),(7,[]),(8,[5]),(9,[]),(10,[]),(11,[])])]),
 (108,[(5,[(0,[]),(1,[]),(2,[]),(3,[]),(4,[]),(5,[3]),(6,[]),(7,[])]),(12,[(0,[]),(1,[]),(2,[]),(3,[]),(4,[]),(5,[3]),(6,[]),(7,[])]),(15,[(0,[]),(1,[]),(2,[]),(3,[]),(4,[]),(5,[]),(6,[]),(7,[5,3]),(8,[]),(9,[5]),(10,[]),(11,[])])]),
 (109,[]),
 (110,[(33,[(1,[]),(2,[]),(3,[]),(4,[]),(6,[]),(7,[]),(8,[]),(9,[]),(10,[]),(0,[]),(5,[7]),(11,[]),(12,[]),(13,[])]),(44,[(0,[]),(1,[]),(2,[1]),(3,[])])]),
 (111,[(4,[(0,[]),(1,[]),(2,[]),(3,[]),(4,[]),(5,[]),(6,[]),(7,[]),(8,[5]),(9,[]),(10,[]),(11,[])])]),
 (112,[]),
 (113,[]),
 (114,[])]
theorem aNn:gK prog aPx=true:=by kernel_rfl
def aPy:hM:=[
 (115,[]),
 (116,[]),
 (117,[]),
 (118,[(1,[(0,[]),(1,[]),(2,[]),(3,[]),(4,[]),(5,[]),(6,[]),(7,[]),(8,[]),(9,[]),(10,[]),(11,[]),(12,[]),(13,[]),(14,[]),(15,[]),(16,[]),(17,[]),(18,[]),(19,[]),(20,[15]),(21,[]),(22,[]),(23,[])])]),
 (119,[]),
 (120,[(19,[(0,[]),(1,[]),(2,[]),(3,[]),(4,[]),(5,[]),(6,[]),(7,[]),(8,[]),(9,[]),(10,[]),(11,[]),(12,[]),(13,[]),(15,[]),(16,[]),(17,[]),(18,[]),(19,[]),(14,[19]),(20,[]),(21,[]),(22,[]),(23,[]),(24,[]),(25,[]),(26,[]),(27,[]),(28,[]),(29,[]),(30,[]),(31,[]),(32,[]),(33,[]),(34,[]),(35,[]),(36,[]),(37,[]),(38,[]),(39,[]),(40,[]),(41,[]),(42,[]),(43,[]),(44,[]),(45,[]),(46,[]),(47,[]),(48,[])])]),
 (121,[]),
 (122,[(11,[(1,[]),(2,[]),(3,[]),(5,[]),(6,[]),(7,[]),(8,[]),(9,[]),(10,[]),(13,[]),(14,[]),(15,[]),(0,[]),(4,[9]),(11,[]),(12,[]),(16,[]),(17,[])])]),
 (123,[(1,[(0,[]),(1,[]),(2,[]),(3,[]),(4,[]),(5,[]),(6,[]),(7,[]),(8,[]),(9,[]),(10,[]),(11,[]),(12,[]),(13,[]),(14,[]),(15,[]),(16,[]),(17,[]),(18,[]),(19,[]),(20,[]),(21,[]),(22,[]),(23,[]),(24,[]),(25,[]),(26,[]),(27,[]),(28,[]),(29,[]),(30,[25]),(31,[]),(32,[]),(33,[])])]),
 (124,[(1,[(0,[]),(1,[]),(2,[]),(3,[]),(4,[]),(5,[]),(6,[]),(7,[]),(9,[]),(8,[9]),(10,[]),(11,[]),(12,[]),(13,[])])]),
 (125,[]),
 (126,[]),
 (127,[]),
 (128,[]),
 (129,[]),
 (130,[])]
theorem aNo:gK prog aPy=true:=by kernel_rfl
def aPz:hM:=[
 (131,[]),
 (132,[]),
 (133,[]),
 (134,[]),
 (135,[]),
 (136,[]),
 (137,[]),
 (138,[]),
 (139,[]),
 (140,[]),
 (141,[]),
 (142,[(5,[(0,[]),(1,[]),(2,[]),(3,[]),(4,[]),(5,[3]),(6,[]),(7,[])]),(14,[(0,[]),(1,[]),(2,[]),(3,[]),(4,[]),(5,[]),(6,[]),(7,[]),(8,[]),(10,[]),(9,[5,2]),(11,[5]),(12,[]),(13,[]),(14,[]),(15,[])]),(17,[(0,[]),(1,[]),(2,[]),(3,[]),(4,[]),(5,[]),(6,[]),(7,[5,3]),(8,[]),(9,[5]),(10,[]),(11,[])]),(24,[(0,[]),(1,[]),(2,[]),(3,[]),(4,[2]),(5,[])])]),
 (143,[(5,[(0,[]),(1,[]),(2,[]),(3,[]),(4,[]),(5,[4]),(6,[])])]),
 (144,[]),
 (145,[]),
 (146,[])]
theorem aNp:gK prog aPz=true:=by kernel_rfl
def aQ0:hM:=[
 (147,[]),
 (148,[]),
 (149,[]),
 (150,[]),
 (151,[]),
 (152,[]),
 (153,[]),
 (154,[(10,[(0,[]),(1,[]),(2,[]),(3,[]),(4,[]),(7,[]),(8,[]),(9,[]),(10,[]),(11,[]),(5,[]),(6,[11]),(12,[]),(13,[]),(14,[]),(15,[])])]),
 (155,[]),
 (156,[]),
 (157,[]),
 (158,[]),
 (159,[]),
 (160,[]),
 (161,[(5,[(0,[]),(1,[]),(2,[]),(3,[]),(4,[]),(5,[]),(8,[]),(9,[]),(10,[]),(11,[]),(12,[]),(13,[]),(6,[]),(7,[13]),(14,[]),(15,[]),(16,[]),(17,[])])]),
 (162,[])]
theorem aNq:gK prog aQ0=true:=by kernel_rfl
def aLs:hM:=[
 (163,[]),
 (164,[]),
 (165,[]),
 (166,[]),
 (167,[]),
 (168,[]),
 (169,[]),
 (170,[]),
 (171,[]),
 (172,[]),
 (173,[]),
 (174,[]),
 (175,[]),
 (176,[]),
 (177,[]),
 (178,[(17,[(0,[]),(2,[]),(3,[]),(1,[3]),(4,[]),(5,[]),(6,[]),(7,[])])])]
theorem aJr:gK prog aLs=true:=by kernel_rfl
def aLt:hM:=[
 (179,[]),
 (180,[]),
 (181,[]),
 (182,[]),
 (183,[]),
 (184,[]),
 (185,[]),
 (186,[(14,[(1,[]),(2,[]),(3,[]),(5,[]),(6,[]),(7,[]),(10,[]),(11,[]),(12,[]),(0,[]),(4,[]),(8,[]),(9,[]),(13,[]),(14,[]),(15,[])])]),
 (187,[]),
 (188,[]),
 (189,[(13,[(1,[]),(2,[]),(3,[]),(5,[]),(8,[]),(9,[]),(10,[]),(0,[]),(4,[5]),(6,[]),(7,[]),(11,[]),(12,[]),(13,[])])]),
 (190,[(30,[(1,[]),(2,[]),(3,[]),(4,[]),(6,[]),(7,[]),(8,[]),(9,[]),(12,[]),(13,[]),(14,[]),(15,[]),(0,[]),(5,[13,7]),(10,[]),(11,[13]),(16,[]),(17,[]),(18,[])]),(31,[(0,[]),(1,[]),(2,[]),(3,[]),(4,[]),(5,[]),(6,[]),(7,[]),(8,[]),(9,[]),(10,[1]),(11,[]),(12,[]),(13,[]),(14,[]),(15,[]),(16,[]),(17,[])])]),
 (191,[(13,[(1,[]),(2,[]),(4,[]),(5,[]),(6,[]),(7,[]),(8,[]),(9,[]),(10,[]),(11,[]),(12,[]),(13,[]),(0,[]),(3,[12,10,9,5]),(14,[]),(15,[]),(16,[]),(17,[])]),(14,[(0,[]),(1,[]),(2,[]),(3,[]),(4,[]),(5,[3]),(6,[])])]),
 (192,[(12,[(0,[]),(1,[]),(2,[]),(3,[]),(4,[]),(5,[]),(6,[]),(8,[]),(9,[]),(7,[9]),(10,[]),(11,[]),(12,[])]),(22,[(0,[]),(1,[]),(2,[1]),(3,[])])]),
 (193,[]),
 (194,[(3,[(0,[]),(1,[]),(3,[]),(4,[]),(2,[4]),(5,[]),(6,[]),(7,[])])])]
theorem aJs:gK prog aLt=true:=by kernel_rfl
def aLu:hM:=[
 (195,[]),
 (196,[]),
 (197,[]),
 (198,[]),
 (199,[]),
 (200,[]),
 (201,[]),
 (203,[]),
 (204,[]),
 (205,[]),
 (206,[]),
 (207,[(4,[(0,[]),(1,[]),(3,[]),(4,[]),(6,[]),(2,[4]),(5,[]),(7,[]),(8,[]),(9,[]),(10,[])])]),
 (208,[(9,[(0,[]),(1,[]),(2,[]),(3,[]),(4,[]),(5,[]),(6,[3,1]),(7,[]),(8,[]),(9,[]),(10,[])])]),
 (209,[]),
 (210,[]),
 (211,[])]
theorem aJt:gK prog aLu=true:=by kernel_rfl
def aLv:hM:=[
 (212,[]),
 (213,[]),
 (214,[]),
 (215,[(6,[(0,[]),(1,[]),(2,[]),(3,[]),(4,[]),(5,[4]),(6,[])])]),
 (216,[]),
 (217,[]),
 (218,[]),
 (219,[]),
 (220,[]),
 (222,[]),
 (223,[(7,[(0,[]),(1,[]),(2,[]),(3,[]),(4,[1]),(5,[]),(6,[]),(7,[])])]),
 (224,[]),
 (225,[]),
 (226,[(5,[(0,[]),(1,[]),(2,[]),(5,[]),(6,[]),(7,[]),(3,[]),(4,[7]),(8,[]),(9,[]),(10,[]),(11,[])])]),
 (227,[]),
 (228,[])]
theorem aJu:gK prog aLv=true:=by kernel_rfl
def aLw:hM:=[
 (229,[]),
 (231,[]),
 (232,[]),
 (233,[]),
 (235,[]),
 (236,[]),
 (238,[]),
 (239,[]),
 (241,[]),
 (242,[(7,[(0,[]),(1,[]),(2,[]),(3,[]),(4,[]),(5,[]),(6,[]),(7,[]),(8,[]),(9,[]),(10,[]),(11,[]),(12,[]),(14,[]),(13,[14]),(15,[]),(16,[]),(17,[])])]),
 (243,[]),
 (244,[]),
 (245,[]),
 (246,[]),
 (249,[(7,[(0,[]),(1,[]),(2,[]),(4,[]),(5,[]),(3,[5]),(6,[]),(7,[])]),(16,[(0,[]),(1,[]),(2,[]),(3,[]),(5,[]),(6,[]),(7,[]),(9,[]),(10,[]),(11,[]),(4,[11,7]),(8,[11]),(12,[]),(13,[])]),(20,[(0,[]),(1,[]),(2,[]),(4,[]),(5,[]),(7,[]),(8,[]),(9,[]),(3,[9,8,5]),(6,[9,8]),(10,[]),(11,[])]),(27,[(0,[]),(1,[]),(2,[]),(4,[]),(5,[]),(7,[]),(8,[]),(10,[]),(11,[]),(3,[11,8,5]),(6,[11,8]),(9,[11]),(12,[]),(13,[])]),(31,[(0,[]),(1,[]),(2,[]),(4,[]),(5,[]),(7,[]),(8,[]),(9,[]),(11,[]),(12,[]),(13,[]),(3,[13,9,5]),(6,[13,9]),(10,[13]),(14,[]),(15,[])])]),
 (250,[])]
theorem aJv:gK prog aLw=true:=by kernel_rfl
def aLx:hM:=[
 (251,[]),
 (252,[]),
 (253,[]),
 (254,[]),
 (258,[]),
 (259,[]),
 (260,[]),
 (263,[]),
 (268,[]),
 (269,[]),
 (270,[]),
 (271,[]),
 (273,[]),
 (278,[]),
 (279,[]),
 (286,[])]
theorem aJw:gK prog aLx=true:=by kernel_rfl
def aLy:hM:=[
 (287,[]),
 (307,[]),
 (308,[]),
 (309,[]),
 (310,[]),
 (311,[]),
 (312,[]),
 (313,[]),
 (314,[])]
theorem aJx:gK prog aLy=true:=by kernel_rfl
end Go.Proofs.YtoaibmbldmckaaaGreat
end
section
namespace Go.Proofs.YtoaibmbldmckaaaGreat
open Go.AM Tryz
noncomputable def aQ1 (C:aD) (K:KW) (again0:List V→St→Prop) (p1 p5 p9 p10 p12 p13 p14:V) (S:St)  :Prop:=
wR (aA prog 30 p5 3) fun t33=>
wR (aB prog 27 t33 S) fun t34=>
wR (aC prog 27 t34 p14) fun t35=>
wR (aA prog 90 t35 0) fun t36=>
wR (aB prog 9 t36 S) fun t37=>
wR (aG prog .add 9 (.str [116,97,120,47]) p1) fun t38=>
bR (aL prog 9 t37 t38) (wR (aG prog .eql 9 t37 t38) fun t39=>
aE t39 (wR (aA prog 30 p5 3) fun t40=>
wR (aB prog 27 t40 S) fun t41=>
wR (aC prog 27 t41 p14) fun t42=>
wR (aA prog 90 t42 1) fun t43=>
wR (aB prog 3 t43 S) fun t44=>
wR (aG prog .add 3 p14 (.int .i64 1)) fun t45=>
again0 [p12,t44,t45] S) (wR (aG prog .add 3 p14 (.int .i64 1)) fun t46=>
again0 [p12,p13,t46] S))
noncomputable def aQ2 (C:aD) (K:KW) (p1 p5 p9 p10:V) (vs:List V) (S:St) (again0:List V→St→Prop)  :Prop:=
eB vs fun x12 vs=>
eB vs fun x13 vs=>
eB vs fun x14 vs=>
wR (aA prog 30 p5 3) fun t29=>
wR (aB prog 27 t29 S) fun t30=>
wR (bH prog 27 t30 S) fun t31=>
wR (aG prog .lss 3 x14 t31) fun t32=>
aE t32 (wR (aA prog 30 p5 3) fun t47=>
wR (aB prog 27 t47 S) fun t48=>
wR (aC prog 27 t48 x14) fun t49=>
wR (aA prog 90 t49 0) fun t50=>
wR (aB prog 9 t50 S) fun t51=>
wR (aG prog .add 9 (.str [110,101,116,47]) p1) fun t52=>
bR (aL prog 9 t51 t52) (wR (aG prog .eql 9 t51 t52) fun t53=>
aE t53 (wR (aA prog 30 p5 3) fun t54=>
wR (aB prog 27 t54 S) fun t55=>
wR (aC prog 27 t55 x14) fun t56=>
wR (aA prog 90 t56 1) fun t57=>
wR (aB prog 3 t57 S) fun t58=>
aQ1 C K again0 p1 p5 p9 p10 t58 x13 x14 S) (aQ1 C K again0 p1 p5 p9 p10 x12 x13 x14 S))) (wR (iU .neg x12) fun t59=>
bR (aL prog 3 p9 t59) (wR (aG prog .eql 3 p9 t59) fun t60=>
aE t60 (wR (iU .neg x13) fun t61=>
bR (aL prog 3 p10 t61) (wR (aG prog .eql 3 p10 t61) fun t62=>
aE t62 (C 44 [] S fun t63 S64=>
K t63 S64) (K (.bool false) S))) (K (.bool false) S)))
noncomputable def m9 (C:aD) (a0 a1:V) (S:St) (K:KW):Prop:=
C 31 [] S fun t0 S1=>
C 30 [a0,(.int .i64 50)] S1 fun t2 S3=>
C 35 [t0,t2] S3 fun t4 S5=>
bF t4 0 fun t6=>
bF t4 1 fun t7=>
wR (aJ none S5 (.row 0 6 [[.nils,.nils,.nils,.nils,.nils,.int .i64 0]])) fun r8=>
wR (aH prog 30 (.ptr r8.1 0 0 0) t6 r8.2) fun S9=>
wR (aB prog 30 (.ptr r8.1 0 0 0) S9) fun t10=>
wR (aQ prog 52 [(0,(.int .i64 1)),(1,(.int .i64 1)),(2,(.int .i64 1))]) fun t11=>
wR (aQ prog 52 [(0,(.int .i64 9999)),(1,(.int .i64 12)),(2,(.int .i64 31))]) fun t12=>
C 40 [t10,t11,t12] S9 fun t13 S14=>
bF t13 0 fun t15=>
bF t13 1 fun t16=>
bR (aL prog 31 t16 (.int .i64 0)) (wR (aG prog .neq 31 t16 (.int .i64 0)) fun t17=>
aE t17 (bR (aL prog 31 t16 (.int .i64 7)) (wR (aG prog .eql 31 t16 (.int .i64 7)) fun t18=>
aE t18 (C 44 [] S14 fun t19 S20=>
K t19 S20) (K (.bool false) S14))) (C 47 [t15,a1] S14 fun t21 S22=>
bF t21 0 fun t23=>
bF t21 1 fun t24=>
bF t21 2 fun t25=>
wR (iU .not t25) fun t26=>
aE t26 (C 44 [] S22 fun t27 S28=>
K t27 S28) (cU [(.int .i64 0),(.int .i64 0),(.int .i64 0)] S22 (aQ2 C K a1 (.ptr r8.1 0 0 0) t23 t24))))
theorem bCi:(fun (C:aD) (a0 a1:V) (S:St) (K:KW)=>aM prog C (bC 9) (bE 9) 9 [a0,a1] S K)=fun C a0 a1 S K=>m9 C a0 a1 S K:=by kernel_rfl
noncomputable def m24 (C:aD) (a0:V) (S:St) (K:KW):Prop:=
bR (aN (a0:V).cells) (wR (aJ none S (.row 0 (a0:V).cells.length [(a0:V).cells])) fun r0=>
wR (aA prog 30 (.ptr r0.1 0 0 0) 0) fun t1=>
wR (aB prog 24 t1 r0.2) fun t2=>
C 85 [t2] r0.2 fun t3 S4=>
wR (iU .not t3) fun t5=>
aE t5 (K (.bool false) S4) (wR (aA prog 30 (.ptr r0.1 0 0 0) 1) fun t6=>
wR (aB prog 25 t6 S4) fun t7=>
C 86 [t7] S4 fun t8 S9=>
wR (iU .not t8) fun t10=>
aE t10 (K (.bool false) S9) (wR (aB prog 30 (.ptr r0.1 0 0 0) S9) fun t11=>
C 87 [t11] S9 fun t12 S13=>
wR (iU .not t12) fun t14=>
aE t14 (K (.bool false) S13) (wR (aA prog 30 (.ptr r0.1 0 0 0) 2) fun t15=>
wR (aB prog 26 t15 S13) fun t16=>
C 88 [t16] S13 fun t17 S18=>
wR (iU .not t17) fun t19=>
aE t19 (K (.bool false) S18) (wR (aB prog 30 (.ptr r0.1 0 0 0) S18) fun t20=>
C 89 [t20] S18 fun t21 S22=>
wR (iU .not t21) fun t23=>
aE t23 (K (.bool false) S22) (wR (aA prog 30 (.ptr r0.1 0 0 0) 2) fun t24=>
wR (aB prog 26 t24 S22) fun t25=>
C 90 [t25] S22 fun t26 S27=>
bF t26 0 fun t28=>
bF t26 1 fun t29=>
bR (aL prog 31 t29 (.int .i64 0)) (wR (aG prog .eql 31 t29 (.int .i64 0)) fun t30=>
aE t30 (wR (aA prog 30 (.ptr r0.1 0 0 0) 3) fun t31=>
wR (aB prog 27 t31 S27) fun t32=>
C 91 [t28,t32] S27 fun t33 S34=>
K t33 S34) (K (.bool false) S27))))))))
theorem aZ6:(fun (C:aD) (a0:V) (S:St) (K:KW)=>aM prog C (bC 24) (bE 24) 24 [a0] S K)=fun C a0 S K=>m24 C a0 S K:=by kernel_rfl
noncomputable def aF8 (C:aD) (K:KW) (again0:List V→St→Prop) (p0 p1 p5 p6 p7:V) (S:St)  :Prop:=
wR (aB prog 61 p7 S) fun t7=>
wR (aK prog 44 1 [(0,t7)] none S) fun r8=>
wR (aW prog 44 p5 r8.1 none r8.2) fun r9=>
wR (aG prog .add 3 p6 (.int .i64 1)) fun t10=>
again0 [r9.1,t10] r9.2
noncomputable def aF9 (C:aD) (K:KW) (p0 p1:V) (vs:List V) (S:St) (again0:List V→St→Prop)  :Prop:=
eB vs fun x5 vs=>
eB vs fun x6 vs=>
wR (bH prog 44 p0 S) fun t0=>
wR (aG prog .lss 3 x6 t0) fun t1=>
aE t1 (wR (aG prog .lss 3 x6 p1) fun t2=>
aE t2 (wR (aC prog 44 p0 x6) fun t3=>
wR (aB prog 61 t3 S) fun t4=>
wR (aJ none S (.row 0 17 [[.int .i64 0,.int .i64 0,.int .i64 0,.str [],.int .i64 0,.str [],.int .i64 0,.int .i64 0,.int .i64 0,.int .i64 0,.int .i64 0,.int .i64 0,.int .i64 0,.nils,.str [],.int .i64 0,.int .i64 0]])) fun r5=>
wR (aH prog 61 (.ptr r5.1 0 0 0) t4 r5.2) fun S6=>
wR (aA prog 61 (.ptr r5.1 0 0 0) 2) fun t11=>
wR (aA prog 59 t11 5) fun t12=>
wR (aB prog 55 t12 S6) fun t13=>
wR (bH prog 55 t13 S6) fun t14=>
wR (aG prog .gtr 3 t14 (.int .i64 15)) fun t15=>
aE t15 (wR (aA prog 61 (.ptr r5.1 0 0 0) 2) fun t16=>
wR (aA prog 59 t16 5) fun t17=>
wR (aB prog 55 t17 S6) fun t18=>
wR (cL prog 55 t18 none (some (.int .i64 15))) fun t19=>
wR (aA prog 61 (.ptr r5.1 0 0 0) 2) fun t20=>
wR (aA prog 59 t20 5) fun t21=>
wR (aH prog 55 t21 t19 S6) fun S22=>
aF8 C K again0 p0 p1 x5 x6 (.ptr r5.1 0 0 0) S22) (aF8 C K again0 p0 p1 x5 x6 (.ptr r5.1 0 0 0) S6)) (K x5 S)) (K x5 S)
noncomputable def m30 (C:aD) (a0 a1:V) (S:St) (K:KW):Prop:=
cU [(.nils),(.int .i64 0)] S (aF9 C K a0 a1)
theorem aZ7:(fun (C:aD) (a0 a1:V) (S:St) (K:KW)=>aM prog C (bC 30) (bE 30) 30 [a0,a1] S K)=fun C a0 a1 S K=>m30 C a0 a1 S K:=by kernel_rfl
noncomputable def m31 (C:aD) (S:St) (K:KW):Prop:=
wR (aJ none S (.row 0 6 [[.nils,.nils,.nils,.nils,.nils,.int .i64 0]])) fun r0=>
wR (aQ prog 30 [(5,(.int .i64 1))]) fun t1=>
wR (aH prog 30 (.ptr r0.1 0 0 0) t1 r0.2) fun S2=>
wR (aB prog 30 (.ptr r0.1 0 0 0) S2) fun t3=>
K t3 S2
theorem aZ8:(fun (C:aD) (S:St) (K:KW)=>aM prog C (bC 31) (bE 31) 31 [] S K)=fun C S K=>m31 C S K:=by kernel_rfl
noncomputable def aFa (C:aD) (K:KW) (p2 p4 p5 p9:V) (S:St)  :Prop:=
wR (aB prog 30 p2 (⟨S.next+4,S.heap⟩:St)) fun t76=>
wR (aB prog 48 p9 (⟨S.next+4,S.heap⟩:St)) fun t77=>
wR (aH prog 30 p4 t76 (⟨S.next+4,S.heap⟩:St)) fun S78=>
wR (aB prog 48 p9 S78) fun t79=>
bR (dP t77 t79) (wR (aH prog 48 p5 t77 S78) fun S80=>
wR (aB prog 30 p4 S80) fun t81=>
wR (aB prog 48 p5 S80) fun t82=>
K (.tup [t81,t82]) S80)
noncomputable def aBl (C:aD) (K:KW) (p2 p3 p4 p5 p28:V) (S:St)  :Prop:=
aE p28 (wR (aB prog 30 p2 (⟨S.next+4,S.heap⟩:St)) fun t20=>
C 103 [(.int .i64 17)] (⟨S.next+4,S.heap⟩:St) fun t21 S22=>
wR (aB prog 30 p2 S22) fun t23=>
bR (dP t20 t23) (wR (aH prog 30 p4 t20 S22) fun S24=>
wR (aH prog 48 p5 t21 S24) fun S25=>
wR (aB prog 30 p4 S25) fun t26=>
wR (aB prog 48 p5 S25) fun t27=>
K (.tup [t26,t27]) S25)) (wR (aA prog 61 p3 2) fun t28=>
wR (aA prog 59 t28 0) fun t29=>
wR (aB prog 3 t29 S) fun t30=>
bR (aL prog 3 t30 (.int .i64 6)) (wR (aG prog .eql 3 t30 (.int .i64 6)) fun t31=>
aE t31 (wR (aB prog 30 p2 S) fun t32=>
C 104 [t32] S fun t33 S34=>
bF t33 0 fun t35=>
bF t33 1 fun t36=>
wR (aH prog 30 p4 t35 S34) fun S37=>
wR (aH prog 48 p5 t36 S37) fun S38=>
wR (aB prog 30 p4 S38) fun t39=>
wR (aB prog 48 p5 S38) fun t40=>
K (.tup [t39,t40]) S38) (wR (aA prog 30 p2 4) fun t41=>
wR (aB prog 28 t41 S) fun t42=>
wR (aA prog 61 p3 0) fun t43=>
wR (aB prog 3 t43 S) fun t44=>
wR (aA prog 61 p3 1) fun t45=>
wR (aB prog 3 t45 S) fun t46=>
C 105 [t42,t44,t46] S fun t47 S48=>
bF t47 0 fun t49=>
bF t47 1 fun t50=>
bF t47 2 fun t51=>
wR (aJ none S48 (.row 0 3 [[.int .i64 0,.int .i64 0,.int .i64 0]])) fun r52=>
wR (aH prog 48 (.ptr r52.1 0 0 0) t49 r52.2) fun S53=>
bR (aL prog 31 t51 (.int .i64 0)) (wR (aG prog .neq 31 t51 (.int .i64 0)) fun t54=>
aE t54 (wR (aB prog 30 p2 (⟨S53.next+5,S53.heap⟩:St)) fun t55=>
C 103 [t51] (⟨S53.next+5,S53.heap⟩:St) fun t56 S57=>
wR (aB prog 30 p2 S57) fun t58=>
bR (dP t55 t58) (wR (aH prog 30 p4 t55 S57) fun S59=>
wR (aH prog 48 p5 t56 S59) fun S60=>
wR (aB prog 30 p4 S60) fun t61=>
wR (aB prog 48 p5 S60) fun t62=>
K (.tup [t61,t62]) S60)) (aE t50 (wR (aB prog 30 p2 (⟨S53.next+4,S53.heap⟩:St)) fun t63=>
wR (aB prog 48 (.ptr r52.1 0 0 0) (⟨S53.next+4,S53.heap⟩:St)) fun t64=>
wR (aH prog 30 p4 t63 (⟨S53.next+4,S53.heap⟩:St)) fun S65=>
wR (aB prog 48 (.ptr r52.1 0 0 0) S65) fun t66=>
bR (dP t64 t66) (wR (aH prog 48 p5 t64 S65) fun S67=>
wR (aB prog 30 p4 S67) fun t68=>
wR (aB prog 48 p5 S67) fun t69=>
K (.tup [t68,t69]) S67)) (wR (aA prog 61 p3 2) fun t70=>
wR (aB prog 59 t70 S53) fun t71=>
C 106 [p2,t71] S53 fun t72 S73=>
wR (aJ none S73 (.row 0 3 [[.int .i64 0,.int .i64 0,.int .i64 0]])) fun r74=>
wR (aH prog 48 (.ptr r74.1 0 0 0) t72 r74.2) fun S75=>
wR (aA prog 30 p2 4) fun t83=>
wR (aB prog 28 t83 S75) fun t84=>
wR (aA prog 61 p3 0) fun t85=>
wR (aB prog 3 t85 S75) fun t86=>
wR (aA prog 61 p3 1) fun t87=>
wR (aB prog 3 t87 S75) fun t88=>
wR (aB prog 48 (.ptr r74.1 0 0 0) S75) fun t89=>
C 107 [t84,t86,t88,t89] S75 fun t90 S91=>
bF t90 0 fun t92=>
bF t90 1 fun t93=>
bR (aL prog 31 t93 (.int .i64 0)) (wR (aG prog .eql 31 t93 (.int .i64 0)) fun t94=>
aE t94 (wR (aA prog 30 p2 4) fun t95=>
wR (aH prog 28 t95 t92 S91) fun S96=>
aFa C K p2 p4 p5 (.ptr r74.1 0 0 0) S96) (aFa C K p2 p4 p5 (.ptr r74.1 0 0 0) S91))))))))
noncomputable def m33 (C:aD) (a0 a1:V) (S:St) (K:KW):Prop:=
bR (aN (a0:V).cells) (wR (aJ none S (.row 0 (a0:V).cells.length [(a0:V).cells])) fun r0=>
bR (aN (a1:V).cells) (wR (aJ none r0.2 (.row 0 (a1:V).cells.length [(a1:V).cells])) fun r1=>
wR (aJ none r1.2 (.row 0 6 [[.nils,.nils,.nils,.nils,.nils,.int .i64 0]])) fun r2=>
wR (aJ none r2.2 (.row 0 3 [[.int .i64 0,.int .i64 0,.int .i64 0]])) fun r3=>
wR (aB prog 30 (.ptr r0.1 0 0 0) r3.2) fun t4=>
C 102 [t4] r3.2 fun t5 S6=>
wR (aH prog 30 (.ptr r0.1 0 0 0) t5 S6) fun S7=>
wR (aB prog 30 (.ptr r0.1 0 0 0) S7) fun t8=>
C 24 [t8] S7 fun t9 S10=>
wR (iU .not t9) fun t11=>
aE t11 (wR (aB prog 30 (.ptr r0.1 0 0 0) (⟨S10.next+4,S10.heap⟩:St)) fun t12=>
C 103 [(.int .i64 1)] (⟨S10.next+4,S10.heap⟩:St) fun t13 S14=>
wR (aB prog 30 (.ptr r0.1 0 0 0) S14) fun t15=>
bR (dP t12 t15) (wR (aH prog 30 (.ptr r2.1 0 0 0) t12 S14) fun S16=>
wR (aH prog 48 (.ptr r3.1 0 0 0) t13 S16) fun S17=>
wR (aB prog 30 (.ptr r2.1 0 0 0) S17) fun t18=>
wR (aB prog 48 (.ptr r3.1 0 0 0) S17) fun t19=>
K (.tup [t18,t19]) S17)) (wR (aA prog 61 (.ptr r1.1 0 0 0) 2) fun t97=>
wR (aA prog 59 t97 0) fun t98=>
wR (aB prog 3 t98 S10) fun t99=>
wR (aG prog .lss 3 t99 (.int .i64 1)) fun t100=>
aE t100 (aBl C K (.ptr r0.1 0 0 0) (.ptr r1.1 0 0 0) (.ptr r2.1 0 0 0) (.ptr r3.1 0 0 0) (.bool true) S10) (wR (aA prog 61 (.ptr r1.1 0 0 0) 2) fun t101=>
wR (aA prog 59 t101 0) fun t102=>
wR (aB prog 3 t102 S10) fun t103=>
wR (aG prog .gtr 3 t103 (.int .i64 8)) fun t104=>
aBl C K (.ptr r0.1 0 0 0) (.ptr r1.1 0 0 0) (.ptr r2.1 0 0 0) (.ptr r3.1 0 0 0) t104 S10))))
theorem aZ9:(fun (C:aD) (a0 a1:V) (S:St) (K:KW)=>aM prog C (bC 33) (bE 33) 33 [a0,a1] S K)=fun C a0 a1 S K=>m33 C a0 a1 S K:=by kernel_rfl
noncomputable def aJy (C:aD) (K:KW) (p2 p4 p12 p13:V) (vs:List V) (S:St) (again0:List V→St→Prop)  :Prop:=
eB vs fun x6 vs=>
eB vs fun x14 vs=>
wR (aG prog .lss 3 x14 p13) fun t7=>
aE t7 (wR (aC prog 44 p12 x14) fun t8=>
wR (aB prog 61 t8 S) fun t9=>
wR (aJ none S (.row 0 17 [[.int .i64 0,.int .i64 0,.int .i64 0,.str [],.int .i64 0,.str [],.int .i64 0,.int .i64 0,.int .i64 0,.int .i64 0,.int .i64 0,.int .i64 0,.int .i64 0,.nils,.str [],.int .i64 0,.int .i64 0]])) fun r10=>
wR (aH prog 61 (.ptr r10.1 0 0 0) t9 r10.2) fun S11=>
wR (aJ none S11 (.row 0 3 [[.int .i64 0,.int .i64 0,.int .i64 0]])) fun r12=>
wR (aB prog 30 p2 r12.2) fun t13=>
wR (aB prog 61 (.ptr r10.1 0 0 0) r12.2) fun t14=>
C 33 [t13,t14] r12.2 fun t15 S16=>
bF t15 0 fun t17=>
bF t15 1 fun t18=>
wR (aH prog 30 p2 t17 S16) fun S19=>
wR (aH prog 48 (.ptr r12.1 0 0 0) t18 S19) fun S20=>
wR (aB prog 48 (.ptr r12.1 0 0 0) S20) fun t21=>
wR (aK prog 62 1 [(0,t21)] none S20) fun r22=>
wR (aW prog 62 x6 r22.1 none r22.2) fun r23=>
wR (aG prog .add 3 x14 (.int .i64 1)) fun t24=>
again0 [r23.1,t24] r23.2) (wR (aB prog 30 p2 S) fun t25=>
wR (aH prog 30 p4 t25 S) fun S26=>
wR (aB prog 30 p4 S26) fun t27=>
K (.tup [t27,x6]) S26)
noncomputable def m35 (C:aD) (a0 a1:V) (S:St) (K:KW):Prop:=
bR (aN (a0:V).cells) (wR (aJ none S (.row 0 (a0:V).cells.length [(a0:V).cells])) fun r0=>
wR (aJ none r0.2 (.row 0 6 [[.nils,.nils,.nils,.nils,.nils,.int .i64 0]])) fun r1=>
wR (aB prog 30 (.ptr r0.1 0 0 0) r1.2) fun t2=>
C 102 [t2] r1.2 fun t3 S4=>
wR (aH prog 30 (.ptr r0.1 0 0 0) t3 S4) fun S5=>
wR (bH prog 44 a1 S5) fun t6=>
cU [(.nils),(.int .i64 0)] S5 (aJy C K (.ptr r0.1 0 0 0) (.ptr r1.1 0 0 0) a1 t6))
theorem aZa:(fun (C:aD) (a0 a1:V) (S:St) (K:KW)=>aM prog C (bC 35) (bE 35) 35 [a0,a1] S K)=fun C a0 a1 S K=>m35 C a0 a1 S K:=by kernel_rfl
noncomputable def aJz (C:aD) (K:KW) (again0:List V→St→Prop) (p4 p5 p26 p27 p28 p44 p45:V) (vs:List V) (S:St) (again1:List V→St→Prop)  :Prop:=
eB vs fun x6 vs=>
eB vs fun x7 vs=>
eB vs fun x8 vs=>
eB vs fun x46 vs=>
wR (aG prog .lss 3 x46 p45) fun t39=>
aE t39 (wR (aC prog 80 p44 x46) fun t40=>
wR (aB prog 145 t40 S) fun t41=>
wR (aJ none S (.row 0 4 [[.str [],.int .i64 0,.int .i64 0,.int .i64 0]])) fun r42=>
wR (aH prog 145 (.ptr r42.1 0 0 0) t41 r42.2) fun S43=>
wR (aB prog 145 (.ptr r42.1 0 0 0) S43) fun t44=>
C 125 [x8,t44] S43 fun t45 S46=>
bF t45 0 fun t47=>
bF t45 1 fun t48=>
bR (aL prog 31 t48 (.int .i64 0)) (wR (aG prog .neq 31 t48 (.int .i64 0)) fun t49=>
aE t49 (K (.tup [(.nils),t48]) S46) (wR (aG prog .add 3 x46 (.int .i64 1)) fun t50=>
again1 [x6,x7,t47,t50] S46))) (wR (aG prog .add 3 p28 (.int .i64 1)) fun t51=>
again0 [x6,x7,x8,t51] S)
noncomputable def aK0 (C:aD) (K:KW) (p4 p5 p26 p27:V) (vs:List V) (S:St) (again0:List V→St→Prop)  :Prop:=
eB vs fun x6 vs=>
eB vs fun x7 vs=>
eB vs fun x8 vs=>
eB vs fun x28 vs=>
wR (aG prog .lss 3 x28 p27) fun t18=>
aE t18 (wR (aC prog 26 p26 x28) fun t19=>
wR (aB prog 84 t19 S) fun t20=>
wR (aJ none S (.row 0 12 [[.str [],.int .i64 0,.int .i64 0,.int .i64 0,.int .i64 0,.int .i64 0,.int .i64 0,.int .i64 0,.nils,.str [],.int .i64 0,.bool false]])) fun r21=>
wR (aH prog 84 (.ptr r21.1 0 0 0) t20 r21.2) fun S22=>
wR (aA prog 84 (.ptr r21.1 0 0 0) 1) fun t23=>
wR (aB prog 52 t23 S22) fun t24=>
wR (aB prog 52 p4 S22) fun t25=>
C 124 [t24,t25] S22 fun t26 S27=>
aE t26 (wR (aG prog .add 3 x28 (.int .i64 1)) fun t28=>
again0 [x6,x7,x8,t28] S27) (wR (aB prog 52 p5 S27) fun t29=>
wR (aA prog 84 (.ptr r21.1 0 0 0) 1) fun t30=>
wR (aB prog 52 t30 S27) fun t31=>
C 124 [t29,t31] S27 fun t32 S33=>
aE t32 (wR (aG prog .add 3 x28 (.int .i64 1)) fun t34=>
again0 [x6,x7,x8,t34] S33) (wR (aA prog 84 (.ptr r21.1 0 0 0) 2) fun t35=>
wR (aA prog 82 t35 3) fun t36=>
wR (aB prog 80 t36 S33) fun t37=>
wR (bH prog 80 t37 S33) fun t38=>
cU [x6,x7,x8,(.int .i64 0)] S33 (aJz C K again0 p4 p5 p26 p27 x28 t37 t38)))) (K (.tup [x8,(.int .i64 0)]) S)
noncomputable def m40 (C:aD) (a0 a1 a2:V) (S:St) (K:KW):Prop:=
bR (aN (a0:V).cells) (wR (aJ none S (.row 0 (a0:V).cells.length [(a0:V).cells])) fun r0=>
bR (aN (a1:V).cells) (wR (aJ none r0.2 (.row 0 (a1:V).cells.length [(a1:V).cells])) fun r1=>
bR (aN (a2:V).cells) (wR (aJ none r1.2 (.row 0 (a2:V).cells.length [(a2:V).cells])) fun r2=>
wR (aB prog 30 (.ptr r0.1 0 0 0) r2.2) fun t3=>
C 24 [t3] r2.2 fun t4 S5=>
wR (iU .not t4) fun t6=>
aE t6 (K (.tup [(.nils),(.int .i64 1)]) S5) (wR (aB prog 52 (.ptr r1.1 0 0 0) S5) fun t7=>
C 123 [t7] S5 fun t8 S9=>
wR (iU .not t8) fun t10=>
aE t10 (K (.tup [(.nils),(.int .i64 9)]) S9) (wR (aB prog 52 (.ptr r2.1 0 0 0) S9) fun t11=>
C 123 [t11] S9 fun t12 S13=>
wR (iU .not t12) fun t14=>
aE t14 (K (.tup [(.nils),(.int .i64 9)]) S13) (wR (aA prog 30 (.ptr r0.1 0 0 0) 2) fun t15=>
wR (aB prog 26 t15 S13) fun t16=>
wR (bH prog 26 t16 S13) fun t17=>
cU [(.nils),(.int .i64 0),(.nils),(.int .i64 0)] S13 (aK0 C K (.ptr r1.1 0 0 0) (.ptr r2.1 0 0 0) t16 t17)))))))
theorem aZb:(fun (C:aD) (a0 a1 a2:V) (S:St) (K:KW)=>aM prog C (bC 40) (bE 40) 40 [a0,a1,a2] S K)=fun C a0 a1 a2 S K=>m40 C a0 a1 a2 S K:=by kernel_rfl
noncomputable def aK1 (C:aD) (K:KW) (p3 p7 p8:V) (vs:List V) (S:St) (again0:List V→St→Prop)  :Prop:=
eB vs fun x2 vs=>
eB vs fun x9 vs=>
wR (aG prog .lss 3 x9 p8) fun t2=>
aE t2 (wR (aC prog 26 p7 x9) fun t3=>
wR (aB prog 84 t3 S) fun t4=>
wR (aJ none S (.row 0 12 [[.str [],.int .i64 0,.int .i64 0,.int .i64 0,.int .i64 0,.int .i64 0,.int .i64 0,.int .i64 0,.nils,.str [],.int .i64 0,.bool false]])) fun r5=>
wR (aH prog 84 (.ptr r5.1 0 0 0) t4 r5.2) fun S6=>
wR (aA prog 84 (.ptr r5.1 0 0 0) 0) fun t7=>
wR (aA prog 57 t7 0) fun t8=>
wR (aB prog 9 t8 S6) fun t9=>
wR (lI prog 199 p3 t9 false S6) fun t10=>
wR (aG prog .add 3 t10 (.int .i64 1)) fun t11=>
wR (eS prog 199 p3 t9 t11 S6) fun S12=>
wR (aA prog 84 (.ptr r5.1 0 0 0) 0) fun t13=>
wR (aA prog 57 t13 1) fun t14=>
wR (aB prog 3 t14 S12) fun t15=>
wR (aA prog 84 (.ptr r5.1 0 0 0) 0) fun t16=>
wR (aA prog 57 t16 0) fun t17=>
wR (aB prog 9 t17 S12) fun t18=>
wR (lI prog 199 p3 t18 false S12) fun t19=>
bR (aL prog 3 t15 t19) (wR (aG prog .neq 3 t15 t19) fun t20=>
aE t20 (K x9 S12) (wR (aG prog .add 3 x9 (.int .i64 1)) fun t21=>
again0 [x2,t21] S12))) (K (.int .i64 (-1)) S)
noncomputable def m42 (C:aD) (a0:V) (S:St) (K:KW):Prop:=
wR (aJ none S (.mp [])) fun r0=>
wR (bH prog 26 a0 r0.2) fun t1=>
cU [(.int .i64 0),(.int .i64 0)] r0.2 (aK1 C K (.mp r0.1) a0 t1)
theorem aZc:(fun (C:aD) (a0:V) (S:St) (K:KW)=>aM prog C (bC 42) (bE 42) 42 [a0] S K)=fun C a0 S K=>m42 C a0 S K:=by kernel_rfl
noncomputable def m44 (C:aD) (S:St) (K:KW):Prop:=
C 31 [] S fun t0 S1=>
wR (aQ prog 59 [(0,(.int .i64 6))]) fun t2=>
wR (aQ prog 61 [(2,t2)]) fun t3=>
wR (aQ prog 52 [(0,(.int .i64 2000)),(1,(.int .i64 1)),(2,(.int .i64 1))]) fun t4=>
wR (aQ prog 54 [(0,(.str [115,116,100])),(1,t4),(2,(.int .i64 1900))]) fun t5=>
wR (aQ prog 59 [(0,(.int .i64 3)),(3,t5)]) fun t6=>
wR (aQ prog 61 [(0,(.int .i64 1)),(1,(.int .i64 1)),(2,t6)]) fun t7=>
wR (aQ prog 59 [(0,(.int .i64 1)),(1,(.str [97])),(2,(.int .i64 2))]) fun t8=>
wR (aQ prog 61 [(0,(.int .i64 1)),(1,(.int .i64 2)),(2,t8)]) fun t9=>
aF3 prog C (.func 128 [] []) [(.int .i64 3)] S1 fun t10 S11=>
aF3 prog C (.func 128 [] []) [(.int .i64 4)] S11 fun t12 S13=>
wR (aQ prog 59 [(0,(.int .i64 1)),(1,(.str [98])),(2,(.int .i64 9))]) fun t14=>
wR (aQ prog 61 [(0,(.int .i64 1)),(1,(.int .i64 6)),(2,t14)]) fun t15=>
C 46 [(.int .i64 15)] S13 fun t16 S17=>
wR (aQ prog 57 [(0,(.str [97])),(1,(.int .i64 1))]) fun t18=>
wR (aQ prog 59 [(0,(.int .i64 5)),(1,(.str [98])),(4,t16),(6,t18)]) fun t19=>
wR (aQ prog 61 [(0,(.int .i64 1)),(1,(.int .i64 7)),(2,t19)]) fun t20=>
wR (aK prog 44 7 [(0,t3),(1,t7),(2,t9),(3,t10),(4,t12),(5,t15),(6,t20)] none S17) fun r21=>
C 35 [t0,r21.1] r21.2 fun t22 S23=>
bF t22 0 fun t24=>
bF t22 1 fun t25=>
wR (aJ none S23 (.row 0 6 [[.nils,.nils,.nils,.nils,.nils,.int .i64 0]])) fun r26=>
wR (aH prog 30 (.ptr r26.1 0 0 0) t24 r26.2) fun S27=>
wR (aB prog 30 (.ptr r26.1 0 0 0) (⟨S27.next+9,S27.heap⟩:St)) fun t28=>
C 46 [(.int .i64 15)] (⟨S27.next+9,S27.heap⟩:St) fun t29 S30=>
wR (aB prog 30 (.ptr r26.1 0 0 0) S30) fun t31=>
bR (dP t28 t31) (C 46 [(.int .i64 15)] S30 fun t32 S33=>
wR (aB prog 30 (.ptr r26.1 0 0 0) S33) fun t34=>
bR (dP t28 t34) (C 40 [t28,t29,t32] S33 fun t35 S36=>
bF t35 0 fun t37=>
bF t35 1 fun t38=>
wR (aB prog 30 (.ptr r26.1 0 0 0) (⟨S36.next+9,S36.heap⟩:St)) fun t39=>
C 46 [(.int .i64 16)] (⟨S36.next+9,S36.heap⟩:St) fun t40 S41=>
wR (aB prog 30 (.ptr r26.1 0 0 0) S41) fun t42=>
bR (dP t39 t42) (C 46 [(.int .i64 16)] S41 fun t43 S44=>
wR (aB prog 30 (.ptr r26.1 0 0 0) S44) fun t45=>
bR (dP t39 t45) (C 40 [t39,t40,t43] S44 fun t46 S47=>
bF t46 0 fun t48=>
bF t46 1 fun t49=>
C 129 [(.str [97]),(.int .i64 1)] S47 fun t50 S51=>
C 129 [(.str [98]),(.int .i64 1)] S51 fun t52 S53=>
C 129 [(.str [97]),(.int .i64 2)] S53 fun t54 S55=>
wR (aK prog 26 3 [(0,t50),(1,t52),(2,t54)] none S55) fun r56=>
C 42 [r56.1] r56.2 fun t57 S58=>
bR (aL prog 3 t57 (.int .i64 (-1))) (wR (aG prog .eql 3 t57 (.int .i64 (-1))) fun t59=>
aE t59 (C 129 [(.str [97]),(.int .i64 1)] S58 fun t60 S61=>
C 129 [(.str [97]),(.int .i64 3)] S61 fun t62 S63=>
wR (aK prog 26 2 [(0,t60),(1,t62)] none S63) fun r64=>
C 42 [r64.1] r64.2 fun t65 S66=>
bR (aL prog 3 t65 (.int .i64 1)) (wR (aG prog .eql 3 t65 (.int .i64 1)) fun t67=>
aE t67 (C 129 [(.str [97]),(.int .i64 2)] S66 fun t68 S69=>
wR (aK prog 26 1 [(0,t68)] none S69) fun r70=>
C 42 [r70.1] r70.2 fun t71 S72=>
bR (aL prog 3 t71 (.int .i64 0)) (wR (aG prog .eql 3 t71 (.int .i64 0)) fun t73=>
aE t73 (bR (aL prog 31 t38 (.int .i64 0)) (wR (aG prog .eql 31 t38 (.int .i64 0)) fun t74=>
aE t74 (wR (aQ prog 76 [(0,(.str [115,116,100])),(1,(.int .i64 1900)),(2,(.int .i64 100)),(3,(.int .i64 19))]) fun t75=>
wR (aK prog 68 1 [(0,t75)] none S72) fun r76=>
C 130 [t37,r76.1] r76.2 fun t77 S78=>
aE t77 (bR (aL prog 31 t49 (.int .i64 0)) (wR (aG prog .eql 31 t49 (.int .i64 0)) fun t79=>
aE t79 (wR (bH prog 68 t48 S78) fun t80=>
bR (aL prog 3 t80 (.int .i64 0)) (wR (aG prog .eql 3 t80 (.int .i64 0)) fun t81=>
K t81 S78)) (K (.bool false) S78))) (K (.bool false) S78)) (K (.bool false) S72))) (K (.bool false) S72))) (K (.bool false) S66))) (K (.bool false) S58))))))
theorem aZd:(fun (C:aD) (S:St) (K:KW)=>aM prog C (bC 44) (bE 44) 44 [] S K)=fun C S K=>m44 C S K:=by kernel_rfl
noncomputable def m46 (C:aD) (a0:V) (S:St) (K:KW):Prop:=
wR (aJ none S (.row 0 3 [[.int .i64 0,.int .i64 0,.int .i64 0]])) fun r0=>
wR (aQ prog 52 [(0,(.int .i64 2026)),(1,(.int .i64 11)),(2,a0)]) fun t1=>
wR (aH prog 52 (.ptr r0.1 0 0 0) t1 r0.2) fun S2=>
wR (aB prog 52 (.ptr r0.1 0 0 0) S2) fun t3=>
K t3 S2
theorem aZe:(fun (C:aD) (a0:V) (S:St) (K:KW)=>aM prog C (bC 46) (bE 46) 46 [a0] S K)=fun C a0 S K=>m46 C a0 S K:=by kernel_rfl
noncomputable def aBm (C:aD) (K:KW) (again0:List V→St→Prop) (p0 p1 p4 p5 p6 p7 p8 p9 p45:V) (S:St)  :Prop:=
aE p45 (K (.tup [(.int .i64 0),(.int .i64 0),(.bool false)]) S) (wR (aC prog 68 p0 p9) fun t2=>
wR (aA prog 76 t2 0) fun t3=>
wR (aB prog 9 t3 S) fun t4=>
bR (aL prog 9 t4 p1) (wR (aG prog .eql 9 t4 p1) fun t5=>
aE t5 (wR (aC prog 68 p0 p9) fun t6=>
wR (aA prog 76 t6 2) fun t7=>
wR (aB prog 3 t7 (⟨S.next+16,S.heap⟩:St)) fun t8=>
wR (aG prog .add 3 p7 t8) fun t9=>
wR (aC prog 68 p0 p9) fun t10=>
wR (aA prog 76 t10 3) fun t11=>
wR (aB prog 3 t11 (⟨S.next+16,S.heap⟩:St)) fun t12=>
wR (aG prog .add 3 p8 t12) fun t13=>
wR (aG prog .add 3 p9 (.int .i64 1)) fun t14=>
again0 [p4,p5,p6,t9,t13,t14] (⟨S.next+16,S.heap⟩:St)) (wR (aG prog .add 3 p9 (.int .i64 1)) fun t15=>
again0 [p4,p5,p6,p7,p8,t15] S)))
noncomputable def aK2 (C:aD) (K:KW) (p0 p1:V) (vs:List V) (S:St) (again0:List V→St→Prop)  :Prop:=
eB vs fun x4 vs=>
eB vs fun x5 vs=>
eB vs fun x6 vs=>
eB vs fun x7 vs=>
eB vs fun x8 vs=>
eB vs fun x9 vs=>
wR (bH prog 68 p0 S) fun t0=>
wR (aG prog .lss 3 x9 t0) fun t1=>
aE t1 (wR (aC prog 68 p0 x9) fun t16=>
wR (aA prog 76 t16 2) fun t17=>
wR (aB prog 3 t17 S) fun t18=>
wR (aG prog .gtr 3 t18 (.int .i64 1152921504606846976)) fun t19=>
aE t19 (aBm C K again0 p0 p1 x4 x5 x6 x7 x8 x9 (.bool true) S) (wR (aC prog 68 p0 x9) fun t20=>
wR (aA prog 76 t20 2) fun t21=>
wR (aB prog 3 t21 S) fun t22=>
wR (aG prog .lss 3 t22 (.int .i64 (-1152921504606846976))) fun t23=>
aE t23 (aBm C K again0 p0 p1 x4 x5 x6 x7 x8 x9 (.bool true) S) (wR (aC prog 68 p0 x9) fun t24=>
wR (aA prog 76 t24 3) fun t25=>
wR (aB prog 3 t25 S) fun t26=>
wR (aG prog .gtr 3 t26 (.int .i64 1152921504606846976)) fun t27=>
aE t27 (aBm C K again0 p0 p1 x4 x5 x6 x7 x8 x9 (.bool true) S) (wR (aC prog 68 p0 x9) fun t28=>
wR (aA prog 76 t28 3) fun t29=>
wR (aB prog 3 t29 S) fun t30=>
wR (aG prog .lss 3 t30 (.int .i64 (-1152921504606846976))) fun t31=>
aBm C K again0 p0 p1 x4 x5 x6 x7 x8 x9 t31 S)))) (wR (bH prog 68 p0 S) fun t32=>
wR (aG prog .leq 3 t32 (.int .i64 4)) fun t33=>
K (.tup [x7,x8,t33]) S)
noncomputable def m47 (C:aD) (a0 a1:V) (S:St) (K:KW):Prop:=
cU [(.int .i64 0),(.int .i64 0),(.bool false),(.int .i64 0),(.int .i64 0),(.int .i64 0)] S (aK2 C K a0 a1)
theorem aZf:(fun (C:aD) (a0 a1:V) (S:St) (K:KW)=>aM prog C (bC 47) (bE 47) 47 [a0,a1] S K)=fun C a0 a1 S K=>m47 C a0 a1 S K:=by kernel_rfl
noncomputable def aK3 (C:aD) (K:KW) (p0 p8 p9:V) (vs:List V) (S:St) (again0:List V→St→Prop)  :Prop:=
eB vs fun x2 vs=>
eB vs fun x10 vs=>
wR (aG prog .lss 3 x10 p9) fun t3=>
aE t3 (wR (aC prog 24 p8 x10) fun t4=>
wR (aB prog 54 t4 S) fun t5=>
wR (aJ none S (.row 0 5 [[.str [],.int .i64 0,.int .i64 0,.int .i64 0,.int .i64 0]])) fun r6=>
wR (aH prog 54 (.ptr r6.1 0 0 0) t5 r6.2) fun S7=>
wR (aB prog 54 (.ptr r6.1 0 0 0) (⟨S7.next+17,S7.heap⟩:St)) fun t8=>
C 163 [t8] (⟨S7.next+17,S7.heap⟩:St) fun t9 S10=>
bR (aL prog 31 t9 (.int .i64 0)) (wR (aG prog .neq 31 t9 (.int .i64 0)) fun t11=>
aE t11 (K (.bool false) S10) (wR (aG prog .gtr 3 x10 (.int .i64 0)) fun t12=>
aE t12 (wR (aG prog .sub 3 x10 (.int .i64 1)) fun t13=>
wR (aC prog 24 p0 t13) fun t14=>
wR (aB prog 54 t14 S10) fun t15=>
wR (aB prog 54 (.ptr r6.1 0 0 0) S10) fun t16=>
C 164 [t15,t16] S10 fun t17 S18=>
wR (iU .not t17) fun t19=>
aE t19 (K (.bool false) S18) (wR (aG prog .add 3 x10 (.int .i64 1)) fun t20=>
again0 [x2,t20] S18)) (wR (aG prog .add 3 x10 (.int .i64 1)) fun t21=>
again0 [x2,t21] S10)))) (K (.bool true) S)
noncomputable def m85 (C:aD) (a0:V) (S:St) (K:KW):Prop:=
wR (bH prog 24 a0 S) fun t0=>
wR (aG prog .gtr 3 t0 (.int .i64 24)) fun t1=>
aE t1 (K (.bool false) S) (wR (bH prog 24 a0 S) fun t2=>
cU [(.bool false),(.int .i64 0)] S (aK3 C K a0 a0 t2))
theorem aZg:(fun (C:aD) (a0:V) (S:St) (K:KW)=>aM prog C (bC 85) (bE 85) 85 [a0] S K)=fun C a0 S K=>m85 C a0 S K:=by kernel_rfl
noncomputable def aK4 (C:aD) (K:KW) (again0:List V→St→Prop) (p0 p2 p4 p8 p9 p10:V) (S:St)  :Prop:=
wR (aA prog 126 p4 2) fun t8=>
wR (aB prog 3 t8 S) fun t9=>
wR (aG prog .lss 3 t9 (.int .i64 1)) fun t10=>
aE t10 (K (.bool false) S) (wR (aA prog 126 p4 2) fun t11=>
wR (aB prog 3 t11 S) fun t12=>
wR (aG prog .gtr 3 t12 (.int .i64 1099511627776)) fun t13=>
aE t13 (K (.bool false) S) (wR (aA prog 126 p4 1) fun t14=>
wR (aB prog 3 t14 S) fun t15=>
wR (aG prog .lss 3 t15 (.int .i64 1)) fun t16=>
aE t16 (K (.bool false) S) (wR (aA prog 126 p4 1) fun t17=>
wR (aB prog 3 t17 S) fun t18=>
wR (aA prog 126 p4 2) fun t19=>
wR (aB prog 3 t19 S) fun t20=>
wR (aG prog .add 3 t20 (.int .i64 1)) fun t21=>
wR (aG prog .gtr 3 t18 t21) fun t22=>
aE t22 (K (.bool false) S) (wR (aG prog .add 3 p10 (.int .i64 1)) fun t23=>
again0 [p2,t23] S))))
noncomputable def aK5 (C:aD) (K:KW) (p0 p8 p9:V) (vs:List V) (S:St) (again0:List V→St→Prop)  :Prop:=
eB vs fun x2 vs=>
eB vs fun x10 vs=>
wR (aG prog .lss 3 x10 p9) fun t3=>
aE t3 (wR (aC prog 25 p8 x10) fun t4=>
wR (aB prog 126 t4 S) fun t5=>
wR (aJ none S (.row 0 4 [[.str [],.int .i64 0,.int .i64 0,.bool false]])) fun r6=>
wR (aH prog 126 (.ptr r6.1 0 0 0) t5 r6.2) fun S7=>
wR (aA prog 126 (.ptr r6.1 0 0 0) 0) fun t24=>
wR (aB prog 9 t24 (⟨S7.next+19,S7.heap⟩:St)) fun t25=>
C 165 [t25] (⟨S7.next+19,S7.heap⟩:St) fun t26 S27=>
wR (iU .not t26) fun t28=>
aE t28 (K (.bool false) S27) (wR (aG prog .gtr 3 x10 (.int .i64 0)) fun t29=>
aE t29 (wR (aG prog .sub 3 x10 (.int .i64 1)) fun t30=>
wR (aC prog 25 p0 t30) fun t31=>
wR (aA prog 126 t31 0) fun t32=>
wR (aB prog 9 t32 S27) fun t33=>
wR (aA prog 126 (.ptr r6.1 0 0 0) 0) fun t34=>
wR (aB prog 9 t34 S27) fun t35=>
wR (aG prog .geq 9 t33 t35) fun t36=>
aE t36 (K (.bool false) S27) (aK4 C K again0 p0 x2 (.ptr r6.1 0 0 0) p8 p9 x10 S27)) (aK4 C K again0 p0 x2 (.ptr r6.1 0 0 0) p8 p9 x10 S27))) (K (.bool true) S)
noncomputable def m86 (C:aD) (a0:V) (S:St) (K:KW):Prop:=
wR (bH prog 25 a0 S) fun t0=>
wR (aG prog .gtr 3 t0 (.int .i64 8)) fun t1=>
aE t1 (K (.bool false) S) (wR (bH prog 25 a0 S) fun t2=>
cU [(.bool false),(.int .i64 0)] S (aK5 C K a0 a0 t2))
theorem aZh:(fun (C:aD) (a0:V) (S:St) (K:KW)=>aM prog C (bC 86) (bE 86) 86 [a0] S K)=fun C a0 S K=>m86 C a0 S K:=by kernel_rfl
noncomputable def m87 (C:aD) (a0:V) (S:St) (K:KW):Prop:=
bR (aN (a0:V).cells) (wR (aJ none S (.row 0 (a0:V).cells.length [(a0:V).cells])) fun r0=>
wR (aA prog 30 (.ptr r0.1 0 0 0) 4) fun t1=>
wR (aB prog 28 t1 r0.2) fun t2=>
wR (bH prog 28 t2 r0.2) fun t3=>
wR (aA prog 30 (.ptr r0.1 0 0 0) 4) fun t4=>
wR (aB prog 28 t4 (⟨r0.2.next+30,r0.2.heap⟩:St)) fun t5=>
C 166 [t5] (⟨r0.2.next+30,r0.2.heap⟩:St) fun t6 S7=>
aE t6 (wR (aA prog 30 (.ptr r0.1 0 0 0) 5) fun t8=>
wR (aB prog 3 t8 S7) fun t9=>
wR (aG prog .geq 3 t9 (.int .i64 1)) fun t10=>
aE t10 (wR (aA prog 30 (.ptr r0.1 0 0 0) 5) fun t11=>
wR (aB prog 3 t11 S7) fun t12=>
wR (aG prog .leq 3 t12 (.int .i64 1099511627776)) fun t13=>
aE t13 (bR (aL prog 3 t3 (.int .i64 0)) (wR (aG prog .eql 3 t3 (.int .i64 0)) fun t14=>
aE t14 (K (.bool true) S7) (wR (aA prog 30 (.ptr r0.1 0 0 0) 4) fun t15=>
wR (aB prog 28 t15 S7) fun t16=>
wR (aG prog .sub 3 t3 (.int .i64 1)) fun t17=>
wR (aC prog 28 t16 t17) fun t18=>
wR (aA prog 132 t18 0) fun t19=>
wR (aB prog 3 t19 S7) fun t20=>
wR (aA prog 30 (.ptr r0.1 0 0 0) 5) fun t21=>
wR (aB prog 3 t21 S7) fun t22=>
wR (aG prog .lss 3 t20 t22) fun t23=>
K t23 S7))) (K (.bool false) S7)) (K (.bool false) S7)) (K (.bool false) S7))
theorem aZi:(fun (C:aD) (a0:V) (S:St) (K:KW)=>aM prog C (bC 87) (bE 87) 87 [a0] S K)=fun C a0 S K=>m87 C a0 S K:=by kernel_rfl
noncomputable def aK6 (C:aD) (K:KW) (p3 p56 p57:V) (vs:List V) (S:St) (again1:List V→St→Prop)  :Prop:=
eB vs fun x2 vs=>
eB vs fun x58 vs=>
wR (aG prog .lss 3 x58 p57) fun t43=>
aE t43 (wR (aC prog 26 p56 x58) fun t44=>
wR (aB prog 84 t44 S) fun t45=>
wR (aJ none S (.row 0 12 [[.str [],.int .i64 0,.int .i64 0,.int .i64 0,.int .i64 0,.int .i64 0,.int .i64 0,.int .i64 0,.nils,.str [],.int .i64 0,.bool false]])) fun r46=>
wR (aH prog 84 (.ptr r46.1 0 0 0) t45 r46.2) fun S47=>
wR (aC prog 246 p3 x58) fun t48=>
wR (aB prog 3 t48 (⟨S47.next+13,S47.heap⟩:St)) fun t49=>
wR (aG prog .gtr 3 t49 (.int .i64 1)) fun t50=>
aE t50 (K (.bool false) (⟨S47.next+13,S47.heap⟩:St)) (wR (aA prog 84 (.ptr r46.1 0 0 0) 4) fun t51=>
wR (aB prog 4 t51 (⟨S47.next+13,S47.heap⟩:St)) fun t52=>
wR (aC prog 246 p3 x58) fun t53=>
wR (aB prog 3 t53 (⟨S47.next+13,S47.heap⟩:St)) fun t54=>
bR (aL prog 3 t54 (.int .i64 1)) (wR (aG prog .eql 3 t54 (.int .i64 1)) fun t55=>
bR (aL prog 4 t52 t55) (wR (aG prog .neq 4 t52 t55) fun t56=>
aE t56 (K (.bool false) (⟨S47.next+13,S47.heap⟩:St)) (wR (aG prog .add 3 x58 (.int .i64 1)) fun t57=>
again1 [x2,t57] (⟨S47.next+13,S47.heap⟩:St)))))) (K (.bool true) S)
noncomputable def aK7 (C:aD) (K:KW) (p0 p3 p12 p13:V) (vs:List V) (S:St) (again0:List V→St→Prop)  :Prop:=
eB vs fun x2 vs=>
eB vs fun x14 vs=>
wR (aG prog .lss 3 x14 p13) fun t4=>
aE t4 (wR (aC prog 26 p12 x14) fun t5=>
wR (aB prog 84 t5 S) fun t6=>
wR (aJ none S (.row 0 12 [[.str [],.int .i64 0,.int .i64 0,.int .i64 0,.int .i64 0,.int .i64 0,.int .i64 0,.int .i64 0,.nils,.str [],.int .i64 0,.bool false]])) fun r7=>
wR (aH prog 84 (.ptr r7.1 0 0 0) t6 r7.2) fun S8=>
wR (aA prog 84 (.ptr r7.1 0 0 0) 1) fun t9=>
wR (aB prog 52 t9 S8) fun t10=>
C 123 [t10] S8 fun t11 S12=>
wR (iU .not t11) fun t13=>
aE t13 (K (.bool false) S12) (wR (aA prog 84 (.ptr r7.1 0 0 0) 2) fun t14=>
wR (aB prog 82 t14 S12) fun t15=>
C 167 [t15] S12 fun t16 S17=>
wR (iU .not t16) fun t18=>
aE t18 (K (.bool false) S17) (wR (aA prog 84 (.ptr r7.1 0 0 0) 3) fun t19=>
wR (aB prog 57 t19 S17) fun t20=>
wR (aQ prog 57 []) fun t21=>
bR (aL prog 57 t20 t21) (wR (aG prog .eql 57 t20 t21) fun t22=>
aE t22 (wR (aG prog .add 3 x14 (.int .i64 1)) fun t23=>
again0 [x2,t23] S17) (wR (cL prog 26 p0 none (some x14)) fun t24=>
wR (aA prog 84 (.ptr r7.1 0 0 0) 3) fun t25=>
wR (aB prog 57 t25 (⟨S17.next+7,S17.heap⟩:St)) fun t26=>
C 168 [t24,t26] (⟨S17.next+7,S17.heap⟩:St) fun t27 S28=>
wR (aG prog .lss 3 t27 (.int .i64 0)) fun t29=>
aE t29 (K (.bool false) (⟨S28.next+11,S28.heap⟩:St)) (wR (aB prog 84 (.ptr r7.1 0 0 0) (⟨S28.next+11,S28.heap⟩:St)) fun t30=>
wR (aC prog 26 p0 t27) fun t31=>
wR (aB prog 84 t31 (⟨S28.next+11,S28.heap⟩:St)) fun t32=>
C 169 [t30,t32] (⟨S28.next+11,S28.heap⟩:St) fun t33 S34=>
wR (iU .not t33) fun t35=>
aE t35 (K (.bool false) S34) (wR (aC prog 246 p3 t27) fun t36=>
wR (aB prog 3 t36 S34) fun t37=>
wR (aG prog .add 3 t37 (.int .i64 1)) fun t38=>
wR (aC prog 246 p3 t27) fun t39=>
wR (aH prog 3 t39 t38 S34) fun S40=>
wR (aG prog .add 3 x14 (.int .i64 1)) fun t41=>
again0 [x2,t41] S40))))))) (wR (bH prog 26 p0 S) fun t42=>
cU [x2,(.int .i64 0)] S (aK6 C K p3 p0 t42))
noncomputable def m88 (C:aD) (a0:V) (S:St) (K:KW):Prop:=
wR (bH prog 26 a0 S) fun t0=>
wR (aG prog .gtr 3 t0 (.int .i64 40)) fun t1=>
aE t1 (K (.bool false) S) (wR (aJ none S (.row 0 40 [[.int .i64 0,.int .i64 0,.int .i64 0,.int .i64 0,.int .i64 0,.int .i64 0,.int .i64 0,.int .i64 0,.int .i64 0,.int .i64 0,.int .i64 0,.int .i64 0,.int .i64 0,.int .i64 0,.int .i64 0,.int .i64 0,.int .i64 0,.int .i64 0,.int .i64 0,.int .i64 0,.int .i64 0,.int .i64 0,.int .i64 0,.int .i64 0,.int .i64 0,.int .i64 0,.int .i64 0,.int .i64 0,.int .i64 0,.int .i64 0,.int .i64 0,.int .i64 0,.int .i64 0,.int .i64 0,.int .i64 0,.int .i64 0,.int .i64 0,.int .i64 0,.int .i64 0,.int .i64 0]])) fun r2=>
wR (bH prog 26 a0 r2.2) fun t3=>
cU [(.bool false),(.int .i64 0)] r2.2 (aK7 C K a0 (.ptr r2.1 0 0 0) a0 t3))
theorem aZj:(fun (C:aD) (a0:V) (S:St) (K:KW)=>aM prog C (bC 88) (bE 88) 88 [a0] S K)=fun C a0 S K=>m88 C a0 S K:=by kernel_rfl
noncomputable def aK8 (C:aD) (K:KW) (p3 p36 p37:V) (vs:List V) (S:St) (again1:List V→St→Prop)  :Prop:=
eB vs fun x2 vs=>
eB vs fun x38 vs=>
wR (aG prog .lss 3 x38 p37) fun t30=>
aE t30 (wR (aC prog 25 p36 x38) fun t31=>
wR (aB prog 126 t31 S) fun t32=>
wR (aJ none S (.row 0 4 [[.str [],.int .i64 0,.int .i64 0,.bool false]])) fun r33=>
wR (aH prog 126 (.ptr r33.1 0 0 0) t32 r33.2) fun S34=>
wR (aA prog 126 (.ptr r33.1 0 0 0) 1) fun t35=>
wR (aB prog 3 t35 (⟨S34.next+7,S34.heap⟩:St)) fun t36=>
wR (aC prog 249 p3 x38) fun t37=>
wR (aB prog 3 t37 (⟨S34.next+7,S34.heap⟩:St)) fun t38=>
wR (aG prog .add 3 t38 (.int .i64 1)) fun t39=>
bR (aL prog 3 t36 t39) (wR (aG prog .neq 3 t36 t39) fun t40=>
aE t40 (K (.bool false) (⟨S34.next+7,S34.heap⟩:St)) (wR (aG prog .add 3 x38 (.int .i64 1)) fun t41=>
again1 [x2,t41] (⟨S34.next+7,S34.heap⟩:St)))) (K (.bool true) S)
noncomputable def aK9 (C:aD) (K:KW) (p1 p3 p10 p11:V) (vs:List V) (S:St) (again0:List V→St→Prop)  :Prop:=
eB vs fun x2 vs=>
eB vs fun x12 vs=>
wR (aG prog .lss 3 x12 p11) fun t5=>
aE t5 (wR (aC prog 26 p10 x12) fun t6=>
wR (aB prog 84 t6 S) fun t7=>
wR (aJ none S (.row 0 12 [[.str [],.int .i64 0,.int .i64 0,.int .i64 0,.int .i64 0,.int .i64 0,.int .i64 0,.int .i64 0,.nils,.str [],.int .i64 0,.bool false]])) fun r8=>
wR (aH prog 84 (.ptr r8.1 0 0 0) t7 r8.2) fun S9=>
wR (aA prog 30 p1 1) fun t10=>
wR (aB prog 25 t10 S9) fun t11=>
C 152 [t11,(.func 170 [] [(.ptr r8.1 0 0 0)])] S9 fun t12 S13=>
wR (aG prog .lss 3 t12 (.int .i64 0)) fun t14=>
aE t14 (K (.bool false) S13) (wR (aC prog 249 p3 t12) fun t15=>
wR (aB prog 3 t15 S13) fun t16=>
wR (aG prog .add 3 t16 (.int .i64 1)) fun t17=>
wR (aC prog 249 p3 t12) fun t18=>
wR (aH prog 3 t18 t17 S13) fun S19=>
wR (aA prog 84 (.ptr r8.1 0 0 0) 0) fun t20=>
wR (aA prog 57 t20 1) fun t21=>
wR (aB prog 3 t21 (⟨S19.next+7,S19.heap⟩:St)) fun t22=>
wR (aC prog 249 p3 t12) fun t23=>
wR (aB prog 3 t23 (⟨S19.next+7,S19.heap⟩:St)) fun t24=>
bR (aL prog 3 t22 t24) (wR (aG prog .neq 3 t22 t24) fun t25=>
aE t25 (K (.bool false) (⟨S19.next+7,S19.heap⟩:St)) (wR (aG prog .add 3 x12 (.int .i64 1)) fun t26=>
again0 [x2,t26] (⟨S19.next+7,S19.heap⟩:St))))) (wR (aA prog 30 p1 1) fun t27=>
wR (aB prog 25 t27 S) fun t28=>
wR (bH prog 25 t28 S) fun t29=>
cU [x2,(.int .i64 0)] S (aK8 C K p3 t28 t29))
noncomputable def m89 (C:aD) (a0:V) (S:St) (K:KW):Prop:=
bR (aN (a0:V).cells) (wR (aJ none S (.row 0 (a0:V).cells.length [(a0:V).cells])) fun r0=>
wR (aJ none r0.2 (.row 0 8 [[.int .i64 0,.int .i64 0,.int .i64 0,.int .i64 0,.int .i64 0,.int .i64 0,.int .i64 0,.int .i64 0]])) fun r1=>
wR (aA prog 30 (.ptr r0.1 0 0 0) 2) fun t2=>
wR (aB prog 26 t2 r1.2) fun t3=>
wR (bH prog 26 t3 r1.2) fun t4=>
cU [(.bool false),(.int .i64 0)] r1.2 (aK9 C K (.ptr r0.1 0 0 0) (.ptr r1.1 0 0 0) t3 t4))
theorem aZk:(fun (C:aD) (a0:V) (S:St) (K:KW)=>aM prog C (bC 89) (bE 89) 89 [a0] S K)=fun C a0 S K=>m89 C a0 S K:=by kernel_rfl
noncomputable def aKa (C:aD) (K:KW) (p9 p10:V) (vs:List V) (S:St) (again0:List V→St→Prop)  :Prop:=
eB vs fun x2 vs=>
eB vs fun x3 vs=>
eB vs fun x4 vs=>
eB vs fun x11 vs=>
wR (aG prog .lss 3 x11 p10) fun t1=>
aE t1 (wR (aC prog 26 p9 x11) fun t2=>
wR (aB prog 84 t2 S) fun t3=>
wR (aJ none S (.row 0 12 [[.str [],.int .i64 0,.int .i64 0,.int .i64 0,.int .i64 0,.int .i64 0,.int .i64 0,.int .i64 0,.nils,.str [],.int .i64 0,.bool false]])) fun r4=>
wR (aH prog 84 (.ptr r4.1 0 0 0) t3 r4.2) fun S5=>
wR (aA prog 84 (.ptr r4.1 0 0 0) 2) fun t6=>
wR (aB prog 82 t6 S5) fun t7=>
C 157 [t7] S5 fun t8 S9=>
bF t8 0 fun t10=>
bF t8 1 fun t11=>
bR (aL prog 31 t11 (.int .i64 0)) (wR (aG prog .neq 31 t11 (.int .i64 0)) fun t12=>
aE t12 (K (.tup [(.nils),t11]) S9) (C 158 [x4,t10] S9 fun t13 S14=>
bF t13 0 fun t15=>
bF t13 1 fun t16=>
bR (aL prog 31 t16 (.int .i64 0)) (wR (aG prog .neq 31 t16 (.int .i64 0)) fun t17=>
aE t17 (K (.tup [(.nils),t16]) S14) (wR (aG prog .add 3 x11 (.int .i64 1)) fun t18=>
again0 [x2,x3,t15,t18] S14))))) (K (.tup [x4,(.int .i64 0)]) S)
noncomputable def m90 (C:aD) (a0:V) (S:St) (K:KW):Prop:=
wR (bH prog 26 a0 S) fun t0=>
cU [(.nils),(.int .i64 0),(.nils),(.int .i64 0)] S (aKa C K a0 t0)
theorem aZl:(fun (C:aD) (a0:V) (S:St) (K:KW)=>aM prog C (bC 90) (bE 90) 90 [a0] S K)=fun C a0 S K=>m90 C a0 S K:=by kernel_rfl
noncomputable def aKb (C:aD) (K:KW) (p0 p1 p12:V) (vs:List V) (S:St) (again0:List V→St→Prop)  :Prop:=
eB vs fun x4 vs=>
eB vs fun x13 vs=>
wR (aG prog .lss 3 x13 p12) fun t4=>
aE t4 (wR (aC prog 27 p0 x13) fun t5=>
wR (aB prog 90 t5 (⟨S.next+9,S.heap⟩:St)) fun t6=>
wR (aC prog 27 p1 x13) fun t7=>
wR (aB prog 90 t7 (⟨S.next+9,S.heap⟩:St)) fun t8=>
bR (aL prog 90 t6 t8) (wR (aG prog .neq 90 t6 t8) fun t9=>
aE t9 (K (.bool false) (⟨S.next+9,S.heap⟩:St)) (wR (aG prog .add 3 x13 (.int .i64 1)) fun t10=>
again0 [x4,t10] (⟨S.next+9,S.heap⟩:St)))) (K (.bool true) S)
noncomputable def m91 (C:aD) (a0 a1:V) (S:St) (K:KW):Prop:=
wR (bH prog 27 a0 S) fun t0=>
wR (bH prog 27 a1 S) fun t1=>
bR (aL prog 3 t0 t1) (wR (aG prog .neq 3 t0 t1) fun t2=>
aE t2 (K (.bool false) S) (wR (bH prog 27 a0 S) fun t3=>
cU [(.bool false),(.int .i64 0)] S (aKb C K a0 a1 t3)))
theorem aZm:(fun (C:aD) (a0 a1:V) (S:St) (K:KW)=>aM prog C (bC 91) (bE 91) 91 [a0,a1] S K)=fun C a0 a1 S K=>m91 C a0 a1 S K:=by kernel_rfl
noncomputable def aA5 (C:aD) (K:KW) (p1 p2 p26:V) (vs:List V) (S:St) (again0:List V→St→Prop)  :Prop:=
eB vs fun x27 vs=>
wR (aG prog .lss 3 x27 p26) fun t30=>
aE t30 (wR (aA prog 30 p1 2) fun t31=>
wR (aB prog 26 t31 (⟨S.next+15,S.heap⟩:St)) fun t32=>
wR (aA prog 30 p1 2) fun t33=>
wR (aB prog 26 t33 (⟨S.next+15,S.heap⟩:St)) fun t34=>
wR (aC prog 26 t34 x27) fun t35=>
wR (aA prog 84 t35 2) fun t36=>
wR (aA prog 82 t36 3) fun t37=>
wR (aB prog 80 t37 (⟨S.next+15,S.heap⟩:St)) fun t38=>
wR (aW prog 80 (.nils) t38 (some (S.next+10)) (⟨S.next+15,S.heap⟩:St)) fun r39=>
wR (aB prog 26 t31 r39.2) fun t40=>
bR (dP t32 t40) (wR (aC prog 26 t32 x27) fun t41=>
wR (aA prog 84 t41 2) fun t42=>
wR (aA prog 82 t42 3) fun t43=>
wR (aH prog 80 t43 r39.1 r39.2) fun S44=>
wR (aG prog .add 3 x27 (.int .i64 1)) fun t45=>
again0 [t45] S44)) (wR (aB prog 30 p1 S) fun t46=>
wR (aH prog 30 p2 t46 S) fun S47=>
wR (aB prog 30 p2 S47) fun t48=>
K t48 S47)
noncomputable def aSt (C:aD) (a0:V) (S:St) (K:KW):Prop:=
bR (aN (a0:V).cells) (wR (aJ none S (.row 0 (a0:V).cells.length [(a0:V).cells])) fun r0=>
wR (aJ none r0.2 (.row 0 6 [[.nils,.nils,.nils,.nils,.nils,.int .i64 0]])) fun r1=>
wR (aA prog 30 (.ptr r0.1 0 0 0) 0) fun t2=>
wR (aB prog 24 t2 r1.2) fun t3=>
wR (aW prog 24 (.nils) t3 none r1.2) fun r4=>
wR (aA prog 30 (.ptr r0.1 0 0 0) 0) fun t5=>
wR (aH prog 24 t5 r4.1 r4.2) fun S6=>
wR (aA prog 30 (.ptr r0.1 0 0 0) 1) fun t7=>
wR (aB prog 25 t7 S6) fun t8=>
wR (aW prog 25 (.nils) t8 none S6) fun r9=>
wR (aA prog 30 (.ptr r0.1 0 0 0) 1) fun t10=>
wR (aH prog 25 t10 r9.1 r9.2) fun S11=>
wR (aA prog 30 (.ptr r0.1 0 0 0) 3) fun t12=>
wR (aB prog 27 t12 S11) fun t13=>
wR (aW prog 27 (.nils) t13 none S11) fun r14=>
wR (aA prog 30 (.ptr r0.1 0 0 0) 3) fun t15=>
wR (aH prog 27 t15 r14.1 r14.2) fun S16=>
wR (aA prog 30 (.ptr r0.1 0 0 0) 4) fun t17=>
wR (aB prog 28 t17 S16) fun t18=>
wR (aW prog 28 (.nils) t18 none S16) fun r19=>
wR (aA prog 30 (.ptr r0.1 0 0 0) 4) fun t20=>
wR (aH prog 28 t20 r19.1 r19.2) fun S21=>
wR (aA prog 30 (.ptr r0.1 0 0 0) 2) fun t22=>
wR (aB prog 26 t22 S21) fun t23=>
wR (aW prog 26 (.nils) t23 none S21) fun r24=>
wR (aA prog 30 (.ptr r0.1 0 0 0) 2) fun t25=>
wR (aH prog 26 t25 r24.1 r24.2) fun S26=>
wR (aA prog 30 (.ptr r0.1 0 0 0) 2) fun t27=>
wR (aB prog 26 t27 S26) fun t28=>
wR (bH prog 26 t28 S26) fun t29=>
cU [(.int .i64 0)] S26 (aA5 C K (.ptr r0.1 0 0 0) (.ptr r1.1 0 0 0) t29))
theorem aSu:(fun (C:aD) (a0:V) (S:St) (K:KW)=>aM prog C (bC 102) (bE 102) 102 [a0] S K)=fun C a0 S K=>aSt C a0 S K:=by kernel_rfl
noncomputable def aSv (C:aD) (a0:V) (S:St) (K:KW):Prop:=
wR (aJ none S (.row 0 3 [[.int .i64 0,.int .i64 0,.int .i64 0]])) fun r0=>
wR (aQ prog 48 [(0,a0)]) fun t1=>
wR (aH prog 48 (.ptr r0.1 0 0 0) t1 r0.2) fun S2=>
wR (aB prog 48 (.ptr r0.1 0 0 0) S2) fun t3=>
K t3 S2
theorem aSw:(fun (C:aD) (a0:V) (S:St) (K:KW)=>aM prog C (bC 103) (bE 103) 103 [a0] S K)=fun C a0 S K=>aSv C a0 S K:=by kernel_rfl
noncomputable def aFb (C:aD) (K:KW) (p1 p2 p3 p15:V) (S:St)  :Prop:=
aE p15 (wR (aB prog 30 p1 (⟨S.next+4,S.heap⟩:St)) fun t3=>
C 103 [(.int .i64 14)] (⟨S.next+4,S.heap⟩:St) fun t4 S5=>
wR (aB prog 30 p1 S5) fun t6=>
bR (dP t3 t6) (wR (aH prog 30 p2 t3 S5) fun S7=>
wR (aH prog 48 p3 t4 S7) fun S8=>
wR (aB prog 30 p2 S8) fun t9=>
wR (aB prog 48 p3 S8) fun t10=>
K (.tup [t9,t10]) S8)) (wR (aA prog 30 p1 4) fun t11=>
wR (aB prog 28 t11 S) fun t12=>
wR (aA prog 30 p1 5) fun t13=>
wR (aB prog 3 t13 S) fun t14=>
C 173 [t12,t14] S fun t15 S16=>
bF t15 0 fun t17=>
bF t15 1 fun t18=>
bR (aL prog 31 t18 (.int .i64 0)) (wR (aG prog .neq 31 t18 (.int .i64 0)) fun t19=>
aE t19 (wR (aB prog 30 p1 (⟨S16.next+5,S16.heap⟩:St)) fun t20=>
C 103 [t18] (⟨S16.next+5,S16.heap⟩:St) fun t21 S22=>
wR (aB prog 30 p1 S22) fun t23=>
bR (dP t20 t23) (wR (aH prog 30 p2 t20 S22) fun S24=>
wR (aH prog 48 p3 t21 S24) fun S25=>
wR (aB prog 30 p2 S25) fun t26=>
wR (aB prog 48 p3 S25) fun t27=>
K (.tup [t26,t27]) S25)) (wR (aA prog 30 p1 5) fun t28=>
wR (aB prog 3 t28 S16) fun t29=>
wR (aQ prog 48 [(1,t29)]) fun t30=>
wR (aJ none S16 (.row 0 3 [[.int .i64 0,.int .i64 0,.int .i64 0]])) fun r31=>
wR (aH prog 48 (.ptr r31.1 0 0 0) t30 r31.2) fun S32=>
wR (aA prog 30 p1 4) fun t33=>
wR (aH prog 28 t33 t17 S32) fun S34=>
wR (aA prog 30 p1 5) fun t35=>
wR (aB prog 3 t35 S34) fun t36=>
wR (aG prog .add 3 t36 (.int .i64 1)) fun t37=>
wR (aA prog 30 p1 5) fun t38=>
wR (aH prog 3 t38 t37 S34) fun S39=>
wR (aB prog 30 p1 (⟨S39.next+4,S39.heap⟩:St)) fun t40=>
wR (aB prog 48 (.ptr r31.1 0 0 0) (⟨S39.next+4,S39.heap⟩:St)) fun t41=>
wR (aH prog 30 p2 t40 (⟨S39.next+4,S39.heap⟩:St)) fun S42=>
wR (aB prog 48 (.ptr r31.1 0 0 0) S42) fun t43=>
bR (dP t41 t43) (wR (aH prog 48 p3 t41 S42) fun S44=>
wR (aB prog 30 p2 S44) fun t45=>
wR (aB prog 48 p3 S44) fun t46=>
K (.tup [t45,t46]) S44))))
noncomputable def aSx (C:aD) (a0:V) (S:St) (K:KW):Prop:=
bR (aN (a0:V).cells) (wR (aJ none S (.row 0 (a0:V).cells.length [(a0:V).cells])) fun r0=>
wR (aJ none r0.2 (.row 0 6 [[.nils,.nils,.nils,.nils,.nils,.int .i64 0]])) fun r1=>
wR (aJ none r1.2 (.row 0 3 [[.int .i64 0,.int .i64 0,.int .i64 0]])) fun r2=>
wR (aA prog 30 (.ptr r0.1 0 0 0) 4) fun t47=>
wR (aB prog 28 t47 r2.2) fun t48=>
wR (bH prog 28 t48 r2.2) fun t49=>
wR (aG prog .geq 3 t49 (.int .i64 8)) fun t50=>
aE t50 (aFb C K (.ptr r0.1 0 0 0) (.ptr r1.1 0 0 0) (.ptr r2.1 0 0 0) (.bool true) r2.2) (wR (aA prog 30 (.ptr r0.1 0 0 0) 5) fun t51=>
wR (aB prog 3 t51 r2.2) fun t52=>
wR (aG prog .geq 3 t52 (.int .i64 1099511627776)) fun t53=>
aFb C K (.ptr r0.1 0 0 0) (.ptr r1.1 0 0 0) (.ptr r2.1 0 0 0) t53 r2.2))
theorem aSy:(fun (C:aD) (a0:V) (S:St) (K:KW)=>aM prog C (bC 104) (bE 104) 104 [a0] S K)=fun C a0 S K=>aSx C a0 S K:=by kernel_rfl
noncomputable def aFc (C:aD) (K:KW) (p0 p2 p6 p9 p21:V) (S:St)  :Prop:=
aE p21 (wR (aQ prog 48 []) fun t13=>
wR (aH prog 48 p6 t13 S) fun S14=>
wR (aB prog 48 p6 S14) fun t15=>
K (.tup [t15,(.bool false),(.int .i64 1)]) S14) (wR (aC prog 28 p0 p9) fun t16=>
wR (aA prog 132 t16 1) fun t17=>
wR (aB prog 3 t17 S) fun t18=>
bR (aL prog 3 p2 t18) (wR (aG prog .eql 3 p2 t18) fun t19=>
aE t19 (wR (aC prog 28 p0 p9) fun t20=>
wR (aA prog 132 t20 2) fun t21=>
wR (aB prog 48 t21 S) fun t22=>
wR (aH prog 48 p6 t22 S) fun S23=>
wR (aB prog 48 p6 S23) fun t24=>
K (.tup [t24,(.bool true),(.int .i64 0)]) S23) (wR (aC prog 28 p0 p9) fun t25=>
wR (aA prog 132 t25 1) fun t26=>
wR (aB prog 3 t26 S) fun t27=>
wR (aG prog .lss 3 p2 t27) fun t28=>
aE t28 (wR (aQ prog 48 []) fun t29=>
wR (aH prog 48 p6 t29 S) fun S30=>
wR (aB prog 48 p6 S30) fun t31=>
K (.tup [t31,(.bool false),(.int .i64 16)]) S30) (wR (aQ prog 48 []) fun t32=>
wR (aH prog 48 p6 t32 S) fun S33=>
wR (aB prog 48 p6 S33) fun t34=>
K (.tup [t34,(.bool false),(.int .i64 0)]) S33))))
noncomputable def aSz (C:aD) (a0 a1 a2:V) (S:St) (K:KW):Prop:=
wR (aJ none S (.row 0 3 [[.int .i64 0,.int .i64 0,.int .i64 0]])) fun r0=>
C 166 [a0] r0.2 fun t1 S2=>
wR (iU .not t1) fun t3=>
aE t3 (wR (aQ prog 48 []) fun t4=>
wR (aH prog 48 (.ptr r0.1 0 0 0) t4 S2) fun S5=>
wR (aB prog 48 (.ptr r0.1 0 0 0) S5) fun t6=>
K (.tup [t6,(.bool false),(.int .i64 1)]) S5) (C 174 [a0,a1] S2 fun t7 S8=>
wR (aG prog .lss 3 t7 (.int .i64 0)) fun t9=>
aE t9 (wR (aQ prog 48 []) fun t10=>
wR (aH prog 48 (.ptr r0.1 0 0 0) t10 S8) fun S11=>
wR (aB prog 48 (.ptr r0.1 0 0 0) S11) fun t12=>
K (.tup [t12,(.bool false),(.int .i64 15)]) S11) (wR (aG prog .lss 3 a2 (.int .i64 1)) fun t35=>
aE t35 (aFc C K a0 a2 (.ptr r0.1 0 0 0) t7 (.bool true) S8) (wR (aG prog .gtr 3 a2 (.int .i64 1099511627776)) fun t36=>
aFc C K a0 a2 (.ptr r0.1 0 0 0) t7 t36 S8)))
theorem aT0:(fun (C:aD) (a0 a1 a2:V) (S:St) (K:KW)=>aM prog C (bC 105) (bE 105) 105 [a0,a1,a2] S K)=fun C a0 a1 a2 S K=>aSz C a0 a1 a2 S K:=by kernel_rfl
noncomputable def aT1 (C:aD) (a0 a1:V) (S:St) (K:KW):Prop:=
bR (aN (a1:V).cells) (wR (aJ none S (.row 0 (a1:V).cells.length [(a1:V).cells])) fun r0=>
wR (aJ none r0.2 (.row 0 3 [[.int .i64 0,.int .i64 0,.int .i64 0]])) fun r1=>
wR (aA prog 59 (.ptr r0.1 0 0 0) 0) fun t2=>
wR (aB prog 3 t2 r1.2) fun t3=>
bR (aL prog 3 t3 (.int .i64 1)) (wR (aG prog .eql 3 t3 (.int .i64 1)) fun t4=>
aE t4 (gI a0 (wR (aA prog 30 a0 1) fun t5=>
wR (aB prog 25 t5 (⟨r1.2.next+14,r1.2.heap⟩:St)) fun t6=>
wR (aA prog 59 (.ptr r0.1 0 0 0) 1) fun t7=>
wR (aB prog 9 t7 (⟨r1.2.next+14,r1.2.heap⟩:St)) fun t8=>
wR (aA prog 59 (.ptr r0.1 0 0 0) 2) fun t9=>
wR (aB prog 3 t9 (⟨r1.2.next+14,r1.2.heap⟩:St)) fun t10=>
C 175 [t6,t8,t10] (⟨r1.2.next+14,r1.2.heap⟩:St) fun t11 S12=>
bF t11 0 fun t13=>
bF t11 1 fun t14=>
gI a0 (wR (aA prog 30 a0 1) fun t15=>
C 176 [t15,t13,t14] S12 fun t16 S17=>
wR (aH prog 48 (.ptr r1.1 0 0 0) t16 S17) fun S18=>
wR (aB prog 48 (.ptr r1.1 0 0 0) S18) fun t19=>
K t19 S18))) (bR (aL prog 3 t3 (.int .i64 2)) (wR (aG prog .eql 3 t3 (.int .i64 2)) fun t20=>
aE t20 (gI a0 (wR (aA prog 30 a0 1) fun t21=>
wR (aB prog 25 t21 (⟨r1.2.next+12,r1.2.heap⟩:St)) fun t22=>
wR (aA prog 59 (.ptr r0.1 0 0 0) 1) fun t23=>
wR (aB prog 9 t23 (⟨r1.2.next+12,r1.2.heap⟩:St)) fun t24=>
C 177 [t22,t24] (⟨r1.2.next+12,r1.2.heap⟩:St) fun t25 S26=>
bF t25 0 fun t27=>
bF t25 1 fun t28=>
gI a0 (wR (aA prog 30 a0 1) fun t29=>
C 176 [t29,t27,t28] S26 fun t30 S31=>
wR (aH prog 48 (.ptr r1.1 0 0 0) t30 S31) fun S32=>
wR (aB prog 48 (.ptr r1.1 0 0 0) S32) fun t33=>
K t33 S32))) (bR (aL prog 3 t3 (.int .i64 3)) (wR (aG prog .eql 3 t3 (.int .i64 3)) fun t34=>
aE t34 (gI a0 (wR (aA prog 30 a0 0) fun t35=>
wR (aB prog 24 t35 (⟨r1.2.next+12,r1.2.heap⟩:St)) fun t36=>
wR (aA prog 59 (.ptr r0.1 0 0 0) 3) fun t37=>
wR (aB prog 54 t37 (⟨r1.2.next+12,r1.2.heap⟩:St)) fun t38=>
C 178 [t36,t38] (⟨r1.2.next+12,r1.2.heap⟩:St) fun t39 S40=>
bF t39 0 fun t41=>
bF t39 1 fun t42=>
gI a0 (wR (aA prog 30 a0 0) fun t43=>
C 179 [t43,t41,t42] S40 fun t44 S45=>
wR (aH prog 48 (.ptr r1.1 0 0 0) t44 S45) fun S46=>
wR (aB prog 48 (.ptr r1.1 0 0 0) S46) fun t47=>
K t47 S46))) (bR (aL prog 3 t3 (.int .i64 4)) (wR (aG prog .eql 3 t3 (.int .i64 4)) fun t48=>
aE t48 (wR (aB prog 59 (.ptr r0.1 0 0 0) r1.2) fun t49=>
C 180 [a0,t49] r1.2 fun t50 S51=>
wR (aH prog 48 (.ptr r1.1 0 0 0) t50 S51) fun S52=>
wR (aB prog 48 (.ptr r1.1 0 0 0) S52) fun t53=>
K t53 S52) (bR (aL prog 3 t3 (.int .i64 5)) (wR (aG prog .eql 3 t3 (.int .i64 5)) fun t54=>
aE t54 (wR (aB prog 59 (.ptr r0.1 0 0 0) r1.2) fun t55=>
C 181 [a0,t55] r1.2 fun t56 S57=>
wR (aH prog 48 (.ptr r1.1 0 0 0) t56 S57) fun S58=>
wR (aB prog 48 (.ptr r1.1 0 0 0) S58) fun t59=>
K t59 S58) (bR (aL prog 3 t3 (.int .i64 7)) (wR (aG prog .eql 3 t3 (.int .i64 7)) fun t60=>
aE t60 (gI a0 (wR (aA prog 30 a0 4) fun t61=>
wR (aB prog 28 t61 (⟨r1.2.next+12,r1.2.heap⟩:St)) fun t62=>
wR (aA prog 59 (.ptr r0.1 0 0 0) 7) fun t63=>
wR (aB prog 3 t63 (⟨r1.2.next+12,r1.2.heap⟩:St)) fun t64=>
C 182 [t62,t64] (⟨r1.2.next+12,r1.2.heap⟩:St) fun t65 S66=>
bF t65 0 fun t67=>
bF t65 1 fun t68=>
gI a0 (wR (aA prog 30 a0 4) fun t69=>
C 183 [t69,t67,t68] S66 fun t70 S71=>
wR (aH prog 48 (.ptr r1.1 0 0 0) t70 S71) fun S72=>
wR (aB prog 48 (.ptr r1.1 0 0 0) S72) fun t73=>
K t73 S72))) (wR (aA prog 59 (.ptr r0.1 0 0 0) 1) fun t74=>
wR (aB prog 9 t74 r1.2) fun t75=>
C 184 [a0,t75] r1.2 fun t76 S77=>
wR (aH prog 48 (.ptr r1.1 0 0 0) t76 S77) fun S78=>
wR (aB prog 48 (.ptr r1.1 0 0 0) S78) fun t79=>
K t79 S78)))))))))))))
theorem aT2:(fun (C:aD) (a0 a1:V) (S:St) (K:KW)=>aM prog C (bC 106) (bE 106) 106 [a0,a1] S K)=fun C a0 a1 S K=>aT1 C a0 a1 S K:=by kernel_rfl
noncomputable def aT3 (C:aD) (a0 a1 a2 a3:V) (S:St) (K:KW):Prop:=
bR (aN (a3:V).cells) (wR (aJ none S (.row 0 (a3:V).cells.length [(a3:V).cells])) fun r0=>
C 105 [a0,a1,a2] r0.2 fun t1 S2=>
bF t1 0 fun t3=>
bF t1 1 fun t4=>
bF t1 2 fun t5=>
wR (aJ none S2 (.row 0 3 [[.int .i64 0,.int .i64 0,.int .i64 0]])) fun r6=>
wR (aH prog 48 (.ptr r6.1 0 0 0) t3 r6.2) fun S7=>
bR (aL prog 31 t5 (.int .i64 0)) (wR (aG prog .neq 31 t5 (.int .i64 0)) fun t8=>
aE t8 (K (.tup [(.nils),t5]) S7) (aE t4 (K (.tup [(.nils),(.int .i64 12)]) S7) (wR (aW prog 28 (.nils) a0 none S7) fun r9=>
C 174 [r9.1,a1] r9.2 fun t10 S11=>
wR (aB prog 48 (.ptr r0.1 0 0 0) (⟨S11.next+12,S11.heap⟩:St)) fun t12=>
wR (aC prog 28 r9.1 t10) fun t13=>
wR (aA prog 132 t13 1) fun t14=>
wR (aH prog 3 t14 a2 (⟨S11.next+12,S11.heap⟩:St)) fun S15=>
wR (aB prog 48 (.ptr r0.1 0 0 0) S15) fun t16=>
bR (dP t12 t16) (wR (aC prog 28 r9.1 t10) fun t17=>
wR (aA prog 132 t17 2) fun t18=>
wR (aH prog 48 t18 t12 S15) fun S19=>
K (.tup [r9.1,(.int .i64 0)]) S19)))))
theorem aT4:(fun (C:aD) (a0 a1 a2 a3:V) (S:St) (K:KW)=>aM prog C (bC 107) (bE 107) 107 [a0,a1,a2,a3] S K)=fun C a0 a1 a2 a3 S K=>aT3 C a0 a1 a2 a3 S K:=by kernel_rfl
noncomputable def aT5 (C:aD) (a0:V) (S:St) (K:KW):Prop:=
bR (aN (a0:V).cells) (wR (aJ none S (.row 0 (a0:V).cells.length [(a0:V).cells])) fun r0=>
wR (aA prog 52 (.ptr r0.1 0 0 0) 0) fun t1=>
wR (aB prog 3 t1 (⟨r0.2.next+34,r0.2.heap⟩:St)) fun t2=>
wR (aG prog .geq 3 t2 (.int .i64 1)) fun t3=>
aE t3 (wR (aA prog 52 (.ptr r0.1 0 0 0) 0) fun t4=>
wR (aB prog 3 t4 (⟨r0.2.next+34,r0.2.heap⟩:St)) fun t5=>
wR (aG prog .leq 3 t5 (.int .i64 9999)) fun t6=>
aE t6 (wR (aA prog 52 (.ptr r0.1 0 0 0) 1) fun t7=>
wR (aB prog 3 t7 (⟨r0.2.next+34,r0.2.heap⟩:St)) fun t8=>
wR (aG prog .geq 3 t8 (.int .i64 1)) fun t9=>
aE t9 (wR (aA prog 52 (.ptr r0.1 0 0 0) 1) fun t10=>
wR (aB prog 3 t10 (⟨r0.2.next+34,r0.2.heap⟩:St)) fun t11=>
wR (aG prog .leq 3 t11 (.int .i64 12)) fun t12=>
aE t12 (wR (aA prog 52 (.ptr r0.1 0 0 0) 2) fun t13=>
wR (aB prog 3 t13 (⟨r0.2.next+34,r0.2.heap⟩:St)) fun t14=>
wR (aG prog .geq 3 t14 (.int .i64 1)) fun t15=>
aE t15 (wR (aA prog 52 (.ptr r0.1 0 0 0) 2) fun t16=>
wR (aB prog 3 t16 (⟨r0.2.next+34,r0.2.heap⟩:St)) fun t17=>
wR (aA prog 52 (.ptr r0.1 0 0 0) 0) fun t18=>
wR (aB prog 3 t18 (⟨r0.2.next+34,r0.2.heap⟩:St)) fun t19=>
wR (aA prog 52 (.ptr r0.1 0 0 0) 1) fun t20=>
wR (aB prog 3 t20 (⟨r0.2.next+34,r0.2.heap⟩:St)) fun t21=>
C 132 [t19,t21] (⟨r0.2.next+34,r0.2.heap⟩:St) fun t22 S23=>
wR (aB prog 3 t16 S23) fun t24=>
bR (dP t17 t24) (wR (aG prog .leq 3 t17 t22) fun t25=>
K t25 S23)) (K (.bool false) (⟨r0.2.next+34,r0.2.heap⟩:St))) (K (.bool false) (⟨r0.2.next+34,r0.2.heap⟩:St))) (K (.bool false) (⟨r0.2.next+34,r0.2.heap⟩:St))) (K (.bool false) (⟨r0.2.next+34,r0.2.heap⟩:St))) (K (.bool false) (⟨r0.2.next+34,r0.2.heap⟩:St)))
theorem aT6:(fun (C:aD) (a0:V) (S:St) (K:KW)=>aM prog C (bC 123) (bE 123) 123 [a0] S K)=fun C a0 S K=>aT5 C a0 S K:=by kernel_rfl
noncomputable def aT7 (C:aD) (a0 a1:V) (S:St) (K:KW):Prop:=
bR (aN (a0:V).cells) (wR (aJ none S (.row 0 (a0:V).cells.length [(a0:V).cells])) fun r0=>
bR (aN (a1:V).cells) (wR (aJ none r0.2 (.row 0 (a1:V).cells.length [(a1:V).cells])) fun r1=>
wR (aB prog 52 (.ptr r0.1 0 0 0) (⟨r1.2.next+14,r1.2.heap⟩:St)) fun t2=>
C 123 [t2] (⟨r1.2.next+14,r1.2.heap⟩:St) fun t3 S4=>
aE t3 (wR (aB prog 52 (.ptr r1.1 0 0 0) S4) fun t5=>
C 123 [t5] S4 fun t6 S7=>
aE t6 (wR (aB prog 52 (.ptr r0.1 0 0 0) S7) fun t8=>
wR (aB prog 52 (.ptr r1.1 0 0 0) S7) fun t9=>
C 200 [t8] S7 fun t10 S11=>
wR (aB prog 52 (.ptr r1.1 0 0 0) S11) fun t12=>
bR (dP t9 t12) (C 200 [t9] S11 fun t13 S14=>
wR (aG prog .lss 3 t10 t13) fun t15=>
K t15 S14)) (K (.bool false) S7)) (K (.bool false) S4)))
theorem aT8:(fun (C:aD) (a0 a1:V) (S:St) (K:KW)=>aM prog C (bC 124) (bE 124) 124 [a0,a1] S K)=fun C a0 a1 S K=>aT7 C a0 a1 S K:=by kernel_rfl
noncomputable def aA6 (C:aD) (K:KW) (p0 p3 p6:V) (S:St)  :Prop:=
wR (aC prog 68 p0 p6) fun t1=>
wR (aA prog 76 t1 2) fun t2=>
wR (aB prog 3 t2 (⟨S.next+13,S.heap⟩:St)) fun t3=>
wR (aA prog 145 p3 2) fun t4=>
wR (aB prog 3 t4 (⟨S.next+13,S.heap⟩:St)) fun t5=>
C 203 [t3,t5] (⟨S.next+13,S.heap⟩:St) fun t6 S7=>
bF t6 0 fun t8=>
bF t6 1 fun t9=>
wR (aC prog 68 p0 p6) fun t10=>
wR (aA prog 76 t10 3) fun t11=>
wR (aB prog 3 t11 (⟨S7.next+13,S7.heap⟩:St)) fun t12=>
wR (aA prog 145 p3 3) fun t13=>
wR (aB prog 3 t13 (⟨S7.next+13,S7.heap⟩:St)) fun t14=>
C 203 [t12,t14] (⟨S7.next+13,S7.heap⟩:St) fun t15 S16=>
bF t15 0 fun t17=>
bF t15 1 fun t18=>
bR (aL prog 31 t9 (.int .i64 0)) (wR (aG prog .neq 31 t9 (.int .i64 0)) fun t19=>
aE t19 (K (.tup [(.nils),(.int .i64 7)]) S16) (bR (aL prog 31 t18 (.int .i64 0)) (wR (aG prog .neq 31 t18 (.int .i64 0)) fun t20=>
aE t20 (K (.tup [(.nils),(.int .i64 7)]) S16) (wR (aC prog 68 p0 p6) fun t21=>
wR (aA prog 76 t21 2) fun t22=>
wR (aH prog 3 t22 t8 S16) fun S23=>
wR (aC prog 68 p0 p6) fun t24=>
wR (aA prog 76 t24 3) fun t25=>
wR (aH prog 3 t25 t17 S23) fun S26=>
K (.tup [p0,(.int .i64 0)]) S26))))
noncomputable def sB (C:aD) (K:KW) (p0 p3 p6 p48:V) (S:St)  :Prop:=
aE p48 (wR (aA prog 145 p3 0) fun t27=>
wR (aB prog 9 t27 S) fun t28=>
wR (aA prog 145 p3 1) fun t29=>
wR (aB prog 3 t29 S) fun t30=>
wR (aQ prog 76 [(0,t28),(1,t30)]) fun t31=>
wR (aK prog 68 1 [(0,t31)] none S) fun r32=>
C 202 [p0,p6,r32.1] r32.2 fun t33 S34=>
aA6 C K t33 p3 p6 S34) (aA6 C K p0 p3 p6 S)
noncomputable def aA7 (C:aD) (K:KW) (p0 p3 p6:V) (S:St)  :Prop:=
wR (bH prog 68 p0 (⟨S.next+24,S.heap⟩:St)) fun t35=>
bR (aL prog 3 p6 t35) (wR (aG prog .eql 3 p6 t35) fun t36=>
aE t36 (sB C K p0 p3 p6 (.bool true) (⟨S.next+24,S.heap⟩:St)) (wR (aC prog 68 p0 p6) fun t37=>
wR (aA prog 76 t37 0) fun t38=>
wR (aB prog 9 t38 (⟨S.next+24,S.heap⟩:St)) fun t39=>
wR (aA prog 145 p3 0) fun t40=>
wR (aB prog 9 t40 (⟨S.next+24,S.heap⟩:St)) fun t41=>
bR (aL prog 9 t39 t41) (wR (aG prog .neq 9 t39 t41) fun t42=>
aE t42 (sB C K p0 p3 p6 (.bool true) (⟨S.next+24,S.heap⟩:St)) (wR (aC prog 68 p0 p6) fun t43=>
wR (aA prog 76 t43 1) fun t44=>
wR (aB prog 3 t44 (⟨S.next+24,S.heap⟩:St)) fun t45=>
wR (aA prog 145 p3 1) fun t46=>
wR (aB prog 3 t46 (⟨S.next+24,S.heap⟩:St)) fun t47=>
bR (aL prog 3 t45 t47) (wR (aG prog .neq 3 t45 t47) fun t48=>
sB C K p0 p3 p6 t48 (⟨S.next+24,S.heap⟩:St))))))
noncomputable def aFd (C:aD) (K:KW) (p0 p3:V) (vs:List V) (S:St) (again0:List V→St→Prop)  :Prop:=
eB vs fun x6 vs=>
wR (bH prog 68 p0 (⟨S.next+12,S.heap⟩:St)) fun t49=>
wR (aG prog .lss 3 x6 t49) fun t50=>
aE t50 (wR (aC prog 68 p0 x6) fun t51=>
wR (aB prog 76 t51 (⟨S.next+12,S.heap⟩:St)) fun t52=>
wR (aB prog 145 p3 (⟨S.next+12,S.heap⟩:St)) fun t53=>
C 201 [t52,t53] (⟨S.next+12,S.heap⟩:St) fun t54 S55=>
aE t54 (wR (aG prog .add 3 x6 (.int .i64 1)) fun t56=>
again0 [t56] S55) (aA7 C K p0 p3 x6 S55)) (aA7 C K p0 p3 x6 (⟨S.next+12,S.heap⟩:St))
noncomputable def aT9 (C:aD) (a0 a1:V) (S:St) (K:KW):Prop:=
bR (aN (a1:V).cells) (wR (aJ none S (.row 0 (a1:V).cells.length [(a1:V).cells])) fun r0=>
cU [(.int .i64 0)] r0.2 (aFd C K a0 (.ptr r0.1 0 0 0)))
theorem aTa:(fun (C:aD) (a0 a1:V) (S:St) (K:KW)=>aM prog C (bC 125) (bE 125) 125 [a0,a1] S K)=fun C a0 a1 S K=>aT9 C a0 a1 S K:=by kernel_rfl
noncomputable def aTb (C:aD) (a0:V) (S:St) (K:KW):Prop:=
wR (aJ none S (.row 0 17 [[.int .i64 0,.int .i64 0,.int .i64 0,.str [],.int .i64 0,.str [],.int .i64 0,.int .i64 0,.int .i64 0,.int .i64 0,.int .i64 0,.int .i64 0,.int .i64 0,.nils,.str [],.int .i64 0,.int .i64 0]])) fun r0=>
C 46 [(.int .i64 15)] r0.2 fun t1 S2=>
wR (aQ prog 201 [(1,(.str [115,116,100])),(2,(.int .i64 1)),(3,(.int .i64 100))]) fun t3=>
wR (aK prog 55 1 [(0,t3)] none S2) fun r4=>
wR (aQ prog 59 [(0,(.int .i64 4)),(1,(.str [97])),(4,t1),(5,r4.1)]) fun t5=>
wR (aQ prog 61 [(0,(.int .i64 1)),(1,a0),(2,t5)]) fun t6=>
wR (aH prog 61 (.ptr r0.1 0 0 0) t6 r4.2) fun S7=>
wR (aB prog 61 (.ptr r0.1 0 0 0) S7) fun t8=>
K t8 S7
theorem aTc:(fun (C:aD) (a0:V) (S:St) (K:KW)=>aM prog C (bC 128) (bE 128) 128 [a0] S K)=fun C a0 S K=>aTb C a0 S K:=by kernel_rfl
noncomputable def aTd (C:aD) (a0 a1:V) (S:St) (K:KW):Prop:=
wR (aJ none S (.row 0 12 [[.str [],.int .i64 0,.int .i64 0,.int .i64 0,.int .i64 0,.int .i64 0,.int .i64 0,.int .i64 0,.nils,.str [],.int .i64 0,.bool false]])) fun r0=>
wR (aQ prog 57 [(0,a0),(1,a1)]) fun t1=>
wR (aQ prog 84 [(0,t1)]) fun t2=>
wR (aH prog 84 (.ptr r0.1 0 0 0) t2 r0.2) fun S3=>
wR (aB prog 84 (.ptr r0.1 0 0 0) S3) fun t4=>
K t4 S3
theorem aTe:(fun (C:aD) (a0 a1:V) (S:St) (K:KW)=>aM prog C (bC 129) (bE 129) 129 [a0,a1] S K)=fun C a0 a1 S K=>aTd C a0 a1 S K:=by kernel_rfl
noncomputable def aFe (C:aD) (K:KW) (p0 p1:V) (vs:List V) (S:St) (again0:List V→St→Prop)  :Prop:=
eB vs fun x4 vs=>
eB vs fun x5 vs=>
wR (bH prog 68 p0 S) fun t3=>
wR (aG prog .lss 3 x5 t3) fun t4=>
aE t4 (wR (aC prog 68 p0 x5) fun t5=>
wR (aB prog 76 t5 (⟨S.next+9,S.heap⟩:St)) fun t6=>
wR (aC prog 68 p1 x5) fun t7=>
wR (aB prog 76 t7 (⟨S.next+9,S.heap⟩:St)) fun t8=>
bR (aL prog 76 t6 t8) (wR (aG prog .neq 76 t6 t8) fun t9=>
aE t9 (K (.bool false) (⟨S.next+9,S.heap⟩:St)) (wR (aG prog .add 3 x5 (.int .i64 1)) fun t10=>
again0 [x4,t10] (⟨S.next+9,S.heap⟩:St)))) (K (.bool true) S)
noncomputable def aTf (C:aD) (a0 a1:V) (S:St) (K:KW):Prop:=
wR (bH prog 68 a0 S) fun t0=>
wR (bH prog 68 a1 S) fun t1=>
bR (aL prog 3 t0 t1) (wR (aG prog .neq 3 t0 t1) fun t2=>
aE t2 (K (.bool false) S) (cU [(.bool false),(.int .i64 0)] S (aFe C K a0 a1)))
theorem aTg:(fun (C:aD) (a0 a1:V) (S:St) (K:KW)=>aM prog C (bC 130) (bE 130) 130 [a0,a1] S K)=fun C a0 a1 S K=>aTf C a0 a1 S K:=by kernel_rfl
noncomputable def aTh (C:aD) (a0:V) (S:St) (K:KW):Prop:=
wR (aG prog .sub 3 a0 (.int .i64 1)) fun t0=>
wR (aG prog .mul 3 (.int .i64 365) t0) fun t1=>
wR (aG prog .quo 3 t0 (.int .i64 4)) fun t2=>
wR (aG prog .add 3 t1 t2) fun t3=>
wR (aG prog .quo 3 t0 (.int .i64 100)) fun t4=>
wR (aG prog .sub 3 t3 t4) fun t5=>
wR (aG prog .quo 3 t0 (.int .i64 400)) fun t6=>
wR (aG prog .add 3 t5 t6) fun t7=>
K t7 S
theorem aTi:(fun (C:aD) (a0:V) (S:St) (K:KW)=>aM prog C (bC 131) (bE 131) 131 [a0] S K)=fun C a0 S K=>aTh C a0 S K:=by kernel_rfl
noncomputable def aTj (C:aD) (a0 a1:V) (S:St) (K:KW):Prop:=
bR (aL prog 3 a1 (.int .i64 2)) (wR (aG prog .eql 3 a1 (.int .i64 2)) fun t0=>
aE t0 (C 204 [a0] S fun t1 S2=>
aE t1 (K (.int .i64 29) S2) (K (.int .i64 28) S2)) (bR (aL prog 3 a1 (.int .i64 4)) (wR (aG prog .eql 3 a1 (.int .i64 4)) fun t3=>
aE t3 (K (.int .i64 30) S) (bR (aL prog 3 a1 (.int .i64 6)) (wR (aG prog .eql 3 a1 (.int .i64 6)) fun t4=>
aE t4 (K (.int .i64 30) S) (bR (aL prog 3 a1 (.int .i64 9)) (wR (aG prog .eql 3 a1 (.int .i64 9)) fun t5=>
aE t5 (K (.int .i64 30) S) (bR (aL prog 3 a1 (.int .i64 11)) (wR (aG prog .eql 3 a1 (.int .i64 11)) fun t6=>
aE t6 (K (.int .i64 30) S) (K (.int .i64 31) S))))))))))
theorem aTk:(fun (C:aD) (a0 a1:V) (S:St) (K:KW)=>aM prog C (bC 132) (bE 132) 132 [a0,a1] S K)=fun C a0 a1 S K=>aTj C a0 a1 S K:=by kernel_rfl
noncomputable def aFf (C:aD) (K:KW) (p0 p1 p7:V) (vs:List V) (S:St) (again0:List V→St→Prop)  :Prop:=
eB vs fun x4 vs=>
eB vs fun x8 vs=>
wR (aG prog .lss 3 x8 p7) fun t1=>
aE t1 (wR (aC prog 25 p0 x8) fun t2=>
wR (aB prog 126 t2 S) fun t3=>
aF3 prog C p1 [t3] S fun t4 S5=>
aE t4 (K x8 S5) (wR (aG prog .add 3 x8 (.int .i64 1)) fun t6=>
again0 [x4,t6] S5)) (K (.int .i64 (-1)) S)
noncomputable def aZn (C:aD) (a0 a1:V) (S:St) (K:KW):Prop:=
wR (bH prog 25 a0 S) fun t0=>
cU [(.int .i64 0),(.int .i64 0)] S (aFf C K a0 a1 t0)
theorem aTl:(fun (C:aD) (a0 a1:V) (S:St) (K:KW)=>aM prog C (bC 152) (bE 152) 152 [a0,a1] S K)=fun C a0 a1 S K=>aZn C a0 a1 S K:=by kernel_rfl
noncomputable def aFg (C:aD) (K:KW) (p0 p1 p7:V) (vs:List V) (S:St) (again0:List V→St→Prop)  :Prop:=
eB vs fun x4 vs=>
eB vs fun x8 vs=>
wR (aG prog .lss 3 x8 p7) fun t1=>
aE t1 (wR (aC prog 26 p0 x8) fun t2=>
wR (aB prog 84 t2 S) fun t3=>
aF3 prog C p1 [t3] S fun t4 S5=>
aE t4 (K x8 S5) (wR (aG prog .add 3 x8 (.int .i64 1)) fun t6=>
again0 [x4,t6] S5)) (K (.int .i64 (-1)) S)
noncomputable def aZo (C:aD) (a0 a1:V) (S:St) (K:KW):Prop:=
wR (bH prog 26 a0 S) fun t0=>
cU [(.int .i64 0),(.int .i64 0)] S (aFg C K a0 a1 t0)
theorem aTm:(fun (C:aD) (a0 a1:V) (S:St) (K:KW)=>aM prog C (bC 155) (bE 155) 155 [a0,a1] S K)=fun C a0 a1 S K=>aZo C a0 a1 S K:=by kernel_rfl
noncomputable def aFh (C:aD) (K:KW) (p16 p17:V) (vs:List V) (S:St) (again0:List V→St→Prop)  :Prop:=
eB vs fun x2 vs=>
eB vs fun x3 vs=>
eB vs fun x4 vs=>
eB vs fun x18 vs=>
wR (aG prog .lss 3 x18 p17) fun t8=>
aE t8 (wR (aC prog 80 p16 x18) fun t9=>
wR (aB prog 145 t9 S) fun t10=>
wR (aJ none S (.row 0 4 [[.str [],.int .i64 0,.int .i64 0,.int .i64 0]])) fun r11=>
wR (aH prog 145 (.ptr r11.1 0 0 0) t10 r11.2) fun S12=>
wR (aA prog 145 (.ptr r11.1 0 0 0) 2) fun t13=>
wR (aB prog 3 t13 S12) fun t14=>
C 219 [(.int .i64 0),t14] S12 fun t15 S16=>
bF t15 0 fun t17=>
bF t15 1 fun t18=>
wR (aA prog 145 (.ptr r11.1 0 0 0) 3) fun t19=>
wR (aB prog 3 t19 S16) fun t20=>
C 219 [(.int .i64 0),t20] S16 fun t21 S22=>
bF t21 0 fun t23=>
bF t21 1 fun t24=>
bR (aL prog 31 t18 (.int .i64 0)) (wR (aG prog .neq 31 t18 (.int .i64 0)) fun t25=>
aE t25 (K (.tup [(.nils),(.int .i64 7)]) S22) (bR (aL prog 31 t24 (.int .i64 0)) (wR (aG prog .neq 31 t24 (.int .i64 0)) fun t26=>
aE t26 (K (.tup [(.nils),(.int .i64 7)]) S22) (wR (aA prog 145 (.ptr r11.1 0 0 0) 0) fun t27=>
wR (aB prog 9 t27 S22) fun t28=>
wR (aG prog .add 9 (.str [110,101,116,47]) t28) fun t29=>
wR (aQ prog 90 [(0,t29),(1,t17)]) fun t30=>
wR (aA prog 145 (.ptr r11.1 0 0 0) 0) fun t31=>
wR (aB prog 9 t31 S22) fun t32=>
wR (aG prog .add 9 (.str [116,97,120,47]) t32) fun t33=>
wR (aQ prog 90 [(0,t33),(1,t23)]) fun t34=>
wR (aK prog 27 2 [(0,t30),(1,t34)] none S22) fun r35=>
wR (aW prog 27 x4 r35.1 none r35.2) fun r36=>
wR (aG prog .add 3 x18 (.int .i64 1)) fun t37=>
again0 [x2,x3,r36.1,t37] r36.2))))) (K (.tup [x4,(.int .i64 0)]) S)
noncomputable def aTn (C:aD) (a0:V) (S:St) (K:KW):Prop:=
bR (aN (a0:V).cells) (wR (aJ none S (.row 0 (a0:V).cells.length [(a0:V).cells])) fun r0=>
wR (aA prog 82 (.ptr r0.1 0 0 0) 2) fun t1=>
wR (aB prog 3 t1 r0.2) fun t2=>
wR (aQ prog 90 [(0,(.str [111,119,101,100])),(1,t2)]) fun t3=>
wR (aK prog 27 1 [(0,t3)] none r0.2) fun r4=>
wR (aA prog 82 (.ptr r0.1 0 0 0) 3) fun t5=>
wR (aB prog 80 t5 r4.2) fun t6=>
wR (bH prog 80 t6 r4.2) fun t7=>
cU [(.nils),(.int .i64 0),r4.1,(.int .i64 0)] r4.2 (aFh C K t6 t7))
theorem aTo:(fun (C:aD) (a0:V) (S:St) (K:KW)=>aM prog C (bC 157) (bE 157) 157 [a0] S K)=fun C a0 S K=>aTn C a0 S K:=by kernel_rfl
noncomputable def aA8 (C:aD) (K:KW) (again0:List V→St→Prop) (p4 p5 p6 p8 p9 p17 p18 p19:V) (S:St)  :Prop:=
wR (aC prog 27 p6 p9) fun t10=>
wR (aA prog 90 t10 1) fun t11=>
wR (aB prog 3 t11 (⟨S.next+13,S.heap⟩:St)) fun t12=>
wR (aA prog 90 p8 1) fun t13=>
wR (aB prog 3 t13 (⟨S.next+13,S.heap⟩:St)) fun t14=>
C 203 [t12,t14] (⟨S.next+13,S.heap⟩:St) fun t15 S16=>
bF t15 0 fun t17=>
bF t15 1 fun t18=>
bR (aL prog 31 t18 (.int .i64 0)) (wR (aG prog .neq 31 t18 (.int .i64 0)) fun t19=>
aE t19 (K (.tup [(.nils),t18]) S16) (wR (aC prog 27 p6 p9) fun t20=>
wR (aA prog 90 t20 1) fun t21=>
wR (aH prog 3 t21 t17 S16) fun S22=>
wR (aG prog .add 3 p19 (.int .i64 1)) fun t23=>
again0 [p4,p5,p6,t23] S22))
noncomputable def vT (C:aD) (K:KW) (again0:List V→St→Prop) (p4 p5 p6 p8 p9 p17 p18 p19 p52:V) (S:St)  :Prop:=
aE p52 (wR (aA prog 90 p8 0) fun t24=>
wR (aB prog 9 t24 S) fun t25=>
wR (aQ prog 90 [(0,t25)]) fun t26=>
wR (aK prog 27 1 [(0,t26)] none S) fun r27=>
C 221 [p6,p9,r27.1] r27.2 fun t28 S29=>
aA8 C K again0 p4 p5 t28 p8 p9 p17 p18 p19 S29) (aA8 C K again0 p4 p5 p6 p8 p9 p17 p18 p19 S)
noncomputable def aA9 (C:aD) (K:KW) (again0:List V→St→Prop) (p4 p5 p6 p8 p9 p17 p18 p19:V) (S:St)  :Prop:=
wR (bH prog 27 p6 (⟨S.next+14,S.heap⟩:St)) fun t30=>
bR (aL prog 3 p9 t30) (wR (aG prog .eql 3 p9 t30) fun t31=>
aE t31 (vT C K again0 p4 p5 p6 p8 p9 p17 p18 p19 (.bool true) (⟨S.next+14,S.heap⟩:St)) (wR (aC prog 27 p6 p9) fun t32=>
wR (aA prog 90 t32 0) fun t33=>
wR (aB prog 9 t33 (⟨S.next+14,S.heap⟩:St)) fun t34=>
wR (aA prog 90 p8 0) fun t35=>
wR (aB prog 9 t35 (⟨S.next+14,S.heap⟩:St)) fun t36=>
bR (aL prog 9 t34 t36) (wR (aG prog .neq 9 t34 t36) fun t37=>
vT C K again0 p4 p5 p6 p8 p9 p17 p18 p19 t37 (⟨S.next+14,S.heap⟩:St))))
noncomputable def aFi (C:aD) (K:KW) (again0:List V→St→Prop) (p4 p5 p6 p8 p17 p18 p19:V) (vs:List V) (S:St) (again1:List V→St→Prop)  :Prop:=
eB vs fun x9 vs=>
wR (bH prog 27 p6 (⟨S.next+14,S.heap⟩:St)) fun t38=>
wR (aG prog .lss 3 x9 t38) fun t39=>
aE t39 (wR (aC prog 27 p6 x9) fun t40=>
wR (aA prog 90 t40 0) fun t41=>
wR (aB prog 9 t41 (⟨S.next+14,S.heap⟩:St)) fun t42=>
wR (aA prog 90 p8 0) fun t43=>
wR (aB prog 9 t43 (⟨S.next+14,S.heap⟩:St)) fun t44=>
wR (aG prog .lss 9 t42 t44) fun t45=>
aE t45 (wR (aG prog .add 3 x9 (.int .i64 1)) fun t46=>
again1 [t46] (⟨S.next+14,S.heap⟩:St)) (aA9 C K again0 p4 p5 p6 p8 x9 p17 p18 p19 (⟨S.next+14,S.heap⟩:St))) (aA9 C K again0 p4 p5 p6 p8 x9 p17 p18 p19 (⟨S.next+14,S.heap⟩:St))
noncomputable def aFj (C:aD) (K:KW) (p17 p18:V) (vs:List V) (S:St) (again0:List V→St→Prop)  :Prop:=
eB vs fun x4 vs=>
eB vs fun x5 vs=>
eB vs fun x6 vs=>
eB vs fun x19 vs=>
wR (aG prog .lss 3 x19 p18) fun t5=>
aE t5 (wR (aC prog 27 p17 x19) fun t6=>
wR (aB prog 90 t6 S) fun t7=>
wR (aJ none S (.row 0 2 [[.str [],.int .i64 0]])) fun r8=>
wR (aH prog 90 (.ptr r8.1 0 0 0) t7 r8.2) fun S9=>
cU [(.int .i64 0)] S9 (aFi C K again0 x4 x5 x6 (.ptr r8.1 0 0 0) p17 p18 x19)) (K (.tup [x6,(.int .i64 0)]) S)
noncomputable def aTp (C:aD) (a0 a1:V) (S:St) (K:KW):Prop:=
C 220 [a0] S fun t0 S1=>
wR (iU .not t0) fun t2=>
aE t2 (K (.tup [(.nils),(.int .i64 1)]) S1) (wR (aW prog 27 (.nils) a0 none S1) fun r3=>
wR (bH prog 27 a1 r3.2) fun t4=>
cU [(.nils),(.int .i64 0),r3.1,(.int .i64 0)] r3.2 (aFj C K a1 t4))
theorem aTq:(fun (C:aD) (a0 a1:V) (S:St) (K:KW)=>aM prog C (bC 158) (bE 158) 158 [a0,a1] S K)=fun C a0 a1 S K=>aTp C a0 a1 S K:=by kernel_rfl
noncomputable def aTr (C:aD) (a0:V) (S:St) (K:KW):Prop:=
bR (aN (a0:V).cells) (wR (aJ none S (.row 0 (a0:V).cells.length [(a0:V).cells])) fun r0=>
wR (aA prog 54 (.ptr r0.1 0 0 0) 0) fun t1=>
wR (aB prog 9 t1 r0.2) fun t2=>
C 165 [t2] r0.2 fun t3 S4=>
wR (iU .not t3) fun t5=>
aE t5 (K (.int .i64 8) S4) (wR (aA prog 54 (.ptr r0.1 0 0 0) 1) fun t6=>
wR (aB prog 52 t6 S4) fun t7=>
C 123 [t7] S4 fun t8 S9=>
wR (iU .not t8) fun t10=>
aE t10 (K (.int .i64 9) S9) (wR (aA prog 54 (.ptr r0.1 0 0 0) 2) fun t11=>
wR (aB prog 3 t11 S9) fun t12=>
wR (aG prog .lss 3 t12 (.int .i64 0)) fun t13=>
aE t13 (K (.int .i64 10) S9) (wR (aA prog 54 (.ptr r0.1 0 0 0) 2) fun t14=>
wR (aB prog 3 t14 S9) fun t15=>
wR (aG prog .gtr 3 t15 (.int .i64 100000)) fun t16=>
aE t16 (K (.int .i64 10) S9) (K (.int .i64 0) S9)))))
theorem aTs:(fun (C:aD) (a0:V) (S:St) (K:KW)=>aM prog C (bC 163) (bE 163) 163 [a0] S K)=fun C a0 S K=>aTr C a0 S K:=by kernel_rfl
noncomputable def aTt (C:aD) (a0 a1:V) (S:St) (K:KW):Prop:=
bR (aN (a0:V).cells) (wR (aJ none S (.row 0 (a0:V).cells.length [(a0:V).cells])) fun r0=>
bR (aN (a1:V).cells) (wR (aJ none r0.2 (.row 0 (a1:V).cells.length [(a1:V).cells])) fun r1=>
wR (aA prog 54 (.ptr r0.1 0 0 0) 0) fun t2=>
wR (aB prog 9 t2 r1.2) fun t3=>
wR (aA prog 54 (.ptr r1.1 0 0 0) 0) fun t4=>
wR (aB prog 9 t4 r1.2) fun t5=>
wR (aG prog .lss 9 t3 t5) fun t6=>
aE t6 (K (.bool true) r1.2) (wR (aA prog 54 (.ptr r0.1 0 0 0) 0) fun t7=>
wR (aB prog 9 t7 r1.2) fun t8=>
wR (aA prog 54 (.ptr r1.1 0 0 0) 0) fun t9=>
wR (aB prog 9 t9 r1.2) fun t10=>
bR (aL prog 9 t8 t10) (wR (aG prog .eql 9 t8 t10) fun t11=>
aE t11 (wR (aA prog 54 (.ptr r0.1 0 0 0) 1) fun t12=>
wR (aB prog 52 t12 r1.2) fun t13=>
wR (aA prog 54 (.ptr r1.1 0 0 0) 1) fun t14=>
wR (aB prog 52 t14 r1.2) fun t15=>
C 124 [t13,t15] r1.2 fun t16 S17=>
K t16 S17) (K (.bool false) r1.2)))))
theorem aTu:(fun (C:aD) (a0 a1:V) (S:St) (K:KW)=>aM prog C (bC 164) (bE 164) 164 [a0,a1] S K)=fun C a0 a1 S K=>aTt C a0 a1 S K:=by kernel_rfl
noncomputable def aFk (C:aD) (K:KW) (p14:V) (vs:List V) (S:St) (again0:List V→St→Prop)  :Prop:=
eB vs fun x2 vs=>
wR (qT p14 S) fun r5=>
bF r5.1 0 fun t6=>
aE t6 (bF r5.1 1 fun t7=>
bF r5.1 2 fun t8=>
C 225 [t8] r5.2 fun t9 S10=>
aE t9 (again0 [x2] S10) (bR (aL prog 3 t7 (.int .i64 0)) (wR (aG prog .eql 3 t7 (.int .i64 0)) fun t11=>
aE t11 (K (.bool false) S10) (wR (aG prog .geq 21 t8 (.int .i32 48)) fun t12=>
aE t12 (wR (aG prog .leq 21 t8 (.int .i32 57)) fun t13=>
aE t13 (wR (iU .not (.bool true)) fun t14=>
aE t14 (K (.bool false) S10) (again0 [x2] S10)) (bR (aL prog 21 t8 (.int .i32 45)) (wR (aG prog .eql 21 t8 (.int .i32 45)) fun t15=>
aE t15 (wR (iU .not (.bool true)) fun t16=>
aE t16 (K (.bool false) S10) (again0 [x2] S10)) (bR (aL prog 21 t8 (.int .i32 95)) (wR (aG prog .eql 21 t8 (.int .i32 95)) fun t17=>
aE t17 (wR (iU .not (.bool true)) fun t18=>
aE t18 (K (.bool false) S10) (again0 [x2] S10)) (bR (aL prog 21 t8 (.int .i32 46)) (wR (aG prog .eql 21 t8 (.int .i32 46)) fun t19=>
wR (iU .not t19) fun t20=>
aE t20 (K (.bool false) S10) (again0 [x2] S10)))))))) (bR (aL prog 21 t8 (.int .i32 45)) (wR (aG prog .eql 21 t8 (.int .i32 45)) fun t21=>
aE t21 (wR (iU .not (.bool true)) fun t22=>
aE t22 (K (.bool false) S10) (again0 [x2] S10)) (bR (aL prog 21 t8 (.int .i32 95)) (wR (aG prog .eql 21 t8 (.int .i32 95)) fun t23=>
aE t23 (wR (iU .not (.bool true)) fun t24=>
aE t24 (K (.bool false) S10) (again0 [x2] S10)) (bR (aL prog 21 t8 (.int .i32 46)) (wR (aG prog .eql 21 t8 (.int .i32 46)) fun t25=>
wR (iU .not t25) fun t26=>
aE t26 (K (.bool false) S10) (again0 [x2] S10))))))))))) (K (.bool true) r5.2)
noncomputable def aTv (C:aD) (a0:V) (S:St) (K:KW):Prop:=
wR (bH prog 9 a0 S) fun t0=>
wR (aG prog .lss 3 t0 (.int .i64 1)) fun t1=>
aE t1 (K (.bool false) S) (wR (bH prog 9 a0 S) fun t2=>
wR (aG prog .gtr 3 t2 (.int .i64 24)) fun t3=>
aE t3 (K (.bool false) S) (wR (xJ a0 none S) fun r4=>
cU [(.bool false)] r4.2 (aFk C K r4.1)))
theorem aTw:(fun (C:aD) (a0:V) (S:St) (K:KW)=>aM prog C (bC 165) (bE 165) 165 [a0] S K)=fun C a0 S K=>aTv C a0 S K:=by kernel_rfl
noncomputable def aFl (C:aD) (K:KW) (p9 p10:V) (vs:List V) (S:St) (again0:List V→St→Prop)  :Prop:=
eB vs fun x2 vs=>
eB vs fun x3 vs=>
eB vs fun x11 vs=>
wR (aG prog .lss 3 x11 p10) fun t3=>
aE t3 (wR (aC prog 28 p9 x11) fun t4=>
wR (aB prog 132 t4 S) fun t5=>
wR (aJ none S (.row 0 5 [[.int .i64 0,.int .i64 0,.int .i64 0,.int .i64 0,.int .i64 0]])) fun r6=>
wR (aH prog 132 (.ptr r6.1 0 0 0) t5 r6.2) fun S7=>
wR (aA prog 132 (.ptr r6.1 0 0 0) 0) fun t8=>
wR (aB prog 3 t8 S7) fun t9=>
wR (aG prog .leq 3 t9 x3) fun t10=>
aE t10 (K (.bool false) S7) (wR (aA prog 132 (.ptr r6.1 0 0 0) 1) fun t11=>
wR (aB prog 3 t11 S7) fun t12=>
wR (aG prog .lss 3 t12 (.int .i64 0)) fun t13=>
aE t13 (K (.bool false) S7) (wR (aA prog 132 (.ptr r6.1 0 0 0) 1) fun t14=>
wR (aB prog 3 t14 S7) fun t15=>
wR (aG prog .gtr 3 t15 (.int .i64 1099511627776)) fun t16=>
aE t16 (K (.bool false) S7) (wR (aA prog 132 (.ptr r6.1 0 0 0) 1) fun t17=>
wR (aB prog 3 t17 S7) fun t18=>
bR (aL prog 3 t18 (.int .i64 0)) (wR (aG prog .eql 3 t18 (.int .i64 0)) fun t19=>
aE t19 (wR (aA prog 132 (.ptr r6.1 0 0 0) 2) fun t20=>
wR (aB prog 48 t20 S7) fun t21=>
wR (aQ prog 48 []) fun t22=>
bR (aL prog 48 t21 t22) (wR (aG prog .neq 48 t21 t22) fun t23=>
aE t23 (K (.bool false) S7) (wR (aA prog 132 (.ptr r6.1 0 0 0) 0) fun t24=>
wR (aB prog 3 t24 S7) fun t25=>
wR (aG prog .add 3 x11 (.int .i64 1)) fun t26=>
again0 [x2,t25,t26] S7))) (wR (aA prog 132 (.ptr r6.1 0 0 0) 0) fun t27=>
wR (aB prog 3 t27 S7) fun t28=>
wR (aG prog .add 3 x11 (.int .i64 1)) fun t29=>
again0 [x2,t28,t29] S7)))))) (K (.bool true) S)
noncomputable def aTx (C:aD) (a0:V) (S:St) (K:KW):Prop:=
wR (bH prog 28 a0 S) fun t0=>
wR (aG prog .gtr 3 t0 (.int .i64 8)) fun t1=>
aE t1 (K (.bool false) S) (wR (bH prog 28 a0 S) fun t2=>
cU [(.bool false),(.int .i64 0),(.int .i64 0)] S (aFl C K a0 t2))
theorem aTy:(fun (C:aD) (a0:V) (S:St) (K:KW)=>aM prog C (bC 166) (bE 166) 166 [a0] S K)=fun C a0 S K=>aTx C a0 S K:=by kernel_rfl
noncomputable def aFm (C:aD) (K:KW) (again0:List V→St→Prop) (p1 p2 p4 p18 p19 p20:V) (S:St)  :Prop:=
wR (aA prog 145 p4 2) fun t17=>
wR (aB prog 3 t17 S) fun t18=>
wR (aA prog 145 p4 1) fun t19=>
wR (aB prog 3 t19 S) fun t20=>
C 217 [t18,t20] S fun t21 S22=>
bF t21 0 fun t23=>
bF t21 1 fun t24=>
bR (aL prog 31 t24 (.int .i64 0)) (wR (aG prog .neq 31 t24 (.int .i64 0)) fun t25=>
aE t25 (K (.bool false) S22) (wR (aA prog 145 p4 3) fun t26=>
wR (aB prog 3 t26 S22) fun t27=>
bR (aL prog 3 t23 t27) (wR (aG prog .neq 3 t23 t27) fun t28=>
aE t28 (K (.bool false) S22) (wR (aG prog .add 3 p20 (.int .i64 1)) fun t29=>
again0 [p2,t29] S22))))
noncomputable def aFn (C:aD) (K:KW) (p1 p18 p19:V) (vs:List V) (S:St) (again0:List V→St→Prop)  :Prop:=
eB vs fun x2 vs=>
eB vs fun x20 vs=>
wR (aG prog .lss 3 x20 p19) fun t12=>
aE t12 (wR (aC prog 80 p18 x20) fun t13=>
wR (aB prog 145 t13 S) fun t14=>
wR (aJ none S (.row 0 4 [[.str [],.int .i64 0,.int .i64 0,.int .i64 0]])) fun r15=>
wR (aH prog 145 (.ptr r15.1 0 0 0) t14 r15.2) fun S16=>
wR (aA prog 145 (.ptr r15.1 0 0 0) 0) fun t30=>
wR (aB prog 9 t30 (⟨S16.next+30,S16.heap⟩:St)) fun t31=>
C 165 [t31] (⟨S16.next+30,S16.heap⟩:St) fun t32 S33=>
wR (iU .not t32) fun t34=>
aE t34 (K (.bool false) S33) (wR (aG prog .gtr 3 x20 (.int .i64 0)) fun t35=>
aE t35 (wR (aA prog 82 p1 3) fun t36=>
wR (aB prog 80 t36 S33) fun t37=>
wR (aG prog .sub 3 x20 (.int .i64 1)) fun t38=>
wR (aC prog 80 t37 t38) fun t39=>
wR (aA prog 145 t39 0) fun t40=>
wR (aB prog 9 t40 S33) fun t41=>
wR (aA prog 145 (.ptr r15.1 0 0 0) 0) fun t42=>
wR (aB prog 9 t42 S33) fun t43=>
wR (aG prog .geq 9 t41 t43) fun t44=>
aE t44 (K (.bool false) S33) (wR (aA prog 145 (.ptr r15.1 0 0 0) 1) fun t45=>
wR (aB prog 3 t45 S33) fun t46=>
wR (aG prog .lss 3 t46 (.int .i64 0)) fun t47=>
aE t47 (K (.bool false) S33) (wR (aA prog 145 (.ptr r15.1 0 0 0) 1) fun t48=>
wR (aB prog 3 t48 S33) fun t49=>
wR (aG prog .gtr 3 t49 (.int .i64 100000)) fun t50=>
aE t50 (K (.bool false) S33) (aFm C K again0 p1 x2 (.ptr r15.1 0 0 0) p18 p19 x20 S33)))) (wR (aA prog 145 (.ptr r15.1 0 0 0) 1) fun t51=>
wR (aB prog 3 t51 S33) fun t52=>
wR (aG prog .lss 3 t52 (.int .i64 0)) fun t53=>
aE t53 (K (.bool false) S33) (wR (aA prog 145 (.ptr r15.1 0 0 0) 1) fun t54=>
wR (aB prog 3 t54 S33) fun t55=>
wR (aG prog .gtr 3 t55 (.int .i64 100000)) fun t56=>
aE t56 (K (.bool false) S33) (aFm C K again0 p1 x2 (.ptr r15.1 0 0 0) p18 p19 x20 S33))))) (wR (aB prog 82 p1 S) fun t57=>
C 226 [t57] S fun t58 S59=>
K t58 S59)
noncomputable def aTz (C:aD) (a0:V) (S:St) (K:KW):Prop:=
bR (aN (a0:V).cells) (wR (aJ none S (.row 0 (a0:V).cells.length [(a0:V).cells])) fun r0=>
wR (aA prog 82 (.ptr r0.1 0 0 0) 3) fun t1=>
wR (aB prog 80 t1 r0.2) fun t2=>
wR (bH prog 80 t2 r0.2) fun t3=>
wR (aG prog .lss 3 t3 (.int .i64 1)) fun t4=>
aE t4 (K (.bool false) r0.2) (wR (aA prog 82 (.ptr r0.1 0 0 0) 3) fun t5=>
wR (aB prog 80 t5 r0.2) fun t6=>
wR (bH prog 80 t6 r0.2) fun t7=>
wR (aG prog .gtr 3 t7 (.int .i64 12)) fun t8=>
aE t8 (K (.bool false) r0.2) (wR (aA prog 82 (.ptr r0.1 0 0 0) 3) fun t9=>
wR (aB prog 80 t9 r0.2) fun t10=>
wR (bH prog 80 t10 r0.2) fun t11=>
cU [(.bool false),(.int .i64 0)] r0.2 (aFn C K (.ptr r0.1 0 0 0) t10 t11))))
theorem aU0:(fun (C:aD) (a0:V) (S:St) (K:KW)=>aM prog C (bC 167) (bE 167) 167 [a0] S K)=fun C a0 S K=>aTz C a0 S K:=by kernel_rfl
noncomputable def aU1 (C:aD) (a0 a1:V) (S:St) (K:KW):Prop:=
bR (aN (a1:V).cells) (wR (aJ none S (.row 0 (a1:V).cells.length [(a1:V).cells])) fun r0=>
C 155 [a0,(.func 227 [] [(.ptr r0.1 0 0 0)])] r0.2 fun t1 S2=>
K t1 S2)
theorem aU2:(fun (C:aD) (a0 a1:V) (S:St) (K:KW)=>aM prog C (bC 168) (bE 168) 168 [a0,a1] S K)=fun C a0 a1 S K=>aU1 C a0 a1 S K:=by kernel_rfl
noncomputable def aU3 (C:aD) (a0 a1:V) (S:St) (K:KW):Prop:=
bR (aN (a0:V).cells) (wR (aJ none S (.row 0 (a0:V).cells.length [(a0:V).cells])) fun r0=>
bR (aN (a1:V).cells) (wR (aJ none r0.2 (.row 0 (a1:V).cells.length [(a1:V).cells])) fun r1=>
wR (aA prog 84 (.ptr r1.1 0 0 0) 2) fun t2=>
wR (aB prog 82 t2 r1.2) fun t3=>
C 228 [t3] r1.2 fun t4 S5=>
bF t4 0 fun t6=>
bF t4 1 fun t7=>
wR (aJ none S5 (.row 0 4 [[.int .i64 0,.int .i64 0,.int .i64 0,.nils]])) fun r8=>
wR (aH prog 82 (.ptr r8.1 0 0 0) t6 r8.2) fun S9=>
wR (aA prog 84 (.ptr r1.1 0 0 0) 3) fun t10=>
wR (aB prog 57 t10 S9) fun t11=>
wR (aQ prog 57 []) fun t12=>
bR (aL prog 57 t11 t12) (wR (aG prog .eql 57 t11 t12) fun t13=>
aE t13 (wR (aA prog 84 (.ptr r0.1 0 0 0) 1) fun t14=>
wR (aB prog 52 t14 S9) fun t15=>
wR (aA prog 84 (.ptr r1.1 0 0 0) 1) fun t16=>
wR (aB prog 52 t16 S9) fun t17=>
C 124 [t15,t17] S9 fun t18 S19=>
wR (iU .not t18) fun t20=>
aE t20 (bR (aL prog 31 t7 (.int .i64 0)) (wR (aG prog .eql 31 t7 (.int .i64 0)) fun t21=>
aE t21 (wR (aB prog 82 (.ptr r8.1 0 0 0) S19) fun t22=>
wR (aA prog 84 (.ptr r0.1 0 0 0) 2) fun t23=>
wR (aB prog 82 t23 S19) fun t24=>
C 229 [t22,t24] S19 fun t25 S26=>
K t25 S26) (K (.bool false) S19))) (K (.bool false) S19)) (K (.bool false) S9))))
theorem aU4:(fun (C:aD) (a0 a1:V) (S:St) (K:KW)=>aM prog C (bC 169) (bE 169) 169 [a0,a1] S K)=fun C a0 a1 S K=>aU3 C a0 a1 S K:=by kernel_rfl
noncomputable def aZp (C:aD) (a0 a1:V) (S:St) (K:KW):Prop:=
bR (aN (a0:V).cells) (wR (aJ none S (.row 0 (a0:V).cells.length [(a0:V).cells])) fun r0=>
wR (aA prog 126 (.ptr r0.1 0 0 0) 0) fun t1=>
wR (aB prog 9 t1 r0.2) fun t2=>
wR (aA prog 84 a1 0) fun t3=>
wR (aA prog 57 t3 0) fun t4=>
wR (aB prog 9 t4 r0.2) fun t5=>
bR (aL prog 9 t2 t5) (wR (aG prog .eql 9 t2 t5) fun t6=>
K t6 r0.2))
theorem aU5:(fun (C:aD) (a0 a1:V) (S:St) (K:KW)=>aM prog C (bC 170) (bE 170) 170 [a0,a1] S K)=fun C a0 a1 S K=>aZp C a0 a1 S K:=by kernel_rfl
noncomputable def aAa (C:aD) (K:KW) (p0 p1 p6:V) (S:St)  :Prop:=
wR (aW prog 28 (.nils) p0 none S) fun r5=>
wR (aQ prog 132 [(0,p1)]) fun t6=>
wR (aK prog 28 1 [(0,t6)] none r5.2) fun r7=>
C 230 [r5.1,p6,r7.1] r7.2 fun t8 S9=>
K (.tup [t8,(.int .i64 0)]) S9
noncomputable def aFo (C:aD) (K:KW) (p0 p1:V) (vs:List V) (S:St) (again0:List V→St→Prop)  :Prop:=
eB vs fun x6 vs=>
wR (bH prog 28 p0 S) fun t10=>
wR (aG prog .lss 3 x6 t10) fun t11=>
aE t11 (wR (aC prog 28 p0 x6) fun t12=>
wR (aA prog 132 t12 0) fun t13=>
wR (aB prog 3 t13 S) fun t14=>
wR (aG prog .lss 3 t14 p1) fun t15=>
aE t15 (wR (aG prog .add 3 x6 (.int .i64 1)) fun t16=>
again0 [t16] S) (aAa C K p0 p1 x6 S)) (aAa C K p0 p1 x6 S)
noncomputable def aFp (C:aD) (K:KW) (p0 p1 p7:V) (S:St)  :Prop:=
aE p7 (K (.tup [(.nils),(.int .i64 1)]) S) (C 174 [p0,p1] S fun t0 S1=>
wR (aG prog .geq 3 t0 (.int .i64 0)) fun t2=>
aE t2 (K (.tup [(.nils),(.int .i64 12)]) S1) (wR (bH prog 28 p0 S1) fun t3=>
wR (aG prog .geq 3 t3 (.int .i64 8)) fun t4=>
aE t4 (K (.tup [(.nils),(.int .i64 14)]) S1) (cU [(.int .i64 0)] S1 (aFo C K p0 p1))))
noncomputable def aU6 (C:aD) (a0 a1:V) (S:St) (K:KW):Prop:=
C 166 [a0] S fun t17 S18=>
wR (iU .not t17) fun t19=>
aE t19 (aFp C K a0 a1 (.bool true) S18) (wR (aG prog .lss 3 a1 (.int .i64 1)) fun t20=>
aFp C K a0 a1 t20 S18)
theorem aU7:(fun (C:aD) (a0 a1:V) (S:St) (K:KW)=>aM prog C (bC 173) (bE 173) 173 [a0,a1] S K)=fun C a0 a1 S K=>aU6 C a0 a1 S K:=by kernel_rfl
noncomputable def aU8 (C:aD) (a0 a1:V) (S:St) (K:KW):Prop:=
bR (aN (a1:V).cells) (wR (aJ none S (.row 0 (a1:V).cells.length [(a1:V).cells])) fun r0=>
C 231 [a0,(.func 232 [] [(.ptr r0.1 0 0 0)])] r0.2 fun t1 S2=>
K t1 S2)
theorem aU9:(fun (C:aD) (a0 a1:V) (S:St) (K:KW)=>aM prog C (bC 174) (bE 174) 174 [a0,a1] S K)=fun C a0 a1 S K=>aU8 C a0 a1 S K:=by kernel_rfl
noncomputable def aAb (C:aD) (K:KW) (p0 p1 p2 p8:V) (S:St)  :Prop:=
C 235 [p0] S fun t11 S12=>
wR (aQ prog 126 [(0,p1),(1,(.int .i64 1)),(2,p2)]) fun t13=>
wR (aK prog 25 1 [(0,t13)] none S12) fun r14=>
C 234 [t11,p8,r14.1] r14.2 fun t15 S16=>
K (.tup [t15,(.int .i64 0)]) S16
noncomputable def aFq (C:aD) (K:KW) (p0 p1 p2:V) (vs:List V) (S:St) (again0:List V→St→Prop)  :Prop:=
eB vs fun x8 vs=>
wR (bH prog 25 p0 S) fun t17=>
wR (aG prog .lss 3 x8 t17) fun t18=>
aE t18 (wR (aC prog 25 p0 x8) fun t19=>
wR (aA prog 126 t19 0) fun t20=>
wR (aB prog 9 t20 S) fun t21=>
wR (aG prog .lss 9 t21 p1) fun t22=>
aE t22 (wR (aG prog .add 3 x8 (.int .i64 1)) fun t23=>
again0 [t23] S) (aAb C K p0 p1 p2 x8 S)) (aAb C K p0 p1 p2 x8 S)
noncomputable def aFr (C:aD) (K:KW) (p0 p1 p2 p17:V) (S:St)  :Prop:=
aE p17 (K (.tup [(.nils),(.int .i64 1)]) S) (C 233 [p0,p1] S fun t6 S7=>
wR (aG prog .geq 3 t6 (.int .i64 0)) fun t8=>
aE t8 (K (.tup [(.nils),(.int .i64 12)]) S7) (wR (bH prog 25 p0 S7) fun t9=>
wR (aG prog .geq 3 t9 (.int .i64 8)) fun t10=>
aE t10 (K (.tup [(.nils),(.int .i64 14)]) S7) (cU [(.int .i64 0)] S7 (aFq C K p0 p1 p2))))
noncomputable def aUa (C:aD) (a0 a1 a2:V) (S:St) (K:KW):Prop:=
C 86 [a0] S fun t0 S1=>
wR (iU .not t0) fun t2=>
aE t2 (K (.tup [(.nils),(.int .i64 1)]) S1) (C 165 [a1] S1 fun t3 S4=>
wR (iU .not t3) fun t5=>
aE t5 (K (.tup [(.nils),(.int .i64 8)]) S4) (wR (aG prog .lss 3 a2 (.int .i64 1)) fun t24=>
aE t24 (aFr C K a0 a1 a2 (.bool true) S4) (wR (aG prog .gtr 3 a2 (.int .i64 1099511627776)) fun t25=>
aFr C K a0 a1 a2 t25 S4)))
theorem aUb:(fun (C:aD) (a0 a1 a2:V) (S:St) (K:KW)=>aM prog C (bC 175) (bE 175) 175 [a0,a1,a2] S K)=fun C a0 a1 a2 S K=>aUa C a0 a1 a2 S K:=by kernel_rfl
noncomputable def aQ3 (C:aD) (a0 a1 a2:V) (S:St) (K:KW):Prop:=
wR (aJ none S (.row 0 3 [[.int .i64 0,.int .i64 0,.int .i64 0]])) fun r0=>
bR (aL prog 31 a2 (.int .i64 0)) (wR (aG prog .eql 31 a2 (.int .i64 0)) fun t1=>
aE t1 (gI a0 (wR (aH prog 25 a0 a1 r0.2) fun S2=>
C 103 [a2] S2 fun t3 S4=>
wR (aH prog 48 (.ptr r0.1 0 0 0) t3 S4) fun S5=>
wR (aB prog 48 (.ptr r0.1 0 0 0) S5) fun t6=>
K t6 S5)) (C 103 [a2] r0.2 fun t7 S8=>
wR (aH prog 48 (.ptr r0.1 0 0 0) t7 S8) fun S9=>
wR (aB prog 48 (.ptr r0.1 0 0 0) S9) fun t10=>
K t10 S9))
theorem aUc:(fun (C:aD) (a0 a1 a2:V) (S:St) (K:KW)=>aM prog C (bC 176) (bE 176) 176 [a0,a1,a2] S K)=fun C a0 a1 a2 S K=>aQ3 C a0 a1 a2 S K:=by kernel_rfl
noncomputable def aUd (C:aD) (a0 a1:V) (S:St) (K:KW):Prop:=
C 236 [a0,a1] S fun t0 S1=>
bF t0 0 fun t2=>
bF t0 1 fun t3=>
bR (aL prog 31 t3 (.int .i64 0)) (wR (aG prog .neq 31 t3 (.int .i64 0)) fun t4=>
aE t4 (K (.tup [(.nils),t3]) S1) (C 235 [a0] S1 fun t5 S6=>
wR (aC prog 25 t5 t2) fun t7=>
wR (aA prog 126 t7 3) fun t8=>
wR (aH prog 4 t8 (.bool true) S6) fun S9=>
K (.tup [t5,(.int .i64 0)]) S9))
theorem aUe:(fun (C:aD) (a0 a1:V) (S:St) (K:KW)=>aM prog C (bC 177) (bE 177) 177 [a0,a1] S K)=fun C a0 a1 S K=>aUd C a0 a1 S K:=by kernel_rfl
noncomputable def aFs (C:aD) (K:KW) (again0:List V→St→Prop) (p0 p3 p4 p5 p7 p9 p18 p19 p20:V) (S:St)  :Prop:=
wR (aB prog 54 p9 S) fun t14=>
wR (aB prog 54 p3 S) fun t15=>
C 164 [t14,t15] S fun t16 S17=>
aE t16 (wR (aG prog .add 3 p7 (.int .i64 1)) fun t18=>
wR (aG prog .add 3 p20 (.int .i64 1)) fun t19=>
again0 [p4,p5,t18,t19] S17) (wR (aG prog .add 3 p20 (.int .i64 1)) fun t20=>
again0 [p4,p5,p7,t20] S17)
noncomputable def aFt (C:aD) (K:KW) (p0 p3 p18 p19:V) (vs:List V) (S:St) (again0:List V→St→Prop)  :Prop:=
eB vs fun x4 vs=>
eB vs fun x5 vs=>
eB vs fun x7 vs=>
eB vs fun x20 vs=>
wR (aG prog .lss 3 x20 p19) fun t9=>
aE t9 (wR (aC prog 24 p18 x20) fun t10=>
wR (aB prog 54 t10 S) fun t11=>
wR (aJ none S (.row 0 5 [[.str [],.int .i64 0,.int .i64 0,.int .i64 0,.int .i64 0]])) fun r12=>
wR (aH prog 54 (.ptr r12.1 0 0 0) t11 r12.2) fun S13=>
wR (aA prog 54 (.ptr r12.1 0 0 0) 0) fun t21=>
wR (aB prog 9 t21 S13) fun t22=>
wR (aA prog 54 p3 0) fun t23=>
wR (aB prog 9 t23 S13) fun t24=>
bR (aL prog 9 t22 t24) (wR (aG prog .eql 9 t22 t24) fun t25=>
aE t25 (wR (aA prog 54 (.ptr r12.1 0 0 0) 1) fun t26=>
wR (aB prog 52 t26 S13) fun t27=>
wR (aA prog 54 p3 1) fun t28=>
wR (aB prog 52 t28 S13) fun t29=>
bR (aL prog 52 t27 t29) (wR (aG prog .eql 52 t27 t29) fun t30=>
aE t30 (K (.tup [(.nils),(.int .i64 12)]) S13) (aFs C K again0 p0 p3 x4 x5 x7 (.ptr r12.1 0 0 0) p18 p19 x20 S13))) (aFs C K again0 p0 p3 x4 x5 x7 (.ptr r12.1 0 0 0) p18 p19 x20 S13))) (wR (bH prog 24 p0 S) fun t31=>
wR (aG prog .geq 3 t31 (.int .i64 24)) fun t32=>
aE t32 (K (.tup [(.nils),(.int .i64 2)]) S) (wR (aB prog 54 p3 (⟨S.next+8,S.heap⟩:St)) fun t33=>
wR (aW prog 24 (.nils) p0 (some (S.next+1)) (⟨S.next+8,S.heap⟩:St)) fun r34=>
wR (aB prog 54 p3 r34.2) fun t35=>
bR (dP t33 t35) (wR (aK prog 24 1 [(0,t33)] (some (S.next+4)) r34.2) fun r36=>
C 237 [r34.1,x7,r36.1] r36.2 fun t37 S38=>
K (.tup [t37,(.int .i64 0)]) S38)))
noncomputable def aUf (C:aD) (a0 a1:V) (S:St) (K:KW):Prop:=
bR (aN (a1:V).cells) (wR (aJ none S (.row 0 (a1:V).cells.length [(a1:V).cells])) fun r0=>
C 85 [a0] r0.2 fun t1 S2=>
wR (iU .not t1) fun t3=>
aE t3 (K (.tup [(.nils),(.int .i64 1)]) S2) (wR (aB prog 54 (.ptr r0.1 0 0 0) S2) fun t4=>
C 163 [t4] S2 fun t5 S6=>
bR (aL prog 31 t5 (.int .i64 0)) (wR (aG prog .neq 31 t5 (.int .i64 0)) fun t7=>
aE t7 (K (.tup [(.nils),t5]) S6) (wR (bH prog 24 a0 S6) fun t8=>
cU [(.nils),(.int .i64 0),(.int .i64 0),(.int .i64 0)] S6 (aFt C K a0 (.ptr r0.1 0 0 0) a0 t8)))))
theorem aUg:(fun (C:aD) (a0 a1:V) (S:St) (K:KW)=>aM prog C (bC 178) (bE 178) 178 [a0,a1] S K)=fun C a0 a1 S K=>aUf C a0 a1 S K:=by kernel_rfl
noncomputable def aQ4 (C:aD) (a0 a1 a2:V) (S:St) (K:KW):Prop:=
wR (aJ none S (.row 0 3 [[.int .i64 0,.int .i64 0,.int .i64 0]])) fun r0=>
bR (aL prog 31 a2 (.int .i64 0)) (wR (aG prog .eql 31 a2 (.int .i64 0)) fun t1=>
aE t1 (gI a0 (wR (aH prog 24 a0 a1 r0.2) fun S2=>
C 103 [a2] S2 fun t3 S4=>
wR (aH prog 48 (.ptr r0.1 0 0 0) t3 S4) fun S5=>
wR (aB prog 48 (.ptr r0.1 0 0 0) S5) fun t6=>
K t6 S5)) (C 103 [a2] r0.2 fun t7 S8=>
wR (aH prog 48 (.ptr r0.1 0 0 0) t7 S8) fun S9=>
wR (aB prog 48 (.ptr r0.1 0 0 0) S9) fun t10=>
K t10 S9))
theorem aUh:(fun (C:aD) (a0 a1 a2:V) (S:St) (K:KW)=>aM prog C (bC 179) (bE 179) 179 [a0,a1,a2] S K)=fun C a0 a1 a2 S K=>aQ4 C a0 a1 a2 S K:=by kernel_rfl
noncomputable def aUi (C:aD) (a0 a1:V) (S:St) (K:KW):Prop:=
bR (aN (a1:V).cells) (wR (aJ none S (.row 0 (a1:V).cells.length [(a1:V).cells])) fun r0=>
wR (aJ none r0.2 (.row 0 3 [[.int .i64 0,.int .i64 0,.int .i64 0]])) fun r1=>
gI a0 (wR (aA prog 30 a0 0) fun t2=>
wR (aB prog 24 t2 (⟨r1.2.next+15,r1.2.heap⟩:St)) fun t3=>
wR (aA prog 59 (.ptr r0.1 0 0 0) 4) fun t4=>
wR (aB prog 52 t4 (⟨r1.2.next+15,r1.2.heap⟩:St)) fun t5=>
wR (aA prog 59 (.ptr r0.1 0 0 0) 5) fun t6=>
wR (aB prog 55 t6 (⟨r1.2.next+15,r1.2.heap⟩:St)) fun t7=>
C 238 [t3,t5,t7] (⟨r1.2.next+15,r1.2.heap⟩:St) fun t8 S9=>
bF t8 0 fun t10=>
bF t8 1 fun t11=>
wR (aJ (some (r1.2.next+12)) S9 (.row 0 4 [[.int .i64 0,.int .i64 0,.int .i64 0,.nils]])) fun r12=>
wR (aH prog 82 (.ptr r12.1 0 0 0) t10 r12.2) fun S13=>
bR (aL prog 31 t11 (.int .i64 0)) (wR (aG prog .neq 31 t11 (.int .i64 0)) fun t14=>
aE t14 (C 103 [t11] S13 fun t15 S16=>
wR (aH prog 48 (.ptr r1.1 0 0 0) t15 S16) fun S17=>
wR (aB prog 48 (.ptr r1.1 0 0 0) S17) fun t18=>
K t18 S17) (wR (aA prog 59 (.ptr r0.1 0 0 0) 1) fun t19=>
wR (aB prog 9 t19 S13) fun t20=>
wR (aA prog 59 (.ptr r0.1 0 0 0) 4) fun t21=>
wR (aB prog 52 t21 S13) fun t22=>
wR (aB prog 82 (.ptr r12.1 0 0 0) S13) fun t23=>
wR (aQ prog 84 [(1,t22),(2,t23)]) fun t24=>
C 239 [a0,t20,t24] S13 fun t25 S26=>
wR (aH prog 48 (.ptr r1.1 0 0 0) t25 S26) fun S27=>
wR (aB prog 48 (.ptr r1.1 0 0 0) S27) fun t28=>
K t28 S27))))
theorem aUj:(fun (C:aD) (a0 a1:V) (S:St) (K:KW)=>aM prog C (bC 180) (bE 180) 180 [a0,a1] S K)=fun C a0 a1 S K=>aUi C a0 a1 S K:=by kernel_rfl
noncomputable def aUk (C:aD) (a0 a1:V) (S:St) (K:KW):Prop:=
bR (aN (a1:V).cells) (wR (aJ none S (.row 0 (a1:V).cells.length [(a1:V).cells])) fun r0=>
wR (aJ none r0.2 (.row 0 3 [[.int .i64 0,.int .i64 0,.int .i64 0]])) fun r1=>
gI a0 (wR (aA prog 30 a0 2) fun t2=>
wR (aB prog 26 t2 (⟨r1.2.next+8,r1.2.heap⟩:St)) fun t3=>
wR (aA prog 59 (.ptr r0.1 0 0 0) 6) fun t4=>
wR (aB prog 57 t4 (⟨r1.2.next+8,r1.2.heap⟩:St)) fun t5=>
C 168 [t3,t5] (⟨r1.2.next+8,r1.2.heap⟩:St) fun t6 S7=>
wR (aG prog .lss 3 t6 (.int .i64 0)) fun t8=>
aE t8 (C 103 [(.int .i64 11)] S7 fun t9 S10=>
wR (aH prog 48 (.ptr r1.1 0 0 0) t9 S10) fun S11=>
wR (aB prog 48 (.ptr r1.1 0 0 0) S11) fun t12=>
K t12 S11) (gI a0 (wR (aA prog 30 a0 2) fun t13=>
wR (aB prog 26 t13 S7) fun t14=>
wR (aC prog 26 t14 t6) fun t15=>
wR (aB prog 84 t15 S7) fun t16=>
wR (aJ none S7 (.row 0 12 [[.str [],.int .i64 0,.int .i64 0,.int .i64 0,.int .i64 0,.int .i64 0,.int .i64 0,.int .i64 0,.nils,.str [],.int .i64 0,.bool false]])) fun r17=>
wR (aH prog 84 (.ptr r17.1 0 0 0) t16 r17.2) fun S18=>
wR (aA prog 84 (.ptr r17.1 0 0 0) 4) fun t19=>
wR (aB prog 4 t19 S18) fun t20=>
aE t20 (C 103 [(.int .i64 12)] S18 fun t21 S22=>
wR (aH prog 48 (.ptr r1.1 0 0 0) t21 S22) fun S23=>
wR (aB prog 48 (.ptr r1.1 0 0 0) S23) fun t24=>
K t24 S23) (wR (aA prog 84 (.ptr r17.1 0 0 0) 3) fun t25=>
wR (aB prog 57 t25 S18) fun t26=>
wR (aQ prog 57 []) fun t27=>
bR (aL prog 57 t26 t27) (wR (aG prog .neq 57 t26 t27) fun t28=>
aE t28 (C 103 [(.int .i64 12)] S18 fun t29 S30=>
wR (aH prog 48 (.ptr r1.1 0 0 0) t29 S30) fun S31=>
wR (aB prog 48 (.ptr r1.1 0 0 0) S31) fun t32=>
K t32 S31) (wR (aA prog 59 (.ptr r0.1 0 0 0) 4) fun t33=>
wR (aB prog 52 t33 S18) fun t34=>
C 123 [t34] S18 fun t35 S36=>
wR (iU .not t35) fun t37=>
aE t37 (C 103 [(.int .i64 9)] S36 fun t38 S39=>
wR (aH prog 48 (.ptr r1.1 0 0 0) t38 S39) fun S40=>
wR (aB prog 48 (.ptr r1.1 0 0 0) S40) fun t41=>
K t41 S40) (wR (aA prog 59 (.ptr r0.1 0 0 0) 4) fun t42=>
wR (aB prog 52 t42 S36) fun t43=>
wR (aA prog 84 (.ptr r17.1 0 0 0) 1) fun t44=>
wR (aB prog 52 t44 S36) fun t45=>
C 124 [t43,t45] S36 fun t46 S47=>
aE t46 (C 103 [(.int .i64 9)] S47 fun t48 S49=>
wR (aH prog 48 (.ptr r1.1 0 0 0) t48 S49) fun S50=>
wR (aB prog 48 (.ptr r1.1 0 0 0) S50) fun t51=>
K t51 S50) (wR (aA prog 84 (.ptr r17.1 0 0 0) 2) fun t52=>
wR (aB prog 82 t52 S47) fun t53=>
C 228 [t53] S47 fun t54 S55=>
bF t54 0 fun t56=>
bF t54 1 fun t57=>
wR (aJ none S55 (.row 0 4 [[.int .i64 0,.int .i64 0,.int .i64 0,.nils]])) fun r58=>
wR (aH prog 82 (.ptr r58.1 0 0 0) t56 r58.2) fun S59=>
bR (aL prog 31 t57 (.int .i64 0)) (wR (aG prog .neq 31 t57 (.int .i64 0)) fun t60=>
aE t60 (C 103 [t57] S59 fun t61 S62=>
wR (aH prog 48 (.ptr r1.1 0 0 0) t61 S62) fun S63=>
wR (aB prog 48 (.ptr r1.1 0 0 0) S63) fun t64=>
K t64 S63) (wR (aA prog 59 (.ptr r0.1 0 0 0) 1) fun t65=>
wR (aB prog 9 t65 S59) fun t66=>
wR (aA prog 59 (.ptr r0.1 0 0 0) 4) fun t67=>
wR (aB prog 52 t67 S59) fun t68=>
wR (aB prog 82 (.ptr r58.1 0 0 0) S59) fun t69=>
wR (aA prog 59 (.ptr r0.1 0 0 0) 6) fun t70=>
wR (aB prog 57 t70 S59) fun t71=>
wR (aQ prog 84 [(1,t68),(2,t69),(3,t71)]) fun t72=>
C 239 [a0,t66,t72] S59 fun t73 S74=>
wR (aJ none S74 (.row 0 3 [[.int .i64 0,.int .i64 0,.int .i64 0]])) fun r75=>
wR (aH prog 48 (.ptr r75.1 0 0 0) t73 r75.2) fun S76=>
wR (aA prog 48 (.ptr r75.1 0 0 0) 0) fun t77=>
wR (aB prog 31 t77 S76) fun t78=>
bR (aL prog 31 t78 (.int .i64 0)) (wR (aG prog .eql 31 t78 (.int .i64 0)) fun t79=>
aE t79 (gI a0 (wR (aA prog 30 a0 2) fun t80=>
wR (aB prog 26 t80 S76) fun t81=>
wR (aC prog 26 t81 t6) fun t82=>
wR (aA prog 84 t82 4) fun t83=>
wR (aH prog 4 t83 (.bool true) S76) fun S84=>
wR (aB prog 48 (.ptr r75.1 0 0 0) S84) fun t85=>
wR (aH prog 48 (.ptr r1.1 0 0 0) t85 S84) fun S86=>
wR (aB prog 48 (.ptr r1.1 0 0 0) S86) fun t87=>
K t87 S86)) (wR (aB prog 48 (.ptr r75.1 0 0 0) S76) fun t88=>
wR (aH prog 48 (.ptr r1.1 0 0 0) t88 S76) fun S89=>
wR (aB prog 48 (.ptr r1.1 0 0 0) S89) fun t90=>
K t90 S89)))))))))))))
theorem aUl:(fun (C:aD) (a0 a1:V) (S:St) (K:KW)=>aM prog C (bC 181) (bE 181) 181 [a0,a1] S K)=fun C a0 a1 S K=>aUk C a0 a1 S K:=by kernel_rfl
noncomputable def aUm (C:aD) (a0 a1:V) (S:St) (K:KW):Prop:=
C 166 [a0] S fun t0 S1=>
wR (iU .not t0) fun t2=>
aE t2 (K (.tup [(.nils),(.int .i64 1)]) S1) (C 174 [a0,a1] S1 fun t3 S4=>
wR (aG prog .lss 3 t3 (.int .i64 0)) fun t5=>
aE t5 (K (.tup [(.nils),(.int .i64 11)]) S4) (wR (aW prog 28 (.nils) a0 none S4) fun r6=>
wR (aG prog .add 3 t3 (.int .i64 1)) fun t7=>
C 240 [r6.1,t3,t7] r6.2 fun t8 S9=>
K (.tup [t8,(.int .i64 0)]) S9))
theorem aUn:(fun (C:aD) (a0 a1:V) (S:St) (K:KW)=>aM prog C (bC 182) (bE 182) 182 [a0,a1] S K)=fun C a0 a1 S K=>aUm C a0 a1 S K:=by kernel_rfl
noncomputable def aQ5 (C:aD) (a0 a1 a2:V) (S:St) (K:KW):Prop:=
wR (aJ none S (.row 0 3 [[.int .i64 0,.int .i64 0,.int .i64 0]])) fun r0=>
bR (aL prog 31 a2 (.int .i64 0)) (wR (aG prog .eql 31 a2 (.int .i64 0)) fun t1=>
aE t1 (gI a0 (wR (aH prog 28 a0 a1 r0.2) fun S2=>
C 103 [a2] S2 fun t3 S4=>
wR (aH prog 48 (.ptr r0.1 0 0 0) t3 S4) fun S5=>
wR (aB prog 48 (.ptr r0.1 0 0 0) S5) fun t6=>
K t6 S5)) (C 103 [a2] r0.2 fun t7 S8=>
wR (aH prog 48 (.ptr r0.1 0 0 0) t7 S8) fun S9=>
wR (aB prog 48 (.ptr r0.1 0 0 0) S9) fun t10=>
K t10 S9))
theorem aUo:(fun (C:aD) (a0 a1 a2:V) (S:St) (K:KW)=>aM prog C (bC 183) (bE 183) 183 [a0,a1,a2] S K)=fun C a0 a1 a2 S K=>aQ5 C a0 a1 a2 S K:=by kernel_rfl
noncomputable def aFu (C:aD) (K:KW) (p4 p7 p29 p30:V) (vs:List V) (S:St) (again0:List V→St→Prop)  :Prop:=
eB vs fun x31 vs=>
wR (aG prog .lss 3 x31 p30) fun t23=>
aE t23 (wR (aC prog 27 p29 x31) fun t24=>
wR (aB prog 90 t24 S) fun t25=>
wR (aJ none S (.row 0 2 [[.str [],.int .i64 0]])) fun r26=>
wR (aH prog 90 (.ptr r26.1 0 0 0) t25 r26.2) fun S27=>
wR (aA prog 90 (.ptr r26.1 0 0 0) 0) fun t28=>
wR (aB prog 9 t28 S27) fun t29=>
bR (aL prog 9 t29 (.str [111,119,101,100])) (wR (aG prog .eql 9 t29 (.str [111,119,101,100])) fun t30=>
aE t30 (wR (aA prog 90 (.ptr r26.1 0 0 0) 1) fun t31=>
wR (aB prog 3 t31 S27) fun t32=>
wR (aA prog 48 p7 2) fun t33=>
wR (aH prog 3 t33 t32 S27) fun S34=>
wR (aG prog .add 3 x31 (.int .i64 1)) fun t35=>
again0 [t35] S34) (wR (aG prog .add 3 x31 (.int .i64 1)) fun t36=>
again0 [t36] S27))) (wR (aB prog 48 p7 S) fun t37=>
wR (aH prog 48 p4 t37 S) fun S38=>
wR (aB prog 48 p4 S38) fun t39=>
K t39 S38)
noncomputable def aUp (C:aD) (a0 a1:V) (S:St) (K:KW):Prop:=
wR (aJ none S (.row 0 3 [[.int .i64 0,.int .i64 0,.int .i64 0]])) fun r0=>
gI a0 (wR (aA prog 30 a0 1) fun t1=>
wR (aB prog 25 t1 r0.2) fun t2=>
C 241 [t2,a1] r0.2 fun t3 S4=>
bF t3 0 fun t5=>
bF t3 1 fun t6=>
wR (aJ none S4 (.row 0 4 [[.str [],.int .i64 0,.int .i64 0,.bool false]])) fun r7=>
wR (aH prog 126 (.ptr r7.1 0 0 0) t5 r7.2) fun S8=>
wR (iU .not t6) fun t9=>
aE t9 (C 103 [(.int .i64 11)] S8 fun t10 S11=>
wR (aH prog 48 (.ptr r0.1 0 0 0) t10 S11) fun S12=>
wR (aB prog 48 (.ptr r0.1 0 0 0) S12) fun t13=>
K t13 S12) (wR (aA prog 126 (.ptr r7.1 0 0 0) 1) fun t14=>
wR (aB prog 3 t14 S8) fun t15=>
wR (aG prog .sub 3 t15 (.int .i64 1)) fun t16=>
wR (aQ prog 48 [(1,t16)]) fun t17=>
wR (aJ none S8 (.row 0 3 [[.int .i64 0,.int .i64 0,.int .i64 0]])) fun r18=>
wR (aH prog 48 (.ptr r18.1 0 0 0) t17 r18.2) fun S19=>
gI a0 (wR (aA prog 30 a0 3) fun t20=>
wR (aB prog 27 t20 S19) fun t21=>
wR (bH prog 27 t21 S19) fun t22=>
cU [(.int .i64 0)] S19 (aFu C K (.ptr r0.1 0 0 0) (.ptr r18.1 0 0 0) t21 t22))))
theorem aUq:(fun (C:aD) (a0 a1:V) (S:St) (K:KW)=>aM prog C (bC 184) (bE 184) 184 [a0,a1] S K)=fun C a0 a1 S K=>aUp C a0 a1 S K:=by kernel_rfl
noncomputable def aFv (C:aD) (K:KW) (p1:V) (vs:List V) (S:St) (again0:List V→St→Prop)  :Prop:=
eB vs fun x3 vs=>
eB vs fun x4 vs=>
wR (aA prog 52 p1 1) fun t9=>
wR (aB prog 3 t9 S) fun t10=>
wR (aG prog .lss 3 x4 t10) fun t11=>
aE t11 (wR (aA prog 52 p1 0) fun t12=>
wR (aB prog 3 t12 S) fun t13=>
C 132 [t13,x4] S fun t14 S15=>
wR (aG prog .add 3 x3 t14) fun t16=>
wR (aG prog .add 3 x4 (.int .i64 1)) fun t17=>
again0 [t16,t17] S15) (wR (aA prog 52 p1 2) fun t18=>
wR (aB prog 3 t18 S) fun t19=>
wR (aG prog .add 3 x3 t19) fun t20=>
wR (aG prog .sub 3 t20 (.int .i64 1)) fun t21=>
K t21 S)
noncomputable def aUr (C:aD) (a0:V) (S:St) (K:KW):Prop:=
bR (aN (a0:V).cells) (wR (aJ none S (.row 0 (a0:V).cells.length [(a0:V).cells])) fun r0=>
wR (aB prog 52 (.ptr r0.1 0 0 0) r0.2) fun t1=>
C 123 [t1] r0.2 fun t2 S3=>
wR (iU .not t2) fun t4=>
aE t4 (K (.int .i64 (-1)) S3) (wR (aA prog 52 (.ptr r0.1 0 0 0) 0) fun t5=>
wR (aB prog 3 t5 S3) fun t6=>
C 131 [t6] S3 fun t7 S8=>
cU [t7,(.int .i64 1)] S8 (aFv C K (.ptr r0.1 0 0 0))))
theorem aUs:(fun (C:aD) (a0:V) (S:St) (K:KW)=>aM prog C (bC 200) (bE 200) 200 [a0] S K)=fun C a0 S K=>aUr C a0 S K:=by kernel_rfl
noncomputable def aUt (C:aD) (a0 a1:V) (S:St) (K:KW):Prop:=
bR (aN (a0:V).cells) (wR (aJ none S (.row 0 (a0:V).cells.length [(a0:V).cells])) fun r0=>
bR (aN (a1:V).cells) (wR (aJ none r0.2 (.row 0 (a1:V).cells.length [(a1:V).cells])) fun r1=>
wR (aA prog 76 (.ptr r0.1 0 0 0) 0) fun t2=>
wR (aB prog 9 t2 r1.2) fun t3=>
wR (aA prog 145 (.ptr r1.1 0 0 0) 0) fun t4=>
wR (aB prog 9 t4 r1.2) fun t5=>
wR (aG prog .lss 9 t3 t5) fun t6=>
aE t6 (K (.bool true) r1.2) (wR (aA prog 76 (.ptr r0.1 0 0 0) 0) fun t7=>
wR (aB prog 9 t7 r1.2) fun t8=>
wR (aA prog 145 (.ptr r1.1 0 0 0) 0) fun t9=>
wR (aB prog 9 t9 r1.2) fun t10=>
bR (aL prog 9 t8 t10) (wR (aG prog .eql 9 t8 t10) fun t11=>
aE t11 (wR (aA prog 76 (.ptr r0.1 0 0 0) 1) fun t12=>
wR (aB prog 3 t12 r1.2) fun t13=>
wR (aA prog 145 (.ptr r1.1 0 0 0) 1) fun t14=>
wR (aB prog 3 t14 r1.2) fun t15=>
wR (aG prog .lss 3 t13 t15) fun t16=>
K t16 r1.2) (K (.bool false) r1.2)))))
theorem aUu:(fun (C:aD) (a0 a1:V) (S:St) (K:KW)=>aM prog C (bC 201) (bE 201) 201 [a0,a1] S K)=fun C a0 a1 S K=>aUt C a0 a1 S K:=by kernel_rfl
noncomputable def vU (C:aD) (K:KW) (p0 p1:V) (S:St)  :Prop:=
wR (aG prog .add 3 p0 p1) fun t0=>
K (.tup [t0,(.int .i64 0)]) S
noncomputable def aUv (C:aD) (a0 a1:V) (S:St) (K:KW):Prop:=
wR (aG prog .gtr 3 a1 (.int .i64 0)) fun t1=>
aE t1 (wR (aG prog .sub 3 (.int .i64 9223372036854775807) a1) fun t2=>
wR (aG prog .gtr 3 a0 t2) fun t3=>
aE t3 (K (.tup [(.int .i64 0),(.int .i64 7)]) S) (wR (aG prog .lss 3 a1 (.int .i64 0)) fun t4=>
aE t4 (wR (aG prog .sub 3 (.int .i64 (-9223372036854775808)) a1) fun t5=>
wR (aG prog .lss 3 a0 t5) fun t6=>
aE t6 (K (.tup [(.int .i64 0),(.int .i64 7)]) S) (vU C K a0 a1 S)) (vU C K a0 a1 S))) (wR (aG prog .lss 3 a1 (.int .i64 0)) fun t7=>
aE t7 (wR (aG prog .sub 3 (.int .i64 (-9223372036854775808)) a1) fun t8=>
wR (aG prog .lss 3 a0 t8) fun t9=>
aE t9 (K (.tup [(.int .i64 0),(.int .i64 7)]) S) (vU C K a0 a1 S)) (vU C K a0 a1 S))
theorem aUw:(fun (C:aD) (a0 a1:V) (S:St) (K:KW)=>aM prog C (bC 203) (bE 203) 203 [a0,a1] S K)=fun C a0 a1 S K=>aUv C a0 a1 S K:=by kernel_rfl
noncomputable def aUx (C:aD) (a0:V) (S:St) (K:KW):Prop:=
wR (aG prog .rem 3 a0 (.int .i64 4)) fun t0=>
bR (aL prog 3 t0 (.int .i64 0)) (wR (aG prog .eql 3 t0 (.int .i64 0)) fun t1=>
aE t1 (wR (aG prog .rem 3 a0 (.int .i64 100)) fun t2=>
bR (aL prog 3 t2 (.int .i64 0)) (wR (aG prog .neq 3 t2 (.int .i64 0)) fun t3=>
aE t3 (K (.bool true) S) (wR (aG prog .rem 3 a0 (.int .i64 400)) fun t4=>
bR (aL prog 3 t4 (.int .i64 0)) (wR (aG prog .eql 3 t4 (.int .i64 0)) fun t5=>
K t5 S)))) (K (.bool false) S))
theorem aUy:(fun (C:aD) (a0:V) (S:St) (K:KW)=>aM prog C (bC 204) (bE 204) 204 [a0] S K)=fun C a0 S K=>aUx C a0 S K:=by kernel_rfl
noncomputable def aUz (C:aD) (a0 a1:V) (S:St) (K:KW):Prop:=
C 254 [a0,a1,(.int .i64 10000)] S fun t0 S1=>
bF t0 0 fun t2=>
bF t0 1 fun t3=>
K (.tup [t2,t3]) S1
theorem aV0:(fun (C:aD) (a0 a1:V) (S:St) (K:KW)=>aM prog C (bC 217) (bE 217) 217 [a0,a1] S K)=fun C a0 a1 S K=>aUz C a0 a1 S K:=by kernel_rfl
noncomputable def aFw (C:aD) (K:KW) (again0:List V→St→Prop) (p4 p5 p7 p8 p10 p11 p12:V) (S:St)  :Prop:=
wR (bG prog 3 229 p7 none S) fun r4=>
wR (lJ Tryz.f255 [p5,r4.1,(.int .u64 0)]) fun t5=>
bF t5 0 fun t7=>
bF t5 1 fun t8=>
wR (lJ Tryz.f255 [p4,p8,t8]) fun t9=>
bF t9 0 fun t11=>
bF t9 1 fun t12=>
wR (aG prog .add 3 p12 (.int .i64 1)) fun t13=>
again0 [t11,t7,t13] r4.2
noncomputable def aFx (C:aD) (K:KW) (p10 p11:V) (vs:List V) (S:St) (again0:List V→St→Prop)  :Prop:=
eB vs fun x4 vs=>
eB vs fun x5 vs=>
eB vs fun x12 vs=>
wR (aG prog .lss 3 x12 p11) fun t1=>
aE t1 (wR (aC prog 96 p10 x12) fun t2=>
wR (aB prog 3 t2 S) fun t3=>
wR (aG prog .lss 3 t3 (.int .i64 0)) fun t14=>
aE t14 (wR (iU .xor (.int .u64 0)) fun t15=>
aFw C K again0 x4 x5 t3 t15 p10 p11 x12 S) (aFw C K again0 x4 x5 t3 (.int .u64 0) p10 p11 x12 S)) (wR (aG prog .shr 229 x5 (.int .u64 63)) fun t16=>
bR (aL prog 229 t16 (.int .u64 0)) (wR (aG prog .eql 229 t16 (.int .u64 0)) fun t17=>
aE t17 (wR (bG prog 229 3 x5 none S) fun r18=>
bR (aL prog 229 x4 (.int .u64 0)) (wR (aG prog .eql 229 x4 (.int .u64 0)) fun t19=>
K (.tup [r18.1,t19]) r18.2)) (wR (bG prog 229 3 x5 none S) fun r20=>
bR (aL prog 229 x4 (.int .u64 18446744073709551615)) (wR (aG prog .eql 229 x4 (.int .u64 18446744073709551615)) fun t21=>
K (.tup [r20.1,t21]) r20.2))))
noncomputable def aV1 (C:aD) (a0:V) (S:St) (K:KW):Prop:=
wR (bH prog 96 a0 S) fun t0=>
cU [(.int .u64 0),(.int .u64 0),(.int .i64 0)] S (aFx C K a0 t0)
theorem aV2:(fun (C:aD) (a0:V) (S:St) (K:KW)=>aM prog C (bC 218) (bE 218) 218 [a0] S K)=fun C a0 S K=>aV1 C a0 S K:=by kernel_rfl
noncomputable def vV (C:aD) (K:KW) (p0 p1:V) (S:St)  :Prop:=
wR (aG prog .sub 3 p0 p1) fun t0=>
K (.tup [t0,(.int .i64 0)]) S
noncomputable def aV3 (C:aD) (a0 a1:V) (S:St) (K:KW):Prop:=
wR (aG prog .lss 3 a1 (.int .i64 0)) fun t1=>
aE t1 (wR (aG prog .add 3 (.int .i64 9223372036854775807) a1) fun t2=>
wR (aG prog .gtr 3 a0 t2) fun t3=>
aE t3 (K (.tup [(.int .i64 0),(.int .i64 7)]) S) (wR (aG prog .gtr 3 a1 (.int .i64 0)) fun t4=>
aE t4 (wR (aG prog .add 3 (.int .i64 (-9223372036854775808)) a1) fun t5=>
wR (aG prog .lss 3 a0 t5) fun t6=>
aE t6 (K (.tup [(.int .i64 0),(.int .i64 7)]) S) (vV C K a0 a1 S)) (vV C K a0 a1 S))) (wR (aG prog .gtr 3 a1 (.int .i64 0)) fun t7=>
aE t7 (wR (aG prog .add 3 (.int .i64 (-9223372036854775808)) a1) fun t8=>
wR (aG prog .lss 3 a0 t8) fun t9=>
aE t9 (K (.tup [(.int .i64 0),(.int .i64 7)]) S) (vV C K a0 a1 S)) (vV C K a0 a1 S))
theorem aV4:(fun (C:aD) (a0 a1:V) (S:St) (K:KW)=>aM prog C (bC 219) (bE 219) 219 [a0,a1] S K)=fun C a0 a1 S K=>aV3 C a0 a1 S K:=by kernel_rfl
noncomputable def aFy (C:aD) (K:KW) (p0:V) (vs:List V) (S:St) (again0:List V→St→Prop)  :Prop:=
eB vs fun x2 vs=>
eB vs fun x3 vs=>
wR (bH prog 27 p0 S) fun t0=>
wR (aG prog .lss 3 x3 t0) fun t1=>
aE t1 (wR (aG prog .sub 3 x3 (.int .i64 1)) fun t2=>
wR (aC prog 27 p0 t2) fun t3=>
wR (aA prog 90 t3 0) fun t4=>
wR (aB prog 9 t4 (⟨S.next+12,S.heap⟩:St)) fun t5=>
wR (aC prog 27 p0 x3) fun t6=>
wR (aA prog 90 t6 0) fun t7=>
wR (aB prog 9 t7 (⟨S.next+12,S.heap⟩:St)) fun t8=>
wR (aG prog .geq 9 t5 t8) fun t9=>
aE t9 (K (.bool false) (⟨S.next+12,S.heap⟩:St)) (wR (aG prog .add 3 x3 (.int .i64 1)) fun t10=>
again0 [x2,t10] (⟨S.next+12,S.heap⟩:St))) (K (.bool true) S)
noncomputable def aV5 (C:aD) (a0:V) (S:St) (K:KW):Prop:=
cU [(.bool false),(.int .i64 1)] S (aFy C K a0)
theorem aV6:(fun (C:aD) (a0:V) (S:St) (K:KW)=>aM prog C (bC 220) (bE 220) 220 [a0] S K)=fun C a0 S K=>aV5 C a0 S K:=by kernel_rfl
noncomputable def aAc (C:aD) (K:KW) (p0 p3:V) (S:St)  :Prop:=
aE p3 (K (.bool true) S) (bR (aL prog 21 p0 (.int .i32 215)) (wR (aG prog .eql 21 p0 (.int .i32 215)) fun t0=>
aE t0 (K (.bool false) S) (bR (aL prog 21 p0 (.int .i32 247)) (wR (aG prog .eql 21 p0 (.int .i32 247)) fun t1=>
aE t1 (K (.bool false) S) (wR (aG prog .geq 21 p0 (.int .i32 192)) fun t2=>
aE t2 (wR (aG prog .leq 21 p0 (.int .i32 591)) fun t3=>
K t3 S) (K (.bool false) S))))))
noncomputable def aFz (C:aD) (K:KW) (p0 p3:V) (S:St)  :Prop:=
aE p3 (aAc C K p0 (.bool true) S) (wR (aG prog .geq 21 p0 (.int .i32 65)) fun t4=>
aE t4 (wR (aG prog .leq 21 p0 (.int .i32 90)) fun t5=>
aAc C K p0 t5 S) (aAc C K p0 (.bool false) S))
noncomputable def aV7 (C:aD) (a0:V) (S:St) (K:KW):Prop:=
wR (aG prog .geq 21 a0 (.int .i32 97)) fun t6=>
aE t6 (wR (aG prog .leq 21 a0 (.int .i32 122)) fun t7=>
aFz C K a0 t7 S) (aFz C K a0 (.bool false) S)
theorem aV8:(fun (C:aD) (a0:V) (S:St) (K:KW)=>aM prog C (bC 225) (bE 225) 225 [a0] S K)=fun C a0 S K=>aV7 C a0 S K:=by kernel_rfl
noncomputable def aG0 (C:aD) (K:KW) (p1 p14 p15:V) (vs:List V) (S:St) (again0:List V→St→Prop)  :Prop:=
eB vs fun x3 vs=>
eB vs fun x4 vs=>
eB vs fun x16 vs=>
wR (aG prog .lss 3 x16 p15) fun t4=>
aE t4 (wR (aC prog 80 p14 x16) fun t5=>
wR (aB prog 145 t5 S) fun t6=>
wR (aJ none S (.row 0 4 [[.str [],.int .i64 0,.int .i64 0,.int .i64 0]])) fun r7=>
wR (aH prog 145 (.ptr r7.1 0 0 0) t6 r7.2) fun S8=>
wR (aA prog 145 (.ptr r7.1 0 0 0) 2) fun t9=>
wR (aB prog 3 t9 (⟨S8.next+12,S8.heap⟩:St)) fun t10=>
wR (aA prog 145 (.ptr r7.1 0 0 0) 3) fun t11=>
wR (aB prog 3 t11 (⟨S8.next+12,S8.heap⟩:St)) fun t12=>
wR (aK prog 96 1 [(0,t10)] (some (S8.next+3)) (⟨S8.next+12,S8.heap⟩:St)) fun r13=>
wR (aW prog 96 x3 r13.1 (some (S8.next+4)) r13.2) fun r14=>
wR (aB prog 3 t11 r14.2) fun t15=>
bR (dP t12 t15) (wR (aK prog 96 1 [(0,t12)] (some (S8.next+8)) r14.2) fun r16=>
wR (aW prog 96 x4 r16.1 (some (S8.next+9)) r16.2) fun r17=>
wR (aG prog .add 3 x16 (.int .i64 1)) fun t18=>
again0 [r14.1,r17.1,t18] r17.2)) (C 218 [x3] S fun t19 S20=>
bF t19 0 fun t21=>
bF t19 1 fun t22=>
C 218 [x4] S20 fun t23 S24=>
bF t23 0 fun t25=>
bF t23 1 fun t26=>
wR (aA prog 82 p1 0) fun t27=>
wR (aB prog 3 t27 S24) fun t28=>
wR (aA prog 82 p1 1) fun t29=>
wR (aB prog 3 t29 S24) fun t30=>
wR (aK prog 96 2 [(0,t28),(1,t30)] none S24) fun r31=>
C 218 [r31.1] r31.2 fun t32 S33=>
bF t32 0 fun t34=>
bF t32 1 fun t35=>
aE t22 (aE t26 (aE t35 (wR (aA prog 82 p1 0) fun t36=>
wR (aB prog 3 t36 S33) fun t37=>
bR (aL prog 3 t21 t37) (wR (aG prog .eql 3 t21 t37) fun t38=>
aE t38 (wR (aA prog 82 p1 1) fun t39=>
wR (aB prog 3 t39 S33) fun t40=>
bR (aL prog 3 t25 t40) (wR (aG prog .eql 3 t25 t40) fun t41=>
aE t41 (wR (aA prog 82 p1 2) fun t42=>
wR (aB prog 3 t42 S33) fun t43=>
bR (aL prog 3 t34 t43) (wR (aG prog .eql 3 t34 t43) fun t44=>
K t44 S33)) (K (.bool false) S33))) (K (.bool false) S33))) (K (.bool false) S33)) (K (.bool false) S33)) (K (.bool false) S33))
noncomputable def aV9 (C:aD) (a0:V) (S:St) (K:KW):Prop:=
bR (aN (a0:V).cells) (wR (aJ none S (.row 0 (a0:V).cells.length [(a0:V).cells])) fun r0=>
wR (aA prog 82 (.ptr r0.1 0 0 0) 3) fun t1=>
wR (aB prog 80 t1 r0.2) fun t2=>
wR (bH prog 80 t2 r0.2) fun t3=>
cU [(.nils),(.nils),(.int .i64 0)] r0.2 (aG0 C K (.ptr r0.1 0 0 0) t2 t3))
theorem aVa:(fun (C:aD) (a0:V) (S:St) (K:KW)=>aM prog C (bC 226) (bE 226) 226 [a0] S K)=fun C a0 S K=>aV9 C a0 S K:=by kernel_rfl
noncomputable def aZq (C:aD) (a0 a1:V) (S:St) (K:KW):Prop:=
bR (aN (a0:V).cells) (wR (aJ none S (.row 0 (a0:V).cells.length [(a0:V).cells])) fun r0=>
wR (aA prog 84 (.ptr r0.1 0 0 0) 0) fun t1=>
wR (aB prog 57 t1 r0.2) fun t2=>
wR (aB prog 57 a1 r0.2) fun t3=>
bR (aL prog 57 t2 t3) (wR (aG prog .eql 57 t2 t3) fun t4=>
K t4 r0.2))
theorem aVb:(fun (C:aD) (a0 a1:V) (S:St) (K:KW)=>aM prog C (bC 227) (bE 227) 227 [a0,a1] S K)=fun C a0 a1 S K=>aZq C a0 a1 S K:=by kernel_rfl
noncomputable def aG1 (C:aD) (K:KW) (p1 p2 p22:V) (vs:List V) (S:St) (again0:List V→St→Prop)  :Prop:=
eB vs fun x3 vs=>
eB vs fun x23 vs=>
wR (aG prog .lss 3 x23 p22) fun t20=>
aE t20 (wR (aA prog 82 p1 3) fun t21=>
wR (aB prog 80 t21 (⟨S.next+13,S.heap⟩:St)) fun t22=>
wR (aC prog 80 t22 x23) fun t23=>
wR (aA prog 145 t23 2) fun t24=>
wR (aA prog 82 p1 3) fun t25=>
wR (aB prog 80 t25 (⟨S.next+13,S.heap⟩:St)) fun t26=>
wR (aC prog 80 t26 x23) fun t27=>
wR (aA prog 145 t27 3) fun t28=>
wR (aK prog 361 2 [(0,t24),(1,t28)] (some (S.next+10)) (⟨S.next+13,S.heap⟩:St)) fun r29=>
C 259 [r29.1] r29.2 fun t30 S31=>
bR (aL prog 31 t30 (.int .i64 0)) (wR (aG prog .neq 31 t30 (.int .i64 0)) fun t32=>
aE t32 (wR (aQ prog 82 []) fun t33=>
wR (aH prog 82 p2 t33 S31) fun S34=>
wR (aB prog 82 p2 S34) fun t35=>
K (.tup [t35,t30]) S34) (wR (aG prog .add 3 x23 (.int .i64 1)) fun t36=>
again0 [x3,t36] S31))) (wR (aB prog 82 p1 S) fun t37=>
wR (aH prog 82 p2 t37 S) fun S38=>
wR (aB prog 82 p2 S38) fun t39=>
K (.tup [t39,(.int .i64 0)]) S38)
noncomputable def aVc (C:aD) (a0:V) (S:St) (K:KW):Prop:=
bR (aN (a0:V).cells) (wR (aJ none S (.row 0 (a0:V).cells.length [(a0:V).cells])) fun r0=>
wR (aJ none r0.2 (.row 0 4 [[.int .i64 0,.int .i64 0,.int .i64 0,.nils]])) fun r1=>
wR (aA prog 82 (.ptr r0.1 0 0 0) 3) fun t2=>
wR (aB prog 80 t2 r1.2) fun t3=>
wR (aW prog 80 (.nils) t3 none r1.2) fun r4=>
wR (aA prog 82 (.ptr r0.1 0 0 0) 3) fun t5=>
wR (aH prog 80 t5 r4.1 r4.2) fun S6=>
wR (aA prog 82 (.ptr r0.1 0 0 0) 0) fun t7=>
wR (aA prog 82 (.ptr r0.1 0 0 0) 1) fun t8=>
wR (aA prog 82 (.ptr r0.1 0 0 0) 2) fun t9=>
wR (aK prog 361 3 [(0,t7),(1,t8),(2,t9)] none S6) fun r10=>
C 259 [r10.1] r10.2 fun t11 S12=>
bR (aL prog 31 t11 (.int .i64 0)) (wR (aG prog .neq 31 t11 (.int .i64 0)) fun t13=>
aE t13 (wR (aQ prog 82 []) fun t14=>
wR (aH prog 82 (.ptr r1.1 0 0 0) t14 S12) fun S15=>
wR (aB prog 82 (.ptr r1.1 0 0 0) S15) fun t16=>
K (.tup [t16,t11]) S15) (wR (aA prog 82 (.ptr r0.1 0 0 0) 3) fun t17=>
wR (aB prog 80 t17 S12) fun t18=>
wR (bH prog 80 t18 S12) fun t19=>
cU [(.int .i64 0),(.int .i64 0)] S12 (aG1 C K (.ptr r0.1 0 0 0) (.ptr r1.1 0 0 0) t19))))
theorem aVd:(fun (C:aD) (a0:V) (S:St) (K:KW)=>aM prog C (bC 228) (bE 228) 228 [a0] S K)=fun C a0 S K=>aVc C a0 S K:=by kernel_rfl
noncomputable def aVe (C:aD) (a0 a1:V) (S:St) (K:KW):Prop:=
bR (aN (a0:V).cells) (wR (aJ none S (.row 0 (a0:V).cells.length [(a0:V).cells])) fun r0=>
bR (aN (a1:V).cells) (wR (aJ none r0.2 (.row 0 (a1:V).cells.length [(a1:V).cells])) fun r1=>
wR (aA prog 82 (.ptr r0.1 0 0 0) 0) fun t2=>
wR (aB prog 3 t2 r1.2) fun t3=>
wR (aA prog 82 (.ptr r1.1 0 0 0) 0) fun t4=>
wR (aB prog 3 t4 r1.2) fun t5=>
bR (aL prog 3 t3 t5) (wR (aG prog .eql 3 t3 t5) fun t6=>
aE t6 (wR (aA prog 82 (.ptr r0.1 0 0 0) 1) fun t7=>
wR (aB prog 3 t7 r1.2) fun t8=>
wR (aA prog 82 (.ptr r1.1 0 0 0) 1) fun t9=>
wR (aB prog 3 t9 r1.2) fun t10=>
bR (aL prog 3 t8 t10) (wR (aG prog .eql 3 t8 t10) fun t11=>
aE t11 (wR (aA prog 82 (.ptr r0.1 0 0 0) 2) fun t12=>
wR (aB prog 3 t12 r1.2) fun t13=>
wR (aA prog 82 (.ptr r1.1 0 0 0) 2) fun t14=>
wR (aB prog 3 t14 r1.2) fun t15=>
bR (aL prog 3 t13 t15) (wR (aG prog .eql 3 t13 t15) fun t16=>
aE t16 (wR (aA prog 82 (.ptr r0.1 0 0 0) 3) fun t17=>
wR (aB prog 80 t17 r1.2) fun t18=>
wR (aA prog 82 (.ptr r1.1 0 0 0) 3) fun t19=>
wR (aB prog 80 t19 r1.2) fun t20=>
C 260 [t18,t20] r1.2 fun t21 S22=>
K t21 S22) (K (.bool false) r1.2))) (K (.bool false) r1.2))) (K (.bool false) r1.2))))
theorem aVf:(fun (C:aD) (a0 a1:V) (S:St) (K:KW)=>aM prog C (bC 229) (bE 229) 229 [a0,a1] S K)=fun C a0 a1 S K=>aVe C a0 a1 S K:=by kernel_rfl
noncomputable def aG2 (C:aD) (K:KW) (p0 p1 p7:V) (vs:List V) (S:St) (again0:List V→St→Prop)  :Prop:=
eB vs fun x4 vs=>
eB vs fun x8 vs=>
wR (aG prog .lss 3 x8 p7) fun t1=>
aE t1 (wR (aC prog 28 p0 x8) fun t2=>
wR (aB prog 132 t2 S) fun t3=>
aF3 prog C p1 [t3] S fun t4 S5=>
aE t4 (K x8 S5) (wR (aG prog .add 3 x8 (.int .i64 1)) fun t6=>
again0 [x4,t6] S5)) (K (.int .i64 (-1)) S)
noncomputable def aZr (C:aD) (a0 a1:V) (S:St) (K:KW):Prop:=
wR (bH prog 28 a0 S) fun t0=>
cU [(.int .i64 0),(.int .i64 0)] S (aG2 C K a0 a1 t0)
theorem aVg:(fun (C:aD) (a0 a1:V) (S:St) (K:KW)=>aM prog C (bC 231) (bE 231) 231 [a0,a1] S K)=fun C a0 a1 S K=>aZr C a0 a1 S K:=by kernel_rfl
noncomputable def aZs (C:aD) (a0 a1:V) (S:St) (K:KW):Prop:=
bR (aN (a0:V).cells) (wR (aJ none S (.row 0 (a0:V).cells.length [(a0:V).cells])) fun r0=>
wR (aA prog 132 (.ptr r0.1 0 0 0) 0) fun t1=>
wR (aB prog 3 t1 r0.2) fun t2=>
wR (aB prog 3 a1 r0.2) fun t3=>
bR (aL prog 3 t2 t3) (wR (aG prog .eql 3 t2 t3) fun t4=>
K t4 r0.2))
theorem aVh:(fun (C:aD) (a0 a1:V) (S:St) (K:KW)=>aM prog C (bC 232) (bE 232) 232 [a0,a1] S K)=fun C a0 a1 S K=>aZs C a0 a1 S K:=by kernel_rfl
noncomputable def aVi (C:aD) (a0 a1:V) (S:St) (K:KW):Prop:=
bR (aN (a1:V).cells) (wR (aJ none S (.row 0 (a1:V).cells.length [(a1:V).cells])) fun r0=>
C 152 [a0,(.func 263 [] [(.ptr r0.1 0 0 0)])] r0.2 fun t1 S2=>
K t1 S2)
theorem aVj:(fun (C:aD) (a0 a1:V) (S:St) (K:KW)=>aM prog C (bC 233) (bE 233) 233 [a0,a1] S K)=fun C a0 a1 S K=>aVi C a0 a1 S K:=by kernel_rfl
noncomputable def aVk (C:aD) (a0:V) (S:St) (K:KW):Prop:=
wR (aW prog 25 (.nils) a0 none S) fun r0=>
K r0.1 r0.2
theorem aVl:(fun (C:aD) (a0:V) (S:St) (K:KW)=>aM prog C (bC 235) (bE 235) 235 [a0] S K)=fun C a0 S K=>aVk C a0 S K:=by kernel_rfl
noncomputable def aVm (C:aD) (a0 a1:V) (S:St) (K:KW):Prop:=
C 86 [a0] S fun t0 S1=>
wR (iU .not t0) fun t2=>
aE t2 (K (.tup [(.int .i64 0),(.int .i64 1)]) S1) (C 233 [a0,a1] S1 fun t3 S4=>
wR (aG prog .lss 3 t3 (.int .i64 0)) fun t5=>
aE t5 (K (.tup [(.int .i64 0),(.int .i64 11)]) S4) (wR (aC prog 25 a0 t3) fun t6=>
wR (aA prog 126 t6 3) fun t7=>
wR (aB prog 4 t7 S4) fun t8=>
aE t8 (K (.tup [(.int .i64 0),(.int .i64 13)]) S4) (K (.tup [t3,(.int .i64 0)]) S4)))
theorem aVn:(fun (C:aD) (a0 a1:V) (S:St) (K:KW)=>aM prog C (bC 236) (bE 236) 236 [a0,a1] S K)=fun C a0 a1 S K=>aVm C a0 a1 S K:=by kernel_rfl
noncomputable def aG3 (C:aD) (K:KW) (p0 p4 p6 p34 p35:V) (vs:List V) (S:St) (again0:List V→St→Prop)  :Prop:=
eB vs fun x7 vs=>
eB vs fun x8 vs=>
eB vs fun x36 vs=>
wR (aG prog .lss 3 x36 p35) fun t26=>
aE t26 (wR (aC prog 55 p34 x36) fun t27=>
wR (aB prog 201 t27 S) fun t28=>
wR (aJ none S (.row 0 4 [[.str [],.str [],.int .i64 0,.int .i64 0]])) fun r29=>
wR (aH prog 201 (.ptr r29.1 0 0 0) t28 r29.2) fun S30=>
wR (aB prog 52 p4 S30) fun t31=>
wR (aB prog 201 (.ptr r29.1 0 0 0) S30) fun t32=>
C 268 [p0,t31,t32] S30 fun t33 S34=>
bF t33 0 fun t35=>
bF t33 1 fun t36=>
bF t33 2 fun t37=>
bR (aL prog 31 t37 (.int .i64 0)) (wR (aG prog .neq 31 t37 (.int .i64 0)) fun t38=>
aE t38 (wR (aQ prog 82 []) fun t39=>
wR (aH prog 82 p6 t39 S34) fun S40=>
wR (aB prog 82 p6 S40) fun t41=>
K (.tup [t41,t37]) S40) (wR (aA prog 201 (.ptr r29.1 0 0 0) 1) fun t42=>
wR (aB prog 9 t42 S34) fun t43=>
C 269 [x8,t43,t35,t36] S34 fun t44 S45=>
bF t44 0 fun t46=>
bF t44 1 fun t47=>
bR (aL prog 31 t47 (.int .i64 0)) (wR (aG prog .neq 31 t47 (.int .i64 0)) fun t48=>
aE t48 (wR (aQ prog 82 []) fun t49=>
wR (aH prog 82 p6 t49 S45) fun S50=>
wR (aB prog 82 p6 S50) fun t51=>
K (.tup [t51,t47]) S50) (wR (aG prog .add 3 x36 (.int .i64 1)) fun t52=>
again0 [x7,t46,t52] S45))))) (C 270 [x8] S fun t53 S54=>
bF t53 0 fun t55=>
bF t53 1 fun t56=>
wR (aH prog 82 p6 t55 S54) fun S57=>
wR (aB prog 82 p6 S57) fun t58=>
K (.tup [t58,t56]) S57)
noncomputable def aVo (C:aD) (a0 a1 a2:V) (S:St) (K:KW):Prop:=
bR (aN (a1:V).cells) (wR (aJ none S (.row 0 (a1:V).cells.length [(a1:V).cells])) fun r0=>
wR (aJ none r0.2 (.row 0 4 [[.int .i64 0,.int .i64 0,.int .i64 0,.nils]])) fun r1=>
C 85 [a0] r1.2 fun t2 S3=>
wR (iU .not t2) fun t4=>
aE t4 (wR (aQ prog 82 []) fun t5=>
wR (aH prog 82 (.ptr r1.1 0 0 0) t5 S3) fun S6=>
wR (aB prog 82 (.ptr r1.1 0 0 0) S6) fun t7=>
K (.tup [t7,(.int .i64 1)]) S6) (wR (aB prog 52 (.ptr r0.1 0 0 0) S3) fun t8=>
C 123 [t8] S3 fun t9 S10=>
wR (iU .not t9) fun t11=>
aE t11 (wR (aQ prog 82 []) fun t12=>
wR (aH prog 82 (.ptr r1.1 0 0 0) t12 S10) fun S13=>
wR (aB prog 82 (.ptr r1.1 0 0 0) S13) fun t14=>
K (.tup [t14,(.int .i64 9)]) S13) (wR (bH prog 55 a2 S10) fun t15=>
bR (aL prog 3 t15 (.int .i64 0)) (wR (aG prog .eql 3 t15 (.int .i64 0)) fun t16=>
aE t16 (wR (aQ prog 82 []) fun t17=>
wR (aH prog 82 (.ptr r1.1 0 0 0) t17 S10) fun S18=>
wR (aB prog 82 (.ptr r1.1 0 0 0) S18) fun t19=>
K (.tup [t19,(.int .i64 1)]) S18) (wR (bH prog 55 a2 S10) fun t20=>
wR (aG prog .gtr 3 t20 (.int .i64 12)) fun t21=>
aE t21 (wR (aQ prog 82 []) fun t22=>
wR (aH prog 82 (.ptr r1.1 0 0 0) t22 S10) fun S23=>
wR (aB prog 82 (.ptr r1.1 0 0 0) S23) fun t24=>
K (.tup [t24,(.int .i64 2)]) S23) (wR (bH prog 55 a2 S10) fun t25=>
cU [(.int .i64 0),(.nils),(.int .i64 0)] S10 (aG3 C K a0 (.ptr r0.1 0 0 0) (.ptr r1.1 0 0 0) a2 t25)))))))
theorem aVp:(fun (C:aD) (a0 a1 a2:V) (S:St) (K:KW)=>aM prog C (bC 238) (bE 238) 238 [a0,a1,a2] S K)=fun C a0 a1 a2 S K=>aVo C a0 a1 a2 S K:=by kernel_rfl
noncomputable def aVq (C:aD) (a0 a1 a2:V) (S:St) (K:KW):Prop:=
bR (aN (a2:V).cells) (wR (aJ none S (.row 0 (a2:V).cells.length [(a2:V).cells])) fun r0=>
wR (aJ none r0.2 (.row 0 3 [[.int .i64 0,.int .i64 0,.int .i64 0]])) fun r1=>
gI a0 (wR (aA prog 30 a0 1) fun t2=>
wR (aB prog 25 t2 r1.2) fun t3=>
C 271 [t3,a1] r1.2 fun t4 S5=>
bF t4 0 fun t6=>
bF t4 1 fun t7=>
bF t4 2 fun t8=>
bR (aL prog 31 t8 (.int .i64 0)) (wR (aG prog .neq 31 t8 (.int .i64 0)) fun t9=>
aE t9 (C 103 [t8] S5 fun t10 S11=>
wR (aH prog 48 (.ptr r1.1 0 0 0) t10 S11) fun S12=>
wR (aB prog 48 (.ptr r1.1 0 0 0) S12) fun t13=>
K t13 S12) (gI a0 (wR (aA prog 30 a0 2) fun t14=>
wR (aB prog 26 t14 S5) fun t15=>
wR (bH prog 26 t15 S5) fun t16=>
wR (aG prog .geq 3 t16 (.int .i64 40)) fun t17=>
aE t17 (C 103 [(.int .i64 14)] S5 fun t18 S19=>
wR (aH prog 48 (.ptr r1.1 0 0 0) t18 S19) fun S20=>
wR (aB prog 48 (.ptr r1.1 0 0 0) S20) fun t21=>
K t21 S20) (wR (aA prog 84 (.ptr r0.1 0 0 0) 2) fun t22=>
wR (aB prog 82 t22 S5) fun t23=>
C 157 [t23] S5 fun t24 S25=>
bF t24 0 fun t26=>
bF t24 1 fun t27=>
bR (aL prog 31 t27 (.int .i64 0)) (wR (aG prog .neq 31 t27 (.int .i64 0)) fun t28=>
aE t28 (C 103 [t27] S25 fun t29 S30=>
wR (aH prog 48 (.ptr r1.1 0 0 0) t29 S30) fun S31=>
wR (aB prog 48 (.ptr r1.1 0 0 0) S31) fun t32=>
K t32 S31) (gI a0 (wR (aA prog 30 a0 3) fun t33=>
wR (aB prog 27 t33 S25) fun t34=>
C 158 [t34,t26] S25 fun t35 S36=>
bF t35 0 fun t37=>
bF t35 1 fun t38=>
bR (aL prog 31 t38 (.int .i64 0)) (wR (aG prog .neq 31 t38 (.int .i64 0)) fun t39=>
aE t39 (C 103 [t38] S36 fun t40 S41=>
wR (aH prog 48 (.ptr r1.1 0 0 0) t40 S41) fun S42=>
wR (aB prog 48 (.ptr r1.1 0 0 0) S42) fun t43=>
K t43 S42) (wR (aQ prog 57 [(0,a1),(1,t7)]) fun t44=>
wR (aA prog 84 (.ptr r0.1 0 0 0) 0) fun t45=>
wR (aH prog 57 t45 t44 S36) fun S46=>
gI a0 (wR (aA prog 30 a0 2) fun t47=>
wR (aB prog 26 t47 (⟨S46.next+21,S46.heap⟩:St)) fun t48=>
wR (aB prog 84 (.ptr r0.1 0 0 0) (⟨S46.next+21,S46.heap⟩:St)) fun t49=>
wR (aK prog 26 1 [(0,t49)] (some (S46.next+10)) (⟨S46.next+21,S46.heap⟩:St)) fun r50=>
wR (aW prog 26 t48 r50.1 (some (S46.next+11)) r50.2) fun r51=>
gI a0 (wR (aA prog 30 a0 1) fun t52=>
wR (aH prog 25 t52 t6 r51.2) fun S53=>
gI a0 (wR (aA prog 30 a0 3) fun t54=>
wR (aH prog 27 t54 t37 S53) fun S55=>
gI a0 (wR (aA prog 30 a0 2) fun t56=>
wR (aH prog 26 t56 r51.1 S55) fun S57=>
wR (aA prog 84 (.ptr r0.1 0 0 0) 2) fun t58=>
wR (aA prog 82 t58 2) fun t59=>
wR (aB prog 3 t59 S57) fun t60=>
wR (aQ prog 48 [(1,t7),(2,t60)]) fun t61=>
wR (aH prog 48 (.ptr r1.1 0 0 0) t61 S57) fun S62=>
wR (aB prog 48 (.ptr r1.1 0 0 0) S62) fun t63=>
K t63 S62)))))))))))))))
theorem aVr:(fun (C:aD) (a0 a1 a2:V) (S:St) (K:KW)=>aM prog C (bC 239) (bE 239) 239 [a0,a1,a2] S K)=fun C a0 a1 a2 S K=>aVq C a0 a1 a2 S K:=by kernel_rfl
noncomputable def aVs (C:aD) (a0 a1:V) (S:St) (K:KW):Prop:=
wR (aJ none S (.row 0 4 [[.str [],.int .i64 0,.int .i64 0,.bool false]])) fun r0=>
C 233 [a0,a1] r0.2 fun t1 S2=>
wR (aG prog .lss 3 t1 (.int .i64 0)) fun t3=>
aE t3 (wR (aQ prog 126 []) fun t4=>
wR (aH prog 126 (.ptr r0.1 0 0 0) t4 S2) fun S5=>
wR (aB prog 126 (.ptr r0.1 0 0 0) S5) fun t6=>
K (.tup [t6,(.bool false)]) S5) (wR (aC prog 25 a0 t1) fun t7=>
wR (aB prog 126 t7 S2) fun t8=>
wR (aH prog 126 (.ptr r0.1 0 0 0) t8 S2) fun S9=>
wR (aB prog 126 (.ptr r0.1 0 0 0) S9) fun t10=>
K (.tup [t10,(.bool true)]) S9)
theorem aVt:(fun (C:aD) (a0 a1:V) (S:St) (K:KW)=>aM prog C (bC 241) (bE 241) 241 [a0,a1] S K)=fun C a0 a1 S K=>aVs C a0 a1 S K:=by kernel_rfl
noncomputable def aG4 (C:aD) (K:KW) (p0 p9 p10 p11 p12:V) (S:St)  :Prop:=
wR (aG prog .mul 229 p11 p9) fun t7=>
wR (aG prog .mul 229 (.int .u64 2) p12) fun t8=>
wR (aG prog .mul 229 t8 p9) fun t9=>
wR (aG prog .add 229 t9 p10) fun t10=>
wR (aG prog .mul 229 (.int .u64 2) p10) fun t11=>
wR (aG prog .quo 229 t10 t11) fun t12=>
wR (aG prog .add 229 t7 t12) fun t13=>
wR (aG prog .gtr 229 t13 (.int .u64 9223372036854775807)) fun t14=>
aE t14 (K (.tup [(.int .i64 0),(.int .i64 7)]) S) (wR (aG prog .lss 3 p0 (.int .i64 0)) fun t15=>
aE t15 (wR (bG prog 229 3 t13 none S) fun r16=>
wR (iU .neg r16.1) fun t17=>
K (.tup [t17,(.int .i64 0)]) r16.2) (wR (bG prog 229 3 t13 none S) fun r18=>
K (.tup [r18.1,(.int .i64 0)]) r18.2))
noncomputable def aG5 (C:aD) (K:KW) (p0 p1 p2 p8:V) (S:St)  :Prop:=
wR (bG prog 3 229 p1 none S) fun r3=>
wR (bG prog 3 229 p2 none r3.2) fun r4=>
wR (aG prog .quo 229 p8 r4.1) fun t5=>
wR (aG prog .rem 229 p8 r4.1) fun t6=>
wR (aG prog .gtr 229 r3.1 (.int .u64 0)) fun t19=>
aE t19 (wR (aG prog .quo 229 (.int .u64 9223372036854775807) r3.1) fun t20=>
wR (aG prog .gtr 229 t5 t20) fun t21=>
aE t21 (K (.tup [(.int .i64 0),(.int .i64 7)]) (⟨r4.2.next+8,r4.2.heap⟩:St)) (aG4 C K p0 r3.1 r4.1 t5 t6 (⟨r4.2.next+8,r4.2.heap⟩:St))) (aG4 C K p0 r3.1 r4.1 t5 t6 (⟨r4.2.next+8,r4.2.heap⟩:St))
noncomputable def aVu (C:aD) (a0 a1 a2:V) (S:St) (K:KW):Prop:=
wR (aG prog .lss 3 a1 (.int .i64 0)) fun t0=>
aE t0 (K (.tup [(.int .i64 0),(.int .i64 1)]) S) (wR (aG prog .gtr 3 a1 (.int .i64 100000)) fun t1=>
aE t1 (K (.tup [(.int .i64 0),(.int .i64 1)]) S) (wR (bG prog 3 229 a0 none S) fun r2=>
wR (aG prog .lss 3 a0 (.int .i64 0)) fun t22=>
aE t22 (wR (iU .xor r2.1) fun t23=>
wR (aG prog .add 229 t23 (.int .u64 1)) fun t24=>
aG5 C K a0 a1 a2 t24 r2.2) (aG5 C K a0 a1 a2 r2.1 r2.2)))
theorem aVv:(fun (C:aD) (a0 a1 a2:V) (S:St) (K:KW)=>aM prog C (bC 254) (bE 254) 254 [a0,a1,a2] S K)=fun C a0 a1 a2 S K=>aVu C a0 a1 a2 S K:=by kernel_rfl
noncomputable def aG6 (C:aD) (K:KW) (p7 p8:V) (vs:List V) (S:St) (again0:List V→St→Prop)  :Prop:=
eB vs fun x2 vs=>
eB vs fun x9 vs=>
wR (aG prog .lss 3 x9 p8) fun t1=>
aE t1 (wR (aC prog 361 p7 x9) fun t2=>
wR (aB prog 349 t2 S) fun t3=>
gI t3 (wR (aB prog 3 t3 S) fun t4=>
C 219 [(.int .i64 0),t4] S fun t5 S6=>
bF t5 0 fun t7=>
bF t5 1 fun t8=>
bR (aL prog 31 t8 (.int .i64 0)) (wR (aG prog .neq 31 t8 (.int .i64 0)) fun t9=>
aE t9 (K t8 S6) (gI t3 (wR (aH prog 3 t3 t7 S6) fun S10=>
wR (aG prog .add 3 x9 (.int .i64 1)) fun t11=>
again0 [x2,t11] S10))))) (K (.int .i64 0) S)
noncomputable def aQ6 (C:aD) (a0:V) (S:St) (K:KW):Prop:=
wR (bH prog 361 a0 S) fun t0=>
cU [(.int .i64 0),(.int .i64 0)] S (aG6 C K a0 t0)
theorem aVw:(fun (C:aD) (a0:V) (S:St) (K:KW)=>aM prog C (bC 259) (bE 259) 259 [a0] S K)=fun C a0 S K=>aQ6 C a0 S K:=by kernel_rfl
noncomputable def aG7 (C:aD) (K:KW) (p0 p1 p12:V) (vs:List V) (S:St) (again0:List V→St→Prop)  :Prop:=
eB vs fun x4 vs=>
eB vs fun x13 vs=>
wR (aG prog .lss 3 x13 p12) fun t4=>
aE t4 (wR (aC prog 80 p0 x13) fun t5=>
wR (aB prog 145 t5 (⟨S.next+9,S.heap⟩:St)) fun t6=>
wR (aC prog 80 p1 x13) fun t7=>
wR (aB prog 145 t7 (⟨S.next+9,S.heap⟩:St)) fun t8=>
bR (aL prog 145 t6 t8) (wR (aG prog .neq 145 t6 t8) fun t9=>
aE t9 (K (.bool false) (⟨S.next+9,S.heap⟩:St)) (wR (aG prog .add 3 x13 (.int .i64 1)) fun t10=>
again0 [x4,t10] (⟨S.next+9,S.heap⟩:St)))) (K (.bool true) S)
noncomputable def aVx (C:aD) (a0 a1:V) (S:St) (K:KW):Prop:=
wR (bH prog 80 a0 S) fun t0=>
wR (bH prog 80 a1 S) fun t1=>
bR (aL prog 3 t0 t1) (wR (aG prog .neq 3 t0 t1) fun t2=>
aE t2 (K (.bool false) S) (wR (bH prog 80 a0 S) fun t3=>
cU [(.bool false),(.int .i64 0)] S (aG7 C K a0 a1 t3)))
theorem aVy:(fun (C:aD) (a0 a1:V) (S:St) (K:KW)=>aM prog C (bC 260) (bE 260) 260 [a0,a1] S K)=fun C a0 a1 S K=>aVx C a0 a1 S K:=by kernel_rfl
noncomputable def aZt (C:aD) (a0 a1:V) (S:St) (K:KW):Prop:=
bR (aN (a0:V).cells) (wR (aJ none S (.row 0 (a0:V).cells.length [(a0:V).cells])) fun r0=>
wR (aA prog 126 (.ptr r0.1 0 0 0) 0) fun t1=>
wR (aB prog 9 t1 r0.2) fun t2=>
wR (aB prog 9 a1 r0.2) fun t3=>
bR (aL prog 9 t2 t3) (wR (aG prog .eql 9 t2 t3) fun t4=>
K t4 r0.2))
theorem aVz:(fun (C:aD) (a0 a1:V) (S:St) (K:KW)=>aM prog C (bC 263) (bE 263) 263 [a0,a1] S K)=fun C a0 a1 S K=>aZt C a0 a1 S K:=by kernel_rfl
noncomputable def aG8 (C:aD) (K:KW) (p0 p4 p5 p23:V) (S:St)  :Prop:=
aE p23 (K (.tup [(.int .i64 0),(.int .i64 0),(.int .i64 1)]) S) (wR (aA prog 201 p5 1) fun t11=>
wR (aB prog 9 t11 S) fun t12=>
wR (aB prog 52 p4 S) fun t13=>
C 278 [p0,t12,t13] S fun t14 S15=>
bF t14 0 fun t16=>
bF t14 1 fun t17=>
wR (iU .not t17) fun t18=>
aE t18 (K (.tup [(.int .i64 0),(.int .i64 0),(.int .i64 10)]) S15) (wR (aA prog 201 p5 2) fun t19=>
wR (aB prog 3 t19 S15) fun t20=>
wR (aA prog 201 p5 3) fun t21=>
wR (aB prog 3 t21 S15) fun t22=>
C 279 [t20,t22] S15 fun t23 S24=>
bF t23 0 fun t25=>
bF t23 1 fun t26=>
K (.tup [t16,t25,t26]) S24))
noncomputable def aW0 (C:aD) (a0 a1 a2:V) (S:St) (K:KW):Prop:=
bR (aN (a1:V).cells) (wR (aJ none S (.row 0 (a1:V).cells.length [(a1:V).cells])) fun r0=>
bR (aN (a2:V).cells) (wR (aJ none r0.2 (.row 0 (a2:V).cells.length [(a2:V).cells])) fun r1=>
wR (aA prog 201 (.ptr r1.1 0 0 0) 0) fun t2=>
wR (aB prog 9 t2 r1.2) fun t3=>
wR (bH prog 9 t3 r1.2) fun t4=>
wR (aG prog .gtr 3 t4 (.int .i64 64)) fun t5=>
aE t5 (K (.tup [(.int .i64 0),(.int .i64 0),(.int .i64 2)]) r1.2) (wR (aA prog 201 (.ptr r1.1 0 0 0) 1) fun t6=>
wR (aB prog 9 t6 r1.2) fun t7=>
C 165 [t7] r1.2 fun t8 S9=>
wR (iU .not t8) fun t10=>
aE t10 (K (.tup [(.int .i64 0),(.int .i64 0),(.int .i64 8)]) S9) (wR (aA prog 201 (.ptr r1.1 0 0 0) 2) fun t27=>
wR (aB prog 3 t27 S9) fun t28=>
wR (aG prog .lss 3 t28 (.int .i64 1)) fun t29=>
aE t29 (aG8 C K a0 (.ptr r0.1 0 0 0) (.ptr r1.1 0 0 0) (.bool true) S9) (wR (aA prog 201 (.ptr r1.1 0 0 0) 2) fun t30=>
wR (aB prog 3 t30 S9) fun t31=>
wR (aG prog .gtr 3 t31 (.int .i64 1048576)) fun t32=>
aG8 C K a0 (.ptr r0.1 0 0 0) (.ptr r1.1 0 0 0) t32 S9)))))
theorem aW1:(fun (C:aD) (a0 a1 a2:V) (S:St) (K:KW)=>aM prog C (bC 268) (bE 268) 268 [a0,a1,a2] S K)=fun C a0 a1 a2 S K=>aW0 C a0 a1 a2 S K:=by kernel_rfl
noncomputable def aAd (C:aD) (K:KW) (p0 p3 p10:V) (S:St)  :Prop:=
wR (aC prog 80 p0 p10) fun t0=>
wR (aA prog 145 t0 2) fun t1=>
wR (aB prog 3 t1 S) fun t2=>
C 203 [t2,p3] S fun t3 S4=>
bF t3 0 fun t5=>
bF t3 1 fun t6=>
wR (aC prog 80 p0 p10) fun t7=>
wR (aA prog 145 t7 2) fun t8=>
wR (aH prog 3 t8 t5 S4) fun S9=>
K (.tup [p0,t6]) S9
noncomputable def vW (C:aD) (K:KW) (p0 p1 p2 p3 p10 p40:V) (S:St)  :Prop:=
aE p40 (wR (aQ prog 145 [(0,p1),(1,p2)]) fun t10=>
wR (aK prog 80 1 [(0,t10)] none S) fun r11=>
C 280 [p0,p10,r11.1] r11.2 fun t12 S13=>
aAd C K t12 p3 p10 S13) (aAd C K p0 p3 p10 S)
noncomputable def aAe (C:aD) (K:KW) (p0 p1 p2 p3 p10:V) (S:St)  :Prop:=
wR (bH prog 80 p0 S) fun t14=>
bR (aL prog 3 p10 t14) (wR (aG prog .eql 3 p10 t14) fun t15=>
aE t15 (vW C K p0 p1 p2 p3 p10 (.bool true) S) (wR (aC prog 80 p0 p10) fun t16=>
wR (aA prog 145 t16 0) fun t17=>
wR (aB prog 9 t17 S) fun t18=>
bR (aL prog 9 t18 p1) (wR (aG prog .neq 9 t18 p1) fun t19=>
vW C K p0 p1 p2 p3 p10 t19 S)))
noncomputable def aG9 (C:aD) (K:KW) (p0 p1 p2 p3:V) (vs:List V) (S:St) (again0:List V→St→Prop)  :Prop:=
eB vs fun x10 vs=>
wR (bH prog 80 p0 S) fun t20=>
wR (aG prog .lss 3 x10 t20) fun t21=>
aE t21 (wR (aC prog 80 p0 x10) fun t22=>
wR (aA prog 145 t22 0) fun t23=>
wR (aB prog 9 t23 S) fun t24=>
wR (aG prog .lss 9 t24 p1) fun t25=>
aE t25 (wR (aG prog .add 3 x10 (.int .i64 1)) fun t26=>
again0 [t26] S) (aAe C K p0 p1 p2 p3 x10 S)) (aAe C K p0 p1 p2 p3 x10 S)
noncomputable def aW2 (C:aD) (a0 a1 a2 a3:V) (S:St) (K:KW):Prop:=
cU [(.int .i64 0)] S (aG9 C K a0 a1 a2 a3)
theorem aW3:(fun (C:aD) (a0 a1 a2 a3:V) (S:St) (K:KW)=>aM prog C (bC 269) (bE 269) 269 [a0,a1,a2,a3] S K)=fun C a0 a1 a2 a3 S K=>aW2 C a0 a1 a2 a3 S K:=by kernel_rfl
noncomputable def sC (C:aD) (K:KW) (again0:List V→St→Prop) (p0 p2 p3 p4 p15 p16 p68:V) (S:St)  :Prop:=
aE p68 (wR (aQ prog 82 []) fun t37=>
wR (aH prog 82 p2 t37 S) fun S38=>
wR (aB prog 82 p2 S38) fun t39=>
K (.tup [t39,(.int .i64 7)]) S38) (wR (aG prog .add 3 p16 (.int .i64 1)) fun t40=>
again0 [p3,t40] S)
noncomputable def aGa (C:aD) (K:KW) (p0 p2 p4 p15:V) (vs:List V) (S:St) (again0:List V→St→Prop)  :Prop:=
eB vs fun x3 vs=>
eB vs fun x16 vs=>
wR (aG prog .lss 3 x16 p15) fun t5=>
aE t5 (wR (aC prog 80 p0 x16) fun t6=>
gI t6 (wR (aA prog 145 t6 2) fun t7=>
wR (aB prog 3 t7 (⟨S.next+17,S.heap⟩:St)) fun t8=>
gI t6 (wR (aA prog 145 t6 1) fun t9=>
wR (aB prog 3 t9 (⟨S.next+17,S.heap⟩:St)) fun t10=>
C 217 [t8,t10] (⟨S.next+17,S.heap⟩:St) fun t11 S12=>
bF t11 0 fun t13=>
bF t11 1 fun t14=>
gI t6 (wR (aA prog 145 t6 3) fun t15=>
wR (aH prog 3 t15 t13 S12) fun S16=>
wR (aA prog 82 p4 0) fun t17=>
wR (aB prog 3 t17 (⟨S16.next+13,S16.heap⟩:St)) fun t18=>
gI t6 (wR (aA prog 145 t6 2) fun t19=>
wR (aB prog 3 t19 (⟨S16.next+13,S16.heap⟩:St)) fun t20=>
C 203 [t18,t20] (⟨S16.next+13,S16.heap⟩:St) fun t21 S22=>
bF t21 0 fun t23=>
bF t21 1 fun t24=>
wR (aA prog 82 p4 0) fun t25=>
wR (aH prog 3 t25 t23 S22) fun S26=>
wR (aA prog 82 p4 1) fun t27=>
wR (aB prog 3 t27 (⟨S26.next+13,S26.heap⟩:St)) fun t28=>
gI t6 (wR (aA prog 145 t6 3) fun t29=>
wR (aB prog 3 t29 (⟨S26.next+13,S26.heap⟩:St)) fun t30=>
C 203 [t28,t30] (⟨S26.next+13,S26.heap⟩:St) fun t31 S32=>
bF t31 0 fun t33=>
bF t31 1 fun t34=>
wR (aA prog 82 p4 1) fun t35=>
wR (aH prog 3 t35 t33 S32) fun S36=>
bR (aL prog 31 t14 (.int .i64 0)) (wR (aG prog .neq 31 t14 (.int .i64 0)) fun t41=>
aE t41 (sC C K again0 p0 p2 x3 p4 p15 x16 (.bool true) S36) (bR (aL prog 31 t24 (.int .i64 0)) (wR (aG prog .neq 31 t24 (.int .i64 0)) fun t42=>
aE t42 (sC C K again0 p0 p2 x3 p4 p15 x16 (.bool true) S36) (bR (aL prog 31 t34 (.int .i64 0)) (wR (aG prog .neq 31 t34 (.int .i64 0)) fun t43=>
sC C K again0 p0 p2 x3 p4 p15 x16 t43 S36))))))))))) (wR (aA prog 82 p4 0) fun t44=>
wR (aB prog 3 t44 S) fun t45=>
wR (aA prog 82 p4 1) fun t46=>
wR (aB prog 3 t46 S) fun t47=>
C 203 [t45,t47] S fun t48 S49=>
bF t48 0 fun t50=>
bF t48 1 fun t51=>
bR (aL prog 31 t51 (.int .i64 0)) (wR (aG prog .neq 31 t51 (.int .i64 0)) fun t52=>
aE t52 (wR (aQ prog 82 []) fun t53=>
wR (aH prog 82 p2 t53 S49) fun S54=>
wR (aB prog 82 p2 S54) fun t55=>
K (.tup [t55,t51]) S54) (wR (aA prog 82 p4 2) fun t56=>
wR (aH prog 3 t56 t50 S49) fun S57=>
wR (aB prog 82 p4 S57) fun t58=>
wR (aH prog 82 p2 t58 S57) fun S59=>
wR (aB prog 82 p2 S59) fun t60=>
K (.tup [t60,(.int .i64 0)]) S59)))
noncomputable def aW4 (C:aD) (a0:V) (S:St) (K:KW):Prop:=
wR (aJ none S (.row 0 4 [[.int .i64 0,.int .i64 0,.int .i64 0,.nils]])) fun r0=>
wR (aQ prog 82 [(3,a0)]) fun t1=>
wR (aJ none r0.2 (.row 0 4 [[.int .i64 0,.int .i64 0,.int .i64 0,.nils]])) fun r2=>
wR (aH prog 82 (.ptr r2.1 0 0 0) t1 r2.2) fun S3=>
wR (bH prog 80 a0 S3) fun t4=>
cU [(.int .i64 0),(.int .i64 0)] S3 (aGa C K a0 (.ptr r0.1 0 0 0) (.ptr r2.1 0 0 0) t4)
theorem aW5:(fun (C:aD) (a0:V) (S:St) (K:KW)=>aM prog C (bC 270) (bE 270) 270 [a0] S K)=fun C a0 S K=>aW4 C a0 S K:=by kernel_rfl
noncomputable def aW6 (C:aD) (a0 a1:V) (S:St) (K:KW):Prop:=
C 236 [a0,a1] S fun t0 S1=>
bF t0 0 fun t2=>
bF t0 1 fun t3=>
bR (aL prog 31 t3 (.int .i64 0)) (wR (aG prog .neq 31 t3 (.int .i64 0)) fun t4=>
aE t4 (K (.tup [(.nils),(.int .i64 0),t3]) S1) (wR (aC prog 25 a0 t2) fun t5=>
wR (aA prog 126 t5 1) fun t6=>
wR (aB prog 3 t6 S1) fun t7=>
wR (aC prog 25 a0 t2) fun t8=>
wR (aA prog 126 t8 2) fun t9=>
wR (aB prog 3 t9 S1) fun t10=>
wR (aG prog .gtr 3 t7 t10) fun t11=>
aE t11 (K (.tup [(.nils),(.int .i64 0),(.int .i64 14)]) S1) (C 235 [a0] S1 fun t12 S13=>
wR (aC prog 25 t12 t2) fun t14=>
wR (aA prog 126 t14 1) fun t15=>
wR (aB prog 3 t15 S13) fun t16=>
wR (aG prog .add 3 t16 (.int .i64 1)) fun t17=>
wR (aC prog 25 t12 t2) fun t18=>
wR (aA prog 126 t18 1) fun t19=>
wR (aH prog 3 t19 t17 S13) fun S20=>
K (.tup [t12,t7,(.int .i64 0)]) S20)))
theorem aW7:(fun (C:aD) (a0 a1:V) (S:St) (K:KW)=>aM prog C (bC 271) (bE 271) 271 [a0,a1] S K)=fun C a0 a1 S K=>aW6 C a0 a1 S K:=by kernel_rfl
noncomputable def aGb (C:aD) (K:KW) (again0:List V→St→Prop) (p1 p5 p8 p9 p11 p20 p21 p22 p36:V) (S:St)  :Prop:=
aE p36 (wR (aA prog 54 p11 2) fun t14=>
wR (aB prog 3 t14 S) fun t15=>
wR (aG prog .add 3 p22 (.int .i64 1)) fun t16=>
again0 [t15,(.bool true),t16] S) (wR (aG prog .add 3 p22 (.int .i64 1)) fun t17=>
again0 [p8,p9,t17] S)
noncomputable def aGc (C:aD) (K:KW) (p1 p5 p20 p21:V) (vs:List V) (S:St) (again0:List V→St→Prop)  :Prop:=
eB vs fun x8 vs=>
eB vs fun x9 vs=>
eB vs fun x22 vs=>
wR (aG prog .lss 3 x22 p21) fun t9=>
aE t9 (wR (aC prog 24 p20 x22) fun t10=>
wR (aB prog 54 t10 S) fun t11=>
wR (aJ none S (.row 0 5 [[.str [],.int .i64 0,.int .i64 0,.int .i64 0,.int .i64 0]])) fun r12=>
wR (aH prog 54 (.ptr r12.1 0 0 0) t11 r12.2) fun S13=>
wR (aA prog 54 (.ptr r12.1 0 0 0) 0) fun t18=>
wR (aB prog 9 t18 S13) fun t19=>
bR (aL prog 9 t19 p1) (wR (aG prog .eql 9 t19 p1) fun t20=>
aE t20 (wR (aB prog 52 p5 S13) fun t21=>
wR (aA prog 54 (.ptr r12.1 0 0 0) 1) fun t22=>
wR (aB prog 52 t22 S13) fun t23=>
C 124 [t21,t23] S13 fun t24 S25=>
wR (iU .not t24) fun t26=>
aGb C K again0 p1 p5 x8 x9 (.ptr r12.1 0 0 0) p20 p21 x22 t26 S25) (aGb C K again0 p1 p5 x8 x9 (.ptr r12.1 0 0 0) p20 p21 x22 (.bool false) S13))) (K (.tup [x8,x9]) S)
noncomputable def aW8 (C:aD) (a0 a1 a2:V) (S:St) (K:KW):Prop:=
bR (aN (a2:V).cells) (wR (aJ none S (.row 0 (a2:V).cells.length [(a2:V).cells])) fun r0=>
C 85 [a0] r0.2 fun t1 S2=>
wR (iU .not t1) fun t3=>
aE t3 (K (.tup [(.int .i64 0),(.bool false)]) S2) (wR (aB prog 52 (.ptr r0.1 0 0 0) S2) fun t4=>
C 123 [t4] S2 fun t5 S6=>
wR (iU .not t5) fun t7=>
aE t7 (K (.tup [(.int .i64 0),(.bool false)]) S6) (wR (bH prog 24 a0 S6) fun t8=>
cU [(.int .i64 0),(.bool false),(.int .i64 0)] S6 (aGc C K a1 (.ptr r0.1 0 0 0) a0 t8))))
theorem aW9:(fun (C:aD) (a0 a1 a2:V) (S:St) (K:KW)=>aM prog C (bC 278) (bE 278) 278 [a0,a1,a2] S K)=fun C a0 a1 a2 S K=>aW8 C a0 a1 a2 S K:=by kernel_rfl
noncomputable def aGd (C:aD) (K:KW) (p0 p1 p6 p7:V) (S:St)  :Prop:=
wR (aG prog .mul 229 p6 p7) fun t4=>
wR (aG prog .lss 3 p0 (.int .i64 0)) fun t5=>
wR (aG prog .lss 3 p1 (.int .i64 0)) fun t6=>
bR (aL prog 4 t5 t6) (wR (aG prog .neq 4 t5 t6) fun t7=>
C 287 [t4,t7] S fun t8 S9=>
bF t8 0 fun t10=>
bF t8 1 fun t11=>
wR (iU .not t11) fun t12=>
aE t12 (K (.tup [(.int .i64 0),(.int .i64 7)]) S9) (K (.tup [t10,(.int .i64 0)]) S9))
noncomputable def aWa (C:aD) (a0 a1:V) (S:St) (K:KW):Prop:=
C 286 [a0] S fun t0 S1=>
C 286 [a1] S1 fun t2 S3=>
wR (aG prog .gtr 229 t2 (.int .u64 0)) fun t13=>
aE t13 (wR (aG prog .quo 229 (.int .u64 9223372036854775808) t2) fun t14=>
wR (aG prog .gtr 229 t0 t14) fun t15=>
aE t15 (K (.tup [(.int .i64 0),(.int .i64 7)]) S3) (aGd C K a0 a1 t0 t2 S3)) (aGd C K a0 a1 t0 t2 S3)
theorem aWb:(fun (C:aD) (a0 a1:V) (S:St) (K:KW)=>aM prog C (bC 279) (bE 279) 279 [a0,a1] S K)=fun C a0 a1 S K=>aWa C a0 a1 S K:=by kernel_rfl
noncomputable def aWc (C:aD) (a0:V) (S:St) (K:KW):Prop:=
wR (aG prog .lss 3 a0 (.int .i64 0)) fun t0=>
aE t0 (wR (bG prog 3 229 a0 none S) fun r1=>
wR (iU .xor r1.1) fun t2=>
wR (aG prog .add 229 t2 (.int .u64 1)) fun t3=>
K t3 r1.2) (wR (bG prog 3 229 a0 none S) fun r4=>
K r4.1 r4.2)
theorem aWd:(fun (C:aD) (a0:V) (S:St) (K:KW)=>aM prog C (bC 286) (bE 286) 286 [a0] S K)=fun C a0 S K=>aWc C a0 S K:=by kernel_rfl
noncomputable def aWe (C:aD) (a0 a1:V) (S:St) (K:KW):Prop:=
aE a1 (wR (iU .xor a0) fun t0=>
wR (aG prog .add 229 t0 (.int .u64 1)) fun t1=>
wR (bG prog 229 3 t1 none S) fun r2=>
wR (aG prog .leq 229 a0 (.int .u64 9223372036854775808)) fun t3=>
K (.tup [r2.1,t3]) r2.2) (wR (bG prog 229 3 a0 none S) fun r4=>
wR (aG prog .leq 229 a0 (.int .u64 9223372036854775807)) fun t5=>
K (.tup [r4.1,t5]) r4.2)
theorem aWf:(fun (C:aD) (a0 a1:V) (S:St) (K:KW)=>aM prog C (bC 287) (bE 287) 287 [a0,a1] S K)=fun C a0 a1 S K=>aWe C a0 a1 S K:=by kernel_rfl
end Go.Proofs.YtoaibmbldmckaaaGreat
end
