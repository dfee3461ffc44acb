import Derived.KernelRfl
import Derived.Test.YtoaibmbldmckaaaGreatProg
import Derived.Test.YtoaibmbldmckaaaGreatX1
set_option linter.unusedSimpArgs false
set_option linter.unusedVariables false
set_option linter.unusedSectionVars false
set_option maxRecDepth 100000
section
namespace Go.AM
section
def gK (k:Option Nat) (cs:List V) (j:Nat):R V:=match k with
 | none=>(match cs[j]? with
  | some v=>.ok v
  | none=>.error "part")
 | some n=>if j+n≤cs.length then .ok (.agg ((cs.drop j).take n)) else .error "part"
def bB (k:Option Nat) (p:V) (S:St):R V:=match p with
 | .ptr a ver i j=>(match aI S a ver with
  | .error e=>.error e
  | .ok (_,elems)=>match elems[i]? with
   | some cs=>gK k cs j
   | none=>.error "load")
 | .iptr cs j=>gK k cs j
 | _=>.error "load: a pointer expected"
theorem aOz {P:Program} {t:TypeId} {k:Option Nat} (h:tk P t=some k) (cs:List V) (j:Nat):pV P t cs j=gK k cs j:=by
 unfold tk at h
 unfold pV
 split at h
 ·cases h
 ·rename_i d hd
  simp only [hd]
  rw [cond_eq_ite] at h ⊢
  split at h
  ·rename_i ha
   cases h
   rw [if_pos ha,cond_eq_ite]
   simp only [gK,Nat.ble_eq]
  ·rename_i ha
   cases h
   rw [if_neg ha]
   rfl
theorem bL {P:Program} {t:TypeId} {k:Option Nat} (h:tk P t=some k) (p:V) (S:St):aB P t p S=bB k p S:=by
 unfold aB bB
 cases p<;>simp only [aOz h]<;>rfl
def stT (P:Program) (t:TypeId):Option Nat:=match P.underlying t with
 | some _=>some (sz P t)
 | none=>none
def aW (n:Nat) (p x:V) (S:St):R St:=match p with
 | .ptr a ver i j=>(match aI S a ver with
  | .error e=>.error e
  | .ok (es,elems)=>match elems[i]? with
   | some cs=>if x.cells.length=n∧aM x.cells=true∧j+x.cells.length≤cs.length then .ok ⟨S.next,S.heap.put a (.row ver es (elems.set i (splice cs j x.cells)))⟩ else .error "store: the size"
   | none=>.error "store")
 | _=>.error "store: a pointer expected"
theorem bJ {P:Program} {t:TypeId} {n:Nat} (h:stT P t=some n) (p x:V) (S:St):aG P t p x S=aW n p x S:=by
 unfold stT at h
 split at h
 ·rename_i d hd
  cases h
  unfold aG aW
  rw [hd]
  cases p<;>try rfl
  rename_i a ver i j
  simp only
  cases aI S a ver with
  | error e=>rfl
  | ok r=>
   simp only
   cases r.2[i]? with
   | none=>rfl
   | some cs=>simp only [cond_eq_ite,Bool.and_eq_true,Nat.beq_eq,Nat.ble_eq,and_assoc]
 ·cases h
def advW (off:Nat) (p:V):R V:=match p with
 | .ptr a ver i j=>.ok (.ptr a ver i (j+off))
 | .iptr cs j=>.ok (.iptr cs (j+off))
 | _=>.error "fieldAddr"
theorem aF {P:Program} {s:TypeId} {f off:Nat} (h:fo P s f=some off) (p:V):aA P s p f=advW off p:=by
 unfold fo at h
 unfold aA
 split at h
 ·cases h
 ·rename_i fd hfd
  rw [cond_eq_ite] at h
  split at h
  ·cases h
  ·rename_i hz
   cases h
   have hz:Nat.beq (sz P fd.type) 0=false:=by
    cases hb:Nat.beq (sz P fd.type) 0 with
    | false=>rfl
    | true=>exact absurd hb hz
   simp only [hfd,hz,cond_false]
   cases p<;>rfl
def lenW (x:V):R V:=match x with
 | .nils=>.ok (.int .i64 0)
 | .sl _ _ _ _ len=>.ok (.int .i64 len)
 | .imm es=>.ok (.int .i64 es.length)
 | _=>.error "len"
theorem eD {P:Program} {t:TypeId} (h:aXm P t=true) (x:V) (S:St):bG P t x S=lenW x:=by
 unfold aXm at h
 unfold bG
 split at h
 ·rename_i e he;rw [he];cases x<;>rfl
 ·cases h
theorem aMs {P:Program} {t:TypeId} (h:aXn P t=true) (s:List UInt8) (S:St):bG P t (.str s) S=.ok (.int .i64 s.length):=by
 unfold aXn at h
 unfold bG
 split at h
 ·rename_i he;rw [he]
 ·cases h
def cP (n:Nat) (x ix:V):R V:=match x with
 | .sl a ver es off len=>(match lV ix len with
  | some k=>if es=n then .ok (.ptr a ver (off+k) 0) else .error "indexAddr: the size"
  | none=>.error "index out of range")
 | .imm es=>(match lV ix es.length with
  | some k=>match es[k]? with
   | some cs=>if cs.length=n then .ok (.iptr cs 0) else .error "indexAddr: the size"
   | none=>.error "index"
  | none=>.error "index out of range")
 | _=>.error "indexAddr"
theorem bP {P:Program} {t:TypeId} {n:Nat} (h:esT P t=some n) (x ix:V):aD P t x ix=cP n x ix:=by
 unfold esT at h
 unfold aD cP
 split at h
 ·rename_i e he
  rw [cond_eq_ite] at h
  split at h
  ·rename_i hs
   cases h
   rw [he]
   simp only [hs,Bool.not_true,cond_false]
   cases x<;>try rfl
   ·rename_i a ver es off len
    simp only
    cases lV ix len<;>simp only [cond_eq_ite,Nat.beq_eq]
   ·rename_i es
    simp only
    cases lV ix es.length with
    | none=>rfl
    | some k=>simp only [cond_eq_ite,Nat.beq_eq];rfl
  ·cases h
 ·cases h
def bdS (P:Program) (t:TypeId):Option (List V×List (Nat×Nat)):=match eO P t,P.underlying t with
 | some z,some (.struct fs)=>(match fs.toList.all fun f=>(P.underlying f.type).isSome with
  | true=>some (z.cells,fs.toList.map fun f=>(f.offset,sz P f.type))
  | false=>none)
 | _,_=>none
theorem yW {p q:Nat→Option (Nat×Nat)} (h:∀ i,p i=q i):∀ (l:List (Nat×V)) (cs:List V),qF p cs l=qF q cs l
 | [],cs=>rfl
 | (i,v)::l,cs=>by simp only [qF,h,yW h l]
def bM (z:List V) (pl:List (Nat×Nat)) (parts:List (Nat×V)):R V:=match qF (fun i=>pl[i]?) z parts with
 | .ok cs=>.ok (.agg cs)
 | .error e=>.error e
theorem bX {P:Program} {t:TypeId} {z:List V} {pl:List (Nat×Nat)} (h:bdS P t=some (z,pl)) (parts:List (Nat×V)):aR P t parts=bM z pl parts:=by
 unfold bdS at h
 unfold aR bM
 split at h
 ·rename_i z' fs hz hu
  split at h
  ·rename_i ha
   cases h
   simp only [hz,hu,ha,Bool.not_true,cond_false]
   rw [yW (q:=fun i=>(fs.toList.map fun f=>(f.offset,sz P f.type))[i]?) (fun i=>by simp)]
   rfl
  ·cases h
 ·cases h
def bsT (P:Program) (t:TypeId):Option (Nat×List V):=match jG P t with
 | some e=>(match eO P e with
  | some z=>(match Nat.beq z.cells.length (sz P e) with
   | true=>some (sz P e,z.cells)
   | false=>none)
  | none=>none)
 | none=>none
def aP (n:Nat) (z:List V) (len:Nat) (parts:List (Nat×V)) (fr:Option Nat) (S:St):R (V×St):=if len*n≤16777216 then
  (match sI n (List.replicate len z) parts with
  | .error e=>.error e
  | .ok elems=>match aJ fr S (.row 0 n elems) with
   | .error e=>.error e
   | .ok (a,S')=>.ok (.sl a 0 n 0 len,S')) else .error "buildSlice: the size"
theorem bN {P:Program} {t:TypeId} {n:Nat} {z:List V} (h:bsT P t=some (n,z)) (len:Nat) (parts:List (Nat×V)) (fr:Option Nat) (S:St):aK P t len parts fr S=aP n z len parts fr S:=by
 unfold bsT at h
 unfold aK aP
 split at h
 ·rename_i e he
  split at h
  ·rename_i z' hz
   split at h
   ·rename_i hb
    cases h
    simp only [he,hz,hb,Bool.true_and,cond_eq_ite,Nat.ble_eq]
    rfl
   ·cases h
  ·cases h
 ·cases h
def cQ (n b:Nat) (s x:V) (fr:Option Nat) (S:St):R (V×St):=
 match bQ S x with
 | .error e=>.error e
 | .ok xs=>if iO n xs=true∧xs.all aM=true then
  (match s with
  | .nils=>(match xs with
   | []=>.ok (.nils,S)
   | _=>if xs.length*b≤35184372088832∧xs.length<eG then (match aJ fr S (.row 0 n xs) with
    | .error e=>.error e
    | .ok (a,S')=>.ok (.sl a 0 n 0 xs.length,S')) else .error "append: room")
  | .sl a ver _ off len=>(match aI S a ver with
   | .error e=>.error e
   | .ok (es,elems)=>
    if off+len≤elems.length∧es=n∧(len+xs.length)*b≤35184372088832∧len+xs.length<eG then
     .ok (.sl a (ver+1) es 0 (len+xs.length),⟨S.next,S.heap.put a (.row (ver+1) es ((elems.drop off).take len++xs))⟩)
    else .error "append: room")
  | _=>.error "append") else .error "append: sizes"
theorem dE {P:Program} {t:TypeId} {n b:Nat} (h:apT P t=some (n,b)) (s x:V) (fr:Option Nat) (S:St):aV P t s x fr S=cQ n b s x fr S:=by
 unfold apT at h
 split at h
 ·cases h
 ·rename_i e he
  rw [cond_eq_ite] at h
  split at h
  ·rename_i hz
   cases h
   unfold aV cQ
   simp only [he]
   cases bQ S x with
   | error w=>rfl
   | ok xs=>
    simp only
    by_cases h12:iO (sz P e) xs=true∧xs.all aM=true
    ·have e1:(!(iO (sz P e) xs&&xs.all aM&&kJ P e))=false:=by rw [h12.1,h12.2,hz];rfl
     rw [e1,if_pos h12]
     simp only [cond_false]
     cases s with
     | nils=>
      cases xs with
      | nil=>rfl
      | cons c xs=>simp only [room,cond_eq_ite,Bool.and_eq_true,Nat.ble_eq,Nat.blt_eq];rfl
     | sl a ver es off len=>
      simp only
      cases aI S a ver with
      | error w=>rfl
      | ok r=>simp only [room,cond_eq_ite,Bool.and_eq_true,Nat.ble_eq,Nat.blt_eq,Nat.beq_eq,and_assoc]
     | _=>rfl
    ·have e1:(!(iO (sz P e) xs&&xs.all aM&&kJ P e))=true:=by
      cases h1:iO (sz P e) xs with
      | false=>rfl
      | true=>
       cases h2:xs.all aM with
       | false=>rfl
       | true=>exact absurd ⟨h1,h2⟩ h12
     rw [e1,if_neg h12]
     rfl
  ·cases h
def cvT (P:Program) (s d:TypeId):Option IntKind:=match P.underlying s,P.underlying d with
 | some _,some (.int k)=>some k
 | _,_=>none
theorem kO {P:Program} {s d:TypeId} {k:IntKind} (h:cvT P s d=some k) (j:IntKind) (n:Int) (fr:Option Nat) (S:St):bH P s d (.int j n) fr S=.ok (.int k (wr k n),S):=by
 unfold cvT at h
 split at h
 ·rename_i u k' hu hd
  cases h
  simp only [bH,hu,hd]
 ·cases h
theorem eZ {P : Program} {t : TypeId} {n : Nat} (h : esT P t = some n) (a ver off len : Nat) (lo hi : Option V) : cC P t (.sl a ver n off len) lo hi = (match cB len lo hi with
      | .ok (l, h) => .ok (.sl a ver n (off + l) (h - l))
      | .error e => .error e) := by
  unfold esT at h
  unfold cC
  split at h
  · rename_i e he
    rw [cond_eq_ite] at h
    split at h
    · rename_i hs
      cases h
      rw [he]
      simp only [hs, Bool.not_true, cond_false, Nat.beq_refl, cond_true]
      rfl
    · cases h
  · cases h
theorem aBe {P : Program} {t : TypeId} {n : Nat} (h : esT P t = some n) (es : List (List V)) (hl : iO n es = true) (lo hi : Option V) : cC P t (.imm es) lo hi = (match cB es.length lo hi with
      | .ok (l, h) => .ok (.imm ((es.take h).drop l))
      | .error e => .error e) := by
  unfold esT at h
  unfold cC
  split at h
  · rename_i e he
    rw [cond_eq_ite] at h
    split at h
    · rename_i hs
      cases h
      rw [he]
      simp only [hs, Bool.not_true, cond_false, hl, cond_true]
      rfl
    · cases h
  · cases h
section
variable (P:Program) (t:TypeId) (k:IntKind) (a b:Int)
theorem dA (k:IntKind):jX k k=true:=by cases k<;>rfl
theorem aRk:aH P .add t (.int k a) (.int k b)=.ok (.int k (wr k (a+b))):=by simp only [aH,dA,cond_true,jF]
theorem aRl:aH P .sub t (.int k a) (.int k b)=.ok (.int k (wr k (a - b))):=by simp only [aH,dA,cond_true,jF]
theorem aRm:aH P .mul t (.int k a) (.int k b)=.ok (.int k (wr k (a*b))):=by simp only [aH,dA,cond_true,jF]
theorem aRn (h:b≠0):aH P .quo t (.int k a) (.int k b)=.ok (.int k (wr k (a.tdiv b))):=by simp only [aH,dA,cond_true,jF,h,decide_false,cond_false]
theorem aL3 (h:b≠0):aH P .rem t (.int k a) (.int k b)=.ok (.int k (a.tmod b)):=by simp only [aH,dA,cond_true,jF,h,decide_false,cond_false]
theorem aRo:aH P .lss t (.int k a) (.int k b)=.ok (.bool (decide (a<b))):=by simp only [aH,dA,cond_true,jF]
theorem aRp:aH P .leq t (.int k a) (.int k b)=.ok (.bool (decide (a≤b))):=by simp only [aH,dA,cond_true,jF]
theorem aRq:aH P .gtr t (.int k a) (.int k b)=.ok (.bool (decide (b<a))):=by simp only [aH,dA,cond_true,jF]
theorem aRr:aH P .geq t (.int k a) (.int k b)=.ok (.bool (decide (b≤a))):=by simp only [aH,dA,cond_true,jF]
theorem aRs:aH P .eql t (.int k a) (.int k b)=.ok (.bool (decide (a=b))):=by simp only [aH,dA,cond_true,jF]
theorem aRt:aH P .neq t (.int k a) (.int k b)=.ok (.bool (!decide (a=b))):=by simp only [aH,dA,cond_true,jF]
theorem aRu (x y:List UInt8):aH P .eql t (.str x) (.str y)=.ok (.bool (x == y)):=by simp only [aH,yG,dJ]
theorem aRv (x y:List UInt8):aH P .neq t (.str x) (.str y)=.ok (.bool (!(x == y))):=by simp only [aH,yG,dJ]
theorem aRw (x y:List UInt8):aH P .lss t (.str x) (.str y)=.ok (.bool (fS x y)):=by simp only [aH,yG]
theorem aRx (x y:List UInt8):aH P .geq t (.str x) (.str y)=.ok (.bool (!fS x y)):=by simp only [aH,yG]
end
theorem kX {n:Int} (h1:-9223372036854775808≤n) (h2:n≤9223372036854775807):wr .i64 n=n:=by
 unfold wr lo hi
 simp only
 rw [if_pos ⟨h1,h2⟩]
theorem bBx {α:Type} (a:α) (K:α→An):dR (.ok a) K=K a:=rfl
theorem bBy {α:Type} (a:α) (K:α→An):dO (some a) K=K a:=rfl
theorem tW (k:Nat) (vs:List V) (S:St) (F:List V→St→(List V→St→An)→An):sT (k+1) vs S F=F vs S fun vs S=>sT k vs S F:=rfl
def WF (S:St):Prop:=∀ a b,S.heap.get a=some b→a<S.next
structure Ext (S S':St):Prop where
 old:∀ a b,S.heap.get a=some b→S'.heap.get a=some b
 next:S.next≤S'.next
 wf:WF S→WF S'
theorem Ext.refl (S:St):Ext S S:=⟨fun _ _ h=>h,Nat.le_refl _,fun h=>h⟩
theorem Ext.trans {A B C:St} (h:Ext A B) (k:Ext B C):Ext A C:=⟨fun a b q=>k.old a b (h.old a b q),Nat.le_trans h.next k.next,fun w=>k.wf (h.wf w)⟩
theorem Ext.row {S S':St} (h:Ext S S') {a ver:Nat} {r:Nat×List (List V)} (hr:aI S a ver=.ok r):aI S' a ver=.ok r:=by
 unfold aI at hr ⊢
 split at hr
 ·rename_i v es el hb
  rw [h.old a _ hb]
  exact hr
 ·cases hr
theorem Ext.elems {S S':St} (h:Ext S S') {v:V} {es:List (List V)} (he:bQ S v=.ok es):bQ S' v=.ok es:=by
 unfold bQ at he ⊢
 split at he<;>try exact he
 rename_i a ver x off len
 split at he
 ·cases he
 ·rename_i r hr
  rw [h.row hr]
  exact he
theorem Ext.new {S:St} (w:WF S) (b:Blk):Ext S ⟨S.next+1,S.heap.put S.next b⟩:=by
 refine ⟨fun a c h=>?_,Nat.le_succ _,fun _ a c h=>?_⟩
 ·have:=w a c h
  show (S.heap.put S.next b).get a=some c
  rw [Tr.get_put_neB _ _ _ _ trivial (by omega)];exact h
 ·have h':(S.heap.put S.next b).get a=some c:=h
  rw [Tr.get_putB _ _ _ _ trivial] at h'
  split at h'
  ·show a<S.next+1;omega
  ·have:=w a c h';show a<S.next+1;omega
theorem Ext.set {S S':St} (h:Ext S S') {a:Nat} (ha:S.next≤a) (hb:a<S'.next) (w:WF S) (b:Blk):Ext S ⟨S'.next,S'.heap.put a b⟩:=by
 refine ⟨fun x c hx=>?_,h.next,fun _ x c hx=>?_⟩
 ·have:=w x c hx
  show (S'.heap.put a b).get x=some c
  rw [Tr.get_put_neB _ _ _ _ trivial (by omega)];exact h.old x c hx
 ·have hx':(S'.heap.put a b).get x=some c:=hx
  rw [Tr.get_putB _ _ _ _ trivial] at hx'
  split at hx'
  ·show x<S'.next;omega
  ·exact h.wf w x c hx'
theorem aO (n:Nat) (h:Tr Blk) (a ver es:Nat) (el:List (List V)):aI ⟨n,h.put a (.row ver es el)⟩ a ver=.ok (es,el):=by
 simp only [aI,Tr.get_put_sameB _ _ _ trivial,Nat.beq_refl,cond_true]
theorem cX (n m:Nat) (h:Tr Blk) (a c ver:Nat) (b:Blk) (hc:c≠a):aI ⟨n,h.put a b⟩ c ver=aI ⟨m,h⟩ c ver:=by
 simp only [aI,Tr.get_put_neB _ _ _ _ trivial hc]
structure Sl (S:St) (n:Nat) (v:V) (es:List (List V)):Prop where
 is:(v=.nils∧es=[])∨v=.imm es∨∃ a ver off elems,v=.sl a ver n off es.length∧aI S a ver=.ok (n,elems)∧off+es.length≤elems.length∧(elems.drop off).take es.length=es
 len:∀ cs,cs∈es→cs.length=n∧aM cs=true
theorem Sl.ext {S S':St} {n:Nat} {v:V} {es:List (List V)} (h:Sl S n v es) (x:Ext S S'):Sl S' n v es:=by
 refine ⟨?_,h.len⟩
 rcases h.is with h1 | h1 | ⟨a,ver,off,elems,h1,h2,h3,h4⟩
 ·exact .inl h1
 ·exact .inr (.inl h1)
 ·exact .inr (.inr ⟨a,ver,off,elems,h1,x.row h2,h3,h4⟩)
theorem Sl.elems {S:St} {n:Nat} {v:V} {es:List (List V)} (h:Sl S n v es):bQ S v=.ok es:=by
 rcases h.is with ⟨rfl,rfl⟩ | rfl | ⟨a,ver,off,elems,rfl,h2,h3,h4⟩
 ·rfl
 ·rfl
 ·simp only [bQ,h2,Nat.ble_eq_true_of_le h3,cond_true,h4]
theorem Sl.lenW {S:St} {n:Nat} {v:V} {es:List (List V)} (h:Sl S n v es):Go.AM.lenW v=.ok (.int .i64 es.length):=by
 rcases h.is with ⟨rfl,rfl⟩ | rfl | ⟨a,ver,off,elems,rfl,h2,h3,h4⟩<;>rfl
def At (S:St) (p:V) (cs:List V):Prop:=(∃ a ver i es elems,p=.ptr a ver i 0∧aI S a ver=.ok (es,elems)∧elems[i]?=some cs)∨p=.iptr cs 0
theorem At.ext {S S':St} {p:V} {cs:List V} (h:At S p cs) (x:Ext S S'):At S' p cs:=by
 rcases h with ⟨a,ver,i,es,elems,h1,h2,h3⟩ | h
 ·exact .inl ⟨a,ver,i,es,elems,h1,x.row h2,h3⟩
 ·exact .inr h
def adv (j:Nat) (p:V):V:=match p with
 | .ptr a ver i x=>.ptr a ver i (x+j)
 | .iptr cs x=>.iptr cs (x+j)
 | p=>p
theorem At.advW {S:St} {p:V} {cs:List V} (h:At S p cs) (j:Nat):Go.AM.advW j p=.ok (adv j p):=by
 rcases h with ⟨a,ver,i,es,elems,rfl,h2,h3⟩ | rfl<;>rfl
theorem At.load {S:St} {p:V} {cs:List V} (h:At S p cs) (k:Option Nat) (j:Nat):bB k (adv j p) S=gK k cs j:=by
 rcases h with ⟨a,ver,i,es,elems,rfl,h2,h3⟩ | rfl
 ·simp only [adv,bB,h2,h3,Nat.zero_add]
 ·simp only [adv,bB,Nat.zero_add]
theorem At.load0 {S:St} {p:V} {cs:List V} (h:At S p cs) (k:Option Nat):bB k p S=gK k cs 0:=by
 rcases h with ⟨a,ver,i,es,elems,rfl,h2,h3⟩ | rfl
 ·simp only [bB,h2,h3]
 ·simp only [bB]
theorem aMu (cs:List V) (n:Nat) (h:cs.length=n):gK (some n) cs 0=.ok (.agg cs):=by
 subst h
 simp [gK]
theorem iU {k:IntKind} {i:Nat} {n:Nat} (h:i<n):lV (.int k (i:Int)) n=some i:=by
 have h1:(0:Int)≤(i:Int):=by omega
 have h2:(i:Int)<(n:Int):=by omega
 simp only [lV,h1,h2,decide_true,Bool.and_self,cond_true,Int.toNat_natCast]
theorem Sl.idx {S:St} {n:Nat} {v:V} {es:List (List V)} (h:Sl S n v es) {i:Nat} {cs:List V} (hc:es[i]?=some cs) (k:IntKind):∃ p,cP n v (.int k (i:Int))=.ok p∧At S p cs:=by
 have hi:i<es.length:=(List.getElem?_eq_some_iff.1 hc).1
 have hl:=(h.len cs (List.mem_of_getElem? hc)).1
 rcases h.is with ⟨rfl,rfl⟩ | rfl | ⟨a,ver,off,elems,rfl,h2,h3,h4⟩
 ·simp at hi
 ·exact ⟨.iptr cs 0,by simp only [cP,iU hi,hc,hl,if_true],.inr rfl⟩
 ·refine ⟨.ptr a ver (off+i) 0,by simp only [cP,iU hi,if_true],.inl ⟨a,ver,off+i,n,elems,rfl,h2,?_⟩⟩
  rw [←h4,List.getElem?_take,if_pos hi,List.getElem?_drop] at hc
  exact hc
def St.var (S:St) (n:Nat) (zs cs:List V):St:=⟨S.next+1,(S.heap.put S.next (.row 0 n [zs])).put S.next (.row 0 n [cs])⟩
theorem Ext.var {S:St} (w:WF S) (n:Nat) (zs cs:List V):Ext S (S.var n zs cs):=(Ext.new w _).set (Nat.le_refl _) (Nat.lt_succ_self _) w _
theorem aL4 (S:St) (n:Nat) (zs cs:List V):aI (S.var n zs cs) S.next 0=.ok (n,[cs]):=aO _ _ _ _ _ _
theorem aJ7 (zs cs:List V) (h:cs.length=zs.length):splice zs 0 cs=cs:=by simp [splice,h]
theorem aD9 (S:St) (n:Nat) (zs:List V) (x:V) (hz:zs.length=n) (hx:x.cells.length=n) (ho:aM x.cells=true):
  aW n (.ptr S.next 0 0 0) x ⟨S.next+1,S.heap.put S.next (.row 0 n [zs])⟩=.ok (S.var n zs x.cells):=by
 simp only [aW,aO,List.getElem?_cons_zero,hx,ho,hz,Nat.zero_add,Nat.le_refl,and_self,if_true,List.set_cons_zero,St.var,aJ7 zs x.cells (by rw [hx,hz])]
theorem aP0 (k:Option Nat) (a ver i j:Nat) (S:St) {es:Nat} {elems:List (List V)} {cs:List V} (h:aI S a ver=.ok (es,elems)) (hc:elems[i]?=some cs):bB k (.ptr a ver i j) S=gK k cs j:=by
 simp only [bB,h,hc]
theorem aP1 (k:Option Nat) (a ver j:Nat) (S:St) {es:Nat} {cs:List V} (h:aI S a ver=.ok (es,[cs])):bB k (.ptr a ver 0 j) S=gK k cs j:=aP0 k a ver 0 j S h rfl
def fA (x y:R Bool):R Bool:=match x with
 | .error e=>.error e
 | .ok r=>bif r then y else .ok false
theorem iV (a b:Bool):fA (.ok a) (.ok b)=.ok (a&&b):=by cases a<;>rfl
theorem Ext.bump {S S':St} (h:Ext S S') (c:Nat):Ext S ⟨S'.next+c,S'.heap⟩:=
 ⟨h.old,Nat.le_trans h.next (Nat.le_add_right _ _),fun w a b hb=>Nat.lt_of_lt_of_le (h.wf w a b hb) (Nat.le_add_right _ _)⟩
theorem aP2 (S:St) (n:Nat) (zs cs:List V) {S':St} (x:Ext (S.var n zs cs) S') (k:Option Nat) (j:Nat):bB k (.ptr S.next 0 0 j) S'=gK k cs j:=aP1 k S.next 0 j S' (x.row (aL4 S n zs cs))
theorem Sl.elem {α:Type} {S:St} {n:Nat} {v:V} {all:List α} {enc:α→List V} (hs:Sl S n v (all.map enc)) {i:Nat} {a:α} (hi:all[i]?=some a):
  ∃ p,cP n v (.int .i64 (i:Int))=.ok p∧At S p (enc a)∧(enc a).length=n∧aM (enc a)=true:=by
 have hc:(all.map enc)[i]?=some (enc a):=by simp [hi]
 obtain ⟨p,hp,hat⟩:=hs.idx hc .i64
 have hl:=hs.len (enc a) (List.mem_of_getElem? hc)
 exact ⟨p,hp,hat,hl.1,hl.2⟩
theorem Sl.var {α:Type} {S:St} {n:Nat} {v:V} {all:List α} {enc:α→List V} (hs:Sl S n v (all.map enc)) (w:WF S) {i:Nat} {a:α} (hi:all[i]?=some a) (zs:List V) (hz:zs.length=n):
  ∃ p,cP n v (.int .i64 (i:Int))=.ok p∧bB (some n) p S=.ok (.agg (enc a))∧aW n (.ptr S.next 0 0 0) (.agg (enc a)) ⟨S.next+1,S.heap.put S.next (.row 0 n [zs])⟩=.ok (S.var n zs (enc a))∧Ext S (S.var n zs (enc a)) ∧
   ∀ S',Ext (S.var n zs (enc a)) S'→∀ k j,bB k (.ptr S.next 0 0 j) S'=gK k (enc a) j:=by
 obtain ⟨p,hp,hat,h1,h2⟩:=hs.elem hi
 refine ⟨p,hp,?_,?_,Ext.var w _ _ _,fun S' x k j=>aP2 S n zs (enc a) x k j⟩
 ·rw [hat.load0,aMu _ _ h1]
 ·have:=aD9 S n zs (.agg (enc a)) hz h1 h2
  exact this
theorem Sl.lenI {α:Type} {S:St} {n:Nat} {v:V} {all:List α} {enc:α→List V} (hs:Sl S n v (all.map enc)):Go.AM.lenW v=.ok (.int .i64 all.length):=by
 have:=hs.lenW
 rwa [List.length_map] at this
end
def Ok (g:Nat→KS→An) (Q:V→St→Prop):Prop:=∃ v S N,Q v S∧∀ k K,N≤k→g k K=K v S
theorem Ok.ret {Q:V→St→Prop} {v:V} {S:St} (h:Q v S):Ok (fun _ K=>K v S) Q:=⟨v,S,0,h,fun _ _ _=>rfl⟩
theorem Ok.mono {g:Nat→KS→An} {Q R:V→St→Prop} (h:Ok g Q) (hq:∀ v S,Q v S→R v S):Ok g R:=by
 obtain ⟨v,S,N,q,h⟩:=h
 exact ⟨v,S,N,hq v S q,h⟩
theorem Ok.bind {g:Nat→KS→An} {G:Nat→KS→V→St→An} {Q R:V→St→Prop} (h:Ok g Q) (k:∀ v S,Q v S→Ok (fun k K=>G k K v S) R):Ok (fun k K=>g k (fun v S=>G k K v S)) R:=by
 obtain ⟨v,S,N,q,h⟩:=h
 obtain ⟨v',S',N',q',h'⟩:=k v S q
 refine ⟨v',S',max N N',q',fun k K hk=>?_⟩
 show g k (fun v S=>G k K v S)=K v' S'
 rw [h k _ (by omega)]
 exact h' k K (by omega)
theorem Ok.pick {b:Bool} {g g':Nat→KS→An} {Q:V→St→Prop} (h:b=true→Ok g Q) (h':b=false→Ok g' Q):Ok (fun k K=>aD3 (.bool b) (g k K) (g' k K)) Q:=by
 cases b with
 | true=>exact h rfl
 | false=>exact h' rfl
def Does (P:Program) (pl:eU) (lv:lB) (f:FuncId) (args:List V) (S:St) (Q:V→St→Prop):Prop:=Ok (fun k K=>nU P pl lv k f args S K) Q
theorem Does.enter {P:Program} {pl:eU} {lv:lB} {f:FuncId} {args:List V} {S:St} {Q:V→St→Prop} {m:eK→Nat→KS→An} (he:∀ k K,nU P pl lv (k+1) f args S K=m (nU P pl lv k) k K)
  (h:Ok (fun k K=>m (nU P pl lv k) k K) Q):Does P pl lv f args S Q:=by
 obtain ⟨v,S',N,q,h⟩:=h
 refine ⟨v,S',N+1,q,fun k K hk=>?_⟩
 obtain ⟨k,rfl⟩:∃ m,k=m+1:=⟨k - 1,by omega⟩
 show nU P pl lv (k+1) f args S K=_
 rw [he]
 exact h k K (by omega)
theorem Does.step {P:Program} {pl:eU} {lv:lB} {f:FuncId} {args:List V} {S:St} {g:List V→St→R (V×St)} (hf:pl f=some (.spec g)) {v:V} {S':St} {Q:V→St→Prop} (h:g args S=.ok (v,S')) (q:Q v S'):Does P pl lv f args S Q:=by
 refine ⟨v,S',1,q,fun k K hk=>?_⟩
 obtain ⟨k,rfl⟩:∃ m,k=m+1:=⟨k - 1,by omega⟩
 simp only [nU,hf,bBy,h,bBx]
theorem Does.call {P:Program} {pl:eU} {lv:lB} {f:FuncId} {args:List V} {S:St} {Q R:V→St→Prop} (h:Does P pl lv f args S Q) {G:Nat→KS→V→St→An} (k:∀ v S,Q v S→Ok (fun k K=>G k K v S) R):
  Ok (fun k K=>nU P pl lv k f args S (fun v S=>G k K v S)) R:=Ok.bind h k
theorem Does.says {P:Program} {pl:eU} {lv:lB} {f:FuncId} {args:List V} {S:St} {Q:V→St→Prop} (h:Does P pl lv f args S Q):∃ k v S',Q v S'∧dW P pl k f args S=.ok (v,S'):=by
 obtain ⟨v,S',N,q,h⟩:=h
 obtain ⟨v1,S1,h1,h2⟩:=mB N f args S (fun v S=>some (v,S)) (v,S') (h N _ (Nat.le_refl _))
 cases h2
 exact ⟨N,v,S',q,h1⟩
def aS {σ ρ α:Type} (step:σ→α→ρ⊕σ) (fin:σ→ρ):List α→σ→ρ
 | [],s=>fin s
 | a::l,s=>match step s a with
  | .inl r=>r
  | .inr s'=>aS step fin l s'
theorem aDa {κ σ ρ α X:Type} {F:Nat→κ→List V→St→(List V→St→An)→An} {out:Nat→κ→X→St→An} (all:List α) {step:σ→α→ρ⊕σ} {fin:σ→ρ} (Inv:Nat→σ→List V→St→Prop) (Post:ρ→X→St→Prop)
  (hstep:∀ i a s vs S,Inv i s vs S→all[i]?=some a→
   ∃ N,(∃ r x S',step s a=.inl r∧Post r x S'∧∀ k K aQ,N≤k→F k K vs S aQ=out k K x S')∨(∃ s' vs' S',step s a=.inr s'∧Inv (i+1) s' vs' S'∧∀ k K aQ,N≤k→F k K vs S aQ=aQ vs' S'))
  (hend:∀ s vs S,Inv all.length s vs S→∃ N x S',Post (fin s) x S'∧∀ k K aQ,N≤k→F k K vs S aQ=out k K x S'):
  ∀ (l:List α) (i:Nat) (s:σ) (vs:List V) (S:St),all.drop i=l→i≤all.length→Inv i s vs S→∃ N x S',Post (aS step fin l s) x S'∧∀ k m K,N≤k→l.length<m→sT m vs S (F k K)=out k K x S':=by
 intro l
 induction l with
 | nil=>
  intro i s vs S hd hle hI
  have hi:i=all.length:=by
   have:all.length≤i:=by simpa using hd
   omega
  subst hi
  obtain ⟨N,x,S',hp,h⟩:=hend s vs S hI
  refine ⟨N,x,S',hp,fun k m K hk hm=>?_⟩
  obtain ⟨m,rfl⟩:∃ j,m=j+1:=⟨m - 1,by simp at hm;omega⟩
  rw [tW,h k K _ hk]
 | cons a l ih=>
  intro i s vs S hd hle hI
  have hi:all[i]?=some a:=by
   have:=congrArg (·[0]?) hd
   simpa using this
  have hil:i<all.length:=(List.getElem?_eq_some_iff.1 hi).1
  have hd':all.drop (i+1)=l:=by rw [←List.drop_drop,hd];rfl
  obtain ⟨N,h⟩:=hstep i a s vs S hI hi
  rcases h with ⟨r,x,S',h1,h2,h3⟩ | ⟨s',vs',S',h1,h2,h3⟩
  ·refine ⟨N,x,S',by simp only [aS,h1];exact h2,fun k m K hk hm=>?_⟩
   obtain ⟨m,rfl⟩:∃ j,m=j+1:=⟨m - 1,by simp at hm;omega⟩
   rw [tW,h3 k K _ hk]
  ·obtain ⟨N',x,S2,h4,h5⟩:=ih (i+1) s' vs' S' hd' (by omega) h2
   refine ⟨max N N',x,S2,by simp only [aS,h1];exact h4,fun k m K hk hm=>?_⟩
   obtain ⟨m,rfl⟩:∃ j,m=j+1:=⟨m - 1,by simp at hm;omega⟩
   rw [tW,h3 k K _ (by omega),h5 k m K (by omega) (by simp at hm;omega)]
theorem Ok.loop {σ ρ α X:Type} {F:Nat→KS→List V→St→(List V→St→An)→An} {out:Nat→KS→X→St→An} (all:List α) {step:σ→α→ρ⊕σ} {fin:σ→ρ} (Inv:Nat→σ→List V→St→Prop) (Post:ρ→X→St→Prop)
  (hstep:∀ i a s vs S,Inv i s vs S→all[i]?=some a→
   ∃ N,(∃ r x S',step s a=.inl r∧Post r x S'∧∀ k K aQ,N≤k→F k K vs S aQ=out k K x S')∨(∃ s' vs' S',step s a=.inr s'∧Inv (i+1) s' vs' S'∧∀ k K aQ,N≤k→F k K vs S aQ=aQ vs' S'))
  (hend:∀ s vs S,Inv all.length s vs S→∃ N x S',Post (fin s) x S'∧∀ k K aQ,N≤k→F k K vs S aQ=out k K x S')
  {s:σ} {vs:List V} {S:St} (hI:Inv 0 s vs S) {Q:V→St→Prop} (hout:∀ x S',Post (aS step fin all s) x S'→Ok (fun k K=>out k K x S') Q):Ok (fun k K=>sT k vs S (F k K)) Q:=by
 obtain ⟨N,x,S',hp,h⟩:=aDa all Inv Post hstep hend all 0 s vs S rfl (Nat.zero_le _) hI
 obtain ⟨v,S2,N',hq,h'⟩:=hout x S' hp
 refine ⟨v,S2,max N (max N' (all.length+1)),hq,fun k K hk=>?_⟩
 show sT k vs S (F k K)=K v S2
 rw [h k k K (by omega) (by omega)]
 exact h' k K (by omega)
end Go.AM
end
section
set_option linter.unusedSimpArgs false
set_option linter.unusedVariables false
namespace Go.AM
structure Own (S0 S:St) (n:Nat) (v:V) (es:List (List V)):Prop where
 is:(v=.nils∧es=[])∨∃ a ver tl,v=.sl a ver n 0 es.length∧S0.next≤a∧a<S.next∧S.heap.get a=some (.row ver n (es++tl))
 len:∀ cs,cs∈es→cs.length=n∧aM cs=true
theorem eV {S:St} {a ver n:Nat} {el:List (List V)} (h:S.heap.get a=some (.row ver n el)):aI S a ver=.ok (n,el):=by
 simp only [aI,h,Nat.beq_refl,cond_true]
theorem Own.sl {S0 S:St} {n:Nat} {v:V} {es:List (List V)} (h:Own S0 S n v es):Sl S n v es:=by
 refine ⟨?_,h.len⟩
 rcases h.is with h1 | ⟨a,ver,tl,h1,h2,h3,h4⟩
 ·exact .inl h1
 ·exact .inr (.inr ⟨a,ver,0,es++tl,h1,eV h4,by simp,by simp⟩)
theorem Own.ext {S0 S S':St} {n:Nat} {v:V} {es:List (List V)} (h:Own S0 S n v es) (x:Ext S S'):Own S0 S' n v es:=by
 refine ⟨?_,h.len⟩
 rcases h.is with h1 | ⟨a,ver,tl,h1,h2,h3,h4⟩
 ·exact .inl h1
 ·exact .inr ⟨a,ver,tl,h1,h2,Nat.lt_of_lt_of_le h3 x.next,x.old _ _ h4⟩
theorem Own.nil (S0 S:St) (n:Nat):Own S0 S n .nils []:=⟨.inl ⟨rfl,rfl⟩,fun _ h=>by cases h⟩
theorem Own.weaken {A B S:St} {n:Nat} {v:V} {es:List (List V)} (h:Own B S n v es) (x:A.next≤B.next):Own A S n v es:=by
 refine ⟨?_,h.len⟩
 rcases h.is with h1 | ⟨a,ver,tl,h1,h2,h3,h4⟩
 ·exact .inl h1
 ·exact .inr ⟨a,ver,tl,h1,Nat.le_trans x h2,h3,h4⟩
theorem dG {n:Nat} {es:List (List V)} (h:∀ cs,cs∈es→cs.length=n∧aM cs=true):iO n es=true∧es.all aM=true:=
 ⟨List.all_eq_true.2 fun cs hc=>by simp [(h cs hc).1],List.all_eq_true.2 fun cs hc=>(h cs hc).2⟩
theorem Sl.copy {S:St} {n b:Nat} {v:V} {es:List (List V)} (h:Sl S n v es) (w:WF S) (h1:es.length*b≤35184372088832) (h2:es.length<eG):
  ∃ v' S',cQ n b .nils v none S=.ok (v',S')∧Ext S S'∧Own S S' n v' es:=by
 obtain ⟨a1,a2⟩:=dG h.len
 cases es with
 | nil=>exact ⟨.nils,S,by simp only [cQ,h.elems,a1,a2,and_self,if_true],Ext.refl S,Own.nil _ _ _⟩
 | cons c es=>
  refine ⟨.sl S.next 0 n 0 (c::es).length,⟨S.next+1,S.heap.put S.next (.row 0 n (c::es))⟩,?_,Ext.new w _,⟨.inr ⟨S.next,0,[],rfl,Nat.le_refl _,Nat.lt_succ_self _,?_⟩,h.len⟩⟩
  ·simp only [cQ,h.elems,a1,a2,and_self,if_true,h1,h2,eB]
  ·rw [List.append_nil];exact Tr.get_put_sameB _ _ _ trivial
theorem Sl.copyAt {S:St} {n b:Nat} {v:V} {es:List (List V)} (h:Sl S n v es) {S0:St} (x:Ext S0 S) (w:WF S0) {k:Nat} (hk:S0.next≤k) (hk2:k<S.next) (hk3:S.heap.get k=none) (h1:es.length*b≤35184372088832) (h2:es.length<eG):
  ∃ v' S',cQ n b .nils v (some k) S=.ok (v',S')∧Ext S S'∧Own S0 S' n v' es:=by
 obtain ⟨a1,a2⟩:=dG h.len
 cases es with
 | nil=>exact ⟨.nils,S,by simp only [cQ,h.elems,a1,a2,and_self,if_true],Ext.refl S,Own.nil _ _ _⟩
 | cons c es=>
  refine ⟨.sl k 0 n 0 (c::es).length,⟨S.next,S.heap.put k (.row 0 n (c::es))⟩,?_,⟨fun a d hd=>?_,Nat.le_refl _,fun w a d hd=>?_⟩,⟨.inr ⟨k,0,[],rfl,hk,hk2,?_⟩,h.len⟩⟩
  ·simp only [cQ,h.elems,a1,a2,and_self,if_true,h1,h2,lM]
  ·show (S.heap.put k _).get a=some d
   rw [Tr.get_put_neB _ _ _ _ trivial (fun e=>by rw [e,hk3] at hd;cases hd)];exact hd
  ·have hd':(S.heap.put k (.row 0 n (c::es))).get a=some d:=hd
   rw [Tr.get_putB _ _ _ _ trivial] at hd'
   split at hd'
   ·show a<S.next;omega
   ·exact w a d hd'
  ·rw [List.append_nil];exact Tr.get_put_sameB _ _ _ trivial
theorem Own.pushK {S0 S:St} {n b:Nat} {v:V} {es:List (List V)} (h:Own S0 S n v es) (x:Ext S0 S) (w:WF S0) {u:V} {cs:List (List V)} (hu:bQ S u=.ok cs) (hc:∀ c,c∈cs→c.length=n∧aM c=true) (hne:cs≠[])
  (h1:(es.length+cs.length)*b≤35184372088832) (h2:es.length+cs.length<eG):∃ v' S',cQ n b v u none S=.ok (v',S')∧Ext S0 S'∧S'.next≤S.next+1∧Own S0 S' n v' (es++cs)∧∀ y,y<S.next→(∀ a ver m,v=.sl a ver n 0 m→y≠a)→S'.heap.get y=S.heap.get y:=by
 obtain ⟨a1,a2⟩:=dG hc
 have hlen:∀ c,c∈es++cs→c.length=n∧aM c=true:=fun c hm=>(List.mem_append.1 hm).elim (h.len c) (hc c)
 rcases h.is with ⟨rfl,rfl⟩ | ⟨a,ver,tl,rfl,q1,q2,q3⟩
 ·cases cs with
  | nil=>exact absurd rfl hne
  | cons c cs=>
   refine ⟨.sl S.next 0 n 0 (c::cs).length,⟨S.next+1,S.heap.put S.next (.row 0 n (c::cs))⟩,?_,x.trans (Ext.new (x.wf w) _),Nat.le_refl _,⟨.inr ⟨S.next,0,[],rfl,x.next,Nat.lt_succ_self _,?_⟩,hlen⟩,fun y hy _=>Tr.get_put_neB _ _ _ _ trivial (by omega)⟩
   ·simp only [List.length_nil,Nat.zero_add] at h1 h2
    simp only [cQ,hu,a1,a2,and_self,if_true,h1,h2,eB]
   ·rw [List.append_nil];exact Tr.get_put_sameB _ _ _ trivial
 ·have hb:0+es.length≤es.length+tl.length:=by omega
  refine ⟨.sl a (ver+1) n 0 (es++cs).length,⟨S.next,S.heap.put a (.row (ver+1) n (es++cs))⟩,?_,x.set q1 q2 w _,Nat.le_succ _,⟨.inr ⟨a,ver+1,[],rfl,q1,q2,?_⟩,hlen⟩,fun y _ hy=>Tr.get_put_neB _ _ _ _ trivial (hy a ver _ rfl)⟩
  ·simp only [cQ,hu,a1,a2,and_self,if_true,eV q3,hb,h1,h2,List.drop_zero,List.take_left',List.length_append]
  ·rw [List.append_nil];exact Tr.get_put_sameB _ _ _ trivial
theorem Own.push {S0 S:St} {n b:Nat} {v:V} {es:List (List V)} (h:Own S0 S n v es) (x:Ext S0 S) (w:WF S0) {u:V} {cs:List (List V)} (hu:bQ S u=.ok cs) (hc:∀ c,c∈cs→c.length=n∧aM c=true) (hne:cs≠[])
  (h1:(es.length+cs.length)*b≤35184372088832) (h2:es.length+cs.length<eG):∃ v' S',cQ n b v u none S=.ok (v',S')∧Ext S0 S'∧S'.next≤S.next+1∧Own S0 S' n v' (es++cs):=by
 obtain ⟨v',S',q1,q2,q3,q4,_⟩:=h.pushK x w hu hc hne h1 h2
 exact ⟨v',S',q1,q2,q3,q4⟩
theorem Own.set {S0 S:St} {n:Nat} {v:V} {es:List (List V)} (h:Own S0 S n v es) (x:Ext S0 S) (w:WF S0) {i:Nat} {cs:List V} (hi:es[i]?=some cs) (k:IntKind):
  ∃ p,cP n v (.int k (i:Int))=.ok p∧At S p cs∧∀ (j m:Nat) (u:V),u.cells.length=m→aM u.cells=true→j+m≤n→∃ S',aW m (adv j p) u S=.ok S'∧Ext S0 S'∧S'.next=S.next∧Own S0 S' n v (es.set i (splice cs j u.cells)) ∧
   ∀ S1,Ext S1 S→(∀ a ver,v=.sl a ver n 0 es.length→S1.next≤a)→WF S1→Ext S1 S':=by
 have hil:i<es.length:=(List.getElem?_eq_some_iff.1 hi).1
 have hl:=h.len cs (List.mem_of_getElem? hi)
 rcases h.is with ⟨rfl,rfl⟩ | ⟨a,ver,tl,rfl,q1,q2,q3⟩
 ·simp at hil
 ·have hg:(es++tl)[0+i]?=some cs:=by rw [Nat.zero_add,List.getElem?_append_left hil];exact hi
  refine ⟨.ptr a ver (0+i) 0,by simp only [cP,iU hil,if_true],.inl ⟨a,ver,0+i,n,es++tl,rfl,eV q3,hg⟩,fun j m u hu ho hj=>?_⟩
  have hsl:(splice cs j u.cells).length=n:=by simp only [splice,List.length_append,List.length_take,List.length_drop];omega
  have hso:aM (splice cs j u.cells)=true:=by
   have h1:=hl.2
   simp only [aM,List.all_eq_true] at h1 ho ⊢
   intro y hy
   simp only [splice,List.mem_append] at hy
   rcases hy with hy | hy | hy
   ·exact h1 y (List.mem_of_mem_take hy)
   ·exact ho y hy
   ·exact h1 y (List.mem_of_mem_drop hy)
  have hst:aW m (adv j (.ptr a ver (0+i) 0)) u S=.ok ⟨S.next,S.heap.put a (.row ver n ((es++tl).set (0+i) (splice cs j u.cells)))⟩:=by
   have hj':0+j+u.cells.length≤cs.length:=by omega
   simp only [adv,aW,eV q3,hg,hu,ho,true_and]
   rw [if_pos (by omega)]
   simp only [Nat.zero_add]
  have hset:(es++tl).set (0+i) (splice cs j u.cells)=es.set i (splice cs j u.cells)++tl:=by rw [Nat.zero_add,List.set_append_left _ _ hil]
  refine ⟨_,hst,x.set q1 q2 w _,rfl,⟨.inr ⟨a,ver,tl,by rw [List.length_set],q1,q2,?_⟩,fun c hc=>?_⟩,fun S1 x1 ha w1=>x1.set (ha a ver rfl) q2 w1 _⟩
  ·rw [hset];exact Tr.get_put_sameB _ _ _ trivial
  ·rcases List.mem_or_eq_of_mem_set hc with hc | rfl
   ·exact h.len c hc
   ·exact ⟨hsl,hso⟩
theorem aP3 {P:Program} {T:TypeId} {n b:Nat} (h:apT P T=some (n,b)):∃ e,jG P T=some e∧kJ P e=true∧sz P e=n∧P.bytesOf e=b:=by
 unfold apT at h
 split at h
 ·cases h
 ·rename_i e he
  rw [cond_eq_ite] at h
  split at h
  ·rename_i hz;cases h;exact ⟨e,he,hz,rfl,rfl⟩
  ·cases h
theorem Own.insertK {P:Program} {T:TypeId} {n b:Nat} (hT:apT P T=some (n,b)) (hn:1<n) {S0 S:St} {v:V} {es:List (List V)} (h:Own S0 S n v es) (x:Ext S0 S) (w:WF S0) {bx:Nat} {c:List V} (hb:aI S bx 0=.ok (n,[c]))
  (hne:∀ a ver m,v=.sl a ver n 0 m→a≠bx) (hc:c.length=n∧aM c=true) (h1:(es.length+1)*b≤35184372088832) (h2:es.length+1<eG) {i:Nat} (hi:i≤es.length):
  ∃ v' S',fX P T v (.int .i64 (i:Int)) (.sl bx 0 n 0 1) S=.ok (v',S')∧Ext S0 S'∧Own S0 S' n v' (es.take i++c::es.drop i)∧∀ y,y<S.next→(∀ a ver m,v=.sl a ver n 0 m→y≠a)→S'.heap.get y=S.heap.get y:=by
 obtain ⟨e,he,hz,hsz,hby⟩:=aP3 hT
 have hx:bQ S (.sl bx 0 n 0 1)=.ok [c]:=by
  simp only [bQ,hb]
  rfl
 have h1n:Nat.ble n 1=false:=by
  cases hq:Nat.ble n 1 with
  | false=>rfl
  | true=>exact absurd (Nat.le_of_ble_eq_true hq) (by omega)
 have hcs:∀ d,d∈[c]→d.length=n∧aM d=true:=fun d hd=>by cases hd with
  | head=>exact hc
  | tail _ hd=>cases hd
 have hlen:∀ d,d∈es.take i++c::es.drop i→d.length=n∧aM d=true:=by
  intro d hd
  rcases List.mem_append.1 hd with hd | hd
  ·exact h.len d (List.mem_of_mem_take hd)
  ·rcases List.mem_cons.1 hd with rfl | hd
   ·exact hc
   ·exact h.len d (List.mem_of_mem_drop hd)
 have hlt:(es.take i++c::es.drop i).length=es.length+1:=by simp only [List.length_append,List.length_take,List.length_cons,List.length_drop];omega
 by_cases hend:i=es.length
 ·subst hend
  obtain ⟨v',S',q1,q2,_,q3,q4⟩:=h.pushK (b:=b) x w hx hcs (by simp) h1 h2
  refine ⟨v',S',?_,q2,by simpa using q3,q4⟩
  rw [←dE hT] at q1
  unfold fX
  simp only [he,hx,hsz,h1n,Bool.false_or]
  rcases h.is with ⟨rfl,rfl⟩ | ⟨a,ver,tl,rfl,_⟩
  ·simp only [List.length_nil]
   show (bif Nat.beq 1 0 then _ else bif decide (((0:Nat):Int)=0) then _ else _)=_
   simp only [Int.natCast_zero,decide_true,cond_true]
   exact q1
  ·simp only [decide_true,cond_true]
   exact q1
 ·rcases h.is with ⟨rfl,rfl⟩ | ⟨a,ver,tl,rfl,p1,p2,p3⟩
  ·simp at hi;exact absurd hi hend
  ·have hab:Nat.beq a bx=false:=by
    cases hq:Nat.beq a bx with
    | false=>rfl
    | true=>exact absurd (Nat.eq_of_beq_eq_true hq) (hne a ver _ rfl)
   obtain ⟨a1,a2⟩:=dG hcs
   obtain ⟨_,a3⟩:=dG h.len
   have hb1:Nat.ble (0+es.length) (es++tl).length=true:=Nat.ble_eq_true_of_le (by simp)
   have hroom:room P e (es.length+[c].length)=true:=by
    simp only [room,hby,Bool.and_eq_true,Nat.ble_eq,Nat.blt_eq,List.length_cons,List.length_nil]
    exact ⟨h1,h2⟩
   have e1:decide ((i:Int)=((es.length:Nat):Int))=false:=decide_eq_false (by omega)
   have e2:decide ((i:Int)<0)=false:=decide_eq_false (by omega)
   have e3:decide (((es.length:Nat):Int)<(i:Int))=false:=decide_eq_false (by omega)
   refine ⟨.sl a (ver+1) n 0 (es.take i++c::es.drop i).length,⟨S.next,S.heap.put a (.row (ver+1) n (es.take i++c::es.drop i))⟩,?_,x.set p1 p2 w _,⟨.inr ⟨a,ver+1,[],rfl,p1,p2,?_⟩,hlen⟩,fun y _ hy=>Tr.get_put_neB _ _ _ _ trivial (hy a ver _ rfl)⟩
   ·unfold fX
    simp only [he,hx,hsz,h1n,Bool.false_or,e1,cond_false,hab,e2,e3,a1,a2,hz,Bool.and_self,Bool.not_true,eV p3,hb1,Nat.beq_refl,hroom,List.drop_zero,List.take_left',a3,cond_true,Int.toNat_natCast,hlt]
    rfl
   ·rw [List.append_nil];exact Tr.get_put_sameB _ _ _ trivial
theorem Own.insert {P:Program} {T:TypeId} {n b:Nat} (hT:apT P T=some (n,b)) (hn:1<n) {S0 S:St} {v:V} {es:List (List V)} (h:Own S0 S n v es) (x:Ext S0 S) (w:WF S0) {bx:Nat} {c:List V} (hb:aI S bx 0=.ok (n,[c]))
  (hne:∀ a ver m,v=.sl a ver n 0 m→a≠bx) (hc:c.length=n∧aM c=true) (h1:(es.length+1)*b≤35184372088832) (h2:es.length+1<eG) {i:Nat} (hi:i≤es.length):
  ∃ v' S',fX P T v (.int .i64 (i:Int)) (.sl bx 0 n 0 1) S=.ok (v',S')∧Ext S0 S'∧Own S0 S' n v' (es.take i++c::es.drop i):=by
 obtain ⟨v',S',q1,q2,q3,_⟩:=h.insertK hT hn x w hb hne hc h1 h2 hi
 exact ⟨v',S',q1,q2,q3⟩
theorem Own.delete {P:Program} {T e:TypeId} {n:Nat} {z:List V} (he:jG P T=some e) (hz:rN P e=some z) (hsz:sz P e=n) {S0 S:St} {v:V} {es:List (List V)} (h:Own S0 S n v es) (x:Ext S0 S) (w:WF S0)
  (h2:es.length<eG) {i:Nat} (hi:i<es.length):
  ∃ v' S',oX P T v (.int .i64 (i:Int)) (.int .i64 ((i:Int)+1)) S=.ok (v',S')∧Ext S0 S'∧Own S0 S' n v' (es.take i++es.drop (i+1)):=by
 have hlen:∀ d,d∈es.take i++es.drop (i+1)→d.length=n∧aM d=true:=by
  intro d hd
  rcases List.mem_append.1 hd with hd | hd
  ·exact h.len d (List.mem_of_mem_take hd)
  ·exact h.len d (List.mem_of_mem_drop hd)
 have hlt:(es.take i++es.drop (i+1)).length=es.length - 1:=by simp only [List.length_append,List.length_take,List.length_drop];omega
 rcases h.is with ⟨rfl,rfl⟩ | ⟨a,ver,tl,rfl,p1,p2,p3⟩
 ·simp at hi
 ·obtain ⟨_,a3⟩:=dG h.len
  have e1:decide ((i:Int)<0)=false:=decide_eq_false (by omega)
  have e2:decide ((i:Int)+1<(i:Int))=false:=decide_eq_false (by omega)
  have e3:decide (((es.length:Nat):Int)<(i:Int)+1)=false:=decide_eq_false (by omega)
  have e4:Nat.blt es.length eG=true:=Nat.ble_eq_true_of_le h2
  have e5:Nat.beq es.length 0=false:=by
   cases hq:Nat.beq es.length 0 with
   | false=>rfl
   | true=>have:=Nat.eq_of_beq_eq_true hq;omega
  have e6:decide ((i:Int)=(i:Int)+1)=false:=decide_eq_false (by omega)
  have hb1:Nat.ble (0+es.length) (es++tl).length=true:=Nat.ble_eq_true_of_le (by simp)
  have hj:((i:Int)+1).toNat=i+1:=by omega
  have hk:i+1 - i=1:=by omega
  have hrow:lD (es++tl) (0+i) (es.drop (i+1)++[z])=(es.take i++es.drop (i+1))++(z::tl):=by
   unfold lD
   rw [Nat.zero_add,List.take_append_of_le_length (by omega)]
   have:i+(es.drop (i+1)++[z]).length=es.length+0:=by simp only [List.length_append,List.length_drop,List.length_cons,List.length_nil];omega
   rw [this,List.drop_length_add_append]
   simp
  refine ⟨.sl a ver n 0 (es.length - 1),⟨S.next,S.heap.put a (.row ver n ((es.take i++es.drop (i+1))++(z::tl)))⟩,?_,x.set p1 p2 w _,⟨.inr ⟨a,ver,z::tl,by rw [hlt],p1,p2,Tr.get_put_sameB _ _ _ trivial⟩,hlen⟩⟩
  unfold oX
  simp only [he,e1,e2,e3,e4,e5,e6,Bool.or_false,Bool.not_true,cond_false,hz,hsz,eV p3,Nat.beq_refl,hb1,Bool.true_and,List.drop_zero,List.take_left',a3,cond_true,Int.toNat_natCast,hj,hk,List.replicate_one,hrow]
end Go.AM
namespace Go.AM
theorem Ext.newAt {S:St} {k:Nat} (hk:S.heap.get k=none) (hk2:k<S.next) (b:Blk):Ext S ⟨S.next,S.heap.put k b⟩:=by
 refine ⟨fun a d hd=>?_,Nat.le_refl _,fun w a d hd=>?_⟩
 ·show (S.heap.put k _).get a=some d
  rw [Tr.get_put_neB _ _ _ _ trivial (fun e=>by rw [e,hk] at hd;cases hd)];exact hd
 ·have hd':(S.heap.put k b).get a=some d:=hd
  rw [Tr.get_putB _ _ _ _ trivial] at hd'
  split at hd'
  ·show a<S.next;omega
  ·exact w a d hd'
end Go.AM
namespace Go.AM
theorem Own.other {S0 S S':St} {n:Nat} {v:V} {es:List (List V)} (h:Own S0 S n v es) (hn:S.next≤S'.next) (hg:∀ a ver m,v=.sl a ver n 0 m→S'.heap.get a=S.heap.get a):Own S0 S' n v es:=by
 refine ⟨?_,h.len⟩
 rcases h.is with h1 | ⟨a,ver,tl,h1,h2,h3,h4⟩
 ·exact .inl h1
 ·exact .inr ⟨a,ver,tl,h1,h2,Nat.lt_of_lt_of_le h3 hn,by rw [hg a ver _ h1];exact h4⟩
theorem Own.setK {S0 S:St} {n:Nat} {v:V} {es:List (List V)} (h:Own S0 S n v es) (x:Ext S0 S) (w:WF S0) {i:Nat} {cs:List V} (hi:es[i]?=some cs) (k:IntKind):
  ∃ a ver,v=.sl a ver n 0 es.length∧S0.next≤a∧a<S.next∧cP n v (.int k (i:Int))=.ok (.ptr a ver i 0)∧At S (.ptr a ver i 0) cs ∧
   ∀ (j m:Nat) (u:V),u.cells.length=m→aM u.cells=true→j+m≤n→∃ S',aW m (.ptr a ver i j) u S=.ok S'∧Ext S0 S'∧S'.next=S.next∧Own S0 S' n v (es.set i (splice cs j u.cells))∧(∀ y,y≠a→S'.heap.get y=S.heap.get y)∧(WF S→WF S'):=by
 have hil:i<es.length:=(List.getElem?_eq_some_iff.1 hi).1
 rcases h.is with ⟨rfl,rfl⟩ | ⟨a,ver,tl,rfl,q1,q2,q3⟩
 ·simp at hil
 ·obtain ⟨p,hp,hat,hset⟩:=h.set x w hi k
  have hpe:p=.ptr a ver (0+i) 0:=by
   simp only [cP,iU hil,if_true] at hp
   cases hp;rfl
  subst hpe
  rw [Nat.zero_add] at hp hat hset
  refine ⟨a,ver,rfl,q1,q2,hp,hat,fun j m u hu ho hj=>?_⟩
  obtain ⟨S',t1,t2,t3,t4,_⟩:=hset j m u hu ho hj
  have t1':aW m (.ptr a ver i j) u S=.ok S':=by
   have:adv j (.ptr a ver i 0)=.ptr a ver i j:=by simp only [adv,Nat.zero_add]
   rw [←this];exact t1
  have hS':∃ b,S'=⟨S.next,S.heap.put a b⟩:=by
   have hg:(es++tl)[i]?=some cs:=by rw [List.getElem?_append_left hil];exact hi
   simp only [aW,eV q3,hg] at t1'
   split at t1'
   ·cases t1';exact ⟨_,rfl⟩
   ·cases t1'
  obtain ⟨b,rfl⟩:=hS'
  refine ⟨_,t1',t2,rfl,t4,fun y hy=>Tr.get_put_neB _ _ _ _ trivial hy,fun ww y d hd=>?_⟩
  have hd':(S.heap.put a b).get y=some d:=hd
  rw [Tr.get_putB _ _ _ _ trivial] at hd'
  split at hd'
  ·show y<S.next;omega
  ·exact ww y d hd'
theorem rW {S:St} {a ver n:Nat} {el:List (List V)} (h:aI S a ver=.ok (n,el)):S.heap.get a=some (.row ver n el):=by
 unfold aI at h
 split at h
 ·rename_i v es elems hg
  rw [cond_eq_ite] at h
  split at h
  ·rename_i hb
   have:=Nat.eq_of_beq_eq_true hb
   cases h
   subst this
   exact hg
  ·cases h
 ·cases h
end Go.AM
end
section
set_option linter.unusedSimpArgs false
set_option linter.unusedVariables false
namespace Go.AM
structure D (b:Nat) (S S':St):Prop where
 next:S.next≤S'.next
 dead:∀ a,a<b→S.heap.get a=none→S'.heap.get a=none
theorem D.refl {b:Nat} (S:St):D b S S:=⟨Nat.le_refl _,fun _ _ h=>h⟩
theorem D.trans {b:Nat} {A B C:St} (h:D b A B) (k:D b B C):D b A C:=⟨Nat.le_trans h.next k.next,fun a ha h1=>k.dead a ha (h.dead a ha h1)⟩
theorem D.put {b:Nat} {S:St} {a:Nat} {x y:Blk} (h:S.heap.get a=some x):D b S ⟨S.next,S.heap.put a y⟩:=by
 refine ⟨Nat.le_refl _,fun c _ hc=>?_⟩
 show (S.heap.put a y).get c=none
 rw [Tr.get_put_neB _ _ _ _ trivial (fun e=>by rw [e,h] at hc;cases hc)];exact hc
def FrB (b:Nat) (fr:Option Nat):Prop:=∀ k,fr=some k→b≤k
theorem D.new {b:Nat} {S S':St} {fr:Option Nat} {x:Blk} {a:Nat} (hb:b≤S.next) (hf:FrB b fr) (h:aJ fr S x=.ok (a,S')):D b S S':=by
 cases fr with
 | none=>
  rw [eB] at h
  cases h
  refine ⟨Nat.le_succ _,fun c hc hn=>?_⟩
  show (S.heap.put S.next x).get c=none
  rw [Tr.get_put_neB _ _ _ _ trivial (by omega)];exact hn
 | some k=>
  rw [lM] at h
  cases h
  have:=hf _ rfl
  refine ⟨Nat.le_refl _,fun c hc hn=>?_⟩
  show (S.heap.put a x).get c=none
  rw [Tr.get_put_neB _ _ _ _ trivial (by omega)];exact hn
section
variable {P:Program} {b:Nat} {S S':St} {fr:Option Nat}
theorem aP4 {t:TypeId} {p x:V} (h:aG P t p x S=.ok S'):D b S S':=by
 unfold aG at h
 split at h
 ·split at h
  ·cases h
  ·rename_i hg
   split at h
   ·rw [cond_eq_ite] at h
    split at h
    ·cases h;exact D.put (rW hg)
    ·cases h
   ·cases h
 ·cases h
theorem aDb {t:TypeId} {s x v:V} (hb:b≤S.next) (hf:FrB b fr) (h:aV P t s x fr S=.ok (v,S')):D b S S':=by
 unfold aV at h
 split at h
 ·cases h
 ·split at h
  ·cases h
  ·rw [cond_eq_ite] at h
   split at h
   ·cases h
   ·split at h
    ·split at h
     ·cases h;exact D.refl S
     ·rw [cond_eq_ite] at h
      split at h
      ·split at h
       ·cases h
       ·rename_i hn;cases h;exact D.new hb hf hn
      ·cases h
    ·split at h
     ·cases h
     ·rename_i hg
      rw [cond_eq_ite] at h
      split at h
      ·cases h;exact D.put (rW hg)
      ·cases h
    ·cases h
theorem aP5 {t:TypeId} {x v:V} (h:tD P t x S=.ok (v,S')):D b S S':=by
 unfold tD at h
 split at h
 ·cases h;exact D.refl S
 ·rw [cond_eq_ite] at h
  split at h
  ·cases h;exact D.refl S
  ·split at h
   ·rename_i hg
    rw [cond_eq_ite] at h
    split at h
    ·cases h;exact D.put (rW hg)
    ·cases h
   ·cases h
 ·cases h
theorem aCh {t:TypeId} {n:Nat} {ps:List (Nat×V)} {v:V} (hb:b≤S.next) (hf:FrB b fr) (h:aK P t n ps fr S=.ok (v,S')):D b S S':=by
 unfold aK at h
 split at h
 ·cases h
 ·split at h
  ·cases h
  ·rw [cond_eq_ite] at h
   split at h
   ·split at h
    ·cases h
    ·split at h
     ·cases h
     ·rename_i hn;cases h;exact D.new hb hf hn
   ·cases h
theorem aEv {t:TypeId} {l c v:V} (hb:b≤S.next) (hf:FrB b fr) (h:eP P t l c fr S=.ok (v,S')):D b S S':=by
 unfold eP at h
 split at h
 ·split at h
  ·cases h
  ·rw [cond_eq_ite] at h
   split at h
   ·split at h
    ·cases h
    ·rename_i hn;cases h;exact D.new hb hf hn
   ·cases h
 ·cases h
theorem aJ8 {s d : TypeId} {x v : V} (hb : b ≤ S.next) (hf : FrB b fr) (h : bH P s d x fr S = .ok (v, S')) : D b S S' := by
  unfold bH at h
  split at h
  · split at h
    · cases h; exact D.refl S
    · cases h
  · split at h
    · cases h; exact D.refl S
    · split at h
      · split at h
        · split at h
          all_goals first
            | cases h; done
            | (split at h
               · cases h
               · split at h
                 · cases h; exact D.refl S
                 · cases h)
        · cases h
      · cases h
  · split at h
    · rw [cond_eq_ite] at h
      split at h
      · split at h
        · cases h
        · rename_i hn; cases h; exact D.new hb hf hn
      · cases h
    · cases h
  · cases h
theorem aEw {t:TypeId} {m k v:V} (h:eQ P t m k v S=.ok S'):D b S S':=by
 unfold eQ at h
 split at h
 ·split at h
  ·rename_i hg
   split at h
   ·cases h;exact D.put hg
   ·cases h;exact D.put hg
   ·cases h
  ·cases h
 ·cases h
theorem aRy {r:R V} {v:V} (h:bV S r=.ok (.val v S')):S'=S:=by
 unfold bV at h
 split at h<;>cases h;rfl
theorem aJ9 {r:R V} (h:bV S r=.ok (.skip S')):False:=by
 unfold bV at h
 split at h<;>cases h
theorem aRz {r:R (V×St)} {v:V} (h:dF r=.ok (.val v S')):r=.ok (v,S'):=by
 unfold dF at h
 split at h<;>cases h;rfl
theorem aJa {r:R (V×St)} (h:dF r=.ok (.skip S')):False:=by
 unfold dF at h
 split at h<;>cases h
def Out.left:Out→Option St
 | .val _ S=>some S
 | .skip S=>some S
 | .call _ _=>none
theorem jP {r:R V} {o:Out} (h:bV S r=.ok o) (hl:o.left=some S'):D b S S':=by
 cases o with
 | val v S1=>cases hl;rw [aRy h];exact D.refl S
 | skip S1=>exact (aJ9 h).elim
 | call f a=>cases hl
theorem jQ {r:R (V×St)} {o:Out} (h:dF r=.ok o) (hl:o.left=some S') (hd:∀ v S1,r=.ok (v,S1)→D b S S1):D b S S':=by
 cases o with
 | val v S1=>cases hl;exact hd _ _ (aRz h)
 | skip S1=>exact (aJa h).elim
 | call f a=>cases hl
theorem yX {g:FuncId} {args:List V} {o:Out} (h:kT P S g args=.ok o) (hl:o.left=some S'):D b S S':=by
 unfold kT at h
 split at h
 ·cases h
 ·split at h
  ·cases h;cases hl
  ·exact jP h hl
theorem aCi {B:Builtin} {ts:Array TypeId} {args:List V} {o:Out} (hb:b≤S.next) (hf:FrB b fr) (h:cL P B ts args fr S=.ok o) (hl:o.left=some S'):D b S S':=by
 unfold cL at h
 split at h
 ·split at h
  ·exact jP h hl
  ·cases h
 ·exact jP h hl
 ·exact jP h hl
 ·split at h
  ·split at h
   ·exact jQ h hl fun v S1 e=>aDb hb hf e
   ·exact jQ h hl fun v S1 e=>aDb hb hf e
   ·cases h
  ·cases h
 ·split at h
  ·exact jQ h hl fun v S1 e=>aP5 e
  ·cases h
 ·cases h
theorem yY {ρ:Operand→Option V} {o:Oper} {u:Out} (hb:b≤S.next) (hf:FrB b fr) (h:aT P ρ o fr S=.ok u) (hl:u.left=some S'):D b S S':=by
 unfold aT at h
 split at h
 all_goals try (cases h;done)
 all_goals try (exact yX h hl)
 all_goals repeat' split at h
 all_goals try (cases h;done)
 all_goals try (exact jP h hl)
 all_goals try (exact yX h hl)
 all_goals try (exact aCi hb hf h hl)
 all_goals try (cases h;cases hl;exact D.refl S)
 all_goals try (rename_i hn;cases h;cases hl;exact D.new hb hf hn)
 all_goals try (rename_i hn;cases h;cases hl;exact aP4 hn)
 all_goals try (rename_i hn;cases h;cases hl;exact aEw hn)
 all_goals try (exact jQ h hl fun v S1 e=>aCh hb hf e)
 all_goals try (exact jQ h hl fun v S1 e=>aJ8 hb hf e)
 all_goals try (exact jQ h hl fun v S1 e=>aEv hb hf e)
 all_goals simp only [cond_eq_ite] at h
 all_goals repeat' split at h
 all_goals try (cases h;done)
 all_goals try (exact jP h hl)
 all_goals try (cases h;cases hl;exact D.refl S)
 all_goals try (cases h;cases hl;exact D.new hb hf (by assumption))
 all_goals (cases h;cases hl;exact D.put (by assumption))
def mC (C:Call):Prop:=∀ f args S v S',C f args S=.ok (v,S')→∀ b,b≤S.next→D b S S'
theorem aHk {C:Call} (hC:mC C) {n:Nat} {ops:Array Oper} {o:Oper} {e e':cF} (hb:b≤S.next) (hf:FrB b fr) (h:dD P C n ops o fr e S=.ok (e',S')):D b S S':=by
 unfold dD at h
 split at h
 ·cases h
 ·split at h
  ·cases h;exact D.refl S
  ·cases h
 ·split at h
  ·cases h
  ·rename_i hv
   split at h
   ·cases h;exact yY hb hf hv rfl
   ·cases h
  ·rename_i hv
   split at h
   ·cases h;exact yY hb hf hv rfl
   ·cases h
  ·split at h
   ·cases h
   ·rename_i hc
    split at h
    ·cases h;exact hC _ _ _ _ _ hc b hb
    ·cases h
theorem aHl {C:Call} (hC:mC C) {n:Nat} {ops:Array Oper}:∀ (l:List Oper) {e e':cF} {S S':St},b≤S.next→jJ P C n ops l e S=.ok (e',S')→D b S S'
 | [],e,e',S,S',hb,h=>by cases h;exact D.refl S
 | o::l,e,e',S,S',hb,h=>by
  simp only [jJ] at h
  split at h
  ·rename_i hs
   have h1:=aHk hC hb (fun _ h=>by cases h) hs
   exact h1.trans (aHl hC l (Nat.le_trans hb h1.next) h)
  ·cases h
theorem aHm {C:Call} (hC:mC C) {n:Nat} {ops:Array Oper} {base:Nat} (hbb:b≤base):∀ (l:List dN) {recs:List sJ} {e e':cF} {S S':St},b≤S.next→jK P C n ops base l recs e S=.ok (e',S')→D b S S'
 | [],recs,e,e',S,S',hb,h=>by cases h;exact D.refl S
 | (i,re)::l,recs,e,e',S,S',hb,h=>by
  simp only [jK] at h
  split at h
  ·cases h
  ·split at h
   ·cases h
   ·rename_i hs
    have h1:=aHk hC hb (fun k hk=>by cases hk;omega) hs
    rw [cond_eq_ite] at h
    split at h
    ·exact h1.trans (aHm hC hbb l (Nat.le_trans hb h1.next) h)
    ·cases h
theorem aYc {C:Call} (hC:mC C) {n:Nat} {ops:Array Oper} {l:List dN} {e e':cF} (hb:b≤S.next) (h:aIh P C n ops l e S=.ok (e',S')):D b S S':=by
 unfold aIh at h
 have:=aHm hC hb l (S:=⟨S.next+ops.size,S.heap⟩) (Nat.le_trans hb (Nat.le_add_right _ _)) h
 exact ⟨Nat.le_trans (Nat.le_add_right _ _) this.next,this.dead⟩
theorem nL {C:Call} (hC:mC C) {pl:Nat→Option (List dN)} {k n:Nat}:∀ (c:Code) {e e':cF} {x:Ex} {S S':St},b≤S.next→cV P pl C k n c e S=.ok (x,e',S')→D b S S'
 | .skip,e,e',x,S,S',hb,h=>by cases h;exact D.refl S
 | .label _,e,e',x,S,S',hb,h=>by cases h;exact D.refl S
 | .exit id,e,e',x,S,S',hb,h=>by cases h;exact D.refl S
 | .ret,e,e',x,S,S',hb,h=>by cases h;exact D.refl S
 | .region id ops d,e,e',x,S,S',hb,h=>by
  simp only [cV] at h
  split at h
  ·rename_i hr
   cases h
   cases d with
   | true=>exact aYc hC hb hr
   | false=>exact aHl hC _ hb hr
  ·cases h
 | .seq a c,e,e',x,S,S',hb,h=>by
  simp only [cV] at h
  split at h
  ·rename_i h1
   have d1:=nL hC a hb h1
   exact d1.trans (nL hC c (Nat.le_trans hb d1.next) h)
  ·exact nL hC a hb h
 | .cond q a c,e,e',x,S,S',hb,h=>by
  simp only [cV] at h
  split at h
  ·exact nL hC a hb h
  ·exact nL hC c hb h
  ·cases h
 | .block id a,e,e',x,S,S',hb,h=>by
  simp only [cV] at h
  split at h
  ·rename_i h1
   have d1:=nL hC a hb h1
   rw [cond_eq_ite] at h
   split at h
   ·cases h;exact d1
   ·cases h;exact d1
  ·exact nL hC a hb h
 | .loop a,e,e',x,S,S',hb,h=>by
  simp only [cV] at h
  have:∀ (m:Nat) (e:cF) (S:St),b≤S.next→iter (cV P pl C k n a) m e S=.ok (x,e',S')→D b S S':=by
   intro m
   induction m with
   | zero=>intro e S _ h;cases h
   | succ m ih=>
    intro e S hb h
    simp only [iter] at h
    split at h
    ·rename_i h1
     have d1:=nL hC a hb h1
     exact d1.trans (ih _ _ (Nat.le_trans hb d1.next) h)
    ·exact nL hC a hb h
  exact this k e S hb h
 | .scope _,e,e',x,S,S',hb,h=>by cases h
 | .rangeFunc ..,e,e',x,S,S',hb,h=>by cases h
 | .goto _,e,e',x,S,S',hb,h=>by cases h
 | .refuse _,e,e',x,S,S',hb,h=>by cases h
def aDc (pl:eU):Prop:=∀ f g,pl f=some (.spec g)→∀ args S v S',g args S=.ok (v,S')→∀ b,b≤S.next→D b S S'
theorem aS0 {C:Call} (hC:mC C) {k:Nat} {p:Nat→Option (List dN)} {f:FuncId} {args:List V} {v:V} (hb:b≤S.next) (h:jH P C k p f args S=.ok (v,S')):D b S S':=by
 unfold jH at h
 split at h
 ·cases h
 ·split at h
  ·cases h
  ·rw [cond_eq_ite] at h
   split at h
   ·split at h
    ·cases h
    ·cases h
    ·rename_i he
     split at h
     ·cases h;exact nL hC _ hb he
     ·cases h
   ·cases h
theorem aYd {run:List V→St→R (V×St)} {args:List V} {v:V} (h:qB run args S=.ok (v,S')):D b S S':=by
 unfold qB at h
 split at h
 ·cases h
 split at h
 ·cases h
 rename_i rows hrows
 rw [cond_eq_ite] at h
 split at h
 ·cases h
 split at h
 ·cases h
 split at h
 ·cases h
 split at h
 ·cases h
 rw [cond_eq_ite] at h
 split at h
 ·cases h
 obtain ⟨_,rfl⟩:=Prod.mk.inj (Except.ok.inj h)
 refine ⟨Nat.le_refl _,fun a _ ha=>?_⟩
 have hn:¬ a∈dU (ptrsVs args):=fun hc=>by
  obtain ⟨k,hk⟩:=List.mem_iff_getElem?.1 hc
  obtain ⟨_,_,_,_,h1,_⟩:=(lZ hrows).2 k a hk
  rw [ha] at h1;cases h1
 show (mM _ _ _).get a=none
 rw [jO _ _ _ _ hn,cond_eq_ite]
 split
 ·exact ha
 ·rw [nR,ha,ite_self]
theorem aYe {mask:List Nat} {run:List V→St→R (V×St)} {args:List V} {v:V} (hb:b≤S.next) (h:aGk mask run args S=.ok (v,S')):D b S S':=by
 unfold aGk at h
 split at h
 ·cases h
 split at h
 ·cases h
 split at h
 ·cases h
 rename_i r _
 split at h
 ·cases h
 split at h
 ·cases h
 rw [cond_eq_ite] at h
 split at h
 ·obtain ⟨_,rfl⟩:=Prod.mk.inj (Except.ok.inj h)
  refine ⟨Nat.le_add_right _ _,fun a hab ha=>?_⟩
  show (mM _ _ _).get a=none
  rw [jO _ _ _ _ (fun hc=>by have:=(vL.1 hc).1;omega),nR,ha,ite_self]
 ·cases h
theorem aL5 {pl:eU} (hp:aDc pl):∀ k,mC (dW P pl k)
 | 0=>fun _ _ _ _ _ h=>by cases h
 | k+1=>by
  intro f args S v S' h b hb
  simp only [dW] at h
  split at h
  ·cases h
  ·rename_i g hg
   exact hp f g hg args S v S' h b hb
  ·exact aS0 (aL5 hp k) hb h
  ·exact aYd h
  ·exact aYe hb h
end
end Go.AM
namespace Go.AM
theorem Does.dead {P:Program} {pl:eU} {lv:lB} (hp:aDc pl) {f:FuncId} {args:List V} {S:St} {Q:V→St→Prop} (h:Does P pl lv f args S Q):Does P pl lv f args S fun v S'=>Q v S'∧D S.next S S':=by
 obtain ⟨v,S',N,q,h⟩:=h
 obtain ⟨v1,S1,h1,h2⟩:=mB N f args S (fun v S=>some (v,S)) (v,S') (h N _ (Nat.le_refl _))
 cases h2
 exact ⟨v,S',N,⟨q,aL5 hp N f args S v S' h1 S.next (Nat.le_refl _)⟩,h⟩
end Go.AM
end
section
namespace Go.AM
section
section
variable {P:Program} {pl:eU} {lv:lB}
def Gives (P:Program) (pl:eU) (lv:lB) (f:FuncId) (args:List V) (S:St) (v:V):Prop:=Does P pl lv f args S fun w S'=>w=v∧Ext S S'
theorem Gives.call {f:FuncId} {args:List V} {S:St} {v:V} (h:Gives P pl lv f args S v) {G:Nat→KS→V→St→An} {R:V→St→Prop} (k:∀ S',Ext S S'→Ok (fun k K=>G k K v S') R):
  Ok (fun k K=>nU P pl lv k f args S (fun v S=>G k K v S)) R:=Does.call h fun w S' ⟨e,x⟩=>by subst e;exact k S' x
theorem Gives.get {f:FuncId} {args:List V} {S:St} {v:V} (h:Gives P pl lv f args S v):∃ N S',Ext S S'∧∀ k K,N≤k→nU P pl lv k f args S K=K v S':=by
 obtain ⟨w,S',N,⟨rfl,x⟩,h⟩:=h
 exact ⟨N,S',x,h⟩
end
theorem Sl.one {S:St} {n:Nat} {v:V} {es:List (List V)} (h:Sl S n v es):v.one=true:=by
 rcases h.is with ⟨rfl,_⟩ | rfl | ⟨a,ver,off,elems,rfl,_⟩<;>rfl
structure But (a:Nat) (S S':St):Prop where
 old:∀ y b,y≠a→S.heap.get y=some b→S'.heap.get y=some b
 next:S.next≤S'.next
 wf:WF S→WF S'
theorem But.of {a:Nat} {S S':St} (x:Ext S S'):But a S S':=⟨fun y b _ h=>x.old y b h,x.next,x.wf⟩
theorem But.trans {a:Nat} {A B C:St} (h:But a A B) (k:But a B C):But a A C:=⟨fun y b hy q=>k.old y b hy (h.old y b hy q),Nat.le_trans h.next k.next,fun w=>k.wf (h.wf w)⟩
theorem But.put {a:Nat} {S:St} (ha:a<S.next) (b:Blk):But a S ⟨S.next,S.heap.put a b⟩:=by
 refine ⟨fun y c hy h=>?_,Nat.le_refl _,fun w y c hc=>?_⟩
 ·show (S.heap.put a b).get y=some c
  rw [Tr.get_put_neB _ _ _ _ trivial hy];exact h
 ·have hc':(S.heap.put a b).get y=some c:=hc
  rw [Tr.get_putB _ _ _ _ trivial] at hc'
  split at hc'
  ·show y<S.next;omega
  ·exact w y c hc'
theorem But.ext {a:Nat} {S0 S S':St} (w:WF S0) (x:Ext S0 S) (ha:S0.next≤a) (h:But a S S'):Ext S0 S':=
 ⟨fun y b hy=>h.old y b (by have:=w y b hy;omega) (x.old y b hy),Nat.le_trans x.next h.next,fun w=>h.wf (x.wf w)⟩
def blkOf:V→Option Nat
 | .sl a _ _ _ _=>some a
 | _=>none
theorem dS {S0 S:St} {n:Nat} {v:V} {es:List (List V)} (h:Own S0 S n v es) {y:Nat} (hy:blkOf v=some y):S0.next≤y∧y<S.next:=by
 rcases h.is with ⟨e1,_⟩ | ⟨a,ver,tl,e1,e2,e3,_⟩
 ·rw [e1] at hy;cases hy
 ·rw [e1] at hy;cases hy;exact ⟨e2,e3⟩
theorem Own.same {S0 S S':St} {n:Nat} {v:V} {es:List (List V)} (h:Own S0 S n v es) (hn:S.next≤S'.next) (hg:∀ a,blkOf v=some a→S'.heap.get a=S.heap.get a):Own S0 S' n v es:=
 h.other hn fun a ver m hv=>hg a (by rw [hv];rfl)
theorem Own.pushAt {S0 S:St} {n b:Nat} {v:V} {es:List (List V)} (h:Own S0 S n v es) (x:Ext S0 S) (w:WF S0) {u:V} {cs:List (List V)} (hu:bQ S u=.ok cs) (hc:∀ c,c∈cs→c.length=n∧aM c=true) (hne:cs≠[])
  {k:Nat} (hk:S0.next≤k) (hk2:k<S.next) (hk3:S.heap.get k=none)
  (h1:(es.length+cs.length)*b≤35184372088832) (h2:es.length+cs.length<eG):∃ v' S',cQ n b v u (some k) S=.ok (v',S')∧Ext S0 S'∧S'.next=S.next∧Own S0 S' n v' (es++cs)∧(blkOf v'=some k∨blkOf v'=blkOf v)∧∀ y,y≠k→blkOf v≠some y→S'.heap.get y=S.heap.get y:=by
 obtain ⟨a1,a2⟩:=dG hc
 have hlen:∀ c,c∈es++cs→c.length=n∧aM c=true:=fun c hm=>(List.mem_append.1 hm).elim (h.len c) (hc c)
 rcases h.is with ⟨rfl,rfl⟩ | ⟨a,ver,tl,rfl,q1,q2,q3⟩
 ·cases cs with
  | nil=>exact absurd rfl hne
  | cons c cs=>
   refine ⟨.sl k 0 n 0 (c::cs).length,⟨S.next,S.heap.put k (.row 0 n (c::cs))⟩,?_,x.trans (Ext.newAt hk3 hk2 _),rfl,⟨.inr ⟨k,0,[],rfl,hk,hk2,?_⟩,hlen⟩,.inl rfl,fun y hy _=>Tr.get_put_neB _ _ _ _ trivial hy⟩
   ·simp only [List.length_nil,Nat.zero_add] at h1 h2
    simp only [cQ,hu,a1,a2,and_self,if_true,h1,h2,lM]
   ·rw [List.append_nil];exact Tr.get_put_sameB _ _ _ trivial
 ·have hb:0+es.length≤es.length+tl.length:=by omega
  refine ⟨.sl a (ver+1) n 0 (es++cs).length,⟨S.next,S.heap.put a (.row (ver+1) n (es++cs))⟩,?_,x.set q1 q2 w _,rfl,⟨.inr ⟨a,ver+1,[],rfl,q1,q2,?_⟩,hlen⟩,.inr rfl,fun y _ hy=>Tr.get_put_neB _ _ _ _ trivial (fun e=>hy (by rw [e];rfl))⟩
  ·simp only [cQ,hu,a1,a2,and_self,if_true,eV q3,hb,h1,h2,List.drop_zero,List.take_left',List.length_append]
  ·rw [List.append_nil];exact Tr.get_put_sameB _ _ _ trivial
theorem Sl.but {a ver m n:Nat} {el:List (List V)} {S S':St} {v:V} {es:List (List V)} (h:Sl S n v es) (b:∀ y c,y≠a→S.heap.get y=some c→S'.heap.get y=some c) (hr:S.heap.get a=some (.row ver m el)) (hne:m≠n):Sl S' n v es:=by
 refine ⟨?_,h.len⟩
 rcases h.is with h1 | h1 | ⟨a',ver',off,elems,h1,h2,h3⟩
 ·exact .inl h1
 ·exact .inr (.inl h1)
 ·have h4:=rW h2
  refine .inr (.inr ⟨a',ver',off,elems,h1,eV (b a' _ (fun e=>?_) h4),h3⟩)
  rw [e,hr] at h4
  exact hne (by cases h4;rfl)
theorem Own.but {a ver m n:Nat} {el:List (List V)} {S0 S S':St} {v:V} {es:List (List V)} (h:Own S0 S n v es) (b:∀ y c,y≠a→S.heap.get y=some c→S'.heap.get y=some c) (hn:S.next≤S'.next) (hr:S.heap.get a=some (.row ver m el)) (hne:m≠n):Own S0 S' n v es:=by
 refine ⟨?_,h.len⟩
 rcases h.is with h1 | ⟨a',ver',tl,h1,h2,h3,h4⟩
 ·exact .inl h1
 ·refine .inr ⟨a',ver',tl,h1,h2,Nat.lt_of_lt_of_le h3 hn,b a' _ (fun e=>?_) h4⟩
  rw [e,hr] at h4
  exact hne (by cases h4;rfl)
theorem Own.beq {S0 S:St} {n:Nat} {v:V} {es:List (List V)} (h:Own S0 S n v es):dI v v=true:=by
 rcases h.is with ⟨rfl,_⟩ | ⟨a',ver',tl,rfl,_⟩
 ·rfl
 ·simp [dI]
theorem nb {S:St} (w:WF S) (n:Nat) (cs:List V):∃ S1,aJ none S (.row 0 n [cs])=.ok (S.next,S1)∧Ext S S1∧S1.heap.get S.next=some (.row 0 n [cs])∧S1.next=S.next+1:=
 ⟨_,eB ..,Ext.new w _,Tr.get_put_sameB _ _ _ trivial,rfl⟩
theorem vb {S:St} (w:WF S) (n:Nat) (zs:List V) (x:V) (hz:zs.length=n) (hx:x.cells.length=n) (ho:aM x.cells=true):
  ∃ S1 S2,aJ none S (.row 0 n [zs])=.ok (S.next,S1)∧aW n (.ptr S.next 0 0 0) x S1=.ok S2∧Ext S S2∧S2.heap.get S.next=some (.row 0 n [x.cells])∧S2.next=S.next+1:=
 ⟨_,_,eB ..,aD9 S n zs x hz hx ho,Ext.var w n zs x.cells,rW (aL4 S n zs x.cells),rfl⟩
abbrev Ag:=List V→St→An
inductive Turn (X:Type) where
 | stop (x:X) (S:St)
 | next (vs:List V) (S:St)
def Turn.run {X:Type} (out:Nat→KS→X→St→An) (k:Nat) (K:KS) (aQ:Ag):Turn X→An
 | .stop x S=>out k K x S
 | .next vs S=>aQ vs S
def OkL {X:Type} (out:Nat→KS→X→St→An) (g:Nat→KS→Ag→An) (Q:Turn X→Prop):Prop:=∃ o N,Q o∧∀ k K aQ,N≤k→g k K aQ=o.run out k K aQ
theorem OkL.stop {X:Type} {out:Nat→KS→X→St→An} {Q:Turn X→Prop} {g:Nat→KS→Ag→An} (x:X) {S:St} (h:Q (.stop x S)) (he:∀ k K aQ,g k K aQ=out k K x S:=by intros;rfl):OkL out g Q:=⟨_,0,h,fun k K aQ _=>he k K aQ⟩
theorem OkL.next {X:Type} {out:Nat→KS→X→St→An} {Q:Turn X→Prop} {vs:List V} {S:St} (h:Q (.next vs S)):OkL out (fun _ _ aQ=>aQ vs S) Q:=⟨_,0,h,fun _ _ _ _=>rfl⟩
theorem OkL.pick {X:Type} {out:Nat→KS→X→St→An} {Q:Turn X→Prop} {b:Bool} {g g':Nat→KS→Ag→An} (h:b=true→OkL out g Q) (h':b=false→OkL out g' Q):OkL out (fun k K aQ=>aD3 (.bool b) (g k K aQ) (g' k K aQ)) Q:=by
 cases b with
 | true=>exact h rfl
 | false=>exact h' rfl
theorem OkL.call {P:Program} {pl:eU} {lv:lB} {X:Type} {out:Nat→KS→X→St→An} {Q:Turn X→Prop} {f:FuncId} {args:List V} {S:St} {R:V→St→Prop} (h:Does P pl lv f args S R) {G:Nat→KS→Ag→V→St→An} (k:∀ v S,R v S→OkL out (fun k K aQ=>G k K aQ v S) Q):
  OkL out (fun k K aQ=>nU P pl lv k f args S (fun v S=>G k K aQ v S)) Q:=by
 obtain ⟨v,S',N,q,h⟩:=h
 obtain ⟨o,M,q2,h2⟩:=k v S' q
 exact ⟨o,max N M,q2,fun k K aQ hk=>(h k (fun v S=>G k K aQ v S) (by omega)).trans (h2 k K aQ (by omega))⟩
theorem OkL.loop {X:Type} {out:Nat→KS→X→St→An} {Q:Turn X→Prop} {σ ρ α Y:Type} {F:Nat→KS→Ag→List V→St→Ag→An} {out2:Nat→KS→Ag→Y→St→An} (all:List α) {step:σ→α→ρ⊕σ} {fin:σ→ρ} (Inv:Nat→σ→List V→St→Prop) (Post:ρ→Y→St→Prop)
  (hstep:∀ i a s vs S,Inv i s vs S→all[i]?=some a→∃ N,(∃ r y S',step s a=.inl r∧Post r y S'∧∀ k K ag aQ,N≤k→F k K ag vs S aQ=out2 k K ag y S')∨(∃ s' vs' S',step s a=.inr s'∧Inv (i+1) s' vs' S'∧∀ k K ag aQ,N≤k→F k K ag vs S aQ=aQ vs' S'))
  (hend:∀ s vs S,Inv all.length s vs S→∃ N y S',Post (fin s) y S'∧∀ k K ag aQ,N≤k→F k K ag vs S aQ=out2 k K ag y S')
  {s:σ} {vs:List V} {S:St} (hI:Inv 0 s vs S) (hout:∀ y S',Post (aS step fin all s) y S'→OkL out (fun k K ag=>out2 k K ag y S') Q):OkL out (fun k K ag=>sT k vs S (F k K ag)) Q:=by
 obtain ⟨N,y,S',hp,h⟩:=aDa (κ:=KS×Ag) (F:=fun k κ=>F k κ.1 κ.2) (out:=fun k κ=>out2 k κ.1 κ.2) all Inv Post
  (fun i a s vs S h1 h2=>by
   obtain ⟨N,h⟩:=hstep i a s vs S h1 h2
   rcases h with ⟨r,y,S',a1,a2,a3⟩ | ⟨s',vs',S',a1,a2,a3⟩
   ·exact ⟨N,.inl ⟨r,y,S',a1,a2,fun k κ aQ hk=>a3 k κ.1 κ.2 aQ hk⟩⟩
   ·exact ⟨N,.inr ⟨s',vs',S',a1,a2,fun k κ aQ hk=>a3 k κ.1 κ.2 aQ hk⟩⟩)
  (fun s vs S h1=>by
   obtain ⟨N,y,S',a1,a2⟩:=hend s vs S h1
   exact ⟨N,y,S',a1,fun k κ aQ hk=>a2 k κ.1 κ.2 aQ hk⟩) all 0 s vs S rfl (Nat.zero_le _) hI
 obtain ⟨o,M,hq,h2⟩:=hout y S' hp
 refine ⟨o,max N (max M (all.length+1)),hq,fun k K ag hk=>?_⟩
 exact (h k k (K,ag) (by omega) (by omega)).trans (h2 k K ag (by omega))
def Grown (n B:Nat) (T T':St):Prop:=Ext T T'∨∃ a ver el,B≤a∧T.heap.get a=some (.row ver n el)∧But a T T'
theorem Sl.keep {S S':St} {n:Nat} {v:V} {es:List (List V)} (h:Sl S n v es) (hg:∀ y c,blkOf v=some y→S.heap.get y=some c→S'.heap.get y=some c):Sl S' n v es:=by
 refine ⟨?_,h.len⟩
 rcases h.is with h1 | h1 | ⟨a,ver,off,elems,h1,h2,h3⟩
 ·exact .inl h1
 ·exact .inr (.inl h1)
 ·exact .inr (.inr ⟨a,ver,off,elems,h1,eV (hg a _ (by rw [h1];rfl) (rW h2)),h3⟩)
theorem Grown.old {n B:Nat} {T T':St} (g:Grown n B T T') {y:Nat} {c:Blk} (h:T.heap.get y=some c) (hc:y<B∨∀ ver el,c≠.row ver n el):T'.heap.get y=some c:=by
 rcases g with x | ⟨a,ver,el,ha,hr,b⟩
 ·exact x.old _ _ h
 ·refine b.old _ _ (fun e=>?_) h
  subst e
  rcases hc with hc | hc
  ·omega
  ·rw [h] at hr;cases hr;exact hc _ _ rfl
theorem Grown.sl {n B m:Nat} {T T':St} (g:Grown n B T T') {v:V} {es:List (List V)} (h:Sl T m v es) (hm:m≠n):Sl T' m v es:=by
 rcases g with x | ⟨a,ver,el,ha,hr,b⟩
 ·exact h.ext x
 ·exact h.but b.old hr (Ne.symm hm)
mutual
theorem xN:∀ v:V,dI v v=true
 | .bool b=>by simp [dI]
 | .int k n=>by simp [dI,dA]
 | .str s=>by rw [dI];rw [dJ];simp
 | .nilp=>rfl
 | .ptr a b c d=>by simp [dI]
 | .iptr a b=>by simp [dI,beqVs_refl a]
 | .nils=>rfl
 | .sl a b c d f=>by simp [dI]
 | .imm a=>by simp [dI,beqVss_refl a]
 | .agg a=>by simp [dI,beqVs_refl a]
 | .tup a=>by simp [dI,beqVs_refl a]
 | .nili=>rfl
 | .iface t a=>by simp [dI,xN a]
 | .nilf=>rfl
 | .func f a b=>by simp [dI,beqVs_refl a,beqVs_refl b]
 | .nilm=>rfl
 | .mp a=>by simp [dI]
 | .res a b=>by simp [dI]
theorem beqVs_refl:∀ l:List V,beqVs l l=true
 | []=>rfl
 | a::l=>by simp [beqVs,xN a,beqVs_refl l]
theorem beqVss_refl:∀ l:List (List V),beqVss l l=true
 | []=>rfl
 | a::l=>by simp [beqVss,beqVs_refl a,beqVss_refl l]
end
theorem Sl.many {S:St} {n a:Nat} {cs:List (List V)} (h:S.heap.get a=some (.row 0 n cs)) (hc:∀ c,c∈cs→c.length=n∧aM c=true):Sl S n (.sl a 0 n 0 cs.length) cs:=
 ⟨.inr (.inr ⟨a,0,0,cs,rfl,eV h,by simp,by simp⟩),hc⟩
end
section
mutual
def xO:V→Bool
 | .ptr _ _ _ _=>false
 | .nils=>false
 | .sl _ _ _ _ _=>false
 | .agg cs=>cloVs cs
 | .tup cs=>cloVs cs
 | .iface _ v=>xO v
 | .func _ a b=>cloVs a&&cloVs b
 | .mp _=>false
 | _=>true
def cloVs:List V→Bool
 | []=>true
 | v::l=>xO v&&cloVs l
end
mutual
theorem pI {ρ:Nat→Option Nat} {σ:V→R V}:∀ (v:V),xO v=true→dH ρ σ v=.ok v
 | .bool _,_ | .int _ _,_ | .str _,_ | .nilp,_ | .iptr _ _,_ | .imm _,_ | .nili,_ | .nilf,_ | .nilm,_ | .res _ _,_=>rfl
 | .agg cs,h=>by simp only [dH,clo_frzs cs h]
 | .tup cs,h=>by simp only [dH,clo_frzs cs h]
 | .iface t v,h=>by simp only [dH,pI v h]
 | .func f a b,h=>by
  simp only [xO,Bool.and_eq_true] at h
  simp only [dH,clo_frzs a h.1,clo_frzs b h.2]
theorem clo_frzs {ρ:Nat→Option Nat} {σ:V→R V}:∀ (l:List V),cloVs l=true→frzVs ρ σ l=.ok l
 | [],_=>rfl
 | v::l,h=>by
  simp only [cloVs,Bool.and_eq_true] at h
  simp only [frzVs,pI v h.1,clo_frzs l h.2]
end
mutual
theorem vR:∀ (v:V),xO v=true→qG v=[]
 | .bool _,_ | .int _ _,_ | .str _,_ | .nilp,_ | .iptr _ _,_ | .imm _,_ | .nili,_ | .nilf,_ | .nilm,_ | .res _ _,_=>rfl
 | .agg cs,h=>clo_ptrs cs h
 | .tup cs,h=>clo_ptrs cs h
 | .iface t v,h=>vR v h
 | .func f a b,h=>by
  simp only [xO,Bool.and_eq_true] at h
  simp only [qG,clo_ptrs a h.1,clo_ptrs b h.2,List.append_nil]
theorem clo_ptrs:∀ (l:List V),cloVs l=true→ptrsVs l=[]
 | [],_=>rfl
 | v::l,h=>by
  simp only [cloVs,Bool.and_eq_true] at h
  simp only [ptrsVs,vR v h.1,clo_ptrs l h.2,List.append_nil]
end
mutual
theorem aEx {τ:V→List Nat}:∀ (v:V),xO v=true→gG τ v=[]
 | .bool _,_ | .int _ _,_ | .str _,_ | .nilp,_ | .iptr _ _,_ | .imm _,_ | .nili,_ | .nilf,_ | .nilm,_ | .res _ _,_=>rfl
 | .agg cs,h=>clo_sls cs h
 | .tup cs,h=>clo_sls cs h
 | .iface t v,h=>aEx v h
 | .func f a b,h=>by
  simp only [xO,Bool.and_eq_true] at h
  simp only [gG,clo_sls a h.1,clo_sls b h.2,List.append_nil]
theorem clo_sls {τ:V→List Nat}:∀ (l:List V),cloVs l=true→slsVs τ l=[]
 | [],_=>rfl
 | v::l,h=>by
  simp only [cloVs,Bool.and_eq_true] at h
  simp only [slsVs,aEx v h.1,clo_sls l h.2,List.append_nil]
end
theorem aBf:aAp []=lX:=by funext i;cases i<;>rfl
theorem qT (l:List Nat):(l.any fun a=>Nat.blt a 0)=false:=by
 rw [List.any_eq_false]
 intro a _
 simp
def bY (S:St) (v:V):R V:=dH lX (oS (kA S 3) S) v
theorem aP6 {run:List V→St→R (V×St)} {args:List V} (hc:cloVs args=true) {S S0:St} {v0 v:V} (h:run args ⟨0,.nil⟩=.ok (v0,S0)) (ho:bY S0 v0=.ok v):qB run args S=.ok (v,S):=by
 unfold qB
 have h1:dU (ptrsVs args)=[]:=by rw [clo_ptrs args hc];rfl
 have h2:slsVs (lG (iE S 3) S) args=[]:=clo_sls args hc
 have ho':dH (aAp []) (oS (kA S0 3) S0) v0=.ok v:=by rw [aBf];exact ho
 rw [h1,h2]
 simp only [clo_frzs args hc,hM,dP,List.append_nil,List.any_nil,cond_false,List.length_nil,tG,h,ho',qD,qT]
 cases iP v&&qH []<;>rfl
section
variable {P:Program} {pl:eU}
def W (P:Program) (pl:eU):aC:=fun f args S K=>∃ v S',Evt (fun k=>dW P pl k f args S) (v,S')∧K v S'
theorem aS1:mU (dW P pl) (W P pl):=fun f args S K h=>h
theorem aP7 {f:FuncId} {args:List V} {S S':St} {v:V} (h:Evt (fun k=>dW P pl k f args S) (v,S')) (K:KW):W P pl f args S K=K v S':=by
 refine propext ⟨?_,fun h1=>⟨v,S',h,h1⟩⟩
 rintro ⟨v1,S1,h1,h2⟩
 cases h.eq h1
 exact h2
theorem qU {f:FuncId} {args:List V} {S:St} {r:V×St} (h:Evt (fun k=>dW P pl (k+1) f args S) r):Evt (fun k=>dW P pl k f args S) r:=by
 obtain ⟨N,h⟩:=h
 refine ⟨N+1,fun k hk=>?_⟩
 obtain ⟨k,rfl⟩:∃ m,k=m+1:=⟨k - 1,by omega⟩
 exact h k (by omega)
theorem kY {f:FuncId} {p:Nat→Option (List dN)} (hpl:pl f=some (.code p)) {lv:Nat→List Nat} {args:List V} {S:St} {K:KW} (h:aN P (W P pl) p lv f args S K):W P pl f args S K:=by
 obtain ⟨v,S',h1,h2⟩:=pH aS1 h
 exact ⟨v,S',qU (h1.one fun k h1=>by simp only [dW,hpl];exact h1),h2⟩
theorem aP8 {f:FuncId} {g:List V→St→R (V×St)} (hpl:pl f=some (.spec g)) {args:List V} {S S':St} {v:V} (h:g args S=.ok (v,S')) (K:KW):W P pl f args S K=K v S':=
 aP7 (qU (.of fun k=>by simp only [dW,hpl,h])) K
def Fn (P:Program) (pl:eU) (f:FuncId) (args:List V) (v:V):Prop:=∀ S,Evt (fun k=>dW P pl k f args S) (v,S)
theorem Fn.eq {f:FuncId} {args:List V} {v:V} (h:Fn P pl f args v) (S:St) (K:KW):W P pl f args S K=K v S:=aP7 (h S) K
theorem Fn.of {f:FuncId} {p:Nat→Option (List dN)} (hpl:pl f=some (.val p)) {lv:Nat→List Nat} {args:List V} {v:V} (hc:cloVs args=true)
  (h:aN P (W P pl) p lv f args ⟨0,.nil⟩ fun v0 S0=>bY S0 v0=.ok v):Fn P pl f args v:=by
 obtain ⟨v0,S0,h1,h2⟩:=pH aS1 h
 exact fun S=>qU (h1.one fun k h1=>by simp only [dW,hpl];exact aP6 hc h1 h2)
structure Pt (mk:Nat→List V):Prop where
 ptr:∀ a,dU (ptrsVs (mk a))=[a]
 frz:∀ a σ,frzVs (fun b=>oZ b 0 [a]) σ (mk a)=.ok (mk 0)
 sls:∀ a τ,slsVs τ (mk a)=[]
theorem Pt.head {ver i j:Nat} {args:List V} (hc:cloVs args=true):Pt fun a=>.ptr a ver i j::args:=
 ⟨fun a=>by simp only [ptrsVs,qG,clo_ptrs args hc];rfl,fun a σ=>by simp only [frzVs,dH,oZ,Nat.beq_refl,cond_true,clo_frzs args hc],fun a τ=>by simp only [slsVs,gG,clo_sls args hc,List.append_nil]⟩
theorem Pt.next {v:V} {mk:Nat→List V} (hv:xO v=true) (h:Pt mk):Pt fun a=>v::mk a:=
 ⟨fun a=>by simp only [ptrsVs,vR v hv,List.nil_append];exact h.ptr a,fun a σ=>by simp only [frzVs,pI v hv,h.frz],fun a τ=>by simp only [slsVs,aEx v hv,h.sls,List.append_nil]⟩
theorem Pt.func {f:FuncId} {ver i j:Nat} {args:List V} (hc:cloVs args=true):Pt fun a=>.func f [] [.ptr a ver i j]::args:=
 ⟨fun a=>by simp only [ptrsVs,qG,clo_ptrs args hc];rfl,fun a σ=>by simp only [frzVs,dH,oZ,Nat.beq_refl,cond_true,clo_frzs args hc],fun a τ=>by simp only [slsVs,gG,clo_sls args hc,List.append_nil]⟩
def FnR (P:Program) (pl:eU) (f:FuncId) (mk:Nat→List V) (ver n:Nat) (pre:List (List V)) (v:V) (post:List (List V)):Prop:=
 ∀ S a,S.heap.get a=some (.row ver n pre)→Evt (fun k=>dW P pl k f (mk a) S) (v,⟨S.next,S.heap.put a (.row ver n post)⟩)
theorem aL6 {φ:List V→R (List V)}:∀ {l:List (List V)},(∀ x,x∈l→φ x=.ok x)→lW φ l=.ok l
 | [],_=>rfl
 | x::l,h=>by simp only [lW,h x (List.mem_cons_self ..),aL6 fun y hy=>h y (List.mem_cons_of_mem _ hy)]
theorem aHn {φ:List V→List Nat}:∀ {l:List (List V)},(∀ x,x∈l→φ x=[])→mL φ l=[]
 | [],_=>rfl
 | x::l,h=>by simp only [mL,h x (List.mem_cons_self ..),aHn fun y hy=>h y (List.mem_cons_of_mem _ hy),List.append_nil]
theorem aS2 {S:St} {n:Nat} {x:List V} (h:cloVs x=true):kA S (n+1) x=.ok x:=clo_frzs x h
theorem aS3 {S:St} {n:Nat} {x:List V} (h:cloVs x=true):iE S (n+1) x=[]:=clo_sls x h
theorem nZ {S:St} {n:Nat} {l:List (List V)} (h:l.all cloVs=true):lW (kA S (n+1)) l=.ok l∧mL (iE S (n+1)) l=[]:=
 ⟨aL6 fun x hx=>aS2 (List.all_eq_true.1 h x hx),aHn fun x hx=>aS3 (List.all_eq_true.1 h x hx)⟩
theorem aP9 {run:List V→St→R (V×St)} {mk:Nat→List V} (hm:Pt mk) {a ver n:Nat} {pre post post0:List (List V)} (hp:pre.all cloVs=true) {S S0:St} {v0 v:V} (hS:S.heap.get a=some (.row ver n pre))
  (h:run (mk 0) ⟨1,Tr.nil.put 0 (.row ver n pre)⟩=.ok (v0,S0)) (ho:∀ ρ,dH ρ (oS (kA S0 3) S0) v0=.ok v) (hs:(gG (lG (iE S0 3) S0) v0).any (fun a=>Nat.blt a 1)=false) (h0:S0.heap.get 0=some (.row ver n post0)) (hq:lW (kA S0 3) post0=.ok post)
  (hs2:(mL (iE S0 3) post0).any (fun a=>Nat.blt a 1)=false):qB run (mk a) S=.ok (v,⟨S.next,S.heap.put a (.row ver n post)⟩):=by
 unfold qB
 obtain ⟨q1,q2⟩:=nZ (S:=S) (n:=2) hp
 rw [hm.ptr,hm.sls]
 have hA:([]++dP S [a])=[]:=by simp only [dP,hS,q2,List.append_nil]
 have hB:(gG (lG (iE S0 3) S0) v0++dP S0 (qD 0 1)).any (fun a=>Nat.blt a 1)=false:=by
  simp only [qD,dP,h0,List.append_nil,List.any_append,hs,hs2,Bool.or_false]
 rw [hA]
 simp only [hm.frz,hM,hS,q1,List.any_nil,cond_false,List.length_cons,List.length_nil,Nat.zero_add,tG,h,ho,hB,mM]
 have:hM S0 (qD 0 1)=.ok [(ver,n,post)]:=by simp only [qD,hM,h0,hq]
 rw [this]
 simp only [pA,mM]
 cases iP v&&qH [(ver,n,post)]<;>rfl
theorem FnR.of {f:FuncId} {p:Nat→Option (List dN)} (hpl:pl f=some (.val p)) {lv:Nat→List Nat} {mk:Nat→List V} (hm:Pt mk) {ver n:Nat} {pre post:List (List V)} {v:V} (hp:pre.all cloVs=true)
  (h:aN P (W P pl) p lv f (mk 0) ⟨1,Tr.nil.put 0 (.row ver n pre)⟩ fun v0 S0=>v0=v∧S0.heap.get 0=some (.row ver n post)) (hv:xO v=true) (hq:post.all cloVs=true):FnR P pl f mk ver n pre v post:=by
 obtain ⟨v0,S0,h1,rfl,h2⟩:=pH aS1 h
 intro S a hS
 obtain ⟨q1,q2⟩:=nZ (S:=S0) (n:=2) hq
 refine qU (h1.one fun k h1=>?_)
 simp only [dW,hpl]
 exact aP9 hm hp hS h1 (fun ρ=>pI v0 hv) (by rw [aEx v0 hv];rfl) h2 q1 (by rw [q2];rfl)
theorem FnR.eq {f:FuncId} {mk:Nat→List V} {ver n:Nat} {pre post:List (List V)} {v:V} (h:FnR P pl f mk ver n pre v post) {S:St} {a:Nat} (hS:S.heap.get a=some (.row ver n pre)) (K:KW):
  W P pl f (mk a) S K=K v ⟨S.next,S.heap.put a (.row ver n post)⟩:=aP7 (h S a hS) K
theorem aBg {α:Type}:∀ (f:Nat) (t:Tr α) (n:Nat) (x:α),t.get n=some x→Tr.set f t n x=t
 | 0,t,n,x,_=>rfl
 | f+1,.nil,n,x,h=>by cases h
 | f+1,.node l v r,n,x,h=>by
  rw [Tr.get_node] at h
  simp only [Tr.set,cond_eq_ite,Nat.beq_eq]
  by_cases h0:n=0
  ·rw [if_pos h0] at h ⊢;rw [h]
  ·rw [if_neg h0] at h ⊢
   by_cases h1:n % 2=1
   ·rw [if_pos h1] at h ⊢;rw [aBg f l _ _ h]
   ·rw [if_neg h1] at h ⊢;rw [aBg f r _ _ h]
theorem aPa {t:Tr Blk} {n:Nat} {x:Blk} (h:t.get n=some x):t.put n x=t:=aBg _ t n x h
theorem FnR.eq_same {f:FuncId} {mk:Nat→List V} {ver n:Nat} {pre:List (List V)} {v:V} (h:FnR P pl f mk ver n pre v pre) {S:St} {a:Nat} (hS:S.heap.get a=some (.row ver n pre)) (K:KW):W P pl f (mk a) S K=K v S:=by
 rw [h.eq hS K,aPa hS]
theorem aPb {run:List V→St→R (V×St)} {args bs:List V} {S:St} (hb:frzVs lX (oS (kA S 3) S) args=.ok bs) (hp:ptrsVs args=[]) {S0:St} {v0 v:V} (h:run bs ⟨0,.nil⟩=.ok (v0,S0)) (ho:bY S0 v0=.ok v)
  (hk:iP v=true∨slsVs (lG (iE S 3) S) args=[]):qB run args S=.ok (v,S):=by
 unfold qB
 have h1:dU (ptrsVs args)=[]:=by rw [hp];rfl
 have ho':dH (aAp []) (oS (kA S0 3) S0) v0=.ok v:=by rw [aBf];exact ho
 have hi:(fun a=>oZ a 0 ([]:List Nat))=lX:=rfl
 have hh:∀ l:List Nat,(l.any fun a=>iF a [])=false:=by intro l;rw [List.any_eq_false];intro a _;simp [iF]
 rw [h1]
 simp only [hi,hb,hM,dP,hh,cond_false,List.length_nil,tG,h,ho',qD,qT,List.append_nil]
 rcases hk with hk | hk
 ·rw [hk];rfl
 ·rw [hk]
  cases iP v&&qH []<;>rfl
theorem Fn.frz {f:FuncId} {bs:List V} {v:V} (h:Fn P pl f bs v) {p:Nat→Option (List dN)} (hpl:pl f=some (.val p)) (hc:cloVs bs=true) {args:List V} {S:St} (hb:frzVs lX (oS (kA S 3) S) args=.ok bs) (hp:ptrsVs args=[]) (hk:iP v=true∨slsVs (lG (iE S 3) S) args=[])
  (K:KW):W P pl f args S K=K v S:=by
 refine aP7 ?_ K
 obtain ⟨N,h⟩:=h ⟨0,.nil⟩
 refine ⟨N+1,fun k hk'=>?_⟩
 obtain ⟨k,rfl⟩:∃ m,k=m+1:=⟨k - 1,by omega⟩
 have:=h (k+1) (by omega)
 simp only [dW,hpl] at this ⊢
 unfold qB at this
 have e1:dU (ptrsVs bs)=[]:=by rw [clo_ptrs bs hc];rfl
 have e2:slsVs (lG (iE (⟨0,.nil⟩:St) 3) ⟨0,.nil⟩) bs=[]:=clo_sls bs hc
 rw [e1,e2] at this
 simp only [clo_frzs bs hc,hM,dP,List.append_nil,List.any_nil,cond_false,List.length_nil,tG,qD,qT] at this
 split at this
 ·cases this
 ·rename_i v0 S0 hrun
  split at this
  ·cases this
  ·rename_i v' hv'
   have hv:v'=v:=(Prod.mk.inj (Except.ok.inj this)).1
   subst hv
   rw [aBf] at hv'
   exact aPb hb hp hrun hv' hk
def pJ (mask:List Nat) (v:V) (S2:St) (S:St):R (V×St):=match zQ S2 mask 0 S.next v.cells with
 | .error e=>.error e
 | .ok r=>match hM S2 r.2 with
  | .error e=>.error e
  | .ok rows=>match pB v r.1 with
   | .error e=>.error e
   | .ok v'=>bif aCs r.2&&!(tH S2 mask 0 v.cells++dP S2 r.2).any (fun a=>iF a r.2) then .ok (v',⟨S.next+r.2.length,mM (qD S.next r.2.length) rows S.heap⟩) else .error "blocks"
theorem aXp {f:FuncId} {p:Nat→Option (List dN)} {mask:List Nat} (hpl:pl f=some (.own p mask)) {lv:Nat→List Nat} {args:List V} (hc:cloVs args=true) {S:St} {K:KW}
  (h:aN P (W P pl) p lv f args ⟨0,.nil⟩ fun v0 S0=>wR (pJ mask v0 S0 S) fun r=>K r.1 r.2):W P pl f args S K:=by
 obtain ⟨v0,S0,h1,h2⟩:=pH aS1 h
 obtain ⟨r,h3,h4⟩:=cH h2
 refine ⟨r.1,r.2,qU (h1.one fun k h1=>?_),h4⟩
 simp only [dW,hpl]
 unfold aGk
 have e2:slsVs (lG (iE S 3) S) args=[]:=clo_sls args hc
 simp only [clo_frzs args hc,h1,e2,pA]
 exact h3
theorem Does.evt {lv:lB} {f:FuncId} {args:List V} {S:St} {Q:V→St→Prop} (h:Does P pl lv f args S Q):∃ v S',Q v S'∧Evt (fun k=>dW P pl k f args S) (v,S'):=by
 obtain ⟨v,S',N,q,h⟩:=h
 refine ⟨v,S',q,N,fun k hk=>?_⟩
 obtain ⟨v1,S1,h1,h2⟩:=mB k f args S (fun v S=>some (v,S)) (v,S') (h k _ hk)
 cases h2
 exact h1
theorem Does.w {lv:lB} {f:FuncId} {args:List V} {S:St} {Q:V→St→Prop} (h:Does P pl lv f args S Q) {K:KW} (k:∀ v S',Q v S'→K v S'):W P pl f args S K:=by
 obtain ⟨v,S',q,e⟩:=h.evt
 exact ⟨v,S',e,k v S' q⟩
theorem Gives.fn {lv:lB} {f:FuncId} {args:List V} {v:V} {S:St} (h:Gives P pl lv f args S v) {K:KW} (k:∀ S',Ext S S'→K v S'):W P pl f args S K:=
 h.w fun w S' ⟨e,x⟩=>by subst e;exact k S' x
theorem aYf {f:FuncId} {args:List V} {S:St} {K:KW} (h:W P pl f args S K):∃ k v S',K v S'∧dW P pl k f args S=.ok (v,S'):=by
 obtain ⟨v,S',⟨N,h⟩,k⟩:=h
 exact ⟨N,v,S',k,h N (Nat.le_refl _)⟩
theorem aMv {F:List V→St→(List V→St→Prop)→Prop} (n:Nat) (I:Nat→List V→St→Prop)
  (h:∀ i vs S,i≤n→I i vs S→∀ aQ:List V→St→Prop,(∀ vs' S',i<n→I (i+1) vs' S'→aQ vs' S')→F vs S aQ) {vs:List V} {S:St} (h0:I 0 vs S):cR vs S F:=by
 have:∀ m i vs S,i+m=n→I i vs S→yP (m+1) vs S F:=by
  intro m
  induction m with
  | zero=>intro i vs S hi hI;exact h i vs S (by omega) hI _ fun vs' S' hlt _=>by omega
  | succ m ih=>intro i vs S hi hI;exact h i vs S (by omega) hI _ fun vs' S' hlt hI'=>ih (i+1) vs' S' (by omega) hI'
 exact ⟨n+1,this n 0 vs S (by omega) h0⟩
theorem aZ {F:List V→St→(List V→St→Prop)→Prop} {α σ ρ:Type} (l:List α) {step:σ→α→ρ⊕σ} {fin:σ→ρ} (I:Nat→σ→List V→St→Prop) (E:ρ→Prop)
  (hs:∀ i a s vs S,l[i]?=some a→I i s vs S→∀ aQ:List V→St→Prop,(match step s a with
   | .inl r=>E r
   | .inr s'=>∀ vs' S',I (i+1) s' vs' S'→aQ vs' S')→F vs S aQ)
  (he:∀ s vs S,I l.length s vs S→∀ aQ:List V→St→Prop,E (fin s)→F vs S aQ) {s:σ} {vs:List V} {S:St} (h0:I 0 s vs S) (hE:E (aS step fin l s)):cR vs S F:=by
 refine aMv l.length (fun i vs S=>∃ s,I i s vs S∧E (aS step fin (l.drop i) s)) ?_ ⟨s,h0,hE⟩
 rintro i vs S hi ⟨s,hI,hE⟩ aQ ha
 by_cases hl:i=l.length
 ·subst hl
  rw [List.drop_length] at hE
  exact he s vs S hI aQ hE
 ·have hlt:i<l.length:=by omega
  have ha':l[i]?=some l[i]:=List.getElem?_eq_getElem hlt
  rw [List.drop_eq_getElem_cons hlt] at hE
  refine hs i _ s vs S ha' hI aQ ?_
  simp only [aS] at hE
  split
  ·rename_i r hr
   rw [hr] at hE;exact hE
  ·rename_i s' hr
   rw [hr] at hE
   exact fun vs' S' hI'=>ha vs' S' hlt ⟨s',hI',hE⟩
end
end
end Go.AM
end
section
namespace Go.Proofs.YtoaibmbldmckaaaGreat
open Go.AM Tryz
def dSp:aGl:=[(202,.ins 68),(221,.ins 27),(230,.ins 28),(234,.ins 25),(237,.ins 24),(280,.ins 80),(240,.del 28)]
def aS4:gV:=[
 (3,[]),
 (4,[(4,[(0,[]),(2,[]),(1,[2]),(3,[]),(4,[]),(5,[]),(6,[]),(7,[]),(8,[]),(9,[]),(10,[]),(11,[]),(12,[]),(13,[])])]),
 (5,[(10,[(0,[]),(1,[]),(2,[1]),(3,[])])]),
 (6,[(8,[(0,[]),(2,[]),(1,[2]),(3,[]),(4,[]),(5,[]),(6,[]),(7,[]),(8,[]),(9,[]),(10,[]),(11,[]),(12,[]),(13,[]),(14,[]),(15,[])])]),
 (7,[]),
 (8,[(7,[(1,[]),(2,[]),(3,[]),(4,[]),(6,[]),(7,[]),(8,[]),(9,[]),(10,[]),(0,[]),(5,[7]),(11,[]),(12,[])]),(15,[(0,[]),(1,[0]),(2,[0]),(3,[]),(4,[]),(5,[]),(6,[]),(7,[]),(8,[])])]),
 (9,[]),
 (10,[]),
 (11,[]),
 (12,[]),
 (13,[(2,[(0,[]),(2,[]),(1,[2]),(3,[]),(4,[]),(5,[]),(6,[]),(7,[]),(8,[]),(9,[]),(10,[]),(11,[]),(12,[]),(13,[]),(14,[])])]),
 (14,[]),
 (15,[(5,[(0,[]),(1,[]),(2,[0]),(3,[]),(4,[]),(5,[]),(6,[]),(7,[]),(8,[]),(9,[])]),(6,[(0,[]),(1,[]),(2,[0]),(3,[]),(4,[]),(5,[]),(6,[]),(7,[]),(8,[]),(9,[])])]),
 (16,[(3,[(0,[]),(2,[]),(1,[2]),(3,[]),(4,[]),(5,[])]),(4,[(0,[]),(1,[]),(2,[]),(3,[]),(4,[]),(5,[]),(6,[]),(7,[]),(8,[]),(9,[]),(10,[]),(12,[]),(13,[]),(11,[13,12]),(14,[]),(15,[]),(16,[]),(17,[]),(18,[]),(19,[]),(20,[])])]),
 (17,[(32,[(0,[]),(1,[]),(2,[]),(3,[]),(4,[]),(5,[]),(6,[]),(7,[]),(8,[]),(9,[]),(10,[]),(11,[]),(12,[]),(13,[]),(14,[]),(15,[]),(16,[]),(17,[]),(18,[]),(19,[]),(20,[]),(21,[]),(22,[]),(23,[]),(24,[]),(25,[]),(26,[]),(27,[]),(28,[25,23]),(29,[]),(30,[]),(31,[25,23]),(32,[]),(33,[]),(34,[25]),(35,[]),(36,[]),(37,[])])]),
 (18,[]),
 (19,[]),
 (20,[]),
 (21,[]),
 (22,[]),
 (23,[]),
 (24,[]),
 (25,[(6,[(0,[]),(1,[]),(2,[]),(3,[]),(4,[]),(5,[]),(6,[]),(7,[]),(8,[]),(9,[8]),(10,[]),(11,[]),(12,[]),(13,[]),(14,[]),(15,[]),(16,[]),(17,[]),(18,[]),(19,[]),(20,[]),(21,[]),(22,[]),(23,[]),(24,[])])]),
 (26,[]),
 (27,[]),
 (28,[]),
 (29,[(7,[(0,[]),(1,[]),(2,[]),(3,[]),(4,[]),(5,[]),(6,[]),(8,[]),(9,[]),(10,[]),(11,[]),(12,[]),(13,[]),(15,[]),(16,[]),(17,[]),(18,[]),(19,[]),(20,[]),(7,[20,16,13,9]),(14,[20,16]),(21,[]),(22,[])]),(12,[(0,[]),(1,[]),(2,[]),(3,[]),(4,[]),(5,[]),(6,[]),(8,[]),(9,[]),(10,[]),(11,[]),(12,[]),(13,[]),(15,[]),(16,[]),(17,[]),(18,[]),(19,[]),(20,[]),(7,[20,16,13,9]),(14,[20,16]),(21,[]),(22,[])]),(18,[(0,[]),(1,[]),(2,[]),(3,[]),(5,[]),(6,[]),(4,[6]),(7,[]),(8,[])]),(19,[(0,[]),(1,[]),(2,[]),(3,[]),(5,[]),(6,[]),(7,[]),(4,[7]),(8,[]),(9,[])]),(25,[(0,[]),(1,[]),(2,[]),(4,[]),(5,[]),(7,[]),(8,[]),(3,[8,5]),(6,[8]),(9,[]),(10,[])]),(30,[(0,[]),(1,[]),(2,[]),(3,[]),(4,[]),(5,[]),(6,[]),(8,[]),(9,[]),(10,[]),(11,[]),(12,[]),(13,[]),(15,[]),(16,[]),(17,[]),(18,[]),(19,[]),(20,[]),(7,[20,16,13,9]),(14,[20,16]),(21,[]),(22,[])])]),
 (30,[]),
 (31,[]),
 (32,[]),
 (33,[(3,[(0,[]),(1,[0]),(2,[]),(3,[])]),(5,[(0,[]),(1,[0]),(2,[]),(3,[])]),(10,[(0,[]),(1,[]),(2,[0]),(3,[]),(4,[])]),(12,[(0,[]),(1,[]),(2,[1]),(3,[])]),(17,[(0,[]),(1,[]),(2,[1]),(3,[])])]),
 (34,[(9,[(1,[]),(2,[]),(4,[]),(5,[]),(6,[]),(0,[]),(3,[5]),(7,[]),(8,[]),(9,[]),(10,[])]),(11,[(0,[]),(1,[]),(2,[]),(3,[]),(4,[]),(5,[2]),(6,[])]),(16,[(0,[]),(1,[]),(2,[1]),(3,[])]),(21,[(0,[]),(1,[]),(2,[1]),(3,[])])]),
 (35,[]),
 (36,[]),
 (37,[]),
 (38,[]),
 (39,[]),
 (40,[]),
 (41,[(10,[(0,[]),(1,[]),(3,[]),(2,[3]),(4,[]),(5,[]),(6,[]),(7,[]),(8,[]),(10,[]),(9,[10]),(11,[]),(12,[]),(13,[])]),(19,[(1,[]),(2,[]),(3,[]),(5,[]),(6,[]),(7,[]),(8,[]),(9,[]),(12,[]),(13,[]),(14,[]),(0,[]),(4,[8,6]),(10,[]),(11,[]),(15,[]),(16,[])])]),
 (42,[]),
 (43,[]),
 (44,[(3,[(0,[]),(1,[0]),(2,[0]),(3,[]),(4,[]),(5,[]),(6,[]),(7,[]),(8,[])]),(4,[(0,[]),(1,[0]),(2,[0]),(3,[]),(4,[]),(5,[]),(6,[]),(7,[]),(8,[])])]),
 (45,[]),
 (46,[]),
 (47,[]),
 (48,[]),
 (49,[]),
 (50,[]),
 (51,[]),
 (52,[]),
 (53,[]),
 (54,[(7,[(0,[]),(1,[]),(3,[]),(4,[]),(6,[]),(2,[4]),(5,[]),(7,[]),(8,[]),(9,[]),(10,[])])]),
 (55,[]),
 (56,[]),
 (57,[]),
 (58,[]),
 (59,[]),
 (60,[]),
 (61,[]),
 (62,[]),
 (63,[]),
 (64,[]),
 (65,[]),
 (66,[]),
 (67,[]),
 (68,[]),
 (69,[]),
 (70,[]),
 (71,[]),
 (72,[]),
 (73,[]),
 (74,[]),
 (75,[]),
 (76,[]),
 (77,[]),
 (78,[]),
 (79,[]),
 (80,[]),
 (81,[]),
 (82,[]),
 (83,[]),
 (84,[]),
 (85,[]),
 (86,[]),
 (87,[]),
 (88,[]),
 (89,[]),
 (90,[]),
 (91,[]),
 (92,[]),
 (93,[]),
 (94,[]),
 (95,[]),
 (96,[]),
 (97,[]),
 (98,[(1,[(0,[]),(1,[]),(2,[]),(4,[]),(5,[]),(7,[]),(8,[]),(3,[8,5]),(6,[8]),(9,[]),(10,[])])]),
 (99,[]),
 (100,[]),
 (101,[(1,[(0,[]),(1,[]),(2,[]),(4,[]),(5,[]),(7,[]),(8,[]),(3,[8,5]),(6,[8]),(9,[]),(10,[])])]),
 (102,[(9,[(0,[]),(1,[]),(2,[]),(3,[]),(4,[]),(5,[]),(6,[]),(7,[]),(8,[]),(9,[]),(10,[1]),(11,[]),(12,[]),(13,[]),(14,[])])]),
 (103,[]),
 (104,[(2,[(0,[]),(1,[0]),(2,[]),(3,[])]),(5,[(0,[]),(1,[]),(2,[0]),(3,[]),(4,[])]),(9,[(0,[]),(1,[]),(2,[1]),(3,[])])]),
 (105,[]),
 (106,[]),
 (107,[(8,[(0,[]),(1,[]),(2,[]),(3,[]),(4,[]),(5,[]),(6,[]),(7,[]),(8,[5]),(9,[]),(10,[]),(11,[])])]),
 (108,[(5,[(0,[]),(1,[]),(2,[]),(3,[]),(4,[]),(5,[3]),(6,[]),(7,[])]),(12,[(0,[]),(1,[]),(2,[]),(3,[]),(4,[]),(5,[3]),(6,[]),(7,[])]),(15,[(0,[]),(1,[]),(2,[]),(3,[]),(4,[]),(5,[]),(6,[]),(7,[5,3]),(8,[]),(9,[5]),(10,[]),(11,[])])]),
 (109,[]),
 (110,[(33,[(1,[]),(2,[]),(3,[]),(4,[]),(6,[]),(7,[]),(8,[]),(9,[]),(10,[]),(0,[]),(5,[7]),(11,[]),(12,[]),(13,[])]),(44,[(0,[]),(1,[]),(2,[1]),(3,[])])]),
 (111,[(4,[(0,[]),(1,[]),(2,[]),(3,[]),(4,[]),(5,[]),(6,[]),(7,[]),(8,[5]),(9,[]),(10,[]),(11,[])])]),
 (112,[]),
 (113,[]),
 (114,[]),
 (115,[]),
 (116,[]),
 (117,[]),
 (118,[(1,[(0,[]),(1,[]),(2,[]),(3,[]),(4,[]),(5,[]),(6,[]),(7,[]),(8,[]),(9,[]),(10,[]),(11,[]),(12,[]),(13,[]),(14,[]),(15,[]),(16,[]),(17,[]),(18,[]),(19,[]),(20,[15]),(21,[]),(22,[]),(23,[])])]),
 (119,[]),
 (120,[(19,[(0,[]),(1,[]),(2,[]),(3,[]),(4,[]),(5,[]),(6,[]),(7,[]),(8,[]),(9,[]),(10,[]),(11,[]),(12,[]),(13,[]),(15,[]),(16,[]),(17,[]),(18,[]),(19,[]),(14,[19]),(20,[]),(21,[]),(22,[]),(23,[]),(24,[]),(25,[]),(26,[]),(27,[]),(28,[]),(29,[]),(30,[]),(31,[]),(32,[]),(33,[]),(34,[]),(35,[]),(36,[]),(37,[]),(38,[]),(39,[]),(40,[]),(41,[]),(42,[]),(43,[]),(44,[]),(45,[]),(46,[]),(47,[]),(48,[])])]),
 (121,[]),
 (122,[(11,[(1,[]),(2,[]),(3,[]),(5,[]),(6,[]),(7,[]),(8,[]),(9,[]),(10,[]),(13,[]),(14,[]),(15,[]),(0,[]),(4,[9]),(11,[]),(12,[]),(16,[]),(17,[])])]),
 (123,[(1,[(0,[]),(1,[]),(2,[]),(3,[]),(4,[]),(5,[]),(6,[]),(7,[]),(8,[]),(9,[]),(10,[]),(11,[]),(12,[]),(13,[]),(14,[]),(15,[]),(16,[]),(17,[]),(18,[]),(19,[]),(20,[]),(21,[]),(22,[]),(23,[]),(24,[]),(25,[]),(26,[]),(27,[]),(28,[]),(29,[]),(30,[25]),(31,[]),(32,[]),(33,[])])]),
 (124,[(1,[(0,[]),(1,[]),(2,[]),(3,[]),(4,[]),(5,[]),(6,[]),(7,[]),(9,[]),(8,[9]),(10,[]),(11,[]),(12,[]),(13,[])])]),
 (125,[]),
 (126,[]),
 (127,[]),
 (128,[]),
 (129,[]),
 (130,[]),
 (131,[]),
 (132,[]),
 (133,[]),
 (134,[]),
 (135,[]),
 (136,[]),
 (137,[]),
 (138,[]),
 (139,[]),
 (140,[]),
 (141,[]),
 (142,[(5,[(0,[]),(1,[]),(2,[]),(3,[]),(4,[]),(5,[3]),(6,[]),(7,[])]),(14,[(0,[]),(1,[]),(2,[]),(3,[]),(4,[]),(5,[]),(6,[]),(7,[]),(8,[]),(10,[]),(9,[5,2]),(11,[5]),(12,[]),(13,[]),(14,[]),(15,[])]),(17,[(0,[]),(1,[]),(2,[]),(3,[]),(4,[]),(5,[]),(6,[]),(7,[5,3]),(8,[]),(9,[5]),(10,[]),(11,[])]),(24,[(0,[]),(1,[]),(2,[]),(3,[]),(4,[2]),(5,[])])]),
 (143,[(5,[(0,[]),(1,[]),(2,[]),(3,[]),(4,[]),(5,[4]),(6,[])])]),
 (144,[]),
 (145,[]),
 (146,[]),
 (147,[]),
 (148,[]),
 (149,[]),
 (150,[]),
 (151,[]),
 (152,[]),
 (153,[]),
 (154,[(10,[(0,[]),(1,[]),(2,[]),(3,[]),(4,[]),(7,[]),(8,[]),(9,[]),(10,[]),(11,[]),(5,[]),(6,[11]),(12,[]),(13,[]),(14,[]),(15,[])])]),
 (155,[]),
 (156,[]),
 (157,[]),
 (158,[]),
 (159,[]),
 (160,[]),
 (161,[(5,[(0,[]),(1,[]),(2,[]),(3,[]),(4,[]),(5,[]),(8,[]),(9,[]),(10,[]),(11,[]),(12,[]),(13,[]),(6,[]),(7,[13]),(14,[]),(15,[]),(16,[]),(17,[])])]),
 (162,[]),
 (163,[]),
 (164,[]),
 (165,[]),
 (166,[]),
 (167,[]),
 (168,[]),
 (169,[]),
 (170,[]),
 (171,[]),
 (172,[]),
 (173,[]),
 (174,[]),
 (175,[]),
 (176,[]),
 (177,[]),
 (178,[(17,[(0,[]),(2,[]),(3,[]),(1,[3]),(4,[]),(5,[]),(6,[]),(7,[])])]),
 (179,[]),
 (180,[]),
 (181,[]),
 (182,[]),
 (183,[]),
 (184,[]),
 (185,[]),
 (186,[(14,[(1,[]),(2,[]),(3,[]),(5,[]),(6,[]),(7,[]),(10,[]),(11,[]),(12,[]),(0,[]),(4,[]),(8,[]),(9,[]),(13,[]),(14,[]),(15,[])])]),
 (187,[]),
 (188,[]),
 (189,[(13,[(1,[]),(2,[]),(3,[]),(5,[]),(8,[]),(9,[]),(10,[]),(0,[]),(4,[5]),(6,[]),(7,[]),(11,[]),(12,[]),(13,[])])]),
 (190,[(30,[(1,[]),(2,[]),(3,[]),(4,[]),(6,[]),(7,[]),(8,[]),(9,[]),(12,[]),(13,[]),(14,[]),(15,[]),(0,[]),(5,[13,7]),(10,[]),(11,[13]),(16,[]),(17,[]),(18,[])]),(31,[(0,[]),(1,[]),(2,[]),(3,[]),(4,[]),(5,[]),(6,[]),(7,[]),(8,[]),(9,[]),(10,[1]),(11,[]),(12,[]),(13,[]),(14,[]),(15,[]),(16,[]),(17,[])])]),
 (191,[(13,[(1,[]),(2,[]),(4,[]),(5,[]),(6,[]),(7,[]),(8,[]),(9,[]),(10,[]),(11,[]),(12,[]),(13,[]),(0,[]),(3,[12,10,9,5]),(14,[]),(15,[]),(16,[]),(17,[])]),(14,[(0,[]),(1,[]),(2,[]),(3,[]),(4,[]),(5,[3]),(6,[])])]),
 (192,[(12,[(0,[]),(1,[]),(2,[]),(3,[]),(4,[]),(5,[]),(6,[]),(8,[]),(9,[]),(7,[9]),(10,[]),(11,[]),(12,[])]),(22,[(0,[]),(1,[]),(2,[1]),(3,[])])]),
 (193,[]),
 (194,[(3,[(0,[]),(1,[]),(3,[]),(4,[]),(2,[4]),(5,[]),(6,[]),(7,[])])]),
 (195,[]),
 (196,[]),
 (197,[]),
 (198,[]),
 (199,[]),
 (200,[]),
 (201,[]),
 (203,[]),
 (204,[]),
 (205,[]),
 (206,[]),
 (207,[(4,[(0,[]),(1,[]),(3,[]),(4,[]),(6,[]),(2,[4]),(5,[]),(7,[]),(8,[]),(9,[]),(10,[])])]),
 (208,[(9,[(0,[]),(1,[]),(2,[]),(3,[]),(4,[]),(5,[]),(6,[3,1]),(7,[]),(8,[]),(9,[]),(10,[])])]),
 (209,[]),
 (210,[]),
 (211,[]),
 (212,[]),
 (213,[]),
 (214,[]),
 (215,[(6,[(0,[]),(1,[]),(2,[]),(3,[]),(4,[]),(5,[4]),(6,[])])]),
 (216,[]),
 (217,[]),
 (218,[]),
 (219,[]),
 (220,[]),
 (222,[]),
 (223,[(7,[(0,[]),(1,[]),(2,[]),(3,[]),(4,[1]),(5,[]),(6,[]),(7,[])])]),
 (224,[]),
 (225,[]),
 (226,[(5,[(0,[]),(1,[]),(2,[]),(5,[]),(6,[]),(7,[]),(3,[]),(4,[7]),(8,[]),(9,[]),(10,[]),(11,[])])]),
 (227,[]),
 (228,[]),
 (229,[]),
 (231,[]),
 (232,[]),
 (233,[]),
 (235,[]),
 (236,[]),
 (238,[]),
 (239,[]),
 (241,[]),
 (242,[(7,[(0,[]),(1,[]),(2,[]),(3,[]),(4,[]),(5,[]),(6,[]),(7,[]),(8,[]),(9,[]),(10,[]),(11,[]),(12,[]),(14,[]),(13,[14]),(15,[]),(16,[]),(17,[])])]),
 (243,[]),
 (244,[]),
 (245,[]),
 (246,[]),
 (249,[(7,[(0,[]),(1,[]),(2,[]),(4,[]),(5,[]),(3,[5]),(6,[]),(7,[])]),(16,[(0,[]),(1,[]),(2,[]),(3,[]),(5,[]),(6,[]),(7,[]),(9,[]),(10,[]),(11,[]),(4,[11,7]),(8,[11]),(12,[]),(13,[])]),(20,[(0,[]),(1,[]),(2,[]),(4,[]),(5,[]),(7,[]),(8,[]),(9,[]),(3,[9,8,5]),(6,[9,8]),(10,[]),(11,[])]),(27,[(0,[]),(1,[]),(2,[]),(4,[]),(5,[]),(7,[]),(8,[]),(10,[]),(11,[]),(3,[11,8,5]),(6,[11,8]),(9,[11]),(12,[]),(13,[])]),(31,[(0,[]),(1,[]),(2,[]),(4,[]),(5,[]),(7,[]),(8,[]),(9,[]),(11,[]),(12,[]),(13,[]),(3,[13,9,5]),(6,[13,9]),(10,[13]),(14,[]),(15,[])])]),
 (250,[]),
 (251,[]),
 (252,[]),
 (253,[]),
 (254,[]),
 (258,[]),
 (259,[]),
 (260,[]),
 (263,[]),
 (268,[]),
 (269,[]),
 (270,[]),
 (271,[]),
 (273,[]),
 (278,[]),
 (279,[]),
 (286,[]),
 (287,[]),
 (307,[]),
 (308,[]),
 (309,[]),
 (310,[]),
 (311,[]),
 (312,[]),
 (313,[]),
 (314,[])]
def bD (f:Nat):Nat→Option (List dN):=match hN f aS4 with
 | some l=>fun id=>hN id l
 | none=>fun _=>none
def bF:lB:=fun f=>match f with
 | 5=>fun r=>match r with
  | 4=>[2,5]
  | _=>[]
 | 7=>fun r=>match r with
  | 10=>[8,16]
  | _=>[]
 | 8=>fun r=>match r with
  | 10=>[9,10]
  | _=>[]
 | 9=>fun r=>match r with
  | 10=>[12,13,14]
  | _=>[]
 | 10=>fun r=>match r with
  | 6=>[6,11]
  | _=>[]
 | 11=>fun r=>match r with
  | 24=>[29,30,32]
  | 19=>[29,30,31]
  | 15=>[8,28]
  | _=>[]
 | 12=>fun r=>match r with
  | 5=>[6,7]
  | _=>[]
 | 17=>fun r=>match r with
  | 15=>[16,17]
  | 5=>[7,8,9]
  | _=>[]
 | 18=>fun r=>match r with
  | 8=>[4,9]
  | _=>[]
 | 21=>fun r=>match r with
  | 5=>[7]
  | 13=>[9]
  | 29=>[14]
  | 21=>[11]
  | 38=>[16]
  | _=>[]
 | 23=>fun r=>match r with
  | 4=>[6,7]
  | _=>[]
 | 26=>fun r=>match r with
  | 7=>[4]
  | _=>[]
 | 27=>fun r=>match r with
  | 4=>[4,5]
  | _=>[]
 | 28=>fun r=>match r with
  | 28=>[97]
  | 22=>[80]
  | 14=>[53]
  | 6=>[26]
  | _=>[]
 | 29=>fun r=>match r with
  | 28=>[3,10]
  | 22=>[3,8]
  | 15=>[3,6]
  | 10=>[3,5]
  | 5=>[3,4]
  | _=>[]
 | 30=>fun r=>match r with
  | 3=>[5,6]
  | _=>[]
 | 35=>fun r=>match r with
  | 4=>[6,14]
  | _=>[]
 | 37=>fun r=>match r with
  | 4=>[2,3]
  | _=>[]
 | 38=>fun r=>match r with
  | 30=>[2,12]
  | 23=>[2,11]
  | 9=>[2,5,6]
  | _=>[]
 | 39=>fun r=>match r with
  | 21=>[7]
  | 18=>[6]
  | 14=>[5]
  | 10=>[4]
  | 6=>[3]
  | 2=>[2]
  | _=>[]
 | 40=>fun r=>match r with
  | 11=>[6,7,8,46]
  | 7=>[6,7,8,28]
  | _=>[]
 | 41=>fun r=>match r with
  | 16=>[13]
  | 12=>[6,7,8,11]
  | 7=>[6,7,8,9]
  | _=>[]
 | 42=>fun r=>match r with
  | 3=>[2,9]
  | _=>[]
 | 43=>fun r=>match r with
  | 6=>[4,5]
  | 2=>[2,3]
  | _=>[]
 | 47=>fun r=>match r with
  | 3=>[4,5,6,7,8,9]
  | _=>[]
 | 48=>fun r=>match r with
  | 13=>[5,9]
  | _=>[]
 | 50=>fun r=>match r with
  | 9=>[6,40]
  | 3=>[6,21]
  | _=>[]
 | 51=>fun r=>match r with
  | 14=>[12]
  | 19=>[6,13]
  | 10=>[6,11]
  | 4=>[8,9]
  | _=>[]
 | 52=>fun r=>match r with
  | 3=>[3,4]
  | _=>[]
 | 53=>fun r=>match r with
  | 4=>[4,5]
  | _=>[]
 | 56=>fun r=>match r with
  | 4=>[6,7,14]
  | _=>[]
 | 57=>fun r=>match r with
  | 4=>[6,7,8]
  | _=>[]
 | 58=>fun r=>match r with
  | 4=>[4,5]
  | _=>[]
 | 61=>fun r=>match r with
  | 3=>[7,11]
  | _=>[]
 | 63=>fun r=>match r with
  | 3=>[7,11]
  | _=>[]
 | 65=>fun r=>match r with
  | 3=>[7,11]
  | _=>[]
 | 67=>fun r=>match r with
  | 3=>[7,11]
  | _=>[]
 | 69=>fun r=>match r with
  | 6=>[2,3,4]
  | _=>[]
 | 71=>fun r=>match r with
  | 17=>[2,91]
  | 2=>[2,15]
  | _=>[]
 | 76=>fun r=>match r with
  | 6=>[2,3,4]
  | _=>[]
 | 79=>fun r=>match r with
  | 24=>[16]
  | 12=>[3,8]
  | 2=>[3,4]
  | _=>[]
 | 80=>fun r=>match r with
  | 4=>[4,5]
  | _=>[]
 | 81=>fun r=>match r with
  | 4=>[4,5]
  | _=>[]
 | 82=>fun r=>match r with
  | 4=>[4,5]
  | _=>[]
 | 83=>fun r=>match r with
  | 4=>[4,5]
  | _=>[]
 | 84=>fun r=>match r with
  | 4=>[4,5]
  | _=>[]
 | 85=>fun r=>match r with
  | 4=>[2,10]
  | _=>[]
 | 86=>fun r=>match r with
  | 4=>[2,10]
  | _=>[]
 | 88=>fun r=>match r with
  | 16=>[2,58]
  | 5=>[2,14]
  | _=>[]
 | 89=>fun r=>match r with
  | 13=>[2,38]
  | 3=>[2,12]
  | _=>[]
 | 90=>fun r=>match r with
  | 3=>[2,3,4,11]
  | _=>[]
 | 91=>fun r=>match r with
  | 4=>[4,13]
  | _=>[]
 | 92=>fun r=>match r with
  | 1=>[8]
  | _=>[]
 | 96=>fun r=>match r with
  | 6=>[34]
  | _=>[]
 | 97=>fun r=>match r with
  | 3=>[5,6]
  | _=>[]
 | 102=>fun r=>match r with
  | 7=>[27]
  | _=>[]
 | 110=>fun r=>match r with
  | 40=>[17]
  | _=>[]
 | 114=>fun r=>match r with
  | 4=>[2,3]
  | _=>[]
 | 115=>fun r=>match r with
  | 4=>[2,3]
  | _=>[]
 | 116=>fun r=>match r with
  | 4=>[2,3]
  | _=>[]
 | 117=>fun r=>match r with
  | 2=>[4,5]
  | _=>[]
 | 119=>fun r=>match r with
  | 4=>[2,3]
  | _=>[]
 | 120=>fun r=>match r with
  | 22=>[4,11]
  | 15=>[4,8]
  | 4=>[6,7]
  | _=>[]
 | 121=>fun r=>match r with
  | 3=>[2,3,4,5]
  | _=>[]
 | 122=>fun r=>match r with
  | 8=>[8]
  | 5=>[4,5,6,7]
  | _=>[]
 | 125=>fun r=>match r with
  | 2=>[6]
  | _=>[]
 | 126=>fun r=>match r with
  | 6=>[4,5]
  | _=>[]
 | 130=>fun r=>match r with
  | 4=>[4,5]
  | _=>[]
 | 138=>fun r=>match r with
  | 5=>[5,6]
  | _=>[]
 | 144=>fun r=>match r with
  | 4=>[4,5]
  | _=>[]
 | 149=>fun r=>match r with
  | 3=>[7,11]
  | _=>[]
 | 152=>fun r=>match r with
  | 2=>[4,8]
  | _=>[]
 | 154=>fun r=>match r with
  | 3=>[2,3,4,16]
  | _=>[]
 | 155=>fun r=>match r with
  | 2=>[4,8]
  | _=>[]
 | 157=>fun r=>match r with
  | 3=>[2,3,4,18]
  | _=>[]
 | 158=>fun r=>match r with
  | 8=>[9]
  | 5=>[4,5,6,19]
  | _=>[]
 | 161=>fun r=>match r with
  | 3=>[5,6,7]
  | _=>[]
 | 165=>fun r=>match r with
  | 4=>[2]
  | _=>[]
 | 166=>fun r=>match r with
  | 5=>[2,3,11]
  | _=>[]
 | 167=>fun r=>match r with
  | 4=>[2,20]
  | _=>[]
 | 173=>fun r=>match r with
  | 8=>[6]
  | _=>[]
 | 175=>fun r=>match r with
  | 12=>[8]
  | _=>[]
 | 178=>fun r=>match r with
  | 8=>[4,5,7,20]
  | _=>[]
 | 184=>fun r=>match r with
  | 6=>[31]
  | _=>[]
 | 185=>fun r=>match r with
  | 2=>[4,5]
  | _=>[]
 | 186=>fun r=>match r with
  | 12=>[8]
  | _=>[]
 | 189=>fun r=>match r with
  | 7=>[7]
  | _=>[]
 | 190=>fun r=>match r with
  | 35=>[7,16]
  | 27=>[15]
  | 11=>[7,9]
  | _=>[]
 | 192=>fun r=>match r with
  | 3=>[6,7]
  | _=>[]
 | 195=>fun r=>match r with
  | 4=>[2]
  | _=>[]
 | 197=>fun r=>match r with
  | 8=>[3,11]
  | _=>[]
 | 199=>fun r=>match r with
  | 2=>[2,3]
  | _=>[]
 | 200=>fun r=>match r with
  | 5=>[3,4]
  | _=>[]
 | 205=>fun r=>match r with
  | 2=>[4,8]
  | _=>[]
 | 212=>fun r=>match r with
  | 16=>[65]
  | _=>[]
 | 215=>fun r=>match r with
  | 24=>[7]
  | _=>[]
 | 218=>fun r=>match r with
  | 3=>[4,5,12]
  | _=>[]
 | 220=>fun r=>match r with
  | 2=>[2,3]
  | _=>[]
 | 223=>fun r=>match r with
  | 3=>[5]
  | _=>[]
 | 224=>fun r=>match r with
  | 4=>[4,5]
  | _=>[]
 | 226=>fun r=>match r with
  | 3=>[3,4,16]
  | _=>[]
 | 228=>fun r=>match r with
  | 6=>[3,23]
  | _=>[]
 | 231=>fun r=>match r with
  | 2=>[4,8]
  | _=>[]
 | 238=>fun r=>match r with
  | 11=>[7,8,36]
  | _=>[]
 | 242=>fun r=>match r with
  | 5=>[8,9,10]
  | _=>[]
 | 249=>fun r=>match r with
  | 22=>[2,3,4,5]
  | _=>[]
 | 252=>fun r=>match r with
  | 4=>[18]
  | _=>[]
 | 259=>fun r=>match r with
  | 2=>[2,9]
  | _=>[]
 | 260=>fun r=>match r with
  | 4=>[4,13]
  | _=>[]
 | 269=>fun r=>match r with
  | 2=>[10]
  | _=>[]
 | 270=>fun r=>match r with
  | 3=>[3,16]
  | _=>[]
 | 273=>fun r=>match r with
  | 2=>[2,3]
  | _=>[]
 | 278=>fun r=>match r with
  | 5=>[8,9,22]
  | _=>[]
 | _=>fun _=>[]
end Go.Proofs.YtoaibmbldmckaaaGreat
end
section
namespace Go.Proofs.YtoaibmbldmckaaaGreat
open Go.RowKit Go.AM Tryz
def aPc:gV:=[
 (3,[]),
 (4,[(4,[(0,[]),(2,[]),(1,[2]),(3,[]),(4,[]),(5,[]),(6,[]),(7,[]),(8,[]),(9,[]),(10,[]),(11,[]),(12,[]),(13,[])])]),
 (5,[(10,[(0,[]),(1,[]),(2,[1]),(3,[])])]),
 (6,[(8,[(0,[]),(2,[]),(1,[2]),(3,[]),(4,[]),(5,[]),(6,[]),(7,[]),(8,[]),(9,[]),(10,[]),(11,[]),(12,[]),(13,[]),(14,[]),(15,[])])]),
 (7,[]),
 (8,[(7,[(1,[]),(2,[]),(3,[]),(4,[]),(6,[]),(7,[]),(8,[]),(9,[]),(10,[]),(0,[]),(5,[7]),(11,[]),(12,[])]),(15,[(0,[]),(1,[0]),(2,[0]),(3,[]),(4,[]),(5,[]),(6,[]),(7,[]),(8,[])])]),
 (9,[]),
 (10,[]),
 (11,[]),
 (12,[]),
 (13,[(2,[(0,[]),(2,[]),(1,[2]),(3,[]),(4,[]),(5,[]),(6,[]),(7,[]),(8,[]),(9,[]),(10,[]),(11,[]),(12,[]),(13,[]),(14,[])])]),
 (14,[]),
 (15,[(5,[(0,[]),(1,[]),(2,[0]),(3,[]),(4,[]),(5,[]),(6,[]),(7,[]),(8,[]),(9,[])]),(6,[(0,[]),(1,[]),(2,[0]),(3,[]),(4,[]),(5,[]),(6,[]),(7,[]),(8,[]),(9,[])])]),
 (16,[(3,[(0,[]),(2,[]),(1,[2]),(3,[]),(4,[]),(5,[])]),(4,[(0,[]),(1,[]),(2,[]),(3,[]),(4,[]),(5,[]),(6,[]),(7,[]),(8,[]),(9,[]),(10,[]),(12,[]),(13,[]),(11,[13,12]),(14,[]),(15,[]),(16,[]),(17,[]),(18,[]),(19,[]),(20,[])])]),
 (17,[(32,[(0,[]),(1,[]),(2,[]),(3,[]),(4,[]),(5,[]),(6,[]),(7,[]),(8,[]),(9,[]),(10,[]),(11,[]),(12,[]),(13,[]),(14,[]),(15,[]),(16,[]),(17,[]),(18,[]),(19,[]),(20,[]),(21,[]),(22,[]),(23,[]),(24,[]),(25,[]),(26,[]),(27,[]),(28,[25,23]),(29,[]),(30,[]),(31,[25,23]),(32,[]),(33,[]),(34,[25]),(35,[]),(36,[]),(37,[])])]),
 (18,[])]
theorem aMw:gH prog aPc=true:=by kernel_rfl
def aPd:gV:=[
 (19,[]),
 (20,[]),
 (21,[]),
 (22,[]),
 (23,[]),
 (24,[]),
 (25,[(6,[(0,[]),(1,[]),(2,[]),(3,[]),(4,[]),(5,[]),(6,[]),(7,[]),(8,[]),(9,[8]),(10,[]),(11,[]),(12,[]),(13,[]),(14,[]),(15,[]),(16,[]),(17,[]),(18,[]),(19,[]),(20,[]),(21,[]),(22,[]),(23,[]),(24,[])])]),
 (26,[]),
 (27,[]),
 (28,[]),
 (29,[(7,[(0,[]),(1,[]),(2,[]),(3,[]),(4,[]),(5,[]),(6,[]),(8,[]),(9,[]),(10,[]),(11,[]),(12,[]),(13,[]),(15,[]),(16,[]),(17,[]),(18,[]),(19,[]),(20,[]),(7,[20,16,13,9]),(14,[20,16]),(21,[]),(22,[])]),(12,[(0,[]),(1,[]),(2,[]),(3,[]),(4,[]),(5,[]),(6,[]),(8,[]),(9,[]),(10,[]),(11,[]),(12,[]),(13,[]),(15,[]),(16,[]),(17,[]),(18,[]),(19,[]),(20,[]),(7,[20,16,13,9]),(14,[20,16]),(21,[]),(22,[])]),(18,[(0,[]),(1,[]),(2,[]),(3,[]),(5,[]),(6,[]),(4,[6]),(7,[]),(8,[])]),(19,[(0,[]),(1,[]),(2,[]),(3,[]),(5,[]),(6,[]),(7,[]),(4,[7]),(8,[]),(9,[])]),(25,[(0,[]),(1,[]),(2,[]),(4,[]),(5,[]),(7,[]),(8,[]),(3,[8,5]),(6,[8]),(9,[]),(10,[])]),(30,[(0,[]),(1,[]),(2,[]),(3,[]),(4,[]),(5,[]),(6,[]),(8,[]),(9,[]),(10,[]),(11,[]),(12,[]),(13,[]),(15,[]),(16,[]),(17,[]),(18,[]),(19,[]),(20,[]),(7,[20,16,13,9]),(14,[20,16]),(21,[]),(22,[])])]),
 (30,[]),
 (31,[]),
 (32,[]),
 (33,[(3,[(0,[]),(1,[0]),(2,[]),(3,[])]),(5,[(0,[]),(1,[0]),(2,[]),(3,[])]),(10,[(0,[]),(1,[]),(2,[0]),(3,[]),(4,[])]),(12,[(0,[]),(1,[]),(2,[1]),(3,[])]),(17,[(0,[]),(1,[]),(2,[1]),(3,[])])]),
 (34,[(9,[(1,[]),(2,[]),(4,[]),(5,[]),(6,[]),(0,[]),(3,[5]),(7,[]),(8,[]),(9,[]),(10,[])]),(11,[(0,[]),(1,[]),(2,[]),(3,[]),(4,[]),(5,[2]),(6,[])]),(16,[(0,[]),(1,[]),(2,[1]),(3,[])]),(21,[(0,[]),(1,[]),(2,[1]),(3,[])])])]
theorem aMx:gH prog aPd=true:=by kernel_rfl
def aPe:gV:=[
 (35,[]),
 (36,[]),
 (37,[]),
 (38,[]),
 (39,[]),
 (40,[]),
 (41,[(10,[(0,[]),(1,[]),(3,[]),(2,[3]),(4,[]),(5,[]),(6,[]),(7,[]),(8,[]),(10,[]),(9,[10]),(11,[]),(12,[]),(13,[])]),(19,[(1,[]),(2,[]),(3,[]),(5,[]),(6,[]),(7,[]),(8,[]),(9,[]),(12,[]),(13,[]),(14,[]),(0,[]),(4,[8,6]),(10,[]),(11,[]),(15,[]),(16,[])])]),
 (42,[]),
 (43,[]),
 (44,[(3,[(0,[]),(1,[0]),(2,[0]),(3,[]),(4,[]),(5,[]),(6,[]),(7,[]),(8,[])]),(4,[(0,[]),(1,[0]),(2,[0]),(3,[]),(4,[]),(5,[]),(6,[]),(7,[]),(8,[])])]),
 (45,[]),
 (46,[]),
 (47,[]),
 (48,[]),
 (49,[]),
 (50,[])]
theorem aMy:gH prog aPe=true:=by kernel_rfl
def aPf:gV:=[
 (51,[]),
 (52,[]),
 (53,[]),
 (54,[(7,[(0,[]),(1,[]),(3,[]),(4,[]),(6,[]),(2,[4]),(5,[]),(7,[]),(8,[]),(9,[]),(10,[])])]),
 (55,[]),
 (56,[]),
 (57,[]),
 (58,[]),
 (59,[]),
 (60,[]),
 (61,[]),
 (62,[]),
 (63,[]),
 (64,[]),
 (65,[]),
 (66,[])]
theorem aMz:gH prog aPf=true:=by kernel_rfl
def aPg:gV:=[
 (67,[]),
 (68,[]),
 (69,[]),
 (70,[]),
 (71,[]),
 (72,[]),
 (73,[]),
 (74,[]),
 (75,[]),
 (76,[]),
 (77,[]),
 (78,[]),
 (79,[]),
 (80,[]),
 (81,[]),
 (82,[])]
theorem aN0:gH prog aPg=true:=by kernel_rfl
def aPh:gV:=[
 (83,[]),
 (84,[]),
 (85,[]),
 (86,[]),
 (87,[]),
 (88,[]),
 (89,[]),
 (90,[]),
 (91,[]),
 (92,[]),
 (93,[]),
 (94,[]),
 (95,[]),
 (96,[]),
 (97,[]),
 (98,[(1,[(0,[]),(1,[]),(2,[]),(4,[]),(5,[]),(7,[]),(8,[]),(3,[8,5]),(6,[8]),(9,[]),(10,[])])])]
theorem aN1:gH prog aPh=true:=by kernel_rfl
def aPi:gV:=[
 (99,[]),
 (100,[]),
 (101,[(1,[(0,[]),(1,[]),(2,[]),(4,[]),(5,[]),(7,[]),(8,[]),(3,[8,5]),(6,[8]),(9,[]),(10,[])])]),
 (102,[(9,[(0,[]),(1,[]),(2,[]),(3,[]),(4,[]),(5,[]),(6,[]),(7,[]),(8,[]),(9,[]),(10,[1]),(11,[]),(12,[]),(13,[]),(14,[])])]),
 (103,[]),
 (104,[(2,[(0,[]),(1,[0]),(2,[]),(3,[])]),(5,[(0,[]),(1,[]),(2,[0]),(3,[]),(4,[])]),(9,[(0,[]),(1,[]),(2,[1]),(3,[])])]),
 (105,[]),
 (106,[]),
 (107,[(8,[(0,[]),(1,[]),(2,[]),(3,[]),(4,[]),(5,[]),(6,[]),(7,[]),(8,[5]),(9,[]),(10,[]),(11,[])])]),
 (108,[(5,[(0,[]),(1,[]),(2,[]),(3,[]),(4,[]),(5,[3]),(6,[]),(7,[])]),(12,[(0,[]),(1,[]),(2,[]),(3,[]),(4,[]),(5,[3]),(6,[]),(7,[])]),(15,[(0,[]),(1,[]),(2,[]),(3,[]),(4,[]),(5,[]),(6,[]),(7,[5,3]),(8,[]),(9,[5]),(10,[]),(11,[])])]),
 (109,[]),
 (110,[(33,[(1,[]),(2,[]),(3,[]),(4,[]),(6,[]),(7,[]),(8,[]),(9,[]),(10,[]),(0,[]),(5,[7]),(11,[]),(12,[]),(13,[])]),(44,[(0,[]),(1,[]),(2,[1]),(3,[])])]),
 (111,[(4,[(0,[]),(1,[]),(2,[]),(3,[]),(4,[]),(5,[]),(6,[]),(7,[]),(8,[5]),(9,[]),(10,[]),(11,[])])]),
 (112,[]),
 (113,[]),
 (114,[])]
theorem aN2:gH prog aPi=true:=by kernel_rfl
def aPj:gV:=[
 (115,[]),
 (116,[]),
 (117,[]),
 (118,[(1,[(0,[]),(1,[]),(2,[]),(3,[]),(4,[]),(5,[]),(6,[]),(7,[]),(8,[]),(9,[]),(10,[]),(11,[]),(12,[]),(13,[]),(14,[]),(15,[]),(16,[]),(17,[]),(18,[]),(19,[]),(20,[15]),(21,[]),(22,[]),(23,[])])]),
 (119,[]),
 (120,[(19,[(0,[]),(1,[]),(2,[]),(3,[]),(4,[]),(5,[]),(6,[]),(7,[]),(8,[]),(9,[]),(10,[]),(11,[]),(12,[]),(13,[]),(15,[]),(16,[]),(17,[]),(18,[]),(19,[]),(14,[19]),(20,[]),(21,[]),(22,[]),(23,[]),(24,[]),(25,[]),(26,[]),(27,[]),(28,[]),(29,[]),(30,[]),(31,[]),(32,[]),(33,[]),(34,[]),(35,[]),(36,[]),(37,[]),(38,[]),(39,[]),(40,[]),(41,[]),(42,[]),(43,[]),(44,[]),(45,[]),(46,[]),(47,[]),(48,[])])]),
 (121,[]),
 (122,[(11,[(1,[]),(2,[]),(3,[]),(5,[]),(6,[]),(7,[]),(8,[]),(9,[]),(10,[]),(13,[]),(14,[]),(15,[]),(0,[]),(4,[9]),(11,[]),(12,[]),(16,[]),(17,[])])]),
 (123,[(1,[(0,[]),(1,[]),(2,[]),(3,[]),(4,[]),(5,[]),(6,[]),(7,[]),(8,[]),(9,[]),(10,[]),(11,[]),(12,[]),(13,[]),(14,[]),(15,[]),(16,[]),(17,[]),(18,[]),(19,[]),(20,[]),(21,[]),(22,[]),(23,[]),(24,[]),(25,[]),(26,[]),(27,[]),(28,[]),(29,[]),(30,[25]),(31,[]),(32,[]),(33,[])])]),
 (124,[(1,[(0,[]),(1,[]),(2,[]),(3,[]),(4,[]),(5,[]),(6,[]),(7,[]),(9,[]),(8,[9]),(10,[]),(11,[]),(12,[]),(13,[])])]),
 (125,[]),
 (126,[]),
 (127,[]),
 (128,[]),
 (129,[]),
 (130,[])]
theorem aN3:gH prog aPj=true:=by kernel_rfl
def aPk:gV:=[
 (131,[]),
 (132,[]),
 (133,[]),
 (134,[]),
 (135,[]),
 (136,[]),
 (137,[]),
 (138,[]),
 (139,[]),
 (140,[]),
 (141,[]),
 (142,[(5,[(0,[]),(1,[]),(2,[]),(3,[]),(4,[]),(5,[3]),(6,[]),(7,[])]),(14,[(0,[]),(1,[]),(2,[]),(3,[]),(4,[]),(5,[]),(6,[]),(7,[]),(8,[]),(10,[]),(9,[5,2]),(11,[5]),(12,[]),(13,[]),(14,[]),(15,[])]),(17,[(0,[]),(1,[]),(2,[]),(3,[]),(4,[]),(5,[]),(6,[]),(7,[5,3]),(8,[]),(9,[5]),(10,[]),(11,[])]),(24,[(0,[]),(1,[]),(2,[]),(3,[]),(4,[2]),(5,[])])]),
 (143,[(5,[(0,[]),(1,[]),(2,[]),(3,[]),(4,[]),(5,[4]),(6,[])])]),
 (144,[]),
 (145,[]),
 (146,[])]
theorem aN4:gH prog aPk=true:=by kernel_rfl
def aPl:gV:=[
 (147,[]),
 (148,[]),
 (149,[]),
 (150,[]),
 (151,[]),
 (152,[]),
 (153,[]),
 (154,[(10,[(0,[]),(1,[]),(2,[]),(3,[]),(4,[]),(7,[]),(8,[]),(9,[]),(10,[]),(11,[]),(5,[]),(6,[11]),(12,[]),(13,[]),(14,[]),(15,[])])]),
 (155,[]),
 (156,[]),
 (157,[]),
 (158,[]),
 (159,[]),
 (160,[]),
 (161,[(5,[(0,[]),(1,[]),(2,[]),(3,[]),(4,[]),(5,[]),(8,[]),(9,[]),(10,[]),(11,[]),(12,[]),(13,[]),(6,[]),(7,[13]),(14,[]),(15,[]),(16,[]),(17,[])])]),
 (162,[])]
theorem aN5:gH prog aPl=true:=by kernel_rfl
def aL7:gV:=[
 (163,[]),
 (164,[]),
 (165,[]),
 (166,[]),
 (167,[]),
 (168,[]),
 (169,[]),
 (170,[]),
 (171,[]),
 (172,[]),
 (173,[]),
 (174,[]),
 (175,[]),
 (176,[]),
 (177,[]),
 (178,[(17,[(0,[]),(2,[]),(3,[]),(1,[3]),(4,[]),(5,[]),(6,[]),(7,[])])])]
theorem aJb:gH prog aL7=true:=by kernel_rfl
def aL8:gV:=[
 (179,[]),
 (180,[]),
 (181,[]),
 (182,[]),
 (183,[]),
 (184,[]),
 (185,[]),
 (186,[(14,[(1,[]),(2,[]),(3,[]),(5,[]),(6,[]),(7,[]),(10,[]),(11,[]),(12,[]),(0,[]),(4,[]),(8,[]),(9,[]),(13,[]),(14,[]),(15,[])])]),
 (187,[]),
 (188,[]),
 (189,[(13,[(1,[]),(2,[]),(3,[]),(5,[]),(8,[]),(9,[]),(10,[]),(0,[]),(4,[5]),(6,[]),(7,[]),(11,[]),(12,[]),(13,[])])]),
 (190,[(30,[(1,[]),(2,[]),(3,[]),(4,[]),(6,[]),(7,[]),(8,[]),(9,[]),(12,[]),(13,[]),(14,[]),(15,[]),(0,[]),(5,[13,7]),(10,[]),(11,[13]),(16,[]),(17,[]),(18,[])]),(31,[(0,[]),(1,[]),(2,[]),(3,[]),(4,[]),(5,[]),(6,[]),(7,[]),(8,[]),(9,[]),(10,[1]),(11,[]),(12,[]),(13,[]),(14,[]),(15,[]),(16,[]),(17,[])])]),
 (191,[(13,[(1,[]),(2,[]),(4,[]),(5,[]),(6,[]),(7,[]),(8,[]),(9,[]),(10,[]),(11,[]),(12,[]),(13,[]),(0,[]),(3,[12,10,9,5]),(14,[]),(15,[]),(16,[]),(17,[])]),(14,[(0,[]),(1,[]),(2,[]),(3,[]),(4,[]),(5,[3]),(6,[])])]),
 (192,[(12,[(0,[]),(1,[]),(2,[]),(3,[]),(4,[]),(5,[]),(6,[]),(8,[]),(9,[]),(7,[9]),(10,[]),(11,[]),(12,[])]),(22,[(0,[]),(1,[]),(2,[1]),(3,[])])]),
 (193,[]),
 (194,[(3,[(0,[]),(1,[]),(3,[]),(4,[]),(2,[4]),(5,[]),(6,[]),(7,[])])])]
theorem aJc:gH prog aL8=true:=by kernel_rfl
def aL9:gV:=[
 (195,[]),
 (196,[]),
 (197,[]),
 (198,[]),
 (199,[]),
 (200,[]),
 (201,[]),
 (203,[]),
 (204,[]),
 (205,[]),
 (206,[]),
 (207,[(4,[(0,[]),(1,[]),(3,[]),(4,[]),(6,[]),(2,[4]),(5,[]),(7,[]),(8,[]),(9,[]),(10,[])])]),
 (208,[(9,[(0,[]),(1,[]),(2,[]),(3,[]),(4,[]),(5,[]),(6,[3,1]),(7,[]),(8,[]),(9,[]),(10,[])])]),
 (209,[]),
 (210,[]),
 (211,[])]
theorem aJd:gH prog aL9=true:=by kernel_rfl
def aLa:gV:=[
 (212,[]),
 (213,[]),
 (214,[]),
 (215,[(6,[(0,[]),(1,[]),(2,[]),(3,[]),(4,[]),(5,[4]),(6,[])])]),
 (216,[]),
 (217,[]),
 (218,[]),
 (219,[]),
 (220,[]),
 (222,[]),
 (223,[(7,[(0,[]),(1,[]),(2,[]),(3,[]),(4,[1]),(5,[]),(6,[]),(7,[])])]),
 (224,[]),
 (225,[]),
 (226,[(5,[(0,[]),(1,[]),(2,[]),(5,[]),(6,[]),(7,[]),(3,[]),(4,[7]),(8,[]),(9,[]),(10,[]),(11,[])])]),
 (227,[]),
 (228,[])]
theorem aJe:gH prog aLa=true:=by kernel_rfl
def aLb:gV:=[
 (229,[]),
 (231,[]),
 (232,[]),
 (233,[]),
 (235,[]),
 (236,[]),
 (238,[]),
 (239,[]),
 (241,[]),
 (242,[(7,[(0,[]),(1,[]),(2,[]),(3,[]),(4,[]),(5,[]),(6,[]),(7,[]),(8,[]),(9,[]),(10,[]),(11,[]),(12,[]),(14,[]),(13,[14]),(15,[]),(16,[]),(17,[])])]),
 (243,[]),
 (244,[]),
 (245,[]),
 (246,[]),
 (249,[(7,[(0,[]),(1,[]),(2,[]),(4,[]),(5,[]),(3,[5]),(6,[]),(7,[])]),(16,[(0,[]),(1,[]),(2,[]),(3,[]),(5,[]),(6,[]),(7,[]),(9,[]),(10,[]),(11,[]),(4,[11,7]),(8,[11]),(12,[]),(13,[])]),(20,[(0,[]),(1,[]),(2,[]),(4,[]),(5,[]),(7,[]),(8,[]),(9,[]),(3,[9,8,5]),(6,[9,8]),(10,[]),(11,[])]),(27,[(0,[]),(1,[]),(2,[]),(4,[]),(5,[]),(7,[]),(8,[]),(10,[]),(11,[]),(3,[11,8,5]),(6,[11,8]),(9,[11]),(12,[]),(13,[])]),(31,[(0,[]),(1,[]),(2,[]),(4,[]),(5,[]),(7,[]),(8,[]),(9,[]),(11,[]),(12,[]),(13,[]),(3,[13,9,5]),(6,[13,9]),(10,[13]),(14,[]),(15,[])])]),
 (250,[])]
theorem aJf:gH prog aLb=true:=by kernel_rfl
def aLc:gV:=[
 (251,[]),
 (252,[]),
 (253,[]),
 (254,[]),
 (258,[]),
 (259,[]),
 (260,[]),
 (263,[]),
 (268,[]),
 (269,[]),
 (270,[]),
 (271,[]),
 (273,[]),
 (278,[]),
 (279,[]),
 (286,[])]
theorem aJg:gH prog aLc=true:=by kernel_rfl
def aLd:gV:=[
 (287,[]),
 (307,[]),
 (308,[]),
 (309,[]),
 (310,[]),
 (311,[]),
 (312,[]),
 (313,[]),
 (314,[])]
theorem aJh:gH prog aLd=true:=by kernel_rfl
end Go.Proofs.YtoaibmbldmckaaaGreat
end
section
namespace Go.Proofs.YtoaibmbldmckaaaGreat
open Go.AM Tryz
noncomputable def aLe (C:aC) (K:KW) (p5 p7 p8:V) (vs:List V) (S:St) (again0:List V→St→Prop)  :Prop:=
eC vs fun x9 vs=>
eC vs fun x10 vs=>
wR (bG prog 26 p8 S) fun t38=>
wR (aH prog .lss 3 x10 t38) fun t39=>
aE t39 (aE x9 (wR (aD prog 26 p8 x10) fun t40=>
wR (aA prog 84 t40 0) fun t41=>
wR (aA prog 57 t41 0) fun t42=>
wR (aB prog 9 t42 (⟨S.next+18,S.heap⟩:St)) fun t43=>
wR (aA prog 30 p5 2) fun t44=>
wR (aB prog 26 t44 (⟨S.next+18,S.heap⟩:St)) fun t45=>
wR (aD prog 26 t45 p7) fun t46=>
wR (aA prog 84 t46 0) fun t47=>
wR (aA prog 57 t47 0) fun t48=>
wR (aB prog 9 t48 (⟨S.next+18,S.heap⟩:St)) fun t49=>
bS (aL prog 9 t43 t49) (wR (aH prog .neq 9 t43 t49) fun t50=>
wR (aH prog .add 3 x10 (.int .i64 1)) fun t51=>
again0 [t50,t51] (⟨S.next+18,S.heap⟩:St))) (wR (aH prog .add 3 x10 (.int .i64 1)) fun t52=>
again0 [(.bool false),t52] (⟨S.next+18,S.heap⟩:St))) (wR (aB prog 30 p5 S) fun t53=>
C 26 [t53] S fun t54 S55=>
wR (aJ none S55 (.row 0 6 [[.nils,.nils,.nils,.nils,.nils,.int .i64 0]])) fun r56=>
wR (aG prog 30 (.ptr r56.1 0 0 0) t54 r56.2) fun S57=>
wR (aA prog 30 (.ptr r56.1 0 0 0) 2) fun t58=>
wR (aG prog 26 t58 p8 S57) fun S59=>
wR (aB prog 30 (.ptr r56.1 0 0 0) (⟨S59.next+9,S59.heap⟩:St)) fun t60=>
C 46 [(.int .i64 1)] (⟨S59.next+9,S59.heap⟩:St) fun t61 S62=>
wR (aB prog 30 (.ptr r56.1 0 0 0) S62) fun t63=>
bS (dI t60 t63) (C 46 [(.int .i64 2)] S62 fun t64 S65=>
wR (aB prog 30 (.ptr r56.1 0 0 0) S65) fun t66=>
bS (dI t60 t66) (C 40 [t60,t61,t64] S65 fun t67 S68=>
bI t67 0 fun t69=>
bI t67 1 fun t70=>
C 42 [p8] S68 fun t71 S72=>
bS (aL prog 3 t71 (.int .i64 (-1))) (wR (aH prog .eql 3 t71 (.int .i64 (-1))) fun t73=>
bS (aL prog 4 t73 x9) (wR (aH prog .eql 4 t73 x9) fun t74=>
aE t74 (bS (aL prog 31 t70 (.int .i64 1)) (wR (aH prog .eql 31 t70 (.int .i64 1)) fun t75=>
aE t75 (C 44 [] S72 fun t76 S77=>
K t76 S77) (K (.bool false) S72))) (K (.bool false) S72))))))
noncomputable def m8 (C:aC) (a0 a1:V) (S:St) (K:KW):Prop:=
C 31 [] S fun t0 S1=>
C 30 [a0,(.int .i64 60)] S1 fun t2 S3=>
C 35 [t0,t2] S3 fun t4 S5=>
bI t4 0 fun t6=>
bI t4 1 fun t7=>
wR (aJ none S5 (.row 0 6 [[.nils,.nils,.nils,.nils,.nils,.int .i64 0]])) fun r8=>
wR (aG prog 30 (.ptr r8.1 0 0 0) t6 r8.2) fun S9=>
wR (aA prog 30 (.ptr r8.1 0 0 0) 2) fun t10=>
wR (aB prog 26 t10 S9) fun t11=>
C 42 [t11] S9 fun t12 S13=>
bS (aL prog 3 t12 (.int .i64 (-1))) (wR (aH prog .neq 3 t12 (.int .i64 (-1))) fun t14=>
aE t14 (K (.bool false) S13) (wR (aA prog 30 (.ptr r8.1 0 0 0) 2) fun t15=>
wR (aB prog 26 t15 S13) fun t16=>
wR (bG prog 26 t16 S13) fun t17=>
bS (aL prog 3 t17 (.int .i64 0)) (wR (aH prog .eql 3 t17 (.int .i64 0)) fun t18=>
aE t18 (C 44 [] S13 fun t19 S20=>
K t19 S20) (wR (aA prog 30 (.ptr r8.1 0 0 0) 2) fun t21=>
wR (aB prog 26 t21 S13) fun t22=>
wR (bG prog 26 t22 S13) fun t23=>
wR (aH prog .sub 3 t23 (.int .i64 1)) fun t24=>
C 45 [a1,(.int .i64 0),t24] S13 fun t25 S26=>
wR (aA prog 30 (.ptr r8.1 0 0 0) 2) fun t27=>
wR (aB prog 26 t27 (⟨S26.next+13,S26.heap⟩:St)) fun t28=>
wR (cC prog 26 t28 none (some t25)) fun t29=>
wR (aA prog 30 (.ptr r8.1 0 0 0) 2) fun t30=>
wR (aB prog 26 t30 (⟨S26.next+13,S26.heap⟩:St)) fun t31=>
wR (aH prog .add 3 t25 (.int .i64 1)) fun t32=>
wR (cC prog 26 t31 (some t32) none) fun t33=>
wR (aK prog 26 0 [] (some (S26.next+0)) (⟨S26.next+13,S26.heap⟩:St)) fun r34=>
wR (aV prog 26 r34.1 t29 (some (S26.next+5)) r34.2) fun r35=>
wR (aB prog 26 t30 r35.2) fun t36=>
bS (dI t31 t36) (wR (aV prog 26 r35.1 t33 (some (S26.next+11)) r35.2) fun r37=>
cR [(.bool true),t25] r37.2 (aLe C K (.ptr r8.1 0 0 0) t25 r37.1))))))
theorem bBz:(fun (C:aC) (a0 a1:V) (S:St) (K:KW)=>aN prog C (bD 8) (bF 8) 8 [a0,a1] S K)=fun C a0 a1 S K=>m8 C a0 a1 S K:=by kernel_rfl
noncomputable def m24 (C:aC) (a0:V) (S:St) (K:KW):Prop:=
bS (aM (a0:V).cells) (wR (aJ none S (.row 0 (a0:V).cells.length [(a0:V).cells])) fun r0=>
wR (aA prog 30 (.ptr r0.1 0 0 0) 0) fun t1=>
wR (aB prog 24 t1 r0.2) fun t2=>
C 85 [t2] r0.2 fun t3 S4=>
wR (jE .not t3) fun t5=>
aE t5 (K (.bool false) S4) (wR (aA prog 30 (.ptr r0.1 0 0 0) 1) fun t6=>
wR (aB prog 25 t6 S4) fun t7=>
C 86 [t7] S4 fun t8 S9=>
wR (jE .not t8) fun t10=>
aE t10 (K (.bool false) S9) (wR (aB prog 30 (.ptr r0.1 0 0 0) S9) fun t11=>
C 87 [t11] S9 fun t12 S13=>
wR (jE .not t12) fun t14=>
aE t14 (K (.bool false) S13) (wR (aA prog 30 (.ptr r0.1 0 0 0) 2) fun t15=>
wR (aB prog 26 t15 S13) fun t16=>
C 88 [t16] S13 fun t17 S18=>
wR (jE .not t17) fun t19=>
aE t19 (K (.bool false) S18) (wR (aB prog 30 (.ptr r0.1 0 0 0) S18) fun t20=>
C 89 [t20] S18 fun t21 S22=>
wR (jE .not t21) fun t23=>
aE t23 (K (.bool false) S22) (wR (aA prog 30 (.ptr r0.1 0 0 0) 2) fun t24=>
wR (aB prog 26 t24 S22) fun t25=>
C 90 [t25] S22 fun t26 S27=>
bI t26 0 fun t28=>
bI t26 1 fun t29=>
bS (aL prog 31 t29 (.int .i64 0)) (wR (aH prog .eql 31 t29 (.int .i64 0)) fun t30=>
aE t30 (wR (aA prog 30 (.ptr r0.1 0 0 0) 3) fun t31=>
wR (aB prog 27 t31 S27) fun t32=>
C 91 [t28,t32] S27 fun t33 S34=>
K t33 S34) (K (.bool false) S27))))))))
theorem aYg:(fun (C:aC) (a0:V) (S:St) (K:KW)=>aN prog C (bD 24) (bF 24) 24 [a0] S K)=fun C a0 S K=>m24 C a0 S K:=by kernel_rfl
noncomputable def aJi (C:aC) (K:KW) (p1 p2 p3:V) (vs:List V) (S:St) (again0:List V→St→Prop)  :Prop:=
eC vs fun x4 vs=>
wR (aA prog 30 p1 2) fun t35=>
wR (aB prog 26 t35 S) fun t36=>
wR (bG prog 26 t36 S) fun t37=>
wR (aH prog .lss 3 x4 t37) fun t38=>
aE t38 (wR (aA prog 30 p1 2) fun t39=>
wR (aB prog 26 t39 S) fun t40=>
wR (aD prog 26 t40 x4) fun t41=>
wR (aB prog 84 t41 S) fun t42=>
wR (aJ none S (.row 0 12 [[.str [],.int .i64 0,.int .i64 0,.int .i64 0,.int .i64 0,.int .i64 0,.int .i64 0,.int .i64 0,.nils,.str [],.int .i64 0,.bool false]])) fun r43=>
wR (aG prog 84 (.ptr r43.1 0 0 0) t42 r43.2) fun S44=>
wR (aK prog 80 0 [] none S44) fun r45=>
wR (aA prog 30 p1 2) fun t46=>
wR (aB prog 26 t46 r45.2) fun t47=>
wR (aD prog 26 t47 x4) fun t48=>
wR (aA prog 84 t48 2) fun t49=>
wR (aA prog 82 t49 3) fun t50=>
wR (aB prog 80 t50 r45.2) fun t51=>
wR (aV prog 80 r45.1 t51 none r45.2) fun r52=>
wR (aA prog 84 (.ptr r43.1 0 0 0) 2) fun t53=>
wR (aA prog 82 t53 3) fun t54=>
wR (aG prog 80 t54 r52.1 r52.2) fun S55=>
wR (aA prog 30 p3 2) fun t56=>
wR (aB prog 26 t56 S55) fun t57=>
wR (aB prog 84 (.ptr r43.1 0 0 0) S55) fun t58=>
wR (aK prog 26 1 [(0,t58)] none S55) fun r59=>
wR (aV prog 26 t57 r59.1 none r59.2) fun r60=>
wR (aA prog 30 p3 2) fun t61=>
wR (aG prog 26 t61 r60.1 r60.2) fun S62=>
wR (aH prog .add 3 x4 (.int .i64 1)) fun t63=>
again0 [t63] S62) (wR (aB prog 30 p3 S) fun t64=>
wR (aG prog 30 p2 t64 S) fun S65=>
wR (aB prog 30 p2 S65) fun t66=>
K t66 S65)
noncomputable def m26 (C:aC) (a0:V) (S:St) (K:KW):Prop:=
bS (aM (a0:V).cells) (wR (aJ none S (.row 0 (a0:V).cells.length [(a0:V).cells])) fun r0=>
wR (aJ none r0.2 (.row 0 6 [[.nils,.nils,.nils,.nils,.nils,.int .i64 0]])) fun r1=>
wR (aA prog 30 (.ptr r0.1 0 0 0) 5) fun t2=>
wR (aB prog 3 t2 r1.2) fun t3=>
wR (aR prog 30 [(5,t3)]) fun t4=>
wR (aJ none r1.2 (.row 0 6 [[.nils,.nils,.nils,.nils,.nils,.int .i64 0]])) fun r5=>
wR (aG prog 30 (.ptr r5.1 0 0 0) t4 r5.2) fun S6=>
wR (aA prog 30 (.ptr r5.1 0 0 0) 0) fun t7=>
wR (aB prog 24 t7 S6) fun t8=>
wR (aA prog 30 (.ptr r0.1 0 0 0) 0) fun t9=>
wR (aB prog 24 t9 S6) fun t10=>
wR (aV prog 24 t8 t10 none S6) fun r11=>
wR (aA prog 30 (.ptr r5.1 0 0 0) 0) fun t12=>
wR (aG prog 24 t12 r11.1 r11.2) fun S13=>
wR (aA prog 30 (.ptr r5.1 0 0 0) 1) fun t14=>
wR (aB prog 25 t14 S13) fun t15=>
wR (aA prog 30 (.ptr r0.1 0 0 0) 1) fun t16=>
wR (aB prog 25 t16 S13) fun t17=>
wR (aV prog 25 t15 t17 none S13) fun r18=>
wR (aA prog 30 (.ptr r5.1 0 0 0) 1) fun t19=>
wR (aG prog 25 t19 r18.1 r18.2) fun S20=>
wR (aA prog 30 (.ptr r5.1 0 0 0) 3) fun t21=>
wR (aB prog 27 t21 S20) fun t22=>
wR (aA prog 30 (.ptr r0.1 0 0 0) 3) fun t23=>
wR (aB prog 27 t23 S20) fun t24=>
wR (aV prog 27 t22 t24 none S20) fun r25=>
wR (aA prog 30 (.ptr r5.1 0 0 0) 3) fun t26=>
wR (aG prog 27 t26 r25.1 r25.2) fun S27=>
wR (aA prog 30 (.ptr r5.1 0 0 0) 4) fun t28=>
wR (aB prog 28 t28 S27) fun t29=>
wR (aA prog 30 (.ptr r0.1 0 0 0) 4) fun t30=>
wR (aB prog 28 t30 S27) fun t31=>
wR (aV prog 28 t29 t31 none S27) fun r32=>
wR (aA prog 30 (.ptr r5.1 0 0 0) 4) fun t33=>
wR (aG prog 28 t33 r32.1 r32.2) fun S34=>
cR [(.int .i64 0)] S34 (aJi C K (.ptr r0.1 0 0 0) (.ptr r1.1 0 0 0) (.ptr r5.1 0 0 0)))
theorem aYh:(fun (C:aC) (a0:V) (S:St) (K:KW)=>aN prog C (bD 26) (bF 26) 26 [a0] S K)=fun C a0 S K=>m26 C a0 S K:=by kernel_rfl
noncomputable def aEy (C:aC) (K:KW) (again0:List V→St→Prop) (p0 p1 p5 p6 p7:V) (S:St)  :Prop:=
wR (aB prog 61 p7 S) fun t7=>
wR (aK prog 44 1 [(0,t7)] none S) fun r8=>
wR (aV prog 44 p5 r8.1 none r8.2) fun r9=>
wR (aH prog .add 3 p6 (.int .i64 1)) fun t10=>
again0 [r9.1,t10] r9.2
noncomputable def aEz (C:aC) (K:KW) (p0 p1:V) (vs:List V) (S:St) (again0:List V→St→Prop)  :Prop:=
eC vs fun x5 vs=>
eC vs fun x6 vs=>
wR (bG prog 44 p0 S) fun t0=>
wR (aH prog .lss 3 x6 t0) fun t1=>
aE t1 (wR (aH prog .lss 3 x6 p1) fun t2=>
aE t2 (wR (aD prog 44 p0 x6) fun t3=>
wR (aB prog 61 t3 S) fun t4=>
wR (aJ none S (.row 0 17 [[.int .i64 0,.int .i64 0,.int .i64 0,.str [],.int .i64 0,.str [],.int .i64 0,.int .i64 0,.int .i64 0,.int .i64 0,.int .i64 0,.int .i64 0,.int .i64 0,.nils,.str [],.int .i64 0,.int .i64 0]])) fun r5=>
wR (aG prog 61 (.ptr r5.1 0 0 0) t4 r5.2) fun S6=>
wR (aA prog 61 (.ptr r5.1 0 0 0) 2) fun t11=>
wR (aA prog 59 t11 5) fun t12=>
wR (aB prog 55 t12 S6) fun t13=>
wR (bG prog 55 t13 S6) fun t14=>
wR (aH prog .gtr 3 t14 (.int .i64 15)) fun t15=>
aE t15 (wR (aA prog 61 (.ptr r5.1 0 0 0) 2) fun t16=>
wR (aA prog 59 t16 5) fun t17=>
wR (aB prog 55 t17 S6) fun t18=>
wR (cC prog 55 t18 none (some (.int .i64 15))) fun t19=>
wR (aA prog 61 (.ptr r5.1 0 0 0) 2) fun t20=>
wR (aA prog 59 t20 5) fun t21=>
wR (aG prog 55 t21 t19 S6) fun S22=>
aEy C K again0 p0 p1 x5 x6 (.ptr r5.1 0 0 0) S22) (aEy C K again0 p0 p1 x5 x6 (.ptr r5.1 0 0 0) S6)) (K x5 S)) (K x5 S)
noncomputable def m30 (C:aC) (a0 a1:V) (S:St) (K:KW):Prop:=
cR [(.nils),(.int .i64 0)] S (aEz C K a0 a1)
theorem aYi:(fun (C:aC) (a0 a1:V) (S:St) (K:KW)=>aN prog C (bD 30) (bF 30) 30 [a0,a1] S K)=fun C a0 a1 S K=>m30 C a0 a1 S K:=by kernel_rfl
noncomputable def m31 (C:aC) (S:St) (K:KW):Prop:=
wR (aJ none S (.row 0 6 [[.nils,.nils,.nils,.nils,.nils,.int .i64 0]])) fun r0=>
wR (aR prog 30 [(5,(.int .i64 1))]) fun t1=>
wR (aG prog 30 (.ptr r0.1 0 0 0) t1 r0.2) fun S2=>
wR (aB prog 30 (.ptr r0.1 0 0 0) S2) fun t3=>
K t3 S2
theorem aYj:(fun (C:aC) (S:St) (K:KW)=>aN prog C (bD 31) (bF 31) 31 [] S K)=fun C S K=>m31 C S K:=by kernel_rfl
noncomputable def aF0 (C:aC) (K:KW) (p2 p4 p5 p9:V) (S:St)  :Prop:=
wR (aB prog 30 p2 (⟨S.next+4,S.heap⟩:St)) fun t76=>
wR (aB prog 48 p9 (⟨S.next+4,S.heap⟩:St)) fun t77=>
wR (aG prog 30 p4 t76 (⟨S.next+4,S.heap⟩:St)) fun S78=>
wR (aB prog 48 p9 S78) fun t79=>
bS (dI t77 t79) (wR (aG prog 48 p5 t77 S78) fun S80=>
wR (aB prog 30 p4 S80) fun t81=>
wR (aB prog 48 p5 S80) fun t82=>
K (.tup [t81,t82]) S80)
noncomputable def aBh (C:aC) (K:KW) (p2 p3 p4 p5 p28:V) (S:St)  :Prop:=
aE p28 (wR (aB prog 30 p2 (⟨S.next+4,S.heap⟩:St)) fun t20=>
C 103 [(.int .i64 17)] (⟨S.next+4,S.heap⟩:St) fun t21 S22=>
wR (aB prog 30 p2 S22) fun t23=>
bS (dI t20 t23) (wR (aG prog 30 p4 t20 S22) fun S24=>
wR (aG prog 48 p5 t21 S24) fun S25=>
wR (aB prog 30 p4 S25) fun t26=>
wR (aB prog 48 p5 S25) fun t27=>
K (.tup [t26,t27]) S25)) (wR (aA prog 61 p3 2) fun t28=>
wR (aA prog 59 t28 0) fun t29=>
wR (aB prog 3 t29 S) fun t30=>
bS (aL prog 3 t30 (.int .i64 6)) (wR (aH prog .eql 3 t30 (.int .i64 6)) fun t31=>
aE t31 (wR (aB prog 30 p2 S) fun t32=>
C 104 [t32] S fun t33 S34=>
bI t33 0 fun t35=>
bI t33 1 fun t36=>
wR (aG prog 30 p4 t35 S34) fun S37=>
wR (aG prog 48 p5 t36 S37) fun S38=>
wR (aB prog 30 p4 S38) fun t39=>
wR (aB prog 48 p5 S38) fun t40=>
K (.tup [t39,t40]) S38) (wR (aA prog 30 p2 4) fun t41=>
wR (aB prog 28 t41 S) fun t42=>
wR (aA prog 61 p3 0) fun t43=>
wR (aB prog 3 t43 S) fun t44=>
wR (aA prog 61 p3 1) fun t45=>
wR (aB prog 3 t45 S) fun t46=>
C 105 [t42,t44,t46] S fun t47 S48=>
bI t47 0 fun t49=>
bI t47 1 fun t50=>
bI t47 2 fun t51=>
wR (aJ none S48 (.row 0 3 [[.int .i64 0,.int .i64 0,.int .i64 0]])) fun r52=>
wR (aG prog 48 (.ptr r52.1 0 0 0) t49 r52.2) fun S53=>
bS (aL prog 31 t51 (.int .i64 0)) (wR (aH prog .neq 31 t51 (.int .i64 0)) fun t54=>
aE t54 (wR (aB prog 30 p2 (⟨S53.next+5,S53.heap⟩:St)) fun t55=>
C 103 [t51] (⟨S53.next+5,S53.heap⟩:St) fun t56 S57=>
wR (aB prog 30 p2 S57) fun t58=>
bS (dI t55 t58) (wR (aG prog 30 p4 t55 S57) fun S59=>
wR (aG prog 48 p5 t56 S59) fun S60=>
wR (aB prog 30 p4 S60) fun t61=>
wR (aB prog 48 p5 S60) fun t62=>
K (.tup [t61,t62]) S60)) (aE t50 (wR (aB prog 30 p2 (⟨S53.next+4,S53.heap⟩:St)) fun t63=>
wR (aB prog 48 (.ptr r52.1 0 0 0) (⟨S53.next+4,S53.heap⟩:St)) fun t64=>
wR (aG prog 30 p4 t63 (⟨S53.next+4,S53.heap⟩:St)) fun S65=>
wR (aB prog 48 (.ptr r52.1 0 0 0) S65) fun t66=>
bS (dI t64 t66) (wR (aG prog 48 p5 t64 S65) fun S67=>
wR (aB prog 30 p4 S67) fun t68=>
wR (aB prog 48 p5 S67) fun t69=>
K (.tup [t68,t69]) S67)) (wR (aA prog 61 p3 2) fun t70=>
wR (aB prog 59 t70 S53) fun t71=>
C 106 [p2,t71] S53 fun t72 S73=>
wR (aJ none S73 (.row 0 3 [[.int .i64 0,.int .i64 0,.int .i64 0]])) fun r74=>
wR (aG prog 48 (.ptr r74.1 0 0 0) t72 r74.2) fun S75=>
wR (aA prog 30 p2 4) fun t83=>
wR (aB prog 28 t83 S75) fun t84=>
wR (aA prog 61 p3 0) fun t85=>
wR (aB prog 3 t85 S75) fun t86=>
wR (aA prog 61 p3 1) fun t87=>
wR (aB prog 3 t87 S75) fun t88=>
wR (aB prog 48 (.ptr r74.1 0 0 0) S75) fun t89=>
C 107 [t84,t86,t88,t89] S75 fun t90 S91=>
bI t90 0 fun t92=>
bI t90 1 fun t93=>
bS (aL prog 31 t93 (.int .i64 0)) (wR (aH prog .eql 31 t93 (.int .i64 0)) fun t94=>
aE t94 (wR (aA prog 30 p2 4) fun t95=>
wR (aG prog 28 t95 t92 S91) fun S96=>
aF0 C K p2 p4 p5 (.ptr r74.1 0 0 0) S96) (aF0 C K p2 p4 p5 (.ptr r74.1 0 0 0) S91))))))))
noncomputable def m33 (C:aC) (a0 a1:V) (S:St) (K:KW):Prop:=
bS (aM (a0:V).cells) (wR (aJ none S (.row 0 (a0:V).cells.length [(a0:V).cells])) fun r0=>
bS (aM (a1:V).cells) (wR (aJ none r0.2 (.row 0 (a1:V).cells.length [(a1:V).cells])) fun r1=>
wR (aJ none r1.2 (.row 0 6 [[.nils,.nils,.nils,.nils,.nils,.int .i64 0]])) fun r2=>
wR (aJ none r2.2 (.row 0 3 [[.int .i64 0,.int .i64 0,.int .i64 0]])) fun r3=>
wR (aB prog 30 (.ptr r0.1 0 0 0) r3.2) fun t4=>
C 102 [t4] r3.2 fun t5 S6=>
wR (aG prog 30 (.ptr r0.1 0 0 0) t5 S6) fun S7=>
wR (aB prog 30 (.ptr r0.1 0 0 0) S7) fun t8=>
C 24 [t8] S7 fun t9 S10=>
wR (jE .not t9) fun t11=>
aE t11 (wR (aB prog 30 (.ptr r0.1 0 0 0) (⟨S10.next+4,S10.heap⟩:St)) fun t12=>
C 103 [(.int .i64 1)] (⟨S10.next+4,S10.heap⟩:St) fun t13 S14=>
wR (aB prog 30 (.ptr r0.1 0 0 0) S14) fun t15=>
bS (dI t12 t15) (wR (aG prog 30 (.ptr r2.1 0 0 0) t12 S14) fun S16=>
wR (aG prog 48 (.ptr r3.1 0 0 0) t13 S16) fun S17=>
wR (aB prog 30 (.ptr r2.1 0 0 0) S17) fun t18=>
wR (aB prog 48 (.ptr r3.1 0 0 0) S17) fun t19=>
K (.tup [t18,t19]) S17)) (wR (aA prog 61 (.ptr r1.1 0 0 0) 2) fun t97=>
wR (aA prog 59 t97 0) fun t98=>
wR (aB prog 3 t98 S10) fun t99=>
wR (aH prog .lss 3 t99 (.int .i64 1)) fun t100=>
aE t100 (aBh C K (.ptr r0.1 0 0 0) (.ptr r1.1 0 0 0) (.ptr r2.1 0 0 0) (.ptr r3.1 0 0 0) (.bool true) S10) (wR (aA prog 61 (.ptr r1.1 0 0 0) 2) fun t101=>
wR (aA prog 59 t101 0) fun t102=>
wR (aB prog 3 t102 S10) fun t103=>
wR (aH prog .gtr 3 t103 (.int .i64 8)) fun t104=>
aBh C K (.ptr r0.1 0 0 0) (.ptr r1.1 0 0 0) (.ptr r2.1 0 0 0) (.ptr r3.1 0 0 0) t104 S10))))
theorem aYk:(fun (C:aC) (a0 a1:V) (S:St) (K:KW)=>aN prog C (bD 33) (bF 33) 33 [a0,a1] S K)=fun C a0 a1 S K=>m33 C a0 a1 S K:=by kernel_rfl
noncomputable def aJj (C:aC) (K:KW) (p2 p4 p12 p13:V) (vs:List V) (S:St) (again0:List V→St→Prop)  :Prop:=
eC vs fun x6 vs=>
eC vs fun x14 vs=>
wR (aH prog .lss 3 x14 p13) fun t7=>
aE t7 (wR (aD prog 44 p12 x14) fun t8=>
wR (aB prog 61 t8 S) fun t9=>
wR (aJ none S (.row 0 17 [[.int .i64 0,.int .i64 0,.int .i64 0,.str [],.int .i64 0,.str [],.int .i64 0,.int .i64 0,.int .i64 0,.int .i64 0,.int .i64 0,.int .i64 0,.int .i64 0,.nils,.str [],.int .i64 0,.int .i64 0]])) fun r10=>
wR (aG prog 61 (.ptr r10.1 0 0 0) t9 r10.2) fun S11=>
wR (aJ none S11 (.row 0 3 [[.int .i64 0,.int .i64 0,.int .i64 0]])) fun r12=>
wR (aB prog 30 p2 r12.2) fun t13=>
wR (aB prog 61 (.ptr r10.1 0 0 0) r12.2) fun t14=>
C 33 [t13,t14] r12.2 fun t15 S16=>
bI t15 0 fun t17=>
bI t15 1 fun t18=>
wR (aG prog 30 p2 t17 S16) fun S19=>
wR (aG prog 48 (.ptr r12.1 0 0 0) t18 S19) fun S20=>
wR (aB prog 48 (.ptr r12.1 0 0 0) S20) fun t21=>
wR (aK prog 62 1 [(0,t21)] none S20) fun r22=>
wR (aV prog 62 x6 r22.1 none r22.2) fun r23=>
wR (aH prog .add 3 x14 (.int .i64 1)) fun t24=>
again0 [r23.1,t24] r23.2) (wR (aB prog 30 p2 S) fun t25=>
wR (aG prog 30 p4 t25 S) fun S26=>
wR (aB prog 30 p4 S26) fun t27=>
K (.tup [t27,x6]) S26)
noncomputable def m35 (C:aC) (a0 a1:V) (S:St) (K:KW):Prop:=
bS (aM (a0:V).cells) (wR (aJ none S (.row 0 (a0:V).cells.length [(a0:V).cells])) fun r0=>
wR (aJ none r0.2 (.row 0 6 [[.nils,.nils,.nils,.nils,.nils,.int .i64 0]])) fun r1=>
wR (aB prog 30 (.ptr r0.1 0 0 0) r1.2) fun t2=>
C 102 [t2] r1.2 fun t3 S4=>
wR (aG prog 30 (.ptr r0.1 0 0 0) t3 S4) fun S5=>
wR (bG prog 44 a1 S5) fun t6=>
cR [(.nils),(.int .i64 0)] S5 (aJj C K (.ptr r0.1 0 0 0) (.ptr r1.1 0 0 0) a1 t6))
theorem aYl:(fun (C:aC) (a0 a1:V) (S:St) (K:KW)=>aN prog C (bD 35) (bF 35) 35 [a0,a1] S K)=fun C a0 a1 S K=>m35 C a0 a1 S K:=by kernel_rfl
noncomputable def aJk (C:aC) (K:KW) (again0:List V→St→Prop) (p4 p5 p26 p27 p28 p44 p45:V) (vs:List V) (S:St) (again1:List V→St→Prop)  :Prop:=
eC vs fun x6 vs=>
eC vs fun x7 vs=>
eC vs fun x8 vs=>
eC vs fun x46 vs=>
wR (aH prog .lss 3 x46 p45) fun t39=>
aE t39 (wR (aD prog 80 p44 x46) fun t40=>
wR (aB prog 145 t40 S) fun t41=>
wR (aJ none S (.row 0 4 [[.str [],.int .i64 0,.int .i64 0,.int .i64 0]])) fun r42=>
wR (aG prog 145 (.ptr r42.1 0 0 0) t41 r42.2) fun S43=>
wR (aB prog 145 (.ptr r42.1 0 0 0) S43) fun t44=>
C 125 [x8,t44] S43 fun t45 S46=>
bI t45 0 fun t47=>
bI t45 1 fun t48=>
bS (aL prog 31 t48 (.int .i64 0)) (wR (aH prog .neq 31 t48 (.int .i64 0)) fun t49=>
aE t49 (K (.tup [(.nils),t48]) S46) (wR (aH prog .add 3 x46 (.int .i64 1)) fun t50=>
again1 [x6,x7,t47,t50] S46))) (wR (aH prog .add 3 p28 (.int .i64 1)) fun t51=>
again0 [x6,x7,x8,t51] S)
noncomputable def aJl (C:aC) (K:KW) (p4 p5 p26 p27:V) (vs:List V) (S:St) (again0:List V→St→Prop)  :Prop:=
eC vs fun x6 vs=>
eC vs fun x7 vs=>
eC vs fun x8 vs=>
eC vs fun x28 vs=>
wR (aH prog .lss 3 x28 p27) fun t18=>
aE t18 (wR (aD prog 26 p26 x28) fun t19=>
wR (aB prog 84 t19 S) fun t20=>
wR (aJ none S (.row 0 12 [[.str [],.int .i64 0,.int .i64 0,.int .i64 0,.int .i64 0,.int .i64 0,.int .i64 0,.int .i64 0,.nils,.str [],.int .i64 0,.bool false]])) fun r21=>
wR (aG prog 84 (.ptr r21.1 0 0 0) t20 r21.2) fun S22=>
wR (aA prog 84 (.ptr r21.1 0 0 0) 1) fun t23=>
wR (aB prog 52 t23 S22) fun t24=>
wR (aB prog 52 p4 S22) fun t25=>
C 124 [t24,t25] S22 fun t26 S27=>
aE t26 (wR (aH prog .add 3 x28 (.int .i64 1)) fun t28=>
again0 [x6,x7,x8,t28] S27) (wR (aB prog 52 p5 S27) fun t29=>
wR (aA prog 84 (.ptr r21.1 0 0 0) 1) fun t30=>
wR (aB prog 52 t30 S27) fun t31=>
C 124 [t29,t31] S27 fun t32 S33=>
aE t32 (wR (aH prog .add 3 x28 (.int .i64 1)) fun t34=>
again0 [x6,x7,x8,t34] S33) (wR (aA prog 84 (.ptr r21.1 0 0 0) 2) fun t35=>
wR (aA prog 82 t35 3) fun t36=>
wR (aB prog 80 t36 S33) fun t37=>
wR (bG prog 80 t37 S33) fun t38=>
cR [x6,x7,x8,(.int .i64 0)] S33 (aJk C K again0 p4 p5 p26 p27 x28 t37 t38)))) (K (.tup [x8,(.int .i64 0)]) S)
noncomputable def m40 (C:aC) (a0 a1 a2:V) (S:St) (K:KW):Prop:=
bS (aM (a0:V).cells) (wR (aJ none S (.row 0 (a0:V).cells.length [(a0:V).cells])) fun r0=>
bS (aM (a1:V).cells) (wR (aJ none r0.2 (.row 0 (a1:V).cells.length [(a1:V).cells])) fun r1=>
bS (aM (a2:V).cells) (wR (aJ none r1.2 (.row 0 (a2:V).cells.length [(a2:V).cells])) fun r2=>
wR (aB prog 30 (.ptr r0.1 0 0 0) r2.2) fun t3=>
C 24 [t3] r2.2 fun t4 S5=>
wR (jE .not t4) fun t6=>
aE t6 (K (.tup [(.nils),(.int .i64 1)]) S5) (wR (aB prog 52 (.ptr r1.1 0 0 0) S5) fun t7=>
C 123 [t7] S5 fun t8 S9=>
wR (jE .not t8) fun t10=>
aE t10 (K (.tup [(.nils),(.int .i64 9)]) S9) (wR (aB prog 52 (.ptr r2.1 0 0 0) S9) fun t11=>
C 123 [t11] S9 fun t12 S13=>
wR (jE .not t12) fun t14=>
aE t14 (K (.tup [(.nils),(.int .i64 9)]) S13) (wR (aA prog 30 (.ptr r0.1 0 0 0) 2) fun t15=>
wR (aB prog 26 t15 S13) fun t16=>
wR (bG prog 26 t16 S13) fun t17=>
cR [(.nils),(.int .i64 0),(.nils),(.int .i64 0)] S13 (aJl C K (.ptr r1.1 0 0 0) (.ptr r2.1 0 0 0) t16 t17)))))))
theorem aYm:(fun (C:aC) (a0 a1 a2:V) (S:St) (K:KW)=>aN prog C (bD 40) (bF 40) 40 [a0,a1,a2] S K)=fun C a0 a1 a2 S K=>m40 C a0 a1 a2 S K:=by kernel_rfl
noncomputable def aJm (C:aC) (K:KW) (p3 p7 p8:V) (vs:List V) (S:St) (again0:List V→St→Prop)  :Prop:=
eC vs fun x2 vs=>
eC vs fun x9 vs=>
wR (aH prog .lss 3 x9 p8) fun t2=>
aE t2 (wR (aD prog 26 p7 x9) fun t3=>
wR (aB prog 84 t3 S) fun t4=>
wR (aJ none S (.row 0 12 [[.str [],.int .i64 0,.int .i64 0,.int .i64 0,.int .i64 0,.int .i64 0,.int .i64 0,.int .i64 0,.nils,.str [],.int .i64 0,.bool false]])) fun r5=>
wR (aG prog 84 (.ptr r5.1 0 0 0) t4 r5.2) fun S6=>
wR (aA prog 84 (.ptr r5.1 0 0 0) 0) fun t7=>
wR (aA prog 57 t7 0) fun t8=>
wR (aB prog 9 t8 S6) fun t9=>
wR (lE prog 199 p3 t9 false S6) fun t10=>
wR (aH prog .add 3 t10 (.int .i64 1)) fun t11=>
wR (eQ prog 199 p3 t9 t11 S6) fun S12=>
wR (aA prog 84 (.ptr r5.1 0 0 0) 0) fun t13=>
wR (aA prog 57 t13 1) fun t14=>
wR (aB prog 3 t14 S12) fun t15=>
wR (aA prog 84 (.ptr r5.1 0 0 0) 0) fun t16=>
wR (aA prog 57 t16 0) fun t17=>
wR (aB prog 9 t17 S12) fun t18=>
wR (lE prog 199 p3 t18 false S12) fun t19=>
bS (aL prog 3 t15 t19) (wR (aH prog .neq 3 t15 t19) fun t20=>
aE t20 (K x9 S12) (wR (aH prog .add 3 x9 (.int .i64 1)) fun t21=>
again0 [x2,t21] S12))) (K (.int .i64 (-1)) S)
noncomputable def m42 (C:aC) (a0:V) (S:St) (K:KW):Prop:=
wR (aJ none S (.mp [])) fun r0=>
wR (bG prog 26 a0 r0.2) fun t1=>
cR [(.int .i64 0),(.int .i64 0)] r0.2 (aJm C K (.mp r0.1) a0 t1)
theorem aYn:(fun (C:aC) (a0:V) (S:St) (K:KW)=>aN prog C (bD 42) (bF 42) 42 [a0] S K)=fun C a0 S K=>m42 C a0 S K:=by kernel_rfl
noncomputable def m44 (C:aC) (S:St) (K:KW):Prop:=
C 31 [] S fun t0 S1=>
wR (aR prog 59 [(0,(.int .i64 6))]) fun t2=>
wR (aR prog 61 [(2,t2)]) fun t3=>
wR (aR prog 52 [(0,(.int .i64 2000)),(1,(.int .i64 1)),(2,(.int .i64 1))]) fun t4=>
wR (aR prog 54 [(0,(.str [115,116,100])),(1,t4),(2,(.int .i64 1900))]) fun t5=>
wR (aR prog 59 [(0,(.int .i64 3)),(3,t5)]) fun t6=>
wR (aR prog 61 [(0,(.int .i64 1)),(1,(.int .i64 1)),(2,t6)]) fun t7=>
wR (aR prog 59 [(0,(.int .i64 1)),(1,(.str [97])),(2,(.int .i64 2))]) fun t8=>
wR (aR prog 61 [(0,(.int .i64 1)),(1,(.int .i64 2)),(2,t8)]) fun t9=>
aEt prog C (.func 128 [] []) [(.int .i64 3)] S1 fun t10 S11=>
aEt prog C (.func 128 [] []) [(.int .i64 4)] S11 fun t12 S13=>
wR (aR prog 59 [(0,(.int .i64 1)),(1,(.str [98])),(2,(.int .i64 9))]) fun t14=>
wR (aR prog 61 [(0,(.int .i64 1)),(1,(.int .i64 6)),(2,t14)]) fun t15=>
C 46 [(.int .i64 15)] S13 fun t16 S17=>
wR (aR prog 57 [(0,(.str [97])),(1,(.int .i64 1))]) fun t18=>
wR (aR prog 59 [(0,(.int .i64 5)),(1,(.str [98])),(4,t16),(6,t18)]) fun t19=>
wR (aR prog 61 [(0,(.int .i64 1)),(1,(.int .i64 7)),(2,t19)]) fun t20=>
wR (aK prog 44 7 [(0,t3),(1,t7),(2,t9),(3,t10),(4,t12),(5,t15),(6,t20)] none S17) fun r21=>
C 35 [t0,r21.1] r21.2 fun t22 S23=>
bI t22 0 fun t24=>
bI t22 1 fun t25=>
wR (aJ none S23 (.row 0 6 [[.nils,.nils,.nils,.nils,.nils,.int .i64 0]])) fun r26=>
wR (aG prog 30 (.ptr r26.1 0 0 0) t24 r26.2) fun S27=>
wR (aB prog 30 (.ptr r26.1 0 0 0) (⟨S27.next+9,S27.heap⟩:St)) fun t28=>
C 46 [(.int .i64 15)] (⟨S27.next+9,S27.heap⟩:St) fun t29 S30=>
wR (aB prog 30 (.ptr r26.1 0 0 0) S30) fun t31=>
bS (dI t28 t31) (C 46 [(.int .i64 15)] S30 fun t32 S33=>
wR (aB prog 30 (.ptr r26.1 0 0 0) S33) fun t34=>
bS (dI t28 t34) (C 40 [t28,t29,t32] S33 fun t35 S36=>
bI t35 0 fun t37=>
bI t35 1 fun t38=>
wR (aB prog 30 (.ptr r26.1 0 0 0) (⟨S36.next+9,S36.heap⟩:St)) fun t39=>
C 46 [(.int .i64 16)] (⟨S36.next+9,S36.heap⟩:St) fun t40 S41=>
wR (aB prog 30 (.ptr r26.1 0 0 0) S41) fun t42=>
bS (dI t39 t42) (C 46 [(.int .i64 16)] S41 fun t43 S44=>
wR (aB prog 30 (.ptr r26.1 0 0 0) S44) fun t45=>
bS (dI t39 t45) (C 40 [t39,t40,t43] S44 fun t46 S47=>
bI t46 0 fun t48=>
bI t46 1 fun t49=>
C 129 [(.str [97]),(.int .i64 1)] S47 fun t50 S51=>
C 129 [(.str [98]),(.int .i64 1)] S51 fun t52 S53=>
C 129 [(.str [97]),(.int .i64 2)] S53 fun t54 S55=>
wR (aK prog 26 3 [(0,t50),(1,t52),(2,t54)] none S55) fun r56=>
C 42 [r56.1] r56.2 fun t57 S58=>
bS (aL prog 3 t57 (.int .i64 (-1))) (wR (aH prog .eql 3 t57 (.int .i64 (-1))) fun t59=>
aE t59 (C 129 [(.str [97]),(.int .i64 1)] S58 fun t60 S61=>
C 129 [(.str [97]),(.int .i64 3)] S61 fun t62 S63=>
wR (aK prog 26 2 [(0,t60),(1,t62)] none S63) fun r64=>
C 42 [r64.1] r64.2 fun t65 S66=>
bS (aL prog 3 t65 (.int .i64 1)) (wR (aH prog .eql 3 t65 (.int .i64 1)) fun t67=>
aE t67 (C 129 [(.str [97]),(.int .i64 2)] S66 fun t68 S69=>
wR (aK prog 26 1 [(0,t68)] none S69) fun r70=>
C 42 [r70.1] r70.2 fun t71 S72=>
bS (aL prog 3 t71 (.int .i64 0)) (wR (aH prog .eql 3 t71 (.int .i64 0)) fun t73=>
aE t73 (bS (aL prog 31 t38 (.int .i64 0)) (wR (aH prog .eql 31 t38 (.int .i64 0)) fun t74=>
aE t74 (wR (aR prog 76 [(0,(.str [115,116,100])),(1,(.int .i64 1900)),(2,(.int .i64 100)),(3,(.int .i64 19))]) fun t75=>
wR (aK prog 68 1 [(0,t75)] none S72) fun r76=>
C 130 [t37,r76.1] r76.2 fun t77 S78=>
aE t77 (bS (aL prog 31 t49 (.int .i64 0)) (wR (aH prog .eql 31 t49 (.int .i64 0)) fun t79=>
aE t79 (wR (bG prog 68 t48 S78) fun t80=>
bS (aL prog 3 t80 (.int .i64 0)) (wR (aH prog .eql 3 t80 (.int .i64 0)) fun t81=>
K t81 S78)) (K (.bool false) S78))) (K (.bool false) S78)) (K (.bool false) S72))) (K (.bool false) S72))) (K (.bool false) S66))) (K (.bool false) S58))))))
theorem aYo:(fun (C:aC) (S:St) (K:KW)=>aN prog C (bD 44) (bF 44) 44 [] S K)=fun C S K=>m44 C S K:=by kernel_rfl
noncomputable def aJn (C:aC) (K:KW) (p0 p1:V) (S:St)  :Prop:=
wR (aH prog .add 3 p1 p0) fun t3=>
K t3 S
noncomputable def m45 (C:aC) (a0 a1 a2:V) (S:St) (K:KW):Prop:=
wR (aH prog .sub 3 a2 a1) fun t0=>
wR (aH prog .add 3 t0 (.int .i64 1)) fun t1=>
wR (aH prog .rem 3 a0 t1) fun t2=>
wR (aH prog .lss 3 t2 (.int .i64 0)) fun t4=>
aE t4 (wR (aH prog .add 3 t2 a2) fun t5=>
wR (aH prog .sub 3 t5 a1) fun t6=>
wR (aH prog .add 3 t6 (.int .i64 1)) fun t7=>
aJn C K t7 a1 S) (aJn C K t2 a1 S)
theorem aYp:(fun (C:aC) (a0 a1 a2:V) (S:St) (K:KW)=>aN prog C (bD 45) (bF 45) 45 [a0,a1,a2] S K)=fun C a0 a1 a2 S K=>m45 C a0 a1 a2 S K:=by kernel_rfl
noncomputable def m46 (C:aC) (a0:V) (S:St) (K:KW):Prop:=
wR (aJ none S (.row 0 3 [[.int .i64 0,.int .i64 0,.int .i64 0]])) fun r0=>
wR (aR prog 52 [(0,(.int .i64 2026)),(1,(.int .i64 11)),(2,a0)]) fun t1=>
wR (aG prog 52 (.ptr r0.1 0 0 0) t1 r0.2) fun S2=>
wR (aB prog 52 (.ptr r0.1 0 0 0) S2) fun t3=>
K t3 S2
theorem aYq:(fun (C:aC) (a0:V) (S:St) (K:KW)=>aN prog C (bD 46) (bF 46) 46 [a0] S K)=fun C a0 S K=>m46 C a0 S K:=by kernel_rfl
noncomputable def aJo (C:aC) (K:KW) (p0 p8 p9:V) (vs:List V) (S:St) (again0:List V→St→Prop)  :Prop:=
eC vs fun x2 vs=>
eC vs fun x10 vs=>
wR (aH prog .lss 3 x10 p9) fun t3=>
aE t3 (wR (aD prog 24 p8 x10) fun t4=>
wR (aB prog 54 t4 S) fun t5=>
wR (aJ none S (.row 0 5 [[.str [],.int .i64 0,.int .i64 0,.int .i64 0,.int .i64 0]])) fun r6=>
wR (aG prog 54 (.ptr r6.1 0 0 0) t5 r6.2) fun S7=>
wR (aB prog 54 (.ptr r6.1 0 0 0) (⟨S7.next+17,S7.heap⟩:St)) fun t8=>
C 163 [t8] (⟨S7.next+17,S7.heap⟩:St) fun t9 S10=>
bS (aL prog 31 t9 (.int .i64 0)) (wR (aH prog .neq 31 t9 (.int .i64 0)) fun t11=>
aE t11 (K (.bool false) S10) (wR (aH prog .gtr 3 x10 (.int .i64 0)) fun t12=>
aE t12 (wR (aH prog .sub 3 x10 (.int .i64 1)) fun t13=>
wR (aD prog 24 p0 t13) fun t14=>
wR (aB prog 54 t14 S10) fun t15=>
wR (aB prog 54 (.ptr r6.1 0 0 0) S10) fun t16=>
C 164 [t15,t16] S10 fun t17 S18=>
wR (jE .not t17) fun t19=>
aE t19 (K (.bool false) S18) (wR (aH prog .add 3 x10 (.int .i64 1)) fun t20=>
again0 [x2,t20] S18)) (wR (aH prog .add 3 x10 (.int .i64 1)) fun t21=>
again0 [x2,t21] S10)))) (K (.bool true) S)
noncomputable def m85 (C:aC) (a0:V) (S:St) (K:KW):Prop:=
wR (bG prog 24 a0 S) fun t0=>
wR (aH prog .gtr 3 t0 (.int .i64 24)) fun t1=>
aE t1 (K (.bool false) S) (wR (bG prog 24 a0 S) fun t2=>
cR [(.bool false),(.int .i64 0)] S (aJo C K a0 a0 t2))
theorem aYr:(fun (C:aC) (a0:V) (S:St) (K:KW)=>aN prog C (bD 85) (bF 85) 85 [a0] S K)=fun C a0 S K=>m85 C a0 S K:=by kernel_rfl
noncomputable def aJp (C:aC) (K:KW) (again0:List V→St→Prop) (p0 p2 p4 p8 p9 p10:V) (S:St)  :Prop:=
wR (aA prog 126 p4 2) fun t8=>
wR (aB prog 3 t8 S) fun t9=>
wR (aH prog .lss 3 t9 (.int .i64 1)) fun t10=>
aE t10 (K (.bool false) S) (wR (aA prog 126 p4 2) fun t11=>
wR (aB prog 3 t11 S) fun t12=>
wR (aH prog .gtr 3 t12 (.int .i64 1099511627776)) fun t13=>
aE t13 (K (.bool false) S) (wR (aA prog 126 p4 1) fun t14=>
wR (aB prog 3 t14 S) fun t15=>
wR (aH prog .lss 3 t15 (.int .i64 1)) fun t16=>
aE t16 (K (.bool false) S) (wR (aA prog 126 p4 1) fun t17=>
wR (aB prog 3 t17 S) fun t18=>
wR (aA prog 126 p4 2) fun t19=>
wR (aB prog 3 t19 S) fun t20=>
wR (aH prog .add 3 t20 (.int .i64 1)) fun t21=>
wR (aH prog .gtr 3 t18 t21) fun t22=>
aE t22 (K (.bool false) S) (wR (aH prog .add 3 p10 (.int .i64 1)) fun t23=>
again0 [p2,t23] S))))
noncomputable def aJq (C:aC) (K:KW) (p0 p8 p9:V) (vs:List V) (S:St) (again0:List V→St→Prop)  :Prop:=
eC vs fun x2 vs=>
eC vs fun x10 vs=>
wR (aH prog .lss 3 x10 p9) fun t3=>
aE t3 (wR (aD prog 25 p8 x10) fun t4=>
wR (aB prog 126 t4 S) fun t5=>
wR (aJ none S (.row 0 4 [[.str [],.int .i64 0,.int .i64 0,.bool false]])) fun r6=>
wR (aG prog 126 (.ptr r6.1 0 0 0) t5 r6.2) fun S7=>
wR (aA prog 126 (.ptr r6.1 0 0 0) 0) fun t24=>
wR (aB prog 9 t24 (⟨S7.next+19,S7.heap⟩:St)) fun t25=>
C 165 [t25] (⟨S7.next+19,S7.heap⟩:St) fun t26 S27=>
wR (jE .not t26) fun t28=>
aE t28 (K (.bool false) S27) (wR (aH prog .gtr 3 x10 (.int .i64 0)) fun t29=>
aE t29 (wR (aH prog .sub 3 x10 (.int .i64 1)) fun t30=>
wR (aD prog 25 p0 t30) fun t31=>
wR (aA prog 126 t31 0) fun t32=>
wR (aB prog 9 t32 S27) fun t33=>
wR (aA prog 126 (.ptr r6.1 0 0 0) 0) fun t34=>
wR (aB prog 9 t34 S27) fun t35=>
wR (aH prog .geq 9 t33 t35) fun t36=>
aE t36 (K (.bool false) S27) (aJp C K again0 p0 x2 (.ptr r6.1 0 0 0) p8 p9 x10 S27)) (aJp C K again0 p0 x2 (.ptr r6.1 0 0 0) p8 p9 x10 S27))) (K (.bool true) S)
noncomputable def m86 (C:aC) (a0:V) (S:St) (K:KW):Prop:=
wR (bG prog 25 a0 S) fun t0=>
wR (aH prog .gtr 3 t0 (.int .i64 8)) fun t1=>
aE t1 (K (.bool false) S) (wR (bG prog 25 a0 S) fun t2=>
cR [(.bool false),(.int .i64 0)] S (aJq C K a0 a0 t2))
theorem aYs:(fun (C:aC) (a0:V) (S:St) (K:KW)=>aN prog C (bD 86) (bF 86) 86 [a0] S K)=fun C a0 S K=>m86 C a0 S K:=by kernel_rfl
noncomputable def m87 (C:aC) (a0:V) (S:St) (K:KW):Prop:=
bS (aM (a0:V).cells) (wR (aJ none S (.row 0 (a0:V).cells.length [(a0:V).cells])) fun r0=>
wR (aA prog 30 (.ptr r0.1 0 0 0) 4) fun t1=>
wR (aB prog 28 t1 r0.2) fun t2=>
wR (bG prog 28 t2 r0.2) fun t3=>
wR (aA prog 30 (.ptr r0.1 0 0 0) 4) fun t4=>
wR (aB prog 28 t4 (⟨r0.2.next+30,r0.2.heap⟩:St)) fun t5=>
C 166 [t5] (⟨r0.2.next+30,r0.2.heap⟩:St) fun t6 S7=>
aE t6 (wR (aA prog 30 (.ptr r0.1 0 0 0) 5) fun t8=>
wR (aB prog 3 t8 S7) fun t9=>
wR (aH prog .geq 3 t9 (.int .i64 1)) fun t10=>
aE t10 (wR (aA prog 30 (.ptr r0.1 0 0 0) 5) fun t11=>
wR (aB prog 3 t11 S7) fun t12=>
wR (aH prog .leq 3 t12 (.int .i64 1099511627776)) fun t13=>
aE t13 (bS (aL prog 3 t3 (.int .i64 0)) (wR (aH prog .eql 3 t3 (.int .i64 0)) fun t14=>
aE t14 (K (.bool true) S7) (wR (aA prog 30 (.ptr r0.1 0 0 0) 4) fun t15=>
wR (aB prog 28 t15 S7) fun t16=>
wR (aH prog .sub 3 t3 (.int .i64 1)) fun t17=>
wR (aD prog 28 t16 t17) fun t18=>
wR (aA prog 132 t18 0) fun t19=>
wR (aB prog 3 t19 S7) fun t20=>
wR (aA prog 30 (.ptr r0.1 0 0 0) 5) fun t21=>
wR (aB prog 3 t21 S7) fun t22=>
wR (aH prog .lss 3 t20 t22) fun t23=>
K t23 S7))) (K (.bool false) S7)) (K (.bool false) S7)) (K (.bool false) S7))
theorem aYt:(fun (C:aC) (a0:V) (S:St) (K:KW)=>aN prog C (bD 87) (bF 87) 87 [a0] S K)=fun C a0 S K=>m87 C a0 S K:=by kernel_rfl
noncomputable def aJr (C:aC) (K:KW) (p3 p56 p57:V) (vs:List V) (S:St) (again1:List V→St→Prop)  :Prop:=
eC vs fun x2 vs=>
eC vs fun x58 vs=>
wR (aH prog .lss 3 x58 p57) fun t43=>
aE t43 (wR (aD prog 26 p56 x58) fun t44=>
wR (aB prog 84 t44 S) fun t45=>
wR (aJ none S (.row 0 12 [[.str [],.int .i64 0,.int .i64 0,.int .i64 0,.int .i64 0,.int .i64 0,.int .i64 0,.int .i64 0,.nils,.str [],.int .i64 0,.bool false]])) fun r46=>
wR (aG prog 84 (.ptr r46.1 0 0 0) t45 r46.2) fun S47=>
wR (aD prog 246 p3 x58) fun t48=>
wR (aB prog 3 t48 (⟨S47.next+13,S47.heap⟩:St)) fun t49=>
wR (aH prog .gtr 3 t49 (.int .i64 1)) fun t50=>
aE t50 (K (.bool false) (⟨S47.next+13,S47.heap⟩:St)) (wR (aA prog 84 (.ptr r46.1 0 0 0) 4) fun t51=>
wR (aB prog 4 t51 (⟨S47.next+13,S47.heap⟩:St)) fun t52=>
wR (aD prog 246 p3 x58) fun t53=>
wR (aB prog 3 t53 (⟨S47.next+13,S47.heap⟩:St)) fun t54=>
bS (aL prog 3 t54 (.int .i64 1)) (wR (aH prog .eql 3 t54 (.int .i64 1)) fun t55=>
bS (aL prog 4 t52 t55) (wR (aH prog .neq 4 t52 t55) fun t56=>
aE t56 (K (.bool false) (⟨S47.next+13,S47.heap⟩:St)) (wR (aH prog .add 3 x58 (.int .i64 1)) fun t57=>
again1 [x2,t57] (⟨S47.next+13,S47.heap⟩:St)))))) (K (.bool true) S)
noncomputable def aJs (C:aC) (K:KW) (p0 p3 p12 p13:V) (vs:List V) (S:St) (again0:List V→St→Prop)  :Prop:=
eC vs fun x2 vs=>
eC vs fun x14 vs=>
wR (aH prog .lss 3 x14 p13) fun t4=>
aE t4 (wR (aD prog 26 p12 x14) fun t5=>
wR (aB prog 84 t5 S) fun t6=>
wR (aJ none S (.row 0 12 [[.str [],.int .i64 0,.int .i64 0,.int .i64 0,.int .i64 0,.int .i64 0,.int .i64 0,.int .i64 0,.nils,.str [],.int .i64 0,.bool false]])) fun r7=>
wR (aG prog 84 (.ptr r7.1 0 0 0) t6 r7.2) fun S8=>
wR (aA prog 84 (.ptr r7.1 0 0 0) 1) fun t9=>
wR (aB prog 52 t9 S8) fun t10=>
C 123 [t10] S8 fun t11 S12=>
wR (jE .not t11) fun t13=>
aE t13 (K (.bool false) S12) (wR (aA prog 84 (.ptr r7.1 0 0 0) 2) fun t14=>
wR (aB prog 82 t14 S12) fun t15=>
C 167 [t15] S12 fun t16 S17=>
wR (jE .not t16) fun t18=>
aE t18 (K (.bool false) S17) (wR (aA prog 84 (.ptr r7.1 0 0 0) 3) fun t19=>
wR (aB prog 57 t19 S17) fun t20=>
wR (aR prog 57 []) fun t21=>
bS (aL prog 57 t20 t21) (wR (aH prog .eql 57 t20 t21) fun t22=>
aE t22 (wR (aH prog .add 3 x14 (.int .i64 1)) fun t23=>
again0 [x2,t23] S17) (wR (cC prog 26 p0 none (some x14)) fun t24=>
wR (aA prog 84 (.ptr r7.1 0 0 0) 3) fun t25=>
wR (aB prog 57 t25 (⟨S17.next+7,S17.heap⟩:St)) fun t26=>
C 168 [t24,t26] (⟨S17.next+7,S17.heap⟩:St) fun t27 S28=>
wR (aH prog .lss 3 t27 (.int .i64 0)) fun t29=>
aE t29 (K (.bool false) (⟨S28.next+11,S28.heap⟩:St)) (wR (aB prog 84 (.ptr r7.1 0 0 0) (⟨S28.next+11,S28.heap⟩:St)) fun t30=>
wR (aD prog 26 p0 t27) fun t31=>
wR (aB prog 84 t31 (⟨S28.next+11,S28.heap⟩:St)) fun t32=>
C 169 [t30,t32] (⟨S28.next+11,S28.heap⟩:St) fun t33 S34=>
wR (jE .not t33) fun t35=>
aE t35 (K (.bool false) S34) (wR (aD prog 246 p3 t27) fun t36=>
wR (aB prog 3 t36 S34) fun t37=>
wR (aH prog .add 3 t37 (.int .i64 1)) fun t38=>
wR (aD prog 246 p3 t27) fun t39=>
wR (aG prog 3 t39 t38 S34) fun S40=>
wR (aH prog .add 3 x14 (.int .i64 1)) fun t41=>
again0 [x2,t41] S40))))))) (wR (bG prog 26 p0 S) fun t42=>
cR [x2,(.int .i64 0)] S (aJr C K p3 p0 t42))
noncomputable def m88 (C:aC) (a0:V) (S:St) (K:KW):Prop:=
wR (bG prog 26 a0 S) fun t0=>
wR (aH prog .gtr 3 t0 (.int .i64 40)) fun t1=>
aE t1 (K (.bool false) S) (wR (aJ none S (.row 0 40 [[.int .i64 0,.int .i64 0,.int .i64 0,.int .i64 0,.int .i64 0,.int .i64 0,.int .i64 0,.int .i64 0,.int .i64 0,.int .i64 0,.int .i64 0,.int .i64 0,.int .i64 0,.int .i64 0,.int .i64 0,.int .i64 0,.int .i64 0,.int .i64 0,.int .i64 0,.int .i64 0,.int .i64 0,.int .i64 0,.int .i64 0,.int .i64 0,.int .i64 0,.int .i64 0,.int .i64 0,.int .i64 0,.int .i64 0,.int .i64 0,.int .i64 0,.int .i64 0,.int .i64 0,.int .i64 0,.int .i64 0,.int .i64 0,.int .i64 0,.int .i64 0,.int .i64 0,.int .i64 0]])) fun r2=>
wR (bG prog 26 a0 r2.2) fun t3=>
cR [(.bool false),(.int .i64 0)] r2.2 (aJs C K a0 (.ptr r2.1 0 0 0) a0 t3))
theorem aYu:(fun (C:aC) (a0:V) (S:St) (K:KW)=>aN prog C (bD 88) (bF 88) 88 [a0] S K)=fun C a0 S K=>m88 C a0 S K:=by kernel_rfl
noncomputable def aJt (C:aC) (K:KW) (p3 p36 p37:V) (vs:List V) (S:St) (again1:List V→St→Prop)  :Prop:=
eC vs fun x2 vs=>
eC vs fun x38 vs=>
wR (aH prog .lss 3 x38 p37) fun t30=>
aE t30 (wR (aD prog 25 p36 x38) fun t31=>
wR (aB prog 126 t31 S) fun t32=>
wR (aJ none S (.row 0 4 [[.str [],.int .i64 0,.int .i64 0,.bool false]])) fun r33=>
wR (aG prog 126 (.ptr r33.1 0 0 0) t32 r33.2) fun S34=>
wR (aA prog 126 (.ptr r33.1 0 0 0) 1) fun t35=>
wR (aB prog 3 t35 (⟨S34.next+7,S34.heap⟩:St)) fun t36=>
wR (aD prog 249 p3 x38) fun t37=>
wR (aB prog 3 t37 (⟨S34.next+7,S34.heap⟩:St)) fun t38=>
wR (aH prog .add 3 t38 (.int .i64 1)) fun t39=>
bS (aL prog 3 t36 t39) (wR (aH prog .neq 3 t36 t39) fun t40=>
aE t40 (K (.bool false) (⟨S34.next+7,S34.heap⟩:St)) (wR (aH prog .add 3 x38 (.int .i64 1)) fun t41=>
again1 [x2,t41] (⟨S34.next+7,S34.heap⟩:St)))) (K (.bool true) S)
noncomputable def aJu (C:aC) (K:KW) (p1 p3 p10 p11:V) (vs:List V) (S:St) (again0:List V→St→Prop)  :Prop:=
eC vs fun x2 vs=>
eC vs fun x12 vs=>
wR (aH prog .lss 3 x12 p11) fun t5=>
aE t5 (wR (aD prog 26 p10 x12) fun t6=>
wR (aB prog 84 t6 S) fun t7=>
wR (aJ none S (.row 0 12 [[.str [],.int .i64 0,.int .i64 0,.int .i64 0,.int .i64 0,.int .i64 0,.int .i64 0,.int .i64 0,.nils,.str [],.int .i64 0,.bool false]])) fun r8=>
wR (aG prog 84 (.ptr r8.1 0 0 0) t7 r8.2) fun S9=>
wR (aA prog 30 p1 1) fun t10=>
wR (aB prog 25 t10 S9) fun t11=>
C 152 [t11,(.func 170 [] [(.ptr r8.1 0 0 0)])] S9 fun t12 S13=>
wR (aH prog .lss 3 t12 (.int .i64 0)) fun t14=>
aE t14 (K (.bool false) S13) (wR (aD prog 249 p3 t12) fun t15=>
wR (aB prog 3 t15 S13) fun t16=>
wR (aH prog .add 3 t16 (.int .i64 1)) fun t17=>
wR (aD prog 249 p3 t12) fun t18=>
wR (aG prog 3 t18 t17 S13) fun S19=>
wR (aA prog 84 (.ptr r8.1 0 0 0) 0) fun t20=>
wR (aA prog 57 t20 1) fun t21=>
wR (aB prog 3 t21 (⟨S19.next+7,S19.heap⟩:St)) fun t22=>
wR (aD prog 249 p3 t12) fun t23=>
wR (aB prog 3 t23 (⟨S19.next+7,S19.heap⟩:St)) fun t24=>
bS (aL prog 3 t22 t24) (wR (aH prog .neq 3 t22 t24) fun t25=>
aE t25 (K (.bool false) (⟨S19.next+7,S19.heap⟩:St)) (wR (aH prog .add 3 x12 (.int .i64 1)) fun t26=>
again0 [x2,t26] (⟨S19.next+7,S19.heap⟩:St))))) (wR (aA prog 30 p1 1) fun t27=>
wR (aB prog 25 t27 S) fun t28=>
wR (bG prog 25 t28 S) fun t29=>
cR [x2,(.int .i64 0)] S (aJt C K p3 t28 t29))
noncomputable def m89 (C:aC) (a0:V) (S:St) (K:KW):Prop:=
bS (aM (a0:V).cells) (wR (aJ none S (.row 0 (a0:V).cells.length [(a0:V).cells])) fun r0=>
wR (aJ none r0.2 (.row 0 8 [[.int .i64 0,.int .i64 0,.int .i64 0,.int .i64 0,.int .i64 0,.int .i64 0,.int .i64 0,.int .i64 0]])) fun r1=>
wR (aA prog 30 (.ptr r0.1 0 0 0) 2) fun t2=>
wR (aB prog 26 t2 r1.2) fun t3=>
wR (bG prog 26 t3 r1.2) fun t4=>
cR [(.bool false),(.int .i64 0)] r1.2 (aJu C K (.ptr r0.1 0 0 0) (.ptr r1.1 0 0 0) t3 t4))
theorem aYv:(fun (C:aC) (a0:V) (S:St) (K:KW)=>aN prog C (bD 89) (bF 89) 89 [a0] S K)=fun C a0 S K=>m89 C a0 S K:=by kernel_rfl
noncomputable def aJv (C:aC) (K:KW) (p9 p10:V) (vs:List V) (S:St) (again0:List V→St→Prop)  :Prop:=
eC vs fun x2 vs=>
eC vs fun x3 vs=>
eC vs fun x4 vs=>
eC vs fun x11 vs=>
wR (aH prog .lss 3 x11 p10) fun t1=>
aE t1 (wR (aD prog 26 p9 x11) fun t2=>
wR (aB prog 84 t2 S) fun t3=>
wR (aJ none S (.row 0 12 [[.str [],.int .i64 0,.int .i64 0,.int .i64 0,.int .i64 0,.int .i64 0,.int .i64 0,.int .i64 0,.nils,.str [],.int .i64 0,.bool false]])) fun r4=>
wR (aG prog 84 (.ptr r4.1 0 0 0) t3 r4.2) fun S5=>
wR (aA prog 84 (.ptr r4.1 0 0 0) 2) fun t6=>
wR (aB prog 82 t6 S5) fun t7=>
C 157 [t7] S5 fun t8 S9=>
bI t8 0 fun t10=>
bI t8 1 fun t11=>
bS (aL prog 31 t11 (.int .i64 0)) (wR (aH prog .neq 31 t11 (.int .i64 0)) fun t12=>
aE t12 (K (.tup [(.nils),t11]) S9) (C 158 [x4,t10] S9 fun t13 S14=>
bI t13 0 fun t15=>
bI t13 1 fun t16=>
bS (aL prog 31 t16 (.int .i64 0)) (wR (aH prog .neq 31 t16 (.int .i64 0)) fun t17=>
aE t17 (K (.tup [(.nils),t16]) S14) (wR (aH prog .add 3 x11 (.int .i64 1)) fun t18=>
again0 [x2,x3,t15,t18] S14))))) (K (.tup [x4,(.int .i64 0)]) S)
noncomputable def m90 (C:aC) (a0:V) (S:St) (K:KW):Prop:=
wR (bG prog 26 a0 S) fun t0=>
cR [(.nils),(.int .i64 0),(.nils),(.int .i64 0)] S (aJv C K a0 t0)
theorem aYw:(fun (C:aC) (a0:V) (S:St) (K:KW)=>aN prog C (bD 90) (bF 90) 90 [a0] S K)=fun C a0 S K=>m90 C a0 S K:=by kernel_rfl
noncomputable def aJw (C:aC) (K:KW) (p0 p1 p12:V) (vs:List V) (S:St) (again0:List V→St→Prop)  :Prop:=
eC vs fun x4 vs=>
eC vs fun x13 vs=>
wR (aH prog .lss 3 x13 p12) fun t4=>
aE t4 (wR (aD prog 27 p0 x13) fun t5=>
wR (aB prog 90 t5 (⟨S.next+9,S.heap⟩:St)) fun t6=>
wR (aD prog 27 p1 x13) fun t7=>
wR (aB prog 90 t7 (⟨S.next+9,S.heap⟩:St)) fun t8=>
bS (aL prog 90 t6 t8) (wR (aH prog .neq 90 t6 t8) fun t9=>
aE t9 (K (.bool false) (⟨S.next+9,S.heap⟩:St)) (wR (aH prog .add 3 x13 (.int .i64 1)) fun t10=>
again0 [x4,t10] (⟨S.next+9,S.heap⟩:St)))) (K (.bool true) S)
noncomputable def m91 (C:aC) (a0 a1:V) (S:St) (K:KW):Prop:=
wR (bG prog 27 a0 S) fun t0=>
wR (bG prog 27 a1 S) fun t1=>
bS (aL prog 3 t0 t1) (wR (aH prog .neq 3 t0 t1) fun t2=>
aE t2 (K (.bool false) S) (wR (bG prog 27 a0 S) fun t3=>
cR [(.bool false),(.int .i64 0)] S (aJw C K a0 a1 t3)))
theorem aYx:(fun (C:aC) (a0 a1:V) (S:St) (K:KW)=>aN prog C (bD 91) (bF 91) 91 [a0,a1] S K)=fun C a0 a1 S K=>m91 C a0 a1 S K:=by kernel_rfl
noncomputable def aA5 (C:aC) (K:KW) (p1 p2 p26:V) (vs:List V) (S:St) (again0:List V→St→Prop)  :Prop:=
eC vs fun x27 vs=>
wR (aH prog .lss 3 x27 p26) fun t30=>
aE t30 (wR (aA prog 30 p1 2) fun t31=>
wR (aB prog 26 t31 (⟨S.next+15,S.heap⟩:St)) fun t32=>
wR (aA prog 30 p1 2) fun t33=>
wR (aB prog 26 t33 (⟨S.next+15,S.heap⟩:St)) fun t34=>
wR (aD prog 26 t34 x27) fun t35=>
wR (aA prog 84 t35 2) fun t36=>
wR (aA prog 82 t36 3) fun t37=>
wR (aB prog 80 t37 (⟨S.next+15,S.heap⟩:St)) fun t38=>
wR (aV prog 80 (.nils) t38 (some (S.next+10)) (⟨S.next+15,S.heap⟩:St)) fun r39=>
wR (aB prog 26 t31 r39.2) fun t40=>
bS (dI t32 t40) (wR (aD prog 26 t32 x27) fun t41=>
wR (aA prog 84 t41 2) fun t42=>
wR (aA prog 82 t42 3) fun t43=>
wR (aG prog 80 t43 r39.1 r39.2) fun S44=>
wR (aH prog .add 3 x27 (.int .i64 1)) fun t45=>
again0 [t45] S44)) (wR (aB prog 30 p1 S) fun t46=>
wR (aG prog 30 p2 t46 S) fun S47=>
wR (aB prog 30 p2 S47) fun t48=>
K t48 S47)
noncomputable def aS5 (C:aC) (a0:V) (S:St) (K:KW):Prop:=
bS (aM (a0:V).cells) (wR (aJ none S (.row 0 (a0:V).cells.length [(a0:V).cells])) fun r0=>
wR (aJ none r0.2 (.row 0 6 [[.nils,.nils,.nils,.nils,.nils,.int .i64 0]])) fun r1=>
wR (aA prog 30 (.ptr r0.1 0 0 0) 0) fun t2=>
wR (aB prog 24 t2 r1.2) fun t3=>
wR (aV prog 24 (.nils) t3 none r1.2) fun r4=>
wR (aA prog 30 (.ptr r0.1 0 0 0) 0) fun t5=>
wR (aG prog 24 t5 r4.1 r4.2) fun S6=>
wR (aA prog 30 (.ptr r0.1 0 0 0) 1) fun t7=>
wR (aB prog 25 t7 S6) fun t8=>
wR (aV prog 25 (.nils) t8 none S6) fun r9=>
wR (aA prog 30 (.ptr r0.1 0 0 0) 1) fun t10=>
wR (aG prog 25 t10 r9.1 r9.2) fun S11=>
wR (aA prog 30 (.ptr r0.1 0 0 0) 3) fun t12=>
wR (aB prog 27 t12 S11) fun t13=>
wR (aV prog 27 (.nils) t13 none S11) fun r14=>
wR (aA prog 30 (.ptr r0.1 0 0 0) 3) fun t15=>
wR (aG prog 27 t15 r14.1 r14.2) fun S16=>
wR (aA prog 30 (.ptr r0.1 0 0 0) 4) fun t17=>
wR (aB prog 28 t17 S16) fun t18=>
wR (aV prog 28 (.nils) t18 none S16) fun r19=>
wR (aA prog 30 (.ptr r0.1 0 0 0) 4) fun t20=>
wR (aG prog 28 t20 r19.1 r19.2) fun S21=>
wR (aA prog 30 (.ptr r0.1 0 0 0) 2) fun t22=>
wR (aB prog 26 t22 S21) fun t23=>
wR (aV prog 26 (.nils) t23 none S21) fun r24=>
wR (aA prog 30 (.ptr r0.1 0 0 0) 2) fun t25=>
wR (aG prog 26 t25 r24.1 r24.2) fun S26=>
wR (aA prog 30 (.ptr r0.1 0 0 0) 2) fun t27=>
wR (aB prog 26 t27 S26) fun t28=>
wR (bG prog 26 t28 S26) fun t29=>
cR [(.int .i64 0)] S26 (aA5 C K (.ptr r0.1 0 0 0) (.ptr r1.1 0 0 0) t29))
theorem aS6:(fun (C:aC) (a0:V) (S:St) (K:KW)=>aN prog C (bD 102) (bF 102) 102 [a0] S K)=fun C a0 S K=>aS5 C a0 S K:=by kernel_rfl
noncomputable def aS7 (C:aC) (a0:V) (S:St) (K:KW):Prop:=
wR (aJ none S (.row 0 3 [[.int .i64 0,.int .i64 0,.int .i64 0]])) fun r0=>
wR (aR prog 48 [(0,a0)]) fun t1=>
wR (aG prog 48 (.ptr r0.1 0 0 0) t1 r0.2) fun S2=>
wR (aB prog 48 (.ptr r0.1 0 0 0) S2) fun t3=>
K t3 S2
theorem aS8:(fun (C:aC) (a0:V) (S:St) (K:KW)=>aN prog C (bD 103) (bF 103) 103 [a0] S K)=fun C a0 S K=>aS7 C a0 S K:=by kernel_rfl
noncomputable def aF1 (C:aC) (K:KW) (p1 p2 p3 p15:V) (S:St)  :Prop:=
aE p15 (wR (aB prog 30 p1 (⟨S.next+4,S.heap⟩:St)) fun t3=>
C 103 [(.int .i64 14)] (⟨S.next+4,S.heap⟩:St) fun t4 S5=>
wR (aB prog 30 p1 S5) fun t6=>
bS (dI t3 t6) (wR (aG prog 30 p2 t3 S5) fun S7=>
wR (aG prog 48 p3 t4 S7) fun S8=>
wR (aB prog 30 p2 S8) fun t9=>
wR (aB prog 48 p3 S8) fun t10=>
K (.tup [t9,t10]) S8)) (wR (aA prog 30 p1 4) fun t11=>
wR (aB prog 28 t11 S) fun t12=>
wR (aA prog 30 p1 5) fun t13=>
wR (aB prog 3 t13 S) fun t14=>
C 173 [t12,t14] S fun t15 S16=>
bI t15 0 fun t17=>
bI t15 1 fun t18=>
bS (aL prog 31 t18 (.int .i64 0)) (wR (aH prog .neq 31 t18 (.int .i64 0)) fun t19=>
aE t19 (wR (aB prog 30 p1 (⟨S16.next+5,S16.heap⟩:St)) fun t20=>
C 103 [t18] (⟨S16.next+5,S16.heap⟩:St) fun t21 S22=>
wR (aB prog 30 p1 S22) fun t23=>
bS (dI t20 t23) (wR (aG prog 30 p2 t20 S22) fun S24=>
wR (aG prog 48 p3 t21 S24) fun S25=>
wR (aB prog 30 p2 S25) fun t26=>
wR (aB prog 48 p3 S25) fun t27=>
K (.tup [t26,t27]) S25)) (wR (aA prog 30 p1 5) fun t28=>
wR (aB prog 3 t28 S16) fun t29=>
wR (aR prog 48 [(1,t29)]) fun t30=>
wR (aJ none S16 (.row 0 3 [[.int .i64 0,.int .i64 0,.int .i64 0]])) fun r31=>
wR (aG prog 48 (.ptr r31.1 0 0 0) t30 r31.2) fun S32=>
wR (aA prog 30 p1 4) fun t33=>
wR (aG prog 28 t33 t17 S32) fun S34=>
wR (aA prog 30 p1 5) fun t35=>
wR (aB prog 3 t35 S34) fun t36=>
wR (aH prog .add 3 t36 (.int .i64 1)) fun t37=>
wR (aA prog 30 p1 5) fun t38=>
wR (aG prog 3 t38 t37 S34) fun S39=>
wR (aB prog 30 p1 (⟨S39.next+4,S39.heap⟩:St)) fun t40=>
wR (aB prog 48 (.ptr r31.1 0 0 0) (⟨S39.next+4,S39.heap⟩:St)) fun t41=>
wR (aG prog 30 p2 t40 (⟨S39.next+4,S39.heap⟩:St)) fun S42=>
wR (aB prog 48 (.ptr r31.1 0 0 0) S42) fun t43=>
bS (dI t41 t43) (wR (aG prog 48 p3 t41 S42) fun S44=>
wR (aB prog 30 p2 S44) fun t45=>
wR (aB prog 48 p3 S44) fun t46=>
K (.tup [t45,t46]) S44))))
noncomputable def aS9 (C:aC) (a0:V) (S:St) (K:KW):Prop:=
bS (aM (a0:V).cells) (wR (aJ none S (.row 0 (a0:V).cells.length [(a0:V).cells])) fun r0=>
wR (aJ none r0.2 (.row 0 6 [[.nils,.nils,.nils,.nils,.nils,.int .i64 0]])) fun r1=>
wR (aJ none r1.2 (.row 0 3 [[.int .i64 0,.int .i64 0,.int .i64 0]])) fun r2=>
wR (aA prog 30 (.ptr r0.1 0 0 0) 4) fun t47=>
wR (aB prog 28 t47 r2.2) fun t48=>
wR (bG prog 28 t48 r2.2) fun t49=>
wR (aH prog .geq 3 t49 (.int .i64 8)) fun t50=>
aE t50 (aF1 C K (.ptr r0.1 0 0 0) (.ptr r1.1 0 0 0) (.ptr r2.1 0 0 0) (.bool true) r2.2) (wR (aA prog 30 (.ptr r0.1 0 0 0) 5) fun t51=>
wR (aB prog 3 t51 r2.2) fun t52=>
wR (aH prog .geq 3 t52 (.int .i64 1099511627776)) fun t53=>
aF1 C K (.ptr r0.1 0 0 0) (.ptr r1.1 0 0 0) (.ptr r2.1 0 0 0) t53 r2.2))
theorem aSa:(fun (C:aC) (a0:V) (S:St) (K:KW)=>aN prog C (bD 104) (bF 104) 104 [a0] S K)=fun C a0 S K=>aS9 C a0 S K:=by kernel_rfl
noncomputable def aF2 (C:aC) (K:KW) (p0 p2 p6 p9 p21:V) (S:St)  :Prop:=
aE p21 (wR (aR prog 48 []) fun t13=>
wR (aG prog 48 p6 t13 S) fun S14=>
wR (aB prog 48 p6 S14) fun t15=>
K (.tup [t15,(.bool false),(.int .i64 1)]) S14) (wR (aD prog 28 p0 p9) fun t16=>
wR (aA prog 132 t16 1) fun t17=>
wR (aB prog 3 t17 S) fun t18=>
bS (aL prog 3 p2 t18) (wR (aH prog .eql 3 p2 t18) fun t19=>
aE t19 (wR (aD prog 28 p0 p9) fun t20=>
wR (aA prog 132 t20 2) fun t21=>
wR (aB prog 48 t21 S) fun t22=>
wR (aG prog 48 p6 t22 S) fun S23=>
wR (aB prog 48 p6 S23) fun t24=>
K (.tup [t24,(.bool true),(.int .i64 0)]) S23) (wR (aD prog 28 p0 p9) fun t25=>
wR (aA prog 132 t25 1) fun t26=>
wR (aB prog 3 t26 S) fun t27=>
wR (aH prog .lss 3 p2 t27) fun t28=>
aE t28 (wR (aR prog 48 []) fun t29=>
wR (aG prog 48 p6 t29 S) fun S30=>
wR (aB prog 48 p6 S30) fun t31=>
K (.tup [t31,(.bool false),(.int .i64 16)]) S30) (wR (aR prog 48 []) fun t32=>
wR (aG prog 48 p6 t32 S) fun S33=>
wR (aB prog 48 p6 S33) fun t34=>
K (.tup [t34,(.bool false),(.int .i64 0)]) S33))))
noncomputable def aSb (C:aC) (a0 a1 a2:V) (S:St) (K:KW):Prop:=
wR (aJ none S (.row 0 3 [[.int .i64 0,.int .i64 0,.int .i64 0]])) fun r0=>
C 166 [a0] r0.2 fun t1 S2=>
wR (jE .not t1) fun t3=>
aE t3 (wR (aR prog 48 []) fun t4=>
wR (aG prog 48 (.ptr r0.1 0 0 0) t4 S2) fun S5=>
wR (aB prog 48 (.ptr r0.1 0 0 0) S5) fun t6=>
K (.tup [t6,(.bool false),(.int .i64 1)]) S5) (C 174 [a0,a1] S2 fun t7 S8=>
wR (aH prog .lss 3 t7 (.int .i64 0)) fun t9=>
aE t9 (wR (aR prog 48 []) fun t10=>
wR (aG prog 48 (.ptr r0.1 0 0 0) t10 S8) fun S11=>
wR (aB prog 48 (.ptr r0.1 0 0 0) S11) fun t12=>
K (.tup [t12,(.bool false),(.int .i64 15)]) S11) (wR (aH prog .lss 3 a2 (.int .i64 1)) fun t35=>
aE t35 (aF2 C K a0 a2 (.ptr r0.1 0 0 0) t7 (.bool true) S8) (wR (aH prog .gtr 3 a2 (.int .i64 1099511627776)) fun t36=>
aF2 C K a0 a2 (.ptr r0.1 0 0 0) t7 t36 S8)))
theorem aSc:(fun (C:aC) (a0 a1 a2:V) (S:St) (K:KW)=>aN prog C (bD 105) (bF 105) 105 [a0,a1,a2] S K)=fun C a0 a1 a2 S K=>aSb C a0 a1 a2 S K:=by kernel_rfl
noncomputable def aSd (C:aC) (a0 a1:V) (S:St) (K:KW):Prop:=
bS (aM (a1:V).cells) (wR (aJ none S (.row 0 (a1:V).cells.length [(a1:V).cells])) fun r0=>
wR (aJ none r0.2 (.row 0 3 [[.int .i64 0,.int .i64 0,.int .i64 0]])) fun r1=>
wR (aA prog 59 (.ptr r0.1 0 0 0) 0) fun t2=>
wR (aB prog 3 t2 r1.2) fun t3=>
bS (aL prog 3 t3 (.int .i64 1)) (wR (aH prog .eql 3 t3 (.int .i64 1)) fun t4=>
aE t4 (gE a0 (wR (aA prog 30 a0 1) fun t5=>
wR (aB prog 25 t5 (⟨r1.2.next+14,r1.2.heap⟩:St)) fun t6=>
wR (aA prog 59 (.ptr r0.1 0 0 0) 1) fun t7=>
wR (aB prog 9 t7 (⟨r1.2.next+14,r1.2.heap⟩:St)) fun t8=>
wR (aA prog 59 (.ptr r0.1 0 0 0) 2) fun t9=>
wR (aB prog 3 t9 (⟨r1.2.next+14,r1.2.heap⟩:St)) fun t10=>
C 175 [t6,t8,t10] (⟨r1.2.next+14,r1.2.heap⟩:St) fun t11 S12=>
bI t11 0 fun t13=>
bI t11 1 fun t14=>
gE a0 (wR (aA prog 30 a0 1) fun t15=>
C 176 [t15,t13,t14] S12 fun t16 S17=>
wR (aG prog 48 (.ptr r1.1 0 0 0) t16 S17) fun S18=>
wR (aB prog 48 (.ptr r1.1 0 0 0) S18) fun t19=>
K t19 S18))) (bS (aL prog 3 t3 (.int .i64 2)) (wR (aH prog .eql 3 t3 (.int .i64 2)) fun t20=>
aE t20 (gE a0 (wR (aA prog 30 a0 1) fun t21=>
wR (aB prog 25 t21 (⟨r1.2.next+12,r1.2.heap⟩:St)) fun t22=>
wR (aA prog 59 (.ptr r0.1 0 0 0) 1) fun t23=>
wR (aB prog 9 t23 (⟨r1.2.next+12,r1.2.heap⟩:St)) fun t24=>
C 177 [t22,t24] (⟨r1.2.next+12,r1.2.heap⟩:St) fun t25 S26=>
bI t25 0 fun t27=>
bI t25 1 fun t28=>
gE a0 (wR (aA prog 30 a0 1) fun t29=>
C 176 [t29,t27,t28] S26 fun t30 S31=>
wR (aG prog 48 (.ptr r1.1 0 0 0) t30 S31) fun S32=>
wR (aB prog 48 (.ptr r1.1 0 0 0) S32) fun t33=>
K t33 S32))) (bS (aL prog 3 t3 (.int .i64 3)) (wR (aH prog .eql 3 t3 (.int .i64 3)) fun t34=>
aE t34 (gE a0 (wR (aA prog 30 a0 0) fun t35=>
wR (aB prog 24 t35 (⟨r1.2.next+12,r1.2.heap⟩:St)) fun t36=>
wR (aA prog 59 (.ptr r0.1 0 0 0) 3) fun t37=>
wR (aB prog 54 t37 (⟨r1.2.next+12,r1.2.heap⟩:St)) fun t38=>
C 178 [t36,t38] (⟨r1.2.next+12,r1.2.heap⟩:St) fun t39 S40=>
bI t39 0 fun t41=>
bI t39 1 fun t42=>
gE a0 (wR (aA prog 30 a0 0) fun t43=>
C 179 [t43,t41,t42] S40 fun t44 S45=>
wR (aG prog 48 (.ptr r1.1 0 0 0) t44 S45) fun S46=>
wR (aB prog 48 (.ptr r1.1 0 0 0) S46) fun t47=>
K t47 S46))) (bS (aL prog 3 t3 (.int .i64 4)) (wR (aH prog .eql 3 t3 (.int .i64 4)) fun t48=>
aE t48 (wR (aB prog 59 (.ptr r0.1 0 0 0) r1.2) fun t49=>
C 180 [a0,t49] r1.2 fun t50 S51=>
wR (aG prog 48 (.ptr r1.1 0 0 0) t50 S51) fun S52=>
wR (aB prog 48 (.ptr r1.1 0 0 0) S52) fun t53=>
K t53 S52) (bS (aL prog 3 t3 (.int .i64 5)) (wR (aH prog .eql 3 t3 (.int .i64 5)) fun t54=>
aE t54 (wR (aB prog 59 (.ptr r0.1 0 0 0) r1.2) fun t55=>
C 181 [a0,t55] r1.2 fun t56 S57=>
wR (aG prog 48 (.ptr r1.1 0 0 0) t56 S57) fun S58=>
wR (aB prog 48 (.ptr r1.1 0 0 0) S58) fun t59=>
K t59 S58) (bS (aL prog 3 t3 (.int .i64 7)) (wR (aH prog .eql 3 t3 (.int .i64 7)) fun t60=>
aE t60 (gE a0 (wR (aA prog 30 a0 4) fun t61=>
wR (aB prog 28 t61 (⟨r1.2.next+12,r1.2.heap⟩:St)) fun t62=>
wR (aA prog 59 (.ptr r0.1 0 0 0) 7) fun t63=>
wR (aB prog 3 t63 (⟨r1.2.next+12,r1.2.heap⟩:St)) fun t64=>
C 182 [t62,t64] (⟨r1.2.next+12,r1.2.heap⟩:St) fun t65 S66=>
bI t65 0 fun t67=>
bI t65 1 fun t68=>
gE a0 (wR (aA prog 30 a0 4) fun t69=>
C 183 [t69,t67,t68] S66 fun t70 S71=>
wR (aG prog 48 (.ptr r1.1 0 0 0) t70 S71) fun S72=>
wR (aB prog 48 (.ptr r1.1 0 0 0) S72) fun t73=>
K t73 S72))) (wR (aA prog 59 (.ptr r0.1 0 0 0) 1) fun t74=>
wR (aB prog 9 t74 r1.2) fun t75=>
C 184 [a0,t75] r1.2 fun t76 S77=>
wR (aG prog 48 (.ptr r1.1 0 0 0) t76 S77) fun S78=>
wR (aB prog 48 (.ptr r1.1 0 0 0) S78) fun t79=>
K t79 S78)))))))))))))
theorem aSe:(fun (C:aC) (a0 a1:V) (S:St) (K:KW)=>aN prog C (bD 106) (bF 106) 106 [a0,a1] S K)=fun C a0 a1 S K=>aSd C a0 a1 S K:=by kernel_rfl
noncomputable def aSf (C:aC) (a0 a1 a2 a3:V) (S:St) (K:KW):Prop:=
bS (aM (a3:V).cells) (wR (aJ none S (.row 0 (a3:V).cells.length [(a3:V).cells])) fun r0=>
C 105 [a0,a1,a2] r0.2 fun t1 S2=>
bI t1 0 fun t3=>
bI t1 1 fun t4=>
bI t1 2 fun t5=>
wR (aJ none S2 (.row 0 3 [[.int .i64 0,.int .i64 0,.int .i64 0]])) fun r6=>
wR (aG prog 48 (.ptr r6.1 0 0 0) t3 r6.2) fun S7=>
bS (aL prog 31 t5 (.int .i64 0)) (wR (aH prog .neq 31 t5 (.int .i64 0)) fun t8=>
aE t8 (K (.tup [(.nils),t5]) S7) (aE t4 (K (.tup [(.nils),(.int .i64 12)]) S7) (wR (aV prog 28 (.nils) a0 none S7) fun r9=>
C 174 [r9.1,a1] r9.2 fun t10 S11=>
wR (aB prog 48 (.ptr r0.1 0 0 0) (⟨S11.next+12,S11.heap⟩:St)) fun t12=>
wR (aD prog 28 r9.1 t10) fun t13=>
wR (aA prog 132 t13 1) fun t14=>
wR (aG prog 3 t14 a2 (⟨S11.next+12,S11.heap⟩:St)) fun S15=>
wR (aB prog 48 (.ptr r0.1 0 0 0) S15) fun t16=>
bS (dI t12 t16) (wR (aD prog 28 r9.1 t10) fun t17=>
wR (aA prog 132 t17 2) fun t18=>
wR (aG prog 48 t18 t12 S15) fun S19=>
K (.tup [r9.1,(.int .i64 0)]) S19)))))
theorem aSg:(fun (C:aC) (a0 a1 a2 a3:V) (S:St) (K:KW)=>aN prog C (bD 107) (bF 107) 107 [a0,a1,a2,a3] S K)=fun C a0 a1 a2 a3 S K=>aSf C a0 a1 a2 a3 S K:=by kernel_rfl
noncomputable def aSh (C:aC) (a0:V) (S:St) (K:KW):Prop:=
bS (aM (a0:V).cells) (wR (aJ none S (.row 0 (a0:V).cells.length [(a0:V).cells])) fun r0=>
wR (aA prog 52 (.ptr r0.1 0 0 0) 0) fun t1=>
wR (aB prog 3 t1 (⟨r0.2.next+34,r0.2.heap⟩:St)) fun t2=>
wR (aH prog .geq 3 t2 (.int .i64 1)) fun t3=>
aE t3 (wR (aA prog 52 (.ptr r0.1 0 0 0) 0) fun t4=>
wR (aB prog 3 t4 (⟨r0.2.next+34,r0.2.heap⟩:St)) fun t5=>
wR (aH prog .leq 3 t5 (.int .i64 9999)) fun t6=>
aE t6 (wR (aA prog 52 (.ptr r0.1 0 0 0) 1) fun t7=>
wR (aB prog 3 t7 (⟨r0.2.next+34,r0.2.heap⟩:St)) fun t8=>
wR (aH prog .geq 3 t8 (.int .i64 1)) fun t9=>
aE t9 (wR (aA prog 52 (.ptr r0.1 0 0 0) 1) fun t10=>
wR (aB prog 3 t10 (⟨r0.2.next+34,r0.2.heap⟩:St)) fun t11=>
wR (aH prog .leq 3 t11 (.int .i64 12)) fun t12=>
aE t12 (wR (aA prog 52 (.ptr r0.1 0 0 0) 2) fun t13=>
wR (aB prog 3 t13 (⟨r0.2.next+34,r0.2.heap⟩:St)) fun t14=>
wR (aH prog .geq 3 t14 (.int .i64 1)) fun t15=>
aE t15 (wR (aA prog 52 (.ptr r0.1 0 0 0) 2) fun t16=>
wR (aB prog 3 t16 (⟨r0.2.next+34,r0.2.heap⟩:St)) fun t17=>
wR (aA prog 52 (.ptr r0.1 0 0 0) 0) fun t18=>
wR (aB prog 3 t18 (⟨r0.2.next+34,r0.2.heap⟩:St)) fun t19=>
wR (aA prog 52 (.ptr r0.1 0 0 0) 1) fun t20=>
wR (aB prog 3 t20 (⟨r0.2.next+34,r0.2.heap⟩:St)) fun t21=>
C 132 [t19,t21] (⟨r0.2.next+34,r0.2.heap⟩:St) fun t22 S23=>
wR (aB prog 3 t16 S23) fun t24=>
bS (dI t17 t24) (wR (aH prog .leq 3 t17 t22) fun t25=>
K t25 S23)) (K (.bool false) (⟨r0.2.next+34,r0.2.heap⟩:St))) (K (.bool false) (⟨r0.2.next+34,r0.2.heap⟩:St))) (K (.bool false) (⟨r0.2.next+34,r0.2.heap⟩:St))) (K (.bool false) (⟨r0.2.next+34,r0.2.heap⟩:St))) (K (.bool false) (⟨r0.2.next+34,r0.2.heap⟩:St)))
theorem aSi:(fun (C:aC) (a0:V) (S:St) (K:KW)=>aN prog C (bD 123) (bF 123) 123 [a0] S K)=fun C a0 S K=>aSh C a0 S K:=by kernel_rfl
noncomputable def aSj (C:aC) (a0 a1:V) (S:St) (K:KW):Prop:=
bS (aM (a0:V).cells) (wR (aJ none S (.row 0 (a0:V).cells.length [(a0:V).cells])) fun r0=>
bS (aM (a1:V).cells) (wR (aJ none r0.2 (.row 0 (a1:V).cells.length [(a1:V).cells])) fun r1=>
wR (aB prog 52 (.ptr r0.1 0 0 0) (⟨r1.2.next+14,r1.2.heap⟩:St)) fun t2=>
C 123 [t2] (⟨r1.2.next+14,r1.2.heap⟩:St) fun t3 S4=>
aE t3 (wR (aB prog 52 (.ptr r1.1 0 0 0) S4) fun t5=>
C 123 [t5] S4 fun t6 S7=>
aE t6 (wR (aB prog 52 (.ptr r0.1 0 0 0) S7) fun t8=>
wR (aB prog 52 (.ptr r1.1 0 0 0) S7) fun t9=>
C 200 [t8] S7 fun t10 S11=>
wR (aB prog 52 (.ptr r1.1 0 0 0) S11) fun t12=>
bS (dI t9 t12) (C 200 [t9] S11 fun t13 S14=>
wR (aH prog .lss 3 t10 t13) fun t15=>
K t15 S14)) (K (.bool false) S7)) (K (.bool false) S4)))
theorem aSk:(fun (C:aC) (a0 a1:V) (S:St) (K:KW)=>aN prog C (bD 124) (bF 124) 124 [a0,a1] S K)=fun C a0 a1 S K=>aSj C a0 a1 S K:=by kernel_rfl
noncomputable def aA6 (C:aC) (K:KW) (p0 p3 p6:V) (S:St)  :Prop:=
wR (aD prog 68 p0 p6) fun t1=>
wR (aA prog 76 t1 2) fun t2=>
wR (aB prog 3 t2 (⟨S.next+13,S.heap⟩:St)) fun t3=>
wR (aA prog 145 p3 2) fun t4=>
wR (aB prog 3 t4 (⟨S.next+13,S.heap⟩:St)) fun t5=>
C 203 [t3,t5] (⟨S.next+13,S.heap⟩:St) fun t6 S7=>
bI t6 0 fun t8=>
bI t6 1 fun t9=>
wR (aD prog 68 p0 p6) fun t10=>
wR (aA prog 76 t10 3) fun t11=>
wR (aB prog 3 t11 (⟨S7.next+13,S7.heap⟩:St)) fun t12=>
wR (aA prog 145 p3 3) fun t13=>
wR (aB prog 3 t13 (⟨S7.next+13,S7.heap⟩:St)) fun t14=>
C 203 [t12,t14] (⟨S7.next+13,S7.heap⟩:St) fun t15 S16=>
bI t15 0 fun t17=>
bI t15 1 fun t18=>
bS (aL prog 31 t9 (.int .i64 0)) (wR (aH prog .neq 31 t9 (.int .i64 0)) fun t19=>
aE t19 (K (.tup [(.nils),(.int .i64 7)]) S16) (bS (aL prog 31 t18 (.int .i64 0)) (wR (aH prog .neq 31 t18 (.int .i64 0)) fun t20=>
aE t20 (K (.tup [(.nils),(.int .i64 7)]) S16) (wR (aD prog 68 p0 p6) fun t21=>
wR (aA prog 76 t21 2) fun t22=>
wR (aG prog 3 t22 t8 S16) fun S23=>
wR (aD prog 68 p0 p6) fun t24=>
wR (aA prog 76 t24 3) fun t25=>
wR (aG prog 3 t25 t17 S23) fun S26=>
K (.tup [p0,(.int .i64 0)]) S26))))
noncomputable def rY (C:aC) (K:KW) (p0 p3 p6 p48:V) (S:St)  :Prop:=
aE p48 (wR (aA prog 145 p3 0) fun t27=>
wR (aB prog 9 t27 S) fun t28=>
wR (aA prog 145 p3 1) fun t29=>
wR (aB prog 3 t29 S) fun t30=>
wR (aR prog 76 [(0,t28),(1,t30)]) fun t31=>
wR (aK prog 68 1 [(0,t31)] none S) fun r32=>
C 202 [p0,p6,r32.1] r32.2 fun t33 S34=>
aA6 C K t33 p3 p6 S34) (aA6 C K p0 p3 p6 S)
noncomputable def aA7 (C:aC) (K:KW) (p0 p3 p6:V) (S:St)  :Prop:=
wR (bG prog 68 p0 (⟨S.next+24,S.heap⟩:St)) fun t35=>
bS (aL prog 3 p6 t35) (wR (aH prog .eql 3 p6 t35) fun t36=>
aE t36 (rY C K p0 p3 p6 (.bool true) (⟨S.next+24,S.heap⟩:St)) (wR (aD prog 68 p0 p6) fun t37=>
wR (aA prog 76 t37 0) fun t38=>
wR (aB prog 9 t38 (⟨S.next+24,S.heap⟩:St)) fun t39=>
wR (aA prog 145 p3 0) fun t40=>
wR (aB prog 9 t40 (⟨S.next+24,S.heap⟩:St)) fun t41=>
bS (aL prog 9 t39 t41) (wR (aH prog .neq 9 t39 t41) fun t42=>
aE t42 (rY C K p0 p3 p6 (.bool true) (⟨S.next+24,S.heap⟩:St)) (wR (aD prog 68 p0 p6) fun t43=>
wR (aA prog 76 t43 1) fun t44=>
wR (aB prog 3 t44 (⟨S.next+24,S.heap⟩:St)) fun t45=>
wR (aA prog 145 p3 1) fun t46=>
wR (aB prog 3 t46 (⟨S.next+24,S.heap⟩:St)) fun t47=>
bS (aL prog 3 t45 t47) (wR (aH prog .neq 3 t45 t47) fun t48=>
rY C K p0 p3 p6 t48 (⟨S.next+24,S.heap⟩:St))))))
noncomputable def aF3 (C:aC) (K:KW) (p0 p3:V) (vs:List V) (S:St) (again0:List V→St→Prop)  :Prop:=
eC vs fun x6 vs=>
wR (bG prog 68 p0 (⟨S.next+12,S.heap⟩:St)) fun t49=>
wR (aH prog .lss 3 x6 t49) fun t50=>
aE t50 (wR (aD prog 68 p0 x6) fun t51=>
wR (aB prog 76 t51 (⟨S.next+12,S.heap⟩:St)) fun t52=>
wR (aB prog 145 p3 (⟨S.next+12,S.heap⟩:St)) fun t53=>
C 201 [t52,t53] (⟨S.next+12,S.heap⟩:St) fun t54 S55=>
aE t54 (wR (aH prog .add 3 x6 (.int .i64 1)) fun t56=>
again0 [t56] S55) (aA7 C K p0 p3 x6 S55)) (aA7 C K p0 p3 x6 (⟨S.next+12,S.heap⟩:St))
noncomputable def aSl (C:aC) (a0 a1:V) (S:St) (K:KW):Prop:=
bS (aM (a1:V).cells) (wR (aJ none S (.row 0 (a1:V).cells.length [(a1:V).cells])) fun r0=>
cR [(.int .i64 0)] r0.2 (aF3 C K a0 (.ptr r0.1 0 0 0)))
theorem aSm:(fun (C:aC) (a0 a1:V) (S:St) (K:KW)=>aN prog C (bD 125) (bF 125) 125 [a0,a1] S K)=fun C a0 a1 S K=>aSl C a0 a1 S K:=by kernel_rfl
noncomputable def aSn (C:aC) (a0:V) (S:St) (K:KW):Prop:=
wR (aJ none S (.row 0 17 [[.int .i64 0,.int .i64 0,.int .i64 0,.str [],.int .i64 0,.str [],.int .i64 0,.int .i64 0,.int .i64 0,.int .i64 0,.int .i64 0,.int .i64 0,.int .i64 0,.nils,.str [],.int .i64 0,.int .i64 0]])) fun r0=>
C 46 [(.int .i64 15)] r0.2 fun t1 S2=>
wR (aR prog 201 [(1,(.str [115,116,100])),(2,(.int .i64 1)),(3,(.int .i64 100))]) fun t3=>
wR (aK prog 55 1 [(0,t3)] none S2) fun r4=>
wR (aR prog 59 [(0,(.int .i64 4)),(1,(.str [97])),(4,t1),(5,r4.1)]) fun t5=>
wR (aR prog 61 [(0,(.int .i64 1)),(1,a0),(2,t5)]) fun t6=>
wR (aG prog 61 (.ptr r0.1 0 0 0) t6 r4.2) fun S7=>
wR (aB prog 61 (.ptr r0.1 0 0 0) S7) fun t8=>
K t8 S7
theorem aSo:(fun (C:aC) (a0:V) (S:St) (K:KW)=>aN prog C (bD 128) (bF 128) 128 [a0] S K)=fun C a0 S K=>aSn C a0 S K:=by kernel_rfl
noncomputable def aSp (C:aC) (a0 a1:V) (S:St) (K:KW):Prop:=
wR (aJ none S (.row 0 12 [[.str [],.int .i64 0,.int .i64 0,.int .i64 0,.int .i64 0,.int .i64 0,.int .i64 0,.int .i64 0,.nils,.str [],.int .i64 0,.bool false]])) fun r0=>
wR (aR prog 57 [(0,a0),(1,a1)]) fun t1=>
wR (aR prog 84 [(0,t1)]) fun t2=>
wR (aG prog 84 (.ptr r0.1 0 0 0) t2 r0.2) fun S3=>
wR (aB prog 84 (.ptr r0.1 0 0 0) S3) fun t4=>
K t4 S3
theorem aSq:(fun (C:aC) (a0 a1:V) (S:St) (K:KW)=>aN prog C (bD 129) (bF 129) 129 [a0,a1] S K)=fun C a0 a1 S K=>aSp C a0 a1 S K:=by kernel_rfl
noncomputable def aF4 (C:aC) (K:KW) (p0 p1:V) (vs:List V) (S:St) (again0:List V→St→Prop)  :Prop:=
eC vs fun x4 vs=>
eC vs fun x5 vs=>
wR (bG prog 68 p0 S) fun t3=>
wR (aH prog .lss 3 x5 t3) fun t4=>
aE t4 (wR (aD prog 68 p0 x5) fun t5=>
wR (aB prog 76 t5 (⟨S.next+9,S.heap⟩:St)) fun t6=>
wR (aD prog 68 p1 x5) fun t7=>
wR (aB prog 76 t7 (⟨S.next+9,S.heap⟩:St)) fun t8=>
bS (aL prog 76 t6 t8) (wR (aH prog .neq 76 t6 t8) fun t9=>
aE t9 (K (.bool false) (⟨S.next+9,S.heap⟩:St)) (wR (aH prog .add 3 x5 (.int .i64 1)) fun t10=>
again0 [x4,t10] (⟨S.next+9,S.heap⟩:St)))) (K (.bool true) S)
noncomputable def aSr (C:aC) (a0 a1:V) (S:St) (K:KW):Prop:=
wR (bG prog 68 a0 S) fun t0=>
wR (bG prog 68 a1 S) fun t1=>
bS (aL prog 3 t0 t1) (wR (aH prog .neq 3 t0 t1) fun t2=>
aE t2 (K (.bool false) S) (cR [(.bool false),(.int .i64 0)] S (aF4 C K a0 a1)))
theorem aSs:(fun (C:aC) (a0 a1:V) (S:St) (K:KW)=>aN prog C (bD 130) (bF 130) 130 [a0,a1] S K)=fun C a0 a1 S K=>aSr C a0 a1 S K:=by kernel_rfl
noncomputable def aSt (C:aC) (a0:V) (S:St) (K:KW):Prop:=
wR (aH prog .sub 3 a0 (.int .i64 1)) fun t0=>
wR (aH prog .mul 3 (.int .i64 365) t0) fun t1=>
wR (aH prog .quo 3 t0 (.int .i64 4)) fun t2=>
wR (aH prog .add 3 t1 t2) fun t3=>
wR (aH prog .quo 3 t0 (.int .i64 100)) fun t4=>
wR (aH prog .sub 3 t3 t4) fun t5=>
wR (aH prog .quo 3 t0 (.int .i64 400)) fun t6=>
wR (aH prog .add 3 t5 t6) fun t7=>
K t7 S
theorem aSu:(fun (C:aC) (a0:V) (S:St) (K:KW)=>aN prog C (bD 131) (bF 131) 131 [a0] S K)=fun C a0 S K=>aSt C a0 S K:=by kernel_rfl
noncomputable def aSv (C:aC) (a0 a1:V) (S:St) (K:KW):Prop:=
bS (aL prog 3 a1 (.int .i64 2)) (wR (aH prog .eql 3 a1 (.int .i64 2)) fun t0=>
aE t0 (C 204 [a0] S fun t1 S2=>
aE t1 (K (.int .i64 29) S2) (K (.int .i64 28) S2)) (bS (aL prog 3 a1 (.int .i64 4)) (wR (aH prog .eql 3 a1 (.int .i64 4)) fun t3=>
aE t3 (K (.int .i64 30) S) (bS (aL prog 3 a1 (.int .i64 6)) (wR (aH prog .eql 3 a1 (.int .i64 6)) fun t4=>
aE t4 (K (.int .i64 30) S) (bS (aL prog 3 a1 (.int .i64 9)) (wR (aH prog .eql 3 a1 (.int .i64 9)) fun t5=>
aE t5 (K (.int .i64 30) S) (bS (aL prog 3 a1 (.int .i64 11)) (wR (aH prog .eql 3 a1 (.int .i64 11)) fun t6=>
aE t6 (K (.int .i64 30) S) (K (.int .i64 31) S))))))))))
theorem aSw:(fun (C:aC) (a0 a1:V) (S:St) (K:KW)=>aN prog C (bD 132) (bF 132) 132 [a0,a1] S K)=fun C a0 a1 S K=>aSv C a0 a1 S K:=by kernel_rfl
noncomputable def aF5 (C:aC) (K:KW) (p0 p1 p7:V) (vs:List V) (S:St) (again0:List V→St→Prop)  :Prop:=
eC vs fun x4 vs=>
eC vs fun x8 vs=>
wR (aH prog .lss 3 x8 p7) fun t1=>
aE t1 (wR (aD prog 25 p0 x8) fun t2=>
wR (aB prog 126 t2 S) fun t3=>
aEt prog C p1 [t3] S fun t4 S5=>
aE t4 (K x8 S5) (wR (aH prog .add 3 x8 (.int .i64 1)) fun t6=>
again0 [x4,t6] S5)) (K (.int .i64 (-1)) S)
noncomputable def aYy (C:aC) (a0 a1:V) (S:St) (K:KW):Prop:=
wR (bG prog 25 a0 S) fun t0=>
cR [(.int .i64 0),(.int .i64 0)] S (aF5 C K a0 a1 t0)
theorem aSx:(fun (C:aC) (a0 a1:V) (S:St) (K:KW)=>aN prog C (bD 152) (bF 152) 152 [a0,a1] S K)=fun C a0 a1 S K=>aYy C a0 a1 S K:=by kernel_rfl
noncomputable def aF6 (C:aC) (K:KW) (p0 p1 p7:V) (vs:List V) (S:St) (again0:List V→St→Prop)  :Prop:=
eC vs fun x4 vs=>
eC vs fun x8 vs=>
wR (aH prog .lss 3 x8 p7) fun t1=>
aE t1 (wR (aD prog 26 p0 x8) fun t2=>
wR (aB prog 84 t2 S) fun t3=>
aEt prog C p1 [t3] S fun t4 S5=>
aE t4 (K x8 S5) (wR (aH prog .add 3 x8 (.int .i64 1)) fun t6=>
again0 [x4,t6] S5)) (K (.int .i64 (-1)) S)
noncomputable def aYz (C:aC) (a0 a1:V) (S:St) (K:KW):Prop:=
wR (bG prog 26 a0 S) fun t0=>
cR [(.int .i64 0),(.int .i64 0)] S (aF6 C K a0 a1 t0)
theorem aSy:(fun (C:aC) (a0 a1:V) (S:St) (K:KW)=>aN prog C (bD 155) (bF 155) 155 [a0,a1] S K)=fun C a0 a1 S K=>aYz C a0 a1 S K:=by kernel_rfl
noncomputable def aF7 (C:aC) (K:KW) (p16 p17:V) (vs:List V) (S:St) (again0:List V→St→Prop)  :Prop:=
eC vs fun x2 vs=>
eC vs fun x3 vs=>
eC vs fun x4 vs=>
eC vs fun x18 vs=>
wR (aH prog .lss 3 x18 p17) fun t8=>
aE t8 (wR (aD prog 80 p16 x18) fun t9=>
wR (aB prog 145 t9 S) fun t10=>
wR (aJ none S (.row 0 4 [[.str [],.int .i64 0,.int .i64 0,.int .i64 0]])) fun r11=>
wR (aG prog 145 (.ptr r11.1 0 0 0) t10 r11.2) fun S12=>
wR (aA prog 145 (.ptr r11.1 0 0 0) 2) fun t13=>
wR (aB prog 3 t13 S12) fun t14=>
C 219 [(.int .i64 0),t14] S12 fun t15 S16=>
bI t15 0 fun t17=>
bI t15 1 fun t18=>
wR (aA prog 145 (.ptr r11.1 0 0 0) 3) fun t19=>
wR (aB prog 3 t19 S16) fun t20=>
C 219 [(.int .i64 0),t20] S16 fun t21 S22=>
bI t21 0 fun t23=>
bI t21 1 fun t24=>
bS (aL prog 31 t18 (.int .i64 0)) (wR (aH prog .neq 31 t18 (.int .i64 0)) fun t25=>
aE t25 (K (.tup [(.nils),(.int .i64 7)]) S22) (bS (aL prog 31 t24 (.int .i64 0)) (wR (aH prog .neq 31 t24 (.int .i64 0)) fun t26=>
aE t26 (K (.tup [(.nils),(.int .i64 7)]) S22) (wR (aA prog 145 (.ptr r11.1 0 0 0) 0) fun t27=>
wR (aB prog 9 t27 S22) fun t28=>
wR (aH prog .add 9 (.str [110,101,116,47]) t28) fun t29=>
wR (aR prog 90 [(0,t29),(1,t17)]) fun t30=>
wR (aA prog 145 (.ptr r11.1 0 0 0) 0) fun t31=>
wR (aB prog 9 t31 S22) fun t32=>
wR (aH prog .add 9 (.str [116,97,120,47]) t32) fun t33=>
wR (aR prog 90 [(0,t33),(1,t23)]) fun t34=>
wR (aK prog 27 2 [(0,t30),(1,t34)] none S22) fun r35=>
wR (aV prog 27 x4 r35.1 none r35.2) fun r36=>
wR (aH prog .add 3 x18 (.int .i64 1)) fun t37=>
again0 [x2,x3,r36.1,t37] r36.2))))) (K (.tup [x4,(.int .i64 0)]) S)
noncomputable def aSz (C:aC) (a0:V) (S:St) (K:KW):Prop:=
bS (aM (a0:V).cells) (wR (aJ none S (.row 0 (a0:V).cells.length [(a0:V).cells])) fun r0=>
wR (aA prog 82 (.ptr r0.1 0 0 0) 2) fun t1=>
wR (aB prog 3 t1 r0.2) fun t2=>
wR (aR prog 90 [(0,(.str [111,119,101,100])),(1,t2)]) fun t3=>
wR (aK prog 27 1 [(0,t3)] none r0.2) fun r4=>
wR (aA prog 82 (.ptr r0.1 0 0 0) 3) fun t5=>
wR (aB prog 80 t5 r4.2) fun t6=>
wR (bG prog 80 t6 r4.2) fun t7=>
cR [(.nils),(.int .i64 0),r4.1,(.int .i64 0)] r4.2 (aF7 C K t6 t7))
theorem aT0:(fun (C:aC) (a0:V) (S:St) (K:KW)=>aN prog C (bD 157) (bF 157) 157 [a0] S K)=fun C a0 S K=>aSz C a0 S K:=by kernel_rfl
noncomputable def aA8 (C:aC) (K:KW) (again0:List V→St→Prop) (p4 p5 p6 p8 p9 p17 p18 p19:V) (S:St)  :Prop:=
wR (aD prog 27 p6 p9) fun t10=>
wR (aA prog 90 t10 1) fun t11=>
wR (aB prog 3 t11 (⟨S.next+13,S.heap⟩:St)) fun t12=>
wR (aA prog 90 p8 1) fun t13=>
wR (aB prog 3 t13 (⟨S.next+13,S.heap⟩:St)) fun t14=>
C 203 [t12,t14] (⟨S.next+13,S.heap⟩:St) fun t15 S16=>
bI t15 0 fun t17=>
bI t15 1 fun t18=>
bS (aL prog 31 t18 (.int .i64 0)) (wR (aH prog .neq 31 t18 (.int .i64 0)) fun t19=>
aE t19 (K (.tup [(.nils),t18]) S16) (wR (aD prog 27 p6 p9) fun t20=>
wR (aA prog 90 t20 1) fun t21=>
wR (aG prog 3 t21 t17 S16) fun S22=>
wR (aH prog .add 3 p19 (.int .i64 1)) fun t23=>
again0 [p4,p5,p6,t23] S22))
noncomputable def vS (C:aC) (K:KW) (again0:List V→St→Prop) (p4 p5 p6 p8 p9 p17 p18 p19 p52:V) (S:St)  :Prop:=
aE p52 (wR (aA prog 90 p8 0) fun t24=>
wR (aB prog 9 t24 S) fun t25=>
wR (aR prog 90 [(0,t25)]) fun t26=>
wR (aK prog 27 1 [(0,t26)] none S) fun r27=>
C 221 [p6,p9,r27.1] r27.2 fun t28 S29=>
aA8 C K again0 p4 p5 t28 p8 p9 p17 p18 p19 S29) (aA8 C K again0 p4 p5 p6 p8 p9 p17 p18 p19 S)
noncomputable def aA9 (C:aC) (K:KW) (again0:List V→St→Prop) (p4 p5 p6 p8 p9 p17 p18 p19:V) (S:St)  :Prop:=
wR (bG prog 27 p6 (⟨S.next+14,S.heap⟩:St)) fun t30=>
bS (aL prog 3 p9 t30) (wR (aH prog .eql 3 p9 t30) fun t31=>
aE t31 (vS C K again0 p4 p5 p6 p8 p9 p17 p18 p19 (.bool true) (⟨S.next+14,S.heap⟩:St)) (wR (aD prog 27 p6 p9) fun t32=>
wR (aA prog 90 t32 0) fun t33=>
wR (aB prog 9 t33 (⟨S.next+14,S.heap⟩:St)) fun t34=>
wR (aA prog 90 p8 0) fun t35=>
wR (aB prog 9 t35 (⟨S.next+14,S.heap⟩:St)) fun t36=>
bS (aL prog 9 t34 t36) (wR (aH prog .neq 9 t34 t36) fun t37=>
vS C K again0 p4 p5 p6 p8 p9 p17 p18 p19 t37 (⟨S.next+14,S.heap⟩:St))))
noncomputable def aF8 (C:aC) (K:KW) (again0:List V→St→Prop) (p4 p5 p6 p8 p17 p18 p19:V) (vs:List V) (S:St) (again1:List V→St→Prop)  :Prop:=
eC vs fun x9 vs=>
wR (bG prog 27 p6 (⟨S.next+14,S.heap⟩:St)) fun t38=>
wR (aH prog .lss 3 x9 t38) fun t39=>
aE t39 (wR (aD prog 27 p6 x9) fun t40=>
wR (aA prog 90 t40 0) fun t41=>
wR (aB prog 9 t41 (⟨S.next+14,S.heap⟩:St)) fun t42=>
wR (aA prog 90 p8 0) fun t43=>
wR (aB prog 9 t43 (⟨S.next+14,S.heap⟩:St)) fun t44=>
wR (aH prog .lss 9 t42 t44) fun t45=>
aE t45 (wR (aH prog .add 3 x9 (.int .i64 1)) fun t46=>
again1 [t46] (⟨S.next+14,S.heap⟩:St)) (aA9 C K again0 p4 p5 p6 p8 x9 p17 p18 p19 (⟨S.next+14,S.heap⟩:St))) (aA9 C K again0 p4 p5 p6 p8 x9 p17 p18 p19 (⟨S.next+14,S.heap⟩:St))
noncomputable def aF9 (C:aC) (K:KW) (p17 p18:V) (vs:List V) (S:St) (again0:List V→St→Prop)  :Prop:=
eC vs fun x4 vs=>
eC vs fun x5 vs=>
eC vs fun x6 vs=>
eC vs fun x19 vs=>
wR (aH prog .lss 3 x19 p18) fun t5=>
aE t5 (wR (aD prog 27 p17 x19) fun t6=>
wR (aB prog 90 t6 S) fun t7=>
wR (aJ none S (.row 0 2 [[.str [],.int .i64 0]])) fun r8=>
wR (aG prog 90 (.ptr r8.1 0 0 0) t7 r8.2) fun S9=>
cR [(.int .i64 0)] S9 (aF8 C K again0 x4 x5 x6 (.ptr r8.1 0 0 0) p17 p18 x19)) (K (.tup [x6,(.int .i64 0)]) S)
noncomputable def aT1 (C:aC) (a0 a1:V) (S:St) (K:KW):Prop:=
C 220 [a0] S fun t0 S1=>
wR (jE .not t0) fun t2=>
aE t2 (K (.tup [(.nils),(.int .i64 1)]) S1) (wR (aV prog 27 (.nils) a0 none S1) fun r3=>
wR (bG prog 27 a1 r3.2) fun t4=>
cR [(.nils),(.int .i64 0),r3.1,(.int .i64 0)] r3.2 (aF9 C K a1 t4))
theorem aT2:(fun (C:aC) (a0 a1:V) (S:St) (K:KW)=>aN prog C (bD 158) (bF 158) 158 [a0,a1] S K)=fun C a0 a1 S K=>aT1 C a0 a1 S K:=by kernel_rfl
noncomputable def aT3 (C:aC) (a0:V) (S:St) (K:KW):Prop:=
bS (aM (a0:V).cells) (wR (aJ none S (.row 0 (a0:V).cells.length [(a0:V).cells])) fun r0=>
wR (aA prog 54 (.ptr r0.1 0 0 0) 0) fun t1=>
wR (aB prog 9 t1 r0.2) fun t2=>
C 165 [t2] r0.2 fun t3 S4=>
wR (jE .not t3) fun t5=>
aE t5 (K (.int .i64 8) S4) (wR (aA prog 54 (.ptr r0.1 0 0 0) 1) fun t6=>
wR (aB prog 52 t6 S4) fun t7=>
C 123 [t7] S4 fun t8 S9=>
wR (jE .not t8) fun t10=>
aE t10 (K (.int .i64 9) S9) (wR (aA prog 54 (.ptr r0.1 0 0 0) 2) fun t11=>
wR (aB prog 3 t11 S9) fun t12=>
wR (aH prog .lss 3 t12 (.int .i64 0)) fun t13=>
aE t13 (K (.int .i64 10) S9) (wR (aA prog 54 (.ptr r0.1 0 0 0) 2) fun t14=>
wR (aB prog 3 t14 S9) fun t15=>
wR (aH prog .gtr 3 t15 (.int .i64 100000)) fun t16=>
aE t16 (K (.int .i64 10) S9) (K (.int .i64 0) S9)))))
theorem aT4:(fun (C:aC) (a0:V) (S:St) (K:KW)=>aN prog C (bD 163) (bF 163) 163 [a0] S K)=fun C a0 S K=>aT3 C a0 S K:=by kernel_rfl
noncomputable def aT5 (C:aC) (a0 a1:V) (S:St) (K:KW):Prop:=
bS (aM (a0:V).cells) (wR (aJ none S (.row 0 (a0:V).cells.length [(a0:V).cells])) fun r0=>
bS (aM (a1:V).cells) (wR (aJ none r0.2 (.row 0 (a1:V).cells.length [(a1:V).cells])) fun r1=>
wR (aA prog 54 (.ptr r0.1 0 0 0) 0) fun t2=>
wR (aB prog 9 t2 r1.2) fun t3=>
wR (aA prog 54 (.ptr r1.1 0 0 0) 0) fun t4=>
wR (aB prog 9 t4 r1.2) fun t5=>
wR (aH prog .lss 9 t3 t5) fun t6=>
aE t6 (K (.bool true) r1.2) (wR (aA prog 54 (.ptr r0.1 0 0 0) 0) fun t7=>
wR (aB prog 9 t7 r1.2) fun t8=>
wR (aA prog 54 (.ptr r1.1 0 0 0) 0) fun t9=>
wR (aB prog 9 t9 r1.2) fun t10=>
bS (aL prog 9 t8 t10) (wR (aH prog .eql 9 t8 t10) fun t11=>
aE t11 (wR (aA prog 54 (.ptr r0.1 0 0 0) 1) fun t12=>
wR (aB prog 52 t12 r1.2) fun t13=>
wR (aA prog 54 (.ptr r1.1 0 0 0) 1) fun t14=>
wR (aB prog 52 t14 r1.2) fun t15=>
C 124 [t13,t15] r1.2 fun t16 S17=>
K t16 S17) (K (.bool false) r1.2)))))
theorem aT6:(fun (C:aC) (a0 a1:V) (S:St) (K:KW)=>aN prog C (bD 164) (bF 164) 164 [a0,a1] S K)=fun C a0 a1 S K=>aT5 C a0 a1 S K:=by kernel_rfl
noncomputable def aFa (C:aC) (K:KW) (p14:V) (vs:List V) (S:St) (again0:List V→St→Prop)  :Prop:=
eC vs fun x2 vs=>
wR (qQ p14 S) fun r5=>
bI r5.1 0 fun t6=>
aE t6 (bI r5.1 1 fun t7=>
bI r5.1 2 fun t8=>
C 225 [t8] r5.2 fun t9 S10=>
aE t9 (again0 [x2] S10) (bS (aL prog 3 t7 (.int .i64 0)) (wR (aH prog .eql 3 t7 (.int .i64 0)) fun t11=>
aE t11 (K (.bool false) S10) (wR (aH prog .geq 21 t8 (.int .i32 48)) fun t12=>
aE t12 (wR (aH prog .leq 21 t8 (.int .i32 57)) fun t13=>
aE t13 (wR (jE .not (.bool true)) fun t14=>
aE t14 (K (.bool false) S10) (again0 [x2] S10)) (bS (aL prog 21 t8 (.int .i32 45)) (wR (aH prog .eql 21 t8 (.int .i32 45)) fun t15=>
aE t15 (wR (jE .not (.bool true)) fun t16=>
aE t16 (K (.bool false) S10) (again0 [x2] S10)) (bS (aL prog 21 t8 (.int .i32 95)) (wR (aH prog .eql 21 t8 (.int .i32 95)) fun t17=>
aE t17 (wR (jE .not (.bool true)) fun t18=>
aE t18 (K (.bool false) S10) (again0 [x2] S10)) (bS (aL prog 21 t8 (.int .i32 46)) (wR (aH prog .eql 21 t8 (.int .i32 46)) fun t19=>
wR (jE .not t19) fun t20=>
aE t20 (K (.bool false) S10) (again0 [x2] S10)))))))) (bS (aL prog 21 t8 (.int .i32 45)) (wR (aH prog .eql 21 t8 (.int .i32 45)) fun t21=>
aE t21 (wR (jE .not (.bool true)) fun t22=>
aE t22 (K (.bool false) S10) (again0 [x2] S10)) (bS (aL prog 21 t8 (.int .i32 95)) (wR (aH prog .eql 21 t8 (.int .i32 95)) fun t23=>
aE t23 (wR (jE .not (.bool true)) fun t24=>
aE t24 (K (.bool false) S10) (again0 [x2] S10)) (bS (aL prog 21 t8 (.int .i32 46)) (wR (aH prog .eql 21 t8 (.int .i32 46)) fun t25=>
wR (jE .not t25) fun t26=>
aE t26 (K (.bool false) S10) (again0 [x2] S10))))))))))) (K (.bool true) r5.2)
noncomputable def aT7 (C:aC) (a0:V) (S:St) (K:KW):Prop:=
wR (bG prog 9 a0 S) fun t0=>
wR (aH prog .lss 3 t0 (.int .i64 1)) fun t1=>
aE t1 (K (.bool false) S) (wR (bG prog 9 a0 S) fun t2=>
wR (aH prog .gtr 3 t2 (.int .i64 24)) fun t3=>
aE t3 (K (.bool false) S) (wR (xJ a0 none S) fun r4=>
cR [(.bool false)] r4.2 (aFa C K r4.1)))
theorem aT8:(fun (C:aC) (a0:V) (S:St) (K:KW)=>aN prog C (bD 165) (bF 165) 165 [a0] S K)=fun C a0 S K=>aT7 C a0 S K:=by kernel_rfl
noncomputable def aFb (C:aC) (K:KW) (p9 p10:V) (vs:List V) (S:St) (again0:List V→St→Prop)  :Prop:=
eC vs fun x2 vs=>
eC vs fun x3 vs=>
eC vs fun x11 vs=>
wR (aH prog .lss 3 x11 p10) fun t3=>
aE t3 (wR (aD prog 28 p9 x11) fun t4=>
wR (aB prog 132 t4 S) fun t5=>
wR (aJ none S (.row 0 5 [[.int .i64 0,.int .i64 0,.int .i64 0,.int .i64 0,.int .i64 0]])) fun r6=>
wR (aG prog 132 (.ptr r6.1 0 0 0) t5 r6.2) fun S7=>
wR (aA prog 132 (.ptr r6.1 0 0 0) 0) fun t8=>
wR (aB prog 3 t8 S7) fun t9=>
wR (aH prog .leq 3 t9 x3) fun t10=>
aE t10 (K (.bool false) S7) (wR (aA prog 132 (.ptr r6.1 0 0 0) 1) fun t11=>
wR (aB prog 3 t11 S7) fun t12=>
wR (aH prog .lss 3 t12 (.int .i64 0)) fun t13=>
aE t13 (K (.bool false) S7) (wR (aA prog 132 (.ptr r6.1 0 0 0) 1) fun t14=>
wR (aB prog 3 t14 S7) fun t15=>
wR (aH prog .gtr 3 t15 (.int .i64 1099511627776)) fun t16=>
aE t16 (K (.bool false) S7) (wR (aA prog 132 (.ptr r6.1 0 0 0) 1) fun t17=>
wR (aB prog 3 t17 S7) fun t18=>
bS (aL prog 3 t18 (.int .i64 0)) (wR (aH prog .eql 3 t18 (.int .i64 0)) fun t19=>
aE t19 (wR (aA prog 132 (.ptr r6.1 0 0 0) 2) fun t20=>
wR (aB prog 48 t20 S7) fun t21=>
wR (aR prog 48 []) fun t22=>
bS (aL prog 48 t21 t22) (wR (aH prog .neq 48 t21 t22) fun t23=>
aE t23 (K (.bool false) S7) (wR (aA prog 132 (.ptr r6.1 0 0 0) 0) fun t24=>
wR (aB prog 3 t24 S7) fun t25=>
wR (aH prog .add 3 x11 (.int .i64 1)) fun t26=>
again0 [x2,t25,t26] S7))) (wR (aA prog 132 (.ptr r6.1 0 0 0) 0) fun t27=>
wR (aB prog 3 t27 S7) fun t28=>
wR (aH prog .add 3 x11 (.int .i64 1)) fun t29=>
again0 [x2,t28,t29] S7)))))) (K (.bool true) S)
noncomputable def aT9 (C:aC) (a0:V) (S:St) (K:KW):Prop:=
wR (bG prog 28 a0 S) fun t0=>
wR (aH prog .gtr 3 t0 (.int .i64 8)) fun t1=>
aE t1 (K (.bool false) S) (wR (bG prog 28 a0 S) fun t2=>
cR [(.bool false),(.int .i64 0),(.int .i64 0)] S (aFb C K a0 t2))
theorem aTa:(fun (C:aC) (a0:V) (S:St) (K:KW)=>aN prog C (bD 166) (bF 166) 166 [a0] S K)=fun C a0 S K=>aT9 C a0 S K:=by kernel_rfl
noncomputable def aFc (C:aC) (K:KW) (again0:List V→St→Prop) (p1 p2 p4 p18 p19 p20:V) (S:St)  :Prop:=
wR (aA prog 145 p4 2) fun t17=>
wR (aB prog 3 t17 S) fun t18=>
wR (aA prog 145 p4 1) fun t19=>
wR (aB prog 3 t19 S) fun t20=>
C 217 [t18,t20] S fun t21 S22=>
bI t21 0 fun t23=>
bI t21 1 fun t24=>
bS (aL prog 31 t24 (.int .i64 0)) (wR (aH prog .neq 31 t24 (.int .i64 0)) fun t25=>
aE t25 (K (.bool false) S22) (wR (aA prog 145 p4 3) fun t26=>
wR (aB prog 3 t26 S22) fun t27=>
bS (aL prog 3 t23 t27) (wR (aH prog .neq 3 t23 t27) fun t28=>
aE t28 (K (.bool false) S22) (wR (aH prog .add 3 p20 (.int .i64 1)) fun t29=>
again0 [p2,t29] S22))))
noncomputable def aFd (C:aC) (K:KW) (p1 p18 p19:V) (vs:List V) (S:St) (again0:List V→St→Prop)  :Prop:=
eC vs fun x2 vs=>
eC vs fun x20 vs=>
wR (aH prog .lss 3 x20 p19) fun t12=>
aE t12 (wR (aD prog 80 p18 x20) fun t13=>
wR (aB prog 145 t13 S) fun t14=>
wR (aJ none S (.row 0 4 [[.str [],.int .i64 0,.int .i64 0,.int .i64 0]])) fun r15=>
wR (aG prog 145 (.ptr r15.1 0 0 0) t14 r15.2) fun S16=>
wR (aA prog 145 (.ptr r15.1 0 0 0) 0) fun t30=>
wR (aB prog 9 t30 (⟨S16.next+30,S16.heap⟩:St)) fun t31=>
C 165 [t31] (⟨S16.next+30,S16.heap⟩:St) fun t32 S33=>
wR (jE .not t32) fun t34=>
aE t34 (K (.bool false) S33) (wR (aH prog .gtr 3 x20 (.int .i64 0)) fun t35=>
aE t35 (wR (aA prog 82 p1 3) fun t36=>
wR (aB prog 80 t36 S33) fun t37=>
wR (aH prog .sub 3 x20 (.int .i64 1)) fun t38=>
wR (aD prog 80 t37 t38) fun t39=>
wR (aA prog 145 t39 0) fun t40=>
wR (aB prog 9 t40 S33) fun t41=>
wR (aA prog 145 (.ptr r15.1 0 0 0) 0) fun t42=>
wR (aB prog 9 t42 S33) fun t43=>
wR (aH prog .geq 9 t41 t43) fun t44=>
aE t44 (K (.bool false) S33) (wR (aA prog 145 (.ptr r15.1 0 0 0) 1) fun t45=>
wR (aB prog 3 t45 S33) fun t46=>
wR (aH prog .lss 3 t46 (.int .i64 0)) fun t47=>
aE t47 (K (.bool false) S33) (wR (aA prog 145 (.ptr r15.1 0 0 0) 1) fun t48=>
wR (aB prog 3 t48 S33) fun t49=>
wR (aH prog .gtr 3 t49 (.int .i64 100000)) fun t50=>
aE t50 (K (.bool false) S33) (aFc C K again0 p1 x2 (.ptr r15.1 0 0 0) p18 p19 x20 S33)))) (wR (aA prog 145 (.ptr r15.1 0 0 0) 1) fun t51=>
wR (aB prog 3 t51 S33) fun t52=>
wR (aH prog .lss 3 t52 (.int .i64 0)) fun t53=>
aE t53 (K (.bool false) S33) (wR (aA prog 145 (.ptr r15.1 0 0 0) 1) fun t54=>
wR (aB prog 3 t54 S33) fun t55=>
wR (aH prog .gtr 3 t55 (.int .i64 100000)) fun t56=>
aE t56 (K (.bool false) S33) (aFc C K again0 p1 x2 (.ptr r15.1 0 0 0) p18 p19 x20 S33))))) (wR (aB prog 82 p1 S) fun t57=>
C 226 [t57] S fun t58 S59=>
K t58 S59)
noncomputable def aTb (C:aC) (a0:V) (S:St) (K:KW):Prop:=
bS (aM (a0:V).cells) (wR (aJ none S (.row 0 (a0:V).cells.length [(a0:V).cells])) fun r0=>
wR (aA prog 82 (.ptr r0.1 0 0 0) 3) fun t1=>
wR (aB prog 80 t1 r0.2) fun t2=>
wR (bG prog 80 t2 r0.2) fun t3=>
wR (aH prog .lss 3 t3 (.int .i64 1)) fun t4=>
aE t4 (K (.bool false) r0.2) (wR (aA prog 82 (.ptr r0.1 0 0 0) 3) fun t5=>
wR (aB prog 80 t5 r0.2) fun t6=>
wR (bG prog 80 t6 r0.2) fun t7=>
wR (aH prog .gtr 3 t7 (.int .i64 12)) fun t8=>
aE t8 (K (.bool false) r0.2) (wR (aA prog 82 (.ptr r0.1 0 0 0) 3) fun t9=>
wR (aB prog 80 t9 r0.2) fun t10=>
wR (bG prog 80 t10 r0.2) fun t11=>
cR [(.bool false),(.int .i64 0)] r0.2 (aFd C K (.ptr r0.1 0 0 0) t10 t11))))
theorem aTc:(fun (C:aC) (a0:V) (S:St) (K:KW)=>aN prog C (bD 167) (bF 167) 167 [a0] S K)=fun C a0 S K=>aTb C a0 S K:=by kernel_rfl
noncomputable def aTd (C:aC) (a0 a1:V) (S:St) (K:KW):Prop:=
bS (aM (a1:V).cells) (wR (aJ none S (.row 0 (a1:V).cells.length [(a1:V).cells])) fun r0=>
C 155 [a0,(.func 227 [] [(.ptr r0.1 0 0 0)])] r0.2 fun t1 S2=>
K t1 S2)
theorem aTe:(fun (C:aC) (a0 a1:V) (S:St) (K:KW)=>aN prog C (bD 168) (bF 168) 168 [a0,a1] S K)=fun C a0 a1 S K=>aTd C a0 a1 S K:=by kernel_rfl
noncomputable def aTf (C:aC) (a0 a1:V) (S:St) (K:KW):Prop:=
bS (aM (a0:V).cells) (wR (aJ none S (.row 0 (a0:V).cells.length [(a0:V).cells])) fun r0=>
bS (aM (a1:V).cells) (wR (aJ none r0.2 (.row 0 (a1:V).cells.length [(a1:V).cells])) fun r1=>
wR (aA prog 84 (.ptr r1.1 0 0 0) 2) fun t2=>
wR (aB prog 82 t2 r1.2) fun t3=>
C 228 [t3] r1.2 fun t4 S5=>
bI t4 0 fun t6=>
bI t4 1 fun t7=>
wR (aJ none S5 (.row 0 4 [[.int .i64 0,.int .i64 0,.int .i64 0,.nils]])) fun r8=>
wR (aG prog 82 (.ptr r8.1 0 0 0) t6 r8.2) fun S9=>
wR (aA prog 84 (.ptr r1.1 0 0 0) 3) fun t10=>
wR (aB prog 57 t10 S9) fun t11=>
wR (aR prog 57 []) fun t12=>
bS (aL prog 57 t11 t12) (wR (aH prog .eql 57 t11 t12) fun t13=>
aE t13 (wR (aA prog 84 (.ptr r0.1 0 0 0) 1) fun t14=>
wR (aB prog 52 t14 S9) fun t15=>
wR (aA prog 84 (.ptr r1.1 0 0 0) 1) fun t16=>
wR (aB prog 52 t16 S9) fun t17=>
C 124 [t15,t17] S9 fun t18 S19=>
wR (jE .not t18) fun t20=>
aE t20 (bS (aL prog 31 t7 (.int .i64 0)) (wR (aH prog .eql 31 t7 (.int .i64 0)) fun t21=>
aE t21 (wR (aB prog 82 (.ptr r8.1 0 0 0) S19) fun t22=>
wR (aA prog 84 (.ptr r0.1 0 0 0) 2) fun t23=>
wR (aB prog 82 t23 S19) fun t24=>
C 229 [t22,t24] S19 fun t25 S26=>
K t25 S26) (K (.bool false) S19))) (K (.bool false) S19)) (K (.bool false) S9))))
theorem aTg:(fun (C:aC) (a0 a1:V) (S:St) (K:KW)=>aN prog C (bD 169) (bF 169) 169 [a0,a1] S K)=fun C a0 a1 S K=>aTf C a0 a1 S K:=by kernel_rfl
noncomputable def aZ0 (C:aC) (a0 a1:V) (S:St) (K:KW):Prop:=
bS (aM (a0:V).cells) (wR (aJ none S (.row 0 (a0:V).cells.length [(a0:V).cells])) fun r0=>
wR (aA prog 126 (.ptr r0.1 0 0 0) 0) fun t1=>
wR (aB prog 9 t1 r0.2) fun t2=>
wR (aA prog 84 a1 0) fun t3=>
wR (aA prog 57 t3 0) fun t4=>
wR (aB prog 9 t4 r0.2) fun t5=>
bS (aL prog 9 t2 t5) (wR (aH prog .eql 9 t2 t5) fun t6=>
K t6 r0.2))
theorem aTh:(fun (C:aC) (a0 a1:V) (S:St) (K:KW)=>aN prog C (bD 170) (bF 170) 170 [a0,a1] S K)=fun C a0 a1 S K=>aZ0 C a0 a1 S K:=by kernel_rfl
noncomputable def aAa (C:aC) (K:KW) (p0 p1 p6:V) (S:St)  :Prop:=
wR (aV prog 28 (.nils) p0 none S) fun r5=>
wR (aR prog 132 [(0,p1)]) fun t6=>
wR (aK prog 28 1 [(0,t6)] none r5.2) fun r7=>
C 230 [r5.1,p6,r7.1] r7.2 fun t8 S9=>
K (.tup [t8,(.int .i64 0)]) S9
noncomputable def aFe (C:aC) (K:KW) (p0 p1:V) (vs:List V) (S:St) (again0:List V→St→Prop)  :Prop:=
eC vs fun x6 vs=>
wR (bG prog 28 p0 S) fun t10=>
wR (aH prog .lss 3 x6 t10) fun t11=>
aE t11 (wR (aD prog 28 p0 x6) fun t12=>
wR (aA prog 132 t12 0) fun t13=>
wR (aB prog 3 t13 S) fun t14=>
wR (aH prog .lss 3 t14 p1) fun t15=>
aE t15 (wR (aH prog .add 3 x6 (.int .i64 1)) fun t16=>
again0 [t16] S) (aAa C K p0 p1 x6 S)) (aAa C K p0 p1 x6 S)
noncomputable def aFf (C:aC) (K:KW) (p0 p1 p7:V) (S:St)  :Prop:=
aE p7 (K (.tup [(.nils),(.int .i64 1)]) S) (C 174 [p0,p1] S fun t0 S1=>
wR (aH prog .geq 3 t0 (.int .i64 0)) fun t2=>
aE t2 (K (.tup [(.nils),(.int .i64 12)]) S1) (wR (bG prog 28 p0 S1) fun t3=>
wR (aH prog .geq 3 t3 (.int .i64 8)) fun t4=>
aE t4 (K (.tup [(.nils),(.int .i64 14)]) S1) (cR [(.int .i64 0)] S1 (aFe C K p0 p1))))
noncomputable def aTi (C:aC) (a0 a1:V) (S:St) (K:KW):Prop:=
C 166 [a0] S fun t17 S18=>
wR (jE .not t17) fun t19=>
aE t19 (aFf C K a0 a1 (.bool true) S18) (wR (aH prog .lss 3 a1 (.int .i64 1)) fun t20=>
aFf C K a0 a1 t20 S18)
theorem aTj:(fun (C:aC) (a0 a1:V) (S:St) (K:KW)=>aN prog C (bD 173) (bF 173) 173 [a0,a1] S K)=fun C a0 a1 S K=>aTi C a0 a1 S K:=by kernel_rfl
noncomputable def aTk (C:aC) (a0 a1:V) (S:St) (K:KW):Prop:=
bS (aM (a1:V).cells) (wR (aJ none S (.row 0 (a1:V).cells.length [(a1:V).cells])) fun r0=>
C 231 [a0,(.func 232 [] [(.ptr r0.1 0 0 0)])] r0.2 fun t1 S2=>
K t1 S2)
theorem aTl:(fun (C:aC) (a0 a1:V) (S:St) (K:KW)=>aN prog C (bD 174) (bF 174) 174 [a0,a1] S K)=fun C a0 a1 S K=>aTk C a0 a1 S K:=by kernel_rfl
noncomputable def aAb (C:aC) (K:KW) (p0 p1 p2 p8:V) (S:St)  :Prop:=
C 235 [p0] S fun t11 S12=>
wR (aR prog 126 [(0,p1),(1,(.int .i64 1)),(2,p2)]) fun t13=>
wR (aK prog 25 1 [(0,t13)] none S12) fun r14=>
C 234 [t11,p8,r14.1] r14.2 fun t15 S16=>
K (.tup [t15,(.int .i64 0)]) S16
noncomputable def aFg (C:aC) (K:KW) (p0 p1 p2:V) (vs:List V) (S:St) (again0:List V→St→Prop)  :Prop:=
eC vs fun x8 vs=>
wR (bG prog 25 p0 S) fun t17=>
wR (aH prog .lss 3 x8 t17) fun t18=>
aE t18 (wR (aD prog 25 p0 x8) fun t19=>
wR (aA prog 126 t19 0) fun t20=>
wR (aB prog 9 t20 S) fun t21=>
wR (aH prog .lss 9 t21 p1) fun t22=>
aE t22 (wR (aH prog .add 3 x8 (.int .i64 1)) fun t23=>
again0 [t23] S) (aAb C K p0 p1 p2 x8 S)) (aAb C K p0 p1 p2 x8 S)
noncomputable def aFh (C:aC) (K:KW) (p0 p1 p2 p17:V) (S:St)  :Prop:=
aE p17 (K (.tup [(.nils),(.int .i64 1)]) S) (C 233 [p0,p1] S fun t6 S7=>
wR (aH prog .geq 3 t6 (.int .i64 0)) fun t8=>
aE t8 (K (.tup [(.nils),(.int .i64 12)]) S7) (wR (bG prog 25 p0 S7) fun t9=>
wR (aH prog .geq 3 t9 (.int .i64 8)) fun t10=>
aE t10 (K (.tup [(.nils),(.int .i64 14)]) S7) (cR [(.int .i64 0)] S7 (aFg C K p0 p1 p2))))
noncomputable def aTm (C:aC) (a0 a1 a2:V) (S:St) (K:KW):Prop:=
C 86 [a0] S fun t0 S1=>
wR (jE .not t0) fun t2=>
aE t2 (K (.tup [(.nils),(.int .i64 1)]) S1) (C 165 [a1] S1 fun t3 S4=>
wR (jE .not t3) fun t5=>
aE t5 (K (.tup [(.nils),(.int .i64 8)]) S4) (wR (aH prog .lss 3 a2 (.int .i64 1)) fun t24=>
aE t24 (aFh C K a0 a1 a2 (.bool true) S4) (wR (aH prog .gtr 3 a2 (.int .i64 1099511627776)) fun t25=>
aFh C K a0 a1 a2 t25 S4)))
theorem aTn:(fun (C:aC) (a0 a1 a2:V) (S:St) (K:KW)=>aN prog C (bD 175) (bF 175) 175 [a0,a1,a2] S K)=fun C a0 a1 a2 S K=>aTm C a0 a1 a2 S K:=by kernel_rfl
noncomputable def aPm (C:aC) (a0 a1 a2:V) (S:St) (K:KW):Prop:=
wR (aJ none S (.row 0 3 [[.int .i64 0,.int .i64 0,.int .i64 0]])) fun r0=>
bS (aL prog 31 a2 (.int .i64 0)) (wR (aH prog .eql 31 a2 (.int .i64 0)) fun t1=>
aE t1 (gE a0 (wR (aG prog 25 a0 a1 r0.2) fun S2=>
C 103 [a2] S2 fun t3 S4=>
wR (aG prog 48 (.ptr r0.1 0 0 0) t3 S4) fun S5=>
wR (aB prog 48 (.ptr r0.1 0 0 0) S5) fun t6=>
K t6 S5)) (C 103 [a2] r0.2 fun t7 S8=>
wR (aG prog 48 (.ptr r0.1 0 0 0) t7 S8) fun S9=>
wR (aB prog 48 (.ptr r0.1 0 0 0) S9) fun t10=>
K t10 S9))
theorem aTo:(fun (C:aC) (a0 a1 a2:V) (S:St) (K:KW)=>aN prog C (bD 176) (bF 176) 176 [a0,a1,a2] S K)=fun C a0 a1 a2 S K=>aPm C a0 a1 a2 S K:=by kernel_rfl
noncomputable def aTp (C:aC) (a0 a1:V) (S:St) (K:KW):Prop:=
C 236 [a0,a1] S fun t0 S1=>
bI t0 0 fun t2=>
bI t0 1 fun t3=>
bS (aL prog 31 t3 (.int .i64 0)) (wR (aH prog .neq 31 t3 (.int .i64 0)) fun t4=>
aE t4 (K (.tup [(.nils),t3]) S1) (C 235 [a0] S1 fun t5 S6=>
wR (aD prog 25 t5 t2) fun t7=>
wR (aA prog 126 t7 3) fun t8=>
wR (aG prog 4 t8 (.bool true) S6) fun S9=>
K (.tup [t5,(.int .i64 0)]) S9))
theorem aTq:(fun (C:aC) (a0 a1:V) (S:St) (K:KW)=>aN prog C (bD 177) (bF 177) 177 [a0,a1] S K)=fun C a0 a1 S K=>aTp C a0 a1 S K:=by kernel_rfl
noncomputable def aFi (C:aC) (K:KW) (again0:List V→St→Prop) (p0 p3 p4 p5 p7 p9 p18 p19 p20:V) (S:St)  :Prop:=
wR (aB prog 54 p9 S) fun t14=>
wR (aB prog 54 p3 S) fun t15=>
C 164 [t14,t15] S fun t16 S17=>
aE t16 (wR (aH prog .add 3 p7 (.int .i64 1)) fun t18=>
wR (aH prog .add 3 p20 (.int .i64 1)) fun t19=>
again0 [p4,p5,t18,t19] S17) (wR (aH prog .add 3 p20 (.int .i64 1)) fun t20=>
again0 [p4,p5,p7,t20] S17)
noncomputable def aFj (C:aC) (K:KW) (p0 p3 p18 p19:V) (vs:List V) (S:St) (again0:List V→St→Prop)  :Prop:=
eC vs fun x4 vs=>
eC vs fun x5 vs=>
eC vs fun x7 vs=>
eC vs fun x20 vs=>
wR (aH prog .lss 3 x20 p19) fun t9=>
aE t9 (wR (aD prog 24 p18 x20) fun t10=>
wR (aB prog 54 t10 S) fun t11=>
wR (aJ none S (.row 0 5 [[.str [],.int .i64 0,.int .i64 0,.int .i64 0,.int .i64 0]])) fun r12=>
wR (aG prog 54 (.ptr r12.1 0 0 0) t11 r12.2) fun S13=>
wR (aA prog 54 (.ptr r12.1 0 0 0) 0) fun t21=>
wR (aB prog 9 t21 S13) fun t22=>
wR (aA prog 54 p3 0) fun t23=>
wR (aB prog 9 t23 S13) fun t24=>
bS (aL prog 9 t22 t24) (wR (aH prog .eql 9 t22 t24) fun t25=>
aE t25 (wR (aA prog 54 (.ptr r12.1 0 0 0) 1) fun t26=>
wR (aB prog 52 t26 S13) fun t27=>
wR (aA prog 54 p3 1) fun t28=>
wR (aB prog 52 t28 S13) fun t29=>
bS (aL prog 52 t27 t29) (wR (aH prog .eql 52 t27 t29) fun t30=>
aE t30 (K (.tup [(.nils),(.int .i64 12)]) S13) (aFi C K again0 p0 p3 x4 x5 x7 (.ptr r12.1 0 0 0) p18 p19 x20 S13))) (aFi C K again0 p0 p3 x4 x5 x7 (.ptr r12.1 0 0 0) p18 p19 x20 S13))) (wR (bG prog 24 p0 S) fun t31=>
wR (aH prog .geq 3 t31 (.int .i64 24)) fun t32=>
aE t32 (K (.tup [(.nils),(.int .i64 2)]) S) (wR (aB prog 54 p3 (⟨S.next+8,S.heap⟩:St)) fun t33=>
wR (aV prog 24 (.nils) p0 (some (S.next+1)) (⟨S.next+8,S.heap⟩:St)) fun r34=>
wR (aB prog 54 p3 r34.2) fun t35=>
bS (dI t33 t35) (wR (aK prog 24 1 [(0,t33)] (some (S.next+4)) r34.2) fun r36=>
C 237 [r34.1,x7,r36.1] r36.2 fun t37 S38=>
K (.tup [t37,(.int .i64 0)]) S38)))
noncomputable def aTr (C:aC) (a0 a1:V) (S:St) (K:KW):Prop:=
bS (aM (a1:V).cells) (wR (aJ none S (.row 0 (a1:V).cells.length [(a1:V).cells])) fun r0=>
C 85 [a0] r0.2 fun t1 S2=>
wR (jE .not t1) fun t3=>
aE t3 (K (.tup [(.nils),(.int .i64 1)]) S2) (wR (aB prog 54 (.ptr r0.1 0 0 0) S2) fun t4=>
C 163 [t4] S2 fun t5 S6=>
bS (aL prog 31 t5 (.int .i64 0)) (wR (aH prog .neq 31 t5 (.int .i64 0)) fun t7=>
aE t7 (K (.tup [(.nils),t5]) S6) (wR (bG prog 24 a0 S6) fun t8=>
cR [(.nils),(.int .i64 0),(.int .i64 0),(.int .i64 0)] S6 (aFj C K a0 (.ptr r0.1 0 0 0) a0 t8)))))
theorem aTs:(fun (C:aC) (a0 a1:V) (S:St) (K:KW)=>aN prog C (bD 178) (bF 178) 178 [a0,a1] S K)=fun C a0 a1 S K=>aTr C a0 a1 S K:=by kernel_rfl
noncomputable def aPn (C:aC) (a0 a1 a2:V) (S:St) (K:KW):Prop:=
wR (aJ none S (.row 0 3 [[.int .i64 0,.int .i64 0,.int .i64 0]])) fun r0=>
bS (aL prog 31 a2 (.int .i64 0)) (wR (aH prog .eql 31 a2 (.int .i64 0)) fun t1=>
aE t1 (gE a0 (wR (aG prog 24 a0 a1 r0.2) fun S2=>
C 103 [a2] S2 fun t3 S4=>
wR (aG prog 48 (.ptr r0.1 0 0 0) t3 S4) fun S5=>
wR (aB prog 48 (.ptr r0.1 0 0 0) S5) fun t6=>
K t6 S5)) (C 103 [a2] r0.2 fun t7 S8=>
wR (aG prog 48 (.ptr r0.1 0 0 0) t7 S8) fun S9=>
wR (aB prog 48 (.ptr r0.1 0 0 0) S9) fun t10=>
K t10 S9))
theorem aTt:(fun (C:aC) (a0 a1 a2:V) (S:St) (K:KW)=>aN prog C (bD 179) (bF 179) 179 [a0,a1,a2] S K)=fun C a0 a1 a2 S K=>aPn C a0 a1 a2 S K:=by kernel_rfl
noncomputable def aTu (C:aC) (a0 a1:V) (S:St) (K:KW):Prop:=
bS (aM (a1:V).cells) (wR (aJ none S (.row 0 (a1:V).cells.length [(a1:V).cells])) fun r0=>
wR (aJ none r0.2 (.row 0 3 [[.int .i64 0,.int .i64 0,.int .i64 0]])) fun r1=>
gE a0 (wR (aA prog 30 a0 0) fun t2=>
wR (aB prog 24 t2 (⟨r1.2.next+15,r1.2.heap⟩:St)) fun t3=>
wR (aA prog 59 (.ptr r0.1 0 0 0) 4) fun t4=>
wR (aB prog 52 t4 (⟨r1.2.next+15,r1.2.heap⟩:St)) fun t5=>
wR (aA prog 59 (.ptr r0.1 0 0 0) 5) fun t6=>
wR (aB prog 55 t6 (⟨r1.2.next+15,r1.2.heap⟩:St)) fun t7=>
C 238 [t3,t5,t7] (⟨r1.2.next+15,r1.2.heap⟩:St) fun t8 S9=>
bI t8 0 fun t10=>
bI t8 1 fun t11=>
wR (aJ (some (r1.2.next+12)) S9 (.row 0 4 [[.int .i64 0,.int .i64 0,.int .i64 0,.nils]])) fun r12=>
wR (aG prog 82 (.ptr r12.1 0 0 0) t10 r12.2) fun S13=>
bS (aL prog 31 t11 (.int .i64 0)) (wR (aH prog .neq 31 t11 (.int .i64 0)) fun t14=>
aE t14 (C 103 [t11] S13 fun t15 S16=>
wR (aG prog 48 (.ptr r1.1 0 0 0) t15 S16) fun S17=>
wR (aB prog 48 (.ptr r1.1 0 0 0) S17) fun t18=>
K t18 S17) (wR (aA prog 59 (.ptr r0.1 0 0 0) 1) fun t19=>
wR (aB prog 9 t19 S13) fun t20=>
wR (aA prog 59 (.ptr r0.1 0 0 0) 4) fun t21=>
wR (aB prog 52 t21 S13) fun t22=>
wR (aB prog 82 (.ptr r12.1 0 0 0) S13) fun t23=>
wR (aR prog 84 [(1,t22),(2,t23)]) fun t24=>
C 239 [a0,t20,t24] S13 fun t25 S26=>
wR (aG prog 48 (.ptr r1.1 0 0 0) t25 S26) fun S27=>
wR (aB prog 48 (.ptr r1.1 0 0 0) S27) fun t28=>
K t28 S27))))
theorem aTv:(fun (C:aC) (a0 a1:V) (S:St) (K:KW)=>aN prog C (bD 180) (bF 180) 180 [a0,a1] S K)=fun C a0 a1 S K=>aTu C a0 a1 S K:=by kernel_rfl
noncomputable def aTw (C:aC) (a0 a1:V) (S:St) (K:KW):Prop:=
bS (aM (a1:V).cells) (wR (aJ none S (.row 0 (a1:V).cells.length [(a1:V).cells])) fun r0=>
wR (aJ none r0.2 (.row 0 3 [[.int .i64 0,.int .i64 0,.int .i64 0]])) fun r1=>
gE a0 (wR (aA prog 30 a0 2) fun t2=>
wR (aB prog 26 t2 (⟨r1.2.next+8,r1.2.heap⟩:St)) fun t3=>
wR (aA prog 59 (.ptr r0.1 0 0 0) 6) fun t4=>
wR (aB prog 57 t4 (⟨r1.2.next+8,r1.2.heap⟩:St)) fun t5=>
C 168 [t3,t5] (⟨r1.2.next+8,r1.2.heap⟩:St) fun t6 S7=>
wR (aH prog .lss 3 t6 (.int .i64 0)) fun t8=>
aE t8 (C 103 [(.int .i64 11)] S7 fun t9 S10=>
wR (aG prog 48 (.ptr r1.1 0 0 0) t9 S10) fun S11=>
wR (aB prog 48 (.ptr r1.1 0 0 0) S11) fun t12=>
K t12 S11) (gE a0 (wR (aA prog 30 a0 2) fun t13=>
wR (aB prog 26 t13 S7) fun t14=>
wR (aD prog 26 t14 t6) fun t15=>
wR (aB prog 84 t15 S7) fun t16=>
wR (aJ none S7 (.row 0 12 [[.str [],.int .i64 0,.int .i64 0,.int .i64 0,.int .i64 0,.int .i64 0,.int .i64 0,.int .i64 0,.nils,.str [],.int .i64 0,.bool false]])) fun r17=>
wR (aG prog 84 (.ptr r17.1 0 0 0) t16 r17.2) fun S18=>
wR (aA prog 84 (.ptr r17.1 0 0 0) 4) fun t19=>
wR (aB prog 4 t19 S18) fun t20=>
aE t20 (C 103 [(.int .i64 12)] S18 fun t21 S22=>
wR (aG prog 48 (.ptr r1.1 0 0 0) t21 S22) fun S23=>
wR (aB prog 48 (.ptr r1.1 0 0 0) S23) fun t24=>
K t24 S23) (wR (aA prog 84 (.ptr r17.1 0 0 0) 3) fun t25=>
wR (aB prog 57 t25 S18) fun t26=>
wR (aR prog 57 []) fun t27=>
bS (aL prog 57 t26 t27) (wR (aH prog .neq 57 t26 t27) fun t28=>
aE t28 (C 103 [(.int .i64 12)] S18 fun t29 S30=>
wR (aG prog 48 (.ptr r1.1 0 0 0) t29 S30) fun S31=>
wR (aB prog 48 (.ptr r1.1 0 0 0) S31) fun t32=>
K t32 S31) (wR (aA prog 59 (.ptr r0.1 0 0 0) 4) fun t33=>
wR (aB prog 52 t33 S18) fun t34=>
C 123 [t34] S18 fun t35 S36=>
wR (jE .not t35) fun t37=>
aE t37 (C 103 [(.int .i64 9)] S36 fun t38 S39=>
wR (aG prog 48 (.ptr r1.1 0 0 0) t38 S39) fun S40=>
wR (aB prog 48 (.ptr r1.1 0 0 0) S40) fun t41=>
K t41 S40) (wR (aA prog 59 (.ptr r0.1 0 0 0) 4) fun t42=>
wR (aB prog 52 t42 S36) fun t43=>
wR (aA prog 84 (.ptr r17.1 0 0 0) 1) fun t44=>
wR (aB prog 52 t44 S36) fun t45=>
C 124 [t43,t45] S36 fun t46 S47=>
aE t46 (C 103 [(.int .i64 9)] S47 fun t48 S49=>
wR (aG prog 48 (.ptr r1.1 0 0 0) t48 S49) fun S50=>
wR (aB prog 48 (.ptr r1.1 0 0 0) S50) fun t51=>
K t51 S50) (wR (aA prog 84 (.ptr r17.1 0 0 0) 2) fun t52=>
wR (aB prog 82 t52 S47) fun t53=>
C 228 [t53] S47 fun t54 S55=>
bI t54 0 fun t56=>
bI t54 1 fun t57=>
wR (aJ none S55 (.row 0 4 [[.int .i64 0,.int .i64 0,.int .i64 0,.nils]])) fun r58=>
wR (aG prog 82 (.ptr r58.1 0 0 0) t56 r58.2) fun S59=>
bS (aL prog 31 t57 (.int .i64 0)) (wR (aH prog .neq 31 t57 (.int .i64 0)) fun t60=>
aE t60 (C 103 [t57] S59 fun t61 S62=>
wR (aG prog 48 (.ptr r1.1 0 0 0) t61 S62) fun S63=>
wR (aB prog 48 (.ptr r1.1 0 0 0) S63) fun t64=>
K t64 S63) (wR (aA prog 59 (.ptr r0.1 0 0 0) 1) fun t65=>
wR (aB prog 9 t65 S59) fun t66=>
wR (aA prog 59 (.ptr r0.1 0 0 0) 4) fun t67=>
wR (aB prog 52 t67 S59) fun t68=>
wR (aB prog 82 (.ptr r58.1 0 0 0) S59) fun t69=>
wR (aA prog 59 (.ptr r0.1 0 0 0) 6) fun t70=>
wR (aB prog 57 t70 S59) fun t71=>
wR (aR prog 84 [(1,t68),(2,t69),(3,t71)]) fun t72=>
C 239 [a0,t66,t72] S59 fun t73 S74=>
wR (aJ none S74 (.row 0 3 [[.int .i64 0,.int .i64 0,.int .i64 0]])) fun r75=>
wR (aG prog 48 (.ptr r75.1 0 0 0) t73 r75.2) fun S76=>
wR (aA prog 48 (.ptr r75.1 0 0 0) 0) fun t77=>
wR (aB prog 31 t77 S76) fun t78=>
bS (aL prog 31 t78 (.int .i64 0)) (wR (aH prog .eql 31 t78 (.int .i64 0)) fun t79=>
aE t79 (gE a0 (wR (aA prog 30 a0 2) fun t80=>
wR (aB prog 26 t80 S76) fun t81=>
wR (aD prog 26 t81 t6) fun t82=>
wR (aA prog 84 t82 4) fun t83=>
wR (aG prog 4 t83 (.bool true) S76) fun S84=>
wR (aB prog 48 (.ptr r75.1 0 0 0) S84) fun t85=>
wR (aG prog 48 (.ptr r1.1 0 0 0) t85 S84) fun S86=>
wR (aB prog 48 (.ptr r1.1 0 0 0) S86) fun t87=>
K t87 S86)) (wR (aB prog 48 (.ptr r75.1 0 0 0) S76) fun t88=>
wR (aG prog 48 (.ptr r1.1 0 0 0) t88 S76) fun S89=>
wR (aB prog 48 (.ptr r1.1 0 0 0) S89) fun t90=>
K t90 S89)))))))))))))
theorem aTx:(fun (C:aC) (a0 a1:V) (S:St) (K:KW)=>aN prog C (bD 181) (bF 181) 181 [a0,a1] S K)=fun C a0 a1 S K=>aTw C a0 a1 S K:=by kernel_rfl
noncomputable def aTy (C:aC) (a0 a1:V) (S:St) (K:KW):Prop:=
C 166 [a0] S fun t0 S1=>
wR (jE .not t0) fun t2=>
aE t2 (K (.tup [(.nils),(.int .i64 1)]) S1) (C 174 [a0,a1] S1 fun t3 S4=>
wR (aH prog .lss 3 t3 (.int .i64 0)) fun t5=>
aE t5 (K (.tup [(.nils),(.int .i64 11)]) S4) (wR (aV prog 28 (.nils) a0 none S4) fun r6=>
wR (aH prog .add 3 t3 (.int .i64 1)) fun t7=>
C 240 [r6.1,t3,t7] r6.2 fun t8 S9=>
K (.tup [t8,(.int .i64 0)]) S9))
theorem aTz:(fun (C:aC) (a0 a1:V) (S:St) (K:KW)=>aN prog C (bD 182) (bF 182) 182 [a0,a1] S K)=fun C a0 a1 S K=>aTy C a0 a1 S K:=by kernel_rfl
noncomputable def aPo (C:aC) (a0 a1 a2:V) (S:St) (K:KW):Prop:=
wR (aJ none S (.row 0 3 [[.int .i64 0,.int .i64 0,.int .i64 0]])) fun r0=>
bS (aL prog 31 a2 (.int .i64 0)) (wR (aH prog .eql 31 a2 (.int .i64 0)) fun t1=>
aE t1 (gE a0 (wR (aG prog 28 a0 a1 r0.2) fun S2=>
C 103 [a2] S2 fun t3 S4=>
wR (aG prog 48 (.ptr r0.1 0 0 0) t3 S4) fun S5=>
wR (aB prog 48 (.ptr r0.1 0 0 0) S5) fun t6=>
K t6 S5)) (C 103 [a2] r0.2 fun t7 S8=>
wR (aG prog 48 (.ptr r0.1 0 0 0) t7 S8) fun S9=>
wR (aB prog 48 (.ptr r0.1 0 0 0) S9) fun t10=>
K t10 S9))
theorem aU0:(fun (C:aC) (a0 a1 a2:V) (S:St) (K:KW)=>aN prog C (bD 183) (bF 183) 183 [a0,a1,a2] S K)=fun C a0 a1 a2 S K=>aPo C a0 a1 a2 S K:=by kernel_rfl
noncomputable def aFk (C:aC) (K:KW) (p4 p7 p29 p30:V) (vs:List V) (S:St) (again0:List V→St→Prop)  :Prop:=
eC vs fun x31 vs=>
wR (aH prog .lss 3 x31 p30) fun t23=>
aE t23 (wR (aD prog 27 p29 x31) fun t24=>
wR (aB prog 90 t24 S) fun t25=>
wR (aJ none S (.row 0 2 [[.str [],.int .i64 0]])) fun r26=>
wR (aG prog 90 (.ptr r26.1 0 0 0) t25 r26.2) fun S27=>
wR (aA prog 90 (.ptr r26.1 0 0 0) 0) fun t28=>
wR (aB prog 9 t28 S27) fun t29=>
bS (aL prog 9 t29 (.str [111,119,101,100])) (wR (aH prog .eql 9 t29 (.str [111,119,101,100])) fun t30=>
aE t30 (wR (aA prog 90 (.ptr r26.1 0 0 0) 1) fun t31=>
wR (aB prog 3 t31 S27) fun t32=>
wR (aA prog 48 p7 2) fun t33=>
wR (aG prog 3 t33 t32 S27) fun S34=>
wR (aH prog .add 3 x31 (.int .i64 1)) fun t35=>
again0 [t35] S34) (wR (aH prog .add 3 x31 (.int .i64 1)) fun t36=>
again0 [t36] S27))) (wR (aB prog 48 p7 S) fun t37=>
wR (aG prog 48 p4 t37 S) fun S38=>
wR (aB prog 48 p4 S38) fun t39=>
K t39 S38)
noncomputable def aU1 (C:aC) (a0 a1:V) (S:St) (K:KW):Prop:=
wR (aJ none S (.row 0 3 [[.int .i64 0,.int .i64 0,.int .i64 0]])) fun r0=>
gE a0 (wR (aA prog 30 a0 1) fun t1=>
wR (aB prog 25 t1 r0.2) fun t2=>
C 241 [t2,a1] r0.2 fun t3 S4=>
bI t3 0 fun t5=>
bI t3 1 fun t6=>
wR (aJ none S4 (.row 0 4 [[.str [],.int .i64 0,.int .i64 0,.bool false]])) fun r7=>
wR (aG prog 126 (.ptr r7.1 0 0 0) t5 r7.2) fun S8=>
wR (jE .not t6) fun t9=>
aE t9 (C 103 [(.int .i64 11)] S8 fun t10 S11=>
wR (aG prog 48 (.ptr r0.1 0 0 0) t10 S11) fun S12=>
wR (aB prog 48 (.ptr r0.1 0 0 0) S12) fun t13=>
K t13 S12) (wR (aA prog 126 (.ptr r7.1 0 0 0) 1) fun t14=>
wR (aB prog 3 t14 S8) fun t15=>
wR (aH prog .sub 3 t15 (.int .i64 1)) fun t16=>
wR (aR prog 48 [(1,t16)]) fun t17=>
wR (aJ none S8 (.row 0 3 [[.int .i64 0,.int .i64 0,.int .i64 0]])) fun r18=>
wR (aG prog 48 (.ptr r18.1 0 0 0) t17 r18.2) fun S19=>
gE a0 (wR (aA prog 30 a0 3) fun t20=>
wR (aB prog 27 t20 S19) fun t21=>
wR (bG prog 27 t21 S19) fun t22=>
cR [(.int .i64 0)] S19 (aFk C K (.ptr r0.1 0 0 0) (.ptr r18.1 0 0 0) t21 t22))))
theorem aU2:(fun (C:aC) (a0 a1:V) (S:St) (K:KW)=>aN prog C (bD 184) (bF 184) 184 [a0,a1] S K)=fun C a0 a1 S K=>aU1 C a0 a1 S K:=by kernel_rfl
noncomputable def aFl (C:aC) (K:KW) (p1:V) (vs:List V) (S:St) (again0:List V→St→Prop)  :Prop:=
eC vs fun x3 vs=>
eC vs fun x4 vs=>
wR (aA prog 52 p1 1) fun t9=>
wR (aB prog 3 t9 S) fun t10=>
wR (aH prog .lss 3 x4 t10) fun t11=>
aE t11 (wR (aA prog 52 p1 0) fun t12=>
wR (aB prog 3 t12 S) fun t13=>
C 132 [t13,x4] S fun t14 S15=>
wR (aH prog .add 3 x3 t14) fun t16=>
wR (aH prog .add 3 x4 (.int .i64 1)) fun t17=>
again0 [t16,t17] S15) (wR (aA prog 52 p1 2) fun t18=>
wR (aB prog 3 t18 S) fun t19=>
wR (aH prog .add 3 x3 t19) fun t20=>
wR (aH prog .sub 3 t20 (.int .i64 1)) fun t21=>
K t21 S)
noncomputable def aU3 (C:aC) (a0:V) (S:St) (K:KW):Prop:=
bS (aM (a0:V).cells) (wR (aJ none S (.row 0 (a0:V).cells.length [(a0:V).cells])) fun r0=>
wR (aB prog 52 (.ptr r0.1 0 0 0) r0.2) fun t1=>
C 123 [t1] r0.2 fun t2 S3=>
wR (jE .not t2) fun t4=>
aE t4 (K (.int .i64 (-1)) S3) (wR (aA prog 52 (.ptr r0.1 0 0 0) 0) fun t5=>
wR (aB prog 3 t5 S3) fun t6=>
C 131 [t6] S3 fun t7 S8=>
cR [t7,(.int .i64 1)] S8 (aFl C K (.ptr r0.1 0 0 0))))
theorem aU4:(fun (C:aC) (a0:V) (S:St) (K:KW)=>aN prog C (bD 200) (bF 200) 200 [a0] S K)=fun C a0 S K=>aU3 C a0 S K:=by kernel_rfl
noncomputable def aU5 (C:aC) (a0 a1:V) (S:St) (K:KW):Prop:=
bS (aM (a0:V).cells) (wR (aJ none S (.row 0 (a0:V).cells.length [(a0:V).cells])) fun r0=>
bS (aM (a1:V).cells) (wR (aJ none r0.2 (.row 0 (a1:V).cells.length [(a1:V).cells])) fun r1=>
wR (aA prog 76 (.ptr r0.1 0 0 0) 0) fun t2=>
wR (aB prog 9 t2 r1.2) fun t3=>
wR (aA prog 145 (.ptr r1.1 0 0 0) 0) fun t4=>
wR (aB prog 9 t4 r1.2) fun t5=>
wR (aH prog .lss 9 t3 t5) fun t6=>
aE t6 (K (.bool true) r1.2) (wR (aA prog 76 (.ptr r0.1 0 0 0) 0) fun t7=>
wR (aB prog 9 t7 r1.2) fun t8=>
wR (aA prog 145 (.ptr r1.1 0 0 0) 0) fun t9=>
wR (aB prog 9 t9 r1.2) fun t10=>
bS (aL prog 9 t8 t10) (wR (aH prog .eql 9 t8 t10) fun t11=>
aE t11 (wR (aA prog 76 (.ptr r0.1 0 0 0) 1) fun t12=>
wR (aB prog 3 t12 r1.2) fun t13=>
wR (aA prog 145 (.ptr r1.1 0 0 0) 1) fun t14=>
wR (aB prog 3 t14 r1.2) fun t15=>
wR (aH prog .lss 3 t13 t15) fun t16=>
K t16 r1.2) (K (.bool false) r1.2)))))
theorem aU6:(fun (C:aC) (a0 a1:V) (S:St) (K:KW)=>aN prog C (bD 201) (bF 201) 201 [a0,a1] S K)=fun C a0 a1 S K=>aU5 C a0 a1 S K:=by kernel_rfl
noncomputable def vT (C:aC) (K:KW) (p0 p1:V) (S:St)  :Prop:=
wR (aH prog .add 3 p0 p1) fun t0=>
K (.tup [t0,(.int .i64 0)]) S
noncomputable def aU7 (C:aC) (a0 a1:V) (S:St) (K:KW):Prop:=
wR (aH prog .gtr 3 a1 (.int .i64 0)) fun t1=>
aE t1 (wR (aH prog .sub 3 (.int .i64 9223372036854775807) a1) fun t2=>
wR (aH prog .gtr 3 a0 t2) fun t3=>
aE t3 (K (.tup [(.int .i64 0),(.int .i64 7)]) S) (wR (aH prog .lss 3 a1 (.int .i64 0)) fun t4=>
aE t4 (wR (aH prog .sub 3 (.int .i64 (-9223372036854775808)) a1) fun t5=>
wR (aH prog .lss 3 a0 t5) fun t6=>
aE t6 (K (.tup [(.int .i64 0),(.int .i64 7)]) S) (vT C K a0 a1 S)) (vT C K a0 a1 S))) (wR (aH prog .lss 3 a1 (.int .i64 0)) fun t7=>
aE t7 (wR (aH prog .sub 3 (.int .i64 (-9223372036854775808)) a1) fun t8=>
wR (aH prog .lss 3 a0 t8) fun t9=>
aE t9 (K (.tup [(.int .i64 0),(.int .i64 7)]) S) (vT C K a0 a1 S)) (vT C K a0 a1 S))
theorem aU8:(fun (C:aC) (a0 a1:V) (S:St) (K:KW)=>aN prog C (bD 203) (bF 203) 203 [a0,a1] S K)=fun C a0 a1 S K=>aU7 C a0 a1 S K:=by kernel_rfl
noncomputable def aU9 (C:aC) (a0:V) (S:St) (K:KW):Prop:=
wR (aH prog .rem 3 a0 (.int .i64 4)) fun t0=>
bS (aL prog 3 t0 (.int .i64 0)) (wR (aH prog .eql 3 t0 (.int .i64 0)) fun t1=>
aE t1 (wR (aH prog .rem 3 a0 (.int .i64 100)) fun t2=>
bS (aL prog 3 t2 (.int .i64 0)) (wR (aH prog .neq 3 t2 (.int .i64 0)) fun t3=>
aE t3 (K (.bool true) S) (wR (aH prog .rem 3 a0 (.int .i64 400)) fun t4=>
bS (aL prog 3 t4 (.int .i64 0)) (wR (aH prog .eql 3 t4 (.int .i64 0)) fun t5=>
K t5 S)))) (K (.bool false) S))
theorem aUa:(fun (C:aC) (a0:V) (S:St) (K:KW)=>aN prog C (bD 204) (bF 204) 204 [a0] S K)=fun C a0 S K=>aU9 C a0 S K:=by kernel_rfl
noncomputable def aUb (C:aC) (a0 a1:V) (S:St) (K:KW):Prop:=
C 254 [a0,a1,(.int .i64 10000)] S fun t0 S1=>
bI t0 0 fun t2=>
bI t0 1 fun t3=>
K (.tup [t2,t3]) S1
theorem aUc:(fun (C:aC) (a0 a1:V) (S:St) (K:KW)=>aN prog C (bD 217) (bF 217) 217 [a0,a1] S K)=fun C a0 a1 S K=>aUb C a0 a1 S K:=by kernel_rfl
noncomputable def aFm (C:aC) (K:KW) (again0:List V→St→Prop) (p4 p5 p7 p8 p10 p11 p12:V) (S:St)  :Prop:=
wR (bH prog 3 229 p7 none S) fun r4=>
wR (lF Tryz.f255 [p5,r4.1,(.int .u64 0)]) fun t5=>
bI t5 0 fun t7=>
bI t5 1 fun t8=>
wR (lF Tryz.f255 [p4,p8,t8]) fun t9=>
bI t9 0 fun t11=>
bI t9 1 fun t12=>
wR (aH prog .add 3 p12 (.int .i64 1)) fun t13=>
again0 [t11,t7,t13] r4.2
noncomputable def aFn (C:aC) (K:KW) (p10 p11:V) (vs:List V) (S:St) (again0:List V→St→Prop)  :Prop:=
eC vs fun x4 vs=>
eC vs fun x5 vs=>
eC vs fun x12 vs=>
wR (aH prog .lss 3 x12 p11) fun t1=>
aE t1 (wR (aD prog 96 p10 x12) fun t2=>
wR (aB prog 3 t2 S) fun t3=>
wR (aH prog .lss 3 t3 (.int .i64 0)) fun t14=>
aE t14 (wR (jE .xor (.int .u64 0)) fun t15=>
aFm C K again0 x4 x5 t3 t15 p10 p11 x12 S) (aFm C K again0 x4 x5 t3 (.int .u64 0) p10 p11 x12 S)) (wR (aH prog .shr 229 x5 (.int .u64 63)) fun t16=>
bS (aL prog 229 t16 (.int .u64 0)) (wR (aH prog .eql 229 t16 (.int .u64 0)) fun t17=>
aE t17 (wR (bH prog 229 3 x5 none S) fun r18=>
bS (aL prog 229 x4 (.int .u64 0)) (wR (aH prog .eql 229 x4 (.int .u64 0)) fun t19=>
K (.tup [r18.1,t19]) r18.2)) (wR (bH prog 229 3 x5 none S) fun r20=>
bS (aL prog 229 x4 (.int .u64 18446744073709551615)) (wR (aH prog .eql 229 x4 (.int .u64 18446744073709551615)) fun t21=>
K (.tup [r20.1,t21]) r20.2))))
noncomputable def aUd (C:aC) (a0:V) (S:St) (K:KW):Prop:=
wR (bG prog 96 a0 S) fun t0=>
cR [(.int .u64 0),(.int .u64 0),(.int .i64 0)] S (aFn C K a0 t0)
theorem aUe:(fun (C:aC) (a0:V) (S:St) (K:KW)=>aN prog C (bD 218) (bF 218) 218 [a0] S K)=fun C a0 S K=>aUd C a0 S K:=by kernel_rfl
noncomputable def vU (C:aC) (K:KW) (p0 p1:V) (S:St)  :Prop:=
wR (aH prog .sub 3 p0 p1) fun t0=>
K (.tup [t0,(.int .i64 0)]) S
noncomputable def aUf (C:aC) (a0 a1:V) (S:St) (K:KW):Prop:=
wR (aH prog .lss 3 a1 (.int .i64 0)) fun t1=>
aE t1 (wR (aH prog .add 3 (.int .i64 9223372036854775807) a1) fun t2=>
wR (aH prog .gtr 3 a0 t2) fun t3=>
aE t3 (K (.tup [(.int .i64 0),(.int .i64 7)]) S) (wR (aH prog .gtr 3 a1 (.int .i64 0)) fun t4=>
aE t4 (wR (aH prog .add 3 (.int .i64 (-9223372036854775808)) a1) fun t5=>
wR (aH prog .lss 3 a0 t5) fun t6=>
aE t6 (K (.tup [(.int .i64 0),(.int .i64 7)]) S) (vU C K a0 a1 S)) (vU C K a0 a1 S))) (wR (aH prog .gtr 3 a1 (.int .i64 0)) fun t7=>
aE t7 (wR (aH prog .add 3 (.int .i64 (-9223372036854775808)) a1) fun t8=>
wR (aH prog .lss 3 a0 t8) fun t9=>
aE t9 (K (.tup [(.int .i64 0),(.int .i64 7)]) S) (vU C K a0 a1 S)) (vU C K a0 a1 S))
theorem aUg:(fun (C:aC) (a0 a1:V) (S:St) (K:KW)=>aN prog C (bD 219) (bF 219) 219 [a0,a1] S K)=fun C a0 a1 S K=>aUf C a0 a1 S K:=by kernel_rfl
noncomputable def aFo (C:aC) (K:KW) (p0:V) (vs:List V) (S:St) (again0:List V→St→Prop)  :Prop:=
eC vs fun x2 vs=>
eC vs fun x3 vs=>
wR (bG prog 27 p0 S) fun t0=>
wR (aH prog .lss 3 x3 t0) fun t1=>
aE t1 (wR (aH prog .sub 3 x3 (.int .i64 1)) fun t2=>
wR (aD prog 27 p0 t2) fun t3=>
wR (aA prog 90 t3 0) fun t4=>
wR (aB prog 9 t4 (⟨S.next+12,S.heap⟩:St)) fun t5=>
wR (aD prog 27 p0 x3) fun t6=>
wR (aA prog 90 t6 0) fun t7=>
wR (aB prog 9 t7 (⟨S.next+12,S.heap⟩:St)) fun t8=>
wR (aH prog .geq 9 t5 t8) fun t9=>
aE t9 (K (.bool false) (⟨S.next+12,S.heap⟩:St)) (wR (aH prog .add 3 x3 (.int .i64 1)) fun t10=>
again0 [x2,t10] (⟨S.next+12,S.heap⟩:St))) (K (.bool true) S)
noncomputable def aUh (C:aC) (a0:V) (S:St) (K:KW):Prop:=
cR [(.bool false),(.int .i64 1)] S (aFo C K a0)
theorem aUi:(fun (C:aC) (a0:V) (S:St) (K:KW)=>aN prog C (bD 220) (bF 220) 220 [a0] S K)=fun C a0 S K=>aUh C a0 S K:=by kernel_rfl
noncomputable def aAc (C:aC) (K:KW) (p0 p3:V) (S:St)  :Prop:=
aE p3 (K (.bool true) S) (bS (aL prog 21 p0 (.int .i32 215)) (wR (aH prog .eql 21 p0 (.int .i32 215)) fun t0=>
aE t0 (K (.bool false) S) (bS (aL prog 21 p0 (.int .i32 247)) (wR (aH prog .eql 21 p0 (.int .i32 247)) fun t1=>
aE t1 (K (.bool false) S) (wR (aH prog .geq 21 p0 (.int .i32 192)) fun t2=>
aE t2 (wR (aH prog .leq 21 p0 (.int .i32 591)) fun t3=>
K t3 S) (K (.bool false) S))))))
noncomputable def aFp (C:aC) (K:KW) (p0 p3:V) (S:St)  :Prop:=
aE p3 (aAc C K p0 (.bool true) S) (wR (aH prog .geq 21 p0 (.int .i32 65)) fun t4=>
aE t4 (wR (aH prog .leq 21 p0 (.int .i32 90)) fun t5=>
aAc C K p0 t5 S) (aAc C K p0 (.bool false) S))
noncomputable def aUj (C:aC) (a0:V) (S:St) (K:KW):Prop:=
wR (aH prog .geq 21 a0 (.int .i32 97)) fun t6=>
aE t6 (wR (aH prog .leq 21 a0 (.int .i32 122)) fun t7=>
aFp C K a0 t7 S) (aFp C K a0 (.bool false) S)
theorem aUk:(fun (C:aC) (a0:V) (S:St) (K:KW)=>aN prog C (bD 225) (bF 225) 225 [a0] S K)=fun C a0 S K=>aUj C a0 S K:=by kernel_rfl
noncomputable def aFq (C:aC) (K:KW) (p1 p14 p15:V) (vs:List V) (S:St) (again0:List V→St→Prop)  :Prop:=
eC vs fun x3 vs=>
eC vs fun x4 vs=>
eC vs fun x16 vs=>
wR (aH prog .lss 3 x16 p15) fun t4=>
aE t4 (wR (aD prog 80 p14 x16) fun t5=>
wR (aB prog 145 t5 S) fun t6=>
wR (aJ none S (.row 0 4 [[.str [],.int .i64 0,.int .i64 0,.int .i64 0]])) fun r7=>
wR (aG prog 145 (.ptr r7.1 0 0 0) t6 r7.2) fun S8=>
wR (aA prog 145 (.ptr r7.1 0 0 0) 2) fun t9=>
wR (aB prog 3 t9 (⟨S8.next+12,S8.heap⟩:St)) fun t10=>
wR (aA prog 145 (.ptr r7.1 0 0 0) 3) fun t11=>
wR (aB prog 3 t11 (⟨S8.next+12,S8.heap⟩:St)) fun t12=>
wR (aK prog 96 1 [(0,t10)] (some (S8.next+3)) (⟨S8.next+12,S8.heap⟩:St)) fun r13=>
wR (aV prog 96 x3 r13.1 (some (S8.next+4)) r13.2) fun r14=>
wR (aB prog 3 t11 r14.2) fun t15=>
bS (dI t12 t15) (wR (aK prog 96 1 [(0,t12)] (some (S8.next+8)) r14.2) fun r16=>
wR (aV prog 96 x4 r16.1 (some (S8.next+9)) r16.2) fun r17=>
wR (aH prog .add 3 x16 (.int .i64 1)) fun t18=>
again0 [r14.1,r17.1,t18] r17.2)) (C 218 [x3] S fun t19 S20=>
bI t19 0 fun t21=>
bI t19 1 fun t22=>
C 218 [x4] S20 fun t23 S24=>
bI t23 0 fun t25=>
bI t23 1 fun t26=>
wR (aA prog 82 p1 0) fun t27=>
wR (aB prog 3 t27 S24) fun t28=>
wR (aA prog 82 p1 1) fun t29=>
wR (aB prog 3 t29 S24) fun t30=>
wR (aK prog 96 2 [(0,t28),(1,t30)] none S24) fun r31=>
C 218 [r31.1] r31.2 fun t32 S33=>
bI t32 0 fun t34=>
bI t32 1 fun t35=>
aE t22 (aE t26 (aE t35 (wR (aA prog 82 p1 0) fun t36=>
wR (aB prog 3 t36 S33) fun t37=>
bS (aL prog 3 t21 t37) (wR (aH prog .eql 3 t21 t37) fun t38=>
aE t38 (wR (aA prog 82 p1 1) fun t39=>
wR (aB prog 3 t39 S33) fun t40=>
bS (aL prog 3 t25 t40) (wR (aH prog .eql 3 t25 t40) fun t41=>
aE t41 (wR (aA prog 82 p1 2) fun t42=>
wR (aB prog 3 t42 S33) fun t43=>
bS (aL prog 3 t34 t43) (wR (aH prog .eql 3 t34 t43) fun t44=>
K t44 S33)) (K (.bool false) S33))) (K (.bool false) S33))) (K (.bool false) S33)) (K (.bool false) S33)) (K (.bool false) S33))
noncomputable def aUl (C:aC) (a0:V) (S:St) (K:KW):Prop:=
bS (aM (a0:V).cells) (wR (aJ none S (.row 0 (a0:V).cells.length [(a0:V).cells])) fun r0=>
wR (aA prog 82 (.ptr r0.1 0 0 0) 3) fun t1=>
wR (aB prog 80 t1 r0.2) fun t2=>
wR (bG prog 80 t2 r0.2) fun t3=>
cR [(.nils),(.nils),(.int .i64 0)] r0.2 (aFq C K (.ptr r0.1 0 0 0) t2 t3))
theorem aUm:(fun (C:aC) (a0:V) (S:St) (K:KW)=>aN prog C (bD 226) (bF 226) 226 [a0] S K)=fun C a0 S K=>aUl C a0 S K:=by kernel_rfl
noncomputable def aZ1 (C:aC) (a0 a1:V) (S:St) (K:KW):Prop:=
bS (aM (a0:V).cells) (wR (aJ none S (.row 0 (a0:V).cells.length [(a0:V).cells])) fun r0=>
wR (aA prog 84 (.ptr r0.1 0 0 0) 0) fun t1=>
wR (aB prog 57 t1 r0.2) fun t2=>
wR (aB prog 57 a1 r0.2) fun t3=>
bS (aL prog 57 t2 t3) (wR (aH prog .eql 57 t2 t3) fun t4=>
K t4 r0.2))
theorem aUn:(fun (C:aC) (a0 a1:V) (S:St) (K:KW)=>aN prog C (bD 227) (bF 227) 227 [a0,a1] S K)=fun C a0 a1 S K=>aZ1 C a0 a1 S K:=by kernel_rfl
noncomputable def aFr (C:aC) (K:KW) (p1 p2 p22:V) (vs:List V) (S:St) (again0:List V→St→Prop)  :Prop:=
eC vs fun x3 vs=>
eC vs fun x23 vs=>
wR (aH prog .lss 3 x23 p22) fun t20=>
aE t20 (wR (aA prog 82 p1 3) fun t21=>
wR (aB prog 80 t21 (⟨S.next+13,S.heap⟩:St)) fun t22=>
wR (aD prog 80 t22 x23) fun t23=>
wR (aA prog 145 t23 2) fun t24=>
wR (aA prog 82 p1 3) fun t25=>
wR (aB prog 80 t25 (⟨S.next+13,S.heap⟩:St)) fun t26=>
wR (aD prog 80 t26 x23) fun t27=>
wR (aA prog 145 t27 3) fun t28=>
wR (aK prog 361 2 [(0,t24),(1,t28)] (some (S.next+10)) (⟨S.next+13,S.heap⟩:St)) fun r29=>
C 259 [r29.1] r29.2 fun t30 S31=>
bS (aL prog 31 t30 (.int .i64 0)) (wR (aH prog .neq 31 t30 (.int .i64 0)) fun t32=>
aE t32 (wR (aR prog 82 []) fun t33=>
wR (aG prog 82 p2 t33 S31) fun S34=>
wR (aB prog 82 p2 S34) fun t35=>
K (.tup [t35,t30]) S34) (wR (aH prog .add 3 x23 (.int .i64 1)) fun t36=>
again0 [x3,t36] S31))) (wR (aB prog 82 p1 S) fun t37=>
wR (aG prog 82 p2 t37 S) fun S38=>
wR (aB prog 82 p2 S38) fun t39=>
K (.tup [t39,(.int .i64 0)]) S38)
noncomputable def aUo (C:aC) (a0:V) (S:St) (K:KW):Prop:=
bS (aM (a0:V).cells) (wR (aJ none S (.row 0 (a0:V).cells.length [(a0:V).cells])) fun r0=>
wR (aJ none r0.2 (.row 0 4 [[.int .i64 0,.int .i64 0,.int .i64 0,.nils]])) fun r1=>
wR (aA prog 82 (.ptr r0.1 0 0 0) 3) fun t2=>
wR (aB prog 80 t2 r1.2) fun t3=>
wR (aV prog 80 (.nils) t3 none r1.2) fun r4=>
wR (aA prog 82 (.ptr r0.1 0 0 0) 3) fun t5=>
wR (aG prog 80 t5 r4.1 r4.2) fun S6=>
wR (aA prog 82 (.ptr r0.1 0 0 0) 0) fun t7=>
wR (aA prog 82 (.ptr r0.1 0 0 0) 1) fun t8=>
wR (aA prog 82 (.ptr r0.1 0 0 0) 2) fun t9=>
wR (aK prog 361 3 [(0,t7),(1,t8),(2,t9)] none S6) fun r10=>
C 259 [r10.1] r10.2 fun t11 S12=>
bS (aL prog 31 t11 (.int .i64 0)) (wR (aH prog .neq 31 t11 (.int .i64 0)) fun t13=>
aE t13 (wR (aR prog 82 []) fun t14=>
wR (aG prog 82 (.ptr r1.1 0 0 0) t14 S12) fun S15=>
wR (aB prog 82 (.ptr r1.1 0 0 0) S15) fun t16=>
K (.tup [t16,t11]) S15) (wR (aA prog 82 (.ptr r0.1 0 0 0) 3) fun t17=>
wR (aB prog 80 t17 S12) fun t18=>
wR (bG prog 80 t18 S12) fun t19=>
cR [(.int .i64 0),(.int .i64 0)] S12 (aFr C K (.ptr r0.1 0 0 0) (.ptr r1.1 0 0 0) t19))))
theorem aUp:(fun (C:aC) (a0:V) (S:St) (K:KW)=>aN prog C (bD 228) (bF 228) 228 [a0] S K)=fun C a0 S K=>aUo C a0 S K:=by kernel_rfl
noncomputable def aUq (C:aC) (a0 a1:V) (S:St) (K:KW):Prop:=
bS (aM (a0:V).cells) (wR (aJ none S (.row 0 (a0:V).cells.length [(a0:V).cells])) fun r0=>
bS (aM (a1:V).cells) (wR (aJ none r0.2 (.row 0 (a1:V).cells.length [(a1:V).cells])) fun r1=>
wR (aA prog 82 (.ptr r0.1 0 0 0) 0) fun t2=>
wR (aB prog 3 t2 r1.2) fun t3=>
wR (aA prog 82 (.ptr r1.1 0 0 0) 0) fun t4=>
wR (aB prog 3 t4 r1.2) fun t5=>
bS (aL prog 3 t3 t5) (wR (aH prog .eql 3 t3 t5) fun t6=>
aE t6 (wR (aA prog 82 (.ptr r0.1 0 0 0) 1) fun t7=>
wR (aB prog 3 t7 r1.2) fun t8=>
wR (aA prog 82 (.ptr r1.1 0 0 0) 1) fun t9=>
wR (aB prog 3 t9 r1.2) fun t10=>
bS (aL prog 3 t8 t10) (wR (aH prog .eql 3 t8 t10) fun t11=>
aE t11 (wR (aA prog 82 (.ptr r0.1 0 0 0) 2) fun t12=>
wR (aB prog 3 t12 r1.2) fun t13=>
wR (aA prog 82 (.ptr r1.1 0 0 0) 2) fun t14=>
wR (aB prog 3 t14 r1.2) fun t15=>
bS (aL prog 3 t13 t15) (wR (aH prog .eql 3 t13 t15) fun t16=>
aE t16 (wR (aA prog 82 (.ptr r0.1 0 0 0) 3) fun t17=>
wR (aB prog 80 t17 r1.2) fun t18=>
wR (aA prog 82 (.ptr r1.1 0 0 0) 3) fun t19=>
wR (aB prog 80 t19 r1.2) fun t20=>
C 260 [t18,t20] r1.2 fun t21 S22=>
K t21 S22) (K (.bool false) r1.2))) (K (.bool false) r1.2))) (K (.bool false) r1.2))))
theorem aUr:(fun (C:aC) (a0 a1:V) (S:St) (K:KW)=>aN prog C (bD 229) (bF 229) 229 [a0,a1] S K)=fun C a0 a1 S K=>aUq C a0 a1 S K:=by kernel_rfl
noncomputable def aFs (C:aC) (K:KW) (p0 p1 p7:V) (vs:List V) (S:St) (again0:List V→St→Prop)  :Prop:=
eC vs fun x4 vs=>
eC vs fun x8 vs=>
wR (aH prog .lss 3 x8 p7) fun t1=>
aE t1 (wR (aD prog 28 p0 x8) fun t2=>
wR (aB prog 132 t2 S) fun t3=>
aEt prog C p1 [t3] S fun t4 S5=>
aE t4 (K x8 S5) (wR (aH prog .add 3 x8 (.int .i64 1)) fun t6=>
again0 [x4,t6] S5)) (K (.int .i64 (-1)) S)
noncomputable def aZ2 (C:aC) (a0 a1:V) (S:St) (K:KW):Prop:=
wR (bG prog 28 a0 S) fun t0=>
cR [(.int .i64 0),(.int .i64 0)] S (aFs C K a0 a1 t0)
theorem aUs:(fun (C:aC) (a0 a1:V) (S:St) (K:KW)=>aN prog C (bD 231) (bF 231) 231 [a0,a1] S K)=fun C a0 a1 S K=>aZ2 C a0 a1 S K:=by kernel_rfl
noncomputable def aZ3 (C:aC) (a0 a1:V) (S:St) (K:KW):Prop:=
bS (aM (a0:V).cells) (wR (aJ none S (.row 0 (a0:V).cells.length [(a0:V).cells])) fun r0=>
wR (aA prog 132 (.ptr r0.1 0 0 0) 0) fun t1=>
wR (aB prog 3 t1 r0.2) fun t2=>
wR (aB prog 3 a1 r0.2) fun t3=>
bS (aL prog 3 t2 t3) (wR (aH prog .eql 3 t2 t3) fun t4=>
K t4 r0.2))
theorem aUt:(fun (C:aC) (a0 a1:V) (S:St) (K:KW)=>aN prog C (bD 232) (bF 232) 232 [a0,a1] S K)=fun C a0 a1 S K=>aZ3 C a0 a1 S K:=by kernel_rfl
noncomputable def aUu (C:aC) (a0 a1:V) (S:St) (K:KW):Prop:=
bS (aM (a1:V).cells) (wR (aJ none S (.row 0 (a1:V).cells.length [(a1:V).cells])) fun r0=>
C 152 [a0,(.func 263 [] [(.ptr r0.1 0 0 0)])] r0.2 fun t1 S2=>
K t1 S2)
theorem aUv:(fun (C:aC) (a0 a1:V) (S:St) (K:KW)=>aN prog C (bD 233) (bF 233) 233 [a0,a1] S K)=fun C a0 a1 S K=>aUu C a0 a1 S K:=by kernel_rfl
noncomputable def aUw (C:aC) (a0:V) (S:St) (K:KW):Prop:=
wR (aV prog 25 (.nils) a0 none S) fun r0=>
K r0.1 r0.2
theorem aUx:(fun (C:aC) (a0:V) (S:St) (K:KW)=>aN prog C (bD 235) (bF 235) 235 [a0] S K)=fun C a0 S K=>aUw C a0 S K:=by kernel_rfl
noncomputable def aUy (C:aC) (a0 a1:V) (S:St) (K:KW):Prop:=
C 86 [a0] S fun t0 S1=>
wR (jE .not t0) fun t2=>
aE t2 (K (.tup [(.int .i64 0),(.int .i64 1)]) S1) (C 233 [a0,a1] S1 fun t3 S4=>
wR (aH prog .lss 3 t3 (.int .i64 0)) fun t5=>
aE t5 (K (.tup [(.int .i64 0),(.int .i64 11)]) S4) (wR (aD prog 25 a0 t3) fun t6=>
wR (aA prog 126 t6 3) fun t7=>
wR (aB prog 4 t7 S4) fun t8=>
aE t8 (K (.tup [(.int .i64 0),(.int .i64 13)]) S4) (K (.tup [t3,(.int .i64 0)]) S4)))
theorem aUz:(fun (C:aC) (a0 a1:V) (S:St) (K:KW)=>aN prog C (bD 236) (bF 236) 236 [a0,a1] S K)=fun C a0 a1 S K=>aUy C a0 a1 S K:=by kernel_rfl
noncomputable def aFt (C:aC) (K:KW) (p0 p4 p6 p34 p35:V) (vs:List V) (S:St) (again0:List V→St→Prop)  :Prop:=
eC vs fun x7 vs=>
eC vs fun x8 vs=>
eC vs fun x36 vs=>
wR (aH prog .lss 3 x36 p35) fun t26=>
aE t26 (wR (aD prog 55 p34 x36) fun t27=>
wR (aB prog 201 t27 S) fun t28=>
wR (aJ none S (.row 0 4 [[.str [],.str [],.int .i64 0,.int .i64 0]])) fun r29=>
wR (aG prog 201 (.ptr r29.1 0 0 0) t28 r29.2) fun S30=>
wR (aB prog 52 p4 S30) fun t31=>
wR (aB prog 201 (.ptr r29.1 0 0 0) S30) fun t32=>
C 268 [p0,t31,t32] S30 fun t33 S34=>
bI t33 0 fun t35=>
bI t33 1 fun t36=>
bI t33 2 fun t37=>
bS (aL prog 31 t37 (.int .i64 0)) (wR (aH prog .neq 31 t37 (.int .i64 0)) fun t38=>
aE t38 (wR (aR prog 82 []) fun t39=>
wR (aG prog 82 p6 t39 S34) fun S40=>
wR (aB prog 82 p6 S40) fun t41=>
K (.tup [t41,t37]) S40) (wR (aA prog 201 (.ptr r29.1 0 0 0) 1) fun t42=>
wR (aB prog 9 t42 S34) fun t43=>
C 269 [x8,t43,t35,t36] S34 fun t44 S45=>
bI t44 0 fun t46=>
bI t44 1 fun t47=>
bS (aL prog 31 t47 (.int .i64 0)) (wR (aH prog .neq 31 t47 (.int .i64 0)) fun t48=>
aE t48 (wR (aR prog 82 []) fun t49=>
wR (aG prog 82 p6 t49 S45) fun S50=>
wR (aB prog 82 p6 S50) fun t51=>
K (.tup [t51,t47]) S50) (wR (aH prog .add 3 x36 (.int .i64 1)) fun t52=>
again0 [x7,t46,t52] S45))))) (C 270 [x8] S fun t53 S54=>
bI t53 0 fun t55=>
bI t53 1 fun t56=>
wR (aG prog 82 p6 t55 S54) fun S57=>
wR (aB prog 82 p6 S57) fun t58=>
K (.tup [t58,t56]) S57)
noncomputable def aV0 (C:aC) (a0 a1 a2:V) (S:St) (K:KW):Prop:=
bS (aM (a1:V).cells) (wR (aJ none S (.row 0 (a1:V).cells.length [(a1:V).cells])) fun r0=>
wR (aJ none r0.2 (.row 0 4 [[.int .i64 0,.int .i64 0,.int .i64 0,.nils]])) fun r1=>
C 85 [a0] r1.2 fun t2 S3=>
wR (jE .not t2) fun t4=>
aE t4 (wR (aR prog 82 []) fun t5=>
wR (aG prog 82 (.ptr r1.1 0 0 0) t5 S3) fun S6=>
wR (aB prog 82 (.ptr r1.1 0 0 0) S6) fun t7=>
K (.tup [t7,(.int .i64 1)]) S6) (wR (aB prog 52 (.ptr r0.1 0 0 0) S3) fun t8=>
C 123 [t8] S3 fun t9 S10=>
wR (jE .not t9) fun t11=>
aE t11 (wR (aR prog 82 []) fun t12=>
wR (aG prog 82 (.ptr r1.1 0 0 0) t12 S10) fun S13=>
wR (aB prog 82 (.ptr r1.1 0 0 0) S13) fun t14=>
K (.tup [t14,(.int .i64 9)]) S13) (wR (bG prog 55 a2 S10) fun t15=>
bS (aL prog 3 t15 (.int .i64 0)) (wR (aH prog .eql 3 t15 (.int .i64 0)) fun t16=>
aE t16 (wR (aR prog 82 []) fun t17=>
wR (aG prog 82 (.ptr r1.1 0 0 0) t17 S10) fun S18=>
wR (aB prog 82 (.ptr r1.1 0 0 0) S18) fun t19=>
K (.tup [t19,(.int .i64 1)]) S18) (wR (bG prog 55 a2 S10) fun t20=>
wR (aH prog .gtr 3 t20 (.int .i64 12)) fun t21=>
aE t21 (wR (aR prog 82 []) fun t22=>
wR (aG prog 82 (.ptr r1.1 0 0 0) t22 S10) fun S23=>
wR (aB prog 82 (.ptr r1.1 0 0 0) S23) fun t24=>
K (.tup [t24,(.int .i64 2)]) S23) (wR (bG prog 55 a2 S10) fun t25=>
cR [(.int .i64 0),(.nils),(.int .i64 0)] S10 (aFt C K a0 (.ptr r0.1 0 0 0) (.ptr r1.1 0 0 0) a2 t25)))))))
theorem aV1:(fun (C:aC) (a0 a1 a2:V) (S:St) (K:KW)=>aN prog C (bD 238) (bF 238) 238 [a0,a1,a2] S K)=fun C a0 a1 a2 S K=>aV0 C a0 a1 a2 S K:=by kernel_rfl
noncomputable def aV2 (C:aC) (a0 a1 a2:V) (S:St) (K:KW):Prop:=
bS (aM (a2:V).cells) (wR (aJ none S (.row 0 (a2:V).cells.length [(a2:V).cells])) fun r0=>
wR (aJ none r0.2 (.row 0 3 [[.int .i64 0,.int .i64 0,.int .i64 0]])) fun r1=>
gE a0 (wR (aA prog 30 a0 1) fun t2=>
wR (aB prog 25 t2 r1.2) fun t3=>
C 271 [t3,a1] r1.2 fun t4 S5=>
bI t4 0 fun t6=>
bI t4 1 fun t7=>
bI t4 2 fun t8=>
bS (aL prog 31 t8 (.int .i64 0)) (wR (aH prog .neq 31 t8 (.int .i64 0)) fun t9=>
aE t9 (C 103 [t8] S5 fun t10 S11=>
wR (aG prog 48 (.ptr r1.1 0 0 0) t10 S11) fun S12=>
wR (aB prog 48 (.ptr r1.1 0 0 0) S12) fun t13=>
K t13 S12) (gE a0 (wR (aA prog 30 a0 2) fun t14=>
wR (aB prog 26 t14 S5) fun t15=>
wR (bG prog 26 t15 S5) fun t16=>
wR (aH prog .geq 3 t16 (.int .i64 40)) fun t17=>
aE t17 (C 103 [(.int .i64 14)] S5 fun t18 S19=>
wR (aG prog 48 (.ptr r1.1 0 0 0) t18 S19) fun S20=>
wR (aB prog 48 (.ptr r1.1 0 0 0) S20) fun t21=>
K t21 S20) (wR (aA prog 84 (.ptr r0.1 0 0 0) 2) fun t22=>
wR (aB prog 82 t22 S5) fun t23=>
C 157 [t23] S5 fun t24 S25=>
bI t24 0 fun t26=>
bI t24 1 fun t27=>
bS (aL prog 31 t27 (.int .i64 0)) (wR (aH prog .neq 31 t27 (.int .i64 0)) fun t28=>
aE t28 (C 103 [t27] S25 fun t29 S30=>
wR (aG prog 48 (.ptr r1.1 0 0 0) t29 S30) fun S31=>
wR (aB prog 48 (.ptr r1.1 0 0 0) S31) fun t32=>
K t32 S31) (gE a0 (wR (aA prog 30 a0 3) fun t33=>
wR (aB prog 27 t33 S25) fun t34=>
C 158 [t34,t26] S25 fun t35 S36=>
bI t35 0 fun t37=>
bI t35 1 fun t38=>
bS (aL prog 31 t38 (.int .i64 0)) (wR (aH prog .neq 31 t38 (.int .i64 0)) fun t39=>
aE t39 (C 103 [t38] S36 fun t40 S41=>
wR (aG prog 48 (.ptr r1.1 0 0 0) t40 S41) fun S42=>
wR (aB prog 48 (.ptr r1.1 0 0 0) S42) fun t43=>
K t43 S42) (wR (aR prog 57 [(0,a1),(1,t7)]) fun t44=>
wR (aA prog 84 (.ptr r0.1 0 0 0) 0) fun t45=>
wR (aG prog 57 t45 t44 S36) fun S46=>
gE a0 (wR (aA prog 30 a0 2) fun t47=>
wR (aB prog 26 t47 (⟨S46.next+21,S46.heap⟩:St)) fun t48=>
wR (aB prog 84 (.ptr r0.1 0 0 0) (⟨S46.next+21,S46.heap⟩:St)) fun t49=>
wR (aK prog 26 1 [(0,t49)] (some (S46.next+10)) (⟨S46.next+21,S46.heap⟩:St)) fun r50=>
wR (aV prog 26 t48 r50.1 (some (S46.next+11)) r50.2) fun r51=>
gE a0 (wR (aA prog 30 a0 1) fun t52=>
wR (aG prog 25 t52 t6 r51.2) fun S53=>
gE a0 (wR (aA prog 30 a0 3) fun t54=>
wR (aG prog 27 t54 t37 S53) fun S55=>
gE a0 (wR (aA prog 30 a0 2) fun t56=>
wR (aG prog 26 t56 r51.1 S55) fun S57=>
wR (aA prog 84 (.ptr r0.1 0 0 0) 2) fun t58=>
wR (aA prog 82 t58 2) fun t59=>
wR (aB prog 3 t59 S57) fun t60=>
wR (aR prog 48 [(1,t7),(2,t60)]) fun t61=>
wR (aG prog 48 (.ptr r1.1 0 0 0) t61 S57) fun S62=>
wR (aB prog 48 (.ptr r1.1 0 0 0) S62) fun t63=>
K t63 S62)))))))))))))))
theorem aV3:(fun (C:aC) (a0 a1 a2:V) (S:St) (K:KW)=>aN prog C (bD 239) (bF 239) 239 [a0,a1,a2] S K)=fun C a0 a1 a2 S K=>aV2 C a0 a1 a2 S K:=by kernel_rfl
noncomputable def aV4 (C:aC) (a0 a1:V) (S:St) (K:KW):Prop:=
wR (aJ none S (.row 0 4 [[.str [],.int .i64 0,.int .i64 0,.bool false]])) fun r0=>
C 233 [a0,a1] r0.2 fun t1 S2=>
wR (aH prog .lss 3 t1 (.int .i64 0)) fun t3=>
aE t3 (wR (aR prog 126 []) fun t4=>
wR (aG prog 126 (.ptr r0.1 0 0 0) t4 S2) fun S5=>
wR (aB prog 126 (.ptr r0.1 0 0 0) S5) fun t6=>
K (.tup [t6,(.bool false)]) S5) (wR (aD prog 25 a0 t1) fun t7=>
wR (aB prog 126 t7 S2) fun t8=>
wR (aG prog 126 (.ptr r0.1 0 0 0) t8 S2) fun S9=>
wR (aB prog 126 (.ptr r0.1 0 0 0) S9) fun t10=>
K (.tup [t10,(.bool true)]) S9)
theorem aV5:(fun (C:aC) (a0 a1:V) (S:St) (K:KW)=>aN prog C (bD 241) (bF 241) 241 [a0,a1] S K)=fun C a0 a1 S K=>aV4 C a0 a1 S K:=by kernel_rfl
noncomputable def aFu (C:aC) (K:KW) (p0 p9 p10 p11 p12:V) (S:St)  :Prop:=
wR (aH prog .mul 229 p11 p9) fun t7=>
wR (aH prog .mul 229 (.int .u64 2) p12) fun t8=>
wR (aH prog .mul 229 t8 p9) fun t9=>
wR (aH prog .add 229 t9 p10) fun t10=>
wR (aH prog .mul 229 (.int .u64 2) p10) fun t11=>
wR (aH prog .quo 229 t10 t11) fun t12=>
wR (aH prog .add 229 t7 t12) fun t13=>
wR (aH prog .gtr 229 t13 (.int .u64 9223372036854775807)) fun t14=>
aE t14 (K (.tup [(.int .i64 0),(.int .i64 7)]) S) (wR (aH prog .lss 3 p0 (.int .i64 0)) fun t15=>
aE t15 (wR (bH prog 229 3 t13 none S) fun r16=>
wR (jE .neg r16.1) fun t17=>
K (.tup [t17,(.int .i64 0)]) r16.2) (wR (bH prog 229 3 t13 none S) fun r18=>
K (.tup [r18.1,(.int .i64 0)]) r18.2))
noncomputable def aFv (C:aC) (K:KW) (p0 p1 p2 p8:V) (S:St)  :Prop:=
wR (bH prog 3 229 p1 none S) fun r3=>
wR (bH prog 3 229 p2 none r3.2) fun r4=>
wR (aH prog .quo 229 p8 r4.1) fun t5=>
wR (aH prog .rem 229 p8 r4.1) fun t6=>
wR (aH prog .gtr 229 r3.1 (.int .u64 0)) fun t19=>
aE t19 (wR (aH prog .quo 229 (.int .u64 9223372036854775807) r3.1) fun t20=>
wR (aH prog .gtr 229 t5 t20) fun t21=>
aE t21 (K (.tup [(.int .i64 0),(.int .i64 7)]) (⟨r4.2.next+8,r4.2.heap⟩:St)) (aFu C K p0 r3.1 r4.1 t5 t6 (⟨r4.2.next+8,r4.2.heap⟩:St))) (aFu C K p0 r3.1 r4.1 t5 t6 (⟨r4.2.next+8,r4.2.heap⟩:St))
noncomputable def aV6 (C:aC) (a0 a1 a2:V) (S:St) (K:KW):Prop:=
wR (aH prog .lss 3 a1 (.int .i64 0)) fun t0=>
aE t0 (K (.tup [(.int .i64 0),(.int .i64 1)]) S) (wR (aH prog .gtr 3 a1 (.int .i64 100000)) fun t1=>
aE t1 (K (.tup [(.int .i64 0),(.int .i64 1)]) S) (wR (bH prog 3 229 a0 none S) fun r2=>
wR (aH prog .lss 3 a0 (.int .i64 0)) fun t22=>
aE t22 (wR (jE .xor r2.1) fun t23=>
wR (aH prog .add 229 t23 (.int .u64 1)) fun t24=>
aFv C K a0 a1 a2 t24 r2.2) (aFv C K a0 a1 a2 r2.1 r2.2)))
theorem aV7:(fun (C:aC) (a0 a1 a2:V) (S:St) (K:KW)=>aN prog C (bD 254) (bF 254) 254 [a0,a1,a2] S K)=fun C a0 a1 a2 S K=>aV6 C a0 a1 a2 S K:=by kernel_rfl
noncomputable def aFw (C:aC) (K:KW) (p7 p8:V) (vs:List V) (S:St) (again0:List V→St→Prop)  :Prop:=
eC vs fun x2 vs=>
eC vs fun x9 vs=>
wR (aH prog .lss 3 x9 p8) fun t1=>
aE t1 (wR (aD prog 361 p7 x9) fun t2=>
wR (aB prog 349 t2 S) fun t3=>
gE t3 (wR (aB prog 3 t3 S) fun t4=>
C 219 [(.int .i64 0),t4] S fun t5 S6=>
bI t5 0 fun t7=>
bI t5 1 fun t8=>
bS (aL prog 31 t8 (.int .i64 0)) (wR (aH prog .neq 31 t8 (.int .i64 0)) fun t9=>
aE t9 (K t8 S6) (gE t3 (wR (aG prog 3 t3 t7 S6) fun S10=>
wR (aH prog .add 3 x9 (.int .i64 1)) fun t11=>
again0 [x2,t11] S10))))) (K (.int .i64 0) S)
noncomputable def aPp (C:aC) (a0:V) (S:St) (K:KW):Prop:=
wR (bG prog 361 a0 S) fun t0=>
cR [(.int .i64 0),(.int .i64 0)] S (aFw C K a0 t0)
theorem aV8:(fun (C:aC) (a0:V) (S:St) (K:KW)=>aN prog C (bD 259) (bF 259) 259 [a0] S K)=fun C a0 S K=>aPp C a0 S K:=by kernel_rfl
noncomputable def aFx (C:aC) (K:KW) (p0 p1 p12:V) (vs:List V) (S:St) (again0:List V→St→Prop)  :Prop:=
eC vs fun x4 vs=>
eC vs fun x13 vs=>
wR (aH prog .lss 3 x13 p12) fun t4=>
aE t4 (wR (aD prog 80 p0 x13) fun t5=>
wR (aB prog 145 t5 (⟨S.next+9,S.heap⟩:St)) fun t6=>
wR (aD prog 80 p1 x13) fun t7=>
wR (aB prog 145 t7 (⟨S.next+9,S.heap⟩:St)) fun t8=>
bS (aL prog 145 t6 t8) (wR (aH prog .neq 145 t6 t8) fun t9=>
aE t9 (K (.bool false) (⟨S.next+9,S.heap⟩:St)) (wR (aH prog .add 3 x13 (.int .i64 1)) fun t10=>
again0 [x4,t10] (⟨S.next+9,S.heap⟩:St)))) (K (.bool true) S)
noncomputable def aV9 (C:aC) (a0 a1:V) (S:St) (K:KW):Prop:=
wR (bG prog 80 a0 S) fun t0=>
wR (bG prog 80 a1 S) fun t1=>
bS (aL prog 3 t0 t1) (wR (aH prog .neq 3 t0 t1) fun t2=>
aE t2 (K (.bool false) S) (wR (bG prog 80 a0 S) fun t3=>
cR [(.bool false),(.int .i64 0)] S (aFx C K a0 a1 t3)))
theorem aVa:(fun (C:aC) (a0 a1:V) (S:St) (K:KW)=>aN prog C (bD 260) (bF 260) 260 [a0,a1] S K)=fun C a0 a1 S K=>aV9 C a0 a1 S K:=by kernel_rfl
noncomputable def aZ4 (C:aC) (a0 a1:V) (S:St) (K:KW):Prop:=
bS (aM (a0:V).cells) (wR (aJ none S (.row 0 (a0:V).cells.length [(a0:V).cells])) fun r0=>
wR (aA prog 126 (.ptr r0.1 0 0 0) 0) fun t1=>
wR (aB prog 9 t1 r0.2) fun t2=>
wR (aB prog 9 a1 r0.2) fun t3=>
bS (aL prog 9 t2 t3) (wR (aH prog .eql 9 t2 t3) fun t4=>
K t4 r0.2))
theorem aVb:(fun (C:aC) (a0 a1:V) (S:St) (K:KW)=>aN prog C (bD 263) (bF 263) 263 [a0,a1] S K)=fun C a0 a1 S K=>aZ4 C a0 a1 S K:=by kernel_rfl
noncomputable def aFy (C:aC) (K:KW) (p0 p4 p5 p23:V) (S:St)  :Prop:=
aE p23 (K (.tup [(.int .i64 0),(.int .i64 0),(.int .i64 1)]) S) (wR (aA prog 201 p5 1) fun t11=>
wR (aB prog 9 t11 S) fun t12=>
wR (aB prog 52 p4 S) fun t13=>
C 278 [p0,t12,t13] S fun t14 S15=>
bI t14 0 fun t16=>
bI t14 1 fun t17=>
wR (jE .not t17) fun t18=>
aE t18 (K (.tup [(.int .i64 0),(.int .i64 0),(.int .i64 10)]) S15) (wR (aA prog 201 p5 2) fun t19=>
wR (aB prog 3 t19 S15) fun t20=>
wR (aA prog 201 p5 3) fun t21=>
wR (aB prog 3 t21 S15) fun t22=>
C 279 [t20,t22] S15 fun t23 S24=>
bI t23 0 fun t25=>
bI t23 1 fun t26=>
K (.tup [t16,t25,t26]) S24))
noncomputable def aVc (C:aC) (a0 a1 a2:V) (S:St) (K:KW):Prop:=
bS (aM (a1:V).cells) (wR (aJ none S (.row 0 (a1:V).cells.length [(a1:V).cells])) fun r0=>
bS (aM (a2:V).cells) (wR (aJ none r0.2 (.row 0 (a2:V).cells.length [(a2:V).cells])) fun r1=>
wR (aA prog 201 (.ptr r1.1 0 0 0) 0) fun t2=>
wR (aB prog 9 t2 r1.2) fun t3=>
wR (bG prog 9 t3 r1.2) fun t4=>
wR (aH prog .gtr 3 t4 (.int .i64 64)) fun t5=>
aE t5 (K (.tup [(.int .i64 0),(.int .i64 0),(.int .i64 2)]) r1.2) (wR (aA prog 201 (.ptr r1.1 0 0 0) 1) fun t6=>
wR (aB prog 9 t6 r1.2) fun t7=>
C 165 [t7] r1.2 fun t8 S9=>
wR (jE .not t8) fun t10=>
aE t10 (K (.tup [(.int .i64 0),(.int .i64 0),(.int .i64 8)]) S9) (wR (aA prog 201 (.ptr r1.1 0 0 0) 2) fun t27=>
wR (aB prog 3 t27 S9) fun t28=>
wR (aH prog .lss 3 t28 (.int .i64 1)) fun t29=>
aE t29 (aFy C K a0 (.ptr r0.1 0 0 0) (.ptr r1.1 0 0 0) (.bool true) S9) (wR (aA prog 201 (.ptr r1.1 0 0 0) 2) fun t30=>
wR (aB prog 3 t30 S9) fun t31=>
wR (aH prog .gtr 3 t31 (.int .i64 1048576)) fun t32=>
aFy C K a0 (.ptr r0.1 0 0 0) (.ptr r1.1 0 0 0) t32 S9)))))
theorem aVd:(fun (C:aC) (a0 a1 a2:V) (S:St) (K:KW)=>aN prog C (bD 268) (bF 268) 268 [a0,a1,a2] S K)=fun C a0 a1 a2 S K=>aVc C a0 a1 a2 S K:=by kernel_rfl
noncomputable def aAd (C:aC) (K:KW) (p0 p3 p10:V) (S:St)  :Prop:=
wR (aD prog 80 p0 p10) fun t0=>
wR (aA prog 145 t0 2) fun t1=>
wR (aB prog 3 t1 S) fun t2=>
C 203 [t2,p3] S fun t3 S4=>
bI t3 0 fun t5=>
bI t3 1 fun t6=>
wR (aD prog 80 p0 p10) fun t7=>
wR (aA prog 145 t7 2) fun t8=>
wR (aG prog 3 t8 t5 S4) fun S9=>
K (.tup [p0,t6]) S9
noncomputable def vV (C:aC) (K:KW) (p0 p1 p2 p3 p10 p40:V) (S:St)  :Prop:=
aE p40 (wR (aR prog 145 [(0,p1),(1,p2)]) fun t10=>
wR (aK prog 80 1 [(0,t10)] none S) fun r11=>
C 280 [p0,p10,r11.1] r11.2 fun t12 S13=>
aAd C K t12 p3 p10 S13) (aAd C K p0 p3 p10 S)
noncomputable def aAe (C:aC) (K:KW) (p0 p1 p2 p3 p10:V) (S:St)  :Prop:=
wR (bG prog 80 p0 S) fun t14=>
bS (aL prog 3 p10 t14) (wR (aH prog .eql 3 p10 t14) fun t15=>
aE t15 (vV C K p0 p1 p2 p3 p10 (.bool true) S) (wR (aD prog 80 p0 p10) fun t16=>
wR (aA prog 145 t16 0) fun t17=>
wR (aB prog 9 t17 S) fun t18=>
bS (aL prog 9 t18 p1) (wR (aH prog .neq 9 t18 p1) fun t19=>
vV C K p0 p1 p2 p3 p10 t19 S)))
noncomputable def aFz (C:aC) (K:KW) (p0 p1 p2 p3:V) (vs:List V) (S:St) (again0:List V→St→Prop)  :Prop:=
eC vs fun x10 vs=>
wR (bG prog 80 p0 S) fun t20=>
wR (aH prog .lss 3 x10 t20) fun t21=>
aE t21 (wR (aD prog 80 p0 x10) fun t22=>
wR (aA prog 145 t22 0) fun t23=>
wR (aB prog 9 t23 S) fun t24=>
wR (aH prog .lss 9 t24 p1) fun t25=>
aE t25 (wR (aH prog .add 3 x10 (.int .i64 1)) fun t26=>
again0 [t26] S) (aAe C K p0 p1 p2 p3 x10 S)) (aAe C K p0 p1 p2 p3 x10 S)
noncomputable def aVe (C:aC) (a0 a1 a2 a3:V) (S:St) (K:KW):Prop:=
cR [(.int .i64 0)] S (aFz C K a0 a1 a2 a3)
theorem aVf:(fun (C:aC) (a0 a1 a2 a3:V) (S:St) (K:KW)=>aN prog C (bD 269) (bF 269) 269 [a0,a1,a2,a3] S K)=fun C a0 a1 a2 a3 S K=>aVe C a0 a1 a2 a3 S K:=by kernel_rfl
noncomputable def rZ (C:aC) (K:KW) (again0:List V→St→Prop) (p0 p2 p3 p4 p15 p16 p68:V) (S:St)  :Prop:=
aE p68 (wR (aR prog 82 []) fun t37=>
wR (aG prog 82 p2 t37 S) fun S38=>
wR (aB prog 82 p2 S38) fun t39=>
K (.tup [t39,(.int .i64 7)]) S38) (wR (aH prog .add 3 p16 (.int .i64 1)) fun t40=>
again0 [p3,t40] S)
noncomputable def aG0 (C:aC) (K:KW) (p0 p2 p4 p15:V) (vs:List V) (S:St) (again0:List V→St→Prop)  :Prop:=
eC vs fun x3 vs=>
eC vs fun x16 vs=>
wR (aH prog .lss 3 x16 p15) fun t5=>
aE t5 (wR (aD prog 80 p0 x16) fun t6=>
gE t6 (wR (aA prog 145 t6 2) fun t7=>
wR (aB prog 3 t7 (⟨S.next+17,S.heap⟩:St)) fun t8=>
gE t6 (wR (aA prog 145 t6 1) fun t9=>
wR (aB prog 3 t9 (⟨S.next+17,S.heap⟩:St)) fun t10=>
C 217 [t8,t10] (⟨S.next+17,S.heap⟩:St) fun t11 S12=>
bI t11 0 fun t13=>
bI t11 1 fun t14=>
gE t6 (wR (aA prog 145 t6 3) fun t15=>
wR (aG prog 3 t15 t13 S12) fun S16=>
wR (aA prog 82 p4 0) fun t17=>
wR (aB prog 3 t17 (⟨S16.next+13,S16.heap⟩:St)) fun t18=>
gE t6 (wR (aA prog 145 t6 2) fun t19=>
wR (aB prog 3 t19 (⟨S16.next+13,S16.heap⟩:St)) fun t20=>
C 203 [t18,t20] (⟨S16.next+13,S16.heap⟩:St) fun t21 S22=>
bI t21 0 fun t23=>
bI t21 1 fun t24=>
wR (aA prog 82 p4 0) fun t25=>
wR (aG prog 3 t25 t23 S22) fun S26=>
wR (aA prog 82 p4 1) fun t27=>
wR (aB prog 3 t27 (⟨S26.next+13,S26.heap⟩:St)) fun t28=>
gE t6 (wR (aA prog 145 t6 3) fun t29=>
wR (aB prog 3 t29 (⟨S26.next+13,S26.heap⟩:St)) fun t30=>
C 203 [t28,t30] (⟨S26.next+13,S26.heap⟩:St) fun t31 S32=>
bI t31 0 fun t33=>
bI t31 1 fun t34=>
wR (aA prog 82 p4 1) fun t35=>
wR (aG prog 3 t35 t33 S32) fun S36=>
bS (aL prog 31 t14 (.int .i64 0)) (wR (aH prog .neq 31 t14 (.int .i64 0)) fun t41=>
aE t41 (rZ C K again0 p0 p2 x3 p4 p15 x16 (.bool true) S36) (bS (aL prog 31 t24 (.int .i64 0)) (wR (aH prog .neq 31 t24 (.int .i64 0)) fun t42=>
aE t42 (rZ C K again0 p0 p2 x3 p4 p15 x16 (.bool true) S36) (bS (aL prog 31 t34 (.int .i64 0)) (wR (aH prog .neq 31 t34 (.int .i64 0)) fun t43=>
rZ C K again0 p0 p2 x3 p4 p15 x16 t43 S36))))))))))) (wR (aA prog 82 p4 0) fun t44=>
wR (aB prog 3 t44 S) fun t45=>
wR (aA prog 82 p4 1) fun t46=>
wR (aB prog 3 t46 S) fun t47=>
C 203 [t45,t47] S fun t48 S49=>
bI t48 0 fun t50=>
bI t48 1 fun t51=>
bS (aL prog 31 t51 (.int .i64 0)) (wR (aH prog .neq 31 t51 (.int .i64 0)) fun t52=>
aE t52 (wR (aR prog 82 []) fun t53=>
wR (aG prog 82 p2 t53 S49) fun S54=>
wR (aB prog 82 p2 S54) fun t55=>
K (.tup [t55,t51]) S54) (wR (aA prog 82 p4 2) fun t56=>
wR (aG prog 3 t56 t50 S49) fun S57=>
wR (aB prog 82 p4 S57) fun t58=>
wR (aG prog 82 p2 t58 S57) fun S59=>
wR (aB prog 82 p2 S59) fun t60=>
K (.tup [t60,(.int .i64 0)]) S59)))
noncomputable def aVg (C:aC) (a0:V) (S:St) (K:KW):Prop:=
wR (aJ none S (.row 0 4 [[.int .i64 0,.int .i64 0,.int .i64 0,.nils]])) fun r0=>
wR (aR prog 82 [(3,a0)]) fun t1=>
wR (aJ none r0.2 (.row 0 4 [[.int .i64 0,.int .i64 0,.int .i64 0,.nils]])) fun r2=>
wR (aG prog 82 (.ptr r2.1 0 0 0) t1 r2.2) fun S3=>
wR (bG prog 80 a0 S3) fun t4=>
cR [(.int .i64 0),(.int .i64 0)] S3 (aG0 C K a0 (.ptr r0.1 0 0 0) (.ptr r2.1 0 0 0) t4)
theorem aVh:(fun (C:aC) (a0:V) (S:St) (K:KW)=>aN prog C (bD 270) (bF 270) 270 [a0] S K)=fun C a0 S K=>aVg C a0 S K:=by kernel_rfl
noncomputable def aVi (C:aC) (a0 a1:V) (S:St) (K:KW):Prop:=
C 236 [a0,a1] S fun t0 S1=>
bI t0 0 fun t2=>
bI t0 1 fun t3=>
bS (aL prog 31 t3 (.int .i64 0)) (wR (aH prog .neq 31 t3 (.int .i64 0)) fun t4=>
aE t4 (K (.tup [(.nils),(.int .i64 0),t3]) S1) (wR (aD prog 25 a0 t2) fun t5=>
wR (aA prog 126 t5 1) fun t6=>
wR (aB prog 3 t6 S1) fun t7=>
wR (aD prog 25 a0 t2) fun t8=>
wR (aA prog 126 t8 2) fun t9=>
wR (aB prog 3 t9 S1) fun t10=>
wR (aH prog .gtr 3 t7 t10) fun t11=>
aE t11 (K (.tup [(.nils),(.int .i64 0),(.int .i64 14)]) S1) (C 235 [a0] S1 fun t12 S13=>
wR (aD prog 25 t12 t2) fun t14=>
wR (aA prog 126 t14 1) fun t15=>
wR (aB prog 3 t15 S13) fun t16=>
wR (aH prog .add 3 t16 (.int .i64 1)) fun t17=>
wR (aD prog 25 t12 t2) fun t18=>
wR (aA prog 126 t18 1) fun t19=>
wR (aG prog 3 t19 t17 S13) fun S20=>
K (.tup [t12,t7,(.int .i64 0)]) S20)))
theorem aVj:(fun (C:aC) (a0 a1:V) (S:St) (K:KW)=>aN prog C (bD 271) (bF 271) 271 [a0,a1] S K)=fun C a0 a1 S K=>aVi C a0 a1 S K:=by kernel_rfl
noncomputable def aG1 (C:aC) (K:KW) (again0:List V→St→Prop) (p1 p5 p8 p9 p11 p20 p21 p22 p36:V) (S:St)  :Prop:=
aE p36 (wR (aA prog 54 p11 2) fun t14=>
wR (aB prog 3 t14 S) fun t15=>
wR (aH prog .add 3 p22 (.int .i64 1)) fun t16=>
again0 [t15,(.bool true),t16] S) (wR (aH prog .add 3 p22 (.int .i64 1)) fun t17=>
again0 [p8,p9,t17] S)
noncomputable def aG2 (C:aC) (K:KW) (p1 p5 p20 p21:V) (vs:List V) (S:St) (again0:List V→St→Prop)  :Prop:=
eC vs fun x8 vs=>
eC vs fun x9 vs=>
eC vs fun x22 vs=>
wR (aH prog .lss 3 x22 p21) fun t9=>
aE t9 (wR (aD prog 24 p20 x22) fun t10=>
wR (aB prog 54 t10 S) fun t11=>
wR (aJ none S (.row 0 5 [[.str [],.int .i64 0,.int .i64 0,.int .i64 0,.int .i64 0]])) fun r12=>
wR (aG prog 54 (.ptr r12.1 0 0 0) t11 r12.2) fun S13=>
wR (aA prog 54 (.ptr r12.1 0 0 0) 0) fun t18=>
wR (aB prog 9 t18 S13) fun t19=>
bS (aL prog 9 t19 p1) (wR (aH prog .eql 9 t19 p1) fun t20=>
aE t20 (wR (aB prog 52 p5 S13) fun t21=>
wR (aA prog 54 (.ptr r12.1 0 0 0) 1) fun t22=>
wR (aB prog 52 t22 S13) fun t23=>
C 124 [t21,t23] S13 fun t24 S25=>
wR (jE .not t24) fun t26=>
aG1 C K again0 p1 p5 x8 x9 (.ptr r12.1 0 0 0) p20 p21 x22 t26 S25) (aG1 C K again0 p1 p5 x8 x9 (.ptr r12.1 0 0 0) p20 p21 x22 (.bool false) S13))) (K (.tup [x8,x9]) S)
noncomputable def aVk (C:aC) (a0 a1 a2:V) (S:St) (K:KW):Prop:=
bS (aM (a2:V).cells) (wR (aJ none S (.row 0 (a2:V).cells.length [(a2:V).cells])) fun r0=>
C 85 [a0] r0.2 fun t1 S2=>
wR (jE .not t1) fun t3=>
aE t3 (K (.tup [(.int .i64 0),(.bool false)]) S2) (wR (aB prog 52 (.ptr r0.1 0 0 0) S2) fun t4=>
C 123 [t4] S2 fun t5 S6=>
wR (jE .not t5) fun t7=>
aE t7 (K (.tup [(.int .i64 0),(.bool false)]) S6) (wR (bG prog 24 a0 S6) fun t8=>
cR [(.int .i64 0),(.bool false),(.int .i64 0)] S6 (aG2 C K a1 (.ptr r0.1 0 0 0) a0 t8))))
theorem aVl:(fun (C:aC) (a0 a1 a2:V) (S:St) (K:KW)=>aN prog C (bD 278) (bF 278) 278 [a0,a1,a2] S K)=fun C a0 a1 a2 S K=>aVk C a0 a1 a2 S K:=by kernel_rfl
noncomputable def aG3 (C:aC) (K:KW) (p0 p1 p6 p7:V) (S:St)  :Prop:=
wR (aH prog .mul 229 p6 p7) fun t4=>
wR (aH prog .lss 3 p0 (.int .i64 0)) fun t5=>
wR (aH prog .lss 3 p1 (.int .i64 0)) fun t6=>
bS (aL prog 4 t5 t6) (wR (aH prog .neq 4 t5 t6) fun t7=>
C 287 [t4,t7] S fun t8 S9=>
bI t8 0 fun t10=>
bI t8 1 fun t11=>
wR (jE .not t11) fun t12=>
aE t12 (K (.tup [(.int .i64 0),(.int .i64 7)]) S9) (K (.tup [t10,(.int .i64 0)]) S9))
noncomputable def aVm (C:aC) (a0 a1:V) (S:St) (K:KW):Prop:=
C 286 [a0] S fun t0 S1=>
C 286 [a1] S1 fun t2 S3=>
wR (aH prog .gtr 229 t2 (.int .u64 0)) fun t13=>
aE t13 (wR (aH prog .quo 229 (.int .u64 9223372036854775808) t2) fun t14=>
wR (aH prog .gtr 229 t0 t14) fun t15=>
aE t15 (K (.tup [(.int .i64 0),(.int .i64 7)]) S3) (aG3 C K a0 a1 t0 t2 S3)) (aG3 C K a0 a1 t0 t2 S3)
theorem aVn:(fun (C:aC) (a0 a1:V) (S:St) (K:KW)=>aN prog C (bD 279) (bF 279) 279 [a0,a1] S K)=fun C a0 a1 S K=>aVm C a0 a1 S K:=by kernel_rfl
noncomputable def aVo (C:aC) (a0:V) (S:St) (K:KW):Prop:=
wR (aH prog .lss 3 a0 (.int .i64 0)) fun t0=>
aE t0 (wR (bH prog 3 229 a0 none S) fun r1=>
wR (jE .xor r1.1) fun t2=>
wR (aH prog .add 229 t2 (.int .u64 1)) fun t3=>
K t3 r1.2) (wR (bH prog 3 229 a0 none S) fun r4=>
K r4.1 r4.2)
theorem aVp:(fun (C:aC) (a0:V) (S:St) (K:KW)=>aN prog C (bD 286) (bF 286) 286 [a0] S K)=fun C a0 S K=>aVo C a0 S K:=by kernel_rfl
noncomputable def aVq (C:aC) (a0 a1:V) (S:St) (K:KW):Prop:=
aE a1 (wR (jE .xor a0) fun t0=>
wR (aH prog .add 229 t0 (.int .u64 1)) fun t1=>
wR (bH prog 229 3 t1 none S) fun r2=>
wR (aH prog .leq 229 a0 (.int .u64 9223372036854775808)) fun t3=>
K (.tup [r2.1,t3]) r2.2) (wR (bH prog 229 3 a0 none S) fun r4=>
wR (aH prog .leq 229 a0 (.int .u64 9223372036854775807)) fun t5=>
K (.tup [r4.1,t5]) r4.2)
theorem aVr:(fun (C:aC) (a0 a1:V) (S:St) (K:KW)=>aN prog C (bD 287) (bF 287) 287 [a0,a1] S K)=fun C a0 a1 S K=>aVq C a0 a1 S K:=by kernel_rfl
end Go.Proofs.YtoaibmbldmckaaaGreat
end
