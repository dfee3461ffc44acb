import Derived.KernelRfl
import Derived.Test.YtoaibmbldmckaaaGreatProg
import Derived.Test.YtoaibmbldmckaaaGreatX1
set_option linter.unusedSimpArgs false
set_option linter.unusedVariables false
set_option linter.unusedSectionVars false
set_option maxRecDepth 100000
section
namespace Go.AM
section
mutual
def zV:V→Bool
 | .ptr _ _ _ _=>false
 | .nils=>false
 | .sl _ _ _ _ _=>false
 | .agg cs=>cloVs cs
 | .tup cs=>cloVs cs
 | .iface _ v=>zV v
 | .func _ a b=>cloVs a&&cloVs b
 | .mp _=>false
 | _=>true
def cloVs:List V→Bool
 | []=>true
 | v::l=>zV v&&cloVs l
end
mutual
theorem qT {ρ:Nat→Option Nat} {σ:V→R V}:∀ (v:V),zV v=true→cU ρ σ v=.ok v
 | .bool _,_ | .int _ _,_ | .str _,_ | .nilp,_ | .iptr _ _,_ | .imm _,_ | .nili,_ | .nilf,_ | .nilm,_ | .res _ _,_=>rfl
 | .agg cs,h=>by simp only [cU,clo_frzs cs h]
 | .tup cs,h=>by simp only [cU,clo_frzs cs h]
 | .iface t v,h=>by simp only [cU,qT v h]
 | .func f a b,h=>by
  simp only [zV,Bool.and_eq_true] at h
  simp only [cU,clo_frzs a h.1,clo_frzs b h.2]
theorem clo_frzs {ρ:Nat→Option Nat} {σ:V→R V}:∀ (l:List V),cloVs l=true→frzVs ρ σ l=.ok l
 | [],_=>rfl
 | v::l,h=>by
  simp only [cloVs,Bool.and_eq_true] at h
  simp only [frzVs,qT v h.1,clo_frzs l h.2]
end
mutual
theorem yE:∀ (v:V),zV v=true→sI v=[]
 | .bool _,_ | .int _ _,_ | .str _,_ | .nilp,_ | .iptr _ _,_ | .imm _,_ | .nili,_ | .nilf,_ | .nilm,_ | .res _ _,_=>rfl
 | .agg cs,h=>clo_ptrs cs h
 | .tup cs,h=>clo_ptrs cs h
 | .iface t v,h=>yE v h
 | .func f a b,h=>by
  simp only [zV,Bool.and_eq_true] at h
  simp only [sI,clo_ptrs a h.1,clo_ptrs b h.2,List.append_nil]
theorem clo_ptrs:∀ (l:List V),cloVs l=true→ptrsVs l=[]
 | [],_=>rfl
 | v::l,h=>by
  simp only [cloVs,Bool.and_eq_true] at h
  simp only [ptrsVs,yE v h.1,clo_ptrs l h.2,List.append_nil]
end
mutual
theorem aGh {τ:V→List Nat}:∀ (v:V),zV v=true→hM τ v=[]
 | .bool _,_ | .int _ _,_ | .str _,_ | .nilp,_ | .iptr _ _,_ | .imm _,_ | .nili,_ | .nilf,_ | .nilm,_ | .res _ _,_=>rfl
 | .agg cs,h=>clo_sls cs h
 | .tup cs,h=>clo_sls cs h
 | .iface t v,h=>aGh v h
 | .func f a b,h=>by
  simp only [zV,Bool.and_eq_true] at h
  simp only [hM,clo_sls a h.1,clo_sls b h.2,List.append_nil]
theorem clo_sls {τ:V→List Nat}:∀ (l:List V),cloVs l=true→slsVs τ l=[]
 | [],_=>rfl
 | v::l,h=>by
  simp only [cloVs,Bool.and_eq_true] at h
  simp only [slsVs,aGh v h.1,clo_sls l h.2,List.append_nil]
end
theorem aD0:aDw []=mU:=by funext i;cases i<;>rfl
theorem sT (l:List Nat):(l.any fun a=>Nat.blt a 0)=false:=by
 rw [List.any_eq_false]
 intro a _
 simp
def iA (S:St) (v:V):R V:=cU mU (pX (lL S 3) S) v
theorem aR1 {run:List V→St→R (V×St)} {args:List V} (hc:cloVs args=true) {S S0:St} {v0 v:V} (h:run args ⟨0,.nil⟩=.ok (v0,S0)) (ho:iA S0 v0=.ok v):xH run args S=.ok (v,S):=by
 unfold xH
 have h1:gQ (ptrsVs args)=[]:=by rw [clo_ptrs args hc];rfl
 have h2:slsVs (nJ (jD S 3) S) args=[]:=clo_sls args hc
 have ho':cU (aDw []) (pX (lL S0 3) S0) v0=.ok v:=by rw [aD0];exact ho
 rw [h1,h2]
 simp only [clo_frzs args hc,jG,dH,List.append_nil,List.any_nil,cond_false,List.length_nil,xG,h,ho',tV,sT]
 cases kA v&&uS []<;>rfl
section
variable {P:Program} {pl:lB}
def W (P:Program) (pl:lB):aM:=fun f args S K=>∃ v S',Evt (fun k=>gM P pl k f args S) (v,S')∧K v S'
theorem aW2:nU (gM P pl) (W P pl):=fun f args S K h=>h
theorem aR2 {f:FuncId} {args:List V} {S S':St} {v:V} (h:Evt (fun k=>gM P pl k f args S) (v,S')) (K:KW):W P pl f args S K=K v S':=by
 refine propext ⟨?_,fun h1=>⟨v,S',h,h1⟩⟩
 rintro ⟨v1,S1,h1,h2⟩
 cases h.eq h1
 exact h2
theorem sU {f:FuncId} {args:List V} {S:St} {r:V×St} (h:Evt (fun k=>gM P pl (k+1) f args S) r):Evt (fun k=>gM P pl k f args S) r:=by
 obtain ⟨N,h⟩:=h
 refine ⟨N+1,fun k hk=>?_⟩
 obtain ⟨k,rfl⟩:∃ m,k=m+1:=⟨k - 1,by omega⟩
 exact h k (by omega)
theorem aGi {f:FuncId} {p:Nat→Option (List bJ)} (hpl:pl f=some (.code p)) {lv:Nat→List Nat} {args:List V} {S:St} {K:KW} (h:dJ P (W P pl) p lv f args S K):W P pl f args S K:=by
 obtain ⟨v,S',h1,h2⟩:=qR aW2 h
 exact ⟨v,S',sU (h1.one fun k h1=>by simp only [gM,hpl];exact h1),h2⟩
theorem aR3 {f:FuncId} {g:List V→St→R (V×St)} (hpl:pl f=some (.spec g)) {args:List V} {S S':St} {v:V} (h:g args S=.ok (v,S')) (K:KW):W P pl f args S K=K v S':=
 aR2 (sU (.of fun k=>by simp only [gM,hpl,h])) K
def Fn (P:Program) (pl:lB) (f:FuncId) (args:List V) (v:V):Prop:=∀ S,Evt (fun k=>gM P pl k f args S) (v,S)
theorem Fn.eq {f:FuncId} {args:List V} {v:V} (h:Fn P pl f args v) (S:St) (K:KW):W P pl f args S K=K v S:=aR2 (h S) K
theorem Fn.of {f:FuncId} {p:Nat→Option (List bJ)} (hpl:pl f=some (.val p)) {lv:Nat→List Nat} {args:List V} {v:V} (hc:cloVs args=true)
  (h:dJ P (W P pl) p lv f args ⟨0,.nil⟩ fun v0 S0=>iA S0 v0=.ok v):Fn P pl f args v:=by
 obtain ⟨v0,S0,h1,h2⟩:=qR aW2 h
 exact fun S=>sU (h1.one fun k h1=>by simp only [gM,hpl];exact aR1 hc h1 h2)
structure Pt (mk:Nat→List V):Prop where
 ptr:∀ a,gQ (ptrsVs (mk a))=[a]
 frz:∀ a σ,frzVs (fun b=>rW b 0 [a]) σ (mk a)=.ok (mk 0)
 sls:∀ a τ,slsVs τ (mk a)=[]
theorem Pt.head {ver i j:Nat} {args:List V} (hc:cloVs args=true):Pt fun a=>.ptr a ver i j::args:=
 ⟨fun a=>by simp only [ptrsVs,sI,clo_ptrs args hc];rfl,fun a σ=>by simp only [frzVs,cU,rW,Nat.beq_refl,cond_true,clo_frzs args hc],fun a τ=>by simp only [slsVs,hM,clo_sls args hc,List.append_nil]⟩
theorem Pt.next {v:V} {mk:Nat→List V} (hv:zV v=true) (h:Pt mk):Pt fun a=>v::mk a:=
 ⟨fun a=>by simp only [ptrsVs,yE v hv,List.nil_append];exact h.ptr a,fun a σ=>by simp only [frzVs,qT v hv,h.frz],fun a τ=>by simp only [slsVs,aGh v hv,h.sls,List.append_nil]⟩
theorem Pt.func {f:FuncId} {ver i j:Nat} {args:List V} (hc:cloVs args=true):Pt fun a=>.func f [] [.ptr a ver i j]::args:=
 ⟨fun a=>by simp only [ptrsVs,sI,clo_ptrs args hc];rfl,fun a σ=>by simp only [frzVs,cU,rW,Nat.beq_refl,cond_true,clo_frzs args hc],fun a τ=>by simp only [slsVs,hM,clo_sls args hc,List.append_nil]⟩
def FnR (P:Program) (pl:lB) (f:FuncId) (mk:Nat→List V) (ver n:Nat) (pre:List (List V)) (v:V) (post:List (List V)):Prop:=
 ∀ S a,S.heap.get a=some (.row ver n pre)→Evt (fun k=>gM P pl k f (mk a) S) (v,⟨S.next,S.heap.put a (.row ver n post)⟩)
theorem aM2 {φ:List V→R (List V)}:∀ {l:List (List V)},(∀ x,x∈l→φ x=.ok x)→mT φ l=.ok l
 | [],_=>rfl
 | x::l,h=>by simp only [mT,h x (List.mem_cons_self ..),aM2 fun y hy=>h y (List.mem_cons_of_mem _ hy)]
theorem aIi {φ:List V→List Nat}:∀ {l:List (List V)},(∀ x,x∈l→φ x=[])→nM φ l=[]
 | [],_=>rfl
 | x::l,h=>by simp only [nM,h x (List.mem_cons_self ..),aIi fun y hy=>h y (List.mem_cons_of_mem _ hy),List.append_nil]
theorem aW3 {S:St} {n:Nat} {x:List V} (h:cloVs x=true):lL S (n+1) x=.ok x:=clo_frzs x h
theorem aW4 {S:St} {n:Nat} {x:List V} (h:cloVs x=true):jD S (n+1) x=[]:=clo_sls x h
theorem mX {S:St} {n:Nat} {l:List (List V)} (h:l.all cloVs=true):mT (lL S (n+1)) l=.ok l∧nM (jD S (n+1)) l=[]:=
 ⟨aM2 fun x hx=>aW3 (List.all_eq_true.1 h x hx),aIi fun x hx=>aW4 (List.all_eq_true.1 h x hx)⟩
theorem aR4 {run:List V→St→R (V×St)} {mk:Nat→List V} (hm:Pt mk) {a ver n:Nat} {pre post post0:List (List V)} (hp:pre.all cloVs=true) {S S0:St} {v0 v:V} (hS:S.heap.get a=some (.row ver n pre))
  (h:run (mk 0) ⟨1,Tr.nil.put 0 (.row ver n pre)⟩=.ok (v0,S0)) (ho:∀ ρ,cU ρ (pX (lL S0 3) S0) v0=.ok v) (hs:(hM (nJ (jD S0 3) S0) v0).any (fun a=>Nat.blt a 1)=false) (h0:S0.heap.get 0=some (.row ver n post0)) (hq:mT (lL S0 3) post0=.ok post)
  (hs2:(nM (jD S0 3) post0).any (fun a=>Nat.blt a 1)=false):xH run (mk a) S=.ok (v,⟨S.next,S.heap.put a (.row ver n post)⟩):=by
 unfold xH
 obtain ⟨q1,q2⟩:=mX (S:=S) (n:=2) hp
 rw [hm.ptr,hm.sls]
 have hA:([]++dH S [a])=[]:=by simp only [dH,hS,q2,List.append_nil]
 have hB:(hM (nJ (jD S0 3) S0) v0++dH S0 (tV 0 1)).any (fun a=>Nat.blt a 1)=false:=by
  simp only [tV,dH,h0,List.append_nil,List.any_append,hs,hs2,Bool.or_false]
 rw [hA]
 simp only [hm.frz,jG,hS,q1,List.any_nil,cond_false,List.length_cons,List.length_nil,Nat.zero_add,xG,h,ho,hB,pY]
 have:jG S0 (tV 0 1)=.ok [(ver,n,post)]:=by simp only [tV,jG,h0,hq]
 rw [this]
 simp only [rY,pY]
 cases kA v&&uS [(ver,n,post)]<;>rfl
theorem FnR.of {f:FuncId} {p:Nat→Option (List bJ)} (hpl:pl f=some (.val p)) {lv:Nat→List Nat} {mk:Nat→List V} (hm:Pt mk) {ver n:Nat} {pre post:List (List V)} {v:V} (hp:pre.all cloVs=true)
  (h:dJ P (W P pl) p lv f (mk 0) ⟨1,Tr.nil.put 0 (.row ver n pre)⟩ fun v0 S0=>v0=v∧S0.heap.get 0=some (.row ver n post)) (hv:zV v=true) (hq:post.all cloVs=true):FnR P pl f mk ver n pre v post:=by
 obtain ⟨v0,S0,h1,rfl,h2⟩:=qR aW2 h
 intro S a hS
 obtain ⟨q1,q2⟩:=mX (S:=S0) (n:=2) hq
 refine sU (h1.one fun k h1=>?_)
 simp only [gM,hpl]
 exact aR4 hm hp hS h1 (fun ρ=>qT v0 hv) (by rw [aGh v0 hv];rfl) h2 q1 (by rw [q2];rfl)
theorem FnR.eq {f:FuncId} {mk:Nat→List V} {ver n:Nat} {pre post:List (List V)} {v:V} (h:FnR P pl f mk ver n pre v post) {S:St} {a:Nat} (hS:S.heap.get a=some (.row ver n pre)) (K:KW):
  W P pl f (mk a) S K=K v ⟨S.next,S.heap.put a (.row ver n post)⟩:=aR2 (h S a hS) K
theorem aD1 {α:Type}:∀ (f:Nat) (t:Tr α) (n:Nat) (x:α),t.get n=some x→Tr.set f t n x=t
 | 0,t,n,x,_=>rfl
 | f+1,.nil,n,x,h=>by cases h
 | f+1,.node l v r,n,x,h=>by
  rw [Tr.get_node] at h
  simp only [Tr.set,cond_eq_ite,Nat.beq_eq]
  by_cases h0:n=0
  ·rw [if_pos h0] at h ⊢;rw [h]
  ·rw [if_neg h0] at h ⊢
   by_cases h1:n % 2=1
   ·rw [if_pos h1] at h ⊢;rw [aD1 f l _ _ h]
   ·rw [if_neg h1] at h ⊢;rw [aD1 f r _ _ h]
theorem aR5 {t:Tr Blk} {n:Nat} {x:Blk} (h:t.get n=some x):t.put n x=t:=aD1 _ t n x h
theorem FnR.eq_same {f:FuncId} {mk:Nat→List V} {ver n:Nat} {pre:List (List V)} {v:V} (h:FnR P pl f mk ver n pre v pre) {S:St} {a:Nat} (hS:S.heap.get a=some (.row ver n pre)) (K:KW):W P pl f (mk a) S K=K v S:=by
 rw [h.eq hS K,aR5 hS]
theorem aR6 {run:List V→St→R (V×St)} {args bs:List V} {S:St} (hb:frzVs mU (pX (lL S 3) S) args=.ok bs) (hp:ptrsVs args=[]) {S0:St} {v0 v:V} (h:run bs ⟨0,.nil⟩=.ok (v0,S0)) (ho:iA S0 v0=.ok v)
  (hk:kA v=true∨slsVs (nJ (jD S 3) S) args=[]):xH run args S=.ok (v,S):=by
 unfold xH
 have h1:gQ (ptrsVs args)=[]:=by rw [hp];rfl
 have ho':cU (aDw []) (pX (lL S0 3) S0) v0=.ok v:=by rw [aD0];exact ho
 have hi:(fun a=>rW a 0 ([]:List Nat))=mU:=rfl
 have hh:∀ l:List Nat,(l.any fun a=>jA a [])=false:=by intro l;rw [List.any_eq_false];intro a _;simp [jA]
 rw [h1]
 simp only [hi,hb,jG,dH,hh,cond_false,List.length_nil,xG,h,ho',tV,sT,List.append_nil]
 rcases hk with hk | hk
 ·rw [hk];rfl
 ·rw [hk]
  cases kA v&&uS []<;>rfl
theorem Fn.frz {f:FuncId} {bs:List V} {v:V} (h:Fn P pl f bs v) {p:Nat→Option (List bJ)} (hpl:pl f=some (.val p)) (hc:cloVs bs=true) {args:List V} {S:St} (hb:frzVs mU (pX (lL S 3) S) args=.ok bs) (hp:ptrsVs args=[]) (hk:kA v=true∨slsVs (nJ (jD S 3) S) args=[])
  (K:KW):W P pl f args S K=K v S:=by
 refine aR2 ?_ K
 obtain ⟨N,h⟩:=h ⟨0,.nil⟩
 refine ⟨N+1,fun k hk'=>?_⟩
 obtain ⟨k,rfl⟩:∃ m,k=m+1:=⟨k - 1,by omega⟩
 have:=h (k+1) (by omega)
 simp only [gM,hpl] at this ⊢
 unfold xH at this
 have e1:gQ (ptrsVs bs)=[]:=by rw [clo_ptrs bs hc];rfl
 have e2:slsVs (nJ (jD (⟨0,.nil⟩:St) 3) ⟨0,.nil⟩) bs=[]:=clo_sls bs hc
 rw [e1,e2] at this
 simp only [clo_frzs bs hc,jG,dH,List.append_nil,List.any_nil,cond_false,List.length_nil,xG,tV,sT] at this
 split at this
 ·cases this
 ·rename_i v0 S0 hrun
  split at this
  ·cases this
  ·rename_i v' hv'
   have hv:v'=v:=(Prod.mk.inj (Except.ok.inj this)).1
   subst hv
   rw [aD0] at hv'
   exact aR6 hb hp hrun hv' hk
def sV (mask:List Nat) (v:V) (S2:St) (S:St):R (V×St):=match aB9 S2 mask 0 S.next v.cells with
 | .error e=>.error e
 | .ok r=>match jG S2 r.2 with
  | .error e=>.error e
  | .ok rows=>match pZ v r.1 with
   | .error e=>.error e
   | .ok v'=>bif aEe r.2&&!(vJ S2 mask 0 v.cells++dH S2 r.2).any (fun a=>jA a r.2) then .ok (v',⟨S.next+r.2.length,pY (tV S.next r.2.length) rows S.heap⟩) else .error "blocks"
theorem bD1 {f:FuncId} {p:Nat→Option (List bJ)} {mask:List Nat} (hpl:pl f=some (.own p mask)) {lv:Nat→List Nat} {args:List V} (hc:cloVs args=true) {S:St} {K:KW}
  (h:dJ P (W P pl) p lv f args ⟨0,.nil⟩ fun v0 S0=>wR (sV mask v0 S0 S) fun r=>K r.1 r.2):W P pl f args S K:=by
 obtain ⟨v0,S0,h1,h2⟩:=qR aW2 h
 obtain ⟨r,h3,h4⟩:=bZ h2
 refine ⟨r.1,r.2,sU (h1.one fun k h1=>?_),h4⟩
 simp only [gM,hpl]
 unfold aOd
 have e2:slsVs (nJ (jD S 3) S) args=[]:=clo_sls args hc
 simp only [clo_frzs args hc,h1,e2,rY]
 exact h3
theorem bBj {f:FuncId} {args:List V} {S:St} {K:KW} (h:W P pl f args S K):∃ k v S',K v S'∧gM P pl k f args S=.ok (v,S'):=by
 obtain ⟨v,S',⟨N,h⟩,k⟩:=h
 exact ⟨N,v,S',k,h N (Nat.le_refl _)⟩
theorem aP1 {F:List V→St→(List V→St→Prop)→Prop} (n:Nat) (I:Nat→List V→St→Prop)
  (h:∀ i vs S,i≤n→I i vs S→∀ aE:List V→St→Prop,(∀ vs' S',i<n→I (i+1) vs' S'→aE vs' S')→F vs S aE) {vs:List V} {S:St} (h0:I 0 vs S):fZ vs S F:=by
 have:∀ m i vs S,i+m=n→I i vs S→aAl (m+1) vs S F:=by
  intro m
  induction m with
  | zero=>intro i vs S hi hI;exact h i vs S (by omega) hI _ fun vs' S' hlt _=>by omega
  | succ m ih=>intro i vs S hi hI;exact h i vs S (by omega) hI _ fun vs' S' hlt hI'=>ih (i+1) vs' S' (by omega) hI'
 exact ⟨n+1,this n 0 vs S (by omega) h0⟩
theorem aF {F:List V→St→(List V→St→Prop)→Prop} {α σ ρ:Type} (l:List α) {step:σ→α→ρ⊕σ} {fin:σ→ρ} (I:Nat→σ→List V→St→Prop) (E:ρ→Prop)
  (hs:∀ i a s vs S,l[i]?=some a→I i s vs S→∀ aE:List V→St→Prop,(match step s a with
   | .inl r=>E r
   | .inr s'=>∀ vs' S',I (i+1) s' vs' S'→aE vs' S')→F vs S aE)
  (he:∀ s vs S,I l.length s vs S→∀ aE:List V→St→Prop,E (fin s)→F vs S aE) {s:σ} {vs:List V} {S:St} (h0:I 0 s vs S) (hE:E (aD step fin l s)):fZ vs S F:=by
 refine aP1 l.length (fun i vs S=>∃ s,I i s vs S∧E (aD step fin (l.drop i) s)) ?_ ⟨s,h0,hE⟩
 rintro i vs S hi ⟨s,hI,hE⟩ aE ha
 by_cases hl:i=l.length
 ·subst hl
  rw [List.drop_length] at hE
  exact he s vs S hI aE hE
 ·have hlt:i<l.length:=by omega
  have ha':l[i]?=some l[i]:=List.getElem?_eq_getElem hlt
  rw [List.drop_eq_getElem_cons hlt] at hE
  refine hs i _ s vs S ha' hI aE ?_
  simp only [aD] at hE
  split
  ·rename_i r hr
   rw [hr] at hE;exact hE
  ·rename_i s' hr
   rw [hr] at hE
   exact fun vs' S' hI'=>ha vs' S' hlt ⟨s',hI',hE⟩
end
end
section
theorem aIj {d t:Nat} (h:d≠t):Nat.beq d t=false:=Bool.eq_false_iff.2 fun h'=>h (Nat.eq_of_beq_eq_true h')
theorem aR7 {α:Type} {x y:R α} (K:α→Prop) (h:x=y):wR x K=wR y K:=by rw [h]
theorem aR8 {α:Type} {x y:Option α} (K:α→Prop) (h:x=y):wO x K=wO y K:=by rw [h]
theorem aP2 {b c:Bool} (x:Prop) (h:b=c):uA b x=uA c x:=by rw [h]
theorem aIk {v w:V} (x y:Prop) (h:v=w):aK v x y=aK w x y:=by rw [h]
theorem aK4 {v w:V} (i:Nat) (K:V→Prop) (h:v=w):eB v i K=eB w i K:=by rw [h]
theorem aP3 {v w:List V} (K:V→List V→Prop) (h:v=w):pA v K=pA w K:=by rw [h]
theorem aK5 {v w:V} (x:Prop) (h:v=w):zR v x=zR w x:=by rw [h]
theorem aIl {vs ws:List V} {S T:St} (F:List V→St→(List V→St→Prop)→Prop) (h:vs=ws) (g:S=T):fZ vs S F=fZ ws T F:=by rw [h,g]
theorem aW5 (P:Program) (pl:lB) (f:FuncId) {a b:List V} {S T:St} (K:KW) (h:a=b) (g:S=T):W P pl f a S K=W P pl f b T K:=by rw [h,g]
attribute [congr] aW5 aR7 aR8 aP2 aIk aK4 aP3 aK5 aIl
def wG:List Oper→Nat→(Nat→Prop)→Prop
 | [],_,_=>False
 | o::_,0,K=>wO o.dst K
 | _::l,j+1,K=>wG l j K
def wI:List Oper→Nat→(Oper→Prop)→Prop
 | [],_,_=>False
 | o::_,0,K=>K o
 | _::l,j+1,K=>wI l j K
theorem aEs (K:Oper→Prop):∀ (l:List Oper) (j:Nat),wO l.toArray[j]? K=wI l j K
 | [],j=>by simp [wO,wI]
 | o::l,0=>by simp [wO,wI]
 | o::l,j+1=>by rw [wI,←aEs K l j];simp
theorem aR9 (K:Nat→Prop):∀ (l:List Oper) (j:Nat),wO (mN l.toArray j) K=wG l j K
 | [],j=>by simp [wO,wG,mN]
 | o::l,0=>by simp [wG,mN]
 | o::l,j+1=>by rw [wG,←aR9 K l j];simp [mN]
def hl {α:Type} (a:α):α:=a
theorem aXs {α:Type} (a:α):hl a=a:=Eq.trans rfl rfl
def wLn:List Oper→List Nat→Nat→(Nat→Prop)→Prop
 | [],[],i,K=>K i
 | [],k::_,i,K=>K k
 | _::l,[],i,K=>wLn l [] (i+1) K
 | _::l,_::ks,i,K=>wLn l ks (i+1) K
def vW:Nat→List Nat→Prop
 | _,[]=>True
 | i,k::l=>k=i∧vW (i+1) l
theorem aK6 (K:Nat→Prop):∀ (l:List Oper) (ks:List Nat) (i:Nat),vW i ks→wLn l ks i K=K (i+l.length)
 | [],[],i,h=>rfl
 | [],k::ks,i,h=>by rw [wLn,h.1];rfl
 | o::l,[],i,h=>by rw [wLn,aK6 K l [] (i+1) trivial];congr 1;simp;omega
 | o::l,k::ks,i,h=>by rw [wLn,aK6 K l ks (i+1) h.2];congr 1;simp;omega
def wLv:List (Nat×List Nat)→Nat→(List Nat→Prop)→Prop
 | [],_,K=>K []
 | (i,l)::r,j,K=>match Nat.beq i j with
  | true=>K l
  | false=>wLv r j K
def iN:List (Nat×List Nat)→Nat→List Nat
 | [],_=>[]
 | (i,l)::r,j=>match Nat.beq i j with
  | true=>l
  | false=>iN r j
theorem aK7 (K:List Nat→Prop):∀ (t:List (Nat×List Nat)) (j:Nat),wLv t j K=K (iN t j)
 | [],j=>rfl
 | (i,l)::r,j=>by
  simp only [wLv,iN,aK7 K r j]
  cases Nat.beq i j<;>rfl
theorem aP4 {j k:Nat} (t:List (Nat×List Nat)) (K:List Nat→Prop) (h:j=k):wLv t j K=wLv t k K:=by rw [h]
attribute [congr] aP4
def wSt:List (Nat×List bJ)→Nat→(List bJ→Prop)→Prop→Prop
 | [],_,_,x=>x
 | (i,l)::r,j,K,x=>match Nat.beq i j with
  | true=>K l
  | false=>wSt r j K x
def eX (t:List (Nat×List bJ)) (id:Nat):Option (List bJ):=iH id t
section
variable (P:Program) (C:aM) (n:Nat)
def yF (ops:Array Oper) (base:Nat):List Oper→List Nat→Nat→List Nat→aR→St→mC→Prop
 | [],_,_,_,e,S,K=>K e S
 | o::l,[],i,sk,e,S,K=>kC P C n ops sk o (some (base+i)) e S fun ran _ e' S'=>yF ops base l [] (i+1) (yB ran i sk) e' S' K
 | o::l,k::ks,i,sk,e,S,K=>kC P C n ops sk o (some (base+k)) e S fun ran _ e' S'=>yF ops base l ks (i+1) (yB ran k sk) e' S' K
def aGj (ops:Array Oper):List Oper→List Nat→Nat→List Nat→aR→St→mC→Prop
 | [],_,_,_,e,S,K=>K e S
 | o::l,[],i,sk,e,S,K=>kC P C n ops sk o none e S fun ran _ e' S'=>aGj ops l [] (i+1) (yB ran i sk) e' S' K
 | o::l,k::ks,i,sk,e,S,K=>kC P C n ops sk o none e S fun ran _ e' S'=>aGj ops l ks (i+1) (yB ran k sk) e' S' K
theorem nV {ops:Array Oper} {sk:List Nat} {o:Oper} {fr:Option Nat} {e:aR} {S:St} {K K':Bool→V→aR→St→Prop} (h:∀ b v e S,K b v e S=K' b v e S):kC P C n ops sk o fr e S K=kC P C n ops sk o fr e S K':=by
 rw [show K=K' from funext fun b=>funext fun v=>funext fun e=>funext fun S=>h b v e S]
def qU:Nat→Nat→List bJ
 | _,0=>[]
 | i,k+1=>(i,[])::qU (i+1) k
theorem aAs:∀ (k i:Nat),qU i (k+1)=qU i k++[(i+k,[])]
 | 0,i=>rfl
 | k+1,i=>by
  rw [qU,aAs k (i+1),qU]
  simp only [List.cons_append,Nat.add_assoc,Nat.add_comm 1 k]
theorem aIn:∀ k,aHm k=qU 0 k
 | 0=>rfl
 | k+1=>by rw [aHm,aIn k,aAs,Nat.zero_add]
theorem aD2 (ops:Array Oper) (base:Nat) (K:mC):∀ (l:List Oper) (ks:List Nat) (i:Nat) (sk:List Nat) (recs:List sE) (e:aR) (S:St),vW i ks→(∀ k,ops[i+k]?=l[k]?)→rT P C n ops base (qU i l.length) sk recs e S K=yF P C n ops base l ks i sk e S K
 | [],ks,i,sk,recs,e,S,_,h=>by cases ks<;>rfl
 | o::l,ks,i,sk,recs,e,S,hk,h=>by
  have h0:ops[i]?=some o:=h 0
  cases ks with
  | nil=>
   simp only [List.length_cons,qU,rT,yF,h0,wO,qO]
   exact nV P C n fun b v e S=>aD2 ops base K l [] (i+1) _ _ e S trivial fun k=>by have:=h (k+1);rw [show i+1+k=i+(k+1) by omega,this];simp
  | cons k ks=>
   obtain ⟨rfl,hk⟩:=hk
   simp only [List.length_cons,qU,rT,yF,h0,wO,qO]
   exact nV P C n fun b v e S=>aD2 ops base K l ks (k+1) _ _ e S hk fun j=>by have:=h (j+1);rw [show k+1+j=k+(j+1) by omega,this];simp
theorem aGk (ops:Array Oper) (K:mC):∀ (l:List Oper) (ks:List Nat) (i:Nat) (sk:List Nat) (e:aR) (S:St),vW i ks→aK0 P C n ops l i sk e S K=aGj P C n ops l ks i sk e S K
 | [],ks,i,sk,e,S,_=>by cases ks<;>rfl
 | o::l,[],i,sk,e,S,hk=>by
  simp only [aK0,aGj]
  exact nV P C n fun b v e S=>aGk ops K l [] (i+1) _ e S trivial
 | o::l,k::ks,i,sk,e,S,hk=>by
  obtain ⟨rfl,hk⟩:=hk
  simp only [aK0,aGj]
  exact nV P C n fun b v e S=>aGk ops K l ks (k+1) _ e S hk
def aK9 (id:Nat) (Kn:mC) (Kx:KXW):KXW:=fun j e S=>match Nat.beq j id with
 | true=>Kn e S
 | false=>Kx j e S
def aXt (p:Nat→Option (List bJ)) (lv:Nat→List Nat) (a:Code) (e:aR) (Kx:KXW) (Kr:mC) (vs:List V) (S:St) (aE:List V→St→Prop):Prop:=
 aGg (lv (bH a)) vs (e.filt fun t=>!mB a t) fun e=>eC P C n p lv a e S (fun e S=>mW e (lv (bH a)) fun vs=>aE vs S) Kx Kr
end
section
variable {P:Program} {C:aM} {n:Nat} {tp:List (Nat×List bJ)} {tl:List (Nat×List Nat)}
theorem aM3:(∀ (e:aR) (t:Nat) (K:V→Prop),wO (ev e (.tmp t)) K=wO (e.get t) K)∧(∀ (e:aR) (v:Value) (K:V→Prop),wO (ev e (.const v)) K=wO (ofValue v) K)∧(∀ (e:aR) (f:Nat) (K:V→Prop),wO (ev e (.func f)) K=K (.func f [] [])) ∧
  (∀ (e:aR) (t:Nat) (v:V) (K:V→Prop),wO ((e.put t v).get t) K=K v)∧(∀ (b:Bool) (K:V→Prop),wO (ofValue (.bool b)) K=K (.bool b))∧(∀ (k:IntKind) (i:Int) (K:V→Prop),wO (ofValue (.int k i)) K=K (.int k i)) ∧
  (∀ (l:List UInt8) (K:V→Prop),wO (ofValue (.string ⟨l.toArray⟩)) K=K (.str l))∧(∀ (K:V→Prop),wO (ofValue (.slice none 0 0)) K=K .nils)∧(∀ (K:V→Prop),wO (ofValue (.pointer none)) K=K .nilp)∧(∀ (K:V→Prop),wO (ofValue .nilIface) K=K .nili)∧(∀ (K:V→Prop),wO (ofValue .nilFunc) K=K .nilf)∧(∀ (K:V→Prop),wO (ofValue (.map none)) K=K .nilm) ∧
  (∀ (l:List Value) (K:V→Prop),wO (ofValue (.agg l.toArray)) K=wO (lM l) fun xs=>K (.agg xs))∧(∀ (K:List V→Prop),wO (lM []) K=K [])∧(∀ (v:Value) (l:List Value) (K:List V→Prop),wO (lM (v::l)) K=wO (oV v) fun x=>wO (lM l) fun xs=>K (x::xs)) ∧
  (∀ (b:Bool) (K:V→Prop),wO (oV (.bool b)) K=K (.bool b))∧(∀ (k:IntKind) (i:Int) (K:V→Prop),wO (oV (.int k i)) K=K (.int k i))∧(∀ (l:List UInt8) (K:V→Prop),wO (oV (.string ⟨l.toArray⟩)) K=K (.str l))∧(∀ (K:V→Prop),wO (oV (.slice none 0 0)) K=K .nils)∧(∀ (K:V→Prop),wO (oV (.pointer none)) K=K .nilp) ∧
  (∀ (e:aR) (K:List V→Prop),wO (pO (ev e) []) K=K [])∧(∀ (e:aR) (x:Operand) (l:List Operand) (K:List V→Prop),wO (pO (ev e) (x::l)) K=wO (ev e x) fun v=>wO (pO (ev e) l) fun vs=>K (v::vs)) ∧
  (∀ (e:aR) (K:List (Nat×V)→Prop),wO (mS (ev e) []) K=K [])∧(∀ (e:aR) (i:Nat) (x:Operand) (l:List (Nat×Operand)) (K:List (Nat×V)→Prop),wO (mS (ev e) ((i,x)::l)) K=wO (ev e x) fun v=>wO (mS (ev e) l) fun vs=>K ((i,v)::vs)) ∧
  (∀ (e:aR) (K:Option V→Prop),wO (evO (ev e) none) K=K none)∧(∀ (e:aR) (x:Operand) (K:Option V→Prop),wO (evO (ev e) (some x)) K=wO (ev e x) fun v=>K (some v)):=by
 refine ⟨fun _ _ _=>rfl,fun _ _ _=>rfl,fun _ _ _=>rfl,fun e t v K=>by rw [Tr.get_put_sameB _ _ _ trivial];rfl,fun _ _=>rfl,fun _ _ _=>rfl,fun l K=>by simp [ofValue,oV,wO],fun _=>rfl,fun _=>rfl,fun _=>rfl,fun _=>rfl,fun _=>rfl,
  fun l K=>?_,fun _=>rfl,fun v l K=>?_,fun _ _=>rfl,fun _ _ _=>rfl,fun l K=>by simp [oV,wO],fun _=>rfl,fun _=>rfl,fun _ _=>rfl,fun e x l K=>?_,fun _ _=>rfl,fun e i x l K=>?_,fun _ _=>rfl,fun e x K=>?_⟩
 ·simp only [ofValue];cases lM l<;>rfl
 ·simp only [lM]
  cases oV v with
  | none=>rfl
  | some x=>cases lM l<;>rfl
 ·simp only [pO]
  cases ev e x with
  | none=>rfl
  | some x=>cases pO (ev e) l<;>rfl
 ·simp only [mS]
  cases ev e x with
  | none=>rfl
  | some x=>cases mS (ev e) l<;>rfl
 ·simp only [evO];cases ev e x<;>rfl
theorem aXu {t d:Nat} (h:¬ t=d) (e:aR) (v:V) (K:V→Prop):wO ((e.put d v).get t) K=wO (e.get t) K:=by rw [Tr.get_put_neB _ _ _ _ trivial h]
theorem bD2 {t d:Nat} (h:t<d) (e:aR) (v:V) (K:V→Prop):wO ((e.put d v).get t) K=wO (e.get t) K:=aXu (Nat.ne_of_lt h) e v K
theorem aXv {t d:Nat} (h:d<t) (e:aR) (v:V) (K:V→Prop):wO ((e.put d v).get t) K=wO (e.get t) K:=aXu (Nat.ne_of_gt h) e v K
def pL (l:List Code) (t:Nat):Bool:=l.any fun a=>mB a t
def dL (l:List Oper) (r:List Code) (t:Nat):Bool:=aCt l t||pL r t
theorem aW6 (a:Code) (r:List Code) (t:Nat):pL (a::r) t=(mB a t||pL r t):=by simp [pL]
theorem aRa {a:Code} {t:Nat} (h:pL [a] t=false) (e:aR) (K:V→Prop):wO ((e.filt fun t=>!mB a t).get t) K=wO (e.get t) K:=by
 have h:mB a t=false:=by simpa [pL] using h
 rw [sR,if_pos (by rw [h];rfl)]
theorem aM4:(∀ t,pL [] t=false)∧(∀ (a b:Code) (r:List Code) (t:Nat),pL (.seq a b::r) t=pL (a::b::r) t)∧(∀ (c:Operand) (a b:Code) (r:List Code) (t:Nat),pL (.cond c a b::r) t=pL (a::b::r) t)∧(∀ (i:Nat) (a:Code) (r:List Code) (t:Nat),pL (.block i a::r) t=pL (a::r) t) ∧
  (∀ (a:Code) (r:List Code) (t:Nat),pL (.loop a::r) t=pL (a::r) t)∧(∀ (r:List Code) (t:Nat),pL (.skip::r) t=pL r t)∧(∀ (r:List Code) (t:Nat),pL (.ret::r) t=pL r t)∧(∀ (i:Nat) (r:List Code) (t:Nat),pL (.exit i::r) t=pL r t)∧(∀ (i:Nat) (r:List Code) (t:Nat),pL (.label i::r) t=pL r t) ∧
  (∀ (id:Nat) (l:List Oper) (d:Bool) (r:List Code) (t:Nat),pL (.region id l.toArray d::r) t=dL l r t)∧(∀ (r:List Code) (t:Nat),dL [] r t=pL r t)∧(∀ (op:Op) (ty:TypeId) (pos:String) (aft:Array Edge) (g:Option (Nat×Bool)) (l:List Oper) (r:List Code) (t:Nat),dL (⟨none,op,ty,pos,aft,g⟩::l) r t=dL l r t):=by
 refine ⟨fun _=>rfl,fun a b r t=>?_,fun c a b r t=>?_,fun i a r t=>?_,fun a r t=>?_,fun r t=>?_,fun r t=>?_,fun i r t=>?_,fun i r t=>?_,fun id l d r t=>?_,fun r t=>?_,fun op ty pos aft g l r t=>?_⟩
 all_goals simp only [aW6,mB,dL,aCt,Bool.false_or,Bool.or_assoc]
theorem aRb {d t:Nat} (h:¬ t=d) (op:Op) (ty:TypeId) (pos:String) (aft:Array Edge) (g:Option (Nat×Bool)) (l:List Oper) (r:List Code):dL (⟨some d,op,ty,pos,aft,g⟩::l) r t=dL l r t:=by
 simp only [dL,aCt,aIj (Ne.symm h),Bool.false_or]
theorem aXw {d t:Nat} (h:t<d) (op:Op) (ty:TypeId) (pos:String) (aft:Array Edge) (g:Option (Nat×Bool)) (l:List Oper) (r:List Code):dL (⟨some d,op,ty,pos,aft,g⟩::l) r t=dL l r t:=aRb (Nat.ne_of_lt h) ..
theorem aRc {d t:Nat} (h:d<t) (op:Op) (ty:TypeId) (pos:String) (aft:Array Edge) (g:Option (Nat×Bool)) (l:List Oper) (r:List Code):dL (⟨some d,op,ty,pos,aft,g⟩::l) r t=dL l r t:=aRb (Nat.ne_of_gt h) ..end
def sW (P:Program) (u:TypeId):Bool:=match P.underlying u with
 | some (.slice _)=>true
 | some .string=>true
 | _=>false
theorem aKa {α:Type} (x:Option α) {K K':α→Prop} (h:∀ a,K a=K' a):wO x K=wO x K':=by rw [show K=K' from funext h]
theorem aW7 (e:aR) (x:Operand) (K:List V→Prop):wO (pO (ev e) [x]) K=wO (ev e x) fun v=>K [v]:=by simp only [pO];cases ev e x<;>rfl
theorem aW8 (e:aR) (x y:Operand) (K:List V→Prop):wO (pO (ev e) [x,y]) K=wO (ev e x) fun v=>wO (ev e y) fun w=>K [v,w]:=by
 simp only [pO]
 cases ev e x with
 | none=>rfl
 | some a=>cases ev e y<;>rfl
theorem aM5 (P:Program) (C:aM):(∀ (x:Operand) (d:Option Tmp) (ty:TypeId) (pos:String) (aft:Array Edge) (g:Option (Nat×Bool)) (fr:Option Nat) (e:aR) (S:St) (K:KW),jC P C ⟨d,.move x,ty,pos,aft,g⟩ fr e S K=wO (ev e x) fun v=>K v S) ∧
  (∀ (x:Operand) (d:Option Tmp) (ty:TypeId) (pos:String) (aft:Array Edge) (g:Option (Nat×Bool)) (fr:Option Nat) (e:aR) (S:St) (K:KW),jC P C ⟨d,.assign x,ty,pos,aft,g⟩ fr e S K=wO (ev e x) fun v=>K v S) ∧
  (∀ (c a b:Operand) (d:Option Tmp) (ty:TypeId) (pos:String) (aft:Array Edge) (g:Option (Nat×Bool)) (fr:Option Nat) (e:aR) (S:St) (K:KW),jC P C ⟨d,.pick c a b,ty,pos,aft,g⟩ fr e S K=wO (ev e c) fun c=>wO (ev e a) fun a=>wO (ev e b) fun b=>wR (hl (aIb c a b)) fun v=>K v S) ∧
  (∀ (t:TypeId) (d:Option Tmp) (ty:TypeId) (pos:String) (aft:Array Edge) (g:Option (Nat×Bool)) (fr:Option Nat) (e:aR) (S:St) (K:KW),jC P C ⟨d,.alloc t,ty,pos,aft,g⟩ fr e S K=wO (aN P t) fun z=>wR (hl (aY fr S (.row 0 z.cells.length [z.cells]))) fun r=>K (.ptr r.1 0 0 0) r.2) ∧
  (∀ (u:TypeId) (x:Operand) (d:Option Tmp) (ty:TypeId) (pos:String) (aft:Array Edge) (g:Option (Nat×Bool)) (fr:Option Nat) (e:aR) (S:St) (K:KW),jC P C ⟨d,.box u x,ty,pos,aft,g⟩ fr e S K=wO (ev e x) fun v=>uA (hl (aI v.cells)) (wR (hl (aY fr S (.row 0 v.cells.length [v.cells]))) fun r=>K (.ptr r.1 0 0 0) r.2)) ∧
  (∀ (t:TypeId) (ps:List (Nat×Operand)) (d:Option Tmp) (ty:TypeId) (pos:String) (aft:Array Edge) (g:Option (Nat×Bool)) (fr:Option Nat) (e:aR) (S:St) (K:KW),jC P C ⟨d,.build t ps.toArray,ty,pos,aft,g⟩ fr e S K=wO (mS (ev e) ps) fun vs=>wR (hl (oM P t vs)) fun v=>K v S) ∧
  (∀ (t:TypeId) (m:Nat) (ps:List (Nat×Operand)) (d:Option Tmp) (ty:TypeId) (pos:String) (aft:Array Edge) (g:Option (Nat×Bool)) (fr:Option Nat) (e:aR) (S:St) (K:KW),jC P C ⟨d,.buildSlice t m ps.toArray,ty,pos,aft,g⟩ fr e S K=wO (mS (ev e) ps) fun vs=>wR (hl (cO P t m vs fr S)) fun r=>K r.1 r.2) ∧
  (∀ (t:TypeId) (a:Operand) (d:Option Tmp) (ty:TypeId) (pos:String) (aft:Array Edge) (g:Option (Nat×Bool)) (fr:Option Nat) (e:aR) (S:St) (K:KW),jC P C ⟨d,.load t a,ty,pos,aft,g⟩ fr e S K=wO (ev e a) fun p=>wR (hl (lT P t p S)) fun v=>K v S) ∧
  (∀ (t:TypeId) (a x:Operand) (d:Option Tmp) (ty:TypeId) (pos:String) (aft:Array Edge) (g:Option (Nat×Bool)) (fr:Option Nat) (e:aR) (S:St) (K:KW),jC P C ⟨d,.store t a x,ty,pos,aft,g⟩ fr e S K=wO (ev e a) fun p=>wO (ev e x) fun v=>wR (hl (oL P t p v S)) fun S'=>K (.tup []) S') ∧
  (∀ (x:Operand) (d:Option Tmp) (ty:TypeId) (pos:String) (aft:Array Edge) (g:Option (Nat×Bool)) (fr:Option Nat) (e:aR) (S:St) (K:KW),jC P C ⟨d,.nilCheck x,ty,pos,aft,g⟩ fr e S K=wO (ev e x) fun v=>zR (hl v) (K v S)) ∧
  (∀ (t u:TypeId) (x y:Operand) (d:Option Tmp) (ty:TypeId) (pos:String) (aft:Array Edge) (g:Option (Nat×Bool)) (fr:Option Nat) (e:aR) (S:St) (K:KW),jC P C ⟨d,.binOp .add t x y u,ty,pos,aft,g⟩ fr e S K=wO (ev e x) fun a=>wO (ev e y) fun b=>wR (hl (bX P .add t a b)) fun v=>K v S) ∧
  (∀ (t u:TypeId) (x y:Operand) (d:Option Tmp) (ty:TypeId) (pos:String) (aft:Array Edge) (g:Option (Nat×Bool)) (fr:Option Nat) (e:aR) (S:St) (K:KW),jC P C ⟨d,.binOp .sub t x y u,ty,pos,aft,g⟩ fr e S K=wO (ev e x) fun a=>wO (ev e y) fun b=>wR (hl (bX P .sub t a b)) fun v=>K v S) ∧
  (∀ (t u:TypeId) (x y:Operand) (d:Option Tmp) (ty:TypeId) (pos:String) (aft:Array Edge) (g:Option (Nat×Bool)) (fr:Option Nat) (e:aR) (S:St) (K:KW),jC P C ⟨d,.binOp .mul t x y u,ty,pos,aft,g⟩ fr e S K=wO (ev e x) fun a=>wO (ev e y) fun b=>wR (hl (bX P .mul t a b)) fun v=>K v S) ∧
  (∀ (t u:TypeId) (x y:Operand) (d:Option Tmp) (ty:TypeId) (pos:String) (aft:Array Edge) (g:Option (Nat×Bool)) (fr:Option Nat) (e:aR) (S:St) (K:KW),jC P C ⟨d,.binOp .quo t x y u,ty,pos,aft,g⟩ fr e S K=wO (ev e x) fun a=>wO (ev e y) fun b=>wR (hl (bX P .quo t a b)) fun v=>K v S) ∧
  (∀ (t u:TypeId) (x y:Operand) (d:Option Tmp) (ty:TypeId) (pos:String) (aft:Array Edge) (g:Option (Nat×Bool)) (fr:Option Nat) (e:aR) (S:St) (K:KW),jC P C ⟨d,.binOp .rem t x y u,ty,pos,aft,g⟩ fr e S K=wO (ev e x) fun a=>wO (ev e y) fun b=>wR (hl (bX P .rem t a b)) fun v=>K v S) ∧
  (∀ (t u:TypeId) (x y:Operand) (d:Option Tmp) (ty:TypeId) (pos:String) (aft:Array Edge) (g:Option (Nat×Bool)) (fr:Option Nat) (e:aR) (S:St) (K:KW),jC P C ⟨d,.binOp .and t x y u,ty,pos,aft,g⟩ fr e S K=wO (ev e x) fun a=>wO (ev e y) fun b=>wR (hl (bX P .and t a b)) fun v=>K v S) ∧
  (∀ (t u:TypeId) (x y:Operand) (d:Option Tmp) (ty:TypeId) (pos:String) (aft:Array Edge) (g:Option (Nat×Bool)) (fr:Option Nat) (e:aR) (S:St) (K:KW),jC P C ⟨d,.binOp .or t x y u,ty,pos,aft,g⟩ fr e S K=wO (ev e x) fun a=>wO (ev e y) fun b=>wR (hl (bX P .or t a b)) fun v=>K v S) ∧
  (∀ (t u:TypeId) (x y:Operand) (d:Option Tmp) (ty:TypeId) (pos:String) (aft:Array Edge) (g:Option (Nat×Bool)) (fr:Option Nat) (e:aR) (S:St) (K:KW),jC P C ⟨d,.binOp .xor t x y u,ty,pos,aft,g⟩ fr e S K=wO (ev e x) fun a=>wO (ev e y) fun b=>wR (hl (bX P .xor t a b)) fun v=>K v S) ∧
  (∀ (t u:TypeId) (x y:Operand) (d:Option Tmp) (ty:TypeId) (pos:String) (aft:Array Edge) (g:Option (Nat×Bool)) (fr:Option Nat) (e:aR) (S:St) (K:KW),jC P C ⟨d,.binOp .andNot t x y u,ty,pos,aft,g⟩ fr e S K=wO (ev e x) fun a=>wO (ev e y) fun b=>wR (hl (bX P .andNot t a b)) fun v=>K v S) ∧
  (∀ (t u:TypeId) (x y:Operand) (d:Option Tmp) (ty:TypeId) (pos:String) (aft:Array Edge) (g:Option (Nat×Bool)) (fr:Option Nat) (e:aR) (S:St) (K:KW),jC P C ⟨d,.binOp .shl t x y u,ty,pos,aft,g⟩ fr e S K=wO (ev e x) fun a=>wO (ev e y) fun b=>wR (hl (bX P .shl t a b)) fun v=>K v S) ∧
  (∀ (t u:TypeId) (x y:Operand) (d:Option Tmp) (ty:TypeId) (pos:String) (aft:Array Edge) (g:Option (Nat×Bool)) (fr:Option Nat) (e:aR) (S:St) (K:KW),jC P C ⟨d,.binOp .shr t x y u,ty,pos,aft,g⟩ fr e S K=wO (ev e x) fun a=>wO (ev e y) fun b=>wR (hl (bX P .shr t a b)) fun v=>K v S) ∧
  (∀ (t u:TypeId) (x y:Operand) (d:Option Tmp) (ty:TypeId) (pos:String) (aft:Array Edge) (g:Option (Nat×Bool)) (fr:Option Nat) (e:aR) (S:St) (K:KW),jC P C ⟨d,.binOp .lss t x y u,ty,pos,aft,g⟩ fr e S K=wO (ev e x) fun a=>wO (ev e y) fun b=>wR (hl (bX P .lss t a b)) fun v=>K v S) ∧
  (∀ (t u:TypeId) (x y:Operand) (d:Option Tmp) (ty:TypeId) (pos:String) (aft:Array Edge) (g:Option (Nat×Bool)) (fr:Option Nat) (e:aR) (S:St) (K:KW),jC P C ⟨d,.binOp .leq t x y u,ty,pos,aft,g⟩ fr e S K=wO (ev e x) fun a=>wO (ev e y) fun b=>wR (hl (bX P .leq t a b)) fun v=>K v S) ∧
  (∀ (t u:TypeId) (x y:Operand) (d:Option Tmp) (ty:TypeId) (pos:String) (aft:Array Edge) (g:Option (Nat×Bool)) (fr:Option Nat) (e:aR) (S:St) (K:KW),jC P C ⟨d,.binOp .gtr t x y u,ty,pos,aft,g⟩ fr e S K=wO (ev e x) fun a=>wO (ev e y) fun b=>wR (hl (bX P .gtr t a b)) fun v=>K v S) ∧
  (∀ (t u:TypeId) (x y:Operand) (d:Option Tmp) (ty:TypeId) (pos:String) (aft:Array Edge) (g:Option (Nat×Bool)) (fr:Option Nat) (e:aR) (S:St) (K:KW),jC P C ⟨d,.binOp .geq t x y u,ty,pos,aft,g⟩ fr e S K=wO (ev e x) fun a=>wO (ev e y) fun b=>wR (hl (bX P .geq t a b)) fun v=>K v S) ∧
  (∀ (t u:TypeId) (x y:Operand) (d:Option Tmp) (ty:TypeId) (pos:String) (aft:Array Edge) (g:Option (Nat×Bool)) (fr:Option Nat) (e:aR) (S:St) (K:KW),jC P C ⟨d,.binOp .eql t x y u,ty,pos,aft,g⟩ fr e S K=wO (ev e x) fun a=>wO (ev e y) fun b=>uA (hl (cE P t a b)) (wR (hl (bX P .eql t a b)) fun v=>K v S)) ∧
  (∀ (t u:TypeId) (x y:Operand) (d:Option Tmp) (ty:TypeId) (pos:String) (aft:Array Edge) (g:Option (Nat×Bool)) (fr:Option Nat) (e:aR) (S:St) (K:KW),jC P C ⟨d,.binOp .neq t x y u,ty,pos,aft,g⟩ fr e S K=wO (ev e x) fun a=>wO (ev e y) fun b=>uA (hl (cE P t a b)) (wR (hl (bX P .neq t a b)) fun v=>K v S)) ∧
  (∀ (o:UnOp) (t:TypeId) (x:Operand) (d:Option Tmp) (ty:TypeId) (pos:String) (aft:Array Edge) (g:Option (Nat×Bool)) (fr:Option Nat) (e:aR) (S:St) (K:KW),jC P C ⟨d,.unOp o t x,ty,pos,aft,g⟩ fr e S K=wO (ev e x) fun v=>wR (hl (unV o v)) fun v=>K v S) ∧
  (∀ (s u:TypeId) (x:Operand) (d:Option Tmp) (ty:TypeId) (pos:String) (aft:Array Edge) (g:Option (Nat×Bool)) (fr:Option Nat) (e:aR) (S:St) (K:KW),jC P C ⟨d,.convert s u x,ty,pos,aft,g⟩ fr e S K=wO (ev e x) fun v=>wR (hl (eA P s u v fr S)) fun r=>K r.1 r.2) ∧
  (∀ (t:TypeId) (l c:Operand) (d:Option Tmp) (ty:TypeId) (pos:String) (aft:Array Edge) (g:Option (Nat×Bool)) (fr:Option Nat) (e:aR) (S:St) (K:KW),jC P C ⟨d,.makeSlice t l c,ty,pos,aft,g⟩ fr e S K=wO (ev e l) fun l=>wO (ev e c) fun c=>wR (hl (dZ P t l c fr S)) fun r=>K r.1 r.2) ∧
  (∀ (t:TypeId) (x:Operand) (lo hi:Option Operand) (d:Option Tmp) (ty:TypeId) (pos:String) (aft:Array Edge) (g:Option (Nat×Bool)) (fr:Option Nat) (e:aR) (S:St) (K:KW),jC P C ⟨d,.slice t x lo hi none,ty,pos,aft,g⟩ fr e S K=wO (ev e x) fun v=>wO (evO (ev e) lo) fun l=>wO (evO (ev e) hi) fun h=>wR (hl (dY P t v l h)) fun v=>K v S) ∧
  (∀ (s:TypeId) (x:Operand) (f:Nat) (d:Option Tmp) (ty:TypeId) (pos:String) (aft:Array Edge) (g:Option (Nat×Bool)) (fr:Option Nat) (e:aR) (S:St) (K:KW),jC P C ⟨d,.fieldAddr s x f,ty,pos,aft,g⟩ fr e S K=wO (ev e x) fun p=>wR (hl (dK P s p f)) fun v=>K v S) ∧
  (∀ (s:TypeId) (x:Operand) (f:Nat) (d:Option Tmp) (ty:TypeId) (pos:String) (aft:Array Edge) (g:Option (Nat×Bool)) (fr:Option Nat) (e:aR) (S:St) (K:KW),jC P C ⟨d,.field s x f,ty,pos,aft,g⟩ fr e S K=wO (ev e x) fun p=>wR (hl (aCc P s p f)) fun v=>K v S) ∧
  (∀ (t:TypeId) (x i:Operand) (d:Option Tmp) (ty:TypeId) (pos:String) (aft:Array Edge) (g:Option (Nat×Bool)) (fr:Option Nat) (e:aR) (S:St) (K:KW),jC P C ⟨d,.indexAddr t x i,ty,pos,aft,g⟩ fr e S K=wO (ev e x) fun v=>wO (ev e i) fun k=>wR (hl (cV P t v k)) fun v=>K v S) ∧
  (∀ (t:TypeId) (x i:Operand) (d:Option Tmp) (ty:TypeId) (pos:String) (aft:Array Edge) (g:Option (Nat×Bool)) (fr:Option Nat) (e:aR) (S:St) (K:KW),jC P C ⟨d,.index t x i,ty,pos,aft,g⟩ fr e S K=wO (ev e x) fun v=>wO (ev e i) fun k=>wR (hl (aCb P t v k)) fun v=>K v S) ∧
  (∀ (t:TypeId) (x:Operand) (d:Option Tmp) (ty:TypeId) (pos:String) (aft:Array Edge) (g:Option (Nat×Bool)) (fr:Option Nat) (e:aR) (S:St) (K:KW),jC P C ⟨d,.range t x,ty,pos,aft,g⟩ fr e S K=wO (ev e x) fun v=>uA (hl (aGe P t)) (wR (hl (aGf v fr S)) fun r=>K r.1 r.2)) ∧
  (∀ (it:Operand) (isS:Bool) (d:Option Tmp) (ty:TypeId) (pos:String) (aft:Array Edge) (g:Option (Nat×Bool)) (fr:Option Nat) (e:aR) (S:St) (K:KW),jC P C ⟨d,.next it isS,ty,pos,aft,g⟩ fr e S K=wO (ev e it) fun v=>uA (hl isS) (wR (hl (yA v S)) fun r=>K r.1 r.2)) ∧
  (∀ (t:TypeId) (d:Option Tmp) (ty:TypeId) (pos:String) (aft:Array Edge) (g:Option (Nat×Bool)) (fr:Option Nat) (e:aR) (S:St) (K:KW),jC P C ⟨d,.makeMap t none,ty,pos,aft,g⟩ fr e S K=wR (hl (aY fr S (.mp []))) fun r=>K (.mp r.1) r.2) ∧
  (∀ (t:TypeId) (m k:Operand) (ok:Bool) (d:Option Tmp) (ty:TypeId) (pos:String) (aft:Array Edge) (g:Option (Nat×Bool)) (fr:Option Nat) (e:aR) (S:St) (K:KW),jC P C ⟨d,.lookup t m k ok,ty,pos,aft,g⟩ fr e S K=wO (ev e m) fun m=>wO (ev e k) fun k=>wR (hl (pS P t m k ok S)) fun v=>K v S) ∧
  (∀ (t:TypeId) (m k v:Operand) (d:Option Tmp) (ty:TypeId) (pos:String) (aft:Array Edge) (g:Option (Nat×Bool)) (fr:Option Nat) (e:aR) (S:St) (K:KW),jC P C ⟨d,.mapUpdate t m k v,ty,pos,aft,g⟩ fr e S K=wO (ev e m) fun m=>wO (ev e k) fun k=>wO (ev e v) fun v=>wR (hl (iT P t m k v S)) fun S'=>K (.tup []) S') ∧
  (∀ (f:FuncId) (a b:List Operand) (d:Option Tmp) (ty:TypeId) (pos:String) (aft:Array Edge) (g:Option (Nat×Bool)) (fr:Option Nat) (e:aR) (S:St) (K:KW),jC P C ⟨d,.makeFunc (.func f) a.toArray b.toArray,ty,pos,aft,g⟩ fr e S K=wO (pO (ev e) a) fun a=>wO (pO (ev e) b) fun b=>K (.func f a b) S) ∧
  (∀ (x:Operand) (u t:TypeId) (ok:Bool) (d:Option Tmp) (ty:TypeId) (pos:String) (aft:Array Edge) (g:Option (Nat×Bool)) (fr:Option Nat) (e:aR) (S:St) (K:KW),jC P C ⟨d,.typeAssert x u t ok,ty,pos,aft,g⟩ fr e S K=wO (ev e x) fun v=>wR (hl (xF P v t ok)) fun v=>K v S) ∧
  (∀ (t:Operand) (i:Nat) (d:Option Tmp) (ty:TypeId) (pos:String) (aft:Array Edge) (g:Option (Nat×Bool)) (fr:Option Nat) (e:aR) (S:St) (K:KW),jC P C ⟨d,.extract t i,ty,pos,aft,g⟩ fr e S K=wO (ev e t) fun v=>eB (hl v) i fun v=>K v S) ∧
  (∀ (f:FuncId) (a:List Operand) (ts:Array TypeId) (d:Option Tmp) (ty:TypeId) (pos:String) (aft:Array Edge) (g:Option (Nat×Bool)) (fr:Option Nat) (e:aR) (S:St) (K:KW),jC P C ⟨d,.call ⟨.value (.func f),a.toArray,ts⟩,ty,pos,aft,g⟩ fr e S K=wO (pO (ev e) a) fun args=>kK P C f args S K) ∧
  (∀ (t:Tmp) (a:List Operand) (ts:Array TypeId) (d:Option Tmp) (ty:TypeId) (pos:String) (aft:Array Edge) (g:Option (Nat×Bool)) (fr:Option Nat) (e:aR) (S:St) (K:KW),jC P C ⟨d,.call ⟨.value (.tmp t),a.toArray,ts⟩,ty,pos,aft,g⟩ fr e S K=wO (ev e (.tmp t)) fun v=>wO (pO (ev e) a) fun args=>aQv P C v args S K) ∧
  (∀ (x:Operand) (t:TypeId) (ts:List TypeId) (d:Option Tmp) (ty:TypeId) (pos:String) (aft:Array Edge) (g:Option (Nat×Bool)) (fr:Option Nat) (e:aR) (S:St) (K:KW),jC P C ⟨d,.call ⟨.builtin .len,[x].toArray,(t::ts).toArray⟩,ty,pos,aft,g⟩ fr e S K=wO (ev e x) fun x=>wR (hl (zF P t x S)) fun v=>K v S) ∧
  (∀ (a:List Operand) (ts:Array TypeId) (d:Option Tmp) (ty:TypeId) (pos:String) (aft:Array Edge) (g:Option (Nat×Bool)) (fr:Option Nat) (e:aR) (S:St) (K:KW),jC P C ⟨d,.call ⟨.builtin .min,a.toArray,ts⟩,ty,pos,aft,g⟩ fr e S K=wO (pO (ev e) a) fun args=>wR (hl (aQd args)) fun v=>K v S) ∧
  (∀ (a:List Operand) (ts:Array TypeId) (d:Option Tmp) (ty:TypeId) (pos:String) (aft:Array Edge) (g:Option (Nat×Bool)) (fr:Option Nat) (e:aR) (S:St) (K:KW),jC P C ⟨d,.call ⟨.builtin .max,a.toArray,ts⟩,ty,pos,aft,g⟩ fr e S K=wO (pO (ev e) a) fun args=>wR (hl (aQe args)) fun v=>K v S) ∧
  (∀ (s x:Operand) (t u:TypeId) (ts:List TypeId) (d:Option Tmp) (ty:TypeId) (pos:String) (aft:Array Edge) (g:Option (Nat×Bool)) (fr:Option Nat) (e:aR) (S:St) (K:KW),jC P C ⟨d,.call ⟨.builtin .append,[s,x].toArray,(t::u::ts).toArray⟩,ty,pos,aft,g⟩ fr e S K=wO (ev e s) fun s=>wO (ev e x) fun x=>uA (hl (sW P u)) (wR (hl (fT P t s x fr S)) fun r=>K r.1 r.2)) ∧
  (∀ (x:Operand) (t:TypeId) (ts:List TypeId) (d:Option Tmp) (ty:TypeId) (pos:String) (aft:Array Edge) (g:Option (Nat×Bool)) (fr:Option Nat) (e:aR) (S:St) (K:KW),jC P C ⟨d,.call ⟨.builtin .clear,[x].toArray,(t::ts).toArray⟩,ty,pos,aft,g⟩ fr e S K=wO (ev e x) fun x=>wR (hl (aCd P t x S)) fun r=>K r.1 r.2):=by
 refine ⟨?_,?_,?_,?_,?_,?_,?_,?_,?_,?_,?_,?_,?_,?_,?_,?_,?_,?_,?_,?_,?_,?_,?_,?_,?_,?_,?_,?_,?_,?_,?_,?_,?_,?_,?_,?_,?_,?_,?_,?_,?_,?_,?_,?_,?_,?_,?_,?_,?_,?_⟩
 all_goals intros
 all_goals first
  | rfl
  | (simp only [hl];refine (aW7 _ _ _).trans (aKa _ fun v=>?_);simp only [aCu,List.getElem?_toArray,List.getElem?_cons_zero,wO])
  | (simp only [hl];refine (aW8 _ _ _ _).trans (aKa _ fun v=>aKa _ fun w=>?_);simp only [aCu,List.getElem?_toArray,List.getElem?_cons_zero,List.getElem?_cons_succ,wO,sW];split<;>simp [uA, *];done)
  | (simp only [jC,ev,aQv,wO,List.nil_append,List.append_nil];done)
  | skip
def sA (j:Nat) (sk:List Nat) (x y:Prop):Prop:=match aQt j sk with
 | true=>x
 | false=>y
theorem aXx {i j:Nat} (h:¬ j=i) (l:List Nat) (x y:Prop):sA j (i::l) x y=sA j l x y:=by simp only [sA,aQt,aIj (Ne.symm h)]
theorem bD3 {i j:Nat} (h:j<i) (l:List Nat) (x y:Prop):sA j (i::l) x y=sA j l x y:=aXx (Nat.ne_of_lt h) l x y
theorem aXy {i j:Nat} (h:i<j) (l:List Nat) (x y:Prop):sA j (i::l) x y=sA j l x y:=aXx (Nat.ne_of_gt h) l x y
theorem aRd {i j:Nat} (h:¬ j=i) (l:List Nat) (r:List (Nat×List Nat)) (K:List Nat→Prop):wLv ((i,l)::r) j K=wLv r j K:=by simp only [wLv,aIj (Ne.symm h)]
theorem aXz {i j:Nat} (h:j<i) (l:List Nat) (r:List (Nat×List Nat)) (K:List Nat→Prop):wLv ((i,l)::r) j K=wLv r j K:=aRd (Nat.ne_of_lt h) l r K
theorem aRe {i j:Nat} (h:i<j) (l:List Nat) (r:List (Nat×List Nat)) (K:List Nat→Prop):wLv ((i,l)::r) j K=wLv r j K:=aRd (Nat.ne_of_gt h) l r K
theorem aRf {i j:Nat} (h:¬ j=i) (l:List bJ) (r:List (Nat×List bJ)) (K:List bJ→Prop) (x:Prop):wSt ((i,l)::r) j K x=wSt r j K x:=by simp only [wSt,aIj (Ne.symm h)]
theorem aY0 {i j:Nat} (h:j<i) (l:List bJ) (r:List (Nat×List bJ)) (K:List bJ→Prop) (x:Prop):wSt ((i,l)::r) j K x=wSt r j K x:=aRf (Nat.ne_of_lt h) l r K x
theorem aRg {i j:Nat} (h:i<j) (l:List bJ) (r:List (Nat×List bJ)) (K:List bJ→Prop) (x:Prop):wSt ((i,l)::r) j K x=wSt r j K x:=aRf (Nat.ne_of_gt h) l r K x
theorem aM6 {i j:Nat} (h:¬ j=i) (Kn:mC) (Kx:KXW) (e:aR) (S:St):aK9 i Kn Kx j e S=Kx j e S:=by simp only [aK9,aIj h]
theorem aRh {i j:Nat} (h:j<i) (Kn:mC) (Kx:KXW) (e:aR) (S:St):aK9 i Kn Kx j e S=Kx j e S:=aM6 (Nat.ne_of_lt h) Kn Kx e S
theorem aM7 {i j:Nat} (h:i<j) (Kn:mC) (Kx:KXW) (e:aR) (S:St):aK9 i Kn Kx j e S=Kx j e S:=aM6 (Nat.ne_of_gt h) Kn Kx e S
theorem aRi {d n:Nat} (h:d<n) (e:aR) (v:V) (K:aR→Prop):rZ n (some d) e v K=K (e.put d v):=by simp only [rZ,show Nat.blt d n=true by rw [Nat.blt_eq];exact h]
theorem aKb (i:Nat):Nat.beq i i=true:=Nat.beq_refl i
theorem aEt {i j:Nat} (h:¬ i=j) (P:Program) (C:aM) (ops:Array Oper) (S:St) (K:Prop) (o:Oper) (e:aR) (ran:Bool) (v:V) (recs:List sE):dT P C ops i S K (yC P o j e ran v recs)=dT P C ops i S K recs:=by
 unfold yC
 split
 ·simp only [dT,aIj h]
 ·rfl
theorem aIo {i j:Nat} (h:i<j) (P:Program) (C:aM) (ops:Array Oper) (S:St) (K:Prop) (o:Oper) (e:aR) (ran:Bool) (v:V) (recs:List sE):dT P C ops i S K (yC P o j e ran v recs)=dT P C ops i S K recs:=aEt (Nat.ne_of_lt h) P C ops S K o e ran v recs
theorem aEu {i j:Nat} (h:j<i) (P:Program) (C:aM) (ops:Array Oper) (S:St) (K:Prop) (o:Oper) (e:aR) (ran:Bool) (v:V) (recs:List sE):dT P C ops i S K (yC P o j e ran v recs)=dT P C ops i S K recs:=aEt (Nat.ne_of_gt h) P C ops S K o e ran v recs
theorem aRj (K:List bJ→Prop) (x:Prop) (id:Nat):∀ t:List (Nat×List bJ),wSt t id K x=(match eX t id with
  | some l=>K l
  | none=>x)
 | []=>rfl
 | (i,l)::r=>by
  have ih:=aRj K x id r
  unfold eX at ih ⊢
  by_cases h:i=id
  ·subst h;simp only [wSt,iH,aKb,cond_true]
  ·simp only [wSt,iH,aIj h,aIj (Ne.symm h),cond_false,ih]
theorem aEv (P:Program) (C:aM) (n:Nat) (tp:List (Nat×List bJ)) (lv:Nat→List Nat) (id:Nat) (l:List Oper) (e:aR) (S:St) (Kn:mC) (Kx:KXW) (Kr:mC):
  eC P C n (eX tp) lv (.region id l.toArray true) e S Kn Kx Kr=wLn l [0,1,2,3,4,5,6,7,8,9,10,11,12,13,14,15,16,17,18,19,20,21,22,23,24,25,26,27,28,29,30,31,32,33,34,35,36,37,38,39,40,41,42,43,44,45,46,47,48,49,50,51,52,53,54,55,56,57,58,59,60,61,62,63,64,65,66,67,68,69,70,71,72,73,74,75,76,77,78,79,80,81,82,83,84,85,86,87,88,89,90,91,92,93,94,95,96,97,98,99,100,101,102,103,104,105,106,107,108,109,110,111,112,113,114,115,116,117,118,119,120,121,122,123,124,125,126,127,128,129,130,131,132,133,134,135,136,137,138,139,140,141,142,143,144,145,146,147,148,149,150,151,152,153,154,155,156,157,158,159,160] 0 fun k=>wSt tp id (fun st=>rT P C n l.toArray S.next st [] [] e ⟨S.next+k,S.heap⟩ Kn) (yF P C n l.toArray S.next l [0,1,2,3,4,5,6,7,8,9,10,11,12,13,14,15,16,17,18,19,20,21,22,23,24,25,26,27,28,29,30,31,32,33,34,35,36,37,38,39,40,41,42,43,44,45,46,47,48,49,50,51,52,53,54,55,56,57,58,59,60,61,62,63,64,65,66,67,68,69,70,71,72,73,74,75,76,77,78,79,80,81,82,83,84,85,86,87,88,89,90,91,92,93,94,95,96,97,98,99,100,101,102,103,104,105,106,107,108,109,110,111,112,113,114,115,116,117,118,119,120,121,122,123,124,125,126,127,128,129,130,131,132,133,134,135,136,137,138,139,140,141,142,143,144,145,146,147,148,149,150,151,152,153,154,155,156,157,158,159,160] 0 [] e ⟨S.next+k,S.heap⟩ Kn):=by
 have hu:vW 0 [0,1,2,3,4,5,6,7,8,9,10,11,12,13,14,15,16,17,18,19,20,21,22,23,24,25,26,27,28,29,30,31,32,33,34,35,36,37,38,39,40,41,42,43,44,45,46,47,48,49,50,51,52,53,54,55,56,57,58,59,60,61,62,63,64,65,66,67,68,69,70,71,72,73,74,75,76,77,78,79,80,81,82,83,84,85,86,87,88,89,90,91,92,93,94,95,96,97,98,99,100,101,102,103,104,105,106,107,108,109,110,111,112,113,114,115,116,117,118,119,120,121,122,123,124,125,126,127,128,129,130,131,132,133,134,135,136,137,138,139,140,141,142,143,144,145,146,147,148,149,150,151,152,153,154,155,156,157,158,159,160]:=by simp only [vW,and_self]
 generalize [0,1,2,3,4,5,6,7,8,9,10,11,12,13,14,15,16,17,18,19,20,21,22,23,24,25,26,27,28,29,30,31,32,33,34,35,36,37,38,39,40,41,42,43,44,45,46,47,48,49,50,51,52,53,54,55,56,57,58,59,60,61,62,63,64,65,66,67,68,69,70,71,72,73,74,75,76,77,78,79,80,81,82,83,84,85,86,87,88,89,90,91,92,93,94,95,96,97,98,99,100,101,102,103,104,105,106,107,108,109,110,111,112,113,114,115,116,117,118,119,120,121,122,123,124,125,126,127,128,129,130,131,132,133,134,135,136,137,138,139,140,141,142,143,144,145,146,147,148,149,150,151,152,153,154,155,156,157,158,159,160]=ks at hu ⊢
 rw [aK6 _ _ _ _ hu,aRj,Nat.zero_add]
 simp only [eC,List.size_toArray]
 cases eX tp id with
 | some st=>rfl
 | none=>
  show rT P C n l.toArray S.next (aHm l.length) [] [] e _ Kn=_
  rw [aIn]
  exact aD2 P C n l.toArray S.next Kn l ks 0 [] [] e _ hu fun k=>by simp
theorem aEw (P:Program) (C:aM) (n:Nat) (p:Nat→Option (List bJ)) (tl:List (Nat×List Nat)) (a:Code) (e:aR) (S:St) (Kn:mC) (Kx:KXW) (Kr:mC):
  eC P C n p (iN tl) (.loop a) e S Kn Kx Kr=wLv tl (bH a) fun ts=>mW e ts fun vs=>fZ (hl vs) S (aXt P C n p (iN tl) a e Kx Kr):=by rw [aK7];rfl
theorem aRk (P:Program) (C:aM) (n:Nat) (p:Nat→Option (List bJ)) (tl:List (Nat×List Nat)) (a:Code) (e:aR) (Kx:KXW) (Kr:mC) (vs:List V) (S:St) (aE:List V→St→Prop):
  aXt P C n p (iN tl) a e Kx Kr vs S aE=wLv tl (bH a) fun ts=>aGg ts vs (e.filt fun t=>!mB a t) fun e=>eC P C n p (iN tl) a e S (fun e S=>mW e ts fun vs=>aE vs S) Kx Kr:=by rw [aK7];rfl
theorem aM8 (P:Program) (C:aM):
  (∀ (n:Nat) (p:Nat→Option (List bJ)) (lv:Nat→List Nat) (e:aR) (S:St) (Kn:mC) (Kx:KXW) (Kr:mC),eC P C n p lv .skip e S Kn Kx Kr=Kn e S) ∧
  (∀ (n:Nat) (p:Nat→Option (List bJ)) (lv:Nat→List Nat) (l:Nat) (e:aR) (S:St) (Kn:mC) (Kx:KXW) (Kr:mC),eC P C n p lv (.label l) e S Kn Kx Kr=Kn e S) ∧
  (∀ (n:Nat) (p:Nat→Option (List bJ)) (lv:Nat→List Nat) (id:Nat) (e:aR) (S:St) (Kn:mC) (Kx:KXW) (Kr:mC),eC P C n p lv (.exit id) e S Kn Kx Kr=Kx id e S) ∧
  (∀ (n:Nat) (p:Nat→Option (List bJ)) (lv:Nat→List Nat) (e:aR) (S:St) (Kn:mC) (Kx:KXW) (Kr:mC),eC P C n p lv .ret e S Kn Kx Kr=Kr e S) ∧
  (∀ (n:Nat) (p:Nat→Option (List bJ)) (lv:Nat→List Nat) (id:Nat) (l:List Oper) (e:aR) (S:St) (Kn:mC) (Kx:KXW) (Kr:mC),eC P C n p lv (.region id l.toArray false) e S Kn Kx Kr=aGj P C n l.toArray l [0,1,2,3,4,5,6,7,8,9,10,11,12,13,14,15,16,17,18,19,20,21,22,23,24,25,26,27,28,29,30,31,32,33,34,35,36,37,38,39,40,41,42,43,44,45,46,47,48,49,50,51,52,53,54,55,56,57,58,59,60,61,62,63,64,65,66,67,68,69,70,71,72,73,74,75,76,77,78,79,80,81,82,83,84,85,86,87,88,89,90,91,92,93,94,95,96,97,98,99,100,101,102,103,104,105,106,107,108,109,110,111,112,113,114,115,116,117,118,119,120,121,122,123,124,125,126,127,128,129,130,131,132,133,134,135,136,137,138,139,140,141,142,143,144,145,146,147,148,149,150,151,152,153,154,155,156,157,158,159,160] 0 [] e S Kn) ∧
  (∀ (n:Nat) (p:Nat→Option (List bJ)) (lv:Nat→List Nat) (a b:Code) (e:aR) (S:St) (Kn:mC) (Kx:KXW) (Kr:mC),eC P C n p lv (.seq a b) e S Kn Kx Kr=eC P C n p lv a e S (fun e S=>eC P C n p lv b e S Kn Kx Kr) Kx Kr) ∧
  (∀ (n:Nat) (p:Nat→Option (List bJ)) (lv:Nat→List Nat) (c:Operand) (a b:Code) (e:aR) (S:St) (Kn:mC) (Kx:KXW) (Kr:mC),eC P C n p lv (.cond c a b) e S Kn Kx Kr=wO (ev e c) fun v=>aK (hl v) (eC P C n p lv a (aAi e c true) S Kn Kx Kr) (eC P C n p lv b (aAi e c false) S Kn Kx Kr)) ∧
  (∀ (n:Nat) (p:Nat→Option (List bJ)) (lv:Nat→List Nat) (id:Nat) (a:Code) (e:aR) (S:St) (Kn:mC) (Kx:KXW) (Kr:mC),eC P C n p lv (.block id a) e S Kn Kx Kr=eC P C n p lv a e S Kn (aK9 id Kn Kx) Kr) ∧
  (∀ (n:Nat) (ops:Array Oper) (ks:List Nat) (i:Nat) (sk:List Nat) (e:aR) (S:St) (K:mC),aGj P C n ops [] ks i sk e S K=K e S) ∧
  (∀ (n:Nat) (ops:Array Oper) (o:Oper) (l:List Oper) (k i:Nat) (ks sk:List Nat) (e:aR) (S:St) (K:mC),aGj P C n ops (o::l) (k::ks) i sk e S K=kC P C n ops sk o none e S fun ran _ e' S'=>aGj P C n ops l ks (i+1) (yB ran k sk) e' S' K) ∧
  (∀ (n:Nat) (ops:Array Oper) (b:Nat) (ks:List Nat) (i:Nat) (sk:List Nat) (e:aR) (S:St) (K:mC),yF P C n ops b [] ks i sk e S K=K e S) ∧
  (∀ (n:Nat) (ops:Array Oper) (o:Oper) (l:List Oper) (b k i:Nat) (ks:List Nat) (sk:List Nat) (e:aR) (S:St) (K:mC),yF P C n ops b (o::l) (k::ks) i sk e S K=kC P C n ops sk o (some (b+k)) e S fun ran _ e' S'=>yF P C n ops b l ks (i+1) (yB ran k sk) e' S' K) ∧
  (∀ (n:Nat) (ops:Array Oper) (b:Nat) (sk:List Nat) (recs:List sE) (e:aR) (S:St) (K:mC),rT P C n ops b [] sk recs e S K=K e S) ∧
  (∀ (n:Nat) (ops:List Oper) (i:Nat) (re:List Nat) (l:List bJ) (b:Nat) (sk:List Nat) (recs:List sE) (e:aR) (S:St) (K:mC),rT P C n ops.toArray b ((i,re)::l) sk recs e S K=wI ops i fun o=>kC P C n ops.toArray sk o (some (b+i)) e S fun ran v e' S'=>qO P C ops.toArray recs S' (rT P C n ops.toArray b l (yB ran i sk) (yC P o i e ran v recs) e' S' K) re) ∧
  (∀ (ops:Array Oper) (recs:List sE) (S:St) (K:Prop),qO P C ops recs S K []=K) ∧
  (∀ (ops:Array Oper) (recs:List sE) (S:St) (K:Prop) (i:Nat) (l:List Nat),qO P C ops recs S K (i::l)=dT P C ops i S (qO P C ops recs S K l) recs) ∧
  (∀ (ops:Array Oper) (i:Nat) (S:St) (K:Prop),dT P C ops i S K []=K) ∧
  (∀ (ops:List Oper) (i:Nat) (S:St) (K:Prop) (d t:Nat) (a:Operand) (ty:TypeId) (pos:String) (aft:Array Edge) (g:Option (Nat×Bool)) (e:aR) (v:V) (recs:List sE),dT P C ops.toArray i S K (yC P ⟨some d,.load t a,ty,pos,aft,g⟩ i e true v recs)=wI ops i fun o=>jC P C o none e S fun v' _=>uA (hl (eJ v v')) K) ∧
  (∀ (ops:List Oper) (i:Nat) (S:St) (K:Prop) (d:Nat) (a:Array Operand) (ts:Array TypeId) (ty:TypeId) (pos:String) (aft:Array Edge) (g:Option (Nat×Bool)) (e:aR) (v:V) (recs:List sE),dT P C ops.toArray i S K (yC P ⟨some d,.call ⟨.builtin .len,a,ts⟩,ty,pos,aft,g⟩ i e true v recs)=wI ops i fun o=>jC P C o none e S fun v' _=>uA (hl (eJ v v')) K) ∧
  (∀ (o:Oper) (i:Nat) (e:aR) (v:V) (recs:List sE) (ops:Array Oper) (S:St) (K:Prop),dT P C ops i S K (yC P o i e false v recs)=dT P C ops i S K recs) ∧
  (∀ (n:Nat) (ops:Array Oper) (sk:List Nat) (d:Option Tmp) (op:Op) (ty:TypeId) (pos:String) (aft:Array Edge) (fr:Option Nat) (e:aR) (S:St) (K:Bool→V→aR→St→Prop),kC P C n ops sk ⟨d,op,ty,pos,aft,none⟩ fr e S K=jC P C ⟨d,op,ty,pos,aft,none⟩ fr e S fun v S'=>rZ n d e v fun e'=>K true v e' S') ∧
  (∀ (n:Nat) (ops:List Oper) (sk:List Nat) (d:Option Tmp) (op:Op) (ty:TypeId) (pos:String) (aft:Array Edge) (j:Nat) (fr:Option Nat) (e:aR) (S:St) (K:Bool→V→aR→St→Prop),kC P C n ops.toArray sk ⟨d,op,ty,pos,aft,some (j,true)⟩ fr e S K=wG ops j fun s=>wO (e.get s) fun v=>sA j sk (aOr v (rZ n d e (.tup []) fun e'=>K false (.tup []) e' S)) (aK (hl v) (jC P C ⟨d,op,ty,pos,aft,some (j,true)⟩ fr (e.put s (.bool true)) S fun v S'=>rZ n d (e.put s (.bool true)) v fun e'=>K true v e' S') (rZ n d (e.put s (.bool false)) (.tup []) fun e'=>K false (.tup []) e' S))) ∧
  (∀ (n:Nat) (ops:List Oper) (sk:List Nat) (d:Option Tmp) (op:Op) (ty:TypeId) (pos:String) (aft:Array Edge) (j:Nat) (fr:Option Nat) (e:aR) (S:St) (K:Bool→V→aR→St→Prop),kC P C n ops.toArray sk ⟨d,op,ty,pos,aft,some (j,false)⟩ fr e S K=wG ops j fun s=>wO (e.get s) fun v=>sA j sk (aOr v (rZ n d e (.tup []) fun e'=>K false (.tup []) e' S)) (aK (hl v) (rZ n d (e.put s (.bool true)) (.tup []) fun e'=>K false (.tup []) e' S) (jC P C ⟨d,op,ty,pos,aft,some (j,false)⟩ fr (e.put s (.bool false)) S fun v S'=>rZ n d (e.put s (.bool false)) v fun e'=>K true v e' S'))) ∧
  (∀ (n:Nat) (e:aR) (v:V) (K:aR→Prop),rZ n none e v K=K e) ∧
  (∀ (rs:List ResultVar) (K:KW) (e:aR) (S:St),aOs P rs K e S=aE6 P e S rs fun vs=>K (pW vs) S) ∧
  (∀ (e:aR) (S:St) (K:List V→Prop),aE6 P e S [] K=K []) ∧
  (∀ (e:aR) (S:St) (t:Tmp) (l:List ResultVar) (K:List V→Prop),aE6 P e S (.tmp t::l) K=wO (e.get t) fun v=>aE6 P e S l fun vs=>K (v::vs)) ∧
  (∀ (e:aR) (S:St) (a:Tmp) (t:TypeId) (l:List ResultVar) (K:List V→Prop),aE6 P e S (.cell a t::l) K=wO (e.get a) fun p=>wR (hl (lT P t p S)) fun v=>aE6 P e S l fun vs=>K (v::vs)) ∧
  (∀ (f:FuncId) (a b args:List V) (S:St) (K:KW),aQv P C (.func f a b) args S K=kK P C f (a++args++b) S K):=by
 refine ⟨fun n _ _ _ _ _ _ _=>rfl,fun n _ _ _ _ _ _ _ _=>rfl,fun n _ _ _ _ _ _ _ _=>rfl,fun n _ _ _ _ _ _ _=>rfl,fun n p lv id l e S Kn Kx Kr=>aGk P C n l.toArray Kn l _ 0 [] e S (by simp only [vW,and_self]),fun n _ _ _ _ _ _ _ _ _=>rfl,fun n _ _ _ _ _ _ _ _ _ _=>rfl,fun n _ _ _ _ _ _ _ _ _=>rfl,fun n ops ks i sk e S K=>by cases ks<;>rfl,fun n _ _ _ _ _ _ _ _ _ _=>rfl,fun n ops b ks i sk e S K=>by cases ks<;>rfl,fun n _ _ _ _ _ _ _ _ _ _ _=>rfl,fun n _ _ _ _ _ _ _=>rfl,fun n ops i re l b sk recs e S K=>?_,fun _ _ _ _=>rfl,fun _ _ _ _ _ _=>rfl,fun _ _ _ _=>rfl,fun ops i S K d t a ty pos aft g e v recs=>?_,fun ops i S K d a ts ty pos aft g e v recs=>?_,fun o i e v recs ops S K=>?_,fun n _ _ _ _ _ _ _ _ _ _ _=>rfl,fun n ops sk d op ty pos aft j fr e S K=>?_,fun n ops sk d op ty pos aft j fr e S K=>?_,fun n _ _ _=>rfl,fun _ _ _ _=>rfl,fun _ _ _=>rfl,fun _ _ _ _ _=>rfl,fun _ _ _ _ _ _=>rfl,fun _ _ _ _ _ _=>rfl⟩
 ·rw [rT,aEs]
 ·simp only [yC,dS,aKb,Bool.and_true,Option.isSome,dT,hl];rw [aEs]
 ·simp only [yC,dS,aKb,Bool.and_true,Option.isSome,dT,hl];rw [aEs]
 ·simp only [yC,Bool.and_false,Bool.false_and]
 ·simp only [kC,doW,aEp,sA];rw [aR9];rfl
 ·simp only [kC,doW,aEp,sA];rw [aR9];rfl
theorem aM9:(∀ (k:Nat) (ks:List Nat) (i:Nat) (K:Nat→Prop),wLn [] (k::ks) i K=K k)∧(∀ (o:Oper) (l:List Oper) (k:Nat) (ks:List Nat) (i:Nat) (K:Nat→Prop),wLn (o::l) (k::ks) i K=wLn l ks (i+1) K)∧(∀ (j:Nat) (x y:Prop),sA j [] x y=y)∧(∀ (j i:Nat) (l:List Nat) (x y:Prop),sA j (yB true i l) x y=sA j l x y)∧(∀ (j i:Nat) (l:List Nat) (x y:Prop),sA j (yB false i l) x y=sA j (i::l) x y)∧(∀ (j:Nat) (l:List Nat) (x y:Prop),sA j (j::l) x y=x) ∧
  (∀ (j:Nat) (K:List Nat→Prop),wLv [] j K=K [])∧(∀ (j:Nat) (l:List Nat) (r:List (Nat×List Nat)) (K:List Nat→Prop),wLv ((j,l)::r) j K=K l)∧(∀ (j:Nat) (K:List bJ→Prop) (x:Prop),wSt [] j K x=x)∧(∀ (j:Nat) (l:List bJ) (r:List (Nat×List bJ)) (K:List bJ→Prop) (x:Prop),wSt ((j,l)::r) j K x=K l) ∧
  (∀ (o:Oper) (l:List Oper) (K:Nat→Prop),wG (o::l) 0 K=wO o.dst K)∧(∀ (o:Oper) (l:List Oper) (j:Nat) (K:Nat→Prop),wG (o::l) (j+1) K=wG l j K)∧(∀ (o:Oper) (l:List Oper) (K:Oper→Prop),wI (o::l) 0 K=K o)∧(∀ (o:Oper) (l:List Oper) (j:Nat) (K:Oper→Prop),wI (o::l) (j+1) K=wI l j K) ∧
  (∀ (d:Nat) (op:Op) (ty:TypeId) (pos:String) (aft:Array Edge) (g:Option (Nat×Bool)) (K:Nat→Prop),wO (Oper.dst ⟨some d,op,ty,pos,aft,g⟩) K=K d) ∧
  (∀ (i:Nat) (Kn:mC) (Kx:KXW) (e:aR) (S:St),aK9 i Kn Kx i e S=Kn e S)∧(∀ (e:aR) (K:List V→Prop),mW e [] K=K [])∧(∀ (e:aR) (t:Nat) (l:List Nat) (K:List V→Prop),mW e (t::l) K=wO (e.get t) fun v=>mW e l fun vs=>K (v::vs)) ∧
  (∀ (vs:List V) (e:aR) (K:aR→Prop),aGg [] vs e K=K e)∧(∀ (t:Nat) (l:List Nat) (v:V) (vs:List V) (e:aR) (K:aR→Prop),aGg (t::l) (v::vs) e K=aGg l vs (e.put t v) K)∧(eF 0 [] .nil=.nil)∧(∀ a0:V,eF 0 [a0] .nil=(Tr.put .nil 0 a0))∧(∀ a0 a1:V,eF 0 [a0,a1] .nil=((Tr.put .nil 0 a0).put 1 a1))∧(∀ a0 a1 a2:V,eF 0 [a0,a1,a2] .nil=(((Tr.put .nil 0 a0).put 1 a1).put 2 a2))∧(∀ a0 a1 a2 a3:V,eF 0 [a0,a1,a2,a3] .nil=((((Tr.put .nil 0 a0).put 1 a1).put 2 a2).put 3 a3))∧(∀ a0 a1 a2 a3 a4:V,eF 0 [a0,a1,a2,a3,a4] .nil=(((((Tr.put .nil 0 a0).put 1 a1).put 2 a2).put 3 a3).put 4 a4))∧(∀ a0 a1 a2 a3 a4 a5:V,eF 0 [a0,a1,a2,a3,a4,a5] .nil=((((((Tr.put .nil 0 a0).put 1 a1).put 2 a2).put 3 a3).put 4 a4).put 5 a5))∧(∀ a0 a1 a2 a3 a4 a5 a6:V,eF 0 [a0,a1,a2,a3,a4,a5,a6] .nil=(((((((Tr.put .nil 0 a0).put 1 a1).put 2 a2).put 3 a3).put 4 a4).put 5 a5).put 6 a6))∧(∀ a0 a1 a2 a3 a4 a5 a6 a7:V,eF 0 [a0,a1,a2,a3,a4,a5,a6,a7] .nil=((((((((Tr.put .nil 0 a0).put 1 a1).put 2 a2).put 3 a3).put 4 a4).put 5 a5).put 6 a6).put 7 a7)) ∧
  (∀ (i:Nat) (sk:List Nat),yB true i sk=sk)∧(∀ (i:Nat) (sk:List Nat),yB false i sk=i::sk)∧(∀ (e:aR) (t:Nat) (b:Bool),aAi e (.tmp t) b=e.put t (.bool b))∧(∀ (e:aR) (v:Value) (b:Bool),aAi e (.const v) b=e)∧(∀ v:V,pW [v]=v)∧pW []=.tup []∧(∀ (v w:V) (l:List V),pW (v::w::l)=.tup (v::w::l)) ∧
  (∀ (l:List V) (x:Prop),aOr (.tup l) x=x)∧(∀ a b:Code,bH (.seq a b)=bH a)∧(∀ (i:Nat) (a:Code),bH (.block i a)=bH a)∧(∀ (id:Nat) (ops:Array Oper) (d:Bool),bH (.region id ops d)=id)∧(∀ a:Code,bH (.loop a)=bH a)∧(∀ (c:Operand) (a b:Code),bH (.cond c a b)=0)∧(∀ x y:Prop,aK (hl (.bool true)) x y=x)∧(∀ x y:Prop,aK (hl (.bool false)) x y=y)∧(true=true)=True∧(false=true)=False∧(∀ a b:V,aIb (.bool true) a b=.ok a)∧(∀ a b:V,aIb (.bool false) a b=.ok b):=by
 refine ⟨fun _ _ _ _=>rfl,fun _ _ _ _ _ _=>rfl,fun _ _ _=>rfl,fun _ _ _ _ _=>rfl,fun _ _ _ _ _=>rfl,fun j l x y=>by simp only [sA,aQt,aKb],fun _ _=>rfl,fun j l r K=>by simp only [wLv,aKb],fun _ _ _=>rfl,fun j l r K x=>by simp only [wSt,aKb],fun _ _ _=>rfl,fun _ _ _ _=>rfl,fun _ _ _=>rfl,fun _ _ _ _=>rfl,fun _ _ _ _ _ _ _=>rfl,fun i Kn Kx e S=>by simp only [aK9,aKb],fun _ _=>rfl,fun _ _ _ _=>rfl,fun _ _ _=>rfl,fun _ _ _ _ _ _=>rfl,rfl,fun _=>rfl,fun _ _=>rfl,fun _ _ _=>rfl,fun _ _ _ _=>rfl,fun _ _ _ _ _=>rfl,fun _ _ _ _ _ _=>rfl,fun _ _ _ _ _ _ _=>rfl,fun _ _ _ _ _ _ _ _=>rfl,fun _ _=>rfl,fun _ _=>rfl,fun _ _ _=>rfl,fun _ _ _=>rfl,fun _=>rfl,rfl,fun _ _ _=>rfl,fun _ _=>rfl,fun _ _=>rfl,fun _ _=>rfl,fun _ _ _=>rfl,fun _=>rfl,fun _ _ _=>rfl,fun _ _=>rfl,fun _ _=>rfl,by simp,by simp,fun _ _=>rfl,fun _ _=>rfl⟩
def aD3 (P:Program) (C:aM) (fn:Func) (tp:List (Nat×List bJ)) (tl:List (Nat×List Nat)) (args:List V) (S:St) (K:KW):Prop:=aQw P C (eX tp) (iN tl) args S K (fn.body.getD .skip) fn.ntmps fn.results.toList
theorem aY1 (P:Program) (C:aM) (nm og:String) (ta pa rt:Array TypeId) (nf nt:Nat) (rs:List ResultVar) (c:Code) (b1 b2:Bool) (fl:String) (el:Nat) (ln:Option Nat) (me:List Departure) (tn:Array String) (tp:List (Nat×List bJ)) (tl:List (Nat×List Nat)) (args:List V) (S:St) (K:KW):
  aD3 P C ⟨nm,og,ta,pa,rt,nf,nt,rs.toArray,some c,b1,b2,fl,el,ln,me,tn⟩ tp tl args S K=uA (Nat.ble args.length nt) (eC P C nt (eX tp) (iN tl) c (eF 0 args .nil) S (aOs P rs K) (fun _ _ _=>False) (aOs P rs K)):=rfl
def aEx (fn:Func):Code×Nat×List ResultVar:=(fn.body.getD .skip,fn.ntmps,fn.results.toList)
theorem aEy:(∀ n,Nat.ble ([]:List V).length n=true)∧(∀ (a:V) (l:List V) (n:Nat),Nat.ble (a::l).length (n+1)=Nat.ble l.length n):=⟨fun n=>by cases n<;>rfl,fun _ _ _=>rfl⟩
theorem aAt (P:Program) (C:aM) {g:FuncId} (h:dI P g=some none) (args:List V) (S:St) (K:KW):kK P C g args S K=C g (hl args) S K:=by unfold kK;rw [h];rfl
section
variable {P:Program} {pl:lB} {f:FuncId} {fn:Func} {tp:List (Nat×List bJ)} {tl:List (Nat×List Nat)}
theorem bD4 (hp:pl f=some (.val (eX tp))) (hb:aAj P f=some (aEx fn)) {args:List V} {v:V} (hc:cloVs args=true) (h:aD3 P (W P pl) fn tp tl args ⟨0,.nil⟩ fun v0 S0=>iA S0 v0=.ok v):Fn P pl f args v:=
 Fn.of (p:=eX tp) (lv:=iN tl) hp hc (by unfold dJ;rw [hb];exact h)
theorem bBk (hp:pl f=some (.code (eX tp))) (hb:aAj P f=some (aEx fn)) {args:List V} {S:St} {K:KW} (h:aD3 P (W P pl) fn tp tl args S K):W P pl f args S K:=
 aGi (p:=eX tp) (lv:=iN tl) hp (by unfold dJ;rw [hb];exact h)
end
end
end Go.AM
end
section
namespace Go.Proofs.YtoaibmbldmckaaaGreat
open Go.AM Tryz
def dSp:aHn:=[(202,.ins 68),(221,.ins 27),(230,.ins 28),(234,.ins 25),(237,.ins 24),(280,.ins 80),(240,.del 28)]
def bBl:iI:=[
 (3,[]),
 (4,[(4,[(0,[]),(2,[]),(1,[2]),(3,[]),(4,[]),(5,[]),(6,[]),(7,[]),(8,[]),(9,[]),(10,[]),(11,[]),(12,[]),(13,[])])]),
 (5,[(10,[(0,[]),(1,[]),(2,[1]),(3,[])])]),
 (6,[(8,[(0,[]),(2,[]),(1,[2]),(3,[]),(4,[]),(5,[]),(6,[]),(7,[]),(8,[]),(9,[]),(10,[]),(11,[]),(12,[]),(13,[]),(14,[]),(15,[])])]),
 (7,[]),
 (8,[(7,[(1,[]),(2,[]),(3,[]),(4,[]),(6,[]),(7,[]),(8,[]),(9,[]),(10,[]),(0,[]),(5,[7]),(11,[]),(12,[])]),(15,[(0,[]),(1,[0]),(2,[0]),(3,[]),(4,[]),(5,[]),(6,[]),(7,[]),(8,[])])]),
 (9,[]),
 (10,[]),
 (11,[]),
 (12,[]),
 (13,[(2,[(0,[]),(2,[]),(1,[2]),(3,[]),(4,[]),(5,[]),(6,[]),(7,[]),(8,[]),(9,[]),(10,[]),(11,[]),(12,[]),(13,[]),(14,[])])]),
 (14,[]),
 (15,[(5,[(0,[]),(1,[]),(2,[0]),(3,[]),(4,[]),(5,[]),(6,[]),(7,[]),(8,[]),(9,[])]),(6,[(0,[]),(1,[]),(2,[0]),(3,[]),(4,[]),(5,[]),(6,[]),(7,[]),(8,[]),(9,[])])]),
 (16,[(3,[(0,[]),(2,[]),(1,[2]),(3,[]),(4,[]),(5,[])]),(4,[(0,[]),(1,[]),(2,[]),(3,[]),(4,[]),(5,[]),(6,[]),(7,[]),(8,[]),(9,[]),(10,[]),(12,[]),(13,[]),(11,[13,12]),(14,[]),(15,[]),(16,[]),(17,[]),(18,[]),(19,[]),(20,[])])]),
 (17,[(32,[(0,[]),(1,[]),(2,[]),(3,[]),(4,[]),(5,[]),(6,[]),(7,[]),(8,[]),(9,[]),(10,[]),(11,[]),(12,[]),(13,[]),(14,[]),(15,[]),(16,[]),(17,[]),(18,[]),(19,[]),(20,[]),(21,[]),(22,[]),(23,[]),(24,[]),(25,[]),(26,[]),(27,[]),(28,[25,23]),(29,[]),(30,[]),(31,[25,23]),(32,[]),(33,[]),(34,[25]),(35,[]),(36,[]),(37,[])])]),
 (18,[]),
 (19,[]),
 (20,[]),
 (21,[]),
 (22,[]),
 (23,[]),
 (24,[]),
 (26,[]),
 (27,[]),
 (28,[]),
 (29,[(7,[(0,[]),(1,[]),(2,[]),(3,[]),(4,[]),(5,[]),(6,[]),(8,[]),(9,[]),(10,[]),(11,[]),(12,[]),(13,[]),(15,[]),(16,[]),(17,[]),(18,[]),(19,[]),(20,[]),(7,[20,16,13,9]),(14,[20,16]),(21,[]),(22,[])]),(12,[(0,[]),(1,[]),(2,[]),(3,[]),(4,[]),(5,[]),(6,[]),(8,[]),(9,[]),(10,[]),(11,[]),(12,[]),(13,[]),(15,[]),(16,[]),(17,[]),(18,[]),(19,[]),(20,[]),(7,[20,16,13,9]),(14,[20,16]),(21,[]),(22,[])]),(18,[(0,[]),(1,[]),(2,[]),(3,[]),(5,[]),(6,[]),(4,[6]),(7,[]),(8,[])]),(19,[(0,[]),(1,[]),(2,[]),(3,[]),(5,[]),(6,[]),(7,[]),(4,[7]),(8,[]),(9,[])]),(25,[(0,[]),(1,[]),(2,[]),(4,[]),(5,[]),(7,[]),(8,[]),(3,[8,5]),(6,[8]),(9,[]),(10,[])]),(30,[(0,[]),(1,[]),(2,[]),(3,[]),(4,[]),(5,[]),(6,[]),(8,[]),(9,[]),(10,[]),(11,[]),(12,[]),(13,[]),(15,[]),(16,[]),(17,[]),(18,[]),(19,[]),(20,[]),(7,[20,16,13,9]),(14,[20,16]),(21,[]),(22,[])])]),
 (30,[]),
 (31,[]),
 (32,[]),
 (33,[(3,[(0,[]),(1,[0]),(2,[]),(3,[])]),(5,[(0,[]),(1,[0]),(2,[]),(3,[])]),(10,[(0,[]),(1,[]),(2,[0]),(3,[]),(4,[])]),(12,[(0,[]),(1,[]),(2,[1]),(3,[])]),(17,[(0,[]),(1,[]),(2,[1]),(3,[])])]),
 (34,[(9,[(1,[]),(2,[]),(4,[]),(5,[]),(6,[]),(0,[]),(3,[5]),(7,[]),(8,[]),(9,[]),(10,[])]),(11,[(0,[]),(1,[]),(2,[]),(3,[]),(4,[]),(5,[2]),(6,[])]),(16,[(0,[]),(1,[]),(2,[1]),(3,[])]),(21,[(0,[]),(1,[]),(2,[1]),(3,[])])]),
 (35,[]),
 (36,[]),
 (37,[]),
 (38,[]),
 (39,[]),
 (40,[]),
 (41,[(10,[(0,[]),(1,[]),(3,[]),(2,[3]),(4,[]),(5,[]),(6,[]),(7,[]),(8,[]),(10,[]),(9,[10]),(11,[]),(12,[]),(13,[])]),(19,[(1,[]),(2,[]),(3,[]),(5,[]),(6,[]),(7,[]),(8,[]),(9,[]),(12,[]),(13,[]),(14,[]),(0,[]),(4,[8,6]),(10,[]),(11,[]),(15,[]),(16,[])])]),
 (42,[]),
 (43,[]),
 (44,[(3,[(0,[]),(1,[0]),(2,[0]),(3,[]),(4,[]),(5,[]),(6,[]),(7,[]),(8,[])]),(4,[(0,[]),(1,[0]),(2,[0]),(3,[]),(4,[]),(5,[]),(6,[]),(7,[]),(8,[])])]),
 (45,[]),
 (46,[]),
 (47,[]),
 (48,[]),
 (50,[]),
 (51,[]),
 (52,[]),
 (53,[]),
 (54,[(7,[(0,[]),(1,[]),(3,[]),(4,[]),(6,[]),(2,[4]),(5,[]),(7,[]),(8,[]),(9,[]),(10,[])])]),
 (55,[]),
 (56,[]),
 (57,[]),
 (58,[]),
 (59,[]),
 (60,[]),
 (61,[]),
 (62,[]),
 (63,[]),
 (64,[]),
 (65,[]),
 (66,[]),
 (67,[]),
 (68,[]),
 (69,[]),
 (70,[]),
 (71,[]),
 (72,[]),
 (73,[]),
 (74,[]),
 (75,[]),
 (76,[]),
 (77,[]),
 (78,[]),
 (79,[]),
 (80,[]),
 (81,[]),
 (82,[]),
 (83,[]),
 (84,[]),
 (85,[]),
 (86,[]),
 (87,[]),
 (88,[]),
 (89,[]),
 (90,[]),
 (91,[]),
 (92,[]),
 (93,[]),
 (94,[]),
 (95,[]),
 (96,[]),
 (97,[]),
 (98,[(1,[(0,[]),(1,[]),(2,[]),(4,[]),(5,[]),(7,[]),(8,[]),(3,[8,5]),(6,[8]),(9,[]),(10,[])])]),
 (99,[]),
 (100,[]),
 (101,[(1,[(0,[]),(1,[]),(2,[]),(4,[]),(5,[]),(7,[]),(8,[]),(3,[8,5]),(6,[8]),(9,[]),(10,[])])]),
 (102,[(9,[(0,[]),(1,[]),(2,[]),(3,[]),(4,[]),(5,[]),(6,[]),(7,[]),(8,[]),(9,[]),(10,[1]),(11,[]),(12,[]),(13,[]),(14,[])])]),
 (103,[]),
 (104,[(2,[(0,[]),(1,[0]),(2,[]),(3,[])]),(5,[(0,[]),(1,[]),(2,[0]),(3,[]),(4,[])]),(9,[(0,[]),(1,[]),(2,[1]),(3,[])])]),
 (105,[]),
 (106,[]),
 (107,[(8,[(0,[]),(1,[]),(2,[]),(3,[]),(4,[]),(5,[]),(6,[]),(7,[]),(8,[5]),(9,[]),(10,[]),(11,[])])]),
 (108,[(5,[(0,[]),(1,[]),(2,[]),(3,[]),(4,[]),(5,[3]),(6,[]),(7,[])]),(12,[(0,[]),(1,[]),(2,[]),(3,[]),(4,[]),(5,[3]),(6,[]),(7,[])]),(15,[(0,[]),(1,[]),(2,[]),(3,[]),(4,[]),(5,[]),(6,[]),(7,[5,3]),(8,[]),(9,[5]),(10,[]),(11,[])])]),
 (109,[]),
 (110,[(33,[(1,[]),(2,[]),(3,[]),(4,[]),(6,[]),(7,[]),(8,[]),(9,[]),(10,[]),(0,[]),(5,[7]),(11,[]),(12,[]),(13,[])]),(44,[(0,[]),(1,[]),(2,[1]),(3,[])])]),
 (111,[(4,[(0,[]),(1,[]),(2,[]),(3,[]),(4,[]),(5,[]),(6,[]),(7,[]),(8,[5]),(9,[]),(10,[]),(11,[])])]),
 (112,[]),
 (113,[]),
 (114,[]),
 (115,[]),
 (116,[]),
 (117,[]),
 (118,[(1,[(0,[]),(1,[]),(2,[]),(3,[]),(4,[]),(5,[]),(6,[]),(7,[]),(8,[]),(9,[]),(10,[]),(11,[]),(12,[]),(13,[]),(14,[]),(15,[]),(16,[]),(17,[]),(18,[]),(19,[]),(20,[15]),(21,[]),(22,[]),(23,[])])]),
 (119,[]),
 (120,[(19,[(0,[]),(1,[]),(2,[]),(3,[]),(4,[]),(5,[]),(6,[]),(7,[]),(8,[]),(9,[]),(10,[]),(11,[]),(12,[]),(13,[]),(15,[]),(16,[]),(17,[]),(18,[]),(19,[]),(14,[19]),(20,[]),(21,[]),(22,[]),(23,[]),(24,[]),(25,[]),(26,[]),(27,[]),(28,[]),(29,[]),(30,[]),(31,[]),(32,[]),(33,[]),(34,[]),(35,[]),(36,[]),(37,[]),(38,[]),(39,[]),(40,[]),(41,[]),(42,[]),(43,[]),(44,[]),(45,[]),(46,[]),(47,[]),(48,[])])]),
 (121,[]),
 (122,[(11,[(1,[]),(2,[]),(3,[]),(5,[]),(6,[]),(7,[]),(8,[]),(9,[]),(10,[]),(13,[]),(14,[]),(15,[]),(0,[]),(4,[9]),(11,[]),(12,[]),(16,[]),(17,[])])]),
 (123,[(1,[(0,[]),(1,[]),(2,[]),(3,[]),(4,[]),(5,[]),(6,[]),(7,[]),(8,[]),(9,[]),(10,[]),(11,[]),(12,[]),(13,[]),(14,[]),(15,[]),(16,[]),(17,[]),(18,[]),(19,[]),(20,[]),(21,[]),(22,[]),(23,[]),(24,[]),(25,[]),(26,[]),(27,[]),(28,[]),(29,[]),(30,[25]),(31,[]),(32,[]),(33,[])])]),
 (124,[(1,[(0,[]),(1,[]),(2,[]),(3,[]),(4,[]),(5,[]),(6,[]),(7,[]),(9,[]),(8,[9]),(10,[]),(11,[]),(12,[]),(13,[])])]),
 (125,[]),
 (126,[]),
 (127,[]),
 (128,[]),
 (129,[]),
 (130,[]),
 (131,[]),
 (132,[]),
 (133,[]),
 (134,[]),
 (135,[]),
 (136,[]),
 (137,[]),
 (138,[]),
 (139,[]),
 (140,[]),
 (141,[]),
 (142,[(5,[(0,[]),(1,[]),(2,[]),(3,[]),(4,[]),(5,[3]),(6,[]),(7,[])]),(14,[(0,[]),(1,[]),(2,[]),(3,[]),(4,[]),(5,[]),(6,[]),(7,[]),(8,[]),(10,[]),(9,[5,2]),(11,[5]),(12,[]),(13,[]),(14,[]),(15,[])]),(17,[(0,[]),(1,[]),(2,[]),(3,[]),(4,[]),(5,[]),(6,[]),(7,[5,3]),(8,[]),(9,[5]),(10,[]),(11,[])]),(24,[(0,[]),(1,[]),(2,[]),(3,[]),(4,[2]),(5,[])])]),
 (143,[(5,[(0,[]),(1,[]),(2,[]),(3,[]),(4,[]),(5,[4]),(6,[])])]),
 (144,[]),
 (145,[]),
 (146,[]),
 (147,[]),
 (148,[]),
 (149,[]),
 (150,[]),
 (151,[]),
 (152,[]),
 (153,[]),
 (154,[(10,[(0,[]),(1,[]),(2,[]),(3,[]),(4,[]),(7,[]),(8,[]),(9,[]),(10,[]),(11,[]),(5,[]),(6,[11]),(12,[]),(13,[]),(14,[]),(15,[])])]),
 (155,[]),
 (156,[]),
 (157,[]),
 (158,[]),
 (159,[]),
 (160,[]),
 (161,[(5,[(0,[]),(1,[]),(2,[]),(3,[]),(4,[]),(5,[]),(8,[]),(9,[]),(10,[]),(11,[]),(12,[]),(13,[]),(6,[]),(7,[13]),(14,[]),(15,[]),(16,[]),(17,[])])]),
 (162,[]),
 (163,[]),
 (164,[]),
 (165,[]),
 (166,[]),
 (167,[]),
 (168,[]),
 (169,[]),
 (170,[]),
 (171,[]),
 (172,[]),
 (173,[]),
 (174,[]),
 (175,[]),
 (176,[]),
 (177,[]),
 (178,[(17,[(0,[]),(2,[]),(3,[]),(1,[3]),(4,[]),(5,[]),(6,[]),(7,[])])]),
 (179,[]),
 (180,[]),
 (181,[]),
 (182,[]),
 (183,[]),
 (184,[]),
 (185,[]),
 (186,[(14,[(1,[]),(2,[]),(3,[]),(5,[]),(6,[]),(7,[]),(10,[]),(11,[]),(12,[]),(0,[]),(4,[]),(8,[]),(9,[]),(13,[]),(14,[]),(15,[])])]),
 (187,[]),
 (188,[]),
 (189,[(13,[(1,[]),(2,[]),(3,[]),(5,[]),(8,[]),(9,[]),(10,[]),(0,[]),(4,[5]),(6,[]),(7,[]),(11,[]),(12,[]),(13,[])])]),
 (190,[(30,[(1,[]),(2,[]),(3,[]),(4,[]),(6,[]),(7,[]),(8,[]),(9,[]),(12,[]),(13,[]),(14,[]),(15,[]),(0,[]),(5,[13,7]),(10,[]),(11,[13]),(16,[]),(17,[]),(18,[])]),(31,[(0,[]),(1,[]),(2,[]),(3,[]),(4,[]),(5,[]),(6,[]),(7,[]),(8,[]),(9,[]),(10,[1]),(11,[]),(12,[]),(13,[]),(14,[]),(15,[]),(16,[]),(17,[])])]),
 (191,[(13,[(1,[]),(2,[]),(4,[]),(5,[]),(6,[]),(7,[]),(8,[]),(9,[]),(10,[]),(11,[]),(12,[]),(13,[]),(0,[]),(3,[12,10,9,5]),(14,[]),(15,[]),(16,[]),(17,[])]),(14,[(0,[]),(1,[]),(2,[]),(3,[]),(4,[]),(5,[3]),(6,[])])]),
 (192,[(12,[(0,[]),(1,[]),(2,[]),(3,[]),(4,[]),(5,[]),(6,[]),(8,[]),(9,[]),(7,[9]),(10,[]),(11,[]),(12,[])]),(22,[(0,[]),(1,[]),(2,[1]),(3,[])])]),
 (193,[]),
 (194,[(3,[(0,[]),(1,[]),(3,[]),(4,[]),(2,[4]),(5,[]),(6,[]),(7,[])])]),
 (195,[]),
 (196,[]),
 (197,[]),
 (198,[]),
 (199,[]),
 (200,[]),
 (201,[]),
 (203,[]),
 (204,[]),
 (205,[]),
 (206,[]),
 (207,[(4,[(0,[]),(1,[]),(3,[]),(4,[]),(6,[]),(2,[4]),(5,[]),(7,[]),(8,[]),(9,[]),(10,[])])]),
 (208,[(9,[(0,[]),(1,[]),(2,[]),(3,[]),(4,[]),(5,[]),(6,[3,1]),(7,[]),(8,[]),(9,[]),(10,[])])]),
 (209,[]),
 (210,[]),
 (211,[]),
 (212,[]),
 (213,[]),
 (214,[]),
 (215,[(6,[(0,[]),(1,[]),(2,[]),(3,[]),(4,[]),(5,[4]),(6,[])])]),
 (216,[]),
 (217,[]),
 (218,[]),
 (219,[]),
 (220,[]),
 (222,[]),
 (223,[(7,[(0,[]),(1,[]),(2,[]),(3,[]),(4,[1]),(5,[]),(6,[]),(7,[])])]),
 (224,[]),
 (225,[]),
 (226,[(5,[(0,[]),(1,[]),(2,[]),(5,[]),(6,[]),(7,[]),(3,[]),(4,[7]),(8,[]),(9,[]),(10,[]),(11,[])])]),
 (227,[]),
 (228,[]),
 (229,[]),
 (231,[]),
 (232,[]),
 (233,[]),
 (235,[]),
 (236,[]),
 (238,[]),
 (239,[]),
 (241,[]),
 (242,[(7,[(0,[]),(1,[]),(2,[]),(3,[]),(4,[]),(5,[]),(6,[]),(7,[]),(8,[]),(9,[]),(10,[]),(11,[]),(12,[]),(14,[]),(13,[14]),(15,[]),(16,[]),(17,[])])]),
 (243,[]),
 (244,[]),
 (245,[]),
 (246,[]),
 (249,[(7,[(0,[]),(1,[]),(2,[]),(4,[]),(5,[]),(3,[5]),(6,[]),(7,[])]),(16,[(0,[]),(1,[]),(2,[]),(3,[]),(5,[]),(6,[]),(7,[]),(9,[]),(10,[]),(11,[]),(4,[11,7]),(8,[11]),(12,[]),(13,[])]),(20,[(0,[]),(1,[]),(2,[]),(4,[]),(5,[]),(7,[]),(8,[]),(9,[]),(3,[9,8,5]),(6,[9,8]),(10,[]),(11,[])]),(27,[(0,[]),(1,[]),(2,[]),(4,[]),(5,[]),(7,[]),(8,[]),(10,[]),(11,[]),(3,[11,8,5]),(6,[11,8]),(9,[11]),(12,[]),(13,[])]),(31,[(0,[]),(1,[]),(2,[]),(4,[]),(5,[]),(7,[]),(8,[]),(9,[]),(11,[]),(12,[]),(13,[]),(3,[13,9,5]),(6,[13,9]),(10,[13]),(14,[]),(15,[])])]),
 (250,[]),
 (251,[]),
 (252,[]),
 (253,[]),
 (254,[]),
 (258,[]),
 (259,[]),
 (260,[]),
 (263,[]),
 (268,[]),
 (269,[]),
 (270,[]),
 (271,[]),
 (273,[]),
 (278,[]),
 (279,[]),
 (286,[]),
 (287,[]),
 (307,[]),
 (308,[]),
 (309,[]),
 (310,[]),
 (311,[]),
 (312,[]),
 (313,[]),
 (314,[])]
def dVl:List Nat:=[3,4,5,6,7,8,9,10,11,12,13,14,15,16,17,18,19,21,22,23,24,26,27,28,29,30,31,32,33,34,35,36,37,38,40,41,42,43,44,45,46,47,48,50,51,52,53,54,55,56,57,58,59,62,64,68,69,70,73,74,75,76,77,78,80,81,82,83,84,85,86,87,88,89,90,91,92,93,94,95,96,97,98,99,100,101,103,104,105,107,108,109,110,111,112,113,114,115,116,117,118,119,120,121,122,123,124,126,127,128,129,130,131,132,133,134,135,136,137,138,139,140,141,142,143,144,145,146,147,148,150,151,152,153,155,156,157,158,159,160,161,162,163,164,165,166,167,168,169,170,171,172,173,174,175,177,178,182,185,186,187,188,189,190,191,192,193,194,195,196,197,198,199,200,201,203,204,205,206,207,208,209,210,211,212,213,214,215,216,217,218,219,220,222,223,224,225,226,227,228,229,231,232,233,236,238,241,242,243,244,245,246,249,250,251,252,253,254,258,260,263,268,271,273,278,279,286,287,307,308,309,310,311,312,313,314]
def dOl:List (Nat×List Nat):=[(235,[0]),(102,[2])]
noncomputable def sX:lB:=tW prog dSp bBl dVl dOl
end Go.Proofs.YtoaibmbldmckaaaGreat
end
section
namespace Go.Proofs.YtoaibmbldmckaaaGreat
open Go.RowKit Go.AM Tryz
def aRl:iI:=[
 (3,[]),
 (4,[(4,[(0,[]),(2,[]),(1,[2]),(3,[]),(4,[]),(5,[]),(6,[]),(7,[]),(8,[]),(9,[]),(10,[]),(11,[]),(12,[]),(13,[])])]),
 (5,[(10,[(0,[]),(1,[]),(2,[1]),(3,[])])]),
 (6,[(8,[(0,[]),(2,[]),(1,[2]),(3,[]),(4,[]),(5,[]),(6,[]),(7,[]),(8,[]),(9,[]),(10,[]),(11,[]),(12,[]),(13,[]),(14,[]),(15,[])])]),
 (7,[]),
 (8,[(7,[(1,[]),(2,[]),(3,[]),(4,[]),(6,[]),(7,[]),(8,[]),(9,[]),(10,[]),(0,[]),(5,[7]),(11,[]),(12,[])]),(15,[(0,[]),(1,[0]),(2,[0]),(3,[]),(4,[]),(5,[]),(6,[]),(7,[]),(8,[])])]),
 (9,[]),
 (10,[]),
 (11,[]),
 (12,[]),
 (13,[(2,[(0,[]),(2,[]),(1,[2]),(3,[]),(4,[]),(5,[]),(6,[]),(7,[]),(8,[]),(9,[]),(10,[]),(11,[]),(12,[]),(13,[]),(14,[])])]),
 (14,[]),
 (15,[(5,[(0,[]),(1,[]),(2,[0]),(3,[]),(4,[]),(5,[]),(6,[]),(7,[]),(8,[]),(9,[])]),(6,[(0,[]),(1,[]),(2,[0]),(3,[]),(4,[]),(5,[]),(6,[]),(7,[]),(8,[]),(9,[])])]),
 (16,[(3,[(0,[]),(2,[]),(1,[2]),(3,[]),(4,[]),(5,[])]),(4,[(0,[]),(1,[]),(2,[]),(3,[]),(4,[]),(5,[]),(6,[]),(7,[]),(8,[]),(9,[]),(10,[]),(12,[]),(13,[]),(11,[13,12]),(14,[]),(15,[]),(16,[]),(17,[]),(18,[]),(19,[]),(20,[])])]),
 (17,[(32,[(0,[]),(1,[]),(2,[]),(3,[]),(4,[]),(5,[]),(6,[]),(7,[]),(8,[]),(9,[]),(10,[]),(11,[]),(12,[]),(13,[]),(14,[]),(15,[]),(16,[]),(17,[]),(18,[]),(19,[]),(20,[]),(21,[]),(22,[]),(23,[]),(24,[]),(25,[]),(26,[]),(27,[]),(28,[25,23]),(29,[]),(30,[]),(31,[25,23]),(32,[]),(33,[]),(34,[25]),(35,[]),(36,[]),(37,[])])]),
 (18,[])]
theorem aP5:gR prog aRl=true:=by kernel_rfl
def aRm:iI:=[
 (19,[]),
 (20,[]),
 (21,[]),
 (22,[]),
 (23,[]),
 (24,[]),
 (26,[]),
 (27,[]),
 (28,[]),
 (29,[(7,[(0,[]),(1,[]),(2,[]),(3,[]),(4,[]),(5,[]),(6,[]),(8,[]),(9,[]),(10,[]),(11,[]),(12,[]),(13,[]),(15,[]),(16,[]),(17,[]),(18,[]),(19,[]),(20,[]),(7,[20,16,13,9]),(14,[20,16]),(21,[]),(22,[])]),(12,[(0,[]),(1,[]),(2,[]),(3,[]),(4,[]),(5,[]),(6,[]),(8,[]),(9,[]),(10,[]),(11,[]),(12,[]),(13,[]),(15,[]),(16,[]),(17,[]),(18,[]),(19,[]),(20,[]),(7,[20,16,13,9]),(14,[20,16]),(21,[]),(22,[])]),(18,[(0,[]),(1,[]),(2,[]),(3,[]),(5,[]),(6,[]),(4,[6]),(7,[]),(8,[])]),(19,[(0,[]),(1,[]),(2,[]),(3,[]),(5,[]),(6,[]),(7,[]),(4,[7]),(8,[]),(9,[])]),(25,[(0,[]),(1,[]),(2,[]),(4,[]),(5,[]),(7,[]),(8,[]),(3,[8,5]),(6,[8]),(9,[]),(10,[])]),(30,[(0,[]),(1,[]),(2,[]),(3,[]),(4,[]),(5,[]),(6,[]),(8,[]),(9,[]),(10,[]),(11,[]),(12,[]),(13,[]),(15,[]),(16,[]),(17,[]),(18,[]),(19,[]),(20,[]),(7,[20,16,13,9]),(14,[20,16]),(21,[]),(22,[])])]),
 (30,[]),
 (31,[]),
 (32,[]),
 (33,[(3,[(0,[]),(1,[0]),(2,[]),(3,[])]),(5,[(0,[]),(1,[0]),(2,[]),(3,[])]),(10,[(0,[]),(1,[]),(2,[0]),(3,[]),(4,[])]),(12,[(0,[]),(1,[]),(2,[1]),(3,[])]),(17,[(0,[]),(1,[]),(2,[1]),(3,[])])]),
 (34,[(9,[(1,[]),(2,[]),(4,[]),(5,[]),(6,[]),(0,[]),(3,[5]),(7,[]),(8,[]),(9,[]),(10,[])]),(11,[(0,[]),(1,[]),(2,[]),(3,[]),(4,[]),(5,[2]),(6,[])]),(16,[(0,[]),(1,[]),(2,[1]),(3,[])]),(21,[(0,[]),(1,[]),(2,[1]),(3,[])])]),
 (35,[])]
theorem aP6:gR prog aRm=true:=by kernel_rfl
def aRn:iI:=[
 (36,[]),
 (37,[]),
 (38,[]),
 (39,[]),
 (40,[]),
 (41,[(10,[(0,[]),(1,[]),(3,[]),(2,[3]),(4,[]),(5,[]),(6,[]),(7,[]),(8,[]),(10,[]),(9,[10]),(11,[]),(12,[]),(13,[])]),(19,[(1,[]),(2,[]),(3,[]),(5,[]),(6,[]),(7,[]),(8,[]),(9,[]),(12,[]),(13,[]),(14,[]),(0,[]),(4,[8,6]),(10,[]),(11,[]),(15,[]),(16,[])])]),
 (42,[]),
 (43,[]),
 (44,[(3,[(0,[]),(1,[0]),(2,[0]),(3,[]),(4,[]),(5,[]),(6,[]),(7,[]),(8,[])]),(4,[(0,[]),(1,[0]),(2,[0]),(3,[]),(4,[]),(5,[]),(6,[]),(7,[]),(8,[])])]),
 (45,[]),
 (46,[]),
 (47,[]),
 (48,[]),
 (50,[]),
 (51,[]),
 (52,[])]
theorem aP7:gR prog aRn=true:=by kernel_rfl
def aRo:iI:=[
 (53,[]),
 (54,[(7,[(0,[]),(1,[]),(3,[]),(4,[]),(6,[]),(2,[4]),(5,[]),(7,[]),(8,[]),(9,[]),(10,[])])]),
 (55,[]),
 (56,[]),
 (57,[]),
 (58,[]),
 (59,[]),
 (60,[]),
 (61,[]),
 (62,[]),
 (63,[]),
 (64,[]),
 (65,[]),
 (66,[]),
 (67,[]),
 (68,[])]
theorem aP8:gR prog aRo=true:=by kernel_rfl
def aRp:iI:=[
 (69,[]),
 (70,[]),
 (71,[]),
 (72,[]),
 (73,[]),
 (74,[]),
 (75,[]),
 (76,[]),
 (77,[]),
 (78,[]),
 (79,[]),
 (80,[]),
 (81,[]),
 (82,[]),
 (83,[]),
 (84,[])]
theorem aP9:gR prog aRp=true:=by kernel_rfl
def aRq:iI:=[
 (85,[]),
 (86,[]),
 (87,[]),
 (88,[]),
 (89,[]),
 (90,[]),
 (91,[]),
 (92,[]),
 (93,[]),
 (94,[]),
 (95,[]),
 (96,[]),
 (97,[]),
 (98,[(1,[(0,[]),(1,[]),(2,[]),(4,[]),(5,[]),(7,[]),(8,[]),(3,[8,5]),(6,[8]),(9,[]),(10,[])])]),
 (99,[]),
 (100,[])]
theorem aPa:gR prog aRq=true:=by kernel_rfl
def aRr:iI:=[
 (101,[(1,[(0,[]),(1,[]),(2,[]),(4,[]),(5,[]),(7,[]),(8,[]),(3,[8,5]),(6,[8]),(9,[]),(10,[])])]),
 (102,[(9,[(0,[]),(1,[]),(2,[]),(3,[]),(4,[]),(5,[]),(6,[]),(7,[]),(8,[]),(9,[]),(10,[1]),(11,[]),(12,[]),(13,[]),(14,[])])]),
 (103,[]),
 (104,[(2,[(0,[]),(1,[0]),(2,[]),(3,[])]),(5,[(0,[]),(1,[]),(2,[0]),(3,[]),(4,[])]),(9,[(0,[]),(1,[]),(2,[1]),(3,[])])]),
 (105,[]),
 (106,[]),
 (107,[(8,[(0,[]),(1,[]),(2,[]),(3,[]),(4,[]),(5,[]),(6,[]),(7,[]),(8,[5]),(9,[]),(10,[]),(11,[])])]),
 (108,[(5,[(0,[]),(1,[]),(2,[]),(3,[]),(4,[]),(5,[3]),(6,[]),(7,[])]),(12,[(0,[]),(1,[]),(2,[]),(3,[]),(4,[]),(5,[3]),(6,[]),(7,[])]),(15,[(0,[]),(1,[]),(2,[]),(3,[]),(4,[]),(5,[]),(6,[]),(7,[5,3]),(8,[]),(9,[5]),(10,[]),(11,[])])]),
 (109,[]),
 (110,[(33,[(1,[]),(2,[]),(3,[]),(4,[]),(6,[]),(7,[]),(8,[]),(9,[]),(10,[]),(0,[]),(5,[7]),(11,[]),(12,[]),(13,[])]),(44,[(0,[]),(1,[]),(2,[1]),(3,[])])]),
 (111,[(4,[(0,[]),(1,[]),(2,[]),(3,[]),(4,[]),(5,[]),(6,[]),(7,[]),(8,[5]),(9,[]),(10,[]),(11,[])])]),
 (112,[]),
 (113,[]),
 (114,[]),
 (115,[]),
 (116,[])]
theorem aPb:gR prog aRr=true:=by kernel_rfl
def aRs:iI:=[
 (117,[]),
 (118,[(1,[(0,[]),(1,[]),(2,[]),(3,[]),(4,[]),(5,[]),(6,[]),(7,[]),(8,[]),(9,[]),(10,[]),(11,[]),(12,[]),(13,[]),(14,[]),(15,[]),(16,[]),(17,[]),(18,[]),(19,[]),(20,[15]),(21,[]),(22,[]),(23,[])])]),
 (119,[]),
 (120,[(19,[(0,[]),(1,[]),(2,[]),(3,[]),(4,[]),(5,[]),(6,[]),(7,[]),(8,[]),(9,[]),(10,[]),(11,[]),(12,[]),(13,[]),(15,[]),(16,[]),(17,[]),(18,[]),(19,[]),(14,[19]),(20,[]),(21,[]),(22,[]),(23,[]),(24,[]),(25,[]),(26,[]),(27,[]),(28,[]),(29,[]),(30,[]),(31,[]),(32,[]),(33,[]),(34,[]),(35,[]),(36,[]),(37,[]),(38,[]),(39,[]),(40,[]),(41,[]),(42,[]),(43,[]),(44,[]),(45,[]),(46,[]),(47,[]),(48,[])])]),
 (121,[]),
 (122,[(11,[(1,[]),(2,[]),(3,[]),(5,[]),(6,[]),(7,[]),(8,[]),(9,[]),(10,[]),(13,[]),(14,[]),(15,[]),(0,[]),(4,[9]),(11,[]),(12,[]),(16,[]),(17,[])])]),
 (123,[(1,[(0,[]),(1,[]),(2,[]),(3,[]),(4,[]),(5,[]),(6,[]),(7,[]),(8,[]),(9,[]),(10,[]),(11,[]),(12,[]),(13,[]),(14,[]),(15,[]),(16,[]),(17,[]),(18,[]),(19,[]),(20,[]),(21,[]),(22,[]),(23,[]),(24,[]),(25,[]),(26,[]),(27,[]),(28,[]),(29,[]),(30,[25]),(31,[]),(32,[]),(33,[])])]),
 (124,[(1,[(0,[]),(1,[]),(2,[]),(3,[]),(4,[]),(5,[]),(6,[]),(7,[]),(9,[]),(8,[9]),(10,[]),(11,[]),(12,[]),(13,[])])]),
 (125,[]),
 (126,[]),
 (127,[]),
 (128,[]),
 (129,[]),
 (130,[]),
 (131,[]),
 (132,[])]
theorem aPc:gR prog aRs=true:=by kernel_rfl
def aRt:iI:=[
 (133,[]),
 (134,[]),
 (135,[]),
 (136,[]),
 (137,[]),
 (138,[]),
 (139,[]),
 (140,[]),
 (141,[]),
 (142,[(5,[(0,[]),(1,[]),(2,[]),(3,[]),(4,[]),(5,[3]),(6,[]),(7,[])]),(14,[(0,[]),(1,[]),(2,[]),(3,[]),(4,[]),(5,[]),(6,[]),(7,[]),(8,[]),(10,[]),(9,[5,2]),(11,[5]),(12,[]),(13,[]),(14,[]),(15,[])]),(17,[(0,[]),(1,[]),(2,[]),(3,[]),(4,[]),(5,[]),(6,[]),(7,[5,3]),(8,[]),(9,[5]),(10,[]),(11,[])]),(24,[(0,[]),(1,[]),(2,[]),(3,[]),(4,[2]),(5,[])])]),
 (143,[(5,[(0,[]),(1,[]),(2,[]),(3,[]),(4,[]),(5,[4]),(6,[])])]),
 (144,[]),
 (145,[]),
 (146,[]),
 (147,[]),
 (148,[])]
theorem aPd:gR prog aRt=true:=by kernel_rfl
def aRu:iI:=[
 (149,[]),
 (150,[]),
 (151,[]),
 (152,[]),
 (153,[]),
 (154,[(10,[(0,[]),(1,[]),(2,[]),(3,[]),(4,[]),(7,[]),(8,[]),(9,[]),(10,[]),(11,[]),(5,[]),(6,[11]),(12,[]),(13,[]),(14,[]),(15,[])])]),
 (155,[]),
 (156,[]),
 (157,[]),
 (158,[]),
 (159,[]),
 (160,[]),
 (161,[(5,[(0,[]),(1,[]),(2,[]),(3,[]),(4,[]),(5,[]),(8,[]),(9,[]),(10,[]),(11,[]),(12,[]),(13,[]),(6,[]),(7,[13]),(14,[]),(15,[]),(16,[]),(17,[])])]),
 (162,[]),
 (163,[]),
 (164,[])]
theorem aPe:gR prog aRu=true:=by kernel_rfl
def aMa:iI:=[
 (165,[]),
 (166,[]),
 (167,[]),
 (168,[]),
 (169,[]),
 (170,[]),
 (171,[]),
 (172,[]),
 (173,[]),
 (174,[]),
 (175,[]),
 (176,[]),
 (177,[]),
 (178,[(17,[(0,[]),(2,[]),(3,[]),(1,[3]),(4,[]),(5,[]),(6,[]),(7,[])])]),
 (179,[]),
 (180,[])]
theorem aKc:gR prog aMa=true:=by kernel_rfl
def aMb:iI:=[
 (181,[]),
 (182,[]),
 (183,[]),
 (184,[]),
 (185,[]),
 (186,[(14,[(1,[]),(2,[]),(3,[]),(5,[]),(6,[]),(7,[]),(10,[]),(11,[]),(12,[]),(0,[]),(4,[]),(8,[]),(9,[]),(13,[]),(14,[]),(15,[])])]),
 (187,[]),
 (188,[]),
 (189,[(13,[(1,[]),(2,[]),(3,[]),(5,[]),(8,[]),(9,[]),(10,[]),(0,[]),(4,[5]),(6,[]),(7,[]),(11,[]),(12,[]),(13,[])])]),
 (190,[(30,[(1,[]),(2,[]),(3,[]),(4,[]),(6,[]),(7,[]),(8,[]),(9,[]),(12,[]),(13,[]),(14,[]),(15,[]),(0,[]),(5,[13,7]),(10,[]),(11,[13]),(16,[]),(17,[]),(18,[])]),(31,[(0,[]),(1,[]),(2,[]),(3,[]),(4,[]),(5,[]),(6,[]),(7,[]),(8,[]),(9,[]),(10,[1]),(11,[]),(12,[]),(13,[]),(14,[]),(15,[]),(16,[]),(17,[])])]),
 (191,[(13,[(1,[]),(2,[]),(4,[]),(5,[]),(6,[]),(7,[]),(8,[]),(9,[]),(10,[]),(11,[]),(12,[]),(13,[]),(0,[]),(3,[12,10,9,5]),(14,[]),(15,[]),(16,[]),(17,[])]),(14,[(0,[]),(1,[]),(2,[]),(3,[]),(4,[]),(5,[3]),(6,[])])]),
 (192,[(12,[(0,[]),(1,[]),(2,[]),(3,[]),(4,[]),(5,[]),(6,[]),(8,[]),(9,[]),(7,[9]),(10,[]),(11,[]),(12,[])]),(22,[(0,[]),(1,[]),(2,[1]),(3,[])])]),
 (193,[]),
 (194,[(3,[(0,[]),(1,[]),(3,[]),(4,[]),(2,[4]),(5,[]),(6,[]),(7,[])])]),
 (195,[]),
 (196,[])]
theorem aKd:gR prog aMb=true:=by kernel_rfl
def aMc:iI:=[
 (197,[]),
 (198,[]),
 (199,[]),
 (200,[]),
 (201,[]),
 (203,[]),
 (204,[]),
 (205,[]),
 (206,[]),
 (207,[(4,[(0,[]),(1,[]),(3,[]),(4,[]),(6,[]),(2,[4]),(5,[]),(7,[]),(8,[]),(9,[]),(10,[])])]),
 (208,[(9,[(0,[]),(1,[]),(2,[]),(3,[]),(4,[]),(5,[]),(6,[3,1]),(7,[]),(8,[]),(9,[]),(10,[])])]),
 (209,[]),
 (210,[]),
 (211,[]),
 (212,[]),
 (213,[])]
theorem aKe:gR prog aMc=true:=by kernel_rfl
def aMd:iI:=[
 (214,[]),
 (215,[(6,[(0,[]),(1,[]),(2,[]),(3,[]),(4,[]),(5,[4]),(6,[])])]),
 (216,[]),
 (217,[]),
 (218,[]),
 (219,[]),
 (220,[]),
 (222,[]),
 (223,[(7,[(0,[]),(1,[]),(2,[]),(3,[]),(4,[1]),(5,[]),(6,[]),(7,[])])]),
 (224,[]),
 (225,[]),
 (226,[(5,[(0,[]),(1,[]),(2,[]),(5,[]),(6,[]),(7,[]),(3,[]),(4,[7]),(8,[]),(9,[]),(10,[]),(11,[])])]),
 (227,[]),
 (228,[]),
 (229,[]),
 (231,[])]
theorem aKf:gR prog aMd=true:=by kernel_rfl
def aMe:iI:=[
 (232,[]),
 (233,[]),
 (235,[]),
 (236,[]),
 (238,[]),
 (239,[]),
 (241,[]),
 (242,[(7,[(0,[]),(1,[]),(2,[]),(3,[]),(4,[]),(5,[]),(6,[]),(7,[]),(8,[]),(9,[]),(10,[]),(11,[]),(12,[]),(14,[]),(13,[14]),(15,[]),(16,[]),(17,[])])]),
 (243,[]),
 (244,[]),
 (245,[]),
 (246,[]),
 (249,[(7,[(0,[]),(1,[]),(2,[]),(4,[]),(5,[]),(3,[5]),(6,[]),(7,[])]),(16,[(0,[]),(1,[]),(2,[]),(3,[]),(5,[]),(6,[]),(7,[]),(9,[]),(10,[]),(11,[]),(4,[11,7]),(8,[11]),(12,[]),(13,[])]),(20,[(0,[]),(1,[]),(2,[]),(4,[]),(5,[]),(7,[]),(8,[]),(9,[]),(3,[9,8,5]),(6,[9,8]),(10,[]),(11,[])]),(27,[(0,[]),(1,[]),(2,[]),(4,[]),(5,[]),(7,[]),(8,[]),(10,[]),(11,[]),(3,[11,8,5]),(6,[11,8]),(9,[11]),(12,[]),(13,[])]),(31,[(0,[]),(1,[]),(2,[]),(4,[]),(5,[]),(7,[]),(8,[]),(9,[]),(11,[]),(12,[]),(13,[]),(3,[13,9,5]),(6,[13,9]),(10,[13]),(14,[]),(15,[])])]),
 (250,[]),
 (251,[]),
 (252,[])]
theorem aKg:gR prog aMe=true:=by kernel_rfl
def aMf:iI:=[
 (253,[]),
 (254,[]),
 (258,[]),
 (259,[]),
 (260,[]),
 (263,[]),
 (268,[]),
 (269,[]),
 (270,[]),
 (271,[]),
 (273,[]),
 (278,[]),
 (279,[]),
 (286,[]),
 (287,[]),
 (307,[])]
theorem aKh:gR prog aMf=true:=by kernel_rfl
def aMg:iI:=[
 (308,[]),
 (309,[]),
 (310,[]),
 (311,[]),
 (312,[]),
 (313,[]),
 (314,[])]
theorem aKi:gR prog aMg=true:=by kernel_rfl
end Go.Proofs.YtoaibmbldmckaaaGreat
end
section
namespace Go.Proofs.YtoaibmbldmckaaaGreat
open Go.AM Tryz
section
noncomputable abbrev C:aM:=W prog sX
abbrev Fv (f:Nat) (args:List V) (v:V):Prop:=Go.AM.Fn prog sX f args v
abbrev Fr (f:Nat) (mk:Nat→List V) (n:Nat) (pre:List V) (v:V) (post:List V):Prop:=Go.AM.FnR prog sX f mk 0 n [pre] v [post]
theorem A2 {p q:Prop} (a:p) (b:q):p∧q:=⟨a,b⟩
abbrev TP:=List (Nat×List bJ)
abbrev TL:=List (Nat×List Nat)
abbrev VA (f:Nat) (fn:Func) (tp:TP) (tl:TL):Prop:=∀ {args:List V} {v:V},cloVs args=true→(aD3 prog C fn tp tl args ⟨0,.nil⟩ fun v0 S0=>iA S0 v0=.ok v)→Fv f args v
abbrev VB (f:Nat) (fn:Func) (tp:TP) (tl:TL):Prop:=∀ {args:List V} {S:St} {K:KW},aD3 prog C fn tp tl args S K→C f args S K
abbrev VC (f:Nat) (fn:Func) (tp:TP) (tl:TL) (w:List Nat):Prop:=∀ {args:List V} {S:St} {K:KW},cloVs args=true→(aD3 prog C fn tp tl args ⟨0,.nil⟩ fun v0 S0=>wR (hl (sV w v0 S0 S)) fun r=>K r.1 r.2)→C f args S K
abbrev VT (f:Nat) (fn:Func) (tp:TP) (tl:TL):Prop:=∀ (args:List V) (S:St) (K:KW),dJ prog C (eX tp) (iN tl) f args S K=aD3 prog C fn tp tl args S K
section
variable {f:Nat} {fn:Func} {tp:TP} {tl:TL}
theorem va (hp:sX f=some (.val (eX tp))) (hb:aAj prog f=some (aEx fn)):VA f fn tp tl:=fun hc h=>bD4 hp hb hc h
theorem vb (hp:sX f=some (.code (eX tp))) (hb:aAj prog f=some (aEx fn)):VB f fn tp tl:=fun h=>bBk hp hb h
theorem vt (hb:aAj prog f=some (aEx fn)):VT f fn tp tl:=fun args S K=>by unfold dJ;rw [hb];rfl
theorem vc {w:List Nat} (hp:sX f=some (.own (eX tp) w)) (hb:aAj prog f=some (aEx fn)):VC f fn tp tl w:=fun hc h=>bD1 (p:=eX tp) (lv:=iN tl) hp hc (by rw [vt (tp:=tp) (tl:=tl) hb];exact h)
end
theorem v7:VA 7 Tryz.f7 [] [(10,[8,16])]:=va (by kernel_rfl) (by kernel_rfl)
theorem v22:VA 22 Tryz.f22 [] []:=va (by kernel_rfl) (by kernel_rfl)
theorem v24:VA 24 Tryz.f24 [] []:=va (by kernel_rfl) (by kernel_rfl)
theorem bJh:sX 24=some (.val (eX [])):=by kernel_rfl
theorem v26:VA 26 Tryz.f26 [] [(7,[4])]:=va (by kernel_rfl) (by kernel_rfl)
theorem v31:VA 31 Tryz.f31 [] []:=va (by kernel_rfl) (by kernel_rfl)
theorem v35:VA 35 Tryz.f35 [] [(4,[6,14])]:=va (by kernel_rfl) (by kernel_rfl)
theorem bJi:sX 35=some (.val (eX [])):=by kernel_rfl
theorem v40:VA 40 Tryz.f40 [] [(11,[6,7,8,46]),(7,[6,7,8,28])]:=va (by kernel_rfl) (by kernel_rfl)
theorem v42:VA 42 Tryz.f42 [] [(3,[2,9])]:=va (by kernel_rfl) (by kernel_rfl)
theorem bJj:sX 42=some (.val (eX [])):=by kernel_rfl
theorem v43:VA 43 Tryz.f43 [] [(6,[4,5]),(2,[2,3])]:=va (by kernel_rfl) (by kernel_rfl)
theorem v44:VA 44 Tryz.f44 [(3,[(0,[]),(1,[0]),(2,[0]),(3,[]),(4,[]),(5,[]),(6,[]),(7,[]),(8,[])]),(4,[(0,[]),(1,[0]),(2,[0]),(3,[]),(4,[]),(5,[]),(6,[]),(7,[]),(8,[])])] []:=va (by kernel_rfl) (by kernel_rfl)
theorem v46:VA 46 Tryz.f46 [] []:=va (by kernel_rfl) (by kernel_rfl)
theorem v80:VA 80 Tryz.f80 [] [(4,[4,5])]:=va (by kernel_rfl) (by kernel_rfl)
theorem v81:VA 81 Tryz.f81 [] [(4,[4,5])]:=va (by kernel_rfl) (by kernel_rfl)
theorem v82:VA 82 Tryz.f82 [] [(4,[4,5])]:=va (by kernel_rfl) (by kernel_rfl)
theorem v83:VA 83 Tryz.f83 [] [(4,[4,5])]:=va (by kernel_rfl) (by kernel_rfl)
theorem v84:VA 84 Tryz.f84 [] [(4,[4,5])]:=va (by kernel_rfl) (by kernel_rfl)
theorem v85:VA 85 Tryz.f85 [] [(4,[2,10])]:=va (by kernel_rfl) (by kernel_rfl)
theorem v86:VA 86 Tryz.f86 [] [(4,[2,10])]:=va (by kernel_rfl) (by kernel_rfl)
theorem v87:VA 87 Tryz.f87 [] []:=va (by kernel_rfl) (by kernel_rfl)
theorem v88:VA 88 Tryz.f88 [] [(16,[2,58]),(5,[2,14])]:=va (by kernel_rfl) (by kernel_rfl)
theorem v89:VA 89 Tryz.f89 [] [(13,[2,38]),(3,[2,12])]:=va (by kernel_rfl) (by kernel_rfl)
theorem v90:VA 90 Tryz.f90 [] [(3,[2,3,4,11])]:=va (by kernel_rfl) (by kernel_rfl)
theorem v91:VA 91 Tryz.f91 [] [(4,[4,13])]:=va (by kernel_rfl) (by kernel_rfl)
theorem bJk:VC 102 Tryz.f102 [(9,[(0,[]),(1,[]),(2,[]),(3,[]),(4,[]),(5,[]),(6,[]),(7,[]),(8,[]),(9,[]),(10,[1]),(11,[]),(12,[]),(13,[]),(14,[])])] [(7,[27])] [2]:=vc (by kernel_rfl) (by kernel_rfl)
theorem bJl:VA 103 Tryz.f103 [] []:=va (by kernel_rfl) (by kernel_rfl)
theorem bJm:VA 104 Tryz.f104 [(2,[(0,[]),(1,[0]),(2,[]),(3,[])]),(5,[(0,[]),(1,[]),(2,[0]),(3,[]),(4,[])]),(9,[(0,[]),(1,[]),(2,[1]),(3,[])])] []:=va (by kernel_rfl) (by kernel_rfl)
theorem bD5:sX 104=some (.val (eX [(2,[(0,[]),(1,[0]),(2,[]),(3,[])]),(5,[(0,[]),(1,[]),(2,[0]),(3,[]),(4,[])]),(9,[(0,[]),(1,[]),(2,[1]),(3,[])])])):=by kernel_rfl
theorem bJn:VA 105 Tryz.f105 [] []:=va (by kernel_rfl) (by kernel_rfl)
theorem bJo:VB 106 Tryz.f106 [] []:=vb (by kernel_rfl) (by kernel_rfl)
theorem bJp:VA 107 Tryz.f107 [(8,[(0,[]),(1,[]),(2,[]),(3,[]),(4,[]),(5,[]),(6,[]),(7,[]),(8,[5]),(9,[]),(10,[]),(11,[])])] []:=va (by kernel_rfl) (by kernel_rfl)
theorem bJq:VA 114 Tryz.f114 [] [(4,[2,3])]:=va (by kernel_rfl) (by kernel_rfl)
theorem bJr:VA 115 Tryz.f115 [] [(4,[2,3])]:=va (by kernel_rfl) (by kernel_rfl)
theorem bJs:VA 116 Tryz.f116 [] [(4,[2,3])]:=va (by kernel_rfl) (by kernel_rfl)
theorem bJt:VA 117 Tryz.f117 [] [(2,[4,5])]:=va (by kernel_rfl) (by kernel_rfl)
theorem bJu:VA 118 Tryz.f118 [(1,[(0,[]),(1,[]),(2,[]),(3,[]),(4,[]),(5,[]),(6,[]),(7,[]),(8,[]),(9,[]),(10,[]),(11,[]),(12,[]),(13,[]),(14,[]),(15,[]),(16,[]),(17,[]),(18,[]),(19,[]),(20,[15]),(21,[]),(22,[]),(23,[])])] []:=va (by kernel_rfl) (by kernel_rfl)
theorem bJv:VA 120 Tryz.f120 [(19,[(0,[]),(1,[]),(2,[]),(3,[]),(4,[]),(5,[]),(6,[]),(7,[]),(8,[]),(9,[]),(10,[]),(11,[]),(12,[]),(13,[]),(15,[]),(16,[]),(17,[]),(18,[]),(19,[]),(14,[19]),(20,[]),(21,[]),(22,[]),(23,[]),(24,[]),(25,[]),(26,[]),(27,[]),(28,[]),(29,[]),(30,[]),(31,[]),(32,[]),(33,[]),(34,[]),(35,[]),(36,[]),(37,[]),(38,[]),(39,[]),(40,[]),(41,[]),(42,[]),(43,[]),(44,[]),(45,[]),(46,[]),(47,[]),(48,[])])] [(22,[4,11]),(15,[4,8]),(4,[6,7])]:=va (by kernel_rfl) (by kernel_rfl)
theorem bJw:VA 121 Tryz.f121 [] [(3,[2,3,4,5])]:=va (by kernel_rfl) (by kernel_rfl)
theorem bJx:VA 123 Tryz.f123 [(1,[(0,[]),(1,[]),(2,[]),(3,[]),(4,[]),(5,[]),(6,[]),(7,[]),(8,[]),(9,[]),(10,[]),(11,[]),(12,[]),(13,[]),(14,[]),(15,[]),(16,[]),(17,[]),(18,[]),(19,[]),(20,[]),(21,[]),(22,[]),(23,[]),(24,[]),(25,[]),(26,[]),(27,[]),(28,[]),(29,[]),(30,[25]),(31,[]),(32,[]),(33,[])])] []:=va (by kernel_rfl) (by kernel_rfl)
theorem bJy:VA 124 Tryz.f124 [(1,[(0,[]),(1,[]),(2,[]),(3,[]),(4,[]),(5,[]),(6,[]),(7,[]),(9,[]),(8,[9]),(10,[]),(11,[]),(12,[]),(13,[])])] []:=va (by kernel_rfl) (by kernel_rfl)
theorem bJz:VA 126 Tryz.f126 [] [(6,[4,5])]:=va (by kernel_rfl) (by kernel_rfl)
theorem bK0:VA 127 Tryz.f127 [] []:=va (by kernel_rfl) (by kernel_rfl)
theorem bK1:VA 128 Tryz.f128 [] []:=va (by kernel_rfl) (by kernel_rfl)
theorem bK2:VA 129 Tryz.f129 [] []:=va (by kernel_rfl) (by kernel_rfl)
theorem bK3:VA 130 Tryz.f130 [] [(4,[4,5])]:=va (by kernel_rfl) (by kernel_rfl)
theorem bD6:sX 130=some (.val (eX [])):=by kernel_rfl
theorem bK4:VA 131 Tryz.f131 [] []:=va (by kernel_rfl) (by kernel_rfl)
theorem bK5:VA 132 Tryz.f132 [] []:=va (by kernel_rfl) (by kernel_rfl)
theorem bD7:sX 152=some (.val (eX [])):=by kernel_rfl
theorem bK6:VT 152 Tryz.f152 [] [(2,[4,8])]:=vt (by kernel_rfl)
theorem bD8:sX 155=some (.val (eX [])):=by kernel_rfl
theorem bK7:VT 155 Tryz.f155 [] [(2,[4,8])]:=vt (by kernel_rfl)
theorem bK8:VA 157 Tryz.f157 [] [(3,[2,3,4,18])]:=va (by kernel_rfl) (by kernel_rfl)
theorem bK9:VA 160 Tryz.f160 [] []:=va (by kernel_rfl) (by kernel_rfl)
theorem bKa:VA 161 Tryz.f161 [(5,[(0,[]),(1,[]),(2,[]),(3,[]),(4,[]),(5,[]),(8,[]),(9,[]),(10,[]),(11,[]),(12,[]),(13,[]),(6,[]),(7,[13]),(14,[]),(15,[]),(16,[]),(17,[])])] [(3,[5,6,7])]:=va (by kernel_rfl) (by kernel_rfl)
theorem bKb:VA 162 Tryz.f162 [] []:=va (by kernel_rfl) (by kernel_rfl)
theorem bKc:VA 163 Tryz.f163 [] []:=va (by kernel_rfl) (by kernel_rfl)
theorem bKd:VA 164 Tryz.f164 [] []:=va (by kernel_rfl) (by kernel_rfl)
theorem bKe:VA 165 Tryz.f165 [] [(4,[2])]:=va (by kernel_rfl) (by kernel_rfl)
theorem bKf:VA 166 Tryz.f166 [] [(5,[2,3,11])]:=va (by kernel_rfl) (by kernel_rfl)
theorem bKg:VA 167 Tryz.f167 [] [(4,[2,20])]:=va (by kernel_rfl) (by kernel_rfl)
theorem bKh:VA 168 Tryz.f168 [] []:=va (by kernel_rfl) (by kernel_rfl)
theorem bD9:sX 168=some (.val (eX [])):=by kernel_rfl
theorem bKi:VA 169 Tryz.f169 [] []:=va (by kernel_rfl) (by kernel_rfl)
theorem bDa:sX 170=some (.val (eX [])):=by kernel_rfl
theorem bKj:VT 170 Tryz.f170 [] []:=vt (by kernel_rfl)
theorem bKk:VA 174 Tryz.f174 [] []:=va (by kernel_rfl) (by kernel_rfl)
theorem bDb:sX 174=some (.val (eX [])):=by kernel_rfl
theorem bKl:VB 176 Tryz.f176 [] []:=vb (by kernel_rfl) (by kernel_rfl)
theorem bKm:VA 177 Tryz.f177 [] []:=va (by kernel_rfl) (by kernel_rfl)
theorem bKn:VA 178 Tryz.f178 [(17,[(0,[]),(2,[]),(3,[]),(1,[3]),(4,[]),(5,[]),(6,[]),(7,[])])] [(8,[4,5,7,20])]:=va (by kernel_rfl) (by kernel_rfl)
theorem bKo:VB 179 Tryz.f179 [] []:=vb (by kernel_rfl) (by kernel_rfl)
theorem bKp:VB 180 Tryz.f180 [] []:=vb (by kernel_rfl) (by kernel_rfl)
theorem bKq:VB 181 Tryz.f181 [] []:=vb (by kernel_rfl) (by kernel_rfl)
theorem bKr:VA 182 Tryz.f182 [] []:=va (by kernel_rfl) (by kernel_rfl)
theorem bKs:VB 183 Tryz.f183 [] []:=vb (by kernel_rfl) (by kernel_rfl)
theorem bKt:VB 184 Tryz.f184 [] [(6,[31])]:=vb (by kernel_rfl) (by kernel_rfl)
theorem bKu:VA 193 Tryz.f193 [] []:=va (by kernel_rfl) (by kernel_rfl)
theorem bKv:VA 194 Tryz.f194 [(3,[(0,[]),(1,[]),(3,[]),(4,[]),(2,[4]),(5,[]),(6,[]),(7,[])])] []:=va (by kernel_rfl) (by kernel_rfl)
theorem bKw:VA 195 Tryz.f195 [] [(4,[2])]:=va (by kernel_rfl) (by kernel_rfl)
theorem bKx:VA 196 Tryz.f196 [] []:=va (by kernel_rfl) (by kernel_rfl)
theorem bKy:VA 197 Tryz.f197 [] [(8,[3,11])]:=va (by kernel_rfl) (by kernel_rfl)
theorem bKz:VA 198 Tryz.f198 [] []:=va (by kernel_rfl) (by kernel_rfl)
theorem bL0:VA 199 Tryz.f199 [] [(2,[2,3])]:=va (by kernel_rfl) (by kernel_rfl)
theorem bL1:VA 200 Tryz.f200 [] [(5,[3,4])]:=va (by kernel_rfl) (by kernel_rfl)
theorem bL2:VA 201 Tryz.f201 [] []:=va (by kernel_rfl) (by kernel_rfl)
theorem bL3:VA 203 Tryz.f203 [] []:=va (by kernel_rfl) (by kernel_rfl)
theorem bL4:VA 204 Tryz.f204 [] []:=va (by kernel_rfl) (by kernel_rfl)
theorem bL5:VA 217 Tryz.f217 [] []:=va (by kernel_rfl) (by kernel_rfl)
theorem bL6:VA 218 Tryz.f218 [] [(3,[4,5,12])]:=va (by kernel_rfl) (by kernel_rfl)
theorem bDc:sX 218=some (.val (eX [])):=by kernel_rfl
theorem bL7:VA 219 Tryz.f219 [] []:=va (by kernel_rfl) (by kernel_rfl)
theorem bL8:VA 220 Tryz.f220 [] [(2,[2,3])]:=va (by kernel_rfl) (by kernel_rfl)
theorem bL9:VA 222 Tryz.f222 [] []:=va (by kernel_rfl) (by kernel_rfl)
theorem bLa:VA 223 Tryz.f223 [(7,[(0,[]),(1,[]),(2,[]),(3,[]),(4,[1]),(5,[]),(6,[]),(7,[])])] [(3,[5])]:=va (by kernel_rfl) (by kernel_rfl)
theorem bDd:sX 223=some (.val (eX [(7,[(0,[]),(1,[]),(2,[]),(3,[]),(4,[1]),(5,[]),(6,[]),(7,[])])])):=by kernel_rfl
theorem bLb:VA 224 Tryz.f224 [] [(4,[4,5])]:=va (by kernel_rfl) (by kernel_rfl)
theorem bLc:VA 225 Tryz.f225 [] []:=va (by kernel_rfl) (by kernel_rfl)
theorem bLd:VA 226 Tryz.f226 [(5,[(0,[]),(1,[]),(2,[]),(5,[]),(6,[]),(7,[]),(3,[]),(4,[7]),(8,[]),(9,[]),(10,[]),(11,[])])] [(3,[3,4,16])]:=va (by kernel_rfl) (by kernel_rfl)
theorem bDe:sX 227=some (.val (eX [])):=by kernel_rfl
theorem bLe:VT 227 Tryz.f227 [] []:=vt (by kernel_rfl)
theorem bLf:VA 228 Tryz.f228 [] [(6,[3,23])]:=va (by kernel_rfl) (by kernel_rfl)
theorem bLg:VA 229 Tryz.f229 [] []:=va (by kernel_rfl) (by kernel_rfl)
theorem bDf:sX 231=some (.val (eX [])):=by kernel_rfl
theorem bLh:VT 231 Tryz.f231 [] [(2,[4,8])]:=vt (by kernel_rfl)
theorem bDg:sX 232=some (.val (eX [])):=by kernel_rfl
theorem bLi:VT 232 Tryz.f232 [] []:=vt (by kernel_rfl)
theorem bLj:VA 233 Tryz.f233 [] []:=va (by kernel_rfl) (by kernel_rfl)
theorem bLk:VC 235 Tryz.f235 [] [] [0]:=vc (by kernel_rfl) (by kernel_rfl)
theorem bLl:VA 236 Tryz.f236 [] []:=va (by kernel_rfl) (by kernel_rfl)
theorem bLm:VA 238 Tryz.f238 [] [(11,[7,8,36])]:=va (by kernel_rfl) (by kernel_rfl)
theorem bLn:VB 239 Tryz.f239 [] []:=vb (by kernel_rfl) (by kernel_rfl)
theorem bLo:VA 241 Tryz.f241 [] []:=va (by kernel_rfl) (by kernel_rfl)
theorem bLp:VA 245 Tryz.f245 [] []:=va (by kernel_rfl) (by kernel_rfl)
theorem bLq:VA 246 Tryz.f246 [] []:=va (by kernel_rfl) (by kernel_rfl)
theorem bLr:VA 254 Tryz.f254 [] []:=va (by kernel_rfl) (by kernel_rfl)
theorem bLs:VA 258 Tryz.f258 [] []:=va (by kernel_rfl) (by kernel_rfl)
theorem bDh:VB 259 Tryz.f259 [] [(2,[2,9])]:=vb (by kernel_rfl) (by kernel_rfl)
theorem bLt:VA 260 Tryz.f260 [] [(4,[4,13])]:=va (by kernel_rfl) (by kernel_rfl)
theorem bDi:sX 263=some (.val (eX [])):=by kernel_rfl
theorem bLu:VT 263 Tryz.f263 [] []:=vt (by kernel_rfl)
theorem bLv:VA 268 Tryz.f268 [] []:=va (by kernel_rfl) (by kernel_rfl)
theorem bLw:VA 271 Tryz.f271 [] []:=va (by kernel_rfl) (by kernel_rfl)
theorem bLx:VA 278 Tryz.f278 [] [(5,[8,9,22])]:=va (by kernel_rfl) (by kernel_rfl)
theorem bLy:VA 279 Tryz.f279 [] []:=va (by kernel_rfl) (by kernel_rfl)
theorem bLz:VA 286 Tryz.f286 [] []:=va (by kernel_rfl) (by kernel_rfl)
theorem bM0:VA 287 Tryz.f287 [] []:=va (by kernel_rfl) (by kernel_rfl)
theorem tx0:∀ g:Nat,2≤g→g<247→dI prog g=some none:=by
 have h:((List.range 245).all fun g=>match dI prog (g+2) with
  | some none=>true
  | _=>false)=true:=by kernel_rfl
 intro g h0 h1
 have:=List.all_eq_true.1 h (g - 2) (List.mem_range.2 (by omega))
 rw [Nat.sub_add_cancel h0] at this
 split at this
 ·assumption
 ·cases this
theorem aY2 {g:Nat} (h0:1<g) (h1:g<247) (args:List V) (S:St) (K:KW):kK prog C g args S K=C g (hl args) S K:=aAt _ _ (tx0 g h0 h1) _ _ _
theorem tx1:∀ g:Nat,248≤g→g<255→dI prog g=some none:=by
 have h:((List.range 7).all fun g=>match dI prog (g+248) with
  | some none=>true
  | _=>false)=true:=by kernel_rfl
 intro g h0 h1
 have:=List.all_eq_true.1 h (g - 248) (List.mem_range.2 (by omega))
 rw [Nat.sub_add_cancel h0] at this
 split at this
 ·assumption
 ·cases this
theorem aY3 {g:Nat} (h0:247<g) (h1:g<255) (args:List V) (S:St) (K:KW):kK prog C g args S K=C g (hl args) S K:=aAt _ _ (tx1 g h0 h1) _ _ _
theorem tx2:∀ g:Nat,257≤g→g<261→dI prog g=some none:=by
 have h:((List.range 4).all fun g=>match dI prog (g+257) with
  | some none=>true
  | _=>false)=true:=by kernel_rfl
 intro g h0 h1
 have:=List.all_eq_true.1 h (g - 257) (List.mem_range.2 (by omega))
 rw [Nat.sub_add_cancel h0] at this
 split at this
 ·assumption
 ·cases this
theorem aY4 {g:Nat} (h0:256<g) (h1:g<261) (args:List V) (S:St) (K:KW):kK prog C g args S K=C g (hl args) S K:=aAt _ _ (tx2 g h0 h1) _ _ _
theorem tx3:∀ g:Nat,267≤g→g<288→dI prog g=some none:=by
 have h:((List.range 21).all fun g=>match dI prog (g+267) with
  | some none=>true
  | _=>false)=true:=by kernel_rfl
 intro g h0 h1
 have:=List.all_eq_true.1 h (g - 267) (List.mem_range.2 (by omega))
 rw [Nat.sub_add_cancel h0] at this
 split at this
 ·assumption
 ·cases this
theorem aY5 {g:Nat} (h0:266<g) (h1:g<288) (args:List V) (S:St) (K:KW):kK prog C g args S K=C g (hl args) S K:=aAt _ _ (tx3 g h0 h1) _ _ _
theorem aIp (args:List V) (S:St) (K:KW):kK prog C 255 args S K=wR (hl (pT Tryz.f255 args)) fun v=>K v S:=by
 unfold kK
 rw [show dI prog 255=some (some Tryz.f255) by kernel_rfl]
 rfl
theorem bDj (K:V→Prop):wO (aN prog 30) K=K (.agg [.nils,.nils,.nils,.nils,.nils,.int .i64 0]):=congrArg (fun x=>wO x K) (show aN prog 30=some (.agg [.nils,.nils,.nils,.nils,.nils,.int .i64 0]) by kernel_rfl)
theorem bDk (K:V→Prop):wO (aN prog 48) K=K (.agg [.int .i64 0,.int .i64 0,.int .i64 0]):=congrArg (fun x=>wO x K) (show aN prog 48=some (.agg [.int .i64 0,.int .i64 0,.int .i64 0]) by kernel_rfl)
theorem aY6:sW prog 26=true:=by kernel_rfl
theorem bDl (K:V→Prop):wO (aN prog 52) K=K (.agg [.int .i64 0,.int .i64 0,.int .i64 0]):=congrArg (fun x=>wO x K) (show aN prog 52=some (.agg [.int .i64 0,.int .i64 0,.int .i64 0]) by kernel_rfl)
theorem aY7:sW prog 22=true:=by kernel_rfl
theorem bDm (K:V→Prop):wO (aN prog 61) K=K (.agg [.int .i64 0,.int .i64 0,.int .i64 0,.str [],.int .i64 0,.str [],.int .i64 0,.int .i64 0,.int .i64 0,.int .i64 0,.int .i64 0,.int .i64 0,.int .i64 0,.nils,.str [],.int .i64 0,.int .i64 0]):=congrArg (fun x=>wO x K) (show aN prog 61=some (.agg [.int .i64 0,.int .i64 0,.int .i64 0,.str [],.int .i64 0,.str [],.int .i64 0,.int .i64 0,.int .i64 0,.int .i64 0,.int .i64 0,.int .i64 0,.int .i64 0,.nils,.str [],.int .i64 0,.int .i64 0]) by kernel_rfl)
theorem aY8:sW prog 44=true:=by kernel_rfl
theorem aY9:sW prog 96=true:=by kernel_rfl
theorem aYa:sW prog 97=true:=by kernel_rfl
theorem bDn (K:V→Prop):wO (aN prog 99) K=K (.agg [.int .i64 0,.int .i64 0,.int .i64 0,.str [],.int .i64 0,.str [],.int .i64 0,.int .i64 0,.int .i64 0,.int .i64 0,.int .i64 0,.int .i64 0,.int .i64 0,.nils,.str [],.int .i64 0,.int .i64 0,.int .i64 0,.int .i64 0,.int .i64 0,.int .i64 0,.int .i64 0,.int .i64 0]):=congrArg (fun x=>wO x K) (show aN prog 99=some (.agg [.int .i64 0,.int .i64 0,.int .i64 0,.str [],.int .i64 0,.str [],.int .i64 0,.int .i64 0,.int .i64 0,.int .i64 0,.int .i64 0,.int .i64 0,.int .i64 0,.nils,.str [],.int .i64 0,.int .i64 0,.int .i64 0,.int .i64 0,.int .i64 0,.int .i64 0,.int .i64 0,.int .i64 0]) by kernel_rfl)
theorem bDo (K:V→Prop):wO (aN prog 54) K=K (.agg [.str [],.int .i64 0,.int .i64 0,.int .i64 0,.int .i64 0]):=congrArg (fun x=>wO x K) (show aN prog 54=some (.agg [.str [],.int .i64 0,.int .i64 0,.int .i64 0,.int .i64 0]) by kernel_rfl)
theorem aYb:sW prog 24=true:=by kernel_rfl
theorem aYc (K:V→Prop):wO (aN prog 126) K=K (.agg [.str [],.int .i64 0,.int .i64 0,.bool false]):=congrArg (fun x=>wO x K) (show aN prog 126=some (.agg [.str [],.int .i64 0,.int .i64 0,.bool false]) by kernel_rfl)
theorem aYd:sW prog 25=true:=by kernel_rfl
theorem bDp (K:V→Prop):wO (aN prog 84) K=K (.agg [.str [],.int .i64 0,.int .i64 0,.int .i64 0,.int .i64 0,.int .i64 0,.int .i64 0,.int .i64 0,.nils,.str [],.int .i64 0,.bool false]):=congrArg (fun x=>wO x K) (show aN prog 84=some (.agg [.str [],.int .i64 0,.int .i64 0,.int .i64 0,.int .i64 0,.int .i64 0,.int .i64 0,.int .i64 0,.nils,.str [],.int .i64 0,.bool false]) by kernel_rfl)
theorem aYe (K:V→Prop):wO (aN prog 145) K=K (.agg [.str [],.int .i64 0,.int .i64 0,.int .i64 0]):=congrArg (fun x=>wO x K) (show aN prog 145=some (.agg [.str [],.int .i64 0,.int .i64 0,.int .i64 0]) by kernel_rfl)
theorem aYf:sW prog 80=true:=by kernel_rfl
theorem aYg (K:V→Prop):wO (aN prog 132) K=K (.agg [.int .i64 0,.int .i64 0,.int .i64 0,.int .i64 0,.int .i64 0]):=congrArg (fun x=>wO x K) (show aN prog 132=some (.agg [.int .i64 0,.int .i64 0,.int .i64 0,.int .i64 0,.int .i64 0]) by kernel_rfl)
theorem aYh:sW prog 28=true:=by kernel_rfl
theorem aYi:sW prog 27=true:=by kernel_rfl
theorem bDq (K:V→Prop):wO (aN prog 59) K=K (.agg [.int .i64 0,.str [],.int .i64 0,.str [],.int .i64 0,.int .i64 0,.int .i64 0,.int .i64 0,.int .i64 0,.int .i64 0,.int .i64 0,.nils,.str [],.int .i64 0,.int .i64 0]):=congrArg (fun x=>wO x K) (show aN prog 59=some (.agg [.int .i64 0,.str [],.int .i64 0,.str [],.int .i64 0,.int .i64 0,.int .i64 0,.int .i64 0,.int .i64 0,.int .i64 0,.int .i64 0,.nils,.str [],.int .i64 0,.int .i64 0]) by kernel_rfl)
theorem aYj:sW prog 62=true:=by kernel_rfl
theorem aYk:sW prog 71=true:=by kernel_rfl
theorem aRv:sW prog 102=true:=by kernel_rfl
theorem aYl (K:V→Prop):wO (aN prog 212) K=K (.agg [.nili]):=congrArg (fun x=>wO x K) (show aN prog 212=some (.agg [.nili]) by kernel_rfl)
theorem aYm (K:V→Prop):wO (aN prog 220) K=K (.agg [.int .i64 0,.int .i64 0,.str []]):=congrArg (fun x=>wO x K) (show aN prog 220=some (.agg [.int .i64 0,.int .i64 0,.str []]) by kernel_rfl)
theorem aYn (K:V→Prop):wO (aN prog 232) K=K (.nilp):=congrArg (fun x=>wO x K) (show aN prog 232=some (.nilp) by kernel_rfl)
theorem aYo (K:V→Prop):wO (aN prog 246) K=K (.agg [.int .i64 0,.int .i64 0,.int .i64 0,.int .i64 0,.int .i64 0,.int .i64 0,.int .i64 0,.int .i64 0,.int .i64 0,.int .i64 0,.int .i64 0,.int .i64 0,.int .i64 0,.int .i64 0,.int .i64 0,.int .i64 0,.int .i64 0,.int .i64 0,.int .i64 0,.int .i64 0,.int .i64 0,.int .i64 0,.int .i64 0,.int .i64 0,.int .i64 0,.int .i64 0,.int .i64 0,.int .i64 0,.int .i64 0,.int .i64 0,.int .i64 0,.int .i64 0,.int .i64 0,.int .i64 0,.int .i64 0,.int .i64 0,.int .i64 0,.int .i64 0,.int .i64 0,.int .i64 0]):=congrArg (fun x=>wO x K) (show aN prog 246=some (.agg [.int .i64 0,.int .i64 0,.int .i64 0,.int .i64 0,.int .i64 0,.int .i64 0,.int .i64 0,.int .i64 0,.int .i64 0,.int .i64 0,.int .i64 0,.int .i64 0,.int .i64 0,.int .i64 0,.int .i64 0,.int .i64 0,.int .i64 0,.int .i64 0,.int .i64 0,.int .i64 0,.int .i64 0,.int .i64 0,.int .i64 0,.int .i64 0,.int .i64 0,.int .i64 0,.int .i64 0,.int .i64 0,.int .i64 0,.int .i64 0,.int .i64 0,.int .i64 0,.int .i64 0,.int .i64 0,.int .i64 0,.int .i64 0,.int .i64 0,.int .i64 0,.int .i64 0,.int .i64 0]) by kernel_rfl)
theorem aYp (K:V→Prop):wO (aN prog 249) K=K (.agg [.int .i64 0,.int .i64 0,.int .i64 0,.int .i64 0,.int .i64 0,.int .i64 0,.int .i64 0,.int .i64 0]):=congrArg (fun x=>wO x K) (show aN prog 249=some (.agg [.int .i64 0,.int .i64 0,.int .i64 0,.int .i64 0,.int .i64 0,.int .i64 0,.int .i64 0,.int .i64 0]) by kernel_rfl)
theorem bDr:sW prog 9=true:=by kernel_rfl
theorem aYq:sW prog 55=true:=by kernel_rfl
theorem bDs (K:V→Prop):wO (aN prog 82) K=K (.agg [.int .i64 0,.int .i64 0,.int .i64 0,.nils]):=congrArg (fun x=>wO x K) (show aN prog 82=some (.agg [.int .i64 0,.int .i64 0,.int .i64 0,.nils]) by kernel_rfl)
theorem aYr (K:V→Prop):wO (aN prog 293) K=K (.agg [.str [],.int .i64 0]):=congrArg (fun x=>wO x K) (show aN prog 293=some (.agg [.str [],.int .i64 0]) by kernel_rfl)
theorem aYs (K:V→Prop):wO (aN prog 295) K=K (.agg [.str []]):=congrArg (fun x=>wO x K) (show aN prog 295=some (.agg [.str []]) by kernel_rfl)
theorem aYt (K:V→Prop):wO (aN prog 297) K=K (.agg [.str [],.int .i64 0,.int .i64 0,.int .i64 0,.int .i64 0]):=congrArg (fun x=>wO x K) (show aN prog 297=some (.agg [.str [],.int .i64 0,.int .i64 0,.int .i64 0,.int .i64 0]) by kernel_rfl)
theorem aYu (K:V→Prop):wO (aN prog 301) K=K (.agg [.str [],.int .i64 0,.int .i64 0,.int .i64 0,.nils]):=congrArg (fun x=>wO x K) (show aN prog 301=some (.agg [.str [],.int .i64 0,.int .i64 0,.int .i64 0,.nils]) by kernel_rfl)
theorem aYv (K:V→Prop):wO (aN prog 304) K=K (.agg [.str [],.int .i64 0,.int .i64 0,.int .i64 0,.str [],.int .i64 0]):=congrArg (fun x=>wO x K) (show aN prog 304=some (.agg [.str [],.int .i64 0,.int .i64 0,.int .i64 0,.str [],.int .i64 0]) by kernel_rfl)
theorem aYw (K:V→Prop):wO (aN prog 306) K=K (.agg [.int .i64 0]):=congrArg (fun x=>wO x K) (show aN prog 306=some (.agg [.int .i64 0]) by kernel_rfl)
theorem aYx (K:V→Prop):wO (aN prog 307) K=K (.agg [.str []]):=congrArg (fun x=>wO x K) (show aN prog 307=some (.agg [.str []]) by kernel_rfl)
theorem bDt (K:V→Prop):wO (aN prog 90) K=K (.agg [.str [],.int .i64 0]):=congrArg (fun x=>wO x K) (show aN prog 90=some (.agg [.str [],.int .i64 0]) by kernel_rfl)
theorem rg9:aGe prog 9=true:=by kernel_rfl
theorem aYy (K:V→Prop):wO (aN prog 201) K=K (.agg [.str [],.str [],.int .i64 0,.int .i64 0]):=congrArg (fun x=>wO x K) (show aN prog 201=some (.agg [.str [],.str [],.int .i64 0,.int .i64 0]) by kernel_rfl)
theorem aYz (K:V→Prop):wO (aN prog 346) K=K (.agg [.int .i64 0,.int .u64 0]):=congrArg (fun x=>wO x K) (show aN prog 346=some (.agg [.int .i64 0,.int .u64 0]) by kernel_rfl)
theorem aW9 (f:FuncId) {a b:List V} {S T:St} (K:KW) (h:a=b) (g:S=T):C f a S K=C f b T K:=by rw [h,g]
attribute [congr] aW9
theorem cw:type_of% (A2 (aM8 prog C) <| A2 (aM5 prog C) <| A2 aM9 <| A2 aM3 <| A2 aM4 <| A2 aY1 <| A2 (aEv prog C) <| A2 (aEw prog C) <| A2 (aRk prog C) <| A2 @bD2 <| A2 @aXv <| A2 @aRa <| A2 @aXw <| A2 @aRc <| A2 @aRi <| A2 @bD3 <| A2 @aXy <| A2 @aXz <| A2 @aRe <| A2 @aY0 <| A2 @aRg <| A2 @aRh <| A2 @aM7 <| A2 @aIo <| A2 @aEu <| A2 aEy <| A2 aEs <| A2 @aXs <| A2 @aY2 <| A2 @aY3 <| A2 @aY4 <| A2 @aY5 <| A2 aIp <| A2 bDj <| A2 bDk <| A2 aY6 <| A2 bDl <| A2 aY7 <| A2 bDm <| A2 aY8 <| A2 aY9 <| A2 aYa <| A2 bDn <| A2 bDo <| A2 aYb <| A2 aYc <| A2 aYd <| A2 bDp <| A2 aYe <| A2 aYf <| A2 aYg <| A2 aYh <| A2 aYi <| A2 bDq <| A2 aYj <| A2 aYk <| A2 aRv <| A2 aYl <| A2 aYm <| A2 aYn <| A2 aYo <| A2 aYp <| A2 bDr <| A2 aYq <| A2 bDs <| A2 aYr <| A2 aYs <| A2 aYt <| A2 aYu <| A2 aYv <| A2 aYw <| A2 aYx <| A2 bDt <| A2 rg9 <| A2 aYy <| aYz):=A2 (aM8 prog C) <| A2 (aM5 prog C) <| A2 aM9 <| A2 aM3 <| A2 aM4 <| A2 aY1 <| A2 (aEv prog C) <| A2 (aEw prog C) <| A2 (aRk prog C) <| A2 @bD2 <| A2 @aXv <| A2 @aRa <| A2 @aXw <| A2 @aRc <| A2 @aRi <| A2 @bD3 <| A2 @aXy <| A2 @aXz <| A2 @aRe <| A2 @aY0 <| A2 @aRg <| A2 @aRh <| A2 @aM7 <| A2 @aIo <| A2 @aEu <| A2 aEy <| A2 aEs <| A2 @aXs <| A2 @aY2 <| A2 @aY3 <| A2 @aY4 <| A2 @aY5 <| A2 aIp <| A2 bDj <| A2 bDk <| A2 aY6 <| A2 bDl <| A2 aY7 <| A2 bDm <| A2 aY8 <| A2 aY9 <| A2 aYa <| A2 bDn <| A2 bDo <| A2 aYb <| A2 aYc <| A2 aYd <| A2 bDp <| A2 aYe <| A2 aYf <| A2 aYg <| A2 aYh <| A2 aYi <| A2 bDq <| A2 aYj <| A2 aYk <| A2 aRv <| A2 aYl <| A2 aYm <| A2 aYn <| A2 aYo <| A2 aYp <| A2 bDr <| A2 aYq <| A2 bDs <| A2 aYr <| A2 aYs <| A2 aYt <| A2 aYu <| A2 aYv <| A2 aYw <| A2 aYx <| A2 bDt <| A2 rg9 <| A2 aYy <| aYz
end
def qL (t:TypeId) (p:V) (S:St) (K:V→Prop):Prop:=wR (lT prog t p S) K
def qF (s:TypeId) (p:V) (f:Nat) (K:V→Prop):Prop:=wR (dK prog s p f) K
def qE (s:TypeId) (p:V) (f:Nat) (t:TypeId) (S:St) (K:V→Prop):Prop:=wR (dK prog s p f) fun q=>wR (lT prog t q S) K
def qX (t:TypeId) (v i:V) (K:V→Prop):Prop:=wR (cV prog t v i) K
def qS (t:TypeId) (p x:V) (S:St) (K:St→Prop):Prop:=wR (oL prog t p x S) K
def qZ (t:TypeId) (x:V) (S:St) (K:V→Prop):Prop:=wR (zF prog t x S) K
def qB (o:BinOp) (t:TypeId) (x y:V) (K:V→Prop):Prop:=wR (bX prog o t x y) K
def qG (o:BinOp) (t:TypeId) (x y:V) (K:V→Prop):Prop:=uA (cE prog t x y) (wR (bX prog o t x y) K)
def qD (t:TypeId) (l:List (Nat×V)) (K:V→Prop):Prop:=wR (oM prog t l) K
def qP (t:TypeId) (s x:V) (r:Option Nat) (S:St) (K:V×St→Prop):Prop:=wR (fT prog t s x r S) K
def qQ (t:TypeId) (n:Nat) (l:List (Nat×V)) (r:Option Nat) (S:St) (K:V×St→Prop):Prop:=wR (cO prog t n l r S) K
def qA (a:V) (S:St) (K:Nat×St→Prop):Prop:=uA (aI a.cells) (wR (aY none S (.row 0 a.cells.length [a.cells])) K)
def qN (S:St) (n:Nat) (c:List V) (K:Nat×St→Prop):Prop:=wR (aY none S (.row 0 n [c])) K
def pt (r:Nat×St):V:=.ptr r.1 0 0 0
def up (S:St) (n:Nat):St:=⟨S.next+n,S.heap⟩
def jI (n:Int):V:=.int .i64 n
theorem sf:(∀ (t:TypeId) (p:V) (S:St) (K:V→Prop),qL t p S K=(wR (lT prog t p S) K))∧(∀ (s:TypeId) (p:V) (f:Nat) (K:V→Prop),qF s p f K=(wR (dK prog s p f) K))∧(∀ (s:TypeId) (p:V) (f:Nat) (t:TypeId) (S:St) (K:V→Prop),qE s p f t S K=(wR (dK prog s p f) fun q=>wR (lT prog t q S) K))∧(∀ (t:TypeId) (v i:V) (K:V→Prop),qX t v i K=(wR (cV prog t v i) K))∧(∀ (t:TypeId) (p x:V) (S:St) (K:St→Prop),qS t p x S K=(wR (oL prog t p x S) K))∧(∀ (t:TypeId) (x:V) (S:St) (K:V→Prop),qZ t x S K=(wR (zF prog t x S) K))∧(∀ (o:BinOp) (t:TypeId) (x y:V) (K:V→Prop),qB o t x y K=(wR (bX prog o t x y) K))∧(∀ (o:BinOp) (t:TypeId) (x y:V) (K:V→Prop),qG o t x y K=(uA (cE prog t x y) (wR (bX prog o t x y) K)))∧(∀ (t:TypeId) (l:List (Nat×V)) (K:V→Prop),qD t l K=(wR (oM prog t l) K))∧(∀ (t:TypeId) (s x:V) (r:Option Nat) (S:St) (K:V×St→Prop),qP t s x r S K=(wR (fT prog t s x r S) K))∧(∀ (t:TypeId) (n:Nat) (l:List (Nat×V)) (r:Option Nat) (S:St) (K:V×St→Prop),qQ t n l r S K=(wR (cO prog t n l r S) K))∧(∀ (a:V) (S:St) (K:Nat×St→Prop),qA a S K=(uA (aI a.cells) (wR (aY none S (.row 0 a.cells.length [a.cells])) K)))∧(∀ (S:St) (n:Nat) (c:List V) (K:Nat×St→Prop),qN S n c K=(wR (aY none S (.row 0 n [c])) K))∧(∀ (r:Nat×St),pt r=.ptr r.1 0 0 0)∧(∀ (S:St) (n:Nat),up S n=⟨S.next+n,S.heap⟩)∧(∀ (n:Int),jI n=.int .i64 n):=⟨fun _ _ _ _=>rfl,fun _ _ _ _=>rfl,fun _ _ _ _ _ _=>rfl,fun _ _ _ _=>rfl,fun _ _ _ _ _=>rfl,fun _ _ _ _=>rfl,fun _ _ _ _ _=>rfl,fun _ _ _ _ _=>rfl,fun _ _ _=>rfl,fun _ _ _ _ _ _=>rfl,fun _ _ _ _ _ _=>rfl,fun _ _ _=>rfl,fun _ _ _ _=>rfl,fun _=>rfl,fun _ _=>rfl,fun _=>rfl⟩
abbrev aKj:Nat→Option (List bJ):=eX []
abbrev aKk:Nat→List Nat:=iN [(2,[10])]
abbrev aKl:Nat→Option (List bJ):=eX []
abbrev aKm:Nat→List Nat:=iN [(3,[3,16])]
abbrev aMh:Nat→Option (List bJ):=eX [(3,[(0,[]),(1,[0]),(2,[]),(3,[])]),(5,[(0,[]),(1,[0]),(2,[]),(3,[])]),(10,[(0,[]),(1,[]),(2,[0]),(3,[]),(4,[])]),(12,[(0,[]),(1,[]),(2,[1]),(3,[])]),(17,[(0,[]),(1,[]),(2,[1]),(3,[])])]
abbrev aRw:Nat→List Nat:=iN []
abbrev aRx:Nat→Option (List bJ):=eX []
abbrev aRy:Nat→List Nat:=iN [(3,[5,6])]
abbrev aKn:Nat→Option (List bJ):=eX []
abbrev aKo:Nat→List Nat:=iN [(2,[6])]
abbrev aKp:Nat→Option (List bJ):=eX []
abbrev aKq:Nat→List Nat:=iN [(4,[2,3])]
abbrev aGl:Nat→Option (List bJ):=eX [(11,[(1,[]),(2,[]),(3,[]),(5,[]),(6,[]),(7,[]),(8,[]),(9,[]),(10,[]),(13,[]),(14,[]),(15,[]),(0,[]),(4,[9]),(11,[]),(12,[]),(16,[]),(17,[])])]
abbrev aKr:Nat→List Nat:=iN [(8,[8]),(5,[4,5,6,7])]
abbrev aRz:Nat→Option (List bJ):=eX []
abbrev aS0:Nat→List Nat:=iN [(30,[2,12]),(23,[2,11]),(9,[2,5,6])]
abbrev aKs:Nat→Option (List bJ):=eX []
abbrev aKt:Nat→List Nat:=iN [(8,[6])]
abbrev aKu:Nat→Option (List bJ):=eX []
abbrev aKv:Nat→List Nat:=iN [(12,[8])]
abbrev aGm:Nat→Option (List bJ):=eX []
abbrev aKw:Nat→List Nat:=iN [(8,[9]),(5,[4,5,6,19])]
def aGn (C:aM) (K:KW) (again0:List V→St→Prop) (p0 p1 p5 p6 p7:V) (S:St):Prop:=
qL 61 p7 S fun t7=>
qQ 44 1 [(0,t7)] none S fun r8=>
qP 44 p5 r8.1 none r8.2 fun r9=>
qB .add 3 p6 (jI 1) fun t10=>
again0 [r9.1,t10] r9.2
def aGo (C:aM) (K:KW) (p0 p1:V) (vs:List V) (S:St) (again0:List V→St→Prop):Prop:=
pA vs fun x5 vs=>
pA vs fun x6 vs=>
qZ 44 p0 S fun t0=>
qB .lss 3 x6 t0 fun t1=>
aK t1 (qB .lss 3 x6 p1 fun t2=>
aK t2 (qX 44 p0 x6 fun t3=>
qL 61 t3 S fun t4=>
qN S 17 [jI 0,jI 0,jI 0,.str [],jI 0,.str [],jI 0,jI 0,jI 0,jI 0,jI 0,jI 0,jI 0,.nils,.str [],jI 0,jI 0] fun r5=>
qS 61 (pt r5) t4 r5.2 fun S6=>
qF 61 (pt r5) 2 fun t11=>
qE 59 t11 5 55 S6 fun t13=>
qZ 55 t13 S6 fun t14=>
qB .gtr 3 t14 (jI 15) fun t15=>
aK t15 (qF 61 (pt r5) 2 fun t16=>
qE 59 t16 5 55 S6 fun t18=>
wR (dY prog 55 t18 none (some (jI 15))) fun t19=>
qF 61 (pt r5) 2 fun t20=>
qF 59 t20 5 fun t21=>
qS 55 t21 t19 S6 fun S22=>
aGn C K again0 p0 p1 x5 x6 (pt r5) S22) (aGn C K again0 p0 p1 x5 x6 (pt r5) S6)) (K x5 S)) (K x5 S)
def m30 (C:aM) (a0 a1:V) (S:St) (K:KW):Prop:=
fZ [(.nils),(jI 0)] S (aGo C K a0 a1)
theorem bBm:(fun (C:aM) (a0 a1:V) (S:St) (K:KW)=>dJ prog C aRx aRy 30 [a0,a1] S K)=fun C a0 a1 S K=>m30 C a0 a1 S K:=by kernel_rfl
theorem t30 (C:aM) (a0 a1:V) (S:St) (K:KW):dJ prog C aRx aRy 30 [a0,a1] S K=m30 C a0 a1 S K:=congrFun (congrFun (congrFun (congrFun (congrFun bBm C) a0) a1) S) K
theorem v30 {a0 a1:V} {v:V} (hc:cloVs [a0,a1]=true) (h:m30 C a0 a1 ⟨0,.nil⟩ fun v0 S0=>iA S0 v0=.ok v):Fv 30 [a0,a1] v:=Go.AM.Fn.of (p:=aRx) (lv:=aRy) (by kernel_rfl) hc (by rw [t30];exact h)
def aGp (C:aM) (K:KW) (p2 p4 p5 p9:V) (S:St):Prop:=
qL 30 p2 (up S 4) fun t76=>
qL 48 p9 (up S 4) fun t77=>
qS 30 p4 t76 (up S 4) fun S78=>
qL 48 p9 S78 fun t79=>
uA (eJ t77 t79) (qS 48 p5 t77 S78 fun S80=>
qL 30 p4 S80 fun t81=>
qL 48 p5 S80 fun t82=>
K (.tup [t81,t82]) S80)
def aD4 (C:aM) (K:KW) (p2 p3 p4 p5 p28:V) (S:St):Prop:=
aK p28 (qL 30 p2 (up S 4) fun t20=>
C 103 [(jI 17)] (up S 4) fun t21 S22=>
qL 30 p2 S22 fun t23=>
uA (eJ t20 t23) (qS 30 p4 t20 S22 fun S24=>
qS 48 p5 t21 S24 fun S25=>
qL 30 p4 S25 fun t26=>
qL 48 p5 S25 fun t27=>
K (.tup [t26,t27]) S25)) (qF 61 p3 2 fun t28=>
qE 59 t28 0 3 S fun t30=>
(qG .eql 3 t30 (jI 6) fun t31=>
aK t31 (qL 30 p2 S fun t32=>
C 104 [t32] S fun t33 S34=>
eB t33 0 fun t35=>
eB t33 1 fun t36=>
qS 30 p4 t35 S34 fun S37=>
qS 48 p5 t36 S37 fun S38=>
qL 30 p4 S38 fun t39=>
qL 48 p5 S38 fun t40=>
K (.tup [t39,t40]) S38) (qE 30 p2 4 28 S fun t42=>
qE 61 p3 0 3 S fun t44=>
qE 61 p3 1 3 S fun t46=>
C 105 [t42,t44,t46] S fun t47 S48=>
eB t47 0 fun t49=>
eB t47 1 fun t50=>
eB t47 2 fun t51=>
qN S48 3 [jI 0,jI 0,jI 0] fun r52=>
qS 48 (pt r52) t49 r52.2 fun S53=>
(qG .neq 31 t51 (jI 0) fun t54=>
aK t54 (qL 30 p2 (up S53 5) fun t55=>
C 103 [t51] (up S53 5) fun t56 S57=>
qL 30 p2 S57 fun t58=>
uA (eJ t55 t58) (qS 30 p4 t55 S57 fun S59=>
qS 48 p5 t56 S59 fun S60=>
qL 30 p4 S60 fun t61=>
qL 48 p5 S60 fun t62=>
K (.tup [t61,t62]) S60)) (aK t50 (qL 30 p2 (up S53 4) fun t63=>
qL 48 (pt r52) (up S53 4) fun t64=>
qS 30 p4 t63 (up S53 4) fun S65=>
qL 48 (pt r52) S65 fun t66=>
uA (eJ t64 t66) (qS 48 p5 t64 S65 fun S67=>
qL 30 p4 S67 fun t68=>
qL 48 p5 S67 fun t69=>
K (.tup [t68,t69]) S67)) (qE 61 p3 2 59 S53 fun t71=>
C 106 [p2,t71] S53 fun t72 S73=>
qN S73 3 [jI 0,jI 0,jI 0] fun r74=>
qS 48 (pt r74) t72 r74.2 fun S75=>
qE 30 p2 4 28 S75 fun t84=>
qE 61 p3 0 3 S75 fun t86=>
qE 61 p3 1 3 S75 fun t88=>
qL 48 (pt r74) S75 fun t89=>
C 107 [t84,t86,t88,t89] S75 fun t90 S91=>
eB t90 0 fun t92=>
eB t90 1 fun t93=>
(qG .eql 31 t93 (jI 0) fun t94=>
aK t94 (qF 30 p2 4 fun t95=>
qS 28 t95 t92 S91 fun S96=>
aGp C K p2 p4 p5 (pt r74) S96) (aGp C K p2 p4 p5 (pt r74) S91))))))))
def m33 (C:aM) (a0 a1:V) (S:St) (K:KW):Prop:=
(qA a0 S fun r0=>
(qA a1 r0.2 fun r1=>
qN r1.2 6 [.nils,.nils,.nils,.nils,.nils,jI 0] fun r2=>
qN r2.2 3 [jI 0,jI 0,jI 0] fun r3=>
qL 30 (pt r0) r3.2 fun t4=>
C 102 [t4] r3.2 fun t5 S6=>
qS 30 (pt r0) t5 S6 fun S7=>
qL 30 (pt r0) S7 fun t8=>
C 24 [t8] S7 fun t9 S10=>
wR (unV .not t9) fun t11=>
aK t11 (qL 30 (pt r0) (up S10 4) fun t12=>
C 103 [(jI 1)] (up S10 4) fun t13 S14=>
qL 30 (pt r0) S14 fun t15=>
uA (eJ t12 t15) (qS 30 (pt r2) t12 S14 fun S16=>
qS 48 (pt r3) t13 S16 fun S17=>
qL 30 (pt r2) S17 fun t18=>
qL 48 (pt r3) S17 fun t19=>
K (.tup [t18,t19]) S17)) (qF 61 (pt r1) 2 fun t97=>
qE 59 t97 0 3 S10 fun t99=>
qB .lss 3 t99 (jI 1) fun t100=>
aK t100 (aD4 C K (pt r0) (pt r1) (pt r2) (pt r3) (.bool true) S10) (qF 61 (pt r1) 2 fun t101=>
qE 59 t101 0 3 S10 fun t103=>
qB .gtr 3 t103 (jI 8) fun t104=>
aD4 C K (pt r0) (pt r1) (pt r2) (pt r3) t104 S10))))
theorem bBn:(fun (C:aM) (a0 a1:V) (S:St) (K:KW)=>dJ prog C aMh aRw 33 [a0,a1] S K)=fun C a0 a1 S K=>m33 C a0 a1 S K:=by kernel_rfl
theorem t33 (C:aM) (a0 a1:V) (S:St) (K:KW):dJ prog C aMh aRw 33 [a0,a1] S K=m33 C a0 a1 S K:=congrFun (congrFun (congrFun (congrFun (congrFun bBn C) a0) a1) S) K
theorem v33 {a0 a1:V} {v:V} (hc:cloVs [a0,a1]=true) (h:m33 C a0 a1 ⟨0,.nil⟩ fun v0 S0=>iA S0 v0=.ok v):Fv 33 [a0,a1] v:=Go.AM.Fn.of (p:=aMh) (lv:=aRw) (by kernel_rfl) hc (by rw [t33];exact h)
theorem bM1:sX 33=some (.val aMh):=by kernel_rfl
def aKy (C:aM) (K:KW) (p1 p5:V) (vs:List V) (S:St) (again2:List V→St→Prop):Prop:=
pA vs fun x2 vs=>
pA vs fun x12 vs=>
qZ 27 p5 S fun t105=>
qB .lss 3 x12 t105 fun t106=>
aK t106 (qX 27 p5 x12 fun t107=>
qL 90 t107 (up S 10) fun t108=>
qE 30 p1 3 27 (up S 10) fun t110=>
qX 27 t110 x12 fun t111=>
qL 90 t111 (up S 10) fun t112=>
(qG .neq 90 t108 t112 fun t113=>
aK t113 (K (.bool false) (up S 10)) (qB .add 3 x12 (jI 1) fun t114=>
again2 [x2,t114] (up S 10)))) (K (.bool true) S)
def aKz (C:aM) (K:KW) (p1 p4 p5:V) (vs:List V) (S:St) (again1:List V→St→Prop):Prop:=
pA vs fun x2 vs=>
pA vs fun x11 vs=>
qZ 96 p4 S fun t88=>
qB .lss 3 x11 t88 fun t89=>
aK t89 (qX 96 p4 x11 fun t90=>
qL 3 t90 (up S 12) fun t91=>
qE 30 p1 1 25 (up S 12) fun t93=>
qX 25 t93 x11 fun t94=>
qE 126 t94 1 3 (up S 12) fun t96=>
qB .sub 3 t96 (jI 1) fun t97=>
(qG .neq 3 t91 t97 fun t98=>
aK t98 (K (.bool false) (up S 12)) (qB .add 3 x11 (jI 1) fun t99=>
again1 [x2,t99] (up S 12)))) (qZ 27 p5 S fun t100=>
qE 30 p1 3 27 S fun t102=>
qZ 27 t102 S fun t103=>
(qG .neq 3 t100 t103 fun t104=>
aK t104 (K (.bool false) S) (fZ [x2,(jI 0)] S (aKy C K p1 p5))))
def aL0 (C:aM) (K:KW) (p1 p4:V) (vs:List V) (S:St) (again0:List V→St→Prop):Prop:=
pA vs fun x2 vs=>
pA vs fun x5 vs=>
pA vs fun x6 vs=>
qE 30 p1 2 26 S fun t31=>
qZ 26 t31 S fun t32=>
qB .lss 3 x6 t32 fun t33=>
aK t33 (qE 30 p1 2 26 S fun t35=>
qX 26 t35 x6 fun t36=>
qL 84 t36 S fun t37=>
qN S 12 [.str [],jI 0,jI 0,jI 0,jI 0,jI 0,jI 0,jI 0,.nils,.str [],jI 0,.bool false] fun r38=>
qS 84 (pt r38) t37 r38.2 fun S39=>
qE 30 p1 1 25 S39 fun t41=>
qF 84 (pt r38) 0 fun t42=>
qE 57 t42 0 9 S39 fun t44=>
C 117 [t41,t44] S39 fun t45 S46=>
qB .lss 3 t45 (jI 0) fun t47=>
aK t47 (K (.bool false) (up S46 32)) (qF 84 (pt r38) 0 fun t48=>
qE 57 t48 1 3 (up S46 32) fun t50=>
qX 96 p4 t45 fun t51=>
qL 3 t51 (up S46 32) fun t52=>
qB .add 3 t52 (jI 1) fun t53=>
(qG .neq 3 t50 t53 fun t54=>
aK t54 (K (.bool false) (up S46 32)) (qE 84 (pt r38) 1 52 (up S46 32) fun t56=>
C 118 [t56] (up S46 32) fun t57 S58=>
wR (unV .not t57) fun t59=>
aK t59 (K (.bool false) S58) (qE 84 (pt r38) 2 82 S58 fun t61=>
C 119 [t61] S58 fun t62 S63=>
wR (unV .not t62) fun t64=>
aK t64 (K (.bool false) S63) (qE 30 p1 2 26 S63 fun t66=>
C 120 [t66,x6] S63 fun t67 S68=>
wR (unV .not t67) fun t69=>
aK t69 (K (.bool false) S68) (qX 96 p4 t45 fun t70=>
qL 3 t70 S68 fun t71=>
qB .add 3 t71 (jI 1) fun t72=>
qX 96 p4 t45 fun t73=>
qS 3 t73 t72 S68 fun S74=>
qE 84 (pt r38) 2 82 S74 fun t76=>
C 121 [t76] S74 fun t77 S78=>
eB t77 0 fun t79=>
eB t77 1 fun t80=>
(qG .neq 3 t80 (jI 0) fun t81=>
aK t81 (K (.bool false) S78) (C 122 [x5,t79] S78 fun t82 S83=>
eB t82 0 fun t84=>
eB t82 1 fun t85=>
(qG .neq 3 t85 (jI 0) fun t86=>
aK t86 (K (.bool false) S83) (qB .add 3 x6 (jI 1) fun t87=>
again0 [x2,t84,t87] S83))))))))))) (fZ [x2,(jI 0)] S (aKz C K p1 p4 x5))
def aGq (C:aM) (K:KW) (p1:V) (S:St):Prop:=
qE 30 p1 1 25 S fun t27=>
qZ 25 t27 S fun t28=>
wR (dZ prog 96 t28 t28 none S) fun r29=>
fZ [(.bool false),(.nils),(jI 0)] r29.2 (aL0 C K p1 r29.1)
def m38 (C:aM) (a0:V) (S:St) (K:KW):Prop:=
(qA a0 S fun r0=>
qE 30 (pt r0) 0 24 r0.2 fun t2=>
C 114 [t2] r0.2 fun t3 S4=>
wR (unV .not t3) fun t5=>
aK t5 (K (.bool false) S4) (qE 30 (pt r0) 1 25 S4 fun t7=>
C 115 [t7] S4 fun t8 S9=>
wR (unV .not t8) fun t10=>
aK t10 (K (.bool false) S9) (qE 30 (pt r0) 4 28 S9 fun t12=>
C 116 [t12] S9 fun t13 S14=>
wR (unV .not t13) fun t15=>
aK t15 (K (.bool false) S14) (qE 30 (pt r0) 2 26 S14 fun t17=>
qZ 26 t17 S14 fun t18=>
qB .gtr 3 t18 (jI 40) fun t19=>
aK t19 (K (.bool false) S14) (qE 30 (pt r0) 5 3 S14 fun t21=>
qB .lss 3 t21 (jI 1) fun t22=>
aK t22 (K (.bool false) S14) (qE 30 (pt r0) 5 3 S14 fun t24=>
qB .gtr 3 t24 (jI 1099511627776) fun t25=>
aK t25 (K (.bool false) S14) (qE 30 (pt r0) 4 28 S14 fun t116=>
qZ 28 t116 S14 fun t117=>
qB .gtr 3 t117 (jI 0) fun t118=>
aK t118 (qE 30 (pt r0) 4 28 (up S14 14) fun t120=>
qB .sub 3 t117 (jI 1) fun t121=>
qX 28 t120 t121 fun t122=>
qE 132 t122 0 3 (up S14 14) fun t124=>
qE 30 (pt r0) 5 3 (up S14 14) fun t126=>
qB .geq 3 t124 t126 fun t127=>
aK t127 (K (.bool false) (up S14 14)) (aGq C K (pt r0) (up S14 14))) (aGq C K (pt r0) (up S14 14)))))))))
theorem bBo:(fun (C:aM) (a0:V) (S:St) (K:KW)=>dJ prog C aRz aS0 38 [a0] S K)=fun C a0 S K=>m38 C a0 S K:=by kernel_rfl
theorem t38 (C:aM) (a0:V) (S:St) (K:KW):dJ prog C aRz aS0 38 [a0] S K=m38 C a0 S K:=congrFun (congrFun (congrFun (congrFun bBo C) a0) S) K
theorem v38 {a0:V} {v:V} (hc:cloVs [a0]=true) (h:m38 C a0 ⟨0,.nil⟩ fun v0 S0=>iA S0 v0=.ok v):Fv 38 [a0] v:=Go.AM.Fn.of (p:=aRz) (lv:=aS0) (by kernel_rfl) hc (by rw [t38];exact h)
def aBq (C:aM) (K:KW) (again0:List V→St→Prop) (p1 p2 p3 p4:V) (S:St):Prop:=
qE 145 p4 2 3 S fun t20=>
qE 145 p4 1 3 S fun t22=>
C 160 [t20,t22] S fun t23 S24=>
eB t23 0 fun t25=>
eB t23 1 fun t26=>
(qG .neq 3 t26 (jI 0) fun t27=>
aK t27 (K (.bool false) S24) (qE 145 p4 3 3 S24 fun t29=>
(qG .neq 3 t25 t29 fun t30=>
aK t30 (K (.bool false) S24) (qB .add 3 p3 (jI 1) fun t31=>
again0 [p2,t31] S24))))
def aGr (C:aM) (K:KW) (p1:V) (vs:List V) (S:St) (again0:List V→St→Prop):Prop:=
pA vs fun x2 vs=>
pA vs fun x3 vs=>
qE 82 p1 3 80 S fun t10=>
qZ 80 t10 S fun t11=>
qB .lss 3 x3 t11 fun t12=>
aK t12 (qE 82 p1 3 80 S fun t14=>
qX 80 t14 x3 fun t15=>
qL 145 t15 S fun t16=>
qN S 4 [.str [],jI 0,jI 0,jI 0] fun r17=>
qS 145 (pt r17) t16 r17.2 fun S18=>
qE 145 (pt r17) 0 9 (up S18 30) fun t33=>
C 195 [t33] (up S18 30) fun t34 S35=>
wR (unV .not t34) fun t36=>
aK t36 (K (.bool false) S35) (qE 145 (pt r17) 1 3 S35 fun t38=>
qB .lss 3 t38 (jI 0) fun t39=>
aK t39 (K (.bool false) S35) (qE 145 (pt r17) 1 3 S35 fun t41=>
qB .gtr 3 t41 (jI 100000) fun t42=>
aK t42 (K (.bool false) S35) (qB .gtr 3 x3 (jI 0) fun t43=>
aK t43 (qE 82 p1 3 80 S35 fun t45=>
qB .sub 3 x3 (jI 1) fun t46=>
qX 80 t45 t46 fun t47=>
qE 145 t47 0 9 S35 fun t49=>
qE 145 (pt r17) 0 9 S35 fun t51=>
qB .geq 9 t49 t51 fun t52=>
aK t52 (K (.bool false) S35) (aBq C K again0 p1 x2 x3 (pt r17) S35)) (aBq C K again0 p1 x2 x3 (pt r17) S35))))) (qE 82 p1 3 80 S fun t54=>
C 161 [t54] S fun t55 S56=>
eB t55 0 fun t57=>
eB t55 1 fun t58=>
eB t55 2 fun t59=>
C 127 [t57,t58] S56 fun t60 S61=>
eB t60 0 fun t62=>
eB t60 1 fun t63=>
aK t59 ((qG .eql 3 t63 (jI 0) fun t64=>
aK t64 (qE 82 p1 0 3 S61 fun t66=>
(qG .eql 3 t57 t66 fun t67=>
aK t67 (qE 82 p1 1 3 S61 fun t69=>
(qG .eql 3 t58 t69 fun t70=>
aK t70 (qE 82 p1 2 3 S61 fun t72=>
(qG .eql 3 t62 t72 fun t73=>
K t73 S61)) (K (.bool false) S61))) (K (.bool false) S61))) (K (.bool false) S61))) (K (.bool false) S61))
def aWb (C:aM) (a0:V) (S:St) (K:KW):Prop:=
(qA a0 S fun r0=>
qE 82 (pt r0) 3 80 r0.2 fun t2=>
qZ 80 t2 r0.2 fun t3=>
(qG .eql 3 t3 (jI 0) fun t4=>
aK t4 (K (.bool false) r0.2) (qE 82 (pt r0) 3 80 r0.2 fun t6=>
qZ 80 t6 r0.2 fun t7=>
qB .gtr 3 t7 (jI 12) fun t8=>
aK t8 (K (.bool false) r0.2) (fZ [(.bool false),(jI 0)] r0.2 (aGr C K (pt r0))))))
theorem aWc:(fun (C:aM) (a0:V) (S:St) (K:KW)=>dJ prog C aKp aKq 119 [a0] S K)=fun C a0 S K=>aWb C a0 S K:=by kernel_rfl
theorem bBp (C:aM) (a0:V) (S:St) (K:KW):dJ prog C aKp aKq 119 [a0] S K=aWb C a0 S K:=congrFun (congrFun (congrFun (congrFun aWc C) a0) S) K
theorem bM2 {a0:V} {v:V} (hc:cloVs [a0]=true) (h:aWb C a0 ⟨0,.nil⟩ fun v0 S0=>iA S0 v0=.ok v):Fv 119 [a0] v:=Go.AM.Fn.of (p:=aKp) (lv:=aKq) (by kernel_rfl) hc (by rw [bBp];exact h)
def aBr (C:aM) (K:KW) (again0:List V→St→Prop) (p1 p4 p5 p6 p7 p8:V) (S:St):Prop:=
qX 27 p6 p8 fun t7=>
qE 90 t7 1 3 (up S 16) fun t9=>
qX 27 p1 p7 fun t10=>
qE 90 t10 1 3 (up S 16) fun t12=>
C 127 [t9,t12] (up S 16) fun t13 S14=>
eB t13 0 fun t15=>
eB t13 1 fun t16=>
(qG .neq 3 t16 (jI 0) fun t17=>
aK t17 (K (.tup [(.nils),t16]) S14) (qX 27 p6 p8 fun t18=>
qF 90 t18 1 fun t19=>
qS 3 t19 t15 S14 fun S20=>
qB .add 3 p7 (jI 1) fun t21=>
again0 [p4,p5,p6,t21] S20))
def yG (C:aM) (K:KW) (again0:List V→St→Prop) (p1 p4 p5 p6 p7 p8 p58:V) (S:St):Prop:=
aK p58 (wR (dY prog 27 p6 none (some p8)) fun t22=>
qX 27 p1 p7 fun t23=>
qF 90 t23 0 fun t24=>
qL 9 t24 (up S 18) fun t25=>
qD 90 [(0,t25)] fun t26=>
wR (dY prog 27 p6 (some p8) none) fun t27=>
qQ 27 0 [] (some (S.next+0)) (up S 18) fun r28=>
qP 27 r28.1 t22 (some (S.next+4)) r28.2 fun r29=>
qL 9 t24 r29.2 fun t30=>
uA (eJ t25 t30) (qQ 27 1 [(0,t26)] (some (S.next+11)) r29.2 fun r31=>
qP 27 r29.1 r31.1 (some (S.next+12)) r31.2 fun r32=>
qP 27 r32.1 t27 (some (S.next+16)) r32.2 fun r33=>
aBr C K again0 p1 p4 p5 r33.1 p7 p8 r33.2)) (aBr C K again0 p1 p4 p5 p6 p7 p8 S)
def yH (C:aM) (K:KW) (again0:List V→St→Prop) (p1 p4 p5 p6 p7 p8:V) (S:St):Prop:=
qZ 27 p6 (up S 17) fun t34=>
(qG .eql 3 p8 t34 fun t35=>
aK t35 (yG C K again0 p1 p4 p5 p6 p7 p8 (.bool true) (up S 17)) (qX 27 p6 p8 fun t36=>
qE 90 t36 0 9 (up S 17) fun t38=>
qX 27 p1 p7 fun t39=>
qE 90 t39 0 9 (up S 17) fun t41=>
(qG .neq 9 t38 t41 fun t42=>
yG C K again0 p1 p4 p5 p6 p7 p8 t42 (up S 17))))
def aGs (C:aM) (K:KW) (again0:List V→St→Prop) (p1 p4 p5 p6 p7:V) (vs:List V) (S:St) (again1:List V→St→Prop):Prop:=
pA vs fun x8 vs=>
qZ 27 p6 (up S 17) fun t43=>
qB .lss 3 x8 t43 fun t44=>
aK t44 (qX 27 p6 x8 fun t45=>
qE 90 t45 0 9 (up S 17) fun t47=>
qX 27 p1 p7 fun t48=>
qE 90 t48 0 9 (up S 17) fun t50=>
qB .lss 9 t47 t50 fun t51=>
aK t51 (qB .add 3 x8 (jI 1) fun t52=>
again1 [t52] (up S 17)) (yH C K again0 p1 p4 p5 p6 p7 x8 (up S 17))) (yH C K again0 p1 p4 p5 p6 p7 x8 (up S 17))
def aGt (C:aM) (K:KW) (p1:V) (vs:List V) (S:St) (again0:List V→St→Prop):Prop:=
pA vs fun x4 vs=>
pA vs fun x5 vs=>
pA vs fun x6 vs=>
pA vs fun x7 vs=>
qZ 27 p1 S fun t5=>
qB .lss 3 x7 t5 fun t6=>
aK t6 (fZ [(jI 0)] S (aGs C K again0 p1 x4 x5 x6 x7)) (K (.tup [x6,(jI 0)]) S)
def aWd (C:aM) (a0 a1:V) (S:St) (K:KW):Prop:=
C 199 [a0] S fun t0 S1=>
wR (unV .not t0) fun t2=>
aK t2 (K (.tup [(.nils),(jI 1)]) S1) (qQ 27 0 [] none S1 fun r3=>
qP 27 r3.1 a0 none r3.2 fun r4=>
fZ [(.nils),(jI 0),r4.1,(jI 0)] r4.2 (aGt C K a1))
theorem aWe:(fun (C:aM) (a0 a1:V) (S:St) (K:KW)=>dJ prog C aGl aKr 122 [a0,a1] S K)=fun C a0 a1 S K=>aWd C a0 a1 S K:=by kernel_rfl
theorem t122 (C:aM) (a0 a1:V) (S:St) (K:KW):dJ prog C aGl aKr 122 [a0,a1] S K=aWd C a0 a1 S K:=congrFun (congrFun (congrFun (congrFun (congrFun aWe C) a0) a1) S) K
theorem bM3 {a0 a1:V} {v:V} (hc:cloVs [a0,a1]=true) (h:aWd C a0 a1 ⟨0,.nil⟩ fun v0 S0=>iA S0 v0=.ok v):Fv 122 [a0,a1] v:=Go.AM.Fn.of (p:=aGl) (lv:=aKr) (by kernel_rfl) hc (by rw [t122];exact h)
theorem bDu:sX 122=some (.val aGl):=by kernel_rfl
def aBs (C:aM) (K:KW) (p0 p3 p6:V) (S:St):Prop:=
qX 68 p0 p6 fun t1=>
qE 76 t1 2 3 (up S 13) fun t3=>
qE 145 p3 2 3 (up S 13) fun t5=>
C 203 [t3,t5] (up S 13) fun t6 S7=>
eB t6 0 fun t8=>
eB t6 1 fun t9=>
qX 68 p0 p6 fun t10=>
qE 76 t10 3 3 (up S7 13) fun t12=>
qE 145 p3 3 3 (up S7 13) fun t14=>
C 203 [t12,t14] (up S7 13) fun t15 S16=>
eB t15 0 fun t17=>
eB t15 1 fun t18=>
(qG .neq 31 t9 (jI 0) fun t19=>
aK t19 (K (.tup [(.nils),(jI 7)]) S16) ((qG .neq 31 t18 (jI 0) fun t20=>
aK t20 (K (.tup [(.nils),(jI 7)]) S16) (qX 68 p0 p6 fun t21=>
qF 76 t21 2 fun t22=>
qS 3 t22 t8 S16 fun S23=>
qX 68 p0 p6 fun t24=>
qF 76 t24 3 fun t25=>
qS 3 t25 t17 S23 fun S26=>
K (.tup [p0,(jI 0)]) S26))))
def uD (C:aM) (K:KW) (p0 p3 p6 p48:V) (S:St):Prop:=
aK p48 (qE 145 p3 0 9 S fun t28=>
qE 145 p3 1 3 S fun t30=>
qD 76 [(0,t28),(1,t30)] fun t31=>
qQ 68 1 [(0,t31)] none S fun r32=>
C 202 [p0,p6,r32.1] r32.2 fun t33 S34=>
aBs C K t33 p3 p6 S34) (aBs C K p0 p3 p6 S)
def aBt (C:aM) (K:KW) (p0 p3 p6:V) (S:St):Prop:=
qZ 68 p0 (up S 24) fun t35=>
(qG .eql 3 p6 t35 fun t36=>
aK t36 (uD C K p0 p3 p6 (.bool true) (up S 24)) (qX 68 p0 p6 fun t37=>
qE 76 t37 0 9 (up S 24) fun t39=>
qE 145 p3 0 9 (up S 24) fun t41=>
(qG .neq 9 t39 t41 fun t42=>
aK t42 (uD C K p0 p3 p6 (.bool true) (up S 24)) (qX 68 p0 p6 fun t43=>
qE 76 t43 1 3 (up S 24) fun t45=>
qE 145 p3 1 3 (up S 24) fun t47=>
(qG .neq 3 t45 t47 fun t48=>
uD C K p0 p3 p6 t48 (up S 24))))))
def aGu (C:aM) (K:KW) (p0 p3:V) (vs:List V) (S:St) (again0:List V→St→Prop):Prop:=
pA vs fun x6 vs=>
qZ 68 p0 (up S 12) fun t49=>
qB .lss 3 x6 t49 fun t50=>
aK t50 (qX 68 p0 x6 fun t51=>
qL 76 t51 (up S 12) fun t52=>
qL 145 p3 (up S 12) fun t53=>
C 201 [t52,t53] (up S 12) fun t54 S55=>
aK t54 (qB .add 3 x6 (jI 1) fun t56=>
again0 [t56] S55) (aBt C K p0 p3 x6 S55)) (aBt C K p0 p3 x6 (up S 12))
def aWf (C:aM) (a0 a1:V) (S:St) (K:KW):Prop:=
(qA a1 S fun r0=>
fZ [(jI 0)] r0.2 (aGu C K a0 (pt r0)))
theorem aWg:(fun (C:aM) (a0 a1:V) (S:St) (K:KW)=>dJ prog C aKn aKo 125 [a0,a1] S K)=fun C a0 a1 S K=>aWf C a0 a1 S K:=by kernel_rfl
theorem bBq (C:aM) (a0 a1:V) (S:St) (K:KW):dJ prog C aKn aKo 125 [a0,a1] S K=aWf C a0 a1 S K:=congrFun (congrFun (congrFun (congrFun (congrFun aWg C) a0) a1) S) K
theorem bM4 {a0 a1:V} {S:St} {K:KW} (h:aWf C a0 a1 S K):C 125 [a0,a1] S K:=aGi (p:=aKn) (lv:=aKo) (by kernel_rfl) (by rw [bBq];exact h)
def aBu (C:aM) (K:KW) (again0:List V→St→Prop) (p4 p5 p6 p8 p9 p17 p18 p19:V) (S:St):Prop:=
qX 27 p6 p9 fun t10=>
qE 90 t10 1 3 (up S 13) fun t12=>
qE 90 p8 1 3 (up S 13) fun t14=>
C 203 [t12,t14] (up S 13) fun t15 S16=>
eB t15 0 fun t17=>
eB t15 1 fun t18=>
(qG .neq 31 t18 (jI 0) fun t19=>
aK t19 (K (.tup [(.nils),t18]) S16) (qX 27 p6 p9 fun t20=>
qF 90 t20 1 fun t21=>
qS 3 t21 t17 S16 fun S22=>
qB .add 3 p19 (jI 1) fun t23=>
again0 [p4,p5,p6,t23] S22))
def yI (C:aM) (K:KW) (again0:List V→St→Prop) (p4 p5 p6 p8 p9 p17 p18 p19 p52:V) (S:St):Prop:=
aK p52 (qE 90 p8 0 9 S fun t25=>
qD 90 [(0,t25)] fun t26=>
qQ 27 1 [(0,t26)] none S fun r27=>
C 221 [p6,p9,r27.1] r27.2 fun t28 S29=>
aBu C K again0 p4 p5 t28 p8 p9 p17 p18 p19 S29) (aBu C K again0 p4 p5 p6 p8 p9 p17 p18 p19 S)
def aBv (C:aM) (K:KW) (again0:List V→St→Prop) (p4 p5 p6 p8 p9 p17 p18 p19:V) (S:St):Prop:=
qZ 27 p6 (up S 14) fun t30=>
(qG .eql 3 p9 t30 fun t31=>
aK t31 (yI C K again0 p4 p5 p6 p8 p9 p17 p18 p19 (.bool true) (up S 14)) (qX 27 p6 p9 fun t32=>
qE 90 t32 0 9 (up S 14) fun t34=>
qE 90 p8 0 9 (up S 14) fun t36=>
(qG .neq 9 t34 t36 fun t37=>
yI C K again0 p4 p5 p6 p8 p9 p17 p18 p19 t37 (up S 14))))
def aGv (C:aM) (K:KW) (again0:List V→St→Prop) (p4 p5 p6 p8 p17 p18 p19:V) (vs:List V) (S:St) (again1:List V→St→Prop):Prop:=
pA vs fun x9 vs=>
qZ 27 p6 (up S 14) fun t38=>
qB .lss 3 x9 t38 fun t39=>
aK t39 (qX 27 p6 x9 fun t40=>
qE 90 t40 0 9 (up S 14) fun t42=>
qE 90 p8 0 9 (up S 14) fun t44=>
qB .lss 9 t42 t44 fun t45=>
aK t45 (qB .add 3 x9 (jI 1) fun t46=>
again1 [t46] (up S 14)) (aBv C K again0 p4 p5 p6 p8 x9 p17 p18 p19 (up S 14))) (aBv C K again0 p4 p5 p6 p8 x9 p17 p18 p19 (up S 14))
def aGw (C:aM) (K:KW) (p17 p18:V) (vs:List V) (S:St) (again0:List V→St→Prop):Prop:=
pA vs fun x4 vs=>
pA vs fun x5 vs=>
pA vs fun x6 vs=>
pA vs fun x19 vs=>
qB .lss 3 x19 p18 fun t5=>
aK t5 (qX 27 p17 x19 fun t6=>
qL 90 t6 S fun t7=>
qN S 2 [.str [],jI 0] fun r8=>
qS 90 (pt r8) t7 r8.2 fun S9=>
fZ [(jI 0)] S9 (aGv C K again0 x4 x5 x6 (pt r8) p17 p18 x19)) (K (.tup [x6,(jI 0)]) S)
def aWh (C:aM) (a0 a1:V) (S:St) (K:KW):Prop:=
C 220 [a0] S fun t0 S1=>
wR (unV .not t0) fun t2=>
aK t2 (K (.tup [(.nils),(jI 1)]) S1) (qP 27 (.nils) a0 none S1 fun r3=>
qZ 27 a1 r3.2 fun t4=>
fZ [(.nils),(jI 0),r3.1,(jI 0)] r3.2 (aGw C K a1 t4))
theorem aWi:(fun (C:aM) (a0 a1:V) (S:St) (K:KW)=>dJ prog C aGm aKw 158 [a0,a1] S K)=fun C a0 a1 S K=>aWh C a0 a1 S K:=by kernel_rfl
theorem bM5 (C:aM) (a0 a1:V) (S:St) (K:KW):dJ prog C aGm aKw 158 [a0,a1] S K=aWh C a0 a1 S K:=congrFun (congrFun (congrFun (congrFun (congrFun aWi C) a0) a1) S) K
theorem bM6 {a0 a1:V} {v:V} (hc:cloVs [a0,a1]=true) (h:aWh C a0 a1 ⟨0,.nil⟩ fun v0 S0=>iA S0 v0=.ok v):Fv 158 [a0,a1] v:=Go.AM.Fn.of (p:=aGm) (lv:=aKw) (by kernel_rfl) hc (by rw [bM5];exact h)
theorem bDv:sX 158=some (.val aGm):=by kernel_rfl
def aBw (C:aM) (K:KW) (p0 p1 p6:V) (S:St):Prop:=
qP 28 (.nils) p0 none S fun r5=>
qD 132 [(0,p1)] fun t6=>
qQ 28 1 [(0,t6)] none r5.2 fun r7=>
C 230 [r5.1,p6,r7.1] r7.2 fun t8 S9=>
K (.tup [t8,(jI 0)]) S9
def aGx (C:aM) (K:KW) (p0 p1:V) (vs:List V) (S:St) (again0:List V→St→Prop):Prop:=
pA vs fun x6 vs=>
qZ 28 p0 S fun t10=>
qB .lss 3 x6 t10 fun t11=>
aK t11 (qX 28 p0 x6 fun t12=>
qE 132 t12 0 3 S fun t14=>
qB .lss 3 t14 p1 fun t15=>
aK t15 (qB .add 3 x6 (jI 1) fun t16=>
again0 [t16] S) (aBw C K p0 p1 x6 S)) (aBw C K p0 p1 x6 S)
def aGy (C:aM) (K:KW) (p0 p1 p7:V) (S:St):Prop:=
aK p7 (K (.tup [(.nils),(jI 1)]) S) (C 174 [p0,p1] S fun t0 S1=>
qB .geq 3 t0 (jI 0) fun t2=>
aK t2 (K (.tup [(.nils),(jI 12)]) S1) (qZ 28 p0 S1 fun t3=>
qB .geq 3 t3 (jI 8) fun t4=>
aK t4 (K (.tup [(.nils),(jI 14)]) S1) (fZ [(jI 0)] S1 (aGx C K p0 p1))))
def aWj (C:aM) (a0 a1:V) (S:St) (K:KW):Prop:=
C 166 [a0] S fun t17 S18=>
wR (unV .not t17) fun t19=>
aK t19 (aGy C K a0 a1 (.bool true) S18) (qB .lss 3 a1 (jI 1) fun t20=>
aGy C K a0 a1 t20 S18)
theorem aWk:(fun (C:aM) (a0 a1:V) (S:St) (K:KW)=>dJ prog C aKs aKt 173 [a0,a1] S K)=fun C a0 a1 S K=>aWj C a0 a1 S K:=by kernel_rfl
theorem bM7 (C:aM) (a0 a1:V) (S:St) (K:KW):dJ prog C aKs aKt 173 [a0,a1] S K=aWj C a0 a1 S K:=congrFun (congrFun (congrFun (congrFun (congrFun aWk C) a0) a1) S) K
theorem bM8 {a0 a1:V} {v:V} (hc:cloVs [a0,a1]=true) (h:aWj C a0 a1 ⟨0,.nil⟩ fun v0 S0=>iA S0 v0=.ok v):Fv 173 [a0,a1] v:=Go.AM.Fn.of (p:=aKs) (lv:=aKt) (by kernel_rfl) hc (by rw [bM7];exact h)
def aBx (C:aM) (K:KW) (p0 p1 p2 p8:V) (S:St):Prop:=
C 235 [p0] S fun t11 S12=>
qD 126 [(0,p1),(1,(jI 1)),(2,p2)] fun t13=>
qQ 25 1 [(0,t13)] none S12 fun r14=>
C 234 [t11,p8,r14.1] r14.2 fun t15 S16=>
K (.tup [t15,(jI 0)]) S16
def aGz (C:aM) (K:KW) (p0 p1 p2:V) (vs:List V) (S:St) (again0:List V→St→Prop):Prop:=
pA vs fun x8 vs=>
qZ 25 p0 S fun t17=>
qB .lss 3 x8 t17 fun t18=>
aK t18 (qX 25 p0 x8 fun t19=>
qE 126 t19 0 9 S fun t21=>
qB .lss 9 t21 p1 fun t22=>
aK t22 (qB .add 3 x8 (jI 1) fun t23=>
again0 [t23] S) (aBx C K p0 p1 p2 x8 S)) (aBx C K p0 p1 p2 x8 S)
def aH0 (C:aM) (K:KW) (p0 p1 p2 p17:V) (S:St):Prop:=
aK p17 (K (.tup [(.nils),(jI 1)]) S) (C 233 [p0,p1] S fun t6 S7=>
qB .geq 3 t6 (jI 0) fun t8=>
aK t8 (K (.tup [(.nils),(jI 12)]) S7) (qZ 25 p0 S7 fun t9=>
qB .geq 3 t9 (jI 8) fun t10=>
aK t10 (K (.tup [(.nils),(jI 14)]) S7) (fZ [(jI 0)] S7 (aGz C K p0 p1 p2))))
def aWl (C:aM) (a0 a1 a2:V) (S:St) (K:KW):Prop:=
C 86 [a0] S fun t0 S1=>
wR (unV .not t0) fun t2=>
aK t2 (K (.tup [(.nils),(jI 1)]) S1) (C 165 [a1] S1 fun t3 S4=>
wR (unV .not t3) fun t5=>
aK t5 (K (.tup [(.nils),(jI 8)]) S4) (qB .lss 3 a2 (jI 1) fun t24=>
aK t24 (aH0 C K a0 a1 a2 (.bool true) S4) (qB .gtr 3 a2 (jI 1099511627776) fun t25=>
aH0 C K a0 a1 a2 t25 S4)))
theorem aWm:(fun (C:aM) (a0 a1 a2:V) (S:St) (K:KW)=>dJ prog C aKu aKv 175 [a0,a1,a2] S K)=fun C a0 a1 a2 S K=>aWl C a0 a1 a2 S K:=by kernel_rfl
theorem bM9 (C:aM) (a0 a1 a2:V) (S:St) (K:KW):dJ prog C aKu aKv 175 [a0,a1,a2] S K=aWl C a0 a1 a2 S K:=congrFun (congrFun (congrFun (congrFun (congrFun (congrFun aWm C) a0) a1) a2) S) K
theorem bMa {a0 a1 a2:V} {v:V} (hc:cloVs [a0,a1,a2]=true) (h:aWl C a0 a1 a2 ⟨0,.nil⟩ fun v0 S0=>iA S0 v0=.ok v):Fv 175 [a0,a1,a2] v:=Go.AM.Fn.of (p:=aKu) (lv:=aKv) (by kernel_rfl) hc (by rw [bM9];exact h)
def aBy (C:aM) (K:KW) (p0 p3 p10:V) (S:St):Prop:=
qX 80 p0 p10 fun t0=>
qE 145 t0 2 3 S fun t2=>
C 203 [t2,p3] S fun t3 S4=>
eB t3 0 fun t5=>
eB t3 1 fun t6=>
qX 80 p0 p10 fun t7=>
qF 145 t7 2 fun t8=>
qS 3 t8 t5 S4 fun S9=>
K (.tup [p0,t6]) S9
def yJ (C:aM) (K:KW) (p0 p1 p2 p3 p10 p40:V) (S:St):Prop:=
aK p40 (qD 145 [(0,p1),(1,p2)] fun t10=>
qQ 80 1 [(0,t10)] none S fun r11=>
C 280 [p0,p10,r11.1] r11.2 fun t12 S13=>
aBy C K t12 p3 p10 S13) (aBy C K p0 p3 p10 S)
def aBz (C:aM) (K:KW) (p0 p1 p2 p3 p10:V) (S:St):Prop:=
qZ 80 p0 S fun t14=>
(qG .eql 3 p10 t14 fun t15=>
aK t15 (yJ C K p0 p1 p2 p3 p10 (.bool true) S) (qX 80 p0 p10 fun t16=>
qE 145 t16 0 9 S fun t18=>
(qG .neq 9 t18 p1 fun t19=>
yJ C K p0 p1 p2 p3 p10 t19 S)))
def aH1 (C:aM) (K:KW) (p0 p1 p2 p3:V) (vs:List V) (S:St) (again0:List V→St→Prop):Prop:=
pA vs fun x10 vs=>
qZ 80 p0 S fun t20=>
qB .lss 3 x10 t20 fun t21=>
aK t21 (qX 80 p0 x10 fun t22=>
qE 145 t22 0 9 S fun t24=>
qB .lss 9 t24 p1 fun t25=>
aK t25 (qB .add 3 x10 (jI 1) fun t26=>
again0 [t26] S) (aBz C K p0 p1 p2 p3 x10 S)) (aBz C K p0 p1 p2 p3 x10 S)
def aWn (C:aM) (a0 a1 a2 a3:V) (S:St) (K:KW):Prop:=
fZ [(jI 0)] S (aH1 C K a0 a1 a2 a3)
theorem aWo:(fun (C:aM) (a0 a1 a2 a3:V) (S:St) (K:KW)=>dJ prog C aKj aKk 269 [a0,a1,a2,a3] S K)=fun C a0 a1 a2 a3 S K=>aWn C a0 a1 a2 a3 S K:=by kernel_rfl
theorem bMb (C:aM) (a0 a1 a2 a3:V) (S:St) (K:KW):dJ prog C aKj aKk 269 [a0,a1,a2,a3] S K=aWn C a0 a1 a2 a3 S K:=congrFun (congrFun (congrFun (congrFun (congrFun (congrFun (congrFun aWo C) a0) a1) a2) a3) S) K
theorem bMc {a0 a1 a2 a3:V} {S:St} {K:KW} (h:aWn C a0 a1 a2 a3 S K):C 269 [a0,a1,a2,a3] S K:=aGi (p:=aKj) (lv:=aKk) (by kernel_rfl) (by rw [bMb];exact h)
def uE (C:aM) (K:KW) (again0:List V→St→Prop) (p0 p2 p3 p4 p15 p16 p68:V) (S:St):Prop:=
aK p68 (qD 82 [] fun t37=>
qS 82 p2 t37 S fun S38=>
qL 82 p2 S38 fun t39=>
K (.tup [t39,(jI 7)]) S38) (qB .add 3 p16 (jI 1) fun t40=>
again0 [p3,t40] S)
def aH2 (C:aM) (K:KW) (p0 p2 p4 p15:V) (vs:List V) (S:St) (again0:List V→St→Prop):Prop:=
pA vs fun x3 vs=>
pA vs fun x16 vs=>
qB .lss 3 x16 p15 fun t5=>
aK t5 (qX 80 p0 x16 fun t6=>
zR t6 (qE 145 t6 2 3 (up S 17) fun t8=>
zR t6 (qE 145 t6 1 3 (up S 17) fun t10=>
C 217 [t8,t10] (up S 17) fun t11 S12=>
eB t11 0 fun t13=>
eB t11 1 fun t14=>
zR t6 (qF 145 t6 3 fun t15=>
qS 3 t15 t13 S12 fun S16=>
qE 82 p4 0 3 (up S16 13) fun t18=>
zR t6 (qE 145 t6 2 3 (up S16 13) fun t20=>
C 203 [t18,t20] (up S16 13) fun t21 S22=>
eB t21 0 fun t23=>
eB t21 1 fun t24=>
qF 82 p4 0 fun t25=>
qS 3 t25 t23 S22 fun S26=>
qE 82 p4 1 3 (up S26 13) fun t28=>
zR t6 (qE 145 t6 3 3 (up S26 13) fun t30=>
C 203 [t28,t30] (up S26 13) fun t31 S32=>
eB t31 0 fun t33=>
eB t31 1 fun t34=>
qF 82 p4 1 fun t35=>
qS 3 t35 t33 S32 fun S36=>
(qG .neq 31 t14 (jI 0) fun t41=>
aK t41 (uE C K again0 p0 p2 x3 p4 p15 x16 (.bool true) S36) ((qG .neq 31 t24 (jI 0) fun t42=>
aK t42 (uE C K again0 p0 p2 x3 p4 p15 x16 (.bool true) S36) ((qG .neq 31 t34 (jI 0) fun t43=>
uE C K again0 p0 p2 x3 p4 p15 x16 t43 S36))))))))))) (qE 82 p4 0 3 S fun t45=>
qE 82 p4 1 3 S fun t47=>
C 203 [t45,t47] S fun t48 S49=>
eB t48 0 fun t50=>
eB t48 1 fun t51=>
(qG .neq 31 t51 (jI 0) fun t52=>
aK t52 (qD 82 [] fun t53=>
qS 82 p2 t53 S49 fun S54=>
qL 82 p2 S54 fun t55=>
K (.tup [t55,t51]) S54) (qF 82 p4 2 fun t56=>
qS 3 t56 t50 S49 fun S57=>
qL 82 p4 S57 fun t58=>
qS 82 p2 t58 S57 fun S59=>
qL 82 p2 S59 fun t60=>
K (.tup [t60,(jI 0)]) S59)))
def aWp (C:aM) (a0:V) (S:St) (K:KW):Prop:=
qN S 4 [jI 0,jI 0,jI 0,.nils] fun r0=>
qD 82 [(3,a0)] fun t1=>
qN r0.2 4 [jI 0,jI 0,jI 0,.nils] fun r2=>
qS 82 (pt r2) t1 r2.2 fun S3=>
qZ 80 a0 S3 fun t4=>
fZ [(jI 0),(jI 0)] S3 (aH2 C K a0 (pt r0) (pt r2) t4)
theorem aWq:(fun (C:aM) (a0:V) (S:St) (K:KW)=>dJ prog C aKl aKm 270 [a0] S K)=fun C a0 S K=>aWp C a0 S K:=by kernel_rfl
theorem bMd (C:aM) (a0:V) (S:St) (K:KW):dJ prog C aKl aKm 270 [a0] S K=aWp C a0 S K:=congrFun (congrFun (congrFun (congrFun aWq C) a0) S) K
theorem bMe {a0:V} {S:St} {K:KW} (h:aWp C a0 S K):C 270 [a0] S K:=aGi (p:=aKl) (lv:=aKm) (by kernel_rfl) (by rw [bMd];exact h)
abbrev App (T n b:Nat):Prop:=∀ (s x:V) (fr:Option Nat) (S:St),fT prog T s x fr S=dO n b s x fr S
abbrev Bd (T:Nat) (z:List V) (pl:List (Nat×Nat)):Prop:=∀ parts:List (Nat×V),oM prog T parts=vV z pl parts
abbrev Bs (T n:Nat) (z:List V):Prop:=∀ (len:Nat) (parts:List (Nat×V)) (fr:Option Nat) (S:St),cO prog T len parts fr S=bN n z len parts fr S
abbrev Cv (s d:Nat) (k:IntKind):Prop:=∀ (j:IntKind) (n:Int) (fr:Option Nat) (S:St),eA prog s d (.int j n) fr S=.ok (.int k (wr k n),S)
abbrev Fa (s f o:Nat):Prop:=∀ p:V,dK prog s p f=advW o p
abbrev Ix (T n:Nat):Prop:=∀ x i:V,cV prog T x i=gV n x i
abbrev Ld (T:Nat) (k:Option Nat):Prop:=∀ (p:V) (S:St),lT prog T p S=iJ k p S
abbrev Ln (T:Nat):Prop:=∀ (x:V) (S:St),zF prog T x S=lenW x
abbrev Sl_ (T n:Nat):Prop:=∀ (a ver off len:Nat) (lo hi:Option V),dY prog T (.sl a ver n off len) lo hi=(match dM len lo hi with
  | .ok (l,h)=>.ok (.sl a ver n (off+l) (h - l))
  | .error e=>.error e)
abbrev Si (T n:Nat):Prop:=∀ (es:List (List V)) (hl:jE n es=true) (lo hi:Option V),dY prog T (.imm es) lo hi=(match dM es.length lo hi with
  | .ok (l,h)=>.ok (.imm ((es.take h).drop l))
  | .error e=>.error e)
abbrev Sr (T n:Nat):Prop:=∀ (p x:V) (S:St),oL prog T p x S=fU n p x S
theorem aS2:App 102 23 224:=cM (by kernel_rfl)
theorem aZ0:App 22 1 1:=cM (by kernel_rfl)
theorem aZ1:App 24 5 48:=cM (by kernel_rfl)
theorem aZ2:App 25 4 40:=cM (by kernel_rfl)
theorem aZ3:App 26 12 128:=cM (by kernel_rfl)
theorem aZ4:App 27 2 24:=cM (by kernel_rfl)
theorem aZ5:App 28 5 40:=cM (by kernel_rfl)
theorem aZ6:App 44 17 176:=cM (by kernel_rfl)
theorem aZ7:App 55 4 48:=cM (by kernel_rfl)
theorem aZ8:App 62 3 24:=cM (by kernel_rfl)
theorem aZ9:App 71 4 40:=cM (by kernel_rfl)
theorem aZa:App 80 4 40:=cM (by kernel_rfl)
theorem aZb:App 96 1 8:=cM (by kernel_rfl)
theorem aZc:App 97 23 224:=cM (by kernel_rfl)
theorem aZd:Bd 126 [.str [],.int .i64 0,.int .i64 0,.bool false] [(0,1),(1,1),(2,1),(3,1)]:=bR (by kernel_rfl)
theorem aZe:Bd 132 [.int .i64 0,.int .i64 0,.int .i64 0,.int .i64 0,.int .i64 0] [(0,1),(1,1),(2,3)]:=bR (by kernel_rfl)
theorem aZf:Bd 142 [.nils,.int .i64 0,.int .i64 0] [(0,1),(1,1),(2,1)]:=bR (by kernel_rfl)
theorem aZg:Bd 145 [.str [],.int .i64 0,.int .i64 0,.int .i64 0] [(0,1),(1,1),(2,1),(3,1)]:=bR (by kernel_rfl)
theorem aZh:Bd 160 [.nils] [(0,1)]:=bR (by kernel_rfl)
theorem aZi:Bd 201 [.str [],.str [],.int .i64 0,.int .i64 0] [(0,1),(1,1),(2,1),(3,1)]:=bR (by kernel_rfl)
theorem aZj:Bd 207 [.int .i64 0,.int .i64 0,.int .i64 0,.str [],.int .i64 0,.str [],.int .i64 0,.int .i64 0,.int .i64 0,.int .i64 0,.int .i64 0,.int .i64 0,.int .i64 0,.nils,.str [],.int .i64 0,.int .i64 0,.int .i64 0,.int .i64 0,.int .i64 0,.int .i64 0,.int .i64 0,.int .i64 0] [(0,17),(17,1),(18,1),(19,1),(20,3)]:=bR (by kernel_rfl)
theorem aZk:Bd 212 [.nili] [(0,1)]:=bR (by kernel_rfl)
theorem aZl:Bd 225 [.nils,.int .i64 0,.int .i64 0] [(0,1),(1,1),(2,1)]:=bR (by kernel_rfl)
theorem aZm:Bd 287 [.nils,.bool false] [(0,1),(1,1)]:=bR (by kernel_rfl)
theorem bDw:Bd 30 [.nils,.nils,.nils,.nils,.nils,.int .i64 0] [(0,1),(1,1),(2,1),(3,1),(4,1),(5,1)]:=bR (by kernel_rfl)
theorem aZn:Bd 346 [.int .i64 0,.int .u64 0] [(0,1),(1,1)]:=bR (by kernel_rfl)
theorem bDx:Bd 48 [.int .i64 0,.int .i64 0,.int .i64 0] [(0,1),(1,1),(2,1)]:=bR (by kernel_rfl)
theorem bDy:Bd 52 [.int .i64 0,.int .i64 0,.int .i64 0] [(0,1),(1,1),(2,1)]:=bR (by kernel_rfl)
theorem bDz:Bd 54 [.str [],.int .i64 0,.int .i64 0,.int .i64 0,.int .i64 0] [(0,1),(1,3),(4,1)]:=bR (by kernel_rfl)
theorem bE0:Bd 57 [.str [],.int .i64 0] [(0,1),(1,1)]:=bR (by kernel_rfl)
theorem bE1:Bd 59 [.int .i64 0,.str [],.int .i64 0,.str [],.int .i64 0,.int .i64 0,.int .i64 0,.int .i64 0,.int .i64 0,.int .i64 0,.int .i64 0,.nils,.str [],.int .i64 0,.int .i64 0] [(0,1),(1,1),(2,1),(3,5),(8,3),(11,1),(12,2),(14,1)]:=bR (by kernel_rfl)
theorem bE2:Bd 61 [.int .i64 0,.int .i64 0,.int .i64 0,.str [],.int .i64 0,.str [],.int .i64 0,.int .i64 0,.int .i64 0,.int .i64 0,.int .i64 0,.int .i64 0,.int .i64 0,.nils,.str [],.int .i64 0,.int .i64 0] [(0,1),(1,1),(2,15)]:=bR (by kernel_rfl)
theorem bE3:Bd 76 [.str [],.int .i64 0,.int .i64 0,.int .i64 0] [(0,1),(1,1),(2,1),(3,1)]:=bR (by kernel_rfl)
theorem bE4:Bd 77 [.str [],.int .i64 0,.int .i64 0,.int .i64 0] [(0,1),(1,1),(2,1),(3,1)]:=bR (by kernel_rfl)
theorem bE5:Bd 82 [.int .i64 0,.int .i64 0,.int .i64 0,.nils] [(0,1),(1,1),(2,1),(3,1)]:=bR (by kernel_rfl)
theorem bE6:Bd 84 [.str [],.int .i64 0,.int .i64 0,.int .i64 0,.int .i64 0,.int .i64 0,.int .i64 0,.int .i64 0,.nils,.str [],.int .i64 0,.bool false] [(0,2),(2,3),(5,4),(9,2),(11,1)]:=bR (by kernel_rfl)
theorem bE7:Bd 90 [.str [],.int .i64 0] [(0,1),(1,1)]:=bR (by kernel_rfl)
theorem bE8:Bd 99 [.int .i64 0,.int .i64 0,.int .i64 0,.str [],.int .i64 0,.str [],.int .i64 0,.int .i64 0,.int .i64 0,.int .i64 0,.int .i64 0,.int .i64 0,.int .i64 0,.nils,.str [],.int .i64 0,.int .i64 0,.int .i64 0,.int .i64 0,.int .i64 0,.int .i64 0,.int .i64 0,.int .i64 0] [(0,17),(17,1),(18,1),(19,1),(20,3)]:=bR (by kernel_rfl)
theorem aZo:Bs 102 23 [.int .i64 0,.int .i64 0,.int .i64 0,.str [],.int .i64 0,.str [],.int .i64 0,.int .i64 0,.int .i64 0,.int .i64 0,.int .i64 0,.int .i64 0,.int .i64 0,.nils,.str [],.int .i64 0,.int .i64 0,.int .i64 0,.int .i64 0,.int .i64 0,.int .i64 0,.int .i64 0,.int .i64 0]:=aZ (by kernel_rfl)
theorem bE9:Bs 22 1 [.int .u8 0]:=aZ (by kernel_rfl)
theorem bEa:Bs 24 5 [.str [],.int .i64 0,.int .i64 0,.int .i64 0,.int .i64 0]:=aZ (by kernel_rfl)
theorem bEb:Bs 25 4 [.str [],.int .i64 0,.int .i64 0,.bool false]:=aZ (by kernel_rfl)
theorem bEc:Bs 26 12 [.str [],.int .i64 0,.int .i64 0,.int .i64 0,.int .i64 0,.int .i64 0,.int .i64 0,.int .i64 0,.nils,.str [],.int .i64 0,.bool false]:=aZ (by kernel_rfl)
theorem bEd:Bs 27 2 [.str [],.int .i64 0]:=aZ (by kernel_rfl)
theorem bEe:Bs 28 5 [.int .i64 0,.int .i64 0,.int .i64 0,.int .i64 0,.int .i64 0]:=aZ (by kernel_rfl)
theorem aZp:Bs 361 1 [.nilp]:=aZ (by kernel_rfl)
theorem aZq:Bs 364 1 [.str []]:=aZ (by kernel_rfl)
theorem bEf:Bs 44 17 [.int .i64 0,.int .i64 0,.int .i64 0,.str [],.int .i64 0,.str [],.int .i64 0,.int .i64 0,.int .i64 0,.int .i64 0,.int .i64 0,.int .i64 0,.int .i64 0,.nils,.str [],.int .i64 0,.int .i64 0]:=aZ (by kernel_rfl)
theorem bEg:Bs 55 4 [.str [],.str [],.int .i64 0,.int .i64 0]:=aZ (by kernel_rfl)
theorem bEh:Bs 62 3 [.int .i64 0,.int .i64 0,.int .i64 0]:=aZ (by kernel_rfl)
theorem bEi:Bs 68 4 [.str [],.int .i64 0,.int .i64 0,.int .i64 0]:=aZ (by kernel_rfl)
theorem bEj:Bs 71 4 [.str [],.int .i64 0,.int .i64 0,.int .i64 0]:=aZ (by kernel_rfl)
theorem bEk:Bs 80 4 [.str [],.int .i64 0,.int .i64 0,.int .i64 0]:=aZ (by kernel_rfl)
theorem bEl:Bs 96 1 [.int .i64 0]:=aZ (by kernel_rfl)
theorem bEm:Bs 97 23 [.int .i64 0,.int .i64 0,.int .i64 0,.str [],.int .i64 0,.str [],.int .i64 0,.int .i64 0,.int .i64 0,.int .i64 0,.int .i64 0,.int .i64 0,.int .i64 0,.nils,.str [],.int .i64 0,.int .i64 0,.int .i64 0,.int .i64 0,.int .i64 0,.int .i64 0,.int .i64 0,.int .i64 0]:=aZ (by kernel_rfl)
theorem aMj:Cv 229 3 .i64:=lF (by kernel_rfl)
theorem aMk:Cv 229 5 .u8:=lF (by kernel_rfl)
theorem aMl:Cv 3 229 .u64:=lF (by kernel_rfl)
theorem aMm:Cv 3 231 .u64:=lF (by kernel_rfl)
theorem aMn:Cv 5 229 .u64:=lF (by kernel_rfl)
theorem bBr:(fun (a_0:List UInt8) (a_1:Int) (a_2:Int) (a_3:Bool) (b_0:List UInt8) (b_1:Int) (b_2:Int) (b_3:Bool)=>sF prog 100 126 (.agg [.str a_0,.int .i64 a_1,.int .i64 a_2,.bool a_3]) (.agg [.str b_0,.int .i64 b_1,.int .i64 b_2,.bool b_3]))=fun a_0 a_1 a_2 a_3 b_0 b_1 b_2 b_3=>(fK (.ok (pQ a_0 b_0)) (fK (.ok (decide (a_1=b_1))) (fK (.ok (decide (a_2=b_2))) (fK (.ok (a_3 == b_3)) (.ok true))))):=by kernel_rfl
theorem aZr (a_0:List UInt8) (a_1:Int) (a_2:Int) (a_3:Bool) (b_0:List UInt8) (b_1:Int) (b_2:Int) (b_3:Bool):sF prog 100 126 (.agg [.str a_0,.int .i64 a_1,.int .i64 a_2,.bool a_3]) (.agg [.str b_0,.int .i64 b_1,.int .i64 b_2,.bool b_3])=.ok ((a_0 == b_0)&&decide (a_1=b_1)&&decide (a_2=b_2)&&(a_3 == b_3)):=by
 refine (congrFun (congrFun (congrFun (congrFun (congrFun (congrFun (congrFun (congrFun bBr a_0) a_1) a_2) a_3) b_0) b_1) b_2) b_3).trans ?_
 simp only [jO,cW,Bool.and_true,Bool.and_assoc]
theorem bEn:(fun a b=>cE prog 126 (.agg a) (.agg b))=fun _ _=>true:=by kernel_rfl
theorem aZs (a b:List V):cE prog 126 (.agg a) (.agg b)=true:=congrFun (congrFun bEn a) b
theorem bBs:(fun (a_0:Int) (a_1:Int) (a_2_0:Int) (a_2_1:Int) (a_2_2:Int) (b_0:Int) (b_1:Int) (b_2_0:Int) (b_2_1:Int) (b_2_2:Int)=>sF prog 100 132 (.agg [.int .i64 a_0,.int .i64 a_1,.int .i64 a_2_0,.int .i64 a_2_1,.int .i64 a_2_2]) (.agg [.int .i64 b_0,.int .i64 b_1,.int .i64 b_2_0,.int .i64 b_2_1,.int .i64 b_2_2]))=fun a_0 a_1 a_2_0 a_2_1 a_2_2 b_0 b_1 b_2_0 b_2_1 b_2_2=>(fK (.ok (decide (a_0=b_0))) (fK (.ok (decide (a_1=b_1))) (fK (fK (.ok (decide (a_2_0=b_2_0))) (fK (.ok (decide (a_2_1=b_2_1))) (fK (.ok (decide (a_2_2=b_2_2))) (.ok true)))) (.ok true)))):=by kernel_rfl
theorem aZt (a_0:Int) (a_1:Int) (a_2_0:Int) (a_2_1:Int) (a_2_2:Int) (b_0:Int) (b_1:Int) (b_2_0:Int) (b_2_1:Int) (b_2_2:Int):sF prog 100 132 (.agg [.int .i64 a_0,.int .i64 a_1,.int .i64 a_2_0,.int .i64 a_2_1,.int .i64 a_2_2]) (.agg [.int .i64 b_0,.int .i64 b_1,.int .i64 b_2_0,.int .i64 b_2_1,.int .i64 b_2_2])=.ok (decide (a_0=b_0)&&decide (a_1=b_1)&&decide (a_2_0=b_2_0)&&decide (a_2_1=b_2_1)&&decide (a_2_2=b_2_2)):=by
 refine (congrFun (congrFun (congrFun (congrFun (congrFun (congrFun (congrFun (congrFun (congrFun (congrFun bBs a_0) a_1) a_2_0) a_2_1) a_2_2) b_0) b_1) b_2_0) b_2_1) b_2_2).trans ?_
 simp only [jO,cW,Bool.and_true,Bool.and_assoc]
theorem bEo:(fun a b=>cE prog 132 (.agg a) (.agg b))=fun _ _=>true:=by kernel_rfl
theorem aZu (a b:List V):cE prog 132 (.agg a) (.agg b)=true:=congrFun (congrFun bEo a) b
theorem bBt:(fun (a_0:List UInt8) (a_1:Int) (a_2:Int) (a_3:Int) (b_0:List UInt8) (b_1:Int) (b_2:Int) (b_3:Int)=>sF prog 100 145 (.agg [.str a_0,.int .i64 a_1,.int .i64 a_2,.int .i64 a_3]) (.agg [.str b_0,.int .i64 b_1,.int .i64 b_2,.int .i64 b_3]))=fun a_0 a_1 a_2 a_3 b_0 b_1 b_2 b_3=>(fK (.ok (pQ a_0 b_0)) (fK (.ok (decide (a_1=b_1))) (fK (.ok (decide (a_2=b_2))) (fK (.ok (decide (a_3=b_3))) (.ok true))))):=by kernel_rfl
theorem aZv (a_0:List UInt8) (a_1:Int) (a_2:Int) (a_3:Int) (b_0:List UInt8) (b_1:Int) (b_2:Int) (b_3:Int):sF prog 100 145 (.agg [.str a_0,.int .i64 a_1,.int .i64 a_2,.int .i64 a_3]) (.agg [.str b_0,.int .i64 b_1,.int .i64 b_2,.int .i64 b_3])=.ok ((a_0 == b_0)&&decide (a_1=b_1)&&decide (a_2=b_2)&&decide (a_3=b_3)):=by
 refine (congrFun (congrFun (congrFun (congrFun (congrFun (congrFun (congrFun (congrFun bBt a_0) a_1) a_2) a_3) b_0) b_1) b_2) b_3).trans ?_
 simp only [jO,cW,Bool.and_true,Bool.and_assoc]
theorem bEp:(fun a b=>cE prog 145 (.agg a) (.agg b))=fun _ _=>true:=by kernel_rfl
theorem aZw (a b:List V):cE prog 145 (.agg a) (.agg b)=true:=congrFun (congrFun bEp a) b
theorem bBu:(fun (a_0:List UInt8) (a_1:List UInt8) (a_2:Int) (a_3:Int) (b_0:List UInt8) (b_1:List UInt8) (b_2:Int) (b_3:Int)=>sF prog 100 201 (.agg [.str a_0,.str a_1,.int .i64 a_2,.int .i64 a_3]) (.agg [.str b_0,.str b_1,.int .i64 b_2,.int .i64 b_3]))=fun a_0 a_1 a_2 a_3 b_0 b_1 b_2 b_3=>(fK (.ok (pQ a_0 b_0)) (fK (.ok (pQ a_1 b_1)) (fK (.ok (decide (a_2=b_2))) (fK (.ok (decide (a_3=b_3))) (.ok true))))):=by kernel_rfl
theorem aZx (a_0:List UInt8) (a_1:List UInt8) (a_2:Int) (a_3:Int) (b_0:List UInt8) (b_1:List UInt8) (b_2:Int) (b_3:Int):sF prog 100 201 (.agg [.str a_0,.str a_1,.int .i64 a_2,.int .i64 a_3]) (.agg [.str b_0,.str b_1,.int .i64 b_2,.int .i64 b_3])=.ok ((a_0 == b_0)&&(a_1 == b_1)&&decide (a_2=b_2)&&decide (a_3=b_3)):=by
 refine (congrFun (congrFun (congrFun (congrFun (congrFun (congrFun (congrFun (congrFun bBu a_0) a_1) a_2) a_3) b_0) b_1) b_2) b_3).trans ?_
 simp only [jO,cW,Bool.and_true,Bool.and_assoc]
theorem bEq:(fun a b=>cE prog 201 (.agg a) (.agg b))=fun _ _=>true:=by kernel_rfl
theorem aZy (a b:List V):cE prog 201 (.agg a) (.agg b)=true:=congrFun (congrFun bEq a) b
theorem bBv:(fun (a_0:Int) (a_1:Int) (b_0:Int) (b_1:Int)=>sF prog 100 346 (.agg [.int .i64 a_0,.int .u64 a_1]) (.agg [.int .i64 b_0,.int .u64 b_1]))=fun a_0 a_1 b_0 b_1=>(fK (.ok (decide (a_0=b_0))) (fK (.ok (decide (a_1=b_1))) (.ok true))):=by kernel_rfl
theorem aZz (a_0:Int) (a_1:Int) (b_0:Int) (b_1:Int):sF prog 100 346 (.agg [.int .i64 a_0,.int .u64 a_1]) (.agg [.int .i64 b_0,.int .u64 b_1])=.ok (decide (a_0=b_0)&&decide (a_1=b_1)):=by
 refine (congrFun (congrFun (congrFun (congrFun bBv a_0) a_1) b_0) b_1).trans ?_
 simp only [jO,cW,Bool.and_true,Bool.and_assoc]
theorem bEr:(fun a b=>cE prog 346 (.agg a) (.agg b))=fun _ _=>true:=by kernel_rfl
theorem bA0 (a b:List V):cE prog 346 (.agg a) (.agg b)=true:=congrFun (congrFun bEr a) b
theorem bEs:(fun (a_0:Int) (a_1:Int) (a_2:Int) (b_0:Int) (b_1:Int) (b_2:Int)=>sF prog 100 48 (.agg [.int .i64 a_0,.int .i64 a_1,.int .i64 a_2]) (.agg [.int .i64 b_0,.int .i64 b_1,.int .i64 b_2]))=fun a_0 a_1 a_2 b_0 b_1 b_2=>(fK (.ok (decide (a_0=b_0))) (fK (.ok (decide (a_1=b_1))) (fK (.ok (decide (a_2=b_2))) (.ok true)))):=by kernel_rfl
theorem bEt (a_0:Int) (a_1:Int) (a_2:Int) (b_0:Int) (b_1:Int) (b_2:Int):sF prog 100 48 (.agg [.int .i64 a_0,.int .i64 a_1,.int .i64 a_2]) (.agg [.int .i64 b_0,.int .i64 b_1,.int .i64 b_2])=.ok (decide (a_0=b_0)&&decide (a_1=b_1)&&decide (a_2=b_2)):=by
 refine (congrFun (congrFun (congrFun (congrFun (congrFun (congrFun bEs a_0) a_1) a_2) b_0) b_1) b_2).trans ?_
 simp only [jO,cW,Bool.and_true,Bool.and_assoc]
theorem bMf:(fun a b=>cE prog 48 (.agg a) (.agg b))=fun _ _=>true:=by kernel_rfl
theorem bEu (a b:List V):cE prog 48 (.agg a) (.agg b)=true:=congrFun (congrFun bMf a) b
theorem bEv:(fun (a_0:Int) (a_1:Int) (a_2:Int) (b_0:Int) (b_1:Int) (b_2:Int)=>sF prog 100 52 (.agg [.int .i64 a_0,.int .i64 a_1,.int .i64 a_2]) (.agg [.int .i64 b_0,.int .i64 b_1,.int .i64 b_2]))=fun a_0 a_1 a_2 b_0 b_1 b_2=>(fK (.ok (decide (a_0=b_0))) (fK (.ok (decide (a_1=b_1))) (fK (.ok (decide (a_2=b_2))) (.ok true)))):=by kernel_rfl
theorem bEw (a_0:Int) (a_1:Int) (a_2:Int) (b_0:Int) (b_1:Int) (b_2:Int):sF prog 100 52 (.agg [.int .i64 a_0,.int .i64 a_1,.int .i64 a_2]) (.agg [.int .i64 b_0,.int .i64 b_1,.int .i64 b_2])=.ok (decide (a_0=b_0)&&decide (a_1=b_1)&&decide (a_2=b_2)):=by
 refine (congrFun (congrFun (congrFun (congrFun (congrFun (congrFun bEv a_0) a_1) a_2) b_0) b_1) b_2).trans ?_
 simp only [jO,cW,Bool.and_true,Bool.and_assoc]
theorem bMg:(fun a b=>cE prog 52 (.agg a) (.agg b))=fun _ _=>true:=by kernel_rfl
theorem bEx (a b:List V):cE prog 52 (.agg a) (.agg b)=true:=congrFun (congrFun bMg a) b
theorem bEy:(fun (a_0:List UInt8) (a_1_0:Int) (a_1_1:Int) (a_1_2:Int) (a_2:Int) (b_0:List UInt8) (b_1_0:Int) (b_1_1:Int) (b_1_2:Int) (b_2:Int)=>sF prog 100 54 (.agg [.str a_0,.int .i64 a_1_0,.int .i64 a_1_1,.int .i64 a_1_2,.int .i64 a_2]) (.agg [.str b_0,.int .i64 b_1_0,.int .i64 b_1_1,.int .i64 b_1_2,.int .i64 b_2]))=fun a_0 a_1_0 a_1_1 a_1_2 a_2 b_0 b_1_0 b_1_1 b_1_2 b_2=>(fK (.ok (pQ a_0 b_0)) (fK (fK (.ok (decide (a_1_0=b_1_0))) (fK (.ok (decide (a_1_1=b_1_1))) (fK (.ok (decide (a_1_2=b_1_2))) (.ok true)))) (fK (.ok (decide (a_2=b_2))) (.ok true)))):=by kernel_rfl
theorem bEz (a_0:List UInt8) (a_1_0:Int) (a_1_1:Int) (a_1_2:Int) (a_2:Int) (b_0:List UInt8) (b_1_0:Int) (b_1_1:Int) (b_1_2:Int) (b_2:Int):sF prog 100 54 (.agg [.str a_0,.int .i64 a_1_0,.int .i64 a_1_1,.int .i64 a_1_2,.int .i64 a_2]) (.agg [.str b_0,.int .i64 b_1_0,.int .i64 b_1_1,.int .i64 b_1_2,.int .i64 b_2])=.ok ((a_0 == b_0)&&decide (a_1_0=b_1_0)&&decide (a_1_1=b_1_1)&&decide (a_1_2=b_1_2)&&decide (a_2=b_2)):=by
 refine (congrFun (congrFun (congrFun (congrFun (congrFun (congrFun (congrFun (congrFun (congrFun (congrFun bEy a_0) a_1_0) a_1_1) a_1_2) a_2) b_0) b_1_0) b_1_1) b_1_2) b_2).trans ?_
 simp only [jO,cW,Bool.and_true,Bool.and_assoc]
theorem bMh:(fun a b=>cE prog 54 (.agg a) (.agg b))=fun _ _=>true:=by kernel_rfl
theorem bF0 (a b:List V):cE prog 54 (.agg a) (.agg b)=true:=congrFun (congrFun bMh a) b
theorem bF1:(fun (a_0:List UInt8) (a_1:Int) (b_0:List UInt8) (b_1:Int)=>sF prog 100 57 (.agg [.str a_0,.int .i64 a_1]) (.agg [.str b_0,.int .i64 b_1]))=fun a_0 a_1 b_0 b_1=>(fK (.ok (pQ a_0 b_0)) (fK (.ok (decide (a_1=b_1))) (.ok true))):=by kernel_rfl
theorem bF2 (a_0:List UInt8) (a_1:Int) (b_0:List UInt8) (b_1:Int):sF prog 100 57 (.agg [.str a_0,.int .i64 a_1]) (.agg [.str b_0,.int .i64 b_1])=.ok ((a_0 == b_0)&&decide (a_1=b_1)):=by
 refine (congrFun (congrFun (congrFun (congrFun bF1 a_0) a_1) b_0) b_1).trans ?_
 simp only [jO,cW,Bool.and_true,Bool.and_assoc]
theorem bMi:(fun a b=>cE prog 57 (.agg a) (.agg b))=fun _ _=>true:=by kernel_rfl
theorem bF3 (a b:List V):cE prog 57 (.agg a) (.agg b)=true:=congrFun (congrFun bMi a) b
theorem bF4:(fun (a_0:List UInt8) (a_1:Int) (a_2:Int) (a_3:Int) (b_0:List UInt8) (b_1:Int) (b_2:Int) (b_3:Int)=>sF prog 100 76 (.agg [.str a_0,.int .i64 a_1,.int .i64 a_2,.int .i64 a_3]) (.agg [.str b_0,.int .i64 b_1,.int .i64 b_2,.int .i64 b_3]))=fun a_0 a_1 a_2 a_3 b_0 b_1 b_2 b_3=>(fK (.ok (pQ a_0 b_0)) (fK (.ok (decide (a_1=b_1))) (fK (.ok (decide (a_2=b_2))) (fK (.ok (decide (a_3=b_3))) (.ok true))))):=by kernel_rfl
theorem bF5 (a_0:List UInt8) (a_1:Int) (a_2:Int) (a_3:Int) (b_0:List UInt8) (b_1:Int) (b_2:Int) (b_3:Int):sF prog 100 76 (.agg [.str a_0,.int .i64 a_1,.int .i64 a_2,.int .i64 a_3]) (.agg [.str b_0,.int .i64 b_1,.int .i64 b_2,.int .i64 b_3])=.ok ((a_0 == b_0)&&decide (a_1=b_1)&&decide (a_2=b_2)&&decide (a_3=b_3)):=by
 refine (congrFun (congrFun (congrFun (congrFun (congrFun (congrFun (congrFun (congrFun bF4 a_0) a_1) a_2) a_3) b_0) b_1) b_2) b_3).trans ?_
 simp only [jO,cW,Bool.and_true,Bool.and_assoc]
theorem bMj:(fun a b=>cE prog 76 (.agg a) (.agg b))=fun _ _=>true:=by kernel_rfl
theorem bF6 (a b:List V):cE prog 76 (.agg a) (.agg b)=true:=congrFun (congrFun bMj a) b
theorem bF7:(fun (a_0:List UInt8) (a_1:Int) (b_0:List UInt8) (b_1:Int)=>sF prog 100 90 (.agg [.str a_0,.int .i64 a_1]) (.agg [.str b_0,.int .i64 b_1]))=fun a_0 a_1 b_0 b_1=>(fK (.ok (pQ a_0 b_0)) (fK (.ok (decide (a_1=b_1))) (.ok true))):=by kernel_rfl
theorem bF8 (a_0:List UInt8) (a_1:Int) (b_0:List UInt8) (b_1:Int):sF prog 100 90 (.agg [.str a_0,.int .i64 a_1]) (.agg [.str b_0,.int .i64 b_1])=.ok ((a_0 == b_0)&&decide (a_1=b_1)):=by
 refine (congrFun (congrFun (congrFun (congrFun bF7 a_0) a_1) b_0) b_1).trans ?_
 simp only [jO,cW,Bool.and_true,Bool.and_assoc]
theorem bMk:(fun a b=>cE prog 90 (.agg a) (.agg b))=fun _ _=>true:=by kernel_rfl
theorem bF9 (a b:List V):cE prog 90 (.agg a) (.agg b)=true:=congrFun (congrFun bMk a) b
theorem aMo:Fa 126 0 0:=aB (by kernel_rfl)
theorem aMp:Fa 126 1 1:=aB (by kernel_rfl)
theorem aMq:Fa 126 2 2:=aB (by kernel_rfl)
theorem aMr:Fa 126 3 3:=aB (by kernel_rfl)
theorem aMs:Fa 132 0 0:=aB (by kernel_rfl)
theorem aMt:Fa 132 1 1:=aB (by kernel_rfl)
theorem aMu:Fa 132 2 2:=aB (by kernel_rfl)
theorem aMv:Fa 142 0 0:=aB (by kernel_rfl)
theorem aMw:Fa 142 1 1:=aB (by kernel_rfl)
theorem aMx:Fa 142 2 2:=aB (by kernel_rfl)
theorem aMy:Fa 145 0 0:=aB (by kernel_rfl)
theorem aMz:Fa 145 1 1:=aB (by kernel_rfl)
theorem aN0:Fa 145 2 2:=aB (by kernel_rfl)
theorem aN1:Fa 145 3 3:=aB (by kernel_rfl)
theorem aN2:Fa 160 0 0:=aB (by kernel_rfl)
theorem aN3:Fa 201 0 0:=aB (by kernel_rfl)
theorem aN4:Fa 201 1 1:=aB (by kernel_rfl)
theorem aN5:Fa 201 2 2:=aB (by kernel_rfl)
theorem aN6:Fa 201 3 3:=aB (by kernel_rfl)
theorem aN7:Fa 207 0 0:=aB (by kernel_rfl)
theorem aN8:Fa 207 1 17:=aB (by kernel_rfl)
theorem aN9:Fa 207 2 18:=aB (by kernel_rfl)
theorem aNa:Fa 207 3 19:=aB (by kernel_rfl)
theorem aNb:Fa 207 4 20:=aB (by kernel_rfl)
theorem aNc:Fa 220 1 1:=aB (by kernel_rfl)
theorem aNd:Fa 220 2 2:=aB (by kernel_rfl)
theorem aNe:Fa 225 0 0:=aB (by kernel_rfl)
theorem aNf:Fa 225 1 1:=aB (by kernel_rfl)
theorem aNg:Fa 225 2 2:=aB (by kernel_rfl)
theorem aNh:Fa 287 0 0:=aB (by kernel_rfl)
theorem aNi:Fa 287 1 1:=aB (by kernel_rfl)
theorem aS3:Fa 30 0 0:=aB (by kernel_rfl)
theorem aS4:Fa 30 1 1:=aB (by kernel_rfl)
theorem aS5:Fa 30 2 2:=aB (by kernel_rfl)
theorem aS6:Fa 30 3 3:=aB (by kernel_rfl)
theorem aS7:Fa 30 4 4:=aB (by kernel_rfl)
theorem aS8:Fa 30 5 5:=aB (by kernel_rfl)
theorem aNj:Fa 346 0 0:=aB (by kernel_rfl)
theorem aNk:Fa 346 1 1:=aB (by kernel_rfl)
theorem aS9:Fa 48 0 0:=aB (by kernel_rfl)
theorem aSa:Fa 48 1 1:=aB (by kernel_rfl)
theorem aSb:Fa 48 2 2:=aB (by kernel_rfl)
theorem aSc:Fa 52 0 0:=aB (by kernel_rfl)
theorem aSd:Fa 52 1 1:=aB (by kernel_rfl)
theorem aSe:Fa 52 2 2:=aB (by kernel_rfl)
theorem aSf:Fa 54 0 0:=aB (by kernel_rfl)
theorem aSg:Fa 54 1 1:=aB (by kernel_rfl)
theorem aSh:Fa 54 2 4:=aB (by kernel_rfl)
theorem aSi:Fa 57 0 0:=aB (by kernel_rfl)
theorem aSj:Fa 57 1 1:=aB (by kernel_rfl)
theorem aSk:Fa 59 0 0:=aB (by kernel_rfl)
theorem aSl:Fa 59 1 1:=aB (by kernel_rfl)
theorem aSm:Fa 59 2 2:=aB (by kernel_rfl)
theorem aSn:Fa 59 3 3:=aB (by kernel_rfl)
theorem aSo:Fa 59 4 8:=aB (by kernel_rfl)
theorem aSp:Fa 59 5 11:=aB (by kernel_rfl)
theorem aSq:Fa 59 6 12:=aB (by kernel_rfl)
theorem aSr:Fa 59 7 14:=aB (by kernel_rfl)
theorem aSs:Fa 61 0 0:=aB (by kernel_rfl)
theorem aSt:Fa 61 1 1:=aB (by kernel_rfl)
theorem aSu:Fa 61 2 2:=aB (by kernel_rfl)
theorem aSv:Fa 76 0 0:=aB (by kernel_rfl)
theorem aSw:Fa 76 1 1:=aB (by kernel_rfl)
theorem aSx:Fa 76 2 2:=aB (by kernel_rfl)
theorem aSy:Fa 76 3 3:=aB (by kernel_rfl)
theorem aSz:Fa 77 0 0:=aB (by kernel_rfl)
theorem aT0:Fa 77 1 1:=aB (by kernel_rfl)
theorem aT1:Fa 77 2 2:=aB (by kernel_rfl)
theorem aT2:Fa 77 3 3:=aB (by kernel_rfl)
theorem aT3:Fa 82 0 0:=aB (by kernel_rfl)
theorem aT4:Fa 82 1 1:=aB (by kernel_rfl)
theorem aT5:Fa 82 2 2:=aB (by kernel_rfl)
theorem aT6:Fa 82 3 3:=aB (by kernel_rfl)
theorem aT7:Fa 84 0 0:=aB (by kernel_rfl)
theorem aT8:Fa 84 1 2:=aB (by kernel_rfl)
theorem aT9:Fa 84 2 5:=aB (by kernel_rfl)
theorem aTa:Fa 84 3 9:=aB (by kernel_rfl)
theorem aTb:Fa 84 4 11:=aB (by kernel_rfl)
theorem aTc:Fa 90 0 0:=aB (by kernel_rfl)
theorem aTd:Fa 90 1 1:=aB (by kernel_rfl)
theorem aTe:Fa 99 0 0:=aB (by kernel_rfl)
theorem aTf:Fa 99 1 17:=aB (by kernel_rfl)
theorem aTg:Fa 99 2 18:=aB (by kernel_rfl)
theorem aTh:Fa 99 3 19:=aB (by kernel_rfl)
theorem aTi:Fa 99 4 20:=aB (by kernel_rfl)
theorem bA1:Ix 102 23:=bC (by kernel_rfl)
theorem bA2:Ix 114 3:=bC (by kernel_rfl)
theorem bFa:Ix 22 1:=bC (by kernel_rfl)
theorem bFb:Ix 24 5:=bC (by kernel_rfl)
theorem bFc:Ix 25 4:=bC (by kernel_rfl)
theorem bFd:Ix 26 12:=bC (by kernel_rfl)
theorem bFe:Ix 27 2:=bC (by kernel_rfl)
theorem bFf:Ix 28 5:=bC (by kernel_rfl)
theorem bA3:Ix 361 1:=bC (by kernel_rfl)
theorem bA4:Ix 364 1:=bC (by kernel_rfl)
theorem bFg:Ix 44 17:=bC (by kernel_rfl)
theorem bFh:Ix 55 4:=bC (by kernel_rfl)
theorem bFi:Ix 62 3:=bC (by kernel_rfl)
theorem bFj:Ix 68 4:=bC (by kernel_rfl)
theorem bFk:Ix 71 4:=bC (by kernel_rfl)
theorem bFl:Ix 80 4:=bC (by kernel_rfl)
theorem bFm:Ix 96 1:=bC (by kernel_rfl)
theorem bFn:Ix 97 23:=bC (by kernel_rfl)
theorem bA5:Ld 126 (some 4):=aW (by kernel_rfl)
theorem bA6:Ld 132 (some 5):=aW (by kernel_rfl)
theorem bA7:Ld 145 (some 4):=aW (by kernel_rfl)
theorem ld2:Ld 2 none:=aW (by kernel_rfl)
theorem bA8:Ld 201 (some 4):=aW (by kernel_rfl)
theorem bA9:Ld 212 (some 1):=aW (by kernel_rfl)
theorem bFo:Ld 22 none:=aW (by kernel_rfl)
theorem bAa:Ld 220 (some 3):=aW (by kernel_rfl)
theorem bAb:Ld 229 none:=aW (by kernel_rfl)
theorem bAc:Ld 232 none:=aW (by kernel_rfl)
theorem bFp:Ld 24 none:=aW (by kernel_rfl)
theorem bFq:Ld 25 none:=aW (by kernel_rfl)
theorem bFr:Ld 26 none:=aW (by kernel_rfl)
theorem bFs:Ld 27 none:=aW (by kernel_rfl)
theorem bFt:Ld 28 none:=aW (by kernel_rfl)
theorem ld3:Ld 3 none:=aW (by kernel_rfl)
theorem bFu:Ld 30 (some 6):=aW (by kernel_rfl)
theorem bFv:Ld 31 none:=aW (by kernel_rfl)
theorem bAd:Ld 346 (some 2):=aW (by kernel_rfl)
theorem bAe:Ld 349 none:=aW (by kernel_rfl)
theorem ld4:Ld 4 none:=aW (by kernel_rfl)
theorem bFw:Ld 48 (some 3):=aW (by kernel_rfl)
theorem ld5:Ld 5 none:=aW (by kernel_rfl)
theorem bFx:Ld 52 (some 3):=aW (by kernel_rfl)
theorem bFy:Ld 54 (some 5):=aW (by kernel_rfl)
theorem bFz:Ld 55 none:=aW (by kernel_rfl)
theorem bG0:Ld 57 (some 2):=aW (by kernel_rfl)
theorem bG1:Ld 59 (some 15):=aW (by kernel_rfl)
theorem bG2:Ld 61 (some 17):=aW (by kernel_rfl)
theorem bG3:Ld 76 (some 4):=aW (by kernel_rfl)
theorem bG4:Ld 80 none:=aW (by kernel_rfl)
theorem bG5:Ld 82 (some 4):=aW (by kernel_rfl)
theorem bG6:Ld 84 (some 12):=aW (by kernel_rfl)
theorem ld9:Ld 9 none:=aW (by kernel_rfl)
theorem bG7:Ld 90 (some 2):=aW (by kernel_rfl)
theorem bG8:Ld 99 (some 23):=aW (by kernel_rfl)
theorem aTj:Ln 102:=eG (by kernel_rfl)
theorem aTk:Ln 114:=eG (by kernel_rfl)
theorem bAf:Ln 22:=eG (by kernel_rfl)
theorem bAg:Ln 24:=eG (by kernel_rfl)
theorem bAh:Ln 25:=eG (by kernel_rfl)
theorem bAi:Ln 26:=eG (by kernel_rfl)
theorem bAj:Ln 27:=eG (by kernel_rfl)
theorem bAk:Ln 28:=eG (by kernel_rfl)
theorem aTl:Ln 361:=eG (by kernel_rfl)
theorem aTm:Ln 364:=eG (by kernel_rfl)
theorem bAl:Ln 44:=eG (by kernel_rfl)
theorem bAm:Ln 55:=eG (by kernel_rfl)
theorem bAn:Ln 62:=eG (by kernel_rfl)
theorem bAo:Ln 68:=eG (by kernel_rfl)
theorem bAp:Ln 71:=eG (by kernel_rfl)
theorem bAq:Ln 80:=eG (by kernel_rfl)
theorem bG9 (s:List UInt8) (S:St):zF prog 9 (.str s) S=.ok (.int .i64 s.length):=aOy (by kernel_rfl) s S
theorem bAr:Ln 96:=eG (by kernel_rfl)
theorem bAs:Ln 97:=eG (by kernel_rfl)
theorem bGa:Sl_ 22 1:=fJ (by kernel_rfl)
theorem bGb:Sl_ 24 5:=fJ (by kernel_rfl)
theorem bGc:Sl_ 25 4:=fJ (by kernel_rfl)
theorem bGd:Sl_ 26 12:=fJ (by kernel_rfl)
theorem bAt:Si 26 12:=aCz (by kernel_rfl)
theorem bBw:Sl_ 27 2:=fJ (by kernel_rfl)
theorem bGe:Sl_ 28 5:=fJ (by kernel_rfl)
theorem bGf:Sl_ 55 4:=fJ (by kernel_rfl)
theorem bGg:Si 55 4:=aCz (by kernel_rfl)
theorem aWr:Sl_ 71 4:=fJ (by kernel_rfl)
theorem bGh:Sl_ 80 4:=fJ (by kernel_rfl)
theorem bGi:Sl_ 96 1:=fJ (by kernel_rfl)
theorem bGj:Sl_ 97 23:=fJ (by kernel_rfl)
theorem bAu:Sr 126 4:=aS (by kernel_rfl)
theorem bAv:Sr 132 5:=aS (by kernel_rfl)
theorem bAw:Sr 145 4:=aS (by kernel_rfl)
theorem bAx:Sr 201 4:=aS (by kernel_rfl)
theorem bAy:Sr 212 1:=aS (by kernel_rfl)
theorem bGk:Sr 22 1:=aS (by kernel_rfl)
theorem bAz:Sr 220 3:=aS (by kernel_rfl)
theorem bB0:Sr 232 1:=aS (by kernel_rfl)
theorem bGl:Sr 24 1:=aS (by kernel_rfl)
theorem bGm:Sr 25 1:=aS (by kernel_rfl)
theorem bGn:Sr 26 1:=aS (by kernel_rfl)
theorem bGo:Sr 27 1:=aS (by kernel_rfl)
theorem bGp:Sr 28 1:=aS (by kernel_rfl)
theorem st3:Sr 3 1:=aS (by kernel_rfl)
theorem bGq:Sr 30 6:=aS (by kernel_rfl)
theorem bGr:Sr 31 1:=aS (by kernel_rfl)
theorem bB1:Sr 346 2:=aS (by kernel_rfl)
theorem st4:Sr 4 1:=aS (by kernel_rfl)
theorem bGs:Sr 48 3:=aS (by kernel_rfl)
theorem st5:Sr 5 1:=aS (by kernel_rfl)
theorem bGt:Sr 52 3:=aS (by kernel_rfl)
theorem bGu:Sr 54 5:=aS (by kernel_rfl)
theorem bGv:Sr 55 1:=aS (by kernel_rfl)
theorem bGw:Sr 57 2:=aS (by kernel_rfl)
theorem bGx:Sr 59 15:=aS (by kernel_rfl)
theorem bGy:Sr 61 17:=aS (by kernel_rfl)
theorem bGz:Sr 80 1:=aS (by kernel_rfl)
theorem bH0:Sr 82 4:=aS (by kernel_rfl)
theorem bH1:Sr 84 12:=aS (by kernel_rfl)
theorem st9:Sr 9 1:=aS (by kernel_rfl)
theorem bH2:Sr 90 2:=aS (by kernel_rfl)
theorem bH3:Sr 99 23:=aS (by kernel_rfl)
end Go.Proofs.YtoaibmbldmckaaaGreat
end
section
namespace Go.AM
open Go.RowKit Go.Lib Go.Proofs Go.Shelf
theorem aD5 {P:Program} {t:TypeId} (h:(P.info? t).isSome=true) (w:World):(Go.sizeOf t).run P w=.ok (sz P t) w:=by
 obtain ⟨i,hi⟩:=Option.isSome_iff_exists.1 h
 simp [sizeOf,typeInfo,hi,iU hi]
theorem kL {P:Program} {t:TypeId} (h:(P.info? t).map (·.size)=some 1) (w:World):(Go.sizeOf t).run P w=.ok 1 w:=by
 cases hi:P.info? t with
 | none=>rw [hi] at h;cases h
 | some i=>rw [hi] at h;simp [sizeOf,typeInfo,hi] at h ⊢;exact h
theorem pC {P:Program} {f:FuncId} {T e I B:TypeId} {ov rr:FuncId} {fn fo:Func} (mixed:P.follows .mixedOrders=true) (hf:P.funcs[f]?=some fn) (hb:fn.body=some (xT T I B ov rr)) (hn:fn.ntmps=95) (hr:fn.results=#[.tmp 6])
  (tT:P.underlying T=some (.slice e)) (tI:P.underlying I=some (.int .i64)) (tB:P.underlying B=some .bool)
  (ho:P.funcs[ov]?=some fo) (o1:(fo.name == "runtime.NumGoroutine")=false) (o2:fo.body.isNone=true) (o3:Extern.findNext fo=none) (o4:Extern.find fo=some (Extern.SlicesOverlaps.overlaps #[T,T] #[B]))
  (zE:(P.info? e).isSome=true) (zT:(P.info? T).map (·.size)=some 1) (zI:(P.info? I).map (·.size)=some 1) (zB:(P.info? B).map (·.size)=some 1):InsAt P f T e I B ov rr fn:=
 ⟨mixed,hf,hb,hn,hr,tT,tI,tB,run_callFunc_extern ho o1 o2 o3 o4,aD5 zE,kL zT,kL zI,kL zB⟩
theorem aTn {P:Program} {f:FuncId} {T e I B:TypeId} {fn:Func} (mixed:P.follows .mixedOrders=true) (hf:P.funcs[f]?=some fn) (hb:fn.body=some (aBm T I B)) (hn:fn.ntmps=33) (hr:fn.results=#[.tmp 6])
  (tT:P.underlying T=some (.slice e)) (tI:P.underlying I=some (.int .i64)) (tB:P.underlying B=some .bool)
  (zE:(P.info? e).isSome=true) (zT:(P.info? T).map (·.size)=some 1) (zI:(P.info? I).map (·.size)=some 1) (zB:(P.info? B).map (·.size)=some 1):DelAt P f T e I B fn:=
 ⟨mixed,hf,hb,hn,hr,tT,tI,tB,aD5 zE,kL zT,kL zI,kL zB⟩
end Go.AM
end
section
namespace Go.Proofs.YtoaibmbldmckaaaGreat
open Go.RowKit Go.AM Tryz
theorem bH4:SpecOK prog 202 ((Sp.ins 68).run prog):=
 iX (e:=76) (I:=3) (B:=4) (ov:=247) (rr:=248) (fn:=Tryz.f202) (pC (fo:=Tryz.f247) (by kernel_rfl) (by kernel_rfl) (by kernel_rfl) (by kernel_rfl) (by kernel_rfl)
  (by kernel_rfl) (by kernel_rfl) (by kernel_rfl) (by kernel_rfl) (by kernel_rfl) (by kernel_rfl) (by kernel_rfl) (by kernel_rfl) (by kernel_rfl) (by kernel_rfl) (by kernel_rfl) (by kernel_rfl)) (by kernel_rfl)
theorem bH5:SpecOK prog 221 ((Sp.ins 27).run prog):=
 iX (e:=90) (I:=3) (B:=4) (ov:=256) (rr:=257) (fn:=Tryz.f221) (pC (fo:=Tryz.f256) (by kernel_rfl) (by kernel_rfl) (by kernel_rfl) (by kernel_rfl) (by kernel_rfl)
  (by kernel_rfl) (by kernel_rfl) (by kernel_rfl) (by kernel_rfl) (by kernel_rfl) (by kernel_rfl) (by kernel_rfl) (by kernel_rfl) (by kernel_rfl) (by kernel_rfl) (by kernel_rfl) (by kernel_rfl)) (by kernel_rfl)
theorem bH6:SpecOK prog 230 ((Sp.ins 28).run prog):=
 iX (e:=132) (I:=3) (B:=4) (ov:=261) (rr:=262) (fn:=Tryz.f230) (pC (fo:=Tryz.f261) (by kernel_rfl) (by kernel_rfl) (by kernel_rfl) (by kernel_rfl) (by kernel_rfl)
  (by kernel_rfl) (by kernel_rfl) (by kernel_rfl) (by kernel_rfl) (by kernel_rfl) (by kernel_rfl) (by kernel_rfl) (by kernel_rfl) (by kernel_rfl) (by kernel_rfl) (by kernel_rfl) (by kernel_rfl)) (by kernel_rfl)
theorem bH7:SpecOK prog 234 ((Sp.ins 25).run prog):=
 iX (e:=126) (I:=3) (B:=4) (ov:=264) (rr:=265) (fn:=Tryz.f234) (pC (fo:=Tryz.f264) (by kernel_rfl) (by kernel_rfl) (by kernel_rfl) (by kernel_rfl) (by kernel_rfl)
  (by kernel_rfl) (by kernel_rfl) (by kernel_rfl) (by kernel_rfl) (by kernel_rfl) (by kernel_rfl) (by kernel_rfl) (by kernel_rfl) (by kernel_rfl) (by kernel_rfl) (by kernel_rfl) (by kernel_rfl)) (by kernel_rfl)
theorem bH8:SpecOK prog 237 ((Sp.ins 24).run prog):=
 iX (e:=54) (I:=3) (B:=4) (ov:=266) (rr:=267) (fn:=Tryz.f237) (pC (fo:=Tryz.f266) (by kernel_rfl) (by kernel_rfl) (by kernel_rfl) (by kernel_rfl) (by kernel_rfl)
  (by kernel_rfl) (by kernel_rfl) (by kernel_rfl) (by kernel_rfl) (by kernel_rfl) (by kernel_rfl) (by kernel_rfl) (by kernel_rfl) (by kernel_rfl) (by kernel_rfl) (by kernel_rfl) (by kernel_rfl)) (by kernel_rfl)
theorem bH9:SpecOK prog 280 ((Sp.ins 80).run prog):=
 iX (e:=145) (I:=3) (B:=4) (ov:=288) (rr:=289) (fn:=Tryz.f280) (pC (fo:=Tryz.f288) (by kernel_rfl) (by kernel_rfl) (by kernel_rfl) (by kernel_rfl) (by kernel_rfl)
  (by kernel_rfl) (by kernel_rfl) (by kernel_rfl) (by kernel_rfl) (by kernel_rfl) (by kernel_rfl) (by kernel_rfl) (by kernel_rfl) (by kernel_rfl) (by kernel_rfl) (by kernel_rfl) (by kernel_rfl)) (by kernel_rfl)
theorem bHa:SpecOK prog 240 ((Sp.del 28).run prog):=
 aIa (e:=132) (I:=3) (B:=4) (fn:=Tryz.f240) (aTn (by kernel_rfl) (by kernel_rfl) (by kernel_rfl) (by kernel_rfl) (by kernel_rfl)
  (by kernel_rfl) (by kernel_rfl) (by kernel_rfl) (by kernel_rfl) (by kernel_rfl) (by kernel_rfl) (by kernel_rfl)) (by kernel_rfl)
theorem iM {P:Program} {a b:iI} (h:gR P a=true) (k:gR P b=true):gR P (a++b)=true:=by unfold gR at *;rw [List.all_append,h,k];rfl
theorem bBx:SpAll prog dSp:=⟨bH4,bH5,bH6,bH7,bH8,bH9,bHa,trivial⟩
theorem aTo:bBl=aRl++(aRm++(aRn++(aRo++(aRp++(aRq++(aRr++(aRs++(aRt++(aRu++(aMa++(aMb++(aMc++(aMd++(aMe++(aMf++(aMg)))))))))))))))):=rfl
theorem aWs:gR prog bBl=true:=by
 rw [aTo]
 exact iM aP5 (iM aP6 (iM aP7 (iM aP8 (iM aP9 (iM aPa (iM aPb (iM aPc (iM aPd (iM aPe (iM aKc (iM aKd (iM aKe (iM aKf (iM aKg (iM aKh (aKi))))))))))))))))
theorem aPf:PlansOK prog sX:=aJz (by kernel_rfl) bBx aWs
end Go.Proofs.YtoaibmbldmckaaaGreat
end
section
namespace Go.Proofs.YtoaibmbldmckaaaGreat
open Go.AM Tryz
def aH3 (y:Int):Bool:=if y.tmod 4=0 then (if y.tmod 100=0 then decide (y.tmod 400=0) else true) else false
def eR (y m:Int):Int:=if m=2 then (if aH3 y=true then 29 else 28) else if m=4∨m=6∨m=9∨m=11 then 30 else 31
structure Date where
 y:Int
 m:Int
 d:Int
deriving DecidableEq
def Date.enc (d:Date):List V:=[.int .i64 d.y,.int .i64 d.m,.int .i64 d.d]
def Date.right (d:Date):Bool:=decide (1≤d.y)&&(decide (d.y≤9999)&&(decide (1≤d.m)&&(decide (d.m≤12)&&(decide (1≤d.d)&&decide (d.d≤eR d.y d.m)))))
def ahead (y:Int):Int:=
 wr .i64 (wr .i64 (wr .i64 (wr .i64 (365*wr .i64 (y - 1))+wr .i64 ((wr .i64 (y - 1)).tdiv 4)) - wr .i64 ((wr .i64 (y - 1)).tdiv 100))+wr .i64 ((wr .i64 (y - 1)).tdiv 400))
def iB (y:Int) (n:Int) (i:Nat):Int⊕Int:=.inr (wr .i64 (n+eR y ((i:Int)+1)))
def Date.days (d:Date):Int:=if d.right=true then wr .i64 (wr .i64 (aD (iB d.y) id (List.range (d.m - 1).toNat) (ahead d.y)+d.d) - 1) else -1
def Date.before (a b:Date):Bool:=a.right&&(b.right&&decide (a.days<b.days))
def bF (a b:Int):Int×Int:=
 if (0<b∧wr .i64 (9223372036854775807 - b)<a)∨(b<0∧a<wr .i64 (-9223372036854775808 - b)) then (0,7) else (wr .i64 (a+b),0)
def bS (a b:Int):Int×Int:=
 if (b<0∧wr .i64 (9223372036854775807+b)<a)∨(0<b∧a<wr .i64 (-9223372036854775808+b)) then (0,7) else (wr .i64 (a - b),0)
def dA (r:Int×Int):V:=.tup [.int .i64 r.1,.int .i64 r.2]
def aPg (n:Int):Int:=wr .u64 ((BitVec.ofInt IntKind.u64.bits (if IntKind.u64.signed then -1 else IntKind.u64.max) ^^^ BitVec.ofInt IntKind.u64.bits n).toNat)
def pD (n:Int):Int:=if n<0 then wr .u64 (aPg (wr .u64 n)+1) else wr .u64 n
def aC0 (n:Int) (neg:Bool):Int×Bool:=
 if neg=true then (wr .i64 (wr .u64 (aPg n+1)),decide (n≤9223372036854775808)) else (wr .i64 n,decide (n≤9223372036854775807))
def aL1 (a b:Int):Int×Int:=
 if 0<pD b∧wr .u64 ((9223372036854775808:Int).tdiv (pD b))<pD a then (0,7) else
  let r:=aC0 (wr .u64 (pD a*pD b)) (!(decide (a<0) == decide (b<0)))
  if r.2=true then (r.1,0) else (0,7)
def bD (n bp:Int):Int×Int:=
 if bp<0∨100000<bp then (0,1) else
  let u:=pD n
  let p:=wr .u64 bp
  let many:=wr .u64 (u.tdiv 10000)
  let rest:=u.tmod 10000
  if 0<p∧wr .u64 ((9223372036854775807:Int).tdiv p)<many then (0,7) else
   let out:=wr .u64 (wr .u64 (many*p)+wr .u64 ((wr .u64 (wr .u64 (wr .u64 (2*rest)*p)+10000)).tdiv (wr .u64 (2*10000))))
   if 9223372036854775807<out then (0,7) else if n<0 then (wr .i64 (0 - wr .i64 out),0) else (wr .i64 out,0)
theorem aD6:wr .u64 (2*10000)=20000:=by decide
theorem bBy:wr .u64 10000=10000:=by decide
def mE (r:Int):Bool:=
 if (97≤r∧r≤122)∨(65≤r∧r≤90) then true else if r=215 then false else if r=247 then false else decide (192≤r)&&decide (r≤591)
def lU (s:List UInt8):Nat→Nat→List (Nat×Nat)
 | 0,_=>[]
 | f+1,pos=>if pos<s.length then (pos,(Utf8.decode ⟨⟨s⟩⟩ pos).1)::lU s f (pos+(Utf8.decode ⟨⟨s⟩⟩ pos).2) else []
theorem aIq (s:ByteArray) (i:Nat):1≤(Utf8.decode s i).2:=by
 unfold Utf8.decode
 simp only
 repeat' split
 all_goals simp
def mY (_:Unit) (x:Nat×Nat):Bool⊕Unit:=
 if mE x.2=true then .inr () else if x.1=0 then .inl false else if (48≤x.2∧x.2≤57)∨x.2=45∨x.2=95∨x.2=46 then .inr () else .inl false
def dF (s:List UInt8):Bool:=if s.length<1 then false else if 24<s.length then false else aD mY (fun _=>true) (lU s s.length 0) ()
structure Rate where
 cat:List UInt8
 day:Date
 bp:Int
deriving DecidableEq
def Rate.enc (r:Rate):List V:=[.str r.cat,.int .i64 r.day.y,.int .i64 r.day.m,.int .i64 r.day.d,.int .i64 r.bp]
def sB (r:Rate):Int:=if dF r.cat=false then 8 else if r.day.right=false then 9 else if r.bp<0 then 10 else if 100000<r.bp then 10 else 0
def eL (a b:Rate):Bool:=if fG a.cat b.cat=true then true else if (a.cat == b.cat)=true then a.day.before b.day else false
def fL (prev:Option Rate) (r:Rate):Bool⊕Option Rate:=
 if sB r≠0 then .inl false else match prev with
  | none=>.inr (some r)
  | some p=>if eL p r=true then .inr (some r) else .inl false
def eD (l:List Rate):Bool:=if 24<l.length then false else aD fL (fun _=>true) l none
def bW {α:Type} (l:List α) (i:Nat):Option α:=if i=0 then none else l[i - 1]?
structure Rep where
 why:Int
 number:Int
 gross:Int
deriving DecidableEq
structure Sess where
 id:Int
 last:Int
 reply:Rep
deriving DecidableEq
def Rep.enc (r:Rep):List V:=[.int .i64 r.why,.int .i64 r.number,.int .i64 r.gross]
def Sess.enc (s:Sess):List V:=[.int .i64 s.id,.int .i64 s.last,.int .i64 s.reply.why,.int .i64 s.reply.number,.int .i64 s.reply.gross]
def Rep.zero:Rep:=⟨0,0,0⟩
def eS (last:Int) (s:Sess):Bool⊕Int:=
 if s.id≤last then .inl false else if s.last<0 then .inl false else if 1099511627776<s.last then .inl false else if s.last=0∧s.reply≠Rep.zero then .inl false else .inr s.id
def eT (l:List Sess):Bool:=if 8<l.length then false else aD eS (fun _=>true) l 0
def cS {α:Type} (p:α→Bool) (n:Nat) (a:α):Int⊕Nat:=if p a=true then .inl (n:Int) else .inr (n+1)
def ixM {α:Type} (p:α→Bool) (l:List α):Int:=aD (cS p) (fun _=>-1) l 0
theorem aEz {α:Type} (p:α→Bool):∀ (l:List α) (n:Nat),(aD (cS p) (fun _=>-1) l n=-1)∨∃ (i:Nat) (a:α),aD (cS p) (fun _=>-1) l n=((n+i:Nat):Int)∧l[i]?=some a∧p a=true
 | [],n=>.inl rfl
 | a::l,n=>by
  by_cases h:p a=true
  ·refine .inr ⟨0,a,?_,rfl,h⟩
   simp [aD,cS,h]
  ·rcases aEz p l (n+1) with h1 | ⟨i,b,h1,h2,h3⟩
   ·left;simp [aD,cS,h,h1]
   ·right
    refine ⟨i+1,b,?_,by simpa using h2,h3⟩
    simp only [aD,cS,h,if_false]
    simp only [h1,Bool.false_eq_true,if_false]
    omega
theorem kM {α:Type} (p:α→Bool) (l:List α):(ixM p l=-1)∨∃ (i:Nat) (a:α),ixM p l=(i:Int)∧l[i]?=some a∧p a=true:=by
 rcases aEz p l 0 with h | ⟨i,a,h1,h2,h3⟩
 ·exact .inl h
 ·exact .inr ⟨i,a,by rw [ixM,h1];simp,h2,h3⟩
def gW (l:List Sess) (id:Int):Int:=ixM (fun s:Sess=>decide (s.id=id)) l
def cB (l:List Sess) (id seq:Int):Rep×Bool×Int:=
 if eT l=false then (Rep.zero,false,1) else if gW l id<0 then (Rep.zero,false,15) else if seq<1∨1099511627776<seq then (Rep.zero,false,1) else
  match l[(gW l id).toNat]? with
  | none=>(Rep.zero,false,1)
  | some s=>if seq=s.last then (s.reply,true,0) else if seq<s.last then (Rep.zero,false,16) else (Rep.zero,false,0)
theorem kN {l:List Sess} (h:eT l=true):l.length≤8:=by
 unfold eT at h
 split at h
 ·cases h
 ·omega
theorem jP (l:List Sess) (id:Int):gW l id=-1∨∃ (i:Nat) (s:Sess),gW l id=(i:Int)∧l[i]?=some s∧s.id=id:=by
 rcases kM (fun s:Sess=>decide (s.id=id)) l with h | ⟨i,s,h1,h2,h3⟩
 ·exact .inl h
 ·exact .inr ⟨i,s,h1,h2,of_decide_eq_true h3⟩
def dE {α:Type} (p:α→Bool) (n:Nat) (a:α):Nat⊕Nat:=if p a=true then .inr (n+1) else .inl n
def mF {α:Type} (p:α→Bool) (l:List α):Nat:=aD (dE p) id l 0
theorem aF0 {α:Type} (p:α→Bool):∀ (l:List α) (n:Nat),aD (dE p) id l n≤n+l.length
 | [],n=>by simp [aD]
 | a::l,n=>by
  have ih:=aF0 p l (n+1)
  by_cases h:p a=true
  ·simp only [aD,dE,h,if_true,List.length_cons];omega
  ·simp only [aD,dE,h,if_false,List.length_cons,Bool.false_eq_true];omega
theorem yK {α:Type} (p:α→Bool) (l:List α):mF p l≤l.length:=by have:=aF0 p l 0;simp only [mF];omega
def dG {α:Type} (l:List α) (i:Nat) (a:α):List α:=l.take i++a::l.drop i
theorem mO {α β:Type} (f:α→β) (l:List α) (i:Nat) (a:α):(dG l i a).map f=(l.map f).take i++f a::(l.map f).drop i:=by simp [dG,List.map_take,List.map_drop]
def nW (l:List Sess) (id:Int):List Sess×Int:=
 if eT l=false∨id<1 then ([],1) else if 0≤gW l id then ([],12) else if 8≤l.length then ([],14) else (dG l (mF (fun s=>decide (s.id<id)) l) ⟨id,0,Rep.zero⟩,0)
def vX {α:Type} (l:List α) (i:Nat):List α:=l.take i++l.drop (i+1)
theorem aL2 {α β:Type} (f:α→β) (l:List α) (i:Nat):(vX l i).map f=(l.map f).take i++(l.map f).drop (i+1):=by simp [vX,List.map_take,List.map_drop]
def gJ (l:List Sess) (id:Int):List Sess×Int:=
 if eT l=false then ([],1) else if gW l id<0 then ([],11) else (vX l (gW l id).toNat,0)
def kE (l:List Sess) (id seq:Int) (r:Rep):List Sess×Int:=
 if (cB l id seq).2.2≠0 then ([],(cB l id seq).2.2) else if (cB l id seq).2.1=true then ([],12) else
  match l[(gW l id).toNat]? with
  | none=>([],0)
  | some s=>(l.set (gW l id).toNat ⟨s.id,seq,r⟩,0)
theorem aD7 {l:List Sess} {id seq:Int} (h:(cB l id seq).2.2=0):eT l=true∧∃ (i:Nat) (s:Sess),gW l id=(i:Int)∧l[i]?=some s:=by
 unfold cB at h
 split at h
 ·cases h
 ·rename_i hr
  have hr:eT l=true:=by simpa using hr
  split at h
  ·cases h
  ·rcases jP l id with h' | ⟨i,s,h1,h2,_⟩
   ·omega
   ·exact ⟨hr,i,s,h1,h2⟩
structure Ser where
 name:List UInt8
 next:Int
 limit:Int
 shut:Bool
deriving DecidableEq
def Ser.enc (s:Ser):List V:=[.str s.name,.int .i64 s.next,.int .i64 s.limit,.bool s.shut]
def dD (l:List Ser) (name:List UInt8):Int:=ixM (fun s:Ser=>s.name == name) l
theorem lG (l:List Ser) (name:List UInt8):dD l name=-1∨∃ (i:Nat) (s:Ser),dD l name=(i:Int)∧l[i]?=some s∧s.name=name:=by
 rcases kM (fun s:Ser=>s.name == name) l with h | ⟨i,s,h1,h2,h3⟩
 ·exact .inl h
 ·exact .inr ⟨i,s,h1,h2,by simpa using h3⟩
def lQ (s:Ser):Bool:=decide (s.limit<1)||(decide (1099511627776<s.limit)||(decide (s.next<1)||decide (wr .i64 (s.limit+1)<s.next)))
def lH (prev:Option Ser) (s:Ser):Bool:=match prev with
 | none=>false
 | some p=>!fG p.name s.name
def jQ (prev:Option Ser) (s:Ser):Bool⊕Option Ser:=
 if dF s.name=false then .inl false else if lH prev s=true then .inl false else if lQ s=true then .inl false else .inr (some s)
def kO (l:List Ser):Bool:=if 8<l.length then false else aD jQ (fun _=>true) l none
theorem mZ {l:List Ser} (h:kO l=true):l.length≤8:=by
 unfold kO at h
 split at h
 ·cases h
 ·omega
def iO (l:List Ser) (name:List UInt8):Int×Int:=
 if kO l=false then (0,1) else if dD l name<0 then (0,11) else match l[(dD l name).toNat]? with
  | none=>(0,1)
  | some s=>if s.shut=true then (0,13) else (dD l name,0)
theorem yL {l:List Ser} {name:List UInt8} (h:(iO l name).2=0):kO l=true∧∃ (i:Nat) (s:Ser),iO l name=((i:Int),0)∧dD l name=(i:Int)∧l[i]?=some s∧s.name=name∧s.shut=false:=by
 unfold iO at h
 split at h
 ·cases h
 ·rename_i hr
  have hr:kO l=true:=by simpa using hr
  split at h
  ·cases h
  ·rename_i h11
   rcases lG l name with h' | ⟨i,s,h1,h2,h3⟩
   ·omega
   ·rw [h1] at h
    simp only [Int.toNat_natCast,h2] at h
    split at h
    ·cases h
    ·rename_i hsh
     refine ⟨hr,i,s,?_,h1,h2,h3,by simpa using hsh⟩
     unfold iO
     rw [if_neg (by rw [hr];simp),if_neg h11,h1]
     simp only [Int.toNat_natCast,h2,if_neg hsh]
def pE (l:List Ser) (name:List UInt8):List Ser×Int:=
 if (iO l name).2≠0 then ([],(iO l name).2) else match l[(iO l name).1.toNat]? with
  | none=>([],0)
  | some s=>(l.set (iO l name).1.toNat { s with shut:=true },0)
def cL (l:List Ser) (name:List UInt8):List Ser×Int×Int:=
 if (iO l name).2≠0 then ([],0,(iO l name).2) else match l[(iO l name).1.toNat]? with
  | none=>([],0,0)
  | some s=>if s.limit<s.next then ([],0,14) else (l.set (iO l name).1.toNat { s with next:=wr .i64 (s.next+1) },s.next,0)
def fD (l:List Ser) (name:List UInt8) (limit:Int):List Ser×Int:=
 if kO l=false then ([],1) else if dF name=false then ([],8) else if limit<1∨1099511627776<limit then ([],1) else if 0≤dD l name then ([],12) else if 8≤l.length then ([],14) else
  (dG l (mF (fun s=>fG s.name name) l) ⟨name,1,limit,false⟩,0)
def Ser.zero:Ser:=⟨[],0,0,false⟩
def kU (l:List Ser) (name:List UInt8):Ser×Bool:=match (if dD l name<0 then none else l[(dD l name).toNat]?) with
 | none=>(Ser.zero,false)
 | some s=>(s,true)
def jR (cat:List UInt8) (d:Date) (st:Int×Bool) (r:Rate):(Int×Bool)⊕(Int×Bool):=.inr (if (r.cat == cat)=true∧d.before r.day=false then (r.bp,true) else st)
def iP (l:List Rate) (cat:List UInt8) (d:Date):Int×Bool:=if eD l=false then (0,false) else if d.right=false then (0,false) else aD (jR cat d) id l (0,false)
theorem vY {l:List Rate} (h:eD l=true):l.length≤24:=by
 unfold eD at h
 split at h
 ·cases h
 ·omega
def kV (r:Rate) (k:Nat) (x:Rate):Option Nat⊕Nat:=
 if (x.cat == r.cat)=true∧x.day=r.day then .inl none else .inr (if eL x r=true then k+1 else k)
def iC (l:List Rate) (r:Rate):List Rate×Int:=
 if eD l=false then ([],1) else if sB r≠0 then ([],sB r) else match aD (kV r) some l 0 with
  | none=>([],12)
  | some k=>if 24≤l.length then ([],2) else (dG l k r,0)
structure Bal where
 acc:List UInt8
 amount:Int
deriving DecidableEq
def Bal.enc (b:Bal):List V:=[.str b.acc,.int .i64 b.amount]
structure Part where
 cat:List UInt8
 bp:Int
 net:Int
 tax:Int
deriving DecidableEq
def Part.enc (p:Part):List V:=[.str p.cat,.int .i64 p.bp,.int .i64 p.net,.int .i64 p.tax]
structure Total where
 net:Int
 tax:Int
 gross:Int
 parts:List Part
deriving DecidableEq
def sY (prev:Option Bal) (b:Bal):Bool⊕Option Bal:=match prev with
 | none=>.inl false
 | some p=>if fG p.acc b.acc=true then .inr (some b) else .inl false
def vD (l:List Bal):Bool:=aD sY (fun _=>true) (l.drop 1) l[0]?
def wC:List UInt8:=[110,101,116,47]
def wH:List UInt8:=[116,97,120,47]
def nX (l:List Bal) (p:Part):(List Bal×Int)⊕List Bal:=
 if (bS 0 p.net).2≠0 then .inl ([],7) else if (bS 0 p.tax).2≠0 then .inl ([],7) else .inr (l++[⟨wC++p.cat,(bS 0 p.net).1⟩,⟨wH++p.cat,(bS 0 p.tax).1⟩])
def cD (t:Total):List Bal×Int:=aD nX (fun l=>(l,0)) t.parts [⟨[111,119,101,100],t.gross⟩]
theorem aIr:∀ (l:List Part) (a:List Bal) (r:List Bal×Int),aD nX (fun l=>(l,0)) l a=r→r.2=0→r.1.length=a.length+2*l.length
 | [],a,r,h,_=>by subst h;simp [aD]
 | p::l,a,r,h,h0=>by
  simp only [aD,nX] at h
  split at h
  ·rename_i r' he
   split at he
   ·cases he;subst h;cases h0
   ·split at he
    ·cases he;subst h;cases h0
    ·cases he
  ·rename_i s' he
   split at he
   ·cases he
   ·split at he
    ·cases he
    ·cases he
     have:=aIr l _ r h h0
     simp only [List.length_append,List.length_cons,List.length_nil] at this ⊢
     omega
theorem zW {α:Type} (l:List α) (i:Nat) (a:α) (h:i≤l.length):(dG l i a)[i]?=some a:=by
 unfold dG
 rw [List.getElem?_append_right (by rw [List.length_take];omega),List.length_take,Nat.min_eq_left h,Nat.sub_self]
 rfl
theorem iY {α:Type} (l:List α) (i:Nat) (a:α) (h:i≤l.length):(dG l i a).length=l.length+1:=by
 simp only [dG,List.length_append,List.length_take,List.length_cons,List.length_drop];omega
def aL (l:List Bal) (acc:List UInt8):Nat:=mF (fun b=>fG b.acc acc) l
def fE (l:List Bal) (acc:List UInt8):Bool:=match l[aL l acc]? with
 | none=>true
 | some b=>!(b.acc == acc)
def bO (l:List Bal) (acc:List UInt8):List Bal:=if fE l acc=true then dG l (aL l acc) ⟨acc,0⟩ else l
def bM (l:List Bal) (x:Bal):(List Bal×Int)⊕List Bal:=match (bO l x.acc)[aL l x.acc]? with
 | none=>.inl ([],0)
 | some b=>if (bF b.amount x.amount).2≠0 then .inl ([],(bF b.amount x.amount).2) else .inr ((bO l x.acc).set (aL l x.acc) ⟨b.acc,(bF b.amount x.amount).1⟩)
def bI (book l:List Bal):List Bal×Int:=if vD book=false then ([],1) else aD bM (fun l=>(l,0)) l book
theorem nY (l:List Bal) (acc:List UInt8):aL l acc≤l.length:=yK _ _
theorem aAu (l:List Bal) (acc:List UInt8):∃ b,(bO l acc)[aL l acc]?=some b:=by
 unfold bO
 split
 ·exact ⟨_,zW _ _ _ (nY l acc)⟩
 ·rename_i h
  unfold fE at h
  split at h
  ·exact absurd rfl h
  ·rename_i b hb;exact ⟨b,hb⟩
theorem aAv (l:List Bal) (acc:List UInt8):(bO l acc).length≤l.length+1:=by
 unfold bO
 split
 ·rw [iY _ _ _ (nY l acc)];exact Nat.le_refl _
 ·omega
theorem qV (l:List Bal) (x:Bal):bM l x=if (bF ((bO l x.acc)[aL l x.acc]?.map (·.amount) |>.getD 0) x.amount).2≠0 then .inl ([],(bF ((bO l x.acc)[aL l x.acc]?.map (·.amount) |>.getD 0) x.amount).2)
  else .inr ((bO l x.acc).set (aL l x.acc) ⟨((bO l x.acc)[aL l x.acc]?.map (·.acc) |>.getD []),(bF ((bO l x.acc)[aL l x.acc]?.map (·.amount) |>.getD 0) x.amount).1⟩):=by
 obtain ⟨b,hb⟩:=aAu l x.acc
 unfold bM
 simp only [hb,Option.map_some,Option.getD_some]
theorem aE8 {l l':List Bal} {x:Bal} (h:bM l x=.inr l'):l'.length≤l.length+1:=by
 rw [qV] at h
 split at h
 ·cases h
 ·cases h
  rw [List.length_set]
  exact aAv l x.acc
theorem aD8:∀ (l:List Bal) (a:List Bal) (r:List Bal×Int),aD bM (fun l=>(l,0)) l a=r→r.1.length≤a.length+l.length
 | [],a,r,h=>by subst h;simp [aD]
 | x::l,a,r,h=>by
  simp only [aD] at h
  split at h
  ·rename_i r' he
   subst h
   rw [qV] at he
   split at he
   ·cases he;simp
   ·cases he
  ·rename_i s' he
   have h1:=aE8 he
   have:=aD8 l _ r h
   simp only [List.length_cons]
   omega
def dC (n:Int):List V:=[.int .i64 n]
theorem aPh (n:Int):0≤wr .u64 n∧wr .u64 n<18446744073709551616:=by
 unfold wr lo hi
 simp only
 split
 ·omega
 ·show 0≤n % 18446744073709551616∧n % 18446744073709551616<18446744073709551616
  omega
theorem bHb:aPg 0=18446744073709551615:=by decide
def uF (st:Int×Int) (n:Int):(Int×Bool)⊕(Int×Int):=
 .inr ((st.1+(if n<0 then 18446744073709551615 else 0)+(st.2+wr .u64 n+0) / 18446744073709551616) % 18446744073709551616,(st.2+wr .u64 n+0) % 18446744073709551616)
def tA (st:Int×Int):Int×Bool:=(wr .i64 st.2,if st.2.fdiv (2 ^ 63)=0 then decide (st.1=0) else decide (st.1=18446744073709551615))
def dU (l:List Int):Int×Bool:=aD uF tA l (0,0)
structure Line where
 text:List UInt8
 cat:List UInt8
 count:Int
 price:Int
deriving DecidableEq
def Line.enc (l:Line):List V:=[.str l.text,.str l.cat,.int .i64 l.count,.int .i64 l.price]
def fM (tab:List Rate) (d:Date) (l:Line):Int×Int×Int:=
 if 64<l.text.length then (0,0,2) else if dF l.cat=false then (0,0,8) else if l.count<1∨1048576<l.count then (0,0,1) else
  if (iP tab l.cat d).2=false then (0,0,10) else ((iP tab l.cat d).1,(aL1 l.count l.price).1,(aL1 l.count l.price).2)
def aTp (r:Int×Int×Int):V:=.tup [.int .i64 r.1,.int .i64 r.2.1,.int .i64 r.2.2]
def bK (l:List Part) (cat:List UInt8):Nat:=mF (fun p=>fG p.cat cat) l
def jS (l:List Part) (cat:List UInt8):Bool:=match l[bK l cat]? with
 | none=>true
 | some b=>!(b.cat == cat)
def dB (l:List Part) (cat:List UInt8) (bp:Int):List Part:=if jS l cat=true then dG l (bK l cat) ⟨cat,bp,0,0⟩ else l
def sC (l:List Part) (cat:List UInt8) (bp n:Int):List Part×Int:=match (dB l cat bp)[bK l cat]? with
 | none=>([],0)
 | some p=>((dB l cat bp).set (bK l cat) { p with net:=(bF p.net n).1 },(bF p.net n).2)
theorem qW (l:List Part) (cat:List UInt8):bK l cat≤l.length:=yK _ _
theorem qY (l:List Part) (cat:List UInt8) (bp:Int):∃ b,(dB l cat bp)[bK l cat]?=some b:=by
 unfold dB
 split
 ·exact ⟨_,zW _ _ _ (qW l cat)⟩
 ·rename_i h
  unfold jS at h
  split at h
  ·exact absurd rfl h
  ·rename_i b hb;exact ⟨b,hb⟩
theorem aH4 (l:List Part) (cat:List UInt8) (bp:Int):(dB l cat bp).length≤l.length+1:=by
 unfold dB
 split
 ·rw [iY _ _ _ (qW l cat)];exact Nat.le_refl _
 ·omega
theorem aIs (l:List Part) (cat:List UInt8) (bp n:Int):(sC l cat bp n).1.length≤l.length+1:=by
 obtain ⟨b,hb⟩:=qY l cat bp
 unfold sC
 rw [hb]
 simp only [List.length_set]
 exact aH4 l cat bp
def Total.zero:Total:=⟨0,0,0,[]⟩
def gE (st:Int×Int×List Part) (p:Part):(Total×Int)⊕(Int×Int×List Part):=
 if (bD p.net p.bp).2≠0∨(bF st.1 p.net).2≠0∨(bF st.2.1 (bD p.net p.bp).1).2≠0 then .inl (Total.zero,7) else
  .inr ((bF st.1 p.net).1,(bF st.2.1 (bD p.net p.bp).1).1,st.2.2++[{ p with tax:=(bD p.net p.bp).1 }])
def lI (st:Int×Int×List Part):Total×Int:=
 if (bF st.1 st.2.1).2≠0 then (Total.zero,(bF st.1 st.2.1).2) else (⟨st.1,st.2.1,(bF st.1 st.2.1).1,st.2.2⟩,0)
def eY (l:List Part):Total×Int:=aD gE lI l (0,0,[])
def iR (tab:List Rate) (d:Date) (parts:List Part) (l:Line):(Total×Int)⊕List Part:=
 if (fM tab d l).2.2≠0 then .inl (Total.zero,(fM tab d l).2.2) else
  if (sC parts l.cat (fM tab d l).1 (fM tab d l).2.1).2≠0 then .inl (Total.zero,(sC parts l.cat (fM tab d l).1 (fM tab d l).2.1).2) else
   .inr (sC parts l.cat (fM tab d l).1 (fM tab d l).2.1).1
def cY (tab:List Rate) (d:Date) (lines:List Line):Total×Int:=
 if eD tab=false then (Total.zero,1) else if d.right=false then (Total.zero,9) else if lines.length=0 then (Total.zero,1) else if 12<lines.length then (Total.zero,2) else
  aD (iR tab d) eY lines []
def pF (n:Int):V:=.int .i64 n
def oC (done:List Int) (x:Int):(List Int×Int)⊕List Int:=if (bS 0 x).2≠0 then .inl ([],(bS 0 x).2) else .inr (done++[(bS 0 x).1])
def fN (l:List Int):List Int×Int:=aD oC (fun l=>(l,0)) l []
def cX (acc:List Part) (p:Part):(List Part×Int)⊕List Part:=
 if (fN [p.net,p.tax]).2≠0 then .inl ([],(fN [p.net,p.tax]).2) else .inr (acc++[{ p with net:=(fN [p.net,p.tax]).1.getD 0 0,tax:=(fN [p.net,p.tax]).1.getD 1 0 }])
def aX (t:Total):Total×Int:=
 if (fN [t.net,t.tax,t.gross]).2≠0 then (Total.zero,(fN [t.net,t.tax,t.gross]).2) else
  if (aD cX (fun l=>(l,0)) t.parts []).2≠0 then (Total.zero,(aD cX (fun l=>(l,0)) t.parts []).2) else
   (⟨(fN [t.net,t.tax,t.gross]).1.getD 0 0,(fN [t.net,t.tax,t.gross]).1.getD 1 0,(fN [t.net,t.tax,t.gross]).1.getD 2 0,(aD cX (fun l=>(l,0)) t.parts []).1⟩,0)
structure Ref where
 ser:List UInt8
 num:Int
deriving DecidableEq
def Ref.enc (r:Ref):List V:=[.str r.ser,.int .i64 r.num]
def Ref.zero:Ref:=⟨[],0⟩
structure Posted where
 ref:Ref
 day:Date
 total:Total
 of:Ref
 back:Bool
deriving DecidableEq
def Posted.cells (p:Posted) (pv:V):List V:=[.str p.ref.ser,.int .i64 p.ref.num,.int .i64 p.day.y,.int .i64 p.day.m,.int .i64 p.day.d,.int .i64 p.total.net,.int .i64 p.total.tax,.int .i64 p.total.gross,pv,.str p.of.ser,.int .i64 p.of.num,.bool p.back]
theorem aWt {α β:Type} (f:α→β) (p:β→Bool) (l:List α):ixM (fun a=>p (f a)) l=ixM p (l.map f):=by
 have:∀ (l:List α) (n:Nat),aD (cS fun a=>p (f a)) (fun _=>(-1:Int)) l n=aD (cS p) (fun _=>-1) (l.map f) n:=by
  intro l
  induction l with
  | nil=>intro n;rfl
  | cons a l ih=>
   intro n
   simp only [aD,List.map_cons,cS]
   by_cases h:p (f a)=true
   ·simp only [h,if_true]
   ·simp only [h,if_false]
    exact ih (n+1)
 exact this l 0
def bE (l:List Posted) (r:Ref):Int:=ixM (fun p:Posted=>decide (p.ref=r)) l
theorem mG (l:List Posted) (r:Ref):bE l r=-1∨∃ (i:Nat) (s:Posted),bE l r=(i:Int)∧l[i]?=some s∧s.ref=r:=by
 rcases kM (fun p:Posted=>decide (p.ref=r)) l with h | ⟨i,s,h1,h2,h3⟩
 ·exact .inl h
 ·exact .inr ⟨i,s,h1,h2,by simpa using h3⟩
def dQ {α:Type} [DecidableEq α] (r:List α) (n:Nat) (a:α):Bool⊕Nat:=if r[n]?=some a then .inr (n+1) else .inl false
theorem eqL {α:Type} [DecidableEq α] {l r:List α} (h:l.length=r.length):aD (dQ r) (fun _=>true) l 0=decide (l=r):=by
 have:∀ (l t r:List α),l.length=(r.drop t.length).length→r.take t.length=t→aD (dQ r) (fun _=>true) l t.length=decide (l=r.drop t.length):=by
  intro l
  induction l with
  | nil=>
   intro t r h1 h2
   have:r.drop t.length=[]:=List.length_eq_zero_iff.1 h1.symm
   rw [this];rfl
  | cons a l ih=>
   intro t r h1 h2
   have hlt:t.length<r.length:=by rw [List.length_drop] at h1;simp only [List.length_cons] at h1;omega
   rw [List.drop_eq_getElem_cons hlt]
   simp only [aD,dQ,List.getElem?_eq_getElem hlt]
   by_cases c:r[t.length]=a
   ·have e1:(t++[a]).length=t.length+1:=by simp
    have:=ih (t++[a]) r (by rw [e1];rw [List.length_drop] at h1 ⊢;simp only [List.length_cons] at h1;omega) (by rw [e1,List.take_succ_eq_append_getElem hlt,h2,c])
    rw [e1] at this
    simp only [c,if_true]
    rw [this]
    by_cases d:l=r.drop (t.length+1)<;>simp [d]
   ·have c':¬ (some r[t.length]=some a):=fun e=>c (Option.some.inj e)
    simp only [c',if_false]
    rw [eq_comm,decide_eq_false_iff_not]
    intro e
    exact c (List.cons.inj e).1.symm
 have:=this l [] r (by simpa using h) rfl
 simpa using this
def blkOf:V→Option Nat
 | .sl a _ _ _ _=>some a
 | _=>none
def iK (t:Total):Bool:=
 if (dU (t.parts.map (·.net))).2=true then (if (dU (t.parts.map (·.tax))).2=true then (if (dU [t.net,t.tax]).2=true then
  (if (dU (t.parts.map (·.net))).1=t.net then (if (dU (t.parts.map (·.tax))).1=t.tax then decide ((dU [t.net,t.tax]).1=t.gross) else false) else false) else false) else false) else false
def uG (st:List Int×List Int) (p:Part):(List Int×List Int)⊕(List Int×List Int):=.inr (st.1++[p.net],st.2++[p.tax])
theorem bBz:∀ (l:List Part) (a b:List Int),aD uG id l (a,b)=(a++l.map (·.net),b++l.map (·.tax))
 | [],a,b=>by simp [aD]
 | p::l,a,b=>by simp only [aD,uG];rw [bBz l];simp
def gG (prev:Option Part) (s:Part):Bool:=match prev with
 | none=>false
 | some p=>!fG p.cat s.cat
def uH (s:Part):Bool:=decide (s.bp<0)||decide (100000<s.bp)
def uJ (s:Part):Bool:=!decide ((bD s.net s.bp).2=0)||!decide ((bD s.net s.bp).1=s.tax)
def cC (prev:Option Part) (s:Part):Bool⊕Option Part:=
 if dF s.cat=false then .inl false else if gG prev s=true then .inl false else if uH s=true then .inl false else if uJ s=true then .inl false else .inr (some s)
def bY (t:Total):Bool:=if t.parts.length<1 then false else if 12<t.parts.length then false else aD cC (fun _=>iK t) t.parts none
def jT (p fr:Posted):Bool:=if fr.of=Ref.zero then (if p.day.before fr.day=false then (if (aX fr.total).2=0 then decide ((aX fr.total).1=p.total) else false) else false) else false
theorem aF1:∀ (l a:List Part) (r:List Part×Int),aD cX (fun l=>(l,0)) l a=r→r.1.length≤a.length+l.length
 | [],a,r,h=>by subst h;simp [aD]
 | x::l,a,r,h=>by
  simp only [aD] at h
  split at h
  ·rename_i r' he
   subst h
   unfold cX at he
   split at he
   ·cases he;simp
   ·cases he
  ·rename_i a' he
   unfold cX at he
   split at he
   ·cases he
   ·cases he
    have:=aF1 l _ r h
    simp only [List.length_append,List.length_cons,List.length_nil] at this ⊢
    omega
theorem uK (t:Total):(aX t).1.parts.length≤t.parts.length:=by
 unfold aX
 split
 ·simp [Total.zero]
 ·split
  ·simp [Total.zero]
  ·have:=aF1 t.parts [] _ rfl
   simpa using this
def bL (book:List Bal) (p:Posted):(List Bal×Int)⊕List Bal:=
 if (cD p.total).2≠0 then .inl ([],(cD p.total).2) else if (bI book (cD p.total).1).2≠0 then .inl ([],(bI book (cD p.total).1).2) else .inr (bI book (cD p.total).1).1
def dV (l:List Posted):List Bal×Int:=aD bL (fun b=>(b,0)) l []
theorem rA (book l:List Bal):(bI book l).1.length≤book.length+l.length:=by
 unfold bI
 split
 ·simp
 ·exact aD8 l book _ rfl
theorem tC (t:Total):(cD t).1.length≤1+2*t.parts.length∨(cD t).2≠0:=by
 by_cases h:(cD t).2=0
 ·exact .inl (by have:=aIr t.parts _ _ rfl h;simp only [List.length_cons,List.length_nil] at this;unfold cD;omega)
 ·exact .inr h
def sD:List V:=[.str [],.int .i64 0,.int .i64 0,.int .i64 0,.int .i64 0,.int .i64 0,.int .i64 0,.int .i64 0,.nils,.str [],.int .i64 0,.bool false]
def Fit (p:Posted):Prop:=p.total.parts.length≤12∧∀ q∈p.total.parts,q.cat.length≤1000000
def bump (l:List Int) (k:Nat):List Int:=l.set k (l.getD k 0+1)
def gA (st:List Posted×List Int) (p:Posted):Bool⊕(List Posted×List Int):=
 if p.day.right=false then .inl false else if bY p.total=false then .inl false else if p.of=Ref.zero then .inr (st.1++[p],st.2) else
  if bE st.1 p.of<0 then .inl false else if jT p (st.1.getD (bE st.1 p.of).toNat ⟨Ref.zero,⟨0,0,0⟩,Total.zero,Ref.zero,false⟩)=false then .inl false else
   .inr (st.1++[p],bump st.2 (bE st.1 p.of).toNat)
def iD (bs:List Int) (p:Posted):Bool⊕List Int:=if 1<bs.headD 0 then .inl false else if p.back=decide (bs.headD 0=1) then .inr bs.tail else .inl false
def iS (l:List Posted):Bool:=if 40<l.length then false else aD gA (fun st=>aD iD (fun _=>true) l st.2) l ([],List.replicate 40 0)
theorem gX {t:Total} (h:bY t=true):t.parts.length≤12:=by
 unfold bY at h
 split at h
 ·cases h
 ·split at h
  ·cases h
  ·omega
theorem yM (l:List Int) (k:Nat) (h:k<l.length):l.getD k 0=l[k]:=by rw [List.getD_eq_getElem?_getD,List.getElem?_eq_getElem h];rfl
structure State where
 table:List Rate
 ser:List Ser
 posted:List Posted
 book:List Bal
 sess:List Sess
 next:Int
deriving DecidableEq
def kW (ser:List Ser) (is:List Int) (p:Posted):Bool⊕List Int:=
 if dD ser p.ref.ser<0 then .inl false else if p.ref.num=(bump is (dD ser p.ref.ser).toNat).getD (dD ser p.ref.ser).toNat 0 then .inr (bump is (dD ser p.ref.ser).toNat) else .inl false
def jU (is:List Int) (s:Ser):Bool⊕List Int:=if s.next=is.headD 0+1 then .inr is.tail else .inl false
def nC (ser:List Ser) (l:List Posted):Bool:=aD (kW ser) (fun is=>aD jU (fun _=>true) ser is) l (List.replicate 8 0)
theorem yN (l:List Int) (k:Nat):(bump l k).length=l.length:=List.length_set ..
theorem aTr (l:List Int) (k:Nat) (h:k<l.length):(bump l k).getD k 0=l[k]+1:=by
 rw [List.getD_eq_getElem?_getD,bump,List.getElem?_set_self h,yM l k h];rfl
def rC (l:List Sess) (next:Int):Bool:=match l[l.length - 1]? with
 | none=>true
 | some s=>decide (s.id<next)
def iE (s:State):Bool:=if eT s.sess=true then (if 1≤s.next then (if s.next≤1099511627776 then rC s.sess s.next else false) else false) else false
theorem aD9 {σ α:Type} {step:σ→α→Bool⊕σ} {fin:σ→Bool} (hs:∀ s a r,step s a=.inl r→r=false):∀ (l:List α) (s:σ),aD step fin l s=true→∀ a∈l,∃ s s',step s a=.inr s'
 | [],s,h,a,ha=>by cases ha
 | b::l,s,h,a,ha=>by
  simp only [aD] at h
  split at h
  ·rename_i r he
   have:=hs s b r he
   rw [this] at h;cases h
  ·rename_i s' he
   rcases List.mem_cons.1 ha with rfl | ha
   ·exact ⟨s,s',he⟩
   ·exact aD9 hs l s' h a ha
theorem aF2 {s:List UInt8} (h:dF s=true):s.length≤24:=by
 unfold dF at h
 split at h
 ·cases h
 ·split at h
  ·cases h
  ·omega
theorem aH5 {t:Total} (h:bY t=true):∀ q∈t.parts,dF q.cat=true:=by
 unfold bY at h
 split at h
 ·cases h
 ·split at h
  ·cases h
  ·intro q hq
   obtain ⟨s,s',he⟩:=aD9 (fun s a r hr=>by
    unfold cC at hr
    repeat' split at hr
    all_goals cases hr
    all_goals rfl) t.parts none h q hq
   unfold cC at he
   split at he
   ·cases he
   ·rename_i hn;simpa using hn
theorem tD {p:Posted} (h:bY p.total=true):Fit p:=⟨gX h,fun q hq=>by have:=aF2 (aH5 h q hq);omega⟩
theorem kP {l:List Posted} (h:iS l=true):l.length≤40∧∀ p∈l,p.day.right=true∧bY p.total=true:=by
 unfold iS at h
 split at h
 ·cases h
 ·refine ⟨by omega,fun p hp=>?_⟩
  obtain ⟨s,s',he⟩:=aD9 (fun s a r hr=>by
   unfold gA at hr
   repeat' split at hr
   all_goals cases hr
   all_goals rfl) l _ h p hp
  unfold gA at he
  split at he
  ·cases he
  ·rename_i h1
   split at he
   ·cases he
   ·rename_i h2
    exact ⟨by simpa using h1,by simpa using h2⟩
def bQ (s:State):Bool:=if eD s.table=false then false else if kO s.ser=false then false else if iE s=false then false else if iS s.posted=false then false else
 if nC s.ser s.posted=false then false else if (dV s.posted).2=0 then decide ((dV s.posted).1=s.book) else false
theorem tE:∀ (l:List Posted) (a:List Bal) (r:List Bal×Int),(∀ p∈l,p.total.parts.length≤12)→aD bL (fun b=>(b,0)) l a=r→r.1.length≤a.length+25*l.length
 | [],a,r,_,h=>by subst h;simp [aD]
 | p::l,a,r,hp,h=>by
  simp only [aD] at h
  split at h
  ·rename_i r' he
   subst h
   unfold bL at he
   repeat' split at he
   all_goals cases he
   all_goals simp
  ·rename_i a' he
   unfold bL at he
   split at he
   ·cases he
   ·rename_i h1
    split at he
    ·cases he
    ·cases he
     have h2:=(tC p.total).resolve_right h1
     have h3:=rA a (cD p.total).1
     have h4:=hp p (List.mem_cons_self ..)
     have:=tE l _ r (fun q hq=>hp q (List.mem_cons_of_mem _ hq)) h
     simp only [List.length_cons]
     omega
def State.new:State:=⟨[],[],[],[],[],1⟩
structure Bnd (s:State):Prop where
 bt:s.table.length≤100000
 bs:s.ser.length≤100000
 bp:s.posted.length≤100000
 bb:s.book.length≤100000
 be:s.sess.length≤100000
 bq:∀ p∈s.posted,p.total.parts.length≤100000
def bB2:List UInt8:=[111,119,101,100]
def yO (g:Int) (b:Bal):Int⊕Int:=.inr (if (b.acc == bB2)=true then b.amount else g)
def aIt (s:State) (name:List UInt8):Rep:=if (kU s.ser name).2=false then ⟨11,0,0⟩ else ⟨0,wr .i64 ((kU s.ser name).1.next - 1),aD yO id s.book 0⟩
def why (e:Int):Rep:=⟨e,0,0⟩
def bB (s:State) (name:List UInt8) (p:Posted):State×Rep:=
 if (cL s.ser name).2.2≠0 then (s,why (cL s.ser name).2.2) else if 40≤s.posted.length then (s,why 14) else
  if (cD p.total).2≠0 then (s,why (cD p.total).2) else if (bI s.book (cD p.total).1).2≠0 then (s,why (bI s.book (cD p.total).1).2) else
   ({ s with ser:=(cL s.ser name).1,book:=(bI s.book (cD p.total).1).1,posted:=s.posted++[{ p with ref:=⟨name,(cL s.ser name).2.1⟩ }] },⟨0,(cL s.ser name).2.1,p.total.gross⟩)
theorem aPi {P:List UInt8→Prop} {l:List Part} {cat:List UInt8} {bp n:Int} (h:∀ p∈l,P p.cat) (hc:P cat):∀ p∈(sC l cat bp n).1,P p.cat:=by
 have hroom:∀ p∈dB l cat bp,P p.cat:=by
  unfold dB
  split
  ·intro p hp
   rcases List.mem_append.1 hp with hp | hp
   ·exact h p (List.mem_of_mem_take hp)
   ·rcases List.mem_cons.1 hp with rfl | hp
    ·exact hc
    ·exact h p (List.mem_of_mem_drop hp)
  ·exact h
 unfold sC
 split
 ·intro p hp;cases hp
 ·rename_i q hq
  intro p hp
  rcases List.mem_or_eq_of_mem_set hp with hp | rfl
  ·exact hroom p hp
  ·exact hroom q (List.mem_of_getElem? hq)
theorem aAw:∀ (l:List Part) (st:Int×Int×List Part) (r:Total×Int),aD gE lI l st=r→r.2=0→r.1.parts.map (·.cat)=st.2.2.map (·.cat)++l.map (·.cat)
 | [],st,r,h,h0=>by
  subst h
  simp only [aD,lI] at h0 ⊢
  split at h0
  ·rename_i hc;exact absurd h0 hc
  ·rename_i hc;rw [if_neg hc];simp
 | p::l,st,r,h,h0=>by
  simp only [aD] at h
  split at h
  ·rename_i r' he
   unfold gE at he
   split at he
   ·cases he;subst h;cases h0
   ·cases he
  ·rename_i st' he
   unfold gE at he
   split at he
   ·cases he
   ·cases he
    rw [aAw l _ r h h0]
    simp
theorem aF3 {tab:List Rate} {d:Date}:∀ (l:List Line) (parts:List Part) (r:Total×Int),(∀ p∈parts,dF p.cat=true)→aD (iR tab d) eY l parts=r→r.2=0→(∀ p∈r.1.parts,dF p.cat=true)∧r.1.parts.length≤parts.length+l.length
 | [],parts,r,hp,h,h0=>by
  subst h
  simp only [aD] at h0 ⊢
  have:=aAw parts (0,0,[]) _ rfl h0
  simp only [List.map_nil,List.nil_append] at this
  refine ⟨fun p hpm=>?_,?_⟩
  ·have hm:p.cat∈parts.map (·.cat):=by rw [←this];exact List.mem_map_of_mem hpm
   obtain ⟨q,hq,e⟩:=List.mem_map.1 hm
   rw [←e];exact hp q hq
  ·have hl:=congrArg List.length this
   rw [List.length_map,List.length_map] at hl
   exact Nat.le_of_eq hl
 | x::l,parts,r,hp,h,h0=>by
  simp only [aD] at h
  split at h
  ·rename_i r' he
   unfold iR at he
   split at he
   ·rename_i hc;cases he;subst h;exact absurd h0 hc
   ·split at he
    ·rename_i hc;cases he;subst h;exact absurd h0 hc
    ·cases he
  ·rename_i s' he
   unfold iR at he
   split at he
   ·cases he
   ·rename_i hc
    split at he
    ·cases he
    ·cases he
     have hn:dF x.cat=true:=by
      have hc0:(fM tab d x).2.2=0:=by omega
      unfold fM at hc0
      split at hc0
      ·cases hc0
      ·split at hc0
       ·cases hc0
       ·rename_i hh;simpa using hh
     have h1:=aIs parts x.cat (fM tab d x).1 (fM tab d x).2.1
     obtain ⟨h2,h3⟩:=aF3 l _ r (aPi (P:=fun c=>dF c=true) hp hn) h h0
     refine ⟨h2,?_⟩
     simp only [List.length_cons]
     omega
theorem wJ {tab:List Rate} {d:Date} {l:List Line} (h:(cY tab d l).2=0):(cY tab d l).1.parts.length≤12∧∀ q∈(cY tab d l).1.parts,q.cat.length≤1000000:=by
 unfold cY at h ⊢
 split at h
 ·cases h
 ·rename_i c1
  rw [if_neg c1]
  split at h
  ·cases h
  ·rename_i c2
   rw [if_neg c2]
   split at h
   ·cases h
   ·rename_i c3
    rw [if_neg c3]
    split at h
    ·cases h
    ·rename_i c4
     rw [if_neg c4]
     obtain ⟨h1,h2⟩:=aF3 l [] _ (fun _ h=>by cases h) rfl h
     refine ⟨by simp only [List.length_nil] at h2;omega,fun q hq=>by have:=aF2 (h1 q hq);omega⟩
theorem aDa:∀ (l a:List Part) (r:List Part×Int),aD cX (fun l=>(l,0)) l a=r→r.2=0→r.1.map (·.cat)=a.map (·.cat)++l.map (·.cat)
 | [],a,r,h,h0=>by subst h;simp [aD]
 | x::l,a,r,h,h0=>by
  simp only [aD] at h
  split at h
  ·rename_i r' he
   subst h
   unfold cX at he
   split at he
   ·rename_i hc;cases he;exact absurd h0 hc
   ·cases he
  ·rename_i a' he
   unfold cX at he
   split at he
   ·cases he
   ·cases he
    rw [aDa l _ r h h0]
    simp
theorem aL3 (t:Total) (h:(aX t).2=0):(aX t).1.parts.map (·.cat)=t.parts.map (·.cat):=by
 unfold aX at h ⊢
 split at h
 ·rename_i c;exact absurd h c
 ·rename_i c
  rw [if_neg c]
  split at h
  ·rename_i c2;exact absurd h c2
  ·rename_i c2
   rw [if_neg c2]
   have:=aDa t.parts [] _ rfl (by omega)
   simpa using this
theorem aPj {p:Posted} (hf:Fit p) (h:(aX p.total).2=0):(aX p.total).1.parts.length≤12∧∀ q∈(aX p.total).1.parts,q.cat.length≤1000000:=by
 have:=aL3 p.total h
 refine ⟨by have:=uK p.total;have:=hf.1;omega,fun q hq=>?_⟩
 have hm:q.cat∈p.total.parts.map (·.cat):=by rw [←this];exact List.mem_map_of_mem hq
 obtain ⟨q',hq',e⟩:=List.mem_map.1 hm
 rw [←e];exact hf.2 q' hq'
structure Cmd where
 kind:Int
 series:List UInt8
 limit:Int
 row:Rate
 day:Date
 lines:List Line
 of:Ref
 session:Int
def nH (s:State) (c:Cmd):State×Rep:=
 if (cY s.table c.day c.lines).2≠0 then (s,why (cY s.table c.day c.lines).2) else bB s c.series ⟨Ref.zero,c.day,(cY s.table c.day c.lines).1,Ref.zero,false⟩
def Posted.zero:Posted:=⟨Ref.zero,⟨0,0,0⟩,Total.zero,Ref.zero,false⟩
def fV (l:List Posted) (k:Nat):List Posted:=match l[k]? with
 | none=>l
 | some p=>l.set k { p with back:=true }
def gB (s:State) (c:Cmd) (k:Nat) (p:Posted):State×Rep:=
 if p.back=true then (s,why 12) else if p.of=Ref.zero then
  (if c.day.right=false then (s,why 9) else if c.day.before p.day=true then (s,why 9) else if (aX p.total).2≠0 then (s,why (aX p.total).2) else
   if (bB s c.series ⟨Ref.zero,c.day,(aX p.total).1,c.of,false⟩).2.why=0 then
    ({ (bB s c.series ⟨Ref.zero,c.day,(aX p.total).1,c.of,false⟩).1 with posted:=fV (bB s c.series ⟨Ref.zero,c.day,(aX p.total).1,c.of,false⟩).1.posted k },(bB s c.series ⟨Ref.zero,c.day,(aX p.total).1,c.of,false⟩).2)
   else bB s c.series ⟨Ref.zero,c.day,(aX p.total).1,c.of,false⟩) else (s,why 12)
def fF (s:State) (c:Cmd):State×Rep:=
 if bE s.posted c.of<0 then (s,why 11) else gB s c (bE s.posted c.of).toNat (s.posted.getD (bE s.posted c.of).toNat Posted.zero)
theorem aH6 (s:State) (name:List UInt8) (p:Posted):∃ l,(bB s name p).1.posted=s.posted++l:=by
 unfold bB
 repeat' split
 all_goals first | exact ⟨[],(List.append_nil _).symm⟩ | exact ⟨_,rfl⟩
def gN (s:State) (r:List Ser×Int):State×Rep:=if r.2=0 then ({ s with ser:=r.1 },why r.2) else (s,why r.2)
def kX (s:State) (r:List Rate×Int):State×Rep:=if r.2=0 then ({ s with table:=r.1 },why r.2) else (s,why r.2)
def iQ (s:State) (r:List Sess×Int):State×Rep:=if r.2=0 then ({ s with sess:=r.1 },why r.2) else (s,why r.2)
def vE (s:State) (c:Cmd):State×Rep:=
 if c.kind=1 then gN s (fD s.ser c.series c.limit) else if c.kind=2 then gN s (pE s.ser c.series) else if c.kind=3 then kX s (iC s.table c.row) else
  if c.kind=4 then nH s c else if c.kind=5 then fF s c else if c.kind=7 then iQ s (gJ s.sess c.session) else (s,aIt s c.series)
def gO (s:State):State×Rep:=
 if 8≤s.sess.length∨1099511627776≤s.next then (s,why 14) else if (nW s.sess s.next).2≠0 then (s,why (nW s.sess s.next).2) else
  ({ s with sess:=(nW s.sess s.next).1,next:=wr .i64 (s.next+1) },⟨0,s.next,0⟩)
structure Call where
 session:Int
 seq:Int
 cmd:Cmd
def iF (r:State×Rep) (c:Call):State×Rep:=if (kE r.1.sess c.session c.seq r.2).2=0 then ({ r.1 with sess:=(kE r.1.sess c.session c.seq r.2).1 },r.2) else r
def fW (s:State) (c:Call):State×Rep:=
 if bQ s=false then (s,why 1) else if c.cmd.kind<1∨8<c.cmd.kind then (s,why 17) else if c.cmd.kind=6 then gO s else
  if (cB s.sess c.session c.seq).2.2≠0 then (s,why (cB s.sess c.session c.seq).2.2) else if (cB s.sess c.session c.seq).2.1=true then (s,(cB s.sess c.session c.seq).1) else iF (vE s c.cmd) c
theorem kY {s:State} (h:bQ s=true):iS s.posted=true:=by
 unfold bQ at h
 repeat' split at h
 all_goals first | cases h | skip
 rename_i h4 _ _
 simpa using h4
structure Sml (s:State):Prop where
 st:s.table.length≤1000
 ss:s.ser.length≤1000
 sp:s.posted.length≤1000
 sb:s.book.length≤10000
 se:s.sess.length≤1000
 sq:∀ p∈s.posted,p.total.parts.length≤1000
theorem Sml.bnd {s:State} (h:Sml s):Bnd s:=⟨by have:=h.st;omega,by have:=h.ss;omega,by have:=h.sp;omega,by have:=h.sb;omega,by have:=h.se;omega,fun p hp=>by have:=h.sq p hp;omega⟩
theorem Sml.new:Sml State.new:=⟨by decide,by decide,by decide,by decide,by decide,fun p hp=>by cases hp⟩
theorem oF {s:State} (h:bQ s=true):s.table.length≤24∧s.ser.length≤8∧s.sess.length≤8∧s.posted.length≤40∧s.book.length≤1000∧(∀ p∈s.posted,p.total.parts.length≤12)∧s.book=(dV s.posted).1:=by
 unfold bQ at h
 split at h
 ·cases h
 ·rename_i h1
  split at h
  ·cases h
  ·rename_i h2
   split at h
   ·cases h
   ·rename_i h3
    split at h
    ·cases h
    ·rename_i h4
     split at h
     ·cases h
     ·split at h
      ·have hb:=of_decide_eq_true h
       have h4':iS s.posted=true:=by simpa using h4
       obtain ⟨p1,p2⟩:=kP h4'
       have hparts:∀ p∈s.posted,p.total.parts.length≤12:=fun p hp=>gX (p2 p hp).2
       have hl:=tE s.posted [] (dV s.posted) hparts rfl
       have hs:eT s.sess=true:=by
        unfold iE at h3
        by_cases c:eT s.sess=true
        ·exact c
        ·rw [if_neg c] at h3;exact absurd rfl h3
       refine ⟨vY (by simpa using h1),mZ (by simpa using h2),kN hs,p1,?_,hparts,hb.symm⟩
       rw [←hb]
       simp only [List.length_nil] at hl
       omega
      ·cases h
theorem aDb {s:State} (h:Sml s) (h1:s.ser.length≤8) (h2:s.posted.length≤40) (h3:s.book.length≤1000) (name:List UInt8) (p:Posted) (hp:p.total.parts.length≤12):Sml (bB s name p).1:=by
 unfold bB
 split
 ·exact h
 ·split
  ·exact h
  ·split
   ·exact h
   ·rename_i c3
    split
    ·exact h
    ·refine ⟨h.st,?_,?_,?_,h.se,?_⟩
     ·show (cL s.ser name).1.length≤1000
      unfold cL
      repeat' split
      all_goals simp
      omega
     ·show (s.posted++_).length≤1000
      simp only [List.length_append,List.length_cons,List.length_nil];omega
     ·show (bI s.book (cD p.total).1).1.length≤10000
      have:=rA s.book (cD p.total).1
      have:=(tC p.total).resolve_right c3
      omega
     ·intro q hq
      rcases List.mem_append.1 hq with hq | hq
      ·exact h.sq q hq
      ·rw [List.mem_singleton.1 hq]
       show p.total.parts.length≤1000
       omega
theorem aIu (l:List Posted) (k:Nat) (h:∀ p∈l,p.total.parts.length≤1000):(fV l k).length=l.length∧∀ p∈fV l k,p.total.parts.length≤1000:=by
 unfold fV
 split
 ·exact ⟨rfl,h⟩
 ·rename_i p hp
  refine ⟨List.length_set ..,fun q hq=>?_⟩
  rcases List.mem_or_eq_of_mem_set hq with hq | rfl
  ·exact h q hq
  ·exact h p (List.mem_of_getElem? hp)
theorem pG {α:Type} (l:List α) (i:Nat) (a:α):(dG l i a).length≤l.length+1:=by
 simp only [dG,List.length_append,List.length_cons,List.length_take,List.length_drop];omega
theorem aWu {s:State} (h:Sml s) (hr:bQ s=true) (c:Cmd):Sml (vE s c).1:=by
 obtain ⟨r1,r2,r3,r4,r5,r6,_⟩:=oF hr
 unfold vE
 split
 ·unfold gN
  split
  ·refine ⟨h.st,?_,h.sp,h.sb,h.se,h.sq⟩
   show (fD s.ser c.series c.limit).1.length≤1000
   unfold fD
   repeat' split
   all_goals first | (simp;done) | (refine Nat.le_trans (pG _ _ _) ?_;omega)
  ·exact h
 ·split
  ·unfold gN
   split
   ·refine ⟨h.st,?_,h.sp,h.sb,h.se,h.sq⟩
    show (pE s.ser c.series).1.length≤1000
    unfold pE
    repeat' split
    all_goals simp
    omega
   ·exact h
  ·split
   ·unfold kX
    split
    ·refine ⟨?_,h.ss,h.sp,h.sb,h.se,h.sq⟩
     show (iC s.table c.row).1.length≤1000
     unfold iC
     repeat' split
     all_goals first | (simp;done) | (refine Nat.le_trans (pG _ _ _) ?_;omega)
    ·exact h
   ·split
    ·unfold nH
     split
     ·exact h
     ·rename_i c1
      exact aDb h r2 r4 r5 _ _ (wJ (by omega)).1
    ·split
     ·unfold fF
      split
      ·exact h
      ·rename_i c1
       unfold gB
       split
       ·exact h
       ·split
        ·split
         ·exact h
         ·split
          ·exact h
          ·split
           ·exact h
           ·rename_i c4
            have hpar:(s.posted.getD (bE s.posted c.of).toNat Posted.zero).total.parts.length≤12:=by
             rw [List.getD_eq_getElem?_getD]
             cases hg:s.posted[(bE s.posted c.of).toNat]? with
             | none=>exact Nat.zero_le _
             | some p=>exact r6 p (List.mem_of_getElem? hg)
            have hbl:=uK (s.posted.getD (bE s.posted c.of).toNat Posted.zero).total
            have hi:=aDb h r2 r4 r5 c.series ⟨Ref.zero,c.day,(aX (s.posted.getD (bE s.posted c.of).toNat Posted.zero).total).1,c.of,false⟩ (Nat.le_trans hbl hpar)
            split
            ·obtain ⟨e1,e2⟩:=aIu _ (bE s.posted c.of).toNat hi.sq
             exact ⟨hi.st,hi.ss,by rw [e1];exact hi.sp,hi.sb,hi.se,e2⟩
            ·exact hi
        ·exact h
     ·split
      ·unfold iQ
       split
       ·refine ⟨h.st,h.ss,h.sp,h.sb,?_,h.sq⟩
        show (gJ s.sess c.session).1.length≤1000
        unfold gJ
        repeat' split
        all_goals first | (simp;done) | (simp only [vX,List.length_append,List.length_take,List.length_drop];omega)
       ·exact h
      ·exact h
theorem aPk (l:List Sess) (id seq:Int) (r:Rep):(kE l id seq r).1.length≤l.length:=by
 unfold kE
 repeat' split
 all_goals simp
theorem aL4 {s:State} (h:Sml s) (c:Call):Sml (fW s c).1:=by
 unfold fW
 split
 ·exact h
 ·rename_i hr
  have hr:bQ s=true:=by simpa using hr
  split
  ·exact h
  ·split
   ·unfold gO
    split
    ·exact h
    ·split
     ·exact h
     ·obtain ⟨_,_,r3,_⟩:=oF hr
      refine ⟨h.st,h.ss,h.sp,h.sb,?_,h.sq⟩
      show (nW s.sess s.next).1.length≤1000
      unfold nW
      repeat' split
      all_goals first | (simp;done) | (refine Nat.le_trans (pG _ _ _) ?_;omega)
   ·split
    ·exact h
    ·split
     ·exact h
     ·have hd:=aWu h hr c.cmd
      unfold iF
      split
      ·exact ⟨hd.st,hd.ss,hd.sp,hd.sb,by have:=aPk (vE s c.cmd).1.sess c.session c.seq (vE s c.cmd).2;have:=hd.se;show (kE _ _ _ _).1.length≤1000;omega,hd.sq⟩
      ·exact hd
def rE (c:Call):Call:={ c with cmd:={ c.cmd with lines:=c.cmd.lines.take 15 } }
def tF (l:List Call) (n:Nat):List Call:=(l.take n).map rE
def bHc:List V:=[.int .i64 0,.int .i64 0,.int .i64 0,.str [],.int .i64 0,.str [],.int .i64 0,.int .i64 0,.int .i64 0,.int .i64 0,.int .i64 0,.int .i64 0,.int .i64 0,.nils,.str [],.int .i64 0,.int .i64 0]
def tG (st:State×List Rep) (c:Call):State×List Rep:=((fW st.1 c).1,st.2++[(fW st.1 c).2])
def playM (s:State) (l:List Call):State×List Rep:=l.foldl tG (s,[])
def aNn (st:State×List Rep) (c:Call):(State×List Rep)⊕(State×List Rep):=.inr (tG st c)
theorem aF4:∀ (l:List Call) (st:State×List Rep),aD aNn id l st=l.foldl tG st
 | [],st=>rfl
 | c::l,st=>by simp only [aD,aNn,List.foldl_cons];exact aF4 l _
theorem aTs (l:List Call) (n:Nat):(tF l n).length≤n:=by simp only [tF,List.length_map,List.length_take];omega
end Go.Proofs.YtoaibmbldmckaaaGreat
end
section
namespace Go.AM
def tH {α:Type} (a:α):Option (List α)→Option (List α)
 | some l=>some (a::l)
 | none=>none
def yP:List V→Nat→Option (List V)
 | _,0=>some []
 | [],_+1=>none
 | a::l,n+1=>tH a (yP l n)
def tJ:List V→Nat→List V→Option (List V)
 | cs,0,[]=>some cs
 | [],0,_::_=>none
 | _::cs,0,x::xs=>tH x (tJ cs 0 xs)
 | [],_+1,_=>none
 | c::cs,j+1,xs=>tH c (tJ cs j xs)
def pH:List V→Nat→Bool
 | [],0=>true
 | _::l,n+1=>pH l n
 | _,_=>false
def aH7 {α:Type}:List α→Nat→α→Option (List α)
 | [],_,_=>none
 | _::l,0,x=>some (x::l)
 | a::l,i+1,x=>tH a (aH7 l i x)
theorem aIv:∀ (l:List V) (n:Nat),yP l n=if n≤l.length then some (l.take n) else none
 | l,0=>by cases l<;>simp [yP]
 | [],n+1=>by simp [yP]
 | a::l,n+1=>by
  simp only [yP,aIv l n,List.length_cons,Nat.add_le_add_iff_right,List.take_succ_cons]
  split<;>rfl
theorem yQ:∀ (cs:List V) (j:Nat) (xs:List V),tJ cs j xs=if j+xs.length≤cs.length then some (splice cs j xs) else none
 | cs,0,[]=>by cases cs<;>simp [tJ,splice]
 | [],0,x::xs=>by simp [tJ]
 | c::cs,0,x::xs=>by
  have h:=yQ cs 0 xs
  simp only [tJ,h,List.length_cons,splice,List.take_zero,List.nil_append,Nat.zero_add]
  by_cases c1:xs.length≤cs.length
  ·rw [if_pos c1,if_pos (by omega)];simp [tH]
  ·rw [if_neg c1,if_neg (by omega)];rfl
 | [],j+1,xs=>by simp [tJ]
 | c::cs,j+1,xs=>by
  have h:=yQ cs j xs
  simp only [tJ,h,List.length_cons,splice]
  by_cases c1:j+xs.length≤cs.length
  ·rw [if_pos c1,if_pos (by omega)]
   simp only [tH,List.take_succ_cons,List.cons_append,show j+1+xs.length=(j+xs.length)+1 by omega,List.drop_succ_cons]
  ·rw [if_neg c1,if_neg (by omega)];rfl
theorem yR:∀ (l:List V) (n:Nat),pH l n=decide (l.length=n)
 | [],0=>rfl
 | [],n+1=>by simp [pH]
 | a::l,0=>by simp [pH]
 | a::l,n+1=>by simp [pH,yR l n]
theorem aNo {α:Type}:∀ (l:List α) (i:Nat) (x:α),aH7 l i x=if i<l.length then some (l.set i x) else none
 | [],i,x=>by simp [aH7]
 | a::l,0,x=>by simp [aH7]
 | a::l,i+1,x=>by
  simp only [aH7,aNo l i x,List.length_cons,Nat.add_lt_add_iff_right,List.set_cons_succ]
  split<;>rfl
theorem pt2 (n:Nat) (cs:List V) (j:Nat):jM (some (n+1)) cs j=(match yP (cs.drop j) (n+1) with
  | some l=>.ok (.agg l)
  | none=>.error "part"):=by
 simp only [jM,aIv,List.length_drop]
 by_cases c:j+(n+1)≤cs.length
 ·rw [if_pos c,if_pos (by omega)]
 ·rw [if_neg c,if_neg (by omega)]
theorem nK (n a ver i j:Nat) (x:V) (S:St):fU n (.ptr a ver i j) x S=(match aA S a ver with
  | .error e=>.error e
  | .ok (es,elems)=>match elems[i]? with
   | some cs=>(match pH x.cells n&&aI x.cells with
    | true=>(match tJ cs j x.cells with
     | some cs'=>.ok ⟨S.next,S.heap.put a (.row ver es (elems.set i cs'))⟩
     | none=>.error "store: the size")
    | false=>.error "store: the size")
   | none=>.error "store"):=by
 simp only [fU,yQ,yR]
 cases aA S a ver with
 | error e=>rfl
 | ok r=>
  obtain ⟨es,elems⟩:=r
  simp only
  cases elems[i]? with
  | none=>rfl
  | some cs=>
   simp only
   by_cases c1:x.cells.length=n
   ·cases c2:aI x.cells
    ·simp [c1]
    ·by_cases c3:j+x.cells.length≤cs.length
     ·rw [if_pos ⟨c1,rfl,c3⟩];simp [c1];simp [←c1,c3]
     ·rw [if_neg (fun h=>c3 h.2.2)];simp [c1];simp [←c1,c3]
   ·rw [if_neg (fun h=>c1 h.1)];simp [c1]
theorem bw0 (z:List V) (pl:List (Nat×Nat)):vV z pl []=.ok (.agg z):=rfl
theorem bw1 (z:List V) (pl:List (Nat×Nat)) (i:Nat) (v:V) (rest:List (Nat×V)):vV z pl ((i,v)::rest)=(match pl[i]? with
  | none=>.error "fill"
  | some (off,size)=>(match pH v.cells size&&aI v.cells with
   | true=>(match tJ z off v.cells with
    | some z'=>vV z' pl rest
    | none=>.error "fill")
   | false=>.error "fill")):=by
 simp only [vV,sH]
 cases pl[i]? with
 | none=>rfl
 | some p=>
  obtain ⟨off,size⟩:=p
  simp only [yQ,yR,cond_eq_ite]
  by_cases c1:v.cells.length=size
  ·cases c2:aI v.cells
   ·simp [c1]
   ·by_cases c3:off+v.cells.length≤z.length
    ·have h1:Nat.beq v.cells.length size=true:=by simpa using c1
     have h2:Nat.ble (off+v.cells.length) z.length=true:=Nat.ble_eq_true_of_le c3
     simp [h1,h2,c1]
     simp [←c1,c3]
    ·have h2:Nat.ble (off+v.cells.length) z.length=false:=by
      cases h:Nat.ble (off+v.cells.length) z.length with
      | false=>rfl
      | true=>exact absurd (Nat.le_of_ble_eq_true h) c3
     simp [h2,c1]
     simp [←c1,c3]
  ·have h1:Nat.beq v.cells.length size=false:=by
    cases h:Nat.beq v.cells.length size with
    | false=>rfl
    | true=>exact absurd (Nat.eq_of_beq_eq_true h) c1
   simp [h1,c1]
theorem lv1 (es:Nat) (elems:List (List V)) (i:Nat) (v:V) (rest:List (Nat×V)):uR es elems ((i,v)::rest)=(match pH v.cells es&&aI v.cells with
  | true=>(match aH7 elems i v.cells with
   | some e=>uR es e rest
   | none=>.error "buildSlice")
  | false=>.error "buildSlice"):=by
 simp only [uR,aNo,yR,cond_eq_ite]
 by_cases c1:v.cells.length=es
 ·have h1:Nat.beq v.cells.length es=true:=by simpa using c1
  cases c2:aI v.cells
  ·simp [c1]
  ·by_cases c3:i<elems.length
   ·have h2:Nat.blt i elems.length=true:=by simpa using c3
    simp [h1,h2,c1,c3]
   ·have h2:Nat.blt i elems.length=false:=by
     cases h:Nat.blt i elems.length with
     | false=>rfl
     | true=>exact absurd (by simpa using h) c3
    simp [h2,c1,c3]
 ·have h1:Nat.beq v.cells.length es=false:=by
   cases h:Nat.beq v.cells.length es with
   | false=>rfl
   | true=>exact absurd (Nat.eq_of_beq_eq_true h) c1
  simp [h1,c1]
theorem bB3:(∀ {α:Type} (a:α) (l:List α),tH a (some l)=some (a::l))∧(∀ l:List V,yP l 0=some [])∧(∀ (a:V) (l:List V) (n:Nat),yP (a::l) (n+1)=tH a (yP l n)) ∧
  (∀ cs:List V,tJ cs 0 []=some cs)∧(∀ (c x:V) (cs xs:List V),tJ (c::cs) 0 (x::xs)=tH x (tJ cs 0 xs))∧(∀ (c:V) (cs:List V) (j:Nat) (xs:List V),tJ (c::cs) (j+1) xs=tH c (tJ cs j xs)) ∧
  pH [] 0=true∧(∀ (a:V) (l:List V) (n:Nat),pH (a::l) (n+1)=pH l n)∧(∀ {α:Type} (a:α) (l:List α) (x:α),aH7 (a::l) 0 x=some (x::l))∧(∀ {α:Type} (a:α) (l:List α) (i:Nat) (x:α),aH7 (a::l) (i+1) x=tH a (aH7 l i x)) ∧
  type_of% pt2∧(∀ (n a j:Nat) (x:V) (S:St),type_of% (nK n a 0 0 j x S))∧type_of% bw0∧type_of% bw1∧type_of% lv1∧(∀ (es:Nat) (l:List (List V)),uR es l []=.ok l):=
 ⟨fun _ _=>rfl,fun l=>by cases l<;>rfl,fun _ _ _=>rfl,fun cs=>by cases cs<;>rfl,fun _ _ _ _=>rfl,fun _ _ _ _=>by simp only [tJ],rfl,fun _ _ _=>rfl,fun _ _ _=>rfl,fun _ _ _ _=>rfl,pt2,fun n a j x S=>nK n a 0 0 j x S,bw0,bw1,lv1,fun _ _=>rfl⟩
section
section
variable {P:Program}
theorem aWv (b:Bool) (x y:Prop):aK (.bool b) x y=if b=true then x else y:=by cases b<;>rfl
theorem ldP (k:Option Nat) (a ver i j:Nat) (S:St):iJ k (.ptr a ver i j) S=(match aA S a ver with
  | .error e=>.error e
  | .ok (_,elems)=>match elems[i]? with
   | some cs=>jM k cs j
   | none=>.error "load"):=rfl
theorem ptN (cs:List V) (j:Nat):jM none cs j=(match cs[j]? with
  | some v=>.ok v
  | none=>.error "part"):=rfl
theorem grS (n:Nat) (h:Tr Blk) (a ver es:Nat) (el:List (List V)):aA ⟨n,h.put a (.row ver es el)⟩ a ver=.ok (es,el):=aC ..
theorem gH {c a:Nat} (hc:c≠a) (n:Nat) (h:Tr Blk) (ver:Nat) (b:Blk):aA ⟨n,h.put a b⟩ c ver=aA ⟨n,h⟩ c ver:=cI n n h a c ver b hc
theorem nb0 (S:St) (b:Blk):aY none S b=.ok (S.next,⟨S.next+1,S.heap.put S.next b⟩):=eQ S b
theorem nb1 (k:Nat) (S:St) (b:Blk):aY (some k) S b=.ok (k,⟨S.next,S.heap.put k b⟩):=tX k S b
theorem bC0:aI []=true:=rfl
theorem aWw (v:V) (l:List V):aI (v::l)=(v.one&&aI l):=rfl
theorem bMl (b:Bool):(V.bool b).one=true:=rfl
theorem bMm (k:IntKind) (n:Int):(V.int k n).one=true:=rfl
theorem bMn (s:List UInt8):(V.str s).one=true:=rfl
theorem stP (n a ver i j:Nat) (x:V) (S:St):fU n (.ptr a ver i j) x S=(match aA S a ver with
  | .error e=>.error e
  | .ok (es,elems)=>match elems[i]? with
   | some cs=>if x.cells.length=n∧aI x.cells=true∧j+x.cells.length≤cs.length then .ok ⟨S.next,S.heap.put a (.row ver es (elems.set i (splice cs j x.cells)))⟩ else .error "store: the size"
   | none=>.error "store"):=rfl
theorem ixI {α:Type} {l:List α} {enc:α→List V} {i:Nat} {a:α} {n:Nat} (hi:l[i]?=some a) (hn:(enc a).length=n) (k:IntKind):gV n (.imm (l.map enc)) (.int k (i:Int))=.ok (.iptr (enc a) 0):=by
 have hil:=(List.getElem?_eq_some_iff.1 hi).1
 have hx:(l.map enc)[i]?=some (enc a):=by rw [List.getElem?_map,hi];rfl
 simp only [gV,List.length_map,jN hil,hx]
 simp only [hn,if_true]
theorem okI {α:Type} (a b:α):((Except.ok a:R α)=.ok b)=(a=b):=by simp
end
theorem kit:(∀ {α:Type} (a:α) (K:α→Prop),wR (.ok a) K=K a)∧(∀ {α:Type} (a:α) (K:α→Prop),wO (some a) K=K a)∧(∀ x:Prop,uA true x=x)∧(∀ (b:Bool) (x y:Prop),aK (.bool b) x y=if b=true then x else y) ∧
  (∀ (v:V) (r:List V) (K:V→List V→Prop),pA (v::r) K=K v r)∧(∀ (vs:List V) (i:Nat) (K:V→Prop),eB (.tup vs) i K=wO vs[i]? K)∧(∀ (a b c d:Nat) (x:Prop),zR (.ptr a b c d) x=x)∧(∀ (a:List V) (b:Nat) (x:Prop),zR (.iptr a b) x=x) ∧
  (∀ b:Bool,unV .not (.bool b)=.ok (.bool !b))∧(∀ v:V,eJ v v=true):=
 ⟨fun _ _=>rfl,fun _ _=>rfl,fun _=>rfl,aWv,fun _ _ _=>rfl,fun _ _ _=>rfl,fun _ _ _ _ _=>rfl,fun _ _ _=>rfl,fun _=>rfl,zU⟩
theorem bHd (P:Program):(∀ (t:TypeId) (k:IntKind) (a b:Int),bX P .add t (.int k a) (.int k b)=.ok (.int k (wr k (a+b))))∧(∀ (t:TypeId) (k:IntKind) (a b:Int),bX P .sub t (.int k a) (.int k b)=.ok (.int k (wr k (a - b)))) ∧
  (∀ (t:TypeId) (k:IntKind) (a b:Int),bX P .mul t (.int k a) (.int k b)=.ok (.int k (wr k (a*b))))∧(∀ (t:TypeId) (k:IntKind) (a b:Int),bX P .lss t (.int k a) (.int k b)=.ok (.bool (decide (a<b)))) ∧
  (∀ (t:TypeId) (k:IntKind) (a b:Int),bX P .leq t (.int k a) (.int k b)=.ok (.bool (decide (a≤b))))∧(∀ (t:TypeId) (k:IntKind) (a b:Int),bX P .gtr t (.int k a) (.int k b)=.ok (.bool (decide (b<a)))) ∧
  (∀ (t:TypeId) (k:IntKind) (a b:Int),bX P .geq t (.int k a) (.int k b)=.ok (.bool (decide (b≤a))))∧(∀ (t:TypeId) (k:IntKind) (a b:Int),bX P .eql t (.int k a) (.int k b)=.ok (.bool (decide (a=b)))) ∧
  (∀ (t:TypeId) (k:IntKind) (a b:Int),bX P .neq t (.int k a) (.int k b)=.ok (.bool (!decide (a=b)))) ∧
  (∀ (t:TypeId) (j k:IntKind) (a b:Int),cE P t (.int j a) (.int k b)=true)∧(∀ (t:TypeId) (x y:List UInt8),cE P t (.str x) (.str y)=true)∧(∀ (t:TypeId) (x y:Bool),cE P t (.bool x) (.bool y)=true) ∧
  (∀ (t:TypeId) (x y:List UInt8),bX P .eql t (.str x) (.str y)=.ok (.bool (x == y)))∧(∀ (t:TypeId) (x y:List UInt8),bX P .neq t (.str x) (.str y)=.ok (.bool (!(x == y)))) ∧
  (∀ (t:TypeId) (x y:List UInt8),bX P .lss t (.str x) (.str y)=.ok (.bool (fG x y)))∧(∀ (t:TypeId) (x y:List UInt8),bX P .geq t (.str x) (.str y)=.ok (.bool (!fG x y))) ∧
  (∀ (t:TypeId) (k:IntKind) (a b:Int),b≠0→bX P .quo t (.int k a) (.int k b)=.ok (.int k (wr k (a.tdiv b))))∧(∀ (t:TypeId) (k:IntKind) (a b:Int),b≠0→bX P .rem t (.int k a) (.int k b)=.ok (.int k (a.tmod b))):=
 ⟨aVl P,aVm P,aVn P,aVq P,aVr P,aVs P,aVt P,aVu P,aVv P,fun _ _ _ _ _=>rfl,fun _ _ _=>rfl,fun _ _ _=>rfl,aVw P,aVx P,aVy P,aVz P,fun _ _ _ _ h=>aVo P _ _ _ _ h,fun _ _ _ _ h=>aVp P _ _ _ _ h⟩
theorem bHe : (∀ (k : Option Nat) (a j : Nat) (S : St), iJ k (.ptr a 0 0 j) S = (match aA S a 0 with
      | .error e => .error e
      | .ok (_, elems) => match elems[0]? with
        | some cs => jM k cs j
        | none => .error "load")) ∧ (∀ (k : Option Nat) (cs : List V) (j : Nat) (S : St), iJ k (.iptr cs j) S = jM k cs j) ∧
    (∀ (cs : List V) (j : Nat), jM none cs j = (match cs[j]? with
      | some v => .ok v
      | none => .error "part")) ∧
    (∀ off a ver i j : Nat, advW off (.ptr a ver i j) = .ok (.ptr a ver i (j + off))) ∧ (∀ (off : Nat) (cs : List V) (j : Nat), advW off (.iptr cs j) = .ok (.iptr cs (j + off))) ∧
    (∀ (n : Nat) (h : Tr Blk) (a ver es : Nat) (el : List (List V)), aA ⟨n, h.put a (.row ver es el)⟩ a ver = .ok (es, el)) ∧ (∀ (S : St) (b : Blk), aY none S b = .ok (S.next, ⟨S.next + 1, S.heap.put S.next b⟩)) ∧
    (∀ (k : Nat) (S : St) (b : Blk), aY (some k) S b = .ok (k, ⟨S.next, S.heap.put k b⟩)) ∧ (∀ cs : List V, (V.agg cs).cells = cs) ∧ (∀ b : Bool, (V.bool b).cells = [.bool b]) ∧ (∀ (k : IntKind) (n : Int), (V.int k n).cells = [.int k n]) ∧
    (∀ s : List UInt8, (V.str s).cells = [.str s]) ∧ (∀ es : List (List V), (V.imm es).cells = [.imm es]) ∧ V.nils.cells = [.nils] ∧ (∀ a b c d : Nat, (V.ptr a b c d).cells = [.ptr a b c d]) ∧ (∀ a b c d e : Nat, (V.sl a b c d e).cells = [.sl a b c d e]) ∧
    (∀ (f : FuncId) (a b : List V), (V.func f a b).cells = [.func f a b]) ∧ aI [] = true ∧ (∀ (v : V) (l : List V), aI (v :: l) = (v.one && aI l)) ∧ (∀ b : Bool, (V.bool b).one = true) ∧ (∀ (k : IntKind) (n : Int), (V.int k n).one = true) ∧ (∀ s : List UInt8, (V.str s).one = true) ∧
    (∀ es : List (List V), (V.imm es).one = true) ∧ V.nils.one = true ∧ (∀ a b c d : Nat, (V.ptr a b c d).one = true) ∧ (∀ a b c d e : Nat, (V.sl a b c d e).one = true) ∧ (∀ (f : FuncId) (a b : List V), (V.func f a b).one = true) ∧
    (∀ es : List (List V), lenW (.imm es) = .ok (.int .i64 es.length)) ∧ lenW .nils = .ok (.int .i64 0) ∧ (∀ a b c d e : Nat, lenW (.sl a b c d e) = .ok (.int .i64 e)) ∧
    (∀ (S : St) (b : Bool), iA S (.bool b) = .ok (.bool b)) ∧ (∀ (S : St) (k : IntKind) (n : Int), iA S (.int k n) = .ok (.int k n)) ∧ (∀ (S : St) (s : List UInt8), iA S (.str s) = .ok (.str s)) ∧ (∀ (S : St) (es : List (List V)), iA S (.imm es) = .ok (.imm es)) ∧
    (∀ {α : Type} (a b : α), ((Except.ok a : R α) = .ok b) = (a = b)) :=
  ⟨fun _ _ _ _ => rfl, fun _ _ _ _ => rfl, fun _ _ => rfl, fun _ _ _ _ _ => rfl, fun _ _ _ => rfl, grS, nb0, nb1, fun _ => rfl, fun _ => rfl, fun _ _ => rfl, fun _ => rfl, fun _ => rfl, rfl, fun _ _ _ _ => rfl, fun _ _ _ _ _ => rfl, fun _ _ _ => rfl, rfl, fun _ _ => rfl,
    fun _ => rfl, fun _ _ => rfl, fun _ => rfl, fun _ => rfl, rfl, fun _ _ _ _ => rfl, fun _ _ _ _ _ => rfl, fun _ _ _ => rfl, fun _ => rfl, rfl, fun _ _ _ _ _ => rfl, fun _ _ => rfl, fun _ _ _ => rfl, fun _ _ => rfl, fun _ _ => rfl, okI⟩
end
end Go.AM
end
section
namespace Go.Proofs.YtoaibmbldmckaaaGreat
open Go.AM Tryz
theorem fx:type_of% (A2 aS2 <| A2 aZ0 <| A2 aZ1 <| A2 aZ2 <| A2 aZ3 <| A2 aZ4 <| A2 aZ5 <| A2 aZ6 <| A2 aZ7 <| A2 aZ8 <| A2 aZ9 <| A2 aZa <| A2 aZb <| A2 aZc <| A2 aZd <| A2 aZe <| A2 aZf <| A2 aZg <| A2 aZh <| A2 aZi <| A2 aZj <| A2 aZk <| A2 aZl <| A2 aZm <| A2 bDw <| A2 aZn <| A2 bDx <| A2 bDy <| A2 bDz <| A2 bE0 <| A2 bE1 <| A2 bE2 <| A2 bE3 <| A2 bE4 <| A2 bE5 <| A2 bE6 <| A2 bE7 <| A2 bE8 <| A2 aZo <| A2 bE9 <| A2 bEa <| A2 bEb <| A2 bEc <| A2 bEd <| A2 bEe <| A2 aZp <| A2 aZq <| A2 bEf <| A2 bEg <| A2 bEh <| A2 bEi <| A2 bEj <| A2 bEk <| A2 bEl <| A2 bEm <| A2 aMj <| A2 aMk <| A2 aMl <| A2 aMm <| A2 aMn <| A2 aMo <| A2 aMp <| A2 aMq <| A2 aMr <| A2 aMs <| A2 aMt <| A2 aMu <| A2 aMv <| A2 aMw <| A2 aMx <| A2 aMy <| A2 aMz <| A2 aN0 <| A2 aN1 <| A2 aN2 <| A2 aN3 <| A2 aN4 <| A2 aN5 <| A2 aN6 <| A2 aN7 <| A2 aN8 <| A2 aN9 <| A2 aNa <| A2 aNb <| A2 aNc <| A2 aNd <| A2 aNe <| A2 aNf <| A2 aNg <| A2 aNh <| A2 aNi <| A2 aS3 <| A2 aS4 <| A2 aS5 <| A2 aS6 <| A2 aS7 <| A2 aS8 <| A2 aNj <| A2 aNk <| A2 aS9 <| A2 aSa <| A2 aSb <| A2 aSc <| A2 aSd <| A2 aSe <| A2 aSf <| A2 aSg <| A2 aSh <| A2 aSi <| A2 aSj <| A2 aSk <| A2 aSl <| A2 aSm <| A2 aSn <| A2 aSo <| A2 aSp <| A2 aSq <| A2 aSr <| A2 aSs <| A2 aSt <| A2 aSu <| A2 aSv <| A2 aSw <| A2 aSx <| A2 aSy <| A2 aSz <| A2 aT0 <| A2 aT1 <| A2 aT2 <| A2 aT3 <| A2 aT4 <| A2 aT5 <| A2 aT6 <| A2 aT7 <| A2 aT8 <| A2 aT9 <| A2 aTa <| A2 aTb <| A2 aTc <| A2 aTd <| A2 aTe <| A2 aTf <| A2 aTg <| A2 aTh <| A2 aTi <| A2 bA1 <| A2 bA2 <| A2 bFa <| A2 bFb <| A2 bFc <| A2 bFd <| A2 bFe <| A2 bFf <| A2 bA3 <| A2 bA4 <| A2 bFg <| A2 bFh <| A2 bFi <| A2 bFj <| A2 bFk <| A2 bFl <| A2 bFm <| A2 bFn <| A2 bA5 <| A2 bA6 <| A2 bA7 <| A2 ld2 <| A2 bA8 <| A2 bA9 <| A2 bFo <| A2 bAa <| A2 bAb <| A2 bAc <| A2 bFp <| A2 bFq <| A2 bFr <| A2 bFs <| A2 bFt <| A2 ld3 <| A2 bFu <| A2 bFv <| A2 bAd <| A2 bAe <| A2 ld4 <| A2 bFw <| A2 ld5 <| A2 bFx <| A2 bFy <| A2 bFz <| A2 bG0 <| A2 bG1 <| A2 bG2 <| A2 bG3 <| A2 bG4 <| A2 bG5 <| A2 bG6 <| A2 ld9 <| A2 bG7 <| A2 bG8 <| A2 aTj <| A2 aTk <| A2 bAf <| A2 bAg <| A2 bAh <| A2 bAi <| A2 bAj <| A2 bAk <| A2 aTl <| A2 aTm <| A2 bAl <| A2 bAm <| A2 bAn <| A2 bAo <| A2 bAp <| A2 bAq <| A2 bG9 <| A2 bAr <| A2 bAs <| A2 bGa <| A2 bGb <| A2 bGc <| A2 bGd <| A2 bBw <| A2 bGe <| A2 bGf <| A2 aWr <| A2 bGh <| A2 bGi <| A2 bGj <| A2 bAu <| A2 bAv <| A2 bAw <| A2 bAx <| A2 bAy <| A2 bGk <| A2 bAz <| A2 bB0 <| A2 bGl <| A2 bGm <| A2 bGn <| A2 bGo <| A2 bGp <| A2 st3 <| A2 bGq <| A2 bGr <| A2 bB1 <| A2 st4 <| A2 bGs <| A2 st5 <| A2 bGt <| A2 bGu <| A2 bGv <| A2 bGw <| A2 bGx <| A2 bGy <| A2 bGz <| A2 bH0 <| A2 bH1 <| A2 st9 <| A2 bH2 <| bH3):=A2 aS2 <| A2 aZ0 <| A2 aZ1 <| A2 aZ2 <| A2 aZ3 <| A2 aZ4 <| A2 aZ5 <| A2 aZ6 <| A2 aZ7 <| A2 aZ8 <| A2 aZ9 <| A2 aZa <| A2 aZb <| A2 aZc <| A2 aZd <| A2 aZe <| A2 aZf <| A2 aZg <| A2 aZh <| A2 aZi <| A2 aZj <| A2 aZk <| A2 aZl <| A2 aZm <| A2 bDw <| A2 aZn <| A2 bDx <| A2 bDy <| A2 bDz <| A2 bE0 <| A2 bE1 <| A2 bE2 <| A2 bE3 <| A2 bE4 <| A2 bE5 <| A2 bE6 <| A2 bE7 <| A2 bE8 <| A2 aZo <| A2 bE9 <| A2 bEa <| A2 bEb <| A2 bEc <| A2 bEd <| A2 bEe <| A2 aZp <| A2 aZq <| A2 bEf <| A2 bEg <| A2 bEh <| A2 bEi <| A2 bEj <| A2 bEk <| A2 bEl <| A2 bEm <| A2 aMj <| A2 aMk <| A2 aMl <| A2 aMm <| A2 aMn <| A2 aMo <| A2 aMp <| A2 aMq <| A2 aMr <| A2 aMs <| A2 aMt <| A2 aMu <| A2 aMv <| A2 aMw <| A2 aMx <| A2 aMy <| A2 aMz <| A2 aN0 <| A2 aN1 <| A2 aN2 <| A2 aN3 <| A2 aN4 <| A2 aN5 <| A2 aN6 <| A2 aN7 <| A2 aN8 <| A2 aN9 <| A2 aNa <| A2 aNb <| A2 aNc <| A2 aNd <| A2 aNe <| A2 aNf <| A2 aNg <| A2 aNh <| A2 aNi <| A2 aS3 <| A2 aS4 <| A2 aS5 <| A2 aS6 <| A2 aS7 <| A2 aS8 <| A2 aNj <| A2 aNk <| A2 aS9 <| A2 aSa <| A2 aSb <| A2 aSc <| A2 aSd <| A2 aSe <| A2 aSf <| A2 aSg <| A2 aSh <| A2 aSi <| A2 aSj <| A2 aSk <| A2 aSl <| A2 aSm <| A2 aSn <| A2 aSo <| A2 aSp <| A2 aSq <| A2 aSr <| A2 aSs <| A2 aSt <| A2 aSu <| A2 aSv <| A2 aSw <| A2 aSx <| A2 aSy <| A2 aSz <| A2 aT0 <| A2 aT1 <| A2 aT2 <| A2 aT3 <| A2 aT4 <| A2 aT5 <| A2 aT6 <| A2 aT7 <| A2 aT8 <| A2 aT9 <| A2 aTa <| A2 aTb <| A2 aTc <| A2 aTd <| A2 aTe <| A2 aTf <| A2 aTg <| A2 aTh <| A2 aTi <| A2 bA1 <| A2 bA2 <| A2 bFa <| A2 bFb <| A2 bFc <| A2 bFd <| A2 bFe <| A2 bFf <| A2 bA3 <| A2 bA4 <| A2 bFg <| A2 bFh <| A2 bFi <| A2 bFj <| A2 bFk <| A2 bFl <| A2 bFm <| A2 bFn <| A2 bA5 <| A2 bA6 <| A2 bA7 <| A2 ld2 <| A2 bA8 <| A2 bA9 <| A2 bFo <| A2 bAa <| A2 bAb <| A2 bAc <| A2 bFp <| A2 bFq <| A2 bFr <| A2 bFs <| A2 bFt <| A2 ld3 <| A2 bFu <| A2 bFv <| A2 bAd <| A2 bAe <| A2 ld4 <| A2 bFw <| A2 ld5 <| A2 bFx <| A2 bFy <| A2 bFz <| A2 bG0 <| A2 bG1 <| A2 bG2 <| A2 bG3 <| A2 bG4 <| A2 bG5 <| A2 bG6 <| A2 ld9 <| A2 bG7 <| A2 bG8 <| A2 aTj <| A2 aTk <| A2 bAf <| A2 bAg <| A2 bAh <| A2 bAi <| A2 bAj <| A2 bAk <| A2 aTl <| A2 aTm <| A2 bAl <| A2 bAm <| A2 bAn <| A2 bAo <| A2 bAp <| A2 bAq <| A2 bG9 <| A2 bAr <| A2 bAs <| A2 bGa <| A2 bGb <| A2 bGc <| A2 bGd <| A2 bBw <| A2 bGe <| A2 bGf <| A2 aWr <| A2 bGh <| A2 bGi <| A2 bGj <| A2 bAu <| A2 bAv <| A2 bAw <| A2 bAx <| A2 bAy <| A2 bGk <| A2 bAz <| A2 bB0 <| A2 bGl <| A2 bGm <| A2 bGn <| A2 bGo <| A2 bGp <| A2 st3 <| A2 bGq <| A2 bGr <| A2 bB1 <| A2 st4 <| A2 bGs <| A2 st5 <| A2 bGt <| A2 bGu <| A2 bGv <| A2 bGw <| A2 bGx <| A2 bGy <| A2 bGz <| A2 bH0 <| A2 bH1 <| A2 st9 <| A2 bH2 <| bH3
theorem ls:(∀ {α:Type} (a:α) (l:List α),(a::l)[0]?=some a)∧(∀ {α:Type} (a:α) (l:List α) (i:Nat),(a::l)[i+1]?=l[i]?)∧(∀ {α:Type} (i:Nat),([]:List α)[i]?=none)∧(∀ {α:Type} (a:α) (l:List α),(a::l).length=l.length+1)∧(∀ {α:Type},([]:List α).length=0) ∧
  (∀ {α:Type} (l:List α),l.drop 0=l)∧(∀ {α:Type} (a:α) (l:List α) (i:Nat),(a::l).drop (i+1)=l.drop i)∧(∀ {α:Type} (l:List α),l.take 0=[])∧(∀ {α:Type} (a:α) (l:List α) (i:Nat),(a::l).take (i+1)=a::l.take i)∧(∀ {α:Type} (i:Nat),([]:List α).take i=[])∧(∀ {α:Type} (i:Nat),([]:List α).drop i=[]) ∧
  (∀ {α:Type} (l:List α),[]++l=l)∧(∀ {α:Type} (a:α) (l m:List α),a::l++m=a::(l++m))∧(∀ {α:Type} (a b:α) (l:List α),(a::l).set 0 b=b::l)∧(∀ {α:Type} (a b:α) (l:List α) (i:Nat),(a::l).set (i+1) b=a::l.set i b) ∧
  (∀ b:Bool,(true&&b)=b)∧(∀ b:Bool,(b&&true)=b)∧(∀ b:Bool,(!!b)=b)∧(∀ {p q:Prop},(if true=true then p else q)=p)∧(∀ {p q:Prop},(if false=true then p else q)=q)∧(!true)=false∧(!false)=true∧(∀ {α:Type} (a b:α),(if True then a else b)=a)∧(∀ {α:Type} (a b:α),(if False then a else b)=b)∧(∀ n:Nat,0+n=n)∧(∀ n:Nat,n+0=n)∧(∀ {α:Type} (f:α→List V) (l:List α),(l.map f).length=l.length) ∧
  (∀ (p:Prop) [Decidable p],(decide p=true)=p)∧(∀ (p:Prop) [Decidable p],((!decide p)=true)=¬ p)∧(∀ p:Prop,(p∧True)=p)∧(∀ p:Prop,(True∧p)=p)∧(∀ n:Nat,(n≤n)=True)∧(∀ n:Nat,(0≤n)=True)∧(∀ (a:Nat),(a=a)=True):=
 ⟨fun _ _=>rfl,fun _ _ _=>rfl,fun _=>rfl,fun _ _=>rfl,rfl,fun _=>rfl,fun _ _ _=>rfl,fun _=>rfl,fun _ _ _=>rfl,fun _=>by simp,fun _=>by simp,fun _=>rfl,fun _ _ _=>rfl,fun _ _ _=>rfl,fun _ _ _ _=>rfl,Bool.true_and,Bool.and_true,Bool.not_not,by intros;rfl,by intros;rfl,rfl,rfl,fun _ _=>if_pos trivial,fun _ _=>if_neg id,Nat.zero_add,Nat.add_zero,fun _ _=>List.length_map ..,fun p _=>by simp,fun p _=>by simp,and_true,true_and,fun n=>by simp,fun n=>by simp,fun n=>by simp⟩
theorem gm (n:Nat) (S:St) (a v:Nat):aA ⟨n,S.heap⟩ a v=aA S a v:=rfl
theorem bHf {l:List Int} {i:Nat} {a:Int} (hi:l[i]?=some a) (k:IntKind):gV 1 (.imm (l.map dC)) (.int k (i:Int))=.ok (.iptr (dC a) 0):=ixI (enc:=dC) hi rfl k
theorem tK {l:List Rate} {i:Nat} {a:Rate} (hi:l[i]?=some a) (k:IntKind):gV 5 (.imm (l.map Rate.enc)) (.int k (i:Int))=.ok (.iptr a.enc 0):=ixI (enc:=Rate.enc) hi rfl k
theorem oG {l:List Ser} {i:Nat} {a:Ser} (hi:l[i]?=some a) (k:IntKind):gV 4 (.imm (l.map Ser.enc)) (.int k (i:Int))=.ok (.iptr a.enc 0):=ixI (enc:=Ser.enc) hi rfl k
theorem oQ {l:List Sess} {i:Nat} {a:Sess} (hi:l[i]?=some a) (k:IntKind):gV 5 (.imm (l.map Sess.enc)) (.int k (i:Int))=.ok (.iptr a.enc 0):=ixI (enc:=Sess.enc) hi rfl k
theorem lV {l:List Bal} {i:Nat} {a:Bal} (hi:l[i]?=some a) (k:IntKind):gV 2 (.imm (l.map Bal.enc)) (.int k (i:Int))=.ok (.iptr a.enc 0):=ixI (enc:=Bal.enc) hi rfl k
theorem gY {l:List Part} {i:Nat} {a:Part} (hi:l[i]?=some a) (k:IntKind):gV 4 (.imm (l.map Part.enc)) (.int k (i:Int))=.ok (.iptr a.enc 0):=ixI (enc:=Part.enc) hi rfl k
theorem bC1 {l:List Line} {i:Nat} {a:Line} (hi:l[i]?=some a) (k:IntKind):gV 4 (.imm (l.map Line.enc)) (.int k (i:Int))=.ok (.iptr a.enc 0):=ixI (enc:=Line.enc) hi rfl k
theorem aU {α:Type} {l:List α} {i:Nat} {a:α} (h:l[i]?=some a):((i:Int)<(l.length:Int))=True:=by
 have:=(List.getElem?_eq_some_iff.1 h).1
 simp;exact this
theorem gC {i:Nat} (h:i<1000000000):wr .i64 ((i:Int)+1)=((i+1:Nat):Int):=by rw [mD (by omega) (by omega)];omega
theorem wrm {i:Nat} (h:i+1<1000000000):wr .i64 (((i+1:Nat):Int) - 1)=(i:Int):=by rw [mD (by omega) (by omega)];omega
theorem gt0 (i:Nat):((0:Int)<((i+1:Nat):Int))=True:=by simp
theorem aIw {n i a:Nat} (h:(List.range n)[i]?=some a):i<n∧a=i:=by
 have hl:i<n:=by simpa using (List.getElem?_eq_some_iff.1 h).1
 rw [List.getElem?_range hl] at h
 exact ⟨hl,(Option.some.inj h).symm⟩
theorem oo : (∀ (S : St) (v : V), iA S v = cU mU (pX (lL S 3) S) v) ∧ (∀ (σ : V → Go.AM.R V) (l : List V), cU mU σ (.tup l) = (match frzVs mU σ l with
      | .ok cs => .ok (.tup cs)
      | .error e => .error e)) ∧ (∀ (σ : V → Go.AM.R V) (l : List V), cU mU σ (.agg l) = (match frzVs mU σ l with
      | .ok cs => .ok (.agg cs)
      | .error e => .error e)) ∧ (∀ σ : V → Go.AM.R V, frzVs mU σ [] = .ok []) ∧ (∀ (σ : V → Go.AM.R V) (v : V) (l : List V), frzVs mU σ (v :: l) = (match cU mU σ v with
      | .ok v => (match frzVs mU σ l with
        | .ok l => .ok (v :: l)
        | .error e => .error e)
      | .error e => .error e)) ∧ (∀ (σ : V → Go.AM.R V) (b : Bool), cU mU σ (.bool b) = .ok (.bool b)) ∧ (∀ (σ : V → Go.AM.R V) (k : IntKind) (n : Int), cU mU σ (.int k n) = .ok (.int k n)) ∧ (∀ (σ : V → Go.AM.R V) (s : List UInt8), cU mU σ (.str s) = .ok (.str s)) ∧
    (∀ (σ : V → Go.AM.R V) (es : List (List V)), cU mU σ (.imm es) = .ok (.imm es)) ∧ (∀ σ : V → Go.AM.R V, cU mU σ .nils = .ok (.imm [])) ∧ (∀ (σ : V → Go.AM.R V) (a b c d e : Nat), cU mU σ (.sl a b c d e) = σ (.sl a b c d e)) :=
  ⟨fun _ _ => rfl, fun σ l => by simp only [cU] <;> rfl, fun σ l => by simp only [cU] <;> rfl, fun _ => rfl, fun σ v l => by simp only [frzVs] <;> rfl, fun _ _ => rfl, fun _ _ _ => rfl, fun _ _ => rfl, fun _ _ => rfl, fun _ => rfl, fun _ _ _ _ _ _ => rfl⟩
theorem unK:(∀ (k:IntKind) (n:Int),unV .neg (.int k n)=.ok (.int k (wr k (0 - n))))∧(∀ n:Int,unV .xor (.int .u64 n)=.ok (.int .u64 (aPg n))):=⟨fun _ _=>rfl,fun _=>rfl⟩
theorem nk:(∀ n:Nat,(0=n+1)=False)∧(∀ n:Nat,(n+1=0)=False)∧(∀ n m:Nat,(n+1=m+1)=(n=m))∧(∀ {α:Type} {a b:α},(a≠b)=¬ a=b)∧(¬ False)=True:=⟨fun n=>by simp,fun n=>by simp,fun n m=>by simp,by intros;rfl,by simp⟩
theorem ex:type_of% (A2 aZr <| A2 aZs <| A2 aZt <| A2 aZu <| A2 aZv <| A2 aZw <| A2 aZx <| A2 aZy <| A2 aZz <| A2 bA0 <| A2 bEt <| A2 bEu <| A2 bEw <| A2 bEx <| A2 bEz <| A2 bF0 <| A2 bF2 <| A2 bF3 <| A2 bF5 <| A2 bF6 <| A2 bF8 <| bF9):=A2 aZr <| A2 aZs <| A2 aZt <| A2 aZu <| A2 aZv <| A2 aZw <| A2 aZx <| A2 aZy <| A2 aZz <| A2 bA0 <| A2 bEt <| A2 bEu <| A2 bEw <| A2 bEx <| A2 bEz <| A2 bF0 <| A2 bF2 <| A2 bF3 <| A2 bF5 <| A2 bF6 <| A2 bF8 <| bF9
theorem agK (P : Program) : (∀ (t : TypeId) (a b : List V), bX P .eql t (.agg a) (.agg b) = (match sF P 100 t (.agg a) (.agg b) with
      | .ok r => .ok (.bool r)
      | .error e => .error e)) ∧ (∀ (t : TypeId) (a b : List V), bX P .neq t (.agg a) (.agg b) = (match sF P 100 t (.agg a) (.agg b) with
      | .ok r => .ok (.bool (!r))
      | .error e => .error e)) := ⟨fun _ _ _ => rfl, fun _ _ _ => rfl⟩
theorem kk:type_of% (A2 sf <| A2 ex <| A2 (agK prog) <| A2 bB3 <| A2 nk <| A2 kit <| A2 (bHd prog) <| A2 bHe <| A2 fx ls):=A2 sf <| A2 ex <| A2 (agK prog) <| A2 bB3 <| A2 nk <| A2 kit <| A2 (bHd prog) <| A2 bHe <| A2 fx ls
theorem bMo (y:Int) (S:St) (K:KW):C 204 [.int .i64 y] S K=K (.bool (aH3 y)) S:=by
 refine (bL4 rfl ?_).eq S K
 delta Tryz.f204;simp only [↓cw,↓reduceIte,Nat.reduceLT,kk,ne_eq,Int.reduceEq,not_false_eq_true,aH3]
 grind
theorem bMp (y:Int) (S:St) (K:KW):C 246 [.int .i64 y] S K=K (.bool (aH3 y)) S:=by
 refine (bLq rfl ?_).eq S K
 delta Tryz.f246;simp only [↓cw,↓reduceIte,Nat.reduceLT,kk,ne_eq,Int.reduceEq,not_false_eq_true,aH3]
 grind
theorem bHh (y m:Int) (S:St) (K:KW):C 132 [.int .i64 y,.int .i64 m] S K=K (.int .i64 (eR y m)) S:=by
 refine (bK5 rfl ?_).eq S K
 delta Tryz.f132;simp only [↓cw,↓reduceIte,Nat.reduceLT,kk,bMo,eR]
 grind
def uL (y m:Int):Int:=if 1≤m∧m≤12 then eR y m else 0
theorem bHi (y m:Int) (S:St) (K:KW):C 196 [.int .i64 y,.int .i64 m] S K=K (.int .i64 (uL y m)) S:=by
 refine (bKx rfl ?_).eq S K
 delta Tryz.f196;simp only [↓cw,↓reduceIte,Nat.reduceLT,kk,bMp,uL,eR]
 by_cases h:1≤m∧m≤12
 ·have h:m=1∨m=2∨m=3∨m=4∨m=5∨m=6∨m=7∨m=8∨m=9∨m=10∨m=11∨m=12:=by omega
  rcases h with rfl | rfl | rfl | rfl | rfl | rfl | rfl | rfl | rfl | rfl | rfl | rfl<;>simp
 ·have e:∀ k:Int,1≤k→k≤12→m≠k:=by omega
  simp [h,e]
theorem aBe (d:Date) (S:St) (K:KW):C 123 [.agg [.int .i64 d.y,.int .i64 d.m,.int .i64 d.d]] S K=K (.bool d.right) S:=by
 refine (bJx rfl ?_).eq S K
 delta Tryz.f123;simp only [↓cw,↓reduceIte,Nat.reduceLT,kk,bHh,Date.right]
 grind
theorem aL5 (d:Date) (S:St) (K:KW):C 118 [.agg [.int .i64 d.y,.int .i64 d.m,.int .i64 d.d]] S K=K (.bool d.right) S:=by
 refine (bJu rfl ?_).eq S K
 delta Tryz.f118;simp only [↓cw,↓reduceIte,Nat.reduceLT,kk,bHi,Date.right,uL]
 grind
theorem bMq (y:Int) (S:St) (K:KW):C 131 [.int .i64 y] S K=K (.int .i64 (ahead y)) S:=by
 refine (bK4 rfl ?_).eq S K
 delta Tryz.f131;simp only [↓cw,↓reduceIte,Nat.reduceLT,kk,ne_eq,Int.reduceEq,not_false_eq_true,ahead]
theorem bMr (d:Date) (S:St) (K:KW):C 200 [.agg [.int .i64 d.y,.int .i64 d.m,.int .i64 d.d]] S K=K (.int .i64 d.days) S:=by
 refine (bL1 rfl ?_).eq S K
 delta Tryz.f200;simp only [↓cw,↓reduceIte,Nat.reduceLT,kk,aBe,bMq,Date.days]
 by_cases hr:d.right=true
 ·simp only [↓cw,↓reduceIte,Nat.reduceLT,hr,kk]
  have hm:1≤d.m∧d.m≤12:=by simp only [Date.right,Bool.and_eq_true,decide_eq_true_eq] at hr;omega
  refine aF (List.range (d.m - 1).toNat) (step:=iB d.y) (fin:=id) (fun i n vs S=>vs=[.int .i64 n,.int .i64 ((i:Int)+1)]∧aA S 0 0=.ok (3,[d.enc])) (fun r=>V.int .i64 (wr .i64 (wr .i64 (r+d.d) - 1))=.int .i64 (wr .i64 (wr .i64 (aD (iB d.y) id (List.range (d.m - 1).toNat) (ahead d.y)+d.d) - 1))) ?_ ?_ ⟨rfl,by simp only [↓cw,↓reduceIte,Nat.reduceLT,kk];rfl⟩ rfl
  ·rintro i a n vs S hi ⟨rfl,hg⟩ aE H
   obtain ⟨hil,rfl⟩:=aIw hi
   simp only [iB] at H
   simp only [↓cw,↓reduceIte,Nat.reduceLT,kk,hg,Date.enc,bHh]
   rw [if_pos (by omega)]
   refine H _ _ ⟨?_,hg⟩
   rw [mD (n:=(a:Int)+1+1) (by omega) (by omega)]
   simp
  ·rintro n vs S ⟨rfl,hg⟩ aE H
   simp only [↓cw,↓reduceIte,Nat.reduceLT,kk,hg,Date.enc]
   rw [if_neg (by simp;omega)]
   exact H
 ·have hr:d.right=false:=by simpa using hr
  simp only [↓cw,↓reduceIte,Nat.reduceLT,hr,kk]
theorem aTu (a b:Date) (S:St) (K:KW):C 124 [.agg [.int .i64 a.y,.int .i64 a.m,.int .i64 a.d],.agg [.int .i64 b.y,.int .i64 b.m,.int .i64 b.d]] S K=K (.bool (a.before b)) S:=by
 refine (bJy rfl ?_).eq S K
 delta Tryz.f124;simp only [↓cw,↓reduceIte,Nat.reduceLT,kk,gH,aBe,bMr,Date.before]
 cases a.right<;>cases b.right<;>simp
theorem bMs (n:Int) (S:St) (K:KW):C 286 [.int .i64 n] S K=K (.int .u64 (pD n)) S:=by
 refine (bLz rfl ?_).eq S K
 delta Tryz.f286;simp only [↓cw,↓reduceIte,Nat.reduceLT,kk,unK,pD]
 split<;>rfl
theorem bMt (n:Int) (b:Bool) (S:St) (K:KW):C 287 [.int .u64 n,.bool b] S K=K (.tup [.int .i64 (aC0 n b).1,.bool (aC0 n b).2]) S:=by
 refine (bM0 rfl ?_).eq S K
 delta Tryz.f287;simp only [↓cw,↓reduceIte,Nat.reduceLT,kk,unK,oo,aC0]
 cases b<;>simp
theorem aTv (a b:Int) (S:St) (K:KW):C 203 [.int .i64 a,.int .i64 b] S K=K (dA (bF a b)) S:=by
 refine (bL3 rfl ?_).eq S K
 delta Tryz.f203;simp only [↓cw,↓reduceIte,Nat.reduceLT,kk,oo,bF,dA]
 grind
theorem bC2 (a b:Int) (S:St) (K:KW):C 127 [.int .i64 a,.int .i64 b] S K=K (dA (bF a b)) S:=by
 refine (bK0 rfl ?_).eq S K
 delta Tryz.f127;simp only [↓cw,↓reduceIte,Nat.reduceLT,kk,oo,bF,dA]
 grind
theorem bC3 (a b:Int) (S:St) (K:KW):C 219 [.int .i64 a,.int .i64 b] S K=K (dA (bS a b)) S:=by
 refine (bL7 rfl ?_).eq S K
 delta Tryz.f219;simp only [↓cw,↓reduceIte,Nat.reduceLT,kk,oo,bS,dA]
 grind
theorem bC4 (a b:Int) (S:St) (K:KW):C 198 [.int .i64 a,.int .i64 b] S K=K (dA (bS a b)) S:=by
 refine (bKz rfl ?_).eq S K
 delta Tryz.f198;simp only [↓cw,↓reduceIte,Nat.reduceLT,kk,oo,bS,dA]
 grind
theorem bMu:(fun (a b:Bool)=>bX prog .neq 4 (.bool a) (.bool b))=fun a b=>.ok (.bool (!(a == b))):=by kernel_rfl
theorem bMv (a b:Bool):bX prog .neq 4 (.bool a) (.bool b)=.ok (.bool (!(a == b))):=congrFun (congrFun bMu a) b
theorem bMw (a b:Int) (S:St) (K:KW):C 279 [.int .i64 a,.int .i64 b] S K=K (dA (aL1 a b)) S:=by
 refine (bLy rfl ?_).eq S K
 delta Tryz.f279;simp only [↓cw,↓reduceIte,Nat.reduceLT,kk,bMs,bMt,bMv,oo,dA,aL1]
 by_cases h:0<pD b
 ·have h0:pD b≠0:=by omega
  simp only [↓cw,↓reduceIte,Nat.reduceLT,h,h0,kk,ne_eq,not_false_eq_true]
  grind
 ·simp only [↓cw,↓reduceIte,Nat.reduceLT,h,kk]
  grind
def aDc (n:Int):Int:=if n<0 then wr .u64 (wr .u64 (wr .i64 (0 - wr .i64 (n+1)))+1) else wr .u64 n
theorem bMx (n:Int) (S:St) (K:KW):C 222 [.int .i64 n] S K=K (.int .u64 (aDc n)) S:=by
 refine (bL9 rfl ?_).eq S K
 delta Tryz.f222;simp only [↓cw,↓reduceIte,Nat.reduceLT,kk,unK,aDc]
 split<;>rfl
theorem bMy (n bp:Int) (S:St) (K:KW):C 254 [.int .i64 n,.int .i64 bp,.int .i64 10000] S K=K (dA (bD n bp)) S:=by
 refine (bLr rfl ?_).eq S K
 delta Tryz.f254;simp only [↓cw,↓reduceIte,Nat.reduceLT,kk,unK,oo,dA,bBy,aD6,ne_eq,Int.reduceEq,not_false_eq_true]
 unfold bD
 simp only [pD]
 by_cases hn:n<0<;>simp only [↓cw,↓reduceIte,Nat.reduceLT,hn,kk,if_true,if_false,aD6]
 all_goals
  by_cases hp:wr .u64 bp=0
  ·simp only [↓cw,↓reduceIte,Nat.reduceLT,hp,kk,aD6]
   grind
  ·simp only [↓cw,↓reduceIte,Nat.reduceLT,hp,kk,aD6,ne_eq,not_false_eq_true]
   grind
theorem bHj (n bp:Int) (S:St) (K:KW):C 217 [.int .i64 n,.int .i64 bp] S K=K (dA (bD n bp)) S:=by
 refine (bL5 rfl ?_).eq S K
 delta Tryz.f217;simp only [↓cw,↓reduceIte,Nat.reduceLT,kk,bMy,dA,oo]
def aTw (n bp:Int):Int×Int:=if bp<0∨100000<bp then (0,1) else
 if 0<bp∧wr .u64 ((9223372036854775807:Int).tdiv (wr .u64 bp))<wr .u64 ((aDc n).tdiv 10000) then (0,7) else
  let t:=wr .u64 (wr .u64 (wr .u64 ((aDc n).tdiv 10000)*wr .u64 bp)+wr .u64 ((wr .u64 (wr .u64 ((aDc n).tmod 10000*wr .u64 bp)+5000)).tdiv 10000))
  if 9223372036854775807<t then (0,7) else if n<0 then (wr .i64 (0 - wr .i64 t),0) else (wr .i64 t,0)
theorem bMz (n bp:Int) (S:St) (K:KW):C 160 [.int .i64 n,.int .i64 bp] S K=K (dA (aTw n bp)) S:=by
 refine (bK9 rfl ?_).eq S K
 delta Tryz.f160;simp only [↓cw,↓reduceIte,Nat.reduceLT,kk,bMx,unK,oo,dA,ne_eq,Int.reduceEq,not_false_eq_true,aTw]
 by_cases hb:bp<0∨100000<bp
 ·grind
 ·have hw:wr .u64 bp=bp:=by unfold wr lo hi;simp only;rw [if_pos (by omega)]
  by_cases hp:0<bp
  ·have hp2:bp≠0:=by omega
   simp only [↓cw,↓reduceIte,Nat.reduceLT,hp,hp2,hw,kk,ne_eq,not_false_eq_true]
   grind
  ·simp only [↓cw,↓reduceIte,Nat.reduceLT,hp,kk]
   grind
theorem bC5:(fun (a b c:Int)=>pT Tryz.f255 [.int .u64 a,.int .u64 b,.int .u64 c])=fun a b c=>
  bif decide (0≤a)&&decide (0≤b)&&decide (0≤c)&&decide (c≤1) then .ok (.tup [.int .u64 ((a+b+c) % 18446744073709551616),.int .u64 ((a+b+c) / 18446744073709551616)]) else .error "Add64":=by kernel_rfl
theorem aNp {a b c:Int} (ha:0≤a) (hb:0≤b) (hc:0≤c) (hc1:c≤1):pT Tryz.f255 [.int .u64 a,.int .u64 b,.int .u64 c]=.ok (.tup [.int .u64 ((a+b+c) % 18446744073709551616),.int .u64 ((a+b+c) / 18446744073709551616)]):=by
 refine (congrFun (congrFun (congrFun bC5 a) b) c).trans ?_
 simp only [ha,hb,hc,hc1,decide_true,Bool.and_self,cond_true]
theorem aPl (P:Program) (t:TypeId) (a:Int):bX P .shr t (.int .u64 a) (.int .u64 63)=.ok (.int .u64 (a.fdiv (2 ^ 63))):=rfl
theorem bN0 (l:List Int) (hb:l.length<1000000) (S:St) (K:KW):C 218 [.imm (l.map dC)] S K=K (.tup [.int .i64 (dU l).1,.bool (dU l).2]) S:=by
 refine (bL6 rfl ?_).eq S K
 delta Tryz.f218;simp only [↓cw,↓reduceIte,Nat.reduceLT,kk]
 refine aF l (step:=uF) (fin:=tA) (fun i st vs S=>vs=[.int .u64 st.1,.int .u64 st.2,.int .i64 (i:Int)]∧0≤st.1∧st.1<18446744073709551616∧0≤st.2∧st.2<18446744073709551616) (fun r=>V.tup [.int .i64 r.1,.bool r.2]=.tup [.int .i64 (dU l).1,.bool (dU l).2])
  ?_ ?_ (s:=(0,0)) ⟨rfl,by decide,by decide,by decide,by decide⟩ rfl
 ·rintro i n ⟨h,lo⟩ vs S hi ⟨rfl,r1,r2,r3,r4⟩ aE H
  have hr:=aPh n
  have hil:=(List.getElem?_eq_some_iff.1 hi).1
  simp only at r1 r2 r3 r4
  have hc1:(lo+wr .u64 n+0) / 18446744073709551616≤1:=by omega
  have hc0:0≤(lo+wr .u64 n+0) / 18446744073709551616:=by omega
  have hI:=H [.int .u64 ((h+(if n<0 then 18446744073709551615 else 0)+(lo+wr .u64 n+0) / 18446744073709551616) % 18446744073709551616),.int .u64 ((lo+wr .u64 n+0) % 18446744073709551616),.int .i64 ((i+1:Nat):Int)] S ⟨rfl,by simp only;omega,by simp only;omega,by simp only;omega,by simp only;omega⟩
  simp only [↓cw,↓reduceIte,Nat.reduceLT,kk,aU hi,bHf hi,dC,unK,bHb]
  by_cases hn:n<0
  ·simp only [↓cw,↓reduceIte,Nat.reduceLT,hn,kk,if_true,aNp (c:=0) r3 hr.1 (by decide) (by decide),aNp r1 (show (0:Int)≤18446744073709551615 by decide) hc0 hc1,gC (show i<1000000000 by omega)] at hI ⊢
   exact hI
  ·simp only [↓cw,↓reduceIte,Nat.reduceLT,hn,kk,if_false,aNp (c:=0) r3 hr.1 (by decide) (by decide),aNp r1 (show (0:Int)≤0 by decide) hc0 hc1,gC (show i<1000000000 by omega)] at hI ⊢
   exact hI
 ·rintro ⟨h,lo⟩ vs S ⟨rfl,r1,r2,r3,r4⟩ aE H
  simp only [↓cw,↓reduceIte,Nat.reduceLT,kk,Int.lt_irrefl,aPl,tA,oo] at H ⊢
  by_cases c:lo.fdiv (2 ^ 63)=0<;>simp only [↓cw,↓reduceIte,Nat.reduceLT,c,kk,if_true,if_false] at H ⊢<;>exact H
theorem bN1 (r:Int) (S:St) (K:KW):C 225 [.int .i32 r] S K=K (.bool (mE r)) S:=by
 refine (bLc rfl ?_).eq S K
 delta Tryz.f225;simp only [↓cw,↓reduceIte,Nat.reduceLT,kk,mE]
 grind
theorem bN2 (r:Int) (S:St) (K:KW):C 245 [.int .i32 r] S K=K (.bool (mE r)) S:=by
 refine (bLp rfl ?_).eq S K
 delta Tryz.f245;simp only [↓cw,↓reduceIte,Nat.reduceLT,kk,mE]
 grind
theorem aWy (s:List UInt8) (a pos:Nat) (S:St) (hg:S.heap.get a=some (.iter s pos)) (hl:pos<s.length):
  yA (.ptr a 0 0 0) S=.ok (.tup [.bool true,.int .i64 pos,.int .i32 (Utf8.decode ⟨⟨s⟩⟩ pos).1],⟨S.next,S.heap.put a (.iter s (pos+(Utf8.decode ⟨⟨s⟩⟩ pos).2))⟩):=by
 have hb:Nat.blt pos s.length=true:=Nat.ble_eq_true_of_le hl
 have hs:s[pos]?=some s[pos]:=List.getElem?_eq_getElem hl
 simp only [yA,hg,hb,hs]
 split
 ·rename_i h
  rw [Go.AM.decode_ascii hs (by simpa using h)]
 ·rfl
theorem aIx (s:List UInt8) (a pos:Nat) (S:St) (hg:S.heap.get a=some (.iter s pos)) (hl:s.length≤pos):yA (.ptr a 0 0 0) S=.ok (.tup [.bool false],S):=by
 have hb:Nat.blt pos s.length=false:=by
  cases h:Nat.blt pos s.length with
  | false=>rfl
  | true=>exact absurd (Nat.le_of_ble_eq_true h) (by omega)
 simp only [yA,hg,hb]
def IterAt (s:List UInt8) (i:Nat) (S:St):Prop:=∃ pos f,S.heap.get 0=some (.iter s pos)∧(lU s s.length 0).drop i=lU s f pos∧s.length≤f+pos
theorem IterAt.next {s:List UInt8} {i:Nat} {S:St} (h:IterAt s i S) {q r:Nat} (hi:(lU s s.length 0)[i]?=some (q,r)):∃ S',yA (.ptr 0 0 0 0) S=.ok (.tup [.bool true,.int .i64 q,.int .i32 r],S')∧IterAt s (i+1) S':=by
 obtain ⟨pos,f,hg,hd,hf⟩:=h
 have hd0:=congrArg (·[0]?) hd
 simp only [List.getElem?_drop,Nat.add_zero,hi] at hd0
 cases f with
 | zero=>simp [lU] at hd0
 | succ f=>
  have hl:pos<s.length:=by
   by_cases hl:pos<s.length
   ·exact hl
   ·simp [lU,hl] at hd0
  have hd2:lU s (f+1) pos=(pos,(Utf8.decode ⟨⟨s⟩⟩ pos).1)::lU s f (pos+(Utf8.decode ⟨⟨s⟩⟩ pos).2):=by simp only [lU,hl,if_true]
  rw [hd2] at hd0 hd
  simp only [List.getElem?_cons_zero,Option.some.injEq,Prod.mk.injEq] at hd0
  obtain ⟨rfl,rfl⟩:=hd0
  have hw:=aIq ⟨⟨s⟩⟩ q
  exact ⟨_,aWy s 0 q S hg hl,_,f,Tr.get_put_sameB _ _ _ trivial,by rw [←List.drop_drop,hd];rfl,by omega⟩
theorem IterAt.last {s:List UInt8} {S:St} (h:IterAt s (lU s s.length 0).length S):yA (.ptr 0 0 0 0) S=.ok (.tup [.bool false],S):=by
 obtain ⟨pos,f,hg,hd,hf⟩:=h
 rw [List.drop_length] at hd
 cases f with
 | zero=>exact aIx s 0 pos S hg (by omega)
 | succ f=>
  by_cases hl:pos<s.length
  ·simp [lU,hl] at hd
  ·exact aIx s 0 pos S hg (by omega)
theorem yS (s:List UInt8):aGf (.str s) none ⟨0,.nil⟩=.ok (.ptr 0 0 0 0,⟨1,Tr.nil.put 0 (.iter s 0)⟩)∧IterAt s 0 ⟨1,Tr.nil.put 0 (.iter s 0)⟩:=⟨rfl,0,s.length,Tr.get_put_sameB _ _ _ trivial,rfl,by omega⟩
theorem aTx (s:List UInt8) (S:St) (K:KW):C 165 [.str s] S K=K (.bool (dF s)) S:=by
 refine (bKe rfl ?_).eq S K
 delta Tryz.f165;simp only [↓cw,↓reduceIte,Nat.reduceLT,kk,(yS s).1,dF]
 by_cases h1:s.length<1
 ·rw [if_pos (by omega)];simp [h1]
 by_cases h2:24<s.length
 ·rw [if_neg (by omega),if_pos (by omega)];simp [h1,h2]
 rw [if_neg (by omega),if_neg (by omega)]
 simp only [↓cw,↓reduceIte,Nat.reduceLT,h1,h2,kk]
 refine aF (lU s s.length 0) (step:=mY) (fin:=fun _=>true) (fun i _ vs S=>vs=[.bool false]∧IterAt s i S) (fun r=>V.bool r=.bool (aD mY (fun _=>true) (lU s s.length 0) ())) ?_ ?_ (s:=()) ⟨rfl,(yS s).2⟩ rfl
 ·rintro i ⟨q,r⟩ _ vs S hi ⟨rfl,hI⟩ aE H
  obtain ⟨S',e,hI'⟩:=hI.next hi
  simp only [↓cw,↓reduceIte,Nat.reduceLT,kk,e,bN1]
  simp only [mY] at H
  have H1:=fun h:mE (r:Int)=true=>(by simpa only [h,if_true] using H:∀ vs' S',vs'=[.bool false]∧IterAt s (i+1) S'→aE vs' S') [.bool false] S' ⟨rfl,hI'⟩
  by_cases c1:mE (r:Int)=true
  ·simp only [c1,if_true];exact H1 c1
  ·simp only [c1,if_false] at H ⊢
   by_cases c2:q=0
   ·subst c2;simp at H ⊢;exact H
   ·have c2':¬ (q:Int)=0:=by omega
    simp only [c2,c2',if_false] at H ⊢
    by_cases c3:(48≤r∧r≤57)∨r=45∨r=95∨r=46
    ·simp only [c3,if_true] at H
     have h0:=H [.bool false] S' ⟨rfl,hI'⟩
     grind
    ·simp only [c3,if_false] at H
     grind
 ·rintro _ vs S ⟨rfl,hI⟩ aE H
  simp only [↓cw,↓reduceIte,Nat.reduceLT,kk,hI.last]
  exact H
end Go.Proofs.YtoaibmbldmckaaaGreat
end
