import Derived.KernelRfl
import Derived.Test.YtoaibmbldmckaaaGreatProg
import Derived.Test.YtoaibmbldmckaaaGreatX1
set_option linter.unusedSimpArgs false
set_option linter.unusedVariables false
set_option linter.unusedSectionVars false
set_option maxRecDepth 100000
section
namespace Go.AM
section
mutual
def aAf:V→Bool
 | .ptr _ _ _ _=>false
 | .nils=>false
 | .sl _ _ _ _ _=>false
 | .agg cs=>cloVs cs
 | .tup cs=>cloVs cs
 | .iface _ v=>aAf v
 | .func _ a b=>cloVs a&&cloVs b
 | .mp _=>false
 | _=>true
def cloVs:List V→Bool
 | []=>true
 | v::l=>aAf v&&cloVs l
end
mutual
theorem rJ {ρ:Nat→Option Nat} {σ:V→R V}:∀ (v:V),aAf v=true→dD ρ σ v=.ok v
 | .bool _,_ | .int _ _,_ | .str _,_ | .nilp,_ | .iptr _ _,_ | .imm _,_ | .nili,_ | .nilf,_ | .nilm,_ | .res _ _,_=>rfl
 | .agg cs,h=>by simp only [dD,clo_frzs cs h]
 | .tup cs,h=>by simp only [dD,clo_frzs cs h]
 | .iface t v,h=>by simp only [dD,rJ v h]
 | .func f a b,h=>by
  simp only [aAf,Bool.and_eq_true] at h
  simp only [dD,clo_frzs a h.1,clo_frzs b h.2]
theorem clo_frzs {ρ:Nat→Option Nat} {σ:V→R V}:∀ (l:List V),cloVs l=true→frzVs ρ σ l=.ok l
 | [],_=>rfl
 | v::l,h=>by
  simp only [cloVs,Bool.and_eq_true] at h
  simp only [frzVs,rJ v h.1,clo_frzs l h.2]
end
mutual
theorem yR:∀ (v:V),aAf v=true→sH v=[]
 | .bool _,_ | .int _ _,_ | .str _,_ | .nilp,_ | .iptr _ _,_ | .imm _,_ | .nili,_ | .nilf,_ | .nilm,_ | .res _ _,_=>rfl
 | .agg cs,h=>clo_ptrs cs h
 | .tup cs,h=>clo_ptrs cs h
 | .iface t v,h=>yR v h
 | .func f a b,h=>by
  simp only [aAf,Bool.and_eq_true] at h
  simp only [sH,clo_ptrs a h.1,clo_ptrs b h.2,List.append_nil]
theorem clo_ptrs:∀ (l:List V),cloVs l=true→ptrsVs l=[]
 | [],_=>rfl
 | v::l,h=>by
  simp only [cloVs,Bool.and_eq_true] at h
  simp only [ptrsVs,yR v h.1,clo_ptrs l h.2,List.append_nil]
end
mutual
theorem aH1 {τ:V→List Nat}:∀ (v:V),aAf v=true→iJ τ v=[]
 | .bool _,_ | .int _ _,_ | .str _,_ | .nilp,_ | .iptr _ _,_ | .imm _,_ | .nili,_ | .nilf,_ | .nilm,_ | .res _ _,_=>rfl
 | .agg cs,h=>clo_sls cs h
 | .tup cs,h=>clo_sls cs h
 | .iface t v,h=>aH1 v h
 | .func f a b,h=>by
  simp only [aAf,Bool.and_eq_true] at h
  simp only [iJ,clo_sls a h.1,clo_sls b h.2,List.append_nil]
theorem clo_sls {τ:V→List Nat}:∀ (l:List V),cloVs l=true→slsVs τ l=[]
 | [],_=>rfl
 | v::l,h=>by
  simp only [cloVs,Bool.and_eq_true] at h
  simp only [slsVs,aH1 v h.1,clo_sls l h.2,List.append_nil]
end
theorem aD6:aE8 []=lV:=by funext i;cases i<;>rfl
theorem tM (l:List Nat):(l.any fun a=>Nat.blt a 0)=false:=by
 rw [List.any_eq_false]
 intro a _
 simp
def dS (S:St) (v:V):R V:=dD lV (pG (lF S 3) S) v
theorem aRr {run:List V→St→R (V×St)} {args:List V} (hc:cloVs args=true) {S S0:St} {v0 v:V} (h:run args ⟨0,.nil⟩=.ok (v0,S0)) (ho:dS S0 v0=.ok v):xS run args S=.ok (v,S):=by
 unfold xS
 have h1:iB (ptrsVs args)=[]:=by rw [clo_ptrs args hc];rfl
 have h2:slsVs (nV (jQ S 3) S) args=[]:=clo_sls args hc
 have ho':dD (aE8 []) (pG (lF S0 3) S0) v0=.ok v:=by rw [aD6];exact ho
 rw [h1,h2]
 simp only [clo_frzs args hc,jS,dZ,List.append_nil,List.any_nil,cond_false,List.length_nil,xR,h,ho',uG,tM]
 cases iR v&&vE []<;>rfl
section
variable {P:Program} {pl:kQ}
def W (P:Program) (pl:kQ):aK:=fun f args S K=>∃ v S',Evt (fun k=>hM P pl k f args S) (v,S')∧K v S'
theorem aWi:oL (hM P pl) (W P pl):=fun f args S K h=>h
theorem aRs {f:FuncId} {args:List V} {S S':St} {v:V} (h:Evt (fun k=>hM P pl k f args S) (v,S')) (K:KW):W P pl f args S K=K v S':=by
 refine propext ⟨?_,fun h1=>⟨v,S',h,h1⟩⟩
 rintro ⟨v1,S1,h1,h2⟩
 cases h.eq h1
 exact h2
theorem tN {f:FuncId} {args:List V} {S:St} {r:V×St} (h:Evt (fun k=>hM P pl (k+1) f args S) r):Evt (fun k=>hM P pl k f args S) r:=by
 obtain ⟨N,h⟩:=h
 refine ⟨N+1,fun k hk=>?_⟩
 obtain ⟨k,rfl⟩:∃ m,k=m+1:=⟨k - 1,by omega⟩
 exact h k (by omega)
theorem aKt {f:FuncId} {p:Nat→Option (List bI)} (hpl:pl f=some (.code p)) {lv:Nat→List Nat} {args:List V} {S:St} {K:KW} (h:cW P (W P pl) p lv f args S K):W P pl f args S K:=by
 obtain ⟨v,S',h1,h2⟩:=rI aWi h
 exact ⟨v,S',tN (h1.one fun k h1=>by simp only [hM,hpl];exact h1),h2⟩
theorem aRt {f:FuncId} {g:List V→St→R (V×St)} (hpl:pl f=some (.spec g)) {args:List V} {S S':St} {v:V} (h:g args S=.ok (v,S')) (K:KW):W P pl f args S K=K v S':=
 aRs (tN (.of fun k=>by simp only [hM,hpl,h])) K
def Fn (P:Program) (pl:kQ) (f:FuncId) (args:List V) (v:V):Prop:=∀ S,Evt (fun k=>hM P pl k f args S) (v,S)
theorem Fn.eq {f:FuncId} {args:List V} {v:V} (h:Fn P pl f args v) (S:St) (K:KW):W P pl f args S K=K v S:=aRs (h S) K
theorem Fn.of {f:FuncId} {p:Nat→Option (List bI)} (hpl:pl f=some (.val p)) {lv:Nat→List Nat} {args:List V} {v:V} (hc:cloVs args=true)
  (h:cW P (W P pl) p lv f args ⟨0,.nil⟩ fun v0 S0=>dS S0 v0=.ok v):Fn P pl f args v:=by
 obtain ⟨v0,S0,h1,h2⟩:=rI aWi h
 exact fun S=>tN (h1.one fun k h1=>by simp only [hM,hpl];exact aRr hc h1 h2)
structure Pt (mk:Nat→List V):Prop where
 ptr:∀ a,iB (ptrsVs (mk a))=[a]
 frz:∀ a σ,frzVs (fun b=>sO b 0 [a]) σ (mk a)=.ok (mk 0)
 sls:∀ a τ,slsVs τ (mk a)=[]
theorem Pt.head {ver i j:Nat} {args:List V} (hc:cloVs args=true):Pt fun a=>.ptr a ver i j::args:=
 ⟨fun a=>by simp only [ptrsVs,sH,clo_ptrs args hc];rfl,fun a σ=>by simp only [frzVs,dD,sO,Nat.beq_refl,cond_true,clo_frzs args hc],fun a τ=>by simp only [slsVs,iJ,clo_sls args hc,List.append_nil]⟩
theorem Pt.next {v:V} {mk:Nat→List V} (hv:aAf v=true) (h:Pt mk):Pt fun a=>v::mk a:=
 ⟨fun a=>by simp only [ptrsVs,yR v hv,List.nil_append];exact h.ptr a,fun a σ=>by simp only [frzVs,rJ v hv,h.frz],fun a τ=>by simp only [slsVs,aH1 v hv,h.sls,List.append_nil]⟩
theorem Pt.func {f:FuncId} {ver i j:Nat} {args:List V} (hc:cloVs args=true):Pt fun a=>.func f [] [.ptr a ver i j]::args:=
 ⟨fun a=>by simp only [ptrsVs,sH,clo_ptrs args hc];rfl,fun a σ=>by simp only [frzVs,dD,sO,Nat.beq_refl,cond_true,clo_frzs args hc],fun a τ=>by simp only [slsVs,iJ,clo_sls args hc,List.append_nil]⟩
def FnR (P:Program) (pl:kQ) (f:FuncId) (mk:Nat→List V) (ver n:Nat) (pre:List (List V)) (v:V) (post:List (List V)):Prop:=
 ∀ S a,S.heap.get a=some (.row ver n pre)→Evt (fun k=>hM P pl k f (mk a) S) (v,⟨S.next,S.heap.put a (.row ver n post)⟩)
theorem aMs {φ:List V→R (List V)}:∀ {l:List (List V)},(∀ x,x∈l→φ x=.ok x)→oC φ l=.ok l
 | [],_=>rfl
 | x::l,h=>by simp only [oC,h x (List.mem_cons_self ..),aMs fun y hy=>h y (List.mem_cons_of_mem _ hy)]
theorem aJ0 {φ:List V→List Nat}:∀ {l:List (List V)},(∀ x,x∈l→φ x=[])→oF φ l=[]
 | [],_=>rfl
 | x::l,h=>by simp only [oF,h x (List.mem_cons_self ..),aJ0 fun y hy=>h y (List.mem_cons_of_mem _ hy),List.append_nil]
theorem aWj {S:St} {n:Nat} {x:List V} (h:cloVs x=true):lF S (n+1) x=.ok x:=clo_frzs x h
theorem aWk {S:St} {n:Nat} {x:List V} (h:cloVs x=true):jQ S (n+1) x=[]:=clo_sls x h
theorem pM {S:St} {n:Nat} {l:List (List V)} (h:l.all cloVs=true):oC (lF S (n+1)) l=.ok l∧oF (jQ S (n+1)) l=[]:=
 ⟨aMs fun x hx=>aWj (List.all_eq_true.1 h x hx),aJ0 fun x hx=>aWk (List.all_eq_true.1 h x hx)⟩
theorem aRu {run:List V→St→R (V×St)} {mk:Nat→List V} (hm:Pt mk) {a ver n:Nat} {pre post post0:List (List V)} (hp:pre.all cloVs=true) {S S0:St} {v0 v:V} (hS:S.heap.get a=some (.row ver n pre))
  (h:run (mk 0) ⟨1,Tr.nil.put 0 (.row ver n pre)⟩=.ok (v0,S0)) (ho:∀ ρ,dD ρ (pG (lF S0 3) S0) v0=.ok v) (hs:(iJ (nV (jQ S0 3) S0) v0).any (fun a=>Nat.blt a 1)=false) (h0:S0.heap.get 0=some (.row ver n post0)) (hq:oC (lF S0 3) post0=.ok post)
  (hs2:(oF (jQ S0 3) post0).any (fun a=>Nat.blt a 1)=false):xS run (mk a) S=.ok (v,⟨S.next,S.heap.put a (.row ver n post)⟩):=by
 unfold xS
 obtain ⟨q1,q2⟩:=pM (S:=S) (n:=2) hp
 rw [hm.ptr,hm.sls]
 have hA:([]++dZ S [a])=[]:=by simp only [dZ,hS,q2,List.append_nil]
 have hB:(iJ (nV (jQ S0 3) S0) v0++dZ S0 (uG 0 1)).any (fun a=>Nat.blt a 1)=false:=by
  simp only [uG,dZ,h0,List.append_nil,List.any_append,hs,hs2,Bool.or_false]
 rw [hA]
 simp only [hm.frz,jS,hS,q1,List.any_nil,cond_false,List.length_cons,List.length_nil,Nat.zero_add,xR,h,ho,hB,qV]
 have:jS S0 (uG 0 1)=.ok [(ver,n,post)]:=by simp only [uG,jS,h0,hq]
 rw [this]
 simp only [sP,qV]
 cases iR v&&vE [(ver,n,post)]<;>rfl
theorem FnR.of {f:FuncId} {p:Nat→Option (List bI)} (hpl:pl f=some (.val p)) {lv:Nat→List Nat} {mk:Nat→List V} (hm:Pt mk) {ver n:Nat} {pre post:List (List V)} {v:V} (hp:pre.all cloVs=true)
  (h:cW P (W P pl) p lv f (mk 0) ⟨1,Tr.nil.put 0 (.row ver n pre)⟩ fun v0 S0=>v0=v∧S0.heap.get 0=some (.row ver n post)) (hv:aAf v=true) (hq:post.all cloVs=true):FnR P pl f mk ver n pre v post:=by
 obtain ⟨v0,S0,h1,rfl,h2⟩:=rI aWi h
 intro S a hS
 obtain ⟨q1,q2⟩:=pM (S:=S0) (n:=2) hq
 refine tN (h1.one fun k h1=>?_)
 simp only [hM,hpl]
 exact aRu hm hp hS h1 (fun ρ=>rJ v0 hv) (by rw [aH1 v0 hv];rfl) h2 q1 (by rw [q2];rfl)
theorem FnR.eq {f:FuncId} {mk:Nat→List V} {ver n:Nat} {pre post:List (List V)} {v:V} (h:FnR P pl f mk ver n pre v post) {S:St} {a:Nat} (hS:S.heap.get a=some (.row ver n pre)) (K:KW):
  W P pl f (mk a) S K=K v ⟨S.next,S.heap.put a (.row ver n post)⟩:=aRs (h S a hS) K
theorem aD7 {α:Type}:∀ (f:Nat) (t:Tr α) (n:Nat) (x:α),t.get n=some x→Tr.set f t n x=t
 | 0,t,n,x,_=>rfl
 | f+1,.nil,n,x,h=>by cases h
 | f+1,.node l v r,n,x,h=>by
  rw [Tr.get_node] at h
  simp only [Tr.set,cond_eq_ite,Nat.beq_eq]
  by_cases h0:n=0
  ·rw [if_pos h0] at h ⊢;rw [h]
  ·rw [if_neg h0] at h ⊢
   by_cases h1:n % 2=1
   ·rw [if_pos h1] at h ⊢;rw [aD7 f l _ _ h]
   ·rw [if_neg h1] at h ⊢;rw [aD7 f r _ _ h]
theorem aRv {t:Tr Blk} {n:Nat} {x:Blk} (h:t.get n=some x):t.put n x=t:=aD7 _ t n x h
theorem FnR.eq_same {f:FuncId} {mk:Nat→List V} {ver n:Nat} {pre:List (List V)} {v:V} (h:FnR P pl f mk ver n pre v pre) {S:St} {a:Nat} (hS:S.heap.get a=some (.row ver n pre)) (K:KW):W P pl f (mk a) S K=K v S:=by
 rw [h.eq hS K,aRv hS]
theorem aRw {run:List V→St→R (V×St)} {args bs:List V} {S:St} (hb:frzVs lV (pG (lF S 3) S) args=.ok bs) (hp:ptrsVs args=[]) {S0:St} {v0 v:V} (h:run bs ⟨0,.nil⟩=.ok (v0,S0)) (ho:dS S0 v0=.ok v)
  (hk:iR v=true∨slsVs (nV (jQ S 3) S) args=[]):xS run args S=.ok (v,S):=by
 unfold xS
 have h1:iB (ptrsVs args)=[]:=by rw [hp];rfl
 have ho':dD (aE8 []) (pG (lF S0 3) S0) v0=.ok v:=by rw [aD6];exact ho
 have hi:(fun a=>sO a 0 ([]:List Nat))=lV:=rfl
 have hh:∀ l:List Nat,(l.any fun a=>jM a [])=false:=by intro l;rw [List.any_eq_false];intro a _;simp [jM]
 rw [h1]
 simp only [hi,hb,jS,dZ,hh,cond_false,List.length_nil,xR,h,ho',uG,tM,List.append_nil]
 rcases hk with hk | hk
 ·rw [hk];rfl
 ·rw [hk]
  cases iR v&&vE []<;>rfl
theorem Fn.frz {f:FuncId} {bs:List V} {v:V} (h:Fn P pl f bs v) {p:Nat→Option (List bI)} (hpl:pl f=some (.val p)) (hc:cloVs bs=true) {args:List V} {S:St} (hb:frzVs lV (pG (lF S 3) S) args=.ok bs) (hp:ptrsVs args=[]) (hk:iR v=true∨slsVs (nV (jQ S 3) S) args=[])
  (K:KW):W P pl f args S K=K v S:=by
 refine aRs ?_ K
 obtain ⟨N,h⟩:=h ⟨0,.nil⟩
 refine ⟨N+1,fun k hk'=>?_⟩
 obtain ⟨k,rfl⟩:∃ m,k=m+1:=⟨k - 1,by omega⟩
 have:=h (k+1) (by omega)
 simp only [hM,hpl] at this ⊢
 unfold xS at this
 have e1:iB (ptrsVs bs)=[]:=by rw [clo_ptrs bs hc];rfl
 have e2:slsVs (nV (jQ (⟨0,.nil⟩:St) 3) ⟨0,.nil⟩) bs=[]:=clo_sls bs hc
 rw [e1,e2] at this
 simp only [clo_frzs bs hc,jS,dZ,List.append_nil,List.any_nil,cond_false,List.length_nil,xR,uG,tM] at this
 split at this
 ·cases this
 ·rename_i v0 S0 hrun
  split at this
  ·cases this
  ·rename_i v' hv'
   have hv:v'=v:=(Prod.mk.inj (Except.ok.inj this)).1
   subst hv
   rw [aD6] at hv'
   exact aRw hb hp hrun hv' hk
def tO (mask:List Nat) (v:V) (S2:St) (S:St):R (V×St):=match aBj S2 mask 0 S.next v.cells with
 | .error e=>.error e
 | .ok r=>match jS S2 r.2 with
  | .error e=>.error e
  | .ok rows=>match qW v r.1 with
   | .error e=>.error e
   | .ok v'=>bif aEu r.2&&!(vW S2 mask 0 v.cells++dZ S2 r.2).any (fun a=>jM a r.2) then .ok (v',⟨S.next+r.2.length,qV (uG S.next r.2.length) rows S.heap⟩) else .error "blocks"
theorem bDo {f:FuncId} {p:Nat→Option (List bI)} {mask:List Nat} (hpl:pl f=some (.own p mask)) {lv:Nat→List Nat} {args:List V} (hc:cloVs args=true) {S:St} {K:KW}
  (h:cW P (W P pl) p lv f args ⟨0,.nil⟩ fun v0 S0=>wR (tO mask v0 S0 S) fun r=>K r.1 r.2):W P pl f args S K:=by
 obtain ⟨v0,S0,h1,h2⟩:=rI aWi h
 obtain ⟨r,h3,h4⟩:=cC h2
 refine ⟨r.1,r.2,tN (h1.one fun k h1=>?_),h4⟩
 simp only [hM,hpl]
 unfold aPb
 have e2:slsVs (nV (jQ S 3) S) args=[]:=clo_sls args hc
 simp only [clo_frzs args hc,h1,e2,sP]
 exact h3
theorem bCa {f:FuncId} {args:List V} {S:St} {K:KW} (h:W P pl f args S K):∃ k v S',K v S'∧hM P pl k f args S=.ok (v,S'):=by
 obtain ⟨v,S',⟨N,h⟩,k⟩:=h
 exact ⟨N,v,S',k,h N (Nat.le_refl _)⟩
theorem aPy {F:List V→St→(List V→St→Prop)→Prop} (n:Nat) (I:Nat→List V→St→Prop)
  (h:∀ i vs S,i≤n→I i vs S→∀ aF:List V→St→Prop,(∀ vs' S',i<n→I (i+1) vs' S'→aF vs' S')→F vs S aF) {vs:List V} {S:St} (h0:I 0 vs S):gG vs S F:=by
 have:∀ m i vs S,i+m=n→I i vs S→aB0 (m+1) vs S F:=by
  intro m
  induction m with
  | zero=>intro i vs S hi hI;exact h i vs S (by omega) hI _ fun vs' S' hlt _=>by omega
  | succ m ih=>intro i vs S hi hI;exact h i vs S (by omega) hI _ fun vs' S' hlt hI'=>ih (i+1) vs' S' (by omega) hI'
 exact ⟨n+1,this n 0 vs S (by omega) h0⟩
theorem aG {F:List V→St→(List V→St→Prop)→Prop} {α σ ρ:Type} (l:List α) {step:σ→α→ρ⊕σ} {fin:σ→ρ} (I:Nat→σ→List V→St→Prop) (E:ρ→Prop)
  (hs:∀ i a s vs S,l[i]?=some a→I i s vs S→∀ aF:List V→St→Prop,(match step s a with
   | .inl r=>E r
   | .inr s'=>∀ vs' S',I (i+1) s' vs' S'→aF vs' S')→F vs S aF)
  (he:∀ s vs S,I l.length s vs S→∀ aF:List V→St→Prop,E (fin s)→F vs S aF) {s:σ} {vs:List V} {S:St} (h0:I 0 s vs S) (hE:E (aE step fin l s)):gG vs S F:=by
 refine aPy l.length (fun i vs S=>∃ s,I i s vs S∧E (aE step fin (l.drop i) s)) ?_ ⟨s,h0,hE⟩
 rintro i vs S hi ⟨s,hI,hE⟩ aF ha
 by_cases hl:i=l.length
 ·subst hl
  rw [List.drop_length] at hE
  exact he s vs S hI aF hE
 ·have hlt:i<l.length:=by omega
  have ha':l[i]?=some l[i]:=List.getElem?_eq_getElem hlt
  rw [List.drop_eq_getElem_cons hlt] at hE
  refine hs i _ s vs S ha' hI aF ?_
  simp only [aE] at hE
  split
  ·rename_i r hr
   rw [hr] at hE;exact hE
  ·rename_i s' hr
   rw [hr] at hE
   exact fun vs' S' hI'=>ha vs' S' hlt ⟨s',hI',hE⟩
end
end
section
theorem aJ1 {d t:Nat} (h:d≠t):Nat.beq d t=false:=Bool.eq_false_iff.2 fun h'=>h (Nat.eq_of_beq_eq_true h')
theorem aRx {α:Type} {x y:R α} (K:α→Prop) (h:x=y):wR x K=wR y K:=by rw [h]
theorem aRy {α:Type} {x y:Option α} (K:α→Prop) (h:x=y):wO x K=wO y K:=by rw [h]
theorem aPz {b c:Bool} (x:Prop) (h:b=c):nW b x=nW c x:=by rw [h]
theorem aJ2 {v w:V} (x y:Prop) (h:v=w):aH v x y=aH w x y:=by rw [h]
theorem aKu {v w:V} (i:Nat) (K:V→Prop) (h:v=w):cG v i K=cG w i K:=by rw [h]
theorem aQ0 {v w:List V} (K:V→List V→Prop) (h:v=w):qH v K=qH w K:=by rw [h]
theorem aKv {v w:V} (x:Prop) (h:v=w):aAc v x=aAc w x:=by rw [h]
theorem aJ3 {vs ws:List V} {S T:St} (F:List V→St→(List V→St→Prop)→Prop) (h:vs=ws) (g:S=T):gG vs S F=gG ws T F:=by rw [h,g]
theorem aWl (P:Program) (pl:kQ) (f:FuncId) {a b:List V} {S T:St} (K:KW) (h:a=b) (g:S=T):W P pl f a S K=W P pl f b T K:=by rw [h,g]
attribute [congr] aWl aRx aRy aPz aJ2 aKu aQ0 aKv aJ3
def wG:List Oper→Nat→(Nat→Prop)→Prop
 | [],_,_=>False
 | o::_,0,K=>wO o.dst K
 | _::l,j+1,K=>wG l j K
def wI:List Oper→Nat→(Oper→Prop)→Prop
 | [],_,_=>False
 | o::_,0,K=>K o
 | _::l,j+1,K=>wI l j K
theorem aF8 (K:Oper→Prop):∀ (l:List Oper) (j:Nat),wO l.toArray[j]? K=wI l j K
 | [],j=>by simp [wO,wI]
 | o::l,0=>by simp [wO,wI]
 | o::l,j+1=>by rw [wI,←aF8 K l j];simp
theorem aRz (K:Nat→Prop):∀ (l:List Oper) (j:Nat),wO (mY l.toArray j) K=wG l j K
 | [],j=>by simp [wO,wG,mY]
 | o::l,0=>by simp [wG,mY]
 | o::l,j+1=>by rw [wG,←aRz K l j];simp [mY]
def hl {α:Type} (a:α):α:=a
theorem aYj {α:Type} (a:α):hl a=a:=Eq.trans rfl rfl
def wLn:List Oper→List Nat→Nat→(Nat→Prop)→Prop
 | [],[],i,K=>K i
 | [],k::_,i,K=>K k
 | _::l,[],i,K=>wLn l [] (i+1) K
 | _::l,_::ks,i,K=>wLn l ks (i+1) K
def wT:Nat→List Nat→Prop
 | _,[]=>True
 | i,k::l=>k=i∧wT (i+1) l
theorem aKw (K:Nat→Prop):∀ (l:List Oper) (ks:List Nat) (i:Nat),wT i ks→wLn l ks i K=K (i+l.length)
 | [],[],i,h=>rfl
 | [],k::ks,i,h=>by rw [wLn,h.1];rfl
 | o::l,[],i,h=>by rw [wLn,aKw K l [] (i+1) trivial];congr 1;simp;omega
 | o::l,k::ks,i,h=>by rw [wLn,aKw K l ks (i+1) h.2];congr 1;simp;omega
def wLv:List (Nat×List Nat)→Nat→(List Nat→Prop)→Prop
 | [],_,K=>K []
 | (i,l)::r,j,K=>match Nat.beq i j with
  | true=>K l
  | false=>wLv r j K
def iA:List (Nat×List Nat)→Nat→List Nat
 | [],_=>[]
 | (i,l)::r,j=>match Nat.beq i j with
  | true=>l
  | false=>iA r j
theorem aKx (K:List Nat→Prop):∀ (t:List (Nat×List Nat)) (j:Nat),wLv t j K=K (iA t j)
 | [],j=>rfl
 | (i,l)::r,j=>by
  simp only [wLv,iA,aKx K r j]
  cases Nat.beq i j<;>rfl
theorem aQ1 {j k:Nat} (t:List (Nat×List Nat)) (K:List Nat→Prop) (h:j=k):wLv t j K=wLv t k K:=by rw [h]
attribute [congr] aQ1
def wSt:List (Nat×List bI)→Nat→(List bI→Prop)→Prop→Prop
 | [],_,_,x=>x
 | (i,l)::r,j,K,x=>match Nat.beq i j with
  | true=>K l
  | false=>wSt r j K x
def eT (t:List (Nat×List bI)) (id:Nat):Option (List bI):=iS id t
section
variable (P:Program) (C:aK) (n:Nat)
def yS (ops:Array Oper) (base:Nat):List Oper→List Nat→Nat→List Nat→aX→St→mO→Prop
 | [],_,_,_,e,S,K=>K e S
 | o::l,[],i,sk,e,S,K=>kR P C n ops sk o (some (base+i)) e S fun ran _ e' S'=>yS ops base l [] (i+1) (yM ran i sk) e' S' K
 | o::l,k::ks,i,sk,e,S,K=>kR P C n ops sk o (some (base+k)) e S fun ran _ e' S'=>yS ops base l ks (i+1) (yM ran k sk) e' S' K
def aH2 (ops:Array Oper):List Oper→List Nat→Nat→List Nat→aX→St→mO→Prop
 | [],_,_,_,e,S,K=>K e S
 | o::l,[],i,sk,e,S,K=>kR P C n ops sk o none e S fun ran _ e' S'=>aH2 ops l [] (i+1) (yM ran i sk) e' S' K
 | o::l,k::ks,i,sk,e,S,K=>kR P C n ops sk o none e S fun ran _ e' S'=>aH2 ops l ks (i+1) (yM ran k sk) e' S' K
theorem oM {ops:Array Oper} {sk:List Nat} {o:Oper} {fr:Option Nat} {e:aX} {S:St} {K K':Bool→V→aX→St→Prop} (h:∀ b v e S,K b v e S=K' b v e S):kR P C n ops sk o fr e S K=kR P C n ops sk o fr e S K':=by
 rw [show K=K' from funext fun b=>funext fun v=>funext fun e=>funext fun S=>h b v e S]
def rK:Nat→Nat→List bI
 | _,0=>[]
 | i,k+1=>(i,[])::rK (i+1) k
theorem aB7:∀ (k i:Nat),rK i (k+1)=rK i k++[(i+k,[])]
 | 0,i=>rfl
 | k+1,i=>by
  rw [rK,aB7 k (i+1),rK]
  simp only [List.cons_append,Nat.add_assoc,Nat.add_comm 1 k]
theorem aJ5:∀ k,aI5 k=rK 0 k
 | 0=>rfl
 | k+1=>by rw [aI5,aJ5 k,aB7,Nat.zero_add]
theorem aD8 (ops:Array Oper) (base:Nat) (K:mO):∀ (l:List Oper) (ks:List Nat) (i:Nat) (sk:List Nat) (recs:List sV) (e:aX) (S:St),wT i ks→(∀ k,ops[i+k]?=l[k]?)→sK P C n ops base (rK i l.length) sk recs e S K=yS P C n ops base l ks i sk e S K
 | [],ks,i,sk,recs,e,S,_,h=>by cases ks<;>rfl
 | o::l,ks,i,sk,recs,e,S,hk,h=>by
  have h0:ops[i]?=some o:=h 0
  cases ks with
  | nil=>
   simp only [List.length_cons,rK,sK,yS,h0,wO,rH]
   exact oM P C n fun b v e S=>aD8 ops base K l [] (i+1) _ _ e S trivial fun k=>by have:=h (k+1);rw [show i+1+k=i+(k+1) by omega,this];simp
  | cons k ks=>
   obtain ⟨rfl,hk⟩:=hk
   simp only [List.length_cons,rK,sK,yS,h0,wO,rH]
   exact oM P C n fun b v e S=>aD8 ops base K l ks (k+1) _ _ e S hk fun j=>by have:=h (j+1);rw [show k+1+j=k+(j+1) by omega,this];simp
theorem aH3 (ops:Array Oper) (K:mO):∀ (l:List Oper) (ks:List Nat) (i:Nat) (sk:List Nat) (e:aX) (S:St),wT i ks→aKp P C n ops l i sk e S K=aH2 P C n ops l ks i sk e S K
 | [],ks,i,sk,e,S,_=>by cases ks<;>rfl
 | o::l,[],i,sk,e,S,hk=>by
  simp only [aKp,aH2]
  exact oM P C n fun b v e S=>aH3 ops K l [] (i+1) _ e S trivial
 | o::l,k::ks,i,sk,e,S,hk=>by
  obtain ⟨rfl,hk⟩:=hk
  simp only [aKp,aH2]
  exact oM P C n fun b v e S=>aH3 ops K l ks (k+1) _ e S hk
def aKz (id:Nat) (Kn:mO) (Kx:KXW):KXW:=fun j e S=>match Nat.beq j id with
 | true=>Kn e S
 | false=>Kx j e S
def aYk (p:Nat→Option (List bI)) (lv:Nat→List Nat) (a:Code) (e:aX) (Kx:KXW) (Kr:mO) (vs:List V) (S:St) (aF:List V→St→Prop):Prop:=
 aH0 (lv (bJ a)) vs (e.filt fun t=>!mN a t) fun e=>eS P C n p lv a e S (fun e S=>nK e (lv (bJ a)) fun vs=>aF vs S) Kx Kr
end
section
variable {P:Program} {C:aK} {n:Nat} {tp:List (Nat×List bI)} {tl:List (Nat×List Nat)}
theorem aMt:(∀ (e:aX) (t:Nat) (K:V→Prop),wO (ev e (.tmp t)) K=wO (e.get t) K)∧(∀ (e:aX) (v:Value) (K:V→Prop),wO (ev e (.const v)) K=wO (ofValue v) K)∧(∀ (e:aX) (f:Nat) (K:V→Prop),wO (ev e (.func f)) K=K (.func f [] [])) ∧
  (∀ (e:aX) (t:Nat) (v:V) (K:V→Prop),wO ((e.put t v).get t) K=K v)∧(∀ (b:Bool) (K:V→Prop),wO (ofValue (.bool b)) K=K (.bool b))∧(∀ (k:IntKind) (i:Int) (K:V→Prop),wO (ofValue (.int k i)) K=K (.int k i)) ∧
  (∀ (l:List UInt8) (K:V→Prop),wO (ofValue (.string ⟨l.toArray⟩)) K=K (.str l))∧(∀ (K:V→Prop),wO (ofValue (.slice none 0 0)) K=K .nils)∧(∀ (K:V→Prop),wO (ofValue (.pointer none)) K=K .nilp)∧(∀ (K:V→Prop),wO (ofValue .nilIface) K=K .nili)∧(∀ (K:V→Prop),wO (ofValue .nilFunc) K=K .nilf)∧(∀ (K:V→Prop),wO (ofValue (.map none)) K=K .nilm) ∧
  (∀ (l:List Value) (K:V→Prop),wO (ofValue (.agg l.toArray)) K=wO (lU l) fun xs=>K (.agg xs))∧(∀ (K:List V→Prop),wO (lU []) K=K [])∧(∀ (v:Value) (l:List Value) (K:List V→Prop),wO (lU (v::l)) K=wO (pF v) fun x=>wO (lU l) fun xs=>K (x::xs)) ∧
  (∀ (b:Bool) (K:V→Prop),wO (pF (.bool b)) K=K (.bool b))∧(∀ (k:IntKind) (i:Int) (K:V→Prop),wO (pF (.int k i)) K=K (.int k i))∧(∀ (l:List UInt8) (K:V→Prop),wO (pF (.string ⟨l.toArray⟩)) K=K (.str l))∧(∀ (K:V→Prop),wO (pF (.slice none 0 0)) K=K .nils)∧(∀ (K:V→Prop),wO (pF (.pointer none)) K=K .nilp) ∧
  (∀ (e:aX) (K:List V→Prop),wO (qC (ev e) []) K=K [])∧(∀ (e:aX) (x:Operand) (l:List Operand) (K:List V→Prop),wO (qC (ev e) (x::l)) K=wO (ev e x) fun v=>wO (qC (ev e) l) fun vs=>K (v::vs)) ∧
  (∀ (e:aX) (K:List (Nat×V)→Prop),wO (nI (ev e) []) K=K [])∧(∀ (e:aX) (i:Nat) (x:Operand) (l:List (Nat×Operand)) (K:List (Nat×V)→Prop),wO (nI (ev e) ((i,x)::l)) K=wO (ev e x) fun v=>wO (nI (ev e) l) fun vs=>K ((i,v)::vs)) ∧
  (∀ (e:aX) (K:Option V→Prop),wO (evO (ev e) none) K=K none)∧(∀ (e:aX) (x:Operand) (K:Option V→Prop),wO (evO (ev e) (some x)) K=wO (ev e x) fun v=>K (some v)):=by
 refine ⟨fun _ _ _=>rfl,fun _ _ _=>rfl,fun _ _ _=>rfl,fun e t v K=>by rw [Tr.get_put_sameB _ _ _ trivial];rfl,fun _ _=>rfl,fun _ _ _=>rfl,fun l K=>by simp [ofValue,pF,wO],fun _=>rfl,fun _=>rfl,fun _=>rfl,fun _=>rfl,fun _=>rfl,
  fun l K=>?_,fun _=>rfl,fun v l K=>?_,fun _ _=>rfl,fun _ _ _=>rfl,fun l K=>by simp [pF,wO],fun _=>rfl,fun _=>rfl,fun _ _=>rfl,fun e x l K=>?_,fun _ _=>rfl,fun e i x l K=>?_,fun _ _=>rfl,fun e x K=>?_⟩
 ·simp only [ofValue];cases lU l<;>rfl
 ·simp only [lU]
  cases pF v with
  | none=>rfl
  | some x=>cases lU l<;>rfl
 ·simp only [qC]
  cases ev e x with
  | none=>rfl
  | some x=>cases qC (ev e) l<;>rfl
 ·simp only [nI]
  cases ev e x with
  | none=>rfl
  | some x=>cases nI (ev e) l<;>rfl
 ·simp only [evO];cases ev e x<;>rfl
theorem aYl {t d:Nat} (h:¬ t=d) (e:aX) (v:V) (K:V→Prop):wO ((e.put d v).get t) K=wO (e.get t) K:=by rw [Tr.get_put_neB _ _ _ _ trivial h]
theorem bDp {t d:Nat} (h:t<d) (e:aX) (v:V) (K:V→Prop):wO ((e.put d v).get t) K=wO (e.get t) K:=aYl (Nat.ne_of_lt h) e v K
theorem aYm {t d:Nat} (h:d<t) (e:aX) (v:V) (K:V→Prop):wO ((e.put d v).get t) K=wO (e.get t) K:=aYl (Nat.ne_of_gt h) e v K
def pL (l:List Code) (t:Nat):Bool:=l.any fun a=>mN a t
def dL (l:List Oper) (r:List Code) (t:Nat):Bool:=aD0 l t||pL r t
theorem aWm (a:Code) (r:List Code) (t:Nat):pL (a::r) t=(mN a t||pL r t):=by simp [pL]
theorem aS0 {a:Code} {t:Nat} (h:pL [a] t=false) (e:aX) (K:V→Prop):wO ((e.filt fun t=>!mN a t).get t) K=wO (e.get t) K:=by
 have h:mN a t=false:=by simpa [pL] using h
 rw [tK,if_pos (by rw [h];rfl)]
theorem aMu:(∀ t,pL [] t=false)∧(∀ (a b:Code) (r:List Code) (t:Nat),pL (.seq a b::r) t=pL (a::b::r) t)∧(∀ (c:Operand) (a b:Code) (r:List Code) (t:Nat),pL (.cond c a b::r) t=pL (a::b::r) t)∧(∀ (i:Nat) (a:Code) (r:List Code) (t:Nat),pL (.block i a::r) t=pL (a::r) t) ∧
  (∀ (a:Code) (r:List Code) (t:Nat),pL (.loop a::r) t=pL (a::r) t)∧(∀ (r:List Code) (t:Nat),pL (.skip::r) t=pL r t)∧(∀ (r:List Code) (t:Nat),pL (.ret::r) t=pL r t)∧(∀ (i:Nat) (r:List Code) (t:Nat),pL (.exit i::r) t=pL r t)∧(∀ (i:Nat) (r:List Code) (t:Nat),pL (.label i::r) t=pL r t) ∧
  (∀ (id:Nat) (l:List Oper) (d:Bool) (r:List Code) (t:Nat),pL (.region id l.toArray d::r) t=dL l r t)∧(∀ (r:List Code) (t:Nat),dL [] r t=pL r t)∧(∀ (op:Op) (ty:TypeId) (pos:String) (aft:Array Edge) (g:Option (Nat×Bool)) (l:List Oper) (r:List Code) (t:Nat),dL (⟨none,op,ty,pos,aft,g⟩::l) r t=dL l r t):=by
 refine ⟨fun _=>rfl,fun a b r t=>?_,fun c a b r t=>?_,fun i a r t=>?_,fun a r t=>?_,fun r t=>?_,fun r t=>?_,fun i r t=>?_,fun i r t=>?_,fun id l d r t=>?_,fun r t=>?_,fun op ty pos aft g l r t=>?_⟩
 all_goals simp only [aWm,mN,dL,aD0,Bool.false_or,Bool.or_assoc]
theorem aS1 {d t:Nat} (h:¬ t=d) (op:Op) (ty:TypeId) (pos:String) (aft:Array Edge) (g:Option (Nat×Bool)) (l:List Oper) (r:List Code):dL (⟨some d,op,ty,pos,aft,g⟩::l) r t=dL l r t:=by
 simp only [dL,aD0,aJ1 (Ne.symm h),Bool.false_or]
theorem aYn {d t:Nat} (h:t<d) (op:Op) (ty:TypeId) (pos:String) (aft:Array Edge) (g:Option (Nat×Bool)) (l:List Oper) (r:List Code):dL (⟨some d,op,ty,pos,aft,g⟩::l) r t=dL l r t:=aS1 (Nat.ne_of_lt h) ..
theorem aS2 {d t:Nat} (h:d<t) (op:Op) (ty:TypeId) (pos:String) (aft:Array Edge) (g:Option (Nat×Bool)) (l:List Oper) (r:List Code):dL (⟨some d,op,ty,pos,aft,g⟩::l) r t=dL l r t:=aS1 (Nat.ne_of_gt h) ..end
def tP (P:Program) (u:TypeId):Bool:=match P.underlying u with
 | some (.slice _)=>true
 | some .string=>true
 | _=>false
theorem aL0 {α:Type} (x:Option α) {K K':α→Prop} (h:∀ a,K a=K' a):wO x K=wO x K':=by rw [show K=K' from funext h]
theorem aWn (e:aX) (x:Operand) (K:List V→Prop):wO (qC (ev e) [x]) K=wO (ev e x) fun v=>K [v]:=by simp only [qC];cases ev e x<;>rfl
theorem aWo (e:aX) (x y:Operand) (K:List V→Prop):wO (qC (ev e) [x,y]) K=wO (ev e x) fun v=>wO (ev e y) fun w=>K [v,w]:=by
 simp only [qC]
 cases ev e x with
 | none=>rfl
 | some a=>cases ev e y<;>rfl
theorem aMv (P:Program) (C:aK):(∀ (x:Operand) (d:Option Tmp) (ty:TypeId) (pos:String) (aft:Array Edge) (g:Option (Nat×Bool)) (fr:Option Nat) (e:aX) (S:St) (K:KW),jO P C ⟨d,.move x,ty,pos,aft,g⟩ fr e S K=wO (ev e x) fun v=>K v S) ∧
  (∀ (x:Operand) (d:Option Tmp) (ty:TypeId) (pos:String) (aft:Array Edge) (g:Option (Nat×Bool)) (fr:Option Nat) (e:aX) (S:St) (K:KW),jO P C ⟨d,.assign x,ty,pos,aft,g⟩ fr e S K=wO (ev e x) fun v=>K v S) ∧
  (∀ (c a b:Operand) (d:Option Tmp) (ty:TypeId) (pos:String) (aft:Array Edge) (g:Option (Nat×Bool)) (fr:Option Nat) (e:aX) (S:St) (K:KW),jO P C ⟨d,.pick c a b,ty,pos,aft,g⟩ fr e S K=wO (ev e c) fun c=>wO (ev e a) fun a=>wO (ev e b) fun b=>wR (hl (aIu c a b)) fun v=>K v S) ∧
  (∀ (t:TypeId) (d:Option Tmp) (ty:TypeId) (pos:String) (aft:Array Edge) (g:Option (Nat×Bool)) (fr:Option Nat) (e:aX) (S:St) (K:KW),jO P C ⟨d,.alloc t,ty,pos,aft,g⟩ fr e S K=wO (aO P t) fun z=>wR (hl (bG fr S (.row 0 z.cells.length [z.cells]))) fun r=>K (.ptr r.1 0 0 0) r.2) ∧
  (∀ (u:TypeId) (x:Operand) (d:Option Tmp) (ty:TypeId) (pos:String) (aft:Array Edge) (g:Option (Nat×Bool)) (fr:Option Nat) (e:aX) (S:St) (K:KW),jO P C ⟨d,.box u x,ty,pos,aft,g⟩ fr e S K=wO (ev e x) fun v=>nW (hl (aJ v.cells)) (wR (hl (bG fr S (.row 0 v.cells.length [v.cells]))) fun r=>K (.ptr r.1 0 0 0) r.2)) ∧
  (∀ (t:TypeId) (ps:List (Nat×Operand)) (d:Option Tmp) (ty:TypeId) (pos:String) (aft:Array Edge) (g:Option (Nat×Bool)) (fr:Option Nat) (e:aX) (S:St) (K:KW),jO P C ⟨d,.build t ps.toArray,ty,pos,aft,g⟩ fr e S K=wO (nI (ev e) ps) fun vs=>wR (hl (oY P t vs)) fun v=>K v S) ∧
  (∀ (t:TypeId) (m:Nat) (ps:List (Nat×Operand)) (d:Option Tmp) (ty:TypeId) (pos:String) (aft:Array Edge) (g:Option (Nat×Bool)) (fr:Option Nat) (e:aX) (S:St) (K:KW),jO P C ⟨d,.buildSlice t m ps.toArray,ty,pos,aft,g⟩ fr e S K=wO (nI (ev e) ps) fun vs=>wR (hl (dA P t m vs fr S)) fun r=>K r.1 r.2) ∧
  (∀ (t:TypeId) (a:Operand) (d:Option Tmp) (ty:TypeId) (pos:String) (aft:Array Edge) (g:Option (Nat×Bool)) (fr:Option Nat) (e:aX) (S:St) (K:KW),jO P C ⟨d,.load t a,ty,pos,aft,g⟩ fr e S K=wO (ev e a) fun p=>wR (hl (mH P t p S)) fun v=>K v S) ∧
  (∀ (t:TypeId) (a x:Operand) (d:Option Tmp) (ty:TypeId) (pos:String) (aft:Array Edge) (g:Option (Nat×Bool)) (fr:Option Nat) (e:aX) (S:St) (K:KW),jO P C ⟨d,.store t a x,ty,pos,aft,g⟩ fr e S K=wO (ev e a) fun p=>wO (ev e x) fun v=>wR (hl (oX P t p v S)) fun S'=>K (.tup []) S') ∧
  (∀ (x:Operand) (d:Option Tmp) (ty:TypeId) (pos:String) (aft:Array Edge) (g:Option (Nat×Bool)) (fr:Option Nat) (e:aX) (S:St) (K:KW),jO P C ⟨d,.nilCheck x,ty,pos,aft,g⟩ fr e S K=wO (ev e x) fun v=>aAc (hl v) (K v S)) ∧
  (∀ (t u:TypeId) (x y:Operand) (d:Option Tmp) (ty:TypeId) (pos:String) (aft:Array Edge) (g:Option (Nat×Bool)) (fr:Option Nat) (e:aX) (S:St) (K:KW),jO P C ⟨d,.binOp .add t x y u,ty,pos,aft,g⟩ fr e S K=wO (ev e x) fun a=>wO (ev e y) fun b=>wR (hl (bX P .add t a b)) fun v=>K v S) ∧
  (∀ (t u:TypeId) (x y:Operand) (d:Option Tmp) (ty:TypeId) (pos:String) (aft:Array Edge) (g:Option (Nat×Bool)) (fr:Option Nat) (e:aX) (S:St) (K:KW),jO P C ⟨d,.binOp .sub t x y u,ty,pos,aft,g⟩ fr e S K=wO (ev e x) fun a=>wO (ev e y) fun b=>wR (hl (bX P .sub t a b)) fun v=>K v S) ∧
  (∀ (t u:TypeId) (x y:Operand) (d:Option Tmp) (ty:TypeId) (pos:String) (aft:Array Edge) (g:Option (Nat×Bool)) (fr:Option Nat) (e:aX) (S:St) (K:KW),jO P C ⟨d,.binOp .mul t x y u,ty,pos,aft,g⟩ fr e S K=wO (ev e x) fun a=>wO (ev e y) fun b=>wR (hl (bX P .mul t a b)) fun v=>K v S) ∧
  (∀ (t u:TypeId) (x y:Operand) (d:Option Tmp) (ty:TypeId) (pos:String) (aft:Array Edge) (g:Option (Nat×Bool)) (fr:Option Nat) (e:aX) (S:St) (K:KW),jO P C ⟨d,.binOp .quo t x y u,ty,pos,aft,g⟩ fr e S K=wO (ev e x) fun a=>wO (ev e y) fun b=>wR (hl (bX P .quo t a b)) fun v=>K v S) ∧
  (∀ (t u:TypeId) (x y:Operand) (d:Option Tmp) (ty:TypeId) (pos:String) (aft:Array Edge) (g:Option (Nat×Bool)) (fr:Option Nat) (e:aX) (S:St) (K:KW),jO P C ⟨d,.binOp .rem t x y u,ty,pos,aft,g⟩ fr e S K=wO (ev e x) fun a=>wO (ev e y) fun b=>wR (hl (bX P .rem t a b)) fun v=>K v S) ∧
  (∀ (t u:TypeId) (x y:Operand) (d:Option Tmp) (ty:TypeId) (pos:String) (aft:Array Edge) (g:Option (Nat×Bool)) (fr:Option Nat) (e:aX) (S:St) (K:KW),jO P C ⟨d,.binOp .and t x y u,ty,pos,aft,g⟩ fr e S K=wO (ev e x) fun a=>wO (ev e y) fun b=>wR (hl (bX P .and t a b)) fun v=>K v S) ∧
  (∀ (t u:TypeId) (x y:Operand) (d:Option Tmp) (ty:TypeId) (pos:String) (aft:Array Edge) (g:Option (Nat×Bool)) (fr:Option Nat) (e:aX) (S:St) (K:KW),jO P C ⟨d,.binOp .or t x y u,ty,pos,aft,g⟩ fr e S K=wO (ev e x) fun a=>wO (ev e y) fun b=>wR (hl (bX P .or t a b)) fun v=>K v S) ∧
  (∀ (t u:TypeId) (x y:Operand) (d:Option Tmp) (ty:TypeId) (pos:String) (aft:Array Edge) (g:Option (Nat×Bool)) (fr:Option Nat) (e:aX) (S:St) (K:KW),jO P C ⟨d,.binOp .xor t x y u,ty,pos,aft,g⟩ fr e S K=wO (ev e x) fun a=>wO (ev e y) fun b=>wR (hl (bX P .xor t a b)) fun v=>K v S) ∧
  (∀ (t u:TypeId) (x y:Operand) (d:Option Tmp) (ty:TypeId) (pos:String) (aft:Array Edge) (g:Option (Nat×Bool)) (fr:Option Nat) (e:aX) (S:St) (K:KW),jO P C ⟨d,.binOp .andNot t x y u,ty,pos,aft,g⟩ fr e S K=wO (ev e x) fun a=>wO (ev e y) fun b=>wR (hl (bX P .andNot t a b)) fun v=>K v S) ∧
  (∀ (t u:TypeId) (x y:Operand) (d:Option Tmp) (ty:TypeId) (pos:String) (aft:Array Edge) (g:Option (Nat×Bool)) (fr:Option Nat) (e:aX) (S:St) (K:KW),jO P C ⟨d,.binOp .shl t x y u,ty,pos,aft,g⟩ fr e S K=wO (ev e x) fun a=>wO (ev e y) fun b=>wR (hl (bX P .shl t a b)) fun v=>K v S) ∧
  (∀ (t u:TypeId) (x y:Operand) (d:Option Tmp) (ty:TypeId) (pos:String) (aft:Array Edge) (g:Option (Nat×Bool)) (fr:Option Nat) (e:aX) (S:St) (K:KW),jO P C ⟨d,.binOp .shr t x y u,ty,pos,aft,g⟩ fr e S K=wO (ev e x) fun a=>wO (ev e y) fun b=>wR (hl (bX P .shr t a b)) fun v=>K v S) ∧
  (∀ (t u:TypeId) (x y:Operand) (d:Option Tmp) (ty:TypeId) (pos:String) (aft:Array Edge) (g:Option (Nat×Bool)) (fr:Option Nat) (e:aX) (S:St) (K:KW),jO P C ⟨d,.binOp .lss t x y u,ty,pos,aft,g⟩ fr e S K=wO (ev e x) fun a=>wO (ev e y) fun b=>wR (hl (bX P .lss t a b)) fun v=>K v S) ∧
  (∀ (t u:TypeId) (x y:Operand) (d:Option Tmp) (ty:TypeId) (pos:String) (aft:Array Edge) (g:Option (Nat×Bool)) (fr:Option Nat) (e:aX) (S:St) (K:KW),jO P C ⟨d,.binOp .leq t x y u,ty,pos,aft,g⟩ fr e S K=wO (ev e x) fun a=>wO (ev e y) fun b=>wR (hl (bX P .leq t a b)) fun v=>K v S) ∧
  (∀ (t u:TypeId) (x y:Operand) (d:Option Tmp) (ty:TypeId) (pos:String) (aft:Array Edge) (g:Option (Nat×Bool)) (fr:Option Nat) (e:aX) (S:St) (K:KW),jO P C ⟨d,.binOp .gtr t x y u,ty,pos,aft,g⟩ fr e S K=wO (ev e x) fun a=>wO (ev e y) fun b=>wR (hl (bX P .gtr t a b)) fun v=>K v S) ∧
  (∀ (t u:TypeId) (x y:Operand) (d:Option Tmp) (ty:TypeId) (pos:String) (aft:Array Edge) (g:Option (Nat×Bool)) (fr:Option Nat) (e:aX) (S:St) (K:KW),jO P C ⟨d,.binOp .geq t x y u,ty,pos,aft,g⟩ fr e S K=wO (ev e x) fun a=>wO (ev e y) fun b=>wR (hl (bX P .geq t a b)) fun v=>K v S) ∧
  (∀ (t u:TypeId) (x y:Operand) (d:Option Tmp) (ty:TypeId) (pos:String) (aft:Array Edge) (g:Option (Nat×Bool)) (fr:Option Nat) (e:aX) (S:St) (K:KW),jO P C ⟨d,.binOp .eql t x y u,ty,pos,aft,g⟩ fr e S K=wO (ev e x) fun a=>wO (ev e y) fun b=>nW (hl (cO P t a b)) (wR (hl (bX P .eql t a b)) fun v=>K v S)) ∧
  (∀ (t u:TypeId) (x y:Operand) (d:Option Tmp) (ty:TypeId) (pos:String) (aft:Array Edge) (g:Option (Nat×Bool)) (fr:Option Nat) (e:aX) (S:St) (K:KW),jO P C ⟨d,.binOp .neq t x y u,ty,pos,aft,g⟩ fr e S K=wO (ev e x) fun a=>wO (ev e y) fun b=>nW (hl (cO P t a b)) (wR (hl (bX P .neq t a b)) fun v=>K v S)) ∧
  (∀ (o:UnOp) (t:TypeId) (x:Operand) (d:Option Tmp) (ty:TypeId) (pos:String) (aft:Array Edge) (g:Option (Nat×Bool)) (fr:Option Nat) (e:aX) (S:St) (K:KW),jO P C ⟨d,.unOp o t x,ty,pos,aft,g⟩ fr e S K=wO (ev e x) fun v=>wR (hl (vD o v)) fun v=>K v S) ∧
  (∀ (s u:TypeId) (x:Operand) (d:Option Tmp) (ty:TypeId) (pos:String) (aft:Array Edge) (g:Option (Nat×Bool)) (fr:Option Nat) (e:aX) (S:St) (K:KW),jO P C ⟨d,.convert s u x,ty,pos,aft,g⟩ fr e S K=wO (ev e x) fun v=>wR (hl (eR P s u v fr S)) fun r=>K r.1 r.2) ∧
  (∀ (t:TypeId) (l c:Operand) (d:Option Tmp) (ty:TypeId) (pos:String) (aft:Array Edge) (g:Option (Nat×Bool)) (fr:Option Nat) (e:aX) (S:St) (K:KW),jO P C ⟨d,.makeSlice t l c,ty,pos,aft,g⟩ fr e S K=wO (ev e l) fun l=>wO (ev e c) fun c=>wR (hl (eQ P t l c fr S)) fun r=>K r.1 r.2) ∧
  (∀ (t:TypeId) (x:Operand) (lo hi:Option Operand) (d:Option Tmp) (ty:TypeId) (pos:String) (aft:Array Edge) (g:Option (Nat×Bool)) (fr:Option Nat) (e:aX) (S:St) (K:KW),jO P C ⟨d,.slice t x lo hi none,ty,pos,aft,g⟩ fr e S K=wO (ev e x) fun v=>wO (evO (ev e) lo) fun l=>wO (evO (ev e) hi) fun h=>wR (hl (dF P t v l h)) fun v=>K v S) ∧
  (∀ (s:TypeId) (x:Operand) (f:Nat) (d:Option Tmp) (ty:TypeId) (pos:String) (aft:Array Edge) (g:Option (Nat×Bool)) (fr:Option Nat) (e:aX) (S:St) (K:KW),jO P C ⟨d,.fieldAddr s x f,ty,pos,aft,g⟩ fr e S K=wO (ev e x) fun p=>wR (hl (eC P s p f)) fun v=>K v S) ∧
  (∀ (s:TypeId) (x:Operand) (f:Nat) (d:Option Tmp) (ty:TypeId) (pos:String) (aft:Array Edge) (g:Option (Nat×Bool)) (fr:Option Nat) (e:aX) (S:St) (K:KW),jO P C ⟨d,.field s x f,ty,pos,aft,g⟩ fr e S K=wO (ev e x) fun p=>wR (hl (aCj P s p f)) fun v=>K v S) ∧
  (∀ (t:TypeId) (x i:Operand) (d:Option Tmp) (ty:TypeId) (pos:String) (aft:Array Edge) (g:Option (Nat×Bool)) (fr:Option Nat) (e:aX) (S:St) (K:KW),jO P C ⟨d,.indexAddr t x i,ty,pos,aft,g⟩ fr e S K=wO (ev e x) fun v=>wO (ev e i) fun k=>wR (hl (dI P t v k)) fun v=>K v S) ∧
  (∀ (t:TypeId) (x i:Operand) (d:Option Tmp) (ty:TypeId) (pos:String) (aft:Array Edge) (g:Option (Nat×Bool)) (fr:Option Nat) (e:aX) (S:St) (K:KW),jO P C ⟨d,.index t x i,ty,pos,aft,g⟩ fr e S K=wO (ev e x) fun v=>wO (ev e i) fun k=>wR (hl (aCi P t v k)) fun v=>K v S) ∧
  (∀ (t:TypeId) (x:Operand) (d:Option Tmp) (ty:TypeId) (pos:String) (aft:Array Edge) (g:Option (Nat×Bool)) (fr:Option Nat) (e:aX) (S:St) (K:KW),jO P C ⟨d,.range t x,ty,pos,aft,g⟩ fr e S K=wO (ev e x) fun v=>nW (hl (aGy P t)) (wR (hl (aGz v fr S)) fun r=>K r.1 r.2)) ∧
  (∀ (it:Operand) (isS:Bool) (d:Option Tmp) (ty:TypeId) (pos:String) (aft:Array Edge) (g:Option (Nat×Bool)) (fr:Option Nat) (e:aX) (S:St) (K:KW),jO P C ⟨d,.next it isS,ty,pos,aft,g⟩ fr e S K=wO (ev e it) fun v=>nW (hl isS) (wR (hl (yL v S)) fun r=>K r.1 r.2)) ∧
  (∀ (t:TypeId) (d:Option Tmp) (ty:TypeId) (pos:String) (aft:Array Edge) (g:Option (Nat×Bool)) (fr:Option Nat) (e:aX) (S:St) (K:KW),jO P C ⟨d,.makeMap t none,ty,pos,aft,g⟩ fr e S K=wR (hl (bG fr S (.mp []))) fun r=>K (.mp r.1) r.2) ∧
  (∀ (t:TypeId) (m k:Operand) (ok:Bool) (d:Option Tmp) (ty:TypeId) (pos:String) (aft:Array Edge) (g:Option (Nat×Bool)) (fr:Option Nat) (e:aX) (S:St) (K:KW),jO P C ⟨d,.lookup t m k ok,ty,pos,aft,g⟩ fr e S K=wO (ev e m) fun m=>wO (ev e k) fun k=>wR (hl (xP P t m k ok S)) fun v=>K v S) ∧
  (∀ (t:TypeId) (m k v:Operand) (d:Option Tmp) (ty:TypeId) (pos:String) (aft:Array Edge) (g:Option (Nat×Bool)) (fr:Option Nat) (e:aX) (S:St) (K:KW),jO P C ⟨d,.mapUpdate t m k v,ty,pos,aft,g⟩ fr e S K=wO (ev e m) fun m=>wO (ev e k) fun k=>wO (ev e v) fun v=>wR (hl (nH P t m k v S)) fun S'=>K (.tup []) S') ∧
  (∀ (f:FuncId) (a b:List Operand) (d:Option Tmp) (ty:TypeId) (pos:String) (aft:Array Edge) (g:Option (Nat×Bool)) (fr:Option Nat) (e:aX) (S:St) (K:KW),jO P C ⟨d,.makeFunc (.func f) a.toArray b.toArray,ty,pos,aft,g⟩ fr e S K=wO (qC (ev e) a) fun a=>wO (qC (ev e) b) fun b=>K (.func f a b) S) ∧
  (∀ (x:Operand) (u t:TypeId) (ok:Bool) (d:Option Tmp) (ty:TypeId) (pos:String) (aft:Array Edge) (g:Option (Nat×Bool)) (fr:Option Nat) (e:aX) (S:St) (K:KW),jO P C ⟨d,.typeAssert x u t ok,ty,pos,aft,g⟩ fr e S K=wO (ev e x) fun v=>wR (hl (xQ P v t ok)) fun v=>K v S) ∧
  (∀ (t:Operand) (i:Nat) (d:Option Tmp) (ty:TypeId) (pos:String) (aft:Array Edge) (g:Option (Nat×Bool)) (fr:Option Nat) (e:aX) (S:St) (K:KW),jO P C ⟨d,.extract t i,ty,pos,aft,g⟩ fr e S K=wO (ev e t) fun v=>cG (hl v) i fun v=>K v S) ∧
  (∀ (f:FuncId) (a:List Operand) (ts:Array TypeId) (d:Option Tmp) (ty:TypeId) (pos:String) (aft:Array Edge) (g:Option (Nat×Bool)) (fr:Option Nat) (e:aX) (S:St) (K:KW),jO P C ⟨d,.call ⟨.value (.func f),a.toArray,ts⟩,ty,pos,aft,g⟩ fr e S K=wO (qC (ev e) a) fun args=>kX P C f args S K) ∧
  (∀ (t:Tmp) (a:List Operand) (ts:Array TypeId) (d:Option Tmp) (ty:TypeId) (pos:String) (aft:Array Edge) (g:Option (Nat×Bool)) (fr:Option Nat) (e:aX) (S:St) (K:KW),jO P C ⟨d,.call ⟨.value (.tmp t),a.toArray,ts⟩,ty,pos,aft,g⟩ fr e S K=wO (ev e (.tmp t)) fun v=>wO (qC (ev e) a) fun args=>aRl P C v args S K) ∧
  (∀ (x:Operand) (t:TypeId) (ts:List TypeId) (d:Option Tmp) (ty:TypeId) (pos:String) (aft:Array Edge) (g:Option (Nat×Bool)) (fr:Option Nat) (e:aX) (S:St) (K:KW),jO P C ⟨d,.call ⟨.builtin .len,[x].toArray,(t::ts).toArray⟩,ty,pos,aft,g⟩ fr e S K=wO (ev e x) fun x=>wR (hl (aA2 P t x S)) fun v=>K v S) ∧
  (∀ (a:List Operand) (ts:Array TypeId) (d:Option Tmp) (ty:TypeId) (pos:String) (aft:Array Edge) (g:Option (Nat×Bool)) (fr:Option Nat) (e:aX) (S:St) (K:KW),jO P C ⟨d,.call ⟨.builtin .min,a.toArray,ts⟩,ty,pos,aft,g⟩ fr e S K=wO (qC (ev e) a) fun args=>wR (hl (aR3 args)) fun v=>K v S) ∧
  (∀ (a:List Operand) (ts:Array TypeId) (d:Option Tmp) (ty:TypeId) (pos:String) (aft:Array Edge) (g:Option (Nat×Bool)) (fr:Option Nat) (e:aX) (S:St) (K:KW),jO P C ⟨d,.call ⟨.builtin .max,a.toArray,ts⟩,ty,pos,aft,g⟩ fr e S K=wO (qC (ev e) a) fun args=>wR (hl (aR4 args)) fun v=>K v S) ∧
  (∀ (s x:Operand) (t u:TypeId) (ts:List TypeId) (d:Option Tmp) (ty:TypeId) (pos:String) (aft:Array Edge) (g:Option (Nat×Bool)) (fr:Option Nat) (e:aX) (S:St) (K:KW),jO P C ⟨d,.call ⟨.builtin .append,[s,x].toArray,(t::u::ts).toArray⟩,ty,pos,aft,g⟩ fr e S K=wO (ev e s) fun s=>wO (ev e x) fun x=>nW (hl (tP P u)) (wR (hl (gJ P t s x fr S)) fun r=>K r.1 r.2)) ∧
  (∀ (x:Operand) (t:TypeId) (ts:List TypeId) (d:Option Tmp) (ty:TypeId) (pos:String) (aft:Array Edge) (g:Option (Nat×Bool)) (fr:Option Nat) (e:aX) (S:St) (K:KW),jO P C ⟨d,.call ⟨.builtin .clear,[x].toArray,(t::ts).toArray⟩,ty,pos,aft,g⟩ fr e S K=wO (ev e x) fun x=>wR (hl (aCk P t x S)) fun r=>K r.1 r.2):=by
 refine ⟨?_,?_,?_,?_,?_,?_,?_,?_,?_,?_,?_,?_,?_,?_,?_,?_,?_,?_,?_,?_,?_,?_,?_,?_,?_,?_,?_,?_,?_,?_,?_,?_,?_,?_,?_,?_,?_,?_,?_,?_,?_,?_,?_,?_,?_,?_,?_,?_,?_,?_⟩
 all_goals intros
 all_goals first
  | rfl
  | (simp only [hl];refine (aWn _ _ _).trans (aL0 _ fun v=>?_);simp only [aD1,List.getElem?_toArray,List.getElem?_cons_zero,wO])
  | (simp only [hl];refine (aWo _ _ _ _).trans (aL0 _ fun v=>aL0 _ fun w=>?_);simp only [aD1,List.getElem?_toArray,List.getElem?_cons_zero,List.getElem?_cons_succ,wO,tP];split<;>simp [nW, *];done)
  | (simp only [jO,ev,aRl,wO,List.nil_append,List.append_nil];done)
  | skip
def sR (j:Nat) (sk:List Nat) (x y:Prop):Prop:=match aRj j sk with
 | true=>x
 | false=>y
theorem aYo {i j:Nat} (h:¬ j=i) (l:List Nat) (x y:Prop):sR j (i::l) x y=sR j l x y:=by simp only [sR,aRj,aJ1 (Ne.symm h)]
theorem bDq {i j:Nat} (h:j<i) (l:List Nat) (x y:Prop):sR j (i::l) x y=sR j l x y:=aYo (Nat.ne_of_lt h) l x y
theorem aYp {i j:Nat} (h:i<j) (l:List Nat) (x y:Prop):sR j (i::l) x y=sR j l x y:=aYo (Nat.ne_of_gt h) l x y
theorem aS3 {i j:Nat} (h:¬ j=i) (l:List Nat) (r:List (Nat×List Nat)) (K:List Nat→Prop):wLv ((i,l)::r) j K=wLv r j K:=by simp only [wLv,aJ1 (Ne.symm h)]
theorem aYq {i j:Nat} (h:j<i) (l:List Nat) (r:List (Nat×List Nat)) (K:List Nat→Prop):wLv ((i,l)::r) j K=wLv r j K:=aS3 (Nat.ne_of_lt h) l r K
theorem aS4 {i j:Nat} (h:i<j) (l:List Nat) (r:List (Nat×List Nat)) (K:List Nat→Prop):wLv ((i,l)::r) j K=wLv r j K:=aS3 (Nat.ne_of_gt h) l r K
theorem aS5 {i j:Nat} (h:¬ j=i) (l:List bI) (r:List (Nat×List bI)) (K:List bI→Prop) (x:Prop):wSt ((i,l)::r) j K x=wSt r j K x:=by simp only [wSt,aJ1 (Ne.symm h)]
theorem aYr {i j:Nat} (h:j<i) (l:List bI) (r:List (Nat×List bI)) (K:List bI→Prop) (x:Prop):wSt ((i,l)::r) j K x=wSt r j K x:=aS5 (Nat.ne_of_lt h) l r K x
theorem aS6 {i j:Nat} (h:i<j) (l:List bI) (r:List (Nat×List bI)) (K:List bI→Prop) (x:Prop):wSt ((i,l)::r) j K x=wSt r j K x:=aS5 (Nat.ne_of_gt h) l r K x
theorem aMw {i j:Nat} (h:¬ j=i) (Kn:mO) (Kx:KXW) (e:aX) (S:St):aKz i Kn Kx j e S=Kx j e S:=by simp only [aKz,aJ1 h]
theorem aS7 {i j:Nat} (h:j<i) (Kn:mO) (Kx:KXW) (e:aX) (S:St):aKz i Kn Kx j e S=Kx j e S:=aMw (Nat.ne_of_lt h) Kn Kx e S
theorem aMx {i j:Nat} (h:i<j) (Kn:mO) (Kx:KXW) (e:aX) (S:St):aKz i Kn Kx j e S=Kx j e S:=aMw (Nat.ne_of_gt h) Kn Kx e S
theorem aS8 {d n:Nat} (h:d<n) (e:aX) (v:V) (K:aX→Prop):sQ n (some d) e v K=K (e.put d v):=by simp only [sQ,show Nat.blt d n=true by rw [Nat.blt_eq];exact h]
theorem aL1 (i:Nat):Nat.beq i i=true:=Nat.beq_refl i
theorem aF9 {i j:Nat} (h:¬ i=j) (P:Program) (C:aK) (ops:Array Oper) (S:St) (K:Prop) (o:Oper) (e:aX) (ran:Bool) (v:V) (recs:List sV):eJ P C ops i S K (yN P o j e ran v recs)=eJ P C ops i S K recs:=by
 unfold yN
 split
 ·simp only [eJ,aJ1 h]
 ·rfl
theorem aJ6 {i j:Nat} (h:i<j) (P:Program) (C:aK) (ops:Array Oper) (S:St) (K:Prop) (o:Oper) (e:aX) (ran:Bool) (v:V) (recs:List sV):eJ P C ops i S K (yN P o j e ran v recs)=eJ P C ops i S K recs:=aF9 (Nat.ne_of_lt h) P C ops S K o e ran v recs
theorem aFa {i j:Nat} (h:j<i) (P:Program) (C:aK) (ops:Array Oper) (S:St) (K:Prop) (o:Oper) (e:aX) (ran:Bool) (v:V) (recs:List sV):eJ P C ops i S K (yN P o j e ran v recs)=eJ P C ops i S K recs:=aF9 (Nat.ne_of_gt h) P C ops S K o e ran v recs
theorem aS9 (K:List bI→Prop) (x:Prop) (id:Nat):∀ t:List (Nat×List bI),wSt t id K x=(match eT t id with
  | some l=>K l
  | none=>x)
 | []=>rfl
 | (i,l)::r=>by
  have ih:=aS9 K x id r
  unfold eT at ih ⊢
  by_cases h:i=id
  ·subst h;simp only [wSt,iS,aL1,cond_true]
  ·simp only [wSt,iS,aJ1 h,aJ1 (Ne.symm h),cond_false,ih]
theorem aFb (P:Program) (C:aK) (n:Nat) (tp:List (Nat×List bI)) (lv:Nat→List Nat) (id:Nat) (l:List Oper) (e:aX) (S:St) (Kn:mO) (Kx:KXW) (Kr:mO):
  eS P C n (eT tp) lv (.region id l.toArray true) e S Kn Kx Kr=wLn l [0,1,2,3,4,5,6,7,8,9,10,11,12,13,14,15,16,17,18,19,20,21,22,23,24,25,26,27,28,29,30,31,32,33,34,35,36,37,38,39,40,41,42,43,44,45,46,47,48,49,50,51,52,53,54,55,56,57,58,59,60,61,62,63,64,65,66,67,68,69,70,71,72,73,74,75,76,77,78,79,80,81,82,83,84,85,86,87,88,89,90,91,92,93,94,95,96,97,98,99,100,101,102,103,104,105,106,107,108,109,110,111,112,113,114,115,116,117,118,119,120,121,122,123,124,125,126,127,128,129,130,131,132,133,134,135,136,137,138,139,140,141,142,143,144,145,146,147,148,149,150,151,152,153,154,155,156,157,158,159,160] 0 fun k=>wSt tp id (fun st=>sK P C n l.toArray S.next st [] [] e ⟨S.next+k,S.heap⟩ Kn) (yS P C n l.toArray S.next l [0,1,2,3,4,5,6,7,8,9,10,11,12,13,14,15,16,17,18,19,20,21,22,23,24,25,26,27,28,29,30,31,32,33,34,35,36,37,38,39,40,41,42,43,44,45,46,47,48,49,50,51,52,53,54,55,56,57,58,59,60,61,62,63,64,65,66,67,68,69,70,71,72,73,74,75,76,77,78,79,80,81,82,83,84,85,86,87,88,89,90,91,92,93,94,95,96,97,98,99,100,101,102,103,104,105,106,107,108,109,110,111,112,113,114,115,116,117,118,119,120,121,122,123,124,125,126,127,128,129,130,131,132,133,134,135,136,137,138,139,140,141,142,143,144,145,146,147,148,149,150,151,152,153,154,155,156,157,158,159,160] 0 [] e ⟨S.next+k,S.heap⟩ Kn):=by
 have hu:wT 0 [0,1,2,3,4,5,6,7,8,9,10,11,12,13,14,15,16,17,18,19,20,21,22,23,24,25,26,27,28,29,30,31,32,33,34,35,36,37,38,39,40,41,42,43,44,45,46,47,48,49,50,51,52,53,54,55,56,57,58,59,60,61,62,63,64,65,66,67,68,69,70,71,72,73,74,75,76,77,78,79,80,81,82,83,84,85,86,87,88,89,90,91,92,93,94,95,96,97,98,99,100,101,102,103,104,105,106,107,108,109,110,111,112,113,114,115,116,117,118,119,120,121,122,123,124,125,126,127,128,129,130,131,132,133,134,135,136,137,138,139,140,141,142,143,144,145,146,147,148,149,150,151,152,153,154,155,156,157,158,159,160]:=by simp only [wT,and_self]
 generalize [0,1,2,3,4,5,6,7,8,9,10,11,12,13,14,15,16,17,18,19,20,21,22,23,24,25,26,27,28,29,30,31,32,33,34,35,36,37,38,39,40,41,42,43,44,45,46,47,48,49,50,51,52,53,54,55,56,57,58,59,60,61,62,63,64,65,66,67,68,69,70,71,72,73,74,75,76,77,78,79,80,81,82,83,84,85,86,87,88,89,90,91,92,93,94,95,96,97,98,99,100,101,102,103,104,105,106,107,108,109,110,111,112,113,114,115,116,117,118,119,120,121,122,123,124,125,126,127,128,129,130,131,132,133,134,135,136,137,138,139,140,141,142,143,144,145,146,147,148,149,150,151,152,153,154,155,156,157,158,159,160]=ks at hu ⊢
 rw [aKw _ _ _ _ hu,aS9,Nat.zero_add]
 simp only [eS,List.size_toArray]
 cases eT tp id with
 | some st=>rfl
 | none=>
  show sK P C n l.toArray S.next (aI5 l.length) [] [] e _ Kn=_
  rw [aJ5]
  exact aD8 P C n l.toArray S.next Kn l ks 0 [] [] e _ hu fun k=>by simp
theorem aFc (P:Program) (C:aK) (n:Nat) (p:Nat→Option (List bI)) (tl:List (Nat×List Nat)) (a:Code) (e:aX) (S:St) (Kn:mO) (Kx:KXW) (Kr:mO):
  eS P C n p (iA tl) (.loop a) e S Kn Kx Kr=wLv tl (bJ a) fun ts=>nK e ts fun vs=>gG (hl vs) S (aYk P C n p (iA tl) a e Kx Kr):=by rw [aKx];rfl
theorem aSa (P:Program) (C:aK) (n:Nat) (p:Nat→Option (List bI)) (tl:List (Nat×List Nat)) (a:Code) (e:aX) (Kx:KXW) (Kr:mO) (vs:List V) (S:St) (aF:List V→St→Prop):
  aYk P C n p (iA tl) a e Kx Kr vs S aF=wLv tl (bJ a) fun ts=>aH0 ts vs (e.filt fun t=>!mN a t) fun e=>eS P C n p (iA tl) a e S (fun e S=>nK e ts fun vs=>aF vs S) Kx Kr:=by rw [aKx];rfl
theorem aMy (P:Program) (C:aK):
  (∀ (n:Nat) (p:Nat→Option (List bI)) (lv:Nat→List Nat) (e:aX) (S:St) (Kn:mO) (Kx:KXW) (Kr:mO),eS P C n p lv .skip e S Kn Kx Kr=Kn e S) ∧
  (∀ (n:Nat) (p:Nat→Option (List bI)) (lv:Nat→List Nat) (l:Nat) (e:aX) (S:St) (Kn:mO) (Kx:KXW) (Kr:mO),eS P C n p lv (.label l) e S Kn Kx Kr=Kn e S) ∧
  (∀ (n:Nat) (p:Nat→Option (List bI)) (lv:Nat→List Nat) (id:Nat) (e:aX) (S:St) (Kn:mO) (Kx:KXW) (Kr:mO),eS P C n p lv (.exit id) e S Kn Kx Kr=Kx id e S) ∧
  (∀ (n:Nat) (p:Nat→Option (List bI)) (lv:Nat→List Nat) (e:aX) (S:St) (Kn:mO) (Kx:KXW) (Kr:mO),eS P C n p lv .ret e S Kn Kx Kr=Kr e S) ∧
  (∀ (n:Nat) (p:Nat→Option (List bI)) (lv:Nat→List Nat) (id:Nat) (l:List Oper) (e:aX) (S:St) (Kn:mO) (Kx:KXW) (Kr:mO),eS P C n p lv (.region id l.toArray false) e S Kn Kx Kr=aH2 P C n l.toArray l [0,1,2,3,4,5,6,7,8,9,10,11,12,13,14,15,16,17,18,19,20,21,22,23,24,25,26,27,28,29,30,31,32,33,34,35,36,37,38,39,40,41,42,43,44,45,46,47,48,49,50,51,52,53,54,55,56,57,58,59,60,61,62,63,64,65,66,67,68,69,70,71,72,73,74,75,76,77,78,79,80,81,82,83,84,85,86,87,88,89,90,91,92,93,94,95,96,97,98,99,100,101,102,103,104,105,106,107,108,109,110,111,112,113,114,115,116,117,118,119,120,121,122,123,124,125,126,127,128,129,130,131,132,133,134,135,136,137,138,139,140,141,142,143,144,145,146,147,148,149,150,151,152,153,154,155,156,157,158,159,160] 0 [] e S Kn) ∧
  (∀ (n:Nat) (p:Nat→Option (List bI)) (lv:Nat→List Nat) (a b:Code) (e:aX) (S:St) (Kn:mO) (Kx:KXW) (Kr:mO),eS P C n p lv (.seq a b) e S Kn Kx Kr=eS P C n p lv a e S (fun e S=>eS P C n p lv b e S Kn Kx Kr) Kx Kr) ∧
  (∀ (n:Nat) (p:Nat→Option (List bI)) (lv:Nat→List Nat) (c:Operand) (a b:Code) (e:aX) (S:St) (Kn:mO) (Kx:KXW) (Kr:mO),eS P C n p lv (.cond c a b) e S Kn Kx Kr=wO (ev e c) fun v=>aH (hl v) (eS P C n p lv a (aAx e c true) S Kn Kx Kr) (eS P C n p lv b (aAx e c false) S Kn Kx Kr)) ∧
  (∀ (n:Nat) (p:Nat→Option (List bI)) (lv:Nat→List Nat) (id:Nat) (a:Code) (e:aX) (S:St) (Kn:mO) (Kx:KXW) (Kr:mO),eS P C n p lv (.block id a) e S Kn Kx Kr=eS P C n p lv a e S Kn (aKz id Kn Kx) Kr) ∧
  (∀ (n:Nat) (ops:Array Oper) (ks:List Nat) (i:Nat) (sk:List Nat) (e:aX) (S:St) (K:mO),aH2 P C n ops [] ks i sk e S K=K e S) ∧
  (∀ (n:Nat) (ops:Array Oper) (o:Oper) (l:List Oper) (k i:Nat) (ks sk:List Nat) (e:aX) (S:St) (K:mO),aH2 P C n ops (o::l) (k::ks) i sk e S K=kR P C n ops sk o none e S fun ran _ e' S'=>aH2 P C n ops l ks (i+1) (yM ran k sk) e' S' K) ∧
  (∀ (n:Nat) (ops:Array Oper) (b:Nat) (ks:List Nat) (i:Nat) (sk:List Nat) (e:aX) (S:St) (K:mO),yS P C n ops b [] ks i sk e S K=K e S) ∧
  (∀ (n:Nat) (ops:Array Oper) (o:Oper) (l:List Oper) (b k i:Nat) (ks:List Nat) (sk:List Nat) (e:aX) (S:St) (K:mO),yS P C n ops b (o::l) (k::ks) i sk e S K=kR P C n ops sk o (some (b+k)) e S fun ran _ e' S'=>yS P C n ops b l ks (i+1) (yM ran k sk) e' S' K) ∧
  (∀ (n:Nat) (ops:Array Oper) (b:Nat) (sk:List Nat) (recs:List sV) (e:aX) (S:St) (K:mO),sK P C n ops b [] sk recs e S K=K e S) ∧
  (∀ (n:Nat) (ops:List Oper) (i:Nat) (re:List Nat) (l:List bI) (b:Nat) (sk:List Nat) (recs:List sV) (e:aX) (S:St) (K:mO),sK P C n ops.toArray b ((i,re)::l) sk recs e S K=wI ops i fun o=>kR P C n ops.toArray sk o (some (b+i)) e S fun ran v e' S'=>rH P C ops.toArray recs S' (sK P C n ops.toArray b l (yM ran i sk) (yN P o i e ran v recs) e' S' K) re) ∧
  (∀ (ops:Array Oper) (recs:List sV) (S:St) (K:Prop),rH P C ops recs S K []=K) ∧
  (∀ (ops:Array Oper) (recs:List sV) (S:St) (K:Prop) (i:Nat) (l:List Nat),rH P C ops recs S K (i::l)=eJ P C ops i S (rH P C ops recs S K l) recs) ∧
  (∀ (ops:Array Oper) (i:Nat) (S:St) (K:Prop),eJ P C ops i S K []=K) ∧
  (∀ (ops:List Oper) (i:Nat) (S:St) (K:Prop) (d t:Nat) (a:Operand) (ty:TypeId) (pos:String) (aft:Array Edge) (g:Option (Nat×Bool)) (e:aX) (v:V) (recs:List sV),eJ P C ops.toArray i S K (yN P ⟨some d,.load t a,ty,pos,aft,g⟩ i e true v recs)=wI ops i fun o=>jO P C o none e S fun v' _=>nW (hl (dO v v')) K) ∧
  (∀ (ops:List Oper) (i:Nat) (S:St) (K:Prop) (d:Nat) (a:Array Operand) (ts:Array TypeId) (ty:TypeId) (pos:String) (aft:Array Edge) (g:Option (Nat×Bool)) (e:aX) (v:V) (recs:List sV),eJ P C ops.toArray i S K (yN P ⟨some d,.call ⟨.builtin .len,a,ts⟩,ty,pos,aft,g⟩ i e true v recs)=wI ops i fun o=>jO P C o none e S fun v' _=>nW (hl (dO v v')) K) ∧
  (∀ (o:Oper) (i:Nat) (e:aX) (v:V) (recs:List sV) (ops:Array Oper) (S:St) (K:Prop),eJ P C ops i S K (yN P o i e false v recs)=eJ P C ops i S K recs) ∧
  (∀ (n:Nat) (ops:Array Oper) (sk:List Nat) (d:Option Tmp) (op:Op) (ty:TypeId) (pos:String) (aft:Array Edge) (fr:Option Nat) (e:aX) (S:St) (K:Bool→V→aX→St→Prop),kR P C n ops sk ⟨d,op,ty,pos,aft,none⟩ fr e S K=jO P C ⟨d,op,ty,pos,aft,none⟩ fr e S fun v S'=>sQ n d e v fun e'=>K true v e' S') ∧
  (∀ (n:Nat) (ops:List Oper) (sk:List Nat) (d:Option Tmp) (op:Op) (ty:TypeId) (pos:String) (aft:Array Edge) (j:Nat) (fr:Option Nat) (e:aX) (S:St) (K:Bool→V→aX→St→Prop),kR P C n ops.toArray sk ⟨d,op,ty,pos,aft,some (j,true)⟩ fr e S K=wG ops j fun s=>wO (e.get s) fun v=>sR j sk (aPp v (sQ n d e (.tup []) fun e'=>K false (.tup []) e' S)) (aH (hl v) (jO P C ⟨d,op,ty,pos,aft,some (j,true)⟩ fr (e.put s (.bool true)) S fun v S'=>sQ n d (e.put s (.bool true)) v fun e'=>K true v e' S') (sQ n d (e.put s (.bool false)) (.tup []) fun e'=>K false (.tup []) e' S))) ∧
  (∀ (n:Nat) (ops:List Oper) (sk:List Nat) (d:Option Tmp) (op:Op) (ty:TypeId) (pos:String) (aft:Array Edge) (j:Nat) (fr:Option Nat) (e:aX) (S:St) (K:Bool→V→aX→St→Prop),kR P C n ops.toArray sk ⟨d,op,ty,pos,aft,some (j,false)⟩ fr e S K=wG ops j fun s=>wO (e.get s) fun v=>sR j sk (aPp v (sQ n d e (.tup []) fun e'=>K false (.tup []) e' S)) (aH (hl v) (sQ n d (e.put s (.bool true)) (.tup []) fun e'=>K false (.tup []) e' S) (jO P C ⟨d,op,ty,pos,aft,some (j,false)⟩ fr (e.put s (.bool false)) S fun v S'=>sQ n d (e.put s (.bool false)) v fun e'=>K true v e' S'))) ∧
  (∀ (n:Nat) (e:aX) (v:V) (K:aX→Prop),sQ n none e v K=K e) ∧
  (∀ (rs:List ResultVar) (K:KW) (e:aX) (S:St),aPq P rs K e S=aEi P e S rs fun vs=>K (qT vs) S) ∧
  (∀ (e:aX) (S:St) (K:List V→Prop),aEi P e S [] K=K []) ∧
  (∀ (e:aX) (S:St) (t:Tmp) (l:List ResultVar) (K:List V→Prop),aEi P e S (.tmp t::l) K=wO (e.get t) fun v=>aEi P e S l fun vs=>K (v::vs)) ∧
  (∀ (e:aX) (S:St) (a:Tmp) (t:TypeId) (l:List ResultVar) (K:List V→Prop),aEi P e S (.cell a t::l) K=wO (e.get a) fun p=>wR (hl (mH P t p S)) fun v=>aEi P e S l fun vs=>K (v::vs)) ∧
  (∀ (f:FuncId) (a b args:List V) (S:St) (K:KW),aRl P C (.func f a b) args S K=kX P C f (a++args++b) S K):=by
 refine ⟨fun n _ _ _ _ _ _ _=>rfl,fun n _ _ _ _ _ _ _ _=>rfl,fun n _ _ _ _ _ _ _ _=>rfl,fun n _ _ _ _ _ _ _=>rfl,fun n p lv id l e S Kn Kx Kr=>aH3 P C n l.toArray Kn l _ 0 [] e S (by simp only [wT,and_self]),fun n _ _ _ _ _ _ _ _ _=>rfl,fun n _ _ _ _ _ _ _ _ _ _=>rfl,fun n _ _ _ _ _ _ _ _ _=>rfl,fun n ops ks i sk e S K=>by cases ks<;>rfl,fun n _ _ _ _ _ _ _ _ _ _=>rfl,fun n ops b ks i sk e S K=>by cases ks<;>rfl,fun n _ _ _ _ _ _ _ _ _ _ _=>rfl,fun n _ _ _ _ _ _ _=>rfl,fun n ops i re l b sk recs e S K=>?_,fun _ _ _ _=>rfl,fun _ _ _ _ _ _=>rfl,fun _ _ _ _=>rfl,fun ops i S K d t a ty pos aft g e v recs=>?_,fun ops i S K d a ts ty pos aft g e v recs=>?_,fun o i e v recs ops S K=>?_,fun n _ _ _ _ _ _ _ _ _ _ _=>rfl,fun n ops sk d op ty pos aft j fr e S K=>?_,fun n ops sk d op ty pos aft j fr e S K=>?_,fun n _ _ _=>rfl,fun _ _ _ _=>rfl,fun _ _ _=>rfl,fun _ _ _ _ _=>rfl,fun _ _ _ _ _ _=>rfl,fun _ _ _ _ _ _=>rfl⟩
 ·rw [sK,aF8]
 ·simp only [yN,eH,aL1,Bool.and_true,Option.isSome,eJ,hl];rw [aF8]
 ·simp only [yN,eH,aL1,Bool.and_true,Option.isSome,eJ,hl];rw [aF8]
 ·simp only [yN,Bool.and_false,Bool.false_and]
 ·simp only [kR,doW,aF5,sR];rw [aRz];rfl
 ·simp only [kR,doW,aF5,sR];rw [aRz];rfl
theorem aMz:(∀ (k:Nat) (ks:List Nat) (i:Nat) (K:Nat→Prop),wLn [] (k::ks) i K=K k)∧(∀ (o:Oper) (l:List Oper) (k:Nat) (ks:List Nat) (i:Nat) (K:Nat→Prop),wLn (o::l) (k::ks) i K=wLn l ks (i+1) K)∧(∀ (j:Nat) (x y:Prop),sR j [] x y=y)∧(∀ (j i:Nat) (l:List Nat) (x y:Prop),sR j (yM true i l) x y=sR j l x y)∧(∀ (j i:Nat) (l:List Nat) (x y:Prop),sR j (yM false i l) x y=sR j (i::l) x y)∧(∀ (j:Nat) (l:List Nat) (x y:Prop),sR j (j::l) x y=x) ∧
  (∀ (j:Nat) (K:List Nat→Prop),wLv [] j K=K [])∧(∀ (j:Nat) (l:List Nat) (r:List (Nat×List Nat)) (K:List Nat→Prop),wLv ((j,l)::r) j K=K l)∧(∀ (j:Nat) (K:List bI→Prop) (x:Prop),wSt [] j K x=x)∧(∀ (j:Nat) (l:List bI) (r:List (Nat×List bI)) (K:List bI→Prop) (x:Prop),wSt ((j,l)::r) j K x=K l) ∧
  (∀ (o:Oper) (l:List Oper) (K:Nat→Prop),wG (o::l) 0 K=wO o.dst K)∧(∀ (o:Oper) (l:List Oper) (j:Nat) (K:Nat→Prop),wG (o::l) (j+1) K=wG l j K)∧(∀ (o:Oper) (l:List Oper) (K:Oper→Prop),wI (o::l) 0 K=K o)∧(∀ (o:Oper) (l:List Oper) (j:Nat) (K:Oper→Prop),wI (o::l) (j+1) K=wI l j K) ∧
  (∀ (d:Nat) (op:Op) (ty:TypeId) (pos:String) (aft:Array Edge) (g:Option (Nat×Bool)) (K:Nat→Prop),wO (Oper.dst ⟨some d,op,ty,pos,aft,g⟩) K=K d) ∧
  (∀ (i:Nat) (Kn:mO) (Kx:KXW) (e:aX) (S:St),aKz i Kn Kx i e S=Kn e S)∧(∀ (e:aX) (K:List V→Prop),nK e [] K=K [])∧(∀ (e:aX) (t:Nat) (l:List Nat) (K:List V→Prop),nK e (t::l) K=wO (e.get t) fun v=>nK e l fun vs=>K (v::vs)) ∧
  (∀ (vs:List V) (e:aX) (K:aX→Prop),aH0 [] vs e K=K e)∧(∀ (t:Nat) (l:List Nat) (v:V) (vs:List V) (e:aX) (K:aX→Prop),aH0 (t::l) (v::vs) e K=aH0 l vs (e.put t v) K)∧(eZ 0 [] .nil=.nil)∧(∀ a0:V,eZ 0 [a0] .nil=(Tr.put .nil 0 a0))∧(∀ a0 a1:V,eZ 0 [a0,a1] .nil=((Tr.put .nil 0 a0).put 1 a1))∧(∀ a0 a1 a2:V,eZ 0 [a0,a1,a2] .nil=(((Tr.put .nil 0 a0).put 1 a1).put 2 a2))∧(∀ a0 a1 a2 a3:V,eZ 0 [a0,a1,a2,a3] .nil=((((Tr.put .nil 0 a0).put 1 a1).put 2 a2).put 3 a3))∧(∀ a0 a1 a2 a3 a4:V,eZ 0 [a0,a1,a2,a3,a4] .nil=(((((Tr.put .nil 0 a0).put 1 a1).put 2 a2).put 3 a3).put 4 a4))∧(∀ a0 a1 a2 a3 a4 a5:V,eZ 0 [a0,a1,a2,a3,a4,a5] .nil=((((((Tr.put .nil 0 a0).put 1 a1).put 2 a2).put 3 a3).put 4 a4).put 5 a5))∧(∀ a0 a1 a2 a3 a4 a5 a6:V,eZ 0 [a0,a1,a2,a3,a4,a5,a6] .nil=(((((((Tr.put .nil 0 a0).put 1 a1).put 2 a2).put 3 a3).put 4 a4).put 5 a5).put 6 a6))∧(∀ a0 a1 a2 a3 a4 a5 a6 a7:V,eZ 0 [a0,a1,a2,a3,a4,a5,a6,a7] .nil=((((((((Tr.put .nil 0 a0).put 1 a1).put 2 a2).put 3 a3).put 4 a4).put 5 a5).put 6 a6).put 7 a7)) ∧
  (∀ (i:Nat) (sk:List Nat),yM true i sk=sk)∧(∀ (i:Nat) (sk:List Nat),yM false i sk=i::sk)∧(∀ (e:aX) (t:Nat) (b:Bool),aAx e (.tmp t) b=e.put t (.bool b))∧(∀ (e:aX) (v:Value) (b:Bool),aAx e (.const v) b=e)∧(∀ v:V,qT [v]=v)∧qT []=.tup []∧(∀ (v w:V) (l:List V),qT (v::w::l)=.tup (v::w::l)) ∧
  (∀ (l:List V) (x:Prop),aPp (.tup l) x=x)∧(∀ a b:Code,bJ (.seq a b)=bJ a)∧(∀ (i:Nat) (a:Code),bJ (.block i a)=bJ a)∧(∀ (id:Nat) (ops:Array Oper) (d:Bool),bJ (.region id ops d)=id)∧(∀ a:Code,bJ (.loop a)=bJ a)∧(∀ (c:Operand) (a b:Code),bJ (.cond c a b)=0)∧(∀ x y:Prop,aH (hl (.bool true)) x y=x)∧(∀ x y:Prop,aH (hl (.bool false)) x y=y)∧(true=true)=True∧(false=true)=False∧(∀ a b:V,aIu (.bool true) a b=.ok a)∧(∀ a b:V,aIu (.bool false) a b=.ok b):=by
 refine ⟨fun _ _ _ _=>rfl,fun _ _ _ _ _ _=>rfl,fun _ _ _=>rfl,fun _ _ _ _ _=>rfl,fun _ _ _ _ _=>rfl,fun j l x y=>by simp only [sR,aRj,aL1],fun _ _=>rfl,fun j l r K=>by simp only [wLv,aL1],fun _ _ _=>rfl,fun j l r K x=>by simp only [wSt,aL1],fun _ _ _=>rfl,fun _ _ _ _=>rfl,fun _ _ _=>rfl,fun _ _ _ _=>rfl,fun _ _ _ _ _ _ _=>rfl,fun i Kn Kx e S=>by simp only [aKz,aL1],fun _ _=>rfl,fun _ _ _ _=>rfl,fun _ _ _=>rfl,fun _ _ _ _ _ _=>rfl,rfl,fun _=>rfl,fun _ _=>rfl,fun _ _ _=>rfl,fun _ _ _ _=>rfl,fun _ _ _ _ _=>rfl,fun _ _ _ _ _ _=>rfl,fun _ _ _ _ _ _ _=>rfl,fun _ _ _ _ _ _ _ _=>rfl,fun _ _=>rfl,fun _ _=>rfl,fun _ _ _=>rfl,fun _ _ _=>rfl,fun _=>rfl,rfl,fun _ _ _=>rfl,fun _ _=>rfl,fun _ _=>rfl,fun _ _=>rfl,fun _ _ _=>rfl,fun _=>rfl,fun _ _ _=>rfl,fun _ _=>rfl,fun _ _=>rfl,by simp,by simp,fun _ _=>rfl,fun _ _=>rfl⟩
def aD9 (P:Program) (C:aK) (fn:Func) (tp:List (Nat×List bI)) (tl:List (Nat×List Nat)) (args:List V) (S:St) (K:KW):Prop:=aRm P C (eT tp) (iA tl) args S K (fn.body.getD .skip) fn.ntmps fn.results.toList
theorem aYs (P:Program) (C:aK) (nm og:String) (ta pa rt:Array TypeId) (nf nt:Nat) (rs:List ResultVar) (c:Code) (b1 b2:Bool) (fl:String) (el:Nat) (ln:Option Nat) (me:List Departure) (tn:Array String) (tp:List (Nat×List bI)) (tl:List (Nat×List Nat)) (args:List V) (S:St) (K:KW):
  aD9 P C ⟨nm,og,ta,pa,rt,nf,nt,rs.toArray,some c,b1,b2,fl,el,ln,me,tn⟩ tp tl args S K=nW (Nat.ble args.length nt) (eS P C nt (eT tp) (iA tl) c (eZ 0 args .nil) S (aPq P rs K) (fun _ _ _=>False) (aPq P rs K)):=rfl
def aFd (fn:Func):Code×Nat×List ResultVar:=(fn.body.getD .skip,fn.ntmps,fn.results.toList)
theorem aFe:(∀ n,Nat.ble ([]:List V).length n=true)∧(∀ (a:V) (l:List V) (n:Nat),Nat.ble (a::l).length (n+1)=Nat.ble l.length n):=⟨fun n=>by cases n<;>rfl,fun _ _ _=>rfl⟩
theorem aDa (P:Program) (C:aK) {g:FuncId} (h:eI P g=some none) (args:List V) (S:St) (K:KW):kX P C g args S K=C g (hl args) S K:=by unfold kX;rw [h];rfl
section
variable {P:Program} {pl:kQ} {f:FuncId} {fn:Func} {tp:List (Nat×List bI)} {tl:List (Nat×List Nat)}
theorem bDr (hp:pl f=some (.val (eT tp))) (hb:aAy P f=some (aFd fn)) {args:List V} {v:V} (hc:cloVs args=true) (h:aD9 P (W P pl) fn tp tl args ⟨0,.nil⟩ fun v0 S0=>dS S0 v0=.ok v):Fn P pl f args v:=
 Fn.of (p:=eT tp) (lv:=iA tl) hp hc (by unfold cW;rw [hb];exact h)
theorem bCb (hp:pl f=some (.code (eT tp))) (hb:aAy P f=some (aFd fn)) {args:List V} {S:St} {K:KW} (h:aD9 P (W P pl) fn tp tl args S K):W P pl f args S K:=
 aKt (p:=eT tp) (lv:=iA tl) hp (by unfold cW;rw [hb];exact h)
end
end
end Go.AM
end
section
namespace Go.Proofs.YtoaibmbldmckaaaGreat
open Go.AM Tryz
def dSp:aI6:=[(202,.ins 68),(221,.ins 27),(230,.ins 28),(234,.ins 25),(237,.ins 24),(280,.ins 80),(240,.del 28)]
def bCc:iT:=[
 (3,[]),
 (4,[(4,[(0,[]),(2,[]),(1,[2]),(3,[]),(4,[]),(5,[]),(6,[]),(7,[]),(8,[]),(9,[]),(10,[]),(11,[]),(12,[]),(13,[])])]),
 (5,[(10,[(0,[]),(1,[]),(2,[1]),(3,[])])]),
 (6,[(8,[(0,[]),(2,[]),(1,[2]),(3,[]),(4,[]),(5,[]),(6,[]),(7,[]),(8,[]),(9,[]),(10,[]),(11,[]),(12,[]),(13,[]),(14,[]),(15,[])])]),
 (7,[]),
 (8,[(7,[(1,[]),(2,[]),(3,[]),(4,[]),(6,[]),(7,[]),(8,[]),(9,[]),(10,[]),(0,[]),(5,[7]),(11,[]),(12,[])]),(15,[(0,[]),(1,[0]),(2,[0]),(3,[]),(4,[]),(5,[]),(6,[]),(7,[]),(8,[])])]),
 (9,[]),
 (10,[]),
 (11,[]),
 (12,[]),
 (13,[(2,[(0,[]),(2,[]),(1,[2]),(3,[]),(4,[]),(5,[]),(6,[]),(7,[]),(8,[]),(9,[]),(10,[]),(11,[]),(12,[]),(13,[]),(14,[])])]),
 (14,[]),
 (15,[(5,[(0,[]),(1,[]),(2,[0]),(3,[]),(4,[]),(5,[]),(6,[]),(7,[]),(8,[]),(9,[])]),(6,[(0,[]),(1,[]),(2,[0]),(3,[]),(4,[]),(5,[]),(6,[]),(7,[]),(8,[]),(9,[])])]),
 (16,[(3,[(0,[]),(2,[]),(1,[2]),(3,[]),(4,[]),(5,[])]),(4,[(0,[]),(1,[]),(2,[]),(3,[]),(4,[]),(5,[]),(6,[]),(7,[]),(8,[]),(9,[]),(10,[]),(12,[]),(13,[]),(11,[13,12]),(14,[]),(15,[]),(16,[]),(17,[]),(18,[]),(19,[]),(20,[])])]),
 (17,[(32,[(0,[]),(1,[]),(2,[]),(3,[]),(4,[]),(5,[]),(6,[]),(7,[]),(8,[]),(9,[]),(10,[]),(11,[]),(12,[]),(13,[]),(14,[]),(15,[]),(16,[]),(17,[]),(18,[]),(19,[]),(20,[]),(21,[]),(22,[]),(23,[]),(24,[]),(25,[]),(26,[]),(27,[]),(28,[25,23]),(29,[]),(30,[]),(31,[25,23]),(32,[]),(33,[]),(34,[25]),(35,[]),(36,[]),(37,[])])]),
 (18,[]),
 (19,[]),
 (20,[]),
 (21,[]),
 (22,[]),
 (23,[]),
 (24,[]),
 (26,[]),
 (27,[]),
 (28,[]),
 (29,[(7,[(0,[]),(1,[]),(2,[]),(3,[]),(4,[]),(5,[]),(6,[]),(8,[]),(9,[]),(10,[]),(11,[]),(12,[]),(13,[]),(15,[]),(16,[]),(17,[]),(18,[]),(19,[]),(20,[]),(7,[20,16,13,9]),(14,[20,16]),(21,[]),(22,[])]),(12,[(0,[]),(1,[]),(2,[]),(3,[]),(4,[]),(5,[]),(6,[]),(8,[]),(9,[]),(10,[]),(11,[]),(12,[]),(13,[]),(15,[]),(16,[]),(17,[]),(18,[]),(19,[]),(20,[]),(7,[20,16,13,9]),(14,[20,16]),(21,[]),(22,[])]),(18,[(0,[]),(1,[]),(2,[]),(3,[]),(5,[]),(6,[]),(4,[6]),(7,[]),(8,[])]),(19,[(0,[]),(1,[]),(2,[]),(3,[]),(5,[]),(6,[]),(7,[]),(4,[7]),(8,[]),(9,[])]),(25,[(0,[]),(1,[]),(2,[]),(4,[]),(5,[]),(7,[]),(8,[]),(3,[8,5]),(6,[8]),(9,[]),(10,[])]),(30,[(0,[]),(1,[]),(2,[]),(3,[]),(4,[]),(5,[]),(6,[]),(8,[]),(9,[]),(10,[]),(11,[]),(12,[]),(13,[]),(15,[]),(16,[]),(17,[]),(18,[]),(19,[]),(20,[]),(7,[20,16,13,9]),(14,[20,16]),(21,[]),(22,[])])]),
 (30,[]),
 (31,[]),
 (32,[]),
 (33,[(3,[(0,[]),(1,[0]),(2,[]),(3,[])]),(5,[(0,[]),(1,[0]),(2,[]),(3,[])]),(10,[(0,[]),(1,[]),(2,[0]),(3,[]),(4,[])]),(12,[(0,[]),(1,[]),(2,[1]),(3,[])]),(17,[(0,[]),(1,[]),(2,[1]),(3,[])])]),
 (34,[(9,[(1,[]),(2,[]),(4,[]),(5,[]),(6,[]),(0,[]),(3,[5]),(7,[]),(8,[]),(9,[]),(10,[])]),(11,[(0,[]),(1,[]),(2,[]),(3,[]),(4,[]),(5,[2]),(6,[])]),(16,[(0,[]),(1,[]),(2,[1]),(3,[])]),(21,[(0,[]),(1,[]),(2,[1]),(3,[])])]),
 (35,[]),
 (36,[]),
 (37,[]),
 (38,[]),
 (39,[]),
 (40,[]),
 (41,[(10,[(0,[]),(1,[]),(3,[]),(2,[3]),(4,[]),(5,[]),(6,[]),(7,[]),(8,[]),(10,[]),(9,[10]),(11,[]),(12,[]),(13,[])]),(19,[(1,[]),(2,[]),(3,[]),(5,[]),(6,[]),(7,[]),(8,[]),(9,[]),(12,[]),(13,[]),(14,[]),(0,[]),(4,[8,6]),(10,[]),(11,[]),(15,[]),(16,[])])]),
 (42,[]),
 (43,[]),
 (44,[(3,[(0,[]),(1,[0]),(2,[0]),(3,[]),(4,[]),(5,[]),(6,[]),(7,[]),(8,[])]),(4,[(0,[]),(1,[0]),(2,[0]),(3,[]),(4,[]),(5,[]),(6,[]),(7,[]),(8,[])])]),
 (45,[]),
 (46,[]),
 (47,[]),
 (48,[]),
 (50,[]),
 (51,[]),
 (52,[]),
 (53,[]),
 (54,[(7,[(0,[]),(1,[]),(3,[]),(4,[]),(6,[]),(2,[4]),(5,[]),(7,[]),(8,[]),(9,[]),(10,[])])]),
 (55,[]),
 (56,[]),
 (57,[]),
 (58,[]),
 (59,[]),
 (60,[]),
 (61,[]),
 (62,[]),
 (63,[]),
 (64,[]),
 (65,[]),
 (66,[]),
 (67,[]),
 (68,[]),
 (69,[]),
 (70,[]),
 (71,[]),
 (72,[]),
 (73,[]),
 (74,[]),
 (75,[]),
 (76,[]),
 (77,[]),
 (78,[]),
 (79,[]),
 (80,[]),
 (81,[]),
 (82,[]),
 (83,[]),
 (84,[]),
 (85,[]),
 (86,[]),
 (87,[]),
 (88,[]),
 (89,[]),
 (90,[]),
 (91,[]),
 (92,[]),
 (93,[]),
 (94,[]),
 (95,[]),
 (96,[]),
 (97,[]),
 (98,[(1,[(0,[]),(1,[]),(2,[]),(4,[]),(5,[]),(7,[]),(8,[]),(3,[8,5]),(6,[8]),(9,[]),(10,[])])]),
 (99,[]),
 (100,[]),
 (101,[(1,[(0,[]),(1,[]),(2,[]),(4,[]),(5,[]),(7,[]),(8,[]),(3,[8,5]),(6,[8]),(9,[]),(10,[])])]),
 (102,[(9,[(0,[]),(1,[]),(2,[]),(3,[]),(4,[]),(5,[]),(6,[]),(7,[]),(8,[]),(9,[]),(10,[1]),(11,[]),(12,[]),(13,[]),(14,[])])]),
 (103,[]),
 (104,[(2,[(0,[]),(1,[0]),(2,[]),(3,[])]),(5,[(0,[]),(1,[]),(2,[0]),(3,[]),(4,[])]),(9,[(0,[]),(1,[]),(2,[1]),(3,[])])]),
 (105,[]),
 (106,[]),
 (107,[(8,[(0,[]),(1,[]),(2,[]),(3,[]),(4,[]),(5,[]),(6,[]),(7,[]),(8,[5]),(9,[]),(10,[]),(11,[])])]),
 (108,[(5,[(0,[]),(1,[]),(2,[]),(3,[]),(4,[]),(5,[3]),(6,[]),(7,[])]),(12,[(0,[]),(1,[]),(2,[]),(3,[]),(4,[]),(5,[3]),(6,[]),(7,[])]),(15,[(0,[]),(1,[]),(2,[]),(3,[]),(4,[]),(5,[]),(6,[]),(7,[5,3]),(8,[]),(9,[5]),(10,[]),(11,[])])]),
 (109,[]),
 (110,[(33,[(1,[]),(2,[]),(3,[]),(4,[]),(6,[]),(7,[]),(8,[]),(9,[]),(10,[]),(0,[]),(5,[7]),(11,[]),(12,[]),(13,[])]),(44,[(0,[]),(1,[]),(2,[1]),(3,[])])]),
 (111,[(4,[(0,[]),(1,[]),(2,[]),(3,[]),(4,[]),(5,[]),(6,[]),(7,[]),(8,[5]),(9,[]),(10,[]),(11,[])])]),
 (112,[]),
 (113,[]),
 (114,[]),
 (115,[]),
 (116,[]),
 (117,[]),
 (118,[(1,[(0,[]),(1,[]),(2,[]),(3,[]),(4,[]),(5,[]),(6,[]),(7,[]),(8,[]),(9,[]),(10,[]),(11,[]),(12,[]),(13,[]),(14,[]),(15,[]),(16,[]),(17,[]),(18,[]),(19,[]),(20,[15]),(21,[]),(22,[]),(23,[])])]),
 (119,[]),
 (120,[(19,[(0,[]),(1,[]),(2,[]),(3,[]),(4,[]),(5,[]),(6,[]),(7,[]),(8,[]),(9,[]),(10,[]),(11,[]),(12,[]),(13,[]),(15,[]),(16,[]),(17,[]),(18,[]),(19,[]),(14,[19]),(20,[]),(21,[]),(22,[]),(23,[]),(24,[]),(25,[]),(26,[]),(27,[]),(28,[]),(29,[]),(30,[]),(31,[]),(32,[]),(33,[]),(34,[]),(35,[]),(36,[]),(37,[]),(38,[]),(39,[]),(40,[]),(41,[]),(42,[]),(43,[]),(44,[]),(45,[]),(46,[]),(47,[]),(48,[])])]),
 (121,[]),
 (122,[(11,[(1,[]),(2,[]),(3,[]),(5,[]),(6,[]),(7,[]),(8,[]),(9,[]),(10,[]),(13,[]),(14,[]),(15,[]),(0,[]),(4,[9]),(11,[]),(12,[]),(16,[]),(17,[])])]),
 (123,[(1,[(0,[]),(1,[]),(2,[]),(3,[]),(4,[]),(5,[]),(6,[]),(7,[]),(8,[]),(9,[]),(10,[]),(11,[]),(12,[]),(13,[]),(14,[]),(15,[]),(16,[]),(17,[]),(18,[]),(19,[]),(20,[]),(21,[]),(22,[]),(23,[]),(24,[]),(25,[]),(26,[]),(27,[]),(28,[]),(29,[]),(30,[25]),(31,[]),(32,[]),(33,[])])]),
 (124,[(1,[(0,[]),(1,[]),(2,[]),(3,[]),(4,[]),(5,[]),(6,[]),(7,[]),(9,[]),(8,[9]),(10,[]),(11,[]),(12,[]),(13,[])])]),
 (125,[]),
 (126,[]),
 (127,[]),
 (128,[]),
 (129,[]),
 (130,[]),
 (131,[]),
 (132,[]),
 (133,[]),
 (134,[]),
 (135,[]),
 (136,[]),
 (137,[]),
 (138,[]),
 (139,[]),
 (140,[]),
 (141,[]),
 (142,[(5,[(0,[]),(1,[]),(2,[]),(3,[]),(4,[]),(5,[3]),(6,[]),(7,[])]),(14,[(0,[]),(1,[]),(2,[]),(3,[]),(4,[]),(5,[]),(6,[]),(7,[]),(8,[]),(10,[]),(9,[5,2]),(11,[5]),(12,[]),(13,[]),(14,[]),(15,[])]),(17,[(0,[]),(1,[]),(2,[]),(3,[]),(4,[]),(5,[]),(6,[]),(7,[5,3]),(8,[]),(9,[5]),(10,[]),(11,[])]),(24,[(0,[]),(1,[]),(2,[]),(3,[]),(4,[2]),(5,[])])]),
 (143,[(5,[(0,[]),(1,[]),(2,[]),(3,[]),(4,[]),(5,[4]),(6,[])])]),
 (144,[]),
 (145,[]),
 (146,[]),
 (147,[]),
 (148,[]),
 (149,[]),
 (150,[]),
 (151,[]),
 (152,[]),
 (153,[]),
 (154,[(10,[(0,[]),(1,[]),(2,[]),(3,[]),(4,[]),(7,[]),(8,[]),(9,[]),(10,[]),(11,[]),(5,[]),(6,[11]),(12,[]),(13,[]),(14,[]),(15,[])])]),
 (155,[]),
 (156,[]),
 (157,[]),
 (158,[]),
 (159,[]),
 (160,[]),
 (161,[(5,[(0,[]),(1,[]),(2,[]),(3,[]),(4,[]),(5,[]),(8,[]),(9,[]),(10,[]),(11,[]),(12,[]),(13,[]),(6,[]),(7,[13]),(14,[]),(15,[]),(16,[]),(17,[])])]),
 (162,[]),
 (163,[]),
 (164,[]),
 (165,[]),
 (166,[]),
 (167,[]),
 (168,[]),
 (169,[]),
 (170,[]),
 (171,[]),
 (172,[]),
 (173,[]),
 (174,[]),
 (175,[]),
 (176,[]),
 (177,[]),
 (178,[(17,[(0,[]),(2,[]),(3,[]),(1,[3]),(4,[]),(5,[]),(6,[]),(7,[])])]),
 (179,[]),
 (180,[]),
 (181,[]),
 (182,[]),
 (183,[]),
 (184,[]),
 (185,[]),
 (186,[(14,[(1,[]),(2,[]),(3,[]),(5,[]),(6,[]),(7,[]),(10,[]),(11,[]),(12,[]),(0,[]),(4,[]),(8,[]),(9,[]),(13,[]),(14,[]),(15,[])])]),
 (187,[]),
 (188,[]),
 (189,[(13,[(1,[]),(2,[]),(3,[]),(5,[]),(8,[]),(9,[]),(10,[]),(0,[]),(4,[5]),(6,[]),(7,[]),(11,[]),(12,[]),(13,[])])]),
 (190,[(30,[(1,[]),(2,[]),(3,[]),(4,[]),(6,[]),(7,[]),(8,[]),(9,[]),(12,[]),(13,[]),(14,[]),(15,[]),(0,[]),(5,[13,7]),(10,[]),(11,[13]),(16,[]),(17,[]),(18,[])]),(31,[(0,[]),(1,[]),(2,[]),(3,[]),(4,[]),(5,[]),(6,[]),(7,[]),(8,[]),(9,[]),(10,[1]),(11,[]),(12,[]),(13,[]),(14,[]),(15,[]),(16,[]),(17,[])])]),
 (191,[(13,[(1,[]),(2,[]),(4,[]),(5,[]),(6,[]),(7,[]),(8,[]),(9,[]),(10,[]),(11,[]),(12,[]),(13,[]),(0,[]),(3,[12,10,9,5]),(14,[]),(15,[]),(16,[]),(17,[])]),(14,[(0,[]),(1,[]),(2,[]),(3,[]),(4,[]),(5,[3]),(6,[])])]),
 (192,[(12,[(0,[]),(1,[]),(2,[]),(3,[]),(4,[]),(5,[]),(6,[]),(8,[]),(9,[]),(7,[9]),(10,[]),(11,[]),(12,[])]),(22,[(0,[]),(1,[]),(2,[1]),(3,[])])]),
 (193,[]),
 (194,[(3,[(0,[]),(1,[]),(3,[]),(4,[]),(2,[4]),(5,[]),(6,[]),(7,[])])]),
 (195,[]),
 (196,[]),
 (197,[]),
 (198,[]),
 (199,[]),
 (200,[]),
 (201,[]),
 (203,[]),
 (204,[]),
 (205,[]),
 (206,[]),
 (207,[(4,[(0,[]),(1,[]),(3,[]),(4,[]),(6,[]),(2,[4]),(5,[]),(7,[]),(8,[]),(9,[]),(10,[])])]),
 (208,[(9,[(0,[]),(1,[]),(2,[]),(3,[]),(4,[]),(5,[]),(6,[3,1]),(7,[]),(8,[]),(9,[]),(10,[])])]),
 (209,[]),
 (210,[]),
 (211,[]),
 (212,[]),
 (213,[]),
 (214,[]),
 (215,[(6,[(0,[]),(1,[]),(2,[]),(3,[]),(4,[]),(5,[4]),(6,[])])]),
 (216,[]),
 (217,[]),
 (218,[]),
 (219,[]),
 (220,[]),
 (222,[]),
 (223,[(7,[(0,[]),(1,[]),(2,[]),(3,[]),(4,[1]),(5,[]),(6,[]),(7,[])])]),
 (224,[]),
 (225,[]),
 (226,[(5,[(0,[]),(1,[]),(2,[]),(5,[]),(6,[]),(7,[]),(3,[]),(4,[7]),(8,[]),(9,[]),(10,[]),(11,[])])]),
 (227,[]),
 (228,[]),
 (229,[]),
 (231,[]),
 (232,[]),
 (233,[]),
 (235,[]),
 (236,[]),
 (238,[]),
 (239,[]),
 (241,[]),
 (242,[(7,[(0,[]),(1,[]),(2,[]),(3,[]),(4,[]),(5,[]),(6,[]),(7,[]),(8,[]),(9,[]),(10,[]),(11,[]),(12,[]),(14,[]),(13,[14]),(15,[]),(16,[]),(17,[])])]),
 (243,[]),
 (244,[]),
 (245,[]),
 (246,[]),
 (249,[(7,[(0,[]),(1,[]),(2,[]),(4,[]),(5,[]),(3,[5]),(6,[]),(7,[])]),(16,[(0,[]),(1,[]),(2,[]),(3,[]),(5,[]),(6,[]),(7,[]),(9,[]),(10,[]),(11,[]),(4,[11,7]),(8,[11]),(12,[]),(13,[])]),(20,[(0,[]),(1,[]),(2,[]),(4,[]),(5,[]),(7,[]),(8,[]),(9,[]),(3,[9,8,5]),(6,[9,8]),(10,[]),(11,[])]),(27,[(0,[]),(1,[]),(2,[]),(4,[]),(5,[]),(7,[]),(8,[]),(10,[]),(11,[]),(3,[11,8,5]),(6,[11,8]),(9,[11]),(12,[]),(13,[])]),(31,[(0,[]),(1,[]),(2,[]),(4,[]),(5,[]),(7,[]),(8,[]),(9,[]),(11,[]),(12,[]),(13,[]),(3,[13,9,5]),(6,[13,9]),(10,[13]),(14,[]),(15,[])])]),
 (250,[]),
 (251,[]),
 (252,[]),
 (253,[]),
 (254,[]),
 (258,[]),
 (259,[]),
 (260,[]),
 (263,[]),
 (268,[]),
 (269,[]),
 (270,[]),
 (271,[]),
 (273,[]),
 (278,[]),
 (279,[]),
 (286,[]),
 (287,[]),
 (307,[]),
 (308,[]),
 (309,[]),
 (310,[]),
 (311,[]),
 (312,[]),
 (313,[]),
 (314,[])]
def dVl:List Nat:=[3,4,5,6,7,8,9,10,11,12,13,14,15,16,17,18,19,21,22,23,24,26,27,28,29,30,31,32,33,34,35,36,37,38,40,41,42,43,44,45,46,47,48,50,51,52,53,54,55,56,57,58,59,62,64,68,69,70,73,74,75,76,77,78,80,81,82,83,84,85,86,87,88,89,90,91,92,93,94,95,96,97,98,99,100,101,103,104,105,107,108,109,110,111,112,113,114,115,116,117,118,119,120,121,122,123,124,126,127,128,129,130,131,132,133,134,135,136,137,138,139,140,141,142,143,144,145,146,147,148,150,151,152,153,155,156,157,158,159,160,161,162,163,164,165,166,167,168,169,170,171,172,173,174,175,177,178,182,185,186,187,188,189,190,191,192,193,194,195,196,197,198,199,200,201,203,204,205,206,207,208,209,210,211,212,213,214,215,216,217,218,219,220,222,223,224,225,226,227,228,229,231,232,233,236,238,241,242,243,244,245,246,249,250,251,252,253,254,258,260,263,268,271,273,278,279,286,287,307,308,309,310,311,312,313,314]
def dOl:List (Nat×List Nat):=[(235,[0]),(102,[2])]
noncomputable def uN:kQ:=uH prog dSp bCc dVl dOl
end Go.Proofs.YtoaibmbldmckaaaGreat
end
section
namespace Go.Proofs.YtoaibmbldmckaaaGreat
open Go.RowKit Go.AM Tryz
def aSb:iT:=[
 (3,[]),
 (4,[(4,[(0,[]),(2,[]),(1,[2]),(3,[]),(4,[]),(5,[]),(6,[]),(7,[]),(8,[]),(9,[]),(10,[]),(11,[]),(12,[]),(13,[])])]),
 (5,[(10,[(0,[]),(1,[]),(2,[1]),(3,[])])]),
 (6,[(8,[(0,[]),(2,[]),(1,[2]),(3,[]),(4,[]),(5,[]),(6,[]),(7,[]),(8,[]),(9,[]),(10,[]),(11,[]),(12,[]),(13,[]),(14,[]),(15,[])])]),
 (7,[]),
 (8,[(7,[(1,[]),(2,[]),(3,[]),(4,[]),(6,[]),(7,[]),(8,[]),(9,[]),(10,[]),(0,[]),(5,[7]),(11,[]),(12,[])]),(15,[(0,[]),(1,[0]),(2,[0]),(3,[]),(4,[]),(5,[]),(6,[]),(7,[]),(8,[])])]),
 (9,[]),
 (10,[]),
 (11,[]),
 (12,[]),
 (13,[(2,[(0,[]),(2,[]),(1,[2]),(3,[]),(4,[]),(5,[]),(6,[]),(7,[]),(8,[]),(9,[]),(10,[]),(11,[]),(12,[]),(13,[]),(14,[])])]),
 (14,[]),
 (15,[(5,[(0,[]),(1,[]),(2,[0]),(3,[]),(4,[]),(5,[]),(6,[]),(7,[]),(8,[]),(9,[])]),(6,[(0,[]),(1,[]),(2,[0]),(3,[]),(4,[]),(5,[]),(6,[]),(7,[]),(8,[]),(9,[])])]),
 (16,[(3,[(0,[]),(2,[]),(1,[2]),(3,[]),(4,[]),(5,[])]),(4,[(0,[]),(1,[]),(2,[]),(3,[]),(4,[]),(5,[]),(6,[]),(7,[]),(8,[]),(9,[]),(10,[]),(12,[]),(13,[]),(11,[13,12]),(14,[]),(15,[]),(16,[]),(17,[]),(18,[]),(19,[]),(20,[])])]),
 (17,[(32,[(0,[]),(1,[]),(2,[]),(3,[]),(4,[]),(5,[]),(6,[]),(7,[]),(8,[]),(9,[]),(10,[]),(11,[]),(12,[]),(13,[]),(14,[]),(15,[]),(16,[]),(17,[]),(18,[]),(19,[]),(20,[]),(21,[]),(22,[]),(23,[]),(24,[]),(25,[]),(26,[]),(27,[]),(28,[25,23]),(29,[]),(30,[]),(31,[25,23]),(32,[]),(33,[]),(34,[25]),(35,[]),(36,[]),(37,[])])]),
 (18,[])]
theorem aQ2:iC prog aSb=true:=by kernel_rfl
def aSc:iT:=[
 (19,[]),
 (20,[]),
 (21,[]),
 (22,[]),
 (23,[]),
 (24,[]),
 (26,[]),
 (27,[]),
 (28,[]),
 (29,[(7,[(0,[]),(1,[]),(2,[]),(3,[]),(4,[]),(5,[]),(6,[]),(8,[]),(9,[]),(10,[]),(11,[]),(12,[]),(13,[]),(15,[]),(16,[]),(17,[]),(18,[]),(19,[]),(20,[]),(7,[20,16,13,9]),(14,[20,16]),(21,[]),(22,[])]),(12,[(0,[]),(1,[]),(2,[]),(3,[]),(4,[]),(5,[]),(6,[]),(8,[]),(9,[]),(10,[]),(11,[]),(12,[]),(13,[]),(15,[]),(16,[]),(17,[]),(18,[]),(19,[]),(20,[]),(7,[20,16,13,9]),(14,[20,16]),(21,[]),(22,[])]),(18,[(0,[]),(1,[]),(2,[]),(3,[]),(5,[]),(6,[]),(4,[6]),(7,[]),(8,[])]),(19,[(0,[]),(1,[]),(2,[]),(3,[]),(5,[]),(6,[]),(7,[]),(4,[7]),(8,[]),(9,[])]),(25,[(0,[]),(1,[]),(2,[]),(4,[]),(5,[]),(7,[]),(8,[]),(3,[8,5]),(6,[8]),(9,[]),(10,[])]),(30,[(0,[]),(1,[]),(2,[]),(3,[]),(4,[]),(5,[]),(6,[]),(8,[]),(9,[]),(10,[]),(11,[]),(12,[]),(13,[]),(15,[]),(16,[]),(17,[]),(18,[]),(19,[]),(20,[]),(7,[20,16,13,9]),(14,[20,16]),(21,[]),(22,[])])]),
 (30,[]),
 (31,[]),
 (32,[]),
 (33,[(3,[(0,[]),(1,[0]),(2,[]),(3,[])]),(5,[(0,[]),(1,[0]),(2,[]),(3,[])]),(10,[(0,[]),(1,[]),(2,[0]),(3,[]),(4,[])]),(12,[(0,[]),(1,[]),(2,[1]),(3,[])]),(17,[(0,[]),(1,[]),(2,[1]),(3,[])])]),
 (34,[(9,[(1,[]),(2,[]),(4,[]),(5,[]),(6,[]),(0,[]),(3,[5]),(7,[]),(8,[]),(9,[]),(10,[])]),(11,[(0,[]),(1,[]),(2,[]),(3,[]),(4,[]),(5,[2]),(6,[])]),(16,[(0,[]),(1,[]),(2,[1]),(3,[])]),(21,[(0,[]),(1,[]),(2,[1]),(3,[])])]),
 (35,[])]
theorem aQ3:iC prog aSc=true:=by kernel_rfl
def aSd:iT:=[
 (36,[]),
 (37,[]),
 (38,[]),
 (39,[]),
 (40,[]),
 (41,[(10,[(0,[]),(1,[]),(3,[]),(2,[3]),(4,[]),(5,[]),(6,[]),(7,[]),(8,[]),(10,[]),(9,[10]),(11,[]),(12,[]),(13,[])]),(19,[(1,[]),(2,[]),(3,[]),(5,[]),(6,[]),(7,[]),(8,[]),(9,[]),(12,[]),(13,[]),(14,[]),(0,[]),(4,[8,6]),(10,[]),(11,[]),(15,[]),(16,[])])]),
 (42,[]),
 (43,[]),
 (44,[(3,[(0,[]),(1,[0]),(2,[0]),(3,[]),(4,[]),(5,[]),(6,[]),(7,[]),(8,[])]),(4,[(0,[]),(1,[0]),(2,[0]),(3,[]),(4,[]),(5,[]),(6,[]),(7,[]),(8,[])])]),
 (45,[]),
 (46,[]),
 (47,[]),
 (48,[]),
 (50,[]),
 (51,[]),
 (52,[])]
theorem aQ4:iC prog aSd=true:=by kernel_rfl
def aSe:iT:=[
 (53,[]),
 (54,[(7,[(0,[]),(1,[]),(3,[]),(4,[]),(6,[]),(2,[4]),(5,[]),(7,[]),(8,[]),(9,[]),(10,[])])]),
 (55,[]),
 (56,[]),
 (57,[]),
 (58,[]),
 (59,[]),
 (60,[]),
 (61,[]),
 (62,[]),
 (63,[]),
 (64,[]),
 (65,[]),
 (66,[]),
 (67,[]),
 (68,[])]
theorem aQ5:iC prog aSe=true:=by kernel_rfl
def aSf:iT:=[
 (69,[]),
 (70,[]),
 (71,[]),
 (72,[]),
 (73,[]),
 (74,[]),
 (75,[]),
 (76,[]),
 (77,[]),
 (78,[]),
 (79,[]),
 (80,[]),
 (81,[]),
 (82,[]),
 (83,[]),
 (84,[])]
theorem aQ6:iC prog aSf=true:=by kernel_rfl
def aSg:iT:=[
 (85,[]),
 (86,[]),
 (87,[]),
 (88,[]),
 (89,[]),
 (90,[]),
 (91,[]),
 (92,[]),
 (93,[]),
 (94,[]),
 (95,[]),
 (96,[]),
 (97,[]),
 (98,[(1,[(0,[]),(1,[]),(2,[]),(4,[]),(5,[]),(7,[]),(8,[]),(3,[8,5]),(6,[8]),(9,[]),(10,[])])]),
 (99,[]),
 (100,[])]
theorem aQ7:iC prog aSg=true:=by kernel_rfl
def aSh:iT:=[
 (101,[(1,[(0,[]),(1,[]),(2,[]),(4,[]),(5,[]),(7,[]),(8,[]),(3,[8,5]),(6,[8]),(9,[]),(10,[])])]),
 (102,[(9,[(0,[]),(1,[]),(2,[]),(3,[]),(4,[]),(5,[]),(6,[]),(7,[]),(8,[]),(9,[]),(10,[1]),(11,[]),(12,[]),(13,[]),(14,[])])]),
 (103,[]),
 (104,[(2,[(0,[]),(1,[0]),(2,[]),(3,[])]),(5,[(0,[]),(1,[]),(2,[0]),(3,[]),(4,[])]),(9,[(0,[]),(1,[]),(2,[1]),(3,[])])]),
 (105,[]),
 (106,[]),
 (107,[(8,[(0,[]),(1,[]),(2,[]),(3,[]),(4,[]),(5,[]),(6,[]),(7,[]),(8,[5]),(9,[]),(10,[]),(11,[])])]),
 (108,[(5,[(0,[]),(1,[]),(2,[]),(3,[]),(4,[]),(5,[3]),(6,[]),(7,[])]),(12,[(0,[]),(1,[]),(2,[]),(3,[]),(4,[]),(5,[3]),(6,[]),(7,[])]),(15,[(0,[]),(1,[]),(2,[]),(3,[]),(4,[]),(5,[]),(6,[]),(7,[5,3]),(8,[]),(9,[5]),(10,[]),(11,[])])]),
 (109,[]),
 (110,[(33,[(1,[]),(2,[]),(3,[]),(4,[]),(6,[]),(7,[]),(8,[]),(9,[]),(10,[]),(0,[]),(5,[7]),(11,[]),(12,[]),(13,[])]),(44,[(0,[]),(1,[]),(2,[1]),(3,[])])]),
 (111,[(4,[(0,[]),(1,[]),(2,[]),(3,[]),(4,[]),(5,[]),(6,[]),(7,[]),(8,[5]),(9,[]),(10,[]),(11,[])])]),
 (112,[]),
 (113,[]),
 (114,[]),
 (115,[]),
 (116,[])]
theorem aQ8:iC prog aSh=true:=by kernel_rfl
def aSi:iT:=[
 (117,[]),
 (118,[(1,[(0,[]),(1,[]),(2,[]),(3,[]),(4,[]),(5,[]),(6,[]),(7,[]),(8,[]),(9,[]),(10,[]),(11,[]),(12,[]),(13,[]),(14,[]),(15,[]),(16,[]),(17,[]),(18,[]),(19,[]),(20,[15]),(21,[]),(22,[]),(23,[])])]),
 (119,[]),
 (120,[(19,[(0,[]),(1,[]),(2,[]),(3,[]),(4,[]),(5,[]),(6,[]),(7,[]),(8,[]),(9,[]),(10,[]),(11,[]),(12,[]),(13,[]),(15,[]),(16,[]),(17,[]),(18,[]),(19,[]),(14,[19]),(20,[]),(21,[]),(22,[]),(23,[]),(24,[]),(25,[]),(26,[]),(27,[]),(28,[]),(29,[]),(30,[]),(31,[]),(32,[]),(33,[]),(34,[]),(35,[]),(36,[]),(37,[]),(38,[]),(39,[]),(40,[]),(41,[]),(42,[]),(43,[]),(44,[]),(45,[]),(46,[]),(47,[]),(48,[])])]),
 (121,[]),
 (122,[(11,[(1,[]),(2,[]),(3,[]),(5,[]),(6,[]),(7,[]),(8,[]),(9,[]),(10,[]),(13,[]),(14,[]),(15,[]),(0,[]),(4,[9]),(11,[]),(12,[]),(16,[]),(17,[])])]),
 (123,[(1,[(0,[]),(1,[]),(2,[]),(3,[]),(4,[]),(5,[]),(6,[]),(7,[]),(8,[]),(9,[]),(10,[]),(11,[]),(12,[]),(13,[]),(14,[]),(15,[]),(16,[]),(17,[]),(18,[]),(19,[]),(20,[]),(21,[]),(22,[]),(23,[]),(24,[]),(25,[]),(26,[]),(27,[]),(28,[]),(29,[]),(30,[25]),(31,[]),(32,[]),(33,[])])]),
 (124,[(1,[(0,[]),(1,[]),(2,[]),(3,[]),(4,[]),(5,[]),(6,[]),(7,[]),(9,[]),(8,[9]),(10,[]),(11,[]),(12,[]),(13,[])])]),
 (125,[]),
 (126,[]),
 (127,[]),
 (128,[]),
 (129,[]),
 (130,[]),
 (131,[]),
 (132,[])]
theorem aQ9:iC prog aSi=true:=by kernel_rfl
def aSj:iT:=[
 (133,[]),
 (134,[]),
 (135,[]),
 (136,[]),
 (137,[]),
 (138,[]),
 (139,[]),
 (140,[]),
 (141,[]),
 (142,[(5,[(0,[]),(1,[]),(2,[]),(3,[]),(4,[]),(5,[3]),(6,[]),(7,[])]),(14,[(0,[]),(1,[]),(2,[]),(3,[]),(4,[]),(5,[]),(6,[]),(7,[]),(8,[]),(10,[]),(9,[5,2]),(11,[5]),(12,[]),(13,[]),(14,[]),(15,[])]),(17,[(0,[]),(1,[]),(2,[]),(3,[]),(4,[]),(5,[]),(6,[]),(7,[5,3]),(8,[]),(9,[5]),(10,[]),(11,[])]),(24,[(0,[]),(1,[]),(2,[]),(3,[]),(4,[2]),(5,[])])]),
 (143,[(5,[(0,[]),(1,[]),(2,[]),(3,[]),(4,[]),(5,[4]),(6,[])])]),
 (144,[]),
 (145,[]),
 (146,[]),
 (147,[]),
 (148,[])]
theorem aQa:iC prog aSj=true:=by kernel_rfl
def aSk:iT:=[
 (149,[]),
 (150,[]),
 (151,[]),
 (152,[]),
 (153,[]),
 (154,[(10,[(0,[]),(1,[]),(2,[]),(3,[]),(4,[]),(7,[]),(8,[]),(9,[]),(10,[]),(11,[]),(5,[]),(6,[11]),(12,[]),(13,[]),(14,[]),(15,[])])]),
 (155,[]),
 (156,[]),
 (157,[]),
 (158,[]),
 (159,[]),
 (160,[]),
 (161,[(5,[(0,[]),(1,[]),(2,[]),(3,[]),(4,[]),(5,[]),(8,[]),(9,[]),(10,[]),(11,[]),(12,[]),(13,[]),(6,[]),(7,[13]),(14,[]),(15,[]),(16,[]),(17,[])])]),
 (162,[]),
 (163,[]),
 (164,[])]
theorem aQb:iC prog aSk=true:=by kernel_rfl
def aN0:iT:=[
 (165,[]),
 (166,[]),
 (167,[]),
 (168,[]),
 (169,[]),
 (170,[]),
 (171,[]),
 (172,[]),
 (173,[]),
 (174,[]),
 (175,[]),
 (176,[]),
 (177,[]),
 (178,[(17,[(0,[]),(2,[]),(3,[]),(1,[3]),(4,[]),(5,[]),(6,[]),(7,[])])]),
 (179,[]),
 (180,[])]
theorem aL2:iC prog aN0=true:=by kernel_rfl
def aN1:iT:=[
 (181,[]),
 (182,[]),
 (183,[]),
 (184,[]),
 (185,[]),
 (186,[(14,[(1,[]),(2,[]),(3,[]),(5,[]),(6,[]),(7,[]),(10,[]),(11,[]),(12,[]),(0,[]),(4,[]),(8,[]),(9,[]),(13,[]),(14,[]),(15,[])])]),
 (187,[]),
 (188,[]),
 (189,[(13,[(1,[]),(2,[]),(3,[]),(5,[]),(8,[]),(9,[]),(10,[]),(0,[]),(4,[5]),(6,[]),(7,[]),(11,[]),(12,[]),(13,[])])]),
 (190,[(30,[(1,[]),(2,[]),(3,[]),(4,[]),(6,[]),(7,[]),(8,[]),(9,[]),(12,[]),(13,[]),(14,[]),(15,[]),(0,[]),(5,[13,7]),(10,[]),(11,[13]),(16,[]),(17,[]),(18,[])]),(31,[(0,[]),(1,[]),(2,[]),(3,[]),(4,[]),(5,[]),(6,[]),(7,[]),(8,[]),(9,[]),(10,[1]),(11,[]),(12,[]),(13,[]),(14,[]),(15,[]),(16,[]),(17,[])])]),
 (191,[(13,[(1,[]),(2,[]),(4,[]),(5,[]),(6,[]),(7,[]),(8,[]),(9,[]),(10,[]),(11,[]),(12,[]),(13,[]),(0,[]),(3,[12,10,9,5]),(14,[]),(15,[]),(16,[]),(17,[])]),(14,[(0,[]),(1,[]),(2,[]),(3,[]),(4,[]),(5,[3]),(6,[])])]),
 (192,[(12,[(0,[]),(1,[]),(2,[]),(3,[]),(4,[]),(5,[]),(6,[]),(8,[]),(9,[]),(7,[9]),(10,[]),(11,[]),(12,[])]),(22,[(0,[]),(1,[]),(2,[1]),(3,[])])]),
 (193,[]),
 (194,[(3,[(0,[]),(1,[]),(3,[]),(4,[]),(2,[4]),(5,[]),(6,[]),(7,[])])]),
 (195,[]),
 (196,[])]
theorem aL3:iC prog aN1=true:=by kernel_rfl
def aN2:iT:=[
 (197,[]),
 (198,[]),
 (199,[]),
 (200,[]),
 (201,[]),
 (203,[]),
 (204,[]),
 (205,[]),
 (206,[]),
 (207,[(4,[(0,[]),(1,[]),(3,[]),(4,[]),(6,[]),(2,[4]),(5,[]),(7,[]),(8,[]),(9,[]),(10,[])])]),
 (208,[(9,[(0,[]),(1,[]),(2,[]),(3,[]),(4,[]),(5,[]),(6,[3,1]),(7,[]),(8,[]),(9,[]),(10,[])])]),
 (209,[]),
 (210,[]),
 (211,[]),
 (212,[]),
 (213,[])]
theorem aL4:iC prog aN2=true:=by kernel_rfl
def aN3:iT:=[
 (214,[]),
 (215,[(6,[(0,[]),(1,[]),(2,[]),(3,[]),(4,[]),(5,[4]),(6,[])])]),
 (216,[]),
 (217,[]),
 (218,[]),
 (219,[]),
 (220,[]),
 (222,[]),
 (223,[(7,[(0,[]),(1,[]),(2,[]),(3,[]),(4,[1]),(5,[]),(6,[]),(7,[])])]),
 (224,[]),
 (225,[]),
 (226,[(5,[(0,[]),(1,[]),(2,[]),(5,[]),(6,[]),(7,[]),(3,[]),(4,[7]),(8,[]),(9,[]),(10,[]),(11,[])])]),
 (227,[]),
 (228,[]),
 (229,[]),
 (231,[])]
theorem aL5:iC prog aN3=true:=by kernel_rfl
def aN4:iT:=[
 (232,[]),
 (233,[]),
 (235,[]),
 (236,[]),
 (238,[]),
 (239,[]),
 (241,[]),
 (242,[(7,[(0,[]),(1,[]),(2,[]),(3,[]),(4,[]),(5,[]),(6,[]),(7,[]),(8,[]),(9,[]),(10,[]),(11,[]),(12,[]),(14,[]),(13,[14]),(15,[]),(16,[]),(17,[])])]),
 (243,[]),
 (244,[]),
 (245,[]),
 (246,[]),
 (249,[(7,[(0,[]),(1,[]),(2,[]),(4,[]),(5,[]),(3,[5]),(6,[]),(7,[])]),(16,[(0,[]),(1,[]),(2,[]),(3,[]),(5,[]),(6,[]),(7,[]),(9,[]),(10,[]),(11,[]),(4,[11,7]),(8,[11]),(12,[]),(13,[])]),(20,[(0,[]),(1,[]),(2,[]),(4,[]),(5,[]),(7,[]),(8,[]),(9,[]),(3,[9,8,5]),(6,[9,8]),(10,[]),(11,[])]),(27,[(0,[]),(1,[]),(2,[]),(4,[]),(5,[]),(7,[]),(8,[]),(10,[]),(11,[]),(3,[11,8,5]),(6,[11,8]),(9,[11]),(12,[]),(13,[])]),(31,[(0,[]),(1,[]),(2,[]),(4,[]),(5,[]),(7,[]),(8,[]),(9,[]),(11,[]),(12,[]),(13,[]),(3,[13,9,5]),(6,[13,9]),(10,[13]),(14,[]),(15,[])])]),
 (250,[]),
 (251,[]),
 (252,[])]
theorem aL6:iC prog aN4=true:=by kernel_rfl
def aN5:iT:=[
 (253,[]),
 (254,[]),
 (258,[]),
 (259,[]),
 (260,[]),
 (263,[]),
 (268,[]),
 (269,[]),
 (270,[]),
 (271,[]),
 (273,[]),
 (278,[]),
 (279,[]),
 (286,[]),
 (287,[]),
 (307,[])]
theorem aL7:iC prog aN5=true:=by kernel_rfl
def aN6:iT:=[
 (308,[]),
 (309,[]),
 (310,[]),
 (311,[]),
 (312,[]),
 (313,[]),
 (314,[])]
theorem aL8:iC prog aN6=true:=by kernel_rfl
end Go.Proofs.YtoaibmbldmckaaaGreat
end
section
namespace Go.Proofs.YtoaibmbldmckaaaGreat
open Go.AM Tryz
section
noncomputable abbrev C:aK:=W prog uN
abbrev Fv (f:Nat) (args:List V) (v:V):Prop:=Go.AM.Fn prog uN f args v
abbrev Fr (f:Nat) (mk:Nat→List V) (n:Nat) (pre:List V) (v:V) (post:List V):Prop:=Go.AM.FnR prog uN f mk 0 n [pre] v [post]
theorem A2 {p q:Prop} (a:p) (b:q):p∧q:=⟨a,b⟩
abbrev TP:=List (Nat×List bI)
abbrev TL:=List (Nat×List Nat)
abbrev VA (f:Nat) (fn:Func) (tp:TP) (tl:TL):Prop:=∀ {args:List V} {v:V},cloVs args=true→(aD9 prog C fn tp tl args ⟨0,.nil⟩ fun v0 S0=>dS S0 v0=.ok v)→Fv f args v
abbrev VB (f:Nat) (fn:Func) (tp:TP) (tl:TL):Prop:=∀ {args:List V} {S:St} {K:KW},aD9 prog C fn tp tl args S K→C f args S K
abbrev VC (f:Nat) (fn:Func) (tp:TP) (tl:TL) (w:List Nat):Prop:=∀ {args:List V} {S:St} {K:KW},cloVs args=true→(aD9 prog C fn tp tl args ⟨0,.nil⟩ fun v0 S0=>wR (hl (tO w v0 S0 S)) fun r=>K r.1 r.2)→C f args S K
abbrev VT (f:Nat) (fn:Func) (tp:TP) (tl:TL):Prop:=∀ (args:List V) (S:St) (K:KW),cW prog C (eT tp) (iA tl) f args S K=aD9 prog C fn tp tl args S K
section
variable {f:Nat} {fn:Func} {tp:TP} {tl:TL}
theorem va (hp:uN f=some (.val (eT tp))) (hb:aAy prog f=some (aFd fn)):VA f fn tp tl:=fun hc h=>bDr hp hb hc h
theorem vb (hp:uN f=some (.code (eT tp))) (hb:aAy prog f=some (aFd fn)):VB f fn tp tl:=fun h=>bCb hp hb h
theorem vt (hb:aAy prog f=some (aFd fn)):VT f fn tp tl:=fun args S K=>by unfold cW;rw [hb];rfl
theorem vc {w:List Nat} (hp:uN f=some (.own (eT tp) w)) (hb:aAy prog f=some (aFd fn)):VC f fn tp tl w:=fun hc h=>bDo (p:=eT tp) (lv:=iA tl) hp hc (by rw [vt (tp:=tp) (tl:=tl) hb];exact h)
end
theorem v5:VA 5 Tryz.f5 [(10,[(0,[]),(1,[]),(2,[1]),(3,[])])] [(4,[2,5])]:=va (by kernel_rfl) (by kernel_rfl)
theorem v22:VA 22 Tryz.f22 [] []:=va (by kernel_rfl) (by kernel_rfl)
theorem v24:VA 24 Tryz.f24 [] []:=va (by kernel_rfl) (by kernel_rfl)
theorem bK5:uN 24=some (.val (eT [])):=by kernel_rfl
theorem v31:VA 31 Tryz.f31 [] []:=va (by kernel_rfl) (by kernel_rfl)
theorem v32:VA 32 Tryz.f32 [] []:=va (by kernel_rfl) (by kernel_rfl)
theorem v35:VA 35 Tryz.f35 [] [(4,[6,14])]:=va (by kernel_rfl) (by kernel_rfl)
theorem bK6:uN 35=some (.val (eT [])):=by kernel_rfl
theorem v36:VA 36 Tryz.f36 [] []:=va (by kernel_rfl) (by kernel_rfl)
theorem v53:VA 53 Tryz.f53 [] [(4,[4,5])]:=va (by kernel_rfl) (by kernel_rfl)
theorem bK7:uN 53=some (.val (eT [])):=by kernel_rfl
theorem v80:VA 80 Tryz.f80 [] [(4,[4,5])]:=va (by kernel_rfl) (by kernel_rfl)
theorem v81:VA 81 Tryz.f81 [] [(4,[4,5])]:=va (by kernel_rfl) (by kernel_rfl)
theorem v82:VA 82 Tryz.f82 [] [(4,[4,5])]:=va (by kernel_rfl) (by kernel_rfl)
theorem v83:VA 83 Tryz.f83 [] [(4,[4,5])]:=va (by kernel_rfl) (by kernel_rfl)
theorem v84:VA 84 Tryz.f84 [] [(4,[4,5])]:=va (by kernel_rfl) (by kernel_rfl)
theorem v85:VA 85 Tryz.f85 [] [(4,[2,10])]:=va (by kernel_rfl) (by kernel_rfl)
theorem v86:VA 86 Tryz.f86 [] [(4,[2,10])]:=va (by kernel_rfl) (by kernel_rfl)
theorem v87:VA 87 Tryz.f87 [] []:=va (by kernel_rfl) (by kernel_rfl)
theorem v88:VA 88 Tryz.f88 [] [(16,[2,58]),(5,[2,14])]:=va (by kernel_rfl) (by kernel_rfl)
theorem v89:VA 89 Tryz.f89 [] [(13,[2,38]),(3,[2,12])]:=va (by kernel_rfl) (by kernel_rfl)
theorem v90:VA 90 Tryz.f90 [] [(3,[2,3,4,11])]:=va (by kernel_rfl) (by kernel_rfl)
theorem v91:VA 91 Tryz.f91 [] [(4,[4,13])]:=va (by kernel_rfl) (by kernel_rfl)
theorem bK8:VC 102 Tryz.f102 [(9,[(0,[]),(1,[]),(2,[]),(3,[]),(4,[]),(5,[]),(6,[]),(7,[]),(8,[]),(9,[]),(10,[1]),(11,[]),(12,[]),(13,[]),(14,[])])] [(7,[27])] [2]:=vc (by kernel_rfl) (by kernel_rfl)
theorem bK9:VA 103 Tryz.f103 [] []:=va (by kernel_rfl) (by kernel_rfl)
theorem bKa:VA 104 Tryz.f104 [(2,[(0,[]),(1,[0]),(2,[]),(3,[])]),(5,[(0,[]),(1,[]),(2,[0]),(3,[]),(4,[])]),(9,[(0,[]),(1,[]),(2,[1]),(3,[])])] []:=va (by kernel_rfl) (by kernel_rfl)
theorem bDs:uN 104=some (.val (eT [(2,[(0,[]),(1,[0]),(2,[]),(3,[])]),(5,[(0,[]),(1,[]),(2,[0]),(3,[]),(4,[])]),(9,[(0,[]),(1,[]),(2,[1]),(3,[])])])):=by kernel_rfl
theorem bKb:VA 105 Tryz.f105 [] []:=va (by kernel_rfl) (by kernel_rfl)
theorem bKc:VB 106 Tryz.f106 [] []:=vb (by kernel_rfl) (by kernel_rfl)
theorem bKd:VA 107 Tryz.f107 [(8,[(0,[]),(1,[]),(2,[]),(3,[]),(4,[]),(5,[]),(6,[]),(7,[]),(8,[5]),(9,[]),(10,[]),(11,[])])] []:=va (by kernel_rfl) (by kernel_rfl)
theorem bKe:VA 109 Tryz.f109 [] []:=va (by kernel_rfl) (by kernel_rfl)
theorem bKf:VA 110 Tryz.f110 [(33,[(1,[]),(2,[]),(3,[]),(4,[]),(6,[]),(7,[]),(8,[]),(9,[]),(10,[]),(0,[]),(5,[7]),(11,[]),(12,[]),(13,[])]),(44,[(0,[]),(1,[]),(2,[1]),(3,[])])] [(40,[17])]:=va (by kernel_rfl) (by kernel_rfl)
theorem bKg:VA 111 Tryz.f111 [(4,[(0,[]),(1,[]),(2,[]),(3,[]),(4,[]),(5,[]),(6,[]),(7,[]),(8,[5]),(9,[]),(10,[]),(11,[])])] []:=va (by kernel_rfl) (by kernel_rfl)
theorem bKh:VA 112 Tryz.f112 [] []:=va (by kernel_rfl) (by kernel_rfl)
theorem bKi:VA 113 Tryz.f113 [] []:=va (by kernel_rfl) (by kernel_rfl)
theorem bKj:VA 114 Tryz.f114 [] [(4,[2,3])]:=va (by kernel_rfl) (by kernel_rfl)
theorem bKk:VA 115 Tryz.f115 [] [(4,[2,3])]:=va (by kernel_rfl) (by kernel_rfl)
theorem bKl:VA 116 Tryz.f116 [] [(4,[2,3])]:=va (by kernel_rfl) (by kernel_rfl)
theorem bKm:VA 117 Tryz.f117 [] [(2,[4,5])]:=va (by kernel_rfl) (by kernel_rfl)
theorem bKn:VA 118 Tryz.f118 [(1,[(0,[]),(1,[]),(2,[]),(3,[]),(4,[]),(5,[]),(6,[]),(7,[]),(8,[]),(9,[]),(10,[]),(11,[]),(12,[]),(13,[]),(14,[]),(15,[]),(16,[]),(17,[]),(18,[]),(19,[]),(20,[15]),(21,[]),(22,[]),(23,[])])] []:=va (by kernel_rfl) (by kernel_rfl)
theorem bKo:VA 120 Tryz.f120 [(19,[(0,[]),(1,[]),(2,[]),(3,[]),(4,[]),(5,[]),(6,[]),(7,[]),(8,[]),(9,[]),(10,[]),(11,[]),(12,[]),(13,[]),(15,[]),(16,[]),(17,[]),(18,[]),(19,[]),(14,[19]),(20,[]),(21,[]),(22,[]),(23,[]),(24,[]),(25,[]),(26,[]),(27,[]),(28,[]),(29,[]),(30,[]),(31,[]),(32,[]),(33,[]),(34,[]),(35,[]),(36,[]),(37,[]),(38,[]),(39,[]),(40,[]),(41,[]),(42,[]),(43,[]),(44,[]),(45,[]),(46,[]),(47,[]),(48,[])])] [(22,[4,11]),(15,[4,8]),(4,[6,7])]:=va (by kernel_rfl) (by kernel_rfl)
theorem bKp:VA 121 Tryz.f121 [] [(3,[2,3,4,5])]:=va (by kernel_rfl) (by kernel_rfl)
theorem bKq:VA 123 Tryz.f123 [(1,[(0,[]),(1,[]),(2,[]),(3,[]),(4,[]),(5,[]),(6,[]),(7,[]),(8,[]),(9,[]),(10,[]),(11,[]),(12,[]),(13,[]),(14,[]),(15,[]),(16,[]),(17,[]),(18,[]),(19,[]),(20,[]),(21,[]),(22,[]),(23,[]),(24,[]),(25,[]),(26,[]),(27,[]),(28,[]),(29,[]),(30,[25]),(31,[]),(32,[]),(33,[])])] []:=va (by kernel_rfl) (by kernel_rfl)
theorem bKr:VA 124 Tryz.f124 [(1,[(0,[]),(1,[]),(2,[]),(3,[]),(4,[]),(5,[]),(6,[]),(7,[]),(9,[]),(8,[9]),(10,[]),(11,[]),(12,[]),(13,[])])] []:=va (by kernel_rfl) (by kernel_rfl)
theorem bKs:VA 126 Tryz.f126 [] [(6,[4,5])]:=va (by kernel_rfl) (by kernel_rfl)
theorem bKt:VA 127 Tryz.f127 [] []:=va (by kernel_rfl) (by kernel_rfl)
theorem bKu:VA 131 Tryz.f131 [] []:=va (by kernel_rfl) (by kernel_rfl)
theorem bKv:VA 132 Tryz.f132 [] []:=va (by kernel_rfl) (by kernel_rfl)
theorem bDt:uN 152=some (.val (eT [])):=by kernel_rfl
theorem bKw:VT 152 Tryz.f152 [] [(2,[4,8])]:=vt (by kernel_rfl)
theorem bDu:uN 155=some (.val (eT [])):=by kernel_rfl
theorem bKx:VT 155 Tryz.f155 [] [(2,[4,8])]:=vt (by kernel_rfl)
theorem bKy:VA 157 Tryz.f157 [] [(3,[2,3,4,18])]:=va (by kernel_rfl) (by kernel_rfl)
theorem bKz:VA 160 Tryz.f160 [] []:=va (by kernel_rfl) (by kernel_rfl)
theorem bL0:VA 161 Tryz.f161 [(5,[(0,[]),(1,[]),(2,[]),(3,[]),(4,[]),(5,[]),(8,[]),(9,[]),(10,[]),(11,[]),(12,[]),(13,[]),(6,[]),(7,[13]),(14,[]),(15,[]),(16,[]),(17,[])])] [(3,[5,6,7])]:=va (by kernel_rfl) (by kernel_rfl)
theorem bL1:VA 162 Tryz.f162 [] []:=va (by kernel_rfl) (by kernel_rfl)
theorem bL2:VA 163 Tryz.f163 [] []:=va (by kernel_rfl) (by kernel_rfl)
theorem bL3:VA 164 Tryz.f164 [] []:=va (by kernel_rfl) (by kernel_rfl)
theorem bL4:VA 165 Tryz.f165 [] [(4,[2])]:=va (by kernel_rfl) (by kernel_rfl)
theorem bL5:VA 166 Tryz.f166 [] [(5,[2,3,11])]:=va (by kernel_rfl) (by kernel_rfl)
theorem bL6:VA 167 Tryz.f167 [] [(4,[2,20])]:=va (by kernel_rfl) (by kernel_rfl)
theorem bL7:VA 168 Tryz.f168 [] []:=va (by kernel_rfl) (by kernel_rfl)
theorem bDv:uN 168=some (.val (eT [])):=by kernel_rfl
theorem bL8:VA 169 Tryz.f169 [] []:=va (by kernel_rfl) (by kernel_rfl)
theorem bDw:uN 170=some (.val (eT [])):=by kernel_rfl
theorem bL9:VT 170 Tryz.f170 [] []:=vt (by kernel_rfl)
theorem bLa:VA 174 Tryz.f174 [] []:=va (by kernel_rfl) (by kernel_rfl)
theorem bDx:uN 174=some (.val (eT [])):=by kernel_rfl
theorem bLb:VB 176 Tryz.f176 [] []:=vb (by kernel_rfl) (by kernel_rfl)
theorem bLc:VA 177 Tryz.f177 [] []:=va (by kernel_rfl) (by kernel_rfl)
theorem bLd:VA 178 Tryz.f178 [(17,[(0,[]),(2,[]),(3,[]),(1,[3]),(4,[]),(5,[]),(6,[]),(7,[])])] [(8,[4,5,7,20])]:=va (by kernel_rfl) (by kernel_rfl)
theorem bLe:VB 179 Tryz.f179 [] []:=vb (by kernel_rfl) (by kernel_rfl)
theorem bLf:VB 180 Tryz.f180 [] []:=vb (by kernel_rfl) (by kernel_rfl)
theorem bLg:VB 181 Tryz.f181 [] []:=vb (by kernel_rfl) (by kernel_rfl)
theorem bLh:VA 182 Tryz.f182 [] []:=va (by kernel_rfl) (by kernel_rfl)
theorem bLi:VB 183 Tryz.f183 [] []:=vb (by kernel_rfl) (by kernel_rfl)
theorem bLj:VB 184 Tryz.f184 [] [(6,[31])]:=vb (by kernel_rfl) (by kernel_rfl)
theorem bLk:VA 185 Tryz.f185 [] [(2,[4,5])]:=va (by kernel_rfl) (by kernel_rfl)
theorem bDy:uN 185=some (.val (eT [])):=by kernel_rfl
theorem bLl:VA 187 Tryz.f187 [] []:=va (by kernel_rfl) (by kernel_rfl)
theorem bLm:VA 188 Tryz.f188 [] []:=va (by kernel_rfl) (by kernel_rfl)
theorem bLn:VA 191 Tryz.f191 [(13,[(1,[]),(2,[]),(4,[]),(5,[]),(6,[]),(7,[]),(8,[]),(9,[]),(10,[]),(11,[]),(12,[]),(13,[]),(0,[]),(3,[12,10,9,5]),(14,[]),(15,[]),(16,[]),(17,[])]),(14,[(0,[]),(1,[]),(2,[]),(3,[]),(4,[]),(5,[3]),(6,[])])] []:=va (by kernel_rfl) (by kernel_rfl)
theorem bLo:VA 193 Tryz.f193 [] []:=va (by kernel_rfl) (by kernel_rfl)
theorem bLp:VA 194 Tryz.f194 [(3,[(0,[]),(1,[]),(3,[]),(4,[]),(2,[4]),(5,[]),(6,[]),(7,[])])] []:=va (by kernel_rfl) (by kernel_rfl)
theorem bLq:VA 195 Tryz.f195 [] [(4,[2])]:=va (by kernel_rfl) (by kernel_rfl)
theorem bLr:VA 196 Tryz.f196 [] []:=va (by kernel_rfl) (by kernel_rfl)
theorem bLs:VA 197 Tryz.f197 [] [(8,[3,11])]:=va (by kernel_rfl) (by kernel_rfl)
theorem bLt:VA 198 Tryz.f198 [] []:=va (by kernel_rfl) (by kernel_rfl)
theorem bLu:VA 199 Tryz.f199 [] [(2,[2,3])]:=va (by kernel_rfl) (by kernel_rfl)
theorem bLv:VA 200 Tryz.f200 [] [(5,[3,4])]:=va (by kernel_rfl) (by kernel_rfl)
theorem bLw:VA 203 Tryz.f203 [] []:=va (by kernel_rfl) (by kernel_rfl)
theorem bLx:VA 204 Tryz.f204 [] []:=va (by kernel_rfl) (by kernel_rfl)
theorem bLy:VA 217 Tryz.f217 [] []:=va (by kernel_rfl) (by kernel_rfl)
theorem bLz:VA 218 Tryz.f218 [] [(3,[4,5,12])]:=va (by kernel_rfl) (by kernel_rfl)
theorem bDz:uN 218=some (.val (eT [])):=by kernel_rfl
theorem bM0:VA 219 Tryz.f219 [] []:=va (by kernel_rfl) (by kernel_rfl)
theorem bM1:VA 220 Tryz.f220 [] [(2,[2,3])]:=va (by kernel_rfl) (by kernel_rfl)
theorem bM2:VA 222 Tryz.f222 [] []:=va (by kernel_rfl) (by kernel_rfl)
theorem bM3:VA 223 Tryz.f223 [(7,[(0,[]),(1,[]),(2,[]),(3,[]),(4,[1]),(5,[]),(6,[]),(7,[])])] [(3,[5])]:=va (by kernel_rfl) (by kernel_rfl)
theorem bE0:uN 223=some (.val (eT [(7,[(0,[]),(1,[]),(2,[]),(3,[]),(4,[1]),(5,[]),(6,[]),(7,[])])])):=by kernel_rfl
theorem bM4:VA 224 Tryz.f224 [] [(4,[4,5])]:=va (by kernel_rfl) (by kernel_rfl)
theorem bM5:VA 225 Tryz.f225 [] []:=va (by kernel_rfl) (by kernel_rfl)
theorem bM6:VA 226 Tryz.f226 [(5,[(0,[]),(1,[]),(2,[]),(5,[]),(6,[]),(7,[]),(3,[]),(4,[7]),(8,[]),(9,[]),(10,[]),(11,[])])] [(3,[3,4,16])]:=va (by kernel_rfl) (by kernel_rfl)
theorem bE1:uN 227=some (.val (eT [])):=by kernel_rfl
theorem bM7:VT 227 Tryz.f227 [] []:=vt (by kernel_rfl)
theorem bM8:VA 228 Tryz.f228 [] [(6,[3,23])]:=va (by kernel_rfl) (by kernel_rfl)
theorem bM9:VA 229 Tryz.f229 [] []:=va (by kernel_rfl) (by kernel_rfl)
theorem bE2:uN 231=some (.val (eT [])):=by kernel_rfl
theorem bMa:VT 231 Tryz.f231 [] [(2,[4,8])]:=vt (by kernel_rfl)
theorem bE3:uN 232=some (.val (eT [])):=by kernel_rfl
theorem bMb:VT 232 Tryz.f232 [] []:=vt (by kernel_rfl)
theorem bMc:VA 233 Tryz.f233 [] []:=va (by kernel_rfl) (by kernel_rfl)
theorem bMd:VC 235 Tryz.f235 [] [] [0]:=vc (by kernel_rfl) (by kernel_rfl)
theorem bMe:VA 236 Tryz.f236 [] []:=va (by kernel_rfl) (by kernel_rfl)
theorem bMf:VA 238 Tryz.f238 [] [(11,[7,8,36])]:=va (by kernel_rfl) (by kernel_rfl)
theorem bMg:VB 239 Tryz.f239 [] []:=vb (by kernel_rfl) (by kernel_rfl)
theorem bMh:VA 241 Tryz.f241 [] []:=va (by kernel_rfl) (by kernel_rfl)
theorem bMi:VA 242 Tryz.f242 [(7,[(0,[]),(1,[]),(2,[]),(3,[]),(4,[]),(5,[]),(6,[]),(7,[]),(8,[]),(9,[]),(10,[]),(11,[]),(12,[]),(14,[]),(13,[14]),(15,[]),(16,[]),(17,[])])] [(5,[8,9,10])]:=va (by kernel_rfl) (by kernel_rfl)
theorem bMj:VA 243 Tryz.f243 [] []:=va (by kernel_rfl) (by kernel_rfl)
theorem bMk:VA 244 Tryz.f244 [] []:=va (by kernel_rfl) (by kernel_rfl)
theorem bMl:VA 245 Tryz.f245 [] []:=va (by kernel_rfl) (by kernel_rfl)
theorem bMm:VA 246 Tryz.f246 [] []:=va (by kernel_rfl) (by kernel_rfl)
theorem bMn:VA 254 Tryz.f254 [] []:=va (by kernel_rfl) (by kernel_rfl)
theorem bMo:VA 258 Tryz.f258 [] []:=va (by kernel_rfl) (by kernel_rfl)
theorem bE4:VB 259 Tryz.f259 [] [(2,[2,9])]:=vb (by kernel_rfl) (by kernel_rfl)
theorem bMp:VA 260 Tryz.f260 [] [(4,[4,13])]:=va (by kernel_rfl) (by kernel_rfl)
theorem bE5:uN 263=some (.val (eT [])):=by kernel_rfl
theorem bMq:VT 263 Tryz.f263 [] []:=vt (by kernel_rfl)
theorem bMr:VA 268 Tryz.f268 [] []:=va (by kernel_rfl) (by kernel_rfl)
theorem bMs:VA 271 Tryz.f271 [] []:=va (by kernel_rfl) (by kernel_rfl)
theorem bMt:VA 278 Tryz.f278 [] [(5,[8,9,22])]:=va (by kernel_rfl) (by kernel_rfl)
theorem bMu:VA 279 Tryz.f279 [] []:=va (by kernel_rfl) (by kernel_rfl)
theorem bMv:VA 286 Tryz.f286 [] []:=va (by kernel_rfl) (by kernel_rfl)
theorem bMw:VA 287 Tryz.f287 [] []:=va (by kernel_rfl) (by kernel_rfl)
theorem tx0:∀ g:Nat,2≤g→g<247→eI prog g=some none:=by
 have h:((List.range 245).all fun g=>match eI prog (g+2) with
  | some none=>true
  | _=>false)=true:=by kernel_rfl
 intro g h0 h1
 have:=List.all_eq_true.1 h (g - 2) (List.mem_range.2 (by omega))
 rw [Nat.sub_add_cancel h0] at this
 split at this
 ·assumption
 ·cases this
theorem aYt {g:Nat} (h0:1<g) (h1:g<247) (args:List V) (S:St) (K:KW):kX prog C g args S K=C g (hl args) S K:=aDa _ _ (tx0 g h0 h1) _ _ _
theorem tx1:∀ g:Nat,248≤g→g<255→eI prog g=some none:=by
 have h:((List.range 7).all fun g=>match eI prog (g+248) with
  | some none=>true
  | _=>false)=true:=by kernel_rfl
 intro g h0 h1
 have:=List.all_eq_true.1 h (g - 248) (List.mem_range.2 (by omega))
 rw [Nat.sub_add_cancel h0] at this
 split at this
 ·assumption
 ·cases this
theorem aYu {g:Nat} (h0:247<g) (h1:g<255) (args:List V) (S:St) (K:KW):kX prog C g args S K=C g (hl args) S K:=aDa _ _ (tx1 g h0 h1) _ _ _
theorem tx2:∀ g:Nat,257≤g→g<261→eI prog g=some none:=by
 have h:((List.range 4).all fun g=>match eI prog (g+257) with
  | some none=>true
  | _=>false)=true:=by kernel_rfl
 intro g h0 h1
 have:=List.all_eq_true.1 h (g - 257) (List.mem_range.2 (by omega))
 rw [Nat.sub_add_cancel h0] at this
 split at this
 ·assumption
 ·cases this
theorem aYv {g:Nat} (h0:256<g) (h1:g<261) (args:List V) (S:St) (K:KW):kX prog C g args S K=C g (hl args) S K:=aDa _ _ (tx2 g h0 h1) _ _ _
theorem tx3:∀ g:Nat,267≤g→g<288→eI prog g=some none:=by
 have h:((List.range 21).all fun g=>match eI prog (g+267) with
  | some none=>true
  | _=>false)=true:=by kernel_rfl
 intro g h0 h1
 have:=List.all_eq_true.1 h (g - 267) (List.mem_range.2 (by omega))
 rw [Nat.sub_add_cancel h0] at this
 split at this
 ·assumption
 ·cases this
theorem aYw {g:Nat} (h0:266<g) (h1:g<288) (args:List V) (S:St) (K:KW):kX prog C g args S K=C g (hl args) S K:=aDa _ _ (tx3 g h0 h1) _ _ _
theorem aJ7 (args:List V) (S:St) (K:KW):kX prog C 255 args S K=wR (hl (qM Tryz.f255 args)) fun v=>K v S:=by
 unfold kX
 rw [show eI prog 255=some (some Tryz.f255) by kernel_rfl]
 rfl
theorem bE6 (K:V→Prop):wO (aO prog 30) K=K (.agg [.nils,.nils,.nils,.nils,.nils,.int .i64 0]):=congrArg (fun x=>wO x K) (show aO prog 30=some (.agg [.nils,.nils,.nils,.nils,.nils,.int .i64 0]) by kernel_rfl)
theorem bE7 (K:V→Prop):wO (aO prog 48) K=K (.agg [.int .i64 0,.int .i64 0,.int .i64 0]):=congrArg (fun x=>wO x K) (show aO prog 48=some (.agg [.int .i64 0,.int .i64 0,.int .i64 0]) by kernel_rfl)
theorem aYx:tP prog 26=true:=by kernel_rfl
theorem bE8 (K:V→Prop):wO (aO prog 52) K=K (.agg [.int .i64 0,.int .i64 0,.int .i64 0]):=congrArg (fun x=>wO x K) (show aO prog 52=some (.agg [.int .i64 0,.int .i64 0,.int .i64 0]) by kernel_rfl)
theorem aYy:tP prog 22=true:=by kernel_rfl
theorem bE9 (K:V→Prop):wO (aO prog 61) K=K (.agg [.int .i64 0,.int .i64 0,.int .i64 0,.str [],.int .i64 0,.str [],.int .i64 0,.int .i64 0,.int .i64 0,.int .i64 0,.int .i64 0,.int .i64 0,.int .i64 0,.nils,.str [],.int .i64 0,.int .i64 0]):=congrArg (fun x=>wO x K) (show aO prog 61=some (.agg [.int .i64 0,.int .i64 0,.int .i64 0,.str [],.int .i64 0,.str [],.int .i64 0,.int .i64 0,.int .i64 0,.int .i64 0,.int .i64 0,.int .i64 0,.int .i64 0,.nils,.str [],.int .i64 0,.int .i64 0]) by kernel_rfl)
theorem aYz:tP prog 44=true:=by kernel_rfl
theorem aZ0:tP prog 96=true:=by kernel_rfl
theorem aZ1:tP prog 97=true:=by kernel_rfl
theorem bEa (K:V→Prop):wO (aO prog 99) K=K (.agg [.int .i64 0,.int .i64 0,.int .i64 0,.str [],.int .i64 0,.str [],.int .i64 0,.int .i64 0,.int .i64 0,.int .i64 0,.int .i64 0,.int .i64 0,.int .i64 0,.nils,.str [],.int .i64 0,.int .i64 0,.int .i64 0,.int .i64 0,.int .i64 0,.int .i64 0,.int .i64 0,.int .i64 0]):=congrArg (fun x=>wO x K) (show aO prog 99=some (.agg [.int .i64 0,.int .i64 0,.int .i64 0,.str [],.int .i64 0,.str [],.int .i64 0,.int .i64 0,.int .i64 0,.int .i64 0,.int .i64 0,.int .i64 0,.int .i64 0,.nils,.str [],.int .i64 0,.int .i64 0,.int .i64 0,.int .i64 0,.int .i64 0,.int .i64 0,.int .i64 0,.int .i64 0]) by kernel_rfl)
theorem bEb (K:V→Prop):wO (aO prog 54) K=K (.agg [.str [],.int .i64 0,.int .i64 0,.int .i64 0,.int .i64 0]):=congrArg (fun x=>wO x K) (show aO prog 54=some (.agg [.str [],.int .i64 0,.int .i64 0,.int .i64 0,.int .i64 0]) by kernel_rfl)
theorem aZ2:tP prog 24=true:=by kernel_rfl
theorem aZ3 (K:V→Prop):wO (aO prog 126) K=K (.agg [.str [],.int .i64 0,.int .i64 0,.bool false]):=congrArg (fun x=>wO x K) (show aO prog 126=some (.agg [.str [],.int .i64 0,.int .i64 0,.bool false]) by kernel_rfl)
theorem aZ4:tP prog 25=true:=by kernel_rfl
theorem bEc (K:V→Prop):wO (aO prog 84) K=K (.agg [.str [],.int .i64 0,.int .i64 0,.int .i64 0,.int .i64 0,.int .i64 0,.int .i64 0,.int .i64 0,.nils,.str [],.int .i64 0,.bool false]):=congrArg (fun x=>wO x K) (show aO prog 84=some (.agg [.str [],.int .i64 0,.int .i64 0,.int .i64 0,.int .i64 0,.int .i64 0,.int .i64 0,.int .i64 0,.nils,.str [],.int .i64 0,.bool false]) by kernel_rfl)
theorem aZ5 (K:V→Prop):wO (aO prog 145) K=K (.agg [.str [],.int .i64 0,.int .i64 0,.int .i64 0]):=congrArg (fun x=>wO x K) (show aO prog 145=some (.agg [.str [],.int .i64 0,.int .i64 0,.int .i64 0]) by kernel_rfl)
theorem aZ6:tP prog 80=true:=by kernel_rfl
theorem aZ7 (K:V→Prop):wO (aO prog 132) K=K (.agg [.int .i64 0,.int .i64 0,.int .i64 0,.int .i64 0,.int .i64 0]):=congrArg (fun x=>wO x K) (show aO prog 132=some (.agg [.int .i64 0,.int .i64 0,.int .i64 0,.int .i64 0,.int .i64 0]) by kernel_rfl)
theorem aZ8:tP prog 28=true:=by kernel_rfl
theorem aZ9:tP prog 27=true:=by kernel_rfl
theorem bEd (K:V→Prop):wO (aO prog 59) K=K (.agg [.int .i64 0,.str [],.int .i64 0,.str [],.int .i64 0,.int .i64 0,.int .i64 0,.int .i64 0,.int .i64 0,.int .i64 0,.int .i64 0,.nils,.str [],.int .i64 0,.int .i64 0]):=congrArg (fun x=>wO x K) (show aO prog 59=some (.agg [.int .i64 0,.str [],.int .i64 0,.str [],.int .i64 0,.int .i64 0,.int .i64 0,.int .i64 0,.int .i64 0,.int .i64 0,.int .i64 0,.nils,.str [],.int .i64 0,.int .i64 0]) by kernel_rfl)
theorem aZa:tP prog 62=true:=by kernel_rfl
theorem aZb:tP prog 71=true:=by kernel_rfl
theorem aSl:tP prog 102=true:=by kernel_rfl
theorem aZc (K:V→Prop):wO (aO prog 212) K=K (.agg [.nili]):=congrArg (fun x=>wO x K) (show aO prog 212=some (.agg [.nili]) by kernel_rfl)
theorem aZd (K:V→Prop):wO (aO prog 220) K=K (.agg [.int .i64 0,.int .i64 0,.str []]):=congrArg (fun x=>wO x K) (show aO prog 220=some (.agg [.int .i64 0,.int .i64 0,.str []]) by kernel_rfl)
theorem aZe (K:V→Prop):wO (aO prog 232) K=K (.nilp):=congrArg (fun x=>wO x K) (show aO prog 232=some (.nilp) by kernel_rfl)
theorem aZf (K:V→Prop):wO (aO prog 246) K=K (.agg [.int .i64 0,.int .i64 0,.int .i64 0,.int .i64 0,.int .i64 0,.int .i64 0,.int .i64 0,.int .i64 0,.int .i64 0,.int .i64 0,.int .i64 0,.int .i64 0,.int .i64 0,.int .i64 0,.int .i64 0,.int .i64 0,.int .i64 0,.int .i64 0,.int .i64 0,.int .i64 0,.int .i64 0,.int .i64 0,.int .i64 0,.int .i64 0,.int .i64 0,.int .i64 0,.int .i64 0,.int .i64 0,.int .i64 0,.int .i64 0,.int .i64 0,.int .i64 0,.int .i64 0,.int .i64 0,.int .i64 0,.int .i64 0,.int .i64 0,.int .i64 0,.int .i64 0,.int .i64 0]):=congrArg (fun x=>wO x K) (show aO prog 246=some (.agg [.int .i64 0,.int .i64 0,.int .i64 0,.int .i64 0,.int .i64 0,.int .i64 0,.int .i64 0,.int .i64 0,.int .i64 0,.int .i64 0,.int .i64 0,.int .i64 0,.int .i64 0,.int .i64 0,.int .i64 0,.int .i64 0,.int .i64 0,.int .i64 0,.int .i64 0,.int .i64 0,.int .i64 0,.int .i64 0,.int .i64 0,.int .i64 0,.int .i64 0,.int .i64 0,.int .i64 0,.int .i64 0,.int .i64 0,.int .i64 0,.int .i64 0,.int .i64 0,.int .i64 0,.int .i64 0,.int .i64 0,.int .i64 0,.int .i64 0,.int .i64 0,.int .i64 0,.int .i64 0]) by kernel_rfl)
theorem aZg (K:V→Prop):wO (aO prog 249) K=K (.agg [.int .i64 0,.int .i64 0,.int .i64 0,.int .i64 0,.int .i64 0,.int .i64 0,.int .i64 0,.int .i64 0]):=congrArg (fun x=>wO x K) (show aO prog 249=some (.agg [.int .i64 0,.int .i64 0,.int .i64 0,.int .i64 0,.int .i64 0,.int .i64 0,.int .i64 0,.int .i64 0]) by kernel_rfl)
theorem bEe:tP prog 9=true:=by kernel_rfl
theorem aZh:tP prog 55=true:=by kernel_rfl
theorem bEf (K:V→Prop):wO (aO prog 82) K=K (.agg [.int .i64 0,.int .i64 0,.int .i64 0,.nils]):=congrArg (fun x=>wO x K) (show aO prog 82=some (.agg [.int .i64 0,.int .i64 0,.int .i64 0,.nils]) by kernel_rfl)
theorem aZi (K:V→Prop):wO (aO prog 293) K=K (.agg [.str [],.int .i64 0]):=congrArg (fun x=>wO x K) (show aO prog 293=some (.agg [.str [],.int .i64 0]) by kernel_rfl)
theorem aZj (K:V→Prop):wO (aO prog 295) K=K (.agg [.str []]):=congrArg (fun x=>wO x K) (show aO prog 295=some (.agg [.str []]) by kernel_rfl)
theorem aZk (K:V→Prop):wO (aO prog 297) K=K (.agg [.str [],.int .i64 0,.int .i64 0,.int .i64 0,.int .i64 0]):=congrArg (fun x=>wO x K) (show aO prog 297=some (.agg [.str [],.int .i64 0,.int .i64 0,.int .i64 0,.int .i64 0]) by kernel_rfl)
theorem aZl (K:V→Prop):wO (aO prog 301) K=K (.agg [.str [],.int .i64 0,.int .i64 0,.int .i64 0,.nils]):=congrArg (fun x=>wO x K) (show aO prog 301=some (.agg [.str [],.int .i64 0,.int .i64 0,.int .i64 0,.nils]) by kernel_rfl)
theorem aZm (K:V→Prop):wO (aO prog 304) K=K (.agg [.str [],.int .i64 0,.int .i64 0,.int .i64 0,.str [],.int .i64 0]):=congrArg (fun x=>wO x K) (show aO prog 304=some (.agg [.str [],.int .i64 0,.int .i64 0,.int .i64 0,.str [],.int .i64 0]) by kernel_rfl)
theorem aZn (K:V→Prop):wO (aO prog 306) K=K (.agg [.int .i64 0]):=congrArg (fun x=>wO x K) (show aO prog 306=some (.agg [.int .i64 0]) by kernel_rfl)
theorem aZo (K:V→Prop):wO (aO prog 307) K=K (.agg [.str []]):=congrArg (fun x=>wO x K) (show aO prog 307=some (.agg [.str []]) by kernel_rfl)
theorem bEg (K:V→Prop):wO (aO prog 90) K=K (.agg [.str [],.int .i64 0]):=congrArg (fun x=>wO x K) (show aO prog 90=some (.agg [.str [],.int .i64 0]) by kernel_rfl)
theorem rg9:aGy prog 9=true:=by kernel_rfl
theorem aZp (K:V→Prop):wO (aO prog 201) K=K (.agg [.str [],.str [],.int .i64 0,.int .i64 0]):=congrArg (fun x=>wO x K) (show aO prog 201=some (.agg [.str [],.str [],.int .i64 0,.int .i64 0]) by kernel_rfl)
theorem aZq (K:V→Prop):wO (aO prog 346) K=K (.agg [.int .i64 0,.int .u64 0]):=congrArg (fun x=>wO x K) (show aO prog 346=some (.agg [.int .i64 0,.int .u64 0]) by kernel_rfl)
theorem aWp (f:FuncId) {a b:List V} {S T:St} (K:KW) (h:a=b) (g:S=T):C f a S K=C f b T K:=by rw [h,g]
attribute [congr] aWp
theorem cw:type_of% (A2 (aMy prog C) <| A2 (aMv prog C) <| A2 aMz <| A2 aMt <| A2 aMu <| A2 aYs <| A2 (aFb prog C) <| A2 (aFc prog C) <| A2 (aSa prog C) <| A2 @bDp <| A2 @aYm <| A2 @aS0 <| A2 @aYn <| A2 @aS2 <| A2 @aS8 <| A2 @bDq <| A2 @aYp <| A2 @aYq <| A2 @aS4 <| A2 @aYr <| A2 @aS6 <| A2 @aS7 <| A2 @aMx <| A2 @aJ6 <| A2 @aFa <| A2 aFe <| A2 aF8 <| A2 @aYj <| A2 @aYt <| A2 @aYu <| A2 @aYv <| A2 @aYw <| A2 aJ7 <| A2 bE6 <| A2 bE7 <| A2 aYx <| A2 bE8 <| A2 aYy <| A2 bE9 <| A2 aYz <| A2 aZ0 <| A2 aZ1 <| A2 bEa <| A2 bEb <| A2 aZ2 <| A2 aZ3 <| A2 aZ4 <| A2 bEc <| A2 aZ5 <| A2 aZ6 <| A2 aZ7 <| A2 aZ8 <| A2 aZ9 <| A2 bEd <| A2 aZa <| A2 aZb <| A2 aSl <| A2 aZc <| A2 aZd <| A2 aZe <| A2 aZf <| A2 aZg <| A2 bEe <| A2 aZh <| A2 bEf <| A2 aZi <| A2 aZj <| A2 aZk <| A2 aZl <| A2 aZm <| A2 aZn <| A2 aZo <| A2 bEg <| A2 rg9 <| A2 aZp <| aZq):=A2 (aMy prog C) <| A2 (aMv prog C) <| A2 aMz <| A2 aMt <| A2 aMu <| A2 aYs <| A2 (aFb prog C) <| A2 (aFc prog C) <| A2 (aSa prog C) <| A2 @bDp <| A2 @aYm <| A2 @aS0 <| A2 @aYn <| A2 @aS2 <| A2 @aS8 <| A2 @bDq <| A2 @aYp <| A2 @aYq <| A2 @aS4 <| A2 @aYr <| A2 @aS6 <| A2 @aS7 <| A2 @aMx <| A2 @aJ6 <| A2 @aFa <| A2 aFe <| A2 aF8 <| A2 @aYj <| A2 @aYt <| A2 @aYu <| A2 @aYv <| A2 @aYw <| A2 aJ7 <| A2 bE6 <| A2 bE7 <| A2 aYx <| A2 bE8 <| A2 aYy <| A2 bE9 <| A2 aYz <| A2 aZ0 <| A2 aZ1 <| A2 bEa <| A2 bEb <| A2 aZ2 <| A2 aZ3 <| A2 aZ4 <| A2 bEc <| A2 aZ5 <| A2 aZ6 <| A2 aZ7 <| A2 aZ8 <| A2 aZ9 <| A2 bEd <| A2 aZa <| A2 aZb <| A2 aSl <| A2 aZc <| A2 aZd <| A2 aZe <| A2 aZf <| A2 aZg <| A2 bEe <| A2 aZh <| A2 bEf <| A2 aZi <| A2 aZj <| A2 aZk <| A2 aZl <| A2 aZm <| A2 aZn <| A2 aZo <| A2 bEg <| A2 rg9 <| A2 aZp <| aZq
end
def qL (t:TypeId) (p:V) (S:St) (K:V→Prop):Prop:=wR (mH prog t p S) K
def qF (s:TypeId) (p:V) (f:Nat) (K:V→Prop):Prop:=wR (eC prog s p f) K
def qE (s:TypeId) (p:V) (f:Nat) (t:TypeId) (S:St) (K:V→Prop):Prop:=wR (eC prog s p f) fun q=>wR (mH prog t q S) K
def qX (t:TypeId) (v i:V) (K:V→Prop):Prop:=wR (dI prog t v i) K
def qS (t:TypeId) (p x:V) (S:St) (K:St→Prop):Prop:=wR (oX prog t p x S) K
def qZ (t:TypeId) (x:V) (S:St) (K:V→Prop):Prop:=wR (aA2 prog t x S) K
def qB (o:BinOp) (t:TypeId) (x y:V) (K:V→Prop):Prop:=wR (bX prog o t x y) K
def qG (o:BinOp) (t:TypeId) (x y:V) (K:V→Prop):Prop:=nW (cO prog t x y) (wR (bX prog o t x y) K)
def qD (t:TypeId) (l:List (Nat×V)) (K:V→Prop):Prop:=wR (oY prog t l) K
def qP (t:TypeId) (s x:V) (r:Option Nat) (S:St) (K:V×St→Prop):Prop:=wR (gJ prog t s x r S) K
def qQ (t:TypeId) (n:Nat) (l:List (Nat×V)) (r:Option Nat) (S:St) (K:V×St→Prop):Prop:=wR (dA prog t n l r S) K
def qA (a:V) (S:St) (K:Nat×St→Prop):Prop:=nW (aJ a.cells) (wR (bG none S (.row 0 a.cells.length [a.cells])) K)
def qN (S:St) (n:Nat) (c:List V) (K:Nat×St→Prop):Prop:=wR (bG none S (.row 0 n [c])) K
def pt (r:Nat×St):V:=.ptr r.1 0 0 0
def up (S:St) (n:Nat):St:=⟨S.next+n,S.heap⟩
def jI (n:Int):V:=.int .i64 n
theorem sf:(∀ (t:TypeId) (p:V) (S:St) (K:V→Prop),qL t p S K=(wR (mH prog t p S) K))∧(∀ (s:TypeId) (p:V) (f:Nat) (K:V→Prop),qF s p f K=(wR (eC prog s p f) K))∧(∀ (s:TypeId) (p:V) (f:Nat) (t:TypeId) (S:St) (K:V→Prop),qE s p f t S K=(wR (eC prog s p f) fun q=>wR (mH prog t q S) K))∧(∀ (t:TypeId) (v i:V) (K:V→Prop),qX t v i K=(wR (dI prog t v i) K))∧(∀ (t:TypeId) (p x:V) (S:St) (K:St→Prop),qS t p x S K=(wR (oX prog t p x S) K))∧(∀ (t:TypeId) (x:V) (S:St) (K:V→Prop),qZ t x S K=(wR (aA2 prog t x S) K))∧(∀ (o:BinOp) (t:TypeId) (x y:V) (K:V→Prop),qB o t x y K=(wR (bX prog o t x y) K))∧(∀ (o:BinOp) (t:TypeId) (x y:V) (K:V→Prop),qG o t x y K=(nW (cO prog t x y) (wR (bX prog o t x y) K)))∧(∀ (t:TypeId) (l:List (Nat×V)) (K:V→Prop),qD t l K=(wR (oY prog t l) K))∧(∀ (t:TypeId) (s x:V) (r:Option Nat) (S:St) (K:V×St→Prop),qP t s x r S K=(wR (gJ prog t s x r S) K))∧(∀ (t:TypeId) (n:Nat) (l:List (Nat×V)) (r:Option Nat) (S:St) (K:V×St→Prop),qQ t n l r S K=(wR (dA prog t n l r S) K))∧(∀ (a:V) (S:St) (K:Nat×St→Prop),qA a S K=(nW (aJ a.cells) (wR (bG none S (.row 0 a.cells.length [a.cells])) K)))∧(∀ (S:St) (n:Nat) (c:List V) (K:Nat×St→Prop),qN S n c K=(wR (bG none S (.row 0 n [c])) K))∧(∀ (r:Nat×St),pt r=.ptr r.1 0 0 0)∧(∀ (S:St) (n:Nat),up S n=⟨S.next+n,S.heap⟩)∧(∀ (n:Int),jI n=.int .i64 n):=⟨fun _ _ _ _=>rfl,fun _ _ _ _=>rfl,fun _ _ _ _ _ _=>rfl,fun _ _ _ _=>rfl,fun _ _ _ _ _=>rfl,fun _ _ _ _=>rfl,fun _ _ _ _ _=>rfl,fun _ _ _ _ _=>rfl,fun _ _ _=>rfl,fun _ _ _ _ _ _=>rfl,fun _ _ _ _ _ _=>rfl,fun _ _ _=>rfl,fun _ _ _ _=>rfl,fun _=>rfl,fun _ _=>rfl,fun _=>rfl⟩
abbrev aL9:Nat→Option (List bI):=eT []
abbrev aLa:Nat→List Nat:=iA [(2,[10])]
abbrev aLb:Nat→Option (List bI):=eT []
abbrev aLc:Nat→List Nat:=iA [(3,[3,16])]
abbrev aN7:Nat→Option (List bI):=eT [(3,[(0,[]),(1,[0]),(2,[]),(3,[])]),(5,[(0,[]),(1,[0]),(2,[]),(3,[])]),(10,[(0,[]),(1,[]),(2,[0]),(3,[]),(4,[])]),(12,[(0,[]),(1,[]),(2,[1]),(3,[])]),(17,[(0,[]),(1,[]),(2,[1]),(3,[])])]
abbrev aSm:Nat→List Nat:=iA []
abbrev aSn:Nat→Option (List bI):=eT []
abbrev aSo:Nat→List Nat:=iA [(3,[5,6])]
abbrev aLd:Nat→Option (List bI):=eT [(13,[(1,[]),(2,[]),(3,[]),(5,[]),(8,[]),(9,[]),(10,[]),(0,[]),(4,[5]),(6,[]),(7,[]),(11,[]),(12,[]),(13,[])])]
abbrev aLe:Nat→List Nat:=iA [(7,[7])]
abbrev aLf:Nat→Option (List bI):=eT [(14,[(1,[]),(2,[]),(3,[]),(5,[]),(6,[]),(7,[]),(10,[]),(11,[]),(12,[]),(0,[]),(4,[]),(8,[]),(9,[]),(13,[]),(14,[]),(15,[])])]
abbrev aLg:Nat→List Nat:=iA [(12,[8])]
abbrev aLh:Nat→Option (List bI):=eT []
abbrev aLi:Nat→List Nat:=iA [(4,[2,3])]
abbrev aH4:Nat→Option (List bI):=eT [(11,[(1,[]),(2,[]),(3,[]),(5,[]),(6,[]),(7,[]),(8,[]),(9,[]),(10,[]),(13,[]),(14,[]),(15,[]),(0,[]),(4,[9]),(11,[]),(12,[]),(16,[]),(17,[])])]
abbrev aLj:Nat→List Nat:=iA [(8,[8]),(5,[4,5,6,7])]
abbrev aLk:Nat→Option (List bI):=eT [(30,[(1,[]),(2,[]),(3,[]),(4,[]),(6,[]),(7,[]),(8,[]),(9,[]),(12,[]),(13,[]),(14,[]),(15,[]),(0,[]),(5,[13,7]),(10,[]),(11,[13]),(16,[]),(17,[]),(18,[])]),(31,[(0,[]),(1,[]),(2,[]),(3,[]),(4,[]),(5,[]),(6,[]),(7,[]),(8,[]),(9,[]),(10,[1]),(11,[]),(12,[]),(13,[]),(14,[]),(15,[]),(16,[]),(17,[])])]
abbrev aLl:Nat→List Nat:=iA [(35,[7,16]),(27,[15]),(11,[7,9])]
abbrev aSp:Nat→Option (List bI):=eT []
abbrev aSq:Nat→List Nat:=iA [(30,[2,12]),(23,[2,11]),(9,[2,5,6])]
abbrev aLm:Nat→Option (List bI):=eT []
abbrev aLn:Nat→List Nat:=iA [(8,[6])]
abbrev aLo:Nat→Option (List bI):=eT [(12,[(0,[]),(1,[]),(2,[]),(3,[]),(4,[]),(5,[]),(6,[]),(8,[]),(9,[]),(7,[9]),(10,[]),(11,[]),(12,[])]),(22,[(0,[]),(1,[]),(2,[1]),(3,[])])]
abbrev aLp:Nat→List Nat:=iA [(3,[6,7])]
abbrev aLq:Nat→Option (List bI):=eT [(5,[(0,[]),(1,[]),(2,[]),(3,[]),(4,[]),(5,[3]),(6,[]),(7,[])]),(12,[(0,[]),(1,[]),(2,[]),(3,[]),(4,[]),(5,[3]),(6,[]),(7,[])]),(15,[(0,[]),(1,[]),(2,[]),(3,[]),(4,[]),(5,[]),(6,[]),(7,[5,3]),(8,[]),(9,[5]),(10,[]),(11,[])])]
abbrev aLr:Nat→List Nat:=iA []
abbrev aSr:Nat→Option (List bI):=eT [(9,[(1,[]),(2,[]),(4,[]),(5,[]),(6,[]),(0,[]),(3,[5]),(7,[]),(8,[]),(9,[]),(10,[])]),(11,[(0,[]),(1,[]),(2,[]),(3,[]),(4,[]),(5,[2]),(6,[])]),(16,[(0,[]),(1,[]),(2,[1]),(3,[])]),(21,[(0,[]),(1,[]),(2,[1]),(3,[])])]
abbrev aSs:Nat→List Nat:=iA []
abbrev aLs:Nat→Option (List bI):=eT []
abbrev aLt:Nat→List Nat:=iA [(12,[8])]
abbrev aH5:Nat→Option (List bI):=eT []
abbrev aLu:Nat→List Nat:=iA [(8,[9]),(5,[4,5,6,19])]
def aH6 (C:aK) (K:KW) (again0:List V→St→Prop) (p0 p1 p5 p6 p7:V) (S:St):Prop:=
qL 61 p7 S fun t7=>
qQ 44 1 [(0,t7)] none S fun r8=>
qP 44 p5 r8.1 none r8.2 fun r9=>
qB .add 3 p6 (jI 1) fun t10=>
again0 [r9.1,t10] r9.2
def aH7 (C:aK) (K:KW) (p0 p1:V) (vs:List V) (S:St) (again0:List V→St→Prop):Prop:=
qH vs fun x5 vs=>
qH vs fun x6 vs=>
qZ 44 p0 S fun t0=>
qB .lss 3 x6 t0 fun t1=>
aH t1 (qB .lss 3 x6 p1 fun t2=>
aH t2 (qX 44 p0 x6 fun t3=>
qL 61 t3 S fun t4=>
qN S 17 [jI 0,jI 0,jI 0,.str [],jI 0,.str [],jI 0,jI 0,jI 0,jI 0,jI 0,jI 0,jI 0,.nils,.str [],jI 0,jI 0] fun r5=>
qS 61 (pt r5) t4 r5.2 fun S6=>
qF 61 (pt r5) 2 fun t11=>
qE 59 t11 5 55 S6 fun t13=>
qZ 55 t13 S6 fun t14=>
qB .gtr 3 t14 (jI 15) fun t15=>
aH t15 (qF 61 (pt r5) 2 fun t16=>
qE 59 t16 5 55 S6 fun t18=>
wR (dF prog 55 t18 none (some (jI 15))) fun t19=>
qF 61 (pt r5) 2 fun t20=>
qF 59 t20 5 fun t21=>
qS 55 t21 t19 S6 fun S22=>
aH6 C K again0 p0 p1 x5 x6 (pt r5) S22) (aH6 C K again0 p0 p1 x5 x6 (pt r5) S6)) (K x5 S)) (K x5 S)
def m30 (C:aK) (a0 a1:V) (S:St) (K:KW):Prop:=
gG [(.nils),(jI 0)] S (aH7 C K a0 a1)
theorem bCd:(fun (C:aK) (a0 a1:V) (S:St) (K:KW)=>cW prog C aSn aSo 30 [a0,a1] S K)=fun C a0 a1 S K=>m30 C a0 a1 S K:=by kernel_rfl
theorem t30 (C:aK) (a0 a1:V) (S:St) (K:KW):cW prog C aSn aSo 30 [a0,a1] S K=m30 C a0 a1 S K:=congrFun (congrFun (congrFun (congrFun (congrFun bCd C) a0) a1) S) K
theorem v30 {a0 a1:V} {v:V} (hc:cloVs [a0,a1]=true) (h:m30 C a0 a1 ⟨0,.nil⟩ fun v0 S0=>dS S0 v0=.ok v):Fv 30 [a0,a1] v:=Go.AM.Fn.of (p:=aSn) (lv:=aSo) (by kernel_rfl) hc (by rw [t30];exact h)
def aH8 (C:aK) (K:KW) (p2 p4 p5 p9:V) (S:St):Prop:=
qL 30 p2 (up S 4) fun t76=>
qL 48 p9 (up S 4) fun t77=>
qS 30 p4 t76 (up S 4) fun S78=>
qL 48 p9 S78 fun t79=>
nW (dO t77 t79) (qS 48 p5 t77 S78 fun S80=>
qL 30 p4 S80 fun t81=>
qL 48 p5 S80 fun t82=>
K (.tup [t81,t82]) S80)
def aDb (C:aK) (K:KW) (p2 p3 p4 p5 p28:V) (S:St):Prop:=
aH p28 (qL 30 p2 (up S 4) fun t20=>
C 103 [(jI 17)] (up S 4) fun t21 S22=>
qL 30 p2 S22 fun t23=>
nW (dO t20 t23) (qS 30 p4 t20 S22 fun S24=>
qS 48 p5 t21 S24 fun S25=>
qL 30 p4 S25 fun t26=>
qL 48 p5 S25 fun t27=>
K (.tup [t26,t27]) S25)) (qF 61 p3 2 fun t28=>
qE 59 t28 0 3 S fun t30=>
(qG .eql 3 t30 (jI 6) fun t31=>
aH t31 (qL 30 p2 S fun t32=>
C 104 [t32] S fun t33 S34=>
cG t33 0 fun t35=>
cG t33 1 fun t36=>
qS 30 p4 t35 S34 fun S37=>
qS 48 p5 t36 S37 fun S38=>
qL 30 p4 S38 fun t39=>
qL 48 p5 S38 fun t40=>
K (.tup [t39,t40]) S38) (qE 30 p2 4 28 S fun t42=>
qE 61 p3 0 3 S fun t44=>
qE 61 p3 1 3 S fun t46=>
C 105 [t42,t44,t46] S fun t47 S48=>
cG t47 0 fun t49=>
cG t47 1 fun t50=>
cG t47 2 fun t51=>
qN S48 3 [jI 0,jI 0,jI 0] fun r52=>
qS 48 (pt r52) t49 r52.2 fun S53=>
(qG .neq 31 t51 (jI 0) fun t54=>
aH t54 (qL 30 p2 (up S53 5) fun t55=>
C 103 [t51] (up S53 5) fun t56 S57=>
qL 30 p2 S57 fun t58=>
nW (dO t55 t58) (qS 30 p4 t55 S57 fun S59=>
qS 48 p5 t56 S59 fun S60=>
qL 30 p4 S60 fun t61=>
qL 48 p5 S60 fun t62=>
K (.tup [t61,t62]) S60)) (aH t50 (qL 30 p2 (up S53 4) fun t63=>
qL 48 (pt r52) (up S53 4) fun t64=>
qS 30 p4 t63 (up S53 4) fun S65=>
qL 48 (pt r52) S65 fun t66=>
nW (dO t64 t66) (qS 48 p5 t64 S65 fun S67=>
qL 30 p4 S67 fun t68=>
qL 48 p5 S67 fun t69=>
K (.tup [t68,t69]) S67)) (qE 61 p3 2 59 S53 fun t71=>
C 106 [p2,t71] S53 fun t72 S73=>
qN S73 3 [jI 0,jI 0,jI 0] fun r74=>
qS 48 (pt r74) t72 r74.2 fun S75=>
qE 30 p2 4 28 S75 fun t84=>
qE 61 p3 0 3 S75 fun t86=>
qE 61 p3 1 3 S75 fun t88=>
qL 48 (pt r74) S75 fun t89=>
C 107 [t84,t86,t88,t89] S75 fun t90 S91=>
cG t90 0 fun t92=>
cG t90 1 fun t93=>
(qG .eql 31 t93 (jI 0) fun t94=>
aH t94 (qF 30 p2 4 fun t95=>
qS 28 t95 t92 S91 fun S96=>
aH8 C K p2 p4 p5 (pt r74) S96) (aH8 C K p2 p4 p5 (pt r74) S91))))))))
def m33 (C:aK) (a0 a1:V) (S:St) (K:KW):Prop:=
(qA a0 S fun r0=>
(qA a1 r0.2 fun r1=>
qN r1.2 6 [.nils,.nils,.nils,.nils,.nils,jI 0] fun r2=>
qN r2.2 3 [jI 0,jI 0,jI 0] fun r3=>
qL 30 (pt r0) r3.2 fun t4=>
C 102 [t4] r3.2 fun t5 S6=>
qS 30 (pt r0) t5 S6 fun S7=>
qL 30 (pt r0) S7 fun t8=>
C 24 [t8] S7 fun t9 S10=>
wR (vD .not t9) fun t11=>
aH t11 (qL 30 (pt r0) (up S10 4) fun t12=>
C 103 [(jI 1)] (up S10 4) fun t13 S14=>
qL 30 (pt r0) S14 fun t15=>
nW (dO t12 t15) (qS 30 (pt r2) t12 S14 fun S16=>
qS 48 (pt r3) t13 S16 fun S17=>
qL 30 (pt r2) S17 fun t18=>
qL 48 (pt r3) S17 fun t19=>
K (.tup [t18,t19]) S17)) (qF 61 (pt r1) 2 fun t97=>
qE 59 t97 0 3 S10 fun t99=>
qB .lss 3 t99 (jI 1) fun t100=>
aH t100 (aDb C K (pt r0) (pt r1) (pt r2) (pt r3) (.bool true) S10) (qF 61 (pt r1) 2 fun t101=>
qE 59 t101 0 3 S10 fun t103=>
qB .gtr 3 t103 (jI 8) fun t104=>
aDb C K (pt r0) (pt r1) (pt r2) (pt r3) t104 S10))))
theorem bCe:(fun (C:aK) (a0 a1:V) (S:St) (K:KW)=>cW prog C aN7 aSm 33 [a0,a1] S K)=fun C a0 a1 S K=>m33 C a0 a1 S K:=by kernel_rfl
theorem t33 (C:aK) (a0 a1:V) (S:St) (K:KW):cW prog C aN7 aSm 33 [a0,a1] S K=m33 C a0 a1 S K:=congrFun (congrFun (congrFun (congrFun (congrFun bCe C) a0) a1) S) K
theorem v33 {a0 a1:V} {v:V} (hc:cloVs [a0,a1]=true) (h:m33 C a0 a1 ⟨0,.nil⟩ fun v0 S0=>dS S0 v0=.ok v):Fv 33 [a0,a1] v:=Go.AM.Fn.of (p:=aN7) (lv:=aSm) (by kernel_rfl) hc (by rw [t33];exact h)
theorem bMx:uN 33=some (.val aN7):=by kernel_rfl
def aDc (C:aK) (K:KW) (p2 p3 p4 p5 p6 p38:V) (S:St):Prop:=
aH p38 (qL 30 p2 S fun t32=>
qD 48 [(0,(jI 14))] fun t33=>
qS 30 p4 t32 S fun S34=>
qS 48 p5 t33 S34 fun S35=>
qL 30 p4 S35 fun t36=>
qL 48 p5 S35 fun t37=>
K (.tup [t36,t37]) S35) (qE 30 p2 4 28 (up S 11) fun t39=>
qF 30 p2 5 fun t40=>
qL 3 t40 (up S 11) fun t41=>
qD 132 [(0,t41)] fun t42=>
qQ 28 0 [] (some (S.next+0)) (up S 11) fun r43=>
qP 28 r43.1 t39 (some (S.next+3)) r43.2 fun r44=>
qL 3 t40 r44.2 fun t45=>
nW (dO t41 t45) (qQ 28 1 [(0,t42)] (some (S.next+7)) r44.2 fun r46=>
qP 28 r44.1 r46.1 (some (S.next+8)) r46.2 fun r47=>
qF 30 p2 4 fun t48=>
qS 28 t48 r47.1 r47.2 fun S49=>
qE 30 p2 5 3 S49 fun t51=>
qB .add 3 t51 (jI 1) fun t52=>
qF 30 p2 5 fun t53=>
qS 3 t53 t52 S49 fun S54=>
qL 30 p2 (up S54 7) fun t55=>
qF 30 p2 5 fun t56=>
qL 3 t56 (up S54 7) fun t57=>
qB .sub 3 t57 (jI 1) fun t58=>
qD 48 [(1,t58)] fun t59=>
qS 30 p4 t55 (up S54 7) fun S60=>
qL 3 t56 S60 fun t61=>
nW (dO t57 t61) (qS 48 p5 t59 S60 fun S62=>
qL 30 p4 S62 fun t63=>
qL 48 p5 S62 fun t64=>
K (.tup [t63,t64]) S62)))
def aH9 (C:aK) (K:KW) (p3 p4 p5 p9 p11:V) (S:St):Prop:=
qE 30 p11 4 28 S fun t110=>
qE 61 p3 0 3 S fun t112=>
qE 61 p3 1 3 S fun t114=>
qL 48 p9 S fun t115=>
C 111 [t110,t112,t114,t115] S fun t116 S117=>
qF 30 p11 4 fun t118=>
qS 28 t118 t116 S117 fun S119=>
qL 30 p11 (up S119 4) fun t120=>
qL 48 p9 (up S119 4) fun t121=>
qS 30 p4 t120 (up S119 4) fun S122=>
qL 48 p9 S122 fun t123=>
nW (dO t121 t123) (qS 48 p5 t121 S122 fun S124=>
qL 30 p4 S124 fun t125=>
qL 48 p5 S124 fun t126=>
K (.tup [t125,t126]) S124)
def m34 (C:aK) (a0 a1:V) (S:St) (K:KW):Prop:=
(qA a0 S fun r0=>
(qA a1 r0.2 fun r1=>
qN r1.2 6 [.nils,.nils,.nils,.nils,.nils,jI 0] fun r2=>
qN r2.2 3 [jI 0,jI 0,jI 0] fun r3=>
qL 30 (pt r0) r3.2 fun t4=>
C 38 [t4] r3.2 fun t5 S6=>
wR (vD .not t5) fun t7=>
aH t7 (qL 30 (pt r0) S6 fun t8=>
qD 48 [(0,(jI 1))] fun t9=>
qS 30 (pt r2) t8 S6 fun S10=>
qS 48 (pt r3) t9 S10 fun S11=>
qL 30 (pt r2) S11 fun t12=>
qL 48 (pt r3) S11 fun t13=>
K (.tup [t12,t13]) S11) (qE 61 (pt r1) 2 59 S6 fun t15=>
C 108 [t15] S6 fun t16 S17=>
cG t16 0 fun t18=>
cG t16 1 fun t19=>
qN S17 15 [jI 0,.str [],jI 0,.str [],jI 0,jI 0,jI 0,jI 0,jI 0,jI 0,jI 0,.nils,.str [],jI 0,jI 0] fun r20=>
qS 59 (pt r20) t18 r20.2 fun S21=>
wR (vD .not t19) fun t22=>
aH t22 (qL 30 (pt r0) S21 fun t23=>
qD 48 [(0,(jI 17))] fun t24=>
qS 30 (pt r2) t23 S21 fun S25=>
qS 48 (pt r3) t24 S25 fun S26=>
qL 30 (pt r2) S26 fun t27=>
qL 48 (pt r3) S26 fun t28=>
K (.tup [t27,t28]) S26) (qE 59 (pt r20) 0 3 S21 fun t30=>
(qG .eql 3 t30 (jI 6) fun t31=>
aH t31 (qE 30 (pt r0) 4 28 S21 fun t66=>
qZ 28 t66 S21 fun t67=>
qB .geq 3 t67 (jI 8) fun t68=>
aH t68 (aDc C K (pt r0) (pt r1) (pt r2) (pt r3) (pt r20) (.bool true) S21) (qE 30 (pt r0) 5 3 S21 fun t70=>
qB .geq 3 t70 (jI 1099511627776) fun t71=>
aDc C K (pt r0) (pt r1) (pt r2) (pt r3) (pt r20) t71 S21)) (qE 30 (pt r0) 4 28 S21 fun t73=>
qE 61 (pt r1) 0 3 S21 fun t75=>
qE 61 (pt r1) 1 3 S21 fun t77=>
C 109 [t73,t75,t77] S21 fun t78 S79=>
cG t78 0 fun t80=>
cG t78 1 fun t81=>
cG t78 2 fun t82=>
qN S79 3 [jI 0,jI 0,jI 0] fun r83=>
qS 48 (pt r83) t81 r83.2 fun S84=>
(qG .neq 3 t82 (jI 0) fun t85=>
aH t85 (qL 30 (pt r0) S84 fun t86=>
qD 48 [(0,t82)] fun t87=>
qS 30 (pt r2) t86 S84 fun S88=>
qS 48 (pt r3) t87 S88 fun S89=>
qL 30 (pt r2) S89 fun t90=>
qL 48 (pt r3) S89 fun t91=>
K (.tup [t90,t91]) S89) ((qG .eql 3 t80 (jI 1) fun t92=>
aH t92 (qL 30 (pt r0) (up S84 4) fun t93=>
qL 48 (pt r83) (up S84 4) fun t94=>
qS 30 (pt r2) t93 (up S84 4) fun S95=>
qL 48 (pt r83) S95 fun t96=>
nW (dO t94 t96) (qS 48 (pt r3) t94 S95 fun S97=>
qL 30 (pt r2) S97 fun t98=>
qL 48 (pt r3) S97 fun t99=>
K (.tup [t98,t99]) S97)) (qL 30 (pt r0) S84 fun t100=>
qL 59 (pt r20) S84 fun t101=>
C 110 [t100,t101] S84 fun t102 S103=>
cG t102 0 fun t104=>
cG t102 1 fun t105=>
qN S103 6 [.nils,.nils,.nils,.nils,.nils,jI 0] fun r106=>
qS 30 (pt r106) t104 r106.2 fun S107=>
qS 48 (pt r83) t105 S107 fun S108=>
qE 48 (pt r83) 0 31 S108 fun t128=>
(qG .neq 31 t128 (jI 0) fun t129=>
aH t129 (qL 30 (pt r0) S108 fun t130=>
qS 30 (pt r106) t130 S108 fun S131=>
aH9 C K (pt r1) (pt r2) (pt r3) (pt r83) (pt r106) S131) (aH9 C K (pt r1) (pt r2) (pt r3) (pt r83) (pt r106) S108))))))))))))
theorem bCf:(fun (C:aK) (a0 a1:V) (S:St) (K:KW)=>cW prog C aSr aSs 34 [a0,a1] S K)=fun C a0 a1 S K=>m34 C a0 a1 S K:=by kernel_rfl
theorem t34 (C:aK) (a0 a1:V) (S:St) (K:KW):cW prog C aSr aSs 34 [a0,a1] S K=m34 C a0 a1 S K:=congrFun (congrFun (congrFun (congrFun (congrFun bCf C) a0) a1) S) K
theorem v34 {a0 a1:V} {v:V} (hc:cloVs [a0,a1]=true) (h:m34 C a0 a1 ⟨0,.nil⟩ fun v0 S0=>dS S0 v0=.ok v):Fv 34 [a0,a1] v:=Go.AM.Fn.of (p:=aSr) (lv:=aSs) (by kernel_rfl) hc (by rw [t34];exact h)
def aLv (C:aK) (K:KW) (p1 p5:V) (vs:List V) (S:St) (again2:List V→St→Prop):Prop:=
qH vs fun x2 vs=>
qH vs fun x12 vs=>
qZ 27 p5 S fun t105=>
qB .lss 3 x12 t105 fun t106=>
aH t106 (qX 27 p5 x12 fun t107=>
qL 90 t107 (up S 10) fun t108=>
qE 30 p1 3 27 (up S 10) fun t110=>
qX 27 t110 x12 fun t111=>
qL 90 t111 (up S 10) fun t112=>
(qG .neq 90 t108 t112 fun t113=>
aH t113 (K (.bool false) (up S 10)) (qB .add 3 x12 (jI 1) fun t114=>
again2 [x2,t114] (up S 10)))) (K (.bool true) S)
def aLw (C:aK) (K:KW) (p1 p4 p5:V) (vs:List V) (S:St) (again1:List V→St→Prop):Prop:=
qH vs fun x2 vs=>
qH vs fun x11 vs=>
qZ 96 p4 S fun t88=>
qB .lss 3 x11 t88 fun t89=>
aH t89 (qX 96 p4 x11 fun t90=>
qL 3 t90 (up S 12) fun t91=>
qE 30 p1 1 25 (up S 12) fun t93=>
qX 25 t93 x11 fun t94=>
qE 126 t94 1 3 (up S 12) fun t96=>
qB .sub 3 t96 (jI 1) fun t97=>
(qG .neq 3 t91 t97 fun t98=>
aH t98 (K (.bool false) (up S 12)) (qB .add 3 x11 (jI 1) fun t99=>
again1 [x2,t99] (up S 12)))) (qZ 27 p5 S fun t100=>
qE 30 p1 3 27 S fun t102=>
qZ 27 t102 S fun t103=>
(qG .neq 3 t100 t103 fun t104=>
aH t104 (K (.bool false) S) (gG [x2,(jI 0)] S (aLv C K p1 p5))))
def aLx (C:aK) (K:KW) (p1 p4:V) (vs:List V) (S:St) (again0:List V→St→Prop):Prop:=
qH vs fun x2 vs=>
qH vs fun x5 vs=>
qH vs fun x6 vs=>
qE 30 p1 2 26 S fun t31=>
qZ 26 t31 S fun t32=>
qB .lss 3 x6 t32 fun t33=>
aH t33 (qE 30 p1 2 26 S fun t35=>
qX 26 t35 x6 fun t36=>
qL 84 t36 S fun t37=>
qN S 12 [.str [],jI 0,jI 0,jI 0,jI 0,jI 0,jI 0,jI 0,.nils,.str [],jI 0,.bool false] fun r38=>
qS 84 (pt r38) t37 r38.2 fun S39=>
qE 30 p1 1 25 S39 fun t41=>
qF 84 (pt r38) 0 fun t42=>
qE 57 t42 0 9 S39 fun t44=>
C 117 [t41,t44] S39 fun t45 S46=>
qB .lss 3 t45 (jI 0) fun t47=>
aH t47 (K (.bool false) (up S46 32)) (qF 84 (pt r38) 0 fun t48=>
qE 57 t48 1 3 (up S46 32) fun t50=>
qX 96 p4 t45 fun t51=>
qL 3 t51 (up S46 32) fun t52=>
qB .add 3 t52 (jI 1) fun t53=>
(qG .neq 3 t50 t53 fun t54=>
aH t54 (K (.bool false) (up S46 32)) (qE 84 (pt r38) 1 52 (up S46 32) fun t56=>
C 118 [t56] (up S46 32) fun t57 S58=>
wR (vD .not t57) fun t59=>
aH t59 (K (.bool false) S58) (qE 84 (pt r38) 2 82 S58 fun t61=>
C 119 [t61] S58 fun t62 S63=>
wR (vD .not t62) fun t64=>
aH t64 (K (.bool false) S63) (qE 30 p1 2 26 S63 fun t66=>
C 120 [t66,x6] S63 fun t67 S68=>
wR (vD .not t67) fun t69=>
aH t69 (K (.bool false) S68) (qX 96 p4 t45 fun t70=>
qL 3 t70 S68 fun t71=>
qB .add 3 t71 (jI 1) fun t72=>
qX 96 p4 t45 fun t73=>
qS 3 t73 t72 S68 fun S74=>
qE 84 (pt r38) 2 82 S74 fun t76=>
C 121 [t76] S74 fun t77 S78=>
cG t77 0 fun t79=>
cG t77 1 fun t80=>
(qG .neq 3 t80 (jI 0) fun t81=>
aH t81 (K (.bool false) S78) (C 122 [x5,t79] S78 fun t82 S83=>
cG t82 0 fun t84=>
cG t82 1 fun t85=>
(qG .neq 3 t85 (jI 0) fun t86=>
aH t86 (K (.bool false) S83) (qB .add 3 x6 (jI 1) fun t87=>
again0 [x2,t84,t87] S83))))))))))) (gG [x2,(jI 0)] S (aLw C K p1 p4 x5))
def aHa (C:aK) (K:KW) (p1:V) (S:St):Prop:=
qE 30 p1 1 25 S fun t27=>
qZ 25 t27 S fun t28=>
wR (eQ prog 96 t28 t28 none S) fun r29=>
gG [(.bool false),(.nils),(jI 0)] r29.2 (aLx C K p1 r29.1)
def m38 (C:aK) (a0:V) (S:St) (K:KW):Prop:=
(qA a0 S fun r0=>
qE 30 (pt r0) 0 24 r0.2 fun t2=>
C 114 [t2] r0.2 fun t3 S4=>
wR (vD .not t3) fun t5=>
aH t5 (K (.bool false) S4) (qE 30 (pt r0) 1 25 S4 fun t7=>
C 115 [t7] S4 fun t8 S9=>
wR (vD .not t8) fun t10=>
aH t10 (K (.bool false) S9) (qE 30 (pt r0) 4 28 S9 fun t12=>
C 116 [t12] S9 fun t13 S14=>
wR (vD .not t13) fun t15=>
aH t15 (K (.bool false) S14) (qE 30 (pt r0) 2 26 S14 fun t17=>
qZ 26 t17 S14 fun t18=>
qB .gtr 3 t18 (jI 40) fun t19=>
aH t19 (K (.bool false) S14) (qE 30 (pt r0) 5 3 S14 fun t21=>
qB .lss 3 t21 (jI 1) fun t22=>
aH t22 (K (.bool false) S14) (qE 30 (pt r0) 5 3 S14 fun t24=>
qB .gtr 3 t24 (jI 1099511627776) fun t25=>
aH t25 (K (.bool false) S14) (qE 30 (pt r0) 4 28 S14 fun t116=>
qZ 28 t116 S14 fun t117=>
qB .gtr 3 t117 (jI 0) fun t118=>
aH t118 (qE 30 (pt r0) 4 28 (up S14 14) fun t120=>
qB .sub 3 t117 (jI 1) fun t121=>
qX 28 t120 t121 fun t122=>
qE 132 t122 0 3 (up S14 14) fun t124=>
qE 30 (pt r0) 5 3 (up S14 14) fun t126=>
qB .geq 3 t124 t126 fun t127=>
aH t127 (K (.bool false) (up S14 14)) (aHa C K (pt r0) (up S14 14))) (aHa C K (pt r0) (up S14 14)))))))))
theorem bCg:(fun (C:aK) (a0:V) (S:St) (K:KW)=>cW prog C aSp aSq 38 [a0] S K)=fun C a0 S K=>m38 C a0 S K:=by kernel_rfl
theorem t38 (C:aK) (a0:V) (S:St) (K:KW):cW prog C aSp aSq 38 [a0] S K=m38 C a0 S K:=congrFun (congrFun (congrFun (congrFun bCg C) a0) S) K
theorem v38 {a0:V} {v:V} (hc:cloVs [a0]=true) (h:m38 C a0 ⟨0,.nil⟩ fun v0 S0=>dS S0 v0=.ok v):Fv 38 [a0] v:=Go.AM.Fn.of (p:=aSp) (lv:=aSq) (by kernel_rfl) hc (by rw [t38];exact h)
def uO (C:aK) (K:KW) (p1 p2 p4 p9 p19:V) (S:St):Prop:=
aH p19 (qE 59 p1 1 9 S fun t23=>
qF 59 p4 1 fun t24=>
qS 9 t24 t23 S fun S25=>
qL 59 p4 S25 fun t26=>
qS 59 p2 t26 S25 fun S27=>
qL 59 p2 S27 fun t28=>
K (.tup [t28,(.bool true)]) S27) ((qG .eql 3 p9 (jI 3) fun t29=>
aH t29 (qE 59 p1 3 54 S fun t31=>
qF 59 p4 3 fun t32=>
qS 54 t32 t31 S fun S33=>
qL 59 p4 S33 fun t34=>
qS 59 p2 t34 S33 fun S35=>
qL 59 p2 S35 fun t36=>
K (.tup [t36,(.bool true)]) S35) ((qG .eql 3 p9 (jI 4) fun t37=>
aH t37 (qE 59 p1 1 9 (up S 8) fun t39=>
qF 59 p1 4 fun t40=>
qL 52 t40 (up S 8) fun t41=>
qF 59 p4 1 fun t42=>
qS 9 t42 t39 (up S 8) fun S43=>
qL 52 t40 S43 fun t44=>
nW (dO t41 t44) (qF 59 p4 4 fun t45=>
qS 52 t45 t41 S43 fun S46=>
qQ 55 0 [] none S46 fun r47=>
qE 59 p1 5 55 r47.2 fun t49=>
qP 55 r47.1 t49 none r47.2 fun r50=>
qF 59 p4 5 fun t51=>
qS 55 t51 r50.1 r50.2 fun S52=>
qL 59 p4 S52 fun t53=>
qS 59 p2 t53 S52 fun S54=>
qL 59 p2 S54 fun t55=>
K (.tup [t55,(.bool true)]) S54)) ((qG .eql 3 p9 (jI 5) fun t56=>
aH t56 (qE 59 p1 1 9 (up S 12) fun t58=>
qF 59 p1 4 fun t59=>
qL 52 t59 (up S 12) fun t60=>
qF 59 p1 6 fun t61=>
qL 57 t61 (up S 12) fun t62=>
qF 59 p4 1 fun t63=>
qS 9 t63 t58 (up S 12) fun S64=>
qL 57 t61 S64 fun t65=>
nW (dO t62 t65) (qL 52 t59 S64 fun t66=>
nW (dO t60 t66) (qF 59 p4 4 fun t67=>
qS 52 t67 t60 S64 fun S68=>
qL 57 t61 S68 fun t69=>
nW (dO t62 t69) (qF 59 p4 6 fun t70=>
qS 57 t70 t62 S68 fun S71=>
qL 59 p4 S71 fun t72=>
qS 59 p2 t72 S71 fun S73=>
qL 59 p2 S73 fun t74=>
K (.tup [t74,(.bool true)]) S73)))) ((qG .eql 3 p9 (jI 6) fun t75=>
aH t75 (qL 59 p4 S fun t76=>
qS 59 p2 t76 S fun S77=>
qL 59 p2 S77 fun t78=>
K (.tup [t78,(.bool true)]) S77) ((qG .eql 3 p9 (jI 7) fun t79=>
aH t79 (qE 59 p1 7 3 S fun t81=>
qF 59 p4 7 fun t82=>
qS 3 t82 t81 S fun S83=>
qL 59 p4 S83 fun t84=>
qS 59 p2 t84 S83 fun S85=>
qL 59 p2 S85 fun t86=>
K (.tup [t86,(.bool true)]) S85) (qD 59 [] fun t87=>
qS 59 p2 t87 S fun S88=>
qL 59 p2 S88 fun t89=>
K (.tup [t89,(.bool false)]) S88)))))))))))
def aWq (C:aK) (a0:V) (S:St) (K:KW):Prop:=
(qA a0 S fun r0=>
qN r0.2 15 [jI 0,.str [],jI 0,.str [],jI 0,jI 0,jI 0,jI 0,jI 0,jI 0,jI 0,.nils,.str [],jI 0,jI 0] fun r1=>
qE 59 (pt r0) 0 3 r1.2 fun t3=>
qD 59 [(0,t3)] fun t4=>
qN r1.2 15 [jI 0,.str [],jI 0,.str [],jI 0,jI 0,jI 0,jI 0,jI 0,jI 0,jI 0,.nils,.str [],jI 0,jI 0] fun r5=>
qS 59 (pt r5) t4 r5.2 fun S6=>
qE 59 (pt r0) 0 3 S6 fun t8=>
(qG .eql 3 t8 (jI 1) fun t9=>
aH t9 (qE 59 (pt r0) 1 9 (up S6 8) fun t11=>
qF 59 (pt r0) 2 fun t12=>
qL 3 t12 (up S6 8) fun t13=>
qF 59 (pt r5) 1 fun t14=>
qS 9 t14 t11 (up S6 8) fun S15=>
qL 3 t12 S15 fun t16=>
nW (dO t13 t16) (qF 59 (pt r5) 2 fun t17=>
qS 3 t17 t13 S15 fun S18=>
qL 59 (pt r5) S18 fun t19=>
qS 59 (pt r1) t19 S18 fun S20=>
qL 59 (pt r1) S20 fun t21=>
K (.tup [t21,(.bool true)]) S20)) ((qG .eql 3 t8 (jI 2) fun t90=>
aH t90 (uO C K (pt r0) (pt r1) (pt r5) t8 (.bool true) S6) ((qG .eql 3 t8 (jI 8) fun t91=>
uO C K (pt r0) (pt r1) (pt r5) t8 t91 S6))))))
theorem aWr:(fun (C:aK) (a0:V) (S:St) (K:KW)=>cW prog C aLq aLr 108 [a0] S K)=fun C a0 S K=>aWq C a0 S K:=by kernel_rfl
theorem t108 (C:aK) (a0:V) (S:St) (K:KW):cW prog C aLq aLr 108 [a0] S K=aWq C a0 S K:=congrFun (congrFun (congrFun (congrFun aWr C) a0) S) K
theorem bMy {a0:V} {v:V} (hc:cloVs [a0]=true) (h:aWq C a0 ⟨0,.nil⟩ fun v0 S0=>dS S0 v0=.ok v):Fv 108 [a0] v:=Go.AM.Fn.of (p:=aLq) (lv:=aLr) (by kernel_rfl) hc (by rw [t108];exact h)
def aBy (C:aK) (K:KW) (again0:List V→St→Prop) (p1 p2 p3 p4:V) (S:St):Prop:=
qE 145 p4 2 3 S fun t20=>
qE 145 p4 1 3 S fun t22=>
C 160 [t20,t22] S fun t23 S24=>
cG t23 0 fun t25=>
cG t23 1 fun t26=>
(qG .neq 3 t26 (jI 0) fun t27=>
aH t27 (K (.bool false) S24) (qE 145 p4 3 3 S24 fun t29=>
(qG .neq 3 t25 t29 fun t30=>
aH t30 (K (.bool false) S24) (qB .add 3 p3 (jI 1) fun t31=>
again0 [p2,t31] S24))))
def aHb (C:aK) (K:KW) (p1:V) (vs:List V) (S:St) (again0:List V→St→Prop):Prop:=
qH vs fun x2 vs=>
qH vs fun x3 vs=>
qE 82 p1 3 80 S fun t10=>
qZ 80 t10 S fun t11=>
qB .lss 3 x3 t11 fun t12=>
aH t12 (qE 82 p1 3 80 S fun t14=>
qX 80 t14 x3 fun t15=>
qL 145 t15 S fun t16=>
qN S 4 [.str [],jI 0,jI 0,jI 0] fun r17=>
qS 145 (pt r17) t16 r17.2 fun S18=>
qE 145 (pt r17) 0 9 (up S18 30) fun t33=>
C 195 [t33] (up S18 30) fun t34 S35=>
wR (vD .not t34) fun t36=>
aH t36 (K (.bool false) S35) (qE 145 (pt r17) 1 3 S35 fun t38=>
qB .lss 3 t38 (jI 0) fun t39=>
aH t39 (K (.bool false) S35) (qE 145 (pt r17) 1 3 S35 fun t41=>
qB .gtr 3 t41 (jI 100000) fun t42=>
aH t42 (K (.bool false) S35) (qB .gtr 3 x3 (jI 0) fun t43=>
aH t43 (qE 82 p1 3 80 S35 fun t45=>
qB .sub 3 x3 (jI 1) fun t46=>
qX 80 t45 t46 fun t47=>
qE 145 t47 0 9 S35 fun t49=>
qE 145 (pt r17) 0 9 S35 fun t51=>
qB .geq 9 t49 t51 fun t52=>
aH t52 (K (.bool false) S35) (aBy C K again0 p1 x2 x3 (pt r17) S35)) (aBy C K again0 p1 x2 x3 (pt r17) S35))))) (qE 82 p1 3 80 S fun t54=>
C 161 [t54] S fun t55 S56=>
cG t55 0 fun t57=>
cG t55 1 fun t58=>
cG t55 2 fun t59=>
C 127 [t57,t58] S56 fun t60 S61=>
cG t60 0 fun t62=>
cG t60 1 fun t63=>
aH t59 ((qG .eql 3 t63 (jI 0) fun t64=>
aH t64 (qE 82 p1 0 3 S61 fun t66=>
(qG .eql 3 t57 t66 fun t67=>
aH t67 (qE 82 p1 1 3 S61 fun t69=>
(qG .eql 3 t58 t69 fun t70=>
aH t70 (qE 82 p1 2 3 S61 fun t72=>
(qG .eql 3 t62 t72 fun t73=>
K t73 S61)) (K (.bool false) S61))) (K (.bool false) S61))) (K (.bool false) S61))) (K (.bool false) S61))
def aWs (C:aK) (a0:V) (S:St) (K:KW):Prop:=
(qA a0 S fun r0=>
qE 82 (pt r0) 3 80 r0.2 fun t2=>
qZ 80 t2 r0.2 fun t3=>
(qG .eql 3 t3 (jI 0) fun t4=>
aH t4 (K (.bool false) r0.2) (qE 82 (pt r0) 3 80 r0.2 fun t6=>
qZ 80 t6 r0.2 fun t7=>
qB .gtr 3 t7 (jI 12) fun t8=>
aH t8 (K (.bool false) r0.2) (gG [(.bool false),(jI 0)] r0.2 (aHb C K (pt r0))))))
theorem aWt:(fun (C:aK) (a0:V) (S:St) (K:KW)=>cW prog C aLh aLi 119 [a0] S K)=fun C a0 S K=>aWs C a0 S K:=by kernel_rfl
theorem bCh (C:aK) (a0:V) (S:St) (K:KW):cW prog C aLh aLi 119 [a0] S K=aWs C a0 S K:=congrFun (congrFun (congrFun (congrFun aWt C) a0) S) K
theorem bMz {a0:V} {v:V} (hc:cloVs [a0]=true) (h:aWs C a0 ⟨0,.nil⟩ fun v0 S0=>dS S0 v0=.ok v):Fv 119 [a0] v:=Go.AM.Fn.of (p:=aLh) (lv:=aLi) (by kernel_rfl) hc (by rw [bCh];exact h)
def aBz (C:aK) (K:KW) (again0:List V→St→Prop) (p1 p4 p5 p6 p7 p8:V) (S:St):Prop:=
qX 27 p6 p8 fun t7=>
qE 90 t7 1 3 (up S 16) fun t9=>
qX 27 p1 p7 fun t10=>
qE 90 t10 1 3 (up S 16) fun t12=>
C 127 [t9,t12] (up S 16) fun t13 S14=>
cG t13 0 fun t15=>
cG t13 1 fun t16=>
(qG .neq 3 t16 (jI 0) fun t17=>
aH t17 (K (.tup [(.nils),t16]) S14) (qX 27 p6 p8 fun t18=>
qF 90 t18 1 fun t19=>
qS 3 t19 t15 S14 fun S20=>
qB .add 3 p7 (jI 1) fun t21=>
again0 [p4,p5,p6,t21] S20))
def yT (C:aK) (K:KW) (again0:List V→St→Prop) (p1 p4 p5 p6 p7 p8 p58:V) (S:St):Prop:=
aH p58 (wR (dF prog 27 p6 none (some p8)) fun t22=>
qX 27 p1 p7 fun t23=>
qF 90 t23 0 fun t24=>
qL 9 t24 (up S 18) fun t25=>
qD 90 [(0,t25)] fun t26=>
wR (dF prog 27 p6 (some p8) none) fun t27=>
qQ 27 0 [] (some (S.next+0)) (up S 18) fun r28=>
qP 27 r28.1 t22 (some (S.next+4)) r28.2 fun r29=>
qL 9 t24 r29.2 fun t30=>
nW (dO t25 t30) (qQ 27 1 [(0,t26)] (some (S.next+11)) r29.2 fun r31=>
qP 27 r29.1 r31.1 (some (S.next+12)) r31.2 fun r32=>
qP 27 r32.1 t27 (some (S.next+16)) r32.2 fun r33=>
aBz C K again0 p1 p4 p5 r33.1 p7 p8 r33.2)) (aBz C K again0 p1 p4 p5 p6 p7 p8 S)
def yU (C:aK) (K:KW) (again0:List V→St→Prop) (p1 p4 p5 p6 p7 p8:V) (S:St):Prop:=
qZ 27 p6 (up S 17) fun t34=>
(qG .eql 3 p8 t34 fun t35=>
aH t35 (yT C K again0 p1 p4 p5 p6 p7 p8 (.bool true) (up S 17)) (qX 27 p6 p8 fun t36=>
qE 90 t36 0 9 (up S 17) fun t38=>
qX 27 p1 p7 fun t39=>
qE 90 t39 0 9 (up S 17) fun t41=>
(qG .neq 9 t38 t41 fun t42=>
yT C K again0 p1 p4 p5 p6 p7 p8 t42 (up S 17))))
def aHc (C:aK) (K:KW) (again0:List V→St→Prop) (p1 p4 p5 p6 p7:V) (vs:List V) (S:St) (again1:List V→St→Prop):Prop:=
qH vs fun x8 vs=>
qZ 27 p6 (up S 17) fun t43=>
qB .lss 3 x8 t43 fun t44=>
aH t44 (qX 27 p6 x8 fun t45=>
qE 90 t45 0 9 (up S 17) fun t47=>
qX 27 p1 p7 fun t48=>
qE 90 t48 0 9 (up S 17) fun t50=>
qB .lss 9 t47 t50 fun t51=>
aH t51 (qB .add 3 x8 (jI 1) fun t52=>
again1 [t52] (up S 17)) (yU C K again0 p1 p4 p5 p6 p7 x8 (up S 17))) (yU C K again0 p1 p4 p5 p6 p7 x8 (up S 17))
def aHd (C:aK) (K:KW) (p1:V) (vs:List V) (S:St) (again0:List V→St→Prop):Prop:=
qH vs fun x4 vs=>
qH vs fun x5 vs=>
qH vs fun x6 vs=>
qH vs fun x7 vs=>
qZ 27 p1 S fun t5=>
qB .lss 3 x7 t5 fun t6=>
aH t6 (gG [(jI 0)] S (aHc C K again0 p1 x4 x5 x6 x7)) (K (.tup [x6,(jI 0)]) S)
def aWu (C:aK) (a0 a1:V) (S:St) (K:KW):Prop:=
C 199 [a0] S fun t0 S1=>
wR (vD .not t0) fun t2=>
aH t2 (K (.tup [(.nils),(jI 1)]) S1) (qQ 27 0 [] none S1 fun r3=>
qP 27 r3.1 a0 none r3.2 fun r4=>
gG [(.nils),(jI 0),r4.1,(jI 0)] r4.2 (aHd C K a1))
theorem aWv:(fun (C:aK) (a0 a1:V) (S:St) (K:KW)=>cW prog C aH4 aLj 122 [a0,a1] S K)=fun C a0 a1 S K=>aWu C a0 a1 S K:=by kernel_rfl
theorem t122 (C:aK) (a0 a1:V) (S:St) (K:KW):cW prog C aH4 aLj 122 [a0,a1] S K=aWu C a0 a1 S K:=congrFun (congrFun (congrFun (congrFun (congrFun aWv C) a0) a1) S) K
theorem bN0 {a0 a1:V} {v:V} (hc:cloVs [a0,a1]=true) (h:aWu C a0 a1 ⟨0,.nil⟩ fun v0 S0=>dS S0 v0=.ok v):Fv 122 [a0,a1] v:=Go.AM.Fn.of (p:=aH4) (lv:=aLj) (by kernel_rfl) hc (by rw [t122];exact h)
theorem bEh:uN 122=some (.val aH4):=by kernel_rfl
def aC0 (C:aK) (K:KW) (again0:List V→St→Prop) (p4 p5 p6 p8 p9 p17 p18 p19:V) (S:St):Prop:=
qX 27 p6 p9 fun t10=>
qE 90 t10 1 3 (up S 13) fun t12=>
qE 90 p8 1 3 (up S 13) fun t14=>
C 203 [t12,t14] (up S 13) fun t15 S16=>
cG t15 0 fun t17=>
cG t15 1 fun t18=>
(qG .neq 31 t18 (jI 0) fun t19=>
aH t19 (K (.tup [(.nils),t18]) S16) (qX 27 p6 p9 fun t20=>
qF 90 t20 1 fun t21=>
qS 3 t21 t17 S16 fun S22=>
qB .add 3 p19 (jI 1) fun t23=>
again0 [p4,p5,p6,t23] S22))
def yV (C:aK) (K:KW) (again0:List V→St→Prop) (p4 p5 p6 p8 p9 p17 p18 p19 p52:V) (S:St):Prop:=
aH p52 (qE 90 p8 0 9 S fun t25=>
qD 90 [(0,t25)] fun t26=>
qQ 27 1 [(0,t26)] none S fun r27=>
C 221 [p6,p9,r27.1] r27.2 fun t28 S29=>
aC0 C K again0 p4 p5 t28 p8 p9 p17 p18 p19 S29) (aC0 C K again0 p4 p5 p6 p8 p9 p17 p18 p19 S)
def aC1 (C:aK) (K:KW) (again0:List V→St→Prop) (p4 p5 p6 p8 p9 p17 p18 p19:V) (S:St):Prop:=
qZ 27 p6 (up S 14) fun t30=>
(qG .eql 3 p9 t30 fun t31=>
aH t31 (yV C K again0 p4 p5 p6 p8 p9 p17 p18 p19 (.bool true) (up S 14)) (qX 27 p6 p9 fun t32=>
qE 90 t32 0 9 (up S 14) fun t34=>
qE 90 p8 0 9 (up S 14) fun t36=>
(qG .neq 9 t34 t36 fun t37=>
yV C K again0 p4 p5 p6 p8 p9 p17 p18 p19 t37 (up S 14))))
def aHe (C:aK) (K:KW) (again0:List V→St→Prop) (p4 p5 p6 p8 p17 p18 p19:V) (vs:List V) (S:St) (again1:List V→St→Prop):Prop:=
qH vs fun x9 vs=>
qZ 27 p6 (up S 14) fun t38=>
qB .lss 3 x9 t38 fun t39=>
aH t39 (qX 27 p6 x9 fun t40=>
qE 90 t40 0 9 (up S 14) fun t42=>
qE 90 p8 0 9 (up S 14) fun t44=>
qB .lss 9 t42 t44 fun t45=>
aH t45 (qB .add 3 x9 (jI 1) fun t46=>
again1 [t46] (up S 14)) (aC1 C K again0 p4 p5 p6 p8 x9 p17 p18 p19 (up S 14))) (aC1 C K again0 p4 p5 p6 p8 x9 p17 p18 p19 (up S 14))
def aHf (C:aK) (K:KW) (p17 p18:V) (vs:List V) (S:St) (again0:List V→St→Prop):Prop:=
qH vs fun x4 vs=>
qH vs fun x5 vs=>
qH vs fun x6 vs=>
qH vs fun x19 vs=>
qB .lss 3 x19 p18 fun t5=>
aH t5 (qX 27 p17 x19 fun t6=>
qL 90 t6 S fun t7=>
qN S 2 [.str [],jI 0] fun r8=>
qS 90 (pt r8) t7 r8.2 fun S9=>
gG [(jI 0)] S9 (aHe C K again0 x4 x5 x6 (pt r8) p17 p18 x19)) (K (.tup [x6,(jI 0)]) S)
def aWw (C:aK) (a0 a1:V) (S:St) (K:KW):Prop:=
C 220 [a0] S fun t0 S1=>
wR (vD .not t0) fun t2=>
aH t2 (K (.tup [(.nils),(jI 1)]) S1) (qP 27 (.nils) a0 none S1 fun r3=>
qZ 27 a1 r3.2 fun t4=>
gG [(.nils),(jI 0),r3.1,(jI 0)] r3.2 (aHf C K a1 t4))
theorem aWx:(fun (C:aK) (a0 a1:V) (S:St) (K:KW)=>cW prog C aH5 aLu 158 [a0,a1] S K)=fun C a0 a1 S K=>aWw C a0 a1 S K:=by kernel_rfl
theorem bN1 (C:aK) (a0 a1:V) (S:St) (K:KW):cW prog C aH5 aLu 158 [a0,a1] S K=aWw C a0 a1 S K:=congrFun (congrFun (congrFun (congrFun (congrFun aWx C) a0) a1) S) K
theorem bN2 {a0 a1:V} {v:V} (hc:cloVs [a0,a1]=true) (h:aWw C a0 a1 ⟨0,.nil⟩ fun v0 S0=>dS S0 v0=.ok v):Fv 158 [a0,a1] v:=Go.AM.Fn.of (p:=aH5) (lv:=aLu) (by kernel_rfl) hc (by rw [bN1];exact h)
theorem bEi:uN 158=some (.val aH5):=by kernel_rfl
def aC2 (C:aK) (K:KW) (p0 p1 p6:V) (S:St):Prop:=
qP 28 (.nils) p0 none S fun r5=>
qD 132 [(0,p1)] fun t6=>
qQ 28 1 [(0,t6)] none r5.2 fun r7=>
C 230 [r5.1,p6,r7.1] r7.2 fun t8 S9=>
K (.tup [t8,(jI 0)]) S9
def aHg (C:aK) (K:KW) (p0 p1:V) (vs:List V) (S:St) (again0:List V→St→Prop):Prop:=
qH vs fun x6 vs=>
qZ 28 p0 S fun t10=>
qB .lss 3 x6 t10 fun t11=>
aH t11 (qX 28 p0 x6 fun t12=>
qE 132 t12 0 3 S fun t14=>
qB .lss 3 t14 p1 fun t15=>
aH t15 (qB .add 3 x6 (jI 1) fun t16=>
again0 [t16] S) (aC2 C K p0 p1 x6 S)) (aC2 C K p0 p1 x6 S)
def aHh (C:aK) (K:KW) (p0 p1 p7:V) (S:St):Prop:=
aH p7 (K (.tup [(.nils),(jI 1)]) S) (C 174 [p0,p1] S fun t0 S1=>
qB .geq 3 t0 (jI 0) fun t2=>
aH t2 (K (.tup [(.nils),(jI 12)]) S1) (qZ 28 p0 S1 fun t3=>
qB .geq 3 t3 (jI 8) fun t4=>
aH t4 (K (.tup [(.nils),(jI 14)]) S1) (gG [(jI 0)] S1 (aHg C K p0 p1))))
def aWy (C:aK) (a0 a1:V) (S:St) (K:KW):Prop:=
C 166 [a0] S fun t17 S18=>
wR (vD .not t17) fun t19=>
aH t19 (aHh C K a0 a1 (.bool true) S18) (qB .lss 3 a1 (jI 1) fun t20=>
aHh C K a0 a1 t20 S18)
theorem aWz:(fun (C:aK) (a0 a1:V) (S:St) (K:KW)=>cW prog C aLm aLn 173 [a0,a1] S K)=fun C a0 a1 S K=>aWy C a0 a1 S K:=by kernel_rfl
theorem bCi (C:aK) (a0 a1:V) (S:St) (K:KW):cW prog C aLm aLn 173 [a0,a1] S K=aWy C a0 a1 S K:=congrFun (congrFun (congrFun (congrFun (congrFun aWz C) a0) a1) S) K
theorem bN3 {a0 a1:V} {v:V} (hc:cloVs [a0,a1]=true) (h:aWy C a0 a1 ⟨0,.nil⟩ fun v0 S0=>dS S0 v0=.ok v):Fv 173 [a0,a1] v:=Go.AM.Fn.of (p:=aLm) (lv:=aLn) (by kernel_rfl) hc (by rw [bCi];exact h)
def aC3 (C:aK) (K:KW) (p0 p1 p2 p8:V) (S:St):Prop:=
C 235 [p0] S fun t11 S12=>
qD 126 [(0,p1),(1,(jI 1)),(2,p2)] fun t13=>
qQ 25 1 [(0,t13)] none S12 fun r14=>
C 234 [t11,p8,r14.1] r14.2 fun t15 S16=>
K (.tup [t15,(jI 0)]) S16
def aHi (C:aK) (K:KW) (p0 p1 p2:V) (vs:List V) (S:St) (again0:List V→St→Prop):Prop:=
qH vs fun x8 vs=>
qZ 25 p0 S fun t17=>
qB .lss 3 x8 t17 fun t18=>
aH t18 (qX 25 p0 x8 fun t19=>
qE 126 t19 0 9 S fun t21=>
qB .lss 9 t21 p1 fun t22=>
aH t22 (qB .add 3 x8 (jI 1) fun t23=>
again0 [t23] S) (aC3 C K p0 p1 p2 x8 S)) (aC3 C K p0 p1 p2 x8 S)
def aHj (C:aK) (K:KW) (p0 p1 p2 p17:V) (S:St):Prop:=
aH p17 (K (.tup [(.nils),(jI 1)]) S) (C 233 [p0,p1] S fun t6 S7=>
qB .geq 3 t6 (jI 0) fun t8=>
aH t8 (K (.tup [(.nils),(jI 12)]) S7) (qZ 25 p0 S7 fun t9=>
qB .geq 3 t9 (jI 8) fun t10=>
aH t10 (K (.tup [(.nils),(jI 14)]) S7) (gG [(jI 0)] S7 (aHi C K p0 p1 p2))))
def aX0 (C:aK) (a0 a1 a2:V) (S:St) (K:KW):Prop:=
C 86 [a0] S fun t0 S1=>
wR (vD .not t0) fun t2=>
aH t2 (K (.tup [(.nils),(jI 1)]) S1) (C 165 [a1] S1 fun t3 S4=>
wR (vD .not t3) fun t5=>
aH t5 (K (.tup [(.nils),(jI 8)]) S4) (qB .lss 3 a2 (jI 1) fun t24=>
aH t24 (aHj C K a0 a1 a2 (.bool true) S4) (qB .gtr 3 a2 (jI 1099511627776) fun t25=>
aHj C K a0 a1 a2 t25 S4)))
theorem aX1:(fun (C:aK) (a0 a1 a2:V) (S:St) (K:KW)=>cW prog C aLs aLt 175 [a0,a1,a2] S K)=fun C a0 a1 a2 S K=>aX0 C a0 a1 a2 S K:=by kernel_rfl
theorem bN4 (C:aK) (a0 a1 a2:V) (S:St) (K:KW):cW prog C aLs aLt 175 [a0,a1,a2] S K=aX0 C a0 a1 a2 S K:=congrFun (congrFun (congrFun (congrFun (congrFun (congrFun aX1 C) a0) a1) a2) S) K
theorem bN5 {a0 a1 a2:V} {v:V} (hc:cloVs [a0,a1,a2]=true) (h:aX0 C a0 a1 a2 ⟨0,.nil⟩ fun v0 S0=>dS S0 v0=.ok v):Fv 175 [a0,a1,a2] v:=Go.AM.Fn.of (p:=aLs) (lv:=aLt) (by kernel_rfl) hc (by rw [bN4];exact h)
def aC4 (C:aK) (K:KW) (p0 p1 p2 p8:V) (S:St):Prop:=
wR (dF prog 25 p0 none (some p8)) fun t11=>
qD 126 [(0,p1),(1,(jI 1)),(2,p2)] fun t12=>
wR (dF prog 25 p0 (some p8) none) fun t13=>
qQ 25 0 [] (some (S.next+0)) (up S 16) fun r14=>
qP 25 r14.1 t11 (some (S.next+4)) r14.2 fun r15=>
qQ 25 1 [(0,t12)] (some (S.next+8)) r15.2 fun r16=>
qP 25 r15.1 r16.1 (some (S.next+9)) r16.2 fun r17=>
qP 25 r17.1 t13 (some (S.next+13)) r17.2 fun r18=>
K (.tup [r18.1,(jI 0)]) r18.2
def aHk (C:aK) (K:KW) (p0 p1 p2:V) (vs:List V) (S:St) (again0:List V→St→Prop):Prop:=
qH vs fun x8 vs=>
qZ 25 p0 S fun t19=>
qB .lss 3 x8 t19 fun t20=>
aH t20 (qX 25 p0 x8 fun t21=>
qE 126 t21 0 9 S fun t23=>
qB .lss 9 t23 p1 fun t24=>
aH t24 (qB .add 3 x8 (jI 1) fun t25=>
again0 [t25] S) (aC4 C K p0 p1 p2 x8 S)) (aC4 C K p0 p1 p2 x8 S)
def yW (C:aK) (K:KW) (p0 p1 p2 p17:V) (S:St):Prop:=
aH p17 (K (.tup [(.nils),(jI 1)]) S) (C 117 [p0,p1] S fun t6 S7=>
qB .geq 3 t6 (jI 0) fun t8=>
aH t8 (K (.tup [(.nils),(jI 12)]) S7) (qZ 25 p0 S7 fun t9=>
qB .geq 3 t9 (jI 8) fun t10=>
aH t10 (K (.tup [(.nils),(jI 14)]) S7) (gG [(jI 0)] S7 (aHk C K p0 p1 p2))))
def aX2 (C:aK) (a0 a1 a2:V) (S:St) (K:KW):Prop:=
C 115 [a0] S fun t0 S1=>
wR (vD .not t0) fun t2=>
aH t2 (K (.tup [(.nils),(jI 1)]) S1) (C 195 [a1] S1 fun t3 S4=>
wR (vD .not t3) fun t5=>
aH t5 (K (.tup [(.nils),(jI 8)]) S4) (qB .lss 3 a2 (jI 1) fun t26=>
aH t26 (yW C K a0 a1 a2 (.bool true) S4) (qB .gtr 3 a2 (jI 1099511627776) fun t27=>
yW C K a0 a1 a2 t27 S4)))
theorem aX3:(fun (C:aK) (a0 a1 a2:V) (S:St) (K:KW)=>cW prog C aLf aLg 186 [a0,a1,a2] S K)=fun C a0 a1 a2 S K=>aX2 C a0 a1 a2 S K:=by kernel_rfl
theorem bCj (C:aK) (a0 a1 a2:V) (S:St) (K:KW):cW prog C aLf aLg 186 [a0,a1,a2] S K=aX2 C a0 a1 a2 S K:=congrFun (congrFun (congrFun (congrFun (congrFun (congrFun aX3 C) a0) a1) a2) S) K
theorem bN6 {a0 a1 a2:V} {v:V} (hc:cloVs [a0,a1,a2]=true) (h:aX2 C a0 a1 a2 ⟨0,.nil⟩ fun v0 S0=>dS S0 v0=.ok v):Fv 186 [a0,a1,a2] v:=Go.AM.Fn.of (p:=aLf) (lv:=aLg) (by kernel_rfl) hc (by rw [bCj];exact h)
def yX (C:aK) (K:KW) (p0 p3 p7:V) (S:St):Prop:=
qZ 24 p0 S fun t8=>
qB .geq 3 t8 (jI 24) fun t9=>
aH t9 (K (.tup [(.nils),(jI 2)]) S) (wR (dF prog 24 p0 none (some p7)) fun t10=>
qL 54 p3 (up S 14) fun t11=>
wR (dF prog 24 p0 (some p7) none) fun t12=>
qQ 24 0 [] (some (S.next+0)) (up S 14) fun r13=>
qP 24 r13.1 t10 (some (S.next+4)) r13.2 fun r14=>
qL 54 p3 r14.2 fun t15=>
nW (dO t11 t15) (qQ 24 1 [(0,t11)] (some (S.next+6)) r14.2 fun r16=>
qP 24 r14.1 r16.1 (some (S.next+7)) r16.2 fun r17=>
qP 24 r17.1 t12 (some (S.next+11)) r17.2 fun r18=>
K (.tup [r18.1,(jI 0)]) r18.2))
def yY (C:aK) (K:KW) (p0 p3 p7:V) (S:St):Prop:=
qZ 24 p0 (up S 13) fun t19=>
qB .lss 3 p7 t19 fun t20=>
aH t20 (qL 54 p3 (up S 13) fun t21=>
qX 24 p0 p7 fun t22=>
qL 54 t22 (up S 13) fun t23=>
C 194 [t21,t23] (up S 13) fun t24 S25=>
wR (vD .not t24) fun t26=>
aH t26 (K (.tup [(.nils),(jI 12)]) S25) (yX C K p0 p3 p7 S25)) (yX C K p0 p3 p7 (up S 13))
def aHl (C:aK) (K:KW) (p0 p3:V) (vs:List V) (S:St) (again0:List V→St→Prop):Prop:=
qH vs fun x7 vs=>
qZ 24 p0 (up S 12) fun t27=>
qB .lss 3 x7 t27 fun t28=>
aH t28 (qX 24 p0 x7 fun t29=>
qL 54 t29 (up S 12) fun t30=>
qL 54 p3 (up S 12) fun t31=>
C 194 [t30,t31] (up S 12) fun t32 S33=>
aH t32 (qB .add 3 x7 (jI 1) fun t34=>
again0 [t34] S33) (yY C K p0 p3 x7 S33)) (yY C K p0 p3 x7 (up S 12))
def aX4 (C:aK) (a0 a1:V) (S:St) (K:KW):Prop:=
(qA a1 S fun r0=>
C 114 [a0] r0.2 fun t1 S2=>
wR (vD .not t1) fun t3=>
aH t3 (K (.tup [(.nils),(jI 1)]) S2) (qL 54 (pt r0) S2 fun t4=>
C 193 [t4] S2 fun t5 S6=>
(qG .neq 3 t5 (jI 0) fun t7=>
aH t7 (K (.tup [(.nils),t5]) S6) (gG [(jI 0)] S6 (aHl C K a0 (pt r0))))))
theorem aX5:(fun (C:aK) (a0 a1:V) (S:St) (K:KW)=>cW prog C aLd aLe 189 [a0,a1] S K)=fun C a0 a1 S K=>aX4 C a0 a1 S K:=by kernel_rfl
theorem aX6 (C:aK) (a0 a1:V) (S:St) (K:KW):cW prog C aLd aLe 189 [a0,a1] S K=aX4 C a0 a1 S K:=congrFun (congrFun (congrFun (congrFun (congrFun aX5 C) a0) a1) S) K
theorem bN7 {a0 a1:V} {v:V} (hc:cloVs [a0,a1]=true) (h:aX4 C a0 a1 ⟨0,.nil⟩ fun v0 S0=>dS S0 v0=.ok v):Fv 189 [a0,a1] v:=Go.AM.Fn.of (p:=aLd) (lv:=aLe) (by kernel_rfl) hc (by rw [aX6];exact h)
def aC5 (C:aK) (K:KW) (again0:List V→St→Prop) (p0 p2 p4 p6 p7 p8 p9 p13 p15:V) (S:St):Prop:=
qF 82 p8 3 fun t73=>
qL 80 t73 (up S 18) fun t74=>
qE 82 p8 3 80 (up S 18) fun t76=>
qX 80 t76 p15 fun t77=>
qE 145 t77 2 3 (up S 18) fun t79=>
C 127 [t79,p13] (up S 18) fun t80 S81=>
qL 80 t73 S81 fun t82=>
nW (dO t74 t82) (cG t80 0 fun t83=>
cG t80 1 fun t84=>
qX 80 t74 p15 fun t85=>
qF 145 t85 2 fun t86=>
qS 3 t86 t83 S81 fun S87=>
(qG .neq 3 t84 (jI 0) fun t88=>
aH t88 (qD 82 [] fun t89=>
qS 82 p6 t89 S87 fun S90=>
qL 82 p6 S90 fun t91=>
K (.tup [t91,t84]) S90) (qB .add 3 p9 (jI 1) fun t92=>
again0 [p7,t92] S87)))
def yZ (C:aK) (K:KW) (again0:List V→St→Prop) (p0 p2 p4 p6 p7 p8 p9 p10 p11 p13 p15 p126:V) (S:St):Prop:=
aH p126 (qE 82 p8 3 80 (up S 19) fun t94=>
wR (dF prog 80 t94 none (some p15)) fun t95=>
qF 201 p10 1 fun t96=>
qL 9 t96 (up S 19) fun t97=>
qD 145 [(0,t97),(1,p11)] fun t98=>
qF 82 p8 3 fun t99=>
qL 80 t99 (up S 19) fun t100=>
wR (dF prog 80 t100 (some p15) none) fun t101=>
qQ 80 0 [] (some (S.next+0)) (up S 19) fun r102=>
qP 80 r102.1 t95 (some (S.next+5)) r102.2 fun r103=>
qL 80 t99 r103.2 fun t104=>
nW (dO t100 t104) (qL 9 t96 r103.2 fun t105=>
nW (dO t97 t105) (qQ 80 1 [(0,t98)] (some (S.next+10)) r103.2 fun r106=>
qP 80 r103.1 r106.1 (some (S.next+11)) r106.2 fun r107=>
qL 80 t99 r107.2 fun t108=>
nW (dO t100 t108) (qP 80 r107.1 t101 (some (S.next+16)) r107.2 fun r109=>
qF 82 p8 3 fun t110=>
qS 80 t110 r109.1 r109.2 fun S111=>
aC5 C K again0 p0 p2 p4 p6 p7 p8 p9 p13 p15 S111)))) (aC5 C K again0 p0 p2 p4 p6 p7 p8 p9 p13 p15 S)
def zA (C:aK) (K:KW) (again0:List V→St→Prop) (p0 p2 p4 p6 p7 p8 p9 p10 p11 p13 p15:V) (S:St):Prop:=
qE 82 p8 3 80 (up S 16) fun t113=>
qZ 80 t113 (up S 16) fun t114=>
(qG .eql 3 p15 t114 fun t115=>
aH t115 (yZ C K again0 p0 p2 p4 p6 p7 p8 p9 p10 p11 p13 p15 (.bool true) (up S 16)) (qE 82 p8 3 80 (up S 16) fun t117=>
qX 80 t117 p15 fun t118=>
qE 145 t118 0 9 (up S 16) fun t120=>
qE 201 p10 1 9 (up S 16) fun t122=>
(qG .neq 9 t120 t122 fun t123=>
yZ C K again0 p0 p2 p4 p6 p7 p8 p9 p10 p11 p13 p15 t123 (up S 16))))
def aHm (C:aK) (K:KW) (again0:List V→St→Prop) (p0 p2 p4 p6 p7 p8 p9 p10 p11 p13:V) (vs:List V) (S:St) (again1:List V→St→Prop):Prop:=
qH vs fun x15 vs=>
qE 82 p8 3 80 (up S 16) fun t125=>
qZ 80 t125 (up S 16) fun t126=>
qB .lss 3 x15 t126 fun t127=>
aH t127 (qE 82 p8 3 80 (up S 16) fun t129=>
qX 80 t129 x15 fun t130=>
qE 145 t130 0 9 (up S 16) fun t132=>
qE 201 p10 1 9 (up S 16) fun t134=>
qB .lss 9 t132 t134 fun t135=>
aH t135 (qB .add 3 x15 (jI 1) fun t136=>
again1 [t136] (up S 16)) (zA C K again0 p0 p2 p4 p6 p7 p8 p9 p10 p11 p13 x15 (up S 16))) (zA C K again0 p0 p2 p4 p6 p7 p8 p9 p10 p11 p13 x15 (up S 16))
def zC (C:aK) (K:KW) (again0:List V→St→Prop) (p0 p2 p4 p6 p7 p8 p9 p10 p68:V) (S:St):Prop:=
aH p68 (qD 82 [] fun t47=>
qS 82 p6 t47 S fun S48=>
qL 82 p6 S48 fun t49=>
K (.tup [t49,(jI 1)]) S48) (qE 201 p10 1 9 S fun t51=>
qL 52 p4 S fun t52=>
C 242 [p0,t51,t52] S fun t53 S54=>
cG t53 0 fun t55=>
cG t53 1 fun t56=>
wR (vD .not t56) fun t57=>
aH t57 (qD 82 [] fun t58=>
qS 82 p6 t58 S54 fun S59=>
qL 82 p6 S59 fun t60=>
K (.tup [t60,(jI 10)]) S59) (qE 201 p10 2 3 S54 fun t62=>
qE 201 p10 3 3 S54 fun t64=>
C 243 [t62,t64] S54 fun t65 S66=>
cG t65 0 fun t67=>
cG t65 1 fun t68=>
(qG .neq 3 t68 (jI 0) fun t69=>
aH t69 (qD 82 [] fun t70=>
qS 82 p6 t70 S66 fun S71=>
qL 82 p6 S71 fun t72=>
K (.tup [t72,t68]) S71) (gG [(jI 0)] S66 (aHm C K again0 p0 p2 p4 p6 p7 p8 p9 p10 t55 t67)))))
def aC6 (C:aK) (K:KW) (p6 p8:V) (vs:List V) (S:St) (again2:List V→St→Prop):Prop:=
qH vs fun x7 vs=>
qH vs fun x16 vs=>
qE 82 p8 3 80 S fun t144=>
qZ 80 t144 S fun t145=>
qB .lss 3 x16 t145 fun t146=>
aH t146 (qE 82 p8 3 80 (up S 18) fun t148=>
qX 80 t148 x16 fun t149=>
qE 145 t149 2 3 (up S 18) fun t151=>
qE 82 p8 3 80 (up S 18) fun t153=>
qX 80 t153 x16 fun t154=>
qE 145 t154 1 3 (up S 18) fun t156=>
C 160 [t151,t156] (up S 18) fun t157 S158=>
cG t157 0 fun t159=>
cG t157 1 fun t160=>
(qG .neq 3 t160 (jI 0) fun t161=>
aH t161 (qD 82 [] fun t162=>
qS 82 p6 t162 S158 fun S163=>
qL 82 p6 S163 fun t164=>
K (.tup [t164,t160]) S163) (qE 82 p8 3 80 S158 fun t166=>
qX 80 t166 x16 fun t167=>
qF 145 t167 3 fun t168=>
qS 3 t168 t159 S158 fun S169=>
qE 82 p8 0 3 (up S169 15) fun t171=>
qE 82 p8 3 80 (up S169 15) fun bCi=>
qX 80 bCi x16 fun t174=>
qE 145 t174 2 3 (up S169 15) fun t176=>
C 127 [t171,t176] (up S169 15) fun t177 S178=>
cG t177 0 fun t179=>
cG t177 1 fun t180=>
qF 82 p8 0 fun t181=>
qS 3 t181 t179 S178 fun S182=>
(qG .neq 3 t180 (jI 0) fun t183=>
aH t183 (qD 82 [] fun t184=>
qS 82 p6 t184 S182 fun S185=>
qL 82 p6 S185 fun bCj=>
K (.tup [bCj,t180]) S185) (qE 82 p8 1 3 S182 fun t188=>
C 127 [t188,t159] S182 fun aX6 S190=>
cG aX6 0 fun t191=>
cG aX6 1 fun t192=>
qF 82 p8 1 fun t193=>
qS 3 t193 t191 S190 fun S194=>
(qG .neq 3 t192 (jI 0) fun t195=>
aH t195 (qD 82 [] fun t196=>
qS 82 p6 t196 S194 fun S197=>
qL 82 p6 S197 fun t198=>
K (.tup [t198,t192]) S197) (qB .add 3 x16 (jI 1) fun t199=>
again2 [x7,t199] S194))))))) (qE 82 p8 0 3 S fun t201=>
qE 82 p8 1 3 S fun t203=>
C 127 [t201,t203] S fun t204 S205=>
cG t204 0 fun t206=>
cG t204 1 fun t207=>
(qG .neq 3 t207 (jI 0) fun t208=>
aH t208 (qD 82 [] fun t209=>
qS 82 p6 t209 S205 fun S210=>
qL 82 p6 S210 fun t211=>
K (.tup [t211,t207]) S210) (qF 82 p8 2 fun t212=>
qS 3 t212 t206 S205 fun S213=>
qL 82 p8 S213 fun t214=>
qS 82 p6 t214 S213 fun S215=>
qL 82 p6 S215 fun t216=>
K (.tup [t216,(jI 0)]) S215)))
def aHn (C:aK) (K:KW) (p0 p2 p4 p6 p8:V) (vs:List V) (S:St) (again0:List V→St→Prop):Prop:=
qH vs fun x7 vs=>
qH vs fun x9 vs=>
qZ 55 p2 S fun t26=>
qB .lss 3 x9 t26 fun t27=>
aH t27 (qX 55 p2 x9 fun t28=>
qL 201 t28 S fun t29=>
qN S 4 [.str [],.str [],jI 0,jI 0] fun r30=>
qS 201 (pt r30) t29 r30.2 fun S31=>
qE 201 (pt r30) 0 9 S31 fun t33=>
qZ 9 t33 S31 fun t34=>
qB .gtr 3 t34 (jI 64) fun t35=>
aH t35 (qD 82 [] fun t36=>
qS 82 p6 t36 S31 fun S37=>
qL 82 p6 S37 fun t38=>
K (.tup [t38,(jI 2)]) S37) (qE 201 (pt r30) 1 9 S31 fun t40=>
C 195 [t40] S31 fun t41 S42=>
wR (vD .not t41) fun t43=>
aH t43 (qD 82 [] fun t44=>
qS 82 p6 t44 S42 fun S45=>
qL 82 p6 S45 fun t46=>
K (.tup [t46,(jI 8)]) S45) (qE 201 (pt r30) 2 3 S42 fun t138=>
qB .lss 3 t138 (jI 1) fun t139=>
aH t139 (zC C K again0 p0 p2 p4 p6 x7 p8 x9 (pt r30) (.bool true) S42) (qE 201 (pt r30) 2 3 S42 fun t141=>
qB .gtr 3 t141 (jI 1048576) fun t142=>
zC C K again0 p0 p2 p4 p6 x7 p8 x9 (pt r30) t142 S42)))) (gG [x7,(jI 0)] S (aC6 C K p6 p8))
def aX7 (C:aK) (a0 a1 a2:V) (S:St) (K:KW):Prop:=
(qA a1 S fun r0=>
qN r0.2 4 [jI 0,jI 0,jI 0,.nils] fun r1=>
C 114 [a0] r1.2 fun t2 S3=>
wR (vD .not t2) fun t4=>
aH t4 (qD 82 [] fun t5=>
qS 82 (pt r1) t5 S3 fun S6=>
qL 82 (pt r1) S6 fun t7=>
K (.tup [t7,(jI 1)]) S6) (qL 52 (pt r0) S3 fun t8=>
C 118 [t8] S3 fun t9 S10=>
wR (vD .not t9) fun t11=>
aH t11 (qD 82 [] fun t12=>
qS 82 (pt r1) t12 S10 fun S13=>
qL 82 (pt r1) S13 fun t14=>
K (.tup [t14,(jI 9)]) S13) (qZ 55 a2 S10 fun t15=>
(qG .eql 3 t15 (jI 0) fun t16=>
aH t16 (qD 82 [] fun t17=>
qS 82 (pt r1) t17 S10 fun S18=>
qL 82 (pt r1) S18 fun t19=>
K (.tup [t19,(jI 1)]) S18) (qZ 55 a2 S10 fun t20=>
qB .gtr 3 t20 (jI 12) fun t21=>
aH t21 (qD 82 [] fun t22=>
qS 82 (pt r1) t22 S10 fun S23=>
qL 82 (pt r1) S23 fun t24=>
K (.tup [t24,(jI 2)]) S23) (qN S10 4 [jI 0,jI 0,jI 0,.nils] fun r25=>
gG [(jI 0),(jI 0)] r25.2 (aHn C K a0 a2 (pt r0) (pt r1) (pt r25))))))))
theorem aX8:(fun (C:aK) (a0 a1 a2:V) (S:St) (K:KW)=>cW prog C aLk aLl 190 [a0,a1,a2] S K)=fun C a0 a1 a2 S K=>aX7 C a0 a1 a2 S K:=by kernel_rfl
theorem bN8 (C:aK) (a0 a1 a2:V) (S:St) (K:KW):cW prog C aLk aLl 190 [a0,a1,a2] S K=aX7 C a0 a1 a2 S K:=congrFun (congrFun (congrFun (congrFun (congrFun (congrFun aX8 C) a0) a1) a2) S) K
theorem bN9 {a0 a1 a2:V} {v:V} (hc:cloVs [a0,a1,a2]=true) (h:aX7 C a0 a1 a2 ⟨0,.nil⟩ fun v0 S0=>dS S0 v0=.ok v):Fv 190 [a0,a1,a2] v:=Go.AM.Fn.of (p:=aLk) (lv:=aLl) (by kernel_rfl) hc (by rw [bN8];exact h)
def aC7 (C:aK) (K:KW) (p2 p4 p5 p11:V) (S:St):Prop:=
qL 30 p2 (up S 4) fun t80=>
qL 48 p11 (up S 4) fun t81=>
qS 30 p4 t80 (up S 4) fun S82=>
qL 48 p11 S82 fun t83=>
nW (dO t81 t83) (qS 48 p5 t81 S82 fun S84=>
qL 30 p4 S84 fun t85=>
qL 48 p5 S84 fun t86=>
K (.tup [t85,t86]) S84)
def zD (C:aK) (K:KW) (p2 p3 p4 p5 p6 p8 p65:V) (S:St):Prop:=
aH p65 (qL 30 p2 S fun t43=>
C 187 [t43,(jI 9)] S fun t44 S45=>
cG t44 0 fun t46=>
cG t44 1 fun t47=>
qS 30 p4 t46 S45 fun S48=>
qS 48 p5 t47 S48 fun S49=>
qL 30 p4 S49 fun t50=>
qL 48 p5 S49 fun t51=>
K (.tup [t50,t51]) S49) (qE 84 p8 2 82 S fun t53=>
C 197 [t53] S fun t54 S55=>
cG t54 0 fun t56=>
cG t54 1 fun t57=>
qN S55 4 [jI 0,jI 0,jI 0,.nils] fun r58=>
qS 82 (pt r58) t56 r58.2 fun S59=>
(qG .neq 3 t57 (jI 0) fun t60=>
aH t60 (qL 30 p2 S59 fun t61=>
C 187 [t61,t57] S59 fun t62 S63=>
cG t62 0 fun t64=>
cG t62 1 fun t65=>
qS 30 p4 t64 S63 fun S66=>
qS 48 p5 t65 S66 fun S67=>
qL 30 p4 S67 fun t68=>
qL 48 p5 S67 fun t69=>
K (.tup [t68,t69]) S67) (qL 30 p2 S59 fun t70=>
qL 59 p3 S59 fun t71=>
qL 82 (pt r58) S59 fun t72=>
C 191 [t70,t71,t72] S59 fun t73 S74=>
cG t73 0 fun t75=>
cG t73 1 fun t76=>
qN S74 3 [jI 0,jI 0,jI 0] fun r77=>
qS 30 p2 t75 r77.2 fun S78=>
qS 48 (pt r77) t76 S78 fun S79=>
qE 48 (pt r77) 0 31 S79 fun t88=>
(qG .eql 31 t88 (jI 0) fun t89=>
aH t89 (qQ 26 0 [] none S79 fun r90=>
qE 30 p2 2 26 r90.2 fun t92=>
qP 26 r90.1 t92 none r90.2 fun r93=>
qX 26 r93.1 p6 fun t94=>
qF 84 t94 4 fun t95=>
qS 4 t95 (.bool true) r93.2 fun S96=>
qF 30 p2 2 fun t97=>
qS 26 t97 r93.1 S96 fun S98=>
aC7 C K p2 p4 p5 (pt r77) S98) (aC7 C K p2 p4 p5 (pt r77) S79)))))
def zF (C:aK) (K:KW) (p2 p3 p4 p5 p6 p8 p48:V) (S:St):Prop:=
aH p48 (qL 30 p2 S fun t34=>
C 187 [t34,(jI 12)] S fun t35 S36=>
cG t35 0 fun t37=>
cG t35 1 fun t38=>
qS 30 p4 t37 S36 fun S39=>
qS 48 p5 t38 S39 fun S40=>
qL 30 p4 S40 fun t41=>
qL 48 p5 S40 fun t42=>
K (.tup [t41,t42]) S40) (qE 59 p3 4 52 (up S 13) fun t100=>
C 118 [t100] (up S 13) fun t101 S102=>
wR (vD .not t101) fun t103=>
aH t103 (zD C K p2 p3 p4 p5 p6 p8 (.bool true) S102) (qE 59 p3 4 52 S102 fun t105=>
qF 84 p8 1 fun t106=>
qL 52 t106 S102 fun t107=>
C 126 [t105] S102 fun t108 S109=>
qL 52 t106 S109 fun t110=>
nW (dO t107 t110) (C 126 [t107] S109 fun t111 S112=>
qB .lss 3 t108 t111 fun t113=>
zD C K p2 p3 p4 p5 p6 p8 t113 S112)))
def aHo (C:aK) (K:KW) (p2 p3 p4 p5:V) (vs:List V) (S:St) (again0:List V→St→Prop):Prop:=
qH vs fun x6 vs=>
qH vs fun x7 vs=>
qE 30 p2 2 26 S fun t5=>
qZ 26 t5 S fun t6=>
qB .lss 3 x7 t6 fun t7=>
aH t7 (qE 30 p2 2 26 (up S 9) fun t9=>
qX 26 t9 x7 fun t10=>
qE 84 t10 0 57 (up S 9) fun t12=>
qE 59 p3 6 57 (up S 9) fun t14=>
(qG .eql 57 t12 t14 fun t15=>
aH t15 (qB .add 3 x7 (jI 1) fun t16=>
again0 [x7,t16] (up S 9)) (qB .add 3 x7 (jI 1) fun t17=>
again0 [x6,t17] (up S 9)))) (qB .lss 3 x6 (jI 0) fun t18=>
aH t18 (qL 30 p2 S fun t19=>
C 187 [t19,(jI 11)] S fun t20 S21=>
cG t20 0 fun t22=>
cG t20 1 fun t23=>
qS 30 p4 t22 S21 fun S24=>
qS 48 p5 t23 S24 fun S25=>
qL 30 p4 S25 fun t26=>
qL 48 p5 S25 fun t27=>
K (.tup [t26,t27]) S25) (qE 30 p2 2 26 S fun t29=>
qX 26 t29 x6 fun t30=>
qL 84 t30 S fun t31=>
qN S 12 [.str [],jI 0,jI 0,jI 0,jI 0,jI 0,jI 0,jI 0,.nils,.str [],jI 0,.bool false] fun r32=>
qS 84 (pt r32) t31 r32.2 fun S33=>
qE 84 (pt r32) 4 4 S33 fun t115=>
aH t115 (zF C K p2 p3 p4 p5 x6 (pt r32) (.bool true) S33) (qE 84 (pt r32) 3 57 S33 fun t117=>
qD 57 [] fun t118=>
(qG .neq 57 t117 t118 fun bCh=>
zF C K p2 p3 p4 p5 x6 (pt r32) bCh S33))))
def aX9 (C:aK) (a0 a1:V) (S:St) (K:KW):Prop:=
(qA a0 S fun r0=>
(qA a1 r0.2 fun r1=>
qN r1.2 6 [.nils,.nils,.nils,.nils,.nils,jI 0] fun r2=>
qN r2.2 3 [jI 0,jI 0,jI 0] fun r3=>
gG [(jI (-1)),(jI 0)] r3.2 (aHo C K (pt r0) (pt r1) (pt r2) (pt r3))))
theorem aXa:(fun (C:aK) (a0 a1:V) (S:St) (K:KW)=>cW prog C aLo aLp 192 [a0,a1] S K)=fun C a0 a1 S K=>aX9 C a0 a1 S K:=by kernel_rfl
theorem t192 (C:aK) (a0 a1:V) (S:St) (K:KW):cW prog C aLo aLp 192 [a0,a1] S K=aX9 C a0 a1 S K:=congrFun (congrFun (congrFun (congrFun (congrFun aXa C) a0) a1) S) K
theorem bNa {a0 a1:V} {v:V} (hc:cloVs [a0,a1]=true) (h:aX9 C a0 a1 ⟨0,.nil⟩ fun v0 S0=>dS S0 v0=.ok v):Fv 192 [a0,a1] v:=Go.AM.Fn.of (p:=aLo) (lv:=aLp) (by kernel_rfl) hc (by rw [t192];exact h)
def aC8 (C:aK) (K:KW) (p0 p3 p10:V) (S:St):Prop:=
qX 80 p0 p10 fun t0=>
qE 145 t0 2 3 S fun t2=>
C 203 [t2,p3] S fun t3 S4=>
cG t3 0 fun t5=>
cG t3 1 fun t6=>
qX 80 p0 p10 fun t7=>
qF 145 t7 2 fun t8=>
qS 3 t8 t5 S4 fun S9=>
K (.tup [p0,t6]) S9
def zG (C:aK) (K:KW) (p0 p1 p2 p3 p10 p40:V) (S:St):Prop:=
aH p40 (qD 145 [(0,p1),(1,p2)] fun t10=>
qQ 80 1 [(0,t10)] none S fun r11=>
C 280 [p0,p10,r11.1] r11.2 fun t12 S13=>
aC8 C K t12 p3 p10 S13) (aC8 C K p0 p3 p10 S)
def aC9 (C:aK) (K:KW) (p0 p1 p2 p3 p10:V) (S:St):Prop:=
qZ 80 p0 S fun t14=>
(qG .eql 3 p10 t14 fun t15=>
aH t15 (zG C K p0 p1 p2 p3 p10 (.bool true) S) (qX 80 p0 p10 fun t16=>
qE 145 t16 0 9 S fun t18=>
(qG .neq 9 t18 p1 fun t19=>
zG C K p0 p1 p2 p3 p10 t19 S)))
def aHp (C:aK) (K:KW) (p0 p1 p2 p3:V) (vs:List V) (S:St) (again0:List V→St→Prop):Prop:=
qH vs fun x10 vs=>
qZ 80 p0 S fun t20=>
qB .lss 3 x10 t20 fun t21=>
aH t21 (qX 80 p0 x10 fun t22=>
qE 145 t22 0 9 S fun t24=>
qB .lss 9 t24 p1 fun t25=>
aH t25 (qB .add 3 x10 (jI 1) fun t26=>
again0 [t26] S) (aC9 C K p0 p1 p2 p3 x10 S)) (aC9 C K p0 p1 p2 p3 x10 S)
def aXb (C:aK) (a0 a1 a2 a3:V) (S:St) (K:KW):Prop:=
gG [(jI 0)] S (aHp C K a0 a1 a2 a3)
theorem aXc:(fun (C:aK) (a0 a1 a2 a3:V) (S:St) (K:KW)=>cW prog C aL9 aLa 269 [a0,a1,a2,a3] S K)=fun C a0 a1 a2 a3 S K=>aXb C a0 a1 a2 a3 S K:=by kernel_rfl
theorem bNb (C:aK) (a0 a1 a2 a3:V) (S:St) (K:KW):cW prog C aL9 aLa 269 [a0,a1,a2,a3] S K=aXb C a0 a1 a2 a3 S K:=congrFun (congrFun (congrFun (congrFun (congrFun (congrFun (congrFun aXc C) a0) a1) a2) a3) S) K
theorem bNc {a0 a1 a2 a3:V} {S:St} {K:KW} (h:aXb C a0 a1 a2 a3 S K):C 269 [a0,a1,a2,a3] S K:=aKt (p:=aL9) (lv:=aLa) (by kernel_rfl) (by rw [bNb];exact h)
def uP (C:aK) (K:KW) (again0:List V→St→Prop) (p0 p2 p3 p4 p15 p16 p68:V) (S:St):Prop:=
aH p68 (qD 82 [] fun t37=>
qS 82 p2 t37 S fun S38=>
qL 82 p2 S38 fun t39=>
K (.tup [t39,(jI 7)]) S38) (qB .add 3 p16 (jI 1) fun t40=>
again0 [p3,t40] S)
def aHq (C:aK) (K:KW) (p0 p2 p4 p15:V) (vs:List V) (S:St) (again0:List V→St→Prop):Prop:=
qH vs fun x3 vs=>
qH vs fun x16 vs=>
qB .lss 3 x16 p15 fun t5=>
aH t5 (qX 80 p0 x16 fun t6=>
aAc t6 (qE 145 t6 2 3 (up S 17) fun t8=>
aAc t6 (qE 145 t6 1 3 (up S 17) fun t10=>
C 217 [t8,t10] (up S 17) fun t11 S12=>
cG t11 0 fun t13=>
cG t11 1 fun t14=>
aAc t6 (qF 145 t6 3 fun t15=>
qS 3 t15 t13 S12 fun S16=>
qE 82 p4 0 3 (up S16 13) fun t18=>
aAc t6 (qE 145 t6 2 3 (up S16 13) fun t20=>
C 203 [t18,t20] (up S16 13) fun t21 S22=>
cG t21 0 fun t23=>
cG t21 1 fun t24=>
qF 82 p4 0 fun t25=>
qS 3 t25 t23 S22 fun S26=>
qE 82 p4 1 3 (up S26 13) fun t28=>
aAc t6 (qE 145 t6 3 3 (up S26 13) fun t30=>
C 203 [t28,t30] (up S26 13) fun t31 S32=>
cG t31 0 fun t33=>
cG t31 1 fun t34=>
qF 82 p4 1 fun t35=>
qS 3 t35 t33 S32 fun S36=>
(qG .neq 31 t14 (jI 0) fun t41=>
aH t41 (uP C K again0 p0 p2 x3 p4 p15 x16 (.bool true) S36) ((qG .neq 31 t24 (jI 0) fun t42=>
aH t42 (uP C K again0 p0 p2 x3 p4 p15 x16 (.bool true) S36) ((qG .neq 31 t34 (jI 0) fun t43=>
uP C K again0 p0 p2 x3 p4 p15 x16 t43 S36))))))))))) (qE 82 p4 0 3 S fun t45=>
qE 82 p4 1 3 S fun t47=>
C 203 [t45,t47] S fun t48 S49=>
cG t48 0 fun t50=>
cG t48 1 fun t51=>
(qG .neq 31 t51 (jI 0) fun t52=>
aH t52 (qD 82 [] fun t53=>
qS 82 p2 t53 S49 fun S54=>
qL 82 p2 S54 fun t55=>
K (.tup [t55,t51]) S54) (qF 82 p4 2 fun t56=>
qS 3 t56 t50 S49 fun S57=>
qL 82 p4 S57 fun t58=>
qS 82 p2 t58 S57 fun S59=>
qL 82 p2 S59 fun t60=>
K (.tup [t60,(jI 0)]) S59)))
def aXd (C:aK) (a0:V) (S:St) (K:KW):Prop:=
qN S 4 [jI 0,jI 0,jI 0,.nils] fun r0=>
qD 82 [(3,a0)] fun t1=>
qN r0.2 4 [jI 0,jI 0,jI 0,.nils] fun r2=>
qS 82 (pt r2) t1 r2.2 fun S3=>
qZ 80 a0 S3 fun t4=>
gG [(jI 0),(jI 0)] S3 (aHq C K a0 (pt r0) (pt r2) t4)
theorem aXe:(fun (C:aK) (a0:V) (S:St) (K:KW)=>cW prog C aLb aLc 270 [a0] S K)=fun C a0 S K=>aXd C a0 S K:=by kernel_rfl
theorem bNd (C:aK) (a0:V) (S:St) (K:KW):cW prog C aLb aLc 270 [a0] S K=aXd C a0 S K:=congrFun (congrFun (congrFun (congrFun aXe C) a0) S) K
theorem bNe {a0:V} {S:St} {K:KW} (h:aXd C a0 S K):C 270 [a0] S K:=aKt (p:=aLb) (lv:=aLc) (by kernel_rfl) (by rw [bNd];exact h)
abbrev App (T n b:Nat):Prop:=∀ (s x:V) (fr:Option Nat) (S:St),gJ prog T s x fr S=dW n b s x fr S
abbrev Bd (T:Nat) (z:List V) (pl:List (Nat×Nat)):Prop:=∀ parts:List (Nat×V),oY prog T parts=wQ z pl parts
abbrev Bs (T n:Nat) (z:List V):Prop:=∀ (len:Nat) (parts:List (Nat×V)) (fr:Option Nat) (S:St),dA prog T len parts fr S=cI n z len parts fr S
abbrev Cv (s d:Nat) (k:IntKind):Prop:=∀ (j:IntKind) (n:Int) (fr:Option Nat) (S:St),eR prog s d (.int j n) fr S=.ok (.int k (wr k n),S)
abbrev Fa (s f o:Nat):Prop:=∀ p:V,eC prog s p f=advW o p
abbrev Ix (T n:Nat):Prop:=∀ x i:V,dI prog T x i=iF n x i
abbrev Ld (T:Nat) (k:Option Nat):Prop:=∀ (p:V) (S:St),mH prog T p S=jH k p S
abbrev Ln (T:Nat):Prop:=∀ (x:V) (S:St),aA2 prog T x S=lenW x
abbrev Sl_ (T n:Nat):Prop:=∀ (a ver off len:Nat) (lo hi:Option V),dF prog T (.sl a ver n off len) lo hi=(match dJ len lo hi with
  | .ok (l,h)=>.ok (.sl a ver n (off+l) (h - l))
  | .error e=>.error e)
abbrev Si (T n:Nat):Prop:=∀ (es:List (List V)) (hl:iW n es=true) (lo hi:Option V),dF prog T (.imm es) lo hi=(match dJ es.length lo hi with
  | .ok (l,h)=>.ok (.imm ((es.take h).drop l))
  | .error e=>.error e)
abbrev Sr (T n:Nat):Prop:=∀ (p x:V) (S:St),oX prog T p x S=fV n p x S
theorem aSv:App 102 23 224:=cZ (by kernel_rfl)
theorem aZr:App 22 1 1:=cZ (by kernel_rfl)
theorem aZs:App 24 5 48:=cZ (by kernel_rfl)
theorem aZt:App 25 4 40:=cZ (by kernel_rfl)
theorem aZu:App 26 12 128:=cZ (by kernel_rfl)
theorem aZv:App 27 2 24:=cZ (by kernel_rfl)
theorem aZw:App 28 5 40:=cZ (by kernel_rfl)
theorem aZx:App 44 17 176:=cZ (by kernel_rfl)
theorem aZy:App 55 4 48:=cZ (by kernel_rfl)
theorem aZz:App 62 3 24:=cZ (by kernel_rfl)
theorem bA0:App 71 4 40:=cZ (by kernel_rfl)
theorem bA1:App 80 4 40:=cZ (by kernel_rfl)
theorem bA2:App 96 1 8:=cZ (by kernel_rfl)
theorem bA3:App 97 23 224:=cZ (by kernel_rfl)
theorem bA4:Bd 126 [.str [],.int .i64 0,.int .i64 0,.bool false] [(0,1),(1,1),(2,1),(3,1)]:=bQ (by kernel_rfl)
theorem bA5:Bd 132 [.int .i64 0,.int .i64 0,.int .i64 0,.int .i64 0,.int .i64 0] [(0,1),(1,1),(2,3)]:=bQ (by kernel_rfl)
theorem bA6:Bd 142 [.nils,.int .i64 0,.int .i64 0] [(0,1),(1,1),(2,1)]:=bQ (by kernel_rfl)
theorem bA7:Bd 145 [.str [],.int .i64 0,.int .i64 0,.int .i64 0] [(0,1),(1,1),(2,1),(3,1)]:=bQ (by kernel_rfl)
theorem bA8:Bd 160 [.nils] [(0,1)]:=bQ (by kernel_rfl)
theorem bA9:Bd 201 [.str [],.str [],.int .i64 0,.int .i64 0] [(0,1),(1,1),(2,1),(3,1)]:=bQ (by kernel_rfl)
theorem bAa:Bd 207 [.int .i64 0,.int .i64 0,.int .i64 0,.str [],.int .i64 0,.str [],.int .i64 0,.int .i64 0,.int .i64 0,.int .i64 0,.int .i64 0,.int .i64 0,.int .i64 0,.nils,.str [],.int .i64 0,.int .i64 0,.int .i64 0,.int .i64 0,.int .i64 0,.int .i64 0,.int .i64 0,.int .i64 0] [(0,17),(17,1),(18,1),(19,1),(20,3)]:=bQ (by kernel_rfl)
theorem bAb:Bd 212 [.nili] [(0,1)]:=bQ (by kernel_rfl)
theorem bAc:Bd 225 [.nils,.int .i64 0,.int .i64 0] [(0,1),(1,1),(2,1)]:=bQ (by kernel_rfl)
theorem bAd:Bd 287 [.nils,.bool false] [(0,1),(1,1)]:=bQ (by kernel_rfl)
theorem bEj:Bd 30 [.nils,.nils,.nils,.nils,.nils,.int .i64 0] [(0,1),(1,1),(2,1),(3,1),(4,1),(5,1)]:=bQ (by kernel_rfl)
theorem bAe:Bd 346 [.int .i64 0,.int .u64 0] [(0,1),(1,1)]:=bQ (by kernel_rfl)
theorem bEk:Bd 48 [.int .i64 0,.int .i64 0,.int .i64 0] [(0,1),(1,1),(2,1)]:=bQ (by kernel_rfl)
theorem bEl:Bd 52 [.int .i64 0,.int .i64 0,.int .i64 0] [(0,1),(1,1),(2,1)]:=bQ (by kernel_rfl)
theorem bEm:Bd 54 [.str [],.int .i64 0,.int .i64 0,.int .i64 0,.int .i64 0] [(0,1),(1,3),(4,1)]:=bQ (by kernel_rfl)
theorem bEn:Bd 57 [.str [],.int .i64 0] [(0,1),(1,1)]:=bQ (by kernel_rfl)
theorem bEo:Bd 59 [.int .i64 0,.str [],.int .i64 0,.str [],.int .i64 0,.int .i64 0,.int .i64 0,.int .i64 0,.int .i64 0,.int .i64 0,.int .i64 0,.nils,.str [],.int .i64 0,.int .i64 0] [(0,1),(1,1),(2,1),(3,5),(8,3),(11,1),(12,2),(14,1)]:=bQ (by kernel_rfl)
theorem bEp:Bd 61 [.int .i64 0,.int .i64 0,.int .i64 0,.str [],.int .i64 0,.str [],.int .i64 0,.int .i64 0,.int .i64 0,.int .i64 0,.int .i64 0,.int .i64 0,.int .i64 0,.nils,.str [],.int .i64 0,.int .i64 0] [(0,1),(1,1),(2,15)]:=bQ (by kernel_rfl)
theorem bEq:Bd 76 [.str [],.int .i64 0,.int .i64 0,.int .i64 0] [(0,1),(1,1),(2,1),(3,1)]:=bQ (by kernel_rfl)
theorem bEr:Bd 77 [.str [],.int .i64 0,.int .i64 0,.int .i64 0] [(0,1),(1,1),(2,1),(3,1)]:=bQ (by kernel_rfl)
theorem bEs:Bd 82 [.int .i64 0,.int .i64 0,.int .i64 0,.nils] [(0,1),(1,1),(2,1),(3,1)]:=bQ (by kernel_rfl)
theorem bEt:Bd 84 [.str [],.int .i64 0,.int .i64 0,.int .i64 0,.int .i64 0,.int .i64 0,.int .i64 0,.int .i64 0,.nils,.str [],.int .i64 0,.bool false] [(0,2),(2,3),(5,4),(9,2),(11,1)]:=bQ (by kernel_rfl)
theorem bEu:Bd 90 [.str [],.int .i64 0] [(0,1),(1,1)]:=bQ (by kernel_rfl)
theorem bEv:Bd 99 [.int .i64 0,.int .i64 0,.int .i64 0,.str [],.int .i64 0,.str [],.int .i64 0,.int .i64 0,.int .i64 0,.int .i64 0,.int .i64 0,.int .i64 0,.int .i64 0,.nils,.str [],.int .i64 0,.int .i64 0,.int .i64 0,.int .i64 0,.int .i64 0,.int .i64 0,.int .i64 0,.int .i64 0] [(0,17),(17,1),(18,1),(19,1),(20,3)]:=bQ (by kernel_rfl)
theorem bAf:Bs 102 23 [.int .i64 0,.int .i64 0,.int .i64 0,.str [],.int .i64 0,.str [],.int .i64 0,.int .i64 0,.int .i64 0,.int .i64 0,.int .i64 0,.int .i64 0,.int .i64 0,.nils,.str [],.int .i64 0,.int .i64 0,.int .i64 0,.int .i64 0,.int .i64 0,.int .i64 0,.int .i64 0,.int .i64 0]:=bD (by kernel_rfl)
theorem bEw:Bs 22 1 [.int .u8 0]:=bD (by kernel_rfl)
theorem bEx:Bs 24 5 [.str [],.int .i64 0,.int .i64 0,.int .i64 0,.int .i64 0]:=bD (by kernel_rfl)
theorem bEy:Bs 25 4 [.str [],.int .i64 0,.int .i64 0,.bool false]:=bD (by kernel_rfl)
theorem bEz:Bs 26 12 [.str [],.int .i64 0,.int .i64 0,.int .i64 0,.int .i64 0,.int .i64 0,.int .i64 0,.int .i64 0,.nils,.str [],.int .i64 0,.bool false]:=bD (by kernel_rfl)
theorem bF0:Bs 27 2 [.str [],.int .i64 0]:=bD (by kernel_rfl)
theorem bF1:Bs 28 5 [.int .i64 0,.int .i64 0,.int .i64 0,.int .i64 0,.int .i64 0]:=bD (by kernel_rfl)
theorem bAg:Bs 361 1 [.nilp]:=bD (by kernel_rfl)
theorem bAh:Bs 364 1 [.str []]:=bD (by kernel_rfl)
theorem bF2:Bs 44 17 [.int .i64 0,.int .i64 0,.int .i64 0,.str [],.int .i64 0,.str [],.int .i64 0,.int .i64 0,.int .i64 0,.int .i64 0,.int .i64 0,.int .i64 0,.int .i64 0,.nils,.str [],.int .i64 0,.int .i64 0]:=bD (by kernel_rfl)
theorem bF3:Bs 55 4 [.str [],.str [],.int .i64 0,.int .i64 0]:=bD (by kernel_rfl)
theorem bF4:Bs 62 3 [.int .i64 0,.int .i64 0,.int .i64 0]:=bD (by kernel_rfl)
theorem bF5:Bs 68 4 [.str [],.int .i64 0,.int .i64 0,.int .i64 0]:=bD (by kernel_rfl)
theorem bF6:Bs 71 4 [.str [],.int .i64 0,.int .i64 0,.int .i64 0]:=bD (by kernel_rfl)
theorem bF7:Bs 80 4 [.str [],.int .i64 0,.int .i64 0,.int .i64 0]:=bD (by kernel_rfl)
theorem bF8:Bs 96 1 [.int .i64 0]:=bD (by kernel_rfl)
theorem bF9:Bs 97 23 [.int .i64 0,.int .i64 0,.int .i64 0,.str [],.int .i64 0,.str [],.int .i64 0,.int .i64 0,.int .i64 0,.int .i64 0,.int .i64 0,.int .i64 0,.int .i64 0,.nils,.str [],.int .i64 0,.int .i64 0,.int .i64 0,.int .i64 0,.int .i64 0,.int .i64 0,.int .i64 0,.int .i64 0]:=bD (by kernel_rfl)
theorem aN9:Cv 229 3 .i64:=lO (by kernel_rfl)
theorem aNa:Cv 229 5 .u8:=lO (by kernel_rfl)
theorem aNb:Cv 3 229 .u64:=lO (by kernel_rfl)
theorem aNc:Cv 3 231 .u64:=lO (by kernel_rfl)
theorem aNd:Cv 5 229 .u64:=lO (by kernel_rfl)
theorem bCk:(fun (a_0:List UInt8) (a_1:Int) (a_2:Int) (a_3:Bool) (b_0:List UInt8) (b_1:Int) (b_2:Int) (b_3:Bool)=>sW prog 100 126 (.agg [.str a_0,.int .i64 a_1,.int .i64 a_2,.bool a_3]) (.agg [.str b_0,.int .i64 b_1,.int .i64 b_2,.bool b_3]))=fun a_0 a_1 a_2 a_3 b_0 b_1 b_2 b_3=>(fX (.ok (qJ a_0 b_0)) (fX (.ok (decide (a_1=b_1))) (fX (.ok (decide (a_2=b_2))) (fX (.ok (a_3 == b_3)) (.ok true))))):=by kernel_rfl
theorem bAi (a_0:List UInt8) (a_1:Int) (a_2:Int) (a_3:Bool) (b_0:List UInt8) (b_1:Int) (b_2:Int) (b_3:Bool):sW prog 100 126 (.agg [.str a_0,.int .i64 a_1,.int .i64 a_2,.bool a_3]) (.agg [.str b_0,.int .i64 b_1,.int .i64 b_2,.bool b_3])=.ok ((a_0 == b_0)&&decide (a_1=b_1)&&decide (a_2=b_2)&&(a_3 == b_3)):=by
 refine (congrFun (congrFun (congrFun (congrFun (congrFun (congrFun (congrFun (congrFun bCk a_0) a_1) a_2) a_3) b_0) b_1) b_2) b_3).trans ?_
 simp only [jY,dR,Bool.and_true,Bool.and_assoc]
theorem bFa:(fun a b=>cO prog 126 (.agg a) (.agg b))=fun _ _=>true:=by kernel_rfl
theorem bAj (a b:List V):cO prog 126 (.agg a) (.agg b)=true:=congrFun (congrFun bFa a) b
theorem bCl:(fun (a_0:Int) (a_1:Int) (a_2_0:Int) (a_2_1:Int) (a_2_2:Int) (b_0:Int) (b_1:Int) (b_2_0:Int) (b_2_1:Int) (b_2_2:Int)=>sW prog 100 132 (.agg [.int .i64 a_0,.int .i64 a_1,.int .i64 a_2_0,.int .i64 a_2_1,.int .i64 a_2_2]) (.agg [.int .i64 b_0,.int .i64 b_1,.int .i64 b_2_0,.int .i64 b_2_1,.int .i64 b_2_2]))=fun a_0 a_1 a_2_0 a_2_1 a_2_2 b_0 b_1 b_2_0 b_2_1 b_2_2=>(fX (.ok (decide (a_0=b_0))) (fX (.ok (decide (a_1=b_1))) (fX (fX (.ok (decide (a_2_0=b_2_0))) (fX (.ok (decide (a_2_1=b_2_1))) (fX (.ok (decide (a_2_2=b_2_2))) (.ok true)))) (.ok true)))):=by kernel_rfl
theorem bAk (a_0:Int) (a_1:Int) (a_2_0:Int) (a_2_1:Int) (a_2_2:Int) (b_0:Int) (b_1:Int) (b_2_0:Int) (b_2_1:Int) (b_2_2:Int):sW prog 100 132 (.agg [.int .i64 a_0,.int .i64 a_1,.int .i64 a_2_0,.int .i64 a_2_1,.int .i64 a_2_2]) (.agg [.int .i64 b_0,.int .i64 b_1,.int .i64 b_2_0,.int .i64 b_2_1,.int .i64 b_2_2])=.ok (decide (a_0=b_0)&&decide (a_1=b_1)&&decide (a_2_0=b_2_0)&&decide (a_2_1=b_2_1)&&decide (a_2_2=b_2_2)):=by
 refine (congrFun (congrFun (congrFun (congrFun (congrFun (congrFun (congrFun (congrFun (congrFun (congrFun bCl a_0) a_1) a_2_0) a_2_1) a_2_2) b_0) b_1) b_2_0) b_2_1) b_2_2).trans ?_
 simp only [jY,dR,Bool.and_true,Bool.and_assoc]
theorem bFb:(fun a b=>cO prog 132 (.agg a) (.agg b))=fun _ _=>true:=by kernel_rfl
theorem bAl (a b:List V):cO prog 132 (.agg a) (.agg b)=true:=congrFun (congrFun bFb a) b
theorem bCm:(fun (a_0:List UInt8) (a_1:Int) (a_2:Int) (a_3:Int) (b_0:List UInt8) (b_1:Int) (b_2:Int) (b_3:Int)=>sW prog 100 145 (.agg [.str a_0,.int .i64 a_1,.int .i64 a_2,.int .i64 a_3]) (.agg [.str b_0,.int .i64 b_1,.int .i64 b_2,.int .i64 b_3]))=fun a_0 a_1 a_2 a_3 b_0 b_1 b_2 b_3=>(fX (.ok (qJ a_0 b_0)) (fX (.ok (decide (a_1=b_1))) (fX (.ok (decide (a_2=b_2))) (fX (.ok (decide (a_3=b_3))) (.ok true))))):=by kernel_rfl
theorem bAm (a_0:List UInt8) (a_1:Int) (a_2:Int) (a_3:Int) (b_0:List UInt8) (b_1:Int) (b_2:Int) (b_3:Int):sW prog 100 145 (.agg [.str a_0,.int .i64 a_1,.int .i64 a_2,.int .i64 a_3]) (.agg [.str b_0,.int .i64 b_1,.int .i64 b_2,.int .i64 b_3])=.ok ((a_0 == b_0)&&decide (a_1=b_1)&&decide (a_2=b_2)&&decide (a_3=b_3)):=by
 refine (congrFun (congrFun (congrFun (congrFun (congrFun (congrFun (congrFun (congrFun bCm a_0) a_1) a_2) a_3) b_0) b_1) b_2) b_3).trans ?_
 simp only [jY,dR,Bool.and_true,Bool.and_assoc]
theorem bFc:(fun a b=>cO prog 145 (.agg a) (.agg b))=fun _ _=>true:=by kernel_rfl
theorem bAn (a b:List V):cO prog 145 (.agg a) (.agg b)=true:=congrFun (congrFun bFc a) b
theorem bCn:(fun (a_0:List UInt8) (a_1:List UInt8) (a_2:Int) (a_3:Int) (b_0:List UInt8) (b_1:List UInt8) (b_2:Int) (b_3:Int)=>sW prog 100 201 (.agg [.str a_0,.str a_1,.int .i64 a_2,.int .i64 a_3]) (.agg [.str b_0,.str b_1,.int .i64 b_2,.int .i64 b_3]))=fun a_0 a_1 a_2 a_3 b_0 b_1 b_2 b_3=>(fX (.ok (qJ a_0 b_0)) (fX (.ok (qJ a_1 b_1)) (fX (.ok (decide (a_2=b_2))) (fX (.ok (decide (a_3=b_3))) (.ok true))))):=by kernel_rfl
theorem bAo (a_0:List UInt8) (a_1:List UInt8) (a_2:Int) (a_3:Int) (b_0:List UInt8) (b_1:List UInt8) (b_2:Int) (b_3:Int):sW prog 100 201 (.agg [.str a_0,.str a_1,.int .i64 a_2,.int .i64 a_3]) (.agg [.str b_0,.str b_1,.int .i64 b_2,.int .i64 b_3])=.ok ((a_0 == b_0)&&(a_1 == b_1)&&decide (a_2=b_2)&&decide (a_3=b_3)):=by
 refine (congrFun (congrFun (congrFun (congrFun (congrFun (congrFun (congrFun (congrFun bCn a_0) a_1) a_2) a_3) b_0) b_1) b_2) b_3).trans ?_
 simp only [jY,dR,Bool.and_true,Bool.and_assoc]
theorem bFd:(fun a b=>cO prog 201 (.agg a) (.agg b))=fun _ _=>true:=by kernel_rfl
theorem bAp (a b:List V):cO prog 201 (.agg a) (.agg b)=true:=congrFun (congrFun bFd a) b
theorem bCo:(fun (a_0:Int) (a_1:Int) (b_0:Int) (b_1:Int)=>sW prog 100 346 (.agg [.int .i64 a_0,.int .u64 a_1]) (.agg [.int .i64 b_0,.int .u64 b_1]))=fun a_0 a_1 b_0 b_1=>(fX (.ok (decide (a_0=b_0))) (fX (.ok (decide (a_1=b_1))) (.ok true))):=by kernel_rfl
theorem bAq (a_0:Int) (a_1:Int) (b_0:Int) (b_1:Int):sW prog 100 346 (.agg [.int .i64 a_0,.int .u64 a_1]) (.agg [.int .i64 b_0,.int .u64 b_1])=.ok (decide (a_0=b_0)&&decide (a_1=b_1)):=by
 refine (congrFun (congrFun (congrFun (congrFun bCo a_0) a_1) b_0) b_1).trans ?_
 simp only [jY,dR,Bool.and_true,Bool.and_assoc]
theorem bFe:(fun a b=>cO prog 346 (.agg a) (.agg b))=fun _ _=>true:=by kernel_rfl
theorem bAr (a b:List V):cO prog 346 (.agg a) (.agg b)=true:=congrFun (congrFun bFe a) b
theorem bFf:(fun (a_0:Int) (a_1:Int) (a_2:Int) (b_0:Int) (b_1:Int) (b_2:Int)=>sW prog 100 48 (.agg [.int .i64 a_0,.int .i64 a_1,.int .i64 a_2]) (.agg [.int .i64 b_0,.int .i64 b_1,.int .i64 b_2]))=fun a_0 a_1 a_2 b_0 b_1 b_2=>(fX (.ok (decide (a_0=b_0))) (fX (.ok (decide (a_1=b_1))) (fX (.ok (decide (a_2=b_2))) (.ok true)))):=by kernel_rfl
theorem bFg (a_0:Int) (a_1:Int) (a_2:Int) (b_0:Int) (b_1:Int) (b_2:Int):sW prog 100 48 (.agg [.int .i64 a_0,.int .i64 a_1,.int .i64 a_2]) (.agg [.int .i64 b_0,.int .i64 b_1,.int .i64 b_2])=.ok (decide (a_0=b_0)&&decide (a_1=b_1)&&decide (a_2=b_2)):=by
 refine (congrFun (congrFun (congrFun (congrFun (congrFun (congrFun bFf a_0) a_1) a_2) b_0) b_1) b_2).trans ?_
 simp only [jY,dR,Bool.and_true,Bool.and_assoc]
theorem bNf:(fun a b=>cO prog 48 (.agg a) (.agg b))=fun _ _=>true:=by kernel_rfl
theorem bFh (a b:List V):cO prog 48 (.agg a) (.agg b)=true:=congrFun (congrFun bNf a) b
theorem bFi:(fun (a_0:Int) (a_1:Int) (a_2:Int) (b_0:Int) (b_1:Int) (b_2:Int)=>sW prog 100 52 (.agg [.int .i64 a_0,.int .i64 a_1,.int .i64 a_2]) (.agg [.int .i64 b_0,.int .i64 b_1,.int .i64 b_2]))=fun a_0 a_1 a_2 b_0 b_1 b_2=>(fX (.ok (decide (a_0=b_0))) (fX (.ok (decide (a_1=b_1))) (fX (.ok (decide (a_2=b_2))) (.ok true)))):=by kernel_rfl
theorem bFj (a_0:Int) (a_1:Int) (a_2:Int) (b_0:Int) (b_1:Int) (b_2:Int):sW prog 100 52 (.agg [.int .i64 a_0,.int .i64 a_1,.int .i64 a_2]) (.agg [.int .i64 b_0,.int .i64 b_1,.int .i64 b_2])=.ok (decide (a_0=b_0)&&decide (a_1=b_1)&&decide (a_2=b_2)):=by
 refine (congrFun (congrFun (congrFun (congrFun (congrFun (congrFun bFi a_0) a_1) a_2) b_0) b_1) b_2).trans ?_
 simp only [jY,dR,Bool.and_true,Bool.and_assoc]
theorem bNg:(fun a b=>cO prog 52 (.agg a) (.agg b))=fun _ _=>true:=by kernel_rfl
theorem bFk (a b:List V):cO prog 52 (.agg a) (.agg b)=true:=congrFun (congrFun bNg a) b
theorem bFl:(fun (a_0:List UInt8) (a_1_0:Int) (a_1_1:Int) (a_1_2:Int) (a_2:Int) (b_0:List UInt8) (b_1_0:Int) (b_1_1:Int) (b_1_2:Int) (b_2:Int)=>sW prog 100 54 (.agg [.str a_0,.int .i64 a_1_0,.int .i64 a_1_1,.int .i64 a_1_2,.int .i64 a_2]) (.agg [.str b_0,.int .i64 b_1_0,.int .i64 b_1_1,.int .i64 b_1_2,.int .i64 b_2]))=fun a_0 a_1_0 a_1_1 a_1_2 a_2 b_0 b_1_0 b_1_1 b_1_2 b_2=>(fX (.ok (qJ a_0 b_0)) (fX (fX (.ok (decide (a_1_0=b_1_0))) (fX (.ok (decide (a_1_1=b_1_1))) (fX (.ok (decide (a_1_2=b_1_2))) (.ok true)))) (fX (.ok (decide (a_2=b_2))) (.ok true)))):=by kernel_rfl
theorem bFm (a_0:List UInt8) (a_1_0:Int) (a_1_1:Int) (a_1_2:Int) (a_2:Int) (b_0:List UInt8) (b_1_0:Int) (b_1_1:Int) (b_1_2:Int) (b_2:Int):sW prog 100 54 (.agg [.str a_0,.int .i64 a_1_0,.int .i64 a_1_1,.int .i64 a_1_2,.int .i64 a_2]) (.agg [.str b_0,.int .i64 b_1_0,.int .i64 b_1_1,.int .i64 b_1_2,.int .i64 b_2])=.ok ((a_0 == b_0)&&decide (a_1_0=b_1_0)&&decide (a_1_1=b_1_1)&&decide (a_1_2=b_1_2)&&decide (a_2=b_2)):=by
 refine (congrFun (congrFun (congrFun (congrFun (congrFun (congrFun (congrFun (congrFun (congrFun (congrFun bFl a_0) a_1_0) a_1_1) a_1_2) a_2) b_0) b_1_0) b_1_1) b_1_2) b_2).trans ?_
 simp only [jY,dR,Bool.and_true,Bool.and_assoc]
theorem bNh:(fun a b=>cO prog 54 (.agg a) (.agg b))=fun _ _=>true:=by kernel_rfl
theorem bFn (a b:List V):cO prog 54 (.agg a) (.agg b)=true:=congrFun (congrFun bNh a) b
theorem bFo:(fun (a_0:List UInt8) (a_1:Int) (b_0:List UInt8) (b_1:Int)=>sW prog 100 57 (.agg [.str a_0,.int .i64 a_1]) (.agg [.str b_0,.int .i64 b_1]))=fun a_0 a_1 b_0 b_1=>(fX (.ok (qJ a_0 b_0)) (fX (.ok (decide (a_1=b_1))) (.ok true))):=by kernel_rfl
theorem bFp (a_0:List UInt8) (a_1:Int) (b_0:List UInt8) (b_1:Int):sW prog 100 57 (.agg [.str a_0,.int .i64 a_1]) (.agg [.str b_0,.int .i64 b_1])=.ok ((a_0 == b_0)&&decide (a_1=b_1)):=by
 refine (congrFun (congrFun (congrFun (congrFun bFo a_0) a_1) b_0) b_1).trans ?_
 simp only [jY,dR,Bool.and_true,Bool.and_assoc]
theorem bNi:(fun a b=>cO prog 57 (.agg a) (.agg b))=fun _ _=>true:=by kernel_rfl
theorem bFq (a b:List V):cO prog 57 (.agg a) (.agg b)=true:=congrFun (congrFun bNi a) b
theorem bFr:(fun (a_0:List UInt8) (a_1:Int) (a_2:Int) (a_3:Int) (b_0:List UInt8) (b_1:Int) (b_2:Int) (b_3:Int)=>sW prog 100 76 (.agg [.str a_0,.int .i64 a_1,.int .i64 a_2,.int .i64 a_3]) (.agg [.str b_0,.int .i64 b_1,.int .i64 b_2,.int .i64 b_3]))=fun a_0 a_1 a_2 a_3 b_0 b_1 b_2 b_3=>(fX (.ok (qJ a_0 b_0)) (fX (.ok (decide (a_1=b_1))) (fX (.ok (decide (a_2=b_2))) (fX (.ok (decide (a_3=b_3))) (.ok true))))):=by kernel_rfl
theorem bFs (a_0:List UInt8) (a_1:Int) (a_2:Int) (a_3:Int) (b_0:List UInt8) (b_1:Int) (b_2:Int) (b_3:Int):sW prog 100 76 (.agg [.str a_0,.int .i64 a_1,.int .i64 a_2,.int .i64 a_3]) (.agg [.str b_0,.int .i64 b_1,.int .i64 b_2,.int .i64 b_3])=.ok ((a_0 == b_0)&&decide (a_1=b_1)&&decide (a_2=b_2)&&decide (a_3=b_3)):=by
 refine (congrFun (congrFun (congrFun (congrFun (congrFun (congrFun (congrFun (congrFun bFr a_0) a_1) a_2) a_3) b_0) b_1) b_2) b_3).trans ?_
 simp only [jY,dR,Bool.and_true,Bool.and_assoc]
theorem bNj:(fun a b=>cO prog 76 (.agg a) (.agg b))=fun _ _=>true:=by kernel_rfl
theorem bFt (a b:List V):cO prog 76 (.agg a) (.agg b)=true:=congrFun (congrFun bNj a) b
theorem bFu:(fun (a_0:List UInt8) (a_1:Int) (b_0:List UInt8) (b_1:Int)=>sW prog 100 90 (.agg [.str a_0,.int .i64 a_1]) (.agg [.str b_0,.int .i64 b_1]))=fun a_0 a_1 b_0 b_1=>(fX (.ok (qJ a_0 b_0)) (fX (.ok (decide (a_1=b_1))) (.ok true))):=by kernel_rfl
theorem bFv (a_0:List UInt8) (a_1:Int) (b_0:List UInt8) (b_1:Int):sW prog 100 90 (.agg [.str a_0,.int .i64 a_1]) (.agg [.str b_0,.int .i64 b_1])=.ok ((a_0 == b_0)&&decide (a_1=b_1)):=by
 refine (congrFun (congrFun (congrFun (congrFun bFu a_0) a_1) b_0) b_1).trans ?_
 simp only [jY,dR,Bool.and_true,Bool.and_assoc]
theorem bNk:(fun a b=>cO prog 90 (.agg a) (.agg b))=fun _ _=>true:=by kernel_rfl
theorem bFw (a b:List V):cO prog 90 (.agg a) (.agg b)=true:=congrFun (congrFun bNk a) b
theorem aNe:Fa 126 0 0:=aB (by kernel_rfl)
theorem aNf:Fa 126 1 1:=aB (by kernel_rfl)
theorem aNg:Fa 126 2 2:=aB (by kernel_rfl)
theorem aNh:Fa 126 3 3:=aB (by kernel_rfl)
theorem aNi:Fa 132 0 0:=aB (by kernel_rfl)
theorem aNj:Fa 132 1 1:=aB (by kernel_rfl)
theorem aNk:Fa 132 2 2:=aB (by kernel_rfl)
theorem aNl:Fa 142 0 0:=aB (by kernel_rfl)
theorem aNm:Fa 142 1 1:=aB (by kernel_rfl)
theorem aNn:Fa 142 2 2:=aB (by kernel_rfl)
theorem aNo:Fa 145 0 0:=aB (by kernel_rfl)
theorem aNp:Fa 145 1 1:=aB (by kernel_rfl)
theorem aNq:Fa 145 2 2:=aB (by kernel_rfl)
theorem aNr:Fa 145 3 3:=aB (by kernel_rfl)
theorem aNs:Fa 160 0 0:=aB (by kernel_rfl)
theorem aNt:Fa 201 0 0:=aB (by kernel_rfl)
theorem aNu:Fa 201 1 1:=aB (by kernel_rfl)
theorem aNv:Fa 201 2 2:=aB (by kernel_rfl)
theorem aNw:Fa 201 3 3:=aB (by kernel_rfl)
theorem aNx:Fa 207 0 0:=aB (by kernel_rfl)
theorem aNy:Fa 207 1 17:=aB (by kernel_rfl)
theorem aNz:Fa 207 2 18:=aB (by kernel_rfl)
theorem aO0:Fa 207 3 19:=aB (by kernel_rfl)
theorem aO1:Fa 207 4 20:=aB (by kernel_rfl)
theorem aO2:Fa 220 1 1:=aB (by kernel_rfl)
theorem aO3:Fa 220 2 2:=aB (by kernel_rfl)
theorem aO4:Fa 225 0 0:=aB (by kernel_rfl)
theorem aO5:Fa 225 1 1:=aB (by kernel_rfl)
theorem aO6:Fa 225 2 2:=aB (by kernel_rfl)
theorem aO7:Fa 287 0 0:=aB (by kernel_rfl)
theorem aO8:Fa 287 1 1:=aB (by kernel_rfl)
theorem aSw:Fa 30 0 0:=aB (by kernel_rfl)
theorem aSx:Fa 30 1 1:=aB (by kernel_rfl)
theorem aSy:Fa 30 2 2:=aB (by kernel_rfl)
theorem aSz:Fa 30 3 3:=aB (by kernel_rfl)
theorem aT0:Fa 30 4 4:=aB (by kernel_rfl)
theorem aT1:Fa 30 5 5:=aB (by kernel_rfl)
theorem aO9:Fa 346 0 0:=aB (by kernel_rfl)
theorem aOa:Fa 346 1 1:=aB (by kernel_rfl)
theorem aT2:Fa 48 0 0:=aB (by kernel_rfl)
theorem aT3:Fa 48 1 1:=aB (by kernel_rfl)
theorem aT4:Fa 48 2 2:=aB (by kernel_rfl)
theorem aT5:Fa 52 0 0:=aB (by kernel_rfl)
theorem aT6:Fa 52 1 1:=aB (by kernel_rfl)
theorem aT7:Fa 52 2 2:=aB (by kernel_rfl)
theorem aT8:Fa 54 0 0:=aB (by kernel_rfl)
theorem aT9:Fa 54 1 1:=aB (by kernel_rfl)
theorem aTa:Fa 54 2 4:=aB (by kernel_rfl)
theorem aTb:Fa 57 0 0:=aB (by kernel_rfl)
theorem aTc:Fa 57 1 1:=aB (by kernel_rfl)
theorem aTd:Fa 59 0 0:=aB (by kernel_rfl)
theorem aTe:Fa 59 1 1:=aB (by kernel_rfl)
theorem aTf:Fa 59 2 2:=aB (by kernel_rfl)
theorem aTg:Fa 59 3 3:=aB (by kernel_rfl)
theorem aTh:Fa 59 4 8:=aB (by kernel_rfl)
theorem aTi:Fa 59 5 11:=aB (by kernel_rfl)
theorem aTj:Fa 59 6 12:=aB (by kernel_rfl)
theorem aTk:Fa 59 7 14:=aB (by kernel_rfl)
theorem aTl:Fa 61 0 0:=aB (by kernel_rfl)
theorem aTm:Fa 61 1 1:=aB (by kernel_rfl)
theorem aTn:Fa 61 2 2:=aB (by kernel_rfl)
theorem aTo:Fa 76 0 0:=aB (by kernel_rfl)
theorem aTp:Fa 76 1 1:=aB (by kernel_rfl)
theorem aTq:Fa 76 2 2:=aB (by kernel_rfl)
theorem aTr:Fa 76 3 3:=aB (by kernel_rfl)
theorem aTs:Fa 77 0 0:=aB (by kernel_rfl)
theorem aTt:Fa 77 1 1:=aB (by kernel_rfl)
theorem aTu:Fa 77 2 2:=aB (by kernel_rfl)
theorem aTv:Fa 77 3 3:=aB (by kernel_rfl)
theorem aTw:Fa 82 0 0:=aB (by kernel_rfl)
theorem aTx:Fa 82 1 1:=aB (by kernel_rfl)
theorem aTy:Fa 82 2 2:=aB (by kernel_rfl)
theorem aTz:Fa 82 3 3:=aB (by kernel_rfl)
theorem aU0:Fa 84 0 0:=aB (by kernel_rfl)
theorem aU1:Fa 84 1 2:=aB (by kernel_rfl)
theorem aU2:Fa 84 2 5:=aB (by kernel_rfl)
theorem aU3:Fa 84 3 9:=aB (by kernel_rfl)
theorem aU4:Fa 84 4 11:=aB (by kernel_rfl)
theorem aU5:Fa 90 0 0:=aB (by kernel_rfl)
theorem aU6:Fa 90 1 1:=aB (by kernel_rfl)
theorem aU7:Fa 99 0 0:=aB (by kernel_rfl)
theorem aU8:Fa 99 1 17:=aB (by kernel_rfl)
theorem aU9:Fa 99 2 18:=aB (by kernel_rfl)
theorem aUa:Fa 99 3 19:=aB (by kernel_rfl)
theorem aUb:Fa 99 4 20:=aB (by kernel_rfl)
theorem bAs:Ix 102 23:=bF (by kernel_rfl)
theorem bAt:Ix 114 3:=bF (by kernel_rfl)
theorem bFx:Ix 22 1:=bF (by kernel_rfl)
theorem bFy:Ix 24 5:=bF (by kernel_rfl)
theorem bFz:Ix 25 4:=bF (by kernel_rfl)
theorem bG0:Ix 26 12:=bF (by kernel_rfl)
theorem bG1:Ix 27 2:=bF (by kernel_rfl)
theorem bG2:Ix 28 5:=bF (by kernel_rfl)
theorem bAu:Ix 361 1:=bF (by kernel_rfl)
theorem bAv:Ix 364 1:=bF (by kernel_rfl)
theorem bG3:Ix 44 17:=bF (by kernel_rfl)
theorem bG4:Ix 55 4:=bF (by kernel_rfl)
theorem bG5:Ix 62 3:=bF (by kernel_rfl)
theorem bG6:Ix 68 4:=bF (by kernel_rfl)
theorem bG7:Ix 71 4:=bF (by kernel_rfl)
theorem bG8:Ix 80 4:=bF (by kernel_rfl)
theorem bG9:Ix 96 1:=bF (by kernel_rfl)
theorem bGa:Ix 97 23:=bF (by kernel_rfl)
theorem bAw:Ld 126 (some 4):=bC (by kernel_rfl)
theorem bAx:Ld 132 (some 5):=bC (by kernel_rfl)
theorem bAy:Ld 145 (some 4):=bC (by kernel_rfl)
theorem ld2:Ld 2 none:=bC (by kernel_rfl)
theorem bAz:Ld 201 (some 4):=bC (by kernel_rfl)
theorem bB0:Ld 212 (some 1):=bC (by kernel_rfl)
theorem bGb:Ld 22 none:=bC (by kernel_rfl)
theorem bB1:Ld 220 (some 3):=bC (by kernel_rfl)
theorem bB2:Ld 229 none:=bC (by kernel_rfl)
theorem bB3:Ld 232 none:=bC (by kernel_rfl)
theorem bGc:Ld 24 none:=bC (by kernel_rfl)
theorem bGd:Ld 25 none:=bC (by kernel_rfl)
theorem bGe:Ld 26 none:=bC (by kernel_rfl)
theorem bGf:Ld 27 none:=bC (by kernel_rfl)
theorem bGg:Ld 28 none:=bC (by kernel_rfl)
theorem ld3:Ld 3 none:=bC (by kernel_rfl)
theorem bGh:Ld 30 (some 6):=bC (by kernel_rfl)
theorem bGi:Ld 31 none:=bC (by kernel_rfl)
theorem bB4:Ld 346 (some 2):=bC (by kernel_rfl)
theorem bB5:Ld 349 none:=bC (by kernel_rfl)
theorem ld4:Ld 4 none:=bC (by kernel_rfl)
theorem bGj:Ld 48 (some 3):=bC (by kernel_rfl)
theorem ld5:Ld 5 none:=bC (by kernel_rfl)
theorem bGk:Ld 52 (some 3):=bC (by kernel_rfl)
theorem bGl:Ld 54 (some 5):=bC (by kernel_rfl)
theorem bGm:Ld 55 none:=bC (by kernel_rfl)
theorem bGn:Ld 57 (some 2):=bC (by kernel_rfl)
theorem bGo:Ld 59 (some 15):=bC (by kernel_rfl)
theorem bGp:Ld 61 (some 17):=bC (by kernel_rfl)
theorem bGq:Ld 76 (some 4):=bC (by kernel_rfl)
theorem bGr:Ld 80 none:=bC (by kernel_rfl)
theorem bGs:Ld 82 (some 4):=bC (by kernel_rfl)
theorem bGt:Ld 84 (some 12):=bC (by kernel_rfl)
theorem ld9:Ld 9 none:=bC (by kernel_rfl)
theorem bGu:Ld 90 (some 2):=bC (by kernel_rfl)
theorem bGv:Ld 99 (some 23):=bC (by kernel_rfl)
theorem aUc:Ln 102:=fA (by kernel_rfl)
theorem aUd:Ln 114:=fA (by kernel_rfl)
theorem bB6:Ln 22:=fA (by kernel_rfl)
theorem bB7:Ln 24:=fA (by kernel_rfl)
theorem bB8:Ln 25:=fA (by kernel_rfl)
theorem bB9:Ln 26:=fA (by kernel_rfl)
theorem bBa:Ln 27:=fA (by kernel_rfl)
theorem bBb:Ln 28:=fA (by kernel_rfl)
theorem aUe:Ln 361:=fA (by kernel_rfl)
theorem aUf:Ln 364:=fA (by kernel_rfl)
theorem bBc:Ln 44:=fA (by kernel_rfl)
theorem bBd:Ln 55:=fA (by kernel_rfl)
theorem bBe:Ln 62:=fA (by kernel_rfl)
theorem bBf:Ln 68:=fA (by kernel_rfl)
theorem bBg:Ln 71:=fA (by kernel_rfl)
theorem bBh:Ln 80:=fA (by kernel_rfl)
theorem bGw (s:List UInt8) (S:St):aA2 prog 9 (.str s) S=.ok (.int .i64 s.length):=aPw (by kernel_rfl) s S
theorem bBi:Ln 96:=fA (by kernel_rfl)
theorem bBj:Ln 97:=fA (by kernel_rfl)
theorem bGx:Sl_ 22 1:=fW (by kernel_rfl)
theorem bGy:Sl_ 24 5:=fW (by kernel_rfl)
theorem bBk:Si 24 5:=nL (by kernel_rfl)
theorem bGz:Sl_ 25 4:=fW (by kernel_rfl)
theorem bBl:Si 25 4:=nL (by kernel_rfl)
theorem bH0:Sl_ 26 12:=fW (by kernel_rfl)
theorem bH1:Si 26 12:=nL (by kernel_rfl)
theorem bCp:Sl_ 27 2:=fW (by kernel_rfl)
theorem bH2:Sl_ 28 5:=fW (by kernel_rfl)
theorem bBm:Si 28 5:=nL (by kernel_rfl)
theorem bH3:Sl_ 55 4:=fW (by kernel_rfl)
theorem bH4:Si 55 4:=nL (by kernel_rfl)
theorem bH5:Sl_ 71 4:=fW (by kernel_rfl)
theorem aXf:Sl_ 80 4:=fW (by kernel_rfl)
theorem bH6:Sl_ 96 1:=fW (by kernel_rfl)
theorem bH7:Sl_ 97 23:=fW (by kernel_rfl)
theorem bBn:Sr 126 4:=aY (by kernel_rfl)
theorem bBo:Sr 132 5:=aY (by kernel_rfl)
theorem bBp:Sr 145 4:=aY (by kernel_rfl)
theorem bBq:Sr 201 4:=aY (by kernel_rfl)
theorem bBr:Sr 212 1:=aY (by kernel_rfl)
theorem bH8:Sr 22 1:=aY (by kernel_rfl)
theorem bBs:Sr 220 3:=aY (by kernel_rfl)
theorem bBt:Sr 232 1:=aY (by kernel_rfl)
theorem bH9:Sr 24 1:=aY (by kernel_rfl)
theorem bHa:Sr 25 1:=aY (by kernel_rfl)
theorem bHb:Sr 26 1:=aY (by kernel_rfl)
theorem bHc:Sr 27 1:=aY (by kernel_rfl)
theorem bHd:Sr 28 1:=aY (by kernel_rfl)
theorem st3:Sr 3 1:=aY (by kernel_rfl)
theorem bHe:Sr 30 6:=aY (by kernel_rfl)
theorem bHf:Sr 31 1:=aY (by kernel_rfl)
theorem bBu:Sr 346 2:=aY (by kernel_rfl)
theorem st4:Sr 4 1:=aY (by kernel_rfl)
theorem bHg:Sr 48 3:=aY (by kernel_rfl)
theorem st5:Sr 5 1:=aY (by kernel_rfl)
theorem bHh:Sr 52 3:=aY (by kernel_rfl)
theorem bHi:Sr 54 5:=aY (by kernel_rfl)
theorem bHj:Sr 55 1:=aY (by kernel_rfl)
theorem bHk:Sr 57 2:=aY (by kernel_rfl)
theorem bHl:Sr 59 15:=aY (by kernel_rfl)
theorem bHm:Sr 61 17:=aY (by kernel_rfl)
theorem bHn:Sr 80 1:=aY (by kernel_rfl)
theorem bHo:Sr 82 4:=aY (by kernel_rfl)
theorem bHp:Sr 84 12:=aY (by kernel_rfl)
theorem st9:Sr 9 1:=aY (by kernel_rfl)
theorem bHq:Sr 90 2:=aY (by kernel_rfl)
theorem bHr:Sr 99 23:=aY (by kernel_rfl)
end Go.Proofs.YtoaibmbldmckaaaGreat
end
section
namespace Go.AM
open Go.RowKit Go.Lib Go.Proofs Go.Shelf
theorem aDd {P:Program} {t:TypeId} (h:(P.info? t).isSome=true) (w:World):(Go.sizeOf t).run P w=.ok (sz P t) w:=by
 obtain ⟨i,hi⟩:=Option.isSome_iff_exists.1 h
 simp [sizeOf,typeInfo,hi,jC hi]
theorem lA {P:Program} {t:TypeId} (h:(P.info? t).map (·.size)=some 1) (w:World):(Go.sizeOf t).run P w=.ok 1 w:=by
 cases hi:P.info? t with
 | none=>rw [hi] at h;cases h
 | some i=>rw [hi] at h;simp [sizeOf,typeInfo,hi] at h ⊢;exact h
theorem pN {P:Program} {f:FuncId} {T e I B:TypeId} {ov rr:FuncId} {fn fo:Func} (mixed:P.follows .mixedOrders=true) (hf:P.funcs[f]?=some fn) (hb:fn.body=some (yE T I B ov rr)) (hn:fn.ntmps=95) (hr:fn.results=#[.tmp 6])
  (tT:P.underlying T=some (.slice e)) (tI:P.underlying I=some (.int .i64)) (tB:P.underlying B=some .bool)
  (ho:P.funcs[ov]?=some fo) (o1:(fo.name == "runtime.NumGoroutine")=false) (o2:fo.body.isNone=true) (o3:Extern.findNext fo=none) (o4:Extern.find fo=some (Extern.SlicesOverlaps.overlaps #[T,T] #[B]))
  (zE:(P.info? e).isSome=true) (zT:(P.info? T).map (·.size)=some 1) (zI:(P.info? I).map (·.size)=some 1) (zB:(P.info? B).map (·.size)=some 1):InsAt P f T e I B ov rr fn:=
 ⟨mixed,hf,hb,hn,hr,tT,tI,tB,run_callFunc_extern ho o1 o2 o3 o4,aDd zE,lA zT,lA zI,lA zB⟩
theorem aUg {P:Program} {f:FuncId} {T e I B:TypeId} {fn:Func} (mixed:P.follows .mixedOrders=true) (hf:P.funcs[f]?=some fn) (hb:fn.body=some (aBu T I B)) (hn:fn.ntmps=33) (hr:fn.results=#[.tmp 6])
  (tT:P.underlying T=some (.slice e)) (tI:P.underlying I=some (.int .i64)) (tB:P.underlying B=some .bool)
  (zE:(P.info? e).isSome=true) (zT:(P.info? T).map (·.size)=some 1) (zI:(P.info? I).map (·.size)=some 1) (zB:(P.info? B).map (·.size)=some 1):DelAt P f T e I B fn:=
 ⟨mixed,hf,hb,hn,hr,tT,tI,tB,aDd zE,lA zT,lA zI,lA zB⟩
end Go.AM
end
section
namespace Go.Proofs.YtoaibmbldmckaaaGreat
open Go.RowKit Go.AM Tryz
theorem bHs:SpecOK prog 202 ((Sp.ins 68).run prog):=
 jG (e:=76) (I:=3) (B:=4) (ov:=247) (rr:=248) (fn:=Tryz.f202) (pN (fo:=Tryz.f247) (by kernel_rfl) (by kernel_rfl) (by kernel_rfl) (by kernel_rfl) (by kernel_rfl)
  (by kernel_rfl) (by kernel_rfl) (by kernel_rfl) (by kernel_rfl) (by kernel_rfl) (by kernel_rfl) (by kernel_rfl) (by kernel_rfl) (by kernel_rfl) (by kernel_rfl) (by kernel_rfl) (by kernel_rfl)) (by kernel_rfl)
theorem bHt:SpecOK prog 221 ((Sp.ins 27).run prog):=
 jG (e:=90) (I:=3) (B:=4) (ov:=256) (rr:=257) (fn:=Tryz.f221) (pN (fo:=Tryz.f256) (by kernel_rfl) (by kernel_rfl) (by kernel_rfl) (by kernel_rfl) (by kernel_rfl)
  (by kernel_rfl) (by kernel_rfl) (by kernel_rfl) (by kernel_rfl) (by kernel_rfl) (by kernel_rfl) (by kernel_rfl) (by kernel_rfl) (by kernel_rfl) (by kernel_rfl) (by kernel_rfl) (by kernel_rfl)) (by kernel_rfl)
theorem bHu:SpecOK prog 230 ((Sp.ins 28).run prog):=
 jG (e:=132) (I:=3) (B:=4) (ov:=261) (rr:=262) (fn:=Tryz.f230) (pN (fo:=Tryz.f261) (by kernel_rfl) (by kernel_rfl) (by kernel_rfl) (by kernel_rfl) (by kernel_rfl)
  (by kernel_rfl) (by kernel_rfl) (by kernel_rfl) (by kernel_rfl) (by kernel_rfl) (by kernel_rfl) (by kernel_rfl) (by kernel_rfl) (by kernel_rfl) (by kernel_rfl) (by kernel_rfl) (by kernel_rfl)) (by kernel_rfl)
theorem bHv:SpecOK prog 234 ((Sp.ins 25).run prog):=
 jG (e:=126) (I:=3) (B:=4) (ov:=264) (rr:=265) (fn:=Tryz.f234) (pN (fo:=Tryz.f264) (by kernel_rfl) (by kernel_rfl) (by kernel_rfl) (by kernel_rfl) (by kernel_rfl)
  (by kernel_rfl) (by kernel_rfl) (by kernel_rfl) (by kernel_rfl) (by kernel_rfl) (by kernel_rfl) (by kernel_rfl) (by kernel_rfl) (by kernel_rfl) (by kernel_rfl) (by kernel_rfl) (by kernel_rfl)) (by kernel_rfl)
theorem bHw:SpecOK prog 237 ((Sp.ins 24).run prog):=
 jG (e:=54) (I:=3) (B:=4) (ov:=266) (rr:=267) (fn:=Tryz.f237) (pN (fo:=Tryz.f266) (by kernel_rfl) (by kernel_rfl) (by kernel_rfl) (by kernel_rfl) (by kernel_rfl)
  (by kernel_rfl) (by kernel_rfl) (by kernel_rfl) (by kernel_rfl) (by kernel_rfl) (by kernel_rfl) (by kernel_rfl) (by kernel_rfl) (by kernel_rfl) (by kernel_rfl) (by kernel_rfl) (by kernel_rfl)) (by kernel_rfl)
theorem bHx:SpecOK prog 280 ((Sp.ins 80).run prog):=
 jG (e:=145) (I:=3) (B:=4) (ov:=288) (rr:=289) (fn:=Tryz.f280) (pN (fo:=Tryz.f288) (by kernel_rfl) (by kernel_rfl) (by kernel_rfl) (by kernel_rfl) (by kernel_rfl)
  (by kernel_rfl) (by kernel_rfl) (by kernel_rfl) (by kernel_rfl) (by kernel_rfl) (by kernel_rfl) (by kernel_rfl) (by kernel_rfl) (by kernel_rfl) (by kernel_rfl) (by kernel_rfl) (by kernel_rfl)) (by kernel_rfl)
theorem bHy:SpecOK prog 240 ((Sp.del 28).run prog):=
 aIt (e:=132) (I:=3) (B:=4) (fn:=Tryz.f240) (aUg (by kernel_rfl) (by kernel_rfl) (by kernel_rfl) (by kernel_rfl) (by kernel_rfl)
  (by kernel_rfl) (by kernel_rfl) (by kernel_rfl) (by kernel_rfl) (by kernel_rfl) (by kernel_rfl) (by kernel_rfl)) (by kernel_rfl)
theorem iY {P:Program} {a b:iT} (h:iC P a=true) (k:iC P b=true):iC P (a++b)=true:=by unfold iC at *;rw [List.all_append,h,k];rfl
theorem bCq:SpAll prog dSp:=⟨bHs,bHt,bHu,bHv,bHw,bHx,bHy,trivial⟩
theorem aUh:bCc=aSb++(aSc++(aSd++(aSe++(aSf++(aSg++(aSh++(aSi++(aSj++(aSk++(aN0++(aN1++(aN2++(aN3++(aN4++(aN5++(aN6)))))))))))))))):=rfl
theorem aXg:iC prog bCc=true:=by
 rw [aUh]
 exact iY aQ2 (iY aQ3 (iY aQ4 (iY aQ5 (iY aQ6 (iY aQ7 (iY aQ8 (iY aQ9 (iY aQa (iY aQb (iY aL2 (iY aL3 (iY aL4 (iY aL5 (iY aL6 (iY aL7 (aL8))))))))))))))))
theorem aQc:PlansOK prog uN:=aKn (by kernel_rfl) bCq aXg
end Go.Proofs.YtoaibmbldmckaaaGreat
end
section
namespace Go.Proofs.YtoaibmbldmckaaaGreat
open Go.AM Tryz
def aHr (y:Int):Bool:=if y.tmod 4=0 then (if y.tmod 100=0 then decide (y.tmod 400=0) else true) else false
def fJ (y m:Int):Int:=if m=2 then (if aHr y=true then 29 else 28) else if m=4∨m=6∨m=9∨m=11 then 30 else 31
structure Date where
 y:Int
 m:Int
 d:Int
deriving DecidableEq
def Date.enc (d:Date):List V:=[.int .i64 d.y,.int .i64 d.m,.int .i64 d.d]
def Date.right (d:Date):Bool:=decide (1≤d.y)&&(decide (d.y≤9999)&&(decide (1≤d.m)&&(decide (d.m≤12)&&(decide (1≤d.d)&&decide (d.d≤fJ d.y d.m)))))
def ahead (y:Int):Int:=
 wr .i64 (wr .i64 (wr .i64 (wr .i64 (365*wr .i64 (y - 1))+wr .i64 ((wr .i64 (y - 1)).tdiv 4)) - wr .i64 ((wr .i64 (y - 1)).tdiv 100))+wr .i64 ((wr .i64 (y - 1)).tdiv 400))
def iL (y:Int) (n:Int) (i:Nat):Int⊕Int:=.inr (wr .i64 (n+fJ y ((i:Int)+1)))
def Date.days (d:Date):Int:=if d.right=true then wr .i64 (wr .i64 (aE (iL d.y) id (List.range (d.m - 1).toNat) (ahead d.y)+d.d) - 1) else -1
def Date.before (a b:Date):Bool:=a.right&&(b.right&&decide (a.days<b.days))
def cF (a b:Int):Int×Int:=
 if (0<b∧wr .i64 (9223372036854775807 - b)<a)∨(b<0∧a<wr .i64 (-9223372036854775808 - b)) then (0,7) else (wr .i64 (a+b),0)
def bU (a b:Int):Int×Int:=
 if (b<0∧wr .i64 (9223372036854775807+b)<a)∨(0<b∧a<wr .i64 (-9223372036854775808+b)) then (0,7) else (wr .i64 (a - b),0)
def cX (r:Int×Int):V:=.tup [.int .i64 r.1,.int .i64 r.2]
def aJa (n:Int):Int:=wr .u64 ((BitVec.ofInt IntKind.u64.bits (if IntKind.u64.signed then -1 else IntKind.u64.max) ^^^ BitVec.ofInt IntKind.u64.bits n).toNat)
def pO (n:Int):Int:=if n<0 then wr .u64 (aJa (wr .u64 n)+1) else wr .u64 n
def uQ (n:Int) (neg:Bool):Int×Bool:=
 if neg=true then (wr .i64 (wr .u64 (aJa n+1)),decide (n≤9223372036854775808)) else (wr .i64 n,decide (n≤9223372036854775807))
def aHs (a b:Int):Int×Int:=
 if 0<pO b∧wr .u64 ((9223372036854775808:Int).tdiv (pO b))<pO a then (0,7) else
  let r:=uQ (wr .u64 (pO a*pO b)) (!(decide (a<0) == decide (b<0)))
  if r.2=true then (r.1,0) else (0,7)
def aU (n bp:Int):Int×Int:=
 if bp<0∨100000<bp then (0,1) else
  let u:=pO n
  let p:=wr .u64 bp
  let many:=wr .u64 (u.tdiv 10000)
  let rest:=u.tmod 10000
  if 0<p∧wr .u64 ((9223372036854775807:Int).tdiv p)<many then (0,7) else
   let out:=wr .u64 (wr .u64 (many*p)+wr .u64 ((wr .u64 (wr .u64 (wr .u64 (2*rest)*p)+10000)).tdiv (wr .u64 (2*10000))))
   if 9223372036854775807<out then (0,7) else if n<0 then (wr .i64 (0 - wr .i64 out),0) else (wr .i64 out,0)
theorem aDe:wr .u64 (2*10000)=20000:=by decide
theorem bCr:wr .u64 10000=10000:=by decide
def mP (r:Int):Bool:=
 if (97≤r∧r≤122)∨(65≤r∧r≤90) then true else if r=215 then false else if r=247 then false else decide (192≤r)&&decide (r≤591)
def mI (s:List UInt8):Nat→Nat→List (Nat×Nat)
 | 0,_=>[]
 | f+1,pos=>if pos<s.length then (pos,(Utf8.decode ⟨⟨s⟩⟩ pos).1)::mI s f (pos+(Utf8.decode ⟨⟨s⟩⟩ pos).2) else []
theorem aJb (s:ByteArray) (i:Nat):1≤(Utf8.decode s i).2:=by
 unfold Utf8.decode
 simp only
 repeat' split
 all_goals simp
def nN (_:Unit) (x:Nat×Nat):Bool⊕Unit:=
 if mP x.2=true then .inr () else if x.1=0 then .inl false else if (48≤x.2∧x.2≤57)∨x.2=45∨x.2=95∨x.2=46 then .inr () else .inl false
def dT (s:List UInt8):Bool:=if s.length<1 then false else if 24<s.length then false else aE nN (fun _=>true) (mI s s.length 0) ()
structure Rate where
 cat:List UInt8
 day:Date
 bp:Int
deriving DecidableEq
def Rate.enc (r:Rate):List V:=[.str r.cat,.int .i64 r.day.y,.int .i64 r.day.m,.int .i64 r.day.d,.int .i64 r.bp]
def sS (r:Rate):Int:=if dT r.cat=false then 8 else if r.day.right=false then 9 else if r.bp<0 then 10 else if 100000<r.bp then 10 else 0
def bE (a b:Rate):Bool:=if fN a.cat b.cat=true then true else if (a.cat == b.cat)=true then a.day.before b.day else false
def fZ (prev:Option Rate) (r:Rate):Bool⊕Option Rate:=
 if sS r≠0 then .inl false else match prev with
  | none=>.inr (some r)
  | some p=>if bE p r=true then .inr (some r) else .inl false
def dK (l:List Rate):Bool:=if 24<l.length then false else aE fZ (fun _=>true) l none
def bV {α:Type} (l:List α) (i:Nat):Option α:=if i=0 then none else l[i - 1]?
structure Rep where
 why:Int
 number:Int
 gross:Int
deriving DecidableEq
structure Sess where
 id:Int
 last:Int
 reply:Rep
deriving DecidableEq
def Rep.enc (r:Rep):List V:=[.int .i64 r.why,.int .i64 r.number,.int .i64 r.gross]
def Sess.enc (s:Sess):List V:=[.int .i64 s.id,.int .i64 s.last,.int .i64 s.reply.why,.int .i64 s.reply.number,.int .i64 s.reply.gross]
def Rep.zero:Rep:=⟨0,0,0⟩
def fK (last:Int) (s:Sess):Bool⊕Int:=
 if s.id≤last then .inl false else if s.last<0 then .inl false else if 1099511627776<s.last then .inl false else if s.last=0∧s.reply≠Rep.zero then .inl false else .inr s.id
def eG (l:List Sess):Bool:=if 8<l.length then false else aE fK (fun _=>true) l 0
def cR {α:Type} (p:α→Bool) (n:Nat) (a:α):Int⊕Nat:=if p a=true then .inl (n:Int) else .inr (n+1)
def ixM {α:Type} (p:α→Bool) (l:List α):Int:=aE (cR p) (fun _=>-1) l 0
theorem aFf {α:Type} (p:α→Bool):∀ (l:List α) (n:Nat),(aE (cR p) (fun _=>-1) l n=-1)∨∃ (i:Nat) (a:α),aE (cR p) (fun _=>-1) l n=((n+i:Nat):Int)∧l[i]?=some a∧p a=true
 | [],n=>.inl rfl
 | a::l,n=>by
  by_cases h:p a=true
  ·refine .inr ⟨0,a,?_,rfl,h⟩
   simp [aE,cR,h]
  ·rcases aFf p l (n+1) with h1 | ⟨i,b,h1,h2,h3⟩
   ·left;simp [aE,cR,h,h1]
   ·right
    refine ⟨i+1,b,?_,by simpa using h2,h3⟩
    simp only [aE,cR,h,if_false]
    simp only [h1,Bool.false_eq_true,if_false]
    omega
theorem gR {α:Type} (p:α→Bool) (l:List α):(ixM p l=-1)∨∃ (i:Nat) (a:α),ixM p l=(i:Int)∧l[i]?=some a∧p a=true:=by
 rcases aFf p l 0 with h | ⟨i,a,h1,h2,h3⟩
 ·exact .inl h
 ·exact .inr ⟨i,a,by rw [ixM,h1];simp,h2,h3⟩
def cE (l:List Sess) (id:Int):Int:=ixM (fun s:Sess=>decide (s.id=id)) l
def bK (l:List Sess) (id seq:Int):Rep×Bool×Int:=
 if eG l=false then (Rep.zero,false,1) else if cE l id<0 then (Rep.zero,false,15) else if seq<1∨1099511627776<seq then (Rep.zero,false,1) else
  match l[(cE l id).toNat]? with
  | none=>(Rep.zero,false,1)
  | some s=>if seq=s.last then (s.reply,true,0) else if seq<s.last then (Rep.zero,false,16) else (Rep.zero,false,0)
theorem gS {l:List Sess} (h:eG l=true):l.length≤8:=by
 unfold eG at h
 split at h
 ·cases h
 ·omega
theorem gL (l:List Sess) (id:Int):cE l id=-1∨∃ (i:Nat) (s:Sess),cE l id=(i:Int)∧l[i]?=some s∧s.id=id:=by
 rcases gR (fun s:Sess=>decide (s.id=id)) l with h | ⟨i,s,h1,h2,h3⟩
 ·exact .inl h
 ·exact .inr ⟨i,s,h1,h2,of_decide_eq_true h3⟩
def dM {α:Type} (p:α→Bool) (n:Nat) (a:α):Nat⊕Nat:=if p a=true then .inr (n+1) else .inl n
def fE {α:Type} (p:α→Bool) (l:List α):Nat:=aE (dM p) id l 0
theorem aFg {α:Type} (p:α→Bool):∀ (l:List α) (n:Nat),aE (dM p) id l n≤n+l.length
 | [],n=>by simp [aE]
 | a::l,n=>by
  have ih:=aFg p l (n+1)
  by_cases h:p a=true
  ·simp only [aE,dM,h,if_true,List.length_cons];omega
  ·simp only [aE,dM,h,if_false,List.length_cons,Bool.false_eq_true];omega
theorem aCa {α:Type} (p:α→Bool) (l:List α):fE p l≤l.length:=by have:=aFg p l 0;simp only [fE];omega
def cY {α:Type} (l:List α) (i:Nat) (a:α):List α:=l.take i++a::l.drop i
theorem pP {α β:Type} (f:α→β) (l:List α) (i:Nat) (a:α):(cY l i a).map f=(l.map f).take i++f a::(l.map f).drop i:=by simp [cY,List.map_take,List.map_drop]
def oN (l:List Sess) (id:Int):List Sess×Int:=
 if eG l=false∨id<1 then ([],1) else if 0≤cE l id then ([],12) else if 8≤l.length then ([],14) else (cY l (fE (fun s=>decide (s.id<id)) l) ⟨id,0,Rep.zero⟩,0)
def mA {α:Type} (l:List α) (i:Nat):List α:=l.take i++l.drop (i+1)
theorem aLy {α β:Type} (f:α→β) (l:List α) (i:Nat):(mA l i).map f=(l.map f).take i++(l.map f).drop (i+1):=by simp [mA,List.map_take,List.map_drop]
def iZ (l:List Sess) (id:Int):List Sess×Int:=
 if eG l=false then ([],1) else if cE l id<0 then ([],11) else (mA l (cE l id).toNat,0)
def kS (l:List Sess) (id seq:Int) (r:Rep):List Sess×Int:=
 if (bK l id seq).2.2≠0 then ([],(bK l id seq).2.2) else if (bK l id seq).2.1=true then ([],12) else
  match l[(cE l id).toNat]? with
  | none=>([],0)
  | some s=>(l.set (cE l id).toNat ⟨s.id,seq,r⟩,0)
theorem aDg {l:List Sess} {id seq:Int} (h:(bK l id seq).2.2=0):eG l=true∧∃ (i:Nat) (s:Sess),cE l id=(i:Int)∧l[i]?=some s:=by
 unfold bK at h
 split at h
 ·cases h
 ·rename_i hr
  have hr:eG l=true:=by simpa using hr
  split at h
  ·cases h
  ·rcases gL l id with h' | ⟨i,s,h1,h2,_⟩
   ·omega
   ·exact ⟨hr,i,s,h1,h2⟩
structure Ser where
 name:List UInt8
 next:Int
 limit:Int
 shut:Bool
deriving DecidableEq
def Ser.enc (s:Ser):List V:=[.str s.name,.int .i64 s.next,.int .i64 s.limit,.bool s.shut]
def dH (l:List Ser) (name:List UInt8):Int:=ixM (fun s:Ser=>s.name == name) l
theorem lP (l:List Ser) (name:List UInt8):dH l name=-1∨∃ (i:Nat) (s:Ser),dH l name=(i:Int)∧l[i]?=some s∧s.name=name:=by
 rcases gR (fun s:Ser=>s.name == name) l with h | ⟨i,s,h1,h2,h3⟩
 ·exact .inl h
 ·exact .inr ⟨i,s,h1,h2,by simpa using h3⟩
def mB (s:Ser):Bool:=decide (s.limit<1)||(decide (1099511627776<s.limit)||(decide (s.next<1)||decide (wr .i64 (s.limit+1)<s.next)))
def lQ (prev:Option Ser) (s:Ser):Bool:=match prev with
 | none=>false
 | some p=>!fN p.name s.name
def jZ (prev:Option Ser) (s:Ser):Bool⊕Option Ser:=
 if dT s.name=false then .inl false else if lQ prev s=true then .inl false else if mB s=true then .inl false else .inr (some s)
def jP (l:List Ser):Bool:=if 8<l.length then false else aE jZ (fun _=>true) l none
theorem iG {l:List Ser} (h:jP l=true):l.length≤8:=by
 unfold jP at h
 split at h
 ·cases h
 ·omega
def jJ (l:List Ser) (name:List UInt8):Int×Int:=
 if jP l=false then (0,1) else if dH l name<0 then (0,11) else match l[(dH l name).toNat]? with
  | none=>(0,1)
  | some s=>if s.shut=true then (0,13) else (dH l name,0)
theorem zH {l:List Ser} {name:List UInt8} (h:(jJ l name).2=0):jP l=true∧∃ (i:Nat) (s:Ser),jJ l name=((i:Int),0)∧dH l name=(i:Int)∧l[i]?=some s∧s.name=name∧s.shut=false:=by
 unfold jJ at h
 split at h
 ·cases h
 ·rename_i hr
  have hr:jP l=true:=by simpa using hr
  split at h
  ·cases h
  ·rename_i h11
   rcases lP l name with h' | ⟨i,s,h1,h2,h3⟩
   ·omega
   ·rw [h1] at h
    simp only [Int.toNat_natCast,h2] at h
    split at h
    ·cases h
    ·rename_i hsh
     refine ⟨hr,i,s,?_,h1,h2,h3,by simpa using hsh⟩
     unfold jJ
     rw [if_neg (by rw [hr];simp),if_neg h11,h1]
     simp only [Int.toNat_natCast,h2,if_neg hsh]
def oO (l:List Ser) (name:List UInt8):List Ser×Int:=
 if (jJ l name).2≠0 then ([],(jJ l name).2) else match l[(jJ l name).1.toNat]? with
  | none=>([],0)
  | some s=>(l.set (jJ l name).1.toNat { s with shut:=true },0)
def cL (l:List Ser) (name:List UInt8):List Ser×Int×Int:=
 if (jJ l name).2≠0 then ([],0,(jJ l name).2) else match l[(jJ l name).1.toNat]? with
  | none=>([],0,0)
  | some s=>if s.limit<s.next then ([],0,14) else (l.set (jJ l name).1.toNat { s with next:=wr .i64 (s.next+1) },s.next,0)
def fL (l:List Ser) (name:List UInt8) (limit:Int):List Ser×Int:=
 if jP l=false then ([],1) else if dT name=false then ([],8) else if limit<1∨1099511627776<limit then ([],1) else if 0≤dH l name then ([],12) else if 8≤l.length then ([],14) else
  (cY l (fE (fun s=>fN s.name name) l) ⟨name,1,limit,false⟩,0)
def Ser.zero:Ser:=⟨[],0,0,false⟩
def kA (l:List Ser) (name:List UInt8):Ser×Bool:=match (if dH l name<0 then none else l[(dH l name).toNat]?) with
 | none=>(Ser.zero,false)
 | some s=>(s,true)
def gA (cat:List UInt8) (d:Date) (st:Int×Bool) (r:Rate):(Int×Bool)⊕(Int×Bool):=.inr (if (r.cat == cat)=true∧d.before r.day=false then (r.bp,true) else st)
def eU (l:List Rate) (cat:List UInt8) (d:Date):Int×Bool:=if dK l=false then (0,false) else if d.right=false then (0,false) else aE (gA cat d) id l (0,false)
theorem nO {l:List Rate} (h:dK l=true):l.length≤24:=by
 unfold dK at h
 split at h
 ·cases h
 ·omega
def iM (r:Rate) (k:Nat) (x:Rate):Option Nat⊕Nat:=
 if (x.cat == r.cat)=true∧x.day=r.day then .inl none else .inr (if bE x r=true then k+1 else k)
def dE (l:List Rate) (r:Rate):List Rate×Int:=
 if dK l=false then ([],1) else if sS r≠0 then ([],sS r) else match aE (iM r) some l 0 with
  | none=>([],12)
  | some k=>if 24≤l.length then ([],2) else (cY l k r,0)
structure Bal where
 acc:List UInt8
 amount:Int
deriving DecidableEq
def Bal.enc (b:Bal):List V:=[.str b.acc,.int .i64 b.amount]
structure Part where
 cat:List UInt8
 bp:Int
 net:Int
 tax:Int
deriving DecidableEq
def Part.enc (p:Part):List V:=[.str p.cat,.int .i64 p.bp,.int .i64 p.net,.int .i64 p.tax]
structure Total where
 net:Int
 tax:Int
 gross:Int
 parts:List Part
deriving DecidableEq
def tQ (prev:Option Bal) (b:Bal):Bool⊕Option Bal:=match prev with
 | none=>.inl false
 | some p=>if fN p.acc b.acc=true then .inr (some b) else .inl false
def vO (l:List Bal):Bool:=aE tQ (fun _=>true) (l.drop 1) l[0]?
def wU:List UInt8:=[110,101,116,47]
def wV:List UInt8:=[116,97,120,47]
def rM (l:List Bal) (p:Part):(List Bal×Int)⊕List Bal:=
 if (bU 0 p.net).2≠0 then .inl ([],7) else if (bU 0 p.tax).2≠0 then .inl ([],7) else .inr (l++[⟨wU++p.cat,(bU 0 p.net).1⟩,⟨wV++p.cat,(bU 0 p.tax).1⟩])
def cH (t:Total):List Bal×Int:=aE rM (fun l=>(l,0)) t.parts [⟨[111,119,101,100],t.gross⟩]
theorem aJc:∀ (l:List Part) (a:List Bal) (r:List Bal×Int),aE rM (fun l=>(l,0)) l a=r→r.2=0→r.1.length=a.length+2*l.length
 | [],a,r,h,_=>by subst h;simp [aE]
 | p::l,a,r,h,h0=>by
  simp only [aE,rM] at h
  split at h
  ·rename_i r' he
   split at he
   ·cases he;subst h;cases h0
   ·split at he
    ·cases he;subst h;cases h0
    ·cases he
  ·rename_i s' he
   split at he
   ·cases he
   ·split at he
    ·cases he
    ·cases he
     have:=aJc l _ r h h0
     simp only [List.length_append,List.length_cons,List.length_nil] at this ⊢
     omega
theorem aFh {α:Type} (l:List α) (i:Nat) (a:α) (h:i≤l.length):(cY l i a)[i]?=some a:=by
 unfold cY
 rw [List.getElem?_append_right (by rw [List.length_take];omega),List.length_take,Nat.min_eq_left h,Nat.sub_self]
 rfl
theorem gU {α:Type} (l:List α) (i:Nat) (a:α) (h:i≤l.length):(cY l i a).length=l.length+1:=by
 simp only [cY,List.length_append,List.length_take,List.length_cons,List.length_drop];omega
def aL (l:List Bal) (acc:List UInt8):Nat:=fE (fun b=>fN b.acc acc) l
def fS (l:List Bal) (acc:List UInt8):Bool:=match l[aL l acc]? with
 | none=>true
 | some b=>!(b.acc == acc)
def bO (l:List Bal) (acc:List UInt8):List Bal:=if fS l acc=true then cY l (aL l acc) ⟨acc,0⟩ else l
def bR (l:List Bal) (x:Bal):(List Bal×Int)⊕List Bal:=match (bO l x.acc)[aL l x.acc]? with
 | none=>.inl ([],0)
 | some b=>if (cF b.amount x.amount).2≠0 then .inl ([],(cF b.amount x.amount).2) else .inr ((bO l x.acc).set (aL l x.acc) ⟨b.acc,(cF b.amount x.amount).1⟩)
def bL (book l:List Bal):List Bal×Int:=if vO book=false then ([],1) else aE bR (fun l=>(l,0)) l book
theorem oP (l:List Bal) (acc:List UInt8):aL l acc≤l.length:=aCa _ _
theorem aB8 (l:List Bal) (acc:List UInt8):∃ b,(bO l acc)[aL l acc]?=some b:=by
 unfold bO
 split
 ·exact ⟨_,aFh _ _ _ (oP l acc)⟩
 ·rename_i h
  unfold fS at h
  split at h
  ·exact absurd rfl h
  ·rename_i b hb;exact ⟨b,hb⟩
theorem aB9 (l:List Bal) (acc:List UInt8):(bO l acc).length≤l.length+1:=by
 unfold bO
 split
 ·rw [gU _ _ _ (oP l acc)];exact Nat.le_refl _
 ·omega
theorem rN (l:List Bal) (x:Bal):bR l x=if (cF ((bO l x.acc)[aL l x.acc]?.map (·.amount) |>.getD 0) x.amount).2≠0 then .inl ([],(cF ((bO l x.acc)[aL l x.acc]?.map (·.amount) |>.getD 0) x.amount).2)
  else .inr ((bO l x.acc).set (aL l x.acc) ⟨((bO l x.acc)[aL l x.acc]?.map (·.acc) |>.getD []),(cF ((bO l x.acc)[aL l x.acc]?.map (·.amount) |>.getD 0) x.amount).1⟩):=by
 obtain ⟨b,hb⟩:=aB8 l x.acc
 unfold bR
 simp only [hb,Option.map_some,Option.getD_some]
theorem aEj {l l':List Bal} {x:Bal} (h:bR l x=.inr l'):l'.length≤l.length+1:=by
 rw [rN] at h
 split at h
 ·cases h
 ·cases h
  rw [List.length_set]
  exact aB9 l x.acc
theorem aDh:∀ (l:List Bal) (a:List Bal) (r:List Bal×Int),aE bR (fun l=>(l,0)) l a=r→r.1.length≤a.length+l.length
 | [],a,r,h=>by subst h;simp [aE]
 | x::l,a,r,h=>by
  simp only [aE] at h
  split at h
  ·rename_i r' he
   subst h
   rw [rN] at he
   split at he
   ·cases he;simp
   ·cases he
  ·rename_i s' he
   have h1:=aEj he
   have:=aDh l _ r h
   simp only [List.length_cons]
   omega
def dV (n:Int):List V:=[.int .i64 n]
theorem aQd (n:Int):0≤wr .u64 n∧wr .u64 n<18446744073709551616:=by
 unfold wr lo hi
 simp only
 split
 ·omega
 ·show 0≤n % 18446744073709551616∧n % 18446744073709551616<18446744073709551616
  omega
theorem bHz:aJa 0=18446744073709551615:=by decide
def uR (st:Int×Int) (n:Int):(Int×Bool)⊕(Int×Int):=
 .inr ((st.1+(if n<0 then 18446744073709551615 else 0)+(st.2+wr .u64 n+0) / 18446744073709551616) % 18446744073709551616,(st.2+wr .u64 n+0) % 18446744073709551616)
def tR (st:Int×Int):Int×Bool:=(wr .i64 st.2,if st.2.fdiv (2 ^ 63)=0 then decide (st.1=0) else decide (st.1=18446744073709551615))
def eL (l:List Int):Int×Bool:=aE uR tR l (0,0)
structure Line where
 text:List UInt8
 cat:List UInt8
 count:Int
 price:Int
deriving DecidableEq
def Line.enc (l:Line):List V:=[.str l.text,.str l.cat,.int .i64 l.count,.int .i64 l.price]
def gO (tab:List Rate) (d:Date) (l:Line):Int×Int×Int:=
 if 64<l.text.length then (0,0,2) else if dT l.cat=false then (0,0,8) else if l.count<1∨1048576<l.count then (0,0,1) else
  if (eU tab l.cat d).2=false then (0,0,10) else ((eU tab l.cat d).1,(aHs l.count l.price).1,(aHs l.count l.price).2)
def aUi (r:Int×Int×Int):V:=.tup [.int .i64 r.1,.int .i64 r.2.1,.int .i64 r.2.2]
def aM (l:List Part) (cat:List UInt8):Nat:=fE (fun p=>fN p.cat cat) l
def dX (l:List Part) (cat:List UInt8):Bool:=match l[aM l cat]? with
 | none=>true
 | some b=>!(b.cat == cat)
def bM (l:List Part) (cat:List UInt8) (bp:Int):List Part:=if dX l cat=true then cY l (aM l cat) ⟨cat,bp,0,0⟩ else l
def tS (l:List Part) (cat:List UInt8) (bp n:Int):List Part×Int:=match (bM l cat bp)[aM l cat]? with
 | none=>([],0)
 | some p=>((bM l cat bp).set (aM l cat) { p with net:=(cF p.net n).1 },(cF p.net n).2)
theorem rO (l:List Part) (cat:List UInt8):aM l cat≤l.length:=aCa _ _
theorem rQ (l:List Part) (cat:List UInt8) (bp:Int):∃ b,(bM l cat bp)[aM l cat]?=some b:=by
 unfold bM
 split
 ·exact ⟨_,aFh _ _ _ (rO l cat)⟩
 ·rename_i h
  unfold dX at h
  split at h
  ·exact absurd rfl h
  ·rename_i b hb;exact ⟨b,hb⟩
theorem aHt (l:List Part) (cat:List UInt8) (bp:Int):(bM l cat bp).length≤l.length+1:=by
 unfold bM
 split
 ·rw [gU _ _ _ (rO l cat)];exact Nat.le_refl _
 ·omega
theorem aJd (l:List Part) (cat:List UInt8) (bp n:Int):(tS l cat bp n).1.length≤l.length+1:=by
 obtain ⟨b,hb⟩:=rQ l cat bp
 unfold tS
 rw [hb]
 simp only [List.length_set]
 exact aHt l cat bp
def Total.zero:Total:=⟨0,0,0,[]⟩
def gB (st:Int×Int×List Part) (p:Part):(Total×Int)⊕(Int×Int×List Part):=
 if (aU p.net p.bp).2≠0∨(cF st.1 p.net).2≠0∨(cF st.2.1 (aU p.net p.bp).1).2≠0 then .inl (Total.zero,7) else
  .inr ((cF st.1 p.net).1,(cF st.2.1 (aU p.net p.bp).1).1,st.2.2++[{ p with tax:=(aU p.net p.bp).1 }])
def kC (st:Int×Int×List Part):Total×Int:=
 if (cF st.1 st.2.1).2≠0 then (Total.zero,(cF st.1 st.2.1).2) else (⟨st.1,st.2.1,(cF st.1 st.2.1).1,st.2.2⟩,0)
def eV (l:List Part):Total×Int:=aE gB kC l (0,0,[])
def hN (tab:List Rate) (d:Date) (parts:List Part) (l:Line):(Total×Int)⊕List Part:=
 if (gO tab d l).2.2≠0 then .inl (Total.zero,(gO tab d l).2.2) else
  if (tS parts l.cat (gO tab d l).1 (gO tab d l).2.1).2≠0 then .inl (Total.zero,(tS parts l.cat (gO tab d l).1 (gO tab d l).2.1).2) else
   .inr (tS parts l.cat (gO tab d l).1 (gO tab d l).2.1).1
def dN (tab:List Rate) (d:Date) (lines:List Line):Total×Int:=
 if dK tab=false then (Total.zero,1) else if d.right=false then (Total.zero,9) else if lines.length=0 then (Total.zero,1) else if 12<lines.length then (Total.zero,2) else
  aE (hN tab d) eV lines []
def pQ (n:Int):V:=.int .i64 n
def rR (done:List Int) (x:Int):(List Int×Int)⊕List Int:=if (bU 0 x).2≠0 then .inl ([],(bU 0 x).2) else .inr (done++[(bU 0 x).1])
def gM (l:List Int):List Int×Int:=aE rR (fun l=>(l,0)) l []
def dU (acc:List Part) (p:Part):(List Part×Int)⊕List Part:=
 if (gM [p.net,p.tax]).2≠0 then .inl ([],(gM [p.net,p.tax]).2) else .inr (acc++[{ p with net:=(gM [p.net,p.tax]).1.getD 0 0,tax:=(gM [p.net,p.tax]).1.getD 1 0 }])
def aV (t:Total):Total×Int:=
 if (gM [t.net,t.tax,t.gross]).2≠0 then (Total.zero,(gM [t.net,t.tax,t.gross]).2) else
  if (aE dU (fun l=>(l,0)) t.parts []).2≠0 then (Total.zero,(aE dU (fun l=>(l,0)) t.parts []).2) else
   (⟨(gM [t.net,t.tax,t.gross]).1.getD 0 0,(gM [t.net,t.tax,t.gross]).1.getD 1 0,(gM [t.net,t.tax,t.gross]).1.getD 2 0,(aE dU (fun l=>(l,0)) t.parts []).1⟩,0)
structure Ref where
 ser:List UInt8
 num:Int
deriving DecidableEq
def Ref.enc (r:Ref):List V:=[.str r.ser,.int .i64 r.num]
def Ref.zero:Ref:=⟨[],0⟩
structure Posted where
 ref:Ref
 day:Date
 total:Total
 of:Ref
 back:Bool
deriving DecidableEq
def Posted.cells (p:Posted) (pv:V):List V:=[.str p.ref.ser,.int .i64 p.ref.num,.int .i64 p.day.y,.int .i64 p.day.m,.int .i64 p.day.d,.int .i64 p.total.net,.int .i64 p.total.tax,.int .i64 p.total.gross,pv,.str p.of.ser,.int .i64 p.of.num,.bool p.back]
theorem aXh {α β:Type} (f:α→β) (p:β→Bool) (l:List α):ixM (fun a=>p (f a)) l=ixM p (l.map f):=by
 have:∀ (l:List α) (n:Nat),aE (cR fun a=>p (f a)) (fun _=>(-1:Int)) l n=aE (cR p) (fun _=>-1) (l.map f) n:=by
  intro l
  induction l with
  | nil=>intro n;rfl
  | cons a l ih=>
   intro n
   simp only [aE,List.map_cons,cR]
   by_cases h:p (f a)=true
   ·simp only [h,if_true]
   ·simp only [h,if_false]
    exact ih (n+1)
 exact this l 0
def aW (l:List Posted) (r:Ref):Int:=ixM (fun p:Posted=>decide (p.ref=r)) l
theorem kG (l:List Posted) (r:Ref):aW l r=-1∨∃ (i:Nat) (s:Posted),aW l r=(i:Int)∧l[i]?=some s∧s.ref=r:=by
 rcases gR (fun p:Posted=>decide (p.ref=r)) l with h | ⟨i,s,h1,h2,h3⟩
 ·exact .inl h
 ·exact .inr ⟨i,s,h1,h2,by simpa using h3⟩
def eE {α:Type} [DecidableEq α] (r:List α) (n:Nat) (a:α):Bool⊕Nat:=if r[n]?=some a then .inr (n+1) else .inl false
theorem eqL {α:Type} [DecidableEq α] {l r:List α} (h:l.length=r.length):aE (eE r) (fun _=>true) l 0=decide (l=r):=by
 have:∀ (l t r:List α),l.length=(r.drop t.length).length→r.take t.length=t→aE (eE r) (fun _=>true) l t.length=decide (l=r.drop t.length):=by
  intro l
  induction l with
  | nil=>
   intro t r h1 h2
   have:r.drop t.length=[]:=List.length_eq_zero_iff.1 h1.symm
   rw [this];rfl
  | cons a l ih=>
   intro t r h1 h2
   have hlt:t.length<r.length:=by rw [List.length_drop] at h1;simp only [List.length_cons] at h1;omega
   rw [List.drop_eq_getElem_cons hlt]
   simp only [aE,eE,List.getElem?_eq_getElem hlt]
   by_cases c:r[t.length]=a
   ·have e1:(t++[a]).length=t.length+1:=by simp
    have:=ih (t++[a]) r (by rw [e1];rw [List.length_drop] at h1 ⊢;simp only [List.length_cons] at h1;omega) (by rw [e1,List.take_succ_eq_append_getElem hlt,h2,c])
    rw [e1] at this
    simp only [c,if_true]
    rw [this]
    by_cases d:l=r.drop (t.length+1)<;>simp [d]
   ·have c':¬ (some r[t.length]=some a):=fun e=>c (Option.some.inj e)
    simp only [c',if_false]
    rw [eq_comm,decide_eq_false_iff_not]
    intro e
    exact c (List.cons.inj e).1.symm
 have:=this l [] r (by simpa using h) rfl
 simpa using this
def blkOf:V→Option Nat
 | .sl a _ _ _ _=>some a
 | _=>none
def iU (t:Total):Bool:=
 if (eL (t.parts.map (·.net))).2=true then (if (eL (t.parts.map (·.tax))).2=true then (if (eL [t.net,t.tax]).2=true then
  (if (eL (t.parts.map (·.net))).1=t.net then (if (eL (t.parts.map (·.tax))).1=t.tax then decide ((eL [t.net,t.tax]).1=t.gross) else false) else false) else false) else false) else false
def uS (st:List Int×List Int) (p:Part):(List Int×List Int)⊕(List Int×List Int):=.inr (st.1++[p.net],st.2++[p.tax])
theorem bCs:∀ (l:List Part) (a b:List Int),aE uS id l (a,b)=(a++l.map (·.net),b++l.map (·.tax))
 | [],a,b=>by simp [aE]
 | p::l,a,b=>by simp only [aE,uS];rw [bCs l];simp
def gV (prev:Option Part) (s:Part):Bool:=match prev with
 | none=>false
 | some p=>!fN p.cat s.cat
def uU (s:Part):Bool:=decide (s.bp<0)||decide (100000<s.bp)
def uV (s:Part):Bool:=!decide ((aU s.net s.bp).2=0)||!decide ((aU s.net s.bp).1=s.tax)
def cJ (prev:Option Part) (s:Part):Bool⊕Option Part:=
 if dT s.cat=false then .inl false else if gV prev s=true then .inl false else if uU s=true then .inl false else if uV s=true then .inl false else .inr (some s)
def bY (t:Total):Bool:=if t.parts.length<1 then false else if 12<t.parts.length then false else aE cJ (fun _=>iU t) t.parts none
def kH (p fr:Posted):Bool:=if fr.of=Ref.zero then (if p.day.before fr.day=false then (if (aV fr.total).2=0 then decide ((aV fr.total).1=p.total) else false) else false) else false
theorem aFi:∀ (l a:List Part) (r:List Part×Int),aE dU (fun l=>(l,0)) l a=r→r.1.length≤a.length+l.length
 | [],a,r,h=>by subst h;simp [aE]
 | x::l,a,r,h=>by
  simp only [aE] at h
  split at h
  ·rename_i r' he
   subst h
   unfold dU at he
   split at he
   ·cases he;simp
   ·cases he
  ·rename_i a' he
   unfold dU at he
   split at he
   ·cases he
   ·cases he
    have:=aFi l _ r h
    simp only [List.length_append,List.length_cons,List.length_nil] at this ⊢
    omega
theorem uW (t:Total):(aV t).1.parts.length≤t.parts.length:=by
 unfold aV
 split
 ·simp [Total.zero]
 ·split
  ·simp [Total.zero]
  ·have:=aFi t.parts [] _ rfl
   simpa using this
def bN (book:List Bal) (p:Posted):(List Bal×Int)⊕List Bal:=
 if (cH p.total).2≠0 then .inl ([],(cH p.total).2) else if (bL book (cH p.total).1).2≠0 then .inl ([],(bL book (cH p.total).1).2) else .inr (bL book (cH p.total).1).1
def eM (l:List Posted):List Bal×Int:=aE bN (fun b=>(b,0)) l []
theorem rS (book l:List Bal):(bL book l).1.length≤book.length+l.length:=by
 unfold bL
 split
 ·simp
 ·exact aDh l book _ rfl
theorem pR (t:Total):(cH t).1.length≤1+2*t.parts.length∨(cH t).2≠0:=by
 by_cases h:(cH t).2=0
 ·exact .inl (by have:=aJc t.parts _ _ rfl h;simp only [List.length_cons,List.length_nil] at this;unfold cH;omega)
 ·exact .inr h
def aBo:List V:=[.str [],.int .i64 0,.int .i64 0,.int .i64 0,.int .i64 0,.int .i64 0,.int .i64 0,.int .i64 0,.nils,.str [],.int .i64 0,.bool false]
def Fit (p:Posted):Prop:=p.total.parts.length≤12∧∀ q∈p.total.parts,q.cat.length≤1000000
def bump (l:List Int) (k:Nat):List Int:=l.set k (l.getD k 0+1)
def gP (st:List Posted×List Int) (p:Posted):Bool⊕(List Posted×List Int):=
 if p.day.right=false then .inl false else if bY p.total=false then .inl false else if p.of=Ref.zero then .inr (st.1++[p],st.2) else
  if aW st.1 p.of<0 then .inl false else if kH p (st.1.getD (aW st.1 p.of).toNat ⟨Ref.zero,⟨0,0,0⟩,Total.zero,Ref.zero,false⟩)=false then .inl false else
   .inr (st.1++[p],bump st.2 (aW st.1 p.of).toNat)
def iN (bs:List Int) (p:Posted):Bool⊕List Int:=if 1<bs.headD 0 then .inl false else if p.back=decide (bs.headD 0=1) then .inr bs.tail else .inl false
def jA (l:List Posted):Bool:=if 40<l.length then false else aE gP (fun st=>aE iN (fun _=>true) l st.2) l ([],List.replicate 40 0)
theorem oQ {t:Total} (h:bY t=true):t.parts.length≤12:=by
 unfold bY at h
 split at h
 ·cases h
 ·split at h
  ·cases h
  ·omega
theorem zJ (l:List Int) (k:Nat) (h:k<l.length):l.getD k 0=l[k]:=by rw [List.getD_eq_getElem?_getD,List.getElem?_eq_getElem h];rfl
structure State where
 table:List Rate
 ser:List Ser
 posted:List Posted
 book:List Bal
 sess:List Sess
 next:Int
deriving DecidableEq
def lG (ser:List Ser) (is:List Int) (p:Posted):Bool⊕List Int:=
 if dH ser p.ref.ser<0 then .inl false else if p.ref.num=(bump is (dH ser p.ref.ser).toNat).getD (dH ser p.ref.ser).toNat 0 then .inr (bump is (dH ser p.ref.ser).toNat) else .inl false
def kI (is:List Int) (s:Ser):Bool⊕List Int:=if s.next=is.headD 0+1 then .inr is.tail else .inl false
def nP (ser:List Ser) (l:List Posted):Bool:=aE (lG ser) (fun is=>aE kI (fun _=>true) ser is) l (List.replicate 8 0)
theorem zL (l:List Int) (k:Nat):(bump l k).length=l.length:=List.length_set ..
theorem aUk (l:List Int) (k:Nat) (h:k<l.length):(bump l k).getD k 0=l[k]+1:=by
 rw [List.getD_eq_getElem?_getD,bump,List.getElem?_set_self h,zJ l k h];rfl
def rT (l:List Sess) (next:Int):Bool:=match l[l.length - 1]? with
 | none=>true
 | some s=>decide (s.id<next)
def iO (s:State):Bool:=if eG s.sess=true then (if 1≤s.next then (if s.next≤1099511627776 then rT s.sess s.next else false) else false) else false
theorem aDi {σ α:Type} {step:σ→α→Bool⊕σ} {fin:σ→Bool} (hs:∀ s a r,step s a=.inl r→r=false):∀ (l:List α) (s:σ),aE step fin l s=true→∀ a∈l,∃ s s',step s a=.inr s'
 | [],s,h,a,ha=>by cases ha
 | b::l,s,h,a,ha=>by
  simp only [aE] at h
  split at h
  ·rename_i r he
   have:=hs s b r he
   rw [this] at h;cases h
  ·rename_i s' he
   rcases List.mem_cons.1 ha with rfl | ha
   ·exact ⟨s,s',he⟩
   ·exact aDi hs l s' h a ha
theorem aFj {s:List UInt8} (h:dT s=true):s.length≤24:=by
 unfold dT at h
 split at h
 ·cases h
 ·split at h
  ·cases h
  ·omega
theorem aHu {t:Total} (h:bY t=true):∀ q∈t.parts,dT q.cat=true:=by
 unfold bY at h
 split at h
 ·cases h
 ·split at h
  ·cases h
  ·intro q hq
   obtain ⟨s,s',he⟩:=aDi (fun s a r hr=>by
    unfold cJ at hr
    repeat' split at hr
    all_goals cases hr
    all_goals rfl) t.parts none h q hq
   unfold cJ at he
   split at he
   ·cases he
   ·rename_i hn;simpa using hn
theorem oR {p:Posted} (h:bY p.total=true):Fit p:=⟨oQ h,fun q hq=>by have:=aFj (aHu h q hq);omega⟩
theorem rU {l:List Posted} (h:jA l=true):l.length≤40∧∀ p∈l,p.day.right=true∧bY p.total=true:=by
 unfold jA at h
 split at h
 ·cases h
 ·refine ⟨by omega,fun p hp=>?_⟩
  obtain ⟨s,s',he⟩:=aDi (fun s a r hr=>by
   unfold gP at hr
   repeat' split at hr
   all_goals cases hr
   all_goals rfl) l _ h p hp
  unfold gP at he
  split at he
  ·cases he
  ·rename_i h1
   split at he
   ·cases he
   ·rename_i h2
    exact ⟨by simpa using h1,by simpa using h2⟩
def bW (s:State):Bool:=if dK s.table=false then false else if jP s.ser=false then false else if iO s=false then false else if jA s.posted=false then false else
 if nP s.ser s.posted=false then false else if (eM s.posted).2=0 then decide ((eM s.posted).1=s.book) else false
theorem tU:∀ (l:List Posted) (a:List Bal) (r:List Bal×Int),(∀ p∈l,p.total.parts.length≤12)→aE bN (fun b=>(b,0)) l a=r→r.1.length≤a.length+25*l.length
 | [],a,r,_,h=>by subst h;simp [aE]
 | p::l,a,r,hp,h=>by
  simp only [aE] at h
  split at h
  ·rename_i r' he
   subst h
   unfold bN at he
   repeat' split at he
   all_goals cases he
   all_goals simp
  ·rename_i a' he
   unfold bN at he
   split at he
   ·cases he
   ·rename_i h1
    split at he
    ·cases he
    ·cases he
     have h2:=(pR p.total).resolve_right h1
     have h3:=rS a (cH p.total).1
     have h4:=hp p (List.mem_cons_self ..)
     have:=tU l _ r (fun q hq=>hp q (List.mem_cons_of_mem _ hq)) h
     simp only [List.length_cons]
     omega
def State.new:State:=⟨[],[],[],[],[],1⟩
structure Bnd (s:State):Prop where
 bt:s.table.length≤100000
 bs:s.ser.length≤100000
 bp:s.posted.length≤100000
 bb:s.book.length≤100000
 be:s.sess.length≤100000
 bq:∀ p∈s.posted,p.total.parts.length≤100000
def aUl:List UInt8:=[111,119,101,100]
def mQ (g:Int) (b:Bal):Int⊕Int:=.inr (if (b.acc == aUl)=true then b.amount else g)
def aJe (s:State) (name:List UInt8):Rep:=if (kA s.ser name).2=false then ⟨11,0,0⟩ else ⟨0,wr .i64 ((kA s.ser name).1.next - 1),aE mQ id s.book 0⟩
def why (e:Int):Rep:=⟨e,0,0⟩
def aT (s:State) (name:List UInt8) (p:Posted):State×Rep:=
 if (cL s.ser name).2.2≠0 then (s,why (cL s.ser name).2.2) else if 40≤s.posted.length then (s,why 14) else
  if (cH p.total).2≠0 then (s,why (cH p.total).2) else if (bL s.book (cH p.total).1).2≠0 then (s,why (bL s.book (cH p.total).1).2) else
   ({ s with ser:=(cL s.ser name).1,book:=(bL s.book (cH p.total).1).1,posted:=s.posted++[{ p with ref:=⟨name,(cL s.ser name).2.1⟩ }] },⟨0,(cL s.ser name).2.1,p.total.gross⟩)
theorem aQe {P:List UInt8→Prop} {l:List Part} {cat:List UInt8} {bp n:Int} (h:∀ p∈l,P p.cat) (hc:P cat):∀ p∈(tS l cat bp n).1,P p.cat:=by
 have hroom:∀ p∈bM l cat bp,P p.cat:=by
  unfold bM
  split
  ·intro p hp
   rcases List.mem_append.1 hp with hp | hp
   ·exact h p (List.mem_of_mem_take hp)
   ·rcases List.mem_cons.1 hp with rfl | hp
    ·exact hc
    ·exact h p (List.mem_of_mem_drop hp)
  ·exact h
 unfold tS
 split
 ·intro p hp;cases hp
 ·rename_i q hq
  intro p hp
  rcases List.mem_or_eq_of_mem_set hp with hp | rfl
  ·exact hroom p hp
  ·exact hroom q (List.mem_of_getElem? hq)
theorem aBa:∀ (l:List Part) (st:Int×Int×List Part) (r:Total×Int),aE gB kC l st=r→r.2=0→r.1.parts.map (·.cat)=st.2.2.map (·.cat)++l.map (·.cat)
 | [],st,r,h,h0=>by
  subst h
  simp only [aE,kC] at h0 ⊢
  split at h0
  ·rename_i hc;exact absurd h0 hc
  ·rename_i hc;rw [if_neg hc];simp
 | p::l,st,r,h,h0=>by
  simp only [aE] at h
  split at h
  ·rename_i r' he
   unfold gB at he
   split at he
   ·cases he;subst h;cases h0
   ·cases he
  ·rename_i st' he
   unfold gB at he
   split at he
   ·cases he
   ·cases he
    rw [aBa l _ r h h0]
    simp
theorem aFk {tab:List Rate} {d:Date}:∀ (l:List Line) (parts:List Part) (r:Total×Int),(∀ p∈parts,dT p.cat=true)→aE (hN tab d) eV l parts=r→r.2=0→(∀ p∈r.1.parts,dT p.cat=true)∧r.1.parts.length≤parts.length+l.length
 | [],parts,r,hp,h,h0=>by
  subst h
  simp only [aE] at h0 ⊢
  have:=aBa parts (0,0,[]) _ rfl h0
  simp only [List.map_nil,List.nil_append] at this
  refine ⟨fun p hpm=>?_,?_⟩
  ·have hm:p.cat∈parts.map (·.cat):=by rw [←this];exact List.mem_map_of_mem hpm
   obtain ⟨q,hq,e⟩:=List.mem_map.1 hm
   rw [←e];exact hp q hq
  ·have hl:=congrArg List.length this
   rw [List.length_map,List.length_map] at hl
   exact Nat.le_of_eq hl
 | x::l,parts,r,hp,h,h0=>by
  simp only [aE] at h
  split at h
  ·rename_i r' he
   unfold hN at he
   split at he
   ·rename_i hc;cases he;subst h;exact absurd h0 hc
   ·split at he
    ·rename_i hc;cases he;subst h;exact absurd h0 hc
    ·cases he
  ·rename_i s' he
   unfold hN at he
   split at he
   ·cases he
   ·rename_i hc
    split at he
    ·cases he
    ·cases he
     have hn:dT x.cat=true:=by
      have hc0:(gO tab d x).2.2=0:=by omega
      unfold gO at hc0
      split at hc0
      ·cases hc0
      ·split at hc0
       ·cases hc0
       ·rename_i hh;simpa using hh
     have h1:=aJd parts x.cat (gO tab d x).1 (gO tab d x).2.1
     obtain ⟨h2,h3⟩:=aFk l _ r (aQe (P:=fun c=>dT c=true) hp hn) h h0
     refine ⟨h2,?_⟩
     simp only [List.length_cons]
     omega
theorem rV {tab:List Rate} {d:Date} {l:List Line} (h:(dN tab d l).2=0):(dN tab d l).1.parts.length≤12∧∀ q∈(dN tab d l).1.parts,q.cat.length≤1000000:=by
 unfold dN at h ⊢
 split at h
 ·cases h
 ·rename_i c1
  rw [if_neg c1]
  split at h
  ·cases h
  ·rename_i c2
   rw [if_neg c2]
   split at h
   ·cases h
   ·rename_i c3
    rw [if_neg c3]
    split at h
    ·cases h
    ·rename_i c4
     rw [if_neg c4]
     obtain ⟨h1,h2⟩:=aFk l [] _ (fun _ h=>by cases h) rfl h
     refine ⟨by simp only [List.length_nil] at h2;omega,fun q hq=>by have:=aFj (h1 q hq);omega⟩
theorem aDj:∀ (l a:List Part) (r:List Part×Int),aE dU (fun l=>(l,0)) l a=r→r.2=0→r.1.map (·.cat)=a.map (·.cat)++l.map (·.cat)
 | [],a,r,h,h0=>by subst h;simp [aE]
 | x::l,a,r,h,h0=>by
  simp only [aE] at h
  split at h
  ·rename_i r' he
   subst h
   unfold dU at he
   split at he
   ·rename_i hc;cases he;exact absurd h0 hc
   ·cases he
  ·rename_i a' he
   unfold dU at he
   split at he
   ·cases he
   ·cases he
    rw [aDj l _ r h h0]
    simp
theorem aLz (t:Total) (h:(aV t).2=0):(aV t).1.parts.map (·.cat)=t.parts.map (·.cat):=by
 unfold aV at h ⊢
 split at h
 ·rename_i c;exact absurd h c
 ·rename_i c
  rw [if_neg c]
  split at h
  ·rename_i c2;exact absurd h c2
  ·rename_i c2
   rw [if_neg c2]
   have:=aDj t.parts [] _ rfl (by omega)
   simpa using this
theorem aFl {p:Posted} (hf:Fit p) (h:(aV p.total).2=0):(aV p.total).1.parts.length≤12∧∀ q∈(aV p.total).1.parts,q.cat.length≤1000000:=by
 have:=aLz p.total h
 refine ⟨by have:=uW p.total;have:=hf.1;omega,fun q hq=>?_⟩
 have hm:q.cat∈p.total.parts.map (·.cat):=by rw [←this];exact List.mem_map_of_mem hq
 obtain ⟨q',hq',e⟩:=List.mem_map.1 hm
 rw [←e];exact hf.2 q' hq'
structure Cmd where
 kind:Int
 series:List UInt8
 limit:Int
 row:Rate
 day:Date
 lines:List Line
 of:Ref
 session:Int
def lR (s:State) (c:Cmd):State×Rep:=
 if (dN s.table c.day c.lines).2≠0 then (s,why (dN s.table c.day c.lines).2) else aT s c.series ⟨Ref.zero,c.day,(dN s.table c.day c.lines).1,Ref.zero,false⟩
def Posted.zero:Posted:=⟨Ref.zero,⟨0,0,0⟩,Total.zero,Ref.zero,false⟩
def eA (l:List Posted) (k:Nat):List Posted:=match l[k]? with
 | none=>l
 | some p=>l.set k { p with back:=true }
def eW (s:State) (c:Cmd) (k:Nat) (p:Posted):State×Rep:=
 if p.back=true then (s,why 12) else if p.of=Ref.zero then
  (if c.day.right=false then (s,why 9) else if c.day.before p.day=true then (s,why 9) else if (aV p.total).2≠0 then (s,why (aV p.total).2) else
   if (aT s c.series ⟨Ref.zero,c.day,(aV p.total).1,c.of,false⟩).2.why=0 then
    ({ (aT s c.series ⟨Ref.zero,c.day,(aV p.total).1,c.of,false⟩).1 with posted:=eA (aT s c.series ⟨Ref.zero,c.day,(aV p.total).1,c.of,false⟩).1.posted k },(aT s c.series ⟨Ref.zero,c.day,(aV p.total).1,c.of,false⟩).2)
   else aT s c.series ⟨Ref.zero,c.day,(aV p.total).1,c.of,false⟩) else (s,why 12)
def eN (s:State) (c:Cmd):State×Rep:=
 if aW s.posted c.of<0 then (s,why 11) else eW s c (aW s.posted c.of).toNat (s.posted.getD (aW s.posted c.of).toNat Posted.zero)
theorem zM (s:State) (name:List UInt8) (p:Posted):∃ l,(aT s name p).1.posted=s.posted++l:=by
 unfold aT
 repeat' split
 all_goals first | exact ⟨[],(List.append_nil _).symm⟩ | exact ⟨_,rfl⟩
def fB (s:State) (r:List Ser×Int):State×Rep:=if r.2=0 then ({ s with ser:=r.1 },why r.2) else (s,why r.2)
def jB (s:State) (r:List Rate×Int):State×Rep:=if r.2=0 then ({ s with table:=r.1 },why r.2) else (s,why r.2)
def gQ (s:State) (r:List Sess×Int):State×Rep:=if r.2=0 then ({ s with sess:=r.1 },why r.2) else (s,why r.2)
def mC (s:State) (c:Cmd):State×Rep:=
 if c.kind=1 then fB s (fL s.ser c.series c.limit) else if c.kind=2 then fB s (oO s.ser c.series) else if c.kind=3 then jB s (dE s.table c.row) else
  if c.kind=4 then lR s c else if c.kind=5 then eN s c else if c.kind=7 then gQ s (iZ s.sess c.session) else (s,aJe s c.series)
def lH (s:State):State×Rep:=
 if 8≤s.sess.length∨1099511627776≤s.next then (s,why 14) else if (oN s.sess s.next).2≠0 then (s,why (oN s.sess s.next).2) else
  ({ s with sess:=(oN s.sess s.next).1,next:=wr .i64 (s.next+1) },⟨0,s.next,0⟩)
structure Call where
 session:Int
 seq:Int
 cmd:Cmd
def iP (r:State×Rep) (c:Call):State×Rep:=if (kS r.1.sess c.session c.seq r.2).2=0 then ({ r.1 with sess:=(kS r.1.sess c.session c.seq r.2).1 },r.2) else r
def eO (s:State) (c:Call):State×Rep:=
 if bW s=false then (s,why 1) else if c.cmd.kind<1∨8<c.cmd.kind then (s,why 17) else if c.cmd.kind=6 then lH s else
  if (bK s.sess c.session c.seq).2.2≠0 then (s,why (bK s.sess c.session c.seq).2.2) else if (bK s.sess c.session c.seq).2.1=true then (s,(bK s.sess c.session c.seq).1) else iP (mC s c.cmd) c
theorem aEk {s:State} (h:bW s=true):jA s.posted=true:=by
 unfold bW at h
 repeat' split at h
 all_goals first | cases h | skip
 rename_i h4 _ _
 simpa using h4
structure Sml (s:State):Prop where
 st:s.table.length≤1000
 ss:s.ser.length≤1000
 sp:s.posted.length≤1000
 sb:s.book.length≤10000
 se:s.sess.length≤1000
 sq:∀ p∈s.posted,p.total.parts.length≤1000
theorem Sml.bnd {s:State} (h:Sml s):Bnd s:=⟨by have:=h.st;omega,by have:=h.ss;omega,by have:=h.sp;omega,by have:=h.sb;omega,by have:=h.se;omega,fun p hp=>by have:=h.sq p hp;omega⟩
theorem Sml.new:Sml State.new:=⟨by decide,by decide,by decide,by decide,by decide,fun p hp=>by cases hp⟩
theorem gH {s:State} (h:bW s=true):s.table.length≤24∧s.ser.length≤8∧s.sess.length≤8∧s.posted.length≤40∧s.book.length≤1000∧(∀ p∈s.posted,p.total.parts.length≤12)∧s.book=(eM s.posted).1:=by
 unfold bW at h
 split at h
 ·cases h
 ·rename_i h1
  split at h
  ·cases h
  ·rename_i h2
   split at h
   ·cases h
   ·rename_i h3
    split at h
    ·cases h
    ·rename_i h4
     split at h
     ·cases h
     ·split at h
      ·have hb:=of_decide_eq_true h
       have h4':jA s.posted=true:=by simpa using h4
       obtain ⟨p1,p2⟩:=rU h4'
       have hparts:∀ p∈s.posted,p.total.parts.length≤12:=fun p hp=>oQ (p2 p hp).2
       have hl:=tU s.posted [] (eM s.posted) hparts rfl
       have hs:eG s.sess=true:=by
        unfold iO at h3
        by_cases c:eG s.sess=true
        ·exact c
        ·rw [if_neg c] at h3;exact absurd rfl h3
       refine ⟨nO (by simpa using h1),iG (by simpa using h2),gS hs,p1,?_,hparts,hb.symm⟩
       rw [←hb]
       simp only [List.length_nil] at hl
       omega
      ·cases h
theorem aDk {s:State} (h:Sml s) (h1:s.ser.length≤8) (h2:s.posted.length≤40) (h3:s.book.length≤1000) (name:List UInt8) (p:Posted) (hp:p.total.parts.length≤12):Sml (aT s name p).1:=by
 unfold aT
 split
 ·exact h
 ·split
  ·exact h
  ·split
   ·exact h
   ·rename_i c3
    split
    ·exact h
    ·refine ⟨h.st,?_,?_,?_,h.se,?_⟩
     ·show (cL s.ser name).1.length≤1000
      unfold cL
      repeat' split
      all_goals simp
      omega
     ·show (s.posted++_).length≤1000
      simp only [List.length_append,List.length_cons,List.length_nil];omega
     ·show (bL s.book (cH p.total).1).1.length≤10000
      have:=rS s.book (cH p.total).1
      have:=(pR p.total).resolve_right c3
      omega
     ·intro q hq
      rcases List.mem_append.1 hq with hq | hq
      ·exact h.sq q hq
      ·rw [List.mem_singleton.1 hq]
       show p.total.parts.length≤1000
       omega
theorem aJf (l:List Posted) (k:Nat) (h:∀ p∈l,p.total.parts.length≤1000):(eA l k).length=l.length∧∀ p∈eA l k,p.total.parts.length≤1000:=by
 unfold eA
 split
 ·exact ⟨rfl,h⟩
 ·rename_i p hp
  refine ⟨List.length_set ..,fun q hq=>?_⟩
  rcases List.mem_or_eq_of_mem_set hq with hq | rfl
  ·exact h q hq
  ·exact h p (List.mem_of_getElem? hp)
theorem pS {α:Type} (l:List α) (i:Nat) (a:α):(cY l i a).length≤l.length+1:=by
 simp only [cY,List.length_append,List.length_cons,List.length_take,List.length_drop];omega
theorem aXi {s:State} (h:Sml s) (hr:bW s=true) (c:Cmd):Sml (mC s c).1:=by
 obtain ⟨r1,r2,r3,r4,r5,r6,_⟩:=gH hr
 unfold mC
 split
 ·unfold fB
  split
  ·refine ⟨h.st,?_,h.sp,h.sb,h.se,h.sq⟩
   show (fL s.ser c.series c.limit).1.length≤1000
   unfold fL
   repeat' split
   all_goals first | (simp;done) | (refine Nat.le_trans (pS _ _ _) ?_;omega)
  ·exact h
 ·split
  ·unfold fB
   split
   ·refine ⟨h.st,?_,h.sp,h.sb,h.se,h.sq⟩
    show (oO s.ser c.series).1.length≤1000
    unfold oO
    repeat' split
    all_goals simp
    omega
   ·exact h
  ·split
   ·unfold jB
    split
    ·refine ⟨?_,h.ss,h.sp,h.sb,h.se,h.sq⟩
     show (dE s.table c.row).1.length≤1000
     unfold dE
     repeat' split
     all_goals first | (simp;done) | (refine Nat.le_trans (pS _ _ _) ?_;omega)
    ·exact h
   ·split
    ·unfold lR
     split
     ·exact h
     ·rename_i c1
      exact aDk h r2 r4 r5 _ _ (rV (by omega)).1
    ·split
     ·unfold eN
      split
      ·exact h
      ·rename_i c1
       unfold eW
       split
       ·exact h
       ·split
        ·split
         ·exact h
         ·split
          ·exact h
          ·split
           ·exact h
           ·rename_i c4
            have hpar:(s.posted.getD (aW s.posted c.of).toNat Posted.zero).total.parts.length≤12:=by
             rw [List.getD_eq_getElem?_getD]
             cases hg:s.posted[(aW s.posted c.of).toNat]? with
             | none=>exact Nat.zero_le _
             | some p=>exact r6 p (List.mem_of_getElem? hg)
            have hbl:=uW (s.posted.getD (aW s.posted c.of).toNat Posted.zero).total
            have hi:=aDk h r2 r4 r5 c.series ⟨Ref.zero,c.day,(aV (s.posted.getD (aW s.posted c.of).toNat Posted.zero).total).1,c.of,false⟩ (Nat.le_trans hbl hpar)
            split
            ·obtain ⟨e1,e2⟩:=aJf _ (aW s.posted c.of).toNat hi.sq
             exact ⟨hi.st,hi.ss,by rw [e1];exact hi.sp,hi.sb,hi.se,e2⟩
            ·exact hi
        ·exact h
     ·split
      ·unfold gQ
       split
       ·refine ⟨h.st,h.ss,h.sp,h.sb,?_,h.sq⟩
        show (iZ s.sess c.session).1.length≤1000
        unfold iZ
        repeat' split
        all_goals first | (simp;done) | (simp only [mA,List.length_append,List.length_take,List.length_drop];omega)
       ·exact h
      ·exact h
theorem aQf (l:List Sess) (id seq:Int) (r:Rep):(kS l id seq r).1.length≤l.length:=by
 unfold kS
 repeat' split
 all_goals simp
theorem aDl {s:State} (h:Sml s) (c:Call):Sml (eO s c).1:=by
 unfold eO
 split
 ·exact h
 ·rename_i hr
  have hr:bW s=true:=by simpa using hr
  split
  ·exact h
  ·split
   ·unfold lH
    split
    ·exact h
    ·split
     ·exact h
     ·obtain ⟨_,_,r3,_⟩:=gH hr
      refine ⟨h.st,h.ss,h.sp,h.sb,?_,h.sq⟩
      show (oN s.sess s.next).1.length≤1000
      unfold oN
      repeat' split
      all_goals first | (simp;done) | (refine Nat.le_trans (pS _ _ _) ?_;omega)
   ·split
    ·exact h
    ·split
     ·exact h
     ·have hd:=aXi h hr c.cmd
      unfold iP
      split
      ·exact ⟨hd.st,hd.ss,hd.sp,hd.sb,by have:=aQf (mC s c.cmd).1.sess c.session c.seq (mC s c.cmd).2;have:=hd.se;show (kS _ _ _ _).1.length≤1000;omega,hd.sq⟩
      ·exact hd
def rW (c:Call):Call:={ c with cmd:={ c.cmd with lines:=c.cmd.lines.take 15 } }
def sT (l:List Call) (n:Nat):List Call:=(l.take n).map rW
def bI0:List V:=[.int .i64 0,.int .i64 0,.int .i64 0,.str [],.int .i64 0,.str [],.int .i64 0,.int .i64 0,.int .i64 0,.int .i64 0,.int .i64 0,.int .i64 0,.int .i64 0,.nils,.str [],.int .i64 0,.int .i64 0]
def nQ (st:State×List Rep) (c:Call):State×List Rep:=((eO st.1 c).1,st.2++[(eO st.1 c).2])
def iV (s:State) (l:List Call):State×List Rep:=l.foldl nQ (s,[])
def aOd (st:State×List Rep) (c:Call):(State×List Rep)⊕(State×List Rep):=.inr (nQ st c)
theorem aFm:∀ (l:List Call) (st:State×List Rep),aE aOd id l st=l.foldl nQ st
 | [],st=>rfl
 | c::l,st=>by simp only [aE,aOd,List.foldl_cons];exact aFm l _
theorem aQg (l:List Call):∀ (s:State) (a:List Rep),(l.foldl nQ (s,a)).2.length=a.length+l.length:=by
 induction l with
 | nil=>intro s a;rfl
 | cons c l ih=>intro s a;simp only [List.foldl_cons,nQ,List.length_cons];rw [ih];simp;omega
theorem aJg (l:List Call) (n:Nat):(sT l n).length≤n:=by simp only [sT,List.length_map,List.length_take];omega
end Go.Proofs.YtoaibmbldmckaaaGreat
end
section
namespace Go.AM
def tV {α:Type} (a:α):Option (List α)→Option (List α)
 | some l=>some (a::l)
 | none=>none
def zN:List V→Nat→Option (List V)
 | _,0=>some []
 | [],_+1=>none
 | a::l,n+1=>tV a (zN l n)
def tW:List V→Nat→List V→Option (List V)
 | cs,0,[]=>some cs
 | [],0,_::_=>none
 | _::cs,0,x::xs=>tV x (tW cs 0 xs)
 | [],_+1,_=>none
 | c::cs,j+1,xs=>tV c (tW cs j xs)
def sM:List V→Nat→Bool
 | [],0=>true
 | _::l,n+1=>sM l n
 | _,_=>false
def aHv {α:Type}:List α→Nat→α→Option (List α)
 | [],_,_=>none
 | _::l,0,x=>some (x::l)
 | a::l,i+1,x=>tV a (aHv l i x)
theorem aJh:∀ (l:List V) (n:Nat),zN l n=if n≤l.length then some (l.take n) else none
 | l,0=>by cases l<;>simp [zN]
 | [],n+1=>by simp [zN]
 | a::l,n+1=>by
  simp only [zN,aJh l n,List.length_cons,Nat.add_le_add_iff_right,List.take_succ_cons]
  split<;>rfl
theorem zO:∀ (cs:List V) (j:Nat) (xs:List V),tW cs j xs=if j+xs.length≤cs.length then some (splice cs j xs) else none
 | cs,0,[]=>by cases cs<;>simp [tW,splice]
 | [],0,x::xs=>by simp [tW]
 | c::cs,0,x::xs=>by
  have h:=zO cs 0 xs
  simp only [tW,h,List.length_cons,splice,List.take_zero,List.nil_append,Nat.zero_add]
  by_cases c1:xs.length≤cs.length
  ·rw [if_pos c1,if_pos (by omega)];simp [tV]
  ·rw [if_neg c1,if_neg (by omega)];rfl
 | [],j+1,xs=>by simp [tW]
 | c::cs,j+1,xs=>by
  have h:=zO cs j xs
  simp only [tW,h,List.length_cons,splice]
  by_cases c1:j+xs.length≤cs.length
  ·rw [if_pos c1,if_pos (by omega)]
   simp only [tV,List.take_succ_cons,List.cons_append,show j+1+xs.length=(j+xs.length)+1 by omega,List.drop_succ_cons]
  ·rw [if_neg c1,if_neg (by omega)];rfl
theorem zR:∀ (l:List V) (n:Nat),sM l n=decide (l.length=n)
 | [],0=>rfl
 | [],n+1=>by simp [sM]
 | a::l,0=>by simp [sM]
 | a::l,n+1=>by simp [sM,zR l n]
theorem aOe {α:Type}:∀ (l:List α) (i:Nat) (x:α),aHv l i x=if i<l.length then some (l.set i x) else none
 | [],i,x=>by simp [aHv]
 | a::l,0,x=>by simp [aHv]
 | a::l,i+1,x=>by
  simp only [aHv,aOe l i x,List.length_cons,Nat.add_lt_add_iff_right,List.set_cons_succ]
  split<;>rfl
theorem pt2 (n:Nat) (cs:List V) (j:Nat):lN (some (n+1)) cs j=(match zN (cs.drop j) (n+1) with
  | some l=>.ok (.agg l)
  | none=>.error "part"):=by
 simp only [lN,aJh,List.length_drop]
 by_cases c:j+(n+1)≤cs.length
 ·rw [if_pos c,if_pos (by omega)]
 ·rw [if_neg c,if_neg (by omega)]
theorem nX (n a ver i j:Nat) (x:V) (S:St):fV n (.ptr a ver i j) x S=(match aA S a ver with
  | .error e=>.error e
  | .ok (es,elems)=>match elems[i]? with
   | some cs=>(match sM x.cells n&&aJ x.cells with
    | true=>(match tW cs j x.cells with
     | some cs'=>.ok ⟨S.next,S.heap.put a (.row ver es (elems.set i cs'))⟩
     | none=>.error "store: the size")
    | false=>.error "store: the size")
   | none=>.error "store"):=by
 simp only [fV,zO,zR]
 cases aA S a ver with
 | error e=>rfl
 | ok r=>
  obtain ⟨es,elems⟩:=r
  simp only
  cases elems[i]? with
  | none=>rfl
  | some cs=>
   simp only
   by_cases c1:x.cells.length=n
   ·cases c2:aJ x.cells
    ·simp [c1]
    ·by_cases c3:j+x.cells.length≤cs.length
     ·rw [if_pos ⟨c1,rfl,c3⟩];simp [c1];simp [←c1,c3]
     ·rw [if_neg (fun h=>c3 h.2.2)];simp [c1];simp [←c1,c3]
   ·rw [if_neg (fun h=>c1 h.1)];simp [c1]
theorem bw0 (z:List V) (pl:List (Nat×Nat)):wQ z pl []=.ok (.agg z):=rfl
theorem bw1 (z:List V) (pl:List (Nat×Nat)) (i:Nat) (v:V) (rest:List (Nat×V)):wQ z pl ((i,v)::rest)=(match pl[i]? with
  | none=>.error "fill"
  | some (off,size)=>(match sM v.cells size&&aJ v.cells with
   | true=>(match tW z off v.cells with
    | some z'=>wQ z' pl rest
    | none=>.error "fill")
   | false=>.error "fill")):=by
 simp only [wQ,sY]
 cases pl[i]? with
 | none=>rfl
 | some p=>
  obtain ⟨off,size⟩:=p
  simp only [zO,zR,cond_eq_ite]
  by_cases c1:v.cells.length=size
  ·cases c2:aJ v.cells
   ·simp [c1]
   ·by_cases c3:off+v.cells.length≤z.length
    ·have h1:Nat.beq v.cells.length size=true:=by simpa using c1
     have h2:Nat.ble (off+v.cells.length) z.length=true:=Nat.ble_eq_true_of_le c3
     simp [h1,h2,c1]
     simp [←c1,c3]
    ·have h2:Nat.ble (off+v.cells.length) z.length=false:=by
      cases h:Nat.ble (off+v.cells.length) z.length with
      | false=>rfl
      | true=>exact absurd (Nat.le_of_ble_eq_true h) c3
     simp [h2,c1]
     simp [←c1,c3]
  ·have h1:Nat.beq v.cells.length size=false:=by
    cases h:Nat.beq v.cells.length size with
    | false=>rfl
    | true=>exact absurd (Nat.eq_of_beq_eq_true h) c1
   simp [h1,c1]
theorem lv1 (es:Nat) (elems:List (List V)) (i:Nat) (v:V) (rest:List (Nat×V)):vU es elems ((i,v)::rest)=(match sM v.cells es&&aJ v.cells with
  | true=>(match aHv elems i v.cells with
   | some e=>vU es e rest
   | none=>.error "buildSlice")
  | false=>.error "buildSlice"):=by
 simp only [vU,aOe,zR,cond_eq_ite]
 by_cases c1:v.cells.length=es
 ·have h1:Nat.beq v.cells.length es=true:=by simpa using c1
  cases c2:aJ v.cells
  ·simp [c1]
  ·by_cases c3:i<elems.length
   ·have h2:Nat.blt i elems.length=true:=by simpa using c3
    simp [h1,h2,c1,c3]
   ·have h2:Nat.blt i elems.length=false:=by
     cases h:Nat.blt i elems.length with
     | false=>rfl
     | true=>exact absurd (by simpa using h) c3
    simp [h2,c1,c3]
 ·have h1:Nat.beq v.cells.length es=false:=by
   cases h:Nat.beq v.cells.length es with
   | false=>rfl
   | true=>exact absurd (Nat.eq_of_beq_eq_true h) c1
  simp [h1,c1]
theorem bBv:(∀ {α:Type} (a:α) (l:List α),tV a (some l)=some (a::l))∧(∀ l:List V,zN l 0=some [])∧(∀ (a:V) (l:List V) (n:Nat),zN (a::l) (n+1)=tV a (zN l n)) ∧
  (∀ cs:List V,tW cs 0 []=some cs)∧(∀ (c x:V) (cs xs:List V),tW (c::cs) 0 (x::xs)=tV x (tW cs 0 xs))∧(∀ (c:V) (cs:List V) (j:Nat) (xs:List V),tW (c::cs) (j+1) xs=tV c (tW cs j xs)) ∧
  sM [] 0=true∧(∀ (a:V) (l:List V) (n:Nat),sM (a::l) (n+1)=sM l n)∧(∀ {α:Type} (a:α) (l:List α) (x:α),aHv (a::l) 0 x=some (x::l))∧(∀ {α:Type} (a:α) (l:List α) (i:Nat) (x:α),aHv (a::l) (i+1) x=tV a (aHv l i x)) ∧
  type_of% pt2∧(∀ (n a j:Nat) (x:V) (S:St),type_of% (nX n a 0 0 j x S))∧type_of% bw0∧type_of% bw1∧type_of% lv1∧(∀ (es:Nat) (l:List (List V)),vU es l []=.ok l):=
 ⟨fun _ _=>rfl,fun l=>by cases l<;>rfl,fun _ _ _=>rfl,fun cs=>by cases cs<;>rfl,fun _ _ _ _=>rfl,fun _ _ _ _=>by simp only [tW],rfl,fun _ _ _=>rfl,fun _ _ _=>rfl,fun _ _ _ _=>rfl,pt2,fun n a j x S=>nX n a 0 0 j x S,bw0,bw1,lv1,fun _ _=>rfl⟩
section
section
variable {P:Program}
theorem aXj (b:Bool) (x y:Prop):aH (.bool b) x y=if b=true then x else y:=by cases b<;>rfl
theorem ldP (k:Option Nat) (a ver i j:Nat) (S:St):jH k (.ptr a ver i j) S=(match aA S a ver with
  | .error e=>.error e
  | .ok (_,elems)=>match elems[i]? with
   | some cs=>lN k cs j
   | none=>.error "load"):=rfl
theorem ptN (cs:List V) (j:Nat):lN none cs j=(match cs[j]? with
  | some v=>.ok v
  | none=>.error "part"):=rfl
theorem grS (n:Nat) (h:Tr Blk) (a ver es:Nat) (el:List (List V)):aA ⟨n,h.put a (.row ver es el)⟩ a ver=.ok (es,el):=aC ..
theorem cN {c a:Nat} (hc:c≠a) (n:Nat) (h:Tr Blk) (ver:Nat) (b:Blk):aA ⟨n,h.put a b⟩ c ver=aA ⟨n,h⟩ c ver:=cK n n h a c ver b hc
theorem nb0 (S:St) (b:Blk):bG none S b=.ok (S.next,⟨S.next+1,S.heap.put S.next b⟩):=fI S b
theorem nb1 (k:Nat) (S:St) (b:Blk):bG (some k) S b=.ok (k,⟨S.next,S.heap.put k b⟩):=uJ k S b
theorem stP (n a ver i j:Nat) (x:V) (S:St):fV n (.ptr a ver i j) x S=(match aA S a ver with
  | .error e=>.error e
  | .ok (es,elems)=>match elems[i]? with
   | some cs=>if x.cells.length=n∧aJ x.cells=true∧j+x.cells.length≤cs.length then .ok ⟨S.next,S.heap.put a (.row ver es (elems.set i (splice cs j x.cells)))⟩ else .error "store: the size"
   | none=>.error "store"):=rfl
theorem ixI {α:Type} {l:List α} {enc:α→List V} {i:Nat} {a:α} {n:Nat} (hi:l[i]?=some a) (hn:(enc a).length=n) (k:IntKind):iF n (.imm (l.map enc)) (.int k (i:Int))=.ok (.iptr (enc a) 0):=by
 have hil:=(List.getElem?_eq_some_iff.1 hi).1
 have hx:(l.map enc)[i]?=some (enc a):=by rw [List.getElem?_map,hi];rfl
 simp only [iF,List.length_map,jX hil,hx]
 simp only [hn,if_true]
theorem okI {α:Type} (a b:α):((Except.ok a:R α)=.ok b)=(a=b):=by simp
end
theorem kit:(∀ {α:Type} (a:α) (K:α→Prop),wR (.ok a) K=K a)∧(∀ {α:Type} (a:α) (K:α→Prop),wO (some a) K=K a)∧(∀ x:Prop,nW true x=x)∧(∀ (b:Bool) (x y:Prop),aH (.bool b) x y=if b=true then x else y) ∧
  (∀ (v:V) (r:List V) (K:V→List V→Prop),qH (v::r) K=K v r)∧(∀ (vs:List V) (i:Nat) (K:V→Prop),cG (.tup vs) i K=wO vs[i]? K)∧(∀ (a b c d:Nat) (x:Prop),aAc (.ptr a b c d) x=x)∧(∀ (a:List V) (b:Nat) (x:Prop),aAc (.iptr a b) x=x) ∧
  (∀ b:Bool,vD .not (.bool b)=.ok (.bool !b))∧(∀ v:V,dO v v=true):=
 ⟨fun _ _=>rfl,fun _ _=>rfl,fun _=>rfl,aXj,fun _ _ _=>rfl,fun _ _ _=>rfl,fun _ _ _ _ _=>rfl,fun _ _ _=>rfl,fun _=>rfl,aAe⟩
theorem bI2 (P:Program):(∀ (t:TypeId) (k:IntKind) (a b:Int),bX P .add t (.int k a) (.int k b)=.ok (.int k (wr k (a+b))))∧(∀ (t:TypeId) (k:IntKind) (a b:Int),bX P .sub t (.int k a) (.int k b)=.ok (.int k (wr k (a - b)))) ∧
  (∀ (t:TypeId) (k:IntKind) (a b:Int),bX P .mul t (.int k a) (.int k b)=.ok (.int k (wr k (a*b))))∧(∀ (t:TypeId) (k:IntKind) (a b:Int),bX P .lss t (.int k a) (.int k b)=.ok (.bool (decide (a<b)))) ∧
  (∀ (t:TypeId) (k:IntKind) (a b:Int),bX P .leq t (.int k a) (.int k b)=.ok (.bool (decide (a≤b))))∧(∀ (t:TypeId) (k:IntKind) (a b:Int),bX P .gtr t (.int k a) (.int k b)=.ok (.bool (decide (b<a)))) ∧
  (∀ (t:TypeId) (k:IntKind) (a b:Int),bX P .geq t (.int k a) (.int k b)=.ok (.bool (decide (b≤a))))∧(∀ (t:TypeId) (k:IntKind) (a b:Int),bX P .eql t (.int k a) (.int k b)=.ok (.bool (decide (a=b)))) ∧
  (∀ (t:TypeId) (k:IntKind) (a b:Int),bX P .neq t (.int k a) (.int k b)=.ok (.bool (!decide (a=b)))) ∧
  (∀ (t:TypeId) (j k:IntKind) (a b:Int),cO P t (.int j a) (.int k b)=true)∧(∀ (t:TypeId) (x y:List UInt8),cO P t (.str x) (.str y)=true)∧(∀ (t:TypeId) (x y:Bool),cO P t (.bool x) (.bool y)=true) ∧
  (∀ (t:TypeId) (x y:List UInt8),bX P .eql t (.str x) (.str y)=.ok (.bool (x == y)))∧(∀ (t:TypeId) (x y:List UInt8),bX P .neq t (.str x) (.str y)=.ok (.bool (!(x == y)))) ∧
  (∀ (t:TypeId) (x y:List UInt8),bX P .lss t (.str x) (.str y)=.ok (.bool (fN x y)))∧(∀ (t:TypeId) (x y:List UInt8),bX P .geq t (.str x) (.str y)=.ok (.bool (!fN x y))) ∧
  (∀ (t:TypeId) (k:IntKind) (a b:Int),b≠0→bX P .quo t (.int k a) (.int k b)=.ok (.int k (wr k (a.tdiv b))))∧(∀ (t:TypeId) (k:IntKind) (a b:Int),b≠0→bX P .rem t (.int k a) (.int k b)=.ok (.int k (a.tmod b))):=
 ⟨aW1 P,aW2 P,aW3 P,aW6 P,aW7 P,aW8 P,aW9 P,aWa P,aWb P,fun _ _ _ _ _=>rfl,fun _ _ _=>rfl,fun _ _ _=>rfl,aWc P,aWd P,aWe P,aWf P,fun _ _ _ _ h=>aW4 P _ _ _ _ h,fun _ _ _ _ h=>aW5 P _ _ _ _ h⟩
theorem bI3 : (∀ (k : Option Nat) (a j : Nat) (S : St), jH k (.ptr a 0 0 j) S = (match aA S a 0 with
      | .error e => .error e
      | .ok (_, elems) => match elems[0]? with
        | some cs => lN k cs j
        | none => .error "load")) ∧ (∀ (k : Option Nat) (cs : List V) (j : Nat) (S : St), jH k (.iptr cs j) S = lN k cs j) ∧
    (∀ (cs : List V) (j : Nat), lN none cs j = (match cs[j]? with
      | some v => .ok v
      | none => .error "part")) ∧
    (∀ off a ver i j : Nat, advW off (.ptr a ver i j) = .ok (.ptr a ver i (j + off))) ∧ (∀ (off : Nat) (cs : List V) (j : Nat), advW off (.iptr cs j) = .ok (.iptr cs (j + off))) ∧
    (∀ (n : Nat) (h : Tr Blk) (a ver es : Nat) (el : List (List V)), aA ⟨n, h.put a (.row ver es el)⟩ a ver = .ok (es, el)) ∧ (∀ (S : St) (b : Blk), bG none S b = .ok (S.next, ⟨S.next + 1, S.heap.put S.next b⟩)) ∧
    (∀ (k : Nat) (S : St) (b : Blk), bG (some k) S b = .ok (k, ⟨S.next, S.heap.put k b⟩)) ∧ (∀ cs : List V, (V.agg cs).cells = cs) ∧ (∀ b : Bool, (V.bool b).cells = [.bool b]) ∧ (∀ (k : IntKind) (n : Int), (V.int k n).cells = [.int k n]) ∧
    (∀ s : List UInt8, (V.str s).cells = [.str s]) ∧ (∀ es : List (List V), (V.imm es).cells = [.imm es]) ∧ V.nils.cells = [.nils] ∧ (∀ a b c d : Nat, (V.ptr a b c d).cells = [.ptr a b c d]) ∧ (∀ a b c d e : Nat, (V.sl a b c d e).cells = [.sl a b c d e]) ∧
    (∀ (f : FuncId) (a b : List V), (V.func f a b).cells = [.func f a b]) ∧ aJ [] = true ∧ (∀ (v : V) (l : List V), aJ (v :: l) = (v.one && aJ l)) ∧ (∀ b : Bool, (V.bool b).one = true) ∧ (∀ (k : IntKind) (n : Int), (V.int k n).one = true) ∧ (∀ s : List UInt8, (V.str s).one = true) ∧
    (∀ es : List (List V), (V.imm es).one = true) ∧ V.nils.one = true ∧ (∀ a b c d : Nat, (V.ptr a b c d).one = true) ∧ (∀ a b c d e : Nat, (V.sl a b c d e).one = true) ∧ (∀ (f : FuncId) (a b : List V), (V.func f a b).one = true) ∧
    (∀ es : List (List V), lenW (.imm es) = .ok (.int .i64 es.length)) ∧ lenW .nils = .ok (.int .i64 0) ∧ (∀ a b c d e : Nat, lenW (.sl a b c d e) = .ok (.int .i64 e)) ∧
    (∀ (S : St) (b : Bool), dS S (.bool b) = .ok (.bool b)) ∧ (∀ (S : St) (k : IntKind) (n : Int), dS S (.int k n) = .ok (.int k n)) ∧ (∀ (S : St) (s : List UInt8), dS S (.str s) = .ok (.str s)) ∧ (∀ (S : St) (es : List (List V)), dS S (.imm es) = .ok (.imm es)) ∧
    (∀ {α : Type} (a b : α), ((Except.ok a : R α) = .ok b) = (a = b)) :=
  ⟨fun _ _ _ _ => rfl, fun _ _ _ _ => rfl, fun _ _ => rfl, fun _ _ _ _ _ => rfl, fun _ _ _ => rfl, grS, nb0, nb1, fun _ => rfl, fun _ => rfl, fun _ _ => rfl, fun _ => rfl, fun _ => rfl, rfl, fun _ _ _ _ => rfl, fun _ _ _ _ _ => rfl, fun _ _ _ => rfl, rfl, fun _ _ => rfl,
    fun _ => rfl, fun _ _ => rfl, fun _ => rfl, fun _ => rfl, rfl, fun _ _ _ _ => rfl, fun _ _ _ _ _ => rfl, fun _ _ _ => rfl, fun _ => rfl, rfl, fun _ _ _ _ _ => rfl, fun _ _ => rfl, fun _ _ _ => rfl, fun _ _ => rfl, fun _ _ => rfl, okI⟩
end
end Go.AM
end
