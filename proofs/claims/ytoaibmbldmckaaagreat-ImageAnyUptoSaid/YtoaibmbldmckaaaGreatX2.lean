import Derived.KernelRfl
import Derived.Lib.Walk
import Derived.Test.YtoaibmbldmckaaaGreatProg
import Derived.WalkKit
import Derived.Test.YtoaibmbldmckaaaGreatX1
set_option linter.unusedSimpArgs false
set_option linter.unusedVariables false
set_option linter.unusedSectionVars false
set_option maxRecDepth 100000
section
set_option linter.unusedSimpArgs false
set_option linter.unusedVariables false
namespace Go.AM
structure D (b:Nat) (S S':St):Prop where
 next:S.next≤S'.next
 dead:∀ a,a<b→S.heap.get a=none→S'.heap.get a=none
section
variable {P:Program} {b:Nat} {S S':St} {fr:Option Nat}
end
end Go.AM
namespace Go.AM
end Go.AM
end
section
namespace Go.AM
section
section
variable {P:Program} {pl:gO} {lv:aXq}
end
theorem Sl.nilv (S:St) (n:Nat):Sl S n .nils []:=⟨.inl ⟨rfl,rfl⟩,fun _ h=>by cases h⟩
structure But (a:Nat) (S S':St):Prop where
 old:∀ y b,y≠a→S.heap.get y=some b→S'.heap.get y=some b
 next:S.next≤S'.next
 wf:WF S→WF S'
theorem But.of {a:Nat} {S S':St} (x:Ext S S'):But a S S':=⟨fun y b _ h=>x.old y b h,x.next,x.wf⟩
theorem But.trans {a:Nat} {A B C:St} (h:But a A B) (k:But a B C):But a A C:=⟨fun y b hy q=>k.old y b hy (h.old y b hy q),Nat.le_trans h.next k.next,fun w=>k.wf (h.wf w)⟩
theorem But.put {a:Nat} {S:St} (ha:a<S.next) (b:Blk):But a S ⟨S.next,S.heap.put a b⟩:=by
 refine ⟨fun y c hy h=>?_,Nat.le_refl _,fun w y c hc=>?_⟩
 ·show (S.heap.put a b).get y=some c
  rw [Tr.get_put_neB _ _ _ _ trivial hy];exact h
 ·have hc':(S.heap.put a b).get y=some c:=hc
  rw [Tr.get_putB _ _ _ _ trivial] at hc'
  split at hc'
  ·show y<S.next;omega
  ·exact w y c hc'
def blkOf:V→Option Nat
 | .sl a _ _ _ _=>some a
 | _=>none
theorem fE {S0 S:St} {n:Nat} {v:V} {es:List (List V)} (h:Own S0 S n v es) {y:Nat} (hy:blkOf v=some y):S0.next≤y∧y<S.next:=by
 rcases h.is with ⟨e1,_⟩ | ⟨a,ver,tl,e1,e2,e3,_⟩
 ·rw [e1] at hy;cases hy
 ·rw [e1] at hy;cases hy;exact ⟨e2,e3⟩
theorem Own.same {S0 S S':St} {n:Nat} {v:V} {es:List (List V)} (h:Own S0 S n v es) (hn:S.next≤S'.next) (hg:∀ a,blkOf v=some a→S'.heap.get a=S.heap.get a):Own S0 S' n v es:=
 h.other hn fun a ver m hv=>hg a (by rw [hv];rfl)
theorem Own.pushAt {S0 S:St} {n b:Nat} {v:V} {es:List (List V)} (h:Own S0 S n v es) (x:Ext S0 S) (w:WF S0) {u:V} {cs:List (List V)} (hu:aM S u=.ok cs) (hc:∀ c,c∈cs→c.length=n∧aI c=true) (hne:cs≠[])
  {k:Nat} (hk:S0.next≤k) (hk2:k<S.next) (hk3:S.heap.get k=none)
  (h1:(es.length+cs.length)*b≤35184372088832) (h2:es.length+cs.length<eE):∃ v' S',eN n b v u (some k) S=.ok (v',S')∧Ext S0 S'∧S'.next=S.next∧Own S0 S' n v' (es++cs)∧(blkOf v'=some k∨blkOf v'=blkOf v)∧∀ y,y≠k→blkOf v≠some y→S'.heap.get y=S.heap.get y:=by
 obtain ⟨a1,a2⟩:=eJ hc
 have hlen:∀ c,c∈es++cs→c.length=n∧aI c=true:=fun c hm=>(List.mem_append.1 hm).elim (h.len c) (hc c)
 rcases h.is with ⟨rfl,rfl⟩ | ⟨a,ver,tl,rfl,q1,q2,q3⟩
 ·cases cs with
  | nil=>exact absurd rfl hne
  | cons c cs=>
   refine ⟨.sl k 0 n 0 (c::cs).length,⟨S.next,S.heap.put k (.row 0 n (c::cs))⟩,?_,x.trans (Ext.newAt hk3 hk2 _),rfl,⟨.inr ⟨k,0,[],rfl,hk,hk2,?_⟩,hlen⟩,.inl rfl,fun y hy _=>Tr.get_put_neB _ _ _ _ trivial hy⟩
   ·simp only [List.length_nil,Nat.zero_add] at h1 h2
    simp only [eN,hu,a1,a2,and_self,if_true,h1,h2,aAw]
   ·rw [List.append_nil];exact Tr.get_put_sameB _ _ _ trivial
 ·have hb:0+es.length≤es.length+tl.length:=by omega
  refine ⟨.sl a (ver+1) n 0 (es++cs).length,⟨S.next,S.heap.put a (.row (ver+1) n (es++cs))⟩,?_,x.set q1 q2 w _,rfl,⟨.inr ⟨a,ver+1,[],rfl,q1,q2,?_⟩,hlen⟩,.inr rfl,fun y _ hy=>Tr.get_put_neB _ _ _ _ trivial (fun e=>hy (by rw [e];rfl))⟩
  ·simp only [eN,hu,a1,a2,and_self,if_true,bQ q3,hb,h1,h2,List.drop_zero,List.take_left',List.length_append]
  ·rw [List.append_nil];exact Tr.get_put_sameB _ _ _ trivial
theorem vb {S:St} (w:WF S) (n:Nat) (zs:List V) (x:V) (hz:zs.length=n) (hx:x.cells.length=n) (ho:aI x.cells=true):
  ∃ S1 S2,aR none S (.row 0 n [zs])=.ok (S.next,S1)∧eM n (.ptr S.next 0 0 0) x S1=.ok S2∧Ext S S2∧S2.heap.get S.next=some (.row 0 n [x.cells])∧S2.next=S.next+1:=
 ⟨_,_,eT ..,aKr S n zs x hz hx ho,Ext.var w n zs x.cells,wU (aR0 S n zs x.cells),rfl⟩
theorem Sl.keep {S S':St} {n:Nat} {v:V} {es:List (List V)} (h:Sl S n v es) (hg:∀ y c,blkOf v=some y→S.heap.get y=some c→S'.heap.get y=some c):Sl S' n v es:=by
 refine ⟨?_,h.len⟩
 rcases h.is with h1 | h1 | ⟨a,ver,off,elems,h1,h2,h3⟩
 ·exact .inl h1
 ·exact .inr (.inl h1)
 ·exact .inr (.inr ⟨a,ver,off,elems,h1,bQ (hg a _ (by rw [h1];rfl) (wU h2)),h3⟩)
mutual
theorem uF:∀ v:V,eL v v=true
 | .bool b=>by simp [eL]
 | .int k n=>by simp [eL,bY]
 | .str s=>by rw [eL];rw [cF];simp
 | .nilp=>rfl
 | .ptr a b c d=>by simp [eL]
 | .iptr a b=>by simp [eL,beqVs_refl a]
 | .nils=>rfl
 | .sl a b c d f=>by simp [eL]
 | .imm a=>by simp [eL,beqVss_refl a]
 | .agg a=>by simp [eL,beqVs_refl a]
 | .tup a=>by simp [eL,beqVs_refl a]
 | .nili=>rfl
 | .iface t a=>by simp [eL,uF a]
 | .nilf=>rfl
 | .func f a b=>by simp [eL,beqVs_refl a,beqVs_refl b]
 | .nilm=>rfl
 | .mp a=>by simp [eL]
 | .res a b=>by simp [eL]
theorem beqVs_refl:∀ l:List V,beqVs l l=true
 | []=>rfl
 | a::l=>by simp [beqVs,uF a,beqVs_refl l]
theorem beqVss_refl:∀ l:List (List V),beqVss l l=true
 | []=>rfl
 | a::l=>by simp [beqVss,beqVs_refl a,beqVss_refl l]
end
end
section
mutual
def yU:V→Bool
 | .ptr _ _ _ _=>false
 | .nils=>false
 | .sl _ _ _ _ _=>false
 | .agg cs=>cloVs cs
 | .tup cs=>cloVs cs
 | .iface _ v=>yU v
 | .func _ a b=>cloVs a&&cloVs b
 | .mp _=>false
 | _=>true
def cloVs:List V→Bool
 | []=>true
 | v::l=>yU v&&cloVs l
end
mutual
theorem wV {ρ:Nat→Option Nat} {σ:V→R V}:∀ (v:V),yU v=true→cP ρ σ v=.ok v
 | .bool _,_ | .int _ _,_ | .str _,_ | .nilp,_ | .iptr _ _,_ | .imm _,_ | .nili,_ | .nilf,_ | .nilm,_ | .res _ _,_=>rfl
 | .agg cs,h=>by simp only [cP,clo_frzs cs h]
 | .tup cs,h=>by simp only [cP,clo_frzs cs h]
 | .iface t v,h=>by simp only [cP,wV v h]
 | .func f a b,h=>by
  simp only [yU,Bool.and_eq_true] at h
  simp only [cP,clo_frzs a h.1,clo_frzs b h.2]
theorem clo_frzs {ρ:Nat→Option Nat} {σ:V→R V}:∀ (l:List V),cloVs l=true→frzVs ρ σ l=.ok l
 | [],_=>rfl
 | v::l,h=>by
  simp only [cloVs,Bool.and_eq_true] at h
  simp only [frzVs,wV v h.1,clo_frzs l h.2]
end
mutual
theorem aCy:∀ (v:V),yU v=true→aAt v=[]
 | .bool _,_ | .int _ _,_ | .str _,_ | .nilp,_ | .iptr _ _,_ | .imm _,_ | .nili,_ | .nilf,_ | .nilm,_ | .res _ _,_=>rfl
 | .agg cs,h=>clo_ptrs cs h
 | .tup cs,h=>clo_ptrs cs h
 | .iface t v,h=>aCy v h
 | .func f a b,h=>by
  simp only [yU,Bool.and_eq_true] at h
  simp only [aAt,clo_ptrs a h.1,clo_ptrs b h.2,List.append_nil]
theorem clo_ptrs:∀ (l:List V),cloVs l=true→ptrsVs l=[]
 | [],_=>rfl
 | v::l,h=>by
  simp only [cloVs,Bool.and_eq_true] at h
  simp only [ptrsVs,aCy v h.1,clo_ptrs l h.2,List.append_nil]
end
mutual
theorem aCz {τ:V→List Nat}:∀ (v:V),yU v=true→lL τ v=[]
 | .bool _,_ | .int _ _,_ | .str _,_ | .nilp,_ | .iptr _ _,_ | .imm _,_ | .nili,_ | .nilf,_ | .nilm,_ | .res _ _,_=>rfl
 | .agg cs,h=>clo_sls cs h
 | .tup cs,h=>clo_sls cs h
 | .iface t v,h=>aCz v h
 | .func f a b,h=>by
  simp only [yU,Bool.and_eq_true] at h
  simp only [lL,clo_sls a h.1,clo_sls b h.2,List.append_nil]
theorem clo_sls {τ:V→List Nat}:∀ (l:List V),cloVs l=true→slsVs τ l=[]
 | [],_=>rfl
 | v::l,h=>by
  simp only [cloVs,Bool.and_eq_true] at h
  simp only [slsVs,aCz v h.1,clo_sls l h.2,List.append_nil]
end
theorem yV:aA9 []=lX:=by funext i;cases i<;>rfl
theorem yW (l:List Nat):(l.any fun a=>Nat.blt a 0)=false:=by
 rw [List.any_eq_false]
 intro a _
 simp
def iR (S:St) (v:V):R V:=cP lX (nL (kK S 3) S) v
theorem aMo {run:List V→St→R (V×St)} {args:List V} (hc:cloVs args=true) {S S0:St} {v0 v:V} (h:run args ⟨0,.nil⟩=.ok (v0,S0)) (ho:iR S0 v0=.ok v):vP run args S=.ok (v,S):=by
 unfold vP
 have h1:fG (ptrsVs args)=[]:=by rw [clo_ptrs args hc];rfl
 have h2:slsVs (mG (jR S 3) S) args=[]:=clo_sls args hc
 have ho':cP (aA9 []) (nL (kK S0 3) S0) v0=.ok v:=by rw [yV];exact ho
 rw [h1,h2]
 simp only [clo_frzs args hc,nC,dH,List.append_nil,List.any_nil,cond_false,List.length_nil,vO,h,ho',rT,yW]
 cases iY v&&uQ []<;>rfl
section
variable {P:Program} {pl:gO}
def W (P:Program) (pl:gO):aX:=fun f args S K=>∃ v S',Evt (fun k=>dV P pl k f args S) (v,S')∧K v S'
theorem aR1:kR (dV P pl) (W P pl):=fun f args S K h=>h
theorem aKs {f:FuncId} {args:List V} {S S':St} {v:V} (h:Evt (fun k=>dV P pl k f args S) (v,S')) (K:KW):W P pl f args S K=K v S':=by
 refine propext ⟨?_,fun h1=>⟨v,S',h,h1⟩⟩
 rintro ⟨v1,S1,h1,h2⟩
 cases h.eq h1
 exact h2
theorem oI {f:FuncId} {args:List V} {S:St} {r:V×St} (h:Evt (fun k=>dV P pl (k+1) f args S) r):Evt (fun k=>dV P pl k f args S) r:=by
 obtain ⟨N,h⟩:=h
 refine ⟨N+1,fun k hk=>?_⟩
 obtain ⟨k,rfl⟩:∃ m,k=m+1:=⟨k - 1,by omega⟩
 exact h k (by omega)
theorem aWf {f:FuncId} {p:Nat→Option (List bH)} (hpl:pl f=some (.code p)) {lv:Nat→List Nat} {args:List V} {S:St} {K:KW} (h:gQ P (W P pl) p lv f args S K):W P pl f args S K:=by
 obtain ⟨v,S',h1,h2⟩:=mP aR1 h
 exact ⟨v,S',oI (h1.one fun k h1=>by simp only [dV,hpl];exact h1),h2⟩
theorem aMp {f:FuncId} {g:List V→St→R (V×St)} (hpl:pl f=some (.spec g)) {args:List V} {S S':St} {v:V} (h:g args S=.ok (v,S')) (K:KW):W P pl f args S K=K v S':=
 aKs (oI (.of fun k=>by simp only [dV,hpl,h])) K
def Fn (P:Program) (pl:gO) (f:FuncId) (args:List V) (v:V):Prop:=∀ S,Evt (fun k=>dV P pl k f args S) (v,S)
theorem Fn.eq {f:FuncId} {args:List V} {v:V} (h:Fn P pl f args v) (S:St) (K:KW):W P pl f args S K=K v S:=aKs (h S) K
theorem Fn.of {f:FuncId} {p:Nat→Option (List bH)} (hpl:pl f=some (.val p)) {lv:Nat→List Nat} {args:List V} {v:V} (hc:cloVs args=true)
  (h:gQ P (W P pl) p lv f args ⟨0,.nil⟩ fun v0 S0=>iR S0 v0=.ok v):Fn P pl f args v:=by
 obtain ⟨v0,S0,h1,h2⟩:=mP aR1 h
 exact fun S=>oI (h1.one fun k h1=>by simp only [dV,hpl];exact aMo hc h1 h2)
structure Pt (mk:Nat→List V):Prop where
 ptr:∀ a,fG (ptrsVs (mk a))=[a]
 frz:∀ a σ,frzVs (fun b=>pO b 0 [a]) σ (mk a)=.ok (mk 0)
 sls:∀ a τ,slsVs τ (mk a)=[]
theorem Pt.head {ver i j:Nat} {args:List V} (hc:cloVs args=true):Pt fun a=>.ptr a ver i j::args:=
 ⟨fun a=>by simp only [ptrsVs,aAt,clo_ptrs args hc];rfl,fun a σ=>by simp only [frzVs,cP,pO,Nat.beq_refl,cond_true,clo_frzs args hc],fun a τ=>by simp only [slsVs,lL,clo_sls args hc,List.append_nil]⟩
theorem Pt.next {v:V} {mk:Nat→List V} (hv:yU v=true) (h:Pt mk):Pt fun a=>v::mk a:=
 ⟨fun a=>by simp only [ptrsVs,aCy v hv,List.nil_append];exact h.ptr a,fun a σ=>by simp only [frzVs,wV v hv,h.frz],fun a τ=>by simp only [slsVs,aCz v hv,h.sls,List.append_nil]⟩
def FnR (P:Program) (pl:gO) (f:FuncId) (mk:Nat→List V) (ver n:Nat) (pre:List (List V)) (v:V) (post:List (List V)):Prop:=
 ∀ S a,S.heap.get a=some (.row ver n pre)→Evt (fun k=>dV P pl k f (mk a) S) (v,⟨S.next,S.heap.put a (.row ver n post)⟩)
theorem aHs {φ:List V→R (List V)}:∀ {l:List (List V)},(∀ x,x∈l→φ x=.ok x)→jQ φ l=.ok l
 | [],_=>rfl
 | x::l,h=>by simp only [jQ,h x (List.mem_cons_self ..),aHs fun y hy=>h y (List.mem_cons_of_mem _ hy)]
theorem aEw {φ:List V→List Nat}:∀ {l:List (List V)},(∀ x,x∈l→φ x=[])→mF φ l=[]
 | [],_=>rfl
 | x::l,h=>by simp only [mF,h x (List.mem_cons_self ..),aEw fun y hy=>h y (List.mem_cons_of_mem _ hy),List.append_nil]
theorem aR2 {S:St} {n:Nat} {x:List V} (h:cloVs x=true):kK S (n+1) x=.ok x:=clo_frzs x h
theorem aR3 {S:St} {n:Nat} {x:List V} (h:cloVs x=true):jR S (n+1) x=[]:=clo_sls x h
theorem oJ {S:St} {n:Nat} {l:List (List V)} (h:l.all cloVs=true):jQ (kK S (n+1)) l=.ok l∧mF (jR S (n+1)) l=[]:=
 ⟨aHs fun x hx=>aR2 (List.all_eq_true.1 h x hx),aEw fun x hx=>aR3 (List.all_eq_true.1 h x hx)⟩
theorem aMq {run:List V→St→R (V×St)} {mk:Nat→List V} (hm:Pt mk) {a ver n:Nat} {pre post post0:List (List V)} (hp:pre.all cloVs=true) {S S0:St} {v0 v:V} (hS:S.heap.get a=some (.row ver n pre))
  (h:run (mk 0) ⟨1,Tr.nil.put 0 (.row ver n pre)⟩=.ok (v0,S0)) (ho:∀ ρ,cP ρ (nL (kK S0 3) S0) v0=.ok v) (hs:(lL (mG (jR S0 3) S0) v0).any (fun a=>Nat.blt a 1)=false) (h0:S0.heap.get 0=some (.row ver n post0)) (hq:jQ (kK S0 3) post0=.ok post)
  (hs2:(mF (jR S0 3) post0).any (fun a=>Nat.blt a 1)=false):vP run (mk a) S=.ok (v,⟨S.next,S.heap.put a (.row ver n post)⟩):=by
 unfold vP
 obtain ⟨q1,q2⟩:=oJ (S:=S) (n:=2) hp
 rw [hm.ptr,hm.sls]
 have hA:([]++dH S [a])=[]:=by simp only [dH,hS,q2,List.append_nil]
 have hB:(lL (mG (jR S0 3) S0) v0++dH S0 (rT 0 1)).any (fun a=>Nat.blt a 1)=false:=by
  simp only [rT,dH,h0,List.append_nil,List.any_append,hs,hs2,Bool.or_false]
 rw [hA]
 simp only [hm.frz,nC,hS,q1,List.any_nil,cond_false,List.length_cons,List.length_nil,Nat.zero_add,vO,h,ho,hB,pP]
 have:nC S0 (rT 0 1)=.ok [(ver,n,post)]:=by simp only [rT,nC,h0,hq]
 rw [this]
 simp only [rX,pP]
 cases iY v&&uQ [(ver,n,post)]<;>rfl
theorem FnR.of {f:FuncId} {p:Nat→Option (List bH)} (hpl:pl f=some (.val p)) {lv:Nat→List Nat} {mk:Nat→List V} (hm:Pt mk) {ver n:Nat} {pre post:List (List V)} {v:V} (hp:pre.all cloVs=true)
  (h:gQ P (W P pl) p lv f (mk 0) ⟨1,Tr.nil.put 0 (.row ver n pre)⟩ fun v0 S0=>v0=v∧S0.heap.get 0=some (.row ver n post)) (hv:yU v=true) (hq:post.all cloVs=true):FnR P pl f mk ver n pre v post:=by
 obtain ⟨v0,S0,h1,rfl,h2⟩:=mP aR1 h
 intro S a hS
 obtain ⟨q1,q2⟩:=oJ (S:=S0) (n:=2) hq
 refine oI (h1.one fun k h1=>?_)
 simp only [dV,hpl]
 exact aMq hm hp hS h1 (fun ρ=>wV v0 hv) (by rw [aCz v0 hv];rfl) h2 q1 (by rw [q2];rfl)
theorem FnR.eq {f:FuncId} {mk:Nat→List V} {ver n:Nat} {pre post:List (List V)} {v:V} (h:FnR P pl f mk ver n pre v post) {S:St} {a:Nat} (hS:S.heap.get a=some (.row ver n pre)) (K:KW):
  W P pl f (mk a) S K=K v ⟨S.next,S.heap.put a (.row ver n post)⟩:=aKs (h S a hS) K
theorem yX {α:Type}:∀ (f:Nat) (t:Tr α) (n:Nat) (x:α),t.get n=some x→Tr.set f t n x=t
 | 0,t,n,x,_=>rfl
 | f+1,.nil,n,x,h=>by cases h
 | f+1,.node l v r,n,x,h=>by
  rw [Tr.get_node] at h
  simp only [Tr.set,cond_eq_ite,Nat.beq_eq]
  by_cases h0:n=0
  ·rw [if_pos h0] at h ⊢;rw [h]
  ·rw [if_neg h0] at h ⊢
   by_cases h1:n % 2=1
   ·rw [if_pos h1] at h ⊢;rw [yX f l _ _ h]
   ·rw [if_neg h1] at h ⊢;rw [yX f r _ _ h]
theorem aMr {t:Tr Blk} {n:Nat} {x:Blk} (h:t.get n=some x):t.put n x=t:=yX _ t n x h
theorem FnR.eq_same {f:FuncId} {mk:Nat→List V} {ver n:Nat} {pre:List (List V)} {v:V} (h:FnR P pl f mk ver n pre v pre) {S:St} {a:Nat} (hS:S.heap.get a=some (.row ver n pre)) (K:KW):W P pl f (mk a) S K=K v S:=by
 rw [h.eq hS K,aMr hS]
theorem aMs {run:List V→St→R (V×St)} {args bs:List V} {S:St} (hb:frzVs lX (nL (kK S 3) S) args=.ok bs) (hp:ptrsVs args=[]) {S0:St} {v0 v:V} (h:run bs ⟨0,.nil⟩=.ok (v0,S0)) (ho:iR S0 v0=.ok v)
  (hk:iY v=true∨slsVs (mG (jR S 3) S) args=[]):vP run args S=.ok (v,S):=by
 unfold vP
 have h1:fG (ptrsVs args)=[]:=by rw [hp];rfl
 have ho':cP (aA9 []) (nL (kK S0 3) S0) v0=.ok v:=by rw [yV];exact ho
 have hi:(fun a=>pO a 0 ([]:List Nat))=lX:=rfl
 have hh:∀ l:List Nat,(l.any fun a=>jS a [])=false:=by intro l;rw [List.any_eq_false];intro a _;simp [jS]
 rw [h1]
 simp only [hi,hb,nC,dH,hh,cond_false,List.length_nil,vO,h,ho',rT,yW,List.append_nil]
 rcases hk with hk | hk
 ·rw [hk];rfl
 ·rw [hk]
  cases iY v&&uQ []<;>rfl
theorem Fn.frz {f:FuncId} {bs:List V} {v:V} (h:Fn P pl f bs v) {p:Nat→Option (List bH)} (hpl:pl f=some (.val p)) (hc:cloVs bs=true) {args:List V} {S:St} (hb:frzVs lX (nL (kK S 3) S) args=.ok bs) (hp:ptrsVs args=[]) (hk:iY v=true∨slsVs (mG (jR S 3) S) args=[])
  (K:KW):W P pl f args S K=K v S:=by
 refine aKs ?_ K
 obtain ⟨N,h⟩:=h ⟨0,.nil⟩
 refine ⟨N+1,fun k hk'=>?_⟩
 obtain ⟨k,rfl⟩:∃ m,k=m+1:=⟨k - 1,by omega⟩
 have:=h (k+1) (by omega)
 simp only [dV,hpl] at this ⊢
 unfold vP at this
 have e1:fG (ptrsVs bs)=[]:=by rw [clo_ptrs bs hc];rfl
 have e2:slsVs (mG (jR (⟨0,.nil⟩:St) 3) ⟨0,.nil⟩) bs=[]:=clo_sls bs hc
 rw [e1,e2] at this
 simp only [clo_frzs bs hc,nC,dH,List.append_nil,List.any_nil,cond_false,List.length_nil,vO,rT,yW] at this
 split at this
 ·cases this
 ·rename_i v0 S0 hrun
  split at this
  ·cases this
  ·rename_i v' hv'
   have hv:v'=v:=(Prod.mk.inj (Except.ok.inj this)).1
   subst hv
   rw [yV] at hv'
   exact aMs hb hp hrun hv' hk
def FnK (P:Program) (pl:gO) (f:FuncId) (bs:List V) (v:V):Prop:=∀ (S:St) (args:List V),frzVs lX (nL (kK S 3) S) args=.ok bs→Evt (fun k=>dV P pl k f args S) (v,S)
theorem FnK.of {f:FuncId} {p:Nat→Option (List bH)} (hpl:pl f=some (.own p [kpN])) {lv:Nat→List Nat} {bs:List V} {v:V}
  (h:gQ P (W P pl) p lv f bs ⟨0,.nil⟩ fun v0 S0=>aAu S0 v0=true∧iR S0 v0=.ok v):FnK P pl f bs v:=by
 obtain ⟨v0,S0,h1,h2,h3⟩:=mP aR1 h
 intro S args hb
 refine oI (h1.one fun k h1=>?_)
 simp only [dV,hpl]
 have h3:cP lX (nL (kK S0 3) S0) v0=.ok v:=h3
 have hm:jS kpN [kpN]=true:=rfl
 unfold aK3 aDz
 simp only [hm,cond_true,hb,h1,h3,h2]
theorem FnK.eq {f:FuncId} {bs:List V} {v:V} (h:FnK P pl f bs v) (hc:cloVs bs=true) (S:St) (K:KW):W P pl f bs S K=K v S:=aKs (h S bs (clo_frzs bs hc)) K
theorem aWg {f:FuncId} {args:List V} {S:St} {K:KW} (h:W P pl f args S K):∃ k v S',K v S'∧dV P pl k f args S=.ok (v,S'):=by
 obtain ⟨v,S',⟨N,h⟩,k⟩:=h
 exact ⟨N,v,S',k,h N (Nat.le_refl _)⟩
theorem aBd {F:List V→St→(List V→St→Prop)→Prop} (n:Nat) (I:Nat→List V→St→Prop)
  (h:∀ i vs S,i≤n→I i vs S→∀ aC:List V→St→Prop,(∀ vs' S',i<n→I (i+1) vs' S'→aC vs' S')→F vs S aC) {vs:List V} {S:St} (h0:I 0 vs S):iF vs S F:=by
 have:∀ m i vs S,i+m=n→I i vs S→yO (m+1) vs S F:=by
  intro m
  induction m with
  | zero=>intro i vs S hi hI;exact h i vs S (by omega) hI _ fun vs' S' hlt _=>by omega
  | succ m ih=>intro i vs S hi hI;exact h i vs S (by omega) hI _ fun vs' S' hlt hI'=>ih (i+1) vs' S' (by omega) hI'
 exact ⟨n+1,this n 0 vs S (by omega) h0⟩
theorem yY {F:List V→St→(List V→St→Prop)→Prop} (I:Nat→List V→St→Prop)
  (h:∀ i vs S,I i vs S→∀ aC:List V→St→Prop,(∀ j vs' S',j<i→I j vs' S'→aC vs' S')→F vs S aC) {n:Nat} {vs:List V} {S:St} (h0:I n vs S):iF vs S F:=by
 refine aBd n (fun i vs S=>∃ j,j+i≤n∧I j vs S) ?_ ⟨n,by omega,h0⟩
 rintro i vs S hi ⟨j,hj,hI⟩ aC ha
 exact h j vs S hI aC fun j' vs' S' hlt hI'=>ha vs' S' (by omega) ⟨j',by omega,hI'⟩
theorem aG {F:List V→St→(List V→St→Prop)→Prop} {α σ ρ:Type} (l:List α) {step:σ→α→ρ⊕σ} {fin:σ→ρ} (I:Nat→σ→List V→St→Prop) (E:ρ→Prop)
  (hs:∀ i a s vs S,l[i]?=some a→I i s vs S→∀ aC:List V→St→Prop,(match step s a with
   | .inl r=>E r
   | .inr s'=>∀ vs' S',I (i+1) s' vs' S'→aC vs' S')→F vs S aC)
  (he:∀ s vs S,I l.length s vs S→∀ aC:List V→St→Prop,E (fin s)→F vs S aC) {s:σ} {vs:List V} {S:St} (h0:I 0 s vs S) (hE:E (aE step fin l s)):iF vs S F:=by
 refine aBd l.length (fun i vs S=>∃ s,I i s vs S∧E (aE step fin (l.drop i) s)) ?_ ⟨s,h0,hE⟩
 rintro i vs S hi ⟨s,hI,hE⟩ aC ha
 by_cases hl:i=l.length
 ·subst hl
  rw [List.drop_length] at hE
  exact he s vs S hI aC hE
 ·have hlt:i<l.length:=by omega
  have ha':l[i]?=some l[i]:=List.getElem?_eq_getElem hlt
  rw [List.drop_eq_getElem_cons hlt] at hE
  refine hs i _ s vs S ha' hI aC ?_
  simp only [aE] at hE
  split
  ·rename_i r hr
   rw [hr] at hE;exact hE
  ·rename_i s' hr
   rw [hr] at hE
   exact fun vs' S' hI'=>ha vs' S' hlt ⟨s',hI',hE⟩
end
end
section
theorem aEx {d t:Nat} (h:d≠t):Nat.beq d t=false:=Bool.eq_false_iff.2 fun h'=>h (Nat.eq_of_beq_eq_true h')
theorem aMt {α:Type} {x y:R α} (K:α→Prop) (h:x=y):wR x K=wR y K:=by rw [h]
theorem aMu {α:Type} {x y:Option α} (K:α→Prop) (h:x=y):wO x K=wO y K:=by rw [h]
theorem aKt {b c:Bool} (x:Prop) (h:b=c):vV b x=vV c x:=by rw [h]
theorem aEy {v w:V} (x y:Prop) (h:v=w):aZ v x y=aZ w x y:=by rw [h]
theorem aGk {v w:V} (i:Nat) (K:V→Prop) (h:v=w):kL v i K=kL w i K:=by rw [h]
theorem aKu {v w:List V} (K:V→List V→Prop) (h:v=w):wT v K=wT w K:=by rw [h]
theorem aGl {v w:V} (x:Prop) (h:v=w):aEs v x=aEs w x:=by rw [h]
theorem aEz {vs ws:List V} {S T:St} (F:List V→St→(List V→St→Prop)→Prop) (h:vs=ws) (g:S=T):iF vs S F=iF ws T F:=by rw [h,g]
theorem aR4 (P:Program) (pl:gO) (f:FuncId) {a b:List V} {S T:St} (K:KW) (h:a=b) (g:S=T):W P pl f a S K=W P pl f b T K:=by rw [h,g]
attribute [congr] aR4 aMt aMu aKt aEy aGk aKu aGl aEz
def wG:List Oper→Nat→(Nat→Prop)→Prop
 | [],_,_=>False
 | o::_,0,K=>wO o.dst K
 | _::l,j+1,K=>wG l j K
def wI:List Oper→Nat→(Oper→Prop)→Prop
 | [],_,_=>False
 | o::_,0,K=>K o
 | _::l,j+1,K=>wI l j K
theorem aBe (K:Oper→Prop):∀ (l:List Oper) (j:Nat),wO l.toArray[j]? K=wI l j K
 | [],j=>by simp [wO,wI]
 | o::l,0=>by simp [wO,wI]
 | o::l,j+1=>by rw [wI,←aBe K l j];simp
theorem aMv (K:Nat→Prop):∀ (l:List Oper) (j:Nat),wO (jM l.toArray j) K=wG l j K
 | [],j=>by simp [wO,wG,jM]
 | o::l,0=>by simp [wG,jM]
 | o::l,j+1=>by rw [wG,←aMv K l j];simp [jM]
def hl {α:Type} (a:α):α:=a
theorem aSf {α:Type} (a:α):hl a=a:=Eq.trans rfl rfl
def wLn:List Oper→List Nat→Nat→(Nat→Prop)→Prop
 | [],[],i,K=>K i
 | [],k::_,i,K=>K k
 | _::l,[],i,K=>wLn l [] (i+1) K
 | _::l,_::ks,i,K=>wLn l ks (i+1) K
def rE:Nat→List Nat→Prop
 | _,[]=>True
 | i,k::l=>k=i∧rE (i+1) l
theorem aGm (K:Nat→Prop):∀ (l:List Oper) (ks:List Nat) (i:Nat),rE i ks→wLn l ks i K=K (i+l.length)
 | [],[],i,h=>rfl
 | [],k::ks,i,h=>by rw [wLn,h.1];rfl
 | o::l,[],i,h=>by rw [wLn,aGm K l [] (i+1) trivial];congr 1;simp;omega
 | o::l,k::ks,i,h=>by rw [wLn,aGm K l ks (i+1) h.2];congr 1;simp;omega
def wLv:List (Nat×List Nat)→Nat→(List Nat→Prop)→Prop
 | [],_,K=>K []
 | (i,l)::r,j,K=>match Nat.beq i j with
  | true=>K l
  | false=>wLv r j K
def mQ:List (Nat×List Nat)→Nat→List Nat
 | [],_=>[]
 | (i,l)::r,j=>match Nat.beq i j with
  | true=>l
  | false=>mQ r j
theorem aGn (K:List Nat→Prop):∀ (t:List (Nat×List Nat)) (j:Nat),wLv t j K=K (mQ t j)
 | [],j=>rfl
 | (i,l)::r,j=>by
  simp only [wLv,mQ,aGn K r j]
  cases Nat.beq i j<;>rfl
theorem aKv {j k:Nat} (t:List (Nat×List Nat)) (K:List Nat→Prop) (h:j=k):wLv t j K=wLv t k K:=by rw [h]
attribute [congr] aKv
def wSt:List (Nat×List bH)→Nat→(List bH→Prop)→Prop→Prop
 | [],_,_,x=>x
 | (i,l)::r,j,K,x=>match Nat.beq i j with
  | true=>K l
  | false=>wSt r j K x
def jV (t:List (Nat×List bH)) (id:Nat):Option (List bH):=eZ id t
section
variable (P:Program) (C:aX) (n:Nat)
def sT (ops:Array Oper) (base:Nat):List Oper→List Nat→Nat→List Nat→aN→St→jF→Prop
 | [],_,_,_,e,S,K=>K e S
 | o::l,[],i,sk,e,S,K=>gP P C n ops sk o (some (base+i)) e S fun ran _ e' S'=>sT ops base l [] (i+1) (sQ ran i sk) e' S' K
 | o::l,k::ks,i,sk,e,S,K=>gP P C n ops sk o (some (base+k)) e S fun ran _ e' S'=>sT ops base l ks (i+1) (sQ ran k sk) e' S' K
def aD0 (ops:Array Oper):List Oper→List Nat→Nat→List Nat→aN→St→jF→Prop
 | [],_,_,_,e,S,K=>K e S
 | o::l,[],i,sk,e,S,K=>gP P C n ops sk o none e S fun ran _ e' S'=>aD0 ops l [] (i+1) (sQ ran i sk) e' S' K
 | o::l,k::ks,i,sk,e,S,K=>gP P C n ops sk o none e S fun ran _ e' S'=>aD0 ops l ks (i+1) (sQ ran k sk) e' S' K
theorem kT {ops:Array Oper} {sk:List Nat} {o:Oper} {fr:Option Nat} {e:aN} {S:St} {K K':Bool→V→aN→St→Prop} (h:∀ b v e S,K b v e S=K' b v e S):gP P C n ops sk o fr e S K=gP P C n ops sk o fr e S K':=by
 rw [show K=K' from funext fun b=>funext fun v=>funext fun e=>funext fun S=>h b v e S]
def mR:Nat→Nat→List bH
 | _,0=>[]
 | i,k+1=>(i,[])::mR (i+1) k
theorem vF:∀ (k i:Nat),mR i (k+1)=mR i k++[(i+k,[])]
 | 0,i=>rfl
 | k+1,i=>by
  rw [mR,vF k (i+1),mR]
  simp only [List.cons_append,Nat.add_assoc,Nat.add_comm 1 k]
theorem aF1:∀ k,aDy k=mR 0 k
 | 0=>rfl
 | k+1=>by rw [aDy,aF1 k,vF,Nat.zero_add]
theorem yZ (ops:Array Oper) (base:Nat) (K:jF):∀ (l:List Oper) (ks:List Nat) (i:Nat) (sk:List Nat) (recs:List nP) (e:aN) (S:St),rE i ks→(∀ k,ops[i+k]?=l[k]?)→nI P C n ops base (mR i l.length) sk recs e S K=sT P C n ops base l ks i sk e S K
 | [],ks,i,sk,recs,e,S,_,h=>by cases ks<;>rfl
 | o::l,ks,i,sk,recs,e,S,hk,h=>by
  have h0:ops[i]?=some o:=h 0
  cases ks with
  | nil=>
   simp only [List.length_cons,mR,nI,sT,h0,wO,mO]
   exact kT P C n fun b v e S=>yZ ops base K l [] (i+1) _ _ e S trivial fun k=>by have:=h (k+1);rw [show i+1+k=i+(k+1) by omega,this];simp
  | cons k ks=>
   obtain ⟨rfl,hk⟩:=hk
   simp only [List.length_cons,mR,nI,sT,h0,wO,mO]
   exact kT P C n fun b v e S=>yZ ops base K l ks (k+1) _ _ e S hk fun j=>by have:=h (j+1);rw [show k+1+j=k+(j+1) by omega,this];simp
theorem aD1 (ops:Array Oper) (K:jF):∀ (l:List Oper) (ks:List Nat) (i:Nat) (sk:List Nat) (e:aN) (S:St),rE i ks→aGf P C n ops l i sk e S K=aD0 P C n ops l ks i sk e S K
 | [],ks,i,sk,e,S,_=>by cases ks<;>rfl
 | o::l,[],i,sk,e,S,hk=>by
  simp only [aGf,aD0]
  exact kT P C n fun b v e S=>aD1 ops K l [] (i+1) _ e S trivial
 | o::l,k::ks,i,sk,e,S,hk=>by
  obtain ⟨rfl,hk⟩:=hk
  simp only [aGf,aD0]
  exact kT P C n fun b v e S=>aD1 ops K l ks (k+1) _ e S hk
def aGp (id:Nat) (Kn:jF) (Kx:KXW):KXW:=fun j e S=>match Nat.beq j id with
 | true=>Kn e S
 | false=>Kx j e S
def aSg (p:Nat→Option (List bH)) (lv:Nat→List Nat) (a:Code) (e:aN) (Kx:KXW) (Kr:jF) (vs:List V) (S:St) (aC:List V→St→Prop):Prop:=
 aCx (lv (aV a)) vs (e.filt fun t=>!jE a t) fun e=>cT P C n p lv a e S (fun e S=>jU e (lv (aV a)) fun vs=>aC vs S) Kx Kr
end
section
variable {P:Program} {C:aX} {n:Nat} {tp:List (Nat×List bH)} {tl:List (Nat×List Nat)}
theorem aHt:(∀ (e:aN) (t:Nat) (K:V→Prop),wO (ev e (.tmp t)) K=wO (e.get t) K)∧(∀ (e:aN) (v:Value) (K:V→Prop),wO (ev e (.const v)) K=wO (ofValue v) K)∧(∀ (e:aN) (f:Nat) (K:V→Prop),wO (ev e (.func f)) K=K (.func f [] [])) ∧
  (∀ (e:aN) (t:Nat) (v:V) (K:V→Prop),wO ((e.put t v).get t) K=K v)∧(∀ (b:Bool) (K:V→Prop),wO (ofValue (.bool b)) K=K (.bool b))∧(∀ (k:IntKind) (i:Int) (K:V→Prop),wO (ofValue (.int k i)) K=K (.int k i)) ∧
  (∀ (l:List UInt8) (K:V→Prop),wO (ofValue (.string ⟨l.toArray⟩)) K=K (.str l))∧(∀ (K:V→Prop),wO (ofValue (.slice none 0 0)) K=K .nils)∧(∀ (K:V→Prop),wO (ofValue (.pointer none)) K=K .nilp)∧(∀ (K:V→Prop),wO (ofValue .nilIface) K=K .nili)∧(∀ (K:V→Prop),wO (ofValue .nilFunc) K=K .nilf)∧(∀ (K:V→Prop),wO (ofValue (.map none)) K=K .nilm) ∧
  (∀ (l:List Value) (K:V→Prop),wO (ofValue (.agg l.toArray)) K=wO (iM l) fun xs=>K (.agg xs))∧(∀ (K:List V→Prop),wO (iM []) K=K [])∧(∀ (v:Value) (l:List Value) (K:List V→Prop),wO (iM (v::l)) K=wO (lK v) fun x=>wO (iM l) fun xs=>K (x::xs)) ∧
  (∀ (b:Bool) (K:V→Prop),wO (lK (.bool b)) K=K (.bool b))∧(∀ (k:IntKind) (i:Int) (K:V→Prop),wO (lK (.int k i)) K=K (.int k i))∧(∀ (l:List UInt8) (K:V→Prop),wO (lK (.string ⟨l.toArray⟩)) K=K (.str l))∧(∀ (K:V→Prop),wO (lK (.slice none 0 0)) K=K .nils)∧(∀ (K:V→Prop),wO (lK (.pointer none)) K=K .nilp) ∧
  (∀ (e:aN) (K:List V→Prop),wO (lW (ev e) []) K=K [])∧(∀ (e:aN) (x:Operand) (l:List Operand) (K:List V→Prop),wO (lW (ev e) (x::l)) K=wO (ev e x) fun v=>wO (lW (ev e) l) fun vs=>K (v::vs)) ∧
  (∀ (e:aN) (K:List (Nat×V)→Prop),wO (jP (ev e) []) K=K [])∧(∀ (e:aN) (i:Nat) (x:Operand) (l:List (Nat×Operand)) (K:List (Nat×V)→Prop),wO (jP (ev e) ((i,x)::l)) K=wO (ev e x) fun v=>wO (jP (ev e) l) fun vs=>K ((i,v)::vs)) ∧
  (∀ (e:aN) (K:Option V→Prop),wO (evO (ev e) none) K=K none)∧(∀ (e:aN) (x:Operand) (K:Option V→Prop),wO (evO (ev e) (some x)) K=wO (ev e x) fun v=>K (some v)):=by
 refine ⟨fun _ _ _=>rfl,fun _ _ _=>rfl,fun _ _ _=>rfl,fun e t v K=>by rw [Tr.get_put_sameB _ _ _ trivial];rfl,fun _ _=>rfl,fun _ _ _=>rfl,fun l K=>by simp [ofValue,lK,wO],fun _=>rfl,fun _=>rfl,fun _=>rfl,fun _=>rfl,fun _=>rfl,
  fun l K=>?_,fun _=>rfl,fun v l K=>?_,fun _ _=>rfl,fun _ _ _=>rfl,fun l K=>by simp [lK,wO],fun _=>rfl,fun _=>rfl,fun _ _=>rfl,fun e x l K=>?_,fun _ _=>rfl,fun e i x l K=>?_,fun _ _=>rfl,fun e x K=>?_⟩
 ·simp only [ofValue];cases iM l<;>rfl
 ·simp only [iM]
  cases lK v with
  | none=>rfl
  | some x=>cases iM l<;>rfl
 ·simp only [lW]
  cases ev e x with
  | none=>rfl
  | some x=>cases lW (ev e) l<;>rfl
 ·simp only [jP]
  cases ev e x with
  | none=>rfl
  | some x=>cases jP (ev e) l<;>rfl
 ·simp only [evO];cases ev e x<;>rfl
theorem aSh {t d:Nat} (h:¬ t=d) (e:aN) (v:V) (K:V→Prop):wO ((e.put d v).get t) K=wO (e.get t) K:=by rw [Tr.get_put_neB _ _ _ _ trivial h]
theorem aXs {t d:Nat} (h:t<d) (e:aN) (v:V) (K:V→Prop):wO ((e.put d v).get t) K=wO (e.get t) K:=aSh (Nat.ne_of_lt h) e v K
theorem aSi {t d:Nat} (h:d<t) (e:aN) (v:V) (K:V→Prop):wO ((e.put d v).get t) K=wO (e.get t) K:=aSh (Nat.ne_of_gt h) e v K
def pL (l:List Code) (t:Nat):Bool:=l.any fun a=>jE a t
def dL (l:List Oper) (r:List Code) (t:Nat):Bool:=yN l t||pL r t
theorem aR5 (a:Code) (r:List Code) (t:Nat):pL (a::r) t=(jE a t||pL r t):=by simp [pL]
theorem aMw {a:Code} {t:Nat} (h:pL [a] t=false) (e:aN) (K:V→Prop):wO ((e.filt fun t=>!jE a t).get t) K=wO (e.get t) K:=by
 have h:jE a t=false:=by simpa [pL] using h
 rw [oG,if_pos (by rw [h];rfl)]
theorem aHu:(∀ t,pL [] t=false)∧(∀ (a b:Code) (r:List Code) (t:Nat),pL (.seq a b::r) t=pL (a::b::r) t)∧(∀ (c:Operand) (a b:Code) (r:List Code) (t:Nat),pL (.cond c a b::r) t=pL (a::b::r) t)∧(∀ (i:Nat) (a:Code) (r:List Code) (t:Nat),pL (.block i a::r) t=pL (a::r) t) ∧
  (∀ (a:Code) (r:List Code) (t:Nat),pL (.loop a::r) t=pL (a::r) t)∧(∀ (r:List Code) (t:Nat),pL (.skip::r) t=pL r t)∧(∀ (r:List Code) (t:Nat),pL (.ret::r) t=pL r t)∧(∀ (i:Nat) (r:List Code) (t:Nat),pL (.exit i::r) t=pL r t)∧(∀ (i:Nat) (r:List Code) (t:Nat),pL (.label i::r) t=pL r t) ∧
  (∀ (id:Nat) (l:List Oper) (d:Bool) (r:List Code) (t:Nat),pL (.region id l.toArray d::r) t=dL l r t)∧(∀ (r:List Code) (t:Nat),dL [] r t=pL r t)∧(∀ (op:Op) (ty:TypeId) (pos:String) (aft:Array Edge) (g:Option (Nat×Bool)) (l:List Oper) (r:List Code) (t:Nat),dL (⟨none,op,ty,pos,aft,g⟩::l) r t=dL l r t):=by
 refine ⟨fun _=>rfl,fun a b r t=>?_,fun c a b r t=>?_,fun i a r t=>?_,fun a r t=>?_,fun r t=>?_,fun r t=>?_,fun i r t=>?_,fun i r t=>?_,fun id l d r t=>?_,fun r t=>?_,fun op ty pos aft g l r t=>?_⟩
 all_goals simp only [aR5,jE,dL,yN,Bool.false_or,Bool.or_assoc]
theorem aMx {d t:Nat} (h:¬ t=d) (op:Op) (ty:TypeId) (pos:String) (aft:Array Edge) (g:Option (Nat×Bool)) (l:List Oper) (r:List Code):dL (⟨some d,op,ty,pos,aft,g⟩::l) r t=dL l r t:=by
 simp only [dL,yN,aEx (Ne.symm h),Bool.false_or]
theorem aSj {d t:Nat} (h:t<d) (op:Op) (ty:TypeId) (pos:String) (aft:Array Edge) (g:Option (Nat×Bool)) (l:List Oper) (r:List Code):dL (⟨some d,op,ty,pos,aft,g⟩::l) r t=dL l r t:=aMx (Nat.ne_of_lt h) ..
theorem aMy {d t:Nat} (h:d<t) (op:Op) (ty:TypeId) (pos:String) (aft:Array Edge) (g:Option (Nat×Bool)) (l:List Oper) (r:List Code):dL (⟨some d,op,ty,pos,aft,g⟩::l) r t=dL l r t:=aMx (Nat.ne_of_gt h) ..end
def oK (P:Program) (u:TypeId):Bool:=match P.underlying u with
 | some (.slice _)=>true
 | some .string=>true
 | _=>false
theorem aGq {α:Type} (x:Option α) {K K':α→Prop} (h:∀ a,K a=K' a):wO x K=wO x K':=by rw [show K=K' from funext h]
theorem aR6 (e:aN) (x:Operand) (K:List V→Prop):wO (lW (ev e) [x]) K=wO (ev e x) fun v=>K [v]:=by simp only [lW];cases ev e x<;>rfl
theorem aR7 (e:aN) (x y:Operand) (K:List V→Prop):wO (lW (ev e) [x,y]) K=wO (ev e x) fun v=>wO (ev e y) fun w=>K [v,w]:=by
 simp only [lW]
 cases ev e x with
 | none=>rfl
 | some a=>cases ev e y<;>rfl
theorem aHv (P:Program) (C:aX):(∀ (x:Operand) (d:Option Tmp) (ty:TypeId) (pos:String) (aft:Array Edge) (g:Option (Nat×Bool)) (fr:Option Nat) (e:aN) (S:St) (K:KW),fU P C ⟨d,.move x,ty,pos,aft,g⟩ fr e S K=wO (ev e x) fun v=>K v S) ∧
  (∀ (x:Operand) (d:Option Tmp) (ty:TypeId) (pos:String) (aft:Array Edge) (g:Option (Nat×Bool)) (fr:Option Nat) (e:aN) (S:St) (K:KW),fU P C ⟨d,.assign x,ty,pos,aft,g⟩ fr e S K=wO (ev e x) fun v=>K v S) ∧
  (∀ (c a b:Operand) (d:Option Tmp) (ty:TypeId) (pos:String) (aft:Array Edge) (g:Option (Nat×Bool)) (fr:Option Nat) (e:aN) (S:St) (K:KW),fU P C ⟨d,.pick c a b,ty,pos,aft,g⟩ fr e S K=wO (ev e c) fun c=>wO (ev e a) fun a=>wO (ev e b) fun b=>wR (hl (aEp c a b)) fun v=>K v S) ∧
  (∀ (t:TypeId) (d:Option Tmp) (ty:TypeId) (pos:String) (aft:Array Edge) (g:Option (Nat×Bool)) (fr:Option Nat) (e:aN) (S:St) (K:KW),fU P C ⟨d,.alloc t,ty,pos,aft,g⟩ fr e S K=wO (aJ P t) fun z=>wR (hl (aR fr S (.row 0 z.cells.length [z.cells]))) fun r=>K (.ptr r.1 0 0 0) r.2) ∧
  (∀ (u:TypeId) (x:Operand) (d:Option Tmp) (ty:TypeId) (pos:String) (aft:Array Edge) (g:Option (Nat×Bool)) (fr:Option Nat) (e:aN) (S:St) (K:KW),fU P C ⟨d,.box u x,ty,pos,aft,g⟩ fr e S K=wO (ev e x) fun v=>vV (hl (aI v.cells)) (wR (hl (aR fr S (.row 0 v.cells.length [v.cells]))) fun r=>K (.ptr r.1 0 0 0) r.2)) ∧
  (∀ (t:TypeId) (ps:List (Nat×Operand)) (d:Option Tmp) (ty:TypeId) (pos:String) (aft:Array Edge) (g:Option (Nat×Bool)) (fr:Option Nat) (e:aN) (S:St) (K:KW),fU P C ⟨d,.build t ps.toArray,ty,pos,aft,g⟩ fr e S K=wO (jP (ev e) ps) fun vs=>wR (hl (lF P t vs)) fun v=>K v S) ∧
  (∀ (t:TypeId) (m:Nat) (ps:List (Nat×Operand)) (d:Option Tmp) (ty:TypeId) (pos:String) (aft:Array Edge) (g:Option (Nat×Bool)) (fr:Option Nat) (e:aN) (S:St) (K:KW),fU P C ⟨d,.buildSlice t m ps.toArray,ty,pos,aft,g⟩ fr e S K=wO (jP (ev e) ps) fun vs=>wR (hl (cA P t m vs fr S)) fun r=>K r.1 r.2) ∧
  (∀ (t:TypeId) (a:Operand) (d:Option Tmp) (ty:TypeId) (pos:String) (aft:Array Edge) (g:Option (Nat×Bool)) (fr:Option Nat) (e:aN) (S:St) (K:KW),fU P C ⟨d,.load t a,ty,pos,aft,g⟩ fr e S K=wO (ev e a) fun p=>wR (hl (iX P t p S)) fun v=>K v S) ∧
  (∀ (t:TypeId) (a x:Operand) (d:Option Tmp) (ty:TypeId) (pos:String) (aft:Array Edge) (g:Option (Nat×Bool)) (fr:Option Nat) (e:aN) (S:St) (K:KW),fU P C ⟨d,.store t a x,ty,pos,aft,g⟩ fr e S K=wO (ev e a) fun p=>wO (ev e x) fun v=>wR (hl (lE P t p v S)) fun S'=>K (.tup []) S') ∧
  (∀ (x:Operand) (d:Option Tmp) (ty:TypeId) (pos:String) (aft:Array Edge) (g:Option (Nat×Bool)) (fr:Option Nat) (e:aN) (S:St) (K:KW),fU P C ⟨d,.nilCheck x,ty,pos,aft,g⟩ fr e S K=wO (ev e x) fun v=>aEs (hl v) (K v S)) ∧
  (∀ (t u:TypeId) (x y:Operand) (d:Option Tmp) (ty:TypeId) (pos:String) (aft:Array Edge) (g:Option (Nat×Bool)) (fr:Option Nat) (e:aN) (S:St) (K:KW),fU P C ⟨d,.binOp .add t x y u,ty,pos,aft,g⟩ fr e S K=wO (ev e x) fun a=>wO (ev e y) fun b=>wR (hl (bJ P .add t a b)) fun v=>K v S) ∧
  (∀ (t u:TypeId) (x y:Operand) (d:Option Tmp) (ty:TypeId) (pos:String) (aft:Array Edge) (g:Option (Nat×Bool)) (fr:Option Nat) (e:aN) (S:St) (K:KW),fU P C ⟨d,.binOp .sub t x y u,ty,pos,aft,g⟩ fr e S K=wO (ev e x) fun a=>wO (ev e y) fun b=>wR (hl (bJ P .sub t a b)) fun v=>K v S) ∧
  (∀ (t u:TypeId) (x y:Operand) (d:Option Tmp) (ty:TypeId) (pos:String) (aft:Array Edge) (g:Option (Nat×Bool)) (fr:Option Nat) (e:aN) (S:St) (K:KW),fU P C ⟨d,.binOp .mul t x y u,ty,pos,aft,g⟩ fr e S K=wO (ev e x) fun a=>wO (ev e y) fun b=>wR (hl (bJ P .mul t a b)) fun v=>K v S) ∧
  (∀ (t u:TypeId) (x y:Operand) (d:Option Tmp) (ty:TypeId) (pos:String) (aft:Array Edge) (g:Option (Nat×Bool)) (fr:Option Nat) (e:aN) (S:St) (K:KW),fU P C ⟨d,.binOp .quo t x y u,ty,pos,aft,g⟩ fr e S K=wO (ev e x) fun a=>wO (ev e y) fun b=>wR (hl (bJ P .quo t a b)) fun v=>K v S) ∧
  (∀ (t u:TypeId) (x y:Operand) (d:Option Tmp) (ty:TypeId) (pos:String) (aft:Array Edge) (g:Option (Nat×Bool)) (fr:Option Nat) (e:aN) (S:St) (K:KW),fU P C ⟨d,.binOp .rem t x y u,ty,pos,aft,g⟩ fr e S K=wO (ev e x) fun a=>wO (ev e y) fun b=>wR (hl (bJ P .rem t a b)) fun v=>K v S) ∧
  (∀ (t u:TypeId) (x y:Operand) (d:Option Tmp) (ty:TypeId) (pos:String) (aft:Array Edge) (g:Option (Nat×Bool)) (fr:Option Nat) (e:aN) (S:St) (K:KW),fU P C ⟨d,.binOp .and t x y u,ty,pos,aft,g⟩ fr e S K=wO (ev e x) fun a=>wO (ev e y) fun b=>wR (hl (bJ P .and t a b)) fun v=>K v S) ∧
  (∀ (t u:TypeId) (x y:Operand) (d:Option Tmp) (ty:TypeId) (pos:String) (aft:Array Edge) (g:Option (Nat×Bool)) (fr:Option Nat) (e:aN) (S:St) (K:KW),fU P C ⟨d,.binOp .or t x y u,ty,pos,aft,g⟩ fr e S K=wO (ev e x) fun a=>wO (ev e y) fun b=>wR (hl (bJ P .or t a b)) fun v=>K v S) ∧
  (∀ (t u:TypeId) (x y:Operand) (d:Option Tmp) (ty:TypeId) (pos:String) (aft:Array Edge) (g:Option (Nat×Bool)) (fr:Option Nat) (e:aN) (S:St) (K:KW),fU P C ⟨d,.binOp .xor t x y u,ty,pos,aft,g⟩ fr e S K=wO (ev e x) fun a=>wO (ev e y) fun b=>wR (hl (bJ P .xor t a b)) fun v=>K v S) ∧
  (∀ (t u:TypeId) (x y:Operand) (d:Option Tmp) (ty:TypeId) (pos:String) (aft:Array Edge) (g:Option (Nat×Bool)) (fr:Option Nat) (e:aN) (S:St) (K:KW),fU P C ⟨d,.binOp .andNot t x y u,ty,pos,aft,g⟩ fr e S K=wO (ev e x) fun a=>wO (ev e y) fun b=>wR (hl (bJ P .andNot t a b)) fun v=>K v S) ∧
  (∀ (t u:TypeId) (x y:Operand) (d:Option Tmp) (ty:TypeId) (pos:String) (aft:Array Edge) (g:Option (Nat×Bool)) (fr:Option Nat) (e:aN) (S:St) (K:KW),fU P C ⟨d,.binOp .shl t x y u,ty,pos,aft,g⟩ fr e S K=wO (ev e x) fun a=>wO (ev e y) fun b=>wR (hl (bJ P .shl t a b)) fun v=>K v S) ∧
  (∀ (t u:TypeId) (x y:Operand) (d:Option Tmp) (ty:TypeId) (pos:String) (aft:Array Edge) (g:Option (Nat×Bool)) (fr:Option Nat) (e:aN) (S:St) (K:KW),fU P C ⟨d,.binOp .shr t x y u,ty,pos,aft,g⟩ fr e S K=wO (ev e x) fun a=>wO (ev e y) fun b=>wR (hl (bJ P .shr t a b)) fun v=>K v S) ∧
  (∀ (t u:TypeId) (x y:Operand) (d:Option Tmp) (ty:TypeId) (pos:String) (aft:Array Edge) (g:Option (Nat×Bool)) (fr:Option Nat) (e:aN) (S:St) (K:KW),fU P C ⟨d,.binOp .lss t x y u,ty,pos,aft,g⟩ fr e S K=wO (ev e x) fun a=>wO (ev e y) fun b=>wR (hl (bJ P .lss t a b)) fun v=>K v S) ∧
  (∀ (t u:TypeId) (x y:Operand) (d:Option Tmp) (ty:TypeId) (pos:String) (aft:Array Edge) (g:Option (Nat×Bool)) (fr:Option Nat) (e:aN) (S:St) (K:KW),fU P C ⟨d,.binOp .leq t x y u,ty,pos,aft,g⟩ fr e S K=wO (ev e x) fun a=>wO (ev e y) fun b=>wR (hl (bJ P .leq t a b)) fun v=>K v S) ∧
  (∀ (t u:TypeId) (x y:Operand) (d:Option Tmp) (ty:TypeId) (pos:String) (aft:Array Edge) (g:Option (Nat×Bool)) (fr:Option Nat) (e:aN) (S:St) (K:KW),fU P C ⟨d,.binOp .gtr t x y u,ty,pos,aft,g⟩ fr e S K=wO (ev e x) fun a=>wO (ev e y) fun b=>wR (hl (bJ P .gtr t a b)) fun v=>K v S) ∧
  (∀ (t u:TypeId) (x y:Operand) (d:Option Tmp) (ty:TypeId) (pos:String) (aft:Array Edge) (g:Option (Nat×Bool)) (fr:Option Nat) (e:aN) (S:St) (K:KW),fU P C ⟨d,.binOp .geq t x y u,ty,pos,aft,g⟩ fr e S K=wO (ev e x) fun a=>wO (ev e y) fun b=>wR (hl (bJ P .geq t a b)) fun v=>K v S) ∧
  (∀ (t u:TypeId) (x y:Operand) (d:Option Tmp) (ty:TypeId) (pos:String) (aft:Array Edge) (g:Option (Nat×Bool)) (fr:Option Nat) (e:aN) (S:St) (K:KW),fU P C ⟨d,.binOp .eql t x y u,ty,pos,aft,g⟩ fr e S K=wO (ev e x) fun a=>wO (ev e y) fun b=>vV (hl (eQ P t x y a b)) (wR (hl (bJ P .eql t a b)) fun v=>K v S)) ∧
  (∀ (t u:TypeId) (x y:Operand) (d:Option Tmp) (ty:TypeId) (pos:String) (aft:Array Edge) (g:Option (Nat×Bool)) (fr:Option Nat) (e:aN) (S:St) (K:KW),fU P C ⟨d,.binOp .neq t x y u,ty,pos,aft,g⟩ fr e S K=wO (ev e x) fun a=>wO (ev e y) fun b=>vV (hl (eQ P t x y a b)) (wR (hl (bJ P .neq t a b)) fun v=>K v S)) ∧
  (∀ (o:UnOp) (t:TypeId) (x:Operand) (d:Option Tmp) (ty:TypeId) (pos:String) (aft:Array Edge) (g:Option (Nat×Bool)) (fr:Option Nat) (e:aN) (S:St) (K:KW),fU P C ⟨d,.unOp o t x,ty,pos,aft,g⟩ fr e S K=wO (ev e x) fun v=>wR (hl (unV o v)) fun v=>K v S) ∧
  (∀ (s u:TypeId) (x:Operand) (d:Option Tmp) (ty:TypeId) (pos:String) (aft:Array Edge) (g:Option (Nat×Bool)) (fr:Option Nat) (e:aN) (S:St) (K:KW),fU P C ⟨d,.convert s u x,ty,pos,aft,g⟩ fr e S K=wO (ev e x) fun v=>wR (hl (cS P s u v fr S)) fun r=>K r.1 r.2) ∧
  (∀ (t:TypeId) (l c:Operand) (d:Option Tmp) (ty:TypeId) (pos:String) (aft:Array Edge) (g:Option (Nat×Bool)) (fr:Option Nat) (e:aN) (S:St) (K:KW),fU P C ⟨d,.makeSlice t l c,ty,pos,aft,g⟩ fr e S K=wO (ev e l) fun l=>wO (ev e c) fun c=>wR (hl (cG P t l c fr S)) fun r=>K r.1 r.2) ∧
  (∀ (t:TypeId) (x:Operand) (lo hi:Option Operand) (d:Option Tmp) (ty:TypeId) (pos:String) (aft:Array Edge) (g:Option (Nat×Bool)) (fr:Option Nat) (e:aN) (S:St) (K:KW),fU P C ⟨d,.slice t x lo hi none,ty,pos,aft,g⟩ fr e S K=wO (ev e x) fun v=>wO (evO (ev e) lo) fun l=>wO (evO (ev e) hi) fun h=>wR (hl (fW P t v l h)) fun v=>K v S) ∧
  (∀ (s:TypeId) (x:Operand) (f:Nat) (d:Option Tmp) (ty:TypeId) (pos:String) (aft:Array Edge) (g:Option (Nat×Bool)) (fr:Option Nat) (e:aN) (S:St) (K:KW),fU P C ⟨d,.fieldAddr s x f,ty,pos,aft,g⟩ fr e S K=wO (ev e x) fun p=>wR (hl (cK P s p f)) fun v=>K v S) ∧
  (∀ (s:TypeId) (x:Operand) (f:Nat) (d:Option Tmp) (ty:TypeId) (pos:String) (aft:Array Edge) (g:Option (Nat×Bool)) (fr:Option Nat) (e:aN) (S:St) (K:KW),fU P C ⟨d,.field s x f,ty,pos,aft,g⟩ fr e S K=wO (ev e x) fun p=>wR (hl (xP P s p f)) fun v=>K v S) ∧
  (∀ (t:TypeId) (x i:Operand) (d:Option Tmp) (ty:TypeId) (pos:String) (aft:Array Edge) (g:Option (Nat×Bool)) (fr:Option Nat) (e:aN) (S:St) (K:KW),fU P C ⟨d,.indexAddr t x i,ty,pos,aft,g⟩ fr e S K=wO (ev e x) fun v=>wO (ev e i) fun k=>wR (hl (cC P t v k)) fun v=>K v S) ∧
  (∀ (t:TypeId) (x i:Operand) (d:Option Tmp) (ty:TypeId) (pos:String) (aft:Array Edge) (g:Option (Nat×Bool)) (fr:Option Nat) (e:aN) (S:St) (K:KW),fU P C ⟨d,.index t x i,ty,pos,aft,g⟩ fr e S K=wO (ev e x) fun v=>wO (ev e i) fun k=>wR (hl (xO P t v k)) fun v=>K v S) ∧
  (∀ (t:TypeId) (x:Operand) (d:Option Tmp) (ty:TypeId) (pos:String) (aft:Array Edge) (g:Option (Nat×Bool)) (fr:Option Nat) (e:aN) (S:St) (K:KW),fU P C ⟨d,.range t x,ty,pos,aft,g⟩ fr e S K=wO (ev e x) fun v=>vV (hl (aCv P t)) (wR (hl (aCw v fr S)) fun r=>K r.1 r.2)) ∧
  (∀ (it:Operand) (isS:Bool) (d:Option Tmp) (ty:TypeId) (pos:String) (aft:Array Edge) (g:Option (Nat×Bool)) (fr:Option Nat) (e:aN) (S:St) (K:KW),fU P C ⟨d,.next it isS,ty,pos,aft,g⟩ fr e S K=wO (ev e it) fun v=>vV (hl isS) (wR (hl (sP v S)) fun r=>K r.1 r.2)) ∧
  (∀ (t:TypeId) (d:Option Tmp) (ty:TypeId) (pos:String) (aft:Array Edge) (g:Option (Nat×Bool)) (fr:Option Nat) (e:aN) (S:St) (K:KW),fU P C ⟨d,.makeMap t none,ty,pos,aft,g⟩ fr e S K=wR (hl (aR fr S (.mp []))) fun r=>K (.mp r.1) r.2) ∧
  (∀ (t:TypeId) (m k:Operand) (ok:Bool) (d:Option Tmp) (ty:TypeId) (pos:String) (aft:Array Edge) (g:Option (Nat×Bool)) (fr:Option Nat) (e:aN) (S:St) (K:KW),fU P C ⟨d,.lookup t m k ok,ty,pos,aft,g⟩ fr e S K=wO (ev e m) fun m=>wO (ev e k) fun k=>wR (hl (rV P t m k ok S)) fun v=>K v S) ∧
  (∀ (t:TypeId) (m k v:Operand) (d:Option Tmp) (ty:TypeId) (pos:String) (aft:Array Edge) (g:Option (Nat×Bool)) (fr:Option Nat) (e:aN) (S:St) (K:KW),fU P C ⟨d,.mapUpdate t m k v,ty,pos,aft,g⟩ fr e S K=wO (ev e m) fun m=>wO (ev e k) fun k=>wO (ev e v) fun v=>wR (hl (jO P t m k v S)) fun S'=>K (.tup []) S') ∧
  (∀ (f:FuncId) (a b:List Operand) (d:Option Tmp) (ty:TypeId) (pos:String) (aft:Array Edge) (g:Option (Nat×Bool)) (fr:Option Nat) (e:aN) (S:St) (K:KW),fU P C ⟨d,.makeFunc (.func f) a.toArray b.toArray,ty,pos,aft,g⟩ fr e S K=wO (lW (ev e) a) fun a=>wO (lW (ev e) b) fun b=>K (.func f a b) S) ∧
  (∀ (x:Operand) (u t:TypeId) (ok:Bool) (d:Option Tmp) (ty:TypeId) (pos:String) (aft:Array Edge) (g:Option (Nat×Bool)) (fr:Option Nat) (e:aN) (S:St) (K:KW),fU P C ⟨d,.typeAssert x u t ok,ty,pos,aft,g⟩ fr e S K=wO (ev e x) fun v=>wR (hl (rW P v t ok)) fun v=>K v S) ∧
  (∀ (t:Operand) (i:Nat) (d:Option Tmp) (ty:TypeId) (pos:String) (aft:Array Edge) (g:Option (Nat×Bool)) (fr:Option Nat) (e:aN) (S:St) (K:KW),fU P C ⟨d,.extract t i,ty,pos,aft,g⟩ fr e S K=wO (ev e t) fun v=>kL (hl v) i fun v=>K v S) ∧
  (∀ (f:FuncId) (a:List Operand) (ts:Array TypeId) (d:Option Tmp) (ty:TypeId) (pos:String) (aft:Array Edge) (g:Option (Nat×Bool)) (fr:Option Nat) (e:aN) (S:St) (K:KW),fU P C ⟨d,.call ⟨.value (.func f),a.toArray,ts⟩,ty,pos,aft,g⟩ fr e S K=wO (lW (ev e) a) fun args=>gW P C f args S K) ∧
  (∀ (t:Tmp) (a:List Operand) (ts:Array TypeId) (d:Option Tmp) (ty:TypeId) (pos:String) (aft:Array Edge) (g:Option (Nat×Bool)) (fr:Option Nat) (e:aN) (S:St) (K:KW),fU P C ⟨d,.call ⟨.value (.tmp t),a.toArray,ts⟩,ty,pos,aft,g⟩ fr e S K=wO (ev e (.tmp t)) fun v=>wO (lW (ev e) a) fun args=>aMi P C v args S K) ∧
  (∀ (x:Operand) (t:TypeId) (ts:List TypeId) (d:Option Tmp) (ty:TypeId) (pos:String) (aft:Array Edge) (g:Option (Nat×Bool)) (fr:Option Nat) (e:aN) (S:St) (K:KW),fU P C ⟨d,.call ⟨.builtin .len,[x].toArray,(t::ts).toArray⟩,ty,pos,aft,g⟩ fr e S K=wO (ev e x) fun x=>wR (hl (tR P t x S)) fun v=>K v S) ∧
  (∀ (a:List Operand) (ts:Array TypeId) (d:Option Tmp) (ty:TypeId) (pos:String) (aft:Array Edge) (g:Option (Nat×Bool)) (fr:Option Nat) (e:aN) (S:St) (K:KW),fU P C ⟨d,.call ⟨.builtin .min,a.toArray,ts⟩,ty,pos,aft,g⟩ fr e S K=wO (lW (ev e) a) fun args=>wR (hl (aLz args)) fun v=>K v S) ∧
  (∀ (a:List Operand) (ts:Array TypeId) (d:Option Tmp) (ty:TypeId) (pos:String) (aft:Array Edge) (g:Option (Nat×Bool)) (fr:Option Nat) (e:aN) (S:St) (K:KW),fU P C ⟨d,.call ⟨.builtin .max,a.toArray,ts⟩,ty,pos,aft,g⟩ fr e S K=wO (lW (ev e) a) fun args=>wR (hl (aM0 args)) fun v=>K v S) ∧
  (∀ (s x:Operand) (t u:TypeId) (ts:List TypeId) (d:Option Tmp) (ty:TypeId) (pos:String) (aft:Array Edge) (g:Option (Nat×Bool)) (fr:Option Nat) (e:aN) (S:St) (K:KW),fU P C ⟨d,.call ⟨.builtin .append,[s,x].toArray,(t::u::ts).toArray⟩,ty,pos,aft,g⟩ fr e S K=wO (ev e s) fun s=>wO (ev e x) fun x=>vV (hl (oK P u)) (wR (hl (dZ P t s x fr S)) fun r=>K r.1 r.2)) ∧
  (∀ (x:Operand) (t:TypeId) (ts:List TypeId) (d:Option Tmp) (ty:TypeId) (pos:String) (aft:Array Edge) (g:Option (Nat×Bool)) (fr:Option Nat) (e:aN) (S:St) (K:KW),fU P C ⟨d,.call ⟨.builtin .clear,[x].toArray,(t::ts).toArray⟩,ty,pos,aft,g⟩ fr e S K=wO (ev e x) fun x=>wR (hl (xQ P t x S)) fun r=>K r.1 r.2):=by
 refine ⟨?_,?_,?_,?_,?_,?_,?_,?_,?_,?_,?_,?_,?_,?_,?_,?_,?_,?_,?_,?_,?_,?_,?_,?_,?_,?_,?_,?_,?_,?_,?_,?_,?_,?_,?_,?_,?_,?_,?_,?_,?_,?_,?_,?_,?_,?_,?_,?_,?_,?_⟩
 all_goals intros
 all_goals first
  | rfl
  | (simp only [hl];refine (aR6 _ _ _).trans (aGq _ fun v=>?_);simp only [yP,List.getElem?_toArray,List.getElem?_cons_zero,wO])
  | (simp only [hl];refine (aR7 _ _ _ _).trans (aGq _ fun v=>aGq _ fun w=>?_);simp only [yP,List.getElem?_toArray,List.getElem?_cons_zero,List.getElem?_cons_succ,wO,oK];split<;>simp [vV, *];done)
  | (simp only [fU,ev,aMi,wO,List.nil_append,List.append_nil];done)
  | skip
def nN (j:Nat) (sk:List Nat) (x y:Prop):Prop:=match aMg j sk with
 | true=>x
 | false=>y
theorem aSk {i j:Nat} (h:¬ j=i) (l:List Nat) (x y:Prop):nN j (i::l) x y=nN j l x y:=by simp only [nN,aMg,aEx (Ne.symm h)]
theorem aXt {i j:Nat} (h:j<i) (l:List Nat) (x y:Prop):nN j (i::l) x y=nN j l x y:=aSk (Nat.ne_of_lt h) l x y
theorem aSl {i j:Nat} (h:i<j) (l:List Nat) (x y:Prop):nN j (i::l) x y=nN j l x y:=aSk (Nat.ne_of_gt h) l x y
theorem aMz {i j:Nat} (h:¬ j=i) (l:List Nat) (r:List (Nat×List Nat)) (K:List Nat→Prop):wLv ((i,l)::r) j K=wLv r j K:=by simp only [wLv,aEx (Ne.symm h)]
theorem aSm {i j:Nat} (h:j<i) (l:List Nat) (r:List (Nat×List Nat)) (K:List Nat→Prop):wLv ((i,l)::r) j K=wLv r j K:=aMz (Nat.ne_of_lt h) l r K
theorem aN0 {i j:Nat} (h:i<j) (l:List Nat) (r:List (Nat×List Nat)) (K:List Nat→Prop):wLv ((i,l)::r) j K=wLv r j K:=aMz (Nat.ne_of_gt h) l r K
theorem aN1 {i j:Nat} (h:¬ j=i) (l:List bH) (r:List (Nat×List bH)) (K:List bH→Prop) (x:Prop):wSt ((i,l)::r) j K x=wSt r j K x:=by simp only [wSt,aEx (Ne.symm h)]
theorem aSn {i j:Nat} (h:j<i) (l:List bH) (r:List (Nat×List bH)) (K:List bH→Prop) (x:Prop):wSt ((i,l)::r) j K x=wSt r j K x:=aN1 (Nat.ne_of_lt h) l r K x
theorem aN2 {i j:Nat} (h:i<j) (l:List bH) (r:List (Nat×List bH)) (K:List bH→Prop) (x:Prop):wSt ((i,l)::r) j K x=wSt r j K x:=aN1 (Nat.ne_of_gt h) l r K x
theorem aHw {i j:Nat} (h:¬ j=i) (Kn:jF) (Kx:KXW) (e:aN) (S:St):aGp i Kn Kx j e S=Kx j e S:=by simp only [aGp,aEx h]
theorem aN3 {i j:Nat} (h:j<i) (Kn:jF) (Kx:KXW) (e:aN) (S:St):aGp i Kn Kx j e S=Kx j e S:=aHw (Nat.ne_of_lt h) Kn Kx e S
theorem aHx {i j:Nat} (h:i<j) (Kn:jF) (Kx:KXW) (e:aN) (S:St):aGp i Kn Kx j e S=Kx j e S:=aHw (Nat.ne_of_gt h) Kn Kx e S
theorem aN4 {d n:Nat} (h:d<n) (e:aN) (v:V) (K:aN→Prop):nM n (some d) e v K=K (e.put d v):=by simp only [nM,show Nat.blt d n=true by rw [Nat.blt_eq];exact h]
theorem aGr (i:Nat):Nat.beq i i=true:=Nat.beq_refl i
theorem aBf {i j:Nat} (h:¬ i=j) (P:Program) (C:aX) (ops:Array Oper) (S:St) (K:Prop) (o:Oper) (e:aN) (ran:Bool) (v:V) (recs:List nP):cQ P C ops i S K (sR P o j e ran v recs)=cQ P C ops i S K recs:=by
 unfold sR
 split
 ·simp only [cQ,aEx h]
 ·rfl
theorem aF2 {i j:Nat} (h:i<j) (P:Program) (C:aX) (ops:Array Oper) (S:St) (K:Prop) (o:Oper) (e:aN) (ran:Bool) (v:V) (recs:List nP):cQ P C ops i S K (sR P o j e ran v recs)=cQ P C ops i S K recs:=aBf (Nat.ne_of_lt h) P C ops S K o e ran v recs
theorem aBg {i j:Nat} (h:j<i) (P:Program) (C:aX) (ops:Array Oper) (S:St) (K:Prop) (o:Oper) (e:aN) (ran:Bool) (v:V) (recs:List nP):cQ P C ops i S K (sR P o j e ran v recs)=cQ P C ops i S K recs:=aBf (Nat.ne_of_gt h) P C ops S K o e ran v recs
theorem aN5 (K:List bH→Prop) (x:Prop) (id:Nat):∀ t:List (Nat×List bH),wSt t id K x=(match jV t id with
  | some l=>K l
  | none=>x)
 | []=>rfl
 | (i,l)::r=>by
  have ih:=aN5 K x id r
  unfold jV at ih ⊢
  by_cases h:i=id
  ·subst h;simp only [wSt,eZ,aGr,cond_true]
  ·simp only [wSt,eZ,aEx h,aEx (Ne.symm h),cond_false,ih]
theorem aBh (P:Program) (C:aX) (n:Nat) (tp:List (Nat×List bH)) (lv:Nat→List Nat) (id:Nat) (l:List Oper) (e:aN) (S:St) (Kn:jF) (Kx:KXW) (Kr:jF):
  cT P C n (jV tp) lv (.region id l.toArray true) e S Kn Kx Kr=wLn l [0,1,2,3,4,5,6,7,8,9,10,11,12,13,14,15,16,17,18,19,20,21,22,23,24,25,26,27,28,29,30,31,32,33,34,35,36,37,38,39,40,41,42,43,44,45,46,47,48,49,50,51,52,53,54,55,56,57,58,59,60,61,62,63,64,65,66,67,68,69,70,71,72,73,74,75,76,77,78,79,80,81,82,83,84,85,86,87,88,89,90,91,92,93,94,95,96,97,98,99,100,101,102,103,104,105,106,107,108,109,110,111,112,113,114,115,116,117,118,119,120,121,122,123,124,125,126,127,128,129,130,131,132,133,134,135,136,137,138,139,140,141,142,143,144,145,146,147,148,149,150,151,152,153,154,155,156,157,158,159,160] 0 fun k=>wSt tp id (fun st=>nI P C n l.toArray S.next st [] [] e ⟨S.next+k,S.heap⟩ Kn) (sT P C n l.toArray S.next l [0,1,2,3,4,5,6,7,8,9,10,11,12,13,14,15,16,17,18,19,20,21,22,23,24,25,26,27,28,29,30,31,32,33,34,35,36,37,38,39,40,41,42,43,44,45,46,47,48,49,50,51,52,53,54,55,56,57,58,59,60,61,62,63,64,65,66,67,68,69,70,71,72,73,74,75,76,77,78,79,80,81,82,83,84,85,86,87,88,89,90,91,92,93,94,95,96,97,98,99,100,101,102,103,104,105,106,107,108,109,110,111,112,113,114,115,116,117,118,119,120,121,122,123,124,125,126,127,128,129,130,131,132,133,134,135,136,137,138,139,140,141,142,143,144,145,146,147,148,149,150,151,152,153,154,155,156,157,158,159,160] 0 [] e ⟨S.next+k,S.heap⟩ Kn):=by
 have hu:rE 0 [0,1,2,3,4,5,6,7,8,9,10,11,12,13,14,15,16,17,18,19,20,21,22,23,24,25,26,27,28,29,30,31,32,33,34,35,36,37,38,39,40,41,42,43,44,45,46,47,48,49,50,51,52,53,54,55,56,57,58,59,60,61,62,63,64,65,66,67,68,69,70,71,72,73,74,75,76,77,78,79,80,81,82,83,84,85,86,87,88,89,90,91,92,93,94,95,96,97,98,99,100,101,102,103,104,105,106,107,108,109,110,111,112,113,114,115,116,117,118,119,120,121,122,123,124,125,126,127,128,129,130,131,132,133,134,135,136,137,138,139,140,141,142,143,144,145,146,147,148,149,150,151,152,153,154,155,156,157,158,159,160]:=by simp only [rE,and_self]
 generalize [0,1,2,3,4,5,6,7,8,9,10,11,12,13,14,15,16,17,18,19,20,21,22,23,24,25,26,27,28,29,30,31,32,33,34,35,36,37,38,39,40,41,42,43,44,45,46,47,48,49,50,51,52,53,54,55,56,57,58,59,60,61,62,63,64,65,66,67,68,69,70,71,72,73,74,75,76,77,78,79,80,81,82,83,84,85,86,87,88,89,90,91,92,93,94,95,96,97,98,99,100,101,102,103,104,105,106,107,108,109,110,111,112,113,114,115,116,117,118,119,120,121,122,123,124,125,126,127,128,129,130,131,132,133,134,135,136,137,138,139,140,141,142,143,144,145,146,147,148,149,150,151,152,153,154,155,156,157,158,159,160]=ks at hu ⊢
 rw [aGm _ _ _ _ hu,aN5,Nat.zero_add]
 simp only [cT,List.size_toArray]
 cases jV tp id with
 | some st=>rfl
 | none=>
  show nI P C n l.toArray S.next (aDy l.length) [] [] e _ Kn=_
  rw [aF1]
  exact yZ P C n l.toArray S.next Kn l ks 0 [] [] e _ hu fun k=>by simp
theorem aBi (P:Program) (C:aX) (n:Nat) (p:Nat→Option (List bH)) (tl:List (Nat×List Nat)) (a:Code) (e:aN) (S:St) (Kn:jF) (Kx:KXW) (Kr:jF):
  cT P C n p (mQ tl) (.loop a) e S Kn Kx Kr=wLv tl (aV a) fun ts=>jU e ts fun vs=>iF (hl vs) S (aSg P C n p (mQ tl) a e Kx Kr):=by rw [aGn];rfl
theorem aN6 (P:Program) (C:aX) (n:Nat) (p:Nat→Option (List bH)) (tl:List (Nat×List Nat)) (a:Code) (e:aN) (Kx:KXW) (Kr:jF) (vs:List V) (S:St) (aC:List V→St→Prop):
  aSg P C n p (mQ tl) a e Kx Kr vs S aC=wLv tl (aV a) fun ts=>aCx ts vs (e.filt fun t=>!jE a t) fun e=>cT P C n p (mQ tl) a e S (fun e S=>jU e ts fun vs=>aC vs S) Kx Kr:=by rw [aGn];rfl
theorem aHy (P:Program) (C:aX):
  (∀ (n:Nat) (p:Nat→Option (List bH)) (lv:Nat→List Nat) (e:aN) (S:St) (Kn:jF) (Kx:KXW) (Kr:jF),cT P C n p lv .skip e S Kn Kx Kr=Kn e S) ∧
  (∀ (n:Nat) (p:Nat→Option (List bH)) (lv:Nat→List Nat) (l:Nat) (e:aN) (S:St) (Kn:jF) (Kx:KXW) (Kr:jF),cT P C n p lv (.label l) e S Kn Kx Kr=Kn e S) ∧
  (∀ (n:Nat) (p:Nat→Option (List bH)) (lv:Nat→List Nat) (id:Nat) (e:aN) (S:St) (Kn:jF) (Kx:KXW) (Kr:jF),cT P C n p lv (.exit id) e S Kn Kx Kr=Kx id e S) ∧
  (∀ (n:Nat) (p:Nat→Option (List bH)) (lv:Nat→List Nat) (e:aN) (S:St) (Kn:jF) (Kx:KXW) (Kr:jF),cT P C n p lv .ret e S Kn Kx Kr=Kr e S) ∧
  (∀ (n:Nat) (p:Nat→Option (List bH)) (lv:Nat→List Nat) (id:Nat) (l:List Oper) (e:aN) (S:St) (Kn:jF) (Kx:KXW) (Kr:jF),cT P C n p lv (.region id l.toArray false) e S Kn Kx Kr=aD0 P C n l.toArray l [0,1,2,3,4,5,6,7,8,9,10,11,12,13,14,15,16,17,18,19,20,21,22,23,24,25,26,27,28,29,30,31,32,33,34,35,36,37,38,39,40,41,42,43,44,45,46,47,48,49,50,51,52,53,54,55,56,57,58,59,60,61,62,63,64,65,66,67,68,69,70,71,72,73,74,75,76,77,78,79,80,81,82,83,84,85,86,87,88,89,90,91,92,93,94,95,96,97,98,99,100,101,102,103,104,105,106,107,108,109,110,111,112,113,114,115,116,117,118,119,120,121,122,123,124,125,126,127,128,129,130,131,132,133,134,135,136,137,138,139,140,141,142,143,144,145,146,147,148,149,150,151,152,153,154,155,156,157,158,159,160] 0 [] e S Kn) ∧
  (∀ (n:Nat) (p:Nat→Option (List bH)) (lv:Nat→List Nat) (a b:Code) (e:aN) (S:St) (Kn:jF) (Kx:KXW) (Kr:jF),cT P C n p lv (.seq a b) e S Kn Kx Kr=cT P C n p lv a e S (fun e S=>cT P C n p lv b e S Kn Kx Kr) Kx Kr) ∧
  (∀ (n:Nat) (p:Nat→Option (List bH)) (lv:Nat→List Nat) (c:Operand) (a b:Code) (e:aN) (S:St) (Kn:jF) (Kx:KXW) (Kr:jF),cT P C n p lv (.cond c a b) e S Kn Kx Kr=wO (ev e c) fun v=>aZ (hl v) (cT P C n p lv a (uW e c true) S Kn Kx Kr) (cT P C n p lv b (uW e c false) S Kn Kx Kr)) ∧
  (∀ (n:Nat) (p:Nat→Option (List bH)) (lv:Nat→List Nat) (id:Nat) (a:Code) (e:aN) (S:St) (Kn:jF) (Kx:KXW) (Kr:jF),cT P C n p lv (.block id a) e S Kn Kx Kr=cT P C n p lv a e S Kn (aGp id Kn Kx) Kr) ∧
  (∀ (n:Nat) (ops:Array Oper) (ks:List Nat) (i:Nat) (sk:List Nat) (e:aN) (S:St) (K:jF),aD0 P C n ops [] ks i sk e S K=K e S) ∧
  (∀ (n:Nat) (ops:Array Oper) (o:Oper) (l:List Oper) (k i:Nat) (ks sk:List Nat) (e:aN) (S:St) (K:jF),aD0 P C n ops (o::l) (k::ks) i sk e S K=gP P C n ops sk o none e S fun ran _ e' S'=>aD0 P C n ops l ks (i+1) (sQ ran k sk) e' S' K) ∧
  (∀ (n:Nat) (ops:Array Oper) (b:Nat) (ks:List Nat) (i:Nat) (sk:List Nat) (e:aN) (S:St) (K:jF),sT P C n ops b [] ks i sk e S K=K e S) ∧
  (∀ (n:Nat) (ops:Array Oper) (o:Oper) (l:List Oper) (b k i:Nat) (ks:List Nat) (sk:List Nat) (e:aN) (S:St) (K:jF),sT P C n ops b (o::l) (k::ks) i sk e S K=gP P C n ops sk o (some (b+k)) e S fun ran _ e' S'=>sT P C n ops b l ks (i+1) (sQ ran k sk) e' S' K) ∧
  (∀ (n:Nat) (ops:Array Oper) (b:Nat) (sk:List Nat) (recs:List nP) (e:aN) (S:St) (K:jF),nI P C n ops b [] sk recs e S K=K e S) ∧
  (∀ (n:Nat) (ops:List Oper) (i:Nat) (re:List Nat) (l:List bH) (b:Nat) (sk:List Nat) (recs:List nP) (e:aN) (S:St) (K:jF),nI P C n ops.toArray b ((i,re)::l) sk recs e S K=wI ops i fun o=>gP P C n ops.toArray sk o (some (b+i)) e S fun ran v e' S'=>mO P C ops.toArray recs S' (nI P C n ops.toArray b l (sQ ran i sk) (sR P o i e ran v recs) e' S' K) re) ∧
  (∀ (ops:Array Oper) (recs:List nP) (S:St) (K:Prop),mO P C ops recs S K []=K) ∧
  (∀ (ops:Array Oper) (recs:List nP) (S:St) (K:Prop) (i:Nat) (l:List Nat),mO P C ops recs S K (i::l)=cQ P C ops i S (mO P C ops recs S K l) recs) ∧
  (∀ (ops:Array Oper) (i:Nat) (S:St) (K:Prop),cQ P C ops i S K []=K) ∧
  (∀ (ops:List Oper) (i:Nat) (S:St) (K:Prop) (d t:Nat) (a:Operand) (ty:TypeId) (pos:String) (aft:Array Edge) (g:Option (Nat×Bool)) (e:aN) (v:V) (recs:List nP),cQ P C ops.toArray i S K (sR P ⟨some d,.load t a,ty,pos,aft,g⟩ i e true v recs)=wI ops i fun o=>fU P C o none e S fun v' _=>vV (hl (eL v v')) K) ∧
  (∀ (ops:List Oper) (i:Nat) (S:St) (K:Prop) (d:Nat) (a:Array Operand) (ts:Array TypeId) (ty:TypeId) (pos:String) (aft:Array Edge) (g:Option (Nat×Bool)) (e:aN) (v:V) (recs:List nP),cQ P C ops.toArray i S K (sR P ⟨some d,.call ⟨.builtin .len,a,ts⟩,ty,pos,aft,g⟩ i e true v recs)=wI ops i fun o=>fU P C o none e S fun v' _=>vV (hl (eL v v')) K) ∧
  (∀ (o:Oper) (i:Nat) (e:aN) (v:V) (recs:List nP) (ops:Array Oper) (S:St) (K:Prop),cQ P C ops i S K (sR P o i e false v recs)=cQ P C ops i S K recs) ∧
  (∀ (n:Nat) (ops:Array Oper) (sk:List Nat) (d:Option Tmp) (op:Op) (ty:TypeId) (pos:String) (aft:Array Edge) (fr:Option Nat) (e:aN) (S:St) (K:Bool→V→aN→St→Prop),gP P C n ops sk ⟨d,op,ty,pos,aft,none⟩ fr e S K=fU P C ⟨d,op,ty,pos,aft,none⟩ fr e S fun v S'=>nM n d e v fun e'=>K true v e' S') ∧
  (∀ (n:Nat) (ops:List Oper) (sk:List Nat) (d:Option Tmp) (op:Op) (ty:TypeId) (pos:String) (aft:Array Edge) (j:Nat) (fr:Option Nat) (e:aN) (S:St) (K:Bool→V→aN→St→Prop),gP P C n ops.toArray sk ⟨d,op,ty,pos,aft,some (j,true)⟩ fr e S K=wG ops j fun s=>wO (e.get s) fun v=>nN j sk (aKj v (nM n d e (.tup []) fun e'=>K false (.tup []) e' S)) (aZ (hl v) (fU P C ⟨d,op,ty,pos,aft,some (j,true)⟩ fr (e.put s (.bool true)) S fun v S'=>nM n d (e.put s (.bool true)) v fun e'=>K true v e' S') (nM n d (e.put s (.bool false)) (.tup []) fun e'=>K false (.tup []) e' S))) ∧
  (∀ (n:Nat) (ops:List Oper) (sk:List Nat) (d:Option Tmp) (op:Op) (ty:TypeId) (pos:String) (aft:Array Edge) (j:Nat) (fr:Option Nat) (e:aN) (S:St) (K:Bool→V→aN→St→Prop),gP P C n ops.toArray sk ⟨d,op,ty,pos,aft,some (j,false)⟩ fr e S K=wG ops j fun s=>wO (e.get s) fun v=>nN j sk (aKj v (nM n d e (.tup []) fun e'=>K false (.tup []) e' S)) (aZ (hl v) (nM n d (e.put s (.bool true)) (.tup []) fun e'=>K false (.tup []) e' S) (fU P C ⟨d,op,ty,pos,aft,some (j,false)⟩ fr (e.put s (.bool false)) S fun v S'=>nM n d (e.put s (.bool false)) v fun e'=>K true v e' S'))) ∧
  (∀ (n:Nat) (e:aN) (v:V) (K:aN→Prop),nM n none e v K=K e) ∧
  (∀ (rs:List ResultVar) (K:KW) (e:aN) (S:St),aKk P rs K e S=aAj P e S rs fun vs=>K (mE vs) S) ∧
  (∀ (e:aN) (S:St) (K:List V→Prop),aAj P e S [] K=K []) ∧
  (∀ (e:aN) (S:St) (t:Tmp) (l:List ResultVar) (K:List V→Prop),aAj P e S (.tmp t::l) K=wO (e.get t) fun v=>aAj P e S l fun vs=>K (v::vs)) ∧
  (∀ (e:aN) (S:St) (a:Tmp) (t:TypeId) (l:List ResultVar) (K:List V→Prop),aAj P e S (.cell a t::l) K=wO (e.get a) fun p=>wR (hl (iX P t p S)) fun v=>aAj P e S l fun vs=>K (v::vs)) ∧
  (∀ (f:FuncId) (a b args:List V) (S:St) (K:KW),aMi P C (.func f a b) args S K=gW P C f (a++args++b) S K):=by
 refine ⟨fun n _ _ _ _ _ _ _=>rfl,fun n _ _ _ _ _ _ _ _=>rfl,fun n _ _ _ _ _ _ _ _=>rfl,fun n _ _ _ _ _ _ _=>rfl,fun n p lv id l e S Kn Kx Kr=>aD1 P C n l.toArray Kn l _ 0 [] e S (by simp only [rE,and_self]),fun n _ _ _ _ _ _ _ _ _=>rfl,fun n _ _ _ _ _ _ _ _ _ _=>rfl,fun n _ _ _ _ _ _ _ _ _=>rfl,fun n ops ks i sk e S K=>by cases ks<;>rfl,fun n _ _ _ _ _ _ _ _ _ _=>rfl,fun n ops b ks i sk e S K=>by cases ks<;>rfl,fun n _ _ _ _ _ _ _ _ _ _ _=>rfl,fun n _ _ _ _ _ _ _=>rfl,fun n ops i re l b sk recs e S K=>?_,fun _ _ _ _=>rfl,fun _ _ _ _ _ _=>rfl,fun _ _ _ _=>rfl,fun ops i S K d t a ty pos aft g e v recs=>?_,fun ops i S K d a ts ty pos aft g e v recs=>?_,fun o i e v recs ops S K=>?_,fun n _ _ _ _ _ _ _ _ _ _ _=>rfl,fun n ops sk d op ty pos aft j fr e S K=>?_,fun n ops sk d op ty pos aft j fr e S K=>?_,fun n _ _ _=>rfl,fun _ _ _ _=>rfl,fun _ _ _=>rfl,fun _ _ _ _ _=>rfl,fun _ _ _ _ _ _=>rfl,fun _ _ _ _ _ _=>rfl⟩
 ·rw [nI,aBe]
 ·simp only [sR,cO,aGr,Bool.and_true,Option.isSome,cQ,hl];rw [aBe]
 ·simp only [sR,cO,aGr,Bool.and_true,Option.isSome,cQ,hl];rw [aBe]
 ·simp only [sR,Bool.and_false,Bool.false_and]
 ·simp only [gP,doW,aBa,nN];rw [aMv];rfl
 ·simp only [gP,doW,aBa,nN];rw [aMv];rfl
theorem aHz:(∀ (k:Nat) (ks:List Nat) (i:Nat) (K:Nat→Prop),wLn [] (k::ks) i K=K k)∧(∀ (o:Oper) (l:List Oper) (k:Nat) (ks:List Nat) (i:Nat) (K:Nat→Prop),wLn (o::l) (k::ks) i K=wLn l ks (i+1) K)∧(∀ (j:Nat) (x y:Prop),nN j [] x y=y)∧(∀ (j i:Nat) (l:List Nat) (x y:Prop),nN j (sQ true i l) x y=nN j l x y)∧(∀ (j i:Nat) (l:List Nat) (x y:Prop),nN j (sQ false i l) x y=nN j (i::l) x y)∧(∀ (j:Nat) (l:List Nat) (x y:Prop),nN j (j::l) x y=x) ∧
  (∀ (j:Nat) (K:List Nat→Prop),wLv [] j K=K [])∧(∀ (j:Nat) (l:List Nat) (r:List (Nat×List Nat)) (K:List Nat→Prop),wLv ((j,l)::r) j K=K l)∧(∀ (j:Nat) (K:List bH→Prop) (x:Prop),wSt [] j K x=x)∧(∀ (j:Nat) (l:List bH) (r:List (Nat×List bH)) (K:List bH→Prop) (x:Prop),wSt ((j,l)::r) j K x=K l) ∧
  (∀ (o:Oper) (l:List Oper) (K:Nat→Prop),wG (o::l) 0 K=wO o.dst K)∧(∀ (o:Oper) (l:List Oper) (j:Nat) (K:Nat→Prop),wG (o::l) (j+1) K=wG l j K)∧(∀ (o:Oper) (l:List Oper) (K:Oper→Prop),wI (o::l) 0 K=K o)∧(∀ (o:Oper) (l:List Oper) (j:Nat) (K:Oper→Prop),wI (o::l) (j+1) K=wI l j K) ∧
  (∀ (d:Nat) (op:Op) (ty:TypeId) (pos:String) (aft:Array Edge) (g:Option (Nat×Bool)) (K:Nat→Prop),wO (Oper.dst ⟨some d,op,ty,pos,aft,g⟩) K=K d) ∧
  (∀ (i:Nat) (Kn:jF) (Kx:KXW) (e:aN) (S:St),aGp i Kn Kx i e S=Kn e S)∧(∀ (e:aN) (K:List V→Prop),jU e [] K=K [])∧(∀ (e:aN) (t:Nat) (l:List Nat) (K:List V→Prop),jU e (t::l) K=wO (e.get t) fun v=>jU e l fun vs=>K (v::vs)) ∧
  (∀ (vs:List V) (e:aN) (K:aN→Prop),aCx [] vs e K=K e)∧(∀ (t:Nat) (l:List Nat) (v:V) (vs:List V) (e:aN) (K:aN→Prop),aCx (t::l) (v::vs) e K=aCx l vs (e.put t v) K)∧(cV 0 [] .nil=.nil)∧(∀ a0:V,cV 0 [a0] .nil=(Tr.put .nil 0 a0))∧(∀ a0 a1:V,cV 0 [a0,a1] .nil=((Tr.put .nil 0 a0).put 1 a1))∧(∀ a0 a1 a2:V,cV 0 [a0,a1,a2] .nil=(((Tr.put .nil 0 a0).put 1 a1).put 2 a2))∧(∀ a0 a1 a2 a3:V,cV 0 [a0,a1,a2,a3] .nil=((((Tr.put .nil 0 a0).put 1 a1).put 2 a2).put 3 a3))∧(∀ a0 a1 a2 a3 a4:V,cV 0 [a0,a1,a2,a3,a4] .nil=(((((Tr.put .nil 0 a0).put 1 a1).put 2 a2).put 3 a3).put 4 a4))∧(∀ a0 a1 a2 a3 a4 a5:V,cV 0 [a0,a1,a2,a3,a4,a5] .nil=((((((Tr.put .nil 0 a0).put 1 a1).put 2 a2).put 3 a3).put 4 a4).put 5 a5))∧(∀ a0 a1 a2 a3 a4 a5 a6:V,cV 0 [a0,a1,a2,a3,a4,a5,a6] .nil=(((((((Tr.put .nil 0 a0).put 1 a1).put 2 a2).put 3 a3).put 4 a4).put 5 a5).put 6 a6))∧(∀ a0 a1 a2 a3 a4 a5 a6 a7:V,cV 0 [a0,a1,a2,a3,a4,a5,a6,a7] .nil=((((((((Tr.put .nil 0 a0).put 1 a1).put 2 a2).put 3 a3).put 4 a4).put 5 a5).put 6 a6).put 7 a7)) ∧
  (∀ (i:Nat) (sk:List Nat),sQ true i sk=sk)∧(∀ (i:Nat) (sk:List Nat),sQ false i sk=i::sk)∧(∀ (e:aN) (t:Nat) (b:Bool),uW e (.tmp t) b=e.put t (.bool b))∧(∀ (e:aN) (v:Value) (b:Bool),uW e (.const v) b=e)∧(∀ v:V,mE [v]=v)∧mE []=.tup []∧(∀ (v w:V) (l:List V),mE (v::w::l)=.tup (v::w::l)) ∧
  (∀ (l:List V) (x:Prop),aKj (.tup l) x=x)∧(∀ a b:Code,aV (.seq a b)=aV a)∧(∀ (i:Nat) (a:Code),aV (.block i a)=aV a)∧(∀ (id:Nat) (ops:Array Oper) (d:Bool),aV (.region id ops d)=id)∧(∀ a:Code,aV (.loop a)=aV a)∧(∀ (c:Operand) (a b:Code),aV (.cond c a b)=0)∧(∀ x y:Prop,aZ (hl (.bool true)) x y=x)∧(∀ x y:Prop,aZ (hl (.bool false)) x y=y)∧(true=true)=True∧(false=true)=False∧(∀ a b:V,aEp (.bool true) a b=.ok a)∧(∀ a b:V,aEp (.bool false) a b=.ok b):=by
 refine ⟨fun _ _ _ _=>rfl,fun _ _ _ _ _ _=>rfl,fun _ _ _=>rfl,fun _ _ _ _ _=>rfl,fun _ _ _ _ _=>rfl,fun j l x y=>by simp only [nN,aMg,aGr],fun _ _=>rfl,fun j l r K=>by simp only [wLv,aGr],fun _ _ _=>rfl,fun j l r K x=>by simp only [wSt,aGr],fun _ _ _=>rfl,fun _ _ _ _=>rfl,fun _ _ _=>rfl,fun _ _ _ _=>rfl,fun _ _ _ _ _ _ _=>rfl,fun i Kn Kx e S=>by simp only [aGp,aGr],fun _ _=>rfl,fun _ _ _ _=>rfl,fun _ _ _=>rfl,fun _ _ _ _ _ _=>rfl,rfl,fun _=>rfl,fun _ _=>rfl,fun _ _ _=>rfl,fun _ _ _ _=>rfl,fun _ _ _ _ _=>rfl,fun _ _ _ _ _ _=>rfl,fun _ _ _ _ _ _ _=>rfl,fun _ _ _ _ _ _ _ _=>rfl,fun _ _=>rfl,fun _ _=>rfl,fun _ _ _=>rfl,fun _ _ _=>rfl,fun _=>rfl,rfl,fun _ _ _=>rfl,fun _ _=>rfl,fun _ _=>rfl,fun _ _=>rfl,fun _ _ _=>rfl,fun _=>rfl,fun _ _ _=>rfl,fun _ _=>rfl,fun _ _=>rfl,by simp,by simp,fun _ _=>rfl,fun _ _=>rfl⟩
theorem aI0 (P:Program):(∀ (t:TypeId) (i j:Nat) (a b:V),eQ P t (.tmp i) (.tmp j) a b=bC P t a b)∧(∀ (t:TypeId) (x:Operand) (c:Value) (i:TypeId) (v:V),eQ P t x (.const c) (.iface i v) .nili=true) ∧
  (∀ (t:TypeId) (x y:Operand) (a:V) (k:IntKind) (n:Int),eQ P t x y a (.int k n)=bC P t a (.int k n))∧(∀ (t:TypeId) (x y:Operand) (a:V) (s:List UInt8),eQ P t x y a (.str s)=bC P t a (.str s))∧(∀ (t:TypeId) (x y:Operand) (a:V) (b:Bool),eQ P t x y a (.bool b)=bC P t a (.bool b)) ∧
  (∀ (t:TypeId) (x y:Operand) (a:V) (l:List V),eQ P t x y a (.agg l)=bC P t a (.agg l))∧(∀ (t:TypeId) (x y:Operand) (a:V),eQ P t x y a .nilp=bC P t a .nilp)∧(∀ (t:TypeId) (x y:Operand) (a:V),eQ P t x y a .nils=bC P t a .nils)∧(∀ (t:TypeId) (x y:Operand) (a:V),eQ P t x y a .nilf=bC P t a .nilf)∧(∀ (t:TypeId) (x y:Operand) (a:V),eQ P t x y a .nilm=bC P t a .nilm):=
 have key:∀ (t:TypeId) (x y:Operand) (a b:V),aK1 x y a b=false→eQ P t x y a b=bC P t a b:=fun t x y a b h=>by
  unfold eQ
  split
  ·rw [h,Bool.or_false]
  ·rfl
 ⟨fun t i j a b=>key _ _ _ _ _ (by unfold aK1;cases b<;>first | rfl | (cases a<;>rfl)),fun t x c i v=>(key _ _ _ _ _ rfl).trans rfl,
  fun _ _ _ _ _ _=>key _ _ _ _ _ rfl,fun _ _ _ _ _=>key _ _ _ _ _ rfl,fun _ _ _ _ _=>key _ _ _ _ _ rfl,fun _ _ _ _ _=>key _ _ _ _ _ rfl,fun _ _ _ _=>key _ _ _ _ _ rfl,fun _ _ _ _=>key _ _ _ _ _ rfl,fun _ _ _ _=>key _ _ _ _ _ rfl,fun _ _ _ _=>key _ _ _ _ _ rfl⟩
def zA (P:Program) (C:aX) (fn:Func) (tp:List (Nat×List bH)) (tl:List (Nat×List Nat)) (args:List V) (S:St) (K:KW):Prop:=aMj P C (jV tp) (mQ tl) args S K (fn.body.getD .skip) fn.ntmps fn.results.toList
theorem aSo (P:Program) (C:aX) (nm og:String) (ta pa rt:Array TypeId) (nf nt:Nat) (rs:List ResultVar) (c:Code) (b1 b2:Bool) (fl:String) (el:Nat) (ln:Option Nat) (me:List Departure) (tn:Array String) (tp:List (Nat×List bH)) (tl:List (Nat×List Nat)) (args:List V) (S:St) (K:KW):
  zA P C ⟨nm,og,ta,pa,rt,nf,nt,rs.toArray,some c,b1,b2,fl,el,ln,me,tn⟩ tp tl args S K=vV (Nat.ble args.length nt) (cT P C nt (jV tp) (mQ tl) c (cV 0 args .nil) S (aKk P rs K) (fun _ _ _=>False) (aKk P rs K)):=rfl
def aBj (fn:Func):Code×Nat×List ResultVar:=(fn.body.getD .skip,fn.ntmps,fn.results.toList)
theorem aBk:(∀ n,Nat.ble ([]:List V).length n=true)∧(∀ (a:V) (l:List V) (n:Nat),Nat.ble (a::l).length (n+1)=Nat.ble l.length n):=⟨fun n=>by cases n<;>rfl,fun _ _ _=>rfl⟩
theorem aBl (P:Program) (C:aX) {g:FuncId} (h:dK P g=some none) (args:List V) (S:St) (K:KW):gW P C g args S K=C g (hl args) S K:=by unfold gW;rw [h];rfl
section
variable {P:Program} {pl:gO} {f:FuncId} {fn:Func} {tp:List (Nat×List bH)} {tl:List (Nat×List Nat)}
theorem aXu (hp:pl f=some (.val (jV tp))) (hb:uX P f=some (aBj fn)) {args:List V} {v:V} (hc:cloVs args=true) (h:zA P (W P pl) fn tp tl args ⟨0,.nil⟩ fun v0 S0=>iR S0 v0=.ok v):Fn P pl f args v:=
 Fn.of (p:=jV tp) (lv:=mQ tl) hp hc (by unfold gQ;rw [hb];exact h)
theorem aWh (hp:pl f=some (.code (jV tp))) (hb:uX P f=some (aBj fn)) {args:List V} {S:St} {K:KW} (h:zA P (W P pl) fn tp tl args S K):W P pl f args S K:=
 aWf (p:=jV tp) (lv:=mQ tl) hp (by unfold gQ;rw [hb];exact h)
end
end
end Go.AM
end
section
namespace Go.Proofs.YtoaibmbldmckaaaGreat
open Go.AM Tryz
def dSp:aAv:=[(202,.ins 68),(221,.ins 27),(230,.ins 28),(234,.ins 25),(237,.ins 24),(280,.ins 80),(240,.del 28),(25,.told)]
def aR8:fA:=[
 (3,[]),
 (4,[(4,[(0,[]),(2,[]),(1,[2]),(3,[]),(4,[]),(5,[]),(6,[]),(7,[]),(8,[]),(9,[]),(10,[]),(11,[]),(12,[]),(13,[])])]),
 (5,[(10,[(0,[]),(1,[]),(2,[1]),(3,[])])]),
 (6,[(8,[(0,[]),(2,[]),(1,[2]),(3,[]),(4,[]),(5,[]),(6,[]),(7,[]),(8,[]),(9,[]),(10,[]),(11,[]),(12,[]),(13,[]),(14,[]),(15,[])])]),
 (7,[]),
 (8,[(7,[(1,[]),(2,[]),(3,[]),(4,[]),(6,[]),(7,[]),(8,[]),(9,[]),(10,[]),(0,[]),(5,[7]),(11,[]),(12,[])]),(15,[(0,[]),(1,[0]),(2,[0]),(3,[]),(4,[]),(5,[]),(6,[]),(7,[]),(8,[])])]),
 (9,[]),
 (10,[]),
 (11,[]),
 (12,[]),
 (13,[(2,[(0,[]),(2,[]),(1,[2]),(3,[]),(4,[]),(5,[]),(6,[]),(7,[]),(8,[]),(9,[]),(10,[]),(11,[]),(12,[]),(13,[]),(14,[])])]),
 (14,[]),
 (15,[(5,[(0,[]),(1,[]),(2,[0]),(3,[]),(4,[]),(5,[]),(6,[]),(7,[]),(8,[]),(9,[])]),(6,[(0,[]),(1,[]),(2,[0]),(3,[]),(4,[]),(5,[]),(6,[]),(7,[]),(8,[]),(9,[])])]),
 (16,[(3,[(0,[]),(2,[]),(1,[2]),(3,[]),(4,[]),(5,[])]),(4,[(0,[]),(1,[]),(2,[]),(3,[]),(4,[]),(5,[]),(6,[]),(7,[]),(8,[]),(9,[]),(10,[]),(12,[]),(13,[]),(11,[13,12]),(14,[]),(15,[]),(16,[]),(17,[]),(18,[]),(19,[]),(20,[])])]),
 (17,[(32,[(0,[]),(1,[]),(2,[]),(3,[]),(4,[]),(5,[]),(6,[]),(7,[]),(8,[]),(9,[]),(10,[]),(11,[]),(12,[]),(13,[]),(14,[]),(15,[]),(16,[]),(17,[]),(18,[]),(19,[]),(20,[]),(21,[]),(22,[]),(23,[]),(24,[]),(25,[]),(26,[]),(27,[]),(28,[25,23]),(29,[]),(30,[]),(31,[25,23]),(32,[]),(33,[]),(34,[25]),(35,[]),(36,[]),(37,[])])]),
 (18,[]),
 (19,[]),
 (20,[]),
 (21,[]),
 (22,[]),
 (23,[]),
 (24,[]),
 (25,[(6,[(0,[]),(1,[]),(2,[]),(3,[]),(4,[]),(5,[]),(6,[]),(7,[]),(8,[]),(9,[8]),(10,[]),(11,[]),(12,[]),(13,[]),(14,[]),(15,[]),(16,[]),(17,[]),(18,[]),(19,[]),(20,[]),(21,[]),(22,[]),(23,[]),(24,[])])]),
 (26,[]),
 (27,[]),
 (28,[]),
 (29,[(7,[(0,[]),(1,[]),(2,[]),(3,[]),(4,[]),(5,[]),(6,[]),(8,[]),(9,[]),(10,[]),(11,[]),(12,[]),(13,[]),(15,[]),(16,[]),(17,[]),(18,[]),(19,[]),(20,[]),(7,[20,16,13,9]),(14,[20,16]),(21,[]),(22,[])]),(12,[(0,[]),(1,[]),(2,[]),(3,[]),(4,[]),(5,[]),(6,[]),(8,[]),(9,[]),(10,[]),(11,[]),(12,[]),(13,[]),(15,[]),(16,[]),(17,[]),(18,[]),(19,[]),(20,[]),(7,[20,16,13,9]),(14,[20,16]),(21,[]),(22,[])]),(18,[(0,[]),(1,[]),(2,[]),(3,[]),(5,[]),(6,[]),(4,[6]),(7,[]),(8,[])]),(19,[(0,[]),(1,[]),(2,[]),(3,[]),(5,[]),(6,[]),(7,[]),(4,[7]),(8,[]),(9,[])]),(25,[(0,[]),(1,[]),(2,[]),(4,[]),(5,[]),(7,[]),(8,[]),(3,[8,5]),(6,[8]),(9,[]),(10,[])]),(30,[(0,[]),(1,[]),(2,[]),(3,[]),(4,[]),(5,[]),(6,[]),(8,[]),(9,[]),(10,[]),(11,[]),(12,[]),(13,[]),(15,[]),(16,[]),(17,[]),(18,[]),(19,[]),(20,[]),(7,[20,16,13,9]),(14,[20,16]),(21,[]),(22,[])])]),
 (30,[]),
 (31,[]),
 (32,[]),
 (33,[(3,[(0,[]),(1,[0]),(2,[]),(3,[])]),(5,[(0,[]),(1,[0]),(2,[]),(3,[])]),(10,[(0,[]),(1,[]),(2,[0]),(3,[]),(4,[])]),(12,[(0,[]),(1,[]),(2,[1]),(3,[])]),(17,[(0,[]),(1,[]),(2,[1]),(3,[])])]),
 (34,[(9,[(1,[]),(2,[]),(4,[]),(5,[]),(6,[]),(0,[]),(3,[5]),(7,[]),(8,[]),(9,[]),(10,[])]),(11,[(0,[]),(1,[]),(2,[]),(3,[]),(4,[]),(5,[2]),(6,[])]),(16,[(0,[]),(1,[]),(2,[1]),(3,[])]),(21,[(0,[]),(1,[]),(2,[1]),(3,[])])]),
 (35,[]),
 (36,[]),
 (37,[]),
 (38,[]),
 (39,[]),
 (40,[]),
 (41,[(10,[(0,[]),(1,[]),(3,[]),(2,[3]),(4,[]),(5,[]),(6,[]),(7,[]),(8,[]),(10,[]),(9,[10]),(11,[]),(12,[]),(13,[])]),(19,[(1,[]),(2,[]),(3,[]),(5,[]),(6,[]),(7,[]),(8,[]),(9,[]),(12,[]),(13,[]),(14,[]),(0,[]),(4,[8,6]),(10,[]),(11,[]),(15,[]),(16,[])])]),
 (42,[]),
 (43,[]),
 (44,[(3,[(0,[]),(1,[0]),(2,[0]),(3,[]),(4,[]),(5,[]),(6,[]),(7,[]),(8,[])]),(4,[(0,[]),(1,[0]),(2,[0]),(3,[]),(4,[]),(5,[]),(6,[]),(7,[]),(8,[])])]),
 (45,[]),
 (46,[]),
 (47,[]),
 (48,[]),
 (50,[]),
 (51,[]),
 (52,[]),
 (53,[]),
 (54,[(7,[(0,[]),(1,[]),(3,[]),(4,[]),(6,[]),(2,[4]),(5,[]),(7,[]),(8,[]),(9,[]),(10,[])])]),
 (55,[]),
 (56,[]),
 (57,[]),
 (58,[]),
 (59,[]),
 (60,[]),
 (61,[]),
 (62,[]),
 (63,[]),
 (64,[]),
 (65,[]),
 (66,[]),
 (67,[]),
 (68,[]),
 (69,[]),
 (70,[]),
 (71,[]),
 (72,[]),
 (73,[]),
 (74,[]),
 (75,[]),
 (76,[]),
 (77,[]),
 (78,[]),
 (79,[]),
 (80,[]),
 (81,[]),
 (82,[]),
 (83,[]),
 (84,[]),
 (85,[]),
 (86,[]),
 (87,[]),
 (88,[]),
 (89,[]),
 (90,[]),
 (91,[]),
 (92,[]),
 (93,[]),
 (94,[]),
 (95,[]),
 (96,[]),
 (97,[]),
 (98,[(1,[(0,[]),(1,[]),(2,[]),(4,[]),(5,[]),(7,[]),(8,[]),(3,[8,5]),(6,[8]),(9,[]),(10,[])])]),
 (99,[]),
 (100,[]),
 (101,[(1,[(0,[]),(1,[]),(2,[]),(4,[]),(5,[]),(7,[]),(8,[]),(3,[8,5]),(6,[8]),(9,[]),(10,[])])]),
 (102,[(9,[(0,[]),(1,[]),(2,[]),(3,[]),(4,[]),(5,[]),(6,[]),(7,[]),(8,[]),(9,[]),(10,[1]),(11,[]),(12,[]),(13,[]),(14,[])])]),
 (103,[]),
 (104,[(2,[(0,[]),(1,[0]),(2,[]),(3,[])]),(5,[(0,[]),(1,[]),(2,[0]),(3,[]),(4,[])]),(9,[(0,[]),(1,[]),(2,[1]),(3,[])])]),
 (105,[]),
 (106,[]),
 (107,[(8,[(0,[]),(1,[]),(2,[]),(3,[]),(4,[]),(5,[]),(6,[]),(7,[]),(8,[5]),(9,[]),(10,[]),(11,[])])]),
 (108,[(5,[(0,[]),(1,[]),(2,[]),(3,[]),(4,[]),(5,[3]),(6,[]),(7,[])]),(12,[(0,[]),(1,[]),(2,[]),(3,[]),(4,[]),(5,[3]),(6,[]),(7,[])]),(15,[(0,[]),(1,[]),(2,[]),(3,[]),(4,[]),(5,[]),(6,[]),(7,[5,3]),(8,[]),(9,[5]),(10,[]),(11,[])])]),
 (109,[]),
 (110,[(33,[(1,[]),(2,[]),(3,[]),(4,[]),(6,[]),(7,[]),(8,[]),(9,[]),(10,[]),(0,[]),(5,[7]),(11,[]),(12,[]),(13,[])]),(44,[(0,[]),(1,[]),(2,[1]),(3,[])])]),
 (111,[(4,[(0,[]),(1,[]),(2,[]),(3,[]),(4,[]),(5,[]),(6,[]),(7,[]),(8,[5]),(9,[]),(10,[]),(11,[])])]),
 (112,[]),
 (113,[]),
 (114,[]),
 (115,[]),
 (116,[]),
 (117,[]),
 (118,[(1,[(0,[]),(1,[]),(2,[]),(3,[]),(4,[]),(5,[]),(6,[]),(7,[]),(8,[]),(9,[]),(10,[]),(11,[]),(12,[]),(13,[]),(14,[]),(15,[]),(16,[]),(17,[]),(18,[]),(19,[]),(20,[15]),(21,[]),(22,[]),(23,[])])]),
 (119,[]),
 (120,[(19,[(0,[]),(1,[]),(2,[]),(3,[]),(4,[]),(5,[]),(6,[]),(7,[]),(8,[]),(9,[]),(10,[]),(11,[]),(12,[]),(13,[]),(15,[]),(16,[]),(17,[]),(18,[]),(19,[]),(14,[19]),(20,[]),(21,[]),(22,[]),(23,[]),(24,[]),(25,[]),(26,[]),(27,[]),(28,[]),(29,[]),(30,[]),(31,[]),(32,[]),(33,[]),(34,[]),(35,[]),(36,[]),(37,[]),(38,[]),(39,[]),(40,[]),(41,[]),(42,[]),(43,[]),(44,[]),(45,[]),(46,[]),(47,[]),(48,[])])]),
 (121,[]),
 (122,[(11,[(1,[]),(2,[]),(3,[]),(5,[]),(6,[]),(7,[]),(8,[]),(9,[]),(10,[]),(13,[]),(14,[]),(15,[]),(0,[]),(4,[9]),(11,[]),(12,[]),(16,[]),(17,[])])]),
 (123,[(1,[(0,[]),(1,[]),(2,[]),(3,[]),(4,[]),(5,[]),(6,[]),(7,[]),(8,[]),(9,[]),(10,[]),(11,[]),(12,[]),(13,[]),(14,[]),(15,[]),(16,[]),(17,[]),(18,[]),(19,[]),(20,[]),(21,[]),(22,[]),(23,[]),(24,[]),(25,[]),(26,[]),(27,[]),(28,[]),(29,[]),(30,[25]),(31,[]),(32,[]),(33,[])])]),
 (124,[(1,[(0,[]),(1,[]),(2,[]),(3,[]),(4,[]),(5,[]),(6,[]),(7,[]),(9,[]),(8,[9]),(10,[]),(11,[]),(12,[]),(13,[])])]),
 (125,[]),
 (126,[]),
 (127,[]),
 (128,[]),
 (129,[]),
 (130,[]),
 (131,[]),
 (132,[]),
 (133,[]),
 (134,[]),
 (135,[]),
 (136,[]),
 (137,[]),
 (138,[]),
 (139,[]),
 (140,[]),
 (141,[]),
 (142,[(5,[(0,[]),(1,[]),(2,[]),(3,[]),(4,[]),(5,[3]),(6,[]),(7,[])]),(14,[(0,[]),(1,[]),(2,[]),(3,[]),(4,[]),(5,[]),(6,[]),(7,[]),(8,[]),(10,[]),(9,[5,2]),(11,[5]),(12,[]),(13,[]),(14,[]),(15,[])]),(17,[(0,[]),(1,[]),(2,[]),(3,[]),(4,[]),(5,[]),(6,[]),(7,[5,3]),(8,[]),(9,[5]),(10,[]),(11,[])]),(24,[(0,[]),(1,[]),(2,[]),(3,[]),(4,[2]),(5,[])])]),
 (143,[(5,[(0,[]),(1,[]),(2,[]),(3,[]),(4,[]),(5,[4]),(6,[])])]),
 (144,[]),
 (145,[]),
 (146,[]),
 (147,[]),
 (148,[]),
 (149,[]),
 (150,[]),
 (151,[]),
 (152,[]),
 (153,[]),
 (154,[(10,[(0,[]),(1,[]),(2,[]),(3,[]),(4,[]),(7,[]),(8,[]),(9,[]),(10,[]),(11,[]),(5,[]),(6,[11]),(12,[]),(13,[]),(14,[]),(15,[])])]),
 (155,[]),
 (156,[]),
 (157,[]),
 (158,[]),
 (159,[]),
 (160,[]),
 (161,[(5,[(0,[]),(1,[]),(2,[]),(3,[]),(4,[]),(5,[]),(8,[]),(9,[]),(10,[]),(11,[]),(12,[]),(13,[]),(6,[]),(7,[13]),(14,[]),(15,[]),(16,[]),(17,[])])]),
 (162,[]),
 (163,[]),
 (164,[]),
 (165,[]),
 (166,[]),
 (167,[]),
 (168,[]),
 (169,[]),
 (170,[]),
 (171,[]),
 (172,[]),
 (173,[]),
 (174,[]),
 (175,[]),
 (176,[]),
 (177,[]),
 (178,[(17,[(0,[]),(2,[]),(3,[]),(1,[3]),(4,[]),(5,[]),(6,[]),(7,[])])]),
 (179,[]),
 (180,[]),
 (181,[]),
 (182,[]),
 (183,[]),
 (184,[]),
 (185,[]),
 (186,[(14,[(1,[]),(2,[]),(3,[]),(5,[]),(6,[]),(7,[]),(10,[]),(11,[]),(12,[]),(0,[]),(4,[]),(8,[]),(9,[]),(13,[]),(14,[]),(15,[])])]),
 (187,[]),
 (188,[]),
 (189,[(13,[(1,[]),(2,[]),(3,[]),(5,[]),(8,[]),(9,[]),(10,[]),(0,[]),(4,[5]),(6,[]),(7,[]),(11,[]),(12,[]),(13,[])])]),
 (190,[(30,[(1,[]),(2,[]),(3,[]),(4,[]),(6,[]),(7,[]),(8,[]),(9,[]),(12,[]),(13,[]),(14,[]),(15,[]),(0,[]),(5,[13,7]),(10,[]),(11,[13]),(16,[]),(17,[]),(18,[])]),(31,[(0,[]),(1,[]),(2,[]),(3,[]),(4,[]),(5,[]),(6,[]),(7,[]),(8,[]),(9,[]),(10,[1]),(11,[]),(12,[]),(13,[]),(14,[]),(15,[]),(16,[]),(17,[])])]),
 (191,[(13,[(1,[]),(2,[]),(4,[]),(5,[]),(6,[]),(7,[]),(8,[]),(9,[]),(10,[]),(11,[]),(12,[]),(13,[]),(0,[]),(3,[12,10,9,5]),(14,[]),(15,[]),(16,[]),(17,[])]),(14,[(0,[]),(1,[]),(2,[]),(3,[]),(4,[]),(5,[3]),(6,[])])]),
 (192,[(12,[(0,[]),(1,[]),(2,[]),(3,[]),(4,[]),(5,[]),(6,[]),(8,[]),(9,[]),(7,[9]),(10,[]),(11,[]),(12,[])]),(22,[(0,[]),(1,[]),(2,[1]),(3,[])])]),
 (193,[]),
 (194,[(3,[(0,[]),(1,[]),(3,[]),(4,[]),(2,[4]),(5,[]),(6,[]),(7,[])])]),
 (195,[]),
 (196,[]),
 (197,[]),
 (198,[]),
 (199,[]),
 (200,[]),
 (201,[]),
 (203,[]),
 (204,[]),
 (205,[]),
 (206,[]),
 (207,[(4,[(0,[]),(1,[]),(3,[]),(4,[]),(6,[]),(2,[4]),(5,[]),(7,[]),(8,[]),(9,[]),(10,[])])]),
 (208,[(9,[(0,[]),(1,[]),(2,[]),(3,[]),(4,[]),(5,[]),(6,[3,1]),(7,[]),(8,[]),(9,[]),(10,[])])]),
 (209,[]),
 (210,[]),
 (211,[]),
 (212,[]),
 (213,[]),
 (214,[]),
 (215,[(6,[(0,[]),(1,[]),(2,[]),(3,[]),(4,[]),(5,[4]),(6,[])])]),
 (216,[]),
 (217,[]),
 (218,[]),
 (219,[]),
 (220,[]),
 (222,[]),
 (223,[(7,[(0,[]),(1,[]),(2,[]),(3,[]),(4,[1]),(5,[]),(6,[]),(7,[])])]),
 (224,[]),
 (225,[]),
 (226,[(5,[(0,[]),(1,[]),(2,[]),(5,[]),(6,[]),(7,[]),(3,[]),(4,[7]),(8,[]),(9,[]),(10,[]),(11,[])])]),
 (227,[]),
 (228,[]),
 (229,[]),
 (231,[]),
 (232,[]),
 (233,[]),
 (235,[]),
 (236,[]),
 (238,[]),
 (239,[]),
 (241,[]),
 (242,[(7,[(0,[]),(1,[]),(2,[]),(3,[]),(4,[]),(5,[]),(6,[]),(7,[]),(8,[]),(9,[]),(10,[]),(11,[]),(12,[]),(14,[]),(13,[14]),(15,[]),(16,[]),(17,[])])]),
 (243,[]),
 (244,[]),
 (245,[]),
 (246,[]),
 (249,[(7,[(0,[]),(1,[]),(2,[]),(4,[]),(5,[]),(3,[5]),(6,[]),(7,[])]),(16,[(0,[]),(1,[]),(2,[]),(3,[]),(5,[]),(6,[]),(7,[]),(9,[]),(10,[]),(11,[]),(4,[11,7]),(8,[11]),(12,[]),(13,[])]),(20,[(0,[]),(1,[]),(2,[]),(4,[]),(5,[]),(7,[]),(8,[]),(9,[]),(3,[9,8,5]),(6,[9,8]),(10,[]),(11,[])]),(27,[(0,[]),(1,[]),(2,[]),(4,[]),(5,[]),(7,[]),(8,[]),(10,[]),(11,[]),(3,[11,8,5]),(6,[11,8]),(9,[11]),(12,[]),(13,[])]),(31,[(0,[]),(1,[]),(2,[]),(4,[]),(5,[]),(7,[]),(8,[]),(9,[]),(11,[]),(12,[]),(13,[]),(3,[13,9,5]),(6,[13,9]),(10,[13]),(14,[]),(15,[])])]),
 (250,[]),
 (251,[]),
 (252,[]),
 (253,[]),
 (254,[]),
 (258,[]),
 (259,[]),
 (260,[]),
 (263,[]),
 (268,[]),
 (269,[]),
 (270,[]),
 (271,[]),
 (273,[]),
 (278,[]),
 (279,[]),
 (286,[]),
 (287,[]),
 (307,[]),
 (308,[]),
 (309,[]),
 (310,[]),
 (311,[]),
 (312,[]),
 (313,[]),
 (314,[])]
def dVl:List Nat:=[3,4,5,6,7,8,9,10,11,12,13,14,15,16,17,18,19,21,22,23,24,25,26,27,28,29,30,31,32,33,34,35,36,37,38,40,41,42,43,44,45,46,47,48,50,51,52,53,54,55,56,57,58,59,62,64,68,69,70,73,74,75,76,77,78,80,81,82,83,84,85,86,87,88,89,90,91,103,104,105,107,108,109,110,111,112,113,114,115,116,117,118,119,120,121,122,123,124,126,127,128,129,130,131,132,133,134,135,136,137,139,140,141,142,143,144,145,146,147,148,150,151,158,159,160,161,162,163,164,165,166,167,168,169,170,173,174,175,177,178,182,185,186,187,188,189,190,191,192,193,194,195,196,197,198,199,200,201,203,204,205,206,207,208,212,213,214,215,216,217,218,219,220,222,223,224,225,226,227,228,229,231,232,233,236,238,241,242,243,244,245,246,249,253,254,258,260,263,268,271,273,278,279,286,287,307,308,309,310,311,312,313,314]
def dOl:List (Nat×List Nat):=[(235,[0]),(102,[2]),(157,[999])]
noncomputable def dPl:gO:=mH prog dSp aR8 dVl dOl
end Go.Proofs.YtoaibmbldmckaaaGreat
end
section
namespace Go.Proofs.YtoaibmbldmckaaaGreat
open Go.RowKit Go.AM Tryz
def aN7:fA:=[
 (3,[]),
 (4,[(4,[(0,[]),(2,[]),(1,[2]),(3,[]),(4,[]),(5,[]),(6,[]),(7,[]),(8,[]),(9,[]),(10,[]),(11,[]),(12,[]),(13,[])])]),
 (5,[(10,[(0,[]),(1,[]),(2,[1]),(3,[])])]),
 (6,[(8,[(0,[]),(2,[]),(1,[2]),(3,[]),(4,[]),(5,[]),(6,[]),(7,[]),(8,[]),(9,[]),(10,[]),(11,[]),(12,[]),(13,[]),(14,[]),(15,[])])]),
 (7,[]),
 (8,[(7,[(1,[]),(2,[]),(3,[]),(4,[]),(6,[]),(7,[]),(8,[]),(9,[]),(10,[]),(0,[]),(5,[7]),(11,[]),(12,[])]),(15,[(0,[]),(1,[0]),(2,[0]),(3,[]),(4,[]),(5,[]),(6,[]),(7,[]),(8,[])])]),
 (9,[]),
 (10,[]),
 (11,[]),
 (12,[]),
 (13,[(2,[(0,[]),(2,[]),(1,[2]),(3,[]),(4,[]),(5,[]),(6,[]),(7,[]),(8,[]),(9,[]),(10,[]),(11,[]),(12,[]),(13,[]),(14,[])])]),
 (14,[]),
 (15,[(5,[(0,[]),(1,[]),(2,[0]),(3,[]),(4,[]),(5,[]),(6,[]),(7,[]),(8,[]),(9,[])]),(6,[(0,[]),(1,[]),(2,[0]),(3,[]),(4,[]),(5,[]),(6,[]),(7,[]),(8,[]),(9,[])])]),
 (16,[(3,[(0,[]),(2,[]),(1,[2]),(3,[]),(4,[]),(5,[])]),(4,[(0,[]),(1,[]),(2,[]),(3,[]),(4,[]),(5,[]),(6,[]),(7,[]),(8,[]),(9,[]),(10,[]),(12,[]),(13,[]),(11,[13,12]),(14,[]),(15,[]),(16,[]),(17,[]),(18,[]),(19,[]),(20,[])])]),
 (17,[(32,[(0,[]),(1,[]),(2,[]),(3,[]),(4,[]),(5,[]),(6,[]),(7,[]),(8,[]),(9,[]),(10,[]),(11,[]),(12,[]),(13,[]),(14,[]),(15,[]),(16,[]),(17,[]),(18,[]),(19,[]),(20,[]),(21,[]),(22,[]),(23,[]),(24,[]),(25,[]),(26,[]),(27,[]),(28,[25,23]),(29,[]),(30,[]),(31,[25,23]),(32,[]),(33,[]),(34,[25]),(35,[]),(36,[]),(37,[])])]),
 (18,[])]
theorem aKw:eS prog aN7=true:=by kernel_rfl
def aN8:fA:=[
 (19,[]),
 (20,[]),
 (21,[]),
 (22,[]),
 (23,[]),
 (24,[]),
 (25,[(6,[(0,[]),(1,[]),(2,[]),(3,[]),(4,[]),(5,[]),(6,[]),(7,[]),(8,[]),(9,[8]),(10,[]),(11,[]),(12,[]),(13,[]),(14,[]),(15,[]),(16,[]),(17,[]),(18,[]),(19,[]),(20,[]),(21,[]),(22,[]),(23,[]),(24,[])])]),
 (26,[]),
 (27,[]),
 (28,[]),
 (29,[(7,[(0,[]),(1,[]),(2,[]),(3,[]),(4,[]),(5,[]),(6,[]),(8,[]),(9,[]),(10,[]),(11,[]),(12,[]),(13,[]),(15,[]),(16,[]),(17,[]),(18,[]),(19,[]),(20,[]),(7,[20,16,13,9]),(14,[20,16]),(21,[]),(22,[])]),(12,[(0,[]),(1,[]),(2,[]),(3,[]),(4,[]),(5,[]),(6,[]),(8,[]),(9,[]),(10,[]),(11,[]),(12,[]),(13,[]),(15,[]),(16,[]),(17,[]),(18,[]),(19,[]),(20,[]),(7,[20,16,13,9]),(14,[20,16]),(21,[]),(22,[])]),(18,[(0,[]),(1,[]),(2,[]),(3,[]),(5,[]),(6,[]),(4,[6]),(7,[]),(8,[])]),(19,[(0,[]),(1,[]),(2,[]),(3,[]),(5,[]),(6,[]),(7,[]),(4,[7]),(8,[]),(9,[])]),(25,[(0,[]),(1,[]),(2,[]),(4,[]),(5,[]),(7,[]),(8,[]),(3,[8,5]),(6,[8]),(9,[]),(10,[])]),(30,[(0,[]),(1,[]),(2,[]),(3,[]),(4,[]),(5,[]),(6,[]),(8,[]),(9,[]),(10,[]),(11,[]),(12,[]),(13,[]),(15,[]),(16,[]),(17,[]),(18,[]),(19,[]),(20,[]),(7,[20,16,13,9]),(14,[20,16]),(21,[]),(22,[])])]),
 (30,[]),
 (31,[]),
 (32,[]),
 (33,[(3,[(0,[]),(1,[0]),(2,[]),(3,[])]),(5,[(0,[]),(1,[0]),(2,[]),(3,[])]),(10,[(0,[]),(1,[]),(2,[0]),(3,[]),(4,[])]),(12,[(0,[]),(1,[]),(2,[1]),(3,[])]),(17,[(0,[]),(1,[]),(2,[1]),(3,[])])]),
 (34,[(9,[(1,[]),(2,[]),(4,[]),(5,[]),(6,[]),(0,[]),(3,[5]),(7,[]),(8,[]),(9,[]),(10,[])]),(11,[(0,[]),(1,[]),(2,[]),(3,[]),(4,[]),(5,[2]),(6,[])]),(16,[(0,[]),(1,[]),(2,[1]),(3,[])]),(21,[(0,[]),(1,[]),(2,[1]),(3,[])])])]
theorem aKx:eS prog aN8=true:=by kernel_rfl
def aN9:fA:=[
 (35,[]),
 (36,[]),
 (37,[]),
 (38,[]),
 (39,[]),
 (40,[]),
 (41,[(10,[(0,[]),(1,[]),(3,[]),(2,[3]),(4,[]),(5,[]),(6,[]),(7,[]),(8,[]),(10,[]),(9,[10]),(11,[]),(12,[]),(13,[])]),(19,[(1,[]),(2,[]),(3,[]),(5,[]),(6,[]),(7,[]),(8,[]),(9,[]),(12,[]),(13,[]),(14,[]),(0,[]),(4,[8,6]),(10,[]),(11,[]),(15,[]),(16,[])])]),
 (42,[]),
 (43,[]),
 (44,[(3,[(0,[]),(1,[0]),(2,[0]),(3,[]),(4,[]),(5,[]),(6,[]),(7,[]),(8,[])]),(4,[(0,[]),(1,[0]),(2,[0]),(3,[]),(4,[]),(5,[]),(6,[]),(7,[]),(8,[])])]),
 (45,[]),
 (46,[]),
 (47,[]),
 (48,[]),
 (50,[]),
 (51,[])]
theorem aKy:eS prog aN9=true:=by kernel_rfl
def aNa:fA:=[
 (52,[]),
 (53,[]),
 (54,[(7,[(0,[]),(1,[]),(3,[]),(4,[]),(6,[]),(2,[4]),(5,[]),(7,[]),(8,[]),(9,[]),(10,[])])]),
 (55,[]),
 (56,[]),
 (57,[]),
 (58,[]),
 (59,[]),
 (60,[]),
 (61,[]),
 (62,[]),
 (63,[]),
 (64,[]),
 (65,[]),
 (66,[]),
 (67,[])]
theorem aKz:eS prog aNa=true:=by kernel_rfl
def aNb:fA:=[
 (68,[]),
 (69,[]),
 (70,[]),
 (71,[]),
 (72,[]),
 (73,[]),
 (74,[]),
 (75,[]),
 (76,[]),
 (77,[]),
 (78,[]),
 (79,[]),
 (80,[]),
 (81,[]),
 (82,[]),
 (83,[])]
theorem aL0:eS prog aNb=true:=by kernel_rfl
def aNc:fA:=[
 (84,[]),
 (85,[]),
 (86,[]),
 (87,[]),
 (88,[]),
 (89,[]),
 (90,[]),
 (91,[]),
 (92,[]),
 (93,[]),
 (94,[]),
 (95,[]),
 (96,[]),
 (97,[]),
 (98,[(1,[(0,[]),(1,[]),(2,[]),(4,[]),(5,[]),(7,[]),(8,[]),(3,[8,5]),(6,[8]),(9,[]),(10,[])])]),
 (99,[])]
theorem aL1:eS prog aNc=true:=by kernel_rfl
def aNd:fA:=[
 (100,[]),
 (101,[(1,[(0,[]),(1,[]),(2,[]),(4,[]),(5,[]),(7,[]),(8,[]),(3,[8,5]),(6,[8]),(9,[]),(10,[])])]),
 (102,[(9,[(0,[]),(1,[]),(2,[]),(3,[]),(4,[]),(5,[]),(6,[]),(7,[]),(8,[]),(9,[]),(10,[1]),(11,[]),(12,[]),(13,[]),(14,[])])]),
 (103,[]),
 (104,[(2,[(0,[]),(1,[0]),(2,[]),(3,[])]),(5,[(0,[]),(1,[]),(2,[0]),(3,[]),(4,[])]),(9,[(0,[]),(1,[]),(2,[1]),(3,[])])]),
 (105,[]),
 (106,[]),
 (107,[(8,[(0,[]),(1,[]),(2,[]),(3,[]),(4,[]),(5,[]),(6,[]),(7,[]),(8,[5]),(9,[]),(10,[]),(11,[])])]),
 (108,[(5,[(0,[]),(1,[]),(2,[]),(3,[]),(4,[]),(5,[3]),(6,[]),(7,[])]),(12,[(0,[]),(1,[]),(2,[]),(3,[]),(4,[]),(5,[3]),(6,[]),(7,[])]),(15,[(0,[]),(1,[]),(2,[]),(3,[]),(4,[]),(5,[]),(6,[]),(7,[5,3]),(8,[]),(9,[5]),(10,[]),(11,[])])]),
 (109,[]),
 (110,[(33,[(1,[]),(2,[]),(3,[]),(4,[]),(6,[]),(7,[]),(8,[]),(9,[]),(10,[]),(0,[]),(5,[7]),(11,[]),(12,[]),(13,[])]),(44,[(0,[]),(1,[]),(2,[1]),(3,[])])]),
 (111,[(4,[(0,[]),(1,[]),(2,[]),(3,[]),(4,[]),(5,[]),(6,[]),(7,[]),(8,[5]),(9,[]),(10,[]),(11,[])])]),
 (112,[]),
 (113,[]),
 (114,[]),
 (115,[])]
theorem aL2:eS prog aNd=true:=by kernel_rfl
def aNe:fA:=[
 (116,[]),
 (117,[]),
 (118,[(1,[(0,[]),(1,[]),(2,[]),(3,[]),(4,[]),(5,[]),(6,[]),(7,[]),(8,[]),(9,[]),(10,[]),(11,[]),(12,[]),(13,[]),(14,[]),(15,[]),(16,[]),(17,[]),(18,[]),(19,[]),(20,[15]),(21,[]),(22,[]),(23,[])])]),
 (119,[]),
 (120,[(19,[(0,[]),(1,[]),(2,[]),(3,[]),(4,[]),(5,[]),(6,[]),(7,[]),(8,[]),(9,[]),(10,[]),(11,[]),(12,[]),(13,[]),(15,[]),(16,[]),(17,[]),(18,[]),(19,[]),(14,[19]),(20,[]),(21,[]),(22,[]),(23,[]),(24,[]),(25,[]),(26,[]),(27,[]),(28,[]),(29,[]),(30,[]),(31,[]),(32,[]),(33,[]),(34,[]),(35,[]),(36,[]),(37,[]),(38,[]),(39,[]),(40,[]),(41,[]),(42,[]),(43,[]),(44,[]),(45,[]),(46,[]),(47,[]),(48,[])])]),
 (121,[]),
 (122,[(11,[(1,[]),(2,[]),(3,[]),(5,[]),(6,[]),(7,[]),(8,[]),(9,[]),(10,[]),(13,[]),(14,[]),(15,[]),(0,[]),(4,[9]),(11,[]),(12,[]),(16,[]),(17,[])])]),
 (123,[(1,[(0,[]),(1,[]),(2,[]),(3,[]),(4,[]),(5,[]),(6,[]),(7,[]),(8,[]),(9,[]),(10,[]),(11,[]),(12,[]),(13,[]),(14,[]),(15,[]),(16,[]),(17,[]),(18,[]),(19,[]),(20,[]),(21,[]),(22,[]),(23,[]),(24,[]),(25,[]),(26,[]),(27,[]),(28,[]),(29,[]),(30,[25]),(31,[]),(32,[]),(33,[])])]),
 (124,[(1,[(0,[]),(1,[]),(2,[]),(3,[]),(4,[]),(5,[]),(6,[]),(7,[]),(9,[]),(8,[9]),(10,[]),(11,[]),(12,[]),(13,[])])]),
 (125,[]),
 (126,[]),
 (127,[]),
 (128,[]),
 (129,[]),
 (130,[]),
 (131,[])]
theorem aL3:eS prog aNe=true:=by kernel_rfl
def aNf:fA:=[
 (132,[]),
 (133,[]),
 (134,[]),
 (135,[]),
 (136,[]),
 (137,[]),
 (138,[]),
 (139,[]),
 (140,[]),
 (141,[]),
 (142,[(5,[(0,[]),(1,[]),(2,[]),(3,[]),(4,[]),(5,[3]),(6,[]),(7,[])]),(14,[(0,[]),(1,[]),(2,[]),(3,[]),(4,[]),(5,[]),(6,[]),(7,[]),(8,[]),(10,[]),(9,[5,2]),(11,[5]),(12,[]),(13,[]),(14,[]),(15,[])]),(17,[(0,[]),(1,[]),(2,[]),(3,[]),(4,[]),(5,[]),(6,[]),(7,[5,3]),(8,[]),(9,[5]),(10,[]),(11,[])]),(24,[(0,[]),(1,[]),(2,[]),(3,[]),(4,[2]),(5,[])])]),
 (143,[(5,[(0,[]),(1,[]),(2,[]),(3,[]),(4,[]),(5,[4]),(6,[])])]),
 (144,[]),
 (145,[]),
 (146,[]),
 (147,[])]
theorem aL4:eS prog aNf=true:=by kernel_rfl
def aNg:fA:=[
 (148,[]),
 (149,[]),
 (150,[]),
 (151,[]),
 (152,[]),
 (153,[]),
 (154,[(10,[(0,[]),(1,[]),(2,[]),(3,[]),(4,[]),(7,[]),(8,[]),(9,[]),(10,[]),(11,[]),(5,[]),(6,[11]),(12,[]),(13,[]),(14,[]),(15,[])])]),
 (155,[]),
 (156,[]),
 (157,[]),
 (158,[]),
 (159,[]),
 (160,[]),
 (161,[(5,[(0,[]),(1,[]),(2,[]),(3,[]),(4,[]),(5,[]),(8,[]),(9,[]),(10,[]),(11,[]),(12,[]),(13,[]),(6,[]),(7,[13]),(14,[]),(15,[]),(16,[]),(17,[])])]),
 (162,[]),
 (163,[])]
theorem aL5:eS prog aNg=true:=by kernel_rfl
def aI1:fA:=[
 (164,[]),
 (165,[]),
 (166,[]),
 (167,[]),
 (168,[]),
 (169,[]),
 (170,[]),
 (171,[]),
 (172,[]),
 (173,[]),
 (174,[]),
 (175,[]),
 (176,[]),
 (177,[]),
 (178,[(17,[(0,[]),(2,[]),(3,[]),(1,[3]),(4,[]),(5,[]),(6,[]),(7,[])])]),
 (179,[])]
theorem aGs:eS prog aI1=true:=by kernel_rfl
def aI2:fA:=[
 (180,[]),
 (181,[]),
 (182,[]),
 (183,[]),
 (184,[]),
 (185,[]),
 (186,[(14,[(1,[]),(2,[]),(3,[]),(5,[]),(6,[]),(7,[]),(10,[]),(11,[]),(12,[]),(0,[]),(4,[]),(8,[]),(9,[]),(13,[]),(14,[]),(15,[])])]),
 (187,[]),
 (188,[]),
 (189,[(13,[(1,[]),(2,[]),(3,[]),(5,[]),(8,[]),(9,[]),(10,[]),(0,[]),(4,[5]),(6,[]),(7,[]),(11,[]),(12,[]),(13,[])])]),
 (190,[(30,[(1,[]),(2,[]),(3,[]),(4,[]),(6,[]),(7,[]),(8,[]),(9,[]),(12,[]),(13,[]),(14,[]),(15,[]),(0,[]),(5,[13,7]),(10,[]),(11,[13]),(16,[]),(17,[]),(18,[])]),(31,[(0,[]),(1,[]),(2,[]),(3,[]),(4,[]),(5,[]),(6,[]),(7,[]),(8,[]),(9,[]),(10,[1]),(11,[]),(12,[]),(13,[]),(14,[]),(15,[]),(16,[]),(17,[])])]),
 (191,[(13,[(1,[]),(2,[]),(4,[]),(5,[]),(6,[]),(7,[]),(8,[]),(9,[]),(10,[]),(11,[]),(12,[]),(13,[]),(0,[]),(3,[12,10,9,5]),(14,[]),(15,[]),(16,[]),(17,[])]),(14,[(0,[]),(1,[]),(2,[]),(3,[]),(4,[]),(5,[3]),(6,[])])]),
 (192,[(12,[(0,[]),(1,[]),(2,[]),(3,[]),(4,[]),(5,[]),(6,[]),(8,[]),(9,[]),(7,[9]),(10,[]),(11,[]),(12,[])]),(22,[(0,[]),(1,[]),(2,[1]),(3,[])])]),
 (193,[]),
 (194,[(3,[(0,[]),(1,[]),(3,[]),(4,[]),(2,[4]),(5,[]),(6,[]),(7,[])])]),
 (195,[])]
theorem aGt:eS prog aI2=true:=by kernel_rfl
def aI3:fA:=[
 (196,[]),
 (197,[]),
 (198,[]),
 (199,[]),
 (200,[]),
 (201,[]),
 (203,[]),
 (204,[]),
 (205,[]),
 (206,[]),
 (207,[(4,[(0,[]),(1,[]),(3,[]),(4,[]),(6,[]),(2,[4]),(5,[]),(7,[]),(8,[]),(9,[]),(10,[])])]),
 (208,[(9,[(0,[]),(1,[]),(2,[]),(3,[]),(4,[]),(5,[]),(6,[3,1]),(7,[]),(8,[]),(9,[]),(10,[])])]),
 (209,[]),
 (210,[]),
 (211,[]),
 (212,[])]
theorem aGu:eS prog aI3=true:=by kernel_rfl
def aI4:fA:=[
 (213,[]),
 (214,[]),
 (215,[(6,[(0,[]),(1,[]),(2,[]),(3,[]),(4,[]),(5,[4]),(6,[])])]),
 (216,[]),
 (217,[]),
 (218,[]),
 (219,[]),
 (220,[]),
 (222,[]),
 (223,[(7,[(0,[]),(1,[]),(2,[]),(3,[]),(4,[1]),(5,[]),(6,[]),(7,[])])]),
 (224,[]),
 (225,[]),
 (226,[(5,[(0,[]),(1,[]),(2,[]),(5,[]),(6,[]),(7,[]),(3,[]),(4,[7]),(8,[]),(9,[]),(10,[]),(11,[])])]),
 (227,[]),
 (228,[]),
 (229,[])]
theorem aGv:eS prog aI4=true:=by kernel_rfl
def aI5:fA:=[
 (231,[]),
 (232,[]),
 (233,[]),
 (235,[]),
 (236,[]),
 (238,[]),
 (239,[]),
 (241,[]),
 (242,[(7,[(0,[]),(1,[]),(2,[]),(3,[]),(4,[]),(5,[]),(6,[]),(7,[]),(8,[]),(9,[]),(10,[]),(11,[]),(12,[]),(14,[]),(13,[14]),(15,[]),(16,[]),(17,[])])]),
 (243,[]),
 (244,[]),
 (245,[]),
 (246,[]),
 (249,[(7,[(0,[]),(1,[]),(2,[]),(4,[]),(5,[]),(3,[5]),(6,[]),(7,[])]),(16,[(0,[]),(1,[]),(2,[]),(3,[]),(5,[]),(6,[]),(7,[]),(9,[]),(10,[]),(11,[]),(4,[11,7]),(8,[11]),(12,[]),(13,[])]),(20,[(0,[]),(1,[]),(2,[]),(4,[]),(5,[]),(7,[]),(8,[]),(9,[]),(3,[9,8,5]),(6,[9,8]),(10,[]),(11,[])]),(27,[(0,[]),(1,[]),(2,[]),(4,[]),(5,[]),(7,[]),(8,[]),(10,[]),(11,[]),(3,[11,8,5]),(6,[11,8]),(9,[11]),(12,[]),(13,[])]),(31,[(0,[]),(1,[]),(2,[]),(4,[]),(5,[]),(7,[]),(8,[]),(9,[]),(11,[]),(12,[]),(13,[]),(3,[13,9,5]),(6,[13,9]),(10,[13]),(14,[]),(15,[])])]),
 (250,[]),
 (251,[])]
theorem aGw:eS prog aI5=true:=by kernel_rfl
def aI6:fA:=[
 (252,[]),
 (253,[]),
 (254,[]),
 (258,[]),
 (259,[]),
 (260,[]),
 (263,[]),
 (268,[]),
 (269,[]),
 (270,[]),
 (271,[]),
 (273,[]),
 (278,[]),
 (279,[]),
 (286,[]),
 (287,[])]
theorem aGx:eS prog aI6=true:=by kernel_rfl
def aI7:fA:=[
 (307,[]),
 (308,[]),
 (309,[]),
 (310,[]),
 (311,[]),
 (312,[]),
 (313,[]),
 (314,[])]
theorem aGy:eS prog aI7=true:=by kernel_rfl
end Go.Proofs.YtoaibmbldmckaaaGreat
end
section
namespace Go.Proofs.YtoaibmbldmckaaaGreat
open Go.AM Tryz
section
noncomputable abbrev C:aX:=W prog dPl
abbrev Fv (f:Nat) (args:List V) (v:V):Prop:=Go.AM.Fn prog dPl f args v
abbrev Fr (f:Nat) (mk:Nat→List V) (n:Nat) (pre:List V) (v:V) (post:List V):Prop:=Go.AM.FnR prog dPl f mk 0 n [pre] v [post]
theorem A2 {p q:Prop} (a:p) (b:q):p∧q:=⟨a,b⟩
abbrev TP:=List (Nat×List bH)
abbrev TL:=List (Nat×List Nat)
abbrev VA (f:Nat) (fn:Func) (tp:TP) (tl:TL):Prop:=∀ {args:List V} {v:V},cloVs args=true→(zA prog C fn tp tl args ⟨0,.nil⟩ fun v0 S0=>iR S0 v0=.ok v)→Fv f args v
abbrev VB (f:Nat) (fn:Func) (tp:TP) (tl:TL):Prop:=∀ {args:List V} {S:St} {K:KW},zA prog C fn tp tl args S K→C f args S K
abbrev VT (f:Nat) (fn:Func) (tp:TP) (tl:TL):Prop:=∀ (args:List V) (S:St) (K:KW),gQ prog C (jV tp) (mQ tl) f args S K=zA prog C fn tp tl args S K
abbrev VK (f:Nat) (fn:Func) (tp:TP) (tl:TL):Prop:=∀ {bs:List V} {v:V},(zA prog C fn tp tl bs ⟨0,.nil⟩ fun v0 S0=>aAu S0 v0=true∧iR S0 v0=.ok v)→FnK prog dPl f bs v
section
variable {f:Nat} {fn:Func} {tp:TP} {tl:TL}
theorem va (hp:dPl f=some (.val (jV tp))) (hb:uX prog f=some (aBj fn)):VA f fn tp tl:=fun hc h=>aXu hp hb hc h
theorem vb (hp:dPl f=some (.code (jV tp))) (hb:uX prog f=some (aBj fn)):VB f fn tp tl:=fun h=>aWh hp hb h
theorem vt (hb:uX prog f=some (aBj fn)):VT f fn tp tl:=fun args S K=>by unfold gQ;rw [hb];rfl
theorem vk (hp:dPl f=some (.own (jV tp) [kpN])) (hb:uX prog f=some (aBj fn)):VK f fn tp tl:=fun h=>FnK.of (p:=jV tp) (lv:=mQ tl) hp (by rw [vt (tp:=tp) (tl:=tl) hb];exact h)
end
theorem v4:VA 4 Tryz.f4 [(4,[(0,[]),(2,[]),(1,[2]),(3,[]),(4,[]),(5,[]),(6,[]),(7,[]),(8,[]),(9,[]),(10,[]),(11,[]),(12,[]),(13,[])])] []:=va (by kernel_rfl) (by kernel_rfl)
theorem v22:VA 22 Tryz.f22 [] []:=va (by kernel_rfl) (by kernel_rfl)
theorem v24:VA 24 Tryz.f24 [] []:=va (by kernel_rfl) (by kernel_rfl)
theorem v26:VA 26 Tryz.f26 [] [(7,[4])]:=va (by kernel_rfl) (by kernel_rfl)
theorem v27:VA 27 Tryz.f27 [] [(4,[4,5])]:=va (by kernel_rfl) (by kernel_rfl)
theorem v28:VA 28 Tryz.f28 [] [(28,[97]),(22,[80]),(14,[53]),(6,[26])]:=va (by kernel_rfl) (by kernel_rfl)
theorem v29:VA 29 Tryz.f29 [(7,[(0,[]),(1,[]),(2,[]),(3,[]),(4,[]),(5,[]),(6,[]),(8,[]),(9,[]),(10,[]),(11,[]),(12,[]),(13,[]),(15,[]),(16,[]),(17,[]),(18,[]),(19,[]),(20,[]),(7,[20,16,13,9]),(14,[20,16]),(21,[]),(22,[])]),(12,[(0,[]),(1,[]),(2,[]),(3,[]),(4,[]),(5,[]),(6,[]),(8,[]),(9,[]),(10,[]),(11,[]),(12,[]),(13,[]),(15,[]),(16,[]),(17,[]),(18,[]),(19,[]),(20,[]),(7,[20,16,13,9]),(14,[20,16]),(21,[]),(22,[])]),(18,[(0,[]),(1,[]),(2,[]),(3,[]),(5,[]),(6,[]),(4,[6]),(7,[]),(8,[])]),(19,[(0,[]),(1,[]),(2,[]),(3,[]),(5,[]),(6,[]),(7,[]),(4,[7]),(8,[]),(9,[])]),(25,[(0,[]),(1,[]),(2,[]),(4,[]),(5,[]),(7,[]),(8,[]),(3,[8,5]),(6,[8]),(9,[]),(10,[])]),(30,[(0,[]),(1,[]),(2,[]),(3,[]),(4,[]),(5,[]),(6,[]),(8,[]),(9,[]),(10,[]),(11,[]),(12,[]),(13,[]),(15,[]),(16,[]),(17,[]),(18,[]),(19,[]),(20,[]),(7,[20,16,13,9]),(14,[20,16]),(21,[]),(22,[])])] [(28,[3,10]),(22,[3,8]),(15,[3,6]),(10,[3,5]),(5,[3,4])]:=va (by kernel_rfl) (by kernel_rfl)
theorem v80:VA 80 Tryz.f80 [] [(4,[4,5])]:=va (by kernel_rfl) (by kernel_rfl)
theorem v81:VA 81 Tryz.f81 [] [(4,[4,5])]:=va (by kernel_rfl) (by kernel_rfl)
theorem v82:VA 82 Tryz.f82 [] [(4,[4,5])]:=va (by kernel_rfl) (by kernel_rfl)
theorem v83:VA 83 Tryz.f83 [] [(4,[4,5])]:=va (by kernel_rfl) (by kernel_rfl)
theorem v84:VA 84 Tryz.f84 [] [(4,[4,5])]:=va (by kernel_rfl) (by kernel_rfl)
theorem v85:VA 85 Tryz.f85 [] [(4,[2,10])]:=va (by kernel_rfl) (by kernel_rfl)
theorem v86:VA 86 Tryz.f86 [] [(4,[2,10])]:=va (by kernel_rfl) (by kernel_rfl)
theorem v87:VA 87 Tryz.f87 [] []:=va (by kernel_rfl) (by kernel_rfl)
theorem v88:VA 88 Tryz.f88 [] [(16,[2,58]),(5,[2,14])]:=va (by kernel_rfl) (by kernel_rfl)
theorem v89:VA 89 Tryz.f89 [] [(13,[2,38]),(3,[2,12])]:=va (by kernel_rfl) (by kernel_rfl)
theorem v90:VA 90 Tryz.f90 [] [(3,[2,3,4,11])]:=va (by kernel_rfl) (by kernel_rfl)
theorem v91:VA 91 Tryz.f91 [] [(4,[4,13])]:=va (by kernel_rfl) (by kernel_rfl)
theorem v92:VB 92 Tryz.f92 [] [(1,[8])]:=vb (by kernel_rfl) (by kernel_rfl)
theorem v93:VB 93 Tryz.f93 [] []:=vb (by kernel_rfl) (by kernel_rfl)
theorem v94:VB 94 Tryz.f94 [] []:=vb (by kernel_rfl) (by kernel_rfl)
theorem v95:VB 95 Tryz.f95 [] []:=vb (by kernel_rfl) (by kernel_rfl)
theorem v96:VB 96 Tryz.f96 [] [(6,[34])]:=vb (by kernel_rfl) (by kernel_rfl)
theorem v97:VB 97 Tryz.f97 [] [(3,[5,6])]:=vb (by kernel_rfl) (by kernel_rfl)
theorem v98:VB 98 Tryz.f98 [(1,[(0,[]),(1,[]),(2,[]),(4,[]),(5,[]),(7,[]),(8,[]),(3,[8,5]),(6,[8]),(9,[]),(10,[])])] []:=vb (by kernel_rfl) (by kernel_rfl)
theorem v99:VB 99 Tryz.f99 [] []:=vb (by kernel_rfl) (by kernel_rfl)
theorem bDa:VB 100 Tryz.f100 [] []:=vb (by kernel_rfl) (by kernel_rfl)
theorem bDb:VB 101 Tryz.f101 [(1,[(0,[]),(1,[]),(2,[]),(4,[]),(5,[]),(7,[]),(8,[]),(3,[8,5]),(6,[8]),(9,[]),(10,[])])] []:=vb (by kernel_rfl) (by kernel_rfl)
theorem bDc:VA 114 Tryz.f114 [] [(4,[2,3])]:=va (by kernel_rfl) (by kernel_rfl)
theorem bDd:VA 115 Tryz.f115 [] [(4,[2,3])]:=va (by kernel_rfl) (by kernel_rfl)
theorem bDe:VA 116 Tryz.f116 [] [(4,[2,3])]:=va (by kernel_rfl) (by kernel_rfl)
theorem bDf:VA 117 Tryz.f117 [] [(2,[4,5])]:=va (by kernel_rfl) (by kernel_rfl)
theorem bDg:VA 118 Tryz.f118 [(1,[(0,[]),(1,[]),(2,[]),(3,[]),(4,[]),(5,[]),(6,[]),(7,[]),(8,[]),(9,[]),(10,[]),(11,[]),(12,[]),(13,[]),(14,[]),(15,[]),(16,[]),(17,[]),(18,[]),(19,[]),(20,[15]),(21,[]),(22,[]),(23,[])])] []:=va (by kernel_rfl) (by kernel_rfl)
theorem bDh:VA 120 Tryz.f120 [(19,[(0,[]),(1,[]),(2,[]),(3,[]),(4,[]),(5,[]),(6,[]),(7,[]),(8,[]),(9,[]),(10,[]),(11,[]),(12,[]),(13,[]),(15,[]),(16,[]),(17,[]),(18,[]),(19,[]),(14,[19]),(20,[]),(21,[]),(22,[]),(23,[]),(24,[]),(25,[]),(26,[]),(27,[]),(28,[]),(29,[]),(30,[]),(31,[]),(32,[]),(33,[]),(34,[]),(35,[]),(36,[]),(37,[]),(38,[]),(39,[]),(40,[]),(41,[]),(42,[]),(43,[]),(44,[]),(45,[]),(46,[]),(47,[]),(48,[])])] [(22,[4,11]),(15,[4,8]),(4,[6,7])]:=va (by kernel_rfl) (by kernel_rfl)
theorem bDi:VA 121 Tryz.f121 [] [(3,[2,3,4,5])]:=va (by kernel_rfl) (by kernel_rfl)
theorem bDj:VA 123 Tryz.f123 [(1,[(0,[]),(1,[]),(2,[]),(3,[]),(4,[]),(5,[]),(6,[]),(7,[]),(8,[]),(9,[]),(10,[]),(11,[]),(12,[]),(13,[]),(14,[]),(15,[]),(16,[]),(17,[]),(18,[]),(19,[]),(20,[]),(21,[]),(22,[]),(23,[]),(24,[]),(25,[]),(26,[]),(27,[]),(28,[]),(29,[]),(30,[25]),(31,[]),(32,[]),(33,[])])] []:=va (by kernel_rfl) (by kernel_rfl)
theorem bDk:VA 124 Tryz.f124 [(1,[(0,[]),(1,[]),(2,[]),(3,[]),(4,[]),(5,[]),(6,[]),(7,[]),(9,[]),(8,[9]),(10,[]),(11,[]),(12,[]),(13,[])])] []:=va (by kernel_rfl) (by kernel_rfl)
theorem bDl:VA 126 Tryz.f126 [] [(6,[4,5])]:=va (by kernel_rfl) (by kernel_rfl)
theorem bDm:VA 127 Tryz.f127 [] []:=va (by kernel_rfl) (by kernel_rfl)
theorem bDn:VA 131 Tryz.f131 [] []:=va (by kernel_rfl) (by kernel_rfl)
theorem bDo:VA 132 Tryz.f132 [] []:=va (by kernel_rfl) (by kernel_rfl)
theorem bDp:VB 138 Tryz.f138 [] [(5,[5,6])]:=vb (by kernel_rfl) (by kernel_rfl)
theorem bDq:VB 152 Tryz.f152 [] [(2,[4,8])]:=vb (by kernel_rfl) (by kernel_rfl)
theorem bDr:VB 155 Tryz.f155 [] [(2,[4,8])]:=vb (by kernel_rfl) (by kernel_rfl)
theorem bDs:VK 157 Tryz.f157 [] [(3,[2,3,4,18])]:=vk (by kernel_rfl) (by kernel_rfl)
theorem bDt:VA 160 Tryz.f160 [] []:=va (by kernel_rfl) (by kernel_rfl)
theorem bDu:VA 161 Tryz.f161 [(5,[(0,[]),(1,[]),(2,[]),(3,[]),(4,[]),(5,[]),(8,[]),(9,[]),(10,[]),(11,[]),(12,[]),(13,[]),(6,[]),(7,[13]),(14,[]),(15,[]),(16,[]),(17,[])])] [(3,[5,6,7])]:=va (by kernel_rfl) (by kernel_rfl)
theorem bDv:VA 162 Tryz.f162 [] []:=va (by kernel_rfl) (by kernel_rfl)
theorem bDw:VA 163 Tryz.f163 [] []:=va (by kernel_rfl) (by kernel_rfl)
theorem bDx:VA 164 Tryz.f164 [] []:=va (by kernel_rfl) (by kernel_rfl)
theorem bDy:VA 165 Tryz.f165 [] [(4,[2])]:=va (by kernel_rfl) (by kernel_rfl)
theorem bDz:VA 166 Tryz.f166 [] [(5,[2,3,11])]:=va (by kernel_rfl) (by kernel_rfl)
theorem bE0:VA 167 Tryz.f167 [] [(4,[2,20])]:=va (by kernel_rfl) (by kernel_rfl)
theorem bE1:VA 168 Tryz.f168 [] []:=va (by kernel_rfl) (by kernel_rfl)
theorem bE2:VA 169 Tryz.f169 [] []:=va (by kernel_rfl) (by kernel_rfl)
theorem aXv:dPl 170=some (.val (jV [])):=by kernel_rfl
theorem bE3:VT 170 Tryz.f170 [] []:=vt (by kernel_rfl)
theorem bE4:VB 171 Tryz.f171 [] []:=vb (by kernel_rfl) (by kernel_rfl)
theorem bE5:VB 172 Tryz.f172 [] []:=vb (by kernel_rfl) (by kernel_rfl)
theorem bE6:VA 193 Tryz.f193 [] []:=va (by kernel_rfl) (by kernel_rfl)
theorem bE7:VA 194 Tryz.f194 [(3,[(0,[]),(1,[]),(3,[]),(4,[]),(2,[4]),(5,[]),(6,[]),(7,[])])] []:=va (by kernel_rfl) (by kernel_rfl)
theorem bE8:VA 195 Tryz.f195 [] [(4,[2])]:=va (by kernel_rfl) (by kernel_rfl)
theorem bE9:VA 196 Tryz.f196 [] []:=va (by kernel_rfl) (by kernel_rfl)
theorem bEa:VA 197 Tryz.f197 [] [(8,[3,11])]:=va (by kernel_rfl) (by kernel_rfl)
theorem bEb:VA 198 Tryz.f198 [] []:=va (by kernel_rfl) (by kernel_rfl)
theorem bEc:VA 199 Tryz.f199 [] [(2,[2,3])]:=va (by kernel_rfl) (by kernel_rfl)
theorem bEd:VA 200 Tryz.f200 [] [(5,[3,4])]:=va (by kernel_rfl) (by kernel_rfl)
theorem bEe:VA 203 Tryz.f203 [] []:=va (by kernel_rfl) (by kernel_rfl)
theorem bEf:VA 204 Tryz.f204 [] []:=va (by kernel_rfl) (by kernel_rfl)
theorem bEg:VB 211 Tryz.f211 [] []:=vb (by kernel_rfl) (by kernel_rfl)
theorem bEh:VA 217 Tryz.f217 [] []:=va (by kernel_rfl) (by kernel_rfl)
theorem bEi:VA 218 Tryz.f218 [] [(3,[4,5,12])]:=va (by kernel_rfl) (by kernel_rfl)
theorem aXw:dPl 218=some (.val (jV [])):=by kernel_rfl
theorem bEj:VA 219 Tryz.f219 [] []:=va (by kernel_rfl) (by kernel_rfl)
theorem bEk:VA 220 Tryz.f220 [] [(2,[2,3])]:=va (by kernel_rfl) (by kernel_rfl)
theorem bEl:VA 222 Tryz.f222 [] []:=va (by kernel_rfl) (by kernel_rfl)
theorem bEm:VA 223 Tryz.f223 [(7,[(0,[]),(1,[]),(2,[]),(3,[]),(4,[1]),(5,[]),(6,[]),(7,[])])] [(3,[5])]:=va (by kernel_rfl) (by kernel_rfl)
theorem aXx:dPl 223=some (.val (jV [(7,[(0,[]),(1,[]),(2,[]),(3,[]),(4,[1]),(5,[]),(6,[]),(7,[])])])):=by kernel_rfl
theorem bEn:VA 224 Tryz.f224 [] [(4,[4,5])]:=va (by kernel_rfl) (by kernel_rfl)
theorem bEo:VA 225 Tryz.f225 [] []:=va (by kernel_rfl) (by kernel_rfl)
theorem bEp:VA 226 Tryz.f226 [(5,[(0,[]),(1,[]),(2,[]),(5,[]),(6,[]),(7,[]),(3,[]),(4,[7]),(8,[]),(9,[]),(10,[]),(11,[])])] [(3,[3,4,16])]:=va (by kernel_rfl) (by kernel_rfl)
theorem aXy:dPl 227=some (.val (jV [])):=by kernel_rfl
theorem bEq:VT 227 Tryz.f227 [] []:=vt (by kernel_rfl)
theorem bEr:VA 228 Tryz.f228 [] [(6,[3,23])]:=va (by kernel_rfl) (by kernel_rfl)
theorem bEs:VA 229 Tryz.f229 [] []:=va (by kernel_rfl) (by kernel_rfl)
theorem bEt:VA 245 Tryz.f245 [] []:=va (by kernel_rfl) (by kernel_rfl)
theorem bEu:VA 246 Tryz.f246 [] []:=va (by kernel_rfl) (by kernel_rfl)
theorem bEv:VA 254 Tryz.f254 [] []:=va (by kernel_rfl) (by kernel_rfl)
theorem bEw:VA 258 Tryz.f258 [] []:=va (by kernel_rfl) (by kernel_rfl)
theorem aXz:VB 259 Tryz.f259 [] [(2,[2,9])]:=vb (by kernel_rfl) (by kernel_rfl)
theorem bEx:VA 260 Tryz.f260 [] [(4,[4,13])]:=va (by kernel_rfl) (by kernel_rfl)
theorem tx0:∀ g:Nat,2≤g→g<247→dK prog g=some none:=by
 have h:((List.range 245).all fun g=>match dK prog (g+2) with
  | some none=>true
  | _=>false)=true:=by kernel_rfl
 intro g h0 h1
 have:=List.all_eq_true.1 h (g - 2) (List.mem_range.2 (by omega))
 rw [Nat.sub_add_cancel h0] at this
 split at this
 ·assumption
 ·cases this
theorem aSp {g:Nat} (h0:1<g) (h1:g<247) (args:List V) (S:St) (K:KW):gW prog C g args S K=C g (hl args) S K:=aBl _ _ (tx0 g h0 h1) _ _ _
theorem tx1:∀ g:Nat,248≤g→g<255→dK prog g=some none:=by
 have h:((List.range 7).all fun g=>match dK prog (g+248) with
  | some none=>true
  | _=>false)=true:=by kernel_rfl
 intro g h0 h1
 have:=List.all_eq_true.1 h (g - 248) (List.mem_range.2 (by omega))
 rw [Nat.sub_add_cancel h0] at this
 split at this
 ·assumption
 ·cases this
theorem aSq {g:Nat} (h0:247<g) (h1:g<255) (args:List V) (S:St) (K:KW):gW prog C g args S K=C g (hl args) S K:=aBl _ _ (tx1 g h0 h1) _ _ _
theorem tx2:∀ g:Nat,257≤g→g<261→dK prog g=some none:=by
 have h:((List.range 4).all fun g=>match dK prog (g+257) with
  | some none=>true
  | _=>false)=true:=by kernel_rfl
 intro g h0 h1
 have:=List.all_eq_true.1 h (g - 257) (List.mem_range.2 (by omega))
 rw [Nat.sub_add_cancel h0] at this
 split at this
 ·assumption
 ·cases this
theorem aSr {g:Nat} (h0:256<g) (h1:g<261) (args:List V) (S:St) (K:KW):gW prog C g args S K=C g (hl args) S K:=aBl _ _ (tx2 g h0 h1) _ _ _
theorem tx3:∀ g:Nat,267≤g→g<288→dK prog g=some none:=by
 have h:((List.range 21).all fun g=>match dK prog (g+267) with
  | some none=>true
  | _=>false)=true:=by kernel_rfl
 intro g h0 h1
 have:=List.all_eq_true.1 h (g - 267) (List.mem_range.2 (by omega))
 rw [Nat.sub_add_cancel h0] at this
 split at this
 ·assumption
 ·cases this
theorem aSs {g:Nat} (h0:266<g) (h1:g<288) (args:List V) (S:St) (K:KW):gW prog C g args S K=C g (hl args) S K:=aBl _ _ (tx3 g h0 h1) _ _ _
theorem aF3 (args:List V) (S:St) (K:KW):gW prog C 255 args S K=wR (hl (mB Tryz.f255 args)) fun v=>K v S:=by
 unfold gW
 rw [show dK prog 255=some (some Tryz.f255) by kernel_rfl]
 rfl
theorem aY0 (K:V→Prop):wO (aJ prog 30) K=K (.agg [.nils,.nils,.nils,.nils,.nils,.int .i64 0]):=congrArg (fun x=>wO x K) (show aJ prog 30=some (.agg [.nils,.nils,.nils,.nils,.nils,.int .i64 0]) by kernel_rfl)
theorem aY1 (K:V→Prop):wO (aJ prog 48) K=K (.agg [.int .i64 0,.int .i64 0,.int .i64 0]):=congrArg (fun x=>wO x K) (show aJ prog 48=some (.agg [.int .i64 0,.int .i64 0,.int .i64 0]) by kernel_rfl)
theorem aSt:oK prog 26=true:=by kernel_rfl
theorem aY2 (K:V→Prop):wO (aJ prog 52) K=K (.agg [.int .i64 0,.int .i64 0,.int .i64 0]):=congrArg (fun x=>wO x K) (show aJ prog 52=some (.agg [.int .i64 0,.int .i64 0,.int .i64 0]) by kernel_rfl)
theorem aSu:oK prog 22=true:=by kernel_rfl
theorem aY3 (K:V→Prop):wO (aJ prog 61) K=K (.agg [.int .i64 0,.int .i64 0,.int .i64 0,.str [],.int .i64 0,.str [],.int .i64 0,.int .i64 0,.int .i64 0,.int .i64 0,.int .i64 0,.int .i64 0,.int .i64 0,.nils,.str [],.int .i64 0,.int .i64 0]):=congrArg (fun x=>wO x K) (show aJ prog 61=some (.agg [.int .i64 0,.int .i64 0,.int .i64 0,.str [],.int .i64 0,.str [],.int .i64 0,.int .i64 0,.int .i64 0,.int .i64 0,.int .i64 0,.int .i64 0,.int .i64 0,.nils,.str [],.int .i64 0,.int .i64 0]) by kernel_rfl)
theorem aSv:oK prog 44=true:=by kernel_rfl
theorem aSw:oK prog 96=true:=by kernel_rfl
theorem aSx:oK prog 97=true:=by kernel_rfl
theorem aY4 (K:V→Prop):wO (aJ prog 99) K=K (.agg [.int .i64 0,.int .i64 0,.int .i64 0,.str [],.int .i64 0,.str [],.int .i64 0,.int .i64 0,.int .i64 0,.int .i64 0,.int .i64 0,.int .i64 0,.int .i64 0,.nils,.str [],.int .i64 0,.int .i64 0,.int .i64 0,.int .i64 0,.int .i64 0,.int .i64 0,.int .i64 0,.int .i64 0]):=congrArg (fun x=>wO x K) (show aJ prog 99=some (.agg [.int .i64 0,.int .i64 0,.int .i64 0,.str [],.int .i64 0,.str [],.int .i64 0,.int .i64 0,.int .i64 0,.int .i64 0,.int .i64 0,.int .i64 0,.int .i64 0,.nils,.str [],.int .i64 0,.int .i64 0,.int .i64 0,.int .i64 0,.int .i64 0,.int .i64 0,.int .i64 0,.int .i64 0]) by kernel_rfl)
theorem aY5 (K:V→Prop):wO (aJ prog 54) K=K (.agg [.str [],.int .i64 0,.int .i64 0,.int .i64 0,.int .i64 0]):=congrArg (fun x=>wO x K) (show aJ prog 54=some (.agg [.str [],.int .i64 0,.int .i64 0,.int .i64 0,.int .i64 0]) by kernel_rfl)
theorem aSy:oK prog 24=true:=by kernel_rfl
theorem aSz (K:V→Prop):wO (aJ prog 126) K=K (.agg [.str [],.int .i64 0,.int .i64 0,.bool false]):=congrArg (fun x=>wO x K) (show aJ prog 126=some (.agg [.str [],.int .i64 0,.int .i64 0,.bool false]) by kernel_rfl)
theorem aT0:oK prog 25=true:=by kernel_rfl
theorem aY6 (K:V→Prop):wO (aJ prog 84) K=K (.agg [.str [],.int .i64 0,.int .i64 0,.int .i64 0,.int .i64 0,.int .i64 0,.int .i64 0,.int .i64 0,.nils,.str [],.int .i64 0,.bool false]):=congrArg (fun x=>wO x K) (show aJ prog 84=some (.agg [.str [],.int .i64 0,.int .i64 0,.int .i64 0,.int .i64 0,.int .i64 0,.int .i64 0,.int .i64 0,.nils,.str [],.int .i64 0,.bool false]) by kernel_rfl)
theorem aT1 (K:V→Prop):wO (aJ prog 145) K=K (.agg [.str [],.int .i64 0,.int .i64 0,.int .i64 0]):=congrArg (fun x=>wO x K) (show aJ prog 145=some (.agg [.str [],.int .i64 0,.int .i64 0,.int .i64 0]) by kernel_rfl)
theorem aT2:oK prog 80=true:=by kernel_rfl
theorem aT3 (K:V→Prop):wO (aJ prog 132) K=K (.agg [.int .i64 0,.int .i64 0,.int .i64 0,.int .i64 0,.int .i64 0]):=congrArg (fun x=>wO x K) (show aJ prog 132=some (.agg [.int .i64 0,.int .i64 0,.int .i64 0,.int .i64 0,.int .i64 0]) by kernel_rfl)
theorem aT4:oK prog 28=true:=by kernel_rfl
theorem aT5:oK prog 27=true:=by kernel_rfl
theorem aY7 (K:V→Prop):wO (aJ prog 59) K=K (.agg [.int .i64 0,.str [],.int .i64 0,.str [],.int .i64 0,.int .i64 0,.int .i64 0,.int .i64 0,.int .i64 0,.int .i64 0,.int .i64 0,.nils,.str [],.int .i64 0,.int .i64 0]):=congrArg (fun x=>wO x K) (show aJ prog 59=some (.agg [.int .i64 0,.str [],.int .i64 0,.str [],.int .i64 0,.int .i64 0,.int .i64 0,.int .i64 0,.int .i64 0,.int .i64 0,.int .i64 0,.nils,.str [],.int .i64 0,.int .i64 0]) by kernel_rfl)
theorem aT6:oK prog 62=true:=by kernel_rfl
theorem aT7:oK prog 71=true:=by kernel_rfl
theorem aNh:oK prog 102=true:=by kernel_rfl
theorem aT8 (K:V→Prop):wO (aJ prog 212) K=K (.agg [.nili]):=congrArg (fun x=>wO x K) (show aJ prog 212=some (.agg [.nili]) by kernel_rfl)
theorem aT9 (K:V→Prop):wO (aJ prog 220) K=K (.agg [.int .i64 0,.int .i64 0,.str []]):=congrArg (fun x=>wO x K) (show aJ prog 220=some (.agg [.int .i64 0,.int .i64 0,.str []]) by kernel_rfl)
theorem aTa (K:V→Prop):wO (aJ prog 232) K=K (.nilp):=congrArg (fun x=>wO x K) (show aJ prog 232=some (.nilp) by kernel_rfl)
theorem aTb (K:V→Prop):wO (aJ prog 246) K=K (.agg [.int .i64 0,.int .i64 0,.int .i64 0,.int .i64 0,.int .i64 0,.int .i64 0,.int .i64 0,.int .i64 0,.int .i64 0,.int .i64 0,.int .i64 0,.int .i64 0,.int .i64 0,.int .i64 0,.int .i64 0,.int .i64 0,.int .i64 0,.int .i64 0,.int .i64 0,.int .i64 0,.int .i64 0,.int .i64 0,.int .i64 0,.int .i64 0,.int .i64 0,.int .i64 0,.int .i64 0,.int .i64 0,.int .i64 0,.int .i64 0,.int .i64 0,.int .i64 0,.int .i64 0,.int .i64 0,.int .i64 0,.int .i64 0,.int .i64 0,.int .i64 0,.int .i64 0,.int .i64 0]):=congrArg (fun x=>wO x K) (show aJ prog 246=some (.agg [.int .i64 0,.int .i64 0,.int .i64 0,.int .i64 0,.int .i64 0,.int .i64 0,.int .i64 0,.int .i64 0,.int .i64 0,.int .i64 0,.int .i64 0,.int .i64 0,.int .i64 0,.int .i64 0,.int .i64 0,.int .i64 0,.int .i64 0,.int .i64 0,.int .i64 0,.int .i64 0,.int .i64 0,.int .i64 0,.int .i64 0,.int .i64 0,.int .i64 0,.int .i64 0,.int .i64 0,.int .i64 0,.int .i64 0,.int .i64 0,.int .i64 0,.int .i64 0,.int .i64 0,.int .i64 0,.int .i64 0,.int .i64 0,.int .i64 0,.int .i64 0,.int .i64 0,.int .i64 0]) by kernel_rfl)
theorem aTc (K:V→Prop):wO (aJ prog 249) K=K (.agg [.int .i64 0,.int .i64 0,.int .i64 0,.int .i64 0,.int .i64 0,.int .i64 0,.int .i64 0,.int .i64 0]):=congrArg (fun x=>wO x K) (show aJ prog 249=some (.agg [.int .i64 0,.int .i64 0,.int .i64 0,.int .i64 0,.int .i64 0,.int .i64 0,.int .i64 0,.int .i64 0]) by kernel_rfl)
theorem aY8:oK prog 9=true:=by kernel_rfl
theorem aTd:oK prog 55=true:=by kernel_rfl
theorem aY9 (K:V→Prop):wO (aJ prog 82) K=K (.agg [.int .i64 0,.int .i64 0,.int .i64 0,.nils]):=congrArg (fun x=>wO x K) (show aJ prog 82=some (.agg [.int .i64 0,.int .i64 0,.int .i64 0,.nils]) by kernel_rfl)
theorem aTe (K:V→Prop):wO (aJ prog 293) K=K (.agg [.str [],.int .i64 0]):=congrArg (fun x=>wO x K) (show aJ prog 293=some (.agg [.str [],.int .i64 0]) by kernel_rfl)
theorem aTf (K:V→Prop):wO (aJ prog 295) K=K (.agg [.str []]):=congrArg (fun x=>wO x K) (show aJ prog 295=some (.agg [.str []]) by kernel_rfl)
theorem aTg (K:V→Prop):wO (aJ prog 297) K=K (.agg [.str [],.int .i64 0,.int .i64 0,.int .i64 0,.int .i64 0]):=congrArg (fun x=>wO x K) (show aJ prog 297=some (.agg [.str [],.int .i64 0,.int .i64 0,.int .i64 0,.int .i64 0]) by kernel_rfl)
theorem aTh (K:V→Prop):wO (aJ prog 301) K=K (.agg [.str [],.int .i64 0,.int .i64 0,.int .i64 0,.nils]):=congrArg (fun x=>wO x K) (show aJ prog 301=some (.agg [.str [],.int .i64 0,.int .i64 0,.int .i64 0,.nils]) by kernel_rfl)
theorem aTi (K:V→Prop):wO (aJ prog 304) K=K (.agg [.str [],.int .i64 0,.int .i64 0,.int .i64 0,.str [],.int .i64 0]):=congrArg (fun x=>wO x K) (show aJ prog 304=some (.agg [.str [],.int .i64 0,.int .i64 0,.int .i64 0,.str [],.int .i64 0]) by kernel_rfl)
theorem aTj (K:V→Prop):wO (aJ prog 306) K=K (.agg [.int .i64 0]):=congrArg (fun x=>wO x K) (show aJ prog 306=some (.agg [.int .i64 0]) by kernel_rfl)
theorem aTk (K:V→Prop):wO (aJ prog 307) K=K (.agg [.str []]):=congrArg (fun x=>wO x K) (show aJ prog 307=some (.agg [.str []]) by kernel_rfl)
theorem aYa (K:V→Prop):wO (aJ prog 90) K=K (.agg [.str [],.int .i64 0]):=congrArg (fun x=>wO x K) (show aJ prog 90=some (.agg [.str [],.int .i64 0]) by kernel_rfl)
theorem rg9:aCv prog 9=true:=by kernel_rfl
theorem aTl (K:V→Prop):wO (aJ prog 201) K=K (.agg [.str [],.str [],.int .i64 0,.int .i64 0]):=congrArg (fun x=>wO x K) (show aJ prog 201=some (.agg [.str [],.str [],.int .i64 0,.int .i64 0]) by kernel_rfl)
theorem aTm (K:V→Prop):wO (aJ prog 346) K=K (.agg [.int .i64 0,.int .u64 0]):=congrArg (fun x=>wO x K) (show aJ prog 346=some (.agg [.int .i64 0,.int .u64 0]) by kernel_rfl)
theorem aR9 (f:FuncId) {a b:List V} {S T:St} (K:KW) (h:a=b) (g:S=T):C f a S K=C f b T K:=by rw [h,g]
attribute [congr] aR9
theorem cw:type_of% (A2 (aI0 prog) <| A2 (aHy prog C) <| A2 (aHv prog C) <| A2 aHz <| A2 aHt <| A2 aHu <| A2 aSo <| A2 (aBh prog C) <| A2 (aBi prog C) <| A2 (aN6 prog C) <| A2 @aXs <| A2 @aSi <| A2 @aMw <| A2 @aSj <| A2 @aMy <| A2 @aN4 <| A2 @aXt <| A2 @aSl <| A2 @aSm <| A2 @aN0 <| A2 @aSn <| A2 @aN2 <| A2 @aN3 <| A2 @aHx <| A2 @aF2 <| A2 @aBg <| A2 aBk <| A2 aBe <| A2 @aSf <| A2 @aSp <| A2 @aSq <| A2 @aSr <| A2 @aSs <| A2 aF3 <| A2 aY0 <| A2 aY1 <| A2 aSt <| A2 aY2 <| A2 aSu <| A2 aY3 <| A2 aSv <| A2 aSw <| A2 aSx <| A2 aY4 <| A2 aY5 <| A2 aSy <| A2 aSz <| A2 aT0 <| A2 aY6 <| A2 aT1 <| A2 aT2 <| A2 aT3 <| A2 aT4 <| A2 aT5 <| A2 aY7 <| A2 aT6 <| A2 aT7 <| A2 aNh <| A2 aT8 <| A2 aT9 <| A2 aTa <| A2 aTb <| A2 aTc <| A2 aY8 <| A2 aTd <| A2 aY9 <| A2 aTe <| A2 aTf <| A2 aTg <| A2 aTh <| A2 aTi <| A2 aTj <| A2 aTk <| A2 aYa <| A2 rg9 <| A2 aTl <| aTm):=A2 (aI0 prog) <| A2 (aHy prog C) <| A2 (aHv prog C) <| A2 aHz <| A2 aHt <| A2 aHu <| A2 aSo <| A2 (aBh prog C) <| A2 (aBi prog C) <| A2 (aN6 prog C) <| A2 @aXs <| A2 @aSi <| A2 @aMw <| A2 @aSj <| A2 @aMy <| A2 @aN4 <| A2 @aXt <| A2 @aSl <| A2 @aSm <| A2 @aN0 <| A2 @aSn <| A2 @aN2 <| A2 @aN3 <| A2 @aHx <| A2 @aF2 <| A2 @aBg <| A2 aBk <| A2 aBe <| A2 @aSf <| A2 @aSp <| A2 @aSq <| A2 @aSr <| A2 @aSs <| A2 aF3 <| A2 aY0 <| A2 aY1 <| A2 aSt <| A2 aY2 <| A2 aSu <| A2 aY3 <| A2 aSv <| A2 aSw <| A2 aSx <| A2 aY4 <| A2 aY5 <| A2 aSy <| A2 aSz <| A2 aT0 <| A2 aY6 <| A2 aT1 <| A2 aT2 <| A2 aT3 <| A2 aT4 <| A2 aT5 <| A2 aY7 <| A2 aT6 <| A2 aT7 <| A2 aNh <| A2 aT8 <| A2 aT9 <| A2 aTa <| A2 aTb <| A2 aTc <| A2 aY8 <| A2 aTd <| A2 aY9 <| A2 aTe <| A2 aTf <| A2 aTg <| A2 aTh <| A2 aTi <| A2 aTj <| A2 aTk <| A2 aYa <| A2 rg9 <| A2 aTl <| aTm
end
def qL (t:TypeId) (p:V) (S:St) (K:V→Prop):Prop:=wR (iX prog t p S) K
def qF (s:TypeId) (p:V) (f:Nat) (K:V→Prop):Prop:=wR (cK prog s p f) K
def qE (s:TypeId) (p:V) (f:Nat) (t:TypeId) (S:St) (K:V→Prop):Prop:=wR (cK prog s p f) fun q=>wR (iX prog t q S) K
def qX (t:TypeId) (v i:V) (K:V→Prop):Prop:=wR (cC prog t v i) K
def qS (t:TypeId) (p x:V) (S:St) (K:St→Prop):Prop:=wR (lE prog t p x S) K
def qZ (t:TypeId) (x:V) (S:St) (K:V→Prop):Prop:=wR (tR prog t x S) K
def qB (o:BinOp) (t:TypeId) (x y:V) (K:V→Prop):Prop:=wR (bJ prog o t x y) K
def qG (o:BinOp) (t:TypeId) (x y:V) (K:V→Prop):Prop:=vV (bC prog t x y) (wR (bJ prog o t x y) K)
def qD (t:TypeId) (l:List (Nat×V)) (K:V→Prop):Prop:=wR (lF prog t l) K
def qP (t:TypeId) (s x:V) (r:Option Nat) (S:St) (K:V×St→Prop):Prop:=wR (dZ prog t s x r S) K
def qQ (t:TypeId) (n:Nat) (l:List (Nat×V)) (r:Option Nat) (S:St) (K:V×St→Prop):Prop:=wR (cA prog t n l r S) K
def qA (a:V) (S:St) (K:Nat×St→Prop):Prop:=vV (aI a.cells) (wR (aR none S (.row 0 a.cells.length [a.cells])) K)
def qN (S:St) (n:Nat) (c:List V) (K:Nat×St→Prop):Prop:=wR (aR none S (.row 0 n [c])) K
def pt (r:Nat×St):V:=.ptr r.1 0 0 0
def up (S:St) (n:Nat):St:=⟨S.next+n,S.heap⟩
def jI (n:Int):V:=.int .i64 n
theorem sf:(∀ (t:TypeId) (p:V) (S:St) (K:V→Prop),qL t p S K=(wR (iX prog t p S) K))∧(∀ (s:TypeId) (p:V) (f:Nat) (K:V→Prop),qF s p f K=(wR (cK prog s p f) K))∧(∀ (s:TypeId) (p:V) (f:Nat) (t:TypeId) (S:St) (K:V→Prop),qE s p f t S K=(wR (cK prog s p f) fun q=>wR (iX prog t q S) K))∧(∀ (t:TypeId) (v i:V) (K:V→Prop),qX t v i K=(wR (cC prog t v i) K))∧(∀ (t:TypeId) (p x:V) (S:St) (K:St→Prop),qS t p x S K=(wR (lE prog t p x S) K))∧(∀ (t:TypeId) (x:V) (S:St) (K:V→Prop),qZ t x S K=(wR (tR prog t x S) K))∧(∀ (o:BinOp) (t:TypeId) (x y:V) (K:V→Prop),qB o t x y K=(wR (bJ prog o t x y) K))∧(∀ (o:BinOp) (t:TypeId) (x y:V) (K:V→Prop),qG o t x y K=(vV (bC prog t x y) (wR (bJ prog o t x y) K)))∧(∀ (t:TypeId) (l:List (Nat×V)) (K:V→Prop),qD t l K=(wR (lF prog t l) K))∧(∀ (t:TypeId) (s x:V) (r:Option Nat) (S:St) (K:V×St→Prop),qP t s x r S K=(wR (dZ prog t s x r S) K))∧(∀ (t:TypeId) (n:Nat) (l:List (Nat×V)) (r:Option Nat) (S:St) (K:V×St→Prop),qQ t n l r S K=(wR (cA prog t n l r S) K))∧(∀ (a:V) (S:St) (K:Nat×St→Prop),qA a S K=(vV (aI a.cells) (wR (aR none S (.row 0 a.cells.length [a.cells])) K)))∧(∀ (S:St) (n:Nat) (c:List V) (K:Nat×St→Prop),qN S n c K=(wR (aR none S (.row 0 n [c])) K))∧(∀ (r:Nat×St),pt r=.ptr r.1 0 0 0)∧(∀ (S:St) (n:Nat),up S n=⟨S.next+n,S.heap⟩)∧(∀ (n:Int),jI n=.int .i64 n):=⟨fun _ _ _ _=>rfl,fun _ _ _ _=>rfl,fun _ _ _ _ _ _=>rfl,fun _ _ _ _=>rfl,fun _ _ _ _ _=>rfl,fun _ _ _ _=>rfl,fun _ _ _ _ _=>rfl,fun _ _ _ _ _=>rfl,fun _ _ _=>rfl,fun _ _ _ _ _ _=>rfl,fun _ _ _ _ _ _=>rfl,fun _ _ _=>rfl,fun _ _ _ _=>rfl,fun _=>rfl,fun _ _=>rfl,fun _=>rfl⟩
abbrev aGz:Nat→Option (List bH):=jV []
abbrev aH0:Nat→List Nat:=mQ [(4,[2,3])]
abbrev aD2:Nat→Option (List bH):=jV [(11,[(1,[]),(2,[]),(3,[]),(5,[]),(6,[]),(7,[]),(8,[]),(9,[]),(10,[]),(13,[]),(14,[]),(15,[]),(0,[]),(4,[9]),(11,[]),(12,[]),(16,[]),(17,[])])]
abbrev aH1:Nat→List Nat:=mQ [(8,[8]),(5,[4,5,6,7])]
abbrev aNi:Nat→Option (List bH):=jV []
abbrev aNj:Nat→List Nat:=mQ [(30,[2,12]),(23,[2,11]),(9,[2,5,6])]
abbrev aD3:Nat→Option (List bH):=jV []
abbrev aH2:Nat→List Nat:=mQ [(8,[9]),(5,[4,5,6,19])]
def aH3 (C:aX) (K:KW) (p1 p5:V) (vs:List V) (S:St) (again2:List V→St→Prop):Prop:=
wT vs fun x2 vs=>
wT vs fun x12 vs=>
qZ 27 p5 S fun t105=>
qB .lss 3 x12 t105 fun t106=>
aZ t106 (qX 27 p5 x12 fun t107=>
qL 90 t107 (up S 10) fun t108=>
qE 30 p1 3 27 (up S 10) fun t110=>
qX 27 t110 x12 fun t111=>
qL 90 t111 (up S 10) fun t112=>
(qG .neq 90 t108 t112 fun t113=>
aZ t113 (K (.bool false) (up S 10)) (qB .add 3 x12 (jI 1) fun t114=>
again2 [x2,t114] (up S 10)))) (K (.bool true) S)
def aH4 (C:aX) (K:KW) (p1 p4 p5:V) (vs:List V) (S:St) (again1:List V→St→Prop):Prop:=
wT vs fun x2 vs=>
wT vs fun x11 vs=>
qZ 96 p4 S fun t88=>
qB .lss 3 x11 t88 fun t89=>
aZ t89 (qX 96 p4 x11 fun t90=>
qL 3 t90 (up S 12) fun t91=>
qE 30 p1 1 25 (up S 12) fun t93=>
qX 25 t93 x11 fun t94=>
qE 126 t94 1 3 (up S 12) fun t96=>
qB .sub 3 t96 (jI 1) fun t97=>
(qG .neq 3 t91 t97 fun t98=>
aZ t98 (K (.bool false) (up S 12)) (qB .add 3 x11 (jI 1) fun t99=>
again1 [x2,t99] (up S 12)))) (qZ 27 p5 S fun t100=>
qE 30 p1 3 27 S fun t102=>
qZ 27 t102 S fun t103=>
(qG .neq 3 t100 t103 fun t104=>
aZ t104 (K (.bool false) S) (iF [x2,(jI 0)] S (aH3 C K p1 p5))))
def aH5 (C:aX) (K:KW) (p1 p4:V) (vs:List V) (S:St) (again0:List V→St→Prop):Prop:=
wT vs fun x2 vs=>
wT vs fun x5 vs=>
wT vs fun x6 vs=>
qE 30 p1 2 26 S fun t31=>
qZ 26 t31 S fun t32=>
qB .lss 3 x6 t32 fun t33=>
aZ t33 (qE 30 p1 2 26 S fun t35=>
qX 26 t35 x6 fun t36=>
qL 84 t36 S fun t37=>
qN S 12 [.str [],jI 0,jI 0,jI 0,jI 0,jI 0,jI 0,jI 0,.nils,.str [],jI 0,.bool false] fun r38=>
qS 84 (pt r38) t37 r38.2 fun S39=>
qE 30 p1 1 25 S39 fun t41=>
qF 84 (pt r38) 0 fun t42=>
qE 57 t42 0 9 S39 fun t44=>
C 117 [t41,t44] S39 fun t45 S46=>
qB .lss 3 t45 (jI 0) fun t47=>
aZ t47 (K (.bool false) (up S46 32)) (qF 84 (pt r38) 0 fun t48=>
qE 57 t48 1 3 (up S46 32) fun t50=>
qX 96 p4 t45 fun t51=>
qL 3 t51 (up S46 32) fun t52=>
qB .add 3 t52 (jI 1) fun t53=>
(qG .neq 3 t50 t53 fun t54=>
aZ t54 (K (.bool false) (up S46 32)) (qE 84 (pt r38) 1 52 (up S46 32) fun t56=>
C 118 [t56] (up S46 32) fun t57 S58=>
wR (unV .not t57) fun t59=>
aZ t59 (K (.bool false) S58) (qE 84 (pt r38) 2 82 S58 fun t61=>
C 119 [t61] S58 fun t62 S63=>
wR (unV .not t62) fun t64=>
aZ t64 (K (.bool false) S63) (qE 30 p1 2 26 S63 fun t66=>
C 120 [t66,x6] S63 fun t67 S68=>
wR (unV .not t67) fun t69=>
aZ t69 (K (.bool false) S68) (qX 96 p4 t45 fun t70=>
qL 3 t70 S68 fun t71=>
qB .add 3 t71 (jI 1) fun t72=>
qX 96 p4 t45 fun t73=>
qS 3 t73 t72 S68 fun S74=>
qE 84 (pt r38) 2 82 S74 fun t76=>
C 121 [t76] S74 fun t77 S78=>
kL t77 0 fun t79=>
kL t77 1 fun t80=>
(qG .neq 3 t80 (jI 0) fun t81=>
aZ t81 (K (.bool false) S78) (C 122 [x5,t79] S78 fun t82 S83=>
kL t82 0 fun t84=>
kL t82 1 fun t85=>
(qG .neq 3 t85 (jI 0) fun t86=>
aZ t86 (K (.bool false) S83) (qB .add 3 x6 (jI 1) fun t87=>
again0 [x2,t84,t87] S83))))))))))) (iF [x2,(jI 0)] S (aH4 C K p1 p4 x5))
def aD4 (C:aX) (K:KW) (p1:V) (S:St):Prop:=
qE 30 p1 1 25 S fun t27=>
qZ 25 t27 S fun t28=>
wR (cG prog 96 t28 t28 none S) fun r29=>
iF [(.bool false),(.nils),(jI 0)] r29.2 (aH5 C K p1 r29.1)
def m38 (C:aX) (a0:V) (S:St) (K:KW):Prop:=
(qA a0 S fun r0=>
qE 30 (pt r0) 0 24 r0.2 fun t2=>
C 114 [t2] r0.2 fun t3 S4=>
wR (unV .not t3) fun t5=>
aZ t5 (K (.bool false) S4) (qE 30 (pt r0) 1 25 S4 fun t7=>
C 115 [t7] S4 fun t8 S9=>
wR (unV .not t8) fun t10=>
aZ t10 (K (.bool false) S9) (qE 30 (pt r0) 4 28 S9 fun t12=>
C 116 [t12] S9 fun t13 S14=>
wR (unV .not t13) fun t15=>
aZ t15 (K (.bool false) S14) (qE 30 (pt r0) 2 26 S14 fun t17=>
qZ 26 t17 S14 fun t18=>
qB .gtr 3 t18 (jI 40) fun t19=>
aZ t19 (K (.bool false) S14) (qE 30 (pt r0) 5 3 S14 fun t21=>
qB .lss 3 t21 (jI 1) fun t22=>
aZ t22 (K (.bool false) S14) (qE 30 (pt r0) 5 3 S14 fun t24=>
qB .gtr 3 t24 (jI 1099511627776) fun t25=>
aZ t25 (K (.bool false) S14) (qE 30 (pt r0) 4 28 S14 fun t116=>
qZ 28 t116 S14 fun t117=>
qB .gtr 3 t117 (jI 0) fun t118=>
aZ t118 (qE 30 (pt r0) 4 28 (up S14 14) fun t120=>
qB .sub 3 t117 (jI 1) fun t121=>
qX 28 t120 t121 fun t122=>
qE 132 t122 0 3 (up S14 14) fun t124=>
qE 30 (pt r0) 5 3 (up S14 14) fun t126=>
qB .geq 3 t124 t126 fun t127=>
aZ t127 (K (.bool false) (up S14 14)) (aD4 C K (pt r0) (up S14 14))) (aD4 C K (pt r0) (up S14 14)))))))))
theorem aWi:(fun (C:aX) (a0:V) (S:St) (K:KW)=>gQ prog C aNi aNj 38 [a0] S K)=fun C a0 S K=>m38 C a0 S K:=by kernel_rfl
theorem t38 (C:aX) (a0:V) (S:St) (K:KW):gQ prog C aNi aNj 38 [a0] S K=m38 C a0 S K:=congrFun (congrFun (congrFun (congrFun aWi C) a0) S) K
theorem v38 {a0:V} {v:V} (hc:cloVs [a0]=true) (h:m38 C a0 ⟨0,.nil⟩ fun v0 S0=>iR S0 v0=.ok v):Fv 38 [a0] v:=Go.AM.Fn.of (p:=aNi) (lv:=aNj) (by kernel_rfl) hc (by rw [t38];exact h)
def wW (C:aX) (K:KW) (again0:List V→St→Prop) (p1 p2 p3 p4:V) (S:St):Prop:=
qE 145 p4 2 3 S fun t20=>
qE 145 p4 1 3 S fun t22=>
C 160 [t20,t22] S fun t23 S24=>
kL t23 0 fun t25=>
kL t23 1 fun t26=>
(qG .neq 3 t26 (jI 0) fun t27=>
aZ t27 (K (.bool false) S24) (qE 145 p4 3 3 S24 fun t29=>
(qG .neq 3 t25 t29 fun t30=>
aZ t30 (K (.bool false) S24) (qB .add 3 p3 (jI 1) fun t31=>
again0 [p2,t31] S24))))
def aD5 (C:aX) (K:KW) (p1:V) (vs:List V) (S:St) (again0:List V→St→Prop):Prop:=
wT vs fun x2 vs=>
wT vs fun x3 vs=>
qE 82 p1 3 80 S fun t10=>
qZ 80 t10 S fun t11=>
qB .lss 3 x3 t11 fun t12=>
aZ t12 (qE 82 p1 3 80 S fun t14=>
qX 80 t14 x3 fun t15=>
qL 145 t15 S fun t16=>
qN S 4 [.str [],jI 0,jI 0,jI 0] fun r17=>
qS 145 (pt r17) t16 r17.2 fun S18=>
qE 145 (pt r17) 0 9 (up S18 30) fun t33=>
C 195 [t33] (up S18 30) fun t34 S35=>
wR (unV .not t34) fun t36=>
aZ t36 (K (.bool false) S35) (qE 145 (pt r17) 1 3 S35 fun t38=>
qB .lss 3 t38 (jI 0) fun t39=>
aZ t39 (K (.bool false) S35) (qE 145 (pt r17) 1 3 S35 fun t41=>
qB .gtr 3 t41 (jI 100000) fun t42=>
aZ t42 (K (.bool false) S35) (qB .gtr 3 x3 (jI 0) fun t43=>
aZ t43 (qE 82 p1 3 80 S35 fun t45=>
qB .sub 3 x3 (jI 1) fun t46=>
qX 80 t45 t46 fun t47=>
qE 145 t47 0 9 S35 fun t49=>
qE 145 (pt r17) 0 9 S35 fun t51=>
qB .geq 9 t49 t51 fun t52=>
aZ t52 (K (.bool false) S35) (wW C K again0 p1 x2 x3 (pt r17) S35)) (wW C K again0 p1 x2 x3 (pt r17) S35))))) (qE 82 p1 3 80 S fun t54=>
C 161 [t54] S fun t55 S56=>
kL t55 0 fun t57=>
kL t55 1 fun t58=>
kL t55 2 fun t59=>
C 127 [t57,t58] S56 fun t60 S61=>
kL t60 0 fun t62=>
kL t60 1 fun t63=>
aZ t59 ((qG .eql 3 t63 (jI 0) fun t64=>
aZ t64 (qE 82 p1 0 3 S61 fun t66=>
(qG .eql 3 t57 t66 fun t67=>
aZ t67 (qE 82 p1 1 3 S61 fun t69=>
(qG .eql 3 t58 t69 fun t70=>
aZ t70 (qE 82 p1 2 3 S61 fun t72=>
(qG .eql 3 t62 t72 fun t73=>
K t73 S61)) (K (.bool false) S61))) (K (.bool false) S61))) (K (.bool false) S61))) (K (.bool false) S61))
def aRa (C:aX) (a0:V) (S:St) (K:KW):Prop:=
(qA a0 S fun r0=>
qE 82 (pt r0) 3 80 r0.2 fun t2=>
qZ 80 t2 r0.2 fun t3=>
(qG .eql 3 t3 (jI 0) fun t4=>
aZ t4 (K (.bool false) r0.2) (qE 82 (pt r0) 3 80 r0.2 fun t6=>
qZ 80 t6 r0.2 fun t7=>
qB .gtr 3 t7 (jI 12) fun t8=>
aZ t8 (K (.bool false) r0.2) (iF [(.bool false),(jI 0)] r0.2 (aD5 C K (pt r0))))))
theorem aRb:(fun (C:aX) (a0:V) (S:St) (K:KW)=>gQ prog C aGz aH0 119 [a0] S K)=fun C a0 S K=>aRa C a0 S K:=by kernel_rfl
theorem bEy (C:aX) (a0:V) (S:St) (K:KW):gQ prog C aGz aH0 119 [a0] S K=aRa C a0 S K:=congrFun (congrFun (congrFun (congrFun aRb C) a0) S) K
theorem bEz {a0:V} {v:V} (hc:cloVs [a0]=true) (h:aRa C a0 ⟨0,.nil⟩ fun v0 S0=>iR S0 v0=.ok v):Fv 119 [a0] v:=Go.AM.Fn.of (p:=aGz) (lv:=aH0) (by kernel_rfl) hc (by rw [bEy];exact h)
def xA (C:aX) (K:KW) (again0:List V→St→Prop) (p1 p4 p5 p6 p7 p8:V) (S:St):Prop:=
qX 27 p6 p8 fun t7=>
qE 90 t7 1 3 (up S 16) fun t9=>
qX 27 p1 p7 fun t10=>
qE 90 t10 1 3 (up S 16) fun t12=>
C 127 [t9,t12] (up S 16) fun t13 S14=>
kL t13 0 fun t15=>
kL t13 1 fun t16=>
(qG .neq 3 t16 (jI 0) fun t17=>
aZ t17 (K (.tup [(.nils),t16]) S14) (qX 27 p6 p8 fun t18=>
qF 90 t18 1 fun t19=>
qS 3 t19 t15 S14 fun S20=>
qB .add 3 p7 (jI 1) fun t21=>
again0 [p4,p5,p6,t21] S20))
def sU (C:aX) (K:KW) (again0:List V→St→Prop) (p1 p4 p5 p6 p7 p8 p58:V) (S:St):Prop:=
aZ p58 (wR (fW prog 27 p6 none (some p8)) fun t22=>
qX 27 p1 p7 fun t23=>
qF 90 t23 0 fun t24=>
qL 9 t24 (up S 18) fun t25=>
qD 90 [(0,t25)] fun t26=>
wR (fW prog 27 p6 (some p8) none) fun t27=>
qQ 27 0 [] (some (S.next+0)) (up S 18) fun r28=>
qP 27 r28.1 t22 (some (S.next+4)) r28.2 fun r29=>
qL 9 t24 r29.2 fun t30=>
vV (eL t25 t30) (qQ 27 1 [(0,t26)] (some (S.next+11)) r29.2 fun r31=>
qP 27 r29.1 r31.1 (some (S.next+12)) r31.2 fun r32=>
qP 27 r32.1 t27 (some (S.next+16)) r32.2 fun r33=>
xA C K again0 p1 p4 p5 r33.1 p7 p8 r33.2)) (xA C K again0 p1 p4 p5 p6 p7 p8 S)
def sV (C:aX) (K:KW) (again0:List V→St→Prop) (p1 p4 p5 p6 p7 p8:V) (S:St):Prop:=
qZ 27 p6 (up S 17) fun t34=>
(qG .eql 3 p8 t34 fun t35=>
aZ t35 (sU C K again0 p1 p4 p5 p6 p7 p8 (.bool true) (up S 17)) (qX 27 p6 p8 fun t36=>
qE 90 t36 0 9 (up S 17) fun t38=>
qX 27 p1 p7 fun t39=>
qE 90 t39 0 9 (up S 17) fun t41=>
(qG .neq 9 t38 t41 fun t42=>
sU C K again0 p1 p4 p5 p6 p7 p8 t42 (up S 17))))
def aD6 (C:aX) (K:KW) (again0:List V→St→Prop) (p1 p4 p5 p6 p7:V) (vs:List V) (S:St) (again1:List V→St→Prop):Prop:=
wT vs fun x8 vs=>
qZ 27 p6 (up S 17) fun t43=>
qB .lss 3 x8 t43 fun t44=>
aZ t44 (qX 27 p6 x8 fun t45=>
qE 90 t45 0 9 (up S 17) fun t47=>
qX 27 p1 p7 fun t48=>
qE 90 t48 0 9 (up S 17) fun t50=>
qB .lss 9 t47 t50 fun t51=>
aZ t51 (qB .add 3 x8 (jI 1) fun t52=>
again1 [t52] (up S 17)) (sV C K again0 p1 p4 p5 p6 p7 x8 (up S 17))) (sV C K again0 p1 p4 p5 p6 p7 x8 (up S 17))
def aD7 (C:aX) (K:KW) (p1:V) (vs:List V) (S:St) (again0:List V→St→Prop):Prop:=
wT vs fun x4 vs=>
wT vs fun x5 vs=>
wT vs fun x6 vs=>
wT vs fun x7 vs=>
qZ 27 p1 S fun t5=>
qB .lss 3 x7 t5 fun t6=>
aZ t6 (iF [(jI 0)] S (aD6 C K again0 p1 x4 x5 x6 x7)) (K (.tup [x6,(jI 0)]) S)
def aRc (C:aX) (a0 a1:V) (S:St) (K:KW):Prop:=
C 199 [a0] S fun t0 S1=>
wR (unV .not t0) fun t2=>
aZ t2 (K (.tup [(.nils),(jI 1)]) S1) (qQ 27 0 [] none S1 fun r3=>
qP 27 r3.1 a0 none r3.2 fun r4=>
iF [(.nils),(jI 0),r4.1,(jI 0)] r4.2 (aD7 C K a1))
theorem aRd:(fun (C:aX) (a0 a1:V) (S:St) (K:KW)=>gQ prog C aD2 aH1 122 [a0,a1] S K)=fun C a0 a1 S K=>aRc C a0 a1 S K:=by kernel_rfl
theorem t122 (C:aX) (a0 a1:V) (S:St) (K:KW):gQ prog C aD2 aH1 122 [a0,a1] S K=aRc C a0 a1 S K:=congrFun (congrFun (congrFun (congrFun (congrFun aRd C) a0) a1) S) K
theorem bF0 {a0 a1:V} {v:V} (hc:cloVs [a0,a1]=true) (h:aRc C a0 a1 ⟨0,.nil⟩ fun v0 S0=>iR S0 v0=.ok v):Fv 122 [a0,a1] v:=Go.AM.Fn.of (p:=aD2) (lv:=aH1) (by kernel_rfl) hc (by rw [t122];exact h)
theorem aYb:dPl 122=some (.val aD2):=by kernel_rfl
def xB (C:aX) (K:KW) (again0:List V→St→Prop) (p4 p5 p6 p8 p9 p17 p18 p19:V) (S:St):Prop:=
qX 27 p6 p9 fun t10=>
qE 90 t10 1 3 (up S 13) fun t12=>
qE 90 p8 1 3 (up S 13) fun t14=>
C 203 [t12,t14] (up S 13) fun t15 S16=>
kL t15 0 fun t17=>
kL t15 1 fun t18=>
(qG .neq 31 t18 (jI 0) fun t19=>
aZ t19 (K (.tup [(.nils),t18]) S16) (qX 27 p6 p9 fun t20=>
qF 90 t20 1 fun t21=>
qS 3 t21 t17 S16 fun S22=>
qB .add 3 p19 (jI 1) fun t23=>
again0 [p4,p5,p6,t23] S22))
def sW (C:aX) (K:KW) (again0:List V→St→Prop) (p4 p5 p6 p8 p9 p17 p18 p19 p52:V) (S:St):Prop:=
aZ p52 (qE 90 p8 0 9 S fun t25=>
qD 90 [(0,t25)] fun t26=>
qQ 27 1 [(0,t26)] none S fun r27=>
C 221 [p6,p9,r27.1] r27.2 fun t28 S29=>
xB C K again0 p4 p5 t28 p8 p9 p17 p18 p19 S29) (xB C K again0 p4 p5 p6 p8 p9 p17 p18 p19 S)
def xC (C:aX) (K:KW) (again0:List V→St→Prop) (p4 p5 p6 p8 p9 p17 p18 p19:V) (S:St):Prop:=
qZ 27 p6 (up S 14) fun t30=>
(qG .eql 3 p9 t30 fun t31=>
aZ t31 (sW C K again0 p4 p5 p6 p8 p9 p17 p18 p19 (.bool true) (up S 14)) (qX 27 p6 p9 fun t32=>
qE 90 t32 0 9 (up S 14) fun t34=>
qE 90 p8 0 9 (up S 14) fun t36=>
(qG .neq 9 t34 t36 fun t37=>
sW C K again0 p4 p5 p6 p8 p9 p17 p18 p19 t37 (up S 14))))
def aD8 (C:aX) (K:KW) (again0:List V→St→Prop) (p4 p5 p6 p8 p17 p18 p19:V) (vs:List V) (S:St) (again1:List V→St→Prop):Prop:=
wT vs fun x9 vs=>
qZ 27 p6 (up S 14) fun t38=>
qB .lss 3 x9 t38 fun t39=>
aZ t39 (qX 27 p6 x9 fun t40=>
qE 90 t40 0 9 (up S 14) fun t42=>
qE 90 p8 0 9 (up S 14) fun t44=>
qB .lss 9 t42 t44 fun t45=>
aZ t45 (qB .add 3 x9 (jI 1) fun t46=>
again1 [t46] (up S 14)) (xC C K again0 p4 p5 p6 p8 x9 p17 p18 p19 (up S 14))) (xC C K again0 p4 p5 p6 p8 x9 p17 p18 p19 (up S 14))
def aD9 (C:aX) (K:KW) (p17 p18:V) (vs:List V) (S:St) (again0:List V→St→Prop):Prop:=
wT vs fun x4 vs=>
wT vs fun x5 vs=>
wT vs fun x6 vs=>
wT vs fun x19 vs=>
qB .lss 3 x19 p18 fun t5=>
aZ t5 (qX 27 p17 x19 fun t6=>
qL 90 t6 S fun t7=>
qN S 2 [.str [],jI 0] fun r8=>
qS 90 (pt r8) t7 r8.2 fun S9=>
iF [(jI 0)] S9 (aD8 C K again0 x4 x5 x6 (pt r8) p17 p18 x19)) (K (.tup [x6,(jI 0)]) S)
def aRe (C:aX) (a0 a1:V) (S:St) (K:KW):Prop:=
C 220 [a0] S fun t0 S1=>
wR (unV .not t0) fun t2=>
aZ t2 (K (.tup [(.nils),(jI 1)]) S1) (qP 27 (.nils) a0 none S1 fun r3=>
qZ 27 a1 r3.2 fun t4=>
iF [(.nils),(jI 0),r3.1,(jI 0)] r3.2 (aD9 C K a1 t4))
theorem aRf:(fun (C:aX) (a0 a1:V) (S:St) (K:KW)=>gQ prog C aD3 aH2 158 [a0,a1] S K)=fun C a0 a1 S K=>aRe C a0 a1 S K:=by kernel_rfl
theorem bF1 (C:aX) (a0 a1:V) (S:St) (K:KW):gQ prog C aD3 aH2 158 [a0,a1] S K=aRe C a0 a1 S K:=congrFun (congrFun (congrFun (congrFun (congrFun aRf C) a0) a1) S) K
theorem bF2 {a0 a1:V} {v:V} (hc:cloVs [a0,a1]=true) (h:aRe C a0 a1 ⟨0,.nil⟩ fun v0 S0=>iR S0 v0=.ok v):Fv 158 [a0,a1] v:=Go.AM.Fn.of (p:=aD3) (lv:=aH2) (by kernel_rfl) hc (by rw [bF1];exact h)
theorem aYc:dPl 158=some (.val aD3):=by kernel_rfl
abbrev App (T n b:Nat):Prop:=∀ (s x:V) (fr:Option Nat) (S:St),dZ prog T s x fr S=eN n b s x fr S
abbrev Bd (T:Nat) (z:List V) (pl:List (Nat×Nat)):Prop:=∀ parts:List (Nat×V),lF prog T parts=rD z pl parts
abbrev Bs (T n:Nat) (z:List V):Prop:=∀ (len:Nat) (parts:List (Nat×V)) (fr:Option Nat) (S:St),cA prog T len parts fr S=aW n z len parts fr S
abbrev Cv (s d:Nat) (k:IntKind):Prop:=∀ (j:IntKind) (n:Int) (fr:Option Nat) (S:St),cS prog s d (.int j n) fr S=.ok (.int k (wr k n),S)
abbrev Fa (s f o:Nat):Prop:=∀ p:V,cK prog s p f=advW o p
abbrev Ix (T n:Nat):Prop:=∀ x i:V,cC prog T x i=gC n x i
abbrev Ld (T:Nat) (k:Option Nat):Prop:=∀ (p:V) (S:St),iX prog T p S=iZ k p S
abbrev Ln (T:Nat):Prop:=∀ (x:V) (S:St),tR prog T x S=lenW x
abbrev Sl_ (T n:Nat):Prop:=∀ (a ver off len:Nat) (lo hi:Option V),fW prog T (.sl a ver n off len) lo hi=(match eR len lo hi with
  | .ok (l,h)=>.ok (.sl a ver n (off+l) (h - l))
  | .error e=>.error e)
abbrev Si (T n:Nat):Prop:=∀ (es:List (List V)) (hl:gS n es=true) (lo hi:Option V),fW prog T (.imm es) lo hi=(match eR es.length lo hi with
  | .ok (l,h)=>.ok (.imm ((es.take h).drop l))
  | .error e=>.error e)
abbrev Sr (T n:Nat):Prop:=∀ (p x:V) (S:St),lE prog T p x S=eM n p x S
theorem aNl:App 102 23 224:=bZ (by kernel_rfl)
theorem aTn:App 22 1 1:=bZ (by kernel_rfl)
theorem aTo:App 24 5 48:=bZ (by kernel_rfl)
theorem aTp:App 25 4 40:=bZ (by kernel_rfl)
theorem aTq:App 26 12 128:=bZ (by kernel_rfl)
theorem aTr:App 27 2 24:=bZ (by kernel_rfl)
theorem aTs:App 28 5 40:=bZ (by kernel_rfl)
theorem aTt:App 44 17 176:=bZ (by kernel_rfl)
theorem aTu:App 55 4 48:=bZ (by kernel_rfl)
theorem aTv:App 62 3 24:=bZ (by kernel_rfl)
theorem aTw:App 71 4 40:=bZ (by kernel_rfl)
theorem aTx:App 80 4 40:=bZ (by kernel_rfl)
theorem aTy:App 96 1 8:=bZ (by kernel_rfl)
theorem aTz:App 97 23 224:=bZ (by kernel_rfl)
theorem aU0:Bd 126 [.str [],.int .i64 0,.int .i64 0,.bool false] [(0,1),(1,1),(2,1),(3,1)]:=bE (by kernel_rfl)
theorem aU1:Bd 132 [.int .i64 0,.int .i64 0,.int .i64 0,.int .i64 0,.int .i64 0] [(0,1),(1,1),(2,3)]:=bE (by kernel_rfl)
theorem aU2:Bd 142 [.nils,.int .i64 0,.int .i64 0] [(0,1),(1,1),(2,1)]:=bE (by kernel_rfl)
theorem aU3:Bd 145 [.str [],.int .i64 0,.int .i64 0,.int .i64 0] [(0,1),(1,1),(2,1),(3,1)]:=bE (by kernel_rfl)
theorem aU4:Bd 160 [.nils] [(0,1)]:=bE (by kernel_rfl)
theorem aU5:Bd 201 [.str [],.str [],.int .i64 0,.int .i64 0] [(0,1),(1,1),(2,1),(3,1)]:=bE (by kernel_rfl)
theorem aU6:Bd 207 [.int .i64 0,.int .i64 0,.int .i64 0,.str [],.int .i64 0,.str [],.int .i64 0,.int .i64 0,.int .i64 0,.int .i64 0,.int .i64 0,.int .i64 0,.int .i64 0,.nils,.str [],.int .i64 0,.int .i64 0,.int .i64 0,.int .i64 0,.int .i64 0,.int .i64 0,.int .i64 0,.int .i64 0] [(0,17),(17,1),(18,1),(19,1),(20,3)]:=bE (by kernel_rfl)
theorem aU7:Bd 212 [.nili] [(0,1)]:=bE (by kernel_rfl)
theorem aU8:Bd 225 [.nils,.int .i64 0,.int .i64 0] [(0,1),(1,1),(2,1)]:=bE (by kernel_rfl)
theorem aU9:Bd 287 [.nils,.bool false] [(0,1),(1,1)]:=bE (by kernel_rfl)
theorem aYd:Bd 30 [.nils,.nils,.nils,.nils,.nils,.int .i64 0] [(0,1),(1,1),(2,1),(3,1),(4,1),(5,1)]:=bE (by kernel_rfl)
theorem aUa:Bd 346 [.int .i64 0,.int .u64 0] [(0,1),(1,1)]:=bE (by kernel_rfl)
theorem aYe:Bd 48 [.int .i64 0,.int .i64 0,.int .i64 0] [(0,1),(1,1),(2,1)]:=bE (by kernel_rfl)
theorem aYf:Bd 52 [.int .i64 0,.int .i64 0,.int .i64 0] [(0,1),(1,1),(2,1)]:=bE (by kernel_rfl)
theorem aYg:Bd 54 [.str [],.int .i64 0,.int .i64 0,.int .i64 0,.int .i64 0] [(0,1),(1,3),(4,1)]:=bE (by kernel_rfl)
theorem aYh:Bd 57 [.str [],.int .i64 0] [(0,1),(1,1)]:=bE (by kernel_rfl)
theorem aYi:Bd 59 [.int .i64 0,.str [],.int .i64 0,.str [],.int .i64 0,.int .i64 0,.int .i64 0,.int .i64 0,.int .i64 0,.int .i64 0,.int .i64 0,.nils,.str [],.int .i64 0,.int .i64 0] [(0,1),(1,1),(2,1),(3,5),(8,3),(11,1),(12,2),(14,1)]:=bE (by kernel_rfl)
theorem aYj:Bd 61 [.int .i64 0,.int .i64 0,.int .i64 0,.str [],.int .i64 0,.str [],.int .i64 0,.int .i64 0,.int .i64 0,.int .i64 0,.int .i64 0,.int .i64 0,.int .i64 0,.nils,.str [],.int .i64 0,.int .i64 0] [(0,1),(1,1),(2,15)]:=bE (by kernel_rfl)
theorem aYk:Bd 76 [.str [],.int .i64 0,.int .i64 0,.int .i64 0] [(0,1),(1,1),(2,1),(3,1)]:=bE (by kernel_rfl)
theorem aYl:Bd 77 [.str [],.int .i64 0,.int .i64 0,.int .i64 0] [(0,1),(1,1),(2,1),(3,1)]:=bE (by kernel_rfl)
theorem aYm:Bd 82 [.int .i64 0,.int .i64 0,.int .i64 0,.nils] [(0,1),(1,1),(2,1),(3,1)]:=bE (by kernel_rfl)
theorem aYn:Bd 84 [.str [],.int .i64 0,.int .i64 0,.int .i64 0,.int .i64 0,.int .i64 0,.int .i64 0,.int .i64 0,.nils,.str [],.int .i64 0,.bool false] [(0,2),(2,3),(5,4),(9,2),(11,1)]:=bE (by kernel_rfl)
theorem aYo:Bd 90 [.str [],.int .i64 0] [(0,1),(1,1)]:=bE (by kernel_rfl)
theorem aYp:Bd 99 [.int .i64 0,.int .i64 0,.int .i64 0,.str [],.int .i64 0,.str [],.int .i64 0,.int .i64 0,.int .i64 0,.int .i64 0,.int .i64 0,.int .i64 0,.int .i64 0,.nils,.str [],.int .i64 0,.int .i64 0,.int .i64 0,.int .i64 0,.int .i64 0,.int .i64 0,.int .i64 0,.int .i64 0] [(0,17),(17,1),(18,1),(19,1),(20,3)]:=bE (by kernel_rfl)
theorem aUb:Bs 102 23 [.int .i64 0,.int .i64 0,.int .i64 0,.str [],.int .i64 0,.str [],.int .i64 0,.int .i64 0,.int .i64 0,.int .i64 0,.int .i64 0,.int .i64 0,.int .i64 0,.nils,.str [],.int .i64 0,.int .i64 0,.int .i64 0,.int .i64 0,.int .i64 0,.int .i64 0,.int .i64 0,.int .i64 0]:=aS (by kernel_rfl)
theorem aYq:Bs 22 1 [.int .u8 0]:=aS (by kernel_rfl)
theorem aYr:Bs 24 5 [.str [],.int .i64 0,.int .i64 0,.int .i64 0,.int .i64 0]:=aS (by kernel_rfl)
theorem aYs:Bs 25 4 [.str [],.int .i64 0,.int .i64 0,.bool false]:=aS (by kernel_rfl)
theorem aYt:Bs 26 12 [.str [],.int .i64 0,.int .i64 0,.int .i64 0,.int .i64 0,.int .i64 0,.int .i64 0,.int .i64 0,.nils,.str [],.int .i64 0,.bool false]:=aS (by kernel_rfl)
theorem aYu:Bs 27 2 [.str [],.int .i64 0]:=aS (by kernel_rfl)
theorem aYv:Bs 28 5 [.int .i64 0,.int .i64 0,.int .i64 0,.int .i64 0,.int .i64 0]:=aS (by kernel_rfl)
theorem aUc:Bs 361 1 [.nilp]:=aS (by kernel_rfl)
theorem aUd:Bs 364 1 [.str []]:=aS (by kernel_rfl)
theorem aYw:Bs 44 17 [.int .i64 0,.int .i64 0,.int .i64 0,.str [],.int .i64 0,.str [],.int .i64 0,.int .i64 0,.int .i64 0,.int .i64 0,.int .i64 0,.int .i64 0,.int .i64 0,.nils,.str [],.int .i64 0,.int .i64 0]:=aS (by kernel_rfl)
theorem aYx:Bs 55 4 [.str [],.str [],.int .i64 0,.int .i64 0]:=aS (by kernel_rfl)
theorem aYy:Bs 62 3 [.int .i64 0,.int .i64 0,.int .i64 0]:=aS (by kernel_rfl)
theorem aYz:Bs 68 4 [.str [],.int .i64 0,.int .i64 0,.int .i64 0]:=aS (by kernel_rfl)
theorem aZ0:Bs 71 4 [.str [],.int .i64 0,.int .i64 0,.int .i64 0]:=aS (by kernel_rfl)
theorem aZ1:Bs 80 4 [.str [],.int .i64 0,.int .i64 0,.int .i64 0]:=aS (by kernel_rfl)
theorem aZ2:Bs 96 1 [.int .i64 0]:=aS (by kernel_rfl)
theorem aZ3:Bs 97 23 [.int .i64 0,.int .i64 0,.int .i64 0,.str [],.int .i64 0,.str [],.int .i64 0,.int .i64 0,.int .i64 0,.int .i64 0,.int .i64 0,.int .i64 0,.int .i64 0,.nils,.str [],.int .i64 0,.int .i64 0,.int .i64 0,.int .i64 0,.int .i64 0,.int .i64 0,.int .i64 0,.int .i64 0]:=aS (by kernel_rfl)
theorem aI9:Cv 229 3 .i64:=iG (by kernel_rfl)
theorem aIa:Cv 229 5 .u8:=iG (by kernel_rfl)
theorem aIb:Cv 3 229 .u64:=iG (by kernel_rfl)
theorem aIc:Cv 3 231 .u64:=iG (by kernel_rfl)
theorem aId:Cv 5 229 .u64:=iG (by kernel_rfl)
theorem aWk:(fun (a_0:List UInt8) (a_1:Int) (a_2:Int) (a_3:Bool) (b_0:List UInt8) (b_1:Int) (b_2:Int) (b_3:Bool)=>nQ prog 100 126 (.agg [.str a_0,.int .i64 a_1,.int .i64 a_2,.bool a_3]) (.agg [.str b_0,.int .i64 b_1,.int .i64 b_2,.bool b_3]))=fun a_0 a_1 a_2 a_3 b_0 b_1 b_2 b_3=>(dR (.ok (lZ a_0 b_0)) (dR (.ok (decide (a_1=b_1))) (dR (.ok (decide (a_2=b_2))) (dR (.ok (a_3 == b_3)) (.ok true))))):=by kernel_rfl
theorem aUe (a_0:List UInt8) (a_1:Int) (a_2:Int) (a_3:Bool) (b_0:List UInt8) (b_1:Int) (b_2:Int) (b_3:Bool):nQ prog 100 126 (.agg [.str a_0,.int .i64 a_1,.int .i64 a_2,.bool a_3]) (.agg [.str b_0,.int .i64 b_1,.int .i64 b_2,.bool b_3])=.ok ((a_0 == b_0)&&decide (a_1=b_1)&&decide (a_2=b_2)&&(a_3 == b_3)):=by
 refine (congrFun (congrFun (congrFun (congrFun (congrFun (congrFun (congrFun (congrFun aWk a_0) a_1) a_2) a_3) b_0) b_1) b_2) b_3).trans ?_
 simp only [gE,cF,Bool.and_true,Bool.and_assoc]
theorem aZ4:(fun a b=>bC prog 126 (.agg a) (.agg b))=fun _ _=>true:=by kernel_rfl
theorem aUf (a b:List V):bC prog 126 (.agg a) (.agg b)=true:=congrFun (congrFun aZ4 a) b
theorem aWl:(fun (a_0:Int) (a_1:Int) (a_2_0:Int) (a_2_1:Int) (a_2_2:Int) (b_0:Int) (b_1:Int) (b_2_0:Int) (b_2_1:Int) (b_2_2:Int)=>nQ prog 100 132 (.agg [.int .i64 a_0,.int .i64 a_1,.int .i64 a_2_0,.int .i64 a_2_1,.int .i64 a_2_2]) (.agg [.int .i64 b_0,.int .i64 b_1,.int .i64 b_2_0,.int .i64 b_2_1,.int .i64 b_2_2]))=fun a_0 a_1 a_2_0 a_2_1 a_2_2 b_0 b_1 b_2_0 b_2_1 b_2_2=>(dR (.ok (decide (a_0=b_0))) (dR (.ok (decide (a_1=b_1))) (dR (dR (.ok (decide (a_2_0=b_2_0))) (dR (.ok (decide (a_2_1=b_2_1))) (dR (.ok (decide (a_2_2=b_2_2))) (.ok true)))) (.ok true)))):=by kernel_rfl
theorem aUg (a_0:Int) (a_1:Int) (a_2_0:Int) (a_2_1:Int) (a_2_2:Int) (b_0:Int) (b_1:Int) (b_2_0:Int) (b_2_1:Int) (b_2_2:Int):nQ prog 100 132 (.agg [.int .i64 a_0,.int .i64 a_1,.int .i64 a_2_0,.int .i64 a_2_1,.int .i64 a_2_2]) (.agg [.int .i64 b_0,.int .i64 b_1,.int .i64 b_2_0,.int .i64 b_2_1,.int .i64 b_2_2])=.ok (decide (a_0=b_0)&&decide (a_1=b_1)&&decide (a_2_0=b_2_0)&&decide (a_2_1=b_2_1)&&decide (a_2_2=b_2_2)):=by
 refine (congrFun (congrFun (congrFun (congrFun (congrFun (congrFun (congrFun (congrFun (congrFun (congrFun aWl a_0) a_1) a_2_0) a_2_1) a_2_2) b_0) b_1) b_2_0) b_2_1) b_2_2).trans ?_
 simp only [gE,cF,Bool.and_true,Bool.and_assoc]
theorem aZ5:(fun a b=>bC prog 132 (.agg a) (.agg b))=fun _ _=>true:=by kernel_rfl
theorem aUh (a b:List V):bC prog 132 (.agg a) (.agg b)=true:=congrFun (congrFun aZ5 a) b
theorem aWm:(fun (a_0:List UInt8) (a_1:Int) (a_2:Int) (a_3:Int) (b_0:List UInt8) (b_1:Int) (b_2:Int) (b_3:Int)=>nQ prog 100 145 (.agg [.str a_0,.int .i64 a_1,.int .i64 a_2,.int .i64 a_3]) (.agg [.str b_0,.int .i64 b_1,.int .i64 b_2,.int .i64 b_3]))=fun a_0 a_1 a_2 a_3 b_0 b_1 b_2 b_3=>(dR (.ok (lZ a_0 b_0)) (dR (.ok (decide (a_1=b_1))) (dR (.ok (decide (a_2=b_2))) (dR (.ok (decide (a_3=b_3))) (.ok true))))):=by kernel_rfl
theorem aUi (a_0:List UInt8) (a_1:Int) (a_2:Int) (a_3:Int) (b_0:List UInt8) (b_1:Int) (b_2:Int) (b_3:Int):nQ prog 100 145 (.agg [.str a_0,.int .i64 a_1,.int .i64 a_2,.int .i64 a_3]) (.agg [.str b_0,.int .i64 b_1,.int .i64 b_2,.int .i64 b_3])=.ok ((a_0 == b_0)&&decide (a_1=b_1)&&decide (a_2=b_2)&&decide (a_3=b_3)):=by
 refine (congrFun (congrFun (congrFun (congrFun (congrFun (congrFun (congrFun (congrFun aWm a_0) a_1) a_2) a_3) b_0) b_1) b_2) b_3).trans ?_
 simp only [gE,cF,Bool.and_true,Bool.and_assoc]
theorem aZ6:(fun a b=>bC prog 145 (.agg a) (.agg b))=fun _ _=>true:=by kernel_rfl
theorem aUj (a b:List V):bC prog 145 (.agg a) (.agg b)=true:=congrFun (congrFun aZ6 a) b
theorem aWn:(fun (a_0:List UInt8) (a_1:List UInt8) (a_2:Int) (a_3:Int) (b_0:List UInt8) (b_1:List UInt8) (b_2:Int) (b_3:Int)=>nQ prog 100 201 (.agg [.str a_0,.str a_1,.int .i64 a_2,.int .i64 a_3]) (.agg [.str b_0,.str b_1,.int .i64 b_2,.int .i64 b_3]))=fun a_0 a_1 a_2 a_3 b_0 b_1 b_2 b_3=>(dR (.ok (lZ a_0 b_0)) (dR (.ok (lZ a_1 b_1)) (dR (.ok (decide (a_2=b_2))) (dR (.ok (decide (a_3=b_3))) (.ok true))))):=by kernel_rfl
theorem aUk (a_0:List UInt8) (a_1:List UInt8) (a_2:Int) (a_3:Int) (b_0:List UInt8) (b_1:List UInt8) (b_2:Int) (b_3:Int):nQ prog 100 201 (.agg [.str a_0,.str a_1,.int .i64 a_2,.int .i64 a_3]) (.agg [.str b_0,.str b_1,.int .i64 b_2,.int .i64 b_3])=.ok ((a_0 == b_0)&&(a_1 == b_1)&&decide (a_2=b_2)&&decide (a_3=b_3)):=by
 refine (congrFun (congrFun (congrFun (congrFun (congrFun (congrFun (congrFun (congrFun aWn a_0) a_1) a_2) a_3) b_0) b_1) b_2) b_3).trans ?_
 simp only [gE,cF,Bool.and_true,Bool.and_assoc]
theorem aZ7:(fun a b=>bC prog 201 (.agg a) (.agg b))=fun _ _=>true:=by kernel_rfl
theorem aUl (a b:List V):bC prog 201 (.agg a) (.agg b)=true:=congrFun (congrFun aZ7 a) b
theorem aWo:(fun (a_0:Int) (a_1:Int) (b_0:Int) (b_1:Int)=>nQ prog 100 346 (.agg [.int .i64 a_0,.int .u64 a_1]) (.agg [.int .i64 b_0,.int .u64 b_1]))=fun a_0 a_1 b_0 b_1=>(dR (.ok (decide (a_0=b_0))) (dR (.ok (decide (a_1=b_1))) (.ok true))):=by kernel_rfl
theorem aUm (a_0:Int) (a_1:Int) (b_0:Int) (b_1:Int):nQ prog 100 346 (.agg [.int .i64 a_0,.int .u64 a_1]) (.agg [.int .i64 b_0,.int .u64 b_1])=.ok (decide (a_0=b_0)&&decide (a_1=b_1)):=by
 refine (congrFun (congrFun (congrFun (congrFun aWo a_0) a_1) b_0) b_1).trans ?_
 simp only [gE,cF,Bool.and_true,Bool.and_assoc]
theorem aZ8:(fun a b=>bC prog 346 (.agg a) (.agg b))=fun _ _=>true:=by kernel_rfl
theorem aUn (a b:List V):bC prog 346 (.agg a) (.agg b)=true:=congrFun (congrFun aZ8 a) b
theorem aZ9:(fun (a_0:Int) (a_1:Int) (a_2:Int) (b_0:Int) (b_1:Int) (b_2:Int)=>nQ prog 100 48 (.agg [.int .i64 a_0,.int .i64 a_1,.int .i64 a_2]) (.agg [.int .i64 b_0,.int .i64 b_1,.int .i64 b_2]))=fun a_0 a_1 a_2 b_0 b_1 b_2=>(dR (.ok (decide (a_0=b_0))) (dR (.ok (decide (a_1=b_1))) (dR (.ok (decide (a_2=b_2))) (.ok true)))):=by kernel_rfl
theorem aZa (a_0:Int) (a_1:Int) (a_2:Int) (b_0:Int) (b_1:Int) (b_2:Int):nQ prog 100 48 (.agg [.int .i64 a_0,.int .i64 a_1,.int .i64 a_2]) (.agg [.int .i64 b_0,.int .i64 b_1,.int .i64 b_2])=.ok (decide (a_0=b_0)&&decide (a_1=b_1)&&decide (a_2=b_2)):=by
 refine (congrFun (congrFun (congrFun (congrFun (congrFun (congrFun aZ9 a_0) a_1) a_2) b_0) b_1) b_2).trans ?_
 simp only [gE,cF,Bool.and_true,Bool.and_assoc]
theorem bF3:(fun a b=>bC prog 48 (.agg a) (.agg b))=fun _ _=>true:=by kernel_rfl
theorem aZb (a b:List V):bC prog 48 (.agg a) (.agg b)=true:=congrFun (congrFun bF3 a) b
theorem aZc:(fun (a_0:Int) (a_1:Int) (a_2:Int) (b_0:Int) (b_1:Int) (b_2:Int)=>nQ prog 100 52 (.agg [.int .i64 a_0,.int .i64 a_1,.int .i64 a_2]) (.agg [.int .i64 b_0,.int .i64 b_1,.int .i64 b_2]))=fun a_0 a_1 a_2 b_0 b_1 b_2=>(dR (.ok (decide (a_0=b_0))) (dR (.ok (decide (a_1=b_1))) (dR (.ok (decide (a_2=b_2))) (.ok true)))):=by kernel_rfl
theorem aZd (a_0:Int) (a_1:Int) (a_2:Int) (b_0:Int) (b_1:Int) (b_2:Int):nQ prog 100 52 (.agg [.int .i64 a_0,.int .i64 a_1,.int .i64 a_2]) (.agg [.int .i64 b_0,.int .i64 b_1,.int .i64 b_2])=.ok (decide (a_0=b_0)&&decide (a_1=b_1)&&decide (a_2=b_2)):=by
 refine (congrFun (congrFun (congrFun (congrFun (congrFun (congrFun aZc a_0) a_1) a_2) b_0) b_1) b_2).trans ?_
 simp only [gE,cF,Bool.and_true,Bool.and_assoc]
theorem bF4:(fun a b=>bC prog 52 (.agg a) (.agg b))=fun _ _=>true:=by kernel_rfl
theorem aZe (a b:List V):bC prog 52 (.agg a) (.agg b)=true:=congrFun (congrFun bF4 a) b
theorem aZf:(fun (a_0:List UInt8) (a_1_0:Int) (a_1_1:Int) (a_1_2:Int) (a_2:Int) (b_0:List UInt8) (b_1_0:Int) (b_1_1:Int) (b_1_2:Int) (b_2:Int)=>nQ prog 100 54 (.agg [.str a_0,.int .i64 a_1_0,.int .i64 a_1_1,.int .i64 a_1_2,.int .i64 a_2]) (.agg [.str b_0,.int .i64 b_1_0,.int .i64 b_1_1,.int .i64 b_1_2,.int .i64 b_2]))=fun a_0 a_1_0 a_1_1 a_1_2 a_2 b_0 b_1_0 b_1_1 b_1_2 b_2=>(dR (.ok (lZ a_0 b_0)) (dR (dR (.ok (decide (a_1_0=b_1_0))) (dR (.ok (decide (a_1_1=b_1_1))) (dR (.ok (decide (a_1_2=b_1_2))) (.ok true)))) (dR (.ok (decide (a_2=b_2))) (.ok true)))):=by kernel_rfl
theorem aZg (a_0:List UInt8) (a_1_0:Int) (a_1_1:Int) (a_1_2:Int) (a_2:Int) (b_0:List UInt8) (b_1_0:Int) (b_1_1:Int) (b_1_2:Int) (b_2:Int):nQ prog 100 54 (.agg [.str a_0,.int .i64 a_1_0,.int .i64 a_1_1,.int .i64 a_1_2,.int .i64 a_2]) (.agg [.str b_0,.int .i64 b_1_0,.int .i64 b_1_1,.int .i64 b_1_2,.int .i64 b_2])=.ok ((a_0 == b_0)&&decide (a_1_0=b_1_0)&&decide (a_1_1=b_1_1)&&decide (a_1_2=b_1_2)&&decide (a_2=b_2)):=by
 refine (congrFun (congrFun (congrFun (congrFun (congrFun (congrFun (congrFun (congrFun (congrFun (congrFun aZf a_0) a_1_0) a_1_1) a_1_2) a_2) b_0) b_1_0) b_1_1) b_1_2) b_2).trans ?_
 simp only [gE,cF,Bool.and_true,Bool.and_assoc]
theorem bF5:(fun a b=>bC prog 54 (.agg a) (.agg b))=fun _ _=>true:=by kernel_rfl
theorem aZh (a b:List V):bC prog 54 (.agg a) (.agg b)=true:=congrFun (congrFun bF5 a) b
theorem aZi:(fun (a_0:List UInt8) (a_1:Int) (b_0:List UInt8) (b_1:Int)=>nQ prog 100 57 (.agg [.str a_0,.int .i64 a_1]) (.agg [.str b_0,.int .i64 b_1]))=fun a_0 a_1 b_0 b_1=>(dR (.ok (lZ a_0 b_0)) (dR (.ok (decide (a_1=b_1))) (.ok true))):=by kernel_rfl
theorem aZj (a_0:List UInt8) (a_1:Int) (b_0:List UInt8) (b_1:Int):nQ prog 100 57 (.agg [.str a_0,.int .i64 a_1]) (.agg [.str b_0,.int .i64 b_1])=.ok ((a_0 == b_0)&&decide (a_1=b_1)):=by
 refine (congrFun (congrFun (congrFun (congrFun aZi a_0) a_1) b_0) b_1).trans ?_
 simp only [gE,cF,Bool.and_true,Bool.and_assoc]
theorem bF6:(fun a b=>bC prog 57 (.agg a) (.agg b))=fun _ _=>true:=by kernel_rfl
theorem aZk (a b:List V):bC prog 57 (.agg a) (.agg b)=true:=congrFun (congrFun bF6 a) b
theorem aZl:(fun (a_0:List UInt8) (a_1:Int) (a_2:Int) (a_3:Int) (b_0:List UInt8) (b_1:Int) (b_2:Int) (b_3:Int)=>nQ prog 100 76 (.agg [.str a_0,.int .i64 a_1,.int .i64 a_2,.int .i64 a_3]) (.agg [.str b_0,.int .i64 b_1,.int .i64 b_2,.int .i64 b_3]))=fun a_0 a_1 a_2 a_3 b_0 b_1 b_2 b_3=>(dR (.ok (lZ a_0 b_0)) (dR (.ok (decide (a_1=b_1))) (dR (.ok (decide (a_2=b_2))) (dR (.ok (decide (a_3=b_3))) (.ok true))))):=by kernel_rfl
theorem aZm (a_0:List UInt8) (a_1:Int) (a_2:Int) (a_3:Int) (b_0:List UInt8) (b_1:Int) (b_2:Int) (b_3:Int):nQ prog 100 76 (.agg [.str a_0,.int .i64 a_1,.int .i64 a_2,.int .i64 a_3]) (.agg [.str b_0,.int .i64 b_1,.int .i64 b_2,.int .i64 b_3])=.ok ((a_0 == b_0)&&decide (a_1=b_1)&&decide (a_2=b_2)&&decide (a_3=b_3)):=by
 refine (congrFun (congrFun (congrFun (congrFun (congrFun (congrFun (congrFun (congrFun aZl a_0) a_1) a_2) a_3) b_0) b_1) b_2) b_3).trans ?_
 simp only [gE,cF,Bool.and_true,Bool.and_assoc]
theorem bF7:(fun a b=>bC prog 76 (.agg a) (.agg b))=fun _ _=>true:=by kernel_rfl
theorem aZn (a b:List V):bC prog 76 (.agg a) (.agg b)=true:=congrFun (congrFun bF7 a) b
theorem aZo:(fun (a_0:List UInt8) (a_1:Int) (b_0:List UInt8) (b_1:Int)=>nQ prog 100 90 (.agg [.str a_0,.int .i64 a_1]) (.agg [.str b_0,.int .i64 b_1]))=fun a_0 a_1 b_0 b_1=>(dR (.ok (lZ a_0 b_0)) (dR (.ok (decide (a_1=b_1))) (.ok true))):=by kernel_rfl
theorem aZp (a_0:List UInt8) (a_1:Int) (b_0:List UInt8) (b_1:Int):nQ prog 100 90 (.agg [.str a_0,.int .i64 a_1]) (.agg [.str b_0,.int .i64 b_1])=.ok ((a_0 == b_0)&&decide (a_1=b_1)):=by
 refine (congrFun (congrFun (congrFun (congrFun aZo a_0) a_1) b_0) b_1).trans ?_
 simp only [gE,cF,Bool.and_true,Bool.and_assoc]
theorem bF8:(fun a b=>bC prog 90 (.agg a) (.agg b))=fun _ _=>true:=by kernel_rfl
theorem aZq (a b:List V):bC prog 90 (.agg a) (.agg b)=true:=congrFun (congrFun bF8 a) b
theorem aIe:Fa 126 0 0:=aA (by kernel_rfl)
theorem aIf:Fa 126 1 1:=aA (by kernel_rfl)
theorem aIg:Fa 126 2 2:=aA (by kernel_rfl)
theorem aIh:Fa 126 3 3:=aA (by kernel_rfl)
theorem aIi:Fa 132 0 0:=aA (by kernel_rfl)
theorem aIj:Fa 132 1 1:=aA (by kernel_rfl)
theorem aIk:Fa 132 2 2:=aA (by kernel_rfl)
theorem aIl:Fa 142 0 0:=aA (by kernel_rfl)
theorem aIm:Fa 142 1 1:=aA (by kernel_rfl)
theorem aIn:Fa 142 2 2:=aA (by kernel_rfl)
theorem aIo:Fa 145 0 0:=aA (by kernel_rfl)
theorem aIp:Fa 145 1 1:=aA (by kernel_rfl)
theorem aIq:Fa 145 2 2:=aA (by kernel_rfl)
theorem aIr:Fa 145 3 3:=aA (by kernel_rfl)
theorem aIs:Fa 160 0 0:=aA (by kernel_rfl)
theorem aIt:Fa 201 0 0:=aA (by kernel_rfl)
theorem aIu:Fa 201 1 1:=aA (by kernel_rfl)
theorem aIv:Fa 201 2 2:=aA (by kernel_rfl)
theorem aIw:Fa 201 3 3:=aA (by kernel_rfl)
theorem aIx:Fa 207 0 0:=aA (by kernel_rfl)
theorem aIy:Fa 207 1 17:=aA (by kernel_rfl)
theorem aIz:Fa 207 2 18:=aA (by kernel_rfl)
theorem aJ0:Fa 207 3 19:=aA (by kernel_rfl)
theorem aJ1:Fa 207 4 20:=aA (by kernel_rfl)
theorem aJ2:Fa 220 1 1:=aA (by kernel_rfl)
theorem aJ3:Fa 220 2 2:=aA (by kernel_rfl)
theorem aJ4:Fa 225 0 0:=aA (by kernel_rfl)
theorem aJ5:Fa 225 1 1:=aA (by kernel_rfl)
theorem aJ6:Fa 225 2 2:=aA (by kernel_rfl)
theorem aJ7:Fa 287 0 0:=aA (by kernel_rfl)
theorem aJ8:Fa 287 1 1:=aA (by kernel_rfl)
theorem aNm:Fa 30 0 0:=aA (by kernel_rfl)
theorem aNn:Fa 30 1 1:=aA (by kernel_rfl)
theorem aNo:Fa 30 2 2:=aA (by kernel_rfl)
theorem aNp:Fa 30 3 3:=aA (by kernel_rfl)
theorem aNq:Fa 30 4 4:=aA (by kernel_rfl)
theorem aNr:Fa 30 5 5:=aA (by kernel_rfl)
theorem aJ9:Fa 346 0 0:=aA (by kernel_rfl)
theorem aJa:Fa 346 1 1:=aA (by kernel_rfl)
theorem aNs:Fa 48 0 0:=aA (by kernel_rfl)
theorem aNt:Fa 48 1 1:=aA (by kernel_rfl)
theorem aNu:Fa 48 2 2:=aA (by kernel_rfl)
theorem aNv:Fa 52 0 0:=aA (by kernel_rfl)
theorem aNw:Fa 52 1 1:=aA (by kernel_rfl)
theorem aNx:Fa 52 2 2:=aA (by kernel_rfl)
theorem aNy:Fa 54 0 0:=aA (by kernel_rfl)
theorem aNz:Fa 54 1 1:=aA (by kernel_rfl)
theorem aO0:Fa 54 2 4:=aA (by kernel_rfl)
theorem aO1:Fa 57 0 0:=aA (by kernel_rfl)
theorem aO2:Fa 57 1 1:=aA (by kernel_rfl)
theorem aO3:Fa 59 0 0:=aA (by kernel_rfl)
theorem aO4:Fa 59 1 1:=aA (by kernel_rfl)
theorem aO5:Fa 59 2 2:=aA (by kernel_rfl)
theorem aO6:Fa 59 3 3:=aA (by kernel_rfl)
theorem aO7:Fa 59 4 8:=aA (by kernel_rfl)
theorem aO8:Fa 59 5 11:=aA (by kernel_rfl)
theorem aO9:Fa 59 6 12:=aA (by kernel_rfl)
theorem aOa:Fa 59 7 14:=aA (by kernel_rfl)
theorem aOb:Fa 61 0 0:=aA (by kernel_rfl)
theorem aOc:Fa 61 1 1:=aA (by kernel_rfl)
theorem aOd:Fa 61 2 2:=aA (by kernel_rfl)
theorem aOe:Fa 76 0 0:=aA (by kernel_rfl)
theorem aOf:Fa 76 1 1:=aA (by kernel_rfl)
theorem aOg:Fa 76 2 2:=aA (by kernel_rfl)
theorem aOh:Fa 76 3 3:=aA (by kernel_rfl)
theorem aOi:Fa 77 0 0:=aA (by kernel_rfl)
theorem aOj:Fa 77 1 1:=aA (by kernel_rfl)
theorem aOk:Fa 77 2 2:=aA (by kernel_rfl)
theorem aOl:Fa 77 3 3:=aA (by kernel_rfl)
theorem aOm:Fa 82 0 0:=aA (by kernel_rfl)
theorem aOn:Fa 82 1 1:=aA (by kernel_rfl)
theorem aOo:Fa 82 2 2:=aA (by kernel_rfl)
theorem aOp:Fa 82 3 3:=aA (by kernel_rfl)
theorem aOq:Fa 84 0 0:=aA (by kernel_rfl)
theorem aOr:Fa 84 1 2:=aA (by kernel_rfl)
theorem aOs:Fa 84 2 5:=aA (by kernel_rfl)
theorem aOt:Fa 84 3 9:=aA (by kernel_rfl)
theorem aOu:Fa 84 4 11:=aA (by kernel_rfl)
theorem aOv:Fa 90 0 0:=aA (by kernel_rfl)
theorem aOw:Fa 90 1 1:=aA (by kernel_rfl)
theorem aOx:Fa 99 0 0:=aA (by kernel_rfl)
theorem aOy:Fa 99 1 17:=aA (by kernel_rfl)
theorem aOz:Fa 99 2 18:=aA (by kernel_rfl)
theorem aP0:Fa 99 3 19:=aA (by kernel_rfl)
theorem aP1:Fa 99 4 20:=aA (by kernel_rfl)
theorem aUo:Ix 102 23:=aT (by kernel_rfl)
theorem aUp:Ix 114 3:=aT (by kernel_rfl)
theorem aZr:Ix 22 1:=aT (by kernel_rfl)
theorem aZs:Ix 24 5:=aT (by kernel_rfl)
theorem aZt:Ix 25 4:=aT (by kernel_rfl)
theorem aZu:Ix 26 12:=aT (by kernel_rfl)
theorem aZv:Ix 27 2:=aT (by kernel_rfl)
theorem aZw:Ix 28 5:=aT (by kernel_rfl)
theorem aUq:Ix 361 1:=aT (by kernel_rfl)
theorem aUr:Ix 364 1:=aT (by kernel_rfl)
theorem aZx:Ix 44 17:=aT (by kernel_rfl)
theorem aZy:Ix 55 4:=aT (by kernel_rfl)
theorem aZz:Ix 62 3:=aT (by kernel_rfl)
theorem bA0:Ix 68 4:=aT (by kernel_rfl)
theorem bA1:Ix 71 4:=aT (by kernel_rfl)
theorem bA2:Ix 80 4:=aT (by kernel_rfl)
theorem bA3:Ix 96 1:=aT (by kernel_rfl)
theorem bA4:Ix 97 23:=aT (by kernel_rfl)
theorem aUs:Ld 126 (some 4):=aQ (by kernel_rfl)
theorem aUt:Ld 132 (some 5):=aQ (by kernel_rfl)
theorem aUu:Ld 145 (some 4):=aQ (by kernel_rfl)
theorem ld2:Ld 2 none:=aQ (by kernel_rfl)
theorem aUv:Ld 201 (some 4):=aQ (by kernel_rfl)
theorem aUw:Ld 212 (some 1):=aQ (by kernel_rfl)
theorem bA5:Ld 22 none:=aQ (by kernel_rfl)
theorem aUx:Ld 220 (some 3):=aQ (by kernel_rfl)
theorem aUy:Ld 229 none:=aQ (by kernel_rfl)
theorem aUz:Ld 232 none:=aQ (by kernel_rfl)
theorem bA6:Ld 24 none:=aQ (by kernel_rfl)
theorem bA7:Ld 25 none:=aQ (by kernel_rfl)
theorem bA8:Ld 26 none:=aQ (by kernel_rfl)
theorem bA9:Ld 27 none:=aQ (by kernel_rfl)
theorem bAa:Ld 28 none:=aQ (by kernel_rfl)
theorem ld3:Ld 3 none:=aQ (by kernel_rfl)
theorem bAb:Ld 30 (some 6):=aQ (by kernel_rfl)
theorem bAc:Ld 31 none:=aQ (by kernel_rfl)
theorem aV0:Ld 346 (some 2):=aQ (by kernel_rfl)
theorem aV1:Ld 349 none:=aQ (by kernel_rfl)
theorem ld4:Ld 4 none:=aQ (by kernel_rfl)
theorem bAd:Ld 48 (some 3):=aQ (by kernel_rfl)
theorem ld5:Ld 5 none:=aQ (by kernel_rfl)
theorem bAe:Ld 52 (some 3):=aQ (by kernel_rfl)
theorem bAf:Ld 54 (some 5):=aQ (by kernel_rfl)
theorem bAg:Ld 55 none:=aQ (by kernel_rfl)
theorem bAh:Ld 57 (some 2):=aQ (by kernel_rfl)
theorem bAi:Ld 59 (some 15):=aQ (by kernel_rfl)
theorem bAj:Ld 61 (some 17):=aQ (by kernel_rfl)
theorem bAk:Ld 76 (some 4):=aQ (by kernel_rfl)
theorem bAl:Ld 80 none:=aQ (by kernel_rfl)
theorem bAm:Ld 82 (some 4):=aQ (by kernel_rfl)
theorem bAn:Ld 84 (some 12):=aQ (by kernel_rfl)
theorem ld9:Ld 9 none:=aQ (by kernel_rfl)
theorem bAo:Ld 90 (some 2):=aQ (by kernel_rfl)
theorem bAp:Ld 99 (some 23):=aQ (by kernel_rfl)
theorem aP2:Ln 102:=cW (by kernel_rfl)
theorem aP3:Ln 114:=cW (by kernel_rfl)
theorem aV2:Ln 22:=cW (by kernel_rfl)
theorem aV3:Ln 24:=cW (by kernel_rfl)
theorem aV4:Ln 25:=cW (by kernel_rfl)
theorem aV5:Ln 26:=cW (by kernel_rfl)
theorem aV6:Ln 27:=cW (by kernel_rfl)
theorem aV7:Ln 28:=cW (by kernel_rfl)
theorem aP4:Ln 361:=cW (by kernel_rfl)
theorem aP5:Ln 364:=cW (by kernel_rfl)
theorem aV8:Ln 44:=cW (by kernel_rfl)
theorem aV9:Ln 55:=cW (by kernel_rfl)
theorem aVa:Ln 62:=cW (by kernel_rfl)
theorem aVb:Ln 68:=cW (by kernel_rfl)
theorem aVc:Ln 71:=cW (by kernel_rfl)
theorem aVd:Ln 80:=cW (by kernel_rfl)
theorem bAq (s:List UInt8) (S:St):tR prog 9 (.str s) S=.ok (.int .i64 s.length):=aKq (by kernel_rfl) s S
theorem aVe:Ln 96:=cW (by kernel_rfl)
theorem aVf:Ln 97:=cW (by kernel_rfl)
theorem bAr:Sl_ 22 1:=dQ (by kernel_rfl)
theorem bAs:Sl_ 24 5:=dQ (by kernel_rfl)
theorem bAt:Sl_ 25 4:=dQ (by kernel_rfl)
theorem bAu:Sl_ 26 12:=dQ (by kernel_rfl)
theorem bAv:Si 26 12:=aGi (by kernel_rfl)
theorem aWp:Sl_ 27 2:=dQ (by kernel_rfl)
theorem bAw:Sl_ 28 5:=dQ (by kernel_rfl)
theorem bAx:Sl_ 55 4:=dQ (by kernel_rfl)
theorem bAy:Sl_ 71 4:=dQ (by kernel_rfl)
theorem bAz:Sl_ 80 4:=dQ (by kernel_rfl)
theorem bB0:Sl_ 96 1:=dQ (by kernel_rfl)
theorem bB1:Sl_ 97 23:=dQ (by kernel_rfl)
theorem aVg:Sr 126 4:=aO (by kernel_rfl)
theorem aVh:Sr 132 5:=aO (by kernel_rfl)
theorem aVi:Sr 145 4:=aO (by kernel_rfl)
theorem aVj:Sr 201 4:=aO (by kernel_rfl)
theorem aVk:Sr 212 1:=aO (by kernel_rfl)
theorem bB2:Sr 22 1:=aO (by kernel_rfl)
theorem aVl:Sr 220 3:=aO (by kernel_rfl)
theorem aVm:Sr 232 1:=aO (by kernel_rfl)
theorem bB3:Sr 24 1:=aO (by kernel_rfl)
theorem bB4:Sr 25 1:=aO (by kernel_rfl)
theorem bB5:Sr 26 1:=aO (by kernel_rfl)
theorem bB6:Sr 27 1:=aO (by kernel_rfl)
theorem bB7:Sr 28 1:=aO (by kernel_rfl)
theorem st3:Sr 3 1:=aO (by kernel_rfl)
theorem bB8:Sr 30 6:=aO (by kernel_rfl)
theorem bB9:Sr 31 1:=aO (by kernel_rfl)
theorem aVn:Sr 346 2:=aO (by kernel_rfl)
theorem st4:Sr 4 1:=aO (by kernel_rfl)
theorem bBa:Sr 48 3:=aO (by kernel_rfl)
theorem st5:Sr 5 1:=aO (by kernel_rfl)
theorem bBb:Sr 52 3:=aO (by kernel_rfl)
theorem bBc:Sr 54 5:=aO (by kernel_rfl)
theorem bBd:Sr 55 1:=aO (by kernel_rfl)
theorem bBe:Sr 57 2:=aO (by kernel_rfl)
theorem bBf:Sr 59 15:=aO (by kernel_rfl)
theorem bBg:Sr 61 17:=aO (by kernel_rfl)
theorem bBh:Sr 80 1:=aO (by kernel_rfl)
theorem bBi:Sr 82 4:=aO (by kernel_rfl)
theorem bBj:Sr 84 12:=aO (by kernel_rfl)
theorem st9:Sr 9 1:=aO (by kernel_rfl)
theorem bBk:Sr 90 2:=aO (by kernel_rfl)
theorem bBl:Sr 99 23:=aO (by kernel_rfl)
end Go.Proofs.YtoaibmbldmckaaaGreat
end
section
namespace Go.AM
open Go.RowKit Go.Lib Go.Proofs Go.Shelf
theorem zC {P:Program} {t:TypeId} (h:(P.info? t).isSome=true) (w:World):(Go.sizeOf t).run P w=.ok (sz P t) w:=by
 obtain ⟨i,hi⟩:=Option.isSome_iff_exists.1 h
 simp [sizeOf,typeInfo,hi,fJ hi]
theorem gX {P:Program} {t:TypeId} (h:(P.info? t).map (·.size)=some 1) (w:World):(Go.sizeOf t).run P w=.ok 1 w:=by
 cases hi:P.info? t with
 | none=>rw [hi] at h;cases h
 | some i=>rw [hi] at h;simp [sizeOf,typeInfo,hi] at h ⊢;exact h
theorem lQ {P:Program} {f:FuncId} {T e I B:TypeId} {ov rr:FuncId} {fn fo:Func} (mixed:P.follows .mixedOrders=true) (hf:P.funcs[f]?=some fn) (hb:fn.body=some (sJ T I B ov rr)) (hn:fn.ntmps=95) (hr:fn.results=#[.tmp 6])
  (tT:P.underlying T=some (.slice e)) (tI:P.underlying I=some (.int .i64)) (tB:P.underlying B=some .bool)
  (ho:P.funcs[ov]?=some fo) (o1:(fo.name == "runtime.NumGoroutine")=false) (o2:fo.body.isNone=true) (o3:Extern.findNext fo=none) (o4:Extern.find fo=some (Extern.SlicesOverlaps.overlaps #[T,T] #[B]))
  (zE:(P.info? e).isSome=true) (zT:(P.info? T).map (·.size)=some 1) (zI:(P.info? I).map (·.size)=some 1) (zB:(P.info? B).map (·.size)=some 1):InsAt P f T e I B ov rr fn:=
 ⟨mixed,hf,hb,hn,hr,tT,tI,tB,run_callFunc_extern ho o1 o2 o3 o4,zC zE,gX zT,gX zI,gX zB⟩
theorem aP6 {P:Program} {f:FuncId} {T e I B:TypeId} {fn:Func} (mixed:P.follows .mixedOrders=true) (hf:P.funcs[f]?=some fn) (hb:fn.body=some (wM T I B)) (hn:fn.ntmps=33) (hr:fn.results=#[.tmp 6])
  (tT:P.underlying T=some (.slice e)) (tI:P.underlying I=some (.int .i64)) (tB:P.underlying B=some .bool)
  (zE:(P.info? e).isSome=true) (zT:(P.info? T).map (·.size)=some 1) (zI:(P.info? I).map (·.size)=some 1) (zB:(P.info? B).map (·.size)=some 1):DelAt P f T e I B fn:=
 ⟨mixed,hf,hb,hn,hr,tT,tI,tB,zC zE,gX zT,gX zI,gX zB⟩
end Go.AM
end
section
set_option linter.unusedSimpArgs false
set_option linter.unusedVariables false
namespace Go.AM
structure Lit where
 args:List V
 n:Nat
 blocks:List (Nat×Blk)
 v:V
 n':Nat
 blocks':List (Nat×Blk)
end Go.AM
namespace Go.AM
theorem aP7 {fn:Func} (h:fn.body.isSome=true):fn.body=some (fn.body.get h):=(Option.some_get h).symm
end Go.AM
end
section
set_option linter.unusedSimpArgs false
set_option linter.unusedVariables false
namespace Go.AM
open Go.RowKit
theorem RelH.grow {F:Nat→Option Obj} {G:Gh} {S:St} {H H':Array Obj} (R:dI F G S H) (hs:H.size≤H'.size) (old:∀ i,i<H.size→H'[i]?=H[i]?):dI F G S H':=by
 have lt:∀ {i:Nat} {o:Obj},H[i]?=some o→i<H.size:=fun h=>(Array.getElem?_eq_some_iff.1 h).1
 constructor
 ·exact R.fresh
 ·exact R.sep
 ·intro a b hb
  have hold:=R.blk a b hb
  cases b with
  | row ver' es' elems'=>
   obtain ⟨K,hK,r1,r2,r3,c',ty',fr',hc',r⟩:=hold
   exact ⟨K,hK,r1,r2,r3,c',ty',fr',by rw [old _ (lt hc')];exact hc',r⟩
  | mp kvs=>
   obtain ⟨i,es',clock,hi,hH',r⟩:=hold
   exact ⟨i,es',clock,hi,by rw [old _ (lt hH')];exact hH',r⟩
  | iter s pos=>
   obtain ⟨K,hK,r1,r2,hH'⟩:=hold
   exact ⟨K,hK,r1,r2,by rw [old _ (lt hH')];exact hH'⟩
 ·exact R.inj
 ·intro i o h
  have:=R.fr i o h
  rw [old i (lt this)];exact this
 ·intro i o h
  have:=R.pr i o h
  rw [old i (lt this)];exact this
 ·exact R.own
 ·intro a i h
  have:=R.lt a i h
  omega
 ·exact R.small
theorem aL6 {P:Program} {f:FuncId} {fn:Func} (hf:P.funcs[f]?=some fn) (hn:(fn.name == "runtime.NumGoroutine")=false) (hb:fn.body.isSome=true)
  (h:∀ W,Calls P f #[] W fun e W'=>e=.returned (.bool true)∧Below W.heap.size W W'):SpecOK P f (Sp.told.run P):=by
 refine ⟨⟨fn,_,hf,hn,aP7 hb⟩,fun {args S S' v} hr=>?_⟩
 intro F G W cs R hvs
 match args,hr with
 | [],hr=>
  cases hr
  cases hvs
  refine (h W).mono ?_
  rintro e W' ⟨rfl,hw⟩
  have hw':=hw
  obtain ⟨w1,w2,w3,w4,w5⟩:=hw
  have old:∀ i,i<W.heap.size→W'.heap[i]?=W.heap[i]?:=w5
  exact ⟨G,.bool true,rfl,⟨G.le_refl,R.grow w4 old,⟨w1,w2,w3,w4⟩,Nat.le_refl _,fun _ _ _ _=>⟨rfl,rfl⟩,fun _ h _ _=>h,fun _ _ h=>.inl h⟩,.bool true⟩
end Go.AM
namespace Go.AM
open Go.RowKit
end Go.AM
end
section
namespace Go.Proofs.YtoaibmbldmckaaaGreat
open Go.RowKit Go.AM Tryz
theorem aVo:SpecOK prog 202 ((Sp.ins 68).run prog):=
 fP (e:=76) (I:=3) (B:=4) (ov:=247) (rr:=248) (fn:=Tryz.f202) (lQ (fo:=Tryz.f247) (by kernel_rfl) (by kernel_rfl) (by kernel_rfl) (by kernel_rfl) (by kernel_rfl)
  (by kernel_rfl) (by kernel_rfl) (by kernel_rfl) (by kernel_rfl) (by kernel_rfl) (by kernel_rfl) (by kernel_rfl) (by kernel_rfl) (by kernel_rfl) (by kernel_rfl) (by kernel_rfl) (by kernel_rfl)) (by kernel_rfl)
theorem aVp:SpecOK prog 221 ((Sp.ins 27).run prog):=
 fP (e:=90) (I:=3) (B:=4) (ov:=256) (rr:=257) (fn:=Tryz.f221) (lQ (fo:=Tryz.f256) (by kernel_rfl) (by kernel_rfl) (by kernel_rfl) (by kernel_rfl) (by kernel_rfl)
  (by kernel_rfl) (by kernel_rfl) (by kernel_rfl) (by kernel_rfl) (by kernel_rfl) (by kernel_rfl) (by kernel_rfl) (by kernel_rfl) (by kernel_rfl) (by kernel_rfl) (by kernel_rfl) (by kernel_rfl)) (by kernel_rfl)
theorem aVq:SpecOK prog 230 ((Sp.ins 28).run prog):=
 fP (e:=132) (I:=3) (B:=4) (ov:=261) (rr:=262) (fn:=Tryz.f230) (lQ (fo:=Tryz.f261) (by kernel_rfl) (by kernel_rfl) (by kernel_rfl) (by kernel_rfl) (by kernel_rfl)
  (by kernel_rfl) (by kernel_rfl) (by kernel_rfl) (by kernel_rfl) (by kernel_rfl) (by kernel_rfl) (by kernel_rfl) (by kernel_rfl) (by kernel_rfl) (by kernel_rfl) (by kernel_rfl) (by kernel_rfl)) (by kernel_rfl)
theorem aVr:SpecOK prog 234 ((Sp.ins 25).run prog):=
 fP (e:=126) (I:=3) (B:=4) (ov:=264) (rr:=265) (fn:=Tryz.f234) (lQ (fo:=Tryz.f264) (by kernel_rfl) (by kernel_rfl) (by kernel_rfl) (by kernel_rfl) (by kernel_rfl)
  (by kernel_rfl) (by kernel_rfl) (by kernel_rfl) (by kernel_rfl) (by kernel_rfl) (by kernel_rfl) (by kernel_rfl) (by kernel_rfl) (by kernel_rfl) (by kernel_rfl) (by kernel_rfl) (by kernel_rfl)) (by kernel_rfl)
theorem aVs:SpecOK prog 237 ((Sp.ins 24).run prog):=
 fP (e:=54) (I:=3) (B:=4) (ov:=266) (rr:=267) (fn:=Tryz.f237) (lQ (fo:=Tryz.f266) (by kernel_rfl) (by kernel_rfl) (by kernel_rfl) (by kernel_rfl) (by kernel_rfl)
  (by kernel_rfl) (by kernel_rfl) (by kernel_rfl) (by kernel_rfl) (by kernel_rfl) (by kernel_rfl) (by kernel_rfl) (by kernel_rfl) (by kernel_rfl) (by kernel_rfl) (by kernel_rfl) (by kernel_rfl)) (by kernel_rfl)
theorem aVt:SpecOK prog 280 ((Sp.ins 80).run prog):=
 fP (e:=145) (I:=3) (B:=4) (ov:=288) (rr:=289) (fn:=Tryz.f280) (lQ (fo:=Tryz.f288) (by kernel_rfl) (by kernel_rfl) (by kernel_rfl) (by kernel_rfl) (by kernel_rfl)
  (by kernel_rfl) (by kernel_rfl) (by kernel_rfl) (by kernel_rfl) (by kernel_rfl) (by kernel_rfl) (by kernel_rfl) (by kernel_rfl) (by kernel_rfl) (by kernel_rfl) (by kernel_rfl) (by kernel_rfl)) (by kernel_rfl)
theorem aVu:SpecOK prog 240 ((Sp.del 28).run prog):=
 aEo (e:=132) (I:=3) (B:=4) (fn:=Tryz.f240) (aP6 (by kernel_rfl) (by kernel_rfl) (by kernel_rfl) (by kernel_rfl) (by kernel_rfl)
  (by kernel_rfl) (by kernel_rfl) (by kernel_rfl) (by kernel_rfl) (by kernel_rfl) (by kernel_rfl) (by kernel_rfl)) (by kernel_rfl)
theorem fF {P:Program} {a b:fA} (h:eS P a=true) (k:eS P b=true):eS P (a++b)=true:=by unfold eS at *;rw [List.all_append,h,k];rfl
def bBm:aAv:=[(202,.ins 68),(221,.ins 27),(230,.ins 28),(234,.ins 25),(237,.ins 24),(280,.ins 80),(240,.del 28)]
theorem aRg:SpAll prog bBm:=⟨aVo,aVp,aVq,aVr,aVs,aVt,aVu,trivial⟩
theorem aP8:aR8=aN7++(aN8++(aN9++(aNa++(aNb++(aNc++(aNd++(aNe++(aNf++(aNg++(aI1++(aI2++(aI3++(aI4++(aI5++(aI6++(aI7)))))))))))))))):=rfl
theorem aJb:eS prog aR8=true:=by
 rw [aP8]
 exact fF aKw (fF aKx (fF aKy (fF aKz (fF aL0 (fF aL1 (fF aL2 (fF aL3 (fF aL4 (fF aL5 (fF aGs (fF aGt (fF aGu (fF aGv (fF aGw (fF aGx (aGy))))))))))))))))
theorem aP9:xT (dV prog (mH prog bBm aR8) 1000 25 [] St.empty)=true:=by kernel_rfl
theorem bF9:SpecOK prog 25 (Sp.told.run prog):=aL6 Tryz.func25 (by kernel_rfl) (by kernel_rfl) fun W=>aGe (yM (by kernel_rfl) aRg aJb) aP9 W
theorem aWq:SpAll prog dSp:=⟨aVo,aVp,aVq,aVr,aVs,aVt,aVu,bF9,trivial⟩
theorem aL7:PlansOK prog dPl:=yM (by kernel_rfl) aWq aJb
end Go.Proofs.YtoaibmbldmckaaaGreat
end
section
namespace Go.Proofs.YtoaibmbldmckaaaGreat
open Go.AM Tryz
def aPa (y:Int):Bool:=if y.tmod 4=0 then (if y.tmod 100=0 then decide (y.tmod 400=0) else true) else false
def fH (y m:Int):Int:=if m=2 then (if aPa y=true then 29 else 28) else if m=4∨m=6∨m=9∨m=11 then 30 else 31
structure Date where
 y:Int
 m:Int
 d:Int
deriving DecidableEq
def Date.enc (d:Date):List V:=[.int .i64 d.y,.int .i64 d.m,.int .i64 d.d]
def Date.right (d:Date):Bool:=decide (1≤d.y)&&(decide (d.y≤9999)&&(decide (1≤d.m)&&(decide (d.m≤12)&&(decide (1≤d.d)&&decide (d.d≤fH d.y d.m)))))
def aF4 (y:Int):Int:=
 wr .i64 (wr .i64 (wr .i64 (wr .i64 (365*wr .i64 (y - 1))+wr .i64 ((wr .i64 (y - 1)).tdiv 4)) - wr .i64 ((wr .i64 (y - 1)).tdiv 100))+wr .i64 ((wr .i64 (y - 1)).tdiv 400))
def gY (y:Int) (n:Int) (i:Nat):Int⊕Int:=.inr (wr .i64 (n+fH y ((i:Int)+1)))
def Date.days (d:Date):Int:=if d.right=true then wr .i64 (wr .i64 (aE (gY d.y) id (List.range (d.m - 1).toNat) (aF4 d.y)+d.d) - 1) else -1
def Date.before (a b:Date):Bool:=a.right&&(b.right&&decide (a.days<b.days))
def iS (a b:Int):Int×Int:=
 if (0<b∧wr .i64 (9223372036854775807 - b)<a)∨(b<0∧a<wr .i64 (-9223372036854775808 - b)) then (0,7) else (wr .i64 (a+b),0)
def bK (a b:Int):Int×Int:=
 if (b<0∧wr .i64 (9223372036854775807+b)<a)∨(0<b∧a<wr .i64 (-9223372036854775808+b)) then (0,7) else (wr .i64 (a - b),0)
def eG (r:Int×Int):V:=.tup [.int .i64 r.1,.int .i64 r.2]
def aDa (n:Int):Int:=wr .u64 ((BitVec.ofInt IntKind.u64.bits (if IntKind.u64.signed then -1 else IntKind.u64.max) ^^^ BitVec.ofInt IntKind.u64.bits n).toNat)
def aJc (n:Int):Int:=if n<0 then wr .u64 (aDa (wr .u64 n)+1) else wr .u64 n
def cY (n bp:Int):Int×Int:=
 if bp<0∨100000<bp then (0,1) else
  let u:=aJc n
  let p:=wr .u64 bp
  let many:=wr .u64 (u.tdiv 10000)
  let rest:=u.tmod 10000
  if 0<p∧wr .u64 ((9223372036854775807:Int).tdiv p)<many then (0,7) else
   let out:=wr .u64 (wr .u64 (many*p)+wr .u64 ((wr .u64 (wr .u64 (wr .u64 (2*rest)*p)+10000)).tdiv (wr .u64 (2*10000))))
   if 9223372036854775807<out then (0,7) else if n<0 then (wr .i64 (0 - wr .i64 out),0) else (wr .i64 out,0)
theorem zD:wr .u64 (2*10000)=20000:=by decide
theorem aWr:wr .u64 10000=10000:=by decide
def jG (r:Int):Bool:=
 if (97≤r∧r≤122)∨(65≤r∧r≤90) then true else if r=215 then false else if r=247 then false else decide (192≤r)&&decide (r≤591)
def jA (s:List UInt8):Nat→Nat→List (Nat×Nat)
 | 0,_=>[]
 | f+1,pos=>if pos<s.length then (pos,(Utf8.decode ⟨⟨s⟩⟩ pos).1)::jA s f (pos+(Utf8.decode ⟨⟨s⟩⟩ pos).2) else []
theorem aF5 (s:ByteArray) (i:Nat):1≤(Utf8.decode s i).2:=by
 unfold Utf8.decode
 simp only
 repeat' split
 all_goals simp
def jW (_:Unit) (x:Nat×Nat):Bool⊕Unit:=
 if jG x.2=true then .inr () else if x.1=0 then .inl false else if (48≤x.2∧x.2≤57)∨x.2=45∨x.2=95∨x.2=46 then .inr () else .inl false
def dX (s:List UInt8):Bool:=if s.length<1 then false else if 24<s.length then false else aE jW (fun _=>true) (jA s s.length 0) ()
structure Rate where
 cat:List UInt8
 day:Date
 bp:Int
deriving DecidableEq
def Rate.enc (r:Rate):List V:=[.str r.cat,.int .i64 r.day.y,.int .i64 r.day.m,.int .i64 r.day.d,.int .i64 r.bp]
def zF (r:Rate):Int:=if dX r.cat=false then 8 else if r.day.right=false then 9 else if r.bp<0 then 10 else if 100000<r.bp then 10 else 0
def gG (a b:Rate):Bool:=if iW a.cat b.cat=true then true else if (a.cat == b.cat)=true then a.day.before b.day else false
def dS (prev:Option Rate) (r:Rate):Bool⊕Option Rate:=
 if zF r≠0 then .inl false else match prev with
  | none=>.inr (some r)
  | some p=>if gG p r=true then .inr (some r) else .inl false
def iT (l:List Rate):Bool:=if 24<l.length then false else aE dS (fun _=>true) l none
def bL {α:Type} (l:List α) (i:Nat):Option α:=if i=0 then none else l[i - 1]?
structure Rep where
 why:Int
 number:Int
 gross:Int
deriving DecidableEq
structure Sess where
 id:Int
 last:Int
 reply:Rep
deriving DecidableEq
def Rep.enc (r:Rep):List V:=[.int .i64 r.why,.int .i64 r.number,.int .i64 r.gross]
def Sess.enc (s:Sess):List V:=[.int .i64 s.id,.int .i64 s.last,.int .i64 s.reply.why,.int .i64 s.reply.number,.int .i64 s.reply.gross]
def Rep.zero:Rep:=⟨0,0,0⟩
def dC (last:Int) (s:Sess):Bool⊕Int:=
 if s.id≤last then .inl false else if s.last<0 then .inl false else if 1099511627776<s.last then .inl false else if s.last=0∧s.reply≠Rep.zero then .inl false else .inr s.id
def kU (l:List Sess):Bool:=if 8<l.length then false else aE dC (fun _=>true) l 0
def cM {α:Type} (p:α→Bool) (n:Nat) (a:α):Int⊕Nat:=if p a=true then .inl (n:Int) else .inr (n+1)
def ixM {α:Type} (p:α→Bool) (l:List α):Int:=aE (cM p) (fun _=>-1) l 0
theorem aBm {α:Type} (p:α→Bool):∀ (l:List α) (n:Nat),(aE (cM p) (fun _=>-1) l n=-1)∨∃ (i:Nat) (a:α),aE (cM p) (fun _=>-1) l n=((n+i:Nat):Int)∧l[i]?=some a∧p a=true
 | [],n=>.inl rfl
 | a::l,n=>by
  by_cases h:p a=true
  ·refine .inr ⟨0,a,?_,rfl,h⟩
   simp [aE,cM,h]
  ·rcases aBm p l (n+1) with h1 | ⟨i,b,h1,h2,h3⟩
   ·left;simp [aE,cM,h,h1]
   ·right
    refine ⟨i+1,b,?_,by simpa using h2,h3⟩
    simp only [aE,cM,h,if_false]
    simp only [h1,Bool.false_eq_true,if_false]
    omega
theorem fQ {α:Type} (p:α→Bool) (l:List α):(ixM p l=-1)∨∃ (i:Nat) (a:α),ixM p l=(i:Int)∧l[i]?=some a∧p a=true:=by
 rcases aBm p l 0 with h | ⟨i,a,h1,h2,h3⟩
 ·exact .inl h
 ·exact .inr ⟨i,a,by rw [ixM,h1];simp,h2,h3⟩
def aPb (l:List Sess) (id:Int):Int:=ixM (fun s:Sess=>decide (s.id=id)) l
def bHu (l:List Sess) (id seq:Int):Rep×Bool×Int:=
 if kU l=false then (Rep.zero,false,1) else if aPb l id<0 then (Rep.zero,false,15) else if seq<1∨1099511627776<seq then (Rep.zero,false,1) else
  match l[(aPb l id).toNat]? with
  | none=>(Rep.zero,false,1)
  | some s=>if seq=s.last then (s.reply,true,0) else if seq<s.last then (Rep.zero,false,16) else (Rep.zero,false,0)
theorem aBn {l:List Sess} (h:kU l=true):l.length≤8:=by
 unfold kU at h
 split at h
 ·cases h
 ·omega
def kV {α:Type} (p:α→Bool) (n:Nat) (a:α):Nat⊕Nat:=if p a=true then .inr (n+1) else .inl n
def aRh {α:Type} (p:α→Bool) (l:List α):Nat:=aE (kV p) id l 0
theorem aBo {α:Type} (p:α→Bool):∀ (l:List α) (n:Nat),aE (kV p) id l n≤n+l.length
 | [],n=>by simp [aE]
 | a::l,n=>by
  have ih:=aBo p l (n+1)
  by_cases h:p a=true
  ·simp only [aE,kV,h,if_true,List.length_cons];omega
  ·simp only [aE,kV,h,if_false,List.length_cons,Bool.false_eq_true];omega
theorem aRi {α:Type} (p:α→Bool) (l:List α):aRh p l≤l.length:=by have:=aBo p l 0;simp only [aRh];omega
def nJ {α:Type} (l:List α) (i:Nat) (a:α):List α:=l.take i++a::l.drop i
theorem aL8 {α β:Type} (f:α→β) (l:List α) (i:Nat) (a:α):(nJ l i a).map f=(l.map f).take i++f a::(l.map f).drop i:=by simp [nJ,List.map_take,List.map_drop]
structure Ser where
 name:List UInt8
 next:Int
 limit:Int
 shut:Bool
deriving DecidableEq
def Ser.enc (s:Ser):List V:=[.str s.name,.int .i64 s.next,.int .i64 s.limit,.bool s.shut]
def eH (l:List Ser) (name:List UInt8):Int:=ixM (fun s:Ser=>s.name == name) l
theorem vG (l:List Ser) (name:List UInt8):eH l name=-1∨∃ (i:Nat) (s:Ser),eH l name=(i:Int)∧l[i]?=some s∧s.name=name:=by
 rcases fQ (fun s:Ser=>s.name == name) l with h | ⟨i,s,h1,h2,h3⟩
 ·exact .inl h
 ·exact .inr ⟨i,s,h1,h2,by simpa using h3⟩
def mS (s:Ser):Bool:=decide (s.limit<1)||(decide (1099511627776<s.limit)||(decide (s.next<1)||decide (wr .i64 (s.limit+1)<s.next)))
def iI (prev:Option Ser) (s:Ser):Bool:=match prev with
 | none=>false
 | some p=>!iW p.name s.name
def gH (prev:Option Ser) (s:Ser):Bool⊕Option Ser:=
 if dX s.name=false then .inl false else if iI prev s=true then .inl false else if mS s=true then .inl false else .inr (some s)
def rG (l:List Ser):Bool:=if 8<l.length then false else aE gH (fun _=>true) l none
theorem aF7 {l:List Ser} (h:rG l=true):l.length≤8:=by
 unfold rG at h
 split at h
 ·cases h
 ·omega
structure Bal where
 acc:List UInt8
 amount:Int
deriving DecidableEq
def Bal.enc (b:Bal):List V:=[.str b.acc,.int .i64 b.amount]
structure Part where
 cat:List UInt8
 bp:Int
 net:Int
 tax:Int
deriving DecidableEq
def Part.enc (p:Part):List V:=[.str p.cat,.int .i64 p.bp,.int .i64 p.net,.int .i64 p.tax]
structure Total where
 net:Int
 tax:Int
 gross:Int
 parts:List Part
deriving DecidableEq
def oL (prev:Option Bal) (b:Bal):Bool⊕Option Bal:=match prev with
 | none=>.inl false
 | some p=>if iW p.acc b.acc=true then .inr (some b) else .inl false
def qC (l:List Bal):Bool:=aE oL (fun _=>true) (l.drop 1) l[0]?
def rH:List UInt8:=[110,101,116,47]
def rI:List UInt8:=[116,97,120,47]
def mT (l:List Bal) (p:Part):(List Bal×Int)⊕List Bal:=
 if (bK 0 p.net).2≠0 then .inl ([],7) else if (bK 0 p.tax).2≠0 then .inl ([],7) else .inr (l++[⟨rH++p.cat,(bK 0 p.net).1⟩,⟨rI++p.cat,(bK 0 p.tax).1⟩])
def dG (t:Total):List Bal×Int:=aE mT (fun l=>(l,0)) t.parts [⟨[111,119,101,100],t.gross⟩]
theorem aF8:∀ (l:List Part) (a:List Bal) (r:List Bal×Int),aE mT (fun l=>(l,0)) l a=r→r.2=0→r.1.length=a.length+2*l.length
 | [],a,r,h,_=>by subst h;simp [aE]
 | p::l,a,r,h,h0=>by
  simp only [aE,mT] at h
  split at h
  ·rename_i r' he
   split at he
   ·cases he;subst h;cases h0
   ·split at he
    ·cases he;subst h;cases h0
    ·cases he
  ·rename_i s' he
   split at he
   ·cases he
   ·split at he
    ·cases he
    ·cases he
     have:=aF8 l _ r h h0
     simp only [List.length_append,List.length_cons,List.length_nil] at this ⊢
     omega
theorem aL9 {α:Type} (l:List α) (i:Nat) (a:α) (h:i≤l.length):(nJ l i a)[i]?=some a:=by
 unfold nJ
 rw [List.getElem?_append_right (by rw [List.length_take];omega),List.length_take,Nat.min_eq_left h,Nat.sub_self]
 rfl
theorem lR {α:Type} (l:List α) (i:Nat) (a:α) (h:i≤l.length):(nJ l i a).length=l.length+1:=by
 simp only [nJ,List.length_append,List.length_take,List.length_cons,List.length_drop];omega
def aH (l:List Bal) (acc:List UInt8):Nat:=aRh (fun b=>iW b.acc acc) l
def dM (l:List Bal) (acc:List UInt8):Bool:=match l[aH l acc]? with
 | none=>true
 | some b=>!(b.acc == acc)
def bD (l:List Bal) (acc:List UInt8):List Bal:=if dM l acc=true then nJ l (aH l acc) ⟨acc,0⟩ else l
def bF (l:List Bal) (x:Bal):(List Bal×Int)⊕List Bal:=match (bD l x.acc)[aH l x.acc]? with
 | none=>.inl ([],0)
 | some b=>if (iS b.amount x.amount).2≠0 then .inl ([],(iS b.amount x.amount).2) else .inr ((bD l x.acc).set (aH l x.acc) ⟨b.acc,(iS b.amount x.amount).1⟩)
def cH (book l:List Bal):List Bal×Int:=if qC book=false then ([],1) else aE bF (fun l=>(l,0)) l book
theorem kW (l:List Bal) (acc:List UInt8):aH l acc≤l.length:=aRi _ _
theorem vH (l:List Bal) (acc:List UInt8):∃ b,(bD l acc)[aH l acc]?=some b:=by
 unfold bD
 split
 ·exact ⟨_,aL9 _ _ _ (kW l acc)⟩
 ·rename_i h
  unfold dM at h
  split at h
  ·exact absurd rfl h
  ·rename_i b hb;exact ⟨b,hb⟩
theorem vI (l:List Bal) (acc:List UInt8):(bD l acc).length≤l.length+1:=by
 unfold bD
 split
 ·rw [lR _ _ _ (kW l acc)];exact Nat.le_refl _
 ·omega
theorem mU (l:List Bal) (x:Bal):bF l x=if (iS ((bD l x.acc)[aH l x.acc]?.map (·.amount) |>.getD 0) x.amount).2≠0 then .inl ([],(iS ((bD l x.acc)[aH l x.acc]?.map (·.amount) |>.getD 0) x.amount).2)
  else .inr ((bD l x.acc).set (aH l x.acc) ⟨((bD l x.acc)[aH l x.acc]?.map (·.acc) |>.getD []),(iS ((bD l x.acc)[aH l x.acc]?.map (·.amount) |>.getD 0) x.amount).1⟩):=by
 obtain ⟨b,hb⟩:=vH l x.acc
 unfold bF
 simp only [hb,Option.map_some,Option.getD_some]
theorem aAk {l l':List Bal} {x:Bal} (h:bF l x=.inr l'):l'.length≤l.length+1:=by
 rw [mU] at h
 split at h
 ·cases h
 ·cases h
  rw [List.length_set]
  exact vI l x.acc
theorem zG:∀ (l:List Bal) (a:List Bal) (r:List Bal×Int),aE bF (fun l=>(l,0)) l a=r→r.1.length≤a.length+l.length
 | [],a,r,h=>by subst h;simp [aE]
 | x::l,a,r,h=>by
  simp only [aE] at h
  split at h
  ·rename_i r' he
   subst h
   rw [mU] at he
   split at he
   ·cases he;simp
   ·cases he
  ·rename_i s' he
   have h1:=aAk he
   have:=zG l _ r h
   simp only [List.length_cons]
   omega
def bS (n:Int):List V:=[.int .i64 n]
theorem aLa (n:Int):0≤wr .u64 n∧wr .u64 n<18446744073709551616:=by
 unfold wr lo hi
 simp only
 split
 ·omega
 ·show 0≤n % 18446744073709551616∧n % 18446744073709551616<18446744073709551616
  omega
theorem bBn:aDa 0=18446744073709551615:=by decide
def pF (st:Int×Int) (n:Int):(Int×Bool)⊕(Int×Int):=
 .inr ((st.1+(if n<0 then 18446744073709551615 else 0)+(st.2+wr .u64 n+0) / 18446744073709551616) % 18446744073709551616,(st.2+wr .u64 n+0) % 18446744073709551616)
def oM (st:Int×Int):Int×Bool:=(wr .i64 st.2,if st.2.fdiv (2 ^ 63)=0 then decide (st.1=0) else decide (st.1=18446744073709551615))
def cR (l:List Int):Int×Bool:=aE pF oM l (0,0)
def aLb (l:List Part) (cat:List UInt8):Nat:=aRh (fun p=>iW p.cat cat) l
def bBo (l:List Part) (cat:List UInt8):Bool:=match l[aLb l cat]? with
 | none=>true
 | some b=>!(b.cat == cat)
def Total.zero:Total:=⟨0,0,0,[]⟩
def lS (n:Int):V:=.int .i64 n
def mV (done:List Int) (x:Int):(List Int×Int)⊕List Int:=if (bK 0 x).2≠0 then .inl ([],(bK 0 x).2) else .inr (done++[(bK 0 x).1])
def eA (l:List Int):List Int×Int:=aE mV (fun l=>(l,0)) l []
def cU (acc:List Part) (p:Part):(List Part×Int)⊕List Part:=
 if (eA [p.net,p.tax]).2≠0 then .inl ([],(eA [p.net,p.tax]).2) else .inr (acc++[{ p with net:=(eA [p.net,p.tax]).1.getD 0 0,tax:=(eA [p.net,p.tax]).1.getD 1 0 }])
def dT (t:Total):Total×Int:=
 if (eA [t.net,t.tax,t.gross]).2≠0 then (Total.zero,(eA [t.net,t.tax,t.gross]).2) else
  if (aE cU (fun l=>(l,0)) t.parts []).2≠0 then (Total.zero,(aE cU (fun l=>(l,0)) t.parts []).2) else
   (⟨(eA [t.net,t.tax,t.gross]).1.getD 0 0,(eA [t.net,t.tax,t.gross]).1.getD 1 0,(eA [t.net,t.tax,t.gross]).1.getD 2 0,(aE cU (fun l=>(l,0)) t.parts []).1⟩,0)
structure Ref where
 ser:List UInt8
 num:Int
deriving DecidableEq
def Ref.enc (r:Ref):List V:=[.str r.ser,.int .i64 r.num]
def Ref.zero:Ref:=⟨[],0⟩
structure Posted where
 ref:Ref
 day:Date
 total:Total
 of:Ref
 back:Bool
deriving DecidableEq
def Posted.cells (p:Posted) (pv:V):List V:=[.str p.ref.ser,.int .i64 p.ref.num,.int .i64 p.day.y,.int .i64 p.day.m,.int .i64 p.day.d,.int .i64 p.total.net,.int .i64 p.total.tax,.int .i64 p.total.gross,pv,.str p.of.ser,.int .i64 p.of.num,.bool p.back]
def cE (l:List Posted) (r:Ref):Int:=ixM (fun p:Posted=>decide (p.ref=r)) l
theorem sX (l:List Posted) (r:Ref):cE l r=-1∨∃ (i:Nat) (s:Posted),cE l r=(i:Int)∧l[i]?=some s∧s.ref=r:=by
 rcases fQ (fun p:Posted=>decide (p.ref=r)) l with h | ⟨i,s,h1,h2,h3⟩
 ·exact .inl h
 ·exact .inr ⟨i,s,h1,h2,by simpa using h3⟩
def cN {α:Type} [DecidableEq α] (r:List α) (n:Nat) (a:α):Bool⊕Nat:=if r[n]?=some a then .inr (n+1) else .inl false
theorem eqL {α:Type} [DecidableEq α] {l r:List α} (h:l.length=r.length):aE (cN r) (fun _=>true) l 0=decide (l=r):=by
 have:∀ (l t r:List α),l.length=(r.drop t.length).length→r.take t.length=t→aE (cN r) (fun _=>true) l t.length=decide (l=r.drop t.length):=by
  intro l
  induction l with
  | nil=>
   intro t r h1 h2
   have:r.drop t.length=[]:=List.length_eq_zero_iff.1 h1.symm
   rw [this];rfl
  | cons a l ih=>
   intro t r h1 h2
   have hlt:t.length<r.length:=by rw [List.length_drop] at h1;simp only [List.length_cons] at h1;omega
   rw [List.drop_eq_getElem_cons hlt]
   simp only [aE,cN,List.getElem?_eq_getElem hlt]
   by_cases c:r[t.length]=a
   ·have e1:(t++[a]).length=t.length+1:=by simp
    have:=ih (t++[a]) r (by rw [e1];rw [List.length_drop] at h1 ⊢;simp only [List.length_cons] at h1;omega) (by rw [e1,List.take_succ_eq_append_getElem hlt,h2,c])
    rw [e1] at this
    simp only [c,if_true]
    rw [this]
    by_cases d:l=r.drop (t.length+1)<;>simp [d]
   ·have c':¬ (some r[t.length]=some a):=fun e=>c (Option.some.inj e)
    simp only [c',if_false]
    rw [eq_comm,decide_eq_false_iff_not]
    intro e
    exact c (List.cons.inj e).1.symm
 have:=this l [] r (by simpa using h) rfl
 simpa using this
def blkOf:V→Option Nat
 | .sl a _ _ _ _=>some a
 | _=>none
def fB (t:Total):Bool:=
 if (cR (t.parts.map (·.net))).2=true then (if (cR (t.parts.map (·.tax))).2=true then (if (cR [t.net,t.tax]).2=true then
  (if (cR (t.parts.map (·.net))).1=t.net then (if (cR (t.parts.map (·.tax))).1=t.tax then decide ((cR [t.net,t.tax]).1=t.gross) else false) else false) else false) else false) else false
def pG (st:List Int×List Int) (p:Part):(List Int×List Int)⊕(List Int×List Int):=.inr (st.1++[p.net],st.2++[p.tax])
theorem aWs:∀ (l:List Part) (a b:List Int),aE pG id l (a,b)=(a++l.map (·.net),b++l.map (·.tax))
 | [],a,b=>by simp [aE]
 | p::l,a,b=>by simp only [aE,pG];rw [aWs l];simp
def eK (prev:Option Part) (s:Part):Bool:=match prev with
 | none=>false
 | some p=>!iW p.cat s.cat
def pH (s:Part):Bool:=decide (s.bp<0)||decide (100000<s.bp)
def pI (s:Part):Bool:=!decide ((cY s.net s.bp).2=0)||!decide ((cY s.net s.bp).1=s.tax)
def bU (prev:Option Part) (s:Part):Bool⊕Option Part:=
 if dX s.cat=false then .inl false else if eK prev s=true then .inl false else if pH s=true then .inl false else if pI s=true then .inl false else .inr (some s)
def bR (t:Total):Bool:=if t.parts.length<1 then false else if 12<t.parts.length then false else aE bU (fun _=>fB t) t.parts none
def mW (p fr:Posted):Bool:=if fr.of=Ref.zero then (if p.day.before fr.day=false then (if (dT fr.total).2=0 then decide ((dT fr.total).1=p.total) else false) else false) else false
theorem aBp:∀ (l a:List Part) (r:List Part×Int),aE cU (fun l=>(l,0)) l a=r→r.1.length≤a.length+l.length
 | [],a,r,h=>by subst h;simp [aE]
 | x::l,a,r,h=>by
  simp only [aE] at h
  split at h
  ·rename_i r' he
   subst h
   unfold cU at he
   split at he
   ·cases he;simp
   ·cases he
  ·rename_i a' he
   unfold cU at he
   split at he
   ·cases he
   ·cases he
    have:=aBp l _ r h
    simp only [List.length_append,List.length_cons,List.length_nil] at this ⊢
    omega
theorem aBq (t:Total):(dT t).1.parts.length≤t.parts.length:=by
 unfold dT
 split
 ·simp [Total.zero]
 ·split
  ·simp [Total.zero]
  ·have:=aBp t.parts [] _ rfl
   simpa using this
def cD (book:List Bal) (p:Posted):(List Bal×Int)⊕List Bal:=
 if (dG p.total).2≠0 then .inl ([],(dG p.total).2) else if (cH book (dG p.total).1).2≠0 then .inl ([],(cH book (dG p.total).1).2) else .inr (cH book (dG p.total).1).1
def hN (l:List Posted):List Bal×Int:=aE cD (fun b=>(b,0)) l []
theorem rJ (book l:List Bal):(cH book l).1.length≤book.length+l.length:=by
 unfold cH
 split
 ·simp
 ·exact zG l book _ rfl
theorem zH (t:Total):(dG t).1.length≤1+2*t.parts.length∨(dG t).2≠0:=by
 by_cases h:(dG t).2=0
 ·exact .inl (by have:=aF8 t.parts _ _ rfl h;simp only [List.length_cons,List.length_nil] at this;unfold dG;omega)
 ·exact .inr h
def sY:List V:=[.str [],.int .i64 0,.int .i64 0,.int .i64 0,.int .i64 0,.int .i64 0,.int .i64 0,.int .i64 0,.nils,.str [],.int .i64 0,.bool false]
def Fit (p:Posted):Prop:=p.total.parts.length≤12∧∀ q∈p.total.parts,q.cat.length≤1000000
def bump (l:List Int) (k:Nat):List Int:=l.set k (l.getD k 0+1)
def eI (st:List Posted×List Int) (p:Posted):Bool⊕(List Posted×List Int):=
 if p.day.right=false then .inl false else if bR p.total=false then .inl false else if p.of=Ref.zero then .inr (st.1++[p],st.2) else
  if cE st.1 p.of<0 then .inl false else if mW p (st.1.getD (cE st.1 p.of).toNat ⟨Ref.zero,⟨0,0,0⟩,Total.zero,Ref.zero,false⟩)=false then .inl false else
   .inr (st.1++[p],bump st.2 (cE st.1 p.of).toNat)
def eY (bs:List Int) (p:Posted):Bool⊕List Int:=if 1<bs.headD 0 then .inl false else if p.back=decide (bs.headD 0=1) then .inr bs.tail else .inl false
def jH (l:List Posted):Bool:=if 40<l.length then false else aE eI (fun st=>aE eY (fun _=>true) l st.2) l ([],List.replicate 40 0)
theorem oO {t:Total} (h:bR t=true):t.parts.length≤12:=by
 unfold bR at h
 split at h
 ·cases h
 ·split at h
  ·cases h
  ·omega
theorem tA (l:List Int) (k:Nat) (h:k<l.length):l.getD k 0=l[k]:=by rw [List.getD_eq_getElem?_getD,List.getElem?_eq_getElem h];rfl
structure State where
 table:List Rate
 ser:List Ser
 posted:List Posted
 book:List Bal
 sess:List Sess
 next:Int
deriving DecidableEq
def hP (ser:List Ser) (is:List Int) (p:Posted):Bool⊕List Int:=
 if eH ser p.ref.ser<0 then .inl false else if p.ref.num=(bump is (eH ser p.ref.ser).toNat).getD (eH ser p.ref.ser).toNat 0 then .inr (bump is (eH ser p.ref.ser).toNat) else .inl false
def gI (is:List Int) (s:Ser):Bool⊕List Int:=if s.next=is.headD 0+1 then .inr is.tail else .inl false
def jX (ser:List Ser) (l:List Posted):Bool:=aE (hP ser) (fun is=>aE gI (fun _=>true) ser is) l (List.replicate 8 0)
theorem tC (l:List Int) (k:Nat):(bump l k).length=l.length:=List.length_set ..
theorem aPd (l:List Int) (k:Nat) (h:k<l.length):(bump l k).getD k 0=l[k]+1:=by
 rw [List.getD_eq_getElem?_getD,bump,List.getElem?_set_self h,tA l k h];rfl
def mX (l:List Sess) (next:Int):Bool:=match l[l.length - 1]? with
 | none=>true
 | some s=>decide (s.id<next)
def fR (s:State):Bool:=if kU s.sess=true then (if 1≤s.next then (if s.next≤1099511627776 then mX s.sess s.next else false) else false) else false
theorem zJ {σ α:Type} {step:σ→α→Bool⊕σ} {fin:σ→Bool} (hs:∀ s a r,step s a=.inl r→r=false):∀ (l:List α) (s:σ),aE step fin l s=true→∀ a∈l,∃ s s',step s a=.inr s'
 | [],s,h,a,ha=>by cases ha
 | b::l,s,h,a,ha=>by
  simp only [aE] at h
  split at h
  ·rename_i r he
   have:=hs s b r he
   rw [this] at h;cases h
  ·rename_i s' he
   rcases List.mem_cons.1 ha with rfl | ha
   ·exact ⟨s,s',he⟩
   ·exact zJ hs l s' h a ha
theorem uG {s:List UInt8} (h:dX s=true):s.length≤24:=by
 unfold dX at h
 split at h
 ·cases h
 ·split at h
  ·cases h
  ·omega
theorem aDb {t:Total} (h:bR t=true):∀ q∈t.parts,dX q.cat=true:=by
 unfold bR at h
 split at h
 ·cases h
 ·split at h
  ·cases h
  ·intro q hq
   obtain ⟨s,s',he⟩:=zJ (fun s a r hr=>by
    unfold bU at hr
    repeat' split at hr
    all_goals cases hr
    all_goals rfl) t.parts none h q hq
   unfold bU at he
   split at he
   ·cases he
   ·rename_i hn;simpa using hn
theorem vJ {p:Posted} (h:bR p.total=true):Fit p:=⟨oO h,fun q hq=>by have:=uG (aDb h q hq);omega⟩
theorem aH6 {l:List Posted} (h:jH l=true):l.length≤40∧∀ p∈l,p.day.right=true∧bR p.total=true:=by
 unfold jH at h
 split at h
 ·cases h
 ·refine ⟨by omega,fun p hp=>?_⟩
  obtain ⟨s,s',he⟩:=zJ (fun s a r hr=>by
   unfold eI at hr
   repeat' split at hr
   all_goals cases hr
   all_goals rfl) l _ h p hp
  unfold eI at he
  split at he
  ·cases he
  ·rename_i h1
   split at he
   ·cases he
   ·rename_i h2
    exact ⟨by simpa using h1,by simpa using h2⟩
def fL (s:State):Bool:=if iT s.table=false then false else if rG s.ser=false then false else if fR s=false then false else if jH s.posted=false then false else
 if jX s.ser s.posted=false then false else if (hN s.posted).2=0 then decide ((hN s.posted).1=s.book) else false
theorem vK:∀ (l:List Posted) (a:List Bal) (r:List Bal×Int),(∀ p∈l,p.total.parts.length≤12)→aE cD (fun b=>(b,0)) l a=r→r.1.length≤a.length+25*l.length
 | [],a,r,_,h=>by subst h;simp [aE]
 | p::l,a,r,hp,h=>by
  simp only [aE] at h
  split at h
  ·rename_i r' he
   subst h
   unfold cD at he
   repeat' split at he
   all_goals cases he
   all_goals simp
  ·rename_i a' he
   unfold cD at he
   split at he
   ·cases he
   ·rename_i h1
    split at he
    ·cases he
    ·cases he
     have h2:=(zH p.total).resolve_right h1
     have h3:=rJ a (dG p.total).1
     have h4:=hp p (List.mem_cons_self ..)
     have:=vK l _ r (fun q hq=>hp q (List.mem_cons_of_mem _ hq)) h
     simp only [List.length_cons]
     omega
def why (e:Int):Rep:=⟨e,0,0⟩
end Go.Proofs.YtoaibmbldmckaaaGreat
end
section
namespace Go.AM
def oP {α:Type} (a:α):Option (List α)→Option (List α)
 | some l=>some (a::l)
 | none=>none
def tD:List V→Nat→Option (List V)
 | _,0=>some []
 | [],_+1=>none
 | a::l,n+1=>oP a (tD l n)
def oQ:List V→Nat→List V→Option (List V)
 | cs,0,[]=>some cs
 | [],0,_::_=>none
 | _::cs,0,x::xs=>oP x (oQ cs 0 xs)
 | [],_+1,_=>none
 | c::cs,j+1,xs=>oP c (oQ cs j xs)
def oR:List V→Nat→Bool
 | [],0=>true
 | _::l,n+1=>oR l n
 | _,_=>false
def aDc {α:Type}:List α→Nat→α→Option (List α)
 | [],_,_=>none
 | _::l,0,x=>some (x::l)
 | a::l,i+1,x=>oP a (aDc l i x)
theorem aF9:∀ (l:List V) (n:Nat),tD l n=if n≤l.length then some (l.take n) else none
 | l,0=>by cases l<;>simp [tD]
 | [],n+1=>by simp [tD]
 | a::l,n+1=>by
  simp only [tD,aF9 l n,List.length_cons,Nat.add_le_add_iff_right,List.take_succ_cons]
  split<;>rfl
theorem tE:∀ (cs:List V) (j:Nat) (xs:List V),oQ cs j xs=if j+xs.length≤cs.length then some (splice cs j xs) else none
 | cs,0,[]=>by cases cs<;>simp [oQ,splice]
 | [],0,x::xs=>by simp [oQ]
 | c::cs,0,x::xs=>by
  have h:=tE cs 0 xs
  simp only [oQ,h,List.length_cons,splice,List.take_zero,List.nil_append,Nat.zero_add]
  by_cases c1:xs.length≤cs.length
  ·rw [if_pos c1,if_pos (by omega)];simp [oP]
  ·rw [if_neg c1,if_neg (by omega)];rfl
 | [],j+1,xs=>by simp [oQ]
 | c::cs,j+1,xs=>by
  have h:=tE cs j xs
  simp only [oQ,h,List.length_cons,splice]
  by_cases c1:j+xs.length≤cs.length
  ·rw [if_pos c1,if_pos (by omega)]
   simp only [oP,List.take_succ_cons,List.cons_append,show j+1+xs.length=(j+xs.length)+1 by omega,List.drop_succ_cons]
  ·rw [if_neg c1,if_neg (by omega)];rfl
theorem tF:∀ (l:List V) (n:Nat),oR l n=decide (l.length=n)
 | [],0=>rfl
 | [],n+1=>by simp [oR]
 | a::l,0=>by simp [oR]
 | a::l,n+1=>by simp [oR,tF l n]
theorem aJd {α:Type}:∀ (l:List α) (i:Nat) (x:α),aDc l i x=if i<l.length then some (l.set i x) else none
 | [],i,x=>by simp [aDc]
 | a::l,0,x=>by simp [aDc]
 | a::l,i+1,x=>by
  simp only [aDc,aJd l i x,List.length_cons,Nat.add_lt_add_iff_right,List.set_cons_succ]
  split<;>rfl
theorem pt2 (n:Nat) (cs:List V) (j:Nat):kS (some (n+1)) cs j=(match tD (cs.drop j) (n+1) with
  | some l=>.ok (.agg l)
  | none=>.error "part"):=by
 simp only [kS,aF9,List.length_drop]
 by_cases c:j+(n+1)≤cs.length
 ·rw [if_pos c,if_pos (by omega)]
 ·rw [if_neg c,if_neg (by omega)]
theorem st2 (n a ver i j:Nat) (x:V) (S:St):eM n (.ptr a ver i j) x S=(match aB S a ver with
  | .error e=>.error e
  | .ok (es,elems)=>match elems[i]? with
   | some cs=>(match oR x.cells n&&aI x.cells with
    | true=>(match oQ cs j x.cells with
     | some cs'=>.ok ⟨S.next,S.heap.put a (.row ver es (elems.set i cs'))⟩
     | none=>.error "store: the size")
    | false=>.error "store: the size")
   | none=>.error "store"):=by
 simp only [eM,tE,tF]
 cases aB S a ver with
 | error e=>rfl
 | ok r=>
  obtain ⟨es,elems⟩:=r
  simp only
  cases elems[i]? with
  | none=>rfl
  | some cs=>
   simp only
   by_cases c1:x.cells.length=n
   ·cases c2:aI x.cells
    ·simp [c1]
    ·by_cases c3:j+x.cells.length≤cs.length
     ·rw [if_pos ⟨c1,rfl,c3⟩];simp [c1];simp [←c1,c3]
     ·rw [if_neg (fun h=>c3 h.2.2)];simp [c1];simp [←c1,c3]
   ·rw [if_neg (fun h=>c1 h.1)];simp [c1]
theorem bw0 (z:List V) (pl:List (Nat×Nat)):rD z pl []=.ok (.agg z):=rfl
theorem bw1 (z:List V) (pl:List (Nat×Nat)) (i:Nat) (v:V) (rest:List (Nat×V)):rD z pl ((i,v)::rest)=(match pl[i]? with
  | none=>.error "fill"
  | some (off,size)=>(match oR v.cells size&&aI v.cells with
   | true=>(match oQ z off v.cells with
    | some z'=>rD z' pl rest
    | none=>.error "fill")
   | false=>.error "fill")):=by
 simp only [rD,nT]
 cases pl[i]? with
 | none=>rfl
 | some p=>
  obtain ⟨off,size⟩:=p
  simp only [tE,tF,cond_eq_ite]
  by_cases c1:v.cells.length=size
  ·cases c2:aI v.cells
   ·simp [c1]
   ·by_cases c3:off+v.cells.length≤z.length
    ·have h1:Nat.beq v.cells.length size=true:=by simpa using c1
     have h2:Nat.ble (off+v.cells.length) z.length=true:=Nat.ble_eq_true_of_le c3
     simp [h1,h2,c1]
     simp [←c1,c3]
    ·have h2:Nat.ble (off+v.cells.length) z.length=false:=by
      cases h:Nat.ble (off+v.cells.length) z.length with
      | false=>rfl
      | true=>exact absurd (Nat.le_of_ble_eq_true h) c3
     simp [h2,c1]
     simp [←c1,c3]
  ·have h1:Nat.beq v.cells.length size=false:=by
    cases h:Nat.beq v.cells.length size with
    | false=>rfl
    | true=>exact absurd (Nat.eq_of_beq_eq_true h) c1
   simp [h1,c1]
theorem lv1 (es:Nat) (elems:List (List V)) (i:Nat) (v:V) (rest:List (Nat×V)):tQ es elems ((i,v)::rest)=(match oR v.cells es&&aI v.cells with
  | true=>(match aDc elems i v.cells with
   | some e=>tQ es e rest
   | none=>.error "buildSlice")
  | false=>.error "buildSlice"):=by
 simp only [tQ,aJd,tF,cond_eq_ite]
 by_cases c1:v.cells.length=es
 ·have h1:Nat.beq v.cells.length es=true:=by simpa using c1
  cases c2:aI v.cells
  ·simp [c1]
  ·by_cases c3:i<elems.length
   ·have h2:Nat.blt i elems.length=true:=by simpa using c3
    simp [h1,h2,c1,c3]
   ·have h2:Nat.blt i elems.length=false:=by
     cases h:Nat.blt i elems.length with
     | false=>rfl
     | true=>exact absurd (by simpa using h) c3
    simp [h2,c1,c3]
 ·have h1:Nat.beq v.cells.length es=false:=by
   cases h:Nat.beq v.cells.length es with
   | false=>rfl
   | true=>exact absurd (Nat.eq_of_beq_eq_true h) c1
  simp [h1,c1]
theorem aVv:(∀ {α:Type} (a:α) (l:List α),oP a (some l)=some (a::l))∧(∀ l:List V,tD l 0=some [])∧(∀ (a:V) (l:List V) (n:Nat),tD (a::l) (n+1)=oP a (tD l n)) ∧
  (∀ cs:List V,oQ cs 0 []=some cs)∧(∀ (c x:V) (cs xs:List V),oQ (c::cs) 0 (x::xs)=oP x (oQ cs 0 xs))∧(∀ (c:V) (cs:List V) (j:Nat) (xs:List V),oQ (c::cs) (j+1) xs=oP c (oQ cs j xs)) ∧
  oR [] 0=true∧(∀ (a:V) (l:List V) (n:Nat),oR (a::l) (n+1)=oR l n)∧(∀ {α:Type} (a:α) (l:List α) (x:α),aDc (a::l) 0 x=some (x::l))∧(∀ {α:Type} (a:α) (l:List α) (i:Nat) (x:α),aDc (a::l) (i+1) x=oP a (aDc l i x)) ∧
  type_of% pt2∧(∀ (n a j:Nat) (x:V) (S:St),type_of% (st2 n a 0 0 j x S))∧type_of% bw0∧type_of% bw1∧type_of% lv1∧(∀ (es:Nat) (l:List (List V)),tQ es l []=.ok l):=
 ⟨fun _ _=>rfl,fun l=>by cases l<;>rfl,fun _ _ _=>rfl,fun cs=>by cases cs<;>rfl,fun _ _ _ _=>rfl,fun _ _ _ _=>by simp only [oQ],rfl,fun _ _ _=>rfl,fun _ _ _=>rfl,fun _ _ _ _=>rfl,pt2,fun n a j x S=>st2 n a 0 0 j x S,bw0,bw1,lv1,fun _ _=>rfl⟩
section
section
variable {P:Program}
theorem aRj (b:Bool) (x y:Prop):aZ (.bool b) x y=if b=true then x else y:=by cases b<;>rfl
theorem ldP (k:Option Nat) (a ver i j:Nat) (S:St):iZ k (.ptr a ver i j) S=(match aB S a ver with
  | .error e=>.error e
  | .ok (_,elems)=>match elems[i]? with
   | some cs=>kS k cs j
   | none=>.error "load"):=rfl
theorem ptN (cs:List V) (j:Nat):kS none cs j=(match cs[j]? with
  | some v=>.ok v
  | none=>.error "part"):=rfl
theorem grS (n:Nat) (h:Tr Blk) (a ver es:Nat) (el:List (List V)):aB ⟨n,h.put a (.row ver es el)⟩ a ver=.ok (es,el):=aF ..
theorem tP {c a:Nat} (hc:c≠a) (n:Nat) (h:Tr Blk) (ver:Nat) (b:Blk):aB ⟨n,h.put a b⟩ c ver=aB ⟨n,h⟩ c ver:=pZ n n h a c ver b hc
theorem nb0 (S:St) (b:Blk):aR none S b=.ok (S.next,⟨S.next+1,S.heap.put S.next b⟩):=eT S b
theorem nb1 (k:Nat) (S:St) (b:Blk):aR (some k) S b=.ok (k,⟨S.next,S.heap.put k b⟩):=aAw k S b
theorem aWt:aI []=true:=rfl
theorem aRk (v:V) (l:List V):aI (v::l)=(v.one&&aI l):=rfl
theorem bFa (b:Bool):(V.bool b).one=true:=rfl
theorem bFb (k:IntKind) (n:Int):(V.int k n).one=true:=rfl
theorem bFc (s:List UInt8):(V.str s).one=true:=rfl
theorem stP (n a ver i j:Nat) (x:V) (S:St):eM n (.ptr a ver i j) x S=(match aB S a ver with
  | .error e=>.error e
  | .ok (es,elems)=>match elems[i]? with
   | some cs=>if x.cells.length=n∧aI x.cells=true∧j+x.cells.length≤cs.length then .ok ⟨S.next,S.heap.put a (.row ver es (elems.set i (splice cs j x.cells)))⟩ else .error "store: the size"
   | none=>.error "store"):=rfl
theorem ixI {α:Type} {l:List α} {enc:α→List V} {i:Nat} {a:α} {n:Nat} (hi:l[i]?=some a) (hn:(enc a).length=n) (k:IntKind):gC n (.imm (l.map enc)) (.int k (i:Int))=.ok (.iptr (enc a) 0):=by
 have hil:=(List.getElem?_eq_some_iff.1 hi).1
 have hx:(l.map enc)[i]?=some (enc a):=by rw [List.getElem?_map,hi];rfl
 simp only [gC,List.length_map,iH hil,hx]
 simp only [hn,if_true]
theorem okI {α:Type} (a b:α):((Except.ok a:R α)=.ok b)=(a=b):=by simp
end
theorem kit:(∀ {α:Type} (a:α) (K:α→Prop),wR (.ok a) K=K a)∧(∀ {α:Type} (a:α) (K:α→Prop),wO (some a) K=K a)∧(∀ x:Prop,vV true x=x)∧(∀ (b:Bool) (x y:Prop),aZ (.bool b) x y=if b=true then x else y) ∧
  (∀ (v:V) (r:List V) (K:V→List V→Prop),wT (v::r) K=K v r)∧(∀ (vs:List V) (i:Nat) (K:V→Prop),kL (.tup vs) i K=wO vs[i]? K)∧(∀ (a b c d:Nat) (x:Prop),aEs (.ptr a b c d) x=x)∧(∀ (a:List V) (b:Nat) (x:Prop),aEs (.iptr a b) x=x) ∧
  (∀ b:Bool,unV .not (.bool b)=.ok (.bool !b))∧(∀ v:V,eL v v=true):=
 ⟨fun _ _=>rfl,fun _ _=>rfl,fun _=>rfl,aRj,fun _ _ _=>rfl,fun _ _ _=>rfl,fun _ _ _ _ _=>rfl,fun _ _ _=>rfl,fun _=>rfl,uF⟩
theorem bBp (P:Program):(∀ (t:TypeId) (k:IntKind) (a b:Int),bJ P .add t (.int k a) (.int k b)=.ok (.int k (wr k (a+b))))∧(∀ (t:TypeId) (k:IntKind) (a b:Int),bJ P .sub t (.int k a) (.int k b)=.ok (.int k (wr k (a - b)))) ∧
  (∀ (t:TypeId) (k:IntKind) (a b:Int),bJ P .mul t (.int k a) (.int k b)=.ok (.int k (wr k (a*b))))∧(∀ (t:TypeId) (k:IntKind) (a b:Int),bJ P .lss t (.int k a) (.int k b)=.ok (.bool (decide (a<b)))) ∧
  (∀ (t:TypeId) (k:IntKind) (a b:Int),bJ P .leq t (.int k a) (.int k b)=.ok (.bool (decide (a≤b))))∧(∀ (t:TypeId) (k:IntKind) (a b:Int),bJ P .gtr t (.int k a) (.int k b)=.ok (.bool (decide (b<a)))) ∧
  (∀ (t:TypeId) (k:IntKind) (a b:Int),bJ P .geq t (.int k a) (.int k b)=.ok (.bool (decide (b≤a))))∧(∀ (t:TypeId) (k:IntKind) (a b:Int),bJ P .eql t (.int k a) (.int k b)=.ok (.bool (decide (a=b)))) ∧
  (∀ (t:TypeId) (k:IntKind) (a b:Int),bJ P .neq t (.int k a) (.int k b)=.ok (.bool (!decide (a=b)))) ∧
  (∀ (t:TypeId) (j k:IntKind) (a b:Int),bC P t (.int j a) (.int k b)=true)∧(∀ (t:TypeId) (x y:List UInt8),bC P t (.str x) (.str y)=true)∧(∀ (t:TypeId) (x y:Bool),bC P t (.bool x) (.bool y)=true) ∧
  (∀ (t:TypeId) (x y:List UInt8),bJ P .eql t (.str x) (.str y)=.ok (.bool (x == y)))∧(∀ (t:TypeId) (x y:List UInt8),bJ P .neq t (.str x) (.str y)=.ok (.bool (!(x == y)))) ∧
  (∀ (t:TypeId) (x y:List UInt8),bJ P .lss t (.str x) (.str y)=.ok (.bool (iW x y)))∧(∀ (t:TypeId) (x y:List UInt8),bJ P .geq t (.str x) (.str y)=.ok (.bool (!iW x y))) ∧
  (∀ (t:TypeId) (k:IntKind) (a b:Int),b≠0→bJ P .quo t (.int k a) (.int k b)=.ok (.int k (wr k (a.tdiv b))))∧(∀ (t:TypeId) (k:IntKind) (a b:Int),b≠0→bJ P .rem t (.int k a) (.int k b)=.ok (.int k (a.tmod b))):=
 ⟨aQl P,aQm P,aQn P,aQq P,aQr P,aQs P,aQt P,aQu P,aQv P,fun _ _ _ _ _=>rfl,fun _ _ _=>rfl,fun _ _ _=>rfl,aQw P,aQx P,aQy P,aQz P,fun _ _ _ _ h=>aQo P _ _ _ _ h,fun _ _ _ _ h=>aQp P _ _ _ _ h⟩
theorem bBq : (∀ (k : Option Nat) (a j : Nat) (S : St), iZ k (.ptr a 0 0 j) S = (match aB S a 0 with
      | .error e => .error e
      | .ok (_, elems) => match elems[0]? with
        | some cs => kS k cs j
        | none => .error "load")) ∧ (∀ (k : Option Nat) (cs : List V) (j : Nat) (S : St), iZ k (.iptr cs j) S = kS k cs j) ∧
    (∀ (cs : List V) (j : Nat), kS none cs j = (match cs[j]? with
      | some v => .ok v
      | none => .error "part")) ∧
    (∀ off a ver i j : Nat, advW off (.ptr a ver i j) = .ok (.ptr a ver i (j + off))) ∧ (∀ (off : Nat) (cs : List V) (j : Nat), advW off (.iptr cs j) = .ok (.iptr cs (j + off))) ∧
    (∀ (n : Nat) (h : Tr Blk) (a ver es : Nat) (el : List (List V)), aB ⟨n, h.put a (.row ver es el)⟩ a ver = .ok (es, el)) ∧ (∀ (S : St) (b : Blk), aR none S b = .ok (S.next, ⟨S.next + 1, S.heap.put S.next b⟩)) ∧
    (∀ (k : Nat) (S : St) (b : Blk), aR (some k) S b = .ok (k, ⟨S.next, S.heap.put k b⟩)) ∧ (∀ cs : List V, (V.agg cs).cells = cs) ∧ (∀ b : Bool, (V.bool b).cells = [.bool b]) ∧ (∀ (k : IntKind) (n : Int), (V.int k n).cells = [.int k n]) ∧
    (∀ s : List UInt8, (V.str s).cells = [.str s]) ∧ (∀ es : List (List V), (V.imm es).cells = [.imm es]) ∧ V.nils.cells = [.nils] ∧ (∀ a b c d : Nat, (V.ptr a b c d).cells = [.ptr a b c d]) ∧ (∀ a b c d e : Nat, (V.sl a b c d e).cells = [.sl a b c d e]) ∧
    (∀ (f : FuncId) (a b : List V), (V.func f a b).cells = [.func f a b]) ∧ aI [] = true ∧ (∀ (v : V) (l : List V), aI (v :: l) = (v.one && aI l)) ∧ (∀ b : Bool, (V.bool b).one = true) ∧ (∀ (k : IntKind) (n : Int), (V.int k n).one = true) ∧ (∀ s : List UInt8, (V.str s).one = true) ∧
    (∀ es : List (List V), (V.imm es).one = true) ∧ V.nils.one = true ∧ (∀ a b c d : Nat, (V.ptr a b c d).one = true) ∧ (∀ a b c d e : Nat, (V.sl a b c d e).one = true) ∧ (∀ (f : FuncId) (a b : List V), (V.func f a b).one = true) ∧
    (∀ es : List (List V), lenW (.imm es) = .ok (.int .i64 es.length)) ∧ lenW .nils = .ok (.int .i64 0) ∧ (∀ a b c d e : Nat, lenW (.sl a b c d e) = .ok (.int .i64 e)) ∧
    (∀ (S : St) (b : Bool), iR S (.bool b) = .ok (.bool b)) ∧ (∀ (S : St) (k : IntKind) (n : Int), iR S (.int k n) = .ok (.int k n)) ∧ (∀ (S : St) (s : List UInt8), iR S (.str s) = .ok (.str s)) ∧ (∀ (S : St) (es : List (List V)), iR S (.imm es) = .ok (.imm es)) ∧
    (∀ {α : Type} (a b : α), ((Except.ok a : R α) = .ok b) = (a = b)) :=
  ⟨fun _ _ _ _ => rfl, fun _ _ _ _ => rfl, fun _ _ => rfl, fun _ _ _ _ _ => rfl, fun _ _ _ => rfl, grS, nb0, nb1, fun _ => rfl, fun _ => rfl, fun _ _ => rfl, fun _ => rfl, fun _ => rfl, rfl, fun _ _ _ _ => rfl, fun _ _ _ _ _ => rfl, fun _ _ _ => rfl, rfl, fun _ _ => rfl,
    fun _ => rfl, fun _ _ => rfl, fun _ => rfl, fun _ => rfl, rfl, fun _ _ _ _ => rfl, fun _ _ _ _ _ => rfl, fun _ _ _ => rfl, fun _ => rfl, rfl, fun _ _ _ _ _ => rfl, fun _ _ => rfl, fun _ _ _ => rfl, fun _ _ => rfl, fun _ _ => rfl, okI⟩
end
end Go.AM
end
section
namespace Go.Proofs.YtoaibmbldmckaaaGreat
open Go.AM Tryz
theorem fx:type_of% (A2 aNl <| A2 aTn <| A2 aTo <| A2 aTp <| A2 aTq <| A2 aTr <| A2 aTs <| A2 aTt <| A2 aTu <| A2 aTv <| A2 aTw <| A2 aTx <| A2 aTy <| A2 aTz <| A2 aU0 <| A2 aU1 <| A2 aU2 <| A2 aU3 <| A2 aU4 <| A2 aU5 <| A2 aU6 <| A2 aU7 <| A2 aU8 <| A2 aU9 <| A2 aYd <| A2 aUa <| A2 aYe <| A2 aYf <| A2 aYg <| A2 aYh <| A2 aYi <| A2 aYj <| A2 aYk <| A2 aYl <| A2 aYm <| A2 aYn <| A2 aYo <| A2 aYp <| A2 aUb <| A2 aYq <| A2 aYr <| A2 aYs <| A2 aYt <| A2 aYu <| A2 aYv <| A2 aUc <| A2 aUd <| A2 aYw <| A2 aYx <| A2 aYy <| A2 aYz <| A2 aZ0 <| A2 aZ1 <| A2 aZ2 <| A2 aZ3 <| A2 aI9 <| A2 aIa <| A2 aIb <| A2 aIc <| A2 aId <| A2 aIe <| A2 aIf <| A2 aIg <| A2 aIh <| A2 aIi <| A2 aIj <| A2 aIk <| A2 aIl <| A2 aIm <| A2 aIn <| A2 aIo <| A2 aIp <| A2 aIq <| A2 aIr <| A2 aIs <| A2 aIt <| A2 aIu <| A2 aIv <| A2 aIw <| A2 aIx <| A2 aIy <| A2 aIz <| A2 aJ0 <| A2 aJ1 <| A2 aJ2 <| A2 aJ3 <| A2 aJ4 <| A2 aJ5 <| A2 aJ6 <| A2 aJ7 <| A2 aJ8 <| A2 aNm <| A2 aNn <| A2 aNo <| A2 aNp <| A2 aNq <| A2 aNr <| A2 aJ9 <| A2 aJa <| A2 aNs <| A2 aNt <| A2 aNu <| A2 aNv <| A2 aNw <| A2 aNx <| A2 aNy <| A2 aNz <| A2 aO0 <| A2 aO1 <| A2 aO2 <| A2 aO3 <| A2 aO4 <| A2 aO5 <| A2 aO6 <| A2 aO7 <| A2 aO8 <| A2 aO9 <| A2 aOa <| A2 aOb <| A2 aOc <| A2 aOd <| A2 aOe <| A2 aOf <| A2 aOg <| A2 aOh <| A2 aOi <| A2 aOj <| A2 aOk <| A2 aOl <| A2 aOm <| A2 aOn <| A2 aOo <| A2 aOp <| A2 aOq <| A2 aOr <| A2 aOs <| A2 aOt <| A2 aOu <| A2 aOv <| A2 aOw <| A2 aOx <| A2 aOy <| A2 aOz <| A2 aP0 <| A2 aP1 <| A2 aUo <| A2 aUp <| A2 aZr <| A2 aZs <| A2 aZt <| A2 aZu <| A2 aZv <| A2 aZw <| A2 aUq <| A2 aUr <| A2 aZx <| A2 aZy <| A2 aZz <| A2 bA0 <| A2 bA1 <| A2 bA2 <| A2 bA3 <| A2 bA4 <| A2 aUs <| A2 aUt <| A2 aUu <| A2 ld2 <| A2 aUv <| A2 aUw <| A2 bA5 <| A2 aUx <| A2 aUy <| A2 aUz <| A2 bA6 <| A2 bA7 <| A2 bA8 <| A2 bA9 <| A2 bAa <| A2 ld3 <| A2 bAb <| A2 bAc <| A2 aV0 <| A2 aV1 <| A2 ld4 <| A2 bAd <| A2 ld5 <| A2 bAe <| A2 bAf <| A2 bAg <| A2 bAh <| A2 bAi <| A2 bAj <| A2 bAk <| A2 bAl <| A2 bAm <| A2 bAn <| A2 ld9 <| A2 bAo <| A2 bAp <| A2 aP2 <| A2 aP3 <| A2 aV2 <| A2 aV3 <| A2 aV4 <| A2 aV5 <| A2 aV6 <| A2 aV7 <| A2 aP4 <| A2 aP5 <| A2 aV8 <| A2 aV9 <| A2 aVa <| A2 aVb <| A2 aVc <| A2 aVd <| A2 bAq <| A2 aVe <| A2 aVf <| A2 bAr <| A2 bAs <| A2 bAt <| A2 bAu <| A2 aWp <| A2 bAw <| A2 bAx <| A2 bAy <| A2 bAz <| A2 bB0 <| A2 bB1 <| A2 aVg <| A2 aVh <| A2 aVi <| A2 aVj <| A2 aVk <| A2 bB2 <| A2 aVl <| A2 aVm <| A2 bB3 <| A2 bB4 <| A2 bB5 <| A2 bB6 <| A2 bB7 <| A2 st3 <| A2 bB8 <| A2 bB9 <| A2 aVn <| A2 st4 <| A2 bBa <| A2 st5 <| A2 bBb <| A2 bBc <| A2 bBd <| A2 bBe <| A2 bBf <| A2 bBg <| A2 bBh <| A2 bBi <| A2 bBj <| A2 st9 <| A2 bBk <| bBl):=A2 aNl <| A2 aTn <| A2 aTo <| A2 aTp <| A2 aTq <| A2 aTr <| A2 aTs <| A2 aTt <| A2 aTu <| A2 aTv <| A2 aTw <| A2 aTx <| A2 aTy <| A2 aTz <| A2 aU0 <| A2 aU1 <| A2 aU2 <| A2 aU3 <| A2 aU4 <| A2 aU5 <| A2 aU6 <| A2 aU7 <| A2 aU8 <| A2 aU9 <| A2 aYd <| A2 aUa <| A2 aYe <| A2 aYf <| A2 aYg <| A2 aYh <| A2 aYi <| A2 aYj <| A2 aYk <| A2 aYl <| A2 aYm <| A2 aYn <| A2 aYo <| A2 aYp <| A2 aUb <| A2 aYq <| A2 aYr <| A2 aYs <| A2 aYt <| A2 aYu <| A2 aYv <| A2 aUc <| A2 aUd <| A2 aYw <| A2 aYx <| A2 aYy <| A2 aYz <| A2 aZ0 <| A2 aZ1 <| A2 aZ2 <| A2 aZ3 <| A2 aI9 <| A2 aIa <| A2 aIb <| A2 aIc <| A2 aId <| A2 aIe <| A2 aIf <| A2 aIg <| A2 aIh <| A2 aIi <| A2 aIj <| A2 aIk <| A2 aIl <| A2 aIm <| A2 aIn <| A2 aIo <| A2 aIp <| A2 aIq <| A2 aIr <| A2 aIs <| A2 aIt <| A2 aIu <| A2 aIv <| A2 aIw <| A2 aIx <| A2 aIy <| A2 aIz <| A2 aJ0 <| A2 aJ1 <| A2 aJ2 <| A2 aJ3 <| A2 aJ4 <| A2 aJ5 <| A2 aJ6 <| A2 aJ7 <| A2 aJ8 <| A2 aNm <| A2 aNn <| A2 aNo <| A2 aNp <| A2 aNq <| A2 aNr <| A2 aJ9 <| A2 aJa <| A2 aNs <| A2 aNt <| A2 aNu <| A2 aNv <| A2 aNw <| A2 aNx <| A2 aNy <| A2 aNz <| A2 aO0 <| A2 aO1 <| A2 aO2 <| A2 aO3 <| A2 aO4 <| A2 aO5 <| A2 aO6 <| A2 aO7 <| A2 aO8 <| A2 aO9 <| A2 aOa <| A2 aOb <| A2 aOc <| A2 aOd <| A2 aOe <| A2 aOf <| A2 aOg <| A2 aOh <| A2 aOi <| A2 aOj <| A2 aOk <| A2 aOl <| A2 aOm <| A2 aOn <| A2 aOo <| A2 aOp <| A2 aOq <| A2 aOr <| A2 aOs <| A2 aOt <| A2 aOu <| A2 aOv <| A2 aOw <| A2 aOx <| A2 aOy <| A2 aOz <| A2 aP0 <| A2 aP1 <| A2 aUo <| A2 aUp <| A2 aZr <| A2 aZs <| A2 aZt <| A2 aZu <| A2 aZv <| A2 aZw <| A2 aUq <| A2 aUr <| A2 aZx <| A2 aZy <| A2 aZz <| A2 bA0 <| A2 bA1 <| A2 bA2 <| A2 bA3 <| A2 bA4 <| A2 aUs <| A2 aUt <| A2 aUu <| A2 ld2 <| A2 aUv <| A2 aUw <| A2 bA5 <| A2 aUx <| A2 aUy <| A2 aUz <| A2 bA6 <| A2 bA7 <| A2 bA8 <| A2 bA9 <| A2 bAa <| A2 ld3 <| A2 bAb <| A2 bAc <| A2 aV0 <| A2 aV1 <| A2 ld4 <| A2 bAd <| A2 ld5 <| A2 bAe <| A2 bAf <| A2 bAg <| A2 bAh <| A2 bAi <| A2 bAj <| A2 bAk <| A2 bAl <| A2 bAm <| A2 bAn <| A2 ld9 <| A2 bAo <| A2 bAp <| A2 aP2 <| A2 aP3 <| A2 aV2 <| A2 aV3 <| A2 aV4 <| A2 aV5 <| A2 aV6 <| A2 aV7 <| A2 aP4 <| A2 aP5 <| A2 aV8 <| A2 aV9 <| A2 aVa <| A2 aVb <| A2 aVc <| A2 aVd <| A2 bAq <| A2 aVe <| A2 aVf <| A2 bAr <| A2 bAs <| A2 bAt <| A2 bAu <| A2 aWp <| A2 bAw <| A2 bAx <| A2 bAy <| A2 bAz <| A2 bB0 <| A2 bB1 <| A2 aVg <| A2 aVh <| A2 aVi <| A2 aVj <| A2 aVk <| A2 bB2 <| A2 aVl <| A2 aVm <| A2 bB3 <| A2 bB4 <| A2 bB5 <| A2 bB6 <| A2 bB7 <| A2 st3 <| A2 bB8 <| A2 bB9 <| A2 aVn <| A2 st4 <| A2 bBa <| A2 st5 <| A2 bBb <| A2 bBc <| A2 bBd <| A2 bBe <| A2 bBf <| A2 bBg <| A2 bBh <| A2 bBi <| A2 bBj <| A2 st9 <| A2 bBk <| bBl
theorem ls:(∀ {α:Type} (a:α) (l:List α),(a::l)[0]?=some a)∧(∀ {α:Type} (a:α) (l:List α) (i:Nat),(a::l)[i+1]?=l[i]?)∧(∀ {α:Type} (i:Nat),([]:List α)[i]?=none)∧(∀ {α:Type} (a:α) (l:List α),(a::l).length=l.length+1)∧(∀ {α:Type},([]:List α).length=0) ∧
  (∀ {α:Type} (l:List α),l.drop 0=l)∧(∀ {α:Type} (a:α) (l:List α) (i:Nat),(a::l).drop (i+1)=l.drop i)∧(∀ {α:Type} (l:List α),l.take 0=[])∧(∀ {α:Type} (a:α) (l:List α) (i:Nat),(a::l).take (i+1)=a::l.take i)∧(∀ {α:Type} (i:Nat),([]:List α).take i=[])∧(∀ {α:Type} (i:Nat),([]:List α).drop i=[]) ∧
  (∀ {α:Type} (l:List α),[]++l=l)∧(∀ {α:Type} (a:α) (l m:List α),a::l++m=a::(l++m))∧(∀ {α:Type} (a b:α) (l:List α),(a::l).set 0 b=b::l)∧(∀ {α:Type} (a b:α) (l:List α) (i:Nat),(a::l).set (i+1) b=a::l.set i b) ∧
  (∀ b:Bool,(true&&b)=b)∧(∀ b:Bool,(b&&true)=b)∧(∀ b:Bool,(!!b)=b)∧(∀ {p q:Prop},(if true=true then p else q)=p)∧(∀ {p q:Prop},(if false=true then p else q)=q)∧(!true)=false∧(!false)=true∧(∀ {α:Type} (a b:α),(if True then a else b)=a)∧(∀ {α:Type} (a b:α),(if False then a else b)=b)∧(∀ n:Nat,0+n=n)∧(∀ n:Nat,n+0=n)∧(∀ {α:Type} (f:α→List V) (l:List α),(l.map f).length=l.length) ∧
  (∀ (p:Prop) [Decidable p],(decide p=true)=p)∧(∀ (p:Prop) [Decidable p],((!decide p)=true)=¬ p)∧(∀ p:Prop,(p∧True)=p)∧(∀ p:Prop,(True∧p)=p)∧(∀ n:Nat,(n≤n)=True)∧(∀ n:Nat,(0≤n)=True)∧(∀ (a:Nat),(a=a)=True):=
 ⟨fun _ _=>rfl,fun _ _ _=>rfl,fun _=>rfl,fun _ _=>rfl,rfl,fun _=>rfl,fun _ _ _=>rfl,fun _=>rfl,fun _ _ _=>rfl,fun _=>by simp,fun _=>by simp,fun _=>rfl,fun _ _ _=>rfl,fun _ _ _=>rfl,fun _ _ _ _=>rfl,Bool.true_and,Bool.and_true,Bool.not_not,by intros;rfl,by intros;rfl,rfl,rfl,fun _ _=>if_pos trivial,fun _ _=>if_neg id,Nat.zero_add,Nat.add_zero,fun _ _=>List.length_map ..,fun p _=>by simp,fun p _=>by simp,and_true,true_and,fun n=>by simp,fun n=>by simp,fun n=>by simp⟩
theorem gm (n:Nat) (S:St) (a v:Nat):aB ⟨n,S.heap⟩ a v=aB S a v:=rfl
theorem bBr {l:List Int} {i:Nat} {a:Int} (hi:l[i]?=some a) (k:IntKind):gC 1 (.imm (l.map bS)) (.int k (i:Int))=.ok (.iptr (bS a) 0):=ixI (enc:=bS) hi rfl k
theorem lI {l:List Rate} {i:Nat} {a:Rate} (hi:l[i]?=some a) (k:IntKind):gC 5 (.imm (l.map Rate.enc)) (.int k (i:Int))=.ok (.iptr a.enc 0):=ixI (enc:=Rate.enc) hi rfl k
theorem kX {l:List Ser} {i:Nat} {a:Ser} (hi:l[i]?=some a) (k:IntKind):gC 4 (.imm (l.map Ser.enc)) (.int k (i:Int))=.ok (.iptr a.enc 0):=ixI (enc:=Ser.enc) hi rfl k
theorem jY {l:List Sess} {i:Nat} {a:Sess} (hi:l[i]?=some a) (k:IntKind):gC 5 (.imm (l.map Sess.enc)) (.int k (i:Int))=.ok (.iptr a.enc 0):=ixI (enc:=Sess.enc) hi rfl k
theorem jZ {l:List Bal} {i:Nat} {a:Bal} (hi:l[i]?=some a) (k:IntKind):gC 2 (.imm (l.map Bal.enc)) (.int k (i:Int))=.ok (.iptr a.enc 0):=ixI (enc:=Bal.enc) hi rfl k
theorem eW {l:List Part} {i:Nat} {a:Part} (hi:l[i]?=some a) (k:IntKind):gC 4 (.imm (l.map Part.enc)) (.int k (i:Int))=.ok (.iptr a.enc 0):=ixI (enc:=Part.enc) hi rfl k
theorem aY {α:Type} {l:List α} {i:Nat} {a:α} (h:l[i]?=some a):((i:Int)<(l.length:Int))=True:=by
 have:=(List.getElem?_eq_some_iff.1 h).1
 simp;exact this
theorem fV {i:Nat} (h:i<1000000000):wr .i64 ((i:Int)+1)=((i+1:Nat):Int):=by rw [kM (by omega) (by omega)];omega
theorem wrm {i:Nat} (h:i+1<1000000000):wr .i64 (((i+1:Nat):Int) - 1)=(i:Int):=by rw [kM (by omega) (by omega)];omega
theorem gt0 (i:Nat):((0:Int)<((i+1:Nat):Int))=True:=by simp
theorem aFa {n i a:Nat} (h:(List.range n)[i]?=some a):i<n∧a=i:=by
 have hl:i<n:=by simpa using (List.getElem?_eq_some_iff.1 h).1
 rw [List.getElem?_range hl] at h
 exact ⟨hl,(Option.some.inj h).symm⟩
theorem oo : (∀ (S : St) (v : V), iR S v = cP lX (nL (kK S 3) S) v) ∧ (∀ (σ : V → Go.AM.R V) (l : List V), cP lX σ (.tup l) = (match frzVs lX σ l with
      | .ok cs => .ok (.tup cs)
      | .error e => .error e)) ∧ (∀ (σ : V → Go.AM.R V) (l : List V), cP lX σ (.agg l) = (match frzVs lX σ l with
      | .ok cs => .ok (.agg cs)
      | .error e => .error e)) ∧ (∀ σ : V → Go.AM.R V, frzVs lX σ [] = .ok []) ∧ (∀ (σ : V → Go.AM.R V) (v : V) (l : List V), frzVs lX σ (v :: l) = (match cP lX σ v with
      | .ok v => (match frzVs lX σ l with
        | .ok l => .ok (v :: l)
        | .error e => .error e)
      | .error e => .error e)) ∧ (∀ (σ : V → Go.AM.R V) (b : Bool), cP lX σ (.bool b) = .ok (.bool b)) ∧ (∀ (σ : V → Go.AM.R V) (k : IntKind) (n : Int), cP lX σ (.int k n) = .ok (.int k n)) ∧ (∀ (σ : V → Go.AM.R V) (s : List UInt8), cP lX σ (.str s) = .ok (.str s)) ∧
    (∀ (σ : V → Go.AM.R V) (es : List (List V)), cP lX σ (.imm es) = .ok (.imm es)) ∧ (∀ σ : V → Go.AM.R V, cP lX σ .nils = .ok (.imm [])) ∧ (∀ (σ : V → Go.AM.R V) (a b c d e : Nat), cP lX σ (.sl a b c d e) = σ (.sl a b c d e)) :=
  ⟨fun _ _ => rfl, fun σ l => by simp only [cP] <;> rfl, fun σ l => by simp only [cP] <;> rfl, fun _ => rfl, fun σ v l => by simp only [frzVs] <;> rfl, fun _ _ => rfl, fun _ _ _ => rfl, fun _ _ => rfl, fun _ _ => rfl, fun _ => rfl, fun _ _ _ _ _ _ => rfl⟩
theorem unK:(∀ (k:IntKind) (n:Int),unV .neg (.int k n)=.ok (.int k (wr k (0 - n))))∧(∀ n:Int,unV .xor (.int .u64 n)=.ok (.int .u64 (aDa n))):=⟨fun _ _=>rfl,fun _=>rfl⟩
theorem nk:(∀ n:Nat,(0=n+1)=False)∧(∀ n:Nat,(n+1=0)=False)∧(∀ n m:Nat,(n+1=m+1)=(n=m))∧(∀ {α:Type} {a b:α},(a≠b)=¬ a=b)∧(¬ False)=True:=⟨fun n=>by simp,fun n=>by simp,fun n m=>by simp,by intros;rfl,by simp⟩
theorem ex:type_of% (A2 aUe <| A2 aUf <| A2 aUg <| A2 aUh <| A2 aUi <| A2 aUj <| A2 aUk <| A2 aUl <| A2 aUm <| A2 aUn <| A2 aZa <| A2 aZb <| A2 aZd <| A2 aZe <| A2 aZg <| A2 aZh <| A2 aZj <| A2 aZk <| A2 aZm <| A2 aZn <| A2 aZp <| aZq):=A2 aUe <| A2 aUf <| A2 aUg <| A2 aUh <| A2 aUi <| A2 aUj <| A2 aUk <| A2 aUl <| A2 aUm <| A2 aUn <| A2 aZa <| A2 aZb <| A2 aZd <| A2 aZe <| A2 aZg <| A2 aZh <| A2 aZj <| A2 aZk <| A2 aZm <| A2 aZn <| A2 aZp <| aZq
theorem agK (P : Program) : (∀ (t : TypeId) (a b : List V), bJ P .eql t (.agg a) (.agg b) = (match nQ P 100 t (.agg a) (.agg b) with
      | .ok r => .ok (.bool r)
      | .error e => .error e)) ∧ (∀ (t : TypeId) (a b : List V), bJ P .neq t (.agg a) (.agg b) = (match nQ P 100 t (.agg a) (.agg b) with
      | .ok r => .ok (.bool (!r))
      | .error e => .error e)) := ⟨fun _ _ _ => rfl, fun _ _ _ => rfl⟩
theorem kk:type_of% (A2 sf <| A2 ex <| A2 (agK prog) <| A2 aVv <| A2 nk <| A2 kit <| A2 (bBp prog) <| A2 bBq <| A2 fx ls):=A2 sf <| A2 ex <| A2 (agK prog) <| A2 aVv <| A2 nk <| A2 kit <| A2 (bBp prog) <| A2 bBq <| A2 fx ls
theorem bFd (y:Int) (S:St) (K:KW):C 204 [.int .i64 y] S K=K (.bool (aPa y)) S:=by
 refine (bEf rfl ?_).eq S K
 delta Tryz.f204;simp only [↓cw,↓reduceIte,Nat.reduceLT,kk,ne_eq,Int.reduceEq,not_false_eq_true,aPa]
 grind
theorem bFe (y:Int) (S:St) (K:KW):C 246 [.int .i64 y] S K=K (.bool (aPa y)) S:=by
 refine (bEu rfl ?_).eq S K
 delta Tryz.f246;simp only [↓cw,↓reduceIte,Nat.reduceLT,kk,ne_eq,Int.reduceEq,not_false_eq_true,aPa]
 grind
theorem bBu (y m:Int) (S:St) (K:KW):C 132 [.int .i64 y,.int .i64 m] S K=K (.int .i64 (fH y m)) S:=by
 refine (bDo rfl ?_).eq S K
 delta Tryz.f132;simp only [↓cw,↓reduceIte,Nat.reduceLT,kk,bFd,fH]
 grind
def pJ (y m:Int):Int:=if 1≤m∧m≤12 then fH y m else 0
theorem bBv (y m:Int) (S:St) (K:KW):C 196 [.int .i64 y,.int .i64 m] S K=K (.int .i64 (pJ y m)) S:=by
 refine (bE9 rfl ?_).eq S K
 delta Tryz.f196;simp only [↓cw,↓reduceIte,Nat.reduceLT,kk,bFe,pJ,fH]
 by_cases h:1≤m∧m≤12
 ·have h:m=1∨m=2∨m=3∨m=4∨m=5∨m=6∨m=7∨m=8∨m=9∨m=10∨m=11∨m=12:=by omega
  rcases h with rfl | rfl | rfl | rfl | rfl | rfl | rfl | rfl | rfl | rfl | rfl | rfl<;>simp
 ·have e:∀ k:Int,1≤k→k≤12→m≠k:=by omega
  simp [h,e]
theorem aRn (d:Date) (S:St) (K:KW):C 123 [.agg [.int .i64 d.y,.int .i64 d.m,.int .i64 d.d]] S K=K (.bool d.right) S:=by
 refine (bDj rfl ?_).eq S K
 delta Tryz.f123;simp only [↓cw,↓reduceIte,Nat.reduceLT,kk,bBu,Date.right]
 grind
theorem aWu (d:Date) (S:St) (K:KW):C 118 [.agg [.int .i64 d.y,.int .i64 d.m,.int .i64 d.d]] S K=K (.bool d.right) S:=by
 refine (bDg rfl ?_).eq S K
 delta Tryz.f118;simp only [↓cw,↓reduceIte,Nat.reduceLT,kk,bBv,Date.right,pJ]
 grind
theorem bFf (y:Int) (S:St) (K:KW):C 131 [.int .i64 y] S K=K (.int .i64 (aF4 y)) S:=by
 refine (bDn rfl ?_).eq S K
 delta Tryz.f131;simp only [↓cw,↓reduceIte,Nat.reduceLT,kk,ne_eq,Int.reduceEq,not_false_eq_true,aF4]
theorem bFg (d:Date) (S:St) (K:KW):C 200 [.agg [.int .i64 d.y,.int .i64 d.m,.int .i64 d.d]] S K=K (.int .i64 d.days) S:=by
 refine (bEd rfl ?_).eq S K
 delta Tryz.f200;simp only [↓cw,↓reduceIte,Nat.reduceLT,kk,aRn,bFf,Date.days]
 by_cases hr:d.right=true
 ·simp only [↓cw,↓reduceIte,Nat.reduceLT,hr,kk]
  have hm:1≤d.m∧d.m≤12:=by simp only [Date.right,Bool.and_eq_true,decide_eq_true_eq] at hr;omega
  refine aG (List.range (d.m - 1).toNat) (step:=gY d.y) (fin:=id) (fun i n vs S=>vs=[.int .i64 n,.int .i64 ((i:Int)+1)]∧aB S 0 0=.ok (3,[d.enc])) (fun r=>V.int .i64 (wr .i64 (wr .i64 (r+d.d) - 1))=.int .i64 (wr .i64 (wr .i64 (aE (gY d.y) id (List.range (d.m - 1).toNat) (aF4 d.y)+d.d) - 1))) ?_ ?_ ⟨rfl,by simp only [↓cw,↓reduceIte,Nat.reduceLT,kk];rfl⟩ rfl
  ·rintro i a n vs S hi ⟨rfl,hg⟩ aC H
   obtain ⟨hil,rfl⟩:=aFa hi
   simp only [gY] at H
   simp only [↓cw,↓reduceIte,Nat.reduceLT,kk,hg,Date.enc,bBu]
   rw [if_pos (by omega)]
   refine H _ _ ⟨?_,hg⟩
   rw [kM (n:=(a:Int)+1+1) (by omega) (by omega)]
   simp
  ·rintro n vs S ⟨rfl,hg⟩ aC H
   simp only [↓cw,↓reduceIte,Nat.reduceLT,kk,hg,Date.enc]
   rw [if_neg (by simp;omega)]
   exact H
 ·have hr:d.right=false:=by simpa using hr
  simp only [↓cw,↓reduceIte,Nat.reduceLT,hr,kk]
theorem bBw (a b:Date) (S:St) (K:KW):C 124 [.agg [.int .i64 a.y,.int .i64 a.m,.int .i64 a.d],.agg [.int .i64 b.y,.int .i64 b.m,.int .i64 b.d]] S K=K (.bool (a.before b)) S:=by
 refine (bDk rfl ?_).eq S K
 delta Tryz.f124;simp only [↓cw,↓reduceIte,Nat.reduceLT,kk,tP,aRn,bFg,Date.before]
 cases a.right<;>cases b.right<;>simp
theorem bFh (a b:Int) (S:St) (K:KW):C 203 [.int .i64 a,.int .i64 b] S K=K (eG (iS a b)) S:=by
 refine (bEe rfl ?_).eq S K
 delta Tryz.f203;simp only [↓cw,↓reduceIte,Nat.reduceLT,kk,oo,iS,eG]
 grind
theorem bBx (a b:Int) (S:St) (K:KW):C 127 [.int .i64 a,.int .i64 b] S K=K (eG (iS a b)) S:=by
 refine (bDm rfl ?_).eq S K
 delta Tryz.f127;simp only [↓cw,↓reduceIte,Nat.reduceLT,kk,oo,iS,eG]
 grind
theorem aWv (a b:Int) (S:St) (K:KW):C 219 [.int .i64 a,.int .i64 b] S K=K (eG (bK a b)) S:=by
 refine (bEj rfl ?_).eq S K
 delta Tryz.f219;simp only [↓cw,↓reduceIte,Nat.reduceLT,kk,oo,bK,eG]
 grind
theorem aWw (a b:Int) (S:St) (K:KW):C 198 [.int .i64 a,.int .i64 b] S K=K (eG (bK a b)) S:=by
 refine (bEb rfl ?_).eq S K
 delta Tryz.f198;simp only [↓cw,↓reduceIte,Nat.reduceLT,kk,oo,bK,eG]
 grind
def zK (n:Int):Int:=if n<0 then wr .u64 (wr .u64 (wr .i64 (0 - wr .i64 (n+1)))+1) else wr .u64 n
theorem bFi (n:Int) (S:St) (K:KW):C 222 [.int .i64 n] S K=K (.int .u64 (zK n)) S:=by
 refine (bEl rfl ?_).eq S K
 delta Tryz.f222;simp only [↓cw,↓reduceIte,Nat.reduceLT,kk,unK,zK]
 split<;>rfl
theorem bFj (n bp:Int) (S:St) (K:KW):C 254 [.int .i64 n,.int .i64 bp,.int .i64 10000] S K=K (eG (cY n bp)) S:=by
 refine (bEv rfl ?_).eq S K
 delta Tryz.f254;simp only [↓cw,↓reduceIte,Nat.reduceLT,kk,unK,oo,eG,aWr,zD,ne_eq,Int.reduceEq,not_false_eq_true]
 unfold cY
 simp only [aJc]
 by_cases hn:n<0<;>simp only [↓cw,↓reduceIte,Nat.reduceLT,hn,kk,if_true,if_false,zD]
 all_goals
  by_cases hp:wr .u64 bp=0
  ·simp only [↓cw,↓reduceIte,Nat.reduceLT,hp,kk,zD]
   grind
  ·simp only [↓cw,↓reduceIte,Nat.reduceLT,hp,kk,zD,ne_eq,not_false_eq_true]
   grind
theorem bFk (n bp:Int) (S:St) (K:KW):C 217 [.int .i64 n,.int .i64 bp] S K=K (eG (cY n bp)) S:=by
 refine (bEh rfl ?_).eq S K
 delta Tryz.f217;simp only [↓cw,↓reduceIte,Nat.reduceLT,kk,bFj,eG,oo]
def aPe (n bp:Int):Int×Int:=if bp<0∨100000<bp then (0,1) else
 if 0<bp∧wr .u64 ((9223372036854775807:Int).tdiv (wr .u64 bp))<wr .u64 ((zK n).tdiv 10000) then (0,7) else
  let t:=wr .u64 (wr .u64 (wr .u64 ((zK n).tdiv 10000)*wr .u64 bp)+wr .u64 ((wr .u64 (wr .u64 ((zK n).tmod 10000*wr .u64 bp)+5000)).tdiv 10000))
  if 9223372036854775807<t then (0,7) else if n<0 then (wr .i64 (0 - wr .i64 t),0) else (wr .i64 t,0)
theorem bFl (n bp:Int) (S:St) (K:KW):C 160 [.int .i64 n,.int .i64 bp] S K=K (eG (aPe n bp)) S:=by
 refine (bDt rfl ?_).eq S K
 delta Tryz.f160;simp only [↓cw,↓reduceIte,Nat.reduceLT,kk,bFi,unK,oo,eG,ne_eq,Int.reduceEq,not_false_eq_true,aPe]
 by_cases hb:bp<0∨100000<bp
 ·grind
 ·have hw:wr .u64 bp=bp:=by unfold wr lo hi;simp only;rw [if_pos (by omega)]
  by_cases hp:0<bp
  ·have hp2:bp≠0:=by omega
   simp only [↓cw,↓reduceIte,Nat.reduceLT,hp,hp2,hw,kk,ne_eq,not_false_eq_true]
   grind
  ·simp only [↓cw,↓reduceIte,Nat.reduceLT,hp,kk]
   grind
theorem aWx:(fun (a b c:Int)=>mB Tryz.f255 [.int .u64 a,.int .u64 b,.int .u64 c])=fun a b c=>
  bif decide (0≤a)&&decide (0≤b)&&decide (0≤c)&&decide (c≤1) then .ok (.tup [.int .u64 ((a+b+c) % 18446744073709551616),.int .u64 ((a+b+c) / 18446744073709551616)]) else .error "Add64":=by kernel_rfl
theorem aJe {a b c:Int} (ha:0≤a) (hb:0≤b) (hc:0≤c) (hc1:c≤1):mB Tryz.f255 [.int .u64 a,.int .u64 b,.int .u64 c]=.ok (.tup [.int .u64 ((a+b+c) % 18446744073709551616),.int .u64 ((a+b+c) / 18446744073709551616)]):=by
 refine (congrFun (congrFun (congrFun aWx a) b) c).trans ?_
 simp only [ha,hb,hc,hc1,decide_true,Bool.and_self,cond_true]
theorem aLc (P:Program) (t:TypeId) (a:Int):bJ P .shr t (.int .u64 a) (.int .u64 63)=.ok (.int .u64 (a.fdiv (2 ^ 63))):=rfl
theorem bFm (l:List Int) (hb:l.length<1000000) (S:St) (K:KW):C 218 [.imm (l.map bS)] S K=K (.tup [.int .i64 (cR l).1,.bool (cR l).2]) S:=by
 refine (bEi rfl ?_).eq S K
 delta Tryz.f218;simp only [↓cw,↓reduceIte,Nat.reduceLT,kk]
 refine aG l (step:=pF) (fin:=oM) (fun i st vs S=>vs=[.int .u64 st.1,.int .u64 st.2,.int .i64 (i:Int)]∧0≤st.1∧st.1<18446744073709551616∧0≤st.2∧st.2<18446744073709551616) (fun r=>V.tup [.int .i64 r.1,.bool r.2]=.tup [.int .i64 (cR l).1,.bool (cR l).2])
  ?_ ?_ (s:=(0,0)) ⟨rfl,by decide,by decide,by decide,by decide⟩ rfl
 ·rintro i n ⟨h,lo⟩ vs S hi ⟨rfl,r1,r2,r3,r4⟩ aC H
  have hr:=aLa n
  have hil:=(List.getElem?_eq_some_iff.1 hi).1
  simp only at r1 r2 r3 r4
  have hc1:(lo+wr .u64 n+0) / 18446744073709551616≤1:=by omega
  have hc0:0≤(lo+wr .u64 n+0) / 18446744073709551616:=by omega
  have hI:=H [.int .u64 ((h+(if n<0 then 18446744073709551615 else 0)+(lo+wr .u64 n+0) / 18446744073709551616) % 18446744073709551616),.int .u64 ((lo+wr .u64 n+0) % 18446744073709551616),.int .i64 ((i+1:Nat):Int)] S ⟨rfl,by simp only;omega,by simp only;omega,by simp only;omega,by simp only;omega⟩
  simp only [↓cw,↓reduceIte,Nat.reduceLT,kk,aY hi,bBr hi,bS,unK,bBn]
  by_cases hn:n<0
  ·simp only [↓cw,↓reduceIte,Nat.reduceLT,hn,kk,if_true,aJe (c:=0) r3 hr.1 (by decide) (by decide),aJe r1 (show (0:Int)≤18446744073709551615 by decide) hc0 hc1,fV (show i<1000000000 by omega)] at hI ⊢
   exact hI
  ·simp only [↓cw,↓reduceIte,Nat.reduceLT,hn,kk,if_false,aJe (c:=0) r3 hr.1 (by decide) (by decide),aJe r1 (show (0:Int)≤0 by decide) hc0 hc1,fV (show i<1000000000 by omega)] at hI ⊢
   exact hI
 ·rintro ⟨h,lo⟩ vs S ⟨rfl,r1,r2,r3,r4⟩ aC H
  simp only [↓cw,↓reduceIte,Nat.reduceLT,kk,Int.lt_irrefl,aLc,oM,oo] at H ⊢
  by_cases c:lo.fdiv (2 ^ 63)=0<;>simp only [↓cw,↓reduceIte,Nat.reduceLT,c,kk,if_true,if_false] at H ⊢<;>exact H
theorem bFn (r:Int) (S:St) (K:KW):C 225 [.int .i32 r] S K=K (.bool (jG r)) S:=by
 refine (bEo rfl ?_).eq S K
 delta Tryz.f225;simp only [↓cw,↓reduceIte,Nat.reduceLT,kk,jG]
 grind
theorem bFo (r:Int) (S:St) (K:KW):C 245 [.int .i32 r] S K=K (.bool (jG r)) S:=by
 refine (bEt rfl ?_).eq S K
 delta Tryz.f245;simp only [↓cw,↓reduceIte,Nat.reduceLT,kk,jG]
 grind
theorem aRo (s:List UInt8) (a pos:Nat) (S:St) (hg:S.heap.get a=some (.iter s pos)) (hl:pos<s.length):
  sP (.ptr a 0 0 0) S=.ok (.tup [.bool true,.int .i64 pos,.int .i32 (Utf8.decode ⟨⟨s⟩⟩ pos).1],⟨S.next,S.heap.put a (.iter s (pos+(Utf8.decode ⟨⟨s⟩⟩ pos).2))⟩):=by
 have hb:Nat.blt pos s.length=true:=Nat.ble_eq_true_of_le hl
 have hs:s[pos]?=some s[pos]:=List.getElem?_eq_getElem hl
 simp only [sP,hg,hb,hs]
 split
 ·rename_i h
  rw [Go.AM.decode_ascii hs (by simpa using h)]
 ·rfl
theorem aFb (s:List UInt8) (a pos:Nat) (S:St) (hg:S.heap.get a=some (.iter s pos)) (hl:s.length≤pos):sP (.ptr a 0 0 0) S=.ok (.tup [.bool false],S):=by
 have hb:Nat.blt pos s.length=false:=by
  cases h:Nat.blt pos s.length with
  | false=>rfl
  | true=>exact absurd (Nat.le_of_ble_eq_true h) (by omega)
 simp only [sP,hg,hb]
def IterAt (s:List UInt8) (i:Nat) (S:St):Prop:=∃ pos f,S.heap.get 0=some (.iter s pos)∧(jA s s.length 0).drop i=jA s f pos∧s.length≤f+pos
theorem IterAt.next {s:List UInt8} {i:Nat} {S:St} (h:IterAt s i S) {q r:Nat} (hi:(jA s s.length 0)[i]?=some (q,r)):∃ S',sP (.ptr 0 0 0 0) S=.ok (.tup [.bool true,.int .i64 q,.int .i32 r],S')∧IterAt s (i+1) S':=by
 obtain ⟨pos,f,hg,hd,hf⟩:=h
 have hd0:=congrArg (·[0]?) hd
 simp only [List.getElem?_drop,Nat.add_zero,hi] at hd0
 cases f with
 | zero=>simp [jA] at hd0
 | succ f=>
  have hl:pos<s.length:=by
   by_cases hl:pos<s.length
   ·exact hl
   ·simp [jA,hl] at hd0
  have hd2:jA s (f+1) pos=(pos,(Utf8.decode ⟨⟨s⟩⟩ pos).1)::jA s f (pos+(Utf8.decode ⟨⟨s⟩⟩ pos).2):=by simp only [jA,hl,if_true]
  rw [hd2] at hd0 hd
  simp only [List.getElem?_cons_zero,Option.some.injEq,Prod.mk.injEq] at hd0
  obtain ⟨rfl,rfl⟩:=hd0
  have hw:=aF5 ⟨⟨s⟩⟩ q
  exact ⟨_,aRo s 0 q S hg hl,_,f,Tr.get_put_sameB _ _ _ trivial,by rw [←List.drop_drop,hd];rfl,by omega⟩
theorem IterAt.last {s:List UInt8} {S:St} (h:IterAt s (jA s s.length 0).length S):sP (.ptr 0 0 0 0) S=.ok (.tup [.bool false],S):=by
 obtain ⟨pos,f,hg,hd,hf⟩:=h
 rw [List.drop_length] at hd
 cases f with
 | zero=>exact aFb s 0 pos S hg (by omega)
 | succ f=>
  by_cases hl:pos<s.length
  ·simp [jA,hl] at hd
  ·exact aFb s 0 pos S hg (by omega)
theorem tG (s:List UInt8):aCw (.str s) none ⟨0,.nil⟩=.ok (.ptr 0 0 0 0,⟨1,Tr.nil.put 0 (.iter s 0)⟩)∧IterAt s 0 ⟨1,Tr.nil.put 0 (.iter s 0)⟩:=⟨rfl,0,s.length,Tr.get_put_sameB _ _ _ trivial,rfl,by omega⟩
theorem aWy (s:List UInt8) (S:St) (K:KW):C 165 [.str s] S K=K (.bool (dX s)) S:=by
 refine (bDy rfl ?_).eq S K
 delta Tryz.f165;simp only [↓cw,↓reduceIte,Nat.reduceLT,kk,(tG s).1,dX]
 by_cases h1:s.length<1
 ·rw [if_pos (by omega)];simp [h1]
 by_cases h2:24<s.length
 ·rw [if_neg (by omega),if_pos (by omega)];simp [h1,h2]
 rw [if_neg (by omega),if_neg (by omega)]
 simp only [↓cw,↓reduceIte,Nat.reduceLT,h1,h2,kk]
 refine aG (jA s s.length 0) (step:=jW) (fin:=fun _=>true) (fun i _ vs S=>vs=[.bool false]∧IterAt s i S) (fun r=>V.bool r=.bool (aE jW (fun _=>true) (jA s s.length 0) ())) ?_ ?_ (s:=()) ⟨rfl,(tG s).2⟩ rfl
 ·rintro i ⟨q,r⟩ _ vs S hi ⟨rfl,hI⟩ aC H
  obtain ⟨S',e,hI'⟩:=hI.next hi
  simp only [↓cw,↓reduceIte,Nat.reduceLT,kk,e,bFn]
  simp only [jW] at H
  have H1:=fun h:jG (r:Int)=true=>(by simpa only [h,if_true] using H:∀ vs' S',vs'=[.bool false]∧IterAt s (i+1) S'→aC vs' S') [.bool false] S' ⟨rfl,hI'⟩
  by_cases c1:jG (r:Int)=true
  ·simp only [c1,if_true];exact H1 c1
  ·simp only [c1,if_false] at H ⊢
   by_cases c2:q=0
   ·subst c2;simp at H ⊢;exact H
   ·have c2':¬ (q:Int)=0:=by omega
    simp only [c2,c2',if_false] at H ⊢
    by_cases c3:(48≤r∧r≤57)∨r=45∨r=95∨r=46
    ·simp only [c3,if_true] at H
     have h0:=H [.bool false] S' ⟨rfl,hI'⟩
     grind
    ·simp only [c3,if_false] at H
     grind
 ·rintro _ vs S ⟨rfl,hI⟩ aC H
  simp only [↓cw,↓reduceIte,Nat.reduceLT,kk,hI.last]
  exact H
theorem aWz (s:List UInt8) (S:St) (K:KW):C 195 [.str s] S K=K (.bool (dX s)) S:=by
 refine (bE8 rfl ?_).eq S K
 delta Tryz.f195;simp only [↓cw,↓reduceIte,Nat.reduceLT,kk,(tG s).1,dX]
 by_cases h1:s=[]
 ·subst h1;simp
 have h0:¬ s.length<1:=by have:=List.length_pos_iff.2 h1;omega
 by_cases h2:24<s.length
 ·have h3:(24:Int)<(s.length:Int):=by omega
  simp [h0,h1,h2,h3]
 rw [if_neg (by simpa using h1),if_neg (by omega)]
 simp only [↓cw,↓reduceIte,Nat.reduceLT,h0,h2,kk]
 refine aG (jA s s.length 0) (step:=jW) (fin:=fun _=>true) (fun i _ vs S=>vs=[.bool false]∧IterAt s i S) (fun r=>V.bool r=.bool (aE jW (fun _=>true) (jA s s.length 0) ())) ?_ ?_ (s:=()) ⟨rfl,(tG s).2⟩ rfl
 ·rintro i ⟨q,r⟩ _ vs S hi ⟨rfl,hI⟩ aC H
  obtain ⟨S',e,hI'⟩:=hI.next hi
  simp only [↓cw,↓reduceIte,Nat.reduceLT,kk,e,bFo]
  simp only [jW] at H
  have H1:=fun h:jG (r:Int)=true=>(by simpa only [h,if_true] using H:∀ vs' S',vs'=[.bool false]∧IterAt s (i+1) S'→aC vs' S') [.bool false] S' ⟨rfl,hI'⟩
  by_cases c1:jG (r:Int)=true
  ·simp only [c1,if_true];exact H1 c1
  ·simp only [c1,if_false] at H ⊢
   by_cases c2:q=0
   ·subst c2;simp at H ⊢;exact H
   ·have c2':¬ (q:Int)=0:=by omega
    simp only [c2,c2',if_false] at H ⊢
    by_cases c3:(48≤r∧r≤57)∨r=45∨r=95∨r=46
    ·simp only [c3,if_true] at H
     have h0:=H [.bool false] S' ⟨rfl,hI'⟩
     grind
    ·simp only [c3,if_false] at H
     grind
 ·rintro _ vs S ⟨rfl,hI⟩ aC H
  simp only [↓cw,↓reduceIte,Nat.reduceLT,kk,hI.last]
  exact H
theorem bBy (d:Date) (S:St) (K:KW):C 126 [.agg [.int .i64 d.y,.int .i64 d.m,.int .i64 d.d]] S K=K (.int .i64 d.days) S:=by
 refine (bDl rfl ?_).eq S K
 delta Tryz.f126;simp only [↓cw,↓reduceIte,Nat.reduceLT,kk,aWu,Date.days,ne_eq,Int.reduceEq,not_false_eq_true]
 by_cases hr:d.right=true
 ·simp only [↓cw,↓reduceIte,Nat.reduceLT,hr,kk]
  have hm:1≤d.m∧d.m≤12:=by simp only [Date.right,Bool.and_eq_true,decide_eq_true_eq] at hr;omega
  refine aG (List.range (d.m - 1).toNat) (step:=gY d.y) (fin:=id) (fun i n vs S=>vs=[.int .i64 n,.int .i64 ((i:Int)+1)]∧aB S 0 0=.ok (3,[d.enc])) (fun r=>V.int .i64 (wr .i64 (wr .i64 (r+d.d) - 1))=.int .i64 (wr .i64 (wr .i64 (aE (gY d.y) id (List.range (d.m - 1).toNat) (aF4 d.y)+d.d) - 1))) ?_ ?_ ⟨rfl,by simp only [↓cw,↓reduceIte,Nat.reduceLT,kk];rfl⟩ rfl
  ·rintro i a n vs S hi ⟨rfl,hg⟩ aC H
   obtain ⟨hil,rfl⟩:=aFa hi
   simp only [gY] at H
   simp only [↓cw,↓reduceIte,Nat.reduceLT,kk,hg,Date.enc,bBv,pJ]
   rw [if_pos (by omega),if_pos (by omega)]
   refine H _ _ ⟨?_,hg⟩
   rw [kM (n:=(a:Int)+1+1) (by omega) (by omega)]
   simp
  ·rintro n vs S ⟨rfl,hg⟩ aC H
   simp only [↓cw,↓reduceIte,Nat.reduceLT,kk,hg,Date.enc]
   rw [if_neg (by simp;omega)]
   exact H
 ·have hr:d.right=false:=by simpa using hr
  simp only [↓cw,↓reduceIte,Nat.reduceLT,hr,kk]
theorem bFp (r:Rate) (S:St) (K:KW):C 163 [.agg [.str r.cat,.int .i64 r.day.y,.int .i64 r.day.m,.int .i64 r.day.d,.int .i64 r.bp]] S K=K (.int .i64 (zF r)) S:=by
 refine (bDw rfl ?_).eq S K
 delta Tryz.f163;simp only [↓cw,↓reduceIte,Nat.reduceLT,kk,aWy,aRn,zF]
 cases dX r.cat<;>cases r.day.right<;>simp
 grind
theorem bFq (r:Rate) (S:St) (K:KW):C 193 [.agg [.str r.cat,.int .i64 r.day.y,.int .i64 r.day.m,.int .i64 r.day.d,.int .i64 r.bp]] S K=K (.int .i64 (zF r)) S:=by
 refine (bE6 rfl ?_).eq S K
 delta Tryz.f193;simp only [↓cw,↓reduceIte,Nat.reduceLT,kk,aWz,aWu,zF]
 cases dX r.cat<;>cases r.day.right<;>simp
 grind
theorem bFr (a b:Rate) (S:St) (K:KW):C 164 [.agg [.str a.cat,.int .i64 a.day.y,.int .i64 a.day.m,.int .i64 a.day.d,.int .i64 a.bp],.agg [.str b.cat,.int .i64 b.day.y,.int .i64 b.day.m,.int .i64 b.day.d,.int .i64 b.bp]] S K=K (.bool (gG a b)) S:=by
 refine (bDx rfl ?_).eq S K
 delta Tryz.f164;simp only [↓cw,↓reduceIte,Nat.reduceLT,kk,bBw,tP,gG]
 cases iW a.cat b.cat<;>cases (a.cat == b.cat)<;>simp
theorem g85 (l:List Rate) (S:St) (K:KW):C 85 [.imm (l.map Rate.enc)] S K=K (.bool (iT l)) S:=by
 refine (v85 rfl ?_).eq S K
 delta Tryz.f85;simp only [↓cw,↓reduceIte,Nat.reduceLT,kk,iT]
 by_cases h:24<l.length
 ·rw [if_pos (by omega),if_pos h]
 have h':¬ (24:Int)<(l.length:Int):=by omega
 simp only [↓cw,↓reduceIte,Nat.reduceLT,h,h',kk]
 refine aG l (step:=dS) (fin:=fun _=>true) (fun i s vs S=>s=bL l i∧vs=[.bool false,.int .i64 (i:Int)]) (fun r=>V.bool r=.bool (aE dS (fun _=>true) l none)) ?_ ?_ ⟨rfl,rfl⟩ rfl
 ·rintro i r s vs S hi ⟨rfl,rfl⟩ aC H
  have hil:=(List.getElem?_eq_some_iff.1 hi).1
  have hn:bL l (i+1)=some r:=by simpa [bL] using hi
  simp only [hn] at H
  simp only [↓cw,↓reduceIte,Nat.reduceLT,kk,aY hi,lI hi,Rate.enc,bFp,fV (show i<1000000000 by omega),dS] at H ⊢
  by_cases c:zF r=0
  ·simp only [↓cw,↓reduceIte,Nat.reduceLT,c,kk,ne_eq,not_true_eq_false] at H ⊢
   cases i with
   | zero=>simp [bL] at H ⊢;exact H _ _ rfl
   | succ j=>
    have hj:l[j]?=some l[j]:=List.getElem?_eq_getElem (by omega)
    have hp:bL l (j+1)=some l[j]:=by simp [bL,hj]
    simp only [↓cw,↓reduceIte,Nat.reduceLT,hp,gt0,kk,wrm (show j+1<1000000000 by omega),lI hj,Rate.enc,bFr] at H ⊢
    cases ha:gG l[j] r<;>simp [ha] at H ⊢<;>first | exact H | exact H _ _ rfl
  ·simp [c] at H ⊢
   exact H
 ·rintro s vs S ⟨rfl,rfl⟩ aC H
  simp only [↓cw,↓reduceIte,Nat.reduceLT,kk,Int.lt_irrefl]
  exact H
end Go.Proofs.YtoaibmbldmckaaaGreat
end
section
namespace Go.AM
theorem Own.frz {S0 S:St} {n:Nat} {v:V} {es:List (List V)} (h:Own S0 S n v es) (hc:es.all cloVs=true):cP lX (nL (kK S 3) S) v=.ok (.imm es):=by
 rcases h.is with ⟨rfl,rfl⟩ | ⟨a,ver,tl,rfl,_,_,q⟩
 ·rfl
 ·have he:aM S (.sl a ver n 0 es.length)=.ok es:=h.sl.elems
  simp only [cP,nL,he,(oJ (S:=S) (n:=2) hc).1]
theorem Own.ptrs {S0 S:St} {n:Nat} {v:V} {es:List (List V)} (h:Own S0 S n v es):aAt v=[]:=by
 rcases h.is with ⟨rfl,rfl⟩ | ⟨a,ver,tl,rfl,_,_,q⟩<;>rfl
theorem kY {α:Type} {enc:α→List V} (h:∀ x,cloVs (enc x)=true) (l:List α):(l.map enc).all cloVs=true:=by
 rw [List.all_eq_true]
 intro y hy
 obtain ⟨x,_,rfl⟩:=List.mem_map.1 hy
 exact h x
theorem Sl.imm {n:Nat} {es:List (List V)} (S:St) (h:∀ cs,cs∈es→cs.length=n∧aI cs=true):Sl S n (.imm es) es:=⟨.inr (.inl rfl),h⟩
abbrev E0:St:=⟨0,.nil⟩
theorem xD:WF E0:=fun a b h=>by cases h
theorem bBz {α:Type} {enc:α→List V} {n b:Nat} (hl:∀ x,(enc x).length=n∧aI (enc x)=true) (l:List α) {S:St} (w:WF S) (h1:l.length*b≤35184372088832) (h2:l.length<eE):
  ∃ v S',eN n b .nils (.imm (l.map enc)) none S=.ok (v,S')∧Ext S S'∧Own E0 S' n v (l.map enc):=by
 obtain ⟨v,S',q1,q2,q3⟩:=(Sl.imm (n:=n) (es:=l.map enc) S (fun cs hc=>by obtain ⟨x,_,rfl⟩:=List.mem_map.1 hc;exact hl x)).copy (b:=b) w (by rw [List.length_map];exact h1) (by rw [List.length_map];exact h2)
 exact ⟨v,S',q1,q2,q3.weaken (Nat.zero_le _)⟩
theorem aVw {α:Type} {enc:α→List V} {n b:Nat} (hl:∀ x,(enc x).length=n∧aI (enc x)=true) (l:List α) {S:St} (w:WF S) (h1:l.length*b≤35184372088832) (h2:l.length<eE):
  ∃ v S',eN n b .nils (.imm (l.map enc)) none S=.ok (v,S')∧Ext S S'∧Own S S' n v (l.map enc):=
 (Sl.imm (n:=n) (es:=l.map enc) S (fun cs hc=>by obtain ⟨x,_,rfl⟩:=List.mem_map.1 hc;exact hl x)).copy (b:=b) w (by rw [List.length_map];exact h1) (by rw [List.length_map];exact h2)
theorem aH7 {S:St} (w:WF S):Ext E0 S:=⟨fun a b h=>(by cases h),Nat.zero_le _,fun _=>w⟩
end Go.AM
namespace Go.Proofs.YtoaibmbldmckaaaGreat
open Go.AM Tryz
set_option linter.unusedVariables false
set_option linter.unusedSimpArgs false
set_option maxRecDepth 100000
theorem bC0 {f:FuncId} {args:List V} {S:St} {v:V} (h:C f args S fun v' S'=>v'=v∧S'=S) (K:KW):C f args S K=K v S:=by
 obtain ⟨v',S',ev,rfl,rfl⟩:=h
 exact aKs ev K
theorem bFs (fk:Nat) (ht:dK prog fk=some none) {n:Nat} {cap:List V} (p:Ser→Bool) (hf:∀ s:Ser,Fr fk (fun a=>[.agg s.enc,.ptr a 0 0 0]) n cap (.bool (p s)) cap) (l:List Ser) (hb:l.length<1000000) {S:St} {a:Nat} (hg:S.heap.get a=some (.row 0 n [cap])):
  ∀ K:KW,C 152 [.imm (l.map Ser.enc),.func fk [] [.ptr a 0 0 0]] S K=K (.int .i64 (ixM p l)) S:=by
 refine bC0 (bDq ?_)
 delta Tryz.f152;simp only [↓cw,↓reduceIte,Nat.reduceLT,kk]
 refine aG l (step:=cM p) (fin:=fun _=>-1) (fun i k vs X=>k=i∧vs=[.int .i64 0,.int .i64 (i:Int)]∧X=S) (fun r=>r=ixM p l) ?_ ?_ ⟨rfl,rfl,rfl⟩ rfl
 ·rintro i s k vs X hi ⟨rfl,rfl,rfl⟩ aC H
  have hil:=(List.getElem?_eq_some_iff.1 hi).1
  have he:=(hf s).eq_same hg
  simp only [Ser.enc] at he
  simp only [↓cw,↓reduceIte,Nat.reduceLT,kk,aY hi,kX hi,Ser.enc,↓aBl prog C ht,List.nil_append,List.cons_append,he,fV (show k<1000000000 by omega)]
  simp only [cM] at H
  cases hp:p s<;>simp only [↓cw,↓reduceIte,Nat.reduceLT,hp,kk] at H ⊢
  ·exact H _ _ ⟨rfl,rfl⟩
  ·rw [H]
 ·rintro k vs X ⟨rfl,rfl,rfl⟩ aC H
  simp only [↓cw,↓reduceIte,Nat.reduceLT,kk,Int.lt_irrefl]
  rw [H]
theorem bFt (l:List Sess) (S:St) (K:KW):C 166 [.imm (l.map Sess.enc)] S K=K (.bool (kU l)) S:=by
 refine (bDz rfl ?_).eq S K
 delta Tryz.f166;simp only [↓cw,↓reduceIte,Nat.reduceLT,kk,kU]
 by_cases h:8<l.length
 ·rw [if_pos (by omega),if_pos h]
 have h':¬ (8:Int)<(l.length:Int):=by omega
 simp only [↓cw,↓reduceIte,Nat.reduceLT,h,h',kk]
 refine aG l (step:=dC) (fin:=fun _=>true) (fun i s vs S=>vs=[.bool false,.int .i64 s,.int .i64 (i:Int)]) (fun r=>V.bool r=.bool (aE dC (fun _=>true) l 0)) ?_ ?_ rfl rfl
 ·rintro i s last vs S hi rfl aC H
  have hil:=(List.getElem?_eq_some_iff.1 hi).1
  have hn:((s.reply=Rep.zero):Prop)=((s.reply.why=0∧s.reply.number=0)∧s.reply.gross=0):=by
   obtain ⟨_,_,⟨_,_,_⟩⟩:=s;simp [Rep.zero,and_assoc]
  simp only [↓cw,↓reduceIte,Nat.reduceLT,dC,hn,kk] at H
  simp only [↓cw,↓reduceIte,Nat.reduceLT,kk,aY hi,jY hi,Sess.enc,fV (show i<1000000000 by omega)]
  grind
 ·rintro s vs S rfl aC H
  simp only [↓cw,↓reduceIte,Nat.reduceLT,kk,Int.lt_irrefl]
  exact H
end Go.Proofs.YtoaibmbldmckaaaGreat
end
section
namespace Go.AM
theorem bsl (n:Nat) (z:List V) (parts:List (Nat×V)) (fr:Option Nat) (S:St) (hn:n≤1000):aW n z 1 parts fr S=(match tQ n [z] parts with
  | .error e=>.error e
  | .ok elems=>match aR fr S (.row 0 n elems) with
   | .error e=>.error e
   | .ok (a,S')=>.ok (.sl a 0 n 0 1,S')):=by
 unfold aW
 rw [if_pos (by omega)]
 rfl
theorem uH (z:List V) (parts:List (Nat×V)) (fr:Option Nat) (S:St):type_of% (bsl 1 z parts fr S (by decide)):=bsl 1 z parts fr S (by decide)
theorem aRp (z:List V) (parts:List (Nat×V)) (fr:Option Nat) (S:St):type_of% (bsl 2 z parts fr S (by decide)):=bsl 2 z parts fr S (by decide)
theorem bFu (z:List V) (parts:List (Nat×V)) (fr:Option Nat) (S:St):type_of% (bsl 4 z parts fr S (by decide)):=bsl 4 z parts fr S (by decide)
theorem bC1 (z:List V) (parts:List (Nat×V)) (fr:Option Nat) (S:St):type_of% (bsl 12 z parts fr S (by decide)):=bsl 12 z parts fr S (by decide)
theorem lA {n m k:Nat} {h:Tr Blk} {b:Blk} (w:WF ⟨n,h⟩) (h1:k<m) (h2:n≤m):WF ⟨m,h.put k b⟩:=by
 intro a c hc
 have hc':(h.put k b).get a=some c:=hc
 rw [Tr.get_putB _ _ _ _ trivial] at hc'
 split at hc'
 ·show a<m;omega
 ·have:=w a c hc';show a<m;have:a<n:=this;omega
theorem WF.bump {S:St} (w:WF S) (c:Nat):WF ⟨S.next+c,S.heap⟩:=fun a b h=>Nat.lt_of_lt_of_le (w a b h) (Nat.le_add_right _ _)
theorem bG {S S':St} {a ver n:Nat} {el:List (List V)} (hg:aB S a ver=.ok (n,el)) (h:S'.heap.get a=S.heap.get a):aB S' a ver=.ok (n,el):=by
 rw [←hg];unfold aB;rw [h]
theorem bC2 {P:Program} {T:TypeId} {n b:Nat} (hT:apT P T=some (n,b)) (hn:1<n) {S:St} {v:V} {es:List (List V)} (h:Own E0 S n v es) (w:WF S) {c:List V} (hc:c.length=n∧aI c=true) (h1:(es.length+1)*b≤35184372088832) (h2:es.length+1<eE) {i:Nat} (hi:i≤es.length):
  ∃ v' S',jC P T v (.int .i64 (i:Int)) (.sl S.next 0 n 0 1) ⟨S.next+1,S.heap.put S.next (.row 0 n [c])⟩=.ok (v',S')∧WF S'∧Own E0 S' n v' (es.take i++c::es.drop i)∧∀ y,y<S.next→(∀ a ver m,v=.sl a ver n 0 m→y≠a)→S'.heap.get y=S.heap.get y:=by
 have x:Ext S ⟨S.next+1,S.heap.put S.next (.row 0 n [c])⟩:=Ext.new w _
 obtain ⟨v',S',q1,q2,q3,q4⟩:=(h.ext x).insertK hT hn (aH7 (x.wf w)) xD (bx:=S.next) (c:=c) (aF _ _ _ _ _ _) (fun a ver m hv=>by
  rcases h.is with ⟨rfl,_⟩ | ⟨a',ver',tl,rfl,_,hlt,_⟩
  ·cases hv
  ·cases hv;omega) hc h1 h2 hi
 refine ⟨v',S',q1,q2.wf xD,q3,fun y hy hya=>?_⟩
 rw [q4 y (by show y<S.next+1;omega) hya]
 exact Tr.get_put_neB _ _ _ _ trivial (by omega)
end Go.AM
namespace Go.Proofs.YtoaibmbldmckaaaGreat
open Go.AM Tryz
set_option linter.unusedVariables false
set_option linter.unusedSimpArgs false
set_option maxRecDepth 100000
theorem bFv {f:FuncId} {T:TypeId} (hpl:dPl f=some (.spec ((Sp.ins T).run prog))) {s i x v:V} {S S':St} (h:jC prog T s i x S=.ok (v,S')) (K:KW):C f [s,i,x] S K=K v S':=aMp hpl (args:=[s,i,x]) (show (Sp.ins T).run prog [s,i,x] S=.ok (v,S') from h) K
theorem bC3 (x:Sess):x.enc.length=5∧aI x.enc=true:=⟨rfl,rfl⟩
theorem bFw (x:Ser):x.enc.length=4∧aI x.enc=true:=⟨rfl,rfl⟩
end Go.Proofs.YtoaibmbldmckaaaGreat
end
section
namespace Go.Proofs.YtoaibmbldmckaaaGreat
open Go.AM Tryz
theorem g86 (l:List Ser) (S:St) (K:KW):C 86 [.imm (l.map Ser.enc)] S K=K (.bool (rG l)) S:=by
 refine (v86 rfl ?_).eq S K
 delta Tryz.f86;simp only [↓cw,↓reduceIte,Nat.reduceLT,kk,rG]
 by_cases h:8<l.length
 ·rw [if_pos (by omega),if_pos h]
 have h':¬ (8:Int)<(l.length:Int):=by omega
 simp only [↓cw,↓reduceIte,Nat.reduceLT,h,h',kk]
 refine aG l (step:=gH) (fin:=fun _=>true) (fun i s vs S=>s=bL l i∧vs=[.bool false,.int .i64 (i:Int)]) (fun r=>V.bool r=.bool (aE gH (fun _=>true) l none)) ?_ ?_ ⟨rfl,rfl⟩ rfl
 ·rintro i r s vs S hi ⟨rfl,rfl⟩ aC H
  have hil:=(List.getElem?_eq_some_iff.1 hi).1
  have hn:bL l (i+1)=some r:=by simpa [bL] using hi
  simp only [hn,gH] at H
  simp only [↓cw,↓reduceIte,Nat.reduceLT,kk,aY hi,kX hi,Ser.enc,aWy,fV (show i<1000000000 by omega)]
  cases hna:dX r.name
  ·simp [hna] at H ⊢;exact H
  ·simp only [↓cw,↓reduceIte,Nat.reduceLT,hna,kk,Bool.true_eq_false,if_false] at H ⊢
   cases i with
   | zero=>
    simp only [↓cw,↓reduceIte,Nat.reduceLT,bL,iI,kk,Bool.false_eq_true,if_false,if_true,mS,Bool.or_eq_true,decide_eq_true_eq] at H ⊢
    simp only [↓cw,↓reduceIte,Nat.reduceLT,Int.natCast_zero,Int.lt_irrefl,kk,if_false]
    grind
   | succ j=>
    have hj:l[j]?=some l[j]:=List.getElem?_eq_getElem (by omega)
    have hp:bL l (j+1)=some l[j]:=by simp [bL,hj]
    simp only [↓cw,↓reduceIte,Nat.reduceLT,hp,gt0,kk,wrm (show j+1<1000000000 by omega),kX hj,Ser.enc,iI,mS,Bool.or_eq_true,decide_eq_true_eq] at H ⊢
    grind
 ·rintro s vs S ⟨rfl,rfl⟩ aC H
  simp only [↓cw,↓reduceIte,Nat.reduceLT,kk,Int.lt_irrefl]
  exact H
theorem bC4 (x:Rate):x.enc.length=5∧aI x.enc=true:=⟨rfl,rfl⟩
end Go.Proofs.YtoaibmbldmckaaaGreat
end
section
namespace Go.AM
theorem aRq (n:Nat) (z:List V) (parts:List (Nat×V)) (fr:Option Nat) (S:St) (hn:n≤1000):aW n z 2 parts fr S=(match tQ n [z,z] parts with
  | .error e=>.error e
  | .ok elems=>match aR fr S (.row 0 n elems) with
   | .error e=>.error e
   | .ok (a,S')=>.ok (.sl a 0 n 0 2,S')):=by
 unfold aW
 rw [if_pos (by omega)]
 rfl
theorem aVy (z:List V) (parts:List (Nat×V)) (fr:Option Nat) (S:St):type_of% (aRq 2 z parts fr S (by decide)):=aRq 2 z parts fr S (by decide)
theorem Own.bump {S0 S:St} {n:Nat} {v:V} {es:List (List V)} (h:Own S0 S n v es) (c:Nat):Own S0 ⟨S.next+c,S.heap⟩ n v es:=h.ext ((Ext.refl S).bump c)
theorem Own.newV {S0 S:St} {n:Nat} {v:V} {es:List (List V)} (h:Own S0 S n v es) (hp:es.all (fun cs=>cs.all iN)=true):newV S v=true:=by
 have he:=h.sl.elems
 rcases h.is with ⟨rfl,_⟩ | ⟨a,ver,tl,rfl,_⟩
 ·rfl
 ·simp only [Go.AM.newV,he,hp]
theorem aFc {α:Type} {enc:α→List V} (h:∀ a,(enc a).all iN=true):∀ l:List α,(l.map enc).all (fun cs=>cs.all iN)=true
 | []=>rfl
 | a::l=>by simp only [List.map_cons,List.all_cons,h a,aFc h l,Bool.and_self]
theorem aVz {n b:Nat} {S:St} {v:V} {es:List (List V)} (h:Own E0 S n v es) (w:WF S) {cs:List (List V)} (hc:∀ c,c∈cs→c.length=n∧aI c=true) (hne:cs≠[]) (h1:(es.length+cs.length)*b≤35184372088832) (h2:es.length+cs.length<eE):
  ∃ v' S',eN n b v (.sl S.next 0 n 0 cs.length) none ⟨S.next+1,S.heap.put S.next (.row 0 n cs)⟩=.ok (v',S')∧Own E0 S' n v' (es++cs)∧WF S'∧∀ y,y<S.next→(∀ a ver m,v=.sl a ver n 0 m→y≠a)→S'.heap.get y=S.heap.get y:=by
 have x:Ext S ⟨S.next+1,S.heap.put S.next (.row 0 n cs)⟩:=Ext.new w _
 have hu:aM ⟨S.next+1,S.heap.put S.next (.row 0 n cs)⟩ (.sl S.next 0 n 0 cs.length)=.ok cs:=by
  have hb:Nat.ble (0+cs.length) cs.length=true:=Nat.ble_eq_true_of_le (by omega)
  simp only [aM,aF,hb,cond_true,List.drop_zero,List.take_length]
 obtain ⟨v',S',q1,q2,_,q3,q4⟩:=(h.ext x).pushK (b:=b) (aH7 (x.wf w)) xD hu hc hne h1 h2
 refine ⟨v',S',q1,q3,q2.wf xD,fun y hy hya=>?_⟩
 rw [q4 y (by show y<S.next+1;omega) hya]
 exact Tr.get_put_neB _ _ _ _ trivial (by omega)
end Go.AM
namespace Go.Proofs.YtoaibmbldmckaaaGreat
open Go.AM Tryz
set_option linter.unusedVariables false
set_option linter.unusedSimpArgs false
set_option maxRecDepth 100000
def Total.enc (t:Total):List V:=[.int .i64 t.net,.int .i64 t.tax,.int .i64 t.gross,.imm (t.parts.map Part.enc)]
def aRr (t:Total):Prop:=t.parts.length≤12∧∀ q∈t.parts,q.cat.length≤1000000
theorem xE {P:Program} {t:TypeId} {a b:List UInt8} (h:a.length+b.length<2000000):bJ P .add t (.str a) (.str b)=.ok (.str (a++b)):=by
 have:Nat.blt (a.length+b.length) eE=true:=by rw [Nat.blt_eq];unfold eE;omega
 simp only [bJ,uP,this,cond_true]
theorem aAl (x:Bal):x.enc.length=2∧aI x.enc=true:=⟨rfl,rfl⟩
theorem aJf (x:Part):x.enc.length=4∧aI x.enc=true:=⟨rfl,rfl⟩
theorem bFx (t:Total) (hf:aRr t):FnK prog dPl 157 [.agg [.int .i64 t.net,.int .i64 t.tax,.int .i64 t.gross,.imm (t.parts.map Part.enc)]] (.tup [.imm ((dG t).1.map Bal.enc),.int .i64 (dG t).2]):=by
 refine bDs ?_
 delta Tryz.f157;simp only [↓cw,↓reduceIte,Nat.reduceLT,kk,aRp]
 have hpl:=hf.1
 refine aG t.parts (step:=mT) (fin:=fun l=>(l,0)) (fun i s vs S=>∃ v,vs=[.nils,.int .i64 0,v,.int .i64 (i:Int)]∧Own E0 S 2 v (s.map Bal.enc)∧WF S∧s.length=1+2*i) (fun r=>r=dG t) ?_ ?_ (s:=[⟨[111,119,101,100],t.gross⟩]) ⟨_,rfl,⟨.inr ⟨1,0,[],rfl,Nat.zero_le _,Nat.lt_succ_self 1,rfl⟩,?_⟩,lA (lA (m:=1) xD (by decide) (by decide)) (by decide) (by decide),rfl⟩ rfl
 ·rintro i p s vs S hi ⟨v,rfl,own,w,hsl⟩ aC H
  have hil:=(List.getElem?_eq_some_iff.1 hi).1
  have hcat:=hf.2 p (List.mem_of_getElem? hi)
  simp only [↓cw,↓reduceIte,Nat.reduceLT,mT,kk] at H
  have e1:rH.length+p.cat.length<2000000:=by simp only [rH,List.length_cons,List.length_nil];omega
  have e2:rI.length+p.cat.length<2000000:=by simp only [rI,List.length_cons,List.length_nil];omega
  have c1:=xE (P:=prog) (t:=9) e1
  have c2:=xE (P:=prog) (t:=9) e2
  simp only [rH,rI] at c1 c2
  simp only [↓cw,↓reduceIte,Nat.reduceLT,kk,aY hi,eW hi,Part.enc,fV (show i<1000000000 by omega),aWv,eG,tP,c1,c2,aVy]
  by_cases h1:(bK 0 p.net).2=0
  ·by_cases h2:(bK 0 p.tax).2=0
   ·simp only [↓cw,↓reduceIte,Nat.reduceLT,h1,h2,kk,not_true_eq_false,if_false] at H ⊢
    have w1:WF ⟨S.next+1,(S.heap.put S.next (.row 0 4 [[V.str [],.int .i64 0,.int .i64 0,.int .i64 0]])).put S.next (.row 0 4 [p.enc])⟩:=lA (lA w (Nat.lt_succ_self _) (Nat.le_succ _)) (Nat.lt_succ_self _) (Nat.le_refl _)
    have x1:Ext S ⟨S.next+1,(S.heap.put S.next (.row 0 4 [[V.str [],.int .i64 0,.int .i64 0,.int .i64 0]])).put S.next (.row 0 4 [p.enc])⟩:=Ext.var w 4 _ _
    obtain ⟨v',S',q1,q2,q3,_⟩:=aVz (b:=24) (own.ext x1) w1 (cs:=[Bal.enc ⟨rH++p.cat,(bK 0 p.net).1⟩,Bal.enc ⟨rI++p.cat,(bK 0 p.tax).1⟩]) (fun c hc=>by
     rcases List.mem_cons.1 hc with rfl | hc
     ·exact aAl _
     ·rcases List.mem_cons.1 hc with rfl | hc
      ·exact aAl _
      ·cases hc) (by simp) (by simp;omega) (by simp [eE];omega)
    simp only [↓cw,↓reduceIte,Nat.reduceLT,Part.enc,Bal.enc,rH,rI,kk] at q1
    simp only [↓cw,↓reduceIte,Nat.reduceLT,q1,kk]
    exact H _ _ ⟨_,rfl,by rw [List.map_append];exact q2,q3,by rw [List.length_append,hsl];simp;omega⟩
   ·simp only [↓cw,↓reduceIte,Nat.reduceLT,h1,h2,kk,not_true_eq_false,not_false_eq_true,if_false,if_true] at H ⊢
    exact ⟨rfl,by simp only [oo,←H,List.map_nil]⟩
  ·simp only [↓cw,↓reduceIte,Nat.reduceLT,h1,kk,not_false_eq_true,if_true] at H ⊢
   exact ⟨rfl,by simp only [oo,←H,List.map_nil]⟩
 ·rintro s vs S ⟨v,rfl,own,w,_⟩ aC H
  have H':dG t=(s,0):=H.symm
  simp only [↓cw,↓reduceIte,Nat.reduceLT,kk,Int.lt_irrefl,if_false]
  exact ⟨by simp only [aAu,List.all_cons,List.all_nil,own.newV (aFc (fun _=>rfl) _),Bool.true_and,Bool.and_true];rfl,by simp only [oo,own.frz (kY (fun _=>rfl) _),H']⟩
 ·intro c hc;simp at hc;subst hc;exact ⟨rfl,rfl⟩
theorem bFy (t:Total) (hf:aRr t) (S:St) (K:KW):C 157 [.agg [.int .i64 t.net,.int .i64 t.tax,.int .i64 t.gross,.imm (t.parts.map Part.enc)]] S K=K (.tup [.imm ((dG t).1.map Bal.enc),.int .i64 (dG t).2]) S:=(bFx t hf).eq (by simp only [cloVs,yU,kY (enc:=Part.enc) (fun _=>rfl) t.parts,Bool.and_self]) S K
theorem bC5 (l:List Bal) (hb:l.length<1000000):Fv 220 [.imm (l.map Bal.enc)] (.bool (qC l)):=by
 refine bEk rfl ?_
 delta Tryz.f220;simp only [↓cw,↓reduceIte,Nat.reduceLT]
 refine aG (l.drop 1) (step:=oL) (fin:=fun _=>true) (fun j s vs S=>s=l[j]?∧vs=[.bool false,.int .i64 ((j+1:Nat):Int)]) (fun r=>V.bool r=.bool (qC l)) ?_ ?_ (s:=l[0]?) ⟨rfl,rfl⟩ rfl
 ·rintro j b s vs S hi ⟨rfl,rfl⟩ aC H
  rw [List.getElem?_drop,Nat.add_comm] at hi
  have hil:=(List.getElem?_eq_some_iff.1 hi).1
  have hj:l[j]?=some l[j]:=List.getElem?_eq_getElem (by omega)
  simp only [hj,oL,hi] at H
  simp only [↓cw,↓reduceIte,Nat.reduceLT,kk,aY hi,jZ hi,jZ hj,Bal.enc,wrm (show j+1<1000000000 by omega),fV (show j+1<1000000000 by omega)]
  cases c:iW l[j].acc b.acc<;>simp only [↓cw,↓reduceIte,Nat.reduceLT,c,kk,if_true,if_false,Bool.false_eq_true] at H ⊢
  ·exact H
  ·exact H _ _ rfl
 ·rintro s vs S ⟨rfl,rfl⟩ aC H
  have hn:¬ (((l.drop 1).length+1:Nat):Int)<(l.length:Int):=by rw [List.length_drop];omega
  simp only [↓cw,↓reduceIte,Nat.reduceLT,kk,hn]
  exact H
theorem bFz (l:List Bal) (hb:l.length<1000000) (S:St) (K:KW):C 220 [.imm (l.map Bal.enc)] S K=K (.bool (qC l)) S:=(bC5 l hb).eq S K
theorem bG0:apT prog 27=some (2,24):=by kernel_rfl
theorem bC6:dPl 221=some (.spec ((Sp.ins 27).run prog)):=by kernel_rfl
theorem bC7 (book l:List Bal) (hbb:book.length+l.length<1000000) (S:St) (K:KW):C 158 [.imm (book.map Bal.enc),.imm (l.map Bal.enc)] S K=K (.tup [.imm ((cH book l).1.map Bal.enc),.int .i64 (cH book l).2]) S:=by
 refine (bF2 rfl ?_).eq S K
 simp only [aRe,kk,bFz book (show book.length<1000000 by omega),cH]
 by_cases hr:qC book=true
 ·simp only [hr,kk,Bool.true_eq_false,if_false]
  obtain ⟨v0,S0,q0,x0,own0⟩:=bBz (b:=24) aAl book xD (by omega) (by unfold eE;omega)
  simp only [q0,kk]
  refine aG l (step:=bF) (fin:=fun l=>(l,0)) (fun i s vs S=>∃ v,vs=[.nils,.int .i64 0,v,.int .i64 (i:Int)]∧Own E0 S 2 v (s.map Bal.enc)∧WF S∧s.length≤book.length+i) (fun r=>r=aE bF (fun l=>(l,0)) l book) ?_ ?_ (s:=book) ⟨_,rfl,own0,x0.wf xD,Nat.le_refl _⟩ rfl
  ·rintro i x s vs S hi ⟨v,rfl,own,w,hsl⟩ aC H
   have hil:=(List.getElem?_eq_some_iff.1 hi).1
   rw [mU] at H
   simp only [aD9,kk,aY hi,jZ hi,Bal.enc]
   obtain ⟨S1,hS1⟩:∃ S1:St,S1=⟨S.next+1,(S.heap.put S.next (.row 0 2 [[V.str [],.int .i64 0]])).put S.next (.row 0 2 [[.str x.acc,.int .i64 x.amount]])⟩:=⟨_,rfl⟩
   have x1:Ext S S1:=by rw [hS1];exact Ext.var w 2 _ _
   have w1:=x1.wf w
   have hg1:aB S1 S.next 0=.ok (2,[x.enc]):=by rw [hS1];exact aF _ _ _ _ _ _
   have own1:=own.ext x1
   have hlt1:S.next<S1.next:=by rw [hS1];exact Nat.lt_succ_self _
   rw [←hS1]
   have hva:∀ a ver m,v=.sl a ver 2 0 m→S.next≠a:=by
    intro a ver m hv
    rcases own.is with ⟨rfl,_⟩ | ⟨a',ver',tl,rfl,_,hlt,_⟩
    ·cases hv
    ·cases hv;omega
   have hlen:s.length<1000000:=by omega
   have hple:=kW s x.acc
   have hj1:∀ (v':V) (S':St),Own E0 S' 2 v' ((bD s x.acc).map Bal.enc)→WF S'→aB S' S.next 0=.ok (2,[x.enc])→xB C (fun v0 S0=>iR S0 v0=.ok (.tup [.imm ((aE bF (fun l=>(l,0)) l book).1.map Bal.enc),.int .i64 (aE bF (fun l=>(l,0)) l book).2])) aC .nils (.int .i64 0) v' (.ptr S.next 0 0 0) (.int .i64 (aH s x.acc:Int)) (.imm (l.map Bal.enc)) (.int .i64 (l.length:Int)) (.int .i64 (i:Int)) S':=by
    intro v' S' own' w' hg'
    obtain ⟨b,hb⟩:=vH s x.acc
    obtain ⟨a,ver,_,_,_,e4,hat,set1⟩:=(own'.bump 13).setK (aH7 (w'.bump 13)) xD (i:=aH s x.acc) (cs:=b.enc) (by simp [hb]) .i64
    obtain ⟨S2,st1,x2,n2,own2,keep2,w2⟩:=set1 1 1 (.int .i64 (iS b.amount x.amount).1) rfl rfl (by decide)
    have hld:=hat.load none 1
    simp only [adv,kk,Bal.enc] at hld
    have hfin:((bD s x.acc).map Bal.enc).set (aH s x.acc) (splice b.enc 1 [.int .i64 (iS b.amount x.amount).1])=((bD s x.acc).set (aH s x.acc) ⟨b.acc,(iS b.amount x.amount).1⟩).map Bal.enc:=by rw [List.map_set];rfl
    simp only [V.cells] at own2
    rw [hfin] at own2
    simp only [hb,Option.map_some,Option.getD_some,kk] at H
    have hg2:aB ⟨S'.next+13,S'.heap⟩ S.next 0=.ok (2,[x.enc]):=hg'
    simp only [Bal.enc] at hg2
    simp only [xB,e4,kk,hld,hg2,bFh,eG,fV (show i<1000000000 by omega),st1]
    by_cases h0:(iS b.amount x.amount).2=0
    ·simp only [h0,kk,not_true_eq_false,if_false] at H ⊢
     exact H _ _ ⟨_,rfl,own2,w2 (w'.bump 13),by rw [List.length_set];have:=vI s x.acc;omega⟩
    ·simp only [h0,kk,not_false_eq_true,if_true] at H ⊢
     simp only [oo,←H,List.map_nil]
   have hj2:∀ (S':St),Own E0 S' 2 v (s.map Bal.enc)→WF S'→aB S' S.next 0=.ok (2,[x.enc])→S.next<S'.next→sW C (fun v0 S0=>iR S0 v0=.ok (.tup [.imm ((aE bF (fun l=>(l,0)) l book).1.map Bal.enc),.int .i64 (aE bF (fun l=>(l,0)) l book).2])) aC .nils (.int .i64 0) v (.ptr S.next 0 0 0) (.int .i64 (aH s x.acc:Int)) (.imm (l.map Bal.enc)) (.int .i64 (l.length:Int)) (.int .i64 (i:Int)) (.bool (dM s x.acc)) S':=by
    intro S' own' w' hg' hlt'
    cases hm:dM s x.acc
    ·simp only [sW,kk]
     exact hj1 v S' (by rw [show bD s x.acc=s by simp [bD,hm]];exact own') w' hg'
    ·obtain ⟨v2,S2,q1,w2,own2,keep2⟩:=bC2 bG0 (by decide) own' w' (aAl ⟨x.acc,0⟩) (by simp;omega) (by simp [eE];omega) (i:=aH s x.acc) (by simpa using hple)
     rw [←aL8] at own2
     have hg2:=bG hg' (keep2 S.next hlt' hva)
     simp only [Bal.enc] at hg' q1
     simp only [sW,kk,hg',aRp]
     rw [bFv bC6 q1]
     exact hj1 v2 S2 (by rw [show bD s x.acc=nJ s (aH s x.acc) ⟨x.acc,0⟩ by simp [bD,hm]];exact own2) w2 hg2
   have hj0:∀ (S':St),Own E0 S' 2 v (s.map Bal.enc)→WF S'→aB S' S.next 0=.ok (2,[x.enc])→S.next<S'.next→xC C (fun v0 S0=>iR S0 v0=.ok (.tup [.imm ((aE bF (fun l=>(l,0)) l book).1.map Bal.enc),.int .i64 (aE bF (fun l=>(l,0)) l book).2])) aC .nils (.int .i64 0) v (.ptr S.next 0 0 0) (.int .i64 (aH s x.acc:Int)) (.imm (l.map Bal.enc)) (.int .i64 (l.length:Int)) (.int .i64 (i:Int)) S':=by
    intro S' own' w' hg' hlt'
    have h2:=hj2 ⟨S'.next+14,S'.heap⟩ (own'.bump 14) (w'.bump 14) hg' (by show S.next<S'.next+14;omega)
    have hgb:aB ⟨S'.next+14,S'.heap⟩ S.next 0=.ok (2,[x.enc]):=hg'
    simp only [Bal.enc] at hgb
    simp only [xC,own'.sl.lenI,kk]
    by_cases hk:aH s x.acc=s.length
    ·have hm:dM s x.acc=true:=by unfold dM;rw [hk,List.getElem?_eq_none (Nat.le_refl _)]
     rw [hm] at h2
     simp only [hk,kk,eq_self,if_true]
     rw [hk] at h2
     exact h2
    ·have hlt:aH s x.acc<s.length:=by omega
     have hb:s[aH s x.acc]?=some s[aH s x.acc]:=List.getElem?_eq_getElem hlt
     have hm:dM s x.acc=!((s[aH s x.acc]).acc == x.acc):=by unfold dM;rw [hb]
     rw [hm] at h2
     obtain ⟨p,hp,hat,_,_⟩:=(own'.bump 14).sl.elem hb
     have hld:=hat.load none 0
     simp only [Bal.enc,kk] at hld
     simp only [show ¬ ((aH s x.acc:Nat):Int)=(s.length:Int) by omega,kk,if_false,hp,hat.advW,hld,hgb]
     exact h2
   refine aG s (step:=kV (fun b:Bal=>iW b.acc x.acc)) (fin:=id) (fun k n vs S'=>n=k∧vs=[.int .i64 (k:Int)]∧S'.heap=S1.heap∧S1.next≤S'.next) (fun r=>r=aH s x.acc) ?_ ?_ ⟨rfl,rfl,rfl,Nat.le_refl _⟩ rfl
   ·rintro k b n vs S' hk ⟨rfl,rfl,hh,hn⟩ again' H'
    have hkl:=(List.getElem?_eq_some_iff.1 hk).1
    have hown:∀ c,Own E0 ⟨S'.next+c,S'.heap⟩ 2 v (s.map Bal.enc):=fun c=>own1.same (by show S1.next≤S'.next+c;omega) (fun a _=>by show S'.heap.get a=_;rw [hh])
    have hw:∀ c,WF ⟨S'.next+c,S'.heap⟩:=fun c a b hb=>by
     have hb:S'.heap.get a=some b:=hb
     rw [hh] at hb;have:=w1 a b hb;show a<S'.next+c;omega
    have hgr:∀ c,aB ⟨S'.next+c,S'.heap⟩ S.next 0=.ok (2,[x.enc]):=fun c=>by
     show aB ⟨S'.next,S'.heap⟩ S.next 0=_
     rw [hh];exact hg1
    have hgb:=hgr 14
    simp only [Bal.enc] at hgb
    obtain ⟨p,hp,hat,_,_⟩:=(hown 14).sl.elem hk
    have hld:=hat.load none 0
    simp only [Bal.enc,kk] at hld
    simp only [kV] at H'
    simp only [aD8,kk,own1.sl.lenI,aY hk,hp,hat.advW,hld,hgb,fV (show n<1000000000 by omega)]
    cases c:iW b.acc x.acc<;>simp only [c,kk,if_true,if_false,Bool.false_eq_true] at H' ⊢
    ·have:=hj0 ⟨S'.next+14,S'.heap⟩ (hown 14) (hw 14) (hgr 14) (by show S.next<S'.next+14;omega)
     rw [←H'] at this
     exact this
    ·exact H' _ _ ⟨rfl,hh,by show S1.next≤S'.next+14;omega⟩
   ·rintro n vs S' ⟨rfl,rfl,hh,hn⟩ again' H'
    have hown:∀ c,Own E0 ⟨S'.next+c,S'.heap⟩ 2 v (s.map Bal.enc):=fun c=>own1.same (by show S1.next≤S'.next+c;omega) (fun a _=>by show S'.heap.get a=_;rw [hh])
    have hw:∀ c,WF ⟨S'.next+c,S'.heap⟩:=fun c a b hb=>by
     have hb:S'.heap.get a=some b:=hb
     rw [hh] at hb;have:=w1 a b hb;show a<S'.next+c;omega
    have hgr:∀ c,aB ⟨S'.next+c,S'.heap⟩ S.next 0=.ok (2,[x.enc]):=fun c=>by
     show aB ⟨S'.next,S'.heap⟩ S.next 0=_
     rw [hh];exact hg1
    have H':s.length=aH s x.acc:=H'
    simp only [aD8,kk,own1.sl.lenI,Int.lt_irrefl]
    have:=hj0 ⟨S'.next+14,S'.heap⟩ (hown 14) (hw 14) (hgr 14) (by show S.next<S'.next+14;omega)
    rw [←H'] at this
    exact this
  ·rintro s vs S ⟨v,rfl,own,w,_⟩ aC H
   have H':aE bF (fun l=>(l,0)) l book=(s,0):=H.symm
   simp only [aD9,kk,Int.lt_irrefl,oo,own.frz (kY (fun _=>rfl) _),H']
 ·have hr:qC book=false:=by simpa using hr
  simp only [hr,kk,oo,if_true,List.map_nil]
end Go.Proofs.YtoaibmbldmckaaaGreat
end
section
namespace Go.AM
theorem Own.one {S0 S:St} {n:Nat} {v:V} {es:List (List V)} (h:Own S0 S n v es):v.one=true:=by
 rcases h.is with ⟨rfl,_⟩ | ⟨a,ver,tl,rfl,_⟩<;>rfl
theorem Own.cells {S0 S:St} {n:Nat} {v:V} {es:List (List V)} (h:Own S0 S n v es):v.cells=[v]:=by
 rcases h.is with ⟨rfl,_⟩ | ⟨a,ver,tl,rfl,_⟩<;>rfl
theorem Own.lt {S0 S:St} {n:Nat} {v:V} {es:List (List V)} (h:Own S0 S n v es):∀ a ver m,v=.sl a ver n 0 m→a<S.next:=by
 intro a ver m hv
 rcases h.is with ⟨rfl,_⟩ | ⟨a',ver',tl,rfl,_,hlt,_⟩
 ·cases hv
 ·cases hv;exact hlt
theorem Own.ld {S0 S:St} {n:Nat} {v:V} {es:List (List V)} (h:Own S0 S n v es) {a ver m:Nat} (hv:v=.sl a ver n 0 m) {i:Nat} {cs:List V} (hi:es[i]?=some cs) (k:Option Nat) (j:Nat):iZ k (.ptr a ver i j) S=kS k cs j:=by
 rcases h.is with ⟨rfl,rfl⟩ | ⟨a',ver',tl,rfl,q1,q2,q3⟩
 ·simp at hi
 ·cases hv
  have hil:=(List.getElem?_eq_some_iff.1 hi).1
  have hg:(es++tl)[i]?=some cs:=by rw [List.getElem?_append_left hil];exact hi
  simp only [ldP,bQ q3,hg]
theorem Own.put {S0 S:St} {n:Nat} {v:V} {es:List (List V)} (h:Own S0 S n v es) {k m:Nat} {b:Blk} (hm:S.next≤m) (hk:∀ a ver m,v=.sl a ver n 0 m→k≠a):Own S0 ⟨m,S.heap.put k b⟩ n v es:=
 h.other hm fun a ver m hv=>Tr.get_put_neB _ _ _ _ trivial (Ne.symm (hk a ver m hv))
end Go.AM
namespace Go.Proofs.YtoaibmbldmckaaaGreat
open Go.AM Tryz
set_option linter.unusedVariables false
set_option linter.unusedSimpArgs false
set_option maxRecDepth 100000
end Go.Proofs.YtoaibmbldmckaaaGreat
end
section
namespace Go.AM
theorem Own.out {S0 S:St} {n:Nat} {v:V} {α:Type} {enc:α→List V} {l:List α} (h:Own S0 S n v (l.map enc)) (hc:∀ x,cloVs (enc x)=true):cP lX (nL (kK S 3) S) v=.ok (.imm (l.map enc)):=h.frz (kY hc _)
end Go.AM
namespace Go.Proofs.YtoaibmbldmckaaaGreat
open Go.AM Tryz
set_option linter.unusedVariables false
set_option linter.unusedSimpArgs false
set_option maxRecDepth 100000
def aFd (r:Total×Int):V:=.tup [.agg [.int .i64 r.1.net,.int .i64 r.1.tax,.int .i64 r.1.gross,.imm (r.1.parts.map Part.enc)],.int .i64 r.2]
end Go.Proofs.YtoaibmbldmckaaaGreat
end
