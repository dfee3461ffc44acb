import Derived.ChangeArms
import Derived.KernelRfl
import Derived.Lib.Walk
import Derived.ProofKit
import Derived.Test.YtoaibmbldmckaaaGreatProg
import Derived.WalkKit
import Derived.Test.YtoaibmbldmckaaaGreatX1
set_option linter.unusedSimpArgs false
set_option linter.unusedVariables false
set_option linter.unusedSectionVars false
set_option maxRecDepth 100000
section
set_option linter.unusedSimpArgs false
set_option linter.unusedVariables false
namespace Go.AM
structure Own (S0 S:St) (n:Nat) (v:V) (es:List (List V)):Prop where
 is:(v=.nils∧es=[])∨∃ a ver tl,v=.sl a ver n 0 es.length∧S0.next≤a∧a<S.next∧S.heap.get a=some (.row ver n (es++tl))
 len:∀ cs,cs∈es→cs.length=n∧aP cs=true
theorem aC {S:St} {a ver n:Nat} {el:List (List V)} (h:S.heap.get a=some (.row ver n el)):bA S a ver=.ok (n,el):=by
 simp only [bA,h,Nat.beq_refl,cond_true]
theorem Own.sl {S0 S:St} {n:Nat} {v:V} {es:List (List V)} (h:Own S0 S n v es):Sl S n v es:=by
 refine ⟨?_,h.len⟩
 rcases h.is with h1 | ⟨a,ver,tl,h1,h2,h3,h4⟩
 ·exact .inl h1
 ·exact .inr (.inr ⟨a,ver,0,es++tl,h1,aC h4,by simp,by simp⟩)
theorem Own.ext {S0 S S':St} {n:Nat} {v:V} {es:List (List V)} (h:Own S0 S n v es) (x:Ext S S'):Own S0 S' n v es:=by
 refine ⟨?_,h.len⟩
 rcases h.is with h1 | ⟨a,ver,tl,h1,h2,h3,h4⟩
 ·exact .inl h1
 ·exact .inr ⟨a,ver,tl,h1,h2,Nat.lt_of_lt_of_le h3 x.next,x.old _ _ h4⟩
theorem Own.nil (S0 S:St) (n:Nat):Own S0 S n .nils []:=⟨.inl ⟨rfl,rfl⟩,fun _ h=>by cases h⟩
theorem Own.weaken {A B S:St} {n:Nat} {v:V} {es:List (List V)} (h:Own B S n v es) (x:A.next≤B.next):Own A S n v es:=by
 refine ⟨?_,h.len⟩
 rcases h.is with h1 | ⟨a,ver,tl,h1,h2,h3,h4⟩
 ·exact .inl h1
 ·exact .inr ⟨a,ver,tl,h1,Nat.le_trans x h2,h3,h4⟩
theorem hJ {n:Nat} {es:List (List V)} (h:∀ cs,cs∈es→cs.length=n∧aP cs=true):fU n es=true∧es.all aP=true:=
 ⟨List.all_eq_true.2 fun cs hc=>by simp [(h cs hc).1],List.all_eq_true.2 fun cs hc=>(h cs hc).2⟩
theorem Sl.copy {S:St} {n b:Nat} {v:V} {es:List (List V)} (h:Sl S n v es) (w:WF S) (h1:es.length*b≤35184372088832) (h2:es.length<fZ):
  ∃ v' S',iW n b .nils v none S=.ok (v',S')∧Ext S S'∧Own S S' n v' es:=by
 obtain ⟨a1,a2⟩:=hJ h.len
 cases es with
 | nil=>exact ⟨.nils,S,by simp only [iW,h.elems,a1,a2,and_self,if_true],Ext.refl S,Own.nil _ _ _⟩
 | cons c es=>
  refine ⟨.sl S.next 0 n 0 (c::es).length,⟨S.next+1,S.heap.put S.next (.row 0 n (c::es))⟩,?_,Ext.new w _,⟨.inr ⟨S.next,0,[],rfl,Nat.le_refl _,Nat.lt_succ_self _,?_⟩,h.len⟩⟩
  ·simp only [iW,h.elems,a1,a2,and_self,if_true,h1,h2,dI]
  ·rw [List.append_nil];exact Tr.get_put_sameB _ _ _ trivial
end Go.AM
namespace Go.AM
theorem Ext.newAt {S:St} {k:Nat} (hk:S.heap.get k=none) (hk2:k<S.next) (b:Blk):Ext S ⟨S.next,S.heap.put k b⟩:=by
 refine ⟨fun a d hd=>?_,Nat.le_refl _,fun w a d hd=>?_⟩
 ·show (S.heap.put k _).get a=some d
  rw [Tr.get_put_neB _ _ _ _ trivial (fun e=>by rw [e,hk] at hd;cases hd)];exact hd
 ·have hd':(S.heap.put k b).get a=some d:=hd
  rw [Tr.get_putB _ _ _ _ trivial] at hd'
  split at hd'
  ·show a<S.next;omega
  ·exact w a d hd'
end Go.AM
namespace Go.AM
theorem Own.other {S0 S S':St} {n:Nat} {v:V} {es:List (List V)} (h:Own S0 S n v es) (hn:S.next≤S'.next) (hg:∀ a ver m,v=.sl a ver n 0 m→S'.heap.get a=S.heap.get a):Own S0 S' n v es:=by
 refine ⟨?_,h.len⟩
 rcases h.is with h1 | ⟨a,ver,tl,h1,h2,h3,h4⟩
 ·exact .inl h1
 ·exact .inr ⟨a,ver,tl,h1,h2,Nat.lt_of_lt_of_le h3 hn,by rw [hg a ver _ h1];exact h4⟩
theorem aJ4 {S:St} {a ver n:Nat} {el:List (List V)} (h:bA S a ver=.ok (n,el)):S.heap.get a=some (.row ver n el):=by
 unfold bA at h
 split at h
 ·rename_i v es elems hg
  rw [cond_eq_ite] at h
  split at h
  ·rename_i hb
   have:=Nat.eq_of_beq_eq_true hb
   cases h
   subst this
   exact hg
  ·cases h
 ·cases h
end Go.AM
end
section
namespace Go.AM
section
section
variable {P:Program} {pl:eE} {lv:aOn}
end
def blkOf:V→Option Nat
 | .sl a _ _ _ _=>some a
 | _=>none
theorem mQ {S0 S:St} {n:Nat} {v:V} {es:List (List V)} (h:Own S0 S n v es) {y:Nat} (hy:blkOf v=some y):S0.next≤y∧y<S.next:=by
 rcases h.is with ⟨e1,_⟩ | ⟨a,ver,tl,e1,e2,e3,_⟩
 ·rw [e1] at hy;cases hy
 ·rw [e1] at hy;cases hy;exact ⟨e2,e3⟩
theorem Own.same {S0 S S':St} {n:Nat} {v:V} {es:List (List V)} (h:Own S0 S n v es) (hn:S.next≤S'.next) (hg:∀ a,blkOf v=some a→S'.heap.get a=S.heap.get a):Own S0 S' n v es:=
 h.other hn fun a ver m hv=>hg a (by rw [hv];rfl)
theorem Own.pushAt {S0 S:St} {n b:Nat} {v:V} {es:List (List V)} (h:Own S0 S n v es) (x:Ext S0 S) (w:WF S0) {u:V} {cs:List (List V)} (hu:aN S u=.ok cs) (hc:∀ c,c∈cs→c.length=n∧aP c=true) (hne:cs≠[])
  {k:Nat} (hk:S0.next≤k) (hk2:k<S.next) (hk3:S.heap.get k=none)
  (h1:(es.length+cs.length)*b≤35184372088832) (h2:es.length+cs.length<fZ):∃ v' S',iW n b v u (some k) S=.ok (v',S')∧Ext S0 S'∧S'.next=S.next∧Own S0 S' n v' (es++cs)∧(blkOf v'=some k∨blkOf v'=blkOf v)∧∀ y,y≠k→blkOf v≠some y→S'.heap.get y=S.heap.get y:=by
 obtain ⟨a1,a2⟩:=hJ hc
 have hlen:∀ c,c∈es++cs→c.length=n∧aP c=true:=fun c hm=>(List.mem_append.1 hm).elim (h.len c) (hc c)
 rcases h.is with ⟨rfl,rfl⟩ | ⟨a,ver,tl,rfl,q1,q2,q3⟩
 ·cases cs with
  | nil=>exact absurd rfl hne
  | cons c cs=>
   refine ⟨.sl k 0 n 0 (c::cs).length,⟨S.next,S.heap.put k (.row 0 n (c::cs))⟩,?_,x.trans (Ext.newAt hk3 hk2 _),rfl,⟨.inr ⟨k,0,[],rfl,hk,hk2,?_⟩,hlen⟩,.inl rfl,fun y hy _=>Tr.get_put_neB _ _ _ _ trivial hy⟩
   ·simp only [List.length_nil,Nat.zero_add] at h1 h2
    simp only [iW,hu,a1,a2,and_self,if_true,h1,h2,tZ]
   ·rw [List.append_nil];exact Tr.get_put_sameB _ _ _ trivial
 ·have hb:0+es.length≤es.length+tl.length:=by omega
  refine ⟨.sl a (ver+1) n 0 (es++cs).length,⟨S.next,S.heap.put a (.row (ver+1) n (es++cs))⟩,?_,x.set q1 q2 w _,rfl,⟨.inr ⟨a,ver+1,[],rfl,q1,q2,?_⟩,hlen⟩,.inr rfl,fun y _ hy=>Tr.get_put_neB _ _ _ _ trivial (fun e=>hy (by rw [e];rfl))⟩
  ·simp only [iW,hu,a1,a2,and_self,if_true,aC q3,hb,h1,h2,List.drop_zero,List.take_left',List.length_append]
  ·rw [List.append_nil];exact Tr.get_put_sameB _ _ _ trivial
theorem vb {S:St} (w:WF S) (n:Nat) (zs:List V) (x:V) (hz:zs.length=n) (hx:x.cells.length=n) (ho:aP x.cells=true):
  ∃ S1 S2,aV none S (.row 0 n [zs])=.ok (S.next,S1)∧lC n (.ptr S.next 0 0 0) x S1=.ok S2∧Ext S S2∧S2.heap.get S.next=some (.row 0 n [x.cells])∧S2.next=S.next+1:=
 ⟨_,_,dI ..,aDw S n zs x hz hx ho,Ext.var w n zs x.cells,aJ4 (aJ3 S n zs x.cells),rfl⟩
theorem Own.pushG {S0 S:St} {n b:Nat} {v:V} {es:List (List V)} (h:Own S0 S n v es) (x:Ext S0 S) (w:WF S0) {u:V} {cs:List (List V)} (hu:aN S u=.ok cs) (hc:∀ c,c∈cs→c.length=n∧aP c=true) (hne:cs≠[])
  (h1:(es.length+cs.length)*b≤35184372088832) (h2:es.length+cs.length<fZ):∃ v' S',iW n b v u none S=.ok (v',S')∧Ext S0 S'∧Own S0 S' n v' (es++cs)∧(blkOf v'=some S.next∨blkOf v'=blkOf v)∧(∀ y,y<S.next→blkOf v≠some y→S'.heap.get y=S.heap.get y)∧S.next≤S'.next:=by
 obtain ⟨a1,a2⟩:=hJ hc
 have hlen:∀ c,c∈es++cs→c.length=n∧aP c=true:=fun c hm=>(List.mem_append.1 hm).elim (h.len c) (hc c)
 rcases h.is with ⟨rfl,rfl⟩ | ⟨a,ver,tl,rfl,q1,q2,q3⟩
 ·cases cs with
  | nil=>exact absurd rfl hne
  | cons c cs=>
   refine ⟨.sl S.next 0 n 0 (c::cs).length,⟨S.next+1,S.heap.put S.next (.row 0 n (c::cs))⟩,?_,x.trans (Ext.new (x.wf w) _),⟨.inr ⟨S.next,0,[],rfl,x.next,Nat.lt_succ_self _,?_⟩,hlen⟩,.inl rfl,fun y hy _=>Tr.get_put_neB _ _ _ _ trivial (by omega),Nat.le_succ _⟩
   ·simp only [List.length_nil,Nat.zero_add] at h1 h2
    simp only [iW,hu,a1,a2,and_self,if_true,h1,h2,dI]
   ·rw [List.append_nil];exact Tr.get_put_sameB _ _ _ trivial
 ·have hb:0+es.length≤es.length+tl.length:=by omega
  refine ⟨.sl a (ver+1) n 0 (es++cs).length,⟨S.next,S.heap.put a (.row (ver+1) n (es++cs))⟩,?_,x.set q1 q2 w _,⟨.inr ⟨a,ver+1,[],rfl,q1,q2,?_⟩,hlen⟩,.inr rfl,fun y _ hy=>Tr.get_put_neB _ _ _ _ trivial (fun e=>hy (by rw [e];rfl)),Nat.le_refl _⟩
  ·simp only [iW,hu,a1,a2,and_self,if_true,aC q3,hb,h1,h2,List.drop_zero,List.take_left',List.length_append]
  ·rw [List.append_nil];exact Tr.get_put_sameB _ _ _ trivial
mutual
theorem jG:∀ v:V,dC v v=true
 | .bool b=>by simp [dC]
 | .int k n=>by simp [dC,bL]
 | .str s=>by rw [dC];rw [bR];simp
 | .nilp=>rfl
 | .ptr a b c d=>by simp [dC]
 | .iptr a b=>by simp [dC,beqVs_refl a]
 | .nils=>rfl
 | .sl a b c d f=>by simp [dC]
 | .imm a=>by simp [dC,beqVss_refl a]
 | .agg a=>by simp [dC,beqVs_refl a]
 | .tup a=>by simp [dC,beqVs_refl a]
 | .nili=>rfl
 | .iface t a=>by simp [dC,jG a]
 | .nilf=>rfl
 | .func f a b=>by simp [dC,beqVs_refl a,beqVs_refl b]
 | .nilm=>rfl
 | .mp a=>by simp [dC]
 | .res a b=>by simp [dC]
theorem beqVs_refl:∀ l:List V,beqVs l l=true
 | []=>rfl
 | a::l=>by simp [beqVs,jG a,beqVs_refl l]
theorem beqVss_refl:∀ l:List (List V),beqVss l l=true
 | []=>rfl
 | a::l=>by simp [beqVss,beqVs_refl a,beqVss_refl l]
end
end
section
mutual
def eJ:V→Bool
 | .ptr _ _ _ _=>false
 | .nils=>false
 | .sl _ _ _ _ _=>false
 | .agg cs=>cloVs cs
 | .tup cs=>cloVs cs
 | .iface _ v=>eJ v
 | .func _ a b=>cloVs a&&cloVs b
 | .mp _=>false
 | _=>true
def cloVs:List V→Bool
 | []=>true
 | v::l=>eJ v&&cloVs l
end
mutual
theorem iO {ρ:Nat→Option Nat} {σ:V→R V}:∀ (v:V),eJ v=true→cC ρ σ v=.ok v
 | .bool _,_ | .int _ _,_ | .str _,_ | .nilp,_ | .iptr _ _,_ | .imm _,_ | .nili,_ | .nilf,_ | .nilm,_ | .res _ _,_=>rfl
 | .agg cs,h=>by simp only [cC,clo_frzs cs h]
 | .tup cs,h=>by simp only [cC,clo_frzs cs h]
 | .iface t v,h=>by simp only [cC,iO v h]
 | .func f a b,h=>by
  simp only [eJ,Bool.and_eq_true] at h
  simp only [cC,clo_frzs a h.1,clo_frzs b h.2]
theorem clo_frzs {ρ:Nat→Option Nat} {σ:V→R V}:∀ (l:List V),cloVs l=true→frzVs ρ σ l=.ok l
 | [],_=>rfl
 | v::l,h=>by
  simp only [cloVs,Bool.and_eq_true] at h
  simp only [frzVs,iO v h.1,clo_frzs l h.2]
end
mutual
theorem aBa:∀ (v:V),eJ v=true→pF v=[]
 | .bool _,_ | .int _ _,_ | .str _,_ | .nilp,_ | .iptr _ _,_ | .imm _,_ | .nili,_ | .nilf,_ | .nilm,_ | .res _ _,_=>rfl
 | .agg cs,h=>clo_ptrs cs h
 | .tup cs,h=>clo_ptrs cs h
 | .iface t v,h=>aBa v h
 | .func f a b,h=>by
  simp only [eJ,Bool.and_eq_true] at h
  simp only [pF,clo_ptrs a h.1,clo_ptrs b h.2,List.append_nil]
theorem clo_ptrs:∀ (l:List V),cloVs l=true→ptrsVs l=[]
 | [],_=>rfl
 | v::l,h=>by
  simp only [cloVs,Bool.and_eq_true] at h
  simp only [ptrsVs,aBa v h.1,clo_ptrs l h.2,List.append_nil]
end
mutual
theorem sN {τ:V→List Nat}:∀ (v:V),eJ v=true→eL τ v=[]
 | .bool _,_ | .int _ _,_ | .str _,_ | .nilp,_ | .iptr _ _,_ | .imm _,_ | .nili,_ | .nilf,_ | .nilm,_ | .res _ _,_=>rfl
 | .agg cs,h=>clo_sls cs h
 | .tup cs,h=>clo_sls cs h
 | .iface t v,h=>sN v h
 | .func f a b,h=>by
  simp only [eJ,Bool.and_eq_true] at h
  simp only [eL,clo_sls a h.1,clo_sls b h.2,List.append_nil]
theorem clo_sls {τ:V→List Nat}:∀ (l:List V),cloVs l=true→slsVs τ l=[]
 | [],_=>rfl
 | v::l,h=>by
  simp only [cloVs,Bool.and_eq_true] at h
  simp only [slsVs,sN v h.1,clo_sls l h.2,List.append_nil]
end
theorem aFj:vN []=kD:=by funext i;cases i<;>rfl
theorem sO (l:List Nat):(l.any fun a=>Nat.blt a 0)=false:=by
 rw [List.any_eq_false]
 intro a _
 simp
def iE (S:St) (v:V):R V:=cC kD (lK (iS S 3) S) v
theorem aFk {run:List V→St→R (V×St)} {args:List V} (hc:cloVs args=true) {S S0:St} {v0 v:V} (h:run args ⟨0,.nil⟩=.ok (v0,S0)) (ho:iE S0 v0=.ok v):oQ run args S=.ok (v,S):=by
 unfold oQ
 have h1:dW (ptrsVs args)=[]:=by rw [clo_ptrs args hc];rfl
 have h2:slsVs (fV (eX S 3) S) args=[]:=clo_sls args hc
 have ho':cC (vN []) (lK (iS S0 3) S0) v0=.ok v:=by rw [aFj];exact ho
 rw [h1,h2]
 simp only [clo_frzs args hc,eM,bS,List.append_nil,List.any_nil,cond_false,List.length_nil,nA,h,ho',jR,sO]
 cases eZ v&&kE []<;>rfl
section
variable {P:Program} {pl:eE}
def W (P:Program) (pl:eE):bJ:=fun f args S K=>∃ v S',Evt (fun k=>cP P pl k f args S) (v,S')∧K v S'
theorem aDx:iN (cP P pl) (W P pl):=fun f args S K h=>h
theorem aDy {f:FuncId} {args:List V} {S S':St} {v:V} (h:Evt (fun k=>cP P pl k f args S) (v,S')) (K:KW):W P pl f args S K=K v S':=by
 refine propext ⟨?_,fun h1=>⟨v,S',h,h1⟩⟩
 rintro ⟨v1,S1,h1,h2⟩
 cases h.eq h1
 exact h2
theorem iF {f:FuncId} {args:List V} {S:St} {r:V×St} (h:Evt (fun k=>cP P pl (k+1) f args S) r):Evt (fun k=>cP P pl k f args S) r:=by
 obtain ⟨N,h⟩:=h
 refine ⟨N+1,fun k hk=>?_⟩
 obtain ⟨k,rfl⟩:∃ m,k=m+1:=⟨k - 1,by omega⟩
 exact h k (by omega)
theorem aNt {f:FuncId} {p:Nat→Option (List bB)} (hpl:pl f=some (.code p)) {lv:Nat→List Nat} {args:List V} {S:St} {K:KW} (h:fR P (W P pl) p lv f args S K):W P pl f args S K:=by
 obtain ⟨v,S',h1,h2⟩:=fL aDx h
 exact ⟨v,S',iF (h1.one fun k h1=>by simp only [cP,hpl];exact h1),h2⟩
theorem aNu {f:FuncId} {g:List V→St→R (V×St)} (hpl:pl f=some (.spec g)) {args:List V} {S S':St} {v:V} (h:g args S=.ok (v,S')) (K:KW):W P pl f args S K=K v S':=
 aDy (iF (.of fun k=>by simp only [cP,hpl,h])) K
def Fn (P:Program) (pl:eE) (f:FuncId) (args:List V) (v:V):Prop:=∀ S,Evt (fun k=>cP P pl k f args S) (v,S)
theorem Fn.eq {f:FuncId} {args:List V} {v:V} (h:Fn P pl f args v) (S:St) (K:KW):W P pl f args S K=K v S:=aDy (h S) K
theorem Fn.of {f:FuncId} {p:Nat→Option (List bB)} (hpl:pl f=some (.val p)) {lv:Nat→List Nat} {args:List V} {v:V} (hc:cloVs args=true)
  (h:fR P (W P pl) p lv f args ⟨0,.nil⟩ fun v0 S0=>iE S0 v0=.ok v):Fn P pl f args v:=by
 obtain ⟨v0,S0,h1,h2⟩:=fL aDx h
 exact fun S=>iF (h1.one fun k h1=>by simp only [cP,hpl];exact aFk hc h1 h2)
structure Pt (mk:Nat→List V):Prop where
 ptr:∀ a,dW (ptrsVs (mk a))=[a]
 frz:∀ a σ,frzVs (fun b=>lP b 0 [a]) σ (mk a)=.ok (mk 0)
 sls:∀ a τ,slsVs τ (mk a)=[]
theorem Pt.head {ver i j:Nat} {args:List V} (hc:cloVs args=true):Pt fun a=>.ptr a ver i j::args:=
 ⟨fun a=>by simp only [ptrsVs,pF,clo_ptrs args hc];rfl,fun a σ=>by simp only [frzVs,cC,lP,Nat.beq_refl,cond_true,clo_frzs args hc],fun a τ=>by simp only [slsVs,eL,clo_sls args hc,List.append_nil]⟩
def FnR (P:Program) (pl:eE) (f:FuncId) (mk:Nat→List V) (ver n:Nat) (pre:List (List V)) (v:V) (post:List (List V)):Prop:=
 ∀ S a,S.heap.get a=some (.row ver n pre)→Evt (fun k=>cP P pl k f (mk a) S) (v,⟨S.next,S.heap.put a (.row ver n post)⟩)
theorem aBb {φ:List V→R (List V)}:∀ {l:List (List V)},(∀ x,x∈l→φ x=.ok x)→gD φ l=.ok l
 | [],_=>rfl
 | x::l,h=>by simp only [gD,h x (List.mem_cons_self ..),aBb fun y hy=>h y (List.mem_cons_of_mem _ hy)]
theorem yM {φ:List V→List Nat}:∀ {l:List (List V)},(∀ x,x∈l→φ x=[])→hZ φ l=[]
 | [],_=>rfl
 | x::l,h=>by simp only [hZ,h x (List.mem_cons_self ..),yM fun y hy=>h y (List.mem_cons_of_mem _ hy),List.append_nil]
theorem aJ5 {S:St} {n:Nat} {x:List V} (h:cloVs x=true):iS S (n+1) x=.ok x:=clo_frzs x h
theorem aJ6 {S:St} {n:Nat} {x:List V} (h:cloVs x=true):eX S (n+1) x=[]:=clo_sls x h
theorem cZ {S:St} {n:Nat} {l:List (List V)} (h:l.all cloVs=true):gD (iS S (n+1)) l=.ok l∧hZ (eX S (n+1)) l=[]:=
 ⟨aBb fun x hx=>aJ5 (List.all_eq_true.1 h x hx),yM fun x hx=>aJ6 (List.all_eq_true.1 h x hx)⟩
theorem aFl {run:List V→St→R (V×St)} {mk:Nat→List V} (hm:Pt mk) {a ver n:Nat} {pre post post0:List (List V)} (hp:pre.all cloVs=true) {S S0:St} {v0 v:V} (hS:S.heap.get a=some (.row ver n pre))
  (h:run (mk 0) ⟨1,Tr.nil.put 0 (.row ver n pre)⟩=.ok (v0,S0)) (ho:∀ ρ,cC ρ (lK (iS S0 3) S0) v0=.ok v) (hs:(eL (fV (eX S0 3) S0) v0).any (fun a=>Nat.blt a 1)=false) (h0:S0.heap.get 0=some (.row ver n post0)) (hq:gD (iS S0 3) post0=.ok post)
  (hs2:(hZ (eX S0 3) post0).any (fun a=>Nat.blt a 1)=false):oQ run (mk a) S=.ok (v,⟨S.next,S.heap.put a (.row ver n post)⟩):=by
 unfold oQ
 obtain ⟨q1,q2⟩:=cZ (S:=S) (n:=2) hp
 rw [hm.ptr,hm.sls]
 have hA:([]++bS S [a])=[]:=by simp only [bS,hS,q2,List.append_nil]
 have hB:(eL (fV (eX S0 3) S0) v0++bS S0 (jR 0 1)).any (fun a=>Nat.blt a 1)=false:=by
  simp only [jR,bS,h0,List.append_nil,List.any_append,hs,hs2,Bool.or_false]
 rw [hA]
 simp only [hm.frz,eM,hS,q1,List.any_nil,cond_false,List.length_cons,List.length_nil,Nat.zero_add,nA,h,ho,hB,iG]
 have:eM S0 (jR 0 1)=.ok [(ver,n,post)]:=by simp only [jR,eM,h0,hq]
 rw [this]
 simp only [jB,iG]
 cases eZ v&&kE [(ver,n,post)]<;>rfl
theorem FnR.of {f:FuncId} {p:Nat→Option (List bB)} (hpl:pl f=some (.val p)) {lv:Nat→List Nat} {mk:Nat→List V} (hm:Pt mk) {ver n:Nat} {pre post:List (List V)} {v:V} (hp:pre.all cloVs=true)
  (h:fR P (W P pl) p lv f (mk 0) ⟨1,Tr.nil.put 0 (.row ver n pre)⟩ fun v0 S0=>v0=v∧S0.heap.get 0=some (.row ver n post)) (hv:eJ v=true) (hq:post.all cloVs=true):FnR P pl f mk ver n pre v post:=by
 obtain ⟨v0,S0,h1,rfl,h2⟩:=fL aDx h
 intro S a hS
 obtain ⟨q1,q2⟩:=cZ (S:=S0) (n:=2) hq
 refine iF (h1.one fun k h1=>?_)
 simp only [cP,hpl]
 exact aFl hm hp hS h1 (fun ρ=>iO v0 hv) (by rw [sN v0 hv];rfl) h2 q1 (by rw [q2];rfl)
theorem FnR.eq {f:FuncId} {mk:Nat→List V} {ver n:Nat} {pre post:List (List V)} {v:V} (h:FnR P pl f mk ver n pre v post) {S:St} {a:Nat} (hS:S.heap.get a=some (.row ver n pre)) (K:KW):
  W P pl f (mk a) S K=K v ⟨S.next,S.heap.put a (.row ver n post)⟩:=aDy (h S a hS) K
theorem sP {α:Type}:∀ (f:Nat) (t:Tr α) (n:Nat) (x:α),t.get n=some x→Tr.set f t n x=t
 | 0,t,n,x,_=>rfl
 | f+1,.nil,n,x,h=>by cases h
 | f+1,.node l v r,n,x,h=>by
  rw [Tr.get_node] at h
  simp only [Tr.set,cond_eq_ite,Nat.beq_eq]
  by_cases h0:n=0
  ·rw [if_pos h0] at h ⊢;rw [h]
  ·rw [if_neg h0] at h ⊢
   by_cases h1:n % 2=1
   ·rw [if_pos h1] at h ⊢;rw [sP f l _ _ h]
   ·rw [if_neg h1] at h ⊢;rw [sP f r _ _ h]
theorem aFm {t:Tr Blk} {n:Nat} {x:Blk} (h:t.get n=some x):t.put n x=t:=sP _ t n x h
theorem FnR.eq_same {f:FuncId} {mk:Nat→List V} {ver n:Nat} {pre:List (List V)} {v:V} (h:FnR P pl f mk ver n pre v pre) {S:St} {a:Nat} (hS:S.heap.get a=some (.row ver n pre)) (K:KW):W P pl f (mk a) S K=K v S:=by
 rw [h.eq hS K,aFm hS]
def aFn (mask:List Nat) (v:V) (S2:St) (S:St):R (V×St):=match zO S2 mask 0 S.next v.cells with
 | .error e=>.error e
 | .ok r=>match eM S2 r.2 with
  | .error e=>.error e
  | .ok rows=>match rB v r.1 with
   | .error e=>.error e
   | .ok v'=>bif xE r.2&&!(oR S2 mask 0 v.cells++bS S2 r.2).any (fun a=>fI a r.2) then .ok (v',⟨S.next+r.2.length,iG (jR S.next r.2.length) rows S.heap⟩) else .error "blocks"
theorem aOo {f:FuncId} {p:Nat→Option (List bB)} {mask:List Nat} (hpl:pl f=some (.own p mask)) (hm:fI kpN mask=false) {lv:Nat→List Nat} {args:List V} (hc:cloVs args=true) {S:St} {K:KW}
  (h:fR P (W P pl) p lv f args ⟨0,.nil⟩ fun v0 S0=>wR (aFn mask v0 S0 S) fun r=>K r.1 r.2):W P pl f args S K:=by
 obtain ⟨v0,S0,h1,h2⟩:=fL aDx h
 obtain ⟨r,h3,h4⟩:=bC h2
 refine ⟨r.1,r.2,iF (h1.one fun k h1=>?_),h4⟩
 simp only [cP,hpl]
 unfold aD8 aEt
 rw [hm]
 have e2:slsVs (fV (eX S 3) S) args=[]:=clo_sls args hc
 simp only [cond_false,clo_frzs args hc,h1,e2,jB]
 exact h3
theorem aNv {f:FuncId} {args:List V} {S:St} {K:KW} (h:W P pl f args S K):∃ k v S',K v S'∧cP P pl k f args S=.ok (v,S'):=by
 obtain ⟨v,S',⟨N,h⟩,k⟩:=h
 exact ⟨N,v,S',k,h N (Nat.le_refl _)⟩
theorem uU {F:List V→St→(List V→St→Prop)→Prop} (n:Nat) (I:Nat→List V→St→Prop)
  (h:∀ i vs S,i≤n→I i vs S→∀ bF:List V→St→Prop,(∀ vs' S',i<n→I (i+1) vs' S'→bF vs' S')→F vs S bF) {vs:List V} {S:St} (h0:I 0 vs S):pO vs S F:=by
 have:∀ m i vs S,i+m=n→I i vs S→yI (m+1) vs S F:=by
  intro m
  induction m with
  | zero=>intro i vs S hi hI;exact h i vs S (by omega) hI _ fun vs' S' hlt _=>by omega
  | succ m ih=>intro i vs S hi hI;exact h i vs S (by omega) hI _ fun vs' S' hlt hI'=>ih (i+1) vs' S' (by omega) hI'
 exact ⟨n+1,this n 0 vs S (by omega) h0⟩
theorem jZ {F:List V→St→(List V→St→Prop)→Prop} (I:Nat→List V→St→Prop)
  (h:∀ i vs S,I i vs S→∀ bF:List V→St→Prop,(∀ j vs' S',j<i→I j vs' S'→bF vs' S')→F vs S bF) {n:Nat} {vs:List V} {S:St} (h0:I n vs S):pO vs S F:=by
 refine uU n (fun i vs S=>∃ j,j+i≤n∧I j vs S) ?_ ⟨n,by omega,h0⟩
 rintro i vs S hi ⟨j,hj,hI⟩ bF ha
 exact h j vs S hI bF fun j' vs' S' hlt hI'=>ha vs' S' (by omega) ⟨j',by omega,hI'⟩
theorem jH {F:List V→St→(List V→St→Prop)→Prop} {α σ ρ:Type} (l:List α) {step:σ→α→ρ⊕σ} {fin:σ→ρ} (I:Nat→σ→List V→St→Prop) (E:ρ→Prop)
  (hs:∀ i a s vs S,l[i]?=some a→I i s vs S→∀ bF:List V→St→Prop,(match step s a with
   | .inl r=>E r
   | .inr s'=>∀ vs' S',I (i+1) s' vs' S'→bF vs' S')→F vs S bF)
  (he:∀ s vs S,I l.length s vs S→∀ bF:List V→St→Prop,E (fin s)→F vs S bF) {s:σ} {vs:List V} {S:St} (h0:I 0 s vs S) (hE:E (tN step fin l s)):pO vs S F:=by
 refine uU l.length (fun i vs S=>∃ s,I i s vs S∧E (tN step fin (l.drop i) s)) ?_ ⟨s,h0,hE⟩
 rintro i vs S hi ⟨s,hI,hE⟩ bF ha
 by_cases hl:i=l.length
 ·subst hl
  rw [List.drop_length] at hE
  exact he s vs S hI bF hE
 ·have hlt:i<l.length:=by omega
  have ha':l[i]?=some l[i]:=List.getElem?_eq_getElem hlt
  rw [List.drop_eq_getElem_cons hlt] at hE
  refine hs i _ s vs S ha' hI bF ?_
  simp only [tN] at hE
  split
  ·rename_i r hr
   rw [hr] at hE;exact hE
  ·rename_i s' hr
   rw [hr] at hE
   exact fun vs' S' hI'=>ha vs' S' hlt ⟨s',hI',hE⟩
end
end
section
theorem yN {d t:Nat} (h:d≠t):Nat.beq d t=false:=Bool.eq_false_iff.2 fun h'=>h (Nat.eq_of_beq_eq_true h')
theorem aFo {α:Type} {x y:R α} (K:α→Prop) (h:x=y):wR x K=wR y K:=by rw [h]
theorem aFp {α:Type} {x y:Option α} (K:α→Prop) (h:x=y):wO x K=wO y K:=by rw [h]
theorem aDz {b c:Bool} (x:Prop) (h:b=c):oN b x=oN c x:=by rw [h]
theorem yO {v w:V} (x y:Prop) (h:v=w):cV v x y=cV w x y:=by rw [h]
theorem aAc {v w:V} (i:Nat) (K:V→Prop) (h:v=w):aA6 v i K=aA6 w i K:=by rw [h]
theorem aE0 {v w:List V} (K:V→List V→Prop) (h:v=w):wUn v K=wUn w K:=by rw [h]
theorem aAd {v w:V} (x:Prop) (h:v=w):sI v x=sI w x:=by rw [h]
theorem yP {vs ws:List V} {S T:St} (F:List V→St→(List V→St→Prop)→Prop) (h:vs=ws) (g:S=T):pO vs S F=pO ws T F:=by rw [h,g]
theorem aJ7 (P:Program) (pl:eE) (f:FuncId) {a b:List V} {S T:St} (K:KW) (h:a=b) (g:S=T):W P pl f a S K=W P pl f b T K:=by rw [h,g]
attribute [congr] aJ7 aFo aFp aDz yO aAc aE0 aAd yP
def wG:List Oper→Nat→(Nat→Prop)→Prop
 | [],_,_=>False
 | o::_,0,K=>wO o.dst K
 | _::l,j+1,K=>wG l j K
def wI:List Oper→Nat→(Oper→Prop)→Prop
 | [],_,_=>False
 | o::_,0,K=>K o
 | _::l,j+1,K=>wI l j K
theorem uV (K:Oper→Prop):∀ (l:List Oper) (j:Nat),wO l.toArray[j]? K=wI l j K
 | [],j=>by simp [wO,wI]
 | o::l,0=>by simp [wO,wI]
 | o::l,j+1=>by rw [wI,←uV K l j];simp
theorem aFq (K:Nat→Prop):∀ (l:List Oper) (j:Nat),wO (gZ l.toArray j) K=wG l j K
 | [],j=>by simp [wO,wG,gZ]
 | o::l,0=>by simp [wG,gZ]
 | o::l,j+1=>by rw [wG,←aFq K l j];simp [gZ]
def hl {α:Type} (a:α):α:=a
theorem aK4 {α:Type} (a:α):hl a=a:=Eq.trans rfl rfl
def wLn:List Oper→List Nat→Nat→(Nat→Prop)→Prop
 | [],[],i,K=>K i
 | [],k::_,i,K=>K k
 | _::l,[],i,K=>wLn l [] (i+1) K
 | _::l,_::ks,i,K=>wLn l ks (i+1) K
def mR:Nat→List Nat→Prop
 | _,[]=>True
 | i,k::l=>k=i∧mR (i+1) l
theorem aAe (K:Nat→Prop):∀ (l:List Oper) (ks:List Nat) (i:Nat),mR i ks→wLn l ks i K=K (i+l.length)
 | [],[],i,h=>rfl
 | [],k::ks,i,h=>by rw [wLn,h.1];rfl
 | o::l,[],i,h=>by rw [wLn,aAe K l [] (i+1) trivial];congr 1;simp;omega
 | o::l,k::ks,i,h=>by rw [wLn,aAe K l ks (i+1) h.2];congr 1;simp;omega
def yQ:List (Nat×List Nat)→Nat→(List Nat→Prop)→Prop
 | [],_,K=>K []
 | (i,l)::r,j,K=>match Nat.beq i j with
  | true=>K l
  | false=>yQ r j K
def dN:List (Nat×List Nat)→Nat→List Nat
 | [],_=>[]
 | (i,l)::r,j=>match Nat.beq i j with
  | true=>l
  | false=>dN r j
theorem aAf (K:List Nat→Prop):∀ (t:List (Nat×List Nat)) (j:Nat),yQ t j K=K (dN t j)
 | [],j=>rfl
 | (i,l)::r,j=>by
  simp only [yQ,dN,aAf K r j]
  cases Nat.beq i j<;>rfl
theorem aE1 {j k:Nat} (t:List (Nat×List Nat)) (K:List Nat→Prop) (h:j=k):yQ t j K=yQ t k K:=by rw [h]
attribute [congr] aE1
def wSt:List (Nat×List bB)→Nat→(List bB→Prop)→Prop→Prop
 | [],_,_,x=>x
 | (i,l)::r,j,K,x=>match Nat.beq i j with
  | true=>K l
  | false=>wSt r j K x
def dD (t:List (Nat×List bB)) (id:Nat):Option (List bB):=dS id t
section
variable (P:Program) (C:bJ) (n:Nat)
def nY (ops:Array Oper) (base:Nat):List Oper→List Nat→Nat→List Nat→aJ→St→gG→Prop
 | [],_,_,_,e,S,K=>K e S
 | o::l,[],i,sk,e,S,K=>fA P C n ops sk o (some (base+i)) e S fun ran _ e' S'=>nY ops base l [] (i+1) (nU ran i sk) e' S' K
 | o::l,k::ks,i,sk,e,S,K=>fA P C n ops sk o (some (base+k)) e S fun ran _ e' S'=>nY ops base l ks (i+1) (nU ran k sk) e' S' K
def wK (ops:Array Oper):List Oper→List Nat→Nat→List Nat→aJ→St→gG→Prop
 | [],_,_,_,e,S,K=>K e S
 | o::l,[],i,sk,e,S,K=>fA P C n ops sk o none e S fun ran _ e' S'=>wK ops l [] (i+1) (nU ran i sk) e' S' K
 | o::l,k::ks,i,sk,e,S,K=>fA P C n ops sk o none e S fun ran _ e' S'=>wK ops l ks (i+1) (nU ran k sk) e' S' K
theorem iP {ops:Array Oper} {sk:List Nat} {o:Oper} {fr:Option Nat} {e:aJ} {S:St} {K K':Bool→V→aJ→St→Prop} (h:∀ b v e S,K b v e S=K' b v e S):fA P C n ops sk o fr e S K=fA P C n ops sk o fr e S K':=by
 rw [show K=K' from funext fun b=>funext fun v=>funext fun e=>funext fun S=>h b v e S]
def kA:Nat→Nat→List bB
 | _,0=>[]
 | i,k+1=>(i,[])::kA (i+1) k
theorem pW:∀ (k i:Nat),kA i (k+1)=kA i k++[(i+k,[])]
 | 0,i=>rfl
 | k+1,i=>by
  rw [kA,pW k (i+1),kA]
  simp only [List.cons_append,Nat.add_assoc,Nat.add_comm 1 k]
theorem yR:∀ k,xD k=kA 0 k
 | 0=>rfl
 | k+1=>by rw [xD,yR k,pW,Nat.zero_add]
theorem sQ (ops:Array Oper) (base:Nat) (K:gG):∀ (l:List Oper) (ks:List Nat) (i:Nat) (sk:List Nat) (recs:List kL) (e:aJ) (S:St),mR i ks→(∀ k,ops[i+k]?=l[k]?)→kH P C n ops base (kA i l.length) sk recs e S K=nY P C n ops base l ks i sk e S K
 | [],ks,i,sk,recs,e,S,_,h=>by cases ks<;>rfl
 | o::l,ks,i,sk,recs,e,S,hk,h=>by
  have h0:ops[i]?=some o:=h 0
  cases ks with
  | nil=>
   simp only [List.length_cons,kA,kH,nY,h0,wO,jY]
   exact iP P C n fun b v e S=>sQ ops base K l [] (i+1) _ _ e S trivial fun k=>by have:=h (k+1);rw [show i+1+k=i+(k+1) by omega,this];simp
  | cons k ks=>
   obtain ⟨rfl,hk⟩:=hk
   simp only [List.length_cons,kA,kH,nY,h0,wO,jY]
   exact iP P C n fun b v e S=>sQ ops base K l ks (k+1) _ _ e S hk fun j=>by have:=h (j+1);rw [show k+1+j=k+(j+1) by omega,this];simp
theorem wL (ops:Array Oper) (K:gG):∀ (l:List Oper) (ks:List Nat) (i:Nat) (sk:List Nat) (e:aJ) (S:St),mR i ks→aA7 P C n ops l i sk e S K=wK P C n ops l ks i sk e S K
 | [],ks,i,sk,e,S,_=>by cases ks<;>rfl
 | o::l,[],i,sk,e,S,hk=>by
  simp only [aA7,wK]
  exact iP P C n fun b v e S=>wL ops K l [] (i+1) _ e S trivial
 | o::l,k::ks,i,sk,e,S,hk=>by
  obtain ⟨rfl,hk⟩:=hk
  simp only [aA7,wK]
  exact iP P C n fun b v e S=>wL ops K l ks (k+1) _ e S hk
def aAh (id:Nat) (Kn:gG) (Kx:tJ):tJ:=fun j e S=>match Nat.beq j id with
 | true=>Kn e S
 | false=>Kx j e S
def aK5 (p:Nat→Option (List bB)) (lv:Nat→List Nat) (a:Code) (e:aJ) (Kx:tJ) (Kr:gG) (vs:List V) (S:St) (bF:List V→St→Prop):Prop:=
 wJ (lv (aS a)) vs (e.filt fun t=>!gF a t) fun e=>cF P C n p lv a e S (fun e S=>iD e (lv (aS a)) fun vs=>bF vs S) Kx Kr
end
section
variable {P:Program} {C:bJ} {n:Nat} {tp:List (Nat×List bB)} {tl:List (Nat×List Nat)}
theorem aBc:(∀ (e:aJ) (t:Nat) (K:V→Prop),wO (ev e (.tmp t)) K=wO (e.get t) K)∧(∀ (e:aJ) (v:Value) (K:V→Prop),wO (ev e (.const v)) K=wO (ofValue v) K)∧(∀ (e:aJ) (f:Nat) (K:V→Prop),wO (ev e (.func f)) K=K (.func f [] [])) ∧
  (∀ (e:aJ) (t:Nat) (v:V) (K:V→Prop),wO ((e.put t v).get t) K=K v)∧(∀ (b:Bool) (K:V→Prop),wO (ofValue (.bool b)) K=K (.bool b))∧(∀ (k:IntKind) (i:Int) (K:V→Prop),wO (ofValue (.int k i)) K=K (.int k i)) ∧
  (∀ (l:List UInt8) (K:V→Prop),wO (ofValue (.string ⟨l.toArray⟩)) K=K (.str l))∧(∀ (K:V→Prop),wO (ofValue (.slice none 0 0)) K=K .nils)∧(∀ (K:V→Prop),wO (ofValue (.pointer none)) K=K .nilp)∧(∀ (K:V→Prop),wO (ofValue .nilIface) K=K .nili)∧(∀ (K:V→Prop),wO (ofValue .nilFunc) K=K .nilf)∧(∀ (K:V→Prop),wO (ofValue (.map none)) K=K .nilm) ∧
  (∀ (l:List Value) (K:V→Prop),wO (ofValue (.agg l.toArray)) K=wO (fT l) fun xs=>K (.agg xs))∧(∀ (K:List V→Prop),wO (fT []) K=K [])∧(∀ (v:Value) (l:List Value) (K:List V→Prop),wO (fT (v::l)) K=wO (iY v) fun x=>wO (fT l) fun xs=>K (x::xs)) ∧
  (∀ (b:Bool) (K:V→Prop),wO (iY (.bool b)) K=K (.bool b))∧(∀ (k:IntKind) (i:Int) (K:V→Prop),wO (iY (.int k i)) K=K (.int k i))∧(∀ (l:List UInt8) (K:V→Prop),wO (iY (.string ⟨l.toArray⟩)) K=K (.str l))∧(∀ (K:V→Prop),wO (iY (.slice none 0 0)) K=K .nils)∧(∀ (K:V→Prop),wO (iY (.pointer none)) K=K .nilp) ∧
  (∀ (e:aJ) (K:List V→Prop),wO (jA (ev e) []) K=K [])∧(∀ (e:aJ) (x:Operand) (l:List Operand) (K:List V→Prop),wO (jA (ev e) (x::l)) K=wO (ev e x) fun v=>wO (jA (ev e) l) fun vs=>K (v::vs)) ∧
  (∀ (e:aJ) (K:List (Nat×V)→Prop),wO (hU (ev e) []) K=K [])∧(∀ (e:aJ) (i:Nat) (x:Operand) (l:List (Nat×Operand)) (K:List (Nat×V)→Prop),wO (hU (ev e) ((i,x)::l)) K=wO (ev e x) fun v=>wO (hU (ev e) l) fun vs=>K ((i,v)::vs)) ∧
  (∀ (e:aJ) (K:Option V→Prop),wO (tX (ev e) none) K=K none)∧(∀ (e:aJ) (x:Operand) (K:Option V→Prop),wO (tX (ev e) (some x)) K=wO (ev e x) fun v=>K (some v)):=by
 refine ⟨fun _ _ _=>rfl,fun _ _ _=>rfl,fun _ _ _=>rfl,fun e t v K=>by rw [Tr.get_put_sameB _ _ _ trivial];rfl,fun _ _=>rfl,fun _ _ _=>rfl,fun l K=>by simp [ofValue,iY,wO],fun _=>rfl,fun _=>rfl,fun _=>rfl,fun _=>rfl,fun _=>rfl,
  fun l K=>?_,fun _=>rfl,fun v l K=>?_,fun _ _=>rfl,fun _ _ _=>rfl,fun l K=>by simp [iY,wO],fun _=>rfl,fun _=>rfl,fun _ _=>rfl,fun e x l K=>?_,fun _ _=>rfl,fun e i x l K=>?_,fun _ _=>rfl,fun e x K=>?_⟩
 ·simp only [ofValue];cases fT l<;>rfl
 ·simp only [fT]
  cases iY v with
  | none=>rfl
  | some x=>cases fT l<;>rfl
 ·simp only [jA]
  cases ev e x with
  | none=>rfl
  | some x=>cases jA (ev e) l<;>rfl
 ·simp only [hU]
  cases ev e x with
  | none=>rfl
  | some x=>cases hU (ev e) l<;>rfl
 ·simp only [tX];cases ev e x<;>rfl
theorem aK6 {t d:Nat} (h:¬ t=d) (e:aJ) (v:V) (K:V→Prop):wO ((e.put d v).get t) K=wO (e.get t) K:=by rw [Tr.get_put_neB _ _ _ _ trivial h]
theorem aOp {t d:Nat} (h:t<d) (e:aJ) (v:V) (K:V→Prop):wO ((e.put d v).get t) K=wO (e.get t) K:=aK6 (Nat.ne_of_lt h) e v K
theorem aK7 {t d:Nat} (h:d<t) (e:aJ) (v:V) (K:V→Prop):wO ((e.put d v).get t) K=wO (e.get t) K:=aK6 (Nat.ne_of_gt h) e v K
def pL (l:List Code) (t:Nat):Bool:=l.any fun a=>gF a t
def dL (l:List Oper) (r:List Code) (t:Nat):Bool:=sH l t||pL r t
theorem aJ8 (a:Code) (r:List Code) (t:Nat):pL (a::r) t=(gF a t||pL r t):=by simp [pL]
theorem aFr {a:Code} {t:Nat} (h:pL [a] t=false) (e:aJ) (K:V→Prop):wO ((e.filt fun t=>!gF a t).get t) K=wO (e.get t) K:=by
 have h:gF a t=false:=by simpa [pL] using h
 rw [kZ,if_pos (by rw [h];rfl)]
theorem aBd:(∀ t,pL [] t=false)∧(∀ (a b:Code) (r:List Code) (t:Nat),pL (.seq a b::r) t=pL (a::b::r) t)∧(∀ (c:Operand) (a b:Code) (r:List Code) (t:Nat),pL (.cond c a b::r) t=pL (a::b::r) t)∧(∀ (i:Nat) (a:Code) (r:List Code) (t:Nat),pL (.block i a::r) t=pL (a::r) t) ∧
  (∀ (a:Code) (r:List Code) (t:Nat),pL (.loop a::r) t=pL (a::r) t)∧(∀ (r:List Code) (t:Nat),pL (.skip::r) t=pL r t)∧(∀ (r:List Code) (t:Nat),pL (.ret::r) t=pL r t)∧(∀ (i:Nat) (r:List Code) (t:Nat),pL (.exit i::r) t=pL r t)∧(∀ (i:Nat) (r:List Code) (t:Nat),pL (.label i::r) t=pL r t) ∧
  (∀ (id:Nat) (l:List Oper) (d:Bool) (r:List Code) (t:Nat),pL (.region id l.toArray d::r) t=dL l r t)∧(∀ (r:List Code) (t:Nat),dL [] r t=pL r t)∧(∀ (op:Op) (ty:TypeId) (pos:String) (aft:Array Edge) (g:Option (Nat×Bool)) (l:List Oper) (r:List Code) (t:Nat),dL (⟨none,op,ty,pos,aft,g⟩::l) r t=dL l r t):=by
 refine ⟨fun _=>rfl,fun a b r t=>?_,fun c a b r t=>?_,fun i a r t=>?_,fun a r t=>?_,fun r t=>?_,fun r t=>?_,fun i r t=>?_,fun i r t=>?_,fun id l d r t=>?_,fun r t=>?_,fun op ty pos aft g l r t=>?_⟩
 all_goals simp only [aJ8,gF,dL,sH,Bool.false_or,Bool.or_assoc]
theorem aFs {d t:Nat} (h:¬ t=d) (op:Op) (ty:TypeId) (pos:String) (aft:Array Edge) (g:Option (Nat×Bool)) (l:List Oper) (r:List Code):dL (⟨some d,op,ty,pos,aft,g⟩::l) r t=dL l r t:=by
 simp only [dL,sH,yN (Ne.symm h),Bool.false_or]
theorem aK8 {d t:Nat} (h:t<d) (op:Op) (ty:TypeId) (pos:String) (aft:Array Edge) (g:Option (Nat×Bool)) (l:List Oper) (r:List Code):dL (⟨some d,op,ty,pos,aft,g⟩::l) r t=dL l r t:=aFs (Nat.ne_of_lt h) ..
theorem aFt {d t:Nat} (h:d<t) (op:Op) (ty:TypeId) (pos:String) (aft:Array Edge) (g:Option (Nat×Bool)) (l:List Oper) (r:List Code):dL (⟨some d,op,ty,pos,aft,g⟩::l) r t=dL l r t:=aFs (Nat.ne_of_gt h) ..end
def lD (P:Program) (u:TypeId):Bool:=match P.underlying u with
 | some (.slice _)=>true
 | some .string=>true
 | _=>false
theorem sR {α:Type} (x:Option α) {K K':α→Prop} (h:∀ a,K a=K' a):wO x K=wO x K':=by rw [show K=K' from funext h]
theorem aJ9 (e:aJ) (x:Operand) (K:List V→Prop):wO (jA (ev e) [x]) K=wO (ev e x) fun v=>K [v]:=by simp only [jA];cases ev e x<;>rfl
theorem aBe (e:aJ) (x y:Operand) (K:List V→Prop):wO (jA (ev e) [x,y]) K=wO (ev e x) fun v=>wO (ev e y) fun w=>K [v,w]:=by
 simp only [jA]
 cases ev e x with
 | none=>rfl
 | some a=>cases ev e y<;>rfl
theorem aBf (P:Program) (C:bJ):(∀ (x:Operand) (d:Option Tmp) (ty:TypeId) (pos:String) (aft:Array Edge) (g:Option (Nat×Bool)) (fr:Option Nat) (e:aJ) (S:St) (K:KW),dX P C ⟨d,.move x,ty,pos,aft,g⟩ fr e S K=wO (ev e x) fun v=>K v S) ∧
  (∀ (x:Operand) (d:Option Tmp) (ty:TypeId) (pos:String) (aft:Array Edge) (g:Option (Nat×Bool)) (fr:Option Nat) (e:aJ) (S:St) (K:KW),dX P C ⟨d,.assign x,ty,pos,aft,g⟩ fr e S K=wO (ev e x) fun v=>K v S) ∧
  (∀ (c a b:Operand) (d:Option Tmp) (ty:TypeId) (pos:String) (aft:Array Edge) (g:Option (Nat×Bool)) (fr:Option Nat) (e:aJ) (S:St) (K:KW),dX P C ⟨d,.pick c a b,ty,pos,aft,g⟩ fr e S K=wO (ev e c) fun c=>wO (ev e a) fun a=>wO (ev e b) fun b=>wR (hl (yF c a b)) fun v=>K v S) ∧
  (∀ (t:TypeId) (d:Option Tmp) (ty:TypeId) (pos:String) (aft:Array Edge) (g:Option (Nat×Bool)) (fr:Option Nat) (e:aJ) (S:St) (K:KW),dX P C ⟨d,.alloc t,ty,pos,aft,g⟩ fr e S K=wO (aF P t) fun z=>wR (hl (aV fr S (.row 0 z.cells.length [z.cells]))) fun r=>K (.ptr r.1 0 0 0) r.2) ∧
  (∀ (u:TypeId) (x:Operand) (d:Option Tmp) (ty:TypeId) (pos:String) (aft:Array Edge) (g:Option (Nat×Bool)) (fr:Option Nat) (e:aJ) (S:St) (K:KW),dX P C ⟨d,.box u x,ty,pos,aft,g⟩ fr e S K=wO (ev e x) fun v=>oN (hl (aP v.cells)) (wR (hl (aV fr S (.row 0 v.cells.length [v.cells]))) fun r=>K (.ptr r.1 0 0 0) r.2)) ∧
  (∀ (t:TypeId) (ps:List (Nat×Operand)) (d:Option Tmp) (ty:TypeId) (pos:String) (aft:Array Edge) (g:Option (Nat×Bool)) (fr:Option Nat) (e:aJ) (S:St) (K:KW),dX P C ⟨d,.build t ps.toArray,ty,pos,aft,g⟩ fr e S K=wO (hU (ev e) ps) fun vs=>wR (hl (iR P t vs)) fun v=>K v S) ∧
  (∀ (t:TypeId) (m:Nat) (ps:List (Nat×Operand)) (d:Option Tmp) (ty:TypeId) (pos:String) (aft:Array Edge) (g:Option (Nat×Bool)) (fr:Option Nat) (e:aJ) (S:St) (K:KW),dX P C ⟨d,.buildSlice t m ps.toArray,ty,pos,aft,g⟩ fr e S K=wO (hU (ev e) ps) fun vs=>wR (hl (bM P t m vs fr S)) fun r=>K r.1 r.2) ∧
  (∀ (t:TypeId) (a:Operand) (d:Option Tmp) (ty:TypeId) (pos:String) (aft:Array Edge) (g:Option (Nat×Bool)) (fr:Option Nat) (e:aJ) (S:St) (K:KW),dX P C ⟨d,.load t a,ty,pos,aft,g⟩ fr e S K=wO (ev e a) fun p=>wR (hl (gA P t p S)) fun v=>K v S) ∧
  (∀ (t:TypeId) (a x:Operand) (d:Option Tmp) (ty:TypeId) (pos:String) (aft:Array Edge) (g:Option (Nat×Bool)) (fr:Option Nat) (e:aJ) (S:St) (K:KW),dX P C ⟨d,.store t a x,ty,pos,aft,g⟩ fr e S K=wO (ev e a) fun p=>wO (ev e x) fun v=>wR (hl (iQ P t p v S)) fun S'=>K (.tup []) S') ∧
  (∀ (x:Operand) (d:Option Tmp) (ty:TypeId) (pos:String) (aft:Array Edge) (g:Option (Nat×Bool)) (fr:Option Nat) (e:aJ) (S:St) (K:KW),dX P C ⟨d,.nilCheck x,ty,pos,aft,g⟩ fr e S K=wO (ev e x) fun v=>sI (hl v) (K v S)) ∧
  (∀ (t u:TypeId) (x y:Operand) (d:Option Tmp) (ty:TypeId) (pos:String) (aft:Array Edge) (g:Option (Nat×Bool)) (fr:Option Nat) (e:aJ) (S:St) (K:KW),dX P C ⟨d,.binOp .add t x y u,ty,pos,aft,g⟩ fr e S K=wO (ev e x) fun a=>wO (ev e y) fun b=>wR (hl (aZ P .add t a b)) fun v=>K v S) ∧
  (∀ (t u:TypeId) (x y:Operand) (d:Option Tmp) (ty:TypeId) (pos:String) (aft:Array Edge) (g:Option (Nat×Bool)) (fr:Option Nat) (e:aJ) (S:St) (K:KW),dX P C ⟨d,.binOp .sub t x y u,ty,pos,aft,g⟩ fr e S K=wO (ev e x) fun a=>wO (ev e y) fun b=>wR (hl (aZ P .sub t a b)) fun v=>K v S) ∧
  (∀ (t u:TypeId) (x y:Operand) (d:Option Tmp) (ty:TypeId) (pos:String) (aft:Array Edge) (g:Option (Nat×Bool)) (fr:Option Nat) (e:aJ) (S:St) (K:KW),dX P C ⟨d,.binOp .mul t x y u,ty,pos,aft,g⟩ fr e S K=wO (ev e x) fun a=>wO (ev e y) fun b=>wR (hl (aZ P .mul t a b)) fun v=>K v S) ∧
  (∀ (t u:TypeId) (x y:Operand) (d:Option Tmp) (ty:TypeId) (pos:String) (aft:Array Edge) (g:Option (Nat×Bool)) (fr:Option Nat) (e:aJ) (S:St) (K:KW),dX P C ⟨d,.binOp .quo t x y u,ty,pos,aft,g⟩ fr e S K=wO (ev e x) fun a=>wO (ev e y) fun b=>wR (hl (aZ P .quo t a b)) fun v=>K v S) ∧
  (∀ (t u:TypeId) (x y:Operand) (d:Option Tmp) (ty:TypeId) (pos:String) (aft:Array Edge) (g:Option (Nat×Bool)) (fr:Option Nat) (e:aJ) (S:St) (K:KW),dX P C ⟨d,.binOp .rem t x y u,ty,pos,aft,g⟩ fr e S K=wO (ev e x) fun a=>wO (ev e y) fun b=>wR (hl (aZ P .rem t a b)) fun v=>K v S) ∧
  (∀ (t u:TypeId) (x y:Operand) (d:Option Tmp) (ty:TypeId) (pos:String) (aft:Array Edge) (g:Option (Nat×Bool)) (fr:Option Nat) (e:aJ) (S:St) (K:KW),dX P C ⟨d,.binOp .and t x y u,ty,pos,aft,g⟩ fr e S K=wO (ev e x) fun a=>wO (ev e y) fun b=>wR (hl (aZ P .and t a b)) fun v=>K v S) ∧
  (∀ (t u:TypeId) (x y:Operand) (d:Option Tmp) (ty:TypeId) (pos:String) (aft:Array Edge) (g:Option (Nat×Bool)) (fr:Option Nat) (e:aJ) (S:St) (K:KW),dX P C ⟨d,.binOp .or t x y u,ty,pos,aft,g⟩ fr e S K=wO (ev e x) fun a=>wO (ev e y) fun b=>wR (hl (aZ P .or t a b)) fun v=>K v S) ∧
  (∀ (t u:TypeId) (x y:Operand) (d:Option Tmp) (ty:TypeId) (pos:String) (aft:Array Edge) (g:Option (Nat×Bool)) (fr:Option Nat) (e:aJ) (S:St) (K:KW),dX P C ⟨d,.binOp .xor t x y u,ty,pos,aft,g⟩ fr e S K=wO (ev e x) fun a=>wO (ev e y) fun b=>wR (hl (aZ P .xor t a b)) fun v=>K v S) ∧
  (∀ (t u:TypeId) (x y:Operand) (d:Option Tmp) (ty:TypeId) (pos:String) (aft:Array Edge) (g:Option (Nat×Bool)) (fr:Option Nat) (e:aJ) (S:St) (K:KW),dX P C ⟨d,.binOp .andNot t x y u,ty,pos,aft,g⟩ fr e S K=wO (ev e x) fun a=>wO (ev e y) fun b=>wR (hl (aZ P .andNot t a b)) fun v=>K v S) ∧
  (∀ (t u:TypeId) (x y:Operand) (d:Option Tmp) (ty:TypeId) (pos:String) (aft:Array Edge) (g:Option (Nat×Bool)) (fr:Option Nat) (e:aJ) (S:St) (K:KW),dX P C ⟨d,.binOp .shl t x y u,ty,pos,aft,g⟩ fr e S K=wO (ev e x) fun a=>wO (ev e y) fun b=>wR (hl (aZ P .shl t a b)) fun v=>K v S) ∧
  (∀ (t u:TypeId) (x y:Operand) (d:Option Tmp) (ty:TypeId) (pos:String) (aft:Array Edge) (g:Option (Nat×Bool)) (fr:Option Nat) (e:aJ) (S:St) (K:KW),dX P C ⟨d,.binOp .shr t x y u,ty,pos,aft,g⟩ fr e S K=wO (ev e x) fun a=>wO (ev e y) fun b=>wR (hl (aZ P .shr t a b)) fun v=>K v S) ∧
  (∀ (t u:TypeId) (x y:Operand) (d:Option Tmp) (ty:TypeId) (pos:String) (aft:Array Edge) (g:Option (Nat×Bool)) (fr:Option Nat) (e:aJ) (S:St) (K:KW),dX P C ⟨d,.binOp .lss t x y u,ty,pos,aft,g⟩ fr e S K=wO (ev e x) fun a=>wO (ev e y) fun b=>wR (hl (aZ P .lss t a b)) fun v=>K v S) ∧
  (∀ (t u:TypeId) (x y:Operand) (d:Option Tmp) (ty:TypeId) (pos:String) (aft:Array Edge) (g:Option (Nat×Bool)) (fr:Option Nat) (e:aJ) (S:St) (K:KW),dX P C ⟨d,.binOp .leq t x y u,ty,pos,aft,g⟩ fr e S K=wO (ev e x) fun a=>wO (ev e y) fun b=>wR (hl (aZ P .leq t a b)) fun v=>K v S) ∧
  (∀ (t u:TypeId) (x y:Operand) (d:Option Tmp) (ty:TypeId) (pos:String) (aft:Array Edge) (g:Option (Nat×Bool)) (fr:Option Nat) (e:aJ) (S:St) (K:KW),dX P C ⟨d,.binOp .gtr t x y u,ty,pos,aft,g⟩ fr e S K=wO (ev e x) fun a=>wO (ev e y) fun b=>wR (hl (aZ P .gtr t a b)) fun v=>K v S) ∧
  (∀ (t u:TypeId) (x y:Operand) (d:Option Tmp) (ty:TypeId) (pos:String) (aft:Array Edge) (g:Option (Nat×Bool)) (fr:Option Nat) (e:aJ) (S:St) (K:KW),dX P C ⟨d,.binOp .geq t x y u,ty,pos,aft,g⟩ fr e S K=wO (ev e x) fun a=>wO (ev e y) fun b=>wR (hl (aZ P .geq t a b)) fun v=>K v S) ∧
  (∀ (t u:TypeId) (x y:Operand) (d:Option Tmp) (ty:TypeId) (pos:String) (aft:Array Edge) (g:Option (Nat×Bool)) (fr:Option Nat) (e:aJ) (S:St) (K:KW),dX P C ⟨d,.binOp .eql t x y u,ty,pos,aft,g⟩ fr e S K=wO (ev e x) fun a=>wO (ev e y) fun b=>oN (hl (cW P t x y a b)) (wR (hl (aZ P .eql t a b)) fun v=>K v S)) ∧
  (∀ (t u:TypeId) (x y:Operand) (d:Option Tmp) (ty:TypeId) (pos:String) (aft:Array Edge) (g:Option (Nat×Bool)) (fr:Option Nat) (e:aJ) (S:St) (K:KW),dX P C ⟨d,.binOp .neq t x y u,ty,pos,aft,g⟩ fr e S K=wO (ev e x) fun a=>wO (ev e y) fun b=>oN (hl (cW P t x y a b)) (wR (hl (aZ P .neq t a b)) fun v=>K v S)) ∧
  (∀ (o:UnOp) (t:TypeId) (x:Operand) (d:Option Tmp) (ty:TypeId) (pos:String) (aft:Array Edge) (g:Option (Nat×Bool)) (fr:Option Nat) (e:aJ) (S:St) (K:KW),dX P C ⟨d,.unOp o t x,ty,pos,aft,g⟩ fr e S K=wO (ev e x) fun v=>wR (hl (unV o v)) fun v=>K v S) ∧
  (∀ (s u:TypeId) (x:Operand) (d:Option Tmp) (ty:TypeId) (pos:String) (aft:Array Edge) (g:Option (Nat×Bool)) (fr:Option Nat) (e:aJ) (S:St) (K:KW),dX P C ⟨d,.convert s u x,ty,pos,aft,g⟩ fr e S K=wO (ev e x) fun v=>wR (hl (bP P s u v fr S)) fun r=>K r.1 r.2) ∧
  (∀ (t:TypeId) (l c:Operand) (d:Option Tmp) (ty:TypeId) (pos:String) (aft:Array Edge) (g:Option (Nat×Bool)) (fr:Option Nat) (e:aJ) (S:St) (K:KW),dX P C ⟨d,.makeSlice t l c,ty,pos,aft,g⟩ fr e S K=wO (ev e l) fun l=>wO (ev e c) fun c=>wR (hl (dG P t l c fr S)) fun r=>K r.1 r.2) ∧
  (∀ (t:TypeId) (x:Operand) (lo hi:Option Operand) (d:Option Tmp) (ty:TypeId) (pos:String) (aft:Array Edge) (g:Option (Nat×Bool)) (fr:Option Nat) (e:aJ) (S:St) (K:KW),dX P C ⟨d,.slice t x lo hi none,ty,pos,aft,g⟩ fr e S K=wO (ev e x) fun v=>wO (tX (ev e) lo) fun l=>wO (tX (ev e) hi) fun h=>wR (hl (eK P t v l h)) fun v=>K v S) ∧
  (∀ (s:TypeId) (x:Operand) (f:Nat) (d:Option Tmp) (ty:TypeId) (pos:String) (aft:Array Edge) (g:Option (Nat×Bool)) (fr:Option Nat) (e:aJ) (S:St) (K:KW),dX P C ⟨d,.fieldAddr s x f,ty,pos,aft,g⟩ fr e S K=wO (ev e x) fun p=>wR (hl (bX P s p f)) fun v=>K v S) ∧
  (∀ (s:TypeId) (x:Operand) (f:Nat) (d:Option Tmp) (ty:TypeId) (pos:String) (aft:Array Edge) (g:Option (Nat×Bool)) (fr:Option Nat) (e:aJ) (S:St) (K:KW),dX P C ⟨d,.field s x f,ty,pos,aft,g⟩ fr e S K=wO (ev e x) fun p=>wR (hl (rN P s p f)) fun v=>K v S) ∧
  (∀ (t:TypeId) (x i:Operand) (d:Option Tmp) (ty:TypeId) (pos:String) (aft:Array Edge) (g:Option (Nat×Bool)) (fr:Option Nat) (e:aJ) (S:St) (K:KW),dX P C ⟨d,.indexAddr t x i,ty,pos,aft,g⟩ fr e S K=wO (ev e x) fun v=>wO (ev e i) fun k=>wR (hl (cL P t v k)) fun v=>K v S) ∧
  (∀ (t:TypeId) (x i:Operand) (d:Option Tmp) (ty:TypeId) (pos:String) (aft:Array Edge) (g:Option (Nat×Bool)) (fr:Option Nat) (e:aJ) (S:St) (K:KW),dX P C ⟨d,.index t x i,ty,pos,aft,g⟩ fr e S K=wO (ev e x) fun v=>wO (ev e i) fun k=>wR (hl (rM P t v k)) fun v=>K v S) ∧
  (∀ (t:TypeId) (x:Operand) (d:Option Tmp) (ty:TypeId) (pos:String) (aft:Array Edge) (g:Option (Nat×Bool)) (fr:Option Nat) (e:aJ) (S:St) (K:KW),dX P C ⟨d,.range t x,ty,pos,aft,g⟩ fr e S K=wO (ev e x) fun v=>oN (hl (wH P t)) (wR (hl (aA5 v fr S)) fun r=>K r.1 r.2)) ∧
  (∀ (it:Operand) (isS:Bool) (d:Option Tmp) (ty:TypeId) (pos:String) (aft:Array Edge) (g:Option (Nat×Bool)) (fr:Option Nat) (e:aJ) (S:St) (K:KW),dX P C ⟨d,.next it isS,ty,pos,aft,g⟩ fr e S K=wO (ev e it) fun v=>oN (hl isS) (wR (hl (aFb v S)) fun r=>K r.1 r.2)) ∧
  (∀ (t:TypeId) (d:Option Tmp) (ty:TypeId) (pos:String) (aft:Array Edge) (g:Option (Nat×Bool)) (fr:Option Nat) (e:aJ) (S:St) (K:KW),dX P C ⟨d,.makeMap t none,ty,pos,aft,g⟩ fr e S K=wR (hl (aV fr S (.mp []))) fun r=>K (.mp r.1) r.2) ∧
  (∀ (t:TypeId) (m k:Operand) (ok:Bool) (d:Option Tmp) (ty:TypeId) (pos:String) (aft:Array Edge) (g:Option (Nat×Bool)) (fr:Option Nat) (e:aJ) (S:St) (K:KW),dX P C ⟨d,.lookup t m k ok,ty,pos,aft,g⟩ fr e S K=wO (ev e m) fun m=>wO (ev e k) fun k=>wR (hl (mY P t m k ok S)) fun v=>K v S) ∧
  (∀ (t:TypeId) (m k v:Operand) (d:Option Tmp) (ty:TypeId) (pos:String) (aft:Array Edge) (g:Option (Nat×Bool)) (fr:Option Nat) (e:aJ) (S:St) (K:KW),dX P C ⟨d,.mapUpdate t m k v,ty,pos,aft,g⟩ fr e S K=wO (ev e m) fun m=>wO (ev e k) fun k=>wO (ev e v) fun v=>wR (hl (hP P t m k v S)) fun S'=>K (.tup []) S') ∧
  (∀ (f:FuncId) (a b:List Operand) (d:Option Tmp) (ty:TypeId) (pos:String) (aft:Array Edge) (g:Option (Nat×Bool)) (fr:Option Nat) (e:aJ) (S:St) (K:KW),dX P C ⟨d,.makeFunc (.func f) a.toArray b.toArray,ty,pos,aft,g⟩ fr e S K=wO (jA (ev e) a) fun a=>wO (jA (ev e) b) fun b=>K (.func f a b) S) ∧
  (∀ (x:Operand) (u t:TypeId) (ok:Bool) (d:Option Tmp) (ty:TypeId) (pos:String) (aft:Array Edge) (g:Option (Nat×Bool)) (fr:Option Nat) (e:aJ) (S:St) (K:KW),dX P C ⟨d,.typeAssert x u t ok,ty,pos,aft,g⟩ fr e S K=wO (ev e x) fun v=>wR (hl (gC P v t ok)) fun v=>K v S) ∧
  (∀ (t:Operand) (i:Nat) (d:Option Tmp) (ty:TypeId) (pos:String) (aft:Array Edge) (g:Option (Nat×Bool)) (fr:Option Nat) (e:aJ) (S:St) (K:KW),dX P C ⟨d,.extract t i,ty,pos,aft,g⟩ fr e S K=wO (ev e t) fun v=>aA6 (hl v) i fun v=>K v S) ∧
  (∀ (f:FuncId) (a:List Operand) (ts:Array TypeId) (d:Option Tmp) (ty:TypeId) (pos:String) (aft:Array Edge) (g:Option (Nat×Bool)) (fr:Option Nat) (e:aJ) (S:St) (K:KW),dX P C ⟨d,.call ⟨.value (.func f),a.toArray,ts⟩,ty,pos,aft,g⟩ fr e S K=wO (jA (ev e) a) fun args=>eS P C f args S K) ∧
  (∀ (t:Tmp) (a:List Operand) (ts:Array TypeId) (d:Option Tmp) (ty:TypeId) (pos:String) (aft:Array Edge) (g:Option (Nat×Bool)) (fr:Option Nat) (e:aJ) (S:St) (K:KW),dX P C ⟨d,.call ⟨.value (.tmp t),a.toArray,ts⟩,ty,pos,aft,g⟩ fr e S K=wO (ev e (.tmp t)) fun v=>wO (jA (ev e) a) fun args=>aFc P C v args S K) ∧
  (∀ (x:Operand) (t:TypeId) (ts:List TypeId) (d:Option Tmp) (ty:TypeId) (pos:String) (aft:Array Edge) (g:Option (Nat×Bool)) (fr:Option Nat) (e:aJ) (S:St) (K:KW),dX P C ⟨d,.call ⟨.builtin .len,[x].toArray,(t::ts).toArray⟩,ty,pos,aft,g⟩ fr e S K=wO (ev e x) fun x=>wR (hl (oO P t x S)) fun v=>K v S) ∧
  (∀ (a:List Operand) (ts:Array TypeId) (d:Option Tmp) (ty:TypeId) (pos:String) (aft:Array Edge) (g:Option (Nat×Bool)) (fr:Option Nat) (e:aJ) (S:St) (K:KW),dX P C ⟨d,.call ⟨.builtin .min,a.toArray,ts⟩,ty,pos,aft,g⟩ fr e S K=wO (jA (ev e) a) fun args=>wR (hl (aEp args)) fun v=>K v S) ∧
  (∀ (a:List Operand) (ts:Array TypeId) (d:Option Tmp) (ty:TypeId) (pos:String) (aft:Array Edge) (g:Option (Nat×Bool)) (fr:Option Nat) (e:aJ) (S:St) (K:KW),dX P C ⟨d,.call ⟨.builtin .max,a.toArray,ts⟩,ty,pos,aft,g⟩ fr e S K=wO (jA (ev e) a) fun args=>wR (hl (aEq args)) fun v=>K v S) ∧
  (∀ (s x:Operand) (t u:TypeId) (ts:List TypeId) (d:Option Tmp) (ty:TypeId) (pos:String) (aft:Array Edge) (g:Option (Nat×Bool)) (fr:Option Nat) (e:aJ) (S:St) (K:KW),dX P C ⟨d,.call ⟨.builtin .append,[s,x].toArray,(t::u::ts).toArray⟩,ty,pos,aft,g⟩ fr e S K=wO (ev e s) fun s=>wO (ev e x) fun x=>oN (hl (lD P u)) (wR (hl (cX P t s x fr S)) fun r=>K r.1 r.2)) ∧
  (∀ (x:Operand) (t:TypeId) (ts:List TypeId) (d:Option Tmp) (ty:TypeId) (pos:String) (aft:Array Edge) (g:Option (Nat×Bool)) (fr:Option Nat) (e:aJ) (S:St) (K:KW),dX P C ⟨d,.call ⟨.builtin .clear,[x].toArray,(t::ts).toArray⟩,ty,pos,aft,g⟩ fr e S K=wO (ev e x) fun x=>wR (hl (rO P t x S)) fun r=>K r.1 r.2) ∧
  (∀ (s x:Operand) (t:TypeId) (ts:List TypeId) (d:Option Tmp) (ty:TypeId) (pos:String) (aft:Array Edge) (g:Option (Nat×Bool)) (fr:Option Nat) (e:aJ) (S:St) (K:KW),dX P C ⟨d,.call ⟨.builtin .copy,[s,x].toArray,(t::ts).toArray⟩,ty,pos,aft,g⟩ fr e S K=wO (ev e s) fun s=>wO (ev e x) fun x=>wR (hl (xC P t s x S)) fun r=>K r.1 r.2):=by
 refine ⟨?_,?_,?_,?_,?_,?_,?_,?_,?_,?_,?_,?_,?_,?_,?_,?_,?_,?_,?_,?_,?_,?_,?_,?_,?_,?_,?_,?_,?_,?_,?_,?_,?_,?_,?_,?_,?_,?_,?_,?_,?_,?_,?_,?_,?_,?_,?_,?_,?_,?_,?_⟩
 all_goals intros
 all_goals first
  | rfl
  | (simp only [hl];refine (aJ9 _ _ _).trans (sR _ fun v=>?_);simp only [pB,List.getElem?_toArray,List.getElem?_cons_zero,wO])
  | (simp only [hl];refine (aBe _ _ _ _).trans (sR _ fun v=>sR _ fun w=>?_);simp only [pB,List.getElem?_toArray,List.getElem?_cons_zero,List.getElem?_cons_succ,wO,lD];split<;>simp [oN, *];done)
  | (simp only [hl];refine (aBe _ _ _ _).trans (sR _ fun v=>sR _ fun w=>?_);simp only [pB,List.getElem?_toArray,List.getElem?_cons_zero,wO];done)
  | (simp only [dX,ev,aFc,wO,List.nil_append,List.append_nil];done)
  | skip
def kK (j:Nat) (sk:List Nat) (x y:Prop):Prop:=match aF9 j sk with
 | true=>x
 | false=>y
theorem aK9 {i j:Nat} (h:¬ j=i) (l:List Nat) (x y:Prop):kK j (i::l) x y=kK j l x y:=by simp only [kK,aF9,yN (Ne.symm h)]
theorem aOq {i j:Nat} (h:j<i) (l:List Nat) (x y:Prop):kK j (i::l) x y=kK j l x y:=aK9 (Nat.ne_of_lt h) l x y
theorem aKa {i j:Nat} (h:i<j) (l:List Nat) (x y:Prop):kK j (i::l) x y=kK j l x y:=aK9 (Nat.ne_of_gt h) l x y
theorem aFu {i j:Nat} (h:¬ j=i) (l:List Nat) (r:List (Nat×List Nat)) (K:List Nat→Prop):yQ ((i,l)::r) j K=yQ r j K:=by simp only [yQ,yN (Ne.symm h)]
theorem aKb {i j:Nat} (h:j<i) (l:List Nat) (r:List (Nat×List Nat)) (K:List Nat→Prop):yQ ((i,l)::r) j K=yQ r j K:=aFu (Nat.ne_of_lt h) l r K
theorem aFv {i j:Nat} (h:i<j) (l:List Nat) (r:List (Nat×List Nat)) (K:List Nat→Prop):yQ ((i,l)::r) j K=yQ r j K:=aFu (Nat.ne_of_gt h) l r K
theorem aFw {i j:Nat} (h:¬ j=i) (l:List bB) (r:List (Nat×List bB)) (K:List bB→Prop) (x:Prop):wSt ((i,l)::r) j K x=wSt r j K x:=by simp only [wSt,yN (Ne.symm h)]
theorem aKc {i j:Nat} (h:j<i) (l:List bB) (r:List (Nat×List bB)) (K:List bB→Prop) (x:Prop):wSt ((i,l)::r) j K x=wSt r j K x:=aFw (Nat.ne_of_lt h) l r K x
theorem aFx {i j:Nat} (h:i<j) (l:List bB) (r:List (Nat×List bB)) (K:List bB→Prop) (x:Prop):wSt ((i,l)::r) j K x=wSt r j K x:=aFw (Nat.ne_of_gt h) l r K x
theorem aBg {i j:Nat} (h:¬ j=i) (Kn:gG) (Kx:tJ) (e:aJ) (S:St):aAh i Kn Kx j e S=Kx j e S:=by simp only [aAh,yN h]
theorem aFy {i j:Nat} (h:j<i) (Kn:gG) (Kx:tJ) (e:aJ) (S:St):aAh i Kn Kx j e S=Kx j e S:=aBg (Nat.ne_of_lt h) Kn Kx e S
theorem aBh {i j:Nat} (h:i<j) (Kn:gG) (Kx:tJ) (e:aJ) (S:St):aAh i Kn Kx j e S=Kx j e S:=aBg (Nat.ne_of_gt h) Kn Kx e S
theorem aFz {d n:Nat} (h:d<n) (e:aJ) (v:V) (K:aJ→Prop):kJ n (some d) e v K=K (e.put d v):=by simp only [kJ,show Nat.blt d n=true by rw [Nat.blt_eq];exact h]
theorem aAi (i:Nat):Nat.beq i i=true:=Nat.beq_refl i
theorem uW {i j:Nat} (h:¬ i=j) (P:Program) (C:bJ) (ops:Array Oper) (S:St) (K:Prop) (o:Oper) (e:aJ) (ran:Bool) (v:V) (recs:List kL):cB P C ops i S K (nV P o j e ran v recs)=cB P C ops i S K recs:=by
 unfold nV
 split
 ·simp only [cB,yN h]
 ·rfl
theorem yS {i j:Nat} (h:i<j) (P:Program) (C:bJ) (ops:Array Oper) (S:St) (K:Prop) (o:Oper) (e:aJ) (ran:Bool) (v:V) (recs:List kL):cB P C ops i S K (nV P o j e ran v recs)=cB P C ops i S K recs:=uW (Nat.ne_of_lt h) P C ops S K o e ran v recs
theorem uX {i j:Nat} (h:j<i) (P:Program) (C:bJ) (ops:Array Oper) (S:St) (K:Prop) (o:Oper) (e:aJ) (ran:Bool) (v:V) (recs:List kL):cB P C ops i S K (nV P o j e ran v recs)=cB P C ops i S K recs:=uW (Nat.ne_of_gt h) P C ops S K o e ran v recs
theorem aG0 (K:List bB→Prop) (x:Prop) (id:Nat):∀ t:List (Nat×List bB),wSt t id K x=(match dD t id with
  | some l=>K l
  | none=>x)
 | []=>rfl
 | (i,l)::r=>by
  have ih:=aG0 K x id r
  unfold dD at ih ⊢
  by_cases h:i=id
  ·subst h;simp only [wSt,dS,aAi,cond_true]
  ·simp only [wSt,dS,yN h,yN (Ne.symm h),cond_false,ih]
theorem uY (P:Program) (C:bJ) (n:Nat) (tp:List (Nat×List bB)) (lv:Nat→List Nat) (id:Nat) (l:List Oper) (e:aJ) (S:St) (Kn:gG) (Kx:tJ) (Kr:gG):
  cF P C n (dD tp) lv (.region id l.toArray true) e S Kn Kx Kr=wLn l [0,1,2,3,4,5,6,7,8,9,10,11,12,13,14,15,16,17,18,19,20,21,22,23,24,25,26,27,28,29,30,31,32,33,34,35,36,37,38,39,40,41,42,43,44,45,46,47,48,49,50,51,52,53,54,55,56,57,58,59,60,61,62,63,64,65,66,67,68,69,70,71,72,73,74,75,76,77,78,79,80,81,82,83,84,85,86,87,88,89,90,91,92,93,94,95,96,97,98,99,100,101,102,103,104,105,106,107,108,109,110,111,112,113,114,115,116,117,118,119,120,121,122,123,124,125,126,127,128,129,130,131,132,133,134,135,136,137,138,139,140,141,142,143,144,145,146,147,148,149,150,151,152,153,154,155,156,157,158,159,160] 0 fun k=>wSt tp id (fun st=>kH P C n l.toArray S.next st [] [] e ⟨S.next+k,S.heap⟩ Kn) (nY P C n l.toArray S.next l [0,1,2,3,4,5,6,7,8,9,10,11,12,13,14,15,16,17,18,19,20,21,22,23,24,25,26,27,28,29,30,31,32,33,34,35,36,37,38,39,40,41,42,43,44,45,46,47,48,49,50,51,52,53,54,55,56,57,58,59,60,61,62,63,64,65,66,67,68,69,70,71,72,73,74,75,76,77,78,79,80,81,82,83,84,85,86,87,88,89,90,91,92,93,94,95,96,97,98,99,100,101,102,103,104,105,106,107,108,109,110,111,112,113,114,115,116,117,118,119,120,121,122,123,124,125,126,127,128,129,130,131,132,133,134,135,136,137,138,139,140,141,142,143,144,145,146,147,148,149,150,151,152,153,154,155,156,157,158,159,160] 0 [] e ⟨S.next+k,S.heap⟩ Kn):=by
 have hu:mR 0 [0,1,2,3,4,5,6,7,8,9,10,11,12,13,14,15,16,17,18,19,20,21,22,23,24,25,26,27,28,29,30,31,32,33,34,35,36,37,38,39,40,41,42,43,44,45,46,47,48,49,50,51,52,53,54,55,56,57,58,59,60,61,62,63,64,65,66,67,68,69,70,71,72,73,74,75,76,77,78,79,80,81,82,83,84,85,86,87,88,89,90,91,92,93,94,95,96,97,98,99,100,101,102,103,104,105,106,107,108,109,110,111,112,113,114,115,116,117,118,119,120,121,122,123,124,125,126,127,128,129,130,131,132,133,134,135,136,137,138,139,140,141,142,143,144,145,146,147,148,149,150,151,152,153,154,155,156,157,158,159,160]:=by simp only [mR,and_self]
 generalize [0,1,2,3,4,5,6,7,8,9,10,11,12,13,14,15,16,17,18,19,20,21,22,23,24,25,26,27,28,29,30,31,32,33,34,35,36,37,38,39,40,41,42,43,44,45,46,47,48,49,50,51,52,53,54,55,56,57,58,59,60,61,62,63,64,65,66,67,68,69,70,71,72,73,74,75,76,77,78,79,80,81,82,83,84,85,86,87,88,89,90,91,92,93,94,95,96,97,98,99,100,101,102,103,104,105,106,107,108,109,110,111,112,113,114,115,116,117,118,119,120,121,122,123,124,125,126,127,128,129,130,131,132,133,134,135,136,137,138,139,140,141,142,143,144,145,146,147,148,149,150,151,152,153,154,155,156,157,158,159,160]=ks at hu ⊢
 rw [aAe _ _ _ _ hu,aG0,Nat.zero_add]
 simp only [cF,List.size_toArray]
 cases dD tp id with
 | some st=>rfl
 | none=>
  show kH P C n l.toArray S.next (xD l.length) [] [] e _ Kn=_
  rw [yR]
  exact sQ P C n l.toArray S.next Kn l ks 0 [] [] e _ hu fun k=>by simp
theorem uZ (P:Program) (C:bJ) (n:Nat) (p:Nat→Option (List bB)) (tl:List (Nat×List Nat)) (a:Code) (e:aJ) (S:St) (Kn:gG) (Kx:tJ) (Kr:gG):
  cF P C n p (dN tl) (.loop a) e S Kn Kx Kr=yQ tl (aS a) fun ts=>iD e ts fun vs=>pO (hl vs) S (aK5 P C n p (dN tl) a e Kx Kr):=by rw [aAf];rfl
theorem aG1 (P:Program) (C:bJ) (n:Nat) (p:Nat→Option (List bB)) (tl:List (Nat×List Nat)) (a:Code) (e:aJ) (Kx:tJ) (Kr:gG) (vs:List V) (S:St) (bF:List V→St→Prop):
  aK5 P C n p (dN tl) a e Kx Kr vs S bF=yQ tl (aS a) fun ts=>wJ ts vs (e.filt fun t=>!gF a t) fun e=>cF P C n p (dN tl) a e S (fun e S=>iD e ts fun vs=>bF vs S) Kx Kr:=by rw [aAf];rfl
theorem aBi (P:Program) (C:bJ):
  (∀ (n:Nat) (p:Nat→Option (List bB)) (lv:Nat→List Nat) (e:aJ) (S:St) (Kn:gG) (Kx:tJ) (Kr:gG),cF P C n p lv .skip e S Kn Kx Kr=Kn e S) ∧
  (∀ (n:Nat) (p:Nat→Option (List bB)) (lv:Nat→List Nat) (l:Nat) (e:aJ) (S:St) (Kn:gG) (Kx:tJ) (Kr:gG),cF P C n p lv (.label l) e S Kn Kx Kr=Kn e S) ∧
  (∀ (n:Nat) (p:Nat→Option (List bB)) (lv:Nat→List Nat) (id:Nat) (e:aJ) (S:St) (Kn:gG) (Kx:tJ) (Kr:gG),cF P C n p lv (.exit id) e S Kn Kx Kr=Kx id e S) ∧
  (∀ (n:Nat) (p:Nat→Option (List bB)) (lv:Nat→List Nat) (e:aJ) (S:St) (Kn:gG) (Kx:tJ) (Kr:gG),cF P C n p lv .ret e S Kn Kx Kr=Kr e S) ∧
  (∀ (n:Nat) (p:Nat→Option (List bB)) (lv:Nat→List Nat) (id:Nat) (l:List Oper) (e:aJ) (S:St) (Kn:gG) (Kx:tJ) (Kr:gG),cF P C n p lv (.region id l.toArray false) e S Kn Kx Kr=wK P C n l.toArray l [0,1,2,3,4,5,6,7,8,9,10,11,12,13,14,15,16,17,18,19,20,21,22,23,24,25,26,27,28,29,30,31,32,33,34,35,36,37,38,39,40,41,42,43,44,45,46,47,48,49,50,51,52,53,54,55,56,57,58,59,60,61,62,63,64,65,66,67,68,69,70,71,72,73,74,75,76,77,78,79,80,81,82,83,84,85,86,87,88,89,90,91,92,93,94,95,96,97,98,99,100,101,102,103,104,105,106,107,108,109,110,111,112,113,114,115,116,117,118,119,120,121,122,123,124,125,126,127,128,129,130,131,132,133,134,135,136,137,138,139,140,141,142,143,144,145,146,147,148,149,150,151,152,153,154,155,156,157,158,159,160] 0 [] e S Kn) ∧
  (∀ (n:Nat) (p:Nat→Option (List bB)) (lv:Nat→List Nat) (a b:Code) (e:aJ) (S:St) (Kn:gG) (Kx:tJ) (Kr:gG),cF P C n p lv (.seq a b) e S Kn Kx Kr=cF P C n p lv a e S (fun e S=>cF P C n p lv b e S Kn Kx Kr) Kx Kr) ∧
  (∀ (n:Nat) (p:Nat→Option (List bB)) (lv:Nat→List Nat) (c:Operand) (a b:Code) (e:aJ) (S:St) (Kn:gG) (Kx:tJ) (Kr:gG),cF P C n p lv (.cond c a b) e S Kn Kx Kr=wO (ev e c) fun v=>cV (hl v) (cF P C n p lv a (pK e c true) S Kn Kx Kr) (cF P C n p lv b (pK e c false) S Kn Kx Kr)) ∧
  (∀ (n:Nat) (p:Nat→Option (List bB)) (lv:Nat→List Nat) (id:Nat) (a:Code) (e:aJ) (S:St) (Kn:gG) (Kx:tJ) (Kr:gG),cF P C n p lv (.block id a) e S Kn Kx Kr=cF P C n p lv a e S Kn (aAh id Kn Kx) Kr) ∧
  (∀ (n:Nat) (ops:Array Oper) (ks:List Nat) (i:Nat) (sk:List Nat) (e:aJ) (S:St) (K:gG),wK P C n ops [] ks i sk e S K=K e S) ∧
  (∀ (n:Nat) (ops:Array Oper) (o:Oper) (l:List Oper) (k i:Nat) (ks sk:List Nat) (e:aJ) (S:St) (K:gG),wK P C n ops (o::l) (k::ks) i sk e S K=fA P C n ops sk o none e S fun ran _ e' S'=>wK P C n ops l ks (i+1) (nU ran k sk) e' S' K) ∧
  (∀ (n:Nat) (ops:Array Oper) (b:Nat) (ks:List Nat) (i:Nat) (sk:List Nat) (e:aJ) (S:St) (K:gG),nY P C n ops b [] ks i sk e S K=K e S) ∧
  (∀ (n:Nat) (ops:Array Oper) (o:Oper) (l:List Oper) (b k i:Nat) (ks:List Nat) (sk:List Nat) (e:aJ) (S:St) (K:gG),nY P C n ops b (o::l) (k::ks) i sk e S K=fA P C n ops sk o (some (b+k)) e S fun ran _ e' S'=>nY P C n ops b l ks (i+1) (nU ran k sk) e' S' K) ∧
  (∀ (n:Nat) (ops:Array Oper) (b:Nat) (sk:List Nat) (recs:List kL) (e:aJ) (S:St) (K:gG),kH P C n ops b [] sk recs e S K=K e S) ∧
  (∀ (n:Nat) (ops:List Oper) (i:Nat) (re:List Nat) (l:List bB) (b:Nat) (sk:List Nat) (recs:List kL) (e:aJ) (S:St) (K:gG),kH P C n ops.toArray b ((i,re)::l) sk recs e S K=wI ops i fun o=>fA P C n ops.toArray sk o (some (b+i)) e S fun ran v e' S'=>jY P C ops.toArray recs S' (kH P C n ops.toArray b l (nU ran i sk) (nV P o i e ran v recs) e' S' K) re) ∧
  (∀ (ops:Array Oper) (recs:List kL) (S:St) (K:Prop),jY P C ops recs S K []=K) ∧
  (∀ (ops:Array Oper) (recs:List kL) (S:St) (K:Prop) (i:Nat) (l:List Nat),jY P C ops recs S K (i::l)=cB P C ops i S (jY P C ops recs S K l) recs) ∧
  (∀ (ops:Array Oper) (i:Nat) (S:St) (K:Prop),cB P C ops i S K []=K) ∧
  (∀ (ops:List Oper) (i:Nat) (S:St) (K:Prop) (d t:Nat) (a:Operand) (ty:TypeId) (pos:String) (aft:Array Edge) (g:Option (Nat×Bool)) (e:aJ) (v:V) (recs:List kL),cB P C ops.toArray i S K (nV P ⟨some d,.load t a,ty,pos,aft,g⟩ i e true v recs)=wI ops i fun o=>dX P C o none e S fun v' _=>oN (hl (dC v v')) K) ∧
  (∀ (ops:List Oper) (i:Nat) (S:St) (K:Prop) (d:Nat) (a:Array Operand) (ts:Array TypeId) (ty:TypeId) (pos:String) (aft:Array Edge) (g:Option (Nat×Bool)) (e:aJ) (v:V) (recs:List kL),cB P C ops.toArray i S K (nV P ⟨some d,.call ⟨.builtin .len,a,ts⟩,ty,pos,aft,g⟩ i e true v recs)=wI ops i fun o=>dX P C o none e S fun v' _=>oN (hl (dC v v')) K) ∧
  (∀ (o:Oper) (i:Nat) (e:aJ) (v:V) (recs:List kL) (ops:Array Oper) (S:St) (K:Prop),cB P C ops i S K (nV P o i e false v recs)=cB P C ops i S K recs) ∧
  (∀ (n:Nat) (ops:Array Oper) (sk:List Nat) (d:Option Tmp) (op:Op) (ty:TypeId) (pos:String) (aft:Array Edge) (fr:Option Nat) (e:aJ) (S:St) (K:Bool→V→aJ→St→Prop),fA P C n ops sk ⟨d,op,ty,pos,aft,none⟩ fr e S K=dX P C ⟨d,op,ty,pos,aft,none⟩ fr e S fun v S'=>kJ n d e v fun e'=>K true v e' S') ∧
  (∀ (n:Nat) (ops:List Oper) (sk:List Nat) (d:Option Tmp) (op:Op) (ty:TypeId) (pos:String) (aft:Array Edge) (j:Nat) (fr:Option Nat) (e:aJ) (S:St) (K:Bool→V→aJ→St→Prop),fA P C n ops.toArray sk ⟨d,op,ty,pos,aft,some (j,true)⟩ fr e S K=wG ops j fun s=>wO (e.get s) fun v=>kK j sk (aDo v (kJ n d e (.tup []) fun e'=>K false (.tup []) e' S)) (cV (hl v) (dX P C ⟨d,op,ty,pos,aft,some (j,true)⟩ fr (e.put s (.bool true)) S fun v S'=>kJ n d (e.put s (.bool true)) v fun e'=>K true v e' S') (kJ n d (e.put s (.bool false)) (.tup []) fun e'=>K false (.tup []) e' S))) ∧
  (∀ (n:Nat) (ops:List Oper) (sk:List Nat) (d:Option Tmp) (op:Op) (ty:TypeId) (pos:String) (aft:Array Edge) (j:Nat) (fr:Option Nat) (e:aJ) (S:St) (K:Bool→V→aJ→St→Prop),fA P C n ops.toArray sk ⟨d,op,ty,pos,aft,some (j,false)⟩ fr e S K=wG ops j fun s=>wO (e.get s) fun v=>kK j sk (aDo v (kJ n d e (.tup []) fun e'=>K false (.tup []) e' S)) (cV (hl v) (kJ n d (e.put s (.bool true)) (.tup []) fun e'=>K false (.tup []) e' S) (dX P C ⟨d,op,ty,pos,aft,some (j,false)⟩ fr (e.put s (.bool false)) S fun v S'=>kJ n d (e.put s (.bool false)) v fun e'=>K true v e' S'))) ∧
  (∀ (n:Nat) (e:aJ) (v:V) (K:aJ→Prop),kJ n none e v K=K e) ∧
  (∀ (rs:List ResultVar) (K:KW) (e:aJ) (S:St),aDp P rs K e S=tK P e S rs fun vs=>K (jQ vs) S) ∧
  (∀ (e:aJ) (S:St) (K:List V→Prop),tK P e S [] K=K []) ∧
  (∀ (e:aJ) (S:St) (t:Tmp) (l:List ResultVar) (K:List V→Prop),tK P e S (.tmp t::l) K=wO (e.get t) fun v=>tK P e S l fun vs=>K (v::vs)) ∧
  (∀ (e:aJ) (S:St) (a:Tmp) (t:TypeId) (l:List ResultVar) (K:List V→Prop),tK P e S (.cell a t::l) K=wO (e.get a) fun p=>wR (hl (gA P t p S)) fun v=>tK P e S l fun vs=>K (v::vs)) ∧
  (∀ (f:FuncId) (a b args:List V) (S:St) (K:KW),aFc P C (.func f a b) args S K=eS P C f (a++args++b) S K):=by
 refine ⟨fun n _ _ _ _ _ _ _=>rfl,fun n _ _ _ _ _ _ _ _=>rfl,fun n _ _ _ _ _ _ _ _=>rfl,fun n _ _ _ _ _ _ _=>rfl,fun n p lv id l e S Kn Kx Kr=>wL P C n l.toArray Kn l _ 0 [] e S (by simp only [mR,and_self]),fun n _ _ _ _ _ _ _ _ _=>rfl,fun n _ _ _ _ _ _ _ _ _ _=>rfl,fun n _ _ _ _ _ _ _ _ _=>rfl,fun n ops ks i sk e S K=>by cases ks<;>rfl,fun n _ _ _ _ _ _ _ _ _ _=>rfl,fun n ops b ks i sk e S K=>by cases ks<;>rfl,fun n _ _ _ _ _ _ _ _ _ _ _=>rfl,fun n _ _ _ _ _ _ _=>rfl,fun n ops i re l b sk recs e S K=>?_,fun _ _ _ _=>rfl,fun _ _ _ _ _ _=>rfl,fun _ _ _ _=>rfl,fun ops i S K d t a ty pos aft g e v recs=>?_,fun ops i S K d a ts ty pos aft g e v recs=>?_,fun o i e v recs ops S K=>?_,fun n _ _ _ _ _ _ _ _ _ _ _=>rfl,fun n ops sk d op ty pos aft j fr e S K=>?_,fun n ops sk d op ty pos aft j fr e S K=>?_,fun n _ _ _=>rfl,fun _ _ _ _=>rfl,fun _ _ _=>rfl,fun _ _ _ _ _=>rfl,fun _ _ _ _ _ _=>rfl,fun _ _ _ _ _ _=>rfl⟩
 ·rw [kH,uV]
 ·simp only [nV,cA,aAi,Bool.and_true,Option.isSome,cB,hl];rw [uV]
 ·simp only [nV,cA,aAi,Bool.and_true,Option.isSome,cB,hl];rw [uV]
 ·simp only [nV,Bool.and_false,Bool.false_and]
 ·simp only [fA,doW,uP,kK];rw [aFq];rfl
 ·simp only [fA,doW,uP,kK];rw [aFq];rfl
theorem aBj:(∀ (k:Nat) (ks:List Nat) (i:Nat) (K:Nat→Prop),wLn [] (k::ks) i K=K k)∧(∀ (o:Oper) (l:List Oper) (k:Nat) (ks:List Nat) (i:Nat) (K:Nat→Prop),wLn (o::l) (k::ks) i K=wLn l ks (i+1) K)∧(∀ (j:Nat) (x y:Prop),kK j [] x y=y)∧(∀ (j i:Nat) (l:List Nat) (x y:Prop),kK j (nU true i l) x y=kK j l x y)∧(∀ (j i:Nat) (l:List Nat) (x y:Prop),kK j (nU false i l) x y=kK j (i::l) x y)∧(∀ (j:Nat) (l:List Nat) (x y:Prop),kK j (j::l) x y=x) ∧
  (∀ (j:Nat) (K:List Nat→Prop),yQ [] j K=K [])∧(∀ (j:Nat) (l:List Nat) (r:List (Nat×List Nat)) (K:List Nat→Prop),yQ ((j,l)::r) j K=K l)∧(∀ (j:Nat) (K:List bB→Prop) (x:Prop),wSt [] j K x=x)∧(∀ (j:Nat) (l:List bB) (r:List (Nat×List bB)) (K:List bB→Prop) (x:Prop),wSt ((j,l)::r) j K x=K l) ∧
  (∀ (o:Oper) (l:List Oper) (K:Nat→Prop),wG (o::l) 0 K=wO o.dst K)∧(∀ (o:Oper) (l:List Oper) (j:Nat) (K:Nat→Prop),wG (o::l) (j+1) K=wG l j K)∧(∀ (o:Oper) (l:List Oper) (K:Oper→Prop),wI (o::l) 0 K=K o)∧(∀ (o:Oper) (l:List Oper) (j:Nat) (K:Oper→Prop),wI (o::l) (j+1) K=wI l j K) ∧
  (∀ (d:Nat) (op:Op) (ty:TypeId) (pos:String) (aft:Array Edge) (g:Option (Nat×Bool)) (K:Nat→Prop),wO (Oper.dst ⟨some d,op,ty,pos,aft,g⟩) K=K d) ∧
  (∀ (i:Nat) (Kn:gG) (Kx:tJ) (e:aJ) (S:St),aAh i Kn Kx i e S=Kn e S)∧(∀ (e:aJ) (K:List V→Prop),iD e [] K=K [])∧(∀ (e:aJ) (t:Nat) (l:List Nat) (K:List V→Prop),iD e (t::l) K=wO (e.get t) fun v=>iD e l fun vs=>K (v::vs)) ∧
  (∀ (vs:List V) (e:aJ) (K:aJ→Prop),wJ [] vs e K=K e)∧(∀ (t:Nat) (l:List Nat) (v:V) (vs:List V) (e:aJ) (K:aJ→Prop),wJ (t::l) (v::vs) e K=wJ l vs (e.put t v) K)∧(cI 0 [] .nil=.nil)∧(∀ a0:V,cI 0 [a0] .nil=(Tr.put .nil 0 a0))∧(∀ a0 a1:V,cI 0 [a0,a1] .nil=((Tr.put .nil 0 a0).put 1 a1))∧(∀ a0 a1 a2:V,cI 0 [a0,a1,a2] .nil=(((Tr.put .nil 0 a0).put 1 a1).put 2 a2))∧(∀ a0 a1 a2 a3:V,cI 0 [a0,a1,a2,a3] .nil=((((Tr.put .nil 0 a0).put 1 a1).put 2 a2).put 3 a3))∧(∀ a0 a1 a2 a3 a4:V,cI 0 [a0,a1,a2,a3,a4] .nil=(((((Tr.put .nil 0 a0).put 1 a1).put 2 a2).put 3 a3).put 4 a4))∧(∀ a0 a1 a2 a3 a4 a5:V,cI 0 [a0,a1,a2,a3,a4,a5] .nil=((((((Tr.put .nil 0 a0).put 1 a1).put 2 a2).put 3 a3).put 4 a4).put 5 a5))∧(∀ a0 a1 a2 a3 a4 a5 a6:V,cI 0 [a0,a1,a2,a3,a4,a5,a6] .nil=(((((((Tr.put .nil 0 a0).put 1 a1).put 2 a2).put 3 a3).put 4 a4).put 5 a5).put 6 a6))∧(∀ a0 a1 a2 a3 a4 a5 a6 a7:V,cI 0 [a0,a1,a2,a3,a4,a5,a6,a7] .nil=((((((((Tr.put .nil 0 a0).put 1 a1).put 2 a2).put 3 a3).put 4 a4).put 5 a5).put 6 a6).put 7 a7)) ∧
  (∀ (i:Nat) (sk:List Nat),nU true i sk=sk)∧(∀ (i:Nat) (sk:List Nat),nU false i sk=i::sk)∧(∀ (e:aJ) (t:Nat) (b:Bool),pK e (.tmp t) b=e.put t (.bool b))∧(∀ (e:aJ) (v:Value) (b:Bool),pK e (.const v) b=e)∧(∀ v:V,jQ [v]=v)∧jQ []=.tup []∧(∀ (v w:V) (l:List V),jQ (v::w::l)=.tup (v::w::l)) ∧
  (∀ (l:List V) (x:Prop),aDo (.tup l) x=x)∧(∀ a b:Code,aS (.seq a b)=aS a)∧(∀ (i:Nat) (a:Code),aS (.block i a)=aS a)∧(∀ (id:Nat) (ops:Array Oper) (d:Bool),aS (.region id ops d)=id)∧(∀ a:Code,aS (.loop a)=aS a)∧(∀ (c:Operand) (a b:Code),aS (.cond c a b)=0)∧(∀ x y:Prop,cV (hl (.bool true)) x y=x)∧(∀ x y:Prop,cV (hl (.bool false)) x y=y)∧(true=true)=True∧(false=true)=False∧(∀ a b:V,yF (.bool true) a b=.ok a)∧(∀ a b:V,yF (.bool false) a b=.ok b):=by
 refine ⟨fun _ _ _ _=>rfl,fun _ _ _ _ _ _=>rfl,fun _ _ _=>rfl,fun _ _ _ _ _=>rfl,fun _ _ _ _ _=>rfl,fun j l x y=>by simp only [kK,aF9,aAi],fun _ _=>rfl,fun j l r K=>by simp only [yQ,aAi],fun _ _ _=>rfl,fun j l r K x=>by simp only [wSt,aAi],fun _ _ _=>rfl,fun _ _ _ _=>rfl,fun _ _ _=>rfl,fun _ _ _ _=>rfl,fun _ _ _ _ _ _ _=>rfl,fun i Kn Kx e S=>by simp only [aAh,aAi],fun _ _=>rfl,fun _ _ _ _=>rfl,fun _ _ _=>rfl,fun _ _ _ _ _ _=>rfl,rfl,fun _=>rfl,fun _ _=>rfl,fun _ _ _=>rfl,fun _ _ _ _=>rfl,fun _ _ _ _ _=>rfl,fun _ _ _ _ _ _=>rfl,fun _ _ _ _ _ _ _=>rfl,fun _ _ _ _ _ _ _ _=>rfl,fun _ _=>rfl,fun _ _=>rfl,fun _ _ _=>rfl,fun _ _ _=>rfl,fun _=>rfl,rfl,fun _ _ _=>rfl,fun _ _=>rfl,fun _ _=>rfl,fun _ _=>rfl,fun _ _ _=>rfl,fun _=>rfl,fun _ _ _=>rfl,fun _ _=>rfl,fun _ _=>rfl,by simp,by simp,fun _ _=>rfl,fun _ _=>rfl⟩
theorem aBk (P:Program):(∀ (t:TypeId) (i j:Nat) (a b:V),cW P t (.tmp i) (.tmp j) a b=aU P t a b)∧(∀ (t:TypeId) (x:Operand) (c:Value) (i:TypeId) (v:V),cW P t x (.const c) (.iface i v) .nili=true) ∧
  (∀ (t:TypeId) (x y:Operand) (a:V) (k:IntKind) (n:Int),cW P t x y a (.int k n)=aU P t a (.int k n))∧(∀ (t:TypeId) (x y:Operand) (a:V) (s:List UInt8),cW P t x y a (.str s)=aU P t a (.str s))∧(∀ (t:TypeId) (x y:Operand) (a:V) (b:Bool),cW P t x y a (.bool b)=aU P t a (.bool b)) ∧
  (∀ (t:TypeId) (x y:Operand) (a:V) (l:List V),cW P t x y a (.agg l)=aU P t a (.agg l))∧(∀ (t:TypeId) (x y:Operand) (a:V),cW P t x y a .nilp=aU P t a .nilp)∧(∀ (t:TypeId) (x y:Operand) (a:V),cW P t x y a .nils=aU P t a .nils)∧(∀ (t:TypeId) (x y:Operand) (a:V),cW P t x y a .nilf=aU P t a .nilf)∧(∀ (t:TypeId) (x y:Operand) (a:V),cW P t x y a .nilm=aU P t a .nilm):=
 have key:∀ (t:TypeId) (x y:Operand) (a b:V),zL x y a b=false→cW P t x y a b=aU P t a b:=fun t x y a b h=>by
  unfold cW
  split
  ·rw [h,Bool.or_false]
  ·rfl
 ⟨fun t i j a b=>key _ _ _ _ _ (by unfold zL;cases b<;>first | rfl | (cases a<;>rfl)),fun t x c i v=>(key _ _ _ _ _ rfl).trans rfl,
  fun _ _ _ _ _ _=>key _ _ _ _ _ rfl,fun _ _ _ _ _=>key _ _ _ _ _ rfl,fun _ _ _ _ _=>key _ _ _ _ _ rfl,fun _ _ _ _ _=>key _ _ _ _ _ rfl,fun _ _ _ _=>key _ _ _ _ _ rfl,fun _ _ _ _=>key _ _ _ _ _ rfl,fun _ _ _ _=>key _ _ _ _ _ rfl,fun _ _ _ _=>key _ _ _ _ _ rfl⟩
def sS (P:Program) (C:bJ) (fn:Func) (tp:List (Nat×List bB)) (tl:List (Nat×List Nat)) (args:List V) (S:St) (K:KW):Prop:=aFd P C (dD tp) (dN tl) args S K (fn.body.getD .skip) fn.ntmps fn.results.toList
theorem aKd (P:Program) (C:bJ) (nm og:String) (ta pa rt:Array TypeId) (nf nt:Nat) (rs:List ResultVar) (c:Code) (b1 b2:Bool) (fl:String) (el:Nat) (ln:Option Nat) (me:List Departure) (tn:Array String) (tp:List (Nat×List bB)) (tl:List (Nat×List Nat)) (args:List V) (S:St) (K:KW):
  sS P C ⟨nm,og,ta,pa,rt,nf,nt,rs.toArray,some c,b1,b2,fl,el,ln,me,tn⟩ tp tl args S K=oN (Nat.ble args.length nt) (cF P C nt (dD tp) (dN tl) c (cI 0 args .nil) S (aDp P rs K) (fun _ _ _=>False) (aDp P rs K)):=rfl
def vA (fn:Func):Code×Nat×List ResultVar:=(fn.body.getD .skip,fn.ntmps,fn.results.toList)
theorem vB:(∀ n,Nat.ble ([]:List V).length n=true)∧(∀ (a:V) (l:List V) (n:Nat),Nat.ble (a::l).length (n+1)=Nat.ble l.length n):=⟨fun n=>by cases n<;>rfl,fun _ _ _=>rfl⟩
theorem kI (P:Program) (C:bJ) {g:FuncId} (h:bV P g=some none) (args:List V) (S:St) (K:KW):eS P C g args S K=C g (hl args) S K:=by unfold eS;rw [h];rfl
section
variable {P:Program} {pl:eE} {f:FuncId} {fn:Func} {tp:List (Nat×List bB)} {tl:List (Nat×List Nat)}
theorem aOr (hp:pl f=some (.val (dD tp))) (hb:pM P f=some (vA fn)) {args:List V} {v:V} (hc:cloVs args=true) (h:sS P (W P pl) fn tp tl args ⟨0,.nil⟩ fun v0 S0=>iE S0 v0=.ok v):Fn P pl f args v:=
 Fn.of (p:=dD tp) (lv:=dN tl) hp hc (by unfold fR;rw [hb];exact h)
theorem aNw (hp:pl f=some (.code (dD tp))) (hb:pM P f=some (vA fn)) {args:List V} {S:St} {K:KW} (h:sS P (W P pl) fn tp tl args S K):W P pl f args S K:=
 aNt (p:=dD tp) (lv:=dN tl) hp (by unfold fR;rw [hb];exact h)
end
end
end Go.AM
end
section
namespace Go.Proofs.YtoaibmbldmckaaaGreat
open Go.AM Tryz
def dSp:tY:=[(202,.ins 68),(221,.ins 27),(230,.ins 28),(234,.ins 25),(237,.ins 24),(280,.ins 80),(240,.del 28),(25,.told),(49,.told)]
def aG2:dT:=[
 (3,[]),
 (4,[(4,[(0,[]),(2,[]),(1,[2]),(3,[]),(4,[]),(5,[]),(6,[]),(7,[]),(8,[]),(9,[]),(10,[]),(11,[]),(12,[]),(13,[])])]),
 (5,[(10,[(0,[]),(1,[]),(2,[1]),(3,[])])]),
 (6,[(8,[(0,[]),(2,[]),(1,[2]),(3,[]),(4,[]),(5,[]),(6,[]),(7,[]),(8,[]),(9,[]),(10,[]),(11,[]),(12,[]),(13,[]),(14,[]),(15,[])])]),
 (7,[]),
 (8,[(7,[(1,[]),(2,[]),(3,[]),(4,[]),(6,[]),(7,[]),(8,[]),(9,[]),(10,[]),(0,[]),(5,[7]),(11,[]),(12,[])]),(15,[(0,[]),(1,[0]),(2,[0]),(3,[]),(4,[]),(5,[]),(6,[]),(7,[]),(8,[])])]),
 (9,[]),
 (10,[]),
 (11,[]),
 (12,[]),
 (13,[(2,[(0,[]),(2,[]),(1,[2]),(3,[]),(4,[]),(5,[]),(6,[]),(7,[]),(8,[]),(9,[]),(10,[]),(11,[]),(12,[]),(13,[]),(14,[])])]),
 (14,[]),
 (15,[(5,[(0,[]),(1,[]),(2,[0]),(3,[]),(4,[]),(5,[]),(6,[]),(7,[]),(8,[]),(9,[])]),(6,[(0,[]),(1,[]),(2,[0]),(3,[]),(4,[]),(5,[]),(6,[]),(7,[]),(8,[]),(9,[])])]),
 (16,[(3,[(0,[]),(2,[]),(1,[2]),(3,[]),(4,[]),(5,[])]),(4,[(0,[]),(1,[]),(2,[]),(3,[]),(4,[]),(5,[]),(6,[]),(7,[]),(8,[]),(9,[]),(10,[]),(12,[]),(13,[]),(11,[13,12]),(14,[]),(15,[]),(16,[]),(17,[]),(18,[]),(19,[]),(20,[])])]),
 (17,[(32,[(0,[]),(1,[]),(2,[]),(3,[]),(4,[]),(5,[]),(6,[]),(7,[]),(8,[]),(9,[]),(10,[]),(11,[]),(12,[]),(13,[]),(14,[]),(15,[]),(16,[]),(17,[]),(18,[]),(19,[]),(20,[]),(21,[]),(22,[]),(23,[]),(24,[]),(25,[]),(26,[]),(27,[]),(28,[25,23]),(29,[]),(30,[]),(31,[25,23]),(32,[]),(33,[]),(34,[25]),(35,[]),(36,[]),(37,[])])]),
 (18,[]),
 (19,[]),
 (20,[]),
 (21,[]),
 (22,[]),
 (23,[]),
 (24,[]),
 (25,[(6,[(0,[]),(1,[]),(2,[]),(3,[]),(4,[]),(5,[]),(6,[]),(7,[]),(8,[]),(9,[8]),(10,[]),(11,[]),(12,[]),(13,[]),(14,[]),(15,[]),(16,[]),(17,[]),(18,[]),(19,[]),(20,[]),(21,[]),(22,[]),(23,[]),(24,[])])]),
 (26,[]),
 (27,[]),
 (28,[]),
 (29,[(7,[(0,[]),(1,[]),(2,[]),(3,[]),(4,[]),(5,[]),(6,[]),(8,[]),(9,[]),(10,[]),(11,[]),(12,[]),(13,[]),(15,[]),(16,[]),(17,[]),(18,[]),(19,[]),(20,[]),(7,[20,16,13,9]),(14,[20,16]),(21,[]),(22,[])]),(12,[(0,[]),(1,[]),(2,[]),(3,[]),(4,[]),(5,[]),(6,[]),(8,[]),(9,[]),(10,[]),(11,[]),(12,[]),(13,[]),(15,[]),(16,[]),(17,[]),(18,[]),(19,[]),(20,[]),(7,[20,16,13,9]),(14,[20,16]),(21,[]),(22,[])]),(18,[(0,[]),(1,[]),(2,[]),(3,[]),(5,[]),(6,[]),(4,[6]),(7,[]),(8,[])]),(19,[(0,[]),(1,[]),(2,[]),(3,[]),(5,[]),(6,[]),(7,[]),(4,[7]),(8,[]),(9,[])]),(25,[(0,[]),(1,[]),(2,[]),(4,[]),(5,[]),(7,[]),(8,[]),(3,[8,5]),(6,[8]),(9,[]),(10,[])]),(30,[(0,[]),(1,[]),(2,[]),(3,[]),(4,[]),(5,[]),(6,[]),(8,[]),(9,[]),(10,[]),(11,[]),(12,[]),(13,[]),(15,[]),(16,[]),(17,[]),(18,[]),(19,[]),(20,[]),(7,[20,16,13,9]),(14,[20,16]),(21,[]),(22,[])])]),
 (30,[]),
 (31,[]),
 (32,[]),
 (33,[(3,[(0,[]),(1,[0]),(2,[]),(3,[])]),(5,[(0,[]),(1,[0]),(2,[]),(3,[])]),(10,[(0,[]),(1,[]),(2,[0]),(3,[]),(4,[])]),(12,[(0,[]),(1,[]),(2,[1]),(3,[])]),(17,[(0,[]),(1,[]),(2,[1]),(3,[])])]),
 (34,[(9,[(1,[]),(2,[]),(4,[]),(5,[]),(6,[]),(0,[]),(3,[5]),(7,[]),(8,[]),(9,[]),(10,[])]),(11,[(0,[]),(1,[]),(2,[]),(3,[]),(4,[]),(5,[2]),(6,[])]),(16,[(0,[]),(1,[]),(2,[1]),(3,[])]),(21,[(0,[]),(1,[]),(2,[1]),(3,[])])]),
 (35,[]),
 (36,[]),
 (37,[]),
 (38,[]),
 (39,[]),
 (40,[]),
 (41,[(10,[(0,[]),(1,[]),(3,[]),(2,[3]),(4,[]),(5,[]),(6,[]),(7,[]),(8,[]),(10,[]),(9,[10]),(11,[]),(12,[]),(13,[])]),(19,[(1,[]),(2,[]),(3,[]),(5,[]),(6,[]),(7,[]),(8,[]),(9,[]),(12,[]),(13,[]),(14,[]),(0,[]),(4,[8,6]),(10,[]),(11,[]),(15,[]),(16,[])])]),
 (42,[]),
 (43,[]),
 (44,[(3,[(0,[]),(1,[0]),(2,[0]),(3,[]),(4,[]),(5,[]),(6,[]),(7,[]),(8,[])]),(4,[(0,[]),(1,[0]),(2,[0]),(3,[]),(4,[]),(5,[]),(6,[]),(7,[]),(8,[])])]),
 (45,[]),
 (46,[]),
 (47,[]),
 (48,[]),
 (49,[]),
 (50,[]),
 (51,[]),
 (52,[]),
 (53,[]),
 (54,[(7,[(0,[]),(1,[]),(3,[]),(4,[]),(6,[]),(2,[4]),(5,[]),(7,[]),(8,[]),(9,[]),(10,[])])]),
 (55,[]),
 (56,[]),
 (57,[]),
 (58,[]),
 (59,[]),
 (60,[]),
 (61,[]),
 (62,[]),
 (63,[]),
 (64,[]),
 (65,[]),
 (66,[]),
 (67,[]),
 (68,[]),
 (69,[]),
 (70,[]),
 (71,[]),
 (72,[]),
 (73,[]),
 (74,[]),
 (75,[]),
 (76,[]),
 (77,[]),
 (78,[]),
 (79,[]),
 (80,[]),
 (81,[]),
 (82,[]),
 (83,[]),
 (84,[]),
 (85,[]),
 (86,[]),
 (87,[]),
 (88,[]),
 (89,[]),
 (90,[]),
 (91,[]),
 (92,[]),
 (93,[]),
 (94,[]),
 (95,[]),
 (96,[]),
 (97,[]),
 (98,[(1,[(0,[]),(1,[]),(2,[]),(4,[]),(5,[]),(7,[]),(8,[]),(3,[8,5]),(6,[8]),(9,[]),(10,[])])]),
 (99,[]),
 (100,[]),
 (101,[(1,[(0,[]),(1,[]),(2,[]),(4,[]),(5,[]),(7,[]),(8,[]),(3,[8,5]),(6,[8]),(9,[]),(10,[])])]),
 (102,[(9,[(0,[]),(1,[]),(2,[]),(3,[]),(4,[]),(5,[]),(6,[]),(7,[]),(8,[]),(9,[]),(10,[1]),(11,[]),(12,[]),(13,[]),(14,[])])]),
 (103,[]),
 (104,[(2,[(0,[]),(1,[0]),(2,[]),(3,[])]),(5,[(0,[]),(1,[]),(2,[0]),(3,[]),(4,[])]),(9,[(0,[]),(1,[]),(2,[1]),(3,[])])]),
 (105,[]),
 (106,[]),
 (107,[(8,[(0,[]),(1,[]),(2,[]),(3,[]),(4,[]),(5,[]),(6,[]),(7,[]),(8,[5]),(9,[]),(10,[]),(11,[])])]),
 (108,[(5,[(0,[]),(1,[]),(2,[]),(3,[]),(4,[]),(5,[3]),(6,[]),(7,[])]),(12,[(0,[]),(1,[]),(2,[]),(3,[]),(4,[]),(5,[3]),(6,[]),(7,[])]),(15,[(0,[]),(1,[]),(2,[]),(3,[]),(4,[]),(5,[]),(6,[]),(7,[5,3]),(8,[]),(9,[5]),(10,[]),(11,[])])]),
 (109,[]),
 (110,[(33,[(1,[]),(2,[]),(3,[]),(4,[]),(6,[]),(7,[]),(8,[]),(9,[]),(10,[]),(0,[]),(5,[7]),(11,[]),(12,[]),(13,[])]),(44,[(0,[]),(1,[]),(2,[1]),(3,[])])]),
 (111,[(4,[(0,[]),(1,[]),(2,[]),(3,[]),(4,[]),(5,[]),(6,[]),(7,[]),(8,[5]),(9,[]),(10,[]),(11,[])])]),
 (112,[]),
 (113,[]),
 (114,[]),
 (115,[]),
 (116,[]),
 (117,[]),
 (118,[(1,[(0,[]),(1,[]),(2,[]),(3,[]),(4,[]),(5,[]),(6,[]),(7,[]),(8,[]),(9,[]),(10,[]),(11,[]),(12,[]),(13,[]),(14,[]),(15,[]),(16,[]),(17,[]),(18,[]),(19,[]),(20,[15]),(21,[]),(22,[]),(23,[])])]),
 (119,[]),
 (120,[(19,[(0,[]),(1,[]),(2,[]),(3,[]),(4,[]),(5,[]),(6,[]),(7,[]),(8,[]),(9,[]),(10,[]),(11,[]),(12,[]),(13,[]),(15,[]),(16,[]),(17,[]),(18,[]),(19,[]),(14,[19]),(20,[]),(21,[]),(22,[]),(23,[]),(24,[]),(25,[]),(26,[]),(27,[]),(28,[]),(29,[]),(30,[]),(31,[]),(32,[]),(33,[]),(34,[]),(35,[]),(36,[]),(37,[]),(38,[]),(39,[]),(40,[]),(41,[]),(42,[]),(43,[]),(44,[]),(45,[]),(46,[]),(47,[]),(48,[])])]),
 (121,[]),
 (122,[(11,[(1,[]),(2,[]),(3,[]),(5,[]),(6,[]),(7,[]),(8,[]),(9,[]),(10,[]),(13,[]),(14,[]),(15,[]),(0,[]),(4,[9]),(11,[]),(12,[]),(16,[]),(17,[])])]),
 (123,[(1,[(0,[]),(1,[]),(2,[]),(3,[]),(4,[]),(5,[]),(6,[]),(7,[]),(8,[]),(9,[]),(10,[]),(11,[]),(12,[]),(13,[]),(14,[]),(15,[]),(16,[]),(17,[]),(18,[]),(19,[]),(20,[]),(21,[]),(22,[]),(23,[]),(24,[]),(25,[]),(26,[]),(27,[]),(28,[]),(29,[]),(30,[25]),(31,[]),(32,[]),(33,[])])]),
 (124,[(1,[(0,[]),(1,[]),(2,[]),(3,[]),(4,[]),(5,[]),(6,[]),(7,[]),(9,[]),(8,[9]),(10,[]),(11,[]),(12,[]),(13,[])])]),
 (125,[]),
 (126,[]),
 (127,[]),
 (128,[]),
 (129,[]),
 (130,[]),
 (131,[]),
 (132,[]),
 (133,[]),
 (134,[]),
 (135,[]),
 (136,[]),
 (137,[]),
 (138,[]),
 (139,[]),
 (140,[]),
 (141,[]),
 (142,[(5,[(0,[]),(1,[]),(2,[]),(3,[]),(4,[]),(5,[3]),(6,[]),(7,[])]),(14,[(0,[]),(1,[]),(2,[]),(3,[]),(4,[]),(5,[]),(6,[]),(7,[]),(8,[]),(10,[]),(9,[5,2]),(11,[5]),(12,[]),(13,[]),(14,[]),(15,[])]),(17,[(0,[]),(1,[]),(2,[]),(3,[]),(4,[]),(5,[]),(6,[]),(7,[5,3]),(8,[]),(9,[5]),(10,[]),(11,[])]),(24,[(0,[]),(1,[]),(2,[]),(3,[]),(4,[2]),(5,[])])]),
 (143,[(5,[(0,[]),(1,[]),(2,[]),(3,[]),(4,[]),(5,[4]),(6,[])])]),
 (144,[]),
 (145,[]),
 (146,[]),
 (147,[]),
 (148,[]),
 (149,[]),
 (150,[]),
 (151,[]),
 (152,[]),
 (153,[]),
 (154,[(10,[(0,[]),(1,[]),(2,[]),(3,[]),(4,[]),(7,[]),(8,[]),(9,[]),(10,[]),(11,[]),(5,[]),(6,[11]),(12,[]),(13,[]),(14,[]),(15,[])])]),
 (155,[]),
 (156,[]),
 (157,[]),
 (158,[]),
 (159,[]),
 (160,[]),
 (161,[(5,[(0,[]),(1,[]),(2,[]),(3,[]),(4,[]),(5,[]),(8,[]),(9,[]),(10,[]),(11,[]),(12,[]),(13,[]),(6,[]),(7,[13]),(14,[]),(15,[]),(16,[]),(17,[])])]),
 (162,[]),
 (163,[]),
 (164,[]),
 (165,[]),
 (166,[]),
 (167,[]),
 (168,[]),
 (169,[]),
 (170,[]),
 (171,[]),
 (172,[]),
 (173,[]),
 (174,[]),
 (175,[]),
 (176,[]),
 (177,[]),
 (178,[(17,[(0,[]),(2,[]),(3,[]),(1,[3]),(4,[]),(5,[]),(6,[]),(7,[])])]),
 (179,[]),
 (180,[]),
 (181,[]),
 (182,[]),
 (183,[]),
 (184,[]),
 (185,[]),
 (186,[(14,[(1,[]),(2,[]),(3,[]),(5,[]),(6,[]),(7,[]),(10,[]),(11,[]),(12,[]),(0,[]),(4,[]),(8,[]),(9,[]),(13,[]),(14,[]),(15,[])])]),
 (187,[]),
 (188,[]),
 (189,[(13,[(1,[]),(2,[]),(3,[]),(5,[]),(8,[]),(9,[]),(10,[]),(0,[]),(4,[5]),(6,[]),(7,[]),(11,[]),(12,[]),(13,[])])]),
 (190,[(30,[(1,[]),(2,[]),(3,[]),(4,[]),(6,[]),(7,[]),(8,[]),(9,[]),(12,[]),(13,[]),(14,[]),(15,[]),(0,[]),(5,[13,7]),(10,[]),(11,[13]),(16,[]),(17,[]),(18,[])]),(31,[(0,[]),(1,[]),(2,[]),(3,[]),(4,[]),(5,[]),(6,[]),(7,[]),(8,[]),(9,[]),(10,[1]),(11,[]),(12,[]),(13,[]),(14,[]),(15,[]),(16,[]),(17,[])])]),
 (191,[(13,[(1,[]),(2,[]),(4,[]),(5,[]),(6,[]),(7,[]),(8,[]),(9,[]),(10,[]),(11,[]),(12,[]),(13,[]),(0,[]),(3,[12,10,9,5]),(14,[]),(15,[]),(16,[]),(17,[])]),(14,[(0,[]),(1,[]),(2,[]),(3,[]),(4,[]),(5,[3]),(6,[])])]),
 (192,[(12,[(0,[]),(1,[]),(2,[]),(3,[]),(4,[]),(5,[]),(6,[]),(8,[]),(9,[]),(7,[9]),(10,[]),(11,[]),(12,[])]),(22,[(0,[]),(1,[]),(2,[1]),(3,[])])]),
 (193,[]),
 (194,[(3,[(0,[]),(1,[]),(3,[]),(4,[]),(2,[4]),(5,[]),(6,[]),(7,[])])]),
 (195,[]),
 (196,[]),
 (197,[]),
 (198,[]),
 (199,[]),
 (200,[]),
 (201,[]),
 (203,[]),
 (204,[]),
 (205,[]),
 (206,[]),
 (207,[(4,[(0,[]),(1,[]),(3,[]),(4,[]),(6,[]),(2,[4]),(5,[]),(7,[]),(8,[]),(9,[]),(10,[])])]),
 (208,[(9,[(0,[]),(1,[]),(2,[]),(3,[]),(4,[]),(5,[]),(6,[3,1]),(7,[]),(8,[]),(9,[]),(10,[])])]),
 (209,[]),
 (210,[]),
 (211,[]),
 (212,[]),
 (213,[]),
 (214,[]),
 (215,[(6,[(0,[]),(1,[]),(2,[]),(3,[]),(4,[]),(5,[4]),(6,[])])]),
 (216,[]),
 (217,[]),
 (218,[]),
 (219,[]),
 (220,[]),
 (222,[]),
 (223,[(7,[(0,[]),(1,[]),(2,[]),(3,[]),(4,[1]),(5,[]),(6,[]),(7,[])])]),
 (224,[]),
 (225,[]),
 (226,[(5,[(0,[]),(1,[]),(2,[]),(5,[]),(6,[]),(7,[]),(3,[]),(4,[7]),(8,[]),(9,[]),(10,[]),(11,[])])]),
 (227,[]),
 (228,[]),
 (229,[]),
 (231,[]),
 (232,[]),
 (233,[]),
 (235,[]),
 (236,[]),
 (238,[]),
 (239,[]),
 (241,[]),
 (242,[(7,[(0,[]),(1,[]),(2,[]),(3,[]),(4,[]),(5,[]),(6,[]),(7,[]),(8,[]),(9,[]),(10,[]),(11,[]),(12,[]),(14,[]),(13,[14]),(15,[]),(16,[]),(17,[])])]),
 (243,[]),
 (244,[]),
 (245,[]),
 (246,[]),
 (249,[(7,[(0,[]),(1,[]),(2,[]),(4,[]),(5,[]),(3,[5]),(6,[]),(7,[])]),(16,[(0,[]),(1,[]),(2,[]),(3,[]),(5,[]),(6,[]),(7,[]),(9,[]),(10,[]),(11,[]),(4,[11,7]),(8,[11]),(12,[]),(13,[])]),(20,[(0,[]),(1,[]),(2,[]),(4,[]),(5,[]),(7,[]),(8,[]),(9,[]),(3,[9,8,5]),(6,[9,8]),(10,[]),(11,[])]),(27,[(0,[]),(1,[]),(2,[]),(4,[]),(5,[]),(7,[]),(8,[]),(10,[]),(11,[]),(3,[11,8,5]),(6,[11,8]),(9,[11]),(12,[]),(13,[])]),(31,[(0,[]),(1,[]),(2,[]),(4,[]),(5,[]),(7,[]),(8,[]),(9,[]),(11,[]),(12,[]),(13,[]),(3,[13,9,5]),(6,[13,9]),(10,[13]),(14,[]),(15,[])])]),
 (250,[]),
 (251,[]),
 (252,[]),
 (253,[]),
 (254,[]),
 (258,[]),
 (259,[]),
 (260,[]),
 (263,[]),
 (268,[]),
 (269,[]),
 (270,[]),
 (271,[]),
 (273,[]),
 (278,[]),
 (279,[]),
 (286,[]),
 (287,[]),
 (307,[]),
 (308,[]),
 (309,[]),
 (310,[]),
 (311,[]),
 (312,[]),
 (313,[]),
 (314,[])]
def dVl:List Nat:=[3,4,5,6,7,8,9,10,11,12,13,14,15,16,17,18,19,21,22,23,24,25,26,27,28,30,31,32,33,34,35,36,37,38,40,41,42,43,44,45,46,47,48,49,50,51,52,53,54,55,56,57,58,59,62,64,68,69,70,73,74,75,76,77,78,80,81,82,83,84,85,86,87,88,89,90,91,103,104,105,107,108,109,110,111,112,113,114,115,116,117,118,119,120,122,123,124,126,127,128,129,130,131,132,133,134,135,136,137,139,140,141,142,143,144,145,146,147,148,150,151,158,159,160,161,162,163,164,165,166,167,168,169,170,173,174,175,177,178,182,185,186,187,188,189,190,191,192,193,194,195,196,197,198,199,200,201,203,204,205,206,207,208,213,214,215,216,217,218,219,220,222,223,224,225,226,227,228,229,231,232,233,236,238,241,242,243,244,245,246,249,253,254,258,260,263,268,271,273,278,279,286,287,307,308,309,310,311,312,313,314]
def dOl:List (Nat×List Nat):=[(235,[0]),(102,[2]),(157,[999]),(121,[999])]
noncomputable def pX:eE:=iJ prog dSp aG2 dVl dOl
end Go.Proofs.YtoaibmbldmckaaaGreat
end
section
namespace Go.Proofs.YtoaibmbldmckaaaGreat
open Go.RowKit Go.AM Tryz
def aG3:dT:=[
 (3,[]),
 (4,[(4,[(0,[]),(2,[]),(1,[2]),(3,[]),(4,[]),(5,[]),(6,[]),(7,[]),(8,[]),(9,[]),(10,[]),(11,[]),(12,[]),(13,[])])]),
 (5,[(10,[(0,[]),(1,[]),(2,[1]),(3,[])])]),
 (6,[(8,[(0,[]),(2,[]),(1,[2]),(3,[]),(4,[]),(5,[]),(6,[]),(7,[]),(8,[]),(9,[]),(10,[]),(11,[]),(12,[]),(13,[]),(14,[]),(15,[])])]),
 (7,[]),
 (8,[(7,[(1,[]),(2,[]),(3,[]),(4,[]),(6,[]),(7,[]),(8,[]),(9,[]),(10,[]),(0,[]),(5,[7]),(11,[]),(12,[])]),(15,[(0,[]),(1,[0]),(2,[0]),(3,[]),(4,[]),(5,[]),(6,[]),(7,[]),(8,[])])]),
 (9,[]),
 (10,[]),
 (11,[]),
 (12,[]),
 (13,[(2,[(0,[]),(2,[]),(1,[2]),(3,[]),(4,[]),(5,[]),(6,[]),(7,[]),(8,[]),(9,[]),(10,[]),(11,[]),(12,[]),(13,[]),(14,[])])]),
 (14,[]),
 (15,[(5,[(0,[]),(1,[]),(2,[0]),(3,[]),(4,[]),(5,[]),(6,[]),(7,[]),(8,[]),(9,[])]),(6,[(0,[]),(1,[]),(2,[0]),(3,[]),(4,[]),(5,[]),(6,[]),(7,[]),(8,[]),(9,[])])]),
 (16,[(3,[(0,[]),(2,[]),(1,[2]),(3,[]),(4,[]),(5,[])]),(4,[(0,[]),(1,[]),(2,[]),(3,[]),(4,[]),(5,[]),(6,[]),(7,[]),(8,[]),(9,[]),(10,[]),(12,[]),(13,[]),(11,[13,12]),(14,[]),(15,[]),(16,[]),(17,[]),(18,[]),(19,[]),(20,[])])]),
 (17,[(32,[(0,[]),(1,[]),(2,[]),(3,[]),(4,[]),(5,[]),(6,[]),(7,[]),(8,[]),(9,[]),(10,[]),(11,[]),(12,[]),(13,[]),(14,[]),(15,[]),(16,[]),(17,[]),(18,[]),(19,[]),(20,[]),(21,[]),(22,[]),(23,[]),(24,[]),(25,[]),(26,[]),(27,[]),(28,[25,23]),(29,[]),(30,[]),(31,[25,23]),(32,[]),(33,[]),(34,[25]),(35,[]),(36,[]),(37,[])])]),
 (18,[])]
theorem aE2:dH prog aG3=true:=by kernel_rfl
def aG4:dT:=[
 (19,[]),
 (20,[]),
 (21,[]),
 (22,[]),
 (23,[]),
 (24,[]),
 (25,[(6,[(0,[]),(1,[]),(2,[]),(3,[]),(4,[]),(5,[]),(6,[]),(7,[]),(8,[]),(9,[8]),(10,[]),(11,[]),(12,[]),(13,[]),(14,[]),(15,[]),(16,[]),(17,[]),(18,[]),(19,[]),(20,[]),(21,[]),(22,[]),(23,[]),(24,[])])]),
 (26,[]),
 (27,[]),
 (28,[]),
 (29,[(7,[(0,[]),(1,[]),(2,[]),(3,[]),(4,[]),(5,[]),(6,[]),(8,[]),(9,[]),(10,[]),(11,[]),(12,[]),(13,[]),(15,[]),(16,[]),(17,[]),(18,[]),(19,[]),(20,[]),(7,[20,16,13,9]),(14,[20,16]),(21,[]),(22,[])]),(12,[(0,[]),(1,[]),(2,[]),(3,[]),(4,[]),(5,[]),(6,[]),(8,[]),(9,[]),(10,[]),(11,[]),(12,[]),(13,[]),(15,[]),(16,[]),(17,[]),(18,[]),(19,[]),(20,[]),(7,[20,16,13,9]),(14,[20,16]),(21,[]),(22,[])]),(18,[(0,[]),(1,[]),(2,[]),(3,[]),(5,[]),(6,[]),(4,[6]),(7,[]),(8,[])]),(19,[(0,[]),(1,[]),(2,[]),(3,[]),(5,[]),(6,[]),(7,[]),(4,[7]),(8,[]),(9,[])]),(25,[(0,[]),(1,[]),(2,[]),(4,[]),(5,[]),(7,[]),(8,[]),(3,[8,5]),(6,[8]),(9,[]),(10,[])]),(30,[(0,[]),(1,[]),(2,[]),(3,[]),(4,[]),(5,[]),(6,[]),(8,[]),(9,[]),(10,[]),(11,[]),(12,[]),(13,[]),(15,[]),(16,[]),(17,[]),(18,[]),(19,[]),(20,[]),(7,[20,16,13,9]),(14,[20,16]),(21,[]),(22,[])])]),
 (30,[]),
 (31,[]),
 (32,[]),
 (33,[(3,[(0,[]),(1,[0]),(2,[]),(3,[])]),(5,[(0,[]),(1,[0]),(2,[]),(3,[])]),(10,[(0,[]),(1,[]),(2,[0]),(3,[]),(4,[])]),(12,[(0,[]),(1,[]),(2,[1]),(3,[])]),(17,[(0,[]),(1,[]),(2,[1]),(3,[])])]),
 (34,[(9,[(1,[]),(2,[]),(4,[]),(5,[]),(6,[]),(0,[]),(3,[5]),(7,[]),(8,[]),(9,[]),(10,[])]),(11,[(0,[]),(1,[]),(2,[]),(3,[]),(4,[]),(5,[2]),(6,[])]),(16,[(0,[]),(1,[]),(2,[1]),(3,[])]),(21,[(0,[]),(1,[]),(2,[1]),(3,[])])])]
theorem aE3:dH prog aG4=true:=by kernel_rfl
def aG5:dT:=[
 (35,[]),
 (36,[]),
 (37,[]),
 (38,[]),
 (39,[]),
 (40,[]),
 (41,[(10,[(0,[]),(1,[]),(3,[]),(2,[3]),(4,[]),(5,[]),(6,[]),(7,[]),(8,[]),(10,[]),(9,[10]),(11,[]),(12,[]),(13,[])]),(19,[(1,[]),(2,[]),(3,[]),(5,[]),(6,[]),(7,[]),(8,[]),(9,[]),(12,[]),(13,[]),(14,[]),(0,[]),(4,[8,6]),(10,[]),(11,[]),(15,[]),(16,[])])]),
 (42,[]),
 (43,[]),
 (44,[(3,[(0,[]),(1,[0]),(2,[0]),(3,[]),(4,[]),(5,[]),(6,[]),(7,[]),(8,[])]),(4,[(0,[]),(1,[0]),(2,[0]),(3,[]),(4,[]),(5,[]),(6,[]),(7,[]),(8,[])])]),
 (45,[]),
 (46,[]),
 (47,[]),
 (48,[]),
 (49,[]),
 (50,[])]
theorem aE4:dH prog aG5=true:=by kernel_rfl
def aG6:dT:=[
 (51,[]),
 (52,[]),
 (53,[]),
 (54,[(7,[(0,[]),(1,[]),(3,[]),(4,[]),(6,[]),(2,[4]),(5,[]),(7,[]),(8,[]),(9,[]),(10,[])])]),
 (55,[]),
 (56,[]),
 (57,[]),
 (58,[]),
 (59,[]),
 (60,[]),
 (61,[]),
 (62,[]),
 (63,[]),
 (64,[]),
 (65,[]),
 (66,[])]
theorem aE5:dH prog aG6=true:=by kernel_rfl
def aG7:dT:=[
 (67,[]),
 (68,[]),
 (69,[]),
 (70,[]),
 (71,[]),
 (72,[]),
 (73,[]),
 (74,[]),
 (75,[]),
 (76,[]),
 (77,[]),
 (78,[]),
 (79,[]),
 (80,[]),
 (81,[]),
 (82,[])]
theorem aE6:dH prog aG7=true:=by kernel_rfl
def aG8:dT:=[
 (83,[]),
 (84,[]),
 (85,[]),
 (86,[]),
 (87,[]),
 (88,[]),
 (89,[]),
 (90,[]),
 (91,[]),
 (92,[]),
 (93,[]),
 (94,[]),
 (95,[]),
 (96,[]),
 (97,[]),
 (98,[(1,[(0,[]),(1,[]),(2,[]),(4,[]),(5,[]),(7,[]),(8,[]),(3,[8,5]),(6,[8]),(9,[]),(10,[])])])]
theorem aE7:dH prog aG8=true:=by kernel_rfl
def aG9:dT:=[
 (99,[]),
 (100,[]),
 (101,[(1,[(0,[]),(1,[]),(2,[]),(4,[]),(5,[]),(7,[]),(8,[]),(3,[8,5]),(6,[8]),(9,[]),(10,[])])]),
 (102,[(9,[(0,[]),(1,[]),(2,[]),(3,[]),(4,[]),(5,[]),(6,[]),(7,[]),(8,[]),(9,[]),(10,[1]),(11,[]),(12,[]),(13,[]),(14,[])])]),
 (103,[]),
 (104,[(2,[(0,[]),(1,[0]),(2,[]),(3,[])]),(5,[(0,[]),(1,[]),(2,[0]),(3,[]),(4,[])]),(9,[(0,[]),(1,[]),(2,[1]),(3,[])])]),
 (105,[]),
 (106,[]),
 (107,[(8,[(0,[]),(1,[]),(2,[]),(3,[]),(4,[]),(5,[]),(6,[]),(7,[]),(8,[5]),(9,[]),(10,[]),(11,[])])]),
 (108,[(5,[(0,[]),(1,[]),(2,[]),(3,[]),(4,[]),(5,[3]),(6,[]),(7,[])]),(12,[(0,[]),(1,[]),(2,[]),(3,[]),(4,[]),(5,[3]),(6,[]),(7,[])]),(15,[(0,[]),(1,[]),(2,[]),(3,[]),(4,[]),(5,[]),(6,[]),(7,[5,3]),(8,[]),(9,[5]),(10,[]),(11,[])])]),
 (109,[]),
 (110,[(33,[(1,[]),(2,[]),(3,[]),(4,[]),(6,[]),(7,[]),(8,[]),(9,[]),(10,[]),(0,[]),(5,[7]),(11,[]),(12,[]),(13,[])]),(44,[(0,[]),(1,[]),(2,[1]),(3,[])])]),
 (111,[(4,[(0,[]),(1,[]),(2,[]),(3,[]),(4,[]),(5,[]),(6,[]),(7,[]),(8,[5]),(9,[]),(10,[]),(11,[])])]),
 (112,[]),
 (113,[]),
 (114,[])]
theorem aE8:dH prog aG9=true:=by kernel_rfl
def aGa:dT:=[
 (115,[]),
 (116,[]),
 (117,[]),
 (118,[(1,[(0,[]),(1,[]),(2,[]),(3,[]),(4,[]),(5,[]),(6,[]),(7,[]),(8,[]),(9,[]),(10,[]),(11,[]),(12,[]),(13,[]),(14,[]),(15,[]),(16,[]),(17,[]),(18,[]),(19,[]),(20,[15]),(21,[]),(22,[]),(23,[])])]),
 (119,[]),
 (120,[(19,[(0,[]),(1,[]),(2,[]),(3,[]),(4,[]),(5,[]),(6,[]),(7,[]),(8,[]),(9,[]),(10,[]),(11,[]),(12,[]),(13,[]),(15,[]),(16,[]),(17,[]),(18,[]),(19,[]),(14,[19]),(20,[]),(21,[]),(22,[]),(23,[]),(24,[]),(25,[]),(26,[]),(27,[]),(28,[]),(29,[]),(30,[]),(31,[]),(32,[]),(33,[]),(34,[]),(35,[]),(36,[]),(37,[]),(38,[]),(39,[]),(40,[]),(41,[]),(42,[]),(43,[]),(44,[]),(45,[]),(46,[]),(47,[]),(48,[])])]),
 (121,[]),
 (122,[(11,[(1,[]),(2,[]),(3,[]),(5,[]),(6,[]),(7,[]),(8,[]),(9,[]),(10,[]),(13,[]),(14,[]),(15,[]),(0,[]),(4,[9]),(11,[]),(12,[]),(16,[]),(17,[])])]),
 (123,[(1,[(0,[]),(1,[]),(2,[]),(3,[]),(4,[]),(5,[]),(6,[]),(7,[]),(8,[]),(9,[]),(10,[]),(11,[]),(12,[]),(13,[]),(14,[]),(15,[]),(16,[]),(17,[]),(18,[]),(19,[]),(20,[]),(21,[]),(22,[]),(23,[]),(24,[]),(25,[]),(26,[]),(27,[]),(28,[]),(29,[]),(30,[25]),(31,[]),(32,[]),(33,[])])]),
 (124,[(1,[(0,[]),(1,[]),(2,[]),(3,[]),(4,[]),(5,[]),(6,[]),(7,[]),(9,[]),(8,[9]),(10,[]),(11,[]),(12,[]),(13,[])])]),
 (125,[]),
 (126,[]),
 (127,[]),
 (128,[]),
 (129,[]),
 (130,[])]
theorem aE9:dH prog aGa=true:=by kernel_rfl
def aGb:dT:=[
 (131,[]),
 (132,[]),
 (133,[]),
 (134,[]),
 (135,[]),
 (136,[]),
 (137,[]),
 (138,[]),
 (139,[]),
 (140,[]),
 (141,[]),
 (142,[(5,[(0,[]),(1,[]),(2,[]),(3,[]),(4,[]),(5,[3]),(6,[]),(7,[])]),(14,[(0,[]),(1,[]),(2,[]),(3,[]),(4,[]),(5,[]),(6,[]),(7,[]),(8,[]),(10,[]),(9,[5,2]),(11,[5]),(12,[]),(13,[]),(14,[]),(15,[])]),(17,[(0,[]),(1,[]),(2,[]),(3,[]),(4,[]),(5,[]),(6,[]),(7,[5,3]),(8,[]),(9,[5]),(10,[]),(11,[])]),(24,[(0,[]),(1,[]),(2,[]),(3,[]),(4,[2]),(5,[])])]),
 (143,[(5,[(0,[]),(1,[]),(2,[]),(3,[]),(4,[]),(5,[4]),(6,[])])]),
 (144,[]),
 (145,[]),
 (146,[])]
theorem aEa:dH prog aGb=true:=by kernel_rfl
def aGc:dT:=[
 (147,[]),
 (148,[]),
 (149,[]),
 (150,[]),
 (151,[]),
 (152,[]),
 (153,[]),
 (154,[(10,[(0,[]),(1,[]),(2,[]),(3,[]),(4,[]),(7,[]),(8,[]),(9,[]),(10,[]),(11,[]),(5,[]),(6,[11]),(12,[]),(13,[]),(14,[]),(15,[])])]),
 (155,[]),
 (156,[]),
 (157,[]),
 (158,[]),
 (159,[]),
 (160,[]),
 (161,[(5,[(0,[]),(1,[]),(2,[]),(3,[]),(4,[]),(5,[]),(8,[]),(9,[]),(10,[]),(11,[]),(12,[]),(13,[]),(6,[]),(7,[13]),(14,[]),(15,[]),(16,[]),(17,[])])]),
 (162,[])]
theorem aEb:dH prog aGc=true:=by kernel_rfl
def aBl:dT:=[
 (163,[]),
 (164,[]),
 (165,[]),
 (166,[]),
 (167,[]),
 (168,[]),
 (169,[]),
 (170,[]),
 (171,[]),
 (172,[]),
 (173,[]),
 (174,[]),
 (175,[]),
 (176,[]),
 (177,[]),
 (178,[(17,[(0,[]),(2,[]),(3,[]),(1,[3]),(4,[]),(5,[]),(6,[]),(7,[])])])]
theorem aAj:dH prog aBl=true:=by kernel_rfl
def aBm:dT:=[
 (179,[]),
 (180,[]),
 (181,[]),
 (182,[]),
 (183,[]),
 (184,[]),
 (185,[]),
 (186,[(14,[(1,[]),(2,[]),(3,[]),(5,[]),(6,[]),(7,[]),(10,[]),(11,[]),(12,[]),(0,[]),(4,[]),(8,[]),(9,[]),(13,[]),(14,[]),(15,[])])]),
 (187,[]),
 (188,[]),
 (189,[(13,[(1,[]),(2,[]),(3,[]),(5,[]),(8,[]),(9,[]),(10,[]),(0,[]),(4,[5]),(6,[]),(7,[]),(11,[]),(12,[]),(13,[])])]),
 (190,[(30,[(1,[]),(2,[]),(3,[]),(4,[]),(6,[]),(7,[]),(8,[]),(9,[]),(12,[]),(13,[]),(14,[]),(15,[]),(0,[]),(5,[13,7]),(10,[]),(11,[13]),(16,[]),(17,[]),(18,[])]),(31,[(0,[]),(1,[]),(2,[]),(3,[]),(4,[]),(5,[]),(6,[]),(7,[]),(8,[]),(9,[]),(10,[1]),(11,[]),(12,[]),(13,[]),(14,[]),(15,[]),(16,[]),(17,[])])]),
 (191,[(13,[(1,[]),(2,[]),(4,[]),(5,[]),(6,[]),(7,[]),(8,[]),(9,[]),(10,[]),(11,[]),(12,[]),(13,[]),(0,[]),(3,[12,10,9,5]),(14,[]),(15,[]),(16,[]),(17,[])]),(14,[(0,[]),(1,[]),(2,[]),(3,[]),(4,[]),(5,[3]),(6,[])])]),
 (192,[(12,[(0,[]),(1,[]),(2,[]),(3,[]),(4,[]),(5,[]),(6,[]),(8,[]),(9,[]),(7,[9]),(10,[]),(11,[]),(12,[])]),(22,[(0,[]),(1,[]),(2,[1]),(3,[])])]),
 (193,[]),
 (194,[(3,[(0,[]),(1,[]),(3,[]),(4,[]),(2,[4]),(5,[]),(6,[]),(7,[])])])]
theorem aAk:dH prog aBm=true:=by kernel_rfl
def aBn:dT:=[
 (195,[]),
 (196,[]),
 (197,[]),
 (198,[]),
 (199,[]),
 (200,[]),
 (201,[]),
 (203,[]),
 (204,[]),
 (205,[]),
 (206,[]),
 (207,[(4,[(0,[]),(1,[]),(3,[]),(4,[]),(6,[]),(2,[4]),(5,[]),(7,[]),(8,[]),(9,[]),(10,[])])]),
 (208,[(9,[(0,[]),(1,[]),(2,[]),(3,[]),(4,[]),(5,[]),(6,[3,1]),(7,[]),(8,[]),(9,[]),(10,[])])]),
 (209,[]),
 (210,[]),
 (211,[])]
theorem aAl:dH prog aBn=true:=by kernel_rfl
def aBo:dT:=[
 (212,[]),
 (213,[]),
 (214,[]),
 (215,[(6,[(0,[]),(1,[]),(2,[]),(3,[]),(4,[]),(5,[4]),(6,[])])]),
 (216,[]),
 (217,[]),
 (218,[]),
 (219,[]),
 (220,[]),
 (222,[]),
 (223,[(7,[(0,[]),(1,[]),(2,[]),(3,[]),(4,[1]),(5,[]),(6,[]),(7,[])])]),
 (224,[]),
 (225,[]),
 (226,[(5,[(0,[]),(1,[]),(2,[]),(5,[]),(6,[]),(7,[]),(3,[]),(4,[7]),(8,[]),(9,[]),(10,[]),(11,[])])]),
 (227,[]),
 (228,[])]
theorem aAm:dH prog aBo=true:=by kernel_rfl
def aBp:dT:=[
 (229,[]),
 (231,[]),
 (232,[]),
 (233,[]),
 (235,[]),
 (236,[]),
 (238,[]),
 (239,[]),
 (241,[]),
 (242,[(7,[(0,[]),(1,[]),(2,[]),(3,[]),(4,[]),(5,[]),(6,[]),(7,[]),(8,[]),(9,[]),(10,[]),(11,[]),(12,[]),(14,[]),(13,[14]),(15,[]),(16,[]),(17,[])])]),
 (243,[]),
 (244,[]),
 (245,[]),
 (246,[]),
 (249,[(7,[(0,[]),(1,[]),(2,[]),(4,[]),(5,[]),(3,[5]),(6,[]),(7,[])]),(16,[(0,[]),(1,[]),(2,[]),(3,[]),(5,[]),(6,[]),(7,[]),(9,[]),(10,[]),(11,[]),(4,[11,7]),(8,[11]),(12,[]),(13,[])]),(20,[(0,[]),(1,[]),(2,[]),(4,[]),(5,[]),(7,[]),(8,[]),(9,[]),(3,[9,8,5]),(6,[9,8]),(10,[]),(11,[])]),(27,[(0,[]),(1,[]),(2,[]),(4,[]),(5,[]),(7,[]),(8,[]),(10,[]),(11,[]),(3,[11,8,5]),(6,[11,8]),(9,[11]),(12,[]),(13,[])]),(31,[(0,[]),(1,[]),(2,[]),(4,[]),(5,[]),(7,[]),(8,[]),(9,[]),(11,[]),(12,[]),(13,[]),(3,[13,9,5]),(6,[13,9]),(10,[13]),(14,[]),(15,[])])]),
 (250,[])]
theorem aAn:dH prog aBp=true:=by kernel_rfl
def aBq:dT:=[
 (251,[]),
 (252,[]),
 (253,[]),
 (254,[]),
 (258,[]),
 (259,[]),
 (260,[]),
 (263,[]),
 (268,[]),
 (269,[]),
 (270,[]),
 (271,[]),
 (273,[]),
 (278,[]),
 (279,[]),
 (286,[])]
theorem aAo:dH prog aBq=true:=by kernel_rfl
def aBr:dT:=[
 (287,[]),
 (307,[]),
 (308,[]),
 (309,[]),
 (310,[]),
 (311,[]),
 (312,[]),
 (313,[]),
 (314,[])]
theorem aAp:dH prog aBr=true:=by kernel_rfl
end Go.Proofs.YtoaibmbldmckaaaGreat
end
section
namespace Go.Proofs.YtoaibmbldmckaaaGreat
open Go.AM Tryz
section
noncomputable abbrev C:bJ:=W prog pX
abbrev Fv (f:Nat) (args:List V) (v:V):Prop:=Go.AM.Fn prog pX f args v
abbrev Fr (f:Nat) (mk:Nat→List V) (n:Nat) (pre:List V) (v:V) (post:List V):Prop:=Go.AM.FnR prog pX f mk 0 n [pre] v [post]
theorem A2 {p q:Prop} (a:p) (b:q):p∧q:=⟨a,b⟩
abbrev TP:=List (Nat×List bB)
abbrev TL:=List (Nat×List Nat)
abbrev VA (f:Nat) (fn:Func) (tp:TP) (tl:TL):Prop:=∀ {args:List V} {v:V},cloVs args=true→(sS prog C fn tp tl args ⟨0,.nil⟩ fun v0 S0=>iE S0 v0=.ok v)→Fv f args v
abbrev VB (f:Nat) (fn:Func) (tp:TP) (tl:TL):Prop:=∀ {args:List V} {S:St} {K:KW},sS prog C fn tp tl args S K→C f args S K
abbrev VC (f:Nat) (fn:Func) (tp:TP) (tl:TL) (w:List Nat):Prop:=∀ {args:List V} {S:St} {K:KW},cloVs args=true→(sS prog C fn tp tl args ⟨0,.nil⟩ fun v0 S0=>wR (hl (aFn w v0 S0 S)) fun r=>K r.1 r.2)→C f args S K
abbrev VT (f:Nat) (fn:Func) (tp:TP) (tl:TL):Prop:=∀ (args:List V) (S:St) (K:KW),fR prog C (dD tp) (dN tl) f args S K=sS prog C fn tp tl args S K
section
variable {f:Nat} {fn:Func} {tp:TP} {tl:TL}
theorem va (hp:pX f=some (.val (dD tp))) (hb:pM prog f=some (vA fn)):VA f fn tp tl:=fun hc h=>aOr hp hb hc h
theorem vb (hp:pX f=some (.code (dD tp))) (hb:pM prog f=some (vA fn)):VB f fn tp tl:=fun h=>aNw hp hb h
theorem vt (hb:pM prog f=some (vA fn)):VT f fn tp tl:=fun args S K=>by unfold fR;rw [hb];rfl
theorem vc {w:List Nat} (hp:pX f=some (.own (dD tp) w)) (hb:pM prog f=some (vA fn)) (hm:fI kpN w=false):VC f fn tp tl w:=fun hc h=>aOo (p:=dD tp) (lv:=dN tl) hp hm hc (by rw [vt (tp:=tp) (tl:=tl) hb];exact h)
end
theorem v18:VA 18 Tryz.f18 [] [(8,[4,9])]:=va (by kernel_rfl) (by kernel_rfl)
theorem v55:VA 55 Tryz.f55 [] []:=va (by kernel_rfl) (by kernel_rfl)
theorem v56:VA 56 Tryz.f56 [] [(4,[6,7,14])]:=va (by kernel_rfl) (by kernel_rfl)
theorem v57:VA 57 Tryz.f57 [] [(4,[6,7,8])]:=va (by kernel_rfl) (by kernel_rfl)
theorem v58:VA 58 Tryz.f58 [] [(4,[4,5])]:=va (by kernel_rfl) (by kernel_rfl)
theorem v59:VA 59 Tryz.f59 [] []:=va (by kernel_rfl) (by kernel_rfl)
theorem v60:VB 60 Tryz.f60 [] []:=vb (by kernel_rfl) (by kernel_rfl)
theorem v72:VB 72 Tryz.f72 [] []:=vb (by kernel_rfl) (by kernel_rfl)
theorem aTt:VA 136 Tryz.f136 [] []:=va (by kernel_rfl) (by kernel_rfl)
theorem aTu:VA 140 Tryz.f140 [] []:=va (by kernel_rfl) (by kernel_rfl)
theorem aTv:VA 142 Tryz.f142 [(5,[(0,[]),(1,[]),(2,[]),(3,[]),(4,[]),(5,[3]),(6,[]),(7,[])]),(14,[(0,[]),(1,[]),(2,[]),(3,[]),(4,[]),(5,[]),(6,[]),(7,[]),(8,[]),(10,[]),(9,[5,2]),(11,[5]),(12,[]),(13,[]),(14,[]),(15,[])]),(17,[(0,[]),(1,[]),(2,[]),(3,[]),(4,[]),(5,[]),(6,[]),(7,[5,3]),(8,[]),(9,[5]),(10,[]),(11,[])]),(24,[(0,[]),(1,[]),(2,[]),(3,[]),(4,[2]),(5,[])])] []:=va (by kernel_rfl) (by kernel_rfl)
theorem aTw:VA 143 Tryz.f143 [(5,[(0,[]),(1,[]),(2,[]),(3,[]),(4,[]),(5,[4]),(6,[])])] []:=va (by kernel_rfl) (by kernel_rfl)
theorem aTx:VA 144 Tryz.f144 [] [(4,[4,5])]:=va (by kernel_rfl) (by kernel_rfl)
theorem aTy:VA 208 Tryz.f208 [(9,[(0,[]),(1,[]),(2,[]),(3,[]),(4,[]),(5,[]),(6,[3,1]),(7,[]),(8,[]),(9,[]),(10,[])])] []:=va (by kernel_rfl) (by kernel_rfl)
theorem aTz:VB 212 Tryz.f212 [] [(16,[65])]:=vb (by kernel_rfl) (by kernel_rfl)
theorem aU0:VA 213 Tryz.f213 [] []:=va (by kernel_rfl) (by kernel_rfl)
theorem aU1:VA 214 Tryz.f214 [] []:=va (by kernel_rfl) (by kernel_rfl)
theorem aU2:VA 307 Tryz.f307 [] []:=va (by kernel_rfl) (by kernel_rfl)
theorem aU3:VA 308 Tryz.f308 [] []:=va (by kernel_rfl) (by kernel_rfl)
theorem aU4:VA 309 Tryz.f309 [] []:=va (by kernel_rfl) (by kernel_rfl)
theorem aU5:VA 310 Tryz.f310 [] []:=va (by kernel_rfl) (by kernel_rfl)
theorem aU6:VA 311 Tryz.f311 [] []:=va (by kernel_rfl) (by kernel_rfl)
theorem aU7:VA 312 Tryz.f312 [] []:=va (by kernel_rfl) (by kernel_rfl)
theorem aU8:VA 313 Tryz.f313 [] []:=va (by kernel_rfl) (by kernel_rfl)
theorem aU9:VA 314 Tryz.f314 [] []:=va (by kernel_rfl) (by kernel_rfl)
theorem tx0:∀ g:Nat,2≤g→g<247→bV prog g=some none:=by
 have h:((List.range 245).all fun g=>match bV prog (g+2) with
  | some none=>true
  | _=>false)=true:=by kernel_rfl
 intro g h0 h1
 have:=List.all_eq_true.1 h (g - 2) (List.mem_range.2 (by omega))
 rw [Nat.sub_add_cancel h0] at this
 split at this
 ·assumption
 ·cases this
theorem aKe {g:Nat} (h0:1<g) (h1:g<247) (args:List V) (S:St) (K:KW):eS prog C g args S K=C g (hl args) S K:=kI _ _ (tx0 g h0 h1) _ _ _
theorem tx1:∀ g:Nat,248≤g→g<255→bV prog g=some none:=by
 have h:((List.range 7).all fun g=>match bV prog (g+248) with
  | some none=>true
  | _=>false)=true:=by kernel_rfl
 intro g h0 h1
 have:=List.all_eq_true.1 h (g - 248) (List.mem_range.2 (by omega))
 rw [Nat.sub_add_cancel h0] at this
 split at this
 ·assumption
 ·cases this
theorem aKf {g:Nat} (h0:247<g) (h1:g<255) (args:List V) (S:St) (K:KW):eS prog C g args S K=C g (hl args) S K:=kI _ _ (tx1 g h0 h1) _ _ _
theorem tx2:∀ g:Nat,257≤g→g<261→bV prog g=some none:=by
 have h:((List.range 4).all fun g=>match bV prog (g+257) with
  | some none=>true
  | _=>false)=true:=by kernel_rfl
 intro g h0 h1
 have:=List.all_eq_true.1 h (g - 257) (List.mem_range.2 (by omega))
 rw [Nat.sub_add_cancel h0] at this
 split at this
 ·assumption
 ·cases this
theorem aKg {g:Nat} (h0:256<g) (h1:g<261) (args:List V) (S:St) (K:KW):eS prog C g args S K=C g (hl args) S K:=kI _ _ (tx2 g h0 h1) _ _ _
theorem tx3:∀ g:Nat,267≤g→g<288→bV prog g=some none:=by
 have h:((List.range 21).all fun g=>match bV prog (g+267) with
  | some none=>true
  | _=>false)=true:=by kernel_rfl
 intro g h0 h1
 have:=List.all_eq_true.1 h (g - 267) (List.mem_range.2 (by omega))
 rw [Nat.sub_add_cancel h0] at this
 split at this
 ·assumption
 ·cases this
theorem aKh {g:Nat} (h0:266<g) (h1:g<288) (args:List V) (S:St) (K:KW):eS prog C g args S K=C g (hl args) S K:=kI _ _ (tx3 g h0 h1) _ _ _
theorem yT (args:List V) (S:St) (K:KW):eS prog C 255 args S K=wR (hl (mZ Tryz.f255 args)) fun v=>K v S:=by
 unfold eS
 rw [show bV prog 255=some (some Tryz.f255) by kernel_rfl]
 rfl
theorem aOs (K:V→Prop):wO (aF prog 30) K=K (.agg [.nils,.nils,.nils,.nils,.nils,.int .i64 0]):=congrArg (fun x=>wO x K) (show aF prog 30=some (.agg [.nils,.nils,.nils,.nils,.nils,.int .i64 0]) by kernel_rfl)
theorem aOt (K:V→Prop):wO (aF prog 48) K=K (.agg [.int .i64 0,.int .i64 0,.int .i64 0]):=congrArg (fun x=>wO x K) (show aF prog 48=some (.agg [.int .i64 0,.int .i64 0,.int .i64 0]) by kernel_rfl)
theorem aKi:lD prog 26=true:=by kernel_rfl
theorem aOu (K:V→Prop):wO (aF prog 52) K=K (.agg [.int .i64 0,.int .i64 0,.int .i64 0]):=congrArg (fun x=>wO x K) (show aF prog 52=some (.agg [.int .i64 0,.int .i64 0,.int .i64 0]) by kernel_rfl)
theorem aKj:lD prog 22=true:=by kernel_rfl
theorem aOv (K:V→Prop):wO (aF prog 61) K=K (.agg [.int .i64 0,.int .i64 0,.int .i64 0,.str [],.int .i64 0,.str [],.int .i64 0,.int .i64 0,.int .i64 0,.int .i64 0,.int .i64 0,.int .i64 0,.int .i64 0,.nils,.str [],.int .i64 0,.int .i64 0]):=congrArg (fun x=>wO x K) (show aF prog 61=some (.agg [.int .i64 0,.int .i64 0,.int .i64 0,.str [],.int .i64 0,.str [],.int .i64 0,.int .i64 0,.int .i64 0,.int .i64 0,.int .i64 0,.int .i64 0,.int .i64 0,.nils,.str [],.int .i64 0,.int .i64 0]) by kernel_rfl)
theorem aKk:lD prog 44=true:=by kernel_rfl
theorem aKl:lD prog 96=true:=by kernel_rfl
theorem aKm:lD prog 97=true:=by kernel_rfl
theorem aOw (K:V→Prop):wO (aF prog 99) K=K (.agg [.int .i64 0,.int .i64 0,.int .i64 0,.str [],.int .i64 0,.str [],.int .i64 0,.int .i64 0,.int .i64 0,.int .i64 0,.int .i64 0,.int .i64 0,.int .i64 0,.nils,.str [],.int .i64 0,.int .i64 0,.int .i64 0,.int .i64 0,.int .i64 0,.int .i64 0,.int .i64 0,.int .i64 0]):=congrArg (fun x=>wO x K) (show aF prog 99=some (.agg [.int .i64 0,.int .i64 0,.int .i64 0,.str [],.int .i64 0,.str [],.int .i64 0,.int .i64 0,.int .i64 0,.int .i64 0,.int .i64 0,.int .i64 0,.int .i64 0,.nils,.str [],.int .i64 0,.int .i64 0,.int .i64 0,.int .i64 0,.int .i64 0,.int .i64 0,.int .i64 0,.int .i64 0]) by kernel_rfl)
theorem aOx (K:V→Prop):wO (aF prog 54) K=K (.agg [.str [],.int .i64 0,.int .i64 0,.int .i64 0,.int .i64 0]):=congrArg (fun x=>wO x K) (show aF prog 54=some (.agg [.str [],.int .i64 0,.int .i64 0,.int .i64 0,.int .i64 0]) by kernel_rfl)
theorem aKn:lD prog 24=true:=by kernel_rfl
theorem aKo (K:V→Prop):wO (aF prog 126) K=K (.agg [.str [],.int .i64 0,.int .i64 0,.bool false]):=congrArg (fun x=>wO x K) (show aF prog 126=some (.agg [.str [],.int .i64 0,.int .i64 0,.bool false]) by kernel_rfl)
theorem aKp:lD prog 25=true:=by kernel_rfl
theorem aOy (K:V→Prop):wO (aF prog 84) K=K (.agg [.str [],.int .i64 0,.int .i64 0,.int .i64 0,.int .i64 0,.int .i64 0,.int .i64 0,.int .i64 0,.nils,.str [],.int .i64 0,.bool false]):=congrArg (fun x=>wO x K) (show aF prog 84=some (.agg [.str [],.int .i64 0,.int .i64 0,.int .i64 0,.int .i64 0,.int .i64 0,.int .i64 0,.int .i64 0,.nils,.str [],.int .i64 0,.bool false]) by kernel_rfl)
theorem aKq (K:V→Prop):wO (aF prog 145) K=K (.agg [.str [],.int .i64 0,.int .i64 0,.int .i64 0]):=congrArg (fun x=>wO x K) (show aF prog 145=some (.agg [.str [],.int .i64 0,.int .i64 0,.int .i64 0]) by kernel_rfl)
theorem aKr:lD prog 80=true:=by kernel_rfl
theorem aKs (K:V→Prop):wO (aF prog 132) K=K (.agg [.int .i64 0,.int .i64 0,.int .i64 0,.int .i64 0,.int .i64 0]):=congrArg (fun x=>wO x K) (show aF prog 132=some (.agg [.int .i64 0,.int .i64 0,.int .i64 0,.int .i64 0,.int .i64 0]) by kernel_rfl)
theorem aKt:lD prog 28=true:=by kernel_rfl
theorem aKu:lD prog 27=true:=by kernel_rfl
theorem aOz (K:V→Prop):wO (aF prog 59) K=K (.agg [.int .i64 0,.str [],.int .i64 0,.str [],.int .i64 0,.int .i64 0,.int .i64 0,.int .i64 0,.int .i64 0,.int .i64 0,.int .i64 0,.nils,.str [],.int .i64 0,.int .i64 0]):=congrArg (fun x=>wO x K) (show aF prog 59=some (.agg [.int .i64 0,.str [],.int .i64 0,.str [],.int .i64 0,.int .i64 0,.int .i64 0,.int .i64 0,.int .i64 0,.int .i64 0,.int .i64 0,.nils,.str [],.int .i64 0,.int .i64 0]) by kernel_rfl)
theorem aKv:lD prog 62=true:=by kernel_rfl
theorem aKw:lD prog 71=true:=by kernel_rfl
theorem aGd:lD prog 102=true:=by kernel_rfl
theorem aKx (K:V→Prop):wO (aF prog 212) K=K (.agg [.nili]):=congrArg (fun x=>wO x K) (show aF prog 212=some (.agg [.nili]) by kernel_rfl)
theorem aKy (K:V→Prop):wO (aF prog 220) K=K (.agg [.int .i64 0,.int .i64 0,.str []]):=congrArg (fun x=>wO x K) (show aF prog 220=some (.agg [.int .i64 0,.int .i64 0,.str []]) by kernel_rfl)
theorem aKz (K:V→Prop):wO (aF prog 232) K=K (.nilp):=congrArg (fun x=>wO x K) (show aF prog 232=some (.nilp) by kernel_rfl)
theorem aL0 (K:V→Prop):wO (aF prog 246) K=K (.agg [.int .i64 0,.int .i64 0,.int .i64 0,.int .i64 0,.int .i64 0,.int .i64 0,.int .i64 0,.int .i64 0,.int .i64 0,.int .i64 0,.int .i64 0,.int .i64 0,.int .i64 0,.int .i64 0,.int .i64 0,.int .i64 0,.int .i64 0,.int .i64 0,.int .i64 0,.int .i64 0,.int .i64 0,.int .i64 0,.int .i64 0,.int .i64 0,.int .i64 0,.int .i64 0,.int .i64 0,.int .i64 0,.int .i64 0,.int .i64 0,.int .i64 0,.int .i64 0,.int .i64 0,.int .i64 0,.int .i64 0,.int .i64 0,.int .i64 0,.int .i64 0,.int .i64 0,.int .i64 0]):=congrArg (fun x=>wO x K) (show aF prog 246=some (.agg [.int .i64 0,.int .i64 0,.int .i64 0,.int .i64 0,.int .i64 0,.int .i64 0,.int .i64 0,.int .i64 0,.int .i64 0,.int .i64 0,.int .i64 0,.int .i64 0,.int .i64 0,.int .i64 0,.int .i64 0,.int .i64 0,.int .i64 0,.int .i64 0,.int .i64 0,.int .i64 0,.int .i64 0,.int .i64 0,.int .i64 0,.int .i64 0,.int .i64 0,.int .i64 0,.int .i64 0,.int .i64 0,.int .i64 0,.int .i64 0,.int .i64 0,.int .i64 0,.int .i64 0,.int .i64 0,.int .i64 0,.int .i64 0,.int .i64 0,.int .i64 0,.int .i64 0,.int .i64 0]) by kernel_rfl)
theorem aL1 (K:V→Prop):wO (aF prog 249) K=K (.agg [.int .i64 0,.int .i64 0,.int .i64 0,.int .i64 0,.int .i64 0,.int .i64 0,.int .i64 0,.int .i64 0]):=congrArg (fun x=>wO x K) (show aF prog 249=some (.agg [.int .i64 0,.int .i64 0,.int .i64 0,.int .i64 0,.int .i64 0,.int .i64 0,.int .i64 0,.int .i64 0]) by kernel_rfl)
theorem aP0:lD prog 9=true:=by kernel_rfl
theorem aL2:lD prog 55=true:=by kernel_rfl
theorem aP1 (K:V→Prop):wO (aF prog 82) K=K (.agg [.int .i64 0,.int .i64 0,.int .i64 0,.nils]):=congrArg (fun x=>wO x K) (show aF prog 82=some (.agg [.int .i64 0,.int .i64 0,.int .i64 0,.nils]) by kernel_rfl)
theorem aL3 (K:V→Prop):wO (aF prog 293) K=K (.agg [.str [],.int .i64 0]):=congrArg (fun x=>wO x K) (show aF prog 293=some (.agg [.str [],.int .i64 0]) by kernel_rfl)
theorem aL4 (K:V→Prop):wO (aF prog 295) K=K (.agg [.str []]):=congrArg (fun x=>wO x K) (show aF prog 295=some (.agg [.str []]) by kernel_rfl)
theorem aL5 (K:V→Prop):wO (aF prog 297) K=K (.agg [.str [],.int .i64 0,.int .i64 0,.int .i64 0,.int .i64 0]):=congrArg (fun x=>wO x K) (show aF prog 297=some (.agg [.str [],.int .i64 0,.int .i64 0,.int .i64 0,.int .i64 0]) by kernel_rfl)
theorem aL6 (K:V→Prop):wO (aF prog 301) K=K (.agg [.str [],.int .i64 0,.int .i64 0,.int .i64 0,.nils]):=congrArg (fun x=>wO x K) (show aF prog 301=some (.agg [.str [],.int .i64 0,.int .i64 0,.int .i64 0,.nils]) by kernel_rfl)
theorem aL7 (K:V→Prop):wO (aF prog 304) K=K (.agg [.str [],.int .i64 0,.int .i64 0,.int .i64 0,.str [],.int .i64 0]):=congrArg (fun x=>wO x K) (show aF prog 304=some (.agg [.str [],.int .i64 0,.int .i64 0,.int .i64 0,.str [],.int .i64 0]) by kernel_rfl)
theorem aL8 (K:V→Prop):wO (aF prog 306) K=K (.agg [.int .i64 0]):=congrArg (fun x=>wO x K) (show aF prog 306=some (.agg [.int .i64 0]) by kernel_rfl)
theorem aL9 (K:V→Prop):wO (aF prog 307) K=K (.agg [.str []]):=congrArg (fun x=>wO x K) (show aF prog 307=some (.agg [.str []]) by kernel_rfl)
theorem aP2 (K:V→Prop):wO (aF prog 90) K=K (.agg [.str [],.int .i64 0]):=congrArg (fun x=>wO x K) (show aF prog 90=some (.agg [.str [],.int .i64 0]) by kernel_rfl)
theorem rg9:wH prog 9=true:=by kernel_rfl
theorem aLa (K:V→Prop):wO (aF prog 201) K=K (.agg [.str [],.str [],.int .i64 0,.int .i64 0]):=congrArg (fun x=>wO x K) (show aF prog 201=some (.agg [.str [],.str [],.int .i64 0,.int .i64 0]) by kernel_rfl)
theorem aLb (K:V→Prop):wO (aF prog 346) K=K (.agg [.int .i64 0,.int .u64 0]):=congrArg (fun x=>wO x K) (show aF prog 346=some (.agg [.int .i64 0,.int .u64 0]) by kernel_rfl)
theorem aJa (f:FuncId) {a b:List V} {S T:St} (K:KW) (h:a=b) (g:S=T):C f a S K=C f b T K:=by rw [h,g]
attribute [congr] aJa
theorem cw:type_of% (A2 (aBk prog) <| A2 (aBi prog C) <| A2 (aBf prog C) <| A2 aBj <| A2 aBc <| A2 aBd <| A2 aKd <| A2 (uY prog C) <| A2 (uZ prog C) <| A2 (aG1 prog C) <| A2 @aOp <| A2 @aK7 <| A2 @aFr <| A2 @aK8 <| A2 @aFt <| A2 @aFz <| A2 @aOq <| A2 @aKa <| A2 @aKb <| A2 @aFv <| A2 @aKc <| A2 @aFx <| A2 @aFy <| A2 @aBh <| A2 @yS <| A2 @uX <| A2 vB <| A2 uV <| A2 @aK4 <| A2 @aKe <| A2 @aKf <| A2 @aKg <| A2 @aKh <| A2 yT <| A2 aOs <| A2 aOt <| A2 aKi <| A2 aOu <| A2 aKj <| A2 aOv <| A2 aKk <| A2 aKl <| A2 aKm <| A2 aOw <| A2 aOx <| A2 aKn <| A2 aKo <| A2 aKp <| A2 aOy <| A2 aKq <| A2 aKr <| A2 aKs <| A2 aKt <| A2 aKu <| A2 aOz <| A2 aKv <| A2 aKw <| A2 aGd <| A2 aKx <| A2 aKy <| A2 aKz <| A2 aL0 <| A2 aL1 <| A2 aP0 <| A2 aL2 <| A2 aP1 <| A2 aL3 <| A2 aL4 <| A2 aL5 <| A2 aL6 <| A2 aL7 <| A2 aL8 <| A2 aL9 <| A2 aP2 <| A2 rg9 <| A2 aLa <| aLb):=A2 (aBk prog) <| A2 (aBi prog C) <| A2 (aBf prog C) <| A2 aBj <| A2 aBc <| A2 aBd <| A2 aKd <| A2 (uY prog C) <| A2 (uZ prog C) <| A2 (aG1 prog C) <| A2 @aOp <| A2 @aK7 <| A2 @aFr <| A2 @aK8 <| A2 @aFt <| A2 @aFz <| A2 @aOq <| A2 @aKa <| A2 @aKb <| A2 @aFv <| A2 @aKc <| A2 @aFx <| A2 @aFy <| A2 @aBh <| A2 @yS <| A2 @uX <| A2 vB <| A2 uV <| A2 @aK4 <| A2 @aKe <| A2 @aKf <| A2 @aKg <| A2 @aKh <| A2 yT <| A2 aOs <| A2 aOt <| A2 aKi <| A2 aOu <| A2 aKj <| A2 aOv <| A2 aKk <| A2 aKl <| A2 aKm <| A2 aOw <| A2 aOx <| A2 aKn <| A2 aKo <| A2 aKp <| A2 aOy <| A2 aKq <| A2 aKr <| A2 aKs <| A2 aKt <| A2 aKu <| A2 aOz <| A2 aKv <| A2 aKw <| A2 aGd <| A2 aKx <| A2 aKy <| A2 aKz <| A2 aL0 <| A2 aL1 <| A2 aP0 <| A2 aL2 <| A2 aP1 <| A2 aL3 <| A2 aL4 <| A2 aL5 <| A2 aL6 <| A2 aL7 <| A2 aL8 <| A2 aL9 <| A2 aP2 <| A2 rg9 <| A2 aLa <| aLb
end
def qL (t:TypeId) (p:V) (S:St) (K:V→Prop):Prop:=wR (gA prog t p S) K
def qF (s:TypeId) (p:V) (f:Nat) (K:V→Prop):Prop:=wR (bX prog s p f) K
def qE (s:TypeId) (p:V) (f:Nat) (t:TypeId) (S:St) (K:V→Prop):Prop:=wR (bX prog s p f) fun q=>wR (gA prog t q S) K
def qX (t:TypeId) (v i:V) (K:V→Prop):Prop:=wR (cL prog t v i) K
def qS (t:TypeId) (p x:V) (S:St) (K:St→Prop):Prop:=wR (iQ prog t p x S) K
def qZ (t:TypeId) (x:V) (S:St) (K:V→Prop):Prop:=wR (oO prog t x S) K
def qB (o:BinOp) (t:TypeId) (x y:V) (K:V→Prop):Prop:=wR (aZ prog o t x y) K
def qG (o:BinOp) (t:TypeId) (x y:V) (K:V→Prop):Prop:=oN (aU prog t x y) (wR (aZ prog o t x y) K)
def qD (t:TypeId) (l:List (Nat×V)) (K:V→Prop):Prop:=wR (iR prog t l) K
def qP (t:TypeId) (s x:V) (r:Option Nat) (S:St) (K:V×St→Prop):Prop:=wR (cX prog t s x r S) K
def qQ (t:TypeId) (n:Nat) (l:List (Nat×V)) (r:Option Nat) (S:St) (K:V×St→Prop):Prop:=wR (bM prog t n l r S) K
def qA (a:V) (S:St) (K:Nat×St→Prop):Prop:=oN (aP a.cells) (wR (aV none S (.row 0 a.cells.length [a.cells])) K)
def qN (S:St) (n:Nat) (c:List V) (K:Nat×St→Prop):Prop:=wR (aV none S (.row 0 n [c])) K
def pt (r:Nat×St):V:=.ptr r.1 0 0 0
def up (S:St) (n:Nat):St:=⟨S.next+n,S.heap⟩
def jI (n:Int):V:=.int .i64 n
theorem sf:(∀ (t:TypeId) (p:V) (S:St) (K:V→Prop),qL t p S K=(wR (gA prog t p S) K))∧(∀ (s:TypeId) (p:V) (f:Nat) (K:V→Prop),qF s p f K=(wR (bX prog s p f) K))∧(∀ (s:TypeId) (p:V) (f:Nat) (t:TypeId) (S:St) (K:V→Prop),qE s p f t S K=(wR (bX prog s p f) fun q=>wR (gA prog t q S) K))∧(∀ (t:TypeId) (v i:V) (K:V→Prop),qX t v i K=(wR (cL prog t v i) K))∧(∀ (t:TypeId) (p x:V) (S:St) (K:St→Prop),qS t p x S K=(wR (iQ prog t p x S) K))∧(∀ (t:TypeId) (x:V) (S:St) (K:V→Prop),qZ t x S K=(wR (oO prog t x S) K))∧(∀ (o:BinOp) (t:TypeId) (x y:V) (K:V→Prop),qB o t x y K=(wR (aZ prog o t x y) K))∧(∀ (o:BinOp) (t:TypeId) (x y:V) (K:V→Prop),qG o t x y K=(oN (aU prog t x y) (wR (aZ prog o t x y) K)))∧(∀ (t:TypeId) (l:List (Nat×V)) (K:V→Prop),qD t l K=(wR (iR prog t l) K))∧(∀ (t:TypeId) (s x:V) (r:Option Nat) (S:St) (K:V×St→Prop),qP t s x r S K=(wR (cX prog t s x r S) K))∧(∀ (t:TypeId) (n:Nat) (l:List (Nat×V)) (r:Option Nat) (S:St) (K:V×St→Prop),qQ t n l r S K=(wR (bM prog t n l r S) K))∧(∀ (a:V) (S:St) (K:Nat×St→Prop),qA a S K=(oN (aP a.cells) (wR (aV none S (.row 0 a.cells.length [a.cells])) K)))∧(∀ (S:St) (n:Nat) (c:List V) (K:Nat×St→Prop),qN S n c K=(wR (aV none S (.row 0 n [c])) K))∧(∀ (r:Nat×St),pt r=.ptr r.1 0 0 0)∧(∀ (S:St) (n:Nat),up S n=⟨S.next+n,S.heap⟩)∧(∀ (n:Int),jI n=.int .i64 n):=⟨fun _ _ _ _=>rfl,fun _ _ _ _=>rfl,fun _ _ _ _ _ _=>rfl,fun _ _ _ _=>rfl,fun _ _ _ _ _=>rfl,fun _ _ _ _=>rfl,fun _ _ _ _ _=>rfl,fun _ _ _ _ _=>rfl,fun _ _ _=>rfl,fun _ _ _ _ _ _=>rfl,fun _ _ _ _ _ _=>rfl,fun _ _ _=>rfl,fun _ _ _ _=>rfl,fun _=>rfl,fun _ _=>rfl,fun _=>rfl⟩
abbrev App (T n b:Nat):Prop:=∀ (s x:V) (fr:Option Nat) (S:St),cX prog T s x fr S=iW n b s x fr S
abbrev Bd (T:Nat) (z:List V) (pl:List (Nat×Nat)):Prop:=∀ parts:List (Nat×V),iR prog T parts=mP z pl parts
abbrev Bs (T n:Nat) (z:List V):Prop:=∀ (len:Nat) (parts:List (Nat×V)) (fr:Option Nat) (S:St),bM prog T len parts fr S=dM n z len parts fr S
abbrev Cv (s d:Nat) (k:IntKind):Prop:=∀ (j:IntKind) (n:Int) (fr:Option Nat) (S:St),bP prog s d (.int j n) fr S=.ok (.int k (wr k n),S)
abbrev Fa (s f o:Nat):Prop:=∀ p:V,bX prog s p f=aIn o p
abbrev Ix (T n:Nat):Prop:=∀ x i:V,cL prog T x i=tL n x i
abbrev Ld (T:Nat) (k:Option Nat):Prop:=∀ (p:V) (S:St),gA prog T p S=uS k p S
abbrev Ln (T:Nat):Prop:=∀ (x:V) (S:St),oO prog T x S=aFh x
abbrev Sl_ (T n:Nat):Prop:=∀ (a ver off len:Nat) (lo hi:Option V),eK prog T (.sl a ver n off len) lo hi=(match eA len lo hi with
  | .ok (l,h)=>.ok (.sl a ver n (off+l) (h - l))
  | .error e=>.error e)
abbrev Si (T n:Nat):Prop:=∀ (es:List (List V)) (hl:fU n es=true) (lo hi:Option V),eK prog T (.imm es) lo hi=(match eA es.length lo hi with
  | .ok (l,h)=>.ok (.imm ((es.take h).drop l))
  | .error e=>.error e)
abbrev Sr (T n:Nat):Prop:=∀ (p x:V) (S:St),iQ prog T p x S=lC n p x S
theorem aGf:App 102 23 224:=bQ (by kernel_rfl)
theorem aLc:App 22 1 1:=bQ (by kernel_rfl)
theorem aLd:App 24 5 48:=bQ (by kernel_rfl)
theorem aLe:App 25 4 40:=bQ (by kernel_rfl)
theorem aLf:App 26 12 128:=bQ (by kernel_rfl)
theorem aLg:App 27 2 24:=bQ (by kernel_rfl)
theorem aLh:App 28 5 40:=bQ (by kernel_rfl)
theorem aLi:App 44 17 176:=bQ (by kernel_rfl)
theorem aLj:App 55 4 48:=bQ (by kernel_rfl)
theorem aLk:App 62 3 24:=bQ (by kernel_rfl)
theorem aLl:App 71 4 40:=bQ (by kernel_rfl)
theorem aLm:App 80 4 40:=bQ (by kernel_rfl)
theorem aLn:App 96 1 8:=bQ (by kernel_rfl)
theorem aLo:App 97 23 224:=bQ (by kernel_rfl)
theorem aLp:Bd 126 [.str [],.int .i64 0,.int .i64 0,.bool false] [(0,1),(1,1),(2,1),(3,1)]:=aK (by kernel_rfl)
theorem aLq:Bd 132 [.int .i64 0,.int .i64 0,.int .i64 0,.int .i64 0,.int .i64 0] [(0,1),(1,1),(2,3)]:=aK (by kernel_rfl)
theorem aLr:Bd 142 [.nils,.int .i64 0,.int .i64 0] [(0,1),(1,1),(2,1)]:=aK (by kernel_rfl)
theorem aLs:Bd 145 [.str [],.int .i64 0,.int .i64 0,.int .i64 0] [(0,1),(1,1),(2,1),(3,1)]:=aK (by kernel_rfl)
theorem aLt:Bd 160 [.nils] [(0,1)]:=aK (by kernel_rfl)
theorem aLu:Bd 201 [.str [],.str [],.int .i64 0,.int .i64 0] [(0,1),(1,1),(2,1),(3,1)]:=aK (by kernel_rfl)
theorem aLv:Bd 207 [.int .i64 0,.int .i64 0,.int .i64 0,.str [],.int .i64 0,.str [],.int .i64 0,.int .i64 0,.int .i64 0,.int .i64 0,.int .i64 0,.int .i64 0,.int .i64 0,.nils,.str [],.int .i64 0,.int .i64 0,.int .i64 0,.int .i64 0,.int .i64 0,.int .i64 0,.int .i64 0,.int .i64 0] [(0,17),(17,1),(18,1),(19,1),(20,3)]:=aK (by kernel_rfl)
theorem aLw:Bd 212 [.nili] [(0,1)]:=aK (by kernel_rfl)
theorem aLx:Bd 225 [.nils,.int .i64 0,.int .i64 0] [(0,1),(1,1),(2,1)]:=aK (by kernel_rfl)
theorem aLy:Bd 287 [.nils,.bool false] [(0,1),(1,1)]:=aK (by kernel_rfl)
theorem aP3:Bd 30 [.nils,.nils,.nils,.nils,.nils,.int .i64 0] [(0,1),(1,1),(2,1),(3,1),(4,1),(5,1)]:=aK (by kernel_rfl)
theorem aLz:Bd 346 [.int .i64 0,.int .u64 0] [(0,1),(1,1)]:=aK (by kernel_rfl)
theorem aP4:Bd 48 [.int .i64 0,.int .i64 0,.int .i64 0] [(0,1),(1,1),(2,1)]:=aK (by kernel_rfl)
theorem aP5:Bd 52 [.int .i64 0,.int .i64 0,.int .i64 0] [(0,1),(1,1),(2,1)]:=aK (by kernel_rfl)
theorem aP6:Bd 54 [.str [],.int .i64 0,.int .i64 0,.int .i64 0,.int .i64 0] [(0,1),(1,3),(4,1)]:=aK (by kernel_rfl)
theorem aP7:Bd 57 [.str [],.int .i64 0] [(0,1),(1,1)]:=aK (by kernel_rfl)
theorem aP8:Bd 59 [.int .i64 0,.str [],.int .i64 0,.str [],.int .i64 0,.int .i64 0,.int .i64 0,.int .i64 0,.int .i64 0,.int .i64 0,.int .i64 0,.nils,.str [],.int .i64 0,.int .i64 0] [(0,1),(1,1),(2,1),(3,5),(8,3),(11,1),(12,2),(14,1)]:=aK (by kernel_rfl)
theorem aP9:Bd 61 [.int .i64 0,.int .i64 0,.int .i64 0,.str [],.int .i64 0,.str [],.int .i64 0,.int .i64 0,.int .i64 0,.int .i64 0,.int .i64 0,.int .i64 0,.int .i64 0,.nils,.str [],.int .i64 0,.int .i64 0] [(0,1),(1,1),(2,15)]:=aK (by kernel_rfl)
theorem aPa:Bd 76 [.str [],.int .i64 0,.int .i64 0,.int .i64 0] [(0,1),(1,1),(2,1),(3,1)]:=aK (by kernel_rfl)
theorem aPb:Bd 77 [.str [],.int .i64 0,.int .i64 0,.int .i64 0] [(0,1),(1,1),(2,1),(3,1)]:=aK (by kernel_rfl)
theorem aPc:Bd 82 [.int .i64 0,.int .i64 0,.int .i64 0,.nils] [(0,1),(1,1),(2,1),(3,1)]:=aK (by kernel_rfl)
theorem aPd:Bd 84 [.str [],.int .i64 0,.int .i64 0,.int .i64 0,.int .i64 0,.int .i64 0,.int .i64 0,.int .i64 0,.nils,.str [],.int .i64 0,.bool false] [(0,2),(2,3),(5,4),(9,2),(11,1)]:=aK (by kernel_rfl)
theorem aPe:Bd 90 [.str [],.int .i64 0] [(0,1),(1,1)]:=aK (by kernel_rfl)
theorem aPf:Bd 99 [.int .i64 0,.int .i64 0,.int .i64 0,.str [],.int .i64 0,.str [],.int .i64 0,.int .i64 0,.int .i64 0,.int .i64 0,.int .i64 0,.int .i64 0,.int .i64 0,.nils,.str [],.int .i64 0,.int .i64 0,.int .i64 0,.int .i64 0,.int .i64 0,.int .i64 0,.int .i64 0,.int .i64 0] [(0,17),(17,1),(18,1),(19,1),(20,3)]:=aK (by kernel_rfl)
theorem aM0:Bs 102 23 [.int .i64 0,.int .i64 0,.int .i64 0,.str [],.int .i64 0,.str [],.int .i64 0,.int .i64 0,.int .i64 0,.int .i64 0,.int .i64 0,.int .i64 0,.int .i64 0,.nils,.str [],.int .i64 0,.int .i64 0,.int .i64 0,.int .i64 0,.int .i64 0,.int .i64 0,.int .i64 0,.int .i64 0]:=aQ (by kernel_rfl)
theorem aPg:Bs 22 1 [.int .u8 0]:=aQ (by kernel_rfl)
theorem aPh:Bs 24 5 [.str [],.int .i64 0,.int .i64 0,.int .i64 0,.int .i64 0]:=aQ (by kernel_rfl)
theorem aPi:Bs 25 4 [.str [],.int .i64 0,.int .i64 0,.bool false]:=aQ (by kernel_rfl)
theorem aPj:Bs 26 12 [.str [],.int .i64 0,.int .i64 0,.int .i64 0,.int .i64 0,.int .i64 0,.int .i64 0,.int .i64 0,.nils,.str [],.int .i64 0,.bool false]:=aQ (by kernel_rfl)
theorem aPk:Bs 27 2 [.str [],.int .i64 0]:=aQ (by kernel_rfl)
theorem aPl:Bs 28 5 [.int .i64 0,.int .i64 0,.int .i64 0,.int .i64 0,.int .i64 0]:=aQ (by kernel_rfl)
theorem aM1:Bs 361 1 [.nilp]:=aQ (by kernel_rfl)
theorem aM2:Bs 364 1 [.str []]:=aQ (by kernel_rfl)
theorem aPm:Bs 44 17 [.int .i64 0,.int .i64 0,.int .i64 0,.str [],.int .i64 0,.str [],.int .i64 0,.int .i64 0,.int .i64 0,.int .i64 0,.int .i64 0,.int .i64 0,.int .i64 0,.nils,.str [],.int .i64 0,.int .i64 0]:=aQ (by kernel_rfl)
theorem aPn:Bs 55 4 [.str [],.str [],.int .i64 0,.int .i64 0]:=aQ (by kernel_rfl)
theorem aPo:Bs 62 3 [.int .i64 0,.int .i64 0,.int .i64 0]:=aQ (by kernel_rfl)
theorem aPp:Bs 68 4 [.str [],.int .i64 0,.int .i64 0,.int .i64 0]:=aQ (by kernel_rfl)
theorem aPq:Bs 71 4 [.str [],.int .i64 0,.int .i64 0,.int .i64 0]:=aQ (by kernel_rfl)
theorem aPr:Bs 80 4 [.str [],.int .i64 0,.int .i64 0,.int .i64 0]:=aQ (by kernel_rfl)
theorem aPs:Bs 96 1 [.int .i64 0]:=aQ (by kernel_rfl)
theorem aPt:Bs 97 23 [.int .i64 0,.int .i64 0,.int .i64 0,.str [],.int .i64 0,.str [],.int .i64 0,.int .i64 0,.int .i64 0,.int .i64 0,.int .i64 0,.int .i64 0,.int .i64 0,.nils,.str [],.int .i64 0,.int .i64 0,.int .i64 0,.int .i64 0,.int .i64 0,.int .i64 0,.int .i64 0,.int .i64 0]:=aQ (by kernel_rfl)
theorem aBt:Cv 229 3 .i64:=fS (by kernel_rfl)
theorem aBu:Cv 229 5 .u8:=fS (by kernel_rfl)
theorem aBv:Cv 3 229 .u64:=fS (by kernel_rfl)
theorem aBw:Cv 3 231 .u64:=fS (by kernel_rfl)
theorem aBx:Cv 5 229 .u64:=fS (by kernel_rfl)
theorem aNx:(fun (a_0:List UInt8) (a_1:Int) (a_2:Int) (a_3:Bool) (b_0:List UInt8) (b_1:Int) (b_2:Int) (b_3:Bool)=>kM prog 100 126 (.agg [.str a_0,.int .i64 a_1,.int .i64 a_2,.bool a_3]) (.agg [.str b_0,.int .i64 b_1,.int .i64 b_2,.bool b_3]))=fun a_0 a_1 a_2 a_3 b_0 b_1 b_2 b_3=>(cT (.ok (jN a_0 b_0)) (cT (.ok (decide (a_1=b_1))) (cT (.ok (decide (a_2=b_2))) (cT (.ok (a_3 == b_3)) (.ok true))))):=by kernel_rfl
theorem aM3 (a_0:List UInt8) (a_1:Int) (a_2:Int) (a_3:Bool) (b_0:List UInt8) (b_1:Int) (b_2:Int) (b_3:Bool):kM prog 100 126 (.agg [.str a_0,.int .i64 a_1,.int .i64 a_2,.bool a_3]) (.agg [.str b_0,.int .i64 b_1,.int .i64 b_2,.bool b_3])=.ok ((a_0 == b_0)&&decide (a_1=b_1)&&decide (a_2=b_2)&&(a_3 == b_3)):=by
 refine (congrFun (congrFun (congrFun (congrFun (congrFun (congrFun (congrFun (congrFun aNx a_0) a_1) a_2) a_3) b_0) b_1) b_2) b_3).trans ?_
 simp only [eT,bR,Bool.and_true,Bool.and_assoc]
theorem aPu:(fun a b=>aU prog 126 (.agg a) (.agg b))=fun _ _=>true:=by kernel_rfl
theorem aM4 (a b:List V):aU prog 126 (.agg a) (.agg b)=true:=congrFun (congrFun aPu a) b
theorem aNy:(fun (a_0:Int) (a_1:Int) (a_2_0:Int) (a_2_1:Int) (a_2_2:Int) (b_0:Int) (b_1:Int) (b_2_0:Int) (b_2_1:Int) (b_2_2:Int)=>kM prog 100 132 (.agg [.int .i64 a_0,.int .i64 a_1,.int .i64 a_2_0,.int .i64 a_2_1,.int .i64 a_2_2]) (.agg [.int .i64 b_0,.int .i64 b_1,.int .i64 b_2_0,.int .i64 b_2_1,.int .i64 b_2_2]))=fun a_0 a_1 a_2_0 a_2_1 a_2_2 b_0 b_1 b_2_0 b_2_1 b_2_2=>(cT (.ok (decide (a_0=b_0))) (cT (.ok (decide (a_1=b_1))) (cT (cT (.ok (decide (a_2_0=b_2_0))) (cT (.ok (decide (a_2_1=b_2_1))) (cT (.ok (decide (a_2_2=b_2_2))) (.ok true)))) (.ok true)))):=by kernel_rfl
theorem aM5 (a_0:Int) (a_1:Int) (a_2_0:Int) (a_2_1:Int) (a_2_2:Int) (b_0:Int) (b_1:Int) (b_2_0:Int) (b_2_1:Int) (b_2_2:Int):kM prog 100 132 (.agg [.int .i64 a_0,.int .i64 a_1,.int .i64 a_2_0,.int .i64 a_2_1,.int .i64 a_2_2]) (.agg [.int .i64 b_0,.int .i64 b_1,.int .i64 b_2_0,.int .i64 b_2_1,.int .i64 b_2_2])=.ok (decide (a_0=b_0)&&decide (a_1=b_1)&&decide (a_2_0=b_2_0)&&decide (a_2_1=b_2_1)&&decide (a_2_2=b_2_2)):=by
 refine (congrFun (congrFun (congrFun (congrFun (congrFun (congrFun (congrFun (congrFun (congrFun (congrFun aNy a_0) a_1) a_2_0) a_2_1) a_2_2) b_0) b_1) b_2_0) b_2_1) b_2_2).trans ?_
 simp only [eT,bR,Bool.and_true,Bool.and_assoc]
theorem aPv:(fun a b=>aU prog 132 (.agg a) (.agg b))=fun _ _=>true:=by kernel_rfl
theorem aM6 (a b:List V):aU prog 132 (.agg a) (.agg b)=true:=congrFun (congrFun aPv a) b
theorem aNz:(fun (a_0:List UInt8) (a_1:Int) (a_2:Int) (a_3:Int) (b_0:List UInt8) (b_1:Int) (b_2:Int) (b_3:Int)=>kM prog 100 145 (.agg [.str a_0,.int .i64 a_1,.int .i64 a_2,.int .i64 a_3]) (.agg [.str b_0,.int .i64 b_1,.int .i64 b_2,.int .i64 b_3]))=fun a_0 a_1 a_2 a_3 b_0 b_1 b_2 b_3=>(cT (.ok (jN a_0 b_0)) (cT (.ok (decide (a_1=b_1))) (cT (.ok (decide (a_2=b_2))) (cT (.ok (decide (a_3=b_3))) (.ok true))))):=by kernel_rfl
theorem aM7 (a_0:List UInt8) (a_1:Int) (a_2:Int) (a_3:Int) (b_0:List UInt8) (b_1:Int) (b_2:Int) (b_3:Int):kM prog 100 145 (.agg [.str a_0,.int .i64 a_1,.int .i64 a_2,.int .i64 a_3]) (.agg [.str b_0,.int .i64 b_1,.int .i64 b_2,.int .i64 b_3])=.ok ((a_0 == b_0)&&decide (a_1=b_1)&&decide (a_2=b_2)&&decide (a_3=b_3)):=by
 refine (congrFun (congrFun (congrFun (congrFun (congrFun (congrFun (congrFun (congrFun aNz a_0) a_1) a_2) a_3) b_0) b_1) b_2) b_3).trans ?_
 simp only [eT,bR,Bool.and_true,Bool.and_assoc]
theorem aPw:(fun a b=>aU prog 145 (.agg a) (.agg b))=fun _ _=>true:=by kernel_rfl
theorem aM8 (a b:List V):aU prog 145 (.agg a) (.agg b)=true:=congrFun (congrFun aPw a) b
theorem aO0:(fun (a_0:List UInt8) (a_1:List UInt8) (a_2:Int) (a_3:Int) (b_0:List UInt8) (b_1:List UInt8) (b_2:Int) (b_3:Int)=>kM prog 100 201 (.agg [.str a_0,.str a_1,.int .i64 a_2,.int .i64 a_3]) (.agg [.str b_0,.str b_1,.int .i64 b_2,.int .i64 b_3]))=fun a_0 a_1 a_2 a_3 b_0 b_1 b_2 b_3=>(cT (.ok (jN a_0 b_0)) (cT (.ok (jN a_1 b_1)) (cT (.ok (decide (a_2=b_2))) (cT (.ok (decide (a_3=b_3))) (.ok true))))):=by kernel_rfl
theorem aM9 (a_0:List UInt8) (a_1:List UInt8) (a_2:Int) (a_3:Int) (b_0:List UInt8) (b_1:List UInt8) (b_2:Int) (b_3:Int):kM prog 100 201 (.agg [.str a_0,.str a_1,.int .i64 a_2,.int .i64 a_3]) (.agg [.str b_0,.str b_1,.int .i64 b_2,.int .i64 b_3])=.ok ((a_0 == b_0)&&(a_1 == b_1)&&decide (a_2=b_2)&&decide (a_3=b_3)):=by
 refine (congrFun (congrFun (congrFun (congrFun (congrFun (congrFun (congrFun (congrFun aO0 a_0) a_1) a_2) a_3) b_0) b_1) b_2) b_3).trans ?_
 simp only [eT,bR,Bool.and_true,Bool.and_assoc]
theorem aPx:(fun a b=>aU prog 201 (.agg a) (.agg b))=fun _ _=>true:=by kernel_rfl
theorem aMa (a b:List V):aU prog 201 (.agg a) (.agg b)=true:=congrFun (congrFun aPx a) b
theorem aO1:(fun (a_0:Int) (a_1:Int) (b_0:Int) (b_1:Int)=>kM prog 100 346 (.agg [.int .i64 a_0,.int .u64 a_1]) (.agg [.int .i64 b_0,.int .u64 b_1]))=fun a_0 a_1 b_0 b_1=>(cT (.ok (decide (a_0=b_0))) (cT (.ok (decide (a_1=b_1))) (.ok true))):=by kernel_rfl
theorem aMb (a_0:Int) (a_1:Int) (b_0:Int) (b_1:Int):kM prog 100 346 (.agg [.int .i64 a_0,.int .u64 a_1]) (.agg [.int .i64 b_0,.int .u64 b_1])=.ok (decide (a_0=b_0)&&decide (a_1=b_1)):=by
 refine (congrFun (congrFun (congrFun (congrFun aO1 a_0) a_1) b_0) b_1).trans ?_
 simp only [eT,bR,Bool.and_true,Bool.and_assoc]
theorem aPy:(fun a b=>aU prog 346 (.agg a) (.agg b))=fun _ _=>true:=by kernel_rfl
theorem aMc (a b:List V):aU prog 346 (.agg a) (.agg b)=true:=congrFun (congrFun aPy a) b
theorem aPz:(fun (a_0:Int) (a_1:Int) (a_2:Int) (b_0:Int) (b_1:Int) (b_2:Int)=>kM prog 100 48 (.agg [.int .i64 a_0,.int .i64 a_1,.int .i64 a_2]) (.agg [.int .i64 b_0,.int .i64 b_1,.int .i64 b_2]))=fun a_0 a_1 a_2 b_0 b_1 b_2=>(cT (.ok (decide (a_0=b_0))) (cT (.ok (decide (a_1=b_1))) (cT (.ok (decide (a_2=b_2))) (.ok true)))):=by kernel_rfl
theorem aQ0 (a_0:Int) (a_1:Int) (a_2:Int) (b_0:Int) (b_1:Int) (b_2:Int):kM prog 100 48 (.agg [.int .i64 a_0,.int .i64 a_1,.int .i64 a_2]) (.agg [.int .i64 b_0,.int .i64 b_1,.int .i64 b_2])=.ok (decide (a_0=b_0)&&decide (a_1=b_1)&&decide (a_2=b_2)):=by
 refine (congrFun (congrFun (congrFun (congrFun (congrFun (congrFun aPz a_0) a_1) a_2) b_0) b_1) b_2).trans ?_
 simp only [eT,bR,Bool.and_true,Bool.and_assoc]
theorem aUa:(fun a b=>aU prog 48 (.agg a) (.agg b))=fun _ _=>true:=by kernel_rfl
theorem aQ1 (a b:List V):aU prog 48 (.agg a) (.agg b)=true:=congrFun (congrFun aUa a) b
theorem aQ2:(fun (a_0:Int) (a_1:Int) (a_2:Int) (b_0:Int) (b_1:Int) (b_2:Int)=>kM prog 100 52 (.agg [.int .i64 a_0,.int .i64 a_1,.int .i64 a_2]) (.agg [.int .i64 b_0,.int .i64 b_1,.int .i64 b_2]))=fun a_0 a_1 a_2 b_0 b_1 b_2=>(cT (.ok (decide (a_0=b_0))) (cT (.ok (decide (a_1=b_1))) (cT (.ok (decide (a_2=b_2))) (.ok true)))):=by kernel_rfl
theorem aQ3 (a_0:Int) (a_1:Int) (a_2:Int) (b_0:Int) (b_1:Int) (b_2:Int):kM prog 100 52 (.agg [.int .i64 a_0,.int .i64 a_1,.int .i64 a_2]) (.agg [.int .i64 b_0,.int .i64 b_1,.int .i64 b_2])=.ok (decide (a_0=b_0)&&decide (a_1=b_1)&&decide (a_2=b_2)):=by
 refine (congrFun (congrFun (congrFun (congrFun (congrFun (congrFun aQ2 a_0) a_1) a_2) b_0) b_1) b_2).trans ?_
 simp only [eT,bR,Bool.and_true,Bool.and_assoc]
theorem aUb:(fun a b=>aU prog 52 (.agg a) (.agg b))=fun _ _=>true:=by kernel_rfl
theorem aQ4 (a b:List V):aU prog 52 (.agg a) (.agg b)=true:=congrFun (congrFun aUb a) b
theorem aQ5:(fun (a_0:List UInt8) (a_1_0:Int) (a_1_1:Int) (a_1_2:Int) (a_2:Int) (b_0:List UInt8) (b_1_0:Int) (b_1_1:Int) (b_1_2:Int) (b_2:Int)=>kM prog 100 54 (.agg [.str a_0,.int .i64 a_1_0,.int .i64 a_1_1,.int .i64 a_1_2,.int .i64 a_2]) (.agg [.str b_0,.int .i64 b_1_0,.int .i64 b_1_1,.int .i64 b_1_2,.int .i64 b_2]))=fun a_0 a_1_0 a_1_1 a_1_2 a_2 b_0 b_1_0 b_1_1 b_1_2 b_2=>(cT (.ok (jN a_0 b_0)) (cT (cT (.ok (decide (a_1_0=b_1_0))) (cT (.ok (decide (a_1_1=b_1_1))) (cT (.ok (decide (a_1_2=b_1_2))) (.ok true)))) (cT (.ok (decide (a_2=b_2))) (.ok true)))):=by kernel_rfl
theorem aQ6 (a_0:List UInt8) (a_1_0:Int) (a_1_1:Int) (a_1_2:Int) (a_2:Int) (b_0:List UInt8) (b_1_0:Int) (b_1_1:Int) (b_1_2:Int) (b_2:Int):kM prog 100 54 (.agg [.str a_0,.int .i64 a_1_0,.int .i64 a_1_1,.int .i64 a_1_2,.int .i64 a_2]) (.agg [.str b_0,.int .i64 b_1_0,.int .i64 b_1_1,.int .i64 b_1_2,.int .i64 b_2])=.ok ((a_0 == b_0)&&decide (a_1_0=b_1_0)&&decide (a_1_1=b_1_1)&&decide (a_1_2=b_1_2)&&decide (a_2=b_2)):=by
 refine (congrFun (congrFun (congrFun (congrFun (congrFun (congrFun (congrFun (congrFun (congrFun (congrFun aQ5 a_0) a_1_0) a_1_1) a_1_2) a_2) b_0) b_1_0) b_1_1) b_1_2) b_2).trans ?_
 simp only [eT,bR,Bool.and_true,Bool.and_assoc]
theorem aUc:(fun a b=>aU prog 54 (.agg a) (.agg b))=fun _ _=>true:=by kernel_rfl
theorem aQ7 (a b:List V):aU prog 54 (.agg a) (.agg b)=true:=congrFun (congrFun aUc a) b
theorem aQ8:(fun (a_0:List UInt8) (a_1:Int) (b_0:List UInt8) (b_1:Int)=>kM prog 100 57 (.agg [.str a_0,.int .i64 a_1]) (.agg [.str b_0,.int .i64 b_1]))=fun a_0 a_1 b_0 b_1=>(cT (.ok (jN a_0 b_0)) (cT (.ok (decide (a_1=b_1))) (.ok true))):=by kernel_rfl
theorem aQ9 (a_0:List UInt8) (a_1:Int) (b_0:List UInt8) (b_1:Int):kM prog 100 57 (.agg [.str a_0,.int .i64 a_1]) (.agg [.str b_0,.int .i64 b_1])=.ok ((a_0 == b_0)&&decide (a_1=b_1)):=by
 refine (congrFun (congrFun (congrFun (congrFun aQ8 a_0) a_1) b_0) b_1).trans ?_
 simp only [eT,bR,Bool.and_true,Bool.and_assoc]
theorem aUd:(fun a b=>aU prog 57 (.agg a) (.agg b))=fun _ _=>true:=by kernel_rfl
theorem aQa (a b:List V):aU prog 57 (.agg a) (.agg b)=true:=congrFun (congrFun aUd a) b
theorem aQb:(fun (a_0:List UInt8) (a_1:Int) (a_2:Int) (a_3:Int) (b_0:List UInt8) (b_1:Int) (b_2:Int) (b_3:Int)=>kM prog 100 76 (.agg [.str a_0,.int .i64 a_1,.int .i64 a_2,.int .i64 a_3]) (.agg [.str b_0,.int .i64 b_1,.int .i64 b_2,.int .i64 b_3]))=fun a_0 a_1 a_2 a_3 b_0 b_1 b_2 b_3=>(cT (.ok (jN a_0 b_0)) (cT (.ok (decide (a_1=b_1))) (cT (.ok (decide (a_2=b_2))) (cT (.ok (decide (a_3=b_3))) (.ok true))))):=by kernel_rfl
theorem aQc (a_0:List UInt8) (a_1:Int) (a_2:Int) (a_3:Int) (b_0:List UInt8) (b_1:Int) (b_2:Int) (b_3:Int):kM prog 100 76 (.agg [.str a_0,.int .i64 a_1,.int .i64 a_2,.int .i64 a_3]) (.agg [.str b_0,.int .i64 b_1,.int .i64 b_2,.int .i64 b_3])=.ok ((a_0 == b_0)&&decide (a_1=b_1)&&decide (a_2=b_2)&&decide (a_3=b_3)):=by
 refine (congrFun (congrFun (congrFun (congrFun (congrFun (congrFun (congrFun (congrFun aQb a_0) a_1) a_2) a_3) b_0) b_1) b_2) b_3).trans ?_
 simp only [eT,bR,Bool.and_true,Bool.and_assoc]
theorem aUe:(fun a b=>aU prog 76 (.agg a) (.agg b))=fun _ _=>true:=by kernel_rfl
theorem aQd (a b:List V):aU prog 76 (.agg a) (.agg b)=true:=congrFun (congrFun aUe a) b
theorem aQe:(fun (a_0:List UInt8) (a_1:Int) (b_0:List UInt8) (b_1:Int)=>kM prog 100 90 (.agg [.str a_0,.int .i64 a_1]) (.agg [.str b_0,.int .i64 b_1]))=fun a_0 a_1 b_0 b_1=>(cT (.ok (jN a_0 b_0)) (cT (.ok (decide (a_1=b_1))) (.ok true))):=by kernel_rfl
theorem aQf (a_0:List UInt8) (a_1:Int) (b_0:List UInt8) (b_1:Int):kM prog 100 90 (.agg [.str a_0,.int .i64 a_1]) (.agg [.str b_0,.int .i64 b_1])=.ok ((a_0 == b_0)&&decide (a_1=b_1)):=by
 refine (congrFun (congrFun (congrFun (congrFun aQe a_0) a_1) b_0) b_1).trans ?_
 simp only [eT,bR,Bool.and_true,Bool.and_assoc]
theorem aUf:(fun a b=>aU prog 90 (.agg a) (.agg b))=fun _ _=>true:=by kernel_rfl
theorem aQg (a b:List V):aU prog 90 (.agg a) (.agg b)=true:=congrFun (congrFun aUf a) b
theorem aBy:Fa 126 0 0:=aA (by kernel_rfl)
theorem aBz:Fa 126 1 1:=aA (by kernel_rfl)
theorem aC0:Fa 126 2 2:=aA (by kernel_rfl)
theorem aC1:Fa 126 3 3:=aA (by kernel_rfl)
theorem aC2:Fa 132 0 0:=aA (by kernel_rfl)
theorem aC3:Fa 132 1 1:=aA (by kernel_rfl)
theorem aC4:Fa 132 2 2:=aA (by kernel_rfl)
theorem aC5:Fa 142 0 0:=aA (by kernel_rfl)
theorem aC6:Fa 142 1 1:=aA (by kernel_rfl)
theorem aC7:Fa 142 2 2:=aA (by kernel_rfl)
theorem aC8:Fa 145 0 0:=aA (by kernel_rfl)
theorem aC9:Fa 145 1 1:=aA (by kernel_rfl)
theorem aCa:Fa 145 2 2:=aA (by kernel_rfl)
theorem aCb:Fa 145 3 3:=aA (by kernel_rfl)
theorem aCc:Fa 160 0 0:=aA (by kernel_rfl)
theorem aCd:Fa 201 0 0:=aA (by kernel_rfl)
theorem aCe:Fa 201 1 1:=aA (by kernel_rfl)
theorem aCf:Fa 201 2 2:=aA (by kernel_rfl)
theorem aCg:Fa 201 3 3:=aA (by kernel_rfl)
theorem aCh:Fa 207 0 0:=aA (by kernel_rfl)
theorem aCi:Fa 207 1 17:=aA (by kernel_rfl)
theorem aCj:Fa 207 2 18:=aA (by kernel_rfl)
theorem aCk:Fa 207 3 19:=aA (by kernel_rfl)
theorem aCl:Fa 207 4 20:=aA (by kernel_rfl)
theorem aCm:Fa 220 1 1:=aA (by kernel_rfl)
theorem aCn:Fa 220 2 2:=aA (by kernel_rfl)
theorem aCo:Fa 225 0 0:=aA (by kernel_rfl)
theorem aCp:Fa 225 1 1:=aA (by kernel_rfl)
theorem aCq:Fa 225 2 2:=aA (by kernel_rfl)
theorem aCr:Fa 287 0 0:=aA (by kernel_rfl)
theorem aCs:Fa 287 1 1:=aA (by kernel_rfl)
theorem aGg:Fa 30 0 0:=aA (by kernel_rfl)
theorem aGh:Fa 30 1 1:=aA (by kernel_rfl)
theorem aGi:Fa 30 2 2:=aA (by kernel_rfl)
theorem aGj:Fa 30 3 3:=aA (by kernel_rfl)
theorem aGk:Fa 30 4 4:=aA (by kernel_rfl)
theorem aGl:Fa 30 5 5:=aA (by kernel_rfl)
theorem aCt:Fa 346 0 0:=aA (by kernel_rfl)
theorem aCu:Fa 346 1 1:=aA (by kernel_rfl)
theorem aGm:Fa 48 0 0:=aA (by kernel_rfl)
theorem aGn:Fa 48 1 1:=aA (by kernel_rfl)
theorem aGo:Fa 48 2 2:=aA (by kernel_rfl)
theorem aGp:Fa 52 0 0:=aA (by kernel_rfl)
theorem aGq:Fa 52 1 1:=aA (by kernel_rfl)
theorem aGr:Fa 52 2 2:=aA (by kernel_rfl)
theorem aGs:Fa 54 0 0:=aA (by kernel_rfl)
theorem aGt:Fa 54 1 1:=aA (by kernel_rfl)
theorem aGu:Fa 54 2 4:=aA (by kernel_rfl)
theorem aGv:Fa 57 0 0:=aA (by kernel_rfl)
theorem aGw:Fa 57 1 1:=aA (by kernel_rfl)
theorem aGx:Fa 59 0 0:=aA (by kernel_rfl)
theorem aGy:Fa 59 1 1:=aA (by kernel_rfl)
theorem aGz:Fa 59 2 2:=aA (by kernel_rfl)
theorem aH0:Fa 59 3 3:=aA (by kernel_rfl)
theorem aH1:Fa 59 4 8:=aA (by kernel_rfl)
theorem aH2:Fa 59 5 11:=aA (by kernel_rfl)
theorem aH3:Fa 59 6 12:=aA (by kernel_rfl)
theorem aH4:Fa 59 7 14:=aA (by kernel_rfl)
theorem aH5:Fa 61 0 0:=aA (by kernel_rfl)
theorem aH6:Fa 61 1 1:=aA (by kernel_rfl)
theorem aH7:Fa 61 2 2:=aA (by kernel_rfl)
theorem aH8:Fa 76 0 0:=aA (by kernel_rfl)
theorem aH9:Fa 76 1 1:=aA (by kernel_rfl)
theorem aHa:Fa 76 2 2:=aA (by kernel_rfl)
theorem aHb:Fa 76 3 3:=aA (by kernel_rfl)
theorem aHc:Fa 77 0 0:=aA (by kernel_rfl)
theorem aHd:Fa 77 1 1:=aA (by kernel_rfl)
theorem aHe:Fa 77 2 2:=aA (by kernel_rfl)
theorem aHf:Fa 77 3 3:=aA (by kernel_rfl)
theorem aHg:Fa 82 0 0:=aA (by kernel_rfl)
theorem aHh:Fa 82 1 1:=aA (by kernel_rfl)
theorem aHi:Fa 82 2 2:=aA (by kernel_rfl)
theorem aHj:Fa 82 3 3:=aA (by kernel_rfl)
theorem aHk:Fa 84 0 0:=aA (by kernel_rfl)
theorem aHl:Fa 84 1 2:=aA (by kernel_rfl)
theorem aHm:Fa 84 2 5:=aA (by kernel_rfl)
theorem aHn:Fa 84 3 9:=aA (by kernel_rfl)
theorem aHo:Fa 84 4 11:=aA (by kernel_rfl)
theorem aHp:Fa 90 0 0:=aA (by kernel_rfl)
theorem aHq:Fa 90 1 1:=aA (by kernel_rfl)
theorem aHr:Fa 99 0 0:=aA (by kernel_rfl)
theorem aHs:Fa 99 1 17:=aA (by kernel_rfl)
theorem aHt:Fa 99 2 18:=aA (by kernel_rfl)
theorem aHu:Fa 99 3 19:=aA (by kernel_rfl)
theorem aHv:Fa 99 4 20:=aA (by kernel_rfl)
theorem aMd:Ix 102 23:=aR (by kernel_rfl)
theorem aMe:Ix 114 3:=aR (by kernel_rfl)
theorem aQh:Ix 22 1:=aR (by kernel_rfl)
theorem aQi:Ix 24 5:=aR (by kernel_rfl)
theorem aQj:Ix 25 4:=aR (by kernel_rfl)
theorem aQk:Ix 26 12:=aR (by kernel_rfl)
theorem aQl:Ix 27 2:=aR (by kernel_rfl)
theorem aQm:Ix 28 5:=aR (by kernel_rfl)
theorem aMf:Ix 361 1:=aR (by kernel_rfl)
theorem aMg:Ix 364 1:=aR (by kernel_rfl)
theorem aQn:Ix 44 17:=aR (by kernel_rfl)
theorem aQo:Ix 55 4:=aR (by kernel_rfl)
theorem aQp:Ix 62 3:=aR (by kernel_rfl)
theorem aQq:Ix 68 4:=aR (by kernel_rfl)
theorem aQr:Ix 71 4:=aR (by kernel_rfl)
theorem aQs:Ix 80 4:=aR (by kernel_rfl)
theorem aQt:Ix 96 1:=aR (by kernel_rfl)
theorem aQu:Ix 97 23:=aR (by kernel_rfl)
theorem aMh:Ld 126 (some 4):=aL (by kernel_rfl)
theorem aMi:Ld 132 (some 5):=aL (by kernel_rfl)
theorem aMj:Ld 145 (some 4):=aL (by kernel_rfl)
theorem ld2:Ld 2 none:=aL (by kernel_rfl)
theorem aMk:Ld 201 (some 4):=aL (by kernel_rfl)
theorem aMl:Ld 212 (some 1):=aL (by kernel_rfl)
theorem aQv:Ld 22 none:=aL (by kernel_rfl)
theorem aMm:Ld 220 (some 3):=aL (by kernel_rfl)
theorem aMn:Ld 229 none:=aL (by kernel_rfl)
theorem aMo:Ld 232 none:=aL (by kernel_rfl)
theorem aQw:Ld 24 none:=aL (by kernel_rfl)
theorem aQx:Ld 25 none:=aL (by kernel_rfl)
theorem aQy:Ld 26 none:=aL (by kernel_rfl)
theorem aQz:Ld 27 none:=aL (by kernel_rfl)
theorem aR0:Ld 28 none:=aL (by kernel_rfl)
theorem ld3:Ld 3 none:=aL (by kernel_rfl)
theorem aR1:Ld 30 (some 6):=aL (by kernel_rfl)
theorem aR2:Ld 31 none:=aL (by kernel_rfl)
theorem aMp:Ld 346 (some 2):=aL (by kernel_rfl)
theorem aMq:Ld 349 none:=aL (by kernel_rfl)
theorem ld4:Ld 4 none:=aL (by kernel_rfl)
theorem aR3:Ld 48 (some 3):=aL (by kernel_rfl)
theorem ld5:Ld 5 none:=aL (by kernel_rfl)
theorem aR4:Ld 52 (some 3):=aL (by kernel_rfl)
theorem aR5:Ld 54 (some 5):=aL (by kernel_rfl)
theorem aR6:Ld 55 none:=aL (by kernel_rfl)
theorem aR7:Ld 57 (some 2):=aL (by kernel_rfl)
theorem aR8:Ld 59 (some 15):=aL (by kernel_rfl)
theorem aR9:Ld 61 (some 17):=aL (by kernel_rfl)
theorem aRa:Ld 76 (some 4):=aL (by kernel_rfl)
theorem aRb:Ld 80 none:=aL (by kernel_rfl)
theorem aRc:Ld 82 (some 4):=aL (by kernel_rfl)
theorem aRd:Ld 84 (some 12):=aL (by kernel_rfl)
theorem ld9:Ld 9 none:=aL (by kernel_rfl)
theorem aRe:Ld 90 (some 2):=aL (by kernel_rfl)
theorem aRf:Ld 99 (some 23):=aL (by kernel_rfl)
theorem aHw:Ln 102:=cJ (by kernel_rfl)
theorem aHx:Ln 114:=cJ (by kernel_rfl)
theorem aMr:Ln 22:=cJ (by kernel_rfl)
theorem aMs:Ln 24:=cJ (by kernel_rfl)
theorem aMt:Ln 25:=cJ (by kernel_rfl)
theorem aMu:Ln 26:=cJ (by kernel_rfl)
theorem aMv:Ln 27:=cJ (by kernel_rfl)
theorem aMw:Ln 28:=cJ (by kernel_rfl)
theorem aHy:Ln 361:=cJ (by kernel_rfl)
theorem aHz:Ln 364:=cJ (by kernel_rfl)
theorem aMx:Ln 44:=cJ (by kernel_rfl)
theorem aMy:Ln 55:=cJ (by kernel_rfl)
theorem aMz:Ln 62:=cJ (by kernel_rfl)
theorem aN0:Ln 68:=cJ (by kernel_rfl)
theorem aN1:Ln 71:=cJ (by kernel_rfl)
theorem aN2:Ln 80:=cJ (by kernel_rfl)
theorem aRg (s:List UInt8) (S:St):oO prog 9 (.str s) S=.ok (.int .i64 s.length):=aDv (by kernel_rfl) s S
theorem aN3:Ln 96:=cJ (by kernel_rfl)
theorem aN4:Ln 97:=cJ (by kernel_rfl)
theorem aRh:Sl_ 22 1:=cS (by kernel_rfl)
theorem aRi:Si 22 1:=aAa (by kernel_rfl)
theorem aRj:Sl_ 24 5:=cS (by kernel_rfl)
theorem aRk:Sl_ 25 4:=cS (by kernel_rfl)
theorem aRl:Sl_ 26 12:=cS (by kernel_rfl)
theorem aRm:Sl_ 27 2:=cS (by kernel_rfl)
theorem aRn:Sl_ 28 5:=cS (by kernel_rfl)
theorem aRo:Sl_ 55 4:=cS (by kernel_rfl)
theorem aRp:Sl_ 71 4:=cS (by kernel_rfl)
theorem aRq:Sl_ 80 4:=cS (by kernel_rfl)
theorem aRr:Sl_ 96 1:=cS (by kernel_rfl)
theorem aRs:Sl_ 97 23:=cS (by kernel_rfl)
theorem aN5:Sr 126 4:=aH (by kernel_rfl)
theorem aN6:Sr 132 5:=aH (by kernel_rfl)
theorem aN7:Sr 145 4:=aH (by kernel_rfl)
theorem aN8:Sr 201 4:=aH (by kernel_rfl)
theorem aN9:Sr 212 1:=aH (by kernel_rfl)
theorem aRt:Sr 22 1:=aH (by kernel_rfl)
theorem aNa:Sr 220 3:=aH (by kernel_rfl)
theorem aNb:Sr 232 1:=aH (by kernel_rfl)
theorem aRu:Sr 24 1:=aH (by kernel_rfl)
theorem aRv:Sr 25 1:=aH (by kernel_rfl)
theorem aRw:Sr 26 1:=aH (by kernel_rfl)
theorem aRx:Sr 27 1:=aH (by kernel_rfl)
theorem aRy:Sr 28 1:=aH (by kernel_rfl)
theorem st3:Sr 3 1:=aH (by kernel_rfl)
theorem aRz:Sr 30 6:=aH (by kernel_rfl)
theorem aS0:Sr 31 1:=aH (by kernel_rfl)
theorem aNc:Sr 346 2:=aH (by kernel_rfl)
theorem st4:Sr 4 1:=aH (by kernel_rfl)
theorem aS1:Sr 48 3:=aH (by kernel_rfl)
theorem st5:Sr 5 1:=aH (by kernel_rfl)
theorem aS2:Sr 52 3:=aH (by kernel_rfl)
theorem aS3:Sr 54 5:=aH (by kernel_rfl)
theorem aS4:Sr 55 1:=aH (by kernel_rfl)
theorem aS5:Sr 57 2:=aH (by kernel_rfl)
theorem aS6:Sr 59 15:=aH (by kernel_rfl)
theorem aS7:Sr 61 17:=aH (by kernel_rfl)
theorem aS8:Sr 80 1:=aH (by kernel_rfl)
theorem aS9:Sr 82 4:=aH (by kernel_rfl)
theorem aSa:Sr 84 12:=aH (by kernel_rfl)
theorem st9:Sr 9 1:=aH (by kernel_rfl)
theorem aSb:Sr 90 2:=aH (by kernel_rfl)
theorem aSc:Sr 99 23:=aH (by kernel_rfl)
end Go.Proofs.YtoaibmbldmckaaaGreat
end
section
namespace Go.AM
open Go.RowKit Go.Lib Go.Proofs Go.Shelf
theorem sT {P:Program} {t:TypeId} (h:(P.info? t).isSome=true) (w:World):(Go.sizeOf t).run P w=.ok (sz P t) w:=by
 obtain ⟨i,hi⟩:=Option.isSome_iff_exists.1 h
 simp [sizeOf,typeInfo,hi,eC hi]
theorem fM {P:Program} {t:TypeId} (h:(P.info? t).map (·.size)=some 1) (w:World):(Go.sizeOf t).run P w=.ok 1 w:=by
 cases hi:P.info? t with
 | none=>rw [hi] at h;cases h
 | some i=>rw [hi] at h;simp [sizeOf,typeInfo,hi] at h ⊢;exact h
theorem jJ {P:Program} {f:FuncId} {T e I B:TypeId} {ov rr:FuncId} {fn fo:Func} (mixed:P.follows .mixedOrders=true) (hf:P.funcs[f]?=some fn) (hb:fn.body=some (nN T I B ov rr)) (hn:fn.ntmps=95) (hr:fn.results=#[.tmp 6])
  (tT:P.underlying T=some (.slice e)) (tI:P.underlying I=some (.int .i64)) (tB:P.underlying B=some .bool)
  (ho:P.funcs[ov]?=some fo) (o1:(fo.name == "runtime.NumGoroutine")=false) (o2:fo.body.isNone=true) (o3:Extern.findNext fo=none) (o4:Extern.find fo=some (Extern.SlicesOverlaps.overlaps #[T,T] #[B]))
  (zE:(P.info? e).isSome=true) (zT:(P.info? T).map (·.size)=some 1) (zI:(P.info? I).map (·.size)=some 1) (zB:(P.info? B).map (·.size)=some 1):InsAt P f T e I B ov rr fn:=
 ⟨mixed,hf,hb,hn,hr,tT,tI,tB,run_callFunc_extern ho o1 o2 o3 o4,sT zE,fM zT,fM zI,fM zB⟩
theorem aI0 {P:Program} {f:FuncId} {T e I B:TypeId} {fn:Func} (mixed:P.follows .mixedOrders=true) (hf:P.funcs[f]?=some fn) (hb:fn.body=some (rD T I B)) (hn:fn.ntmps=33) (hr:fn.results=#[.tmp 6])
  (tT:P.underlying T=some (.slice e)) (tI:P.underlying I=some (.int .i64)) (tB:P.underlying B=some .bool)
  (zE:(P.info? e).isSome=true) (zT:(P.info? T).map (·.size)=some 1) (zI:(P.info? I).map (·.size)=some 1) (zB:(P.info? B).map (·.size)=some 1):DelAt P f T e I B fn:=
 ⟨mixed,hf,hb,hn,hr,tT,tI,tB,sT zE,fM zT,fM zI,fM zB⟩
end Go.AM
end
section
set_option linter.unusedSimpArgs false
set_option linter.unusedVariables false
namespace Go.AM
structure Lit where
 args:List V
 n:Nat
 blocks:List (Nat×Blk)
 v:V
 n':Nat
 blocks':List (Nat×Blk)
end Go.AM
namespace Go.AM
theorem aI1 {fn:Func} (h:fn.body.isSome=true):fn.body=some (fn.body.get h):=(Option.some_get h).symm
end Go.AM
end
section
set_option linter.unusedSimpArgs false
set_option linter.unusedVariables false
namespace Go.AM
open Go.RowKit
theorem RelH.grow {F:Nat→Option Obj} {G:Gh} {S:St} {H H':Array Obj} (R:cO F G S H) (hs:H.size≤H'.size) (old:∀ i,i<H.size→H'[i]?=H[i]?):cO F G S H':=by
 have lt:∀ {i:Nat} {o:Obj},H[i]?=some o→i<H.size:=fun h=>(Array.getElem?_eq_some_iff.1 h).1
 constructor
 ·exact R.fresh
 ·exact R.sep
 ·intro a b hb
  have hold:=R.blk a b hb
  cases b with
  | row ver' es' elems'=>
   obtain ⟨K,hK,r1,r2,r3,c',ty',fr',hc',r⟩:=hold
   exact ⟨K,hK,r1,r2,r3,c',ty',fr',by rw [old _ (lt hc')];exact hc',r⟩
  | mp kvs=>
   obtain ⟨i,es',clock,hi,hH',r⟩:=hold
   exact ⟨i,es',clock,hi,by rw [old _ (lt hH')];exact hH',r⟩
  | iter s pos=>
   obtain ⟨K,hK,r1,r2,hH'⟩:=hold
   exact ⟨K,hK,r1,r2,by rw [old _ (lt hH')];exact hH'⟩
 ·exact R.inj
 ·intro i o h
  have:=R.fr i o h
  rw [old i (lt this)];exact this
 ·intro i o h
  have:=R.pr i o h
  rw [old i (lt this)];exact this
 ·exact R.own
 ·intro a i h
  have:=R.lt a i h
  omega
 ·exact R.small
theorem vC {P:Program} {f:FuncId} {fn:Func} (hf:P.funcs[f]?=some fn) (hn:(fn.name == "runtime.NumGoroutine")=false) (hb:fn.body.isSome=true)
  (h:∀ W,Calls P f #[] W fun e W'=>e=.returned (.bool true)∧Below W.heap.size W W'):SpecOK P f (Sp.told.run P):=by
 refine ⟨⟨fn,_,hf,hn,aI1 hb⟩,fun {args S S' v} hr=>?_⟩
 intro F G W cs R hvs
 match args,hr with
 | [],hr=>
  cases hr
  cases hvs
  refine (h W).mono ?_
  rintro e W' ⟨rfl,hw⟩
  have hw':=hw
  obtain ⟨w1,w2,w3,w4,w5⟩:=hw
  have old:∀ i,i<W.heap.size→W'.heap[i]?=W.heap[i]?:=w5
  exact ⟨G,.bool true,rfl,⟨G.le_refl,R.grow w4 old,⟨w1,w2,w3,w4⟩,Nat.le_refl _,fun _ _ _ _=>⟨rfl,rfl⟩,fun _ h _ _=>h,fun _ _ h=>.inl h⟩,.bool true⟩
end Go.AM
namespace Go.AM
open Go.RowKit
end Go.AM
end
section
namespace Go.Proofs.YtoaibmbldmckaaaGreat
open Go.RowKit Go.AM Tryz
theorem aNd:SpecOK prog 202 ((Sp.ins 68).run prog):=
 eG (e:=76) (I:=3) (B:=4) (ov:=247) (rr:=248) (fn:=Tryz.f202) (jJ (fo:=Tryz.f247) (by kernel_rfl) (by kernel_rfl) (by kernel_rfl) (by kernel_rfl) (by kernel_rfl)
  (by kernel_rfl) (by kernel_rfl) (by kernel_rfl) (by kernel_rfl) (by kernel_rfl) (by kernel_rfl) (by kernel_rfl) (by kernel_rfl) (by kernel_rfl) (by kernel_rfl) (by kernel_rfl) (by kernel_rfl)) (by kernel_rfl)
theorem aNe:SpecOK prog 221 ((Sp.ins 27).run prog):=
 eG (e:=90) (I:=3) (B:=4) (ov:=256) (rr:=257) (fn:=Tryz.f221) (jJ (fo:=Tryz.f256) (by kernel_rfl) (by kernel_rfl) (by kernel_rfl) (by kernel_rfl) (by kernel_rfl)
  (by kernel_rfl) (by kernel_rfl) (by kernel_rfl) (by kernel_rfl) (by kernel_rfl) (by kernel_rfl) (by kernel_rfl) (by kernel_rfl) (by kernel_rfl) (by kernel_rfl) (by kernel_rfl) (by kernel_rfl)) (by kernel_rfl)
theorem aNf:SpecOK prog 230 ((Sp.ins 28).run prog):=
 eG (e:=132) (I:=3) (B:=4) (ov:=261) (rr:=262) (fn:=Tryz.f230) (jJ (fo:=Tryz.f261) (by kernel_rfl) (by kernel_rfl) (by kernel_rfl) (by kernel_rfl) (by kernel_rfl)
  (by kernel_rfl) (by kernel_rfl) (by kernel_rfl) (by kernel_rfl) (by kernel_rfl) (by kernel_rfl) (by kernel_rfl) (by kernel_rfl) (by kernel_rfl) (by kernel_rfl) (by kernel_rfl) (by kernel_rfl)) (by kernel_rfl)
theorem aNg:SpecOK prog 234 ((Sp.ins 25).run prog):=
 eG (e:=126) (I:=3) (B:=4) (ov:=264) (rr:=265) (fn:=Tryz.f234) (jJ (fo:=Tryz.f264) (by kernel_rfl) (by kernel_rfl) (by kernel_rfl) (by kernel_rfl) (by kernel_rfl)
  (by kernel_rfl) (by kernel_rfl) (by kernel_rfl) (by kernel_rfl) (by kernel_rfl) (by kernel_rfl) (by kernel_rfl) (by kernel_rfl) (by kernel_rfl) (by kernel_rfl) (by kernel_rfl) (by kernel_rfl)) (by kernel_rfl)
theorem aNh:SpecOK prog 237 ((Sp.ins 24).run prog):=
 eG (e:=54) (I:=3) (B:=4) (ov:=266) (rr:=267) (fn:=Tryz.f237) (jJ (fo:=Tryz.f266) (by kernel_rfl) (by kernel_rfl) (by kernel_rfl) (by kernel_rfl) (by kernel_rfl)
  (by kernel_rfl) (by kernel_rfl) (by kernel_rfl) (by kernel_rfl) (by kernel_rfl) (by kernel_rfl) (by kernel_rfl) (by kernel_rfl) (by kernel_rfl) (by kernel_rfl) (by kernel_rfl) (by kernel_rfl)) (by kernel_rfl)
theorem aNi:SpecOK prog 280 ((Sp.ins 80).run prog):=
 eG (e:=145) (I:=3) (B:=4) (ov:=288) (rr:=289) (fn:=Tryz.f280) (jJ (fo:=Tryz.f288) (by kernel_rfl) (by kernel_rfl) (by kernel_rfl) (by kernel_rfl) (by kernel_rfl)
  (by kernel_rfl) (by kernel_rfl) (by kernel_rfl) (by kernel_rfl) (by kernel_rfl) (by kernel_rfl) (by kernel_rfl) (by kernel_rfl) (by kernel_rfl) (by kernel_rfl) (by kernel_rfl) (by kernel_rfl)) (by kernel_rfl)
theorem aNj:SpecOK prog 240 ((Sp.del 28).run prog):=
 yE (e:=132) (I:=3) (B:=4) (fn:=Tryz.f240) (aI0 (by kernel_rfl) (by kernel_rfl) (by kernel_rfl) (by kernel_rfl) (by kernel_rfl)
  (by kernel_rfl) (by kernel_rfl) (by kernel_rfl) (by kernel_rfl) (by kernel_rfl) (by kernel_rfl) (by kernel_rfl)) (by kernel_rfl)
theorem dV {P:Program} {a b:dT} (h:dH P a=true) (k:dH P b=true):dH P (a++b)=true:=by unfold dH at *;rw [List.all_append,h,k];rfl
def aO2:tY:=[(202,.ins 68),(221,.ins 27),(230,.ins 28),(234,.ins 25),(237,.ins 24),(280,.ins 80),(240,.del 28)]
theorem aCv:SpAll prog aO2:=⟨aNd,aNe,aNf,aNg,aNh,aNi,aNj,trivial⟩
theorem aI2:aG2=aG3++(aG4++(aG5++(aG6++(aG7++(aG8++(aG9++(aGa++(aGb++(aGc++(aBl++(aBm++(aBn++(aBo++(aBp++(aBq++(aBr)))))))))))))))):=rfl
theorem wM:dH prog aG2=true:=by
 rw [aI2]
 exact dV aE2 (dV aE3 (dV aE4 (dV aE5 (dV aE6 (dV aE7 (dV aE8 (dV aE9 (dV aEa (dV aEb (dV aAj (dV aAk (dV aAl (dV aAm (dV aAn (dV aAo (aAp))))))))))))))))
theorem aI3:nB (cP prog (iJ prog aO2 aG2) 1000 25 [] St.empty)=true:=by kernel_rfl
theorem aUg:SpecOK prog 25 (Sp.told.run prog):=vC Tryz.func25 (by kernel_rfl) (by kernel_rfl) fun W=>sG (mL (by kernel_rfl) aCv wM) aI3 W
theorem aI4:nB (cP prog (iJ prog aO2 aG2) 1000 49 [] St.empty)=true:=by kernel_rfl
theorem aUh:SpecOK prog 49 (Sp.told.run prog):=vC Tryz.func49 (by kernel_rfl) (by kernel_rfl) fun W=>sG (mL (by kernel_rfl) aCv wM) aI4 W
theorem aO3:SpAll prog dSp:=⟨aNd,aNe,aNf,aNg,aNh,aNi,aNj,aUg,aUh,trivial⟩
theorem aEc:PlansOK prog pX:=mL (by kernel_rfl) aO3 wM
end Go.Proofs.YtoaibmbldmckaaaGreat
end
section
namespace Go.Proofs.YtoaibmbldmckaaaGreat
open Go.AM Tryz
structure Date where
 y:Int
 m:Int
 d:Int
deriving DecidableEq
def Date.enc (d:Date):List V:=[.int .i64 d.y,.int .i64 d.m,.int .i64 d.d]
def aJb (n:Int):Int:=wr .u64 ((BitVec.ofInt IntKind.u64.bits (if IntKind.u64.signed then -1 else IntKind.u64.max) ^^^ BitVec.ofInt IntKind.u64.bits n).toNat)
structure Rate where
 cat:List UInt8
 day:Date
 bp:Int
deriving DecidableEq
structure Ser where
 name:List UInt8
 next:Int
 limit:Int
 shut:Bool
deriving DecidableEq
structure Part where
 cat:List UInt8
 bp:Int
 net:Int
 tax:Int
deriving DecidableEq
def Part.enc (p:Part):List V:=[.str p.cat,.int .i64 p.bp,.int .i64 p.net,.int .i64 p.tax]
structure Total where
 net:Int
 tax:Int
 gross:Int
 parts:List Part
deriving DecidableEq
def dO (n:Int):List V:=[.int .i64 n]
structure Line where
 text:List UInt8
 cat:List UInt8
 count:Int
 price:Int
deriving DecidableEq
def Line.enc (l:Line):List V:=[.str l.text,.str l.cat,.int .i64 l.count,.int .i64 l.price]
structure Ref where
 ser:List UInt8
 num:Int
deriving DecidableEq
structure Posted where
 ref:Ref
 day:Date
 total:Total
 of:Ref
 back:Bool
deriving DecidableEq
def Posted.cells (p:Posted) (pv:V):List V:=[.str p.ref.ser,.int .i64 p.ref.num,.int .i64 p.day.y,.int .i64 p.day.m,.int .i64 p.day.d,.int .i64 p.total.net,.int .i64 p.total.tax,.int .i64 p.total.gross,pv,.str p.of.ser,.int .i64 p.of.num,.bool p.back]
def blkOf:V→Option Nat
 | .sl a _ _ _ _=>some a
 | _=>none
structure Cmd where
 kind:Int
 series:List UInt8
 limit:Int
 row:Rate
 day:Date
 lines:List Line
 of:Ref
 session:Int
def Cmd.cells (c:Cmd) (lv:V):List V:=[.int .i64 c.kind,.str c.series,.int .i64 c.limit,.str c.row.cat,.int .i64 c.row.day.y,.int .i64 c.row.day.m,.int .i64 c.row.day.d,.int .i64 c.row.bp,.int .i64 c.day.y,.int .i64 c.day.m,.int .i64 c.day.d,lv,.str c.of.ser,.int .i64 c.of.num,.int .i64 c.session]
structure Call where
 session:Int
 seq:Int
 cmd:Cmd
end Go.Proofs.YtoaibmbldmckaaaGreat
end
section
namespace Go.AM
def lE {α:Type} (a:α):Option (List α)→Option (List α)
 | some l=>some (a::l)
 | none=>none
def nZ:List V→Nat→Option (List V)
 | _,0=>some []
 | [],_+1=>none
 | a::l,n+1=>lE a (nZ l n)
def lQ:List V→Nat→List V→Option (List V)
 | cs,0,[]=>some cs
 | [],0,_::_=>none
 | _::cs,0,x::xs=>lE x (lQ cs 0 xs)
 | [],_+1,_=>none
 | c::cs,j+1,xs=>lE c (lQ cs j xs)
def lF:List V→Nat→Bool
 | [],0=>true
 | _::l,n+1=>lF l n
 | _,_=>false
def wN {α:Type}:List α→Nat→α→Option (List α)
 | [],_,_=>none
 | _::l,0,x=>some (x::l)
 | a::l,i+1,x=>lE a (wN l i x)
theorem yU:∀ (l:List V) (n:Nat),nZ l n=if n≤l.length then some (l.take n) else none
 | l,0=>by cases l<;>simp [nZ]
 | [],n+1=>by simp [nZ]
 | a::l,n+1=>by
  simp only [nZ,yU l n,List.length_cons,Nat.add_le_add_iff_right,List.take_succ_cons]
  split<;>rfl
theorem rH:∀ (cs:List V) (j:Nat) (xs:List V),lQ cs j xs=if j+xs.length≤cs.length then some (splice cs j xs) else none
 | cs,0,[]=>by cases cs<;>simp [lQ,splice]
 | [],0,x::xs=>by simp [lQ]
 | c::cs,0,x::xs=>by
  have h:=rH cs 0 xs
  simp only [lQ,h,List.length_cons,splice,List.take_zero,List.nil_append,Nat.zero_add]
  by_cases c1:xs.length≤cs.length
  ·rw [if_pos c1,if_pos (by omega)];simp [lE]
  ·rw [if_neg c1,if_neg (by omega)];rfl
 | [],j+1,xs=>by simp [lQ]
 | c::cs,j+1,xs=>by
  have h:=rH cs j xs
  simp only [lQ,h,List.length_cons,splice]
  by_cases c1:j+xs.length≤cs.length
  ·rw [if_pos c1,if_pos (by omega)]
   simp only [lE,List.take_succ_cons,List.cons_append,show j+1+xs.length=(j+xs.length)+1 by omega,List.drop_succ_cons]
  ·rw [if_neg c1,if_neg (by omega)];rfl
theorem oA:∀ (l:List V) (n:Nat),lF l n=decide (l.length=n)
 | [],0=>rfl
 | [],n+1=>by simp [lF]
 | a::l,0=>by simp [lF]
 | a::l,n+1=>by simp [lF,oA l n]
theorem aCw {α:Type}:∀ (l:List α) (i:Nat) (x:α),wN l i x=if i<l.length then some (l.set i x) else none
 | [],i,x=>by simp [wN]
 | a::l,0,x=>by simp [wN]
 | a::l,i+1,x=>by
  simp only [wN,aCw l i x,List.length_cons,Nat.add_lt_add_iff_right,List.set_cons_succ]
  split<;>rfl
theorem pt2 (n:Nat) (cs:List V) (j:Nat):lB (some (n+1)) cs j=(match nZ (cs.drop j) (n+1) with
  | some l=>.ok (.agg l)
  | none=>.error "part"):=by
 simp only [lB,yU,List.length_drop]
 by_cases c:j+(n+1)≤cs.length
 ·rw [if_pos c,if_pos (by omega)]
 ·rw [if_neg c,if_neg (by omega)]
theorem st2 (n a ver i j:Nat) (x:V) (S:St):lC n (.ptr a ver i j) x S=(match bA S a ver with
  | .error e=>.error e
  | .ok (es,elems)=>match elems[i]? with
   | some cs=>(match lF x.cells n&&aP x.cells with
    | true=>(match lQ cs j x.cells with
     | some cs'=>.ok ⟨S.next,S.heap.put a (.row ver es (elems.set i cs'))⟩
     | none=>.error "store: the size")
    | false=>.error "store: the size")
   | none=>.error "store"):=by
 simp only [lC,rH,oA]
 cases bA S a ver with
 | error e=>rfl
 | ok r=>
  obtain ⟨es,elems⟩:=r
  simp only
  cases elems[i]? with
  | none=>rfl
  | some cs=>
   simp only
   by_cases c1:x.cells.length=n
   ·cases c2:aP x.cells
    ·simp [c1]
    ·by_cases c3:j+x.cells.length≤cs.length
     ·rw [if_pos ⟨c1,rfl,c3⟩];simp [c1];simp [←c1,c3]
     ·rw [if_neg (fun h=>c3 h.2.2)];simp [c1];simp [←c1,c3]
   ·rw [if_neg (fun h=>c1 h.1)];simp [c1]
theorem bw0 (z:List V) (pl:List (Nat×Nat)):mP z pl []=.ok (.agg z):=rfl
theorem bw1 (z:List V) (pl:List (Nat×Nat)) (i:Nat) (v:V) (rest:List (Nat×V)):mP z pl ((i,v)::rest)=(match pl[i]? with
  | none=>.error "fill"
  | some (off,size)=>(match lF v.cells size&&aP v.cells with
   | true=>(match lQ z off v.cells with
    | some z'=>mP z' pl rest
    | none=>.error "fill")
   | false=>.error "fill")):=by
 simp only [mP,kO]
 cases pl[i]? with
 | none=>rfl
 | some p=>
  obtain ⟨off,size⟩:=p
  simp only [rH,oA,cond_eq_ite]
  by_cases c1:v.cells.length=size
  ·cases c2:aP v.cells
   ·simp [c1]
   ·by_cases c3:off+v.cells.length≤z.length
    ·have h1:Nat.beq v.cells.length size=true:=by simpa using c1
     have h2:Nat.ble (off+v.cells.length) z.length=true:=Nat.ble_eq_true_of_le c3
     simp [h1,h2,c1]
     simp [←c1,c3]
    ·have h2:Nat.ble (off+v.cells.length) z.length=false:=by
      cases h:Nat.ble (off+v.cells.length) z.length with
      | false=>rfl
      | true=>exact absurd (Nat.le_of_ble_eq_true h) c3
     simp [h2,c1]
     simp [←c1,c3]
  ·have h1:Nat.beq v.cells.length size=false:=by
    cases h:Nat.beq v.cells.length size with
    | false=>rfl
    | true=>exact absurd (Nat.eq_of_beq_eq_true h) c1
   simp [h1,c1]
theorem lv1 (es:Nat) (elems:List (List V)) (i:Nat) (v:V) (rest:List (Nat×V)):qI es elems ((i,v)::rest)=(match lF v.cells es&&aP v.cells with
  | true=>(match wN elems i v.cells with
   | some e=>qI es e rest
   | none=>.error "buildSlice")
  | false=>.error "buildSlice"):=by
 simp only [qI,aCw,oA,cond_eq_ite]
 by_cases c1:v.cells.length=es
 ·have h1:Nat.beq v.cells.length es=true:=by simpa using c1
  cases c2:aP v.cells
  ·simp [c1]
  ·by_cases c3:i<elems.length
   ·have h2:Nat.blt i elems.length=true:=by simpa using c3
    simp [h1,h2,c1,c3]
   ·have h2:Nat.blt i elems.length=false:=by
     cases h:Nat.blt i elems.length with
     | false=>rfl
     | true=>exact absurd (by simpa using h) c3
    simp [h2,c1,c3]
 ·have h1:Nat.beq v.cells.length es=false:=by
   cases h:Nat.beq v.cells.length es with
   | false=>rfl
   | true=>exact absurd (Nat.eq_of_beq_eq_true h) c1
  simp [h1,c1]
theorem aNk:(∀ {α:Type} (a:α) (l:List α),lE a (some l)=some (a::l))∧(∀ l:List V,nZ l 0=some [])∧(∀ (a:V) (l:List V) (n:Nat),nZ (a::l) (n+1)=lE a (nZ l n)) ∧
  (∀ cs:List V,lQ cs 0 []=some cs)∧(∀ (c x:V) (cs xs:List V),lQ (c::cs) 0 (x::xs)=lE x (lQ cs 0 xs))∧(∀ (c:V) (cs:List V) (j:Nat) (xs:List V),lQ (c::cs) (j+1) xs=lE c (lQ cs j xs)) ∧
  lF [] 0=true∧(∀ (a:V) (l:List V) (n:Nat),lF (a::l) (n+1)=lF l n)∧(∀ {α:Type} (a:α) (l:List α) (x:α),wN (a::l) 0 x=some (x::l))∧(∀ {α:Type} (a:α) (l:List α) (i:Nat) (x:α),wN (a::l) (i+1) x=lE a (wN l i x)) ∧
  type_of% pt2∧(∀ (n a j:Nat) (x:V) (S:St),type_of% (st2 n a 0 0 j x S))∧type_of% bw0∧type_of% bw1∧type_of% lv1∧(∀ (es:Nat) (l:List (List V)),qI es l []=.ok l):=
 ⟨fun _ _=>rfl,fun l=>by cases l<;>rfl,fun _ _ _=>rfl,fun cs=>by cases cs<;>rfl,fun _ _ _ _=>rfl,fun _ _ _ _=>by simp only [lQ],rfl,fun _ _ _=>rfl,fun _ _ _=>rfl,fun _ _ _ _=>rfl,pt2,fun n a j x S=>st2 n a 0 0 j x S,bw0,bw1,lv1,fun _ _=>rfl⟩
section
section
variable {P:Program}
theorem aJc (b:Bool) (x y:Prop):cV (.bool b) x y=if b=true then x else y:=by cases b<;>rfl
theorem ldP (k:Option Nat) (a ver i j:Nat) (S:St):uS k (.ptr a ver i j) S=(match bA S a ver with
  | .error e=>.error e
  | .ok (_,elems)=>match elems[i]? with
   | some cs=>lB k cs j
   | none=>.error "load"):=rfl
theorem ptN (cs:List V) (j:Nat):lB none cs j=(match cs[j]? with
  | some v=>.ok v
  | none=>.error "part"):=rfl
theorem grS (n:Nat) (h:Tr Blk) (a ver es:Nat) (el:List (List V)):bA ⟨n,h.put a (.row ver es el)⟩ a ver=.ok (es,el):=aB ..
theorem pD {c a:Nat} (hc:c≠a) (n:Nat) (h:Tr Blk) (ver:Nat) (b:Blk):bA ⟨n,h.put a b⟩ c ver=bA ⟨n,h⟩ c ver:=tM n n h a c ver b hc
theorem nb0 (S:St) (b:Blk):aV none S b=.ok (S.next,⟨S.next+1,S.heap.put S.next b⟩):=dI S b
theorem nb1 (k:Nat) (S:St) (b:Blk):aV (some k) S b=.ok (k,⟨S.next,S.heap.put k b⟩):=tZ k S b
theorem ixI {α:Type} {l:List α} {enc:α→List V} {i:Nat} {a:α} {n:Nat} (hi:l[i]?=some a) (hn:(enc a).length=n) (k:IntKind):tL n (.imm (l.map enc)) (.int k (i:Int))=.ok (.iptr (enc a) 0):=by
 have hil:=(List.getElem?_eq_some_iff.1 hi).1
 have hx:(l.map enc)[i]?=some (enc a):=by rw [List.getElem?_map,hi];rfl
 simp only [tL,List.length_map,aFi hil,hx]
 simp only [hn,if_true]
theorem okI {α:Type} (a b:α):((Except.ok a:R α)=.ok b)=(a=b):=by simp
end
theorem kit:(∀ {α:Type} (a:α) (K:α→Prop),wR (.ok a) K=K a)∧(∀ {α:Type} (a:α) (K:α→Prop),wO (some a) K=K a)∧(∀ x:Prop,oN true x=x)∧(∀ (b:Bool) (x y:Prop),cV (.bool b) x y=if b=true then x else y) ∧
  (∀ (v:V) (r:List V) (K:V→List V→Prop),wUn (v::r) K=K v r)∧(∀ (vs:List V) (i:Nat) (K:V→Prop),aA6 (.tup vs) i K=wO vs[i]? K)∧(∀ (a b c d:Nat) (x:Prop),sI (.ptr a b c d) x=x)∧(∀ (a:List V) (b:Nat) (x:Prop),sI (.iptr a b) x=x) ∧
  (∀ b:Bool,unV .not (.bool b)=.ok (.bool !b))∧(∀ v:V,dC v v=true):=
 ⟨fun _ _=>rfl,fun _ _=>rfl,fun _=>rfl,aJc,fun _ _ _=>rfl,fun _ _ _=>rfl,fun _ _ _ _ _=>rfl,fun _ _ _=>rfl,fun _=>rfl,jG⟩
theorem aSe (P:Program):(∀ (t:TypeId) (k:IntKind) (a b:Int),aZ P .add t (.int k a) (.int k b)=.ok (.int k (wr k (a+b))))∧(∀ (t:TypeId) (k:IntKind) (a b:Int),aZ P .sub t (.int k a) (.int k b)=.ok (.int k (wr k (a - b)))) ∧
  (∀ (t:TypeId) (k:IntKind) (a b:Int),aZ P .mul t (.int k a) (.int k b)=.ok (.int k (wr k (a*b))))∧(∀ (t:TypeId) (k:IntKind) (a b:Int),aZ P .lss t (.int k a) (.int k b)=.ok (.bool (decide (a<b)))) ∧
  (∀ (t:TypeId) (k:IntKind) (a b:Int),aZ P .leq t (.int k a) (.int k b)=.ok (.bool (decide (a≤b))))∧(∀ (t:TypeId) (k:IntKind) (a b:Int),aZ P .gtr t (.int k a) (.int k b)=.ok (.bool (decide (b<a)))) ∧
  (∀ (t:TypeId) (k:IntKind) (a b:Int),aZ P .geq t (.int k a) (.int k b)=.ok (.bool (decide (b≤a))))∧(∀ (t:TypeId) (k:IntKind) (a b:Int),aZ P .eql t (.int k a) (.int k b)=.ok (.bool (decide (a=b)))) ∧
  (∀ (t:TypeId) (k:IntKind) (a b:Int),aZ P .neq t (.int k a) (.int k b)=.ok (.bool (!decide (a=b)))) ∧
  (∀ (t:TypeId) (j k:IntKind) (a b:Int),aU P t (.int j a) (.int k b)=true)∧(∀ (t:TypeId) (x y:List UInt8),aU P t (.str x) (.str y)=true)∧(∀ (t:TypeId) (x y:Bool),aU P t (.bool x) (.bool y)=true) ∧
  (∀ (t:TypeId) (x y:List UInt8),aZ P .eql t (.str x) (.str y)=.ok (.bool (x == y)))∧(∀ (t:TypeId) (x y:List UInt8),aZ P .neq t (.str x) (.str y)=.ok (.bool (!(x == y)))) ∧
  (∀ (t:TypeId) (x y:List UInt8),aZ P .lss t (.str x) (.str y)=.ok (.bool (ltB x y)))∧(∀ (t:TypeId) (x y:List UInt8),aZ P .geq t (.str x) (.str y)=.ok (.bool (!ltB x y))) ∧
  (∀ (t:TypeId) (k:IntKind) (a b:Int),b≠0→aZ P .quo t (.int k a) (.int k b)=.ok (.int k (wr k (a.tdiv b))))∧(∀ (t:TypeId) (k:IntKind) (a b:Int),b≠0→aZ P .rem t (.int k a) (.int k b)=.ok (.int k (a.tmod b))):=
 ⟨aIo P,aIp P,aIq P,aIt P,aIu P,aIv P,aIw P,aIx P,aIy P,fun _ _ _ _ _=>rfl,fun _ _ _=>rfl,fun _ _ _=>rfl,aIz P,aJ0 P,aJ1 P,aJ2 P,fun _ _ _ _ h=>aIr P _ _ _ _ h,fun _ _ _ _ h=>aIs P _ _ _ _ h⟩
theorem aSf : (∀ (k : Option Nat) (a j : Nat) (S : St), uS k (.ptr a 0 0 j) S = (match bA S a 0 with
      | .error e => .error e
      | .ok (_, elems) => match elems[0]? with
        | some cs => lB k cs j
        | none => .error "load")) ∧ (∀ (k : Option Nat) (cs : List V) (j : Nat) (S : St), uS k (.iptr cs j) S = lB k cs j) ∧
    (∀ (cs : List V) (j : Nat), lB none cs j = (match cs[j]? with
      | some v => .ok v
      | none => .error "part")) ∧
    (∀ off a ver i j : Nat, aIn off (.ptr a ver i j) = .ok (.ptr a ver i (j + off))) ∧ (∀ (off : Nat) (cs : List V) (j : Nat), aIn off (.iptr cs j) = .ok (.iptr cs (j + off))) ∧
    (∀ (n : Nat) (h : Tr Blk) (a ver es : Nat) (el : List (List V)), bA ⟨n, h.put a (.row ver es el)⟩ a ver = .ok (es, el)) ∧ (∀ (S : St) (b : Blk), aV none S b = .ok (S.next, ⟨S.next + 1, S.heap.put S.next b⟩)) ∧
    (∀ (k : Nat) (S : St) (b : Blk), aV (some k) S b = .ok (k, ⟨S.next, S.heap.put k b⟩)) ∧ (∀ cs : List V, (V.agg cs).cells = cs) ∧ (∀ b : Bool, (V.bool b).cells = [.bool b]) ∧ (∀ (k : IntKind) (n : Int), (V.int k n).cells = [.int k n]) ∧
    (∀ s : List UInt8, (V.str s).cells = [.str s]) ∧ (∀ es : List (List V), (V.imm es).cells = [.imm es]) ∧ V.nils.cells = [.nils] ∧ (∀ a b c d : Nat, (V.ptr a b c d).cells = [.ptr a b c d]) ∧ (∀ a b c d e : Nat, (V.sl a b c d e).cells = [.sl a b c d e]) ∧
    (∀ (f : FuncId) (a b : List V), (V.func f a b).cells = [.func f a b]) ∧ aP [] = true ∧ (∀ (v : V) (l : List V), aP (v :: l) = (v.one && aP l)) ∧ (∀ b : Bool, (V.bool b).one = true) ∧ (∀ (k : IntKind) (n : Int), (V.int k n).one = true) ∧ (∀ s : List UInt8, (V.str s).one = true) ∧
    (∀ es : List (List V), (V.imm es).one = true) ∧ V.nils.one = true ∧ (∀ a b c d : Nat, (V.ptr a b c d).one = true) ∧ (∀ a b c d e : Nat, (V.sl a b c d e).one = true) ∧ (∀ (f : FuncId) (a b : List V), (V.func f a b).one = true) ∧
    (∀ es : List (List V), aFh (.imm es) = .ok (.int .i64 es.length)) ∧ aFh .nils = .ok (.int .i64 0) ∧ (∀ a b c d e : Nat, aFh (.sl a b c d e) = .ok (.int .i64 e)) ∧
    (∀ (S : St) (b : Bool), iE S (.bool b) = .ok (.bool b)) ∧ (∀ (S : St) (k : IntKind) (n : Int), iE S (.int k n) = .ok (.int k n)) ∧ (∀ (S : St) (s : List UInt8), iE S (.str s) = .ok (.str s)) ∧ (∀ (S : St) (es : List (List V)), iE S (.imm es) = .ok (.imm es)) ∧
    (∀ {α : Type} (a b : α), ((Except.ok a : R α) = .ok b) = (a = b)) :=
  ⟨fun _ _ _ _ => rfl, fun _ _ _ _ => rfl, fun _ _ => rfl, fun _ _ _ _ _ => rfl, fun _ _ _ => rfl, grS, nb0, nb1, fun _ => rfl, fun _ => rfl, fun _ _ => rfl, fun _ => rfl, fun _ => rfl, rfl, fun _ _ _ _ => rfl, fun _ _ _ _ _ => rfl, fun _ _ _ => rfl, rfl, fun _ _ => rfl,
    fun _ => rfl, fun _ _ => rfl, fun _ => rfl, fun _ => rfl, rfl, fun _ _ _ _ => rfl, fun _ _ _ _ _ => rfl, fun _ _ _ => rfl, fun _ => rfl, rfl, fun _ _ _ _ _ => rfl, fun _ _ => rfl, fun _ _ _ => rfl, fun _ _ => rfl, fun _ _ => rfl, okI⟩
end
end Go.AM
end
section
namespace Go.Proofs.YtoaibmbldmckaaaGreat
open Go.AM Tryz
theorem fx:type_of% (A2 aGf <| A2 aLc <| A2 aLd <| A2 aLe <| A2 aLf <| A2 aLg <| A2 aLh <| A2 aLi <| A2 aLj <| A2 aLk <| A2 aLl <| A2 aLm <| A2 aLn <| A2 aLo <| A2 aLp <| A2 aLq <| A2 aLr <| A2 aLs <| A2 aLt <| A2 aLu <| A2 aLv <| A2 aLw <| A2 aLx <| A2 aLy <| A2 aP3 <| A2 aLz <| A2 aP4 <| A2 aP5 <| A2 aP6 <| A2 aP7 <| A2 aP8 <| A2 aP9 <| A2 aPa <| A2 aPb <| A2 aPc <| A2 aPd <| A2 aPe <| A2 aPf <| A2 aM0 <| A2 aPg <| A2 aPh <| A2 aPi <| A2 aPj <| A2 aPk <| A2 aPl <| A2 aM1 <| A2 aM2 <| A2 aPm <| A2 aPn <| A2 aPo <| A2 aPp <| A2 aPq <| A2 aPr <| A2 aPs <| A2 aPt <| A2 aBt <| A2 aBu <| A2 aBv <| A2 aBw <| A2 aBx <| A2 aBy <| A2 aBz <| A2 aC0 <| A2 aC1 <| A2 aC2 <| A2 aC3 <| A2 aC4 <| A2 aC5 <| A2 aC6 <| A2 aC7 <| A2 aC8 <| A2 aC9 <| A2 aCa <| A2 aCb <| A2 aCc <| A2 aCd <| A2 aCe <| A2 aCf <| A2 aCg <| A2 aCh <| A2 aCi <| A2 aCj <| A2 aCk <| A2 aCl <| A2 aCm <| A2 aCn <| A2 aCo <| A2 aCp <| A2 aCq <| A2 aCr <| A2 aCs <| A2 aGg <| A2 aGh <| A2 aGi <| A2 aGj <| A2 aGk <| A2 aGl <| A2 aCt <| A2 aCu <| A2 aGm <| A2 aGn <| A2 aGo <| A2 aGp <| A2 aGq <| A2 aGr <| A2 aGs <| A2 aGt <| A2 aGu <| A2 aGv <| A2 aGw <| A2 aGx <| A2 aGy <| A2 aGz <| A2 aH0 <| A2 aH1 <| A2 aH2 <| A2 aH3 <| A2 aH4 <| A2 aH5 <| A2 aH6 <| A2 aH7 <| A2 aH8 <| A2 aH9 <| A2 aHa <| A2 aHb <| A2 aHc <| A2 aHd <| A2 aHe <| A2 aHf <| A2 aHg <| A2 aHh <| A2 aHi <| A2 aHj <| A2 aHk <| A2 aHl <| A2 aHm <| A2 aHn <| A2 aHo <| A2 aHp <| A2 aHq <| A2 aHr <| A2 aHs <| A2 aHt <| A2 aHu <| A2 aHv <| A2 aMd <| A2 aMe <| A2 aQh <| A2 aQi <| A2 aQj <| A2 aQk <| A2 aQl <| A2 aQm <| A2 aMf <| A2 aMg <| A2 aQn <| A2 aQo <| A2 aQp <| A2 aQq <| A2 aQr <| A2 aQs <| A2 aQt <| A2 aQu <| A2 aMh <| A2 aMi <| A2 aMj <| A2 ld2 <| A2 aMk <| A2 aMl <| A2 aQv <| A2 aMm <| A2 aMn <| A2 aMo <| A2 aQw <| A2 aQx <| A2 aQy <| A2 aQz <| A2 aR0 <| A2 ld3 <| A2 aR1 <| A2 aR2 <| A2 aMp <| A2 aMq <| A2 ld4 <| A2 aR3 <| A2 ld5 <| A2 aR4 <| A2 aR5 <| A2 aR6 <| A2 aR7 <| A2 aR8 <| A2 aR9 <| A2 aRa <| A2 aRb <| A2 aRc <| A2 aRd <| A2 ld9 <| A2 aRe <| A2 aRf <| A2 aHw <| A2 aHx <| A2 aMr <| A2 aMs <| A2 aMt <| A2 aMu <| A2 aMv <| A2 aMw <| A2 aHy <| A2 aHz <| A2 aMx <| A2 aMy <| A2 aMz <| A2 aN0 <| A2 aN1 <| A2 aN2 <| A2 aRg <| A2 aN3 <| A2 aN4 <| A2 aRh <| A2 aRj <| A2 aRk <| A2 aRl <| A2 aRm <| A2 aRn <| A2 aRo <| A2 aRp <| A2 aRq <| A2 aRr <| A2 aRs <| A2 aN5 <| A2 aN6 <| A2 aN7 <| A2 aN8 <| A2 aN9 <| A2 aRt <| A2 aNa <| A2 aNb <| A2 aRu <| A2 aRv <| A2 aRw <| A2 aRx <| A2 aRy <| A2 st3 <| A2 aRz <| A2 aS0 <| A2 aNc <| A2 st4 <| A2 aS1 <| A2 st5 <| A2 aS2 <| A2 aS3 <| A2 aS4 <| A2 aS5 <| A2 aS6 <| A2 aS7 <| A2 aS8 <| A2 aS9 <| A2 aSa <| A2 st9 <| A2 aSb <| aSc):=A2 aGf <| A2 aLc <| A2 aLd <| A2 aLe <| A2 aLf <| A2 aLg <| A2 aLh <| A2 aLi <| A2 aLj <| A2 aLk <| A2 aLl <| A2 aLm <| A2 aLn <| A2 aLo <| A2 aLp <| A2 aLq <| A2 aLr <| A2 aLs <| A2 aLt <| A2 aLu <| A2 aLv <| A2 aLw <| A2 aLx <| A2 aLy <| A2 aP3 <| A2 aLz <| A2 aP4 <| A2 aP5 <| A2 aP6 <| A2 aP7 <| A2 aP8 <| A2 aP9 <| A2 aPa <| A2 aPb <| A2 aPc <| A2 aPd <| A2 aPe <| A2 aPf <| A2 aM0 <| A2 aPg <| A2 aPh <| A2 aPi <| A2 aPj <| A2 aPk <| A2 aPl <| A2 aM1 <| A2 aM2 <| A2 aPm <| A2 aPn <| A2 aPo <| A2 aPp <| A2 aPq <| A2 aPr <| A2 aPs <| A2 aPt <| A2 aBt <| A2 aBu <| A2 aBv <| A2 aBw <| A2 aBx <| A2 aBy <| A2 aBz <| A2 aC0 <| A2 aC1 <| A2 aC2 <| A2 aC3 <| A2 aC4 <| A2 aC5 <| A2 aC6 <| A2 aC7 <| A2 aC8 <| A2 aC9 <| A2 aCa <| A2 aCb <| A2 aCc <| A2 aCd <| A2 aCe <| A2 aCf <| A2 aCg <| A2 aCh <| A2 aCi <| A2 aCj <| A2 aCk <| A2 aCl <| A2 aCm <| A2 aCn <| A2 aCo <| A2 aCp <| A2 aCq <| A2 aCr <| A2 aCs <| A2 aGg <| A2 aGh <| A2 aGi <| A2 aGj <| A2 aGk <| A2 aGl <| A2 aCt <| A2 aCu <| A2 aGm <| A2 aGn <| A2 aGo <| A2 aGp <| A2 aGq <| A2 aGr <| A2 aGs <| A2 aGt <| A2 aGu <| A2 aGv <| A2 aGw <| A2 aGx <| A2 aGy <| A2 aGz <| A2 aH0 <| A2 aH1 <| A2 aH2 <| A2 aH3 <| A2 aH4 <| A2 aH5 <| A2 aH6 <| A2 aH7 <| A2 aH8 <| A2 aH9 <| A2 aHa <| A2 aHb <| A2 aHc <| A2 aHd <| A2 aHe <| A2 aHf <| A2 aHg <| A2 aHh <| A2 aHi <| A2 aHj <| A2 aHk <| A2 aHl <| A2 aHm <| A2 aHn <| A2 aHo <| A2 aHp <| A2 aHq <| A2 aHr <| A2 aHs <| A2 aHt <| A2 aHu <| A2 aHv <| A2 aMd <| A2 aMe <| A2 aQh <| A2 aQi <| A2 aQj <| A2 aQk <| A2 aQl <| A2 aQm <| A2 aMf <| A2 aMg <| A2 aQn <| A2 aQo <| A2 aQp <| A2 aQq <| A2 aQr <| A2 aQs <| A2 aQt <| A2 aQu <| A2 aMh <| A2 aMi <| A2 aMj <| A2 ld2 <| A2 aMk <| A2 aMl <| A2 aQv <| A2 aMm <| A2 aMn <| A2 aMo <| A2 aQw <| A2 aQx <| A2 aQy <| A2 aQz <| A2 aR0 <| A2 ld3 <| A2 aR1 <| A2 aR2 <| A2 aMp <| A2 aMq <| A2 ld4 <| A2 aR3 <| A2 ld5 <| A2 aR4 <| A2 aR5 <| A2 aR6 <| A2 aR7 <| A2 aR8 <| A2 aR9 <| A2 aRa <| A2 aRb <| A2 aRc <| A2 aRd <| A2 ld9 <| A2 aRe <| A2 aRf <| A2 aHw <| A2 aHx <| A2 aMr <| A2 aMs <| A2 aMt <| A2 aMu <| A2 aMv <| A2 aMw <| A2 aHy <| A2 aHz <| A2 aMx <| A2 aMy <| A2 aMz <| A2 aN0 <| A2 aN1 <| A2 aN2 <| A2 aRg <| A2 aN3 <| A2 aN4 <| A2 aRh <| A2 aRj <| A2 aRk <| A2 aRl <| A2 aRm <| A2 aRn <| A2 aRo <| A2 aRp <| A2 aRq <| A2 aRr <| A2 aRs <| A2 aN5 <| A2 aN6 <| A2 aN7 <| A2 aN8 <| A2 aN9 <| A2 aRt <| A2 aNa <| A2 aNb <| A2 aRu <| A2 aRv <| A2 aRw <| A2 aRx <| A2 aRy <| A2 st3 <| A2 aRz <| A2 aS0 <| A2 aNc <| A2 st4 <| A2 aS1 <| A2 st5 <| A2 aS2 <| A2 aS3 <| A2 aS4 <| A2 aS5 <| A2 aS6 <| A2 aS7 <| A2 aS8 <| A2 aS9 <| A2 aSa <| A2 st9 <| A2 aSb <| aSc
theorem ls:(∀ {α:Type} (a:α) (l:List α),(a::l)[0]?=some a)∧(∀ {α:Type} (a:α) (l:List α) (i:Nat),(a::l)[i+1]?=l[i]?)∧(∀ {α:Type} (i:Nat),([]:List α)[i]?=none)∧(∀ {α:Type} (a:α) (l:List α),(a::l).length=l.length+1)∧(∀ {α:Type},([]:List α).length=0) ∧
  (∀ {α:Type} (l:List α),l.drop 0=l)∧(∀ {α:Type} (a:α) (l:List α) (i:Nat),(a::l).drop (i+1)=l.drop i)∧(∀ {α:Type} (l:List α),l.take 0=[])∧(∀ {α:Type} (a:α) (l:List α) (i:Nat),(a::l).take (i+1)=a::l.take i)∧(∀ {α:Type} (i:Nat),([]:List α).take i=[])∧(∀ {α:Type} (i:Nat),([]:List α).drop i=[]) ∧
  (∀ {α:Type} (l:List α),[]++l=l)∧(∀ {α:Type} (a:α) (l m:List α),a::l++m=a::(l++m))∧(∀ {α:Type} (a b:α) (l:List α),(a::l).set 0 b=b::l)∧(∀ {α:Type} (a b:α) (l:List α) (i:Nat),(a::l).set (i+1) b=a::l.set i b) ∧
  (∀ b:Bool,(true&&b)=b)∧(∀ b:Bool,(b&&true)=b)∧(∀ b:Bool,(!!b)=b)∧(∀ {p q:Prop},(if true=true then p else q)=p)∧(∀ {p q:Prop},(if false=true then p else q)=q)∧(!true)=false∧(!false)=true∧(∀ {α:Type} (a b:α),(if True then a else b)=a)∧(∀ {α:Type} (a b:α),(if False then a else b)=b)∧(∀ n:Nat,0+n=n)∧(∀ n:Nat,n+0=n)∧(∀ {α:Type} (f:α→List V) (l:List α),(l.map f).length=l.length) ∧
  (∀ (p:Prop) [Decidable p],(decide p=true)=p)∧(∀ (p:Prop) [Decidable p],((!decide p)=true)=¬ p)∧(∀ p:Prop,(p∧True)=p)∧(∀ p:Prop,(True∧p)=p)∧(∀ n:Nat,(n≤n)=True)∧(∀ n:Nat,(0≤n)=True)∧(∀ (a:Nat),(a=a)=True):=
 ⟨fun _ _=>rfl,fun _ _ _=>rfl,fun _=>rfl,fun _ _=>rfl,rfl,fun _=>rfl,fun _ _ _=>rfl,fun _=>rfl,fun _ _ _=>rfl,fun _=>by simp,fun _=>by simp,fun _=>rfl,fun _ _ _=>rfl,fun _ _ _=>rfl,fun _ _ _ _=>rfl,Bool.true_and,Bool.and_true,Bool.not_not,by intros;rfl,by intros;rfl,rfl,rfl,fun _ _=>if_pos trivial,fun _ _=>if_neg id,Nat.zero_add,Nat.add_zero,fun _ _=>List.length_map ..,fun p _=>by simp,fun p _=>by simp,and_true,true_and,fun n=>by simp,fun n=>by simp,fun n=>by simp⟩
theorem gm (n:Nat) (S:St) (a v:Nat):bA ⟨n,S.heap⟩ a v=bA S a v:=rfl
theorem yV {α:Type} {l:List α} {i:Nat} {a:α} (h:l[i]?=some a):((i:Int)<(l.length:Int))=True:=by
 have:=(List.getElem?_eq_some_iff.1 h).1
 simp;exact this
theorem wr1 {i:Nat} (h:i<1000000000):wr .i64 ((i:Int)+1)=((i+1:Nat):Int):=by rw [iX (by omega) (by omega)];omega
theorem oo : (∀ (S : St) (v : V), iE S v = cC kD (lK (iS S 3) S) v) ∧ (∀ (σ : V → Go.AM.R V) (l : List V), cC kD σ (.tup l) = (match frzVs kD σ l with
      | .ok cs => .ok (.tup cs)
      | .error e => .error e)) ∧ (∀ (σ : V → Go.AM.R V) (l : List V), cC kD σ (.agg l) = (match frzVs kD σ l with
      | .ok cs => .ok (.agg cs)
      | .error e => .error e)) ∧ (∀ σ : V → Go.AM.R V, frzVs kD σ [] = .ok []) ∧ (∀ (σ : V → Go.AM.R V) (v : V) (l : List V), frzVs kD σ (v :: l) = (match cC kD σ v with
      | .ok v => (match frzVs kD σ l with
        | .ok l => .ok (v :: l)
        | .error e => .error e)
      | .error e => .error e)) ∧ (∀ (σ : V → Go.AM.R V) (b : Bool), cC kD σ (.bool b) = .ok (.bool b)) ∧ (∀ (σ : V → Go.AM.R V) (k : IntKind) (n : Int), cC kD σ (.int k n) = .ok (.int k n)) ∧ (∀ (σ : V → Go.AM.R V) (s : List UInt8), cC kD σ (.str s) = .ok (.str s)) ∧
    (∀ (σ : V → Go.AM.R V) (es : List (List V)), cC kD σ (.imm es) = .ok (.imm es)) ∧ (∀ σ : V → Go.AM.R V, cC kD σ .nils = .ok (.imm [])) ∧ (∀ (σ : V → Go.AM.R V) (a b c d e : Nat), cC kD σ (.sl a b c d e) = σ (.sl a b c d e)) :=
  ⟨fun _ _ => rfl, fun σ l => by simp only [cC] <;> rfl, fun σ l => by simp only [cC] <;> rfl, fun _ => rfl, fun σ v l => by simp only [frzVs] <;> rfl, fun _ _ => rfl, fun _ _ _ => rfl, fun _ _ => rfl, fun _ _ => rfl, fun _ => rfl, fun _ _ _ _ _ _ => rfl⟩
theorem unK:(∀ (k:IntKind) (n:Int),unV .neg (.int k n)=.ok (.int k (wr k (0 - n))))∧(∀ n:Int,unV .xor (.int .u64 n)=.ok (.int .u64 (aJb n))):=⟨fun _ _=>rfl,fun _=>rfl⟩
theorem nk:(∀ n:Nat,(0=n+1)=False)∧(∀ n:Nat,(n+1=0)=False)∧(∀ n m:Nat,(n+1=m+1)=(n=m))∧(∀ {α:Type} {a b:α},(a≠b)=¬ a=b)∧(¬ False)=True:=⟨fun n=>by simp,fun n=>by simp,fun n m=>by simp,by intros;rfl,by simp⟩
theorem ex:type_of% (A2 aM3 <| A2 aM4 <| A2 aM5 <| A2 aM6 <| A2 aM7 <| A2 aM8 <| A2 aM9 <| A2 aMa <| A2 aMb <| A2 aMc <| A2 aQ0 <| A2 aQ1 <| A2 aQ3 <| A2 aQ4 <| A2 aQ6 <| A2 aQ7 <| A2 aQ9 <| A2 aQa <| A2 aQc <| A2 aQd <| A2 aQf <| aQg):=A2 aM3 <| A2 aM4 <| A2 aM5 <| A2 aM6 <| A2 aM7 <| A2 aM8 <| A2 aM9 <| A2 aMa <| A2 aMb <| A2 aMc <| A2 aQ0 <| A2 aQ1 <| A2 aQ3 <| A2 aQ4 <| A2 aQ6 <| A2 aQ7 <| A2 aQ9 <| A2 aQa <| A2 aQc <| A2 aQd <| A2 aQf <| aQg
theorem agK (P : Program) : (∀ (t : TypeId) (a b : List V), aZ P .eql t (.agg a) (.agg b) = (match kM P 100 t (.agg a) (.agg b) with
      | .ok r => .ok (.bool r)
      | .error e => .error e)) ∧ (∀ (t : TypeId) (a b : List V), aZ P .neq t (.agg a) (.agg b) = (match kM P 100 t (.agg a) (.agg b) with
      | .ok r => .ok (.bool (!r))
      | .error e => .error e)) := ⟨fun _ _ _ => rfl, fun _ _ _ => rfl⟩
theorem kk:type_of% (A2 sf <| A2 ex <| A2 (agK prog) <| A2 aNk <| A2 nk <| A2 kit <| A2 (aSe prog) <| A2 aSf <| A2 fx ls):=A2 sf <| A2 ex <| A2 (agK prog) <| A2 aNk <| A2 nk <| A2 kit <| A2 (aSe prog) <| A2 aSf <| A2 fx ls
end Go.Proofs.YtoaibmbldmckaaaGreat
end
section
namespace Go.AM
theorem Own.frz {S0 S:St} {n:Nat} {v:V} {es:List (List V)} (h:Own S0 S n v es) (hc:es.all cloVs=true):cC kD (lK (iS S 3) S) v=.ok (.imm es):=by
 rcases h.is with ⟨rfl,rfl⟩ | ⟨a,ver,tl,rfl,_,_,q⟩
 ·rfl
 ·have he:aN S (.sl a ver n 0 es.length)=.ok es:=h.sl.elems
  simp only [cC,lK,he,(cZ (S:=S) (n:=2) hc).1]
theorem Own.ptrs {S0 S:St} {n:Nat} {v:V} {es:List (List V)} (h:Own S0 S n v es):pF v=[]:=by
 rcases h.is with ⟨rfl,rfl⟩ | ⟨a,ver,tl,rfl,_,_,q⟩<;>rfl
theorem bG {α:Type} {enc:α→List V} (h:∀ x,cloVs (enc x)=true) (l:List α):(l.map enc).all cloVs=true:=by
 rw [List.all_eq_true]
 intro y hy
 obtain ⟨x,_,rfl⟩:=List.mem_map.1 hy
 exact h x
theorem Sl.imm {n:Nat} {es:List (List V)} (S:St) (h:∀ cs,cs∈es→cs.length=n∧aP cs=true):Sl S n (.imm es) es:=⟨.inr (.inl rfl),h⟩
abbrev E0:St:=⟨0,.nil⟩
theorem wP:WF E0:=fun a b h=>by cases h
theorem aSg {α:Type} {enc:α→List V} {n b:Nat} (hl:∀ x,(enc x).length=n∧aP (enc x)=true) (l:List α) {S:St} (w:WF S) (h1:l.length*b≤35184372088832) (h2:l.length<fZ):
  ∃ v S',iW n b .nils (.imm (l.map enc)) none S=.ok (v,S')∧Ext S S'∧Own E0 S' n v (l.map enc):=by
 obtain ⟨v,S',q1,q2,q3⟩:=(Sl.imm (n:=n) (es:=l.map enc) S (fun cs hc=>by obtain ⟨x,_,rfl⟩:=List.mem_map.1 hc;exact hl x)).copy (b:=b) w (by rw [List.length_map];exact h1) (by rw [List.length_map];exact h2)
 exact ⟨v,S',q1,q2,q3.weaken (Nat.zero_le _)⟩
theorem aEd {S:St} (w:WF S):Ext E0 S:=⟨fun a b h=>(by cases h),Nat.zero_le _,fun _=>w⟩
end Go.AM
namespace Go.Proofs.YtoaibmbldmckaaaGreat
open Go.AM Tryz
set_option linter.unusedVariables false
set_option linter.unusedSimpArgs false
set_option maxRecDepth 100000
end Go.Proofs.YtoaibmbldmckaaaGreat
end
section
namespace Go.AM
theorem bsl (n:Nat) (z:List V) (parts:List (Nat×V)) (fr:Option Nat) (S:St) (hn:n≤1000):dM n z 1 parts fr S=(match qI n [z] parts with
  | .error e=>.error e
  | .ok elems=>match aV fr S (.row 0 n elems) with
   | .error e=>.error e
   | .ok (a,S')=>.ok (.sl a 0 n 0 1,S')):=by
 unfold dM
 rw [if_pos (by omega)]
 rfl
theorem aSh (z:List V) (parts:List (Nat×V)) (fr:Option Nat) (S:St):type_of% (bsl 1 z parts fr S (by decide)):=bsl 1 z parts fr S (by decide)
theorem aO4 (z:List V) (parts:List (Nat×V)) (fr:Option Nat) (S:St):type_of% (bsl 4 z parts fr S (by decide)):=bsl 4 z parts fr S (by decide)
theorem xA {n m k:Nat} {h:Tr Blk} {b:Blk} (w:WF ⟨n,h⟩) (h1:k<m) (h2:n≤m):WF ⟨m,h.put k b⟩:=by
 intro a c hc
 have hc':(h.put k b).get a=some c:=hc
 rw [Tr.get_putB _ _ _ _ trivial] at hc'
 split at hc'
 ·show a<m;omega
 ·have:=w a c hc';show a<m;have:a<n:=this;omega
end Go.AM
namespace Go.Proofs.YtoaibmbldmckaaaGreat
open Go.AM Tryz
set_option linter.unusedVariables false
set_option linter.unusedSimpArgs false
set_option maxRecDepth 100000
end Go.Proofs.YtoaibmbldmckaaaGreat
end
section
namespace Go.AM
theorem Own.one {S0 S:St} {n:Nat} {v:V} {es:List (List V)} (h:Own S0 S n v es):v.one=true:=by
 rcases h.is with ⟨rfl,_⟩ | ⟨a,ver,tl,rfl,_⟩<;>rfl
theorem Own.cells {S0 S:St} {n:Nat} {v:V} {es:List (List V)} (h:Own S0 S n v es):v.cells=[v]:=by
 rcases h.is with ⟨rfl,_⟩ | ⟨a,ver,tl,rfl,_⟩<;>rfl
theorem Ext.put {S S':St} (h:Ext S S') {a m:Nat} (ha:S.next≤a) (hb:a<m) (hm:S'.next≤m) (w:WF S) (b:Blk):Ext S ⟨m,S'.heap.put a b⟩:=
 ⟨fun y c hy=>by
  show (S'.heap.put a b).get y=some c
  have:=w y c hy
  rw [Tr.get_put_neB _ _ _ _ trivial (by omega)];exact h.old y c hy,Nat.le_trans h.next hm,fun ww=>xA (h.wf ww) hb hm⟩
end Go.AM
namespace Go.Proofs.YtoaibmbldmckaaaGreat
open Go.AM Tryz
set_option linter.unusedVariables false
set_option linter.unusedSimpArgs false
set_option maxRecDepth 100000
end Go.Proofs.YtoaibmbldmckaaaGreat
end
section
namespace Go.AM
theorem Fn.back {P:Program} {pl:eE} {f:FuncId} {args:List V} {v:V} (h:∀ S K,W P pl f args S K=K v S):Fn P pl f args v:=fun S=>by
 have h1:=h S fun v' S'=>v'=v∧S'=S
 obtain ⟨v',S',e,rfl,rfl⟩:=h1.mpr ⟨rfl,rfl⟩
 exact e
theorem Own.there {S0 S:St} {n:Nat} {v:V} {es:List (List V)} (h:Own S0 S n v es) {y:Nat} (hy:blkOf v=some y):S.heap.get y≠none:=by
 rcases h.is with ⟨rfl,_⟩ | ⟨a,ver,tl,rfl,_,_,hg⟩
 ·cases hy
 ·cases hy;rw [hg];exact fun h=>by cases h
theorem aSi {n b:Nat} {S:St} {v:V} {es:List (List V)} (h:Own E0 S n v es) (w:WF S) {k1 k2 m:Nat} (f1:S.heap.get k1=none) (f2:S.heap.get k2=none) (hne:k1≠k2) (hm1:k1<m) (hm2:k2<m) (hm:S.next≤m) {c:List V} (hc:c.length=n∧aP c=true) (h1:(es.length+1)*b≤35184372088832) (h2:es.length+1<fZ):
  ∃ v' S',iW n b v (.sl k1 0 n 0 1) (some k2) ⟨m,S.heap.put k1 (.row 0 n [c])⟩=.ok (v',S')∧WF S'∧S'.next=m∧Own E0 S' n v' (es++[c])∧(blkOf v'=some k2∨blkOf v'=blkOf v)∧∀ y,y≠k1→y≠k2→blkOf v≠some y→S'.heap.get y=S.heap.get y:=by
 have w1:WF ⟨m,S.heap.put k1 (.row 0 n [c])⟩:=xA (n:=S.next) w hm1 hm
 have h':Own E0 ⟨m,S.heap.put k1 (.row 0 n [c])⟩ n v es:=h.same hm fun a ha=>Tr.get_put_neB _ _ _ _ trivial fun e=>h.there ha (by rw [e];exact f1)
 have hu:aN ⟨m,S.heap.put k1 (.row 0 n [c])⟩ (.sl k1 0 n 0 1)=.ok [c]:=by
  simp only [aN,aB];rfl
 have hf:(⟨m,S.heap.put k1 (.row 0 n [c])⟩:St).heap.get k2=none:=by
  show (S.heap.put k1 _).get k2=none
  rw [Tr.get_put_neB _ _ _ _ trivial (Ne.symm hne)];exact f2
 obtain ⟨v',S',q1,q2,q3,q4,q5,q6⟩:=h'.pushAt (b:=b) (aEd w1) wP hu (fun d hd=>by rcases List.mem_singleton.1 hd with rfl;exact hc) (by simp) (Nat.zero_le _) hm2 hf h1 h2
 refine ⟨v',S',q1,q2.wf wP,q3,q4,q5,fun y y1 y2 y3=>?_⟩
 rw [q6 y y2 y3]
 exact Tr.get_put_neB _ _ _ _ trivial y1
theorem fresh {S:St} (w:WF S) {k:Nat} (hk:S.next≤k):S.heap.get k=none:=by
 cases hq:S.heap.get k with
 | none=>rfl
 | some b=>have:=w k b hq;omega
end Go.AM
namespace Go.Proofs.YtoaibmbldmckaaaGreat
open Go.AM Tryz
set_option linter.unusedVariables false
set_option linter.unusedSimpArgs false
set_option maxRecDepth 100000
theorem aSj (x:Int):(dO x).length=1∧aP (dO x)=true:=⟨rfl,rfl⟩
end Go.Proofs.YtoaibmbldmckaaaGreat
end
section
namespace Go.AM
theorem Own.blks {S0 S:St} {n:Nat} {v:V} {es:List (List V)} (h:Own S0 S n v es) (hc:es.all cloVs=true) (k:Nat) {y:Nat} (hy:y∈eL (fV (eX S (k+1)) S) v):blkOf v=some y:=by
 rcases h.is with ⟨rfl,rfl⟩ | ⟨a,ver,tl,rfl,_,_,q⟩
 ·cases hy
 ·have he:aN S (.sl a ver n 0 es.length)=.ok es:=h.sl.elems
  simp only [eL,fV,he,(cZ (S:=S) (n:=k) hc).2,List.mem_singleton] at hy
  rw [hy];rfl
end Go.AM
namespace Go.Proofs.YtoaibmbldmckaaaGreat
open Go.AM Tryz
set_option linter.unusedVariables false
set_option linter.unusedSimpArgs false
set_option maxRecDepth 100000
end Go.Proofs.YtoaibmbldmckaaaGreat
end
section
namespace Go.Proofs.YtoaibmbldmckaaaGreat
open Go.AM Tryz
end Go.Proofs.YtoaibmbldmckaaaGreat
end
section
namespace Go.AM
theorem aCx:∀ (l:List Nat) (h:Tr Blk) {y:Nat},y ∉ l→(jB l h).get y=h.get y
 | [],_,_,_=>rfl
 | a::l,h,y,hy=>by
  simp only [List.mem_cons,not_or] at hy
  simp only [jB]
  rw [aCx l _ hy.2,Tr.get_cut,if_neg hy.1]
theorem Fn.cutE {P:Program} {pl:eE} {f:FuncId} {bs:List V} {v:V} (h:Fn P pl f bs v) {p:Nat→Option (List bB)} (hpl:pl f=some (.val p)) (hc:cloVs bs=true) {args:List V} {S:St} (hb:frzVs kD (lK (iS S 3) S) args=.ok bs) (hp:ptrsVs args=[]):
  ∃ h':Tr Blk,(∀ y,y ∉ slsVs (fV (eX S 3) S) args→h'.get y=S.heap.get y)∧∀ K,W P pl f args S K=K v ⟨S.next,h'⟩:=by
 obtain ⟨N,h⟩:=h ⟨0,.nil⟩
 obtain ⟨h',hh'⟩:∃ h',h'=(bif eZ v&&kE [] then S.heap else jB (slsVs (fV (eX S 3) S) args++[]) S.heap):=⟨_,rfl⟩
 refine ⟨h',fun y hy=>?_,fun K=>aDy ⟨N+1,fun k hk'=>?_⟩ K⟩
 ·rw [hh']
  cases eZ v&&kE []
  ·exact aCx _ _ (by rw [List.append_nil];exact hy)
  ·rfl
 obtain ⟨k,rfl⟩:∃ m,k=m+1:=⟨k - 1,by omega⟩
 have:=h (k+1) (by omega)
 simp only [cP,hpl] at this ⊢
 unfold oQ at this
 have e1:dW (ptrsVs bs)=[]:=by rw [clo_ptrs bs hc];rfl
 have e2:slsVs (fV (eX (⟨0,.nil⟩:St) 3) ⟨0,.nil⟩) bs=[]:=clo_sls bs hc
 rw [e1,e2] at this
 simp only [clo_frzs bs hc,eM,bS,List.append_nil,List.any_nil,cond_false,List.length_nil,nA,jR,sO] at this
 split at this
 ·cases this
 ·rename_i v0 S0 hrun
  split at this
  ·cases this
  ·rename_i v' hv'
   have hv:v'=v:=(Prod.mk.inj (Except.ok.inj this)).1
   subst hv
   have h1:dW (ptrsVs args)=[]:=by rw [hp];rfl
   have hi:(fun a=>lP a 0 ([]:List Nat))=kD:=rfl
   have hh:∀ l:List Nat,(l.any fun a=>fI a [])=false:=by intro l;rw [List.any_eq_false];intro a _;simp [fI]
   unfold oQ
   rw [h1]
   simp only [hi,hb,eM,bS,hh,cond_false,List.length_nil,nA,hrun,hv',jR,sO,List.append_nil,iG,hh']
end Go.AM
namespace Go.Proofs.YtoaibmbldmckaaaGreat
open Go.AM Tryz
set_option linter.unusedVariables false
set_option linter.unusedSimpArgs false
set_option maxRecDepth 100000
end Go.Proofs.YtoaibmbldmckaaaGreat
end
section
namespace Go.AM
end Go.AM
namespace Go.Proofs.YtoaibmbldmckaaaGreat
open Go.AM Tryz
set_option linter.unusedVariables false
set_option linter.unusedSimpArgs false
set_option maxRecDepth 100000
def Call.enc (c:Call):List V:=[.int .i64 c.session,.int .i64 c.seq,.int .i64 c.cmd.kind,.str c.cmd.series,.int .i64 c.cmd.limit,.str c.cmd.row.cat,.int .i64 c.cmd.row.day.y,.int .i64 c.cmd.row.day.m,.int .i64 c.cmd.row.day.d,.int .i64 c.cmd.row.bp,.int .i64 c.cmd.day.y,.int .i64 c.cmd.day.m,.int .i64 c.cmd.day.d,.imm (c.cmd.lines.map Line.enc),.str c.cmd.of.ser,.int .i64 c.cmd.of.num,.int .i64 c.cmd.session]
theorem aI5 (x:Call):x.enc.length=17∧aP x.enc=true:=⟨rfl,rfl⟩
theorem aI6 (x:Line):x.enc.length=4∧aP x.enc=true:=⟨rfl,rfl⟩
theorem aO5 {l:List Call} {i:Nat} {a:Call} (hi:l[i]?=some a) (k:IntKind):tL 17 (.imm (l.map Call.enc)) (.int k (i:Int))=.ok (.iptr a.enc 0):=ixI (enc:=Call.enc) hi rfl k
end Go.Proofs.YtoaibmbldmckaaaGreat
end
section
namespace Go.Proofs.YtoaibmbldmckaaaGreat
open Go.AM Tryz
theorem aO6 {n:Int} (h1:0≤n) (h2:n<18446744073709551616):wr .u64 n=n:=by
 unfold wr lo hi
 simp only
 rw [if_pos (by omega)]
end Go.Proofs.YtoaibmbldmckaaaGreat
end
section
namespace Go.Pack
def rdL:Nat→Nat→List UInt8→Except Int (Nat×List UInt8)
 | _,_,[]=>.error 3
 | i,acc,c::t=>if i=9∧1<c.toNat then .error 4 else if 128≤c.toNat then rdL (i+1) (acc+c.toNat % 128*2 ^ (7*i)) t else if c.toNat=0∧0<i then .error 4 else .ok (acc+c.toNat % 128*2 ^ (7*i),t)
theorem pow_step {i:Nat} (h:i≤9):i=0∨i=1∨i=2∨i=3∨i=4∨i=5∨i=6∨i=7∨i=8∨i=9:=by omega
def zag (u:Nat):Int:=if u % 2=1 then -((u / 2:Nat):Int) - 1 else ((u / 2:Nat):Int)
end Go.Pack
end
section
namespace Go.Proofs.YtoaibmbldmckaaaGreat
open Go.AM Tryz
theorem aO7 {l:List Int} {i:Nat} {a:Int} (hi:l[i]?=some a) (k:IntKind):tL 1 (.imm (l.map dO)) (.int k (i:Int))=.ok (.iptr (dO a) 0):=ixI (enc:=dO) hi rfl k
theorem aJe {u:Int} (h1:0≤u) (h2:u<18446744073709551616):aJb u=18446744073709551615 - u:=by
 unfold aJb
 simp only [IntKind.signed,Bool.false_eq_true,if_false]
 have hm:(IntKind.u64.max:Int)=18446744073709551615:=by decide
 rw [hm]
 have hb:IntKind.u64.bits=64:=rfl
 rw [hb]
 have:(BitVec.ofInt 64 18446744073709551615 ^^^ BitVec.ofInt 64 u) = ~~~(BitVec.ofInt 64 u):=by
  rw [show (BitVec.ofInt 64 18446744073709551615)=BitVec.allOnes 64 from by decide,BitVec.allOnes_xor]
 rw [this,BitVec.toNat_not]
 have hv:(BitVec.ofInt 64 u).toNat=u.toNat:=by
  rw [BitVec.toNat_ofInt]
  omega
 rw [hv,aO6 (by omega) (by omega)]
 omega
end Go.Proofs.YtoaibmbldmckaaaGreat
end
section
namespace Go.AM
theorem sU {X:St} {a ver n i:Nat} {es:List (List V)} (hg:X.heap.get a=some (.row ver n es)) (hi:i≤es.length):aN X (.sl a ver n 0 i)=.ok (es.take i):=by
 have hb:Nat.ble (0+i) es.length=true:=Nat.ble_eq_true_of_le (by omega)
 simp only [aN,aC hg,hb,cond_true,List.drop_zero]
end Go.AM
namespace Go.Proofs.YtoaibmbldmckaaaGreat
open Go.AM Tryz
set_option linter.unusedVariables false
set_option linter.unusedSimpArgs false
set_option maxRecDepth 100000
end Go.Proofs.YtoaibmbldmckaaaGreat
end
section
namespace Go.Proofs.YtoaibmbldmckaaaGreat
open Go.AM Tryz
def dY (c:UInt8):List V:=[.int .u8 (c.toNat:Int)]
theorem u81 (c:UInt8):(dY c).length=1∧aP (dY c)=true:=⟨rfl,rfl⟩
theorem wr8 (u:Nat):wr .u8 (u:Int)=((u % 256:Nat):Int):=by
 simp only [wr,lo,hi,IntKind.wrap,IntKind.min,IntKind.max,IntKind.bits,IntKind.signed,Bool.false_and,Bool.false_eq_true,if_false]
 by_cases h:(u:Int)≤255
 ·rw [if_pos ⟨by omega,h⟩];omega
 ·rw [if_neg (fun q=>h q.2)];omega
theorem aJf (t:Nat) (a b:Int):aZ prog .and t (.int .u64 a) (.int .u64 b)=.ok (.int .u64 (wr .u64 ((BitVec.toNat (BitVec.ofInt IntKind.u64.bits a &&& BitVec.ofInt IntKind.u64.bits b):Nat):Int))):=rfl
theorem vD {u:Nat} (h:u<2 ^ 64):wr .u64 (u:Int)=(u:Int):=by
 unfold wr
 rw [if_pos ⟨by show (0:Int)≤_;omega,by show _≤(18446744073709551615:Int);omega⟩]
def eZ (r:Cmd×Bool):V:=.tup [.agg [.int .i64 r.1.kind,.str r.1.series,.int .i64 r.1.limit,.str r.1.row.cat,.int .i64 r.1.row.day.y,.int .i64 r.1.row.day.m,.int .i64 r.1.row.day.d,.int .i64 r.1.row.bp,.int .i64 r.1.day.y,.int .i64 r.1.day.m,.int .i64 r.1.day.d,.imm (r.1.lines.map Line.enc),.str r.1.of.ser,.int .i64 r.1.of.num,.int .i64 r.1.session],.bool r.2]
structure Rd where
 pos:Nat
 err:Int
def Rd.cells (b:List UInt8) (r:Rd):List V:=[.imm (b.map dY),.int .i64 (r.pos:Int),.int .i64 r.err]
theorem Rd.clo (b:List UInt8) (r:Rd):[r.cells b].all cloVs=true:=by
 simp only [Rd.cells,List.all_cons,List.all_nil,cloVs,eJ,bG (enc:=dY) (fun _=>rfl) b,Bool.and_self]
abbrev FRd (f:FuncId) (ws:List V) (b:List UInt8) (r:Rd) (v:V) (r':Rd):Prop:=Fr f (fun a=>.ptr a 0 0 0::ws) 3 (r.cells b) v (r'.cells b)
theorem aSk:pX 151=some (.val (dD [])):=by kernel_rfl
theorem aUj:VT 151 Tryz.f151 [] []:=vt (by kernel_rfl)
theorem aUk (b:List UInt8) (r:Rd) (n:Nat) (e:Int):FRd 151 [.int .i64 (n:Int),.int .i64 e] b r (.int .i64 0) ⟨n,e⟩:=by
 refine FnR.of aSk (lv:=dN []) (Pt.head rfl) (Rd.clo b r) ?_ rfl (Rd.clo b _)
 rw [aUj]
 delta Tryz.f151;simp only [↓cw,↓reduceIte,Nat.reduceLT,kk,Rd.cells,aB]
 trivial
theorem aSl:pX 139=some (.val (dD [])):=by kernel_rfl
theorem aUl:VT 139 Tryz.f139 [] []:=vt (by kernel_rfl)
theorem aSm (b:List UInt8) (r:Rd):FRd 139 [] b r (.int .i64 r.err) r:=by
 refine FnR.of aSl (lv:=dN []) (Pt.head rfl) (Rd.clo b r) ?_ rfl (Rd.clo b _)
 rw [aUl]
 delta Tryz.f139;simp only [↓cw,↓reduceIte,Nat.reduceLT,kk,Rd.cells,aB]
 trivial
theorem aO8:pX 69=some (.val (dD [])):=by kernel_rfl
theorem t69:VT 69 Tryz.f69 [] [(6,[2,3,4])]:=vt (by kernel_rfl)
def aD (b:List UInt8) (r:Rd):Int×Rd:=if r.err=0 then (match Go.Pack.rdL 0 0 (b.drop r.pos) with
 | .ok (u,t)=>(Go.Pack.zag u,⟨b.length - t.length,0⟩)
 | .error e=>(0,⟨r.pos,e⟩)) else (0,r)
theorem wQ {l:List UInt8} {i:Nat} {a:UInt8} (hi:l[i]?=some a) (k:IntKind):tL 1 (.imm (l.map dY)) (.int k (i:Int))=.ok (.iptr (dY a) 0):=ixI (enc:=dY) hi rfl k
theorem aUn (t:Nat) (k:IntKind) (a:Int) (s:Nat):aZ prog .shl t (.int k a) (.int .u64 (s:Int))=.ok (.int k (wr k (a*2 ^ (min s k.bits)))):=by
 have h:¬ ((s:Int)<0):=by omega
 simp [aZ,mW,h,wr]
theorem aNm (t:Nat) (a b:Int):aZ prog .and t (.int .u8 a) (.int .u8 b)=.ok (.int .u8 (wr .u8 ((BitVec.toNat (BitVec.ofInt IntKind.u8.bits a &&& BitVec.ofInt IntKind.u8.bits b):Nat):Int))):=rfl
theorem orK (t:Nat) (a b:Int):aZ prog .or t (.int .u64 a) (.int .u64 b)=.ok (.int .u64 (wr .u64 ((BitVec.toNat (BitVec.ofInt IntKind.u64.bits a ||| BitVec.ofInt IntKind.u64.bits b):Nat):Int))):=rfl
theorem aUo (x:Nat) (h:x<256):BitVec.toNat (BitVec.ofInt 8 (x:Int) &&& BitVec.ofInt 8 127)=x % 128:=
 (by decide +kernel:∀ x:Fin 256,BitVec.toNat (BitVec.ofInt 8 (x.val:Int) &&& BitVec.ofInt 8 127)=x.val % 128) ⟨x,h⟩
theorem aCy (c:UInt8):wr .u8 ((BitVec.toNat (BitVec.ofInt IntKind.u8.bits (c.toNat:Int) &&& BitVec.ofInt IntKind.u8.bits 127):Nat):Int)=((c.toNat % 128:Nat):Int):=by
 have hc:c.toNat<256:=c.toNat_lt
 have:=aUo c.toNat hc
 have e:BitVec.toNat (BitVec.ofInt IntKind.u8.bits (c.toNat:Int) &&& BitVec.ofInt IntKind.u8.bits 127)=c.toNat % 128:=this
 rw [e,wr8];congr 1;omega
theorem yW (i acc:Nat) (c:UInt8) (t:List UInt8):Go.Pack.rdL i acc (c::t)=if i=9∧1<c.toNat then .error 4 else if 128≤c.toNat then Go.Pack.rdL (i+1) (acc+c.toNat % 128*2 ^ (7*i)) t else if c.toNat=0∧0<i then .error 4 else .ok (acc+c.toNat % 128*2 ^ (7*i),t):=by rw [Go.Pack.rdL]
theorem aJg {u:Nat} (h:u<2 ^ 64):wr .u64 ((BitVec.toNat (BitVec.ofInt IntKind.u64.bits (u:Int) &&& BitVec.ofInt IntKind.u64.bits 1):Nat):Int)=((u % 2:Nat):Int):=by
 have e:BitVec.toNat (BitVec.ofInt IntKind.u64.bits (u:Int) &&& BitVec.ofInt IntKind.u64.bits 1)=u % 2:=by
  rw [BitVec.toNat_and]
  have e1:(BitVec.ofInt IntKind.u64.bits (u:Int)).toNat=u:=by rw [BitVec.toNat_ofInt];show ((u:Int) % ((2 ^ 64:Nat):Int)).toNat=u;omega
  have e2:(BitVec.ofInt IntKind.u64.bits 1).toNat=2 ^ 1 - 1:=by decide
  rw [e1,e2,Nat.and_two_pow_sub_one_eq_mod]
 rw [e,vD (by omega)]
theorem aCz (t:Nat) (k:IntKind) (a:Int):aZ prog .shr t (.int k a) (.int .u64 1)=.ok (.int k (Int.fdiv a (2 ^ (min (Int.toNat 1) k.bits)))):=rfl
theorem aJh (u:Nat):Int.fdiv (u:Int) (2 ^ (min (Int.toNat 1) IntKind.u64.bits))=((u / 2:Nat):Int):=by
 rw [show (min (Int.toNat 1) IntKind.u64.bits)=1 from by decide,Int.fdiv_eq_ediv_of_nonneg _ (by decide)]
 omega
theorem aUp {m:Nat} (h:m<2 ^ 63):wr .i64 (aJb (m:Int))=-(m:Int) - 1:=by
 rw [aJe (by omega) (by omega)]
 simp [wr,lo,hi,IntKind.wrap,IntKind.min,IntKind.max,IntKind.bits,IntKind.signed];omega
theorem aAr {b:List UInt8} {pos:Nat} {e0:Int} {S:St} {a:Nat} (hS:S.heap.get a=some (.row 0 3 [[.imm (b.map dY),.int .i64 (pos:Int),.int .i64 e0]])) (n:Nat) (e:Int) (K:KW):C 151 [.ptr a 0 0 0,.int .i64 (n:Int),.int .i64 e] S K=K (.int .i64 0) ⟨S.next,S.heap.put a (.row 0 3 [[.imm (b.map dY),.int .i64 (n:Int),.int .i64 e]])⟩:=(aUk b ⟨pos,e0⟩ n e).eq hS K
theorem aNn {i acc c:Nat} (hi:i≤9) (ha:acc<2 ^ (7*i)) (h9:¬ (i=9∧1<c)):c % 128*2 ^ (7*i)<2 ^ 64∧acc+c % 128*2 ^ (7*i)<2 ^ 64∧acc<2 ^ 64∧(i≤8→acc+c % 128*2 ^ (7*i)<2 ^ (7*(i+1)))∧7*i≤63:=by
 rcases Go.Pack.pow_step hi with rfl | rfl | rfl | rfl | rfl | rfl | rfl | rfl | rfl | rfl<;>simp only [Nat.reduceMul,Nat.reduceSub,Nat.reducePow,Nat.reduceAdd] at ha ⊢<;>omega
theorem aNo {acc m i:Nat} (ha:acc<2 ^ (7*i)) (h1:m*2 ^ (7*i)<2 ^ 64) (h2:acc+m*2 ^ (7*i)<2 ^ 64) (h3:acc<2 ^ 64):wr .u64 ((BitVec.toNat (BitVec.ofInt IntKind.u64.bits (acc:Int) ||| BitVec.ofInt IntKind.u64.bits ((m*2 ^ (7*i):Nat):Int)):Nat):Int)=((acc+m*2 ^ (7*i):Nat):Int):=by
 have k1:m <<< (7*i)=m*2 ^ (7*i):=Nat.shiftLeft_eq m (7*i)
 have k2:=Nat.shiftLeft_add_eq_or_of_lt ha m
 rw [k1] at k2
 generalize m*2 ^ (7*i)=w at h1 h2 k2 ⊢
 have e:BitVec.toNat (BitVec.ofInt IntKind.u64.bits (acc:Int) ||| BitVec.ofInt IntKind.u64.bits (w:Int))=acc+w:=by
  rw [BitVec.toNat_or]
  have e1:(BitVec.ofInt IntKind.u64.bits (acc:Int)).toNat=acc:=by rw [BitVec.toNat_ofInt];show ((acc:Int) % ((2 ^ 64:Nat):Int)).toNat=acc;omega
  have e2:(BitVec.ofInt IntKind.u64.bits (w:Int)).toNat=w:=by rw [BitVec.toNat_ofInt];show ((w:Int) % ((2 ^ 64:Nat):Int)).toNat=_;omega
  rw [e1,e2,Nat.or_comm,←k2,Nat.add_comm]
 rw [e,vD h2]
theorem sh7 {i m:Nat} (h7:7*i≤63) (h:m*2 ^ (7*i)<2 ^ 64):wr .u64 ((m:Int)*2 ^ (min (7*i) IntKind.u64.bits))=((m*2 ^ (7*i):Nat):Int):=by
 rw [show min (7*i) IntKind.u64.bits=7*i by show min (7*i) 64=_;omega]
 have e:(m:Int)*2 ^ (7*i)=((m*2 ^ (7*i):Nat):Int):=by rw [Int.natCast_mul,Int.natCast_pow];rfl
 rw [e,vD h]
theorem i7 {i:Nat} (h:7*i≤63):wr .u64 (wr .i64 (7*(i:Int)))=((7*i:Nat):Int):=by
 rw [iX (by omega) (by omega),show (7*(i:Int))=((7*i:Nat):Int) by omega,vD (by omega)]
theorem b69 {b:List UInt8} (hb:b.length<1000000000) {r:Rd} (hr:r.pos≤b.length):fR prog C (dD []) (dN [(6,[2,3,4])]) 69 [.ptr 0 0 0 0] ⟨1,Tr.nil.put 0 (.row 0 3 [r.cells b])⟩ fun v0 S0=>v0=.int .i64 (aD b r).1∧S0.heap.get 0=some (.row 0 3 [(aD b r).2.cells b]):=by
 rw [t69]
 delta Tryz.f69;simp only [↓cw,↓reduceIte,Nat.reduceLT,kk,Rd.cells,aB]
 by_cases he:r.err=0
 ·simp only [↓cw,↓reduceIte,Nat.reduceLT,kk,he,if_true,if_false,not_true_eq_false]
  refine jZ (fun m vs X=>∃ i acc:Nat,m=10 - i∧i≤9∧vs=[.int .i64 0,.int .u64 (acc:Int),.int .i64 (i:Int)]∧X.heap=Tr.nil.put 0 (Blk.row 0 3 [[V.imm (b.map dY),V.int IntKind.i64 (r.pos:Int),V.int IntKind.i64 0]])∧acc<2 ^ (7*i)∧r.pos+i≤b.length∧Go.Pack.rdL i acc (b.drop (r.pos+i))=Go.Pack.rdL 0 0 (b.drop r.pos)) ?_ ⟨0,0,rfl,by omega,rfl,rfl,by decide,by omega,rfl⟩
  rintro m vs ⟨nx,hp⟩ ⟨i,acc,rfl,hi,rfl,hX,ha,hpi,hrd⟩ bF hag
  simp only at hX
  subst hX
  have hw:wr .i64 ((r.pos:Int)+(i:Int))=((r.pos+i:Nat):Int):=by rw [iX (by omega) (by omega)];omega
  simp only [↓cw,↓reduceIte,Nat.reduceLT,kk,aB,hw]
  by_cases hs:b.length≤r.pos+i
  ·simp only [↓cw,↓reduceIte,Nat.reduceLT,kk,show ((b.length:Int)≤((r.pos+i:Nat):Int))=True by simp;omega,if_true]
   refine Eq.mpr (aAr (b:=b) (pos:=r.pos) (e0:=0) (Tr.get_put_sameB _ _ _ trivial) r.pos 3 _) ?_
   have hN:aD b r=(0,⟨r.pos,3⟩):=by unfold aD;rw [if_pos he,←hrd,List.drop_eq_nil_of_le hs];rfl
   rw [hN]
   exact ⟨rfl,Tr.get_put_sameB _ _ _ trivial⟩
  ·obtain ⟨c,hc⟩:∃ c,b[r.pos+i]?=some c:=⟨_,List.getElem?_eq_getElem (by omega)⟩
   have hd:b.drop (r.pos+i)=c::b.drop (r.pos+(i+1)):=by
    obtain ⟨hl,hcc⟩:=List.getElem?_eq_some_iff.1 hc
    rw [←hcc];exact (List.getElem_cons_drop hl).symm
   rw [hd,yW] at hrd
   have hN:aD b r=(match Go.Pack.rdL 0 0 (b.drop r.pos) with
    | .ok (u,t)=>(Go.Pack.zag u,⟨b.length - t.length,0⟩)
    | .error e=>(0,⟨r.pos,e⟩)):=by unfold aD;rw [if_pos he]
   rw [←hrd] at hN
   have hu8:(dY c)[0]?=some (.int .u8 (c.toNat:Int)):=rfl
   by_cases h91:i=9∧1<c.toNat
   ·rw [if_pos h91] at hN
    simp only [↓cw,↓reduceIte,Nat.reduceLT,kk,show ((b.length:Int)≤((r.pos+i:Nat):Int))=False by simp;omega,if_false,wQ hc,hu8,show ((i:Int)=9)=True by simp;omega,if_true,show ((1:Int)<(c.toNat:Int))=True by simp;omega]
    refine Eq.mpr (aAr (b:=b) (pos:=r.pos) (e0:=0) (Tr.get_put_sameB _ _ _ trivial) r.pos 4 _) ?_
    rw [hN]
    exact ⟨rfl,Tr.get_put_sameB _ _ _ trivial⟩
   rw [if_neg h91] at hN
   obtain ⟨q1,q2,q3,q4,q5⟩:=aNn hi ha h91
   have hlow:wr .u64 ((c.toNat % 128:Nat):Int)=((c.toNat % 128:Nat):Int):=vD (by omega)
   have h99:∀ (A B:Prop),(if (i:Int)=9 then (if (1:Int)<(c.toNat:Int) then A else B) else B)=B:=by
    intro A B
    split
    ·rw [if_neg (by omega)]
    ·rfl
   simp only [↓cw,↓reduceIte,Nat.reduceLT,kk,show ((b.length:Int)≤((r.pos+i:Nat):Int))=False by simp;omega,if_false,wQ hc,hu8,h99,aNm,aCy,hlow,i7 q5,aUn,sh7 q5 q1,orK,aNo ha q1 q2 q3,wr1 (show i<1000000000 by omega)]
   by_cases h128:128≤c.toNat
   ·rw [if_pos h128] at hrd
    simp only [show ((128:Int)≤(c.toNat:Int))=True by simp;omega,if_true]
    exact hag (10 - (i+1)) _ _ (by omega) ⟨i+1,_,rfl,by omega,rfl,rfl,q4 (by omega),by omega,by rw [if_neg h91] at hrd;exact hrd⟩
   rw [if_neg h128] at hN
   simp only [show ((128:Int)≤(c.toNat:Int))=False by simp;omega,if_false]
   by_cases h0:c.toNat=0∧0<i
   ·rw [if_pos h0] at hN
    simp only [show ((c.toNat:Int)=0)=True by simp;omega,show ((0:Int)<(i:Int))=True by simp;omega,if_true]
    refine Eq.mpr (aAr (b:=b) (pos:=r.pos) (e0:=0) (Tr.get_put_sameB _ _ _ trivial) r.pos 4 _) ?_
    rw [hN]
    exact ⟨rfl,Tr.get_put_sameB _ _ _ trivial⟩
   rw [if_neg h0] at hN
   have h00:∀ (A B:Prop),(if (c.toNat:Int)=0 then (if (0:Int)<(i:Int) then A else B) else B)=B:=by
    intro A B
    split
    ·rw [if_neg (by omega)]
    ·rfl
   have hv:wr .i64 ((r.pos:Int)+((i+1:Nat):Int))=((b.length - (b.drop (r.pos+(i+1))).length:Nat):Int):=by rw [iX (by omega) (by omega),List.length_drop];omega
   generalize acc+c.toNat % 128*2 ^ (7*i)=u at *
   by_cases hodd:u % 2=1
   ·have hz:Go.Pack.zag u=-((u / 2:Nat):Int) - 1:=by unfold Go.Pack.zag;rw [if_pos hodd]
    simp only [↓cw,↓reduceIte,Nat.reduceLT,kk,h00,hv,aJf,unK,aJg q2,hodd,aCz,aJh,aUp (show u / 2<2 ^ 63 by omega),Int.natCast_one,if_true]
    rw [hN]
    exact ⟨congrArg (V.int .i64) hz.symm,Tr.get_put_sameB _ _ _ trivial⟩
   ·have hz:Go.Pack.zag u=((u / 2:Nat):Int):=by unfold Go.Pack.zag;rw [if_neg hodd]
    simp only [↓cw,↓reduceIte,Nat.reduceLT,kk,h00,hv,aJf,unK,aJg q2,show (((u % 2:Nat):Int)=1)=False by simp;omega,aCz,aJh,if_false,iX (show -9223372036854775808≤((u / 2:Nat):Int) by omega) (show ((u / 2:Nat):Int)≤9223372036854775807 by omega)]
    rw [hN]
    exact ⟨congrArg (V.int .i64) hz.symm,Tr.get_put_sameB _ _ _ trivial⟩
 ·simp only [↓cw,↓reduceIte,Nat.reduceLT,kk,he,if_true,if_false,not_false_eq_true,aD]
  trivial
theorem r69 {b:List UInt8} (hb:b.length<1000000000) {r:Rd} (hr:r.pos≤b.length):FRd 69 [] b r (.int .i64 (aD b r).1) (aD b r).2:=FnR.of aO8 (lv:=dN [(6,[2,3,4])]) (Pt.head rfl) (Rd.clo b r) (b69 hb hr) rfl (Rd.clo b _)
theorem aY {b:List UInt8} {r:Rd} (hr:r.pos≤b.length):(aD b r).2.pos≤b.length:=by
 unfold aD
 split
 ·split
  ·exact Nat.sub_le _ _
  ·exact hr
 ·exact hr
def dR (b:List UInt8) (lo hi:Int) (r:Rd):Int×Rd:=if (aD b r).2.err=0 then (if (aD b r).1<lo then (0,⟨r.pos,2⟩) else if hi<(aD b r).1 then (0,⟨r.pos,2⟩) else aD b r) else aD b r
theorem jK {b:List UInt8} {lo hi:Int} {r:Rd} (hr:r.pos≤b.length):(dR b lo hi r).2.pos≤b.length:=by
 unfold dR
 repeat' split
 all_goals first | exact hr | exact aY hr
theorem aSn:pX 216=some (.val (dD [])):=by kernel_rfl
theorem aUr:VT 216 Tryz.f216 [] []:=vt (by kernel_rfl)
theorem aSo {b:List UInt8} (hb:b.length<1000000000) {r:Rd} (hr:r.pos≤b.length) (lo hi:Int):FRd 216 [.int .i64 lo,.int .i64 hi] b r (.int .i64 (dR b lo hi r).1) (dR b lo hi r).2:=by
 refine FnR.of aSn (lv:=dN []) (Pt.head rfl) (Rd.clo b r) ?_ rfl (Rd.clo b _)
 rw [aUr]
 delta Tryz.f216;simp only [↓cw,↓reduceIte,Nat.reduceLT,kk,Rd.cells,aB]
 refine Eq.mpr ((r69 hb hr).eq (Tr.get_put_sameB _ _ _ trivial) _) ?_
 unfold dR
 generalize aD b r=x
 obtain ⟨n,p,e⟩:=x
 simp only [↓cw,↓reduceIte,Nat.reduceLT,kk,Rd.cells,aB]
 by_cases he:e=0
 ·by_cases h1:n<lo
  ·simp only [↓cw,↓reduceIte,Nat.reduceLT,kk,he,h1,if_true,aB]
   refine Eq.mpr (aAr (b:=b) (pos:=p) (e0:=0) (Tr.get_put_sameB _ _ _ trivial) r.pos 2 _) ?_
   first | exact ⟨rfl,Tr.get_put_sameB _ _ _ trivial⟩ | exact Tr.get_put_sameB _ _ _ trivial
  ·by_cases h2:hi<n
   ·simp only [↓cw,↓reduceIte,Nat.reduceLT,kk,he,h1,h2,if_true,if_false,aB]
    refine Eq.mpr (aAr (b:=b) (pos:=p) (e0:=0) (Tr.get_put_sameB _ _ _ trivial) r.pos 2 _) ?_
    first | exact ⟨rfl,Tr.get_put_sameB _ _ _ trivial⟩ | exact Tr.get_put_sameB _ _ _ trivial
   ·simp only [↓cw,↓reduceIte,Nat.reduceLT,kk,he,h1,h2,if_true,if_false,aB]
    first | exact ⟨rfl,Tr.get_put_sameB _ _ _ trivial⟩ | exact Tr.get_put_sameB _ _ _ trivial
 ·simp only [↓cw,↓reduceIte,Nat.reduceLT,kk,he,if_true,if_false,aB]
  first | exact ⟨rfl,Tr.get_put_sameB _ _ _ trivial⟩ | exact Tr.get_put_sameB _ _ _ trivial
def cG (b:List UInt8) (most:Int) (r:Rd):Int×Rd:=if (dR b 0 most r).2.err=0 then (if (b.length:Int) - (dR b 0 most r).2.pos<(dR b 0 most r).1 then (0,⟨r.pos,3⟩) else dR b 0 most r) else dR b 0 most r
theorem vE {b:List UInt8} {most:Int} {r:Rd} (hr:r.pos≤b.length):(cG b most r).2.pos≤b.length:=by
 unfold cG
 repeat' split
 all_goals first | exact hr | exact jK hr
theorem aSp:pX 145=some (.val (dD [])):=by kernel_rfl
theorem aUs:VT 145 Tryz.f145 [] []:=vt (by kernel_rfl)
theorem aUt {b:List UInt8} (hb:b.length<1000000000) {r:Rd} (hr:r.pos≤b.length) (most:Int):FRd 145 [.int .i64 most] b r (.int .i64 (cG b most r).1) (cG b most r).2:=by
 refine FnR.of aSp (lv:=dN []) (Pt.head rfl) (Rd.clo b r) ?_ rfl (Rd.clo b _)
 rw [aUs]
 delta Tryz.f145;simp only [↓cw,↓reduceIte,Nat.reduceLT,kk,Rd.cells,aB]
 refine Eq.mpr ((aSo hb hr 0 most).eq (Tr.get_put_sameB _ _ _ trivial) _) ?_
 have hp:=jK (lo:=0) (hi:=most) hr
 unfold cG
 generalize dR b 0 most r=x at hp ⊢
 obtain ⟨n,p,e⟩:=x
 simp only at hp
 have hw:wr .i64 ((b.length:Int) - (p:Int))=(b.length:Int) - (p:Int):=iX (by omega) (by omega)
 simp only [↓cw,↓reduceIte,Nat.reduceLT,kk,Rd.cells,aB,hw]
 by_cases he:e=0
 ·by_cases h1:(b.length:Int) - (p:Int)<n
  ·simp only [↓cw,↓reduceIte,Nat.reduceLT,kk,he,h1,if_true,aB,hw]
   refine Eq.mpr (aAr (b:=b) (pos:=p) (e0:=0) (Tr.get_put_sameB _ _ _ trivial) r.pos 3 _) ?_
   first | exact ⟨rfl,Tr.get_put_sameB _ _ _ trivial⟩ | exact Tr.get_put_sameB _ _ _ trivial
  ·simp only [↓cw,↓reduceIte,Nat.reduceLT,kk,he,h1,if_true,if_false,aB,hw]
   first | exact ⟨rfl,Tr.get_put_sameB _ _ _ trivial⟩ | exact Tr.get_put_sameB _ _ _ trivial
 ·simp only [↓cw,↓reduceIte,Nat.reduceLT,kk,he,if_true,if_false,aB]
  first | exact ⟨rfl,Tr.get_put_sameB _ _ _ trivial⟩ | exact Tr.get_put_sameB _ _ _ trivial
def cQ (b:List UInt8) (r:Rd):Rd:=if r.err=0 then (if r.pos<b.length then ⟨r.pos,5⟩ else r) else r
theorem aUu:pX 70=some (.val (dD [])):=by kernel_rfl
theorem t70:VT 70 Tryz.f70 [] []:=vt (by kernel_rfl)
theorem r70 {b:List UInt8} {r:Rd}:FRd 70 [] b r (.int .i64 (cQ b r).err) (cQ b r):=by
 refine FnR.of aUu (lv:=dN []) (Pt.head rfl) (Rd.clo b r) ?_ rfl (Rd.clo b _)
 rw [t70]
 obtain ⟨p,e⟩:=r
 delta Tryz.f70;simp only [↓cw,↓reduceIte,Nat.reduceLT,kk,Rd.cells,aB,cQ]
 by_cases he:e=0
 ·by_cases h1:p<b.length
  ·simp only [↓cw,↓reduceIte,Nat.reduceLT,kk,he,show ((p:Int)<(b.length:Int))=True by simp;exact h1,if_pos h1,if_true,aB]
   trivial
  ·simp only [↓cw,↓reduceIte,Nat.reduceLT,kk,he,show ((p:Int)<(b.length:Int))=False by simp;omega,if_neg h1,if_true,if_false,aB]
   trivial
 ·simp only [↓cw,↓reduceIte,Nat.reduceLT,kk,he,if_true,if_false,aB]
  trivial
theorem wS {b:List UInt8} {lo hi:Int} {r:Rd} (he:(dR b lo hi r).2.err=0):lo≤(dR b lo hi r).1∧(dR b lo hi r).1≤hi:=by
 unfold dR at he ⊢
 split
 ·rename_i h
  rw [if_pos h] at he
  split
  ·rename_i h1;rw [if_pos h1] at he;cases he
  ·rename_i h1
   rw [if_neg h1] at he
   split
   ·rename_i h2;rw [if_pos h2] at he;cases he
   ·exact ⟨by omega,by omega⟩
 ·rename_i h
  rw [if_neg h] at he
  exact absurd he h
def aE (b:List UInt8) (most:Int) (r:Rd):List UInt8×Rd:=if (dR b 0 most r).2.err=0 then (if (b.length:Int) - (dR b 0 most r).2.pos<(dR b 0 most r).1 then ([],⟨r.pos,3⟩) else ((b.drop (dR b 0 most r).2.pos).take (dR b 0 most r).1.toNat,⟨(dR b 0 most r).2.pos+(dR b 0 most r).1.toNat,0⟩)) else ([],(dR b 0 most r).2)
theorem bD {b:List UInt8} {most:Int} {r:Rd} (hr:r.pos≤b.length):(aE b most r).2.pos≤b.length:=by
 unfold aE
 have:=jK (lo:=0) (hi:=most) hr
 repeat' split
 all_goals first | exact hr | exact this | (show _+_≤_;omega)
theorem aNp {b:List UInt8} {p m:Nat} (h:p+m≤b.length):eK prog 22 (.imm (b.map dY)) (some (.int .i64 (p:Int))) (some (.int .i64 ((p+m:Nat):Int)))=.ok (.imm (((b.drop p).take m).map dY)):=by
 have hb:eA (b.map dY).length (some (.int .i64 (p:Int))) (some (.int .i64 ((p+m:Nat):Int)))=.ok (p,p+m):=by
  have t1:(decide ((0:Int)≤((p+m:Nat):Int))&&decide (((p+m:Nat):Int)≤((b.map dY).length:Int)))=true:=by simp;omega
  have t2:(decide ((0:Int)≤(p:Int))&&decide ((p:Int)≤((p+m:Nat):Int)))=true:=by simp;omega
  simp only [eA,t1,t2,cond_true,Int.toNat_natCast]
 rw [aRi _ (hJ (n:=1) (fun c hc=>by obtain ⟨x,_,rfl⟩:=List.mem_map.1 hc;exact u81 x)).1,hb]
 simp only [←List.map_take,←List.map_drop,List.drop_take,Nat.add_sub_cancel_left]
theorem aI7:∀ l:List UInt8,bU (l.map dY)=some l
 | []=>rfl
 | c::l=>by simp only [List.map_cons,dY,bU,aI7 l];simp
theorem aSq (l:List UInt8) (fr:Option Nat) (S:St):bP prog 22 9 (.imm (l.map dY)) fr S=.ok (.str l,S):=by
 have e1:prog.underlying 22=some (.slice 5):=by kernel_rfl
 have e2:prog.underlying 9=some .string:=by kernel_rfl
 have e3:prog.underlying 5=some (.int .u8):=by kernel_rfl
 have e4:aN S (.imm (l.map dY))=.ok (l.map dY):=rfl
 simp only [bP,e1,e2,e3,e4,aI7]
theorem aSr:pX 146=some (.val (dD [])):=by kernel_rfl
theorem aUv:VT 146 Tryz.f146 [] []:=vt (by kernel_rfl)
theorem yX {b:List UInt8} (hb:b.length<1000000000) {r:Rd} (hr:r.pos≤b.length) (most:Int):FRd 146 [.int .i64 most] b r (.str (aE b most r).1) (aE b most r).2:=by
 refine FnR.of aSr (lv:=dN []) (Pt.head rfl) (Rd.clo b r) ?_ rfl (Rd.clo b _)
 rw [aUv]
 delta Tryz.f146;simp only [↓cw,↓reduceIte,Nat.reduceLT,kk,Rd.cells,aB]
 refine Eq.mpr ((aSo hb hr 0 most).eq (Tr.get_put_sameB _ _ _ trivial) _) ?_
 have hp:=jK (lo:=0) (hi:=most) hr
 have hk:=wS (b:=b) (lo:=0) (hi:=most) (r:=r)
 unfold aE
 generalize dR b 0 most r=x at hp hk ⊢
 obtain ⟨n,p,e⟩:=x
 simp only at hp hk
 have hw:wr .i64 ((b.length:Int) - (p:Int))=(b.length:Int) - (p:Int):=iX (by omega) (by omega)
 simp only [↓cw,↓reduceIte,Nat.reduceLT,kk,Rd.cells,aB,hw]
 by_cases he:e=0
 ·obtain ⟨k1,k2⟩:=hk he
  obtain ⟨m,rfl⟩:=Int.eq_ofNat_of_zero_le k1
  by_cases h1:(b.length:Int) - (p:Int)<(m:Int)
  ·simp only [↓cw,↓reduceIte,Nat.reduceLT,kk,he,h1,if_true,aB,hw,not_true_eq_false,if_false]
   refine Eq.mpr (aAr (b:=b) (pos:=p) (e0:=0) (Tr.get_put_sameB _ _ _ trivial) r.pos 3 _) ?_
   first | exact ⟨rfl,Tr.get_put_sameB _ _ _ trivial⟩ | exact Tr.get_put_sameB _ _ _ trivial
  ·have hw2:wr .i64 ((p:Int)+(m:Int))=((p+m:Nat):Int):=by rw [iX (by omega) (by omega)];omega
   simp only [↓cw,↓reduceIte,Nat.reduceLT,kk,he,h1,if_true,if_false,not_true_eq_false,aB,hw,hw2]
   have hm:((m:Int)).toNat=m:=by omega
   simp only [↓cw,↓reduceIte,Nat.reduceLT,kk,aNp (show p+m≤b.length by omega),aSq,aB,hw2,hm]
   first | exact ⟨rfl,Tr.get_put_sameB _ _ _ trivial⟩ | exact Tr.get_put_sameB _ _ _ trivial
 ·simp only [↓cw,↓reduceIte,Nat.reduceLT,kk,he,if_true,if_false,not_false_eq_true,aB]
  first | exact ⟨rfl,Tr.get_put_sameB _ _ _ trivial⟩ | exact Tr.get_put_sameB _ _ _ trivial
theorem gS {α:Type} {t:Tr α} {n:Nat} {x:α}:(t.put n x).get n=some x:=Tr.get_put_sameB _ _ _ trivial
theorem gN {α:Type} {t:Tr α} {n m:Nat} {x:α} {y:Option α} (g:t.get m=y) (h:m≠n:=by omega):(t.put n x).get m=y:=(Tr.get_put_neB _ _ _ _ trivial h).trans g
theorem yY:type_of% (A2 (pD (show (2:Nat)≠0 by decide)) <| A2 (pD (show (1:Nat)≠0 by decide)) <| A2 (pD (show (1:Nat)≠2 by decide)) <| A2 (pD (show (2:Nat)≠1 by decide)) <| A2 (pD (show (0:Nat)≠1 by decide)) (pD (show (0:Nat)≠2 by decide))):=A2 (pD (show (2:Nat)≠0 by decide)) <| A2 (pD (show (1:Nat)≠0 by decide)) <| A2 (pD (show (1:Nat)≠2 by decide)) <| A2 (pD (show (2:Nat)≠1 by decide)) <| A2 (pD (show (0:Nat)≠1 by decide)) (pD (show (0:Nat)≠2 by decide))
def aW (b:List UInt8) (r:Rd):Date×Rd:=(⟨(aD b r).1,(aD b (aD b r).2).1,(aD b (aD b (aD b r).2).2).1⟩,(aD b (aD b (aD b r).2).2).2)
theorem eH {b:List UInt8} {r:Rd} (hr:r.pos≤b.length):(aW b r).2.pos≤b.length:=aY (aY (aY hr))
def St.at (S:St) (a:Nat) (c:List V):St:=⟨S.next,S.heap.put a (.row 0 3 [c])⟩
theorem St.at_get (S:St) (a:Nat) (c:List V):(St.at S a c).heap.get a=some (.row 0 3 [c]):=Tr.get_put_sameB _ _ _ trivial
theorem St.wf_at {S:St} {a:Nat} {d:List V} (h:a<S.next) (w:WF S):WF (St.at S a d):=by
 intro x bx hx
 by_cases e:x=a
 ·rw [e];exact h
 ·unfold St.at at hx
  rw [Tr.get_put_neB _ _ _ _ trivial e] at hx
  exact w x bx hx
theorem lO {b:List UInt8} {most:Int} {r:Rd} (hm:0≤most) (hq:(cG b most r).2.err≠0→(cG b most r).1=0):0≤(cG b most r).1∧(cG b most r).1≤most:=by
 by_cases he:(cG b most r).2.err=0
 ·unfold cG at he ⊢
  split
  ·rename_i h1
   split
   ·exact ⟨Int.le_refl _,hm⟩
   ·exact wS h1
  ·rename_i h1
   rw [if_neg h1] at he
   exact absurd he h1
 ·rw [hq he];exact ⟨Int.le_refl _,hm⟩
theorem aAs {b:List UInt8} {r:Rd} (h:(aD b r).2.err≠0):(aD b r).1=0:=by
 unfold aD at h ⊢
 split
 ·rename_i h1
  rw [if_pos h1] at h
  split
  ·rename_i e;rw [e] at h;exact absurd rfl h
  ·rfl
 ·rfl
theorem aEe {b:List UInt8} {lo hi:Int} {r:Rd} (h:(dR b lo hi r).2.err≠0):(dR b lo hi r).1=0:=by
 unfold dR at h ⊢
 split
 ·rename_i h1
  split
  ·rfl
  ·split
   ·rfl
   ·rename_i h2 h3
    rw [if_pos h1,if_neg h2,if_neg h3] at h
    exact absurd h1 h
 ·rename_i h1;exact aAs h1
theorem kB {b:List UInt8} {most:Int} {r:Rd} (h:(cG b most r).2.err≠0):(cG b most r).1=0:=by
 unfold cG at h ⊢
 split
 ·rename_i h1
  split
  ·rfl
  ·rename_i h2
   rw [if_pos h1,if_neg h2] at h
   exact absurd h1 h
 ·rename_i h1;exact aEe h1
theorem aO4 (z:List V) (parts:List (Nat×V)) (fr:Option Nat) (S:St):type_of% (bsl 4 z parts fr S (by decide)):=bsl 4 z parts fr S (by decide)
theorem Own.apart {S0 S1 X:St} {m n:Nat} (hmn:m≠n) {u v:V} {es fs:List (List V)} (o:Own S0 X m u es) (q:Own S1 X n v fs) {y:Nat} (hu:blkOf u=some y):blkOf v≠some y:=by
 intro hv
 rcases o.is with ⟨rfl,_⟩ | ⟨a1,ver1,tl1,rfl,_,_,h1⟩
 ·cases hu
 ·cases hu
  rcases q.is with ⟨rfl,_⟩ | ⟨a2,ver2,tl2,rfl,_,_,h2⟩
  ·cases hv
  ·cases hv
   have e:=h1.symm.trans h2
   injection e with e
   injection e with _ e2
   exact hmn e2
end Go.Proofs.YtoaibmbldmckaaaGreat
end
section
namespace Go.AM
set_option linter.unusedVariables false
set_option linter.unusedSimpArgs false
set_option maxRecDepth 100000
section
variable {P:Program} {pl:eE}
theorem FnR.nil {f:FuncId} {p:Nat→Option (List bB)} (hpl:pl f=some (.val p)) {lv:Nat→List Nat} {mk:Nat→List V} (hm:Pt mk) {ver n:Nat} {pre0 pre post:List (List V)} {v:V}
  (h:fR P (W P pl) p lv f (mk 0) ⟨1,Tr.nil.put 0 (.row ver n pre)⟩ fun v0 S0=>v0=v∧S0.heap.get 0=some (.row ver n post)) (hv:eJ v=true) (hq:post.all cloVs=true) {S:St} {a:Nat} (hS:S.heap.get a=some (.row ver n pre0))
  (h1:gD (iS S 3) pre0=.ok pre) (h2:hZ (eX S 3) pre0=[]) (K:KW):W P pl f (mk a) S K=K v ⟨S.next,S.heap.put a (.row ver n post)⟩:=by
 obtain ⟨v0,S0,g1,rfl,g2⟩:=fL aDx h
 refine aDy (iF (g1.one fun k g1=>?_)) K
 simp only [cP,hpl]
 obtain ⟨q1,q2⟩:=cZ (S:=S0) (n:=2) hq
 unfold oQ
 rw [hm.ptr,hm.sls]
 have hA:([]++bS S [a])=[]:=by simp only [bS,hS,h2,List.append_nil,List.nil_append]
 have hB:(eL (fV (eX S0 3) S0) v0++bS S0 (jR 0 1)).any (fun a=>Nat.blt a 1)=false:=by
  simp only [jR,bS,g2,q2,sN v0 hv,List.append_nil,List.any_nil]
 rw [hA]
 simp only [hm.frz,eM,hS,h1,List.any_nil,cond_false,List.length_cons,List.length_nil,Nat.zero_add,nA,g1,iO v0 hv,hB,iG]
 have:eM S0 (jR 0 1)=.ok [(ver,n,post)]:=by simp only [jR,eM,g2,q1]
 rw [this]
 simp only [jB,iG]
 cases eZ v0&&kE [(ver,n,post)]<;>rfl
end
end Go.AM
namespace Go.Proofs.YtoaibmbldmckaaaGreat
open Go.AM Tryz
set_option linter.unusedVariables false
set_option linter.unusedSimpArgs false
set_option maxRecDepth 100000
end Go.Proofs.YtoaibmbldmckaaaGreat
end
section
namespace Go.Proofs.YtoaibmbldmckaaaGreat
open Go.AM Tryz
section
theorem Own.wide {S0 X:St} {n m:Nat} {v:V} {es:List (List V)} (o:Own S0 X n v es) {y ver:Nat} {el:List (List V)} (hy:X.heap.get y=some (.row ver m el)) (hne:m≠n):AM.blkOf v≠some y:=by
 intro e
 rcases o.is with ⟨rfl,_⟩ | ⟨a,ver',tl,rfl,_,_,hg⟩
 ·cases e
 ·cases e
  rw [hy] at hg
  injection hg with hg
  injection hg with _ h2
  exact hne h2
section
variable {S X:St} {q:Nat} {tv sv pv cv:V} {nx:Int} {us:List V} {ser:List Ser} {l:List Posted} {bv:V}
end
end
theorem Own.wput {S0 X:St} {n:Nat} {v:V} {es:List (List V)} (o:Own S0 X n v es) {y ver m k:Nat} {el:List (List V)} (hy:X.heap.get y=some (.row ver m el)) (hne:m≠n) (hk:X.next≤k) (bl:Blk):Own S0 ⟨k,X.heap.put y bl⟩ n v es:=
 o.same hk fun z hz=>Tr.get_put_neB _ _ _ _ trivial (fun e=>Own.wide o hy hne (e▸hz))
end Go.Proofs.YtoaibmbldmckaaaGreat
end
section
namespace Go.AM
set_option linter.unusedVariables false
set_option linter.unusedSimpArgs false
def tO (P:Program) (t:TypeId):Bool:=match P.underlying t with
 | some (.interface _)=>false
 | some _=>true
 | none=>false
theorem wU {P:Program} {C:bJ} (d:Option Tmp) (t:TypeId) (x:Operand) (ty:TypeId) (pos:String) (aft:Array Edge) (g:Option (Nat×Bool)) (fr:Option Nat) (e:aJ) (S:St) (K:KW):
  dX P C ⟨d,.makeInterface t x,ty,pos,aft,g⟩ fr e S K=wO (ev e x) fun v=>oN (tO P t) (K (.iface t v) S):=by
 simp only [dX,aI]
 unfold tO
 cases ev e x with
 | none=>simp [wO,wR]
 | some v=>
  cases hu:P.underlying t with
  | none=>simp [wO,wR,oN]
  | some d=>cases d<;>simp [wO,wR,oN]
end Go.AM
namespace Go.Proofs.YtoaibmbldmckaaaGreat
open Go.AM Tryz
set_option linter.unusedVariables false
set_option linter.unusedSimpArgs false
set_option maxRecDepth 100000
def Cmd.enc (c:Cmd):List V:=[.int .i64 c.kind,.str c.series,.int .i64 c.limit,.str c.row.cat,.int .i64 c.row.day.y,.int .i64 c.row.day.m,.int .i64 c.row.day.d,.int .i64 c.row.bp,.int .i64 c.day.y,.int .i64 c.day.m,.int .i64 c.day.d,.imm (c.lines.map Line.enc),.str c.of.ser,.int .i64 c.of.num,.int .i64 c.session]
theorem aSs:Bd 293 [.str [],.int .i64 0] [(0,1),(1,1)]:=aK (by kernel_rfl)
theorem aSt:Bd 295 [.str []] [(0,1)]:=aK (by kernel_rfl)
theorem aSu:Bd 297 [.str [],.int .i64 0,.int .i64 0,.int .i64 0,.int .i64 0] [(0,5)]:=aK (by kernel_rfl)
theorem aSv:Bd 299 [.str [],.int .i64 0,.int .i64 0,.int .i64 0,.nils] [(0,1),(1,3),(4,1)]:=aK (by kernel_rfl)
theorem aSw:Bd 301 [.str [],.int .i64 0,.int .i64 0,.int .i64 0,.nils] [(0,5)]:=aK (by kernel_rfl)
theorem aSx:Bd 304 [.str [],.int .i64 0,.int .i64 0,.int .i64 0,.str [],.int .i64 0] [(0,1),(1,3),(4,2)]:=aK (by kernel_rfl)
theorem aSy:Bd 339 [] []:=aK (by kernel_rfl)
theorem aSz:Bd 306 [.int .i64 0] [(0,1)]:=aK (by kernel_rfl)
theorem aT0:Bd 307 [.str []] [(0,1)]:=aK (by kernel_rfl)
theorem mk8:tO prog 293=true∧tO prog 295=true∧tO prog 297=true∧tO prog 301=true∧tO prog 304=true∧tO prog 339=true∧tO prog 306=true∧tO prog 307=true:=
 ⟨by kernel_rfl,by kernel_rfl,by kernel_rfl,by kernel_rfl,by kernel_rfl,by kernel_rfl,by kernel_rfl,by kernel_rfl⟩
def bT (c:Cmd):V:=
 if c.kind=1 then .iface 293 (.agg [.str c.series,.int .i64 c.limit]) else if c.kind=2 then .iface 295 (.agg [.str c.series]) else
 if c.kind=3 then .iface 297 (.agg [.str c.row.cat,.int .i64 c.row.day.y,.int .i64 c.row.day.m,.int .i64 c.row.day.d,.int .i64 c.row.bp]) else
 if c.kind=4 then .iface 301 (.agg [.str c.series,.int .i64 c.day.y,.int .i64 c.day.m,.int .i64 c.day.d,.imm (c.lines.map Line.enc)]) else
 if c.kind=5 then .iface 304 (.agg [.str c.series,.int .i64 c.day.y,.int .i64 c.day.m,.int .i64 c.day.d,.str c.of.ser,.int .i64 c.of.num]) else
 if c.kind=6 then .iface 339 (.agg []) else if c.kind=7 then .iface 306 (.agg [.int .i64 c.session]) else if c.kind=8 then .iface 307 (.agg [.str c.series]) else .nili
theorem Cmd.clo (c:Cmd):cloVs [.agg c.enc]=true:=by
 simp only [Cmd.enc,cloVs,eJ,bG (enc:=Line.enc) (fun _=>rfl),Bool.and_self]
theorem tP (l:List Line) (hl:l.length<1000000) (S:St) (K:KW):C 214 [.imm (l.map Line.enc)] S K=K (.imm (l.map Line.enc)) S:=by
 refine (aU1 (by simp only [cloVs,eJ,bG (enc:=Line.enc) (fun _=>rfl),Bool.and_self]) ?_).eq S K
 obtain ⟨v0,S0,q0,x0,own0⟩:=aSg (b:=48) aI6 l wP (by omega) (by unfold fZ;omega)
 delta Tryz.f214;simp only [↓cw,↓reduceIte,Nat.reduceLT,kk,q0]
 exact own0.frz (bG (fun _=>rfl) _)
theorem aUw (c:Cmd) (hl:c.lines.length<1000000) (S:St) (K:KW):C 208 [.agg c.enc] S K=K (bT c) S:=by
 refine (aTy c.clo ?_).eq S K
 delta Tryz.f208;simp only [↓cw,↓reduceIte,Nat.reduceLT,kk,↓wU,Cmd.enc,aSs,aSt,aSu,aSv,aSw,aSx,aSy,aSz,aT0,mk8,tP c.lines hl]
 unfold bT
 by_cases h1:c.kind=1
 ·rw [if_pos h1,if_pos h1];rfl
 rw [if_neg h1,if_neg h1]
 by_cases h2:c.kind=2
 ·rw [if_pos h2,if_pos h2];rfl
 rw [if_neg h2,if_neg h2]
 by_cases h3:c.kind=3
 ·rw [if_pos h3,if_pos h3];rfl
 rw [if_neg h3,if_neg h3]
 by_cases h4:c.kind=4
 ·rw [if_pos h4,if_pos h4];rfl
 rw [if_neg h4,if_neg h4]
 by_cases h5:c.kind=5
 ·rw [if_pos h5,if_pos h5];rfl
 rw [if_neg h5,if_neg h5]
 by_cases h6:c.kind=6
 ·rw [if_pos h6,if_pos h6];rfl
 rw [if_neg h6,if_neg h6]
 by_cases h7:c.kind=7
 ·rw [if_pos h7,if_pos h7];rfl
 rw [if_neg h7,if_neg h7]
 by_cases h8:c.kind=8
 ·rw [if_pos h8,if_pos h8];rfl
 rw [if_neg h8,if_neg h8]
 rfl
end Go.Proofs.YtoaibmbldmckaaaGreat
end
section
namespace Go.AM
open Go.RowKit Go.ChangeShapes
section
def Gh.all (W:World):Gh:={ Gh.none with pr:=fun b=>W.heap[b]? }
theorem aJj (W:World):cO (fun i=>W.heap[i]?) (Gh.all W) St.empty W.heap:=
 ⟨fun _ _=>⟨rfl,rfl⟩,fun _ _ h=>(by cases h),fun a b h=>(by cases h),fun a a' b b' i h=>(by cases h),fun i o h=>h,fun i o h=>h,fun a b i h=>(by cases h),
  fun a i h=>(by rcases h with ⟨L,h,_⟩ | h<;>cases h),fun a b h=>(by cases h)⟩
theorem yZ {P:Program} {pl:eE} (hp:PlansOK P pl) {k:Nat} {f:FuncId} {args:List V} {S':St} (h:cP P pl k f args St.empty=.ok (.bool true,S')) (W:World) {cs:List Value} (hc:VRs (Gh.all W) args cs):
  Calls P f cs.toArray W fun e W'=>e=.returned (.bool true)∧Below W.heap.size W W':=by
 refine ((kY hp k).calls h (aJj W) hc).mono ?_
 rintro e W' ⟨G',w,rfl,q1,q2⟩
 cases q2
 refine ⟨rfl,q1.same.os,q1.same.tape,q1.same.output,q1.same.size,fun i hi=>?_⟩
 have:=Array.getElem?_eq_getElem hi
 rw [this]
 exact q1.rel.fr i _ this
def bH (P:Program):Nat→TypeId→List V→Prop
 | 0,_,_=>False
 | n+1,t,xs=>match P.underlying t with
  | some .bool=>∃ b,xs=[.bool b]
  | some (.int k)=>∃ i,xs=[.int k i]∧(Lit.int k i).wf=true
  | some .string=>∃ s,xs=[.str s]∧s.length≤maxLen
  | some (.slice e)=>∃ es,xs=[.imm es]∧es.length≤maxLen∧∀ c,c∈es→c.length=P.cellsOf e∧bH P n e c
  | some (.struct fs)=>xs.length=P.cellsOf t∧∀ f,f∈fs.toList→bH P n f.type ((xs.drop f.offset).take (P.cellsOf f.type))
  | _=>False
def aD0 (P:Program):List Field→Nat→Nat→Bool
 | [],o,e=>Nat.beq o e
 | f::l,o,e=>Nat.beq f.offset o&&aD0 P l (o+P.cellsOf f.type) e
def mS (P:Program):Nat→TypeId→Bool
 | 0,_=>false
 | d+1,t=>match P.underlying t with
  | some .bool=>true
  | some (.int _)=>true
  | some .string=>true
  | some (.slice e)=>Nat.blt 0 (P.cellsOf e)&&mS P d e
  | some (.struct fs)=>aD0 P fs.toList 0 (P.cellsOf t)&&fs.toList.all fun f=>mS P d f.type
  | _=>false
theorem aD1 {α:Type} {Q:Nat→α→Prop}:∀ n,(∀ i,i<n→∃ a,Q i a)→∃ l:List α,l.length=n∧∀ i a,l[i]?=some a→Q i a
 | 0,_=>⟨[],rfl,fun i a h=>by simp at h⟩
 | n+1,h=>by
  obtain ⟨l,h1,h2⟩:=aD1 n fun i hi=>h i (by omega)
  obtain ⟨a,ha⟩:=h n (by omega)
  refine ⟨l++[a],by simp [h1],fun i x hx=>?_⟩
  by_cases c:i<n
  ·rw [List.getElem?_append_left (by omega)] at hx;exact h2 i x hx
  ·have hi:i<(l++[a]).length:=(List.getElem?_eq_some_iff.1 hx).1
   simp only [List.length_append,List.length_cons,List.length_nil] at hi
   have:i=n:=by omega
   subst this
   rw [List.getElem?_append_right (by omega),h1,Nat.sub_self] at hx
   cases hx;exact ha
theorem VRss.of {G:Gh}:∀ {l:List (List V×List Value)},(∀ x,x∈l→VRs G x.1 x.2)→VRss G (l.map (·.1)) (l.map (·.2))
 | [],_=>.nil
 | x::l,h=>.cons _ _ _ _ (h x (List.mem_cons_self ..)) (VRss.of fun y hy=>h y (List.mem_cons_of_mem _ hy))
section
variable {H:Type} {enc:TypeId×Value→H} {P:Program} {W:World} {sp:Nat→Bool} {held:Bool}
theorem pE {a:Addr} {n:Nat} {r:List Value} (h:W.cells? 0 a n=some r):r.length=n∧∀ k v,r[k]?=some v→W.cell? (a.add k)=some v:=by
 unfold World.cells? at h
 rw [if_pos (Nat.zero_le _)] at h
 have hl:=mapM_some_length h
 rw [List.length_range] at hl
 refine ⟨hl,fun k v hk=>?_⟩
 have hkn:k<n:=by have:=(List.getElem?_eq_some_iff.1 hk).1;omega
 have:=mapM_some_get h k k (by rw [List.getElem?_range hkn])
 rw [this,hk]
theorem aD2 {a:Addr} {v:Value} (h:W.cell? a=some v):∃ c ty fr,W.heap[a.block]?=some (.cells c ty fr)∧a.spot=none∧c[a.off]?=some v:=by
 unfold World.cell? at h
 split at h
 ·rename_i c ty fr hc
  split at h
  ·cases h
  ·rename_i hs
   exact ⟨c,ty,fr,hc,by simpa using hs,h⟩
 ·cases h
theorem vF (a:Addr) (n:Nat):(a.add n).block=a.block:=by
 unfold Addr.add
 split<;>rfl
theorem aD3 (a:Addr) (n:Nat):(a.add n).off=a.off+n:=by
 unfold Addr.add
 split
 ·rename_i h;rw [h,Nat.add_zero]
 ·rfl
theorem vG (a:Addr):a.add 0=a:=by unfold Addr.add;rw [if_pos rfl]
end
end
end Go.AM
end
section
namespace Go.AM
open Go.ChangeShapes Go.WideShapes Go.ChangeAt Go.RowKit
theorem tQ {H:Type} {enc:TypeId×Value→H} {P:Program} {f:Func} {s:ChangeSpec} {apart fresh handsOn:Bool} {W W':World} {args:Array Value} {v:Value} {ds gs:List (DataW H)} {before pa pv:List MemPlace}
  (hW:DataW.Whole enc P f.params.toList s.vars apart W args.toList ds gs before)
  (hres:∀ (b:Nat) (sp:Nat→Bool) (hd:Bool),DataW.TrodAll enc P W' b sp hd f.resultTypes.toList (v.resultList f.resultTypes.size) (s.fn H (ds++gs)).results [])
  (hargs:∀ sp:Nat→Bool,(∀ p∈before,sp p.block=true)→DataW.TrodAll enc P W' 0 sp true f.params.toList args.toList (s.fn H (ds++gs)).args pa)
  (hvars:∀ sp:Nat→Bool,(∀ p∈before,sp p.block=true)→DataW.TrodVars enc P W' sp s.vars (s.fn H (ds++gs)).vars pv)
  (hps:before=pa++pv) (hk:W.keptBut W' (·∈before)):
  s.post enc P f apart fresh handsOn false W args v W':=by
 have hold:∀ p∈before,(fun b=>decide (b<W.heap.size)) p.block=true:=fun p hp=>by simpa using hW.lt p hp
 refine ⟨ds,gs,before,[],pa,pv,hW,hres _ _ _,hargs _ hold,hvars _ hold,World.keptBut_mono (fun p hp=>⟨hp,?_⟩) hk,fun h=>by cases h⟩
 rw [hps,List.mem_append] at hp
 exact Or.inr hp
theorem tR {W W':World} (h:Below W.heap.size W W') (S:MemPlace→Prop):W.keptBut W' S:=Below.frame h S
theorem aEf {H:Type} {enc:TypeId×Value→H} {P:Program} {W:World} {t:TypeId} (ht:P.underlying t=some .bool) (b:Nat) (sp:Nat→Bool) (hd:Bool):
  DataW.TrodAll enc P W b sp hd [t] ((Value.bool true).resultList 1) [.lit (.bool true)] []:=
 trodAll_mk1 ⟨1,by simp [DataW.trod,Value.cells,ht]⟩
end Go.AM
end
section
namespace Go.AM
open Go.RowKit Go.ChangeShapes
section
section
variable {H:Type} {enc:TypeId×Value→H} {P:Program} {W:World} {sp:Nat→Bool} {held:Bool}
theorem tS {r:Reach} {b0:Nat} {t e:TypeId} {v:Value} (ht:P.underlying t=some (.slice e)) (hval:Value.okWide P W r b0 t v):v.cells.toList=[v]:=by
 cases v with
 | agg cs=>simp [Value.okWide,ht,Cell.okWide,Cell.ok] at hval
 | _=>rfl
theorem aEg {t:TypeId} (hl:laidOutB P=true) (hr:P.readableRec t=true) (hrow:t<P.types.size) {W':World} {v:Value} {d:DataW H} {ps:List MemPlace} (h:DataW.Trod enc P W 0 (fun _=>true) true t v d ps) (hb:Below W.heap.size W W')
  (hlt:∀ x∈ps,x.block<W.heap.size) {sp':Nat→Bool} (hs:∀ x∈ps,sp' x.block=true):DataW.Trod enc P W' 0 sp' true t v d ps:=
 WideElems.Trod_stays hl hr hrow h (fun x hx=>hb.same (hlt x hx)) hs
end
end
end Go.AM
end
section
namespace Go.Proofs.YtoaibmbldmckaaaGreat
open Go.AM Tryz
theorem aEh {P:Program} {n:Nat} {t:TypeId} {fs:Array Field} {xs:List V} (ht:P.underlying t=some (.struct fs)) (h:bH P n t xs):
  ∃ m,xs.length=P.cellsOf t∧∀ (i:Nat) (f:Field),fs[i]?=some f→bH P m f.type ((xs.drop f.offset).take (P.cellsOf f.type)):=by
 cases n with
 | zero=>cases h
 | succ m=>
  simp only [bH,ht] at h
  exact ⟨m,h.1,fun i f hf=>h.2 f (List.mem_of_getElem? (by rw [Array.getElem?_toList];exact hf))⟩
theorem aI8 {P:Program} {n:Nat} {t e:TypeId} {xs:List V} (ht:P.underlying t=some (.slice e)) (h:bH P n t xs):
  ∃ m es,xs=[.imm es]∧∀ c,c∈es→c.length=P.cellsOf e∧bH P m e c:=by
 cases n with
 | zero=>cases h
 | succ m=>
  simp only [bH,ht] at h
  obtain ⟨es,h1,_,h2⟩:=h
  exact ⟨m,es,h1,h2⟩
theorem c3:prog.cellsOf 3=1:=by kernel_rfl
theorem c9:prog.cellsOf 9=1:=by kernel_rfl
theorem aI9 {n:Nat} {xs:List V} (h:bH prog n 3 xs):∃ i,xs=[.int .i64 i]:=by
 cases n with
 | zero=>cases h
 | succ m=>
  simp only [bH,Tryz.underlying3] at h
  obtain ⟨i,h,_⟩:=h
  exact ⟨i,h⟩
theorem aO9 {n:Nat} {xs:List V} (h:bH prog n 9 xs):∃ s,xs=[.str s]:=by
 cases n with
 | zero=>cases h
 | succ m=>
  simp only [bH,Tryz.underlying9] at h
  obtain ⟨s,h,_⟩:=h
  exact ⟨s,h⟩
theorem cut (xs:List V) (o k:Nat):xs.drop o=(xs.drop o).take k++xs.drop (o+k):=by
 rw [←List.drop_drop,List.take_append_drop]
theorem zA {α:Type} {enc:α→List V}:∀ {es:List (List V)},(∀ c,c∈es→∃ a:α,c=enc a)→∃ l:List α,es=l.map enc
 | [],_=>⟨[],rfl⟩
 | c::es,h=>by
  obtain ⟨a,ha⟩:=h c (List.mem_cons_self ..)
  obtain ⟨l,hl⟩:=zA fun d hd=>h d (List.mem_cons_of_mem _ hd)
  exact ⟨a::l,by rw [ha,hl];rfl⟩
end Go.Proofs.YtoaibmbldmckaaaGreat
end
section
namespace Go.AM
set_option linter.unusedVariables false
set_option linter.unusedSimpArgs false
theorem zC {P:Program} {C:bJ} (d:Option Tmp) (r:Operand) (name:String) (l:List Operand) (ts:Array TypeId) (ty:TypeId) (pos:String) (aft:Array Edge) (g:Option (Nat×Bool)) (fr:Option Nat) (e:aJ) (S:St) (K:KW):
  dX P C ⟨d,.call ⟨.invoke r name,l.toArray,ts⟩,ty,pos,aft,g⟩ fr e S K=wO (ev e r) fun v=>wO (jA (ev e) l) fun args=>aIl P C v name args S K:=rfl
end Go.AM
namespace Go.Proofs.YtoaibmbldmckaaaGreat
open Go.AM Tryz
set_option linter.unusedVariables false
set_option linter.unusedSimpArgs false
set_option maxRecDepth 100000
theorem aIa:Fa 212 0 0:=aA (by kernel_rfl)
theorem aIb:Ld 210 none:=aL (by kernel_rfl)
theorem aUx:(fun (t:TypeId) (v:V)=>aZ prog .eql 210 (.iface t v) .nili)=fun _ _=>.ok (.bool false):=by kernel_rfl
theorem eqi (t:TypeId) (v:V):aZ prog .eql 210 (.iface t v) .nili=.ok (.bool false):=congrFun (congrFun aUx t) v
theorem eqn:aZ prog .eql 210 .nili .nili=.ok (.bool true):=by kernel_rfl
theorem aUy:(fun (t:TypeId) (v:V)=>aU prog 210 (.iface t v) .nili)=fun _ _=>true:=by kernel_rfl
theorem gdi (t:TypeId) (v:V):aU prog 210 (.iface t v) .nili=true:=congrFun (congrFun aUy t) v
theorem aOa:aEo prog 210=true:=by kernel_rfl
theorem gdn (x:Operand) (c:Value):cW prog 210 x (.const c) .nili .nili=true:=by
 unfold cW zL
 rw [aOa]
 simp [isC]
theorem aT1:bV prog 307=some none:=by kernel_rfl
theorem aJm:dQ prog 293 "impost/command.kind"=some 307:=by kernel_rfl
theorem aUz (a:List UInt8) (b:Int) (S:St) (K:KW):C 307 [.agg [.str a,.int .i64 b]] S K=K (.int .i64 1) S:=by
 refine (aU2 (rfl) ?_).eq S K
 delta Tryz.f307;simp only [↓cw,↓reduceIte,Nat.reduceLT,kk]
theorem aT2:bV prog 308=some none:=by kernel_rfl
theorem aJn:dQ prog 295 "impost/command.kind"=some 308:=by kernel_rfl
theorem aV0 (a:List UInt8) (S:St) (K:KW):C 308 [.agg [.str a]] S K=K (.int .i64 2) S:=by
 refine (aU3 (rfl) ?_).eq S K
 delta Tryz.f308;simp only [↓cw,↓reduceIte,Nat.reduceLT,kk]
theorem aT3:bV prog 309=some none:=by kernel_rfl
theorem aJo:dQ prog 297 "impost/command.kind"=some 309:=by kernel_rfl
theorem aV1 (a:List UInt8) (x y z u:Int) (S:St) (K:KW):C 309 [.agg [.str a,.int .i64 x,.int .i64 y,.int .i64 z,.int .i64 u]] S K=K (.int .i64 3) S:=by
 refine (aU4 (rfl) ?_).eq S K
 delta Tryz.f309;simp only [↓cw,↓reduceIte,Nat.reduceLT,kk]
theorem aT4:bV prog 310=some none:=by kernel_rfl
theorem aJp:dQ prog 301 "impost/command.kind"=some 310:=by kernel_rfl
theorem aV2 (a:List UInt8) (x y z:Int) (l:List Line) (S:St) (K:KW):C 310 [.agg [.str a,.int .i64 x,.int .i64 y,.int .i64 z,.imm (l.map Line.enc)]] S K=K (.int .i64 4) S:=by
 refine (aU5 (by simp only [cloVs,eJ,bG (enc:=Line.enc) (fun _=>rfl),Bool.and_self]) ?_).eq S K
 delta Tryz.f310;simp only [↓cw,↓reduceIte,Nat.reduceLT,kk]
theorem aT5:bV prog 311=some none:=by kernel_rfl
theorem aJq:dQ prog 304 "impost/command.kind"=some 311:=by kernel_rfl
theorem aV3 (a b:List UInt8) (x y z u:Int) (S:St) (K:KW):C 311 [.agg [.str a,.int .i64 x,.int .i64 y,.int .i64 z,.str b,.int .i64 u]] S K=K (.int .i64 5) S:=by
 refine (aU6 (rfl) ?_).eq S K
 delta Tryz.f311;simp only [↓cw,↓reduceIte,Nat.reduceLT,kk]
theorem aT6:bV prog 314=some none:=by kernel_rfl
theorem aJr:dQ prog 339 "impost/command.kind"=some 314:=by kernel_rfl
theorem aV4  (S:St) (K:KW):C 314 [.agg []] S K=K (.int .i64 6) S:=by
 refine (aU9 (rfl) ?_).eq S K
 delta Tryz.f314;simp only [↓cw,↓reduceIte,Nat.reduceLT,kk]
theorem aT7:bV prog 312=some none:=by kernel_rfl
theorem aJs:dQ prog 306 "impost/command.kind"=some 312:=by kernel_rfl
theorem aV5 (x:Int) (S:St) (K:KW):C 312 [.agg [.int .i64 x]] S K=K (.int .i64 7) S:=by
 refine (aU7 (rfl) ?_).eq S K
 delta Tryz.f312;simp only [↓cw,↓reduceIte,Nat.reduceLT,kk]
theorem aT8:bV prog 313=some none:=by kernel_rfl
theorem aJt:dQ prog 307 "impost/command.kind"=some 313:=by kernel_rfl
theorem aV6 (a:List UInt8) (S:St) (K:KW):C 313 [.agg [.str a]] S K=K (.int .i64 8) S:=by
 refine (aU8 (rfl) ?_).eq S K
 delta Tryz.f313;simp only [↓cw,↓reduceIte,Nat.reduceLT,kk]
theorem pZ (t:TypeId) (v:V) (name:String) (args:List V) (S:St) (K:KW):aIl prog C (.iface t v) name args S K=wO (dQ prog t name) fun g=>eS prog C g (v::args) S K:=rfl
def eI (c:Cmd):Int:=if 1≤c.kind∧c.kind≤8 then c.kind else 0
theorem mT (c:Cmd):(∃ t v,bT c=.iface t v∧eJ v=true∧1≤c.kind∧c.kind≤8)∨(bT c=.nili∧¬ (1≤c.kind∧c.kind≤8)):=by
 unfold bT
 by_cases h1:c.kind=1
 ·rw [if_pos h1];exact .inl ⟨_,_,rfl,rfl,by omega,by omega⟩
 rw [if_neg h1]
 by_cases h2:c.kind=2
 ·rw [if_pos h2];exact .inl ⟨_,_,rfl,rfl,by omega,by omega⟩
 rw [if_neg h2]
 by_cases h3:c.kind=3
 ·rw [if_pos h3];exact .inl ⟨_,_,rfl,rfl,by omega,by omega⟩
 rw [if_neg h3]
 by_cases h4:c.kind=4
 ·rw [if_pos h4];exact .inl ⟨_,_,rfl,by simp only [eJ,cloVs,bG (enc:=Line.enc) (fun _=>rfl),Bool.and_self],by omega,by omega⟩
 rw [if_neg h4]
 by_cases h5:c.kind=5
 ·rw [if_pos h5];exact .inl ⟨_,_,rfl,rfl,by omega,by omega⟩
 rw [if_neg h5]
 by_cases h6:c.kind=6
 ·rw [if_pos h6];exact .inl ⟨_,_,rfl,rfl,by omega,by omega⟩
 rw [if_neg h6]
 by_cases h7:c.kind=7
 ·rw [if_pos h7];exact .inl ⟨_,_,rfl,rfl,by omega,by omega⟩
 rw [if_neg h7]
 by_cases h8:c.kind=8
 ·rw [if_pos h8];exact .inl ⟨_,_,rfl,rfl,by omega,by omega⟩
 rw [if_neg h8]
 exact .inr ⟨rfl,by omega⟩
theorem oB (c:Cmd):eJ (bT c)=true:=by
 rcases mT c with ⟨t,v,h,hv,_⟩ | ⟨h,_⟩
 ·rw [h];exact hv
 ·rw [h];rfl
theorem oC (c:Cmd):(bT c).one=true∧(bT c).cells=[bT c]:=by
 rcases mT c with ⟨t,v,h,hv,_⟩ | ⟨h,_⟩<;>rw [h]<;>exact ⟨rfl,rfl⟩
theorem aV7 (c:Cmd) (S:St) (K:KW):C 213 [.agg [bT c]] S K=K (.int .i64 (eI c)) S:=by
 refine (aU0 (by simp only [cloVs,eJ,oB,Bool.and_self]) ?_).eq S K
 have h1:=(oC c).1
 delta Tryz.f213;simp only [↓cw,↓reduceIte,Nat.reduceLT,kk,↓wU,↓zC,h1,aIa,aIb]
 unfold eI bT
 by_cases h1:c.kind=1
 ·simp only [if_pos h1,↓cw,↓reduceIte,Nat.reduceLT,kk,eqi,gdi,pZ,aJm,↓kI prog C aT1,aUz]
  rw [if_pos (by omega),h1]
 simp only [if_neg h1]
 by_cases h2:c.kind=2
 ·simp only [if_pos h2,↓cw,↓reduceIte,Nat.reduceLT,kk,eqi,gdi,pZ,aJn,↓kI prog C aT2,aV0]
  rw [if_pos (by omega),h2]
 simp only [if_neg h2]
 by_cases h3:c.kind=3
 ·simp only [if_pos h3,↓cw,↓reduceIte,Nat.reduceLT,kk,eqi,gdi,pZ,aJo,↓kI prog C aT3,aV1]
  rw [if_pos (by omega),h3]
 simp only [if_neg h3]
 by_cases h4:c.kind=4
 ·simp only [if_pos h4,↓cw,↓reduceIte,Nat.reduceLT,kk,eqi,gdi,pZ,aJp,↓kI prog C aT4,aV2]
  rw [if_pos (by omega),h4]
 simp only [if_neg h4]
 by_cases h5:c.kind=5
 ·simp only [if_pos h5,↓cw,↓reduceIte,Nat.reduceLT,kk,eqi,gdi,pZ,aJq,↓kI prog C aT5,aV3]
  rw [if_pos (by omega),h5]
 simp only [if_neg h5]
 by_cases h6:c.kind=6
 ·simp only [if_pos h6,↓cw,↓reduceIte,Nat.reduceLT,kk,eqi,gdi,pZ,aJr,↓kI prog C aT6,aV4]
  rw [if_pos (by omega),h6]
 simp only [if_neg h6]
 by_cases h7:c.kind=7
 ·simp only [if_pos h7,↓cw,↓reduceIte,Nat.reduceLT,kk,eqi,gdi,pZ,aJs,↓kI prog C aT7,aV5]
  rw [if_pos (by omega),h7]
 simp only [if_neg h7]
 by_cases h8:c.kind=8
 ·simp only [if_pos h8,↓cw,↓reduceIte,Nat.reduceLT,kk,eqi,gdi,pZ,aJt,↓kI prog C aT8,aV6]
  rw [if_pos (by omega),h8]
 simp only [if_neg h8]
 simp only [↓cw,↓reduceIte,Nat.reduceLT,kk,eqn,gdn]
 rw [if_neg (by omega)]
end Go.Proofs.YtoaibmbldmckaaaGreat
end
section
namespace Go.Proofs.YtoaibmbldmckaaaGreat
open Go.AM Tryz
abbrev As (T:Nat) (z:List V):Prop:=(∀ u v,gC prog (.iface u v) T true=if u=T then .ok (.tup [v,.bool true]) else .ok (.tup [.agg z,.bool false]))∧gC prog .nili T true=.ok (.tup [.agg z,.bool false])
theorem sV {T:Nat} {z:List V} (h:(fun (u:TypeId) (v:V)=>gC prog (.iface u v) T true)=fun u v=>bif Nat.beq u T then .ok (.tup [v,.bool true]) else .ok (.tup [.agg z,.bool false])) (k:gC prog .nili T true=.ok (.tup [.agg z,.bool false])):As T z:=
 ⟨fun u v=>by
  rw [congrFun (congrFun h u) v]
  by_cases e:u=T
  ·subst e;simp
  ·have:Nat.beq u T=false:=by cases hb:Nat.beq u T with
    | false=>rfl
    | true=>exact absurd (Nat.eq_of_beq_eq_true hb) e
   rw [this,if_neg e];rfl,k⟩
theorem fB:As 293 [.str [],.int .i64 0]:=sV (by kernel_rfl) (by kernel_rfl)
theorem fC:As 295 [.str []]:=sV (by kernel_rfl) (by kernel_rfl)
theorem fD:As 297 [.str [],.int .i64 0,.int .i64 0,.int .i64 0,.int .i64 0]:=sV (by kernel_rfl) (by kernel_rfl)
theorem fE:As 301 [.str [],.int .i64 0,.int .i64 0,.int .i64 0,.nils]:=sV (by kernel_rfl) (by kernel_rfl)
theorem fF:As 304 [.str [],.int .i64 0,.int .i64 0,.int .i64 0,.str [],.int .i64 0]:=sV (by kernel_rfl) (by kernel_rfl)
theorem fG:As 306 [.int .i64 0]:=sV (by kernel_rfl) (by kernel_rfl)
theorem fH:As 307 [.str []]:=sV (by kernel_rfl) (by kernel_rfl)
def dP (c:Cmd):Cmd:=
 if c.kind=1 then ⟨1,c.series,c.limit,⟨[],⟨0,0,0⟩,0⟩,⟨0,0,0⟩,[],⟨[],0⟩,0⟩ else
 if c.kind=2 then ⟨2,c.series,0,⟨[],⟨0,0,0⟩,0⟩,⟨0,0,0⟩,[],⟨[],0⟩,0⟩ else
 if c.kind=3 then ⟨3,[],0,c.row,⟨0,0,0⟩,[],⟨[],0⟩,0⟩ else
 if c.kind=4 then ⟨4,c.series,0,⟨[],⟨0,0,0⟩,0⟩,c.day,c.lines,⟨[],0⟩,0⟩ else
 if c.kind=5 then ⟨5,c.series,0,⟨[],⟨0,0,0⟩,0⟩,c.day,[],c.of,0⟩ else
 if c.kind=6 then ⟨6,[],0,⟨[],⟨0,0,0⟩,0⟩,⟨0,0,0⟩,[],⟨[],0⟩,0⟩ else
 if c.kind=7 then ⟨7,[],0,⟨[],⟨0,0,0⟩,0⟩,⟨0,0,0⟩,[],⟨[],0⟩,c.session⟩ else
 if c.kind=8 then ⟨8,c.series,0,⟨[],⟨0,0,0⟩,0⟩,⟨0,0,0⟩,[],⟨[],0⟩,0⟩ else
 ⟨0,[],0,⟨[],⟨0,0,0⟩,0⟩,⟨0,0,0⟩,[],⟨[],0⟩,0⟩
theorem gH:Fa 293 0 0:=aA (by kernel_rfl)
theorem gI:Fa 293 1 1:=aA (by kernel_rfl)
theorem gJ:Fa 295 0 0:=aA (by kernel_rfl)
theorem gK:Fa 297 0 0:=aA (by kernel_rfl)
theorem gL:Fa 301 0 0:=aA (by kernel_rfl)
theorem gM:Fa 304 0 0:=aA (by kernel_rfl)
theorem gO:Fa 304 1 1:=aA (by kernel_rfl)
theorem gP:Fa 304 2 4:=aA (by kernel_rfl)
theorem gQ:Fa 306 0 0:=aA (by kernel_rfl)
theorem gR:Fa 307 0 0:=aA (by kernel_rfl)
theorem gT:Fa 299 0 0:=aA (by kernel_rfl)
theorem gU:Fa 299 1 1:=aA (by kernel_rfl)
theorem gV:Fa 299 2 4:=aA (by kernel_rfl)
theorem oD:Sr 293 2:=aH (by kernel_rfl)
theorem oE:Sr 295 1:=aH (by kernel_rfl)
theorem oF:Sr 297 5:=aH (by kernel_rfl)
theorem oG:Sr 301 5:=aH (by kernel_rfl)
theorem oH:Sr 304 6:=aH (by kernel_rfl)
theorem oI:Sr 306 1:=aH (by kernel_rfl)
theorem oJ:Sr 307 1:=aH (by kernel_rfl)
theorem aV8 (c:Cmd) (hl:c.lines.length<1000000) (S:St) (K:KW):C 142 [.agg [bT c]] S K=K (.tup [.agg (dP c).enc,.bool (decide (0<(dP c).kind))]) S:=by
 refine (aTv (by simp only [cloVs,eJ,oB,Bool.and_self]) ?_).eq S K
 have h1:=(oC c).1
 delta Tryz.f142;simp only [↓cw,↓reduceIte,Nat.reduceLT,kk,↓wU,↓zC,h1,pD,gm,Nat.reduceAdd,aIa,aIb,aV7]
 by_cases h1':c.kind=1
 ·have e1:bT c=.iface 293 (.agg [.str c.series,.int .i64 c.limit]):=by unfold bT;rw [if_pos h1']
  have e2:eI c=1:=by unfold eI;rw [if_pos (by omega)];exact h1'
  have e3:dP c=⟨1,c.series,c.limit,⟨[],⟨0,0,0⟩,0⟩,⟨0,0,0⟩,[],⟨[],0⟩,0⟩:=by unfold dP;rw [if_pos h1']
  simp only [↓cw,↓reduceIte,Nat.reduceLT,Nat.reduceEqDiff,kk,pD,gm,Nat.reduceAdd,e1,e2,e3,fB.1,fB.2,fC.1,fC.2,fD.1,fD.2,fE.1,fE.2,fF.1,fF.2,fG.1,fG.2,fH.1,fH.2,gH,gI,gJ,gK,gL,gM,gO,gP,gQ,gR,gT,gU,gV,oD,oE,oF,oG,oH,oI,oJ,tP c.lines hl,Cmd.enc,List.map_nil]
  first | rfl | exact (0:Nat)
 by_cases h2':c.kind=2
 ·have e1:bT c=.iface 295 (.agg [.str c.series]):=by unfold bT;rw [if_neg h1',if_pos h2']
  have e2:eI c=2:=by unfold eI;rw [if_pos (by omega)];exact h2'
  have e3:dP c=⟨2,c.series,0,⟨[],⟨0,0,0⟩,0⟩,⟨0,0,0⟩,[],⟨[],0⟩,0⟩:=by unfold dP;rw [if_neg h1',if_pos h2']
  simp only [↓cw,↓reduceIte,Nat.reduceLT,Nat.reduceEqDiff,kk,pD,gm,Nat.reduceAdd,e1,e2,e3,fB.1,fB.2,fC.1,fC.2,fD.1,fD.2,fE.1,fE.2,fF.1,fF.2,fG.1,fG.2,fH.1,fH.2,gH,gI,gJ,gK,gL,gM,gO,gP,gQ,gR,gT,gU,gV,oD,oE,oF,oG,oH,oI,oJ,tP c.lines hl,Cmd.enc,List.map_nil]
  first | rfl | exact (0:Nat)
 by_cases h3':c.kind=3
 ·have e1:bT c=.iface 297 (.agg [.str c.row.cat,.int .i64 c.row.day.y,.int .i64 c.row.day.m,.int .i64 c.row.day.d,.int .i64 c.row.bp]):=by unfold bT;rw [if_neg h1',if_neg h2',if_pos h3']
  have e2:eI c=3:=by unfold eI;rw [if_pos (by omega)];exact h3'
  have e3:dP c=⟨3,[],0,c.row,⟨0,0,0⟩,[],⟨[],0⟩,0⟩:=by unfold dP;rw [if_neg h1',if_neg h2',if_pos h3']
  simp only [↓cw,↓reduceIte,Nat.reduceLT,Nat.reduceEqDiff,kk,pD,gm,Nat.reduceAdd,e1,e2,e3,fB.1,fB.2,fC.1,fC.2,fD.1,fD.2,fE.1,fE.2,fF.1,fF.2,fG.1,fG.2,fH.1,fH.2,gH,gI,gJ,gK,gL,gM,gO,gP,gQ,gR,gT,gU,gV,oD,oE,oF,oG,oH,oI,oJ,tP c.lines hl,Cmd.enc,List.map_nil]
  first | rfl | exact (0:Nat)
 by_cases h4':c.kind=4
 ·have e1:bT c=.iface 301 (.agg [.str c.series,.int .i64 c.day.y,.int .i64 c.day.m,.int .i64 c.day.d,.imm (c.lines.map Line.enc)]):=by unfold bT;rw [if_neg h1',if_neg h2',if_neg h3',if_pos h4']
  have e2:eI c=4:=by unfold eI;rw [if_pos (by omega)];exact h4'
  have e3:dP c=⟨4,c.series,0,⟨[],⟨0,0,0⟩,0⟩,c.day,c.lines,⟨[],0⟩,0⟩:=by unfold dP;rw [if_neg h1',if_neg h2',if_neg h3',if_pos h4']
  simp only [↓cw,↓reduceIte,Nat.reduceLT,Nat.reduceEqDiff,kk,pD,gm,Nat.reduceAdd,e1,e2,e3,fB.1,fB.2,fC.1,fC.2,fD.1,fD.2,fE.1,fE.2,fF.1,fF.2,fG.1,fG.2,fH.1,fH.2,gH,gI,gJ,gK,gL,gM,gO,gP,gQ,gR,gT,gU,gV,oD,oE,oF,oG,oH,oI,oJ,tP c.lines hl,Cmd.enc,List.map_nil]
  first | rfl | exact (0:Nat)
 by_cases h5':c.kind=5
 ·have e1:bT c=.iface 304 (.agg [.str c.series,.int .i64 c.day.y,.int .i64 c.day.m,.int .i64 c.day.d,.str c.of.ser,.int .i64 c.of.num]):=by unfold bT;rw [if_neg h1',if_neg h2',if_neg h3',if_neg h4',if_pos h5']
  have e2:eI c=5:=by unfold eI;rw [if_pos (by omega)];exact h5'
  have e3:dP c=⟨5,c.series,0,⟨[],⟨0,0,0⟩,0⟩,c.day,[],c.of,0⟩:=by unfold dP;rw [if_neg h1',if_neg h2',if_neg h3',if_neg h4',if_pos h5']
  simp only [↓cw,↓reduceIte,Nat.reduceLT,Nat.reduceEqDiff,kk,pD,gm,Nat.reduceAdd,e1,e2,e3,fB.1,fB.2,fC.1,fC.2,fD.1,fD.2,fE.1,fE.2,fF.1,fF.2,fG.1,fG.2,fH.1,fH.2,gH,gI,gJ,gK,gL,gM,gO,gP,gQ,gR,gT,gU,gV,oD,oE,oF,oG,oH,oI,oJ,tP c.lines hl,Cmd.enc,List.map_nil]
  first | rfl | exact (0:Nat)
 by_cases h6':c.kind=6
 ·have e1:bT c=.iface 339 (.agg []):=by unfold bT;rw [if_neg h1',if_neg h2',if_neg h3',if_neg h4',if_neg h5',if_pos h6']
  have e2:eI c=6:=by unfold eI;rw [if_pos (by omega)];exact h6'
  have e3:dP c=⟨6,[],0,⟨[],⟨0,0,0⟩,0⟩,⟨0,0,0⟩,[],⟨[],0⟩,0⟩:=by unfold dP;rw [if_neg h1',if_neg h2',if_neg h3',if_neg h4',if_neg h5',if_pos h6']
  simp only [↓cw,↓reduceIte,Nat.reduceLT,Nat.reduceEqDiff,kk,pD,gm,Nat.reduceAdd,e1,e2,e3,fB.1,fB.2,fC.1,fC.2,fD.1,fD.2,fE.1,fE.2,fF.1,fF.2,fG.1,fG.2,fH.1,fH.2,gH,gI,gJ,gK,gL,gM,gO,gP,gQ,gR,gT,gU,gV,oD,oE,oF,oG,oH,oI,oJ,tP c.lines hl,Cmd.enc,List.map_nil]
  first | rfl | exact (0:Nat)
 by_cases h7':c.kind=7
 ·have e1:bT c=.iface 306 (.agg [.int .i64 c.session]):=by unfold bT;rw [if_neg h1',if_neg h2',if_neg h3',if_neg h4',if_neg h5',if_neg h6',if_pos h7']
  have e2:eI c=7:=by unfold eI;rw [if_pos (by omega)];exact h7'
  have e3:dP c=⟨7,[],0,⟨[],⟨0,0,0⟩,0⟩,⟨0,0,0⟩,[],⟨[],0⟩,c.session⟩:=by unfold dP;rw [if_neg h1',if_neg h2',if_neg h3',if_neg h4',if_neg h5',if_neg h6',if_pos h7']
  simp only [↓cw,↓reduceIte,Nat.reduceLT,Nat.reduceEqDiff,kk,pD,gm,Nat.reduceAdd,e1,e2,e3,fB.1,fB.2,fC.1,fC.2,fD.1,fD.2,fE.1,fE.2,fF.1,fF.2,fG.1,fG.2,fH.1,fH.2,gH,gI,gJ,gK,gL,gM,gO,gP,gQ,gR,gT,gU,gV,oD,oE,oF,oG,oH,oI,oJ,tP c.lines hl,Cmd.enc,List.map_nil]
  first | rfl | exact (0:Nat)
 by_cases h8':c.kind=8
 ·have e1:bT c=.iface 307 (.agg [.str c.series]):=by unfold bT;rw [if_neg h1',if_neg h2',if_neg h3',if_neg h4',if_neg h5',if_neg h6',if_neg h7',if_pos h8']
  have e2:eI c=8:=by unfold eI;rw [if_pos (by omega)];exact h8'
  have e3:dP c=⟨8,c.series,0,⟨[],⟨0,0,0⟩,0⟩,⟨0,0,0⟩,[],⟨[],0⟩,0⟩:=by unfold dP;rw [if_neg h1',if_neg h2',if_neg h3',if_neg h4',if_neg h5',if_neg h6',if_neg h7',if_pos h8']
  simp only [↓cw,↓reduceIte,Nat.reduceLT,Nat.reduceEqDiff,kk,pD,gm,Nat.reduceAdd,e1,e2,e3,fB.1,fB.2,fC.1,fC.2,fD.1,fD.2,fE.1,fE.2,fF.1,fF.2,fG.1,fG.2,fH.1,fH.2,gH,gI,gJ,gK,gL,gM,gO,gP,gQ,gR,gT,gU,gV,oD,oE,oF,oG,oH,oI,oJ,tP c.lines hl,Cmd.enc,List.map_nil]
  first | rfl | exact (0:Nat)
 ·have e1:bT c=.nili:=by unfold bT;rw [if_neg h1',if_neg h2',if_neg h3',if_neg h4',if_neg h5',if_neg h6',if_neg h7',if_neg h8']
  have e2:eI c=0:=by unfold eI;rw [if_neg (by omega)]
  have e3:dP c=⟨0,[],0,⟨[],⟨0,0,0⟩,0⟩,⟨0,0,0⟩,[],⟨[],0⟩,0⟩:=by unfold dP;rw [if_neg h1',if_neg h2',if_neg h3',if_neg h4',if_neg h5',if_neg h6',if_neg h7',if_neg h8']
  simp only [↓cw,↓reduceIte,Nat.reduceLT,Nat.reduceEqDiff,kk,pD,gm,Nat.reduceAdd,e1,e2,e3,fB.1,fB.2,fC.1,fC.2,fD.1,fD.2,fE.1,fE.2,fF.1,fF.2,fG.1,fG.2,fH.1,fH.2,gH,gI,gJ,gK,gL,gM,gO,gP,gQ,gR,gT,gU,gV,oD,oE,oF,oG,oH,oI,oJ,tP c.lines hl,Cmd.enc,List.map_nil]
  first | rfl | exact (0:Nat)
theorem aV9 (c:Cmd) (hl:c.lines.length<1000000) (S:St) (K:KW):C 136 [.agg c.enc] S K=K (.tup [.agg [bT c],.int .i64 (if 1≤c.kind∧c.kind≤8 then 0 else 17)]) S:=by
 refine (aTt c.clo ?_).eq S K
 have h208:=fun S K=>aUw c hl S K
 have ho:∀ {S:St} {n:Int},iE S (.tup [.agg [bT c],.int .i64 n])=.ok (.tup [.agg [bT c],.int .i64 n]):=fun {S n}=>iO _ (by simp only [cloVs,eJ,oB,Bool.and_self])
 simp only [Cmd.enc] at h208
 delta Tryz.f136;simp only [↓cw,↓reduceIte,Nat.reduceLT,kk,pD,gm,Nat.reduceAdd,Cmd.enc,h208]
 rcases mT c with ⟨t,v,h,hv,hk⟩ | ⟨h,hk⟩
 ·rw [if_pos (by omega)]
  rw [h] at ho ⊢
  simp only [↓cw,↓reduceIte,Nat.reduceLT,kk,pD,gm,Nat.reduceAdd,eqi,gdi]
  exact ho
 ·rw [if_neg (by omega)]
  rw [h] at ho ⊢
  simp only [↓cw,↓reduceIte,Nat.reduceLT,kk,pD,gm,Nat.reduceAdd,eqn,gdn]
  exact ho
end Go.Proofs.YtoaibmbldmckaaaGreat
end
section
namespace Go.AM
set_option linter.unusedVariables false
set_option linter.unusedSimpArgs false
section
variable {P:Program} {pl:eE}
end
end Go.AM
namespace Go.Proofs.YtoaibmbldmckaaaGreat
open Go.AM Tryz
set_option linter.unusedVariables false
set_option linter.unusedSimpArgs false
set_option maxRecDepth 100000
theorem aT9:pX 253=some (.val (dD [])):=by kernel_rfl
theorem aVa:VT 253 Tryz.f253 [] []:=vt (by kernel_rfl)
theorem aOb {b:List UInt8} (hb:b.length<1000000000) {r:Rd} (hr:r.pos≤b.length):FRd 253 [] b r (.agg (aW b r).1.enc) (aW b r).2:=by
 refine FnR.of aT9 (lv:=dN []) (Pt.head rfl) (Rd.clo b r) ?_ rfl (Rd.clo b _)
 rw [aVa]
 delta Tryz.f253;simp only [↓cw,↓reduceIte,Nat.reduceLT,Nat.reduceAdd,kk,Rd.cells,aB,yY]
 refine Eq.mpr ((r69 hb hr).eq (by repeat' first | exact gS | refine gN ?_) _) ?_
 simp only [↓cw,↓reduceIte,Nat.reduceLT,Nat.reduceAdd,kk,Rd.cells,aB,yY]
 refine Eq.mpr ((r69 hb (aY hr)).eq (by repeat' first | exact gS | refine gN ?_) _) ?_
 simp only [↓cw,↓reduceIte,Nat.reduceLT,Nat.reduceAdd,kk,Rd.cells,aB,yY]
 refine Eq.mpr ((r69 hb (aY (aY hr))).eq (by repeat' first | exact gS | refine gN ?_) _) ?_
 simp only [↓cw,↓reduceIte,Nat.reduceLT,Nat.reduceAdd,kk,Rd.cells,aB,yY]
 exact ⟨rfl,by repeat' first | exact gS | refine gN ?_⟩
theorem aTa:pX 141=some (.val (dD [])):=by kernel_rfl
theorem aVb:VT 141 Tryz.f141 [] []:=vt (by kernel_rfl)
theorem aVc (b:List UInt8) (r:Rd):FRd 141 [] b r (.int .i64 (r.pos:Int)) r:=by
 refine FnR.of aTa (lv:=dN []) (Pt.head rfl) (Rd.clo b r) ?_ rfl (Rd.clo b _)
 rw [aVb]
 delta Tryz.f141;simp only [↓cw,↓reduceIte,Nat.reduceLT,kk,Rd.cells,aB]
 rfl
end Go.Proofs.YtoaibmbldmckaaaGreat
end
section
namespace Go.Proofs.YtoaibmbldmckaaaGreat
open Go.AM Tryz
def eU (b:List UInt8) (r:Rd):Line×Rd:=
 (⟨(aE b 64 r).1,(aE b 64 (aE b 64 r).2).1,(aD b (aE b 64 (aE b 64 r).2).2).1,(aD b (aD b (aE b 64 (aE b 64 r).2).2).2).1⟩,(aD b (aD b (aE b 64 (aE b 64 r).2).2).2).2)
def aT (b:List UInt8):Nat→Rd→List Line×Rd
 | 0,r=>([],r)
 | n+1,r=>((eU b r).1::(aT b n (eU b r).2).1,(aT b n (eU b r).2).2)
def cH (b:List UInt8):Nat→Rd→List Line×Rd
 | 0,r=>([],r)
 | n+1,r=>if r.err=0 then ((eU b r).1::(cH b n (eU b r).2).1,(cH b n (eU b r).2).2) else ([],r)
theorem qC {b:List UInt8} {r:Rd} (h:r.err≠0):aD b r=(0,r):=by unfold aD;rw [if_neg h]
theorem aAt {b:List UInt8} {lo hi:Int} {r:Rd} (h:r.err≠0):dR b lo hi r=(0,r):=by unfold dR;rw [qC h,if_neg h]
theorem zD {b:List UInt8} {m:Int} {r:Rd} (h:r.err≠0):aE b m r=([],r):=by unfold aE;rw [aAt h,if_neg h]
theorem wV {b:List UInt8} {r:Rd} (h:r.err≠0):(eU b r).2=r:=by
 unfold eU
 simp only [zD h,qC h]
theorem lZ {b:List UInt8}:∀ (n:Nat) {r:Rd},r.err≠0→(aT b n r).2=r
 | 0,r,h=>rfl
 | n+1,r,h=>by
  show (aT b n (eU b r).2).2=r
  rw [wV h];exact lZ n h
theorem vH {b:List UInt8}:∀ (n:Nat) (r:Rd),(cH b n r).2=(aT b n r).2∧((aT b n r).2.err=0→cH b n r=aT b n r)
 | 0,r=>⟨rfl,fun _=>rfl⟩
 | n+1,r=>by
  obtain ⟨h1,h2⟩:=vH n (eU b r).2
  by_cases h:r.err=0
  ·simp only [cH,if_pos h]
   exact ⟨h1,fun e=>by have:=h2 e;simp only [aT,this]⟩
  ·have hs:(aT b (n+1) r).2=r:=lZ (n+1) h
   simp only [cH,if_neg h]
   exact ⟨hs.symm,fun e=>by rw [hs] at e;exact absurd e h⟩
def bO (k:Int):Cmd:=⟨k,[],0,⟨[],⟨0,0,0⟩,0⟩,⟨0,0,0⟩,[],⟨[],0⟩,0⟩
def bW (lines:Nat→Rd→List Line×Rd) (b:List UInt8) (k:Int) (r:Rd):Cmd×Rd:=
 if k=1 then ({ bO k with series:=(aE b 64 r).1,limit:=(aD b (aE b 64 r).2).1 },(aD b (aE b 64 r).2).2) else
 if k=2 then ({ bO k with series:=(aE b 64 r).1 },(aE b 64 r).2) else
 if k=8 then ({ bO k with series:=(aE b 64 r).1 },(aE b 64 r).2) else
 if k=3 then ({ bO k with row:=⟨(aE b 64 r).1,(aW b (aE b 64 r).2).1,(aD b (aW b (aE b 64 r).2).2).1⟩ },(aD b (aW b (aE b 64 r).2).2).2) else
 if k=4 then ({ bO k with series:=(aE b 64 r).1,day:=(aW b (aE b 64 r).2).1,lines:=(lines (cG b 12 (aW b (aE b 64 r).2).2).1.toNat (cG b 12 (aW b (aE b 64 r).2).2).2).1 },(lines (cG b 12 (aW b (aE b 64 r).2).2).1.toNat (cG b 12 (aW b (aE b 64 r).2).2).2).2) else
 if k=5 then ({ bO k with series:=(aE b 64 r).1,day:=(aW b (aE b 64 r).2).1,of:=⟨(aE b 64 (aW b (aE b 64 r).2).2).1,(aD b (aE b 64 (aW b (aE b 64 r).2).2).2).1⟩ },(aD b (aE b 64 (aW b (aE b 64 r).2).2).2).2) else
 if k=7 then ({ bO k with session:=(aD b r).1 },(aD b r).2) else (bO k,r)
def dE (b:List UInt8):Int→Rd→Cmd×Rd:=bW (aT b) b
def aD4 (b:List UInt8):Int→Rd→Cmd×Rd:=bW (cH b) b
theorem aIc (b:List UInt8) (k:Int) (r:Rd):(aD4 b k r).2=(dE b k r).2∧((dE b k r).2.err=0→aD4 b k r=dE b k r):=by
 unfold aD4 dE bW
 by_cases h4:k=4
 ·subst h4
  obtain ⟨h1,h2⟩:=vH (b:=b) (cG b 12 (aW b (aE b 64 r).2).2).1.toNat (cG b 12 (aW b (aE b 64 r).2).2).2
  simp only [show ((4:Int)=1)=False by decide,show ((4:Int)=2)=False by decide,show ((4:Int)=8)=False by decide,show ((4:Int)=3)=False by decide,if_false,if_true]
  exact ⟨h1,fun e=>by rw [h2 e]⟩
 ·simp only [if_neg h4]
  exact ⟨trivial,fun _=>trivial⟩
def jL (lines:Nat→Rd→List Line×Rd) (b:List UInt8):Cmd×Int:=
 if 1024<b.length then (bO 0,2) else if (aD b ⟨0,0⟩).2.err≠0 then (bO 0,(aD b ⟨0,0⟩).2.err) else
 if ¬ (1≤(aD b ⟨0,0⟩).1∧(aD b ⟨0,0⟩).1≤8) then (bO 0,17) else
 if (cQ b (bW lines b (aD b ⟨0,0⟩).1 (aD b ⟨0,0⟩).2).2).err≠0 then (bO 0,(cQ b (bW lines b (aD b ⟨0,0⟩).1 (aD b ⟨0,0⟩).2).2).err) else ((bW lines b (aD b ⟨0,0⟩).1 (aD b ⟨0,0⟩).2).1,0)
theorem aId {b:List UInt8} {r:Rd} (h:(cQ b r).err=0):r.err=0:=by
 unfold cQ at h
 by_cases c:r.err=0
 ·exact c
 ·rw [if_neg c] at h;exact h
theorem aJu (b:List UInt8):jL (cH b) b=jL (aT b) b:=by
 unfold jL
 obtain ⟨h1,h2⟩:=aIc b (aD b ⟨0,0⟩).1 (aD b ⟨0,0⟩).2
 unfold aD4 dE at h1 h2
 rw [h1]
 by_cases c:(cQ b (bW (aT b) b (aD b ⟨0,0⟩).1 (aD b ⟨0,0⟩).2).2).err=0
 ·rw [h2 (aId c)]
 ·simp only [c,not_false_eq_true,if_true,ne_eq]
theorem aTb:pX 76=some (.val (dD [])):=by kernel_rfl
theorem t76:VT 76 Tryz.f76 [] [(6,[2,3,4])]:=vt (by kernel_rfl)
theorem aTc (t:Nat) (a b:Int):aZ prog .xor t (.int .i64 a) (.int .i64 b)=.ok (.int .i64 (wr .i64 ((BitVec.toNat (BitVec.ofInt IntKind.i64.bits a ^^^ BitVec.ofInt IntKind.i64.bits b):Nat):Int))):=rfl
theorem aTd {m:Nat} (h:m<2 ^ 63):BitVec.toNat (BitVec.ofInt 64 (m:Int) ^^^ BitVec.ofInt 64 0)=m:=by
 rw [show BitVec.ofInt 64 0=0#64 by decide,BitVec.xor_zero,BitVec.toNat_ofInt]
 omega
theorem aTe {m:Nat} (h:m<2 ^ 63):BitVec.toNat (BitVec.ofInt 64 (m:Int) ^^^ BitVec.ofInt 64 (-1))=2 ^ 64 - 1 - m:=by
 rw [show BitVec.ofInt 64 (-1)=BitVec.allOnes 64 by decide,BitVec.xor_allOnes,BitVec.toNat_not,BitVec.toNat_ofInt]
 omega
theorem aVe {m:Nat} (h:m<2 ^ 63):wr .i64 ((BitVec.toNat (BitVec.ofInt IntKind.i64.bits (m:Int) ^^^ BitVec.ofInt IntKind.i64.bits 0):Nat):Int)=(m:Int):=by
 have e:BitVec.toNat (BitVec.ofInt IntKind.i64.bits (m:Int) ^^^ BitVec.ofInt IntKind.i64.bits 0)=m:=aTd h
 rw [e,iX (by omega) (by omega)]
theorem aVf {m:Nat} (h:m<2 ^ 63):wr .i64 ((BitVec.toNat (BitVec.ofInt IntKind.i64.bits (m:Int) ^^^ BitVec.ofInt IntKind.i64.bits (-1)):Nat):Int)=-(m:Int) - 1:=by
 have e:BitVec.toNat (BitVec.ofInt IntKind.i64.bits (m:Int) ^^^ BitVec.ofInt IntKind.i64.bits (-1))=2 ^ 64 - 1 - m:=aTe h
 rw [e]
 simp [wr,lo,hi,IntKind.wrap,IntKind.min,IntKind.max,IntKind.bits,IntKind.signed];omega
theorem aVg (t:Nat) (k:IntKind) (a:Int) (s:Nat):aZ prog .shl t (.int k a) (.int .i64 (s:Int))=.ok (.int k (wr k (a*2 ^ (min s k.bits)))):=by
 have h:¬ ((s:Int)<0):=by omega
 simp [aZ,mW,h,wr]
theorem i7i {i:Nat} (h:7*i≤63):wr .i64 (7*(i:Int))=((7*i:Nat):Int):=by
 rw [iX (by omega) (by omega)];omega
theorem b76 {b:List UInt8} (hb:b.length<1000000000) {r:Rd} (hr:r.pos≤b.length):fR prog C (dD []) (dN [(6,[2,3,4])]) 76 [.ptr 0 0 0 0] ⟨1,Tr.nil.put 0 (.row 0 3 [r.cells b])⟩ fun v0 S0=>v0=.int .i64 (aD b r).1∧S0.heap.get 0=some (.row 0 3 [(aD b r).2.cells b]):=by
 rw [t76]
 delta Tryz.f76;simp only [↓cw,↓reduceIte,Nat.reduceLT,kk,Rd.cells,aB]
 by_cases he:r.err=0
 ·simp only [↓cw,↓reduceIte,Nat.reduceLT,kk,he,if_true,if_false,not_true_eq_false]
  refine jZ (fun m vs X=>∃ i acc:Nat,m=10 - i∧i≤9∧vs=[.int .i64 0,.int .u64 (acc:Int),.int .i64 (i:Int)]∧X.heap=Tr.nil.put 0 (Blk.row 0 3 [[V.imm (b.map dY),V.int IntKind.i64 (r.pos:Int),V.int IntKind.i64 0]])∧acc<2 ^ (7*i)∧r.pos+i≤b.length∧Go.Pack.rdL i acc (b.drop (r.pos+i))=Go.Pack.rdL 0 0 (b.drop r.pos)) ?_ ⟨0,0,rfl,by omega,rfl,rfl,by decide,by omega,rfl⟩
  rintro m vs ⟨nx,hp⟩ ⟨i,acc,rfl,hi,rfl,hX,ha,hpi,hrd⟩ bF hag
  simp only at hX
  subst hX
  have hw:wr .i64 ((r.pos:Int)+(i:Int))=((r.pos+i:Nat):Int):=by rw [iX (by omega) (by omega)];omega
  simp only [↓cw,↓reduceIte,Nat.reduceLT,kk,aB,hw]
  by_cases hs:b.length≤r.pos+i
  ·simp only [↓cw,↓reduceIte,Nat.reduceLT,kk,show ((b.length:Int)≤((r.pos+i:Nat):Int))=True by simp;omega,if_true]
   have hN:aD b r=(0,⟨r.pos,3⟩):=by unfold aD;rw [if_pos he,←hrd,List.drop_eq_nil_of_le hs];rfl
   rw [hN]
   exact ⟨rfl,Tr.get_put_sameB _ _ _ trivial⟩
  ·obtain ⟨c,hc⟩:∃ c,b[r.pos+i]?=some c:=⟨_,List.getElem?_eq_getElem (by omega)⟩
   have hd:b.drop (r.pos+i)=c::b.drop (r.pos+(i+1)):=by
    obtain ⟨hl,hcc⟩:=List.getElem?_eq_some_iff.1 hc
    rw [←hcc];exact (List.getElem_cons_drop hl).symm
   rw [hd,yW] at hrd
   have hN:aD b r=(match Go.Pack.rdL 0 0 (b.drop r.pos) with
    | .ok (u,t)=>(Go.Pack.zag u,⟨b.length - t.length,0⟩)
    | .error e=>(0,⟨r.pos,e⟩)):=by unfold aD;rw [if_pos he]<;>rfl
   rw [←hrd] at hN
   have hu8:(dY c)[0]?=some (.int .u8 (c.toNat:Int)):=rfl
   by_cases h91:i=9∧1<c.toNat
   ·rw [if_pos h91] at hN
    simp only [↓cw,↓reduceIte,Nat.reduceLT,kk,show ((b.length:Int)≤((r.pos+i:Nat):Int))=False by simp;omega,if_false,wQ hc,hu8,show ((i:Int)=9)=True by simp;omega,if_true,show ((1:Int)<(c.toNat:Int))=True by simp;omega]
    rw [hN]
    exact ⟨rfl,Tr.get_put_sameB _ _ _ trivial⟩
   rw [if_neg h91] at hN
   obtain ⟨q1,q2,q3,q4,q5⟩:=aNn hi ha h91
   have hlow:wr .u64 ((c.toNat % 128:Nat):Int)=((c.toNat % 128:Nat):Int):=vD (by omega)
   have h99:∀ (A B:Prop),(if (i:Int)=9 then (if (1:Int)<(c.toNat:Int) then A else B) else B)=B:=by
    intro A B
    split
    ·rw [if_neg (by omega)]
    ·rfl
   simp only [↓cw,↓reduceIte,Nat.reduceLT,kk,show ((b.length:Int)≤((r.pos+i:Nat):Int))=False by simp;omega,if_false,wQ hc,hu8,h99,aNm,aCy,hlow,i7i q5,aVg,sh7 q5 q1,orK,aNo ha q1 q2 q3,wr1 (show i<1000000000 by omega)]
   by_cases h128:128≤c.toNat
   ·rw [if_pos h128] at hrd
    rw [if_neg (show ¬ (c.toNat:Int)<128 by omega)]
    exact hag (10 - (i+1)) _ _ (by omega) ⟨i+1,_,rfl,by omega,rfl,rfl,q4 (by omega),by omega,by rw [if_neg h91] at hrd;exact hrd⟩
   rw [if_neg h128] at hN
   rw [if_pos (show (c.toNat:Int)<128 by omega)]
   by_cases h0:c.toNat=0∧0<i
   ·rw [if_pos h0] at hN
    simp only [show ((c.toNat:Int)=0)=True by simp;omega,show ((0:Int)<(i:Int))=True by simp;omega,if_true]
    rw [hN]
    exact ⟨rfl,Tr.get_put_sameB _ _ _ trivial⟩
   rw [if_neg h0] at hN
   have h00:∀ (A B:Prop),(if (c.toNat:Int)=0 then (if (0:Int)<(i:Int) then A else B) else B)=B:=by
    intro A B
    split
    ·rw [if_neg (by omega)]
    ·rfl
   have hv:wr .i64 (wr .i64 ((r.pos:Int)+(i:Int))+1)=((b.length - (b.drop (r.pos+(i+1))).length:Nat):Int):=by
    have e:wr .i64 ((r.pos:Int)+(i:Int))=((r.pos+i:Nat):Int):=by rw [iX (by omega) (by omega)];omega
    rw [e,iX (by omega) (by omega),List.length_drop];omega
   generalize acc+c.toNat % 128*2 ^ (7*i)=u at *
   have wu:wr .i64 ((u / 2:Nat):Int)=((u / 2:Nat):Int):=iX (by omega) (by omega)
   by_cases hodd:u % 2=1
   ·have hz:Go.Pack.zag u=-((u / 2:Nat):Int) - 1:=by unfold Go.Pack.zag;rw [if_pos hodd]
    simp only [↓cw,↓reduceIte,Nat.reduceLT,kk,h00,hv,aJf,unK,aJg q2,hodd,aCz,aJh,wu,Int.natCast_one,show wr .i64 (1:Int)=1 from rfl,show wr .i64 ((0:Int) - 1)=-1 from rfl,aTc,aVf (show u / 2<2 ^ 63 by omega)]
    rw [hN]
    exact ⟨congrArg (V.int .i64) hz.symm,Tr.get_put_sameB _ _ _ trivial⟩
   ·have hz:Go.Pack.zag u=((u / 2:Nat):Int):=by unfold Go.Pack.zag;rw [if_neg hodd]
    have h0:u % 2=0:=by omega
    simp only [↓cw,↓reduceIte,Nat.reduceLT,kk,h00,hv,aJf,unK,aJg q2,h0,aCz,aJh,wu,Int.natCast_zero,show wr .i64 (0:Int)=0 from rfl,show wr .i64 ((0:Int) - 0)=0 from rfl,aTc,aVe (show u / 2<2 ^ 63 by omega)]
    rw [hN]
    exact ⟨congrArg (V.int .i64) hz.symm,Tr.get_put_sameB _ _ _ trivial⟩
 ·simp only [↓cw,↓reduceIte,Nat.reduceLT,kk,he,if_true,if_false,not_false_eq_true,aD]
  trivial
theorem r76 {b:List UInt8} (hb:b.length<1000000000) {r:Rd} (hr:r.pos≤b.length):FRd 76 [] b r (.int .i64 (aD b r).1) (aD b r).2:=FnR.of aTb (lv:=dN [(6,[2,3,4])]) (Pt.head rfl) (Rd.clo b r) (b76 hb hr) rfl (Rd.clo b _)
theorem aTg:pX 159=some (.val (dD [])):=by kernel_rfl
theorem aVh:VT 159 Tryz.f159 [] []:=vt (by kernel_rfl)
theorem aTh {b:List UInt8} (hb:b.length<1000000000) {r:Rd} (hr:r.pos≤b.length) (lo hi:Int):FRd 159 [.int .i64 lo,.int .i64 hi] b r (.int .i64 (dR b lo hi r).1) (dR b lo hi r).2:=by
 refine FnR.of aTg (lv:=dN []) (Pt.head rfl) (Rd.clo b r) ?_ rfl (Rd.clo b _)
 rw [aVh]
 delta Tryz.f159;simp only [↓cw,↓reduceIte,Nat.reduceLT,kk,Rd.cells,aB]
 refine Eq.mpr ((r76 hb hr).eq (Tr.get_put_sameB _ _ _ trivial) _) ?_
 unfold dR
 generalize aD b r=x
 obtain ⟨n,p,e⟩:=x
 simp only [↓cw,↓reduceIte,Nat.reduceLT,kk,Rd.cells,aB]
 by_cases he:e=0
 ·by_cases h1:n<lo
  ·simp only [↓cw,↓reduceIte,Nat.reduceLT,kk,he,h1,if_true,aB]
   first | exact ⟨rfl,Tr.get_put_sameB _ _ _ trivial⟩ | exact Tr.get_put_sameB _ _ _ trivial
  ·by_cases h2:hi<n
   ·simp only [↓cw,↓reduceIte,Nat.reduceLT,kk,he,h1,h2,if_true,if_false,aB]
    first | exact ⟨rfl,Tr.get_put_sameB _ _ _ trivial⟩ | exact Tr.get_put_sameB _ _ _ trivial
   ·simp only [↓cw,↓reduceIte,Nat.reduceLT,kk,he,h1,h2,if_true,if_false,aB]
    first | exact ⟨rfl,Tr.get_put_sameB _ _ _ trivial⟩ | exact Tr.get_put_sameB _ _ _ trivial
 ·simp only [↓cw,↓reduceIte,Nat.reduceLT,kk,he,if_true,if_false,aB]
  first | exact ⟨rfl,Tr.get_put_sameB _ _ _ trivial⟩ | exact Tr.get_put_sameB _ _ _ trivial
theorem aVi:pX 73=some (.val (dD [])):=by kernel_rfl
theorem t73:VT 73 Tryz.f73 [] []:=vt (by kernel_rfl)
theorem b73 {b:List UInt8} (hb:b.length<1000000000) {r:Rd} (hr:r.pos≤b.length) (most:Int):fR prog C (dD []) (dN []) 73 [.ptr 0 0 0 0,.int .i64 most] ⟨1,Tr.nil.put 0 (.row 0 3 [r.cells b])⟩ fun v0 S0=>v0=.int .i64 (cG b most r).1∧S0.heap.get 0=some (.row 0 3 [(cG b most r).2.cells b]):=by
 rw [t73]
 delta Tryz.f73;simp only [↓cw,↓reduceIte,Nat.reduceLT,kk,Rd.cells,aB]
 refine Eq.mpr ((aTh hb hr 0 most).eq (Tr.get_put_sameB _ _ _ trivial) _) ?_
 have hp:=jK (lo:=0) (hi:=most) hr
 unfold cG
 generalize dR b 0 most r=x at hp ⊢
 obtain ⟨n,p,e⟩:=x
 simp only at hp
 have hw:wr .i64 ((b.length:Int) - (p:Int))=(b.length:Int) - (p:Int):=iX (by omega) (by omega)
 simp only [↓cw,↓reduceIte,Nat.reduceLT,kk,Rd.cells,aB,hw]
 by_cases he:e=0
 ·by_cases h1:(b.length:Int) - (p:Int)<n
  ·simp only [↓cw,↓reduceIte,Nat.reduceLT,kk,he,h1,if_true,aB,hw]
   first | exact ⟨rfl,Tr.get_put_sameB _ _ _ trivial⟩ | exact Tr.get_put_sameB _ _ _ trivial
  ·simp only [↓cw,↓reduceIte,Nat.reduceLT,kk,he,h1,if_true,if_false,aB,hw]
   first | exact ⟨rfl,Tr.get_put_sameB _ _ _ trivial⟩ | exact Tr.get_put_sameB _ _ _ trivial
 ·simp only [↓cw,↓reduceIte,Nat.reduceLT,kk,he,if_true,if_false,aB]
  first | exact ⟨rfl,Tr.get_put_sameB _ _ _ trivial⟩ | exact Tr.get_put_sameB _ _ _ trivial
theorem r73 {b:List UInt8} (hb:b.length<1000000000) {r:Rd} (hr:r.pos≤b.length) (most:Int):FRd 73 [.int .i64 most] b r (.int .i64 (cG b most r).1) (cG b most r).2:=
 FnR.of aVi (lv:=dN []) (Pt.head rfl) (Rd.clo b r) (b73 hb hr most) rfl (Rd.clo b _)
theorem aVk:pX 78=some (.val (dD [])):=by kernel_rfl
theorem t78:VT 78 Tryz.f78 [] []:=vt (by kernel_rfl)
theorem r78 {b:List UInt8} {r:Rd}:FRd 78 [] b r (.int .i64 (cQ b r).err) (cQ b r):=by
 refine FnR.of aVk (lv:=dN []) (Pt.head rfl) (Rd.clo b r) ?_ rfl (Rd.clo b _)
 rw [t78]
 obtain ⟨p,e⟩:=r
 delta Tryz.f78;simp only [↓cw,↓reduceIte,Nat.reduceLT,kk,Rd.cells,aB,cQ]
 by_cases he:e=0
 ·by_cases h1:p<b.length
  ·simp only [↓cw,↓reduceIte,Nat.reduceLT,kk,he,show ((p:Int)<(b.length:Int))=True by simp;exact h1,if_pos h1,if_true,aB]
   trivial
  ·simp only [↓cw,↓reduceIte,Nat.reduceLT,kk,he,show ((p:Int)<(b.length:Int))=False by simp;omega,if_neg h1,if_true,if_false,aB]
   trivial
 ·simp only [↓cw,↓reduceIte,Nat.reduceLT,kk,he,if_true,if_false,aB]
  trivial
theorem aVl:pX 74=some (.val (dD [])):=by kernel_rfl
theorem t74:VT 74 Tryz.f74 [] []:=vt (by kernel_rfl)
theorem r74 {b:List UInt8} (hb:b.length<1000000000) {r:Rd} (hr:r.pos≤b.length) (most:Int):FRd 74 [.int .i64 most] b r (.str (aE b most r).1) (aE b most r).2:=by
 refine FnR.of aVl (lv:=dN []) (Pt.head rfl) (Rd.clo b r) ?_ rfl (Rd.clo b _)
 rw [t74]
 delta Tryz.f74;simp only [↓cw,↓reduceIte,Nat.reduceLT,kk,Rd.cells,aB]
 refine Eq.mpr ((aTh hb hr 0 most).eq (Tr.get_put_sameB _ _ _ trivial) _) ?_
 have hp:=jK (lo:=0) (hi:=most) hr
 have hk:=wS (b:=b) (lo:=0) (hi:=most) (r:=r)
 unfold aE
 generalize dR b 0 most r=x at hp hk ⊢
 obtain ⟨n,p,e⟩:=x
 simp only at hp hk
 have hw:wr .i64 ((b.length:Int) - (p:Int))=(b.length:Int) - (p:Int):=iX (by omega) (by omega)
 simp only [↓cw,↓reduceIte,Nat.reduceLT,kk,Rd.cells,aB,hw]
 by_cases he:e=0
 ·obtain ⟨k1,k2⟩:=hk he
  obtain ⟨m,rfl⟩:=Int.eq_ofNat_of_zero_le k1
  by_cases h1:(b.length:Int) - (p:Int)<(m:Int)
  ·simp only [↓cw,↓reduceIte,Nat.reduceLT,kk,he,h1,if_true,aB,hw,not_true_eq_false,if_false]
   first | exact ⟨rfl,Tr.get_put_sameB _ _ _ trivial⟩ | exact Tr.get_put_sameB _ _ _ trivial
  ·have hw2:wr .i64 ((p:Int)+(m:Int))=((p+m:Nat):Int):=by rw [iX (by omega) (by omega)];omega
   simp only [↓cw,↓reduceIte,Nat.reduceLT,kk,he,h1,if_true,if_false,not_true_eq_false,aB,hw,hw2]
   have hm:((m:Int)).toNat=m:=by omega
   simp only [↓cw,↓reduceIte,Nat.reduceLT,kk,aNp (show p+m≤b.length by omega),aSq,aB,hw2,hm]
   first | exact ⟨rfl,Tr.get_put_sameB _ _ _ trivial⟩ | exact Tr.get_put_sameB _ _ _ trivial
 ·simp only [↓cw,↓reduceIte,Nat.reduceLT,kk,he,if_true,if_false,not_false_eq_true,aB]
  first | exact ⟨rfl,Tr.get_put_sameB _ _ _ trivial⟩ | exact Tr.get_put_sameB _ _ _ trivial
theorem aVm:pX 75=some (.val (dD [])):=by kernel_rfl
theorem t75:VT 75 Tryz.f75 [] []:=vt (by kernel_rfl)
theorem r75 {b:List UInt8} (hb:b.length<1000000000) {r:Rd} (hr:r.pos≤b.length):FRd 75 [] b r (.agg (aW b r).1.enc) (aW b r).2:=by
 refine FnR.of aVm (lv:=dN []) (Pt.head rfl) (Rd.clo b r) ?_ rfl (Rd.clo b _)
 rw [t75]
 delta Tryz.f75;simp only [↓cw,↓reduceIte,Nat.reduceLT,Nat.reduceAdd,kk,Rd.cells,aB,yY]
 refine Eq.mpr ((r76 hb hr).eq (by repeat' first | exact gS | refine gN ?_) _) ?_
 simp only [↓cw,↓reduceIte,Nat.reduceLT,Nat.reduceAdd,kk,Rd.cells,aB,yY]
 refine Eq.mpr ((r76 hb (aY hr)).eq (by repeat' first | exact gS | refine gN ?_) _) ?_
 simp only [↓cw,↓reduceIte,Nat.reduceLT,Nat.reduceAdd,kk,Rd.cells,aB,yY]
 refine Eq.mpr ((r76 hb (aY (aY hr))).eq (by repeat' first | exact gS | refine gN ?_) _) ?_
 simp only [↓cw,↓reduceIte,Nat.reduceLT,Nat.reduceAdd,kk,Rd.cells,aB,yY]
 exact ⟨rfl,by repeat' first | exact gS | refine gN ?_⟩
end Go.Proofs.YtoaibmbldmckaaaGreat
end
section
namespace Go.AM
set_option linter.unusedVariables false
set_option linter.unusedSimpArgs false
set_option maxRecDepth 100000
section
variable {P:Program} {pl:eE}
theorem FnR.cutU {f:FuncId} {p:Nat→Option (List bB)} (hpl:pl f=some (.val p)) {lv:Nat→List Nat} {mk:Nat→List V} (hm:Pt mk) {ver n:Nat} {pre0 pre post:List (List V)} {v:V} {c:Nat}
  (h:fR P (W P pl) p lv f (mk 0) ⟨1,Tr.nil.put 0 (.row ver n pre)⟩ fun v0 S0=>v0=v∧S0.heap.get 0=some (.row ver n post)) (hv:eJ v=true) (hq:post.all cloVs=true) {S:St} {a:Nat} (hS:S.heap.get a=some (.row ver n pre0))
  (h1:gD (iS S 3) pre0=.ok pre) (h2:hZ (eX S 3) pre0=[c]) (hca:c≠a):∃ h',(h'=S.heap∨h'=S.heap.cut c)∧∀ K,W P pl f (mk a) S K=K v ⟨S.next,h'.put a (.row ver n post)⟩:=by
 obtain ⟨v0,S0,g1,rfl,g2⟩:=fL aDx h
 refine ⟨bif eZ v0&&kE [(ver,n,post)] then S.heap else S.heap.cut c,by cases eZ v0&&kE [(ver,n,post)]<;>simp,fun K=>aDy (iF (g1.one fun k g1=>?_)) K⟩
 simp only [cP,hpl]
 obtain ⟨q1,q2⟩:=cZ (S:=S0) (n:=2) hq
 unfold oQ
 rw [hm.ptr,hm.sls]
 have hA:([]++bS S [a])=[c]:=by simp only [bS,hS,h2,List.append_nil,List.nil_append]
 have hB:(eL (fV (eX S0 3) S0) v0++bS S0 (jR 0 1)).any (fun a=>Nat.blt a 1)=false:=by
  simp only [jR,bS,g2,q2,sN v0 hv,List.append_nil,List.any_nil]
 have hC:([c].any fun x=>fI x [a])=false:=by
  simp only [List.any_cons,List.any_nil,fI,Bool.or_false]
  exact Bool.eq_false_iff.2 fun h=>hca (Nat.eq_of_beq_eq_true h)
 rw [hA]
 simp only [hm.frz,eM,hS,h1,hC,cond_false,List.length_cons,List.length_nil,Nat.zero_add,nA,g1,iO v0 hv,hB,iG]
 have:eM S0 (jR 0 1)=.ok [(ver,n,post)]:=by simp only [jR,eM,g2,q1]
 rw [this]
 simp only [jB,iG]
end
end Go.AM
namespace Go.Proofs.YtoaibmbldmckaaaGreat
open Go.AM Tryz
set_option linter.unusedVariables false
set_option linter.unusedSimpArgs false
set_option maxRecDepth 100000
end Go.Proofs.YtoaibmbldmckaaaGreat
end
