import Derived.Test.YtbiidlmhadihlaaX4
set_option linter.unusedSimpArgs false
set_option linter.unusedVariables false
set_option linter.unusedSectionVars false
set_option maxRecDepth 100000
section
namespace Go.Proofs.Ytbiidlmhadihlaa
open Go.AM Go.Raft Try
section
variable [Guard]
theorem aW8 {c:Core} (I:Raft.Inv c) {id:Int} (h1:0≤id) (h2:id<7) (n:Int):∃ d,oH id c.h n=some d:=by
 have h3:=(lG _).2 I.h
 unfold oH
 rw [if_neg (by rintro (q | q | q);omega;omega;rw [h3] at q;cases q)]
 exact ⟨_,rfl⟩
section
variable {S:St} {a:Nat} {g:Grp} {p:Int→Nat} {O:Int→Nat→Prop} {lv sv wv:V} {rows:List (List V)}
theorem g25 (h:GAt S a g p O lv sv wv rows) (w:WF S) (F:Fit g 90000) (hsd:0≤g.said∧g.said≤90000) (A:Raft.Act) (s:∀ g' k,g.step A=some (g',k)→StepOK g' k):
  Does prog bC bD 25 [.ptr a 0 0 0,.agg (qT A)] S (aC8 a g A):=by
 have ho:=F.out
 have hoA:aK (qT A)=true:=rfl
 have hln:(qT A).length=3:=rfl
 obtain ⟨S1,hn1,x1,hA,hnx1⟩:=nb w 3 (qT A)
 have w1:=x1.wf w
 have h1:=h.ext ho w x1
 have hba:S.next≠a:=fun e=>by have:=h.rest.al;omega
 refine e25 ?_
 simp only [m25,bK,hoA,hln,cO,hn1,bS,aVk,aJd,aF,Nat.reduceAdd,dY,t_a hA]
 refine Does.call (g26 A.a 0 4 S1 (by decide) (by decide) (by decide)) fun u S1' ⟨e1,e2⟩=>?_
 subst e1
 subst e2
 obtain ⟨k0,k4⟩:=gU A.a 0 4 (by decide)
 obtain ⟨kn,hkn,hk⟩:∃ kn:Nat,cC A.a 0 4=(kn:Int)∧kn<5:=⟨(cC A.a 0 4).toNat,by omega,by omega⟩
 rw [hkn]
 have I:=F.inv (kn:Int) (by omega) (by omega)
 simp only [bS,aKe hA,aR,cO,bX]
 refine Ok.pickP (fun e=>?_) (fun e1=>?_)
 ·have hst:g.step A=some ({ g with cs:=eI g.cs (kn:Int) ((g.cs (kn:Int)).tick A.n) },(kn:Int)):=by
   unfold Grp.step;simp only;rw [if_pos e,hkn]
  have xb:Ext S1' (⟨S1'.next+9,S1'.heap⟩:St):=(Ext.refl S1').bump 9
  have wb:=xb.wf w1
  have hb:=h1.ext ho w1 xb
  have gc:=jR hb hk
  have tn:=t_n (xb.old _ _ hA)
  simp only [dQ,iW,aF2,aF,Nat.reduceAdd,Nat.zero_add,bS,mB,cZ hk,Nat.mul_one,xQ,dY,gc,tn]
  exact aBh hb wb ho (k:=(kn:Int)) (by omega) (by omega) (fun G hi=>g18 A.n wb hi I (by rw [ho (kn:Int) (by omega) (by omega)];exact Nat.zero_le _)) fun S5 O5 w5 _ h5=>j25 h5 w5 hst (s _ _ hst)
 refine Ok.pickP (fun e=>aQa h1 w1 hA hba hk F (.inl e) hkn s) (fun e2=>?_)
 refine Ok.pickP (fun e=>aQa h1 w1 hA hba hk F (.inr (.inl e)) hkn s) (fun e3=>?_)
 by_cases e4:A.kind=4
 ·simp only [e4,decide_true]
  exact aQa h1 w1 hA hba hk F (.inr (.inr e4)) hkn s
 have n234:¬ (A.kind=2∨A.kind=3∨A.kind=4):=by omega
 simp only [e4,decide_false]
 by_cases e5:A.kind=5
 ·have hst:g.step A=some ({ g with said:=g.said+1,cs:=eI g.cs (kn:Int) ((g.cs (kn:Int)).propose [gC (g.said+1)]).1 },(kn:Int)):=by
   unfold Grp.step;simp only;rw [if_neg e1,if_neg n234,if_pos e5,hkn]
  rw [e5]
  exact aY5 h1 w1 hk F hsd hst (s _ _ hst)
 by_cases e6:A.kind=6
 ·have hst:g.step A=some ({ g with cs:=eI g.cs (kn:Int) ((g.cs (kn:Int)).change (A.n % 32)).1 },(kn:Int)):=by
   unfold Grp.step;simp only;rw [if_neg e1,if_neg n234,if_neg e5,if_pos e6,hkn]
  rw [e6]
  exact aY6 h1 w1 hA hk F hst (s _ _ hst)
 by_cases e7:A.kind=7
 ·have hst:g.step A=some ({ g with cs:=eI g.cs (kn:Int) ((g.cs (kn:Int)).compact (g.cs (kn:Int)).sure (xH (g.cs (kn:Int)).sure)).1 },(kn:Int)):=by
   unfold Grp.step;simp only;rw [if_neg e1,if_neg n234,if_neg e5,if_neg e6,if_pos e7,hkn]
  rw [e7]
  exact aY7 h1 w1 hk F hst (s _ _ hst)
 by_cases e8:A.kind=8
 ·obtain ⟨d,hN⟩:=aW8 I (id:=(kn:Int)) (by omega) (by omega) A.n
  have hst:g.step A=some ({ g with cs:=eI g.cs (kn:Int) d },(kn:Int)):=by
   unfold Grp.step;simp only;rw [if_neg e1,if_neg n234,if_neg e5,if_neg e6,if_neg e7,if_pos e8,hkn,hN];rfl
  rw [e8]
  exact aY9 h1 w1 hA hk F hN hst (s _ _ hst)
 ·have hst:g.step A=some (g,(kn:Int)):=by
   unfold Grp.step;simp only;rw [if_neg e1,if_neg n234,if_neg e5,if_neg e6,if_neg e7,if_neg e8,hkn]
  exact aY8 h1 w1 hk F e5 e6 e7 e8 hst (s _ _ hst)
end
theorem aLo {G:Gho} {g:Grp} {B:Nat} (h:GI G g B) (hB:B<90000) (A:Raft.Act):∀ g' k,g.step A=some (g',k)→StepOK g' k:=by
 intro g' k hs
 obtain ⟨k0,k5,G',le,W',_,_,out',ll',e1,_,_,ol⟩:=aLl h A hs
 obtain ⟨s1,s2⟩:=(aKb h A).1 _ hs
 have s2':Fit (g'.post k) (B+1):=s2
 refine ⟨k0,k5,out',ll',ol,by rw [e1];exact h.le,⟨s2'.inv,s2'.id,s2'.out,s2'.to,s2'.ll,s2'.lead,s2'.sw,by have:=s2'.sl;omega,fun v v0 v5=>by have:=s2'.last v v0 v5;omega⟩,s1⟩
theorem aI4 {g:Grp} {B:Nat} (h:Fit g B) (hB:B≤90000):Fit g 90000:=⟨h.inv,h.id,h.out,h.to,h.ll,h.lead,h.sw,by have:=h.sl;omega,fun v v0 v5=>by have:=h.last v v0 v5;omega⟩
end
section
variable [Guard]
def aQb:List V:=List.replicate 200 (.int .i64 0)
def nY (i:Nat) (p:Nat→Nat):List V:=[if 0<i then .ptr (p 0) 0 0 0 else .nilp,if 1<i then .ptr (p 1) 0 0 0 else .nilp,if 2<i then .ptr (p 2) 0 0 0 else .nilp,if 3<i then .ptr (p 3) 0 0 0 else .nilp,if 4<i then .ptr (p 4) 0 0 0 else .nilp,.nils,.int .i64 0,.nils,.nils]++aQb
theorem aW9:bO prog 71 []=.ok (.agg (nY 0 fun _=>0)):=by rw [bAg];rfl
structure StartI (members:Int) (a i:Nat) (S:St) (p:Nat→Nat) (O:Nat→Nat→Prop):Prop where
 wf:WF S
 al:a<S.next
 cell:S.heap.get a=some (.row 0 209 [nY i p])
 cores:∀ j,j<i→@CoreIn ⟨0⟩ S (p j) (aBg members (j:Int)) (O j)
 sep:∀ j l,j<i→l<i→j≠l→∀ y,O j y→¬ O l y
 na:∀ j,j<i→∀ y,O j y→y≠a
theorem StartI.keep {members:Int} {a i:Nat} {S S':St} {p:Nat→Nat} {O:Nat→Nat→Prop} (h:StartI members a i S p O) (x:Ext S S'):StartI members a i S' p O:=by
 refine ⟨x.wf h.wf,Nat.lt_of_lt_of_le h.al x.next,x.old _ _ h.cell,fun j hj=>?_,h.sep,h.na⟩
 letI:Guard:=⟨0⟩
 exact (h.cores j hj).ext h.wf x
theorem aBi (i:Nat) (p:Nat→Nat):(nY i p).length=209:=by unfold nY aQb;simp
theorem aKf (i:Nat) (p:Nat→Nat) (c:Nat) (hi:i<5):splice (nY i p) i [.ptr c 0 0 0]=nY (i+1) (fun j=>if j=i then c else p j):=by
 have h5:i=0∨i=1∨i=2∨i=3∨i=4:=by omega
 rcases h5 with rfl | rfl | rfl | rfl | rfl<;>rfl
theorem aKg (m:Int):bO prog 24 [(1,.int .i64 (-1)),(4,.int .i64 (cC m 1 31))]=.ok (.agg (bB (wI m) .nils)):=by rw [aVe];rfl
theorem g24 (members:Int) (S:St) (w:WF S):Does prog bC bD 24 [.int .i64 members] S fun u S'=>∃ a p O,u=.ptr a 0 0 0∧WF S'∧GAt S' a (mF members) p O .nils .nils .nils []:=by
 have hlen:(nY 0 fun _=>0).length=209:=aBi _ _
 have hone:aK (nY 0 fun _=>0)=true:=by decide +kernel
 obtain ⟨S1,hn1,x1,hg1,hnx1⟩:=nb w 209 (nY 0 fun _=>0)
 have w1:=x1.wf w
 refine e24 ?_
 simp only [m24,aW9,bS,bK,hone,cO,hlen,hn1]
 refine Ok.loopL (F:=fun κ K=>aEi (aC prog bC bD κ) κ K (.int .i64 members) (.ptr S.next 0 0 0)) (ρ:=Unit) (α:=Nat) (X:=Unit) (List.range 5) (step:=fun _ _=>.inr ()) (fin:=id) (s:=())
  (out:=fun κ K _ S'=>K (.ptr S.next 0 0 0) S')
  (fun i _ vs T=>vs=[.nilp,.int .i64 (i:Int)]∧i≤5∧∃ p O,StartI members S.next i T p O)
  (fun _ _ T=>∃ p O,StartI members S.next 5 T p O) ?_ ?_ ⟨rfl,by decide,fun _=>0,fun _ _=>False,w1,by omega,hg1,fun j hj=>absurd hj (by omega),fun j l hj=>absurd hj (by omega),fun j hj=>absurd hj (by omega)⟩ (fun _ T ⟨p,O,hT⟩=>?_)
 ·rintro i j _ vs T ⟨rfl,hi5,p,O,hT⟩ hi
  have hil:=(List.getElem?_eq_some_iff.1 hi).1
  rw [List.length_range] at hil
  have hlt:(i:Int)<5:=by omega
  have hwi:wr .i64 ((i:Int)+1)=((i+1:Nat):Int):=fG hil (by decide)
  have hw3:wr .i64 (3*(i:Int))=3*(i:Int):=cR (by omega) (by omega)
  have hN:=aDi members (v:=(i:Int)) (by omega) (by omega)
  simp only [aEi,bE,bG,bS,hlt,decide_true,dD]
  refine OkL.call (g26 members 1 31 T (by decide) (by decide) (by decide)) fun u T' ⟨e1,e2⟩=>?_
  subst e1
  subst e2
  simp only [aKg,bS,aL5,hw3]
  refine OkL.call (letI:Guard:=⟨0⟩;g11 (i:Int) (3*(i:Int)) (wI members) .nils T' hT.wf (Nat.zero_le _) (Sl.nilv _ _) (by show 0≤1000000;decide)) fun u S2 ⟨x2,hn⟩=>?_
  rw [hN] at hn
  obtain ⟨c1,O1,rfl,in1,hO1⟩:=hn
  have h2:=hT.keep x2
  have hsp:=aKf i p c1 hil
  have est:=cX (x:=.ptr c1 0 0 0) (j:=i) (m:=1) h2.cell rfl rfl (by rw [aBi];omega)
  have hcl:(V.ptr c1 0 0 0).cells=[.ptr c1 0 0 0]:=rfl
  rw [hcl,hsp] at est
  obtain ⟨S3,est,h3⟩:∃ S3,bH 1 (.ptr S.next 0 0 i) (.ptr c1 0 0 0) S2=.ok S3∧StartI members S.next (i+1) S3 (fun j=>if j=i then c1 else p j) (fun j=>if j=i then O1 else O j):=by
   have hal:=hT.al
   refine ⟨_,est,(But.put h2.al _).wf h2.wf,h2.al,jB,fun j hj=>?_,fun j l hj hl hne y hy hz=>?_,fun j hj y hy=>?_⟩
   ·by_cases e:j=i
    ·simp only [e,if_pos]
     refine in1.keep rfl h2.wf (Nat.le_refl _) fun y b hy hb=>dP y b (fun q=>?_) hb
     have:=hO1 y hy;omega
    ·simp only [if_neg e]
     exact (h2.cores j (by omega)).keep rfl h2.wf (Nat.le_refl _) fun y b hy hb=>dP y b (h2.na j (by omega) y hy) hb
   ·have lt:∀ j,j<i→∀ y,O j y→y<T'.next:=fun j hj y hy=>aDj hT.wf (hT.cores j hj) y hy
    by_cases ej:j=i
    ·simp only [ej,if_pos] at hy
     simp only [if_neg (fun q=>hne (ej.trans q.symm):¬ l=i)] at hz
     have:=hO1 y hy
     have:=lt l (by omega) y hz
     omega
    ·simp only [if_neg ej] at hy
     by_cases el:l=i
     ·simp only [el,if_pos] at hz
      have:=hO1 y hz
      have:=lt j (by omega) y hy
      omega
     ·simp only [if_neg el] at hz
      exact h2.sep j l (by omega) (by omega) hne y hy hz
   ·by_cases ej:j=i
    ·simp only [ej,if_pos] at hy
     have:=hO1 y hy;omega
    ·simp only [if_neg ej] at hy
     exact h2.na j (by omega) y hy
  simp only [mP,List.getElem?_cons_zero,List.getElem?_cons_succ,aA2,aHr,aHq,aR,dG,cO,bS,aH,decide_true,Bool.not_true,dQ,iW,aF,Nat.reduceAdd,Nat.zero_add,mB,cZ hil,Nat.mul_one,aXo,est,bQ,hwi]
  exact OkL.next ⟨(),rfl,rfl,by omega,_,_,h3⟩
 ·rintro _ vs T ⟨rfl,_,p,O,hT⟩
  have hlt:¬ (((List.range 5).length:Nat):Int)<5:=by rw [List.length_range];omega
  refine ⟨(),⟨p,O,hT⟩,fun κ K aO=>?_⟩
  simp only [aEi,bE,bG,aG,hlt,decide_false,aH]
 ·refine Ok.ret ⟨S.next,fun v=>p v.toNat,fun v=>O v.toNat,rfl,hT.wf,hT.cell,hT.al,fun y hy=>?_,fun v v0 v5=>⟨0,?_⟩,fun u v u0 u5 v0 v5 hne y hy=>?_,fun v v0 v5 y hy=>⟨hT.na v.toNat (by omega) y hy,(fun e=>by cases e),(fun e=>by cases e),(fun e=>by cases e)⟩,⟨fun c hc=>(by cases hc),.inl ⟨rfl,rfl⟩⟩,.nil,Own.nil _ _ _,Own.nil _ _ _⟩
  ·rcases hy with hy | hy | hy<;>cases hy
  ·have:=hT.cores v.toNat (by omega)
   rw [show ((v.toNat:Nat):Int)=v by omega] at this
   exact this
  ·exact hT.sep u.toNat v.toNat (by omega) (by omega) (by omega) y hy
theorem aQc (a b c d:Nat):aD prog .eql 61 (.ptr a b c d) .nilp=.ok (.bool false):=by
 have h:(fun a b c d=>aD prog .eql 61 (.ptr a b c d) .nilp)=fun _ _ _ _=>.ok (.bool false):=by kernel_rfl
 exact congrFun (congrFun (congrFun (congrFun h a) b) c) d
theorem aQd (a b c d:Nat):aJ prog 61 (.ptr a b c d) .nilp=true:=by
 have h:(fun a b c d=>aJ prog 61 (.ptr a b c d) .nilp)=fun _ _ _ _=>true:=by kernel_rfl
 exact congrFun (congrFun (congrFun (congrFun h a) b) c) d
structure RunI (a i:Nat) (S:St):Prop where
 ex:∃ G g p O lv sv wv rows,WF S∧GAt S a g p O lv sv wv rows∧GI G g i∧0≤g.said∧g.said≤i
theorem RunI.first {members:Int} {a:Nat} {S:St} {p:Int→Nat} {O:Int→Nat→Prop} (w:WF S) (h:GAt S a (mF members) p O .nils .nils .nils []):RunI a 0 S:=
 ⟨_,_,_,_,_,_,_,_,w,h,aHz members,Int.le_refl _,Int.le_refl _⟩
theorem RunI.act {a i:Nat} {S:St} (h:RunI a i S) (hi:i<80000) (A:Raft.Act):Does prog bC bD 25 [.ptr a 0 0 0,.agg (qT A)] S fun u S'=>u=.bool true∧WF S'∧∃ G g p O lv sv wv rows,GAt S' a g p O lv sv wv rows∧GI G g (i+1)∧0≤g.said∧g.said≤((i+1:Nat):Int)∧∀ k,0≤k→k<5→aFk g k:=by
 obtain ⟨G,g,p,O,lv,sv,wv,rows,w,hg,gi,s0,s1⟩:=h
 obtain ⟨u,S',N,⟨hu,w',p',O',lv',sv',wv',rows',hg'⟩,hrun⟩:=g25 hg w (aI4 gi.fit (by omega)) ⟨s0,by omega⟩ A (aLo gi (by omega) A)
 obtain ⟨_,G',gi',hh⟩:=aKb gi A
 refine ⟨u,S',N,⟨hu,w',G',g.act A,p',O',lv',sv',wv',rows',hg',gi',?_,?_,hh⟩,hrun⟩
 ·rcases uM g A with e | e<;>omega
 ·rcases uM g A with e | e<;>omega
end
section
variable [Guard]
def bBp (K:KS) (ag:Ag):KS:=fun v S=>match v with
 | .tup (.bool true::x::_)=>K x S
 | .tup (.bool false::vs)=>ag vs S
 | _=>none
def bBq (K:KS):KS:=fun v S=>K (.tup [.bool true,v]) S
def bBr (K:KS):Ag:=fun vs S=>K (.tup (.bool false::vs)) S
theorem aSh {X:Type} {F:Nat→KS→Ag→Ag→An} {out:Nat→KS→X→St→An} {Q:Turn X→Prop} (hQ:∀ x S,¬ Q (.stop x S)) (h:OkL out (fun κ K aO=>F κ (bBq K) (bBr K) aO) Q):∃ vs S N,Q (.next vs S)∧∀ κ K ag aO,N≤κ→F κ K ag aO=aO vs S:=by
 obtain ⟨o,N,q,h⟩:=h
 cases o with
 | stop x S=>exact absurd q (hQ x S)
 | next vs S=>exact ⟨vs,S,N,q,fun κ K ag aO hk=>h κ (bBp K ag) aO hk⟩
section
variable {S:St} {a b1 b2:Nat} {g:Grp} {kn:Nat} {p:Int→Nat} {O:Int→Nat→Prop} {lv sv wv la:V} {rows:List (List V)}
end
end
end Go.Proofs.Ytbiidlmhadihlaa
end
section
namespace Go.Raft
structure GoodL (L:eD):Prop where
 l1:1≤L.length
 l40:L.length≤40
 e:∀ x∈L,x.term=1∧x.members=0∧x.data.length≤1100
def gV (k f:Int) (i:Nat) (es:eD) (c:Int):Letter:={ Letter.zero with kind:=3,from':=k,to:=f,term:=1,index:=i,at':=1,entries:=es,commit:=c }
def jC (k f:Int) (x:Nat):Letter:={ Letter.zero with kind:=4,from':=f,to:=k,term:=1,yes:=true,index:=x }
structure Fol (c:Core) (f:Int) (L:eD) (a:Nat):Prop where
 id:c.id=f
 term:c.h.term=1
 base:c.h.base=0
 log:c.h.log=L.take a
 al:a≤L.length
 role:c.role≠3
 out:c.out=[]
 s0:0≤c.sure
 s1:c.sure≤a
structure Ldr (c:Core) (k mm:Int) (L:eD) (mt:Int→Nat):Prop where
 id:c.id=k
 role:c.role=3
 term:c.h.term=1
 base:c.h.base=0
 mem:c.h.members=mm
 log:c.h.log=L
 out:c.out=[]
 pl:c.peers.length=7
 pk:(c.peer k).mtch=L.length
 pf:∀ f,0≤f→f<5→bJ mm f=true→f≠k→(c.peer f).next=mt f+1∧(c.peer f).mtch=mt f
 s0:0≤c.sure
 s1:c.sure≤L.length
 l1:1≤c.left
 l3:c.left≤3
theorem aBj {c:Core} {L:eD} {a:Nat} (g:GoodL L) (hb:c.h.base=0) (hl:c.h.log=L.take a) (ha:a≤L.length) {n:Nat} (n1:1≤n) (n2:n≤a):c.term (n:Int)=1:=by
 unfold Core.term termH
 rw [hb,if_neg (by omega),hl]
 have hn:((n:Int) - 0 - 1).toNat=n - 1:=by omega
 rw [hn]
 have h1:n - 1<(L.take a).length:=by rw [List.length_take];omega
 rw [List.getElem?_eq_getElem h1]
 exact (g.e _ (List.mem_of_mem_take (List.getElem_mem h1))).1
theorem aNb {k f:Int} {i:Nat} {es L:eD} {c:Int} (g:GoodL L) (k0:0≤k) (k5:k<5) (f0:0≤f) (f5:f<5) (hne:f≠k) (i1:1≤i) (i2:i≤L.length) (he:∀ x∈es,x∈L) (he8:es.length≤8) (c0:0≤c) (c1:c≤L.length):eK (gV k f i es c)=true:=by
 have h40:=g.l40
 have hr:iD ⟨1,-1,(i:Int),1,1,if (0:Int)<(i:Int) then [115] else [],es⟩=true:=by
  rw [lG,if_pos (by omega)]
  refine ⟨by show (0:Int)≤1;decide,by show (1:Int)≤1099511627776;decide,by show (-1:Int)≤-1;decide,by show (-1:Int)<7;decide,by show (1:Int)≤1;decide,by show (1:Int)≤127;decide,by show (0:Int)≤(i:Int);omega,by show (i:Int)≤1099511627776;omega,by show (0:Int)≤1;decide,by show (1:Int)≤1;decide,⟨fun h=>by have h':(1:Int)=0:=h;omega,fun h=>by have h':(i:Int)=0:=h;omega⟩,by show es.length≤200;omega,by show (es.length:Int)≤1099511627776 - (i:Int);omega,?_,⟨fun h=>(by cases h),fun h=>by have h':(i:Int)=0:=h;omega⟩,by show [(115:UInt8)].length≤65536;decide⟩
  rw [eU]
  refine ⟨fun x hx=>?_,fun x hx=>?_,?_⟩
  ·obtain ⟨a,b,d⟩:=g.e x (he x hx)
   exact ⟨by omega,by show x.term≤1;omega,by omega,by omega,d,.inl b⟩
  ·show (1:Int)≤x.term
   have:=(g.e x (he x hx)).1;omega
  ·rw [List.pairwise_iff_getElem]
   intro p q hp hq _
   rw [(g.e _ (he _ (List.getElem_mem hp))).1,(g.e _ (he _ (List.getElem_mem hq))).1];exact Int.le_refl _
 have hn:nO (gV k f i es c)=true:=by
  unfold nO rI gV
  simp [Letter.zero]
 have he':gZ (gV k f i es c)=true:=by
  unfold gZ
  show (decide (es.length≤8)&&(decide ((es.length:Int)≤1099511627776 - (i:Int))&&iD ⟨1,-1,(i:Int),1,1,if (0:Int)<(i:Int) then [115] else [],es⟩))=true
  rw [hr]
  simp only [Bool.and_true,Bool.and_eq_true,decide_eq_true_eq]
  omega
 have h3:(gV k f i es c).kind=3:=rfl
 unfold eK
 rw [hn,h3,if_neg (by decide),if_pos rfl,he']
 unfold mW
 show (true&&((decide (0≤k)&&decide (k≤6))&&((decide (0≤f)&&decide (f≤6))&&(decide (k≠f)&&((decide ((1:Int)≤1)&&decide ((1:Int)≤1099511627776))&&((decide (0≤(i:Int))&&decide ((i:Int)≤1099511627776))&&((decide ((0:Int)≤1)&&decide ((1:Int)≤1))&&((decide (0≤c)&&decide (c≤1099511627776))&&(decide ((1:Int)=0↔(i:Int)=0)&&true)))))))))=true
 simp only [Bool.and_true,Bool.true_and,Bool.and_eq_true,decide_eq_true_eq]
 refine ⟨⟨k0,by omega⟩,⟨f0,by omega⟩,fun e=>hne e.symm,⟨by decide,by decide⟩,⟨by omega,by omega⟩,⟨by decide,by decide⟩,⟨c0,by omega⟩,⟨fun h=>by omega,fun h=>by omega⟩⟩
theorem aNc {k f:Int} {x:Nat} (k0:0≤k) (k5:k<5) (f0:0≤f) (f5:f<5) (hne:f≠k) (x40:x≤40):eK (jC k f x)=true:=by
 have hn:nO (jC k f x)=true:=by
  unfold nO rI jC
  simp [Letter.zero]
 have h3:(jC k f x).kind=4:=rfl
 unfold eK
 rw [hn,h3,if_neg (by decide),if_neg (by decide),if_neg (by decide),if_neg (by decide)]
 unfold mW
 show (true&&((decide (0≤f)&&decide (f≤6))&&((decide (0≤k)&&decide (k≤6))&&(decide (f≠k)&&((decide ((1:Int)≤1)&&decide ((1:Int)≤1099511627776))&&((decide (0≤(x:Int))&&decide ((x:Int)≤1099511627776))&&((decide ((0:Int)≤0)&&decide ((0:Int)≤1))&&((decide ((0:Int)≤0)&&decide ((0:Int)≤1099511627776))&&true))))))))=true
 simp only [Bool.and_true,Bool.true_and,Bool.and_eq_true,decide_eq_true_eq]
 refine ⟨⟨f0,by omega⟩,⟨k0,by omega⟩,hne,⟨by decide,by decide⟩,⟨by omega,by omega⟩,⟨by decide,by decide⟩,⟨by decide,by decide⟩⟩
theorem wL {L:eD} (g:GoodL L):∀ (es:eD) (i a:Nat) (h:Hard),h.base=0→h.log=L.take a→a≤L.length→1≤i→i≤a→es <+: L.drop i→
  dS es ((i:Int)+1) h (i:Int)=({ h with log:=L.take (max a (i+es.length)) },((i+es.length:Nat):Int))
 | [],i,a,h,h1,h2,h3,h4,h5,h6=>by
  unfold dS
  rw [show max a (i+([]:eD).length)=a by simp;omega,←h2]
  rfl
 | x::es,i,a,h,h1,h2,h3,h4,h5,h6=>by
  have h40:=g.l40
  have hx:L[i]?=some x:=by
   obtain ⟨t,ht⟩:=h6
   have h0:(L.drop i)[0]?=some x:=by rw [←ht];rfl
   rw [List.getElem?_drop] at h0
   simpa using h0
  have hes:es <+: L.drop (i+1):=by
   obtain ⟨t,ht⟩:=h6
   refine ⟨t,?_⟩
   have:=congrArg List.tail ht
   simpa [List.tail_drop] using this
  have hi:i+1≤L.length:=(List.getElem?_eq_some_iff.1 hx).1
  have hxt:=(g.e x (List.mem_of_getElem? hx)).1
  have hll:bI h=(a:Int):=by
   unfold bI;rw [h1,h2,List.length_take];omega
  have e1:((i:Int)+1)=((i+1:Nat):Int):=by omega
  have fin:(i+(x::es).length)=(i+1)+es.length:=by simp;omega
  unfold dS
  rcases Nat.lt_or_ge a (i+1) with ha | ha
  ·have hai:a=i:=by omega
   rw [if_pos ⟨by omega,.inl (by omega)⟩,if_neg (by rw [h1];omega)]
   have hlog:h.log.take (((i:Int)+1) - h.base - 1).toNat++[x]=L.take (i+1):=by
    rw [h1,h2,show (((i:Int)+1) - 0 - 1).toNat=i by omega,hai,List.take_take,Nat.min_self,List.take_add_one,hx];rfl
   rw [hlog,e1,wL g es (i+1) (i+1) { h with log:=L.take (i+1) } h1 rfl hi (by omega) (Nat.le_refl _) hes,fin]
   simp only
   rw [show max (i+1) (i+1+es.length)=max a (i+1+es.length) by omega]
  ·have ht:termH h ((i:Int)+1)=x.term:=by
    unfold termH
    rw [h1,if_neg (by omega),h2,show ((i:Int)+1 - 0 - 1).toNat=i by omega,List.getElem?_take,if_pos (by omega),hx]
   rw [if_neg (by rintro ⟨_,q | q⟩;omega;exact q ht),e1,wL g es (i+1) a h h1 h2 h3 (by omega) ha hes,fin]
theorem xI {c:Core} {L:eD} {a:Nat} (g:GoodL L) (hb:c.h.base=0) (hl:c.h.log=L.take a) (ha:a≤L.length) (hs:c.sure≤a):∀ (es:eD) (n:Nat),(∀ x∈es,x∈L)→1≤n→fX c es (n:Int)=false
 | [],n,_,_=>rfl
 | x::es,n,he,n1=>by
  unfold fX
  rw [if_neg]
  ·have:=xI g hb hl ha hs es (n+1) (fun y hy=>he y (List.mem_cons_of_mem _ hy)) (by omega)
   rw [show ((n+1:Nat):Int)=(n:Int)+1 by omega] at this
   exact this
  ·rintro ⟨h1,h2,h3⟩
   rw [aBj g hb hl ha n1 (by omega)] at h3
   exact h3 (g.e x (he x (List.mem_cons_self ..))).1.symm
theorem aQe {c:Core} {f k:Int} {L:eD} {a:Nat} (g:GoodL L) (F:Fol c f L a) (k0:0≤k) (k5:k<5) (f0:0≤f) (f5:f<5) (hne:f≠k) {i:Nat} {es:eD} {cm:Int} (i1:1≤i) (ia:i≤a) (hes:es <+: L.drop i) (he8:es.length≤8) (c0:0≤cm) (c1:cm≤L.length):
  ∃ d,c.take (gV k f i es cm)=d∧d.out=[jC k f (i+es.length)]∧Fol { d with out:=[] } f L (max a (i+es.length))∧c.sure≤d.sure∧min cm ((i+es.length:Nat):Int)≤d.sure:=by
 have hmem:∀ x∈es,x∈L:=fun x hx=>List.mem_of_mem_drop (hes.subset hx)
 have hie:i+es.length≤L.length:=by
  have:=hes.length_le
  rw [List.length_drop] at this
  have:=F.al
  omega
 have hr:=aNb (k:=k) (f:=f) (i:=i) (es:=es) (c:=cm) g k0 k5 f0 f5 hne i1 (by have:=F.al;omega) hmem he8 c0 c1
 have hp:c.passed (gV k f i es cm)=false:=by
  unfold Core.passed
  rw [if_neg (by rintro (q | q);rw [hr] at q;cases q;exact q F.id.symm)]
  rfl
 refine ⟨_,rfl,?_⟩
 have ht:c.take (gV k f i es cm)=c.appended (gV k f i es cm):=by
  unfold Core.take
  rw [hp,if_neg (by decide)]
  have hlt:¬ c.h.term<(gV k f i es cm).term:=by rw [F.term];show ¬ (1:Int)<1;decide
  have hlt2:¬ (gV k f i es cm).term<c.h.term:=by rw [F.term];show ¬ (1:Int)<1;decide
  simp only [if_neg hlt,if_neg hlt2]
  rw [if_neg (by show ¬ (3:Int)=1;decide),if_neg (by show ¬ (3:Int)=2;decide),if_pos (show (gV k f i es cm).kind=3 from rfl)]
 have hlast:(c.hear k).last=(a:Int):=by
  show c.h.base+(c.h.log.length:Int)=_
  rw [F.base,F.log,List.length_take]
  have:=F.al
  omega
 have hti:(c.hear k).term (i:Int)=1:=aBj (c:=c.hear k) g F.base F.log F.al i1 ia
 have hin:=wL g es i a (c.hear k).h F.base F.log F.al i1 ia hes
 have ha:c.appended (gV k f i es cm)=({ c.hear k with h:={ (c.hear k).h with log:=L.take (max a (i+es.length)) },sure:=max c.sure (min cm ((i+es.length:Nat):Int)) }:Core).post { Letter.zero with kind:=4,to:=k,yes:=true,index:=((i+es.length:Nat):Int) }:=by
  unfold Core.appended
  rw [if_neg F.role]
  have hag:fX c es ((i:Int)+1)=false:=by
   have:=xI g F.base F.log F.al F.s1 es (i+1) hmem (by omega)
   rw [show ((i+1:Nat):Int)=(i:Int)+1 by omega] at this
   exact this
  show (if fX c es ((i:Int)+1)=true then c else _)=_
  rw [hag,if_neg (by decide)]
  simp only
  show (if (c.hear k).last<(i:Int) then _ else _)=_
  rw [hlast,if_neg (by omega)]
  show (if (c.hear k).h.base≤(i:Int)∧(c.hear k).term (i:Int)≠1 then _ else _)=_
  rw [hti,if_neg (fun q=>q.2 rfl)]
  show (({ c.hear k with h:=(dS es ((i:Int)+1) (c.hear k).h (i:Int)).1,sure:=max c.sure (min cm (dS es ((i:Int)+1) (c.hear k).h (i:Int)).2) }:Core).post { Letter.zero with kind:=4,to:=k,yes:=true,index:=(dS es ((i:Int)+1) (c.hear k).h (i:Int)).2 })=_
  rw [hin]
 rw [ht,ha]
 have hid:c.id=f:=F.id
 have htm:c.h.term=1:=F.term
 have s0:=F.s0
 have s1:=F.s1
 refine ⟨?_,⟨F.id,F.term,F.base,rfl,by have:=F.al;omega,by show (1:Int)≠3;decide,rfl,by show 0≤max c.sure _;omega,by show max c.sure (min cm ((i+es.length:Nat):Int))≤_;omega⟩,by show c.sure≤max c.sure _;omega,by show _≤max c.sure _;omega⟩
 show c.out++[({ Letter.zero with kind:=4,from':=c.id,to:=k,term:=c.h.term,yes:=true,index:=((i+es.length:Nat):Int) }:Letter)]=_
 rw [F.out,hid,htm]
 rfl
section
theorem aI5:∀ (l:eD) (b:Int) (r:Int×Int),(∀ x∈l,x.members=0)→ofL b l r=r
 | [],b,r,_=>rfl
 | x::l,b,r,h=>by
  unfold ofL
  rw [if_pos (h x (List.mem_cons_self ..))]
  exact aI5 l _ _ fun y hy=>h y (List.mem_cons_of_mem _ hy)
section
variable {c:Core} {k mm:Int} {L:eD} {mt:Int→Nat} (g:GoodL L) (D:Ldr c k mm L mt)
include g D
theorem Ldr.of:ofM c.h=(mm,0):=by
 unfold ofM
 rw [D.mem,D.base,D.log]
 exact aI5 _ _ _ fun x hx=>(g.e x hx).2.1
theorem Ldr.last:c.last=(L.length:Int):=by
 unfold Core.last bI
 rw [D.base,D.log];omega
theorem Ldr.term1 {n:Nat} (h1:1≤n) (h2:n≤L.length):c.term (n:Int)=1:=aBj (a:=L.length) g D.base (by rw [D.log,List.take_length]) (Nat.le_refl _) h1 h2
theorem Ldr.send {f:Int} (f0:0≤f) (f5:f<5) (hf:bJ mm f=true) (hne:f≠k) (m1:1≤mt f) (m2:mt f≤L.length):
  c.send f={ c with out:=c.out++[gV k f (mt f) ((L.drop (mt f)).take 8) c.sure] }:=by
 obtain ⟨p1,p2⟩:=D.pf f f0 f5 hf hne
 unfold Core.send
 simp only
 rw [p1,if_neg (by rw [D.base];omega)]
 unfold Core.post
 have e1:((mt f:Int)+1 - 1)=(mt f:Int):=by omega
 have e2:((mt f:Int)+1 - c.h.base - 1).toNat=mt f:=by rw [D.base];omega
 rw [e1,e2,D.term1 g m1 m2,D.id,D.term,D.log]
 rfl
theorem aNd (m:Int) (s:Int) (h1:s<c.last) (h2:c.term c.last=c.h.term) (h3:iJ m (nP c.peers 0 c.last)=true):eZ c m (c.last - s).toNat c.last s=c.last:=by
 obtain ⟨n,hn⟩:∃ n,(c.last - s).toNat=n+1:=⟨(c.last - s).toNat - 1,by omega⟩
 rw [hn]
 unfold eZ
 rw [if_neg (by omega),if_pos ⟨h2,h3⟩]
 cases n with
 | zero=>rfl
 | succ n=>unfold eZ;rw [if_pos (by omega)]
theorem Ldr.most (hp:∀ f,0≤f→f<5→bJ mm f=true→f≠k→mt f=L.length) (hmm:∀ f,bJ mm f=true→f<5) (hk:bJ mm k=true) (hok:lE mm=true):iJ mm (nP c.peers 0 c.last)=true:=by
 have hy:∀ f,bJ mm f=true→bJ (nP c.peers 0 c.last) f=true:=by
  intro f hf
  obtain ⟨f0,f7⟩:=jN hf
  have e:nP c.peers 0 c.last=(qR.map fun i=>if (fun i=>decide (c.last≤(c.peer i).mtch)) i=true then (2:Int) ^ i.toNat else 0).sum:=by
   obtain ⟨p0,p1,p2,p3,p4,p5,p6,e⟩:=aPz D.pl
   simp only [Core.peer,e,nP,qR,List.map_cons,List.map_nil,decide_eq_true_eq,List.sum_cons,List.sum_nil]
   rfl
  rw [e,wE _ f (uI f0 f7),decide_eq_true_eq,D.last g]
  by_cases hfk:f=k
  ·rw [hfk,D.pk];exact Int.le_refl _
  ·rw [(D.pf f f0 (hmm f hf) hf hfk).2,hp f f0 (hmm f hf) hf hfk];exact Int.le_refl _
 unfold iJ
 rw [hok,Bool.true_and,decide_eq_true_eq,aDa]
 have e1:(qR.filter fun i=>bJ mm i&&bJ (nP c.peers 0 c.last) i)=qR.filter (bJ mm):=by
  apply List.filter_congr
  intro i _
  cases h:bJ mm i with
  | false=>rfl
  | true=>rw [hy i h];rfl
 have e2:gO mm=((qR.filter (bJ mm)).length:Int):=rfl
 have e3:1≤(qR.filter (bJ mm)).length:=by
  have:k∈qR.filter (bJ mm):=List.mem_filter.2 ⟨uI (jN hk).1 (jN hk).2,hk⟩
  exact List.length_pos_iff.2 (List.ne_nil_of_mem this)
 rw [e1,e2]
 omega
end
theorem aSi {c:Core} {k mm:Int} {L:eD} (g:GoodL L) (hid:c.id=k) (hof:ofM c.h=(mm,0)) (hk:bJ mm k=true):c.look={ c with sure:=eZ c mm (c.last - c.sure).toNat c.last c.sure }:=by
 unfold Core.look
 rw [hof]
 simp only
 rw [if_neg (by rw [hid,hk];rintro ⟨q,_⟩;cases q)]
structure SetM (k mm:Int):Prop where
 k0:0≤k
 k5:k<5
 hk:bJ mm k=true
 lt:∀ f,bJ mm f=true→f<5
 ok:lE mm=true
theorem aI6 {c:Core} {k mm:Int} {L:eD} {mt:Int→Nat} (g:GoodL L) (M:SetM k mm) (D:Ldr c k mm L mt):Ldr c.look k mm L mt∧c.sure≤c.look.sure∧c.look.peers=c.peers∧c.look.h=c.h∧c.look.left=c.left∧((∀ f,0≤f→f<5→bJ mm f=true→f≠k→mt f=L.length)→c.look.sure=L.length):=by
 have hl:=D.last g
 obtain ⟨r1,r2⟩:=lZ c mm (c.last - c.sure).toNat c.last c.sure
 have s1:=D.s1
 have s0:=D.s0
 rw [aSi g D.id (D.of g) M.hk]
 refine ⟨⟨D.id,D.role,D.term,D.base,D.mem,D.log,D.out,D.pl,D.pk,D.pf,by show 0≤eZ _ _ _ _ _;omega,by show eZ _ _ _ _ _≤_;omega,D.l1,D.l3⟩,r1,rfl,rfl,rfl,fun hall=>?_⟩
 show eZ c mm (c.last - c.sure).toNat c.last c.sure=_
 rcases Int.lt_or_le c.sure c.last with h | h
 ·have h1:=g.l1
  rw [aNd g D mm c.sure h (by rw [hl,D.term1 g (n:=L.length) h1 (Nat.le_refl _),D.term]) (D.most g hall M.lt M.hk M.ok),hl]
 ·omega
theorem aQf {c:Core} {k mm:Int} {L:eD} {mt:Int→Nat} (g:GoodL L) (M:SetM k mm) (D:Ldr c k mm L mt) {f:Int} (f0:0≤f) (f5:f<5) (hf:bJ mm f=true) (hne:f≠k) {x:Nat} (x1:1≤x) (x2:x≤L.length):
  (x≤mt f∧c.take (jC k f x)=c) ∨
  (mt f<x∧∃ d,c.take (jC k f x)=d∧Ldr { d with out:=[] } k mm L (fun i=>if i=f then x else mt i)∧d.left=c.left∧c.sure≤d.sure∧((∀ i,0≤i→i<5→bJ mm i=true→i≠k→(if i=f then x else mt i)=L.length)→d.sure=L.length) ∧
   d.out=(if x<L.length then [gV k f x ((L.drop x).take 8) d.sure] else [])):=by
 have h40:=g.l40
 have hr:=aNc (k:=k) (f:=f) (x:=x) M.k0 M.k5 f0 f5 hne (by omega)
 have hp:c.passed (jC k f x)=false:=by
  unfold Core.passed
  rw [if_neg (by rintro (q | q);rw [hr] at q;cases q;exact q D.id.symm)]
  rfl
 have ht:c.take (jC k f x)=c.acked (jC k f x):=by
  unfold Core.take
  rw [hp,if_neg (by decide)]
  have hlt:¬ c.h.term<(jC k f x).term:=by rw [D.term];show ¬ (1:Int)<1;decide
  have hlt2:¬ (jC k f x).term<c.h.term:=by rw [D.term];show ¬ (1:Int)<1;decide
  simp only [if_neg hlt,if_neg hlt2]
  rw [if_neg (by show ¬ (4:Int)=1;decide),if_neg (by show ¬ (4:Int)=2;decide),if_neg (by show ¬ (4:Int)=3;decide),if_pos (show (jC k f x).kind=4 from rfl)]
 have hl:=D.last g
 obtain ⟨p1,p2⟩:=D.pf f f0 f5 hf hne
 rw [ht]
 have ha:c.acked (jC k f x)=if (x:Int)≤(c.peer f).mtch then c else
   (if ((c.setPeer f ⟨(x:Int)+1,(x:Int),0⟩).look).role=3∧(((c.setPeer f ⟨(x:Int)+1,(x:Int),0⟩).look).peer f).next≤((c.setPeer f ⟨(x:Int)+1,(x:Int),0⟩).look).last then ((c.setPeer f ⟨(x:Int)+1,(x:Int),0⟩).look).send f else (c.setPeer f ⟨(x:Int)+1,(x:Int),0⟩).look):=by
  unfold Core.acked
  rw [if_neg (by rintro (q | q);exact q D.role;have q':c.last<(x:Int):=q;omega)]
  simp only
  rw [if_neg (by show ¬ true=false;decide)]
  rfl
 rw [ha,p2]
 by_cases hx:x≤mt f
 ·left
  exact ⟨hx,if_pos (by omega)⟩
 ·right
  refine ⟨by omega,_,rfl,?_⟩
  rw [if_neg (by omega)]
  have D1:Ldr (c.setPeer f ⟨(x:Int)+1,(x:Int),0⟩) k mm L (fun i=>if i=f then x else mt i):=by
   refine ⟨D.id,D.role,D.term,D.base,D.mem,D.log,D.out,by show (c.peers.set _ _).length=7;rw [List.length_set];exact D.pl,?_,fun i i0 i5 hi hik=>?_,D.s0,D.s1,D.l1,D.l3⟩
   ·rw [pV D.pl _ f0 M.k0 (by have:=M.k5;omega),if_neg (fun e=>hne e.symm)];exact D.pk
   ·rw [pV D.pl _ f0 i0 (by omega)]
    by_cases e:i=f
    ·simp [e]
    ·simp only [if_neg e];exact D.pf i i0 i5 hi hik
  obtain ⟨D2,s2,e2,e3,e4,e5⟩:=aI6 g M D1
  generalize (c.setPeer f ⟨(x:Int)+1,(x:Int),0⟩).look=d2 at D2 s2 e2 e3 e4 e5
  have pn:=(D2.pf f f0 f5 hf hne).1
  simp only [if_pos] at pn
  have hl2:=D2.last g
  by_cases hxl:x<L.length
  ·have hs:=D2.send g f0 f5 hf hne (by simp only [if_pos];exact x1) (by simp only [if_pos];exact x2)
   simp only [if_pos] at hs
   rw [if_pos ⟨D2.role,by rw [pn,hl2];omega⟩,hs]
   refine ⟨⟨D2.id,D2.role,D2.term,D2.base,D2.mem,D2.log,rfl,D2.pl,D2.pk,D2.pf,D2.s0,D2.s1,D2.l1,D2.l3⟩,e4,s2,e5,?_⟩
   rw [if_pos hxl]
   show d2.out++_=_
   rw [D2.out];rfl
  ·rw [if_neg (fun q=>by rw [pn,hl2] at q;omega),if_neg hxl]
   exact ⟨⟨D2.id,D2.role,D2.term,D2.base,D2.mem,D2.log,rfl,D2.pl,D2.pk,D2.pf,D2.s0,D2.s1,D2.l1,D2.l3⟩,e4,s2,e5,D2.out⟩
theorem sS {k mm:Int} {L:eD} {mt:Int→Nat} (g:GoodL L) (hm:∀ f,0≤f→f<5→bJ mm f=true→f≠k→1≤mt f∧mt f≤L.length):∀ (fs:List Int) (c:Core) (pre:List Letter),(∀ f∈fs,0≤f∧f<5∧bJ mm f=true∧f≠k)→Ldr { c with out:=[] } k mm L mt→c.out=pre→
  fs.foldl Core.send c={ c with out:=pre++fs.map fun f=>gV k f (mt f) ((L.drop (mt f)).take 8) c.sure }
 | [],c,pre,_,_,h=>by subst h;simp
 | f::fs,c,pre,hf,D,h=>by
  obtain ⟨a1,a2,a3,a4⟩:=hf f (List.mem_cons_self ..)
  obtain ⟨b1,b2⟩:=hm f a1 a2 a3 a4
  have e:c.send f={ c with out:=c.out++[gV k f (mt f) ((L.drop (mt f)).take 8) c.sure] }:=by
   have:=D.send g a1 a2 a3 a4 b1 b2
   unfold Core.send at this ⊢
   simp only at this ⊢
   have hp:({ c with out:=[] }:Core).peer f=c.peer f:=rfl
   rw [hp] at this
   have p1:=(D.pf f a1 a2 a3 a4).1
   have p1':(c.peer f).next=mt f+1:=p1
   have hb:c.h.base=0:=D.base
   rw [if_neg (by show ¬ (c.peer f).next≤c.h.base;rw [p1',hb];omega)] at this ⊢
   unfold Core.post at this ⊢
   have h2:=congrArg Core.out this
   simp only [List.nil_append] at h2
   have h3:∀ m m':Letter,[m]=[m']→c.out++[m]=c.out++[m']:=fun m m' q=>by rw [q]
   have h4:=h3 _ _ h2
   show ({ c with out:=c.out++[_] }:Core)=_
   congr 1
  rw [List.foldl_cons,e,sS g hm fs { c with out:=c.out++[gV k f (mt f) ((L.drop (mt f)).take 8) c.sure] } (pre++[gV k f (mt f) ((L.drop (mt f)).take 8) c.sure]) (fun x hx=>hf x (List.mem_cons_of_mem _ hx)) ⟨D.id,D.role,D.term,D.base,D.mem,D.log,rfl,D.pl,D.pk,D.pf,D.s0,D.s1,D.l1,D.l3⟩ (by rw [h])]
  simp
theorem aDl {c:Core} {k mm:Int} {L:eD} {mt:Int→Nat} (g:GoodL L) (D:Ldr c k mm L mt):c.others=(gN mm).filter fun f=>!decide (f=k):=by
 unfold Core.others Core.members
 rw [D.of g,D.id]
def qU (k mm:Int):List Int:=(gN mm).filter fun f=>!decide (f=k)
theorem pX {k mm f:Int} (M:SetM k mm):f∈qU k mm↔0≤f∧f<5∧bJ mm f=true∧f≠k:=by
 unfold qU gN
 rw [List.mem_filter,List.mem_filter]
 constructor
 ·rintro ⟨⟨h1,h2⟩,h3⟩
  exact ⟨(jN h2).1,M.lt f h2,h2,by simpa using h3⟩
 ·rintro ⟨h1,h2,h3,h4⟩
  exact ⟨⟨uI h1 (by omega),h3⟩,by simpa using h4⟩
theorem aFq (k mm:Int) (M:SetM k mm):(qU k mm).length≤4:=by
 have h:(qU k mm).length<(gN mm).length:=by
  unfold qU
  apply List.length_filter_lt_length_iff_exists.2
  refine ⟨k,?_,by simp⟩
  unfold gN
  exact List.mem_filter.2 ⟨uI M.k0 (by have:=M.k5;omega),M.hk⟩
 have h2:(gN mm).length≤5:=by
  have e:gN mm=([0,1,2,3,4]:List Int).filter (bJ mm):=by
   unfold gN qR
   have h5:bJ mm 5=false:=by
    cases e:bJ mm 5 with
    | false=>rfl
    | true=>have:=M.lt 5 e;omega
   have h6:bJ mm 6=false:=by
    cases e:bJ mm 6 with
    | false=>rfl
    | true=>have:=M.lt 6 e;omega
   simp [List.filter_cons,h5,h6]
  rw [e]
  exact List.length_filter_le _ _
 omega
theorem aQg {c:Core} {k mm:Int} {L:eD} {mt:Int→Nat} (g:GoodL L) (M:SetM k mm) (D:Ldr c k mm L mt) (hm:∀ f,0≤f→f<5→bJ mm f=true→f≠k→1≤mt f∧mt f≤L.length) (cV:Int):
  ∃ d,c.tick cV=d∧Ldr { d with out:=[] } k mm L mt∧d.sure=c.sure∧((1<c.left∧d.left=c.left - 1∧d.out=[])∨(c.left=1∧d.left=3∧d.out=(qU k mm).map fun f=>gV k f (mt f) ((L.drop (mt f)).take 8) c.sure)):=by
 have l1:=D.l1
 have l3:=D.l3
 refine ⟨_,rfl,?_⟩
 unfold Core.tick
 simp only
 by_cases h:0<c.left - 1
 ·rw [if_pos h]
  exact ⟨⟨D.id,D.role,D.term,D.base,D.mem,D.log,rfl,D.pl,D.pk,D.pf,D.s0,D.s1,by show 1≤c.left - 1;omega,by show c.left - 1≤3;omega⟩,rfl,.inl ⟨by omega,rfl,D.out⟩⟩
 ·have D3:Ldr ({ c with left:=3 }:Core) k mm L mt:=⟨D.id,D.role,D.term,D.base,D.mem,D.log,D.out,D.pl,D.pk,D.pf,D.s0,D.s1,by show (1:Int)≤3;decide,by show (3:Int)≤3;decide⟩
  rw [if_neg h,if_pos D.role]
  have hsp:({ c with left:=3 }:Core).spread={ ({ c with left:=3 }:Core) with out:=(qU k mm).map fun f=>gV k f (mt f) ((L.drop (mt f)).take 8) c.sure }:=by
   unfold Core.spread
   rw [if_pos D3.role,aDl g D3]
   have:=sS g hm (qU k mm) ({ c with left:=3 }:Core) [] (fun f hf=>(pX M).1 hf) ⟨D3.id,D3.role,D3.term,D3.base,D3.mem,D3.log,rfl,D3.pl,D3.pk,D3.pf,D3.s0,D3.s1,D3.l1,D3.l3⟩ D3.out
   rw [List.nil_append] at this
   exact this
  have he:({ ({ c with left:=c.left - 1 }:Core) with left:=3 }:Core)={ c with left:=3 }:=rfl
  rw [he,hsp]
  exact ⟨⟨D3.id,D3.role,D3.term,D3.base,D3.mem,D3.log,rfl,D3.pl,D3.pk,D3.pf,D3.s0,D3.s1,D3.l1,D3.l3⟩,rfl,.inr ⟨by omega,rfl,rfl⟩⟩
def iF (data:List UInt8):Entry:=⟨1,0,data⟩
theorem aI7 {c:Core} {k mm:Int} {L:eD} {mt:Int→Nat} {data:List UInt8} (g:GoodL L) (M:SetM k mm) (D:Ldr c k mm L mt) (hm:∀ f,0≤f→f<5→bJ mm f=true→f≠k→1≤mt f∧mt f≤L.length) (h39:L.length<40) (hd:data.length≤1100):
  ∃ d,(c.propose [data]).1=d∧GoodL (L++[iF data])∧Ldr { d with out:=[] } k mm (L++[iF data]) mt∧d.left=c.left∧d.out=(qU k mm).map (fun f=>gV k f (mt f) (((L++[iF data]).drop (mt f)).take 8) d.sure)∧((∀ f,0≤f→f<5→bJ mm f=true→f≠k→mt f=(L++[iF data]).length)→d.sure=(L++[iF data]).length):=by
 have hl:=D.last g
 have g':GoodL (L++[iF data]):=⟨by simp,by simp;omega,fun x hx=>by
  rcases List.mem_append.1 hx with hx | hx
  ·exact g.e x hx
  ·rw [List.mem_singleton.1 hx];exact ⟨rfl,rfl,hd⟩⟩
 have hpr:(c.propose [data]).1=({ c with h:={ c.h with log:=L++[iF data] } }:Core).own:=by
  unfold Core.propose
  rw [if_neg (by
   rw [D.log,hl]
   rintro (q | q | q | q)
   ·exact q D.role
   ·simp at q
   ·simp only [List.length_singleton] at q;omega
   ·simp only [List.length_singleton] at q;omega),if_neg (by simp;omega)]
  show ({ c with h:={ c.h with log:=c.h.log++[(⟨c.h.term,0,data⟩:Entry)] } }:Core).own=_
  rw [D.log,D.term];rfl
 refine ⟨_,rfl,g',?_⟩
 rw [hpr]
 have hl2:(L++[iF data]).length=L.length+1:=by simp
 have D1:Ldr (({ c with h:={ c.h with log:=L++[iF data] } }:Core).setPeer k { ({ c with h:={ c.h with log:=L++[iF data] } }:Core).peer k with mtch:=({ c with h:={ c.h with log:=L++[iF data] } }:Core).last }) k mm (L++[iF data]) mt:=by
  refine ⟨D.id,D.role,D.term,D.base,D.mem,rfl,D.out,by show (c.peers.set _ _).length=7;rw [List.length_set];exact D.pl,?_,fun i i0 i5 hi hik=>?_,D.s0,by have:=D.s1;show c.sure≤_;rw [hl2];omega,D.l1,D.l3⟩
  ·rw [pV (c:={ c with h:={ c.h with log:=L++[iF data] } }) D.pl _ M.k0 M.k0 (by have:=M.k5;omega),if_pos rfl]
   show c.h.base+((L++[iF data]).length:Int)=_
   rw [D.base];omega
  ·rw [pV (c:={ c with h:={ c.h with log:=L++[iF data] } }) D.pl _ M.k0 i0 (by omega),if_neg hik]
   exact D.pf i i0 i5 hi hik
 obtain ⟨D2,s2,e2,e3,e4,e5⟩:=aI6 g' M D1
 have hown:({ c with h:={ c.h with log:=L++[iF data] } }:Core).own=((({ c with h:={ c.h with log:=L++[iF data] } }:Core).setPeer k { ({ c with h:={ c.h with log:=L++[iF data] } }:Core).peer k with mtch:=({ c with h:={ c.h with log:=L++[iF data] } }:Core).last }).look).spread:=by
  unfold Core.own
  have hid:({ c with h:={ c.h with log:=L++[iF data] } }:Core).id=k:=D.id
  rw [hid]
 rw [hown]
 have el:(({ c with h:={ c.h with log:=L++[iF data] } }:Core).setPeer k { ({ c with h:={ c.h with log:=L++[iF data] } }:Core).peer k with mtch:=({ c with h:={ c.h with log:=L++[iF data] } }:Core).last }).left=c.left:=rfl
 rw [el] at e4
 generalize (({ c with h:={ c.h with log:=L++[iF data] } }:Core).setPeer k { ({ c with h:={ c.h with log:=L++[iF data] } }:Core).peer k with mtch:=({ c with h:={ c.h with log:=L++[iF data] } }:Core).last }).look=d2 at D2 e4 e5
 have hsp:d2.spread={ d2 with out:=(qU k mm).map fun f=>gV k f (mt f) (((L++[iF data]).drop (mt f)).take 8) d2.sure }:=by
  unfold Core.spread
  rw [if_pos D2.role,aDl g' D2]
  have:=sS g' (fun f f0 f5 hf hne=>by obtain ⟨q1,q2⟩:=hm f f0 f5 hf hne;exact ⟨q1,by rw [hl2];omega⟩) (qU k mm) d2 [] (fun f hf=>(pX M).1 hf) ⟨D2.id,D2.role,D2.term,D2.base,D2.mem,D2.log,rfl,D2.pl,D2.pk,D2.pf,D2.s0,D2.s1,D2.l1,D2.l3⟩ D2.out
  rw [List.nil_append] at this
  exact this
 rw [hsp]
 exact ⟨⟨D2.id,D2.role,D2.term,D2.base,D2.mem,D2.log,rfl,D2.pl,D2.pk,D2.pf,D2.s0,D2.s1,D2.l1,D2.l3⟩,e4,rfl,e5⟩
end
theorem aFr {g:Grp} {a:Act} {g':Grp} {k:Int} (h:g.step a=some (g',k)):(g.act a).cs=eI g'.cs k { g'.cs k with out:=[] }∧(g.act a).l=fU (g'.l++(g'.cs k).out)∧(g.act a).said=g'.said:=by
 unfold Grp.act
 rw [h]
 exact ⟨rfl,rfl,rfl⟩
theorem yM {l:List Letter} (h:l.length≤120):fU l=l:=by unfold fU;rw [show l.length - 120=0 by omega];rfl
theorem aT9 {g:Grp} {m:Letter} {t:List Letter} (h:g.l=m::t) (h0:0≤m.to) (h5:m.to<5):g.step ⟨2,0,0⟩=some ({ g with l:=t,cs:=eI g.cs m.to ((g.cs m.to).take m) },m.to):=by
 have e0:(cC 0 0 ((g.l.length:Int) - 1)).toNat=0:=by
  unfold cC
  rw [Int.zero_emod];rfl
 unfold Grp.step
 simp only
 rw [if_neg (by decide),if_pos (.inl trivial),if_neg (by rw [h];exact fun q=>by cases q),e0,h,if_neg (by decide:¬ (2:Int)=3)]
 have e1:(m::t).getD 0 Letter.zero=m:=rfl
 rw [e1,if_pos ⟨by decide,h5⟩]
 rfl
theorem aI8 {k:Int} (k0:0≤k) (k5:k<5):cC k 0 4=k:=by
 unfold cC
 rw [show (4:Int) - 0+1=5 by decide,Int.emod_eq_of_lt k0 k5];omega
theorem aYa {g:Grp} {k:Int} (k0:0≤k) (k5:k<5):g.step ⟨5,k,0⟩=some ({ g with said:=g.said+1,cs:=eI g.cs k ((g.cs k).propose [gC (g.said+1)]).1 },k):=by
 unfold Grp.step
 simp only
 rw [if_neg (by decide),if_neg (by decide),if_pos trivial,aI8 k0 k5]
theorem aYb {g:Grp} {k n:Int} (k0:0≤k) (k5:k<5):g.step ⟨1,k,n⟩=some ({ g with cs:=eI g.cs k ((g.cs k).tick n) },k):=by
 unfold Grp.step
 simp only
 rw [if_pos trivial,aI8 k0 k5]
def Fo (k mm f:Int):Prop:=0≤f∧f<5∧bJ mm f=true∧f≠k
def Lt (k mm:Int) (L:eD) (a:Int→Nat) (m:Letter):Prop:=
 (∃ f i es c,m=gV k f i es c∧Fo k mm f∧1≤i∧i≤a f∧es <+: L.drop i∧es.length≤8∧0≤c∧c≤L.length)∨(∃ f x,m=jC k f x∧Fo k mm f∧1≤x∧x≤a f)
def Adv (k f:Int) (n:Nat) (m:Letter):Prop:=(∃ i es c,m=gV k f i es c∧n<i+es.length)∨(∃ x,m=jC k f x∧n<x)
def Cmt (g:Grp) (k:Int) (L:eD) (f:Int):Prop:=(g.cs f).sure=L.length∨∃ i es,gV k f i es L.length∈g.l∧i+es.length=L.length
structure Ph (g:Grp) (k mm:Int) (L:eD) (a mt:Int→Nat):Prop where
 gl:GoodL L
 M:SetM k mm
 ldr:Ldr (g.cs k) k mm L mt
 fol:∀ f,Fo k mm f→Fol (g.cs f) f L (a f)∧1≤mt f∧mt f≤a f
 lt:∀ m∈g.l,Lt k mm L a m
 live:∀ f,Fo k mm f→mt f=L.length∨∃ m∈g.l,Adv k f (mt f) m
 top:(∀ f,Fo k mm f→mt f=L.length)→(g.cs k).sure=L.length
 ll:g.l.length≤120
def wt (m:Letter):Nat:=if m.kind=3 then 2 else 1
def phi (g:Grp) (k mm:Int) (L:eD) (mt:Int→Nat):Nat:=(g.l.map wt).sum+2*((qU k mm).map fun f=>L.length - mt f).sum
theorem aLp {k f i es c f' i' es' c'} (h:gV k f i es c=gV k f' i' es' c'):f=f'∧i=i'∧es=es'∧c=c':=by
 have h1:=congrArg Letter.to h
 have h2:=congrArg Letter.index h
 have h3:=congrArg Letter.entries h
 have h4:=congrArg Letter.commit h
 refine ⟨h1,?_,h3,h4⟩
 have h2':(i:Int)=(i':Int):=h2
 omega
theorem aLq {k f x f' x'} (h:jC k f x=jC k f' x'):f=f'∧x=x':=by
 have h1:=congrArg Letter.from' h
 have h2:=congrArg Letter.index h
 have h2':(x:Int)=(x':Int):=h2
 exact ⟨h1,by omega⟩
theorem aBk {k f i es c f' x}:gV k f i es c≠jC k f' x:=fun h=>by
 have h1:=congrArg Letter.kind h
 have h1':(3:Int)=4:=h1
 omega
theorem aQi {F:List Int} {mt:Int→Nat} {f:Int} {x n:Nat} (hf:f∈F) (h1:mt f<x) (h2:x≤n):(F.map fun i=>n - (if i=f then x else mt i)).sum+1≤(F.map fun i=>n - mt i).sum:=by
 have le:∀ F:List Int,(F.map fun i=>n - (if i=f then x else mt i)).sum≤(F.map fun i=>n - mt i).sum:=by
  intro F
  induction F with
  | nil=>exact Nat.le_refl _
  | cons y F ih=>
   simp only [List.map_cons,List.sum_cons]
   by_cases e:y=f
   ·rw [if_pos e,e];omega
   ·rw [if_neg e];omega
 induction F with
 | nil=>cases hf
 | cons y F ih=>
  simp only [List.map_cons,List.sum_cons]
  rcases List.mem_cons.1 hf with e | e
  ·rw [if_pos e.symm,←e]
   have:=le F
   omega
  ·have:=ih e
   by_cases e2:y=f
   ·rw [if_pos e2,e2];omega
   ·rw [if_neg e2];omega
theorem Lt.mono {k mm:Int} {L:eD} {a a':Int→Nat} {m:Letter} (h:Lt k mm L a m) (ha:∀ f,a f≤a' f):Lt k mm L a' m:=by
 rcases h with ⟨f,i,es,c,h1,h2,h3,h4,h5⟩ | ⟨f,x,h1,h2,h3,h4⟩
 ·exact .inl ⟨f,i,es,c,h1,h2,h3,Nat.le_trans h4 (ha f),h5⟩
 ·exact .inr ⟨f,x,h1,h2,h3,Nat.le_trans h4 (ha f)⟩
theorem aWa {a b t p q:Nat} (w1:a=1) (w2:b≤2) (w3:p+1≤q):t+b+2*p<a+t+2*q:=by omega
theorem Ph.one {g:Grp} {k mm:Int} {L:eD} {a mt:Int→Nat} (P:Ph g k mm L a mt) {m:Letter} {t:List Letter} (hl:g.l=m::t):
  ∃ a' mt',Ph (g.act ⟨2,0,0⟩) k mm L a' mt'∧phi (g.act ⟨2,0,0⟩) k mm L mt'<phi g k mm L mt∧((g.act ⟨2,0,0⟩).cs k).left=(g.cs k).left∧(g.act ⟨2,0,0⟩).said=g.said∧∀ f,Fo k mm f→Cmt g k L f→Cmt (g.act ⟨2,0,0⟩) k L f:=by
 have M:=P.M
 have hll:=P.ll
 rw [hl,List.length_cons] at hll
 have hphi:phi g k mm L mt=wt m+(t.map wt).sum+2*((qU k mm).map fun f=>L.length - mt f).sum:=by
  unfold phi;rw [hl,List.map_cons,List.sum_cons]
 rcases P.lt m (by rw [hl];exact List.mem_cons_self ..) with ⟨f,i,es,c,rfl,⟨f0,f5,hf,hne⟩,i1,ia,he,he8,c0,c1⟩ | ⟨f,x,rfl,⟨f0,f5,hf,hne⟩,x1,x2⟩
 ·obtain ⟨F,m1,m2⟩:=P.fol f ⟨f0,f5,hf,hne⟩
  obtain ⟨d,hd,ho,F',s1,s2⟩:=aQe P.gl F M.k0 M.k5 f0 f5 hne i1 ia he he8 c0 c1
  have hie:i+es.length≤L.length:=by
   have:=he.length_le
   rw [List.length_drop] at this
   have:=F.al
   omega
  obtain ⟨e1,e2,e3⟩:=aFr (aT9 hl f0 f5)
  have e1':(g.act ⟨2,0,0⟩).cs=eI g.cs f { d with out:=[] }:=by
   rw [e1]
   show eI (eI g.cs f ((g.cs f).take (gV k f i es c))) f { eI g.cs f ((g.cs f).take (gV k f i es c)) f with out:=[] }=_
   rw [cK,hd,hM]
  have e2':(g.act ⟨2,0,0⟩).l=t++[jC k f (i+es.length)]:=by
   rw [e2]
   show fU (t++(eI g.cs f ((g.cs f).take (gV k f i es c)) f).out)=_
   rw [cK,hd,ho,yM (by simp;omega)]
  have hk:(g.act ⟨2,0,0⟩).cs k=g.cs k:=by rw [e1',iE _ _ (fun e=>hne e.symm)]
  have ho':∀ f',f'≠f→(g.act ⟨2,0,0⟩).cs f'=g.cs f':=fun f' h=>by rw [e1',iE _ _ h]
  have hf':(g.act ⟨2,0,0⟩).cs f={ d with out:=[] }:=by rw [e1',cK]
  generalize g.act ⟨2,0,0⟩=g' at e1' e2' hk ho' hf' e3
  have ha:∀ j,a j≤(fun j=>if j=f then max (a f) (i+es.length) else a j) j:=fun j=>by
   show a j≤if j=f then _ else _
   split
   ·rename_i e;rw [e];omega
   ·exact Nat.le_refl _
  refine ⟨fun j=>if j=f then max (a f) (i+es.length) else a j,mt,⟨P.gl,M,by rw [hk];exact P.ldr,fun j hj=>?_,fun m' hm'=>?_,fun j hj=>?_,by rw [hk];exact P.top,by rw [e2'];simp;omega⟩,?_,by rw [hk],e3,fun j hj hc=>?_⟩
  ·by_cases e:j=f
   ·subst e
    rw [hf']
    simp only [if_pos]
    exact ⟨F',m1,by omega⟩
   ·rw [ho' j e]
    simp only [if_neg e]
    exact P.fol j hj
  ·rw [e2'] at hm'
   rcases List.mem_append.1 hm' with h | h
   ·exact (P.lt m' (by rw [hl];exact List.mem_cons_of_mem _ h)).mono ha
   ·rw [List.mem_singleton.1 h]
    exact .inr ⟨f,_,rfl,⟨f0,f5,hf,hne⟩,by omega,by simp only [if_pos];omega⟩
  ·rcases P.live j hj with h | ⟨m',hm',hv⟩
   ·exact .inl h
   ·right
    rw [hl] at hm'
    rcases List.mem_cons.1 hm' with rfl | h
    ·rcases hv with ⟨i',es',c',q1,q2⟩ | ⟨x',q1,q2⟩
     ·obtain ⟨rfl,rfl,rfl,rfl⟩:=aLp q1
      exact ⟨_,by rw [e2'];exact List.mem_append_right _ (List.mem_singleton_self _),.inr ⟨_,rfl,q2⟩⟩
     ·exact absurd q1 aBk
    ·exact ⟨m',by rw [e2'];exact List.mem_append_left _ h,hv⟩
  ·rw [hphi]
   unfold phi
   rw [e2',List.map_append,List.sum_append]
   have w1:wt (gV k f i es c)=2:=rfl
   have w2:([jC k f (i+es.length)].map wt).sum=1:=rfl
   omega
  ·have hal:=F'.al
   have hs1:=F'.s1
   have hs1':d.sure≤((max (a f) (i+es.length):Nat):Int):=hs1
   rcases hc with h | ⟨i',es',h,h2⟩
   ·by_cases e:j=f
    ·subst e
     left
     rw [hf']
     show d.sure=_
     omega
    ·left;rw [ho' j e];exact h
   ·rw [hl] at h
    rcases List.mem_cons.1 h with h | h
    ·obtain ⟨q1,q2,q3,q4⟩:=aLp h
     subst q1 q2 q3
     left
     rw [hf']
     show d.sure=_
     rw [←q4] at s2
     omega
    ·exact .inr ⟨i',es',by rw [e2'];exact List.mem_append_left _ h,h2⟩
 ·obtain ⟨F,m1,m2⟩:=P.fol f ⟨f0,f5,hf,hne⟩
  have xl:x≤L.length:=Nat.le_trans x2 F.al
  obtain ⟨e1,e2,e3⟩:=aFr (aT9 hl M.k0 M.k5)
  rcases aQf P.gl M P.ldr f0 f5 hf hne x1 xl with ⟨hx,ht⟩ | ⟨hx,d,hd,D',l',s',top',ho⟩
  ·have e1':(g.act ⟨2,0,0⟩).cs=g.cs:=by
    rw [e1]
    show eI (eI g.cs k ((g.cs k).take (jC k f x))) k { eI g.cs k ((g.cs k).take (jC k f x)) k with out:=[] }=_
    rw [cK,ht,hM]
    have:({ g.cs k with out:=[] }:Core)=g.cs k:=by
     have:=P.ldr.out
     cases h:g.cs k
     rw [h] at this
     simp only at this
     rw [this]
    rw [this,lO]
   have e2':(g.act ⟨2,0,0⟩).l=t:=by
    rw [e2]
    show fU (t++(eI g.cs k ((g.cs k).take (jC k f x)) k).out)=_
    rw [cK,ht,P.ldr.out,List.append_nil,yM (by omega)]
   generalize g.act ⟨2,0,0⟩=g' at e1' e2' e3
   refine ⟨a,mt,⟨P.gl,M,by rw [e1'];exact P.ldr,fun j hj=>by rw [e1'];exact P.fol j hj,fun m' hm'=>P.lt m' (by rw [hl];rw [e2'] at hm';exact List.mem_cons_of_mem _ hm'),fun j hj=>?_,by rw [e1'];exact P.top,by rw [e2'];omega⟩,?_,by rw [e1'],e3,fun j hj hc=>?_⟩
   ·rcases P.live j hj with h | ⟨m',hm',hv⟩
    ·exact .inl h
    ·rw [hl] at hm'
     rcases List.mem_cons.1 hm' with rfl | h
     ·rcases hv with ⟨i',es',c',q1,q2⟩ | ⟨x',q1,q2⟩
      ·exact absurd q1.symm aBk
      ·obtain ⟨rfl,rfl⟩:=aLq q1
       omega
     ·exact .inr ⟨m',by rw [e2'];exact h,hv⟩
   ·rw [hphi]
    unfold phi
    rw [e2']
    have w1:wt (jC k f x)=1:=rfl
    omega
   ·rcases hc with h | ⟨i',es',h,h2⟩
    ·left;rw [e1'];exact h
    ·rw [hl] at h
     rcases List.mem_cons.1 h with h | h
     ·exact absurd h aBk
     ·exact .inr ⟨i',es',by rw [e2'];exact h,h2⟩
  ·have e1':(g.act ⟨2,0,0⟩).cs=eI g.cs k { d with out:=[] }:=by
    rw [e1]
    show eI (eI g.cs k ((g.cs k).take (jC k f x))) k { eI g.cs k ((g.cs k).take (jC k f x)) k with out:=[] }=_
    rw [cK,hd,hM]
   have hol:d.out.length≤1:=by rw [ho];split<;>simp
   have e2':(g.act ⟨2,0,0⟩).l=t++d.out:=by
    rw [e2]
    show fU (t++(eI g.cs k ((g.cs k).take (jC k f x)) k).out)=_
    rw [cK,hd,yM (by rw [List.length_append];omega)]
   have hk:(g.act ⟨2,0,0⟩).cs k={ d with out:=[] }:=by rw [e1',cK]
   have ho':∀ j,j≠k→(g.act ⟨2,0,0⟩).cs j=g.cs j:=fun j h=>by rw [e1',iE _ _ h]
   generalize g.act ⟨2,0,0⟩=g' at e1' e2' hk ho' e3
   have hds0:0≤d.sure:=D'.s0
   have hds1:d.sure≤L.length:=D'.s1
   refine ⟨a,fun j=>if j=f then x else mt j,⟨P.gl,M,by rw [hk];exact D',fun j hj=>?_,fun m' hm'=>?_,fun j hj=>?_,fun h=>?_,by rw [e2',List.length_append];omega⟩,?_,by rw [hk];exact l',e3,fun j hj hc=>?_⟩
   ·rw [ho' j hj.2.2.2]
    obtain ⟨q1,q2,q3⟩:=P.fol j hj
    by_cases e:j=f
    ·subst e
     simp only [if_pos]
     exact ⟨q1,x1,x2⟩
    ·simp only [if_neg e]
     exact ⟨q1,q2,q3⟩
   ·rw [e2'] at hm'
    rcases List.mem_append.1 hm' with h | h
    ·exact P.lt m' (by rw [hl];exact List.mem_cons_of_mem _ h)
    ·rw [ho] at h
     split at h
     ·rw [List.mem_singleton.1 h]
      exact .inl ⟨f,x,_,_,rfl,⟨f0,f5,hf,hne⟩,x1,x2,List.take_prefix _ _,by rw [List.length_take];omega,hds0,hds1⟩
     ·cases h
   ·by_cases e:j=f
    ·subst e
     simp only [if_pos]
     by_cases hxl:x<L.length
     ·right
      rw [if_pos hxl] at ho
      refine ⟨_,by rw [e2',ho];exact List.mem_append_right _ (List.mem_singleton_self _),.inl ⟨x,_,_,rfl,?_⟩⟩
      rw [List.length_take,List.length_drop];omega
     ·left;omega
    ·simp only [if_neg e]
     rcases P.live j hj with h | ⟨m',hm',hv⟩
     ·exact .inl h
     ·rw [hl] at hm'
      rcases List.mem_cons.1 hm' with rfl | h
      ·rcases hv with ⟨i',es',c',q1,q2⟩ | ⟨x',q1,q2⟩
       ·exact absurd q1.symm aBk
       ·exact absurd (aLq q1).1.symm e
      ·exact .inr ⟨m',by rw [e2'];exact List.mem_append_left _ h,hv⟩
   ·rw [hk]
    exact top' fun j j0 j5 hj hjk=>h j ⟨j0,j5,hj,hjk⟩
   ·rw [hphi]
    unfold phi
    rw [e2',List.map_append,List.sum_append]
    have w1:wt (jC k f x)=1:=rfl
    have w2:(d.out.map wt).sum≤2:=by
     rw [ho]
     split
     ·exact Nat.le_refl _
     ·exact Nat.zero_le _
    have w3:=aQi (F:=qU k mm) (mt:=mt) (n:=L.length) ((pX M).2 ⟨f0,f5,hf,hne⟩) hx xl
    exact aWa w1 w2 w3
   ·rcases hc with h | ⟨i',es',h,h2⟩
    ·left;rw [ho' j hj.2.2.2];exact h
    ·rw [hl] at h
     rcases List.mem_cons.1 h with h | h
     ·exact absurd h aBk
     ·exact .inr ⟨i',es',by rw [e2'];exact List.mem_append_left _ h,h2⟩
def eB:Nat→Grp→Grp
 | 0,g=>g
 | n+1,g=>match g.l with
  | []=>g
  | _::_=>eB n (g.act ⟨2,0,0⟩)
theorem Ph.calm {k mm:Int} {L:eD}:∀ (n:Nat) (g:Grp) (a mt:Int→Nat),Ph g k mm L a mt→phi g k mm L mt≤n→
  ∃ a' mt',Ph (eB n g) k mm L a' mt'∧(eB n g).l=[]∧((eB n g).cs k).left=(g.cs k).left∧(eB n g).said=g.said∧∀ f,Fo k mm f→Cmt g k L f→Cmt (eB n g) k L f
 | 0,g,a,mt,P,h=>by
  have hl:g.l=[]:=by
   cases e:g.l with
   | nil=>rfl
   | cons m t=>
    unfold phi at h
    rw [e,List.map_cons,List.sum_cons] at h
    have:1≤wt m:=by unfold wt;split<;>omega
    omega
  exact ⟨a,mt,P,hl,rfl,rfl,fun _ _ h=>h⟩
 | n+1,g,a,mt,P,h=>by
  cases e:g.l with
  | nil=>
   have hc:eB (n+1) g=g:=by unfold eB;rw [e]
   rw [hc]
   exact ⟨a,mt,P,e,rfl,rfl,fun _ _ h=>h⟩
  | cons m t=>
   have hc:eB (n+1) g=eB n (g.act ⟨2,0,0⟩):=by
    rw [show eB (n+1) g=(match g.l with
     | []=>g
     | _::_=>eB n (g.act ⟨2,0,0⟩)) from rfl,e]
   rw [hc]
   obtain ⟨a1,mt1,P1,p1,p2,p3,p4⟩:=P.one e
   obtain ⟨a2,mt2,P2,q1,q2,q3,q4⟩:=Ph.calm n _ a1 mt1 P1 (by omega)
   exact ⟨a2,mt2,P2,q1,q2.trans p2,q3.trans p3,fun f hf hcm=>q4 f hf (p4 f hf hcm)⟩
theorem aWb (l:List Letter):(l.map wt).sum≤2*l.length:=by
 induction l with
 | nil=>exact Nat.le_refl _
 | cons m l ih=>
  simp only [List.map_cons,List.sum_cons,List.length_cons]
  have:wt m≤2:=by unfold wt;split<;>omega
  omega
theorem aNe (F:List Int) (mt:Int→Nat) (n:Nat) (h:∀ f∈F,n - mt f≤39):(F.map fun f=>n - mt f).sum≤39*F.length:=by
 induction F with
 | nil=>exact Nat.le_refl _
 | cons f F ih=>
  simp only [List.map_cons,List.sum_cons,List.length_cons]
  have:=h f (List.mem_cons_self ..)
  have:=ih fun x hx=>h x (List.mem_cons_of_mem _ hx)
  omega
theorem Ph.phi600 {g:Grp} {k mm:Int} {L:eD} {a mt:Int→Nat} (P:Ph g k mm L a mt):phi g k mm L mt≤600:=by
 have h1:=aWb g.l
 have h2:=P.ll
 have h3:=aFq k mm P.M
 have h4:=aNe (qU k mm) mt L.length fun f hf=>by
  have:=(P.fol f ((pX P.M).1 hf)).2.1
  have:=P.gl.l40
  omega
 unfold phi
 have:39*(qU k mm).length≤39*4:=Nat.mul_le_mul_left _ h3
 omega
theorem Ph.done {g:Grp} {k mm:Int} {L:eD} {a mt:Int→Nat} (P:Ph g k mm L a mt) (hl:g.l=[]):(∀ f,Fo k mm f→mt f=L.length∧a f=L.length)∧(g.cs k).sure=L.length:=by
 have h:∀ f,Fo k mm f→mt f=L.length:=fun f hf=>by
  rcases P.live f hf with h | ⟨m,hm,_⟩
  ·exact h
  ·rw [hl] at hm;cases hm
 refine ⟨fun f hf=>⟨h f hf,?_⟩,P.top h⟩
 obtain ⟨F,_,m2⟩:=P.fol f hf
 have:=F.al
 have:=h f hf
 omega
theorem aQj {L L':eD} {i:Nat} (hi:i≤L.length) {es:eD} (h:es <+: L.drop i):es <+: (L++L').drop i:=by
 rw [List.drop_append_of_le_length hi]
 exact h.trans (List.prefix_append _ _)
theorem Ph.prop {g:Grp} {k mm:Int} {L:eD} {a mt:Int→Nat} (P:Ph g k mm L a mt) (h39:L.length<40):
  Ph (g.act ⟨5,k,0⟩) k mm (L++[iF (gC (g.said+1))]) a mt∧(g.act ⟨5,k,0⟩).said=g.said+1∧((g.act ⟨5,k,0⟩).cs k).left=(g.cs k).left:=by
 have M:=P.M
 have hm:∀ f,0≤f→f<5→bJ mm f=true→f≠k→1≤mt f∧mt f≤L.length:=fun f f0 f5 hf hne=>by
  obtain ⟨F,m1,m2⟩:=P.fol f ⟨f0,f5,hf,hne⟩
  have:=F.al
  omega
 obtain ⟨d,hd,g',D',l',ho,top'⟩:=aI7 (data:=gC (g.said+1)) P.gl M P.ldr hm h39 (Nat.le_trans (Nat.le_of_eq (show (gC (g.said+1)).length=2 from rfl)) (by decide))
 obtain ⟨e1,e2,e3⟩:=aFr (aYa (g:=g) M.k0 M.k5)
 have hL:(L++[iF (gC (g.said+1))]).length=L.length+1:=by simp
 have e1':(g.act ⟨5,k,0⟩).cs=eI g.cs k { d with out:=[] }:=by
  rw [e1]
  show eI (eI g.cs k ((g.cs k).propose [gC (g.said+1)]).1) k { eI g.cs k ((g.cs k).propose [gC (g.said+1)]).1 k with out:=[] }=_
  rw [cK,hd,hM]
 have e2':(g.act ⟨5,k,0⟩).l=fU (g.l++d.out):=by
  rw [e2]
  show fU (g.l++(eI g.cs k ((g.cs k).propose [gC (g.said+1)]).1 k).out)=_
  rw [cK,hd]
 have hk:(g.act ⟨5,k,0⟩).cs k={ d with out:=[] }:=by rw [e1',cK]
 have ho':∀ j,j≠k→(g.act ⟨5,k,0⟩).cs j=g.cs j:=fun j h=>by rw [e1',iE _ _ h]
 have hol:d.out.length≤4:=by rw [ho,List.length_map];exact aFq k mm M
 have hlast:∀ m∈d.out,m∈(g.act ⟨5,k,0⟩).l:=fun m hm=>by
  rw [e2']
  unfold fU
  have hle:(g.l++d.out).length - 120≤g.l.length:=by rw [List.length_append];omega
  rw [List.drop_append_of_le_length hle]
  exact List.mem_append_right _ hm
 have hsub:∀ m∈(g.act ⟨5,k,0⟩).l,m∈g.l∨m∈d.out:=fun m hm=>by
  rw [e2'] at hm
  exact List.mem_append.1 (List.mem_of_mem_drop hm)
 have hlen:(g.act ⟨5,k,0⟩).l.length≤120:=by rw [e2'];unfold fU;rw [List.length_drop];omega
 generalize g.act ⟨5,k,0⟩=g2 at e1' e2' hk ho' e3 hlast hsub hlen
 have hds0:0≤d.sure:=D'.s0
 have hds1:d.sure≤(L++[iF (gC (g.said+1))]).length:=D'.s1
 refine ⟨⟨g',M,by rw [hk];exact D',fun f hf=>?_,fun m hm'=>?_,fun f hf=>?_,fun h=>?_,hlen⟩,e3,by rw [hk];exact l'⟩
 ·rw [ho' f hf.2.2.2]
  obtain ⟨F,m1,m2⟩:=P.fol f hf
  have hal:=F.al
  exact ⟨⟨F.id,F.term,F.base,by rw [List.take_append_of_le_length hal];exact F.log,by rw [hL];omega,F.role,F.out,F.s0,F.s1⟩,m1,m2⟩
 ·rcases hsub m hm' with h | h
  ·rcases P.lt m h with ⟨f,i,es,c,h1,h2,h3,h4,h5,h6,h7,h8⟩ | h
   ·have hal:=(P.fol f h2).1.al
    exact .inl ⟨f,i,es,c,h1,h2,h3,h4,aQj (by omega) h5,h6,h7,by rw [hL];omega⟩
   ·exact .inr h
  ·rw [ho] at h
   obtain ⟨f,hf,rfl⟩:=List.mem_map.1 h
   have hf':=(pX M).1 hf
   obtain ⟨F,m1,m2⟩:=P.fol f hf'
   exact .inl ⟨f,mt f,_,_,rfl,hf',m1,m2,List.take_prefix _ _,by rw [List.length_take];omega,hds0,hds1⟩
 ·right
  have hin:gV k f (mt f) (((L++[iF (gC (g.said+1))]).drop (mt f)).take 8) d.sure∈d.out:=by
   rw [ho]
   exact List.mem_map.2 ⟨f,(pX M).2 hf,rfl⟩
  refine ⟨_,hlast _ hin,.inl ⟨_,_,_,rfl,?_⟩⟩
  have:=(hm f hf.1 hf.2.1 hf.2.2.1 hf.2.2.2).2
  rw [List.length_take,List.length_drop,hL]
  omega
 ·rw [hk]
  exact top' fun j j0 j5 hj hjk=>h j ⟨j0,j5,hj,hjk⟩
theorem Ph.beat {g:Grp} {k mm:Int} {L:eD} {a mt:Int→Nat} (P:Ph g k mm L a mt) (hl:g.l=[]):
  Ph (g.act ⟨1,k,0⟩) k mm L a mt∧(g.act ⟨1,k,0⟩).said=g.said∧(∀ f,Fo k mm f→Cmt g k L f→Cmt (g.act ⟨1,k,0⟩) k L f) ∧
   ((∀ f,Fo k mm f→Cmt (g.act ⟨1,k,0⟩) k L f)∨((g.act ⟨1,k,0⟩).cs k).left=(g.cs k).left - 1):=by
 have M:=P.M
 obtain ⟨dn,hs⟩:=P.done hl
 have hm:∀ f,0≤f→f<5→bJ mm f=true→f≠k→1≤mt f∧mt f≤L.length:=fun f f0 f5 hf hne=>by
  have:=(dn f ⟨f0,f5,hf,hne⟩).1
  have:=P.gl.l1
  omega
 obtain ⟨d,hd,D',s',ho⟩:=aQg P.gl M P.ldr hm 0
 obtain ⟨e1,e2,e3⟩:=aFr (aYb (g:=g) (n:=0) M.k0 M.k5)
 have e1':(g.act ⟨1,k,0⟩).cs=eI g.cs k { d with out:=[] }:=by
  rw [e1]
  show eI (eI g.cs k ((g.cs k).tick 0)) k { eI g.cs k ((g.cs k).tick 0) k with out:=[] }=_
  rw [cK,hd,hM]
 have hol:d.out.length≤4:=by
  rcases ho with ⟨_,_,h⟩ | ⟨_,_,h⟩
  ·rw [h];exact Nat.zero_le _
  ·rw [h,List.length_map];exact aFq k mm M
 have e2':(g.act ⟨1,k,0⟩).l=d.out:=by
  rw [e2]
  show fU (g.l++(eI g.cs k ((g.cs k).tick 0) k).out)=_
  rw [cK,hd,hl,List.nil_append,yM (by omega)]
 have hk:(g.act ⟨1,k,0⟩).cs k={ d with out:=[] }:=by rw [e1',cK]
 have ho':∀ j,j≠k→(g.act ⟨1,k,0⟩).cs j=g.cs j:=fun j h=>by rw [e1',iE _ _ h]
 generalize g.act ⟨1,k,0⟩=g2 at e1' e2' hk ho' e3
 refine ⟨⟨P.gl,M,by rw [hk];exact D',fun f hf=>by rw [ho' f hf.2.2.2];exact P.fol f hf,fun m hm'=>?_,fun f hf=>.inl (dn f hf).1,fun _=>by rw [hk];show d.sure=_;rw [s',hs],by rw [e2'];omega⟩,e3,fun f hf hc=>?_,?_⟩
 ·rw [e2'] at hm'
  rcases ho with ⟨_,_,h⟩ | ⟨_,_,h⟩
  ·rw [h] at hm';cases hm'
  ·rw [h] at hm'
   obtain ⟨f,hf,rfl⟩:=List.mem_map.1 hm'
   have hf':=(pX M).1 hf
   obtain ⟨F,m1,m2⟩:=P.fol f hf'
   exact .inl ⟨f,mt f,_,_,rfl,hf',m1,m2,List.take_prefix _ _,by rw [List.length_take];omega,by omega,by omega⟩
 ·rcases hc with h | ⟨i,es,h,_⟩
  ·left;rw [ho' f hf.2.2.2];exact h
  ·rw [hl] at h;cases h
 ·rcases ho with ⟨_,h,_⟩ | ⟨_,_,h⟩
  ·right;rw [hk];exact h
  ·left
   intro f hf
   right
   refine ⟨mt f,(L.drop (mt f)).take 8,?_,?_⟩
   ·rw [e2',h,←hs]
    exact List.mem_map.2 ⟨f,(pX M).2 hf,rfl⟩
   ·have:=(dn f hf).1
    rw [List.length_take,List.length_drop];omega
def gQ:Nat→Grp→Grp
 | 0,g=>g
 | j+1,g=>eB 600 ((gQ j g).act ⟨1,(j:Int),(j:Int)⟩)
def aBl (g:Grp):Option Nat:=(List.range 5).find? fun k=>decide ((g.cs (k:Int)).role=3)
def aTa (o:Option Nat) (g:Grp) (r:Option (Grp×Nat)):Option (Grp×Nat):=match o with
 | some k=>some (g,k)
 | none=>r
def mG:Nat→Grp→Option (Grp×Nat)
 | 0,_=>none
 | n+1,g=>aTa (aBl (gQ 5 g)) (gQ 5 g) (mG n (gQ 5 g))
theorem aI9 (n:Nat) (g:Grp):mG (n+1) g=aTa (aBl (gQ 5 g)) (gQ 5 g) (mG n (gQ 5 g)):=rfl
def jV (k:Int):Nat→Grp→Grp
 | 0,g=>g
 | j+1,g=>(jV k j g).act ⟨5,k,0⟩
def jW (k:Int):Nat→Grp→Grp
 | 0,g=>g
 | j+1,g=>(eB 600 (jW k j g)).act ⟨1,k,0⟩
def L0:eD:=[⟨1,0,[]⟩]
def aYc (c:Core) (k mm:Int):Bool:=decide (c.id=k∧c.role=3∧c.h.term=1∧c.h.base=0∧c.h.members=mm∧c.h.log=L0∧c.out.length=0∧c.peers.length=7∧(c.peer k).mtch=1∧c.sure=1∧1≤c.left∧c.left≤3)&&(List.range 5).all fun f=>!bJ mm (f:Int)||decide ((f:Int)=k)||(decide ((c.peer (f:Int)).next=2)&&decide ((c.peer (f:Int)).mtch=1))
def aYd (c:Core) (f:Int):Bool:=decide (c.id=f∧c.h.term=1∧c.h.base=0∧c.h.log=L0∧c.role≠3∧c.out.length=0∧0≤c.sure∧c.sure≤1)
def aWc (k mm:Int):Bool:=decide (0≤k)&&decide (k<5)&&bJ mm k&&lE mm&&(List.range 7).all fun f=>!bJ mm (f:Int)||decide (f<5)
def aKh (g:Grp) (k mm:Int):Bool:=decide (g.l.length=0)&&decide (g.said=0)&&aWc k mm&&aYc (g.cs k) k mm&&(List.range 5).all fun f=>!bJ mm (f:Int)||decide ((f:Int)=k)||aYd (g.cs (f:Int)) (f:Int)
def aYe (r:Nat):Bool:=match mG 20 (mF (r:Int)) with
 | none=>false
 | some (g,k)=>aKh g (k:Int) (1+r)
set_option maxHeartbeats 0 in
theorem aWd:(List.range 31).all aYe=true:=by decide +kernel
theorem aNf (members:Int):mF members=mF ((members % 31).toNat:Int)∧cC members 1 31=1+((members % 31).toNat:Int)∧(members % 31).toNat<31:=by
 have h0:0≤members % 31:=Int.emod_nonneg _ (by decide)
 have h1:members % 31<31:=Int.emod_lt_of_pos _ (by decide)
 have e:((members % 31).toNat:Int)=members % 31:=by omega
 have w:∀ n:Int,cC n 1 31=1+n % 31:=fun n=>rfl
 have hw:cC members 1 31=cC ((members % 31).toNat:Int) 1 31:=by
  rw [w,w,e,Int.emod_emod]
 refine ⟨?_,by rw [w,e],by omega⟩
 unfold mF aBg wI
 rw [hw]
theorem wM {n:Nat} {p:Nat→Bool} (h:(List.range n).all p=true) {f:Int} (f0:0≤f) (f5:f<n):p f.toNat=true:=List.all_eq_true.1 h _ (List.mem_range.2 (by omega))
theorem aWe:GoodL L0:=⟨by decide,by decide,fun x hx=>by rw [List.mem_singleton.1 hx];exact ⟨rfl,rfl,by decide⟩⟩
theorem or3 {a b c:Bool} (h:(!a||b||c)=true) (ha:a=true) (hb:b=false):c=true:=by
 rw [ha,hb] at h;exact h
theorem or2 {a b:Bool} (h:(!a||b)=true) (ha:a=true):b=true:=by rw [ha] at h;exact h
theorem aWf {k mm:Int} (h:aWc k mm=true):SetM k mm:=by
 unfold aWc at h
 simp only [Bool.and_eq_true,decide_eq_true_eq] at h
 obtain ⟨⟨⟨⟨h1,h2⟩,h3⟩,h4⟩,h5⟩:=h
 refine ⟨h1,h2,h3,fun f hf=>?_,h4⟩
 have hf':=hf
 unfold bJ at hf'
 simp only [Bool.and_eq_true,decide_eq_true_eq] at hf'
 obtain ⟨f0,f7,_⟩:=hf'
 have:=wM h5 f0 f7
 rw [show ((f.toNat:Nat):Int)=f by omega] at this
 have:=or2 this hf
 simp only [decide_eq_true_eq] at this
 omega
theorem aQk {g:Grp} {k mm:Int} (h:aKh g k mm=true):Ph g k mm L0 (fun _=>1) (fun _=>1)∧g.l=[]∧g.said=0:=by
 unfold aKh at h
 simp only [Bool.and_eq_true,decide_eq_true_eq] at h
 obtain ⟨⟨⟨⟨h1,h2⟩,h3⟩,h4⟩,h5⟩:=h
 have M:=aWf h3
 have hl:g.l=[]:=List.length_eq_zero_iff.1 h1
 unfold aYc at h4
 simp only [Bool.and_eq_true,decide_eq_true_eq] at h4
 obtain ⟨⟨a1,a2,a3,a4,a5,a6,a7,a8,a9,a10,a11,a12⟩,h6⟩:=h4
 refine ⟨⟨aWe,M,⟨a1,a2,a3,a4,a5,a6,List.length_eq_zero_iff.1 a7,a8,a9,fun f f0 f5 hf hne=>?_,by omega,by rw [a10];decide,a11,a12⟩,fun f hf=>?_,fun m hm=>(by rw [hl] at hm;cases hm),fun f hf=>.inl rfl,fun _=>a10,by omega⟩,hl,h2⟩
 ·have:=wM h6 f0 f5
  rw [show ((f.toNat:Nat):Int)=f by omega] at this
  have:=or3 this hf (decide_eq_false hne)
  simp only [Bool.and_eq_true,decide_eq_true_eq] at this
  exact this
 ·have:=wM h5 hf.1 hf.2.1
  rw [show ((f.toNat:Nat):Int)=f by have:=hf.1;omega] at this
  have:=or3 this hf.2.2.1 (decide_eq_false hf.2.2.2)
  unfold aYd at this
  simp only [decide_eq_true_eq] at this
  obtain ⟨b1,b2,b3,b4,b5,b6,b7,b8⟩:=this
  exact ⟨⟨b1,b2,b3,b4,by decide,b5,List.length_eq_zero_iff.1 b6,b7,b8⟩,Nat.le_refl _,Nat.le_refl _⟩
theorem aWg (members:Int):∃ g k,mG 20 (mF members)=some (g,k)∧k<5∧Ph g (k:Int) (cC members 1 31) L0 (fun _=>1) (fun _=>1)∧g.l=[]∧g.said=0:=by
 obtain ⟨e1,e2,e3⟩:=aNf members
 have h:=List.all_eq_true.1 aWd _ (List.mem_range.2 e3)
 unfold aYe at h
 rw [e1,e2]
 split at h
 ·cases h
 ·rename_i g k e
  obtain ⟨P,hl,hs⟩:=aQk h
  have:=P.M.k5
  exact ⟨g,k,e,by omega,P,hl,hs⟩
theorem Ph.props {k mm:Int} {a mt:Int→Nat} {g:Grp} {L:eD} (P:Ph g k mm L a mt) (h1:L.length=1):∀ m,m≤39→∃ L',Ph (jV k m g) k mm L' a mt∧L'.length=1+m∧(jV k m g).said=g.said+m
 | 0,_=>⟨L,P,h1,by show g.said=g.said+((0:Nat):Int);omega⟩
 | m+1,hm=>by
  obtain ⟨L1,P1,l1,s1⟩:=Ph.props P h1 m (by omega)
  obtain ⟨P2,s2,_⟩:=P1.prop (by omega)
  refine ⟨_,P2,by rw [List.length_append,l1];rfl,?_⟩
  show ((jV k m g).act ⟨5,k,0⟩).said=_
  rw [s2,s1];omega
theorem Ph.beats {k mm:Int} {L:eD} {g:Grp} {a mt:Int→Nat} (P:Ph g k mm L a mt):∀ j,∃ a' mt',Ph (jW k j g) k mm L a' mt'∧(jW k j g).said=g.said∧((∀ f,Fo k mm f→Cmt (jW k j g) k L f)∨((jW k j g).cs k).left≤3 - (j:Int))
 | 0=>⟨a,mt,P,rfl,.inr P.ldr.l3⟩
 | j+1=>by
  obtain ⟨a1,mt1,P1,s1,c1⟩:=Ph.beats P j
  obtain ⟨a2,mt2,P2,e2,l2,s2,c2⟩:=Ph.calm 600 _ a1 mt1 P1 P1.phi600
  obtain ⟨P3,s3,c3,d3⟩:=P2.beat e2
  refine ⟨a2,mt2,P3,(s3.trans s2).trans s1,?_⟩
  rcases c1 with c1 | c1
  ·exact .inl fun f hf=>c3 f hf (c2 f hf (c1 f hf))
  ·rcases d3 with d3 | d3
   ·exact .inl d3
   ·right
    show (((eB 600 (jW k j g)).act ⟨1,k,0⟩).cs k).left≤_
    rw [d3,l2];omega
theorem aWh {k mm:Int} {g:Grp} (P:Ph g k mm L0 (fun _=>1) (fun _=>1)) (hs:g.said=0) {m:Nat} (hm:m≤39):
  (eB 600 (jW k 12 (jV k m g))).said=m∧∀ f,0≤f→f<5→bJ mm f=true→((eB 600 (jW k 12 (jV k m g))).cs f).sure=(m:Int)+1∧((eB 600 (jW k 12 (jV k m g))).cs f).h.log.length=m+1:=by
 obtain ⟨L,P1,l1,s1⟩:=P.props rfl m hm
 obtain ⟨a2,mt2,P2,s2,c2⟩:=P1.beats 12
 have c2':∀ f,Fo k mm f→Cmt (jW k 12 (jV k m g)) k L f:=by
  rcases c2 with c2 | c2
  ·exact c2
  ·have:=P2.ldr.l1
   omega
 obtain ⟨a3,mt3,P3,e3,_,s3,c3⟩:=Ph.calm 600 _ a2 mt2 P2 P2.phi600
 obtain ⟨d1,d2⟩:=P3.done e3
 generalize eB 600 (jW k 12 (jV k m g))=g' at P3 e3 s3 c3 d1 d2
 refine ⟨by rw [s3,s2,s1,hs];omega,fun f f0 f5 hf=>?_⟩
 by_cases hk:f=k
 ·subst hk
  exact ⟨by rw [d2,l1];omega,by rw [P3.ldr.log,l1];omega⟩
 ·have F:Fo k mm f:=⟨f0,f5,hf,hk⟩
  refine ⟨?_,?_⟩
  ·rcases c3 f F (c2' f F) with h | ⟨i,es,h,_⟩
   ·rw [h,l1];omega
   ·rw [e3] at h;cases h
  ·rw [(P3.fol f F).1.log,List.length_take,(d1 f F).2,l1];omega
end Go.Raft
end
section
namespace Go.Proofs.Ytbiidlmhadihlaa
open Go.AM Go.Raft Try
section
variable [Guard]
structure RunG (a N:Nat) (g:Grp) (S:St):Prop where
 ex:∃ i,i≤N∧∃ G p O lv sv wv rows,WF S∧GAt S a g p O lv sv wv rows∧GI G g i∧0≤g.said∧g.said≤i
theorem RunG.mono {a N M:Nat} {g:Grp} {S:St} (h:RunG a N g S) (hm:N≤M):RunG a M g S:=by
 obtain ⟨i,hi,h⟩:=h
 exact ⟨i,Nat.le_trans hi hm,h⟩
theorem RunG.first {members:Int} {a:Nat} {S:St} {p:Int→Nat} {O:Int→Nat→Prop} (w:WF S) (h:GAt S a (mF members) p O .nils .nils .nils []):RunG a 0 (mF members) S:=
 ⟨0,Nat.le_refl _,_,_,_,_,_,_,_,w,h,aHz members,Int.le_refl _,Int.le_refl _⟩
theorem RunG.act {a N:Nat} {g:Grp} {S:St} (h:RunG a N g S) (hN:N<80000) (A:Raft.Act):Does prog bC bD 25 [.ptr a 0 0 0,.agg (qT A)] S fun u S'=>u=.bool true∧RunG a (N+1) (g.act A) S':=by
 obtain ⟨i,hi,G,p,O,lv,sv,wv,rows,w,hg,gi,s0,s1⟩:=h
 obtain ⟨u,S',N',⟨hu,w',p',O',lv',sv',wv',rows',hg'⟩,hrun⟩:=g25 hg w (aI4 gi.fit (by omega)) ⟨s0,by omega⟩ A (aLo gi (by omega) A)
 obtain ⟨_,G',gi',hh⟩:=aKb gi A
 refine ⟨u,S',N',⟨hu,i+1,by omega,G',p',O',lv',sv',wv',rows',w',hg',gi',?_,?_⟩,hrun⟩
 ·rcases uM g A with e | e<;>omega
 ·rcases uM g A with e | e<;>omega
theorem aWi:bO prog 65 [(0,.int .i64 2)]=.ok (.agg (qT ⟨2,0,0⟩)):=by rw [aVf];rfl
theorem aQl (n k:Int):bO prog 65 [(0,.int .i64 n),(1,.int .i64 k)]=.ok (.agg (qT ⟨n,k,0⟩)):=by rw [aVf];rfl
theorem aWj (n k j:Int):bO prog 65 [(0,.int .i64 n),(1,.int .i64 k),(2,.int .i64 j)]=.ok (.agg (qT ⟨n,k,j⟩)):=by rw [aVf];rfl
theorem aQm {n:Nat} {g:Grp} (h:g.l=[]):eB n g=g:=by
 cases n with
 | zero=>rfl
 | succ n=>
  rw [show eB (n+1) g=(match g.l with
   | []=>g
   | _::_=>eB n (g.act ⟨2,0,0⟩)) from rfl,h]
theorem aNg {n:Nat} {g:Grp} (h:g.l≠[]):eB (n+1) g=eB n (g.act ⟨2,0,0⟩):=by
 rw [show eB (n+1) g=(match g.l with
   | []=>g
   | _::_=>eB n (g.act ⟨2,0,0⟩)) from rfl]
 cases e:g.l with
 | nil=>exact absurd e h
 | cons _ _=>rfl
theorem arc {i:Nat} (h:i<600):(i:Int)<600∧600 - i=(600 - (i+1))+1:=⟨by omega,by omega⟩
theorem g29 {a N:Nat} {g:Grp} {S:St} (h:RunG a N g S) (hN:N+600≤80000):Does prog bC bD 29 [.ptr a 0 0 0] S fun u S'=>u=.tup []∧RunG a (N+600) (eB 600 g) S':=by
 refine e29 ?_
 simp only [m29]
 refine Ok.loopL (F:=fun κ K=>aEk (aC prog bC bD κ) κ K (.ptr a 0 0 0)) (ρ:=Unit) (α:=Nat) (X:=Unit) (List.range 600) (step:=fun g' _=>if g'.l.isEmpty=true then .inl () else .inr (g'.act ⟨2,0,0⟩)) (fin:=fun _=>()) (s:=g)
  (out:=fun κ K _ S'=>K (.tup []) S')
  (fun i g' vs T=>vs=[.int .i64 (i:Int)]∧i≤600∧RunG a (N+i) g' T∧eB (600 - i) g'=eB 600 g)
  (fun _ _ T=>RunG a (N+600) (eB 600 g) T) ?_ ?_ ⟨rfl,by decide,h,rfl⟩ (fun _ T hT=>Ok.ret ⟨rfl,hT⟩)
 ·rintro i j g' vs T ⟨rfl,hi0,hT,hc⟩ hi
  have hil:=(List.getElem?_eq_some_iff.1 hi).1
  rw [List.length_range] at hil
  obtain ⟨hlt,he⟩:=arc hil
  have hwi:wr .i64 ((i:Int)+1)=((i+1:Nat):Int):=fG hil (by decide)
  obtain ⟨i',hi',G,p,O,lv,sv,wv,rows,w,hg,gi,s0,s1⟩:=hT
  have hll:=aKd hg.rest.l hg.rest.lets
  simp only [aEk,bE,bG,bS,hlt,decide_true,dD,dQ,aJe,aF,Nat.reduceAdd,aPa,aFm hg.cell,aLb,hll,dF]
  have hT:RunG a (N+i) g' T:=⟨i',hi',G,p,O,lv,sv,wv,rows,w,hg,gi,s0,s1⟩
  refine OkL.pickP (fun h0=>?_) (fun h0=>?_)
  ·have hne:g'.l≠[]:=fun e=>by rw [e] at h0;exact absurd h0 (by decide)
   simp only [aWi,bS]
   refine OkL.call (hT.act (by omega) ⟨2,0,0⟩) fun u T2 ⟨_,h2⟩=>?_
   simp only [bQ,hwi,bS]
   have hne':¬ g'.l.isEmpty=true:=fun e=>hne (List.isEmpty_iff.1 e)
   refine OkL.next ⟨_,if_neg hne',rfl,by omega,h2,?_⟩
   rw [he,aNg hne] at hc
   exact hc
  ·have hnl:g'.l=[]:=by
    cases e:g'.l with
    | nil=>rfl
    | cons x t=>rw [e] at h0;exact absurd (by rw [List.length_cons];omega) h0
   rw [aQm hnl] at hc
   refine OkL.stop () ⟨(),if_pos (List.isEmpty_iff.2 hnl),?_⟩
   rw [←hc]
   exact hT.mono (by omega)
 ·rintro g' vs T ⟨rfl,hi0,hT,hc⟩
  have hnl:¬ (((List.range 600).length:Nat):Int)<600:=by rw [List.length_range];omega
  refine ⟨(),?_,fun κ K aO=>?_⟩
  ·rw [List.length_range] at hT hc
   have e:eB (600 - 600) g'=g':=rfl
   rw [e] at hc
   show RunG a (N+600) (eB 600 g) T
   rw [←hc];exact hT
  ·simp only [aEk,bE,bG,bS,hnl,decide_false,aH]
end
section
variable [Guard]
theorem aNh (g:Grp):gQ 0 g=g:=rfl
theorem aNi (j:Nat) (g:Grp):gQ (j+1) g=eB 600 ((gQ j g).act ⟨1,(j:Int),(j:Int)⟩):=rfl
theorem aKi (g:Grp):mG 0 g=none:=rfl
attribute [local irreducible] gQ eB mG
def aQn (g:Grp):Option Nat→Nat⊕Grp
 | some k=>.inl k
 | none=>.inr g
def aQo (g:Grp) (k:Nat):Option Nat⊕Unit:=if (g.cs (k:Int)).role=3 then .inl (some k) else .inr ()
theorem aIa (g:Grp):∀ l:List Nat,fW (fun _ k=>aQo g k) (fun _=>none) l ()=l.find? fun k:Nat=>decide ((g.cs (k:Int)).role=3)
 | []=>rfl
 | k::l=>by
  rw [List.find?_cons]
  unfold fW aQo
  by_cases h:(g.cs (k:Int)).role=3
  ·rw [if_pos h,decide_eq_true h]
  ·rw [if_neg h,decide_eq_false h]
   exact aIa g l
theorem are {i:Nat} (h:i<5):(i:Int)<5∧wr .i64 ((i:Int)+1)=((i+1:Nat):Int):=⟨by omega,by rw [cR (by omega) (by omega)];omega⟩
theorem bBu {a N:Nat} {g:Grp} {S:St} (h:RunG a N g S) (hN:N+3005≤80000) {p2 p3:V} {X:Type} {out:Nat→KS→X→St→An} {Q:Turn X→Prop}
  (hQ:∀ T,RunG a (N+3005) (gQ 5 g) T→OkL out (fun κ K ag=>cS κ [p2,.int .i64 0] T (pJ (aC prog bC bD κ) κ K ag (.ptr a 0 0 0) p3)) Q):
  OkL out (fun κ K ag=>cS κ [.int .i64 0] S (vM (aC prog bC bD κ) κ K ag (.ptr a 0 0 0) p2 p3)) Q:=by
 refine OkL.loop (F:=fun κ K ag vs T aO=>vM (aC prog bC bD κ) κ K ag (.ptr a 0 0 0) p2 p3 vs T aO) (σ:=Unit) (ρ:=Unit) (α:=Nat) (Y:=Unit) (List.range 5) (step:=fun _ _=>.inr ()) (fin:=id) (s:=())
  (out2:=fun κ K ag _ T=>cS κ [p2,.int .i64 0] T (pJ (aC prog bC bD κ) κ K ag (.ptr a 0 0 0) p3))
  (fun j _ vs T=>vs=[.int .i64 (j:Int)]∧j≤5∧RunG a (N+601*j) (gQ j g) T)
  (fun _ _ T=>RunG a (N+3005) (gQ 5 g) T) ?_ ?_ ⟨rfl,Nat.zero_le _,by rw [aNh];exact h⟩ (fun _ T hT=>hQ T hT)
 ·rintro j _ _ vs T ⟨rfl,hj5,hT⟩ hj
  have hjl:=(List.getElem?_eq_some_iff.1 hj).1
  rw [List.length_range] at hjl
  obtain ⟨hlt,hw⟩:=are hjl
  obtain ⟨vs,S',N',⟨r1,r2⟩,hrun⟩:=aSh (X:=Unit) (F:=fun κ K ag aO=>vM (aC prog bC bD κ) κ K ag (.ptr a 0 0 0) p2 p3 [.int .i64 (j:Int)] T aO) (out:=fun _ _ _ _=>none)
   (Q:=fun t=>match t with
    | .stop _ _=>False
    | .next vs S'=>vs=[.int .i64 ((j+1:Nat):Int)]∧RunG a (N+601*(j+1)) (gQ (j+1) g) S') (fun _ _ q=>q) (by
     simp only [vM,bE,bG,bS,hlt,decide_true,dD,aWj]
     refine OkL.call (hT.act (by omega) ⟨1,(j:Int),(j:Int)⟩) fun u T2 ⟨_,h2⟩=>?_
     refine OkL.call (g29 h2 (by omega)) fun u T3 ⟨_,h3⟩=>?_
     simp only [bQ,hw,bS]
     refine OkL.next ⟨rfl,?_⟩
     rw [aNi]
     exact h3.mono (by omega))
  subst r1
  exact ⟨N',.inr ⟨(),_,S',rfl,⟨rfl,hjl,r2⟩,fun κ K ag aO hk=>hrun κ K ag aO hk⟩⟩
 ·rintro _ vs T ⟨rfl,hj5,hT⟩
  have hnl:¬ (((List.range 5).length:Nat):Int)<5:=by rw [List.length_range];omega
  refine ⟨0,(),T,?_,fun κ K ag aO _=>?_⟩
  ·rw [List.length_range] at hT
   exact hT
  ·simp only [vM,bE,bG,bS,hnl,decide_false,aH]
def aSk (x:V):Nat→KS→Ag→Option Nat→St→An:=fun _ K ag y T=>match y with
 | some k=>K (.int .i64 (k:Int)) T
 | none=>ag [.int .i64 0,x] T
theorem aQp (v:View):gW none (oE v) 0=.ok (.int .i64 v.role):=rfl
theorem bBv {a N:Nat} {g:Grp} {S:St} (h:RunG a N g S) (hN:N≤80000) {i:Nat} (hi:i<60) {X:Type} {out:Nat→KS→X→St→An} {Q:Turn X→Prop}
  (hQ:∀ T,RunG a N g T→OkL out (fun κ K ag=>aSk (.int .i64 ((i+1:Nat):Int)) κ K ag (aBl g) T) Q):
  OkL out (fun κ K ag=>cS κ [.int .i64 0,.int .i64 0] S (pJ (aC prog bC bD κ) κ K ag (.ptr a 0 0 0) (.int .i64 (i:Int)))) Q:=by
 have hwi:wr .i64 ((i:Int)+1)=((i+1:Nat):Int):=fG hi (by decide)
 refine OkL.loop (F:=fun κ K ag vs T aO=>pJ (aC prog bC bD κ) κ K ag (.ptr a 0 0 0) (.int .i64 (i:Int)) vs T aO) (σ:=Unit) (ρ:=Option Nat) (α:=Nat) (Y:=Option Nat) (List.range 5) (step:=fun _ k=>aQo g k) (fin:=fun _=>none) (s:=())
  (out2:=aSk (.int .i64 ((i+1:Nat):Int)))
  (fun j _ vs T=>vs=[.int .i64 0,.int .i64 (j:Int)]∧j≤5∧RunG a N g T)
  (fun r y T=>r=y∧RunG a N g T) ?_ ?_ ⟨rfl,Nat.zero_le _,h⟩ (fun y T ⟨hy,hT⟩=>?_)
 ·rintro j j' _ vs T ⟨rfl,hj5,hT⟩ hj
  obtain ⟨hjl,hjj⟩:=List.getElem?_eq_some_iff.1 hj
  rw [List.length_range] at hjl
  rw [List.getElem_range] at hjj
  subst hjj
  obtain ⟨hlt,hw⟩:=are hjl
  obtain ⟨i',hi',G,p,O,lv,sv,wv,rows,w,hg,gi,s0,s1⟩:=hT
  have gc:=jR hg hjl
  obtain ⟨n,hc⟩:=hg.rest.cores (j:Int) (by omega) (by omega)
  have I:=gi.inv (j:Int) (by omega) (by omega)
  obtain ⟨N',S',x,hcall⟩:=(letI:Guard:=⟨n⟩;g17 w hc I.h).get
  have hT':RunG a N g S':=⟨i',hi',G,p,O,lv,sv,wv,rows,x.wf w,hg.ext (gi.fit).out w x,gi,s0,s1⟩
  have hrl:(g.cs (j:Int)).view.role=(g.cs (j:Int)).role:=rfl
  by_cases hr:(g.cs (j:Int)).role=3
  ·refine ⟨N',.inl ⟨some j,some j,S',if_pos hr,⟨rfl,hT'⟩,fun κ K ag aO hk=>?_⟩⟩
   simp only [pJ,bE,bG,bS,hlt,decide_true,dD,dQ,iW,aF,Nat.zero_add,mB,cZ hjl,Nat.mul_one,xQ,gc,hcall κ _ hk,aP9,aQp,hrl,aR,cO,bX,hr,aSk]
  ·refine ⟨N',.inr ⟨(),_,S',if_neg hr,⟨rfl,hjl,hT'⟩,fun κ K ag aO hk=>?_⟩⟩
   simp only [pJ,bE,bG,bS,hlt,decide_true,dD,dQ,iW,aF,Nat.zero_add,mB,cZ hjl,Nat.mul_one,xQ,gc,hcall κ _ hk,aP9,aQp,hrl,aR,cO,bX,hr,decide_false,aH,bQ,hw]
 ·rintro _ vs T ⟨rfl,hj5,hT⟩
  have hnl:¬ (((List.range 5).length:Nat):Int)<5:=by rw [List.length_range];omega
  refine ⟨0,none,T,⟨rfl,hT⟩,fun κ K ag aO _=>?_⟩
  simp only [pJ,bE,bG,bS,hnl,decide_false,aH,bQ,hwi,aSk]
 ·rw [aIa] at hy
  rw [←hy]
  exact hQ T hT
theorem g28 {a N kf:Nat} {g gf:Grp} {S:St} (h:RunG a N g S) (hN:N+60100≤80000) (he:mG 20 g=some (gf,kf)):Does prog bC bD 28 [.ptr a 0 0 0] S fun u S'=>u=.int .i64 (kf:Int)∧RunG a (N+60100) gf S':=by
 refine e28 ?_
 simp only [m28]
 refine Ok.loopL (F:=fun κ K=>aJa (aC prog bC bD κ) κ K (.ptr a 0 0 0)) (σ:=Grp) (ρ:=Nat) (α:=Nat) (X:=Nat) (List.range 60) (step:=fun g' _=>aQn (gQ 5 g') (aBl (gQ 5 g'))) (fin:=fun _=>0) (s:=g)
  (out:=fun κ K x S'=>K (.int .i64 (x:Int)) S')
  (fun i g' vs T=>vs=[.int .i64 0,.int .i64 (i:Int)]∧(∃ n,n+i=20∧mG n g'=some (gf,kf))∧RunG a (N+3005*i) g' T)
  (fun _ x T=>x=kf∧RunG a (N+60100) gf T) ?_ ?_ ⟨rfl,⟨20,rfl,he⟩,h⟩ (fun x T ⟨hx,hT⟩=>Ok.ret ⟨by rw [hx],hT⟩)
 ·rintro i j g' vs T ⟨rfl,⟨n,hn,hel⟩,hT⟩ hi
  cases n with
  | zero=>rw [aKi] at hel;cases hel
  | succ n=>
   have hil:i<20:=by omega
   have hlt:(i:Int)<60:=by omega
   rw [aI9] at hel
   simp only [aJa,bE,bG,bS,hlt,decide_true,dD]
   refine bBu hT (by omega) fun T1 h1=>?_
   refine bBv h1 (by omega) (by omega:i<60) fun T2 h2=>?_
   obtain ⟨gt,hgt⟩:∃ gt,gt=gQ 5 g':=⟨_,rfl⟩
   rw [←hgt] at hel h2 ⊢
   cases e:aBl gt with
   | some k=>
    rw [e] at hel
    have hel':some (gt,k)=some (gf,kf):=hel
    obtain ⟨e1,e2⟩:=Prod.mk.inj (Option.some.inj hel')
    refine OkL.stop k ⟨k,?_,e2,?_⟩
    ·show aQn (gQ 5 g') (aBl (gQ 5 g'))=_
     rw [←hgt,e];rfl
    ·rw [←e1];exact h2.mono (by omega)
   | none=>
    rw [e] at hel
    refine OkL.next ⟨gt,?_,rfl,⟨n,by omega,hel⟩,h2.mono (by omega)⟩
    show aQn (gQ 5 g') (aBl (gQ 5 g'))=_
    rw [←hgt,e];rfl
 ·rintro g' vs T ⟨rfl,⟨n,hn,_⟩,hT⟩
  rw [List.length_range] at hn
  omega
end
section
variable [Guard]
theorem aNj (k:Int) (g:Grp):jV k 0 g=g:=rfl
theorem aNk (k:Int) (j:Nat) (g:Grp):jV k (j+1) g=(jV k j g).act ⟨5,k,0⟩:=rfl
theorem aNl (k:Int) (g:Grp):jW k 0 g=g:=rfl
theorem aNm (k:Int) (j:Nat) (g:Grp):jW k (j+1) g=(eB 600 (jW k j g)).act ⟨1,k,0⟩:=rfl
attribute [local irreducible] gQ eB mG jV jW
theorem aYf {n:Int} (h0:0≤n) (h1:n<256):∃ m:Nat,wr .i64 (n.tmod 40)=(m:Int)∧m≤39:=by
 have h2:n.tmod 40=n % 40:=Int.tmod_eq_emod_of_nonneg h0
 have h3:0≤n % 40:=Int.emod_nonneg _ (by decide)
 have h4:n % 40<40:=Int.emod_lt_of_pos _ (by decide)
 refine ⟨(n % 40).toNat,?_,by omega⟩
 rw [h2,cR (by omega) (by omega)];omega
theorem arm {m:Nat} (h:m≤39):wr .i64 ((m:Int)+1)=(m:Int)+1∧((m+1:Nat):Int)=(m:Int)+1:=⟨cR (by omega) (by omega),by omega⟩
theorem l8 {a N m:Nat} {members:Int} {g:Grp} {S:St} (h:RunG a N g S) (hN:N≤80000) (hm:m≤39) (hs:g.said=m) (hc:∀ f,0≤f→f<5→bJ (cC members 1 31) f=true→(g.cs f).sure=(m:Int)+1∧(g.cs f).h.log.length=m+1):
  Ok (fun κ K=>cS κ [.bool false,.int .i64 0] S (aD5 (aC prog bC bD κ) κ K (.int .i64 members) (.ptr a 0 0 0) (.int .i64 (m:Int)))) fun u _=>u=.bool true:=by
 obtain ⟨hwm,hmm⟩:=arm hm
 have w0:0≤cC members 1 31:=by have:=(gU members 1 31 (by decide)).1;omega
 refine Ok.loopL (F:=fun κ K=>aD5 (aC prog bC bD κ) κ K (.int .i64 members) (.ptr a 0 0 0) (.int .i64 (m:Int))) (ρ:=Unit) (α:=Nat) (X:=Unit) (List.range 5) (step:=fun _ _=>.inr ()) (fin:=id) (s:=())
  (out:=fun k K _ S'=>aC prog bC bD k 10 [] S' fun t S''=>K t S'')
  (fun j _ vs T=>vs=[.bool false,.int .i64 (j:Int)]∧j≤5∧RunG a N g T)
  (fun _ _ _=>True) ?_ ?_ ⟨rfl,Nat.zero_le _,h⟩ (fun _ S' _=>aPu rfl)
 ·rintro j j' _ vs T ⟨rfl,hj5,i',hi',G,p,O,lv,sv,wv,rows,w,hg,gi,s0,s1⟩ hj
  have hjl:=(List.getElem?_eq_some_iff.1 hj).1
  rw [List.length_range] at hjl
  obtain ⟨hlt,hw⟩:=are hjl
  have F:=gi.fit
  have ho:=F.out
  have I:=F.inv (j:Int) (by omega) (by omega)
  have xb:Ext T (⟨T.next+18,T.heap⟩:St):=(Ext.refl T).bump 18
  have hb:=hg.ext ho w xb
  have wb:=xb.wf w
  have gc:=jR hb hjl
  obtain ⟨n,hcn⟩:=hb.rest.cores (j:Int) (by omega) (by omega)
  simp only [aD5,bE,bG,bS,hlt,decide_true,dD,dQ,iW,aF,Nat.reduceAdd,Nat.zero_add,mB,cZ hjl,Nat.mul_one,xQ,gc]
  refine OkL.call (Does.dead mT (letI:Guard:=⟨n⟩;g14 wb hcn I.h)) fun u S7 ⟨⟨x7,la,e7,o7⟩,d7⟩=>?_
  subst e7
  have h7:=hb.ext ho wb x7
  have w7:=x7.wf wb
  have gc7:=jR h7 hjl
  obtain ⟨n7,hc7⟩:=h7.rest.cores (j:Int) (by omega) (by omega)
  simp only [gc7,bS,iI,cO]
  refine OkL.call (Does.dead mT (letI:Guard:=⟨n7⟩;g17 w7 hc7 I.h)) fun u S10 ⟨⟨e10,x10⟩,d10⟩=>?_
  subst e10
  have w10:=x10.wf w7
  obtain ⟨f1,f1'⟩:=kP w (n:=18) d7 (k:=T.next+14) (Nat.le_add_right _ _) (Nat.add_lt_add_left (by decide) _)
  obtain ⟨f2,f2'⟩:=kP w (n:=18) d7 (k:=T.next+15) (Nat.le_add_right _ _) (Nat.add_lt_add_left (by decide) _)
  obtain ⟨T1,T2,S13,S14,a1,a2,a3,a4,x14,g1,g2⟩:=aI2 w10 (k1:=T.next+14) (k2:=T.next+15) ⟨d10.dead _ f1' f1,Nat.lt_of_lt_of_le f1' d10.next⟩ ⟨d10.dead _ f2' f2,Nat.lt_of_lt_of_le f2' d10.next⟩ (by omega) 7 6
   [.int .i64 0,.int .i64 0,.int .i64 0,.int .i64 0,.int .i64 0,.str [],.nils] [.int .i64 0,.int .i64 0,.int .i64 0,.int .i64 0,.int .i64 0,.int .i64 0] (bB (g.cs (j:Int)).h la) (oE (g.cs (j:Int)).view) rfl rfl rfl (dW _ o7.sl.one) rfl rfl
  have x7e:=x10.trans x14
  have h14:=h7.ext ho w7 x7e
  have w14:=x7e.wf w7
  have la14:Sl S14 3 la ((g.cs (j:Int)).h.log.map bR):=o7.sl.ext x7e
  have hR:∀ T',Ext S14 T'→RunG a N g T':=fun T' x=>⟨i',hi',G,p,O,lv,sv,wv,rows,x.wf w14,h14.ext ho w14 x,gi,s0,s1⟩
  simp only [a1,a2,bS,aJg,a3,aRt,a4]
  refine OkL.call (g26 members 1 31 S14 (by decide) (by decide) (by decide)) fun u S15 ⟨e1,e2⟩=>?_
  subst e1
  subst e2
  refine Gives.callL (g30 (cC members 1 31) (j:Int) S15 w0) fun S16 x16=>?_
  have hr:=hR _ x16
  refine OkL.pick (fun hh=>?_) (fun hh=>?_)
  ·obtain ⟨q1,q2⟩:=hc (j:Int) (by omega) (by omega) hh
   have vc:aL none (.ptr (T.next+15) 0 0 2) S16=.ok (.int .i64 ((m:Int)+1)):=by rw [←q1];exact qO (x16.old _ _ g2)
   have hl:=sO (x16.old _ _ g1)
   have hln:lenW la=.ok (.int .i64 ((m:Int)+1)):=by rw [la14.lenI,q2,hmm]
   simp only [aF1,eR,aF,Nat.reduceAdd,bS,dY,iC,vc,hl,kD,hln,bQ,hwm,aR,cO,dG,decide_true,Bool.not_true,aH,hw]
   exact OkL.next ⟨(),rfl,rfl,by omega,hr⟩
  ·simp only [bQ,bS,hw]
   exact OkL.next ⟨(),rfl,rfl,by omega,hr⟩
 ·rintro _ vs T ⟨rfl,hj5,i',hi',G,p,O,lv,sv,wv,rows,w,hg,gi,s0,s1⟩
  have hnl:¬ (((List.range 5).length:Nat):Int)<5:=by rw [List.length_range];omega
  have gs:=aFn hg.cell
  refine ⟨(),trivial,fun κ K aO=>?_⟩
  simp only [aD5,bE,bG,bS,hnl,decide_false,aH,dQ,aP5,aF,Nat.reduceAdd,dY,gs,aR,cO,bX,hs,decide_true,dD]
theorem g8 (members n:Int) (S:St) (w:WF S) (h0:0≤n) (h1:n<256):Does prog bC bD 8 [.int .i64 members,.int .u8 n] S fun u _=>u=.bool true:=by
 obtain ⟨gf,kf,he,hk5,P,hl,hs⟩:=aWg members
 obtain ⟨m,hm,hm39⟩:=aYf h0 h1
 obtain ⟨q1,q2⟩:=aWh P hs hm39
 have hk0:¬ (kf:Int)<0:=by omega
 have r8:aD prog .rem 5 (.int .u8 n) (.int .u8 40)=.ok (.int .u8 (n.tmod 40)):=aEd _ _ _ _ _ (by decide)
 refine e8 ?_
 simp only [m8]
 refine Does.call (g24 members S w) fun u S1 ⟨a,p,O,e1,w1,hS1⟩=>?_
 subst e1
 simp only [aQd,aQc,cO,bS,aH]
 refine Does.call (g28 (RunG.first w1 hS1) (by decide) he) fun u S2 ⟨e2,h2⟩=>?_
 subst e2
 simp only [bG,bS,hk0,decide_false,aH,r8,aXi,hm]
 refine Ok.loopL (F:=fun κ K=>aL7 (aC prog bC bD κ) κ K (.int .i64 members) (.ptr a 0 0 0) (.int .i64 (kf:Int)) (.int .i64 (m:Int))) (ρ:=Unit) (α:=Nat) (X:=Unit) (List.range m) (step:=fun _ _=>.inr ()) (fin:=id) (s:=())
  (out:=fun κ K _ T=>cS κ [.int .i64 0] T (aH6 (aC prog bC bD κ) κ K (.int .i64 members) (.ptr a 0 0 0) (.int .i64 (kf:Int)) (.int .i64 (m:Int))))
  (fun i _ vs T=>vs=[.int .i64 (i:Int)]∧i≤m∧RunG a (60100+i) (jV (kf:Int) i gf) T)
  (fun _ _ T=>RunG a (60100+m) (jV (kf:Int) m gf) T) ?_ ?_ ⟨rfl,Nat.zero_le _,by rw [aNj];exact h2.mono (by omega)⟩ (fun _ S3 h3=>?_)
 ·rintro i j _ vs T ⟨rfl,him,hT⟩ hi
  have hil:=(List.getElem?_eq_some_iff.1 hi).1
  rw [List.length_range] at hil
  have hlt:(i:Int)<(m:Int):=by omega
  have hwi:wr .i64 ((i:Int)+1)=((i+1:Nat):Int):=fG hil (by omega)
  simp only [aL7,bE,bG,bS,hlt,decide_true,dD,aQl]
  refine OkL.call (hT.act (by omega) ⟨5,(kf:Int),0⟩) fun u T2 ⟨_,hT2⟩=>?_
  simp only [bQ,hwi,bS]
  refine OkL.next ⟨(),rfl,rfl,hil,?_⟩
  rw [aNk];exact hT2
 ·rintro _ vs T ⟨rfl,him,hT⟩
  have hnl:¬ (((List.range m).length:Nat):Int)<(m:Int):=by rw [List.length_range];omega
  refine ⟨(),?_,fun κ K aO=>?_⟩
  ·rw [List.length_range] at hT;exact hT
  ·simp only [aL7,bE,bG,bS,hnl,decide_false,aH]
 ·refine Ok.loopL (F:=fun κ K=>aH6 (aC prog bC bD κ) κ K (.int .i64 members) (.ptr a 0 0 0) (.int .i64 (kf:Int)) (.int .i64 (m:Int))) (ρ:=Unit) (α:=Nat) (X:=Unit) (List.range 12) (step:=fun _ _=>.inr ()) (fin:=id) (s:=())
   (out:=fun κ K _ T=>aC prog bC bD κ 29 [.ptr a 0 0 0] T fun t20 S21=>cS κ [.bool false,.int .i64 0] S21 (aD5 (aC prog bC bD κ) κ K (.int .i64 members) (.ptr a 0 0 0) (.int .i64 (m:Int))))
   (fun i _ vs T=>vs=[.int .i64 (i:Int)]∧i≤12∧RunG a (60100+m+601*i) (jW (kf:Int) i (jV (kf:Int) m gf)) T)
   (fun _ _ T=>RunG a (60100+m+601*12) (jW (kf:Int) 12 (jV (kf:Int) m gf)) T) ?_ ?_ ⟨rfl,Nat.zero_le _,by rw [aNl];exact h3⟩ (fun _ S4 h4=>?_)
  ·rintro i j _ vs T ⟨rfl,him,hT⟩ hi
   have hil:=(List.getElem?_eq_some_iff.1 hi).1
   rw [List.length_range] at hil
   have hlt:(i:Int)<12:=by omega
   have hwi:wr .i64 ((i:Int)+1)=((i+1:Nat):Int):=fG hil (by omega)
   simp only [aH6,bE,bG,bS,hlt,decide_true,dD]
   refine OkL.call (g29 hT (by omega)) fun u T1 ⟨_,hT1⟩=>?_
   simp only [aQl,bS]
   refine OkL.call (hT1.act (by omega) ⟨1,(kf:Int),0⟩) fun u T2 ⟨_,hT2⟩=>?_
   simp only [bQ,hwi,bS]
   refine OkL.next ⟨(),rfl,rfl,hil,?_⟩
   rw [aNm];exact hT2.mono (by omega)
  ·rintro _ vs T ⟨rfl,him,hT⟩
   have hnl:¬ (((List.range 12).length:Nat):Int)<12:=by rw [List.length_range];omega
   refine ⟨(),?_,fun κ K aO=>?_⟩
   ·rw [List.length_range] at hT;exact hT
   ·simp only [aH6,bE,bG,bS,hnl,decide_false,aH]
  ·refine Does.call (g29 h4 (by omega)) fun u S5 ⟨_,h5⟩=>?_
   exact l8 h5 (by omega) hm39 q1 q2
end
end Go.Proofs.Ytbiidlmhadihlaa
end
