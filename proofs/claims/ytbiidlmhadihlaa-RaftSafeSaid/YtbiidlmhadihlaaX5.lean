import Derived.Test.YtbiidlmhadihlaaX4
set_option linter.unusedSimpArgs false
set_option linter.unusedVariables false
set_option linter.unusedSectionVars false
set_option maxRecDepth 100000
section
namespace Go.Proofs.Ytbiidlmhadihlaa
open Go.AM Go.Raft Try
section
variable [Guard]
theorem aUq {c:Core} (I:Raft.Inv c) {id:Int} (h1:0≤id) (h2:id<7) (n:Int):∃ d,nR id c.h n=some d:=by
 have h3:=(mV _).2 I.h
 unfold nR
 rw [if_neg (by rintro (q | q | q);omega;omega;rw [h3] at q;cases q)]
 exact ⟨_,rfl⟩
section
variable {S:St} {a:Nat} {g:Grp} {p:Int→Nat} {O:Int→Nat→Prop} {lv sv wv:V} {rows:List (List V)}
theorem g25 (h:GAt S a g p O lv sv wv rows) (w:WF S) (F:Fit g 90000) (hsd:0≤g.said∧g.said≤90000) (A:Raft.Act) (s:∀ g' k,g.step A=some (g',k)→StepOK g' k):
  Does prog bD bE 25 [.ptr a 0 0 0,.agg (nE A)] S (aBm a g A):=by
 have ho:=F.out
 have hoA:aK (nE A)=true:=rfl
 have hln:(nE A).length=3:=rfl
 obtain ⟨S1,hn1,x1,hA,hnx1⟩:=nb w 3 (nE A)
 have w1:=x1.wf w
 have h1:=h.ext ho w x1
 have hba:S.next≠a:=fun e=>by have:=h.rest.al;omega
 refine e25 ?_
 simp only [m25,bG,hoA,hln,cZ,hn1,cI,aU0,aIf,aF,Nat.reduceAdd,dX,t_a hA]
 refine Does.call (g26 A.a 0 4 S1 (by decide) (by decide) (by decide)) fun u S1' ⟨e1,e2⟩=>?_
 subst e1
 subst e2
 obtain ⟨k0,k4⟩:=iN A.a 0 4 (by decide)
 obtain ⟨kn,hkn,hk⟩:∃ kn:Nat,dF A.a 0 4=(kn:Int)∧kn<5:=⟨(dF A.a 0 4).toNat,by omega,by omega⟩
 rw [hkn]
 have I:=F.inv (kn:Int) (by omega) (by omega)
 simp only [cI,aJe hA,aV,cZ,bZ]
 refine Ok.pickP (fun e=>?_) (fun e1=>?_)
 ·have hst:g.step A=some ({ g with cs:=fV g.cs (kn:Int) ((g.cs (kn:Int)).tick A.n) },(kn:Int)):=by
   unfold Grp.step;simp only;rw [if_pos e,hkn]
  have xb:Ext S1' (⟨S1'.next+9,S1'.heap⟩:St):=(Ext.refl S1').bump 9
  have wb:=xb.wf w1
  have hb:=h1.ext ho w1 xb
  have gc:=nF hb hk
  have tn:=t_n (xb.old _ _ hA)
  simp only [eG,kN,aEd,aF,Nat.reduceAdd,Nat.zero_add,cI,pD,dK hk,Nat.mul_one,aEg,dX,gc,tn]
  exact aAx hb wb ho (k:=(kn:Int)) (by omega) (by omega) (fun G hi=>g18 A.n wb hi I (by rw [ho (kn:Int) (by omega) (by omega)];exact Nat.zero_le _)) fun S5 O5 w5 _ h5=>j25 h5 w5 hst (s _ _ hst)
 refine Ok.pickP (fun e=>aP6 h1 w1 hA hba hk F (.inl e) hkn s) (fun e2=>?_)
 refine Ok.pickP (fun e=>aP6 h1 w1 hA hba hk F (.inr (.inl e)) hkn s) (fun e3=>?_)
 by_cases e4:A.kind=4
 ·simp only [e4,decide_true]
  exact aP6 h1 w1 hA hba hk F (.inr (.inr e4)) hkn s
 have n234:¬ (A.kind=2∨A.kind=3∨A.kind=4):=by omega
 simp only [e4,decide_false]
 by_cases e5:A.kind=5
 ·have hst:g.step A=some ({ g with said:=g.said+1,cs:=fV g.cs (kn:Int) ((g.cs (kn:Int)).propose [lH (g.said+1)]).1 },(kn:Int)):=by
   unfold Grp.step;simp only;rw [if_neg e1,if_neg n234,if_pos e5,hkn]
  rw [e5]
  exact aWf h1 w1 hk F hsd hst (s _ _ hst)
 by_cases e6:A.kind=6
 ·have hst:g.step A=some ({ g with cs:=fV g.cs (kn:Int) ((g.cs (kn:Int)).change (A.n % 32)).1 },(kn:Int)):=by
   unfold Grp.step;simp only;rw [if_neg e1,if_neg n234,if_neg e5,if_pos e6,hkn]
  rw [e6]
  exact aWg h1 w1 hA hk F hst (s _ _ hst)
 by_cases e7:A.kind=7
 ·have hst:g.step A=some ({ g with cs:=fV g.cs (kn:Int) ((g.cs (kn:Int)).compact (g.cs (kn:Int)).sure (wJ (g.cs (kn:Int)).sure)).1 },(kn:Int)):=by
   unfold Grp.step;simp only;rw [if_neg e1,if_neg n234,if_neg e5,if_neg e6,if_pos e7,hkn]
  rw [e7]
  exact aWh h1 w1 hk F hst (s _ _ hst)
 by_cases e8:A.kind=8
 ·obtain ⟨d,hN⟩:=aUq I (id:=(kn:Int)) (by omega) (by omega) A.n
  have hst:g.step A=some ({ g with cs:=fV g.cs (kn:Int) d },(kn:Int)):=by
   unfold Grp.step;simp only;rw [if_neg e1,if_neg n234,if_neg e5,if_neg e6,if_neg e7,if_pos e8,hkn,hN];rfl
  rw [e8]
  exact aWj h1 w1 hA hk F hN hst (s _ _ hst)
 ·have hst:g.step A=some (g,(kn:Int)):=by
   unfold Grp.step;simp only;rw [if_neg e1,if_neg n234,if_neg e5,if_neg e6,if_neg e7,if_neg e8,hkn]
  exact aWi h1 w1 hk F e5 e6 e7 e8 hst (s _ _ hst)
end
theorem aR4 {G:Gho} {g:Grp} {B:Nat} (h:GI G g B) (hB:B<90000) (A:Raft.Act):∀ g' k,g.step A=some (g',k)→StepOK g' k:=by
 intro g' k hs
 obtain ⟨k0,k5,G',le,W',_,_,out',ll',e1,_,_,ol⟩:=aKl h A hs
 obtain ⟨s1,s2⟩:=(aOy h A).1 _ hs
 have s2':Fit (g'.post k) (B+1):=s2
 refine ⟨k0,k5,out',ll',ol,by rw [e1];exact h.le,⟨s2'.inv,s2'.id,s2'.out,s2'.to,s2'.ll,s2'.lead,s2'.sw,by have:=s2'.sl;omega,fun v v0 v5=>by have:=s2'.last v v0 v5;omega⟩,s1⟩
theorem aP7 {g:Grp} {B:Nat} (h:Fit g B) (hB:B≤90000):Fit g 90000:=⟨h.inv,h.id,h.out,h.to,h.ll,h.lead,h.sw,by have:=h.sl;omega,fun v v0 v5=>by have:=h.last v v0 v5;omega⟩
end
section
variable [Guard]
def aP8:List V:=List.replicate 200 (.int .i64 0)
def nG (i:Nat) (p:Nat→Nat):List V:=[if 0<i then .ptr (p 0) 0 0 0 else .nilp,if 1<i then .ptr (p 1) 0 0 0 else .nilp,if 2<i then .ptr (p 2) 0 0 0 else .nilp,if 3<i then .ptr (p 3) 0 0 0 else .nilp,if 4<i then .ptr (p 4) 0 0 0 else .nilp,.nils,.int .i64 0,.nils,.nils]++aP8
theorem aUr:bP prog 71 []=.ok (.agg (nG 0 fun _=>0)):=by rw [aYf];rfl
structure StartI (members:Int) (a i:Nat) (S:St) (p:Nat→Nat) (O:Nat→Nat→Prop):Prop where
 wf:WF S
 al:a<S.next
 cell:S.heap.get a=some (.row 0 209 [nG i p])
 cores:∀ j,j<i→@CoreIn ⟨0⟩ S (p j) (aEy members (j:Int)) (O j)
 sep:∀ j l,j<i→l<i→j≠l→∀ y,O j y→¬ O l y
 na:∀ j,j<i→∀ y,O j y→y≠a
theorem StartI.keep {members:Int} {a i:Nat} {S S':St} {p:Nat→Nat} {O:Nat→Nat→Prop} (h:StartI members a i S p O) (x:Ext S S'):StartI members a i S' p O:=by
 refine ⟨x.wf h.wf,Nat.lt_of_lt_of_le h.al x.next,x.old _ _ h.cell,fun j hj=>?_,h.sep,h.na⟩
 letI:Guard:=⟨0⟩
 exact (h.cores j hj).ext h.wf x
theorem aAy (i:Nat) (p:Nat→Nat):(nG i p).length=209:=by unfold nG aP8;simp
theorem aJf (i:Nat) (p:Nat→Nat) (c:Nat) (hi:i<5):splice (nG i p) i [.ptr c 0 0 0]=nG (i+1) (fun j=>if j=i then c else p j):=by
 have h5:i=0∨i=1∨i=2∨i=3∨i=4:=by omega
 rcases h5 with rfl | rfl | rfl | rfl | rfl<;>rfl
theorem aJg (m:Int):bP prog 24 [(1,.int .i64 (-1)),(4,.int .i64 (dF m 1 31))]=.ok (.agg (bB (aAw m) .nils)):=by rw [aTv];rfl
theorem g24 (members:Int) (S:St) (w:WF S):Does prog bD bE 24 [.int .i64 members] S fun u S'=>∃ a p O,u=.ptr a 0 0 0∧WF S'∧GAt S' a (aJc members) p O .nils .nils .nils []:=by
 have hlen:(nG 0 fun _=>0).length=209:=aAy _ _
 have hone:aK (nG 0 fun _=>0)=true:=by decide +kernel
 obtain ⟨S1,hn1,x1,hg1,hnx1⟩:=nb w 209 (nG 0 fun _=>0)
 have w1:=x1.wf w
 refine e24 ?_
 simp only [m24,aUr,cI,bG,hone,cZ,hlen,hn1]
 refine Ok.loopL (F:=fun κ K=>aDv (aC prog bD bE κ) κ K (.int .i64 members) (.ptr S.next 0 0 0)) (ρ:=Unit) (α:=Nat) (X:=Unit) (List.range 5) (step:=fun _ _=>.inr ()) (fin:=id) (s:=())
  (out:=fun κ K _ S'=>K (.ptr S.next 0 0 0) S')
  (fun i _ vs T=>vs=[.nilp,.int .i64 (i:Int)]∧i≤5∧∃ p O,StartI members S.next i T p O)
  (fun _ _ T=>∃ p O,StartI members S.next 5 T p O) ?_ ?_ ⟨rfl,by decide,fun _=>0,fun _ _=>False,w1,by omega,hg1,fun j hj=>absurd hj (by omega),fun j l hj=>absurd hj (by omega),fun j hj=>absurd hj (by omega)⟩ (fun _ T ⟨p,O,hT⟩=>?_)
 ·rintro i j _ vs T ⟨rfl,hi5,p,O,hT⟩ hi
  have hil:=(List.getElem?_eq_some_iff.1 hi).1
  rw [List.length_range] at hil
  have hlt:(i:Int)<5:=by omega
  have hwi:wr .i64 ((i:Int)+1)=((i+1:Nat):Int):=gU hil (by decide)
  have hw3:wr .i64 (3*(i:Int))=3*(i:Int):=cQ (by omega) (by omega)
  have hN:=aCx members (v:=(i:Int)) (by omega) (by omega)
  simp only [aDv,bK,bM,cI,hlt,decide_true,eS]
  refine OkL.call (g26 members 1 31 T (by decide) (by decide) (by decide)) fun u T' ⟨e1,e2⟩=>?_
  subst e1
  subst e2
  simp only [aJg,cI,aK3,hw3]
  refine OkL.call (letI:Guard:=⟨0⟩;g11 (i:Int) (3*(i:Int)) (aAw members) .nils T' hT.wf (Nat.zero_le _) (Sl.nilv _ _) (by show 0≤1000000;decide)) fun u S2 ⟨x2,hn⟩=>?_
  rw [hN] at hn
  obtain ⟨c1,O1,rfl,in1,hO1⟩:=hn
  have h2:=hT.keep x2
  have hsp:=aJf i p c1 hil
  have est:=cT (x:=.ptr c1 0 0 0) (j:=i) (m:=1) h2.cell rfl rfl (by rw [aAy];omega)
  have hcl:(V.ptr c1 0 0 0).cells=[.ptr c1 0 0 0]:=rfl
  rw [hcl,hsp] at est
  obtain ⟨S3,est,h3⟩:∃ S3,bF 1 (.ptr S.next 0 0 i) (.ptr c1 0 0 0) S2=.ok S3∧StartI members S.next (i+1) S3 (fun j=>if j=i then c1 else p j) (fun j=>if j=i then O1 else O j):=by
   have hal:=hT.al
   refine ⟨_,est,(But.put h2.al _).wf h2.wf,h2.al,iO,fun j hj=>?_,fun j l hj hl hne y hy hz=>?_,fun j hj y hy=>?_⟩
   ·by_cases e:j=i
    ·simp only [e,if_pos]
     refine in1.keep rfl h2.wf (Nat.le_refl _) fun y b hy hb=>dL y b (fun q=>?_) hb
     have:=hO1 y hy;omega
    ·simp only [if_neg e]
     exact (h2.cores j (by omega)).keep rfl h2.wf (Nat.le_refl _) fun y b hy hb=>dL y b (h2.na j (by omega) y hy) hb
   ·have lt:∀ j,j<i→∀ y,O j y→y<T'.next:=fun j hj y hy=>aCy hT.wf (hT.cores j hj) y hy
    by_cases ej:j=i
    ·simp only [ej,if_pos] at hy
     simp only [if_neg (fun q=>hne (ej.trans q.symm):¬ l=i)] at hz
     have:=hO1 y hy
     have:=lt l (by omega) y hz
     omega
    ·simp only [if_neg ej] at hy
     by_cases el:l=i
     ·simp only [el,if_pos] at hz
      have:=hO1 y hz
      have:=lt j (by omega) y hy
      omega
     ·simp only [if_neg el] at hz
      exact h2.sep j l (by omega) (by omega) hne y hy hz
   ·by_cases ej:j=i
    ·simp only [ej,if_pos] at hy
     have:=hO1 y hy;omega
    ·simp only [if_neg ej] at hy
     exact h2.na j (by omega) y hy
  simp only [lV,List.getElem?_cons_zero,List.getElem?_cons_succ,zD,aGz,aGy,aV,dE,cZ,cI,aI,decide_true,Bool.not_true,eG,kN,aF,Nat.reduceAdd,Nat.zero_add,pD,dK hil,Nat.mul_one,aVw,est,bU,hwi]
  exact OkL.next ⟨(),rfl,rfl,by omega,_,_,h3⟩
 ·rintro _ vs T ⟨rfl,_,p,O,hT⟩
  have hlt:¬ (((List.range 5).length:Nat):Int)<5:=by rw [List.length_range];omega
  refine ⟨(),⟨p,O,hT⟩,fun κ K aW=>?_⟩
  simp only [aDv,bK,bM,aG,hlt,decide_false,aI]
 ·refine Ok.ret ⟨S.next,fun v=>p v.toNat,fun v=>O v.toNat,rfl,hT.wf,hT.cell,hT.al,fun y hy=>?_,fun v v0 v5=>⟨0,?_⟩,fun u v u0 u5 v0 v5 hne y hy=>?_,fun v v0 v5 y hy=>⟨hT.na v.toNat (by omega) y hy,(fun e=>by cases e),(fun e=>by cases e),(fun e=>by cases e)⟩,⟨fun c hc=>(by cases hc),.inl ⟨rfl,rfl⟩⟩,.nil,Own.nil _ _ _,Own.nil _ _ _⟩
  ·rcases hy with hy | hy | hy<;>cases hy
  ·have:=hT.cores v.toNat (by omega)
   rw [show ((v.toNat:Nat):Int)=v by omega] at this
   exact this
  ·exact hT.sep u.toNat v.toNat (by omega) (by omega) (by omega) y hy
theorem aP9 (a b c d:Nat):aD prog .eql 61 (.ptr a b c d) .nilp=.ok (.bool false):=by
 have h:(fun a b c d=>aD prog .eql 61 (.ptr a b c d) .nilp)=fun _ _ _ _=>.ok (.bool false):=by kernel_rfl
 exact congrFun (congrFun (congrFun (congrFun h a) b) c) d
theorem aPa (a b c d:Nat):aJ prog 61 (.ptr a b c d) .nilp=true:=by
 have h:(fun a b c d=>aJ prog 61 (.ptr a b c d) .nilp)=fun _ _ _ _=>true:=by kernel_rfl
 exact congrFun (congrFun (congrFun (congrFun h a) b) c) d
structure RunI (a i:Nat) (S:St):Prop where
 ex:∃ G g p O lv sv wv rows,WF S∧GAt S a g p O lv sv wv rows∧GI G g i∧0≤g.said∧g.said≤i
theorem RunI.first {members:Int} {a:Nat} {S:St} {p:Int→Nat} {O:Int→Nat→Prop} (w:WF S) (h:GAt S a (aJc members) p O .nils .nils .nils []):RunI a 0 S:=
 ⟨_,_,_,_,_,_,_,_,w,h,aOz members,Int.le_refl _,Int.le_refl _⟩
theorem RunI.act {a i:Nat} {S:St} (h:RunI a i S) (hi:i<80000) (A:Raft.Act):Does prog bD bE 25 [.ptr a 0 0 0,.agg (nE A)] S fun u S'=>u=.bool true∧WF S'∧∃ G g p O lv sv wv rows,GAt S' a g p O lv sv wv rows∧GI G g (i+1)∧0≤g.said∧g.said≤((i+1:Nat):Int)∧∀ k,0≤k→k<5→aEw g k:=by
 obtain ⟨G,g,p,O,lv,sv,wv,rows,w,hg,gi,s0,s1⟩:=h
 obtain ⟨u,S',N,⟨hu,w',p',O',lv',sv',wv',rows',hg'⟩,hrun⟩:=g25 hg w (aP7 gi.fit (by omega)) ⟨s0,by omega⟩ A (aR4 gi (by omega) A)
 obtain ⟨_,G',gi',hh⟩:=aOy gi A
 refine ⟨u,S',N,⟨hu,w',G',g.act A,p',O',lv',sv',wv',rows',hg',gi',?_,?_,hh⟩,hrun⟩
 ·rcases aH8 g A with e | e<;>omega
 ·rcases aH8 g A with e | e<;>omega
theorem aWk {S:St} {p:V} {A:Raft.Act} (h:At S p (nE A)):aL (some 3) p S=.ok (.agg (nE A)):=by rw [h.load0];exact cE _ _ rfl
theorem g5 (members:Int) (av:V) (qs:List Raft.Act) (S:St) (w:WF S) (hs:∀ S,Sl S 3 av (qs.map nE)):Does prog bD bE 5 [.int .i64 members,av] S fun u S'=>u=.bool true:=by
 refine e5 ?_
 simp only [m5]
 refine Does.call (g24 members S w) fun u S1 ⟨a,p,O,e1,w1,h1⟩=>?_
 subst e1
 simp only [aPa,aP9,cZ,cI,aI]
 refine Ok.loopL (F:=fun κ K=>aGe (aC prog bD bE κ) κ K av (.ptr a 0 0 0)) (ρ:=Unit) (α:=Raft.Act) (X:=Unit) (qs.take 220) (step:=fun _ _=>.inr ()) (fin:=id) (s:=())
  (out:=fun k K _ S'=>aC prog bD bE k 10 [] S' fun t S''=>K t S'')
  (fun i _ vs T=>vs=[.bool false,.int .i64 (i:Int)]∧RunI a i T)
  (fun _ _ _=>True) ?_ ?_ ⟨rfl,RunI.first w1 h1⟩ (fun _ S' _=>aOl rfl)
 ·rintro i A _ vs T ⟨rfl,hT⟩ hi
  have hil:=(List.getElem?_eq_some_iff.1 hi).1
  rw [List.length_take] at hil
  have hi220:i<220:=by omega
  have hiq:i<qs.length:=by omega
  have hi':qs[i]?=some A:=by rw [List.getElem?_take,if_pos hi220] at hi;exact hi
  have hlt:(i:Int)<(qs.length:Int):=Int.ofNat_lt.2 hiq
  have hlt2:(i:Int)<220:=Int.ofNat_lt.2 hi220
  have hwi:wr .i64 ((i:Int)+1)=((i+1:Nat):Int):=gU hi220 (by decide)
  obtain ⟨q,hq,at1,_,_⟩:=(hs T).elem hi'
  simp only [aGe,bK,aO2,(hs T).lenI,cI,bM,hlt,hlt2,decide_true,eS,aYl,hq,aYn,aWk at1]
  refine OkL.call (hT.act (by omega) A) fun u T2 ⟨e2,w2,G,g,p,O,lv,sv,wv,rows,h2,gi,s0,s1,_⟩=>?_
  subst e2
  simp only [eM,cI,Bool.not_true,aI,bU,hwi]
  exact OkL.next ⟨(),rfl,rfl,G,g,p,O,lv,sv,wv,rows,w2,h2,gi,s0,s1⟩
 ·rintro _ vs S1 ⟨rfl,_⟩
  refine ⟨(),trivial,fun k K aW=>?_⟩
  have hn:(qs.take 220).length=min 220 qs.length:=List.length_take
  by_cases h1:((qs.take 220).length:Int)<(qs.length:Int)
  ·have h2:¬ ((qs.take 220).length:Int)<220:=by omega
   simp only [aGe,bK,aO2,(hs S1).lenI,aG,bM,h1,h2,decide_true,decide_false,bQ,aI]
  ·simp only [aGe,bK,aO2,(hs S1).lenI,aG,bM,h1,decide_false,aI]
end
theorem c65:prog.cellsOf 65=3:=by kernel_rfl
instance:Guard:=⟨0⟩
theorem aUs {n:Nat} {xs:List V} (h:dB prog n 65 xs):∃ q:Raft.Act,xs=nE q:=by
 obtain ⟨m,hl,hf⟩:=aLu Try.underlying65 h
 rw [c65] at hl
 have h0:dB prog m 3 ((xs.drop 0).take (prog.cellsOf 3)):=hf 0 _ rfl
 rw [c3] at h0
 obtain ⟨x0,e0⟩:=aJ4 h0
 have h1:dB prog m 3 ((xs.drop 1).take (prog.cellsOf 3)):=hf 1 _ rfl
 rw [c3] at h1
 obtain ⟨x1,e1⟩:=aJ4 h1
 have h2:dB prog m 3 ((xs.drop 2).take (prog.cellsOf 3)):=hf 2 _ rfl
 rw [c3] at h2
 obtain ⟨x2,e2⟩:=aJ4 h2
 obtain ⟨y0,y1,y2,rfl⟩:=aWb hl
 cases e0
 cases e1
 cases e2
 exact ⟨⟨x0,x1,x2⟩,rfl⟩
theorem aR5 {n:Nat} {xs:List V} (h:dB prog n 60 xs):∃ (l:List Raft.Act) (v:V),xs=[v]∧∀ S,Sl S 3 v (l.map nE):=by
 obtain ⟨m,h | ⟨es,h,hlen,hes⟩⟩:=aOn Try.underlying60 h
 ·exact ⟨[],.nils,h,fun S=>Sl.nilv _ _⟩
 ·obtain ⟨l,hl⟩:=aH1 (enc:=nE) fun c hc=>aUs (hes c hc).2
  subst hl
  refine ⟨l,.imm (l.map nE),h,fun S=>⟨.inr (.inl rfl),fun c hc=>?_⟩⟩
  obtain ⟨a,ha,rfl⟩:=List.mem_map.1 hc
  exact ⟨rfl,rfl⟩
end Go.Proofs.Ytbiidlmhadihlaa
end
