import Derived.Test.YtbiidlmhadihlaaX4
set_option linter.unusedSimpArgs false
set_option linter.unusedVariables false
set_option linter.unusedSectionVars false
set_option maxRecDepth 100000
section
namespace Go.Proofs.Ytbiidlmhadihlaa
open Go.AM Go.Raft Try
section
variable [Guard]
section
variable {S:St} {a b c:Nat} {g:Grp} {kn:Nat} {p:Int→Nat} {O:Int→Nat→Prop} {lv sv wv:V} {rows:List (List V)} {A:Raft.Act}
theorem aS8 {m:Letter} {ev:V} {l':List Letter} (h:GAt S a { g with l:=l' } p O lv sv wv rows) (w:WF S) (hA:S.heap.get b=some (.row 0 3 [nL A])) (hm:S.heap.get c=some (.row 0 13 [aN m ev])) (hev:Sl S 3 ev (m.entries.map bN)) (hea:∀ y,aP ev=some y→∀ v,0≤v→v<5→¬ O v y) (hto:0≤m.to) (hk:kn<5) (F:Fit g 90000)
  (hst:g.step A=some (if A.kind≠4∧m.to<5 then ({ g with l:=l',cs:=fW g.cs m.to ((g.cs m.to).take m) },m.to) else ({ g with l:=l' },(kn:Int))))
  (s:∀ g' k,g.step A=some (g',k)→StepOK g' k):
  Ok (fun κ K=>aE7 (aC prog bC bD κ) κ K (.ptr a 0 0 0) (.ptr b 0 0 0) (.int .i64 (kn:Int)) (.ptr c 0 0 0) S) (aBw a g A):=by
 have ho:=F.out
 have non:¬ (A.kind≠4∧m.to<5)→Ok (fun κ K=>kS (aC prog bC bD κ) κ K (.ptr a 0 0 0) (.int .i64 (kn:Int)) S) (aBw a g A):=fun q=>by
  rw [if_neg q] at hst
  exact j25 (aFa h w (by omega) (by omega) (ho (kn:Int) (by omega) (by omega))) w hst (s _ _ hst)
 have l2:aL none (.ptr c 0 0 2) S=.ok (.int .i64 m.to):=by rw [aX _ _ _ _ _ (aU hm)];rfl
 simp only [aE7,aIn,aIr,aIp,aF,Nat.reduceAdd,bZ,dW,aJr hA,l2,aR,cN,dB,bM,aH]
 refine Ok.pickN (fun e=>?_) (fun e=>non fun q=>q.1 e)
 refine Ok.pickP (fun e2=>?_) (fun e2=>non fun q=>e2 q.2)
 rw [if_pos ⟨e,e2⟩] at hst
 obtain ⟨tn,ht,ht5⟩:∃ tn:Nat,m.to=(tn:Int)∧tn<5:=⟨m.to.toNat,by omega,by omega⟩
 have xb:Ext S (⟨S.next+8,S.heap⟩:St):=(Ext.refl S).bump 8
 have wb:=xb.wf w
 have hb:=h.ext ho w xb
 have gc:=kB hb ht5
 have lm:aL (some 13) (.ptr c 0 0 0) (⟨S.next+8,S.heap⟩:St)=.ok (.agg (aN m ev)):=by rw [aX _ _ _ _ _ (aU (xb.old _ _ hm))];exact cA _ _ rfl
 have I:=F.inv m.to hto e2
 have ho2:=ho m.to hto e2
 have hea2:=fun y hy=>hea y hy m.to hto e2
 rw [ht] at I ho2 hst hea2 ⊢
 simp only [dM,jT,aF,Nat.reduceAdd,Nat.zero_add,bZ,nV,dF ht5,Nat.mul_one,aBk,gc,aBl,lm]
 exact aB8 hb wb ho (k:=(tn:Int)) (by omega) (by omega) (fun G hi=>g19 m ev wb hi I ⟨hev.ext xb,hea2⟩ (by show (g.cs (tn:Int)).out.length≤_;rw [ho2];exact Nat.zero_le _)) fun S5 O5 w5 _ h5=>j25 h5 w5 hst (s _ _ hst)
theorem aPj {q:V} (h:GAt S a g p O lv sv wv rows) (w:WF S) (hA:S.heap.get b=some (.row 0 3 [nL A])) (hba:b≠a) (hk:kn<5) (F:Fit g 90000) (hkd:A.kind=2∨A.kind=3∨A.kind=4) (hkn:dG A.a 0 4=(kn:Int)) (s:∀ g' k,g.step A=some (g',k)→StepOK g' k):
  Ok (fun κ K=>gY (aC prog bC bD κ) κ K (.ptr a 0 0 0) (.ptr b 0 0 0) (.int .i64 (kn:Int)) q (.bool true) S) (aBw a g A):=by
 have ho:=F.out
 have hll:=F.ll
 have hlen:lenW lv=.ok (.int .i64 g.l.length):=aPe h.rest.l h.rest.lets
 have hk1:A.kind≠1:=by omega
 have gl:=aHk h.cell
 simp only [gY,dX,dM,aOa,aF,Nat.reduceAdd,bZ,aQp,gl,aOe,hlen,aR,cN,bV]
 refine Ok.pickP (fun e=>?_) (fun e=>?_)
 ·have hn:g.l=[]:=List.length_eq_zero_iff.1 (by omega)
  have hst:g.step A=none:=by unfold Grp.step;simp only;rw [if_neg hk1,if_pos hkd,if_pos hn]
  have he:g.act A=g:=by unfold Grp.act;rw [hst]
  exact Ok.ret ⟨rfl,w,p,O,lv,sv,wv,rows,by rw [he];exact h⟩
 have hn:g.l≠[]:=fun q=>e (by rw [q];rfl)
 have hl1:1≤g.l.length:=by omega
 obtain ⟨i0,i1⟩:=iU A.n 0 ((g.l.length:Int) - 1) (by omega)
 obtain ⟨i,hi,hil⟩:∃ i:Nat,dG A.n 0 ((g.l.length:Int) - 1)=(i:Int)∧i<g.l.length:=⟨(dG A.n 0 ((g.l.length:Int) - 1)).toNat,by omega,by omega⟩
 obtain ⟨m,hm⟩:∃ m,g.l[i]?=some m:=⟨_,List.getElem?_eq_getElem hil⟩
 have hto:=F.to m (List.mem_of_getElem? hm)
 have hgd:g.l.getD i Letter.zero=m:=iE hm
 have hit:(dG A.n 0 ((g.l.length:Int) - 1)).toNat=i:=by rw [hi];omega
 have xb:Ext S (⟨S.next+10,S.heap⟩:St):=(Ext.refl S).bump 10
 have wb:=xb.wf w
 have hb:=h.ext ho w xb
 have tn:=t_n (xb.old _ _ hA)
 have gl1:=aHk hb.cell
 have w1:wr .i64 ((g.l.length:Int) - 1)=(g.l.length:Int) - 1:=cK (by omega) (by omega)
 simp only [aEo,aF,Nat.reduceAdd,bZ,dW,tn,gl1,hlen,cG,w1]
 refine Does.call (g26 A.n 0 ((g.l.length:Int) - 1) _ (by omega) (by omega) (by omega)) fun u S1 ⟨e1,e2⟩=>?_
 subst e1
 subst e2
 rw [hi]
 obtain ⟨cs,hcs,ev,rfl,se,sn⟩:=hb.rest.lets.get hm
 obtain ⟨q1,hq1,at1⟩:=hb.rest.l.sl.idx hcs .i64
 have l1:aL (some 13) q1 (⟨S.next+10,S.heap⟩:St)=.ok (.agg (aN m ev)):=by rw [at1.load0];exact cA _ _ rfl
 obtain ⟨T1,S2,v1,v2,x2,g2⟩:=aRh wb 13 [.int .i64 0,.int .i64 0,.int .i64 0,.int .i64 0,.int .i64 0,.int .i64 0,.int .i64 0,.int .i64 0,.int .i64 0,.int .i64 0,.bool false,.str [],.nils] (aN m ev) rfl rfl (cL m se.one)
 have h2:=hb.ext ho wb x2
 have w2:=x2.wf wb
 have A2:=(xb.trans x2).old _ _ hA
 have se2:=se.ext x2
 have hcn:(⟨S.next+10,S.heap⟩:St).next≠a:=fun e=>by have:=h.rest.al;have:S.next+10=a:=e;omega
 simp only [gl1,bZ,aYy,hq1,aBl,l1,v1,aZ4,v2,aIr,aF,Nat.reduceAdd,dW,aJr A2,aR,cN,dB]
 refine Ok.pickN (fun e3=>?_) (fun e3=>?_)
 ·
  have hst:g.step A=some (if A.kind≠4∧m.to<5 then ({ g with l:=g.l.take i++g.l.drop (i+1),cs:=fW g.cs m.to ((g.cs m.to).take m) },m.to) else ({ g with l:=g.l.take i++g.l.drop (i+1) },(kn:Int))):=by
   unfold Grp.step
   simp only
   rw [if_neg hk1,if_pos hkd,if_neg hn,hit,hgd,hkn,if_neg e3]
   split<;>rfl
  have xc:Ext S2 (⟨S2.next+20,S2.heap⟩:St):=(Ext.refl S2).bump 20
  have wc:=xc.wf w2
  have h3:=h2.ext ho w2 xc
  have gl3:=aHk h3.cell
  have hrl:rows.length=g.l.length:=h3.rest.lets.len.symm
  have w3:wr .i64 ((i:Int)+1)=((i+1:Nat):Int):=by rw [cK (by omega) (by omega)];omega
  have b1:=mE (len:=rows.length) (l:=(i:Int)) .i64 (by omega) (by omega)
  have b2:=kI (len:=rows.length) (l:=((i+1:Nat):Int)) .i64 (by omega) (by omega)
  obtain ⟨u1,c1,s1,_⟩:=rZ aUz h3.rest.l.sl b1 (by omega) (by omega)
  obtain ⟨u2,c2,s2,_⟩:=rZ aUz h3.rest.l.sl b2 (by omega) (by omega)
  rw [show ((i:Int)).toNat=i by omega,List.drop_zero] at s1
  rw [show (((i+1:Nat):Int)).toNat=i+1 by omega,List.take_length] at s2
  have e4:=aBu (⟨S2.next+20,S2.heap⟩:St) (S2.next+1) 13 [.int .i64 0,.int .i64 0,.int .i64 0,.int .i64 0,.int .i64 0,.int .i64 0,.int .i64 0,.int .i64 0,.int .i64 0,.int .i64 0,.bool false,.str [],.nils]
  obtain ⟨T4,hT4⟩:∃ T4,T4=(⟨S2.next+20,S2.heap.put (S2.next+1) (.row 0 13 [])⟩:St):=⟨_,rfl⟩
  have e4':bK 13 [.int .i64 0,.int .i64 0,.int .i64 0,.int .i64 0,.int .i64 0,.int .i64 0,.int .i64 0,.int .i64 0,.int .i64 0,.int .i64 0,.bool false,.str [],.nils] 0 [] (some (S2.next+1)) (⟨S2.next+20,S2.heap⟩:St)=.ok (.sl (S2.next+1) 0 13 0 0,T4):=by rw [e4,hT4]
  have x4:Ext S2 T4:=by rw [hT4];exact xc.set (by omega) (by show S2.next+1<S2.next+20;omega) w2 _
  have g4:T4.heap.get (S2.next+1)=some (.row 0 13 []):=by rw [hT4];exact Tr.get_put_sameB _ _ _ trivial
  have n4:T4.next=S2.next+20:=by rw [hT4]
  have f1:(⟨S2.next+20,S2.heap⟩:St).heap.get (S2.next+1)=none:=iS w2 20 _ (Nat.le_add_right _ _)
  have y4:Ext (⟨S2.next+20,S2.heap⟩:St) T4:=by rw [hT4];exact Ext.newAt f1 (by show S2.next+1<S2.next+20;omega) _
  have e5:=aP1 (b:=128) g4 (s1.ext y4).elems s1.len (by simp only [List.length_nil,List.length_take];omega) (by simp only [List.length_nil,List.length_take];unfold fL;omega) (some (S2.next+8))
  simp only [List.nil_append,List.length_nil] at e5
  obtain ⟨T5,hT5⟩:∃ T5,T5=(⟨T4.next,T4.heap.put (S2.next+1) (.row (0+1) 13 (rows.take i))⟩:St):=⟨_,rfl⟩
  rw [←hT5] at e5
  have x5:Ext S2 T5:=by rw [hT5];exact x4.set (by omega) (by omega) w2 _
  have g5:T5.heap.get (S2.next+1)=some (.row (0+1) 13 (rows.take i)):=by rw [hT5];exact Tr.get_put_sameB _ _ _ trivial
  have n5:T5.next=S2.next+20:=by rw [hT5];exact n4
  have y5:Ext (⟨S2.next+20,S2.heap⟩:St) T5:=by
   refine ⟨fun y d hd=>?_,by rw [n5];exact Nat.le_refl _,fun _=>x5.wf w2⟩
   exact x5.old y d hd
  have s2':=s2.ext y5
  have e6:=aP1 (b:=128) g5 s2'.elems s2.len (by simp only [List.length_take,List.length_drop];omega) (by simp only [List.length_take,List.length_drop];unfold fL;omega) (some (S2.next+16))
  obtain ⟨T6,hT6⟩:∃ T6,T6=(⟨T5.next,T5.heap.put (S2.next+1) (.row (0+1+1) 13 (rows.take i++rows.drop (i+1)))⟩:St):=⟨_,rfl⟩
  rw [←hT6] at e6
  have x6:Ext S2 T6:=by rw [hT6];exact x5.set (by omega) (by omega) w2 _
  have g6:T6.heap.get (S2.next+1)=some (.row (0+1+1) 13 (rows.take i++rows.drop (i+1))):=by rw [hT6];exact Tr.get_put_sameB _ _ _ trivial
  have n6:T6.next=S2.next+20:=by rw [hT6];exact n5
  have h6:=h2.ext ho w2 x6
  have w6:=x6.wf w2
  have gl5:=aHk (h2.ext ho w2 x5).cell
  have l6:Go.Raft.Lq T6 13 (.sl (S2.next+1) (0+1+1) 13 0 (rows.take i++rows.drop (i+1)).length) (rows.take i++rows.drop (i+1)):=by
   refine ⟨fun z hz=>?_,.inr ⟨S2.next+1,0+1+1,0,_,rfl,by rw [n6];omega,g6,by omega,by rw [List.drop_zero,List.take_length]⟩⟩
   rcases List.mem_append.1 hz with hz | hz
   ·exact s1.len z hz
   ·exact s2.len z hz
  have r6:GRest T6 a ({ g with l:=g.l.take i++g.l.drop (i+1) }:Grp) p O (.sl (S2.next+1) (0+1+1) 13 0 (rows.take i++rows.drop (i+1)).length) sv wv (rows.take i++rows.drop (i+1)):=by
   have r:=h6.rest
   have hal:=h2.rest.al
   refine ⟨r.al,fun y hy=>?_,r.cores,r.sep,fun v v0 v5 y hy=>?_,l6,aFb (aDa i r.lets) (vU (i+1) r.lets),r.sv,r.wv⟩
   ·rcases hy with hy | hy
    ·cases hy;omega
    ·exact r.na y (.inr hy)
   ·obtain ⟨o1,o2,o3,o4⟩:=r.og v v0 v5 y hy
    have:=olt h2 w2 v v0 v5 y hy
    exact ⟨o1,fun e=>by cases e;omega,o3,o4⟩
  obtain ⟨S7,e7,h7,w7,k7⟩:∃ S7,bG 1 (.ptr a 0 0 5) (.sl (S2.next+1) (0+1+1) 13 0 (rows.take i++rows.drop (i+1)).length) T6=.ok S7∧GAt S7 a ({ g with l:=g.l.take i++g.l.drop (i+1) }:Grp) p O (.sl (S2.next+1) (0+1+1) 13 0 (rows.take i++rows.drop (i+1)).length) sv wv (rows.take i++rows.drop (i+1))∧WF S7∧∀ y z,y≠a→T6.heap.get y=some z→S7.heap.get y=some z:=
   ⟨_,lO h6.cell F.lead 5 _ (by decide) rfl rfl (g':={ g with l:=g.l.take i++g.l.drop (i+1) }) (p':=p) (lv':=.sl (S2.next+1) (0+1+1) 13 0 (rows.take i++rows.drop (i+1)).length) (sv':=sv) (wv':=wv) rfl,⟨iV,r6.keep ho w6 (Nat.le_refl _) (fun y z hy hz=>dL y z hy hz)⟩,(But.put r6.al _).wf w6,fun y z hy hz=>dL y z hy hz⟩
  simp only [gl3,bZ,c1,bP,w3,c2,aW1,e4',aO5,e5,gl5,iB,cN,e6,aOg,e7]
  refine aS8 h7 w7 (k7 _ _ hba (x6.old _ _ A2)) (k7 _ _ hcn (x6.old _ _ g2)) ?_ (fun y hy v v0 v5=>(sn y hy).2.1 v v0 v5) hto hk F hst s
  exact (se2.ext x6).keep fun y z hy hz=>k7 y z (sn y hy).1 hz
 ·have hst:g.step A=some (if A.kind≠4∧m.to<5 then ({ g with l:=g.l,cs:=fW g.cs m.to ((g.cs m.to).take m) },m.to) else ({ g with l:=g.l },(kn:Int))):=by
   unfold Grp.step
   simp only
   rw [if_neg hk1,if_pos hkd,if_neg hn,hit,hgd,hkn,if_pos e3]
   split<;>rfl
  exact aS8 h2 w2 A2 g2 se2 (fun y hy v v0 v5=>(sn y hy).2.1 v v0 v5) hto hk F hst s
end
end
section
variable [Guard]
theorem aV2 {c:Core} (I:Raft.Inv c) {id:Int} (h1:0≤id) (h2:id<7) (n:Int):∃ d,nZ id c.h n=some d:=by
 have h3:=(nC _).2 I.h
 unfold nZ
 rw [if_neg (by rintro (q | q | q);omega;omega;rw [h3] at q;cases q)]
 exact ⟨_,rfl⟩
section
variable {S:St} {a:Nat} {g:Grp} {p:Int→Nat} {O:Int→Nat→Prop} {lv sv wv:V} {rows:List (List V)}
theorem g25 (h:GAt S a g p O lv sv wv rows) (w:WF S) (F:Fit g 90000) (hsd:0≤g.said∧g.said≤90000) (A:Raft.Act) (s:∀ g' k,g.step A=some (g',k)→StepOK g' k):
  Does prog bC bD 25 [.ptr a 0 0 0,.agg (nL A)] S (aBw a g A):=by
 have ho:=F.out
 have hoA:aM (nL A)=true:=rfl
 have hln:(nL A).length=3:=rfl
 obtain ⟨S1,hn1,x1,hA,hnx1⟩:=nb w 3 (nL A)
 have w1:=x1.wf w
 have h1:=h.ext ho w x1
 have hba:S.next≠a:=fun e=>by have:=h.rest.al;omega
 refine e25 ?_
 simp only [m25,bH,hoA,hln,cN,hn1,bZ,aUe,aIr,aF,Nat.reduceAdd,dW,t_a hA]
 refine Does.call (g26 A.a 0 4 S1 (by decide) (by decide) (by decide)) fun u S1' ⟨e1,e2⟩=>?_
 subst e1
 subst e2
 obtain ⟨k0,k4⟩:=iU A.a 0 4 (by decide)
 obtain ⟨kn,hkn,hk⟩:∃ kn:Nat,dG A.a 0 4=(kn:Int)∧kn<5:=⟨(dG A.a 0 4).toNat,by omega,by omega⟩
 rw [hkn]
 have I:=F.inv (kn:Int) (by omega) (by omega)
 simp only [bZ,aJr hA,aR,cN,bV]
 refine Ok.pickP (fun e=>?_) (fun e1=>?_)
 ·have hst:g.step A=some ({ g with cs:=fW g.cs (kn:Int) ((g.cs (kn:Int)).tick A.n) },(kn:Int)):=by
   unfold Grp.step;simp only;rw [if_pos e,hkn]
  have xb:Ext S1' (⟨S1'.next+9,S1'.heap⟩:St):=(Ext.refl S1').bump 9
  have wb:=xb.wf w1
  have hb:=h1.ext ho w1 xb
  have gc:=kB hb hk
  have tn:=t_n (xb.old _ _ hA)
  simp only [dM,jT,aEo,aF,Nat.reduceAdd,Nat.zero_add,bZ,nV,dF hk,Nat.mul_one,aBk,dW,gc,tn]
  exact aB8 hb wb ho (k:=(kn:Int)) (by omega) (by omega) (fun G hi=>g18 A.n wb hi I (by rw [ho (kn:Int) (by omega) (by omega)];exact Nat.zero_le _)) fun S5 O5 w5 _ h5=>j25 h5 w5 hst (s _ _ hst)
 refine Ok.pickP (fun e=>aPj h1 w1 hA hba hk F (.inl e) hkn s) (fun e2=>?_)
 refine Ok.pickP (fun e=>aPj h1 w1 hA hba hk F (.inr (.inl e)) hkn s) (fun e3=>?_)
 by_cases e4:A.kind=4
 ·simp only [e4,decide_true]
  exact aPj h1 w1 hA hba hk F (.inr (.inr e4)) hkn s
 have n234:¬ (A.kind=2∨A.kind=3∨A.kind=4):=by omega
 simp only [e4,decide_false]
 by_cases e5:A.kind=5
 ·have hst:g.step A=some ({ g with said:=g.said+1,cs:=fW g.cs (kn:Int) ((g.cs (kn:Int)).propose [lN (g.said+1)]).1 },(kn:Int)):=by
   unfold Grp.step;simp only;rw [if_neg e1,if_neg n234,if_pos e5,hkn]
  rw [e5]
  exact aWq h1 w1 hk F hsd hst (s _ _ hst)
 by_cases e6:A.kind=6
 ·have hst:g.step A=some ({ g with cs:=fW g.cs (kn:Int) ((g.cs (kn:Int)).change (A.n % 32)).1 },(kn:Int)):=by
   unfold Grp.step;simp only;rw [if_neg e1,if_neg n234,if_neg e5,if_pos e6,hkn]
  rw [e6]
  exact aWr h1 w1 hA hk F hst (s _ _ hst)
 by_cases e7:A.kind=7
 ·have hst:g.step A=some ({ g with cs:=fW g.cs (kn:Int) ((g.cs (kn:Int)).compact (g.cs (kn:Int)).sure (wR (g.cs (kn:Int)).sure)).1 },(kn:Int)):=by
   unfold Grp.step;simp only;rw [if_neg e1,if_neg n234,if_neg e5,if_neg e6,if_pos e7,hkn]
  rw [e7]
  exact aWs h1 w1 hk F hst (s _ _ hst)
 by_cases e8:A.kind=8
 ·obtain ⟨d,hN⟩:=aV2 I (id:=(kn:Int)) (by omega) (by omega) A.n
  have hst:g.step A=some ({ g with cs:=fW g.cs (kn:Int) d },(kn:Int)):=by
   unfold Grp.step;simp only;rw [if_neg e1,if_neg n234,if_neg e5,if_neg e6,if_neg e7,if_pos e8,hkn,hN];rfl
  rw [e8]
  exact aWu h1 w1 hA hk F hN hst (s _ _ hst)
 ·have hst:g.step A=some (g,(kn:Int)):=by
   unfold Grp.step;simp only;rw [if_neg e1,if_neg n234,if_neg e5,if_neg e6,if_neg e7,if_neg e8,hkn]
  exact aWt h1 w1 hk F e5 e6 e7 e8 hst (s _ _ hst)
end
theorem aRi {G:Gho} {g:Grp} {B:Nat} (h:GI G g B) (hB:B<90000) (A:Raft.Act):∀ g' k,g.step A=some (g',k)→StepOK g' k:=by
 intro g' k hs
 obtain ⟨k0,k5,G',le,W',_,_,out',ll',e1,_,_,ol⟩:=aKy h A hs
 obtain ⟨s1,s2⟩:=(aPb h A).1 _ hs
 have s2':Fit (g'.post k) (B+1):=s2
 refine ⟨k0,k5,out',ll',ol,by rw [e1];exact h.le,⟨s2'.inv,s2'.id,s2'.out,s2'.to,s2'.ll,s2'.lead,s2'.sw,by have:=s2'.sl;omega,fun v v0 v5=>by have:=s2'.last v v0 v5;omega⟩,s1⟩
theorem aHo {g:Grp} {B:Nat} (h:Fit g B) (hB:B≤90000):Fit g 90000:=⟨h.inv,h.id,h.out,h.to,h.ll,h.lead,h.sw,by have:=h.sl;omega,fun v v0 v5=>by have:=h.last v v0 v5;omega⟩
end
section
variable [Guard]
def aPk:List V:=List.replicate 200 (.int .i64 0)
def nM (i:Nat) (p:Nat→Nat):List V:=[if 0<i then .ptr (p 0) 0 0 0 else .nilp,if 1<i then .ptr (p 1) 0 0 0 else .nilp,if 2<i then .ptr (p 2) 0 0 0 else .nilp,if 3<i then .ptr (p 3) 0 0 0 else .nilp,if 4<i then .ptr (p 4) 0 0 0 else .nilp,.nils,.int .i64 0,.nils,.nils]++aPk
theorem aV3:bQ prog 71 []=.ok (.agg (nM 0 fun _=>0)):=by rw [aYt];rfl
structure StartI (members:Int) (a i:Nat) (S:St) (p:Nat→Nat) (O:Nat→Nat→Prop):Prop where
 wf:WF S
 al:a<S.next
 cell:S.heap.get a=some (.row 0 209 [nM i p])
 cores:∀ j,j<i→@CoreIn ⟨0⟩ S (p j) (aF9 members (j:Int)) (O j)
 sep:∀ j l,j<i→l<i→j≠l→∀ y,O j y→¬ O l y
 na:∀ j,j<i→∀ y,O j y→y≠a
theorem StartI.keep {members:Int} {a i:Nat} {S S':St} {p:Nat→Nat} {O:Nat→Nat→Prop} (h:StartI members a i S p O) (x:Ext S S'):StartI members a i S' p O:=by
 refine ⟨x.wf h.wf,Nat.lt_of_lt_of_le h.al x.next,x.old _ _ h.cell,fun j hj=>?_,h.sep,h.na⟩
 letI:Guard:=⟨0⟩
 exact (h.cores j hj).ext h.wf x
theorem aB9 (i:Nat) (p:Nat→Nat):(nM i p).length=209:=by unfold nM aPk;simp
theorem aJs (i:Nat) (p:Nat→Nat) (c:Nat) (hi:i<5):splice (nM i p) i [.ptr c 0 0 0]=nM (i+1) (fun j=>if j=i then c else p j):=by
 have h5:i=0∨i=1∨i=2∨i=3∨i=4:=by omega
 rcases h5 with rfl | rfl | rfl | rfl | rfl<;>rfl
theorem aJt (m:Int):bQ prog 24 [(1,.int .i64 (-1)),(4,.int .i64 (dG m 1 31))]=.ok (.agg (bA (aB6 m) .nils)):=by rw [aU9];rfl
theorem g24 (members:Int) (S:St) (w:WF S):Does prog bC bD 24 [.int .i64 members] S fun u S'=>∃ a p O,u=.ptr a 0 0 0∧WF S'∧GAt S' a (aJp members) p O .nils .nils .nils []:=by
 have hlen:(nM 0 fun _=>0).length=209:=aB9 _ _
 have hone:aM (nM 0 fun _=>0)=true:=by decide +kernel
 obtain ⟨S1,hn1,x1,hg1,hnx1⟩:=nb w 209 (nM 0 fun _=>0)
 have w1:=x1.wf w
 refine e24 ?_
 simp only [m24,aV3,bZ,bH,hone,cN,hlen,hn1]
 refine Ok.loopL (F:=fun κ K=>aE6 (aC prog bC bD κ) κ K (.int .i64 members) (.ptr S.next 0 0 0)) (ρ:=Unit) (α:=Nat) (X:=Unit) (List.range 5) (step:=fun _ _=>.inr ()) (fin:=id) (s:=())
  (out:=fun κ K _ S'=>K (.ptr S.next 0 0 0) S')
  (fun i _ vs T=>vs=[.nilp,.int .i64 (i:Int)]∧i≤5∧∃ p O,StartI members S.next i T p O)
  (fun _ _ T=>∃ p O,StartI members S.next 5 T p O) ?_ ?_ ⟨rfl,by decide,fun _=>0,fun _ _=>False,w1,by omega,hg1,fun j hj=>absurd hj (by omega),fun j l hj=>absurd hj (by omega),fun j hj=>absurd hj (by omega)⟩ (fun _ T ⟨p,O,hT⟩=>?_)
 ·rintro i j _ vs T ⟨rfl,hi5,p,O,hT⟩ hi
  have hil:=(List.getElem?_eq_some_iff.1 hi).1
  rw [List.length_range] at hil
  have hlt:(i:Int)<5:=by omega
  have hwi:wr .i64 ((i:Int)+1)=((i+1:Nat):Int):=hJ hil (by decide)
  have hw3:wr .i64 (3*(i:Int))=3*(i:Int):=cK (by omega) (by omega)
  have hN:=aD8 members (v:=(i:Int)) (by omega) (by omega)
  simp only [aE6,bF,bM,bZ,hlt,decide_true,dX]
  refine OkL.call (g26 members 1 31 T (by decide) (by decide) (by decide)) fun u T' ⟨e1,e2⟩=>?_
  subst e1
  subst e2
  simp only [aJt,bZ,aKg,hw3]
  refine OkL.call (letI:Guard:=⟨0⟩;g11 (i:Int) (3*(i:Int)) (aB6 members) .nils T' hT.wf (Nat.zero_le _) (Sl.nilv _ _) (by show 0≤1000000;decide)) fun u S2 ⟨x2,hn⟩=>?_
  rw [hN] at hn
  obtain ⟨c1,O1,rfl,in1,hO1⟩:=hn
  have h2:=hT.keep x2
  have hsp:=aJs i p c1 hil
  have est:=cU (x:=.ptr c1 0 0 0) (j:=i) (m:=1) h2.cell rfl rfl (by rw [aB9];omega)
  have hcl:(V.ptr c1 0 0 0).cells=[.ptr c1 0 0 0]:=rfl
  rw [hcl,hsp] at est
  obtain ⟨S3,est,h3⟩:∃ S3,bG 1 (.ptr S.next 0 0 i) (.ptr c1 0 0 0) S2=.ok S3∧StartI members S.next (i+1) S3 (fun j=>if j=i then c1 else p j) (fun j=>if j=i then O1 else O j):=by
   have hal:=hT.al
   refine ⟨_,est,(But.put h2.al _).wf h2.wf,h2.al,iV,fun j hj=>?_,fun j l hj hl hne y hy hz=>?_,fun j hj y hy=>?_⟩
   ·by_cases e:j=i
    ·simp only [e,if_pos]
     refine in1.keep rfl h2.wf (Nat.le_refl _) fun y b hy hb=>dL y b (fun q=>?_) hb
     have:=hO1 y hy;omega
    ·simp only [if_neg e]
     exact (h2.cores j (by omega)).keep rfl h2.wf (Nat.le_refl _) fun y b hy hb=>dL y b (h2.na j (by omega) y hy) hb
   ·have lt:∀ j,j<i→∀ y,O j y→y<T'.next:=fun j hj y hy=>aD9 hT.wf (hT.cores j hj) y hy
    by_cases ej:j=i
    ·simp only [ej,if_pos] at hy
     simp only [if_neg (fun q=>hne (ej.trans q.symm):¬ l=i)] at hz
     have:=hO1 y hy
     have:=lt l (by omega) y hz
     omega
    ·simp only [if_neg ej] at hy
     by_cases el:l=i
     ·simp only [el,if_pos] at hz
      have:=hO1 y hz
      have:=lt j (by omega) y hy
      omega
     ·simp only [if_neg el] at hz
      exact h2.sep j l (by omega) (by omega) hne y hy hz
   ·by_cases ej:j=i
    ·simp only [ej,if_pos] at hy
     have:=hO1 y hy;omega
    ·simp only [if_neg ej] at hy
     exact h2.na j (by omega) y hy
  simp only [mB,List.getElem?_cons_zero,List.getElem?_cons_succ,zQ,aHa,aH9,aR,dB,cN,bZ,aH,decide_true,Bool.not_true,dM,jT,aF,Nat.reduceAdd,Nat.zero_add,nV,dF hil,Nat.mul_one,aW7,est,bP,hwi]
  exact OkL.next ⟨(),rfl,rfl,by omega,_,_,h3⟩
 ·rintro _ vs T ⟨rfl,_,p,O,hT⟩
  have hlt:¬ (((List.range 5).length:Nat):Int)<5:=by rw [List.length_range];omega
  refine ⟨(),⟨p,O,hT⟩,fun κ K aO=>?_⟩
  simp only [aE6,bF,bM,aG,hlt,decide_false,aH]
 ·refine Ok.ret ⟨S.next,fun v=>p v.toNat,fun v=>O v.toNat,rfl,hT.wf,hT.cell,hT.al,fun y hy=>?_,fun v v0 v5=>⟨0,?_⟩,fun u v u0 u5 v0 v5 hne y hy=>?_,fun v v0 v5 y hy=>⟨hT.na v.toNat (by omega) y hy,(fun e=>by cases e),(fun e=>by cases e),(fun e=>by cases e)⟩,⟨fun c hc=>(by cases hc),.inl ⟨rfl,rfl⟩⟩,.nil,Own.nil _ _ _,Own.nil _ _ _⟩
  ·rcases hy with hy | hy | hy<;>cases hy
  ·have:=hT.cores v.toNat (by omega)
   rw [show ((v.toNat:Nat):Int)=v by omega] at this
   exact this
  ·exact hT.sep u.toNat v.toNat (by omega) (by omega) (by omega) y hy
theorem aPl (a b c d:Nat):aD prog .eql 61 (.ptr a b c d) .nilp=.ok (.bool false):=by
 have h:(fun a b c d=>aD prog .eql 61 (.ptr a b c d) .nilp)=fun _ _ _ _=>.ok (.bool false):=by kernel_rfl
 exact congrFun (congrFun (congrFun (congrFun h a) b) c) d
theorem aPm (a b c d:Nat):aK prog 61 (.ptr a b c d) .nilp=true:=by
 have h:(fun a b c d=>aK prog 61 (.ptr a b c d) .nilp)=fun _ _ _ _=>true:=by kernel_rfl
 exact congrFun (congrFun (congrFun (congrFun h a) b) c) d
structure RunI (a i:Nat) (S:St):Prop where
 ex:∃ G g p O lv sv wv rows,WF S∧GAt S a g p O lv sv wv rows∧GI G g i∧0≤g.said∧g.said≤i
theorem RunI.first {members:Int} {a:Nat} {S:St} {p:Int→Nat} {O:Int→Nat→Prop} (w:WF S) (h:GAt S a (aJp members) p O .nils .nils .nils []):RunI a 0 S:=
 ⟨_,_,_,_,_,_,_,_,w,h,aPc members,Int.le_refl _,Int.le_refl _⟩
theorem RunI.act {a i:Nat} {S:St} (h:RunI a i S) (hi:i<80000) (A:Raft.Act):Does prog bC bD 25 [.ptr a 0 0 0,.agg (nL A)] S fun u S'=>u=.bool true∧WF S'∧∃ G g p O lv sv wv rows,GAt S' a g p O lv sv wv rows∧GI G g (i+1)∧0≤g.said∧g.said≤((i+1:Nat):Int)∧∀ k,0≤k→k<5→tW g k:=by
 obtain ⟨G,g,p,O,lv,sv,wv,rows,w,hg,gi,s0,s1⟩:=h
 obtain ⟨u,S',N,⟨hu,w',p',O',lv',sv',wv',rows',hg'⟩,hrun⟩:=g25 hg w (aHo gi.fit (by omega)) ⟨s0,by omega⟩ A (aRi gi (by omega) A)
 obtain ⟨_,G',gi',hh⟩:=aPb gi A
 refine ⟨u,S',N,⟨hu,w',G',g.act A,p',O',lv',sv',wv',rows',hg',gi',?_,?_,hh⟩,hrun⟩
 ·rcases aHj g A with e | e<;>omega
 ·rcases aHj g A with e | e<;>omega
theorem aWv {S:St} {p:V} {A:Raft.Act} (h:At S p (nL A)):aL (some 3) p S=.ok (.agg (nL A)):=by rw [h.load0];exact cA _ _ rfl
end
section
variable [Guard]
def bA6 (K:KS) (ag:Ag):KS:=fun v S=>match v with
 | .tup (.bool true::x::_)=>K x S
 | .tup (.bool false::vs)=>ag vs S
 | _=>none
def aWw (K:KS):KS:=fun v S=>K (.tup [.bool true,v]) S
def aWx (K:KS):Ag:=fun vs S=>K (.tup (.bool false::vs)) S
theorem aRj {X:Type} {F:Nat→KS→Ag→Ag→An} {out:Nat→KS→X→St→An} {Q:Turn X→Prop} (hQ:∀ x S,¬ Q (.stop x S)) (h:OkL out (fun κ K aO=>F κ (aWw K) (aWx K) aO) Q):∃ vs S N,Q (.next vs S)∧∀ κ K ag aO,N≤κ→F κ K ag aO=aO vs S:=by
 obtain ⟨o,N,q,h⟩:=h
 cases o with
 | stop x S=>exact absurd q (hQ x S)
 | next vs S=>exact ⟨vs,S,N,q,fun κ K ag aO hk=>h κ (bA6 K ag) aO hk⟩
theorem ar1 {b i L:Nat} (h:i<L - b) (hL:L≤90000):b+i<L∧(b:Int)+1+(i:Int)≤(L:Int)∧wr .i64 ((b:Int)+1+(i:Int) - 1)=((b+i:Nat):Int)∧wr .i64 ((b:Int)+1+(i:Int)+1)=(b:Int)+1+((i+1:Nat):Int)∧i+1≤L - b ∧
  wr .i64 ((b:Int)+1+(i:Int) - (b:Int))=(i:Int)+1∧wr .i64 ((i:Int)+1 - 1)=(i:Int):=
 ⟨by omega,by omega,by rw [cK (by omega) (by omega)];omega,by rw [cK (by omega) (by omega)];omega,by omega,by rw [cK (by omega) (by omega)];omega,by rw [cK (by omega) (by omega)];omega⟩
theorem ar2 {b:Nat} {x:Int} (h:x=(b:Int)):x.toNat=b:=by omega
theorem ar3 {b i:Nat}:b+i - b=i:=by omega
theorem ar4 {b i:Nat} {l:Int} (h:((b+i:Nat):Int)<l):¬ l<(b:Int)+1+(i:Int):=by omega
theorem ar5 {b L:Nat}:¬ (b:Int)+1+(((List.range (L - b)).length:Nat):Int)≤(L:Int):=by rw [List.length_range];omega
theorem ar6 {t w:Int} (h:¬ t≤w):w<t:=by omega
section
variable {S:St} {a b1 b2:Nat} {g:Grp} {kn:Nat} {p:Int→Nat} {O:Int→Nat→Prop} {lv sv wv la:V} {rows:List (List V)}
theorem l6c (h:GAt S a g p O lv sv wv rows) (w:WF S) (F:Fit g 90000) (hk:kn<5) (hd:tW g (kn:Int)) (hr:(g.cs (kn:Int)).role=3) (hb:S.heap.get b1=some (.row 0 7 [bA (g.cs (kn:Int)).h la])) (vb:S.heap.get b2=some (.row 0 6 [nU (g.cs (kn:Int)).view])) (hla:Sl S 3 la ((g.cs (kn:Int)).h.log.map bN))
  {p1 p6:V} {ag0:Nat→KS→Ag} {KK:Nat→KS→KS} {X:Type} {out:Nat→KS→X→St→An} {Q:Turn X→Prop} (hQ:∀ S',WF S'→GAt S' a g p O lv sv wv rows→Q (.next [.bool false,.int .i64 ((kn:Int)+1)] S')):
  OkL out (fun κ K aO=>dQ κ [.bool false,.int .i64 ((g.cs (kn:Int)).h.base+1)] S (zU (aC prog bC bD κ) κ (KK κ K) (ag0 κ K) aO p1 (.ptr a 0 0 0) p6 (.int .i64 (kn:Int)) (.ptr b1 0 0 0) (.ptr b2 0 0 0))) Q:=by
 have ho:=F.out
 have I:=F.inv (kn:Int) (by omega) (by omega)
 have q1:=I.h.b0
 have hsl:=F.sl
 have hw7:wr .i64 ((kn:Int)+1)=(kn:Int)+1:=cK (by omega) (by omega)
 obtain ⟨b,hbb⟩:∃ b:Nat,(g.cs (kn:Int)).h.base=(b:Int):=⟨(g.cs (kn:Int)).h.base.toNat,by omega⟩
 clear q1
 have e00:(g.cs (kn:Int)).h.base+1=(b:Int)+1+((0:Nat):Int):=by rw [hbb];rfl
 rw [e00]
 clear e00
 refine OkL.loop (F:=fun κ K ag vs T aO=>zU (aC prog bC bD κ) κ (KK κ K) (ag0 κ K) ag p1 (.ptr a 0 0 0) p6 (.int .i64 (kn:Int)) (.ptr b1 0 0 0) (.ptr b2 0 0 0) vs T aO) (σ:=Unit) (ρ:=Unit) (α:=Nat) (Y:=Unit) (List.range (g.sure.length - b)) (step:=fun _ _=>.inr ()) (fin:=id) (s:=())
  (out2:=fun κ K ag _ T=>ag [.bool false,.int .i64 ((kn:Int)+1)] T)
  (fun i _ vs T=>vs=[.bool false,.int .i64 ((b:Int)+1+(i:Int))]∧i≤g.sure.length - b∧Ext S T)
  (fun _ _ T=>Ext S T) ?_ ?_ ⟨rfl,Nat.zero_le _,Ext.refl S⟩ (fun _ T xT=>OkL.next (hQ T (xT.wf w) (h.ext ho w xT)))
 ·rintro i j _ vs T ⟨rfl,hi0,xT⟩ hi
  have hil:=(List.getElem?_eq_some_iff.1 hi).1
  rw [List.length_range] at hil
  have hT:=h.ext ho w xT
  have wT:=xT.wf w
  obtain ⟨hn,hle,w1,w2,hi1,w3,w4⟩:=ar1 hil hsl
  obtain ⟨y,hy⟩:∃ y,g.sure[b+i]?=some y:=⟨_,List.getElem?_eq_getElem hn⟩
  obtain ⟨q,hq,at1,_,_⟩:=hT.rest.sv.sl.elem hy
  have l1:aL (some 3) q T=.ok (.agg (bN y)):=by rw [at1.load0];exact cA _ _ rfl
  obtain ⟨T1,T2,v1,v2,x2,g2⟩:=aRh wT 3 [.int .i64 0,.int .i64 0,.str []] (bN y) rfl rfl rfl
  have x16:Ext T2 (⟨T2.next+16,T2.heap⟩:St):=(Ext.refl T2).bump 16
  have xA:=(xT.trans x2).trans x16
  have hA:=h.ext ho w xA
  have gA:=x16.old _ _ g2
  have t1:aL none (.ptr T.next 0 0 0) (⟨T2.next+16,T2.heap⟩:St)=.ok (.int .i64 y.term):=by rw [aX _ _ _ _ _ (aU gA)];rfl
  have gs:=aB7 hT.cell
  by_cases hy0:y.term=0
  ·refine ⟨0,.inr ⟨(),_,_,rfl,⟨rfl,hi1,xA⟩,fun κ K ag aO _=>?_⟩⟩
   simp only [zU,bF,dM,mX,aF,Nat.reduceAdd,bZ,gM,gs,iR,hT.rest.sv.sl.lenI,eH,hle,decide_true,dX,cG,w1,vE,hq,vF,l1,v1,aEs,v2,gZ,dW,t1,aR,cN,bV,hy0,bP,w2]
  ·have hnw:b+i<g.whn.length:=by rw [←F.sw];exact hn
   obtain ⟨tw,htw⟩:∃ tw,g.whn[b+i]?=some tw:=⟨_,List.getElem?_eq_getElem hnw⟩
   obtain ⟨q2',hq2,at2,_,_⟩:=hA.rest.wv.sl.elem htw
   have l2:aL none q2' (⟨T2.next+16,T2.heap⟩:St)=.ok (.int .i64 tw):=by rw [at2.load0];rfl
   have gw:=aPd hA.cell
   have tm:=qE (xA.old _ _ hb)
   by_cases hge:(g.cs (kn:Int)).h.term≤tw
   ·refine ⟨0,.inr ⟨(),_,_,rfl,⟨rfl,hi1,xA⟩,fun κ K ag aO _=>?_⟩⟩
    simp only [zU,bF,dM,mX,aEp,fO,aF,Nat.reduceAdd,bZ,gM,aQq,gs,iR,hT.rest.sv.sl.lenI,eH,hle,decide_true,dX,cG,w1,vE,aLw,hq,hq2,vF,l1,l2,v1,aEs,v2,gZ,dW,t1,tm,gw,aR,cN,bV,hy0,decide_false,aH,eO,hge,bP,w2]
   ·have x17:Ext (⟨T2.next+16,T2.heap⟩:St) (⟨T2.next+16+17,T2.heap⟩:St):=(Ext.refl (⟨T2.next+16,T2.heap⟩:St)).bump 17
    have xB:=xA.trans x17
    have hyd:g.sure.getD (b+i) ⟨0,0,[]⟩=y:=iE hy
    have hwd:g.whn.getD (b+i) 0=tw:=iE htw
    have hb0:(g.cs (kn:Int)).h.base.toNat=b:=ar2 hbb
    have key:=hd hr (b+i) (by rw [hb0];exact Nat.le_add_right _ _) hn (by rw [hyd];exact hy0) (by rw [hwd];exact ar6 hge)
    rw [hyd,hb0,ar3] at key
    obtain ⟨key1,key2⟩:=key
    have hng:¬ (g.cs (kn:Int)).view.last<(b:Int)+1+(i:Int):=ar4 key1
    obtain ⟨q3',hq3,at3,_,_⟩:=(hla.ext xB).elem key2
    have l3:aL (some 3) q3' (⟨T2.next+16+17,T2.heap⟩:St)=.ok (.agg (bN y)):=by rw [at3.load0];exact cA _ _ rfl
    have l4:aL (some 3) (.ptr T.next 0 0 0) (⟨T2.next+16+17,T2.heap⟩:St)=.ok (.agg (bN y)):=by rw [aX _ _ _ _ _ (aU (x17.old _ _ gA))];exact cA _ _ rfl
    have vl:=aR8 (xB.old _ _ vb)
    have hlg:=sA (xB.old _ _ hb)
    have hbs:=gN (xB.old _ _ hb)
    rw [hbb] at hbs
    refine ⟨0,.inr ⟨(),_,_,rfl,⟨rfl,hi1,xB⟩,fun κ K ag aO _=>?_⟩⟩
    simp only [zU,bF,dM,mX,aEp,fO,eM,eR,aUc,aF,Nat.reduceAdd,bZ,gM,aQq,gs,iR,hT.rest.sv.sl.lenI,eH,hle,decide_true,dX,cG,w1,vE,aLw,hq,hq2,vF,l1,l2,v1,aEs,v2,gZ,dW,t1,tm,gw,aR,cN,bV,hy0,decide_false,aH,eO,hge,vl,dA,hng,hlg,hbs,w3,w4,hq3,l3,l4,tP,qD,Bool.not_true,bP,w2]
 ·rintro _ vs T ⟨rfl,hi0,xT⟩
  have hT:=h.ext ho w xT
  have gs:=aB7 hT.cell
  have hnle:¬ (b:Int)+1+(((List.range (g.sure.length - b)).length:Nat):Int)≤(g.sure.length:Int):=ar5
  refine ⟨0,(),T,xT,fun κ K ag aO _=>?_⟩
  simp only [zU,bF,dM,mX,aF,Nat.reduceAdd,bZ,gM,gs,iR,hT.rest.sv.sl.lenI,eH,hnle,decide_false,aH,bP,hw7]
theorem l6b (h:GAt S a g p O lv sv wv rows) (w:WF S) (F:Fit g 90000) (hk:kn<5) (hd:tW g (kn:Int)) {p1 p6:V} {ag0:Nat→KS→Ag} {KK:Nat→KS→KS} {X:Type} {out:Nat→KS→X→St→An} {Q:Turn X→Prop}
  (hQ:∀ S',WF S'→GAt S' a g p O lv sv wv rows→Q (.next [.bool false,.int .i64 ((kn:Int)+1)] S')):
  OkL out (fun κ K aO=>aCt (aC prog bC bD κ) κ (KK κ K) (ag0 κ K) p1 (.ptr a 0 0 0) p6 [.bool false,.int .i64 (kn:Int)] S aO) Q:=by
 have k0:(0:Int)≤(kn:Int):=by omega
 have k5:(kn:Int)<5:=by omega
 have I:=F.inv (kn:Int) k0 k5
 have ho:=F.out
 have q1:=I.h.b0
 have q2:=I.s0
 have q3:=I.s1
 have hlast:=F.last (kn:Int) (by omega) (by omega)
 have xb:Ext S (⟨S.next+18,S.heap⟩:St):=(Ext.refl S).bump 18
 have hb:=h.ext ho w xb
 have wb:=xb.wf w
 have gc:=kB hb hk
 have hw7:wr .i64 ((kn:Int)+1)=(kn:Int)+1:=cK (by omega) (by omega)
 have hw8:wr .i64 ((g.cs (kn:Int)).h.base+1)=(g.cs (kn:Int)).h.base+1:=cK (by omega) (by omega)
 obtain ⟨n,hc⟩:=hb.rest.cores (kn:Int) k0 k5
 simp only [aCt,bF,bM,bZ,k5,decide_true,dX,dM,jT,aF,Nat.reduceAdd,Nat.zero_add,nV,dF hk,Nat.mul_one,aBk,gc]
 refine OkL.call (Does.dead mF (letI:Guard:=⟨n⟩;g14 wb hc I.h)) fun u S7 ⟨⟨x7,la,e7,o7⟩,d7⟩=>?_
 subst e7
 have h7:=hb.ext ho wb x7
 have w7:=x7.wf wb
 have gc7:=kB h7 hk
 obtain ⟨n7,hc7⟩:=h7.rest.cores (kn:Int) k0 k5
 simp only [gc7,bZ,iB,cN]
 refine OkL.call (Does.dead mF (letI:Guard:=⟨n7⟩;g17 w7 hc7 I.h)) fun u S10 ⟨⟨e10,x10⟩,d10⟩=>?_
 subst e10
 have w10:=x10.wf w7
 obtain ⟨f1,f1'⟩:=kG w (n:=18) d7 (k:=S.next+14) (Nat.le_add_right _ _) (Nat.add_lt_add_left (by decide) _)
 obtain ⟨f2,f2'⟩:=kG w (n:=18) d7 (k:=S.next+15) (Nat.le_add_right _ _) (Nat.add_lt_add_left (by decide) _)
 obtain ⟨T1,T2,S13,S14,a1,a2,a3,a4,x14,g1,g2⟩:=aHm w10 (k1:=S.next+14) (k2:=S.next+15) ⟨d10.dead _ f1' f1,Nat.lt_of_lt_of_le f1' d10.next⟩ ⟨d10.dead _ f2' f2,Nat.lt_of_lt_of_le f2' d10.next⟩ (by omega) 7 6
  [.int .i64 0,.int .i64 0,.int .i64 0,.int .i64 0,.int .i64 0,.str [],.nils] [.int .i64 0,.int .i64 0,.int .i64 0,.int .i64 0,.int .i64 0,.int .i64 0] (bA (g.cs (kn:Int)).h la) (nU (g.cs (kn:Int)).view) rfl rfl rfl (dU _ o7.sl.one) rfl rfl
 have x7e:=x10.trans x14
 have h14:=h7.ext ho w7 x7e
 have w14:=x7e.wf w7
 have la14:Sl S14 3 la ((g.cs (kn:Int)).h.log.map bN):=o7.sl.ext x7e
 simp only [a1,a2,bZ,aIt,a3,aQr,a4,aO8,aF,Nat.reduceAdd,dW,aL1 g2,aR,cN,dB]
 refine OkL.pickN (fun e=>?_) (fun e=>?_)
 ·simp only [bP,bZ,hw7]
  exact OkL.next (hQ S14 w14 h14)
 ·simp only [eM,aF,Nat.reduceAdd,bZ,dW,gN g1,bP,hw8]
  exact l6c h14 w14 F hk hd e g1 g2 la14 hQ
end
theorem g6 (members:Int) (av:V) (qs:List Raft.Act) (S:St) (w:WF S) (hs:∀ S,Sl S 3 av (qs.map nL)):Does prog bC bD 6 [.int .i64 members,av] S fun u S'=>u=.bool true:=by
 refine e6 ?_
 simp only [m6]
 refine Does.call (g24 members S w) fun u S1 ⟨a,p,O,e1,w1,h1⟩=>?_
 subst e1
 simp only [aPm,aPl,cN,bZ,aH]
 refine Ok.loopL (F:=fun κ K=>aGp (aC prog bC bD κ) κ K av (.ptr a 0 0 0)) (ρ:=Unit) (α:=Raft.Act) (X:=Unit) (qs.take 220) (step:=fun _ _=>.inr ()) (fin:=id) (s:=())
  (out:=fun k K _ S'=>aC prog bC bD k 10 [] S' fun t S''=>K t S'')
  (fun i _ vs T=>vs=[.bool false,.int .i64 (i:Int)]∧RunI a i T)
  (fun _ _ _=>True) ?_ ?_ ⟨rfl,RunI.first w1 h1⟩ (fun _ S' _=>aOy rfl)
 ·rintro i A _ vs T ⟨rfl,hT⟩ hi
  have hil:=(List.getElem?_eq_some_iff.1 hi).1
  rw [List.length_take] at hil
  have hi220:i<220:=by omega
  have hiq:i<qs.length:=by omega
  have hi':qs[i]?=some A:=by rw [List.getElem?_take,if_pos hi220] at hi;exact hi
  have hlt:(i:Int)<(qs.length:Int):=Int.ofNat_lt.2 hiq
  have hlt2:(i:Int)<220:=Int.ofNat_lt.2 hi220
  have hwi:wr .i64 ((i:Int)+1)=((i+1:Nat):Int):=hJ hi220 (by decide)
  obtain ⟨q,hq,at1,_,_⟩:=(hs T).elem hi'
  simp only [aGp,bF,aOf,(hs T).lenI,bZ,bM,hlt,hlt2,decide_true,dX,aYz,hq,aZ1,aWv at1]
  refine OkL.call (hT.act (by omega) A) fun u T2 ⟨e2,w2,G,g,p,O,lv,sv,wv,rows,h2,gi,s0,s1,hh⟩=>?_
  subst e2
  simp only [eQ,bZ,Bool.not_true,aH]
  have F:=aHo gi.fit (by omega:i+1≤90000)
  refine OkL.loop (F:=fun κ K ag vs T aO=>aCt (aC prog bC bD κ) κ K ag av (.ptr a 0 0 0) (.int .i64 (i:Int)) vs T aO) (σ:=Unit) (ρ:=Unit) (α:=Nat) (Y:=Unit) (List.range 5) (step:=fun _ _=>.inr ()) (fin:=id) (s:=())
   (out2:=fun κ K ag _ T=>ag [.bool false,.int .i64 ((i+1:Nat):Int)] T)
   (fun j _ vs T=>vs=[.bool false,.int .i64 (j:Int)]∧j≤5∧WF T∧GAt T a g p O lv sv wv rows)
   (fun _ _ T=>WF T∧GAt T a g p O lv sv wv rows) ?_ ?_ ⟨rfl,by decide,w2,h2⟩ (fun _ T ⟨wT,gT⟩=>OkL.next ⟨(),rfl,rfl,G,g,p,O,lv,sv,wv,rows,wT,gT,gi,s0,s1⟩)
  ·rintro j _ _ vs T' ⟨rfl,hj5,wT,gT⟩ hj
   have hjl:=(List.getElem?_eq_some_iff.1 hj).1
   rw [List.length_range] at hjl
   obtain ⟨vs,S',N,⟨r1,r2,r3⟩,hrun⟩:=aRj (X:=Unit) (F:=fun κ K ag aO=>aCt (aC prog bC bD κ) κ K ag av (.ptr a 0 0 0) (.int .i64 (i:Int)) [.bool false,.int .i64 (j:Int)] T' aO) (out:=fun _ _ _ _=>none)
    (Q:=fun t=>match t with
     | .stop _ _=>False
     | .next vs S'=>vs=[.bool false,.int .i64 ((j:Int)+1)]∧WF S'∧GAt S' a g p O lv sv wv rows) (fun _ _ q=>q)
    (l6b (ag0:=fun _ K=>aWx K) (KK:=fun _ K=>aWw K) gT wT F hjl (hh (j:Int) (by omega) (by omega)) fun S' wS gS=>⟨rfl,wS,gS⟩)
   subst r1
   exact ⟨N,.inr ⟨(),_,S',rfl,⟨by rw [show ((j:Int)+1)=((j+1:Nat):Int) by omega],by omega,r2,r3⟩,fun κ K ag aO hk=>hrun κ K ag aO hk⟩⟩
  ·rintro _ vs T' ⟨rfl,hj5,wT,gT⟩
   have hnl:¬ (((List.range 5).length:Nat):Int)<5:=by rw [List.length_range];omega
   refine ⟨0,(),T',⟨wT,gT⟩,fun κ K ag aO _=>?_⟩
   simp only [aCt,bF,bM,bZ,hnl,decide_false,aH,bP,hwi]
 ·rintro _ vs S1 ⟨rfl,_⟩
  refine ⟨(),trivial,fun k K aO=>?_⟩
  have hn:(qs.take 220).length=min 220 qs.length:=List.length_take
  by_cases h1:((qs.take 220).length:Int)<(qs.length:Int)
  ·have h2:¬ ((qs.take 220).length:Int)<220:=by omega
   simp only [aGp,bF,aOf,(hs S1).lenI,aG,bM,h1,h2,decide_true,decide_false,bR,aH]
  ·simp only [aGp,bF,aOf,(hs S1).lenI,aG,bM,h1,decide_false,aH]
end
theorem c65:prog.cellsOf 65=3:=by kernel_rfl
instance:Guard:=⟨0⟩
theorem aV4 {n:Nat} {xs:List V} (h:dD prog n 65 xs):∃ q:Raft.Act,xs=nL q:=by
 obtain ⟨m,hl,hf⟩:=aM7 Try.underlying65 h
 rw [c65] at hl
 have h0:dD prog m 3 ((xs.drop 0).take (prog.cellsOf 3)):=hf 0 _ rfl
 rw [c3] at h0
 obtain ⟨x0,e0⟩:=aJh h0
 have h1:dD prog m 3 ((xs.drop 1).take (prog.cellsOf 3)):=hf 1 _ rfl
 rw [c3] at h1
 obtain ⟨x1,e1⟩:=aJh h1
 have h2:dD prog m 3 ((xs.drop 2).take (prog.cellsOf 3)):=hf 2 _ rfl
 rw [c3] at h2
 obtain ⟨x2,e2⟩:=aJh h2
 obtain ⟨y0,y1,y2,rfl⟩:=aWm hl
 cases e0
 cases e1
 cases e2
 exact ⟨⟨x0,x1,x2⟩,rfl⟩
theorem aRk {n:Nat} {xs:List V} (h:dD prog n 60 xs):∃ (l:List Raft.Act) (v:V),xs=[v]∧∀ S,Sl S 3 v (l.map nL):=by
 obtain ⟨m,h | ⟨es,h,hlen,hes⟩⟩:=aP0 Try.underlying60 h
 ·exact ⟨[],.nils,h,fun S=>Sl.nilv _ _⟩
 ·obtain ⟨l,hl⟩:=aHc (enc:=nL) fun c hc=>aV4 (hes c hc).2
  subst hl
  refine ⟨l,.imm (l.map nL),h,fun S=>⟨.inr (.inl rfl),fun c hc=>?_⟩⟩
  obtain ⟨a,ha,rfl⟩:=List.mem_map.1 hc
  exact ⟨rfl,rfl⟩
end Go.Proofs.Ytbiidlmhadihlaa
end
