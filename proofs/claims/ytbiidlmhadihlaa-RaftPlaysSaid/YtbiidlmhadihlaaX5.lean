import Derived.Test.YtbiidlmhadihlaaX4
set_option linter.unusedSimpArgs false
set_option linter.unusedVariables false
set_option linter.unusedSectionVars false
set_option maxRecDepth 100000
section
namespace Go.Proofs.Ytbiidlmhadihlaa
open Go.AM Go.Raft Try
section
variable [Guard]
theorem aOh (x y:List UInt8) (h:x.length+y.length<fU):aD prog .add 9 (.str x) (.str y)=.ok (.str (x++y)):=by
 have e:(fun x y=>aD prog .add 9 (.str x) (.str y))=fun x y=>xV .add x y:=by kernel_rfl
 rw [congrFun (congrFun e x) y]
 have h2:Nat.blt (x.length+y.length) fU=true:=by rw [Nat.blt_eq];exact h
 simp only [xV,h2];rfl
section
variable {S:St} {a b:Nat} {c:Core} {k:Came} {lv ov:V} {rows:List (List V)}
theorem aWt (m:Letter) (ev:V) {B:St} (wB:WF B) (hB:WAt B a c k lv ov rows) (x:Ext B S) (L:LetIn S (dP a lv ov) b m ev) {lv6:V} {l6:List Entry} (h6:Mn S 3 lv6 (l6.map bM)) (hb6:∀ y,bJ lv6=some y→B.next≤y) (hl:c.out.length≤999990):
  Ok (fun kk K=>oE (aE prog aW aX kk) kk K (.ptr a 0 0 0) (.ptr b 0 0 0) lv6 S) (fun u S'=>u=.tup []∧∃ O',WIn S' a (({ c with h:={ c.h with base:=m.index,baseTerm:=m.at',members:=m.members,snap:=k.s,log:=l6 },sure:=m.index,way:=none }:Core).post { Letter.zero with kind:=4,to:=m.from',yes:=true,index:=m.index }) O'∧Mv (dP a lv ov) B O' S'):=by
 have w:=x.wf wB
 have xb:Ext S (⟨S.next+36,S.heap⟩:St):=(Ext.refl S).bump 36
 have x0:=x.trans xb
 have w0:=xb.wf w
 have h0:=hB.ext wB x0
 have hb:=L.box
 have L0:=L.ext xb
 have n60:∀ y,bJ lv6=some y→¬ dP a lv ov y:=fun y hy hO=>by
  have h1:=hb6 y hy
  have h2:=qZ wB hB hO
  omega
 have l0:Mn (⟨S.next+36,S.heap⟩:St) 3 lv6 (l6.map bM):=Mn.fr h6 xb.next fun y b _=>xb.old y b
 obtain ⟨S1,q1,h1,m1,_⟩:=h0.w_base w0 m.index
 have w1:=m1.wf w0
 have L1:=L0.mv w0 m1
 obtain ⟨l1,n61⟩:=l0.mv n60 m1
 obtain ⟨S2,q2,h2',m2,_⟩:=h1.w_baseTerm w1 m.at'
 have h2:WAt S2 a { c with h:={ c.h with base:=m.index,baseTerm:=m.at' } } k lv ov rows:=h2'
 clear h2'
 have w2:=m2.wf w1
 have L2:=L1.mv w1 m2
 obtain ⟨l2,n62⟩:=l1.mv n61 m2
 obtain ⟨S3,q3,h3',m3,_⟩:=h2.w_mem w2 m.members
 have h3:WAt S3 a { c with h:={ c.h with base:=m.index,baseTerm:=m.at',members:=m.members } } k lv ov rows:=h3'
 clear h3'
 have w3:=m3.wf w2
 obtain ⟨l3,n63⟩:=l2.mv n62 m3
 have L3:=L2.mv w2 m3
 obtain ⟨S4,q4,h4',m4,_⟩:=h3.w_snap w3 k.s
 have h4:WAt S4 a { c with h:={ c.h with base:=m.index,baseTerm:=m.at',members:=m.members,snap:=k.s } } k lv ov rows:=h4'
 clear h4'
 have w4:=m4.wf w3
 have L4:=L3.mv w3 m4
 obtain ⟨l4,n64⟩:=l3.mv n63 m4
 obtain ⟨S5,q5,h5',m5,_⟩:=h4.w_logN w4 hB wB rfl l4 hb6
 have h5:WAt S5 a { c with h:={ c.h with base:=m.index,baseTerm:=m.at',members:=m.members,snap:=k.s,log:=l6 } } k lv6 ov rows:=h5'
 clear h5'
 have w5:=m5.wf w4
 have hbB:b≠a:=fun e=>L.no (.inl e)
 have g5:S5.heap.get b=some (.row 0 13 [aO m ev]):=by
  have e:=q5
  rw [dD (x:=lv6) (j:=6) (m:=1) h4.cell (by rw [l4.cells.1];rfl) (by rw [l4.cells.1];simp [aU,l4.cells.2]) (by rw [gI _ _ _ _ h4.peers];omega)] at e
  cases e
  show (S4.heap.put a _).get b=_
  rw [Tr.get_put_neB _ _ _ _ trivial hbB];exact L4.box
 obtain ⟨S6,q6,h6',m6,_⟩:=h5.w_sure w5 m.index
 have h6:WAt S6 a { c with h:={ c.h with base:=m.index,baseTerm:=m.at',members:=m.members,snap:=k.s,log:=l6 },sure:=m.index } k lv6 ov rows:=h6'
 clear h6'
 have w6:=m6.wf w5
 obtain ⟨S7,q7,h7,m7,_⟩:=h6.w_i w6 0
 have w7:=m7.wf w6
 obtain ⟨S8,q8,h8,m8,_⟩:=h7.w_t w7 0
 have w8:=m8.wf w7
 obtain ⟨S9,q9,h9,m9,_⟩:=h8.w_n w8 0
 have w9:=m9.wf w8
 obtain ⟨Sa,qa,ha',ma,_⟩:=h9.w_s w9 []
 have ha:WAt Sa a { c with h:={ c.h with base:=m.index,baseTerm:=m.at',members:=m.members,snap:=k.s,log:=l6 },sure:=m.index,way:=none } (gC none) lv6 ov rows:=ha'.reway none
 clear ha'
 have wa:=ma.wf w9
 have no6:¬ dP a lv6 ov b:=fun hO=>by
  rcases hO with hO | hO | hO
  ·exact hbB hO
  ·have e1:=(h6.log.blk hO).2
   have hb5:=hb6 b hO
   have:=L.no
   obtain ⟨_,v1,t1,_,g1⟩:=l4.blk hO
   rw [L4.box] at g1;injection g1 with g1;injection g1 with _ g1;exact absurd g1 (by decide)
  ·exact L.no (.inr (.inr hO))
 have g6:=fR w5 g5 no6 m6
 have g7:=fR w6 g6.1 g6.2 m7
 have g8:=fR w7 g7.1 g7.2 m8
 have g9:=fR w8 g8.1 g8.2 m9
 have ga:=(fR w9 g9.1 g9.2 ma).1
 have b0:=x0.next
 have b1:=Nat.le_trans b0 m1.next
 have b2:=Nat.le_trans b1 m2.next
 have b3:=Nat.le_trans b2 m3.next
 have b4:=Nat.le_trans b3 m4.next
 have b5:=Nat.le_trans b4 m5.next
 have b6:=Nat.le_trans b5 m6.next
 have b7:=Nat.le_trans b6 m7.next
 have b8:=Nat.le_trans b7 m8.next
 have b9:=Nat.le_trans b8 m9.next
 have mv:Mv (dP a lv ov) B (dP a lv6 ov) Sa:=MvB.mv wB (((((((MvB.of (Mv.of x0) (Nat.le_refl _)).trans (MvB.of m1 b0)).trans (MvB.of m2 b1)).trans (MvB.of m3 b2)).trans (MvB.of m4 b3)).trans m5).trans (((((MvB.of m6 b5).trans (MvB.of m7 b6)).trans (MvB.of m8 b7)).trans (MvB.of m9 b8)).trans (MvB.of ma b9)))
 simp only [oE,cW,cI,fE,pX,aI,dI,jP,aEw,aEx,xM,xN,dM,mX,mY,kN,cO,aG,Nat.reduceAdd,aF,cR,uE,aL,bI hb,gB hb,dW hb,(hB.ext wB x).r_s,mD,st9,sV,q1,dW L1.box,gB L1.box,bO,aJ,q2,dW L2.box,q3,q4,q5,bI g5,q6,q7,q8,q9,qa,cG ga,bI ga,jB,xP]
 exact WMeth.call (g71 _ .nils wa ⟨_,_,_,ha,rfl⟩ (Apart.nil _ _ rfl) (dN hl)) wa fun Sb Ob wb inb mb=>Ok.ret ⟨rfl,Ob,inb,mv.trans wB mb⟩
theorem aM4 (C:aT) (k:Nat) (K:KS) (p0 p3:V) (S:St):oF C k K p0 p3 (.bool false) S=oE C k K p0 p3 .nils S:=by
 unfold oF;exact aK _ _
theorem aM5 (p0 p3:V) (S:St) {R:V→St→Prop} (h:Ok (fun kk K=>oE (aE prog aW aX kk) kk K p0 p3 .nils S) R):Ok (fun kk K=>oF (aE prog aW aX kk) kk K p0 p3 (.bool false) S) R:=by
 have e:(fun kk K=>oF (aE prog aW aX kk) kk K p0 p3 (.bool false) S)=(fun kk K=>oE (aE prog aW aX kk) kk K p0 p3 .nils S):=by
  funext kk K;exact aM4 _ _ _ _ _ _
 rw [e];exact h
theorem bB0 {n:Nat} (h:n≤200):n*32≤35184372088832:=by omega
theorem bB1 {n:Nat} (h:n≤200):n<fU:=by unfold fU;omega
theorem aUy {c:Core} (ok:Hok c.h) {n:Int} (hbi:c.h.base≤n) (h2:n≤c.last):wr .i64 (n - c.h.base)=n - c.h.base∧0≤n - c.h.base∧(n - c.h.base).toNat≤c.h.log.length∧n - c.h.base≤(c.h.log.length:Int)∧(c.h.log.drop (n - c.h.base).toNat).length≤200:=by
 have hb0:=ok.b0
 have hb1:=ok.b1
 have hll:=ok.ll
 have hlast:c.last=c.h.base+c.h.log.length:=rfl
 refine ⟨cS (by omega) (by omega),by omega,by omega,by omega,by rw [List.length_drop];omega⟩
theorem aWu (m:Letter) (ev:V) {B:St} (wB:WF B) (hB:WAt B a c k lv ov rows) (x:Ext B S) (L:LetIn S (dP a lv ov) b m ev) (ok:Hok c.h) (hbi:c.h.base≤m.index) (hl:c.out.length≤999990) (q:Bool) (hq:q=decide (m.index≤c.last∧c.term m.index=m.at')):
  Ok (fun kk K=>oF (aE prog aW aX kk) kk K (.ptr a 0 0 0) (.ptr b 0 0 0) (.bool q) S) (fun u S'=>u=.tup []∧∃ O',WIn S' a ((c.taken m k.s).post { Letter.zero with kind:=4,to:=m.from',yes:=true,index:=m.index }) O'∧Mv (dP a lv ov) B O' S'):=by
 have hT:c.taken m k.s={ c with h:={ c.h with base:=m.index,baseTerm:=m.at',members:=m.members,snap:=k.s,log:=if m.index≤c.last∧c.term m.index=m.at' then c.h.log.drop (m.index - c.h.base).toNat else [] },sure:=m.index,way:=none }:=rfl
 rw [hT]
 have w:=x.wf wB
 have h:=hB.ext wB x
 by_cases hc:m.index≤c.last∧c.term m.index=m.at'
 ·rw [hq,decide_eq_true hc,if_pos hc]
  obtain ⟨hw,hA,hB1,hC,hdl⟩:=aUy ok hbi hc.1
  obtain ⟨u,r1,s1,_⟩:=oP aBl h.log.sl (lH .i64 (l:=m.index - c.h.base) hA (by rw [List.length_map];exact hC)) (by rw [List.length_map];exact hB1) (Nat.le_refl _)
  rw [List.take_length,←List.map_drop] at s1
  have xc:Ext S (⟨S.next+17,S.heap⟩:St):=(Ext.refl S).bump 17
  have hfree:(⟨S.next+17,S.heap⟩:St).heap.get (S.next+15)=none:=jE w 17 (S.next+15) (by omega)
  generalize c.h.log.drop (m.index - c.h.base).toNat=rest at s1 hdl ⊢
  obtain ⟨lv6,S4,r2,x4,o4,_⟩:=(s1.ext xc).copyAt2 (b:=32) xc (k:=S.next+15) (Nat.le_add_right _ _) (Nat.add_lt_add_left (by decide) _) hfree (by rw [List.length_map];exact bB0 hdl) (by rw [List.length_map];exact bB1 hdl)
  have x34:=xc.trans x4
  have hb:=L.box
  have e:(fun kk K=>oF (aE prog aW aX kk) kk K (.ptr a 0 0 0) (.ptr b 0 0 0) (.bool true) S)=(fun kk K=>oE (aE prog aW aX kk) kk K (.ptr a 0 0 0) (.ptr b 0 0 0) lv6 S4):=by
   funext kk K
   unfold oF
   generalize oE (aE prog aW aX kk) kk K (.ptr a 0 0 0) (.ptr b 0 0 0)=J
   simp only [bA,aI,dI,cO,dM,cI,aG,Nat.reduceAdd,aF,eC,cR,aL,h.r_log,h.r_base,bI hb,cE,hw,r1,kR]
   rw [r2,aF]
  rw [e]
  exact aWt m ev wB hB (x.trans x34) (L.ext x34) (o4.weaken (Nat.zero_le _)) (fun y hy=>Nat.le_trans x.next (jD o4 hy).1) hl
 ·rw [hq,decide_eq_false hc,if_neg hc]
  refine aM5 _ _ _ ?_
  exact aWt m ev wB hB x L (Own.nil _ _ _) (fun y hy=>by cases hy) hl
theorem aWv (m:Letter) (ev:V) (w:WF S) (h:WAt S a c k lv ov rows) (hk:k=gC c.way) (L:LetIn S (dP a lv ov) b m ev) (ok:Hok c.h) (hbi:c.h.base≤m.index) (hl:c.out.length≤999990):
  Ok (fun kk K=>aEj (aE prog aW aX kk) kk K (.ptr a 0 0 0) (.ptr b 0 0 0) S) (fun u S'=>u=.tup []∧∃ O',WIn S' a (if (k.s.length:Int)<k.n then c.post { Letter.zero with kind:=6,to:=m.from',index:=m.index,off:=k.s.length } else (c.taken m k.s).post { Letter.zero with kind:=4,to:=m.from',yes:=true,index:=m.index }) O'∧Mv (dP a lv ov) S O' S'):=by
 have hin:WIn S a c (dP a lv ov):=⟨lv,ov,rows,by rw [←hk];exact h,rfl⟩
 have hb:=L.box
 simp only [aEj,aI,xN,xM,cW,cI,aG,Nat.reduceAdd,aF,uE,cR,aL,h.r_s,h.r_n,aW7,aZ,cG hb,bI hb,jB,aKj]
 refine Ok.pickP (fun e=>?_) (fun e=>?_)
 ·rw [if_pos e]
  have xb:Ext S (⟨S.next+10+12,S.heap⟩:St):=(Ext.refl S).bump (10+12)
  exact WMeth.call (g71 _ .nils (xb.wf w) (hin.ext w xb) (Apart.nil _ _ rfl) (dN hl)) (xb.wf w) fun S1 O1 w1 in1 m1=>Ok.ret ⟨rfl,O1,in1,(Mv.of xb).trans w m1⟩
 ·rw [if_neg e]
  have xb:Ext S (⟨S.next+10+14,S.heap⟩:St):=(Ext.refl S).bump (10+14)
  refine (g43 (hin.ext w xb) ok).call fun S1 x1=>?_
  have x01:=xb.trans x1
  have w1:=x01.wf w
  have L1:=L.ext x01
  simp only [bI L1.box,aF,bO,aJ,dH]
  refine Ok.pickP (fun e2=>?_) (fun e2=>aWu m ev w h x01 L1 ok hbi hl false (decide_eq_false (fun q=>e2 q.1)).symm)
  simp only [cI,fE,aG,Nat.reduceAdd,aF,cR,bI L1.box,gB L1.box]
  refine (g72 (hin.ext w x01) ok (n:=m.index) hbi e2).call fun S2 x2=>?_
  have x02:=x01.trans x2
  have L2:=L1.ext x2
  simp only [gB L2.box,aF,bO,aJ,aS,bR]
  refine aWu m ev w h x02 L2 ok hbi hl _ ?_
  by_cases hc:c.term m.index=m.at'
  ·rw [decide_eq_true hc,decide_eq_true (show m.index≤c.last∧c.term m.index=m.at' from ⟨e2,hc⟩)]
  ·rw [decide_eq_false hc,decide_eq_false (fun q=>hc q.2)]
theorem bB2 (m:Letter) (ev:V) (w:WF S) (h:WAt S a c k lv ov rows) (hk:k=gC c.way) (hw1:∀ i,c.way=some i→i.data.length≤100000) (hi1:1≤m.index) (hd2:m.data.length≤600) (L:LetIn S (dP a lv ov) b m ev) (ok:Hok c.h) (hbi:c.h.base≤m.index) (hl:c.out.length≤999990) (q:Bool) (hq:q=decide (k.i≠m.index∨k.t≠m.at'∨k.n≠m.size)):
  Ok (fun kk K=>pW (aE prog aW aX kk) kk K (.ptr a 0 0 0) (.ptr b 0 0 0) (.bool q) S) (fun u S'=>u=.tup []∧∃ O',WIn S' a (qF c m) O'∧Mv (dP a lv ov) S O' S'):=by
 have hin:WIn S a c (dP a lv ov):=⟨lv,ov,rows,by rw [←hk];exact h,rfl⟩
 have hb:=L.box
 have no:q=true→Ok (fun kk K=>pW (aE prog aW aX kk) kk K (.ptr a 0 0 0) (.ptr b 0 0 0) (.bool q) S) (fun u S'=>u=.tup []∧∃ O',WIn S' a (c.post { Letter.zero with kind:=6,to:=m.from',index:=m.index }) O'∧Mv (dP a lv ov) S O' S'):=fun e=>by
  rw [e]
  simp only [pW,bA,cW,cI,aG,Nat.reduceAdd,aF,cR,cG hb,bI hb,jB,qE]
  exact WMeth.call (g71 _ .nils w hin (Apart.nil _ _ rfl) (dN hl)) w fun S1 O1 w1 in1 m1=>Ok.ret ⟨rfl,O1,in1,m1⟩
 unfold qF
 cases hi:c.way with
 | none=>
  refine no (hq.trans (decide_eq_true (.inl (fun e=>?_))))
  have e2:k.i=0:=by rw [hk,hi];rfl
  omega
 | some i=>
  have hk2:k=⟨i.index,i.at',i.size,i.data⟩:=by rw [hk,hi];rfl
  subst hk2
  simp only at hq ⊢
  by_cases hc:i.index≠m.index∨i.at'≠m.at'∨i.size≠m.size
  ·rw [if_pos hc];exact no (by rw [hq,decide_eq_true hc])
  ·rw [if_neg hc,hq,decide_eq_false hc]
   have hsz:=hw1 i hi
   have hadd:=aOh i.data m.data (by unfold fU;omega)
   simp only [pW,aK,aI,xN,iK,kY,aG,Nat.reduceAdd,aF,cR,uE,aL,gL hb,hM hb,h.r_s,aW7,aS,aJ,bR,hadd,st9]
   refine Ok.pickP (fun e=>?_) (fun e=>?_)
   ·rw [if_pos e]
    have xb:Ext S (⟨S.next+8+11,S.heap⟩:St):=(Ext.refl S).bump (8+11)
    have wb:=xb.wf w
    obtain ⟨S2,r2,h2',m2,_⟩:=(h.ext w xb).w_s wb (i.data++m.data)
    have h2:WAt S2 a { c with way:=some { i with data:=i.data++m.data } } ⟨i.index,i.at',i.size,i.data++m.data⟩ lv ov rows:=h2'.reway _
    clear h2'
    have mv:=(Mv.of (O:=dP a lv ov) xb).trans w m2
    simp only [r2,aF]
    exact (aWv m ev (mv.wf w) h2 rfl (L.mv w mv) ok hbi hl).mono fun u S3 ⟨e3,O3,i3,m3⟩=>⟨e3,O3,i3,mv.trans w m3⟩
   ·rw [if_neg e]
    have xb:Ext S (⟨S.next+8,S.heap⟩:St):=(Ext.refl S).bump 8
    have hcc:({ c with way:=some i }:Core)=c:=by rw [←hi]
    rw [hcc]
    exact (aWv m ev (xb.wf w) (h.ext w xb) hk (L.ext xb) ok hbi hl).mono fun u S3 ⟨e3,O3,i3,m3⟩=>⟨e3,O3,i3,(Mv.of xb).trans w m3⟩
theorem aWw (m:Letter) (ev:V) {O:Nat→Prop} (w:WF S) (h:WIn S a c O) (hw1:∀ i,c.way=some i→i.data.length≤100000) (hi1:1≤m.index) (hd2:m.data.length≤600) (L:LetIn S O b m ev) (ok:Hok c.h) (hbi:c.h.base≤m.index) (hl:c.out.length≤999990):
  Ok (fun kk K=>aEk (aE prog aW aX kk) kk K (.ptr a 0 0 0) (.ptr b 0 0 0) S) (fun u S'=>u=.tup []∧∃ O',WIn S' a (qF c m) O'∧Mv O S O' S'):=by
 obtain ⟨lv,ov,rows,h,rfl⟩:=h
 have xb:Ext S (⟨S.next+25,S.heap⟩:St):=(Ext.refl S).bump 25
 have wb:=xb.wf w
 have h2:=h.ext w xb
 have Lb:=L.ext xb
 have hb:=L.box
 generalize hk:gC c.way=k at h h2
 have go:∀ q:Bool,(q=decide (k.i≠m.index∨k.t≠m.at'∨k.n≠m.size))→Ok (fun kk K=>pW (aE prog aW aX kk) kk K (.ptr a 0 0 0) (.ptr b 0 0 0) (.bool q) (⟨S.next+25,S.heap⟩:St)) (fun u S'=>u=.tup []∧∃ O',WIn S' a (qF c m) O'∧Mv (dP a lv ov) S O' S'):=fun q hq=>
  (bB2 m ev wb h2 hk.symm hw1 hi1 hd2 Lb ok hbi hl q hq).mono fun u S1 ⟨e,O1,i1,m1⟩=>⟨e,O1,i1,(Mv.of xb).trans w m1⟩
 simp only [aEk,aI,aEw,aEx,xM,cI,fE,mZ,aG,Nat.reduceAdd,aF,cR,aL,h.r_i,h.r_t,h.r_n,bI hb,gB hb,fH hb,aS,aJ,cJ]
 refine Ok.pickN (fun e=>go true (decide_eq_true (Or.inl e)).symm) (fun e=>?_)
 refine Ok.pickN (fun e2=>go true (decide_eq_true (Or.inr (Or.inl e2))).symm) (fun e2=>?_)
 refine go _ ?_
 by_cases e3:k.n=m.size
 ·rw [decide_eq_true e3,decide_eq_false (fun q=>by
   rcases q with q | q | q
   ·exact q e
   ·exact q e2
   ·exact q e3)];rfl
 ·rw [decide_eq_false e3];exact (decide_eq_true (Or.inr (Or.inr e3))).symm
theorem g78 (m:Letter) (ev:V) {O:Nat→Prop} (w:WF S) (h:WIn S a c O) (I:Inv c) (ok:Lok m) (hk:m.kind=5) (he:Apart S O m ev) (hl:c.out.length≤999990):WMeth 78 [.ptr a 0 0 0,.agg (aO m ev)] a (c.installed m) S O (.tup []):=by
 have ho:=cB m he.1.one
 have hln:(aO m ev).length=13:=rfl
 have k5:=ok.k5 hk
 obtain ⟨S1,hn1,x1,hg1,hnx1⟩:=nb w 13 (aO m ev)
 have w1:=x1.wf w
 have in1:=h.ext w x1
 have hin1:=in1
 have hno:¬ O S.next:=fun hO=>absurd (aAz w h _ hO) (Nat.lt_irrefl _)
 have L1:LetIn S1 O S.next m ev:=⟨hg1,hno,he.1.ext x1,he.2⟩
 obtain ⟨lv,ov,rows,h1,hO⟩:=in1
 refine e78 ?_
 simp only [m78,bH,ho,hln,aJ,hn1,aF,aI,gQ,cW,aG,Nat.reduceAdd,cR,h1.r_role,cG hg1,aS,bR]
 have hI:c.installed m=if c.role=3 then c else
  let c1:=c.hear m.from'
  if m.index≤c1.sure then c1.post { Letter.zero with kind:=4,to:=m.from',yes:=true,index:=m.index } else
   qF (if m.off=0 then { c1 with way:=some ⟨m.index,m.at',m.size,[]⟩ } else c1) m:=rfl
 rw [hI]
 refine Ok.pickP (fun e=>Ok.ret ⟨rfl,O,by rw [if_pos e];exact hin1,Mv.of x1⟩) (fun e=>?_)
 rw [if_neg e]
 refine WMeth.call (aWr m.from' w1 hin1) w1 fun S3 O3 w3 in3 m3=>?_
 have L3:=L1.mv w1 m3
 have mv3:=(Mv.of (O:=O) x1).trans w m3
 have I3:=(I.hear ok.f0 ok.f1).1
 generalize hc3:c.hear m.from'=c3 at in3 I3
 have hl3:c3.out.length≤999990:=by rw [←hc3];exact hl
 have hin3:=in3
 obtain ⟨lv,ov,rows,h3,hO3⟩:=in3
 have xb:Ext S3 (⟨S3.next+7,S3.heap⟩:St):=(Ext.refl S3).bump 7
 have wb:=xb.wf w3
 have Lb:=L3.ext xb
 simp only [cW,cI,fE,iK,mZ,aI,jP,aEw,aEx,xM,xN,aG,Nat.reduceAdd,aF,cR,aL,bI L3.box,cG L3.box,gL L3.box,gB L3.box,fH L3.box,h3.r_sure,dH,aS,aJ,bR,jB,xP,mD,st9]
 refine Ok.pickP (fun e2=>?_) (fun e2=>?_)
 ·simp only [e2,if_true]
  exact WMeth.call (g71 _ .nils wb (hin3.ext w3 xb) (Apart.nil _ _ rfl) (dN hl3)) wb fun S4 O4 w4 in4 m4=>Ok.ret ⟨rfl,O4,in4,(mv3.trans w (Mv.of xb)).trans w m4⟩
 ·have hs0:0≤c3.sure:=Int.le_trans I3.h.b0 I3.s0
  have hi1:1≤m.index:=Int.lt_of_le_of_lt hs0 (Int.not_le.1 e2)
  have hbi:c3.h.base≤m.index:=Int.le_of_lt (Int.lt_of_le_of_lt I3.s0 (Int.not_le.1 e2))
  simp only [e2,if_false]
  refine Ok.pickP (fun e3=>?_) (fun e3=>?_)
  ·have xc:Ext S3 (⟨S3.next+7+22,S3.heap⟩:St):=(Ext.refl S3).bump (7+22)
   have wc:=xc.wf w3
   have Lc:=L3.ext xc
   have h4:=h3.ext w3 xc
   obtain ⟨S5,q5,h5,m5,_⟩:=h4.w_i wc m.index
   have w5:=m5.wf wc
   rw [hO3] at Lc
   have L5:=Lc.mv wc m5
   obtain ⟨S6,q6,h6,m6,_⟩:=h5.w_t w5 m.at'
   have w6:=m6.wf w5
   have L6:=L5.mv w5 m6
   obtain ⟨S7,q7,h7,m7,_⟩:=h6.w_n w6 m.size
   have w7:=m7.wf w6
   have L7:=L6.mv w6 m7
   obtain ⟨S8,q8,h8',m8,_⟩:=h7.w_s w7 []
   have h8:WAt S8 a { c3 with way:=some ⟨m.index,m.at',m.size,[]⟩ } (gC (some ⟨m.index,m.at',m.size,[]⟩)) lv ov rows:=h8'.reway _
   clear h8'
   have w8:=m8.wf w7
   have L8:=L7.mv w7 m8
   have mv8:=((((Mv.of (O:=dP a lv ov) xc).trans w3 m5).trans w3 m6).trans w3 m7).trans w3 m8
   simp only [q5,q6,q7,q8,fH L5.box,gB L5.box,fH L6.box,aF,bO,aJ,e3,if_true]
   rw [←hO3] at mv8 L8
   exact (aWw m ev w8 ⟨lv,ov,rows,h8,hO3⟩ (fun i hi=>by cases hi;exact Nat.zero_le _) hi1 k5.2.2.2.2.2.2.2.2.2.1 L8 I3.h hbi hl3).mono fun u S9 ⟨e9,O9,i9,m9⟩=>⟨e9,O9,i9,(mv3.trans w mv8).trans w m9⟩
  ·simp only [e3,if_false]
   exact (aWw m ev wb (hin3.ext w3 xb) (fun i hi=>by
    have h9:=I3.w i hi
    exact Int.ofNat_le.1 (Int.le_trans h9.2.2 (Int.le_trans h9.2.1 (by decide)))) hi1 k5.2.2.2.2.2.2.2.2.2.1 Lb I3.h hbi hl3).mono fun u S7 ⟨e7,O7,i7,m7⟩=>⟨e7,O7,i7,(mv3.trans w (Mv.of xb)).trans w m7⟩
end
end
section
variable [Guard]
theorem aQd {n:Nat} (h:n≤120):wr .i64 (120 - (n:Int))=120 - (n:Int)∧wr .i64 (1099511627776 - (n:Int))=1099511627776 - (n:Int):=⟨cS (by omega) (by omega),cS (by omega) (by omega)⟩
theorem aQe {n l:Int} (h:120 - n<l):120 - l<n:=by omega
theorem aQf {n l:Int} (h:¬ 120 - n<l):¬ 120 - l<n:=by omega
theorem aQg {n l:Int} (h:1099511627776 - n<l):1099511627776 - l<n:=by omega
theorem aQh {n l:Int} (h:¬ 1099511627776 - n<l):¬ 1099511627776 - l<n:=by omega
section
variable {S:St} {a b:Nat} {c:Core} {O:Nat→Prop}
theorem bB3 (data:List (List UInt8)) (dv:V) (x4 x5 p8:V) (w:WF S) (h:WIn S a c O) (hs:Sl S 1 dv (data.map aAj)) (ho:∀ y,bJ dv=some y→¬ O y) (hd:data.length≤200) (hll:c.h.log.length≤200) {Q:V→St→Prop}
  (hout:∀ S' O',WF S'→WIn S' a { c with h:={ c.h with log:=c.h.log++data.map fun d=>⟨c.h.term,0,d⟩ } } O'→Mv O S O' S'→Ok (fun k K=>aE prog aW aX k 80 [.ptr a 0 0 0] S' fun t S''=>K (.tup [p8,.bool true]) S'') Q):
  Ok (fun k K=>cQ k [.int .i64 0] S (zP (aE prog aW aX k) k K (.ptr a 0 0 0) dv x4 x5 p8)) Q:=by
 refine Ok.loopL (F:=fun k K=>zP (aE prog aW aX k) k K (.ptr a 0 0 0) dv x4 x5 p8) (ρ:=List Entry) (α:=List UInt8) (X:=Unit) data (step:=fun l d=>.inr (l++[⟨c.h.term,0,d⟩])) (fin:=id) (s:=c.h.log)
  (out:=fun k K _ S'=>aE prog aW aX k 80 [.ptr a 0 0 0] S' fun t S''=>K (.tup [p8,.bool true]) S'')
  (fun i l vs S'=>vs=[.int .i64 (i:Int)]∧l.length≤200+i∧WF S'∧∃ O',WIn S' a { c with h:={ c.h with log:=l } } O'∧Mv O S O' S'∧Sl S' 1 dv (data.map aAj)∧∀ y,bJ dv=some y→¬ O' y)
  (fun l _ S'=>WF S'∧∃ O',WIn S' a { c with h:={ c.h with log:=l } } O'∧Mv O S O' S') ?_ ?_ ⟨rfl,hll,w,O,h,Mv.refl O S,hs,ho⟩ (fun _ S' ⟨w',O',in',m'⟩=>?_)
 ·rintro i d l vs S1 ⟨rfl,hl,w1,O1,in1,m1,s1,f1⟩ hi
  have hil:=(List.getElem?_eq_some_iff.1 hi).1
  have hlt:(i:Int)<(data.length:Int):=Int.ofNat_lt.2 hil
  have hw:=cP hil (Nat.le_trans hd (by decide))
  obtain ⟨p,hp,hat,_,_⟩:=s1.elem hi
  have hat0:aR none p S1=.ok (.str d):=by rw [hat.load0];rfl
  obtain ⟨lv,ov,rows,h1,hO⟩:=in1
  obtain ⟨S2,lv',S3,S4,q2,q3,q4,h4,m4⟩:=aOg h1 w1 ⟨c.h.term,0,d⟩ [.int .i64 0,.int .i64 0,.str []] 22 16 17 (by decide) (by decide) (by decide) (Nat.le_trans hl (by omega))
  rw [←hO] at m4
  simp only [zP,aY,kS,s1.lenI,aZ,aF,hlt,decide_true,bA,aLq,hp,uE,hat0,aI,dI,cO,eO,aG,Nat.reduceAdd,eC,cR,aL,h1.r_log,h1.r_term,aLp,uH,aA0,q2,kR,q3,sV,q4,bK,hw]
  obtain ⟨s4,f4⟩:=vY w1 s1 f1 m4
  exact OkL.next ⟨l++[⟨c.h.term,0,d⟩],rfl,rfl,by rw [List.length_append,List.length_singleton];exact Nat.add_le_add_right hl 1,m4.wf w1,_,⟨_,_,_,h4,rfl⟩,m1.trans w m4,s4,f4⟩
 ·rintro l vs S1 ⟨rfl,hl,w1,O1,in1,m1,s1,f1⟩
  have hlt:¬ (data.length:Int)<(data.length:Int):=Int.lt_irrefl _
  refine ⟨(),⟨w1,O1,in1,m1⟩,fun k K bD=>?_⟩
  simp only [zP,aY,kS,s1.lenI,aZ,aF,hlt,decide_false,aK]
 ·rw [jK,lB] at in'
  exact hout S' O' w' in' m'
theorem g39 (data:List (List UInt8)) (dv:V) (w:WF S) (h:WIn S a c O) (I:Inv c) (hs:Sl S 1 dv (data.map aAj)) (ho:∀ y,bJ dv=some y→¬ O y) (hl:c.out.length≤999990):
  WMeth 39 [.ptr a 0 0 0,dv] a (c.propose data).1 S O (.tup [.int .i64 (c.propose data).2.1,.bool (c.propose data).2.2]):=by
 have ok:=I.h
 have hr:=cZ ok
 have hb0:=ok.b0
 have hll:=ok.ll
 have hin:=h
 obtain ⟨lv,ov,rows,h,hO⟩:=h
 have hw3:wr .i64 (c.last+1)=c.last+1:=cS (by omega) (by omega)
 have no:(c.role≠3∨data.length=0∨(120:Int) - c.h.log.length<data.length∨(1099511627776:Int) - c.last<data.length)→c.propose data=(c,0,false):=fun hq=>by unfold Core.propose;rw [if_pos hq]
 have noS:∀ S',Ext S S'→c.propose data=(c,0,false)→Ok (fun k K=>K (.tup [.int .i64 0,.bool false]) S') (fun u S'=>u=.tup [.int .i64 (c.propose data).2.1,.bool (c.propose data).2.2]∧∃ O',WIn S' a (c.propose data).1 O'∧Mv O S O' S'):=fun S' x e=>by
  rw [e];exact Ok.ret ⟨rfl,O,hin.ext w x,Mv.of x⟩
 refine e39 ?_
 simp only [m39,aI,gQ,aG,Nat.reduceAdd,aF,cR,h.r_role,kS,hs.lenI,aS,aJ,cJ,bR,bX]
 refine Ok.pickN (fun e=>noS S (Ext.refl S) (no (.inl e))) (fun e=>?_)
 refine Ok.pickP (fun e2=>noS S (Ext.refl S) (no (.inr (.inl (by omega))))) (fun e2=>?_)
 refine Ok.pickP (fun e2b=>noS S (Ext.refl S) (no (.inr (.inr (.inl (by omega)))))) (fun e2b=>?_)
 obtain ⟨hw1,hw2⟩:=aQd (n:=data.length) (by omega)
 simp only [aI,dI,cO,aG,Nat.reduceAdd,aF,eC,h.r_log,eA,h.log.sl.lenI,kS,hs.lenI,cE,hw1,bX]
 refine Ok.pickP (fun e3=>noS S (Ext.refl S) (no (.inr (.inr (.inl (aQe e3)))))) (fun e3b=>?_)
 have e3:=aQf e3b
 refine (g43 hin ok).call fun S1 x1=>?_
 simp only [cE,hw2,aF,bX,kS,(hs.ext x1).lenI]
 refine Ok.pickP (fun e4=>noS S1 x1 (no (.inr (.inr (.inr (aQg e4)))))) (fun e4b=>?_)
 have e4:=aQh e4b
 have hd:data.length≤200:=by omega
 have hn:¬ (c.role≠3∨data.length=0∨(120:Int) - c.h.log.length<data.length∨(1099511627776:Int) - c.last<data.length):=fun q=>by
  rcases q with q | q | q | q
  ·exact q e
  ·exact e2 (by rw [q];rfl)
  ·exact e3 q
  ·exact e4 q
 have w1:=x1.wf w
 refine Ok.loopL (F:=fun k K=>vH (aE prog aW aX k) k K (.ptr a 0 0 0) dv) (ρ:=Bool) (α:=List UInt8) (X:=Bool) data (step:=kH) (fin:=fun _=>false) (s:=())
  (out:=fun k K x S'=>if x=true then K (.tup [.int .i64 0,.bool false]) S' else vH (aE prog aW aX k) k K (.ptr a 0 0 0) dv [.int .i64 0,.bool false,.int .i64 data.length] S' (fun _ _=>none))
  (fun i _ vs S'=>vs=[.int .i64 0,.bool false,.int .i64 (i:Int)]∧S'=S1)
  (fun r x S'=>r=x∧S'=S1) ?_ ?_ ⟨rfl,rfl⟩ (fun x S' ⟨ex,e5⟩=>?_)
 ·rintro i d _ vs S2 ⟨rfl,rfl⟩ hi
  have hil:=(List.getElem?_eq_some_iff.1 hi).1
  have hlt:(i:Int)<(data.length:Int):=Int.ofNat_lt.2 hil
  have hw:=cP hil (Nat.le_trans hd (by decide))
  obtain ⟨p,hp,hat,_,_⟩:=(hs.ext x1).elem hi
  have hat0:aR none p S2=.ok (.str d):=by rw [hat.load0];rfl
  simp only [vH,aY,kS,(hs.ext x1).lenI,aZ,aF,hlt,decide_true,bA,aLq,hp,uE,hat0,kG,bX,bK,hw]
  refine OkL.pickP (fun e6=>OkL.stop true ⟨true,by unfold kH;rw [if_pos (by omega)],rfl,rfl⟩ (by intros;rfl)) (fun e6=>OkL.next ⟨(),by unfold kH;rw [if_neg (by omega)],rfl,rfl⟩)
 ·rintro _ vs S2 ⟨rfl,rfl⟩
  have hlt:¬ (data.length:Int)<(data.length:Int):=Int.lt_irrefl _
  refine ⟨false,⟨rfl,rfl⟩,fun k K bD=>?_⟩
  simp only [vH,aY,kS,(hs.ext x1).lenI,aZ,aF,hlt,decide_false,aK,if_neg (by decide:¬ false=true)]
 ·subst e5
  rw [aO2] at ex
  have hP:c.propose data=if data.any (fun d=>decide (1100<d.length))=true then (c,0,false) else
  (({ c with h:={ c.h with log:=c.h.log++data.map fun d=>⟨c.h.term,0,d⟩ } }:Core).own,c.last+1,true):=by unfold Core.propose;rw [if_neg hn]
  cases x with
  | true=>
   simp only [if_true]
   exact noS S' x1 (by rw [hP,if_pos ex])
  | false=>
   rw [hP,if_neg (by rw [ex];decide)]
   have hlt:¬ (data.length:Int)<(data.length:Int):=Int.lt_irrefl _
   simp only [vH,aY,kS,(hs.ext x1).lenI,aZ,aF,hlt,decide_false,aK,if_neg (by decide:¬ false=true)]
   refine (g43 (hin.ext w x1) ok).call fun S2 x2=>?_
   have x02:=x1.trans x2
   have w2:=x02.wf w
   simp only [bK,hw3,aF,kS,(hs.ext x02).lenI]
   refine bB3 data dv _ _ _ w2 (hin.ext w x02) (hs.ext x02) ho hd hll fun S3 O3 w3 in3 m3=>?_
   have okp:=(Inv.pushes I (r:=data.map fun d=>⟨c.h.term,0,d⟩) (fun x hx=>by
    obtain ⟨d,hd',rfl⟩:=List.mem_map.1 hx
    have hlen:d.length≤1100:=by
     by_cases hq:d.length≤1100
     ·exact hq
     ·have:data.any (fun d=>decide (1100<d.length))=true:=List.any_eq_true.2 ⟨d,hd',decide_eq_true (by omega)⟩
      rw [this] at ex;cases ex
    exact ⟨⟨I.tm (by rw [e];decide),Int.le_refl _,Int.le_refl _,by show (0:Int)≤127;decide,hlen,.inl rfl⟩,rfl⟩) (by rw [List.length_map];omega) (by rw [List.length_map];omega)).1
   refine WMeth.call (g80 w3 in3 okp.h I.i0 I.i1 okp.s0 okp.s1 hl okp.pr) w3 fun S4 O4 w4 in4 m4=>Ok.ret ⟨rfl,O4,in4,((Mv.of x02).trans w m3).trans w m4⟩
end
end
section
variable [Guard]
section
variable {S:St} {a b:Nat} {c:Core} {O:Nat→Prop}
theorem g40 (members:Int) (w:WF S) (h:WIn S a c O) (I:Inv c) (hl:c.out.length≤999990):
  WMeth 40 [.ptr a 0 0 0,.int .i64 members] a (c.change members).1 S O (.tup [.int .i64 (c.change members).2.1,.bool (c.change members).2.2]):=by
 have ok:=I.h
 have hr:=cZ ok
 have hb0:=ok.b0
 have hll:=ok.ll
 have hmr:=eN ok
 have hin:=h
 obtain ⟨lv,ov,rows,h,hO⟩:=h
 have no:(c.role≠3∨mF (eP c.h).1 members=false∨c.sure<(eP c.h).2∨c.term c.sure≠c.h.term∨120≤c.h.log.length∨1099511627776≤c.last)→c.change members=(c,0,false):=fun hq=>by unfold Core.change;simp only;rw [if_pos hq]
 have noS:∀ S',Ext S S'→c.change members=(c,0,false)→Ok (fun k K=>K (.tup [.int .i64 0,.bool false]) S') (fun u S'=>u=.tup [.int .i64 (c.change members).2.1,.bool (c.change members).2.2]∧∃ O',WIn S' a (c.change members).1 O'∧Mv O S O' S'):=fun S' x e=>by
  rw [e];exact Ok.ret ⟨rfl,O,hin.ext w x,Mv.of x⟩
 refine e40 ?_
 simp only [m40,aI,dI,aG,Nat.reduceAdd,aF,mE,h.r_hard]
 refine (g42 c.h lv S w h.log.sl (by omega) ok.b0 ok.b1).call fun S1 x1=>?_
 have w1:=x1.wf w
 have h1:=h.ext w x1
 have xb:Ext S1 (⟨S1.next+47,S1.heap⟩:St):=(Ext.refl S1).bump 47
 have x1b:=x1.trans xb
 simp only [eH,List.getElem?_cons_zero,List.getElem?_cons_succ,iP,aI,gQ,aG,Nat.reduceAdd,aF,cR,aL,h1.r_role,aS,aJ,cJ]
 refine Ok.pickN (fun e=>noS _ x1b (no (.inl e))) (fun e=>?_)
 refine (g81 _ members _).call fun S2 x2=>?_
 have x02:=x1b.trans x2
 have w2:=x02.wf w
 have h2:=h.ext w x02
 simp only [dS,aF]
 refine Ok.pick (fun e2=>noS S2 x02 (no (.inr (.inl (by simpa using e2))))) (fun e2=>?_)
 have hmay:mF (eP c.h).1 members=true:=by simpa using e2
 simp only [aI,jP,dI,eO,aG,Nat.reduceAdd,aF,cR,h2.r_sure,h2.r_term,bX]
 refine Ok.pickP (fun e3=>noS S2 x02 (no (.inr (.inr (.inl e3))))) (fun e3=>?_)
 refine (g72 (hin.ext w x02) ok (n:=c.sure) I.s0 I.s1).call fun S3 x3=>?_
 have x03:=x02.trans x3
 have h3:=h.ext w x03
 simp only [h3.r_term,aF,bO,aJ,aS,cJ]
 refine Ok.pickN (fun e4=>noS S3 x03 (no (.inr (.inr (.inr (.inl e4)))))) (fun e4=>?_)
 simp only [aI,dI,cO,aG,Nat.reduceAdd,aF,eC,h3.r_log,eA,h3.log.sl.lenI,dA]
 refine Ok.pickP (fun e5=>noS S3 x03 (no (.inr (.inr (.inr (.inr (.inl (by omega)))))))) (fun e5=>?_)
 refine (g43 (hin.ext w x03) ok).call fun S4 x4=>?_
 have x04:=x03.trans x4
 have w4:=x04.wf w
 have h4:=h.ext w x04
 simp only [dA,aF]
 refine Ok.pickP (fun e6=>noS S4 x04 (no (.inr (.inr (.inr (.inr (.inr e6))))))) (fun e6=>?_)
 have hn:¬ (c.role≠3∨mF (eP c.h).1 members=false∨c.sure<(eP c.h).2∨c.term c.sure≠c.h.term∨120≤c.h.log.length∨1099511627776≤c.last):=fun q=>by
  rcases q with q | q | q | q | q | q
  ·exact q e
  ·rw [q] at hmay;cases hmay
  ·exact e3 q
  ·exact q e4
  ·exact e5 (Int.ofNat_le.2 q)
  ·exact e6 q
 have h120:¬ 120≤c.h.log.length:=fun q=>e5 (Int.ofNat_le.2 q)
 obtain ⟨I1,I2⟩:=aAk I e hmay h120 e6
 obtain ⟨S5,lv',S6,S7,q5,q6,q7,h7,m7⟩:=aOg h4 w4 ⟨c.h.term,members,[]⟩ [.int .i64 0,.int .i64 0,.str []] 19 13 14 (by decide) (by decide) (by decide) (Nat.le_trans hll (by decide))
 rw [←hO] at m7
 have w7:=m7.wf w4
 have mv7:=(Mv.of (O:=O) x04).trans w m7
 simp only [aI,dI,cO,eO,aG,Nat.reduceAdd,aF,eC,cR,aL,h4.r_log,h4.r_term,aLp,uI,aA0,q5,kR,q6,sV,q7]
 have hlast:({ c with h:={ c.h with log:=c.h.log++[⟨c.h.term,members,[]⟩] } }:Core).last=c.last+1:=by unfold Core.last cF;simp;omega
 have hC:c.change members=(({ c with h:={ c.h with log:=c.h.log++[⟨c.h.term,members,[]⟩] },peers:=(List.range 7).zipWith (fun (k:Nat) p=>if (k:Int)≠c.id∧cN members (k:Int)=true∧cN (eP c.h).1 (k:Int)=false then ⟨c.last+1,0,0⟩ else p) c.peers }:Core).own,c.last+1,true):=by
  unfold Core.change;simp only;rw [if_neg hn,hlast]
 rw [hC]
 have hmm:=hmay
 simp only [mF,kD,Bool.and_eq_true,decide_eq_true_eq] at hmm
 have hol:0≤(eP c.h).1:=Int.le_trans (by decide:(0:Int)≤1) hmr.1
 rw [←aH6 (fun (k:Nat)=>(k:Int)≠c.id∧cN members (k:Int)=true∧cN (eP c.h).1 (k:Int)=false) ⟨c.last+1,0,0⟩ I.pl] at I2 ⊢
 refine Ok.loopL (F:=fun k K=>aE5 (aE prog aW aX k) k K (.ptr a 0 0 0) (.int .i64 members) (.int .i64 (eP c.h).1)) (ρ:=List Peer) (α:=Nat) (X:=List Peer) (List.range 7) (step:=chS (fun (k:Nat)=>(k:Int)≠c.id∧cN members (k:Int)=true∧cN (eP c.h).1 (k:Int)=false) ⟨c.last+1,0,0⟩) (fin:=id) (s:=c.peers)
  (out:=fun k K _ S'=>aE prog aW aX k 43 [.ptr a 0 0 0] S' fun t66 S67=>aE prog aW aX k 80 [.ptr a 0 0 0] S67 fun t S''=>K (.tup [t66,.bool true]) S'')
  (fun i l vs S'=>vs=[.int .i64 (i:Int)]∧WF S'∧∃ O',WIn S' a { c with h:={ c.h with log:=c.h.log++[⟨c.h.term,members,[]⟩] },peers:=l } O'∧Mv O S O' S')
  (fun l x S'=>x=l∧WF S'∧∃ O',WIn S' a { c with h:={ c.h with log:=c.h.log++[⟨c.h.term,members,[]⟩] },peers:=l } O'∧Mv O S O' S') ?_ ?_ ⟨rfl,w7,_,⟨_,_,_,h7,rfl⟩,mv7⟩ (fun l S9 ⟨exl,w9,O9,in9,m9⟩=>?_)
 ·rintro i i' l vs S9 ⟨rfl,w9,O9,in9,m9⟩ hi
  obtain ⟨hil,hj⟩:=List.getElem?_eq_some_iff.1 hi
  rw [List.length_range] at hil
  rw [List.getElem_range] at hj
  subst hj
  have hlt:(i:Int)<7:=Int.ofNat_lt.2 hil
  have hw:=cP hil (by decide)
  have nx:∀ S',Ext S9 S'→¬ ((i:Int)≠c.id∧cN members (i:Int)=true∧cN (eP c.h).1 (i:Int)=false)→pZ (chS (fun (k:Nat)=>(k:Int)≠c.id∧cN members (k:Int)=true∧cN (eP c.h).1 (k:Int)=false) ⟨c.last+1,0,0⟩) (fun i l vs S'=>vs=[.int .i64 (i:Int)]∧WF S'∧∃ O',WIn S' a { c with h:={ c.h with log:=c.h.log++[⟨c.h.term,members,[]⟩] },peers:=l } O'∧Mv O S O' S') (fun l (x:List Peer) S'=>x=l∧WF S'∧∃ O',WIn S' a { c with h:={ c.h with log:=c.h.log++[⟨c.h.term,members,[]⟩] },peers:=l } O'∧Mv O S O' S') i l i (.next [.int .i64 ((i+1:Nat):Int)] S'):=fun S' x hno=>⟨l,by unfold chS;rw [if_neg hno],rfl,x.wf w9,O9,in9.ext w9 x,m9.trans w (Mv.of x)⟩
  have hin9:=in9
  obtain ⟨lv9,ov9,rows9,h9,hO9⟩:=in9
  have hlast9:({ c with h:={ c.h with log:=c.h.log++[⟨c.h.term,members,[]⟩] },peers:=l }:Core).last=c.last+1:=hlast
  simp only [aE5,aY,aZ,aF,hlt,decide_true,bA]
  refine (g30 members i S9 (by omega)).callL fun Sa xa=>?_
  have wa:=xa.wf w9
  refine OkL.pick (fun f2=>?_) (fun f2=>by
   simp only [vI,aK,bK,hw,aF]
   exact OkL.next (nx Sa xa (fun q=>by rw [q.2.1] at f2;cases f2)))
  refine (g30 _ i Sa hol).callL fun Sb xb=>?_
  have x9b:=xa.trans xb
  have wb:=xb.wf wa
  simp only [dS,aF]
  refine OkL.pick (fun f3=>?_) (fun f3=>by
   simp only [vI,aK,bK,hw,aF]
   exact OkL.next (nx Sb x9b (fun q=>by rw [q.2.2] at f3;cases f3)))
  have h9b:=h9.ext w9 x9b
  simp only [aI,lU,aG,Nat.reduceAdd,aF,cR,h9b.r_id,aS,aJ,cJ,vI]
  refine OkL.pickN (fun f1=>?_) (fun f1=>by
   simp only [bK,hw,aF]
   exact OkL.next (nx Sb x9b (fun q=>q.1 f1)))
  simp only [vV,sT,oH,aG,Nat.reduceAdd,aF]
  have xc:Ext Sb (⟨Sb.next+20,Sb.heap⟩:St):=(Ext.refl Sb).bump 20
  have x9c:=x9b.trans xc
  refine (g43 (hin9.ext w9 x9c) I1.h).callL fun Sc xd=>?_
  have x9d:=x9c.trans xd
  have wd:=x9d.wf w9
  have h9d:=h9.ext w9 x9d
  rw [hlast9]
  obtain ⟨Se,q1,h10,m10,_⟩:=h9d.w_next wd hil (c.last+1)
  have w10:=m10.wf wd
  obtain ⟨Sf,q2,h11,m11,_⟩:=h10.w_mtch w10 hil 0
  have w11:=m11.wf w10
  obtain ⟨Sg,q3,h12',m12,_⟩:=h11.w_off w11 hil 0
  have hl7:l.length=7:=h9.peers
  have h12:WAt Sg a { c with h:={ c.h with log:=c.h.log++[⟨c.h.term,members,[]⟩] },peers:=l.set i ⟨c.last+1,0,0⟩ } (gC c.way) lv9 ov9 rows9:=by
   rw [←aWp hl7 hil (c.last+1)];exact h12'
  clear h12'
  rw [←hO9] at m10 m11 m12
  simp only [qH,eK hil,aF,mD,q1,q2,q3,bK,hw]
  exact OkL.next ⟨l.set i ⟨c.last+1,0,0⟩,by unfold chS;rw [if_pos (show (i:Int)≠c.id∧cN members (i:Int)=true∧cN (eP c.h).1 (i:Int)=false from ⟨f1,f2,by simpa using f3⟩)],rfl,m12.wf w11,O9,⟨_,_,_,h12,hO9⟩,(((m9.trans w (Mv.of x9d)).trans w m10).trans w m11).trans w m12⟩
 ·rintro l vs S9 ⟨rfl,w9,O9,in9,m9⟩
  have hlt:¬ (((List.range 7).length:Nat):Int)<7:=by rw [List.length_range];decide
  refine ⟨l,⟨rfl,w9,O9,in9,m9⟩,fun k K bD=>?_⟩
  simp only [aE5,aY,aZ,aF,hlt,decide_false,aK]
 ·generalize hpl:fF (chS (fun (k:Nat)=>(k:Int)≠c.id∧cN members (k:Int)=true∧cN (eP c.h).1 (k:Int)=false) ⟨c.last+1,0,0⟩) id (List.range 7) c.peers=pl at in9 I2 ⊢
  have hlast9:({ c with h:={ c.h with log:=c.h.log++[⟨c.h.term,members,[]⟩] },peers:=pl }:Core).last=c.last+1:=hlast
  refine (g43 in9 I2.h).call fun Sa xa=>?_
  rw [hlast9]
  have wa:=xa.wf w9
  exact WMeth.call (g80 wa (in9.ext w9 xa) I2.h I2.i0 I2.i1 I2.s0 I2.s1 hl I2.pr) wa fun Sb Ob wb inb mb=>Ok.ret ⟨rfl,Ob,inb,(m9.trans w (Mv.of xa)).trans w mb⟩
end
end
section
variable [Guard]
def aKt (m n:Letter):Bool:=decide (m.index=n.index)&&(decide (m.at'=n.at')&&(decide (m.commit=n.commit)&&(decide (m.members=n.members)&&(decide (m.off=n.off)&&(decide (m.size=n.size)&&(decide (m.yes=n.yes)&&decide (m.data=n.data)))))))
def aB2 (m:Letter):Prop:=0≤m.from'∧m.from'≤6∧0≤m.to∧m.to≤6∧m.from'≠m.to∧1≤m.term∧m.term≤1099511627776∧0≤m.index∧m.index≤1099511627776∧0≤m.at'∧m.at'≤m.term∧0≤m.commit∧m.commit≤1099511627776
def mB (m:Letter):Bool:=if m.kind=1 then decide (m.at'=0↔m.index=0) else if m.kind=3 then decide (m.at'=0↔m.index=0)&&gK m else if m.kind=5 then jH m else if m.kind=6 then decide (m.index≠0)&&nC m.off 0 65536 else true
theorem jW {m:Letter} (h:aB2 m):dB m=(gG m&&mB m):=by
 obtain ⟨a1,a2,a3,a4,a5,a6,a7,a8,a9,a10,a11,a12,a13⟩:=h
 unfold dB mB nC
 rw [decide_eq_true a1,decide_eq_true a2,decide_eq_true a3,decide_eq_true a4,decide_eq_true a5,decide_eq_true a6,decide_eq_true a7,decide_eq_true a8,decide_eq_true a9,decide_eq_true a10,decide_eq_true a11,decide_eq_true a12,decide_eq_true a13]
 rfl
theorem aKu {m:Letter} (h:dB m=true):1≤m.kind∧m.kind≤6:=by
 simp only [dB,Bool.and_eq_true] at h
 have h1:=h.1
 unfold gG at h1
 split at h1
 ·omega
 split at h1
 ·omega
 split at h1
 ·omega
 split at h1
 ·omega
 split at h1
 ·omega
 split at h1
 ·omega
 cases h1
theorem aOi {m:Letter} (h:dB m=true):mB m=true:=by
 have k:=cU h
 have c:aB2 m:=⟨k.f0,k.f1,k.t0,k.t1,k.ne,k.tm0,k.tm1,k.i0,k.i1,k.a0,k.a1,k.c0,k.c1⟩
 rw [jW c,Bool.and_eq_true] at h
 exact h.2
theorem aOj {m:Letter} (h1:¬ m.index=0) (h2:¬ m.at'=0) (h3:¬ m.members<1) (h4:¬ 128≤m.members) (h5:¬ m.size<1) (h6:¬ 65536<m.size) (h7:¬ m.off<0) (h8:¬ m.size≤m.off) (h9:¬ (m.data.length:Int)<1) (h10:¬ (600:Int)<m.data.length) (h11:¬ m.size - m.off<m.data.length):jH m=true:=by
 simp only [jH,nC,Bool.and_eq_true,decide_eq_true_eq]
 exact ⟨h1,h2,⟨by omega,by omega⟩,⟨by omega,by omega⟩,⟨by omega,by omega⟩,by omega,by omega,by omega⟩
theorem aQi {m:Letter} (c:aB2 m) (h1:m.at'=0↔m.index=0) (h2:¬ (8:Int)<m.entries.length) (h3:¬ 1099511627776 - (m.entries.length:Int)<m.index):gK m=fY m.term m.entries m.at':=by
 obtain ⟨a1,a2,a3,a4,a5,a6,a7,a8,a9,a10,a11,a12,a13⟩:=c
 unfold gK
 rw [decide_eq_true (by omega:m.entries.length≤8),decide_eq_true (by omega:(m.entries.length:Int)≤1099511627776 - m.index)]
 refine (aCu ⟨⟨by show 0≤m.term;omega,a7,by show (-1:Int)≤-1;decide,by show (-1:Int)<7;decide,by show (1:Int)≤1;decide,by show (1:Int)≤127;decide,a8,a9,a10,a11,h1,by show m.entries.length≤200;omega,by show (m.entries.length:Int)≤1099511627776 - m.index;omega⟩,?_,?_⟩)
 ·show (if 0<m.index then ([115]:List UInt8) else [])=[]↔m.index=0
  by_cases q:0<m.index
  ·rw [if_pos q];constructor
   ·intro e;cases e
   ·intro e;omega
  ·rw [if_neg q];exact ⟨fun _=>by omega,fun _=>rfl⟩
 ·show (if 0<m.index then ([115]:List UInt8) else []).length≤65536
  split<;>decide
theorem uL {m:Letter} (hk:m.kind≠3) (s:Bool):(if m.kind≠3∧0<m.entries.length then false else s)=(decide (m.entries.length=0)&&s):=by
 by_cases e:m.entries.length=0
 ·rw [if_neg (fun q=>by omega),decide_eq_true e];rfl
 ·rw [if_pos ⟨hk,by omega⟩,decide_eq_false e];rfl
structure Two (S0 S:St) (m n:Letter) (u:V) (b1 b2:Nat):Prop where
 x:Ext S0 S
 w0:WF S0
 w:WF S
 g1:S.heap.get b1=some (.row 0 13 [aO m u])
 g2:S.heap.get b2=some (.row 0 13 [aO n .nils])
 ne:b1≠b2
 ge:S0.next≤b2
section
variable {S0 S:St} {m n:Letter} {u:V} {b1 b2:Nat}
theorem Two.ext {S':St} (T:Two S0 S m n u b1 b2) (x:Ext S S'):Two S0 S' m n u b1 b2:=⟨T.x.trans x,T.w0,x.wf T.w,x.old _ _ T.g1,x.old _ _ T.g2,T.ne,T.ge⟩
theorem Two.st (T:Two S0 S m n u b1 b2) (j:Nat) (x:V) (n':Letter) (hx:x.cells=[x]) (ho:x.one=true) (hj:j<13) (hc:splice (aO n .nils) j [x]=aO n' .nils):
  ∃ S',bV 1 (.ptr b2 0 0 j) x S=.ok S'∧Two S0 S' m n' u b1 b2∧S'.next=S.next:=by
 have hl:(aO n .nils).length=13:=rfl
 have e:=dD (x:=x) (j:=j) (m:=1) T.g2 (by rw [hx];rfl) (by rw [hx];simp [aU,ho]) (by omega)
 rw [hx,hc] at e
 have hlt:=T.w _ _ T.g2
 have xs:=T.x.set T.ge hlt T.w0 (.row 0 13 [aO n' .nils])
 refine ⟨_,e,⟨xs,T.w0,xs.wf T.w0,?_,Tr.get_put_sameB _ _ _ trivial,T.ne,T.ge⟩,rfl⟩
 show (S.heap.put b2 _).get b1=_
 rw [Tr.get_put_neB _ _ _ _ trivial T.ne];exact T.g1
theorem aWx (T:Two S0 S m n u b1 b2) (p2:V):Ok (fun k K=>aEg (aE prog aW aX k) k K (.ptr b1 0 0 0) p2 (.ptr b2 0 0 0) S) (fun v S'=>v=.bool (aKt m n)∧Ext S0 S'):=by
 have g1:=T.g1
 have g2:=T.g2
 have x:=T.x
 simp only [aEg,cI,fE,oG,pX,iK,mZ,jY,kY,aG,aF,cR,ld4,uE,bI g1,bI g2,gB g1,gB g2,fL g1,fL g2,dW g1,dW g2,gL g1,gL g2,fH g1,fH g2,mR g1,mR g2,hM g1,hM g2,aS,eL,gN,aJ,bR,lG,mP,aH1,aAb]
 unfold aKt
 refine Ok.pickP (fun c=>?_) (fun c=>Ok.ret ⟨by rw [decide_eq_false c];rfl,x⟩)
 rw [decide_eq_true c]
 refine Ok.pickP (fun c=>?_) (fun c=>Ok.ret ⟨by rw [decide_eq_false c];rfl,x⟩)
 rw [decide_eq_true c]
 refine Ok.pickP (fun c=>?_) (fun c=>Ok.ret ⟨by rw [decide_eq_false c];rfl,x⟩)
 rw [decide_eq_true c]
 refine Ok.pickP (fun c=>?_) (fun c=>Ok.ret ⟨by rw [decide_eq_false c];rfl,x⟩)
 rw [decide_eq_true c]
 refine Ok.pickP (fun c=>?_) (fun c=>Ok.ret ⟨by rw [decide_eq_false c];rfl,x⟩)
 rw [decide_eq_true c]
 refine Ok.pickP (fun c=>?_) (fun c=>Ok.ret ⟨by rw [decide_eq_false c];rfl,x⟩)
 rw [decide_eq_true c]
 refine Ok.pickP (fun c=>?_) (fun c=>Ok.ret ⟨by rw [decide_eq_false c];rfl,x⟩)
 rw [decide_eq_true c]
 exact Ok.ret ⟨rfl,x⟩
theorem aM6 (T:Two S0 S m n u b1 b2) (hu:Sl S0 3 u (m.entries.map bM)) (p2:V):Ok (fun k K=>fP (aE prog aW aX k) k K (.ptr b1 0 0 0) p2 (.ptr b2 0 0 0) S) (fun v S'=>v=.bool (if m.kind≠3∧0<m.entries.length then false else aKt m n)∧Ext S0 S'):=by
 have g1:=T.g1
 simp only [fP,lT,eV,aG,aF,cR,eC,jV g1,fI g1,eA,(hu.ext T.x).lenI,aS,aJ,cJ,bX]
 refine Ok.pickN (fun c=>?_) (fun c=>?_)
 ·refine Ok.pickP (fun c2=>Ok.ret ⟨by rw [if_pos ⟨c,by omega⟩],T.x⟩) (fun c2=>?_)
  rw [if_neg (fun q=>c2 (by omega))]
  exact aWx T p2
 ·rw [if_neg (fun q=>q.1 c)]
  exact aWx T p2
end
end
noncomputable def aJ8 (C:aT) (k:Nat) (K:KS) (b1 b2:Nat) (S:St):An:=
dR (aA prog 37 (.ptr b1 0 0 0) 4) fun t111=>
dR (aB prog 3 t111 (⟨S.next+8,S.heap⟩:St)) fun t112=>
dR (aA prog 37 (.ptr b1 0 0 0) 5) fun t113=>
dR (aB prog 3 t113 (⟨S.next+8,S.heap⟩:St)) fun t114=>
dR (aA prog 37 (.ptr b2 0 0 0) 4) fun t115=>
dR (aM prog 3 t115 t112 (⟨S.next+8,S.heap⟩:St)) fun S116=>
dR (aB prog 3 t113 S116) fun t117=>
bG (bN t114 t117) (dR (aA prog 37 (.ptr b2 0 0 0) 5) fun t118=>
dR (aM prog 3 t118 t114 S116) fun S119=>
dR (aA prog 37 (.ptr b1 0 0 0) 4) fun t120=>
dR (aB prog 3 t120 S119) fun t121=>
bG (aH prog 3 t121 (.int .i64 0)) (dR (aD prog .eql 3 t121 (.int .i64 0)) fun t122=>
dR (aA prog 37 (.ptr b1 0 0 0) 5) fun t123=>
dR (aB prog 3 t123 S119) fun t124=>
bG (aH prog 3 t124 (.int .i64 0)) (dR (aD prog .eql 3 t124 (.int .i64 0)) fun t125=>
bG (aH prog 4 t122 t125) (dR (aD prog .neq 4 t122 t125) fun t126=>
aC t126 (K (.bool false) S119) (fP C k K (.ptr b1 0 0 0) (.bool false) (.ptr b2 0 0 0) S119)))))
noncomputable def aFc (C:aT) (k:Nat) (K:KS) (b1 b2:Nat) (S:St):An:=
dR (aA prog 37 (.ptr b1 0 0 0) 10) fun t128=>
dR (aB prog 4 t128 S) fun t129=>
dR (aA prog 37 (.ptr b2 0 0 0) 10) fun t130=>
dR (aM prog 4 t130 t129 S) fun S131=>
fP C k K (.ptr b1 0 0 0) (.bool false) (.ptr b2 0 0 0) S131
noncomputable def aJ9 (C:aT) (k:Nat) (K:KS) (b1 b2:Nat) (S:St):An:=
dR (aA prog 37 (.ptr b1 0 0 0) 4) fun t133=>
dR (aB prog 3 t133 (⟨S.next+12,S.heap⟩:St)) fun t134=>
dR (aA prog 37 (.ptr b1 0 0 0) 5) fun t135=>
dR (aB prog 3 t135 (⟨S.next+12,S.heap⟩:St)) fun t136=>
dR (aA prog 37 (.ptr b1 0 0 0) 6) fun t137=>
dR (aB prog 3 t137 (⟨S.next+12,S.heap⟩:St)) fun t138=>
dR (aA prog 37 (.ptr b2 0 0 0) 4) fun t139=>
dR (aM prog 3 t139 t134 (⟨S.next+12,S.heap⟩:St)) fun S140=>
dR (aB prog 3 t137 S140) fun t141=>
bG (bN t138 t141) (dR (aB prog 3 t135 S140) fun t142=>
bG (bN t136 t142) (dR (aA prog 37 (.ptr b2 0 0 0) 5) fun t143=>
dR (aM prog 3 t143 t136 S140) fun S144=>
dR (aB prog 3 t137 S144) fun t145=>
bG (bN t138 t145) (dR (aA prog 37 (.ptr b2 0 0 0) 6) fun t146=>
dR (aM prog 3 t146 t138 S144) fun S147=>
dR (aA prog 37 (.ptr b1 0 0 0) 4) fun t148=>
dR (aB prog 3 t148 S147) fun t149=>
bG (aH prog 3 t149 (.int .i64 0)) (dR (aD prog .eql 3 t149 (.int .i64 0)) fun t150=>
dR (aA prog 37 (.ptr b1 0 0 0) 5) fun t151=>
dR (aB prog 3 t151 S147) fun t152=>
bG (aH prog 3 t152 (.int .i64 0)) (dR (aD prog .eql 3 t152 (.int .i64 0)) fun t153=>
bG (aH prog 4 t150 t153) (dR (aD prog .neq 4 t150 t153) fun t154=>
aC t154 (K (.bool false) S147) (dR (aA prog 37 (.ptr b1 0 0 0) 12) fun t155=>
dR (aB prog 22 t155 S147) fun t156=>
dR (bZ prog 22 t156 S147) fun t157=>
dR (aD prog .gtr 3 t157 (.int .i64 8)) fun t158=>
aC t158 (K (.bool false) S147) (dR (aA prog 37 (.ptr b1 0 0 0) 4) fun t159=>
dR (aB prog 3 t159 S147) fun t160=>
dR (aA prog 37 (.ptr b1 0 0 0) 12) fun t161=>
dR (aB prog 22 t161 S147) fun t162=>
dR (bZ prog 22 t162 S147) fun t163=>
dR (aD prog .sub 3 (.int .i64 1099511627776) t163) fun t164=>
dR (aD prog .gtr 3 t160 t164) fun t165=>
aC t165 (K (.bool false) S147) (dR (aA prog 37 (.ptr b1 0 0 0) 5) fun t166=>
dR (aB prog 3 t166 S147) fun t167=>
cQ k [(.bool false),t167,(.int .i64 0)] S147 (vO C k K (.ptr b1 0 0 0) (.ptr b2 0 0 0)))))))))))
noncomputable def aFd (C:aT) (k:Nat) (K:KS) (b1 b2:Nat) (S:St):An:=
dR (aA prog 37 (.ptr b1 0 0 0) 4) fun t188=>
dR (aB prog 3 t188 (⟨S.next+8,S.heap⟩:St)) fun t189=>
dR (aA prog 37 (.ptr b1 0 0 0) 10) fun t190=>
dR (aB prog 4 t190 (⟨S.next+8,S.heap⟩:St)) fun t191=>
dR (aA prog 37 (.ptr b2 0 0 0) 4) fun t192=>
dR (aM prog 3 t192 t189 (⟨S.next+8,S.heap⟩:St)) fun S193=>
dR (aB prog 4 t190 S193) fun t194=>
bG (bN t191 t194) (dR (aA prog 37 (.ptr b2 0 0 0) 10) fun t195=>
dR (aM prog 4 t195 t191 S193) fun S196=>
fP C k K (.ptr b1 0 0 0) (.bool false) (.ptr b2 0 0 0) S196)
noncomputable def aJa (C:aT) (k:Nat) (K:KS) (b1 b2:Nat) (S:St):An:=
dR (aA prog 37 (.ptr b1 0 0 0) 4) fun t198=>
dR (aB prog 3 t198 (⟨S.next+24,S.heap⟩:St)) fun t199=>
dR (aA prog 37 (.ptr b1 0 0 0) 5) fun t200=>
dR (aB prog 3 t200 (⟨S.next+24,S.heap⟩:St)) fun t201=>
dR (aA prog 37 (.ptr b1 0 0 0) 7) fun t202=>
dR (aB prog 3 t202 (⟨S.next+24,S.heap⟩:St)) fun t203=>
dR (aA prog 37 (.ptr b1 0 0 0) 8) fun t204=>
dR (aB prog 3 t204 (⟨S.next+24,S.heap⟩:St)) fun t205=>
dR (aA prog 37 (.ptr b1 0 0 0) 9) fun t206=>
dR (aB prog 3 t206 (⟨S.next+24,S.heap⟩:St)) fun t207=>
dR (aA prog 37 (.ptr b1 0 0 0) 11) fun t208=>
dR (aB prog 9 t208 (⟨S.next+24,S.heap⟩:St)) fun t209=>
dR (aA prog 37 (.ptr b2 0 0 0) 4) fun t210=>
dR (aM prog 3 t210 t199 (⟨S.next+24,S.heap⟩:St)) fun S211=>
dR (aB prog 9 t208 S211) fun t212=>
bG (bN t209 t212) (dR (aB prog 3 t206 S211) fun t213=>
bG (bN t207 t213) (dR (aB prog 3 t204 S211) fun t214=>
bG (bN t205 t214) (dR (aB prog 3 t202 S211) fun t215=>
bG (bN t203 t215) (dR (aB prog 3 t200 S211) fun t216=>
bG (bN t201 t216) (dR (aA prog 37 (.ptr b2 0 0 0) 5) fun t217=>
dR (aM prog 3 t217 t201 S211) fun S218=>
dR (aB prog 9 t208 S218) fun t219=>
bG (bN t209 t219) (dR (aB prog 3 t206 S218) fun t220=>
bG (bN t207 t220) (dR (aB prog 3 t204 S218) fun t221=>
bG (bN t205 t221) (dR (aB prog 3 t202 S218) fun t222=>
bG (bN t203 t222) (dR (aA prog 37 (.ptr b2 0 0 0) 7) fun t223=>
dR (aM prog 3 t223 t203 S218) fun S224=>
dR (aB prog 9 t208 S224) fun t225=>
bG (bN t209 t225) (dR (aB prog 3 t206 S224) fun t226=>
bG (bN t207 t226) (dR (aB prog 3 t204 S224) fun t227=>
bG (bN t205 t227) (dR (aA prog 37 (.ptr b2 0 0 0) 8) fun t228=>
dR (aM prog 3 t228 t205 S224) fun S229=>
dR (aB prog 9 t208 S229) fun t230=>
bG (bN t209 t230) (dR (aB prog 3 t206 S229) fun t231=>
bG (bN t207 t231) (dR (aA prog 37 (.ptr b2 0 0 0) 9) fun t232=>
dR (aM prog 3 t232 t207 S229) fun S233=>
dR (aB prog 9 t208 S233) fun t234=>
bG (bN t209 t234) (dR (aA prog 37 (.ptr b2 0 0 0) 11) fun t235=>
dR (aM prog 9 t235 t209 S233) fun S236=>
dR (aA prog 37 (.ptr b1 0 0 0) 4) fun t237=>
dR (aB prog 3 t237 S236) fun t238=>
bG (aH prog 3 t238 (.int .i64 0)) (dR (aD prog .eql 3 t238 (.int .i64 0)) fun t239=>
aC t239 (K (.bool false) S236) (dR (aA prog 37 (.ptr b1 0 0 0) 5) fun t240=>
dR (aB prog 3 t240 S236) fun t241=>
bG (aH prog 3 t241 (.int .i64 0)) (dR (aD prog .eql 3 t241 (.int .i64 0)) fun t242=>
aC t242 (K (.bool false) S236) (dR (aA prog 37 (.ptr b1 0 0 0) 7) fun t243=>
dR (aB prog 3 t243 S236) fun t244=>
dR (aD prog .lss 3 t244 (.int .i64 1)) fun t245=>
aC t245 (K (.bool false) S236) (dR (aA prog 37 (.ptr b1 0 0 0) 7) fun t246=>
dR (aB prog 3 t246 S236) fun t247=>
dR (aD prog .geq 3 t247 (.int .i64 128)) fun t248=>
aC t248 (K (.bool false) S236) (dR (aA prog 37 (.ptr b1 0 0 0) 9) fun t249=>
dR (aB prog 3 t249 S236) fun t250=>
dR (aD prog .lss 3 t250 (.int .i64 1)) fun t251=>
aC t251 (K (.bool false) S236) (dR (aA prog 37 (.ptr b1 0 0 0) 9) fun t252=>
dR (aB prog 3 t252 S236) fun t253=>
dR (aD prog .gtr 3 t253 (.int .i64 65536)) fun t254=>
aC t254 (K (.bool false) S236) (dR (aA prog 37 (.ptr b1 0 0 0) 8) fun t255=>
dR (aB prog 3 t255 S236) fun t256=>
dR (aD prog .lss 3 t256 (.int .i64 0)) fun t257=>
aC t257 (K (.bool false) S236) (dR (aA prog 37 (.ptr b1 0 0 0) 8) fun t258=>
dR (aB prog 3 t258 S236) fun t259=>
dR (aA prog 37 (.ptr b1 0 0 0) 9) fun t260=>
dR (aB prog 3 t260 S236) fun t261=>
dR (aD prog .geq 3 t259 t261) fun t262=>
aC t262 (K (.bool false) S236) (dR (aA prog 37 (.ptr b1 0 0 0) 11) fun t263=>
dR (aB prog 9 t263 S236) fun t264=>
dR (bZ prog 9 t264 S236) fun t265=>
dR (aD prog .lss 3 t265 (.int .i64 1)) fun t266=>
aC t266 (K (.bool false) S236) (dR (aA prog 37 (.ptr b1 0 0 0) 11) fun t267=>
dR (aB prog 9 t267 S236) fun t268=>
dR (bZ prog 9 t268 S236) fun t269=>
dR (aD prog .gtr 3 t269 (.int .i64 600)) fun t270=>
aC t270 (K (.bool false) S236) (dR (aA prog 37 (.ptr b1 0 0 0) 11) fun t271=>
dR (aB prog 9 t271 S236) fun t272=>
dR (bZ prog 9 t272 S236) fun t273=>
dR (aA prog 37 (.ptr b1 0 0 0) 9) fun t274=>
dR (aB prog 3 t274 S236) fun t275=>
dR (aA prog 37 (.ptr b1 0 0 0) 8) fun t276=>
dR (aB prog 3 t276 S236) fun t277=>
dR (aD prog .sub 3 t275 t277) fun t278=>
dR (aD prog .gtr 3 t273 t278) fun t279=>
aC t279 (K (.bool false) S236) (fP C k K (.ptr b1 0 0 0) (.bool false) (.ptr b2 0 0 0) S236))))))))))))))))))))))))))))
noncomputable def aJb (C:aT) (k:Nat) (K:KS) (b1 b2:Nat) (S:St):An:=
dR (aA prog 37 (.ptr b1 0 0 0) 4) fun t281=>
dR (aB prog 3 t281 (⟨S.next+8,S.heap⟩:St)) fun t282=>
dR (aA prog 37 (.ptr b1 0 0 0) 8) fun t283=>
dR (aB prog 3 t283 (⟨S.next+8,S.heap⟩:St)) fun t284=>
dR (aA prog 37 (.ptr b2 0 0 0) 4) fun t285=>
dR (aM prog 3 t285 t282 (⟨S.next+8,S.heap⟩:St)) fun S286=>
dR (aB prog 3 t283 S286) fun t287=>
bG (bN t284 t287) (dR (aA prog 37 (.ptr b2 0 0 0) 8) fun t288=>
dR (aM prog 3 t288 t284 S286) fun S289=>
dR (aA prog 37 (.ptr b1 0 0 0) 4) fun t290=>
dR (aB prog 3 t290 S289) fun t291=>
bG (aH prog 3 t291 (.int .i64 0)) (dR (aD prog .eql 3 t291 (.int .i64 0)) fun t292=>
aC t292 (K (.bool false) S289) (dR (aA prog 37 (.ptr b1 0 0 0) 8) fun t293=>
dR (aB prog 3 t293 S289) fun t294=>
dR (aD prog .lss 3 t294 (.int .i64 0)) fun t295=>
aC t295 (K (.bool false) S289) (dR (aA prog 37 (.ptr b1 0 0 0) 8) fun t296=>
dR (aB prog 3 t296 S289) fun t297=>
dR (aD prog .gtr 3 t297 (.int .i64 65536)) fun t298=>
aC t298 (K (.bool false) S289) (fP C k K (.ptr b1 0 0 0) (.bool false) (.ptr b2 0 0 0) S289)))))
noncomputable def aKv (C:aT) (k:Nat) (K:KS) (b1:Nat) (S:St):An:=
dR (aA prog 37 (.ptr b1 0 0 0) 0) fun t50=>
dR (aB prog 3 t50 S) fun t51=>
dR (aA prog 37 (.ptr b1 0 0 0) 1) fun t52=>
dR (aB prog 3 t52 S) fun t53=>
dR (aA prog 37 (.ptr b1 0 0 0) 2) fun t54=>
dR (aB prog 3 t54 S) fun t55=>
dR (aA prog 37 (.ptr b1 0 0 0) 3) fun t56=>
dR (aB prog 3 t56 S) fun t57=>
dR (bQ prog 37 [(0,t51),(1,t53),(2,t55),(3,t57)]) fun t58=>
dR (bF none S (.row 0 13 [[.int .i64 0,.int .i64 0,.int .i64 0,.int .i64 0,.int .i64 0,.int .i64 0,.int .i64 0,.int .i64 0,.int .i64 0,.int .i64 0,.bool false,.str [],.nils]])) fun r59=>
dR (aM prog 37 (.ptr r59.1 0 0 0) t58 r59.2) fun S60=>
dR (aA prog 37 (.ptr b1 0 0 0) 0) fun t108=>
dR (aB prog 3 t108 S60) fun t109=>
bG (aH prog 3 t109 (.int .i64 1)) (dR (aD prog .eql 3 t109 (.int .i64 1)) fun t110=>
aC t110 (aJ8 C k K b1 r59.1 S60) (bG (aH prog 3 t109 (.int .i64 2)) (dR (aD prog .eql 3 t109 (.int .i64 2)) fun t127=>
aC t127 (aFc C k K b1 r59.1 S60) (bG (aH prog 3 t109 (.int .i64 3)) (dR (aD prog .eql 3 t109 (.int .i64 3)) fun t132=>
aC t132 (aJ9 C k K b1 r59.1 S60) (bG (aH prog 3 t109 (.int .i64 4)) (dR (aD prog .eql 3 t109 (.int .i64 4)) fun t187=>
aC t187 (aFd C k K b1 r59.1 S60) (bG (aH prog 3 t109 (.int .i64 5)) (dR (aD prog .eql 3 t109 (.int .i64 5)) fun t197=>
aC t197 (aJa C k K b1 r59.1 S60) (bG (aH prog 3 t109 (.int .i64 6)) (dR (aD prog .eql 3 t109 (.int .i64 6)) fun t280=>
aC t280 (aJb C k K b1 r59.1 S60) (fP C k K (.ptr b1 0 0 0) (.bool false) (.ptr r59.1 0 0 0) S60))))))))))))
theorem aQj (C:aT) (k:Nat) (a0:V) (S:St) (K:KS):m73 C k a0 S K=(bG (aU (a0:V).cells) (dR (bF none S (.row 0 (a0:V).cells.length [(a0:V).cells])) fun r0=>
dR (aA prog 37 (.ptr r0.1 0 0 0) 0) fun t1=>
dR (aB prog 3 t1 r0.2) fun t2=>
dR (aD prog .lss 3 t2 (.int .i64 1)) fun t3=>
aC t3 (K (.bool false) r0.2) (dR (aA prog 37 (.ptr r0.1 0 0 0) 0) fun t4=>
dR (aB prog 3 t4 r0.2) fun t5=>
dR (aD prog .gtr 3 t5 (.int .i64 6)) fun t6=>
aC t6 (K (.bool false) r0.2) (dR (aA prog 37 (.ptr r0.1 0 0 0) 1) fun t7=>
dR (aB prog 3 t7 r0.2) fun t8=>
dR (aD prog .lss 3 t8 (.int .i64 0)) fun t9=>
aC t9 (K (.bool false) r0.2) (dR (aA prog 37 (.ptr r0.1 0 0 0) 1) fun t10=>
dR (aB prog 3 t10 r0.2) fun t11=>
dR (aD prog .geq 3 t11 (.int .i64 7)) fun t12=>
aC t12 (K (.bool false) r0.2) (dR (aA prog 37 (.ptr r0.1 0 0 0) 2) fun t13=>
dR (aB prog 3 t13 r0.2) fun t14=>
dR (aD prog .lss 3 t14 (.int .i64 0)) fun t15=>
aC t15 (K (.bool false) r0.2) (dR (aA prog 37 (.ptr r0.1 0 0 0) 2) fun t16=>
dR (aB prog 3 t16 r0.2) fun t17=>
dR (aD prog .geq 3 t17 (.int .i64 7)) fun t18=>
aC t18 (K (.bool false) r0.2) (dR (aA prog 37 (.ptr r0.1 0 0 0) 1) fun t19=>
dR (aB prog 3 t19 r0.2) fun t20=>
dR (aA prog 37 (.ptr r0.1 0 0 0) 2) fun t21=>
dR (aB prog 3 t21 r0.2) fun t22=>
bG (aH prog 3 t20 t22) (dR (aD prog .eql 3 t20 t22) fun t23=>
aC t23 (K (.bool false) r0.2) (dR (aA prog 37 (.ptr r0.1 0 0 0) 3) fun t24=>
dR (aB prog 3 t24 r0.2) fun t25=>
dR (aD prog .lss 3 t25 (.int .i64 1)) fun t26=>
aC t26 (K (.bool false) r0.2) (dR (aA prog 37 (.ptr r0.1 0 0 0) 3) fun t27=>
dR (aB prog 3 t27 r0.2) fun t28=>
dR (aD prog .gtr 3 t28 (.int .i64 1099511627776)) fun t29=>
aC t29 (K (.bool false) r0.2) (dR (aA prog 37 (.ptr r0.1 0 0 0) 4) fun t30=>
dR (aB prog 3 t30 r0.2) fun t31=>
dR (aD prog .lss 3 t31 (.int .i64 0)) fun t32=>
aC t32 (K (.bool false) r0.2) (dR (aA prog 37 (.ptr r0.1 0 0 0) 4) fun t33=>
dR (aB prog 3 t33 r0.2) fun t34=>
dR (aD prog .gtr 3 t34 (.int .i64 1099511627776)) fun t35=>
aC t35 (K (.bool false) r0.2) (dR (aA prog 37 (.ptr r0.1 0 0 0) 5) fun t36=>
dR (aB prog 3 t36 r0.2) fun t37=>
dR (aD prog .lss 3 t37 (.int .i64 0)) fun t38=>
aC t38 (K (.bool false) r0.2) (dR (aA prog 37 (.ptr r0.1 0 0 0) 5) fun t39=>
dR (aB prog 3 t39 r0.2) fun t40=>
dR (aA prog 37 (.ptr r0.1 0 0 0) 3) fun t41=>
dR (aB prog 3 t41 r0.2) fun t42=>
dR (aD prog .gtr 3 t40 t42) fun t43=>
aC t43 (K (.bool false) r0.2) (dR (aA prog 37 (.ptr r0.1 0 0 0) 6) fun t44=>
dR (aB prog 3 t44 r0.2) fun t45=>
dR (aD prog .lss 3 t45 (.int .i64 0)) fun t46=>
aC t46 (K (.bool false) r0.2) (dR (aA prog 37 (.ptr r0.1 0 0 0) 6) fun t47=>
dR (aB prog 3 t47 r0.2) fun t48=>
dR (aD prog .gtr 3 t48 (.int .i64 1099511627776)) fun t49=>
aC t49 (K (.bool false) r0.2) (aKv C k K r0.1 r0.2)))))))))))))))))):=rfl
theorem aOk (C:aT) (k:Nat) (a0:V) (S:St) (K:KS):m73 C k a0 S K=(bG (aU (a0:V).cells) (dR (bF none S (.row 0 (a0:V).cells.length [(a0:V).cells])) fun r0=>
dR (aA prog 37 (.ptr r0.1 0 0 0) 0) fun t1=>
dR (aB prog 3 t1 r0.2) fun t2=>
dR (aD prog .lss 3 t2 (.int .i64 1)) fun t3=>
aC t3 (K (.bool false) r0.2) (dR (aA prog 37 (.ptr r0.1 0 0 0) 0) fun t4=>
dR (aB prog 3 t4 r0.2) fun t5=>
dR (aD prog .gtr 3 t5 (.int .i64 6)) fun t6=>
aC t6 (K (.bool false) r0.2) (dR (aA prog 37 (.ptr r0.1 0 0 0) 1) fun t7=>
dR (aB prog 3 t7 r0.2) fun t8=>
dR (aD prog .lss 3 t8 (.int .i64 0)) fun t9=>
aC t9 (K (.bool false) r0.2) (dR (aA prog 37 (.ptr r0.1 0 0 0) 1) fun t10=>
dR (aB prog 3 t10 r0.2) fun t11=>
dR (aD prog .geq 3 t11 (.int .i64 7)) fun t12=>
aC t12 (K (.bool false) r0.2) (dR (aA prog 37 (.ptr r0.1 0 0 0) 2) fun t13=>
dR (aB prog 3 t13 r0.2) fun t14=>
dR (aD prog .lss 3 t14 (.int .i64 0)) fun t15=>
aC t15 (K (.bool false) r0.2) (dR (aA prog 37 (.ptr r0.1 0 0 0) 2) fun t16=>
dR (aB prog 3 t16 r0.2) fun t17=>
dR (aD prog .geq 3 t17 (.int .i64 7)) fun t18=>
aC t18 (K (.bool false) r0.2) (dR (aA prog 37 (.ptr r0.1 0 0 0) 1) fun t19=>
dR (aB prog 3 t19 r0.2) fun t20=>
dR (aA prog 37 (.ptr r0.1 0 0 0) 2) fun t21=>
dR (aB prog 3 t21 r0.2) fun t22=>
bG (aH prog 3 t20 t22) (dR (aD prog .eql 3 t20 t22) fun t23=>
aC t23 (K (.bool false) r0.2) (dR (aA prog 37 (.ptr r0.1 0 0 0) 3) fun t24=>
dR (aB prog 3 t24 r0.2) fun t25=>
dR (aD prog .lss 3 t25 (.int .i64 1)) fun t26=>
aC t26 (K (.bool false) r0.2) (dR (aA prog 37 (.ptr r0.1 0 0 0) 3) fun t27=>
dR (aB prog 3 t27 r0.2) fun t28=>
dR (aD prog .gtr 3 t28 (.int .i64 1099511627776)) fun t29=>
aC t29 (K (.bool false) r0.2) (dR (aA prog 37 (.ptr r0.1 0 0 0) 4) fun t30=>
dR (aB prog 3 t30 r0.2) fun t31=>
dR (aD prog .lss 3 t31 (.int .i64 0)) fun t32=>
aC t32 (K (.bool false) r0.2) (dR (aA prog 37 (.ptr r0.1 0 0 0) 4) fun t33=>
dR (aB prog 3 t33 r0.2) fun t34=>
dR (aD prog .gtr 3 t34 (.int .i64 1099511627776)) fun t35=>
aC t35 (K (.bool false) r0.2) (dR (aA prog 37 (.ptr r0.1 0 0 0) 5) fun t36=>
dR (aB prog 3 t36 r0.2) fun t37=>
dR (aD prog .lss 3 t37 (.int .i64 0)) fun t38=>
aC t38 (K (.bool false) r0.2) (dR (aA prog 37 (.ptr r0.1 0 0 0) 5) fun t39=>
dR (aB prog 3 t39 r0.2) fun t40=>
dR (aA prog 37 (.ptr r0.1 0 0 0) 3) fun t41=>
dR (aB prog 3 t41 r0.2) fun t42=>
dR (aD prog .gtr 3 t40 t42) fun t43=>
aC t43 (K (.bool false) r0.2) (dR (aA prog 37 (.ptr r0.1 0 0 0) 6) fun t44=>
dR (aB prog 3 t44 r0.2) fun t45=>
dR (aD prog .lss 3 t45 (.int .i64 0)) fun t46=>
aC t46 (K (.bool false) r0.2) (dR (aA prog 37 (.ptr r0.1 0 0 0) 6) fun t47=>
dR (aB prog 3 t47 r0.2) fun t48=>
dR (aD prog .gtr 3 t48 (.int .i64 1099511627776)) fun t49=>
aC t49 (K (.bool false) r0.2) (aKv C k K r0.1 r0.2)))))))))))))))))):=by rw [aQj]
section
variable [Guard]
section
variable {S0 S:St} {m n:Letter} {u:V} {b1 b2:Nat}
theorem l73 (T:Two S0 S m n u b1 b2) (hu:Sl S0 3 u (m.entries.map bM)) (hlen:m.entries.length≤1000000) (hk:m.kind=3):
  Ok (fun k K=>cQ k [.bool false,.int .i64 m.at',.int .i64 0] S (vO (aE prog aW aX k) k K (.ptr b1 0 0 0) (.ptr b2 0 0 0))) (fun v S'=>v=.bool (fY m.term m.entries m.at'&&aKt m n)∧Ext S0 S'):=by
 rw [←aQ3]
 refine Ok.loopL (F:=fun k K=>vO (aE prog aW aX k) k K (.ptr b1 0 0 0) (.ptr b2 0 0 0)) (ρ:=Bool) (α:=Entry) (X:=Bool) m.entries (step:=jJ m.term) (fin:=fun _=>true) (s:=m.at')
  (out:=fun k K x S'=>if x=true then fP (aE prog aW aX k) k K (.ptr b1 0 0 0) (.bool false) (.ptr b2 0 0 0) S' else K (.bool false) S')
  (fun i b vs S'=>vs=[.bool false,.int .i64 b,.int .i64 (i:Int)]∧Two S0 S' m n u b1 b2)
  (fun r x S'=>r=x∧Two S0 S' m n u b1 b2) ?_ ?_ ⟨rfl,T⟩ (fun x S' ⟨e,T'⟩=>?_)
 ·rintro i x b vs S1 ⟨rfl,T1⟩ hi
  have hil:i<m.entries.length:=(List.getElem?_eq_some_iff.1 hi).1
  have hlt:(i:Int)<(m.entries.length:Int):=Int.ofNat_lt.2 hil
  have hw:=cP hil hlen
  have g1:=T1.g1
  have hs1:=hu.ext T1.x
  have xb:Ext S1 (⟨S1.next+10,S1.heap⟩:St):=(Ext.refl S1).bump 10
  obtain ⟨p,hp,hat,_,_⟩:=hs1.elem hi
  have hat0:aR (some 3) p S1=.ok (.agg (bM x)):=by rw [hat.load0];exact cM _ _ rfl
  simp only [vO,aY,eV,kO,aG,aF,eC,cR,aBh,aL,fI g1,kP g1,eA,hs1.lenI,aZ,hlt,decide_true,bA,oL,hp,hat0]
  refine (g63 x b m.term _ (xb.wf T1.w)).callL fun S2 x2=>?_
  have T2:=T1.ext (xb.trans x2)
  have g2:=T2.g1
  obtain ⟨p',hp',hat',_,_⟩:=(hu.ext T2.x).elem hi
  have hat1:aR none (xA 0 p') S2=.ok (.int .i64 x.term):=by rw [hat'.load];rfl
  rw [hp] at hp'
  cases hp'
  simp only [dS,aF]
  refine OkL.pick (fun c=>OkL.stop false ⟨false,by unfold jJ;rw [if_neg (by simpa using c)],rfl,T2⟩ (by intros;rfl)) (fun c=>?_)
  simp only [eV,aG,aF,eC,fI g2,oL,hp,jQ,hat'.advW,cR,hat1,bK,hw]
  exact OkL.next ⟨x.term,by unfold jJ;rw [if_pos (by simpa using c)],rfl,T2⟩
 ·rintro b vs S1 ⟨rfl,T1⟩
  have hlt:¬ (m.entries.length:Int)<(m.entries.length:Int):=Int.lt_irrefl _
  refine ⟨true,⟨rfl,T1⟩,fun k K bD=>?_⟩
  unfold vO
  rw [if_pos rfl]
  generalize fP (aE prog aW aX k) k K (.ptr b1 0 0 0)=J
  simp only [aY,eV,aG,aF,eC,fI T1.g1,eA,(hu.ext T1.x).lenI,aZ,hlt,decide_false,aK]
 ·cases x with
  | false=>
   simp only [if_neg (by decide:¬ false=true)]
   exact Ok.ret ⟨by rw [e];rfl,T'.x⟩
  | true=>
   simp only [if_true]
   rw [e]
   exact (aM6 T' hu _).mono fun v S'' ⟨e2,x2⟩=>⟨by rw [e2,if_neg (fun q=>q.1 hk)];rfl,x2⟩
end
theorem aWy (k f t tm:Int):dX zL pL [(0,.int .i64 k),(1,.int .i64 f),(2,.int .i64 t),(3,.int .i64 tm)]=.ok (.agg (aO { Letter.zero with kind:=k,from':=f,to:=t,term:=tm } .nils)):=rfl
theorem aOl {p q:Prop} [Decidable p] [Decidable q] (h:¬ (!(decide p == decide q))=true):p↔q:=by
 by_cases a:p<;>by_cases b:q<;>simp_all
theorem aB3 {p q:Prop} [Decidable p] [Decidable q] (h:(!(decide p == decide q))=true):¬ (p↔q):=by
 by_cases a:p<;>by_cases b:q<;>simp_all
theorem iE {S0 S':St} {m:Letter} (x:Ext S0 S') (q:dB m=true→False):Ok (fun (k:Nat) (K:KS)=>K (.bool false) S') (fun v S'=>v=.bool (dB m)∧Ext S0 S'):=Ok.ret ⟨by
  cases e:dB m with
  | true=>exact absurd e q
  | false=>rfl,x⟩
theorem bB4 {S0 S:St} {m:Letter} {u:V} {b1 b2:Nat} (T:Two S0 S m { Letter.zero with kind:=m.kind,from':=m.from',to:=m.to,term:=m.term } u b1 b2) (hu:Sl S0 3 u (m.entries.map bM)) (hc:aB2 m) (e:m.kind=1):
  Ok (fun k K=>aJ8 (aE prog aW aX k) k K b1 b2 S) (fun v S'=>v=.bool (dB m)∧Ext S0 S'):=by
 have hR:=jW hc
 have gk:=T.g1
 have Tb:=T.ext ((Ext.refl S).bump 8)
 obtain ⟨S4,q4,T4,_⟩:=Tb.st 4 (.int .i64 m.index) { Letter.zero with kind:=m.kind,from':=m.from',to:=m.to,term:=m.term,index:=m.index } rfl rfl (by decide) rfl
 obtain ⟨S5,q5,T5,_⟩:=T4.st 5 (.int .i64 m.at') { Letter.zero with kind:=m.kind,from':=m.from',to:=m.to,term:=m.term,index:=m.index,at':=m.at' } rfl rfl (by decide) rfl
 simp only [aJ8,cI,fE,aG,Nat.reduceAdd,aF,cR,aL,bI gk,gB gk,mD,q4,gB T4.g1,bO,aJ,q5,bI T5.g1,gB T5.g1,aS,bR,eL,jU]
 have hK:mB m=decide (m.at'=0↔m.index=0):=by unfold mB;rw [if_pos e]
 refine Ok.pick (fun c=>iE T5.x fun q=>?_) (fun c=>?_)
 ·have:=aOi q
  rw [hK,decide_eq_true_eq] at this
  exact aB3 c this.symm
 ·have hi:m.at'=0↔m.index=0:=(aOl (by rw [c];decide)).symm
  exact (aM6 T5 hu _).mono fun v S' ⟨e2,x2⟩=>⟨by
   rw [e2,uL (by omega),hR,hK,decide_eq_true hi,Bool.and_true,show gG m=lW m { Letter.zero with index:=m.index,at':=m.at' } by unfold gG;rw [if_pos e]];rfl,x2⟩
theorem bB5 {S0 S:St} {m:Letter} {u:V} {b1 b2:Nat} (T:Two S0 S m { Letter.zero with kind:=m.kind,from':=m.from',to:=m.to,term:=m.term } u b1 b2) (hu:Sl S0 3 u (m.entries.map bM)) (hc:aB2 m) (e:m.kind=2):
  Ok (fun k K=>aFc (aE prog aW aX k) k K b1 b2 S) (fun v S'=>v=.bool (dB m)∧Ext S0 S'):=by
 have hR:=jW hc
 have gk:=T.g1
 obtain ⟨S4,q4,T4,_⟩:=T.st 10 (.bool m.yes) { Letter.zero with kind:=m.kind,from':=m.from',to:=m.to,term:=m.term,yes:=m.yes } rfl rfl (by decide) rfl
 have hK:mB m=true:=by unfold mB;simp only [e];rfl
 have go:=(aM6 T4 hu (.bool false)).mono fun v S' ⟨e2,x2⟩=>(⟨by
   rw [e2,uL (by omega),hR,hK,Bool.and_true,show gG m=lW m { Letter.zero with yes:=m.yes } by unfold gG;rw [if_neg (by omega),if_pos e]];rfl,x2⟩:v=V.bool (dB m)∧Ext S0 S')
 have ee:(fun k K=>aFc (aE prog aW aX k) k K b1 b2 S)=(fun k K=>fP (aE prog aW aX k) k K (.ptr b1 0 0 0) (.bool false) (.ptr b2 0 0 0) S4):=by
  funext k K
  unfold aFc
  generalize fP (aE prog aW aX k) k K (.ptr b1 0 0 0)=J
  simp only [jY,aG,Nat.reduceAdd,aF,ld4,mR gk,st4]
  rw [q4,aF]
 rw [ee];exact go
theorem bB6 {S0 S:St} {m:Letter} {u:V} {b1 b2:Nat} (T:Two S0 S m { Letter.zero with kind:=m.kind,from':=m.from',to:=m.to,term:=m.term } u b1 b2) (hu:Sl S0 3 u (m.entries.map bM)) (hc:aB2 m) (e:m.kind=4):
  Ok (fun k K=>aFd (aE prog aW aX k) k K b1 b2 S) (fun v S'=>v=.bool (dB m)∧Ext S0 S'):=by
 have hR:=jW hc
 have gk:=T.g1
 have Tb:=T.ext ((Ext.refl S).bump 8)
 obtain ⟨S4,q4,T4,_⟩:=Tb.st 4 (.int .i64 m.index) { Letter.zero with kind:=m.kind,from':=m.from',to:=m.to,term:=m.term,index:=m.index } rfl rfl (by decide) rfl
 obtain ⟨S5,q5,T5,_⟩:=T4.st 10 (.bool m.yes) { Letter.zero with kind:=m.kind,from':=m.from',to:=m.to,term:=m.term,index:=m.index,yes:=m.yes } rfl rfl (by decide) rfl
 have hK:mB m=true:=by unfold mB;simp only [e];rfl
 have go:=(aM6 T5 hu (.bool false)).mono fun v S' ⟨e2,x2⟩=>(⟨by
   rw [e2,uL (by omega),hR,hK,Bool.and_true,show gG m=lW m { Letter.zero with yes:=m.yes,index:=m.index } by unfold gG;rw [if_neg (by omega),if_neg (by omega),if_neg (by omega),if_pos e]];rfl,x2⟩:v=V.bool (dB m)∧Ext S0 S')
 have ee:(fun k K=>aFd (aE prog aW aX k) k K b1 b2 S)=(fun k K=>fP (aE prog aW aX k) k K (.ptr b1 0 0 0) (.bool false) (.ptr b2 0 0 0) S5):=by
  funext k K
  unfold aFd
  generalize fP (aE prog aW aX k) k K (.ptr b1 0 0 0)=J
  simp only [cI,jY,aG,Nat.reduceAdd,aF,cR,ld4,aL,bI gk,mR gk,mD,st4]
  rw [q4,aF]
  simp only [mR T4.g1,aF,fX,aJ]
  rw [q5,aF]
 rw [ee];exact go
theorem bB7 {S0 S:St} {m:Letter} {u:V} {b1 b2:Nat} (T:Two S0 S m { Letter.zero with kind:=m.kind,from':=m.from',to:=m.to,term:=m.term } u b1 b2) (hu:Sl S0 3 u (m.entries.map bM)) (hc:aB2 m) (e:m.kind=6):
  Ok (fun k K=>aJb (aE prog aW aX k) k K b1 b2 S) (fun v S'=>v=.bool (dB m)∧Ext S0 S'):=by
 have hR:=jW hc
 have gk:=T.g1
 have Tb:=T.ext ((Ext.refl S).bump 8)
 obtain ⟨S4,q4,T4,_⟩:=Tb.st 4 (.int .i64 m.index) { Letter.zero with kind:=m.kind,from':=m.from',to:=m.to,term:=m.term,index:=m.index } rfl rfl (by decide) rfl
 obtain ⟨S5,q5,T5,_⟩:=T4.st 8 (.int .i64 m.off) { Letter.zero with kind:=m.kind,from':=m.from',to:=m.to,term:=m.term,index:=m.index,off:=m.off } rfl rfl (by decide) rfl
 simp only [aJb,cI,iK,aG,Nat.reduceAdd,aF,cR,aL,bI gk,gL gk,mD,q4,gL T4.g1,bO,aJ,q5,bI T5.g1,gL T5.g1,aS,bR,aZ,bX]
 refine Ok.pickP (fun c=>iE T5.x fun q=>((cU q).k6 e).1 c) (fun c1=>?_)
 refine Ok.pickP (fun c=>iE T5.x fun q=>by have:=((cU q).k6 e).2.1;omega) (fun c2=>?_)
 refine Ok.pickP (fun c=>iE T5.x fun q=>by have:=((cU q).k6 e).2.2;omega) (fun c3=>?_)
 have hK:mB m=true:=by
  unfold mB nC
  rw [if_neg (by omega),if_neg (by omega),if_neg (by omega),if_pos e,decide_eq_true c1,decide_eq_true (by omega:0≤m.off),decide_eq_true (by omega:m.off≤65536)];rfl
 exact (aM6 T5 hu _).mono fun v S' ⟨e2,x2⟩=>⟨by
   rw [e2,uL (by omega),hR,hK,Bool.and_true,show gG m=lW m { Letter.zero with index:=m.index,off:=m.off } by unfold gG;rw [if_neg (by omega),if_neg (by omega),if_neg (by omega),if_neg (by omega),if_neg (by omega),if_pos e]];rfl,x2⟩
theorem bB8 {S0 S:St} {m:Letter} {u:V} {b1 b2:Nat} (T:Two S0 S m { Letter.zero with kind:=m.kind,from':=m.from',to:=m.to,term:=m.term } u b1 b2) (hu:Sl S0 3 u (m.entries.map bM)) (hlen:m.entries.length≤1000000) (hc:aB2 m) (e:m.kind=3):
  Ok (fun k K=>aJ9 (aE prog aW aX k) k K b1 b2 S) (fun v S'=>v=.bool (dB m)∧Ext S0 S'):=by
 have hR:=jW hc
 have gk:=T.g1
 have Tb:=T.ext ((Ext.refl S).bump 12)
 obtain ⟨S4,q4,T4,_⟩:=Tb.st 4 (.int .i64 m.index) { Letter.zero with kind:=m.kind,from':=m.from',to:=m.to,term:=m.term,index:=m.index } rfl rfl (by decide) rfl
 obtain ⟨S5,q5,T5,_⟩:=T4.st 5 (.int .i64 m.at') { Letter.zero with kind:=m.kind,from':=m.from',to:=m.to,term:=m.term,index:=m.index,at':=m.at' } rfl rfl (by decide) rfl
 obtain ⟨S6,q6,T6,_⟩:=T5.st 6 (.int .i64 m.commit) { Letter.zero with kind:=m.kind,from':=m.from',to:=m.to,term:=m.term,index:=m.index,at':=m.at',commit:=m.commit } rfl rfl (by decide) rfl
 have hw:wr .i64 (1099511627776 - (m.entries.length:Int))=1099511627776 - (m.entries.length:Int):=cS (by omega) (by omega)
 simp only [aJ9,cI,fE,oG,eV,aG,Nat.reduceAdd,aF,cR,eC,aL,bI gk,gB gk,fL gk,mD,q4,gB T4.g1,fL T4.g1,bO,aJ,q5,fL T5.g1,q6,bI T6.g1,gB T6.g1,fI T6.g1,eA,(hu.ext T6.x).lenI,aS,bR,eL,jU,cE,hw,bX]
 have hK:mB m=(decide (m.at'=0↔m.index=0)&&gK m):=by unfold mB;rw [if_neg (by omega),if_pos e]
 refine Ok.pick (fun c=>iE T6.x fun q=>?_) (fun c=>?_)
 ·exact aB3 c ((cU q).k3 e).1.symm
 have hi:m.at'=0↔m.index=0:=(aOl (by rw [c];decide)).symm
 refine Ok.pickP (fun c=>iE T6.x fun q=>by have:=((cU q).k3 e).2.1;omega) (fun c2=>?_)
 refine Ok.pickP (fun c=>iE T6.x fun q=>by have:=((cU q).k3 e).2.2.1;omega) (fun c3=>?_)
 exact (l73 T6 hu hlen e).mono fun v S' ⟨e2,x2⟩=>⟨by
   rw [e2,hR,hK,decide_eq_true hi,aQi hc hi c2 c3,show gG m=lW m { Letter.zero with index:=m.index,at':=m.at',entries:=m.entries,commit:=m.commit } by unfold gG;rw [if_neg (by omega),if_neg (by omega),if_pos e],Bool.true_and,Bool.and_comm]
   unfold lW
   rw [decide_eq_true (rfl:m.entries.length=({ Letter.zero with index:=m.index,at':=m.at',entries:=m.entries,commit:=m.commit }:Letter).entries.length)];rfl,x2⟩
end
section
variable [Guard]
theorem bB9 {S0 S:St} {m:Letter} {u:V} {b1 b2:Nat} (T:Two S0 S m { Letter.zero with kind:=m.kind,from':=m.from',to:=m.to,term:=m.term } u b1 b2) (hu:Sl S0 3 u (m.entries.map bM)) (hc:aB2 m) (e:m.kind=5):
  Ok (fun k K=>aJa (aE prog aW aX k) k K b1 b2 S) (fun v S'=>v=.bool (dB m)∧Ext S0 S'):=by
 have hR:=jW hc
 have gk:=T.g1
 have Tb:=T.ext ((Ext.refl S).bump 24)
 obtain ⟨S4,q4,T4,_⟩:=Tb.st 4 (.int .i64 m.index) { Letter.zero with kind:=m.kind,from':=m.from',to:=m.to,term:=m.term,index:=m.index } rfl rfl (by decide) rfl
 obtain ⟨S5,q5,T5,_⟩:=T4.st 5 (.int .i64 m.at') { Letter.zero with kind:=m.kind,from':=m.from',to:=m.to,term:=m.term,index:=m.index,at':=m.at' } rfl rfl (by decide) rfl
 obtain ⟨S6,q6,T6,_⟩:=T5.st 7 (.int .i64 m.members) { Letter.zero with kind:=m.kind,from':=m.from',to:=m.to,term:=m.term,index:=m.index,at':=m.at',members:=m.members } rfl rfl (by decide) rfl
 obtain ⟨S7,q7,T7,_⟩:=T6.st 8 (.int .i64 m.off) { Letter.zero with kind:=m.kind,from':=m.from',to:=m.to,term:=m.term,index:=m.index,at':=m.at',members:=m.members,off:=m.off } rfl rfl (by decide) rfl
 obtain ⟨S8,q8,T8,_⟩:=T7.st 9 (.int .i64 m.size) { Letter.zero with kind:=m.kind,from':=m.from',to:=m.to,term:=m.term,index:=m.index,at':=m.at',members:=m.members,off:=m.off,size:=m.size } rfl rfl (by decide) rfl
 obtain ⟨S9,q9,T9,_⟩:=T8.st 11 (.str m.data) { Letter.zero with kind:=m.kind,from':=m.from',to:=m.to,term:=m.term,index:=m.index,at':=m.at',members:=m.members,off:=m.off,size:=m.size,data:=m.data } rfl rfl (by decide) rfl
 have g9:=T9.g1
 simp only [aJa,cI,fE,pX,iK,mZ,kY,aG,Nat.reduceAdd,aF,cR,uE,aL,bI gk,gB gk,dW gk,gL gk,fH gk,hM gk,mD,st9,q4,
  hM T4.g1,fH T4.g1,gL T4.g1,dW T4.g1,gB T4.g1,fX,aJ,q5,hM T5.g1,fH T5.g1,gL T5.g1,dW T5.g1,q6,hM T6.g1,fH T6.g1,gL T6.g1,q7,hM T7.g1,fH T7.g1,q8,hM T8.g1,q9,
  bI g9,gB g9,dW g9,gL g9,fH g9,hM g9,kG,aS,bR,aZ,dA,bX]
 have k5:=fun q:dB m=true=>(cU q).k5 e
 refine Ok.pickP (fun c=>iE T9.x fun q=>(k5 q).1 c) (fun c1=>?_)
 refine Ok.pickP (fun c=>iE T9.x fun q=>(k5 q).2.1 c) (fun c2=>?_)
 refine Ok.pickP (fun c=>iE T9.x fun q=>by have:=(k5 q).2.2.1;omega) (fun c3=>?_)
 refine Ok.pickP (fun c=>iE T9.x fun q=>by have:=(k5 q).2.2.2.1;omega) (fun c4=>?_)
 refine Ok.pickP (fun c=>iE T9.x fun q=>by have:=(k5 q).2.2.2.2.1;omega) (fun c5=>?_)
 refine Ok.pickP (fun c=>iE T9.x fun q=>by have:=(k5 q).2.2.2.2.2.1;omega) (fun c6=>?_)
 refine Ok.pickP (fun c=>iE T9.x fun q=>by have:=(k5 q).2.2.2.2.2.2.1;omega) (fun c7=>?_)
 refine Ok.pickP (fun c=>iE T9.x fun q=>by have:=(k5 q).2.2.2.2.2.2.2.1;omega) (fun c8=>?_)
 refine Ok.pickP (fun c=>iE T9.x fun q=>by have:=(k5 q).2.2.2.2.2.2.2.2.1;omega) (fun c9=>?_)
 refine Ok.pickP (fun c=>iE T9.x fun q=>by have:=(k5 q).2.2.2.2.2.2.2.2.2.1;omega) (fun c10=>?_)
 have hw:wr .i64 (m.size - m.off)=m.size - m.off:=cS (by omega) (by omega)
 simp only [cE,hw,aF,bX]
 refine Ok.pickP (fun c=>iE T9.x fun q=>by have:=(k5 q).2.2.2.2.2.2.2.2.2.2;omega) (fun c11=>?_)
 have hK:mB m=true:=by
  unfold mB
  rw [if_neg (by omega),if_neg (by omega),if_pos e];exact aOj c1 c2 c3 c4 c5 c6 c7 c8 c9 c10 c11
 exact (aM6 T9 hu _).mono fun v S' ⟨e2,x2⟩=>⟨by
   rw [e2,uL (by omega),hR,hK,Bool.and_true,show gG m=lW m { Letter.zero with index:=m.index,at':=m.at',members:=m.members,off:=m.off,size:=m.size,data:=m.data } by unfold gG;rw [if_neg (by omega),if_neg (by omega),if_neg (by omega),if_neg (by omega),if_pos e]];rfl,x2⟩
theorem bBa {S0 S:St} (m:Letter) (u:V) {b1:Nat} (x1:Ext S0 S) (w0:WF S0) (g1:S.heap.get b1=some (.row 0 13 [aO m u])) (hu:Sl S0 3 u (m.entries.map bM)) (hlen:m.entries.length≤1000000) (hc:aB2 m) (c1:¬ m.kind<1) (c2:¬ 6<m.kind):
  Ok (fun k K=>aKv (aE prog aW aX k) k K b1 S) (fun v S'=>v=.bool (dB m)∧Ext S0 S'):=by
 have w1:=x1.wf w0
 obtain ⟨S2,S3,q1,q2,x3,g2,n3⟩:=vb w1 13 zL (.agg (aO { Letter.zero with kind:=m.kind,from':=m.from',to:=m.to,term:=m.term } .nils)) rfl rfl rfl
 rw [bH] at g2
 have T:Two S0 S3 m { Letter.zero with kind:=m.kind,from':=m.from',to:=m.to,term:=m.term } u b1 S.next:=⟨x1.trans x3,w0,x3.wf w1,x3.old _ _ g1,g2,fun e=>by have:=w1 _ _ g1;omega,x1.next⟩
 have gk:=T.g1
 have q1':bF none S (.row 0 13 [[.int .i64 0,.int .i64 0,.int .i64 0,.int .i64 0,.int .i64 0,.int .i64 0,.int .i64 0,.int .i64 0,.int .i64 0,.int .i64 0,.bool false,.str [],.nils]])=.ok (S.next,S2):=q1
 simp only [aKv,lT,cW,vU,kO,aG,aF,cR,jV g1,cG g1,aH0 g1,kP g1,jB,aWy,q1',aW8,q2,jV gk,aS,aJ,bR]
 refine Ok.pickP (fun e=>bB4 T hu hc e) (fun k1=>?_)
 refine Ok.pickP (fun e=>bB5 T hu hc e) (fun k2=>?_)
 refine Ok.pickP (fun e=>bB8 T hu hlen hc e) (fun k3=>?_)
 refine Ok.pickP (fun e=>bB6 T hu hc e) (fun k4=>?_)
 refine Ok.pickP (fun e=>bB9 T hu hc e) (fun k5=>?_)
 refine Ok.pickP (fun e=>bB7 T hu hc e) (fun k6=>?_)
 omega
theorem g73 (m:Letter) (u:V) (S:St) (w:WF S) (hu:Sl S 3 u (m.entries.map bM)) (hlen:m.entries.length≤1000000):mG 73 [.agg (aO m u)] S (.bool (dB m)):=by
 have ho:=cB m hu.one
 have hln:(aO m u).length=13:=rfl
 obtain ⟨S1,hn1,x1,g1,hnx1⟩:=nb w 13 (aO m u)
 have w1:=x1.wf w
 refine e73 ?_
 simp only [aOk,bH,ho,hln,aJ,hn1,aF,lT,cW,vU,kO,cI,fE,oG,aG,cR,jV g1,cG g1,aH0 g1,kP g1,bI g1,gB g1,fL g1,aS,aZ,bX,dA,bR]
 refine Ok.pickP (fun e=>iE x1 fun q=>by have:=(aKu q).1;omega) (fun c1=>?_)
 refine Ok.pickP (fun e=>iE x1 fun q=>by have:=(aKu q).2;omega) (fun c2=>?_)
 refine Ok.pickP (fun e=>iE x1 fun q=>by have:=(cU q).f0;omega) (fun c3=>?_)
 refine Ok.pickP (fun e=>iE x1 fun q=>by have:=(cU q).f1;omega) (fun c4=>?_)
 refine Ok.pickP (fun e=>iE x1 fun q=>by have:=(cU q).t0;omega) (fun c5=>?_)
 refine Ok.pickP (fun e=>iE x1 fun q=>by have:=(cU q).t1;omega) (fun c6=>?_)
 refine Ok.pickP (fun e=>iE x1 fun q=>(cU q).ne e) (fun c7=>?_)
 refine Ok.pickP (fun e=>iE x1 fun q=>by have:=(cU q).tm0;omega) (fun c8=>?_)
 refine Ok.pickP (fun e=>iE x1 fun q=>by have:=(cU q).tm1;omega) (fun c9=>?_)
 refine Ok.pickP (fun e=>iE x1 fun q=>by have:=(cU q).i0;omega) (fun c10=>?_)
 refine Ok.pickP (fun e=>iE x1 fun q=>by have:=(cU q).i1;omega) (fun c11=>?_)
 refine Ok.pickP (fun e=>iE x1 fun q=>by have:=(cU q).a0;omega) (fun c12=>?_)
 refine Ok.pickP (fun e=>iE x1 fun q=>by have:=(cU q).a1;omega) (fun c13=>?_)
 refine Ok.pickP (fun e=>iE x1 fun q=>by have:=(cU q).c0;omega) (fun c14=>?_)
 refine Ok.pickP (fun e=>iE x1 fun q=>by have:=(cU q).c1;omega) (fun c15=>?_)
 have hc:aB2 m:=⟨by omega,by omega,by omega,by omega,c7,by omega,by omega,by omega,by omega,by omega,by omega,by omega,by omega⟩
 exact bBa m u x1 w g1 hu hlen hc c1 c2
end
section
variable [Guard]
section
variable {S:St} {a b:Nat} {c:Core} {O:Nat→Prop}
theorem bBb (m:Letter) (ev:V) (w:WF S) (h:WIn S a c O) (ok:Hok c.h) (L:LetIn S O b m ev) (hl:c.out.length≤999990) (q:Bool):
  Ok (fun k K=>vF (aE prog aW aX k) k K (.ptr a 0 0 0) (.ptr b 0 0 0) (.bool q) S) (fun u S'=>u=.tup []∧∃ O',WIn S' a (if q=true then c.post { Letter.zero with kind:=4,to:=m.from',index:=c.last } else c) O'∧Mv O S O' S'):=by
 cases q with
 | false=>
  simp only [vF,aK,if_neg (by decide:¬ false=true)]
  exact Ok.ret ⟨rfl,O,h,Mv.refl O S⟩
 | true=>
  have xb:Ext S (⟨S.next+7,S.heap⟩:St):=(Ext.refl S).bump 7
  simp only [vF,bA,if_true,cW,aG,Nat.reduceAdd,aF,cR,aL,cG L.box]
  refine (g43 (h.ext w xb) ok).call fun S1 x1=>?_
  have x01:=xb.trans x1
  have w1:=x01.wf w
  simp only [cG (L.ext x01).box,aF,bO,aJ,jB,qE]
  exact WMeth.call (g71 _ .nils w1 (h.ext w x01) (Apart.nil _ _ rfl) (dN hl)) w1 fun S2 O2 w2 in2 m2=>Ok.ret ⟨rfl,O2,in2,(Mv.of x01).trans w m2⟩
theorem bBc (m:Letter) (ev:V) (w:WF S) (h:WIn S a c O) (I:Inv c) (okm:Lok m) (L:LetIn S O b m ev) (hl:c.out.length≤999990) (q:Bool) (hq:q=true→c.role=2):
  Ok (fun k K=>vG (aE prog aW aX k) k K (.ptr a 0 0 0) (.ptr b 0 0 0) (.bool q) S) (fun u S'=>u=.tup []∧∃ O',WIn S' a (if q=true then (if jG ({ c with votes:=kE c.votes m.from' }:Core).members (kE c.votes m.from')=true then ({ c with votes:=kE c.votes m.from' }:Core).lead else { c with votes:=kE c.votes m.from' }) else c) O'∧Mv O S O' S'):=by
 cases q with
 | false=>
  simp only [vG,aK,if_neg (by decide:¬ false=true)]
  exact Ok.ret ⟨rfl,O,h,Mv.refl O S⟩
 | true=>
  have hr:=hq rfl
  have f0:=okm.f0
  have f1:=okm.f1
  obtain ⟨n,hn⟩:∃ n:Nat,m.from'=(n:Int):=⟨m.from'.toNat,by omega⟩
  have hn7:n<7:=by omega
  have hin:=h
  obtain ⟨lv,ov,rows,h,hO⟩:=h
  have xb:Ext S (⟨S.next+12,S.heap⟩:St):=(Ext.refl S).bump 12
  have wb:=xb.wf w
  obtain ⟨S2,q2,h2,m2,n2⟩:=(h.ext w xb).w_votes wb (kE c.votes m.from')
  rw [←hO] at m2
  have w2:=m2.wf wb
  have hor:aD prog .or 3 (.int .i64 c.votes) (.int .i64 ((2:Int) ^ n))=.ok (.int .i64 (kE c.votes m.from')):=by
   rw [hn];simp only [aD,bU,cond_true,eE,aO0 I.v0 I.v1 hn7]
  have xb2:Ext S2 (⟨S2.next+7,S2.heap⟩:St):=(Ext.refl S2).bump 7
  have hvr:=sY I.v0 I.v1 f0 (by omega:m.from'<7)
  have mv2:=(Mv.of (O:=O) xb).trans w m2
  have in2:WIn S2 a { c with votes:=kE c.votes m.from' } O:=⟨_,_,_,h2,hO⟩
  have hfrom:aR none (.ptr b 0 0 1) S=.ok (.int .i64 (n:Int)):=by rw [←hn];exact cG L.box
  simp only [vG,bA,if_true,aI,aNp,cW,aG,Nat.reduceAdd,aF,cR,aL,h.r_votes,hfrom,aB0 hn7,hor,mD,q2,h2.r_votes]
  refine (g75 (xb2.wf w2) (in2.ext w2 xb2) I.h).call fun S3 x3=>?_
  have x23:=xb2.trans x3
  have w3:=x23.wf w2
  have h3:=h2.ext w2 x23
  simp only [h3.r_votes,aF,bO,aJ]
  refine (g69 _ _ S3 hvr.1 hvr.2).call fun S4 x4=>?_
  have w4:=x4.wf w3
  have in4:=in2.ext w2 (x23.trans x4)
  have mv4:=mv2.trans w (Mv.of (x23.trans x4))
  refine Ok.pick (fun e3=>?_) (fun e3=>?_)
  ·rw [if_pos e3]
   exact WMeth.call (g70 w4 in4 I.h I.i0 I.i1 (by show 1≤c.h.term;exact I.tm (by rw [hr];decide)) I.s0 I.s1 hl) w4 fun S5 O5 w5 in5 m5=>Ok.ret ⟨rfl,O5,in5,mv4.trans w m5⟩
  ·rw [if_neg (fun q=>by rw [q] at e3;cases e3)]
   exact Ok.ret ⟨rfl,O,in4,mv4⟩
theorem bBd (m:Letter) (ev:V) (w:WF S) (h:WIn S a c O) (I:Inv c) (okm:Lok m) (L:LetIn S O b m ev) (hl:c.out.length≤999990) (q:Bool) (hq:q=true→c.role=3∧0≤m.off∧m.off<(c.h.snap.length:Int)):
  Ok (fun k K=>mW (aE prog aW aX k) k K (.ptr a 0 0 0) (.ptr b 0 0 0) (.bool q) S) (fun u S'=>u=.tup []∧∃ O',WIn S' a (if q=true then (c.setPeer m.from' { c.peer m.from' with off:=m.off }).send m.from' else c) O'∧Mv O S O' S'):=by
 cases q with
 | false=>
  simp only [mW,aK,if_neg (by decide:¬ false=true)]
  exact Ok.ret ⟨rfl,O,h,Mv.refl O S⟩
 | true=>
  obtain ⟨hr,ho0,ho1⟩:=hq rfl
  have f0:=okm.f0
  have f1:=okm.f1
  have f7:m.from'<7:=by omega
  obtain ⟨n,hn⟩:∃ n:Nat,m.from'=(n:Int):=⟨m.from'.toNat,by omega⟩
  have hn7:n<7:=by omega
  have hpe:c.peers.getD n ⟨0,0,0⟩=c.peer m.from':=by rw [hn];rfl
  have hin:=h
  obtain ⟨lv,ov,rows,h,hO⟩:=h
  have xb:Ext S (⟨S.next+9,S.heap⟩:St):=(Ext.refl S).bump 9
  have wb:=xb.wf w
  have hpk:=I.pr hr _ (mS I.pl f0 f7)
  obtain ⟨S3,r3,h3,m3,n3⟩:=(h.ext w xb).w_off wb hn7 m.off
  rw [hpe] at h3
  have hsp:∀ p:Peer,({ c with peers:=c.peers.set n p }:Core)=c.setPeer m.from' p:=fun p=>by unfold Core.setPeer;rw [hn];rfl
  rw [hsp] at h3
  rw [←hO] at m3
  have w3:=m3.wf wb
  have L3:=(L.ext xb).mv wb m3
  have hfrom:aR none (.ptr b 0 0 1) S=.ok (.int .i64 (n:Int)):=by rw [←hn];exact cG L.box
  simp only [mW,bA,if_true,aI,oH,cW,iK,aG,Nat.reduceAdd,aF,cR,aL,hfrom,gL L.box,qH,eK hn7,mD,r3,cG L3.box]
  have hpp:({ c with peers:=c.peers.set n { c.peer m.from' with off:=m.off } }:Core).peer m.from'={ c.peer m.from' with off:=m.off }:=by rw [hn];exact iC I.pl hn7 _
  rw [hsp] at hpp
  refine WMeth.call (g79 w3 ⟨_,_,_,h3,hO⟩ I.h (dN hl) f0 f7 ?_) w3 fun S4 O4 w4 in4 m4=>Ok.ret ⟨rfl,O4,in4,((Mv.of xb).trans w m3).trans w m4⟩
  rw [hpp]
  exact ⟨hpk.a0,hpk.a1,hpk.n0,hpk.n1,ho0,.inl ho1⟩
end
end
section
variable [Guard]
section
variable {S:St} {a b:Nat} {c:Core} {O:Nat→Prop}
theorem aWz (m:Letter) (ev:V) (w:WF S) (h:WIn S a c O) (I:Inv c) (ok:Lok m) (L:LetIn S O b m ev) (hl:c.out.length≤999990):
  Ok (fun k K=>aE4 (aE prog aW aX k) k K (.ptr a 0 0 0) (.ptr b 0 0 0) S) (fun u S'=>u=.tup []∧∃ O',WIn S' a (eQ c m) O'∧Mv O S O' S'):=by
 have xb:Ext S (⟨S.next+8,S.heap⟩:St):=(Ext.refl S).bump 8
 have wb:=xb.wf w
 have inb:=h.ext w xb
 have Lb:=L.ext xb
 have f0:=ok.f0
 have f1:=ok.f1
 obtain ⟨n,hn⟩:∃ n:Nat,m.from'=(n:Int):=⟨m.from'.toNat,by omega⟩
 have hn7:n<7:=by omega
 have hpe:c.peers.getD n ⟨0,0,0⟩=c.peer m.from':=by rw [hn];rfl
 obtain ⟨lv,ov,rows,hc,hO⟩:=h
 have v1:=hc.r_next hn7
 have v2:=hc.r_off hn7
 rw [hpe] at v1 v2
 have hfrom:aR none (.ptr b 0 0 1) S=.ok (.int .i64 (n:Int)):=by rw [←hn];exact cG L.box
 have ap:Apart (⟨S.next+8,S.heap⟩:St) O m ev:=⟨Lb.ents,Lb.off⟩
 have fin:∀ {f:FuncId} {c':Core},WMeth f [.ptr a 0 0 0,.agg (aO m ev)] a c' (⟨S.next+8,S.heap⟩:St) O (.tup [])→eQ c m=c'→Ok (fun k K=>aE prog aW aX k f [.ptr a 0 0 0,.agg (aO m ev)] (⟨S.next+8,S.heap⟩:St) fun t S'=>K (.tup []) S') (fun u S'=>u=.tup []∧∃ O',WIn S' a (eQ c m) O'∧Mv O S O' S'):=fun hm e=>
  WMeth.call hm wb fun S1 O1 w1 in1 m1=>Ok.ret ⟨rfl,O1,by rw [e];exact in1,(Mv.of xb).trans w m1⟩
 have nop:∀ S',Ext S S'→eQ c m=c→Ok (fun (k:Nat) (K:KS)=>K (.tup []) S') (fun u S'=>u=.tup []∧∃ O',WIn S' a (eQ c m) O'∧Mv O S O' S'):=fun S' x e=>Ok.ret ⟨rfl,O,by rw [e];exact WIn.ext ⟨lv,ov,rows,hc,hO⟩ w x,Mv.of x⟩
 simp only [aE4,kO,lT,aI,dI,eO,aG,Nat.reduceAdd,aF,cR,uD,aL,kP L.box,jV L.box,nP L.box,hc.r_term,aZ,aS,aJ,bR]
 refine Ok.pickP (fun e=>?_) (fun e=>?_)
 ·
  have late:∀ q:Bool,(q=decide (m.kind=3∨m.kind=5))→¬ m.kind=1→Ok (fun k K=>vF (aE prog aW aX k) k K (.ptr a 0 0 0) (.ptr b 0 0 0) (.bool q) (⟨S.next+8,S.heap⟩:St)) (fun u S'=>u=.tup []∧∃ O',WIn S' a (eQ c m) O'∧Mv O S O' S'):=fun q hq h1=>by
   refine (bBb m ev wb inb I.h Lb hl q).mono fun u S1 ⟨eu,O1,i1,m1⟩=>⟨eu,O1,?_,(Mv.of xb).trans w m1⟩
   have ht:eQ c m=if q=true then c.post { Letter.zero with kind:=4,to:=m.from',index:=c.last } else c:=by
    unfold eQ Core.late
    rw [if_pos e,if_neg h1,hq]
    by_cases h3:m.kind=3∨m.kind=5
    ·rw [if_pos h3,decide_eq_true h3];rfl
    ·rw [if_neg h3,decide_eq_false h3];rfl
   rw [ht];exact i1
  refine Ok.pickP (fun h1=>?_) (fun h1=>?_)
  ·simp only [cW,aG,Nat.reduceAdd,aF,cR,aL,cG L.box,jB,aRd]
   refine WMeth.call (g71 _ .nils wb inb (Apart.nil _ _ rfl) (dN hl)) wb fun S1 O1 w1 in1 m1=>Ok.ret ⟨rfl,O1,?_,(Mv.of xb).trans w m1⟩
   have ht:eQ c m=c.post { Letter.zero with kind:=2,to:=m.from' }:=by unfold eQ Core.late;rw [if_pos e,if_pos h1]
   rw [ht];exact in1
  ·refine Ok.pickP (fun h3=>late true (decide_eq_true (Or.inl h3)).symm h1) (fun h3=>?_)
   refine late _ ?_ h1
   by_cases h5:m.kind=5
   ·rw [decide_eq_true h5,decide_eq_true (Or.inr h5)]
   ·rw [decide_eq_false h5,decide_eq_false (fun q=>q.elim h3 h5)]
 refine Ok.pickP (fun e1=>fin (g74 m ev wb inb I.h Lb.ents hl) (by unfold eQ;rw [if_neg e,if_pos e1])) (fun e1=>?_)
 refine Ok.pickP (fun e2=>?_) (fun e2=>?_)
 ·
  have ht:eQ c m=c.voted m:=by unfold eQ;rw [if_neg e,if_neg e1,if_pos e2]
  rw [ht]
  have go:∀ q:Bool,(q=true→c.role=2)→c.voted m=(if q=true then (if jG ({ c with votes:=kE c.votes m.from' }:Core).members (kE c.votes m.from')=true then ({ c with votes:=kE c.votes m.from' }:Core).lead else { c with votes:=kE c.votes m.from' }) else c)→Ok (fun k K=>vG (aE prog aW aX k) k K (.ptr a 0 0 0) (.ptr b 0 0 0) (.bool q) (⟨S.next+8,S.heap⟩:St)) (fun u S'=>u=.tup []∧∃ O',WIn S' a (c.voted m) O'∧Mv O S O' S'):=fun q hq hv=>
   (bBc m ev wb inb I ok Lb hl q hq).mono fun u S1 ⟨eu,O1,i1,m1⟩=>⟨eu,O1,by rw [hv];exact i1,(Mv.of xb).trans w m1⟩
  simp only [aI,gQ,jY,aG,Nat.reduceAdd,aF,cR,ld4,aL,hc.r_role,mR L.box,aS,aJ,bR]
  refine Ok.pickP (fun hr=>go _ (fun _=>hr) ?_) (fun hr=>go false (fun q=>by cases q) ?_)
  ·unfold Core.voted
   cases hy:m.yes with
   | true=>rw [if_neg (fun q=>by rcases q with q | q;exact q hr;cases q)];rfl
   | false=>rw [if_pos (.inr rfl)];rfl
  ·unfold Core.voted;rw [if_pos (.inl hr)];rfl
 refine Ok.pickP (fun e3=>fin (g76 m ev wb inb I ok e3 ap hl) (by unfold eQ;rw [if_neg e,if_neg e1,if_neg e2,if_pos e3])) (fun e3=>?_)
 refine Ok.pickP (fun e4=>fin (g77 m ev wb inb I ok Lb.ents hl) (by unfold eQ;rw [if_neg e,if_neg e1,if_neg e2,if_neg e3,if_pos e4])) (fun e4=>?_)
 refine Ok.pickP (fun e5=>fin (g78 m ev wb inb I ok e5 ap hl) (by unfold eQ;rw [if_neg e,if_neg e1,if_neg e2,if_neg e3,if_neg e4,if_pos e5])) (fun e5=>?_)
 refine Ok.pickP (fun e6=>?_) (fun e6=>nop _ xb (by unfold eQ;rw [if_neg e,if_neg e1,if_neg e2,if_neg e3,if_neg e4,if_neg e5,if_neg e6]))
 have ht:eQ c m=c.more m:=by unfold eQ;rw [if_neg e,if_neg e1,if_neg e2,if_neg e3,if_neg e4,if_neg e5,if_pos e6]
 rw [ht]
 have k6:=ok.k6 e6
 have xd:Ext S (⟨S.next+8+53,S.heap⟩:St):=(Ext.refl S).bump (8+53)
 have wd:=xd.wf w
 have hA:c.more m=if c.role≠3∨m.index≠c.h.base∨c.h.base<(c.peer m.from').next∨(c.h.snap.length:Int)≤m.off∨m.off=(c.peer m.from').off then c else (c.setPeer m.from' { c.peer m.from' with off:=m.off }).send m.from':=rfl
 have go:∀ q:Bool,(q=true→c.role=3∧0≤m.off∧m.off<(c.h.snap.length:Int))→c.more m=(if q=true then (c.setPeer m.from' { c.peer m.from' with off:=m.off }).send m.from' else c)→Ok (fun k K=>mW (aE prog aW aX k) k K (.ptr a 0 0 0) (.ptr b 0 0 0) (.bool q) (⟨S.next+8+53,S.heap⟩:St)) (fun u S'=>u=.tup []∧∃ O',WIn S' a (c.more m) O'∧Mv O S O' S'):=fun q hq hv=>
  (bBd m ev wd (WIn.ext ⟨lv,ov,rows,hc,hO⟩ w xd) I ok (L.ext xd) hl q hq).mono fun u S1 ⟨eu,O1,i1,m1⟩=>⟨eu,O1,by rw [hv];exact i1,(Mv.of xd).trans w m1⟩
 have no:(c.role≠3∨m.index≠c.h.base∨c.h.base<(c.peer m.from').next∨(c.h.snap.length:Int)≤m.off∨m.off=(c.peer m.from').off)→Ok (fun k K=>mW (aE prog aW aX k) k K (.ptr a 0 0 0) (.ptr b 0 0 0) (.bool false) (⟨S.next+8+53,S.heap⟩:St)) (fun u S'=>u=.tup []∧∃ O',WIn S' a (c.more m) O'∧Mv O S O' S'):=fun hq=>go false (fun q=>by cases q) (by rw [hA,if_pos hq];rfl)
 simp only [aI,gQ,dI,vV,oH,dM,kN,cI,cW,iK,aG,Nat.reduceAdd,aF,cR,uE,aL,hc.r_role,hc.r_base,hc.r_snap,bI L.box,hfrom,gL L.box,qH,eK hn7,v1,v2,kG,aS,aJ,bR,dH,aZ,cJ]
 refine Ok.pickP (fun r1=>?_) (fun r1=>no (.inl r1))
 refine Ok.pickP (fun r2=>?_) (fun r2=>no (.inr (.inl r2)))
 refine Ok.pickP (fun r3=>?_) (fun r3=>no (.inr (.inr (.inl (Int.not_le.1 r3)))))
 refine Ok.pickP (fun r4=>?_) (fun r4=>no (.inr (.inr (.inr (.inl (Int.not_lt.1 r4))))))
 refine go _ (fun _=>⟨r1,k6.2.1,r4⟩) ?_
 rw [hA]
 by_cases r5:m.off=(c.peer m.from').off
 ·rw [if_pos (.inr (.inr (.inr (.inr r5)))),decide_eq_true r5];rfl
 ·rw [if_neg (fun q=>by
   rcases q with q | q | q | q | q
   ·exact q r1
   ·exact q r2
   ·exact absurd r3 (Int.not_le.2 q)
   ·exact absurd r4 (Int.not_lt.2 q)
   ·exact r5 q),decide_eq_false r5];rfl
theorem g38 (m:Letter) (ev:V) (w:WF S) (h:WIn S a c O) (I:Inv c) (he:Apart S O m ev) (hlen:m.entries.length≤1000000) (hl:c.out.length≤999990):WMeth 38 [.ptr a 0 0 0,.agg (aO m ev)] a (c.take m) S O (.tup []):=by
 have ho:=cB m he.1.one
 have hln:(aO m ev).length=13:=rfl
 obtain ⟨S1,hn1,x1,hg1,hnx1⟩:=nb w 13 (aO m ev)
 have w1:=x1.wf w
 have in1:=h.ext w x1
 have hno:¬ O S.next:=fun hO=>absurd (aAz w h _ hO) (Nat.lt_irrefl _)
 have L1:LetIn S1 O S.next m ev:=⟨hg1,hno,he.1.ext x1,he.2⟩
 have hT:c.take m=if c.passed m=true then c else eQ (if c.h.term<m.term then { c with h:={ c.h with term:=m.term,vote:=-1 },role:=1,leads:=-1 } else c) m:=rfl
 rw [hT]
 have xb:Ext S1 (⟨S1.next+12,S1.heap⟩:St):=(Ext.refl S1).bump 12
 have wb:=xb.wf w1
 have hw:wr .i64 (c.drawn - c.left)=c.drawn - c.left:=by have:=I.d0;have:=I.d1;have:=I.f0;have:=I.f1;exact cS (by omega) (by omega)
 refine e38 ?_
 simp only [m38,bH,ho,hln,aJ,hn1,aF,uD,aL,nP hg1]
 refine (g73 m ev _ wb (L1.ext xb).ents hlen).call fun S2 x2=>?_
 have x12:=xb.trans x2
 have x02:=x1.trans x12
 have w2:=x02.wf w
 have in2:=h.ext w x02
 have L2:=L1.ext x12
 have xc:Ext S2 (⟨S2.next+29,S2.heap⟩:St):=(Ext.refl S2).bump 29
 have wc:=xc.wf w2
 have ret:∀ S',Ext S S'→c.passed m=true→Ok (fun (k:Nat) (K:KS)=>K (.tup []) S') (fun u S'=>u=.tup []∧∃ O',WIn S' a (if c.passed m=true then c else eQ (if c.h.term<m.term then { c with h:={ c.h with term:=m.term,vote:=-1 },role:=1,leads:=-1 } else c) m) O'∧Mv O S O' S'):=fun S' x e=>Ok.ret ⟨rfl,O,by rw [if_pos e];exact h.ext w x,Mv.of x⟩
 simp only [dS,aF]
 refine Ok.pick (fun e=>ret _ x02 (by unfold Core.passed;rw [if_pos (.inl (by simpa using e))])) (fun e=>?_)
 have hr:dB m=true:=by simpa using e
 have ok:=cU hr
 have hin2:=in2
 obtain ⟨lv,ov,rows,h2,hO⟩:=in2
 simp only [aI,lU,vU,aG,Nat.reduceAdd,aF,cR,aH0 L2.box,h2.r_id,aS,aJ,cJ]
 refine Ok.pickN (fun e2=>ret _ x02 (by unfold Core.passed;rw [if_pos (.inr e2)])) (fun e2=>?_)
 have hp:c.passed m=(decide (m.kind=1)&&(decide (c.role=3)||(decide (c.leads≠-1)&&decide (c.drawn - c.left<10)))):=by
  unfold Core.passed;rw [if_neg (fun q=>by
   rcases q with q | q
   ·rw [q] at hr;cases hr
   ·exact q e2)]
 have go:c.passed m=false→Ok (fun k K=>zO (aE prog aW aX k) k K (.ptr a 0 0 0) (.ptr S.next 0 0 0) (⟨S2.next+29,S2.heap⟩:St)) (fun u S'=>u=.tup []∧∃ O',WIn S' a (if c.passed m=true then c else eQ (if c.h.term<m.term then { c with h:={ c.h with term:=m.term,vote:=-1 },role:=1,leads:=-1 } else c) m) O'∧Mv O S O' S'):=fun hpf=>by
  rw [if_neg (by rw [hpf];decide)]
  have xd:Ext S2 (⟨S2.next+29+8,S2.heap⟩:St):=(Ext.refl S2).bump (29+8)
  have wd:=xd.wf w2
  have Lc:=L2.ext xc
  have hc:=h2.ext w2 xc
  have x0c:=x02.trans xc
  have x0d:=x02.trans xd
  simp only [zO,kO,aI,dI,gQ,sS,eO,kM,aG,Nat.reduceAdd,aF,cR,aL,kP L2.box,h2.r_term,bX]
  refine Ok.pickP (fun e2=>?_) (fun e2=>?_)
  ·rw [if_pos e2]
   obtain ⟨S3,q3,h3,m3,_⟩:=(h2.ext w2 xd).w_term wd m.term
   have w3:=m3.wf wd
   obtain ⟨S4,q4,h4',m4,_⟩:=h3.w_vote w3 (-1)
   have h4:WAt S4 a { c with h:={ c.h with term:=m.term,vote:=-1 } } (gC c.way) lv ov rows:=h4'
   clear h4'
   have w4:=m4.wf w3
   obtain ⟨S5,q5,h5',m5,_⟩:=h4.w_role w4 1
   have h5:WAt S5 a { c with h:={ c.h with term:=m.term,vote:=-1 },role:=1 } (gC c.way) lv ov rows:=h5'
   clear h5'
   have w5:=m5.wf w4
   obtain ⟨S6,q6,h6',m6,_⟩:=h5.w_leads w5 (-1)
   have h6:WAt S6 a { c with h:={ c.h with term:=m.term,vote:=-1 },role:=1,leads:=-1 } (gC c.way) lv ov rows:=h6'
   clear h6'
   have w6:=m6.wf w5
   rw [←hO] at m3 m4 m5 m6
   have mv6:=((((Mv.of (O:=O) x0d).trans w m3).trans w m4).trans w m5).trans w m6
   have L6:=((((L2.ext xd).mv wd m3).mv w3 m4).mv w4 m5).mv w5 m6
   simp only [mD,q3,q4,q5,q6,aF]
   exact (aWz m ev w6 ⟨_,_,_,h6,hO⟩ (Inv.newTerm I e2 ok.tm1) ok L6 hl).mono fun u S7 ⟨e7,O7,i7,m7⟩=>⟨e7,O7,i7,mv6.trans w m7⟩
  ·rw [if_neg e2]
   exact (aWz m ev wd (hin2.ext w2 xd) I ok (L2.ext xd) hl).mono fun u S7 ⟨e7,O7,i7,m7⟩=>⟨e7,O7,i7,(Mv.of x0d).trans w m7⟩
 simp only [aI,gQ,sS,aA1,oI,lT,aG,Nat.reduceAdd,aF,cR,aL,jV L2.box,h2.r_role,h2.r_leads,h2.r_drawn,h2.r_left,aS,aJ,cJ,bR,cE,hw,aZ]
 refine Ok.pickP (fun e3=>?_) (fun e3=>go (by rw [hp,decide_eq_false e3];rfl))
 refine Ok.pickP (fun e4=>ret _ (x02.trans xc) (by rw [hp,decide_eq_true e3,decide_eq_true e4];rfl)) (fun e4=>?_)
 refine Ok.pickN (fun e5=>?_) (fun e5=>go (by rw [hp,decide_eq_true e3,decide_eq_false e4,decide_eq_false (fun q=>q e5)];rfl))
 refine Ok.pickP (fun e6=>ret _ (x02.trans xc) (by rw [hp,decide_eq_true e3,decide_eq_true e5,decide_eq_true e6,Bool.and_self,Bool.or_true];rfl)) (fun e6=>go (by rw [hp,decide_eq_true e3,decide_eq_false e4,decide_eq_true e5,decide_eq_false e6];rfl))
end
end
end Go.Proofs.Ytbiidlmhadihlaa
end
section
namespace Go.Raft
open Go.AM
variable [Guard]
theorem WAt.w_offs {S:St} {a:Nat} {c:Core} {k:Came} {lv ov:V} {rows:List (List V)} (h:WAt S a c k lv ov rows) (w:WF S):
  ∃ S',bV 7 (.ptr a 0 0 28) (.agg [.int .i64 0,.int .i64 0,.int .i64 0,.int .i64 0,.int .i64 0,.int .i64 0,.int .i64 0]) S=.ok S'∧WAt S' a { c with peers:=c.peers.map fun p=>{ p with off:=0 } } k lv ov rows∧Mv (dP a lv ov) S (dP a lv ov) S':=by
 have hl:=gI c k lv ov h.peers
 have e:=dD (x:=.agg [.int .i64 0,.int .i64 0,.int .i64 0,.int .i64 0,.int .i64 0,.int .i64 0,.int .i64 0]) (j:=28) (m:=7) h.cell rfl rfl (by omega)
 rw [show (V.agg [.int .i64 0,.int .i64 0,.int .i64 0,.int .i64 0,.int .i64 0,.int .i64 0,.int .i64 0]).cells=[.int .i64 0,.int .i64 0,.int .i64 0,.int .i64 0,.int .i64 0,.int .i64 0,.int .i64 0] from rfl,aHe c k lv ov h.peers] at e
 have hp:({ c with peers:=c.peers.map fun p=>{ p with off:=0 } }:Core).peers.length=7:=by show (c.peers.map _).length=7;rw [List.length_map];exact h.peers
 exact ⟨_,e,(h.put w { c with peers:=c.peers.map fun p=>{ p with off:=0 } } k rfl rfl hp).1,(h.put w { c with peers:=c.peers.map fun p=>{ p with off:=0 } } k rfl rfl hp).2⟩
end Go.Raft
namespace Go.Proofs.Ytbiidlmhadihlaa
open Go.AM Go.Raft Try
set_option linter.unusedVariables false
set_option linter.unusedSectionVars false
set_option linter.unusedSimpArgs false
set_option maxRecDepth 100000
variable [Guard]
theorem aX0:bQ prog 42 []=.ok (.agg [.int .i64 0,.int .i64 0,.int .i64 0,.int .i64 0,.int .i64 0,.int .i64 0,.int .i64 0]):=by kernel_rfl
theorem aQk {c:Core} (ok:Hok c.h) {n:Int} (h1:¬ n≤c.h.base) (h2:n≤c.last):c.h.base≤n∧wr .i64 (n - c.h.base)=n - c.h.base∧0≤n - c.h.base∧(n - c.h.base).toNat≤c.h.log.length∧n - c.h.base≤(c.h.log.length:Int)∧(c.h.log.drop (n - c.h.base).toNat).length≤200∧(c.h.log.take (n - c.h.base).toNat).length≤1000000:=by
 have hb0:=ok.b0
 have hb1:=ok.b1
 have hll:=ok.ll
 have hlast:c.last=c.h.base+c.h.log.length:=rfl
 refine ⟨by omega,cS (by omega) (by omega),by omega,by omega,by omega,by rw [List.length_drop];omega,by rw [List.length_take];omega⟩
theorem aM7 {S T:St} {v:V} {es:List (List V)} {k n:Nat} (hv:v=.sl (S.next+k) 1 3 0 es.length) (hk:k<n) (hn:T.next=S.next+n) (g:T.heap.get (S.next+k)=some (.row 1 3 es)) (hl:∀ c∈es,c.length=3∧aU c=true):Own S T 3 v es:=
 ⟨.inr ⟨S.next+k,1,[],hv,by omega,by omega,by rw [List.append_nil];exact g⟩,hl⟩
section
variable {S:St} {a b:Nat} {c:Core} {O:Nat→Prop}
theorem g41 (index:Int) (snap:List UInt8) (w:WF S) (h:WIn S a c O) (I:Inv c):
  WMeth 41 [.ptr a 0 0 0,.int .i64 index,.str snap] a (c.compact index snap).1 S O (.int .i64 (c.compact index snap).2):=by
 have ok:=I.h
 have hs1:=I.s1
 have hin:=h
 obtain ⟨lv,ov,rows,h,hO⟩:=h
 have no:(index≤c.h.base∨c.sure<index∨snap=[]∨65536<snap.length)→c.compact index snap=(c,1):=fun hq=>by unfold Core.compact;rw [if_pos hq]
 have noS:c.compact index snap=(c,1)→Ok (fun (k:Nat) (K:KS)=>K (.int .i64 1) S) (fun u S'=>u=.int .i64 (c.compact index snap).2∧∃ O',WIn S' a (c.compact index snap).1 O'∧Mv O S O' S'):=fun e=>by
  rw [e];exact Ok.ret ⟨rfl,O,hin,Mv.refl O S⟩
 refine e41 ?_
 simp only [m41,aI,dI,jP,dM,aG,Nat.reduceAdd,aF,cR,h.r_base,h.r_sure,dH,bX,gN,aJ,mP,nO,kG]
 refine Ok.pickP (fun e=>noS (no (.inl e))) (fun e=>?_)
 refine Ok.pickP (fun e2=>noS (no (.inr (.inl e2)))) (fun e2=>?_)
 refine Ok.pickP (fun e3=>noS (no (.inr (.inr (.inl e3))))) (fun e3=>?_)
 refine Ok.pickP (fun e4=>noS (no (.inr (.inr (.inr (Int.ofNat_lt.1 e4)))))) (fun e4=>?_)
 have hn:¬ (index≤c.h.base∨c.sure<index∨snap=[]∨65536<snap.length):=fun q=>by
  rcases q with q | q | q | q
  ·exact e q
  ·exact e2 q
  ·exact e3 q
  ·exact e4 (Int.ofNat_lt.2 q)
 have hC:c.compact index snap=({ c with h:={ c.h with base:=index,baseTerm:=c.term index,members:=(eP { c.h with log:=c.h.log.take (index - c.h.base).toNat }).1,snap:=snap,log:=c.h.log.drop (index - c.h.base).toNat },peers:=c.peers.map fun p=>{ p with off:=0 } },0):=by
  unfold Core.compact;rw [if_neg hn]
 rw [hC]
 have hlst:index≤c.last:=Int.le_trans (Int.not_lt.1 e2) hs1
 obtain ⟨hbi,hw,hk0,hkn,hk1,hdl,htl⟩:=aQk ok e hlst
 obtain ⟨S2,S3,q2,q3,x3,hg3,hn3⟩:=vb w 7 zH (.agg (aV c.h lv)) rfl rfl (dG c.h h.log.sl.one)
 rw [bH] at hg3
 have w3:=x3.wf w
 have xb:Ext S3 (⟨S3.next+15,S3.heap⟩:St):=(Ext.refl S3).bump 15
 have x03:=x3.trans xb
 have h3:=h.ext w x3
 have hg3b:(⟨S3.next+15,S3.heap⟩:St).heap.get S.next=some (.row 0 7 [aV c.h lv]):=hg3
 obtain ⟨u1,r1,s1,_⟩:=oP aBl h3.log.sl (lI .i64 hk0 (by rw [List.length_map];exact hk1)) (Nat.zero_le _) (by rw [List.length_map];exact hkn)
 have s1':Sl S3 3 u1 ((c.h.log.take (index - c.h.base).toNat).map bM):=by rw [List.drop_zero] at s1;rw [List.map_take];exact s1
 have e5:=dD (S:=(⟨S3.next+15,S3.heap⟩:St)) (x:=u1) (j:=6) (m:=1) hg3b (by rw [dT s1'];rfl) (by rw [dT s1'];simp [aU,s1'.one]) (by show 6+1≤7;decide)
 have c5:splice (aV c.h lv) 6 u1.cells=aV { c.h with log:=c.h.log.take (index - c.h.base).toNat } u1:=by rw [dT s1'];rfl
 rw [c5] at e5
 have hlt3:S.next<S3.next+15:=Nat.lt_of_lt_of_le (w3 _ _ hg3) (Nat.le_add_right _ _)
 have x4:Ext S (⟨S3.next+15,S3.heap.put S.next (.row 0 7 [aV { c.h with log:=c.h.log.take (index - c.h.base).toNat } u1])⟩:St):=x03.set (Nat.le_refl _) hlt3 w _
 have va:aR (some 7) (.ptr S.next 0 0 0) (⟨S3.next+15,S3.heap.put S.next (.row 0 7 [aV { c.h with log:=c.h.log.take (index - c.h.base).toNat } u1])⟩:St)=.ok (.agg (aV { c.h with log:=c.h.log.take (index - c.h.base).toNat } u1)):=by
  rw [uC];exact cM _ _ rfl
 have s4:Sl (⟨S3.next+15,S3.heap.put S.next (.row 0 7 [aV { c.h with log:=c.h.log.take (index - c.h.base).toNat } u1])⟩:St) 3 u1 ((c.h.log.take (index - c.h.base).toNat).map bM):=
  (s1'.ext xb).but (fun y c hy hc=>by show (S3.heap.put _ _).get y=_;rw [Tr.get_put_neB _ _ _ _ trivial hy];exact hc) hg3b (by decide)
 generalize (⟨S3.next+15,S3.heap.put S.next (.row 0 7 [aV { c.h with log:=c.h.log.take (index - c.h.base).toNat } u1])⟩:St)=S4 at e5 x4 va s4
 have w4:=x4.wf w
 simp only [aI,dI,cO,dM,aG,Nat.reduceAdd,aF,mE,eC,cR,aL,h.r_hard,q2,aLr,q3,h3.r_log,h3.r_base,cE,hw,r1,sV,e5,va]
 refine (g42 { c.h with log:=c.h.log.take (index - c.h.base).toNat } u1 S4 w4 s4 htl ok.b0 ok.b1).call fun S5 x5=>?_
 have x05:=x4.trans x5
 have w5:=x05.wf w
 simp only [eH,List.getElem?_cons_zero,List.getElem?_cons_succ,iP]
 refine (g72 (hin.ext w x05) ok (n:=index) hbi hlst).call fun S6 x6=>?_
 have x06:=x05.trans x6
 have w6:=x06.wf w
 have h6:=h.ext w x06
 obtain ⟨u2,r6,s6,_⟩:=oP aBl h6.log.sl (lH .i64 hk0 (by rw [List.length_map];exact hk1)) (by rw [List.length_map];exact hkn) (Nat.le_refl _)
 rw [List.take_length,←List.map_drop] at s6
 obtain ⟨T1,v1,T2,b1,b2,x7,n7,hv1,g7,k7⟩:=aB1 w6 s6 (by rw [List.length_map];exact Nat.le_trans hdl (by decide)) [.int .i64 0,.int .i64 0,.str []] 16 0 (by decide) (some (S6.next+14))
 have o7:Own S6 T2 3 v1 ((c.h.log.drop (index - c.h.base).toNat).map bM):=aM7 hv1 (by decide) n7 g7 s6.len
 have x07:=x06.trans x7
 have w7:=x07.wf w
 have h7:=h.ext w x07
 have n60:∀ y,bJ v1=some y→¬ dP a lv ov y:=fun y hy hO'=>by
  have h1:=(jD o7 hy).1
  have h2:=qZ w h hO'
  have h3:=x06.next
  omega
 have b60:∀ y,bJ v1=some y→S.next≤y:=fun y hy=>Nat.le_trans x06.next (jD o7 hy).1
 generalize hdr:c.h.log.drop (index - c.h.base).toNat=dl at o7 s6 r6 b2 hv1 g7 hdl ⊢
 have l0:Mn T2 3 v1 (dl.map bM):=o7.weaken (Nat.zero_le _)
 obtain ⟨Sa,qa,ha,ma,_⟩:=h7.w_base w7 index
 have wa:=ma.wf w7
 obtain ⟨la,n61⟩:=l0.mv n60 ma
 obtain ⟨Sb,qb,hb',mb,_⟩:=ha.w_baseTerm wa (c.term index)
 have hb:WAt Sb a { c with h:={ c.h with base:=index,baseTerm:=c.term index } } (gC c.way) lv ov rows:=hb'
 clear hb'
 have wb:=mb.wf wa
 obtain ⟨lb,n62⟩:=la.mv n61 mb
 obtain ⟨Sc,qc,hc',mc,_⟩:=hb.w_mem wb (eP { c.h with log:=c.h.log.take (index - c.h.base).toNat }).1
 have hc:WAt Sc a { c with h:={ c.h with base:=index,baseTerm:=c.term index,members:=(eP { c.h with log:=c.h.log.take (index - c.h.base).toNat }).1 } } (gC c.way) lv ov rows:=hc'
 clear hc'
 have wc:=mc.wf wb
 obtain ⟨lc,n63⟩:=lb.mv n62 mc
 obtain ⟨Sd,qd,hd',md,_⟩:=hc.w_snap wc snap
 have hd:WAt Sd a { c with h:={ c.h with base:=index,baseTerm:=c.term index,members:=(eP { c.h with log:=c.h.log.take (index - c.h.base).toNat }).1,snap:=snap } } (gC c.way) lv ov rows:=hd'
 clear hd'
 have wd:=md.wf wc
 obtain ⟨ld,n64⟩:=lc.mv n63 md
 obtain ⟨Se,qe,he',me,_⟩:=hd.w_logN wd h w rfl ld b60
 have he:WAt Se a { c with h:={ c.h with base:=index,baseTerm:=c.term index,members:=(eP { c.h with log:=c.h.log.take (index - c.h.base).toNat }).1,snap:=snap,log:=dl } } (gC c.way) v1 ov rows:=he'
 clear he'
 have we:=me.wf wd
 obtain ⟨Sf,qf,hf',mf⟩:=he.w_offs we
 have hf:WAt Sf a { c with h:={ c.h with base:=index,baseTerm:=c.term index,members:=(eP { c.h with log:=c.h.log.take (index - c.h.base).toNat }).1,snap:=snap,log:=dl },peers:=c.peers.map fun p=>{ p with off:=0 } } (gC c.way) v1 ov rows:=hf'
 clear hf'
 have i0:=x07.next
 have i1:=Nat.le_trans i0 ma.next
 have i2:=Nat.le_trans i1 mb.next
 have i3:=Nat.le_trans i2 mc.next
 have i4:=Nat.le_trans i3 md.next
 have i5:=Nat.le_trans i4 me.next
 have mv:Mv (dP a lv ov) S (dP a v1 ov) Sf:=MvB.mv w (((((((MvB.of (Mv.of x07) (Nat.le_refl _)).trans (MvB.of ma i0)).trans (MvB.of mb i1)).trans (MvB.of mc i2)).trans (MvB.of md i3)).trans me).trans (MvB.of mf i5))
 simp only [aI,dI,oH,dM,mX,mY,kN,cO,aG,Nat.reduceAdd,aF,cR,eC,aL,h6.r_log,h6.r_base,cE,hw,r6,aA0,b1,kR,b2,mD,st9,sV,bA0,qa,qb,qc,qd,qe,aX0,qf]
 refine Ok.ret ⟨rfl,_,⟨_,_,_,hf,rfl⟩,?_⟩
 rw [hO];exact mv
end
end Go.Proofs.Ytbiidlmhadihlaa
end
section
namespace Go.Raft
open Go.AM
variable [Guard]
theorem uM (S:St) (n:Nat) (z:List V):cK n z 0 [] none S=.ok (.sl S.next 0 n 0 0,⟨S.next+1,S.heap.put S.next (.row 0 n [])⟩):=by
 unfold cK
 rw [if_pos (by omega)]
 simp only [aD5,List.replicate,eJ]
theorem aHh {S:St} (w:WF S) {u:V} {es:List (List V)} (hu:Sl S 3 u es) (hl:es.length≤1000) (z:List V):
  ∃ T1 v1 T2,cK 3 z 0 [] none S=.ok (.sl S.next 0 3 0 0,T1)∧gP 3 32 (.sl S.next 0 3 0 0) u none T1=.ok (v1,T2)∧Ext S T2∧Own S T2 3 v1 es∧T2.next=S.next+1:=by
 have e1:=uM S 3 z
 have x1:Ext S (⟨S.next+1,S.heap.put S.next (.row 0 3 [])⟩:St):=((Ext.refl S).bump 1).set (Nat.le_refl _) (by show S.next<S.next+1;omega) w _
 have g1:(⟨S.next+1,S.heap.put S.next (.row 0 3 [])⟩:St).heap.get S.next=some (.row 0 3 []):=Tr.get_put_sameB _ _ _ trivial
 have e2:=aJ7 (b:=32) g1 (hu.ext x1).elems hu.len (by simp only [List.length_nil];omega) (by simp only [List.length_nil];unfold fU;omega) none
 simp only [List.nil_append,List.length_nil] at e2
 exact ⟨_,_,_,e1,e2,x1.set (Nat.le_refl _) (by show S.next<S.next+1;omega) w _,⟨.inr ⟨S.next,1,[],rfl,Nat.le_refl _,by show S.next<S.next+1;omega,by rw [List.append_nil];exact Tr.get_put_sameB _ _ _ trivial⟩,hu.len⟩,rfl⟩
end Go.Raft
namespace Go.Proofs.Ytbiidlmhadihlaa
open Go.AM Go.Raft Try
set_option linter.unusedVariables false
set_option linter.unusedSectionVars false
set_option linter.unusedSimpArgs false
set_option maxRecDepth 100000
variable [Guard]
theorem aOm {u:V} (hu:u=.nils∨(∃ a,u=.imm a)∨∃ a b d e f,u=.sl a b d e f) (id base wt:Int) (h:Hard):bQ prog 45 [(0,.agg (aV h u)),(1,.int .i64 id),(2,.int .i64 1),(3,.int .i64 (-1)),(4,.int .i64 base),(5,.int .i64 wt),(6,.int .i64 wt)]=
  .ok (.agg (cA ⟨id,h,1,-1,base,wt,wt,0,List.replicate 7 ⟨0,0,0⟩,none,[]⟩ (gC none) u .nils)):=by
 rw [aZp]
 rcases hu with rfl | ⟨a,rfl⟩ | ⟨a,b,d,e,f,rfl⟩<;>rfl
theorem aJc (c:Core) (k:Came) {lv ov:V} (h1:lv.one=true) (h3:ov.one=true) (hp:c.peers.length=7):aU (cA c k lv ov)=true:=by
 obtain ⟨p0,p1,p2,p3,p4,p5,p6,e⟩:=kF hp
 simp only [cA,aV,e,aU,List.map_cons,List.map_nil,List.cons_append,List.nil_append,List.all_cons,List.all_nil,h1,h3,Bool.and_true]
 rfl
theorem g12 (id cH:Int) (h:Hard) (lv:V) (S:St) (w:WF S) (hgn:Guard.n≤S.next) (hs:Sl S 3 lv (h.log.map bM)) (hl:h.log.length≤1000000):
  Does prog aW aX 12 [.int .i64 id,.agg (aV h lv),.int .i64 cH] S (fun u S'=>Ext S S'∧match oM id h cH with
   | none=>u=.tup [.nilp,.int .i64 1]
   | some c=>∃ a O,u=.tup [.ptr a 0 0 0,.int .i64 0]∧WIn S' a c O∧∀ y,O y→S.next≤y):=by
 have ho:=dG h hs.one
 have hln:(aV h lv).length=7:=rfl
 obtain ⟨S1,hn1,x1,hg1,hnx1⟩:=nb w 7 (aV h lv)
 have w1:=x1.wf w
 have va:∀ {T:St} {v:V},T.heap.get S.next=some (.row 0 7 [aV h v])→aR (some 7) (.ptr S.next 0 0 0) T=.ok (.agg (aV h v)):=fun hg=>by rw [bB _ _ _ _ _ (bC hg)];exact cM _ _ rfl
 have v2:∀ {T:St} {v:V},T.heap.get S.next=some (.row 0 7 [aV h v])→aR none (.ptr S.next 0 0 2) T=.ok (.int .i64 h.base):=fun hg=>by rw [bB _ _ _ _ _ (bC hg)];rfl
 have v6:∀ {T:St} {v:V},T.heap.get S.next=some (.row 0 7 [aV h v])→aR none (.ptr S.next 0 0 6) T=.ok v:=fun hg=>by rw [bB _ _ _ _ _ (bC hg)];rfl
 have no:(id<0∨7≤id∨fQ h=false)→oM id h cH=none:=fun q=>by unfold oM;rw [if_pos q]
 refine e12 ?_
 simp only [m12,bH,ho,hln,aJ,hn1,aF,aZ,dA,mE,va hg1]
 refine Ok.pickP (fun e=>Ok.ret ⟨x1,by rw [no (.inl e)]⟩) (fun e=>?_)
 refine Ok.pickP (fun e2=>Ok.ret ⟨x1,by rw [no (.inr (.inl e2))]⟩) (fun e2=>?_)
 refine (g23 h lv S1 w1 (hs.ext x1) hl).call fun S2 x2=>?_
 have x02:=x1.trans x2
 have w2:=x2.wf w1
 simp only [dS,aF]
 refine Ok.pick (fun e3=>Ok.ret ⟨x02,by rw [no (.inr (.inr (by simpa using e3)))]⟩) (fun e3=>?_)
 have hy:¬ (id<0∨7≤id∨fQ h=false):=fun q=>by
  rcases q with q | q | q
  ·exact e q
  ·exact e2 q
  ·rw [q] at e3;cases e3
 have hN:oM id h cH=some ⟨id,h,1,-1,h.base,cV cH,cV cH,0,List.replicate 7 ⟨0,0,0⟩,none,[]⟩:=by unfold oM;rw [if_neg hy]
 have ok:=(lX h).1 (by simpa using e3)
 have g2:=x2.old _ _ hg1
 have hll:=ok.ll
 obtain ⟨T1,lv',T2,b1,b2,x3,o3,n3⟩:=aHh w2 (hs.ext x02) (by rw [List.length_map];omega) [.int .i64 0,.int .i64 0,.str []]
 have b2':gP 3 32 (.sl S2.next 0 3 0 0) lv none T1=.ok (lv',T2):=b2
 have xT1:T1.heap.get S.next=some (.row 0 7 [aV h lv]):=by
  have e1:=uM S2 3 [.int .i64 0,.int .i64 0,.str []]
  rw [b1] at e1
  cases e1
  show (S2.heap.put _ _).get _=_
  have:=w2 _ _ g2
  rw [Tr.get_put_neB _ _ _ _ trivial (by omega)];exact g2
 have x03:=x02.trans x3
 have w3:=x3.wf w2
 have g3:=x3.old _ _ g2
 have ho3:=o3.sl
 have e4:=dD (S:=T2) (x:=lv') (j:=6) (m:=1) g3 (by rw [dT ho3];rfl) (by rw [dT ho3];simp [aU,ho3.one]) (by rw [hln];decide)
 have c4:splice (aV h lv) 6 lv'.cells=aV h lv':=by rw [dT ho3];rfl
 rw [c4] at e4
 have hlt:S.next<T2.next:=w3 _ _ g3
 have x4:Ext S (⟨T2.next,T2.heap.put S.next (.row 0 7 [aV h lv'])⟩:St):=x03.set (Nat.le_refl _) hlt w _
 have g4:(⟨T2.next,T2.heap.put S.next (.row 0 7 [aV h lv'])⟩:St).heap.get S.next=some (.row 0 7 [aV h lv']):=Tr.get_put_sameB _ _ _ trivial
 have o4:Own S2 (⟨T2.next,T2.heap.put S.next (.row 0 7 [aV h lv'])⟩:St) 3 lv' (h.log.map bM):=
  o3.but (fun y c hy hc=>by show (T2.heap.put _ _).get y=_;rw [Tr.get_put_neB _ _ _ _ trivial hy];exact hc) (Nat.le_refl _) g3 (by decide)
 generalize (⟨T2.next,T2.heap.put S.next (.row 0 7 [aV h lv'])⟩:St)=S4 at e4 x4 g4 o4
 have w4:=x4.wf w
 have xb:Ext S4 (⟨S4.next+12,S4.heap⟩:St):=(Ext.refl S4).bump 12
 have wb:=xb.wf w4
 have gb:(⟨S4.next+12,S4.heap⟩:St).heap.get S.next=some (.row 0 7 [aV h lv']):=g4
 simp only [dM,cO,aG,Nat.reduceAdd,aF,aA0,b1,eC,v6 xT1,kR,b2',sV,e4,mE,cR,aL,va g4,v2 g4]
 refine Does.call (Does.dead aAm (g36 cH (⟨S4.next+12,S4.heap⟩:St))) fun u S5 ⟨⟨e5,x5⟩,d5⟩=>?_
 subst e5
 have w5:=x5.wf wb
 have g5:=x5.old _ _ gb
 obtain ⟨f1,f2⟩:=aCo w4 (n:=12) d5 (k:=S4.next+9) (Nat.le_add_right _ _) (Nat.add_lt_add_left (by decide) _)
 simp only [va g5,v2 g5,aF,bO,fX,aJ]
 refine Does.call (Does.dead aAm (g36 cH S5)) fun u S6 ⟨⟨e6,x6⟩,d6⟩=>?_
 subst e6
 have w6:=x6.wf w5
 have g6:=x6.old _ _ g5
 have f3:=d6.dead (S4.next+9) f2 f1
 have f4:=Nat.lt_of_lt_of_le f2 d6.next
 have x46:=(xb.trans x5).trans x6
 have o6:=o4.ext x46
 have hcl:(cA ⟨id,h,1,-1,h.base,cV cH,cV cH,0,List.replicate 7 ⟨0,0,0⟩,none,[]⟩ (gC none) lv' .nils).length=40:=gI _ _ _ _ rfl
 have hco:aU (cA ⟨id,h,1,-1,h.base,cV cH,cV cH,0,List.replicate 7 ⟨0,0,0⟩,none,[]⟩ (gC none) lv' .nils)=true:=aJc _ _ o6.sl.one rfl rfl
 have x7:Ext S6 (⟨S6.next,S6.heap.put (S4.next+9) (.row 0 40 [cA ⟨id,h,1,-1,h.base,cV cH,cV cH,0,List.replicate 7 ⟨0,0,0⟩,none,[]⟩ (gC none) lv' .nils])⟩:St):=Ext.newAt f3 f4 _
 simp only [va g6,v2 g6,aF,bO,fX,aJ,aOm (Sl.isv o6.sl),bH,hcl,hco,gM]
 refine Ok.ret ⟨(x4.trans x46).trans x7,?_⟩
 rw [hN]
 have hx4:=x4.next
 have hx2:=x02.next
 refine ⟨S4.next+9,dP (S4.next+9) lv' .nils,rfl,⟨lv',.nils,[],⟨Tr.get_put_sameB _ _ _ trivial,rfl,(o6.ext x7).weaken (Nat.zero_le _),Own.nil _ _ _,.nil,Gd.nil (Nat.le_trans hgn ((x4.trans x46).trans x7).next)⟩,rfl⟩,fun y hy=>?_⟩
 rcases hy with hy | hy | hy
 ·omega
 ·have:=(jD o6 hy).1
  have h9:S2.next≤y:=this
  omega
 ·cases hy
section
variable {S:St} {a b:Nat} {c:Core} {O:Nat→Prop}
end
end Go.Proofs.Ytbiidlmhadihlaa
end
section
namespace Go.Proofs.Ytbiidlmhadihlaa
open Go.AM Go.Raft Try
section
variable [Guard]
theorem g66 (l:List Entry) (u v:V) (S:St) (w:WF S) (hu:Sl S 3 u (l.map bM)) (hv:Sl S 3 v (l.map bM)) (hl:l.length≤1000000):mG 66 [u,v] S (.bool true):=by
 refine e66 ?_
 simp only [m66,eA,hu.lenI,hv.lenI,aF,aS,aJ,cJ,ne_eq,not_true_eq_false,decide_false,Bool.not_true,aK]
 refine Ok.loopL (F:=fun k K=>aEc (aE prog aW aX k) k K u v) (ρ:=Unit) (α:=Entry) (X:=Unit) l (step:=fun _ _=>.inr ()) (fin:=id) (s:=())
  (out:=fun k K _ S'=>K (.bool true) S')
  (fun i _ vs T=>vs=[.bool false,.int .i64 (i:Int)]∧Ext S T)
  (fun _ _ T=>Ext S T) ?_ ?_ ⟨rfl,Ext.refl _⟩ (fun _ T x=>Ok.ret ⟨rfl,x⟩)
 ·rintro i x _ vs T ⟨rfl,xt⟩ hi
  have hil:=(List.getElem?_eq_some_iff.1 hi).1
  have hlt:(i:Int)<(l.length:Int):=Int.ofNat_lt.2 hil
  have hw:=cP hil hl
  have hu1:=hu.ext xt
  have hv1:=hv.ext xt
  obtain ⟨p1,hp1,at1,_,_⟩:=hu1.elem hi
  obtain ⟨p2,hp2,at2,_,_⟩:=hv1.elem hi
  have la1:aR (some 3) p1 T=.ok (.agg (bM x)):=by rw [at1.load0];exact cM _ _ rfl
  have la2:aR (some 3) p2 T=.ok (.agg (bM x)):=by rw [at2.load0];exact cM _ _ rfl
  simp only [aEc,aY,eA,hu1.lenI,aF,aZ,hlt,decide_true,bA,oL,hp1,hp2,aBh,aL,la1,la2,aHa,aJ,aCv,Bool.not_true,aK,bK,hw]
  exact OkL.next ⟨(),rfl,rfl,xt.bump 9⟩
 ·rintro _ vs T ⟨rfl,xt⟩
  have hlt:¬ (l.length:Int)<(l.length:Int):=Int.lt_irrefl _
  refine ⟨(),xt,fun k K bD=>?_⟩
  simp only [aEc,aY,eA,(hu.ext xt).lenI,aF,aZ,hlt,decide_false,aK]
theorem g44 (h:Hard) (u v:V) (S:St) (w:WF S) (hu:Sl S 3 u (h.log.map bM)) (hv:Sl S 3 v (h.log.map bM)) (hl:h.log.length≤1000000):mG 44 [.agg (aV h u),.agg (aV h v)] S (.bool true):=by
 have ho:=dG h hu.one
 have ho2:=dG h hv.one
 have hln:(aV h u).length=7:=rfl
 have hln2:(aV h v).length=7:=rfl
 obtain ⟨S1,hn1,x1,hg1,hnx1⟩:=nb w 7 (aV h u)
 obtain ⟨S2,hn2,x2,hg2,hnx2⟩:=nb (x1.wf w) 7 (aV h v)
 have x02:=x1.trans x2
 have g1:=x2.old _ _ hg1
 have f0:∀ {b:Nat} {T:St} {x:V},T.heap.get b=some (.row 0 7 [aV h x])→aR none (.ptr b 0 0 0) T=.ok (.int .i64 h.term):=fun hg=>by rw [bB _ _ _ _ _ (bC hg)];rfl
 have f1:∀ {b:Nat} {T:St} {x:V},T.heap.get b=some (.row 0 7 [aV h x])→aR none (.ptr b 0 0 1) T=.ok (.int .i64 h.vote):=fun hg=>by rw [bB _ _ _ _ _ (bC hg)];rfl
 have f2:∀ {b:Nat} {T:St} {x:V},T.heap.get b=some (.row 0 7 [aV h x])→aR none (.ptr b 0 0 2) T=.ok (.int .i64 h.base):=fun hg=>by rw [bB _ _ _ _ _ (bC hg)];rfl
 have f3:∀ {b:Nat} {T:St} {x:V},T.heap.get b=some (.row 0 7 [aV h x])→aR none (.ptr b 0 0 3) T=.ok (.int .i64 h.baseTerm):=fun hg=>by rw [bB _ _ _ _ _ (bC hg)];rfl
 have f4:∀ {b:Nat} {T:St} {x:V},T.heap.get b=some (.row 0 7 [aV h x])→aR none (.ptr b 0 0 4) T=.ok (.int .i64 h.members):=fun hg=>by rw [bB _ _ _ _ _ (bC hg)];rfl
 have f5:∀ {b:Nat} {T:St} {x:V},T.heap.get b=some (.row 0 7 [aV h x])→aR none (.ptr b 0 0 5) T=.ok (.str h.snap):=fun hg=>by rw [bB _ _ _ _ _ (bC hg)];rfl
 have f6:∀ {b:Nat} {T:St} {x:V},T.heap.get b=some (.row 0 7 [aV h x])→aR none (.ptr b 0 0 6) T=.ok x:=fun hg=>by rw [bB _ _ _ _ _ (bC hg)];rfl
 have hu2:=hu.ext x02
 have hv2:=hv.ext x02
 have self:(h.snap == h.snap)=true:=beq_self_eq_true _
 refine e44 ?_
 simp only [m44,bH,ho,ho2,hln,hln2,aJ,hn1,hn2,aF,eO,kM,dM,mX,mY,kN,cO,aG,Nat.reduceAdd,cR,uE,eC,f0 g1,f0 hg2,f1 g1,f1 hg2,f2 g1,f2 hg2,f3 g1,f3 hg2,f4 g1,f4 hg2,f5 g1,f5 hg2,f6 g1,f6 hg2,eA,hu2.lenI,hv2.lenI,aS,gN,cJ,aK2,self,ne_eq,not_true_eq_false,decide_false,Bool.not_true,aK]
 refine Ok.loopL (F:=fun k K=>aE7 (aE prog aW aX k) k K (.ptr S.next 0 0 0) (.ptr S1.next 0 0 0)) (ρ:=Unit) (α:=Entry) (X:=Unit) h.log (step:=fun _ _=>.inr ()) (fin:=id) (s:=())
  (out:=fun k K _ S'=>K (.bool true) S')
  (fun i _ vs T=>vs=[.bool false,.int .i64 (i:Int)]∧Ext S2 T)
  (fun _ _ T=>Ext S2 T) ?_ ?_ ⟨rfl,Ext.refl _⟩ (fun _ T x=>Ok.ret ⟨rfl,x02.trans x⟩)
 ·rintro i x _ vs T ⟨rfl,xt⟩ hi
  have hil:=(List.getElem?_eq_some_iff.1 hi).1
  have hlt:(i:Int)<(h.log.length:Int):=Int.ofNat_lt.2 hil
  have hw:=cP hil hl
  have hu1:=hu2.ext xt
  have hv1:=hv2.ext xt
  have q1:=xt.old _ _ g1
  have q2:=xt.old _ _ hg2
  obtain ⟨p1,hp1,at1,_,_⟩:=hu1.elem hi
  obtain ⟨p2,hp2,at2,_,_⟩:=hv1.elem hi
  have la1:aR (some 3) p1 T=.ok (.agg (bM x)):=by rw [at1.load0];exact cM _ _ rfl
  have la2:aR (some 3) p2 T=.ok (.agg (bM x)):=by rw [at2.load0];exact cM _ _ rfl
  simp only [aE7,aY,cO,aG,Nat.reduceAdd,eC,aL,f6 q1,f6 q2,eA,hu1.lenI,aF,aZ,hlt,decide_true,bA,oL,hp1,hp2,aBh,la1,la2,aHa,aJ,aCv,Bool.not_true,aK,bK,hw]
  exact OkL.next ⟨(),rfl,rfl,xt.bump 11⟩
 ·rintro _ vs T ⟨rfl,xt⟩
  have hlt:¬ (h.log.length:Int)<(h.log.length:Int):=Int.lt_irrefl _
  have q1:=xt.old _ _ g1
  refine ⟨(),xt,fun k K bD=>?_⟩
  simp only [aE7,aY,cO,aG,Nat.reduceAdd,eC,f6 q1,eA,(hu2.ext xt).lenI,aF,aZ,hlt,decide_false,aK]
end
end Go.Proofs.Ytbiidlmhadihlaa
end
section
namespace Go.Raft
open Go.AM
def Sm (c d:Core):Prop:=(∀ m∈c.out,m.entries.length≤8)→∀ m∈d.out,m.entries.length≤8
theorem Sm.trans {c d e:Core} (h:Sm c d) (k:Sm d e):Sm c e:=fun q=>k (h q)
theorem Sm.same {c d:Core} (h:d.out=c.out):Sm c d:=fun q=>by rw [h];exact q
theorem Sm.via {c d e:Core} (k:Sm d e) (h:d.out=c.out):Sm c e:=(Sm.same h).trans k
theorem fN (c:Core) (m:Letter) (h:m.entries.length≤8):Sm c (c.post m):=fun q x hx=>by
 unfold Core.post at hx
 rcases List.mem_append.1 hx with hx | hx
 ·exact q x hx
 ·rw [List.mem_singleton.1 hx];exact h
theorem xS (c:Core) (f:Int):Sm c (c.send f):=by
 unfold Core.send;simp only;split
 ·exact Sm.via (fN _ _ (Nat.zero_le _)) rfl
 ·exact fN _ _ (by show (List.take 8 _).length≤8;rw [List.length_take];omega)
theorem aFe (g:Core→Int→Core) (hg:∀ c f,Sm c (g c f)):∀ (l:List Int) (c:Core),Sm c (l.foldl g c)
 | [],c=>fun h=>h
 | f::l,c=>by rw [List.foldl_cons];exact (hg c f).trans (aFe g hg l _)
theorem aD2 (c:Core):Sm c c.spread:=by
 unfold Core.spread
 split
 ·exact aFe _ xS _ _
 ·exact fun h=>h
theorem aFf (c:Core):Sm c c.own:=by
 unfold Core.own
 exact Sm.via (aD2 (c.setPeer c.id { c.peer c.id with mtch:=c.last }).look) (uK _)
theorem aKw (c:Core):Sm c c.lead:=by
 unfold Core.lead
 simp only
 split
 ·exact Sm.via (aFf _) rfl
 ·exact Sm.via (aFf _) rfl
theorem aOn (c:Core):Sm c c.stand:=by
 unfold Core.stand
 simp only
 split
 ·exact Sm.via (aKw _) rfl
 ·exact Sm.via (aFe _ (fun d f=>fN _ _ (Nat.zero_le _)) _ _) rfl
theorem aQl (c:Core) (d:Int):Sm c (c.tick d):=by
 unfold Core.tick
 simp only
 split
 ·exact fun h=>h
 ·split
  ·exact Sm.via (aD2 _) rfl
  ·split
   ·exact Sm.via (aOn _) rfl
   ·exact fun h=>h
theorem aOo (c:Core) (f:Int):Sm c (c.send f):=xS c f
theorem aQm (c:Core) (m:Letter):Sm c (c.take m):=by
 unfold Core.take
 split
 ·exact fun h=>h
 ·generalize hc:(if c.h.term<m.term then { c with h:={ c.h with term:=m.term,vote:=-1 },role:=1,leads:=-1 } else c:Core)=d
  have hd:d.out=c.out:=by rw [←hc];split<;>rfl
  have hd2:∀ e,Sm d e→Sm c e:=fun e h=>by unfold Sm at h ⊢;rw [←hd];exact h
  refine hd2 _ ?_
  simp only
  split
  ·unfold Core.late;split
   ·exact Sm.via (fN _ _ (Nat.zero_le _)) rfl
   ·split
    ·exact Sm.via (fN _ _ (Nat.zero_le _)) rfl
    ·exact fun h=>h
  split
  ·unfold Core.asked;simp only;split
   ·exact Sm.via (fN _ _ (Nat.zero_le _)) rfl
   ·exact Sm.via (fN _ _ (Nat.zero_le _)) rfl
  split
  ·unfold Core.voted;split
   ·exact fun h=>h
   ·simp only;split
    ·exact Sm.via (aKw _) rfl
    ·exact fun h=>h
  split
  ·unfold Core.appended;split
   ·exact fun h=>h
   ·split
    ·exact fun h=>h
    ·simp only;split
     ·exact Sm.via (fN _ _ (Nat.zero_le _)) rfl
     ·split
      ·exact Sm.via (fN _ _ (Nat.zero_le _)) rfl
      ·exact Sm.via (fN _ _ (Nat.zero_le _)) rfl
  split
  ·unfold Core.acked;split
   ·exact fun h=>h
   ·simp only;split
    ·exact Sm.via (xS _ _) rfl
    ·split
     ·exact fun h=>h
     ·have h1:(d.setPeer m.from' ⟨m.index+1,m.index,0⟩).look.out=d.out:=uK _
      split
      ·have h2:=aOo (d.setPeer m.from' ⟨m.index+1,m.index,0⟩).look m.from'
       exact fun h=>h2 (by rw [h1];exact h)
      ·exact fun h=>by rw [h1];exact h
  split
  ·unfold Core.installed;split
   ·exact fun h=>h
   ·simp only;split
    ·exact Sm.via (fN _ _ (Nat.zero_le _)) rfl
    ·have h1:(if m.off=0 then { d.hear m.from' with way:=some ⟨m.index,m.at',m.size,[]⟩ } else d.hear m.from':Core).out=d.out:=by split<;>rfl
     generalize (if m.off=0 then { d.hear m.from' with way:=some ⟨m.index,m.at',m.size,[]⟩ } else d.hear m.from':Core)=e at h1
     refine (fun q=>fun h=>q (by rw [h1];exact h):Sm e _→Sm d _) ?_
     split
     ·exact Sm.via (fN _ _ (Nat.zero_le _)) rfl
     ·split
      ·exact Sm.via (fN _ _ (Nat.zero_le _)) rfl
      ·split
       ·split
        ·exact Sm.via (fN _ _ (Nat.zero_le _)) rfl
        ·exact Sm.via (fN _ _ (Nat.zero_le _)) rfl
       ·split
        ·exact Sm.via (fN _ _ (Nat.zero_le _)) rfl
        ·exact Sm.via (fN _ _ (Nat.zero_le _)) rfl
  split
  ·unfold Core.more;simp only;split
   ·exact fun h=>h
   ·exact Sm.via (xS _ _) rfl
  ·exact fun h=>h
theorem aJd (c:Core) (data:List (List UInt8)):Sm c (c.propose data).1:=by
 unfold Core.propose
 split
 ·exact fun h=>h
 ·split
  ·exact fun h=>h
  ·exact Sm.via (aFf _) rfl
theorem aM8 (c:Core) (n:Int):Sm c (c.change n).1:=by
 unfold Core.change
 simp only
 split
 ·exact fun h=>h
 ·exact Sm.via (aFf _) rfl
theorem aJe (c:Core) (n:Int) (s:List UInt8):Sm c (c.compact n s).1:=by
 unfold Core.compact
 split
 ·exact fun h=>h
 ·exact fun h=>h
end Go.Raft
end
section
namespace Go.Raft
open Go.AM
theorem All2.get {α β:Type} {R:α→β→Prop}:∀ {l:List α} {r:List β},All2 R l r→∀ {i:Nat} {m:α},l[i]?=some m→∃ cs,r[i]?=some cs∧R m cs
 | _,_,.nil,i,m,h=>by cases h
 | _,_,.cons x y,0,m,h=>by cases h;exact ⟨_,rfl,x⟩
 | _,_,.cons x y,i+1,m,h=>All2.get y h
theorem aUz {S:St} (w:WF S) {n k1 k2:Nat} (hk1:k1<n) (hk2:k2<n) (hne:k1≠k2) (q:Nat) (z c1 c2:List V) (hz:z.length=q) (h1:c1.length=q) (o1:aU c1=true) (h2:c2.length=q) (o2:aU c2=true):
  ∃ T1 T2 S3 S4,bF (some (S.next+k1)) (⟨S.next+n,S.heap⟩:St) (.row 0 q [z])=.ok (S.next+k1,T1)∧bF (some (S.next+k2)) T1 (.row 0 q [z])=.ok (S.next+k2,T2)∧bV q (.ptr (S.next+k1) 0 0 0) (.agg c1) T2=.ok S3∧Ext S S3∧bV q (.ptr (S.next+k2) 0 0 0) (.agg c2) S3=.ok S4∧Ext S S4∧S4.heap.get (S.next+k1)=some (.row 0 q [c1])∧S4.heap.get (S.next+k2)=some (.row 0 q [c2]):=by
 have hn1:S.next+k1<S.next+n:=Nat.add_lt_add_left hk1 _
 have hn2:S.next+k2<S.next+n:=Nat.add_lt_add_left hk2 _
 have hne':S.next+k1≠S.next+k2:=by omega
 have xb:Ext S (⟨S.next+n,S.heap⟩:St):=(Ext.refl S).bump n
 have x1:Ext S (⟨S.next+n,S.heap.put (S.next+k1) (.row 0 q [z])⟩:St):=xb.set (Nat.le_add_right _ _) hn1 w _
 have x2:Ext S (⟨S.next+n,(S.heap.put (S.next+k1) (.row 0 q [z])).put (S.next+k2) (.row 0 q [z])⟩:St):=x1.set (Nat.le_add_right _ _) hn2 w _
 have g1:(⟨S.next+n,(S.heap.put (S.next+k1) (.row 0 q [z])).put (S.next+k2) (.row 0 q [z])⟩:St).heap.get (S.next+k1)=some (.row 0 q [z]):=by
  show ((S.heap.put _ _).put _ _).get _=_
  rw [Tr.get_put_neB _ _ _ _ trivial hne'];exact Tr.get_put_sameB _ _ _ trivial
 have e1:=dD (x:=.agg c1) (j:=0) (m:=q) g1 (by rw [bH];exact h1) (by rw [bH];exact o1) (by omega)
 rw [bH,oC z c1 (by rw [h1,hz])] at e1
 have x3:Ext S (⟨S.next+n,((S.heap.put (S.next+k1) (.row 0 q [z])).put (S.next+k2) (.row 0 q [z])).put (S.next+k1) (.row 0 q [c1])⟩:St):=x2.set (Nat.le_add_right _ _) hn1 w _
 have g2:(⟨S.next+n,((S.heap.put (S.next+k1) (.row 0 q [z])).put (S.next+k2) (.row 0 q [z])).put (S.next+k1) (.row 0 q [c1])⟩:St).heap.get (S.next+k2)=some (.row 0 q [z]):=by
  show (((S.heap.put _ _).put _ _).put _ _).get _=_
  rw [Tr.get_put_neB _ _ _ _ trivial (Ne.symm hne')];exact Tr.get_put_sameB _ _ _ trivial
 have e2:=dD (x:=.agg c2) (j:=0) (m:=q) g2 (by rw [bH];exact h2) (by rw [bH];exact o2) (by omega)
 rw [bH,oC z c2 (by rw [h2,hz])] at e2
 refine ⟨_,_,_,_,gM ..,gM ..,e1,x3,e2,x3.set (Nat.le_add_right _ _) hn2 w _,?_,Tr.get_put_sameB _ _ _ trivial⟩
 show ((((S.heap.put _ _).put _ _).put _ _).put _ _).get _=_
 rw [Tr.get_put_neB _ _ _ _ trivial hne'];exact Tr.get_put_sameB _ _ _ trivial
end Go.Raft
namespace Go.Proofs.Ytbiidlmhadihlaa
open Go.AM Go.Raft Try
set_option linter.unusedVariables false
set_option linter.unusedSectionVars false
set_option linter.unusedSimpArgs false
set_option maxRecDepth 100000
variable [Guard]
theorem g32 (ls:List Letter) (u v:V) {r1 r2:List (List V)} {L1 L2:Option Nat} (S:St) (w:WF S) (hu:Sl S 13 u r1) (hv:Sl S 13 v r2) (a1:All2 (LetAt S L1) ls r1) (a2:All2 (LetAt S L2) ls r2) (h8:∀ m∈ls,m.entries.length≤8) (hl:ls.length≤1000000):mG 32 [u,v] S (.bool true):=by
 have l1:r1.length=ls.length:=a1.len.symm
 have l2:r2.length=ls.length:=a2.len.symm
 have hu':Sl S 13 u (r1.map fun x=>x):=by rw [List.map_id'];exact hu
 have hv':Sl S 13 v (r2.map fun x=>x):=by rw [List.map_id'];exact hv
 clear hu hv
 have hu:=hu'
 have hv:=hv'
 clear hu' hv'
 have hu0:=hu.lenI
 have hv0:=hv.lenI
 rw [l1] at hu0
 rw [l2] at hv0
 refine e32 ?_
 simp only [m32,aNr,hu0,hv0,aF,aS,aJ,cJ,ne_eq,not_true_eq_false,decide_false,Bool.not_true,aK]
 refine Ok.loopL (F:=fun k K=>aE2 (aE prog aW aX k) k K u v) (ρ:=Unit) (α:=Letter) (X:=Unit) ls (step:=fun _ _=>.inr ()) (fin:=id) (s:=())
  (out:=fun k K _ S'=>K (.bool true) S')
  (fun i _ vs T=>vs=[.bool false,.int .i64 (i:Int)]∧Ext S T)
  (fun _ _ T=>Ext S T) ?_ ?_ ⟨rfl,Ext.refl _⟩ (fun _ T x=>Ok.ret ⟨rfl,x⟩)
 ·rintro i m _ vs T ⟨rfl,xt⟩ hi
  have hil:=(List.getElem?_eq_some_iff.1 hi).1
  have hlt:(i:Int)<(ls.length:Int):=Int.ofNat_lt.2 hil
  have hw:=cP hil hl
  have hm8:=h8 m (List.mem_of_getElem? hi)
  have wT:=xt.wf w
  have hu1:=hu.ext xt
  have hv1:=hv.ext xt
  have hlen:=hu1.lenI
  rw [l1] at hlen
  obtain ⟨cs1,i1,ev1,rfl,s1,_⟩:=a1.get hi
  obtain ⟨cs2,i2,ev2,rfl,s2,_⟩:=a2.get hi
  obtain ⟨p1,hp1,at1,_,_⟩:=hu1.elem i1
  obtain ⟨p2,hp2,at2,_,k2⟩:=hv1.elem i2
  obtain ⟨T1,T2,S3,S4,q1,q2,q3,x3,q4,x4,g1,g2⟩:=aUz wT (n:=12) (k1:=8) (k2:=9) (by decide) (by decide) (by decide) 13 zL (aO m ev1) (aO m ev2) rfl rfl (cB m s1.one) rfl (cB m s2.one)
  have la1:aR (some 13) p1 T=.ok (.agg (aO m ev1)):=by rw [at1.load0];exact cM _ _ rfl
  have la2:aR (some 13) p2 T=.ok (.agg (aO m ev2)):=by rw [at2.load0];exact cM _ _ rfl
  obtain ⟨p2',hp2',at2',_,_⟩:=(hv1.ext x3).elem i2
  rw [hp2] at hp2'
  cases hp2'
  have la3:aR (some 13) p2 S3=.ok (.agg (aO m ev2)):=by rw [at2'.load0];exact cM _ _ rfl
  have self:(m.data == m.data)=true:=beq_self_eq_true _
  have self2:(m.yes == m.yes)=true:=beq_self_eq_true _
  simp only [aE2,aY,aNr,hlen,aF,aZ,hlt,decide_true,bA,aZw,hp1,hp2,uD,aL,la1,la2,q1,q2,aW8,q3,la3,fX,aJ,q4,lT,cW,vU,kO,cI,fE,oG,pX,iK,mZ,jY,kY,eV,aG,cR,ld4,uE,eC,
   jV g1,jV g2,cG g1,cG g2,aH0 g1,aH0 g2,kP g1,kP g2,bI g1,bI g2,gB g1,gB g2,fL g1,fL g2,dW g1,dW g2,gL g1,gL g2,fH g1,fH g2,mR g1,mR g2,hM g1,hM g2,fI g1,fI g2,
   aS,gN,eL,cJ,aK2,jU,self,self2,ne_eq,not_true_eq_false,decide_false,Bool.not_true,aK]
  have x04:=xt.trans x4
  have w4:=x4.wf wT
  refine (g66 m.entries ev1 ev2 S4 w4 (s1.ext x04) (s2.ext x04) (Nat.le_trans hm8 (by decide))).callL fun S5 x5=>?_
  simp only [dS,aF,Bool.not_true,aK,bK,hw]
  exact OkL.next ⟨(),rfl,rfl,x04.trans x5⟩
 ·rintro _ vs T ⟨rfl,xt⟩
  have hlt:¬ (ls.length:Int)<(ls.length:Int):=Int.lt_irrefl _
  have hlen:=(hu.ext xt).lenI
  rw [l1] at hlen
  refine ⟨(),xt,fun k K bD=>?_⟩
  simp only [aE2,aY,aNr,hlen,aF,aZ,hlt,decide_false,aK]
end Go.Proofs.Ytbiidlmhadihlaa
end
section
namespace Go.Proofs.Ytbiidlmhadihlaa
open Go.AM Go.Raft Try
set_option linter.unusedVariables false
set_option linter.unusedSectionVars false
set_option linter.unusedSimpArgs false
set_option maxRecDepth 100000
variable [Guard]
section
variable {S S':St} {a:Nat} {c:Core} {k:Came} {lv wv dv ov:V} {rows:List (List V)} {P P':Nat→Prop}
theorem rB {L:Option Nat} (w:WF S) (m:Mv P S P' S'):∀ {out:List Letter} {rows:List (List V)},All2 (LetAt S L) out rows→(∀ r∈rows,∀ ev,r[12]?=some ev→∀ y,bJ ev=some y→¬ P y)→All2 (LetAt S' L) out rows
 | _,_,.nil,_=>.nil
 | _,_,.cons ⟨ev,e,h1,h2⟩ t,hp=>.cons ⟨ev,e,m.sl h1 (fun y hy=>hp _ (List.mem_cons_self ..) ev (by rw [e];rfl) y hy),h2⟩ (rB w m t fun r hr=>hp r (List.mem_cons_of_mem _ hr))
theorem CoreAt.apart (h:CoreAt S a c lv wv dv ov rows) (w:WF S) (m:Mv P S P' S') (d:∀ y,own a lv wv dv ov y→¬ P y) (hp:∀ r∈rows,∀ ev,r[12]?=some ev→∀ y,bJ ev=some y→¬ P y):CoreAt S' a c lv wv dv ov rows:=by
 have kk:∀ {y b},own a lv wv dv ov y→S.heap.get y=some b→S'.heap.get y=some b:=fun ho hb=>m.keep _ _ (d _ ho) hb
 refine ⟨kk (.inl rfl) h.cell,h.peers,Mn.fr h.log m.next fun y b hy hb=>kk (.inr (.inl hy)) hb,?_,Mn.fr h.out m.next fun y b hy hb=>kk (.inr (.inr (.inr (.inr hy)))) hb,rB w m h.lets hp,h.gd.mono m.next⟩
 have hw:=h.way
 unfold WayAt at hw ⊢
 split at hw
 ·exact hw
 ·obtain ⟨b,e,g,n⟩:=hw
  exact ⟨b,e,kk (.inr (.inr (.inl (by rw [e];rfl)))) g,Mn.fr n m.next fun y b hy hb=>kk (.inr (.inr (.inr (.inl hy)))) hb⟩
theorem WAt.apart (h:WAt S a c k lv ov rows) (w:WF S) (m:Mv P S P' S') (d:∀ y,dP a lv ov y→¬ P y) (hp:∀ r∈rows,∀ ev,r[12]?=some ev→∀ y,bJ ev=some y→¬ P y):WAt S' a c k lv ov rows:=by
 have kk:∀ {y b},dP a lv ov y→S.heap.get y=some b→S'.heap.get y=some b:=fun ho hb=>m.keep _ _ (d _ ho) hb
 exact ⟨kk (.inl rfl) h.cell,h.peers,Mn.fr h.log m.next fun y b hy hb=>kk (.inr (.inl hy)) hb,Mn.fr h.out m.next fun y b hy hb=>kk (.inr (.inr hy)) hb,rB w m h.lets hp,h.gd.mono m.next⟩
theorem aHi (h:All2 (LetAt S (bJ lv)) [] rows):rows=[]:=by cases h;rfl
theorem bBf (w:WF S) (h:CoreAt S a c lv wv dv ov rows):Does prog aW aX 27 [.ptr a 0 0 0] S (fun u S'=>u=ov∧CoreAt S' a { c with out:=[] } lv wv dv .nils []∧Mv (own a lv wv dv ov) S (own a lv wv dv .nils) S'∧Mn S' 13 ov rows∧All2 (LetAt S' (bJ lv)) c.out rows):=by
 obtain ⟨S1,q1,h1,m1,n1⟩:=h.w_out w w (Nat.le_refl _) (fun y b hy _=>hy) (ov':=.nils) (rows':=[]) (Own.nil _ _ _) ⟨rfl,rfl⟩ (fun y hy=>by cases hy) (out':=[]) .nil (Gd.nil h.gd.1)
 refine e27 ?_
 simp only [m27,aI,aKa,aG,Nat.reduceAdd,aF,aPx,h.r_out,aPy,q1]
 have e:=q1
 rw [dD (x:=.nils) (j:=36) (m:=1) h.cell rfl rfl (by rw [eB _ _ _ _ h.peers];omega)] at e
 cases e
 have hk:∀ n,n≠37→KeepW n S (⟨S.next,S.heap.put a (.row 0 37 [splice (bW c lv wv ov) 36 (V.nils).cells])⟩:St):=fun n hn=>KeepW.put h.cell hn _
 exact Ok.ret ⟨rfl,h1,m1,h.out.keepW (Nat.le_refl _) (hk 13 (by decide)),All2.imp (fun m cs q=>q.keep (fun y ver el _ g=>hk 3 (by decide) _ _ _ g) (fun y _ h=>h) w) h.lets⟩
theorem bBg (w:WF S) (h:WAt S a c k lv ov rows):Does prog aW aX 45 [.ptr a 0 0 0] S (fun u S'=>u=ov∧WAt S' a { c with out:=[] } k lv .nils []∧Mv (dP a lv ov) S (dP a lv .nils) S'∧Mn S' 13 ov rows∧All2 (LetAt S' (bJ lv)) c.out rows):=by
 obtain ⟨S1,q1,h1,m1,n1⟩:=h.w_out w w (Nat.le_refl _) (fun y b hy _=>hy) (ov':=.nils) (rows':=[]) (Own.nil _ _ _) (fun y hy=>by cases hy) (out':=[]) .nil (Gd.nil h.gd.1)
 refine e45 ?_
 simp only [m45,aI,aK9,aG,Nat.reduceAdd,aF,aPx,h.r_out,aPy,q1]
 have e:=q1
 rw [dD (x:=.nils) (j:=39) (m:=1) h.cell rfl rfl (by rw [gI _ _ _ _ h.peers];omega)] at e
 cases e
 have hk:∀ n,n≠40→KeepW n S (⟨S.next,S.heap.put a (.row 0 40 [splice (cA c k lv ov) 39 (V.nils).cells])⟩:St):=fun n hn=>KeepW.put h.cell hn _
 exact Ok.ret ⟨rfl,h1,m1,h.out.keepW (Nat.le_refl _) (hk 13 (by decide)),All2.imp (fun m cs q=>q.keep (fun y ver el _ g=>hk 3 (by decide) _ _ _ g) (fun y _ h=>h) w) h.lets⟩
end
end Go.Proofs.Ytbiidlmhadihlaa
namespace Go.Raft
open Go.AM
theorem CoreAt.reguard {n n':Nat} {S:St} {a:Nat} {c:Core} {lv wv dv ov:V} (h:@CoreAt ⟨n⟩ S a c lv wv dv ov []) (hn:n'≤S.next):@CoreAt ⟨n'⟩ S a c lv wv dv ov []:=
 @CoreAt.mk ⟨n'⟩ S a c lv wv dv ov [] (@CoreAt.cell ⟨n⟩ _ _ _ _ _ _ _ _ h) (@CoreAt.peers ⟨n⟩ _ _ _ _ _ _ _ _ h) (@CoreAt.log ⟨n⟩ _ _ _ _ _ _ _ _ h) (@CoreAt.way ⟨n⟩ _ _ _ _ _ _ _ _ h) (@CoreAt.out ⟨n⟩ _ _ _ _ _ _ _ _ h) (@CoreAt.lets ⟨n⟩ _ _ _ _ _ _ _ _ h) ⟨hn,fun r hr=>by cases hr⟩
theorem WAt.reguard {n n':Nat} {S:St} {a:Nat} {c:Core} {k:Came} {lv ov:V} (h:@WAt ⟨n⟩ S a c k lv ov []) (hn:n'≤S.next):@WAt ⟨n'⟩ S a c k lv ov []:=
 @WAt.mk ⟨n'⟩ S a c k lv ov [] (@WAt.cell ⟨n⟩ _ _ _ _ _ _ _ h) (@WAt.peers ⟨n⟩ _ _ _ _ _ _ _ h) (@WAt.log ⟨n⟩ _ _ _ _ _ _ _ h) (@WAt.out ⟨n⟩ _ _ _ _ _ _ _ h) (@WAt.lets ⟨n⟩ _ _ _ _ _ _ _ h) ⟨hn,fun r hr=>by cases hr⟩
end Go.Raft
end
section
namespace Go.Proofs.Ytbiidlmhadihlaa
open Go.AM Go.Raft Try
section
theorem aQn (a b:List V):aH prog 50 (.agg a) (.agg b)=true:=congrFun (congrFun aZt a) b
theorem aOp (v:View):aD prog .eql 50 (.agg (uJ v)) (.agg (uJ v))=.ok (.bool true):=by
 have h:=aZs v.role v.leads v.commit v.last v.left v.members v.role v.leads v.commit v.last v.left v.members
 simp only [aD,uJ,h]
 simp
theorem xT (a b c d:Nat) (x:An):aN (.ptr a b c d) x=x:=by rw [aI]
theorem eT {α:Type} (x:α) (f:α→An):dR (.ok x) f=f x:=by rw [aF]
theorem iL (x:An):bG true x=x:=by rw [aJ]
theorem mC (x y:An):aC (.bool true) x y=x:=by rw [bA]
section
variable {n1 n2 a1 a2:Nat} {S:St} {c:Core} {lv wv dv ov lw ow:V} {rows rw':List (List V)}
theorem g16 (w:WF S) (h1:@CoreAt ⟨n1⟩ S a1 c lv wv dv ov rows) (h2:@WAt ⟨n2⟩ S a2 c (gC c.way) lw ow rw') (ok:Hok c.h) (d:∀ y,own a1 lv wv dv ov y→¬ dP a2 lw ow y)
  (e1:∀ r∈rows,∀ ev,r[12]?=some ev→∀ y,bJ ev=some y→¬ dP a2 lw ow y) (e2:∀ r∈rw',∀ ev,r[12]?=some ev→∀ y,bJ ev=some y→¬ own a1 lv wv dv ov y) (h8:∀ m∈c.out,m.entries.length≤8) (hl:c.out.length≤1000000):
  Does prog aW aX 16 [.ptr a1 0 0 0,.ptr a2 0 0 0] S (fun u S'=>u=.bool true∧WF S'∧S.next≤S'.next∧@CoreAt ⟨n1⟩ S' a1 { c with out:=[] } lv wv dv .nils []∧@WAt ⟨n2⟩ S' a2 { c with out:=[] } (gC c.way) lw .nils []):=by
 letI G2:Guard:=⟨n2⟩
 have X1:∀ {T:St},Ext S T→@CoreAt ⟨n1⟩ T a1 c lv wv dv ov rows:=fun x=>(letI:Guard:=⟨n1⟩;CoreAt.ext h1 w x)
 have X2:∀ {T:St},Ext S T→WAt T a2 c (gC c.way) lw ow rw':=fun x=>WAt.ext h2 w x
 have hlm:c.h.log.length≤1000000:=Nat.le_trans ok.ll (by decide)
 refine e16 ?_
 simp only [m16,xT,dI,aG,Nat.reduceAdd,eT,mE,h2.r_hard]
 refine (g42 c.h lw S w h2.log.sl hlm ok.b0 ok.b1).call fun S3 x3=>?_
 have w3:=x3.wf w
 have h23:=X2 x3
 have xb:Ext S3 (⟨S3.next+40,S3.heap⟩:St):=(Ext.refl S3).bump 40
 have x3b:=x3.trans xb
 simp only [eH,List.getElem?_cons_zero,List.getElem?_cons_succ,iP,xT,gQ,sS,jP,oI,aG,Nat.reduceAdd,eT,cR,aL,h23.r_role,h23.r_leads,h23.r_sure,h23.r_left]
 refine (letI:Guard:=⟨n1⟩;g17 (x3b.wf w) ⟨lv,wv,dv,ov,rows,X1 x3b,rfl⟩ ok).call fun S4 x4=>?_
 have x04:=x3b.trans x4
 have h24:=X2 x04
 simp only [h24.r_role,h24.r_leads,h24.r_sure,h24.r_left,eT,bO,iL]
 refine (g43 ⟨lw,ow,rw',h24,rfl⟩ ok).call fun S5 x5=>?_
 have x05:=x04.trans x5
 have w5:=x05.wf w
 have h25:=X2 x05
 have hv:(⟨c.role,c.leads,c.sure,c.last,c.left,(eP c.h).1⟩:View)=c.view:=rfl
 simp only [h25.r_role,h25.r_leads,h25.r_sure,h25.r_left,eT,bO,iL,aAl,hv,aQn,aOp,mC,xT,dI,aG,mE,h25.r_hard]
 refine Does.call (letI:Guard:=⟨n1⟩;g14 w5 ⟨lv,wv,dv,ov,rows,X1 x05,rfl⟩ ok) fun u S6 ⟨x6,lv',e6,o6⟩=>?_
 subst e6
 have x06:=x05.trans x6
 have w6:=x06.wf w
 have h26:=X2 x06
 simp only [h26.r_hard,eT,fX,iL]
 refine (g44 c.h lv' lw S6 w6 o6.sl h26.log.sl hlm).call fun S7 x7=>?_
 have x07:=x06.trans x7
 have w7:=x07.wf w
 simp only [mC]
 refine Does.call (letI:Guard:=⟨n1⟩;bBf w7 (X1 x07)) fun u S8 ⟨e8,h18,m8,q8,t8⟩=>?_
 subst e8
 have w8:=m8.wf w7
 have h28:=WAt.apart (X2 x07) w7 m8 (fun y h q=>d y q h) e2
 refine Does.call (bBg w8 h28) fun u2 S9 ⟨e9,h29,m9,q9,t9⟩=>?_
 subst e9
 have w9:=m9.wf w8
 have h19:@CoreAt ⟨n1⟩ S9 a1 { c with out:=[] } lv wv dv .nils []:=(letI:Guard:=⟨n1⟩;CoreAt.apart h18 w8 m9 (fun y hy=>d y (by
  rcases hy with hy | hy | hy | hy | hy
  ·exact .inl hy
  ·exact .inr (.inl hy)
  ·exact .inr (.inr (.inl hy))
  ·exact .inr (.inr (.inr (.inl hy)))
  ·cases hy)) (fun r hr=>by cases hr))
 have u9:Sl S9 13 u rows:=m9.sl q8.sl (fun y hy=>d y (.inr (.inr (.inr (.inr hy)))))
 have t19:=rB w8 m9 t8 e1
 refine Does.call (g32 c.out u u2 S9 w9 u9 q9.sl t19 t9 h8 hl) fun v Sa ⟨ea,xa⟩=>?_
 subst ea
 refine Ok.ret ⟨rfl,xa.wf w9,?_,(letI:Guard:=⟨n1⟩;CoreAt.ext h19 w9 xa),h29.ext w9 xa⟩
 exact Nat.le_trans (Nat.le_trans (Nat.le_trans x07.next m8.next) m9.next) xa.next
end
end
section
structure Pair (S:St) (a1 a2:Nat) (c:Core):Prop where
 ex:∃ n1 n2 lv wv dv ov rows lw ow rw',@CoreAt ⟨n1⟩ S a1 c lv wv dv ov rows∧@WAt ⟨n2⟩ S a2 c (gC c.way) lw ow rw'∧(∀ y,own a1 lv wv dv ov y→¬ dP a2 lw ow y) ∧
  (∀ r∈rows,∀ ev,r[12]?=some ev→∀ y,bJ ev=some y→¬ dP a2 lw ow y)∧(∀ r∈rw',∀ ev,r[12]?=some ev→∀ y,bJ ev=some y→¬ own a1 lv wv dv ov y)
structure Calm (S:St) (a1 a2:Nat) (c:Core) (B:Nat):Prop where
 out:c.out=[]
 hB:B≤S.next
 ex:∃ n1 n2 lv wv dv ov lw ow,@CoreAt ⟨n1⟩ S a1 c lv wv dv ov []∧@WAt ⟨n2⟩ S a2 c (gC c.way) lw ow []∧(∀ y,own a1 lv wv dv ov y→¬ dP a2 lw ow y)∧(∀ y,own a1 lv wv dv ov y→y<B)∧∀ y,dP a2 lw ow y→y<B
structure Half (S:St) (a1 a2:Nat) (c c':Core) (B n:Nat):Prop where
 hB:B≤n
 hn:n≤S.next
 ex:∃ n2 lv wv dv ov rows lw ow,@CoreAt ⟨n⟩ S a1 c' lv wv dv ov rows∧@WAt ⟨n2⟩ S a2 c (gC c.way) lw ow []∧(∀ y,own a1 lv wv dv ov y→¬ dP a2 lw ow y)∧∀ y,dP a2 lw ow y→y<B
theorem aB4 {S:St} {L:Option Nat} (w:WF S):∀ {out:List Letter} {rows:List (List V)},All2 (LetAt S L) out rows→∀ r∈rows,∀ ev,r[12]?=some ev→∀ y,bJ ev=some y→y<S.next
 | _,_,.nil,r,hr,_,_,_,_=>by cases hr
 | _,_,.cons ⟨ev',e,h1,h2⟩ t,r,hr,ev,he,y,hy=>by
  rcases List.mem_cons.1 hr with hr | hr
  ·rw [hr,e] at he
   have h3:ev'=ev:=by injection he
   subst h3
   exact aKd w h1 y hy
  ·exact aB4 w t r hr ev he y hy
theorem Calm.ext {S S':St} {a1 a2:Nat} {c:Core} {B:Nat} (h:Calm S a1 a2 c B) (w:WF S) (x:Ext S S'):Calm S' a1 a2 c B:=by
 obtain ⟨o,b,n1,n2,lv,wv,dv,ov,lw,ow,h1,h2,d,e1,e2⟩:=h
 exact ⟨o,Nat.le_trans b x.next,n1,n2,lv,wv,dv,ov,lw,ow,(letI:Guard:=⟨n1⟩;CoreAt.ext h1 w x),(letI:Guard:=⟨n2⟩;WAt.ext h2 w x),d,e1,e2⟩
theorem Calm.top {S:St} {a1 a2:Nat} {c:Core} {B:Nat} (h:Calm S a1 a2 c B):Calm S a1 a2 c S.next:=by
 obtain ⟨o,b,n1,n2,lv,wv,dv,ov,lw,ow,h1,h2,d,e1,e2⟩:=h
 exact ⟨o,Nat.le_refl _,n1,n2,lv,wv,dv,ov,lw,ow,h1,h2,d,fun y hy=>Nat.lt_of_lt_of_le (e1 y hy) b,fun y hy=>Nat.lt_of_lt_of_le (e2 y hy) b⟩
theorem Calm.pair {S:St} {a1 a2:Nat} {c:Core} {B:Nat} (h:Calm S a1 a2 c B):Pair S a1 a2 c:=by
 obtain ⟨o,b,n1,n2,lv,wv,dv,ov,lw,ow,h1,h2,d,e1,e2⟩:=h
 exact ⟨n1,n2,lv,wv,dv,ov,[],lw,ow,[],h1,h2,d,(fun r hr=>by cases hr),(fun r hr=>by cases hr)⟩
section
variable {S:St} {a1 a2:Nat} {c c':Core} {B n:Nat}
theorem Calm.first (h:Calm S a1 a2 c B) (w:WF S) {f:FuncId} {args:List V} {v:V} (H:∀ (G:Guard) (O:Nat→Prop),@CoreIn G S a1 c O→@Meth G f args a1 c' S O v)
  {G:Nat→KS→V→St→An} {R:V→St→Prop} (k:∀ S',WF S'→Half S' a1 a2 c c' B S.next→(∀ y x,B≤y→S.heap.get y=some x→S'.heap.get y=some x)→Ok (fun k K=>G k K v S') R):
  Ok (fun k K=>aE prog aW aX k f args S (fun v S=>G k K v S)) R:=by
 obtain ⟨o,b,n1,n2,lv,wv,dv,ov,lw,ow,h1,h2,d,e1,e2⟩:=h
 letI G1:Guard:=⟨S.next⟩
 have h1':CoreAt S a1 c lv wv dv ov []:=CoreAt.reguard h1 (Nat.le_refl _)
 refine Meth.call (H G1 _ ⟨lv,wv,dv,ov,[],h1',rfl⟩) w fun S' O' w' in' m=>k S' w' ?_ (fun y x hy hx=>m.keep y x (fun q=>by have:=e1 y q;omega) hx)
 obtain ⟨lv',wv',dv',ov',rows',h1'',rfl⟩:=in'
 have h2':=(letI:Guard:=⟨n2⟩;WAt.apart h2 w m (fun y hy q=>d y q hy) (fun r hr=>by cases hr))
 refine ⟨b,m.next,n2,lv',wv',dv',ov',rows',lw,ow,h1'',h2',fun y hy q=>?_,e2⟩
 rcases m.own y hy with hy | hy
 ·exact d y hy q
 ·have:=e2 y q;omega
theorem Half.second (h:Half S a1 a2 c c' B n) (w:WF S) {f:FuncId} {args:List V} {v:V} (H:∀ (G:Guard) (O:Nat→Prop),@WIn G S a2 c O→@WMeth G f args a2 c' S O v)
  {G:Nat→KS→V→St→An} {R:V→St→Prop} (k:∀ S',WF S'→S.next≤S'.next→Pair S' a1 a2 c'→Ok (fun k K=>G k K v S') R):
  Ok (fun k K=>aE prog aW aX k f args S (fun v S=>G k K v S)) R:=by
 obtain ⟨hB,hn,n2,lv,wv,dv,ov,rows,lw,ow,h1,h2,d,e2⟩:=h
 letI G2:Guard:=⟨S.next⟩
 have h2':WAt S a2 c (gC c.way) lw ow []:=WAt.reguard h2 (Nat.le_refl _)
 refine WMeth.call (H G2 _ ⟨lw,ow,[],h2',rfl⟩) w fun S' O' w' in' m=>k S' w' m.next ?_
 obtain ⟨lw',ow',rw',h2'',rfl⟩:=in'
 have lo:∀ r∈rows,∀ ev,r[12]?=some ev→∀ y,bJ ev=some y→n≤y∧y<S.next:=fun r hr ev he y hy=>⟨(@CoreAt.gd ⟨n⟩ _ _ _ _ _ _ _ _ h1).2 r hr ev he y hy,aB4 w (@CoreAt.lets ⟨n⟩ _ _ _ _ _ _ _ _ h1) r hr ev he y hy⟩
 have hlt:∀ y,own a1 lv wv dv ov y→y<S.next:=fun y hy=>(letI:Guard:=⟨n⟩;sZ w h1 hy)
 have h1':=(letI:Guard:=⟨n⟩;CoreAt.apart h1 w m d (fun r hr ev he y hy q=>by have:=e2 y q;have:=(lo r hr ev he y hy).1;omega))
 refine ⟨n,S.next,lv,wv,dv,ov,rows,lw',ow',rw',h1',h2'',fun y hy q=>?_,fun r hr ev he y hy q=>?_,fun r hr ev he y hy q=>?_⟩
 ·rcases m.own y q with q | q
  ·exact d y hy q
  ·have:=hlt y hy;omega
 ·rcases m.own y q with q | q
  ·have:=e2 y q;have:=(lo r hr ev he y hy).1;omega
  ·have:=(lo r hr ev he y hy).2;omega
 ·have h3:S.next≤y:=h2''.gd.2 r hr ev he y hy
  have:=hlt y q
  omega
end
def aD3 (q:Ask):List UInt8:=match q.data with
 | []=>[115]
 | d::_=>d
def rC (c:Core) (q:Ask):Core:=if q.kind=1 then c.tick q.n else if q.kind=2 then c.take q.m else if q.kind=3 then (c.propose q.data).1 else if q.kind=4 then (c.change q.n).1 else if q.kind=5 then (c.compact q.n (aD3 q)).1 else c
theorem aQo {c:Core} (I:Raft.Inv c) (q:Ask):(Raft.Inv (rC c q)∧Keeps c (rC c q))∧(rC c q).out.length≤c.out.length+7:=by
 unfold rC
 split
 ·exact ⟨I.tick _,aO6 _ _⟩
 split
 ·exact ⟨I.take _,aO7 _ _⟩
 split
 ·exact ⟨I.propose _,aH8 _ _⟩
 split
 ·exact ⟨I.change _,aJ6 _ _⟩
 split
 ·exact ⟨I.compact _ _,aH9 _ _ _⟩
 ·exact ⟨⟨I,Keeps.refl c⟩,Nat.le_add_right _ _⟩
theorem aQp (c:Core) (q:Ask):Sm c (rC c q):=by
 unfold rC
 split
 ·exact aQl _ _
 split
 ·exact aQm _ _
 split
 ·exact aJd _ _
 split
 ·exact aM8 _ _
 split
 ·exact aJe _ _ _
 ·exact fun h=>h
section
variable {S:St} {b:Nat} {q:Ask} (h:S.heap.get b=some (.row 0 16 [nQ q]))
include h
theorem aV0:aR none (.ptr b 0 0 0) S=.ok (.int .i64 q.kind):=by rw [bB _ _ _ _ _ (bC h)];rfl
theorem a_n:aR none (.ptr b 0 0 1) S=.ok (.int .i64 q.n):=by rw [bB _ _ _ _ _ (bC h)];rfl
theorem a_m:aR (some 13) (.ptr b 0 0 2) S=.ok (.agg (aO q.m q.ev)):=by rw [bB _ _ _ _ _ (bC h)];rfl
end
end
theorem aM9 {q:Ask} {S:St} (h:Sl S 1 q.dv (q.data.map aAj)) (hp:0<q.data.length):∃ p,sN 1 q.dv (.int .i64 0)=.ok p∧aR none p S=.ok (.str (aD3 q)):=by
 unfold aD3
 cases hd:q.data with
 | nil=>rw [hd] at hp;exact absurd hp (Nat.lt_irrefl _)
 | cons d l=>
  rw [hd] at h
  obtain ⟨p,hp,hat,_,_⟩:=h.elem (i:=0) (a:=d) rfl
  exact ⟨p,hp,by rw [hat.load0];rfl⟩
theorem j15 {S:St} {a1 a2 b:Nat} {c:Core} {q:Ask} {B:Nat} (w:WF S) (h:Calm S a1 a2 c B) (I:Raft.Inv c) (hb:B≤b) (hg:S.heap.get b=some (.row 0 16 [nQ q])) {s:List UInt8} {R:V→St→Prop}
  (hR:∀ S',WF S'→S.next≤S'.next→Pair S' a1 a2 (c.compact q.n s).1→R (.bool true) S'):
  Ok (fun k K=>aDx (aE prog aW aX k) k K (.ptr a1 0 0 0) (.ptr a2 0 0 0) (.ptr b 0 0 0) (.str s) S) R:=by
 have xb:Ext S (⟨S.next+12,S.heap⟩:St):=(Ext.refl S).bump 12
 have wb:=xb.wf w
 have hb':=h.ext w xb
 have gb:(⟨S.next+12,S.heap⟩:St).heap.get b=some (.row 0 16 [nQ q]):=hg
 simp only [aDx,aIn,aG,Nat.reduceAdd,eT,cR,a_n gb]
 refine hb'.first wb (fun G O hi=>g22 q.n s wb hi I) fun S2 w2 hf2 k2=>?_
 have g2:=k2 _ _ hb gb
 simp only [a_n g2,eT,bO,iL]
 refine hf2.second w2 (fun G O hi=>g41 q.n s w2 hi I) fun S3 w3 n3 P=>?_
 simp only [aS,iL,bR,eT,decide_true]
 refine Ok.ret (hR S3 w3 ?_ P)
 have:=hf2.hn
 have e:(⟨S.next+12,S.heap⟩:St).next=S.next+12:=rfl
 omega
theorem g15 {S:St} {a1 a2:Nat} {c:Core} {B:Nat} (q:Ask) (w:WF S) (h:Calm S a1 a2 c B) (I:Raft.Inv c) (ok:AskOK q) (h20:q.m.entries.length≤20):
  Does prog aW aX 15 [.ptr a1 0 0 0,.ptr a2 0 0 0,.agg (nQ q)] S (fun u S'=>u=.bool true∧WF S'∧S.next≤S'.next∧Pair S' a1 a2 (rC c q)):=by
 have ho:=aAn ok
 have hln:(nQ q).length=16:=rfl
 obtain ⟨S1,hn1,x1,hg1,hnx1⟩:=nb w 16 (nQ q)
 have w1:=x1.wf w
 have h1:=h.top.ext w x1
 have hl:c.out.length≤999990:=by rw [h.out];exact Nat.zero_le _
 have le1:=x1.next
 have fin:∀ {S2 S3:St},S1.next≤S2.next→S2.next≤S3.next→S.next≤S3.next:=fun a b=>Nat.le_trans le1 (Nat.le_trans a b)
 have ap:∀ (T:St) (O:Nat→Prop),Apart T O q.m q.ev:=fun T O=>⟨ok.e T,fun y hy=>by rw [ok.eb] at hy;cases hy⟩
 refine e15 ?_
 simp only [m15,bH,ho,hln,iL,hn1,eT,aNo,aIn,aEu,aEv,aG,Nat.reduceAdd,cR,uE,uD,aPw,aV0 hg1,a_n hg1,a_m hg1,aAo hg1,aS,bR,kS,(ok.d S1).lenI,bX]
 refine Ok.pickP (fun e=>?_) (fun e=>?_)
 ·refine h1.first w1 (fun G O hi=>g18 q.n w1 hi I hl) fun S2 w2 hf2 k2=>?_
  have g2:=k2 _ _ (Nat.le_refl _) hg1
  simp only [a_n g2,eT]
  refine hf2.second w2 (fun G O hi=>g37 q.n w2 hi I hl) fun S3 w3 n3 P=>Ok.ret ⟨rfl,w3,fin hf2.hn n3,?_⟩
  unfold rC;rw [if_pos e];exact P
 refine Ok.pickP (fun e2=>?_) (fun e2=>?_)
 ·refine h1.first w1 (fun G O hi=>g19 q.m q.ev w1 hi I (ap _ _) hl) fun S2 w2 hf2 k2=>?_
  have g2:=k2 _ _ (Nat.le_refl _) hg1
  simp only [a_m g2,eT]
  refine hf2.second w2 (fun G O hi=>g38 q.m q.ev w2 hi I (ap _ _) (Nat.le_trans h20 (by decide)) hl) fun S3 w3 n3 P=>Ok.ret ⟨rfl,w3,fin hf2.hn n3,?_⟩
  unfold rC;rw [if_neg e,if_pos e2];exact P
 refine Ok.pickP (fun e3=>?_) (fun e3=>?_)
 ·refine h1.first w1 (fun G O hi=>g20 q.data q.dv w1 hi I (ok.d S1) (fun y hy=>by rw [ok.db] at hy;cases hy) hl) fun S2 w2 hf2 k2=>?_
  have g2:=k2 _ _ (Nat.le_refl _) hg1
  simp only [aAo g2,eT,eH,List.getElem?_cons_zero,List.getElem?_cons_succ,iP]
  refine hf2.second w2 (fun G O hi=>g39 q.data q.dv w2 hi I (ok.d S2) (fun y hy=>by rw [ok.db] at hy;cases hy) hl) fun S3 w3 n3 P=>?_
  simp only [eH,List.getElem?_cons_zero,List.getElem?_cons_succ,iP,aS,eL,lG,iL,bR,eT,decide_true,mC,beq_self_eq_true]
  refine Ok.ret ⟨rfl,w3,fin hf2.hn n3,?_⟩
  unfold rC;rw [if_neg e,if_neg e2,if_pos e3];exact P
 refine Ok.pickP (fun e4=>?_) (fun e4=>?_)
 ·refine h1.first w1 (fun G O hi=>g21 q.n w1 hi I hl) fun S2 w2 hf2 k2=>?_
  have g2:=k2 _ _ (Nat.le_refl _) hg1
  simp only [a_n g2,eT,eH,List.getElem?_cons_zero,List.getElem?_cons_succ,iP]
  refine hf2.second w2 (fun G O hi=>g40 q.n w2 hi I hl) fun S3 w3 n3 P=>?_
  simp only [eH,List.getElem?_cons_zero,List.getElem?_cons_succ,iP,aS,eL,lG,iL,bR,eT,decide_true,mC,beq_self_eq_true]
  refine Ok.ret ⟨rfl,w3,fin hf2.hn n3,?_⟩
  unfold rC;rw [if_neg e,if_neg e2,if_neg e3,if_pos e4];exact P
 refine Ok.pickP (fun e5=>?_) (fun e5=>?_)
 ·have hP:rC c q=(c.compact q.n (aD3 q)).1:=by unfold rC;rw [if_neg e,if_neg e2,if_neg e3,if_neg e4,if_pos e5]
  refine Ok.pickP (fun e6=>?_) (fun e6=>?_)
  ·obtain ⟨p,hp,hs⟩:=aM9 (ok.d S1) (by omega)
   simp only [aLq,hp,eT,hs]
   exact j15 w1 h1 I (Nat.le_refl _) hg1 fun S3 w3 n3 P=>⟨rfl,w3,Nat.le_trans le1 n3,by rw [hP];exact P⟩
  ·have hs:aD3 q=[115]:=by
    unfold aD3
    cases hd:q.data with
    | nil=>rfl
    | cons d l=>rw [hd] at e6;simp at e6
   rw [←hs]
   exact j15 w1 h1 I (Nat.le_refl _) hg1 fun S3 w3 n3 P=>⟨rfl,w3,Nat.le_trans le1 n3,by rw [hP];exact P⟩
 ·refine Ok.ret ⟨rfl,w1,le1,?_⟩
  unfold rC;rw [if_neg e,if_neg e2,if_neg e3,if_neg e4,if_neg e5];exact h1.pair
section
theorem aOq (a b c d:Nat):aD prog .neq 28 (.ptr a b c d) .nilp=.ok (.bool true):=by
 have h:(fun a b c d=>aD prog .neq 28 (.ptr a b c d) .nilp)=fun _ _ _ _=>.ok (.bool true):=by kernel_rfl
 exact congrFun (congrFun (congrFun (congrFun h a) b) c) d
theorem aOr:aD prog .neq 28 .nilp .nilp=.ok (.bool false):=by kernel_rfl
theorem aHj (a b c d:Nat):aD prog .eql 32 (.ptr a b c d) .nilp=.ok (.bool false):=by
 have h:(fun a b c d=>aD prog .eql 32 (.ptr a b c d) .nilp)=fun _ _ _ _=>.ok (.bool false):=by kernel_rfl
 exact congrFun (congrFun (congrFun (congrFun h a) b) c) d
theorem aOs:aD prog .eql 32 .nilp .nilp=.ok (.bool true):=by kernel_rfl
theorem aHk (a b c d:Nat):aH prog 32 (.ptr a b c d) .nilp=true:=by
 have h:(fun a b c d=>aH prog 32 (.ptr a b c d) .nilp)=fun _ _ _ _=>true:=by kernel_rfl
 exact congrFun (congrFun (congrFun (congrFun h a) b) c) d
theorem aOt:aH prog 32 .nilp .nilp=true:=by kernel_rfl
theorem aHl {id cH:Int} {h:Hard} {c:Core} (e:oM id h cH=some c):c.id=id∧c.h=h∧c.out=[]∧c.way=none:=by
 unfold oM at e
 split at e
 ·cases e
 ·cases e;exact ⟨rfl,rfl,rfl,rfl⟩
structure PlayI (id:Int) (a1 a2:Nat) (S:St):Prop where
 wf:WF S
 core:∃ c B,Calm S a1 a2 c B∧Raft.Inv c∧0≤id∧id<7
theorem aV1 {id cH:Int} {h:Hard} {c:Core} (e:oM id h cH=some c):0≤id∧id<7:=by
 unfold oM at e
 split at e
 ·cases e
 ·rename_i hn
  exact ⟨by omega,by omega⟩
theorem aQq {c:Core} (I:Raft.Inv c) {id:Int} (h1:0≤id) (h2:id<7) (n:Int):∃ d,oM id c.h n=some d:=by
 have h3:=(lX _).2 I.h
 unfold oM
 rw [if_neg (by rintro (q | q | q);omega;omega;rw [h3] at q;cases q)]
 exact ⟨_,rfl⟩
theorem Calm.mk2 {n1 n2:Nat} {S S':St} {a1 a2:Nat} {c:Core} {O1 O2:Nat→Prop} (w:WF S) (w':WF S') (x:Ext S S') (ho:c.out=[]) (h1:@CoreIn ⟨n1⟩ S a1 c O1) (h2:@WIn ⟨n2⟩ S' a2 c O2) (hb:∀ y,O2 y→S.next≤y):Calm S' a1 a2 c S'.next:=by
 haveI:Guard:=⟨0⟩
 obtain ⟨lv,wv,dv,ov,rows,h1,rfl⟩:=h1
 obtain ⟨lw,ow,rw',h2,rfl⟩:=h2
 have e1:rows=[]:=by have:=@CoreAt.lets ⟨n1⟩ _ _ _ _ _ _ _ _ h1;rw [ho] at this;exact aHi this
 have e2:rw'=[]:=by have:=@WAt.lets ⟨n2⟩ _ _ _ _ _ _ _ h2;rw [ho] at this;exact aHi this
 subst e1
 subst e2
 refine ⟨ho,Nat.le_refl _,n1,n2,lv,wv,dv,ov,lw,ow,(letI:Guard:=⟨n1⟩;CoreAt.ext h1 w x),h2,fun y hy q=>?_,fun y hy=>?_,fun y hy=>(letI:Guard:=⟨n2⟩;qZ w' h2 hy)⟩
 ·have:=hb y q
  have:=(letI:Guard:=⟨n1⟩;sZ w h1 hy)
  omega
 ·exact Nat.lt_of_lt_of_le (letI:Guard:=⟨n1⟩;sZ w h1 hy) x.next
section
variable {qs:List Ask} {av:V} (hq:∀ q,q∈qs→AskOK q) (hs:∀ S,Sl S 16 av (qs.map nQ))
include hq hs
theorem j3 {i:Nat} {q:Ask} (hi:qs[i]?=some q) (hi60:i<60) (h20:q.m.entries.length≤20) {S:St} {a1 a2:Nat} {c:Core} {B:Nat} (w:WF S) (h:Calm S a1 a2 c B) (I:Raft.Inv c) {p0 x8:V} {X:Type} {out:Nat→KS→X→St→An} {Q:Turn X→Prop}
  (hQ:∀ S' c' B',WF S'→Calm S' a1 a2 c' B'→Raft.Inv c'→Q (.next [x8,.ptr a1 0 0 0,.ptr a2 0 0 0,.int .i64 ((i+1:Nat):Int)] S')):
  OkL out (fun k K bD=>aK5 (aE prog aW aX k) k K bD p0 av x8 (.ptr a1 0 0 0) (.ptr a2 0 0 0) (.int .i64 (i:Int)) S) Q:=by
 haveI:Guard:=⟨0⟩
 have ok:=hq q (List.mem_of_getElem? hi)
 have hwi:wr .i64 ((i:Int)+1)=((i+1:Nat):Int):=cP hi60 (by decide)
 obtain ⟨p,hp,at1,_,_⟩:=(hs S).elem hi
 simp only [aK5,aUd,hp,eT,aW4,aOa at1]
 refine OkL.call (g15 q w h I ok h20) fun u S1 ⟨e1,w1,n1,P⟩=>?_
 subst e1
 simp only [dS,eT,Bool.not_true,aK]
 obtain ⟨⟨J,kp⟩,ho⟩:=aQo I q
 obtain ⟨k1,k2,lv,wv,dv,ov,rows,lw,ow,rw',c1,c2,d,e1,e2⟩:=P
 have h8:∀ m∈(rC c q).out,m.entries.length≤8:=aQp c q (fun m hm=>by rw [h.out] at hm;cases hm)
 refine OkL.call (g16 w1 c1 c2 J.h d e1 e2 h8 (by rw [h.out] at ho;exact Nat.le_trans ho (by decide))) fun u S2 ⟨e3,w2,n2,d1,d2⟩=>?_
 subst e3
 simp only [dS,eT,Bool.not_true,aK,bK,hwi]
 have J':Raft.Inv { rC c q with out:=[] }:=J.sent ⟨rfl,rfl,rfl,rfl,rfl,rfl,rfl,rfl,rfl,rfl⟩
 have dd:∀ y,own a1 lv wv dv .nils y→¬ dP a2 lw .nils y:=fun y hy q=>by
  refine d y ?_ ?_
  ·rcases hy with hy | hy | hy | hy | hy
   ·exact .inl hy
   ·exact .inr (.inl hy)
   ·exact .inr (.inr (.inl hy))
   ·exact .inr (.inr (.inr (.inl hy)))
   ·cases hy
  ·rcases q with q | q | q
   ·exact .inl q
   ·exact .inr (.inl q)
   ·cases q
 exact OkL.next (hQ S2 _ S2.next w2 ⟨rfl,Nat.le_refl _,k1,k2,lv,wv,dv,.nils,lw,.nils,d1,d2,dd,fun y hy=>(letI:Guard:=⟨k1⟩;sZ w2 d1 hy),fun y hy=>(letI:Guard:=⟨k2⟩;qZ w2 d2 hy)⟩ J')
end
end
section
section
variable {qs:List Ask} {av:V} (hq:∀ q,q∈qs→AskOK q) (hs:∀ S,Sl S 16 av (qs.map nQ))
include hq hs
theorem l3 {id:Int} {a1 a2:Nat} {S:St} (K0:PlayI id a1 a2 S):
  Ok (fun k K=>cQ k [.bool false,.ptr a1 0 0 0,.ptr a2 0 0 0,.int .i64 0] S (rP (aE prog aW aX k) k K (.int .i64 id) av)) (fun u S'=>u=.bool true):=by
 letI G0:Guard:=⟨0⟩
 refine Ok.loopL (F:=fun k K=>rP (aE prog aW aX k) k K (.int .i64 id) av) (ρ:=Unit) (α:=Ask) (X:=Unit) (qs.take 60) (step:=fun _ _=>.inr ()) (fin:=fun x=>x) (s:=())
  (out:=fun k K _ S'=>aE prog aW aX k 10 [] S' fun t S''=>K t S'')
  (fun i _ vs S'=>∃ a1 a2,vs=[.bool false,.ptr a1 0 0 0,.ptr a2 0 0 0,.int .i64 (i:Int)]∧PlayI id a1 a2 S')
  (fun _ _ _=>True) ?_ ?_ ⟨a1,a2,rfl,K0⟩ (fun _ S' _=>aAu rfl)
 ·rintro i q _ vs S1 ⟨a1,a2,rfl,w1,c,B,cm,I,i0,i7⟩ hi
  have hil:=(List.getElem?_eq_some_iff.1 hi).1
  rw [List.length_take] at hil
  have hi60:i<60:=by omega
  have hiq:i<qs.length:=by omega
  have hi':qs[i]?=some q:=by rw [List.getElem?_take,if_pos hi60] at hi;exact hi
  have ok:=hq q (List.mem_of_getElem? hi')
  have hlt:(i:Int)<(qs.length:Int):=Int.ofNat_lt.2 hiq
  have hlt2:(i:Int)<60:=Int.ofNat_lt.2 hi60
  have hwi:wr .i64 ((i:Int)+1)=((i+1:Nat):Int):=cP hi60 (by decide)
  obtain ⟨p,hp,at1,_,_⟩:=(hs S1).elem hi'
  simp only [rP,aY,aGu,(hs S1).lenI,eT,aZ,hlt,hlt2,decide_true,mC,aAt,aOq,iL,aUd,hp,aW4,aOa at1]
  refine OkL.call (g13 q S1 w1 ok) fun u S2 ⟨x2,hu⟩=>?_
  have w2:=x2.wf w1
  have cm2:=cm.ext w1 x2
  rcases hu with ⟨rfl,h20,h130⟩ | rfl
  ·obtain ⟨p2,hp2,at2,_,_⟩:=(hs S2).elem hi'
   rw [hp] at hp2
   cases hp2
   simp only [dS,eT,Bool.not_true,aK,aUd,hp,aNo,aIn,(aKm at2).1,(aKm at2).2,cR,aS,iL,bR]
   refine OkL.pickP (fun e=>?_) (fun e=>?_)
   ·have xb:Ext S2 (⟨S2.next+14,S2.heap⟩:St):=(Ext.refl S2).bump 14
    have wb:=xb.wf w2
    obtain ⟨p3,hp3,at3,_,_⟩:=(hs (⟨S2.next+14,S2.heap⟩:St)).elem hi'
    rw [hp] at hp3
    cases hp3
    have cmb:=cm2.ext w2 xb
    obtain ⟨o,hB,n1,n2,lv,wv,dv,ov,lw,ow,h1,h2,d,e1,e2⟩:=cmb
    simp only [(aO9 at3).1,(aO9 at3).2,eT]
    refine OkL.call (letI:Guard:=⟨n1⟩;g14 wb ⟨lv,wv,dv,ov,[],h1,rfl⟩ I.h) fun u S3 ⟨x3,lv',e3,o3⟩=>?_
    subst e3
    have w3:=x3.wf wb
    obtain ⟨p4,hp4,at4,_,_⟩:=(hs S3).elem hi'
    rw [hp] at hp4
    cases hp4
    obtain ⟨c',hN⟩:=aQq I i0 i7 q.n
    obtain ⟨J,_⟩:=Inv.new hN
    have hll:=I.h.ll
    simp only [(aO9 at4).2,eT,bO,iL]
    refine OkL.call (g11 id q.n c.h lv' S3 w3 (Nat.zero_le _) o3.sl (Nat.le_trans hll (by decide))) fun u S4 ⟨x4,hn⟩=>?_
    rw [hN] at hn
    obtain ⟨b1,O1,rfl,in1,_⟩:=hn
    have w4:=x4.wf w3
    have xc:Ext S4 (⟨S4.next+16,S4.heap⟩:St):=(Ext.refl S4).bump 16
    have x2c:=(x3.trans x4).trans xc
    have h2c:=(letI:Guard:=⟨n2⟩;WAt.ext h2 wb x2c)
    have wc:=xc.wf w4
    obtain ⟨p5,hp5,at5,_,_⟩:=(hs (⟨S4.next+16,S4.heap⟩:St)).elem hi'
    rw [hp] at hp5
    cases hp5
    have rh:=(letI:Guard:=⟨n2⟩;WAt.r_hard h2c)
    have sl2:=(letI:Guard:=⟨n2⟩;h2c.log.sl)
    simp only [eH,List.getElem?_cons_zero,List.getElem?_cons_succ,iP,xT,dI,aG,Nat.reduceAdd,eT,mE,rh,(aO9 at5).1,(aO9 at5).2]
    refine OkL.call (g12 id q.n c.h lw _ wc (Nat.zero_le _) sl2 (Nat.le_trans hll (by decide))) fun u S5 ⟨x5,hn5⟩=>?_
    rw [hN] at hn5
    obtain ⟨b2,O2,rfl,in2,hO2⟩:=hn5
    have w5:=x5.wf wc
    simp only [eH,List.getElem?_cons_zero,List.getElem?_cons_succ,iP,aAt,aHb,aHk,aHj,aS,cJ,ne_eq,not_true_eq_false,decide_false,decide_true,Bool.not_true,iL,eT,aK]
    have hO2':∀ y,O2 y→S4.next≤y:=fun y hy=>Nat.le_trans (Nat.le_add_right _ 16) (hO2 y hy)
    exact j3 hq hs hi' hi60 h20 w5 (Calm.mk2 (n1:=0) (n2:=0) w4 w5 (xc.trans x5) (aHl hN).2.2.1 in1 in2 hO2') J fun S' c2 B' w' cm' I'=>⟨(),rfl,b1,b2,rfl,w',c2,B',cm',I',i0,i7⟩
   ·exact j3 hq hs hi' hi60 h20 w2 cm2 I fun S' c2 B' w' cm' I'=>⟨(),rfl,a1,a2,rfl,w',c2,B',cm',I',i0,i7⟩
  ·simp only [dS,eT,Bool.not_false,mC,bK,hwi]
   exact OkL.next ⟨(),rfl,a1,a2,rfl,w2,c,B,cm2,I,i0,i7⟩
 ·rintro _ vs S1 ⟨a1,a2,rfl,w1,_⟩
  refine ⟨(),trivial,fun k K bD=>?_⟩
  have hn:(qs.take 60).length=min 60 qs.length:=List.length_take
  by_cases h1:((qs.take 60).length:Int)<(qs.length:Int)
  ·have h2:¬ ((qs.take 60).length:Int)<60:=by omega
   simp only [rP,aY,aGu,(hs S1).lenI,aF,aZ,h1,h2,decide_true,decide_false,bA,aK]
  ·simp only [rP,aY,aGu,(hs S1).lenI,aF,aZ,h1,decide_false,aK]
theorem l3n {id:V} {S:St}:Ok (fun k K=>cQ k [.bool false,.nilp,.nilp,.int .i64 0] S (rP (aE prog aW aX k) k K id av)) (fun u S'=>u=.bool true):=by
 letI G0:Guard:=⟨0⟩
 refine Ok.loopL (F:=fun k K=>rP (aE prog aW aX k) k K id av) (ρ:=Unit) (α:=Unit) (X:=Unit) [] (step:=fun _ _=>.inr ()) (fin:=fun x=>x) (s:=())
  (out:=fun k K _ S'=>aE prog aW aX k 10 [] S' fun t S''=>K t S'')
  (fun i _ vs S'=>vs=[.bool false,.nilp,.nilp,.int .i64 0])
  (fun _ _ _=>True) (fun i a _ vs S' _ hi=>by cases hi) ?_ rfl (fun _ S' _=>aAu rfl)
 rintro _ vs S1 rfl
 refine ⟨(),trivial,fun k K bD=>?_⟩
 have h0:(0:Int)<60:=by decide
 by_cases h1:(0:Int)<(qs.length:Int)
 ·simp only [rP,aY,aGu,(hs S1).lenI,aF,aZ,h1,h0,decide_true,bA,aHc,aOr,aJ,aK]
 ·simp only [rP,aY,aGu,(hs S1).lenI,aF,aZ,h1,decide_false,aK]
theorem g3 (id cH:Int) (h:Hard) (lv:V) (S:St) (w:WF S) (hl3:Sl S 3 lv (h.log.map bM)):Does prog aW aX 3 [.int .i64 id,.agg (aV h lv),.int .i64 cH,av] S (fun u S'=>u=.bool true):=by
 letI G0:Guard:=⟨0⟩
 have ho:=dG h hl3.one
 have hln:(aV h lv).length=7:=rfl
 obtain ⟨S1,hn1,x1,hg1,hnx1⟩:=nb w 7 (aV h lv)
 have w1:=x1.wf w
 have va:∀ {T:St},T.heap.get S.next=some (.row 0 7 [aV h lv])→aR (some 7) (.ptr S.next 0 0 0) T=.ok (.agg (aV h lv)):=fun hg=>by rw [bB _ _ _ _ _ (bC hg)];exact cM _ _ hln
 refine e3 ?_
 simp only [m3,bH,ho,hln,iL,hn1,eT,mE,va hg1]
 refine Does.call (g9 h lv S1 w1 (hl3.ext x1)) fun u S2 ⟨x2,hu⟩=>?_
 have w2:=x2.wf w1
 have g2:=x2.old _ _ hg1
 rcases hu with ⟨rfl,h40⟩ | rfl
 ·simp only [dS,eT,Bool.not_true,aK,va g2]
  refine Does.call (g11 id cH h lv S2 w2 (Nat.zero_le _) (hl3.ext (x1.trans x2)) (Nat.le_trans h40 (by decide))) fun u S3 ⟨x3,hn⟩=>?_
  have w3:=x3.wf w2
  have g3':=x3.old _ _ g2
  cases hN:oM id h cH with
  | none=>
   rw [hN] at hn
   subst hn
   simp only [eH,List.getElem?_cons_zero,List.getElem?_cons_succ,iP,va g3',eT]
   refine Does.call (g12 id cH h lv S3 w3 (Nat.zero_le _) (hl3.ext ((x1.trans x2).trans x3)) (Nat.le_trans h40 (by decide))) fun u S4 ⟨x4,hn4⟩=>?_
   rw [hN] at hn4
   subst hn4
   simp only [eH,List.getElem?_cons_zero,List.getElem?_cons_succ,iP,aS,eL,cJ,jU,aHc,aO8,aOt,aOs,ne_eq,not_true_eq_false,decide_false,decide_true,Bool.not_true,iL,eT,aK,beq_self_eq_true]
   exact l3n hq hs
  | some c=>
   rw [hN] at hn
   obtain ⟨b1,O1,rfl,in1,_⟩:=hn
   obtain ⟨I,_⟩:=Inv.new hN
   simp only [eH,List.getElem?_cons_zero,List.getElem?_cons_succ,iP,va g3',eT]
   refine Does.call (g12 id cH h lv S3 w3 (Nat.zero_le _) (hl3.ext ((x1.trans x2).trans x3)) (Nat.le_trans h40 (by decide))) fun u S4 ⟨x4,hn4⟩=>?_
   rw [hN] at hn4
   obtain ⟨b2,O2,rfl,in2,hO2⟩:=hn4
   have w4:=x4.wf w3
   have hid:=aV1 hN
   simp only [eH,List.getElem?_cons_zero,List.getElem?_cons_succ,iP,aS,eL,cJ,jU,aAt,aHb,aHk,aHj,ne_eq,not_true_eq_false,decide_false,decide_true,Bool.not_true,iL,eT,aK,beq_self_eq_true]
   exact l3 hq hs ⟨w4,c,S4.next,Calm.mk2 (n1:=0) (n2:=0) w3 w4 x4 (aHl hN).2.2.1 in1 in2 hO2,I,hid.1,hid.2⟩
 ·simp only [dS,eT,Bool.not_false,mC]
  exact aAu rfl
end
end
end Go.Proofs.Ytbiidlmhadihlaa
end
