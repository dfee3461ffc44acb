import Derived.ChangeArms
import Derived.ProofKit
import Derived.Test.YtbiidlmhadihlaaX3
set_option linter.unusedSimpArgs false
set_option linter.unusedVariables false
set_option linter.unusedSectionVars false
set_option maxRecDepth 100000
section
namespace Go.Proofs.Ytbiidlmhadihlaa
open Go.AM Go.Raft Try
section
variable [Guard]
theorem iC {c:Core} (h:c.peers.length=7) {n:Nat} (hn:n<7) (p:Peer):({ c with peers:=c.peers.set n p }:Core).peer (n:Int)=p:=by
 show (c.peers.set n p).getD n ⟨0,0,0⟩=p
 rw [List.getD_eq_getElem?_getD,List.getElem?_set_self (by omega)]
 rfl
theorem aH5 {a b c d e:Int} (h1:1≤a) (h2:a≤e+1) (h3:0≤b) (h4:b≤e) (h5:0≤c) (h6:e≤1099511627776) (h7:c≤1099511627776) (hd:d=max (min (a - 1) (c+1)) (b+1)):wr .i64 (a - 1)=a - 1∧wr .i64 (c+1)=c+1∧wr .i64 (b+1)=b+1∧1≤d∧d≤e+1:=
 ⟨cS (by omega) (by omega),cS (by omega) (by omega),cS (by omega) (by omega),by omega,by omega⟩
theorem aIz (x y:Int):bQ prog 84 [(0,.int .i64 x),(1,.int .i64 y)]=.ok (.agg (jT ⟨x,y,0⟩)):=by rw [aUc];rfl
section
variable {S:St} {a:Nat} {c:Core} {O:Nat→Prop}
theorem j57 (m:Letter) (ev:V) {b:Nat} (w:WF S) (h:CoreIn S a c O) (hb:S.heap.get b=some (.row 0 13 [aO m ev])) (ok:Hok c.h) (f0:0≤m.from') (f1:m.from'<7) (hp:Pok c (c.peer m.from')) (hl:c.out.length≤999990) (q:Bool):
  Ok (fun k K=>vM (aE prog aW aX k) k K (.ptr a 0 0 0) (.ptr b 0 0 0) (.bool q) S) (fun u S'=>u=.tup []∧∃ O',CoreIn S' a (if q=true then c.send m.from' else c) O'∧Mv O S O' S'):=by
 cases q with
 | true=>
  simp only [vM,bA,cW,aG,Nat.reduceAdd,aF,cR,cG hb,if_true]
  exact Meth.call (g83 w h ok (dN hl) f0 f1 hp) w fun S2 O2 w2 in2 m2=>Ok.ret ⟨rfl,O2,in2,m2⟩
 | false=>
  simp only [vM,aK]
  exact Ok.ret ⟨rfl,O,h,Mv.refl O S⟩
theorem g57 (m:Letter) (ev:V) (w:WF S) (h:CoreIn S a c O) (I:Inv c) (ok:Lok m) (he:Sl S 3 ev (m.entries.map bM)) (hl:c.out.length≤999990):Meth 57 [.ptr a 0 0 0,.agg (aO m ev)] a (c.acked m) S O (.tup []):=by
 have ho:=cB m he.one
 have hln:(aO m ev).length=13:=rfl
 have f0:=ok.f0
 have f1:=ok.f1
 have i0:=ok.i0
 have i1:=ok.i1
 have hr:=cZ I.h
 have f7:m.from'<7:=by omega
 have hw:wr .i64 (m.index+1)=m.index+1:=cS (by omega) (by omega)
 obtain ⟨n,hn⟩:∃ n:Nat,m.from'=(n:Int):=⟨m.from'.toNat,by omega⟩
 have hn7:n<7:=by omega
 have hpe:c.peers.getD n ⟨0,0,0⟩=c.peer m.from':=by rw [hn];rfl
 obtain ⟨S1,hn1,x1,hg1,hnx1⟩:=nb w 13 (aO m ev)
 have w1:=x1.wf w
 have hno:¬ O S.next:=fun hO=>absurd (kZ w h _ hO) (Nat.lt_irrefl _)
 have xb:Ext S1 (⟨S1.next+12,S1.heap⟩:St):=(Ext.refl S1).bump 12
 have x1b:=x1.trans xb
 have inb:=h.ext w x1b
 have hinb:=inb
 obtain ⟨lv,wv,dv,ov,rows,hb1,hO⟩:=inb
 have hb1':aR none (.ptr a 0 0 8) S1=.ok (.int .i64 c.role):=hb1.r_role
 refine e57 ?_
 simp only [m57,bH,ho,hln,aJ,hn1,aF,aI,hJ,cI,aG,Nat.reduceAdd,cR,aL,hb1',bI hg1,aS,cJ]
 have hA:c.acked m=if c.role≠3∨c.last<m.index then c else
   if m.yes=false then (c.setPeer m.from' { c.peer m.from' with next:=max (min ((c.peer m.from').next - 1) (m.index+1)) ((c.peer m.from').mtch+1) }).send m.from' else
   if m.index≤(c.peer m.from').mtch then c else
    if (c.setPeer m.from' ⟨m.index+1,m.index,0⟩).look.role=3∧((c.setPeer m.from' ⟨m.index+1,m.index,0⟩).look.peer m.from').next≤(c.setPeer m.from' ⟨m.index+1,m.index,0⟩).look.last then (c.setPeer m.from' ⟨m.index+1,m.index,0⟩).look.send m.from' else (c.setPeer m.from' ⟨m.index+1,m.index,0⟩).look:=rfl
 rw [hA]
 refine Ok.pickN (fun e=>Ok.ret ⟨rfl,O,by rw [if_pos (.inl e)];exact hinb,Mv.of x1b⟩) (fun e=>?_)
 refine (g46 hinb I.h).call fun S2 x2=>?_
 have x02:=x1b.trans x2
 have w2:=x02.wf w
 have g2:=x2.old _ _ (xb.old _ _ hg1)
 have in2:=h.ext w x02
 simp only [bI g2,aF,bO,aJ,bX]
 refine Ok.pickP (fun e2=>Ok.ret ⟨rfl,O,by rw [if_pos (.inr e2)];exact in2,Mv.of x02⟩) (fun e2=>?_)
 rw [if_neg (fun q=>by
  rcases q with q | q
  ·exact q e
  ·exact e2 q)]
 have hpk:=I.pr e _ (mS I.pl f0 f7)
 have hsp:∀ p:Peer,({ c with peers:=c.peers.set n p }:Core)=c.setPeer m.from' p:=fun p=>by unfold Core.setPeer;rw [hn];rfl
 simp only [cW,jY,cI,pY,aG,Nat.reduceAdd,aF,cR,ld4,aL,cG g2,mR g2,bI g2,aI,hn,aAf,eK hn7,dS]
 rw [←hn]
 refine Ok.pick (fun e3=>?_) (fun e3=>?_)
 ·have e3':m.yes=false:=by simpa using e3
  rw [if_pos e3']
  have xc:Ext S2 (⟨S2.next+26,S2.heap⟩:St):=(Ext.refl S2).bump 26
  have wc:=xc.wf w2
  obtain ⟨lv,wv,dv,ov,rows,h2,hO2⟩:=in2
  generalize hd:max (min ((c.peer m.from').next - 1) (m.index+1)) ((c.peer m.from').mtch+1)=d
  obtain ⟨q1,q2,q3,q4,q5⟩:=aH5 hpk.n0 hpk.n1 hpk.a0 hpk.a1 i0 hr.2 i1 hd.symm
  obtain ⟨S3,r3,h3,m3,n3⟩:=(h2.ext w2 xc).w_next wc hn7 d
  have e1:=h2.r_next hn7
  have e4:=h2.r_mtch hn7
  rw [hpe] at e1 e4 h3
  rw [hsp] at h3
  rw [←hO2] at m3
  have w3:=m3.wf wc
  have g3:=(fR wc (xc.old _ _ g2) hno m3).1
  simp only [aI,aF0,aA2,cI,cW,aG,Nat.reduceAdd,Nat.add_zero,aF,cR,aL,e1,e4,bI g2,cE,bK,q1,q2,q3,lZ,uG,hd,mD,r3,cG g3]
  have hpp:({ c with peers:=c.peers.set n { c.peer m.from' with next:=d } }:Core).peer m.from'={ c.peer m.from' with next:=d }:=by rw [hn];exact iC I.pl hn7 _
  rw [hsp] at hpp
  refine Meth.call (g83 w3 ⟨_,_,_,_,_,h3,hO2⟩ I.h (dN hl) f0 f7 ?_) w3 fun S4 O4 w4 in4 m4=>Ok.ret ⟨rfl,O4,in4,((Mv.of (x02.trans xc)).trans w m3).trans w m4⟩
  rw [hpp]
  exact ⟨hpk.a0,hpk.a1,q4,q5,hpk.o0,hpk.o1⟩
 ·rw [if_neg (fun q=>by rw [q] at e3;cases e3)]
  have xc:Ext S2 (⟨S2.next+14,S2.heap⟩:St):=(Ext.refl S2).bump 14
  have wc:=xc.wf w2
  have hin2:=in2
  obtain ⟨lv,wv,dv,ov,rows,h2,hO2⟩:=in2
  have e4:=h2.r_mtch hn7
  rw [hpe] at e4
  simp only [aI,aA2,cI,aG,Nat.reduceAdd,Nat.add_zero,aF,cR,aL,e4,bI g2,dH,bK,hw,aIz]
  refine Ok.pickP (fun e5=>Ok.ret ⟨rfl,O,by rw [if_pos e5];exact hin2.ext w2 xc,Mv.of (x02.trans xc)⟩) (fun e5=>?_)
  rw [if_neg e5]
  obtain ⟨S3,r3,h3,m3,n3⟩:=(h2.ext w2 xc).w_peer wc hn7 ⟨m.index+1,m.index,0⟩
  rw [hsp] at h3
  rw [←hO2] at m3
  have w3:=m3.wf wc
  have g3:=fR wc (xc.old _ _ g2) hno m3
  have hpp:({ c with peers:=c.peers.set n ⟨m.index+1,m.index,0⟩ }:Core).peer m.from'=⟨m.index+1,m.index,0⟩:=by rw [hn];exact iC I.pl hn7 _
  rw [hsp] at hpp
  simp only [aLs,r3,aF]
  generalize hc3:c.setPeer m.from' ⟨m.index+1,m.index,0⟩=c3 at h3 hpp
  have eh:c3.h=c.h:=by rw [←hc3];rfl
  have el3:c3.last=c.last:=by unfold Core.last;rw [eh]
  have mv3:=(Mv.of (O:=O) (x02.trans xc)).trans w m3
  refine Meth.call (g90 w3 ⟨_,_,_,_,_,h3,hO2⟩ (by rw [eh];exact I.h) (by rw [eh,←hc3];exact I.s0) (by rw [el3,←hc3];exact I.s1)) w3 fun S4 O4 w4 in4 m4=>?_
  obtain ⟨k1,k2,k3,k4,k5⟩:=qX c3
  have mv4:=mv3.trans w m4
  have g4:=(fR w3 g3.1 g3.2 m4).1
  generalize hc4:c3.look=c4 at in4 k1 k2 k3 k4 k5
  have hok4:Hok c4.h:=by rw [k1,eh];exact I.h
  have hp4:c4.peer m.from'=⟨m.index+1,m.index,0⟩:=by unfold Core.peer at hpp ⊢;rw [k2];exact hpp
  have hp4':c4.peers.getD n ⟨0,0,0⟩=⟨m.index+1,m.index,0⟩:=by rw [←hp4,hn];rfl
  have el4:c4.last=c.last:=by unfold Core.last;rw [k1,eh]
  have hl4:c4.out.length≤999990:=by rw [k3,←hc3];exact hl
  have xd:Ext S4 (⟨S4.next+14,S4.heap⟩:St):=(Ext.refl S4).bump 14
  have hin4:=in4
  obtain ⟨lv,wv,dv,ov,rows,h4,hO4⟩:=in4
  have e7:=h4.r_next hn7
  rw [hp4'] at e7
  have hb0:=I.h.b0
  have hpk4:Pok c4 (c4.peer m.from'):=by
   rw [hp4];exact ⟨i0,by rw [el4];exact Int.not_lt.1 e2,Int.add_le_add_right i0 1,by rw [el4];show m.index+1≤c.last+1;exact Int.add_le_add_right (Int.not_lt.1 e2) 1,Int.le_refl _,.inr rfl⟩
  have fin:∀ S5,Ext S4 S5→∀ q:Bool,q=decide (c4.role=3∧(c4.peer m.from').next≤c4.last)→Ok (fun k K=>vM (aE prog aW aX k) k K (.ptr a 0 0 0) (.ptr S.next 0 0 0) (.bool q) S5) (fun u S'=>u=.tup []∧∃ O',CoreIn S' a (if c4.role=3∧(c4.peer m.from').next≤c4.last then c4.send m.from' else c4) O'∧Mv O S O' S'):=fun S5 x5 q hq=>by
   refine (j57 m ev (x5.wf w4) (hin4.ext w4 x5) (x5.old _ _ g4) hok4 f0 f7 hpk4 hl4 q).mono fun u S6 ⟨e,O6,i6,m6⟩=>⟨e,O6,?_,(mv4.trans w (Mv.of x5)).trans w m6⟩
   by_cases hc:c4.role=3∧(c4.peer m.from').next≤c4.last
   ·rw [if_pos hc];rw [hq,decide_eq_true hc,if_pos rfl] at i6;exact i6
   ·rw [if_neg hc];rw [hq,decide_eq_false hc,if_neg (by decide)] at i6;exact i6
  simp only [aI,hJ,aF0,aG,Nat.reduceAdd,Nat.add_zero,aF,cR,aL,h4.r_role,aS,aJ,bR,e7]
  refine Ok.pickP (fun e6=>?_) (fun e6=>fin _ xd false (decide_eq_false (fun q=>e6 q.1)).symm)
  refine (g46 (hin4.ext w4 xd) hok4).call fun S5 x5=>?_
  have x45:=xd.trans x5
  have e8:=(h4.ext w4 x45).r_next hn7
  rw [hp4'] at e8
  simp only [e8,aF,bO,aJ,dH]
  refine fin S5 x45 _ ?_
  rw [hp4]
  by_cases hc:m.index+1≤c4.last
  ·rw [decide_eq_true hc,decide_eq_true (show c4.role=3∧m.index+1≤c4.last from ⟨e6,hc⟩)]
  ·rw [decide_eq_false hc,decide_eq_false (fun q=>hc q.2)]
end
end
section
variable [Guard]
section
variable {S:St} {a:Nat} {c:Core} {O:Nat→Prop}
theorem g59 (m:Letter) (ev:V) (w:WF S) (h:CoreIn S a c O) (I:Inv c) (ok:Lok m) (hk:m.kind=6) (he:Sl S 3 ev (m.entries.map bM)) (hl:c.out.length≤999990):Meth 59 [.ptr a 0 0 0,.agg (aO m ev)] a (c.more m) S O (.tup []):=by
 have ho:=cB m he.one
 have hln:(aO m ev).length=13:=rfl
 have f0:=ok.f0
 have f1:=ok.f1
 have k6:=ok.k6 hk
 have f7:m.from'<7:=by omega
 obtain ⟨n,hn⟩:∃ n:Nat,m.from'=(n:Int):=⟨m.from'.toNat,by omega⟩
 have hn7:n<7:=by omega
 have hpe:c.peers.getD n ⟨0,0,0⟩=c.peer m.from':=by rw [hn];rfl
 obtain ⟨S1,hn1,x1,hg1,hnx1⟩:=nb w 13 (aO m ev)
 have w1:=x1.wf w
 have hno:¬ O S.next:=fun hO=>absurd (kZ w h _ hO) (Nat.lt_irrefl _)
 have xb:Ext S1 (⟨S1.next+54,S1.heap⟩:St):=(Ext.refl S1).bump 54
 have in1:=h.ext w x1
 have hinb:=in1.ext w1 xb
 obtain ⟨lv,wv,dv,ov,rows,h1,hO⟩:=in1
 have e1:=h1.r_next hn7
 have e2:=h1.r_off hn7
 rw [hpe] at e1 e2
 refine e59 ?_
 simp only [m59,bH,ho,hln,aJ,hn1,aF,aI,hJ,dV,pY,dM,kN,aF0,aIo,cW,cI,iK,aG,Nat.reduceAdd,Nat.add_zero,cR,uE,aL,cG hg1,h1.r_role,h1.r_base,h1.r_snap,bI hg1,gL hg1,hn,aAf,eK hn7,e1,e2,kG,aS,cJ,bX,dA,bR]
 rw [←hn]
 have hA:c.more m=if c.role≠3∨m.index≠c.h.base∨c.h.base<(c.peer m.from').next∨(c.h.snap.length:Int)≤m.off∨m.off=(c.peer m.from').off then c else (c.setPeer m.from' { c.peer m.from' with off:=m.off }).send m.from':=rfl
 rw [hA]
 have no:(c.role≠3∨m.index≠c.h.base∨c.h.base<(c.peer m.from').next∨(c.h.snap.length:Int)≤m.off∨m.off=(c.peer m.from').off)→∀ S',Ext S1 S'→Ok (fun k K=>K (.tup []) S') (fun u S'=>u=.tup []∧∃ O',CoreIn S' a (if c.role≠3∨m.index≠c.h.base∨c.h.base<(c.peer m.from').next∨(c.h.snap.length:Int)≤m.off∨m.off=(c.peer m.from').off then c else (c.setPeer m.from' { c.peer m.from' with off:=m.off }).send m.from') O'∧Mv O S O' S'):=fun hq S' x=>Ok.ret ⟨rfl,O,by rw [if_pos hq];exact h.ext w (x1.trans x),Mv.of (x1.trans x)⟩
 refine Ok.pickN (fun e=>no (.inl e) _ xb) (fun e=>?_)
 refine Ok.pickN (fun e3=>no (.inr (.inl e3)) _ xb) (fun e3=>?_)
 refine Ok.pickP (fun e4=>no (.inr (.inr (.inl e4))) _ xb) (fun e4=>?_)
 refine Ok.pickP (fun e5=>no (.inr (.inr (.inr (.inl e5)))) _ xb) (fun e5=>?_)
 refine Ok.pickP (fun e6=>no (.inr (.inr (.inr (.inr e6)))) _ xb) (fun e6=>?_)
 rw [if_neg (fun q=>by
  rcases q with q | q | q | q | q
  ·exact q e
  ·exact q e3
  ·exact e4 q
  ·exact e5 q
  ·exact e6 q)]
 have hpk:=I.pr e _ (mS I.pl f0 f7)
 have wb:=xb.wf w1
 obtain ⟨S3,r3,h3,m3,n3⟩:=(h1.ext w1 xb).w_off wb hn7 m.off
 rw [hpe] at h3
 have hsp:∀ p:Peer,({ c with peers:=c.peers.set n p }:Core)=c.setPeer m.from' p:=fun p=>by unfold Core.setPeer;rw [hn];rfl
 rw [hsp] at h3
 rw [←hO] at m3
 have w3:=m3.wf wb
 have g3:=(fR wb (xb.old _ _ hg1) hno m3).1
 simp only [mD,r3,aF,cG g3]
 have hpp:({ c with peers:=c.peers.set n { c.peer m.from' with off:=m.off } }:Core).peer m.from'={ c.peer m.from' with off:=m.off }:=by rw [hn];exact iC I.pl hn7 _
 rw [hsp] at hpp
 refine Meth.call (g83 w3 ⟨_,_,_,_,_,h3,hO⟩ I.h (dN hl) f0 f7 ?_) w3 fun S4 O4 w4 in4 m4=>Ok.ret ⟨rfl,O4,in4,((Mv.of (x1.trans xb)).trans w m3).trans w m4⟩
 rw [hpp]
 exact ⟨hpk.a0,hpk.a1,hpk.n0,hpk.n1,k6.2.1,.inl (Int.not_le.1 e5)⟩
end
end
end Go.Proofs.Ytbiidlmhadihlaa
end
section
namespace Go.Raft
open Go.AM
section
variable [Guard]
section
variable {S:St} {a:Nat} {c:Core} {lv wv dv ov:V} {rows:List (List V)} (h:CoreAt S a c lv wv dv ov rows)
include h
theorem CoreAt.w_base (w:WF S) (x:Int):∃ S',bV 1 (.ptr a 0 0 3) (.int .i64 x) S=.ok S'∧CoreAt S' a { c with h:={ c.h with base:=x } } lv wv dv ov rows∧Mv (own a lv wv dv ov) S (own a lv wv dv ov) S'∧S'.next=S.next:=h.set w 3 x _ (by decide) rfl rfl rfl rfl h.peers
theorem CoreAt.w_baseTerm (w:WF S) (x:Int):∃ S',bV 1 (.ptr a 0 0 4) (.int .i64 x) S=.ok S'∧CoreAt S' a { c with h:={ c.h with baseTerm:=x } } lv wv dv ov rows∧Mv (own a lv wv dv ov) S (own a lv wv dv ov) S'∧S'.next=S.next:=h.set w 4 x _ (by decide) rfl rfl rfl rfl h.peers
theorem CoreAt.w_mem (w:WF S) (x:Int):∃ S',bV 1 (.ptr a 0 0 5) (.int .i64 x) S=.ok S'∧CoreAt S' a { c with h:={ c.h with members:=x } } lv wv dv ov rows∧Mv (own a lv wv dv ov) S (own a lv wv dv ov) S'∧S'.next=S.next:=h.set w 5 x _ (by decide) rfl rfl rfl rfl h.peers
theorem CoreAt.w_snap (w:WF S) (x:List UInt8):∃ S',bV 1 (.ptr a 0 0 6) (.str x) S=.ok S'∧CoreAt S' a { c with h:={ c.h with snap:=x } } lv wv dv ov rows∧Mv (own a lv wv dv ov) S (own a lv wv dv ov) S'∧S'.next=S.next:=
 h.st w 6 _ _ rfl rfl (by rw [eB c lv wv ov h.peers];omega) rfl rfl rfl rfl h.peers
theorem CoreAt.w_way (w:WF S) {S1:St} (x:Ext S S1) {wv' dv':V} {way':Option Inst} (hway:WayAt S1 way' wv' dv') (hone:wv'.cells=[wv']∧wv'.one=true) (hb:∀ y,aRa wv'=some y∨bJ dv'=some y→S.next≤y):
  ∃ S2,bV 1 (.ptr a 0 0 35) wv' S1=.ok S2∧CoreAt S2 a { c with way:=way' } lv wv' dv' ov rows∧Mv (own a lv wv dv ov) S (own a lv wv' dv' ov) S2∧S2.next=S1.next:=by
 have hl:=eB c lv wv ov h.peers
 have ga:=x.old _ _ h.cell
 have w1:=x.wf w
 have hn:=x.next
 have e:=dD (x:=wv') (j:=35) (m:=1) ga (by rw [hone.1];rfl) (by rw [hone.1];simp [aU,hone.2]) (by omega)
 rw [hone.1,(qW c lv wv ov h.peers wv').2.2.1] at e
 have kk:∀ n,n≠37→KeepW n S (⟨S1.next,S1.heap.put a (.row 0 37 [bW c lv wv' ov])⟩:St):=fun n h2=>
  KeepW.trans (KeepW.ext x) (KeepW.put ga h2 _)
 refine ⟨_,e,⟨Tr.get_put_sameB _ _ _ trivial,h.peers,h.log.keepW hn (kk 3 (by decide)),hway.keepW (Nat.le_refl _) (KeepW.put ga (by decide) _) (KeepW.put ga (by decide) _),h.out.keepW hn (kk 13 (by decide)),All2.imp (fun m cs q=>q.keep (fun y ver el _ g=>kk 3 (by decide) _ _ _ g) (fun y _ h=>h) w) h.lets,h.gd.mono hn⟩,⟨⟨fun y b hy hb'=>?_,hn,fun _=>(But.put (w1 _ _ ga) _).wf w1⟩,fun y hy=>?_⟩,rfl⟩
 ·show (S1.heap.put a _).get y=some b
  rw [Tr.get_put_neB _ _ _ _ trivial (fun e=>hy (.inl e))]
  exact x.old y b hb'
 ·rcases hy with hy | hy | hy | hy | hy
  ·exact .inl (.inl hy)
  ·exact .inl (.inr (.inl hy))
  ·exact .inr (hb y (.inl hy))
  ·exact .inr (hb y (.inr hy))
  ·exact .inl (.inr (.inr (.inr (.inr hy))))
theorem CoreAt.w_data (w:WF S) {i:Inst} (hi:c.way=some i) {S1:St} (w1:WF S1) (hn:S.next≤S1.next) (hk:∀ y b,S.heap.get y=some b→bJ dv≠some y→S1.heap.get y=some b) {dv':V} {d':List UInt8} (hd:Mn S1 1 dv' (d'.map aGy)) (hb:∀ y,bJ dv'=some y→bJ dv=some y∨S.next≤y):
  ∃ b S2,wv=.ptr b 0 0 0∧bV 1 (.ptr b 0 0 3) dv' S1=.ok S2∧CoreAt S2 a { c with way:=some { i with data:=d' } } lv wv dv' ov rows∧Mv (own a lv wv dv ov) S (own a lv wv dv' ov) S2∧S2.next=S1.next:=by
 have hw:=h.way
 rw [hi] at hw
 obtain ⟨b,e,g,m⟩:=hw
 have gb:S1.heap.get b=some _:=hk _ _ g (m.neRow g (by decide))
 have e1:=dD (x:=dv') (j:=3) (m:=1) gb (by rw [hd.cells.1];rfl) (by rw [hd.cells.1];simp [aU,hd.cells.2]) (by show 3+1≤4;omega)
 have hsp:splice [V.int .i64 i.index,.int .i64 i.at',.int .i64 i.size,dv] 3 [dv']=[V.int .i64 i.index,.int .i64 i.at',.int .i64 i.size,dv']:=rfl
 rw [hd.cells.1,hsp] at e1
 have kk:∀ n,n≠1→n≠4→KeepW n S (⟨S1.next,S1.heap.put b (.row 0 4 [[V.int .i64 i.index,.int .i64 i.at',.int .i64 i.size,dv']])⟩:St):=fun n h1 h2=>
  KeepW.trans (fun y ver el g=>hk _ _ g (m.neRow g (Ne.symm h1))) (KeepW.put gb h2 _)
 refine ⟨b,_,e,e1,⟨kk 37 (by decide) (by decide) _ _ _ h.cell,h.peers,h.log.keepW hn (kk 3 (by decide) (by decide)),⟨b,e,Tr.get_put_sameB _ _ _ trivial,hd.keepW (Nat.le_refl _) (KeepW.put gb (by decide) _)⟩,h.out.keepW hn (kk 13 (by decide) (by decide)),All2.imp (fun m cs q=>q.keep (fun y ver el _ g=>kk 3 (by decide) (by decide) _ _ _ g) (fun y _ h=>h) w) h.lets,h.gd.mono hn⟩,⟨⟨fun y bb hy hb'=>?_,hn,fun _=>(But.put (w1 _ _ gb) _).wf w1⟩,fun y hy=>?_⟩,rfl⟩
 ·show (S1.heap.put b _).get y=some bb
  rw [Tr.get_put_neB _ _ _ _ trivial (fun e2=>hy (.inr (.inr (.inl (by rw [e,e2];rfl)))))]
  exact hk y bb hb' (fun e2=>hy (.inr (.inr (.inr (.inl e2)))))
 ·rcases hy with hy | hy | hy | hy | hy
  ·exact .inl (.inl hy)
  ·exact .inl (.inr (.inl hy))
  ·exact .inl (.inr (.inr (.inl hy)))
  ·rcases hb y hy with h1 | h1
   ·exact .inl (.inr (.inr (.inr (.inl h1))))
   ·exact .inr h1
  ·exact .inl (.inr (.inr (.inr (.inr hy))))
end
end
end Go.Raft
end
section
namespace Go.AM
open Go.Raft
section
variable [Guard]
def aUm (P:Program) (t:TypeId):Bool:=match P.underlying t with
 | some (.slice e)=>(match P.underlying e with
  | some (.int .u8)=>true
  | _=>false)
 | _=>false
theorem oQ:∀ d:List UInt8,eU (d.map aGy)=some d
 | []=>rfl
 | b::d=>by
  have ih:=oQ d
  simp only [List.map_cons,aGy,eU] at ih ⊢
  simp [ih,UInt8.ofNat_toNat]
theorem aLx {P:Program} {t u:TypeId} (ht:aUm P t=true) (hu:rM P u=true) {S:St} {v:V} {d:List UInt8} (h:Sl S 1 v (d.map aGy)) (fr:Option Nat):cX P t u v fr S=.ok (.str d,S):=by
 unfold aUm at ht
 unfold rM at hu
 unfold cX
 split at ht
 ·rename_i e he
  split at ht
  ·rename_i he2
   split at hu
   ·rename_i hu2
    simp only [he,hu2,he2]
    rcases h.is with ⟨rfl,e0⟩ | rfl | ⟨a,ver,off,elems,rfl,h2,h3,h4⟩
    ·have e1:=h.elems
     simp only [e1,oQ]
    ·have e1:=h.elems
     simp only [e1,oQ]
    ·have e1:=h.elems
     simp only [e1,oQ]
   ·cases hu
  ·cases ht
 ·cases ht
theorem Mn.pushAtL {S:St} {n b:Nat} {v u:V} {es cs:List (List V)} (h:Mn S n v es) (w:WF S) (hu:bY S u=.ok cs) (hc:∀ c,c∈cs→c.length=n∧aU c=true) (hne:cs≠[]) {k:Nat} (hk2:k<S.next) (hk3:S.heap.get k=none)
  (h1:(es.length+cs.length)*b≤35184372088832) (h2:es.length+cs.length<fU):∃ v' S',gP n b v u (some k) S=.ok (v',S')∧WF S'∧S'.next=S.next∧Mn S' n v' (es++cs)∧(bJ v'=some k∨bJ v'=bJ v)∧(∀ y,y≠k→bJ v≠some y→S'.heap.get y=S.heap.get y):=by
 obtain ⟨v',S',q1,q2,q3,q4,q5,q6⟩:=Own.pushAt (b:=b) h (aIt w) aCq hu hc hne (Nat.zero_le k) hk2 hk3 h1 h2
 exact ⟨v',S',q1,q2.wf aCq,q3,q4,q5,q6⟩
end
end Go.AM
end
section
namespace Go.Raft
open Go.AM
section
variable [Guard]
structure MvB (N:Nat) (O:Nat→Prop) (S:St) (O':Nat→Prop) (S':St):Prop where
 keep:∀ y b,y<N→¬ O y→S.heap.get y=some b→S'.heap.get y=some b
 next:S.next≤S'.next
 wf:WF S→WF S'
 own:∀ y,O' y→O y∨N≤y
theorem MvB.of {N:Nat} {O O':Nat→Prop} {S S':St} (h:Mv O S O' S') (hN:N≤S.next):MvB N O S O' S':=
 ⟨fun y b _ h1 h2=>h.keep y b h1 h2,h.next,h.wf,fun y hy=>(h.own y hy).imp id (Nat.le_trans hN)⟩
theorem MvB.trans {N:Nat} {O O1 O2:Nat→Prop} {S S1 S2:St} (h:MvB N O S O1 S1) (k:MvB N O1 S1 O2 S2):MvB N O S O2 S2:=by
 refine ⟨fun y b hN hy hb=>k.keep y b hN (fun h1=>?_) (h.keep y b hN hy hb),Nat.le_trans h.next k.next,fun w=>k.wf (h.wf w),fun y hy=>?_⟩
 ·rcases h.own y h1 with h2 | h2
  ·exact hy h2
  ·omega
 ·rcases k.own y hy with h1 | h1
  ·exact h.own y h1
  ·exact .inr h1
theorem MvB.mv {O O':Nat→Prop} {S S':St} (w:WF S) (h:MvB S.next O S O' S'):Mv O S O' S':=
 ⟨⟨fun y b hy hb=>h.keep y b (w y b hb) hy hb,h.next,h.wf⟩,h.own⟩
theorem Mn.mv {S S':St} {O O':Nat→Prop} {n:Nat} {v:V} {es:List (List V)} (h:Mn S n v es) (hv:∀ y,bJ v=some y→¬ O y) (k:Mv O S O' S'):Mn S' n v es∧∀ y,bJ v=some y→¬ O' y:=by
 refine ⟨Mn.fr h k.next fun y b hy hb=>k.keep y b (hv y hy) hb,fun y hy hO=>?_⟩
 rcases k.own y hO with h1 | h1
 ·exact hv y hy h1
 ·have:=(h.blk hy).1;omega
theorem aJ0 {m:Letter} {u v:V} (h:aO m u=aO m v):u=v:=by
 simp only [aO,List.cons.injEq,and_true,true_and] at h;exact h
theorem xQ {S B:St} {L:Option Nat} (wB:WF B):∀ {out:List Letter} {rows:List (List V)},All2 (LetAt S L) out rows→All2 (LetAt B L) out rows→All2 (fun m cs=>∃ ev,cs=aO m ev∧Sl S 3 ev (m.entries.map bM)∧∀ y,bJ ev=some y→L≠some y∧y<B.next) out rows
 | _,_,.nil,.nil=>.nil
 | _,_,.cons ⟨ev,e,h1,h2⟩ t,.cons ⟨ev',e',h1',h2'⟩ t'=>.cons ⟨ev,e,h1,fun y hy=>⟨h2 y hy,by
   have he:ev=ev':=aJ0 (e.symm.trans e')
   subst he
   exact aKd wB h1' y hy⟩⟩ (xQ wB t t')
theorem CoreAt.w_logN {S B:St} {a:Nat} {c c0:Core} {lv wv dv ov:V} {rows:List (List V)} (h:CoreAt S a c lv wv dv ov rows) (w:WF S) (h0:CoreAt B a c0 lv wv dv ov rows) (wB:WF B) (hout:c0.out=c.out)
  {lv':V} {l':List Entry} (hlog:Mn S 3 lv' (l'.map bM)) (hb:∀ y,bJ lv'=some y→B.next≤y):
  ∃ S2,bV 1 (.ptr a 0 0 7) lv' S=.ok S2∧CoreAt S2 a { c with h:={ c.h with log:=l' } } lv' wv dv ov rows∧MvB B.next (own a lv wv dv ov) S (own a lv' wv dv ov) S2∧S2.next=S.next:=by
 have hl:=eB c lv wv ov h.peers
 have ga:=h.cell
 have hone:=hlog.cells
 have e:=dD (x:=lv') (j:=7) (m:=1) ga (by rw [hone.1];rfl) (by rw [hone.1];simp [aU,hone.2]) (by omega)
 have hsp:splice (bW c lv wv ov) 7 [lv']=bW { c with h:={ c.h with log:=l' } } lv' wv ov:=rfl
 rw [hone.1,hsp] at e
 have kk:∀ n,n≠37→KeepW n S (⟨S.next,S.heap.put a (.row 0 37 [bW { c with h:={ c.h with log:=l' } } lv' wv ov])⟩:St):=fun n h2=>KeepW.put ga h2 _
 have hl2:=xQ wB h.lets (by rw [←hout];exact h0.lets)
 have hlets:All2 (LetAt (⟨S.next,S.heap.put a (.row 0 37 [bW { c with h:={ c.h with log:=l' } } lv' wv ov])⟩:St) (bJ lv')) c.out rows:=by
  refine All2.imp (fun m cs q=>?_) hl2
  obtain ⟨ev,e1,s1,s2⟩:=q
  refine ⟨ev,e1,s1.keep (fun y b hy hg=>?_),fun y hy h2=>?_⟩
  ·show (S.heap.put a _).get y=some b
   rw [Tr.get_put_neB _ _ _ _ trivial (fun e2=>?_)]
   ·exact hg
   ·subst e2
    rcases s1.is with ⟨e3,_⟩ | e3 | ⟨a',ver,off,elems,e3,g,_⟩
    ·rw [e3] at hy;cases hy
    ·rw [e3] at hy;cases hy
    ·rw [e3] at hy;cases hy
     have g':=iA g
     rw [h.cell] at g'
     injection g' with g'
     injection g' with _ g'
     exact absurd g' (by decide)
  ·have h3:=hb y h2
   have h4:=(s2 y hy).2
   omega
 refine ⟨_,e,⟨Tr.get_put_sameB _ _ _ trivial,h.peers,hlog.keepW (Nat.le_refl _) (kk 3 (by decide)),h.way.keepW (Nat.le_refl _) (kk 4 (by decide)) (kk 1 (by decide)),h.out.keepW (Nat.le_refl _) (kk 13 (by decide)),hlets,h.gd⟩,⟨fun y b _ hy hb'=>?_,Nat.le_refl _,fun _=>(But.put (h.lt w) _).wf w,fun y hy=>?_⟩,rfl⟩
 ·show (S.heap.put a _).get y=some b
  rw [Tr.get_put_neB _ _ _ _ trivial (fun e=>hy (.inl e))]
  exact hb'
 ·rcases hy with hy | hy | hy | hy | hy
  ·exact .inl (.inl hy)
  ·exact .inr (hb y hy)
  ·exact .inl (.inr (.inr (.inl hy)))
  ·exact .inl (.inr (.inr (.inr (.inl hy))))
  ·exact .inl (.inr (.inr (.inr (.inr hy))))
theorem CoreAt.w_hardN {S B:St} {a:Nat} {c c0:Core} {lv wv dv ov:V} {rows:List (List V)} (h:CoreAt S a c lv wv dv ov rows) (w:WF S) (h0:CoreAt B a c0 lv wv dv ov rows) (wB:WF B) (hout:c0.out=c.out)
  {lv':V} (g':Hard) (hlog:Mn S 3 lv' (g'.log.map bM)) (hb:∀ y,bJ lv'=some y→B.next≤y):
  ∃ S2,bV 7 (.ptr a 0 0 1) (.agg (aV g' lv')) S=.ok S2∧CoreAt S2 a { c with h:=g' } lv' wv dv ov rows∧MvB B.next (own a lv wv dv ov) S (own a lv' wv dv ov) S2∧S2.next=S.next:=by
 have hl:=eB c lv wv ov h.peers
 have ga:=h.cell
 have hone:=hlog.cells
 have e:=dD (x:=.agg (aV g' lv')) (j:=1) (m:=7) ga rfl (dG g' hone.2) (by omega)
 rw [bH,aAc] at e
 have kk:∀ n,n≠37→KeepW n S (⟨S.next,S.heap.put a (.row 0 37 [bW { c with h:=g' } lv' wv ov])⟩:St):=fun n h2=>KeepW.put ga h2 _
 have hl2:=xQ wB h.lets (by rw [←hout];exact h0.lets)
 have hlets:All2 (LetAt (⟨S.next,S.heap.put a (.row 0 37 [bW { c with h:=g' } lv' wv ov])⟩:St) (bJ lv')) c.out rows:=by
  refine All2.imp (fun m cs q=>?_) hl2
  obtain ⟨ev,e1,s1,s2⟩:=q
  refine ⟨ev,e1,s1.keep (fun y b hy hg=>?_),fun y hy h2=>?_⟩
  ·show (S.heap.put a _).get y=some b
   rw [Tr.get_put_neB _ _ _ _ trivial (fun e2=>?_)]
   ·exact hg
   ·subst e2
    rcases s1.is with ⟨e3,_⟩ | e3 | ⟨a',ver,off,elems,e3,g,_⟩
    ·rw [e3] at hy;cases hy
    ·rw [e3] at hy;cases hy
    ·rw [e3] at hy;cases hy
     have g2:=iA g
     rw [h.cell] at g2
     injection g2 with g2
     injection g2 with _ g2
     exact absurd g2 (by decide)
  ·have h3:=hb y h2
   have h4:=(s2 y hy).2
   omega
 refine ⟨_,e,⟨Tr.get_put_sameB _ _ _ trivial,h.peers,hlog.keepW (Nat.le_refl _) (kk 3 (by decide)),h.way.keepW (Nat.le_refl _) (kk 4 (by decide)) (kk 1 (by decide)),h.out.keepW (Nat.le_refl _) (kk 13 (by decide)),hlets,h.gd⟩,⟨fun y b _ hy hb'=>?_,Nat.le_refl _,fun _=>(But.put (h.lt w) _).wf w,fun y hy=>?_⟩,rfl⟩
 ·show (S.heap.put a _).get y=some b
  rw [Tr.get_put_neB _ _ _ _ trivial (fun e=>hy (.inl e))]
  exact hb'
 ·rcases hy with hy | hy | hy | hy | hy
  ·exact .inl (.inl hy)
  ·exact .inr (hb y hy)
  ·exact .inl (.inr (.inr (.inl hy)))
  ·exact .inl (.inr (.inr (.inr (.inl hy))))
  ·exact .inl (.inr (.inr (.inr (.inr hy))))
end
end Go.Raft
end
section
namespace Go.Proofs.Ytbiidlmhadihlaa
open Go.AM Go.Raft Try
section
variable [Guard]
section
variable {S:St} {a:Nat} {c:Core} {O:Nat→Prop}
theorem j91 (m:Letter) (ev:V) (snap:List UInt8) {b:Nat} {B:St} {lv wv dv ov:V} {rows:List (List V)} (wB:WF B) (hB:CoreAt B a c lv wv dv ov rows) (x:Ext B S) (hb:S.heap.get b=some (.row 0 13 [aO m ev])) (hno:¬ own a lv wv dv ov b) {lv6:V} {l6:List Entry} (h6:Mn S 3 lv6 (l6.map bM)) (hb6:∀ y,bJ lv6=some y→B.next≤y):
  Ok (fun k K=>aEp (aE prog aW aX k) k K (.ptr a 0 0 0) (.str snap) (.ptr b 0 0 0) lv6 S) (fun u S'=>u=.tup []∧∃ O',CoreIn S' a { c with h:={ c.h with base:=m.index,baseTerm:=m.at',members:=m.members,snap:=snap,log:=l6 },sure:=m.index,way:=none } O'∧Mv (own a lv wv dv ov) B O' S'):=by
 have w:=x.wf wB
 have xb:Ext S (⟨S.next+33,S.heap⟩:St):=(Ext.refl S).bump 33
 have x0:=x.trans xb
 have w0:=xb.wf w
 have h0:=hB.ext wB x0
 have g0:(⟨S.next+33,S.heap⟩:St).heap.get b=some (.row 0 13 [aO m ev]):=hb
 have n60:∀ y,bJ lv6=some y→¬ own a lv wv dv ov y:=fun y hy hO=>by
  have h1:=hb6 y hy
  have h2:=sZ wB hB hO
  omega
 have l0:Mn (⟨S.next+33,S.heap⟩:St) 3 lv6 (l6.map bM):=Mn.fr h6 xb.next fun y b _=>xb.old y b
 obtain ⟨S1,q1,h1,m1,_⟩:=h0.w_base w0 m.index
 have w1:=m1.wf w0
 obtain ⟨g1,no1⟩:=fR w0 g0 hno m1
 obtain ⟨l1,n61⟩:=l0.mv n60 m1
 obtain ⟨S2,q2,h2',m2,_⟩:=h1.w_baseTerm w1 m.at'
 have h2:CoreAt S2 a { c with h:={ c.h with base:=m.index,baseTerm:=m.at' } } lv wv dv ov rows:=h2'
 clear h2'
 have w2:=m2.wf w1
 obtain ⟨g2,no2⟩:=fR w1 g1 no1 m2
 obtain ⟨l2,n62⟩:=l1.mv n61 m2
 obtain ⟨S3,q3,h3',m3,_⟩:=h2.w_mem w2 m.members
 have h3:CoreAt S3 a { c with h:={ c.h with base:=m.index,baseTerm:=m.at',members:=m.members } } lv wv dv ov rows:=h3'
 clear h3'
 have w3:=m3.wf w2
 obtain ⟨g3,no3⟩:=fR w2 g2 no2 m3
 obtain ⟨l3,n63⟩:=l2.mv n62 m3
 obtain ⟨S4,q4,h4',m4,_⟩:=h3.w_snap w3 snap
 have h4:CoreAt S4 a { c with h:={ c.h with base:=m.index,baseTerm:=m.at',members:=m.members,snap:=snap } } lv wv dv ov rows:=h4'
 clear h4'
 have w4:=m4.wf w3
 obtain ⟨g4,no4⟩:=fR w3 g3 no3 m4
 obtain ⟨l4,n64⟩:=l3.mv n63 m4
 obtain ⟨S5,q5,h5',m5,_⟩:=h4.w_logN w4 hB wB rfl l4 hb6
 have h5:CoreAt S5 a { c with h:={ c.h with base:=m.index,baseTerm:=m.at',members:=m.members,snap:=snap,log:=l6 } } lv6 wv dv ov rows:=h5'
 clear h5'
 have w5:=m5.wf w4
 have hbB:b≠a:=fun e=>hno (.inl e)
 have g5:S5.heap.get b=some (.row 0 13 [aO m ev]):=by
  have e:=q5
  rw [dD (x:=lv6) (j:=7) (m:=1) h4.cell (by rw [l4.cells.1];rfl) (by rw [l4.cells.1];simp [aU,l4.cells.2]) (by rw [eB _ _ _ _ h4.peers];omega)] at e
  cases e
  show (S4.heap.put a _).get b=_
  rw [Tr.get_put_neB _ _ _ _ trivial hbB];exact g4
 obtain ⟨S6,q6,h6',m6,_⟩:=h5.w_sure w5 m.index
 have h6:CoreAt S6 a { c with h:={ c.h with base:=m.index,baseTerm:=m.at',members:=m.members,snap:=snap,log:=l6 },sure:=m.index } lv6 wv dv ov rows:=h6'
 clear h6'
 have w6:=m6.wf w5
 obtain ⟨S7,q7,h7',m7,_⟩:=h6.w_way w6 (Ext.refl S6) (wv':=.nilp) (dv':=.nils) (way':=none) ⟨rfl,rfl⟩ ⟨rfl,rfl⟩ (fun y hy=>by rcases hy with hy | hy<;>cases hy)
 have h7:CoreAt S7 a { c with h:={ c.h with base:=m.index,baseTerm:=m.at',members:=m.members,snap:=snap,log:=l6 },sure:=m.index,way:=none } lv6 .nilp .nils ov rows:=h7'
 clear h7'
 have b0:=x0.next
 have b1:=Nat.le_trans b0 m1.next
 have b2:=Nat.le_trans b1 m2.next
 have b3:=Nat.le_trans b2 m3.next
 have b4:=Nat.le_trans b3 m4.next
 have b5:=Nat.le_trans b4 m5.next
 have b6:=Nat.le_trans b5 m6.next
 have mv:Mv (own a lv wv dv ov) B (own a lv6 .nilp .nils ov) S7:=MvB.mv wB (((((((MvB.of (Mv.of x0) (Nat.le_refl _)).trans (MvB.of m1 b0)).trans (MvB.of m2 b1)).trans (MvB.of m3 b2)).trans (MvB.of m4 b3)).trans m5).trans ((MvB.of m6 b5).trans (MvB.of m7 b6)))
 simp only [aEp,cI,fE,pX,aI,dV,jC,aF1,dM,mX,mY,kN,cO,aG,Nat.reduceAdd,aF,cR,aL,bI hb,gB hb,dW hb,mD,st9,sV,aW9,q1,dW g1,gB g1,bO,aJ,q2,dW g2,q3,q4,q5,bI g5,q6,q7]
 exact Ok.ret ⟨rfl,_,⟨_,_,_,_,_,h7,rfl⟩,mv⟩
theorem g91 (m:Letter) (ev:V) (snap:List UInt8) (w:WF S) (h:CoreIn S a c O) (ok:Hok c.h) (hbi:c.h.base≤m.index) (he:Sl S 3 ev (m.entries.map bM)):Meth 91 [.ptr a 0 0 0,.agg (aO m ev),.str snap] a (c.taken m snap) S O (.tup []):=by
 have ho:=cB m he.one
 have hln:(aO m ev).length=13:=rfl
 have hr:=cZ ok
 have hb0:=ok.b0
 have hll:=ok.ll
 obtain ⟨S1,hn1,x1,hg1,hnx1⟩:=nb w 13 (aO m ev)
 have w1:=x1.wf w
 have hno:¬ O S.next:=fun hO=>absurd (kZ w h _ hO) (Nat.lt_irrefl _)
 have xb:Ext S1 (⟨S1.next+14,S1.heap⟩:St):=(Ext.refl S1).bump 14
 have x1b:=x1.trans xb
 have hT:c.taken m snap={ c with h:={ c.h with base:=m.index,baseTerm:=m.at',members:=m.members,snap:=snap,log:=if m.index≤c.last∧c.term m.index=m.at' then c.h.log.drop (m.index - c.h.base).toNat else [] },sure:=m.index,way:=none }:=rfl
 have hin:=h
 obtain ⟨lv,wv,dv,ov,rows,h,rfl⟩:=h
 refine e91 ?_
 simp only [m91,bH,ho,hln,aJ,hn1,aF,cI,aG,cR,aL,bI hg1]
 refine (g46 (hin.ext w x1b) ok).call fun S2 x2=>?_
 have x02:=x1b.trans x2
 have w2:=x02.wf w
 have g2:=x2.old _ _ (xb.old _ _ hg1)
 have j1:∀ (S3:St),Ext S2 S3→∀ q:Bool,q=decide (m.index≤c.last∧c.term m.index=m.at')→Ok (fun k K=>zY (aE prog aW aX k) k K (.ptr a 0 0 0) (.str snap) (.ptr S.next 0 0 0) (.bool q) S3) (fun u S'=>u=.tup []∧∃ O',CoreIn S' a (c.taken m snap) O'∧Mv (own a lv wv dv ov) S O' S'):=fun S3 x3 q hq=>by
  have w3:=x3.wf w2
  have x03:=x02.trans x3
  have g3:=x3.old _ _ g2
  have h3:=h.ext w x03
  rw [hT]
  by_cases hc:m.index≤c.last∧c.term m.index=m.at'
  ·rw [hq,decide_eq_true hc,if_pos hc]
   have hw:wr .i64 (m.index - c.h.base)=m.index - c.h.base:=cS (by omega) (by omega)
   have hlast:c.last=c.h.base+c.h.log.length:=rfl
   obtain ⟨u,r1,s1,_⟩:=oP aBl h3.log.sl (lH .i64 (l:=m.index - c.h.base) (by omega) (by rw [List.length_map];omega)) (by rw [List.length_map];omega) (Nat.le_refl _)
   rw [List.take_length,←List.map_drop] at s1
   have xc:Ext S3 (⟨S3.next+17,S3.heap⟩:St):=(Ext.refl S3).bump 17
   have hfree:(⟨S3.next+17,S3.heap⟩:St).heap.get (S3.next+15)=none:=jE w3 17 (S3.next+15) (by omega)
   have hdl:(c.h.log.drop (m.index - c.h.base).toNat).length≤200:=by rw [List.length_drop];omega
   obtain ⟨lv6,S4,r2,x4,o4,_⟩:=(s1.ext xc).copyAt2 (b:=32) xc (k:=S3.next+15) (by omega) (by show S3.next+15<S3.next+17;omega) hfree (by rw [List.length_map];omega) (by rw [List.length_map];unfold fU;omega)
   have x34:=xc.trans x4
   simp only [zY,bA,aI,dV,cO,dM,cI,aG,Nat.reduceAdd,aF,eC,cR,aL,h3.r_log,h3.r_base,bI g3,cE,hw,r1,kR,r2]
   exact j91 m ev snap w h (x03.trans x34) (x34.old _ _ g3) hno (o4.weaken (Nat.zero_le _)) (fun y hy=>Nat.le_trans x03.next (jD o4 hy).1)
  ·rw [hq,decide_eq_false hc,if_neg hc]
   simp only [zY,aK]
   exact j91 m ev snap w h x03 g3 hno (Own.nil _ _ _) (fun y hy=>by cases hy)
 simp only [bI g2,gB g2,fE,cI,aG,cR,aF,bO,aJ,dH]
 refine Ok.pickP (fun e=>?_) (fun e=>j1 S2 (Ext.refl _) false (decide_eq_false (fun q=>e q.1)).symm)
 refine (g62 (hin.ext w x02) ok (n:=m.index) hbi e).call fun S3 x3=>?_
 have g3:=x3.old _ _ g2
 simp only [gB g3,aF,bO,aJ,aS,bR]
 refine j1 S3 x3 _ ?_
 by_cases hc:c.term m.index=m.at'
 ·rw [decide_eq_true hc,decide_eq_true (show m.index≤c.last∧c.term m.index=m.at' from ⟨e,hc⟩)]
 ·rw [decide_eq_false hc,decide_eq_false (fun q=>hc q.2)]
end
end
section
variable [Guard]
structure LetIn (S:St) (O:Nat→Prop) (b:Nat) (m:Letter) (ev:V):Prop where
 box:S.heap.get b=some (.row 0 13 [aO m ev])
 no:¬ O b
 ents:Sl S 3 ev (m.entries.map bM)
 off:∀ y,bJ ev=some y→¬ O y
theorem LetIn.mv {S S':St} {O O':Nat→Prop} {b:Nat} {m:Letter} {ev:V} (w:WF S) (h:LetIn S O b m ev) (k:Mv O S O' S'):LetIn S' O' b m ev:=by
 obtain ⟨b1,b2⟩:=fR w h.box h.no k
 obtain ⟨s1,s2⟩:=vY w h.ents h.off k
 exact ⟨b1,b2,s1,s2⟩
theorem LetIn.ext {S S':St} {O:Nat→Prop} {b:Nat} {m:Letter} {ev:V} (h:LetIn S O b m ev) (x:Ext S S'):LetIn S' O b m ev:=⟨x.old _ _ h.box,h.no,h.ents.ext x,h.off⟩
theorem by9:aUm prog 74=true:=by kernel_rfl
theorem aUn (a b c d:Nat):aD prog .eql 86 (.ptr a b c d) .nilp=.ok (.bool false):=by
 have h:(fun a b c d=>aD prog .eql 86 (.ptr a b c d) .nilp)=fun _ _ _ _=>.ok (.bool false):=by kernel_rfl
 exact congrFun (congrFun (congrFun (congrFun h a) b) c) d
theorem aUo:aD prog .eql 86 .nilp .nilp=.ok (.bool true):=by kernel_rfl
theorem aUp (a b c d:Nat):aH prog 86 (.ptr a b c d) .nilp=true:=by
 have h:(fun a b c d=>aH prog 86 (.ptr a b c d) .nilp)=fun _ _ _ _=>true:=by kernel_rfl
 exact congrFun (congrFun (congrFun (congrFun h a) b) c) d
theorem aUq:aH prog 86 .nilp .nilp=true:=by kernel_rfl
theorem aLy (x y z:Int):bQ prog 102 [(0,.int .i64 x),(1,.int .i64 y),(2,.int .i64 z)]=.ok (.agg [.int .i64 x,.int .i64 y,.int .i64 z,.nils]):=by rw [aVy];rfl
section
variable {S:St} {a b:Nat} {c:Core} {lv wv dv ov:V} {rows:List (List V)}
theorem aJ1 {i:Inst} (h:CoreAt S a c lv wv dv ov rows) (hi:c.way=some i):∃ p,wv=.ptr p 0 0 0∧aR none (.ptr p 0 0 0) S=.ok (.int .i64 i.index)∧aR none (.ptr p 0 0 1) S=.ok (.int .i64 i.at')∧aR none (.ptr p 0 0 2) S=.ok (.int .i64 i.size)∧aR none (.ptr p 0 0 3) S=.ok dv∧Mn S 1 dv (i.data.map aGy):=by
 have hw:=h.way
 rw [hi] at hw
 obtain ⟨p,e,g,m⟩:=hw
 refine ⟨p,e,?_,?_,?_,?_,m⟩<;>(rw [bB _ _ _ _ _ (bC g)];rfl)
theorem aWi (m:Letter) (ev:V) {i:Inst} (w:WF S) (h:CoreAt S a c lv wv dv ov rows) (hi:c.way=some i) (hsz:i.data.length≤1000000) (L:LetIn S (own a lv wv dv ov) b m ev) (ok:Hok c.h) (hbi:c.h.base≤m.index) (hl:c.out.length≤999990):
  Ok (fun k K=>aEb (aE prog aW aX k) k K (.ptr a 0 0 0) (.ptr b 0 0 0) wv S) (fun u S'=>u=.tup []∧∃ O',CoreIn S' a (if (i.data.length:Int)<i.size then c.post { Letter.zero with kind:=6,to:=m.from',index:=m.index,off:=i.data.length } else (c.taken m i.data).post { Letter.zero with kind:=4,to:=m.from',yes:=true,index:=m.index }) O'∧Mv (own a lv wv dv ov) S O' S'):=by
 obtain ⟨p,rfl,v0,v1,v2,v3,md⟩:=aJ1 h hi
 have hin:CoreIn S a c (own a lv (.ptr p 0 0 0) dv ov):=⟨_,_,_,_,_,h,rfl⟩
 have hcv:=fun (fr:Option Nat) (n:Nat)=>aLx (P:=prog) (S:=(⟨n,S.heap⟩:St)) by9 aUl (v:=dv) (d:=i.data) (Sl.keep md.sl fun y c _ hc=>hc) fr
 simp only [aEb,aI,aK8,aK7,cW,cI,aG,Nat.reduceAdd,aF,aW5,cR,uD,aL,v2,v3,aR9,md.sl.lenI,aZ,cG L.box,bI L.box,nP L.box,jB,aKj,hcv]
 refine Ok.pickP (fun e=>?_) (fun e=>?_)
 ·rw [if_pos e]
  have xb:Ext S (⟨S.next+22,S.heap⟩:St):=(Ext.refl S).bump 22
  exact Meth.call (g86 _ .nils (xb.wf w) (hin.ext w xb) (Apart.nil _ _ rfl) (dN hl)) (xb.wf w) fun S1 O1 w1 in1 m1=>Ok.ret ⟨rfl,O1,in1,(Mv.of xb).trans w m1⟩
 ·rw [if_neg e]
  have xb:Ext S (⟨S.next+18,S.heap⟩:St):=(Ext.refl S).bump 18
  have Lb:=L.ext xb
  refine Meth.call (g91 m ev i.data (xb.wf w) (hin.ext w xb) ok hbi Lb.ents) (xb.wf w) fun S1 O1 w1 in1 m1=>?_
  have L1:=Lb.mv (xb.wf w) m1
  simp only [cG L1.box,bI L1.box,aF,xP]
  exact Meth.call (g86 _ .nils w1 in1 (Apart.nil _ _ rfl) (dN hl)) w1 fun S2 O2 w2 in2 m2=>Ok.ret ⟨rfl,O2,in2,((Mv.of xb).trans w m1).trans w m2⟩
theorem bAq (m : Letter) (ev : V) (w : WF S) (h : CoreAt S a c lv wv dv ov rows) (hw1 : ∀ i, c.way = some i → i.data.length ≤ 100000) (hd1 : 1 ≤ m.data.length) (hd2 : m.data.length ≤ 600) (L : LetIn S (own a lv wv dv ov) b m ev) (ok : Hok c.h) (hbi : c.h.base ≤ m.index) (hl : c.out.length ≤ 999990) (q : Bool) (hq : q = match c.way with
      | none => true
      | some i => decide (i.index ≠ m.index ∨ i.at' ≠ m.at' ∨ i.size ≠ m.size)) :
    Ok (fun k K => oD (aE prog aW aX k) k K (.ptr a 0 0 0) (.ptr b 0 0 0) wv (.bool q) S) (fun u S' => u = .tup [] ∧ ∃ O', CoreIn S' a (match c.way with
      | none => c.post { Letter.zero with kind := 6, to := m.from', index := m.index }
      | some w => if w.index ≠ m.index ∨ w.at' ≠ m.at' ∨ w.size ≠ m.size then c.post { Letter.zero with kind := 6, to := m.from', index := m.index } else
        let w1 := if m.off = w.data.length then { w with data := w.data ++ m.data } else w
        let c3 := { c with way := some w1 }
        if (w1.data.length : Int) < w1.size then c3.post { Letter.zero with kind := 6, to := m.from', index := m.index, off := w1.data.length } else
          (c3.taken m w1.data).post { Letter.zero with kind := 4, to := m.from', yes := true, index := m.index }) O' ∧ Mv (own a lv wv dv ov) S O' S') := by
  have hin : CoreIn S a c (own a lv wv dv ov) := ⟨_, _, _, _, _, h, rfl⟩
  have no : q = true → Ok (fun k K => oD (aE prog aW aX k) k K (.ptr a 0 0 0) (.ptr b 0 0 0) wv (.bool q) S) (fun u S' => u = .tup [] ∧ ∃ O', CoreIn S' a (c.post { Letter.zero with kind := 6, to := m.from', index := m.index }) O' ∧ Mv (own a lv wv dv ov) S O' S') := fun e => by
    rw [e]
    simp only [oD, bA, cW, cI, aG, Nat.reduceAdd, aF, cR, cG L.box, bI L.box, jB, qE]
    exact Meth.call (g86 _ .nils w hin (Apart.nil _ _ rfl) (dN hl)) w fun S1 O1 w1 in1 m1 => Ok.ret ⟨rfl, O1, in1, m1⟩
  cases hi : c.way with
  | none => rw [hi] at hq; exact no hq
  | some i =>
    rw [hi] at hq
    simp only at hq ⊢
    by_cases hc : i.index ≠ m.index ∨ i.at' ≠ m.at' ∨ i.size ≠ m.size
    · rw [if_pos hc]; exact no (by rw [hq, decide_eq_true hc])
    · rw [if_neg hc, hq, decide_eq_false hc]
      have hsz := hw1 i hi
      have hw := aJ1 h hi
      obtain ⟨p, rfl, v0, v1, v2, v3, md⟩ := hw
      simp only [oD, aK, aI, iK, kY, aK8, aG, Nat.reduceAdd, aF, cR, aW5, uE, aL, gL L.box, hM L.box, v3, aR9, md.sl.lenI, aS, aJ, bR]
      refine Ok.pickP (fun e => ?_) (fun e => ?_)
      · rw [if_pos e]
        have xb : Ext S (⟨S.next + 19, S.heap⟩ : St) := (Ext.refl S).bump 19
        have wb := xb.wf w
        have hfree : (⟨S.next + 19, S.heap⟩ : St).heap.get (S.next + 15) = none := jE w 19 (S.next + 15) (by omega)
        have mdb : Mn (⟨S.next + 19, S.heap⟩ : St) 1 dv (i.data.map aGy) := md.keepW xb.next (KeepW.ext xb)
        obtain ⟨dv', S1, r1, w1, n1, o1, b1, k1⟩ := Mn.pushAtL (b := 1) mdb wb (u := .str m.data) (cs := m.data.map aGy) rfl (fun c hc => by obtain ⟨x, _, rfl⟩ := List.mem_map.1 hc; exact ⟨rfl, rfl⟩) (fun q => by
          have h9 := congrArg List.length q
          rw [List.length_map] at h9
          rw [h9] at hd1
          exact absurd hd1 (by decide)) (k := S.next + 15) (by show S.next + 15 < S.next + 19; omega) hfree (by rw [List.length_map, List.length_map]; omega) (by rw [List.length_map, List.length_map]; unfold fU; omega)
        rw [← List.map_append] at o1
        obtain ⟨p', S2, e2, r2, h2, m2, n2⟩ := h.w_data w hi w1 (by rw [n1]; exact xb.next) (fun y bb hy hb => by
          rw [k1 y (fun e => by subst e; have := w _ _ hy; omega) hb]; exact hy) o1 (fun y hy => by
          rcases b1 with b1 | b1
          · rw [b1] at hy; cases hy; exact .inr (Nat.le_add_right _ _)
          · rw [b1] at hy; exact .inl hy)
        cases e2
        have w2 := m2.wf w
        simp only [Nat.add_assoc, Nat.reduceAdd, aVx, r1, aF, bA2, r2]
        exact (aWi m ev (i := { i with data := i.data ++ m.data }) w2 h2 rfl (by show (i.data ++ m.data).length ≤ 1000000; rw [List.length_append]; omega) (L.mv w m2) ok hbi hl).mono fun u S3 ⟨e3, O3, i3, m3⟩ => ⟨e3, O3, i3, m2.trans w m3⟩
      · rw [if_neg e]
        have xb : Ext S (⟨S.next + 8, S.heap⟩ : St) := (Ext.refl S).bump 8
        have hcc : ({ c with way := some i } : Core) = c := by rw [← hi]
        rw [hcc]
        exact (aWi m ev (xb.wf w) (h.ext w xb) hi (Nat.le_trans hsz (by decide)) (L.ext xb) ok hbi hl).mono fun u S3 ⟨e3, O3, i3, m3⟩ => ⟨e3, O3, i3, (Mv.of xb).trans w m3⟩
end
end
section
variable [Guard]
def qF (c : Core) (m : Letter) : Core := match c.way with
      | none => c.post { Letter.zero with kind := 6, to := m.from', index := m.index }
      | some w => if w.index ≠ m.index ∨ w.at' ≠ m.at' ∨ w.size ≠ m.size then c.post { Letter.zero with kind := 6, to := m.from', index := m.index } else
        let w1 := if m.off = w.data.length then { w with data := w.data ++ m.data } else w
        let c3 := { c with way := some w1 }
        if (w1.data.length : Int) < w1.size then c3.post { Letter.zero with kind := 6, to := m.from', index := m.index, off := w1.data.length } else
          (c3.taken m w1.data).post { Letter.zero with kind := 4, to := m.from', yes := true, index := m.index }
section
variable {S:St} {a b:Nat} {c:Core} {O:Nat→Prop}
theorem aWj (m:Letter) (ev:V) (w:WF S) (h:CoreIn S a c O) (hw1:∀ i,c.way=some i→i.data.length≤100000) (hd1:1≤m.data.length) (hd2:m.data.length≤600) (L:LetIn S O b m ev) (ok:Hok c.h) (hbi:c.h.base≤m.index) (hl:c.out.length≤999990):
  Ok (fun k K=>zT (aE prog aW aX k) k K (.ptr a 0 0 0) (.ptr b 0 0 0) S) (fun u S'=>u=.tup []∧∃ O',CoreIn S' a (qF c m) O'∧Mv O S O' S'):=by
 obtain ⟨lv,wv,dv,ov,rows,h,rfl⟩:=h
 have xb:Ext S (⟨S.next+29,S.heap⟩:St):=(Ext.refl S).bump 29
 have wb:=xb.wf w
 have hb:=h.ext w xb
 have Lb:=L.ext xb
 have go:∀ q:Bool,(q=match c.way with
   | none=>true
   | some i=>decide (i.index≠m.index∨i.at'≠m.at'∨i.size≠m.size))→Ok (fun k K=>oD (aE prog aW aX k) k K (.ptr a 0 0 0) (.ptr b 0 0 0) wv (.bool q) (⟨S.next+29,S.heap⟩:St)) (fun u S'=>u=.tup []∧∃ O',CoreIn S' a (qF c m) O'∧Mv (own a lv wv dv ov) S O' S'):=fun q hq=>
  (bAq m ev wb hb hw1 hd1 hd2 Lb ok hbi hl q hq).mono fun u S1 ⟨e,O1,i1,m1⟩=>⟨e,O1,i1,(Mv.of xb).trans w m1⟩
 cases hi:c.way with
 | none=>
  rw [hi] at go
  have hw:=h.way
  rw [hi] at hw
  obtain ⟨rfl,rfl⟩:=hw
  simp only [zT,aI,aF1,aG,Nat.reduceAdd,aF,aW6,h.r_way,aUq,aJ,aUo,bA]
  exact go true rfl
 | some i=>
  rw [hi] at go
  obtain ⟨p,rfl,v0,v1,v2,v3,md⟩:=aJ1 h hi
  simp only [zT,aI,aF1,aPu,aPv,aK7,cI,fE,mZ,aG,Nat.reduceAdd,aF,aW6,cR,aL,h.r_way,aUp,aJ,aUn,aK,v0,v1,v2,bI L.box,gB L.box,fH L.box,aS,cJ]
  refine Ok.pickN (fun e=>go true (decide_eq_true (Or.inl e)).symm) (fun e=>?_)
  refine Ok.pickN (fun e2=>go true (decide_eq_true (Or.inr (Or.inl e2))).symm) (fun e2=>?_)
  refine go _ ?_
  show _=decide (i.index≠m.index∨i.at'≠m.at'∨i.size≠m.size)
  by_cases e3:i.size=m.size
  ·rw [decide_eq_true e3,decide_eq_false (fun q=>by
    rcases q with q | q | q
    ·exact q e
    ·exact q e2
    ·exact q e3)];rfl
  ·rw [decide_eq_false e3];exact (decide_eq_true (Or.inr (Or.inr e3))).symm
theorem g58 (m:Letter) (ev:V) (w:WF S) (h:CoreIn S a c O) (I:Inv c) (ok:Lok m) (hk:m.kind=5) (he:Apart S O m ev) (hl:c.out.length≤999990):Meth 58 [.ptr a 0 0 0,.agg (aO m ev)] a (c.installed m) S O (.tup []):=by
 have ho:=cB m he.1.one
 have hln:(aO m ev).length=13:=rfl
 have k5:=ok.k5 hk
 obtain ⟨S1,hn1,x1,hg1,hnx1⟩:=nb w 13 (aO m ev)
 have w1:=x1.wf w
 have in1:=h.ext w x1
 have hin1:=in1
 have hno:¬ O S.next:=fun hO=>absurd (kZ w h _ hO) (Nat.lt_irrefl _)
 have L1:LetIn S1 O S.next m ev:=⟨hg1,hno,he.1.ext x1,he.2⟩
 obtain ⟨lv,wv,dv,ov,rows,h1,hO⟩:=in1
 refine e58 ?_
 simp only [m58,bH,ho,hln,aJ,hn1,aF,aI,hJ,cW,aG,Nat.reduceAdd,cR,h1.r_role,cG hg1,aS,bR]
 have hI:c.installed m=if c.role=3 then c else
  let c1:=c.hear m.from'
  if m.index≤c1.sure then c1.post { Letter.zero with kind:=4,to:=m.from',yes:=true,index:=m.index } else
   qF (if m.off=0 then { c1 with way:=some ⟨m.index,m.at',m.size,[]⟩ } else c1) m:=rfl
 rw [hI]
 refine Ok.pickP (fun e=>Ok.ret ⟨rfl,O,by rw [if_pos e];exact hin1,Mv.of x1⟩) (fun e=>?_)
 rw [if_neg e]
 refine Meth.call (g89 m.from' w1 hin1) w1 fun S3 O3 w3 in3 m3=>?_
 have L3:=L1.mv w1 m3
 have mv3:=(Mv.of (O:=O) x1).trans w m3
 have I3:=(I.hear ok.f0 ok.f1).1
 have ew3:(c.hear m.from').way=c.way:=rfl
 generalize hc3:c.hear m.from'=c3 at in3 I3 ew3
 have hl3:c3.out.length≤999990:=by rw [←hc3];exact hl
 have hin3:=in3
 obtain ⟨lv,wv,dv,ov,rows,h3,hO3⟩:=in3
 have xb:Ext S3 (⟨S3.next+7,S3.heap⟩:St):=(Ext.refl S3).bump 7
 have wb:=xb.wf w3
 have Lb:=L3.ext xb
 simp only [cW,cI,fE,iK,mZ,aI,jC,aG,Nat.reduceAdd,aF,cR,aL,bI L3.box,cG L3.box,gL L3.box,gB L3.box,fH L3.box,h3.r_sure,dH,aS,aJ,bR,jB,xP,aLy]
 refine Ok.pickP (fun e2=>?_) (fun e2=>?_)
 ·simp only [e2,if_true]
  exact Meth.call (g86 _ .nils wb (hin3.ext w3 xb) (Apart.nil _ _ rfl) (dN hl3)) wb fun S4 O4 w4 in4 m4=>Ok.ret ⟨rfl,O4,in4,(mv3.trans w (Mv.of xb)).trans w m4⟩
 ·have hbi:c3.h.base≤m.index:=Int.le_of_lt (Int.lt_of_le_of_lt I3.s0 (Int.not_le.1 e2))
  simp only [e2,if_false]
  refine Ok.pickP (fun e3=>?_) (fun e3=>?_)
  ·have ho4:aU (V.agg [.int .i64 m.index,.int .i64 m.at',.int .i64 m.size,.nils]).cells=true:=rfl
   obtain ⟨S5,hn5,x5,hg5,hnx5⟩:=nb wb 4 [.int .i64 m.index,.int .i64 m.at',.int .i64 m.size,.nils]
   have x35:=xb.trans x5
   obtain ⟨S6,r6,h6,m6,n6⟩:=h3.w_way w3 x35 (wv':=.ptr (S3.next+7) 0 0 0) (dv':=.nils) (way':=some ⟨m.index,m.at',m.size,[]⟩) ⟨S3.next+7,rfl,hg5,Own.nil _ _ _⟩ ⟨rfl,rfl⟩ (fun y hy=>by
    rcases hy with hy | hy
    ·cases hy;exact Nat.le_add_right _ _
    ·cases hy)
   have w6:=m6.wf w3
   have hn5':bF none (⟨S3.next+7,S3.heap⟩:St) (.row 0 (V.agg [.int .i64 m.index,.int .i64 m.at',.int .i64 m.size,.nils]).cells.length [(V.agg [.int .i64 m.index,.int .i64 m.at',.int .i64 m.size,.nils]).cells])=.ok (S3.next+7,S5):=hn5
   simp only [ho4,aJ,hn5',aF,aI,aF1,aG,Nat.reduceAdd,aW9,r6,e3,if_true]
   rw [←hO3] at m6
   exact (aWj m ev w6 ⟨_,_,_,_,_,h6,rfl⟩ (fun i hi=>by cases hi;exact Nat.zero_le _) k5.2.2.2.2.2.2.2.2.1 k5.2.2.2.2.2.2.2.2.2.1 (L3.mv w3 m6) I3.h hbi hl3).mono fun u S7 ⟨e7,O7,i7,m7⟩=>⟨e7,O7,i7,(mv3.trans w m6).trans w m7⟩
  ·simp only [e3,if_false]
   exact (aWj m ev wb (hin3.ext w3 xb) (fun i hi=>by
    have h9:=I3.w i hi
    exact Int.ofNat_le.1 (Int.le_trans h9.2.2 (Int.le_trans h9.2.1 (by decide)))) k5.2.2.2.2.2.2.2.2.1 k5.2.2.2.2.2.2.2.2.2.1 Lb I3.h hbi hl3).mono fun u S7 ⟨e7,O7,i7,m7⟩=>⟨e7,O7,i7,(mv3.trans w (Mv.of xb)).trans w m7⟩
end
end
section
variable [Guard]
section
variable {S:St} {a b:Nat} {c:Core} {O:Nat→Prop}
theorem Inv.newTerm {c:Core} (h:Raft.Inv c) {t:Int} (h1:c.h.term<t) (h2:t≤1099511627776):Raft.Inv { c with h:={ c.h with term:=t,vote:=-1 },role:=1,leads:=-1 }:=by
 have k:=h.h
 exact ⟨h.i0,h.i1,⟨Int.le_trans k.t0 (Int.le_of_lt h1),h2,Int.le_refl _,by show (-1:Int)<7;decide,k.m0,k.m1,k.b0,k.b1,k.bt0,Int.le_trans k.bt1 (Int.le_of_lt h1),k.btz,k.ll,k.li,lY (Int.le_of_lt h1) k.fl,k.sz,k.sl⟩,.inl rfl,Int.le_refl _,by show (-1:Int)≤6;decide,h.s0,h.s1,h.d0,h.d1,h.f0,h.f1,h.v0,h.v1,h.pl,fun e=>absurd e (by show ¬ (1:Int)=3;decide),fun e=>absurd rfl e,h.w⟩
def eQ (c : Core) (m : Letter) : Core := if m.term < c.h.term then c.late m else
      if m.kind = 1 then c.asked m else if m.kind = 2 then c.voted m else if m.kind = 3 then c.appended m else if m.kind = 4 then c.acked m else if m.kind = 5 then c.installed m else if m.kind = 6 then c.more m else c
theorem j19 (m:Letter) (ev:V) (w:WF S) (h:CoreIn S a c O) (I:Inv c) (ok:Lok m) (L:LetIn S O b m ev) (hl:c.out.length≤999990):
  Ok (fun k K=>aDy (aE prog aW aX k) k K (.ptr a 0 0 0) (.ptr b 0 0 0) S) (fun u S'=>u=.tup []∧∃ O',CoreIn S' a (eQ c m) O'∧Mv O S O' S'):=by
 have xb:Ext S (⟨S.next+8,S.heap⟩:St):=(Ext.refl S).bump 8
 have wb:=xb.wf w
 have inb:=h.ext w xb
 have Lb:=L.ext xb
 obtain ⟨lv,wv,dv,ov,rows,hc,hO⟩:=h
 have ap:Apart (⟨S.next+8,S.heap⟩:St) O m ev:=⟨Lb.ents,Lb.off⟩
 have fin:∀ {f:FuncId} {c':Core},Meth f [.ptr a 0 0 0,.agg (aO m ev)] a c' (⟨S.next+8,S.heap⟩:St) O (.tup [])→eQ c m=c'→Ok (fun k K=>aE prog aW aX k f [.ptr a 0 0 0,.agg (aO m ev)] (⟨S.next+8,S.heap⟩:St) fun t S'=>K (.tup []) S') (fun u S'=>u=.tup []∧∃ O',CoreIn S' a (eQ c m) O'∧Mv O S O' S'):=fun hm e=>
  Meth.call hm wb fun S1 O1 w1 in1 m1=>Ok.ret ⟨rfl,O1,by rw [e];exact in1,(Mv.of xb).trans w m1⟩
 simp only [aDy,kO,lT,aI,dV,eO,aG,Nat.reduceAdd,aF,cR,uD,aL,kP L.box,jV L.box,nP L.box,hc.r_term,aZ,aS,aJ,bR]
 refine Ok.pickP (fun e=>fin (g53 m ev wb inb I.h Lb.ents hl) (by unfold eQ;rw [if_pos e])) (fun e=>?_)
 refine Ok.pickP (fun e1=>fin (g54 m ev wb inb I.h Lb.ents hl) (by unfold eQ;rw [if_neg e,if_pos e1])) (fun e1=>?_)
 refine Ok.pickP (fun e2=>fin (g55 m ev wb inb I ok Lb.ents hl) (by unfold eQ;rw [if_neg e,if_neg e1,if_pos e2])) (fun e2=>?_)
 refine Ok.pickP (fun e3=>fin (g56 m ev wb inb I ok e3 ap hl) (by unfold eQ;rw [if_neg e,if_neg e1,if_neg e2,if_pos e3])) (fun e3=>?_)
 refine Ok.pickP (fun e4=>fin (g57 m ev wb inb I ok Lb.ents hl) (by unfold eQ;rw [if_neg e,if_neg e1,if_neg e2,if_neg e3,if_pos e4])) (fun e4=>?_)
 refine Ok.pickP (fun e5=>fin (g58 m ev wb inb I ok e5 ap hl) (by unfold eQ;rw [if_neg e,if_neg e1,if_neg e2,if_neg e3,if_neg e4,if_pos e5])) (fun e5=>?_)
 refine Ok.pickP (fun e6=>fin (g59 m ev wb inb I ok e6 Lb.ents hl) (by unfold eQ;rw [if_neg e,if_neg e1,if_neg e2,if_neg e3,if_neg e4,if_neg e5,if_pos e6])) (fun e6=>?_)
 exact Ok.ret ⟨rfl,O,by unfold eQ;rw [if_neg e,if_neg e1,if_neg e2,if_neg e3,if_neg e4,if_neg e5,if_neg e6];exact inb,Mv.of xb⟩
theorem g19 (m:Letter) (ev:V) (w:WF S) (h:CoreIn S a c O) (I:Inv c) (he:Apart S O m ev) (hl:c.out.length≤999990):Meth 19 [.ptr a 0 0 0,.agg (aO m ev)] a (c.take m) S O (.tup []):=by
 have ho:=cB m he.1.one
 have hln:(aO m ev).length=13:=rfl
 obtain ⟨S1,hn1,x1,hg1,hnx1⟩:=nb w 13 (aO m ev)
 have w1:=x1.wf w
 have in1:=h.ext w x1
 have hno:¬ O S.next:=fun hO=>absurd (kZ w h _ hO) (Nat.lt_irrefl _)
 have L1:LetIn S1 O S.next m ev:=⟨hg1,hno,he.1.ext x1,he.2⟩
 have hT:c.take m=if c.passed m=true then c else eQ (if c.h.term<m.term then { c with h:={ c.h with term:=m.term,vote:=-1 },role:=1,leads:=-1 } else c) m:=rfl
 rw [hT]
 refine e19 ?_
 simp only [m19,bH,ho,hln,aJ,hn1,aF,uD,nP hg1]
 refine (g52 m ev w1 in1 I L1.ents).call fun S2 x2=>?_
 have w2:=x2.wf w1
 have in2:=in1.ext w1 x2
 have x02:=x1.trans x2
 refine Ok.pick (fun e=>Ok.ret ⟨rfl,O,by rw [if_pos e];exact in2,Mv.of x02⟩) (fun e=>?_)
 have hp:¬ c.passed m=true:=fun q=>by rw [q] at e;cases e
 rw [if_neg hp]
 have hr:dB m=true:=by
  cases hr:dB m with
  | true=>rfl
  | false=>exact absurd (by unfold Core.passed;rw [if_pos (.inl hr)]) hp
 have ok:=cU hr
 have xb:Ext S2 (⟨S2.next+8,S2.heap⟩:St):=(Ext.refl S2).bump 8
 have wb:=xb.wf w2
 have L2:=L1.ext x2
 have hin2:=in2
 obtain ⟨lv,wv,dv,ov,rows,h2,hO⟩:=in2
 simp only [kO,aI,dV,hJ,sU,eO,kM,aG,Nat.reduceAdd,aF,cR,aL,kP L2.box,h2.r_term,bX]
 refine Ok.pickP (fun e2=>?_) (fun e2=>?_)
 ·rw [if_pos e2]
  obtain ⟨S3,q3,h3,m3,_⟩:=(h2.ext w2 xb).w_term wb m.term
  have w3:=m3.wf wb
  obtain ⟨S4,q4,h4',m4,_⟩:=h3.w_vote w3 (-1)
  have h4:CoreAt S4 a { c with h:={ c.h with term:=m.term,vote:=-1 } } lv wv dv ov rows:=h4'
  clear h4'
  have w4:=m4.wf w3
  obtain ⟨S5,q5,h5',m5,_⟩:=h4.w_role w4 1
  have h5:CoreAt S5 a { c with h:={ c.h with term:=m.term,vote:=-1 },role:=1 } lv wv dv ov rows:=h5'
  clear h5'
  have w5:=m5.wf w4
  obtain ⟨S6,q6,h6',m6,_⟩:=h5.w_leads w5 (-1)
  have h6:CoreAt S6 a { c with h:={ c.h with term:=m.term,vote:=-1 },role:=1,leads:=-1 } lv wv dv ov rows:=h6'
  clear h6'
  have w6:=m6.wf w5
  rw [←hO] at m3 m4 m5 m6
  have mv6:=((((Mv.of (O:=O) (x02.trans xb)).trans w m3).trans w m4).trans w m5).trans w m6
  have L6:=((((L2.ext xb).mv wb m3).mv w3 m4).mv w4 m5).mv w5 m6
  simp only [mD,q3,q4,q5,q6,aF]
  exact (j19 m ev w6 ⟨_,_,_,_,_,h6,hO⟩ (Inv.newTerm I e2 ok.tm1) ok L6 hl).mono fun u S7 ⟨e7,O7,i7,m7⟩=>⟨e7,O7,i7,mv6.trans w m7⟩
 ·rw [if_neg e2]
  exact (j19 m ev wb (hin2.ext w2 xb) I ok (L2.ext xb) hl).mono fun u S7 ⟨e7,O7,i7,m7⟩=>⟨e7,O7,i7,(Mv.of (x02.trans xb)).trans w m7⟩
end
end
section
variable [Guard]
def aAj (s:List UInt8):List V:=[.str s]
theorem lB {α β:Type} (f:α→β):∀ (l:List α) (acc:List β),l.foldl (fun a x=>a++[f x]) acc=acc++l.map f
 | [],acc=>by simp
 | x::l,acc=>by simp [lB f l]
def kH (_:Unit) (d:List UInt8):Bool⊕Unit:=if 1100<d.length then .inl true else .inr ()
theorem aO2:∀ (l:List (List UInt8)),fF kH (fun _=>false) l ()=l.any (fun d=>decide (1100<d.length))
 | []=>rfl
 | d::l=>by
  simp only [fF,kH,List.any_cons]
  by_cases h:1100<d.length
  ·rw [if_pos h,decide_eq_true h];rfl
  ·rw [if_neg h,decide_eq_false h];exact aO2 l
theorem uH (t:Int) (d:List UInt8):dX [.int .i64 0,.int .i64 0,.str []] [(0,1),(1,1),(2,1)] [(0,.int .i64 t),(2,.str d)]=.ok (.agg (bM ⟨t,0,d⟩)):=rfl
theorem cP {i n:Nat} (h:i<n) (hn:n≤1000000):wr .i64 ((i:Int)+1)=((i+1:Nat):Int):=by rw [cS (by omega) (by omega)];omega
section
variable {S:St} {a b:Nat} {c:Core} {O:Nat→Prop}
theorem bAr (data:List (List UInt8)) (dv:V) (x4 x5 p8:V) (w:WF S) (h:CoreIn S a c O) (hs:Sl S 1 dv (data.map aAj)) (ho:∀ y,bJ dv=some y→¬ O y) (hd:data.length≤200) (hll:c.h.log.length≤200) {Q:V→St→Prop}
  (hout:∀ S' O',WF S'→CoreIn S' a { c with h:={ c.h with log:=c.h.log++data.map fun d=>⟨c.h.term,0,d⟩ } } O'→Mv O S O' S'→Ok (fun k K=>aE prog aW aX k 60 [.ptr a 0 0 0] S' fun t S''=>K (.tup [p8,.bool true]) S'') Q):
  Ok (fun k K=>cQ k [.int .i64 0] S (zK (aE prog aW aX k) k K (.ptr a 0 0 0) x4 x5 p8 dv (.int .i64 data.length))) Q:=by
 refine Ok.loopL (F:=fun k K=>zK (aE prog aW aX k) k K (.ptr a 0 0 0) x4 x5 p8 dv (.int .i64 data.length)) (ρ:=List Entry) (α:=List UInt8) (X:=Unit) data (step:=fun l d=>.inr (l++[⟨c.h.term,0,d⟩])) (fin:=id) (s:=c.h.log)
  (out:=fun k K _ S'=>aE prog aW aX k 60 [.ptr a 0 0 0] S' fun t S''=>K (.tup [p8,.bool true]) S'')
  (fun i l vs S'=>vs=[.int .i64 (i:Int)]∧l.length≤200+i∧WF S'∧∃ O',CoreIn S' a { c with h:={ c.h with log:=l } } O'∧Mv O S O' S'∧Sl S' 1 dv (data.map aAj)∧∀ y,bJ dv=some y→¬ O' y)
  (fun l _ S'=>WF S'∧∃ O',CoreIn S' a { c with h:={ c.h with log:=l } } O'∧Mv O S O' S') ?_ ?_ ⟨rfl,hll,w,O,h,Mv.refl O S,hs,ho⟩ (fun _ S' ⟨w',O',in',m'⟩=>?_)
 ·rintro i d l vs S1 ⟨rfl,hl,w1,O1,in1,m1,s1,f1⟩ hi
  have hil:=(List.getElem?_eq_some_iff.1 hi).1
  have hlt:(i:Int)<(data.length:Int):=Int.ofNat_lt.2 hil
  have hw:=cP hil (Nat.le_trans hd (by decide))
  obtain ⟨p,hp,hat,_,_⟩:=s1.elem hi
  have hat0:aR none p S1=.ok (.str d):=by rw [hat.load0];rfl
  obtain ⟨lv,wv,dv',ov,rows,h1,hO⟩:=in1
  obtain ⟨S2,lv',S3,S4,q2,q3,q4,h4,m4⟩:=h1.push w1 ⟨c.h.term,0,d⟩ [.int .i64 0,.int .i64 0,.str []] 19 13 14 (by decide) (by decide) (by decide) (Nat.le_trans hl (by omega))
  rw [←hO] at m4
  simp only [zK,aY,aZ,aF,hlt,decide_true,bA,aLq,hp,uE,hat0,aI,dV,cO,eO,aG,Nat.reduceAdd,eC,cR,aL,h1.r_log,h1.r_term,aLp,uH,aA0,q2,kR,q3,sV,q4,bK,hw]
  obtain ⟨s4,f4⟩:=vY w1 s1 f1 m4
  exact OkL.next ⟨l++[⟨c.h.term,0,d⟩],rfl,rfl,by rw [List.length_append,List.length_singleton];exact Nat.add_le_add_right hl 1,m4.wf w1,_,⟨_,_,_,_,_,h4,rfl⟩,m1.trans w m4,s4,f4⟩
 ·rintro l vs S1 ⟨rfl,hl,w1,O1,in1,m1,s1,f1⟩
  have hlt:¬ (data.length:Int)<(data.length:Int):=Int.lt_irrefl _
  refine ⟨(),⟨w1,O1,in1,m1⟩,fun k K bD=>?_⟩
  simp only [zK,aY,aZ,aF,hlt,decide_false,aK]
 ·rw [jK,lB] at in'
  exact hout S' O' w' in' m'
theorem g20 (data:List (List UInt8)) (dv:V) (w:WF S) (h:CoreIn S a c O) (I:Inv c) (hs:Sl S 1 dv (data.map aAj)) (ho:∀ y,bJ dv=some y→¬ O y) (hl:c.out.length≤999990):
  Meth 20 [.ptr a 0 0 0,dv] a (c.propose data).1 S O (.tup [.int .i64 (c.propose data).2.1,.bool (c.propose data).2.2]):=by
 have ok:=I.h
 have hr:=cZ ok
 have hb0:=ok.b0
 have hll:=ok.ll
 have hin:=h
 obtain ⟨lv,wv,dv',ov,rows,h,hO⟩:=h
 have hw1:wr .i64 (120 - c.h.log.length)=120 - c.h.log.length:=cS (by omega) (by omega)
 have hw2:wr .i64 (1099511627776 - c.last)=1099511627776 - c.last:=cS (by omega) (by omega)
 have hw3:wr .i64 (c.last+1)=c.last+1:=cS (by omega) (by omega)
 have no:(c.role≠3∨data.length=0∨(120:Int) - c.h.log.length<data.length∨(1099511627776:Int) - c.last<data.length)→c.propose data=(c,0,false):=fun hq=>by unfold Core.propose;rw [if_pos hq]
 have noS:∀ S',Ext S S'→c.propose data=(c,0,false)→Ok (fun k K=>K (.tup [.int .i64 0,.bool false]) S') (fun u S'=>u=.tup [.int .i64 (c.propose data).2.1,.bool (c.propose data).2.2]∧∃ O',CoreIn S' a (c.propose data).1 O'∧Mv O S O' S'):=fun S' x e=>by
  rw [e];exact Ok.ret ⟨rfl,O,hin.ext w x,Mv.of x⟩
 refine e20 ?_
 simp only [m20,aI,hJ,dV,cO,aG,Nat.reduceAdd,aF,cR,eC,h.r_role,h.r_log,kS,hs.lenI,eA,h.log.sl.lenI,aS,aJ,cJ,bR,cE,hw1,bX]
 refine Ok.pickN (fun e=>noS S (Ext.refl S) (no (.inl e))) (fun e=>?_)
 refine Ok.pickP (fun e2=>noS S (Ext.refl S) (no (.inr (.inl (by omega))))) (fun e2=>?_)
 refine Ok.pickP (fun e3=>noS S (Ext.refl S) (no (.inr (.inr (.inl e3))))) (fun e3=>?_)
 refine (g46 hin ok).call fun S1 x1=>?_
 simp only [cE,hw2,aF,bX,kS,hs.lenI]
 refine Ok.pickP (fun e4=>noS S1 x1 (no (.inr (.inr (.inr e4))))) (fun e4=>?_)
 have hd:data.length≤200:=by omega
 have hn:¬ (c.role≠3∨data.length=0∨(120:Int) - c.h.log.length<data.length∨(1099511627776:Int) - c.last<data.length):=fun q=>by
  rcases q with q | q | q | q
  ·exact q e
  ·exact e2 (by rw [q];rfl)
  ·exact e3 q
  ·exact e4 q
 have w1:=x1.wf w
 refine Ok.loopL (F:=fun k K=>vD (aE prog aW aX k) k K (.ptr a 0 0 0) dv dv (.int .i64 data.length)) (ρ:=Bool) (α:=List UInt8) (X:=Bool) data (step:=kH) (fin:=fun _=>false) (s:=())
  (out:=fun k K x S'=>if x=true then K (.tup [.int .i64 0,.bool false]) S' else vD (aE prog aW aX k) k K (.ptr a 0 0 0) dv dv (.int .i64 data.length) [.int .i64 0,.bool false,.int .i64 data.length] S' (fun _ _=>none))
  (fun i _ vs S'=>vs=[.int .i64 0,.bool false,.int .i64 (i:Int)]∧S'=S1)
  (fun r x S'=>r=x∧S'=S1) ?_ ?_ ⟨rfl,rfl⟩ (fun x S' ⟨ex,e5⟩=>?_)
 ·rintro i d _ vs S2 ⟨rfl,rfl⟩ hi
  have hil:=(List.getElem?_eq_some_iff.1 hi).1
  have hlt:(i:Int)<(data.length:Int):=Int.ofNat_lt.2 hil
  have hw:=cP hil (Nat.le_trans hd (by decide))
  obtain ⟨p,hp,hat,_,_⟩:=(hs.ext x1).elem hi
  have hat0:aR none p S2=.ok (.str d):=by rw [hat.load0];rfl
  simp only [vD,aY,aZ,aF,hlt,decide_true,bA,aLq,hp,uE,hat0,kG,bX,bK,hw]
  refine OkL.pickP (fun e6=>OkL.stop true ⟨true,by unfold kH;rw [if_pos (by omega)],rfl,rfl⟩ (by intros;rfl)) (fun e6=>OkL.next ⟨(),by unfold kH;rw [if_neg (by omega)],rfl,rfl⟩)
 ·rintro _ vs S2 ⟨rfl,rfl⟩
  have hlt:¬ (data.length:Int)<(data.length:Int):=Int.lt_irrefl _
  refine ⟨false,⟨rfl,rfl⟩,fun k K bD=>?_⟩
  simp only [vD,aY,aZ,aF,hlt,decide_false,aK,if_neg (by decide:¬ false=true)]
 ·subst e5
  rw [aO2] at ex
  have hP:c.propose data=if data.any (fun d=>decide (1100<d.length))=true then (c,0,false) else
  (({ c with h:={ c.h with log:=c.h.log++data.map fun d=>⟨c.h.term,0,d⟩ } }:Core).own,c.last+1,true):=by unfold Core.propose;rw [if_neg hn]
  cases x with
  | true=>
   simp only [if_true]
   exact noS S' x1 (by rw [hP,if_pos ex])
  | false=>
   rw [hP,if_neg (by rw [ex];decide)]
   have hlt:¬ (data.length:Int)<(data.length:Int):=Int.lt_irrefl _
   simp only [vD,aY,aZ,aF,hlt,decide_false,aK,if_neg (by decide:¬ false=true)]
   refine (g46 (hin.ext w x1) ok).call fun S2 x2=>?_
   have x02:=x1.trans x2
   have w2:=x02.wf w
   simp only [bK,hw3,aF,kS,(hs.ext x02).lenI]
   refine bAr data dv _ _ _ w2 (hin.ext w x02) (hs.ext x02) ho hd hll fun S3 O3 w3 in3 m3=>?_
   have okp:=(Inv.pushes I (r:=data.map fun d=>⟨c.h.term,0,d⟩) (fun x hx=>by
    obtain ⟨d,hd',rfl⟩:=List.mem_map.1 hx
    have hlen:d.length≤1100:=by
     by_cases hq:d.length≤1100
     ·exact hq
     ·have:data.any (fun d=>decide (1100<d.length))=true:=List.any_eq_true.2 ⟨d,hd',decide_eq_true (by omega)⟩
      rw [this] at ex;cases ex
    exact ⟨⟨I.tm (by rw [e];decide),Int.le_refl _,Int.le_refl _,by show (0:Int)≤127;decide,hlen,.inl rfl⟩,rfl⟩) (by rw [List.length_map];omega) (by rw [List.length_map];omega)).1
   refine Meth.call (g60 w3 in3 okp.h I.i0 I.i1 okp.s0 okp.s1 hl okp.pr) w3 fun S4 O4 w4 in4 m4=>Ok.ret ⟨rfl,O4,in4,((Mv.of x02).trans w m3).trans w m4⟩
end
end
section
variable [Guard]
def chS (q:Nat→Prop) [DecidablePred q] (x:Peer) (l:List Peer) (i:Nat):List Peer⊕List Peer:=.inr (if q i then l.set i x else l)
theorem aH6 (q:Nat→Prop) [DecidablePred q] (x:Peer) {l:List Peer} (h:l.length=7):fF (chS q x) id (List.range 7) l=(List.range 7).zipWith (fun (k:Nat) p=>if q k then x else p) l:=by
 obtain ⟨p0,p1,p2,p3,p4,p5,p6,rfl⟩:=kF h
 show fF _ id [0,1,2,3,4,5,6] _=List.zipWith _ [0,1,2,3,4,5,6] _
 simp only [fF,chS,List.zipWith,id]
 by_cases a0:q 0<;>by_cases a1:q 1<;>by_cases a2:q 2<;>by_cases a3:q 3<;>by_cases a4:q 4<;>by_cases a5:q 5<;>by_cases a6:q 6<;>simp only [a0,a1,a2,a3,a4,a5,a6,if_true,if_false]<;>rfl
theorem aAk {c:Core} (h:Raft.Inv c) {members:Int} (hr:c.role=3) (hm:mF (eP c.h).1 members=true) (h120:¬ 120≤c.h.log.length) (hix:¬ 1099511627776≤c.last):
  Raft.Inv { c with h:={ c.h with log:=c.h.log++[⟨c.h.term,members,[]⟩] } }∧Raft.Inv { c with h:={ c.h with log:=c.h.log++[⟨c.h.term,members,[]⟩] },peers:=(List.range 7).zipWith (fun (k:Nat) p=>if (k:Int)≠c.id∧cN members (k:Int)=true∧cN (eP c.h).1 (k:Int)=false then ⟨c.last+1,0,0⟩ else p) c.peers }:=by
 simp only [mF,kD,Bool.and_eq_true,decide_eq_true_eq] at hm
 have ht:=h.tm (by omega)
 obtain ⟨h1,k1⟩:=h.pushes (r:=[⟨c.h.term,members,[]⟩]) (fun x hx=>by
  rw [List.mem_singleton.1 hx]
  exact ⟨⟨ht,Int.le_refl _,by show 0≤members;omega,by show members≤127;omega,by show 0≤1100;decide,.inr rfl⟩,rfl⟩) (by simp;omega) (by simp;omega)
 refine ⟨h1,h1.i0,h1.i1,h1.h,h1.role,h1.l0,h1.l1,h1.s0,h1.s1,h1.d0,h1.d1,h1.f0,h1.f1,h1.v0,h1.v1,by show (List.zipWith _ _ _).length=7;rw [List.length_zipWith,h.pl];rfl,fun hr' p hp=>?_,h1.tm,h1.w⟩
 obtain ⟨i,hi⟩:=List.mem_iff_getElem?.1 hp
 have hi':((List.range 7).zipWith (fun (k:Nat) p=>if (k:Int)≠c.id∧cN members (k:Int)=true∧cN (eP c.h).1 (k:Int)=false then (⟨c.last+1,0,0⟩:Peer) else p) c.peers)[i]?=some p:=hi
 have hlast:cF { c.h with log:=c.h.log++[⟨c.h.term,members,[]⟩] }=c.last+1:=by unfold Core.last cF;simp;omega
 have hb:=h.h.b0
 have hl0:0≤c.last:=by unfold Core.last cF;omega
 rw [List.getElem?_zipWith] at hi'
 split at hi'
 ·rename_i a b e1 e2
  cases hi'
  split
  ·exact ⟨Int.le_refl _,by show 0≤cF _;rw [hlast];omega,by show 1≤c.last+1;omega,by show c.last+1≤cF _+1;rw [hlast];omega,Int.le_refl _,.inr rfl⟩
  ·exact (h1.pr hr b (List.mem_of_getElem? e2)).of (by rfl)
 ·cases hi'
theorem uI (t m:Int):dX [.int .i64 0,.int .i64 0,.str []] [(0,1),(1,1),(2,1)] [(0,.int .i64 t),(1,.int .i64 m)]=.ok (.agg (bM ⟨t,m,[]⟩)):=rfl
theorem aJ2 (x:Int):bQ prog 84 [(0,.int .i64 x)]=.ok (.agg (jT ⟨x,0,0⟩)):=by rw [aUc];rfl
section
variable {S:St} {a b:Nat} {c:Core} {O:Nat→Prop}
theorem g21 (members:Int) (w:WF S) (h:CoreIn S a c O) (I:Inv c) (hl:c.out.length≤999990):
  Meth 21 [.ptr a 0 0 0,.int .i64 members] a (c.change members).1 S O (.tup [.int .i64 (c.change members).2.1,.bool (c.change members).2.2]):=by
 have ok:=I.h
 have hr:=cZ ok
 have hb0:=ok.b0
 have hll:=ok.ll
 have hmr:=eN ok
 have hin:=h
 obtain ⟨lv,wv,dv,ov,rows,h,hO⟩:=h
 have no:(c.role≠3∨mF (eP c.h).1 members=false∨c.sure<(eP c.h).2∨c.term c.sure≠c.h.term∨120≤c.h.log.length∨1099511627776≤c.last)→c.change members=(c,0,false):=fun hq=>by unfold Core.change;simp only;rw [if_pos hq]
 have noS:∀ S',Ext S S'→c.change members=(c,0,false)→Ok (fun k K=>K (.tup [.int .i64 0,.bool false]) S') (fun u S'=>u=.tup [.int .i64 (c.change members).2.1,.bool (c.change members).2.2]∧∃ O',CoreIn S' a (c.change members).1 O'∧Mv O S O' S'):=fun S' x e=>by
  rw [e];exact Ok.ret ⟨rfl,O,hin.ext w x,Mv.of x⟩
 refine e21 ?_
 simp only [m21,aI,dV,aG,Nat.reduceAdd,aF,mE,h.r_hard]
 refine (g49 c.h lv S w h.log.sl (by omega) ok.b0 ok.b1).call fun S1 x1=>?_
 have w1:=x1.wf w
 have h1:=h.ext w x1
 have xb:Ext S1 (⟨S1.next+47,S1.heap⟩:St):=(Ext.refl S1).bump 47
 have x1b:=x1.trans xb
 simp only [eH,List.getElem?_cons_zero,List.getElem?_cons_succ,iP,aI,hJ,aG,Nat.reduceAdd,aF,cR,aL,h1.r_role,aS,aJ,cJ]
 refine Ok.pickN (fun e=>noS _ x1b (no (.inl e))) (fun e=>?_)
 refine (g61 _ members _ (xb.wf w1)).call fun S2 x2=>?_
 have x02:=x1b.trans x2
 have w2:=x02.wf w
 have h2:=h.ext w x02
 simp only [dS,aF]
 refine Ok.pick (fun e2=>noS S2 x02 (no (.inr (.inl (by simpa using e2))))) (fun e2=>?_)
 have hmay:mF (eP c.h).1 members=true:=by simpa using e2
 simp only [aI,jC,dV,eO,aG,Nat.reduceAdd,aF,cR,h2.r_sure,h2.r_term,bX]
 refine Ok.pickP (fun e3=>noS S2 x02 (no (.inr (.inr (.inl e3))))) (fun e3=>?_)
 refine (g62 (hin.ext w x02) ok (n:=c.sure) I.s0 I.s1).call fun S3 x3=>?_
 have x03:=x02.trans x3
 have h3:=h.ext w x03
 simp only [h3.r_term,aF,bO,aJ,aS,cJ]
 refine Ok.pickN (fun e4=>noS S3 x03 (no (.inr (.inr (.inr (.inl e4)))))) (fun e4=>?_)
 simp only [aI,dV,cO,aG,Nat.reduceAdd,aF,eC,h3.r_log,eA,h3.log.sl.lenI,dA]
 refine Ok.pickP (fun e5=>noS S3 x03 (no (.inr (.inr (.inr (.inr (.inl (by omega)))))))) (fun e5=>?_)
 refine (g46 (hin.ext w x03) ok).call fun S4 x4=>?_
 have x04:=x03.trans x4
 have w4:=x04.wf w
 have h4:=h.ext w x04
 simp only [dA,aF]
 refine Ok.pickP (fun e6=>noS S4 x04 (no (.inr (.inr (.inr (.inr (.inr e6))))))) (fun e6=>?_)
 have hn:¬ (c.role≠3∨mF (eP c.h).1 members=false∨c.sure<(eP c.h).2∨c.term c.sure≠c.h.term∨120≤c.h.log.length∨1099511627776≤c.last):=fun q=>by
  rcases q with q | q | q | q | q | q
  ·exact q e
  ·rw [q] at hmay;cases hmay
  ·exact e3 q
  ·exact q e4
  ·exact e5 (Int.ofNat_le.2 q)
  ·exact e6 q
 have h120:¬ 120≤c.h.log.length:=fun q=>e5 (Int.ofNat_le.2 q)
 obtain ⟨I1,I2⟩:=aAk I e hmay h120 e6
 obtain ⟨S5,lv',S6,S7,q5,q6,q7,h7,m7⟩:=h4.push w4 ⟨c.h.term,members,[]⟩ [.int .i64 0,.int .i64 0,.str []] 19 13 14 (by decide) (by decide) (by decide) (Nat.le_trans hll (by decide))
 rw [←hO] at m7
 have w7:=m7.wf w4
 have mv7:=(Mv.of (O:=O) x04).trans w m7
 simp only [aI,dV,cO,eO,aG,Nat.reduceAdd,aF,eC,cR,aL,h4.r_log,h4.r_term,aLp,uI,aA0,q5,kR,q6,sV,q7]
 have hlast:({ c with h:={ c.h with log:=c.h.log++[⟨c.h.term,members,[]⟩] } }:Core).last=c.last+1:=by unfold Core.last cF;simp;omega
 have hC:c.change members=(({ c with h:={ c.h with log:=c.h.log++[⟨c.h.term,members,[]⟩] },peers:=(List.range 7).zipWith (fun (k:Nat) p=>if (k:Int)≠c.id∧cN members (k:Int)=true∧cN (eP c.h).1 (k:Int)=false then ⟨c.last+1,0,0⟩ else p) c.peers }:Core).own,c.last+1,true):=by
  unfold Core.change;simp only;rw [if_neg hn,hlast]
 rw [hC]
 refine (g46 ⟨_,_,_,_,_,h7,rfl⟩ I1.h).call fun S8 x8=>?_
 have w8:=x8.wf w7
 have h8:=h7.ext w7 x8
 rw [hlast]
 have hmm:=hmay
 simp only [mF,kD,Bool.and_eq_true,decide_eq_true_eq] at hmm
 rw [←aH6 (fun (k:Nat)=>(k:Int)≠c.id∧cN members (k:Int)=true∧cN (eP c.h).1 (k:Int)=false) ⟨c.last+1,0,0⟩ I.pl] at I2 ⊢
 refine Ok.loopL (F:=fun k K=>aDz (aE prog aW aX k) k K (.ptr a 0 0 0) (.int .i64 members) (.int .i64 (eP c.h).1) (.int .i64 (c.last+1))) (ρ:=List Peer) (α:=Nat) (X:=List Peer) (List.range 7) (step:=chS (fun (k:Nat)=>(k:Int)≠c.id∧cN members (k:Int)=true∧cN (eP c.h).1 (k:Int)=false) ⟨c.last+1,0,0⟩) (fin:=id) (s:=c.peers)
  (out:=fun k K _ S'=>aE prog aW aX k 60 [.ptr a 0 0 0] S' fun t S''=>K (.tup [.int .i64 (c.last+1),.bool true]) S'')
  (fun i l vs S'=>vs=[.int .i64 (i:Int)]∧WF S'∧∃ O',CoreIn S' a { c with h:={ c.h with log:=c.h.log++[⟨c.h.term,members,[]⟩] },peers:=l } O'∧Mv O S O' S')
  (fun l x S'=>WF S'∧∃ O',CoreIn S' a { c with h:={ c.h with log:=c.h.log++[⟨c.h.term,members,[]⟩] },peers:=l } O'∧Mv O S O' S') ?_ ?_ ⟨rfl,w8,_,⟨_,_,_,_,_,h8,rfl⟩,mv7.trans w (Mv.of x8)⟩ (fun l S9 ⟨w9,O9,in9,m9⟩=>?_)
 ·rintro i i' l vs S9 ⟨rfl,w9,O9,in9,m9⟩ hi
  obtain ⟨hil,hj⟩:=List.getElem?_eq_some_iff.1 hi
  rw [List.length_range] at hil
  rw [List.getElem_range] at hj
  subst hj
  have hlt:(i:Int)<7:=Int.ofNat_lt.2 hil
  have hw:=cP hil (by decide)
  have nx:∀ S',Ext S9 S'→¬ ((i:Int)≠c.id∧cN members (i:Int)=true∧cN (eP c.h).1 (i:Int)=false)→pZ (chS (fun (k:Nat)=>(k:Int)≠c.id∧cN members (k:Int)=true∧cN (eP c.h).1 (k:Int)=false) ⟨c.last+1,0,0⟩) (fun i l vs S'=>vs=[.int .i64 (i:Int)]∧WF S'∧∃ O',CoreIn S' a { c with h:={ c.h with log:=c.h.log++[⟨c.h.term,members,[]⟩] },peers:=l } O'∧Mv O S O' S') (fun l (x:List Peer) S'=>WF S'∧∃ O',CoreIn S' a { c with h:={ c.h with log:=c.h.log++[⟨c.h.term,members,[]⟩] },peers:=l } O'∧Mv O S O' S') i l i (.next [.int .i64 ((i+1:Nat):Int)] S'):=fun S' x hno=>⟨l,by unfold chS;rw [if_neg hno],rfl,x.wf w9,O9,in9.ext w9 x,m9.trans w (Mv.of x)⟩
  obtain ⟨lv9,wv9,dv9,ov9,rows9,h9,hO9⟩:=in9
  simp only [aDz,aY,aZ,aF,hlt,decide_true,bA,aI,oJ,aG,Nat.reduceAdd,cR,h9.r_id,aS,aJ,cJ]
  refine OkL.pickN (fun f1=>?_) (fun f1=>by
   simp only [vE,aK,bK,hw,aF]
   exact OkL.next (nx S9 (Ext.refl _) (fun q=>q.1 f1)))
  refine (g50 members i S9 (by omega)).callL fun Sa xa=>?_
  have wa:=xa.wf w9
  refine OkL.pick (fun f2=>?_) (fun f2=>by
   simp only [vE,aK,bK,hw,aF]
   exact OkL.next (nx Sa xa (fun q=>by rw [q.2.1] at f2;cases f2)))
  refine (g50 _ i Sa (by omega)).callL fun Sb xb=>?_
  have x9b:=xa.trans xb
  have wb:=xb.wf wa
  simp only [dS,aF,vE]
  refine OkL.pick (fun f3=>?_) (fun f3=>by
   simp only [bK,hw,aF]
   exact OkL.next (nx Sb x9b (fun q=>by rw [q.2.2] at f3;cases f3)))
  have h9b:=h9.ext w9 x9b
  obtain ⟨Sc,qc,hc,mc,_⟩:=h9b.w_peer wb hil ⟨c.last+1,0,0⟩
  rw [←hO9] at mc
  simp only [aJ2,aI,pY,aG,Nat.reduceAdd,aAf,eK hil,aF,aLs,qc,bK,hw]
  exact OkL.next ⟨l.set i ⟨c.last+1,0,0⟩,by unfold chS;rw [if_pos (show (i:Int)≠c.id∧cN members (i:Int)=true∧cN (eP c.h).1 (i:Int)=false from ⟨f1,f2,by simpa using f3⟩)],rfl,mc.wf wb,O9,⟨_,_,_,_,_,hc,hO9⟩,(m9.trans w (Mv.of x9b)).trans w mc⟩
 ·rintro l vs S9 ⟨rfl,w9,O9,in9,m9⟩
  have hlt:¬ (((List.range 7).length:Nat):Int)<7:=by rw [List.length_range];decide
  refine ⟨l,⟨w9,O9,in9,m9⟩,fun k K bD=>?_⟩
  simp only [aDz,aY,aZ,aF,hlt,decide_false,aK]
 ·exact Meth.call (g60 w9 in9 I2.h I2.i0 I2.i1 I2.s0 I2.s1 hl I2.pr) w9 fun Sa Oa wa ina ma=>Ok.ret ⟨rfl,Oa,ina,m9.trans w ma⟩
end
end
section
variable [Guard]
theorem Ext.put {S S':St} (h:Ext S S') {a:Nat} (ha:S.next≤a) (hb:a<S'.next) (w:WF S) (b:Blk):Ext S ⟨S'.next,S'.heap.put a b⟩:=h.set ha hb w b
abbrev zH:List V:=[.int .i64 0,.int .i64 0,.int .i64 0,.int .i64 0,.int .i64 0,.str [],.nils]
theorem g35 (h:Hard) (lv:V) (S:St) (w:WF S) (hs:Sl S 3 lv (h.log.map bM)) (hl:h.log.length≤1000000):Does prog aW aX 35 [.agg (aV h lv)] S (fun u S'=>Ext S S'∧∃ lv',u=.agg (aV h lv')∧Own S S' 3 lv' (h.log.map bM)):=by
 have ho:=dG h hs.one
 have hln:(aV h lv).length=7:=rfl
 obtain ⟨S1,hn1,x1,hg1,hnx1⟩:=nb w 7 (aV h lv)
 have w1:=x1.wf w
 obtain ⟨S2,hn2,x2,hg2,hnx2⟩:=nb w1 7 zH
 have w2:=x2.wf w1
 have x02:=x1.trans x2
 have g2:=x2.old _ _ hg1
 have v6:aR none (.ptr S.next 0 0 6) S2=.ok lv:=by rw [bB _ _ _ _ _ (bC g2)];rfl
 obtain ⟨lv',S3,r3,x3,o3⟩:=(hs.ext x02).copy (b:=32) w2 (by rw [List.length_map];omega) (by rw [List.length_map];unfold fU;omega)
 have x03:=x02.trans x3
 have w3:=x3.wf w2
 have g3:=x3.old _ _ g2
 have ho3:=o3.sl
 have e4:=dD (S:=S3) (x:=lv') (j:=6) (m:=1) g3 (by rw [dT ho3];rfl) (by rw [dT ho3];simp [aU,ho3.one]) (by rw [hln];omega)
 have c4:splice (aV h lv) 6 lv'.cells=aV h lv':=by rw [dT ho3];rfl
 rw [c4] at e4
 have hlt:S.next<S3.next:=w3 _ _ g3
 have x4:Ext S (⟨S3.next,S3.heap.put S.next (.row 0 7 [aV h lv'])⟩:St):=x03.set (Nat.le_refl _) hlt w _
 have g4:(⟨S3.next,S3.heap.put S.next (.row 0 7 [aV h lv'])⟩:St).heap.get S.next=some (.row 0 7 [aV h lv']):=Tr.get_put_sameB _ _ _ trivial
 have g4b:(⟨S3.next,S3.heap.put S.next (.row 0 7 [aV h lv'])⟩:St).heap.get S1.next=some (.row 0 7 [zH]):=by
  show (S3.heap.put _ _).get _=_
  rw [Tr.get_put_neB _ _ _ _ trivial (by omega)]
  exact x3.old _ _ hg2
 have o4:Own S (⟨S3.next,S3.heap.put S.next (.row 0 7 [aV h lv'])⟩:St) 3 lv' (h.log.map bM):=
  (o3.weaken x02.next).but (fun y c hy hc=>by show (S3.heap.put _ _).get y=_;rw [Tr.get_put_neB _ _ _ _ trivial hy];exact hc) (Nat.le_refl _) g3 (by decide)
 generalize (⟨S3.next,S3.heap.put S.next (.row 0 7 [aV h lv'])⟩:St)=S4 at e4 x4 g4 g4b o4
 have va:aR (some 7) (.ptr S.next 0 0 0) S4=.ok (.agg (aV h lv')):=by rw [bB _ _ _ _ _ (bC g4)];exact cM _ _ rfl
 obtain ⟨e5,e6⟩:=aA4 g4b rfl (show (aV h lv').length=7 from rfl) (dG h ho3.one)
 have hlt5:S1.next<S4.next:=x4.wf w _ _ g4b
 have x5:Ext S (⟨S4.next,S4.heap.put S1.next (.row 0 7 [aV h lv'])⟩:St):=x4.set x1.next hlt5 w _
 have o5:Own S (⟨S4.next,S4.heap.put S1.next (.row 0 7 [aV h lv'])⟩:St) 3 lv' (h.log.map bM):=
  o4.but (fun y c hy hc=>by show (S4.heap.put _ _).get y=_;rw [Tr.get_put_neB _ _ _ _ trivial hy];exact hc) (Nat.le_refl _) g4b (by decide)
 refine e35 ?_
 simp only [m35,bH,ho,hln,aJ,hn1,hn2,aF,cO,aG,Nat.reduceAdd,eC,mE,v6,kR,r3,sV,aLr,e4,va,e5,e6]
 exact Ok.ret ⟨x5,lv',rfl,o5⟩
section
variable {S:St} {a b:Nat} {c:Core} {O:Nat→Prop}
theorem g14 (w:WF S) (h:CoreIn S a c O) (ok:Hok c.h):Does prog aW aX 14 [.ptr a 0 0 0] S (fun u S'=>Ext S S'∧∃ lv',u=.agg (aV c.h lv')∧Own S S' 3 lv' (c.h.log.map bM)):=by
 obtain ⟨S1,hn1,x1,hg1,hnx1⟩:=nb w 7 zH
 have w1:=x1.wf w
 have hll:=ok.ll
 obtain ⟨lv,wv,dv,ov,rows,h1,hO⟩:=h.ext w x1
 refine e14 ?_
 simp only [m14,hn1,aF,aI,dV,aG,Nat.reduceAdd,mE,h1.r_hard]
 refine Does.call (g35 c.h lv S1 w1 h1.log.sl (by omega)) fun u S2 ⟨x2,lv',e,o2⟩=>?_
 subst e
 have x02:=x1.trans x2
 have g2:=x2.old _ _ hg1
 have ho3:=o2.sl
 obtain ⟨e5,e6⟩:=aA4 g2 rfl (show (aV c.h lv').length=7 from rfl) (dG c.h ho3.one)
 have hlt:S.next<S2.next:=x2.wf w1 _ _ g2
 have x3:Ext S (⟨S2.next,S2.heap.put S.next (.row 0 7 [aV c.h lv'])⟩:St):=x02.set (Nat.le_refl _) hlt w _
 have o3:Own S (⟨S2.next,S2.heap.put S.next (.row 0 7 [aV c.h lv'])⟩:St) 3 lv' (c.h.log.map bM):=
  (o2.weaken x1.next).but (fun y c hy hc=>by show (S2.heap.put _ _).get y=_;rw [Tr.get_put_neB _ _ _ _ trivial hy];exact hc) (Nat.le_refl _) g2 (by decide)
 simp only [aLr,e5,aF,e6]
 exact Ok.ret ⟨x3,lv',rfl,o3⟩
def uJ (v:View):List V:=[.int .i64 v.role,.int .i64 v.leads,.int .i64 v.commit,.int .i64 v.last,.int .i64 v.left,.int .i64 v.members]
theorem aAl (x1 x2 x3 x4 x5 x6:Int):bQ prog 50 [(0,.int .i64 x1),(1,.int .i64 x2),(2,.int .i64 x3),(3,.int .i64 x4),(4,.int .i64 x5),(5,.int .i64 x6)]=.ok (.agg (uJ ⟨x1,x2,x3,x4,x5,x6⟩)):=by rw [aZq];rfl
theorem g17 (w:WF S) (h:CoreIn S a c O) (ok:Hok c.h):mG 17 [.ptr a 0 0 0] S (.agg (uJ c.view)):=by
 obtain ⟨S1,hn1,x1,hg1,hnx1⟩:=nb w 6 [.int .i64 0,.int .i64 0,.int .i64 0,.int .i64 0,.int .i64 0,.int .i64 0]
 have w1:=x1.wf w
 have xb:Ext S1 (⟨S1.next+22,S1.heap⟩:St):=(Ext.refl S1).bump 22
 have in1:=h.ext w (x1.trans xb)
 have hin1:=in1
 obtain ⟨lv,wv,dv,ov,rows,h1,hO⟩:=h.ext w x1
 refine e17 ?_
 simp only [m17,hn1,aF,aI,hJ,sU,jC,oK,aG,Nat.reduceAdd,cR,aL,h1.r_role,h1.r_leads,h1.r_sure,h1.r_left]
 refine (g46 hin1 ok).call fun S2 x2=>?_
 have x12:=xb.trans x2
 have w2:=x12.wf w1
 have h2:=h1.ext w1 x12
 simp only [h2.r_role,h2.r_leads,h2.r_sure,h2.r_left,aF,bO,aJ]
 refine (g47 w2 (h.ext w (x1.trans x12)) ok).call fun S3 x3=>?_
 have x13:=x12.trans x3
 have h3:=h1.ext w1 x13
 have g3:=x13.old _ _ hg1
 have hv:(⟨c.role,c.leads,c.sure,c.last,c.left,c.members⟩:View)=c.view:=rfl
 obtain ⟨e5,e6⟩:=aA4 g3 rfl (show (uJ c.view).length=6 from rfl) rfl
 have hlt:S.next<S3.next:=x13.wf w1 _ _ g3
 have x4:Ext S (⟨S3.next,S3.heap.put S.next (.row 0 6 [uJ c.view])⟩:St):=(x1.trans x13).set (Nat.le_refl _) hlt w _
 simp only [h3.r_role,h3.r_leads,h3.r_sure,h3.r_left,aF,bO,aJ,aAl,hv,bA1,e5,aZx,e6]
 exact Ok.ret ⟨rfl,x4⟩
end
end
section
variable [Guard]
def aKl (l:List Peer) (i:Nat):List Peer⊕List Peer:=.inr (l.set i { l.getD i ⟨0,0,0⟩ with off:=0 })
theorem bAs {l:List Peer} (h:l.length=7):fF aKl id (List.range 7) l=l.map fun p=>{ p with off:=0 }:=by
 obtain ⟨p0,p1,p2,p3,p4,p5,p6,rfl⟩:=kF h
 rfl
theorem aO4 {u:V} (hu:u=.nils∨(∃ a,u=.imm a)∨∃ a b d e f,u=.sl a b d e f) (t v i at' m:Int) (s:List UInt8) (l:List Entry):dX zH [(0,1),(1,1),(2,1),(3,1),(4,1),(5,1),(6,1)] [(0,.int .i64 t),(1,.int .i64 v),(2,.int .i64 i),(3,.int .i64 at'),(4,.int .i64 m),(5,.str s),(6,u)]=
  .ok (.agg (aV ⟨t,v,i,at',m,s,l⟩ u)):=by
 rcases hu with rfl | ⟨a,rfl⟩ | ⟨a,b,d,e,f,rfl⟩<;>rfl
section
variable {S:St} {a b:Nat} {c:Core} {O:Nat→Prop}
theorem g22 (index:Int) (snap:List UInt8) (w:WF S) (h:CoreIn S a c O) (I:Inv c):
  Meth 22 [.ptr a 0 0 0,.int .i64 index,.str snap] a (c.compact index snap).1 S O (.int .i64 (c.compact index snap).2):=by
 have ok:=I.h
 have hr:=cZ ok
 have hb0:=ok.b0
 have hll:=ok.ll
 have hs1:=I.s1
 have hin:=h
 obtain ⟨lv,wv,dv,ov,rows,h,hO⟩:=h
 have no:(index≤c.h.base∨c.sure<index∨snap=[]∨65536<snap.length)→c.compact index snap=(c,1):=fun hq=>by unfold Core.compact;rw [if_pos hq]
 have noS:c.compact index snap=(c,1)→Ok (fun k K=>K (.int .i64 1) S) (fun u S'=>u=.int .i64 (c.compact index snap).2∧∃ O',CoreIn S' a (c.compact index snap).1 O'∧Mv O S O' S'):=fun e=>by
  rw [e];exact Ok.ret ⟨rfl,O,hin,Mv.refl O S⟩
 refine e22 ?_
 simp only [m22,aI,dV,jC,dM,aG,Nat.reduceAdd,aF,cR,h.r_base,h.r_sure,dH,bX,gN,aJ,mP,nO,kG]
 refine Ok.pickP (fun e=>noS (no (.inl e))) (fun e=>?_)
 refine Ok.pickP (fun e2=>noS (no (.inr (.inl e2)))) (fun e2=>?_)
 refine Ok.pickP (fun e3=>noS (no (.inr (.inr (.inl e3))))) (fun e3=>?_)
 refine Ok.pickP (fun e4=>noS (no (.inr (.inr (.inr (Int.ofNat_lt.1 e4)))))) (fun e4=>?_)
 have hn:¬ (index≤c.h.base∨c.sure<index∨snap=[]∨65536<snap.length):=fun q=>by
  rcases q with q | q | q | q
  ·exact e q
  ·exact e2 q
  ·exact e3 q
  ·exact e4 (Int.ofNat_lt.2 q)
 have hC:c.compact index snap=({ c with h:={ c.h with base:=index,baseTerm:=c.term index,members:=(eP { c.h with log:=c.h.log.take (index - c.h.base).toNat }).1,snap:=snap,log:=c.h.log.drop (index - c.h.base).toNat },peers:=c.peers.map fun p=>{ p with off:=0 } },0):=by
  unfold Core.compact;rw [if_neg hn]
 rw [hC]
 have hlast:c.last=c.h.base+c.h.log.length:=rfl
 have hk0:0≤index - c.h.base:=by omega
 have hk1:index - c.h.base≤((c.h.log.map bM).length:Int):=by rw [List.length_map];omega
 have hw:wr .i64 (index - c.h.base)=index - c.h.base:=cS (by omega) (by omega)
 simp only [cE,hw]
 refine (g62 hin ok (n:=index) (by omega) (by omega)).call fun S1 x1=>?_
 have w1:=x1.wf w
 have h1:=h.ext w x1
 obtain ⟨S2,S3,q2,q3,x3,hg3,hn3⟩:=vb w1 7 zH (.agg (aV c.h lv)) rfl rfl (dG c.h h1.log.sl.one)
 rw [bH] at hg3
 have x03:=x1.trans x3
 have w3:=x3.wf w1
 have h3:=h.ext w x03
 have v6:aR none (.ptr S1.next 0 0 (0+6)) S3=.ok lv:=by rw [bB _ _ _ _ _ (bC hg3)];rfl
 obtain ⟨u1,r1,s1,_⟩:=oP aBl h3.log.sl (lI .i64 hk0 hk1) (Nat.zero_le _) (by rw [List.length_map];omega)
 have s1':Sl S3 3 u1 ((c.h.log.take (index - c.h.base).toNat).map bM):=by rw [List.drop_zero] at s1;rw [List.map_take];exact s1
 have e5:=dD (S:=S3) (x:=u1) (j:=0+6) (m:=1) hg3 (by rw [dT s1'];rfl) (by rw [dT s1'];simp [aU,s1'.one]) (by show 0+6+1≤7;omega)
 have c5:splice (aV c.h lv) (0+6) u1.cells=aV { c.h with log:=c.h.log.take (index - c.h.base).toNat } u1:=by rw [dT s1'];rfl
 rw [c5] at e5
 have hlt3:S1.next<S3.next:=w3 _ _ hg3
 have x4:Ext S (⟨S3.next,S3.heap.put S1.next (.row 0 7 [aV { c.h with log:=c.h.log.take (index - c.h.base).toNat } u1])⟩:St):=x03.set x1.next hlt3 w _
 have va:aR (some 7) (.ptr S1.next 0 0 0) (⟨S3.next,S3.heap.put S1.next (.row 0 7 [aV { c.h with log:=c.h.log.take (index - c.h.base).toNat } u1])⟩:St)=.ok (.agg (aV { c.h with log:=c.h.log.take (index - c.h.base).toNat } u1)):=by
  rw [uC];exact cM _ _ rfl
 have s4:Sl (⟨S3.next,S3.heap.put S1.next (.row 0 7 [aV { c.h with log:=c.h.log.take (index - c.h.base).toNat } u1])⟩:St) 3 u1 ((c.h.log.take (index - c.h.base).toNat).map bM):=
  s1'.but (fun y c hy hc=>by show (S3.heap.put _ _).get y=_;rw [Tr.get_put_neB _ _ _ _ trivial hy];exact hc) hg3 (by decide)
 generalize (⟨S3.next,S3.heap.put S1.next (.row 0 7 [aV { c.h with log:=c.h.log.take (index - c.h.base).toNat } u1])⟩:St)=S4 at e5 x4 va s4
 have w4:=x4.wf w
 simp only [aI,dV,cO,aG,aF,mE,eC,h1.r_hard,q2,aLr,q3,v6,r1,sV,e5,va]
 have hr1:=h1.r_hard
 refine (g49 { c.h with log:=c.h.log.take (index - c.h.base).toNat } u1 S4 w4 s4 (by show (c.h.log.take _).length≤1000000;rw [List.length_take];omega) ok.b0 ok.b1).call fun S5 x5=>?_
 have x05:=x4.trans x5
 have w5:=x05.wf w
 have h5:=h.ext w x05
 have xc:Ext S5 (⟨S5.next+27,S5.heap⟩:St):=(Ext.refl S5).bump 27
 have hfree:(⟨S5.next+27,S5.heap⟩:St).heap.get (S5.next+22)=none:=jE w5 27 (S5.next+22) (by omega)
 obtain ⟨u2,r6,s6,_⟩:=oP aBl h5.log.sl (lH .i64 hk0 hk1) (by rw [List.length_map];omega) (Nat.le_refl _)
 rw [List.take_length,←List.map_drop] at s6
 have hdl:(c.h.log.drop (index - c.h.base).toNat).length≤200:=by rw [List.length_drop];omega
 obtain ⟨lv6,S6,r7,x6,o6,_⟩:=(s6.ext xc).copyAt2 (b:=32) xc (k:=S5.next+22) (by omega) (by show S5.next+22<S5.next+27;omega) hfree (by rw [List.length_map];omega) (by rw [List.length_map];unfold fU;omega)
 have x06:=x05.trans (xc.trans x6)
 have w6:=x06.wf w
 have h6:=h.ext w x06
 obtain ⟨S7,q7,h7,m7,_⟩:=h6.w_hardN w6 h w rfl (lv':=lv6) ⟨c.h.term,c.h.vote,index,c.term index,(eP { c.h with log:=c.h.log.take (index - c.h.base).toNat }).1,snap,c.h.log.drop (index - c.h.base).toNat⟩ (o6.weaken (Nat.zero_le _)) (fun y hy=>Nat.le_trans x05.next (jD o6 hy).1)
 have mv7:Mv O S (own a lv6 wv dv ov) S7:=by rw [hO];exact MvB.mv w ((MvB.of (Mv.of x06) (Nat.le_refl _)).trans m7)
 have w7:=mv7.wf w
 simp only [eH,List.getElem?_cons_zero,List.getElem?_cons_succ,iP,aI,dV,eO,kM,cO,aG,Nat.reduceAdd,aF,cR,eC,aL,h5.r_term,h5.r_vote,h5.r_log,r6,kR,r7,h6.r_vote,h6.r_term,bO,aJ,aVz,aO4 (Sl.isv o6.sl) _ _ _ _ _ _ (c.h.log.drop (index - c.h.base).toNat),aLr,q7]
 refine Ok.loopL (F:=fun k K=>aE0 (aE prog aW aX k) k K (.ptr a 0 0 0)) (ρ:=List Peer) (α:=Nat) (X:=List Peer) (List.range 7) (step:=aKl) (fin:=id) (s:=c.peers)
  (out:=fun k K _ S'=>K (.int .i64 0) S')
  (fun i l vs S'=>vs=[.int .i64 (i:Int)]∧WF S'∧∃ O',CoreIn S' a { c with h:=⟨c.h.term,c.h.vote,index,c.term index,(eP { c.h with log:=c.h.log.take (index - c.h.base).toNat }).1,snap,c.h.log.drop (index - c.h.base).toNat⟩,peers:=l } O'∧Mv O S O' S')
  (fun l x S'=>∃ O',CoreIn S' a { c with h:=⟨c.h.term,c.h.vote,index,c.term index,(eP { c.h with log:=c.h.log.take (index - c.h.base).toNat }).1,snap,c.h.log.drop (index - c.h.base).toNat⟩,peers:=l } O'∧Mv O S O' S') ?_ ?_ ⟨rfl,w7,_,⟨_,_,_,_,_,h7,rfl⟩,mv7⟩ (fun l S9 ⟨O9,in9,m9⟩=>?_)
 ·rintro i i' l vs S8 ⟨rfl,w8,O8,in8,m8⟩ hi
  obtain ⟨hil,hj⟩:=List.getElem?_eq_some_iff.1 hi
  rw [List.length_range] at hil
  rw [List.getElem_range] at hj
  subst hj
  have hlt:(i:Int)<7:=Int.ofNat_lt.2 hil
  have hwi:=cP hil (by decide)
  obtain ⟨lv8,wv8,dv8,ov8,rows8,h8,hO8⟩:=in8
  obtain ⟨S9,q9,h9,m9,_⟩:=h8.w_off w8 hil 0
  rw [←hO8] at m9
  simp only [aE0,aY,aZ,aF,hlt,decide_true,bA,aI,pY,aAf,eK hil,aIo,aG,Nat.reduceAdd,mD,q9,bK,hwi]
  exact OkL.next ⟨_,rfl,rfl,m9.wf w8,O8,⟨_,_,_,_,_,h9,hO8⟩,m8.trans w m9⟩
 ·rintro l vs S8 ⟨rfl,w8,O8,in8,m8⟩
  have hlt:¬ (((List.range 7).length:Nat):Int)<7:=by rw [List.length_range];decide
  refine ⟨l,⟨O8,in8,m8⟩,fun k K bD=>?_⟩
  simp only [aE0,aY,aZ,aF,hlt,decide_false,aK]
 ·rw [bAs I.pl] at in9
  exact Ok.ret ⟨rfl,O9,in9,m9⟩
end
end
section
variable [Guard]
theorem aAm:qU aW:=aF4 _ _ _
theorem aQ7 {u:V} (hu:u=.nils∨(∃ a,u=.imm a)∨∃ a b d e f,u=.sl a b d e f) (id base wt:Int) (h:Hard):bQ prog 88 [(0,.int .i64 id),(1,.agg (aV h u)),(2,.int .i64 1),(3,.int .i64 (-1)),(4,.int .i64 base),(5,.int .i64 wt),(6,.int .i64 wt)]=
  .ok (.agg (bW ⟨id,h,1,-1,base,wt,wt,0,List.replicate 7 ⟨0,0,0⟩,none,[]⟩ u .nilp .nils)):=by
 rw [aZr]
 rcases hu with rfl | ⟨a,rfl⟩ | ⟨a,b,d,e,f,rfl⟩<;>rfl
theorem aJ3 (c:Core) {lv wv ov:V} (h1:lv.one=true) (h2:wv.one=true) (h3:ov.one=true) (hp:c.peers.length=7):aU (bW c lv wv ov)=true:=by
 obtain ⟨p0,p1,p2,p3,p4,p5,p6,e⟩:=kF hp
 simp only [bW,aV,e,aU,List.map_cons,List.map_nil,List.flatten_cons,List.flatten_nil,jT,List.cons_append,List.nil_append,List.all_cons,List.all_nil,h1,h2,h3,Bool.and_true]
 rfl
theorem g11 (id cH:Int) (h:Hard) (lv:V) (S:St) (w:WF S) (hgn:Guard.n≤S.next) (hs:Sl S 3 lv (h.log.map bM)) (hl:h.log.length≤1000000):
  Does prog aW aX 11 [.int .i64 id,.agg (aV h lv),.int .i64 cH] S (fun u S'=>Ext S S'∧match oM id h cH with
   | none=>u=.tup [.nilp,.int .i64 1]
   | some c=>∃ a O,u=.tup [.ptr a 0 0 0,.int .i64 0]∧CoreIn S' a c O∧∀ y,O y→S.next≤y):=by
 have ho:=dG h hs.one
 have hln:(aV h lv).length=7:=rfl
 obtain ⟨S1,hn1,x1,hg1,hnx1⟩:=nb w 7 (aV h lv)
 have w1:=x1.wf w
 have va:∀ {T:St},T.heap.get S.next=some (.row 0 7 [aV h lv])→aR (some 7) (.ptr S.next 0 0 0) T=.ok (.agg (aV h lv)):=fun hg=>by rw [bB _ _ _ _ _ (bC hg)];exact cM _ _ hln
 have v2:∀ {T:St},T.heap.get S.next=some (.row 0 7 [aV h lv])→aR none (.ptr S.next 0 0 2) T=.ok (.int .i64 h.base):=fun hg=>by rw [bB _ _ _ _ _ (bC hg)];rfl
 have no:(id<0∨7≤id∨fQ h=false)→oM id h cH=none:=fun q=>by unfold oM;rw [if_pos q]
 refine e11 ?_
 simp only [m11,bH,ho,hln,aJ,hn1,aF,aZ,dA,mE,va hg1]
 refine Ok.pickP (fun e=>Ok.ret ⟨x1,by rw [no (.inl e)]⟩) (fun e=>?_)
 refine Ok.pickP (fun e2=>Ok.ret ⟨x1,by rw [no (.inr (.inl e2))]⟩) (fun e2=>?_)
 refine (g33 h lv S1 w1 (hs.ext x1) hl).call fun S2 x2=>?_
 have x02:=x1.trans x2
 have w2:=x2.wf w1
 simp only [dS,aF]
 refine Ok.pick (fun e3=>Ok.ret ⟨x02,by rw [no (.inr (.inr (by simpa using e3)))]⟩) (fun e3=>?_)
 have hy:¬ (id<0∨7≤id∨fQ h=false):=fun q=>by
  rcases q with q | q | q
  ·exact e q
  ·exact e2 q
  ·rw [q] at e3;cases e3
 have hN:oM id h cH=some ⟨id,h,1,-1,h.base,cV cH,cV cH,0,List.replicate 7 ⟨0,0,0⟩,none,[]⟩:=by unfold oM;rw [if_neg hy]
 refine (g34 cH S2).call fun S3 x3=>?_
 have x03:=x02.trans x3
 have w3:=x3.wf w2
 have g3:=x3.old _ _ (x2.old _ _ hg1)
 have xb:Ext S3 (⟨S3.next+11,S3.heap⟩:St):=(Ext.refl S3).bump 11
 have wb:=xb.wf w3
 simp only [dM,aG,Nat.reduceAdd,aF,cR,aL,va g3,v2 g3]
 refine Does.call (Does.dead aAm (g35 h lv (⟨S3.next+11,S3.heap⟩:St) wb ((hs.ext x03).ext xb) hl)) fun u S4 ⟨⟨x4,lv',e4,o4⟩,d4⟩=>?_
 subst e4
 have x34:=xb.trans x4
 have w4:=x34.wf w3
 have g4:=x34.old _ _ g3
 obtain ⟨f1,f2⟩:=aCo w3 (n:=11) d4 (k:=S3.next+8) (by omega) (by omega)
 have ho4:=o4.sl
 have hcl:(bW ⟨id,h,1,-1,h.base,cV cH,cV cH,0,List.replicate 7 ⟨0,0,0⟩,none,[]⟩ lv' .nilp .nils).length=37:=eB _ _ _ _ rfl
 have hco:aU (bW ⟨id,h,1,-1,h.base,cV cH,cV cH,0,List.replicate 7 ⟨0,0,0⟩,none,[]⟩ lv' .nilp .nils)=true:=aJ3 _ ho4.one rfl rfl rfl
 have x5:Ext S4 (⟨S4.next,S4.heap.put (S3.next+8) (.row 0 37 [bW ⟨id,h,1,-1,h.base,cV cH,cV cH,0,List.replicate 7 ⟨0,0,0⟩,none,[]⟩ lv' .nilp .nils])⟩:St):=Ext.newAt f1 f2 _
 have hx:=x03.next
 simp only [v2 g4,aF,bO,aJ,aQ7 (Sl.isv ho4),bH,hcl,hco,gM]
 refine Ok.ret ⟨(x03.trans x34).trans x5,?_⟩
 rw [hN]
 refine ⟨S3.next+8,own (S3.next+8) lv' .nilp .nils .nils,rfl,⟨lv',.nilp,.nils,.nils,[],⟨Tr.get_put_sameB _ _ _ trivial,rfl,(o4.ext x5).weaken (Nat.zero_le _),⟨rfl,rfl⟩,Own.nil _ _ _,.nil,Gd.nil (Nat.le_trans hgn ((x03.trans x34).trans x5).next)⟩,rfl⟩,fun y hy=>?_⟩
 rcases hy with hy | hy | hy | hy | hy
 ·omega
 ·have:=(jD o4 hy).1
  have h9:S3.next+11≤y:=this
  omega
 ·cases hy
 ·cases hy
 ·cases hy
end
section
section
variable [Guard]
theorem g63 (x:Entry) (b t:Int) (S:St) (w:WF S):mG 63 [.agg (bM x),.int .i64 b,.int .i64 t] S (.bool (nM x b t)):=by
 have ho:aU (bM x)=true:=rfl
 have hln:(bM x).length=3:=rfl
 obtain ⟨S1,hn1,x1,hg1,hnx1⟩:=nb w 3 (bM x)
 have v0:aR none (.ptr S.next 0 0 0) S1=.ok (.int .i64 x.term):=by rw [bB _ _ _ _ _ (bC hg1)];rfl
 have v1:aR none (.ptr S.next 0 0 1) S1=.ok (.int .i64 x.members):=by rw [bB _ _ _ _ _ (bC hg1)];rfl
 have v2:aR none (.ptr S.next 0 0 2) S1=.ok (.str x.data):=by rw [bB _ _ _ _ _ (bC hg1)];rfl
 refine e63 ?_
 simp only [m63,bH,ho,hln,aJ,hn1,aF,jQ,aEy,aEz,aG,Nat.reduceAdd,cR,uE,v0,v1,v2,kG,aZ,dA,dH,aS,gN,bR,mP,nO]
 unfold nM
 refine Ok.pickP (fun c1=>?_) (fun c=>Ok.ret ⟨by rw [decide_eq_false c];rfl,x1⟩)
 rw [decide_eq_true c1]
 refine Ok.pickP (fun c2=>?_) (fun c=>Ok.ret ⟨by rw [decide_eq_false c];rfl,x1⟩)
 rw [decide_eq_true c2]
 refine Ok.pickP (fun c3=>?_) (fun c=>Ok.ret ⟨by rw [decide_eq_false c];rfl,x1⟩)
 rw [decide_eq_true c3]
 refine Ok.pickP (fun c4=>?_) (fun c=>Ok.ret ⟨by rw [decide_eq_false c];rfl,x1⟩)
 rw [decide_eq_true c4]
 refine Ok.pickP (fun c5=>?_) (fun c=>Ok.ret ⟨by rw [decide_eq_false (by omega:¬ x.members≤127)];rfl,x1⟩)
 rw [decide_eq_true (by omega:x.members≤127)]
 refine Ok.pickP (fun c6=>?_) (fun c=>Ok.ret ⟨by rw [decide_eq_false (by omega:¬ x.data.length≤1100)];rfl,x1⟩)
 rw [decide_eq_true (by omega:x.data.length≤1100)]
 refine Ok.pickP (fun c=>Ok.ret ⟨by rw [decide_eq_true c];rfl,x1⟩) (fun c=>Ok.ret ⟨by rw [decide_eq_false c];rfl,x1⟩)
def aJ4 (h:Hard):Prop:=kT h∧(h.snap=[]↔h.base=0)∧h.snap.length≤65536
theorem aO5 {h:Hard} (q:¬ aJ4 h):fQ h=false:=by
 cases e:fQ h with
 | false=>rfl
 | true=>
  have k:=(lX h).1 e
  exact absurd ⟨⟨k.t0,k.t1,k.v0,k.v1,k.m0,k.m1,k.b0,k.b1,k.bt0,k.bt1,k.btz,k.ll,k.li⟩,k.sz,k.sl⟩ q
theorem aCu {h:Hard} (q:aJ4 h):fQ h=fY h.term h.log h.baseTerm:=by
 unfold fQ
 rw [aGz q.1,decide_eq_true q.2.1,decide_eq_true q.2.2]
 simp
theorem g23 (h:Hard) (lv:V) (S:St) (w:WF S) (hs:Sl S 3 lv (h.log.map bM)) (hlen:h.log.length≤1000000):mG 23 [.agg (aV h lv)] S (.bool (fQ h)):=by
 refine e23 ?_
 have ho:=dG h hs.one
 have hln:(aV h lv).length=7:=rfl
 obtain ⟨S1,hn1,x1,hg1,hnx1⟩:=nb w 7 (aV h lv)
 have w1:=x1.wf w
 have hs1:=hs.ext x1
 have v0:∀ {T:St},T.heap.get S.next=some (.row 0 7 [aV h lv])→aR none (.ptr S.next 0 0 0) T=.ok (.int .i64 h.term):=fun hg=>by rw [bB _ _ _ _ _ (bC hg)];rfl
 have v1:aR none (.ptr S.next 0 0 1) S1=.ok (.int .i64 h.vote):=by rw [bB _ _ _ _ _ (bC hg1)];rfl
 have v2:aR none (.ptr S.next 0 0 2) S1=.ok (.int .i64 h.base):=by rw [bB _ _ _ _ _ (bC hg1)];rfl
 have v3:aR none (.ptr S.next 0 0 3) S1=.ok (.int .i64 h.baseTerm):=by rw [bB _ _ _ _ _ (bC hg1)];rfl
 have v4:aR none (.ptr S.next 0 0 4) S1=.ok (.int .i64 h.members):=by rw [bB _ _ _ _ _ (bC hg1)];rfl
 have v5:aR none (.ptr S.next 0 0 5) S1=.ok (.str h.snap):=by rw [bB _ _ _ _ _ (bC hg1)];rfl
 have v6:∀ {T:St},T.heap.get S.next=some (.row 0 7 [aV h lv])→aR none (.ptr S.next 0 0 6) T=.ok lv:=fun hg=>by rw [bB _ _ _ _ _ (bC hg)];rfl
 have no:∀ (q:¬ aJ4 h),(V.bool false=V.bool (fQ h)):=fun q=>by rw [aO5 q]
 simp only [m23,bH,ho,hln,aJ,hn1,aF,eO,kM,dM,mX,mY,kN,cO,aG,Nat.reduceAdd,cR,uE,eC,v0 hg1,v1,v2,v3,v4,v5,v6 hg1,eA,kG,hs1.lenI,aZ,bX,dA,bR,cE,aS,eL,gN,mP,nO,jU]
 refine Ok.pickP (fun c=>Ok.ret ⟨no fun q=>by have:=q.1.1;omega,x1⟩) fun c1=>?_
 refine Ok.pickP (fun c=>Ok.ret ⟨no fun q=>by have:=q.1.2.1;omega,x1⟩) fun c2=>?_
 refine Ok.pickP (fun c=>Ok.ret ⟨no fun q=>by have:=q.1.2.2.1;omega,x1⟩) fun c3=>?_
 refine Ok.pickP (fun c=>Ok.ret ⟨no fun q=>by have:=q.1.2.2.2.1;omega,x1⟩) fun c4=>?_
 refine Ok.pickP (fun c=>Ok.ret ⟨no fun q=>by have:=q.1.2.2.2.2.2.2.1;omega,x1⟩) fun c5=>?_
 refine Ok.pickP (fun c=>Ok.ret ⟨no fun q=>by have:=q.1.2.2.2.2.2.2.2.1;omega,x1⟩) fun c6=>?_
 refine Ok.pickP (fun c=>Ok.ret ⟨no fun q=>by have:=q.1.2.2.2.2.2.2.2.2.1;omega,x1⟩) fun c7=>?_
 refine Ok.pickP (fun c=>Ok.ret ⟨no fun q=>by have:=q.1.2.2.2.2.2.2.2.2.2.1;omega,x1⟩) fun c8=>?_
 refine Ok.pick (fun c=>Ok.ret ⟨no fun q=>?_,x1⟩) fun c9=>?_
 ·have q11:=q.1.2.2.2.2.2.2.2.2.2.2.1
  by_cases e:h.base=0
  ·simp [q11.2 e,e] at c
  ·have e2:¬ h.baseTerm=0:=fun e2=>e (q11.1 e2)
   simp [e,e2] at c
 have q11:h.baseTerm=0↔h.base=0:=by
  by_cases e:h.base=0<;>by_cases e2:h.baseTerm=0<;>simp [e,e2] at c9 ⊢
 refine Ok.pickP (fun c=>Ok.ret ⟨no fun q=>by have:=q.1.2.2.2.2.1;omega,x1⟩) fun c10=>?_
 refine Ok.pickP (fun c=>Ok.ret ⟨no fun q=>by have:=q.1.2.2.2.2.2.1;omega,x1⟩) fun c11=>?_
 refine Ok.pick (fun c=>Ok.ret ⟨no fun q=>?_,x1⟩) fun c12=>?_
 ·have q12:=q.2.1
  by_cases e:h.base=0
  ·simp [q12.2 e,e] at c
  ·have e2:¬ h.snap=[]:=fun e2=>e (q12.1 e2)
   simp [e,e2] at c
 have q12:h.snap=[]↔h.base=0:=by
  by_cases e:h.base=0<;>by_cases e2:h.snap=[]<;>simp [e,e2] at c12 ⊢
 refine Ok.pickP (fun c=>Ok.ret ⟨no fun q=>by have:=q.2.2;omega,x1⟩) fun c13=>?_
 refine Ok.pickP (fun c=>Ok.ret ⟨no fun q=>by have:=q.1.2.2.2.2.2.2.2.2.2.2.2.1;omega,x1⟩) fun c14=>?_
 have hwb:wr .i64 (1099511627776 - h.log.length)=1099511627776 - h.log.length:=cS (by omega) (by omega)
 simp only [hwb]
 refine Ok.pickP (fun c=>Ok.ret ⟨no fun q=>by have:=q.1.2.2.2.2.2.2.2.2.2.2.2.2;omega,x1⟩) fun c15=>?_
 rw [aCu ⟨⟨by omega,by omega,by omega,by omega,by omega,by omega,by omega,by omega,by omega,by omega,q11,by omega,by omega⟩,q12,by omega⟩,←aQ3]
 refine Ok.loopL (F:=fun k K=>aE1 (aE prog aW aX k) k K (.ptr S.next 0 0 0)) (ρ:=Bool) (α:=Entry) (X:=Bool) h.log (step:=jJ h.term) (fin:=fun _=>true) (s:=h.baseTerm)
  (out:=fun k K x S'=>K (.bool x) S')
  (fun i b vs T=>vs=[.bool false,.int .i64 b,.int .i64 (i:Int)]∧Ext S1 T)
  (fun r x T=>r=x∧Ext S1 T) ?_ ?_ ⟨rfl,Ext.refl _⟩ (fun x T ⟨e,xt⟩=>Ok.ret ⟨by rw [e],x1.trans xt⟩)
 ·rintro i x b vs T ⟨rfl,xt⟩ hi
  have hil:i<h.log.length:=(List.getElem?_eq_some_iff.1 hi).1
  have hlt:(i:Int)<(h.log.length:Int):=Int.ofNat_lt.2 hil
  have hw:=cP hil hlen
  have gT:=xt.old _ _ hg1
  have hsT:=hs1.ext xt
  have xb:Ext T (⟨T.next+10,T.heap⟩:St):=(Ext.refl T).bump 10
  obtain ⟨p,hp,hat,_,_⟩:=hsT.elem hi
  have hat0:aR (some 3) p T=.ok (.agg (bM x)):=by rw [hat.load0];exact cM _ _ rfl
  simp only [aE1,aY,cO,eO,aG,Nat.reduceAdd,aF,eC,cR,aBh,aL,v6 gT,v0 gT,eA,hsT.lenI,aZ,hlt,decide_true,bA,oL,hp,hat0]
  refine (g63 x b h.term _ (xb.wf (xt.wf w1))).callL fun T2 x2=>?_
  have xT2:=xb.trans x2
  have gT2:=xT2.old _ _ gT
  obtain ⟨p',hp',hat',_,_⟩:=(hsT.ext xT2).elem hi
  have hat1:aR none (xA 0 p') T2=.ok (.int .i64 x.term):=by rw [hat'.load];rfl
  rw [hp] at hp'
  cases hp'
  simp only [dS,aF]
  refine OkL.pick (fun c=>OkL.stop false ⟨false,by unfold jJ;rw [if_neg (by simpa using c)],rfl,xt.trans xT2⟩ (by intros;rfl)) (fun c=>?_)
  simp only [cO,aG,Nat.reduceAdd,aF,eC,v6 gT2,oL,hp,jQ,hat'.advW,cR,hat1,bK,hw]
  exact OkL.next ⟨x.term,by unfold jJ;rw [if_pos (by simpa using c)],rfl,xt.trans xT2⟩
 ·rintro b vs T ⟨rfl,xt⟩
  have hlt:¬ (h.log.length:Int)<(h.log.length:Int):=Int.lt_irrefl _
  have gT:=xt.old _ _ hg1
  refine ⟨true,⟨rfl,xt⟩,fun k K bD=>?_⟩
  simp only [aE1,aY,cO,aG,Nat.reduceAdd,aF,eC,v6 gT,eA,(hs1.ext xt).lenI,aZ,hlt,decide_false,aK]
def vZ (n:Int) (x:Entry):Bool⊕Int:=if 9000<wr .i64 (n+x.data.length) then .inl false else .inr (wr .i64 (n+x.data.length))
theorem g9 (h:Hard) (lv:V) (S:St) (w:WF S) (hs:Sl S 3 lv (h.log.map bM)):Does prog aW aX 9 [.agg (aV h lv)] S (fun u S'=>Ext S S'∧((u=.bool true∧h.log.length≤40)∨u=.bool false)):=by
 refine e9 ?_
 have ho:=dG h hs.one
 have hln:(aV h lv).length=7:=rfl
 obtain ⟨S1,hn1,x1,hg1,hnx1⟩:=nb w 7 (aV h lv)
 have w1:=x1.wf w
 have hs1:=hs.ext x1
 have v5:aR none (.ptr S.next 0 0 5) S1=.ok (.str h.snap):=by rw [bB _ _ _ _ _ (bC hg1)];rfl
 have v6:∀ {T:St},T.heap.get S.next=some (.row 0 7 [aV h lv])→aR none (.ptr S.next 0 0 6) T=.ok lv:=fun hg=>by rw [bB _ _ _ _ _ (bC hg)];rfl
 simp only [m9,bH,ho,hln,aJ,hn1,aF,kN,cO,aG,Nat.reduceAdd,uE,eC,v5,v6 hg1,eA,kG,hs1.lenI,bX]
 refine Ok.pickP (fun c=>Ok.ret ⟨x1,.inr rfl⟩) fun c=>?_
 have hl:h.log.length≤40:=by omega
 refine Ok.loopL (F:=fun k K=>aK6 (aE prog aW aX k) k K (.ptr S.next 0 0 0)) (ρ:=Bool) (α:=Entry) (X:=Bool) h.log (step:=vZ) (fin:=fun n=>decide (n≤9000)) (s:=(h.snap.length:Int))
  (out:=fun k K x S'=>K (.bool x) S')
  (fun i n vs T=>vs=[.bool false,.int .i64 n,.int .i64 (i:Int)]∧T=S1)
  (fun r x T=>T=S1) ?_ ?_ ⟨rfl,rfl⟩ (fun x T e=>Ok.ret ⟨by rw [e];exact x1,by cases x;exact .inr rfl;exact .inl ⟨rfl,hl⟩⟩)
 ·rintro i x n vs T ⟨rfl,rfl⟩ hi
  have hil:i<h.log.length:=(List.getElem?_eq_some_iff.1 hi).1
  have hlt:(i:Int)<(h.log.length:Int):=Int.ofNat_lt.2 hil
  have hw:=cP hil (Nat.le_trans hl (by decide))
  obtain ⟨p,hp,hat,_,_⟩:=hs1.elem hi
  have hat2:aR none (xA 2 p) T=.ok (.str x.data):=by rw [hat.load];rfl
  simp only [aK6,aY,cO,aG,Nat.reduceAdd,aF,eC,uE,v6 hg1,eA,hs1.lenI,aZ,hlt,decide_true,bA,oL,hp,aEz,hat.advW,hat2,kG,bK,bX,hw]
  refine OkL.pickP (fun c=>OkL.stop false ⟨false,by unfold vZ;rw [if_pos c],rfl⟩ (by intros;rfl)) (fun c=>OkL.next ⟨_,by unfold vZ;rw [if_neg c],rfl,rfl⟩)
 ·rintro n vs T ⟨rfl,rfl⟩
  have hlt:¬ (h.log.length:Int)<(h.log.length:Int):=Int.lt_irrefl _
  refine ⟨decide (n≤9000),rfl,fun k K bD=>?_⟩
  simp only [aK6,aY,cO,aG,Nat.reduceAdd,aF,eC,v6 hg1,eA,hs1.lenI,aZ,dH,hlt,decide_false,aK]
end
structure Ask where
 kind:Int
 n:Int
 m:Letter
 ev:V
 data:List (List UInt8)
 dv:V
def nQ (q:Ask):List V:=[.int .i64 q.kind,.int .i64 q.n]++aO q.m q.ev++[q.dv]
structure AskOK (q:Ask):Prop where
 e:∀ S,Sl S 3 q.ev (q.m.entries.map bM)
 d:∀ S,Sl S 1 q.dv (q.data.map aAj)
 eb:bJ q.ev=none
 db:bJ q.dv=none
theorem aAn {q:Ask} (h:AskOK q):aU (nQ q)=true:=by
 have h1:=(h.e St.empty).one
 have h2:=(h.d St.empty).one
 simp only [nQ,aO,aU,List.cons_append,List.nil_append,List.all_cons,List.all_nil,h1,h2,Bool.and_true]
 rfl
section
variable {S:St} {a:Nat} {q:Ask} (h:S.heap.get a=some (.row 0 16 [nQ q]))
include h
theorem aJ5:aR none (.ptr a 0 0 14) S=.ok q.ev:=by rw [bB _ _ _ _ _ (bC h)];rfl
theorem aUr:aR none (.ptr a 0 0 13) S=.ok (.str q.m.data):=by rw [bB _ _ _ _ _ (bC h)];rfl
theorem aAo:aR none (.ptr a 0 0 15) S=.ok q.dv:=by rw [bB _ _ _ _ _ (bC h)];rfl
end
theorem g13 (q:Ask) (S:St) (w:WF S) (hq:AskOK q):Does prog aW aX 13 [.agg (nQ q)] S (fun u S'=>Ext S S'∧((u=.bool true∧q.m.entries.length≤20∧q.data.length≤130)∨u=.bool false)):=by
 haveI:Guard:=⟨0⟩
 refine e13 ?_
 have ho:=aAn hq
 have hln:(nQ q).length=16:=rfl
 obtain ⟨S1,hn1,x1,hg1,hnx1⟩:=nb w 16 (nQ q)
 have w1:=x1.wf w
 have he1:=hq.e S1
 have hd1:=hq.d S1
 simp only [m13,bH,ho,hln,aJ,hn1,aF,aEu,aEv,kY,eV,aG,Nat.reduceAdd,uE,eC,aPw,aJ5 hg1,aUr hg1,aAo hg1,eA,kS,kG,he1.lenI,hd1.lenI,bX]
 refine Ok.pickP (fun c=>Ok.ret ⟨x1,.inr rfl⟩) fun c=>?_
 refine Ok.pickP (fun c2=>Ok.ret ⟨x1,.inr rfl⟩) fun c2=>?_
 refine Ok.pickP (fun c3=>Ok.ret ⟨x1,.inr rfl⟩) fun c3=>?_
 have h20:q.m.entries.length≤20:=by omega
 have h130:q.data.length≤130:=by omega
 refine Ok.loopL (F:=fun k K=>aDw (aE prog aW aX k) k K (.ptr S.next 0 0 0)) (ρ:=Int) (α:=List UInt8) (X:=Int) q.data (step:=fun n d=>.inr (wr .i64 (n+d.length))) (fin:=id) (s:=0)
  (out:=fun k K n S'=>cQ k [.int .i64 n,.int .i64 0] S' (zJ (aE prog aW aX k) k K (.ptr S.next 0 0 0)))
  (fun i n vs T=>vs=[.int .i64 n,.int .i64 (i:Int)]∧T=S1)
  (fun r x T=>T=S1) ?_ ?_ ⟨rfl,rfl⟩ (fun n T e=>?_)
 ·rintro i d n vs T ⟨rfl,rfl⟩ hi
  have hil:i<q.data.length:=(List.getElem?_eq_some_iff.1 hi).1
  have hlt:(i:Int)<(q.data.length:Int):=Int.ofNat_lt.2 hil
  have hw:=cP hil (Nat.le_trans h130 (by decide))
  obtain ⟨p,hp,hat,_,_⟩:=hd1.elem hi
  have hat0:aR none p T=.ok (.str d):=by rw [hat.load0];rfl
  simp only [aDw,aY,aEv,aG,Nat.reduceAdd,aF,aPw,uE,aAo hg1,kS,hd1.lenI,aZ,hlt,decide_true,bA,aLq,hp,hat0,kG,bK,hw]
  exact OkL.next ⟨_,rfl,rfl,rfl⟩
 ·rintro n vs T ⟨rfl,rfl⟩
  have hlt:¬ (q.data.length:Int)<(q.data.length:Int):=Int.lt_irrefl _
  refine ⟨n,rfl,fun k K bD=>?_⟩
  simp only [aDw,aY,aEv,aG,Nat.reduceAdd,aF,aPw,aAo hg1,kS,hd1.lenI,aZ,hlt,decide_false,aK]
 ·subst e
  refine Ok.loopL (F:=fun k K=>zJ (aE prog aW aX k) k K (.ptr S.next 0 0 0)) (ρ:=Int) (α:=Entry) (X:=Int) q.m.entries (step:=fun n d=>.inr (wr .i64 (n+d.data.length))) (fin:=id) (s:=n)
   (out:=fun k K n S'=>K (.bool (decide (n<5000))) S')
   (fun i n vs T'=>vs=[.int .i64 n,.int .i64 (i:Int)]∧T'=T)
   (fun r x T'=>T'=T) ?_ ?_ ⟨rfl,rfl⟩ (fun n T' e=>Ok.ret ⟨by rw [e];exact x1,by cases decide (n<5000);exact .inr rfl;exact .inl ⟨rfl,h20,h130⟩⟩)
  ·rintro i d n vs T' ⟨rfl,rfl⟩ hi
   have hil:i<q.m.entries.length:=(List.getElem?_eq_some_iff.1 hi).1
   have hlt:(i:Int)<(q.m.entries.length:Int):=Int.ofNat_lt.2 hil
   have hw:=cP hil (Nat.le_trans h20 (by decide))
   obtain ⟨p,hp,hat,_,_⟩:=he1.elem hi
   have hat2:aR none (xA 2 p) T'=.ok (.str d.data):=by rw [hat.load];rfl
   simp only [zJ,aY,aEu,eV,aG,Nat.reduceAdd,aF,eC,uE,aJ5 hg1,eA,he1.lenI,aZ,hlt,decide_true,bA,oL,hp,aEz,hat.advW,hat2,kG,bK,hw]
   exact OkL.next ⟨_,rfl,rfl,rfl⟩
  ·rintro n vs T' ⟨rfl,rfl⟩
   have hlt:¬ (q.m.entries.length:Int)<(q.m.entries.length:Int):=Int.lt_irrefl _
   refine ⟨n,rfl,fun k K bD=>?_⟩
   simp only [zJ,aY,aEu,eV,aG,Nat.reduceAdd,aF,eC,aJ5 hg1,eA,he1.lenI,aZ,hlt,decide_false,aK]
end
end Go.Proofs.Ytbiidlmhadihlaa
end
section
namespace Go.Raft
open Go.AM
theorem aAp (c:Core) (f:Int):(c.send f).out.length=c.out.length+1:=by
 unfold Core.send;simp only;split<;>simp [Core.post]
theorem aAq (g:Core→Int→Core) (hg:∀ c f,(g c f).out.length=c.out.length+1):∀ (l:List Int) (c:Core),(l.foldl g c).out.length=c.out.length+l.length
 | [],c=>rfl
 | f::l,c=>by rw [List.foldl_cons,aAq g hg l,hg,List.length_cons];omega
theorem aAr (c:Core):c.others.length≤7:=Nat.le_trans (List.length_filter_le _ _) (List.length_filter_le _ _)
theorem aAs (c:Core):c.spread.out.length≤c.out.length+7:=by
 have h:=aAr c
 unfold Core.spread
 split
 ·rw [aAq _ aAp];omega
 ·omega
theorem uK (c:Core):c.look.out=c.out:=by
 unfold Core.look;simp only;split<;>rfl
theorem xR (c:Core):c.own.out.length≤c.out.length+7:=by
 unfold Core.own
 have h:=aAs (c.setPeer c.id { c.peer c.id with mtch:=c.last }).look
 rw [uK] at h
 exact h
theorem aH7 (c:Core):c.lead.out.length≤c.out.length+7:=by
 unfold Core.lead
 simp only
 split
 ·exact xR _
 ·exact xR _
theorem aLz (c:Core):c.stand.out.length≤c.out.length+7:=by
 unfold Core.stand
 simp only
 split
 ·exact aH7 _
 ·rw [aAq _ (fun d f=>by simp [Core.post])]
  have h:=aAr ({ c with h:={ c.h with term:=c.h.term+1,vote:=c.id },role:=2,leads:=-1,votes:=(2:Int) ^ c.id.toNat }:Core)
  exact Nat.add_le_add_left h _
theorem aO6 (c:Core) (d:Int):(c.tick d).out.length≤c.out.length+7:=by
 unfold Core.tick
 simp only
 split
 ·exact Nat.le_add_right _ _
 ·split
  ·exact aAs _
  ·split
   ·exact aLz _
   ·exact Nat.le_add_right _ _
theorem fM (c:Core) (m:Letter):(c.post m).out.length≤c.out.length+7:=by simp [Core.post]
theorem wA (c:Core) (f:Int):(c.send f).out.length≤c.out.length+7:=by rw [aAp];omega
theorem aO7 (c:Core) (m:Letter):(c.take m).out.length≤c.out.length+7:=by
 unfold Core.take
 split
 ·exact Nat.le_add_right _ _
 ·generalize hc:(if c.h.term<m.term then { c with h:={ c.h with term:=m.term,vote:=-1 },role:=1,leads:=-1 } else c:Core)=d
  have hd:d.out=c.out:=by rw [←hc];split<;>rfl
  rw [←hd]
  simp only
  split
  ·unfold Core.late;split
   ·exact fM _ _
   ·split
    ·exact fM _ _
    ·exact Nat.le_add_right _ _
  split
  ·unfold Core.asked;simp only;split
   ·exact fM _ _
   ·exact fM _ _
  split
  ·unfold Core.voted;split
   ·exact Nat.le_add_right _ _
   ·simp only;split
    ·exact aH7 _
    ·exact Nat.le_add_right _ _
  split
  ·unfold Core.appended;split
   ·exact Nat.le_add_right _ _
   ·split
    ·exact Nat.le_add_right _ _
    ·simp only;split
     ·exact fM _ _
     ·split
      ·exact fM _ _
      ·exact fM _ _
  split
  ·unfold Core.acked;split
   ·exact Nat.le_add_right _ _
   ·simp only;split
    ·exact wA _ _
    ·split
     ·exact Nat.le_add_right _ _
     ·have h1:(d.setPeer m.from' ⟨m.index+1,m.index,0⟩).look.out=d.out:=uK _
      split
      ·have h2:=wA (d.setPeer m.from' ⟨m.index+1,m.index,0⟩).look m.from'
       rw [h1] at h2;exact h2
      ·rw [h1];exact Nat.le_add_right _ _
  split
  ·unfold Core.installed;split
   ·exact Nat.le_add_right _ _
   ·simp only;split
    ·exact fM _ _
    ·have h1:(if m.off=0 then { d.hear m.from' with way:=some ⟨m.index,m.at',m.size,[]⟩ } else d.hear m.from':Core).out=d.out:=by split<;>rfl
     generalize (if m.off=0 then { d.hear m.from' with way:=some ⟨m.index,m.at',m.size,[]⟩ } else d.hear m.from':Core)=e at h1
     rw [←h1]
     split
     ·exact fM _ _
     ·split
      ·exact fM _ _
      ·split
       ·split
        ·exact fM _ _
        ·exact fM _ _
       ·split
        ·exact fM _ _
        ·exact fM _ _
  split
  ·unfold Core.more;simp only;split
   ·exact Nat.le_add_right _ _
   ·exact wA _ _
  ·exact Nat.le_add_right _ _
theorem aH8 (c:Core) (data:List (List UInt8)):(c.propose data).1.out.length≤c.out.length+7:=by
 unfold Core.propose
 split
 ·exact Nat.le_add_right _ _
 ·split
  ·exact Nat.le_add_right _ _
  ·exact xR _
theorem aJ6 (c:Core) (n:Int):(c.change n).1.out.length≤c.out.length+7:=by
 unfold Core.change
 simp only
 split
 ·exact Nat.le_add_right _ _
 ·exact xR _
theorem aH9 (c:Core) (n:Int) (s:List UInt8):(c.compact n s).1.out.length≤c.out.length+7:=by
 unfold Core.compact
 split
 ·exact Nat.le_add_right _ _
 ·exact Nat.le_add_right _ _
end Go.Raft
end
section
namespace Go.Proofs.Ytbiidlmhadihlaa
open Go.AM Go.Raft Try
section
variable [Guard]
theorem bAt:aW 10=some (.spec (Sp.told.run prog)):=by kernel_rfl
theorem g10 (S:St):Does prog aW aX 10 [] S (fun u S'=>u=.bool true∧S'=S):=Does.step bAt (v:=.bool true) (S':=S) rfl ⟨rfl,rfl⟩
theorem aCv (a b:Entry):aD prog .neq 59 (.agg (bM a)) (.agg (bM b))=.ok (.bool (!decide (a=b))):=by
 have h:=aZu a.term a.members a.data b.term b.members b.data
 simp only [aD,bM,h]
 congr 3
 obtain ⟨x,y,z⟩:=a
 obtain ⟨x',y',z'⟩:=b
 simp only [Entry.mk.injEq,aAb]
 by_cases h1:x=x'<;>by_cases h2:y=y'<;>by_cases h3:z=z'<;>simp [h1,h2,h3]
theorem aHa (a b:List V):aH prog 59 (.agg a) (.agg b)=true:=congrFun (congrFun aZv a) b
structure Seen (S:St) (c d:Core) (b1 b2 b3:Nat) (la lb:V):Prop where
 h1:S.heap.get b1=some (.row 0 7 [aV c.h la])
 h2:S.heap.get b2=some (.row 0 6 [uJ c.view])
 h3:S.heap.get b3=some (.row 0 7 [aV d.h lb])
 la:Sl S 3 la (c.h.log.map bM)
 lb:Sl S 3 lb (d.h.log.map bM)
theorem Seen.ext {S S':St} {c d:Core} {b1 b2 b3:Nat} {la lb:V} (h:Seen S c d b1 b2 b3 la lb) (x:Ext S S'):Seen S' c d b1 b2 b3 la lb:=
 ⟨x.old _ _ h.h1,x.old _ _ h.h2,x.old _ _ h.h3,h.la.ext x,h.lb.ext x⟩
section
variable {S:St} {a:Nat} {h:Hard} {lv:V} (g:S.heap.get a=some (.row 0 7 [aV h lv]))
include g
end
section
variable {S:St} {a:Nat} {v:View} (g:S.heap.get a=some (.row 0 6 [uJ v]))
include g
end
end
section
variable [Guard]
theorem aHb (a b c d:Nat):aD prog .eql 28 (.ptr a b c d) .nilp=.ok (.bool false):=by
 have h:(fun a b c d=>aD prog .eql 28 (.ptr a b c d) .nilp)=fun _ _ _ _=>.ok (.bool false):=by kernel_rfl
 exact congrFun (congrFun (congrFun (congrFun h a) b) c) d
theorem aO8:aD prog .eql 28 .nilp .nilp=.ok (.bool true):=by kernel_rfl
theorem aAt (a b c d:Nat):aH prog 28 (.ptr a b c d) .nilp=true:=by
 have h:(fun a b c d=>aH prog 28 (.ptr a b c d) .nilp)=fun _ _ _ _=>true:=by kernel_rfl
 exact congrFun (congrFun (congrFun (congrFun h a) b) c) d
theorem aHc:aH prog 28 .nilp .nilp=true:=by kernel_rfl
theorem aAu {S:St} {Q:V→St→Prop} (h:Q (.bool true) S):Ok (fun k K=>aE prog aW aX k 10 [] S fun t S'=>K t S') Q:=
 Does.call (g10 S) fun u S' ⟨e,e2⟩=>by subst e;subst e2;exact Ok.ret h
section
variable {S:St} {p:V} {q:Ask} (h:At S p (nQ q))
include h
theorem aKm:advW 0 p=.ok (xA 0 p)∧aR none (xA 0 p) S=.ok (.int .i64 q.kind):=⟨h.advW 0,by rw [h.load];rfl⟩
theorem aO9:advW 1 p=.ok (xA 1 p)∧aR none (xA 1 p) S=.ok (.int .i64 q.n):=⟨h.advW 1,by rw [h.load];rfl⟩
theorem aOa:aR (some 16) p S=.ok (.agg (nQ q)):=by rw [h.load0];exact cM _ _ rfl
end
end
end Go.Proofs.Ytbiidlmhadihlaa
end
section
namespace Go.AM
open Go.RowKit Go.ChangeShapes
section
def Gh.all (W:World):Gh:={ Gh.none with pr:=fun b=>W.heap[b]? }
theorem aQ8 (W:World):iI (fun i=>W.heap[i]?) (Gh.all W) St.empty W.heap:=
 ⟨fun _ _=>⟨rfl,rfl⟩,fun _ _ h=>(by cases h),fun a b h=>(by cases h),fun a a' b b' i h=>(by cases h),fun i o h=>h,fun i o h=>h,fun a b i h=>(by cases h),
  fun a i h=>(by rcases h with ⟨L,h,_⟩ | h<;>cases h),fun a b h=>(by cases h)⟩
theorem aHd {P:Program} {pl:fV} (hp:PlansOK P pl) {k:Nat} {f:FuncId} {args:List V} {S':St} (h:iF P pl k f args St.empty=.ok (.bool true,S')) (W:World) {cs:List Value} (hc:VRs (Gh.all W) args cs):
  Calls P f cs.toArray W fun e W'=>e=.returned (.bool true)∧Below W.heap.size W W':=by
 refine ((pJ hp k).calls h (aQ8 W) hc).mono ?_
 rintro e W' ⟨G',w,rfl,q1,q2⟩
 cases q2
 refine ⟨rfl,q1.same.os,q1.same.tape,q1.same.output,q1.same.size,fun i hi=>?_⟩
 have:=Array.getElem?_eq_getElem hi
 rw [this]
 exact q1.rel.fr i _ this
def bP (P:Program):Nat→TypeId→List V→Prop
 | 0,_,_=>False
 | n+1,t,xs=>match P.underlying t with
  | some .bool=>∃ b,xs=[.bool b]
  | some (.int k)=>∃ i,xs=[.int k i]∧(Lit.int k i).wf=true
  | some .string=>∃ s,xs=[.str s]∧s.length≤maxLen
  | some (.slice e)=>xs=[.nils]∨∃ es,xs=[.imm es]∧es.length≤maxLen∧∀ c,c∈es→c.length=P.cellsOf e∧bP P n e c
  | some (.struct fs)=>xs.length=P.cellsOf t∧∀ f,f∈fs.toList→bP P n f.type ((xs.drop f.offset).take (P.cellsOf f.type))
  | _=>False
def aKn (P:Program):List Field→Nat→Nat→Bool
 | [],o,e=>Nat.beq o e
 | f::l,o,e=>Nat.beq f.offset o&&aKn P l (o+P.cellsOf f.type) e
def qG (P:Program):Nat→TypeId→Bool
 | 0,_=>false
 | d+1,t=>match P.underlying t with
  | some .bool=>true
  | some (.int _)=>true
  | some .string=>true
  | some (.slice e)=>Nat.blt 0 (P.cellsOf e)&&qG P d e
  | some (.struct fs)=>aKn P fs.toList 0 (P.cellsOf t)&&fs.toList.all fun f=>qG P d f.type
  | _=>false
theorem aKo {α:Type} {Q:Nat→α→Prop}:∀ n,(∀ i,i<n→∃ a,Q i a)→∃ l:List α,l.length=n∧∀ i a,l[i]?=some a→Q i a
 | 0,_=>⟨[],rfl,fun i a h=>by simp at h⟩
 | n+1,h=>by
  obtain ⟨l,h1,h2⟩:=aKo n fun i hi=>h i (by omega)
  obtain ⟨a,ha⟩:=h n (by omega)
  refine ⟨l++[a],by simp [h1],fun i x hx=>?_⟩
  by_cases c:i<n
  ·rw [List.getElem?_append_left (by omega)] at hx;exact h2 i x hx
  ·have hi:i<(l++[a]).length:=(List.getElem?_eq_some_iff.1 hx).1
   simp only [List.length_append,List.length_cons,List.length_nil] at hi
   have:i=n:=by omega
   subst this
   rw [List.getElem?_append_right (by omega),h1,Nat.sub_self] at hx
   cases hx;exact ha
theorem VRss.of {G:Gh}:∀ {l:List (List V×List Value)},(∀ x,x∈l→VRs G x.1 x.2)→VRss G (l.map (·.1)) (l.map (·.2))
 | [],_=>.nil
 | x::l,h=>.cons _ _ _ _ (h x (List.mem_cons_self ..)) (VRss.of fun y hy=>h y (List.mem_cons_of_mem _ hy))
section
variable {H:Type} {enc:TypeId×Value→H} {P:Program} {W:World} {sp:Nat→Bool} {held:Bool}
theorem aRe {n:Nat} {cs:List Value} (ih:∀ (t:TypeId) (cs:List Value) (x:DataW H×List MemPlace) (d:Nat),qG P d t=true→DataW.trod enc P W 0 sp held n t cs=some x→∃ xs,VRs (Gh.all W) xs cs∧bP P n t xs) {d:Nat}:
  ∀ (l:List Field) (o e:Nat),aKn P l o e=true→e≤cs.length→(∀ f,f∈l→qG P d f.type=true∧∃ x,DataW.trod enc P W 0 sp held n f.type ((cs.drop f.offset).take (P.cellsOf f.type))=some x)→
   o≤e∧∃ xs,VRs (Gh.all W) xs ((cs.drop o).take (e - o))∧∀ f,f∈l→o≤f.offset∧bP P n f.type ((xs.drop (f.offset - o)).take (P.cellsOf f.type))
 | [],o,e,h,he,_=>by
  have:o=e:=Nat.eq_of_beq_eq_true h
  subst this
  exact ⟨Nat.le_refl _,[],by rw [Nat.sub_self];exact .nil,fun _ h=>by cases h⟩
 | f::l,o,e,h,he,hf=>by
  simp only [aKn,Bool.and_eq_true] at h
  have h0:f.offset=o:=Nat.eq_of_beq_eq_true h.1
  obtain ⟨hle,xs,hv,hs⟩:=aRe ih l (o+P.cellsOf f.type) e h.2 he (fun g hg=>hf g (List.mem_cons_of_mem _ hg))
  obtain ⟨hpl,x,hx⟩:=hf f (List.mem_cons_self ..)
  obtain ⟨ys,hy,hsy⟩:=ih _ _ _ d hpl hx
  rw [h0] at hy
  have hyl:ys.length=P.cellsOf f.type:=by rw [hy.length,List.length_take,List.length_drop];omega
  refine ⟨by omega,ys++xs,?_,fun g hg=>?_⟩
  ·have:(cs.drop o).take (e - o)=(cs.drop o).take (P.cellsOf f.type)++(cs.drop (o+P.cellsOf f.type)).take (e - (o+P.cellsOf f.type)):=by
    rw [←List.drop_drop,←List.take_add]
    congr 1
    omega
   rw [this]
   exact hy.append hv
  ·rcases List.mem_cons.1 hg with rfl | hg
   ·refine ⟨by omega,?_⟩
    rw [h0,Nat.sub_self,List.drop_zero,List.take_append_of_le_length (by omega),List.take_of_length_le (by omega)]
    exact hsy
   ·obtain ⟨h1,h2⟩:=hs g hg
    refine ⟨by omega,?_⟩
    rw [List.drop_append,List.drop_eq_nil_of_le (by omega),List.nil_append,hyl]
    have:g.offset - o - P.cellsOf f.type=g.offset - (o+P.cellsOf f.type):=by omega
    rw [this]
    exact h2
theorem wC {a:Addr} {n:Nat} {r:List Value} (h:W.cells? 0 a n=some r):r.length=n∧∀ k v,r[k]?=some v→W.cell? (a.add k)=some v:=by
 unfold World.cells? at h
 rw [if_pos (Nat.zero_le _)] at h
 have hl:=mapM_some_length h
 rw [List.length_range] at hl
 refine ⟨hl,fun k v hk=>?_⟩
 have hkn:k<n:=by have:=(List.getElem?_eq_some_iff.1 hk).1;omega
 have:=mapM_some_get h k k (by rw [List.getElem?_range hkn])
 rw [this,hk]
theorem aKp {a:Addr} {v:Value} (h:W.cell? a=some v):∃ c ty fr,W.heap[a.block]?=some (.cells c ty fr)∧a.spot=none∧c[a.off]?=some v:=by
 unfold World.cell? at h
 split at h
 ·rename_i c ty fr hc
  split at h
  ·cases h
  ·rename_i hs
   exact ⟨c,ty,fr,hc,by simpa using hs,h⟩
 ·cases h
theorem aCw (a:Addr) (n:Nat):(a.add n).block=a.block:=by
 unfold Addr.add
 split<;>rfl
theorem aKq (a:Addr) (n:Nat):(a.add n).off=a.off+n:=by
 unfold Addr.add
 split
 ·rename_i h;rw [h,Nat.add_zero]
 ·rfl
theorem aCx (a:Addr):a.add 0=a:=by unfold Addr.add;rw [if_pos rfl]
theorem aFa:∀ (n:Nat) (t:TypeId) (cs:List Value) (x:DataW H×List MemPlace) (d:Nat),qG P d t=true→DataW.trod enc P W 0 sp held n t cs=some x→∃ xs,VRs (Gh.all W) xs cs∧bP P n t xs
 | 0,t,cs,x,d,_,h=>by simp [DataW.trod] at h
 | n+1,t,cs,x,0,hp,h=>by cases hp
 | n+1,t,cs,x,d+1,hp,h=>by
  simp only [qG] at hp
  split at hp
  ·rename_i ht
   obtain ⟨b,rfl,_⟩:=DataW.trod_bool ht h
   exact ⟨[.bool b],.cons _ _ _ _ (.bool b) .nil,by simp only [bP,ht];exact ⟨b,rfl⟩⟩
  ·rename_i k ht
   obtain ⟨i,rfl,_,hw⟩:=DataW.trod_int ht h
   exact ⟨[.int k i],.cons _ _ _ _ (.int k i) .nil,by simp only [bP,ht];exact ⟨i,rfl,hw⟩⟩
  ·rename_i ht
   obtain ⟨s,rfl,_,hs⟩:=DataW.trod_string ht h
   refine ⟨[.str s.data.toList],.cons _ _ _ _ (.str s.data.toList) .nil,?_⟩
   simp only [bP,ht]
   exact ⟨_,rfl,hs⟩
  ·rename_i e ht
   simp only [Bool.and_eq_true,Nat.blt_eq] at hp
   rcases DataW.trod_slice ht h with ⟨rfl,_⟩ | ⟨a,len,cap,elems,rest,m,hm,rfl,_,_,hlc,hcap,hel,hget,_,_⟩
   ·exact ⟨[.nils],.cons _ _ _ _ .nils .nil,by simp only [bP,ht];exact .inl trivial⟩
   ·have hm:m=n:=by omega
    subst hm
    obtain ⟨l,hl,hq⟩:=aKo (Q:=fun i (y:List V×List Value)=>W.cells? 0 (a.add (i*P.cellsOf e)) (P.cellsOf e)=some y.2∧VRs (Gh.all W) y.1 y.2∧bP P m e y.1) len (fun i hi=>by
     have h1:=hget i hi
     rw [List.getElem?_eq_getElem (by omega:i<elems.length)] at h1
     rw [Option.bind_eq_some_iff] at h1
     obtain ⟨r,h2,h3⟩:=h1
     obtain ⟨c,h4,h5⟩:=aFa m e r _ d hp.2 h3
     exact ⟨(c,r),h2,h4,h5⟩)
    have hlen:∀ y,y∈l→y.1.length=P.cellsOf e∧y.2.length=P.cellsOf e:=fun y hy=>by
     obtain ⟨i,hi⟩:=List.mem_iff_getElem?.1 hy
     obtain ⟨h1,h2,_⟩:=hq i y hi
     have:=(wC h1).1
     exact ⟨by rw [h2.length];exact this,this⟩
    refine ⟨[.imm (l.map (·.1))],.cons _ _ _ _ (.imm _ a len cap (P.cellsOf e) (by rw [List.length_map,hl]) hlc (l.map (·.2)) (VRss.of fun y hy=>?_) (fun c hc=>?_) ?_) .nil,?_⟩
    ·obtain ⟨i,hi⟩:=List.mem_iff_getElem?.1 hy
     exact (hq i y hi).2.1
    ·obtain ⟨y,hy,rfl⟩:=List.mem_map.1 hc
     exact (hlen y hy).1
    ·by_cases h0:len=0
     ·exact .inl h0
     ·right
      obtain ⟨y0,hy0⟩:∃ y0,l[0]?=some y0:=⟨l[0]'(by omega),List.getElem?_eq_getElem (by omega)⟩
      obtain ⟨h1,_,_⟩:=hq 0 y0 hy0
      rw [Nat.zero_mul,aCx] at h1
      obtain ⟨hyl,hcell⟩:=wC h1
      obtain ⟨v0,hv0⟩:∃ v0,y0.2[0]?=some v0:=⟨y0.2[0]'(by omega),List.getElem?_eq_getElem (by omega)⟩
      have hc0:=hcell 0 v0 hv0
      rw [aCx] at hc0
      obtain ⟨c,ty,fr,hh,hs,_⟩:=aKp hc0
      refine ⟨c,ty,fr,hh,hs,fun i r hr k v hk=>?_⟩
      rw [List.getElem?_map] at hr
      obtain ⟨y,hy,rfl⟩:∃ y,l[i]?=some y∧y.2=r:=by
       cases hy:l[i]? with
       | none=>rw [hy] at hr;cases hr
       | some y=>rw [hy] at hr;exact ⟨y,rfl,Option.some.inj hr⟩
      obtain ⟨h2,_,_⟩:=hq i y hy
      obtain ⟨c',ty',fr',hh',_,hv⟩:=aKp ((wC h2).2 k v hk)
      rw [aCw,aCw,hh] at hh'
      rw [aKq,aKq] at hv
      cases hh'
      exact hv
    ·simp only [bP,ht]
     refine .inr ⟨_,rfl,by rw [List.length_map,hl];omega,fun c hc=>?_⟩
     obtain ⟨y,hy,rfl⟩:=List.mem_map.1 hc
     obtain ⟨i,hi⟩:=List.mem_iff_getElem?.1 hy
     exact ⟨(hlen y hy).1,(hq i y hi).2.2⟩
  ·rename_i fs ht
   simp only [Bool.and_eq_true,List.all_eq_true] at hp
   obtain ⟨xs,m,hm,_,hcl,hxl,hf⟩:=DataW.trod_struct ht h
   have hm:m=n:=by omega
   subst hm
   obtain ⟨_,ys,h1,h2⟩:=aRe (enc:=enc) (sp:=sp) (held:=held) (cs:=cs) (fun t cs x d=>aFa m t cs x d) fs.toList 0 (P.cellsOf t) hp.1 (Nat.le_of_eq hcl.symm) (fun f hfm=>by
    refine ⟨hp.2 f hfm,?_⟩
    obtain ⟨i,hi⟩:=List.mem_iff_getElem?.1 hfm
    have hi':fs[i]?=some f:=by simpa using hi
    rw [hf i f hi']
    have:i<xs.length:=by
     rw [hxl]
     by_cases c:i<fs.size
     ·exact c
     ·rw [Array.getElem?_eq_none (by omega)] at hi';cases hi'
    exact ⟨_,List.getElem?_eq_getElem this⟩)
   rw [Nat.sub_zero,List.drop_zero,List.take_of_length_le (by omega)] at h1
   refine ⟨ys,h1,?_⟩
   simp only [bP,ht]
   refine ⟨by rw [h1.length,hcl],fun f hfm=>?_⟩
   have:=(h2 f hfm).2
   rwa [Nat.sub_zero] at this
  ·cases hp
end
end
end Go.AM
end
section
namespace Go.Proofs.Ytbiidlmhadihlaa
open Go.AM Go.Raft Try
theorem aOb:WF St.empty:=fun a b h=>by cases h
theorem qY {P:Program} {n:Nat} {t:TypeId} {fs:Array Field} {xs:List V} (ht:P.underlying t=some (.struct fs)) (h:bP P n t xs):
  ∃ m,xs.length=P.cellsOf t∧∀ (i:Nat) (f:Field),fs[i]?=some f→bP P m f.type ((xs.drop f.offset).take (P.cellsOf f.type)):=by
 cases n with
 | zero=>exact h.elim
 | succ m=>
  simp only [bP,ht] at h
  exact ⟨m,h.1,fun i f hf=>h.2 f (by rw [←Array.getElem?_toList] at hf;exact List.mem_of_getElem? hf)⟩
theorem aAv {P:Program} {n:Nat} {t e:TypeId} {xs:List V} (ht:P.underlying t=some (.slice e)) (h:bP P n t xs):
  ∃ m,xs=[.nils]∨∃ es,xs=[.imm es]∧es.length≤maxLen∧∀ c,c∈es→c.length=P.cellsOf e∧bP P m e c:=by
 cases n with
 | zero=>exact h.elim
 | succ m=>
  simp only [bP,ht] at h
  exact ⟨m,h⟩
theorem c3:prog.cellsOf 3=1:=by kernel_rfl
theorem c4:prog.cellsOf 4=1:=by kernel_rfl
theorem c9:prog.cellsOf 9=1:=by kernel_rfl
theorem c22:prog.cellsOf 22=1:=by kernel_rfl
theorem c24:prog.cellsOf 24=7:=by kernel_rfl
theorem c37:prog.cellsOf 37=13:=by kernel_rfl
theorem c38:prog.cellsOf 38=1:=by kernel_rfl
theorem c40:prog.cellsOf 40=16:=by kernel_rfl
theorem c59:prog.cellsOf 59=3:=by kernel_rfl
theorem aWk {α:Type} {l:List α} (h:l.length=3):∃ a0 a1 a2,l=[a0,a1,a2]:=by
 match l,h with
 | [a0,a1,a2],_=>exact ⟨a0,a1,a2,rfl⟩
theorem aWl {α:Type} {l:List α} (h:l.length=7):∃ a0 a1 a2 a3 a4 a5 a6,l=[a0,a1,a2,a3,a4,a5,a6]:=by
 match l,h with
 | [a0,a1,a2,a3,a4,a5,a6],_=>exact ⟨a0,a1,a2,a3,a4,a5,a6,rfl⟩
theorem aUs {α:Type} {l:List α} (h:l.length=13):∃ a0 a1 a2 a3 a4 a5 a6 a7 a8 a9 a10 a11 a12,l=[a0,a1,a2,a3,a4,a5,a6,a7,a8,a9,a10,a11,a12]:=by
 match l,h with
 | [a0,a1,a2,a3,a4,a5,a6,a7,a8,a9,a10,a11,a12],_=>exact ⟨a0,a1,a2,a3,a4,a5,a6,a7,a8,a9,a10,a11,a12,rfl⟩
theorem aUt {α:Type} {l:List α} (h:l.length=16):∃ a0 a1 a2 a3 a4 a5 a6 a7 a8 a9 a10 a11 a12 a13 a14 a15,l=[a0,a1,a2,a3,a4,a5,a6,a7,a8,a9,a10,a11,a12,a13,a14,a15]:=by
 match l,h with
 | [a0,a1,a2,a3,a4,a5,a6,a7,a8,a9,a10,a11,a12,a13,a14,a15],_=>exact ⟨a0,a1,a2,a3,a4,a5,a6,a7,a8,a9,a10,a11,a12,a13,a14,a15,rfl⟩
theorem gH {n:Nat} {xs:List V} (h:bP prog n 3 xs):∃ i,xs=[.int .i64 i]:=by
 cases n with
 | zero=>exact h.elim
 | succ m=>
  simp only [bP,Try.underlying3] at h
  obtain ⟨i,h,_⟩:=h
  exact ⟨i,h⟩
theorem aQ9 {n:Nat} {xs:List V} (h:bP prog n 4 xs):∃ b,xs=[.bool b]:=by
 cases n with
 | zero=>exact h.elim
 | succ m=>
  simp only [bP,Try.underlying4] at h
  exact h
theorem aFb {n:Nat} {xs:List V} (h:bP prog n 9 xs):∃ s,xs=[.str s]:=by
 cases n with
 | zero=>exact h.elim
 | succ m=>
  simp only [bP,Try.underlying9] at h
  obtain ⟨s,h,_⟩:=h
  exact ⟨s,h⟩
theorem aAw {α:Type} {enc:α→List V}:∀ {es:List (List V)},(∀ c,c∈es→∃ a:α,c=enc a)→∃ l:List α,es=l.map enc
 | [],_=>⟨[],rfl⟩
 | c::es,h=>by
  obtain ⟨a,ha⟩:=h c (List.mem_cons_self ..)
  obtain ⟨l,hl⟩:=aAw fun d hd=>h d (List.mem_cons_of_mem _ hd)
  exact ⟨a::l,by rw [ha,hl];rfl⟩
theorem aCy {α:Type} {enc:α→List V} {p:α→Prop}:∀ {es:List (List V)},(∀ c,c∈es→∃ a:α,c=enc a∧p a)→∃ l:List α,es=l.map enc∧∀ a,a∈l→p a
 | [],_=>⟨[],rfl,fun _ h=>by cases h⟩
 | c::es,h=>by
  obtain ⟨a,ha,hp⟩:=h c (List.mem_cons_self ..)
  obtain ⟨l,hl,hq⟩:=aCy fun d hd=>h d (List.mem_cons_of_mem _ hd)
  exact ⟨a::l,by rw [ha,hl];rfl,fun b hb=>by
   rcases List.mem_cons.1 hb with rfl | hb
   ·exact hp
   ·exact hq b hb⟩
theorem aOc {n:Nat} {xs:List V} (h:bP prog n 59 xs):∃ e:Entry,xs=bM e:=by
 obtain ⟨m,hl,hf⟩:=qY Try.underlying59 h
 rw [c59] at hl
 have h0:bP prog m 3 ((xs.drop 0).take (prog.cellsOf 3)):=hf 0 _ rfl
 rw [c3] at h0
 obtain ⟨x0,e0⟩:=gH h0
 have h1:bP prog m 3 ((xs.drop 1).take (prog.cellsOf 3)):=hf 1 _ rfl
 rw [c3] at h1
 obtain ⟨x1,e1⟩:=gH h1
 have h2:bP prog m 9 ((xs.drop 2).take (prog.cellsOf 9)):=hf 2 _ rfl
 rw [c9] at h2
 obtain ⟨x2,e2⟩:=aFb h2
 obtain ⟨y0,y1,y2,rfl⟩:=aWk hl
 cases e0
 cases e1
 cases e2
 exact ⟨⟨x0,x1,x2⟩,rfl⟩
theorem aAx {n:Nat} {xs:List V} (h:bP prog n 22 xs):∃ (l:List Entry) (v:V),xs=[v]∧(∀ S,Sl S 3 v (l.map bM))∧bJ v=none∧l.length≤maxLen:=by
 obtain ⟨m,h | ⟨es,h,hlen,hes⟩⟩:=aAv Try.underlying22 h
 ·exact ⟨[],.nils,h,fun S=>Sl.nilv _ _,rfl,Nat.zero_le _⟩
 ·obtain ⟨l,hl⟩:=aAw (enc:=bM) fun c hc=>aOc (hes c hc).2
  subst hl
  refine ⟨l,.imm (l.map bM),h,fun S=>⟨.inr (.inl rfl),fun c hc=>?_⟩,rfl,by rw [List.length_map] at hlen;exact hlen⟩
  obtain ⟨a,_,rfl⟩:=List.mem_map.1 hc
  exact ⟨rfl,rfl⟩
theorem aQa {n:Nat} {xs:List V} (h:bP prog n 38 xs):∃ (l:List (List UInt8)) (v:V),xs=[v]∧(∀ S,Sl S 1 v (l.map aAj))∧bJ v=none:=by
 obtain ⟨m,h | ⟨es,h,hlen,hes⟩⟩:=aAv Try.underlying38 h
 ·exact ⟨[],.nils,h,fun S=>Sl.nilv _ _,rfl⟩
 ·obtain ⟨l,hl⟩:=aAw (enc:=aAj) fun c hc=>aFb (hes c hc).2
  subst hl
  refine ⟨l,.imm (l.map aAj),h,fun S=>⟨.inr (.inl rfl),fun c hc=>?_⟩,rfl⟩
  obtain ⟨a,_,rfl⟩:=List.mem_map.1 hc
  exact ⟨rfl,rfl⟩
theorem aQb {n:Nat} {xs:List V} (h:bP prog n 24 xs):∃ (g:Hard) (lv:V),xs=aV g lv∧(∀ S,Sl S 3 lv (g.log.map bM))∧bJ lv=none∧g.log.length≤maxLen:=by
 obtain ⟨m,hl,hf⟩:=qY Try.underlying24 h
 rw [c24] at hl
 have h0:bP prog m 3 ((xs.drop 0).take (prog.cellsOf 3)):=hf 0 _ rfl
 rw [c3] at h0
 obtain ⟨x0,e0⟩:=gH h0
 have h1:bP prog m 3 ((xs.drop 1).take (prog.cellsOf 3)):=hf 1 _ rfl
 rw [c3] at h1
 obtain ⟨x1,e1⟩:=gH h1
 have h2:bP prog m 3 ((xs.drop 2).take (prog.cellsOf 3)):=hf 2 _ rfl
 rw [c3] at h2
 obtain ⟨x2,e2⟩:=gH h2
 have h3:bP prog m 3 ((xs.drop 3).take (prog.cellsOf 3)):=hf 3 _ rfl
 rw [c3] at h3
 obtain ⟨x3,e3⟩:=gH h3
 have h4:bP prog m 3 ((xs.drop 4).take (prog.cellsOf 3)):=hf 4 _ rfl
 rw [c3] at h4
 obtain ⟨x4,e4⟩:=gH h4
 have h5:bP prog m 9 ((xs.drop 5).take (prog.cellsOf 9)):=hf 5 _ rfl
 rw [c9] at h5
 obtain ⟨x5,e5⟩:=aFb h5
 have h6:bP prog m 22 ((xs.drop 6).take (prog.cellsOf 22)):=hf 6 _ rfl
 rw [c22] at h6
 obtain ⟨x6,v6,e6,s6,b6,l6⟩:=aAx h6
 obtain ⟨y0,y1,y2,y3,y4,y5,y6,rfl⟩:=aWl hl
 cases e0
 cases e1
 cases e2
 cases e3
 cases e4
 cases e5
 cases e6
 exact ⟨⟨x0,x1,x2,x3,x4,x5,x6⟩,_,rfl,s6,b6,l6⟩
theorem aM0 {n:Nat} {xs:List V} (h:bP prog n 37 xs):∃ (g:Letter) (ev:V),xs=aO g ev∧(∀ S,Sl S 3 ev (g.entries.map bM))∧bJ ev=none:=by
 obtain ⟨m,hl,hf⟩:=qY Try.underlying37 h
 rw [c37] at hl
 have h0:bP prog m 3 ((xs.drop 0).take (prog.cellsOf 3)):=hf 0 _ rfl
 rw [c3] at h0
 obtain ⟨x0,e0⟩:=gH h0
 have h1:bP prog m 3 ((xs.drop 1).take (prog.cellsOf 3)):=hf 1 _ rfl
 rw [c3] at h1
 obtain ⟨x1,e1⟩:=gH h1
 have h2:bP prog m 3 ((xs.drop 2).take (prog.cellsOf 3)):=hf 2 _ rfl
 rw [c3] at h2
 obtain ⟨x2,e2⟩:=gH h2
 have h3:bP prog m 3 ((xs.drop 3).take (prog.cellsOf 3)):=hf 3 _ rfl
 rw [c3] at h3
 obtain ⟨x3,e3⟩:=gH h3
 have h4:bP prog m 3 ((xs.drop 4).take (prog.cellsOf 3)):=hf 4 _ rfl
 rw [c3] at h4
 obtain ⟨x4,e4⟩:=gH h4
 have h5:bP prog m 3 ((xs.drop 5).take (prog.cellsOf 3)):=hf 5 _ rfl
 rw [c3] at h5
 obtain ⟨x5,e5⟩:=gH h5
 have h6:bP prog m 3 ((xs.drop 6).take (prog.cellsOf 3)):=hf 6 _ rfl
 rw [c3] at h6
 obtain ⟨x6,e6⟩:=gH h6
 have h7:bP prog m 3 ((xs.drop 7).take (prog.cellsOf 3)):=hf 7 _ rfl
 rw [c3] at h7
 obtain ⟨x7,e7⟩:=gH h7
 have h8:bP prog m 3 ((xs.drop 8).take (prog.cellsOf 3)):=hf 8 _ rfl
 rw [c3] at h8
 obtain ⟨x8,e8⟩:=gH h8
 have h9:bP prog m 3 ((xs.drop 9).take (prog.cellsOf 3)):=hf 9 _ rfl
 rw [c3] at h9
 obtain ⟨x9,e9⟩:=gH h9
 have h10:bP prog m 4 ((xs.drop 10).take (prog.cellsOf 4)):=hf 10 _ rfl
 rw [c4] at h10
 obtain ⟨x10,e10⟩:=aQ9 h10
 have h11:bP prog m 9 ((xs.drop 11).take (prog.cellsOf 9)):=hf 11 _ rfl
 rw [c9] at h11
 obtain ⟨x11,e11⟩:=aFb h11
 have h12:bP prog m 22 ((xs.drop 12).take (prog.cellsOf 22)):=hf 12 _ rfl
 rw [c22] at h12
 obtain ⟨x12,v12,e12,s12,b12,l12⟩:=aAx h12
 obtain ⟨y0,y1,y2,y3,y4,y5,y6,y7,y8,y9,y10,y11,y12,rfl⟩:=aUs hl
 cases e0
 cases e1
 cases e2
 cases e3
 cases e4
 cases e5
 cases e6
 cases e7
 cases e8
 cases e9
 cases e10
 cases e11
 cases e12
 exact ⟨⟨x0,x1,x2,x3,x4,x5,x6,x7,x8,x9,x10,x11,x12⟩,_,rfl,s12,b12⟩
theorem aUu {n:Nat} {xs:List V} (h:bP prog n 40 xs):∃ q:Ask,xs=nQ q∧AskOK q:=by
 obtain ⟨m,hl,hf⟩:=qY Try.underlying40 h
 rw [c40] at hl
 have h0:bP prog m 3 ((xs.drop 0).take (prog.cellsOf 3)):=hf 0 _ rfl
 rw [c3] at h0
 obtain ⟨x0,e0⟩:=gH h0
 have h1:bP prog m 3 ((xs.drop 1).take (prog.cellsOf 3)):=hf 1 _ rfl
 rw [c3] at h1
 obtain ⟨x1,e1⟩:=gH h1
 have h2:bP prog m 37 ((xs.drop 2).take (prog.cellsOf 37)):=hf 2 _ rfl
 rw [c37] at h2
 obtain ⟨g,ev,e2,s2,b2⟩:=aM0 h2
 have h3:bP prog m 38 ((xs.drop 15).take (prog.cellsOf 38)):=hf 3 _ rfl
 rw [c38] at h3
 obtain ⟨x3,v3,e3,s3,b3⟩:=aQa h3
 obtain ⟨y0,y1,y2,y3,y4,y5,y6,y7,y8,y9,y10,y11,y12,y13,y14,y15,rfl⟩:=aUt hl
 cases e0
 cases e1
 cases e3
 refine ⟨⟨x0,x1,g,ev,x3,_⟩,?_,⟨s2,s3,b2,b3⟩⟩
 show _=[V.int .i64 x0,.int .i64 x1]++aO g ev++[_]
 rw [←e2]
 rfl
theorem aQc {n:Nat} {xs:List V} (h:bP prog n 25 xs):∃ (l:List Ask) (v:V),xs=[v]∧(∀ S,Sl S 16 v (l.map nQ))∧bJ v=none∧∀ q,q∈l→AskOK q:=by
 obtain ⟨m,h | ⟨es,h,hlen,hes⟩⟩:=aAv Try.underlying25 h
 ·exact ⟨[],.nils,h,fun S=>Sl.nilv _ _,rfl,fun _ h=>by cases h⟩
 ·obtain ⟨l,hl,hp⟩:=aCy (enc:=nQ) (p:=AskOK) fun c hc=>aUu (hes c hc).2
  subst hl
  refine ⟨l,.imm (l.map nQ),h,fun S=>⟨.inr (.inl rfl),fun c hc=>?_⟩,rfl,hp⟩
  obtain ⟨a,ha,rfl⟩:=List.mem_map.1 hc
  exact ⟨rfl,aAn (hp a ha)⟩
end Go.Proofs.Ytbiidlmhadihlaa
end
section
namespace Go.AM
open Go.ChangeShapes Go.WideShapes Go.ChangeAt Go.RowKit
theorem aBm {H:Type} {enc:TypeId×Value→H} {P:Program} {f:Func} {s:ChangeSpec} {apart fresh handsOn:Bool} {W W':World} {args:Array Value} {v:Value} {ds gs:List (DataW H)} {before pa pv:List MemPlace}
  (hW:DataW.Whole enc P f.params.toList s.vars apart W args.toList ds gs before)
  (hres:∀ (b:Nat) (sp:Nat→Bool) (hd:Bool),DataW.TrodAll enc P W' b sp hd f.resultTypes.toList (v.resultList f.resultTypes.size) (s.fn H (ds++gs)).results [])
  (hargs:∀ sp:Nat→Bool,(∀ p∈before,sp p.block=true)→DataW.TrodAll enc P W' 0 sp true f.params.toList args.toList (s.fn H (ds++gs)).args pa)
  (hvars:∀ sp:Nat→Bool,(∀ p∈before,sp p.block=true)→DataW.TrodVars enc P W' sp s.vars (s.fn H (ds++gs)).vars pv)
  (hps:before=pa++pv) (hk:W.keptBut W' (·∈before)):
  s.post enc P f apart fresh handsOn false W args v W':=by
 have hold:∀ p∈before,(fun b=>decide (b<W.heap.size)) p.block=true:=fun p hp=>by simpa using hW.lt p hp
 refine ⟨ds,gs,before,[],pa,pv,hW,hres _ _ _,hargs _ hold,hvars _ hold,World.keptBut_mono (fun p hp=>⟨hp,?_⟩) hk,fun h=>by cases h⟩
 rw [hps,List.mem_append] at hp
 exact Or.inr hp
theorem aBn {W W':World} (h:Below W.heap.size W W') (S:MemPlace→Prop):W.keptBut W' S:=Below.frame h S
theorem aM1 {H:Type} {enc:TypeId×Value→H} {P:Program} {W:World} {t:TypeId} (ht:P.underlying t=some .bool) (b:Nat) (sp:Nat→Bool) (hd:Bool):
  DataW.TrodAll enc P W b sp hd [t] ((Value.bool true).resultList 1) [.lit (.bool true)] []:=
 trodAll_mk1 ⟨1,by simp [DataW.trod,Value.cells,ht]⟩
end Go.AM
end
section
namespace Go.AM
open Go.RowKit Go.ChangeShapes
section
theorem Does.calls {P:Program} {pl:fV} {lv:mM} (hp:PlansOK P pl) {f:FuncId} {args:List V} (h:Does P pl lv f args St.empty fun u _=>u=.bool true) (W:World) {cs:List Value} (hc:VRs (Gh.all W) args cs):
  Calls P f cs.toArray W fun e W'=>e=.returned (.bool true)∧Below W.heap.size W W':=by
 obtain ⟨k,v,S',hv,hk⟩:=h.says
 subst hv
 exact aHd hp hk W hc
section
variable {H:Type} {enc:TypeId×Value→H} {P:Program} {W:World} {sp:Nat→Bool} {held:Bool}
theorem aBo {r:Reach} {b0:Nat} {t e:TypeId} {v:Value} (ht:P.underlying t=some (.slice e)) (hval:Value.okWide P W r b0 t v):v.cells.toList=[v]:=by
 cases v with
 | agg cs=>simp [Value.okWide,ht,Cell.okWide,Cell.ok] at hval
 | _=>rfl
theorem aAy {r:Reach} {b0 d:Nat} {t e:TypeId} {v:Value} {dd:DataW H} {ps:List MemPlace} (ht:P.underlying t=some (.slice e)) (hpl:qG P d t=true) (hval:Value.okWide P W r b0 t v) (hd:DataW.Trod enc P W 0 sp held t v dd ps):
  ∃ x n,VR (Gh.all W) x v∧bP P n t [x]:=by
 obtain ⟨fuel,hf⟩:=hd
 obtain ⟨xs,h1,h2⟩:=aFa fuel t _ _ d hpl hf
 rw [aBo ht hval] at h1
 cases h1 with
 | cons x _ vs _ hx t'=>
  cases t'
  exact ⟨x,fuel,hx,h2⟩
theorem xD {r:Reach} {b0 d:Nat} {t:TypeId} {fs:Array Field} {v:Value} {dd:DataW H} {ps:List MemPlace} (ht:P.underlying t=some (.struct fs)) (hpl:qG P d t=true) (hval:Value.okWide P W r b0 t v) (hd:DataW.Trod enc P W 0 sp held t v dd ps):
  ∃ xs n,VR (Gh.all W) (.agg xs) v∧bP P n t xs:=by
 obtain ⟨fuel,hf⟩:=hd
 obtain ⟨xs,h1,h2⟩:=aFa fuel t _ _ d hpl hf
 simp only [Value.okWide,ht] at hval
 obtain ⟨cs,rfl,_,_⟩:=hval
 exact ⟨xs,fuel,.agg xs cs h1,h2⟩
theorem aCz {t:TypeId} (hl:laidOutB P=true) (hr:P.readableRec t=true) (hrow:t<P.types.size) {W':World} {v:Value} {d:DataW H} {ps:List MemPlace} (h:DataW.Trod enc P W 0 (fun _=>true) true t v d ps) (hb:Below W.heap.size W W')
  (hlt:∀ x∈ps,x.block<W.heap.size) {sp':Nat→Bool} (hs:∀ x∈ps,sp' x.block=true):DataW.Trod enc P W' 0 sp' true t v d ps:=
 WideElems.Trod_stays hl hr hrow h (fun x hx=>hb.same (hlt x hx)) hs
end
end
end Go.AM
end
section
namespace Go.Raft
open Go.AM
section
structure Came where
 i:Int
 t:Int
 n:Int
 s:List UInt8
def gC:Option Inst→Came
 | none=>⟨0,0,0,[]⟩
 | some w=>⟨w.index,w.at',w.size,w.data⟩
def cA (c:Core) (k:Came) (lv ov:V):List V:=aV c.h lv++[.int .i64 c.id,.int .i64 c.role,.int .i64 c.leads,.int .i64 c.sure,.int .i64 c.drawn,.int .i64 c.left,.int .i64 c.votes]++(c.peers.map fun p=>V.int .i64 p.next)++(c.peers.map fun p=>V.int .i64 p.mtch)++(c.peers.map fun p=>V.int .i64 p.off)++[.int .i64 k.i,.int .i64 k.t,.int .i64 k.n,.str k.s,ov]
def dP (a:Nat) (lv ov:V) (y:Nat):Prop:=y=a∨bJ lv=some y∨bJ ov=some y
variable [Guard]
structure WAt (S:St) (a:Nat) (c:Core) (k:Came) (lv ov:V) (rows:List (List V)):Prop where
 cell:S.heap.get a=some (.row 0 40 [cA c k lv ov])
 peers:c.peers.length=7
 log:Mn S 3 lv (c.h.log.map bM)
 out:Mn S 13 ov rows
 lets:All2 (LetAt S (bJ lv)) c.out rows
 gd:Gd S rows
def WIn (S:St) (a:Nat) (c:Core) (O:Nat→Prop):Prop:=∃ lv ov rows,WAt S a c (gC c.way) lv ov rows∧O=dP a lv ov
theorem gI (c:Core) (k:Came) (lv ov:V) (h:c.peers.length=7):(cA c k lv ov).length=40:=by
 obtain ⟨p0,p1,p2,p3,p4,p5,p6,e⟩:=kF h
 simp only [cA,e];rfl
theorem iQ (c:Core) (k:Came) (lv ov:V) (h:c.peers.length=7) {f:Nat} (hf:f<7) (x:Int):
  (cA c k lv ov)[14+f*1]?=some (.int .i64 (c.peers.getD f ⟨0,0,0⟩).next)∧(cA c k lv ov)[21+f*1]?=some (.int .i64 (c.peers.getD f ⟨0,0,0⟩).mtch)∧(cA c k lv ov)[28+f*1]?=some (.int .i64 (c.peers.getD f ⟨0,0,0⟩).off) ∧
  splice (cA c k lv ov) (14+f*1) [.int .i64 x]=cA { c with peers:=c.peers.set f { c.peers.getD f ⟨0,0,0⟩ with next:=x } } k lv ov ∧
  splice (cA c k lv ov) (21+f*1) [.int .i64 x]=cA { c with peers:=c.peers.set f { c.peers.getD f ⟨0,0,0⟩ with mtch:=x } } k lv ov ∧
  splice (cA c k lv ov) (28+f*1) [.int .i64 x]=cA { c with peers:=c.peers.set f { c.peers.getD f ⟨0,0,0⟩ with off:=x } } k lv ov:=by
 obtain ⟨p0,p1,p2,p3,p4,p5,p6,e⟩:=kF h
 simp only [cA,e]
 match f,hf with
 | 0,_=>exact ⟨rfl,rfl,rfl,rfl,rfl,rfl⟩
 | 1,_=>exact ⟨rfl,rfl,rfl,rfl,rfl,rfl⟩
 | 2,_=>exact ⟨rfl,rfl,rfl,rfl,rfl,rfl⟩
 | 3,_=>exact ⟨rfl,rfl,rfl,rfl,rfl,rfl⟩
 | 4,_=>exact ⟨rfl,rfl,rfl,rfl,rfl,rfl⟩
 | 5,_=>exact ⟨rfl,rfl,rfl,rfl,rfl,rfl⟩
 | 6,_=>exact ⟨rfl,rfl,rfl,rfl,rfl,rfl⟩
theorem eY (c:Core) (k:Came) (lv ov:V) (h:c.peers.length=7) (x:Int) (s:List UInt8) (u:V):
  (cA c k lv ov)[35]?=some (.int .i64 k.i)∧(cA c k lv ov)[36]?=some (.int .i64 k.t)∧(cA c k lv ov)[37]?=some (.int .i64 k.n)∧(cA c k lv ov)[38]?=some (.str k.s)∧(cA c k lv ov)[39]?=some ov ∧
  splice (cA c k lv ov) 35 [.int .i64 x]=cA c { k with i:=x } lv ov∧splice (cA c k lv ov) 36 [.int .i64 x]=cA c { k with t:=x } lv ov∧splice (cA c k lv ov) 37 [.int .i64 x]=cA c { k with n:=x } lv ov∧splice (cA c k lv ov) 38 [.str s]=cA c { k with s:=s } lv ov∧splice (cA c k lv ov) 39 [u]=cA c k lv u:=by
 obtain ⟨p0,p1,p2,p3,p4,p5,p6,e⟩:=kF h
 simp only [cA,e]
 exact ⟨rfl,rfl,rfl,rfl,rfl,rfl,rfl,rfl,rfl,rfl⟩
theorem aHe (c:Core) (k:Came) (lv ov:V) (h:c.peers.length=7):splice (cA c k lv ov) 28 [.int .i64 0,.int .i64 0,.int .i64 0,.int .i64 0,.int .i64 0,.int .i64 0,.int .i64 0]=cA { c with peers:=c.peers.map fun p=>{ p with off:=0 } } k lv ov:=by
 obtain ⟨p0,p1,p2,p3,p4,p5,p6,e⟩:=kF h
 simp only [cA,e]
 rfl
theorem aHf (c:Core) (k:Came) (lv ov:V):((cA c k lv ov).drop 0).take 7=aV c.h lv:=by
 simp only [cA,aV];rfl
section
variable {S:St} {a:Nat} {c:Core} {k:Came} {lv ov:V} {rows:List (List V)} (h:WAt S a c k lv ov rows)
include h
theorem WAt.fr {S':St} (w:WF S) (hn:S.next≤S'.next) (hk:∀ y b,S.heap.get y=some b→S'.heap.get y=some b):WAt S' a c k lv ov rows:=
 ⟨hk _ _ h.cell,h.peers,Mn.fr h.log hn fun y b _=>hk y b,Mn.fr h.out hn fun y b _=>hk y b,All2.imp (fun m cs q=>q.keep (fun y ver el _=>hk y _) (fun y _ h=>h) w) h.lets,h.gd.mono hn⟩
theorem WAt.ext {S':St} (w:WF S) (x:Ext S S'):WAt S' a c k lv ov rows:=h.fr w x.next x.old
theorem WAt.lt (w:WF S):a<S.next:=w _ _ h.cell
theorem WAt.put (w:WF S) (c':Core) (k':Came) (h1:c'.h.log=c.h.log) (h3:c'.out=c.out) (h4:c'.peers.length=7):
  WAt ⟨S.next,S.heap.put a (.row 0 40 [cA c' k' lv ov])⟩ a c' k' lv ov rows∧Mv (dP a lv ov) S (dP a lv ov) ⟨S.next,S.heap.put a (.row 0 40 [cA c' k' lv ov])⟩:=by
 have kk:∀ n,n≠40→KeepW n S (⟨S.next,S.heap.put a (.row 0 40 [cA c' k' lv ov])⟩:St):=fun n h2=>KeepW.put h.cell h2 _
 refine ⟨⟨Tr.get_put_sameB _ _ _ trivial,h4,by rw [h1];exact h.log.keepW (Nat.le_refl _) (kk 3 (by decide)),h.out.keepW (Nat.le_refl _) (kk 13 (by decide)),by rw [h3];exact All2.imp (fun m cs q=>q.keep (fun y ver el _ g=>kk 3 (by decide) _ _ _ g) (fun y _ h=>h) w) h.lets,h.gd⟩,⟨⟨fun y b hy hb=>?_,Nat.le_refl _,fun w=>(But.put (h.lt w) _).wf w⟩,fun y hy=>.inl hy⟩⟩
 show (S.heap.put a _).get y=some b
 rw [Tr.get_put_neB _ _ _ _ trivial (fun e=>hy (.inl e))];exact hb
theorem WAt.ld (j:Nat) {v:V} (hv:(cA c k lv ov)[j]?=some v):aR none (.ptr a 0 0 j) S=.ok v:=by
 rw [bB _ _ _ _ _ (bC h.cell)];exact aGp _ _ hv
theorem WAt.st (w:WF S) (j:Nat) (x:V) (c':Core) (k':Came) (hx:x.cells=[x]) (ho:x.one=true) (hj:j<40) (hc:splice (cA c k lv ov) j [x]=cA c' k' lv ov)
  (h1:c'.h.log=c.h.log) (h3:c'.out=c.out) (h4:c'.peers.length=7):
  ∃ S',bV 1 (.ptr a 0 0 j) x S=.ok S'∧WAt S' a c' k' lv ov rows∧Mv (dP a lv ov) S (dP a lv ov) S'∧S'.next=S.next:=by
 have hl:=gI c k lv ov h.peers
 have e:=dD (x:=x) (j:=j) (m:=1) h.cell (by rw [hx];rfl) (by rw [hx];simp [aU,ho]) (by omega)
 rw [hx,hc] at e
 exact ⟨_,e,(h.put w c' k' h1 h3 h4).1,(h.put w c' k' h1 h3 h4).2,rfl⟩
theorem WAt.r_term:aR none (.ptr a 0 0 0) S=.ok (.int .i64 c.h.term):=h.ld 0 rfl
theorem WAt.r_vote:aR none (.ptr a 0 0 1) S=.ok (.int .i64 c.h.vote):=h.ld 1 rfl
theorem WAt.r_base:aR none (.ptr a 0 0 2) S=.ok (.int .i64 c.h.base):=h.ld 2 rfl
theorem WAt.r_baseTerm:aR none (.ptr a 0 0 3) S=.ok (.int .i64 c.h.baseTerm):=h.ld 3 rfl
theorem WAt.r_mem:aR none (.ptr a 0 0 4) S=.ok (.int .i64 c.h.members):=h.ld 4 rfl
theorem WAt.r_snap:aR none (.ptr a 0 0 5) S=.ok (.str c.h.snap):=h.ld 5 rfl
theorem WAt.r_log:aR none (.ptr a 0 0 6) S=.ok lv:=h.ld 6 rfl
theorem WAt.r_id:aR none (.ptr a 0 0 7) S=.ok (.int .i64 c.id):=h.ld 7 rfl
theorem WAt.r_role:aR none (.ptr a 0 0 8) S=.ok (.int .i64 c.role):=h.ld 8 rfl
theorem WAt.r_leads:aR none (.ptr a 0 0 9) S=.ok (.int .i64 c.leads):=h.ld 9 rfl
theorem WAt.r_sure:aR none (.ptr a 0 0 10) S=.ok (.int .i64 c.sure):=h.ld 10 rfl
theorem WAt.r_drawn:aR none (.ptr a 0 0 11) S=.ok (.int .i64 c.drawn):=h.ld 11 rfl
theorem WAt.r_left:aR none (.ptr a 0 0 12) S=.ok (.int .i64 c.left):=h.ld 12 rfl
theorem WAt.r_votes:aR none (.ptr a 0 0 13) S=.ok (.int .i64 c.votes):=h.ld 13 rfl
theorem WAt.r_next {f:Nat} (hf:f<7):aR none (.ptr a 0 0 (14+f*1)) S=.ok (.int .i64 (c.peers.getD f ⟨0,0,0⟩).next):=h.ld _ (iQ c k lv ov h.peers hf 0).1
theorem WAt.r_mtch {f:Nat} (hf:f<7):aR none (.ptr a 0 0 (21+f*1)) S=.ok (.int .i64 (c.peers.getD f ⟨0,0,0⟩).mtch):=h.ld _ (iQ c k lv ov h.peers hf 0).2.1
theorem WAt.r_off {f:Nat} (hf:f<7):aR none (.ptr a 0 0 (28+f*1)) S=.ok (.int .i64 (c.peers.getD f ⟨0,0,0⟩).off):=h.ld _ (iQ c k lv ov h.peers hf 0).2.2.1
theorem WAt.r_i:aR none (.ptr a 0 0 35) S=.ok (.int .i64 k.i):=h.ld _ (eY c k lv ov h.peers 0 [] .nils).1
theorem WAt.r_t:aR none (.ptr a 0 0 36) S=.ok (.int .i64 k.t):=h.ld _ (eY c k lv ov h.peers 0 [] .nils).2.1
theorem WAt.r_n:aR none (.ptr a 0 0 37) S=.ok (.int .i64 k.n):=h.ld _ (eY c k lv ov h.peers 0 [] .nils).2.2.1
theorem WAt.r_s:aR none (.ptr a 0 0 38) S=.ok (.str k.s):=h.ld _ (eY c k lv ov h.peers 0 [] .nils).2.2.2.1
theorem WAt.r_out:aR none (.ptr a 0 0 39) S=.ok ov:=h.ld _ (eY c k lv ov h.peers 0 [] .nils).2.2.2.2.1
theorem WAt.r_hard:aR (some 7) (.ptr a 0 0 0) S=.ok (.agg (aV c.h lv)):=by
 have hl:=gI c k lv ov h.peers
 rw [bB _ _ _ _ _ (bC h.cell),iY]
 rw [if_pos (by omega),aHf]
abbrev oR (S:St) (a j:Nat) (x:V) (c':Core) (k':Came) (lv ov:V) (rows:List (List V)):Prop:=∃ S',bV 1 (.ptr a 0 0 j) x S=.ok S'∧WAt S' a c' k' lv ov rows∧Mv (dP a lv ov) S (dP a lv ov) S'∧S'.next=S.next
theorem WAt.w_term (w:WF S) (x:Int):oR S a 0 (.int .i64 x) { c with h:={ c.h with term:=x } } k lv ov rows:=h.st w 0 _ _ _ rfl rfl (by decide) rfl rfl rfl h.peers
theorem WAt.w_vote (w:WF S) (x:Int):oR S a 1 (.int .i64 x) { c with h:={ c.h with vote:=x } } k lv ov rows:=h.st w 1 _ _ _ rfl rfl (by decide) rfl rfl rfl h.peers
theorem WAt.w_base (w:WF S) (x:Int):oR S a 2 (.int .i64 x) { c with h:={ c.h with base:=x } } k lv ov rows:=h.st w 2 _ _ _ rfl rfl (by decide) rfl rfl rfl h.peers
theorem WAt.w_baseTerm (w:WF S) (x:Int):oR S a 3 (.int .i64 x) { c with h:={ c.h with baseTerm:=x } } k lv ov rows:=h.st w 3 _ _ _ rfl rfl (by decide) rfl rfl rfl h.peers
theorem WAt.w_mem (w:WF S) (x:Int):oR S a 4 (.int .i64 x) { c with h:={ c.h with members:=x } } k lv ov rows:=h.st w 4 _ _ _ rfl rfl (by decide) rfl rfl rfl h.peers
theorem WAt.w_snap (w:WF S) (x:List UInt8):oR S a 5 (.str x) { c with h:={ c.h with snap:=x } } k lv ov rows:=h.st w 5 _ _ _ rfl rfl (by decide) rfl rfl rfl h.peers
theorem WAt.w_role (w:WF S) (x:Int):oR S a 8 (.int .i64 x) { c with role:=x } k lv ov rows:=h.st w 8 _ _ _ rfl rfl (by decide) rfl rfl rfl h.peers
theorem WAt.w_leads (w:WF S) (x:Int):oR S a 9 (.int .i64 x) { c with leads:=x } k lv ov rows:=h.st w 9 _ _ _ rfl rfl (by decide) rfl rfl rfl h.peers
theorem WAt.w_sure (w:WF S) (x:Int):oR S a 10 (.int .i64 x) { c with sure:=x } k lv ov rows:=h.st w 10 _ _ _ rfl rfl (by decide) rfl rfl rfl h.peers
theorem WAt.w_drawn (w:WF S) (x:Int):oR S a 11 (.int .i64 x) { c with drawn:=x } k lv ov rows:=h.st w 11 _ _ _ rfl rfl (by decide) rfl rfl rfl h.peers
theorem WAt.w_left (w:WF S) (x:Int):oR S a 12 (.int .i64 x) { c with left:=x } k lv ov rows:=h.st w 12 _ _ _ rfl rfl (by decide) rfl rfl rfl h.peers
theorem WAt.w_votes (w:WF S) (x:Int):oR S a 13 (.int .i64 x) { c with votes:=x } k lv ov rows:=h.st w 13 _ _ _ rfl rfl (by decide) rfl rfl rfl h.peers
theorem WAt.w_next (w:WF S) {f:Nat} (hf:f<7) (x:Int):oR S a (14+f*1) (.int .i64 x) { c with peers:=c.peers.set f { c.peers.getD f ⟨0,0,0⟩ with next:=x } } k lv ov rows:=
 h.st w _ _ _ _ rfl rfl (by omega) (iQ c k lv ov h.peers hf x).2.2.2.1 rfl rfl (by show (c.peers.set f _).length=7;rw [List.length_set];exact h.peers)
theorem WAt.w_mtch (w:WF S) {f:Nat} (hf:f<7) (x:Int):oR S a (21+f*1) (.int .i64 x) { c with peers:=c.peers.set f { c.peers.getD f ⟨0,0,0⟩ with mtch:=x } } k lv ov rows:=
 h.st w _ _ _ _ rfl rfl (by omega) (iQ c k lv ov h.peers hf x).2.2.2.2.1 rfl rfl (by show (c.peers.set f _).length=7;rw [List.length_set];exact h.peers)
theorem WAt.w_off (w:WF S) {f:Nat} (hf:f<7) (x:Int):oR S a (28+f*1) (.int .i64 x) { c with peers:=c.peers.set f { c.peers.getD f ⟨0,0,0⟩ with off:=x } } k lv ov rows:=
 h.st w _ _ _ _ rfl rfl (by omega) (iQ c k lv ov h.peers hf x).2.2.2.2.2 rfl rfl (by show (c.peers.set f _).length=7;rw [List.length_set];exact h.peers)
theorem WAt.w_i (w:WF S) (x:Int):oR S a 35 (.int .i64 x) c { k with i:=x } lv ov rows:=h.st w 35 _ _ _ rfl rfl (by decide) (eY c k lv ov h.peers x [] .nils).2.2.2.2.2.1 rfl rfl h.peers
theorem WAt.w_t (w:WF S) (x:Int):oR S a 36 (.int .i64 x) c { k with t:=x } lv ov rows:=h.st w 36 _ _ _ rfl rfl (by decide) (eY c k lv ov h.peers x [] .nils).2.2.2.2.2.2.1 rfl rfl h.peers
theorem WAt.w_n (w:WF S) (x:Int):oR S a 37 (.int .i64 x) c { k with n:=x } lv ov rows:=h.st w 37 _ _ _ rfl rfl (by decide) (eY c k lv ov h.peers x [] .nils).2.2.2.2.2.2.2.1 rfl rfl h.peers
theorem WAt.w_s (w:WF S) (x:List UInt8):oR S a 38 (.str x) c { k with s:=x } lv ov rows:=h.st w 38 _ _ _ rfl rfl (by decide) (eY c k lv ov h.peers 0 x .nils).2.2.2.2.2.2.2.2.1 rfl rfl h.peers
theorem WAt.w_out (w:WF S) {S1:St} (w1:WF S1) (hn:S.next≤S1.next) (hk:∀ y b,S.heap.get y=some b→bJ ov≠some y→S1.heap.get y=some b) {ov':V} {rows':List (List V)} (hout:Mn S1 13 ov' rows') (hb:∀ y,bJ ov'=some y→bJ ov=some y∨S.next≤y)
  {out':List Letter} (hlets:All2 (LetAt S (bJ lv)) out' rows') (hgd:Gd S1 rows'):
  ∃ S2,bV 1 (.ptr a 0 0 39) ov' S1=.ok S2∧WAt S2 a { c with out:=out' } k lv ov' rows'∧Mv (dP a lv ov) S (dP a lv ov') S2∧S2.next=S1.next:=by
 have hl:=gI c k lv ov h.peers
 have ga:S1.heap.get a=some (.row 0 40 [cA c k lv ov]):=hk _ _ h.cell (h.out.neRow h.cell (by decide))
 have hone:=hout.cells
 have e:=dD (x:=ov') (j:=39) (m:=1) ga (by rw [hone.1];rfl) (by rw [hone.1];simp [aU,hone.2]) (by omega)
 rw [hone.1,(eY c k lv ov h.peers 0 [] ov').2.2.2.2.2.2.2.2.2] at e
 have kk:∀ n,n≠13→n≠40→KeepW n S (⟨S1.next,S1.heap.put a (.row 0 40 [cA c k lv ov'])⟩:St):=fun n h1 h2=>
  KeepW.trans (fun y ver el g=>hk _ _ g (h.out.neRow g (Ne.symm h1))) (KeepW.put ga h2 _)
 refine ⟨_,e,⟨Tr.get_put_sameB _ _ _ trivial,h.peers,h.log.keepW hn (kk 3 (by decide) (by decide)),hout.keepW (Nat.le_refl _) (KeepW.put ga (by decide) _),All2.imp (fun m cs q=>q.keep (fun y ver el _ g=>kk 3 (by decide) (by decide) _ _ _ g) (fun y _ h=>h) w) hlets,hgd⟩,⟨⟨fun y b hy hb'=>?_,hn,fun _=>(But.put (w1 _ _ ga) _).wf w1⟩,fun y hy=>?_⟩,rfl⟩
 ·show (S1.heap.put a _).get y=some b
  rw [Tr.get_put_neB _ _ _ _ trivial (fun e=>hy (.inl e))]
  exact hk y b hb' (fun e=>hy (.inr (.inr e)))
 ·rcases hy with hy | hy | hy
  ·exact .inl (.inl hy)
  ·exact .inl (.inr (.inl hy))
  ·exact (hb y hy).imp (fun q=>.inr (.inr q)) id
theorem WAt.w_log (w:WF S) {S1:St} (w1:WF S1) (hn:S.next≤S1.next) (hk:∀ y b,S.heap.get y=some b→bJ lv≠some y→S1.heap.get y=some b) {lv':V} {l':List Entry} (hlog:Mn S1 3 lv' (l'.map bM)) (hb:∀ y,bJ lv'=some y→bJ lv=some y∨S.next≤y):
  ∃ S2,bV 1 (.ptr a 0 0 6) lv' S1=.ok S2∧WAt S2 a { c with h:={ c.h with log:=l' } } k lv' ov rows∧Mv (dP a lv ov) S (dP a lv' ov) S2∧S2.next=S1.next:=by
 have hl:=gI c k lv ov h.peers
 have ga:S1.heap.get a=some (.row 0 40 [cA c k lv ov]):=hk _ _ h.cell (h.log.neRow h.cell (by decide))
 have hone:=hlog.cells
 have e:=dD (x:=lv') (j:=6) (m:=1) ga (by rw [hone.1];rfl) (by rw [hone.1];simp [aU,hone.2]) (by omega)
 have hsp:splice (cA c k lv ov) 6 [lv']=cA { c with h:={ c.h with log:=l' } } k lv' ov:=rfl
 rw [hone.1,hsp] at e
 have kk:∀ n,n≠3→n≠40→KeepW n S (⟨S1.next,S1.heap.put a (.row 0 40 [cA { c with h:={ c.h with log:=l' } } k lv' ov])⟩:St):=fun n h1 h2=>
  KeepW.trans (fun y ver el g=>hk _ _ g (h.log.neRow g (Ne.symm h1))) (KeepW.put ga h2 _)
 have hlets:All2 (LetAt (⟨S1.next,S1.heap.put a (.row 0 40 [cA { c with h:={ c.h with log:=l' } } k lv' ov])⟩:St) (bJ lv')) c.out rows:=by
  refine All2.imp (fun m cs q=>q.keep (fun y ver el hy g=>?_) (fun y hy h1 h2=>?_) w) h.lets
  ·exact (KeepW.put ga (by decide) _:KeepW 3 S1 _) _ _ _ (hk _ _ g hy)
  ·rcases hb y h2 with h3 | h3
   ·exact h1 h3
   ·omega
 refine ⟨_,e,⟨Tr.get_put_sameB _ _ _ trivial,h.peers,hlog.keepW (Nat.le_refl _) (KeepW.put ga (by decide) _),h.out.keepW hn (kk 13 (by decide) (by decide)),hlets,h.gd.mono hn⟩,⟨⟨fun y b hy hb'=>?_,hn,fun _=>(But.put (w1 _ _ ga) _).wf w1⟩,fun y hy=>?_⟩,rfl⟩
 ·show (S1.heap.put a _).get y=some b
  rw [Tr.get_put_neB _ _ _ _ trivial (fun e=>hy (.inl e))]
  exact hk y b hb' (fun e=>hy (.inr (.inl e)))
 ·rcases hy with hy | hy | hy
  ·exact .inl (.inl hy)
  ·exact (hb y hy).imp (fun q=>.inr (.inl q)) id
  ·exact .inl (.inr (.inr hy))
end
theorem WIn.ext {S S':St} {a:Nat} {c:Core} {O:Nat→Prop} (h:WIn S a c O) (w:WF S) (x:Ext S S'):WIn S' a c O:=by
 obtain ⟨lv,ov,rows,h,rfl⟩:=h
 exact ⟨lv,ov,rows,h.ext w x,rfl⟩
theorem WIn.peers {S:St} {a:Nat} {c:Core} {O:Nat→Prop} (h:WIn S a c O):c.peers.length=7:=by
 obtain ⟨lv,ov,rows,h,rfl⟩:=h
 exact h.peers
theorem qZ {S:St} {a:Nat} {c:Core} {k:Came} {lv ov:V} {rows:List (List V)} (w:WF S) (h:WAt S a c k lv ov rows) {y:Nat} (hy:dP a lv ov y):y<S.next:=by
 rcases hy with rfl | hy | hy
 ·exact h.lt w
 ·exact (h.log.blk hy).1
 ·exact (h.out.blk hy).1
theorem aAz {S:St} {a:Nat} {c:Core} {O:Nat→Prop} (w:WF S) (h:WIn S a c O):∀ y,O y→y<S.next:=by
 obtain ⟨lv,ov,rows,h,rfl⟩:=h
 exact fun y hy=>qZ w h hy
end
end Go.Raft
end
section
namespace Go.Proofs.Ytbiidlmhadihlaa
open Go.AM Go.Raft Try
section
variable [Guard]
theorem g30 (m id:Int) (S:St) (h0:0≤m):mG 30 [.int .i64 m,.int .i64 id] S (.bool (cN m id)):=by
 refine e30 ?_
 simp only [m30,dA,aF]
 refine Ok.pickP (fun c0=>?_) (fun c0=>Ok.ret ⟨by simp [cN,c0],Ext.refl S⟩)
 simp only [aZ,aF]
 refine Ok.pickP (fun c1=>?_) (fun c1=>Ok.ret ⟨by simp [cN,c1],Ext.refl S⟩)
 have hsh:aD prog .shr 3 (.int .i64 m) (.int .i64 id)=.ok (.int .i64 (m / 2 ^ id.toNat)):=by
  simp only [aD,mH,show ¬ id<0 by omega,decide_false,cond_false]
  have:min id.toNat IntKind.i64.bits=id.toNat:=by show min id.toNat 64=_;omega
  rw [this,Int.fdiv_eq_ediv_of_nonneg _ (Int.pow_nonneg (by decide))]
 have han:aD prog .and 3 (.int .i64 (m / 2 ^ id.toNat)) (.int .i64 1)=.ok (.int .i64 (m / 2 ^ id.toNat % 2)):=by
  simp only [aD,bU,cond_true,eE,aKe]
 simp only [aF,hsh,han,aS,aJ,bR]
 exact Ok.ret ⟨by simp [cN,aUi,c0,c1],Ext.refl S⟩
theorem g96 (m:Int) (S:St):mG 96 [.int .i64 m] S (.bool (kD m)):=by
 refine e96 ?_
 simp only [m96,dA,aZ,aF]
 have h:decide (m<128)=decide (m≤127):=by simp only [decide_eq_decide];omega
 rw [h]
 refine Ok.pickP (fun c0=>Ok.ret ⟨by simp [kD,c0],Ext.refl S⟩) (fun c0=>Ok.ret ⟨by simp [kD,c0],Ext.refl S⟩)
def lJ (m:Int) (n:Int) (i:Nat):Int⊕Int:=.inr (if cN m (i:Int)=true then n+1 else n)
theorem aUw (m:Int):fF (lJ m) id (List.range 7) 0=jF m:=by
 show fF (lJ m) id [0,1,2,3,4,5,6] 0=_
 simp only [fF,lJ,jF,lV,ids,id,Int.natCast_zero,List.filter_cons,List.filter_nil]
 have e1:((1:Nat):Int)=1:=rfl
 have e2:((2:Nat):Int)=2:=rfl
 have e3:((3:Nat):Int)=3:=rfl
 have e4:((4:Nat):Int)=4:=rfl
 have e5:((5:Nat):Int)=5:=rfl
 have e6:((6:Nat):Int)=6:=rfl
 simp only [e1,e2,e3,e4,e5,e6]
 cases cN m 0<;>cases cN m 1<;>cases cN m 2<;>cases cN m 3<;>cases cN m 4<;>cases cN m 5<;>cases cN m 6<;>rfl
theorem g97 (m:Int) (S:St) (h0:0≤m):mG 97 [.int .i64 m] S (.int .i64 (jF m)):=by
 refine e97 ?_
 simp only [m97]
 rw [←aUw]
 refine Ok.loopL (F:=fun k K=>aEq (aE prog aW aX k) k K (.int .i64 m)) (ρ:=Int) (α:=Nat) (X:=Int) (List.range 7) (step:=lJ m) (fin:=id) (s:=0)
  (out:=fun k K x S'=>K (.int .i64 x) S')
  (fun i n vs S'=>vs=[.int .i64 n,.int .i64 (i:Int)]∧Ext S S'∧0≤n∧n≤i)
  (fun r x S'=>r=x∧Ext S S') ?_ ?_ ⟨rfl,Ext.refl S,Int.le_refl _,Int.le_refl _⟩ (fun x S' ⟨e,x'⟩=>Ok.ret ⟨by rw [e],x'⟩)
 ·rintro i j n vs S1 ⟨rfl,x1,n0,n1⟩ hi
  obtain ⟨hil,hj⟩:=List.getElem?_eq_some_iff.1 hi
  rw [List.length_range] at hil
  rw [List.getElem_range] at hj
  subst hj
  have hlt:(i:Int)<7:=by omega
  have hw:wr .i64 ((i:Int)+1)=((i+1:Nat):Int):=cP hil (by decide)
  have hwn:wr .i64 (n+1)=n+1:=cS (by omega) (by omega)
  simp only [aEq,aY,aZ,aF,hlt,decide_true,bA]
  refine (g30 m i S1 h0).callL fun S2 x2=>?_
  refine OkL.pick (fun e=>?_) (fun e=>?_)
  ·simp only [bK,hwn,hw,aF]
   exact OkL.next ⟨n+1,by unfold lJ;rw [if_pos e],rfl,x1.trans x2,by omega,by push_cast;omega⟩
  ·simp only [bK,hw,aF]
   exact OkL.next ⟨n,by unfold lJ;rw [e];rfl,rfl,x1.trans x2,n0,by push_cast;omega⟩
 ·rintro n vs S1 ⟨rfl,x1,n0,n1⟩
  have hlt:¬ (((List.range 7).length:Nat):Int)<7:=by rw [List.length_range];decide
  refine ⟨n,⟨rfl,x1⟩,fun k K bD=>?_⟩
  simp only [aEq,aY,aZ,aF,hlt,decide_false,aK]
theorem g69 (m yes:Int) (S:St) (k0:0≤yes) (k1:yes≤127):mG 69 [.int .i64 m,.int .i64 yes] S (.bool (jG m yes)):=by
 refine e69 ?_
 simp only [m69]
 refine (g96 m S).call fun S1 x1=>?_
 refine Ok.pick (fun h=>?_) (fun h=>Ok.ret ⟨by unfold jG;rw [h];rfl,x1⟩)
 have hs:=h
 simp only [kD,Bool.and_eq_true,decide_eq_true_eq] at hs
 have han:aD prog .and 3 (.int .i64 m) (.int .i64 yes)=.ok (.int .i64 (xB m yes)):=by
  simp only [aD,bU,cond_true,eE,aIu (show 0≤m by omega) hs.2 k0 k1]
 simp only [han,aF]
 refine (g97 _ S1 (aCr (by omega) hs.2 k0 k1)).call fun S2 x2=>?_
 have c1:=wR (xB m yes)
 have hw:wr .i64 (2*jF (xB m yes))=2*jF (xB m yes):=cS (by omega) (by omega)
 simp only [aK0,hw,aF]
 refine (g97 m S2 (by omega)).call fun S3 x3=>?_
 simp only [bX,aF]
 exact Ok.ret ⟨by unfold jG;rw [h];rfl,x1.trans (x2.trans x3)⟩
theorem g81 (m n:Int) (S:St):mG 81 [.int .i64 m,.int .i64 n] S (.bool (mF m n)):=by
 refine e81 ?_
 simp only [m81]
 refine (g96 m S).call fun S1 x1=>?_
 refine Ok.pick (fun h=>?_) (fun h=>Ok.ret ⟨by unfold mF;rw [h];rfl,x1⟩)
 refine (g96 n S1).call fun S2 x2=>?_
 have x02:=x1.trans x2
 refine Ok.pick (fun h'=>?_) (fun h'=>Ok.ret ⟨by unfold mF;rw [h,h'];rfl,x02⟩)
 have a:=h
 have b:=h'
 simp only [kD,Bool.and_eq_true,decide_eq_true_eq] at a b
 obtain ⟨q1,q2⟩:=aNv (m:=m) (n:=n) (by omega) a.2 (by omega) b.2
 have han:aD prog .xor 3 (.int .i64 m) (.int .i64 n)=.ok (.int .i64 (aLv m n)):=by
  simp only [aD,bU,cond_true,eE,q1]
 simp only [han,aF]
 refine (g97 _ S2 q2).call fun S3 x3=>?_
 simp only [aS,aJ,bR,aF]
 exact Ok.ret ⟨by unfold mF;rw [h,h'];rfl,x02.trans x3⟩
theorem g36 (d:Int) (S:St):mG 36 [.int .i64 d] S (.int .i64 (cV d)):=by
 refine e36 ?_
 have ht:-11<d.tmod 11∧d.tmod 11<11:=by
  have:=Int.tmod_eq_emod (a:=d) (b:=11)
  have h1:=Int.emod_nonneg d (b:=11) (by omega)
  have h2:=Int.emod_lt_of_pos d (b:=11) (by omega)
  split at this<;>omega
 simp only [m36,aK1 _ _ _ _ _ (by decide:(11:Int)≠0),aZ,bK,aF]
 refine Ok.pickP (fun h=>Ok.ret ⟨?_,Ext.refl S⟩) (fun h=>Ok.ret ⟨?_,Ext.refl S⟩)
 ·have e0:wr .i64 (d.tmod 11+10)=d.tmod 11+10:=cS (by omega) (by omega)
  have e:wr .i64 (d.tmod 11+10+1)=d.tmod 11+11:=by rw [cS (by omega) (by omega)];omega
  unfold cV;rw [if_pos h,e0,e,cS (by omega) (by omega)]
 ·unfold cV;rw [if_neg h,cS (by omega) (by omega)]
theorem g42 (h:Hard) (lv:V) (S:St) (w:WF S) (hs:Sl S 3 lv (h.log.map bM)) (hl:h.log.length≤1000000) (b0:0≤h.base) (b1:h.base≤1099511627776):mG 42 [.agg (aV h lv)] S (.tup [.int .i64 (eP h).1,.int .i64 (eP h).2]):=by
 refine e42 ?_
 have ho:=dG h hs.one
 have hln:(aV h lv).length=7:=rfl
 obtain ⟨S1,hn1,x1,hg1,hnx1⟩:=nb w 7 (aV h lv)
 have w1:=x1.wf w
 have hs1:=hs.ext x1
 have hw1:wr .i64 ((h.log.length:Int) - 1)=(h.log.length:Int) - 1:=cS (by omega) (by omega)
 have ldl:∀ {T:St},T.heap.get S.next=some (.row 0 7 [aV h lv])→aR none (.ptr S.next 0 0 6) T=.ok lv:=fun hg=>by rw [bB _ _ _ _ _ (bC hg)];rfl
 have ldb:∀ {T:St},T.heap.get S.next=some (.row 0 7 [aV h lv])→aR none (.ptr S.next 0 0 2) T=.ok (.int .i64 h.base):=fun hg=>by rw [bB _ _ _ _ _ (bC hg)];rfl
 have ldm:∀ {T:St},T.heap.get S.next=some (.row 0 7 [aV h lv])→aR none (.ptr S.next 0 0 4) T=.ok (.int .i64 h.members):=fun hg=>by rw [bB _ _ _ _ _ (bC hg)];rfl
 simp only [m42,bH,ho,hln,aJ,hn1,aF,cO,aG,Nat.reduceAdd,eC,ldl hg1,eA,hs1.lenI,cE,hw1]
 have hall:eP h=fF (nB h.base ((h.log.length+0:Nat):Int)) (fun _=>(h.members,h.base)) h.log.reverse 0:=(aRb h.base (h.members,h.base) _ h.log 0 rfl).symm
 rw [hall]
 have hrl:h.log.reverse.length=h.log.length:=List.length_reverse
 refine Ok.loopL (F:=fun k K=>aE6 (aE prog aW aX k) k K (.ptr S.next 0 0 0)) (ρ:=Int×Int) (α:=Entry) (X:=(Int×Int)×Nat) h.log.reverse (step:=nB h.base ((h.log.length+0:Nat):Int)) (fin:=fun _=>(h.members,h.base)) (s:=0)
  (out:=fun k K x S'=>K (.tup [.int .i64 x.1.1,.int .i64 x.1.2]) (⟨S'.next+x.2,S'.heap⟩:St))
  (fun i n vs T=>n=i∧vs=[.int .i64 0,.int .i64 0,.int .i64 ((h.log.length:Int) - 1 - i)]∧T=S1)
  (fun r x T=>r=x.1∧Ext S1 T) ?_ ?_ ⟨rfl,by simp,rfl⟩ (fun x T ⟨e,xt⟩=>Ok.ret ⟨by rw [e],(x1.trans xt).bump x.2⟩)
 ·rintro i x n vs T ⟨rfl,rfl,rfl⟩ hi
  have hil:n<h.log.length:=by have:=(List.getElem?_eq_some_iff.1 hi).1;omega
  obtain ⟨j,hj⟩:∃ j:Nat,(h.log.length:Int) - 1 - (n:Int)=(j:Int):=⟨h.log.length - 1 - n,by omega⟩
  have hge:(0:Int)≤(j:Int):=by omega
  have hjx:h.log[j]?=some x:=by
   rw [List.getElem?_reverse hil] at hi
   rw [show j=h.log.length - 1 - n by omega];exact hi
  obtain ⟨p,hp,hat,_,_⟩:=hs1.elem hjx
  have hat1:aR none (xA 1 p) T=.ok (.int .i64 x.members):=by rw [hat.load];rfl
  have hw2:wr .i64 ((j:Int) - 1)=(h.log.length:Int) - 1 - ((n+1:Nat):Int):=by rw [cS (by omega) (by omega)];push_cast;omega
  have hw3:wr .i64 (h.base+1)=h.base+1:=cS (by omega) (by omega)
  have hw4:wr .i64 (h.base+1+(j:Int))=h.base+((h.log.length:Int) - n):=by rw [cS (by omega) (by omega)];omega
  have xb:Ext T (⟨T.next+13,T.heap⟩:St):=(Ext.refl T).bump 13
  simp only [aE6,aY,hj,dA,aF,hge,decide_true,bA,cO,dM,aG,Nat.reduceAdd,eC,cR,aL,ldl hg1,ldb hg1,oL,hp,aEy,hat.advW,hat1,aS,aJ,cJ,bK,hw3,hw4,cE,hw2]
  refine OkL.pickN (fun c=>OkL.stop ((x.members,h.base+((h.log.length:Int) - n)),13) (S:=T) ⟨(x.members,h.base+((h.log.length:Int) - n)),by unfold nB;rw [if_neg c];simp,rfl,Ext.refl _⟩ (by intros;rfl)) (fun c=>OkL.next ⟨n+1,by unfold nB;rw [if_pos c],rfl,rfl,rfl⟩)
 ·rintro n vs T ⟨rfl,rfl,rfl⟩
  have hge:¬ (0:Int)≤(h.log.length:Int) - 1 - ((h.log.reverse.length:Nat):Int):=by omega
  refine ⟨((h.members,h.base),6),⟨rfl,Ext.refl T⟩,fun k K bD=>?_⟩
  simp only [aE6,aY,dA,aF,hge,decide_false,aK,mY,dM,aG,Nat.reduceAdd,cR,aL,ldm hg1,ldb hg1]
abbrev WMeth (f:FuncId) (args:List V) (a:Nat) (c':Core) (S:St) (O:Nat→Prop) (v:V):Prop:=Does prog aW aX f args S fun u S'=>u=v∧∃ O',WIn S' a c' O'∧Mv O S O' S'
theorem WMeth.call {f:FuncId} {args:List V} {a:Nat} {c':Core} {S:St} {O:Nat→Prop} {v:V} (h:WMeth f args a c' S O v) (w:WF S) {G:Nat→KS→V→St→An} {R:V→St→Prop} (k:∀ S' O',WF S'→WIn S' a c' O'→Mv O S O' S'→Ok (fun k K=>G k K v S') R):
  Ok (fun k K=>aE prog aW aX k f args S (fun v S=>G k K v S)) R:=Does.call h fun u S' ⟨e,O',h1,h2⟩=>by subst e;exact k S' O' (h2.wf w) h1 h2
theorem WMeth.callL {X:Type} {out:Nat→KS→X→St→An} {Q:Turn X→Prop} {f:FuncId} {args:List V} {a:Nat} {c':Core} {S:St} {O:Nat→Prop} {v:V} (h:WMeth f args a c' S O v) (w:WF S) {G:Nat→KS→Ag→V→St→An} (k:∀ S' O',WF S'→WIn S' a c' O'→Mv O S O' S'→OkL out (fun k K bD=>G k K bD v S') Q):
  OkL out (fun k K bD=>aE prog aW aX k f args S (fun v S=>G k K bD v S)) Q:=OkL.call h fun u S' ⟨e,O',h1,h2⟩=>by subst e;exact k S' O' (h2.wf w) h1 h2
section
variable {S:St} {a:Nat} {c:Core} {O:Nat→Prop} {k:Came} {lv ov:V} {rows:List (List V)}
theorem a43 (h:WAt S a c k lv ov rows) (b0:0≤c.h.base) (b1:c.h.base≤1099511627776) (ll:c.h.log.length≤1000):mG 43 [.ptr a 0 0 0] S (.int .i64 c.last):=by
 have hw:wr .i64 (c.h.base+c.h.log.length)=c.last:=cS (by omega) (by omega)
 refine e43 ?_
 simp only [m43,aI,dI,dM,cO,aG,aF,cR,eC,Nat.reduceAdd,aL,h.r_base,h.r_log,eA,h.log.sl.lenI,bK,hw]
 exact Ok.ret ⟨rfl,(Ext.refl S).bump 13⟩
theorem aWm (h:WIn S a c O) (b0:0≤c.h.base) (b1:c.h.base≤1099511627776) (ll:c.h.log.length≤1000):mG 43 [.ptr a 0 0 0] S (.int .i64 c.last):=by
 obtain ⟨lv,ov,rows,h,rfl⟩:=h
 exact a43 h b0 b1 ll
theorem g43 (h:WIn S a c O) (ok:Hok c.h):mG 43 [.ptr a 0 0 0] S (.int .i64 c.last):=aWm h ok.b0 ok.b1 (Nat.le_trans ok.ll (by decide))
theorem a72 (h:WAt S a c k lv ov rows) (hb:0≤c.h.base) (b1:c.h.base≤1099511627776) (ll:c.h.log.length≤1000) {n:Int} (h1:c.h.base≤n) (h2:n≤c.last):mG 72 [.ptr a 0 0 0,.int .i64 n] S (.int .i64 (c.term n)):=by
 have hl2:c.last=c.h.base+c.h.log.length:=rfl
 refine e72 ?_
 simp only [m72,aI,dI,dM,mX,cO,jQ,aG,aF,cR,eC,Nat.reduceAdd,aL,h.r_base,h.r_log,h.r_baseTerm,aS,aJ,bR]
 refine Ok.pickP (fun e=>Ok.ret ⟨by unfold Core.term termH;rw [if_pos e],Ext.refl S⟩) (fun e=>?_)
 obtain ⟨x,hx⟩:=mQ (h:=c.h) (n:=n) (by omega) h2
 obtain ⟨j,hj⟩:∃ j:Nat,n - c.h.base - 1=(j:Int):=⟨(n - c.h.base - 1).toNat,by omega⟩
 have hjx:c.h.log[j]?=some x:=by rw [hj] at hx;exact hx
 have hw1:wr .i64 (n - c.h.base)=n - c.h.base:=cS (by omega) (by omega)
 have hw2:wr .i64 (n - c.h.base - 1)=(j:Int):=by rw [cS (by omega) (by omega)];exact hj
 obtain ⟨p,hp,hat,_,_⟩:=h.log.sl.elem hjx
 have hat0:aR none (xA 0 p) S=.ok (.int .i64 x.term):=by rw [hat.load];rfl
 simp only [cE,hw1,hw2,aF,oL,hp,jQ,hat.advW,hat0]
 have ht:c.term n=x.term:=by unfold Core.term;exact iB (by omega) hx
 exact Ok.ret ⟨by rw [ht],(Ext.refl S).bump 17⟩
theorem aWn (h:WIn S a c O) (hb:0≤c.h.base) (b1:c.h.base≤1099511627776) (ll:c.h.log.length≤1000) {n:Int} (h1:c.h.base≤n) (h2:n≤c.last):mG 72 [.ptr a 0 0 0,.int .i64 n] S (.int .i64 (c.term n)):=by
 obtain ⟨lv,ov,rows,h,rfl⟩:=h
 exact a72 h hb b1 ll h1 h2
theorem g72 (h:WIn S a c O) (ok:Hok c.h) {n:Int} (h1:c.h.base≤n) (h2:n≤c.last):mG 72 [.ptr a 0 0 0,.int .i64 n] S (.int .i64 (c.term n)):=aWn h ok.b0 ok.b1 (Nat.le_trans ok.ll (by decide)) h1 h2
theorem g75 (w:WF S) (h:WIn S a c O) (ok:Hok c.h):mG 75 [.ptr a 0 0 0] S (.int .i64 c.members):=by
 obtain ⟨lv,ov,rows,h,rfl⟩:=h
 have hl:=ok.ll
 refine e75 ?_
 simp only [m75,aI,dI,aG,aF,mE,Nat.reduceAdd,h.r_hard]
 refine (g42 c.h lv S w h.log.sl (by omega) ok.b0 ok.b1).call fun S1 x1=>?_
 exact Ok.ret ⟨rfl,x1⟩
theorem a71 (m:Letter) (ev:V) (w:WF S) (h:WAt S a c k lv ov rows) (hmp:vW S (dP a lv ov) m ev) (hl:c.out.length≤1000000):Does prog aW aX 71 [.ptr a 0 0 0,.agg (aO m ev)] S fun u S'=>u=.tup []∧∃ ov' rows',WAt S' a (c.post m) k lv ov' rows'∧Mv (dP a lv ov) S (dP a lv ov') S':=by
 obtain ⟨hm,hg⟩:=hmp
 have ho:=cB m hm.1.one
 have hln:(aO m ev).length=13:=rfl
 obtain ⟨S1,hn1,x1,hg1,hnx1⟩:=nb w 13 (aO m ev)
 have w1:=x1.wf w
 have e1:=dD (S:=S1) (x:=.int .i64 c.id) (j:=1) (m:=1) hg1 rfl rfl (by rw [hln];omega)
 have c1:splice (aO m ev) 1 (V.int .i64 c.id).cells=aO { m with from':=c.id } ev:=rfl
 rw [c1] at e1
 have x2:Ext S (⟨S1.next,S1.heap.put S.next (.row 0 13 [aO { m with from':=c.id } ev])⟩:St):=x1.set (Nat.le_refl _) (w1 _ _ hg1) w _
 have hg2:(⟨S1.next,S1.heap.put S.next (.row 0 13 [aO { m with from':=c.id } ev])⟩:St).heap.get S.next=some (.row 0 13 [aO { m with from':=c.id } ev]):=Tr.get_put_sameB _ _ _ trivial
 generalize (⟨S1.next,S1.heap.put S.next (.row 0 13 [aO { m with from':=c.id } ev])⟩:St)=S2 at e1 x2 hg2
 have e2:=dD (S:=S2) (x:=.int .i64 c.h.term) (j:=3) (m:=1) hg2 rfl rfl (by show 3+1≤13;omega)
 have c2:splice (aO { m with from':=c.id } ev) 3 (V.int .i64 c.h.term).cells=aO { m with from':=c.id,term:=c.h.term } ev:=rfl
 rw [c2] at e2
 have hlt2:S.next<S2.next:=by have:=x2.wf w _ _ hg2;exact this
 have x3:Ext S (⟨S2.next,S2.heap.put S.next (.row 0 13 [aO { m with from':=c.id,term:=c.h.term } ev])⟩:St):=x2.set (Nat.le_refl _) hlt2 w _
 have hg3:(⟨S2.next,S2.heap.put S.next (.row 0 13 [aO { m with from':=c.id,term:=c.h.term } ev])⟩:St).heap.get S.next=some (.row 0 13 [aO { m with from':=c.id,term:=c.h.term } ev]):=Tr.get_put_sameB _ _ _ trivial
 generalize (⟨S2.next,S2.heap.put S.next (.row 0 13 [aO { m with from':=c.id,term:=c.h.term } ev])⟩:St)=S3 at e2 x3 hg3
 have w3:=x3.wf w
 have h1:=h.ext w x1
 have h2:=h.ext w x2
 have h3:=h.ext w x3
 have ho':aU (aO { m with from':=c.id,term:=c.h.term } ev)=true:=ho
 have hfree:(⟨S3.next+11,S3.heap⟩:St).heap.get (S3.next+7)=none:=jE w3 11 (S3.next+7) (by omega)
 have e3:=gZ (⟨S3.next+11,S3.heap⟩:St) (S3.next+6) 13 (aO { m with from':=c.id,term:=c.h.term } ev) rfl ho' (by omega)
 have x4:Ext S3 (⟨S3.next+11,S3.heap.put (S3.next+6) (.row 0 13 [aO { m with from':=c.id,term:=c.h.term } ev])⟩:St):=
  ((Ext.refl S3).bump 11).set (by omega) (by show S3.next+6<S3.next+11;omega) w3 _
 have hel:bY (⟨S3.next+11,S3.heap.put (S3.next+6) (.row 0 13 [aO { m with from':=c.id,term:=c.h.term } ev])⟩:St) (.sl (S3.next+6) 0 13 0 1)=.ok [aO { m with from':=c.id,term:=c.h.term } ev]:=by
  simp only [bY,eR]
  rfl
 have hf7:(⟨S3.next+11,S3.heap.put (S3.next+6) (.row 0 13 [aO { m with from':=c.id,term:=c.h.term } ev])⟩:St).heap.get (S3.next+7)=none:=by
  show (S3.heap.put _ _).get _=none
  rw [Tr.get_put_neB _ _ _ _ trivial (by omega)];exact hfree
 have hn4:S3.next+7<(⟨S3.next+11,S3.heap.put (S3.next+6) (.row 0 13 [aO { m with from':=c.id,term:=c.h.term } ev])⟩:St).next:=by show S3.next+7<S3.next+11;omega
 simp only at e3
 generalize (⟨S3.next+11,S3.heap.put (S3.next+6) (.row 0 13 [aO { m with from':=c.id,term:=c.h.term } ev])⟩:St)=S4 at e3 x4 hel hf7 hn4
 have x04:=x3.trans x4
 have w4:=x04.wf w
 have h4:=h.ext w x04
 have hrl:rows.length=c.out.length:=h.lets.len.symm
 obtain ⟨ov',S5,e5,w5,n5,o5,b5,k5,_⟩:=Mn.pushAt (b:=128) h4.out w4 hel ⟨rfl,ho'⟩ hn4 hf7 (by omega) (by unfold fU;omega)
 have hk5:∀ y b,S.heap.get y=some b→bJ ov≠some y→S5.heap.get y=some b:=fun y b hy hb=>by
  have hlt:=w y b hy
  rw [k5 y (by have:=x3.next;omega) hb];exact x04.old _ _ hy
 obtain ⟨S6,e6,h6,m6,n6⟩:=h.w_out w w5 (by rw [n5];exact x04.next) hk5 o5 (fun y hy=>by
  rcases b5 with b5 | b5
  ·rw [b5] at hy;cases hy;exact .inr (by have:=x3.next;omega)
  ·rw [b5] at hy;exact .inl hy) (All2.app (a:={ m with from':=c.id,term:=c.h.term }) ⟨ev,rfl,hm.1,fun y hy he=>hm.2 y hy (.inr (.inl he))⟩ h.lets) (Gd.app h.gd (by rw [n5];exact x04.next) _ hg)
 refine e71 ?_
 simp only [m71,bH,ho,hln,aJ,hn1,aF,aI,dI,lU,aK9,eO,cW,kO,aG,cR,aPx,uD,mD,aPy,Nat.reduceAdd,aL,h1.r_id,h2.r_term,h3.r_out,e1,e2,bO,nP hg3,aW0,e3,aR7,e5,e6]
 exact Ok.ret ⟨rfl,ov',_,h6,m6⟩
theorem g71 (m:Letter) (ev:V) (w:WF S) (h:WIn S a c O) (hm:vW S O m ev) (hl:c.out.length≤1000000):WMeth 71 [.ptr a 0 0 0,.agg (aO m ev)] a (c.post m) S O (.tup []):=by
 obtain ⟨lv,ov,rows,h,rfl⟩:=h
 exact (a71 m ev w h hm hl).mono fun u S' ⟨e,ov',rows',h',m'⟩=>⟨e,_,⟨lv,ov',rows',h',rfl⟩,m'⟩
end
end
end Go.Proofs.Ytbiidlmhadihlaa
end
section
namespace Go.AM
theorem Ok.loopE {σ ρ α X:Type} {F:Nat→KS→List V→St→(List V→St→An)→An} {out:Nat→KS→X→St→An} (all:List α) {step:σ→α→ρ⊕σ} {fin:σ→ρ} (Inv:Nat→σ→List V→St→Prop) (Post:ρ→X→St→Prop)
  (hstep:∀ i a s vs S,Inv i s vs S→all[i]?=some a→OkL out (fun k K bD=>F k K vs S bD) (pZ step Inv Post i s a))
  (hend:∀ s vs S,Inv all.length s vs S→OkL out (fun k K bD=>F k K vs S bD) (fun t=>∃ x S',t=.stop x S'∧Post (fin s) x S'))
  {s:σ} {vs:List V} {S:St} (hI:Inv 0 s vs S) {Q:V→St→Prop} (hout:∀ x S',Post (fF step fin all s) x S'→Ok (fun k K=>out k K x S') Q):Ok (fun k K=>cQ k vs S (F k K)) Q:=by
 refine Ok.loop all Inv Post (fun i a s vs S hI hi=>?_) (fun s vs S hI=>?_) hI hout
 ·obtain ⟨o,N,hq,h⟩:=hstep i a s vs S hI hi
  cases o with
  | stop x S'=>
   obtain ⟨r,h1,h2⟩:=hq
   exact ⟨N,.inl ⟨r,x,S',h1,h2,h⟩⟩
  | next vs' S'=>
   obtain ⟨s',h1,h2⟩:=hq
   exact ⟨N,.inr ⟨s',vs',S',h1,h2,h⟩⟩
 ·obtain ⟨o,N,⟨x,S',e,hp⟩,h⟩:=hend s vs S hI
  subst e
  exact ⟨N,x,S',hp,h⟩
end Go.AM
namespace Go.Proofs.Ytbiidlmhadihlaa
open Go.AM Go.Raft Try
set_option linter.unusedVariables false
set_option linter.unusedSectionVars false
set_option linter.unusedSimpArgs false
set_option maxRecDepth 100000
variable [Guard]
theorem qH (x i:V):aP prog 42 x i=aCs 7 1 x i:=qD (by kernel_rfl) x i
theorem aOd {S S2:St} {u:V} {l:List Entry} (w:WF S) (x02:Ext S S2) (own1:Own S S2 3 u (l.map bM)) (hl:l.length≤1000) (e:Entry) (z:List V) (n k1 k2:Nat) (hk1:k1<n) (hk2:k2<n) (hk:k2≠k1):
  ∃ S3 u' S4,cK 3 z 1 [(0,.agg (bM e))] (some (S2.next+k1)) (⟨S2.next+n,S2.heap⟩:St)=.ok (.sl (S2.next+k1) 0 3 0 1,S3)∧gP 3 32 u (.sl (S2.next+k1) 0 3 0 1) (some (S2.next+k2)) S3=.ok (u',S4)∧Ext S S4∧Own S S4 3 u' ((l++[e]).map bM):=by
 have w2:=x02.wf w
 have hfree:(⟨S2.next+n,S2.heap⟩:St).heap.get (S2.next+k2)=none:=jE w2 n (S2.next+k2) (by omega)
 have e3:=gZ (⟨S2.next+n,S2.heap⟩:St) (S2.next+k1) 3 (bM e) rfl rfl (by omega) z
 have x3:Ext S2 (⟨S2.next+n,S2.heap.put (S2.next+k1) (.row 0 3 [bM e])⟩:St):=((Ext.refl S2).bump n).set (by omega) (by show S2.next+k1<S2.next+n;omega) w2 _
 have hel:bY (⟨S2.next+n,S2.heap.put (S2.next+k1) (.row 0 3 [bM e])⟩:St) (.sl (S2.next+k1) 0 3 0 1)=.ok [bM e]:=by
  simp only [bY,eR]
  rfl
 have hf7:(⟨S2.next+n,S2.heap.put (S2.next+k1) (.row 0 3 [bM e])⟩:St).heap.get (S2.next+k2)=none:=by
  show (S2.heap.put _ _).get _=none
  rw [Tr.get_put_neB _ _ _ _ trivial (by omega)];exact hfree
 have hn4:S2.next+k2<(⟨S2.next+n,S2.heap.put (S2.next+k1) (.row 0 3 [bM e])⟩:St).next:=by show S2.next+k2<S2.next+n;omega
 simp only at e3
 generalize (⟨S2.next+n,S2.heap.put (S2.next+k1) (.row 0 3 [bM e])⟩:St)=S3 at e3 x3 hel hf7 hn4
 have hn:=x02.next
 obtain ⟨u',S4,q1,q2,q3,q4,q5,q6⟩:=Own.pushAt (b:=32) (own1.ext x3) (x02.trans x3) w hel (fun c hc=>by rw [List.mem_singleton.1 hc];exact ⟨rfl,rfl⟩) (by simp) (by omega) hn4 hf7 (by rw [List.length_map];simp only [List.length_cons,List.length_nil];omega) (by rw [List.length_map];simp only [List.length_cons,List.length_nil];unfold fU;omega)
 exact ⟨S3,u',S4,e3,q1,q2,by rw [List.map_append];exact q4⟩
theorem aOe (s:List UInt8) (o:Nat) (t:Nat) (ho:o≤s.length) (ht:t=min (o+600) s.length):(s.take t).drop o=(s.drop o).take 600:=by
 rw [List.drop_take]
 by_cases h:o+600≤s.length
 ·have e:t - o=600:=by omega
  rw [e]
 ·have e:t - o=(s.drop o).length:=by rw [List.length_drop];omega
  rw [e,List.take_length,List.take_of_length_le (by rw [List.length_drop];omega)]
section
variable {S:St} {a:Nat} {c:Core} {O:Nat→Prop}
theorem g79 {f:Int} (w:WF S) (h:WIn S a c O) (ok:Hok c.h) (hl:c.out.length≤1000000) (f0:0≤f) (f1:f<7) (hp:Pok c (c.peer f)):WMeth 79 [.ptr a 0 0 0,.int .i64 f] a (c.send f) S O (.tup []):=by
 obtain ⟨n,rfl⟩:∃ n:Nat,f=(n:Int):=⟨f.toNat,by omega⟩
 have hn:n<7:=by omega
 have hpe:c.peers.getD n ⟨0,0,0⟩=c.peer (n:Int):=rfl
 have hin:=h
 obtain ⟨lv,ov,rows,h,rfl⟩:=h
 have hr:=cZ ok
 have hb:=ok.b0
 have v0:=h.r_next hn
 have v2:=h.r_off hn
 rw [hpe] at v0 v2
 have x0:Ext S (⟨S.next+12,S.heap⟩:St):=(Ext.refl S).bump 12
 have w0:=x0.wf w
 refine e79 ?_
 simp only [m79,aI,vV,oH,dI,dM,kN,mX,mY,aG,aF,Nat.reduceAdd,Nat.zero_add,Nat.add_zero,qH,eK hn,aL,cR,uE,v0,v2,h.r_base,h.r_snap,h.r_baseTerm,h.r_mem,dH,kG]
 refine Ok.pickP (fun e=>?_) (fun e=>?_)
 ·have ho:(c.peer (n:Int)).off≤c.h.snap.length:=by rcases hp.o1 with h1 | h1<;>omega
  have ho0:=hp.o0
  have hsl:=ok.sl
  have hw:wr .i64 ((c.peer (n:Int)).off+600)=(c.peer (n:Int)).off+600:=cS (by omega) (by omega)
  have hb1:gE c.h.snap.length (some (.int .i64 (c.peer (n:Int)).off)) (some (.int .i64 (min ((c.peer (n:Int)).off+600) c.h.snap.length)))=.ok ((c.peer (n:Int)).off.toNat,(min ((c.peer (n:Int)).off+600) c.h.snap.length).toNat):=by
   have q1:(0:Int)≤min ((c.peer (n:Int)).off+600) c.h.snap.length:=by omega
   have q2:min ((c.peer (n:Int)).off+600) (c.h.snap.length:Int)≤c.h.snap.length:=by omega
   have q3:(c.peer (n:Int)).off≤(((min ((c.peer (n:Int)).off+600) c.h.snap.length).toNat:Nat):Int):=by omega
   simp only [gE,q1,q2,q3,ho0,decide_true,Bool.and_self,cond_true]
  have ht:=aOe c.h.snap (c.peer (n:Int)).off.toNat (min ((c.peer (n:Int)).off+600) (c.h.snap.length:Int)).toNat (by omega) (by omega)
  simp only [bK,hw,aF,lZ,aWg,hb1,ht,jB,aKh]
  have xb:Ext S (⟨S.next+71,S.heap⟩:St):=(Ext.refl S).bump 71
  have hs:c.send (n:Int)=c.post { Letter.zero with kind:=5,to:=(n:Int),index:=c.h.base,at':=c.h.baseTerm,members:=c.h.members,off:=(c.peer (n:Int)).off,size:=c.h.snap.length,data:=(c.h.snap.drop (c.peer (n:Int)).off.toNat).take 600 }:=by
   unfold Core.send;simp only;rw [if_pos e]
  rw [hs]
  refine WMeth.call (g71 (O:=dP a lv ov) _ .nils (xb.wf w) (hin.ext w xb) (Apart.nil _ _ rfl) hl) (xb.wf w) fun S3 O3 w3 h3 m3=>?_
  exact Ok.ret ⟨rfl,O3,h3,(Mv.of xb).trans w m3⟩
 ·have hnx:=hp.n1
  have hn0:=hp.n0
  have hlast:c.last=c.h.base+c.h.log.length:=rfl
  have hw1:wr .i64 ((c.peer (n:Int)).next - 1)=(c.peer (n:Int)).next - 1:=cS (by omega) (by omega)
  have hw2:wr .i64 ((c.peer (n:Int)).next - 1+1)=(c.peer (n:Int)).next:=by rw [cS (by omega) (by omega)];omega
  simp only [cE,hw1,aF,bK,hw2]
  obtain ⟨d,hd⟩:∃ d:Nat,(c.peer (n:Int)).next - c.h.base - 1=(d:Int):=⟨((c.peer (n:Int)).next - c.h.base - 1).toNat,by omega⟩
  have hs:c.send (n:Int)=c.post { Letter.zero with kind:=3,to:=(n:Int),index:=(c.peer (n:Int)).next - 1,at':=c.term ((c.peer (n:Int)).next - 1),entries:=(c.h.log.drop d).take 8,commit:=c.sure }:=by
   unfold Core.send;simp only;rw [if_neg e,hd];rfl
  rw [hs]
  generalize hx:(c.peer (n:Int)).next=x at hd hnx hn0 e hw1 hw2
  have hall:((c.h.log.drop d).take 8).length=min 8 (c.h.log.length - d):=by rw [List.length_take,List.length_drop]
  have hll:=ok.ll
  refine Ok.loopE (F:=fun k K=>aEm (aE prog aW aX k) k K (.ptr a 0 0 0) (.int .i64 (n:Int)) (.int .i64 (x - 1))) (ρ:=List Entry) (α:=Entry) (X:=V) ((c.h.log.drop d).take 8) (step:=fun l e=>.inr (l++[id e])) (fin:=id) (s:=[])
   (out:=fun k K v S'=>aEl (aE prog aW aX k) k K (.ptr a 0 0 0) (.int .i64 (n:Int)) (.int .i64 (x - 1)) v S')
   (fun i l vs S'=>∃ v,vs=[v,.int .i64 (x+i)]∧Ext S S'∧Own S S' 3 v (l.map bM)∧l.length=i)
   (fun l v S'=>Ext S S'∧Own S S' 3 v (l.map bM)) ?_ ?_ ⟨.nils,by simp,x0,Own.nil _ _ _,rfl⟩ (fun v S' ⟨x',o'⟩=>?_)
  ·rintro i y l vs S1 ⟨v,rfl,x1,o1,hli⟩ hi
   have hil:=(List.getElem?_eq_some_iff.1 hi).1
   rw [hall] at hil
   have hi8:i<8:=by omega
   have hid:d+i<c.h.log.length:=by omega
   have hy:c.h.log[d+i]?=some y:=by
    rw [List.getElem?_take,if_pos hi8,List.getElem?_drop] at hi;exact hi
   have w1:=x1.wf w
   have hle:x+(i:Int)≤c.last:=by omega
   have hw3:wr .i64 (x+i - c.h.base)=x+i - c.h.base:=cS (by omega) (by omega)
   have hw4:wr .i64 (x+i - c.h.base - 1)=((d+i:Nat):Int):=by rw [cS (by omega) (by omega)];push_cast;omega
   have hw5:wr .i64 (x+i+1)=x+((i+1:Nat):Int):=by rw [cS (by omega) (by omega)];push_cast;omega
   have hl8:(l.length:Int)<8:=by omega
   have h1:=h.ext w x1
   simp only [aEm,aY]
   refine (a43 h1 ok.b0 ok.b1 (Nat.le_trans hll (by decide))).callL fun S2 x2=>?_
   have x02:=x1.trans x2
   have h2:=h.ext w x02
   obtain ⟨p,hp',hat,_,_⟩:=h2.log.sl.elem hy
   have hat0:aR (some 3) p S2=.ok (.agg (bM y)):=by rw [hat.load0];exact cM _ _ rfl
   obtain ⟨S3,u',S4,q1,q2,x4,o4⟩:=aOd w x02 (o1.ext x2) (by omega) y [.int .i64 0,.int .i64 0,.str []] 19 16 17 (by decide) (by decide) (by decide)
   simp only [dH,hle,decide_true,bA,aF,eA,(o1.ext x2).sl.lenI,aZ,hl8,aI,dI,cO,dM,aG,Nat.reduceAdd,eC,cR,aBh,aL,h2.r_log,h2.r_base,cE,hw3,hw4,oL,hp',hat0,aA0,q1,kR,q2,bK,hw5]
   exact OkL.next ⟨l++[y],rfl,u',rfl,x4,o4,by rw [List.length_append,hli];rfl⟩
  ·rintro l vs S1 ⟨v,rfl,x1,o1,hli⟩
   have h1:=h.ext w x1
   simp only [aEm,aY]
   refine (a43 h1 ok.b0 ok.b1 (Nat.le_trans hll (by decide))).callL fun S2 x2=>?_
   have o2:=o1.ext x2
   simp only [dH,aF,eA,o2.sl.lenI,aZ]
   by_cases hle:x+(((c.h.log.drop d).take 8).length:Int)≤c.last
   ·have hl8:¬ (l.length:Int)<8:=by rw [hli,hall];rw [hall] at hle;omega
    simp only [hle,decide_true,bA,hl8,decide_false,aK]
    exact OkL.stop v ⟨v,S2,rfl,x1.trans x2,o2⟩ (by intros;rfl)
   ·simp only [hle,decide_false,aK]
    exact OkL.stop v ⟨v,S2,rfl,x1.trans x2,o2⟩ (by intros;rfl)
  ·rw [jK,lB,List.nil_append,List.map_id] at o'
   have w':=x'.wf w
   have h':=h.ext w x'
   have xc:Ext S' (⟨S'.next+13,S'.heap⟩:St):=(Ext.refl S').bump 13
   simp only [aEl,aI,jP,aG,Nat.reduceAdd,aF,cR,aL,h'.r_sure]
   refine (a72 (h'.ext w' xc) ok.b0 ok.b1 (Nat.le_trans hll (by decide)) (n:=x - 1) (by omega) (by omega)).call fun S5 x5=>?_
   have x45:=xc.trans x5
   have x05:=x'.trans x45
   have h5:=h'.ext w' x45
   have w5:=x45.wf w'
   have o5:Mn S5 3 v (((c.h.log.drop d).take 8).map bM):=(o'.ext x45).weaken (Nat.zero_le _)
   have hap:vW S5 (dP a lv ov) { Letter.zero with kind:=3,to:=(n:Int),index:=x - 1,at':=c.term (x - 1),entries:=(c.h.log.drop d).take 8,commit:=c.sure } v:=by
    refine ⟨⟨o5.sl,fun y hy hO=>?_⟩,fun y hy=>?_⟩
    ·have h1:=qZ w h hO
     have h3:=(jD o' hy).1
     omega
    ·have h1:=h.gd.1
     have h3:=(jD o' hy).1
     omega
   simp only [h5.r_sure,aF,bO,aJ,jB,aNx o5]
   refine WMeth.call (g71 (O:=dP a lv ov) _ v w5 (hin.ext w x05) hap hl) w5 fun S6 O6 w6 h6 m6=>?_
   exact Ok.ret ⟨rfl,O6,h6,(Mv.of x05).trans w m6⟩
end
end Go.Proofs.Ytbiidlmhadihlaa
end
section
namespace Go.Proofs.Ytbiidlmhadihlaa
open Go.AM Go.Raft Try
section
variable [Guard]
theorem mT (g:Core→Int→Core) (m id:Int):∀ (l:List Int) (d:Core),((l.filter (cN m)).filter fun f=>!decide (f=id)).foldl g d=l.foldl (fun d f=>if f≠id∧cN m f=true then g d f else d) d
 | [],d=>rfl
 | f::l,d=>by
  rw [List.filter_cons,List.foldl_cons]
  by_cases h1:cN m f=true
  ·rw [if_pos h1,List.filter_cons]
   by_cases h2:f=id
   ·rw [if_neg (by simp [h2]),if_neg (fun q=>q.1 h2)];exact mT g m id l d
   ·rw [if_pos (by simp [h2]),if_pos ⟨h2,h1⟩,List.foldl_cons];exact mT g m id l _
  ·rw [if_neg h1,if_neg (fun q=>h1 q.2)];exact mT g m id l d
def jZ (g:Core→Int→Core) (c0:Core) (d:Core) (i:Nat):Core⊕Core:=.inr (if (i:Int)≠c0.id∧cN c0.members (i:Int)=true then g d (i:Int) else d)
theorem aWo (g:Core→Int→Core) (c d:Core):fF (jZ g c) id (List.range 7) d=c.others.foldl g d:=by
 have h:c.others.foldl g d=ids.foldl (fun d f=>if f≠c.id∧cN c.members f=true then g d f else d) d:=mT g c.members c.id ids d
 rw [h]
 have e:fF (jZ g c) id (List.range 7) d=(List.range 7).foldl (fun d (i:Nat)=>if (i:Int)≠c.id∧cN c.members (i:Int)=true then g d (i:Int) else d) d:=jK _ _ _
 rw [e]
 rfl
structure OthI (a:Nat) (c:Core) (O:Nat→Prop) (S:St) (i:Nat) (d:Core) (S':St):Prop where
 wf:WF S'
 core:∃ O',WIn S' a d O'∧Mv O S O' S'
 sent:Sent c d
 out:d.out.length≤c.out.length+i
section
variable {S:St} {a:Nat} {c:Core} {O:Nat→Prop}
theorem g68 (w:WF S) (h:WIn S a c O) (ok:Hok c.h) (hl:c.out.length≤999990) (hp:∀ p∈c.peers,Pok c p):WMeth 68 [.ptr a 0 0 0] a (c.others.foldl Core.send c) S O (.tup []):=by
 have hm:=eN ok
 refine e68 ?_
 simp only [m68]
 refine (g75 w h ok).call fun S1 x1=>?_
 have w1:=x1.wf w
 rw [←aWo]
 refine Ok.loopL (F:=fun k K=>aEf (aE prog aW aX k) k K (.ptr a 0 0 0) (.int .i64 c.members)) (ρ:=Core) (α:=Nat) (X:=Core) (List.range 7) (step:=jZ Core.send c) (fin:=id) (s:=c)
  (out:=fun k K x S'=>K (.tup []) S')
  (fun i d vs S'=>vs=[.int .i64 (i:Int)]∧OthI a c O S i d S')
  (fun d x S'=>d=x∧∃ O',WIn S' a d O'∧Mv O S O' S') ?_ ?_ ⟨rfl,w1,⟨O,h.ext w x1,Mv.of x1⟩,Sent.refl c,Nat.le_refl _⟩ (fun x S' ⟨e,O',h1,h2⟩=>Ok.ret ⟨rfl,O',e▸h1,h2⟩)
 ·rintro i i' d vs S2 ⟨rfl,w2,⟨O2,in2,m2⟩,s2,l2⟩ hi
  obtain ⟨hil,hj⟩:=List.getElem?_eq_some_iff.1 hi
  rw [List.length_range] at hil
  rw [List.getElem_range] at hj
  subst hj
  have hlt:(i:Int)<7:=Int.ofNat_lt.2 hil
  have hw:=cP hil (by decide)
  have hi0:(0:Int)≤(i:Int):=Int.natCast_nonneg i
  have hin2:=in2
  obtain ⟨lv,ov,rows,h2,hO⟩:=in2
  have nx:∀ S',Ext S2 S'→¬ ((i:Int)≠c.id∧cN c.members (i:Int)=true)→pZ (jZ Core.send c) (fun i d vs S'=>vs=[.int .i64 (i:Int)]∧OthI a c O S i d S') (fun (d x:Core) S'=>d=x∧∃ O',WIn S' a d O'∧Mv O S O' S') i d i (.next [.int .i64 ((i+1:Nat):Int)] S'):=fun S' x hno=>
   ⟨d,by unfold jZ;rw [if_neg hno],rfl,x.wf w2,⟨O2,hin2.ext w2 x,m2.trans w (Mv.of x)⟩,s2,Nat.le_trans l2 (Nat.le_succ _)⟩
  have hid:d.id=c.id:=s2.id
  simp only [aEf,aY,aZ,aF,hlt,decide_true,bA,aI,lU,aG,Nat.reduceAdd,cR,h2.r_id,hid,aS,aJ,cJ]
  refine OkL.pickN (fun e=>?_) (fun e=>by
   simp only [aEe,aK,bK,hw,aF]
   exact OkL.next (nx S2 (Ext.refl _) (fun q=>q.1 e)))
  refine (g30 c.members i S2 (by omega)).callL fun S3 x3=>?_
  have w3:=x3.wf w2
  simp only [aEe]
  refine OkL.pick (fun e2=>?_) (fun e2=>by
   simp only [bK,hw,aF]
   exact OkL.next (nx S3 x3 (fun q=>by rw [q.2] at e2;cases e2)))
  have hpk:Pok d (d.peer (i:Int)):=Pok.of s2.h (hp _ (by rw [←s2.peers];exact mS hin2.peers hi0 hlt))
  refine (g79 w3 (hin2.ext w2 x3) (by rw [s2.h];exact ok) (aIy l2 hl hil (by decide)) hi0 hlt hpk).callL w3 fun S4 O4 w4 in4 m4=>?_
  simp only [bK,hw,aF]
  refine OkL.next ⟨d.send (i:Int),by unfold jZ;rw [if_pos ⟨e,e2⟩],rfl,w4,⟨O4,in4,(m2.trans w (Mv.of x3)).trans w m4⟩,s2.trans (Sent.send d _),?_⟩
  rw [aAp];exact Nat.add_le_add_right l2 1
 ·rintro d vs S2 ⟨rfl,w2,⟨O2,in2,m2⟩,s2,l2⟩
  have hlt:¬ (((List.range 7).length:Nat):Int)<7:=by rw [List.length_range];decide
  refine ⟨d,⟨rfl,O2,in2,m2⟩,fun k K bD=>?_⟩
  simp only [aEf,aY,aZ,aF,hlt,decide_false,aK]
theorem aM2 {h:Hard} (ok:Hok h) {x y:Int} (h1:h.base≤x) (h2:x≤y) (h3:y≤cF h):termH h x≤termH h y:=by
 by_cases e:x=y
 ·rw [e];exact Int.le_refl _
 ·obtain ⟨z,hz⟩:=mQ (h:=h) (n:=y) (by omega) h3
  rw [iB (by omega) hz]
  by_cases e2:x=h.base
  ·rw [e2,sW]
   exact ((fA _ _ _).1 ok.fl).2.1 z (List.mem_of_getElem? hz)
  ·refine Hok.drop ok (n:=x) (by omega) (by omega) z ?_
   refine List.mem_of_getElem? (i:=(y - x - 1).toNat) ?_
   rw [List.getElem?_drop]
   rw [show (x - h.base).toNat+(y - x - 1).toNat=(y - h.base - 1).toNat by omega]
   exact hz
theorem aD0 {c:Core} (ok:Hok c.h) (m:Int):∀ (k:Nat) (n s:Int),n≤c.last→c.h.base≤s→(s<n→c.term n≠c.h.term)→jL c m k n s=s
 | 0,n,s,_,_,_=>rfl
 | k+1,n,s,h1,h2,h3=>by
  unfold jL
  by_cases e:n≤s
  ·rw [if_pos e]
  ·rw [if_neg e,if_neg (fun q=>h3 (by omega) q.1)]
   refine aD0 ok m k (n - 1) s (by omega) h2 (fun h4 q=>h3 (by omega) ?_)
   have a1:c.term (n - 1)≤c.term n:=aM2 ok (by omega) (by omega) h1
   have a2:=(aNu ok (n:=n) (by omega) h1).2
   have a3:c.term n=termH c.h n:=rfl
   omega
def rA (c:Core) (m:Int) (_:Unit) (i:Nat):Int⊕Unit:=if c.last - i≤c.sure then .inl c.sure else if c.term (c.last - i)≠c.h.term then .inl c.sure else if jG m (aA5 c.peers 0 (c.last - i))=true then .inl (c.last - i) else .inr ()
theorem aKs (c:Core) (m:Int):∀ (k:Nat) (n s:Int),n≤s→jL c m k n s=s
 | 0,n,s,_=>rfl
 | k+1,n,s,h=>by unfold jL;rw [if_pos h]
theorem aHg {c:Core} (ok:Hok c.h) (m:Int) (hs:c.h.base≤c.sure):∀ (k i:Nat),c.last - i≤c.last→fF (rA c m) (fun _=>c.sure) (List.range' i k) ()=jL c m k (c.last - i) c.sure
 | 0,i,_=>rfl
 | k+1,i,hi=>by
  rw [List.range'_succ]
  simp only [fF,rA]
  by_cases e:c.last - (i:Int)≤c.sure
  ·rw [if_pos e,aKs _ _ _ _ _ e]
  ·rw [if_neg e]
   by_cases e2:c.term (c.last - i)=c.h.term
   ·rw [if_neg (fun q=>q e2)]
    by_cases e3:jG m (aA5 c.peers 0 (c.last - i))=true
    ·rw [if_pos e3]
     unfold jL
     rw [if_neg e,if_pos ⟨e2,e3⟩,aKs _ _ _ _ _ (by omega)]
    ·rw [if_neg e3]
     simp only
     rw [aHg ok m hs k (i+1) (by omega)]
     conv=>rhs;unfold jL
     rw [if_neg e,if_neg (fun q=>e3 q.2)]
     congr 1
     push_cast;omega
   ·rw [if_pos e2]
    simp only
    rw [aD0 ok m (k+1) _ _ hi hs (fun _=>e2)]
end
end
section
variable [Guard]
theorem aB0 {i:Nat} (hi:i<7):aD prog .shl 3 (.int .i64 1) (.int .i64 (i:Int))=.ok (.int .i64 ((2:Int) ^ i)):=by
 have hp:=qB hi
 have:min ((i:Int).toNat) IntKind.i64.bits=i:=by show min ((i:Int).toNat) 64=_;omega
 simp only [aD,mH,show ¬ (i:Int)<0 by omega,decide_false,cond_false,this,Int.one_mul]
 rw [cS (by omega) (by omega)]
theorem aOf {y:Int} {i:Nat} (y0:0≤y) (y1:y<2 ^ i):0≤y+2 ^ i∧y+2 ^ i<2 ^ (i+1)∧y<2 ^ (i+1):=by
 have hpow:(2:Int) ^ (i+1)=2*2 ^ i:=by rw [Int.pow_succ];omega
 rw [hpow]
 omega
section
variable {S:St} {a:Nat} {c:Core} {O:Nat→Prop} {k:Came} {lv ov:V} {rows:List (List V)}
theorem j98 (s:Int) (w:WF S) (h:WIn S a { c with sure:=s } O) (ok:Hok c.h) (hlook:c.look=if cN (eP c.h).1 c.id=false∧(eP c.h).2≤s then ({ c with sure:=s }:Core).rest else { c with sure:=s }):
  Ok (fun k K=>vT (aE prog aW aX k) k K (.ptr a 0 0 0) (.int .i64 (eP c.h).1) (.int .i64 (eP c.h).2) S) (fun u S'=>u=.tup []∧∃ O',WIn S' a c.look O'∧Mv O S O' S'):=by
 have hmr:=eN ok
 have hm:(eP c.h).1=c.members:=rfl
 have hin:=h
 obtain ⟨lv,ov,rows,h,hO⟩:=h
 simp only [vT,aI,lU,aG,Nat.reduceAdd,aF,cR,h.r_id]
 refine (g30 _ _ S (by rw [hm];omega)).call fun S4 x4=>?_
 have w4:=x4.wf w
 have in4:=hin.ext w x4
 have h4:=h.ext w x4
 have keep:¬ (cN (eP c.h).1 c.id=false∧(eP c.h).2≤s)→Ok (fun k K=>zZ (aE prog aW aX k) k K (.ptr a 0 0 0) (.bool false) S4) (fun u S'=>u=.tup []∧∃ O',WIn S' a c.look O'∧Mv O S O' S'):=fun hn=>by
  simp only [zZ,aK]
  exact Ok.ret ⟨rfl,O,by rw [hlook,if_neg hn];exact in4,Mv.of x4⟩
 simp only [dS,aF]
 refine Ok.pick (fun e=>?_) (fun e=>keep (fun q=>by rw [q.1] at e;cases e))
 simp only [aI,jP,aG,Nat.reduceAdd,aF,cR,h4.r_sure,dH]
 by_cases e2:(eP c.h).2≤s
 ·obtain ⟨S5,q5,h5,m5,_⟩:=h4.w_role w4 1
  have w5:=m5.wf w4
  obtain ⟨S6,q6,h6',m6,_⟩:=h5.w_leads w5 (-1)
  have h6:WAt S6 a { c with sure:=s,role:=1,leads:=-1 } (gC c.way) lv ov rows:=h6'
  clear h6'
  have w6:=m6.wf w5
  obtain ⟨S7,q7,h7',m7,_⟩:=h6.w_left w6 c.drawn
  have h7:WAt S7 a ({ c with sure:=s }:Core).rest (gC c.way) lv ov rows:=h7'
  clear h7'
  rw [←hO] at m5 m6 m7
  simp only [e2,decide_true,zZ,bA,aI,gQ,sS,aA1,oI,aG,Nat.reduceAdd,aF,cR,mD,q5,q6,h6.r_drawn,q7]
  exact Ok.ret ⟨rfl,O,by rw [hlook,if_pos ⟨by simpa using e,e2⟩];exact ⟨_,_,_,h7,hO⟩,(((Mv.of x4).trans w m5).trans w m6).trans w m7⟩
 ·simp only [e2,decide_false]
  exact keep (fun q=>e2 q.2)
theorem g98 (w:WF S) (h:WIn S a c O) (ok:Hok c.h) (hs0:c.h.base≤c.sure) (hs1:c.sure≤c.last):WMeth 98 [.ptr a 0 0 0] a c.look S O (.tup []):=by
 have hr:=cZ ok
 have hb:=ok.b0
 have hl:=ok.ll
 have hin:=h
 obtain ⟨lv,ov,rows,h,hO⟩:=h
 have hpl:=h.peers
 refine e98 ?_
 simp only [m98,aI,dI,aG,aF,Nat.reduceAdd,mE,h.r_hard]
 refine (g42 c.h lv S w h.log.sl (by omega) ok.b0 ok.b1).call fun S1 x1=>?_
 have w1:=x1.wf w
 simp only [eH,List.getElem?_cons_zero,List.getElem?_cons_succ,iP]
 refine (g43 (hin.ext w x1) ok).call fun S2 x2=>?_
 have x02:=x1.trans x2
 have w2:=x2.wf w1
 have in2:=hin.ext w x02
 have hk:((c.last - c.sure).toNat:Int)=c.last - c.sure:=by omega
 refine Ok.loopE (F:=fun k K=>aEr (aE prog aW aX k) k K (.ptr a 0 0 0) (.int .i64 (eP c.h).1) (.int .i64 (eP c.h).2)) (ρ:=Int) (α:=Nat) (X:=Unit) (List.range' 0 (c.last - c.sure).toNat) (step:=rA c (eP c.h).1) (fin:=fun _=>c.sure) (s:=())
  (out:=fun k K _ S'=>vT (aE prog aW aX k) k K (.ptr a 0 0 0) (.int .i64 (eP c.h).1) (.int .i64 (eP c.h).2) S')
  (fun i _ vs S'=>vs=[.int .i64 (c.last - i)]∧Ext S S')
  (fun s _ S'=>WF S'∧WIn S' a { c with sure:=s } O∧Mv O S O S') ?_ ?_ ⟨by simp,x02⟩ (fun _ S3 ⟨w3,in3,m3⟩=>?_)
 ·rintro i j _ vs S3 ⟨rfl,x3⟩ hi
  obtain ⟨hil,hj⟩:=List.getElem?_eq_some_iff.1 hi
  rw [List.length_range'] at hil
  rw [List.getElem_range'] at hj
  have hj:j=i:=by omega
  subst hj
  have w3:=x3.wf w
  have in3:=hin.ext w x3
  have h3:=h.ext w x3
  have hlt:c.last - (j:Int)≥c.h.base:=by omega
  have hgt:¬ c.last - (j:Int)≤c.sure:=by omega
  generalize hq:c.last - (j:Int)=n at hlt hgt
  have hnl:n≤c.last:=by omega
  have hnn:c.last - ((j+1:Nat):Int)=n - 1:=by rw [←hq];push_cast;omega
  have hw:wr .i64 (n - 1)=n - 1:=cS (by omega) (by omega)
  have hdec:c.sure<n:=by omega
  have hy7:=aAg hpl n
  have xb:Ext S3 (⟨S3.next+17,S3.heap⟩:St):=(Ext.refl S3).bump 17
  simp only [aEr,aY,aI,jP,dI,eO,aG,Nat.reduceAdd,aF,cR,aL,h3.r_sure,h3.r_term,bX,hdec,decide_true,bA]
  refine (g72 (in3.ext w3 xb) ok (n:=n) hlt hnl).callL fun S4 x4=>?_
  have x34:=xb.trans x4
  have x04:=x3.trans x34
  have w4:=x04.wf w
  have h4:=h.ext w x04
  simp only [h4.r_term,aF,bO,aJ,aS,bR]
  refine OkL.pickP (fun e=>?_) (fun e=>OkL.stop () ⟨c.sure,by unfold rA;rw [hq,if_neg hgt,if_pos e],w4,hin.ext w x04,Mv.of x04⟩ (by intros;rfl))
  refine OkL.loop (F:=fun k K ag=>sR (aE prog aW aX k) k K ag (.ptr a 0 0 0) (.int .i64 (eP c.h).1) (.int .i64 (eP c.h).2) (.int .i64 n)) (ρ:=Int) (α:=Nat) (Y:=Int) (List.range 7) (step:=lA c.peers n) (fin:=id) (s:=0)
   (out2:=fun k K ag y S'=>sR (aE prog aW aX k) k K ag (.ptr a 0 0 0) (.int .i64 (eP c.h).1) (.int .i64 (eP c.h).2) (.int .i64 n) [.int .i64 y,.int .i64 7] S' (fun _ _=>none))
   (fun i y vs S'=>vs=[.int .i64 y,.int .i64 (i:Int)]∧S'=S4∧0≤y∧y<2 ^ i)
   (fun r y S'=>r=y∧S'=S4) ?_ ?_ ⟨rfl,rfl,by omega,by decide⟩ (fun y S5 ⟨hy,e5⟩=>?_)
  ·rintro i i' y vs S5 ⟨rfl,rfl,y0,y1⟩ hi'
   obtain ⟨hil',hj'⟩:=List.getElem?_eq_some_iff.1 hi'
   rw [List.length_range] at hil'
   rw [List.getElem_range] at hj'
   subst hj'
   have hlt':(i:Int)<7:=Int.ofNat_lt.2 hil'
   have hw':=cP hil' (by decide)
   have v1:=h4.r_mtch hil'
   have hsh:=aB0 hil'
   obtain ⟨z1,z2,z3⟩:=aOf (i:=i) y0 y1
   refine ⟨0,.inr ?_⟩
   by_cases hd':n≤(c.peers.getD i ⟨0,0,0⟩).mtch
   ·refine ⟨y+2 ^ i,[.int .i64 (y+2 ^ i),.int .i64 ((i+1:Nat):Int)],S5,by unfold lA;rw [if_pos hd'],⟨rfl,rfl,z1,z2⟩,fun k K ag bD _=>?_⟩
    have hor:aD prog .or 3 (.int .i64 y) (.int .i64 ((2:Int) ^ i))=.ok (.int .i64 (y+2 ^ i)):=by
     simp only [aD,bU,cond_true,eE,aNy y0 y1 hil']
    simp only [sR,aY,aZ,hlt',decide_true,bA,aF,aI,sT,aG,Nat.reduceAdd,qH,eK hil',cR,v1,dA,hd',hsh,hor,bK,hw']
   ·refine ⟨y,[.int .i64 y,.int .i64 ((i+1:Nat):Int)],S5,by unfold lA;rw [if_neg hd'],⟨rfl,rfl,y0,z3⟩,fun k K ag bD _=>?_⟩
    simp only [sR,aY,aZ,hlt',decide_true,bA,aF,aI,sT,aG,Nat.reduceAdd,qH,eK hil',cR,v1,dA,hd',decide_false,aK,bK,hw']
  ·rintro y vs S5 ⟨rfl,rfl,y0,y1⟩
   refine ⟨0,y,S5,⟨rfl,rfl⟩,fun k K ag bD _=>?_⟩
   have hlt':¬ (((List.range 7).length:Nat):Int)<7:=by rw [List.length_range];decide
   have hlt7:¬ (7:Int)<7:=by decide
   simp only [sR,aY,aZ,hlt',hlt7,decide_false,aK,aF]
  ·rw [aWh hpl] at hy
   subst hy
   subst e5
   have hlt7:¬ (7:Int)<7:=by decide
   simp only [sR,aY,aZ,hlt7,decide_false,aK,aF]
   refine (g69 _ _ S5 hy7.1 hy7.2).callL fun S6 x6=>?_
   have x06:=x04.trans x6
   have w6:=x06.wf w
   have h6:=h.ext w x06
   refine OkL.pick (fun e2=>?_) (fun e2=>?_)
   ·obtain ⟨S7,q7,h7,m7,n7⟩:=h6.w_sure w6 n
    rw [←hO] at m7
    simp only [aI,jP,aG,Nat.reduceAdd,aF,mD,q7]
    exact OkL.stop () ⟨n,by unfold rA;rw [hq,if_neg hgt,if_neg (fun q=>q e),if_pos e2],m7.wf w6,⟨_,_,_,h7,hO⟩,(Mv.of x06).trans w m7⟩ (by intros;rfl)
   ·simp only [cE,hw,aF]
    exact OkL.next ⟨(),by unfold rA;rw [hq,if_neg hgt,if_neg (fun q=>q e),if_neg (fun q=>by rw [q] at e2;cases e2)],by rw [hnn],x06⟩
 ·rintro _ vs S3 ⟨rfl,x3⟩
  rw [List.length_range',hk]
  have h3:=h.ext w x3
  have hdec:¬ c.sure<c.last - (c.last - c.sure):=by omega
  simp only [aEr,aY,aI,jP,aG,Nat.reduceAdd,aF,cR,aL,h3.r_sure,bX,hdec,decide_false,aK]
  have xb:Ext S3 (⟨S3.next+17,S3.heap⟩:St):=(Ext.refl S3).bump 17
  have x0b:=x3.trans xb
  exact OkL.stop () ⟨(),_,rfl,x0b.wf w,hin.ext w x0b,Mv.of x0b⟩ (by intros;rfl)
 ·rw [aHg ok _ hs0 _ _ (by omega)] at in3
  have e0:c.last - ((0:Nat):Int)=c.last:=by simp
  rw [e0] at in3
  refine (j98 _ w3 in3 ok (by unfold Core.look;rfl)).mono fun u S4 ⟨e,O4,i4,m4⟩=>⟨e,O4,i4,m3.trans w m4⟩
end
end
section
variable [Guard]
theorem aUx (c:Core):c.own=(if (c.setPeer c.id { c.peer c.id with mtch:=c.last }).look.role=3 then (c.setPeer c.id { c.peer c.id with mtch:=c.last }).look.others.foldl Core.send (c.setPeer c.id { c.peer c.id with mtch:=c.last }).look else (c.setPeer c.id { c.peer c.id with mtch:=c.last }).look):=rfl
theorem aWp {l:List Peer} (hl:l.length=7) {i:Nat} (hi:i<7) (x:Int):
  ((l.set i { l.getD i ⟨0,0,0⟩ with next:=x }).set i { (l.set i { l.getD i ⟨0,0,0⟩ with next:=x }).getD i ⟨0,0,0⟩ with mtch:=0 }).set i { ((l.set i { l.getD i ⟨0,0,0⟩ with next:=x }).set i { (l.set i { l.getD i ⟨0,0,0⟩ with next:=x }).getD i ⟨0,0,0⟩ with mtch:=0 }).getD i ⟨0,0,0⟩ with off:=0 }=l.set i ⟨x,0,0⟩:=by
 simp only [List.set_set,List.getD_eq_getElem?_getD,List.getElem?_set_self (show i<l.length by omega),Option.getD_some]
section
variable {S:St} {a:Nat} {c:Core} {O:Nat→Prop} {k:Came} {lv ov:V} {rows:List (List V)}
theorem aWq (w:WF S) (h:WIn S a c O) (ok:Hok c.h) (i0:0≤c.id) (i1:c.id<7) (hs0:c.h.base≤c.sure) (hs1:c.sure≤c.last) (hl:c.out.length≤999990) (hp:c.role=3→∀ p∈c.peers,Pok c p) (d:Core) (hd:d=c.setPeer c.id { c.peer c.id with mtch:=c.last }) {S1:St} {O1:Nat→Prop} (w1:WF S1) (in1:WIn S1 a d O1) (m1:Mv O S O1 S1)
  {G:Nat→KS→An} (hG:G=fun k K=>aE prog aW aX k 98 [.ptr a 0 0 0] S1 fun t8 S9=>dR (aR none (.ptr a 0 0 8) S9) fun t11=>bG (aH prog 3 t11 (.int .i64 3)) (dR (aD prog .eql 3 t11 (.int .i64 3)) fun t12=>
   aC t12 (aE prog aW aX k 68 [.ptr a 0 0 0] S9 fun t13 S14=>K (.tup []) S14) (K (.tup []) S9))):
  Ok G (fun u S'=>u=.tup []∧∃ O',WIn S' a c.own O'∧Mv O S O' S'):=by
 subst hG
 rw [aUx,←hd]
 have hdh:d.h=c.h:=by rw [hd];rfl
 have hds:d.sure=c.sure:=by rw [hd];rfl
 have hdl:d.last=c.last:=by unfold Core.last;rw [hdh]
 have hdo:d.out=c.out:=by rw [hd];rfl
 have hdr:d.role=c.role:=by rw [hd];rfl
 refine WMeth.call (g98 w1 in1 (by rw [hdh];exact ok) (by rw [hdh,hds];exact hs0) (by rw [hds,hdl];exact hs1)) w1 fun S2 O2 w2 in2 m2=>?_
 obtain ⟨e1,e2,e3,e4,e5⟩:=qX d
 generalize hde:d.look=e at in2 e1 e2 e3 e4 e5
 have hin2:=in2
 obtain ⟨lv,ov,rows,h2,hO⟩:=in2
 simp only [h2.r_role,aF,aS,aJ,bR]
 refine Ok.pickP (fun q=>?_) (fun q=>Ok.ret ⟨rfl,O2,by rw [if_neg q];exact hin2,m1.trans w m2⟩)
 rw [if_pos q]
 refine WMeth.call (g68 w2 hin2 (by rw [e1,hdh];exact ok) (by rw [e3,hdo];exact hl) (fun p hpm=>?_)) w2 fun S4 O4 w4 in4 m4=>Ok.ret ⟨rfl,O4,in4,(m1.trans w m2).trans w m4⟩
 rw [e2] at hpm
 have hr':c.role=3:=by rw [←hdr];exact e5 q
 have hdp:d.peers=c.peers.set c.id.toNat { c.peer c.id with mtch:=c.last }:=by rw [hd];rfl
 rw [hdp] at hpm
 rcases List.mem_or_eq_of_mem_set hpm with hpm | rfl
 ·exact Pok.of (c:=c) (by rw [e1,hdh]) (hp hr' p hpm)
 ·have q2:=hp hr' _ (mS (by have:=hin2.peers;rw [e2,hdp,List.length_set] at this;exact this) i0 i1)
  have hbase:=ok.b0
  have hlr:=cZ ok
  exact Pok.of (c:=c) (p:={ c.peer c.id with mtch:=c.last }) (by rw [e1,hdh]) ⟨hlr.1,Int.le_refl _,q2.n0,q2.n1,q2.o0,q2.o1⟩
theorem g80 (w:WF S) (h:WIn S a c O) (ok:Hok c.h) (i0:0≤c.id) (i1:c.id<7) (hs0:c.h.base≤c.sure) (hs1:c.sure≤c.last) (hl:c.out.length≤999990) (hp:c.role=3→∀ p∈c.peers,Pok c p):WMeth 80 [.ptr a 0 0 0] a c.own S O (.tup []):=by
 obtain ⟨n,hn⟩:∃ n:Nat,c.id=(n:Int):=⟨c.id.toNat,by omega⟩
 have hn7:n<7:=by omega
 have hin:=h
 obtain ⟨lv,ov,rows,h,hO⟩:=h
 have xb:Ext S (⟨S.next+11,S.heap⟩:St):=(Ext.refl S).bump 11
 refine e80 ?_
 simp only [m80,aI,lU,sT,aG,aF,Nat.reduceAdd,cR,aL,h.r_id]
 refine (g43 (hin.ext w xb) ok).call fun S1 x1=>?_
 have x01:=xb.trans x1
 have w1:=x01.wf w
 have h1:=h.ext w x01
 obtain ⟨S2,q2,h2,m2,n2⟩:=h1.w_mtch w1 hn7 c.last
 simp only [h1.r_id,aF,bO,aJ,hn,qH,eK hn7,mD,q2,aI,gQ,aG,Nat.reduceAdd,cR]
 have w2:=m2.wf w1
 have hset:({ c with peers:=c.peers.set n { c.peers.getD n ⟨0,0,0⟩ with mtch:=c.last } }:Core)=c.setPeer c.id { c.peer c.id with mtch:=c.last }:=by
  unfold Core.setPeer Core.peer;rw [hn];rfl
 rw [hset] at h2
 rw [←hO] at m2
 exact aWq w hin ok i0 i1 hs0 hs1 hl hp _ rfl w2 ⟨_,_,_,h2,hO⟩ ((Mv.of (O:=O) x01).trans w m2) rfl
theorem j70 (w:WF S) (h:WIn S a c O) (ok:Hok c.h) (i0:0≤c.id) (i1:c.id<7) (hs0:c.h.base≤c.sure) (hs1:c.sure≤c.last) (hl:c.out.length≤999990) (hp:c.role=3→∀ p∈c.peers,Pok c p):
  Ok (fun k K=>zU (aE prog aW aX k) k K (.ptr a 0 0 0) S) (fun u S'=>u=.tup []∧∃ O',WIn S' a c.own O'∧Mv O S O' S'):=by
 obtain ⟨n,hn⟩:∃ n:Nat,c.id=(n:Int):=⟨c.id.toNat,by omega⟩
 have hn7:n<7:=by omega
 have hin:=h
 obtain ⟨lv,ov,rows,h,hO⟩:=h
 have xb:Ext S (⟨S.next+11,S.heap⟩:St):=(Ext.refl S).bump 11
 simp only [zU,aI,lU,sT,aG,aF,Nat.reduceAdd,cR,aL,h.r_id]
 refine (g43 (hin.ext w xb) ok).call fun S1 x1=>?_
 have x01:=xb.trans x1
 have w1:=x01.wf w
 have h1:=h.ext w x01
 obtain ⟨S2,q2,h2,m2,n2⟩:=h1.w_mtch w1 hn7 c.last
 simp only [h1.r_id,aF,bO,aJ,hn,qH,eK hn7,mD,q2,aI,gQ,aG,Nat.reduceAdd,cR]
 have w2:=m2.wf w1
 have hset:({ c with peers:=c.peers.set n { c.peers.getD n ⟨0,0,0⟩ with mtch:=c.last } }:Core)=c.setPeer c.id { c.peer c.id with mtch:=c.last }:=by
  unfold Core.setPeer Core.peer;rw [hn];rfl
 rw [hset] at h2
 rw [←hO] at m2
 exact aWq w hin ok i0 i1 hs0 hs1 hl hp _ rfl w2 ⟨_,_,_,h2,hO⟩ ((Mv.of (O:=O) x01).trans w m2) rfl
theorem aOg (h:WAt S a c k lv ov rows) (w:WF S) (x:Entry) (z:List V) (n k1 k2:Nat) (hk1:k1<n) (hk2:k2<n) (hk:k2≠k1) (hl:c.h.log.length≤1000000):
  ∃ S1 lv' S2 S3,cK 3 z 1 [(0,.agg (bM x))] (some (S.next+k1)) (⟨S.next+n,S.heap⟩:St)=.ok (.sl (S.next+k1) 0 3 0 1,S1)∧gP 3 32 lv (.sl (S.next+k1) 0 3 0 1) (some (S.next+k2)) S1=.ok (lv',S2)∧bV 1 (.ptr a 0 0 6) lv' S2=.ok S3 ∧
   WAt S3 a { c with h:={ c.h with log:=c.h.log++[x] } } k lv' ov rows∧Mv (dP a lv ov) S (dP a lv' ov) S3:=by
 have hfree:(⟨S.next+n,S.heap⟩:St).heap.get (S.next+k2)=none:=jE w n (S.next+k2) (by omega)
 have e3:=gZ (⟨S.next+n,S.heap⟩:St) (S.next+k1) 3 (bM x) rfl rfl (by omega) z
 have x4:Ext S (⟨S.next+n,S.heap.put (S.next+k1) (.row 0 3 [bM x])⟩:St):=
  ((Ext.refl S).bump n).set (by omega) (by show S.next+k1<S.next+n;omega) w _
 have hel:bY (⟨S.next+n,S.heap.put (S.next+k1) (.row 0 3 [bM x])⟩:St) (.sl (S.next+k1) 0 3 0 1)=.ok [bM x]:=by
  simp only [bY,eR]
  rfl
 have hf7:(⟨S.next+n,S.heap.put (S.next+k1) (.row 0 3 [bM x])⟩:St).heap.get (S.next+k2)=none:=by
  show (S.heap.put _ _).get _=none
  rw [Tr.get_put_neB _ _ _ _ trivial (by omega)];exact hfree
 have hn4:S.next+k2<(⟨S.next+n,S.heap.put (S.next+k1) (.row 0 3 [bM x])⟩:St).next:=by show S.next+k2<S.next+n;omega
 simp only at e3
 generalize (⟨S.next+n,S.heap.put (S.next+k1) (.row 0 3 [bM x])⟩:St)=S1 at e3 x4 hel hf7 hn4
 have w1:=x4.wf w
 have h1:=h.ext w x4
 have hll:(c.h.log.map bM).length=c.h.log.length:=List.length_map ..
 obtain ⟨lv',S2,e5,w5,n5,o5,b5,k5,_⟩:=Mn.pushAt (b:=32) h1.log w1 hel ⟨rfl,rfl⟩ hn4 hf7 (by omega) (by unfold fU;omega)
 have o5':Mn S2 3 lv' ((c.h.log++[x]).map bM):=by rw [List.map_append];exact o5
 obtain ⟨S3,e6,h6,m6,n6⟩:=h.w_log w w5 (by rw [n5];exact x4.next) (fun y b hy hb=>by
  have hlt:=w y b hy
  rw [k5 y (by omega) hb];exact x4.old _ _ hy) o5' (fun y hy=>by
  rcases b5 with b5 | b5
  ·rw [b5] at hy;cases hy;exact .inr (by omega)
  ·rw [b5] at hy;exact .inl hy)
 exact ⟨S1,lv',S2,S3,e3,e5,e6,h6,m6⟩
theorem g70 (w:WF S) (h:WIn S a c O) (ok:Hok c.h) (i0:0≤c.id) (i1:c.id<7) (ht:1≤c.h.term) (hs0:c.h.base≤c.sure) (hs1:c.sure≤c.last) (hl:c.out.length≤999990):WMeth 70 [.ptr a 0 0 0] a c.lead S O (.tup []):=by
 have hr:=cZ ok
 have hb:=ok.b0
 obtain ⟨lv,ov,rows,h,rfl⟩:=h
 obtain ⟨S1,q1,h1,m1,n1⟩:=h.w_role w 3
 have w1:=m1.wf w
 obtain ⟨S2,q2,h2,m2,n2⟩:=h1.w_leads w1 c.id
 have w2:=m2.wf w1
 obtain ⟨S3,q3,h3',m3,n3⟩:=h2.w_left w2 3
 have h3:WAt S3 a { c with role:=3,leads:=c.id,left:=3 } (gC c.way) lv ov rows:=h3'
 clear h3'
 have w3:=m3.wf w2
 have mv3:=(m1.trans w m2).trans w m3
 refine e70 ?_
 simp only [m70,aI,lU,gQ,sS,oI,aG,aF,Nat.reduceAdd,cR,mD,h1.r_id,q1,q2,q3]
 generalize hc1:({ c with role:=3,leads:=c.id,left:=3 }:Core)=c1 at h3
 have e1:c1.h=c.h:=by rw [←hc1]
 have ew:c1.way=c.way:=by rw [←hc1]
 have el:c1.last=c.last:=by unfold Core.last;rw [e1]
 have ok1:Hok c1.h:=by rw [e1];exact ok
 have hpl:c1.peers.length=7:=h3.peers
 rw [←ew] at h3
 have hwl:wr .i64 (c1.last+1)=c1.last+1:=cS (by omega) (by omega)
 refine Ok.loopL (F:=fun k K=>vN (aE prog aW aX k) k K (.ptr a 0 0 0)) (ρ:=List Peer) (α:=Nat) (X:=List Peer) (List.range 7) (step:=fun l i=>.inr (l.set i ⟨c.last+1,0,0⟩)) (fin:=id) (s:=c1.peers)
  (out:=fun k K l S'=>vN (aE prog aW aX k) k K (.ptr a 0 0 0) [.int .i64 7] S' (fun _ _=>none))
  (fun i l vs S'=>vs=[.int .i64 (i:Int)]∧WF S'∧l.length=7∧WIn S' a { c1 with peers:=l } (dP a lv ov)∧Mv (dP a lv ov) S (dP a lv ov) S')
  (fun l x S'=>WF S'∧l.length=7∧WIn S' a { c1 with peers:=l } (dP a lv ov)∧Mv (dP a lv ov) S (dP a lv ov) S') ?_ ?_ ⟨rfl,w3,hpl,⟨lv,ov,rows,h3,rfl⟩,mv3⟩ (fun l S4 ⟨w4,hl7,in4,mv4⟩=>?_)
 ·rintro i i' l vs S4 ⟨rfl,w4,hl7,in4,mv4⟩ hi
  obtain ⟨hil,hj⟩:=List.getElem?_eq_some_iff.1 hi
  rw [List.length_range] at hil
  rw [List.getElem_range] at hj
  subst hj
  have hlt:(i:Int)<7:=Int.ofNat_lt.2 hil
  have hw:=cP hil (by decide)
  have xb:Ext S4 (⟨S4.next+9,S4.heap⟩:St):=(Ext.refl S4).bump 9
  simp only [vN,aY,aZ,aF,hlt,decide_true,bA,aI,vV,aG,Nat.reduceAdd]
  refine (g43 (in4.ext w4 xb) ok1).callL fun S5 x5=>?_
  have x45:=xb.trans x5
  have w5:=x45.wf w4
  obtain ⟨lv',ov',rows',h5,hO5⟩:=in4.ext w4 x45
  obtain ⟨S6,q6,h6,m6,n6⟩:=h5.w_next w5 hil (c1.last+1)
  have w6:=m6.wf w5
  obtain ⟨S7,q7,h7,m7,n7⟩:=h6.w_mtch w6 hil 0
  have w7:=m7.wf w6
  obtain ⟨S8,q8,h8',m8,n8⟩:=h7.w_off w7 hil 0
  have h8:WAt S8 a { c1 with peers:=l.set i ⟨c.last+1,0,0⟩ } (gC c1.way) lv' ov' rows':=by
   have e:=aWp hl7 hil (c1.last+1)
   rw [el] at e
   rw [←e]
   rw [el] at h8'
   exact h8'
  clear h8'
  rw [←hO5] at m6 m7 m8
  have hlast:({ c1 with peers:=l }:Core).last=c1.last:=rfl
  simp only [hlast,bK,hwl,hw,aF,qH,eK hil,mD,q6,aI,sT,oH,aG,Nat.reduceAdd,q7,q8]
  exact OkL.next ⟨l.set i ⟨c.last+1,0,0⟩,rfl,rfl,m8.wf w7,by rw [List.length_set];exact hl7,⟨lv',ov',rows',h8,hO5⟩,((((mv4.trans w (Mv.of x45)).trans w m6).trans w m7).trans w m8)⟩
 ·rintro l vs S4 ⟨rfl,w4,hl7,in4,mv4⟩
  have hlt:¬ (((List.range 7).length:Nat):Int)<7:=by rw [List.length_range];decide
  have hlt7:¬ (7:Int)<7:=by decide
  refine ⟨l,⟨w4,hl7,in4,mv4⟩,fun k K bD=>?_⟩
  simp only [vN,aY,aZ,aF,hlt,hlt7,decide_false,aK]
 ·rw [jK,aKi _ hpl] at in4
  have hlt7:¬ (7:Int)<7:=by decide
  simp only [vN,aY,aZ,aF,hlt7,decide_false,aK]
  generalize hc2:({ c1 with peers:=List.replicate 7 ⟨c.last+1,0,0⟩ }:Core)=c2 at in4
  have e2:c2.h=c.h:=by rw [←hc2];exact e1
  have el2:c2.last=c.last:=by unfold Core.last;rw [e2]
  have ok2:Hok c2.h:=by rw [e2];exact ok
  have hc2':c2={ c with role:=3,leads:=c.id,left:=3,peers:=List.replicate 7 ⟨c.last+1,0,0⟩ }:=by rw [←hc2,←hc1]
  have hpk:∀ p∈c2.peers,p=⟨c.last+1,0,0⟩:=fun p hp=>by rw [hc2'] at hp;exact List.eq_of_mem_replicate hp
  have hlead:c.lead=(if c.last<1099511627776∧c.h.log.length<200 then { c2 with h:={ c2.h with log:=c2.h.log++[⟨c2.h.term,0,[]⟩] } } else c2).own:=by unfold Core.lead;rw [hc2']
  refine (g43 in4 ok2).call fun S5 x5=>?_
  have w5:=x5.wf w4
  have in5:=in4.ext w4 x5
  have hin5:=in5
  obtain ⟨lv',ov',rows',h5,hO5⟩:=in5
  have mv5:=mv4.trans w (Mv.of x5)
  have fin0:¬ (c.last<1099511627776∧c.h.log.length<200)→Ok (fun k K=>zU (aE prog aW aX k) k K (.ptr a 0 0 0) S5) (fun u S'=>u=.tup []∧∃ O',WIn S' a c.lead O'∧Mv (dP a lv ov) S O' S'):=fun hno=>by
   rw [hlead,if_neg hno]
   refine (j70 w5 hin5 ok2 (by rw [hc2'];exact i0) (by rw [hc2'];exact i1) (by rw [hc2'];exact hs0) (by rw [el2,hc2'];exact hs1) (by rw [hc2'];exact hl) (fun _ p hp=>?_)).mono fun u S6 ⟨e,O6,in6,m6⟩=>⟨e,O6,in6,mv5.trans w m6⟩
   rw [hpk p hp]
   exact ⟨Int.le_refl _,by show 0≤c2.last;omega,by show 1≤c.last+1;omega,by show c.last+1≤c2.last+1;omega,Int.le_refl _,.inr rfl⟩
  simp only [el2]
  refine Ok.pickP (fun e=>?_) (fun e=>?_)
  ·simp only [aI,dI,cO,aG,Nat.reduceAdd,aF,eC,h5.r_log,eA,h5.log.sl.lenI,aZ,e2]
   by_cases e3:((c.h.log.length:Nat):Int)<200
   ·obtain ⟨S6,lv6,S7,S8,r1,r2,r3,h8,m8⟩:=aOg h5 w5 ⟨c2.h.term,0,[]⟩ [.int .i64 0,.int .i64 0,.str []] 18 12 13 (by decide) (by decide) (by decide) (by rw [e2];have:=ok.ll;omega)
    have w8:=m8.wf w5
    simp only [zV,e3,decide_true,bA,aI,dI,cO,eO,aG,Nat.reduceAdd,aF,eC,cR,aL,h5.r_log,h5.r_term,aLp,wS,aA0,r1,kR,r2,sV,r3]
    rw [hlead,if_pos ⟨e,by omega⟩]
    rw [←hO5] at m8
    have okp:=Hok.push ok (x:=⟨c.h.term,0,[]⟩) ⟨ht,Int.le_refl _,Int.le_refl _,by show (0:Int)≤127;omega,by simp,.inl rfl⟩ rfl (by omega) e
    refine (j70 w8 ⟨_,_,_,h8,rfl⟩ (by show Hok { c2.h with log:=_ };rw [e2];exact okp) (by rw [hc2'];exact i0) (by rw [hc2'];exact i1) (by rw [hc2'];exact hs0) ?_ (by rw [hc2'];exact hl) (fun _ p hp=>?_)).mono fun u S9 ⟨e,O9,in9,m9⟩=>⟨e,O9,in9,(mv5.trans w m8).trans w m9⟩
    ·rw [hc2'];unfold Core.last cF at hs1 ⊢;simp;omega
    ·rw [hpk p hp]
     have hlen:({ c2 with h:={ c2.h with log:=c2.h.log++[⟨c2.h.term,0,[]⟩] } }:Core).last=c.last+1:=by rw [hc2'];unfold Core.last cF;simp;omega
     exact ⟨Int.le_refl _,by rw [hlen];show 0≤c.last+1;omega,by show 1≤c.last+1;omega,by rw [hlen];show c.last+1≤c.last+1+1;omega,Int.le_refl _,.inr rfl⟩
   ·simp only [zV,e3,decide_false,aK]
    exact fin0 (fun q=>e3 (by omega))
  ·simp only [zV,aK]
   exact fin0 (fun q=>e q.1)
end
end
section
variable [Guard]
def aD1 (d:Core) (f:Int):Core:=d.post { Letter.zero with kind:=1,to:=f,index:=d.last,at':=d.term d.last }
section
variable {S:St} {a:Nat} {c:Core} {O:Nat→Prop}
theorem l37 (w:WF S) (h:WIn S a c O) (ok:Hok c.h) (hl:c.out.length≤999990):Ok (fun k K=>cQ k [.int .i64 0] S (zM (aE prog aW aX k) k K (.ptr a 0 0 0) (.int .i64 c.members))) (fun u S'=>u=.tup []∧∃ O',WIn S' a (c.others.foldl aD1 c) O'∧Mv O S O' S'):=by
 have hm:=eN ok
 rw [←aWo]
 refine Ok.loopL (F:=fun k K=>zM (aE prog aW aX k) k K (.ptr a 0 0 0) (.int .i64 c.members)) (ρ:=Core) (α:=Nat) (X:=Core) (List.range 7) (step:=jZ aD1 c) (fin:=id) (s:=c)
  (out:=fun k K x S'=>K (.tup []) S')
  (fun i d vs S'=>vs=[.int .i64 (i:Int)]∧OthI a c O S i d S')
  (fun d x S'=>d=x∧∃ O',WIn S' a d O'∧Mv O S O' S') ?_ ?_ ⟨rfl,w,⟨O,h,Mv.refl O S⟩,Sent.refl c,Nat.le_refl _⟩ (fun x S' ⟨e,O',h1,h2⟩=>Ok.ret ⟨rfl,O',e▸h1,h2⟩)
 ·rintro i i' d vs S2 ⟨rfl,w2,⟨O2,in2,m2⟩,s2,l2⟩ hi
  obtain ⟨hil,hj⟩:=List.getElem?_eq_some_iff.1 hi
  rw [List.length_range] at hil
  rw [List.getElem_range] at hj
  subst hj
  have hlt:(i:Int)<7:=Int.ofNat_lt.2 hil
  have hw:=cP hil (by decide)
  have hin2:=in2
  obtain ⟨lv,ov,rows,h2,hO⟩:=in2
  have okd:Hok d.h:=by rw [s2.h];exact ok
  have nx:∀ S',Ext S2 S'→¬ ((i:Int)≠c.id∧cN c.members (i:Int)=true)→pZ (jZ aD1 c) (fun i d vs S'=>vs=[.int .i64 (i:Int)]∧OthI a c O S i d S') (fun (d x:Core) S'=>d=x∧∃ O',WIn S' a d O'∧Mv O S O' S') i d i (.next [.int .i64 ((i+1:Nat):Int)] S'):=fun S' x hno=>
   ⟨d,by unfold jZ;rw [if_neg hno],rfl,x.wf w2,⟨O2,hin2.ext w2 x,m2.trans w (Mv.of x)⟩,s2,Nat.le_trans l2 (Nat.le_succ _)⟩
  have hid:d.id=c.id:=s2.id
  simp only [zM,aY,aZ,aF,hlt,decide_true,bA,aI,lU,aG,Nat.reduceAdd,cR,h2.r_id,hid,aS,aJ,cJ]
  refine OkL.pickN (fun e=>?_) (fun e=>by
   simp only [aE3,aK,bK,hw,aF]
   exact OkL.next (nx S2 (Ext.refl _) (fun q=>q.1 e)))
  refine (g30 c.members i S2 (by omega)).callL fun S3 x3=>?_
  have w3:=x3.wf w2
  simp only [aE3]
  refine OkL.pick (fun e2=>?_) (fun e2=>by
   simp only [bK,hw,aF]
   exact OkL.next (nx S3 x3 (fun q=>by rw [q.2] at e2;cases e2)))
  have in3:=hin2.ext w2 x3
  refine (g43 in3 okd).callL fun S4 x4=>?_
  have w4:=x4.wf w3
  have in4:=in3.ext w3 x4
  refine (g43 in4 okd).callL fun S5 x5=>?_
  have w5:=x5.wf w4
  have in5:=in4.ext w4 x5
  refine (g72 in5 okd (n:=d.last) (by have:=okd.li;unfold Core.last cF;omega) (Int.le_refl _)).callL fun S6 x6=>?_
  have w6:=x6.wf w5
  have in6:=in5.ext w5 x6
  have x26:=x3.trans (x4.trans (x5.trans x6))
  simp only [jB,aNz,aF]
  refine (g71 _ .nils w6 in6 (Apart.nil _ _ rfl) (aIy l2 hl hil (by decide))).callL w6 fun S7 O7 w7 in7 m7=>?_
  simp only [bK,hw,aF]
  refine OkL.next ⟨aD1 d (i:Int),by unfold jZ;rw [if_pos ⟨e,e2⟩],rfl,w7,⟨O7,in7,(m2.trans w (Mv.of x26)).trans w m7⟩,s2.trans (Sent.post d _),?_⟩
  show (d.post _).out.length≤_
  rw [aH4];exact Nat.add_le_add_right l2 1
 ·rintro d vs S2 ⟨rfl,w2,⟨O2,in2,m2⟩,s2,l2⟩
  have hlt:¬ (((List.range 7).length:Nat):Int)<7:=by rw [List.length_range];decide
  refine ⟨d,⟨rfl,O2,in2,m2⟩,fun k K bD=>?_⟩
  simp only [zM,aY,aZ,aF,hlt,decide_false,aK]
theorem j37 (w:WF S) (h:WIn S a c O) (ok:Hok c.h) (i0:0≤c.id) (i1:c.id<7) (ht:c.h.term<1099511627776) (hs0:c.h.base≤c.sure) (hs1:c.sure≤c.last) (hl:c.out.length≤999990):
  Ok (fun k K=>zN (aE prog aW aX k) k K (.ptr a 0 0 0) (.int .i64 (eP c.h).1) S) (fun u S'=>u=.tup []∧∃ O',WIn S' a c.stand O'∧Mv O S O' S'):=by
 have ht0:=ok.t0
 obtain ⟨n,hn⟩:∃ n:Nat,c.id=(n:Int):=⟨c.id.toNat,by omega⟩
 have hn7:n<7:=by omega
 have hw:wr .i64 (c.h.term+1)=c.h.term+1:=cS (by omega) (by omega)
 have hpow:=qB hn7
 have hv127:(2:Int) ^ n≤127:=by omega
 have hv0:(0:Int)≤2 ^ n:=by omega
 have okc:Hok { c.h with term:=c.h.term+1,vote:=c.id }:=by
  have k:=ok
  exact ⟨by show 0≤c.h.term+1;omega,by show c.h.term+1≤_;omega,by show -1≤c.id;omega,by show c.id<7;omega,k.m0,k.m1,k.b0,k.b1,k.bt0,by show c.h.baseTerm≤c.h.term+1;have:=k.bt1;omega,k.btz,k.ll,k.li,lY (by show c.h.term≤c.h.term+1;omega) k.fl,k.sz,k.sl⟩
 have hnn:c.id.toNat=n:=by omega
 have ht1:(1:Int)≤c.h.term+1:=by omega
 obtain ⟨lv,ov,rows,h,rfl⟩:=h
 obtain ⟨S1,q1,h1,m1,_⟩:=h.w_term w (c.h.term+1)
 have w1:=m1.wf w
 obtain ⟨S2,q2,h2',m2,_⟩:=h1.w_vote w1 c.id
 have h2:WAt S2 a { c with h:={ c.h with term:=c.h.term+1,vote:=c.id } } (gC c.way) lv ov rows:=h2'
 clear h2'
 have w2:=m2.wf w1
 obtain ⟨S3,q3,h3',m3,_⟩:=h2.w_role w2 2
 have h3:WAt S3 a { c with h:={ c.h with term:=c.h.term+1,vote:=c.id },role:=2 } (gC c.way) lv ov rows:=h3'
 clear h3'
 have w3:=m3.wf w2
 obtain ⟨S4,q4,h4',m4,_⟩:=h3.w_leads w3 (-1)
 have h4:WAt S4 a { c with h:={ c.h with term:=c.h.term+1,vote:=c.id },role:=2,leads:=-1 } (gC c.way) lv ov rows:=h4'
 clear h4'
 have w4:=m4.wf w3
 obtain ⟨S5,q5,h5',m5,_⟩:=h4.w_votes w4 (2 ^ n)
 have h5:WAt S5 a { c with h:={ c.h with term:=c.h.term+1,vote:=c.id },role:=2,leads:=-1,votes:=(2:Int) ^ n } (gC c.way) lv ov rows:=h5'
 clear h5'
 have w5:=m5.wf w4
 have mv5:=(((m1.trans w m2).trans w m3).trans w m4).trans w m5
 have i1':=h1.r_id
 have i4':=h4.r_id
 generalize hc1:({ c with h:={ c.h with term:=c.h.term+1,vote:=c.id },role:=2,leads:=-1,votes:=(2:Int) ^ n }:Core)=c1 at h5
 have e1:c1.h={ c.h with term:=c.h.term+1,vote:=c.id }:=by rw [←hc1]
 have ok1:Hok c1.h:=by rw [e1];exact okc
 have el1:c1.last=c.last:=by rw [←hc1];rfl
 have hv1:c1.votes=2 ^ n:=by rw [←hc1]
 have hmm:c1.members=(eP c.h).1:=by rw [←hc1];rfl
 have hstand:c.stand=(if jG c1.members c1.votes=true then c1.lead else c1.others.foldl aD1 c1):=by
  have e:c.stand=(if jG ({ c with h:={ c.h with term:=c.h.term+1,vote:=c.id },role:=2,leads:=-1,votes:=(2:Int) ^ c.id.toNat }:Core).members (2 ^ c.id.toNat)=true then ({ c with h:={ c.h with term:=c.h.term+1,vote:=c.id },role:=2,leads:=-1,votes:=(2:Int) ^ c.id.toNat }:Core).lead else ({ c with h:={ c.h with term:=c.h.term+1,vote:=c.id },role:=2,leads:=-1,votes:=(2:Int) ^ c.id.toNat }:Core).others.foldl aD1 { c with h:={ c.h with term:=c.h.term+1,vote:=c.id },role:=2,leads:=-1,votes:=(2:Int) ^ c.id.toNat }):=rfl
  rw [e,hnn,hc1,hv1]
 have ew:c1.way=c.way:=by rw [←hc1]
 rw [←ew] at h5
 have in5:WIn S5 a c1 (dP a lv ov):=⟨_,_,_,h5,rfl⟩
 have hsh:aD prog .shl 3 (.int .i64 1) (.int .i64 c.id)=.ok (.int .i64 ((2:Int) ^ n)):=by rw [hn];exact aB0 hn7
 simp only [zN,aI,dI,lU,gQ,sS,aNp,eO,kM,aG,aF,Nat.reduceAdd,cR,mD,h.r_term,bK,hw,q1,i1',q2,q3,q4,i4',hsh,q5,h5.r_votes,hv1]
 refine (g69 _ _ S5 hv0 hv127).call fun S7 x7=>?_
 have w7:=x7.wf w5
 have in7:=in5.ext w5 x7
 have mv7:=mv5.trans w (Mv.of x7)
 have eid:c1.id=c.id:=by rw [←hc1]
 have esure:c1.sure=c.sure:=by rw [←hc1]
 have eout:c1.out=c.out:=by rw [←hc1]
 have hl1:c1.out.length≤999990:=by rw [eout];exact hl
 rw [hstand,hmm,hv1]
 refine Ok.pick (fun e=>?_) (fun e=>?_)
 ·rw [if_pos e]
  exact WMeth.call (g70 w7 in7 ok1 (by rw [eid];exact i0) (by rw [eid];exact i1) (by rw [e1];exact ht1) (by rw [e1,esure];exact hs0) (by rw [esure,el1];exact hs1) hl1) w7 fun S8 O8 w8 in8 m8=>Ok.ret ⟨rfl,O8,in8,mv7.trans w m8⟩
 ·rw [e,if_neg (by decide)]
  rw [←hmm]
  exact (l37 w7 in7 ok1 hl1).mono fun u S8 ⟨e,O8,in8,m8⟩=>⟨e,O8,in8,mv7.trans w m8⟩
theorem g37 (cH:Int) (w:WF S) (h:WIn S a c O) (I:Inv c) (hl:c.out.length≤999990):WMeth 37 [.ptr a 0 0 0,.int .i64 cH] a (c.tick cH) S O (.tup []):=by
 have ok:=I.h
 have f0:=I.f0
 have f1:=I.f1
 have hmr:=eN ok
 obtain ⟨lv,ov,rows,h,rfl⟩:=h
 have hw:wr .i64 (c.left - 1)=c.left - 1:=cS (by omega) (by omega)
 obtain ⟨S1,q1,h1,m1,n1⟩:=h.w_left w (c.left - 1)
 have w1:=m1.wf w
 refine e37 ?_
 simp only [m37,aI,oI,gQ,aG,aF,Nat.reduceAdd,cR,mD,h.r_left,cE,hw,q1,h1.r_left,bX]
 have htick:c.tick cH=(if 0<c.left - 1 then { c with left:=c.left - 1 } else if c.role=3 then ({ c with left:=3 }:Core).spread else
  if c.h.term<1099511627776∧(cN c.members c.id=true∨c.sure<(eP c.h).2) then ({ c with drawn:=cV cH,left:=cV cH }:Core).stand else { c with drawn:=cV cH,left:=cV cH }):=rfl
 rw [htick]
 refine Ok.pickP (fun e=>Ok.ret ⟨rfl,_,⟨_,_,_,by rw [if_pos e];exact h1,rfl⟩,m1⟩) (fun e=>?_)
 rw [if_neg e]
 simp only [h1.r_role,aF,aS,aJ,bR]
 refine Ok.pickP (fun e2=>?_) (fun e2=>?_)
 ·rw [if_pos e2]
  obtain ⟨S2,q2,h2',m2,n2⟩:=h1.w_left w1 3
  have h2:WAt S2 a { c with left:=3 } (gC c.way) lv ov rows:=h2'
  clear h2'
  simp only [aI,oI,aG,aF,Nat.reduceAdd,mD,q2]
  have w2:=m2.wf w1
  have hsp:({ c with left:=3 }:Core).spread=({ c with left:=3 }:Core).others.foldl Core.send { c with left:=3 }:=by unfold Core.spread;rw [if_pos e2]
  rw [hsp]
  exact WMeth.call (g68 w2 ⟨_,_,_,h2,rfl⟩ ok hl (fun p hp=>Pok.of (c:=c) (d:={ c with left:=3 }) rfl (I.pr e2 p hp))) w2 fun S3 O3 w3 in3 m3=>Ok.ret ⟨rfl,O3,in3,(m1.trans w m2).trans w m3⟩
 ·rw [if_neg e2]
  refine (g36 cH S1).call fun S2 x2=>?_
  have w2:=x2.wf w1
  have h2:=h1.ext w1 x2
  obtain ⟨S3,q3,h3',m3,n3⟩:=h2.w_drawn w2 (cV cH)
  have h3:WAt S3 a { c with left:=c.left - 1,drawn:=cV cH } (gC c.way) lv ov rows:=h3'
  clear h3'
  have w3:=m3.wf w2
  obtain ⟨S4,q4,h4',m4,n4⟩:=h3.w_left w3 (cV cH)
  have h4:WAt S4 a { c with drawn:=cV cH,left:=cV cH } (gC c.way) lv ov rows:=h4'
  clear h4'
  have w4:=m4.wf w3
  have mv4:=((m1.trans w (Mv.of x2)).trans w m3).trans w m4
  generalize hc4:({ c with drawn:=cV cH,left:=cV cH }:Core)=c4 at h4
  have e4:c4.h=c.h:=by rw [←hc4]
  have eid:c4.id=c.id:=by rw [←hc4]
  have es:c4.sure=c.sure:=by rw [←hc4]
  have eo:c4.out=c.out:=by rw [←hc4]
  have ew:c4.way=c.way:=by rw [←hc4]
  rw [←ew] at h4
  have hll:=ok.ll
  have t1:=ok.t1
  simp only [aI,aA1,oI,dI,aG,aF,Nat.reduceAdd,cR,mD,q3,h3.r_drawn,q4,mE,h4.r_hard]
  rw [e4]
  refine (g42 c.h lv S4 w4 (by rw [←e4];exact h4.log.sl) (by omega) ok.b0 ok.b1).call fun S5 x5=>?_
  have w5:=x5.wf w4
  have h5:=h4.ext w4 x5
  have in5:WIn S5 a c4 (dP a lv ov):=⟨_,_,_,h5,rfl⟩
  have mv5:=mv4.trans w (Mv.of x5)
  have hm:(eP c.h).1=c.members:=rfl
  simp only [eH,List.getElem?_cons_zero,List.getElem?_cons_succ,iP,aI,dI,lU,eO,aG,aF,Nat.reduceAdd,cR,h5.r_term,h5.r_id,aS,aJ,bR,e4,eid]
  have stand:(S6:St)→(x:Ext S5 S6)→(e3:c.h.term<1099511627776∧(cN c.members c.id=true∨c.sure<(eP c.h).2))→Ok (fun k K=>zN (aE prog aW aX k) k K (.ptr a 0 0 0) (.int .i64 (eP c.h).1) S6) (fun u S'=>u=.tup []∧∃ O',WIn S' a (if c.h.term<1099511627776∧(cN c.members c.id=true∨c.sure<(eP c.h).2) then c4.stand else c4) O'∧Mv (dP a lv ov) S O' S'):=fun S6 x e3=>by
   rw [if_pos e3]
   have w6:=x.wf w5
   have g:=j37 w6 (in5.ext w5 x) (by rw [e4];exact ok) (by rw [eid];exact I.i0) (by rw [eid];exact I.i1) (by rw [e4];exact e3.1) (by rw [e4,es];exact I.s0) (by unfold Core.last;rw [e4,es];exact I.s1) (by rw [eo];exact hl)
   rw [e4] at g
   exact g.mono fun u S7 ⟨e,O7,in7,m7⟩=>⟨e,O7,in7,(mv5.trans w (Mv.of x)).trans w m7⟩
  have stay:(S6:St)→(x:Ext S5 S6)→¬ (c.h.term<1099511627776∧(cN c.members c.id=true∨c.sure<(eP c.h).2))→Ok (fun k K=>K (.tup []) S6) (fun u S'=>u=.tup []∧∃ O',WIn S' a (if c.h.term<1099511627776∧(cN c.members c.id=true∨c.sure<(eP c.h).2) then c4.stand else c4) O'∧Mv (dP a lv ov) S O' S'):=fun S6 x hno=>
   Ok.ret ⟨rfl,_,by rw [if_neg hno];exact in5.ext w5 x,mv5.trans w (Mv.of x)⟩
  refine Ok.pickP (fun e3=>stay S5 (Ext.refl _) (fun q=>by omega)) (fun e3=>?_)
  refine (g30 _ _ S5 (by rw [hm];omega)).call fun S6 x6=>?_
  have h6:=h5.ext w5 x6
  simp only [dS,aF]
  refine Ok.pick (fun e5=>?_) (fun e5=>stand S6 x6 ⟨by omega,.inl (by simpa [hm] using e5)⟩)
  simp only [aI,jP,aG,Nat.reduceAdd,cR,h6.r_sure,aF,dH,es]
  refine Ok.pickP (fun e6=>stay S6 x6 (fun q=>?_)) (fun e6=>stand S6 x6 ⟨by omega,.inr (by omega)⟩)
  rcases q.2 with q | q
  ·rw [hm] at e5;rw [q] at e5;cases e5
  ·omega
end
end
section
variable [Guard]
section
variable {S:St} {a:Nat} {c:Core} {O:Nat→Prop}
theorem aWr (f:Int) (w:WF S) (h:WIn S a c O):WMeth 100 [.ptr a 0 0 0,.int .i64 f] a (c.hear f) S O (.tup []):=by
 obtain ⟨lv,ov,rows,h,rfl⟩:=h
 obtain ⟨S1,q1,h1,m1,n1⟩:=h.w_role w 1
 have w1:=m1.wf w
 obtain ⟨S2,q2,h2',m2,n2⟩:=h1.w_leads w1 f
 have h2:WAt S2 a { c with role:=1,leads:=f } (gC c.way) lv ov rows:=h2'
 clear h2'
 have w2:=m2.wf w1
 obtain ⟨S3,q3,h3,m3,n3⟩:=h2.w_left w2 c.drawn
 refine bA5 ?_
 simp only [aPe,aI,aA1,gQ,sS,oI,aG,aF,cR,mD,Nat.reduceAdd,q1,q2,h2.r_drawn,q3]
 exact Ok.ret ⟨rfl,_,⟨lv,ov,rows,h3,rfl⟩,(m1.trans w m2).trans w m3⟩
theorem j74 (m:Letter) (ev:V) (yes:Bool) {b:Nat} (w:WF S) (h:WIn S a c O) (hb:S.heap.get b=some (.row 0 13 [aO m ev])) (hno:¬ O b) (hl:c.out.length≤999990):
  Ok (fun k K=>jA (aE prog aW aX k) k K (.ptr a 0 0 0) (.ptr b 0 0 0) (.bool yes) S) (fun u S'=>u=.tup []∧∃ O',WIn S' a ((if yes=true then { c with h:={ c.h with vote:=m.from' },left:=c.drawn } else c:Core).post { Letter.zero with kind:=2,to:=m.from',yes:=yes }) O'∧Mv O S O' S'):=by
 have hin:=h
 obtain ⟨lv,ov,rows,h,rfl⟩:=h
 cases yes with
 | true=>
  obtain ⟨S1,q1,h1,m1,n1⟩:=h.w_vote w m.from'
  have w1:=m1.wf w
  obtain ⟨S2,q2,h2',m2,n2⟩:=h1.w_left w1 c.drawn
  have h2:WAt S2 a { c with h:={ c.h with vote:=m.from' },left:=c.drawn } (gC c.way) lv ov rows:=h2'
  clear h2'
  have w2:=m2.wf w1
  have mv2:=m1.trans w m2
  have g2:=(fR w hb hno mv2).1
  have d1:=h1.r_drawn
  simp only [jA,aEh,bA,aI,cW,aA1,dI,oI,kM,aG,Nat.reduceAdd,aF,cR,mD,cG hb,q1,d1,q2,cG g2,jB,aF7,if_true]
  exact WMeth.call (g71 _ .nils w2 ⟨_,_,_,h2,rfl⟩ (Apart.nil _ _ rfl) (dN hl)) w2 fun S3 O3 w3 in3 m3=>Ok.ret ⟨rfl,O3,in3,mv2.trans w m3⟩
 | false=>
  simp only [jA,aEh,aK,cW,aG,Nat.reduceAdd,aF,cR,cG hb,jB,aF7]
  exact WMeth.call (g71 _ .nils w hin (Apart.nil _ _ rfl) (dN hl)) w fun S3 O3 w3 in3 m3=>Ok.ret ⟨rfl,O3,in3,m3⟩
theorem g74 (m:Letter) (ev:V) (w:WF S) (h:WIn S a c O) (ok:Hok c.h) (he:Sl S 3 ev (m.entries.map bM)) (hl:c.out.length≤999990):WMeth 74 [.ptr a 0 0 0,.agg (aO m ev)] a (c.asked m) S O (.tup []):=by
 have ho:=cB m he.one
 have hln:(aO m ev).length=13:=rfl
 have hr:=cZ ok
 have hb0:=ok.b0
 obtain ⟨S1,hn1,x1,hg1,hnx1⟩:=nb w 13 (aO m ev)
 have w1:=x1.wf w
 have in1:=h.ext w x1
 have hno:¬ O S.next:=fun hO=>by have:=aAz w h _ hO;omega
 refine e74 ?_
 simp only [m74,bH,ho,hln,aJ,hn1,aF]
 refine (g43 in1 ok).call fun S2 x2=>?_
 have w2:=x2.wf w1
 have in2:=in1.ext w1 x2
 refine (g72 in2 ok (n:=c.last) (by unfold Core.last cF;omega) (Int.le_refl _)).call fun S4 x4=>?_
 have w4:=x4.wf w2
 have x04:=(x1.trans x2).trans x4
 have xb:Ext S4 (⟨S4.next+36,S4.heap⟩:St):=(Ext.refl S4).bump 36
 have x05:=x04.trans xb
 have w5:=xb.wf w4
 have in5:=h.ext w x05
 have g4:=x4.old _ _ (x2.old _ _ hg1)
 have g5:(⟨S4.next+36,S4.heap⟩:St).heap.get S.next=some (.row 0 13 [aO m ev]):=g4
 obtain ⟨lv,ov,rows,h4,_⟩:=h.ext w x04
 simp only [aI,dI,kM,cW,cI,fE,aG,Nat.reduceAdd,aF,cR,aL,h4.r_vote,cG g4,gB g4,bI g4,aS,aJ,bR,bX]
 have fin:∀ (S6:St) (x6:Ext S S6) (hb6:S6.heap.get S.next=some (.row 0 13 [aO m ev])) (yes:Bool),yes=((decide (c.h.vote=-1)||decide (c.h.vote=m.from'))&&(decide (c.term c.last<m.at')||(decide (m.at'=c.term c.last)&&decide (c.last≤m.index))))→
   Ok (fun k K=>jA (aE prog aW aX k) k K (.ptr a 0 0 0) (.ptr S.next 0 0 0) (.bool yes) S6) (fun u S'=>u=.tup []∧∃ O',WIn S' a (c.asked m) O'∧Mv O S O' S'):=fun S6 x6 hb6 yes hy=>by
  have hA:c.asked m=(if yes=true then { c with h:={ c.h with vote:=m.from' },left:=c.drawn } else c:Core).post { Letter.zero with kind:=2,to:=m.from',yes:=yes }:=by
   unfold Core.asked;simp only;rw [←hy]
  rw [hA]
  exact (j74 m ev yes (x6.wf w) (h.ext w x6) hb6 hno hl).mono fun u S' ⟨e,O',i',m'⟩=>⟨e,O',i',(Mv.of x6).trans w m'⟩
 have second:∀ (v:Bool),v=true→(decide (c.h.vote=-1)||decide (c.h.vote=m.from'))=v→Ok (fun k K=>aC (.bool (decide (c.term c.last<m.at'))) (jA (aE prog aW aX k) k K (.ptr a 0 0 0) (.ptr S.next 0 0 0) (.bool true) (⟨S4.next+36,S4.heap⟩:St))
   (aC (.bool (decide (m.at'=c.term c.last))) (aE prog aW aX k 43 [.ptr a 0 0 0] (⟨S4.next+36,S4.heap⟩:St) fun t31 S32=>dR (aR none (.ptr S.next 0 0 4) S32) fun t33=>bG (bN (.int .i64 m.index) t33) (dR (aD prog .geq 3 (.int .i64 m.index) t31) fun t34=>jA (aE prog aW aX k) k K (.ptr a 0 0 0) (.ptr S.next 0 0 0) t34 S32))
    (jA (aE prog aW aX k) k K (.ptr a 0 0 0) (.ptr S.next 0 0 0) (.bool false) (⟨S4.next+36,S4.heap⟩:St)))) (fun u S'=>u=.tup []∧∃ O',WIn S' a (c.asked m) O'∧Mv O S O' S'):=fun v hv hvv=>by
  subst hv
  refine Ok.pickP (fun e2=>fin _ x05 g5 true (by rw [hvv,decide_eq_true e2];rfl)) (fun e2=>?_)
  refine Ok.pickP (fun e3=>?_) (fun e3=>fin _ x05 g5 false (by rw [hvv,decide_eq_false e2,decide_eq_false e3];rfl))
  refine (g43 in5 ok).call fun S6 x6=>?_
  have g6:=x6.old _ _ g5
  have v4:aR none (.ptr S.next 0 0 4) S6=.ok (.int .i64 m.index):=bI g6
  simp only [v4,aF,bO,aJ,dA]
  exact fin S6 (x05.trans x6) g6 _ (by rw [hvv,decide_eq_false e2,decide_eq_true e3];rfl)
 refine Ok.pickP (fun e=>second true rfl (by rw [decide_eq_true e];rfl)) (fun e=>?_)
 refine Ok.pickP (fun e2=>second true rfl (by rw [decide_eq_true e2];simp)) (fun e2=>fin _ x05 g5 false (by rw [decide_eq_false e,decide_eq_false e2];rfl))
theorem g99 (m:Letter) (ev:V) (w:WF S) (h:WIn S a c O) (I:Inv c) (ok:Lok m) (hk:m.kind=3) (he:Sl S 3 ev (m.entries.map bM)):mG 99 [.ptr a 0 0 0,.agg (aO m ev)] S (.bool (jI c m.entries (m.index+1))):=by
 have ho:=cB m he.one
 have hln:(aO m ev).length=13:=rfl
 have hr:=cZ I.h
 have hb0:=I.h.b0
 have hs1:=I.s1
 have i0:=ok.i0
 have i1:=ok.i1
 have hlen:=(ok.k3 hk).2.1
 obtain ⟨S1,hn1,x1,hg1,hnx1⟩:=nb w 13 (aO m ev)
 have w1:=x1.wf w
 have he1:=he.ext x1
 refine e99 ?_
 simp only [m99,bH,ho,hln,aJ,hn1,aF]
 rw [←aAh]
 refine Ok.loopL (F:=fun k K=>aEs (aE prog aW aX k) k K (.ptr a 0 0 0) (.ptr S.next 0 0 0)) (ρ:=Bool) (α:=Entry) (X:=Bool) m.entries (step:=eX c) (fin:=fun _=>false) (s:=m.index+1)
  (out:=fun k K x S'=>K (.bool x) S')
  (fun i n vs S'=>vs=[.bool false,.int .i64 (i:Int)]∧n=m.index+1+i∧Ext S1 S')
  (fun r x S'=>r=x∧Ext S1 S') ?_ ?_ ⟨rfl,by simp,Ext.refl _⟩ (fun x S' ⟨e,x'⟩=>Ok.ret ⟨by rw [e],x1.trans x'⟩)
 ·rintro i x n vs S2 ⟨rfl,rfl,x2⟩ hi
  have hil:=(List.getElem?_eq_some_iff.1 hi).1
  have hlt:(i:Int)<(m.entries.length:Int):=Int.ofNat_lt.2 hil
  obtain ⟨hw,hw1,hw2⟩:=aF8 i0 i1 hil hlen
  have w2:=x2.wf w1
  have g2:=x2.old _ _ hg1
  have x02:=x1.trans x2
  have in2:=h.ext w x02
  have hin2:=in2
  obtain ⟨lv,ov,rows,h2,hO⟩:=in2
  have he2:=he1.ext x2
  obtain ⟨p,hp,hat,_,_⟩:=he2.elem hi
  have hat0:aR none (xA 0 p) S2=.ok (.int .i64 x.term):=by rw [hat.load];rfl
  have xb:Ext S2 (⟨S2.next+27,S2.heap⟩:St):=(Ext.refl S2).bump 27
  have hnx:=aAi m.index i
  simp only [aEs,aY,eV,cI,aG,Nat.reduceAdd,aF,eC,cR,fI g2,bI g2,eA,he2.lenI,aZ,hlt,decide_true,bA,bK,hw1,hw2,hw,aI,dI,jP,dM,jQ,aL,h2.r_base,h2.r_sure,oL,hp,hat.advW,hat0,dA,dH]
  have go:∀ (S':St),Ext S1 S'→¬ (c.h.base≤m.index+1+i∧m.index+1+i≤c.sure∧c.term (m.index+1+i)≠x.term)→OkL (fun k K x S'=>K (V.bool x) S') (fun k K bD=>bD [V.bool false,V.int .i64 ((i+1:Nat):Int)] S') (pZ (eX c) (fun i n vs S'=>vs=[V.bool false,V.int .i64 (i:Int)]∧n=m.index+1+i∧Ext S1 S') (fun r x S'=>r=x∧Ext S1 S') i (m.index+1+i) x):=fun S' x' hno=>
   OkL.next ⟨m.index+1+i+1,by unfold eX;rw [if_neg hno],rfl,hnx.symm,x'⟩
  refine OkL.pickP (fun e=>?_) (fun e=>go _ (x2.trans xb) (fun q=>e q.1))
  refine OkL.pickP (fun e2=>?_) (fun e2=>go _ (x2.trans xb) (fun q=>e2 q.2.1))
  refine (g72 (hin2.ext w2 xb) I.h (n:=m.index+1+i) e (Int.le_trans e2 hs1)).callL fun S4 x4=>?_
  have x24:=xb.trans x4
  have g4:=x24.old _ _ g2
  have hat4:aR none (xA 0 p) S4=.ok (.int .i64 x.term):=pV x24 hat0
  simp only [hat4,fI g4,aF,bO,fX,aJ,aS,cJ]
  refine OkL.pickN (fun e3=>OkL.stop true ⟨true,by unfold eX;rw [if_pos ⟨e,e2,e3⟩],rfl,x2.trans x24⟩ (by intros;rfl)) (fun e3=>go _ (x2.trans x24) (fun q=>q.2.2 e3))
 ·rintro n vs S2 ⟨rfl,rfl,x2⟩
  have hlt:¬ (m.entries.length:Int)<(m.entries.length:Int):=Int.lt_irrefl _
  have g2:=x2.old _ _ hg1
  refine ⟨false,⟨rfl,x2⟩,fun k K bD=>?_⟩
  simp only [aEs,aY,eV,aG,Nat.reduceAdd,aF,eC,fI g2,eA,(he1.ext x2).lenI,aZ,hlt,decide_false,aK]
end
end
end Go.Proofs.Ytbiidlmhadihlaa
end
section
namespace Go.Raft
open Go.AM
section
variable [Guard]
theorem aBq (S:St) (k n:Nat) (z:List V):cK n z 0 [] (some k) S=.ok (.sl k 0 n 0 0,⟨S.next,S.heap.put k (.row 0 n [])⟩):=by
 unfold cK
 rw [if_pos (by omega)]
 simp only [aD5,List.replicate,gM]
theorem aJ7 {S:St} {n b a ver:Nat} {u:V} {es cs:List (List V)} (h:S.heap.get a=some (.row ver n es)) (hu:bY S u=.ok cs) (hc:∀ c,c∈cs→c.length=n∧aU c=true) (h1:(es.length+cs.length)*b≤35184372088832) (h2:es.length+cs.length<fU) (fr:Option Nat):
  gP n b (.sl a ver n 0 es.length) u fr S=.ok (.sl a (ver+1) n 0 (es++cs).length,⟨S.next,S.heap.put a (.row (ver+1) n (es++cs))⟩):=by
 obtain ⟨a1,a2⟩:=gO hc
 have hb:0+es.length≤es.length:=by omega
 simp only [gP,hu,a1,a2,and_self,if_true,bC h,hb,h1,h2,List.drop_zero,List.take_length,List.length_append]
theorem aB1 {S:St} (w:WF S) {u:V} {es:List (List V)} (hu:Sl S 3 u es) (hl:es.length≤1000) (z:List V) (n k1:Nat) (hk1:k1<n) (fr:Option Nat):
  ∃ T1 v1 T2,cK 3 z 0 [] (some (S.next+k1)) (⟨S.next+n,S.heap⟩:St)=.ok (.sl (S.next+k1) 0 3 0 0,T1)∧gP 3 32 (.sl (S.next+k1) 0 3 0 0) u fr T1=.ok (v1,T2)∧Ext S T2∧T2.next=S.next+n∧v1=.sl (S.next+k1) 1 3 0 es.length∧T2.heap.get (S.next+k1)=some (.row 1 3 es)∧∀ y,y≠S.next+k1→T2.heap.get y=S.heap.get y:=by
 have e1:=aBq (⟨S.next+n,S.heap⟩:St) (S.next+k1) 3 z
 have x1:Ext S (⟨S.next+n,S.heap.put (S.next+k1) (.row 0 3 [])⟩:St):=((Ext.refl S).bump n).set (by omega) (by show S.next+k1<S.next+n;omega) w _
 have g1:(⟨S.next+n,S.heap.put (S.next+k1) (.row 0 3 [])⟩:St).heap.get (S.next+k1)=some (.row 0 3 []):=Tr.get_put_sameB _ _ _ trivial
 have e2:=aJ7 (b:=32) g1 (hu.ext x1).elems hu.len (by simp only [List.length_nil];omega) (by simp only [List.length_nil];unfold fU;omega) fr
 simp only [List.nil_append,List.length_nil] at e2
 refine ⟨_,_,_,e1,e2,x1.set (by omega) (by show S.next+k1<S.next+n;omega) w _,rfl,rfl,Tr.get_put_sameB _ _ _ trivial,fun y hy=>?_⟩
 show ((S.heap.put _ _).put _ _).get y=_
 rw [Tr.get_put_neB _ _ _ _ trivial hy,Tr.get_put_neB _ _ _ _ trivial hy]
theorem aM3 {S:St} (w:WF S) {u:V} {es:List (List V)} (hu:Sl S 3 u es) (hl:es.length≤1000) (x:List V) (hx:x.length=3∧aU x=true) (z:List V) (n k1 k3:Nat) (hk1:k1<n) (hk3:k3<n) (hk:k3≠k1) (fr fr':Option Nat):
  ∃ T1 v1 T2 T3 v2 T4,cK 3 z 0 [] (some (S.next+k1)) (⟨S.next+n,S.heap⟩:St)=.ok (.sl (S.next+k1) 0 3 0 0,T1)∧gP 3 32 (.sl (S.next+k1) 0 3 0 0) u fr T1=.ok (v1,T2)∧Ext S T2∧cK 3 z 1 [(0,.agg x)] (some (S.next+k3)) T2=.ok (.sl (S.next+k3) 0 3 0 1,T3)∧gP 3 32 v1 (.sl (S.next+k3) 0 3 0 1) fr' T3=.ok (v2,T4)∧Ext S T4∧Own S T4 3 v2 (es++[x]):=by
 obtain ⟨T1,v1,T2,e1,e2,x2,n2,rfl,g2,k2⟩:=aB1 w hu hl z n k1 hk1 fr
 have e3:=gZ T2 (S.next+k3) 3 x hx.1 hx.2 (by omega) z
 have x3:Ext S (⟨T2.next,T2.heap.put (S.next+k3) (.row 0 3 [x])⟩:St):=x2.set (by omega) (by omega) w _
 have g3:(⟨T2.next,T2.heap.put (S.next+k3) (.row 0 3 [x])⟩:St).heap.get (S.next+k1)=some (.row 1 3 es):=by
  show (T2.heap.put _ _).get _=_
  rw [Tr.get_put_neB _ _ _ _ trivial (by omega)];exact g2
 have hel:bY (⟨T2.next,T2.heap.put (S.next+k3) (.row 0 3 [x])⟩:St) (.sl (S.next+k3) 0 3 0 1)=.ok [x]:=by
  simp only [bY,eR]
  rfl
 have e4:=aJ7 (b:=32) g3 hel (fun c hc=>by rw [List.mem_singleton.1 hc];exact hx) (by simp only [List.length_cons,List.length_nil];omega) (by simp only [List.length_cons,List.length_nil];unfold fU;omega) fr'
 refine ⟨T1,_,T2,_,_,_,e1,e2,x2,e3,e4,x3.set (by omega) (by show S.next+k1<T2.next;omega) w _,⟨.inr ⟨S.next+k1,2,[],rfl,by omega,by show S.next+k1<T2.next;omega,by rw [List.append_nil];exact Tr.get_put_sameB _ _ _ trivial⟩,fun c hc=>?_⟩⟩
 rcases List.mem_append.1 hc with hc | hc
 ·exact hu.len c hc
 ·rw [List.mem_singleton.1 hc];exact hx
theorem WAt.w_logN {S B:St} {a:Nat} {c c0:Core} {k k0:Came} {lv ov:V} {rows:List (List V)} (h:WAt S a c k lv ov rows) (w:WF S) (h0:WAt B a c0 k0 lv ov rows) (wB:WF B) (hout:c0.out=c.out)
  {lv':V} {l':List Entry} (hlog:Mn S 3 lv' (l'.map bM)) (hb:∀ y,bJ lv'=some y→B.next≤y):
  ∃ S2,bV 1 (.ptr a 0 0 6) lv' S=.ok S2∧WAt S2 a { c with h:={ c.h with log:=l' } } k lv' ov rows∧MvB B.next (dP a lv ov) S (dP a lv' ov) S2∧S2.next=S.next:=by
 have hl:=gI c k lv ov h.peers
 have ga:=h.cell
 have hone:=hlog.cells
 have e:=dD (x:=lv') (j:=6) (m:=1) ga (by rw [hone.1];rfl) (by rw [hone.1];simp [aU,hone.2]) (by omega)
 have hsp:splice (cA c k lv ov) 6 [lv']=cA { c with h:={ c.h with log:=l' } } k lv' ov:=rfl
 rw [hone.1,hsp] at e
 have kk:∀ n,n≠40→KeepW n S (⟨S.next,S.heap.put a (.row 0 40 [cA { c with h:={ c.h with log:=l' } } k lv' ov])⟩:St):=fun n h2=>KeepW.put ga h2 _
 have hl2:=xQ wB h.lets (by rw [←hout];exact h0.lets)
 have hlets:All2 (LetAt (⟨S.next,S.heap.put a (.row 0 40 [cA { c with h:={ c.h with log:=l' } } k lv' ov])⟩:St) (bJ lv')) c.out rows:=by
  refine All2.imp (fun m cs q=>?_) hl2
  obtain ⟨ev,e1,s1,s2⟩:=q
  refine ⟨ev,e1,s1.keep (fun y b hy hg=>?_),fun y hy h2=>?_⟩
  ·show (S.heap.put a _).get y=some b
   rw [Tr.get_put_neB _ _ _ _ trivial (fun e2=>?_)]
   ·exact hg
   ·subst e2
    rcases s1.is with ⟨e3,_⟩ | e3 | ⟨a',ver,off,elems,e3,g,_⟩
    ·rw [e3] at hy;cases hy
    ·rw [e3] at hy;cases hy
    ·rw [e3] at hy;cases hy
     have g':=iA g
     rw [h.cell] at g'
     injection g' with g'
     injection g' with _ g'
     exact absurd g' (by decide)
  ·have h3:=hb y h2
   have h4:=(s2 y hy).2
   omega
 refine ⟨_,e,⟨Tr.get_put_sameB _ _ _ trivial,h.peers,hlog.keepW (Nat.le_refl _) (kk 3 (by decide)),h.out.keepW (Nat.le_refl _) (kk 13 (by decide)),hlets,h.gd⟩,⟨fun y b _ hy hb'=>?_,Nat.le_refl _,fun _=>(But.put (h.lt w) _).wf w,fun y hy=>?_⟩,rfl⟩
 ·show (S.heap.put a _).get y=some b
  rw [Tr.get_put_neB _ _ _ _ trivial (fun e=>hy (.inl e))]
  exact hb'
 ·rcases hy with hy | hy | hy
  ·exact .inl (.inl hy)
  ·exact .inr (hb y hy)
  ·exact .inl (.inr (.inr hy))
theorem WAt.reway {S:St} {a:Nat} {c:Core} {k:Came} {lv ov:V} {rows:List (List V)} (h:WAt S a c k lv ov rows) (w:Option Inst):WAt S a { c with way:=w } k lv ov rows:=⟨h.cell,h.peers,h.log,h.out,h.lets,h.gd⟩
end
end Go.Raft
end
section
namespace Go.Proofs.Ytbiidlmhadihlaa
open Go.AM Go.Raft Try
section
variable [Guard]
section
variable {S:St} {a:Nat} {c:Core} {O:Nat→Prop}
structure EntW (a:Nat) (c:Core) (O:Nat→Prop) (S:St) (b:Nat) (m:Letter) (ev:V) (h:Hard) (S':St) (O':Nat→Prop):Prop where
 wf:WF S'
 core:WIn S' a { c with h:=h } O'
 mv:Mv O S O' S'
 l:LetIn S' O' b m ev
theorem EntW.next {b:Nat} {m:Letter} {ev:V} {h h':Hard} {S' S'':St} {O' O'':Nat→Prop} (w:WF S) (e:EntW a c O S b m ev h S' O') (i:WIn S'' a { c with h:=h' } O'') (k:Mv O' S' O'' S''):EntW a c O S b m ev h' S'' O'':=
 ⟨k.wf e.wf,i,e.mv.trans w k,e.l.mv e.wf k⟩
theorem j76 (m:Letter) (ev:V) (to:Int) {b:Nat} (w:WF S) (h:WIn S a c O) (hb:S.heap.get b=some (.row 0 13 [aO m ev])) (hno:¬ O b) (hl:c.out.length≤999990):
  Ok (fun k K=>vP (aE prog aW aX k) k K (.ptr a 0 0 0) (.ptr b 0 0 0) (.int .i64 to) S) (fun u S'=>u=.tup []∧∃ O',WIn S' a (({ c with sure:=max c.sure (min m.commit to) }:Core).post { Letter.zero with kind:=4,to:=m.from',yes:=true,index:=to }) O'∧Mv O S O' S'):=by
 obtain ⟨lv,ov,rows,h,rfl⟩:=h
 have xb:Ext S (⟨S.next+13,S.heap⟩:St):=(Ext.refl S).bump 13
 have wb:=xb.wf w
 obtain ⟨S1,q1,h1,m1,n1⟩:=(h.ext w xb).w_sure wb (max c.sure (min m.commit to))
 have w1:=m1.wf wb
 have mv1:=(Mv.of (O:=dP a lv ov) xb).trans w m1
 have g1:=(fR w hb hno mv1).1
 simp only [vP,aI,jP,oG,cW,aG,Nat.reduceAdd,aF,cR,aL,h.r_sure,fL hb,lZ,uG,mD,q1,cG g1,jB,aKk]
 exact WMeth.call (g71 _ .nils w1 ⟨_,_,_,h1,rfl⟩ (Apart.nil _ _ rfl) (dN hl)) w1 fun S2 O2 w2 in2 m2=>Ok.ret ⟨rfl,O2,in2,mv1.trans w m2⟩
theorem l76 (m:Letter) (ev:V) {b:Nat} (w:WF S) (E:EntW a c O S b m ev c.h S O) (b0:0≤c.h.base) (b1:c.h.base≤1099511627776) (ll:c.h.log.length≤200) (i0:0≤m.index) (i1:m.index≤1099511627776) (hlen:m.entries.length≤8) (hli:(m.entries.length:Int)≤1099511627776 - m.index) (hix:m.index≤c.last) (hl:c.out.length≤999990):
  Ok (fun k K=>cQ k [.int .i64 m.index,.int .i64 0] S (zW (aE prog aW aX k) k K (.ptr a 0 0 0) (.ptr b 0 0 0))) (fun u S'=>u=.tup []∧∃ O',WIn S' a (({ c with h:=(eI m.entries (m.index+1) c.h m.index).1,sure:=max c.sure (min m.commit (eI m.entries (m.index+1) c.h m.index).2) }:Core).post { Letter.zero with kind:=4,to:=m.from',yes:=true,index:=(eI m.entries (m.index+1) c.h m.index).2 }) O'∧Mv O S O' S'):=by
 rw [←aF9]
 refine Ok.loopL (F:=fun k K=>zW (aE prog aW aX k) k K (.ptr a 0 0 0) (.ptr b 0 0 0)) (ρ:=Hard×Int) (α:=Entry) (X:=Hard×Int) m.entries (step:=fB) (fin:=fun s=>s.1) (s:=((c.h,m.index),m.index+1))
  (out:=fun k K r S'=>vP (aE prog aW aX k) k K (.ptr a 0 0 0) (.ptr b 0 0 0) (.int .i64 r.2) S')
  (fun i s vs S'=>vs=[.int .i64 s.1.2,.int .i64 (i:Int)]∧s.2=m.index+1+i∧OnWay c.h s.1.1 s.1.2 s.2∧∃ O',EntW a c O S b m ev s.1.1 S' O')
  (fun r x S'=>r=x∧∃ O',EntW a c O S b m ev r.1 S' O') ?_ ?_ ⟨rfl,by simp,⟨rfl,b0,b1,ll,by show 1≤m.index+1;omega,by show m.index+1 - 1≤cF c.h;unfold Core.last at hix;omega,by show m.index+1≤_;omega⟩,O,E⟩ (fun r S' ⟨e,O',E'⟩=>?_)
 ·rintro i x ⟨⟨h,to⟩,n⟩ vs S2 ⟨rfl,hn,ow,O2,E2⟩ hi
  simp only at hn ow E2
  have hil:=(List.getElem?_eq_some_iff.1 hi).1
  have hlt:(i:Int)<(m.entries.length:Int):=Int.ofNat_lt.2 hil
  obtain ⟨hw,hw1,hw2⟩:=aF8 i0 i1 hil hlen
  rw [←hn] at hw2
  have hnn:m.index+1+((i+1:Nat):Int)=n+1:=by rw [aAi,←hn]
  have hnle:n≤1099511627776:=by rw [hn];exact aO1 hil hli
  have w2:=E2.wf
  have in2:=E2.core
  have hin2:=in2
  obtain ⟨lv,ov,rows,h2,hO⟩:=in2
  obtain ⟨p,hp,hat,_,_⟩:=E2.l.ents.elem hi
  have hat0:aR none (xA 0 p) S2=.ok (.int .i64 x.term):=by rw [hat.load];rfl
  have hata:aR (some 3) p S2=.ok (.agg (bM x)):=by rw [hat.load0];exact cM _ _ rfl
  have xb:Ext S2 (⟨S2.next+25,S2.heap⟩:St):=(Ext.refl S2).bump 25
  obtain ⟨hs1,hs2⟩:=ow.wr1
  have ll':=Nat.le_trans ow.ll (by decide:200≤1000)
  have nx:∀ S4,Ext S2 S4→¬ (h.base<n∧(cF h<n∨termH h n≠x.term))→pZ fB (fun i s vs S'=>vs=[.int .i64 s.1.2,.int .i64 (i:Int)]∧s.2=m.index+1+i∧OnWay c.h s.1.1 s.1.2 s.2∧∃ O',EntW a c O S b m ev s.1.1 S' O') (fun (r x:Hard×Int) S'=>r=x∧∃ O',EntW a c O S b m ev r.1 S' O') i ((h,to),n) x (.next [.int .i64 n,.int .i64 ((i+1:Nat):Int)] S4):=fun S4 x4 hc=>by
   refine ⟨((h,n),n+1),by unfold fB;simp only;rw [if_neg hc],rfl,hnn.symm,ow.next2 hnle ?_ n,O2,E2.next w (hin2.ext w2 x4) (Mv.of x4)⟩
   by_cases e1:h.base<n
   ·by_cases e2:cF h<n
    ·exact absurd ⟨e1,.inl e2⟩ hc
    ·exact .inr (Int.not_lt.1 e2)
   ·exact .inl (Int.not_lt.1 e1)
  have j2:∀ (S4:St),Ext S2 S4→(h.base<n∧(cF h<n∨termH h n≠x.term))→OkL (fun k K r S'=>vP (aE prog aW aX k) k K (.ptr a 0 0 0) (.ptr b 0 0 0) (.int .i64 r.2) S')
    (fun k K bD=>aEi (aE prog aW aX k) k K bD (.ptr a 0 0 0) (.ptr b 0 0 0) (.int .i64 to) (.int .i64 i) (.int .i64 n) S4)
    (pZ fB (fun i s vs S'=>vs=[.int .i64 s.1.2,.int .i64 (i:Int)]∧s.2=m.index+1+i∧OnWay c.h s.1.1 s.1.2 s.2∧∃ O',EntW a c O S b m ev s.1.1 S' O') (fun (r x:Hard×Int) S'=>r=x∧∃ O',EntW a c O S b m ev r.1 S' O') i ((h,to),n) x):=fun S4 x4 hc=>by
   have w4:=x4.wf w2
   have in4:=hin2.ext w2 x4
   have h4:=h2.ext w2 x4
   have E4:=E2.next w in4 (Mv.of x4)
   simp only [aEi,aI,dI,dM,cO,aG,Nat.reduceAdd,aF,cR,h4.r_base,cE,hs1,bX]
   refine OkL.pickP (fun e=>OkL.stop (h,to) ⟨(h,to),by unfold fB;simp only;rw [if_pos hc,if_pos e],rfl,O2,E4⟩ (by intros;rfl)) (fun e=>?_)
   obtain ⟨k0,k1⟩:=ow.cut hc.1
   obtain ⟨u,r1,o1,bu⟩:=oP aBl h4.log.sl (lI .i64 k0 k1) (Nat.zero_le _) (Int.toNat_le.2 k1)
   rw [List.drop_zero] at o1
   have hlt':((h.log.map bM).take (n - h.base - 1).toNat).length≤1000:=by rw [List.length_take,List.length_map];exact Nat.le_trans (Nat.min_le_right _ _) ll'
   obtain ⟨T1,v1,T2,T3,v2,T4,q1,q2,t2,q3,q4,t4,own4⟩:=aM3 w4 o1 hlt' (bM x) ⟨rfl,rfl⟩ [.int .i64 0,.int .i64 0,.str []] 28 1 22 (by decide) (by decide) (by decide) (some (S4.next+16)) (some (S4.next+23))
   have hatT:aR (some 3) p T2=.ok (.agg (bM x)):=pV (x4.trans t2) hata
   have hatS:aR (some 3) p S4=.ok (.agg (bM x)):=pV x4 hata
   have gT:=t2.old _ _ E4.l.box
   have w5:=t4.wf w4
   have o5:Mn T4 3 v2 ((h.log.take (n - h.base - 1).toNat++[x]).map bM):=by
    rw [List.map_append,List.map_take];exact own4.weaken (Nat.zero_le _)
   obtain ⟨S7,q7,h7,m7,_⟩:=h4.w_log w4 w5 t4.next (fun y bb hy _=>t4.old y bb hy) o5 (fun y hy=>.inr (jD own4 hy).1)
   rw [←hO] at m7
   simp only [aL,h4.r_log,h4.r_base,aF,cE,hs1,hs2,eC,aBh,r1,eV,aG,Nat.reduceAdd,fI E4.l.box,oL,hp,hatS,aA0,q1,kR,q2,hatT,fX,aJ,fI gT,q3,q4,sV,q7,bK,hw]
   exact OkL.next ⟨(({ h with log:=h.log.take (n - h.base - 1).toNat++[x] },n),n+1),by unfold fB;simp only;rw [if_pos hc,if_neg e],rfl,hnn.symm,ow.push hnle hc.1 e x,_,E4.next w ⟨_,_,_,h7,rfl⟩ m7⟩
  simp only [zW,aY,eV,cI,aG,Nat.reduceAdd,aF,eC,cR,fI E2.l.box,eA,E2.l.ents.lenI,aZ,hlt,decide_true,bA,bI E2.l.box,bK,hw1,←hn,hw2,hw,aI,dI,dM,aL,h2.r_base,dH]
  refine OkL.pickP (fun e=>OkL.next (nx _ xb (fun q=>Int.not_lt.2 e q.1))) (fun e=>?_)
  have e':h.base<n:=Int.not_le.1 e
  refine (aWm (hin2.ext w2 xb) ow.b0 ow.b1 ll').callL fun S5 x5=>?_
  have x25:=xb.trans x5
  have hlast:({ c with h:=h }:Core).last=cF h:=rfl
  simp only [hlast,dH,aF]
  refine OkL.pickP (fun e2=>?_) (fun e2=>j2 S5 x25 ⟨e',.inl (Int.not_le.1 e2)⟩)
  have g5:=x25.old _ _ E2.l.box
  have hat5:aR none (xA 0 p) S5=.ok (.int .i64 x.term):=pV x25 hat0
  simp only [fI g5,aF,oL,hp,jQ,hat.advW,hat5]
  refine (aWn (hin2.ext w2 x25) ow.b0 ow.b1 ll' (n:=n) (Int.le_of_lt e') e2).callL fun S6 x6=>?_
  have x26:=x25.trans x6
  have g6:=x26.old _ _ E2.l.box
  have hat6:aR none (xA 0 p) S6=.ok (.int .i64 x.term):=pV x26 hat0
  have hterm:({ c with h:=h }:Core).term n=termH h n:=rfl
  simp only [hat6,fI g6,aF,bO,fX,aJ,aS,bR,hterm]
  refine OkL.pickP (fun e3=>?_) (fun e3=>j2 S6 x26 ⟨e',.inr e3⟩)
  exact OkL.next (nx S6 x26 (fun q=>by
   rcases q.2 with q | q
   ·exact Int.not_lt.2 e2 q
   ·exact q e3))
 ·rintro ⟨⟨h,to⟩,n⟩ vs S2 ⟨rfl,hn,ow,O2,E2⟩
  have hlt:¬ (m.entries.length:Int)<(m.entries.length:Int):=Int.lt_irrefl _
  refine ⟨(h,to),⟨rfl,O2,E2⟩,fun k K bD=>?_⟩
  simp only [zW,aY,eV,aG,Nat.reduceAdd,aF,eC,fI E2.l.box,eA,E2.l.ents.lenI,aZ,hlt,decide_false,aK]
 ·subst e
  exact (j76 m ev _ E'.wf E'.core E'.l.box E'.l.no hl).mono fun u S3 ⟨e,O3,i3,m3⟩=>⟨e,O3,i3,E'.mv.trans w m3⟩
end
end
section
variable [Guard]
section
variable {S:St} {a:Nat} {c:Core} {O:Nat→Prop}
theorem bAz (m:Letter) (ev:V) {b:Nat} (w:WF S) (E:EntW a c O S b m ev c.h S O) (I:Inv c) (ok:Lok m) (hk:m.kind=3) (hl:c.out.length≤999990) (hix:m.index≤c.last) (q:Bool) (hq:q=decide (c.h.base≤m.index∧c.term m.index≠m.at')):
  Ok (fun k K=>vQ (aE prog aW aX k) k K (.ptr a 0 0 0) (.ptr b 0 0 0) (.bool q) S) (fun u S'=>u=.tup []∧∃ O',WIn S' a (if c.h.base≤m.index∧c.term m.index≠m.at' then c.post { Letter.zero with kind:=4,to:=m.from',index:=m.index - 1 } else
   ({ c with h:=(eI m.entries (m.index+1) c.h m.index).1,sure:=max c.sure (min m.commit (eI m.entries (m.index+1) c.h m.index).2) }:Core).post { Letter.zero with kind:=4,to:=m.from',yes:=true,index:=(eI m.entries (m.index+1) c.h m.index).2 }) O'∧Mv O S O' S'):=by
 have i0:=ok.i0
 have i1:=ok.i1
 have hw:wr .i64 (m.index - 1)=m.index - 1:=cS (by omega) (by omega)
 have hk3:=ok.k3 hk
 by_cases hc:c.h.base≤m.index∧c.term m.index≠m.at'
 ·rw [hq,decide_eq_true hc,if_pos hc]
  simp only [vQ,bA,cW,cI,aG,Nat.reduceAdd,aF,cR,cG E.l.box,bI E.l.box,cE,hw,jB,qE]
  exact WMeth.call (g71 _ .nils w E.core (Apart.nil _ _ rfl) (dN hl)) w fun S2 O2 w2 in2 m2=>Ok.ret ⟨rfl,O2,in2,m2⟩
 ·rw [hq,decide_eq_false hc,if_neg hc]
  simp only [vQ,aK,cI,aG,Nat.reduceAdd,aF,cR,bI E.l.box]
  exact l76 m ev w E I.h.b0 I.h.b1 I.h.ll i0 i1 hk3.2.1 hk3.2.2.1 hix hl
theorem g76 (m:Letter) (ev:V) (w:WF S) (h:WIn S a c O) (I:Inv c) (ok:Lok m) (hk:m.kind=3) (he:Apart S O m ev) (hl:c.out.length≤999990):WMeth 76 [.ptr a 0 0 0,.agg (aO m ev)] a (c.appended m) S O (.tup []):=by
 have ho:=cB m he.1.one
 have hln:(aO m ev).length=13:=rfl
 obtain ⟨S1,hn1,x1,hg1,hnx1⟩:=nb w 13 (aO m ev)
 have w1:=x1.wf w
 have in1:=h.ext w x1
 have hin1:=in1
 have hno:¬ O S.next:=fun hO=>absurd (aAz w h _ hO) (Nat.lt_irrefl _)
 obtain ⟨lv,ov,rows,h1,hO⟩:=in1
 have L1:LetIn S1 O S.next m ev:=⟨hg1,hno,he.1.ext x1,he.2⟩
 refine e76 ?_
 simp only [m76,bH,ho,hln,aJ,hn1,aF,aI,gQ,aG,Nat.reduceAdd,cR,uD,h1.r_role,nP hg1,aS,bR]
 unfold Core.appended
 refine Ok.pickP (fun e=>Ok.ret ⟨rfl,O,by rw [if_pos e];exact hin1,Mv.of x1⟩) (fun e=>?_)
 rw [if_neg e]
 refine (g99 m ev w1 hin1 I ok hk L1.ents).call fun S2 x2=>?_
 have w2:=x2.wf w1
 have x02:=x1.trans x2
 have in2:=hin1.ext w1 x2
 have g2:=x2.old _ _ hg1
 refine Ok.pick (fun e2=>Ok.ret ⟨rfl,O,by rw [if_pos e2];exact in2,Mv.of x02⟩) (fun e2=>?_)
 rw [if_neg (fun q=>by rw [q] at e2;cases e2)]
 simp only [cW,aG,Nat.reduceAdd,aF,cR,cG g2]
 refine WMeth.call (aWr m.from' w2 in2) w2 fun S3 O3 w3 in3 m3=>?_
 have L3:=(L1.ext x2).mv w2 m3
 have mv3:=(Mv.of (O:=O) x02).trans w m3
 have I3:=(I.hear ok.f0 ok.f1).1
 generalize hc3:c.hear m.from'=c3 at in3 I3
 have hl3:c3.out.length≤999990:=by rw [←hc3];exact hl
 have xb:Ext S3 (⟨S3.next+5,S3.heap⟩:St):=(Ext.refl S3).bump 5
 simp only [cI,aG,Nat.reduceAdd,aF,cR,aL,bI L3.box]
 refine (g43 (in3.ext w3 xb) I3.h).call fun S4 x4=>?_
 have x34:=xb.trans x4
 have w4:=x34.wf w3
 have L4:=L3.ext x34
 have in4:=in3.ext w3 x34
 simp only [bI L4.box,aF,bO,aJ,bX]
 refine Ok.pickP (fun e3=>?_) (fun e3=>?_)
 ·rw [if_pos e3]
  have xc:Ext S4 (⟨S4.next+7,S4.heap⟩:St):=(Ext.refl S4).bump 7
  simp only [cW,aG,Nat.reduceAdd,aF,cR,aL,cG L4.box]
  refine (g43 (in4.ext w4 xc) I3.h).call fun S5 x5=>?_
  have x45:=xc.trans x5
  have w5:=x45.wf w4
  have L5:=L4.ext x45
  simp only [cG L5.box,aF,bO,aJ,jB,qE]
  exact WMeth.call (g71 _ .nils w5 (in4.ext w4 x45) (Apart.nil _ _ rfl) (dN hl3)) w5 fun S6 O6 w6 in6 m6=>Ok.ret ⟨rfl,O6,in6,(mv3.trans w (Mv.of (x34.trans x45))).trans w m6⟩
 ·rw [if_neg e3]
  have xc:Ext S4 (⟨S4.next+17,S4.heap⟩:St):=(Ext.refl S4).bump 17
  have fin:∀ (S5:St),Ext S4 S5→∀ q:Bool,q=decide (c3.h.base≤m.index∧c3.term m.index≠m.at')→Ok (fun k K=>vQ (aE prog aW aX k) k K (.ptr a 0 0 0) (.ptr S.next 0 0 0) (.bool q) S5) (fun u S'=>u=.tup []∧∃ O',WIn S' a (if c3.h.base≤m.index∧c3.term m.index≠m.at' then c3.post { Letter.zero with kind:=4,to:=m.from',index:=m.index - 1 } else
   ({ c3 with h:=(eI m.entries (m.index+1) c3.h m.index).1,sure:=max c3.sure (min m.commit (eI m.entries (m.index+1) c3.h m.index).2) }:Core).post { Letter.zero with kind:=4,to:=m.from',yes:=true,index:=(eI m.entries (m.index+1) c3.h m.index).2 }) O'∧Mv O S O' S'):=fun S5 x5 q hq=>by
   have w5:=x5.wf w4
   have x35:=x34.trans x5
   exact (bAz m ev w5 ⟨w5,in4.ext w4 x5,Mv.refl _ _,L4.ext x5⟩ I3 ok hk hl3 (Int.not_lt.1 e3) q hq).mono fun u S6 ⟨e,O6,i6,m6⟩=>⟨e,O6,i6,(mv3.trans w (Mv.of x35)).trans w m6⟩
  obtain ⟨lv',ov',rows',h4,_⟩:=in4
  simp only [cI,fE,aG,Nat.reduceAdd,aF,cR,aL,bI L4.box,gB L4.box,aI,dI,dM,h4.r_base,dA]
  refine Ok.pickP (fun e4=>?_) (fun e4=>fin _ xc false (decide_eq_false (fun q=>e4 q.1)).symm)
  refine (g72 ((in3.ext w3 x34).ext w4 xc) I3.h (n:=m.index) e4 (Int.not_lt.1 e3)).call fun S5 x5=>?_
  have x45:=xc.trans x5
  have L5:=L4.ext x45
  simp only [gB L5.box,aF,bO,aJ,aS,cJ]
  refine fin S5 x45 _ ?_
  by_cases e5:c3.term m.index=m.at'
  ·rw [decide_eq_true e5,decide_eq_false (fun q=>q.2 e5)];rfl
  ·rw [decide_eq_false e5,decide_eq_true (show c3.h.base≤m.index∧c3.term m.index≠m.at' from ⟨e4,e5⟩)];rfl
theorem j77 (f:Int) (w:WF S) (h:WIn S a c O) (ok:Hok c.h) (f0:0≤f) (f1:f<7) (hp:Pok c (c.peer f)) (hl:c.out.length≤999990) (q:Bool):
  Ok (fun k K=>vR (aE prog aW aX k) k K (.ptr a 0 0 0) (.int .i64 f) (.bool q) S) (fun u S'=>u=.tup []∧∃ O',WIn S' a (if q=true then c.send f else c) O'∧Mv O S O' S'):=by
 cases q with
 | true=>
  simp only [vR,bA,if_true]
  exact WMeth.call (g79 w h ok (dN hl) f0 f1 hp) w fun S2 O2 w2 in2 m2=>Ok.ret ⟨rfl,O2,in2,m2⟩
 | false=>
  simp only [vR,aK]
  exact Ok.ret ⟨rfl,O,h,Mv.refl O S⟩
theorem aWs {l:List Peer} (hl:l.length=7) {i:Nat} (hi:i<7) (x y:Int):
  ((l.set i { l.getD i ⟨0,0,0⟩ with mtch:=y }).set i { (l.set i { l.getD i ⟨0,0,0⟩ with mtch:=y }).getD i ⟨0,0,0⟩ with next:=x }).set i { ((l.set i { l.getD i ⟨0,0,0⟩ with mtch:=y }).set i { (l.set i { l.getD i ⟨0,0,0⟩ with mtch:=y }).getD i ⟨0,0,0⟩ with next:=x }).getD i ⟨0,0,0⟩ with off:=0 }=l.set i ⟨x,y,0⟩:=by
 simp only [List.set_set,List.getD_eq_getElem?_getD,List.getElem?_set_self (show i<l.length by omega),Option.getD_some]
theorem g77 (m:Letter) (ev:V) (w:WF S) (h:WIn S a c O) (I:Inv c) (ok:Lok m) (he:Sl S 3 ev (m.entries.map bM)) (hl:c.out.length≤999990):WMeth 77 [.ptr a 0 0 0,.agg (aO m ev)] a (c.acked m) S O (.tup []):=by
 have ho:=cB m he.one
 have hln:(aO m ev).length=13:=rfl
 have f0:=ok.f0
 have f1:=ok.f1
 have i0:=ok.i0
 have i1:=ok.i1
 have hr:=cZ I.h
 have f7:m.from'<7:=by omega
 have hw:wr .i64 (m.index+1)=m.index+1:=cS (by omega) (by omega)
 obtain ⟨n,hn⟩:∃ n:Nat,m.from'=(n:Int):=⟨m.from'.toNat,by omega⟩
 have hn7:n<7:=by omega
 have hpe:c.peers.getD n ⟨0,0,0⟩=c.peer m.from':=by rw [hn];rfl
 obtain ⟨S1,hn1,x1,hg1,hnx1⟩:=nb w 13 (aO m ev)
 have w1:=x1.wf w
 have hno:¬ O S.next:=fun hO=>absurd (aAz w h _ hO) (Nat.lt_irrefl _)
 have xb:Ext S1 (⟨S1.next+12,S1.heap⟩:St):=(Ext.refl S1).bump 12
 have x1b:=x1.trans xb
 have inb:=h.ext w x1b
 have hinb:=inb
 obtain ⟨lv,ov,rows,hb1,hO⟩:=inb
 have hb1':aR none (.ptr a 0 0 8) S1=.ok (.int .i64 c.role):=hb1.r_role
 refine e77 ?_
 simp only [m77,bH,ho,hln,aJ,hn1,aF,aI,gQ,cI,aG,Nat.reduceAdd,cR,aL,hb1',bI hg1,aS,cJ]
 have hA:c.acked m=if c.role≠3∨c.last<m.index then c else
   if m.yes=false then (c.setPeer m.from' { c.peer m.from' with next:=max (min ((c.peer m.from').next - 1) (m.index+1)) ((c.peer m.from').mtch+1) }).send m.from' else
   if m.index≤(c.peer m.from').mtch then c else
    if (c.setPeer m.from' ⟨m.index+1,m.index,0⟩).look.role=3∧((c.setPeer m.from' ⟨m.index+1,m.index,0⟩).look.peer m.from').next≤(c.setPeer m.from' ⟨m.index+1,m.index,0⟩).look.last then (c.setPeer m.from' ⟨m.index+1,m.index,0⟩).look.send m.from' else (c.setPeer m.from' ⟨m.index+1,m.index,0⟩).look:=rfl
 rw [hA]
 refine Ok.pickN (fun e=>Ok.ret ⟨rfl,O,by rw [if_pos (.inl e)];exact hinb,Mv.of x1b⟩) (fun e=>?_)
 refine (g43 hinb I.h).call fun S2 x2=>?_
 have x02:=x1b.trans x2
 have w2:=x02.wf w
 have g2:=x2.old _ _ (xb.old _ _ hg1)
 have in2:=h.ext w x02
 simp only [bI g2,aF,bO,aJ,bX]
 refine Ok.pickP (fun e2=>Ok.ret ⟨rfl,O,by rw [if_pos (.inr e2)];exact in2,Mv.of x02⟩) (fun e2=>?_)
 rw [if_neg (fun q=>by
  rcases q with q | q
  ·exact q e
  ·exact e2 q)]
 have hpk:=I.pr e _ (mS I.pl f0 f7)
 have hsp:∀ p:Peer,({ c with peers:=c.peers.set n p }:Core)=c.setPeer m.from' p:=fun p=>by unfold Core.setPeer;rw [hn];rfl
 simp only [cW,jY,cI,aG,Nat.reduceAdd,aF,cR,ld4,aL,cG g2,mR g2,bI g2,aI,hn,vV,sT,oH,qH,eK hn7,dS]
 rw [←hn]
 have hin2:=in2
 obtain ⟨lv,ov,rows,h2,hO2⟩:=in2
 have e1:=h2.r_next hn7
 have e4:=h2.r_mtch hn7
 rw [hpe] at e1 e4
 refine Ok.pick (fun e3=>?_) (fun e3=>?_)
 ·have e3':m.yes=false:=by simpa using e3
  rw [if_pos e3']
  have xc:Ext S2 (⟨S2.next+27,S2.heap⟩:St):=(Ext.refl S2).bump 27
  have wc:=xc.wf w2
  generalize hd:max (min ((c.peer m.from').next - 1) (m.index+1)) ((c.peer m.from').mtch+1)=d
  obtain ⟨q1,q2,q3,q4,q5⟩:=aH5 hpk.n0 hpk.n1 hpk.a0 hpk.a1 i0 hr.2 i1 hd.symm
  obtain ⟨S3,r3,h3,m3,n3⟩:=(h2.ext w2 xc).w_next wc hn7 d
  rw [hpe,hsp] at h3
  rw [←hO2] at m3
  have w3:=m3.wf wc
  simp only [e1,e4,aF,cE,bK,q1,q2,q3,lZ,uG,hd,mD,r3]
  have hpp:({ c with peers:=c.peers.set n { c.peer m.from' with next:=d } }:Core).peer m.from'={ c.peer m.from' with next:=d }:=by rw [hn];exact iC I.pl hn7 _
  rw [hsp] at hpp
  refine WMeth.call (g79 w3 ⟨_,_,_,h3,hO2⟩ I.h (dN hl) f0 f7 ?_) w3 fun S4 O4 w4 in4 m4=>Ok.ret ⟨rfl,O4,in4,((Mv.of (x02.trans xc)).trans w m3).trans w m4⟩
  rw [hpp]
  exact ⟨hpk.a0,hpk.a1,q4,q5,hpk.o0,hpk.o1⟩
 ·rw [if_neg (fun q=>by rw [q] at e3;cases e3)]
  have xc:Ext S2 (⟨S2.next+9,S2.heap⟩:St):=(Ext.refl S2).bump 9
  simp only [e4,aF,dH]
  refine Ok.pickP (fun e5=>Ok.ret ⟨rfl,O,by rw [if_pos e5];exact hin2.ext w2 xc,Mv.of (x02.trans xc)⟩) (fun e5=>?_)
  rw [if_neg e5]
  have xd:Ext S2 (⟨S2.next+17,S2.heap⟩:St):=(Ext.refl S2).bump 17
  have wd:=xd.wf w2
  obtain ⟨S3,r3,h3,m3,n3⟩:=(h2.ext w2 xd).w_mtch wd hn7 m.index
  rw [←hO2] at m3
  have w3:=m3.wf wd
  have g3:=fR wd (xd.old _ _ g2) hno m3
  have xe:Ext S3 (⟨S3.next+9,S3.heap⟩:St):=(Ext.refl S3).bump 9
  have we:=xe.wf w3
  obtain ⟨S4,r4,h4,m4,n4⟩:=(h3.ext w3 xe).w_next we hn7 (m.index+1)
  rw [←hO2] at m4
  have w4:=m4.wf we
  obtain ⟨S5,r5,h5',m5,n5⟩:=h4.w_off w4 hn7 0
  rw [←hO2] at m5
  have w5:=m5.wf w4
  have h5:WAt S5 a (c.setPeer m.from' ⟨m.index+1,m.index,0⟩) (gC c.way) lv ov rows:=by
   rw [←hsp,←aWs I.pl hn7 (m.index+1) m.index]
   exact h5'
  clear h5'
  have mv5:=((((Mv.of (O:=O) (x02.trans xd)).trans w m3).trans w (Mv.of xe)).trans w m4).trans w m5
  have hpp:({ c with peers:=c.peers.set n ⟨m.index+1,m.index,0⟩ }:Core).peer m.from'=⟨m.index+1,m.index,0⟩:=by rw [hn];exact iC I.pl hn7 _
  rw [hsp] at hpp
  simp only [Nat.add_assoc,Nat.reduceAdd,mD,r3,aF,bI g3.1,bK,hw,r4,r5]
  generalize hc3:c.setPeer m.from' ⟨m.index+1,m.index,0⟩=c3 at h5 hpp
  have eh:c3.h=c.h:=by rw [←hc3];rfl
  have ew:c3.way=c.way:=by rw [←hc3];rfl
  have el3:c3.last=c.last:=by unfold Core.last;rw [eh]
  rw [←ew] at h5
  refine WMeth.call (g98 w5 ⟨_,_,_,h5,hO2⟩ (by rw [eh];exact I.h) (by rw [eh,←hc3];exact I.s0) (by rw [el3,←hc3];exact I.s1)) w5 fun S6 O6 w6 in6 m6=>?_
  obtain ⟨k1,k2,k3,k4,k5⟩:=qX c3
  have mv6:=mv5.trans w m6
  generalize hc4:c3.look=c4 at in6 k1 k2 k3 k4 k5
  have hok4:Hok c4.h:=by rw [k1,eh];exact I.h
  have hp4:c4.peer m.from'=⟨m.index+1,m.index,0⟩:=by unfold Core.peer at hpp ⊢;rw [k2];exact hpp
  have hp4':c4.peers.getD n ⟨0,0,0⟩=⟨m.index+1,m.index,0⟩:=by rw [←hp4,hn];rfl
  have el4:c4.last=c.last:=by unfold Core.last;rw [k1,eh]
  have hl4:c4.out.length≤999990:=by rw [k3,←hc3];exact hl
  have xf:Ext S6 (⟨S6.next+16,S6.heap⟩:St):=(Ext.refl S6).bump 16
  have hin6:=in6
  obtain ⟨lv,ov,rows,h6,hO6⟩:=in6
  have e7:=h6.r_next hn7
  rw [hp4'] at e7
  have hpk4:Pok c4 (c4.peer m.from'):=by
   rw [hp4];exact ⟨i0,by rw [el4];exact Int.not_lt.1 e2,Int.add_le_add_right i0 1,by rw [el4];show m.index+1≤c.last+1;exact Int.add_le_add_right (Int.not_lt.1 e2) 1,Int.le_refl _,.inr rfl⟩
  have fin:∀ S7,Ext S6 S7→∀ q:Bool,q=decide (c4.role=3∧(c4.peer m.from').next≤c4.last)→Ok (fun k K=>vR (aE prog aW aX k) k K (.ptr a 0 0 0) (.int .i64 m.from') (.bool q) S7) (fun u S'=>u=.tup []∧∃ O',WIn S' a (if c4.role=3∧(c4.peer m.from').next≤c4.last then c4.send m.from' else c4) O'∧Mv O S O' S'):=fun S7 x7 q hq=>by
   refine (j77 m.from' (x7.wf w6) (hin6.ext w6 x7) hok4 f0 f7 hpk4 hl4 q).mono fun u S8 ⟨e,O8,i8,m8⟩=>⟨e,O8,?_,(mv6.trans w (Mv.of x7)).trans w m8⟩
   by_cases hc:c4.role=3∧(c4.peer m.from').next≤c4.last
   ·rw [if_pos hc];rw [hq,decide_eq_true hc,if_pos rfl] at i8;exact i8
   ·rw [if_neg hc];rw [hq,decide_eq_false hc,if_neg (by decide)] at i8;exact i8
  simp only [aI,gQ,vV,aG,Nat.reduceAdd,qH,eK hn7,aF,cR,aL,h6.r_role,aS,aJ,bR,e7]
  refine Ok.pickP (fun e6=>?_) (fun e6=>fin _ xf false (decide_eq_false (fun q=>e6 q.1)).symm)
  refine (g43 (hin6.ext w6 xf) hok4).call fun S7 x7=>?_
  have x67:=xf.trans x7
  have e8:=(h6.ext w6 x67).r_next hn7
  rw [hp4'] at e8
  simp only [e8,aF,bO,aJ,dH]
  refine fin S7 x67 _ ?_
  rw [hp4]
  by_cases hc:m.index+1≤c4.last
  ·rw [decide_eq_true hc,decide_eq_true (show c4.role=3∧m.index+1≤c4.last from ⟨e6,hc⟩)]
  ·rw [decide_eq_false hc,decide_eq_false (fun q=>hc q.2)]
end
end
end Go.Proofs.Ytbiidlmhadihlaa
end
