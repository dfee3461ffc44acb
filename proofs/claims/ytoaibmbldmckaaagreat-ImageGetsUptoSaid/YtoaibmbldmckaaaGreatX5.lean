import Derived.KernelRfl
import Derived.Test.YtoaibmbldmckaaaGreatProg
import Derived.Test.YtoaibmbldmckaaaGreatX4
set_option linter.unusedSimpArgs false
set_option linter.unusedVariables false
set_option linter.unusedSectionVars false
set_option maxRecDepth 100000
section
namespace Go.Proofs.YtoaibmbldmckaaaGreat
open Go.AM Tryz
structure P21 (b:List UInt8) (X:St) (a q:Nat) (r:Rd) (row:List V):Prop where
 w:WF X
 ra:X.heap.get a=some (.row 0 3 [r.cells b])
 rq:X.heap.get q=some (.row 0 6 [row])
 aq:a≠q
 h0a:0≠a
 h0q:0≠q
 r0:X.heap.get 0=some (.row 0 6 [[.nils,.nils,.nils,.nils,.nils,.int .i64 0]])
 hp:r.pos≤b.length
theorem P21.rd {b:List UInt8} {X:St} {a q:Nat} {r:Rd} {row:List V} (h:P21 b X a q r row) {r':Rd} (hp:r'.pos≤b.length):P21 b ⟨X.next,X.heap.put a (.row 0 3 [r'.cells b])⟩ a q r' row:=
 ⟨kR (n:=X.next) h.w (h.w _ _ h.ra) (Nat.le_refl _),Tr.get_put_sameB _ _ _ trivial,(Tr.get_put_neB _ _ _ _ trivial h.aq.symm).trans h.rq,h.aq,h.h0a,h.h0q,(Tr.get_put_neB _ _ _ _ trivial h.h0a).trans h.r0,hp⟩
theorem P21.rb {b:List UInt8} {B X:St} {a q:Nat} {r r':Rd} {row row':List V} (h:P21 b B a q r row) (k:RB B b a q 6 r' row' X) (hp:r'.pos≤b.length):P21 b X a q r' row':=
 ⟨k.wf,k.ra,k.rq,k.aq,h.h0a,h.h0q,(k.old 0 (h.w _ _ h.r0) h.h0a h.h0q).trans h.r0,hp⟩
theorem P21.refl {b:List UInt8} {X:St} {a q:Nat} {r:Rd} {row:List V} (h:P21 b X a q r row):RB X b a q 6 r row X:=RB.refl h.w h.ra h.rq h.aq
theorem P21.gl {b:List UInt8} {B X:St} {a q:Nat} {r r':Rd} {row row':List V} (h:P21 b B a q r row) (k:RB B b a q 6 r' row' X) {tv sv pv cv:V} {us:List V} {tab:List Rate} {ser:List Ser} {pst:List Posted} {ses:List Sess} (g:GL B tv sv pv cv us tab ser pst ses):GL X tv sv pv cv us tab ser pst ses:=
 g.move fun h3 h6 o=>k.keep h.ra h.rq o (Ne.symm h3) (Ne.symm h6)
theorem GL.rd {b:List UInt8} {X:St} {a q:Nat} {r:Rd} {row:List V} {tv sv pv cv:V} {us:List V} {tab:List Rate} {ser:List Ser} {pst:List Posted} {ses:List Sess} (g:GL X tv sv pv cv us tab ser pst ses) (h:P21 b X a q r row) (r':Rd):GL ⟨X.next,X.heap.put a (.row 0 3 [r'.cells b])⟩ tv sv pv cv us tab ser pst ses:=
 g.move fun h3 h6 o=>Own.wput o h.ra (Ne.symm h3) (Nat.le_refl _) _
def aU3 (b:List UInt8) (tab:List Rate) (ser:List Ser) (pst:List Posted) (r:Rd):State×Int:=aU2 b tab ser pst (aO b (dX b) 8 r).1 (aO b (dX b) 8 r).2
structure F21 (ser:List Ser) (pst:List Posted):Prop where
 h8:ser.length≤8
 h40:pst.length≤40
 h12:∀ p∈pst,nN p.total
 hI:∀ p∈pst,∀ x∈p.total.parts,dY x.net
 hS:∀ x∈ser,dY x.next
set_option maxHeartbeats 2000000 in
theorem aZh {b:List UInt8} (hb:b.length<1000000000) {K:KW} {X:St} {a q:Nat} {r:Rd} {tv sv pv:V} {us:List V} {tab:List Rate} {ser:List Ser} {pst:List Posted} (P:P21 b X a q r [tv,sv,pv,.nils,.nils,.int .i64 0]) (g:GL X tv sv pv .nils us tab ser pst []) (F:F21 ser pst)
  (H:∀ v S0,fW S0 v=.ok (xF (aU3 b tab ser pst r))→K v S0):aBp C K (.ptr 0 0 0 0) (.ptr a 0 0 0) (.ptr q 0 0 0) X:=by
 simp only [aBp,kk,aU1 hb P.hp 8 P.ra]
 unfold aU3 aO at H
 obtain ⟨z0,z8⟩:=fJ (b:=b) (r:=r) (show (0:Int)≤8 by decide) eJ
 have hp0:=eC (most:=8) P.hp
 generalize bF b 8 r=y0 at hp0 z0 z8 H ⊢
 obtain ⟨n,r0⟩:=y0
 simp only at hp0 z0 z8 H ⊢
 obtain ⟨n,rfl⟩:=Int.eq_ofNat_of_zero_le z0
 rw [show ((n:Int)).toNat=n from by omega] at H
 have P1:=P.rd hp0
 have g1:=g.rd P r0
 generalize (⟨X.next,X.heap.put a (.row 0 3 [r0.cells b])⟩:St)=B at P1 g1 ⊢
 refine dB (fun m vs X=>∃ (i:Nat) (r1:Rd) (v:V) (done:List Sess),i+m=n∧vs=[.int .i64 (i:Int)]∧RB B b a q 6 r1 [tv,sv,pv,.nils,v,.int .i64 0] X∧Own E0 X 5 v (done.map Sess.enc)∧(∀ y,AM.blkOf v=some y→B.next≤y)∧done.length=i∧r1.pos≤b.length∧done++(aH (dX b) m r1).1=(aH (dX b) n r0).1∧(aH (dX b) m r1).2=(aH (dX b) n r0).2) ?_ (n:=n) ⟨0,r0,.nils,[],by omega,rfl,P1.refl,Own.nil _ _ _,(fun y h=>by cases h),rfl,hp0,rfl,rfl⟩
 rintro m vs Z ⟨i,r1,v,done,hi,rfl,k,o,lb,hd,hp,e1,e2⟩ aF hag
 have ra:=aE k.ra
 simp only [Rd.cells] at ra
 simp only [aS4]
 simp only [↓cw,↓reduceIte,Nat.reduceLT,kk,ra]
 have fin:∀ (done:List Sess) (r1:Rd) (v:V) (Z:St),RB B b a q 6 r1 [tv,sv,pv,.nils,v,.int .i64 0] Z→Own E0 Z 5 v (done.map Sess.enc)→r1.pos≤b.length→done=(aH (dX b) n r0).1→r1=(aH (dX b) n r0).2→aBo C K (.ptr 0 0 0 0) (.ptr a 0 0 0) (.ptr q 0 0 0) Z:=by
  intro done r1 v Z k o hp e1 e2
  rw [←e1,←e2] at H
  have Pz:=P1.rb k hp
  have gz:=P1.gl k g1
  exact bFv hb hp Pz.w Pz.ra Pz.rq Pz.aq Pz.h0a Pz.h0q Pz.r0 ⟨gz.ot,gz.os,gz.op,gz.pl,o,gz.sep⟩ F.h8 F.h40 F.h12 F.hI F.hS H
 by_cases hin:(i:Int)<(n:Int)
 rotate_left
 ·obtain rfl:m=0:=by omega
  simp only [aH,List.append_nil] at e1 e2
  simp only [hin,if_false]
  exact fin done r1 v Z k o hp e1 e2
 by_cases he:r1.err=0
 rotate_left
 ·obtain ⟨m,rfl⟩:∃ m',m=m'+1:=⟨m - 1,by omega⟩
  simp only [aH,he,if_false,List.append_nil] at e1 e2
  simp only [hin,he,if_true,if_false]
  exact fin done r1 v Z k o hp e1 e2
 obtain ⟨m,rfl⟩:∃ m',m=m'+1:=⟨m - 1,by omega⟩
 simp only [aH,he,if_true] at e1 e2
 simp only [hin,he,if_true]
 have kZ:RB Z b a q 6 r1 [tv,sv,pv,.nils,v,.int .i64 0] Z:=RB.refl k.wf k.ra k.rq k.aq
 obtain ⟨x0,R0,h0⟩:∃ v r,aR b r1=(v,r):=⟨_,_,rfl⟩
 have pR0:R0.pos≤b.length:=by have:=aK hp;rw [h0] at this;exact this
 have c0:=fun K:KW=>aBs (r:=r1) hb hp k.ra K
 rw [h0] at c0
 dsimp only at c0
 obtain ⟨Zb0,hZb0⟩:∃ Y:St,Y=⟨Z.next+1,((Z.heap.put a (.row 0 3 [R0.cells b])).put Z.next (.row 0 5 [[.int .i64 0,.int .i64 0,.int .i64 0,.int .i64 0,.int .i64 0]])).put Z.next (.row 0 5 [[.int .i64 x0,.int .i64 0,.int .i64 0,.int .i64 0,.int .i64 0]])⟩:=⟨_,rfl⟩
 have a0:RT Z b a q 6 Z.next 5 R0 [tv,sv,pv,.nils,v,.int .i64 0] [.int .i64 x0,.int .i64 0,.int .i64 0,.int .i64 0,.int .i64 0] Zb0:=by rw [hZb0];exact ((kZ.rd R0).new 5 [.int .i64 0,.int .i64 0,.int .i64 0,.int .i64 0,.int .i64 0]).tmp [.int .i64 x0,.int .i64 0,.int .i64 0,.int .i64 0,.int .i64 0]
 simp only [c0]
 simp only [↓cw,↓reduceIte,Nat.reduceLT,Nat.reduceAdd,kk,Date.enc,←hZb0]
 clear hZb0 c0
 obtain ⟨x1,R1,h1⟩:∃ v r,aR b R0=(v,r):=⟨_,_,rfl⟩
 have pR1:R1.pos≤b.length:=by have:=aK pR0;rw [h1] at this;exact this
 have c1:=fun K:KW=>aBs (r:=R0) hb pR0 a0.ra K
 rw [h1] at c1
 dsimp only at c1
 have d1:RT Z b a q 6 Z.next 5 R1 [tv,sv,pv,.nils,v,.int .i64 0] [.int .i64 x0,.int .i64 0,.int .i64 0,.int .i64 0,.int .i64 0] (⟨Zb0.next,Zb0.heap.put a (.row 0 3 [R1.cells b])⟩:St):=a0.rdT R1
 have g1:=aE (S:=(⟨Zb0.next,Zb0.heap.put a (.row 0 3 [R1.cells b])⟩:St)) d1.rt
 simp only [c1]
 obtain ⟨Zb1,hZb1⟩:∃ Y:St,Y=⟨Zb0.next,(Zb0.heap.put a (.row 0 3 [R1.cells b])).put Z.next (.row 0 5 [[.int .i64 x0,.int .i64 x1,.int .i64 0,.int .i64 0,.int .i64 0]])⟩:=⟨_,rfl⟩
 have a1:RT Z b a q 6 Z.next 5 R1 [tv,sv,pv,.nils,v,.int .i64 0] [.int .i64 x0,.int .i64 x1,.int .i64 0,.int .i64 0,.int .i64 0] Zb1:=by rw [hZb1];exact d1.tmp [.int .i64 x0,.int .i64 x1,.int .i64 0,.int .i64 0,.int .i64 0]
 simp only [↓cw,↓reduceIte,Nat.reduceLT,Nat.reduceAdd,kk,Date.enc,g1,←hZb1]
 clear hZb1 c1 g1 d1 a0
 obtain ⟨x2,R2,h2⟩:∃ v r,aR b R1=(v,r):=⟨_,_,rfl⟩
 have pR2:R2.pos≤b.length:=by have:=aK pR1;rw [h2] at this;exact this
 have c2:=fun K:KW=>aBs (r:=R1) hb pR1 a1.ra K
 rw [h2] at c2
 dsimp only at c2
 have d2:RT Z b a q 6 Z.next 5 R2 [tv,sv,pv,.nils,v,.int .i64 0] [.int .i64 x0,.int .i64 x1,.int .i64 0,.int .i64 0,.int .i64 0] (⟨Zb1.next,Zb1.heap.put a (.row 0 3 [R2.cells b])⟩:St):=a1.rdT R2
 have g2:=aE (S:=(⟨Zb1.next,Zb1.heap.put a (.row 0 3 [R2.cells b])⟩:St)) d2.rt
 simp only [c2]
 obtain ⟨Zb2,hZb2⟩:∃ Y:St,Y=⟨Zb1.next,(Zb1.heap.put a (.row 0 3 [R2.cells b])).put Z.next (.row 0 5 [[.int .i64 x0,.int .i64 x1,.int .i64 x2,.int .i64 0,.int .i64 0]])⟩:=⟨_,rfl⟩
 have a2:RT Z b a q 6 Z.next 5 R2 [tv,sv,pv,.nils,v,.int .i64 0] [.int .i64 x0,.int .i64 x1,.int .i64 x2,.int .i64 0,.int .i64 0] Zb2:=by rw [hZb2];exact d2.tmp [.int .i64 x0,.int .i64 x1,.int .i64 x2,.int .i64 0,.int .i64 0]
 simp only [↓cw,↓reduceIte,Nat.reduceLT,Nat.reduceAdd,kk,Date.enc,g2,←hZb2]
 clear hZb2 c2 g2 d2 a1
 obtain ⟨x3,R3,h3⟩:∃ v r,aR b R2=(v,r):=⟨_,_,rfl⟩
 have pR3:R3.pos≤b.length:=by have:=aK pR2;rw [h3] at this;exact this
 have c3:=fun K:KW=>aBs (r:=R2) hb pR2 a2.ra K
 rw [h3] at c3
 dsimp only at c3
 have d3:RT Z b a q 6 Z.next 5 R3 [tv,sv,pv,.nils,v,.int .i64 0] [.int .i64 x0,.int .i64 x1,.int .i64 x2,.int .i64 0,.int .i64 0] (⟨Zb2.next,Zb2.heap.put a (.row 0 3 [R3.cells b])⟩:St):=a2.rdT R3
 have g3:=aE (S:=(⟨Zb2.next,Zb2.heap.put a (.row 0 3 [R3.cells b])⟩:St)) d3.rt
 simp only [c3]
 obtain ⟨Zb3,hZb3⟩:∃ Y:St,Y=⟨Zb2.next,(Zb2.heap.put a (.row 0 3 [R3.cells b])).put Z.next (.row 0 5 [[.int .i64 x0,.int .i64 x1,.int .i64 x2,.int .i64 x3,.int .i64 0]])⟩:=⟨_,rfl⟩
 have a3:RT Z b a q 6 Z.next 5 R3 [tv,sv,pv,.nils,v,.int .i64 0] [.int .i64 x0,.int .i64 x1,.int .i64 x2,.int .i64 x3,.int .i64 0] Zb3:=by rw [hZb3];exact d3.tmp [.int .i64 x0,.int .i64 x1,.int .i64 x2,.int .i64 x3,.int .i64 0]
 simp only [↓cw,↓reduceIte,Nat.reduceLT,Nat.reduceAdd,kk,Date.enc,g3,←hZb3]
 clear hZb3 c3 g3 d3 a2
 obtain ⟨x4,R4,h4⟩:∃ v r,aR b R3=(v,r):=⟨_,_,rfl⟩
 have pR4:R4.pos≤b.length:=by have:=aK pR3;rw [h4] at this;exact this
 have c4:=fun K:KW=>aBs (r:=R3) hb pR3 a3.ra K
 rw [h4] at c4
 dsimp only at c4
 have d4:RT Z b a q 6 Z.next 5 R4 [tv,sv,pv,.nils,v,.int .i64 0] [.int .i64 x0,.int .i64 x1,.int .i64 x2,.int .i64 x3,.int .i64 0] (⟨Zb3.next,Zb3.heap.put a (.row 0 3 [R4.cells b])⟩:St):=a3.rdT R4
 have g4:=aE (S:=(⟨Zb3.next,Zb3.heap.put a (.row 0 3 [R4.cells b])⟩:St)) d4.rt
 simp only [c4]
 obtain ⟨Zb4,hZb4⟩:∃ Y:St,Y=⟨Zb3.next,(Zb3.heap.put a (.row 0 3 [R4.cells b])).put Z.next (.row 0 5 [[.int .i64 x0,.int .i64 x1,.int .i64 x2,.int .i64 x3,.int .i64 x4]])⟩:=⟨_,rfl⟩
 have a4:RT Z b a q 6 Z.next 5 R4 [tv,sv,pv,.nils,v,.int .i64 0] [.int .i64 x0,.int .i64 x1,.int .i64 x2,.int .i64 x3,.int .i64 x4] Zb4:=by rw [hZb4];exact d4.tmp [.int .i64 x0,.int .i64 x1,.int .i64 x2,.int .i64 x3,.int .i64 x4]
 simp only [↓cw,↓reduceIte,Nat.reduceLT,Nat.reduceAdd,kk,Date.enc,g4,←hZb4]
 clear hZb4 c4 g4 d4 a3
 obtain ⟨ss,hss⟩:∃ ss:Sess,ss=⟨x0,x1,⟨x2,x3,x4⟩⟩:=⟨_,rfl⟩
 have hread:dX b r1=(ss,R4):=by rw [hss];unfold dX;simp only [h0,h1,h2,h3,h4]
 rw [hread] at e1 e2
 have gt:=aE a4.rt
 have gq:=aE a4.rq
 have o6:=a4.toRB.keep k.ra k.rq o (by decide) (by decide)
 obtain ⟨v',X',q1,k7,o7,lb7,_,_,_⟩:=(k.trans a4.toRB).app (bb:=40) o6 lb (sess5 ss) (by simp;omega) (by simp [fL];omega)
 have gx:=aE k7.rq
 have k8:=k7.qset [tv,sv,pv,.nils,v',.int .i64 0]
 have vo:=o7.one
 have vc:=o7.cells
 rw [hss] at q1
 simp only [Sess.enc] at q1
 simp only [↓cw,↓reduceIte,Nat.reduceLT,Nat.reduceAdd,kk,gt,gq,aR8,q1,gx,vo,vc,gJ (show i<1000000000 by omega)]
 exact hag m _ _ (by omega) ⟨i+1,R4,v',done++[ss],by omega,rfl,k8,by rw [List.map_append];exact Own.wput o7 k7.rq (by decide) (Nat.le_refl _) _,lb7,by simp [hd],pR4,by rw [←e1];simp,e2⟩
theorem aNg (b:List UInt8) (r:Rd):dY (aR b r).1:=by
 unfold aR
 split
 ·split
  ·rename_i u t e
   have:Go.Pack.numR (b.drop r.pos)=.ok (Go.Pack.zag u,t):=by unfold Go.Pack.numR;rw [e]
   exact ⟨(Go.Pack.num_back this).2.1,(Go.Pack.num_back this).2.2⟩
  ·exact (⟨by decide,by decide⟩:dY 0)
 ·exact (⟨by decide,by decide⟩:dY 0)
def aU4 (b:List UInt8) (tab:List Rate) (ser:List Ser) (r:Rd):State×Int:=aU3 b tab ser (aO b (cJ b) 40 r).1 (aO b (cJ b) 40 r).2
set_option maxHeartbeats 2000000 in
theorem bFw {b:List UInt8} (hb:b.length<1000000000) {K:KW} {X:St} {a q:Nat} {r:Rd} {tv sv:V} {tab:List Rate} {ser:List Ser} (P:P21 b X a q r [tv,sv,.nils,.nils,.nils,.int .i64 0]) (g:GL X tv sv .nils .nils [] tab ser [] []) (h8:ser.length≤8) (hS:∀ x∈ser,dY x.next)
  (H:∀ v S0,fW S0 v=.ok (xF (aU4 b tab ser r))→K v S0):aBq C K (.ptr 0 0 0 0) (.ptr a 0 0 0) (.ptr q 0 0 0) X:=by
 simp only [aBq,kk,aU1 hb P.hp 40 P.ra]
 unfold aU4 at H
 have hl3:=jQ b (cJ b) 40 r
 have hm3:∀ p∈(aO b (cJ b) 40 r).1,nN p.total∧∀ x∈p.total.parts,dY x.net:=fun p hp=>by
  obtain ⟨r',rfl⟩:=iF _ _ _ _ hp
  refine ⟨aLh b r',fun x hx=>?_⟩
  obtain ⟨r2,rfl⟩:=iF _ _ _ _ hx
  exact aNg _ _
 rw [show ((40:Nat):Int)=40 from rfl] at hl3
 unfold aO at H hl3 hm3
 obtain ⟨z0,z8⟩:=fJ (b:=b) (r:=r) (show (0:Int)≤40 by decide) eJ
 have hp0:=eC (most:=40) P.hp
 generalize bF b 40 r=y0 at hp0 z0 z8 H hl3 hm3 ⊢
 obtain ⟨n,r0⟩:=y0
 simp only at hp0 z0 z8 H hl3 hm3 ⊢
 obtain ⟨n,rfl⟩:=Int.eq_ofNat_of_zero_le z0
 rw [show ((n:Int)).toNat=n from by omega] at H hl3 hm3
 have P1:=P.rd hp0
 have g1:=g.rd P r0
 generalize (⟨X.next,X.heap.put a (.row 0 3 [r0.cells b])⟩:St)=B at P1 g1 ⊢
 refine dB (fun m vs X=>∃ (i:Nat) (r1:Rd) (v:V) (us:List V) (done:List Posted),i+m=n∧vs=[.int .i64 (i:Int)]∧RB B b a q 6 r1 [tv,sv,v,.nils,.nils,.int .i64 0] X∧Own E0 X 12 v (List.zipWith Posted.encW us done)∧(∀ y,AM.blkOf v=some y→B.next≤y)∧PL E0 X us done∧(∀ (j:Nat) (u:V) (y:Nat),us[j]?=some u→AM.blkOf u=some y→B.next≤y)∧done.length=i∧r1.pos≤b.length∧done++(aH (cJ b) m r1).1=(aH (cJ b) n r0).1∧(aH (cJ b) m r1).2=(aH (cJ b) n r0).2) ?_ (n:=n) ⟨0,r0,.nils,[],[],by omega,rfl,P1.refl,Own.nil _ _ _,(fun y h=>by cases h),PL.nil _ _,(fun j u y h=>by simp at h),rfl,hp0,rfl,rfl⟩
 rintro m vs Z ⟨i,r1,v,us,done,hi,rfl,k,o,lb,pl,lbu,hd,hp,e1,e2⟩ aF hag
 have ra:=aE k.ra
 simp only [Rd.cells] at ra
 simp only [aS6]
 simp only [↓cw,↓reduceIte,Nat.reduceLT,kk,ra]
 have fin:done=(aH (cJ b) n r0).1→r1=(aH (cJ b) n r0).2→aBp C K (.ptr 0 0 0 0) (.ptr a 0 0 0) (.ptr q 0 0 0) Z:=by
  intro e1 e2
  rw [←e1,←e2] at H
  rw [←e1] at hl3 hm3
  have gz:=P1.gl k g1
  exact aZh hb (P1.rb k hp) ⟨gz.ot,gz.os,o,pl,Own.nil _ _ _,fun i u y hu hy e=>by have:=lbu i u y hu hy;have:=(cS g1.os e).2;omega⟩ ⟨h8,hl3,fun p hp=>(hm3 p hp).1,fun p hp=>(hm3 p hp).2,hS⟩ H
 by_cases hin:(i:Int)<(n:Int)
 rotate_left
 ·obtain rfl:m=0:=by omega
  simp only [aH,List.append_nil] at e1 e2
  simp only [hin,if_false]
  exact fin e1 e2
 by_cases he:r1.err=0
 rotate_left
 ·obtain ⟨m,rfl⟩:∃ m',m=m'+1:=⟨m - 1,by omega⟩
  simp only [aH,he,if_false,List.append_nil] at e1 e2
  simp only [hin,he,if_true,if_false]
  exact fin e1 e2
 obtain ⟨m,rfl⟩:∃ m',m=m'+1:=⟨m - 1,by omega⟩
 clear fin
 simp only [aH,he,if_true] at e1 e2
 simp only [hin,he,if_true]
 have kZ:RB Z b a q 6 r1 [tv,sv,v,.nils,.nils,.int .i64 0] Z:=RB.refl k.wf k.ra k.rq k.aq
 obtain ⟨x0,R0,h0⟩:∃ v r,fA b 64 r1=(v,r):=⟨_,_,rfl⟩
 have pR0:R0.pos≤b.length:=by have:=cY (most:=64) hp;rw [h0] at this;exact this
 have c0:=fun K:KW=>aS9 (r:=r1) hb hp k.ra K
 rw [h0] at c0
 dsimp only at c0
 obtain ⟨Zb0,hZb0⟩:∃ W0:St,W0=⟨Z.next+1,((Z.heap.put a (.row 0 3 [R0.cells b])).put Z.next (.row 0 12 [[.str [],.int .i64 0,.int .i64 0,.int .i64 0,.int .i64 0,.int .i64 0,.int .i64 0,.int .i64 0,.nils,.str [],.int .i64 0,.bool false]])).put Z.next (.row 0 12 [[.str x0,.int .i64 0,.int .i64 0,.int .i64 0,.int .i64 0,.int .i64 0,.int .i64 0,.int .i64 0,.nils,.str [],.int .i64 0,.bool false]])⟩:=⟨_,rfl⟩
 have a0:RT Z b a q 6 Z.next 12 R0 [tv,sv,v,.nils,.nils,.int .i64 0] [.str x0,.int .i64 0,.int .i64 0,.int .i64 0,.int .i64 0,.int .i64 0,.int .i64 0,.int .i64 0,.nils,.str [],.int .i64 0,.bool false] Zb0:=by rw [hZb0];exact ((kZ.rd R0).new 12 [.str [],.int .i64 0,.int .i64 0,.int .i64 0,.int .i64 0,.int .i64 0,.int .i64 0,.int .i64 0,.nils,.str [],.int .i64 0,.bool false]).tmp [.str x0,.int .i64 0,.int .i64 0,.int .i64 0,.int .i64 0,.int .i64 0,.int .i64 0,.int .i64 0,.nils,.str [],.int .i64 0,.bool false]
 simp only [c0]
 simp only [↓cw,↓reduceIte,Nat.reduceLT,Nat.reduceAdd,kk,Date.enc,←hZb0]
 clear hZb0 c0
 obtain ⟨x1,R1,h1⟩:∃ v r,mU b R0=(v,r):=⟨_,_,rfl⟩
 have pR1:R1.pos≤b.length:=by have:=nW pR0;rw [h1] at this;exact this
 have c1:=fun K:KW=>bFu (r:=R0) hb pR0 a0.ra K
 rw [h1] at c1
 dsimp only at c1
 have d1:RT Z b a q 6 Z.next 12 R1 [tv,sv,v,.nils,.nils,.int .i64 0] [.str x0,.int .i64 0,.int .i64 0,.int .i64 0,.int .i64 0,.int .i64 0,.int .i64 0,.int .i64 0,.nils,.str [],.int .i64 0,.bool false] (⟨Zb0.next,Zb0.heap.put a (.row 0 3 [R1.cells b])⟩:St):=a0.rdT R1
 have g1:=aE (S:=(⟨Zb0.next,Zb0.heap.put a (.row 0 3 [R1.cells b])⟩:St)) d1.rt
 simp only [c1]
 obtain ⟨Zb1,hZb1⟩:∃ W0:St,W0=⟨Zb0.next,(Zb0.heap.put a (.row 0 3 [R1.cells b])).put Z.next (.row 0 12 [[.str x0,.int .i64 0,.int .i64 x1.y,.int .i64 x1.m,.int .i64 x1.d,.int .i64 0,.int .i64 0,.int .i64 0,.nils,.str [],.int .i64 0,.bool false]])⟩:=⟨_,rfl⟩
 have a1:RT Z b a q 6 Z.next 12 R1 [tv,sv,v,.nils,.nils,.int .i64 0] [.str x0,.int .i64 0,.int .i64 x1.y,.int .i64 x1.m,.int .i64 x1.d,.int .i64 0,.int .i64 0,.int .i64 0,.nils,.str [],.int .i64 0,.bool false] Zb1:=by rw [hZb1];exact d1.tmp [.str x0,.int .i64 0,.int .i64 x1.y,.int .i64 x1.m,.int .i64 x1.d,.int .i64 0,.int .i64 0,.int .i64 0,.nils,.str [],.int .i64 0,.bool false]
 simp only [↓cw,↓reduceIte,Nat.reduceLT,Nat.reduceAdd,kk,Date.enc,g1,←hZb1]
 clear hZb1 c1 g1 d1 a0
 obtain ⟨x2,R2,h2⟩:∃ v r,fA b 64 R1=(v,r):=⟨_,_,rfl⟩
 have pR2:R2.pos≤b.length:=by have:=cY (most:=64) pR1;rw [h2] at this;exact this
 have c2:=fun K:KW=>aS9 (r:=R1) hb pR1 a1.ra K
 rw [h2] at c2
 dsimp only at c2
 have d2:RT Z b a q 6 Z.next 12 R2 [tv,sv,v,.nils,.nils,.int .i64 0] [.str x0,.int .i64 0,.int .i64 x1.y,.int .i64 x1.m,.int .i64 x1.d,.int .i64 0,.int .i64 0,.int .i64 0,.nils,.str [],.int .i64 0,.bool false] (⟨Zb1.next,Zb1.heap.put a (.row 0 3 [R2.cells b])⟩:St):=a1.rdT R2
 have g2:=aE (S:=(⟨Zb1.next,Zb1.heap.put a (.row 0 3 [R2.cells b])⟩:St)) d2.rt
 simp only [c2]
 obtain ⟨Zb2,hZb2⟩:∃ W0:St,W0=⟨Zb1.next,(Zb1.heap.put a (.row 0 3 [R2.cells b])).put Z.next (.row 0 12 [[.str x0,.int .i64 0,.int .i64 x1.y,.int .i64 x1.m,.int .i64 x1.d,.int .i64 0,.int .i64 0,.int .i64 0,.nils,.str x2,.int .i64 0,.bool false]])⟩:=⟨_,rfl⟩
 have a2:RT Z b a q 6 Z.next 12 R2 [tv,sv,v,.nils,.nils,.int .i64 0] [.str x0,.int .i64 0,.int .i64 x1.y,.int .i64 x1.m,.int .i64 x1.d,.int .i64 0,.int .i64 0,.int .i64 0,.nils,.str x2,.int .i64 0,.bool false] Zb2:=by rw [hZb2];exact d2.tmp [.str x0,.int .i64 0,.int .i64 x1.y,.int .i64 x1.m,.int .i64 x1.d,.int .i64 0,.int .i64 0,.int .i64 0,.nils,.str x2,.int .i64 0,.bool false]
 simp only [↓cw,↓reduceIte,Nat.reduceLT,Nat.reduceAdd,kk,Date.enc,g2,←hZb2]
 clear hZb2 c2 g2 d2 a1
 obtain ⟨x3,R3,h3⟩:∃ v r,aR b R2=(v,r):=⟨_,_,rfl⟩
 have pR3:R3.pos≤b.length:=by have:=aK pR2;rw [h3] at this;exact this
 have c3:=fun K:KW=>aBs (r:=R2) hb pR2 a2.ra K
 rw [h3] at c3
 dsimp only at c3
 have d3:RT Z b a q 6 Z.next 12 R3 [tv,sv,v,.nils,.nils,.int .i64 0] [.str x0,.int .i64 0,.int .i64 x1.y,.int .i64 x1.m,.int .i64 x1.d,.int .i64 0,.int .i64 0,.int .i64 0,.nils,.str x2,.int .i64 0,.bool false] (⟨Zb2.next,Zb2.heap.put a (.row 0 3 [R3.cells b])⟩:St):=a2.rdT R3
 have g3:=aE (S:=(⟨Zb2.next,Zb2.heap.put a (.row 0 3 [R3.cells b])⟩:St)) d3.rt
 simp only [c3]
 obtain ⟨Zb3,hZb3⟩:∃ W0:St,W0=⟨Zb2.next,(Zb2.heap.put a (.row 0 3 [R3.cells b])).put Z.next (.row 0 12 [[.str x0,.int .i64 0,.int .i64 x1.y,.int .i64 x1.m,.int .i64 x1.d,.int .i64 0,.int .i64 0,.int .i64 0,.nils,.str x2,.int .i64 x3,.bool false]])⟩:=⟨_,rfl⟩
 have a3:RT Z b a q 6 Z.next 12 R3 [tv,sv,v,.nils,.nils,.int .i64 0] [.str x0,.int .i64 0,.int .i64 x1.y,.int .i64 x1.m,.int .i64 x1.d,.int .i64 0,.int .i64 0,.int .i64 0,.nils,.str x2,.int .i64 x3,.bool false] Zb3:=by rw [hZb3];exact d3.tmp [.str x0,.int .i64 0,.int .i64 x1.y,.int .i64 x1.m,.int .i64 x1.d,.int .i64 0,.int .i64 0,.int .i64 0,.nils,.str x2,.int .i64 x3,.bool false]
 simp only [↓cw,↓reduceIte,Nat.reduceLT,Nat.reduceAdd,kk,Date.enc,g3,←hZb3]
 clear hZb3 c3 g3 d3 a2
 simp only [aU1 hb pR3 12 a3.ra]
 obtain ⟨y0,y12⟩:=fJ (b:=b) (r:=R3) (show (0:Int)≤12 by decide) eJ
 have hq0:=eC (most:=12) pR3
 obtain ⟨nn,R4,h4⟩:∃ v r,bF b 12 R3=(v,r):=⟨_,_,rfl⟩
 rw [h4] at y0 y12 hq0
 simp only at y0 y12 hq0
 simp only [h4]
 obtain ⟨nn,rfl⟩:=Int.eq_ofNat_of_zero_le y0
 have d:=a3.rdT R4
 generalize (⟨Zb3.next,Zb3.heap.put a (.row 0 3 [R4.cells b])⟩:St)=B2 at d ⊢
 have na:a≠Z.next:=by have:=k.la;have:=k.nx;omega
 have kd:RB B2 b a Z.next 12 R4 [.str x0,.int .i64 0,.int .i64 x1.y,.int .i64 x1.m,.int .i64 x1.d,.int .i64 0,.int .i64 0,.int .i64 0,.nils,.str x2,.int .i64 x3,.bool false] B2:=RB.refl d.wf d.ra d.rt na
 have hread:∀ (l:List Part) (r5:Rd),(l,r5)=aH (eB b) nn R4→cJ b r1=(⟨⟨x0,0⟩,x1,⟨0,0,0,l⟩,⟨x2,x3⟩,false⟩,r5):=fun l r5 e=>by
  unfold cJ aO
  simp only [h0,h1,h2,h3,h4,show ((nn:Int)).toNat=nn from by omega,←e]
 refine dB (fun m2 vs Y=>∃ (j:Nat) (r2:Rd) (u:V) (dn:List Part),j+m2=nn∧vs=[.int .i64 (j:Int)]∧RB B2 b a Z.next 12 r2 [.str x0,.int .i64 0,.int .i64 x1.y,.int .i64 x1.m,.int .i64 x1.d,.int .i64 0,.int .i64 0,.int .i64 0,u,.str x2,.int .i64 x3,.bool false] Y∧Own E0 Y 4 u (dn.map Part.enc)∧(∀ y,AM.blkOf u=some y→B2.next≤y)∧dn.length=j∧r2.pos≤b.length∧dn++(aH (eB b) m2 r2).1=(aH (eB b) nn R4).1∧(aH (eB b) m2 r2).2=(aH (eB b) nn R4).2) ?_ (n:=nn) ⟨0,R4,.nils,[],by omega,rfl,kd,Own.nil _ _ _,(fun y h=>by cases h),rfl,hq0,rfl,rfl⟩
 rintro m2 vs Y ⟨j,r2,u,dn,hj,rfl,k2,o2,lb2,hd2,hp2,e3,e4⟩ again2 hag2
 have ra2:=aE k2.ra
 simp only [Rd.cells] at ra2
 simp only [aS5]
 simp only [↓cw,↓reduceIte,Nat.reduceLT,kk,ra2]
 have fin2:dn=(aH (eB b) nn R4).1→r2=(aH (eB b) nn R4).2→aF9 C K aF (.ptr 0 0 0 0) (.ptr a 0 0 0) (.ptr q 0 0 0) (.int .i64 (n:Int)) (.int .i64 (i:Int)) (.ptr Z.next 0 0 0) Y:=by
  intro e5 e6
  have hrd:=hread dn r2 (Prod.ext e5 e6)
  rw [hrd] at e1 e2
  have hZY:Z.next<B2.next:=d.lt
  have kY:RB B b a q 6 r2 [tv,sv,v,.nils,.nils,.int .i64 0] Y:=by
   have kd:=k.trans d.toRB
   have hq:=kd.lq
   have hn:=k.nx
   exact ⟨k2.wf,Nat.le_trans kd.nx k2.nx,kd.la,kd.lq,kd.aq,k2.ra,(k2.old q (by omega) kd.aq.symm (by omega)).trans kd.rq,fun y h1 h2 h3=>(k2.old y (by omega) h2 (by omega)).trans (kd.old y h1 h2 h3)⟩
  have low:∀ {w:Nat} {x:V} {es:List (List V)},3≠w→6≠w→Own E0 Z w x es→Own E0 Y w x es:=fun h3 h6 q=>by
   have q2:=d.toRB.keep k.ra k.rq q h3 h6
   exact q2.same k2.nx fun y hy=>k2.old y (cS q2 hy).2 (fun e=>Own.wide q2 d.ra h3 (e▸hy)) (fun e=>by have:=(cS q hy).2;omega)
  have oY:=low (by decide) (by decide) o
  have plY:PL E0 Y us done:=pl.move fun _ _ _ _ _ q=>low (by decide) (by decide) q
  obtain ⟨pp,hpp⟩:∃ pp:Posted,pp=⟨⟨x0,0⟩,x1,⟨0,0,0,dn⟩,⟨x2,x3⟩,false⟩:=⟨_,rfl⟩
  rw [←hpp] at e1 e2
  have oU:Own E0 Y 4 u (pp.total.parts.map Part.enc):=by rw [hpp];exact o2
  have rt:=aE k2.rq
  have rq:=aE kY.rq
  have u1:=o2.one
  have u2:=o2.cells
  obtain ⟨v',X',q1,k7,o7,lb7,keep,nxt,vb⟩:=kY.app (bb:=128) oY lb (aBj oU pp) (by simp;omega) (by simp [fL];omega)
  have rx:=aE k7.rq
  have v1:=o7.one
  have v2:=o7.cells
  have hz:List.zipWith Posted.encW us done++[pp.encW u]=List.zipWith Posted.encW (us++[u]) (done++[pp]):=by rw [List.zipWith_append pl.len];rfl
  rw [hz] at o7
  have hy4:∀ {x:V} {es:List (List V)},Own E0 Y 4 x es→Own E0 X' 4 x es:=fun q=>q.same nxt fun y hy=>keep y (cS q hy).2 (Own.apart (by decide) q oY hy)
  have hs1:∀ (j:Nat) (u':V) (y:Nat),us[j]?=some u'→AM.blkOf u'=some y→AM.blkOf u≠some y:=fun j u' y h1 h2 h3=>by
   have hjl:j<done.length:=by rw [←pl.len];exact (List.getElem?_eq_some_iff.1 h1).1
   have:=(cS (pl.own j u' _ h1 (List.getElem?_eq_getElem hjl)) h2).2
   have:=lb2 y h3
   omega
  have pl3:PL E0 X' (us++[u]) (done++[pp]):=(plY.snoc oU hs1).move fun _ _ _ _ _ q=>hy4 q
  have k8:=k7.qset [tv,sv,v',.nils,.nils,.int .i64 0]
  rw [hpp] at q1
  simp only [Posted.encW] at q1
  simp only [aF9]
  simp only [↓cw,↓reduceIte,Nat.reduceLT,Nat.reduceAdd,kk,rt,rq,u1,u2,aRz,q1,rx,v1,v2,gJ (show i<1000000000 by omega)]
  refine hag m _ _ (by omega) ⟨i+1,r2,v',us++[u],done++[pp],by omega,rfl,k8,Own.wput o7 k7.rq (by decide) (Nat.le_refl _) _,lb7,pl3.move fun _ _ _ _ _ q=>Own.wput q k7.rq (by decide) (Nat.le_refl _) _,fun j u' y h1 h2=>?_,by simp [hd],hp2,by rw [←e1];simp,e2⟩
  by_cases c:j<us.length
  ·rw [List.getElem?_append_left c] at h1
   exact lbu j u' y h1 h2
  ·rw [List.getElem?_append_right (by omega)] at h1
   have hj0:j - us.length=0:=by have:=(List.getElem?_eq_some_iff.1 h1).1;simp at this;omega
   rw [hj0] at h1
   cases h1
   have:=lb2 y h2
   have:=k.nx
   omega
 by_cases hin2:(j:Int)<(nn:Int)
 rotate_left
 ·obtain rfl:m2=0:=by omega
  simp only [aH,List.append_nil] at e3 e4
  simp only [hin2,if_false]
  exact fin2 e3 e4
 by_cases he2:r2.err=0
 rotate_left
 ·obtain ⟨m2,rfl⟩:∃ m',m2=m'+1:=⟨m2 - 1,by omega⟩
  simp only [aH,he2,if_false,List.append_nil] at e3 e4
  simp only [hin2,he2,if_true,if_false]
  exact fin2 e3 e4
 obtain ⟨m2,rfl⟩:∃ m',m2=m'+1:=⟨m2 - 1,by omega⟩
 clear fin2
 simp only [aH,he2,if_true] at e3 e4
 simp only [hin2,he2,if_true]
 ·have kY:RB Y b a Z.next 12 r2 [.str x0,.int .i64 0,.int .i64 x1.y,.int .i64 x1.m,.int .i64 x1.d,.int .i64 0,.int .i64 0,.int .i64 0,u,.str x2,.int .i64 x3,.bool false] Y:=RB.refl k2.wf k2.ra k2.rq k2.aq
  obtain ⟨xi0,Ri0,hi0⟩:∃ v r,fA b 64 r2=(v,r):=⟨_,_,rfl⟩
  have pRi0:Ri0.pos≤b.length:=by have:=cY (most:=64) hp2;rw [hi0] at this;exact this
  have ci0:=fun K:KW=>aS9 (r:=r2) hb hp2 k2.ra K
  rw [hi0] at ci0
  dsimp only at ci0
  obtain ⟨Yib0,hYib0⟩:∃ W0:St,W0=⟨Y.next+1,((Y.heap.put a (.row 0 3 [Ri0.cells b])).put Y.next (.row 0 4 [[.str [],.int .i64 0,.int .i64 0,.int .i64 0]])).put Y.next (.row 0 4 [[.str xi0,.int .i64 0,.int .i64 0,.int .i64 0]])⟩:=⟨_,rfl⟩
  have ai0:RT Y b a Z.next 12 Y.next 4 Ri0 [.str x0,.int .i64 0,.int .i64 x1.y,.int .i64 x1.m,.int .i64 x1.d,.int .i64 0,.int .i64 0,.int .i64 0,u,.str x2,.int .i64 x3,.bool false] [.str xi0,.int .i64 0,.int .i64 0,.int .i64 0] Yib0:=by rw [hYib0];exact ((kY.rd Ri0).new 4 [.str [],.int .i64 0,.int .i64 0,.int .i64 0]).tmp [.str xi0,.int .i64 0,.int .i64 0,.int .i64 0]
  simp only [ci0]
  simp only [↓cw,↓reduceIte,Nat.reduceLT,Nat.reduceAdd,kk,Date.enc,←hYib0]
  clear hYib0 ci0
  obtain ⟨xi1,Ri1,hi1⟩:∃ v r,aR b Ri0=(v,r):=⟨_,_,rfl⟩
  have pRi1:Ri1.pos≤b.length:=by have:=aK pRi0;rw [hi1] at this;exact this
  have ci1:=fun K:KW=>aBs (r:=Ri0) hb pRi0 ai0.ra K
  rw [hi1] at ci1
  dsimp only at ci1
  have di1:RT Y b a Z.next 12 Y.next 4 Ri1 [.str x0,.int .i64 0,.int .i64 x1.y,.int .i64 x1.m,.int .i64 x1.d,.int .i64 0,.int .i64 0,.int .i64 0,u,.str x2,.int .i64 x3,.bool false] [.str xi0,.int .i64 0,.int .i64 0,.int .i64 0] (⟨Yib0.next,Yib0.heap.put a (.row 0 3 [Ri1.cells b])⟩:St):=ai0.rdT Ri1
  have gi1:=aE (S:=(⟨Yib0.next,Yib0.heap.put a (.row 0 3 [Ri1.cells b])⟩:St)) di1.rt
  simp only [ci1]
  obtain ⟨Yib1,hYib1⟩:∃ W0:St,W0=⟨Yib0.next,(Yib0.heap.put a (.row 0 3 [Ri1.cells b])).put Y.next (.row 0 4 [[.str xi0,.int .i64 xi1,.int .i64 0,.int .i64 0]])⟩:=⟨_,rfl⟩
  have ai1:RT Y b a Z.next 12 Y.next 4 Ri1 [.str x0,.int .i64 0,.int .i64 x1.y,.int .i64 x1.m,.int .i64 x1.d,.int .i64 0,.int .i64 0,.int .i64 0,u,.str x2,.int .i64 x3,.bool false] [.str xi0,.int .i64 xi1,.int .i64 0,.int .i64 0] Yib1:=by rw [hYib1];exact di1.tmp [.str xi0,.int .i64 xi1,.int .i64 0,.int .i64 0]
  simp only [↓cw,↓reduceIte,Nat.reduceLT,Nat.reduceAdd,kk,Date.enc,gi1,←hYib1]
  clear hYib1 ci1 gi1 di1 ai0
  obtain ⟨xi2,Ri2,hi2⟩:∃ v r,aR b Ri1=(v,r):=⟨_,_,rfl⟩
  have pRi2:Ri2.pos≤b.length:=by have:=aK pRi1;rw [hi2] at this;exact this
  have ci2:=fun K:KW=>aBs (r:=Ri1) hb pRi1 ai1.ra K
  rw [hi2] at ci2
  dsimp only at ci2
  have di2:RT Y b a Z.next 12 Y.next 4 Ri2 [.str x0,.int .i64 0,.int .i64 x1.y,.int .i64 x1.m,.int .i64 x1.d,.int .i64 0,.int .i64 0,.int .i64 0,u,.str x2,.int .i64 x3,.bool false] [.str xi0,.int .i64 xi1,.int .i64 0,.int .i64 0] (⟨Yib1.next,Yib1.heap.put a (.row 0 3 [Ri2.cells b])⟩:St):=ai1.rdT Ri2
  have gi2:=aE (S:=(⟨Yib1.next,Yib1.heap.put a (.row 0 3 [Ri2.cells b])⟩:St)) di2.rt
  simp only [ci2]
  obtain ⟨Yib2,hYib2⟩:∃ W0:St,W0=⟨Yib1.next,(Yib1.heap.put a (.row 0 3 [Ri2.cells b])).put Y.next (.row 0 4 [[.str xi0,.int .i64 xi1,.int .i64 xi2,.int .i64 0]])⟩:=⟨_,rfl⟩
  have ai2:RT Y b a Z.next 12 Y.next 4 Ri2 [.str x0,.int .i64 0,.int .i64 x1.y,.int .i64 x1.m,.int .i64 x1.d,.int .i64 0,.int .i64 0,.int .i64 0,u,.str x2,.int .i64 x3,.bool false] [.str xi0,.int .i64 xi1,.int .i64 xi2,.int .i64 0] Yib2:=by rw [hYib2];exact di2.tmp [.str xi0,.int .i64 xi1,.int .i64 xi2,.int .i64 0]
  simp only [↓cw,↓reduceIte,Nat.reduceLT,Nat.reduceAdd,kk,Date.enc,gi2,←hYib2]
  clear hYib2 ci2 gi2 di2 ai1
  obtain ⟨ss,hss⟩:∃ ss:Part,ss=⟨xi0,xi1,xi2,0⟩:=⟨_,rfl⟩
  have hread2:eB b r2=(ss,Ri2):=by rw [hss];unfold eB;simp only [hi0,hi1,hi2]
  rw [hread2] at e3 e4
  have gt:=aE ai2.rt
  have gq:=aE ai2.rq
  have o6:=ai2.toRB.keep k2.ra k2.rq o2 (by decide) (by decide)
  obtain ⟨u',X',q1,k7,o7,lb7,_,_,_⟩:=(k2.trans ai2.toRB).app (bb:=40) o6 lb2 (aKz ss) (by simp;omega) (by simp [fL];omega)
  have gx:=aE k7.rq
  have k8:=k7.qset [.str x0,.int .i64 0,.int .i64 x1.y,.int .i64 x1.m,.int .i64 x1.d,.int .i64 0,.int .i64 0,.int .i64 0,u',.str x2,.int .i64 x3,.bool false]
  have vo:=o7.one
  have vc:=o7.cells
  rw [hss] at q1
  simp only [Part.enc] at q1
  simp only [↓cw,↓reduceIte,Nat.reduceLT,Nat.reduceAdd,kk,gt,gq,aMs,q1,gx,vo,vc,gJ (show j<1000000000 by omega)]
  exact hag2 m2 _ _ (by omega) ⟨j+1,Ri2,u',dn++[ss],by omega,rfl,k8,by rw [List.map_append];exact Own.wput o7 k7.rq (by decide) (Nat.le_refl _) _,lb7,by simp [hd2],pRi2,by rw [←e3];simp,e4⟩
def aNh (b:List UInt8) (tab:List Rate) (r:Rd):State×Int:=aU4 b tab (aO b (dE b) 8 r).1 (aO b (dE b) 8 r).2
set_option maxHeartbeats 2000000 in
theorem bFx {b:List UInt8} (hb:b.length<1000000000) {K:KW} {X:St} {a q:Nat} {r:Rd} {tv:V} {tab:List Rate} (P:P21 b X a q r [tv,.nils,.nils,.nils,.nils,.int .i64 0]) (g:GL X tv .nils .nils .nils [] tab [] [] [])
  (H:∀ v S0,fW S0 v=.ok (xF (aNh b tab r))→K v S0):aBr C K (.ptr 0 0 0 0) (.ptr a 0 0 0) (.ptr q 0 0 0) X:=by
 simp only [aBr,kk,aU1 hb P.hp 8 P.ra]
 unfold aNh at H
 have hl3:=jQ b (dE b) 8 r
 have hm3:∀ x∈(aO b (dE b) 8 r).1,dY x.next:=fun p hp=>by
  obtain ⟨r',rfl⟩:=iF _ _ _ _ hp
  exact (⟨by decide,by decide⟩:dY 1)
 rw [show ((8:Nat):Int)=8 from rfl] at hl3
 unfold aO at H hl3 hm3
 obtain ⟨z0,z8⟩:=fJ (b:=b) (r:=r) (show (0:Int)≤8 by decide) eJ
 have hp0:=eC (most:=8) P.hp
 generalize bF b 8 r=y0 at hp0 z0 z8 H hl3 hm3 ⊢
 obtain ⟨n,r0⟩:=y0
 simp only at hp0 z0 z8 H hl3 hm3 ⊢
 obtain ⟨n,rfl⟩:=Int.eq_ofNat_of_zero_le z0
 rw [show ((n:Int)).toNat=n from by omega] at H hl3 hm3
 have P1:=P.rd hp0
 have g1:=g.rd P r0
 generalize (⟨X.next,X.heap.put a (.row 0 3 [r0.cells b])⟩:St)=B at P1 g1 ⊢
 refine dB (fun m vs X=>∃ (i:Nat) (r1:Rd) (v:V) (done:List Ser),i+m=n∧vs=[.int .i64 (i:Int)]∧RB B b a q 6 r1 [tv,v,.nils,.nils,.nils,.int .i64 0] X∧Own E0 X 4 v (done.map Ser.enc)∧(∀ y,AM.blkOf v=some y→B.next≤y)∧done.length=i∧r1.pos≤b.length∧done++(aH (dE b) m r1).1=(aH (dE b) n r0).1∧(aH (dE b) m r1).2=(aH (dE b) n r0).2) ?_ (n:=n) ⟨0,r0,.nils,[],by omega,rfl,P1.refl,Own.nil _ _ _,(fun y h=>by cases h),rfl,hp0,rfl,rfl⟩
 rintro m vs Z ⟨i,r1,v,done,hi,rfl,k,o,lb,hd,hp,e1,e2⟩ aF hag
 have ra:=aE k.ra
 simp only [Rd.cells] at ra
 simp only [aS7]
 simp only [↓cw,↓reduceIte,Nat.reduceLT,kk,ra]
 have fin:done=(aH (dE b) n r0).1→r1=(aH (dE b) n r0).2→aBq C K (.ptr 0 0 0 0) (.ptr a 0 0 0) (.ptr q 0 0 0) Z:=by
  intro e1 e2
  rw [←e1,←e2] at H
  rw [←e1] at hl3 hm3
  have gz:=P1.gl k g1
  exact bFw hb (P1.rb k hp) ⟨gz.ot,o,gz.op,gz.pl,gz.oc,fun i u y hu _=>by simp at hu⟩ hl3 hm3 H
 by_cases hin:(i:Int)<(n:Int)
 rotate_left
 ·obtain rfl:m=0:=by omega
  simp only [aH,List.append_nil] at e1 e2
  simp only [hin,if_false]
  exact fin e1 e2
 by_cases he:r1.err=0
 rotate_left
 ·obtain ⟨m,rfl⟩:∃ m',m=m'+1:=⟨m - 1,by omega⟩
  simp only [aH,he,if_false,List.append_nil] at e1 e2
  simp only [hin,he,if_true,if_false]
  exact fin e1 e2
 obtain ⟨m,rfl⟩:∃ m',m=m'+1:=⟨m - 1,by omega⟩
 clear fin
 simp only [aH,he,if_true] at e1 e2
 simp only [hin,he,if_true]
 have kZ:RB Z b a q 6 r1 [tv,v,.nils,.nils,.nils,.int .i64 0] Z:=RB.refl k.wf k.ra k.rq k.aq
 obtain ⟨x0,R0,h0⟩:∃ v r,fA b 64 r1=(v,r):=⟨_,_,rfl⟩
 have pR0:R0.pos≤b.length:=by have:=cY (most:=64) hp;rw [h0] at this;exact this
 have c0:=fun K:KW=>aS9 (r:=r1) hb hp k.ra K
 rw [h0] at c0
 dsimp only at c0
 obtain ⟨Zb0,hZb0⟩:∃ W0:St,W0=⟨Z.next+1,((Z.heap.put a (.row 0 3 [R0.cells b])).put Z.next (.row 0 4 [[.str [],.int .i64 0,.int .i64 0,.bool false]])).put Z.next (.row 0 4 [[.str x0,.int .i64 1,.int .i64 0,.bool false]])⟩:=⟨_,rfl⟩
 have a0:RT Z b a q 6 Z.next 4 R0 [tv,v,.nils,.nils,.nils,.int .i64 0] [.str x0,.int .i64 1,.int .i64 0,.bool false] Zb0:=by rw [hZb0];exact ((kZ.rd R0).new 4 [.str [],.int .i64 0,.int .i64 0,.bool false]).tmp [.str x0,.int .i64 1,.int .i64 0,.bool false]
 simp only [c0]
 simp only [↓cw,↓reduceIte,Nat.reduceLT,Nat.reduceAdd,kk,Date.enc,←hZb0]
 clear hZb0 c0
 obtain ⟨x1,R1,h1⟩:∃ v r,aR b R0=(v,r):=⟨_,_,rfl⟩
 have pR1:R1.pos≤b.length:=by have:=aK pR0;rw [h1] at this;exact this
 have c1:=fun K:KW=>aBs (r:=R0) hb pR0 a0.ra K
 rw [h1] at c1
 dsimp only at c1
 have d1:RT Z b a q 6 Z.next 4 R1 [tv,v,.nils,.nils,.nils,.int .i64 0] [.str x0,.int .i64 1,.int .i64 0,.bool false] (⟨Zb0.next,Zb0.heap.put a (.row 0 3 [R1.cells b])⟩:St):=a0.rdT R1
 have g1:=aE (S:=(⟨Zb0.next,Zb0.heap.put a (.row 0 3 [R1.cells b])⟩:St)) d1.rt
 simp only [c1]
 obtain ⟨Zb1,hZb1⟩:∃ W0:St,W0=⟨Zb0.next,(Zb0.heap.put a (.row 0 3 [R1.cells b])).put Z.next (.row 0 4 [[.str x0,.int .i64 1,.int .i64 x1,.bool false]])⟩:=⟨_,rfl⟩
 have a1:RT Z b a q 6 Z.next 4 R1 [tv,v,.nils,.nils,.nils,.int .i64 0] [.str x0,.int .i64 1,.int .i64 x1,.bool false] Zb1:=by rw [hZb1];exact d1.tmp [.str x0,.int .i64 1,.int .i64 x1,.bool false]
 simp only [↓cw,↓reduceIte,Nat.reduceLT,Nat.reduceAdd,kk,Date.enc,g1,←hZb1]
 clear hZb1 c1 g1 d1 a0
 obtain ⟨x2,R2,h2⟩:∃ v r,jE b R1=(v,r):=⟨_,_,rfl⟩
 have pR2:R2.pos≤b.length:=by have:=xC pR1;rw [h2] at this;exact this
 have c2:=fun K:KW=>bKx (r:=R1) hb pR1 a1.ra K
 rw [h2] at c2
 dsimp only at c2
 have d2:RT Z b a q 6 Z.next 4 R2 [tv,v,.nils,.nils,.nils,.int .i64 0] [.str x0,.int .i64 1,.int .i64 x1,.bool false] (⟨Zb1.next,Zb1.heap.put a (.row 0 3 [R2.cells b])⟩:St):=a1.rdT R2
 have g2:=aE (S:=(⟨Zb1.next,Zb1.heap.put a (.row 0 3 [R2.cells b])⟩:St)) d2.rt
 simp only [c2]
 obtain ⟨Zb2,hZb2⟩:∃ W0:St,W0=⟨Zb1.next,(Zb1.heap.put a (.row 0 3 [R2.cells b])).put Z.next (.row 0 4 [[.str x0,.int .i64 1,.int .i64 x1,.bool x2]])⟩:=⟨_,rfl⟩
 have a2:RT Z b a q 6 Z.next 4 R2 [tv,v,.nils,.nils,.nils,.int .i64 0] [.str x0,.int .i64 1,.int .i64 x1,.bool x2] Zb2:=by rw [hZb2];exact d2.tmp [.str x0,.int .i64 1,.int .i64 x1,.bool x2]
 simp only [↓cw,↓reduceIte,Nat.reduceLT,Nat.reduceAdd,kk,Date.enc,g2,←hZb2]
 clear hZb2 c2 g2 d2 a1
 obtain ⟨ss,hss⟩:∃ ss:Ser,ss=⟨x0,1,x1,x2⟩:=⟨_,rfl⟩
 have hread:dE b r1=(ss,R2):=by rw [hss];unfold dE;simp only [h0,h1,h2]
 rw [hread] at e1 e2
 have gt:=aE a2.rt
 have gq:=aE a2.rq
 have o6:=a2.toRB.keep k.ra k.rq o (by decide) (by decide)
 obtain ⟨v',X',q1,k7,o7,lb7,_,_,_⟩:=(k.trans a2.toRB).app (bb:=40) o6 lb (ser4 ss) (by simp;omega) (by simp [fL];omega)
 have gx:=aE k7.rq
 have k8:=k7.qset [tv,v',.nils,.nils,.nils,.int .i64 0]
 have vo:=o7.one
 have vc:=o7.cells
 rw [hss] at q1
 simp only [Ser.enc] at q1
 simp only [↓cw,↓reduceIte,Nat.reduceLT,Nat.reduceAdd,kk,gt,gq,aMs,q1,gx,vo,vc,gJ (show i<1000000000 by omega)]
 exact hag m _ _ (by omega) ⟨i+1,R2,v',done++[ss],by omega,rfl,k8,by rw [List.map_append];exact Own.wput o7 k7.rq (by decide) (Nat.le_refl _) _,lb7,by simp [hd],pR2,by rw [←e1];simp,e2⟩
def aR6 (o:Option State):State×Int:=match o with
 | none=>(State.zero,4)
 | some s=>if fX s=true then (s,0) else (State.zero,4)
theorem aNi (s:State) (h1:∀ x∈s.ser,x.next=1) (hx:s.posted.length≤1000):aR6 (nQ s)=aR6 (rH s):=by
 have hI:FInv s.ser []:=by
  refine ⟨fun k x hk=>?_,(fun q hq=>by cases hq),List.Pairwise.nil⟩
  rw [h1 x (List.mem_of_getElem? hk)]
  exact ⟨Int.le_refl _,Int.le_refl _⟩
 have h:=aDv s.posted s.ser [] [] hI (by simpa using hx) rfl
 have e1:nQ s=(match aF8 (aD bN some s.posted (s.ser,[])) with
  | none=>none
  | some r=>some { s with ser:=r.ser,posted:=r.done,book:=r.book }):=by
  unfold nQ aF8
  cases aD bN some s.posted (s.ser,[]) with
  | none=>rfl
  | some r=>
   simp only
   split<;>rfl
 rw [e1]
 unfold rH
 rcases h with h | ⟨h,r,hr,hL⟩
 ·rw [h]
  cases aD bC some s.posted ⟨s.ser,[],[]⟩<;>rfl
 ·rw [h,hr]
  simp only [aR6]
  rw [Lost.wrong hL];rfl
theorem aSa (b:List UInt8):eY b=aNh b (aO b (dD b) 24 ⟨0,0⟩).1 (aO b (dD b) 24 ⟨0,0⟩).2:=by
 rw [aDt]
 unfold pI aNh aU4 aU3 aU2
 simp only
 generalize aO b (dD b) 24 ⟨0,0⟩=x
 have hm:∀ y∈(aO b (dE b) 8 x.2).1,y.next=1:=fun p hp=>by
  obtain ⟨r',rfl⟩:=iF _ _ _ _ hp
  rfl
 generalize aO b (dE b) 8 x.2=y at hm ⊢
 have hl:=jQ b (cJ b) 40 y.2
 rw [show ((40:Nat):Int)=40 from rfl] at hl
 generalize aO b (cJ b) 40 y.2=z at hl ⊢
 generalize aO b (dX b) 8 z.2=u
 generalize aR b u.2=v
 have hE:(iL b v.2).err=if v.2.err=0 then (if v.2.pos<b.length then 5 else 0) else v.2.err:=by
  unfold iL
  split
  ·split
   ·rfl
   ·assumption
  ·rfl
 rw [hE]
 by_cases c1:v.2.err=0
 ·rw [if_pos c1,if_pos c1]
  by_cases c2:v.2.pos<b.length
  ·rw [if_pos c2,if_pos c2,if_neg (by decide)]
  ·rw [if_neg c2,if_neg c2,if_pos rfl]
   refine Eq.trans (b:=aR6 (nQ ⟨x.1,y.1,z.1,[],u.1,v.1⟩)) ?_ ((aNi ⟨x.1,y.1,z.1,[],u.1,v.1⟩ hm (by show z.1.length≤1000;omega)).trans ?_)
   ·cases nQ ⟨x.1,y.1,z.1,[],u.1,v.1⟩<;>rfl
   ·cases rH ⟨x.1,y.1,z.1,[],u.1,v.1⟩<;>rfl
 ·rw [if_neg c1,if_neg c1,if_neg c1]
set_option maxHeartbeats 2000000 in
theorem g21 (b:List UInt8) (hb:b.length<1000000000):Fv 21 [.imm (b.map eN)] (xF (eY b)):=by
 refine u21 (by simp only [cloVs,lE,bM (enc:=eN) (fun _=>rfl),Bool.and_self]) ?_
 have H:∀ v S0,fW S0 v=.ok (xF (aNh b (aO b (dD b) 24 ⟨0,0⟩).1 (aO b (dD b) 24 ⟨0,0⟩).2))→fW S0 v=.ok (xF (eY b)):=fun v S0 h=>by rw [aSa];exact h
 generalize hK:(fun v S0=>fW S0 v=.ok (xF (eY b)):KW)=K
 have H:∀ v S0,fW S0 v=.ok (xF (aNh b (aO b (dD b) 24 ⟨0,0⟩).1 (aO b (dD b) 24 ⟨0,0⟩).2))→K v S0:=fun v S0 h=>by rw [←hK];exact H v S0 h
 clear hK
 obtain ⟨S1,hS1⟩:∃ S1:St,S1=⟨1,Tr.nil.put 0 (.row 0 6 [[.nils,.nils,.nils,.nils,.nils,.int .i64 0]])⟩:=⟨_,rfl⟩
 have w1:WF S1:=by rw [hS1];exact kR rC (by decide) (by decide)
 simp only [m21]
 simp only [↓cw,↓reduceIte,Nat.reduceLT,kk,Nat.zero_add,←hS1]
 have n1:S1.next=1:=by rw [hS1]
 have g1:S1.heap.get 0=some (.row 0 6 [[.nils,.nils,.nils,.nils,.nils,.int .i64 0]]):=by rw [hS1];exact Tr.get_put_sameB _ _ _ trivial
 clear hS1
 refine bKp hb w1 fun a T xT ha haT hz h73=>?_
 obtain ⟨T',hT'⟩:∃ T':St,T'=⟨T.next+1,T.heap.put T.next (.row 0 6 [[.nils,.nils,.nils,.nils,.nils,.int .i64 0]])⟩:=⟨_,rfl⟩
 have xT':Ext T T':=by rw [hT'];exact Ext.new (xT.wf w1) _
 obtain ⟨Y,hYn,wY,hY,hC⟩:=h73 T' xT' 24
 simp only [↓cw,↓reduceIte,Nat.reduceLT,kk,←hT',hC]
 obtain ⟨q,hq⟩:∃ q,q=T.next:=⟨_,rfl⟩
 have nT:T'.next=T.next+1:=by rw [hT']
 have nx:=xT.next
 have qY:Y.heap.get q=some (.row 0 6 [[.nils,.nils,.nils,.nils,.nils,.int .i64 0]]):=by rw [hq,hY T.next (.inr (Nat.le_refl _)),hT'];exact Tr.get_put_sameB _ _ _ trivial
 have pY:Y.heap.get 0=some (.row 0 6 [[.nils,.nils,.nils,.nils,.nils,.int .i64 0]]):=by rw [hY 0 (.inl (by omega))];exact xT'.old _ _ (xT.old _ _ g1)
 rw [←hq]
 have haq:a≠q:=by omega
 have h0a:0≠a:=by omega
 have h0q:0≠q:=by omega
 have haY:a<Y.next:=by omega
 unfold aO at H
 obtain ⟨z0,z8⟩:=fJ (b:=b) (r:=⟨0,0⟩) (show (0:Int)≤24 by decide) eJ
 have hp0:=eC (most:=24) (show (⟨0,0⟩:Rd).pos≤b.length from Nat.zero_le _)
 generalize bF b 24 ⟨0,0⟩=y0 at hp0 z0 z8 H  ⊢
 obtain ⟨n,r0⟩:=y0
 simp only at hp0 z0 z8 H  ⊢
 obtain ⟨n,rfl⟩:=Int.eq_ofNat_of_zero_le z0
 rw [show ((n:Int)).toNat=n from by omega] at H
 have P1:P21 b (St.at Y a (r0.cells b)) a q r0 [.nils,.nils,.nils,.nils,.nils,.int .i64 0]:=⟨St.wf_at haY wY,St.at_get _ _ _,(Tr.get_put_neB _ _ _ _ trivial haq.symm).trans qY,haq,h0a,h0q,(Tr.get_put_neB _ _ _ _ trivial h0a).trans pY,hp0⟩
 clear hC hY qY pY hT' xT'
 generalize St.at Y a (r0.cells b)=B at P1 ⊢
 have g1:GL B .nils .nils .nils .nils [] [] [] [] []:=⟨Own.nil _ _ _,Own.nil _ _ _,Own.nil _ _ _,PL.nil _ _,Own.nil _ _ _,fun i u y hu _=>by simp at hu⟩
 refine dB (fun m vs X=>∃ (i:Nat) (r1:Rd) (v:V) (done:List Rate),i+m=n∧vs=[.int .i64 (i:Int)]∧RB B b a q 6 r1 [v,.nils,.nils,.nils,.nils,.int .i64 0] X∧Own E0 X 5 v (done.map Rate.enc)∧(∀ y,AM.blkOf v=some y→B.next≤y)∧done.length=i∧r1.pos≤b.length∧done++(aH (dD b) m r1).1=(aH (dD b) n r0).1∧(aH (dD b) m r1).2=(aH (dD b) n r0).2) ?_ (n:=n) ⟨0,r0,.nils,[],by omega,rfl,P1.refl,Own.nil _ _ _,(fun y h=>by cases h),rfl,hp0,rfl,rfl⟩
 rintro m vs Z ⟨i,r1,v,done,hi,rfl,k,o,lb,hd,hp,e1,e2⟩ aF hag
 have ra:=aE k.ra
 simp only [Rd.cells] at ra
 simp only [aS8]
 simp only [↓cw,↓reduceIte,Nat.reduceLT,kk,ra]
 have fin:done=(aH (dD b) n r0).1→r1=(aH (dD b) n r0).2→aBr C K (.ptr 0 0 0 0) (.ptr a 0 0 0) (.ptr q 0 0 0) Z:=by
  intro e1 e2
  rw [←e1,←e2] at H
  have gz:=P1.gl k g1
  exact bFx hb (P1.rb k hp) ⟨o,gz.os,gz.op,gz.pl,gz.oc,fun i u y hu _=>by simp at hu⟩ H
 by_cases hin:(i:Int)<(n:Int)
 rotate_left
 ·obtain rfl:m=0:=by omega
  simp only [aH,List.append_nil] at e1 e2
  simp only [hin,if_false]
  exact fin e1 e2
 by_cases he:r1.err=0
 rotate_left
 ·obtain ⟨m,rfl⟩:∃ m',m=m'+1:=⟨m - 1,by omega⟩
  simp only [aH,he,if_false,List.append_nil] at e1 e2
  simp only [hin,he,if_true,if_false]
  exact fin e1 e2
 obtain ⟨m,rfl⟩:∃ m',m=m'+1:=⟨m - 1,by omega⟩
 clear fin
 simp only [aH,he,if_true] at e1 e2
 simp only [hin,he,if_true]
 have kZ:RB Z b a q 6 r1 [v,.nils,.nils,.nils,.nils,.int .i64 0] Z:=RB.refl k.wf k.ra k.rq k.aq
 obtain ⟨x0,R0,h0⟩:∃ v r,fA b 64 r1=(v,r):=⟨_,_,rfl⟩
 have pR0:R0.pos≤b.length:=by have:=cY (most:=64) hp;rw [h0] at this;exact this
 have c0:=fun K:KW=>aS9 (r:=r1) hb hp k.ra K
 rw [h0] at c0
 dsimp only at c0
 obtain ⟨Zb0,hZb0⟩:∃ W0:St,W0=⟨Z.next+1,((Z.heap.put a (.row 0 3 [R0.cells b])).put Z.next (.row 0 5 [[.str [],.int .i64 0,.int .i64 0,.int .i64 0,.int .i64 0]])).put Z.next (.row 0 5 [[.str x0,.int .i64 0,.int .i64 0,.int .i64 0,.int .i64 0]])⟩:=⟨_,rfl⟩
 have a0:RT Z b a q 6 Z.next 5 R0 [v,.nils,.nils,.nils,.nils,.int .i64 0] [.str x0,.int .i64 0,.int .i64 0,.int .i64 0,.int .i64 0] Zb0:=by rw [hZb0];exact ((kZ.rd R0).new 5 [.str [],.int .i64 0,.int .i64 0,.int .i64 0,.int .i64 0]).tmp [.str x0,.int .i64 0,.int .i64 0,.int .i64 0,.int .i64 0]
 simp only [c0]
 simp only [↓cw,↓reduceIte,Nat.reduceLT,Nat.reduceAdd,kk,Date.enc,←hZb0]
 clear hZb0 c0
 obtain ⟨x1,R1,h1⟩:∃ v r,mU b R0=(v,r):=⟨_,_,rfl⟩
 have pR1:R1.pos≤b.length:=by have:=nW pR0;rw [h1] at this;exact this
 have c1:=fun K:KW=>bFu (r:=R0) hb pR0 a0.ra K
 rw [h1] at c1
 dsimp only at c1
 have d1:RT Z b a q 6 Z.next 5 R1 [v,.nils,.nils,.nils,.nils,.int .i64 0] [.str x0,.int .i64 0,.int .i64 0,.int .i64 0,.int .i64 0] (⟨Zb0.next,Zb0.heap.put a (.row 0 3 [R1.cells b])⟩:St):=a0.rdT R1
 have g1:=aE (S:=(⟨Zb0.next,Zb0.heap.put a (.row 0 3 [R1.cells b])⟩:St)) d1.rt
 simp only [c1]
 obtain ⟨Zb1,hZb1⟩:∃ W0:St,W0=⟨Zb0.next,(Zb0.heap.put a (.row 0 3 [R1.cells b])).put Z.next (.row 0 5 [[.str x0,.int .i64 x1.y,.int .i64 x1.m,.int .i64 x1.d,.int .i64 0]])⟩:=⟨_,rfl⟩
 have a1:RT Z b a q 6 Z.next 5 R1 [v,.nils,.nils,.nils,.nils,.int .i64 0] [.str x0,.int .i64 x1.y,.int .i64 x1.m,.int .i64 x1.d,.int .i64 0] Zb1:=by rw [hZb1];exact d1.tmp [.str x0,.int .i64 x1.y,.int .i64 x1.m,.int .i64 x1.d,.int .i64 0]
 simp only [↓cw,↓reduceIte,Nat.reduceLT,Nat.reduceAdd,kk,Date.enc,g1,←hZb1]
 clear hZb1 c1 g1 d1 a0
 obtain ⟨x2,R2,h2⟩:∃ v r,aR b R1=(v,r):=⟨_,_,rfl⟩
 have pR2:R2.pos≤b.length:=by have:=aK pR1;rw [h2] at this;exact this
 have c2:=fun K:KW=>aBs (r:=R1) hb pR1 a1.ra K
 rw [h2] at c2
 dsimp only at c2
 have d2:RT Z b a q 6 Z.next 5 R2 [v,.nils,.nils,.nils,.nils,.int .i64 0] [.str x0,.int .i64 x1.y,.int .i64 x1.m,.int .i64 x1.d,.int .i64 0] (⟨Zb1.next,Zb1.heap.put a (.row 0 3 [R2.cells b])⟩:St):=a1.rdT R2
 have g2:=aE (S:=(⟨Zb1.next,Zb1.heap.put a (.row 0 3 [R2.cells b])⟩:St)) d2.rt
 simp only [c2]
 obtain ⟨Zb2,hZb2⟩:∃ W0:St,W0=⟨Zb1.next,(Zb1.heap.put a (.row 0 3 [R2.cells b])).put Z.next (.row 0 5 [[.str x0,.int .i64 x1.y,.int .i64 x1.m,.int .i64 x1.d,.int .i64 x2]])⟩:=⟨_,rfl⟩
 have a2:RT Z b a q 6 Z.next 5 R2 [v,.nils,.nils,.nils,.nils,.int .i64 0] [.str x0,.int .i64 x1.y,.int .i64 x1.m,.int .i64 x1.d,.int .i64 x2] Zb2:=by rw [hZb2];exact d2.tmp [.str x0,.int .i64 x1.y,.int .i64 x1.m,.int .i64 x1.d,.int .i64 x2]
 simp only [↓cw,↓reduceIte,Nat.reduceLT,Nat.reduceAdd,kk,Date.enc,g2,←hZb2]
 clear hZb2 c2 g2 d2 a1
 obtain ⟨ss,hss⟩:∃ ss:Rate,ss=⟨x0,x1,x2⟩:=⟨_,rfl⟩
 have hread:dD b r1=(ss,R2):=by rw [hss];unfold dD;simp only [h0,h1,h2]
 rw [hread] at e1 e2
 have gt:=aE a2.rt
 have gq:=aE a2.rq
 have o6:=a2.toRB.keep k.ra k.rq o (by decide) (by decide)
 obtain ⟨v',X',q1,k7,o7,lb7,_,_,_⟩:=(k.trans a2.toRB).app (bb:=48) o6 lb (aXp ss) (by simp;omega) (by simp [fL];omega)
 have gx:=aE k7.rq
 have k8:=k7.qset [v',.nils,.nils,.nils,.nils,.int .i64 0]
 have vo:=o7.one
 have vc:=o7.cells
 rw [hss] at q1
 simp only [Rate.enc] at q1
 simp only [↓cw,↓reduceIte,Nat.reduceLT,Nat.reduceAdd,kk,gt,gq,aR8,q1,gx,vo,vc,gJ (show i<1000000000 by omega)]
 exact hag m _ _ (by omega) ⟨i+1,R2,v',done++[ss],by omega,rfl,k8,by rw [List.map_append];exact Own.wput o7 k7.rq (by decide) (Nat.le_refl _) _,lb7,by simp [hd],pR2,by rw [←e1];simp,e2⟩
theorem aDx (b:List UInt8):(∃ e:Int,e≠0∧eY b=(State.zero,e))∨∃ s,fX s=true∧eY b=(s,0):=by
 unfold eY
 split
 ·rename_i e he
  exact .inl ⟨e,fun h=>CNE.img b (by rw [he,h]),rfl⟩
 ·split
  ·split
   ·exact .inl ⟨4,by decide,rfl⟩
   ·split
    ·rename_i hr
     exact .inr ⟨_,hr,rfl⟩
    ·exact .inl ⟨4,by decide,rfl⟩
  ·exact .inl ⟨5,by decide,rfl⟩
theorem vQ {b:List UInt8} (h:(eY b).2=0):fX (eY b).1=true:=by
 rcases aDx b with ⟨e,h1,h2⟩ | ⟨s,h1,h2⟩
 ·rw [h2] at h;exact absurd h h1
 ·rw [h2];exact h1
theorem aFb {b:List UInt8} (h:(eY b).2≠0):(eY b).1=State.zero:=by
 rcases aDx b with ⟨e,h1,h2⟩ | ⟨s,h1,h2⟩
 ·rw [h2]
 ·rw [h2] at h;exact absurd rfl h
theorem aIz (b:List UInt8):SmlS (eY b).1:=by
 by_cases h:(eY b).2=0
 ·obtain ⟨q1,q2,q3,q4,q5,q6,_⟩:=aGq (vQ h)
  exact ⟨by omega,by omega,by omega,fun p hp=>by have:=q6 p hp;omega,by omega,by omega⟩
 ·rw [aFb h]
  exact ⟨by decide,by decide,by decide,(fun p hp=>by cases hp),by decide,by decide⟩
theorem w22 {X:St} {u:V} {s:State} (got:Got X u s) (hs:SmlS s) (K:KW):C 22 [u,.agg [.imm (s.table.map Rate.enc),.imm (s.ser.map Ser.enc),.imm (s.posted.map Posted.enc),.imm (s.book.map Bal.enc),.imm (s.sess.map Sess.enc),.int .i64 s.next]] X K=K (.bool true) X:=by
 have:=(Fn.back (fun S K=>g22 s s hs S K)).frz bKu (by simpa only [cloVs,Bool.and_true] using (show cloVs [_,_]=true by simp only [cloVs,State.clo' s,Bool.and_self])) (args:=[u,.agg [.imm (s.table.map Rate.enc),.imm (s.ser.map Ser.enc),.imm (s.posted.map Posted.enc),.imm (s.book.map Bal.enc),.imm (s.sess.map Sess.enc),.int .i64 s.next]]) (S:=X) (bKt got.frz (mK _ (State.clo' s))) (bFr got.ptr (zC _ (State.clo' s))) (.inl rfl) K
 rw [(aN7 s s).2 rfl] at this
 exact this
theorem bFy (n:Nat) (hn:n<1000000080) (S:St):dF prog 22 (.int .i64 (n:Int)) (.int .i64 (n:Int)) none S=.ok (.sl S.next 0 1 0 n,⟨S.next+1,S.heap.put S.next (.row 0 1 ((List.replicate n (0:UInt8)).map eN))⟩):=by
 have h1:iG prog 22=some 5:=by kernel_rfl
 have h2:aM prog 5=some (.int .u8 0):=by kernel_rfl
 have h3:sz prog 5=1:=by kernel_rfl
 have h4:prog.bytesOf 5=1:=by kernel_rfl
 have c1:decide ((0:Int)≤(n:Int))=true:=by simp
 have c2:decide ((n:Int)≤(n:Int))=true:=by simp
 have c3:decide ((n:Int)<2147483648)=true:=by simp;omega
 have c4:sM prog 5 n=true:=by
  unfold sM
  rw [h4]
  simp only [Bool.and_eq_true,Nat.ble_eq,Nat.blt_eq]
  unfold fL
  omega
 have c5:Nat.beq (V.int IntKind.u8 0).cells.length 1=true:=rfl
 simp only [dF,h1,h2,h3,c1,c2,c3,Int.toNat_natCast,c4,c5,Bool.and_self,cond_true,dK,List.map_replicate]
 rfl
theorem aZi {a n:Nat} {b:List UInt8} (hb:b.length≤n) (hn:0<n) {S:St} (h:S.heap.get a=some (.row 0 1 ((List.replicate n (0:UInt8)).map eN))):Go.AM.copyV prog 22 (.sl a 0 1 0 n) (.imm (b.map eN)) S=.ok (.int .i64 (b.length:Int),⟨S.next,S.heap.put a (.row 0 1 ((b++List.replicate (n - b.length) 0).map eN))⟩):=by
 have h1:iG prog 22=some 5:=by kernel_rfl
 have h3:sz prog 5=1:=by kernel_rfl
 obtain ⟨a1,a2⟩:=cX (n:=1) (es:=b.map eN) (fun c hc=>by obtain ⟨x,_,rfl⟩:=List.mem_map.1 hc;exact u81 x)
 have hr:=aE h
 have e0:aL S (.imm (b.map eN))=.ok (b.map eN):=rfl
 have c1:Nat.ble (0+n) (List.replicate n (0:UInt8)).length=true:=by simp
 have c2:Nat.ble b.length n=true:=by rw [Nat.ble_eq];exact hb
 have c3:Nat.blt 0 n=true:=by simpa using hn
 have c4:Nat.beq 1 1=true:=rfl
 have c5:Nat.blt 0 1=true:=rfl
 have e1:jS ((List.replicate n (0:UInt8)).map eN) 0 (b.map eN)=(b++List.replicate (n - b.length) 0).map eN:=by
  unfold jS
  simp
 simp only [Go.AM.copyV,h1,h3,e0,hr,List.length_map,c1,c2,c3,c4,c5,a1,a2,Bool.and_self,cond_true,e1]
theorem bL0:VA 19 Tryz.f19 [] [(4,[6])]:=va (by kernel_rfl) (by kernel_rfl)
theorem g19 (b:List UInt8) (hb:b.length<1000000000) (m:UInt8) (S:St) (K:KW):C 19 [.imm (b.map eN),.int .u8 (m.toNat:Int)] S K=K (.imm ((b++List.replicate 80 m).map eN)) S:=by
 refine (bL0 (by simp only [cloVs,lE,bM (enc:=eN) (fun _=>rfl),Bool.and_self]) ?_).eq S K
 have w1:wr .i64 ((b.length:Int)+80)=((b.length+80:Nat):Int):=by rw [eX (by omega) (by omega)];omega
 have hc:=fun {T:St} h=>aZi (a:=0) (n:=b.length+80) (b:=b) (by omega) (by omega) (S:=T) h
 delta Tryz.f19;simp only [↓cw,↓reduceIte,Nat.reduceLT,kk,w1,bFy (b.length+80) (by omega)]
 have h0:(⟨1,Tr.nil.put 0 (.row 0 1 ((List.replicate (b.length+80) (0:UInt8)).map eN))⟩:St).heap.get 0=some (.row 0 1 ((List.replicate (b.length+80) (0:UInt8)).map eN)):=Tr.get_put_sameB _ _ _ trivial
 simp only [hc h0]
 obtain ⟨S1,hS1⟩:∃ S1:St,S1=⟨1,(Tr.nil.put 0 (Blk.row 0 1 ((List.replicate (b.length+80) (0:UInt8)).map eN))).put 0 (.row 0 1 ((b++List.replicate (b.length+80 - b.length) 0).map eN))⟩:=⟨_,rfl⟩
 have g1:S1.heap.get 0=some (.row 0 1 ((b++List.replicate 80 0).map eN)):=by rw [hS1,Nat.add_sub_cancel_left];exact Tr.get_put_sameB _ _ _ trivial
 simp only [←hS1]
 have ow:Own E0 S1 1 (.sl 0 0 1 0 (b.length+80)) ((b++List.replicate 0 m++List.replicate (80 - 0) 0).map eN):=by
  refine ⟨.inr ⟨0,0,[],by simp,Nat.le_refl _,by rw [hS1];exact Nat.zero_lt_one,by rw [g1,List.append_nil];simp⟩,fun c hc=>by obtain ⟨x,_,rfl⟩:=List.mem_map.1 hc;exact u81 x⟩
 have wS:WF S1:=by rw [hS1];exact kR (n:=1) (kR (n:=0) rC (by decide) (by decide)) (by decide) (by decide)
 clear hS1 g1
 refine dB (fun k vs X=>∃ j:Nat,j+k=80∧vs=[.int .i64 ((b.length+j:Nat):Int)]∧WF X∧Own E0 X 1 (.sl 0 0 1 0 (b.length+80)) ((b++List.replicate j m++List.replicate (80 - j) 0).map eN)) ?_ (n:=80) ⟨0,rfl,rfl,wS,ow⟩
 rintro k vs X ⟨j,hj,rfl,wX,o⟩ aF hag
 by_cases hk:k=0
 ·have hj:j=80:=by omega
  subst hj
  have ho:=o.out fun _=>rfl
  simp only [Nat.sub_self,List.replicate_zero,List.append_nil] at ho
  simp only [↓cw,↓reduceIte,Nat.reduceLT,kk,Int.lt_irrefl,if_false]
  exact ho
 obtain ⟨k,rfl⟩:∃ k',k=k'+1:=⟨k - 1,by omega⟩
 have hlt:((b.length+j:Nat):Int)<((b.length+80:Nat):Int):=by omega
 have hes:((b++List.replicate j m++List.replicate (80 - j) 0).map eN)[b.length+j]?=some (eN 0):=by
  rw [List.getElem?_map,List.getElem?_append_right (by simp),List.length_append,List.length_replicate,Nat.sub_self]
  rw [show 80 - j=(79 - j)+1 by omega,List.replicate_succ];rfl
 obtain ⟨a,vr,s1,_,_,s4,_,s6⟩:=o.setK (rZ wX) rC hes .i64
 obtain ⟨X',t1,_,t3,t4,_,t6⟩:=s6 0 1 (.int .u8 (m.toNat:Int)) rfl rfl (by decide)
 have e5:((b++List.replicate j m++List.replicate (80 - j) 0).map eN).set (b.length+j) (splice (eN 0) 0 (V.int .u8 (m.toNat:Int)).cells)=(b++List.replicate (j+1) m++List.replicate (80 - (j+1)) 0).map eN:=by
  have:splice (eN 0) 0 (V.int .u8 (m.toNat:Int)).cells=eN m:=rfl
  rw [this,←List.map_set,List.set_append_right _ _ (by simp),List.length_append,List.length_replicate,Nat.sub_self]
  rw [show 80 - j=(80 - (j+1))+1 by omega,List.replicate_succ,List.set_cons_zero,List.replicate_succ']
  simp
 rw [e5] at t4
 have w2:wr .i64 (((b.length+j:Nat):Int)+1)=((b.length+(j+1):Nat):Int):=by rw [eX (by omega) (by omega)];omega
 simp only [↓cw,↓reduceIte,Nat.reduceLT,kk,hlt,if_true,s4,t1,w2]
 exact hag k _ _ (by omega) ⟨j+1,by omega,rfl,t6 wX,t4⟩
theorem g23 (b:List UInt8) (hb:b.length<1000000000) (m:UInt8) (S:St) (K:KW):C 23 [.imm ((b++List.replicate 80 m).map eN),.imm (b.map eN),.int .u8 (m.toNat:Int)] S K=K (.bool true) S:=by
 refine (v23 (by simp only [cloVs,lE,bM (enc:=eN) (fun _=>rfl),Bool.and_self]) ?_).eq S K
 have w1:wr .i64 ((b.length:Int)+80)=((b.length+80:Nat):Int):=by rw [eX (by omega) (by omega)];omega
 have hl:(b++List.replicate 80 m).length=b.length+80:=by simp
 have hbd:dR (b.length+80) none (some (.int .i64 (b.length:Int)))=.ok (0,b.length):=by
  have h1:decide ((0:Int)≤(b.length:Int))=true:=by simp
  have h2:decide ((b.length:Int)≤((b.length+80:Nat):Int))=true:=by rw [decide_eq_true_eq];omega
  simp only [dR,h1,h2,Bool.and_self,cond_true,Int.toNat_natCast]
 have hsl:gA prog 22 (.imm ((b++List.replicate 80 m).map eN)) none (some (.int .i64 (b.length:Int)))=.ok (.imm (b.map eN)):=by
  rw [aQx _ (cX (n:=1) (fun c hc=>by obtain ⟨x,_,rfl⟩:=List.mem_map.1 hc;exact u81 x)).1,List.length_map,hl,hbd]
  simp [List.take_append_of_le_length]
 have h27:=fun S K=>g27 b b hb S K
 simp only [decide_true] at h27
 delta Tryz.f23;simp only [↓cw,↓reduceIte,Nat.reduceLT,kk,List.length_map,hl,w1,not_true_eq_false,if_false,hsl,h27]
 refine dB (fun k vs X=>∃ j:Nat,j+k=80∧vs=[.bool false,.int .i64 ((b.length+j:Nat):Int)]) ?_ (n:=80) ⟨0,rfl,rfl⟩
 rintro k vs X ⟨j,hj,rfl⟩ aF hag
 by_cases hk:k=0
 ·have hj:j=80:=by omega
  subst hj
  simp only [↓cw,↓reduceIte,Nat.reduceLT,kk,List.length_map,hl,Int.lt_irrefl,if_false]
 obtain ⟨k,rfl⟩:∃ k',k=k'+1:=⟨k - 1,by omega⟩
 have hlt:((b.length+j:Nat):Int)<((b.length+80:Nat):Int):=by omega
 have hes:(b++List.replicate 80 m)[b.length+j]?=some m:=by
  rw [List.getElem?_append_right (by omega),Nat.add_sub_cancel_left,List.getElem?_replicate,if_pos (by omega)]
 have w2:wr .i64 (((b.length+j:Nat):Int)+1)=((b.length+(j+1):Nat):Int):=by rw [eX (by omega) (by omega)];omega
 simp only [↓cw,↓reduceIte,Nat.reduceLT,kk,List.length_map,hl,hlt,if_true,tR hes,eN,w2]
 rw [if_neg (not_not_intro trivial)]
 exact hag k _ _ (by omega) ⟨j+1,by omega,rfl⟩
set_option maxHeartbeats 2000000 in
theorem g3 (b:List UInt8) (hb:b.length<1000000000) (S:St) (K:KW):C 3 [.imm (b.map eN)] S K=K (.bool true) S:=by
 refine (v3 (by simp only [cloVs,lE,bM (enc:=eN) (fun _=>rfl),Bool.and_self]) ?_).eq S K
 have h19:=fun S K=>g19 b hb 7 S K
 have h23:=fun S K=>g23 b hb 7 S K
 simp only [show (((7:UInt8).toNat:Nat):Int)=7 from rfl] at h19 h23
 have hl:(b++List.replicate 80 (7:UInt8)).length=b.length+80:=by simp
 have hbd:dR (b.length+80) none (some (.int .i64 (b.length:Int)))=.ok (0,b.length):=by
  have h1:decide ((0:Int)≤(b.length:Int))=true:=by simp
  have h2:decide ((b.length:Int)≤((b.length+80:Nat):Int))=true:=by rw [decide_eq_true_eq];omega
  simp only [dR,h1,h2,Bool.and_self,cond_true,Int.toNat_natCast]
 have hsl:gA prog 22 (.imm ((b++List.replicate 80 7).map eN)) none (some (.int .i64 (b.length:Int)))=.ok (.imm (b.map eN)):=by
  rw [aQx _ (cX (n:=1) (fun c hc=>by obtain ⟨x,_,rfl⟩:=List.mem_map.1 hc;exact u81 x)).1,List.length_map,hl,hbd]
  simp [List.take_append_of_le_length]
 delta Tryz.f3;simp only [↓cw,↓reduceIte,Nat.reduceLT,kk,h19,hsl]
 refine g20 hb rC rfl fun X1 u x1 got=>?_
 obtain ⟨s,hs⟩:∃ s,s=(eY b).1:=⟨_,rfl⟩
 have hsm:=aIz b
 have hri:=@vQ b
 rw [←hs] at got hsm hri
 obtain ⟨tv,sv,pv,bv,cv,us,hu,h2,h3,h4,h5,h6,h7⟩:=got.is
 have b1:bv.one=true:=by rcases h6 with rfl | ⟨rfl,_⟩<;>rfl
 have b2:=h2.one
 have b3:=h3.one
 have b4:=h4.one
 have b5:=h7.one
 obtain ⟨X2,hX2⟩:∃ X2:St,X2=X1.var 6 [.nils,.nils,.nils,.nils,.nils,.int .i64 0] [tv,sv,pv,bv,cv,.int .i64 s.next]:=⟨_,rfl⟩
 have w1:=x1.wf rC
 have x2:Ext X1 X2:=by rw [hX2];exact Ext.var w1 6 _ _
 have w2:=x2.wf w1
 have got2:=got.ext x2
 have r2:X2.heap.get X1.next=some (.row 0 6 [[tv,sv,pv,bv,cv,.int .i64 s.next]]):=by rw [hX2];exact Tr.get_put_sameB _ _ _ trivial
 have h21:=fun S K=>(g21 b hb).eq S K
 simp only [xF,←hs] at h21
 obtain ⟨X4,hX4⟩:∃ X4:St,X4=X2.var 6 [.nils,.nils,.nils,.nils,.nils,.int .i64 0] [.imm (s.table.map Rate.enc),.imm (s.ser.map Ser.enc),.imm (s.posted.map Posted.enc),.imm (s.book.map Bal.enc),.imm (s.sess.map Sess.enc),.int .i64 s.next]:=⟨_,rfl⟩
 have x4:Ext X2 X4:=by rw [hX4];exact Ext.var w2 6 _ _
 have got4:=got2.ext x4
 have r4:=aE (x4.old X1.next _ r2)
 have r5:aC X4 X2.next 0=.ok (6,[[.imm (s.table.map Rate.enc),.imm (s.ser.map Ser.enc),.imm (s.posted.map Posted.enc),.imm (s.book.map Bal.enc),.imm (s.sess.map Sess.enc),.int .i64 s.next]]):=by rw [hX4];exact aA _ _ _ _ _ _
 have h22:=fun K=>w22 got4 hsm K
 have h24:=fun K':KW=>(Fn.back (fun S K=>g24 s S K)).frz bA4 (State.clo s) (args:=[u]) (S:=X4) (by simp only [frzVs,got4.frz]) (by simp only [ptrsVs,got4.ptr,List.append_nil]) (.inl rfl) K'
 rw [hu] at h22 h24
 rw [hu]
 simp only [St.var] at hX2 hX4
 simp only [↓cw,↓reduceIte,Nat.reduceLT,Nat.reduceAdd,kk,b1,b2,b3,b4,b5,←hX2,h21,←hX4,r4,r5,h22,h23,h24,g25]
 by_cases he:(eY b).2=0
 ·rw [if_neg (not_not_intro he),if_pos (hri he)];trivial
 ·rw [if_pos he];trivial
end Go.Proofs.YtoaibmbldmckaaaGreat
end
section
namespace Go.AM
open Go.RowKit
theorem aNj {P:Program} {H:Type} {enc:TypeId×Value→H} {W:World} {sp:Nat→Bool} {held:Bool} {t e:TypeId} {v:Value} {dd:DataW H} {ps:List MemPlace} (ht:P.underlying t=some (.slice e)) (hd:DataW.Trod enc P W 0 sp held t v dd ps) {G:Gh} {es:List (List V)} (hx:VR G (.imm es) v):
  (dd=.nil∧es=[])∨∃ elems spare,dd=.slice elems spare∧elems.length=es.length:=by
 obtain ⟨fuel,hf⟩:=hd
 rcases DataW.trod_slice ht hf with ⟨h1,h2⟩ | ⟨a,len,cap,elems,rest,m,_,h1,h2,_,_,_,hel,_⟩
 ·left
  cases h2
  refine ⟨rfl,?_⟩
  cases hx with
  | imm0=>rfl
  | imm _ p n c ee hn _ _ _ _ _=>
   simp [Value.cells] at h1
 ·right
  cases h2
  refine ⟨_,_,rfl,?_⟩
  rw [List.length_map]
  cases hx with
  | imm0=>simp [Value.cells] at h1
  | imm _ p n c ee hn _ _ _ _ _=>
   simp [Value.cells] at h1
   omega
end Go.AM
namespace Go.Proofs.YtoaibmbldmckaaaGreat
open Go.AM Tryz
set_option linter.unusedVariables false
set_option linter.unusedSimpArgs false
set_option maxRecDepth 100000
theorem aSb {n:Nat} {xs:List V} (h:eM prog n 22 xs):∃ l:List UInt8,xs=[.imm (l.map eN)]:=by
 obtain ⟨m,es,h,hes⟩:=aRc Tryz.underlying22 h
 obtain ⟨l,hl⟩:=aGx (enc:=eN) fun c hc=>by
  have:=(hes c hc).2
  cases m with
  | zero=>cases this
  | succ m=>
   simp only [eM,Tryz.underlying5] at this
   obtain ⟨i,h1,h2⟩:=this
   simp only [Lit.wf,Bool.and_eq_true,decide_eq_true_eq] at h2
   have h3:(0:Int)≤i∧i≤255:=h2
   have h4:((UInt8.ofNat i.toNat).toNat:Int)=i:=by
    rw [UInt8.toNat_ofNat']
    omega
   exact ⟨UInt8.ofNat i.toNat,by rw [h1,eN,h4]⟩
 exact ⟨l,by rw [h,hl]⟩
end Go.Proofs.YtoaibmbldmckaaaGreat
end
