import Derived.KernelRfl
import Derived.Test.YtoaibmbldmckaaaGreatProg
import Derived.Test.YtoaibmbldmckaaaGreatX2
set_option linter.unusedSimpArgs false
set_option linter.unusedVariables false
set_option linter.unusedSectionVars false
set_option maxRecDepth 100000
section
namespace Go.Proofs.YtoaibmbldmckaaaGreat
open Go.AM Tryz
section
structure RB (B:St) (b:List UInt8) (a q n:Nat) (r:Rd) (row:List V) (X:St):Prop where
 wf:WF X
 nx:B.next≤X.next
 la:a<B.next
 lq:q<B.next
 aq:a≠q
 ra:X.heap.get a=some (.row 0 3 [r.cells b])
 rq:X.heap.get q=some (.row 0 n [row])
 old:∀ y,y<B.next→y≠a→y≠q→X.heap.get y=B.heap.get y
structure RT (B:St) (b:List UInt8) (a q n t m:Nat) (r:Rd) (row tv:List V) (X:St):Prop extends RB B b a q n r row X where
 lt:t<X.next
 ge:B.next≤t
 rt:X.heap.get t=some (.row 0 m [tv])
section
variable {B X:St} {b:List UInt8} {a q n t m:Nat} {r:Rd} {row tv:List V}
theorem RB.refl (w:WF X) (ra:X.heap.get a=some (.row 0 3 [r.cells b])) (rq:X.heap.get q=some (.row 0 n [row])) (aq:a≠q):RB X b a q n r row X:=
 ⟨w,Nat.le_refl _,w _ _ ra,w _ _ rq,aq,ra,rq,fun _ _ _ _=>rfl⟩
theorem RB.trans {Y:St} {r':Rd} {row':List V} (h:RB B b a q n r row X) (k:RB X b a q n r' row' Y):RB B b a q n r' row' Y:=
 ⟨k.wf,Nat.le_trans h.nx k.nx,h.la,h.lq,h.aq,k.ra,k.rq,fun y h1 h2 h3=>(k.old y (Nat.lt_of_lt_of_le h1 h.nx) h2 h3).trans (h.old y h1 h2 h3)⟩
theorem RB.rd (h:RB B b a q n r row X) (r':Rd):RB B b a q n r' row ⟨X.next,X.heap.put a (.row 0 3 [r'.cells b])⟩:=
 ⟨xA (n:=X.next) h.wf (h.wf _ _ h.ra) (Nat.le_refl _),h.nx,h.la,h.lq,h.aq,Tr.get_put_sameB _ _ _ trivial,(Tr.get_put_neB _ _ _ _ trivial (Ne.symm h.aq)).trans h.rq,fun y h1 h2 h3=>(Tr.get_put_neB _ _ _ _ trivial h2).trans (h.old y h1 h2 h3)⟩
theorem RB.qset (h:RB B b a q n r row X) (row':List V):RB B b a q n r row' ⟨X.next,X.heap.put q (.row 0 n [row'])⟩:=
 ⟨xA (n:=X.next) h.wf (h.wf _ _ h.rq) (Nat.le_refl _),h.nx,h.la,h.lq,h.aq,(Tr.get_put_neB _ _ _ _ trivial h.aq).trans h.ra,Tr.get_put_sameB _ _ _ trivial,fun y h1 h2 h3=>(Tr.get_put_neB _ _ _ _ trivial h3).trans (h.old y h1 h2 h3)⟩
theorem RB.new (h:RB B b a q n r row X) (m:Nat) (tv:List V):RT B b a q n X.next m r row tv ⟨X.next+1,X.heap.put X.next (.row 0 m [tv])⟩:=
 have na:a≠X.next:=by have:=h.la;have:=h.nx;omega
 have nq:q≠X.next:=by have:=h.lq;have:=h.nx;omega
 ⟨⟨xA (n:=X.next) h.wf (Nat.lt_succ_self _) (Nat.le_succ _),Nat.le_succ_of_le h.nx,h.la,h.lq,h.aq,(Tr.get_put_neB _ _ _ _ trivial na).trans h.ra,(Tr.get_put_neB _ _ _ _ trivial nq).trans h.rq,fun y h1 h2 h3=>(Tr.get_put_neB _ _ _ _ trivial (by have:=h.nx;omega)).trans (h.old y h1 h2 h3)⟩,Nat.lt_succ_self _,h.nx,Tr.get_put_sameB _ _ _ trivial⟩
theorem RT.tmp (h:RT B b a q n t m r row tv X) (tv':List V):RT B b a q n t m r row tv' ⟨X.next,X.heap.put t (.row 0 m [tv'])⟩:=
 have na:a≠t:=by have:=h.la;have:=h.ge;omega
 have nq:q≠t:=by have:=h.lq;have:=h.ge;omega
 ⟨⟨xA (n:=X.next) h.wf h.lt (Nat.le_refl _),h.nx,h.la,h.lq,h.aq,(Tr.get_put_neB _ _ _ _ trivial na).trans h.ra,(Tr.get_put_neB _ _ _ _ trivial nq).trans h.rq,fun y h1 h2 h3=>(Tr.get_put_neB _ _ _ _ trivial (by have:=h.ge;omega)).trans (h.old y h1 h2 h3)⟩,h.lt,h.ge,Tr.get_put_sameB _ _ _ trivial⟩
theorem RT.rdT (h:RT B b a q n t m r row tv X) (r':Rd):RT B b a q n t m r' row tv ⟨X.next,X.heap.put a (.row 0 3 [r'.cells b])⟩:=
 ⟨h.toRB.rd r',h.lt,h.ge,(Tr.get_put_neB _ _ _ _ trivial (by have:=h.la;have:=h.ge;omega)).trans h.rt⟩
theorem RB.keep (h:RB B b a q n r row X) {r0:Rd} {row0:List V} (ra:B.heap.get a=some (.row 0 3 [r0.cells b])) (rq:B.heap.get q=some (.row 0 n [row0])) {S0:St} {w:Nat} {v:V} {es:List (List V)} (o:Own S0 B w v es) (hw:3≠w) (hn:n≠w):Own S0 X w v es:=
 o.same h.nx fun y hy=>h.old y (mQ o hy).2 (fun e=>Own.wide o ra hw (e▸hy)) fun e=>Own.wide o rq hn (e▸hy)
theorem RB.app (h:RB B b a q n r row X) {w bb:Nat} {v:V} {es:List (List V)} (o:Own E0 X w v es) (lb:∀ y,AM.blkOf v=some y→B.next≤y) {c:List V} (hc:c.length=w∧aP c=true) (h1:(es.length+1)*bb≤35184372088832) (h2:es.length+1<fZ):
  ∃ v' X',iW w bb v (.sl X.next 0 w 0 1) none ⟨X.next+1,X.heap.put X.next (.row 0 w [c])⟩=.ok (v',X')∧RB B b a q n r row X'∧Own E0 X' w v' (es++[c])∧(∀ y,AM.blkOf v'=some y→B.next≤y)∧(∀ y,y<X.next→AM.blkOf v≠some y→X'.heap.get y=X.heap.get y)∧X.next≤X'.next∧(∀ y,AM.blkOf v'=some y→AM.blkOf v=some y∨X.next≤y):=by
 have x:Ext X ⟨X.next+1,X.heap.put X.next (.row 0 w [c])⟩:=Ext.new h.wf _
 obtain ⟨v',X',q1,q2,q3,q4,q5,q6⟩:=(o.ext x).pushG (b:=bb) (aEd (x.wf h.wf)) wP (u:=.sl X.next 0 w 0 1) (cs:=[c]) (by simp only [aN,aB];rfl) (fun d hd=>by rcases List.mem_singleton.1 hd with rfl;exact hc) (by simp) h1 h2
 have q5:∀ y,y<X.next→AM.blkOf v≠some y→X'.heap.get y=X.heap.get y:=fun y hy hv=>by
  rw [q5 y (Nat.lt_succ_of_lt hy) hv]
  exact Tr.get_put_neB _ _ _ _ trivial (by omega)
 have q6:X.next≤X'.next:=Nat.le_trans (Nat.le_succ _) q6
 have ob:∀ y,y<B.next→AM.blkOf v≠some y:=fun y hy e=>by have:=lb y e;omega
 have hnx:=h.nx
 have keep:∀ y,y<B.next→X'.heap.get y=X.heap.get y:=fun y hy=>q5 y (by omega) (ob y hy)
 refine ⟨v',X',q1,⟨q2.wf wP,by omega,h.la,h.lq,h.aq,(keep a h.la).trans h.ra,(keep q h.lq).trans h.rq,fun y h1 h2 h3=>(keep y h1).trans (h.old y h1 h2 h3)⟩,q3,fun y hy=>?_,q5,q6,fun y hy=>?_⟩
 ·rcases q4 with e | e
  ·rw [e] at hy;cases hy;show B.next≤X.next+1;omega
  ·rw [e] at hy;exact lb y hy
 ·rcases q4 with e | e
  ·rw [e] at hy;cases hy;exact .inr (Nat.le_succ _)
  ·rw [e] at hy;exact .inl hy
end
end
def zF (k:Int):List V:=(bO k).cells .nils
theorem aEi {A X:St} {n:Nat} {v:V} {es:List (List V)} (o:Own E0 X n v es) (lb:∀ y,AM.blkOf v=some y→A.next≤y):Own A X n v es:=by
 refine ⟨?_,o.len⟩
 rcases o.is with h | ⟨y,ver,tl,q1,q2,q3,q4⟩
 ·exact .inl h
 ·exact .inr ⟨y,ver,tl,q1,lb y (by rw [q1];rfl),q3,q4⟩
theorem aOc {b:List UInt8} (hb:b.length<1000000000) {r:Rd} (hr:r.pos≤b.length) {X:St} {a:Nat} (hX:X.heap.get a=some (.row 0 3 [r.cells b])) (K:KW):C 69 [.ptr a 0 0 0] X K=K (.int .i64 (aD b r).1) ⟨X.next,X.heap.put a (.row 0 3 [(aD b r).2.cells b])⟩:=(r69 hb hr).eq hX K
theorem aNq {b:List UInt8} (hb:b.length<1000000000) {r:Rd} (hr:r.pos≤b.length) {X:St} {a:Nat} (hX:X.heap.get a=some (.row 0 3 [r.cells b])) (K:KW):C 146 [.ptr a 0 0 0,.int .i64 64] X K=K (.str (aE b 64 r).1) ⟨X.next,X.heap.put a (.row 0 3 [(aE b 64 r).2.cells b])⟩:=(yX hb hr 64).eq hX K
theorem aVo {b:List UInt8} (hb:b.length<1000000000) {r:Rd} (hr:r.pos≤b.length) (k:Int) {S:St} {a q:Nat} (h0:RB S b a q 15 r (zF k) S) {K:KW}
  (H:∀ S' v,RB S b a q 15 (dE b k r).2 ((dE b k r).1.cells v) S'→Own E0 S' 4 v ((dE b k r).1.lines.map Line.enc)→K (.tup []) S'):C 212 [.ptr a 0 0 0,.ptr q 0 0 0] S K:=by
 refine aTz ?_
 have haq:=h0.aq
 have w:=h0.wf
 have q0:=aC h0.rq
 simp only [zF,Cmd.cells,bO] at q0
 delta Tryz.f212;simp only [↓cw,↓reduceIte,Nat.reduceLT,Nat.reduceAdd,kk,q0]
 have hn:∀ X:St,Own E0 X 4 .nils (([]:List Line).map Line.enc):=fun X=>Own.nil _ _ _
 by_cases c1:k=1
 ·unfold dE bW at H
  simp only [if_pos c1,bO] at H
  simp only [if_pos c1]
  refine Eq.mpr ((yX hb hr 64).eq h0.ra _) ?_
  have a0:=h0.rd (aE b 64 r).2
  have p0:=aC a0.rq
  simp only [zF,Cmd.cells,bO] at p0
  simp only [↓cw,↓reduceIte,Nat.reduceLT,Nat.reduceAdd,kk,p0,Date.enc]
  have h1:=a0.qset [.int .i64 k,.str (aE b 64 r).1,.int .i64 0,.str [],.int .i64 0,.int .i64 0,.int .i64 0,.int .i64 0,.int .i64 0,.int .i64 0,.int .i64 0,.nils,.str [],.int .i64 0,.int .i64 0]
  refine Eq.mpr ((r69 hb (bD hr)).eq h1.ra _) ?_
  have a1:=h1.rd (aD b (aE b 64 r).2).2
  have p1:=aC a1.rq
  simp only [zF,Cmd.cells,bO] at p1
  simp only [↓cw,↓reduceIte,Nat.reduceLT,Nat.reduceAdd,kk,p1,Date.enc]
  have h2:=a1.qset [.int .i64 k,.str (aE b 64 r).1,.int .i64 (aD b (aE b 64 r).2).1,.str [],.int .i64 0,.int .i64 0,.int .i64 0,.int .i64 0,.int .i64 0,.int .i64 0,.int .i64 0,.nils,.str [],.int .i64 0,.int .i64 0]
  exact H _ _ h2 (hn _)
 by_cases c2:k=2
 ·unfold dE bW at H
  simp only [if_neg c1,if_pos c2,bO] at H
  simp only [if_neg c1,if_pos c2]
  refine Eq.mpr ((yX hb hr 64).eq h0.ra _) ?_
  have a0:=h0.rd (aE b 64 r).2
  have p0:=aC a0.rq
  simp only [zF,Cmd.cells,bO] at p0
  simp only [↓cw,↓reduceIte,Nat.reduceLT,Nat.reduceAdd,kk,p0,Date.enc]
  have h1:=a0.qset [.int .i64 k,.str (aE b 64 r).1,.int .i64 0,.str [],.int .i64 0,.int .i64 0,.int .i64 0,.int .i64 0,.int .i64 0,.int .i64 0,.int .i64 0,.nils,.str [],.int .i64 0,.int .i64 0]
  exact H _ _ h1 (hn _)
 by_cases c8:k=8
 ·unfold dE bW at H
  simp only [if_neg c1,if_neg c2,if_pos c8,bO] at H
  simp only [if_neg c1,if_neg c2,if_pos c8]
  refine Eq.mpr ((yX hb hr 64).eq h0.ra _) ?_
  have a0:=h0.rd (aE b 64 r).2
  have p0:=aC a0.rq
  simp only [zF,Cmd.cells,bO] at p0
  simp only [↓cw,↓reduceIte,Nat.reduceLT,Nat.reduceAdd,kk,p0,Date.enc]
  have h1:=a0.qset [.int .i64 k,.str (aE b 64 r).1,.int .i64 0,.str [],.int .i64 0,.int .i64 0,.int .i64 0,.int .i64 0,.int .i64 0,.int .i64 0,.int .i64 0,.nils,.str [],.int .i64 0,.int .i64 0]
  exact H _ _ h1 (hn _)
 by_cases c3:k=3
 ·unfold dE bW at H
  simp only [if_neg c1,if_neg c2,if_neg c8,if_pos c3,bO] at H
  simp only [if_neg c1,if_neg c2,if_neg c8,if_pos c3]
  refine Eq.mpr ((yX hb hr 64).eq h0.ra _) ?_
  have a0:=h0.rd (aE b 64 r).2
  have p0:=aC a0.rq
  simp only [zF,Cmd.cells,bO] at p0
  simp only [↓cw,↓reduceIte,Nat.reduceLT,Nat.reduceAdd,kk,p0,Date.enc]
  have h1:=a0.qset [.int .i64 k,.str [],.int .i64 0,.str (aE b 64 r).1,.int .i64 0,.int .i64 0,.int .i64 0,.int .i64 0,.int .i64 0,.int .i64 0,.int .i64 0,.nils,.str [],.int .i64 0,.int .i64 0]
  refine Eq.mpr ((aOb hb (bD hr)).eq h1.ra _) ?_
  have a1:=h1.rd (aW b (aE b 64 r).2).2
  have p1:=aC a1.rq
  simp only [zF,Cmd.cells,bO] at p1
  simp only [↓cw,↓reduceIte,Nat.reduceLT,Nat.reduceAdd,kk,p1,Date.enc]
  have h2:=a1.qset [.int .i64 k,.str [],.int .i64 0,.str (aE b 64 r).1,.int .i64 (aW b (aE b 64 r).2).1.y,.int .i64 (aW b (aE b 64 r).2).1.m,.int .i64 (aW b (aE b 64 r).2).1.d,.int .i64 0,.int .i64 0,.int .i64 0,.int .i64 0,.nils,.str [],.int .i64 0,.int .i64 0]
  refine Eq.mpr ((r69 hb (eH (bD hr))).eq h2.ra _) ?_
  have a2:=h2.rd (aD b (aW b (aE b 64 r).2).2).2
  have p2:=aC a2.rq
  simp only [zF,Cmd.cells,bO] at p2
  simp only [↓cw,↓reduceIte,Nat.reduceLT,Nat.reduceAdd,kk,p2,Date.enc]
  have h3:=a2.qset [.int .i64 k,.str [],.int .i64 0,.str (aE b 64 r).1,.int .i64 (aW b (aE b 64 r).2).1.y,.int .i64 (aW b (aE b 64 r).2).1.m,.int .i64 (aW b (aE b 64 r).2).1.d,.int .i64 (aD b (aW b (aE b 64 r).2).2).1,.int .i64 0,.int .i64 0,.int .i64 0,.nils,.str [],.int .i64 0,.int .i64 0]
  exact H _ _ h3 (hn _)
 by_cases c4:k=4
 ·unfold dE bW at H
  simp only [if_neg c1,if_neg c2,if_neg c8,if_neg c3,if_pos c4,bO] at H
  simp only [if_neg c1,if_neg c2,if_neg c8,if_neg c3,if_pos c4]
  refine Eq.mpr ((yX hb hr 64).eq h0.ra _) ?_
  have a0:=h0.rd (aE b 64 r).2
  have p0:=aC a0.rq
  simp only [zF,Cmd.cells,bO] at p0
  simp only [↓cw,↓reduceIte,Nat.reduceLT,Nat.reduceAdd,kk,p0,Date.enc]
  have h1:=a0.qset [.int .i64 k,.str (aE b 64 r).1,.int .i64 0,.str [],.int .i64 0,.int .i64 0,.int .i64 0,.int .i64 0,.int .i64 0,.int .i64 0,.int .i64 0,.nils,.str [],.int .i64 0,.int .i64 0]
  refine Eq.mpr ((aOb hb (bD hr)).eq h1.ra _) ?_
  have a1:=h1.rd (aW b (aE b 64 r).2).2
  have p1:=aC a1.rq
  simp only [↓cw,↓reduceIte,Nat.reduceLT,Nat.reduceAdd,kk,p1,Date.enc]
  have h2:=a1.qset [.int .i64 k,.str (aE b 64 r).1,.int .i64 0,.str [],.int .i64 0,.int .i64 0,.int .i64 0,.int .i64 0,.int .i64 (aW b (aE b 64 r).2).1.y,.int .i64 (aW b (aE b 64 r).2).1.m,.int .i64 (aW b (aE b 64 r).2).1.d,.nils,.str [],.int .i64 0,.int .i64 0]
  refine Eq.mpr ((aUt hb (eH (bD hr)) 12).eq h2.ra _) ?_
  have a2:=h2.rd (cG b 12 (aW b (aE b 64 r).2).2).2
  have hp2:(cG b 12 (aW b (aE b 64 r).2).2).2.pos≤b.length:=vE (eH (bD hr))
  obtain ⟨z0,z12⟩:=lO (b:=b) (most:=12) (r:=(aW b (aE b 64 r).2).2) (by decide) (fun h=>kB h)
  generalize cG b 12 (aW b (aE b 64 r).2).2=y at a2 hp2 z0 z12 H ⊢
  obtain ⟨n,r2⟩:=y
  simp only at a2 hp2 z0 z12 H ⊢
  obtain ⟨n,rfl⟩:=Int.eq_ofNat_of_zero_le z0
  rw [show ((n:Int)).toNat=n from by omega] at H
  generalize (aE b 64 r).1=sx at a2 H ⊢
  generalize (aW b (aE b 64 r).2).1=dx at a2 H ⊢
  have rc0:RB S b a q 15 r2 [.int .i64 k,.str sx,.int .i64 0,.str [],.int .i64 0,.int .i64 0,.int .i64 0,.int .i64 0,.int .i64 dx.y,.int .i64 dx.m,.int .i64 dx.d,.nils,.str [],.int .i64 0,.int .i64 0] _:=a2
  refine jZ (fun m vs X=>∃ (i:Nat) (r1:Rd) (v:V) (done:List Line),i+m=n∧vs=[.int .i64 (i:Int)]∧RB S b a q 15 r1 [.int .i64 k,.str sx,.int .i64 0,.str [],.int .i64 0,.int .i64 0,.int .i64 0,.int .i64 0,.int .i64 dx.y,.int .i64 dx.m,.int .i64 dx.d,v,.str [],.int .i64 0,.int .i64 0] X∧Own ⟨S.next,.nil⟩ X 4 v (done.map Line.enc)∧done.length=i∧r1.pos≤b.length∧done++(aT b m r1).1=(aT b n r2).1∧(aT b m r1).2=(aT b n r2).2) ?_ (n:=n) ⟨0,r2,.nils,[],by omega,rfl,rc0,Own.nil _ _ _,rfl,hp2,rfl,rfl⟩
  rintro m vs X ⟨i,r1,v,done,hi,rfl,rc,o,hd,hp,e1,e2⟩ bF hag
  have wX:=rc.wf
  have nX:=rc.nx
  by_cases hin:(i:Int)<(n:Int)
  rotate_left
  ·have:m=0:=by omega
   subst this
   simp only [aT,List.append_nil] at e1 e2
   simp only [↓cw,↓reduceIte,Nat.reduceLT,kk,hin,if_false]
   refine H X v ?_ ?_
   ·rw [←e2];exact rc
   ·rw [←e1];exact o.weaken (Nat.zero_le _)
  obtain ⟨m,rfl⟩:∃ m',m=m'+1:=⟨m - 1,by omega⟩
  simp only [↓cw,↓reduceIte,Nat.reduceLT,kk,hin,if_true]
  have kX:RB X b a q 15 r1 [.int .i64 k,.str sx,.int .i64 0,.str [],.int .i64 0,.int .i64 0,.int .i64 0,.int .i64 0,.int .i64 dx.y,.int .i64 dx.m,.int .i64 dx.d,v,.str [],.int .i64 0,.int .i64 0] X:=RB.refl wX rc.ra rc.rq haq
  obtain ⟨Xz,hXz⟩:∃ W0:St,W0=⟨X.next+1,X.heap.put X.next (.row 0 4 [[.str [],.str [],.int .i64 0,.int .i64 0]])⟩:=⟨_,rfl⟩
  have az:RT X b a q 15 X.next 4 r1 [.int .i64 k,.str sx,.int .i64 0,.str [],.int .i64 0,.int .i64 0,.int .i64 0,.int .i64 0,.int .i64 dx.y,.int .i64 dx.m,.int .i64 dx.d,v,.str [],.int .i64 0,.int .i64 0] [.str [],.str [],.int .i64 0,.int .i64 0] Xz:=by rw [hXz];exact kX.new 4 [.str [],.str [],.int .i64 0,.int .i64 0]
  simp only [Nat.reduceAdd,←hXz]
  clear hXz
  obtain ⟨x0,R0,h0⟩:∃ v r,aE b 64 r1=(v,r):=⟨_,_,rfl⟩
  have pR0:R0.pos≤b.length:=by have:=bD (most:=64) hp;rw [h0] at this;exact this
  have c0:=fun K:KW=>aNq (r:=r1) hb hp az.ra K
  rw [h0] at c0
  dsimp only at c0
  have d0:RT X b a q 15 X.next 4 R0 [.int .i64 k,.str sx,.int .i64 0,.str [],.int .i64 0,.int .i64 0,.int .i64 0,.int .i64 0,.int .i64 dx.y,.int .i64 dx.m,.int .i64 dx.d,v,.str [],.int .i64 0,.int .i64 0] [.str [],.str [],.int .i64 0,.int .i64 0] (⟨Xz.next,Xz.heap.put a (.row 0 3 [R0.cells b])⟩:St):=az.rdT R0
  have g0:=aC (S:=(⟨Xz.next,Xz.heap.put a (.row 0 3 [R0.cells b])⟩:St)) d0.rt
  simp only [c0]
  obtain ⟨Xb0,hXb0⟩:∃ W0:St,W0=⟨Xz.next,(Xz.heap.put a (.row 0 3 [R0.cells b])).put X.next (.row 0 4 [[.str x0,.str [],.int .i64 0,.int .i64 0]])⟩:=⟨_,rfl⟩
  have a0:RT X b a q 15 X.next 4 R0 [.int .i64 k,.str sx,.int .i64 0,.str [],.int .i64 0,.int .i64 0,.int .i64 0,.int .i64 0,.int .i64 dx.y,.int .i64 dx.m,.int .i64 dx.d,v,.str [],.int .i64 0,.int .i64 0] [.str x0,.str [],.int .i64 0,.int .i64 0] Xb0:=by rw [hXb0];exact d0.tmp [.str x0,.str [],.int .i64 0,.int .i64 0]
  simp only [↓cw,↓reduceIte,Nat.reduceLT,Nat.reduceAdd,kk,Date.enc,g0,←hXb0]
  clear hXb0 c0 g0 d0 az
  obtain ⟨x1,R1,h1⟩:∃ v r,aE b 64 R0=(v,r):=⟨_,_,rfl⟩
  have pR1:R1.pos≤b.length:=by have:=bD (most:=64) pR0;rw [h1] at this;exact this
  have c1:=fun K:KW=>aNq (r:=R0) hb pR0 a0.ra K
  rw [h1] at c1
  dsimp only at c1
  have d1:RT X b a q 15 X.next 4 R1 [.int .i64 k,.str sx,.int .i64 0,.str [],.int .i64 0,.int .i64 0,.int .i64 0,.int .i64 0,.int .i64 dx.y,.int .i64 dx.m,.int .i64 dx.d,v,.str [],.int .i64 0,.int .i64 0] [.str x0,.str [],.int .i64 0,.int .i64 0] (⟨Xb0.next,Xb0.heap.put a (.row 0 3 [R1.cells b])⟩:St):=a0.rdT R1
  have g1:=aC (S:=(⟨Xb0.next,Xb0.heap.put a (.row 0 3 [R1.cells b])⟩:St)) d1.rt
  simp only [c1]
  obtain ⟨Xb1,hXb1⟩:∃ W0:St,W0=⟨Xb0.next,(Xb0.heap.put a (.row 0 3 [R1.cells b])).put X.next (.row 0 4 [[.str x0,.str x1,.int .i64 0,.int .i64 0]])⟩:=⟨_,rfl⟩
  have a1:RT X b a q 15 X.next 4 R1 [.int .i64 k,.str sx,.int .i64 0,.str [],.int .i64 0,.int .i64 0,.int .i64 0,.int .i64 0,.int .i64 dx.y,.int .i64 dx.m,.int .i64 dx.d,v,.str [],.int .i64 0,.int .i64 0] [.str x0,.str x1,.int .i64 0,.int .i64 0] Xb1:=by rw [hXb1];exact d1.tmp [.str x0,.str x1,.int .i64 0,.int .i64 0]
  simp only [↓cw,↓reduceIte,Nat.reduceLT,Nat.reduceAdd,kk,Date.enc,g1,←hXb1]
  clear hXb1 c1 g1 d1 a0
  obtain ⟨x2,R2,h2⟩:∃ v r,aD b R1=(v,r):=⟨_,_,rfl⟩
  have pR2:R2.pos≤b.length:=by have:=aY pR1;rw [h2] at this;exact this
  have c2:=fun K:KW=>aOc (r:=R1) hb pR1 a1.ra K
  rw [h2] at c2
  dsimp only at c2
  have d2:RT X b a q 15 X.next 4 R2 [.int .i64 k,.str sx,.int .i64 0,.str [],.int .i64 0,.int .i64 0,.int .i64 0,.int .i64 0,.int .i64 dx.y,.int .i64 dx.m,.int .i64 dx.d,v,.str [],.int .i64 0,.int .i64 0] [.str x0,.str x1,.int .i64 0,.int .i64 0] (⟨Xb1.next,Xb1.heap.put a (.row 0 3 [R2.cells b])⟩:St):=a1.rdT R2
  have g2:=aC (S:=(⟨Xb1.next,Xb1.heap.put a (.row 0 3 [R2.cells b])⟩:St)) d2.rt
  simp only [c2]
  obtain ⟨Xb2,hXb2⟩:∃ W0:St,W0=⟨Xb1.next,(Xb1.heap.put a (.row 0 3 [R2.cells b])).put X.next (.row 0 4 [[.str x0,.str x1,.int .i64 x2,.int .i64 0]])⟩:=⟨_,rfl⟩
  have a2:RT X b a q 15 X.next 4 R2 [.int .i64 k,.str sx,.int .i64 0,.str [],.int .i64 0,.int .i64 0,.int .i64 0,.int .i64 0,.int .i64 dx.y,.int .i64 dx.m,.int .i64 dx.d,v,.str [],.int .i64 0,.int .i64 0] [.str x0,.str x1,.int .i64 x2,.int .i64 0] Xb2:=by rw [hXb2];exact d2.tmp [.str x0,.str x1,.int .i64 x2,.int .i64 0]
  simp only [↓cw,↓reduceIte,Nat.reduceLT,Nat.reduceAdd,kk,Date.enc,g2,←hXb2]
  clear hXb2 c2 g2 d2 a1
  obtain ⟨x3,R3,h3⟩:∃ v r,aD b R2=(v,r):=⟨_,_,rfl⟩
  have pR3:R3.pos≤b.length:=by have:=aY pR2;rw [h3] at this;exact this
  have c3:=fun K:KW=>aOc (r:=R2) hb pR2 a2.ra K
  rw [h3] at c3
  dsimp only at c3
  have d3:RT X b a q 15 X.next 4 R3 [.int .i64 k,.str sx,.int .i64 0,.str [],.int .i64 0,.int .i64 0,.int .i64 0,.int .i64 0,.int .i64 dx.y,.int .i64 dx.m,.int .i64 dx.d,v,.str [],.int .i64 0,.int .i64 0] [.str x0,.str x1,.int .i64 x2,.int .i64 0] (⟨Xb2.next,Xb2.heap.put a (.row 0 3 [R3.cells b])⟩:St):=a2.rdT R3
  have g3:=aC (S:=(⟨Xb2.next,Xb2.heap.put a (.row 0 3 [R3.cells b])⟩:St)) d3.rt
  simp only [c3]
  obtain ⟨Xb3,hXb3⟩:∃ W0:St,W0=⟨Xb2.next,(Xb2.heap.put a (.row 0 3 [R3.cells b])).put X.next (.row 0 4 [[.str x0,.str x1,.int .i64 x2,.int .i64 x3]])⟩:=⟨_,rfl⟩
  have a3:RT X b a q 15 X.next 4 R3 [.int .i64 k,.str sx,.int .i64 0,.str [],.int .i64 0,.int .i64 0,.int .i64 0,.int .i64 0,.int .i64 dx.y,.int .i64 dx.m,.int .i64 dx.d,v,.str [],.int .i64 0,.int .i64 0] [.str x0,.str x1,.int .i64 x2,.int .i64 x3] Xb3:=by rw [hXb3];exact d3.tmp [.str x0,.str x1,.int .i64 x2,.int .i64 x3]
  simp only [↓cw,↓reduceIte,Nat.reduceLT,Nat.reduceAdd,kk,Date.enc,g3,←hXb3]
  clear hXb3 c3 g3 d3 a2
  obtain ⟨ss,hss⟩:∃ ss:Line,ss=⟨x0,x1,x2,x3⟩:=⟨_,rfl⟩
  have hread:eU b r1=(ss,R3):=by rw [hss];unfold eU;simp only [h0,h1,h2,h3]
  simp only [aT,hread] at e1 e2
  have gt:=aC (S:=⟨Xb3.next+11,Xb3.heap⟩) a3.rt
  have gq:=aC (S:=⟨Xb3.next+11,Xb3.heap⟩) a3.rq
  have o6:=a3.toRB.keep kX.ra kX.rq (o.weaken (A:=E0) (Nat.zero_le _)) (by decide) (by decide)
  have nX:=a3.nx
  obtain ⟨v',S',q1,w7,n7,o7,b7,k7⟩:=aSi (b:=48) o6 a3.wf (k1:=Xb3.next+6) (k2:=Xb3.next+7) (m:=Xb3.next+11) (fresh a3.wf (by omega)) (fresh a3.wf (by omega)) (by omega) (by omega) (by omega) (by omega) (aI6 ss) (by simp;omega) (by simp [fZ];omega)
  have la:=a3.la
  have lq:=a3.lq
  have ra7:S'.heap.get a=some (.row 0 3 [R3.cells b]):=(k7 a (by omega) (by omega) (Own.wide o6 a3.ra (by decide))).trans a3.ra
  have rq7:S'.heap.get q=some (.row 0 15 [[.int .i64 k,.str sx,.int .i64 0,.str [],.int .i64 0,.int .i64 0,.int .i64 0,.int .i64 0,.int .i64 dx.y,.int .i64 dx.m,.int .i64 dx.d,v,.str [],.int .i64 0,.int .i64 0]]):=(k7 q (by omega) (by omega) (Own.wide o6 a3.rq (by decide))).trans a3.rq
  have rc7:RB S b a q 15 R3 [.int .i64 k,.str sx,.int .i64 0,.str [],.int .i64 0,.int .i64 0,.int .i64 0,.int .i64 0,.int .i64 dx.y,.int .i64 dx.m,.int .i64 dx.d,v,.str [],.int .i64 0,.int .i64 0] S':=by
   have kd:=rc.trans a3.toRB
   exact ⟨w7,by omega,kd.la,kd.lq,haq,ra7,rq7,fun y h1 h2 h3=>(k7 y (by omega) (by omega) (fun e=>by have:=(mQ o e).1;have h4:S.next≤y:=this;omega)).trans (kd.old y h1 h2 h3)⟩
  have rc8:=rc7.qset [.int .i64 k,.str sx,.int .i64 0,.str [],.int .i64 0,.int .i64 0,.int .i64 0,.int .i64 0,.int .i64 dx.y,.int .i64 dx.m,.int .i64 dx.d,v',.str [],.int .i64 0,.int .i64 0]
  have gx:=aC rq7
  have vo:=o7.one
  have vc:=o7.cells
  have lb:∀ y,AM.blkOf v'=some y→S.next≤y:=fun y hy=>by
   rcases b7 with e | e
   ·rw [e] at hy;cases hy;omega
   ·rw [e] at hy;exact (mQ o hy).1
  have o8:Own ⟨S.next,.nil⟩ S' 4 v' ((done++[ss]).map Line.enc):=by
   rw [List.map_append]
   exact aEi o7 lb
  rw [hss] at q1
  simp only [Line.enc] at q1
  simp only [↓cw,↓reduceIte,Nat.reduceLT,Nat.reduceAdd,kk,gt,gq,aO4,q1,gx,vo,vc,wr1 (show i<1000000000 by omega)]
  refine hag m _ _ (by omega) ⟨i+1,R3,v',done++[ss],by omega,rfl,rc8,Own.wput o8 rq7 (by decide) (Nat.le_refl _) _,by simp [hd],pR3,by rw [←e1];simp,e2⟩
 by_cases c5:k=5
 ·unfold dE bW at H
  simp only [if_neg c1,if_neg c2,if_neg c8,if_neg c3,if_neg c4,if_pos c5,bO] at H
  simp only [if_neg c1,if_neg c2,if_neg c8,if_neg c3,if_neg c4,if_pos c5]
  refine Eq.mpr ((yX hb hr 64).eq h0.ra _) ?_
  have a0:=h0.rd (aE b 64 r).2
  have p0:=aC a0.rq
  simp only [zF,Cmd.cells,bO] at p0
  simp only [↓cw,↓reduceIte,Nat.reduceLT,Nat.reduceAdd,kk,p0,Date.enc]
  have h1:=a0.qset [.int .i64 k,.str (aE b 64 r).1,.int .i64 0,.str [],.int .i64 0,.int .i64 0,.int .i64 0,.int .i64 0,.int .i64 0,.int .i64 0,.int .i64 0,.nils,.str [],.int .i64 0,.int .i64 0]
  refine Eq.mpr ((aOb hb (bD hr)).eq h1.ra _) ?_
  have a1:=h1.rd (aW b (aE b 64 r).2).2
  have p1:=aC a1.rq
  simp only [zF,Cmd.cells,bO] at p1
  simp only [↓cw,↓reduceIte,Nat.reduceLT,Nat.reduceAdd,kk,p1,Date.enc]
  have h2:=a1.qset [.int .i64 k,.str (aE b 64 r).1,.int .i64 0,.str [],.int .i64 0,.int .i64 0,.int .i64 0,.int .i64 0,.int .i64 (aW b (aE b 64 r).2).1.y,.int .i64 (aW b (aE b 64 r).2).1.m,.int .i64 (aW b (aE b 64 r).2).1.d,.nils,.str [],.int .i64 0,.int .i64 0]
  refine Eq.mpr ((yX hb (eH (bD hr)) 64).eq h2.ra _) ?_
  have a2:=h2.rd (aE b 64 (aW b (aE b 64 r).2).2).2
  have p2:=aC a2.rq
  simp only [zF,Cmd.cells,bO] at p2
  simp only [↓cw,↓reduceIte,Nat.reduceLT,Nat.reduceAdd,kk,p2,Date.enc]
  have h3:=a2.qset [.int .i64 k,.str (aE b 64 r).1,.int .i64 0,.str [],.int .i64 0,.int .i64 0,.int .i64 0,.int .i64 0,.int .i64 (aW b (aE b 64 r).2).1.y,.int .i64 (aW b (aE b 64 r).2).1.m,.int .i64 (aW b (aE b 64 r).2).1.d,.nils,.str (aE b 64 (aW b (aE b 64 r).2).2).1,.int .i64 0,.int .i64 0]
  refine Eq.mpr ((r69 hb (bD (eH (bD hr)))).eq h3.ra _) ?_
  have a3:=h3.rd (aD b (aE b 64 (aW b (aE b 64 r).2).2).2).2
  have p3:=aC a3.rq
  simp only [zF,Cmd.cells,bO] at p3
  simp only [↓cw,↓reduceIte,Nat.reduceLT,Nat.reduceAdd,kk,p3,Date.enc]
  have h4:=a3.qset [.int .i64 k,.str (aE b 64 r).1,.int .i64 0,.str [],.int .i64 0,.int .i64 0,.int .i64 0,.int .i64 0,.int .i64 (aW b (aE b 64 r).2).1.y,.int .i64 (aW b (aE b 64 r).2).1.m,.int .i64 (aW b (aE b 64 r).2).1.d,.nils,.str (aE b 64 (aW b (aE b 64 r).2).2).1,.int .i64 (aD b (aE b 64 (aW b (aE b 64 r).2).2).2).1,.int .i64 0]
  exact H _ _ h4 (hn _)
 by_cases c7:k=7
 ·unfold dE bW at H
  simp only [if_neg c1,if_neg c2,if_neg c8,if_neg c3,if_neg c4,if_neg c5,if_pos c7,bO] at H
  simp only [if_neg c1,if_neg c2,if_neg c8,if_neg c3,if_neg c4,if_neg c5,if_pos c7]
  refine Eq.mpr ((r69 hb hr).eq h0.ra _) ?_
  have a0:=h0.rd (aD b r).2
  have p0:=aC a0.rq
  simp only [zF,Cmd.cells,bO] at p0
  simp only [↓cw,↓reduceIte,Nat.reduceLT,Nat.reduceAdd,kk,p0,Date.enc]
  have h1:=a0.qset [.int .i64 k,.str [],.int .i64 0,.str [],.int .i64 0,.int .i64 0,.int .i64 0,.int .i64 0,.int .i64 0,.int .i64 0,.int .i64 0,.nils,.str [],.int .i64 0,.int .i64 (aD b r).1]
  exact H _ _ h1 (hn _)
 unfold dE bW at H
 simp only [if_neg c1,if_neg c2,if_neg c8,if_neg c3,if_neg c4,if_neg c5,if_neg c7] at H ⊢
 exact H _ _ h0 (hn _)
theorem aJv {S:St} {c ver:Nat} {b:List UInt8} (hc:S.heap.get c=some (.row ver 1 (b.map dY))) (r:Rd):iS S 3 [.sl c ver 1 0 b.length,.int .i64 (r.pos:Int),.int .i64 r.err]=.ok (r.cells b)∧eX S 3 [.sl c ver 1 0 b.length,.int .i64 (r.pos:Int),.int .i64 r.err]=[c]:=by
 have he:aN S (.sl c ver 1 0 b.length)=.ok (b.map dY):=by
  have:=sU hc (i:=b.length) (by rw [List.length_map];omega)
  rw [this,List.take_of_length_le (by rw [List.length_map];omega)]
 have f1:cC kD (lK (iS S 2) S) (.sl c ver 1 0 b.length)=.ok (.imm (b.map dY)):=by
  simp only [cC,lK,he,(cZ (S:=S) (n:=1) (bG (enc:=dY) (fun _=>rfl) b)).1]
 have f2:eL (fV (eX S 2) S) (.sl c ver 1 0 b.length)=[c]:=by
  simp only [eL,fV,he,(cZ (S:=S) (n:=1) (bG (enc:=dY) (fun _=>rfl) b)).2]
 constructor
 ·show frzVs kD (lK (iS S 2) S) [_,_,_]=_
  simp only [frzVs,f1];rfl
 ·show slsVs (fV (eX S 2) S) [_,_,_]=_
  simp only [slsVs,f2];rfl
theorem c69 {b:List UInt8} (hb:b.length<1000000000) {r:Rd} (hr:r.pos≤b.length) {S:St} {a c ver:Nat} (hc:S.heap.get c=some (.row ver 1 (b.map dY))) (hS:S.heap.get a=some (.row 0 3 [[.sl c ver 1 0 b.length,.int .i64 (r.pos:Int),.int .i64 r.err]])) (hca:c≠a):
  ∃ h',(h'=S.heap∨h'=S.heap.cut c)∧∀ K:KW,C 69 [.ptr a 0 0 0] S K=K (.int .i64 (aD b r).1) (St.at ⟨S.next,h'⟩ a ((aD b r).2.cells b)):=
 FnR.cutU (mk:=fun a=>[.ptr a 0 0 0]) aO8 (lv:=dN [(6,[2,3,4])]) (Pt.head rfl) (pre:=[r.cells b]) (b69 hb hr) rfl (Rd.clo b _) hS (by simp only [gD,(aJv hc r).1]) (by simp only [hZ,(aJv hc r).2];rfl) hca
theorem c76 {b:List UInt8} (hb:b.length<1000000000) {r:Rd} (hr:r.pos≤b.length) {S:St} {a c ver:Nat} (hc:S.heap.get c=some (.row ver 1 (b.map dY))) (hS:S.heap.get a=some (.row 0 3 [[.sl c ver 1 0 b.length,.int .i64 (r.pos:Int),.int .i64 r.err]])) (hca:c≠a):
  ∃ h',(h'=S.heap∨h'=S.heap.cut c)∧∀ K:KW,C 76 [.ptr a 0 0 0] S K=K (.int .i64 (aD b r).1) (St.at ⟨S.next,h'⟩ a ((aD b r).2.cells b)):=
 FnR.cutU (mk:=fun a=>[.ptr a 0 0 0]) aTb (lv:=dN [(6,[2,3,4])]) (Pt.head rfl) (pre:=[r.cells b]) (b76 hb hr) rfl (Rd.clo b _) hS (by simp only [gD,(aJv hc r).1]) (by simp only [hZ,(aJv hc r).2];rfl) hca
theorem n69 {r:Rd} (hr:r.pos≤([]:List UInt8).length) {S:St} {a:Nat} (hS:S.heap.get a=some (.row 0 3 [[.nils,.int .i64 (r.pos:Int),.int .i64 r.err]])) (K:KW):
  C 69 [.ptr a 0 0 0] S K=K (.int .i64 (aD [] r).1) (St.at S a ((aD [] r).2.cells [])):=
 FnR.nil (mk:=fun a=>[.ptr a 0 0 0]) aO8 (lv:=dN [(6,[2,3,4])]) (Pt.head rfl) (pre:=[r.cells []]) (b69 (by decide) hr) rfl (Rd.clo [] _) hS (by rfl) (by rfl) K
def aIe (f:Nat) (b:List UInt8) (S T:St) (a:Nat):Prop:=∀ T',Ext T T'→∃ Y:St,Y.next=T'.next∧WF Y∧(∀ y,y<S.next∨T.next≤y→Y.heap.get y=T'.heap.get y)∧∀ (K':KW),C f [.ptr a 0 0 0] T' K'=K' (.int .i64 (aD b ⟨0,0⟩).1) (St.at Y a ((aD b ⟨0,0⟩).2.cells b))
theorem zG {f:Nat} {b:List UInt8} {S:St} (w:WF S) {c ver:Nat} {T:St} {a:Nat} (xT:Ext S T) (hcS:S.next≤c) (hcT:T.heap.get c=some (.row ver 1 (b.map dY))) (hca:c≠a) (haT:T.heap.get a=some (.row 0 3 [[.sl c ver 1 0 b.length,.int .i64 0,.int .i64 0]]))
  (hf:∀ {S:St},S.heap.get c=some (.row ver 1 (b.map dY))→S.heap.get a=some (.row 0 3 [[.sl c ver 1 0 b.length,.int .i64 (((⟨0,0⟩:Rd).pos:Nat):Int),.int .i64 (⟨0,0⟩:Rd).err]])→∃ h',(h'=S.heap∨h'=S.heap.cut c)∧∀ K:KW,C f [.ptr a 0 0 0] S K=K (.int .i64 (aD b ⟨0,0⟩).1) (St.at ⟨S.next,h'⟩ a ((aD b ⟨0,0⟩).2.cells b))):aIe f b S T a:=by
 intro T' x
 have wT:=x.wf (xT.wf w)
 obtain ⟨h',hh,hK⟩:=hf (x.old _ _ hcT) (x.old _ _ haT)
 have hcl:=xT.wf w _ _ hcT
 have hg:∀ y,y≠c→h'.get y=T'.heap.get y:=by
  intro y hy
  rcases hh with rfl | rfl
  ·rfl
  ·rw [Tr.get_cut,if_neg hy]
 refine ⟨⟨T'.next,h'⟩,rfl,?_,fun y hy=>hg y (by rcases hy with hy | hy<;>omega),hK⟩
 intro y d hy
 rcases hh with rfl | rfl
 ·exact wT y d hy
 ·have hy:(T'.heap.cut c).get y=some d:=hy
  rw [Tr.get_cut] at hy
  split at hy
  ·cases hy
  ·exact wT y d hy
theorem aTi {b:List UInt8} (hb:b.length<1000000000) {S:St} (w:WF S) {v:V} (he:aN S v=.ok (b.map dY)) {K:KW}
  (H:∀ a T,Ext S T→S.next≤a→a<T.next→aIe 69 b S T a→K (.ptr a 0 0 0) T):C 60 [v] S K:=by
 refine v60 ?_
 by_cases hne:b=[]
 ·subst hne
  have q:iW 1 1 .nils v none S=.ok (.nils,S):=by simp only [iW,he];rfl
  delta Tryz.f60;simp only [↓cw,↓reduceIte,Nat.reduceLT,kk,q]
  refine H _ _ (Ext.new w _) (Nat.le_refl _) (Nat.lt_succ_self _) fun T' x=>⟨T',rfl,x.wf ((Ext.new w _).wf w),fun _ _=>rfl,fun K'=>?_⟩
  exact n69 (r:=⟨0,0⟩) (Nat.le_refl _) (x.old _ _ (Tr.get_put_sameB _ _ _ trivial)) K'
 ·have h1:b.length*1≤35184372088832:=by omega
  have h2:b.length<fZ:=by unfold fZ;omega
  obtain ⟨a1,a2⟩:=hJ (n:=1) (es:=b.map dY) (fun c hc=>by obtain ⟨x,_,rfl⟩:=List.mem_map.1 hc;exact u81 x)
  have q:iW 1 1 .nils v none S=.ok (.sl S.next 0 1 0 b.length,⟨S.next+1,S.heap.put S.next (.row 0 1 (b.map dY))⟩):=by
   obtain ⟨x,t,rfl⟩:=List.exists_cons_of_ne_nil hne
   simp only [List.map_cons,List.length_cons,List.length_map] at h1 h2 a1 a2 he ⊢
   simp only [iW,he,a1,a2,and_self,if_true,h1,h2,dI,List.length_cons,List.length_map]
  delta Tryz.f60;simp only [↓cw,↓reduceIte,Nat.reduceLT,kk,q]
  have x1:=Ext.new w (.row 0 1 (b.map dY))
  have x2:=Ext.new (x1.wf w) (.row 0 3 [[.sl S.next 0 1 0 b.length,.int .i64 0,.int .i64 0]])
  exact H _ _ (x1.trans x2) (Nat.le_succ _) (Nat.lt_succ_self _) (zG w (x1.trans x2) (Nat.le_refl _) (x2.old _ _ (Tr.get_put_sameB _ _ _ trivial)) (by show S.next≠S.next+1;omega) (Tr.get_put_sameB _ _ _ trivial) fun hc hS=>c69 hb (r:=⟨0,0⟩) (Nat.zero_le _) hc hS (by show S.next≠S.next+1;omega))
theorem aTj {b:List UInt8} (hb:b.length<1000000000) {S:St} (w:WF S) {v:V} (he0:aN S v=.ok (b.map dY)) {K:KW}
  (H:∀ a T,Ext S T→S.next≤a→a<T.next→aIe 76 b S T a→K (.ptr a 0 0 0) T):C 72 [v] S K:=by
 refine v72 ?_
 have h1:(0+b.length)*1≤35184372088832:=by omega
 have h2:0+b.length<fZ:=by unfold fZ;omega
 obtain ⟨a1,a2⟩:=hJ (n:=1) (es:=b.map dY) (fun c hc=>by obtain ⟨x,_,rfl⟩:=List.mem_map.1 hc;exact u81 x)
 have q0:dM 1 [V.int IntKind.u8 0] 0 [] none S=.ok (.sl S.next 0 1 0 0,⟨S.next+1,S.heap.put S.next (.row 0 1 [])⟩):=by
  unfold dM
  rw [if_pos (by decide)]
  simp only [List.replicate,qI,dI]
 have q:iW 1 1 (.sl S.next 0 1 0 0) v none ⟨S.next+1,S.heap.put S.next (.row 0 1 [])⟩=.ok (.sl S.next 1 1 0 b.length,⟨S.next+1,(S.heap.put S.next (.row 0 1 [])).put S.next (.row 1 1 (b.map dY))⟩):=by
  have he:aN ⟨S.next+1,S.heap.put S.next (.row 0 1 [])⟩ v=.ok (b.map dY):=(Ext.new w (.row 0 1 [])).elems he0
  simp only [iW,he,a1,a2,and_self,if_true,aB,List.length_nil,List.length_map,Nat.add_zero,Nat.le_refl,h1,h2,true_and,List.drop_nil,List.take_nil,List.nil_append,Nat.zero_add]
  rw [if_pos ⟨by omega,by omega⟩]
 delta Tryz.f72;simp only [↓cw,↓reduceIte,Nat.reduceLT,kk,q0,q]
 have x1:Ext S ⟨S.next+1,(S.heap.put S.next (.row 0 1 [])).put S.next (.row 1 1 (b.map dY))⟩:=(Ext.new w _).put (Nat.le_refl _) (Nat.lt_succ_self _) (Nat.le_refl _) w _
 have x2:=Ext.new (x1.wf w) (.row 0 3 [[.sl S.next 1 1 0 b.length,.int .i64 0,.int .i64 0]])
 exact H _ _ (x1.trans x2) (Nat.le_succ _) (Nat.lt_succ_self _) (zG w (x1.trans x2) (Nat.le_refl _) (x2.old _ _ (Tr.get_put_sameB _ _ _ trivial)) (by show S.next≠S.next+1;omega) (Tr.get_put_sameB _ _ _ trivial) fun hc hS=>c76 hb (r:=⟨0,0⟩) (Nat.zero_le _) hc hS (by show S.next≠S.next+1;omega))
theorem aVp {b:List UInt8} {r:Rd} {X:St} {a:Nat} (hX:X.heap.get a=some (.row 0 3 [r.cells b])) (K:KW):C 70 [.ptr a 0 0 0] X K=K (.int .i64 (cQ b r).err) ⟨X.next,X.heap.put a (.row 0 3 [(cQ b r).cells b])⟩:=r70.eq hX K
theorem vI (lines:Nat→Rd→List Line×Rd) (b:List UInt8) {k:Int} (h1:1≤k) (h8:k≤8) (r:Rd):dP (bW lines b k r).1=(bW lines b k r).1∧(bW lines b k r).1.kind=k:=by
 have:k=1∨k=2∨k=3∨k=4∨k=5∨k=6∨k=7∨k=8:=by omega
 rcases this with rfl | rfl | rfl | rfl | rfl | rfl | rfl | rfl<;>exact ⟨rfl,rfl⟩
theorem lG (b:List UInt8):∀ (n:Nat) (r:Rd),(aT b n r).1.length=n
 | 0,r=>rfl
 | n+1,r=>by simp only [aT,List.length_cons,lG b n]
def zH (x:Cmd×Int):V:=.tup [.agg [if x.2=0 then bT x.1 else .nili],.int .i64 x.2]
theorem sW (lines:Nat→Rd→List Line×Rd) (b:List UInt8):jL lines b=(if 1024<b.length then (bO 0,2) else if (aD b ⟨0,0⟩).2.err≠0 then (bO 0,(aD b ⟨0,0⟩).2.err) else
 if ¬ (1≤(aD b ⟨0,0⟩).1∧(aD b ⟨0,0⟩).1≤8) then (bO 0,17) else
 if (cQ b (bW lines b (aD b ⟨0,0⟩).1 (aD b ⟨0,0⟩).2).2).err≠0 then (bO 0,(cQ b (bW lines b (aD b ⟨0,0⟩).1 (aD b ⟨0,0⟩).2).2).err) else ((bW lines b (aD b ⟨0,0⟩).1 (aD b ⟨0,0⟩).2).1,0)):=rfl
theorem oK {S:St} {c:Cmd} {e:Int} (h:e≠0):iE S (.tup [.agg [.nili],.int .i64 e])=.ok (zH (c,e)):=by
 unfold zH
 simp only [if_neg h]
 exact iO _ rfl
theorem aTk:pX 136=some (.val (dD [])):=by kernel_rfl
theorem vJ:V.nili.one=true:=rfl
set_option maxHeartbeats 2000000 in
theorem aVq (b:List UInt8) (hb:b.length<1000000000):Fv 140 [.imm (b.map dY)] (zH (jL (aT b) b)):=by
 refine aTu (by simp only [cloVs,eJ,bG (enc:=dY) (fun _=>rfl),Bool.and_self]) ?_
 obtain ⟨K,hK⟩:∃ K:KW,K=fun v0 S0=>iE S0 v0=.ok (zH (jL (aT b) b)):=⟨_,rfl⟩
 have H:∀ v S0,iE S0 v=.ok (zH (jL (aT b) b))→K v S0:=fun v S0 h=>by rw [hK];exact h
 rw [←hK]
 clear hK
 rw [sW] at H
 obtain ⟨S1,hS1⟩:∃ S1:St,S1=⟨1,Tr.nil.put 0 (.row 0 1 [[.nili]])⟩:=⟨_,rfl⟩
 have w1:WF S1:=by rw [hS1];exact xA wP (by decide) (by decide)
 have n1:S1.next=1:=by rw [hS1]
 have g1:S1.heap.get 0=some (.row 0 1 [[.nili]]):=by rw [hS1];exact Tr.get_put_sameB _ _ _ trivial
 have s1:=aC g1
 delta Tryz.f140;simp only [↓cw,↓reduceIte,Nat.reduceLT,kk,Nat.zero_add,←hS1,List.length_map]
 clear hS1
 by_cases c0:1024<b.length
 ·rw [if_pos c0] at H
  simp only [↓cw,↓reduceIte,Nat.reduceLT,kk,show ((1024:Int)<(b.length:Int))=True by simp;omega,if_true,s1,vJ,aB]
  exact H _ _ (oK (by decide))
 rw [if_neg c0] at H
 simp only [show ((1024:Int)<(b.length:Int))=False by simp;omega,if_false]
 refine aTi hb w1 rfl fun a T xT ha haT first=>?_
 have pT:T.heap.get 0=some (.row 0 1 [[.nili]]):=xT.old _ _ g1
 obtain ⟨Y,hYn,wY,hY,hC⟩:=first T (Ext.refl T)
 simp only [hC]
 have hp:=aY (b:=b) (r:=⟨0,0⟩) (Nat.zero_le _)
 generalize aD b ⟨0,0⟩=y at H hp ⊢
 obtain ⟨k,r⟩:=y
 simp only at H hp ⊢
 have haY:a<Y.next:=by omega
 have nT:=xT.next
 have h0Y:Y.heap.get 0=some (.row 0 1 [[.nili]]):=by rw [hY 0 (.inl (by omega))];exact pT
 have h0a:0≠a:=by omega
 obtain ⟨X,hX⟩:∃ X:St,X=St.at Y a (r.cells b):=⟨_,rfl⟩
 have wX:WF X:=by rw [hX];exact St.wf_at haY wY
 have raX:X.heap.get a=some (.row 0 3 [r.cells b]):=by rw [hX];exact St.at_get _ _ _
 have r0X:X.heap.get 0=some (.row 0 1 [[.nili]]):=by rw [hX];exact (Tr.get_put_neB _ _ _ _ trivial h0a).trans h0Y
 have naX:a<X.next:=wX _ _ raX
 rw [←hX]
 clear hX hC hY first
 obtain ⟨X2,hX2⟩:∃ X2:St,X2=⟨X.next+1,(X.heap.put X.next (.row 0 15 [[.int .i64 0,.str [],.int .i64 0,.str [],.int .i64 0,.int .i64 0,.int .i64 0,.int .i64 0,.int .i64 0,.int .i64 0,.int .i64 0,.nils,.str [],.int .i64 0,.int .i64 0]])).put X.next (.row 0 15 [[.int .i64 k,.str [],.int .i64 0,.str [],.int .i64 0,.int .i64 0,.int .i64 0,.int .i64 0,.int .i64 0,.int .i64 0,.int .i64 0,.nils,.str [],.int .i64 0,.int .i64 0]])⟩:=⟨_,rfl⟩
 have w2:WF X2:=by rw [hX2];exact xA (n:=X.next+1) (xA (n:=X.next) wX (by omega) (by omega)) (by omega) (Nat.le_refl _)
 have ra2:X2.heap.get a=some (.row 0 3 [r.cells b]):=by rw [hX2];exact (Tr.get_put_neB _ _ _ _ trivial (by omega)).trans ((Tr.get_put_neB _ _ _ _ trivial (by omega)).trans raX)
 have r02:X2.heap.get 0=some (.row 0 1 [[.nili]]):=by rw [hX2];exact (Tr.get_put_neB _ _ _ _ trivial (by omega)).trans ((Tr.get_put_neB _ _ _ _ trivial (by omega)).trans r0X)
 have rq2:X2.heap.get X.next=some (.row 0 15 [zF k]):=by rw [hX2];exact Tr.get_put_sameB _ _ _ trivial
 simp only [↓cw,↓reduceIte,Nat.reduceLT,Nat.reduceAdd,kk,←hX2]
 clear hX2
 refine Eq.mpr ((aSm b r).eq_same ra2 _) ?_
 have s2:=aC r02
 by_cases he:r.err=0
 rotate_left
 ·rw [if_pos he] at H
  simp only [↓cw,↓reduceIte,Nat.reduceLT,kk,he,not_false_eq_true,if_true,s2,vJ,aB]
  exact H _ _ (oK he)
 rw [if_neg (not_not_intro he)] at H
 have q2:=aC rq2
 simp only [zF,Cmd.cells,bO] at q2
 simp only [↓cw,↓reduceIte,Nat.reduceLT,kk,he,not_true_eq_false,if_false,q2]
 by_cases k1:k<1
 ·rw [if_pos (by omega)] at H
  simp only [↓cw,↓reduceIte,Nat.reduceLT,kk,k1,if_true,s2,vJ,aB]
  exact H _ _ (oK (by decide))
 by_cases k8:8<k
 ·rw [if_pos (by omega)] at H
  simp only [↓cw,↓reduceIte,Nat.reduceLT,kk,k1,k8,if_true,if_false,s2,vJ,aB]
  exact H _ _ (oK (by decide))
 rw [if_neg (by omega)] at H
 simp only [↓cw,↓reduceIte,Nat.reduceLT,kk,k1,k8,if_false]
 refine aVo hb hp k (RB.refl w2 ra2 rq2 (by omega)) fun X3 v k3 sl=>?_
 have r03:X3.heap.get 0=some (.row 0 1 [[.nili]]):=(k3.old 0 (w2 _ _ r02) h0a (by omega)).trans r02
 obtain ⟨fl,fk⟩:=vI (aT b) b (show 1≤k by omega) (show k≤8 by omega) r
 have hlen:(bW (aT b) b k r).1.lines.length<1000000:=by
  have hc:=(lO (b:=b) (most:=12) (r:=(aW b (aE b 64 r).2).2) (by decide) kB).2
  unfold bW
  repeat' split
  all_goals first | (show (0:Nat)<1000000;decide) | skip
  show (aT b _ _).1.length<1000000
  rw [lG]
  omega
 have H:∀ v S0,iE S0 v=.ok (zH (if (cQ b (dE b k r).2).err≠0 then (bO 0,(cQ b (dE b k r).2).err) else ((dE b k r).1,0)))→K v S0:=H
 have fl:dP (dE b k r).1=(dE b k r).1:=fl
 have fk:(dE b k r).1.kind=k:=fk
 have hlen:(dE b k r).1.lines.length<1000000:=hlen
 generalize dE b k r=z at H k3 sl fl fk hlen
 obtain ⟨c,r3⟩:=z
 simp only at H k3 sl fl fk hlen
 simp only [aVp k3.ra]
 obtain ⟨X4,hX4⟩:∃ X4:St,X4=⟨X3.next,X3.heap.put a (.row 0 3 [(cQ b r3).cells b])⟩:=⟨_,rfl⟩
 have k4:RB X2 b a X.next 15 (cQ b r3) (c.cells v) X4:=by rw [hX4];exact k3.rd _
 have r04:X4.heap.get 0=some (.row 0 1 [[.nili]]):=by rw [hX4];exact (Tr.get_put_neB _ _ _ _ trivial h0a).trans r03
 have s4:=aC r04
 have q4:=aC k4.rq
 rw [←hX4]
 by_cases h5:(cQ b r3).err=0
 rotate_left
 ·rw [if_pos h5] at H
  simp only [↓cw,↓reduceIte,Nat.reduceLT,kk,h5,not_false_eq_true,if_true,s4,vJ,aB]
  exact H _ _ (oK h5)
 rw [if_neg (not_not_intro h5)] at H
 simp only [Cmd.cells] at q4
 simp only [↓cw,↓reduceIte,Nat.reduceLT,kk,h5,not_true_eq_false,if_false,q4]
 have o4:Own E0 X4 4 v (c.lines.map Line.enc):=by
  have:=Own.wput sl k3.ra (by decide) (Nat.le_refl _) (.row 0 3 [(cQ b r3).cells b])
  rw [hX4];exact this
 have vf:cC kD (lK (iS X4 3) X4) v=.ok (.imm (c.lines.map Line.enc)):=o4.frz (bG (fun _=>rfl) _)
 have vp:pF v=[]:=o4.ptrs
 obtain ⟨h',hk',h136⟩:=(Fn.back fun S K=>aV9 c hlen S K).cutE aTk c.clo (args:=[.agg [.int .i64 c.kind,.str c.series,.int .i64 c.limit,.str c.row.cat,.int .i64 c.row.day.y,.int .i64 c.row.day.m,.int .i64 c.row.day.d,.int .i64 c.row.bp,.int .i64 c.day.y,.int .i64 c.day.m,.int .i64 c.day.d,v,.str c.of.ser,.int .i64 c.of.num,.int .i64 c.session]]) (S:=X4) (by simp only [frzVs,cC,vf];rfl) (by simp only [ptrsVs,pF,vp];rfl)
 have h0:h'.get 0=some (.row 0 1 [[.nili]]):=by
  rw [hk' 0 ?_]
  ·exact r04
  ·intro hm
   simp only [slsVs,eL,List.nil_append,List.append_nil] at hm
   exact Own.wide o4 r04 (by decide) (o4.blks (bG (fun _=>rfl) _) 2 hm)
 have s5:=aC (S:=⟨X4.next,h'⟩) h0
 obtain ⟨m1,m2⟩:=oC c
 rw [if_pos ⟨by omega,by omega⟩] at h136
 simp only [h136]
 simp only [↓cw,↓reduceIte,Nat.reduceLT,kk,s5,m1,m2,aB]
 refine H _ _ ?_
 unfold zH
 rw [if_pos rfl]
 exact iO _ (by simp only [cloVs,eJ,oB,Bool.and_self])
def qH:Call:=⟨0,0,bO 0⟩
def aAu (lines:List UInt8→Nat→Rd→List Line×Rd) (b:List UInt8):Call×Int:=
 if (aD b (aD b ⟨0,0⟩).2).2.err≠0 then (qH,(aD b (aD b ⟨0,0⟩).2).2.err) else
 if (jL (lines (b.drop (aD b (aD b ⟨0,0⟩).2).2.pos)) (b.drop (aD b (aD b ⟨0,0⟩).2).2.pos)).2≠0 then (qH,(jL (lines (b.drop (aD b (aD b ⟨0,0⟩).2).2.pos)) (b.drop (aD b (aD b ⟨0,0⟩).2).2.pos)).2) else
 (⟨(aD b ⟨0,0⟩).1,(aD b (aD b ⟨0,0⟩).2).1,(jL (lines (b.drop (aD b (aD b ⟨0,0⟩).2).2.pos)) (b.drop (aD b (aD b ⟨0,0⟩).2).2.pos)).1⟩,0)
theorem aJw (b:List UInt8):aAu cH b=aAu aT b:=by unfold aAu;simp only [aJu]
def oL (b:List UInt8):Call×Int:=aAu aT b
def oM (x:Call×Int):V:=.tup [.agg x.1.enc,.int .i64 x.2]
theorem cvS {l:List UInt8} (h:l.length<1000000000) (S:St):bP prog 9 22 (.str l) none S=.ok (.sl S.next 0 1 0 l.length,⟨S.next+1,S.heap.put S.next (.row 0 1 (l.map dY))⟩):=by
 have e1:prog.underlying 9=some .string:=by kernel_rfl
 have e2:prog.underlying 22=some (.slice 5):=by kernel_rfl
 have e3:prog.underlying 5=some (.int .u8):=by kernel_rfl
 have e4:sz prog 5=1:=by kernel_rfl
 have c1:Nat.blt l.length fZ=true:=by rw [Nat.blt_eq];unfold fZ;omega
 have c2:Nat.beq 1 1=true:=rfl
 simp only [bP,e1,e2,e3,e4,c1,c2,Bool.and_self,cond_true,dI]
 rfl
theorem slS {l:List UInt8} {p:Nat} (h:p≤l.length):eK prog 9 (.str l) (some (.int .i64 (p:Int))) none=.ok (.str (l.drop p)):=by
 have e1:prog.underlying 9=some .string:=by kernel_rfl
 have h1:decide ((0:Int)≤(p:Int))=true:=by simp
 have h2:decide ((p:Int)≤(l.length:Int))=true:=by simp;exact h
 have hb:eA l.length (some (.int .i64 (p:Int))) none=.ok (p,l.length):=by
  simp [eA,h]
 simp only [eK,e1,hb,List.take_length]
theorem aTl:pX 140=some (.val (dD [])):=by kernel_rfl
theorem zJ {b:List UInt8} {k:Int} {r:Rd}:(bW (aT b) b k r).1.lines.length<1000000:=by
 have hc:=(lO (b:=b) (most:=12) (r:=(aW b (aE b 64 r).2).2) (by decide) kB).2
 unfold bW
 repeat' split
 all_goals first | (show (0:Nat)<1000000;decide) | skip
 show (aT b _ _).1.length<1000000
 rw [lG]
 omega
theorem aD5 {b:List UInt8} (h:(jL (aT b) b).2=0):dP (jL (aT b) b).1=(jL (aT b) b).1∧1≤(jL (aT b) b).1.kind∧(jL (aT b) b).1.lines.length<1000000:=by
 rw [sW] at h ⊢
 split at h
 ·exact absurd h (by decide)
 rename_i c0
 split at h
 ·rename_i c1;exact absurd h c1
 rename_i c1
 split at h
 ·exact absurd h (by decide)
 rename_i c2
 split at h
 ·rename_i c3;exact absurd h c3
 rename_i c3
 rw [if_neg c0,if_neg c1,if_neg c2,if_neg c3]
 have c2:=Classical.not_not.1 c2
 obtain ⟨q1,q2⟩:=vI (aT b) b c2.1 c2.2 (aD b ⟨0,0⟩).2
 exact ⟨q1,by rw [q2];exact c2.1,zJ⟩
set_option maxHeartbeats 2000000 in
theorem g55 (b:List UInt8) (hb:b.length<1000000000) (S:St) (K:KW):C 55 [.str b] S K=K (oM (oL b)) S:=by
 refine (v55 rfl ?_).eq S K
 obtain ⟨K,hK⟩:∃ K:KW,K=fun v0 S0=>iE S0 v0=.ok (oM (oL b)):=⟨_,rfl⟩
 have H:∀ v S0,iE S0 v=.ok (oM (oL b))→K v S0:=fun v S0 h=>by rw [hK];exact h
 rw [←hK]
 clear hK
 unfold oL aAu at H
 obtain ⟨S1,hS1⟩:∃ S1:St,S1=⟨2,(Tr.nil.put 0 (.row 0 17 [[.int .i64 0,.int .i64 0,.int .i64 0,.str [],.int .i64 0,.str [],.int .i64 0,.int .i64 0,.int .i64 0,.int .i64 0,.int .i64 0,.int .i64 0,.int .i64 0,.nils,.str [],.int .i64 0,.int .i64 0]])).put 1 (.row 0 1 (b.map dY))⟩:=⟨_,rfl⟩
 have hcv:=fun S=>cvS hb S
 delta Tryz.f55;simp only [↓cw,↓reduceIte,Nat.reduceLT,Nat.reduceAdd,kk,Nat.zero_add,hcv,←hS1]
 have w1:WF S1:=by rw [hS1];exact xA (n:=1) (xA (n:=0) wP (by decide) (by decide)) (by decide) (by decide)
 have n1:S1.next=2:=by rw [hS1]
 have g0:S1.heap.get 0=some (.row 0 17 [[.int .i64 0,.int .i64 0,.int .i64 0,.str [],.int .i64 0,.str [],.int .i64 0,.int .i64 0,.int .i64 0,.int .i64 0,.int .i64 0,.int .i64 0,.int .i64 0,.nils,.str [],.int .i64 0,.int .i64 0]]):=by rw [hS1];exact (Tr.get_put_neB _ _ _ _ trivial (by decide)).trans (Tr.get_put_sameB _ _ _ trivial)
 have g1:S1.heap.get 1=some (.row 0 1 (b.map dY)):=by rw [hS1];exact Tr.get_put_sameB _ _ _ trivial
 clear hS1
 have hel:aN S1 (.sl 1 0 1 0 b.length)=.ok (b.map dY):=by
  have:=sU g1 (i:=b.length) (by rw [List.length_map];omega)
  rw [this,List.take_of_length_le (by rw [List.length_map];omega)]
 refine aTi hb w1 hel fun a T xT ha haT first=>?_
 obtain ⟨q,hq⟩:∃ q,q=T.next:=⟨_,rfl⟩
 obtain ⟨T',hT'⟩:∃ T':St,T'=⟨T.next+1,T.heap.put T.next (.row 0 17 [[.int .i64 0,.int .i64 0,.int .i64 0,.str [],.int .i64 0,.str [],.int .i64 0,.int .i64 0,.int .i64 0,.int .i64 0,.int .i64 0,.int .i64 0,.int .i64 0,.nils,.str [],.int .i64 0,.int .i64 0]])⟩:=⟨_,rfl⟩
 have xT':Ext T T':=by rw [hT'];exact Ext.new (xT.wf w1) _
 obtain ⟨Y,hYn,wY,hY,hC⟩:=first T' xT'
 have nT:T'.next=T.next+1:=by rw [hT']
 have nx:=xT.next
 have qY:Y.heap.get q=some (.row 0 17 [[.int .i64 0,.int .i64 0,.int .i64 0,.str [],.int .i64 0,.str [],.int .i64 0,.int .i64 0,.int .i64 0,.int .i64 0,.int .i64 0,.int .i64 0,.int .i64 0,.nils,.str [],.int .i64 0,.int .i64 0]]):=by rw [hq,hY T.next (.inr (Nat.le_refl _)),hT'];exact Tr.get_put_sameB _ _ _ trivial
 have pY:Y.heap.get 0=some (.row 0 17 [[.int .i64 0,.int .i64 0,.int .i64 0,.str [],.int .i64 0,.str [],.int .i64 0,.int .i64 0,.int .i64 0,.int .i64 0,.int .i64 0,.int .i64 0,.int .i64 0,.nils,.str [],.int .i64 0,.int .i64 0]]):=by rw [hY 0 (.inl (by omega))];exact xT'.old _ _ (xT.old _ _ g0)
 rw [←hT',←hq,hC]
 have haq:a≠q:=by omega
 have h0a:0≠a:=by omega
 have h0q:0≠q:=by omega
 have haY:a<Y.next:=by omega
 have hp0:=aY (b:=b) (r:=⟨0,0⟩) (Nat.zero_le _)
 generalize aD b ⟨0,0⟩=y0 at H hp0 ⊢
 obtain ⟨s,r1⟩:=y0
 simp only at H hp0 ⊢
 obtain ⟨X1,hX1⟩:∃ X1:St,X1=St.at Y a (r1.cells b):=⟨_,rfl⟩
 have k1:RB X1 b a q 17 r1 [.int .i64 0,.int .i64 0,.int .i64 0,.str [],.int .i64 0,.str [],.int .i64 0,.int .i64 0,.int .i64 0,.int .i64 0,.int .i64 0,.int .i64 0,.int .i64 0,.nils,.str [],.int .i64 0,.int .i64 0] X1:=by rw [hX1];exact RB.refl (St.wf_at haY wY) (St.at_get _ _ _) ((Tr.get_put_neB _ _ _ _ trivial haq.symm).trans qY) haq
 have p1:X1.heap.get 0=some (.row 0 17 [[.int .i64 0,.int .i64 0,.int .i64 0,.str [],.int .i64 0,.str [],.int .i64 0,.int .i64 0,.int .i64 0,.int .i64 0,.int .i64 0,.int .i64 0,.int .i64 0,.nils,.str [],.int .i64 0,.int .i64 0]]):=by rw [hX1];exact (Tr.get_put_neB _ _ _ _ trivial h0a).trans pY
 have hX0:0<X1.next:=k1.wf _ _ p1
 rw [←hX1]
 clear hX1 hC hY qY pY first hT' xT'
 have s1:=aC k1.rq
 obtain ⟨X2,hX2⟩:∃ X2:St,X2=⟨X1.next,X1.heap.put q (.row 0 17 [[.int .i64 s,.int .i64 0,.int .i64 0,.str [],.int .i64 0,.str [],.int .i64 0,.int .i64 0,.int .i64 0,.int .i64 0,.int .i64 0,.int .i64 0,.int .i64 0,.nils,.str [],.int .i64 0,.int .i64 0]])⟩:=⟨_,rfl⟩
 have k2:RB X1 b a q 17 r1 [.int .i64 s,.int .i64 0,.int .i64 0,.str [],.int .i64 0,.str [],.int .i64 0,.int .i64 0,.int .i64 0,.int .i64 0,.int .i64 0,.int .i64 0,.int .i64 0,.nils,.str [],.int .i64 0,.int .i64 0] X2:=by rw [hX2];exact k1.qset _
 simp only [↓cw,↓reduceIte,Nat.reduceLT,Nat.reduceAdd,kk,s1,←hX2]
 clear hX2
 simp only [aOc hb hp0 k2.ra]
 have hp1:=aY hp0
 generalize aD b r1=y1 at H hp1 ⊢
 obtain ⟨u,r2⟩:=y1
 simp only at H hp1 ⊢
 obtain ⟨X4,hX4⟩:∃ X4:St,X4=⟨X2.next,(X2.heap.put a (.row 0 3 [r2.cells b])).put q (.row 0 17 [[.int .i64 s,.int .i64 u,.int .i64 0,.str [],.int .i64 0,.str [],.int .i64 0,.int .i64 0,.int .i64 0,.int .i64 0,.int .i64 0,.int .i64 0,.int .i64 0,.nils,.str [],.int .i64 0,.int .i64 0]])⟩:=⟨_,rfl⟩
 have k4:RB X1 b a q 17 r2 [.int .i64 s,.int .i64 u,.int .i64 0,.str [],.int .i64 0,.str [],.int .i64 0,.int .i64 0,.int .i64 0,.int .i64 0,.int .i64 0,.int .i64 0,.int .i64 0,.nils,.str [],.int .i64 0,.int .i64 0] X4:=by rw [hX4];exact (k2.rd r2).qset _
 have s3:=aC (S:=⟨X2.next,X2.heap.put a (.row 0 3 [r2.cells b])⟩) (k2.rd r2).rq
 simp only [↓cw,↓reduceIte,Nat.reduceLT,Nat.reduceAdd,kk,s3,←hX4]
 clear hX4
 refine Eq.mpr ((aSm b r2).eq_same k4.ra _) ?_
 have p4:X4.heap.get 0=some (.row 0 17 [[.int .i64 0,.int .i64 0,.int .i64 0,.str [],.int .i64 0,.str [],.int .i64 0,.int .i64 0,.int .i64 0,.int .i64 0,.int .i64 0,.int .i64 0,.int .i64 0,.nils,.str [],.int .i64 0,.int .i64 0]]):=(k4.old 0 hX0 h0a h0q).trans p1
 have s4:=aC p4
 by_cases he:r2.err=0
 rotate_left
 ·rw [if_pos he] at H
  simp only [↓cw,↓reduceIte,Nat.reduceLT,Nat.reduceAdd,kk,he,not_false_eq_true,if_true,s4,aB]
  exact H _ _ (by simp only [oo,oM,qH,bO,Call.enc,List.map_nil])
 rw [if_neg (not_not_intro he)] at H
 simp only [↓cw,↓reduceIte,Nat.reduceLT,Nat.reduceAdd,kk,he,not_true_eq_false,if_false]
 refine Eq.mpr ((aVc b r2).eq_same k4.ra _) ?_
 have hbd:(b.drop r2.pos).length<1000000000:=by rw [List.length_drop];omega
 have hcv2:=fun S=>cvS hbd S
 simp only [↓cw,↓reduceIte,Nat.reduceLT,Nat.reduceAdd,kk,slS hp1,hcv2]
 obtain ⟨bd,hbdd⟩:∃ bd,bd=b.drop r2.pos:=⟨_,rfl⟩
 rw [←hbdd] at H hbd ⊢
 obtain ⟨X5,hX5⟩:∃ X5:St,X5=⟨X4.next+1,X4.heap.put X4.next (.row 0 1 (bd.map dY))⟩:=⟨_,rfl⟩
 have x5:Ext X4 X5:=by rw [hX5];exact Ext.new k4.wf _
 have w5:=x5.wf k4.wf
 have g5:X5.heap.get X4.next=some (.row 0 1 (bd.map dY)):=by rw [hX5];exact Tr.get_put_sameB _ _ _ trivial
 have he5:aN X5 (.sl X4.next 0 1 0 bd.length)=.ok (bd.map dY):=by
  have:=sU g5 (i:=bd.length) (by rw [List.length_map];omega)
  rw [this,List.take_of_length_le (by rw [List.length_map];omega)]
 have f1:cC kD (lK (iS X5 3) X5) (.sl X4.next 0 1 0 bd.length)=.ok (.imm (bd.map dY)):=by
  simp only [cC,lK,he5,(cZ (S:=X5) (n:=2) (bG (enc:=dY) (fun _=>rfl) bd)).1]
 have f2:slsVs (fV (eX X5 3) X5) [.sl X4.next 0 1 0 bd.length]=[X4.next]:=by
  simp only [slsVs,eL,fV,he5,(cZ (S:=X5) (n:=2) (bG (enc:=dY) (fun _=>rfl) bd)).2];rfl
 obtain ⟨h',hk',h140⟩:=(aVq bd hbd).cutE aTl (by simp only [cloVs,eJ,bG (enc:=dY) (fun _=>rfl),Bool.and_self]) (args:=[.sl X4.next 0 1 0 bd.length]) (S:=X5) (by simp only [frzVs,f1]) rfl
 have hk':∀ z,z≠X4.next→h'.get z=X5.heap.get z:=fun z hz=>hk' z (by rw [f2];simpa using hz)
 have l0:0<X4.next:=Nat.lt_of_lt_of_le hX0 k4.nx
 have lq:q<X4.next:=k4.wf _ _ k4.rq
 have p6:h'.get 0=some (.row 0 17 [[.int .i64 0,.int .i64 0,.int .i64 0,.str [],.int .i64 0,.str [],.int .i64 0,.int .i64 0,.int .i64 0,.int .i64 0,.int .i64 0,.int .i64 0,.int .i64 0,.nils,.str [],.int .i64 0,.int .i64 0]]):=(hk' 0 (by omega)).trans (x5.old _ _ p4)
 have q6:h'.get q=some (.row 0 17 [[.int .i64 s,.int .i64 u,.int .i64 0,.str [],.int .i64 0,.str [],.int .i64 0,.int .i64 0,.int .i64 0,.int .i64 0,.int .i64 0,.int .i64 0,.int .i64 0,.nils,.str [],.int .i64 0,.int .i64 0]]):=(hk' q (by omega)).trans (x5.old _ _ k4.rq)
 have n5:X5.next=X4.next+1:=by rw [hX5]
 simp only [←hX5,h140]
 clear hX5 h140 hk' f1 f2 he5 g5
 have hok:=@aD5 bd
 generalize jL (aT bd) bd=gx at H hok ⊢
 obtain ⟨c,e⟩:=gx
 simp only at H hok
 simp only [zH]
 by_cases ee:e=0
 rotate_left
 ·rw [if_pos ee] at H
  obtain ⟨X6,hX6⟩:∃ X6:St,X6=⟨X5.next+1,(h'.put X5.next (.row 0 1 [[.nili]])).put X5.next (.row 0 1 [[.nili]])⟩:=⟨_,rfl⟩
  have p7:X6.heap.get 0=some (.row 0 17 [[.int .i64 0,.int .i64 0,.int .i64 0,.str [],.int .i64 0,.str [],.int .i64 0,.int .i64 0,.int .i64 0,.int .i64 0,.int .i64 0,.int .i64 0,.int .i64 0,.nils,.str [],.int .i64 0,.int .i64 0]]):=by rw [hX6];exact (Tr.get_put_neB _ _ _ _ trivial (by omega)).trans ((Tr.get_put_neB _ _ _ _ trivial (by omega)).trans p6)
  have s7:=aC p7
  simp only [if_neg ee]
  simp only [↓cw,↓reduceIte,Nat.reduceLT,Nat.reduceAdd,kk,vJ,ee,not_false_eq_true,if_true,←hX6,s7,aB]
  exact H _ _ (by simp only [oo,oM,qH,bO,Call.enc,List.map_nil])
 rw [if_neg (not_not_intro ee)] at H
 obtain ⟨fl,fk,hlen⟩:=hok ee
 obtain ⟨m1,m2⟩:=oC c
 have h142:=fun S K=>aV8 c hlen S K
 rw [fl] at h142
 simp only [Cmd.enc,show (0:Int)<c.kind by omega,decide_true] at h142
 simp only [if_pos ee]
 obtain ⟨X6,hX6⟩:∃ X6:St,X6=⟨X5.next+1,(h'.put X5.next (.row 0 1 [[.nili]])).put X5.next (.row 0 1 [[bT c]])⟩:=⟨_,rfl⟩
 have p7:X6.heap.get 0=some (.row 0 17 [[.int .i64 0,.int .i64 0,.int .i64 0,.str [],.int .i64 0,.str [],.int .i64 0,.int .i64 0,.int .i64 0,.int .i64 0,.int .i64 0,.int .i64 0,.int .i64 0,.nils,.str [],.int .i64 0,.int .i64 0]]):=by rw [hX6];exact (Tr.get_put_neB _ _ _ _ trivial (by omega)).trans ((Tr.get_put_neB _ _ _ _ trivial (by omega)).trans p6)
 have q7:X6.heap.get q=some (.row 0 17 [[.int .i64 s,.int .i64 u,.int .i64 0,.str [],.int .i64 0,.str [],.int .i64 0,.int .i64 0,.int .i64 0,.int .i64 0,.int .i64 0,.int .i64 0,.int .i64 0,.nils,.str [],.int .i64 0,.int .i64 0]]):=by rw [hX6];exact (Tr.get_put_neB _ _ _ _ trivial (by omega)).trans ((Tr.get_put_neB _ _ _ _ trivial (by omega)).trans q6)
 have c7:X6.heap.get X5.next=some (.row 0 1 [[bT c]]):=by rw [hX6];exact Tr.get_put_sameB _ _ _ trivial
 have n6:X6.next=X5.next+1:=by rw [hX6]
 have t7:=aC c7
 obtain ⟨X7,hX7⟩:∃ X7:St,X7=⟨X6.next+1,(X6.heap.put X6.next (.row 0 15 [[.int .i64 0,.str [],.int .i64 0,.str [],.int .i64 0,.int .i64 0,.int .i64 0,.int .i64 0,.int .i64 0,.int .i64 0,.int .i64 0,.nils,.str [],.int .i64 0,.int .i64 0]])).put X6.next (.row 0 15 [[.int .i64 c.kind,.str c.series,.int .i64 c.limit,.str c.row.cat,.int .i64 c.row.day.y,.int .i64 c.row.day.m,.int .i64 c.row.day.d,.int .i64 c.row.bp,.int .i64 c.day.y,.int .i64 c.day.m,.int .i64 c.day.d,.imm (c.lines.map Line.enc),.str c.of.ser,.int .i64 c.of.num,.int .i64 c.session]])⟩:=⟨_,rfl⟩
 have p8:X7.heap.get 0=some (.row 0 17 [[.int .i64 0,.int .i64 0,.int .i64 0,.str [],.int .i64 0,.str [],.int .i64 0,.int .i64 0,.int .i64 0,.int .i64 0,.int .i64 0,.int .i64 0,.int .i64 0,.nils,.str [],.int .i64 0,.int .i64 0]]):=by rw [hX7];exact (Tr.get_put_neB _ _ _ _ trivial (by omega)).trans ((Tr.get_put_neB _ _ _ _ trivial (by omega)).trans p7)
 have q8:X7.heap.get q=some (.row 0 17 [[.int .i64 s,.int .i64 u,.int .i64 0,.str [],.int .i64 0,.str [],.int .i64 0,.int .i64 0,.int .i64 0,.int .i64 0,.int .i64 0,.int .i64 0,.int .i64 0,.nils,.str [],.int .i64 0,.int .i64 0]]):=by rw [hX7];exact (Tr.get_put_neB _ _ _ _ trivial (by omega)).trans ((Tr.get_put_neB _ _ _ _ trivial (by omega)).trans q7)
 have c8:X7.heap.get X6.next=some (.row 0 15 [[.int .i64 c.kind,.str c.series,.int .i64 c.limit,.str c.row.cat,.int .i64 c.row.day.y,.int .i64 c.row.day.m,.int .i64 c.row.day.d,.int .i64 c.row.bp,.int .i64 c.day.y,.int .i64 c.day.m,.int .i64 c.day.d,.imm (c.lines.map Line.enc),.str c.of.ser,.int .i64 c.of.num,.int .i64 c.session]]):=by rw [hX7];exact Tr.get_put_sameB _ _ _ trivial
 have t8:=aC c8
 have u8:=aC q8
 obtain ⟨X8,hX8⟩:∃ X8:St,X8=⟨X7.next,X7.heap.put q (.row 0 17 [[.int .i64 s,.int .i64 u,.int .i64 c.kind,.str c.series,.int .i64 c.limit,.str c.row.cat,.int .i64 c.row.day.y,.int .i64 c.row.day.m,.int .i64 c.row.day.d,.int .i64 c.row.bp,.int .i64 c.day.y,.int .i64 c.day.m,.int .i64 c.day.d,.imm (c.lines.map Line.enc),.str c.of.ser,.int .i64 c.of.num,.int .i64 c.session]])⟩:=⟨_,rfl⟩
 have p9:X8.heap.get 0=some (.row 0 17 [[.int .i64 0,.int .i64 0,.int .i64 0,.str [],.int .i64 0,.str [],.int .i64 0,.int .i64 0,.int .i64 0,.int .i64 0,.int .i64 0,.int .i64 0,.int .i64 0,.nils,.str [],.int .i64 0,.int .i64 0]]):=by rw [hX8];exact (Tr.get_put_neB _ _ _ _ trivial h0q).trans p8
 have q9:X8.heap.get q=some (.row 0 17 [[.int .i64 s,.int .i64 u,.int .i64 c.kind,.str c.series,.int .i64 c.limit,.str c.row.cat,.int .i64 c.row.day.y,.int .i64 c.row.day.m,.int .i64 c.row.day.d,.int .i64 c.row.bp,.int .i64 c.day.y,.int .i64 c.day.m,.int .i64 c.day.d,.imm (c.lines.map Line.enc),.str c.of.ser,.int .i64 c.of.num,.int .i64 c.session]]):=by rw [hX8];exact Tr.get_put_sameB _ _ _ trivial
 have s9:=aC p9
 have u9:=aC q9
 simp only [↓cw,↓reduceIte,Nat.reduceLT,Nat.reduceAdd,kk,m1,m2,ee,not_true_eq_false,if_false,←hX6,t7,h142,←hX7,t8,u8,←hX8,s9,u9,aB]
 exact H _ _ (by simp only [oo,oM,Call.enc])
abbrev aAv:Nat→Option (List bB):=dD [(6,[(0,[]),(1,[]),(2,[]),(3,[]),(4,[]),(5,[4]),(6,[])])]
abbrev aAw:Nat→List Nat:=dN [(24,[7])]
def dZ (C:bJ) (K:KW) (p2 p4 p5:V) (S:St):Prop:=
C 78 [p4] S fun t22 S23=>
(qG .neq 3 t22 (jI 0) fun t24=>
cV t24 (qD 59 [] fun t25=>
qS 59 p2 t25 S23 fun S26=>
qL 59 p2 S26 fun t27=>
K (.tup [t27,t22]) S26) (qL 59 p5 S23 fun t28=>
qS 59 p2 t28 S23 fun S29=>
qL 59 p2 S29 fun t30=>
K (.tup [t30,(jI 0)]) S29))
def aD6 (C:bJ) (K:KW) (p2 p4 p5 p6:V) (vs:List V) (S:St) (again0:List V→St→Prop):Prop:=
wUn vs fun x7 vs=>
qB .lss 3 x7 p6 fun t73=>
cV t73 (sI p4 (qE 142 p4 2 3 S fun t75=>
(qG .eql 3 t75 (jI 0) fun t76=>
cV t76 (C 74 [p4,(jI 64)] S fun t77 S78=>
qD 201 [(0,t77)] fun t79=>
qN S78 4 [.str [],.str [],jI 0,jI 0] fun r80=>
qS 201 (pt r80) t79 r80.2 fun S81=>
C 74 [p4,(jI 64)] S81 fun t82 S83=>
qF 201 (pt r80) 1 fun t84=>
qS 9 t84 t82 S83 fun S85=>
C 76 [p4] S85 fun t86 S87=>
qF 201 (pt r80) 2 fun t88=>
qS 3 t88 t86 S87 fun S89=>
C 76 [p4] S89 fun t90 S91=>
qF 201 (pt r80) 3 fun t92=>
qS 3 t92 t90 S91 fun S93=>
qE 59 p5 5 55 S93 fun t95=>
qL 201 (pt r80) S93 fun t96=>
qQ 55 1 [(0,t96)] none S93 fun r97=>
qP 55 t95 r97.1 none r97.2 fun r98=>
qF 59 p5 5 fun t99=>
qS 55 t99 r98.1 r98.2 fun S100=>
qB .add 3 x7 (jI 1) fun t101=>
again0 [t101] S100) (dZ C K p2 p4 p5 S)))) (dZ C K p2 p4 p5 S)
def eV (C:bJ) (K:KW) (p2 p4 p5 p30 p40:V) (S:St):Prop:=
cV p40 (C 74 [p4,(jI 64)] S fun t42 S43=>
qF 59 p5 1 fun t44=>
qS 9 t44 t42 S43 fun S45=>
dZ C K p2 p4 p5 S45) ((qG .eql 3 p30 (jI 3) fun t46=>
cV t46 (C 74 [p4,(jI 64)] S fun t47 S48=>
qF 59 p5 3 fun t49=>
qF 54 t49 0 fun t50=>
qS 9 t50 t47 S48 fun S51=>
C 75 [p4] S51 fun t52 S53=>
qF 59 p5 3 fun t54=>
qF 54 t54 1 fun t55=>
qS 52 t55 t52 S53 fun S56=>
C 76 [p4] S56 fun t57 S58=>
qF 59 p5 3 fun t59=>
qF 54 t59 2 fun t60=>
qS 3 t60 t57 S58 fun S61=>
dZ C K p2 p4 p5 S61) ((qG .eql 3 p30 (jI 4) fun t62=>
cV t62 (C 74 [p4,(jI 64)] S fun t63 S64=>
qF 59 p5 1 fun t65=>
qS 9 t65 t63 S64 fun S66=>
C 75 [p4] S66 fun t67 S68=>
qF 59 p5 4 fun t69=>
qS 52 t69 t67 S68 fun S70=>
C 73 [p4,(jI 12)] S70 fun t71 S72=>
pO [(jI 0)] S72 (aD6 C K p2 p4 p5 t71)) ((qG .eql 3 p30 (jI 5) fun t102=>
cV t102 (C 74 [p4,(jI 64)] S fun t103 S104=>
qF 59 p5 1 fun t105=>
qS 9 t105 t103 S104 fun S106=>
C 75 [p4] S106 fun t107 S108=>
qF 59 p5 4 fun t109=>
qS 52 t109 t107 S108 fun S110=>
C 74 [p4,(jI 64)] S110 fun t111 S112=>
qF 59 p5 6 fun t113=>
qF 57 t113 0 fun t114=>
qS 9 t114 t111 S112 fun S115=>
C 76 [p4] S115 fun t116 S117=>
qF 59 p5 6 fun t118=>
qF 57 t118 1 fun t119=>
qS 3 t119 t116 S117 fun S120=>
dZ C K p2 p4 p5 S120) ((qG .eql 3 p30 (jI 6) fun t121=>
cV t121 (dZ C K p2 p4 p5 S) ((qG .eql 3 p30 (jI 7) fun t122=>
cV t122 (C 76 [p4] S fun t123 S124=>
qF 59 p5 7 fun t125=>
qS 3 t125 t123 S124 fun S126=>
dZ C K p2 p4 p5 S126) (qD 59 [] fun t127=>
qS 59 p2 t127 S fun S128=>
qL 59 p2 S128 fun t129=>
K (.tup [t129,(jI 17)]) S128)))))))))))
def aJx (C:bJ) (a0:V) (S:St) (K:KW):Prop:=
qN S 15 [jI 0,.str [],jI 0,.str [],jI 0,jI 0,jI 0,jI 0,jI 0,jI 0,jI 0,.nils,.str [],jI 0,jI 0] fun r0=>
qZ 22 a0 r0.2 fun t1=>
qB .gtr 3 t1 (jI 1024) fun t2=>
cV t2 (qD 59 [] fun t3=>
qS 59 (pt r0) t3 r0.2 fun S4=>
qL 59 (pt r0) S4 fun t5=>
K (.tup [t5,(jI 2)]) S4) (C 72 [a0] r0.2 fun t6 S7=>
C 76 [t6] S7 fun t8 S9=>
qD 59 [(0,t8)] fun t10=>
qN S9 15 [jI 0,.str [],jI 0,.str [],jI 0,jI 0,jI 0,jI 0,jI 0,jI 0,jI 0,.nils,.str [],jI 0,jI 0] fun r11=>
qS 59 (pt r11) t10 r11.2 fun S12=>
sI t6 (qE 142 t6 2 3 S12 fun t14=>
(qG .neq 3 t14 (jI 0) fun t15=>
cV t15 (qD 59 [] fun t16=>
sI t6 (qF 142 t6 2 fun t17=>
qL 3 t17 (up S12 7) fun t18=>
qS 59 (pt r0) t16 (up S12 7) fun S19=>
qL 3 t17 S19 fun t20=>
oN (dC t18 t20) (qL 59 (pt r0) S19 fun t21=>
K (.tup [t21,t18]) S19))) (qE 59 (pt r11) 0 3 S12 fun t32=>
(qG .eql 3 t32 (jI 1) fun t33=>
cV t33 (C 74 [t6,(jI 64)] S12 fun t34 S35=>
qF 59 (pt r11) 1 fun t36=>
qS 9 t36 t34 S35 fun S37=>
C 76 [t6] S37 fun t38 S39=>
qF 59 (pt r11) 2 fun t40=>
qS 3 t40 t38 S39 fun S41=>
dZ C K (pt r0) t6 (pt r11) S41) ((qG .eql 3 t32 (jI 2) fun t130=>
cV t130 (eV C K (pt r0) t6 (pt r11) t32 (.bool true) S12) ((qG .eql 3 t32 (jI 8) fun t131=>
eV C K (pt r0) t6 (pt r11) t32 t131 S12)))))))))
theorem aJy:(fun (C:bJ) (a0:V) (S:St) (K:KW)=>fR prog C aAv aAw 215 [a0] S K)=fun C a0 S K=>aJx C a0 S K:=by kernel_rfl
theorem aVr (C:bJ) (a0:V) (S:St) (K:KW):fR prog C aAv aAw 215 [a0] S K=aJx C a0 S K:=congrFun (congrFun (congrFun (congrFun aJy C) a0) S) K
theorem aVs {a0:V} {v:V} (hc:cloVs [a0]=true) (h:aJx C a0 ⟨0,.nil⟩ fun v0 S0=>iE S0 v0=.ok v):Fv 215 [a0] v:=Go.AM.Fn.of (p:=aAv) (lv:=aAw) (by kernel_rfl) hc (by rw [aVr];exact h)
section
section
variable {b:List UInt8} {r:Rd} {X:St} {a:Nat}
theorem aAx (hb:b.length<1000000000) (hr:r.pos≤b.length) (hX:X.heap.get a=some (.row 0 3 [r.cells b])) (K:KW):C 76 [.ptr a 0 0 0] X K=K (.int .i64 (aD b r).1) ⟨X.next,X.heap.put a (.row 0 3 [(aD b r).2.cells b])⟩:=(r76 hb hr).eq hX K
theorem wW (hb:b.length<1000000000) (hr:r.pos≤b.length) (hX:X.heap.get a=some (.row 0 3 [r.cells b])) (K:KW):C 74 [.ptr a 0 0 0,.int .i64 64] X K=K (.str (aE b 64 r).1) ⟨X.next,X.heap.put a (.row 0 3 [(aE b 64 r).2.cells b])⟩:=(r74 hb hr 64).eq hX K
theorem aOd (hb:b.length<1000000000) (hr:r.pos≤b.length) (hX:X.heap.get a=some (.row 0 3 [r.cells b])) (K:KW):C 75 [.ptr a 0 0 0] X K=K (.agg [.int .i64 (aW b r).1.y,.int .i64 (aW b r).1.m,.int .i64 (aW b r).1.d]) ⟨X.next,X.heap.put a (.row 0 3 [(aW b r).2.cells b])⟩:=(r75 hb hr).eq hX K
theorem aVt (hX:X.heap.get a=some (.row 0 3 [r.cells b])) (K:KW):C 78 [.ptr a 0 0 0] X K=K (.int .i64 (cQ b r).err) ⟨X.next,X.heap.put a (.row 0 3 [(cQ b r).cells b])⟩:=r78.eq hX K
theorem aVu (hb:b.length<1000000000) (hr:r.pos≤b.length) (most:Int) (hX:X.heap.get a=some (.row 0 3 [r.cells b])) (K:KW):C 73 [.ptr a 0 0 0,.int .i64 most] X K=K (.int .i64 (cG b most r).1) ⟨X.next,X.heap.put a (.row 0 3 [(cG b most r).2.cells b])⟩:=(r73 hb hr most).eq hX K
end
end
def tU (x:Cmd×Int):V:=.tup [.agg x.1.enc,.int .i64 x.2]
theorem aVv {b:List UInt8} (hb:b.length<1000000000) {K:KW} {B X:St} {a q:Nat} {r:Rd} {c:Cmd} {v:V} (k:RB B b a q 15 r (c.cells v) X) (h0:X.heap.get 0=some (.row 0 15 [[.int .i64 0,.str [],.int .i64 0,.str [],.int .i64 0,.int .i64 0,.int .i64 0,.int .i64 0,.int .i64 0,.int .i64 0,.int .i64 0,.nils,.str [],.int .i64 0,.int .i64 0]])) (h0a:0≠a) (h0q:0≠q) (o:Own E0 X 4 v (c.lines.map Line.enc))
  (H:∀ w S0,iE S0 w=.ok (tU (if (cQ b r).err≠0 then (bO 0,(cQ b r).err) else (c,0)))→K w S0):dZ C K (.ptr 0 0 0 0) (.ptr a 0 0 0) (.ptr q 0 0 0) X:=by
 simp only [dZ,kk,aVt k.ra]
 obtain ⟨X1,hX1⟩:∃ X1:St,X1=⟨X.next,X.heap.put a (.row 0 3 [(cQ b r).cells b])⟩:=⟨_,rfl⟩
 have k1:RB B b a q 15 (cQ b r) (c.cells v) X1:=by rw [hX1];exact k.rd _
 have g0:X1.heap.get 0=some (.row 0 15 [[.int .i64 0,.str [],.int .i64 0,.str [],.int .i64 0,.int .i64 0,.int .i64 0,.int .i64 0,.int .i64 0,.int .i64 0,.int .i64 0,.nils,.str [],.int .i64 0,.int .i64 0]]):=by rw [hX1];exact (Tr.get_put_neB _ _ _ _ trivial h0a).trans h0
 have o1:Own E0 X1 4 v (c.lines.map Line.enc):=by rw [hX1];exact Own.wput o k.ra (by decide) (Nat.le_refl _) _
 have s0:=aC g0
 have sq:=aC k1.rq
 rw [hX1] at s0 sq
 by_cases he:(cQ b r).err=0
 rotate_left
 ·rw [if_pos he] at H
  simp only [↓cw,↓reduceIte,Nat.reduceLT,kk,he,not_false_eq_true,if_true,s0,aB]
  exact H _ _ (by simp only [oo,tU,bO,Cmd.enc,List.map_nil])
 rw [if_neg (not_not_intro he)] at H
 simp only [Cmd.cells] at sq
 have v1:=o1.one
 have v2:=o1.cells
 simp only [↓cw,↓reduceIte,Nat.reduceLT,kk,he,not_true_eq_false,if_false,s0,sq,v1,v2,aB]
 have o2:=Own.wput o1 g0 (by decide) (Nat.le_refl _) (.row 0 15 [c.cells v])
 rw [hX1] at o2
 have hf:=o2.frz (bG (fun _=>rfl) _)
 refine H _ _ ?_
 unfold iE
 simp only [Cmd.cells] at hf
 simp only [cC,frzVs,hf,tU,Cmd.enc]
theorem aVw (b:List UInt8) (hb:b.length<1000000000):Fv 215 [.imm (b.map dY)] (tU (jL (cH b) b)):=by
 refine aVs (by simp only [cloVs,eJ,bG (enc:=dY) (fun _=>rfl),Bool.and_self]) ?_
 obtain ⟨K,hK⟩:∃ K:KW,K=fun v0 S0=>iE S0 v0=.ok (tU (jL (cH b) b)):=⟨_,rfl⟩
 have H:∀ v S0,iE S0 v=.ok (tU (jL (cH b) b))→K v S0:=fun v S0 h=>by rw [hK];exact h
 rw [←hK]
 clear hK
 rw [sW] at H
 obtain ⟨S1,hS1⟩:∃ S1:St,S1=⟨1,Tr.nil.put 0 (.row 0 15 [[.int .i64 0,.str [],.int .i64 0,.str [],.int .i64 0,.int .i64 0,.int .i64 0,.int .i64 0,.int .i64 0,.int .i64 0,.int .i64 0,.nils,.str [],.int .i64 0,.int .i64 0]])⟩:=⟨_,rfl⟩
 have w1:WF S1:=by rw [hS1];exact xA wP (by decide) (by decide)
 have n1:S1.next=1:=by rw [hS1]
 have g1:S1.heap.get 0=some (.row 0 15 [[.int .i64 0,.str [],.int .i64 0,.str [],.int .i64 0,.int .i64 0,.int .i64 0,.int .i64 0,.int .i64 0,.int .i64 0,.int .i64 0,.nils,.str [],.int .i64 0,.int .i64 0]]):=by rw [hS1];exact Tr.get_put_sameB _ _ _ trivial
 have s1:=aC g1
 simp only [aJx]
 simp only [↓cw,↓reduceIte,Nat.reduceLT,kk,Nat.zero_add,←hS1,List.length_map]
 clear hS1
 by_cases c0:1024<b.length
 ·rw [if_pos c0] at H
  simp only [↓cw,↓reduceIte,Nat.reduceLT,kk,show ((1024:Int)<(b.length:Int))=True by simp;omega,if_true,s1,aB]
  exact H _ _ (by simp only [oo,tU,bO,Cmd.enc,List.map_nil])
 rw [if_neg c0] at H
 simp only [show ((1024:Int)<(b.length:Int))=False by simp;omega,if_false]
 refine aTj hb w1 rfl fun a T xT ha haT first=>?_
 have pT:T.heap.get 0=some (.row 0 15 [[.int .i64 0,.str [],.int .i64 0,.str [],.int .i64 0,.int .i64 0,.int .i64 0,.int .i64 0,.int .i64 0,.int .i64 0,.int .i64 0,.nils,.str [],.int .i64 0,.int .i64 0]]):=xT.old _ _ g1
 obtain ⟨Y,hYn,wY,hY,hC⟩:=first T (Ext.refl T)
 simp only [hC]
 have hp:=aY (b:=b) (r:=⟨0,0⟩) (Nat.zero_le _)
 generalize aD b ⟨0,0⟩=y at H hp ⊢
 obtain ⟨k,r⟩:=y
 simp only at H hp ⊢
 have haY:a<Y.next:=by omega
 have nT:=xT.next
 have h0Y:Y.heap.get 0=some (.row 0 15 [[.int .i64 0,.str [],.int .i64 0,.str [],.int .i64 0,.int .i64 0,.int .i64 0,.int .i64 0,.int .i64 0,.int .i64 0,.int .i64 0,.nils,.str [],.int .i64 0,.int .i64 0]]):=by rw [hY 0 (.inl (by omega))];exact pT
 have h0a:0≠a:=by omega
 obtain ⟨X,hX⟩:∃ X:St,X=St.at Y a (r.cells b):=⟨_,rfl⟩
 have wX:WF X:=by rw [hX];exact St.wf_at haY wY
 have raX:X.heap.get a=some (.row 0 3 [r.cells b]):=by rw [hX];exact St.at_get _ _ _
 have r0X:X.heap.get 0=some (.row 0 15 [[.int .i64 0,.str [],.int .i64 0,.str [],.int .i64 0,.int .i64 0,.int .i64 0,.int .i64 0,.int .i64 0,.int .i64 0,.int .i64 0,.nils,.str [],.int .i64 0,.int .i64 0]]):=by rw [hX];exact (Tr.get_put_neB _ _ _ _ trivial h0a).trans h0Y
 have naX:a<X.next:=wX _ _ raX
 rw [←hX]
 clear hX hC hY first
 obtain ⟨q,hq⟩:∃ q,q=X.next:=⟨_,rfl⟩
 obtain ⟨B,hB⟩:∃ B:St,B=⟨X.next+1,(X.heap.put X.next (.row 0 15 [[.int .i64 0,.str [],.int .i64 0,.str [],.int .i64 0,.int .i64 0,.int .i64 0,.int .i64 0,.int .i64 0,.int .i64 0,.int .i64 0,.nils,.str [],.int .i64 0,.int .i64 0]])).put X.next (.row 0 15 [[.int .i64 k,.str [],.int .i64 0,.str [],.int .i64 0,.int .i64 0,.int .i64 0,.int .i64 0,.int .i64 0,.int .i64 0,.int .i64 0,.nils,.str [],.int .i64 0,.int .i64 0]])⟩:=⟨_,rfl⟩
 have h0q:0≠q:=by omega
 have haq:a≠q:=by omega
 have k0:RB B b a q 15 r [.int .i64 k,.str [],.int .i64 0,.str [],.int .i64 0,.int .i64 0,.int .i64 0,.int .i64 0,.int .i64 0,.int .i64 0,.int .i64 0,.nils,.str [],.int .i64 0,.int .i64 0] B:=by
  refine RB.refl ?_ ?_ ?_ haq
  ·rw [hB];exact xA (n:=X.next+1) (xA (n:=X.next) wX (by omega) (by omega)) (by omega) (Nat.le_refl _)
  ·rw [hB];exact (Tr.get_put_neB _ _ _ _ trivial (by omega)).trans ((Tr.get_put_neB _ _ _ _ trivial (by omega)).trans raX)
  ·rw [hB,hq];exact Tr.get_put_sameB _ _ _ trivial
 have b0:B.heap.get 0=some (.row 0 15 [[.int .i64 0,.str [],.int .i64 0,.str [],.int .i64 0,.int .i64 0,.int .i64 0,.int .i64 0,.int .i64 0,.int .i64 0,.int .i64 0,.nils,.str [],.int .i64 0,.int .i64 0]]):=by rw [hB];exact (Tr.get_put_neB _ _ _ _ trivial (by omega)).trans ((Tr.get_put_neB _ _ _ _ trivial (by omega)).trans r0X)
 have l0:0<B.next:=k0.wf _ _ b0
 have s0:=aC b0
 have sa:=aC k0.ra
 have sq:=aC k0.rq
 simp only [Rd.cells] at sa
 simp only [↓cw,↓reduceIte,Nat.reduceLT,Nat.reduceAdd,kk,←hB,sa]
 simp only [←hq]
 clear hB hq
 by_cases he:r.err=0
 rotate_left
 ·rw [if_pos he] at H
  have s7:=aC (S:=⟨B.next+7,B.heap⟩) b0
  have a7:=aC (S:=⟨B.next+7,B.heap⟩) k0.ra
  have a8:=aC (S:=⟨B.next+7,B.heap.put 0 (.row 0 15 [[.int .i64 0,.str [],.int .i64 0,.str [],.int .i64 0,.int .i64 0,.int .i64 0,.int .i64 0,.int .i64 0,.int .i64 0,.int .i64 0,.nils,.str [],.int .i64 0,.int .i64 0]])⟩) ((Tr.get_put_neB _ _ _ _ trivial h0a.symm).trans k0.ra)
  simp only [Rd.cells] at a7 a8
  simp only [↓cw,↓reduceIte,Nat.reduceLT,kk,he,not_false_eq_true,if_true,s7,a7,a8,jG,aB]
  exact H _ _ (by simp only [oo,tU,bO,Cmd.enc,List.map_nil])
 rw [if_neg (not_not_intro he)] at H
 simp only [↓cw,↓reduceIte,Nat.reduceLT,kk,he,not_true_eq_false,if_false,sq]
 by_cases hk:¬ (1≤k∧k≤8)
 ·rw [if_pos hk] at H
  have d:∀ n:Int,1≤n→n≤8→(k=n)=False:=fun n h1 h2=>by simp;omega
  simp only [d 1 (by decide) (by decide),d 2 (by decide) (by decide),d 8 (by decide) (by decide),if_false,eV]
  simp only [↓cw,↓reduceIte,Nat.reduceLT,kk,d 3 (by decide) (by decide),d 4 (by decide) (by decide),d 5 (by decide) (by decide),d 6 (by decide) (by decide),d 7 (by decide) (by decide),decide_false,Bool.false_eq_true,if_false,s0,aB]
  exact H _ _ (by simp only [oo,tU,bO,Cmd.enc,List.map_nil])
 rw [if_neg hk] at H
 have hk:=Classical.not_not.1 hk
 have:k=1∨k=2∨k=3∨k=4∨k=5∨k=6∨k=7∨k=8:=by omega
 have fin:∀ {c:Cmd} {v:V} {r':Rd} {Y:St},RB B b a q 15 r' (c.cells v) Y→Own E0 Y 4 v (c.lines.map Line.enc)→bW (cH b) b k r=(c,r')→dZ C K (.ptr 0 0 0 0) (.ptr a 0 0 0) (.ptr q 0 0 0) Y:=fun {c v r' Y} kc o hR=>by
  rw [hR] at H
  exact aVv hb kc ((kc.old 0 l0 h0a h0q).trans b0) h0a h0q o H
 clear H
 rcases this with rfl | rfl | rfl | rfl | rfl | rfl | rfl | rfl
 ·simp only [↓cw,↓reduceIte,Nat.reduceLT,kk,Int.reduceEq,decide_true,decide_false,Bool.false_eq_true,if_true,if_false,eV]
  obtain ⟨x0,R0,h0⟩:∃ V1 R9,aE b 64 r=(V1,R9):=⟨_,_,rfl⟩
  have pR0:R0.pos≤b.length:=by have:=bD (most:=64) hp;rw [h0] at this;exact this
  have c0:=fun K:KW=>wW (r:=r) hb hp k0.ra K
  rw [h0] at c0
  dsimp only at c0
  have g0:=aC (S:=(⟨B.next,B.heap.put a (.row 0 3 [R0.cells b])⟩:St)) (k0.rd R0).rq
  obtain ⟨Y0,hY0⟩:∃ W0:St,W0=⟨B.next,(B.heap.put a (.row 0 3 [R0.cells b])).put q (.row 0 15 [[.int .i64 1,.str x0,.int .i64 0,.str [],.int .i64 0,.int .i64 0,.int .i64 0,.int .i64 0,.int .i64 0,.int .i64 0,.int .i64 0,.nils,.str [],.int .i64 0,.int .i64 0]])⟩:=⟨_,rfl⟩
  have k1:RB B b a q 15 R0 [.int .i64 1,.str x0,.int .i64 0,.str [],.int .i64 0,.int .i64 0,.int .i64 0,.int .i64 0,.int .i64 0,.int .i64 0,.int .i64 0,.nils,.str [],.int .i64 0,.int .i64 0] Y0:=by rw [hY0];exact (k0.rd R0).qset [.int .i64 1,.str x0,.int .i64 0,.str [],.int .i64 0,.int .i64 0,.int .i64 0,.int .i64 0,.int .i64 0,.int .i64 0,.int .i64 0,.nils,.str [],.int .i64 0,.int .i64 0]
  simp only [c0]
  simp only [↓cw,↓reduceIte,Nat.reduceLT,Nat.reduceAdd,kk,Date.enc,g0,←hY0]
  clear hY0 g0 c0
  obtain ⟨x1,R1,h1⟩:∃ V1 R9,aD b R0=(V1,R9):=⟨_,_,rfl⟩
  have pR1:R1.pos≤b.length:=by have:=aY pR0;rw [h1] at this;exact this
  have c1:=fun K:KW=>aAx (r:=R0) hb pR0 k1.ra K
  rw [h1] at c1
  dsimp only at c1
  have g1:=aC (S:=(⟨Y0.next,Y0.heap.put a (.row 0 3 [R1.cells b])⟩:St)) (k1.rd R1).rq
  obtain ⟨Y1,hY1⟩:∃ W0:St,W0=⟨Y0.next,(Y0.heap.put a (.row 0 3 [R1.cells b])).put q (.row 0 15 [[.int .i64 1,.str x0,.int .i64 x1,.str [],.int .i64 0,.int .i64 0,.int .i64 0,.int .i64 0,.int .i64 0,.int .i64 0,.int .i64 0,.nils,.str [],.int .i64 0,.int .i64 0]])⟩:=⟨_,rfl⟩
  have k2:RB B b a q 15 R1 [.int .i64 1,.str x0,.int .i64 x1,.str [],.int .i64 0,.int .i64 0,.int .i64 0,.int .i64 0,.int .i64 0,.int .i64 0,.int .i64 0,.nils,.str [],.int .i64 0,.int .i64 0] Y1:=by rw [hY1];exact (k1.rd R1).qset [.int .i64 1,.str x0,.int .i64 x1,.str [],.int .i64 0,.int .i64 0,.int .i64 0,.int .i64 0,.int .i64 0,.int .i64 0,.int .i64 0,.nils,.str [],.int .i64 0,.int .i64 0]
  simp only [c1]
  simp only [↓cw,↓reduceIte,Nat.reduceLT,Nat.reduceAdd,kk,Date.enc,g1,←hY1]
  clear hY1 g1 c1
  exact fin (c:={ bO 1 with series:=x0,limit:=x1 }) (v:=.nils) k2 (Own.nil _ _ _) (by unfold bW;simp only [Int.reduceEq,if_true,if_false,h0,h1])
 ·simp only [↓cw,↓reduceIte,Nat.reduceLT,kk,Int.reduceEq,decide_true,decide_false,Bool.false_eq_true,if_true,if_false,eV]
  obtain ⟨x0,R0,h0⟩:∃ V1 R9,aE b 64 r=(V1,R9):=⟨_,_,rfl⟩
  have pR0:R0.pos≤b.length:=by have:=bD (most:=64) hp;rw [h0] at this;exact this
  have c0:=fun K:KW=>wW (r:=r) hb hp k0.ra K
  rw [h0] at c0
  dsimp only at c0
  have g0:=aC (S:=(⟨B.next,B.heap.put a (.row 0 3 [R0.cells b])⟩:St)) (k0.rd R0).rq
  obtain ⟨Y0,hY0⟩:∃ W0:St,W0=⟨B.next,(B.heap.put a (.row 0 3 [R0.cells b])).put q (.row 0 15 [[.int .i64 2,.str x0,.int .i64 0,.str [],.int .i64 0,.int .i64 0,.int .i64 0,.int .i64 0,.int .i64 0,.int .i64 0,.int .i64 0,.nils,.str [],.int .i64 0,.int .i64 0]])⟩:=⟨_,rfl⟩
  have k1:RB B b a q 15 R0 [.int .i64 2,.str x0,.int .i64 0,.str [],.int .i64 0,.int .i64 0,.int .i64 0,.int .i64 0,.int .i64 0,.int .i64 0,.int .i64 0,.nils,.str [],.int .i64 0,.int .i64 0] Y0:=by rw [hY0];exact (k0.rd R0).qset [.int .i64 2,.str x0,.int .i64 0,.str [],.int .i64 0,.int .i64 0,.int .i64 0,.int .i64 0,.int .i64 0,.int .i64 0,.int .i64 0,.nils,.str [],.int .i64 0,.int .i64 0]
  simp only [c0]
  simp only [↓cw,↓reduceIte,Nat.reduceLT,Nat.reduceAdd,kk,Date.enc,g0,←hY0]
  clear hY0 g0 c0
  exact fin (c:={ bO 2 with series:=x0 }) (v:=.nils) k1 (Own.nil _ _ _) (by unfold bW;simp only [Int.reduceEq,if_true,if_false,h0])
 ·simp only [↓cw,↓reduceIte,Nat.reduceLT,kk,Int.reduceEq,decide_true,decide_false,Bool.false_eq_true,if_true,if_false,eV]
  obtain ⟨x0,R0,h0⟩:∃ V1 R9,aE b 64 r=(V1,R9):=⟨_,_,rfl⟩
  have pR0:R0.pos≤b.length:=by have:=bD (most:=64) hp;rw [h0] at this;exact this
  have c0:=fun K:KW=>wW (r:=r) hb hp k0.ra K
  rw [h0] at c0
  dsimp only at c0
  have g0:=aC (S:=(⟨B.next,B.heap.put a (.row 0 3 [R0.cells b])⟩:St)) (k0.rd R0).rq
  obtain ⟨Y0,hY0⟩:∃ W0:St,W0=⟨B.next,(B.heap.put a (.row 0 3 [R0.cells b])).put q (.row 0 15 [[.int .i64 3,.str [],.int .i64 0,.str x0,.int .i64 0,.int .i64 0,.int .i64 0,.int .i64 0,.int .i64 0,.int .i64 0,.int .i64 0,.nils,.str [],.int .i64 0,.int .i64 0]])⟩:=⟨_,rfl⟩
  have k1:RB B b a q 15 R0 [.int .i64 3,.str [],.int .i64 0,.str x0,.int .i64 0,.int .i64 0,.int .i64 0,.int .i64 0,.int .i64 0,.int .i64 0,.int .i64 0,.nils,.str [],.int .i64 0,.int .i64 0] Y0:=by rw [hY0];exact (k0.rd R0).qset [.int .i64 3,.str [],.int .i64 0,.str x0,.int .i64 0,.int .i64 0,.int .i64 0,.int .i64 0,.int .i64 0,.int .i64 0,.int .i64 0,.nils,.str [],.int .i64 0,.int .i64 0]
  simp only [c0]
  simp only [↓cw,↓reduceIte,Nat.reduceLT,Nat.reduceAdd,kk,Date.enc,g0,←hY0]
  clear hY0 g0 c0
  obtain ⟨x1,R1,h1⟩:∃ V1 R9,aW b R0=(V1,R9):=⟨_,_,rfl⟩
  have pR1:R1.pos≤b.length:=by have:=eH pR0;rw [h1] at this;exact this
  have c1:=fun K:KW=>aOd (r:=R0) hb pR0 k1.ra K
  rw [h1] at c1
  dsimp only at c1
  have g1:=aC (S:=(⟨Y0.next,Y0.heap.put a (.row 0 3 [R1.cells b])⟩:St)) (k1.rd R1).rq
  obtain ⟨Y1,hY1⟩:∃ W0:St,W0=⟨Y0.next,(Y0.heap.put a (.row 0 3 [R1.cells b])).put q (.row 0 15 [[.int .i64 3,.str [],.int .i64 0,.str x0,.int .i64 x1.y,.int .i64 x1.m,.int .i64 x1.d,.int .i64 0,.int .i64 0,.int .i64 0,.int .i64 0,.nils,.str [],.int .i64 0,.int .i64 0]])⟩:=⟨_,rfl⟩
  have k2:RB B b a q 15 R1 [.int .i64 3,.str [],.int .i64 0,.str x0,.int .i64 x1.y,.int .i64 x1.m,.int .i64 x1.d,.int .i64 0,.int .i64 0,.int .i64 0,.int .i64 0,.nils,.str [],.int .i64 0,.int .i64 0] Y1:=by rw [hY1];exact (k1.rd R1).qset [.int .i64 3,.str [],.int .i64 0,.str x0,.int .i64 x1.y,.int .i64 x1.m,.int .i64 x1.d,.int .i64 0,.int .i64 0,.int .i64 0,.int .i64 0,.nils,.str [],.int .i64 0,.int .i64 0]
  simp only [c1]
  simp only [↓cw,↓reduceIte,Nat.reduceLT,Nat.reduceAdd,kk,Date.enc,g1,←hY1]
  clear hY1 g1 c1
  obtain ⟨x2,R2,h2⟩:∃ V1 R9,aD b R1=(V1,R9):=⟨_,_,rfl⟩
  have pR2:R2.pos≤b.length:=by have:=aY pR1;rw [h2] at this;exact this
  have c2:=fun K:KW=>aAx (r:=R1) hb pR1 k2.ra K
  rw [h2] at c2
  dsimp only at c2
  have g2:=aC (S:=(⟨Y1.next,Y1.heap.put a (.row 0 3 [R2.cells b])⟩:St)) (k2.rd R2).rq
  obtain ⟨Y2,hY2⟩:∃ W0:St,W0=⟨Y1.next,(Y1.heap.put a (.row 0 3 [R2.cells b])).put q (.row 0 15 [[.int .i64 3,.str [],.int .i64 0,.str x0,.int .i64 x1.y,.int .i64 x1.m,.int .i64 x1.d,.int .i64 x2,.int .i64 0,.int .i64 0,.int .i64 0,.nils,.str [],.int .i64 0,.int .i64 0]])⟩:=⟨_,rfl⟩
  have k3:RB B b a q 15 R2 [.int .i64 3,.str [],.int .i64 0,.str x0,.int .i64 x1.y,.int .i64 x1.m,.int .i64 x1.d,.int .i64 x2,.int .i64 0,.int .i64 0,.int .i64 0,.nils,.str [],.int .i64 0,.int .i64 0] Y2:=by rw [hY2];exact (k2.rd R2).qset [.int .i64 3,.str [],.int .i64 0,.str x0,.int .i64 x1.y,.int .i64 x1.m,.int .i64 x1.d,.int .i64 x2,.int .i64 0,.int .i64 0,.int .i64 0,.nils,.str [],.int .i64 0,.int .i64 0]
  simp only [c2]
  simp only [↓cw,↓reduceIte,Nat.reduceLT,Nat.reduceAdd,kk,Date.enc,g2,←hY2]
  clear hY2 g2 c2
  exact fin (c:={ bO 3 with row:=⟨x0,x1,x2⟩ }) (v:=.nils) k3 (Own.nil _ _ _) (by unfold bW;simp only [Int.reduceEq,if_true,if_false,h0,h1,h2])
 ·simp only [↓cw,↓reduceIte,Nat.reduceLT,kk,Int.reduceEq,decide_true,decide_false,Bool.false_eq_true,if_true,if_false,eV]
  obtain ⟨x0,R0,h0⟩:∃ V1 R9,aE b 64 r=(V1,R9):=⟨_,_,rfl⟩
  have pR0:R0.pos≤b.length:=by have:=bD (most:=64) hp;rw [h0] at this;exact this
  have c0:=fun K:KW=>wW (r:=r) hb hp k0.ra K
  rw [h0] at c0
  dsimp only at c0
  have g0:=aC (S:=(⟨B.next,B.heap.put a (.row 0 3 [R0.cells b])⟩:St)) (k0.rd R0).rq
  obtain ⟨Y0,hY0⟩:∃ W0:St,W0=⟨B.next,(B.heap.put a (.row 0 3 [R0.cells b])).put q (.row 0 15 [[.int .i64 4,.str x0,.int .i64 0,.str [],.int .i64 0,.int .i64 0,.int .i64 0,.int .i64 0,.int .i64 0,.int .i64 0,.int .i64 0,.nils,.str [],.int .i64 0,.int .i64 0]])⟩:=⟨_,rfl⟩
  have k1:RB B b a q 15 R0 [.int .i64 4,.str x0,.int .i64 0,.str [],.int .i64 0,.int .i64 0,.int .i64 0,.int .i64 0,.int .i64 0,.int .i64 0,.int .i64 0,.nils,.str [],.int .i64 0,.int .i64 0] Y0:=by rw [hY0];exact (k0.rd R0).qset [.int .i64 4,.str x0,.int .i64 0,.str [],.int .i64 0,.int .i64 0,.int .i64 0,.int .i64 0,.int .i64 0,.int .i64 0,.int .i64 0,.nils,.str [],.int .i64 0,.int .i64 0]
  simp only [c0]
  simp only [↓cw,↓reduceIte,Nat.reduceLT,Nat.reduceAdd,kk,Date.enc,g0,←hY0]
  clear hY0 g0 c0
  obtain ⟨x1,R1,h1⟩:∃ V1 R9,aW b R0=(V1,R9):=⟨_,_,rfl⟩
  have pR1:R1.pos≤b.length:=by have:=eH pR0;rw [h1] at this;exact this
  have c1:=fun K:KW=>aOd (r:=R0) hb pR0 k1.ra K
  rw [h1] at c1
  dsimp only at c1
  have g1:=aC (S:=(⟨Y0.next,Y0.heap.put a (.row 0 3 [R1.cells b])⟩:St)) (k1.rd R1).rq
  obtain ⟨Y1,hY1⟩:∃ W0:St,W0=⟨Y0.next,(Y0.heap.put a (.row 0 3 [R1.cells b])).put q (.row 0 15 [[.int .i64 4,.str x0,.int .i64 0,.str [],.int .i64 0,.int .i64 0,.int .i64 0,.int .i64 0,.int .i64 x1.y,.int .i64 x1.m,.int .i64 x1.d,.nils,.str [],.int .i64 0,.int .i64 0]])⟩:=⟨_,rfl⟩
  have k2:RB B b a q 15 R1 [.int .i64 4,.str x0,.int .i64 0,.str [],.int .i64 0,.int .i64 0,.int .i64 0,.int .i64 0,.int .i64 x1.y,.int .i64 x1.m,.int .i64 x1.d,.nils,.str [],.int .i64 0,.int .i64 0] Y1:=by rw [hY1];exact (k1.rd R1).qset [.int .i64 4,.str x0,.int .i64 0,.str [],.int .i64 0,.int .i64 0,.int .i64 0,.int .i64 0,.int .i64 x1.y,.int .i64 x1.m,.int .i64 x1.d,.nils,.str [],.int .i64 0,.int .i64 0]
  simp only [c1]
  simp only [↓cw,↓reduceIte,Nat.reduceLT,Nat.reduceAdd,kk,Date.enc,g1,←hY1]
  clear hY1 g1 c1
  simp only [aVu hb pR1 12 k2.ra]
  obtain ⟨y0,y12⟩:=lO (b:=b) (r:=R1) (show (0:Int)≤12 by decide) kB
  have hq0:=vE (most:=12) pR1
  obtain ⟨nn,R4,h4⟩:∃ V1 R9,cG b 12 R1=(V1,R9):=⟨_,_,rfl⟩
  rw [h4] at y0 y12 hq0
  simp only at y0 y12 hq0
  simp only [h4]
  obtain ⟨nn,rfl⟩:=Int.eq_ofNat_of_zero_le y0
  have kd:=k2.rd R4
  generalize (⟨Y1.next,Y1.heap.put a (.row 0 3 [R4.cells b])⟩:St)=B2 at kd ⊢
  have fin4:∀ (dn:List Line) (r2:Rd) (v:V) (Y:St),RB B b a q 15 r2 [.int .i64 4,.str x0,.int .i64 0,.str [],.int .i64 0,.int .i64 0,.int .i64 0,.int .i64 0,.int .i64 x1.y,.int .i64 x1.m,.int .i64 x1.d,v,.str [],.int .i64 0,.int .i64 0] Y→Own E0 Y 4 v (dn.map Line.enc)→dn=(cH b nn R4).1→r2=(cH b nn R4).2→dZ C K (.ptr 0 0 0 0) (.ptr a 0 0 0) (.ptr q 0 0 0) Y:=fun dn r2 v Y kc o e1 e2=>
   fin (c:={ bO 4 with series:=x0,day:=x1,lines:=dn }) (v:=v) kc o (by unfold bW;simp only [Int.reduceEq,if_true,if_false,h0,h1,h4,show ((nn:Int)).toNat=nn from by omega,←e1,←e2])
  refine jZ (fun m vs X=>∃ (i:Nat) (r2:Rd) (v:V) (dn:List Line),i+m=nn∧vs=[.int .i64 (i:Int)]∧RB B b a q 15 r2 [.int .i64 4,.str x0,.int .i64 0,.str [],.int .i64 0,.int .i64 0,.int .i64 0,.int .i64 0,.int .i64 x1.y,.int .i64 x1.m,.int .i64 x1.d,v,.str [],.int .i64 0,.int .i64 0] X∧Own E0 X 4 v (dn.map Line.enc)∧(∀ y,AM.blkOf v=some y→B.next≤y)∧dn.length=i∧r2.pos≤b.length∧dn++(cH b m r2).1=(cH b nn R4).1∧(cH b m r2).2=(cH b nn R4).2) ?_ (n:=nn) ⟨0,R4,.nils,[],by omega,rfl,kd,Own.nil _ _ _,(fun y h=>by cases h),rfl,hq0,rfl,rfl⟩
  rintro m vs X ⟨i,r2,v,dn,hi,rfl,k2,o,lb,hd,hp2,e1,e2⟩ bF hag
  have ra:=aC k2.ra
  simp only [Rd.cells] at ra
  simp only [aD6]
  simp only [↓cw,↓reduceIte,Nat.reduceLT,kk,ra]
  by_cases hin:(i:Int)<(nn:Int)
  rotate_left
  ·obtain rfl:m=0:=by omega
   simp only [cH,List.append_nil] at e1 e2
   simp only [hin,if_false]
   exact fin4 dn r2 v X k2 o e1 e2
  by_cases he2:r2.err=0
  rotate_left
  ·obtain ⟨m,rfl⟩:∃ m',m=m'+1:=⟨m - 1,by omega⟩
   simp only [cH,he2,if_false,List.append_nil] at e1 e2
   simp only [hin,he2,if_true,if_false]
   exact fin4 dn r2 v X k2 o e1 e2
  obtain ⟨m,rfl⟩:∃ m',m=m'+1:=⟨m - 1,by omega⟩
  clear fin4 fin
  simp only [cH,he2,if_true] at e1 e2
  simp only [hin,he2,if_true]
  have kX:RB X b a q 15 r2 [.int .i64 4,.str x0,.int .i64 0,.str [],.int .i64 0,.int .i64 0,.int .i64 0,.int .i64 0,.int .i64 x1.y,.int .i64 x1.m,.int .i64 x1.d,v,.str [],.int .i64 0,.int .i64 0] X:=RB.refl k2.wf k2.ra k2.rq k2.aq
  obtain ⟨xi0,Ri0,hi0⟩:∃ V1 R9,aE b 64 r2=(V1,R9):=⟨_,_,rfl⟩
  have pRi0:Ri0.pos≤b.length:=by have:=bD (most:=64) hp2;rw [hi0] at this;exact this
  have ci0:=fun K:KW=>wW (r:=r2) hb hp2 kX.ra K
  rw [hi0] at ci0
  dsimp only at ci0
  obtain ⟨Xib0,hXib0⟩:∃ W0:St,W0=⟨X.next+1,((X.heap.put a (.row 0 3 [Ri0.cells b])).put X.next (.row 0 4 [[.str [],.str [],.int .i64 0,.int .i64 0]])).put X.next (.row 0 4 [[.str xi0,.str [],.int .i64 0,.int .i64 0]])⟩:=⟨_,rfl⟩
  have ai0:RT X b a q 15 X.next 4 Ri0 [.int .i64 4,.str x0,.int .i64 0,.str [],.int .i64 0,.int .i64 0,.int .i64 0,.int .i64 0,.int .i64 x1.y,.int .i64 x1.m,.int .i64 x1.d,v,.str [],.int .i64 0,.int .i64 0] [.str xi0,.str [],.int .i64 0,.int .i64 0] Xib0:=by rw [hXib0];exact ((kX.rd Ri0).new 4 [.str [],.str [],.int .i64 0,.int .i64 0]).tmp [.str xi0,.str [],.int .i64 0,.int .i64 0]
  simp only [ci0]
  simp only [↓cw,↓reduceIte,Nat.reduceLT,Nat.reduceAdd,kk,Date.enc,←hXib0]
  clear hXib0 ci0
  obtain ⟨xi1,Ri1,hi1⟩:∃ V1 R9,aE b 64 Ri0=(V1,R9):=⟨_,_,rfl⟩
  have pRi1:Ri1.pos≤b.length:=by have:=bD (most:=64) pRi0;rw [hi1] at this;exact this
  have ci1:=fun K:KW=>wW (r:=Ri0) hb pRi0 ai0.ra K
  rw [hi1] at ci1
  dsimp only at ci1
  have di1:RT X b a q 15 X.next 4 Ri1 [.int .i64 4,.str x0,.int .i64 0,.str [],.int .i64 0,.int .i64 0,.int .i64 0,.int .i64 0,.int .i64 x1.y,.int .i64 x1.m,.int .i64 x1.d,v,.str [],.int .i64 0,.int .i64 0] [.str xi0,.str [],.int .i64 0,.int .i64 0] (⟨Xib0.next,Xib0.heap.put a (.row 0 3 [Ri1.cells b])⟩:St):=ai0.rdT Ri1
  have gi1:=aC (S:=(⟨Xib0.next,Xib0.heap.put a (.row 0 3 [Ri1.cells b])⟩:St)) di1.rt
  simp only [ci1]
  obtain ⟨Xib1,hXib1⟩:∃ W0:St,W0=⟨Xib0.next,(Xib0.heap.put a (.row 0 3 [Ri1.cells b])).put X.next (.row 0 4 [[.str xi0,.str xi1,.int .i64 0,.int .i64 0]])⟩:=⟨_,rfl⟩
  have ai1:RT X b a q 15 X.next 4 Ri1 [.int .i64 4,.str x0,.int .i64 0,.str [],.int .i64 0,.int .i64 0,.int .i64 0,.int .i64 0,.int .i64 x1.y,.int .i64 x1.m,.int .i64 x1.d,v,.str [],.int .i64 0,.int .i64 0] [.str xi0,.str xi1,.int .i64 0,.int .i64 0] Xib1:=by rw [hXib1];exact di1.tmp [.str xi0,.str xi1,.int .i64 0,.int .i64 0]
  simp only [↓cw,↓reduceIte,Nat.reduceLT,Nat.reduceAdd,kk,Date.enc,gi1,←hXib1]
  clear hXib1 ci1 gi1 di1 ai0
  obtain ⟨xi2,Ri2,hi2⟩:∃ V1 R9,aD b Ri1=(V1,R9):=⟨_,_,rfl⟩
  have pRi2:Ri2.pos≤b.length:=by have:=aY pRi1;rw [hi2] at this;exact this
  have ci2:=fun K:KW=>aAx (r:=Ri1) hb pRi1 ai1.ra K
  rw [hi2] at ci2
  dsimp only at ci2
  have di2:RT X b a q 15 X.next 4 Ri2 [.int .i64 4,.str x0,.int .i64 0,.str [],.int .i64 0,.int .i64 0,.int .i64 0,.int .i64 0,.int .i64 x1.y,.int .i64 x1.m,.int .i64 x1.d,v,.str [],.int .i64 0,.int .i64 0] [.str xi0,.str xi1,.int .i64 0,.int .i64 0] (⟨Xib1.next,Xib1.heap.put a (.row 0 3 [Ri2.cells b])⟩:St):=ai1.rdT Ri2
  have gi2:=aC (S:=(⟨Xib1.next,Xib1.heap.put a (.row 0 3 [Ri2.cells b])⟩:St)) di2.rt
  simp only [ci2]
  obtain ⟨Xib2,hXib2⟩:∃ W0:St,W0=⟨Xib1.next,(Xib1.heap.put a (.row 0 3 [Ri2.cells b])).put X.next (.row 0 4 [[.str xi0,.str xi1,.int .i64 xi2,.int .i64 0]])⟩:=⟨_,rfl⟩
  have ai2:RT X b a q 15 X.next 4 Ri2 [.int .i64 4,.str x0,.int .i64 0,.str [],.int .i64 0,.int .i64 0,.int .i64 0,.int .i64 0,.int .i64 x1.y,.int .i64 x1.m,.int .i64 x1.d,v,.str [],.int .i64 0,.int .i64 0] [.str xi0,.str xi1,.int .i64 xi2,.int .i64 0] Xib2:=by rw [hXib2];exact di2.tmp [.str xi0,.str xi1,.int .i64 xi2,.int .i64 0]
  simp only [↓cw,↓reduceIte,Nat.reduceLT,Nat.reduceAdd,kk,Date.enc,gi2,←hXib2]
  clear hXib2 ci2 gi2 di2 ai1
  obtain ⟨xi3,Ri3,hi3⟩:∃ V1 R9,aD b Ri2=(V1,R9):=⟨_,_,rfl⟩
  have pRi3:Ri3.pos≤b.length:=by have:=aY pRi2;rw [hi3] at this;exact this
  have ci3:=fun K:KW=>aAx (r:=Ri2) hb pRi2 ai2.ra K
  rw [hi3] at ci3
  dsimp only at ci3
  have di3:RT X b a q 15 X.next 4 Ri3 [.int .i64 4,.str x0,.int .i64 0,.str [],.int .i64 0,.int .i64 0,.int .i64 0,.int .i64 0,.int .i64 x1.y,.int .i64 x1.m,.int .i64 x1.d,v,.str [],.int .i64 0,.int .i64 0] [.str xi0,.str xi1,.int .i64 xi2,.int .i64 0] (⟨Xib2.next,Xib2.heap.put a (.row 0 3 [Ri3.cells b])⟩:St):=ai2.rdT Ri3
  have gi3:=aC (S:=(⟨Xib2.next,Xib2.heap.put a (.row 0 3 [Ri3.cells b])⟩:St)) di3.rt
  simp only [ci3]
  obtain ⟨Xib3,hXib3⟩:∃ W0:St,W0=⟨Xib2.next,(Xib2.heap.put a (.row 0 3 [Ri3.cells b])).put X.next (.row 0 4 [[.str xi0,.str xi1,.int .i64 xi2,.int .i64 xi3]])⟩:=⟨_,rfl⟩
  have ai3:RT X b a q 15 X.next 4 Ri3 [.int .i64 4,.str x0,.int .i64 0,.str [],.int .i64 0,.int .i64 0,.int .i64 0,.int .i64 0,.int .i64 x1.y,.int .i64 x1.m,.int .i64 x1.d,v,.str [],.int .i64 0,.int .i64 0] [.str xi0,.str xi1,.int .i64 xi2,.int .i64 xi3] Xib3:=by rw [hXib3];exact di3.tmp [.str xi0,.str xi1,.int .i64 xi2,.int .i64 xi3]
  simp only [↓cw,↓reduceIte,Nat.reduceLT,Nat.reduceAdd,kk,Date.enc,gi3,←hXib3]
  clear hXib3 ci3 gi3 di3 ai2
  obtain ⟨ss,hss⟩:∃ ss:Line,ss=⟨xi0,xi1,xi2,xi3⟩:=⟨_,rfl⟩
  have hread:eU b r2=(ss,Ri3):=by rw [hss];unfold eU;simp only [hi0,hi1,hi2,hi3]
  rw [hread] at e1 e2
  have gt:=aC ai3.rt
  have gq:=aC ai3.rq
  have o6:=ai3.toRB.keep k2.ra k2.rq o (by decide) (by decide)
  obtain ⟨v',X',q1,k7,o7,lb7,_,_,_⟩:=(k2.trans ai3.toRB).app (bb:=48) o6 lb (aI6 ss) (by simp;omega) (by simp [fZ];omega)
  have gx:=aC k7.rq
  have k8:=k7.qset [.int .i64 4,.str x0,.int .i64 0,.str [],.int .i64 0,.int .i64 0,.int .i64 0,.int .i64 0,.int .i64 x1.y,.int .i64 x1.m,.int .i64 x1.d,v',.str [],.int .i64 0,.int .i64 0]
  have vo:=o7.one
  have vc:=o7.cells
  rw [hss] at q1
  simp only [Line.enc] at q1
  simp only [↓cw,↓reduceIte,Nat.reduceLT,Nat.reduceAdd,kk,gt,gq,aO4,q1,gx,vo,vc,wr1 (show i<1000000000 by omega)]
  exact hag m _ _ (by omega) ⟨i+1,Ri3,v',dn++[ss],by omega,rfl,k8,by rw [List.map_append];exact Own.wput o7 k7.rq (by decide) (Nat.le_refl _) _,lb7,by simp [hd],pRi3,by rw [←e1];simp,e2⟩
 ·simp only [↓cw,↓reduceIte,Nat.reduceLT,kk,Int.reduceEq,decide_true,decide_false,Bool.false_eq_true,if_true,if_false,eV]
  obtain ⟨x0,R0,h0⟩:∃ V1 R9,aE b 64 r=(V1,R9):=⟨_,_,rfl⟩
  have pR0:R0.pos≤b.length:=by have:=bD (most:=64) hp;rw [h0] at this;exact this
  have c0:=fun K:KW=>wW (r:=r) hb hp k0.ra K
  rw [h0] at c0
  dsimp only at c0
  have g0:=aC (S:=(⟨B.next,B.heap.put a (.row 0 3 [R0.cells b])⟩:St)) (k0.rd R0).rq
  obtain ⟨Y0,hY0⟩:∃ W0:St,W0=⟨B.next,(B.heap.put a (.row 0 3 [R0.cells b])).put q (.row 0 15 [[.int .i64 5,.str x0,.int .i64 0,.str [],.int .i64 0,.int .i64 0,.int .i64 0,.int .i64 0,.int .i64 0,.int .i64 0,.int .i64 0,.nils,.str [],.int .i64 0,.int .i64 0]])⟩:=⟨_,rfl⟩
  have k1:RB B b a q 15 R0 [.int .i64 5,.str x0,.int .i64 0,.str [],.int .i64 0,.int .i64 0,.int .i64 0,.int .i64 0,.int .i64 0,.int .i64 0,.int .i64 0,.nils,.str [],.int .i64 0,.int .i64 0] Y0:=by rw [hY0];exact (k0.rd R0).qset [.int .i64 5,.str x0,.int .i64 0,.str [],.int .i64 0,.int .i64 0,.int .i64 0,.int .i64 0,.int .i64 0,.int .i64 0,.int .i64 0,.nils,.str [],.int .i64 0,.int .i64 0]
  simp only [c0]
  simp only [↓cw,↓reduceIte,Nat.reduceLT,Nat.reduceAdd,kk,Date.enc,g0,←hY0]
  clear hY0 g0 c0
  obtain ⟨x1,R1,h1⟩:∃ V1 R9,aW b R0=(V1,R9):=⟨_,_,rfl⟩
  have pR1:R1.pos≤b.length:=by have:=eH pR0;rw [h1] at this;exact this
  have c1:=fun K:KW=>aOd (r:=R0) hb pR0 k1.ra K
  rw [h1] at c1
  dsimp only at c1
  have g1:=aC (S:=(⟨Y0.next,Y0.heap.put a (.row 0 3 [R1.cells b])⟩:St)) (k1.rd R1).rq
  obtain ⟨Y1,hY1⟩:∃ W0:St,W0=⟨Y0.next,(Y0.heap.put a (.row 0 3 [R1.cells b])).put q (.row 0 15 [[.int .i64 5,.str x0,.int .i64 0,.str [],.int .i64 0,.int .i64 0,.int .i64 0,.int .i64 0,.int .i64 x1.y,.int .i64 x1.m,.int .i64 x1.d,.nils,.str [],.int .i64 0,.int .i64 0]])⟩:=⟨_,rfl⟩
  have k2:RB B b a q 15 R1 [.int .i64 5,.str x0,.int .i64 0,.str [],.int .i64 0,.int .i64 0,.int .i64 0,.int .i64 0,.int .i64 x1.y,.int .i64 x1.m,.int .i64 x1.d,.nils,.str [],.int .i64 0,.int .i64 0] Y1:=by rw [hY1];exact (k1.rd R1).qset [.int .i64 5,.str x0,.int .i64 0,.str [],.int .i64 0,.int .i64 0,.int .i64 0,.int .i64 0,.int .i64 x1.y,.int .i64 x1.m,.int .i64 x1.d,.nils,.str [],.int .i64 0,.int .i64 0]
  simp only [c1]
  simp only [↓cw,↓reduceIte,Nat.reduceLT,Nat.reduceAdd,kk,Date.enc,g1,←hY1]
  clear hY1 g1 c1
  obtain ⟨x2,R2,h2⟩:∃ V1 R9,aE b 64 R1=(V1,R9):=⟨_,_,rfl⟩
  have pR2:R2.pos≤b.length:=by have:=bD (most:=64) pR1;rw [h2] at this;exact this
  have c2:=fun K:KW=>wW (r:=R1) hb pR1 k2.ra K
  rw [h2] at c2
  dsimp only at c2
  have g2:=aC (S:=(⟨Y1.next,Y1.heap.put a (.row 0 3 [R2.cells b])⟩:St)) (k2.rd R2).rq
  obtain ⟨Y2,hY2⟩:∃ W0:St,W0=⟨Y1.next,(Y1.heap.put a (.row 0 3 [R2.cells b])).put q (.row 0 15 [[.int .i64 5,.str x0,.int .i64 0,.str [],.int .i64 0,.int .i64 0,.int .i64 0,.int .i64 0,.int .i64 x1.y,.int .i64 x1.m,.int .i64 x1.d,.nils,.str x2,.int .i64 0,.int .i64 0]])⟩:=⟨_,rfl⟩
  have k3:RB B b a q 15 R2 [.int .i64 5,.str x0,.int .i64 0,.str [],.int .i64 0,.int .i64 0,.int .i64 0,.int .i64 0,.int .i64 x1.y,.int .i64 x1.m,.int .i64 x1.d,.nils,.str x2,.int .i64 0,.int .i64 0] Y2:=by rw [hY2];exact (k2.rd R2).qset [.int .i64 5,.str x0,.int .i64 0,.str [],.int .i64 0,.int .i64 0,.int .i64 0,.int .i64 0,.int .i64 x1.y,.int .i64 x1.m,.int .i64 x1.d,.nils,.str x2,.int .i64 0,.int .i64 0]
  simp only [c2]
  simp only [↓cw,↓reduceIte,Nat.reduceLT,Nat.reduceAdd,kk,Date.enc,g2,←hY2]
  clear hY2 g2 c2
  obtain ⟨x3,R3,h3⟩:∃ V1 R9,aD b R2=(V1,R9):=⟨_,_,rfl⟩
  have pR3:R3.pos≤b.length:=by have:=aY pR2;rw [h3] at this;exact this
  have c3:=fun K:KW=>aAx (r:=R2) hb pR2 k3.ra K
  rw [h3] at c3
  dsimp only at c3
  have g3:=aC (S:=(⟨Y2.next,Y2.heap.put a (.row 0 3 [R3.cells b])⟩:St)) (k3.rd R3).rq
  obtain ⟨Y3,hY3⟩:∃ W0:St,W0=⟨Y2.next,(Y2.heap.put a (.row 0 3 [R3.cells b])).put q (.row 0 15 [[.int .i64 5,.str x0,.int .i64 0,.str [],.int .i64 0,.int .i64 0,.int .i64 0,.int .i64 0,.int .i64 x1.y,.int .i64 x1.m,.int .i64 x1.d,.nils,.str x2,.int .i64 x3,.int .i64 0]])⟩:=⟨_,rfl⟩
  have k4:RB B b a q 15 R3 [.int .i64 5,.str x0,.int .i64 0,.str [],.int .i64 0,.int .i64 0,.int .i64 0,.int .i64 0,.int .i64 x1.y,.int .i64 x1.m,.int .i64 x1.d,.nils,.str x2,.int .i64 x3,.int .i64 0] Y3:=by rw [hY3];exact (k3.rd R3).qset [.int .i64 5,.str x0,.int .i64 0,.str [],.int .i64 0,.int .i64 0,.int .i64 0,.int .i64 0,.int .i64 x1.y,.int .i64 x1.m,.int .i64 x1.d,.nils,.str x2,.int .i64 x3,.int .i64 0]
  simp only [c3]
  simp only [↓cw,↓reduceIte,Nat.reduceLT,Nat.reduceAdd,kk,Date.enc,g3,←hY3]
  clear hY3 g3 c3
  exact fin (c:={ bO 5 with series:=x0,day:=x1,of:=⟨x2,x3⟩ }) (v:=.nils) k4 (Own.nil _ _ _) (by unfold bW;simp only [Int.reduceEq,if_true,if_false,h0,h1,h2,h3])
 ·simp only [↓cw,↓reduceIte,Nat.reduceLT,kk,Int.reduceEq,decide_true,decide_false,Bool.false_eq_true,if_true,if_false,eV]
  exact fin (c:=bO 6) (v:=.nils) k0 (Own.nil _ _ _) (by unfold bW;simp only [Int.reduceEq,if_true,if_false])
 ·simp only [↓cw,↓reduceIte,Nat.reduceLT,kk,Int.reduceEq,decide_true,decide_false,Bool.false_eq_true,if_true,if_false,eV]
  obtain ⟨x0,R0,h0⟩:∃ V1 R9,aD b r=(V1,R9):=⟨_,_,rfl⟩
  have pR0:R0.pos≤b.length:=by have:=aY hp;rw [h0] at this;exact this
  have c0:=fun K:KW=>aAx (r:=r) hb hp k0.ra K
  rw [h0] at c0
  dsimp only at c0
  have g0:=aC (S:=(⟨B.next,B.heap.put a (.row 0 3 [R0.cells b])⟩:St)) (k0.rd R0).rq
  obtain ⟨Y0,hY0⟩:∃ W0:St,W0=⟨B.next,(B.heap.put a (.row 0 3 [R0.cells b])).put q (.row 0 15 [[.int .i64 7,.str [],.int .i64 0,.str [],.int .i64 0,.int .i64 0,.int .i64 0,.int .i64 0,.int .i64 0,.int .i64 0,.int .i64 0,.nils,.str [],.int .i64 0,.int .i64 x0]])⟩:=⟨_,rfl⟩
  have k1:RB B b a q 15 R0 [.int .i64 7,.str [],.int .i64 0,.str [],.int .i64 0,.int .i64 0,.int .i64 0,.int .i64 0,.int .i64 0,.int .i64 0,.int .i64 0,.nils,.str [],.int .i64 0,.int .i64 x0] Y0:=by rw [hY0];exact (k0.rd R0).qset [.int .i64 7,.str [],.int .i64 0,.str [],.int .i64 0,.int .i64 0,.int .i64 0,.int .i64 0,.int .i64 0,.int .i64 0,.int .i64 0,.nils,.str [],.int .i64 0,.int .i64 x0]
  simp only [c0]
  simp only [↓cw,↓reduceIte,Nat.reduceLT,Nat.reduceAdd,kk,Date.enc,g0,←hY0]
  clear hY0 g0 c0
  exact fin (c:={ bO 7 with session:=x0 }) (v:=.nils) k1 (Own.nil _ _ _) (by unfold bW;simp only [Int.reduceEq,if_true,if_false,h0])
 ·simp only [↓cw,↓reduceIte,Nat.reduceLT,kk,Int.reduceEq,decide_true,decide_false,Bool.false_eq_true,if_true,if_false,eV]
  obtain ⟨x0,R0,h0⟩:∃ V1 R9,aE b 64 r=(V1,R9):=⟨_,_,rfl⟩
  have pR0:R0.pos≤b.length:=by have:=bD (most:=64) hp;rw [h0] at this;exact this
  have c0:=fun K:KW=>wW (r:=r) hb hp k0.ra K
  rw [h0] at c0
  dsimp only at c0
  have g0:=aC (S:=(⟨B.next,B.heap.put a (.row 0 3 [R0.cells b])⟩:St)) (k0.rd R0).rq
  obtain ⟨Y0,hY0⟩:∃ W0:St,W0=⟨B.next,(B.heap.put a (.row 0 3 [R0.cells b])).put q (.row 0 15 [[.int .i64 8,.str x0,.int .i64 0,.str [],.int .i64 0,.int .i64 0,.int .i64 0,.int .i64 0,.int .i64 0,.int .i64 0,.int .i64 0,.nils,.str [],.int .i64 0,.int .i64 0]])⟩:=⟨_,rfl⟩
  have k1:RB B b a q 15 R0 [.int .i64 8,.str x0,.int .i64 0,.str [],.int .i64 0,.int .i64 0,.int .i64 0,.int .i64 0,.int .i64 0,.int .i64 0,.int .i64 0,.nils,.str [],.int .i64 0,.int .i64 0] Y0:=by rw [hY0];exact (k0.rd R0).qset [.int .i64 8,.str x0,.int .i64 0,.str [],.int .i64 0,.int .i64 0,.int .i64 0,.int .i64 0,.int .i64 0,.int .i64 0,.int .i64 0,.nils,.str [],.int .i64 0,.int .i64 0]
  simp only [c0]
  simp only [↓cw,↓reduceIte,Nat.reduceLT,Nat.reduceAdd,kk,Date.enc,g0,←hY0]
  clear hY0 g0 c0
  exact fin (c:={ bO 8 with series:=x0 }) (v:=.nils) k1 (Own.nil _ _ _) (by unfold bW;simp only [Int.reduceEq,if_true,if_false,h0])
theorem aTm:pX 215=some (.val (dD [(6,[(0,[]),(1,[]),(2,[]),(3,[]),(4,[]),(5,[4]),(6,[])])])):=by kernel_rfl
set_option maxHeartbeats 2000000 in
theorem aVx (b:List UInt8) (hb:b.length<1000000000) (S:St) (K:KW):C 143 [.str b] S K=K (oM (oL b)) S:=by
 refine (aTw rfl ?_).eq S K
 obtain ⟨K,hK⟩:∃ K:KW,K=fun v0 S0=>iE S0 v0=.ok (oM (oL b)):=⟨_,rfl⟩
 have H:∀ v S0,iE S0 v=.ok (oM (oL b))→K v S0:=fun v S0 h=>by rw [hK];exact h
 rw [←hK]
 clear hK
 unfold oL at H
 rw [←aJw] at H
 unfold aAu at H
 obtain ⟨S1,hS1⟩:∃ S1:St,S1=⟨2,(Tr.nil.put 0 (.row 0 17 [[.int .i64 0,.int .i64 0,.int .i64 0,.str [],.int .i64 0,.str [],.int .i64 0,.int .i64 0,.int .i64 0,.int .i64 0,.int .i64 0,.int .i64 0,.int .i64 0,.nils,.str [],.int .i64 0,.int .i64 0]])).put 1 (.row 0 1 (b.map dY))⟩:=⟨_,rfl⟩
 have hcv:=fun S=>cvS hb S
 delta Tryz.f143;simp only [↓cw,↓reduceIte,Nat.reduceLT,Nat.reduceAdd,kk,Nat.zero_add,hcv,←hS1]
 have w1:WF S1:=by rw [hS1];exact xA (n:=1) (xA (n:=0) wP (by decide) (by decide)) (by decide) (by decide)
 have n1:S1.next=2:=by rw [hS1]
 have g0:S1.heap.get 0=some (.row 0 17 [[.int .i64 0,.int .i64 0,.int .i64 0,.str [],.int .i64 0,.str [],.int .i64 0,.int .i64 0,.int .i64 0,.int .i64 0,.int .i64 0,.int .i64 0,.int .i64 0,.nils,.str [],.int .i64 0,.int .i64 0]]):=by rw [hS1];exact (Tr.get_put_neB _ _ _ _ trivial (by decide)).trans (Tr.get_put_sameB _ _ _ trivial)
 have g1:S1.heap.get 1=some (.row 0 1 (b.map dY)):=by rw [hS1];exact Tr.get_put_sameB _ _ _ trivial
 clear hS1
 have hel:aN S1 (.sl 1 0 1 0 b.length)=.ok (b.map dY):=by
  have:=sU g1 (i:=b.length) (by rw [List.length_map];omega)
  rw [this,List.take_of_length_le (by rw [List.length_map];omega)]
 refine aTj hb w1 hel fun a T xT ha haT first=>?_
 obtain ⟨Y,hYn,wY,hY,hC⟩:=first T (Ext.refl T)
 have nx:=xT.next
 have pY:Y.heap.get 0=some (.row 0 17 [[.int .i64 0,.int .i64 0,.int .i64 0,.str [],.int .i64 0,.str [],.int .i64 0,.int .i64 0,.int .i64 0,.int .i64 0,.int .i64 0,.int .i64 0,.int .i64 0,.nils,.str [],.int .i64 0,.int .i64 0]]):=by rw [hY 0 (.inl (by omega))];exact xT.old _ _ g0
 rw [hC]
 have h0a:0≠a:=by omega
 have haY:a<Y.next:=by omega
 have hp0:=aY (b:=b) (r:=⟨0,0⟩) (Nat.zero_le _)
 generalize aD b ⟨0,0⟩=y0 at H hp0 ⊢
 obtain ⟨s,r1⟩:=y0
 simp only at H hp0 ⊢
 obtain ⟨X1,hX1⟩:∃ X1:St,X1=St.at Y a (r1.cells b):=⟨_,rfl⟩
 have w1:WF X1:=by rw [hX1];exact St.wf_at haY wY
 have ra1:X1.heap.get a=some (.row 0 3 [r1.cells b]):=by rw [hX1];exact St.at_get _ _ _
 have p1:X1.heap.get 0=some (.row 0 17 [[.int .i64 0,.int .i64 0,.int .i64 0,.str [],.int .i64 0,.str [],.int .i64 0,.int .i64 0,.int .i64 0,.int .i64 0,.int .i64 0,.int .i64 0,.int .i64 0,.nils,.str [],.int .i64 0,.int .i64 0]]):=by rw [hX1];exact (Tr.get_put_neB _ _ _ _ trivial h0a).trans pY
 have la1:a<X1.next:=w1 _ _ ra1
 rw [←hX1]
 clear hX1 hC hY pY first
 obtain ⟨q,hq⟩:∃ q,q=X1.next:=⟨_,rfl⟩
 have haq:a≠q:=by omega
 have h0q:0≠q:=by omega
 obtain ⟨X2,hX2⟩:∃ X2:St,X2=⟨X1.next+1,(X1.heap.put X1.next (.row 0 17 [[.int .i64 0,.int .i64 0,.int .i64 0,.str [],.int .i64 0,.str [],.int .i64 0,.int .i64 0,.int .i64 0,.int .i64 0,.int .i64 0,.int .i64 0,.int .i64 0,.nils,.str [],.int .i64 0,.int .i64 0]])).put X1.next (.row 0 17 [[.int .i64 s,.int .i64 0,.int .i64 0,.str [],.int .i64 0,.str [],.int .i64 0,.int .i64 0,.int .i64 0,.int .i64 0,.int .i64 0,.int .i64 0,.int .i64 0,.nils,.str [],.int .i64 0,.int .i64 0]])⟩:=⟨_,rfl⟩
 have k2:RB X2 b a q 17 r1 [.int .i64 s,.int .i64 0,.int .i64 0,.str [],.int .i64 0,.str [],.int .i64 0,.int .i64 0,.int .i64 0,.int .i64 0,.int .i64 0,.int .i64 0,.int .i64 0,.nils,.str [],.int .i64 0,.int .i64 0] X2:=by
  refine RB.refl ?_ ?_ ?_ haq
  ·rw [hX2];exact xA (n:=X1.next+1) (xA (n:=X1.next) w1 (by omega) (by omega)) (by omega) (Nat.le_refl _)
  ·rw [hX2];exact (Tr.get_put_neB _ _ _ _ trivial (by omega)).trans ((Tr.get_put_neB _ _ _ _ trivial (by omega)).trans ra1)
  ·rw [hX2,hq];exact Tr.get_put_sameB _ _ _ trivial
 have p2:X2.heap.get 0=some (.row 0 17 [[.int .i64 0,.int .i64 0,.int .i64 0,.str [],.int .i64 0,.str [],.int .i64 0,.int .i64 0,.int .i64 0,.int .i64 0,.int .i64 0,.int .i64 0,.int .i64 0,.nils,.str [],.int .i64 0,.int .i64 0]]):=by rw [hX2];exact (Tr.get_put_neB _ _ _ _ trivial (by omega)).trans ((Tr.get_put_neB _ _ _ _ trivial (by omega)).trans p1)
 have hX0:0<X2.next:=k2.wf _ _ p2
 simp only [↓cw,↓reduceIte,Nat.reduceLT,Nat.reduceAdd,kk,←hX2]
 simp only [←hq]
 clear hX2 hq
 simp only [aAx hb hp0 k2.ra]
 have hp1:=aY hp0
 generalize aD b r1=y1 at H hp1 ⊢
 obtain ⟨u,r2⟩:=y1
 simp only at H hp1 ⊢
 obtain ⟨X4,hX4⟩:∃ X4:St,X4=⟨X2.next,(X2.heap.put a (.row 0 3 [r2.cells b])).put q (.row 0 17 [[.int .i64 s,.int .i64 u,.int .i64 0,.str [],.int .i64 0,.str [],.int .i64 0,.int .i64 0,.int .i64 0,.int .i64 0,.int .i64 0,.int .i64 0,.int .i64 0,.nils,.str [],.int .i64 0,.int .i64 0]])⟩:=⟨_,rfl⟩
 have k4:RB X2 b a q 17 r2 [.int .i64 s,.int .i64 u,.int .i64 0,.str [],.int .i64 0,.str [],.int .i64 0,.int .i64 0,.int .i64 0,.int .i64 0,.int .i64 0,.int .i64 0,.int .i64 0,.nils,.str [],.int .i64 0,.int .i64 0] X4:=by rw [hX4];exact (k2.rd r2).qset _
 have s3:=aC (S:=⟨X2.next,X2.heap.put a (.row 0 3 [r2.cells b])⟩) (k2.rd r2).rq
 simp only [↓cw,↓reduceIte,Nat.reduceLT,Nat.reduceAdd,kk,s3,←hX4]
 clear hX4
 have p4:X4.heap.get 0=some (.row 0 17 [[.int .i64 0,.int .i64 0,.int .i64 0,.str [],.int .i64 0,.str [],.int .i64 0,.int .i64 0,.int .i64 0,.int .i64 0,.int .i64 0,.int .i64 0,.int .i64 0,.nils,.str [],.int .i64 0,.int .i64 0]]):=(k4.old 0 hX0 h0a h0q).trans p2
 have s4:=aC p4
 have sa:=aC k4.ra
 simp only [Rd.cells] at sa
 by_cases he:r2.err=0
 rotate_left
 ·rw [if_pos he] at H
  have s7:=aC (S:=⟨X4.next+7,X4.heap⟩) p4
  have a7:=aC (S:=⟨X4.next+7,X4.heap⟩) k4.ra
  have a8:=aC (S:=⟨X4.next+7,X4.heap.put 0 (.row 0 17 [[.int .i64 0,.int .i64 0,.int .i64 0,.str [],.int .i64 0,.str [],.int .i64 0,.int .i64 0,.int .i64 0,.int .i64 0,.int .i64 0,.int .i64 0,.int .i64 0,.nils,.str [],.int .i64 0,.int .i64 0]])⟩) ((Tr.get_put_neB _ _ _ _ trivial h0a.symm).trans k4.ra)
  simp only [Rd.cells] at a7 a8
  simp only [↓cw,↓reduceIte,Nat.reduceLT,Nat.reduceAdd,kk,he,not_false_eq_true,if_true,sa,s4,s7,a7,a8,jG,aB]
  exact H _ _ (by simp only [oo,oM,qH,bO,Call.enc,List.map_nil])
 rw [if_neg (not_not_intro he)] at H
 simp only [↓cw,↓reduceIte,Nat.reduceLT,Nat.reduceAdd,kk,he,not_true_eq_false,if_false,sa]
 have hbd:(b.drop r2.pos).length<1000000000:=by rw [List.length_drop];omega
 have hcv2:=fun S=>cvS hbd S
 simp only [↓cw,↓reduceIte,Nat.reduceLT,Nat.reduceAdd,kk,slS hp1,hcv2]
 obtain ⟨bd,hbdd⟩:∃ bd,bd=b.drop r2.pos:=⟨_,rfl⟩
 rw [←hbdd] at H hbd ⊢
 obtain ⟨X5,hX5⟩:∃ X5:St,X5=⟨X4.next+1,X4.heap.put X4.next (.row 0 1 (bd.map dY))⟩:=⟨_,rfl⟩
 have x5:Ext X4 X5:=by rw [hX5];exact Ext.new k4.wf _
 have w5:=x5.wf k4.wf
 have g5:X5.heap.get X4.next=some (.row 0 1 (bd.map dY)):=by rw [hX5];exact Tr.get_put_sameB _ _ _ trivial
 have he5:aN X5 (.sl X4.next 0 1 0 bd.length)=.ok (bd.map dY):=by
  have:=sU g5 (i:=bd.length) (by rw [List.length_map];omega)
  rw [this,List.take_of_length_le (by rw [List.length_map];omega)]
 have f1:cC kD (lK (iS X5 3) X5) (.sl X4.next 0 1 0 bd.length)=.ok (.imm (bd.map dY)):=by
  simp only [cC,lK,he5,(cZ (S:=X5) (n:=2) (bG (enc:=dY) (fun _=>rfl) bd)).1]
 have f2:slsVs (fV (eX X5 3) X5) [.sl X4.next 0 1 0 bd.length]=[X4.next]:=by
  simp only [slsVs,eL,fV,he5,(cZ (S:=X5) (n:=2) (bG (enc:=dY) (fun _=>rfl) bd)).2];rfl
 obtain ⟨h',hk',h215⟩:=(aVw bd hbd).cutE aTm (by simp only [cloVs,eJ,bG (enc:=dY) (fun _=>rfl),Bool.and_self]) (args:=[.sl X4.next 0 1 0 bd.length]) (S:=X5) (by simp only [frzVs,f1]) rfl
 have hk':∀ z,z≠X4.next→h'.get z=X5.heap.get z:=fun z hz=>hk' z (by rw [f2];simpa using hz)
 have l0:0<X4.next:=Nat.lt_of_lt_of_le hX0 k4.nx
 have lq:q<X4.next:=k4.wf _ _ k4.rq
 have p6:h'.get 0=some (.row 0 17 [[.int .i64 0,.int .i64 0,.int .i64 0,.str [],.int .i64 0,.str [],.int .i64 0,.int .i64 0,.int .i64 0,.int .i64 0,.int .i64 0,.int .i64 0,.int .i64 0,.nils,.str [],.int .i64 0,.int .i64 0]]):=(hk' 0 (by omega)).trans (x5.old _ _ p4)
 have q6:h'.get q=some (.row 0 17 [[.int .i64 s,.int .i64 u,.int .i64 0,.str [],.int .i64 0,.str [],.int .i64 0,.int .i64 0,.int .i64 0,.int .i64 0,.int .i64 0,.int .i64 0,.int .i64 0,.nils,.str [],.int .i64 0,.int .i64 0]]):=(hk' q (by omega)).trans (x5.old _ _ k4.rq)
 have n5:X5.next=X4.next+1:=by rw [hX5]
 simp only [←hX5,h215]
 clear hX5 h215 hk' f1 f2 he5 g5
 generalize jL (cH bd) bd=gx at H ⊢
 obtain ⟨c,e⟩:=gx
 simp only at H
 simp only [tU,Cmd.enc]
 obtain ⟨X7,hX7⟩:∃ X7:St,X7=⟨X5.next+1,(h'.put X5.next (.row 0 15 [[.int .i64 0,.str [],.int .i64 0,.str [],.int .i64 0,.int .i64 0,.int .i64 0,.int .i64 0,.int .i64 0,.int .i64 0,.int .i64 0,.nils,.str [],.int .i64 0,.int .i64 0]])).put X5.next (.row 0 15 [[.int .i64 c.kind,.str c.series,.int .i64 c.limit,.str c.row.cat,.int .i64 c.row.day.y,.int .i64 c.row.day.m,.int .i64 c.row.day.d,.int .i64 c.row.bp,.int .i64 c.day.y,.int .i64 c.day.m,.int .i64 c.day.d,.imm (c.lines.map Line.enc),.str c.of.ser,.int .i64 c.of.num,.int .i64 c.session]])⟩:=⟨_,rfl⟩
 have p8:X7.heap.get 0=some (.row 0 17 [[.int .i64 0,.int .i64 0,.int .i64 0,.str [],.int .i64 0,.str [],.int .i64 0,.int .i64 0,.int .i64 0,.int .i64 0,.int .i64 0,.int .i64 0,.int .i64 0,.nils,.str [],.int .i64 0,.int .i64 0]]):=by rw [hX7];exact (Tr.get_put_neB _ _ _ _ trivial (by omega)).trans ((Tr.get_put_neB _ _ _ _ trivial (by omega)).trans p6)
 have q8:X7.heap.get q=some (.row 0 17 [[.int .i64 s,.int .i64 u,.int .i64 0,.str [],.int .i64 0,.str [],.int .i64 0,.int .i64 0,.int .i64 0,.int .i64 0,.int .i64 0,.int .i64 0,.int .i64 0,.nils,.str [],.int .i64 0,.int .i64 0]]):=by rw [hX7];exact (Tr.get_put_neB _ _ _ _ trivial (by omega)).trans ((Tr.get_put_neB _ _ _ _ trivial (by omega)).trans q6)
 have c8:X7.heap.get X5.next=some (.row 0 15 [[.int .i64 c.kind,.str c.series,.int .i64 c.limit,.str c.row.cat,.int .i64 c.row.day.y,.int .i64 c.row.day.m,.int .i64 c.row.day.d,.int .i64 c.row.bp,.int .i64 c.day.y,.int .i64 c.day.m,.int .i64 c.day.d,.imm (c.lines.map Line.enc),.str c.of.ser,.int .i64 c.of.num,.int .i64 c.session]]):=by rw [hX7];exact Tr.get_put_sameB _ _ _ trivial
 have s8:=aC p8
 have t8:=aC c8
 have u8:=aC q8
 by_cases ee:e=0
 rotate_left
 ·rw [if_pos ee] at H
  simp only [↓cw,↓reduceIte,Nat.reduceLT,Nat.reduceAdd,kk,←hX7,ee,not_false_eq_true,if_true,s8,aB]
  exact H _ _ (by simp only [oo,oM,qH,bO,Call.enc,List.map_nil])
 rw [if_neg (not_not_intro ee)] at H
 obtain ⟨X8,hX8⟩:∃ X8:St,X8=⟨X7.next,X7.heap.put q (.row 0 17 [[.int .i64 s,.int .i64 u,.int .i64 c.kind,.str c.series,.int .i64 c.limit,.str c.row.cat,.int .i64 c.row.day.y,.int .i64 c.row.day.m,.int .i64 c.row.day.d,.int .i64 c.row.bp,.int .i64 c.day.y,.int .i64 c.day.m,.int .i64 c.day.d,.imm (c.lines.map Line.enc),.str c.of.ser,.int .i64 c.of.num,.int .i64 c.session]])⟩:=⟨_,rfl⟩
 have p9:X8.heap.get 0=some (.row 0 17 [[.int .i64 0,.int .i64 0,.int .i64 0,.str [],.int .i64 0,.str [],.int .i64 0,.int .i64 0,.int .i64 0,.int .i64 0,.int .i64 0,.int .i64 0,.int .i64 0,.nils,.str [],.int .i64 0,.int .i64 0]]):=by rw [hX8];exact (Tr.get_put_neB _ _ _ _ trivial h0q).trans p8
 have q9:X8.heap.get q=some (.row 0 17 [[.int .i64 s,.int .i64 u,.int .i64 c.kind,.str c.series,.int .i64 c.limit,.str c.row.cat,.int .i64 c.row.day.y,.int .i64 c.row.day.m,.int .i64 c.row.day.d,.int .i64 c.row.bp,.int .i64 c.day.y,.int .i64 c.day.m,.int .i64 c.day.d,.imm (c.lines.map Line.enc),.str c.of.ser,.int .i64 c.of.num,.int .i64 c.session]]):=by rw [hX8];exact Tr.get_put_sameB _ _ _ trivial
 have s9:=aC p9
 have u9:=aC q9
 simp only [↓cw,↓reduceIte,Nat.reduceLT,Nat.reduceAdd,kk,←hX7,ee,not_true_eq_false,if_false,t8,u8,←hX8,s9,u9,aB]
 exact H _ _ (by simp only [oo,oM,Call.enc])
structure EntH where
 term:Int
 mem:Int
 data:List UInt8
def EntH.enc (e:EntH):List V:=[.int .i64 e.term,.int .i64 e.mem,.str e.data]
theorem aIf {l:List EntH} {i:Nat} {a:EntH} (hi:l[i]?=some a) (k:IntKind):tL 3 (.imm (l.map EntH.enc)) (.int k (i:Int))=.ok (.iptr a.enc 0):=ixI (enc:=EntH.enc) hi rfl k
def dB (base:Int) (st:List Call×List Int×Nat) (e:EntH):(List Call×List Int)⊕(List Call×List Int×Nat):=
 if e.mem≠0 then .inr (st.1,st.2.1,st.2.2+1) else if e.data=[] then .inr (st.1,st.2.1,st.2.2+1) else if (oL e.data).2≠0 then .inr (st.1,st.2.1,st.2.2+1) else
 .inr (st.1++[(oL e.data).1],st.2.1++[base+1+(st.2.2:Int)],st.2.2+1)
def eW (base:Int) (l:List EntH):List Call×List Int:=tN (dB base) (fun s=>(s.1,s.2.1)) l ([],[],0)
theorem Call.clo (c:Call):cloVs c.enc=true:=by simp only [Call.enc,cloVs,eJ,bG (enc:=Line.enc) (fun _=>rfl),Bool.and_self]
theorem aNr (z:List V) (parts:List (Nat×V)) (fr:Option Nat) (S:St):type_of% (bsl 17 z parts fr S (by decide)):=bsl 17 z parts fr S (by decide)
theorem g56 (base:Int) (hb0:0≤base) (hb1:base≤1099511627776) (l:List EntH) (hl:l.length≤60) (hd:∀ e∈l,e.data.length<1000000000) (S:St) (K:KW):C 56 [.int .i64 base,.imm (l.map EntH.enc)] S K=K (.tup [.imm ((eW base l).1.map Call.enc),.imm ((eW base l).2.map dO)]) S:=by
 refine (v56 rfl ?_).eq S K
 delta Tryz.f56;simp only [↓cw,↓reduceIte,Nat.reduceLT,kk,List.length_map]
 refine jH l (step:=dB base) (fin:=fun s=>(s.1,s.2.1)) (fun i st vs X=>∃ u v,vs=[u,v,.int .i64 (i:Int)]∧Own E0 X 17 u (st.1.map Call.enc)∧Own E0 X 1 v (st.2.1.map dO)∧st.2.2=i∧st.1.length≤i∧st.2.1.length≤i∧WF X) (fun r=>r=eW base l) ?_ ?_ (s:=([],[],0)) ⟨_,_,rfl,Own.nil _ _ _,Own.nil _ _ _,rfl,Nat.le_refl _,Nat.le_refl _,wP⟩ rfl
 ·rintro i e ⟨cs,ats,n⟩ vs X hi ⟨u,v,rfl,ou,ov,hn,lc,la,w⟩ bF H
  have hn:n=i:=hn
  subst hn
  have hil:=(List.getElem?_eq_some_iff.1 hi).1
  have hde:=hd e (List.mem_of_getElem? hi)
  simp only at ou ov lc la
  have h55:=fun S K=>g55 e.data hde S K
  simp only [dB] at H
  simp only [↓cw,↓reduceIte,Nat.reduceLT,Nat.reduceAdd,kk,yV hi,if_true,aIf hi,EntH.enc,wr1 (show n<1000000000 by omega)]
  have hwr:wr .i64 (wr .i64 (base+1)+(n:Int))=base+1+(n:Int):=by
   rw [iX (n:=base+1) (by omega) (by omega),iX (by omega) (by omega)]
  obtain ⟨X1,hX1⟩:∃ X1:St,X1=X.var 3 [.int .i64 0,.int .i64 0,.str []] [.int .i64 e.term,.int .i64 e.mem,.str e.data]:=⟨_,rfl⟩
  have x1:Ext X X1:=by rw [hX1];exact Ext.var w 3 _ _
  have w1:=x1.wf w
  have ou1:=ou.ext x1
  have ov1:=ov.ext x1
  simp only [St.var] at hX1
  simp only [←hX1]
  by_cases c1:e.mem=0
  rotate_left
  ·simp only [c1,not_false_eq_true,ne_eq,if_true] at H ⊢
   exact H _ _ ⟨u,v,rfl,ou1,ov1,trivial,by omega,by omega,w1⟩
  by_cases c2:e.data=[]
  ·simp only [c1,c2,not_true_eq_false,ne_eq,if_true,if_false,beq_self_eq_true] at H ⊢
   exact H _ _ ⟨u,v,rfl,ou1,ov1,trivial,by omega,by omega,w1⟩
  have c2':(e.data == [])=false:=by simpa using c2
  simp only [c1,c2,not_true_eq_false,ne_eq,if_false] at H
  simp only [c1,c2',not_true_eq_false,if_false,Bool.false_eq_true,h55,oM]
  generalize oL e.data=dd at H ⊢
  obtain ⟨c,ec⟩:=dd
  simp only at H ⊢
  obtain ⟨X2,hX2⟩:∃ X2:St,X2=X1.var 17 [.int .i64 0,.int .i64 0,.int .i64 0,.str [],.int .i64 0,.str [],.int .i64 0,.int .i64 0,.int .i64 0,.int .i64 0,.int .i64 0,.int .i64 0,.int .i64 0,.nils,.str [],.int .i64 0,.int .i64 0] c.enc:=⟨_,rfl⟩
  have x2:Ext X1 X2:=by rw [hX2];exact Ext.var w1 17 _ _
  have w2:=x2.wf w1
  have ou2:=ou1.ext x2
  have ov2:=ov1.ext x2
  have g2:X2.heap.get X1.next=some (.row 0 17 [c.enc]):=by rw [hX2];exact Tr.get_put_sameB _ _ _ trivial
  have r2:=aC g2
  simp only [St.var,Call.enc] at hX2
  simp only [Call.enc] at r2
  by_cases c3:ec=0
  rotate_left
  ·simp only [c3,not_false_eq_true,if_true] at H
   simp only [↓cw,↓reduceIte,Nat.reduceLT,Nat.reduceAdd,kk,Call.enc,←hX2,c3,not_false_eq_true,if_true]
   exact H _ _ ⟨u,v,rfl,ou2,ov2,trivial,by omega,by omega,w2⟩
  simp only [c3,not_true_eq_false,if_false] at H
  obtain ⟨u',X3,q1,x3,o3,b3,k3,n3⟩:=(ou2.ext (Ext.new w2 (.row 0 17 [c.enc]))).pushG (b:=176) (aEd ((Ext.new w2 _).wf w2)) wP (u:=.sl X2.next 0 17 0 1) (cs:=[c.enc]) (by simp only [aN,aB];rfl) (fun d hd=>by rcases List.mem_singleton.1 hd with rfl;exact aI5 c) (by simp) (by simp;omega) (by simp [fZ];omega)
  have w3:=x3.wf wP
  have ov3:Own E0 X3 1 v (ats.map dO):=by
   have ov2':=ov2.ext (Ext.new w2 (.row 0 17 [c.enc]))
   exact ov2'.same n3 fun y hy=>k3 y (mQ ov2' hy).2 (Own.apart (by decide) ov2' (ou2.ext (Ext.new w2 (.row 0 17 [c.enc]))) hy)
  obtain ⟨v',X4,q2,x4,o4,b4,k4,n4⟩:=(ov3.ext (Ext.new w3 (.row 0 1 [[.int .i64 (base+1+(n:Int))]]))).pushG (b:=8) (aEd ((Ext.new w3 _).wf w3)) wP (u:=.sl X3.next 0 1 0 1) (cs:=[dO (base+1+(n:Int))]) (by simp only [aN,aB];rfl) (fun d hd=>by rcases List.mem_singleton.1 hd with rfl;exact aSj _) (by simp) (by simp;omega) (by simp [fZ];omega)
  have ou4:Own E0 X4 17 u' ((cs++[c]).map Call.enc):=by
   have ou3':=o3.ext (Ext.new w3 (.row 0 1 [[.int .i64 (base+1+(n:Int))]]))
   rw [List.map_append]
   exact ou3'.same n4 fun y hy=>k4 y (mQ ou3' hy).2 (Own.apart (by decide) ou3' (ov3.ext (Ext.new w3 (.row 0 1 [[.int .i64 (base+1+(n:Int))]]))) hy)
  simp only [Call.enc] at q1
  simp only [↓cw,↓reduceIte,Nat.reduceLT,Nat.reduceAdd,kk,Call.enc,←hX2,c3,not_true_eq_false,if_false,r2,aNr,q1,hwr,aSh,q2]
  exact H _ _ ⟨u',v',rfl,ou4,by rw [List.map_append];exact o4,trivial,by simp;omega,by simp;omega,x4.wf wP⟩
 ·rintro ⟨cs,ats,n⟩ vs X ⟨u,v,rfl,ou,ov,hn,lc,la,w⟩ bF H
  have H:(cs,ats)=eW base l:=H
  simp only [↓cw,↓reduceIte,Nat.reduceLT,kk,Int.lt_irrefl,if_false,oo,ou.frz (bG (fun c=>Call.clo c) _),ov.frz (bG (fun _=>rfl) _),←H]
theorem g57 (base:Int) (hb0:0≤base) (hb1:base≤1099511627776) (l:List EntH) (hl:l.length≤60) (hd:∀ e∈l,e.data.length<1000000000) (S:St) (K:KW):C 57 [.int .i64 base,.imm (l.map EntH.enc)] S K=K (.tup [.imm ((eW base l).1.map Call.enc),.imm ((eW base l).2.map dO)]) S:=by
 refine (v57 rfl ?_).eq S K
 delta Tryz.f57;simp only [↓cw,↓reduceIte,Nat.reduceLT,kk,List.length_map]
 refine jH l (step:=dB base) (fin:=fun s=>(s.1,s.2.1)) (fun i st vs X=>∃ u v,vs=[u,v,.int .i64 (i:Int)]∧Own E0 X 17 u (st.1.map Call.enc)∧Own E0 X 1 v (st.2.1.map dO)∧st.2.2=i∧st.1.length≤i∧st.2.1.length≤i∧WF X) (fun r=>r=eW base l) ?_ ?_ (s:=([],[],0)) ⟨_,_,rfl,Own.nil _ _ _,Own.nil _ _ _,rfl,Nat.le_refl _,Nat.le_refl _,wP⟩ rfl
 ·rintro i e ⟨cs,ats,n⟩ vs X hi ⟨u,v,rfl,ou,ov,hn,lc,la,w⟩ bF H
  have hn:n=i:=hn
  subst hn
  have hil:=(List.getElem?_eq_some_iff.1 hi).1
  have hde:=hd e (List.mem_of_getElem? hi)
  simp only at ou ov lc la
  have h143:=fun S K=>aVx e.data hde S K
  simp only [dB] at H
  simp only [↓cw,↓reduceIte,Nat.reduceLT,Nat.reduceAdd,kk,yV hi,if_true,aIf hi,EntH.enc,wr1 (show n<1000000000 by omega)]
  have hwr:wr .i64 (wr .i64 (base+1)+(n:Int))=base+1+(n:Int):=by
   rw [iX (n:=base+1) (by omega) (by omega),iX (by omega) (by omega)]
  have w1:=w
  have ou1:=ou
  have ov1:=ov
  by_cases c1:e.mem=0
  rotate_left
  ·simp only [c1,not_false_eq_true,ne_eq,if_true] at H ⊢
   exact H _ _ ⟨u,v,rfl,ou1,ov1,trivial,by omega,by omega,w1⟩
  by_cases c2:e.data=[]
  ·simp only [c1,c2,not_true_eq_false,ne_eq,if_true,if_false,beq_self_eq_true] at H ⊢
   exact H _ _ ⟨u,v,rfl,ou1,ov1,trivial,by omega,by omega,w1⟩
  have c2':(e.data == [])=false:=by simpa using c2
  simp only [c1,c2,not_true_eq_false,ne_eq,if_false] at H
  simp only [c1,c2',not_true_eq_false,if_false,Bool.false_eq_true,h143,oM]
  generalize oL e.data=dd at H ⊢
  obtain ⟨c,ec⟩:=dd
  simp only at H ⊢
  obtain ⟨X2,hX2⟩:∃ X2:St,X2=X.var 17 [.int .i64 0,.int .i64 0,.int .i64 0,.str [],.int .i64 0,.str [],.int .i64 0,.int .i64 0,.int .i64 0,.int .i64 0,.int .i64 0,.int .i64 0,.int .i64 0,.nils,.str [],.int .i64 0,.int .i64 0] c.enc:=⟨_,rfl⟩
  have x2:Ext X X2:=by rw [hX2];exact Ext.var w1 17 _ _
  have w2:=x2.wf w1
  have ou2:=ou1.ext x2
  have ov2:=ov1.ext x2
  have g2:X2.heap.get X.next=some (.row 0 17 [c.enc]):=by rw [hX2];exact Tr.get_put_sameB _ _ _ trivial
  have r2:=aC g2
  simp only [St.var,Call.enc] at hX2
  simp only [Call.enc] at r2
  by_cases c3:ec=0
  rotate_left
  ·simp only [c3,not_false_eq_true,if_true] at H
   simp only [↓cw,↓reduceIte,Nat.reduceLT,Nat.reduceAdd,kk,Call.enc,←hX2,c3,not_false_eq_true,if_true]
   exact H _ _ ⟨u,v,rfl,ou2,ov2,trivial,by omega,by omega,w2⟩
  simp only [c3,not_true_eq_false,if_false] at H
  obtain ⟨u',X3,q1,x3,o3,b3,k3,n3⟩:=(ou2.ext (Ext.new w2 (.row 0 17 [c.enc]))).pushG (b:=176) (aEd ((Ext.new w2 _).wf w2)) wP (u:=.sl X2.next 0 17 0 1) (cs:=[c.enc]) (by simp only [aN,aB];rfl) (fun d hd=>by rcases List.mem_singleton.1 hd with rfl;exact aI5 c) (by simp) (by simp;omega) (by simp [fZ];omega)
  have w3:=x3.wf wP
  have ov3:Own E0 X3 1 v (ats.map dO):=by
   have ov2':=ov2.ext (Ext.new w2 (.row 0 17 [c.enc]))
   exact ov2'.same n3 fun y hy=>k3 y (mQ ov2' hy).2 (Own.apart (by decide) ov2' (ou2.ext (Ext.new w2 (.row 0 17 [c.enc]))) hy)
  obtain ⟨v',X4,q2,x4,o4,b4,k4,n4⟩:=(ov3.ext (Ext.new w3 (.row 0 1 [[.int .i64 (base+1+(n:Int))]]))).pushG (b:=8) (aEd ((Ext.new w3 _).wf w3)) wP (u:=.sl X3.next 0 1 0 1) (cs:=[dO (base+1+(n:Int))]) (by simp only [aN,aB];rfl) (fun d hd=>by rcases List.mem_singleton.1 hd with rfl;exact aSj _) (by simp) (by simp;omega) (by simp [fZ];omega)
  have ou4:Own E0 X4 17 u' ((cs++[c]).map Call.enc):=by
   have ou3':=o3.ext (Ext.new w3 (.row 0 1 [[.int .i64 (base+1+(n:Int))]]))
   rw [List.map_append]
   exact ou3'.same n4 fun y hy=>k4 y (mQ ou3' hy).2 (Own.apart (by decide) ou3' (ov3.ext (Ext.new w3 (.row 0 1 [[.int .i64 (base+1+(n:Int))]]))) hy)
  simp only [Call.enc] at q1
  simp only [↓cw,↓reduceIte,Nat.reduceLT,Nat.reduceAdd,kk,Call.enc,←hX2,c3,not_true_eq_false,if_false,r2,aNr,q1,hwr,aSh,q2]
  exact H _ _ ⟨u',v',rfl,ou4,by rw [List.map_append];exact o4,trivial,by simp;omega,by simp;omega,x4.wf wP⟩
 ·rintro ⟨cs,ats,n⟩ vs X ⟨u,v,rfl,ou,ov,hn,lc,la,w⟩ bF H
  have H:(cs,ats)=eW base l:=H
  simp only [↓cw,↓reduceIte,Nat.reduceLT,kk,Int.lt_irrefl,if_false,oo,ou.frz (bG (fun c=>Call.clo c) _),ov.frz (bG (fun _=>rfl) _),←H]
theorem aJz {l:List Line} {i:Nat} {a:Line} (hi:l[i]?=some a) (k:IntKind):tL 4 (.imm (l.map Line.enc)) (.int k (i:Int))=.ok (.iptr a.enc 0):=ixI (enc:=Line.enc) hi rfl k
theorem aVy (l:List Line) (hl:l.length<1000000) (S:St) (K:KW):C 144 [.imm (l.map Line.enc),.imm (l.map Line.enc)] S K=K (.bool true) S:=by
 refine (aTx (by simp only [cloVs,eJ,bG (enc:=Line.enc) (fun _=>rfl),Bool.and_self]) ?_).eq S K
 delta Tryz.f144;simp only [↓cw,↓reduceIte,Nat.reduceLT,kk,List.length_map,not_true_eq_false,if_false]
 refine jH l (step:=fun (_:Unit) (_:Line)=>(.inr ():Bool⊕Unit)) (fin:=fun _=>true) (fun i _ vs X=>vs=[.bool false,.int .i64 (i:Int)]) (fun _=>True) ?_ ?_ (s:=()) rfl trivial
 ·rintro i x _ vs X hi rfl bF H
  have hil:=(List.getElem?_eq_some_iff.1 hi).1
  simp only [↓cw,↓reduceIte,Nat.reduceLT,Nat.reduceAdd,kk,List.length_map,yV hi,if_true,aJz hi,Line.enc,wr1 (show i<1000000000 by omega)]
  simp only [beq_self_eq_true,decide_true,Bool.and_self,Bool.not_true,Bool.false_eq_true,if_false]
  exact H _ _ rfl
 ·rintro _ vs X rfl bF H
  simp only [↓cw,↓reduceIte,Nat.reduceLT,kk,List.length_map,Int.lt_irrefl,if_false]
theorem g58 (l:List Int) (hl:l.length<1000000) (S:St) (K:KW):C 58 [.imm (l.map dO),.imm (l.map dO)] S K=K (.bool true) S:=by
 refine (v58 (by simp only [cloVs,eJ,bG (enc:=dO) (fun _=>rfl),Bool.and_self]) ?_).eq S K
 delta Tryz.f58;simp only [↓cw,↓reduceIte,Nat.reduceLT,kk,List.length_map,not_true_eq_false,if_false]
 refine jH l (step:=fun (_:Unit) (_:Int)=>(.inr ():Bool⊕Unit)) (fin:=fun _=>true) (fun i _ vs X=>vs=[.bool false,.int .i64 (i:Int)]) (fun _=>True) ?_ ?_ (s:=()) rfl trivial
 ·rintro i x _ vs X hi rfl bF H
  have hil:=(List.getElem?_eq_some_iff.1 hi).1
  simp only [↓cw,↓reduceIte,Nat.reduceLT,Nat.reduceAdd,kk,List.length_map,yV hi,if_true,aO7 hi,dO,wr1 (show i<1000000000 by omega)]
  rw [if_neg (not_not_intro trivial)]
  exact H _ _ rfl
 ·rintro _ vs X rfl bF H
  simp only [↓cw,↓reduceIte,Nat.reduceLT,kk,List.length_map,Int.lt_irrefl,if_false]
theorem g59 (c:Cmd) (hl:c.lines.length<1000000) (S:St) (K:KW):C 59 [.agg c.enc,.agg c.enc] S K=K (.bool true) S:=by
 refine (v59 (by have:=c.clo;simp only [cloVs,Bool.and_true] at this ⊢;rw [this];rfl) ?_).eq S K
 have h144:=fun S K=>aVy c.lines hl S K
 delta Tryz.f59;simp only [↓cw,↓reduceIte,Nat.reduceLT,Nat.reduceAdd,kk,Cmd.enc,pD,gm,h144]
 simp only [beq_self_eq_true,decide_true,Bool.and_self,if_true]
theorem aAy (b:List UInt8):(oL b).1.cmd.lines.length<1000000:=by
 unfold oL aAu
 split
 ·simp [qH,bO]
 split
 ·simp [qH,bO]
 ·rename_i h
  exact (aD5 (by simpa using h)).2.2
theorem wZ (base:Int) (l:List EntH):∀ c∈(eW base l).1,c.cmd.lines.length<1000000:=by
 have key:∀ (l:List EntH) (s:List Call×List Int×Nat),(∀ c∈s.1,c.cmd.lines.length<1000000)→∀ c∈(tN (dB base) (fun s=>(s.1,s.2.1)) l s).1,c.cmd.lines.length<1000000:=by
  intro l
  induction l with
  | nil=>intro s hs;exact hs
  | cons e l ih=>
   intro s hs
   simp only [tN,dB]
   split
   ·rename_i r hr
    split at hr
    ·cases hr
    split at hr
    ·cases hr
    split at hr
    ·cases hr
    cases hr
   ·rename_i s' hr
    apply ih
    split at hr
    ·cases hr;exact hs
    split at hr
    ·cases hr;exact hs
    split at hr
    ·cases hr;exact hs
    cases hr
    intro c hc
    rcases List.mem_append.1 hc with h | h
    ·exact hs c h
    ·rw [List.mem_singleton.1 h];exact aAy _
 exact key l _ (by simp)
theorem aAz (base:Int) (l:List EntH):(eW base l).1.length≤l.length∧(eW base l).2.length≤l.length:=by
 have key:∀ (l:List EntH) (s:List Call×List Int×Nat),(tN (dB base) (fun s=>(s.1,s.2.1)) l s).1.length≤s.1.length+l.length∧(tN (dB base) (fun s=>(s.1,s.2.1)) l s).2.length≤s.2.1.length+l.length:=by
  intro l
  induction l with
  | nil=>intro s;exact ⟨Nat.le_refl _,Nat.le_refl _⟩
  | cons e l ih=>
   intro s
   simp only [tN,dB]
   split
   ·rename_i r hr
    split at hr
    ·cases hr
    split at hr
    ·cases hr
    split at hr
    ·cases hr
    cases hr
   ·rename_i s' hr
    have:=ih s'
    split at hr
    ·cases hr;simp only [List.length_cons] at this ⊢;omega
    split at hr
    ·cases hr;simp only [List.length_cons] at this ⊢;omega
    split at hr
    ·cases hr;simp only [List.length_cons] at this ⊢;omega
    cases hr
    simp only [List.length_cons,List.length_append,List.length_nil] at this ⊢;omega
 have:=key l ([],[],0)
 simpa [eW] using this
theorem g18 (h49:∀ S K,C 49 [] S K=K (.bool true) S) (base:Int) (l:List EntH) (hd:∀ e∈l,e.data.length<1000000000) (S:St) (K:KW):C 18 [.int .i64 base,.imm (l.map EntH.enc)] S K=K (.bool true) S:=by
 refine (v18 (by simp only [cloVs,eJ,bG (enc:=EntH.enc) (fun _=>rfl),Bool.and_self]) ?_).eq S K
 delta Tryz.f18
 by_cases c1:(60:Int)<(l.length:Int)
 ·simp only [↓cw,↓reduceIte,Nat.reduceLT,kk,List.length_map,c1,if_true,h49]
 by_cases c2:base<0
 ·simp only [↓cw,↓reduceIte,Nat.reduceLT,kk,List.length_map,c1,c2,if_false,if_true,h49]
 by_cases c3:(1099511627776:Int)<base
 ·simp only [↓cw,↓reduceIte,Nat.reduceLT,kk,List.length_map,c1,c2,c3,if_false,if_true,h49]
 have h56:=fun S K=>g56 base (by omega) (by omega) l (by omega) hd S K
 have h57:=fun S K=>g57 base (by omega) (by omega) l (by omega) hd S K
 have hn:=aAz base l
 have h58:=fun S K=>g58 (eW base l).2 (by omega) S K
 simp only [↓cw,↓reduceIte,Nat.reduceLT,kk,List.length_map,c1,c2,c3,if_false,pD,gm,h56,h57,h58,not_true_eq_false]
 refine jH (eW base l).1 (step:=fun (_:Unit) (_:Call)=>(.inr ():Bool⊕Unit)) (fin:=fun _=>true) (fun i _ vs X=>vs=[.bool false,.int .i64 (i:Int)]) (fun _=>True) ?_ ?_ (s:=()) rfl trivial
 ·rintro i x _ vs X hi rfl bF H
  have hil:=(List.getElem?_eq_some_iff.1 hi).1
  have h59:=fun S K=>g59 x.cmd (wZ base l x (List.mem_of_getElem? hi)) S K
  simp only [Cmd.enc] at h59
  simp only [↓cw,↓reduceIte,Nat.reduceLT,Nat.reduceAdd,kk,List.length_map,yV hi,if_true,aO5 hi,Call.enc,wr1 (show i<1000000000 by omega),h59,not_true_eq_false,if_false]
  exact H _ _ rfl
 ·rintro _ vs X rfl bF H
  simp only [↓cw,↓reduceIte,Nat.reduceLT,kk,List.length_map,Int.lt_irrefl,if_false,h49]
theorem aVz:pX 49=some (.spec (Sp.told.run prog)):=by kernel_rfl
theorem g49 (S:St) (K:KW):C 49 [] S K=K (.bool true) S:=aNu aVz rfl K
end Go.Proofs.YtoaibmbldmckaaaGreat
end
section
namespace Go.AM
open Go.RowKit
section
def lH (P:Program) (B:Nat):Nat→TypeId→List V→Prop
 | 0,_,_=>False
 | n+1,t,xs=>match P.underlying t with
  | some .string=>∃ l,xs=[.str l]∧l.length≤B
  | some (.slice e)=>∃ es,xs=[.imm es]∧es.length≤B∧∀ c,c∈es→lH P B n e c
  | some (.struct fs)=>∀ f,f∈fs.toList→lH P B n f.type ((xs.drop f.offset).take (P.cellsOf f.type))
  | _=>True
section
variable {H:Type} {enc:TypeId×Value→H} {P:Program} {W:World} {sp:Nat→Bool} {held:Bool}
theorem aIg {n:Nat} {cs:List Value} {A:TypeId→List V→Prop} {Q:DataW H→Prop} (ih:∀ (t:TypeId) (cs:List Value) (x:DataW H×List MemPlace) (d:Nat),mS P d t=true→DataW.trod enc P W 0 sp held n t cs=some x→Q x.1→∃ xs,VRs (Gh.all W) xs cs∧A t xs) {d:Nat}:
  ∀ (l:List Field) (o e:Nat),aD0 P l o e=true→e≤cs.length→(∀ f,f∈l→mS P d f.type=true∧∃ x,Q x.1∧DataW.trod enc P W 0 sp held n f.type ((cs.drop f.offset).take (P.cellsOf f.type))=some x)→
   o≤e∧∃ xs,VRs (Gh.all W) xs ((cs.drop o).take (e - o))∧∀ f,f∈l→o≤f.offset∧A f.type ((xs.drop (f.offset - o)).take (P.cellsOf f.type))
 | [],o,e,h,he,_=>by
  have:o=e:=Nat.eq_of_beq_eq_true h
  subst this
  exact ⟨Nat.le_refl _,[],by rw [Nat.sub_self];exact .nil,fun _ h=>by cases h⟩
 | f::l,o,e,h,he,hf=>by
  simp only [aD0,Bool.and_eq_true] at h
  have h0:f.offset=o:=Nat.eq_of_beq_eq_true h.1
  obtain ⟨hle,xs,hv,hs⟩:=aIg ih l (o+P.cellsOf f.type) e h.2 he (fun g hg=>hf g (List.mem_cons_of_mem _ hg))
  obtain ⟨hpl,x,hq,hx⟩:=hf f (List.mem_cons_self ..)
  obtain ⟨ys,hy,hsy⟩:=ih _ _ _ d hpl hx hq
  rw [h0] at hy
  have hyl:ys.length=P.cellsOf f.type:=by rw [hy.length,List.length_take,List.length_drop];omega
  refine ⟨by omega,ys++xs,?_,fun g hg=>?_⟩
  ·have:(cs.drop o).take (e - o)=(cs.drop o).take (P.cellsOf f.type)++(cs.drop (o+P.cellsOf f.type)).take (e - (o+P.cellsOf f.type)):=by
    rw [←List.drop_drop,←List.take_add]
    congr 1
    omega
   rw [this]
   exact hy.append hv
  ·rcases List.mem_cons.1 hg with rfl | hg
   ·refine ⟨by omega,?_⟩
    rw [h0,Nat.sub_self,List.drop_zero,List.take_append_of_le_length (by omega),List.take_of_length_le (by omega)]
    exact hsy
   ·obtain ⟨h1,h2⟩:=hs g hg
    refine ⟨by omega,?_⟩
    rw [List.drop_append,List.drop_eq_nil_of_le (by omega),List.nil_append,hyl]
    have:g.offset - o - P.cellsOf f.type=g.offset - (o+P.cellsOf f.type):=by omega
    rw [this]
    exact h2
theorem sX {B:Nat} {Q:DataW H→Prop} (hQt:∀ l,Q (.lit (.string l))→l.length≤B) (hQs:∀ l r,Q (.slice l r)→l.length≤B∧∀ d∈l,Q d) (hQa:∀ l,Q (.agg l)→∀ d∈l,Q d):
  ∀ (n:Nat) (t:TypeId) (cs:List Value) (x:DataW H×List MemPlace) (d:Nat),mS P d t=true→DataW.trod enc P W 0 sp held n t cs=some x→Q x.1→∃ xs,VRs (Gh.all W) xs cs∧bH P n t xs∧lH P B n t xs
 | 0,t,cs,x,d,_,h,_=>by simp [DataW.trod] at h
 | n+1,t,cs,x,0,hp,h,_=>by cases hp
 | n+1,t,cs,x,d+1,hp,h,hq0=>by
  simp only [mS] at hp
  split at hp
  ·rename_i ht
   obtain ⟨b,rfl,_⟩:=DataW.trod_bool ht h
   exact ⟨[.bool b],.cons _ _ _ _ (.bool b) .nil,by simp only [bH,ht];exact ⟨b,rfl⟩,by simp only [lH,ht]⟩
  ·rename_i k ht
   obtain ⟨i,rfl,_,hw⟩:=DataW.trod_int ht h
   exact ⟨[.int k i],.cons _ _ _ _ (.int k i) .nil,by simp only [bH,ht];exact ⟨i,rfl,hw⟩,by simp only [lH,ht]⟩
  ·rename_i ht
   obtain ⟨s,rfl,hx1,hs⟩:=DataW.trod_string ht h
   rw [hx1] at hq0
   refine ⟨[.str s.data.toList],.cons _ _ _ _ (.str s.data.toList) .nil,?_,by simp only [lH,ht];exact ⟨_,rfl,hQt _ hq0⟩⟩
   simp only [bH,ht]
   exact ⟨_,rfl,hs⟩
  ·rename_i e ht
   simp only [Bool.and_eq_true,Nat.blt_eq] at hp
   rcases DataW.trod_slice ht h with ⟨rfl,_⟩ | ⟨a,len,cap,elems,rest,m,hm,rfl,hx1,_,hlc,hcap,hel,hget,_,_⟩
   ·exact ⟨[.imm []],.cons _ _ _ _ .imm0 .nil,by simp only [bH,ht];exact ⟨[],rfl,Nat.zero_le _,fun c hc=>by cases hc⟩,by simp only [lH,ht];exact ⟨[],rfl,Nat.zero_le _,fun c hc=>by cases hc⟩⟩
   ·have hm:m=n:=by omega
    subst hm
    have hq:elems.length≤B∧∀ y∈elems,Q y.1:=by
     rw [hx1] at hq0
     obtain ⟨q1,q2⟩:=hQs _ _ hq0
     rw [List.length_map] at q1
     exact ⟨q1,fun y hy=>q2 _ (List.mem_map_of_mem hy)⟩
    obtain ⟨l,hl,hq⟩:=aD1 (Q:=fun i (y:List V×List Value)=>W.cells? 0 (a.add (i*P.cellsOf e)) (P.cellsOf e)=some y.2∧VRs (Gh.all W) y.1 y.2∧bH P m e y.1∧lH P B m e y.1) len (fun i hi=>by
     have h1:=hget i hi
     rw [List.getElem?_eq_getElem (by omega:i<elems.length)] at h1
     rw [Option.bind_eq_some_iff] at h1
     obtain ⟨r,h2,h3⟩:=h1
     obtain ⟨c,h4,h5⟩:=sX hQt hQs hQa m e r _ d hp.2 h3 (hq.2 _ (List.getElem_mem _))
     exact ⟨(c,r),h2,h4,h5⟩)
    have hlen:∀ y,y∈l→y.1.length=P.cellsOf e∧y.2.length=P.cellsOf e:=fun y hy=>by
     obtain ⟨i,hi⟩:=List.mem_iff_getElem?.1 hy
     obtain ⟨h1,h2,_⟩:=hq i y hi
     have:=(pE h1).1
     exact ⟨by rw [h2.length];exact this,this⟩
    refine ⟨[.imm (l.map (·.1))],.cons _ _ _ _ (.imm _ a len cap (P.cellsOf e) (by rw [List.length_map,hl]) hlc (l.map (·.2)) (VRss.of fun y hy=>?_) (fun c hc=>?_) ?_) .nil,?_,?_⟩
    ·obtain ⟨i,hi⟩:=List.mem_iff_getElem?.1 hy
     exact (hq i y hi).2.1
    ·obtain ⟨y,hy,rfl⟩:=List.mem_map.1 hc
     exact (hlen y hy).1
    ·by_cases h0:len=0
     ·exact .inl h0
     ·right
      obtain ⟨y0,hy0⟩:∃ y0,l[0]?=some y0:=⟨l[0]'(by omega),List.getElem?_eq_getElem (by omega)⟩
      obtain ⟨h1,_,_⟩:=hq 0 y0 hy0
      rw [Nat.zero_mul,vG] at h1
      obtain ⟨hyl,hcell⟩:=pE h1
      obtain ⟨v0,hv0⟩:∃ v0,y0.2[0]?=some v0:=⟨y0.2[0]'(by omega),List.getElem?_eq_getElem (by omega)⟩
      have hc0:=hcell 0 v0 hv0
      rw [vG] at hc0
      obtain ⟨c,ty,fr,hh,hs,_⟩:=aD2 hc0
      refine ⟨c,ty,fr,hh,hs,fun i r hr k v hk=>?_⟩
      rw [List.getElem?_map] at hr
      obtain ⟨y,hy,rfl⟩:∃ y,l[i]?=some y∧y.2=r:=by
       cases hy:l[i]? with
       | none=>rw [hy] at hr;cases hr
       | some y=>rw [hy] at hr;exact ⟨y,rfl,Option.some.inj hr⟩
      obtain ⟨h2,_,_⟩:=hq i y hy
      obtain ⟨c',ty',fr',hh',_,hv⟩:=aD2 ((pE h2).2 k v hk)
      rw [vF,vF,hh] at hh'
      rw [aD3,aD3] at hv
      cases hh'
      exact hv
    ·simp only [bH,ht]
     refine ⟨_,rfl,by rw [List.length_map,hl];omega,fun c hc=>?_⟩
     obtain ⟨y,hy,rfl⟩:=List.mem_map.1 hc
     obtain ⟨i,hi⟩:=List.mem_iff_getElem?.1 hy
     exact ⟨(hlen y hy).1,(hq i y hi).2.2.1⟩
    ·simp only [lH,ht]
     refine ⟨_,rfl,by rw [List.length_map,hl];have:=‹elems.length≤B∧∀ y∈elems,Q y.1›.1;omega,fun c hc=>?_⟩
     obtain ⟨y,hy,rfl⟩:=List.mem_map.1 hc
     obtain ⟨i,hi⟩:=List.mem_iff_getElem?.1 hy
     exact (hq i y hi).2.2.2
  ·rename_i fs ht
   simp only [Bool.and_eq_true,List.all_eq_true] at hp
   obtain ⟨xs,m,hm,hx1,hcl,hxl,hf⟩:=DataW.trod_struct ht h
   have hm:m=n:=by omega
   subst hm
   have hq:∀ y∈xs,Q y.1:=by
    rw [hx1] at hq0
    exact fun y hy=>hQa _ hq0 _ (List.mem_map_of_mem hy)
   obtain ⟨_,ys,h1,h2⟩:=aIg (enc:=enc) (sp:=sp) (held:=held) (cs:=cs) (A:=fun t xs=>bH P m t xs∧lH P B m t xs) (Q:=Q) (fun t cs x d=>sX hQt hQs hQa m t cs x d) fs.toList 0 (P.cellsOf t) hp.1 (Nat.le_of_eq hcl.symm) (fun f hfm=>by
    refine ⟨hp.2 f hfm,?_⟩
    obtain ⟨i,hi⟩:=List.mem_iff_getElem?.1 hfm
    have hi':fs[i]?=some f:=by simpa using hi
    rw [hf i f hi']
    have:i<xs.length:=by
     rw [hxl]
     by_cases c:i<fs.size
     ·exact c
     ·rw [Array.getElem?_eq_none (by omega)] at hi';cases hi'
    exact ⟨_,hq _ (List.getElem_mem this),List.getElem?_eq_getElem this⟩)
   rw [Nat.sub_zero,List.drop_zero,List.take_of_length_le (by omega)] at h1
   refine ⟨ys,h1,?_,?_⟩
   ·simp only [bH,ht]
    refine ⟨by rw [h1.length,hcl],fun f hfm=>?_⟩
    have:=(h2 f hfm).2
    rw [Nat.sub_zero] at this
    exact this.1
   ·simp only [lH,ht]
    intro f hfm
    have:=(h2 f hfm).2
    rw [Nat.sub_zero] at this
    exact this.2
  ·cases hp
theorem qR {B:Nat} {Q:DataW H→Prop} (hQt:∀ l,Q (.lit (.string l))→l.length≤B) (hQs:∀ l r,Q (.slice l r)→l.length≤B∧∀ d∈l,Q d) (hQa:∀ l,Q (.agg l)→∀ d∈l,Q d) {r:Reach} {b0 d:Nat} {t e:TypeId} {v:Value} {dd:DataW H} {ps:List MemPlace} (ht:P.underlying t=some (.slice e)) (hpl:mS P d t=true) (hval:Value.okWide P W r b0 t v) (hd:DataW.Trod enc P W 0 sp held t v dd ps) (hq:Q dd):
  ∃ x n,VR (Gh.all W) x v∧bH P n t [x]∧lH P B n t [x]:=by
 obtain ⟨fuel,hf⟩:=hd
 obtain ⟨xs,h1,h2⟩:=sX hQt hQs hQa fuel t _ _ d hpl hf hq
 rw [tS ht hval] at h1
 cases h1 with
 | cons x _ vs _ hx t'=>
  cases t'
  exact ⟨x,fuel,hx,h2⟩
end
end
end Go.AM
end
section
namespace Go.Proofs.YtoaibmbldmckaaaGreat
open Go.AM Tryz
theorem aW0:prog.cellsOf 220=3:=by kernel_rfl
theorem aOe {n:Nat} {xs:List V} (h:bH prog n 220 xs):∃ e:EntH,xs=e.enc:=by
 obtain ⟨m,hl,hf⟩:=aEh Tryz.underlying220 h
 rw [aW0] at hl
 have h0:bH prog m 3 ((xs.drop 0).take (prog.cellsOf 3)):=hf 0 _ rfl
 rw [c3] at h0
 obtain ⟨x0,e0⟩:=aI9 h0
 have q0:=cut xs 0 1
 rw [e0] at q0
 have h1:bH prog m 3 ((xs.drop 1).take (prog.cellsOf 3)):=hf 1 _ rfl
 rw [c3] at h1
 obtain ⟨x1,e1⟩:=aI9 h1
 have q1:=cut xs 1 1
 rw [e1] at q1
 have h2:bH prog m 9 ((xs.drop 2).take (prog.cellsOf 9)):=hf 2 _ rfl
 rw [c9] at h2
 obtain ⟨x2,e2⟩:=aO9 h2
 have q2:=cut xs 2 1
 rw [e2] at q2
 have hend:xs.drop 3=[]:=List.drop_eq_nil_of_le (by omega)
 have hx:xs=[.int .i64 x0]++([.int .i64 x1]++([.str x2]++[])):=by
  have z:xs=xs.drop 0:=rfl
  rw [z,q0,q1,q2]
  show _=_
  rw [show (2+1:Nat)=3 from rfl,hend]
 rw [hx]
 exact ⟨⟨x0,x1,x2⟩,rfl⟩
theorem aK0 {n:Nat} {xs:List V} (h:bH prog n 114 xs):∃ l:List EntH,xs=[.imm (l.map EntH.enc)]:=by
 obtain ⟨m,es,h,hes⟩:=aI8 Tryz.underlying114 h
 obtain ⟨l,hl⟩:=zA (enc:=EntH.enc) fun c hc=>aOe (hes c hc).2
 exact ⟨l,by rw [h,hl]⟩
theorem aOf {B n:Nat} {l:List EntH} (h:lH prog B n 114 [.imm (l.map EntH.enc)]):∀ e∈l,e.data.length≤B:=by
 cases n with
 | zero=>cases h
 | succ n=>
  simp only [lH,Tryz.underlying114] at h
  obtain ⟨es,he,_,h⟩:=h
  cases he
  intro e hm
  have h:=h _ (List.mem_map_of_mem hm)
  cases n with
  | zero=>cases h
  | succ n=>
   simp only [lH,Tryz.underlying220] at h
   have h2:lH prog B n 9 ((e.enc.drop 2).take (prog.cellsOf 9)):=h _ (List.mem_iff_getElem?.2 ⟨2,rfl⟩)
   rw [c9] at h2
   cases n with
   | zero=>cases h2
   | succ n=>
    simp only [lH,Tryz.underlying9] at h2
    obtain ⟨d,hd,hl⟩:=h2
    cases hd
    exact hl
end Go.Proofs.YtoaibmbldmckaaaGreat
end
