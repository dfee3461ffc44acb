import Derived.ChangeArms
import Derived.ProofKit
import Derived.Test.YtbiidlmhadihlaaX2
set_option linter.unusedSimpArgs false
set_option linter.unusedVariables false
set_option linter.unusedSectionVars false
set_option maxRecDepth 100000
section
namespace Go.Proofs.Ytbiidlmhadihlaa
open Go.AM Go.Raft Try
def nT (n:Int):List V:=[.int .i64 n]
theorem tZ {l:List Int}:(l.map nT).length=l.length:=List.length_map ..
theorem aLg (S:St) (n:Int):bM 1 [.int .i64 0] 1 [(0,.int .i64 n)] none S=.ok (.sl S.next 0 1 0 1,⟨S.next+1,S.heap.put S.next (.row 0 1 [nT n])⟩):=by
 unfold bM
 rw [if_pos (by omega)]
 simp only [dM]
 rfl
def mR (m:Int) (l:List Int) (i:Nat):List Int⊕List Int:=.inr (if bJ m (i:Int)=true then l++[(i:Int)] else l)
theorem aXr (m:Int):fW (mR m) id (List.range 7) []=gN m:=by
 show fW (mR m) id [0,1,2,3,4,5,6] []=_
 simp only [fW,mR,gN,qR,id,Int.natCast_zero,List.filter_cons,List.filter_nil]
 have e1:((1:Nat):Int)=1:=rfl
 have e2:((2:Nat):Int)=2:=rfl
 have e3:((3:Nat):Int)=3:=rfl
 have e4:((4:Nat):Int)=4:=rfl
 have e5:((5:Nat):Int)=5:=rfl
 have e6:((6:Nat):Int)=6:=rfl
 simp only [e1,e2,e3,e4,e5,e6]
 cases bJ m 0<;>cases bJ m 1<;>cases bJ m 2<;>cases bJ m 3<;>cases bJ m 4<;>cases bJ m 5<;>cases bJ m 6<;>rfl
theorem aXs (m:Int) (S:St) (w:WF S) (h0:0≤m):Does prog bC bD 101 [.int .i64 m] S (fun u S'=>Ext S S'∧Own S S' 1 u ((gN m).map nT)):=by
 refine bAs ?_
 simp only [aRb]
 rw [←aXr]
 refine Ok.loopL (F:=fun k K=>yB (aC prog bC bD k) k K (.int .i64 m)) (ρ:=List Int) (α:=Nat) (X:=V) (List.range 7) (step:=mR m) (fin:=id) (s:=[])
  (out:=fun k K x S'=>K x S')
  (fun i l vs S'=>∃ u,vs=[u,.int .i64 (i:Int)]∧Ext S S'∧Own S S' 1 u (l.map nT)∧l.length≤i)
  (fun l u S'=>Ext S S'∧Own S S' 1 u (l.map nT)) ?_ ?_ ⟨.nils,rfl,Ext.refl S,Own.nil _ _ _,Nat.le_refl _⟩ (fun x S1 h=>Ok.ret h)
 ·rintro i j l vs S1 ⟨u,rfl,x1,own1,hl⟩ hi
  have hj:i<7∧j=i:=by
   obtain ⟨h1,h2⟩:=List.getElem?_eq_some_iff.1 hi
   rw [List.length_range] at h1
   rw [List.getElem_range] at h2
   exact ⟨h1,h2.symm⟩
  obtain ⟨hj,rfl⟩:=hj
  have hlt:(j:Int)<7:=by omega
  have hw:wr .i64 ((j:Int)+1)=((j+1:Nat):Int):=by rw [cR (by omega) (by omega)];omega
  simp only [yB,bE,bG,aG,hlt,decide_true,bT]
  refine (g50 m j S1 h0).callL fun S2 x2=>?_
  have x02:=x1.trans x2
  refine OkL.pick (fun h=>?_) (fun h=>?_)
  ·have hnew:=Ext.new (x02.wf w) (.row 0 1 [nT (j:Int)])
   have hel:bZ (⟨S2.next+1,S2.heap.put S2.next (.row 0 1 [nT (j:Int)])⟩:St) (.sl S2.next 0 1 0 1)=.ok [nT (j:Int)]:=by
    simp only [bZ,gJ]
    rfl
   obtain ⟨u',S4,r1,r2,_,r4⟩:=((own1.ext x2).ext hnew).push (b:=8) (x02.trans hnew) w hel (fun c hc=>by rw [List.mem_singleton.1 hc];exact ⟨rfl,rfl⟩) (by simp) (by rw [tZ];simp only [List.length_cons,List.length_nil];omega) (by rw [tZ];simp only [List.length_cons,List.length_nil];unfold fO;omega)
   simp only [aVh,aLg,aP2,r1,aG,bQ,hw]
   refine OkL.next ⟨l++[(j:Int)],by unfold mR;rw [if_pos h],u',rfl,r2,by rw [List.map_append];exact r4,by simp;omega⟩
  ·simp only [bQ,hw,aG]
   refine OkL.next ⟨l,by unfold mR;rw [h];rfl,u,rfl,x02,own1.ext x2,by omega⟩
 ·rintro l vs S1 ⟨u,rfl,x1,own1,hl⟩
  refine ⟨u,⟨x1,own1⟩,fun k K aO=>?_⟩
  have hlt:¬ (((List.range 7).length:Nat):Int)<7:=by rw [List.length_range];decide
  simp only [yB,bE,bG,aG,hlt,decide_false,aH]
theorem g93 (m:Int) (S:St) (w:WF S) (h0:0≤m):xD 93 [.int .i64 m] S (.int .i64 (gO m)):=by
 refine e93 ?_
 simp only [m93]
 refine Does.call (aXs m S w h0) fun u S1 ⟨x1,own1⟩=>?_
 simp only [aLc,own1.sl.lenI,aG]
 exact Ok.ret ⟨rfl,x1⟩
theorem g92 (m:Int) (S:St):xD 92 [.int .i64 m] S (.bool (lE m)):=by
 refine e92 ?_
 simp only [m92,eX,fR,aG]
 refine Ok.pickP (fun c0=>Ok.ret ⟨by simp [lE,c0],Ext.refl S⟩) (fun c0=>Ok.ret ⟨by simp [lE,c0],Ext.refl S⟩)
theorem aHd (m:Int):0≤gO m∧gO m≤7:=by
 unfold gO gN
 have:=List.length_filter_le (bJ m) qR
 have h7:qR.length=7:=rfl
 omega
theorem aPg {m n:Int} (h0:0≤m) (h1:m≤127) (k0:0≤n) (k1:n≤127):wr .i64 ((BitVec.ofInt IntKind.i64.bits m &&& BitVec.ofInt IntKind.i64.bits n).toNat)=aC2 m n:=by
 have all:∀ a:Nat,a<128→∀ b:Nat,b<128→((a &&& b:Nat):Int)=aC2 (a:Int) (b:Int):=by decide +kernel
 have hm:m=(m.toNat:Int):=by omega
 have hn:n=(n.toNat:Int):=by omega
 have e:(BitVec.ofInt IntKind.i64.bits m &&& BitVec.ofInt IntKind.i64.bits n).toNat=m.toNat &&& n.toNat:=by
  show (BitVec.ofInt 64 m &&& BitVec.ofInt 64 n).toNat=_
  rw [BitVec.toNat_and,BitVec.toNat_ofInt,BitVec.toNat_ofInt]
  congr 1<;>omega
 have hle:m.toNat &&& n.toNat≤m.toNat:=Nat.and_le_left
 rw [e,cR (by omega) (by omega),all _ (by omega) _ (by omega),←hm,←hn]
theorem aMp {m n:Int} (h0:0≤m) (h1:m≤127) (k0:0≤n) (k1:n≤127):0≤aC2 m n:=by
 rw [←aPg h0 h1 k0 k1]
 have hle:(BitVec.ofInt IntKind.i64.bits m &&& BitVec.ofInt IntKind.i64.bits n).toNat≤127:=by
  show (BitVec.ofInt 64 m &&& BitVec.ofInt 64 n).toNat≤_
  rw [BitVec.toNat_and,BitVec.toNat_ofInt,BitVec.toNat_ofInt]
  exact Nat.le_trans Nat.and_le_left (by omega)
 rw [cR (by omega) (by omega)]
 omega
theorem g84 (m yes:Int) (S:St) (w:WF S) (k0:0≤yes) (k1:yes≤127):xD 84 [.int .i64 m,.int .i64 yes] S (.bool (iJ m yes)):=by
 refine e84 ?_
 simp only [m84]
 refine (g92 m S).call fun S1 x1=>?_
 refine Ok.pick (fun h=>?_) (fun h=>Ok.ret ⟨by unfold iJ;rw [h];rfl,x1⟩)
 have hs:=h
 simp only [lE,Bool.and_eq_true,decide_eq_true_eq] at hs
 have han:aD prog .and 3 (.int .i64 m) (.int .i64 yes)=.ok (.int .i64 (aC2 m yes)):=by
  simp only [aD,bW,cond_true,eA,aPg (show 0≤m by omega) hs.2 k0 k1]
 simp only [han,aG]
 refine (g93 _ S1 (x1.wf w) (aMp (by omega) hs.2 k0 k1)).call fun S2 x2=>?_
 have c1:=aHd (aC2 m yes)
 have hw:wr .i64 (2*gO (aC2 m yes))=2*gO (aC2 m yes):=cR (by omega) (by omega)
 simp only [aL5,hw,aG]
 refine (g93 m S2 ((x1.trans x2).wf w) (by omega)).call fun S3 x3=>?_
 simp only [dF,aG]
 exact Ok.ret ⟨by unfold iJ;rw [h];rfl,x1.trans (x2.trans x3)⟩
theorem g34 (d:Int) (S:St):xD 34 [.int .i64 d] S (.int .i64 (dH d)):=by
 refine e34 ?_
 obtain ⟨r0,r1⟩:=nS d
 have ht:-11<d.tmod 11∧d.tmod 11<11:=by
  have:=Int.tmod_eq_emod (a:=d) (b:=11)
  have h1:=Int.emod_nonneg d (b:=11) (by omega)
  have h2:=Int.emod_lt_of_pos d (b:=11) (by omega)
  split at this<;>omega
 simp only [m34,aEd _ _ _ _ _ (by decide:(11:Int)≠0),bG,bQ,aG]
 refine Ok.pickP (fun h=>Ok.ret ⟨?_,Ext.refl S⟩) (fun h=>Ok.ret ⟨?_,Ext.refl S⟩)
 ·have e:wr .i64 (d.tmod 11+11)=d.tmod 11+11:=cR (by omega) (by omega)
  unfold dH;rw [if_pos h,e,cR (by omega) (by omega)]
 ·unfold dH;rw [if_neg h,cR (by omega) (by omega)]
def vW (b len:Int) (i:Nat) (x:Entry):(Int×Int)⊕Nat:=if x.members=0 then .inr (i+1) else .inl (x.members,b+(len - i))
theorem aAq (x:Entry):∀ (l:List Entry) (b:Int) (r:Int×Int),ofL b (l++[x]) r=if x.members=0 then ofL b l r else (x.members,b+l.length+1)
 | [],b,r=>by simp [ofL]
 | y::l,b,r=>by
  simp only [List.cons_append,ofL,aAq x l,List.length_cons]
  split
  ·rfl
  ·congr 1;push_cast;omega
theorem aXt (b:Int) (r:Int×Int):∀ (n:Nat) (l:List Entry) (i:Nat),l.length=n→fW (vW b ((l.length+i:Nat):Int)) (fun _=>r) l.reverse i=ofL b l r:=by
 intro n
 induction n with
 | zero=>
  intro l i h
  have:l=[]:=List.length_eq_zero_iff.1 h
  subst this
  rfl
 | succ n ih=>
  intro l i h
  obtain ⟨m,x,rfl⟩:∃ m x,l=m++[x]:=by
   rcases List.eq_nil_or_concat l with rfl | ⟨m,p,rfl⟩
   ·simp at h
   ·exact ⟨m,p,by simp⟩
  simp only [List.length_append,List.length_cons,List.length_nil] at h
  rw [List.reverse_append,aAq]
  simp only [List.reverse_cons,List.reverse_nil,List.nil_append,List.singleton_append,fW,vW]
  split
  ·rename_i s hs
   split at hs
   ·cases hs
   ·rename_i hm
    cases hs
    rw [if_neg hm]
    congr 1
    simp only [List.length_append,List.length_cons,List.length_nil]
    push_cast;omega
  ·rename_i s hs
   split at hs
   ·rename_i hm
    cases hs
    rw [if_pos hm]
    have:=ih m (i+1) (by omega)
    have e:(m++[x]).length+i=m.length+(i+1):=by simp;omega
    rw [e]
    exact this
   ·cases hs
theorem g49 (h:Hard) (lv:V) (S:St) (w:WF S) (hs:Sl S 3 lv (h.log.map bR)) (hl:h.log.length≤1000000) (b0:0≤h.base) (b1:h.base≤1099511627776):xD 49 [.agg (bB h lv)] S (.tup [.int .i64 (ofM h).1,.int .i64 (ofM h).2]):=by
 refine e49 ?_
 have ho:=dW h hs.one
 have hln:(bB h lv).length=7:=rfl
 obtain ⟨S1,hn1,x1,hg1,hnx1⟩:=nb w 7 (bB h lv)
 have w1:=x1.wf w
 have hs1:=hs.ext x1
 have ldl:∀ {T:St},T.heap.get S.next=some (.row 0 7 [bB h lv])→aL none (.ptr S.next 0 0 (0+6)) T=.ok lv:=fun hg=>by rw [aY _ _ _ _ _ (aX hg)];rfl
 have ldb:∀ {T:St},T.heap.get S.next=some (.row 0 7 [bB h lv])→aL none (.ptr S.next 0 0 (0+2)) T=.ok (.int .i64 h.base):=fun hg=>by rw [aY _ _ _ _ _ (aX hg)];rfl
 have ldm:∀ {T:St},T.heap.get S.next=some (.row 0 7 [bB h lv])→aL none (.ptr S.next 0 0 (0+4)) T=.ok (.int .i64 h.members):=fun hg=>by rw [aY _ _ _ _ _ (aX hg)];rfl
 have hw1:wr .i64 ((h.log.length:Int) - 1)=(h.log.length:Int) - 1:=cR (by omega) (by omega)
 simp only [m49,bK,ho,hln,aU,hn1,aG,eR,aF,iC,ldl hg1,kD,hs1.lenI,cL,hw1]
 have hall:ofM h=fW (vW h.base ((h.log.length+0:Nat):Int)) (fun _=>(h.members,h.base)) h.log.reverse 0:=(aXt h.base (h.members,h.base) _ h.log 0 rfl).symm
 rw [hall]
 have hrl:h.log.reverse.length=h.log.length:=List.length_reverse
 refine Ok.loop (F:=fun k K=>aA7 (aC prog bC bD k) k K (.ptr S.next 0 0 0)) (ρ:=Int×Int) (α:=Entry) (X:=Int×Int) h.log.reverse (step:=vW h.base ((h.log.length+0:Nat):Int)) (fin:=fun _=>(h.members,h.base)) (s:=0)
  (out:=fun k K x S'=>K (.tup [.int .i64 x.1,.int .i64 x.2]) S')
  (fun i n vs T=>n=i∧vs=[.int .i64 0,.int .i64 0,.int .i64 ((h.log.length:Int) - 1 - i)]∧Ext S1 T)
  (fun r x T=>r=x∧Ext S1 T) ?_ ?_ ⟨rfl,by simp,Ext.refl _⟩ (fun x T ⟨e,xt⟩=>Ok.ret ⟨by rw [e],x1.trans xt⟩)
 ·rintro i x n vs T ⟨rfl,rfl,xt⟩ hi
  have hil:n<h.log.length:=by have:=(List.getElem?_eq_some_iff.1 hi).1;omega
  have hge:(0:Int)≤(h.log.length:Int) - 1 - (n:Int):=by omega
  obtain ⟨j,hj⟩:∃ j:Nat,(h.log.length:Int) - 1 - (n:Int)=(j:Int):=⟨h.log.length - 1 - n,by omega⟩
  have hgj:(0:Int)≤(j:Int):=by omega
  have hjx:h.log[j]?=some x:=by
   rw [List.getElem?_reverse hil] at hi
   rw [show j=h.log.length - 1 - n by omega];exact hi
  have xb:Ext T (⟨T.next+13,T.heap⟩:St):=(Ext.refl T).bump 13
  have gt:=xt.old _ _ hg1
  have gb:=xb.old _ _ gt
  obtain ⟨p,hp,hat,_,_⟩:=((hs1.ext xt).ext xb).elem hjx
  have hat0:aL none (adv 1 p) T=.ok (.int .i64 x.members):=by
   obtain ⟨p',hp',hat',_,_⟩:=(hs1.ext xt).elem hjx
   rw [hp] at hp';cases hp'
   rw [hat'.load];rfl
  have hat1:aL none (adv 1 p) (⟨T.next+13,T.heap⟩:St)=.ok (.int .i64 x.members):=by rw [hat.load];rfl
  have hw2:wr .i64 ((j:Int) - 1)=(h.log.length:Int) - 1 - ((n+1:Nat):Int):=by rw [cR (by omega) (by omega)];push_cast;omega
  have hw3:wr .i64 (h.base+(j:Int))=h.base+(j:Int):=cR (by omega) (by omega)
  have hw4:wr .i64 (h.base+(j:Int)+1)=h.base+((h.log.length:Int) - n):=by rw [cR (by omega) (by omega)];omega
  have pre:∀ (k:Nat) (K:KS) (aO:Ag),aA7 (aC prog bC bD k) k K (.ptr S.next 0 0 0) [.int .i64 0,.int .i64 0,.int .i64 ((h.log.length:Int) - 1 - n)] T aO=if x.members=0 then aO [.int .i64 0,.int .i64 0,.int .i64 ((h.log.length:Int) - 1 - ((n+1:Nat):Int))] T else K (.tup [.int .i64 x.members,.int .i64 (h.base+((h.log.length:Int) - n))]) (⟨T.next+13,T.heap⟩:St):=by
   intro k K aO
   simp only [aA7,bE,eX,aG,hj,hgj,decide_true,bT,eR,fF,aF,iC,ldl gt,ldl gb,hj,aBw,hp,aP4,hat.advW,dY,hat0,hat1,ldb gb,aR,aU,dG,bQ,cL,hw2,hw3,hw4]
   by_cases c:x.members=0
   ·simp only [c,decide_true,Bool.not_true,aH,if_true]
   ·simp only [c,decide_false,Bool.not_false,bT,if_false]
  refine ⟨0,?_⟩
  by_cases c:x.members=0
  ·exact .inr ⟨n+1,[.int .i64 0,.int .i64 0,.int .i64 ((h.log.length:Int) - 1 - ((n+1:Nat):Int))],T,by unfold vW;rw [if_pos c],⟨rfl,rfl,xt⟩,fun k K aO _=>by rw [pre,if_pos c]⟩
  ·exact .inl ⟨(x.members,h.base+((h.log.length:Int) - n)),(x.members,h.base+((h.log.length:Int) - n)),(⟨T.next+13,T.heap⟩:St),by unfold vW;rw [if_neg c];simp,⟨rfl,xt.trans xb⟩,fun k K aO _=>by rw [pre,if_neg c]⟩
 ·rintro n vs T ⟨rfl,rfl,xt⟩
  have hge:¬ (0:Int)≤(h.log.length:Int) - 1 - ((h.log.reverse.length:Nat):Int):=by omega
  have xb:Ext T (⟨T.next+6,T.heap⟩:St):=(Ext.refl T).bump 6
  have gb:=xb.old _ _ (xt.old _ _ hg1)
  refine ⟨0,(h.members,h.base),(⟨T.next+6,T.heap⟩:St),⟨rfl,xt.trans xb⟩,fun k K aO _=>?_⟩
  simp only [aA7,bE,eX,aG,hge,decide_false,aH,aEy,fF,aF,dY,ldm gb,ldb gb]
theorem aC3 (n a b:Int) (S:St):xD 103 [.int .i64 n,.int .i64 a,.int .i64 b] S (.bool (mW n a b)):=by
 refine bAu ?_
 simp only [aRf,eX,fR,aG]
 refine Ok.pickP (fun c0=>Ok.ret ⟨by simp [mW,c0],Ext.refl S⟩) (fun c0=>Ok.ret ⟨by simp [mW,c0],Ext.refl S⟩)
theorem aAr (s:List UInt8):(s == ([]:List UInt8))=decide (s=[]):=by cases s<;>simp
theorem g95 (x:Entry) (b t:Int) (S:St) (w:WF S):xD 95 [.agg (bR x),.int .i64 b,.int .i64 t] S (.bool (pN x b t)):=by
 refine e95 ?_
 have ho:aK (bR x)=true:=rfl
 have hln:(bR x).length=3:=rfl
 obtain ⟨S1,hn1,x1,hg1,hnx1⟩:=nb w 3 (bR x)
 have v0:aL none (.ptr S.next 0 0 (0+0)) S1=.ok (.int .i64 x.term):=by rw [aY _ _ _ _ _ (aX hg1)];rfl
 have v1:aL none (.ptr S.next 0 0 (0+1)) S1=.ok (.int .i64 x.members):=by rw [aY _ _ _ _ _ (aX hg1)];rfl
 have v2:aL none (.ptr S.next 0 0 (0+2)) S1=.ok (.str x.data):=by rw [aY _ _ _ _ _ (aX hg1)];rfl
 have hl9:dI prog 9 (.str x.data) S1=.ok (.int .i64 x.data.length):=vH (by kernel_rfl) _ _
 simp only [m95,bK,ho,hln,aU,hn1,aG,kB,aP4,aVj,aF,dY,ld9,v0,v1,v2,hl9,bG,dF,fR,aR,qI,bX,yA,aAr]
 refine Ok.pickP (fun c=>Ok.ret ⟨by rw [pN,decide_eq_false (by omega:¬ 1≤x.term)];rfl,x1⟩) fun c1=>?_
 refine Ok.pickP (fun c=>Ok.ret ⟨by rw [pN,decide_eq_true (by omega:1≤x.term),decide_eq_false (by omega:¬ b≤x.term)];rfl,x1⟩) fun c2=>?_
 refine Ok.pickP (fun c=>Ok.ret ⟨by rw [pN,decide_eq_true (by omega:1≤x.term),decide_eq_true (by omega:b≤x.term),decide_eq_false (by omega:¬ x.term≤t)];rfl,x1⟩) fun c3=>?_
 have hp:pN x b t=(decide (0≤x.members)&&(decide (x.members≤127)&&(decide (x.data.length≤1100)&&(decide (x.members=0)||decide (x.data=[]))))):=by
  rw [pN,decide_eq_true (by omega:1≤x.term),decide_eq_true (by omega:b≤x.term),decide_eq_true (by omega:x.term≤t)];rfl
 rw [hp]
 refine Ok.pickP (fun c=>Ok.ret ⟨by rw [decide_eq_false (by omega:¬ 0≤x.members)];rfl,x1⟩) fun c4=>?_
 refine Ok.pickP (fun c=>Ok.ret ⟨by rw [decide_eq_true (by omega:0≤x.members),decide_eq_false (by omega:¬ x.members≤127)];rfl,x1⟩) fun c5=>?_
 rw [decide_eq_true (by omega:0≤x.members),decide_eq_true (by omega:x.members≤127)]
 refine Ok.pickP (fun c=>?_) (fun c=>Ok.ret ⟨by rw [decide_eq_false (by omega:¬ x.data.length≤1100)];rfl,x1⟩)
 rw [decide_eq_true (by omega:x.data.length≤1100)]
 refine Ok.pickP (fun c=>Ok.ret ⟨by rw [decide_eq_true c];rfl,x1⟩) (fun c=>Ok.ret ⟨by rw [decide_eq_false c];rfl,x1⟩)
def lI (h:Hard):Prop:=0≤h.term∧h.term≤1099511627776∧-1≤h.vote∧h.vote<7∧1≤h.members∧h.members≤127∧0≤h.base∧h.base≤1099511627776∧0≤h.baseTerm∧h.baseTerm≤h.term∧(h.baseTerm=0↔h.base=0)∧h.log.length≤200∧(h.log.length:Int)≤1099511627776 - h.base
theorem aRx {h:Hard} (q:¬ lI h):rH h=false:=by
 cases e:rH h with
 | false=>rfl
 | true=>
  simp only [rH,Bool.and_eq_true,decide_eq_true_eq] at e
  exact absurd ⟨e.1,e.2.1,e.2.2.1,e.2.2.2.1,e.2.2.2.2.1,e.2.2.2.2.2.1,e.2.2.2.2.2.2.1,e.2.2.2.2.2.2.2.1,e.2.2.2.2.2.2.2.2.1,e.2.2.2.2.2.2.2.2.2.1,e.2.2.2.2.2.2.2.2.2.2.1,e.2.2.2.2.2.2.2.2.2.2.2.1,e.2.2.2.2.2.2.2.2.2.2.2.2.1⟩ q
theorem aPh {h:Hard} (q:lI h):rH h=gB h.term h.log h.baseTerm:=by
 obtain ⟨a1,a2,a3,a4,a5,a6,a7,a8,a9,a10,a11,a12,a13⟩:=q
 unfold rH
 rw [decide_eq_true a1,decide_eq_true a2,decide_eq_true a3,decide_eq_true a4,decide_eq_true a5,decide_eq_true a6,decide_eq_true a7,decide_eq_true a8,decide_eq_true a9,decide_eq_true a10,decide_eq_true a11,decide_eq_true a12,decide_eq_true a13]
 rfl
def uA (t:Int) (b:Int) (x:Entry):Bool⊕Int:=if pN x b t=true then .inr x.term else .inl false
theorem aXv (t:Int):∀ (l:List Entry) (b:Int),fW (uA t) (fun _=>true) l b=gB t l b
 | [],b=>rfl
 | x::l,b=>by
  simp only [fW,uA,gB]
  cases pN x b t with
  | true=>simp only [if_true,Bool.true_and];exact aXv t l _
  | false=>rfl
theorem bB3:(fun a b=>aD prog .neq 4 (.bool a) (.bool b))=fun a b=>.ok (.bool (!(a == b))):=by kernel_rfl
theorem bB4:(fun a b=>aD prog .eql 4 (.bool a) (.bool b))=fun a b=>.ok (.bool (a == b)):=by kernel_rfl
theorem aMq (a b:Bool):aD prog .neq 4 (.bool a) (.bool b)=.ok (.bool (!(a == b))):=congrFun (congrFun bB3 a) b
theorem vX (a b:Bool):aD prog .eql 4 (.bool a) (.bool b)=.ok (.bool (a == b)):=congrFun (congrFun bB4 a) b
theorem g67 (h:Hard) (lv:V) (S:St) (w:WF S) (hs:Sl S 3 lv (h.log.map bR)) (hl:h.log.length≤1000000):xD 67 [.agg (bB h lv)] S (.bool (rH h)):=by
 refine e67 ?_
 have ho:=dW h hs.one
 have hln:(bB h lv).length=7:=rfl
 obtain ⟨S1,hn1,x1,hg1,hnx1⟩:=nb w 7 (bB h lv)
 have w1:=x1.wf w
 have hs1:=hs.ext x1
 have v0:∀ {T:St},T.heap.get S.next=some (.row 0 7 [bB h lv])→aL none (.ptr S.next 0 0 (0+0)) T=.ok (.int .i64 h.term):=fun hg=>by rw [aY _ _ _ _ _ (aX hg)];rfl
 have v1:aL none (.ptr S.next 0 0 (0+1)) S1=.ok (.int .i64 h.vote):=by rw [aY _ _ _ _ _ (aX hg1)];rfl
 have v2:aL none (.ptr S.next 0 0 (0+2)) S1=.ok (.int .i64 h.base):=by rw [aY _ _ _ _ _ (aX hg1)];rfl
 have v3:aL none (.ptr S.next 0 0 (0+3)) S1=.ok (.int .i64 h.baseTerm):=by rw [aY _ _ _ _ _ (aX hg1)];rfl
 have v4:aL none (.ptr S.next 0 0 (0+4)) S1=.ok (.int .i64 h.members):=by rw [aY _ _ _ _ _ (aX hg1)];rfl
 have v6:aL none (.ptr S.next 0 0 (0+6)) S1=.ok lv:=by rw [aY _ _ _ _ _ (aX hg1)];rfl
 have no:∀ (q:¬ lI h),(V.bool false=V.bool (rH h)):=fun q=>by rw [aRx q]
 simp only [m67,bK,ho,hln,aU,hn1,aG,gL,vU,fF,aEx,aEy,eR,aF,dY,iC,v0 hg1,v1,v2,v3,v4,v6,kD,hs1.lenI,bG,dF,eX,bX,cL,aR,nI,aMq]
 refine Ok.pickP (fun c=>Ok.ret ⟨no fun q=>by unfold lI at q;omega,x1⟩) fun c1=>?_
 refine Ok.pickP (fun c=>Ok.ret ⟨no fun q=>by unfold lI at q;omega,x1⟩) fun c2=>?_
 refine Ok.pickP (fun c=>Ok.ret ⟨no fun q=>by unfold lI at q;omega,x1⟩) fun c3=>?_
 refine Ok.pickP (fun c=>Ok.ret ⟨no fun q=>by unfold lI at q;omega,x1⟩) fun c4=>?_
 refine Ok.pickP (fun c=>Ok.ret ⟨no fun q=>by unfold lI at q;omega,x1⟩) fun c5=>?_
 refine Ok.pickP (fun c=>Ok.ret ⟨no fun q=>by unfold lI at q;omega,x1⟩) fun c6=>?_
 refine Ok.pickP (fun c=>Ok.ret ⟨no fun q=>by unfold lI at q;omega,x1⟩) fun c7=>?_
 refine Ok.pickP (fun c=>Ok.ret ⟨no fun q=>by unfold lI at q;omega,x1⟩) fun c8=>?_
 refine Ok.pickP (fun c=>Ok.ret ⟨no fun q=>by unfold lI at q;omega,x1⟩) fun c9=>?_
 refine Ok.pickP (fun c=>Ok.ret ⟨no fun q=>by unfold lI at q;omega,x1⟩) fun c10=>?_
 refine Ok.pick (fun c=>Ok.ret ⟨no fun q=>?_,x1⟩) fun c11=>?_
 ·have q11:=q.2.2.2.2.2.2.2.2.2.2.1
  by_cases e:h.base=0
  ·simp [q11.2 e,e] at c
  ·have e2:¬ h.baseTerm=0:=fun e2=>e (q11.1 e2)
   simp [e,e2] at c
 have q11:h.baseTerm=0↔h.base=0:=by
  by_cases e:h.base=0<;>by_cases e2:h.baseTerm=0<;>simp [e,e2] at c11 ⊢
 have hwb:wr .i64 (1099511627776 - h.base)=1099511627776 - h.base:=cR (by omega) (by omega)
 refine Ok.pickP (fun c=>Ok.ret ⟨no fun q=>by unfold lI at q;omega,x1⟩) fun c12=>?_
 simp only [hwb]
 refine Ok.pickP (fun c=>Ok.ret ⟨no fun q=>by unfold lI at q;omega,x1⟩) fun c13=>?_
 have hyes:rH h=gB h.term h.log h.baseTerm:=aPh ⟨by omega,by omega,by omega,by omega,by omega,by omega,by omega,by omega,by omega,by omega,q11,by omega,by omega⟩
 rw [hyes,←aXv]
 refine Ok.loopL (F:=fun k K=>aEs (aC prog bC bD k) k K (.ptr S.next 0 0 0) lv (.int .i64 h.log.length)) (ρ:=Bool) (α:=Entry) (X:=Bool) h.log (step:=uA h.term) (fin:=fun _=>true) (s:=h.baseTerm)
  (out:=fun k K x S'=>K (.bool x) S')
  (fun i b vs T=>vs=[.bool false,.int .i64 b,.int .i64 (i:Int)]∧Ext S1 T)
  (fun r x T=>r=x∧Ext S1 T) ?_ ?_ ⟨rfl,Ext.refl _⟩ (fun x T ⟨e,xt⟩=>Ok.ret ⟨by rw [e],x1.trans xt⟩)
 ·rintro i x b vs T ⟨rfl,xt⟩ hi
  have hil:i<h.log.length:=(List.getElem?_eq_some_iff.1 hi).1
  have hlt:(i:Int)<(h.log.length:Int):=by omega
  have hw:wr .i64 ((i:Int)+1)=((i+1:Nat):Int):=by rw [cR (by omega) (by omega)];omega
  obtain ⟨p,hp,hld,hst,hxv,hv⟩:=(hs1.ext xt).var (xt.wf w1) hi [.int .i64 0,.int .i64 0,.str []] rfl
  generalize T.var 3 [.int .i64 0,.int .i64 0,.str []] (bR x)=T2 at hst hxv hv
  have x02:=xt.trans hxv
  have u0:aL (some 3) (.ptr T.next 0 0 0) T2=.ok (.agg (bR x)):=by rw [hv _ (Ext.refl _)];exact cJ _ _ rfl
  simp only [aEs,bE,bG,aG,hlt,decide_true,bT,aBw,hp,aBy,hld,dM,aMl,hst,u0,gL,aF,dY,v0 (x02.old _ _ hg1)]
  refine (g95 x b h.term T2 (x02.wf w1)).callL fun T3 x3=>?_
  have u1:aL none (.ptr T.next 0 0 (0+0)) T3=.ok (.int .i64 x.term):=by rw [hv _ x3];rfl
  simp only [fE,aG]
  refine OkL.pick (fun c=>OkL.stop false ⟨false,?_,rfl,x02.trans x3⟩ (by intros;rfl)) (fun c=>?_)
  ·unfold uA;rw [if_neg (by simpa using c)]
  ·simp only [kB,aF,aG,u1,bQ,hw]
   exact OkL.next ⟨x.term,by unfold uA;rw [if_pos (by simpa using c)],rfl,x02.trans x3⟩
 ·rintro b vs T ⟨rfl,xt⟩
  have hlt:¬ (h.log.length:Int)<(h.log.length:Int):=by omega
  refine ⟨true,⟨rfl,xt⟩,fun k K aO=>?_⟩
  simp only [aEs,bE,bG,aG,hlt,decide_false,aH]
theorem g33 (h:Hard) (lv:V) (S:St) (w:WF S) (hs:Sl S 3 lv (h.log.map bR)) (hl:h.log.length≤1000000):xD 33 [.agg (bB h lv)] S (.bool (iD h)):=by
 refine e33 ?_
 have ho:=dW h hs.one
 have hln:(bB h lv).length=7:=rfl
 obtain ⟨S1,hn1,x1,hg1,hnx1⟩:=nb w 7 (bB h lv)
 have w1:=x1.wf w
 have va:aL (some 7) (.ptr S.next 0 0 0) S1=.ok (.agg (bB h lv)):=by rw [aY _ _ _ _ _ (aX hg1)];exact cJ _ _ hln
 simp only [m33,bK,ho,hln,aU,hn1,aG,xP,va]
 refine (g67 h lv S1 w1 (hs.ext x1) hl).call fun S2 x2=>?_
 have g2:=x2.old _ _ hg1
 have v2:aL none (.ptr S.next 0 0 (0+2)) S2=.ok (.int .i64 h.base):=by rw [aY _ _ _ _ _ (aX g2)];rfl
 have v5:aL none (.ptr S.next 0 0 (0+5)) S2=.ok (.str h.snap):=by rw [aY _ _ _ _ _ (aX g2)];rfl
 have hl9:dI prog 9 (.str h.snap) S2=.ok (.int .i64 h.snap.length):=vH (by kernel_rfl) _ _
 have x02:=x1.trans x2
 refine Ok.pick (fun c=>?_) (fun c=>Ok.ret ⟨by unfold iD;rw [c];rfl,x02⟩)
 simp only [fF,aAf,aF,aG,dY,ld9,v2,v5,hl9,qI,aR,nI,aU,yA,aAr,bX,vX,fR]
 have hiff:(decide (h.snap=[]) == decide (h.base=0))=decide (h.snap=[]↔h.base=0):=by
  by_cases e:h.snap=[]<;>by_cases e2:h.base=0<;>simp [e,e2]
 rw [hiff]
 refine Ok.pickP (fun c2=>Ok.ret ⟨?_,x02⟩) (fun c2=>Ok.ret ⟨by unfold iD;rw [c,decide_eq_false c2];rfl,x02⟩)
 unfold iD
 rw [c,decide_eq_true c2]
 congr 1
 simp only [Bool.true_and,decide_eq_decide]
 omega
theorem aVo {m n:Int} (h0:0≤m) (h1:m≤127) (k0:0≤n) (k1:n≤127):wr .i64 ((BitVec.ofInt IntKind.i64.bits m ^^^ BitVec.ofInt IntKind.i64.bits n).toNat)=aF8 m n∧0≤aF8 m n:=by
 have all:∀ a:Nat,a<128→∀ b:Nat,b<128→((a ^^^ b:Nat):Int)=aF8 (a:Int) (b:Int)∧a ^^^ b<128:=by decide +kernel
 have hm:m=(m.toNat:Int):=by omega
 have hn:n=(n.toNat:Int):=by omega
 have e:(BitVec.ofInt IntKind.i64.bits m ^^^ BitVec.ofInt IntKind.i64.bits n).toNat=m.toNat ^^^ n.toNat:=by
  show (BitVec.ofInt 64 m ^^^ BitVec.ofInt 64 n).toNat=_
  rw [BitVec.toNat_xor,BitVec.toNat_ofInt,BitVec.toNat_ofInt]
  congr 1<;>omega
 obtain ⟨a1,a2⟩:=all m.toNat (by omega) n.toNat (by omega)
 rw [←hm,←hn] at a1
 rw [e,cR (by omega) (by omega),←a1]
 exact ⟨rfl,by omega⟩
theorem g61 (m n:Int) (S:St) (w:WF S):xD 61 [.int .i64 m,.int .i64 n] S (.bool (lQ m n)):=by
 refine e61 ?_
 simp only [m61]
 refine (g92 m S).call fun S1 x1=>?_
 refine Ok.pick (fun h=>?_) (fun h=>Ok.ret ⟨by unfold lQ;rw [h];rfl,x1⟩)
 refine (g92 n S1).call fun S2 x2=>?_
 have x02:=x1.trans x2
 refine Ok.pick (fun h'=>?_) (fun h'=>Ok.ret ⟨by unfold lQ;rw [h,h'];rfl,x02⟩)
 have a:=h
 have b:=h'
 simp only [lE,Bool.and_eq_true,decide_eq_true_eq] at a b
 obtain ⟨q1,q2⟩:=aVo (m:=m) (n:=n) (by omega) a.2 (by omega) b.2
 have han:aD prog .xor 3 (.int .i64 m) (.int .i64 n)=.ok (.int .i64 (aF8 m n)):=by
  simp only [aD,bW,cond_true,eA,q1]
 simp only [han,aG]
 refine (g93 _ S2 (x02.wf w) q2).call fun S3 x3=>?_
 simp only [aR,aU,bX,aG]
 exact Ok.ret ⟨by unfold lQ;rw [h,h'];rfl,x02.trans x3⟩
section
theorem cM (m:Letter) {ev:V} (h:ev.one=true):aK (aN m ev)=true:=by
 simp only [aN,aK,List.all_cons,List.all_nil,h,Bool.and_true]
 rfl
section
variable {S:St} {a:Nat} {m:Letter} {ev:V} (h:S.heap.get a=some (.row 0 13 [aN m ev]))
include h
theorem aAs:aL none (.ptr a 0 0 (0+0)) S=.ok (.int .i64 m.kind):=by rw [aY _ _ _ _ _ (aX h)];rfl
theorem eG:aL none (.ptr a 0 0 (0+1)) S=.ok (.int .i64 m.from'):=by rw [aY _ _ _ _ _ (aX h)];rfl
theorem aVp:aL none (.ptr a 0 0 (0+2)) S=.ok (.int .i64 m.to):=by rw [aY _ _ _ _ _ (aX h)];rfl
theorem aAt:aL none (.ptr a 0 0 (0+3)) S=.ok (.int .i64 m.term):=by rw [aY _ _ _ _ _ (aX h)];rfl
theorem cH:aL none (.ptr a 0 0 (0+4)) S=.ok (.int .i64 m.index):=by rw [aY _ _ _ _ _ (aX h)];rfl
theorem qS:aL none (.ptr a 0 0 (0+5)) S=.ok (.int .i64 m.at'):=by rw [aY _ _ _ _ _ (aX h)];rfl
theorem pP:aL none (.ptr a 0 0 (0+6)) S=.ok (.int .i64 m.commit):=by rw [aY _ _ _ _ _ (aX h)];rfl
theorem jK:aL none (.ptr a 0 0 (0+7)) S=.ok (.int .i64 m.members):=by rw [aY _ _ _ _ _ (aX h)];rfl
theorem uB:aL none (.ptr a 0 0 (0+8)) S=.ok (.int .i64 m.off):=by rw [aY _ _ _ _ _ (aX h)];rfl
theorem pQ:aL none (.ptr a 0 0 (0+9)) S=.ok (.int .i64 m.size):=by rw [aY _ _ _ _ _ (aX h)];rfl
theorem aHe:aL none (.ptr a 0 0 (0+10)) S=.ok (.bool m.yes):=by rw [aY _ _ _ _ _ (aX h)];rfl
theorem aAu:aL none (.ptr a 0 0 (0+11)) S=.ok (.str m.data):=by rw [aY _ _ _ _ _ (aX h)];rfl
theorem vY:aL none (.ptr a 0 0 (0+12)) S=.ok ev:=by rw [aY _ _ _ _ _ (aX h)];rfl
theorem uC:aL (some 13) (.ptr a 0 0 0) S=.ok (.agg (aN m ev)):=by rw [aY _ _ _ _ _ (aX h)];exact cJ _ _ rfl
end
theorem aPi (a b:Bool):(a == b)=decide (a=b):=by cases a<;>cases b<;>rfl
theorem aHf (a b:List UInt8):(a == b)=decide (a=b):=by
 by_cases h:a=b
 ·subst h;simp
 ·simp [h]
theorem aMr (m n:Letter) (u v:V) (S:St) (w:WF S) (hu:Sl S 3 u (m.entries.map bR)) (hv:Sl S 3 v (n.entries.map bR)):xD 107 [.agg (aN m u),.agg (aN n v)] S (.bool (rI m n)):=by
 refine bAy ?_
 have ho:=cM m hu.one
 have ho2:=cM n hv.one
 have hln:(aN m u).length=13:=rfl
 have hln2:(aN n v).length=13:=rfl
 obtain ⟨S1,hn1,x1,hg1,hnx1⟩:=nb w 13 (aN m u)
 obtain ⟨S2,hn2,x2,hg2,hnx2⟩:=nb (x1.wf w) 13 (aN n v)
 have x02:=x1.trans x2
 have g1:=x2.old _ _ hg1
 simp only [aRn,bK,ho,ho2,hln,hln2,aU,hn1,hn2,aG,tX,eF,lD,aEz,aF0,sI,aAi,yC,yD,aF,iC,dY,ld4,ld9,vY g1,vY hg2,cH g1,cH hg2,qS g1,qS hg2,pP g1,pP hg2,jK g1,jK hg2,uB g1,uB hg2,pQ g1,pQ hg2,aHe g1,aHe hg2,aAu g1,aAu hg2,
  kD,(hu.ext x02).lenI,(hv.ext x02).lenI,aR,nI,qI,dG,bX,vX,yA,aPi,aHf]
 unfold rI
 refine Ok.pickN (fun c=>Ok.ret ⟨by rw [decide_eq_false (by omega)];rfl,x02⟩) fun c=>?_
 rw [decide_eq_true (by omega:m.entries.length=n.entries.length)]
 refine Ok.pickP (fun c=>?_) (fun c=>Ok.ret ⟨by rw [decide_eq_false c];rfl,x02⟩)
 rw [decide_eq_true c]
 refine Ok.pickP (fun c=>?_) (fun c=>Ok.ret ⟨by rw [decide_eq_false c];rfl,x02⟩)
 rw [decide_eq_true c]
 refine Ok.pickP (fun c=>?_) (fun c=>Ok.ret ⟨by rw [decide_eq_false c];rfl,x02⟩)
 rw [decide_eq_true c]
 refine Ok.pickP (fun c=>?_) (fun c=>Ok.ret ⟨by rw [decide_eq_false c];rfl,x02⟩)
 rw [decide_eq_true c]
 refine Ok.pickP (fun c=>?_) (fun c=>Ok.ret ⟨by rw [decide_eq_false c];rfl,x02⟩)
 rw [decide_eq_true c]
 refine Ok.pickP (fun c=>?_) (fun c=>Ok.ret ⟨by rw [decide_eq_false c];rfl,x02⟩)
 rw [decide_eq_true c]
 refine Ok.pickP (fun c=>?_) (fun c=>Ok.ret ⟨by rw [decide_eq_false c];rfl,x02⟩)
 rw [decide_eq_true c]
 exact Ok.ret ⟨rfl,x02⟩
end
theorem bB6 (m:Letter) (u:V) (S:St) (w:WF S) (hu:Sl S 3 u (m.entries.map bR)):xD 102 [.agg (aN m u)] S (.bool (nO m)):=by
 refine bAt ?_
 have ho:=cM m hu.one
 have hln:(aN m u).length=13:=rfl
 obtain ⟨S1,hn1,x1,g1,hnx1⟩:=nb w 13 (aN m u)
 have w1:=x1.wf w
 have hu1:=hu.ext x1
 obtain ⟨z,hz⟩:∃ z:List V,z=[.int .i64 0,.int .i64 0,.int .i64 0,.int .i64 0,.int .i64 0,.int .i64 0,.int .i64 0,.int .i64 0,.int .i64 0,.int .i64 0,.bool false,.str [],.nils]:=⟨_,rfl⟩
 have b1:∀ a b:Int,dJ [.int .i64 0,.int .i64 0,.int .i64 0,.int .i64 0,.int .i64 0,.int .i64 0,.int .i64 0,.int .i64 0,.int .i64 0,.int .i64 0,.bool false,.str [],.nils] [(0,1),(1,1),(2,1),(3,1),(4,1),(5,1),(6,1),(7,1),(8,1),(9,1),(10,1),(11,1),(12,1)] [(4,.int .i64 a),(5,.int .i64 b)]=.ok (.agg (aN { Letter.zero with index:=a,at':=b } .nils)):=fun _ _=>rfl
 have b2:∀ y:Bool,dJ [.int .i64 0,.int .i64 0,.int .i64 0,.int .i64 0,.int .i64 0,.int .i64 0,.int .i64 0,.int .i64 0,.int .i64 0,.int .i64 0,.bool false,.str [],.nils] [(0,1),(1,1),(2,1),(3,1),(4,1),(5,1),(6,1),(7,1),(8,1),(9,1),(10,1),(11,1),(12,1)] [(10,.bool y)]=.ok (.agg (aN { Letter.zero with yes:=y } .nils)):=fun _=>rfl
 have b4:∀ (y:Bool) (a:Int),dJ [.int .i64 0,.int .i64 0,.int .i64 0,.int .i64 0,.int .i64 0,.int .i64 0,.int .i64 0,.int .i64 0,.int .i64 0,.int .i64 0,.bool false,.str [],.nils] [(0,1),(1,1),(2,1),(3,1),(4,1),(5,1),(6,1),(7,1),(8,1),(9,1),(10,1),(11,1),(12,1)] [(10,.bool y),(4,.int .i64 a)]=.ok (.agg (aN { Letter.zero with yes:=y,index:=a } .nils)):=fun _ _=>rfl
 have b5:∀ (a b c d e:Int) (s:List UInt8),dJ [.int .i64 0,.int .i64 0,.int .i64 0,.int .i64 0,.int .i64 0,.int .i64 0,.int .i64 0,.int .i64 0,.int .i64 0,.int .i64 0,.bool false,.str [],.nils] [(0,1),(1,1),(2,1),(3,1),(4,1),(5,1),(6,1),(7,1),(8,1),(9,1),(10,1),(11,1),(12,1)] [(4,.int .i64 a),(5,.int .i64 b),(7,.int .i64 c),(8,.int .i64 d),(9,.int .i64 e),(11,.str s)]=.ok (.agg (aN { Letter.zero with index:=a,at':=b,members:=c,off:=d,size:=e,data:=s } .nils)):=fun _ _ _ _ _ _=>rfl
 have b6:∀ (a b:Int),dJ [.int .i64 0,.int .i64 0,.int .i64 0,.int .i64 0,.int .i64 0,.int .i64 0,.int .i64 0,.int .i64 0,.int .i64 0,.int .i64 0,.bool false,.str [],.nils] [(0,1),(1,1),(2,1),(3,1),(4,1),(5,1),(6,1),(7,1),(8,1),(9,1),(10,1),(11,1),(12,1)] [(4,.int .i64 a),(8,.int .i64 b)]=.ok (.agg (aN { Letter.zero with index:=a,off:=b } .nils)):=fun _ _=>rfl
 have b3:dJ [.int .i64 0,.int .i64 0,.int .i64 0,.int .i64 0,.int .i64 0,.int .i64 0,.int .i64 0,.int .i64 0,.int .i64 0,.int .i64 0,.bool false,.str [],.nils] [(0,1),(1,1),(2,1),(3,1),(4,1),(5,1),(6,1),(7,1),(8,1),(9,1),(10,1),(11,1),(12,1)] [(4,.int .i64 m.index),(5,.int .i64 m.at'),(12,u),(6,.int .i64 m.commit)]=.ok (.agg (aN { Letter.zero with index:=m.index,at':=m.at',entries:=m.entries,commit:=m.commit } u)):=by
  rcases hu.is with ⟨e,_⟩ | e | ⟨a,ver,off,el,e,_⟩<;>(rw [e];rfl)
 simp only [aRd,bK,ho,hln,aU,hn1,aG,aAg,eF,lD,aEz,aF0,sI,aAi,yC,yD,tX,aF,dY,ld4,ld9,iC,aBx,aAs g1,uC g1,cH g1,qS g1,pP g1,jK g1,uB g1,pQ g1,aHe g1,aAu g1,vY g1,aR,bX,tW,b1,b2,b3,b4,b5,b6]
 unfold nO
 refine Ok.pickP (fun c=>?_) (fun c1=>?_)
 ·rw [if_pos c];exact (aMr m _ u _ S1 w1 hu1 (Sl.nilv _ _)).call fun S2 x2=>Ok.ret ⟨rfl,x1.trans x2⟩
 rw [if_neg c1]
 refine Ok.pickP (fun c=>?_) (fun c2=>?_)
 ·rw [if_pos c];exact (aMr m _ u _ S1 w1 hu1 (Sl.nilv _ _)).call fun S2 x2=>Ok.ret ⟨rfl,x1.trans x2⟩
 rw [if_neg c2]
 refine Ok.pickP (fun c=>?_) (fun c3=>?_)
 ·rw [if_pos c];exact (aMr m { Letter.zero with index:=m.index,at':=m.at',entries:=m.entries,commit:=m.commit } u u S1 w1 hu1 hu1).call fun S2 x2=>Ok.ret ⟨rfl,x1.trans x2⟩
 rw [if_neg c3]
 refine Ok.pickP (fun c=>?_) (fun c4=>?_)
 ·rw [if_pos c];exact (aMr m _ u _ S1 w1 hu1 (Sl.nilv _ _)).call fun S2 x2=>Ok.ret ⟨rfl,x1.trans x2⟩
 rw [if_neg c4]
 refine Ok.pickP (fun c=>?_) (fun c5=>?_)
 ·rw [if_pos c];exact (aMr m _ u _ S1 w1 hu1 (Sl.nilv _ _)).call fun S2 x2=>Ok.ret ⟨rfl,x1.trans x2⟩
 rw [if_neg c5]
 refine Ok.pickP (fun c=>?_) (fun c6=>?_)
 ·rw [if_pos c];exact (aMr m _ u _ S1 w1 hu1 (Sl.nilv _ _)).call fun S2 x2=>Ok.ret ⟨rfl,x1.trans x2⟩
 rw [if_neg c6]
 exact Ok.ret ⟨rfl,x1⟩
end Go.Proofs.Ytbiidlmhadihlaa
end
section
namespace Go.Raft
open Go.AM
set_option linter.unusedVariables false
set_option linter.unusedSectionVars false
set_option linter.unusedSimpArgs false
set_option maxRecDepth 100000
variable [Guard]
theorem lJ {α:Type} {l:List α} (h:l.length=7):∃ a b c d e f g,l=[a,b,c,d,e,f,g]:=by
 match l,h with
 | [a,b,c,d,e,f,g],_=>exact ⟨a,b,c,d,e,f,g,rfl⟩
theorem dN (c:Core) (lv wv ov:V) (h:c.peers.length=7):(bP c lv wv ov).length=37:=by
 obtain ⟨p0,p1,p2,p3,p4,p5,p6,e⟩:=lJ h
 simp only [bP,e];rfl
theorem nU (c:Core) (lv wv ov:V) (h:c.peers.length=7) {f:Nat} (hf:f<7):
  (bP c lv wv ov)[14+f*3]?=some (.int .i64 (c.peers.getD f ⟨0,0,0⟩).next)∧(bP c lv wv ov)[14+f*3+1]?=some (.int .i64 (c.peers.getD f ⟨0,0,0⟩).mtch)∧(bP c lv wv ov)[14+f*3+2]?=some (.int .i64 (c.peers.getD f ⟨0,0,0⟩).off) ∧
  ((bP c lv wv ov).drop (14+f*3)).take 3=jJ (c.peers.getD f ⟨0,0,0⟩):=by
 obtain ⟨p0,p1,p2,p3,p4,p5,p6,e⟩:=lJ h
 simp only [bP,e]
 match f,hf with
 | 0,_=>exact ⟨rfl,rfl,rfl,rfl⟩
 | 1,_=>exact ⟨rfl,rfl,rfl,rfl⟩
 | 2,_=>exact ⟨rfl,rfl,rfl,rfl⟩
 | 3,_=>exact ⟨rfl,rfl,rfl,rfl⟩
 | 4,_=>exact ⟨rfl,rfl,rfl,rfl⟩
 | 5,_=>exact ⟨rfl,rfl,rfl,rfl⟩
 | 6,_=>exact ⟨rfl,rfl,rfl,rfl⟩
theorem qL (c:Core) (lv wv ov:V) (h:c.peers.length=7) {f:Nat} (hf:f<7) (q:Peer) (x:Int):
  splice (bP c lv wv ov) (14+f*3) (jJ q)=bP { c with peers:=c.peers.set f q } lv wv ov ∧
  splice (bP c lv wv ov) (14+f*3) [.int .i64 x]=bP { c with peers:=c.peers.set f { c.peers.getD f ⟨0,0,0⟩ with next:=x } } lv wv ov ∧
  splice (bP c lv wv ov) (14+f*3+1) [.int .i64 x]=bP { c with peers:=c.peers.set f { c.peers.getD f ⟨0,0,0⟩ with mtch:=x } } lv wv ov ∧
  splice (bP c lv wv ov) (14+f*3+2) [.int .i64 x]=bP { c with peers:=c.peers.set f { c.peers.getD f ⟨0,0,0⟩ with off:=x } } lv wv ov:=by
 obtain ⟨p0,p1,p2,p3,p4,p5,p6,e⟩:=lJ h
 simp only [bP,e]
 match f,hf with
 | 0,_=>exact ⟨rfl,rfl,rfl,rfl⟩
 | 1,_=>exact ⟨rfl,rfl,rfl,rfl⟩
 | 2,_=>exact ⟨rfl,rfl,rfl,rfl⟩
 | 3,_=>exact ⟨rfl,rfl,rfl,rfl⟩
 | 4,_=>exact ⟨rfl,rfl,rfl,rfl⟩
 | 5,_=>exact ⟨rfl,rfl,rfl,rfl⟩
 | 6,_=>exact ⟨rfl,rfl,rfl,rfl⟩
theorem qM (c:Core) (lv wv ov:V) (h:c.peers.length=7) (u:V):
  (bP c lv wv ov)[35]?=some wv∧(bP c lv wv ov)[36]?=some ov∧splice (bP c lv wv ov) 35 [u]=bP c lv u ov∧splice (bP c lv wv ov) 36 [u]=bP c lv wv u:=by
 obtain ⟨p0,p1,p2,p3,p4,p5,p6,e⟩:=lJ h
 simp only [bP,e]
 exact ⟨rfl,rfl,rfl,rfl⟩
theorem aJo (c:Core) (lv wv ov:V):((bP c lv wv ov).drop 1).take 7=bB c.h lv:=by
 simp only [bP,bB];rfl
theorem xR (c:Core) (lv wv ov:V) (h:c.peers.length=7):((bP c lv wv ov).drop 14).take 21=(c.peers.map jJ).flatten:=by
 obtain ⟨p0,p1,p2,p3,p4,p5,p6,e⟩:=lJ h
 simp only [bP,e];rfl
theorem aAv (c:Core) (lv wv ov:V) (g:Hard) (u:V):splice (bP c lv wv ov) 1 (bB g u)=bP { c with h:=g } u wv ov:=by
 simp only [bP,bB];rfl
end Go.Raft
namespace Go.AM
def aiT (P:Program) (t:TypeId):Option (Nat×Nat):=match P.underlying t with
 | some (.array n e)=>(match (P.underlying e).isSome with
  | true=>some (n,sz P e)
  | false=>none)
 | _=>none
def aAw (n w:Nat) (x ix:V):R V:=match kU ix n with
 | none=>.error "index"
 | some k=>match x with
  | .ptr a ver i j=>.ok (.ptr a ver i (j+k*w))
  | .iptr cs j=>.ok (.iptr cs (j+k*w))
  | _=>.error "indexAddr"
theorem lK {P:Program} {t:TypeId} {n w:Nat} (h:aiT P t=some (n,w)) (x ix:V):aM P t x ix=aAw n w x ix:=by
 unfold aiT at h
 unfold aM aAw
 split at h
 ·rename_i n' e he
  split at h
  ·rename_i hs
   cases h
   rw [he]
   simp only [hs,Bool.not_true,cond_false]
   rfl
  ·cases h
 ·cases h
theorem cZ {n w a ver i j:Nat} {k:Nat} (hk:k<n) (q:IntKind):aAw n w (.ptr a ver i j) (.int q (k:Int))=.ok (.ptr a ver i (j+k*w)):=by
 simp only [aAw,pH hk]
end Go.AM
end
section
namespace Go.Raft
open Go.AM
section
variable [Guard]
theorem bA (k:Option Nat) (p:V) (n:Nat) (S:St):aL k p (⟨n,S.heap⟩:St)=aL k p S:=rfl
section
variable {S:St} {a:Nat} {c:Core} {lv wv dv ov:V} {rows:List (List V)} (h:CoreAt S a c lv wv dv ov rows)
include h
theorem CoreAt.r_id:aL none (.ptr a 0 0 0) S=.ok (.int .i64 c.id):=h.ld 0 rfl
theorem CoreAt.r_term:aL none (.ptr a 0 0 1) S=.ok (.int .i64 c.h.term):=h.ld 1 rfl
theorem CoreAt.r_vote:aL none (.ptr a 0 0 2) S=.ok (.int .i64 c.h.vote):=h.ld 2 rfl
theorem CoreAt.r_base:aL none (.ptr a 0 0 3) S=.ok (.int .i64 c.h.base):=h.ld 3 rfl
theorem CoreAt.r_baseTerm:aL none (.ptr a 0 0 4) S=.ok (.int .i64 c.h.baseTerm):=h.ld 4 rfl
theorem CoreAt.r_mem:aL none (.ptr a 0 0 5) S=.ok (.int .i64 c.h.members):=h.ld 5 rfl
theorem CoreAt.r_snap:aL none (.ptr a 0 0 6) S=.ok (.str c.h.snap):=h.ld 6 rfl
theorem CoreAt.r_log:aL none (.ptr a 0 0 7) S=.ok lv:=h.ld 7 rfl
theorem CoreAt.r_role:aL none (.ptr a 0 0 8) S=.ok (.int .i64 c.role):=h.ld 8 rfl
theorem CoreAt.r_leads:aL none (.ptr a 0 0 9) S=.ok (.int .i64 c.leads):=h.ld 9 rfl
theorem CoreAt.r_sure:aL none (.ptr a 0 0 10) S=.ok (.int .i64 c.sure):=h.ld 10 rfl
theorem CoreAt.r_drawn:aL none (.ptr a 0 0 11) S=.ok (.int .i64 c.drawn):=h.ld 11 rfl
theorem CoreAt.r_left:aL none (.ptr a 0 0 12) S=.ok (.int .i64 c.left):=h.ld 12 rfl
theorem CoreAt.r_votes:aL none (.ptr a 0 0 13) S=.ok (.int .i64 c.votes):=h.ld 13 rfl
theorem CoreAt.r_way:aL none (.ptr a 0 0 35) S=.ok wv:=h.ld 35 (qM c lv wv ov h.peers .nils).1
theorem CoreAt.r_out:aL none (.ptr a 0 0 36) S=.ok ov:=h.ld 36 (qM c lv wv ov h.peers .nils).2.1
theorem CoreAt.r_hard:aL (some 7) (.ptr a 0 0 1) S=.ok (.agg (bB c.h lv)):=by
 have hl:=dN c lv wv ov h.peers
 rw [aY _ _ _ _ _ (aX h.cell),gW]
 rw [if_pos (by omega),aJo]
theorem CoreAt.r_peers:aL (some 21) (.ptr a 0 0 14) S=.ok (.agg (c.peers.map jJ).flatten):=by
 have hl:=dN c lv wv ov h.peers
 rw [aY _ _ _ _ _ (aX h.cell),gW]
 rw [if_pos (by omega),xR c lv wv ov h.peers]
theorem CoreAt.r_next {f:Nat} (hf:f<7):aL none (.ptr a 0 0 (14+f*3)) S=.ok (.int .i64 (c.peers.getD f ⟨0,0,0⟩).next):=h.ld _ (nU c lv wv ov h.peers hf).1
theorem CoreAt.r_mtch {f:Nat} (hf:f<7):aL none (.ptr a 0 0 (14+f*3+1)) S=.ok (.int .i64 (c.peers.getD f ⟨0,0,0⟩).mtch):=h.ld _ (nU c lv wv ov h.peers hf).2.1
theorem CoreAt.r_off {f:Nat} (hf:f<7):aL none (.ptr a 0 0 (14+f*3+2)) S=.ok (.int .i64 (c.peers.getD f ⟨0,0,0⟩).off):=h.ld _ (nU c lv wv ov h.peers hf).2.2.1
theorem CoreAt.r_peer {f:Nat} (hf:f<7):aL (some 3) (.ptr a 0 0 (14+f*3)) S=.ok (.agg (jJ (c.peers.getD f ⟨0,0,0⟩))):=by
 have hl:=dN c lv wv ov h.peers
 rw [aY _ _ _ _ _ (aX h.cell),gW]
 rw [if_pos (by omega),(nU c lv wv ov h.peers hf).2.2.2]
theorem CoreAt.set (w:WF S) (k:Nat) (x:Int) (c':Core) (hk:k<14) (hc:splice (bP c lv wv ov) k [.int .i64 x]=bP c' lv wv ov) (h1:c'.h.log=c.h.log) (h2:c'.way=c.way) (h3:c'.out=c.out) (h4:c'.peers.length=7):
  ∃ S',bH 1 (.ptr a 0 0 k) (.int .i64 x) S=.ok S'∧CoreAt S' a c' lv wv dv ov rows∧Mv (own a lv wv dv ov) S (own a lv wv dv ov) S'∧S'.next=S.next:=
 h.st w k _ c' rfl rfl (by rw [dN c lv wv ov h.peers];omega) hc h1 h2 h3 h4
theorem CoreAt.w_term (w:WF S) (x:Int):∃ S',bH 1 (.ptr a 0 0 1) (.int .i64 x) S=.ok S'∧CoreAt S' a { c with h:={ c.h with term:=x } } lv wv dv ov rows∧Mv (own a lv wv dv ov) S (own a lv wv dv ov) S'∧S'.next=S.next:=h.set w 1 x _ (by decide) rfl rfl rfl rfl h.peers
theorem CoreAt.w_vote (w:WF S) (x:Int):∃ S',bH 1 (.ptr a 0 0 2) (.int .i64 x) S=.ok S'∧CoreAt S' a { c with h:={ c.h with vote:=x } } lv wv dv ov rows∧Mv (own a lv wv dv ov) S (own a lv wv dv ov) S'∧S'.next=S.next:=h.set w 2 x _ (by decide) rfl rfl rfl rfl h.peers
theorem CoreAt.w_role (w:WF S) (x:Int):∃ S',bH 1 (.ptr a 0 0 8) (.int .i64 x) S=.ok S'∧CoreAt S' a { c with role:=x } lv wv dv ov rows∧Mv (own a lv wv dv ov) S (own a lv wv dv ov) S'∧S'.next=S.next:=h.set w 8 x _ (by decide) rfl rfl rfl rfl h.peers
theorem CoreAt.w_leads (w:WF S) (x:Int):∃ S',bH 1 (.ptr a 0 0 9) (.int .i64 x) S=.ok S'∧CoreAt S' a { c with leads:=x } lv wv dv ov rows∧Mv (own a lv wv dv ov) S (own a lv wv dv ov) S'∧S'.next=S.next:=h.set w 9 x _ (by decide) rfl rfl rfl rfl h.peers
theorem CoreAt.w_sure (w:WF S) (x:Int):∃ S',bH 1 (.ptr a 0 0 10) (.int .i64 x) S=.ok S'∧CoreAt S' a { c with sure:=x } lv wv dv ov rows∧Mv (own a lv wv dv ov) S (own a lv wv dv ov) S'∧S'.next=S.next:=h.set w 10 x _ (by decide) rfl rfl rfl rfl h.peers
theorem CoreAt.w_drawn (w:WF S) (x:Int):∃ S',bH 1 (.ptr a 0 0 11) (.int .i64 x) S=.ok S'∧CoreAt S' a { c with drawn:=x } lv wv dv ov rows∧Mv (own a lv wv dv ov) S (own a lv wv dv ov) S'∧S'.next=S.next:=h.set w 11 x _ (by decide) rfl rfl rfl rfl h.peers
theorem CoreAt.w_left (w:WF S) (x:Int):∃ S',bH 1 (.ptr a 0 0 12) (.int .i64 x) S=.ok S'∧CoreAt S' a { c with left:=x } lv wv dv ov rows∧Mv (own a lv wv dv ov) S (own a lv wv dv ov) S'∧S'.next=S.next:=h.set w 12 x _ (by decide) rfl rfl rfl rfl h.peers
theorem CoreAt.w_votes (w:WF S) (x:Int):∃ S',bH 1 (.ptr a 0 0 13) (.int .i64 x) S=.ok S'∧CoreAt S' a { c with votes:=x } lv wv dv ov rows∧Mv (own a lv wv dv ov) S (own a lv wv dv ov) S'∧S'.next=S.next:=h.set w 13 x _ (by decide) rfl rfl rfl rfl h.peers
theorem CoreAt.w_peer (w:WF S) {f:Nat} (hf:f<7) (p:Peer):∃ S',bH 3 (.ptr a 0 0 (14+f*3)) (.agg (jJ p)) S=.ok S'∧CoreAt S' a { c with peers:=c.peers.set f p } lv wv dv ov rows∧Mv (own a lv wv dv ov) S (own a lv wv dv ov) S'∧S'.next=S.next:=by
 have hl:=dN c lv wv ov h.peers
 have e:=cX (x:=.agg (jJ p)) (j:=14+f*3) (m:=3) h.cell rfl rfl (by omega)
 rw [bK,(qL c lv wv ov h.peers hf p 0).1] at e
 have hp:({ c with peers:=c.peers.set f p }:Core).peers.length=7:=by show (c.peers.set f p).length=7;rw [List.length_set];exact h.peers
 exact ⟨_,e,(h.put w { c with peers:=c.peers.set f p } rfl rfl rfl hp).1,(h.put w { c with peers:=c.peers.set f p } rfl rfl rfl hp).2,rfl⟩
theorem CoreAt.w_next (w:WF S) {f:Nat} (hf:f<7) (x:Int):∃ S',bH 1 (.ptr a 0 0 (14+f*3)) (.int .i64 x) S=.ok S'∧CoreAt S' a { c with peers:=c.peers.set f { c.peers.getD f ⟨0,0,0⟩ with next:=x } } lv wv dv ov rows∧Mv (own a lv wv dv ov) S (own a lv wv dv ov) S'∧S'.next=S.next:=
 h.st w _ _ _ rfl rfl (by rw [dN c lv wv ov h.peers];omega) (qL c lv wv ov h.peers hf ⟨0,0,0⟩ x).2.1 rfl rfl rfl (by show (c.peers.set f _).length=7;rw [List.length_set];exact h.peers)
theorem CoreAt.w_mtch (w:WF S) {f:Nat} (hf:f<7) (x:Int):∃ S',bH 1 (.ptr a 0 0 (14+f*3+1)) (.int .i64 x) S=.ok S'∧CoreAt S' a { c with peers:=c.peers.set f { c.peers.getD f ⟨0,0,0⟩ with mtch:=x } } lv wv dv ov rows∧Mv (own a lv wv dv ov) S (own a lv wv dv ov) S'∧S'.next=S.next:=
 h.st w _ _ _ rfl rfl (by rw [dN c lv wv ov h.peers];omega) (qL c lv wv ov h.peers hf ⟨0,0,0⟩ x).2.2.1 rfl rfl rfl (by show (c.peers.set f _).length=7;rw [List.length_set];exact h.peers)
theorem CoreAt.w_off (w:WF S) {f:Nat} (hf:f<7) (x:Int):∃ S',bH 1 (.ptr a 0 0 (14+f*3+2)) (.int .i64 x) S=.ok S'∧CoreAt S' a { c with peers:=c.peers.set f { c.peers.getD f ⟨0,0,0⟩ with off:=x } } lv wv dv ov rows∧Mv (own a lv wv dv ov) S (own a lv wv dv ov) S'∧S'.next=S.next:=
 h.st w _ _ _ rfl rfl (by rw [dN c lv wv ov h.peers];omega) (qL c lv wv ov h.peers hf ⟨0,0,0⟩ x).2.2.2 rfl rfl rfl (by show (c.peers.set f _).length=7;rw [List.length_set];exact h.peers)
end
end
section
variable [Guard]
def KeepW (n:Nat) (S S':St):Prop:=∀ y ver el,S.heap.get y=some (.row ver n el)→S'.heap.get y=some (.row ver n el)
theorem KeepW.trans {n:Nat} {A B C:St} (h:KeepW n A B) (k:KeepW n B C):KeepW n A C:=fun y ver el g=>k y ver el (h y ver el g)
theorem KeepW.ext {n:Nat} {A B:St} (x:Ext A B):KeepW n A B:=fun y ver el g=>x.old _ _ g
theorem KeepW.put {n m:Nat} {S:St} {a ver:Nat} {el:List (List V)} (g:S.heap.get a=some (.row ver m el)) (hne:n≠m) (b:Blk):KeepW n S ⟨S.next,S.heap.put a b⟩:=by
 intro y ver' el' h
 show (S.heap.put a b).get y=_
 rw [Tr.get_put_neB _ _ _ _ trivial (fun e=>by subst e;rw [g] at h;injection h with h;injection h with _ h;exact hne h.symm)];exact h
theorem Mn.keepW {S S':St} {n:Nat} {v:V} {es:List (List V)} (h:Mn S n v es) (hn:S.next≤S'.next) (k:KeepW n S S'):Mn S' n v es:=by
 refine ⟨?_,h.len⟩
 rcases h.is with h1 | ⟨a,ver,tl,h1,h2,h3,h4⟩
 ·exact .inl h1
 ·exact .inr ⟨a,ver,tl,h1,h2,Nat.lt_of_lt_of_le h3 hn,k _ _ _ h4⟩
theorem WayAt.keepW {S S':St} {way:Option Inst} {wv dv:V} (h:WayAt S way wv dv) (hn:S.next≤S'.next) (k4:KeepW 4 S S') (k1:KeepW 1 S S'):WayAt S' way wv dv:=by
 unfold WayAt at h ⊢
 split at h
 ·exact h
 ·obtain ⟨b,e,g,m⟩:=h
  exact ⟨b,e,k4 _ _ _ g,m.keepW hn k1⟩
theorem Mn.pushAt {S:St} {n b:Nat} {v u:V} {es:List (List V)} {cs:List V} (h:Mn S n v es) (w:WF S) (hu:bZ S u=.ok [cs]) (hc:cs.length=n∧aK cs=true) {k:Nat} (hk2:k<S.next) (hk3:S.heap.get k=none)
  (h1:(es.length+1)*b≤35184372088832) (h2:es.length+1<fO):∃ v' S',fZ n b v u (some k) S=.ok (v',S')∧WF S'∧S'.next=S.next∧Mn S' n v' (es++[cs])∧(aP v'=some k∨aP v'=aP v)∧(∀ y,y≠k→aP v≠some y→S'.heap.get y=S.heap.get y)∧∀ m,m≠n→KeepW m S S':=by
 obtain ⟨v',S',q1,q2,q3,q4,q5,q6⟩:=Own.pushAt (b:=b) h (aFa w) xC hu (fun c hc'=>by rw [List.mem_singleton.1 hc'];exact hc) (by simp) (Nat.zero_le k) hk2 hk3 h1 h2
 refine ⟨v',S',q1,q2.wf xC,q3,q4,q5,q6,fun m hm y ver el g=>?_⟩
 by_cases e:y=k
 ·subst e;rw [hk3] at g;cases g
 ·rw [q6 y e (fun e2=>h.neRow g (Ne.symm hm) e2)];exact g
theorem Mn.push {S:St} {n b:Nat} {v u:V} {es cs:List (List V)} (h:Mn S n v es) (w:WF S) (hu:bZ S u=.ok cs) (hc:∀ c,c∈cs→c.length=n∧aK c=true) (hne:cs≠[])
  (h1:(es.length+cs.length)*b≤35184372088832) (h2:es.length+cs.length<fO):∃ v' S',fZ n b v u none S=.ok (v',S')∧WF S'∧S.next≤S'.next∧Mn S' n v' (es++cs)∧(aP v'=some S.next∨aP v'=aP v)∧(∀ y,y<S.next→aP v≠some y→S'.heap.get y=S.heap.get y)∧∀ m,m≠n→KeepW m S S':=by
 obtain ⟨v',S',q1,q2,q3,q4,q5,q6⟩:=Own.pushG (b:=b) h (aFa w) xC hu hc hne h1 h2
 refine ⟨v',S',q1,q2.wf xC,q6,q3,q4,q5,fun m hm y ver el g=>?_⟩
 rw [q5 y (w _ _ g) (fun e2=>h.neRow g (Ne.symm hm) e2)];exact g
section
variable {S:St} {a:Nat} {c:Core} {lv wv dv ov:V} {rows:List (List V)} (h:CoreAt S a c lv wv dv ov rows)
include h
theorem CoreAt.w_out (w:WF S) {S1:St} (w1:WF S1) (hn:S.next≤S1.next) (hk:∀ y b,S.heap.get y=some b→aP ov≠some y→S1.heap.get y=some b) {ov':V} {rows':List (List V)} (hout:Mn S1 13 ov' rows') (hone:ov'.cells=[ov']∧ov'.one=true) (hb:∀ y,aP ov'=some y→aP ov=some y∨S.next≤y)
  {out':List Letter} (hlets:All2 (LetAt S (aP lv)) out' rows') (hgd:Gd S1 rows'):
  ∃ S2,bH 1 (.ptr a 0 0 36) ov' S1=.ok S2∧CoreAt S2 a { c with out:=out' } lv wv dv ov' rows'∧Mv (own a lv wv dv ov) S (own a lv wv dv ov') S2∧S2.next=S1.next:=by
 have hl:=dN c lv wv ov h.peers
 have ga:S1.heap.get a=some (.row 0 37 [bP c lv wv ov]):=hk _ _ h.cell (h.out.neRow h.cell (by decide))
 have e:=cX (x:=ov') (j:=36) (m:=1) ga (by rw [hone.1];rfl) (by rw [hone.1];simp [aK,hone.2]) (by omega)
 rw [hone.1,(qM c lv wv ov h.peers ov').2.2.2] at e
 have kk:∀ n,n≠13→n≠37→KeepW n S (⟨S1.next,S1.heap.put a (.row 0 37 [bP c lv wv ov'])⟩:St):=fun n h1 h2=>
  KeepW.trans (fun y ver el g=>hk _ _ g (h.out.neRow g (Ne.symm h1))) (KeepW.put ga h2 _)
 refine ⟨_,e,⟨Tr.get_put_sameB _ _ _ trivial,h.peers,h.log.keepW hn (kk 3 (by decide) (by decide)),h.way.keepW hn (kk 4 (by decide) (by decide)) (kk 1 (by decide) (by decide)),hout.keepW (Nat.le_refl _) (KeepW.put ga (by decide) _),All2.imp (fun m cs q=>q.keep (fun y ver el _ g=>kk 3 (by decide) (by decide) _ _ _ g) (fun y _ h=>h) w) hlets,hgd⟩,⟨⟨fun y b hy hb'=>?_,hn,fun _=>(But.put (w1 _ _ ga) _).wf w1⟩,fun y hy=>?_⟩,rfl⟩
 ·show (S1.heap.put a _).get y=some b
  rw [Tr.get_put_neB _ _ _ _ trivial (fun e=>hy (.inl e))]
  exact hk y b hb' (fun e=>hy (.inr (.inr (.inr (.inr e)))))
 ·rcases hy with hy | hy | hy | hy | hy
  ·exact .inl (.inl hy)
  ·exact .inl (.inr (.inl hy))
  ·exact .inl (.inr (.inr (.inl hy)))
  ·exact .inl (.inr (.inr (.inr (.inl hy))))
  ·rcases hb y hy with h1 | h1
   ·exact .inl (.inr (.inr (.inr (.inr h1))))
   ·exact .inr h1
theorem CoreAt.w_log (w:WF S) {S1:St} (w1:WF S1) (hn:S.next≤S1.next) (hk:∀ y b,S.heap.get y=some b→aP lv≠some y→S1.heap.get y=some b) {lv':V} {l':List Entry} (hlog:Mn S1 3 lv' (l'.map bR)) (hone:lv'.cells=[lv']∧lv'.one=true) (hb:∀ y,aP lv'=some y→aP lv=some y∨S.next≤y):
  ∃ S2,bH 1 (.ptr a 0 0 7) lv' S1=.ok S2∧CoreAt S2 a { c with h:={ c.h with log:=l' } } lv' wv dv ov rows∧Mv (own a lv wv dv ov) S (own a lv' wv dv ov) S2∧S2.next=S1.next:=by
 have hl:=dN c lv wv ov h.peers
 have ga:S1.heap.get a=some (.row 0 37 [bP c lv wv ov]):=hk _ _ h.cell (h.log.neRow h.cell (by decide))
 have e:=cX (x:=lv') (j:=7) (m:=1) ga (by rw [hone.1];rfl) (by rw [hone.1];simp [aK,hone.2]) (by omega)
 have hsp:splice (bP c lv wv ov) 7 [lv']=bP { c with h:={ c.h with log:=l' } } lv' wv ov:=rfl
 rw [hone.1,hsp] at e
 have kk:∀ n,n≠3→n≠37→KeepW n S (⟨S1.next,S1.heap.put a (.row 0 37 [bP { c with h:={ c.h with log:=l' } } lv' wv ov])⟩:St):=fun n h1 h2=>
  KeepW.trans (fun y ver el g=>hk _ _ g (h.log.neRow g (Ne.symm h1))) (KeepW.put ga h2 _)
 have hlets:All2 (LetAt (⟨S1.next,S1.heap.put a (.row 0 37 [bP { c with h:={ c.h with log:=l' } } lv' wv ov])⟩:St) (aP lv')) c.out rows:=by
  refine All2.imp (fun m cs q=>q.keep (fun y ver el hy g=>?_) (fun y hy h1 h2=>?_) w) h.lets
  ·exact (KeepW.put ga (by decide) _:KeepW 3 S1 _) _ _ _ (hk _ _ g hy)
  ·rcases hb y h2 with h3 | h3
   ·exact h1 h3
   ·omega
 refine ⟨_,e,⟨Tr.get_put_sameB _ _ _ trivial,h.peers,hlog.keepW (Nat.le_refl _) (KeepW.put ga (by decide) _),h.way.keepW hn (kk 4 (by decide) (by decide)) (kk 1 (by decide) (by decide)),h.out.keepW hn (kk 13 (by decide) (by decide)),hlets,h.gd.mono hn⟩,⟨⟨fun y b hy hb'=>?_,hn,fun _=>(But.put (w1 _ _ ga) _).wf w1⟩,fun y hy=>?_⟩,rfl⟩
 ·show (S1.heap.put a _).get y=some b
  rw [Tr.get_put_neB _ _ _ _ trivial (fun e=>hy (.inl e))]
  exact hk y b hb' (fun e=>hy (.inr (.inl e)))
 ·rcases hy with hy | hy | hy | hy | hy
  ·exact .inl (.inl hy)
  ·rcases hb y hy with h1 | h1
   ·exact .inl (.inr (.inl h1))
   ·exact .inr h1
  ·exact .inl (.inr (.inr (.inl hy)))
  ·exact .inl (.inr (.inr (.inr (.inl hy))))
  ·exact .inl (.inr (.inr (.inr (.inr hy))))
end
theorem Mn.cells {S:St} {n:Nat} {v:V} {es:List (List V)} (h:Mn S n v es):v.cells=[v]∧v.one=true:=⟨dV h.sl,h.sl.one⟩
theorem CoreIn.ext {S S':St} {a:Nat} {c:Core} {O:Nat→Prop} (h:CoreIn S a c O) (w:WF S) (x:Ext S S'):CoreIn S' a c O:=by
 obtain ⟨lv,wv,dv,ov,rows,h,rfl⟩:=h
 exact ⟨lv,wv,dv,ov,rows,h.ext w x,rfl⟩
theorem CoreIn.peers {S:St} {a:Nat} {c:Core} {O:Nat→Prop} (h:CoreIn S a c O):c.peers.length=7:=by
 obtain ⟨lv,wv,dv,ov,rows,h,rfl⟩:=h
 exact h.peers
end
end Go.Raft
end
section
namespace Go.AM
open Go.Raft
section
variable [Guard]
theorem sM {P : Program} {t : TypeId} {n : Nat} (h : esT P t = some n) (lo hi : Option V) : dX P t .nils lo hi = (match fY 0 lo hi with
      | .ok _ => .ok .nils
      | .error e => .error e) := by
  unfold esT at h
  unfold dX
  split at h
  · rename_i e he
    rw [cond_eq_ite] at h
    split at h
    · rename_i hs
      cases h
      rw [he]
      simp only [hs, Bool.not_true, cond_false]
      rfl
    · cases h
  · cases h
theorem aHg {P : Program} {t : TypeId} (h : rE P t = true) (s : List UInt8) (lo hi : Option V) : dX P t (.str s) lo hi = (match fY s.length lo hi with
      | .ok (l, h) => .ok (.str ((s.take h).drop l))
      | .error e => .error e) := by
  unfold rE at h
  unfold dX
  split at h
  · rename_i he
    rw [he]
    rfl
  · cases h
theorem kR {len:Nat} {l:Int} (k:IntKind) (h0:0≤l) (h1:l≤len):fY len (some (.int k l)) none=.ok (l.toNat,len):=by
 simp only [fY,h0,h1,decide_true,Bool.and_self,cond_true]
theorem mS {len:Nat} {l:Int} (k:IntKind) (h0:0≤l) (h1:l≤len):fY len none (some (.int k l))=.ok (0,l.toNat):=by
 simp only [fY,h0,h1,decide_true,Bool.and_self,cond_true]
theorem sN {P:Program} {t:TypeId} {n:Nat} (ht:esT P t=some n) {S:St} {v:V} {es:List (List V)} (h:Sl S n v es) {lo hi:Option V} {i j:Nat} (hb:fY es.length lo hi=.ok (i,j)) (hij:i≤j) (hj:j≤es.length):
  ∃ u,dX P t v lo hi=.ok u∧Sl S n u ((es.take j).drop i)∧∀ y,aP u=some y→aP v=some y:=by
 have hlen:∀ cs,cs∈(es.take j).drop i→cs.length=n∧aK cs=true:=fun cs hc=>h.len cs (List.mem_of_mem_take (List.mem_of_mem_drop hc))
 have hlen2:((es.take j).drop i).length=j - i:=by simp;omega
 rcases h.is with ⟨rfl,rfl⟩ | rfl | ⟨a,ver,off,elems,rfl,h2,h3,h4⟩
 ·refine ⟨.nils,by rw [sM ht];simp only [List.length_nil] at hb;rw [hb],⟨.inl ⟨rfl,by simp⟩,hlen⟩,fun y hy=>by cases hy⟩
 ·refine ⟨.imm ((es.take j).drop i),by rw [aJ8 ht es (fK h.len).1,hb],⟨.inr (.inl rfl),hlen⟩,fun y hy=>by cases hy⟩
 ·refine ⟨.sl a ver n (off+i) (j - i),by rw [vI ht,hb],⟨.inr (.inr ⟨a,ver,off+i,elems,by rw [hlen2],h2,by rw [hlen2];omega,?_⟩),hlen⟩,fun y hy=>hy⟩
  rw [hlen2,←h4,List.take_take,List.drop_take,List.drop_drop,Nat.min_eq_left hj]
theorem aVq {P:Program} {t:TypeId} {n:Nat} (ht:esT P t=some n) {S:St} {v:V} {es:List (List V)} (h:Mn S n v es) {k:IntKind} {l:Int} (h0:0≤l) (h1:l≤es.length):
  ∃ u,dX P t v none (some (.int k l))=.ok u∧Mn S n u (es.take l.toNat)∧aP u=aP v:=by
 have hb:=mS (len:=es.length) (l:=l) k h0 h1
 have hlen:∀ cs,cs∈es.take l.toNat→cs.length=n∧aK cs=true:=fun cs hc=>h.len cs (List.mem_of_mem_take hc)
 have hlen2:(es.take l.toNat).length=l.toNat:=by simp;omega
 rcases h.is with ⟨rfl,rfl⟩ | ⟨a,ver,tl,rfl,h2,h3,h4⟩
 ·refine ⟨.nils,by rw [sM ht];simp only [List.length_nil] at hb;rw [hb],⟨.inl ⟨rfl,by simp⟩,hlen⟩,rfl⟩
 ·refine ⟨.sl a ver n 0 (l.toNat),by rw [vI ht,hb];rfl,⟨.inr ⟨a,ver,es.drop l.toNat++tl,by rw [hlen2],h2,h3,?_⟩,hlen⟩,rfl⟩
  rw [h4,←List.append_assoc,List.take_append_drop]
theorem pR (k:IntKind) (a b:Int):yQ [.int k a,.int k b]=.ok (.int k (min a b)):=by
 simp only [yQ,bW,cond_true]
 congr 2
 omega
theorem uD (k:IntKind) (a b:Int):aDn [.int k a,.int k b]=.ok (.int k (max a b)):=by
 simp only [aDn,bW,cond_true]
 congr 2
 omega
end
end Go.AM
end
section
namespace Go.Proofs.Ytbiidlmhadihlaa
open Go.AM Go.Raft Try
section
variable [Guard]
abbrev Meth (f:FuncId) (args:List V) (a:Nat) (c':Core) (S:St) (O:Nat→Prop) (v:V):Prop:=Does prog bC bD f args S fun u S'=>u=v∧∃ O',CoreIn S' a c' O'∧Mv O S O' S'
theorem Meth.call {f:FuncId} {args:List V} {a:Nat} {c':Core} {S:St} {O:Nat→Prop} {v:V} (h:Meth f args a c' S O v) (w:WF S) {G:Nat→KS→V→St→An} {R:V→St→Prop} (k:∀ S' O',WF S'→CoreIn S' a c' O'→Mv O S O' S'→Ok (fun k K=>G k K v S') R):
  Ok (fun k K=>aC prog bC bD k f args S (fun v S=>G k K v S)) R:=Does.call h fun u S' ⟨e,O',h1,h2⟩=>by subst e;exact k S' O' (h2.wf w) h1 h2
theorem Meth.callL {X:Type} {out:Nat→KS→X→St→An} {Q:Turn X→Prop} {f:FuncId} {args:List V} {a:Nat} {c':Core} {S:St} {O:Nat→Prop} {v:V} (h:Meth f args a c' S O v) (w:WF S) {G:Nat→KS→Ag→V→St→An} (k:∀ S' O',WF S'→CoreIn S' a c' O'→Mv O S O' S'→OkL out (fun k K aO=>G k K aO v S') Q):
  OkL out (fun k K aO=>aC prog bC bD k f args S (fun v S=>G k K aO v S)) Q:=OkL.call h fun u S' ⟨e,O',h1,h2⟩=>by subst e;exact k S' O' (h2.wf w) h1 h2
section
variable {S:St} {a:Nat} {c:Core} {O:Nat→Prop}
theorem bB7 (w:WF S) (h:CoreIn S a c O):Meth 106 [.ptr a 0 0 0] a c.rest S O (.tup []):=by
 obtain ⟨lv,wv,dv,ov,rows,h,rfl⟩:=h
 obtain ⟨S1,q1,h1,m1,n1⟩:=h.w_role w 1
 have w1:=m1.wf w
 obtain ⟨S2,q2,h2,m2,n2⟩:=h1.w_leads w1 (-1)
 have w2:=m2.wf w1
 obtain ⟨S3,q3,h3,m3,n3⟩:=h2.w_left w2 c.drawn
 refine bAx ?_
 simp only [aRl,aT,aAl,gM,sJ,nM,aF,aG,dY,st3,Nat.reduceAdd,h.r_drawn,q1,q2,q3]
 exact Ok.ret ⟨rfl,_,⟨lv,wv,dv,ov,rows,h3,rfl⟩,(m1.trans w m2).trans w m3⟩
theorem g89 (f:Int) (w:WF S) (h:CoreIn S a c O):Meth 89 [.ptr a 0 0 0,.int .i64 f] a (c.hear f) S O (.tup []):=by
 obtain ⟨lv,wv,dv,ov,rows,h,rfl⟩:=h
 obtain ⟨S1,q1,h1,m1,n1⟩:=h.w_role w 1
 have w1:=m1.wf w
 obtain ⟨S2,q2,h2,m2,n2⟩:=h1.w_leads w1 f
 have w2:=m2.wf w1
 obtain ⟨S3,q3,h3,m3,n3⟩:=h2.w_left w2 c.drawn
 refine e89 ?_
 simp only [m89,aT,aAl,gM,sJ,nM,aF,aG,dY,st3,Nat.reduceAdd,h.r_drawn,q1,q2,q3]
 exact Ok.ret ⟨rfl,_,⟨lv,wv,dv,ov,rows,h3,rfl⟩,(m1.trans w m2).trans w m3⟩
theorem eP (ok:Hok c.h):0≤c.last∧c.last≤1099511627776:=by
 have:=ok.b0;have:=ok.li;unfold Core.last bI;omega
theorem aXw (h:CoreIn S a c O) (b0:0≤c.h.base) (b1:c.h.base≤1099511627776) (ll:c.h.log.length≤1000):xD 46 [.ptr a 0 0 0] S (.int .i64 c.last):=by
 obtain ⟨lv,wv,dv,ov,rows,h,rfl⟩:=h
 have hw:wr .i64 (c.h.base+c.h.log.length)=c.last:=cR (by omega) (by omega)
 refine e46 ?_
 simp only [m46,aT,dE,fF,eR,aF,aG,dY,iC,Nat.reduceAdd,bA,h.r_base,h.r_log,kD,h.log.sl.lenI,bQ,hw]
 exact Ok.ret ⟨rfl,(Ext.refl S).bump 13⟩
theorem g46 (h:CoreIn S a c O) (ok:Hok c.h):xD 46 [.ptr a 0 0 0] S (.int .i64 c.last):=aXw h ok.b0 ok.b1 (Nat.le_trans ok.ll (by decide))
theorem aXx (h:CoreIn S a c O) (hb:0≤c.h.base) (b1:c.h.base≤1099511627776) (ll:c.h.log.length≤1000) {n:Int} (h1:c.h.base≤n) (h2:n≤c.last):xD 62 [.ptr a 0 0 0,.int .i64 n] S (.int .i64 (c.term n)):=by
 obtain ⟨lv,wv,dv,ov,rows,h,rfl⟩:=h
 have hl2:c.last=c.h.base+c.h.log.length:=rfl
 refine e62 ?_
 simp only [m62,aT,dE,fF,aEx,eR,kB,aF,aG,dY,iC,Nat.reduceAdd,bA,h.r_base,h.r_log,h.r_baseTerm,aR,aU,bX]
 refine Ok.pickP (fun e=>Ok.ret ⟨by unfold Core.term termH;rw [if_pos e],Ext.refl S⟩) (fun e=>?_)
 obtain ⟨x,hx⟩:=nR (h:=c.h) (n:=n) (by omega) h2
 obtain ⟨j,hj⟩:∃ j:Nat,n - c.h.base - 1=(j:Int):=⟨(n - c.h.base - 1).toNat,by omega⟩
 have hjx:c.h.log[j]?=some x:=by rw [hj] at hx;exact hx
 have hw1:wr .i64 (n - c.h.base)=n - c.h.base:=cR (by omega) (by omega)
 have hw2:wr .i64 (n - c.h.base - 1)=(j:Int):=by rw [cR (by omega) (by omega)];exact hj
 obtain ⟨p,hp,hat,_,_⟩:=h.log.sl.elem hjx
 have hat0:aL none (adv 0 p) S=.ok (.int .i64 x.term):=by rw [hat.load];rfl
 simp only [cL,hw1,hw2,aG,aBw,hp,kB,hat.advW,hat0]
 have ht:c.term n=x.term:=by unfold Core.term;exact kQ (by omega) hx
 exact Ok.ret ⟨by rw [ht],(Ext.refl S).bump 17⟩
theorem g62 (h:CoreIn S a c O) (ok:Hok c.h) {n:Int} (h1:c.h.base≤n) (h2:n≤c.last):xD 62 [.ptr a 0 0 0,.int .i64 n] S (.int .i64 (c.term n)):=aXx h ok.b0 ok.b1 (Nat.le_trans ok.ll (by decide)) h1 h2
theorem g47 (w:WF S) (h:CoreIn S a c O) (ok:Hok c.h):xD 47 [.ptr a 0 0 0] S (.int .i64 c.members):=by
 obtain ⟨lv,wv,dv,ov,rows,h,rfl⟩:=h
 have hl:=ok.ll
 refine e47 ?_
 simp only [m47,aT,dE,aF,aG,xP,Nat.reduceAdd,h.r_hard]
 refine (g49 c.h lv S w h.log.sl (by omega) ok.b0 ok.b1).call fun S1 x1=>?_
 exact Ok.ret ⟨rfl,x1⟩
end
end
section
section
variable {S:St} {a:Nat} {c:Core} {O:Nat→Prop}
def Apart (S:St) (O:Nat→Prop) (m:Letter) (ev:V):Prop:=Sl S 3 ev (m.entries.map bR)∧∀ y,aP ev=some y→¬ O y
variable [Guard]
def aJp (S:St) (O:Nat→Prop) (m:Letter) (ev:V):Prop:=Apart S O m ev∧∀ y,aP ev=some y→Guard.n≤y
theorem Apart.nil (S:St) (O:Nat→Prop) {m:Letter} (h:m.entries=[]):aJp S O m .nils:=⟨⟨by rw [h];exact Sl.nilv S 3,fun y hy=>by cases hy⟩,fun y hy=>by cases hy⟩
theorem Gd.app {S S':St} {rows:List (List V)} (h:Gd S rows) (hn:S.next≤S'.next) (m:Letter) {ev:V} (he:∀ y,aP ev=some y→Guard.n≤y):Gd S' (rows++[aN m ev]):=
 ⟨Nat.le_trans h.1 hn,fun r hr ev' h1 y hy=>by
  rcases List.mem_append.1 hr with hr | hr
  ·exact h.2 r hr ev' h1 y hy
  ·rw [List.mem_singleton.1 hr] at h1
   have h2:ev=ev':=by injection h1
   subst h2;exact he y hy⟩
theorem Apart.mv {S S':St} {O O':Nat→Prop} {m:Letter} {ev:V} (h:Apart S O m ev) (w:WF S) (k:Mv O S O' S'):Apart S' O' m ev:=by
 refine ⟨k.sl h.1 h.2,fun y hy hO=>?_⟩
 rcases k.own y hO with h1 | h1
 ·exact h.2 y hy h1
 ·have:=aHb w h.1 y hy;omega
theorem Apart.ext {S S':St} {O:Nat→Prop} {m:Letter} {ev:V} (h:Apart S O m ev) (x:Ext S S'):Apart S' O m ev:=⟨h.1.ext x,h.2⟩
theorem aJq {lv wv dv ov:V} {rows:List (List V)} (w:WF S) (h:CoreAt S a c lv wv dv ov rows) {y:Nat} (hy:own a lv wv dv ov y):y<S.next:=by
 rcases hy with rfl | hy | hy | hy | hy
 ·exact h.lt w
 ·exact (h.log.blk hy).1
 ·have hw:=h.way
  unfold WayAt at hw
  split at hw
  ·rw [hw.1] at hy;cases hy
  ·obtain ⟨b,e,g,m⟩:=hw
   rw [e] at hy;cases hy;exact w _ _ g
 ·have hw:=h.way
  unfold WayAt at hw
  split at hw
  ·rw [hw.2] at hy;cases hy
  ·obtain ⟨b,e,g,m⟩:=hw
   exact (m.blk hy).1
 ·exact (h.out.blk hy).1
theorem g86 (m:Letter) (ev:V) (w:WF S) (h:CoreIn S a c O) (hmp:aJp S O m ev) (hl:c.out.length≤1000000):Meth 86 [.ptr a 0 0 0,.agg (aN m ev)] a (c.post m) S O (.tup []):=by
 obtain ⟨lv,wv,dv,ov,rows,h,rfl⟩:=h
 obtain ⟨hm,hg⟩:=hmp
 have ho:=cM m hm.1.one
 have hln:(aN m ev).length=13:=rfl
 obtain ⟨S1,hn1,x1,hg1,hnx1⟩:=nb w 13 (aN m ev)
 have w1:=x1.wf w
 have xb:Ext S (⟨S1.next+13,S1.heap⟩:St):=x1.bump 13
 have e1:=cX (S:=(⟨S1.next+13,S1.heap⟩:St)) (x:=.int .i64 c.id) (j:=1) (m:=1) hg1 rfl rfl (by rw [hln];omega)
 have c1:splice (aN m ev) 1 (V.int .i64 c.id).cells=aN { m with from':=c.id } ev:=rfl
 rw [c1] at e1
 have x2:Ext S (⟨S1.next+13,S1.heap.put S.next (.row 0 13 [aN { m with from':=c.id } ev])⟩:St):=xb.set (Nat.le_refl _) (by show S.next<S1.next+13;omega) w _
 have hg2:(⟨S1.next+13,S1.heap.put S.next (.row 0 13 [aN { m with from':=c.id } ev])⟩:St).heap.get S.next=some (.row 0 13 [aN { m with from':=c.id } ev]):=Tr.get_put_sameB _ _ _ trivial
 generalize (⟨S1.next+13,S1.heap.put S.next (.row 0 13 [aN { m with from':=c.id } ev])⟩:St)=S2 at e1 x2 hg2
 have e2:=cX (S:=S2) (x:=.int .i64 c.h.term) (j:=3) (m:=1) hg2 rfl rfl (by show 3+1≤13;omega)
 have c2:splice (aN { m with from':=c.id } ev) 3 (V.int .i64 c.h.term).cells=aN { m with from':=c.id,term:=c.h.term } ev:=rfl
 rw [c2] at e2
 have hlt2:S.next<S2.next:=by have:=x2.wf w _ _ hg2;exact this
 have x3:Ext S (⟨S2.next,S2.heap.put S.next (.row 0 13 [aN { m with from':=c.id,term:=c.h.term } ev])⟩:St):=x2.set (Nat.le_refl _) hlt2 w _
 have hg3:(⟨S2.next,S2.heap.put S.next (.row 0 13 [aN { m with from':=c.id,term:=c.h.term } ev])⟩:St).heap.get S.next=some (.row 0 13 [aN { m with from':=c.id,term:=c.h.term } ev]):=Tr.get_put_sameB _ _ _ trivial
 generalize (⟨S2.next,S2.heap.put S.next (.row 0 13 [aN { m with from':=c.id,term:=c.h.term } ev])⟩:St)=S3 at e2 x3 hg3
 have w3:=x3.wf w
 have h1:=h.ext w x1
 have h2:=h.ext w x2
 have h3:=h.ext w x3
 have ho':aK (aN { m with from':=c.id,term:=c.h.term } ev)=true:=ho
 have hfree:(⟨S3.next+11,S3.heap⟩:St).heap.get (S3.next+7)=none:=iY w3 11 (S3.next+7) (by omega)
 have e3:=pI (⟨S3.next+11,S3.heap⟩:St) (S3.next+6) 13 (aN { m with from':=c.id,term:=c.h.term } ev) rfl ho' (by omega)
 have x4:Ext S3 (⟨S3.next+11,S3.heap.put (S3.next+6) (.row 0 13 [aN { m with from':=c.id,term:=c.h.term } ev])⟩:St):=
  ((Ext.refl S3).bump 11).set (by omega) (by show S3.next+6<S3.next+11;omega) w3 _
 have hel:bZ (⟨S3.next+11,S3.heap.put (S3.next+6) (.row 0 13 [aN { m with from':=c.id,term:=c.h.term } ev])⟩:St) (.sl (S3.next+6) 0 13 0 1)=.ok [aN { m with from':=c.id,term:=c.h.term } ev]:=by
  simp only [bZ,gJ]
  rfl
 have hf7:(⟨S3.next+11,S3.heap.put (S3.next+6) (.row 0 13 [aN { m with from':=c.id,term:=c.h.term } ev])⟩:St).heap.get (S3.next+7)=none:=by
  show (S3.heap.put _ _).get _=none
  rw [Tr.get_put_neB _ _ _ _ trivial (by omega)];exact hfree
 have hn4:S3.next+7<(⟨S3.next+11,S3.heap.put (S3.next+6) (.row 0 13 [aN { m with from':=c.id,term:=c.h.term } ev])⟩:St).next:=by show S3.next+7<S3.next+11;omega
 simp only at e3
 generalize (⟨S3.next+11,S3.heap.put (S3.next+6) (.row 0 13 [aN { m with from':=c.id,term:=c.h.term } ev])⟩:St)=S4 at e3 x4 hel hf7 hn4
 have x04:=x3.trans x4
 have w4:=x04.wf w
 have h4:=h.ext w x04
 have hrl:rows.length=c.out.length:=h.lets.len.symm
 obtain ⟨ov',S5,e5,w5,n5,o5,b5,k5,_⟩:=Mn.pushAt (b:=128) h4.out w4 hel ⟨rfl,ho'⟩ hn4 hf7 (by omega) (by unfold fO;omega)
 have hk5:∀ y b,S.heap.get y=some b→aP ov≠some y→S5.heap.get y=some b:=fun y b hy hb=>by
  have hlt:=w y b hy
  rw [k5 y (by have:=x3.next;omega) hb];exact x04.old _ _ hy
 obtain ⟨S6,e6,h6,m6,n6⟩:=h.w_out w w5 (by rw [n5];exact x04.next) hk5 o5 o5.cells (fun y hy=>by
  rcases b5 with b5 | b5
  ·rw [b5] at hy;cases hy;exact .inr (by have:=x3.next;omega)
  ·rw [b5] at hy;exact .inl hy) (All2.app (a:={ m with from':=c.id,term:=c.h.term }) ⟨ev,rfl,hm.1,fun y hy he=>hm.2 y hy (.inr (.inl he))⟩ h.lets) (Gd.app h.gd (by rw [n5];exact x04.next) _ hg)
 refine e86 ?_
 simp only [m86,bK,ho,hln,aU,hn1,aG,aT,nL,dE,aLa,gL,fL,aAh,aF,dY,aPa,aBx,st3,aPc,Nat.reduceAdd,bA,h1.r_id,h1.r_term,h2.r_term,h3.r_out,e1,e2,cN,uC hg3,aXg,e3,aP1,e5,e6]
 exact Ok.ret ⟨rfl,_,⟨lv,wv,dv,ov',_,h6,rfl⟩,m6⟩
end
end
section
variable [Guard]
theorem aAx {α:Type} (p:α→Bool):∀ (all acc:List α),fW (fun (l:List α) (f:α)=>(.inr (if p f=true then l++[f] else l):List α⊕List α)) id all acc=acc++all.filter p
 | [],acc=>by simp [fW]
 | f::all,acc=>by
  simp only [fW,aAx p all,List.filter_cons]
  cases p f<;>simp
theorem jQ {c:Core} (ok:Hok c.h):1≤c.members∧c.members≤127:=by
 have h:=(eU _ _ _).1 ok.fl
 exact pO c.h.log c.h.base (c.h.members,c.h.base) (fun x hx=>⟨(h.1 x hx).m0,(h.1 x hx).m1⟩) ⟨ok.m0,ok.m1⟩
theorem aD7 {m f:Int} (h:f∈gN m):0≤f∧f<7:=by
 have:=(List.mem_filter.1 h).1
 simp only [qR,List.mem_cons,List.not_mem_nil,or_false] at this
 omega
theorem aJr {c:Core} {f:Int} (h:f∈c.others):0≤f∧f<7∧f≠c.id:=by
 obtain ⟨h1,h2⟩:=List.mem_filter.1 h
 exact ⟨(aD7 h1).1,(aD7 h1).2,by simpa using h2⟩
theorem vZ (m:Int):(gN m).length≤7:=List.length_filter_le _ _
theorem aPj {S S2:St} {u:V} {l:List Int} (w:WF S) (x02:Ext S S2) (own1:Own S S2 1 u (l.map nT)) (hl:l.length≤1000) (f:Int):
  ∃ u' S4,fZ 1 8 u (.sl S2.next 0 1 0 1) none (⟨S2.next+1,S2.heap.put S2.next (.row 0 1 [nT f])⟩:St)=.ok (u',S4)∧Ext S S4∧Own S S4 1 u' ((l++[f]).map nT):=by
 have hnew:=Ext.new (x02.wf w) (.row 0 1 [nT f])
 have hel:bZ (⟨S2.next+1,S2.heap.put S2.next (.row 0 1 [nT f])⟩:St) (.sl S2.next 0 1 0 1)=.ok [nT f]:=by
  simp only [bZ,gJ]
  rfl
 obtain ⟨u',S4,r1,r2,_,r4⟩:=(own1.ext hnew).push (b:=8) (x02.trans hnew) w hel (fun c hc=>by rw [List.mem_singleton.1 hc];exact ⟨rfl,rfl⟩) (by simp) (by rw [tZ];simp only [List.length_cons,List.length_nil];omega) (by rw [tZ];simp only [List.length_cons,List.length_nil];unfold fO;omega)
 exact ⟨u',S4,r1,r2,by rw [List.map_append];exact r4⟩
section
variable {S:St} {a:Nat} {c:Core} {O:Nat→Prop}
theorem g82 (w:WF S) (h:CoreIn S a c O) (ok:Hok c.h):Does prog bC bD 82 [.ptr a 0 0 0] S (fun u S'=>Ext S S'∧Own S S' 1 u (c.others.map nT)):=by
 refine e82 ?_
 simp only [m82]
 refine (g47 w h ok).call fun S1 x1=>?_
 have w1:=x1.wf w
 refine Does.call (aXs c.members S1 w1 (by have:=jQ ok;omega)) fun u S2 ⟨x2,own2⟩=>?_
 have x02:=x1.trans x2
 simp only [aLc,own2.sl.lenI,aG]
 have hrun:fW (fun (l:List Int) (f:Int)=>(.inr (if (!decide (f=c.id))=true then l++[f] else l):List Int⊕List Int)) id (gN c.members) []=c.others:=by
  rw [aAx (fun f=>!decide (f=c.id))];rfl
 rw [←hrun]
 refine Ok.loopL (F:=fun k K=>aEt (aC prog bC bD k) k K (.ptr a 0 0 0) u (.int .i64 (gN c.members).length)) (ρ:=List Int) (α:=Int) (X:=V) (gN c.members) (fin:=id) (s:=[])
  (out:=fun k K x S'=>K x S')
  (fun i l vs S'=>∃ v,vs=[v,.int .i64 (i:Int)]∧Ext S2 S'∧Own S2 S' 1 v (l.map nT)∧l.length≤i)
  (fun l v S'=>Ext S S'∧Own S S' 1 v (l.map nT)) ?_ ?_ ⟨.nils,rfl,Ext.refl _,Own.nil _ _ _,Nat.le_refl _⟩ (fun x S1 h=>Ok.ret h)
 ·rintro i f l vs S3 ⟨v,rfl,x3,own3,hl⟩ hi
  have hil:=(List.getElem?_eq_some_iff.1 hi).1
  have hlm:=vZ c.members
  have hlt:(i:Int)<((gN c.members).length:Int):=by omega
  have hw:wr .i64 ((i:Int)+1)=((i+1:Nat):Int):=by rw [cR (by omega) (by omega)];omega
  have x03:=x02.trans x3
  obtain ⟨lv,wv,dv,ov,rows,h3,_⟩:=h.ext w x03
  obtain ⟨p,hp,hat,_,_⟩:=(own2.sl.ext x3).elem hi
  have hat0:aL none p S3=.ok (.int .i64 f):=by rw [hat.load0];rfl
  simp only [aEt,bE,bG,aG,hlt,decide_true,bT,aRs,hp,dY,hat0,aT,nL,aF,Nat.reduceAdd,h3.r_id,aR,aU,dG]
  refine OkL.pick (fun e=>?_) (fun e=>?_)
  ·obtain ⟨u',S4,r1,r2,r4⟩:=aPj (x02.wf w) x3 own3 (by omega) f
   simp only [aVh,aLg,aP2,r1,aG,bQ,hw]
   refine OkL.next ⟨l++[f],by simp only [e,if_true],u',rfl,r2,r4,by simp;omega⟩
  ·simp only [bQ,hw,aG]
   exact OkL.next ⟨l,by simp only [e];rfl,v,rfl,x3,own3,by omega⟩
 ·rintro l vs S3 ⟨v,rfl,x3,own3,hl⟩
  refine ⟨v,⟨x02.trans x3,own3.weaken x02.next⟩,fun k K aO=>?_⟩
  have hlt:¬ (((gN c.members).length:Nat):Int)<(gN c.members).length:=by omega
  simp only [aEt,bE,bG,aG,hlt,decide_false,aH]
end
end
section
variable [Guard]
theorem aAy (x i:V):aM prog 85 x i=aAw 7 3 x i:=lK (by kernel_rfl) x i
theorem aMs:esT prog 22=some 3:=by kernel_rfl
theorem aRz:rE prog 9=true:=by kernel_rfl
theorem bB8 (s : List UInt8) (lo hi : Option V) : dX prog 9 (.str s) lo hi = (match fY s.length lo hi with
      | .ok (l, h) => .ok (.str ((s.take h).drop l))
      | .error e => .error e) := aHg aRz s lo hi
theorem aHh (s:List UInt8) (S:St):dI prog 9 (.str s) S=.ok (.int .i64 s.length):=vH aRz s S
theorem aS0 (f b bt mb off sz:Int) (d:List UInt8):dJ [.int .i64 0,.int .i64 0,.int .i64 0,.int .i64 0,.int .i64 0,.int .i64 0,.int .i64 0,.int .i64 0,.int .i64 0,.int .i64 0,.bool false,.str [],.nils] [(0,1),(1,1),(2,1),(3,1),(4,1),(5,1),(6,1),(7,1),(8,1),(9,1),(10,1),(11,1),(12,1)] [(0,.int .i64 5),(2,.int .i64 f),(4,.int .i64 b),(5,.int .i64 bt),(7,.int .i64 mb),(8,.int .i64 off),(9,.int .i64 sz),(11,.str d)]=
  .ok (.agg (aN { Letter.zero with kind:=5,to:=f,index:=b,at':=bt,members:=mb,off:=off,size:=sz,data:=d } .nils)):=rfl
theorem aVr {S:St} {u:V} {l:List Entry} (hu:Mn S 3 u (l.map bR)) (f i t com:Int):dJ [.int .i64 0,.int .i64 0,.int .i64 0,.int .i64 0,.int .i64 0,.int .i64 0,.int .i64 0,.int .i64 0,.int .i64 0,.int .i64 0,.bool false,.str [],.nils] [(0,1),(1,1),(2,1),(3,1),(4,1),(5,1),(6,1),(7,1),(8,1),(9,1),(10,1),(11,1),(12,1)] [(0,.int .i64 3),(2,.int .i64 f),(4,.int .i64 i),(5,.int .i64 t),(12,u),(6,.int .i64 com)]=
  .ok (.agg (aN { Letter.zero with kind:=3,to:=f,index:=i,at':=t,entries:=l,commit:=com } u)):=by
 rcases hu.is with ⟨rfl,_⟩ | ⟨a,ver,tl,rfl,_⟩<;>rfl
section
variable {S:St} {a:Nat} {c:Core} {O:Nat→Prop}
theorem g83 {f:Int} (w:WF S) (h:CoreIn S a c O) (ok:Hok c.h) (hl:c.out.length≤1000000) (f0:0≤f) (f1:f<7) (hp:Pok c (c.peer f)):Meth 83 [.ptr a 0 0 0,.int .i64 f] a (c.send f) S O (.tup []):=by
 obtain ⟨n,rfl⟩:∃ n:Nat,f=(n:Int):=⟨f.toNat,by omega⟩
 have hn:n<7:=by omega
 have hpe:c.peers.getD n ⟨0,0,0⟩=c.peer (n:Int):=rfl
 obtain ⟨lv,wv,dv,ov,rows,h,rfl⟩:=h
 have hr:=eP ok
 have hb:=ok.b0
 obtain ⟨S1,S2,q1,q2,x2,hg2,hn2⟩:=vb w 3 [.int .i64 0,.int .i64 0,.int .i64 0] (.agg (jJ (c.peer (n:Int)))) rfl rfl rfl
 rw [bK] at hg2
 have w2:=x2.wf w
 have h2:=h.ext w x2
 have v0:∀ {T:St},T.heap.get S.next=some (.row 0 3 [jJ (c.peer (n:Int))])→aL none (.ptr S.next 0 0 0) T=.ok (.int .i64 (c.peer (n:Int)).next):=fun hg=>by rw [aY _ _ _ _ _ (aX hg)];rfl
 have v2:aL none (.ptr S.next 0 0 2) S2=.ok (.int .i64 (c.peer (n:Int)).off):=by rw [aY _ _ _ _ _ (aX hg2)];rfl
 have hp2:=h.r_peer hn
 rw [hpe] at hp2
 refine e83 ?_
 simp only [m83,aT,pM,dE,iX,fF,aAf,aEx,aEy,eR,aF3,aJf,aF,aG,Nat.reduceAdd,Nat.add_zero,aAy,cZ hn,bAn,hp2,q1,aMm,q2,bA,dY,ld9,iC,v0 hg2,h2.r_base,fR]
 refine Ok.pickP (fun e=>?_) (fun e=>?_)
 ·
  have ho:(c.peer (n:Int)).off≤c.h.snap.length:=by rcases hp.o1 with h1 | h1<;>omega
  have hb1:=kR (len:=c.h.snap.length) .i64 hp.o0 ho
  have hb2:=mS (len:=(c.h.snap.drop (c.peer (n:Int)).off.toNat).length) (l:=min ((c.h.snap.drop (c.peer (n:Int)).off.toNat).length:Int) 600) .i64 (by omega) (by omega)
  have ht:((c.h.snap.drop (c.peer (n:Int)).off.toNat).take (min ((c.h.snap.drop (c.peer (n:Int)).off.toNat).length:Int) 600).toNat)=(c.h.snap.drop (c.peer (n:Int)).off.toNat).take 600:=by
   by_cases hq:(c.h.snap.drop (c.peer (n:Int)).off.toNat).length≤600
   ·rw [List.take_of_length_le hq,List.take_of_length_le (by omega)]
   ·congr 1;omega
  simp only [h2.r_snap,aG,v2,bB8,hb1,List.take_length,h2.r_baseTerm,h2.r_mem,h2.r_base,aHh,pR,hb2,List.drop_zero,ht,tW,aS0]
  have xb:Ext S2 (⟨S2.next+49,S2.heap⟩:St):=(Ext.refl S2).bump 49
  have hs:c.send (n:Int)=c.post { Letter.zero with kind:=5,to:=(n:Int),index:=c.h.base,at':=c.h.baseTerm,members:=c.h.members,off:=(c.peer (n:Int)).off,size:=c.h.snap.length,data:=(c.h.snap.drop (c.peer (n:Int)).off.toNat).take 600 }:=by
   unfold Core.send;simp only;rw [if_pos e]
  rw [hs]
  refine Meth.call (g86 (O:=own a lv wv dv ov) _ .nils (xb.wf w2) ⟨lv,wv,dv,ov,rows,h2.ext w2 xb,rfl⟩ (Apart.nil _ _ rfl) hl) (xb.wf w2) fun S3 O3 w3 h3 m3=>?_
  exact Ok.ret ⟨rfl,O3,h3,(Mv.of (x2.trans xb)).trans w m3⟩
 ·
  have hnx:=hp.n1
  have hi0:(0:Int)≤(c.peer (n:Int)).next - c.h.base - 1:=by omega
  have hlast:c.last=c.h.base+c.h.log.length:=rfl
  have hle:(c.peer (n:Int)).next - c.h.base - 1≤((c.h.log.map bR).length:Int):=by rw [List.length_map];omega
  have hw1:wr .i64 ((c.peer (n:Int)).next - c.h.base)=(c.peer (n:Int)).next - c.h.base:=cR (by omega) (by omega)
  have hw2:wr .i64 ((c.peer (n:Int)).next - c.h.base - 1)=(c.peer (n:Int)).next - c.h.base - 1:=cR (by omega) (by omega)
  have hw3:wr .i64 ((c.peer (n:Int)).next - 1)=(c.peer (n:Int)).next - 1:=cR (by omega) (by omega)
  obtain ⟨u1,r1,l1,b1⟩:=sN aMs h2.log.sl (kR .i64 hi0 hle) (by omega) (Nat.le_refl _)
  rw [List.take_length] at l1
  generalize hk:((c.peer (n:Int)).next - c.h.base - 1).toNat=k at l1
  have l1':Sl S2 3 u1 ((c.h.log.drop k).map bR):=by rw [List.map_drop];exact l1
  have hmin:(0:Int)≤min ((c.h.log.drop k).length:Int) 8:=by omega
  obtain ⟨u2,r2,l2,b2⟩:=sN aMs l1' (mS (l:=min ((c.h.log.drop k).length:Int) 8) .i64 hmin (by rw [List.length_map];omega)) (by omega) (by rw [List.length_map];omega)
  have hes:(((c.h.log.drop k).map bR).take (min ((c.h.log.drop k).length:Int) 8).toNat).drop 0=((c.h.log.drop k).take 8).map bR:=by
   rw [List.drop_zero,←List.map_take]
   congr 1
   by_cases hq:(c.h.log.drop k).length≤8
   ·rw [List.take_of_length_le hq,List.take_of_length_le (by omega)]
   ·congr 1;omega
  rw [hes] at l2
  have hlen8:((c.h.log.drop k).take 8).length≤8:=by simp;omega
  have xb:Ext S2 (⟨S2.next+24,S2.heap⟩:St):=(Ext.refl S2).bump 24
  obtain ⟨u3,S4,r3,x4,o4⟩:=(l2.ext xb).copy (b:=32) (xb.wf w2) (by rw [List.length_map];omega) (by rw [List.length_map];unfold fO;omega)
  have x24:=xb.trans x4
  have w4:=x24.wf w2
  have xc:Ext S4 (⟨S4.next+17,S4.heap⟩:St):=(Ext.refl S4).bump 17
  have h4:=h2.ext w2 x24
  have g4:=x24.old _ _ hg2
  simp only [h2.r_log,aG,v0 hg2,h2.r_base,cL,hw1,hw2,r1,kD,l1'.lenI,pR,r2,tV,r3,bA,v0 g4,hw3,h4.r_sure]
  refine (g62 (O:=own a lv wv dv ov) ⟨lv,wv,dv,ov,rows,h4.ext w4 xc,rfl⟩ ok (n:=(c.peer (n:Int)).next - 1) (by omega) (by omega)).call fun S5 x5=>?_
  have x45:=xc.trans x5
  have h5:=h4.ext w4 x45
  have w5:=x45.wf w4
  have g5:=x45.old _ _ g4
  have o5:Mn S5 3 u3 (((c.h.log.drop k).take 8).map bR):=(o4.ext x45).weaken (Nat.zero_le _)
  have hap:aJp S5 (own a lv wv dv ov) { Letter.zero with kind:=3,to:=(n:Int),index:=(c.peer (n:Int)).next - 1,at':=c.term ((c.peer (n:Int)).next - 1),entries:=(c.h.log.drop k).take 8,commit:=c.sure } u3:=by
   refine ⟨⟨o5.sl,fun y hy hO=>?_⟩,fun y hy=>?_⟩
   ·have h1:=aJq w2 h2 hO
    have h3:=(nN o4 hy).1
    have h3':S2.next+24≤y:=h3
    omega
   ·have h3:=(nN o4 hy).1
    have h3':S2.next+24≤y:=h3
    have h4':=h2.gd.1
    omega
  simp only [h5.r_sure,v0 g5,aG,cN,aU,tW,aVr o5]
  have hs:c.send (n:Int)=c.post { Letter.zero with kind:=3,to:=(n:Int),index:=(c.peer (n:Int)).next - 1,at':=c.term ((c.peer (n:Int)).next - 1),entries:=(c.h.log.drop k).take 8,commit:=c.sure }:=by
   unfold Core.send;simp only;rw [if_neg e,hk]
  rw [hs]
  refine Meth.call (g86 (O:=own a lv wv dv ov) _ u3 w5 ⟨lv,wv,dv,ov,rows,h5,rfl⟩ hap hl) w5 fun S6 O6 w6 h6 m6=>?_
  exact Ok.ret ⟨rfl,O6,h6,(Mv.of (x2.trans (x24.trans x45))).trans w m6⟩
end
end
section
variable [Guard]
theorem pS {α σ:Type} (g:σ→α→σ):∀ (l:List α) (s:σ),fW (fun s a=>(.inr (g s a):σ⊕σ)) id l s=l.foldl g s
 | [],s=>rfl
 | a::l,s=>by simp only [fW,List.foldl_cons,pS g l]
theorem yF {c:Core} (h:c.peers.length=7) {f:Int} (f0:0≤f) (f1:f<7):c.peer f∈c.peers:=by
 unfold Core.peer
 rw [List.getD_eq_getElem?_getD,List.getElem?_eq_getElem (by omega)]
 exact List.getElem_mem _
theorem aAz {S S':St} {O O':Nat→Prop} {n:Nat} {u:V} {es:List (List V)} (w:WF S) (hs:Sl S n u es) (h:∀ y,aP u=some y→¬ O y) (k:Mv O S O' S'):Sl S' n u es∧∀ y,aP u=some y→¬ O' y:=by
 refine ⟨k.sl hs h,fun y hy hO=>?_⟩
 rcases k.own y hO with h1 | h1
 ·exact h y hy h1
 ·have:=aHb w hs y hy;omega
theorem core_lt {S:St} {a:Nat} {c:Core} {O:Nat→Prop} (w:WF S) (h:CoreIn S a c O):∀ y,O y→y<S.next:=by
 obtain ⟨lv,wv,dv,ov,rows,h,rfl⟩:=h
 exact fun y hy=>aJq w h hy
section
variable {S:St} {a:Nat} {c:Core} {O:Nat→Prop}
structure Told (g:Core→Int→Core) (a:Nat) (c:Core) (S:St) (O:Nat→Prop) (u:V) (i:Nat) (d:Core) (vs:List V) (S':St):Prop where
 vs:vs=[.int .i64 (i:Int)]
 wf:WF S'
 core:∃ O',CoreIn S' a d O'∧Mv O S O' S'∧∀ y,aP u=some y→¬ O' y
 sent:Sent c d
 out:d.out.length≤c.out.length+i
theorem g48 (w:WF S) (h:CoreIn S a c O) (ok:Hok c.h) (hl:c.out.length≤999990) (hp:c.role=3→∀ p∈c.peers,Pok c p):Meth 48 [.ptr a 0 0 0] a c.spread S O (.tup []):=by
 have hc:=h
 obtain ⟨lv,wv,dv,ov,rows,h,hO⟩:=h
 refine e48 ?_
 simp only [m48,aT,gM,aF,aG,Nat.reduceAdd,dY,h.r_role,aR,aU,dG]
 refine Ok.pickN (fun e=>Ok.ret ⟨rfl,O,by unfold Core.spread;rw [if_neg e];exact hc,Mv.refl O S⟩) (fun e=>?_)
 have hsp:c.spread=c.others.foldl Core.send c:=by unfold Core.spread;rw [if_pos e]
 refine Does.call (g82 w hc ok) fun u S1 ⟨x1,own1⟩=>?_
 have w1:=x1.wf w
 simp only [aLc,own1.sl.lenI,aG]
 rw [hsp,←pS]
 refine Ok.loopL (F:=fun k K=>aEl (aC prog bC bD k) k K (.ptr a 0 0 0) u (.int .i64 c.others.length)) (ρ:=Core) (α:=Int) (X:=Core) c.others (step:=fun d f=>.inr (d.send f)) (fin:=id) (s:=c)
  (out:=fun k K x S'=>K (.tup []) S')
  (fun i d vs S'=>Told Core.send a c S O u i d vs S'∧Sl S' 1 u (c.others.map nT))
  (fun d x S'=>d=x∧∃ O',CoreIn S' a d O'∧Mv O S O' S') ?_ ?_ ⟨⟨rfl,w1,⟨O,hc.ext w x1,Mv.of x1,fun y hy hOy=>?_⟩,Sent.refl c,Nat.le_refl _⟩,own1.sl⟩ (fun x S' ⟨e,O',h1,h2⟩=>Ok.ret ⟨rfl,O',e▸h1,h2⟩)
 ·rintro i f d vs S2 ⟨⟨rfl,w2,⟨O2,h2,m2,f2⟩,s2,l2⟩,sl2⟩ hi
  have hil:=(List.getElem?_eq_some_iff.1 hi).1
  have hlt:(i:Int)<(c.others.length:Int):=by omega
  have hol:c.others.length≤7:=Nat.le_trans (List.length_filter_le _ _) (vZ _)
  have hw:wr .i64 ((i:Int)+1)=((i+1:Nat):Int):=by rw [cR (by omega) (by omega)];omega
  obtain ⟨p,hp',hat,_,_⟩:=sl2.elem hi
  have hat0:aL none p S2=.ok (.int .i64 f):=by rw [hat.load0];rfl
  have hf:=aJr (List.mem_of_getElem? hi)
  have hpk:Pok d (d.peer f):=Pok.of s2.h (hp e _ (by rw [←s2.peers];exact yF h2.peers hf.1 hf.2.1))
  simp only [aEl,bE,bG,aG,hlt,decide_true,bT,aRs,hp',dY,hat0]
  refine Meth.callL (g83 w2 h2 (by rw [s2.h];exact ok) (by omega) hf.1 hf.2.1 hpk) w2 fun S3 O3 w3 h3 m3=>?_
  simp only [bQ,hw,aG]
  obtain ⟨sl3,f3⟩:=aAz w2 sl2 f2 m3
  refine OkL.next ⟨d.send f,rfl,⟨rfl,w3,⟨O3,h3,m2.trans w m3,f3⟩,s2.trans (Sent.send d f),?_⟩,sl3⟩
  have:(d.send f).out.length=d.out.length+1:=by
   unfold Core.send;simp only;split<;>simp [Core.post]
  omega
 ·rintro d vs S2 ⟨⟨rfl,w2,⟨O2,h2,m2,f2⟩,s2,l2⟩,sl2⟩
  refine ⟨d,⟨rfl,O2,h2,m2⟩,fun k K aO=>?_⟩
  have hlt:¬ (((c.others.length:Nat):Int))<c.others.length:=by omega
  simp only [aEl,bE,bG,aG,hlt,decide_false,aH]
 ·have h1:=(nN own1 hy).1
  have h2:=core_lt w hc y hOy
  omega
end
end
section
variable [Guard]
theorem aJs:(fun (p0 p1 p2 p3 p4 p5 p6:Peer)=>(List.range 7).map fun (i:Nat)=>oJ prog 85 (.agg ([p0,p1,p2,p3,p4,p5,p6].map jJ).flatten) (.int .i64 (i:Int)))=fun p0 p1 p2 p3 p4 p5 p6=>[.ok (.agg (jJ p0)),.ok (.agg (jJ p1)),.ok (.agg (jJ p2)),.ok (.agg (jJ p3)),.ok (.agg (jJ p4)),.ok (.agg (jJ p5)),.ok (.agg (jJ p6))]:=by kernel_rfl
theorem aHi {l:List Peer} (h:l.length=7) {i:Nat} (hi:i<7):oJ prog 85 (.agg (l.map jJ).flatten) (.int .i64 (i:Int))=.ok (.agg (jJ (l.getD i ⟨0,0,0⟩))):=by
 obtain ⟨p0,p1,p2,p3,p4,p5,p6,rfl⟩:=lJ h
 have e:=congrFun (congrFun (congrFun (congrFun (congrFun (congrFun (congrFun aJs p0) p1) p2) p3) p4) p5) p6
 have e2:=congrArg (fun l=>l[i]?) e
 simp only [List.getElem?_map,List.getElem?_range hi,Option.map_some] at e2
 match i,hi with
 | 0,_=>exact Option.some.inj e2
 | 1,_=>exact Option.some.inj e2
 | 2,_=>exact Option.some.inj e2
 | 3,_=>exact Option.some.inj e2
 | 4,_=>exact Option.some.inj e2
 | 5,_=>exact Option.some.inj e2
 | 6,_=>exact Option.some.inj e2
def qN (l:List Peer) (n:Int) (yes:Int) (i:Nat):Int⊕Int:=.inr (if n≤(l.getD i ⟨0,0,0⟩).mtch then yes+2 ^ i else yes)
theorem bB9 {l:List Peer} (h:l.length=7) (n:Int):fW (qN l n) id (List.range 7) 0=nP l 0 n:=by
 obtain ⟨p0,p1,p2,p3,p4,p5,p6,rfl⟩:=lJ h
 show fW (qN [p0,p1,p2,p3,p4,p5,p6] n) id [0,1,2,3,4,5,6] 0=_
 simp only [fW,qN,nP,id,List.getD_cons_zero,List.getD_cons_succ]
 split<;>split<;>split<;>split<;>split<;>split<;>split<;>rfl
theorem aVs {y:Int} {i:Nat} (h0:0≤y) (h1:y<2 ^ i) (hi:i<7):wr .i64 ((BitVec.ofInt IntKind.i64.bits y ||| BitVec.ofInt IntKind.i64.bits ((2:Int) ^ i)).toNat)=y+2 ^ i:=by
 have all:∀ i:Nat,i<7→∀ a:Nat,a<128→a<2 ^ i→(a ||| 2 ^ i:Nat)=a+2 ^ i:=by decide +kernel
 have hp:(2:Int) ^ i≤64:=(sK hi).2
 have hc:((2 ^ i:Nat):Int)=(2:Int) ^ i:=by push_cast;rfl
 have hy:y=(y.toNat:Int):=by omega
 have e:(BitVec.ofInt IntKind.i64.bits y ||| BitVec.ofInt IntKind.i64.bits ((2:Int) ^ i)).toNat=y.toNat ||| 2 ^ i:=by
  show (BitVec.ofInt 64 y ||| BitVec.ofInt 64 ((2:Int) ^ i)).toNat=_
  rw [BitVec.toNat_or,BitVec.toNat_ofInt,BitVec.toNat_ofInt]
  congr 1<;>omega
 rw [e,all i hi y.toNat (by omega) (by omega),cR (by omega) (by omega)]
 push_cast
 omega
theorem yG {i:Nat} (hi:i<7):aD prog .shl 3 (.int .i64 1) (.int .u64 (i:Int))=.ok (.int .i64 ((2:Int) ^ i)):=by
 have hp:=sK hi
 have:min ((i:Int).toNat) IntKind.i64.bits=i:=by show min ((i:Int).toNat) 64=_;omega
 simp only [aD,lR,show ¬ (i:Int)<0 by omega,decide_false,cond_false,this,Int.one_mul]
 rw [cR (by omega) (by omega)]
theorem wru (i:Nat) (h7:i<7):wr .u64 (i:Int)=(i:Int):=by unfold wr lo hi;simp only;rw [if_pos (by omega)]
def lL (c:Core) (m:Int) (s:Int) (i:Nat):Int⊕Int:=if c.last - i≤s then .inl s else .inr (if c.term (c.last - i)=c.h.term∧iJ m (nP c.peers 0 (c.last - i))=true then c.last - i else s)
theorem aT2 (c:Core) (m:Int):∀ (k i:Nat) (s:Int),fW (lL c m) id ((List.range' i k)) s=eZ c m k (c.last - i) s
 | 0,i,s=>rfl
 | k+1,i,s=>by
  rw [List.range'_succ]
  simp only [fW,eZ,lL]
  by_cases h:c.last - (i:Int)≤s
  ·rw [if_pos h,if_pos h]
  ·rw [if_neg h,if_neg h]
   simp only
   rw [aT2 c m k (i+1)]
   congr 1
   push_cast;omega
theorem aJt {l:List Peer} (h:l.length=7) (n:Int):0≤nP l 0 n∧nP l 0 n≤127:=by
 obtain ⟨p0,p1,p2,p3,p4,p5,p6,rfl⟩:=lJ h
 simp only [nP]
 split<;>split<;>split<;>split<;>split<;>split<;>split<;>decide
section
variable {S:St} {a:Nat} {c:Core} {O:Nat→Prop}
structure LookI (a:Nat) (c:Core) (O:Nat→Prop) (S:St) (s:Int) (S':St):Prop where
 wf:WF S'
 core:CoreIn S' a { c with sure:=s } O
 mv:Mv O S O S'
 s0:c.sure≤s
 s1:s≤c.last
theorem g90 (w:WF S) (h:CoreIn S a c O) (ok:Hok c.h) (hs0:c.h.base≤c.sure) (hs1:c.sure≤c.last):Meth 90 [.ptr a 0 0 0] a c.look S O (.tup []):=by
 have hin:=h
 obtain ⟨lv,wv,dv,ov,rows,h,hO⟩:=h
 have hr:=eP ok
 have hb:=ok.b0
 have hmr:=jQ ok
 have hl:=ok.ll
 have hpl:=h.peers
 refine e90 ?_
 simp only [m90,aT,dE,aF,aG,Nat.reduceAdd,xP,h.r_hard]
 refine (g49 c.h lv S w h.log.sl (by omega) ok.b0 ok.b1).call fun S1 x1=>?_
 have w1:=x1.wf w
 have in1:=hin.ext w x1
 simp only [mP,List.getElem?_cons_zero,List.getElem?_cons_succ,aA2]
 refine (g46 in1 ok).call fun S2 x2=>?_
 have x02:=x1.trans x2
 have w2:=x2.wf w1
 have in2:=hin.ext w x02
 have hk:((c.last - c.sure).toNat:Int)=c.last - c.sure:=by omega
 have hm:(ofM c.h).1=c.members:=rfl
 refine Ok.loopL (F:=fun k K=>sH (aC prog bC bD k) k K (.ptr a 0 0 0) (.int .i64 (ofM c.h).1) (.int .i64 (ofM c.h).2)) (ρ:=Int) (α:=Nat) (X:=Int) (List.range' 0 (c.last - c.sure).toNat) (step:=lL c (ofM c.h).1) (fin:=id) (s:=c.sure)
  (out:=fun k K n S'=>sH (aC prog bC bD k) k K (.ptr a 0 0 0) (.int .i64 (ofM c.h).1) (.int .i64 (ofM c.h).2) [.int .i64 n] S' (fun _ _=>none))
  (fun i s vs S'=>vs=[.int .i64 (c.last - i)]∧LookI a c O S s S')
  (fun s n S'=>n≤s∧LookI a c O S s S') ?_ ?_ ⟨by simp,⟨w2,in2,Mv.of x02,Int.le_refl _,hs1⟩⟩ (fun n S3 ⟨hn,L⟩=>?_)
 ·rintro i j s vs S3 ⟨rfl,L⟩ hi
  obtain ⟨hil,hj⟩:=List.getElem?_eq_some_iff.1 hi
  rw [List.length_range'] at hil
  rw [List.getElem_range'] at hj
  have hj:j=i:=by omega
  subst hj
  have hin3:=L.core
  obtain ⟨lv,wv,dv,ov,rows,h3,hO3⟩:=L.core
  have hlt:c.last - (j:Int)≥c.h.base:=by omega
  generalize hq:c.last - (j:Int)=n
  have hnn:c.last - ((j+1:Nat):Int)=n - 1:=by rw [←hq];push_cast;omega
  have hw:wr .i64 (n - 1)=n - 1:=cR (by omega) (by omega)
  by_cases hd:n≤s
  ·exact OkL.stop n ⟨s,by unfold lL;rw [hq,if_pos hd],hd,L⟩ (fun k K aO=>by
    have hdec:¬ s<n:=by omega
    simp only [sH,bE,aT,iX,aF,Nat.reduceAdd,aG,dY,h3.r_sure,dF,hdec,decide_false,aH])
  ·have hdec:s<n:=by omega
   simp only [sH,bE,aT,iX,pM,aF,Nat.reduceAdd,aG,dY,h3.r_sure,dF,hdec,decide_true,bT,bAo,h3.r_peers]
   have hy7:=aJt hpl n
   refine OkL.loop (F:=fun k K ag=>sG (aC prog bC bD k) k K ag (.ptr a 0 0 0) (.int .i64 (ofM c.h).1) (.int .i64 (ofM c.h).2) (.int .i64 n) (.agg (c.peers.map jJ).flatten)) (ρ:=Int) (α:=Nat) (Y:=Int) (List.range 7) (step:=qN c.peers n) (fin:=id) (s:=0)
    (out2:=fun k K ag y S'=>sG (aC prog bC bD k) k K ag (.ptr a 0 0 0) (.int .i64 (ofM c.h).1) (.int .i64 (ofM c.h).2) (.int .i64 n) (.agg (c.peers.map jJ).flatten) [.int .i64 y,.int .i64 7] S' (fun _ _=>none))
    (fun i y vs S'=>vs=[.int .i64 y,.int .i64 (i:Int)]∧Ext S3 S'∧0≤y∧y<2 ^ i)
    (fun r y S'=>r=y∧Ext S3 S') ?_ ?_ ⟨rfl,Ext.refl _,by omega,by decide⟩ (fun y S4 ⟨hy,x4⟩=>?_)
   ·rintro i i' y vs S4 ⟨rfl,x4,y0,y1⟩ hi'
    obtain ⟨hil',hj'⟩:=List.getElem?_eq_some_iff.1 hi'
    rw [List.length_range] at hil'
    rw [List.getElem_range] at hj'
    subst hj'
    have w4:=x4.wf L.wf
    obtain ⟨S5,S6,q1,q2,x6,hg6,hn6⟩:=vb w4 3 [.int .i64 0,.int .i64 0,.int .i64 0] (.agg (jJ (c.peers.getD i ⟨0,0,0⟩))) rfl rfl rfl
    have v1:aL none (.ptr S4.next 0 0 1) S6=.ok (.int .i64 (c.peers.getD i ⟨0,0,0⟩).mtch):=by rw [aY _ _ _ _ _ (aX hg6)];rfl
    have hlt':(i:Int)<7:=by omega
    have hw':wr .i64 ((i:Int)+1)=((i+1:Nat):Int):=by rw [cR (by omega) (by omega)];omega
    have hpow:(2:Int) ^ (i+1)=2*2 ^ i:=by rw [Int.pow_succ];omega
    refine ⟨0,.inr ?_⟩
    by_cases hd':n≤(c.peers.getD i ⟨0,0,0⟩).mtch
    ·refine ⟨y+2 ^ i,[.int .i64 (y+2 ^ i),.int .i64 ((i+1:Nat):Int)],S6,by unfold qN;rw [if_pos hd'],⟨rfl,x4.trans x6,by omega,by omega⟩,fun k K ag aO _=>?_⟩
     have hor:aD prog .or 3 (.int .i64 y) (.int .i64 ((2:Int) ^ i))=.ok (.int .i64 (y+2 ^ i)):=by
      simp only [aD,bW,cond_true,eA,aVs y0 y1 hil']
     simp only [sG,bE,bG,hlt',decide_true,bT,aG,aHi hpl hil',q1,aMm,q2,aAk,aF,Nat.reduceAdd,dY,v1,eX,hd',aEw,wru i hil',yG hil',hor,bQ,hw']
    ·refine ⟨y,[.int .i64 y,.int .i64 ((i+1:Nat):Int)],S6,by unfold qN;rw [if_neg hd'],⟨rfl,x4.trans x6,by omega,by omega⟩,fun k K ag aO _=>?_⟩
     simp only [sG,bE,bG,hlt',decide_true,bT,aG,aHi hpl hil',q1,aMm,q2,aAk,aF,Nat.reduceAdd,dY,v1,eX,hd',decide_false,aH,bQ,hw']
   ·rintro y vs S4 ⟨rfl,x4,y0,y1⟩
    refine ⟨0,y,S4,⟨rfl,x4⟩,fun k K ag aO _=>?_⟩
    have hlt':¬ (((List.range 7).length:Nat):Int)<7:=by rw [List.length_range];decide
    have hlt7:¬ (7:Int)<7:=by decide
    simp only [sG,bE,bG,hlt',hlt7,decide_false,aH,aG]
   ·rw [bB9 hpl] at hy
    subst hy
    have w4:=x4.wf L.wf
    have in4:=hin3.ext L.wf x4
    have h4:=h3.ext L.wf x4
    have hlt7:¬ (7:Int)<7:=by decide
    have xb:Ext S4 (⟨S4.next+14,S4.heap⟩:St):=(Ext.refl S4).bump 14
    simp only [sG,bE,bG,hlt7,decide_false,aH,aG,aT,dE,gL,aF,Nat.reduceAdd,dY,bA,h4.r_term]
    refine (g62 (in4.ext w4 xb) ok (n:=n) (by show c.h.base≤n;omega) (by show n≤c.last;omega)).callL fun S5 x5=>?_
    have x45:=xb.trans x5
    have w5:=x45.wf w4
    have h5:=h4.ext w4 x45
    have x35:=x4.trans x45
    have hterm:({ c with sure:=s }:Core).term n=c.term n:=rfl
    simp only [h5.r_term,aG,cN,aU,aR,bX,hterm]
    have no:(S6:St)→(∀ (p:Prop),¬ (c.term n=c.h.term∧iJ (ofM c.h).1 (nP c.peers 0 n)=true)→lL c (ofM c.h).1 s j=.inr s):=fun _ p e=>by unfold lL;rw [hq,if_neg hd,if_neg e]
    refine OkL.pickP (fun e=>?_) (fun e=>?_)
    ·refine (g84 _ _ S5 w5 hy7.1 hy7.2).callL fun S6 x6=>?_
     have w6:=x6.wf w5
     have h6:=h5.ext w5 x6
     have x36:=x35.trans x6
     refine OkL.pick (fun e2=>?_) (fun e2=>?_)
     ·obtain ⟨S7,q7,h7,m7,n7⟩:=h6.w_sure w6 n
      rw [←hO3] at m7
      simp only [aT,iX,aF,Nat.reduceAdd,aG,st3,q7,cL,hw]
      exact OkL.next ⟨n,by unfold lL;rw [hq,if_neg hd,if_pos ⟨e,e2⟩],by rw [hnn],⟨m7.wf w6,⟨_,_,_,_,_,h7,hO3⟩,(L.mv.trans w (Mv.of x36)).trans w m7,by have:=L.s0;omega,by omega⟩⟩
     ·simp only [cL,hw,aG]
      exact OkL.next ⟨s,no S6 True (fun e3=>by rw [e2] at e3;exact absurd e3.2 (by decide)),by rw [hnn],⟨w6,hin3.ext L.wf x36,L.mv.trans w (Mv.of x36),L.s0,L.s1⟩⟩
    ·simp only [aJb,aH,cL,hw,aG]
     exact OkL.next ⟨s,no S5 True (fun e3=>e e3.1),by rw [hnn],⟨w5,hin3.ext L.wf x35,L.mv.trans w (Mv.of x35),L.s0,L.s1⟩⟩
 ·rintro s vs S3 ⟨rfl,L⟩
  rw [List.length_range',hk]
  refine ⟨c.last - (c.last - c.sure),⟨by have:=L.s0;show _≤s;omega,L⟩,fun k K aO=>?_⟩
  obtain ⟨lv,wv,dv,ov,rows,h3,hO3⟩:=L.core
  have hdec:¬ s<c.last - (c.last - c.sure):=by have:=L.s0;omega
  simp only [sH,bE,aT,iX,aF,Nat.reduceAdd,aG,dY,h3.r_sure,dF,hdec,decide_false,aH]
 ·rw [aT2] at hn L
  have e0:c.last - ((0:Nat):Int)=c.last:=by simp
  rw [e0] at hn L
  generalize hsv:eZ c (ofM c.h).1 (c.last - c.sure).toNat c.last c.sure=s at hn L
  have hin3:=L.core
  obtain ⟨lv,wv,dv,ov,rows,h3,hO3⟩:=L.core
  have hdec:¬ s<n:=by omega
  simp only [sH,bE,aT,iX,nL,aF,Nat.reduceAdd,aG,dY,h3.r_sure,h3.r_id,dF,hdec,decide_false,aH]
  refine (g50 _ _ S3 (by rw [hm];omega)).call fun S4 x4=>?_
  have w4:=x4.wf L.wf
  have in4:=hin3.ext L.wf x4
  have h4:=h3.ext L.wf x4
  have mv4:=L.mv.trans w (Mv.of x4)
  simp only [fE,aG]
  have hlook:c.look=if bJ (ofM c.h).1 c.id=false∧(ofM c.h).2≤s then ({ c with sure:=s }:Core).rest else { c with sure:=s }:=by
   unfold Core.look;simp only;rw [hsv]
  refine Ok.pick (fun e=>?_) (fun e=>?_)
  ·simp only [h4.r_sure,aG,fR]
   refine Ok.pickP (fun e2=>?_) (fun e2=>?_)
   ·refine Meth.call (bB7 w4 in4) w4 fun S5 O5 w5 in5 m5=>Ok.ret ⟨rfl,O5,?_,mv4.trans w m5⟩
    rw [hlook,if_pos ⟨by simpa using e,e2⟩];exact in5
   ·refine Ok.ret ⟨rfl,O,?_,mv4⟩
    rw [hlook,if_neg (fun q=>e2 q.2)];exact in4
  ·refine Ok.ret ⟨rfl,O,?_,mv4⟩
   rw [hlook,if_neg (fun q=>by rw [q.1] at e;cases e)];exact in4
end
end
end Go.Proofs.Ytbiidlmhadihlaa
end
section
namespace Go.Raft
open Go.AM
section
variable [Guard]
theorem CoreAt.push {S:St} {a:Nat} {c:Core} {lv wv dv ov:V} {rows:List (List V)} (h:CoreAt S a c lv wv dv ov rows) (w:WF S) (x:Entry) (z:List V) (n k1 k2:Nat) (hk1:k1<n) (hk2:k2<n) (hk:k2≠k1) (hl:c.h.log.length≤1000000):
  ∃ S1 lv' S2 S3,bM 3 z 1 [(0,.agg (bR x))] (some (S.next+k1)) (⟨S.next+n,S.heap⟩:St)=.ok (.sl (S.next+k1) 0 3 0 1,S1)∧fZ 3 32 lv (.sl (S.next+k1) 0 3 0 1) (some (S.next+k2)) S1=.ok (lv',S2)∧bH 1 (.ptr a 0 0 7) lv' S2=.ok S3 ∧
   CoreAt S3 a { c with h:={ c.h with log:=c.h.log++[x] } } lv' wv dv ov rows∧Mv (own a lv wv dv ov) S (own a lv' wv dv ov) S3:=by
 have hfree:(⟨S.next+n,S.heap⟩:St).heap.get (S.next+k2)=none:=iY w n (S.next+k2) (by omega)
 have e3:=pI (⟨S.next+n,S.heap⟩:St) (S.next+k1) 3 (bR x) rfl rfl (by omega) z
 have x4:Ext S (⟨S.next+n,S.heap.put (S.next+k1) (.row 0 3 [bR x])⟩:St):=
  ((Ext.refl S).bump n).set (by omega) (by show S.next+k1<S.next+n;omega) w _
 have hel:bZ (⟨S.next+n,S.heap.put (S.next+k1) (.row 0 3 [bR x])⟩:St) (.sl (S.next+k1) 0 3 0 1)=.ok [bR x]:=by
  simp only [bZ,gJ]
  rfl
 have hf7:(⟨S.next+n,S.heap.put (S.next+k1) (.row 0 3 [bR x])⟩:St).heap.get (S.next+k2)=none:=by
  show (S.heap.put _ _).get _=none
  rw [Tr.get_put_neB _ _ _ _ trivial (by omega)];exact hfree
 have hn4:S.next+k2<(⟨S.next+n,S.heap.put (S.next+k1) (.row 0 3 [bR x])⟩:St).next:=by show S.next+k2<S.next+n;omega
 simp only at e3
 generalize (⟨S.next+n,S.heap.put (S.next+k1) (.row 0 3 [bR x])⟩:St)=S1 at e3 x4 hel hf7 hn4
 have w1:=x4.wf w
 have h1:=h.ext w x4
 have hll:(c.h.log.map bR).length=c.h.log.length:=List.length_map ..
 obtain ⟨lv',S2,e5,w5,n5,o5,b5,k5,_⟩:=Mn.pushAt (b:=32) h1.log w1 hel ⟨rfl,rfl⟩ hn4 hf7 (by omega) (by unfold fO;omega)
 have o5':Mn S2 3 lv' ((c.h.log++[x]).map bR):=by rw [List.map_append];exact o5
 obtain ⟨S3,e6,h6,m6,n6⟩:=h.w_log w w5 (by rw [n5];exact x4.next) (fun y b hy hb=>by
  have hlt:=w y b hy
  rw [k5 y (by omega) hb];exact x4.old _ _ hy) o5' o5'.cells (fun y hy=>by
  rcases b5 with b5 | b5
  ·rw [b5] at hy;cases hy;exact .inr (by omega)
  ·rw [b5] at hy;exact .inl hy)
 exact ⟨S1,lv',S2,S3,e3,e5,e6,h6,m6⟩
theorem CoreAt.push2 {S:St} {a:Nat} {c:Core} {lv wv dv ov:V} {rows:List (List V)} (h:CoreAt S a c lv wv dv ov rows) (w:WF S) {l:List Entry} {u:V} (hu:Mn S 3 u (l.map bR)) (hub:aP u=aP lv) (x:Entry) (z:List V) (n k1 k2:Nat) (hk1:k1<n) (hk2:k2<n) (hk:k2≠k1) (hl:l.length≤1000000):
  ∃ S1 lv' S2 S3,bM 3 z 1 [(0,.agg (bR x))] (some (S.next+k1)) (⟨S.next+n,S.heap⟩:St)=.ok (.sl (S.next+k1) 0 3 0 1,S1)∧fZ 3 32 u (.sl (S.next+k1) 0 3 0 1) (some (S.next+k2)) S1=.ok (lv',S2)∧bH 1 (.ptr a 0 0 7) lv' S2=.ok S3 ∧
   CoreAt S3 a { c with h:={ c.h with log:=l++[x] } } lv' wv dv ov rows∧Mv (own a lv wv dv ov) S (own a lv' wv dv ov) S3:=by
 have hfree:(⟨S.next+n,S.heap⟩:St).heap.get (S.next+k2)=none:=iY w n (S.next+k2) (by omega)
 have e3:=pI (⟨S.next+n,S.heap⟩:St) (S.next+k1) 3 (bR x) rfl rfl (by omega) z
 have x4:Ext S (⟨S.next+n,S.heap.put (S.next+k1) (.row 0 3 [bR x])⟩:St):=
  ((Ext.refl S).bump n).set (by omega) (by show S.next+k1<S.next+n;omega) w _
 have hel:bZ (⟨S.next+n,S.heap.put (S.next+k1) (.row 0 3 [bR x])⟩:St) (.sl (S.next+k1) 0 3 0 1)=.ok [bR x]:=by
  simp only [bZ,gJ]
  rfl
 have hf7:(⟨S.next+n,S.heap.put (S.next+k1) (.row 0 3 [bR x])⟩:St).heap.get (S.next+k2)=none:=by
  show (S.heap.put _ _).get _=none
  rw [Tr.get_put_neB _ _ _ _ trivial (by omega)];exact hfree
 have hn4:S.next+k2<(⟨S.next+n,S.heap.put (S.next+k1) (.row 0 3 [bR x])⟩:St).next:=by show S.next+k2<S.next+n;omega
 simp only at e3
 generalize (⟨S.next+n,S.heap.put (S.next+k1) (.row 0 3 [bR x])⟩:St)=S1 at e3 x4 hel hf7 hn4
 have w1:=x4.wf w
 have h1:=h.ext w x4
 have hll:(l.map bR).length=l.length:=List.length_map ..
 obtain ⟨lv',S2,e5,w5,n5,o5,b5,k5,_⟩:=Mn.pushAt (b:=32) (Mn.fr hu x4.next fun y b _=>x4.old y b) w1 hel ⟨rfl,rfl⟩ hn4 hf7 (by omega) (by unfold fO;omega)
 have o5':Mn S2 3 lv' ((l++[x]).map bR):=by rw [List.map_append];exact o5
 obtain ⟨S3,e6,h6,m6,n6⟩:=h.w_log w w5 (by rw [n5];exact x4.next) (fun y b hy hb=>by
  have hlt:=w y b hy
  rw [k5 y (by omega) (by rw [hub];exact hb)];exact x4.old _ _ hy) o5' o5'.cells (fun y hy=>by
  rcases b5 with b5 | b5
  ·rw [b5] at hy;cases hy;exact .inr (by omega)
  ·rw [b5,hub] at hy;exact .inl hy)
 exact ⟨S1,lv',S2,S3,e3,e5,e6,h6,m6⟩
end
end Go.Raft
end
section
namespace Go.Proofs.Ytbiidlmhadihlaa
open Go.AM Go.Raft Try
section
variable [Guard]
theorem aD8 (c:Core):c.look.h=c.h∧c.look.peers=c.peers∧c.look.out=c.out∧c.look.id=c.id∧(c.look.role=3→c.role=3):=by
 unfold Core.look
 simp only
 split
 ·exact ⟨rfl,rfl,rfl,rfl,fun e=>absurd e (by show ¬ (1:Int)=3;decide)⟩
 ·exact ⟨rfl,rfl,rfl,rfl,fun e=>e⟩
theorem aHj (t:Int):dJ [.int .i64 0,.int .i64 0,.str []] [(0,1),(1,1),(2,1)] [(0,.int .i64 t)]=.ok (.agg (bR ⟨t,0,[]⟩)):=rfl
theorem aS1 (l:List Peer) (h:l.length=7) (p:Peer):(List.range 7).foldl (fun l i=>l.set i p) l=List.replicate 7 p:=by
 obtain ⟨p0,p1,p2,p3,p4,p5,p6,rfl⟩:=lJ h
 rfl
section
variable {S:St} {a:Nat} {c:Core} {O:Nat→Prop}
theorem g60 (w:WF S) (h:CoreIn S a c O) (ok:Hok c.h) (i0:0≤c.id) (i1:c.id<7) (hs0:c.h.base≤c.sure) (hs1:c.sure≤c.last) (hl:c.out.length≤999990) (hp:c.role=3→∀ p∈c.peers,Pok c p):Meth 60 [.ptr a 0 0 0] a c.own S O (.tup []):=by
 obtain ⟨n,hn⟩:∃ n:Nat,c.id=(n:Int):=⟨c.id.toNat,by omega⟩
 have hn7:n<7:=by omega
 have hin:=h
 obtain ⟨lv,wv,dv,ov,rows,h,hO⟩:=h
 have xb:Ext S (⟨S.next+12,S.heap⟩:St):=(Ext.refl S).bump 12
 refine e60 ?_
 simp only [m60,aT,nL,pM,aF,aG,Nat.reduceAdd,dY,bA,h.r_id]
 refine (g46 (hin.ext w xb) ok).call fun S1 x1=>?_
 have x01:=xb.trans x1
 have w1:=x01.wf w
 have h1:=h.ext w x01
 obtain ⟨S2,q2,h2,m2,n2⟩:=h1.w_mtch w1 hn7 c.last
 simp only [h1.r_id,aG,cN,aU,hn,aAy,cZ hn7,aAk,aF,st3,q2]
 have w2:=m2.wf w1
 have hset:({ c with peers:=c.peers.set n { c.peers.getD n ⟨0,0,0⟩ with mtch:=c.last } }:Core)=c.setPeer c.id { c.peer c.id with mtch:=c.last }:=by
  unfold Core.setPeer Core.peer;rw [hn];rfl
 rw [hset] at h2
 have in2:CoreIn S2 a (c.setPeer c.id { c.peer c.id with mtch:=c.last }) O:=⟨_,_,_,_,_,h2,hO⟩
 rw [←hO] at m2
 have mv2:=(Mv.of (O:=O) x01).trans w m2
 refine Meth.call (g90 w2 in2 ok hs0 hs1) w2 fun S3 O3 w3 in3 m3=>?_
 obtain ⟨e1,e2,e3,e4,e5⟩:=aD8 (c.setPeer c.id { c.peer c.id with mtch:=c.last })
 refine Meth.call (g48 w3 in3 (by rw [e1];exact ok) (by rw [e3];exact hl) (fun hr p hpm=>?_)) w3 fun S4 O4 w4 in4 m4=>?_
 ·rw [e2] at hpm
  have hr':=e5 hr
  rcases List.mem_or_eq_of_mem_set hpm with hpm | rfl
  ·exact Pok.of (c:=c) (by rw [e1];rfl) (hp hr' p hpm)
  ·have q:=hp hr' _ (yF h.peers i0 i1)
   have hbase:=ok.b0
   exact Pok.of (c:=c) (by rw [e1];rfl) ⟨by show 0≤c.last;omega,by show c.last≤c.last;omega,q.n0,q.n1,q.o0,q.o1⟩
 ·exact Ok.ret ⟨rfl,O4,in4,(mv2.trans w m3).trans w m4⟩
theorem g85 (w:WF S) (h:CoreIn S a c O) (ok:Hok c.h) (i0:0≤c.id) (i1:c.id<7) (ht:1≤c.h.term) (hs0:c.h.base≤c.sure) (hs1:c.sure≤c.last) (hl:c.out.length≤999990):Meth 85 [.ptr a 0 0 0] a c.lead S O (.tup []):=by
 have hr:=eP ok
 have hb:=ok.b0
 obtain ⟨lv,wv,dv,ov,rows,h,rfl⟩:=h
 obtain ⟨S1,q1,h1,m1,n1⟩:=h.w_role w 3
 have w1:=m1.wf w
 obtain ⟨S2,q2,h2,m2,n2⟩:=h1.w_leads w1 c.id
 have w2:=m2.wf w1
 obtain ⟨S3,q3,h3,m3,n3⟩:=h2.w_left w2 3
 have w3:=m3.wf w2
 have mv3:=(m1.trans w m2).trans w m3
 refine e85 ?_
 simp only [m85,aT,nL,gM,sJ,nM,aF,aG,Nat.reduceAdd,dY,st3,h.r_id,q1,q2,q3]
 generalize hc1:({ c with role:=3,leads:=c.id,left:=3 }:Core)=c1 at h3
 have e1:c1.h=c.h:=by rw [←hc1]
 have el:c1.last=c.last:=by unfold Core.last;rw [e1]
 have ok1:Hok c1.h:=by rw [e1];exact ok
 have hpl:c1.peers.length=7:=h3.peers
 refine Ok.loopL (F:=fun k K=>vT (aC prog bC bD k) k K (.ptr a 0 0 0)) (ρ:=List Peer) (α:=Nat) (X:=List Peer) (List.range 7) (step:=fun l i=>.inr (l.set i ⟨c.last+1,0,0⟩)) (fin:=id) (s:=c1.peers)
  (out:=fun k K l S'=>vT (aC prog bC bD k) k K (.ptr a 0 0 0) [.int .i64 7] S' (fun _ _=>none))
  (fun i l vs S'=>vs=[.int .i64 (i:Int)]∧WF S'∧l.length=7∧CoreIn S' a { c1 with peers:=l } (own a lv wv dv ov)∧Mv (own a lv wv dv ov) S (own a lv wv dv ov) S')
  (fun l x S'=>WF S'∧l.length=7∧CoreIn S' a { c1 with peers:=l } (own a lv wv dv ov)∧Mv (own a lv wv dv ov) S (own a lv wv dv ov) S') ?_ ?_ ⟨rfl,w3,hpl,⟨lv,wv,dv,ov,rows,h3,rfl⟩,mv3⟩ (fun l S4 ⟨w4,hl7,in4,mv4⟩=>?_)
 ·rintro i i' l vs S4 ⟨rfl,w4,hl7,in4,mv4⟩ hi
  obtain ⟨hil,hj⟩:=List.getElem?_eq_some_iff.1 hi
  rw [List.length_range] at hil
  rw [List.getElem_range] at hj
  subst hj
  have hlt:(i:Int)<7:=by omega
  have hw:wr .i64 ((i:Int)+1)=((i+1:Nat):Int):=by rw [cR (by omega) (by omega)];omega
  have hwl:wr .i64 (c1.last+1)=c1.last+1:=cR (by omega) (by omega)
  have xb:Ext S4 (⟨S4.next+10,S4.heap⟩:St):=(Ext.refl S4).bump 10
  simp only [vT,bE,bG,aG,hlt,decide_true,bT,aT,pM,aF,Nat.reduceAdd]
  refine (g46 (in4.ext w4 xb) ok1).callL fun S5 x5=>?_
  have x45:=xb.trans x5
  have w5:=x45.wf w4
  obtain ⟨lv',wv',dv',ov',rows',h5,hO5⟩:=in4.ext w4 x45
  obtain ⟨S6,q6,h6,m6,n6⟩:=h5.w_peer w5 hil ⟨c1.last+1,0,0⟩
  rw [←hO5] at m6
  have hbd:bO prog 84 [(0,.int .i64 (c1.last+1))]=.ok (.agg (jJ ⟨c1.last+1,0,0⟩)):=by rw [aVg];rfl
  have hlast:({ c1 with peers:=l }:Core).last=c1.last:=rfl
  simp only [hlast,bQ,hwl,hw,aG,hbd,aAy,cZ hil,aMm,q6]
  exact OkL.next ⟨l.set i ⟨c.last+1,0,0⟩,rfl,rfl,m6.wf w5,by rw [List.length_set];exact hl7,⟨lv',wv',dv',ov',rows',by rw [el] at h6;exact h6,hO5⟩,(mv4.trans w (Mv.of x45)).trans w m6⟩
 ·rintro l vs S4 ⟨rfl,w4,hl7,in4,mv4⟩
  have hlt:¬ (((List.range 7).length:Nat):Int)<7:=by rw [List.length_range];decide
  have hlt7:¬ (7:Int)<7:=by decide
  refine ⟨l,⟨w4,hl7,in4,mv4⟩,fun k K aO=>?_⟩
  simp only [vT,bE,bG,aG,hlt,hlt7,decide_false,aH]
 ·rw [pS,aS1 _ hpl] at in4
  have hlt7:¬ (7:Int)<7:=by decide
  simp only [vT,bE,bG,aG,hlt7,decide_false,aH]
  generalize hc2:({ c1 with peers:=List.replicate 7 ⟨c.last+1,0,0⟩ }:Core)=c2 at in4
  have e2:c2.h=c.h:=by rw [←hc2];exact e1
  have el2:c2.last=c.last:=by unfold Core.last;rw [e2]
  have ok2:Hok c2.h:=by rw [e2];exact ok
  have hc2':c2={ c with role:=3,leads:=c.id,left:=3,peers:=List.replicate 7 ⟨c.last+1,0,0⟩ }:=by rw [←hc2,←hc1]
  have hpk:∀ p∈c2.peers,p=⟨c.last+1,0,0⟩:=fun p hp=>by rw [hc2'] at hp;exact List.eq_of_mem_replicate hp
  have hlead:c.lead=(if c.last<1099511627776∧c.h.log.length<200 then { c2 with h:={ c2.h with log:=c2.h.log++[⟨c2.h.term,0,[]⟩] } } else c2).own:=by unfold Core.lead;rw [hc2']
  refine (g46 in4 ok2).call fun S5 x5=>?_
  have w5:=x5.wf w4
  have in5:=in4.ext w4 x5
  have hin5:=in5
  obtain ⟨lv',wv',dv',ov',rows',h5,hO5⟩:=in5
  have mv5:=mv4.trans w (Mv.of x5)
  have fin0:¬ (c.last<1099511627776∧c.h.log.length<200)→Ok (fun k K=>aC prog bC bD k 60 [.ptr a 0 0 0] S5 fun t31 S32=>K (.tup []) S32) (fun u S'=>u=.tup []∧∃ O',CoreIn S' a c.lead O'∧Mv (own a lv wv dv ov) S O' S'):=fun hno=>by
   rw [hlead,if_neg hno]
   refine Meth.call (g60 w5 hin5 ok2 (by rw [hc2'];exact i0) (by rw [hc2'];exact i1) (by rw [hc2'];exact hs0) (by rw [el2,hc2'];exact hs1) (by rw [hc2'];exact hl) (fun _ p hp=>?_)) w5 fun S6 O6 w6 in6 m6=>Ok.ret ⟨rfl,O6,in6,mv5.trans w m6⟩
   rw [hpk p hp]
   exact ⟨Int.le_refl _,by show 0≤c2.last;omega,by show 1≤c.last+1;omega,by show c.last+1≤c2.last+1;omega,Int.le_refl _,.inr rfl⟩
  simp only [el2]
  refine Ok.pickP (fun e=>?_) (fun e=>?_)
  ·simp only [aT,dE,eR,aF,Nat.reduceAdd,aG,iC,h5.r_log,kD,h5.log.sl.lenI,bG,e2]
   by_cases e3:((c.h.log.length:Nat):Int)<200
   ·obtain ⟨S6,lv6,S7,S8,r1,r2,r3,h8,m8⟩:=h5.push w5 ⟨c2.h.term,0,[]⟩ [.int .i64 0,.int .i64 0,.str []] 18 12 13 (by decide) (by decide) (by decide) (by rw [e2];have:=ok.ll;omega)
    have w8:=m8.wf w5
    simp only [aAc,e3,decide_true,bT,aT,dE,eR,gL,aF,Nat.reduceAdd,aG,iC,dY,bA,h5.r_log,h5.r_term,aRp,aHj,aP3,r1,tV,r2,aH7,r3]
    rw [hlead,if_pos ⟨e,by omega⟩]
    rw [←hO5] at m8
    have okp:=Hok.push ok (x:=⟨c.h.term,0,[]⟩) ⟨ht,Int.le_refl _,Int.le_refl _,by show (0:Int)≤127;omega,by simp,.inl rfl⟩ rfl (by omega) e
    refine Meth.call (g60 w8 ⟨_,_,_,_,_,h8,rfl⟩ (by show Hok { c2.h with log:=_ };rw [e2];exact okp) (by rw [hc2'];exact i0) (by rw [hc2'];exact i1) (by rw [hc2'];exact hs0) ?_ (by rw [hc2'];exact hl) (fun _ p hp=>?_)) w8 fun S9 O9 w9 in9 m9=>Ok.ret ⟨rfl,O9,in9,(mv5.trans w m8).trans w m9⟩
    ·rw [hc2'];unfold Core.last bI at hs1 ⊢;simp;omega
    ·rw [hpk p hp]
     have hlen:({ c2 with h:={ c2.h with log:=c2.h.log++[⟨c2.h.term,0,[]⟩] } }:Core).last=c.last+1:=by rw [hc2'];unfold Core.last bI;simp;omega
     exact ⟨Int.le_refl _,by rw [hlen];show 0≤c.last+1;omega,by show 1≤c.last+1;omega,by rw [hlen];show c.last+1≤c.last+1+1;omega,Int.le_refl _,.inr rfl⟩
   ·simp only [aAc,e3,decide_false,aH]
    exact fin0 (fun q=>e3 (by omega))
  ·simp only [aAc,aH]
   exact fin0 (fun q=>e q.1)
end
end
section
variable [Guard]
theorem aVt (f i t:Int):dJ [.int .i64 0,.int .i64 0,.int .i64 0,.int .i64 0,.int .i64 0,.int .i64 0,.int .i64 0,.int .i64 0,.int .i64 0,.int .i64 0,.bool false,.str [],.nils] [(0,1),(1,1),(2,1),(3,1),(4,1),(5,1),(6,1),(7,1),(8,1),(9,1),(10,1),(11,1),(12,1)] [(0,.int .i64 1),(2,.int .i64 f),(4,.int .i64 i),(5,.int .i64 t)]=
  .ok (.agg (aN { Letter.zero with kind:=1,to:=f,index:=i,at':=t } .nils)):=rfl
theorem aVu {a b i k:Nat} (h:a≤b+i) (hb:b≤999990) (hi:i<k) (hk:k≤7):a≤1000000:=by omega
theorem aPk (c:Core) (m:Letter):(c.post m).out.length=c.out.length+1:=by simp [Core.post]
section
variable {S:St} {a:Nat} {c:Core} {O:Nat→Prop}
theorem g51 (w:WF S) (h:CoreIn S a c O) (ok:Hok c.h) (i0:0≤c.id) (i1:c.id<7) (ht:c.h.term<1099511627776) (hs0:c.h.base≤c.sure) (hs1:c.sure≤c.last) (hl:c.out.length≤999990):Meth 51 [.ptr a 0 0 0] a c.stand S O (.tup []):=by
 have hr:=eP ok
 have hb:=ok.b0
 have ht0:=ok.t0
 obtain ⟨n,hn⟩:∃ n:Nat,c.id=(n:Int):=⟨c.id.toNat,by omega⟩
 have hn7:n<7:=by omega
 have hw:wr .i64 (c.h.term+1)=c.h.term+1:=cR (by omega) (by omega)
 have hpow:=sK hn7
 obtain ⟨lv,wv,dv,ov,rows,h,rfl⟩:=h
 obtain ⟨S1,q1,h1,m1,n1⟩:=h.w_term w (c.h.term+1)
 have w1:=m1.wf w
 have xb:Ext S1 (⟨S1.next+27,S1.heap⟩:St):=(Ext.refl S1).bump 27
 have wb:=xb.wf w1
 have hb1:=h1.ext w1 xb
 obtain ⟨S2,q2,h2',m2,n2⟩:=hb1.w_vote wb c.id
 have h2:CoreAt S2 a { c with h:={ c.h with term:=c.h.term+1,vote:=c.id } } lv wv dv ov rows:=h2'
 clear h2'
 have w2:=m2.wf wb
 obtain ⟨S3,q3,h3',m3,n3⟩:=h2.w_role w2 2
 have h3:CoreAt S3 a { c with h:={ c.h with term:=c.h.term+1,vote:=c.id },role:=2 } lv wv dv ov rows:=h3'
 clear h3'
 have w3:=m3.wf w2
 obtain ⟨S4,q4,h4',m4,n4⟩:=h3.w_leads w3 (-1)
 have h4:CoreAt S4 a { c with h:={ c.h with term:=c.h.term+1,vote:=c.id },role:=2,leads:=-1 } lv wv dv ov rows:=h4'
 clear h4'
 have w4:=m4.wf w3
 obtain ⟨S5,q5,h5',m5,n5⟩:=h4.w_votes w4 (2 ^ n)
 have h5:CoreAt S5 a { c with h:={ c.h with term:=c.h.term+1,vote:=c.id },role:=2,leads:=-1,votes:=(2:Int) ^ n } lv wv dv ov rows:=h5'
 clear h5'
 have w5:=m5.wf w4
 have mv5:=((((m1.trans w (Mv.of xb)).trans w m2).trans w m3).trans w m4).trans w m5
 generalize hc1:({ c with h:={ c.h with term:=c.h.term+1,vote:=c.id },role:=2,leads:=-1,votes:=(2:Int) ^ n }:Core)=c1 at h5
 have xb5:Ext S5 (⟨S5.next+7,S5.heap⟩:St):=(Ext.refl S5).bump 7
 have hw2:wr .u64 (n:Int)=(n:Int):=wru n hn7
 refine e51 ?_
 simp only [m51,aT,nL,dE,gM,sJ,aP8,gL,vU,aF,aG,Nat.reduceAdd,dY,st3,h.r_term,bQ,hw,q1,bA,h1.r_id,aEw,hn,hw2,yG hn7]
 rw [hn] at q2
 have hid1:({ c with h:={ c.h with term:=c.h.term+1 } }:Core).id=(n:Int):=hn
 simp only [hid1,hw2,yG hn7,aG,q2,q3,q4,q5,bA,h5.r_votes]
 have ok1:Hok c1.h:=by
  rw [←hc1]
  have k:=ok
  exact ⟨by show 0≤c.h.term+1;omega,by show c.h.term+1≤_;omega,by show -1≤c.id;omega,by show c.id<7;omega,k.m0,k.m1,k.b0,k.b1,k.bt0,by show c.h.baseTerm≤c.h.term+1;have:=k.bt1;omega,k.btz,k.ll,k.li,jI (by show c.h.term≤c.h.term+1;omega) k.fl,k.sz,k.sl⟩
 have el1:c1.last=c.last:=by rw [←hc1];rfl
 have hv1:c1.votes=2 ^ n:=by rw [←hc1]
 have hstand:c.stand=(if iJ c1.members c1.votes=true then c1.lead else c1.others.foldl (fun d f=>d.post { Letter.zero with kind:=1,to:=f,index:=d.last,at':=d.term d.last }) c1):=by
  unfold Core.stand;simp only
  rw [show c.id.toNat=n by omega,hc1,hv1]
 have in5:CoreIn S5 a c1 (own a lv wv dv ov):=⟨_,_,_,_,_,h5,rfl⟩
 refine (g47 (xb5.wf w5) (in5.ext w5 xb5) ok1).call fun S6 x6=>?_
 have x56:=xb5.trans x6
 have w6:=x56.wf w5
 have h6:=h5.ext w5 x56
 have in6:=in5.ext w5 x56
 simp only [h6.r_votes,aG,cN,aU]
 refine (g84 _ _ S6 w6 (by rw [hv1];omega) (by rw [hv1];omega)).call fun S7 x7=>?_
 have w7:=x7.wf w6
 have in7:=in6.ext w6 x7
 have mv7:=mv5.trans w (Mv.of (x56.trans x7))
 have eid:c1.id=c.id:=by rw [←hc1]
 have esure:c1.sure=c.sure:=by rw [←hc1]
 have eout:c1.out=c.out:=by rw [←hc1]
 have hl1:c1.out.length≤999990:=by rw [eout];exact hl
 have ebase:c1.h.base=c.h.base:=by rw [←hc1]
 rw [hstand]
 refine Ok.pick (fun e=>?_) (fun e=>?_)
 ·rw [if_pos e]
  exact Meth.call (g85 w7 in7 ok1 (by rw [eid];exact i0) (by rw [eid];exact i1) (by rw [←hc1];show 1≤c.h.term+1;omega) (by rw [ebase,esure];exact hs0) (by rw [esure,el1];exact hs1) (by rw [eout];exact hl)) w7 fun S8 O8 w8 in8 m8=>Ok.ret ⟨rfl,O8,in8,mv7.trans w m8⟩
 ·rw [e,if_neg (by decide)]
  refine Does.call (g82 w7 in7 ok1) fun u S8 ⟨x8,own8⟩=>?_
  have w8:=x8.wf w7
  simp only [aLc,own8.sl.lenI,aG]
  rw [←pS]
  have hlen7:c1.others.length≤7:=Nat.le_trans (List.length_filter_le _ _) (vZ _)
  refine Ok.loopL (F:=fun k K=>aEm (aC prog bC bD k) k K (.ptr a 0 0 0) u (.int .i64 c1.others.length)) (ρ:=Core) (α:=Int) (X:=Core) c1.others (fin:=id) (s:=c1)
   (out:=fun k K x S'=>K (.tup []) S')
   (fun i d vs S'=>Told Core.send a c1 S7 (own a lv wv dv ov) u i d vs S'∧Sl S' 1 u (c1.others.map nT))
   (fun d x S'=>d=x∧∃ O',CoreIn S' a d O'∧Mv (own a lv wv dv ov) S7 O' S') ?_ ?_ ⟨⟨rfl,w8,⟨_,in7.ext w7 x8,Mv.of x8,fun y hy hOy=>?_⟩,Sent.refl c1,Nat.le_refl _⟩,own8.sl⟩ (fun x S' ⟨e,O',h1,h2⟩=>Ok.ret ⟨rfl,O',e▸h1,mv7.trans w h2⟩)
  ·rintro i f d vs S9 ⟨⟨rfl,w9,⟨O9,h9,m9,f9⟩,s9,l9⟩,sl9⟩ hi
   have hil:=(List.getElem?_eq_some_iff.1 hi).1
   have hlt:(i:Int)<(c1.others.length:Int):=by omega
   have hwi:wr .i64 ((i:Int)+1)=((i+1:Nat):Int):=by rw [cR (by omega) (by omega)];omega
   obtain ⟨p,hp',hat,_,_⟩:=sl9.elem hi
   have hat0:aL none p S9=.ok (.int .i64 f):=by rw [hat.load0];rfl
   have okd:Hok d.h:=by rw [s9.h];exact ok1
   simp only [aEm,bE,bG,aG,hlt,decide_true,bT,aRs,hp',dY,hat0]
   refine (g46 h9 okd).callL fun Sa xa=>?_
   have wa:=xa.wf w9
   have ina:=h9.ext w9 xa
   refine (g46 ina okd).callL fun Sb xb=>?_
   have wb:=xb.wf wa
   have inb:=ina.ext wa xb
   refine (g62 inb okd (n:=d.last) (by have:=okd.li;unfold Core.last bI;omega) (Int.le_refl _)).callL fun Sc xc=>?_
   have wc:=xc.wf wb
   have inc:=inb.ext wb xc
   have xac:=xa.trans (xb.trans xc)
   simp only [tW,aVt,aG]
   refine Meth.callL (g86 _ .nils wc inc (Apart.nil _ _ rfl) (aVu l9 hl1 hil hlen7)) wc fun Sd Od wd ind md=>?_
   simp only [bQ,hwi,aG]
   obtain ⟨sld,fd⟩:=aAz wc (sl9.ext xac) f9 md
   refine OkL.next ⟨_,rfl,⟨rfl,wd,⟨Od,ind,(m9.trans w7 (Mv.of xac)).trans w7 md,fd⟩,s9.trans (Sent.post d _),?_⟩,sld⟩
   rw [aPk];exact Nat.add_le_add_right l9 1
  ·rintro d vs S9 ⟨⟨rfl,w9,⟨O9,h9,m9,f9⟩,s9,l9⟩,sl9⟩
   refine ⟨d,⟨rfl,O9,h9,m9⟩,fun k K aO=>?_⟩
   have hlt:¬ (((c1.others.length:Nat):Int))<c1.others.length:=by omega
   simp only [aEm,bE,bG,aG,hlt,decide_false,aH]
  ·have h1:=(nN own8 hy).1
   have h2:=core_lt w7 in7 y hOy
   omega
end
end
section
variable [Guard]
section
variable {S:St} {a:Nat} {c:Core} {O:Nat→Prop}
theorem g18 (cV:Int) (w:WF S) (h:CoreIn S a c O) (I:Inv c) (hl:c.out.length≤999990):Meth 18 [.ptr a 0 0 0,.int .i64 cV] a (c.tick cV) S O (.tup []):=by
 have ok:=I.h
 have f0:=I.f0
 have f1:=I.f1
 have hmr:=jQ ok
 obtain ⟨lv,wv,dv,ov,rows,h,rfl⟩:=h
 have hw:wr .i64 (c.left - 1)=c.left - 1:=cR (by omega) (by omega)
 obtain ⟨S1,q1,h1,m1,n1⟩:=h.w_left w (c.left - 1)
 have w1:=m1.wf w
 refine e18 ?_
 simp only [m18,aT,nM,gM,aF,aG,Nat.reduceAdd,dY,st3,h.r_left,cL,hw,q1,h1.r_left,dF]
 have htick:c.tick cV=(if 0<c.left - 1 then { c with left:=c.left - 1 } else if c.role=3 then ({ c with left:=3 }:Core).spread else
  if c.h.term<1099511627776∧(bJ c.members c.id=true∨c.sure<(ofM c.h).2) then ({ c with drawn:=dH cV,left:=dH cV }:Core).stand else { c with drawn:=dH cV,left:=dH cV }):=rfl
 rw [htick]
 refine Ok.pickP (fun e=>Ok.ret ⟨rfl,_,⟨_,_,_,_,_,by rw [if_pos e];exact h1,rfl⟩,m1⟩) (fun e=>?_)
 rw [if_neg e]
 simp only [h1.r_role,aG,aR,aU,bX]
 refine Ok.pickP (fun e2=>?_) (fun e2=>?_)
 ·rw [if_pos e2]
  obtain ⟨S2,q2,h2',m2,n2⟩:=h1.w_left w1 3
  have h2:CoreAt S2 a { c with left:=3 } lv wv dv ov rows:=h2'
  clear h2'
  simp only [aT,nM,aF,aG,Nat.reduceAdd,st3,q2]
  have w2:=m2.wf w1
  exact Meth.call (g48 w2 ⟨_,_,_,_,_,h2,rfl⟩ ok hl (fun hr p hp=>Pok.of (c:=c) (d:={ c with left:=3 }) rfl (I.pr hr p hp))) w2 fun S3 O3 w3 in3 m3=>Ok.ret ⟨rfl,O3,in3,(m1.trans w m2).trans w m3⟩
 ·rw [if_neg e2]
  refine (g34 cV S1).call fun S2 x2=>?_
  have w2:=x2.wf w1
  have h2:=h1.ext w1 x2
  obtain ⟨S3,q3,h3',m3,n3⟩:=h2.w_drawn w2 (dH cV)
  have h3:CoreAt S3 a { c with left:=c.left - 1,drawn:=dH cV } lv wv dv ov rows:=h3'
  clear h3'
  have w3:=m3.wf w2
  obtain ⟨S4,q4,h4',m4,n4⟩:=h3.w_left w3 (dH cV)
  have h4:CoreAt S4 a { c with drawn:=dH cV,left:=dH cV } lv wv dv ov rows:=h4'
  clear h4'
  have w4:=m4.wf w3
  have mv4:=((m1.trans w (Mv.of x2)).trans w m3).trans w m4
  generalize hc4:({ c with drawn:=dH cV,left:=dH cV }:Core)=c4 at h4
  have e4:c4.h=c.h:=by rw [←hc4]
  have eid:c4.id=c.id:=by rw [←hc4]
  have es:c4.sure=c.sure:=by rw [←hc4]
  have eo:c4.out=c.out:=by rw [←hc4]
  have hll:=ok.ll
  simp only [aT,aAl,nM,dE,aF,aG,Nat.reduceAdd,dY,st3,q3,h3.r_drawn,q4,xP,h4.r_hard]
  rw [e4]
  refine (g49 c.h lv S4 w4 (by rw [←e4];exact h4.log.sl) (by omega) ok.b0 ok.b1).call fun S5 x5=>?_
  have w5:=x5.wf w4
  have h5:=h4.ext w4 x5
  have in5:CoreIn S5 a c4 (own a lv wv dv ov):=⟨_,_,_,_,_,h5,rfl⟩
  have mv5:=mv4.trans w (Mv.of x5)
  have hm:(ofM c.h).1=c.members:=rfl
  simp only [mP,List.getElem?_cons_zero,List.getElem?_cons_succ,aA2,aT,dE,nL,gL,aF,aG,Nat.reduceAdd,dY,h5.r_term,h5.r_id,bG,e4,eid]
  have stand:(S6:St)→(x:Ext S5 S6)→(e3:c.h.term<1099511627776∧(bJ c.members c.id=true∨c.sure<(ofM c.h).2))→Ok (fun k K=>aC prog bC bD k 51 [.ptr a 0 0 0] S6 fun t31 S32=>K (.tup []) S32) (fun u S'=>u=.tup []∧∃ O',CoreIn S' a (if c.h.term<1099511627776∧(bJ c.members c.id=true∨c.sure<(ofM c.h).2) then c4.stand else c4) O'∧Mv (own a lv wv dv ov) S O' S'):=fun S6 x e3=>by
   rw [if_pos e3]
   have w6:=x.wf w5
   exact Meth.call (g51 w6 (in5.ext w5 x) (by rw [e4];exact ok) (by rw [eid];exact I.i0) (by rw [eid];exact I.i1) (by rw [e4];exact e3.1) (by rw [e4,es];exact I.s0) (by unfold Core.last;rw [e4,es];exact I.s1) (by rw [eo];exact hl)) w6 fun S7 O7 w7 in7 m7=>Ok.ret ⟨rfl,O7,in7,(mv5.trans w (Mv.of x)).trans w m7⟩
  refine Ok.pickP (fun e3=>?_) (fun e3=>?_)
  ·refine (g50 _ _ S5 (by rw [hm];omega)).call fun S6 x6=>?_
   have h6:=h5.ext w5 x6
   refine Ok.pick (fun e5=>?_) (fun e5=>?_)
   ·exact stand S6 x6 ⟨e3,.inl e5⟩
   ·simp only [aT,iX,aF,Nat.reduceAdd,dY,h6.r_sure,aG,dF,es]
    refine Ok.pickP (fun e6=>?_) (fun e6=>?_)
    ·exact stand S6 x6 ⟨e3,.inr e6⟩
    ·refine Ok.ret ⟨rfl,_,?_,mv5.trans w (Mv.of x6)⟩
     rw [if_neg (fun q=>by
      rcases q.2 with q | q
      ·rw [hm] at e5;rw [e5] at q;cases q
      ·exact e6 q)]
     exact in5.ext w5 x6
  ·refine Ok.ret ⟨rfl,_,?_,mv5⟩
   rw [if_neg (fun q=>e3 q.1)]
   exact in5
end
end
section
variable [Guard]
theorem Sl.isv {S:St} {n:Nat} {v:V} {es:List (List V)} (h:Sl S n v es):v=.nils∨(∃ a,v=.imm a)∨∃ a b d e f,v=.sl a b d e f:=by
 rcases h.is with ⟨h,_⟩ | h | ⟨a,ver,off,elems,h,_⟩
 ·exact .inl h
 ·exact .inr (.inl ⟨_,h⟩)
 ·exact .inr (.inr ⟨_,_,_,_,_,h⟩)
theorem aS2 {u:V} (hu:u=.nils∨(∃ a,u=.imm a)∨∃ a b d e f,u=.sl a b d e f) (t i at':Int) (l:List Entry):dJ [.int .i64 0,.int .i64 0,.int .i64 0,.int .i64 0,.int .i64 0,.str [],.nils] [(0,1),(1,1),(2,1),(3,1),(4,1),(5,1),(6,1)] [(0,.int .i64 t),(1,.int .i64 (-1)),(2,.int .i64 i),(3,.int .i64 at'),(4,.int .i64 1),(6,u)]=
  .ok (.agg (bB ⟨t,-1,i,at',1,[],l⟩ u)):=by
 rcases hu with rfl | ⟨a,rfl⟩ | ⟨a,b,d,e,f,rfl⟩<;>rfl
theorem bBb (m:Letter) (u:V) (S:St) (w:WF S) (hu:Sl S 3 u (m.entries.map bR)) (i0:0≤m.index) (i1:m.index≤1099511627776):xD 104 [.agg (aN m u)] S (.bool (gZ m)):=by
 have ho:=cM m hu.one
 have hln:(aN m u).length=13:=rfl
 obtain ⟨S1,hn1,x1,hg1,hnx1⟩:=nb w 13 (aN m u)
 have w1:=x1.wf w
 have hw:wr .i64 (1099511627776 - m.index)=1099511627776 - m.index:=cR (by omega) (by omega)
 refine bAv ?_
 simp only [aRh,bK,ho,hln,aU,hn1,aG,tX,aAh,eF,lD,aF,iC,dY,vY hg1,cH hg1,aAt hg1,qS hg1,kD,hu.lenI,dF,cL,hw]
 refine Ok.pickP (fun e=>Ok.ret ⟨by unfold gZ;rw [decide_eq_false (by omega)];rfl,x1⟩) (fun e=>?_)
 refine Ok.pickP (fun e2=>Ok.ret ⟨by unfold gZ;rw [decide_eq_true (by omega:m.entries.length≤8),decide_eq_false (by omega)];rfl,x1⟩) (fun e2=>?_)
 have hE:gZ m=iD ⟨m.term,-1,m.index,m.at',1,if 0<m.index then [115] else [],m.entries⟩:=by
  unfold gZ;rw [decide_eq_true (by omega:m.entries.length≤8),decide_eq_true (by omega:(m.entries.length:Int)≤1099511627776 - m.index)];rfl
 rw [hE]
 have hoH:=dW ⟨m.term,-1,m.index,m.at',1,[],m.entries⟩ hu.one
 obtain ⟨S2,S3,q1,q2,x3,hg3,hn3⟩:=vb w1 7 [.int .i64 0,.int .i64 0,.int .i64 0,.int .i64 0,.int .i64 0,.str [],.nils] (.agg (bB ⟨m.term,-1,m.index,m.at',1,[],m.entries⟩ u)) rfl rfl hoH
 rw [bK] at hg3
 have w3:=x3.wf w1
 have x03:=x1.trans x3
 have g3:=x3.old _ _ hg1
 simp only [aVe,aS2 (Sl.isv hu) m.term m.index m.at' m.entries,q1,q2,aG,aJg,cH g3]
 refine Ok.pickP (fun e3=>?_) (fun e3=>?_)
 ·rw [if_pos e3]
  have e5:=cX (S:=S3) (x:=.str [115]) (j:=0+5) (m:=1) hg3 rfl rfl (by show 0+5+1≤7;omega)
  have c5:splice (bB ⟨m.term,-1,m.index,m.at',1,[],m.entries⟩ u) (0+5) (V.str [115]).cells=bB ⟨m.term,-1,m.index,m.at',1,[115],m.entries⟩ u:=rfl
  rw [c5] at e5
  have hlt:S1.next<S3.next:=w3 _ _ hg3
  have x4:Ext S (⟨S3.next,S3.heap.put S1.next (.row 0 7 [bB ⟨m.term,-1,m.index,m.at',1,[115],m.entries⟩ u])⟩:St):=x03.set x1.next hlt w _
  have va:aL (some 7) (.ptr S1.next 0 0 0) (⟨S3.next,S3.heap.put S1.next (.row 0 7 [bB ⟨m.term,-1,m.index,m.at',1,[115],m.entries⟩ u])⟩:St)=.ok (.agg (bB ⟨m.term,-1,m.index,m.at',1,[115],m.entries⟩ u)):=by
   rw [aA4];exact cJ _ _ rfl
  simp only [aAf,aF,aG,st9,e5,xP,va]
  refine (g33 ⟨m.term,-1,m.index,m.at',1,[115],m.entries⟩ u _ (x4.wf w) (hu.ext x4) (by show m.entries.length≤1000000;omega)).call fun S5 x5=>?_
  exact Ok.ret ⟨rfl,x4.trans x5⟩
 ·rw [if_neg e3]
  have va:aL (some 7) (.ptr S1.next 0 0 0) S3=.ok (.agg (bB ⟨m.term,-1,m.index,m.at',1,[],m.entries⟩ u)):=by rw [aY _ _ _ _ _ (aX hg3)];exact cJ _ _ rfl
  simp only [xP,va,aG]
  refine (g33 ⟨m.term,-1,m.index,m.at',1,[],m.entries⟩ u S3 w3 (hu.ext x03) (by show m.entries.length≤1000000;omega)).call fun S5 x5=>?_
  exact Ok.ret ⟨rfl,x03.trans x5⟩
theorem bBc (m:Letter) (u:V) (S:St) (w:WF S) (hu:Sl S 3 u (m.entries.map bR)):xD 105 [.agg (aN m u)] S (.bool (lF m)):=by
 have ho:=cM m hu.one
 have hln:(aN m u).length=13:=rfl
 obtain ⟨S1,hn1,x1,hg1,hnx1⟩:=nb w 13 (aN m u)
 refine bAw ?_
 simp only [aRj,bK,ho,hln,aU,hn1,aG,eF,lD,aF0,sI,aAi,yD,aF,ld9,dY,cH hg1,qS hg1,jK hg1,aR,bX]
 refine Ok.pickP (fun e=>Ok.ret ⟨by unfold lF;rw [decide_eq_false (by simpa using e)];rfl,x1⟩) (fun e=>?_)
 refine Ok.pickP (fun e2=>Ok.ret ⟨by unfold lF;rw [decide_eq_true e,decide_eq_false (by simpa using e2)];rfl,x1⟩) (fun e2=>?_)
 refine (aC3 _ _ _ S1).call fun S2 x2=>?_
 have x02:=x1.trans x2
 have g2:=x2.old _ _ hg1
 simp only [fE,aG]
 refine Ok.pick (fun e3=>Ok.ret ⟨by unfold lF;rw [decide_eq_true e,decide_eq_true e2,show mW m.members 1 127=false by simpa using e3];rfl,x02⟩) (fun e3=>?_)
 have e3':mW m.members 1 127=true:=by simpa using e3
 simp only [pQ g2,aG]
 refine (aC3 _ _ _ S2).call fun S3 x3=>?_
 have x03:=x02.trans x3
 have g3:=x3.old _ _ g2
 simp only [fE,aG]
 refine Ok.pick (fun e4=>Ok.ret ⟨by unfold lF;rw [decide_eq_true e,decide_eq_true e2,e3',show mW m.size 1 65536=false by simpa using e4];rfl,x03⟩) (fun e4=>?_)
 have e4':mW m.size 1 65536=true:=by simpa using e4
 have r4:=e4'
 simp only [mW,Bool.and_eq_true,decide_eq_true_eq] at r4
 have hw1:wr .i64 (m.size - 1)=m.size - 1:=cR (by omega) (by omega)
 simp only [uB g3,pQ g3,aG,cL,hw1]
 refine (aC3 _ _ _ S3).call fun S4 x4=>?_
 have x04:=x03.trans x4
 have g4:=x4.old _ _ g3
 simp only [fE,aG]
 refine Ok.pick (fun e5=>Ok.ret ⟨by unfold lF;rw [decide_eq_true e,decide_eq_true e2,e3',e4',show mW m.off 0 (m.size - 1)=false by simpa using e5];rfl,x04⟩) (fun e5=>?_)
 have e5':mW m.off 0 (m.size - 1)=true:=by simpa using e5
 have r5:=e5'
 simp only [mW,Bool.and_eq_true,decide_eq_true_eq] at r5
 have hw2:wr .i64 (m.size - m.off)=m.size - m.off:=cR (by omega) (by omega)
 have hP:lF m=(decide (1≤m.data.length)&&(decide (m.data.length≤600)&&decide ((m.data.length:Int)≤m.size - m.off))):=by
  unfold lF;rw [decide_eq_true e,decide_eq_true e2,e3',e4',e5'];rfl
 rw [hP]
 simp only [aAu g4,uB g4,pQ g4,aG,aHh,eX,fR,cL,hw2]
 refine Ok.pickP (fun e6=>?_) (fun e6=>Ok.ret ⟨by rw [decide_eq_false (by omega)];rfl,x04⟩)
 rw [decide_eq_true (by omega:1≤m.data.length)]
 refine Ok.pickP (fun e7=>?_) (fun e7=>Ok.ret ⟨by rw [decide_eq_false (by omega)];rfl,x04⟩)
 rw [decide_eq_true (by omega:m.data.length≤600)]
 exact Ok.ret ⟨rfl,x04⟩
end
section
variable [Guard]
theorem aS3 (p q:Prop) [Decidable p] [Decidable q]:(decide p == decide q)=decide (p↔q):=by
 by_cases a:p<;>by_cases b:q<;>simp [a,b]
theorem g87 (m:Letter) (u:V) (S:St) (w:WF S) (hu:Sl S 3 u (m.entries.map bR)):xD 87 [.agg (aN m u)] S (.bool (eK m)):=by
 have ho:=cM m hu.one
 have hln:(aN m u).length=13:=rfl
 obtain ⟨S1,hn1,x1,hg1,hnx1⟩:=nb w 13 (aN m u)
 have w1:=x1.wf w
 refine e87 ?_
 simp only [m87,bK,ho,hln,aU,hn1,aG,aAg,fL,aJc,aAh,eF,lD,aEz,sI,aF,aBx,dY,uC hg1]
 refine (bB6 m u S1 w1 (hu.ext x1)).call fun S2 x2=>?_
 have x02:=x1.trans x2
 have g2:=x2.old _ _ hg1
 simp only [fE,aG]
 refine Ok.pick (fun e=>Ok.ret ⟨by unfold eK;rw [show nO m=false by simpa using e];rfl,x02⟩) (fun e=>?_)
 have k0:nO m=true:=by simpa using e
 simp only [eG g2,aG]
 refine (aC3 _ _ _ S2).call fun S3 x3=>?_
 have x03:=x02.trans x3
 have g3:=x3.old _ _ g2
 simp only [fE,aG]
 refine Ok.pick (fun e=>Ok.ret ⟨by unfold eK;rw [k0,show mW m.from' 0 6=false by simpa using e];rfl,x03⟩) (fun e=>?_)
 have k2:mW m.from' 0 6=true:=by simpa using e
 simp only [aVp g3,aG]
 refine (aC3 _ _ _ S3).call fun S4 x4=>?_
 have x04:=x03.trans x4
 have g4:=x4.old _ _ g3
 simp only [fE,aG]
 refine Ok.pick (fun e=>Ok.ret ⟨by unfold eK;rw [k0,k2,show mW m.to 0 6=false by simpa using e];rfl,x04⟩) (fun e=>?_)
 have k3:mW m.to 0 6=true:=by simpa using e
 simp only [eG g4,aVp g4,aG,aR,aU,bX]
 refine Ok.pickP (fun e=>Ok.ret ⟨by unfold eK;rw [k0,k2,k3,decide_eq_false (by simpa using e)];rfl,x04⟩) (fun e=>?_)
 have kd:decide (m.from'≠m.to)=true:=decide_eq_true e
 simp only [aAt g4,aG]
 refine (aC3 _ _ _ S4).call fun S5 x5=>?_
 have x05:=x04.trans x5
 have g5:=x5.old _ _ g4
 simp only [fE,aG]
 refine Ok.pick (fun e=>Ok.ret ⟨by unfold eK;rw [k0,k2,k3,kd,show mW m.term 1 1099511627776=false by simpa using e];rfl,x05⟩) (fun e=>?_)
 have k4:mW m.term 1 1099511627776=true:=by simpa using e
 simp only [cH g5,aG]
 refine (aC3 _ _ _ S5).call fun S6 x6=>?_
 have x06:=x05.trans x6
 have g6:=x6.old _ _ g5
 simp only [fE,aG]
 refine Ok.pick (fun e=>Ok.ret ⟨by unfold eK;rw [k0,k2,k3,kd,k4,show mW m.index 0 1099511627776=false by simpa using e];rfl,x06⟩) (fun e=>?_)
 have k5:mW m.index 0 1099511627776=true:=by simpa using e
 simp only [qS g6,aAt g6,aG]
 refine (aC3 _ _ _ S6).call fun S7 x7=>?_
 have x07:=x06.trans x7
 have g7:=x7.old _ _ g6
 simp only [fE,aG]
 refine Ok.pick (fun e=>Ok.ret ⟨by unfold eK;rw [k0,k2,k3,kd,k4,k5,show mW m.at' 0 m.term=false by simpa using e];rfl,x07⟩) (fun e=>?_)
 have k6:mW m.at' 0 m.term=true:=by simpa using e
 simp only [pP g7,aG]
 refine (aC3 _ _ _ S7).call fun S8 x8=>?_
 have x08:=x07.trans x8
 have g8:=x8.old _ _ g7
 simp only [fE,aG]
 refine Ok.pick (fun e=>Ok.ret ⟨by unfold eK;rw [k0,k2,k3,kd,k4,k5,k6,show mW m.commit 0 1099511627776=false by simpa using e];rfl,x08⟩) (fun e=>?_)
 have k7:mW m.commit 0 1099511627776=true:=by simpa using e
 have r4:=k5
 have r5:=k4
 simp only [mW,Bool.and_eq_true,decide_eq_true_eq] at r4 r5
 have w8:=x08.wf w
 have hR:eK m=(if m.kind=1 then decide (m.at'=0↔m.index=0) else if m.kind=3 then decide (m.at'=0↔m.index=0)&&gZ m else if m.kind=5 then lF m else if m.kind=6 then decide (m.index≠0)&&mW m.off 0 65536 else true):=by
  unfold eK;rw [k0,k2,k3,kd,k4,k5,k6,k7];rfl
 rw [hR]
 simp only [aAs g8,qS g8,cH g8,uB g8,uC g8,aG,aR,nI,aU,bX,vX,aS3]
 refine Ok.pickP (fun e=>Ok.ret ⟨by rw [if_pos e],x08⟩) (fun e=>?_)
 rw [if_neg e]
 refine Ok.pickP (fun e1=>?_) (fun e1=>?_)
 ·rw [if_pos e1]
  refine Ok.pickP (fun e2=>?_) (fun e2=>Ok.ret ⟨by rw [decide_eq_false e2];rfl,x08⟩)
  rw [decide_eq_true e2]
  refine (bBb m u S8 w8 (hu.ext x08) r4.1 r4.2).call fun S9 x9=>?_
  exact Ok.ret ⟨rfl,x08.trans x9⟩
 rw [if_neg e1]
 refine Ok.pickP (fun e2=>?_) (fun e2=>?_)
 ·rw [if_pos e2]
  refine (bBc m u S8 w8 (hu.ext x08)).call fun S9 x9=>?_
  exact Ok.ret ⟨rfl,x08.trans x9⟩
 rw [if_neg e2]
 refine Ok.pickP (fun e3=>?_) (fun e3=>Ok.ret ⟨by rw [if_neg e3],x08⟩)
 rw [if_pos e3]
 simp only [dG,aG]
 refine Ok.pickN (fun e4=>?_) (fun e4=>Ok.ret ⟨by rw [decide_eq_false (by simpa using e4)];rfl,x08⟩)
 rw [decide_eq_true (by simpa using e4)]
 refine (aC3 _ _ _ S8).call fun S9 x9=>?_
 exact Ok.ret ⟨rfl,x08.trans x9⟩
end
section
variable [Guard]
theorem jL {S S':St} {O O':Nat→Prop} {b:Nat} {x:Blk} (w:WF S) (hb:S.heap.get b=some x) (hno:¬ O b) (k:Mv O S O' S'):S'.heap.get b=some x∧¬ O' b:=by
 refine ⟨k.keep b x hno hb,fun hO=>?_⟩
 rcases k.own b hO with h1 | h1
 ·exact hno h1
 ·have:=w b x hb;omega
abbrev zL:List V:=[.int .i64 0,.int .i64 0,.int .i64 0,.int .i64 0,.int .i64 0,.int .i64 0,.int .i64 0,.int .i64 0,.int .i64 0,.int .i64 0,.bool false,.str [],.nils]
abbrev pL:List (Nat×Nat):=[(0,1),(1,1),(2,1),(3,1),(4,1),(5,1),(6,1),(7,1),(8,1),(9,1),(10,1),(11,1),(12,1)]
theorem aXy (k f:Int):dJ zL pL [(0,.int .i64 k),(2,.int .i64 f)]=.ok (.agg (aN { Letter.zero with kind:=k,to:=f } .nils)):=rfl
theorem aFc (k f i:Int):dJ zL pL [(0,.int .i64 k),(2,.int .i64 f),(4,.int .i64 i)]=.ok (.agg (aN { Letter.zero with kind:=k,to:=f,index:=i } .nils)):=rfl
theorem aPl (k f:Int) (y:Bool):dJ zL pL [(0,.int .i64 k),(2,.int .i64 f),(10,.bool y)]=.ok (.agg (aN { Letter.zero with kind:=k,to:=f,yes:=y } .nils)):=rfl
theorem aLi (k f i:Int) (y:Bool):dJ zL pL [(0,.int .i64 k),(2,.int .i64 f),(10,.bool y),(4,.int .i64 i)]=.ok (.agg (aN { Letter.zero with kind:=k,to:=f,yes:=y,index:=i } .nils)):=rfl
theorem aS4 (k f i o:Int):dJ zL pL [(0,.int .i64 k),(2,.int .i64 f),(4,.int .i64 i),(8,.int .i64 o)]=.ok (.agg (aN { Letter.zero with kind:=k,to:=f,index:=i,off:=o } .nils)):=rfl
section
variable {S:St} {a:Nat} {c:Core} {O:Nat→Prop}
theorem g52 (m:Letter) (ev:V) (w:WF S) (h:CoreIn S a c O) (I:Inv c) (he:Sl S 3 ev (m.entries.map bR)):xD 52 [.ptr a 0 0 0,.agg (aN m ev)] S (.bool (c.passed m)):=by
 have ho:=cM m he.one
 have hln:(aN m ev).length=13:=rfl
 obtain ⟨S1,hn1,x1,hg1,hnx1⟩:=nb w 13 (aN m ev)
 have w1:=x1.wf w
 have xb:Ext S1 (⟨S1.next+12,S1.heap⟩:St):=(Ext.refl S1).bump 12
 have x1b:=x1.trans xb
 have hw:wr .i64 (c.drawn - c.left)=c.drawn - c.left:=by have:=I.d0;have:=I.d1;have:=I.f0;have:=I.f1;exact cR (by omega) (by omega)
 refine e52 ?_
 simp only [m52,bK,ho,hln,aU,hn1,aG,aBx,bA,uC hg1]
 refine (g87 m ev _ (xb.wf w1) (he.ext x1b)).call fun S3 x3=>?_
 have x03:=x1b.trans x3
 have g3:=x3.old _ _ (xb.old _ _ hg1)
 obtain ⟨lv,wv,dv,ov,rows,h3,_⟩:=h.ext w x03
 have xe:Ext S (⟨S3.next+30,S3.heap⟩:St):=x03.bump 30
 simp only [fE,aG]
 refine Ok.pick (fun e=>Ok.ret ⟨by unfold Core.passed;rw [if_pos (.inl (by simpa using e))],x03⟩) (fun e=>?_)
 simp only [aT,nL,gM,sJ,aAl,nM,aAg,aJc,aF,Nat.reduceAdd,aG,dY,bA,aVp g3,aAs g3,h3.r_id,h3.r_role,h3.r_leads,h3.r_drawn,h3.r_left,aR,aU,dG,bX,cL,hw,bG]
 refine Ok.pickN (fun e2=>Ok.ret ⟨by unfold Core.passed;rw [if_pos (.inr e2)],x03⟩) (fun e2=>?_)
 have hp:c.passed m=(decide (m.kind=1)&&(decide (c.role=3)||(decide (c.leads≠-1)&&decide (c.drawn - c.left<10)))):=by
  unfold Core.passed;rw [if_neg (fun q=>by
   rcases q with q | q
   ·rw [q] at e;cases e
   ·exact q e2)]
 rw [hp]
 refine Ok.pickP (fun e3=>?_) (fun e3=>Ok.ret ⟨by rw [decide_eq_false e3];rfl,xe⟩)
 rw [decide_eq_true e3]
 refine Ok.pickP (fun e4=>Ok.ret ⟨by rw [decide_eq_true e4];rfl,xe⟩) (fun e4=>?_)
 rw [decide_eq_false e4]
 refine Ok.pickN (fun e5=>Ok.ret ⟨by rw [decide_eq_true e5];rfl,xe⟩) (fun e5=>Ok.ret ⟨by rw [decide_eq_false (fun q=>q e5)];rfl,xe⟩)
theorem g53 (m:Letter) (ev:V) (w:WF S) (h:CoreIn S a c O) (ok:Hok c.h) (he:Sl S 3 ev (m.entries.map bR)) (hl:c.out.length≤999990):Meth 53 [.ptr a 0 0 0,.agg (aN m ev)] a (c.late m) S O (.tup []):=by
 have ho:=cM m he.one
 have hln:(aN m ev).length=13:=rfl
 obtain ⟨S1,hn1,x1,hg1,hnx1⟩:=nb w 13 (aN m ev)
 have w1:=x1.wf w
 have in1:=h.ext w x1
 refine e53 ?_
 simp only [m53,bK,ho,hln,aU,hn1,aG,aAg,fL,aF,dY,aAs hg1,eG hg1,aR,bX,tW,aXy]
 unfold Core.late
 refine Ok.pickP (fun e=>?_) (fun e=>?_)
 ·rw [if_pos e]
  exact Meth.call (g86 _ .nils w1 in1 (Apart.nil _ _ rfl) (by omega)) w1 fun S2 O2 w2 in2 m2=>Ok.ret ⟨rfl,O2,in2,(Mv.of x1).trans w m2⟩
 rw [if_neg e]
 have ack:(m.kind=3∨m.kind=5)→Ok (fun k K=>aA8 (aC prog bC bD k) k K (.ptr a 0 0 0) (.ptr S.next 0 0 0) (.bool true) S1) (fun u S'=>u=.tup []∧∃ O',CoreIn S' a (if m.kind=3∨m.kind=5 then c.post { Letter.zero with kind:=4,to:=m.from',index:=c.last } else c) O'∧Mv O S O' S'):=fun hk=>by
  have xb:Ext S1 (⟨S1.next+7,S1.heap⟩:St):=(Ext.refl S1).bump 7
  rw [if_pos hk]
  simp only [aA8,bT,fL,aF,aG,dY,bA,eG hg1]
  refine (g46 (in1.ext w1 xb) ok).call fun S2 x2=>?_
  have x12:=xb.trans x2
  have g2:=x12.old _ _ hg1
  have w2:=x12.wf w1
  simp only [eG g2,aG,cN,aU,tW,aFc]
  exact Meth.call (g86 _ .nils w2 (in1.ext w1 x12) (Apart.nil _ _ rfl) (by omega)) w2 fun S3 O3 w3 in3 m3=>Ok.ret ⟨rfl,O3,in3,(Mv.of (x1.trans x12)).trans w m3⟩
 refine Ok.pickP (fun e2=>ack (.inl e2)) (fun e2=>?_)
 by_cases e3:m.kind=5
 ·simp only [e3,decide_true]
  have:=ack (.inr e3)
  simp only [e3] at this
  exact this
 ·simp only [e3,decide_false,aA8,aH,or_false,if_neg e2]
  exact Ok.ret ⟨rfl,O,in1,Mv.of x1⟩
theorem j54 (m:Letter) (ev:V) (yes:Bool) {b:Nat} (w:WF S) (h:CoreIn S a c O) (hb:S.heap.get b=some (.row 0 13 [aN m ev])) (hno:¬ O b) (hl:c.out.length≤999990):
  Ok (fun k K=>iV (aC prog bC bD k) k K (.ptr a 0 0 0) (.ptr b 0 0 0) (.bool yes) S) (fun u S'=>u=.tup []∧∃ O',CoreIn S' a ((if yes=true then { c with h:={ c.h with vote:=m.from' },left:=c.drawn } else c:Core).post { Letter.zero with kind:=2,to:=m.from',yes:=yes }) O'∧Mv O S O' S'):=by
 have hin:=h
 obtain ⟨lv,wv,dv,ov,rows,h,rfl⟩:=h
 cases yes with
 | true=>
  have xb:Ext S (⟨S.next+15,S.heap⟩:St):=(Ext.refl S).bump 15
  have wb:=xb.wf w
  obtain ⟨S1,q1,h1,m1,n1⟩:=(h.ext w xb).w_vote wb m.from'
  have w1:=m1.wf wb
  obtain ⟨S2,q2,h2',m2,n2⟩:=h1.w_left w1 c.drawn
  have h2:CoreAt S2 a { c with h:={ c.h with vote:=m.from' },left:=c.drawn } lv wv dv ov rows:=h2'
  clear h2'
  have w2:=m2.wf w1
  have mv2:=((Mv.of (O:=own a lv wv dv ov) xb).trans w m1).trans w m2
  have g2:=(jL w hb hno mv2).1
  simp only [iV,aEn,bT,aT,fL,aAl,dE,nM,vU,aF,Nat.reduceAdd,aG,dY,st3,bA,eG hb,h.r_drawn,q1,q2,eG g2,tW,aPl,if_true]
  exact Meth.call (g86 _ .nils w2 ⟨_,_,_,_,_,h2,rfl⟩ (Apart.nil _ _ rfl) (by show c.out.length≤1000000;omega)) w2 fun S3 O3 w3 in3 m3=>Ok.ret ⟨rfl,O3,in3,mv2.trans w m3⟩
 | false=>
  simp only [iV,aEn,aH,fL,aF,Nat.reduceAdd,aG,dY,eG hb,tW,aPl]
  exact Meth.call (g86 _ .nils w hin (Apart.nil _ _ rfl) (by omega)) w fun S3 O3 w3 in3 m3=>Ok.ret ⟨rfl,O3,in3,m3⟩
theorem g54 (m:Letter) (ev:V) (w:WF S) (h:CoreIn S a c O) (ok:Hok c.h) (he:Sl S 3 ev (m.entries.map bR)) (hl:c.out.length≤999990):Meth 54 [.ptr a 0 0 0,.agg (aN m ev)] a (c.asked m) S O (.tup []):=by
 have ho:=cM m he.one
 have hln:(aN m ev).length=13:=rfl
 have hr:=eP ok
 have hb0:=ok.b0
 obtain ⟨S1,hn1,x1,hg1,hnx1⟩:=nb w 13 (aN m ev)
 have w1:=x1.wf w
 have in1:=h.ext w x1
 have hno:¬ O S.next:=fun hO=>by have:=core_lt w h _ hO;omega
 refine e54 ?_
 simp only [m54,bK,ho,hln,aU,hn1,aG]
 refine (g46 in1 ok).call fun S2 x2=>?_
 have w2:=x2.wf w1
 have in2:=in1.ext w1 x2
 refine (g62 in2 ok (n:=c.last) (by unfold Core.last bI;omega) (Int.le_refl _)).call fun S4 x4=>?_
 have w4:=x4.wf w2
 have x04:=(x1.trans x2).trans x4
 have xb:Ext S4 (⟨S4.next+36,S4.heap⟩:St):=(Ext.refl S4).bump 36
 have x05:=x04.trans xb
 have w5:=xb.wf w4
 have in5:=h.ext w x05
 have g4:=x4.old _ _ (x2.old _ _ hg1)
 have g5:(⟨S4.next+36,S4.heap⟩:St).heap.get S.next=some (.row 0 13 [aN m ev]):=g4
 obtain ⟨lv,wv,dv,ov,rows,h4,_⟩:=h.ext w x04
 simp only [aT,dE,vU,fL,eF,lD,aF,Nat.reduceAdd,aG,dY,bA,h4.r_vote,eG g4,qS g4,cH g4,aR,aU,bX,dF]
 have fin:∀ (S6:St) (x6:Ext S S6) (hb6:S6.heap.get S.next=some (.row 0 13 [aN m ev])) (yes:Bool),yes=((decide (c.h.vote=-1)||decide (c.h.vote=m.from'))&&(decide (c.term c.last<m.at')||(decide (m.at'=c.term c.last)&&decide (c.last≤m.index))))→
   Ok (fun k K=>iV (aC prog bC bD k) k K (.ptr a 0 0 0) (.ptr S.next 0 0 0) (.bool yes) S6) (fun u S'=>u=.tup []∧∃ O',CoreIn S' a (c.asked m) O'∧Mv O S O' S'):=fun S6 x6 hb6 yes hy=>by
  have hA:c.asked m=(if yes=true then { c with h:={ c.h with vote:=m.from' },left:=c.drawn } else c:Core).post { Letter.zero with kind:=2,to:=m.from',yes:=yes }:=by
   unfold Core.asked;simp only;rw [←hy]
  rw [hA]
  exact (j54 m ev yes (x6.wf w) (h.ext w x6) hb6 hno hl).mono fun u S' ⟨e,O',i',m'⟩=>⟨e,O',i',(Mv.of x6).trans w m'⟩
 have second:∀ (v:Bool),v=true→(decide (c.h.vote=-1)||decide (c.h.vote=m.from'))=v→Ok (fun k K=>aE (.bool (decide (c.term c.last<m.at'))) (iV (aC prog bC bD k) k K (.ptr a 0 0 0) (.ptr S.next 0 0 0) (.bool true) (⟨S4.next+36,S4.heap⟩:St))
   (aE (.bool (decide (m.at'=c.term c.last))) (aC prog bC bD k 46 [.ptr a 0 0 0] (⟨S4.next+36,S4.heap⟩:St) fun t31 S32=>dR (aL none (.ptr S.next 0 0 4) S32) fun t33=>bY (cG (.int .i64 m.index) t33) (dR (aD prog .geq 3 (.int .i64 m.index) t31) fun t34=>iV (aC prog bC bD k) k K (.ptr a 0 0 0) (.ptr S.next 0 0 0) t34 S32))
    (iV (aC prog bC bD k) k K (.ptr a 0 0 0) (.ptr S.next 0 0 0) (.bool false) (⟨S4.next+36,S4.heap⟩:St)))) (fun u S'=>u=.tup []∧∃ O',CoreIn S' a (c.asked m) O'∧Mv O S O' S'):=fun v hv hvv=>by
  subst hv
  refine Ok.pickP (fun e2=>fin _ x05 g5 true (by rw [hvv,decide_eq_true e2];rfl)) (fun e2=>?_)
  refine Ok.pickP (fun e3=>?_) (fun e3=>fin _ x05 g5 false (by rw [hvv,decide_eq_false e2,decide_eq_false e3];rfl))
  refine (g46 in5 ok).call fun S6 x6=>?_
  have g6:=x6.old _ _ g5
  have v4:aL none (.ptr S.next 0 0 4) S6=.ok (.int .i64 m.index):=cH g6
  simp only [v4,aG,cN,aU,eX]
  exact fin S6 (x05.trans x6) g6 _ (by rw [hvv,decide_eq_false e2,decide_eq_true e3];rfl)
 refine Ok.pickP (fun e=>second true rfl (by rw [decide_eq_true e];rfl)) (fun e=>?_)
 refine Ok.pickP (fun e2=>second true rfl (by rw [decide_eq_true e2];simp)) (fun e2=>fin _ x05 g5 false (by rw [decide_eq_false e,decide_eq_false e2];rfl))
end
end
section
variable [Guard]
theorem aVv {v:Int} {n:Nat} (h0:0≤v) (h1:v≤127) (hn:n<7):wr .i64 ((BitVec.ofInt IntKind.i64.bits v ||| BitVec.ofInt IntKind.i64.bits ((2:Int) ^ n)).toNat)=nQ v (n:Int):=by
 have all:∀ a:Nat,a<128→∀ b:Nat,b<7→((a ||| 2 ^ b:Nat):Int)=nQ (a:Int) (b:Int)∧(a ||| 2 ^ b)<128:=by decide +kernel
 have hp:=sK hn
 have hc:((2 ^ n:Nat):Int)=(2:Int) ^ n:=by push_cast;rfl
 have hv:v=(v.toNat:Int):=by omega
 have e:(BitVec.ofInt IntKind.i64.bits v ||| BitVec.ofInt IntKind.i64.bits ((2:Int) ^ n)).toNat=v.toNat ||| 2 ^ n:=by
  show (BitVec.ofInt 64 v ||| BitVec.ofInt 64 ((2:Int) ^ n)).toNat=_
  rw [BitVec.toNat_or,BitVec.toNat_ofInt,BitVec.toNat_ofInt]
  congr 1<;>omega
 obtain ⟨a1,a2⟩:=all v.toNat (by omega) n hn
 rw [e,cR (by omega) (by omega),a1,←hv]
section
variable {S:St} {a:Nat} {c:Core} {O:Nat→Prop}
theorem g55 (m:Letter) (ev:V) (w:WF S) (h:CoreIn S a c O) (I:Inv c) (ok:Lok m) (he:Sl S 3 ev (m.entries.map bR)) (hl:c.out.length≤999990):Meth 55 [.ptr a 0 0 0,.agg (aN m ev)] a (c.voted m) S O (.tup []):=by
 have ho:=cM m he.one
 have hln:(aN m ev).length=13:=rfl
 have f0:=ok.f0
 have f1:=ok.f1
 obtain ⟨n,hn⟩:∃ n:Nat,m.from'=(n:Int):=⟨m.from'.toNat,by omega⟩
 have hn7:n<7:=by omega
 obtain ⟨S1,hn1,x1,hg1,hnx1⟩:=nb w 13 (aN m ev)
 have w1:=x1.wf w
 have in1:=h.ext w x1
 have hin1:=in1
 obtain ⟨lv,wv,dv,ov,rows,h1,hO⟩:=in1
 have xb:Ext S1 (⟨S1.next+12,S1.heap⟩:St):=(Ext.refl S1).bump 12
 have wb:=xb.wf w1
 obtain ⟨S2,q2,h2,m2,n2⟩:=(h1.ext w1 xb).w_votes wb (nQ c.votes m.from')
 rw [←hO] at m2
 have w2:=m2.wf wb
 have hor:aD prog .or 3 (.int .i64 c.votes) (.int .i64 ((2:Int) ^ n))=.ok (.int .i64 (nQ c.votes m.from')):=by
  rw [hn];simp only [aD,bW,cond_true,eA,aVv I.v0 I.v1 hn7]
 have xb2:Ext S2 (⟨S2.next+7,S2.heap⟩:St):=(Ext.refl S2).bump 7
 have hvr:=sL I.v0 I.v1 f0 (by omega:m.from'<7)
 refine e55 ?_
 simp only [m55,bK,ho,hln,aU,hn1,aG,aT,gM,aP8,yC,fL,aF,Nat.reduceAdd,dY,ld4,bA,h1.r_role,aHe hg1,aR,dG,fE,h1.r_votes,eG hg1,hn,aEw,wru n hn7,yG hn7,hor]
 rw [←hn]
 simp only [st3,q2,aG,bA,h2.r_votes]
 have hvo:c.voted m=if c.role≠2∨m.yes=false then c else if iJ ({ c with votes:=nQ c.votes m.from' }:Core).members (nQ c.votes m.from')=true then ({ c with votes:=nQ c.votes m.from' }:Core).lead else { c with votes:=nQ c.votes m.from' }:=rfl
 rw [hvo]
 refine Ok.pickN (fun e=>Ok.ret ⟨rfl,O,by rw [if_pos (.inl e)];exact hin1,Mv.of x1⟩) (fun e=>?_)
 refine Ok.pick (fun e2=>Ok.ret ⟨rfl,O,by rw [if_pos (.inr (by simpa using e2))];exact hin1,Mv.of x1⟩) (fun e2=>?_)
 rw [if_neg (fun q=>by
  rcases q with q | q
  ·exact q e
  ·rw [q] at e2;cases e2)]
 have mv2:=(Mv.of (O:=O) (x1.trans xb)).trans w m2
 have in2:CoreIn S2 a { c with votes:=nQ c.votes m.from' } O:=⟨_,_,_,_,_,h2,hO⟩
 refine (g47 (xb2.wf w2) (in2.ext w2 xb2) I.h).call fun S3 x3=>?_
 have x23:=xb2.trans x3
 have w3:=x23.wf w2
 have h3:=h2.ext w2 x23
 simp only [h3.r_votes,aG,cN,aU]
 refine (g84 _ _ S3 w3 hvr.1 hvr.2).call fun S4 x4=>?_
 have w4:=x4.wf w3
 have in4:=in2.ext w2 (x23.trans x4)
 have mv4:=mv2.trans w (Mv.of (x23.trans x4))
 refine Ok.pick (fun e3=>?_) (fun e3=>?_)
 ·rw [if_pos e3]
  exact Meth.call (g85 w4 in4 I.h I.i0 I.i1 (by show 1≤c.h.term;exact I.tm (by rw [e];decide)) I.s0 I.s1 hl) w4 fun S5 O5 w5 in5 m5=>Ok.ret ⟨rfl,O5,in5,mv4.trans w m5⟩
 ·rw [if_neg (fun q=>by rw [q] at e3;cases e3)]
  exact Ok.ret ⟨rfl,O,in4,mv4⟩
theorem aPm {x:Int} {i n:Nat} (i0:0≤x) (i1:x≤1099511627776) (hi:i<n) (hn:n≤8):wr .i64 ((i:Int)+1)=((i+1:Nat):Int)∧wr .i64 (x+1)=x+1∧wr .i64 (x+1+i)=x+1+i:=
 ⟨by rw [cR (by omega) (by omega)];omega,cR (by omega) (by omega),cR (by omega) (by omega)⟩
def iK (c:Core) (n:Int) (x:Entry):Bool⊕Int:=if c.h.base≤n∧n≤c.sure∧c.term n≠x.term then .inl true else .inr (n+1)
theorem aHk (c:Core):∀ (l:List Entry) (n:Int),fW (iK c) (fun _=>false) l n=fX c l n
 | [],n=>rfl
 | x::l,n=>by
  simp only [fW,iK,fX]
  by_cases h:c.h.base≤n∧n≤c.sure∧c.term n≠x.term
  ·rw [if_pos h,if_pos h]
  ·rw [if_neg h,if_neg h];exact aHk c l _
theorem g88 (m:Letter) (ev:V) (w:WF S) (h:CoreIn S a c O) (I:Inv c) (ok:Lok m) (hk:m.kind=3) (he:Sl S 3 ev (m.entries.map bR)):xD 88 [.ptr a 0 0 0,.agg (aN m ev)] S (.bool (fX c m.entries (m.index+1))):=by
 have ho:=cM m he.one
 have hln:(aN m ev).length=13:=rfl
 have hr:=eP I.h
 have hb0:=I.h.b0
 have hs1:=I.s1
 have i0:=ok.i0
 have i1:=ok.i1
 have hlen:=(ok.k3 hk).2.1
 obtain ⟨S1,hn1,x1,hg1,hnx1⟩:=nb w 13 (aN m ev)
 have w1:=x1.wf w
 have he1:=he.ext x1
 refine e88 ?_
 simp only [m88,bK,ho,hln,aU,hn1,aG,tX,aF,iC,vY hg1,kD,he.lenI]
 rw [←aHk]
 refine Ok.loopL (F:=fun k K=>aEu (aC prog bC bD k) k K (.ptr a 0 0 0) (.ptr S.next 0 0 0) ev (.int .i64 m.entries.length)) (ρ:=Bool) (α:=Entry) (X:=Bool) m.entries (step:=iK c) (fin:=fun _=>false) (s:=m.index+1)
  (out:=fun k K x S'=>K (.bool x) S')
  (fun i n vs S'=>vs=[.bool false,.int .i64 (i:Int)]∧n=m.index+1+i∧Ext S1 S')
  (fun r x S'=>r=x∧Ext S1 S') ?_ ?_ ⟨rfl,by simp,Ext.refl _⟩ (fun x S' ⟨e,x'⟩=>Ok.ret ⟨by rw [e],x1.trans x'⟩)
 ·rintro i x n vs S2 ⟨rfl,rfl,x2⟩ hi
  have hil:=(List.getElem?_eq_some_iff.1 hi).1
  have hlt:(i:Int)<(m.entries.length:Int):=by omega
  obtain ⟨hw,hw1,hw2⟩:=aPm i0 i1 hil hlen
  have w2:=x2.wf w1
  obtain ⟨p,hp,hld,hst,hxv,hv⟩:=(he1.ext x2).var w2 hi [.int .i64 0,.int .i64 0,.str []] rfl
  generalize S2.var 3 [.int .i64 0,.int .i64 0,.str []] (bR x)=S3 at hst hxv hv
  have x13:=x2.trans hxv
  have w3:=x13.wf w1
  have g3:=x13.old _ _ hg1
  have x03:=x1.trans x13
  have in3:=h.ext w x03
  have hin3:=in3
  obtain ⟨lv,wv,dv,ov,rows,h3,hO⟩:=in3
  have xb:Ext S3 (⟨S3.next+23,S3.heap⟩:St):=(Ext.refl S3).bump 23
  have hnx:m.index+1+((i+1:Nat):Int)=m.index+1+i+1:=by push_cast;omega
  simp only [aEu,bE,bG,aG,hlt,decide_true,bT,aBw,hp,aBy,hld,dM,aMl,hst,eF,aF,dY,cH g3,bQ,hw1,hw2,hw,aT,dE,iX,fF,kB,Nat.reduceAdd,bA,h3.r_base,h3.r_sure,eX,fR]
  have go:∀ (S':St),Ext S1 S'→¬ (c.h.base≤m.index+1+i∧m.index+1+i≤c.sure∧c.term (m.index+1+i)≠x.term)→OkL (fun k K x S'=>K (V.bool x) S') (fun k K aO=>aO [V.bool false,V.int .i64 ((i+1:Nat):Int)] S') (aLe (iK c) (fun i n vs S'=>vs=[V.bool false,V.int .i64 (i:Int)]∧n=m.index+1+i∧Ext S1 S') (fun r x S'=>r=x∧Ext S1 S') i (m.index+1+i) x):=fun S' x' hno=>
   OkL.next ⟨m.index+1+i+1,by unfold iK;rw [if_neg hno],rfl,hnx.symm,x'⟩
  refine OkL.pickP (fun e=>?_) (fun e=>go _ (x13.trans xb) (fun q=>e q.1))
  refine OkL.pickP (fun e2=>?_) (fun e2=>go _ (x13.trans xb) (fun q=>e2 q.2.1))
  have u0:∀ {T:St},Ext S3 T→aL none (.ptr S2.next 0 0 0) T=.ok (.int .i64 x.term):=fun xt=>by rw [hv _ xt];rfl
  simp only [u0 (Ext.refl _),aG]
  refine (g62 (hin3.ext w3 xb) I.h (n:=m.index+1+i) e (Int.le_trans e2 hs1)).callL fun S4 x4=>?_
  have x34:=xb.trans x4
  simp only [u0 x34,aG,cN,aU,aR,dG]
  refine OkL.pickN (fun e3=>OkL.stop true ⟨true,by unfold iK;rw [if_pos ⟨e,e2,e3⟩],rfl,x13.trans x34⟩ (by intros;rfl)) (fun e3=>go _ (x13.trans x34) (fun q=>q.2.2 e3))
 ·rintro n vs S2 ⟨rfl,rfl,x2⟩
  have hlt:¬ (m.entries.length:Int)<(m.entries.length:Int):=by omega
  refine ⟨false,⟨rfl,x2⟩,fun k K aO=>?_⟩
  simp only [aEu,bE,bG,aG,hlt,decide_false,aH]
end
end
section
variable [Guard]
def jM (s:(Hard×Int)×Int) (x:Entry):(Hard×Int)⊕((Hard×Int)×Int):=
 if s.1.1.base<s.2∧(bI s.1.1<s.2∨termH s.1.1 s.2≠x.term) then
  (if 200<s.2 - s.1.1.base then .inl s.1 else .inr (({ s.1.1 with log:=s.1.1.log.take (s.2 - s.1.1.base - 1).toNat++[x] },s.2),s.2+1))
 else .inr ((s.1.1,s.2),s.2+1)
theorem aJu:∀ (l:List Entry) (n:Int) (h:Hard) (to:Int),fW jM (fun s=>s.1) l ((h,to),n)=dS l n h to
 | [],n,h,to=>rfl
 | x::l,n,h,to=>by
  simp only [fW,jM,dS]
  by_cases h1:h.base<n∧(bI h<n∨termH h n≠x.term)
  ·rw [if_pos h1,if_pos h1]
   by_cases h2:200<n - h.base
   ·rw [if_pos h2,if_pos h2]
   ·rw [if_neg h2,if_neg h2];exact aJu l _ _ _
  ·rw [if_neg h1,if_neg h1];exact aJu l _ _ _
structure OnWay (h0 h:Hard) (to n:Int):Prop where
 b:h.base=h0.base
 b0:0≤h.base
 b1:h.base≤1099511627776
 ll:h.log.length≤200
 n0:1≤n
 n1:n - 1≤bI h
 n2:n≤1099511627777
theorem OnWay.push {h0 h:Hard} {to n:Int} (o:OnWay h0 h to n) (hn:n≤1099511627776) (h1:h.base<n) (h2:¬ 200<n - h.base) (x:Entry):OnWay h0 { h with log:=h.log.take (n - h.base - 1).toNat++[x] } n (n+1):=by
 obtain ⟨b,b0,b1,ll,n0,n1,n2⟩:=o
 have hl:(h.log.take (n - h.base - 1).toNat).length=(n - h.base - 1).toNat:=by unfold bI at n1;rw [List.length_take];omega
 refine ⟨b,b0,b1,?_,by omega,?_,by omega⟩
 ·show (h.log.take (n - h.base - 1).toNat++[x]).length≤200
  rw [List.length_append,hl,List.length_singleton];omega
 ·show n+1 - 1≤h.base+((h.log.take (n - h.base - 1).toNat++[x]).length:Nat)
  rw [List.length_append,hl,List.length_singleton];omega
theorem OnWay.next2 {h0 h:Hard} {to n:Int} (o:OnWay h0 h to n) (hn:n≤1099511627776) (h1:n≤h.base∨n≤bI h) (to':Int):OnWay h0 h to' (n+1):=by
 obtain ⟨b,b0,b1,ll,n0,n1,n2⟩:=o
 refine ⟨b,b0,b1,ll,by omega,?_,by omega⟩
 have:h.base≤bI h:=by unfold bI;omega
 omega
theorem OnWay.wr1 {h0 h:Hard} {to n:Int} (o:OnWay h0 h to n):wr .i64 (n - h.base)=n - h.base∧wr .i64 (n - h.base - 1)=n - h.base - 1:=by
 obtain ⟨b,b0,b1,ll,n0,n1,n2⟩:=o
 exact ⟨cR (by omega) (by omega),cR (by omega) (by omega)⟩
theorem OnWay.cut {h0 h:Hard} {to n:Int} (o:OnWay h0 h to n) (h1:h.base<n):0≤n - h.base - 1∧n - h.base - 1≤((h.log.map bR).length:Int):=by
 obtain ⟨b,b0,b1,ll,n0,n1,n2⟩:=o
 unfold bI at n1
 rw [List.length_map]
 omega
theorem aPn (x:Int) (i:Nat):x+1+((i+1:Nat):Int)=x+1+i+1:=by push_cast;omega
theorem aVw {x:Int} {i n:Nat} (hi:i<n) (h:(n:Int)≤1099511627776 - x):x+1+i≤1099511627776:=by omega
section
variable {S:St} {a:Nat} {c:Core} {O:Nat→Prop}
theorem aS5 (f i:Int) (y:Bool):dJ zL pL [(0,.int .i64 4),(2,.int .i64 f),(10,.bool y),(4,.int .i64 i)]=.ok (.agg (aN { Letter.zero with kind:=4,to:=f,yes:=y,index:=i } .nils)):=rfl
theorem j56 (m:Letter) (ev:V) (to:Int) {b:Nat} (w:WF S) (h:CoreIn S a c O) (hb:S.heap.get b=some (.row 0 13 [aN m ev])) (hno:¬ O b) (hl:c.out.length≤999990):
  Ok (fun k K=>vN (aC prog bC bD k) k K (.ptr a 0 0 0) (.ptr b 0 0 0) (.int .i64 to) S) (fun u S'=>u=.tup []∧∃ O',CoreIn S' a (({ c with sure:=max c.sure (min m.commit to) }:Core).post { Letter.zero with kind:=4,to:=m.from',yes:=true,index:=to }) O'∧Mv O S O' S'):=by
 obtain ⟨lv,wv,dv,ov,rows,h,rfl⟩:=h
 have xb:Ext S (⟨S.next+13,S.heap⟩:St):=(Ext.refl S).bump 13
 have wb:=xb.wf w
 obtain ⟨S1,q1,h1,m1,n1⟩:=(h.ext w xb).w_sure wb (max c.sure (min m.commit to))
 have w1:=m1.wf wb
 have mv1:=(Mv.of (O:=own a lv wv dv ov) xb).trans w m1
 have g1:=(jL w hb hno mv1).1
 simp only [vN,aT,iX,aEz,fL,aF,Nat.reduceAdd,aG,dY,bA,h.r_sure,pP hb,pR,uD,st3,q1,eG g1,tW,aS5]
 exact Meth.call (g86 _ .nils w1 ⟨_,_,_,_,_,h1,rfl⟩ (Apart.nil _ _ rfl) (by show c.out.length≤1000000;omega)) w1 fun S2 O2 w2 in2 m2=>Ok.ret ⟨rfl,O2,in2,mv1.trans w m2⟩
end
end
section
variable [Guard]
section
variable {S:St} {a:Nat} {c:Core} {O:Nat→Prop}
structure EnterI (a:Nat) (c:Core) (O:Nat→Prop) (S:St) (b:Nat) (m:Letter) (ev:V) (h:Hard) (S':St) (O':Nat→Prop):Prop where
 wf:WF S'
 core:CoreIn S' a { c with h:=h } O'
 mv:Mv O S O' S'
 box:S'.heap.get b=some (.row 0 13 [aN m ev])
 no:¬ O' b
 ents:Sl S' 3 ev (m.entries.map bR)
 off:∀ y,aP ev=some y→¬ O' y
theorem EnterI.next {b:Nat} {m:Letter} {ev:V} {h h':Hard} {S' S'':St} {O' O'':Nat→Prop} (w:WF S) (e:EnterI a c O S b m ev h S' O') (i:CoreIn S'' a { c with h:=h' } O'') (k:Mv O' S' O'' S''):EnterI a c O S b m ev h' S'' O'':=by
 obtain ⟨b1,b2⟩:=jL e.wf e.box e.no k
 obtain ⟨s1,s2⟩:=aAz e.wf e.ents e.off k
 exact ⟨k.wf e.wf,i,e.mv.trans w k,b1,b2,s1,s2⟩
theorem l56 (m:Letter) (ev:V) {b:Nat} (w:WF S) (E:EnterI a c O S b m ev c.h S O) (b0:0≤c.h.base) (b1:c.h.base≤1099511627776) (ll:c.h.log.length≤200) (i0:0≤m.index) (i1:m.index≤1099511627776) (hlen:m.entries.length≤8) (hli:(m.entries.length:Int)≤1099511627776 - m.index) (hix:m.index≤c.last) (hl:c.out.length≤999990):
  Ok (fun k K=>cS k [.int .i64 m.index,.int .i64 0] S (aA9 (aC prog bC bD k) k K (.ptr a 0 0 0) (.ptr b 0 0 0) ev (.int .i64 m.entries.length))) (fun u S'=>u=.tup []∧∃ O',CoreIn S' a (({ c with h:=(dS m.entries (m.index+1) c.h m.index).1,sure:=max c.sure (min m.commit (dS m.entries (m.index+1) c.h m.index).2) }:Core).post { Letter.zero with kind:=4,to:=m.from',yes:=true,index:=(dS m.entries (m.index+1) c.h m.index).2 }) O'∧Mv O S O' S'):=by
 rw [←aJu]
 refine Ok.loopL (F:=fun k K=>aA9 (aC prog bC bD k) k K (.ptr a 0 0 0) (.ptr b 0 0 0) ev (.int .i64 m.entries.length)) (ρ:=Hard×Int) (α:=Entry) (X:=Hard×Int) m.entries (step:=jM) (fin:=fun s=>s.1) (s:=((c.h,m.index),m.index+1))
  (out:=fun k K r S'=>vN (aC prog bC bD k) k K (.ptr a 0 0 0) (.ptr b 0 0 0) (.int .i64 r.2) S')
  (fun i s vs S'=>vs=[.int .i64 s.1.2,.int .i64 (i:Int)]∧s.2=m.index+1+i∧OnWay c.h s.1.1 s.1.2 s.2∧∃ O',EnterI a c O S b m ev s.1.1 S' O')
  (fun r x S'=>r=x∧∃ O',EnterI a c O S b m ev r.1 S' O') ?_ ?_ ⟨rfl,by simp,⟨rfl,b0,b1,ll,by show 1≤m.index+1;omega,by show m.index+1 - 1≤bI c.h;unfold Core.last at hix;omega,by show m.index+1≤_;omega⟩,O,E⟩ (fun r S' ⟨e,O',E'⟩=>?_)
 ·rintro i x ⟨⟨h,to⟩,n⟩ vs S2 ⟨rfl,hn,ow,O2,E2⟩ hi
  simp only at hn ow E2
  have hil:=(List.getElem?_eq_some_iff.1 hi).1
  have hlt:(i:Int)<(m.entries.length:Int):=Int.ofNat_lt.2 hil
  obtain ⟨hw,hw1,hw2⟩:=aPm i0 i1 hil hlen
  rw [←hn] at hw2
  have hnn:m.index+1+((i+1:Nat):Int)=n+1:=by rw [aPn,←hn]
  have hnle:n≤1099511627776:=by rw [hn];exact aVw hil hli
  have w2:=E2.wf
  obtain ⟨p,hp,hld,hst,hxv,hv⟩:=E2.ents.var w2 hi [.int .i64 0,.int .i64 0,.str []] rfl
  generalize S2.var 3 [.int .i64 0,.int .i64 0,.str []] (bR x)=S3 at hst hxv hv
  have w3:=hxv.wf w2
  have g3:=hxv.old _ _ E2.box
  have in3:=E2.core.ext w2 hxv
  have hin3:=in3
  obtain ⟨lv,wv,dv,ov,rows,h3,hO⟩:=in3
  have xb:Ext S3 (⟨S3.next+21,S3.heap⟩:St):=(Ext.refl S3).bump 21
  obtain ⟨hs1,hs2⟩:=ow.wr1
  have ll':=Nat.le_trans ow.ll (by decide:200≤1000)
  have u0:∀ {T:St},Ext S3 T→aL none (.ptr S2.next 0 0 0) T=.ok (.int .i64 x.term):=fun xt=>by rw [hv _ xt];rfl
  have ua:∀ {T:St},Ext S3 T→aL (some 3) (.ptr S2.next 0 0 0) T=.ok (.agg (bR x)):=fun xt=>by rw [hv _ xt];exact cJ _ _ rfl
  have j2:∀ (S4:St),Ext S3 S4→∀ q:Bool,q=decide (h.base<n∧(bI h<n∨termH h n≠x.term))→OkL (fun k K r S'=>vN (aC prog bC bD k) k K (.ptr a 0 0 0) (.ptr b 0 0 0) (.int .i64 r.2) S')
    (fun k K aO=>vO (aC prog bC bD k) k K aO (.ptr a 0 0 0) (.ptr b 0 0 0) (.int .i64 to) (.ptr S2.next 0 0 0) (.int .i64 n) ev (.int .i64 m.entries.length) (.int .i64 i) (.bool q) S4)
    (aLe jM (fun i s vs S'=>vs=[.int .i64 s.1.2,.int .i64 (i:Int)]∧s.2=m.index+1+i∧OnWay c.h s.1.1 s.1.2 s.2∧∃ O',EnterI a c O S b m ev s.1.1 S' O') (fun (r x:Hard×Int) S'=>r=x∧∃ O',EnterI a c O S b m ev r.1 S' O') i ((h,to),n) x):=fun S4 x4 q hq=>by
   have w4:=x4.wf w3
   have in4:=hin3.ext w3 x4
   have h4:=h3.ext w3 x4
   have E4:=E2.next w in4 (Mv.of (hxv.trans x4))
   by_cases hc:h.base<n∧(bI h<n∨termH h n≠x.term)
   ·rw [hq,decide_eq_true hc]
    simp only [vO,bT,aT,dE,fF,eR,aF,Nat.reduceAdd,aG,dY,h4.r_base,cL,hs1,dF]
    refine OkL.pickP (fun e=>OkL.stop (h,to) ⟨(h,to),by unfold jM;simp only;rw [if_pos hc,if_pos e],rfl,O2,E4⟩ (by intros;rfl)) (fun e=>?_)
    obtain ⟨k0,k1⟩:=ow.cut hc.1
    obtain ⟨u,r1,o1,bu⟩:=aVq (k:=.i64) aMs h4.log k0 k1
    have o1':Mn S4 3 u ((h.log.take (n - h.base - 1).toNat).map bR):=by rw [List.map_take];exact o1
    have hlt':(h.log.take (n - h.base - 1).toNat).length≤1000000:=by rw [List.length_take];exact Nat.le_trans (Nat.min_le_right _ _) (Nat.le_trans ow.ll (by decide))
    obtain ⟨S5,lv',S6,S7,q5,q6,q7,h7,m7⟩:=h4.push2 w4 o1' bu x [.int .i64 0,.int .i64 0,.str []] 22 16 17 (by decide) (by decide) (by decide) hlt'
    rw [←hO] at m7
    simp only [bA,h4.r_log,h4.r_base,aG,cL,hs1,hs2,iC,aBy,ua x4,r1,aP3,q5,tV,q6,aH7,q7,bQ,hw]
    exact OkL.next ⟨(({ h with log:=h.log.take (n - h.base - 1).toNat++[x] },n),n+1),by unfold jM;simp only;rw [if_pos hc,if_neg e],rfl,hnn.symm,ow.push hnle hc.1 e x,_,E4.next w ⟨_,_,_,_,_,h7,rfl⟩ m7⟩
   ·rw [hq,decide_eq_false hc]
    simp only [vO,aH,bQ,hw,aG]
    refine OkL.next ⟨((h,n),n+1),by unfold jM;simp only;rw [if_neg hc],rfl,hnn.symm,ow.next2 hnle ?_ n,O2,E4⟩
    by_cases e1:h.base<n
    ·by_cases e2:bI h<n
     ·exact absurd ⟨e1,.inl e2⟩ hc
     ·exact .inr (Int.not_lt.1 e2)
    ·exact .inl (Int.not_lt.1 e1)
  simp only [aA9,bE,bG,aG,hlt,decide_true,bT,aBw,hp,aBy,hld,dM,aMl,hst,eF,aF,dY,cH g3,bQ,hw1,←hn,hw2,hw,aT,dE,fF,kB,Nat.reduceAdd,bA,h3.r_base,dF]
  refine OkL.pickP (fun e=>?_) (fun e=>j2 _ xb false (decide_eq_false (fun q=>e q.1)).symm)
  refine (aXw (hin3.ext w3 xb) ow.b0 ow.b1 ll').callL fun S5 x5=>?_
  have x35:=xb.trans x5
  have hlast:({ c with h:=h }:Core).last=bI h:=rfl
  simp only [hlast]
  refine OkL.pickP (fun e2=>j2 _ x35 true (decide_eq_true (show h.base<n∧(bI h<n∨termH h n≠x.term) from ⟨e,.inl e2⟩)).symm) (fun e2=>?_)
  simp only [u0 x35,aG]
  refine (aXx (hin3.ext w3 x35) ow.b0 ow.b1 ll' (n:=n) (Int.le_of_lt e) (Int.not_lt.1 e2)).callL fun S6 x6=>?_
  have x36:=x35.trans x6
  have hterm:({ c with h:=h }:Core).term n=termH h n:=rfl
  simp only [u0 x36,aG,cN,aU,aR,dG,hterm]
  refine j2 _ x36 _ ?_
  by_cases e3:termH h n=x.term
  ·rw [decide_eq_true e3,decide_eq_false (fun q=>by
    rcases q.2 with q | q
    ·exact e2 q
    ·exact q e3)];rfl
  ·rw [decide_eq_false e3,decide_eq_true ⟨e,.inr e3⟩];rfl
 ·rintro ⟨⟨h,to⟩,n⟩ vs S2 ⟨rfl,hn,ow,O2,E2⟩
  have hlt:¬ (m.entries.length:Int)<(m.entries.length:Int):=Int.lt_irrefl _
  refine ⟨(h,to),⟨rfl,O2,E2⟩,fun k K aO=>?_⟩
  simp only [aA9,bE,bG,aG,hlt,decide_false,aH]
 ·subst e
  exact (j56 m ev _ E'.wf E'.core E'.box E'.no hl).mono fun u S3 ⟨e,O3,i3,m3⟩=>⟨e,O3,i3,E'.mv.trans w m3⟩
end
end
section
variable [Guard]
theorem iZ {n:Nat} (h:n≤999990):n≤1000000:=Nat.le_trans h (by decide)
section
variable {S:St} {a:Nat} {c:Core} {O:Nat→Prop}
theorem bBd (m:Letter) (ev:V) {b:Nat} (w:WF S) (E:EnterI a c O S b m ev c.h S O) (I:Inv c) (ok:Lok m) (hk:m.kind=3) (hl:c.out.length≤999990) (hix:m.index≤c.last) (q:Bool) (hq:q=decide (c.h.base≤m.index∧c.term m.index≠m.at')):
  Ok (fun k K=>vP (aC prog bC bD k) k K (.ptr a 0 0 0) (.ptr b 0 0 0) (.bool q) S) (fun u S'=>u=.tup []∧∃ O',CoreIn S' a (if c.h.base≤m.index∧c.term m.index≠m.at' then c.post { Letter.zero with kind:=4,to:=m.from',index:=m.index - 1 } else
   ({ c with h:=(dS m.entries (m.index+1) c.h m.index).1,sure:=max c.sure (min m.commit (dS m.entries (m.index+1) c.h m.index).2) }:Core).post { Letter.zero with kind:=4,to:=m.from',yes:=true,index:=(dS m.entries (m.index+1) c.h m.index).2 }) O'∧Mv O S O' S'):=by
 have i0:=ok.i0
 have i1:=ok.i1
 have hw:wr .i64 (m.index - 1)=m.index - 1:=cR (by omega) (by omega)
 have hk3:=ok.k3 hk
 by_cases hc:c.h.base≤m.index∧c.term m.index≠m.at'
 ·rw [hq,decide_eq_true hc,if_pos hc]
  simp only [vP,bT,fL,eF,aF,Nat.reduceAdd,aG,dY,eG E.box,cH E.box,cL,hw,tW,aFc]
  exact Meth.call (g86 _ .nils w E.core (Apart.nil _ _ rfl) (iZ hl)) w fun S2 O2 w2 in2 m2=>Ok.ret ⟨rfl,O2,in2,m2⟩
 ·rw [hq,decide_eq_false hc,if_neg hc]
  simp only [vP,aH,eF,tX,aF,Nat.reduceAdd,aG,dY,iC,cH E.box,vY E.box,kD,E.ents.lenI]
  exact l56 m ev w E I.h.b0 I.h.b1 I.h.ll i0 i1 hk3.2.1 hk3.2.2.1 hix hl
theorem g56 (m:Letter) (ev:V) (w:WF S) (h:CoreIn S a c O) (I:Inv c) (ok:Lok m) (hk:m.kind=3) (he:Apart S O m ev) (hl:c.out.length≤999990):Meth 56 [.ptr a 0 0 0,.agg (aN m ev)] a (c.appended m) S O (.tup []):=by
 have ho:=cM m he.1.one
 have hln:(aN m ev).length=13:=rfl
 obtain ⟨S1,hn1,x1,hg1,hnx1⟩:=nb w 13 (aN m ev)
 have w1:=x1.wf w
 have in1:=h.ext w x1
 have hin1:=in1
 have hno:¬ O S.next:=fun hO=>absurd (core_lt w h _ hO) (Nat.lt_irrefl _)
 obtain ⟨lv,wv,dv,ov,rows,h1,hO⟩:=in1
 have hap:=he.ext x1
 refine e56 ?_
 simp only [m56,bK,ho,hln,aU,hn1,aG,aT,gM,aF,Nat.reduceAdd,dY,aBx,h1.r_role,uC hg1,aR,bX]
 unfold Core.appended
 refine Ok.pickP (fun e=>Ok.ret ⟨rfl,O,by rw [if_pos e];exact hin1,Mv.of x1⟩) (fun e=>?_)
 rw [if_neg e]
 refine (g88 m ev w1 hin1 I ok hk hap.1).call fun S2 x2=>?_
 have w2:=x2.wf w1
 have x02:=x1.trans x2
 have in2:=hin1.ext w1 x2
 have g2:=x2.old _ _ hg1
 refine Ok.pick (fun e2=>Ok.ret ⟨rfl,O,by rw [if_pos e2];exact in2,Mv.of x02⟩) (fun e2=>?_)
 rw [if_neg (fun q=>by rw [q] at e2;cases e2)]
 simp only [fL,aF,Nat.reduceAdd,aG,dY,eG g2]
 refine Meth.call (g89 m.from' w2 in2) w2 fun S3 O3 w3 in3 m3=>?_
 obtain ⟨g3,no3⟩:=jL w2 g2 hno m3
 have ap3:=(he.ext x02).mv w2 m3
 have mv3:=(Mv.of (O:=O) x02).trans w m3
 have I3:=(I.hear ok.f0 ok.f1).1
 generalize hc3:c.hear m.from'=c3 at in3 I3
 have hl3:c3.out.length≤999990:=by rw [←hc3];exact hl
 have xb:Ext S3 (⟨S3.next+5,S3.heap⟩:St):=(Ext.refl S3).bump 5
 simp only [eF,aF,Nat.reduceAdd,aG,dY,bA,cH g3]
 refine (g46 (in3.ext w3 xb) I3.h).call fun S4 x4=>?_
 have x34:=xb.trans x4
 have w4:=x34.wf w3
 have g4:=x34.old _ _ g3
 have in4:=in3.ext w3 x34
 simp only [cH g4,aG,cN,aU,dF]
 refine Ok.pickP (fun e3=>?_) (fun e3=>?_)
 ·rw [if_pos e3]
  have xc:Ext S4 (⟨S4.next+7,S4.heap⟩:St):=(Ext.refl S4).bump 7
  simp only [fL,aF,Nat.reduceAdd,aG,dY,bA,eG g4]
  refine (g46 (in4.ext w4 xc) I3.h).call fun S5 x5=>?_
  have x45:=xc.trans x5
  have w5:=x45.wf w4
  have g5:=x45.old _ _ g4
  simp only [eG g5,aG,cN,aU,tW,aFc]
  exact Meth.call (g86 _ .nils w5 (in4.ext w4 x45) (Apart.nil _ _ rfl) (iZ hl3)) w5 fun S6 O6 w6 in6 m6=>Ok.ret ⟨rfl,O6,in6,(mv3.trans w (Mv.of (x34.trans x45))).trans w m6⟩
 ·rw [if_neg e3]
  have xc:Ext S4 (⟨S4.next+17,S4.heap⟩:St):=(Ext.refl S4).bump 17
  have fin:∀ (S5:St),Ext S4 S5→∀ q:Bool,q=decide (c3.h.base≤m.index∧c3.term m.index≠m.at')→Ok (fun k K=>vP (aC prog bC bD k) k K (.ptr a 0 0 0) (.ptr S.next 0 0 0) (.bool q) S5) (fun u S'=>u=.tup []∧∃ O',CoreIn S' a (if c3.h.base≤m.index∧c3.term m.index≠m.at' then c3.post { Letter.zero with kind:=4,to:=m.from',index:=m.index - 1 } else
   ({ c3 with h:=(dS m.entries (m.index+1) c3.h m.index).1,sure:=max c3.sure (min m.commit (dS m.entries (m.index+1) c3.h m.index).2) }:Core).post { Letter.zero with kind:=4,to:=m.from',yes:=true,index:=(dS m.entries (m.index+1) c3.h m.index).2 }) O'∧Mv O S O' S'):=fun S5 x5 q hq=>by
   have w5:=x5.wf w4
   have x35:=x34.trans x5
   have ap5:=ap3.ext x35
   exact (bBd m ev w5 ⟨w5,in4.ext w4 x5,Mv.refl _ _,x5.old _ _ g4,no3,ap5.1,ap5.2⟩ I3 ok hk hl3 (Int.not_lt.1 e3) q hq).mono fun u S6 ⟨e,O6,i6,m6⟩=>⟨e,O6,i6,(mv3.trans w (Mv.of x35)).trans w m6⟩
  obtain ⟨lv',wv',dv',ov',rows',h4,_⟩:=in4
  simp only [eF,lD,aF,Nat.reduceAdd,aG,dY,bA,cH g4,qS g4,aT,dE,fF,h4.r_base,eX]
  refine Ok.pickP (fun e4=>?_) (fun e4=>fin _ xc false (decide_eq_false (fun q=>e4 q.1)).symm)
  refine (g62 ((in3.ext w3 x34).ext w4 xc) I3.h (n:=m.index) e4 (Int.not_lt.1 e3)).call fun S5 x5=>?_
  have x45:=xc.trans x5
  have g5:=x45.old _ _ g4
  simp only [qS g5,aG,cN,aU,aR,dG]
  refine fin S5 x45 _ ?_
  by_cases e5:c3.term m.index=m.at'
  ·rw [decide_eq_true e5,decide_eq_false (fun q=>q.2 e5)];rfl
  ·rw [decide_eq_false e5,decide_eq_true (show c3.h.base≤m.index∧c3.term m.index≠m.at' from ⟨e4,e5⟩)];rfl
end
end
section
variable [Guard]
theorem nV {c:Core} (h:c.peers.length=7) {n:Nat} (hn:n<7) (p:Peer):({ c with peers:=c.peers.set n p }:Core).peer (n:Int)=p:=by
 show (c.peers.set n p).getD n ⟨0,0,0⟩=p
 rw [List.getD_eq_getElem?_getD,List.getElem?_set_self (by omega)]
 rfl
theorem aPo {a b c d e:Int} (h1:1≤a) (h2:a≤e+1) (h3:0≤b) (h4:b≤e) (h5:0≤c) (h6:e≤1099511627776) (h7:c≤1099511627776) (hd:d=max (min (a - 1) (c+1)) (b+1)):wr .i64 (a - 1)=a - 1∧wr .i64 (c+1)=c+1∧wr .i64 (b+1)=b+1∧1≤d∧d≤e+1:=
 ⟨cR (by omega) (by omega),cR (by omega) (by omega),cR (by omega) (by omega),by omega,by omega⟩
theorem aJv (x y:Int):bO prog 84 [(0,.int .i64 x),(1,.int .i64 y)]=.ok (.agg (jJ ⟨x,y,0⟩)):=by rw [aVg];rfl
section
variable {S:St} {a:Nat} {c:Core} {O:Nat→Prop}
theorem j57 (m:Letter) (ev:V) {b:Nat} (w:WF S) (h:CoreIn S a c O) (hb:S.heap.get b=some (.row 0 13 [aN m ev])) (ok:Hok c.h) (f0:0≤m.from') (f1:m.from'<7) (hp:Pok c (c.peer m.from')) (hl:c.out.length≤999990) (q:Bool):
  Ok (fun k K=>vQ (aC prog bC bD k) k K (.ptr a 0 0 0) (.ptr b 0 0 0) (.bool q) S) (fun u S'=>u=.tup []∧∃ O',CoreIn S' a (if q=true then c.send m.from' else c) O'∧Mv O S O' S'):=by
 cases q with
 | true=>
  simp only [vQ,bT,fL,aF,Nat.reduceAdd,aG,dY,eG hb,if_true]
  exact Meth.call (g83 w h ok (iZ hl) f0 f1 hp) w fun S2 O2 w2 in2 m2=>Ok.ret ⟨rfl,O2,in2,m2⟩
 | false=>
  simp only [vQ,aH]
  exact Ok.ret ⟨rfl,O,h,Mv.refl O S⟩
theorem g57 (m:Letter) (ev:V) (w:WF S) (h:CoreIn S a c O) (I:Inv c) (ok:Lok m) (he:Sl S 3 ev (m.entries.map bR)) (hl:c.out.length≤999990):Meth 57 [.ptr a 0 0 0,.agg (aN m ev)] a (c.acked m) S O (.tup []):=by
 have ho:=cM m he.one
 have hln:(aN m ev).length=13:=rfl
 have f0:=ok.f0
 have f1:=ok.f1
 have i0:=ok.i0
 have i1:=ok.i1
 have hr:=eP I.h
 have f7:m.from'<7:=by omega
 have hw:wr .i64 (m.index+1)=m.index+1:=cR (by omega) (by omega)
 obtain ⟨n,hn⟩:∃ n:Nat,m.from'=(n:Int):=⟨m.from'.toNat,by omega⟩
 have hn7:n<7:=by omega
 have hpe:c.peers.getD n ⟨0,0,0⟩=c.peer m.from':=by rw [hn];rfl
 obtain ⟨S1,hn1,x1,hg1,hnx1⟩:=nb w 13 (aN m ev)
 have w1:=x1.wf w
 have hno:¬ O S.next:=fun hO=>absurd (core_lt w h _ hO) (Nat.lt_irrefl _)
 have xb:Ext S1 (⟨S1.next+12,S1.heap⟩:St):=(Ext.refl S1).bump 12
 have x1b:=x1.trans xb
 have inb:=h.ext w x1b
 have hinb:=inb
 obtain ⟨lv,wv,dv,ov,rows,hb1,hO⟩:=inb
 have hb1':aL none (.ptr a 0 0 8) S1=.ok (.int .i64 c.role):=hb1.r_role
 refine e57 ?_
 simp only [m57,bK,ho,hln,aU,hn1,aG,aT,gM,eF,aF,Nat.reduceAdd,dY,bA,hb1',cH hg1,aR,dG]
 have hA:c.acked m=if c.role≠3∨c.last<m.index then c else
   if m.yes=false then (c.setPeer m.from' { c.peer m.from' with next:=max (min ((c.peer m.from').next - 1) (m.index+1)) ((c.peer m.from').mtch+1) }).send m.from' else
   if m.index≤(c.peer m.from').mtch then c else
    if (c.setPeer m.from' ⟨m.index+1,m.index,0⟩).look.role=3∧((c.setPeer m.from' ⟨m.index+1,m.index,0⟩).look.peer m.from').next≤(c.setPeer m.from' ⟨m.index+1,m.index,0⟩).look.last then (c.setPeer m.from' ⟨m.index+1,m.index,0⟩).look.send m.from' else (c.setPeer m.from' ⟨m.index+1,m.index,0⟩).look:=rfl
 rw [hA]
 refine Ok.pickN (fun e=>Ok.ret ⟨rfl,O,by rw [if_pos (.inl e)];exact hinb,Mv.of x1b⟩) (fun e=>?_)
 refine (g46 hinb I.h).call fun S2 x2=>?_
 have x02:=x1b.trans x2
 have w2:=x02.wf w
 have g2:=x2.old _ _ (xb.old _ _ hg1)
 have in2:=h.ext w x02
 simp only [cH g2,aG,cN,aU,dF]
 refine Ok.pickP (fun e2=>Ok.ret ⟨rfl,O,by rw [if_pos (.inr e2)];exact in2,Mv.of x02⟩) (fun e2=>?_)
 rw [if_neg (fun q=>by
  rcases q with q | q
  ·exact q e
  ·exact e2 q)]
 have hpk:=I.pr e _ (yF I.pl f0 f7)
 have hsp:∀ p:Peer,({ c with peers:=c.peers.set n p }:Core)=c.setPeer m.from' p:=fun p=>by unfold Core.setPeer;rw [hn];rfl
 simp only [fL,yC,eF,pM,aF,Nat.reduceAdd,aG,dY,ld4,bA,eG g2,aHe g2,cH g2,aT,hn,aAy,cZ hn7,fE]
 rw [←hn]
 refine Ok.pick (fun e3=>?_) (fun e3=>?_)
 ·have e3':m.yes=false:=by simpa using e3
  rw [if_pos e3']
  have xc:Ext S2 (⟨S2.next+26,S2.heap⟩:St):=(Ext.refl S2).bump 26
  have wc:=xc.wf w2
  obtain ⟨lv,wv,dv,ov,rows,h2,hO2⟩:=in2
  generalize hd:max (min ((c.peer m.from').next - 1) (m.index+1)) ((c.peer m.from').mtch+1)=d
  obtain ⟨q1,q2,q3,q4,q5⟩:=aPo hpk.n0 hpk.n1 hpk.a0 hpk.a1 i0 hr.2 i1 hd.symm
  obtain ⟨S3,r3,h3,m3,n3⟩:=(h2.ext w2 xc).w_next wc hn7 d
  have e1:=h2.r_next hn7
  have e4:=h2.r_mtch hn7
  rw [hpe] at e1 e4 h3
  rw [hsp] at h3
  rw [←hO2] at m3
  have w3:=m3.wf wc
  have g3:=(jL wc (xc.old _ _ g2) hno m3).1
  simp only [aT,aF3,aAk,eF,fL,aF,Nat.reduceAdd,Nat.add_zero,aG,dY,bA,e1,e4,cH g2,cL,bQ,q1,q2,q3,pR,uD,hd,st3,r3,eG g3]
  have hpp:({ c with peers:=c.peers.set n { c.peer m.from' with next:=d } }:Core).peer m.from'={ c.peer m.from' with next:=d }:=by rw [hn];exact nV I.pl hn7 _
  rw [hsp] at hpp
  refine Meth.call (g83 w3 ⟨_,_,_,_,_,h3,hO2⟩ I.h (iZ hl) f0 f7 ?_) w3 fun S4 O4 w4 in4 m4=>Ok.ret ⟨rfl,O4,in4,((Mv.of (x02.trans xc)).trans w m3).trans w m4⟩
  rw [hpp]
  exact ⟨hpk.a0,hpk.a1,q4,q5,hpk.o0,hpk.o1⟩
 ·rw [if_neg (fun q=>by rw [q] at e3;cases e3)]
  have xc:Ext S2 (⟨S2.next+14,S2.heap⟩:St):=(Ext.refl S2).bump 14
  have wc:=xc.wf w2
  have hin2:=in2
  obtain ⟨lv,wv,dv,ov,rows,h2,hO2⟩:=in2
  have e4:=h2.r_mtch hn7
  rw [hpe] at e4
  simp only [aT,aAk,eF,aF,Nat.reduceAdd,Nat.add_zero,aG,dY,bA,e4,cH g2,fR,bQ,hw,aJv]
  refine Ok.pickP (fun e5=>Ok.ret ⟨rfl,O,by rw [if_pos e5];exact hin2.ext w2 xc,Mv.of (x02.trans xc)⟩) (fun e5=>?_)
  rw [if_neg e5]
  obtain ⟨S3,r3,h3,m3,n3⟩:=(h2.ext w2 xc).w_peer wc hn7 ⟨m.index+1,m.index,0⟩
  rw [hsp] at h3
  rw [←hO2] at m3
  have w3:=m3.wf wc
  have g3:=jL wc (xc.old _ _ g2) hno m3
  have hpp:({ c with peers:=c.peers.set n ⟨m.index+1,m.index,0⟩ }:Core).peer m.from'=⟨m.index+1,m.index,0⟩:=by rw [hn];exact nV I.pl hn7 _
  rw [hsp] at hpp
  simp only [aMm,r3,aG]
  generalize hc3:c.setPeer m.from' ⟨m.index+1,m.index,0⟩=c3 at h3 hpp
  have eh:c3.h=c.h:=by rw [←hc3];rfl
  have el3:c3.last=c.last:=by unfold Core.last;rw [eh]
  have mv3:=(Mv.of (O:=O) (x02.trans xc)).trans w m3
  refine Meth.call (g90 w3 ⟨_,_,_,_,_,h3,hO2⟩ (by rw [eh];exact I.h) (by rw [eh,←hc3];exact I.s0) (by rw [el3,←hc3];exact I.s1)) w3 fun S4 O4 w4 in4 m4=>?_
  obtain ⟨k1,k2,k3,k4,k5⟩:=aD8 c3
  have mv4:=mv3.trans w m4
  have g4:=(jL w3 g3.1 g3.2 m4).1
  generalize hc4:c3.look=c4 at in4 k1 k2 k3 k4 k5
  have hok4:Hok c4.h:=by rw [k1,eh];exact I.h
  have hp4:c4.peer m.from'=⟨m.index+1,m.index,0⟩:=by unfold Core.peer at hpp ⊢;rw [k2];exact hpp
  have hp4':c4.peers.getD n ⟨0,0,0⟩=⟨m.index+1,m.index,0⟩:=by rw [←hp4,hn];rfl
  have el4:c4.last=c.last:=by unfold Core.last;rw [k1,eh]
  have hl4:c4.out.length≤999990:=by rw [k3,←hc3];exact hl
  have xd:Ext S4 (⟨S4.next+14,S4.heap⟩:St):=(Ext.refl S4).bump 14
  have hin4:=in4
  obtain ⟨lv,wv,dv,ov,rows,h4,hO4⟩:=in4
  have e7:=h4.r_next hn7
  rw [hp4'] at e7
  have hb0:=I.h.b0
  have hpk4:Pok c4 (c4.peer m.from'):=by
   rw [hp4];exact ⟨i0,by rw [el4];exact Int.not_lt.1 e2,Int.add_le_add_right i0 1,by rw [el4];show m.index+1≤c.last+1;exact Int.add_le_add_right (Int.not_lt.1 e2) 1,Int.le_refl _,.inr rfl⟩
  have fin:∀ S5,Ext S4 S5→∀ q:Bool,q=decide (c4.role=3∧(c4.peer m.from').next≤c4.last)→Ok (fun k K=>vQ (aC prog bC bD k) k K (.ptr a 0 0 0) (.ptr S.next 0 0 0) (.bool q) S5) (fun u S'=>u=.tup []∧∃ O',CoreIn S' a (if c4.role=3∧(c4.peer m.from').next≤c4.last then c4.send m.from' else c4) O'∧Mv O S O' S'):=fun S5 x5 q hq=>by
   refine (j57 m ev (x5.wf w4) (hin4.ext w4 x5) (x5.old _ _ g4) hok4 f0 f7 hpk4 hl4 q).mono fun u S6 ⟨e,O6,i6,m6⟩=>⟨e,O6,?_,(mv4.trans w (Mv.of x5)).trans w m6⟩
   by_cases hc:c4.role=3∧(c4.peer m.from').next≤c4.last
   ·rw [if_pos hc];rw [hq,decide_eq_true hc,if_pos rfl] at i6;exact i6
   ·rw [if_neg hc];rw [hq,decide_eq_false hc,if_neg (by decide)] at i6;exact i6
  simp only [aT,gM,aF3,aF,Nat.reduceAdd,Nat.add_zero,aG,dY,bA,h4.r_role,aR,aU,bX,e7]
  refine Ok.pickP (fun e6=>?_) (fun e6=>fin _ xd false (decide_eq_false (fun q=>e6 q.1)).symm)
  refine (g46 (hin4.ext w4 xd) hok4).call fun S5 x5=>?_
  have x45:=xd.trans x5
  have e8:=(h4.ext w4 x45).r_next hn7
  rw [hp4'] at e8
  simp only [e8,aG,cN,aU,fR]
  refine fin S5 x45 _ ?_
  rw [hp4]
  by_cases hc:m.index+1≤c4.last
  ·rw [decide_eq_true hc,decide_eq_true (show c4.role=3∧m.index+1≤c4.last from ⟨e6,hc⟩)]
  ·rw [decide_eq_false hc,decide_eq_false (fun q=>hc q.2)]
end
end
section
variable [Guard]
section
variable {S:St} {a:Nat} {c:Core} {O:Nat→Prop}
theorem g59 (m:Letter) (ev:V) (w:WF S) (h:CoreIn S a c O) (I:Inv c) (ok:Lok m) (hk:m.kind=6) (he:Sl S 3 ev (m.entries.map bR)) (hl:c.out.length≤999990):Meth 59 [.ptr a 0 0 0,.agg (aN m ev)] a (c.more m) S O (.tup []):=by
 have ho:=cM m he.one
 have hln:(aN m ev).length=13:=rfl
 have f0:=ok.f0
 have f1:=ok.f1
 have k6:=ok.k6 hk
 have f7:m.from'<7:=by omega
 obtain ⟨n,hn⟩:∃ n:Nat,m.from'=(n:Int):=⟨m.from'.toNat,by omega⟩
 have hn7:n<7:=by omega
 have hpe:c.peers.getD n ⟨0,0,0⟩=c.peer m.from':=by rw [hn];rfl
 obtain ⟨S1,hn1,x1,hg1,hnx1⟩:=nb w 13 (aN m ev)
 have w1:=x1.wf w
 have hno:¬ O S.next:=fun hO=>absurd (core_lt w h _ hO) (Nat.lt_irrefl _)
 have xb:Ext S1 (⟨S1.next+54,S1.heap⟩:St):=(Ext.refl S1).bump 54
 have in1:=h.ext w x1
 have hinb:=in1.ext w1 xb
 obtain ⟨lv,wv,dv,ov,rows,h1,hO⟩:=in1
 have e1:=h1.r_next hn7
 have e2:=h1.r_off hn7
 rw [hpe] at e1 e2
 refine e59 ?_
 simp only [m59,bK,ho,hln,aU,hn1,aG,aT,gM,dE,pM,fF,aAf,aF3,aJf,fL,eF,sI,aF,Nat.reduceAdd,Nat.add_zero,dY,ld9,bA,eG hg1,h1.r_role,h1.r_base,h1.r_snap,cH hg1,uB hg1,hn,aAy,cZ hn7,e1,e2,aHh,aR,dG,dF,eX,bX]
 rw [←hn]
 have hA:c.more m=if c.role≠3∨m.index≠c.h.base∨c.h.base<(c.peer m.from').next∨(c.h.snap.length:Int)≤m.off∨m.off=(c.peer m.from').off then c else (c.setPeer m.from' { c.peer m.from' with off:=m.off }).send m.from':=rfl
 rw [hA]
 have no:(c.role≠3∨m.index≠c.h.base∨c.h.base<(c.peer m.from').next∨(c.h.snap.length:Int)≤m.off∨m.off=(c.peer m.from').off)→∀ S',Ext S1 S'→Ok (fun k K=>K (.tup []) S') (fun u S'=>u=.tup []∧∃ O',CoreIn S' a (if c.role≠3∨m.index≠c.h.base∨c.h.base<(c.peer m.from').next∨(c.h.snap.length:Int)≤m.off∨m.off=(c.peer m.from').off then c else (c.setPeer m.from' { c.peer m.from' with off:=m.off }).send m.from') O'∧Mv O S O' S'):=fun hq S' x=>Ok.ret ⟨rfl,O,by rw [if_pos hq];exact h.ext w (x1.trans x),Mv.of (x1.trans x)⟩
 refine Ok.pickN (fun e=>no (.inl e) _ xb) (fun e=>?_)
 refine Ok.pickN (fun e3=>no (.inr (.inl e3)) _ xb) (fun e3=>?_)
 refine Ok.pickP (fun e4=>no (.inr (.inr (.inl e4))) _ xb) (fun e4=>?_)
 refine Ok.pickP (fun e5=>no (.inr (.inr (.inr (.inl e5)))) _ xb) (fun e5=>?_)
 refine Ok.pickP (fun e6=>no (.inr (.inr (.inr (.inr e6)))) _ xb) (fun e6=>?_)
 rw [if_neg (fun q=>by
  rcases q with q | q | q | q | q
  ·exact q e
  ·exact q e3
  ·exact e4 q
  ·exact e5 q
  ·exact e6 q)]
 have hpk:=I.pr e _ (yF I.pl f0 f7)
 have wb:=xb.wf w1
 obtain ⟨S3,r3,h3,m3,n3⟩:=(h1.ext w1 xb).w_off wb hn7 m.off
 rw [hpe] at h3
 have hsp:∀ p:Peer,({ c with peers:=c.peers.set n p }:Core)=c.setPeer m.from' p:=fun p=>by unfold Core.setPeer;rw [hn];rfl
 rw [hsp] at h3
 rw [←hO] at m3
 have w3:=m3.wf wb
 have g3:=(jL wb (xb.old _ _ hg1) hno m3).1
 simp only [st3,r3,aG,eG g3]
 have hpp:({ c with peers:=c.peers.set n { c.peer m.from' with off:=m.off } }:Core).peer m.from'={ c.peer m.from' with off:=m.off }:=by rw [hn];exact nV I.pl hn7 _
 rw [hsp] at hpp
 refine Meth.call (g83 w3 ⟨_,_,_,_,_,h3,hO⟩ I.h (iZ hl) f0 f7 ?_) w3 fun S4 O4 w4 in4 m4=>Ok.ret ⟨rfl,O4,in4,((Mv.of (x1.trans xb)).trans w m3).trans w m4⟩
 rw [hpp]
 exact ⟨hpk.a0,hpk.a1,hpk.n0,hpk.n1,k6.2.1,.inl (Int.not_le.1 e5)⟩
end
end
end Go.Proofs.Ytbiidlmhadihlaa
end
section
namespace Go.Raft
open Go.AM
section
variable [Guard]
section
variable {S:St} {a:Nat} {c:Core} {lv wv dv ov:V} {rows:List (List V)} (h:CoreAt S a c lv wv dv ov rows)
include h
theorem CoreAt.w_base (w:WF S) (x:Int):∃ S',bH 1 (.ptr a 0 0 3) (.int .i64 x) S=.ok S'∧CoreAt S' a { c with h:={ c.h with base:=x } } lv wv dv ov rows∧Mv (own a lv wv dv ov) S (own a lv wv dv ov) S'∧S'.next=S.next:=h.set w 3 x _ (by decide) rfl rfl rfl rfl h.peers
theorem CoreAt.w_baseTerm (w:WF S) (x:Int):∃ S',bH 1 (.ptr a 0 0 4) (.int .i64 x) S=.ok S'∧CoreAt S' a { c with h:={ c.h with baseTerm:=x } } lv wv dv ov rows∧Mv (own a lv wv dv ov) S (own a lv wv dv ov) S'∧S'.next=S.next:=h.set w 4 x _ (by decide) rfl rfl rfl rfl h.peers
theorem CoreAt.w_mem (w:WF S) (x:Int):∃ S',bH 1 (.ptr a 0 0 5) (.int .i64 x) S=.ok S'∧CoreAt S' a { c with h:={ c.h with members:=x } } lv wv dv ov rows∧Mv (own a lv wv dv ov) S (own a lv wv dv ov) S'∧S'.next=S.next:=h.set w 5 x _ (by decide) rfl rfl rfl rfl h.peers
theorem CoreAt.w_snap (w:WF S) (x:List UInt8):∃ S',bH 1 (.ptr a 0 0 6) (.str x) S=.ok S'∧CoreAt S' a { c with h:={ c.h with snap:=x } } lv wv dv ov rows∧Mv (own a lv wv dv ov) S (own a lv wv dv ov) S'∧S'.next=S.next:=
 h.st w 6 _ _ rfl rfl (by rw [dN c lv wv ov h.peers];omega) rfl rfl rfl rfl h.peers
theorem CoreAt.w_way (w:WF S) {S1:St} (x:Ext S S1) {wv' dv':V} {way':Option Inst} (hway:WayAt S1 way' wv' dv') (hone:wv'.cells=[wv']∧wv'.one=true) (hb:∀ y,aT1 wv'=some y∨aP dv'=some y→S.next≤y):
  ∃ S2,bH 1 (.ptr a 0 0 35) wv' S1=.ok S2∧CoreAt S2 a { c with way:=way' } lv wv' dv' ov rows∧Mv (own a lv wv dv ov) S (own a lv wv' dv' ov) S2∧S2.next=S1.next:=by
 have hl:=dN c lv wv ov h.peers
 have ga:=x.old _ _ h.cell
 have w1:=x.wf w
 have hn:=x.next
 have e:=cX (x:=wv') (j:=35) (m:=1) ga (by rw [hone.1];rfl) (by rw [hone.1];simp [aK,hone.2]) (by omega)
 rw [hone.1,(qM c lv wv ov h.peers wv').2.2.1] at e
 have kk:∀ n,n≠37→KeepW n S (⟨S1.next,S1.heap.put a (.row 0 37 [bP c lv wv' ov])⟩:St):=fun n h2=>
  KeepW.trans (KeepW.ext x) (KeepW.put ga h2 _)
 refine ⟨_,e,⟨Tr.get_put_sameB _ _ _ trivial,h.peers,h.log.keepW hn (kk 3 (by decide)),hway.keepW (Nat.le_refl _) (KeepW.put ga (by decide) _) (KeepW.put ga (by decide) _),h.out.keepW hn (kk 13 (by decide)),All2.imp (fun m cs q=>q.keep (fun y ver el _ g=>kk 3 (by decide) _ _ _ g) (fun y _ h=>h) w) h.lets,h.gd.mono hn⟩,⟨⟨fun y b hy hb'=>?_,hn,fun _=>(But.put (w1 _ _ ga) _).wf w1⟩,fun y hy=>?_⟩,rfl⟩
 ·show (S1.heap.put a _).get y=some b
  rw [Tr.get_put_neB _ _ _ _ trivial (fun e=>hy (.inl e))]
  exact x.old y b hb'
 ·rcases hy with hy | hy | hy | hy | hy
  ·exact .inl (.inl hy)
  ·exact .inl (.inr (.inl hy))
  ·exact .inr (hb y (.inl hy))
  ·exact .inr (hb y (.inr hy))
  ·exact .inl (.inr (.inr (.inr (.inr hy))))
theorem CoreAt.w_data (w:WF S) {i:Inst} (hi:c.way=some i) {S1:St} (w1:WF S1) (hn:S.next≤S1.next) (hk:∀ y b,S.heap.get y=some b→aP dv≠some y→S1.heap.get y=some b) {dv':V} {d':List UInt8} (hd:Mn S1 1 dv' (d'.map tY)) (hb:∀ y,aP dv'=some y→aP dv=some y∨S.next≤y):
  ∃ b S2,wv=.ptr b 0 0 0∧bH 1 (.ptr b 0 0 3) dv' S1=.ok S2∧CoreAt S2 a { c with way:=some { i with data:=d' } } lv wv dv' ov rows∧Mv (own a lv wv dv ov) S (own a lv wv dv' ov) S2∧S2.next=S1.next:=by
 have hw:=h.way
 rw [hi] at hw
 obtain ⟨b,e,g,m⟩:=hw
 have gb:S1.heap.get b=some _:=hk _ _ g (m.neRow g (by decide))
 have e1:=cX (x:=dv') (j:=3) (m:=1) gb (by rw [hd.cells.1];rfl) (by rw [hd.cells.1];simp [aK,hd.cells.2]) (by show 3+1≤4;omega)
 have hsp:splice [V.int .i64 i.index,.int .i64 i.at',.int .i64 i.size,dv] 3 [dv']=[V.int .i64 i.index,.int .i64 i.at',.int .i64 i.size,dv']:=rfl
 rw [hd.cells.1,hsp] at e1
 have kk:∀ n,n≠1→n≠4→KeepW n S (⟨S1.next,S1.heap.put b (.row 0 4 [[V.int .i64 i.index,.int .i64 i.at',.int .i64 i.size,dv']])⟩:St):=fun n h1 h2=>
  KeepW.trans (fun y ver el g=>hk _ _ g (m.neRow g (Ne.symm h1))) (KeepW.put gb h2 _)
 refine ⟨b,_,e,e1,⟨kk 37 (by decide) (by decide) _ _ _ h.cell,h.peers,h.log.keepW hn (kk 3 (by decide) (by decide)),⟨b,e,Tr.get_put_sameB _ _ _ trivial,hd.keepW (Nat.le_refl _) (KeepW.put gb (by decide) _)⟩,h.out.keepW hn (kk 13 (by decide) (by decide)),All2.imp (fun m cs q=>q.keep (fun y ver el _ g=>kk 3 (by decide) (by decide) _ _ _ g) (fun y _ h=>h) w) h.lets,h.gd.mono hn⟩,⟨⟨fun y bb hy hb'=>?_,hn,fun _=>(But.put (w1 _ _ gb) _).wf w1⟩,fun y hy=>?_⟩,rfl⟩
 ·show (S1.heap.put b _).get y=some bb
  rw [Tr.get_put_neB _ _ _ _ trivial (fun e2=>hy (.inr (.inr (.inl (by rw [e,e2];rfl)))))]
  exact hk y bb hb' (fun e2=>hy (.inr (.inr (.inr (.inl e2)))))
 ·rcases hy with hy | hy | hy | hy | hy
  ·exact .inl (.inl hy)
  ·exact .inl (.inr (.inl hy))
  ·exact .inl (.inr (.inr (.inl hy)))
  ·rcases hb y hy with h1 | h1
   ·exact .inl (.inr (.inr (.inr (.inl h1))))
   ·exact .inr h1
  ·exact .inl (.inr (.inr (.inr (.inr hy))))
end
end
end Go.Raft
end
section
namespace Go.AM
open Go.Raft
section
variable [Guard]
def aS6 (P:Program) (t:TypeId):Bool:=match P.underlying t with
 | some (.slice e)=>(match P.underlying e with
  | some (.int .u8)=>true
  | _=>false)
 | _=>false
theorem nW:∀ d:List UInt8,eJ (d.map tY)=some d
 | []=>rfl
 | b::d=>by
  have ih:=nW d
  simp only [List.map_cons,tY,eJ] at ih ⊢
  simp [ih,UInt8.ofNat_toNat]
theorem aD9 {P:Program} {t u:TypeId} (ht:aS6 P t=true) (hu:rE P u=true) {S:St} {v:V} {d:List UInt8} (h:Sl S 1 v (d.map tY)) (fr:Option Nat):bU P t u v fr S=.ok (.str d,S):=by
 unfold aS6 at ht
 unfold rE at hu
 unfold bU
 split at ht
 ·rename_i e he
  split at ht
  ·rename_i he2
   split at hu
   ·rename_i hu2
    simp only [he,hu2,he2]
    rcases h.is with ⟨rfl,e0⟩ | rfl | ⟨a,ver,off,elems,rfl,h2,h3,h4⟩
    ·have e1:=h.elems
     simp only [e1,nW]
    ·have e1:=h.elems
     simp only [e1,nW]
    ·have e1:=h.elems
     simp only [e1,nW]
   ·cases hu
  ·cases ht
 ·cases ht
theorem Mn.pushAtL {S:St} {n b:Nat} {v u:V} {es cs:List (List V)} (h:Mn S n v es) (w:WF S) (hu:bZ S u=.ok cs) (hc:∀ c,c∈cs→c.length=n∧aK c=true) (hne:cs≠[]) {k:Nat} (hk2:k<S.next) (hk3:S.heap.get k=none)
  (h1:(es.length+cs.length)*b≤35184372088832) (h2:es.length+cs.length<fO):∃ v' S',fZ n b v u (some k) S=.ok (v',S')∧WF S'∧S'.next=S.next∧Mn S' n v' (es++cs)∧(aP v'=some k∨aP v'=aP v)∧(∀ y,y≠k→aP v≠some y→S'.heap.get y=S.heap.get y):=by
 obtain ⟨v',S',q1,q2,q3,q4,q5,q6⟩:=Own.pushAt (b:=b) h (aFa w) xC hu hc hne (Nat.zero_le k) hk2 hk3 h1 h2
 exact ⟨v',S',q1,q2.wf xC,q3,q4,q5,q6⟩
end
end Go.AM
end
section
namespace Go.Raft
open Go.AM
section
variable [Guard]
structure MvB (N:Nat) (O:Nat→Prop) (S:St) (O':Nat→Prop) (S':St):Prop where
 keep:∀ y b,y<N→¬ O y→S.heap.get y=some b→S'.heap.get y=some b
 next:S.next≤S'.next
 wf:WF S→WF S'
 own:∀ y,O' y→O y∨N≤y
theorem MvB.of {N:Nat} {O O':Nat→Prop} {S S':St} (h:Mv O S O' S') (hN:N≤S.next):MvB N O S O' S':=
 ⟨fun y b _ h1 h2=>h.keep y b h1 h2,h.next,h.wf,fun y hy=>(h.own y hy).imp id (Nat.le_trans hN)⟩
theorem MvB.trans {N:Nat} {O O1 O2:Nat→Prop} {S S1 S2:St} (h:MvB N O S O1 S1) (k:MvB N O1 S1 O2 S2):MvB N O S O2 S2:=by
 refine ⟨fun y b hN hy hb=>k.keep y b hN (fun h1=>?_) (h.keep y b hN hy hb),Nat.le_trans h.next k.next,fun w=>k.wf (h.wf w),fun y hy=>?_⟩
 ·rcases h.own y h1 with h2 | h2
  ·exact hy h2
  ·omega
 ·rcases k.own y hy with h1 | h1
  ·exact h.own y h1
  ·exact .inr h1
theorem MvB.mv {O O':Nat→Prop} {S S':St} (w:WF S) (h:MvB S.next O S O' S'):Mv O S O' S':=
 ⟨⟨fun y b hy hb=>h.keep y b (w y b hb) hy hb,h.next,h.wf⟩,h.own⟩
theorem Mn.mv {S S':St} {O O':Nat→Prop} {n:Nat} {v:V} {es:List (List V)} (h:Mn S n v es) (hv:∀ y,aP v=some y→¬ O y) (k:Mv O S O' S'):Mn S' n v es∧∀ y,aP v=some y→¬ O' y:=by
 refine ⟨Mn.fr h k.next fun y b hy hb=>k.keep y b (hv y hy) hb,fun y hy hO=>?_⟩
 rcases k.own y hO with h1 | h1
 ·exact hv y hy h1
 ·have:=(h.blk hy).1;omega
theorem aJw {m:Letter} {u v:V} (h:aN m u=aN m v):u=v:=by
 simp only [aN,List.cons.injEq,and_true,true_and] at h;exact h
theorem yH {S B:St} {L:Option Nat} (wB:WF B):∀ {out:List Letter} {rows:List (List V)},All2 (LetAt S L) out rows→All2 (LetAt B L) out rows→All2 (fun m cs=>∃ ev,cs=aN m ev∧Sl S 3 ev (m.entries.map bR)∧∀ y,aP ev=some y→L≠some y∧y<B.next) out rows
 | _,_,.nil,.nil=>.nil
 | _,_,.cons ⟨ev,e,h1,h2⟩ t,.cons ⟨ev',e',h1',h2'⟩ t'=>.cons ⟨ev,e,h1,fun y hy=>⟨h2 y hy,by
   have he:ev=ev':=aJw (e.symm.trans e')
   subst he
   exact aHb wB h1' y hy⟩⟩ (yH wB t t')
theorem CoreAt.w_logN {S B:St} {a:Nat} {c c0:Core} {lv wv dv ov:V} {rows:List (List V)} (h:CoreAt S a c lv wv dv ov rows) (w:WF S) (h0:CoreAt B a c0 lv wv dv ov rows) (wB:WF B) (hout:c0.out=c.out)
  {lv':V} {l':List Entry} (hlog:Mn S 3 lv' (l'.map bR)) (hb:∀ y,aP lv'=some y→B.next≤y):
  ∃ S2,bH 1 (.ptr a 0 0 7) lv' S=.ok S2∧CoreAt S2 a { c with h:={ c.h with log:=l' } } lv' wv dv ov rows∧MvB B.next (own a lv wv dv ov) S (own a lv' wv dv ov) S2∧S2.next=S.next:=by
 have hl:=dN c lv wv ov h.peers
 have ga:=h.cell
 have hone:=hlog.cells
 have e:=cX (x:=lv') (j:=7) (m:=1) ga (by rw [hone.1];rfl) (by rw [hone.1];simp [aK,hone.2]) (by omega)
 have hsp:splice (bP c lv wv ov) 7 [lv']=bP { c with h:={ c.h with log:=l' } } lv' wv ov:=rfl
 rw [hone.1,hsp] at e
 have kk:∀ n,n≠37→KeepW n S (⟨S.next,S.heap.put a (.row 0 37 [bP { c with h:={ c.h with log:=l' } } lv' wv ov])⟩:St):=fun n h2=>KeepW.put ga h2 _
 have hl2:=yH wB h.lets (by rw [←hout];exact h0.lets)
 have hlets:All2 (LetAt (⟨S.next,S.heap.put a (.row 0 37 [bP { c with h:={ c.h with log:=l' } } lv' wv ov])⟩:St) (aP lv')) c.out rows:=by
  refine All2.imp (fun m cs q=>?_) hl2
  obtain ⟨ev,e1,s1,s2⟩:=q
  refine ⟨ev,e1,s1.keep (fun y b hy hg=>?_),fun y hy h2=>?_⟩
  ·show (S.heap.put a _).get y=some b
   rw [Tr.get_put_neB _ _ _ _ trivial (fun e2=>?_)]
   ·exact hg
   ·subst e2
    rcases s1.is with ⟨e3,_⟩ | e3 | ⟨a',ver,off,elems,e3,g,_⟩
    ·rw [e3] at hy;cases hy
    ·rw [e3] at hy;cases hy
    ·rw [e3] at hy;cases hy
     have g':=eY g
     rw [h.cell] at g'
     injection g' with g'
     injection g' with _ g'
     exact absurd g' (by decide)
  ·have h3:=hb y h2
   have h4:=(s2 y hy).2
   omega
 refine ⟨_,e,⟨Tr.get_put_sameB _ _ _ trivial,h.peers,hlog.keepW (Nat.le_refl _) (kk 3 (by decide)),h.way.keepW (Nat.le_refl _) (kk 4 (by decide)) (kk 1 (by decide)),h.out.keepW (Nat.le_refl _) (kk 13 (by decide)),hlets,h.gd⟩,⟨fun y b _ hy hb'=>?_,Nat.le_refl _,fun _=>(But.put (h.lt w) _).wf w,fun y hy=>?_⟩,rfl⟩
 ·show (S.heap.put a _).get y=some b
  rw [Tr.get_put_neB _ _ _ _ trivial (fun e=>hy (.inl e))]
  exact hb'
 ·rcases hy with hy | hy | hy | hy | hy
  ·exact .inl (.inl hy)
  ·exact .inr (hb y hy)
  ·exact .inl (.inr (.inr (.inl hy)))
  ·exact .inl (.inr (.inr (.inr (.inl hy))))
  ·exact .inl (.inr (.inr (.inr (.inr hy))))
theorem CoreAt.w_hardN {S B:St} {a:Nat} {c c0:Core} {lv wv dv ov:V} {rows:List (List V)} (h:CoreAt S a c lv wv dv ov rows) (w:WF S) (h0:CoreAt B a c0 lv wv dv ov rows) (wB:WF B) (hout:c0.out=c.out)
  {lv':V} (g':Hard) (hlog:Mn S 3 lv' (g'.log.map bR)) (hb:∀ y,aP lv'=some y→B.next≤y):
  ∃ S2,bH 7 (.ptr a 0 0 1) (.agg (bB g' lv')) S=.ok S2∧CoreAt S2 a { c with h:=g' } lv' wv dv ov rows∧MvB B.next (own a lv wv dv ov) S (own a lv' wv dv ov) S2∧S2.next=S.next:=by
 have hl:=dN c lv wv ov h.peers
 have ga:=h.cell
 have hone:=hlog.cells
 have e:=cX (x:=.agg (bB g' lv')) (j:=1) (m:=7) ga rfl (dW g' hone.2) (by omega)
 rw [bK,aAv] at e
 have kk:∀ n,n≠37→KeepW n S (⟨S.next,S.heap.put a (.row 0 37 [bP { c with h:=g' } lv' wv ov])⟩:St):=fun n h2=>KeepW.put ga h2 _
 have hl2:=yH wB h.lets (by rw [←hout];exact h0.lets)
 have hlets:All2 (LetAt (⟨S.next,S.heap.put a (.row 0 37 [bP { c with h:=g' } lv' wv ov])⟩:St) (aP lv')) c.out rows:=by
  refine All2.imp (fun m cs q=>?_) hl2
  obtain ⟨ev,e1,s1,s2⟩:=q
  refine ⟨ev,e1,s1.keep (fun y b hy hg=>?_),fun y hy h2=>?_⟩
  ·show (S.heap.put a _).get y=some b
   rw [Tr.get_put_neB _ _ _ _ trivial (fun e2=>?_)]
   ·exact hg
   ·subst e2
    rcases s1.is with ⟨e3,_⟩ | e3 | ⟨a',ver,off,elems,e3,g,_⟩
    ·rw [e3] at hy;cases hy
    ·rw [e3] at hy;cases hy
    ·rw [e3] at hy;cases hy
     have g2:=eY g
     rw [h.cell] at g2
     injection g2 with g2
     injection g2 with _ g2
     exact absurd g2 (by decide)
  ·have h3:=hb y h2
   have h4:=(s2 y hy).2
   omega
 refine ⟨_,e,⟨Tr.get_put_sameB _ _ _ trivial,h.peers,hlog.keepW (Nat.le_refl _) (kk 3 (by decide)),h.way.keepW (Nat.le_refl _) (kk 4 (by decide)) (kk 1 (by decide)),h.out.keepW (Nat.le_refl _) (kk 13 (by decide)),hlets,h.gd⟩,⟨fun y b _ hy hb'=>?_,Nat.le_refl _,fun _=>(But.put (h.lt w) _).wf w,fun y hy=>?_⟩,rfl⟩
 ·show (S.heap.put a _).get y=some b
  rw [Tr.get_put_neB _ _ _ _ trivial (fun e=>hy (.inl e))]
  exact hb'
 ·rcases hy with hy | hy | hy | hy | hy
  ·exact .inl (.inl hy)
  ·exact .inr (hb y hy)
  ·exact .inl (.inr (.inr (.inl hy)))
  ·exact .inl (.inr (.inr (.inr (.inl hy))))
  ·exact .inl (.inr (.inr (.inr (.inr hy))))
end
end Go.Raft
end
section
namespace Go.Proofs.Ytbiidlmhadihlaa
open Go.AM Go.Raft Try
section
variable [Guard]
section
variable {S:St} {a:Nat} {c:Core} {O:Nat→Prop}
theorem j91 (m:Letter) (ev:V) (snap:List UInt8) {b:Nat} {B:St} {lv wv dv ov:V} {rows:List (List V)} (wB:WF B) (hB:CoreAt B a c lv wv dv ov rows) (x:Ext B S) (hb:S.heap.get b=some (.row 0 13 [aN m ev])) (hno:¬ own a lv wv dv ov b) {lv6:V} {l6:List Entry} (h6:Mn S 3 lv6 (l6.map bR)) (hb6:∀ y,aP lv6=some y→B.next≤y):
  Ok (fun k K=>aEv (aC prog bC bD k) k K (.ptr a 0 0 0) (.str snap) (.ptr b 0 0 0) lv6 S) (fun u S'=>u=.tup []∧∃ O',CoreIn S' a { c with h:={ c.h with base:=m.index,baseTerm:=m.at',members:=m.members,snap:=snap,log:=l6 },sure:=m.index,way:=none } O'∧Mv (own a lv wv dv ov) B O' S'):=by
 have w:=x.wf wB
 have xb:Ext S (⟨S.next+33,S.heap⟩:St):=(Ext.refl S).bump 33
 have x0:=x.trans xb
 have w0:=xb.wf w
 have h0:=hB.ext wB x0
 have g0:(⟨S.next+33,S.heap⟩:St).heap.get b=some (.row 0 13 [aN m ev]):=hb
 have n60:∀ y,aP lv6=some y→¬ own a lv wv dv ov y:=fun y hy hO=>by
  have h1:=hb6 y hy
  have h2:=aJq wB hB hO
  omega
 have l0:Mn (⟨S.next+33,S.heap⟩:St) 3 lv6 (l6.map bR):=Mn.fr h6 xb.next fun y b _=>xb.old y b
 obtain ⟨S1,q1,h1,m1,_⟩:=h0.w_base w0 m.index
 have w1:=m1.wf w0
 obtain ⟨g1,no1⟩:=jL w0 g0 hno m1
 obtain ⟨l1,n61⟩:=l0.mv n60 m1
 obtain ⟨S2,q2,h2',m2,_⟩:=h1.w_baseTerm w1 m.at'
 have h2:CoreAt S2 a { c with h:={ c.h with base:=m.index,baseTerm:=m.at' } } lv wv dv ov rows:=h2'
 clear h2'
 have w2:=m2.wf w1
 obtain ⟨g2,no2⟩:=jL w1 g1 no1 m2
 obtain ⟨l2,n62⟩:=l1.mv n61 m2
 obtain ⟨S3,q3,h3',m3,_⟩:=h2.w_mem w2 m.members
 have h3:CoreAt S3 a { c with h:={ c.h with base:=m.index,baseTerm:=m.at',members:=m.members } } lv wv dv ov rows:=h3'
 clear h3'
 have w3:=m3.wf w2
 obtain ⟨g3,no3⟩:=jL w2 g2 no2 m3
 obtain ⟨l3,n63⟩:=l2.mv n62 m3
 obtain ⟨S4,q4,h4',m4,_⟩:=h3.w_snap w3 snap
 have h4:CoreAt S4 a { c with h:={ c.h with base:=m.index,baseTerm:=m.at',members:=m.members,snap:=snap } } lv wv dv ov rows:=h4'
 clear h4'
 have w4:=m4.wf w3
 obtain ⟨g4,no4⟩:=jL w3 g3 no3 m4
 obtain ⟨l4,n64⟩:=l3.mv n63 m4
 obtain ⟨S5,q5,h5',m5,_⟩:=h4.w_logN w4 hB wB rfl l4 hb6
 have h5:CoreAt S5 a { c with h:={ c.h with base:=m.index,baseTerm:=m.at',members:=m.members,snap:=snap,log:=l6 } } lv6 wv dv ov rows:=h5'
 clear h5'
 have w5:=m5.wf w4
 have hbB:b≠a:=fun e=>hno (.inl e)
 have g5:S5.heap.get b=some (.row 0 13 [aN m ev]):=by
  have e:=q5
  rw [cX (x:=lv6) (j:=7) (m:=1) h4.cell (by rw [l4.cells.1];rfl) (by rw [l4.cells.1];simp [aK,l4.cells.2]) (by rw [dN _ _ _ _ h4.peers];omega)] at e
  cases e
  show (S4.heap.put a _).get b=_
  rw [Tr.get_put_neB _ _ _ _ trivial hbB];exact g4
 obtain ⟨S6,q6,h6',m6,_⟩:=h5.w_sure w5 m.index
 have h6:CoreAt S6 a { c with h:={ c.h with base:=m.index,baseTerm:=m.at',members:=m.members,snap:=snap,log:=l6 },sure:=m.index } lv6 wv dv ov rows:=h6'
 clear h6'
 have w6:=m6.wf w5
 obtain ⟨S7,q7,h7',m7,_⟩:=h6.w_way w6 (Ext.refl S6) (wv':=.nilp) (dv':=.nils) (way':=none) ⟨rfl,rfl⟩ ⟨rfl,rfl⟩ (fun y hy=>by rcases hy with hy | hy<;>cases hy)
 have h7:CoreAt S7 a { c with h:={ c.h with base:=m.index,baseTerm:=m.at',members:=m.members,snap:=snap,log:=l6 },sure:=m.index,way:=none } lv6 .nilp .nils ov rows:=h7'
 clear h7'
 have b0:=x0.next
 have b1:=Nat.le_trans b0 m1.next
 have b2:=Nat.le_trans b1 m2.next
 have b3:=Nat.le_trans b2 m3.next
 have b4:=Nat.le_trans b3 m4.next
 have b5:=Nat.le_trans b4 m5.next
 have b6:=Nat.le_trans b5 m6.next
 have mv:Mv (own a lv wv dv ov) B (own a lv6 .nilp .nils ov) S7:=MvB.mv wB (((((((MvB.of (Mv.of x0) (Nat.le_refl _)).trans (MvB.of m1 b0)).trans (MvB.of m2 b1)).trans (MvB.of m3 b2)).trans (MvB.of m4 b3)).trans m5).trans ((MvB.of m6 b5).trans (MvB.of m7 b6)))
 simp only [aEv,eF,lD,aF0,aT,dE,iX,aF4,fF,aEx,aEy,aAf,eR,aF,Nat.reduceAdd,aG,dY,bA,cH hb,qS hb,jK hb,st3,st9,aH7,aXp,q1,jK g1,qS g1,cN,aU,q2,jK g2,q3,q4,q5,cH g5,q6,q7]
 exact Ok.ret ⟨rfl,_,⟨_,_,_,_,_,h7,rfl⟩,mv⟩
theorem g91 (m:Letter) (ev:V) (snap:List UInt8) (w:WF S) (h:CoreIn S a c O) (ok:Hok c.h) (hbi:c.h.base≤m.index) (he:Sl S 3 ev (m.entries.map bR)):Meth 91 [.ptr a 0 0 0,.agg (aN m ev),.str snap] a (c.taken m snap) S O (.tup []):=by
 have ho:=cM m he.one
 have hln:(aN m ev).length=13:=rfl
 have hr:=eP ok
 have hb0:=ok.b0
 have hll:=ok.ll
 obtain ⟨S1,hn1,x1,hg1,hnx1⟩:=nb w 13 (aN m ev)
 have w1:=x1.wf w
 have hno:¬ O S.next:=fun hO=>absurd (core_lt w h _ hO) (Nat.lt_irrefl _)
 have xb:Ext S1 (⟨S1.next+14,S1.heap⟩:St):=(Ext.refl S1).bump 14
 have x1b:=x1.trans xb
 have hT:c.taken m snap={ c with h:={ c.h with base:=m.index,baseTerm:=m.at',members:=m.members,snap:=snap,log:=if m.index≤c.last∧c.term m.index=m.at' then c.h.log.drop (m.index - c.h.base).toNat else [] },sure:=m.index,way:=none }:=rfl
 have hin:=h
 obtain ⟨lv,wv,dv,ov,rows,h,rfl⟩:=h
 refine e91 ?_
 simp only [m91,bK,ho,hln,aU,hn1,aG,eF,aF,dY,bA,cH hg1]
 refine (g46 (hin.ext w x1b) ok).call fun S2 x2=>?_
 have x02:=x1b.trans x2
 have w2:=x02.wf w
 have g2:=x2.old _ _ (xb.old _ _ hg1)
 have j1:∀ (S3:St),Ext S2 S3→∀ q:Bool,q=decide (m.index≤c.last∧c.term m.index=m.at')→Ok (fun k K=>aAd (aC prog bC bD k) k K (.ptr a 0 0 0) (.str snap) (.ptr S.next 0 0 0) (.bool q) S3) (fun u S'=>u=.tup []∧∃ O',CoreIn S' a (c.taken m snap) O'∧Mv (own a lv wv dv ov) S O' S'):=fun S3 x3 q hq=>by
  have w3:=x3.wf w2
  have x03:=x02.trans x3
  have g3:=x3.old _ _ g2
  have h3:=h.ext w x03
  rw [hT]
  by_cases hc:m.index≤c.last∧c.term m.index=m.at'
  ·rw [hq,decide_eq_true hc,if_pos hc]
   have hw:wr .i64 (m.index - c.h.base)=m.index - c.h.base:=cR (by omega) (by omega)
   have hlast:c.last=c.h.base+c.h.log.length:=rfl
   obtain ⟨u,r1,s1,_⟩:=sN aMs h3.log.sl (kR .i64 (l:=m.index - c.h.base) (by omega) (by rw [List.length_map];omega)) (by rw [List.length_map];omega) (Nat.le_refl _)
   rw [List.take_length,←List.map_drop] at s1
   have xc:Ext S3 (⟨S3.next+17,S3.heap⟩:St):=(Ext.refl S3).bump 17
   have hfree:(⟨S3.next+17,S3.heap⟩:St).heap.get (S3.next+15)=none:=iY w3 17 (S3.next+15) (by omega)
   have hdl:(c.h.log.drop (m.index - c.h.base).toNat).length≤200:=by rw [List.length_drop];omega
   obtain ⟨lv6,S4,r2,x4,o4,_⟩:=(s1.ext xc).copyAt2 (b:=32) xc (k:=S3.next+15) (by omega) (by show S3.next+15<S3.next+17;omega) hfree (by rw [List.length_map];omega) (by rw [List.length_map];unfold fO;omega)
   have x34:=xc.trans x4
   simp only [aAd,bT,aT,dE,eR,fF,eF,aF,Nat.reduceAdd,aG,iC,dY,bA,h3.r_log,h3.r_base,cH g3,cL,hw,r1,tV,r2]
   exact j91 m ev snap w h (x03.trans x34) (x34.old _ _ g3) hno (o4.weaken (Nat.zero_le _)) (fun y hy=>Nat.le_trans x03.next (nN o4 hy).1)
  ·rw [hq,decide_eq_false hc,if_neg hc]
   simp only [aAd,aH]
   exact j91 m ev snap w h x03 g3 hno (Own.nil _ _ _) (fun y hy=>by cases hy)
 simp only [cH g2,qS g2,lD,eF,aF,dY,aG,cN,aU,fR]
 refine Ok.pickP (fun e=>?_) (fun e=>j1 S2 (Ext.refl _) false (decide_eq_false (fun q=>e q.1)).symm)
 refine (g62 (hin.ext w x02) ok (n:=m.index) hbi e).call fun S3 x3=>?_
 have g3:=x3.old _ _ g2
 simp only [qS g3,aG,cN,aU,aR,bX]
 refine j1 S3 x3 _ ?_
 by_cases hc:c.term m.index=m.at'
 ·rw [decide_eq_true hc,decide_eq_true (show m.index≤c.last∧c.term m.index=m.at' from ⟨e,hc⟩)]
 ·rw [decide_eq_false hc,decide_eq_false (fun q=>hc q.2)]
end
end
section
variable [Guard]
structure LetIn (S:St) (O:Nat→Prop) (b:Nat) (m:Letter) (ev:V):Prop where
 box:S.heap.get b=some (.row 0 13 [aN m ev])
 no:¬ O b
 ents:Sl S 3 ev (m.entries.map bR)
 off:∀ y,aP ev=some y→¬ O y
theorem LetIn.mv {S S':St} {O O':Nat→Prop} {b:Nat} {m:Letter} {ev:V} (w:WF S) (h:LetIn S O b m ev) (k:Mv O S O' S'):LetIn S' O' b m ev:=by
 obtain ⟨b1,b2⟩:=jL w h.box h.no k
 obtain ⟨s1,s2⟩:=aAz w h.ents h.off k
 exact ⟨b1,b2,s1,s2⟩
theorem LetIn.ext {S S':St} {O:Nat→Prop} {b:Nat} {m:Letter} {ev:V} (h:LetIn S O b m ev) (x:Ext S S'):LetIn S' O b m ev:=⟨x.old _ _ h.box,h.no,h.ents.ext x,h.off⟩
theorem by9:aS6 prog 74=true:=by kernel_rfl
theorem aVx (a b c d:Nat):aD prog .eql 86 (.ptr a b c d) .nilp=.ok (.bool false):=by
 have h:(fun a b c d=>aD prog .eql 86 (.ptr a b c d) .nilp)=fun _ _ _ _=>.ok (.bool false):=by kernel_rfl
 exact congrFun (congrFun (congrFun (congrFun h a) b) c) d
theorem aVy:aD prog .eql 86 .nilp .nilp=.ok (.bool true):=by kernel_rfl
theorem aVz (a b c d:Nat):aJ prog 86 (.ptr a b c d) .nilp=true:=by
 have h:(fun a b c d=>aJ prog 86 (.ptr a b c d) .nilp)=fun _ _ _ _=>true:=by kernel_rfl
 exact congrFun (congrFun (congrFun (congrFun h a) b) c) d
theorem aW0:aJ prog 86 .nilp .nilp=true:=by kernel_rfl
theorem aMt (x y z:Int):bO prog 102 [(0,.int .i64 x),(1,.int .i64 y),(2,.int .i64 z)]=.ok (.agg [.int .i64 x,.int .i64 y,.int .i64 z,.nils]):=by rw [aXf];rfl
section
variable {S:St} {a b:Nat} {c:Core} {lv wv dv ov:V} {rows:List (List V)}
theorem aJx {i:Inst} (h:CoreAt S a c lv wv dv ov rows) (hi:c.way=some i):∃ p,wv=.ptr p 0 0 0∧aL none (.ptr p 0 0 0) S=.ok (.int .i64 i.index)∧aL none (.ptr p 0 0 1) S=.ok (.int .i64 i.at')∧aL none (.ptr p 0 0 2) S=.ok (.int .i64 i.size)∧aL none (.ptr p 0 0 3) S=.ok dv∧Mn S 1 dv (i.data.map tY):=by
 have hw:=h.way
 rw [hi] at hw
 obtain ⟨p,e,g,m⟩:=hw
 refine ⟨p,e,?_,?_,?_,?_,m⟩<;>(rw [aY _ _ _ _ _ (aX g)];rfl)
theorem aXz (m:Letter) (ev:V) {i:Inst} (w:WF S) (h:CoreAt S a c lv wv dv ov rows) (hi:c.way=some i) (hsz:i.data.length≤1000000) (L:LetIn S (own a lv wv dv ov) b m ev) (ok:Hok c.h) (hbi:c.h.base≤m.index) (hl:c.out.length≤999990):
  Ok (fun k K=>aEo (aC prog bC bD k) k K (.ptr a 0 0 0) (.ptr b 0 0 0) wv S) (fun u S'=>u=.tup []∧∃ O',CoreIn S' a (if (i.data.length:Int)<i.size then c.post { Letter.zero with kind:=6,to:=m.from',index:=m.index,off:=i.data.length } else (c.taken m i.data).post { Letter.zero with kind:=4,to:=m.from',yes:=true,index:=m.index }) O'∧Mv (own a lv wv dv ov) S O' S'):=by
 obtain ⟨p,rfl,v0,v1,v2,v3,md⟩:=aJx h hi
 have hin:CoreIn S a c (own a lv (.ptr p 0 0 0) dv ov):=⟨_,_,_,_,_,h,rfl⟩
 have hcv:=fun (fr:Option Nat) (n:Nat)=>aD9 (P:=prog) (S:=(⟨n,S.heap⟩:St)) by9 aRz (v:=dv) (d:=i.data) (Sl.keep md.sl fun y c _ hc=>hc) fr
 simp only [aEo,aT,aL9,aL8,fL,eF,aF,Nat.reduceAdd,aG,aXm,dY,aBx,bA,v2,v3,aT0,md.sl.lenI,bG,eG L.box,cH L.box,uC L.box,tW,aS4,hcv]
 refine Ok.pickP (fun e=>?_) (fun e=>?_)
 ·rw [if_pos e]
  have xb:Ext S (⟨S.next+22,S.heap⟩:St):=(Ext.refl S).bump 22
  exact Meth.call (g86 _ .nils (xb.wf w) (hin.ext w xb) (Apart.nil _ _ rfl) (iZ hl)) (xb.wf w) fun S1 O1 w1 in1 m1=>Ok.ret ⟨rfl,O1,in1,(Mv.of xb).trans w m1⟩
 ·rw [if_neg e]
  have xb:Ext S (⟨S.next+18,S.heap⟩:St):=(Ext.refl S).bump 18
  have Lb:=L.ext xb
  refine Meth.call (g91 m ev i.data (xb.wf w) (hin.ext w xb) ok hbi Lb.ents) (xb.wf w) fun S1 O1 w1 in1 m1=>?_
  have L1:=Lb.mv (xb.wf w) m1
  simp only [eG L1.box,cH L1.box,aG,aLi]
  exact Meth.call (g86 _ .nils w1 in1 (Apart.nil _ _ rfl) (iZ hl)) w1 fun S2 O2 w2 in2 m2=>Ok.ret ⟨rfl,O2,in2,((Mv.of xb).trans w m1).trans w m2⟩
theorem bBe (m : Letter) (ev : V) (w : WF S) (h : CoreAt S a c lv wv dv ov rows) (hw1 : ∀ i, c.way = some i → i.data.length ≤ 100000) (hd1 : 1 ≤ m.data.length) (hd2 : m.data.length ≤ 600) (L : LetIn S (own a lv wv dv ov) b m ev) (ok : Hok c.h) (hbi : c.h.base ≤ m.index) (hl : c.out.length ≤ 999990) (q : Bool) (hq : q = match c.way with
      | none => true
      | some i => decide (i.index ≠ m.index ∨ i.at' ≠ m.at' ∨ i.size ≠ m.size)) :
    Ok (fun k K => nJ (aC prog bC bD k) k K (.ptr a 0 0 0) (.ptr b 0 0 0) wv (.bool q) S) (fun u S' => u = .tup [] ∧ ∃ O', CoreIn S' a (match c.way with
      | none => c.post { Letter.zero with kind := 6, to := m.from', index := m.index }
      | some w => if w.index ≠ m.index ∨ w.at' ≠ m.at' ∨ w.size ≠ m.size then c.post { Letter.zero with kind := 6, to := m.from', index := m.index } else
        let w1 := if m.off = w.data.length then { w with data := w.data ++ m.data } else w
        let c3 := { c with way := some w1 }
        if (w1.data.length : Int) < w1.size then c3.post { Letter.zero with kind := 6, to := m.from', index := m.index, off := w1.data.length } else
          (c3.taken m w1.data).post { Letter.zero with kind := 4, to := m.from', yes := true, index := m.index }) O' ∧ Mv (own a lv wv dv ov) S O' S') := by
  have hin : CoreIn S a c (own a lv wv dv ov) := ⟨_, _, _, _, _, h, rfl⟩
  have no : q = true → Ok (fun k K => nJ (aC prog bC bD k) k K (.ptr a 0 0 0) (.ptr b 0 0 0) wv (.bool q) S) (fun u S' => u = .tup [] ∧ ∃ O', CoreIn S' a (c.post { Letter.zero with kind := 6, to := m.from', index := m.index }) O' ∧ Mv (own a lv wv dv ov) S O' S') := fun e => by
    rw [e]
    simp only [nJ, bT, fL, eF, aF, Nat.reduceAdd, aG, dY, eG L.box, cH L.box, tW, aFc]
    exact Meth.call (g86 _ .nils w hin (Apart.nil _ _ rfl) (iZ hl)) w fun S1 O1 w1 in1 m1 => Ok.ret ⟨rfl, O1, in1, m1⟩
  cases hi : c.way with
  | none => rw [hi] at hq; exact no hq
  | some i =>
    rw [hi] at hq
    simp only at hq ⊢
    by_cases hc : i.index ≠ m.index ∨ i.at' ≠ m.at' ∨ i.size ≠ m.size
    · rw [if_pos hc]; exact no (by rw [hq, decide_eq_true hc])
    · rw [if_neg hc, hq, decide_eq_false hc]
      have hsz := hw1 i hi
      have hw := aJx h hi
      obtain ⟨p, rfl, v0, v1, v2, v3, md⟩ := hw
      simp only [nJ, aH, aT, sI, yD, aL9, aF, Nat.reduceAdd, aG, dY, aXm, ld9, bA, uB L.box, aAu L.box, v3, aT0, md.sl.lenI, aR, aU, bX]
      refine Ok.pickP (fun e => ?_) (fun e => ?_)
      · rw [if_pos e]
        have xb : Ext S (⟨S.next + 19, S.heap⟩ : St) := (Ext.refl S).bump 19
        have wb := xb.wf w
        have hfree : (⟨S.next + 19, S.heap⟩ : St).heap.get (S.next + 15) = none := iY w 19 (S.next + 15) (by omega)
        have mdb : Mn (⟨S.next + 19, S.heap⟩ : St) 1 dv (i.data.map tY) := md.keepW xb.next (KeepW.ext xb)
        obtain ⟨dv', S1, r1, w1, n1, o1, b1, k1⟩ := Mn.pushAtL (b := 1) mdb wb (u := .str m.data) (cs := m.data.map tY) rfl (fun c hc => by obtain ⟨x, _, rfl⟩ := List.mem_map.1 hc; exact ⟨rfl, rfl⟩) (fun q => by
          have h9 := congrArg List.length q
          rw [List.length_map] at h9
          rw [h9] at hd1
          exact absurd hd1 (by decide)) (k := S.next + 15) (by show S.next + 15 < S.next + 19; omega) hfree (by rw [List.length_map, List.length_map]; omega) (by rw [List.length_map, List.length_map]; unfold fO; omega)
        rw [← List.map_append] at o1
        obtain ⟨p', S2, e2, r2, h2, m2, n2⟩ := h.w_data w hi w1 (by rw [n1]; exact xb.next) (fun y bb hy hb => by
          rw [k1 y (fun e => by subst e; have := w _ _ hy; omega) hb]; exact hy) o1 (fun y hy => by
          rcases b1 with b1 | b1
          · rw [b1] at hy; cases hy; exact .inr (Nat.le_add_right _ _)
          · rw [b1] at hy; exact .inl hy)
        cases e2
        have w2 := m2.wf w
        simp only [Nat.add_assoc, Nat.reduceAdd, aXe, r1, aG, bAr, r2]
        exact (aXz m ev (i := { i with data := i.data ++ m.data }) w2 h2 rfl (by show (i.data ++ m.data).length ≤ 1000000; rw [List.length_append]; omega) (L.mv w m2) ok hbi hl).mono fun u S3 ⟨e3, O3, i3, m3⟩ => ⟨e3, O3, i3, m2.trans w m3⟩
      · rw [if_neg e]
        have xb : Ext S (⟨S.next + 8, S.heap⟩ : St) := (Ext.refl S).bump 8
        have hcc : ({ c with way := some i } : Core) = c := by rw [← hi]
        rw [hcc]
        exact (aXz m ev (xb.wf w) (h.ext w xb) hi (Nat.le_trans hsz (by decide)) (L.ext xb) ok hbi hl).mono fun u S3 ⟨e3, O3, i3, m3⟩ => ⟨e3, O3, i3, (Mv.of xb).trans w m3⟩
end
end
section
variable [Guard]
def aJy (c : Core) (m : Letter) : Core := match c.way with
      | none => c.post { Letter.zero with kind := 6, to := m.from', index := m.index }
      | some w => if w.index ≠ m.index ∨ w.at' ≠ m.at' ∨ w.size ≠ m.size then c.post { Letter.zero with kind := 6, to := m.from', index := m.index } else
        let w1 := if m.off = w.data.length then { w with data := w.data ++ m.data } else w
        let c3 := { c with way := some w1 }
        if (w1.data.length : Int) < w1.size then c3.post { Letter.zero with kind := 6, to := m.from', index := m.index, off := w1.data.length } else
          (c3.taken m w1.data).post { Letter.zero with kind := 4, to := m.from', yes := true, index := m.index }
section
variable {S:St} {a b:Nat} {c:Core} {O:Nat→Prop}
theorem aY0 (m:Letter) (ev:V) (w:WF S) (h:CoreIn S a c O) (hw1:∀ i,c.way=some i→i.data.length≤100000) (hd1:1≤m.data.length) (hd2:m.data.length≤600) (L:LetIn S O b m ev) (ok:Hok c.h) (hbi:c.h.base≤m.index) (hl:c.out.length≤999990):
  Ok (fun k K=>aAa (aC prog bC bD k) k K (.ptr a 0 0 0) (.ptr b 0 0 0) S) (fun u S'=>u=.tup []∧∃ O',CoreIn S' a (aJy c m) O'∧Mv O S O' S'):=by
 obtain ⟨lv,wv,dv,ov,rows,h,rfl⟩:=h
 have xb:Ext S (⟨S.next+29,S.heap⟩:St):=(Ext.refl S).bump 29
 have wb:=xb.wf w
 have hb:=h.ext w xb
 have Lb:=L.ext xb
 have go:∀ q:Bool,(q=match c.way with
   | none=>true
   | some i=>decide (i.index≠m.index∨i.at'≠m.at'∨i.size≠m.size))→Ok (fun k K=>nJ (aC prog bC bD k) k K (.ptr a 0 0 0) (.ptr b 0 0 0) wv (.bool q) (⟨S.next+29,S.heap⟩:St)) (fun u S'=>u=.tup []∧∃ O',CoreIn S' a (aJy c m) O'∧Mv (own a lv wv dv ov) S O' S'):=fun q hq=>
  (bBe m ev wb hb hw1 hd1 hd2 Lb ok hbi hl q hq).mono fun u S1 ⟨e,O1,i1,m1⟩=>⟨e,O1,i1,(Mv.of xb).trans w m1⟩
 cases hi:c.way with
 | none=>
  rw [hi] at go
  have hw:=h.way
  rw [hi] at hw
  obtain ⟨rfl,rfl⟩:=hw
  simp only [aAa,aT,aF4,aF,Nat.reduceAdd,aG,aXn,h.r_way,aW0,aU,aVy,bT]
  exact go true rfl
 | some i=>
  rw [hi] at go
  obtain ⟨p,rfl,v0,v1,v2,v3,md⟩:=aJx h hi
  simp only [aAa,aT,aF4,aRq,aRr,aL8,eF,lD,aAi,aF,Nat.reduceAdd,aG,aXn,dY,bA,h.r_way,aVz,aU,aVx,aH,v0,v1,v2,cH L.box,qS L.box,pQ L.box,aR,dG]
  refine Ok.pickN (fun e=>go true (decide_eq_true (Or.inl e)).symm) (fun e=>?_)
  refine Ok.pickN (fun e2=>go true (decide_eq_true (Or.inr (Or.inl e2))).symm) (fun e2=>?_)
  refine go _ ?_
  show _=decide (i.index≠m.index∨i.at'≠m.at'∨i.size≠m.size)
  by_cases e3:i.size=m.size
  ·rw [decide_eq_true e3,decide_eq_false (fun q=>by
    rcases q with q | q | q
    ·exact q e
    ·exact q e2
    ·exact q e3)];rfl
  ·rw [decide_eq_false e3];exact (decide_eq_true (Or.inr (Or.inr e3))).symm
theorem g58 (m:Letter) (ev:V) (w:WF S) (h:CoreIn S a c O) (I:Inv c) (ok:Lok m) (hk:m.kind=5) (he:Apart S O m ev) (hl:c.out.length≤999990):Meth 58 [.ptr a 0 0 0,.agg (aN m ev)] a (c.installed m) S O (.tup []):=by
 have ho:=cM m he.1.one
 have hln:(aN m ev).length=13:=rfl
 have k5:=ok.k5 hk
 obtain ⟨S1,hn1,x1,hg1,hnx1⟩:=nb w 13 (aN m ev)
 have w1:=x1.wf w
 have in1:=h.ext w x1
 have hin1:=in1
 have hno:¬ O S.next:=fun hO=>absurd (core_lt w h _ hO) (Nat.lt_irrefl _)
 have L1:LetIn S1 O S.next m ev:=⟨hg1,hno,he.1.ext x1,he.2⟩
 obtain ⟨lv,wv,dv,ov,rows,h1,hO⟩:=in1
 refine e58 ?_
 simp only [m58,bK,ho,hln,aU,hn1,aG,aT,gM,fL,aF,Nat.reduceAdd,dY,h1.r_role,eG hg1,aR,bX]
 have hI:c.installed m=if c.role=3 then c else
  let c1:=c.hear m.from'
  if m.index≤c1.sure then c1.post { Letter.zero with kind:=4,to:=m.from',yes:=true,index:=m.index } else
   aJy (if m.off=0 then { c1 with way:=some ⟨m.index,m.at',m.size,[]⟩ } else c1) m:=rfl
 rw [hI]
 refine Ok.pickP (fun e=>Ok.ret ⟨rfl,O,by rw [if_pos e];exact hin1,Mv.of x1⟩) (fun e=>?_)
 rw [if_neg e]
 refine Meth.call (g89 m.from' w1 hin1) w1 fun S3 O3 w3 in3 m3=>?_
 have L3:=L1.mv w1 m3
 have mv3:=(Mv.of (O:=O) x1).trans w m3
 have I3:=(I.hear ok.f0 ok.f1).1
 have ew3:(c.hear m.from').way=c.way:=rfl
 generalize hc3:c.hear m.from'=c3 at in3 I3 ew3
 have hl3:c3.out.length≤999990:=by rw [←hc3];exact hl
 have hin3:=in3
 obtain ⟨lv,wv,dv,ov,rows,h3,hO3⟩:=in3
 have xb:Ext S3 (⟨S3.next+7,S3.heap⟩:St):=(Ext.refl S3).bump 7
 have wb:=xb.wf w3
 have Lb:=L3.ext xb
 simp only [fL,eF,lD,sI,aAi,aT,iX,aF,Nat.reduceAdd,aG,dY,bA,cH L3.box,eG L3.box,uB L3.box,qS L3.box,pQ L3.box,h3.r_sure,fR,aR,aU,bX,tW,aLi,aMt]
 refine Ok.pickP (fun e2=>?_) (fun e2=>?_)
 ·simp only [e2,if_true]
  exact Meth.call (g86 _ .nils wb (hin3.ext w3 xb) (Apart.nil _ _ rfl) (iZ hl3)) wb fun S4 O4 w4 in4 m4=>Ok.ret ⟨rfl,O4,in4,(mv3.trans w (Mv.of xb)).trans w m4⟩
 ·have hbi:c3.h.base≤m.index:=Int.le_of_lt (Int.lt_of_le_of_lt I3.s0 (Int.not_le.1 e2))
  simp only [e2,if_false]
  refine Ok.pickP (fun e3=>?_) (fun e3=>?_)
  ·have ho4:aK (V.agg [.int .i64 m.index,.int .i64 m.at',.int .i64 m.size,.nils]).cells=true:=rfl
   obtain ⟨S5,hn5,x5,hg5,hnx5⟩:=nb wb 4 [.int .i64 m.index,.int .i64 m.at',.int .i64 m.size,.nils]
   have x35:=xb.trans x5
   obtain ⟨S6,r6,h6,m6,n6⟩:=h3.w_way w3 x35 (wv':=.ptr (S3.next+7) 0 0 0) (dv':=.nils) (way':=some ⟨m.index,m.at',m.size,[]⟩) ⟨S3.next+7,rfl,hg5,Own.nil _ _ _⟩ ⟨rfl,rfl⟩ (fun y hy=>by
    rcases hy with hy | hy
    ·cases hy;exact Nat.le_add_right _ _
    ·cases hy)
   have w6:=m6.wf w3
   have hn5':aZ none (⟨S3.next+7,S3.heap⟩:St) (.row 0 (V.agg [.int .i64 m.index,.int .i64 m.at',.int .i64 m.size,.nils]).cells.length [(V.agg [.int .i64 m.index,.int .i64 m.at',.int .i64 m.size,.nils]).cells])=.ok (S3.next+7,S5):=hn5
   simp only [ho4,aU,hn5',aG,aT,aF4,aF,Nat.reduceAdd,aXp,r6,e3,if_true]
   rw [←hO3] at m6
   exact (aY0 m ev w6 ⟨_,_,_,_,_,h6,rfl⟩ (fun i hi=>by cases hi;exact Nat.zero_le _) k5.2.2.2.2.2.2.2.2.1 k5.2.2.2.2.2.2.2.2.2.1 (L3.mv w3 m6) I3.h hbi hl3).mono fun u S7 ⟨e7,O7,i7,m7⟩=>⟨e7,O7,i7,(mv3.trans w m6).trans w m7⟩
  ·simp only [e3,if_false]
   exact (aY0 m ev wb (hin3.ext w3 xb) (fun i hi=>by
    have h9:=I3.w i hi
    exact Int.ofNat_le.1 (Int.le_trans h9.2.2 (Int.le_trans h9.2.1 (by decide)))) k5.2.2.2.2.2.2.2.2.1 k5.2.2.2.2.2.2.2.2.2.1 Lb I3.h hbi hl3).mono fun u S7 ⟨e7,O7,i7,m7⟩=>⟨e7,O7,i7,(mv3.trans w (Mv.of xb)).trans w m7⟩
end
end
section
variable [Guard]
section
variable {S:St} {a b:Nat} {c:Core} {O:Nat→Prop}
theorem Inv.newTerm {c:Core} (h:Raft.Inv c) {t:Int} (h1:c.h.term<t) (h2:t≤1099511627776):Raft.Inv { c with h:={ c.h with term:=t,vote:=-1 },role:=1,leads:=-1 }:=by
 have k:=h.h
 exact ⟨h.i0,h.i1,⟨Int.le_trans k.t0 (Int.le_of_lt h1),h2,Int.le_refl _,by show (-1:Int)<7;decide,k.m0,k.m1,k.b0,k.b1,k.bt0,Int.le_trans k.bt1 (Int.le_of_lt h1),k.btz,k.ll,k.li,jI (Int.le_of_lt h1) k.fl,k.sz,k.sl⟩,.inl rfl,Int.le_refl _,by show (-1:Int)≤6;decide,h.s0,h.s1,h.d0,h.d1,h.f0,h.f1,h.v0,h.v1,h.pl,fun e=>absurd e (by show ¬ (1:Int)=3;decide),fun e=>absurd rfl e,h.w⟩
def oD (c : Core) (m : Letter) : Core := if m.term < c.h.term then c.late m else
      if m.kind = 1 then c.asked m else if m.kind = 2 then c.voted m else if m.kind = 3 then c.appended m else if m.kind = 4 then c.acked m else if m.kind = 5 then c.installed m else if m.kind = 6 then c.more m else c
theorem j19 (m:Letter) (ev:V) (w:WF S) (h:CoreIn S a c O) (I:Inv c) (ok:Lok m) (L:LetIn S O b m ev) (hl:c.out.length≤999990):
  Ok (fun k K=>aEf (aC prog bC bD k) k K (.ptr a 0 0 0) (.ptr b 0 0 0) S) (fun u S'=>u=.tup []∧∃ O',CoreIn S' a (oD c m) O'∧Mv O S O' S'):=by
 have xb:Ext S (⟨S.next+8,S.heap⟩:St):=(Ext.refl S).bump 8
 have wb:=xb.wf w
 have inb:=h.ext w xb
 have Lb:=L.ext xb
 obtain ⟨lv,wv,dv,ov,rows,hc,hO⟩:=h
 have ap:Apart (⟨S.next+8,S.heap⟩:St) O m ev:=⟨Lb.ents,Lb.off⟩
 have fin:∀ {f:FuncId} {c':Core},Meth f [.ptr a 0 0 0,.agg (aN m ev)] a c' (⟨S.next+8,S.heap⟩:St) O (.tup [])→oD c m=c'→Ok (fun k K=>aC prog bC bD k f [.ptr a 0 0 0,.agg (aN m ev)] (⟨S.next+8,S.heap⟩:St) fun t S'=>K (.tup []) S') (fun u S'=>u=.tup []∧∃ O',CoreIn S' a (oD c m) O'∧Mv O S O' S'):=fun hm e=>
  Meth.call hm wb fun S1 O1 w1 in1 m1=>Ok.ret ⟨rfl,O1,by rw [e];exact in1,(Mv.of xb).trans w m1⟩
 simp only [aEf,aAh,aAg,aT,dE,gL,aF,Nat.reduceAdd,aG,dY,aBx,bA,aAt L.box,aAs L.box,uC L.box,hc.r_term,bG,aR,aU,bX]
 refine Ok.pickP (fun e=>fin (g53 m ev wb inb I.h Lb.ents hl) (by unfold oD;rw [if_pos e])) (fun e=>?_)
 refine Ok.pickP (fun e1=>fin (g54 m ev wb inb I.h Lb.ents hl) (by unfold oD;rw [if_neg e,if_pos e1])) (fun e1=>?_)
 refine Ok.pickP (fun e2=>fin (g55 m ev wb inb I ok Lb.ents hl) (by unfold oD;rw [if_neg e,if_neg e1,if_pos e2])) (fun e2=>?_)
 refine Ok.pickP (fun e3=>fin (g56 m ev wb inb I ok e3 ap hl) (by unfold oD;rw [if_neg e,if_neg e1,if_neg e2,if_pos e3])) (fun e3=>?_)
 refine Ok.pickP (fun e4=>fin (g57 m ev wb inb I ok Lb.ents hl) (by unfold oD;rw [if_neg e,if_neg e1,if_neg e2,if_neg e3,if_pos e4])) (fun e4=>?_)
 refine Ok.pickP (fun e5=>fin (g58 m ev wb inb I ok e5 ap hl) (by unfold oD;rw [if_neg e,if_neg e1,if_neg e2,if_neg e3,if_neg e4,if_pos e5])) (fun e5=>?_)
 refine Ok.pickP (fun e6=>fin (g59 m ev wb inb I ok e6 Lb.ents hl) (by unfold oD;rw [if_neg e,if_neg e1,if_neg e2,if_neg e3,if_neg e4,if_neg e5,if_pos e6])) (fun e6=>?_)
 exact Ok.ret ⟨rfl,O,by unfold oD;rw [if_neg e,if_neg e1,if_neg e2,if_neg e3,if_neg e4,if_neg e5,if_neg e6];exact inb,Mv.of xb⟩
theorem g19 (m:Letter) (ev:V) (w:WF S) (h:CoreIn S a c O) (I:Inv c) (he:Apart S O m ev) (hl:c.out.length≤999990):Meth 19 [.ptr a 0 0 0,.agg (aN m ev)] a (c.take m) S O (.tup []):=by
 have ho:=cM m he.1.one
 have hln:(aN m ev).length=13:=rfl
 obtain ⟨S1,hn1,x1,hg1,hnx1⟩:=nb w 13 (aN m ev)
 have w1:=x1.wf w
 have in1:=h.ext w x1
 have hno:¬ O S.next:=fun hO=>absurd (core_lt w h _ hO) (Nat.lt_irrefl _)
 have L1:LetIn S1 O S.next m ev:=⟨hg1,hno,he.1.ext x1,he.2⟩
 have hT:c.take m=if c.passed m=true then c else oD (if c.h.term<m.term then { c with h:={ c.h with term:=m.term,vote:=-1 },role:=1,leads:=-1 } else c) m:=rfl
 rw [hT]
 refine e19 ?_
 simp only [m19,bK,ho,hln,aU,hn1,aG,aBx,uC hg1]
 refine (g52 m ev w1 in1 I L1.ents).call fun S2 x2=>?_
 have w2:=x2.wf w1
 have in2:=in1.ext w1 x2
 have x02:=x1.trans x2
 refine Ok.pick (fun e=>Ok.ret ⟨rfl,O,by rw [if_pos e];exact in2,Mv.of x02⟩) (fun e=>?_)
 have hp:¬ c.passed m=true:=fun q=>by rw [q] at e;cases e
 rw [if_neg hp]
 have hr:eK m=true:=by
  cases hr:eK m with
  | true=>rfl
  | false=>exact absurd (by unfold Core.passed;rw [if_pos (.inl hr)]) hp
 have ok:=vV hr
 have xb:Ext S2 (⟨S2.next+8,S2.heap⟩:St):=(Ext.refl S2).bump 8
 have wb:=xb.wf w2
 have L2:=L1.ext x2
 have hin2:=in2
 obtain ⟨lv,wv,dv,ov,rows,h2,hO⟩:=in2
 simp only [aAh,aT,dE,gM,sJ,gL,vU,aF,Nat.reduceAdd,aG,dY,bA,aAt L2.box,h2.r_term,dF]
 refine Ok.pickP (fun e2=>?_) (fun e2=>?_)
 ·rw [if_pos e2]
  obtain ⟨S3,q3,h3,m3,_⟩:=(h2.ext w2 xb).w_term wb m.term
  have w3:=m3.wf wb
  obtain ⟨S4,q4,h4',m4,_⟩:=h3.w_vote w3 (-1)
  have h4:CoreAt S4 a { c with h:={ c.h with term:=m.term,vote:=-1 } } lv wv dv ov rows:=h4'
  clear h4'
  have w4:=m4.wf w3
  obtain ⟨S5,q5,h5',m5,_⟩:=h4.w_role w4 1
  have h5:CoreAt S5 a { c with h:={ c.h with term:=m.term,vote:=-1 },role:=1 } lv wv dv ov rows:=h5'
  clear h5'
  have w5:=m5.wf w4
  obtain ⟨S6,q6,h6',m6,_⟩:=h5.w_leads w5 (-1)
  have h6:CoreAt S6 a { c with h:={ c.h with term:=m.term,vote:=-1 },role:=1,leads:=-1 } lv wv dv ov rows:=h6'
  clear h6'
  have w6:=m6.wf w5
  rw [←hO] at m3 m4 m5 m6
  have mv6:=((((Mv.of (O:=O) (x02.trans xb)).trans w m3).trans w m4).trans w m5).trans w m6
  have L6:=((((L2.ext xb).mv wb m3).mv w3 m4).mv w4 m5).mv w5 m6
  simp only [st3,q3,q4,q5,q6,aG]
  exact (j19 m ev w6 ⟨_,_,_,_,_,h6,hO⟩ (Inv.newTerm I e2 ok.tm1) ok L6 hl).mono fun u S7 ⟨e7,O7,i7,m7⟩=>⟨e7,O7,i7,mv6.trans w m7⟩
 ·rw [if_neg e2]
  exact (j19 m ev wb (hin2.ext w2 xb) I ok (L2.ext xb) hl).mono fun u S7 ⟨e7,O7,i7,m7⟩=>⟨e7,O7,i7,(Mv.of (x02.trans xb)).trans w m7⟩
end
end
section
variable [Guard]
def aS7 (s:List UInt8):List V:=[.str s]
theorem qC {α β:Type} (f:α→β):∀ (l:List α) (acc:List β),l.foldl (fun a x=>a++[f x]) acc=acc++l.map f
 | [],acc=>by simp
 | x::l,acc=>by simp [qC f l]
def pT (_:Unit) (d:List UInt8):Bool⊕Unit:=if 1100<d.length then .inl true else .inr ()
theorem aT3:∀ (l:List (List UInt8)),fW pT (fun _=>false) l ()=l.any (fun d=>decide (1100<d.length))
 | []=>rfl
 | d::l=>by
  simp only [fW,pT,List.any_cons]
  by_cases h:1100<d.length
  ·rw [if_pos h,decide_eq_true h];rfl
  ·rw [if_neg h,decide_eq_false h];exact aT3 l
theorem aFd (t:Int) (d:List UInt8):dJ [.int .i64 0,.int .i64 0,.str []] [(0,1),(1,1),(2,1)] [(0,.int .i64 t),(2,.str d)]=.ok (.agg (bR ⟨t,0,d⟩)):=rfl
theorem fG {i n:Nat} (h:i<n) (hn:n≤1000000):wr .i64 ((i:Int)+1)=((i+1:Nat):Int):=by rw [cR (by omega) (by omega)];omega
section
variable {S:St} {a b:Nat} {c:Core} {O:Nat→Prop}
theorem bBf (data:List (List UInt8)) (dv:V) (x4 x5 p8:V) (w:WF S) (h:CoreIn S a c O) (hs:Sl S 1 dv (data.map aS7)) (ho:∀ y,aP dv=some y→¬ O y) (hd:data.length≤200) (hll:c.h.log.length≤200) {Q:V→St→Prop}
  (hout:∀ S' O',WF S'→CoreIn S' a { c with h:={ c.h with log:=c.h.log++data.map fun d=>⟨c.h.term,0,d⟩ } } O'→Mv O S O' S'→Ok (fun k K=>aC prog bC bD k 60 [.ptr a 0 0 0] S' fun t S''=>K (.tup [p8,.bool true]) S'') Q):
  Ok (fun k K=>cS k [.int .i64 0] S (aA6 (aC prog bC bD k) k K (.ptr a 0 0 0) x4 x5 p8 dv (.int .i64 data.length))) Q:=by
 refine Ok.loopL (F:=fun k K=>aA6 (aC prog bC bD k) k K (.ptr a 0 0 0) x4 x5 p8 dv (.int .i64 data.length)) (ρ:=List Entry) (α:=List UInt8) (X:=Unit) data (step:=fun l d=>.inr (l++[⟨c.h.term,0,d⟩])) (fin:=id) (s:=c.h.log)
  (out:=fun k K _ S'=>aC prog bC bD k 60 [.ptr a 0 0 0] S' fun t S''=>K (.tup [p8,.bool true]) S'')
  (fun i l vs S'=>vs=[.int .i64 (i:Int)]∧l.length≤200+i∧WF S'∧∃ O',CoreIn S' a { c with h:={ c.h with log:=l } } O'∧Mv O S O' S'∧Sl S' 1 dv (data.map aS7)∧∀ y,aP dv=some y→¬ O' y)
  (fun l _ S'=>WF S'∧∃ O',CoreIn S' a { c with h:={ c.h with log:=l } } O'∧Mv O S O' S') ?_ ?_ ⟨rfl,hll,w,O,h,Mv.refl O S,hs,ho⟩ (fun _ S' ⟨w',O',in',m'⟩=>?_)
 ·rintro i d l vs S1 ⟨rfl,hl,w1,O1,in1,m1,s1,f1⟩ hi
  have hil:=(List.getElem?_eq_some_iff.1 hi).1
  have hlt:(i:Int)<(data.length:Int):=Int.ofNat_lt.2 hil
  have hw:=fG hil (Nat.le_trans hd (by decide))
  obtain ⟨p,hp,hat,_,_⟩:=s1.elem hi
  have hat0:aL none p S1=.ok (.str d):=by rw [hat.load0];rfl
  obtain ⟨lv,wv,dv',ov,rows,h1,hO⟩:=in1
  obtain ⟨S2,lv',S3,S4,q2,q3,q4,h4,m4⟩:=h1.push w1 ⟨c.h.term,0,d⟩ [.int .i64 0,.int .i64 0,.str []] 19 13 14 (by decide) (by decide) (by decide) (Nat.le_trans hl (by omega))
  rw [←hO] at m4
  simp only [aA6,bE,bG,aG,hlt,decide_true,bT,aXk,hp,ld9,hat0,aT,dE,eR,gL,aF,Nat.reduceAdd,iC,dY,bA,h1.r_log,h1.r_term,aRp,aFd,aP3,q2,tV,q3,aH7,q4,bQ,hw]
  obtain ⟨s4,f4⟩:=aAz w1 s1 f1 m4
  exact OkL.next ⟨l++[⟨c.h.term,0,d⟩],rfl,rfl,by rw [List.length_append,List.length_singleton];exact Nat.add_le_add_right hl 1,m4.wf w1,_,⟨_,_,_,_,_,h4,rfl⟩,m1.trans w m4,s4,f4⟩
 ·rintro l vs S1 ⟨rfl,hl,w1,O1,in1,m1,s1,f1⟩
  have hlt:¬ (data.length:Int)<(data.length:Int):=Int.lt_irrefl _
  refine ⟨(),⟨w1,O1,in1,m1⟩,fun k K aO=>?_⟩
  simp only [aA6,bE,bG,aG,hlt,decide_false,aH]
 ·rw [pS,qC] at in'
  exact hout S' O' w' in' m'
theorem g20 (data:List (List UInt8)) (dv:V) (w:WF S) (h:CoreIn S a c O) (I:Inv c) (hs:Sl S 1 dv (data.map aS7)) (ho:∀ y,aP dv=some y→¬ O y) (hl:c.out.length≤999990):
  Meth 20 [.ptr a 0 0 0,dv] a (c.propose data).1 S O (.tup [.int .i64 (c.propose data).2.1,.bool (c.propose data).2.2]):=by
 have ok:=I.h
 have hr:=eP ok
 have hb0:=ok.b0
 have hll:=ok.ll
 have hin:=h
 obtain ⟨lv,wv,dv',ov,rows,h,hO⟩:=h
 have hw1:wr .i64 (120 - c.h.log.length)=120 - c.h.log.length:=cR (by omega) (by omega)
 have hw2:wr .i64 (1099511627776 - c.last)=1099511627776 - c.last:=cR (by omega) (by omega)
 have hw3:wr .i64 (c.last+1)=c.last+1:=cR (by omega) (by omega)
 have no:(c.role≠3∨data.length=0∨(120:Int) - c.h.log.length<data.length∨(1099511627776:Int) - c.last<data.length)→c.propose data=(c,0,false):=fun hq=>by unfold Core.propose;rw [if_pos hq]
 have noS:∀ S',Ext S S'→c.propose data=(c,0,false)→Ok (fun k K=>K (.tup [.int .i64 0,.bool false]) S') (fun u S'=>u=.tup [.int .i64 (c.propose data).2.1,.bool (c.propose data).2.2]∧∃ O',CoreIn S' a (c.propose data).1 O'∧Mv O S O' S'):=fun S' x e=>by
  rw [e];exact Ok.ret ⟨rfl,O,hin.ext w x,Mv.of x⟩
 refine e20 ?_
 simp only [m20,aT,gM,dE,eR,aF,Nat.reduceAdd,aG,dY,iC,h.r_role,h.r_log,aPb,hs.lenI,kD,h.log.sl.lenI,aR,aU,dG,bX,cL,hw1,dF]
 refine Ok.pickN (fun e=>noS S (Ext.refl S) (no (.inl e))) (fun e=>?_)
 refine Ok.pickP (fun e2=>noS S (Ext.refl S) (no (.inr (.inl (by omega))))) (fun e2=>?_)
 refine Ok.pickP (fun e3=>noS S (Ext.refl S) (no (.inr (.inr (.inl e3))))) (fun e3=>?_)
 refine (g46 hin ok).call fun S1 x1=>?_
 simp only [cL,hw2,aG,dF,aPb,hs.lenI]
 refine Ok.pickP (fun e4=>noS S1 x1 (no (.inr (.inr (.inr e4))))) (fun e4=>?_)
 have hd:data.length≤200:=by omega
 have hn:¬ (c.role≠3∨data.length=0∨(120:Int) - c.h.log.length<data.length∨(1099511627776:Int) - c.last<data.length):=fun q=>by
  rcases q with q | q | q | q
  ·exact q e
  ·exact e2 (by rw [q];rfl)
  ·exact e3 q
  ·exact e4 q
 have w1:=x1.wf w
 refine Ok.loopL (F:=fun k K=>vK (aC prog bC bD k) k K (.ptr a 0 0 0) dv dv (.int .i64 data.length)) (ρ:=Bool) (α:=List UInt8) (X:=Bool) data (step:=pT) (fin:=fun _=>false) (s:=())
  (out:=fun k K x S'=>if x=true then K (.tup [.int .i64 0,.bool false]) S' else vK (aC prog bC bD k) k K (.ptr a 0 0 0) dv dv (.int .i64 data.length) [.int .i64 0,.bool false,.int .i64 data.length] S' (fun _ _=>none))
  (fun i _ vs S'=>vs=[.int .i64 0,.bool false,.int .i64 (i:Int)]∧S'=S1)
  (fun r x S'=>r=x∧S'=S1) ?_ ?_ ⟨rfl,rfl⟩ (fun x S' ⟨ex,e5⟩=>?_)
 ·rintro i d _ vs S2 ⟨rfl,rfl⟩ hi
  have hil:=(List.getElem?_eq_some_iff.1 hi).1
  have hlt:(i:Int)<(data.length:Int):=Int.ofNat_lt.2 hil
  have hw:=fG hil (Nat.le_trans hd (by decide))
  obtain ⟨p,hp,hat,_,_⟩:=(hs.ext x1).elem hi
  have hat0:aL none p S2=.ok (.str d):=by rw [hat.load0];rfl
  simp only [vK,bE,bG,aG,hlt,decide_true,bT,aXk,hp,ld9,hat0,aHh,dF,bQ,hw]
  refine OkL.pickP (fun e6=>OkL.stop true ⟨true,by unfold pT;rw [if_pos (by omega)],rfl,rfl⟩ (by intros;rfl)) (fun e6=>OkL.next ⟨(),by unfold pT;rw [if_neg (by omega)],rfl,rfl⟩)
 ·rintro _ vs S2 ⟨rfl,rfl⟩
  have hlt:¬ (data.length:Int)<(data.length:Int):=Int.lt_irrefl _
  refine ⟨false,⟨rfl,rfl⟩,fun k K aO=>?_⟩
  simp only [vK,bE,bG,aG,hlt,decide_false,aH,if_neg (by decide:¬ false=true)]
 ·subst e5
  rw [aT3] at ex
  have hP:c.propose data=if data.any (fun d=>decide (1100<d.length))=true then (c,0,false) else
  (({ c with h:={ c.h with log:=c.h.log++data.map fun d=>⟨c.h.term,0,d⟩ } }:Core).own,c.last+1,true):=by unfold Core.propose;rw [if_neg hn]
  cases x with
  | true=>
   simp only [if_true]
   exact noS S' x1 (by rw [hP,if_pos ex])
  | false=>
   rw [hP,if_neg (by rw [ex];decide)]
   have hlt:¬ (data.length:Int)<(data.length:Int):=Int.lt_irrefl _
   simp only [vK,bE,bG,aG,hlt,decide_false,aH,if_neg (by decide:¬ false=true)]
   refine (g46 (hin.ext w x1) ok).call fun S2 x2=>?_
   have x02:=x1.trans x2
   have w2:=x02.wf w
   simp only [bQ,hw3,aG,aPb,(hs.ext x02).lenI]
   refine bBf data dv _ _ _ w2 (hin.ext w x02) (hs.ext x02) ho hd hll fun S3 O3 w3 in3 m3=>?_
   have okp:=(Inv.pushes I (r:=data.map fun d=>⟨c.h.term,0,d⟩) (fun x hx=>by
    obtain ⟨d,hd',rfl⟩:=List.mem_map.1 hx
    have hlen:d.length≤1100:=by
     by_cases hq:d.length≤1100
     ·exact hq
     ·have:data.any (fun d=>decide (1100<d.length))=true:=List.any_eq_true.2 ⟨d,hd',decide_eq_true (by omega)⟩
      rw [this] at ex;cases ex
    exact ⟨⟨I.tm (by rw [e];decide),Int.le_refl _,Int.le_refl _,by show (0:Int)≤127;decide,hlen,.inl rfl⟩,rfl⟩) (by rw [List.length_map];omega) (by rw [List.length_map];omega)).1
   refine Meth.call (g60 w3 in3 okp.h I.i0 I.i1 okp.s0 okp.s1 hl okp.pr) w3 fun S4 O4 w4 in4 m4=>Ok.ret ⟨rfl,O4,in4,((Mv.of x02).trans w m3).trans w m4⟩
end
end
section
variable [Guard]
def chS (q:Nat→Prop) [DecidablePred q] (x:Peer) (l:List Peer) (i:Nat):List Peer⊕List Peer:=.inr (if q i then l.set i x else l)
theorem aPp (q:Nat→Prop) [DecidablePred q] (x:Peer) {l:List Peer} (h:l.length=7):fW (chS q x) id (List.range 7) l=(List.range 7).zipWith (fun (k:Nat) p=>if q k then x else p) l:=by
 obtain ⟨p0,p1,p2,p3,p4,p5,p6,rfl⟩:=lJ h
 show fW _ id [0,1,2,3,4,5,6] _=List.zipWith _ [0,1,2,3,4,5,6] _
 simp only [fW,chS,List.zipWith,id]
 by_cases a0:q 0<;>by_cases a1:q 1<;>by_cases a2:q 2<;>by_cases a3:q 3<;>by_cases a4:q 4<;>by_cases a5:q 5<;>by_cases a6:q 6<;>simp only [a0,a1,a2,a3,a4,a5,a6,if_true,if_false]<;>rfl
theorem aJz {c:Core} (h:Raft.Inv c) {members:Int} (hr:c.role=3) (hm:lQ (ofM c.h).1 members=true) (h120:¬ 120≤c.h.log.length) (hix:¬ 1099511627776≤c.last):
  Raft.Inv { c with h:={ c.h with log:=c.h.log++[⟨c.h.term,members,[]⟩] } }∧Raft.Inv { c with h:={ c.h with log:=c.h.log++[⟨c.h.term,members,[]⟩] },peers:=(List.range 7).zipWith (fun (k:Nat) p=>if (k:Int)≠c.id∧bJ members (k:Int)=true∧bJ (ofM c.h).1 (k:Int)=false then ⟨c.last+1,0,0⟩ else p) c.peers }:=by
 simp only [lQ,lE,Bool.and_eq_true,decide_eq_true_eq] at hm
 have ht:=h.tm (by omega)
 obtain ⟨h1,k1⟩:=h.pushes (r:=[⟨c.h.term,members,[]⟩]) (fun x hx=>by
  rw [List.mem_singleton.1 hx]
  exact ⟨⟨ht,Int.le_refl _,by show 0≤members;omega,by show members≤127;omega,by show 0≤1100;decide,.inr rfl⟩,rfl⟩) (by simp;omega) (by simp;omega)
 refine ⟨h1,h1.i0,h1.i1,h1.h,h1.role,h1.l0,h1.l1,h1.s0,h1.s1,h1.d0,h1.d1,h1.f0,h1.f1,h1.v0,h1.v1,by show (List.zipWith _ _ _).length=7;rw [List.length_zipWith,h.pl];rfl,fun hr' p hp=>?_,h1.tm,h1.w⟩
 obtain ⟨i,hi⟩:=List.mem_iff_getElem?.1 hp
 have hi':((List.range 7).zipWith (fun (k:Nat) p=>if (k:Int)≠c.id∧bJ members (k:Int)=true∧bJ (ofM c.h).1 (k:Int)=false then (⟨c.last+1,0,0⟩:Peer) else p) c.peers)[i]?=some p:=hi
 have hlast:bI { c.h with log:=c.h.log++[⟨c.h.term,members,[]⟩] }=c.last+1:=by unfold Core.last bI;simp;omega
 have hb:=h.h.b0
 have hl0:0≤c.last:=by unfold Core.last bI;omega
 rw [List.getElem?_zipWith] at hi'
 split at hi'
 ·rename_i a b e1 e2
  cases hi'
  split
  ·exact ⟨Int.le_refl _,by show 0≤bI _;rw [hlast];omega,by show 1≤c.last+1;omega,by show c.last+1≤bI _+1;rw [hlast];omega,Int.le_refl _,.inr rfl⟩
  ·exact (h1.pr hr b (List.mem_of_getElem? e2)).of (by rfl)
 ·cases hi'
theorem aFe (t m:Int):dJ [.int .i64 0,.int .i64 0,.str []] [(0,1),(1,1),(2,1)] [(0,.int .i64 t),(1,.int .i64 m)]=.ok (.agg (bR ⟨t,m,[]⟩)):=rfl
theorem aK0 (x:Int):bO prog 84 [(0,.int .i64 x)]=.ok (.agg (jJ ⟨x,0,0⟩)):=by rw [aVg];rfl
section
variable {S:St} {a b:Nat} {c:Core} {O:Nat→Prop}
theorem g21 (members:Int) (w:WF S) (h:CoreIn S a c O) (I:Inv c) (hl:c.out.length≤999990):
  Meth 21 [.ptr a 0 0 0,.int .i64 members] a (c.change members).1 S O (.tup [.int .i64 (c.change members).2.1,.bool (c.change members).2.2]):=by
 have ok:=I.h
 have hr:=eP ok
 have hb0:=ok.b0
 have hll:=ok.ll
 have hmr:=jQ ok
 have hin:=h
 obtain ⟨lv,wv,dv,ov,rows,h,hO⟩:=h
 have no:(c.role≠3∨lQ (ofM c.h).1 members=false∨c.sure<(ofM c.h).2∨c.term c.sure≠c.h.term∨120≤c.h.log.length∨1099511627776≤c.last)→c.change members=(c,0,false):=fun hq=>by unfold Core.change;simp only;rw [if_pos hq]
 have noS:∀ S',Ext S S'→c.change members=(c,0,false)→Ok (fun k K=>K (.tup [.int .i64 0,.bool false]) S') (fun u S'=>u=.tup [.int .i64 (c.change members).2.1,.bool (c.change members).2.2]∧∃ O',CoreIn S' a (c.change members).1 O'∧Mv O S O' S'):=fun S' x e=>by
  rw [e];exact Ok.ret ⟨rfl,O,hin.ext w x,Mv.of x⟩
 refine e21 ?_
 simp only [m21,aT,dE,aF,Nat.reduceAdd,aG,xP,h.r_hard]
 refine (g49 c.h lv S w h.log.sl (by omega) ok.b0 ok.b1).call fun S1 x1=>?_
 have w1:=x1.wf w
 have h1:=h.ext w x1
 have xb:Ext S1 (⟨S1.next+47,S1.heap⟩:St):=(Ext.refl S1).bump 47
 have x1b:=x1.trans xb
 simp only [mP,List.getElem?_cons_zero,List.getElem?_cons_succ,aA2,aT,gM,aF,Nat.reduceAdd,aG,dY,bA,h1.r_role,aR,aU,dG]
 refine Ok.pickN (fun e=>noS _ x1b (no (.inl e))) (fun e=>?_)
 refine (g61 _ members _ (xb.wf w1)).call fun S2 x2=>?_
 have x02:=x1b.trans x2
 have w2:=x02.wf w
 have h2:=h.ext w x02
 simp only [fE,aG]
 refine Ok.pick (fun e2=>noS S2 x02 (no (.inr (.inl (by simpa using e2))))) (fun e2=>?_)
 have hmay:lQ (ofM c.h).1 members=true:=by simpa using e2
 simp only [aT,iX,dE,gL,aF,Nat.reduceAdd,aG,dY,h2.r_sure,h2.r_term,dF]
 refine Ok.pickP (fun e3=>noS S2 x02 (no (.inr (.inr (.inl e3))))) (fun e3=>?_)
 refine (g62 (hin.ext w x02) ok (n:=c.sure) I.s0 I.s1).call fun S3 x3=>?_
 have x03:=x02.trans x3
 have h3:=h.ext w x03
 simp only [h3.r_term,aG,cN,aU,aR,dG]
 refine Ok.pickN (fun e4=>noS S3 x03 (no (.inr (.inr (.inr (.inl e4)))))) (fun e4=>?_)
 simp only [aT,dE,eR,aF,Nat.reduceAdd,aG,iC,h3.r_log,kD,h3.log.sl.lenI,eX]
 refine Ok.pickP (fun e5=>noS S3 x03 (no (.inr (.inr (.inr (.inr (.inl (by omega)))))))) (fun e5=>?_)
 refine (g46 (hin.ext w x03) ok).call fun S4 x4=>?_
 have x04:=x03.trans x4
 have w4:=x04.wf w
 have h4:=h.ext w x04
 simp only [eX,aG]
 refine Ok.pickP (fun e6=>noS S4 x04 (no (.inr (.inr (.inr (.inr (.inr e6))))))) (fun e6=>?_)
 have hn:¬ (c.role≠3∨lQ (ofM c.h).1 members=false∨c.sure<(ofM c.h).2∨c.term c.sure≠c.h.term∨120≤c.h.log.length∨1099511627776≤c.last):=fun q=>by
  rcases q with q | q | q | q | q | q
  ·exact q e
  ·rw [q] at hmay;cases hmay
  ·exact e3 q
  ·exact q e4
  ·exact e5 (Int.ofNat_le.2 q)
  ·exact e6 q
 have h120:¬ 120≤c.h.log.length:=fun q=>e5 (Int.ofNat_le.2 q)
 obtain ⟨I1,I2⟩:=aJz I e hmay h120 e6
 obtain ⟨S5,lv',S6,S7,q5,q6,q7,h7,m7⟩:=h4.push w4 ⟨c.h.term,members,[]⟩ [.int .i64 0,.int .i64 0,.str []] 19 13 14 (by decide) (by decide) (by decide) (Nat.le_trans hll (by decide))
 rw [←hO] at m7
 have w7:=m7.wf w4
 have mv7:=(Mv.of (O:=O) x04).trans w m7
 simp only [aT,dE,eR,gL,aF,Nat.reduceAdd,aG,iC,dY,bA,h4.r_log,h4.r_term,aRp,aFe,aP3,q5,tV,q6,aH7,q7]
 have hlast:({ c with h:={ c.h with log:=c.h.log++[⟨c.h.term,members,[]⟩] } }:Core).last=c.last+1:=by unfold Core.last bI;simp;omega
 have hC:c.change members=(({ c with h:={ c.h with log:=c.h.log++[⟨c.h.term,members,[]⟩] },peers:=(List.range 7).zipWith (fun (k:Nat) p=>if (k:Int)≠c.id∧bJ members (k:Int)=true∧bJ (ofM c.h).1 (k:Int)=false then ⟨c.last+1,0,0⟩ else p) c.peers }:Core).own,c.last+1,true):=by
  unfold Core.change;simp only;rw [if_neg hn,hlast]
 rw [hC]
 refine (g46 ⟨_,_,_,_,_,h7,rfl⟩ I1.h).call fun S8 x8=>?_
 have w8:=x8.wf w7
 have h8:=h7.ext w7 x8
 rw [hlast]
 have hmm:=hmay
 simp only [lQ,lE,Bool.and_eq_true,decide_eq_true_eq] at hmm
 rw [←aPp (fun (k:Nat)=>(k:Int)≠c.id∧bJ members (k:Int)=true∧bJ (ofM c.h).1 (k:Int)=false) ⟨c.last+1,0,0⟩ I.pl] at I2 ⊢
 refine Ok.loopL (F:=fun k K=>aEg (aC prog bC bD k) k K (.ptr a 0 0 0) (.int .i64 members) (.int .i64 (ofM c.h).1) (.int .i64 (c.last+1))) (ρ:=List Peer) (α:=Nat) (X:=List Peer) (List.range 7) (step:=chS (fun (k:Nat)=>(k:Int)≠c.id∧bJ members (k:Int)=true∧bJ (ofM c.h).1 (k:Int)=false) ⟨c.last+1,0,0⟩) (fin:=id) (s:=c.peers)
  (out:=fun k K _ S'=>aC prog bC bD k 60 [.ptr a 0 0 0] S' fun t S''=>K (.tup [.int .i64 (c.last+1),.bool true]) S'')
  (fun i l vs S'=>vs=[.int .i64 (i:Int)]∧WF S'∧∃ O',CoreIn S' a { c with h:={ c.h with log:=c.h.log++[⟨c.h.term,members,[]⟩] },peers:=l } O'∧Mv O S O' S')
  (fun l x S'=>WF S'∧∃ O',CoreIn S' a { c with h:={ c.h with log:=c.h.log++[⟨c.h.term,members,[]⟩] },peers:=l } O'∧Mv O S O' S') ?_ ?_ ⟨rfl,w8,_,⟨_,_,_,_,_,h8,rfl⟩,mv7.trans w (Mv.of x8)⟩ (fun l S9 ⟨w9,O9,in9,m9⟩=>?_)
 ·rintro i i' l vs S9 ⟨rfl,w9,O9,in9,m9⟩ hi
  obtain ⟨hil,hj⟩:=List.getElem?_eq_some_iff.1 hi
  rw [List.length_range] at hil
  rw [List.getElem_range] at hj
  subst hj
  have hlt:(i:Int)<7:=Int.ofNat_lt.2 hil
  have hw:=fG hil (by decide)
  have nx:∀ S',Ext S9 S'→¬ ((i:Int)≠c.id∧bJ members (i:Int)=true∧bJ (ofM c.h).1 (i:Int)=false)→aLe (chS (fun (k:Nat)=>(k:Int)≠c.id∧bJ members (k:Int)=true∧bJ (ofM c.h).1 (k:Int)=false) ⟨c.last+1,0,0⟩) (fun i l vs S'=>vs=[.int .i64 (i:Int)]∧WF S'∧∃ O',CoreIn S' a { c with h:={ c.h with log:=c.h.log++[⟨c.h.term,members,[]⟩] },peers:=l } O'∧Mv O S O' S') (fun l (x:List Peer) S'=>WF S'∧∃ O',CoreIn S' a { c with h:={ c.h with log:=c.h.log++[⟨c.h.term,members,[]⟩] },peers:=l } O'∧Mv O S O' S') i l i (.next [.int .i64 ((i+1:Nat):Int)] S'):=fun S' x hno=>⟨l,by unfold chS;rw [if_neg hno],rfl,x.wf w9,O9,in9.ext w9 x,m9.trans w (Mv.of x)⟩
  obtain ⟨lv9,wv9,dv9,ov9,rows9,h9,hO9⟩:=in9
  simp only [aEg,bE,bG,aG,hlt,decide_true,bT,aT,nL,aF,Nat.reduceAdd,dY,h9.r_id,aR,aU,dG]
  refine OkL.pickN (fun f1=>?_) (fun f1=>by
   simp only [vL,aH,bQ,hw,aG]
   exact OkL.next (nx S9 (Ext.refl _) (fun q=>q.1 f1)))
  refine (g50 members i S9 (by omega)).callL fun Sa xa=>?_
  have wa:=xa.wf w9
  refine OkL.pick (fun f2=>?_) (fun f2=>by
   simp only [vL,aH,bQ,hw,aG]
   exact OkL.next (nx Sa xa (fun q=>by rw [q.2.1] at f2;cases f2)))
  refine (g50 _ i Sa (by omega)).callL fun Sb xb=>?_
  have x9b:=xa.trans xb
  have wb:=xb.wf wa
  simp only [fE,aG,vL]
  refine OkL.pick (fun f3=>?_) (fun f3=>by
   simp only [bQ,hw,aG]
   exact OkL.next (nx Sb x9b (fun q=>by rw [q.2.2] at f3;cases f3)))
  have h9b:=h9.ext w9 x9b
  obtain ⟨Sc,qc,hc,mc,_⟩:=h9b.w_peer wb hil ⟨c.last+1,0,0⟩
  rw [←hO9] at mc
  simp only [aK0,aT,pM,aF,Nat.reduceAdd,aAy,cZ hil,aG,aMm,qc,bQ,hw]
  exact OkL.next ⟨l.set i ⟨c.last+1,0,0⟩,by unfold chS;rw [if_pos (show (i:Int)≠c.id∧bJ members (i:Int)=true∧bJ (ofM c.h).1 (i:Int)=false from ⟨f1,f2,by simpa using f3⟩)],rfl,mc.wf wb,O9,⟨_,_,_,_,_,hc,hO9⟩,(m9.trans w (Mv.of x9b)).trans w mc⟩
 ·rintro l vs S9 ⟨rfl,w9,O9,in9,m9⟩
  have hlt:¬ (((List.range 7).length:Nat):Int)<7:=by rw [List.length_range];decide
  refine ⟨l,⟨w9,O9,in9,m9⟩,fun k K aO=>?_⟩
  simp only [aEg,bE,bG,aG,hlt,decide_false,aH]
 ·exact Meth.call (g60 w9 in9 I2.h I2.i0 I2.i1 I2.s0 I2.s1 hl I2.pr) w9 fun Sa Oa wa ina ma=>Ok.ret ⟨rfl,Oa,ina,m9.trans w ma⟩
end
end
section
variable [Guard]
theorem Ext.put {S S':St} (h:Ext S S') {a:Nat} (ha:S.next≤a) (hb:a<S'.next) (w:WF S) (b:Blk):Ext S ⟨S'.next,S'.heap.put a b⟩:=h.set ha hb w b
abbrev zH:List V:=[.int .i64 0,.int .i64 0,.int .i64 0,.int .i64 0,.int .i64 0,.str [],.nils]
theorem g35 (h:Hard) (lv:V) (S:St) (w:WF S) (hs:Sl S 3 lv (h.log.map bR)) (hl:h.log.length≤1000000):Does prog bC bD 35 [.agg (bB h lv)] S (fun u S'=>Ext S S'∧∃ lv',u=.agg (bB h lv')∧Own S S' 3 lv' (h.log.map bR)):=by
 have ho:=dW h hs.one
 have hln:(bB h lv).length=7:=rfl
 obtain ⟨S1,hn1,x1,hg1,hnx1⟩:=nb w 7 (bB h lv)
 have w1:=x1.wf w
 obtain ⟨S2,hn2,x2,hg2,hnx2⟩:=nb w1 7 zH
 have w2:=x2.wf w1
 have x02:=x1.trans x2
 have g2:=x2.old _ _ hg1
 have v6:aL none (.ptr S.next 0 0 6) S2=.ok lv:=by rw [aY _ _ _ _ _ (aX g2)];rfl
 obtain ⟨lv',S3,r3,x3,o3⟩:=(hs.ext x02).copy (b:=32) w2 (by rw [List.length_map];omega) (by rw [List.length_map];unfold fO;omega)
 have x03:=x02.trans x3
 have w3:=x3.wf w2
 have g3:=x3.old _ _ g2
 have ho3:=o3.sl
 have e4:=cX (S:=S3) (x:=lv') (j:=6) (m:=1) g3 (by rw [dV ho3];rfl) (by rw [dV ho3];simp [aK,ho3.one]) (by rw [hln];omega)
 have c4:splice (bB h lv) 6 lv'.cells=bB h lv':=by rw [dV ho3];rfl
 rw [c4] at e4
 have hlt:S.next<S3.next:=w3 _ _ g3
 have x4:Ext S (⟨S3.next,S3.heap.put S.next (.row 0 7 [bB h lv'])⟩:St):=x03.set (Nat.le_refl _) hlt w _
 have g4:(⟨S3.next,S3.heap.put S.next (.row 0 7 [bB h lv'])⟩:St).heap.get S.next=some (.row 0 7 [bB h lv']):=Tr.get_put_sameB _ _ _ trivial
 have g4b:(⟨S3.next,S3.heap.put S.next (.row 0 7 [bB h lv'])⟩:St).heap.get S1.next=some (.row 0 7 [zH]):=by
  show (S3.heap.put _ _).get _=_
  rw [Tr.get_put_neB _ _ _ _ trivial (by omega)]
  exact x3.old _ _ hg2
 have o4:Own S (⟨S3.next,S3.heap.put S.next (.row 0 7 [bB h lv'])⟩:St) 3 lv' (h.log.map bR):=
  (o3.weaken x02.next).but (fun y c hy hc=>by show (S3.heap.put _ _).get y=_;rw [Tr.get_put_neB _ _ _ _ trivial hy];exact hc) (Nat.le_refl _) g3 (by decide)
 generalize (⟨S3.next,S3.heap.put S.next (.row 0 7 [bB h lv'])⟩:St)=S4 at e4 x4 g4 g4b o4
 have va:aL (some 7) (.ptr S.next 0 0 0) S4=.ok (.agg (bB h lv')):=by rw [aY _ _ _ _ _ (aX g4)];exact cJ _ _ rfl
 obtain ⟨e5,e6⟩:=aAm g4b rfl (show (bB h lv').length=7 from rfl) (dW h ho3.one)
 have hlt5:S1.next<S4.next:=x4.wf w _ _ g4b
 have x5:Ext S (⟨S4.next,S4.heap.put S1.next (.row 0 7 [bB h lv'])⟩:St):=x4.set x1.next hlt5 w _
 have o5:Own S (⟨S4.next,S4.heap.put S1.next (.row 0 7 [bB h lv'])⟩:St) 3 lv' (h.log.map bR):=
  o4.but (fun y c hy hc=>by show (S4.heap.put _ _).get y=_;rw [Tr.get_put_neB _ _ _ _ trivial hy];exact hc) (Nat.le_refl _) g4b (by decide)
 refine e35 ?_
 simp only [m35,bK,ho,hln,aU,hn1,hn2,aG,eR,aF,Nat.reduceAdd,iC,xP,v6,tV,r3,aH7,aJg,e4,va,e5,e6]
 exact Ok.ret ⟨x5,lv',rfl,o5⟩
section
variable {S:St} {a b:Nat} {c:Core} {O:Nat→Prop}
theorem g14 (w:WF S) (h:CoreIn S a c O) (ok:Hok c.h):Does prog bC bD 14 [.ptr a 0 0 0] S (fun u S'=>Ext S S'∧∃ lv',u=.agg (bB c.h lv')∧Own S S' 3 lv' (c.h.log.map bR)):=by
 obtain ⟨S1,hn1,x1,hg1,hnx1⟩:=nb w 7 zH
 have w1:=x1.wf w
 have hll:=ok.ll
 obtain ⟨lv,wv,dv,ov,rows,h1,hO⟩:=h.ext w x1
 refine e14 ?_
 simp only [m14,hn1,aG,aT,dE,aF,Nat.reduceAdd,xP,h1.r_hard]
 refine Does.call (g35 c.h lv S1 w1 h1.log.sl (by omega)) fun u S2 ⟨x2,lv',e,o2⟩=>?_
 subst e
 have x02:=x1.trans x2
 have g2:=x2.old _ _ hg1
 have ho3:=o2.sl
 obtain ⟨e5,e6⟩:=aAm g2 rfl (show (bB c.h lv').length=7 from rfl) (dW c.h ho3.one)
 have hlt:S.next<S2.next:=x2.wf w1 _ _ g2
 have x3:Ext S (⟨S2.next,S2.heap.put S.next (.row 0 7 [bB c.h lv'])⟩:St):=x02.set (Nat.le_refl _) hlt w _
 have o3:Own S (⟨S2.next,S2.heap.put S.next (.row 0 7 [bB c.h lv'])⟩:St) 3 lv' (c.h.log.map bR):=
  (o2.weaken x1.next).but (fun y c hy hc=>by show (S2.heap.put _ _).get y=_;rw [Tr.get_put_neB _ _ _ _ trivial hy];exact hc) (Nat.le_refl _) g2 (by decide)
 simp only [aJg,e5,aG,e6]
 exact Ok.ret ⟨x3,lv',rfl,o3⟩
def oE (v:View):List V:=[.int .i64 v.role,.int .i64 v.leads,.int .i64 v.commit,.int .i64 v.last,.int .i64 v.left,.int .i64 v.members]
theorem aK1 (x1 x2 x3 x4 x5 x6:Int):bO prog 50 [(0,.int .i64 x1),(1,.int .i64 x2),(2,.int .i64 x3),(3,.int .i64 x4),(4,.int .i64 x5),(5,.int .i64 x6)]=.ok (.agg (oE ⟨x1,x2,x3,x4,x5,x6⟩)):=by rw [bAf];rfl
theorem g17 (w:WF S) (h:CoreIn S a c O) (ok:Hok c.h):xD 17 [.ptr a 0 0 0] S (.agg (oE c.view)):=by
 obtain ⟨S1,hn1,x1,hg1,hnx1⟩:=nb w 6 [.int .i64 0,.int .i64 0,.int .i64 0,.int .i64 0,.int .i64 0,.int .i64 0]
 have w1:=x1.wf w
 have xb:Ext S1 (⟨S1.next+22,S1.heap⟩:St):=(Ext.refl S1).bump 22
 have in1:=h.ext w (x1.trans xb)
 have hin1:=in1
 obtain ⟨lv,wv,dv,ov,rows,h1,hO⟩:=h.ext w x1
 refine e17 ?_
 simp only [m17,hn1,aG,aT,gM,sJ,iX,nM,aF,Nat.reduceAdd,dY,bA,h1.r_role,h1.r_leads,h1.r_sure,h1.r_left]
 refine (g46 hin1 ok).call fun S2 x2=>?_
 have x12:=xb.trans x2
 have w2:=x12.wf w1
 have h2:=h1.ext w1 x12
 simp only [h2.r_role,h2.r_leads,h2.r_sure,h2.r_left,aG,cN,aU]
 refine (g47 w2 (h.ext w (x1.trans x12)) ok).call fun S3 x3=>?_
 have x13:=x12.trans x3
 have h3:=h1.ext w1 x13
 have g3:=x13.old _ _ hg1
 have hv:(⟨c.role,c.leads,c.sure,c.last,c.left,c.members⟩:View)=c.view:=rfl
 obtain ⟨e5,e6⟩:=aAm g3 rfl (show (oE c.view).length=6 from rfl) rfl
 have hlt:S.next<S3.next:=x13.wf w1 _ _ g3
 have x4:Ext S (⟨S3.next,S3.heap.put S.next (.row 0 6 [oE c.view])⟩:St):=(x1.trans x13).set (Nat.le_refl _) hlt w _
 simp only [h3.r_role,h3.r_leads,h3.r_sure,h3.r_left,aG,cN,aU,aK1,hv,aRt,e5,bAm,e6]
 exact Ok.ret ⟨rfl,x4⟩
end
end
section
variable [Guard]
def aLj (l:List Peer) (i:Nat):List Peer⊕List Peer:=.inr (l.set i { l.getD i ⟨0,0,0⟩ with off:=0 })
theorem bBg {l:List Peer} (h:l.length=7):fW aLj id (List.range 7) l=l.map fun p=>{ p with off:=0 }:=by
 obtain ⟨p0,p1,p2,p3,p4,p5,p6,rfl⟩:=lJ h
 rfl
theorem aPq {u:V} (hu:u=.nils∨(∃ a,u=.imm a)∨∃ a b d e f,u=.sl a b d e f) (t v i at' m:Int) (s:List UInt8) (l:List Entry):dJ zH [(0,1),(1,1),(2,1),(3,1),(4,1),(5,1),(6,1)] [(0,.int .i64 t),(1,.int .i64 v),(2,.int .i64 i),(3,.int .i64 at'),(4,.int .i64 m),(5,.str s),(6,u)]=
  .ok (.agg (bB ⟨t,v,i,at',m,s,l⟩ u)):=by
 rcases hu with rfl | ⟨a,rfl⟩ | ⟨a,b,d,e,f,rfl⟩<;>rfl
section
variable {S:St} {a b:Nat} {c:Core} {O:Nat→Prop}
theorem g22 (index:Int) (snap:List UInt8) (w:WF S) (h:CoreIn S a c O) (I:Inv c):
  Meth 22 [.ptr a 0 0 0,.int .i64 index,.str snap] a (c.compact index snap).1 S O (.int .i64 (c.compact index snap).2):=by
 have ok:=I.h
 have hr:=eP ok
 have hb0:=ok.b0
 have hll:=ok.ll
 have hs1:=I.s1
 have hin:=h
 obtain ⟨lv,wv,dv,ov,rows,h,hO⟩:=h
 have no:(index≤c.h.base∨c.sure<index∨snap=[]∨65536<snap.length)→c.compact index snap=(c,1):=fun hq=>by unfold Core.compact;rw [if_pos hq]
 have noS:c.compact index snap=(c,1)→Ok (fun k K=>K (.int .i64 1) S) (fun u S'=>u=.int .i64 (c.compact index snap).2∧∃ O',CoreIn S' a (c.compact index snap).1 O'∧Mv O S O' S'):=fun e=>by
  rw [e];exact Ok.ret ⟨rfl,O,hin,Mv.refl O S⟩
 refine e22 ?_
 simp only [m22,aT,dE,iX,fF,aF,Nat.reduceAdd,aG,dY,h.r_base,h.r_sure,fR,dF,qI,aU,yA,aAr,aHh]
 refine Ok.pickP (fun e=>noS (no (.inl e))) (fun e=>?_)
 refine Ok.pickP (fun e2=>noS (no (.inr (.inl e2)))) (fun e2=>?_)
 refine Ok.pickP (fun e3=>noS (no (.inr (.inr (.inl e3))))) (fun e3=>?_)
 refine Ok.pickP (fun e4=>noS (no (.inr (.inr (.inr (Int.ofNat_lt.1 e4)))))) (fun e4=>?_)
 have hn:¬ (index≤c.h.base∨c.sure<index∨snap=[]∨65536<snap.length):=fun q=>by
  rcases q with q | q | q | q
  ·exact e q
  ·exact e2 q
  ·exact e3 q
  ·exact e4 (Int.ofNat_lt.2 q)
 have hC:c.compact index snap=({ c with h:={ c.h with base:=index,baseTerm:=c.term index,members:=(ofM { c.h with log:=c.h.log.take (index - c.h.base).toNat }).1,snap:=snap,log:=c.h.log.drop (index - c.h.base).toNat },peers:=c.peers.map fun p=>{ p with off:=0 } },0):=by
  unfold Core.compact;rw [if_neg hn]
 rw [hC]
 have hlast:c.last=c.h.base+c.h.log.length:=rfl
 have hk0:0≤index - c.h.base:=by omega
 have hk1:index - c.h.base≤((c.h.log.map bR).length:Int):=by rw [List.length_map];omega
 have hw:wr .i64 (index - c.h.base)=index - c.h.base:=cR (by omega) (by omega)
 simp only [cL,hw]
 refine (g62 hin ok (n:=index) (by omega) (by omega)).call fun S1 x1=>?_
 have w1:=x1.wf w
 have h1:=h.ext w x1
 obtain ⟨S2,S3,q2,q3,x3,hg3,hn3⟩:=vb w1 7 zH (.agg (bB c.h lv)) rfl rfl (dW c.h h1.log.sl.one)
 rw [bK] at hg3
 have x03:=x1.trans x3
 have w3:=x3.wf w1
 have h3:=h.ext w x03
 have v6:aL none (.ptr S1.next 0 0 (0+6)) S3=.ok lv:=by rw [aY _ _ _ _ _ (aX hg3)];rfl
 obtain ⟨u1,r1,s1,_⟩:=sN aMs h3.log.sl (mS .i64 hk0 hk1) (Nat.zero_le _) (by rw [List.length_map];omega)
 have s1':Sl S3 3 u1 ((c.h.log.take (index - c.h.base).toNat).map bR):=by rw [List.drop_zero] at s1;rw [List.map_take];exact s1
 have e5:=cX (S:=S3) (x:=u1) (j:=0+6) (m:=1) hg3 (by rw [dV s1'];rfl) (by rw [dV s1'];simp [aK,s1'.one]) (by show 0+6+1≤7;omega)
 have c5:splice (bB c.h lv) (0+6) u1.cells=bB { c.h with log:=c.h.log.take (index - c.h.base).toNat } u1:=by rw [dV s1'];rfl
 rw [c5] at e5
 have hlt3:S1.next<S3.next:=w3 _ _ hg3
 have x4:Ext S (⟨S3.next,S3.heap.put S1.next (.row 0 7 [bB { c.h with log:=c.h.log.take (index - c.h.base).toNat } u1])⟩:St):=x03.set x1.next hlt3 w _
 have va:aL (some 7) (.ptr S1.next 0 0 0) (⟨S3.next,S3.heap.put S1.next (.row 0 7 [bB { c.h with log:=c.h.log.take (index - c.h.base).toNat } u1])⟩:St)=.ok (.agg (bB { c.h with log:=c.h.log.take (index - c.h.base).toNat } u1)):=by
  rw [aA4];exact cJ _ _ rfl
 have s4:Sl (⟨S3.next,S3.heap.put S1.next (.row 0 7 [bB { c.h with log:=c.h.log.take (index - c.h.base).toNat } u1])⟩:St) 3 u1 ((c.h.log.take (index - c.h.base).toNat).map bR):=
  s1'.but (fun y c hy hc=>by show (S3.heap.put _ _).get y=_;rw [Tr.get_put_neB _ _ _ _ trivial hy];exact hc) hg3 (by decide)
 generalize (⟨S3.next,S3.heap.put S1.next (.row 0 7 [bB { c.h with log:=c.h.log.take (index - c.h.base).toNat } u1])⟩:St)=S4 at e5 x4 va s4
 have w4:=x4.wf w
 simp only [aT,dE,eR,aF,aG,xP,iC,h1.r_hard,q2,aJg,q3,v6,r1,aH7,e5,va]
 have hr1:=h1.r_hard
 refine (g49 { c.h with log:=c.h.log.take (index - c.h.base).toNat } u1 S4 w4 s4 (by show (c.h.log.take _).length≤1000000;rw [List.length_take];omega) ok.b0 ok.b1).call fun S5 x5=>?_
 have x05:=x4.trans x5
 have w5:=x05.wf w
 have h5:=h.ext w x05
 have xc:Ext S5 (⟨S5.next+27,S5.heap⟩:St):=(Ext.refl S5).bump 27
 have hfree:(⟨S5.next+27,S5.heap⟩:St).heap.get (S5.next+22)=none:=iY w5 27 (S5.next+22) (by omega)
 obtain ⟨u2,r6,s6,_⟩:=sN aMs h5.log.sl (kR .i64 hk0 hk1) (by rw [List.length_map];omega) (Nat.le_refl _)
 rw [List.take_length,←List.map_drop] at s6
 have hdl:(c.h.log.drop (index - c.h.base).toNat).length≤200:=by rw [List.length_drop];omega
 obtain ⟨lv6,S6,r7,x6,o6,_⟩:=(s6.ext xc).copyAt2 (b:=32) xc (k:=S5.next+22) (by omega) (by show S5.next+22<S5.next+27;omega) hfree (by rw [List.length_map];omega) (by rw [List.length_map];unfold fO;omega)
 have x06:=x05.trans (xc.trans x6)
 have w6:=x06.wf w
 have h6:=h.ext w x06
 obtain ⟨S7,q7,h7,m7,_⟩:=h6.w_hardN w6 h w rfl (lv':=lv6) ⟨c.h.term,c.h.vote,index,c.term index,(ofM { c.h with log:=c.h.log.take (index - c.h.base).toNat }).1,snap,c.h.log.drop (index - c.h.base).toNat⟩ (o6.weaken (Nat.zero_le _)) (fun y hy=>Nat.le_trans x05.next (nN o6 hy).1)
 have mv7:Mv O S (own a lv6 wv dv ov) S7:=by rw [hO];exact MvB.mv w ((MvB.of (Mv.of x06) (Nat.le_refl _)).trans m7)
 have w7:=mv7.wf w
 simp only [mP,List.getElem?_cons_zero,List.getElem?_cons_succ,aA2,aT,dE,gL,vU,eR,aF,Nat.reduceAdd,aG,dY,iC,bA,h5.r_term,h5.r_vote,h5.r_log,r6,tV,r7,h6.r_vote,h6.r_term,cN,aU,aVe,aPq (Sl.isv o6.sl) _ _ _ _ _ _ (c.h.log.drop (index - c.h.base).toNat),aJg,q7]
 refine Ok.loopL (F:=fun k K=>aEh (aC prog bC bD k) k K (.ptr a 0 0 0)) (ρ:=List Peer) (α:=Nat) (X:=List Peer) (List.range 7) (step:=aLj) (fin:=id) (s:=c.peers)
  (out:=fun k K _ S'=>K (.int .i64 0) S')
  (fun i l vs S'=>vs=[.int .i64 (i:Int)]∧WF S'∧∃ O',CoreIn S' a { c with h:=⟨c.h.term,c.h.vote,index,c.term index,(ofM { c.h with log:=c.h.log.take (index - c.h.base).toNat }).1,snap,c.h.log.drop (index - c.h.base).toNat⟩,peers:=l } O'∧Mv O S O' S')
  (fun l x S'=>∃ O',CoreIn S' a { c with h:=⟨c.h.term,c.h.vote,index,c.term index,(ofM { c.h with log:=c.h.log.take (index - c.h.base).toNat }).1,snap,c.h.log.drop (index - c.h.base).toNat⟩,peers:=l } O'∧Mv O S O' S') ?_ ?_ ⟨rfl,w7,_,⟨_,_,_,_,_,h7,rfl⟩,mv7⟩ (fun l S9 ⟨O9,in9,m9⟩=>?_)
 ·rintro i i' l vs S8 ⟨rfl,w8,O8,in8,m8⟩ hi
  obtain ⟨hil,hj⟩:=List.getElem?_eq_some_iff.1 hi
  rw [List.length_range] at hil
  rw [List.getElem_range] at hj
  subst hj
  have hlt:(i:Int)<7:=Int.ofNat_lt.2 hil
  have hwi:=fG hil (by decide)
  obtain ⟨lv8,wv8,dv8,ov8,rows8,h8,hO8⟩:=in8
  obtain ⟨S9,q9,h9,m9,_⟩:=h8.w_off w8 hil 0
  rw [←hO8] at m9
  simp only [aEh,bE,bG,aG,hlt,decide_true,bT,aT,pM,aAy,cZ hil,aJf,aF,Nat.reduceAdd,st3,q9,bQ,hwi]
  exact OkL.next ⟨_,rfl,rfl,m9.wf w8,O8,⟨_,_,_,_,_,h9,hO8⟩,m8.trans w m9⟩
 ·rintro l vs S8 ⟨rfl,w8,O8,in8,m8⟩
  have hlt:¬ (((List.range 7).length:Nat):Int)<7:=by rw [List.length_range];decide
  refine ⟨l,⟨O8,in8,m8⟩,fun k K aO=>?_⟩
  simp only [aEh,bE,bG,aG,hlt,decide_false,aH]
 ·rw [bBg I.pl] at in9
  exact Ok.ret ⟨rfl,O9,in9,m9⟩
end
end
section
variable [Guard]
theorem mT:qK bC:=aF7 _ _ _
theorem aS8 {u:V} (hu:u=.nils∨(∃ a,u=.imm a)∨∃ a b d e f,u=.sl a b d e f) (id base wt:Int) (h:Hard):bO prog 88 [(0,.int .i64 id),(1,.agg (bB h u)),(2,.int .i64 1),(3,.int .i64 (-1)),(4,.int .i64 base),(5,.int .i64 wt),(6,.int .i64 wt)]=
  .ok (.agg (bP ⟨id,h,1,-1,base,wt,wt,0,List.replicate 7 ⟨0,0,0⟩,none,[]⟩ u .nilp .nils)):=by
 rw [bAh]
 rcases hu with rfl | ⟨a,rfl⟩ | ⟨a,b,d,e,f,rfl⟩<;>rfl
theorem aK2 (c:Core) {lv wv ov:V} (h1:lv.one=true) (h2:wv.one=true) (h3:ov.one=true) (hp:c.peers.length=7):aK (bP c lv wv ov)=true:=by
 obtain ⟨p0,p1,p2,p3,p4,p5,p6,e⟩:=lJ hp
 simp only [bP,bB,e,aK,List.map_cons,List.map_nil,List.flatten_cons,List.flatten_nil,jJ,List.cons_append,List.nil_append,List.all_cons,List.all_nil,h1,h2,h3,Bool.and_true]
 rfl
theorem g11 (id cV:Int) (h:Hard) (lv:V) (S:St) (w:WF S) (hgn:Guard.n≤S.next) (hs:Sl S 3 lv (h.log.map bR)) (hl:h.log.length≤1000000):
  Does prog bC bD 11 [.int .i64 id,.agg (bB h lv),.int .i64 cV] S (fun u S'=>Ext S S'∧match oH id h cV with
   | none=>u=.tup [.nilp,.int .i64 1]
   | some c=>∃ a O,u=.tup [.ptr a 0 0 0,.int .i64 0]∧CoreIn S' a c O∧∀ y,O y→S.next≤y):=by
 have ho:=dW h hs.one
 have hln:(bB h lv).length=7:=rfl
 obtain ⟨S1,hn1,x1,hg1,hnx1⟩:=nb w 7 (bB h lv)
 have w1:=x1.wf w
 have va:∀ {T:St},T.heap.get S.next=some (.row 0 7 [bB h lv])→aL (some 7) (.ptr S.next 0 0 0) T=.ok (.agg (bB h lv)):=fun hg=>by rw [aY _ _ _ _ _ (aX hg)];exact cJ _ _ hln
 have v2:∀ {T:St},T.heap.get S.next=some (.row 0 7 [bB h lv])→aL none (.ptr S.next 0 0 2) T=.ok (.int .i64 h.base):=fun hg=>by rw [aY _ _ _ _ _ (aX hg)];rfl
 have no:(id<0∨7≤id∨iD h=false)→oH id h cV=none:=fun q=>by unfold oH;rw [if_pos q]
 refine e11 ?_
 simp only [m11,bK,ho,hln,aU,hn1,aG,bG,eX,xP,va hg1]
 refine Ok.pickP (fun e=>Ok.ret ⟨x1,by rw [no (.inl e)]⟩) (fun e=>?_)
 refine Ok.pickP (fun e2=>Ok.ret ⟨x1,by rw [no (.inr (.inl e2))]⟩) (fun e2=>?_)
 refine (g33 h lv S1 w1 (hs.ext x1) hl).call fun S2 x2=>?_
 have x02:=x1.trans x2
 have w2:=x2.wf w1
 simp only [fE,aG]
 refine Ok.pick (fun e3=>Ok.ret ⟨x02,by rw [no (.inr (.inr (by simpa using e3)))]⟩) (fun e3=>?_)
 have hy:¬ (id<0∨7≤id∨iD h=false):=fun q=>by
  rcases q with q | q | q
  ·exact e q
  ·exact e2 q
  ·rw [q] at e3;cases e3
 have hN:oH id h cV=some ⟨id,h,1,-1,h.base,dH cV,dH cV,0,List.replicate 7 ⟨0,0,0⟩,none,[]⟩:=by unfold oH;rw [if_neg hy]
 refine (g34 cV S2).call fun S3 x3=>?_
 have x03:=x02.trans x3
 have w3:=x3.wf w2
 have g3:=x3.old _ _ (x2.old _ _ hg1)
 have xb:Ext S3 (⟨S3.next+11,S3.heap⟩:St):=(Ext.refl S3).bump 11
 have wb:=xb.wf w3
 simp only [fF,aF,Nat.reduceAdd,aG,dY,bA,va g3,v2 g3]
 refine Does.call (Does.dead mT (g35 h lv (⟨S3.next+11,S3.heap⟩:St) wb ((hs.ext x03).ext xb) hl)) fun u S4 ⟨⟨x4,lv',e4,o4⟩,d4⟩=>?_
 subst e4
 have x34:=xb.trans x4
 have w4:=x34.wf w3
 have g4:=x34.old _ _ g3
 obtain ⟨f1,f2⟩:=kP w3 (n:=11) d4 (k:=S3.next+8) (by omega) (by omega)
 have ho4:=o4.sl
 have hcl:(bP ⟨id,h,1,-1,h.base,dH cV,dH cV,0,List.replicate 7 ⟨0,0,0⟩,none,[]⟩ lv' .nilp .nils).length=37:=dN _ _ _ _ rfl
 have hco:aK (bP ⟨id,h,1,-1,h.base,dH cV,dH cV,0,List.replicate 7 ⟨0,0,0⟩,none,[]⟩ lv' .nilp .nils)=true:=aK2 _ ho4.one rfl rfl rfl
 have x5:Ext S4 (⟨S4.next,S4.heap.put (S3.next+8) (.row 0 37 [bP ⟨id,h,1,-1,h.base,dH cV,dH cV,0,List.replicate 7 ⟨0,0,0⟩,none,[]⟩ lv' .nilp .nils])⟩:St):=Ext.newAt f1 f2 _
 have hx:=x03.next
 simp only [v2 g4,aG,cN,aU,aS8 (Sl.isv ho4),bK,hcl,hco,eE]
 refine Ok.ret ⟨(x03.trans x34).trans x5,?_⟩
 rw [hN]
 refine ⟨S3.next+8,own (S3.next+8) lv' .nilp .nils .nils,rfl,⟨lv',.nilp,.nils,.nils,[],⟨Tr.get_put_sameB _ _ _ trivial,rfl,(o4.ext x5).weaken (Nat.zero_le _),⟨rfl,rfl⟩,Own.nil _ _ _,.nil,Gd.nil (Nat.le_trans hgn ((x03.trans x34).trans x5).next)⟩,rfl⟩,fun y hy=>?_⟩
 rcases hy with hy | hy | hy | hy | hy
 ·omega
 ·have:=(nN o4 hy).1
  have h9:S3.next+11≤y:=this
  omega
 ·cases hy
 ·cases hy
 ·cases hy
end
section
section
variable [Guard]
end
structure Ask where
 kind:Int
 n:Int
 m:Letter
 ev:V
 data:List (List UInt8)
 dv:V
def aY1 (q:Ask):List V:=[.int .i64 q.kind,.int .i64 q.n]++aN q.m q.ev++[q.dv]
section
variable {S:St} {a:Nat} {q:Ask} (h:S.heap.get a=some (.row 0 16 [aY1 q]))
include h
end
end
end Go.Proofs.Ytbiidlmhadihlaa
end
section
namespace Go.Raft
open Go.AM
theorem aHl (c:Core) (f:Int):(c.send f).out.length=c.out.length+1:=by
 unfold Core.send;simp only;split<;>simp [Core.post]
theorem aB0 (g:Core→Int→Core) (hg:∀ c f,(g c f).out.length=c.out.length+1):∀ (l:List Int) (c:Core),(l.foldl g c).out.length=c.out.length+l.length
 | [],c=>rfl
 | f::l,c=>by rw [List.foldl_cons,aB0 g hg l,hg,List.length_cons];omega
theorem aB1 (c:Core):c.others.length≤7:=Nat.le_trans (List.length_filter_le _ _) (List.length_filter_le _ _)
theorem aB2 (c:Core):c.spread.out.length≤c.out.length+7:=by
 have h:=aB1 c
 unfold Core.spread
 split
 ·rw [aB0 _ aHl];omega
 ·omega
theorem aHm (c:Core):c.look.out=c.out:=by
 unfold Core.look;simp only;split<;>rfl
theorem yI (c:Core):c.own.out.length≤c.out.length+7:=by
 unfold Core.own
 have h:=aB2 (c.setPeer c.id { c.peer c.id with mtch:=c.last }).look
 rw [aHm] at h
 exact h
theorem aHn (c:Core):c.lead.out.length≤c.out.length+7:=by
 unfold Core.lead
 simp only
 split
 ·exact yI _
 ·exact yI _
theorem aMu (c:Core):c.stand.out.length≤c.out.length+7:=by
 unfold Core.stand
 simp only
 split
 ·exact aHn _
 ·rw [aB0 _ (fun d f=>by simp [Core.post])]
  have h:=aB1 ({ c with h:={ c.h with term:=c.h.term+1,vote:=c.id },role:=2,leads:=-1,votes:=(2:Int) ^ c.id.toNat }:Core)
  exact Nat.add_le_add_left h _
theorem aPr (c:Core) (d:Int):(c.tick d).out.length≤c.out.length+7:=by
 unfold Core.tick
 simp only
 split
 ·exact Nat.le_add_right _ _
 ·split
  ·exact aB2 _
  ·split
   ·exact aMu _
   ·exact Nat.le_add_right _ _
theorem fA (c:Core) (m:Letter):(c.post m).out.length≤c.out.length+7:=by simp [Core.post]
theorem wA (c:Core) (f:Int):(c.send f).out.length≤c.out.length+7:=by rw [aHl];omega
theorem aPs (c:Core) (m:Letter):(c.take m).out.length≤c.out.length+7:=by
 unfold Core.take
 split
 ·exact Nat.le_add_right _ _
 ·generalize hc:(if c.h.term<m.term then { c with h:={ c.h with term:=m.term,vote:=-1 },role:=1,leads:=-1 } else c:Core)=d
  have hd:d.out=c.out:=by rw [←hc];split<;>rfl
  rw [←hd]
  simp only
  split
  ·unfold Core.late;split
   ·exact fA _ _
   ·split
    ·exact fA _ _
    ·exact Nat.le_add_right _ _
  split
  ·unfold Core.asked;simp only;split
   ·exact fA _ _
   ·exact fA _ _
  split
  ·unfold Core.voted;split
   ·exact Nat.le_add_right _ _
   ·simp only;split
    ·exact aHn _
    ·exact Nat.le_add_right _ _
  split
  ·unfold Core.appended;split
   ·exact Nat.le_add_right _ _
   ·split
    ·exact Nat.le_add_right _ _
    ·simp only;split
     ·exact fA _ _
     ·split
      ·exact fA _ _
      ·exact fA _ _
  split
  ·unfold Core.acked;split
   ·exact Nat.le_add_right _ _
   ·simp only;split
    ·exact wA _ _
    ·split
     ·exact Nat.le_add_right _ _
     ·have h1:(d.setPeer m.from' ⟨m.index+1,m.index,0⟩).look.out=d.out:=aHm _
      split
      ·have h2:=wA (d.setPeer m.from' ⟨m.index+1,m.index,0⟩).look m.from'
       rw [h1] at h2;exact h2
      ·rw [h1];exact Nat.le_add_right _ _
  split
  ·unfold Core.installed;split
   ·exact Nat.le_add_right _ _
   ·simp only;split
    ·exact fA _ _
    ·have h1:(if m.off=0 then { d.hear m.from' with way:=some ⟨m.index,m.at',m.size,[]⟩ } else d.hear m.from':Core).out=d.out:=by split<;>rfl
     generalize (if m.off=0 then { d.hear m.from' with way:=some ⟨m.index,m.at',m.size,[]⟩ } else d.hear m.from':Core)=e at h1
     rw [←h1]
     split
     ·exact fA _ _
     ·split
      ·exact fA _ _
      ·split
       ·split
        ·exact fA _ _
        ·exact fA _ _
       ·split
        ·exact fA _ _
        ·exact fA _ _
  split
  ·unfold Core.more;simp only;split
   ·exact Nat.le_add_right _ _
   ·exact wA _ _
  ·exact Nat.le_add_right _ _
theorem aHo (c:Core) (data:List (List UInt8)):(c.propose data).1.out.length≤c.out.length+7:=by
 unfold Core.propose
 split
 ·exact Nat.le_add_right _ _
 ·split
  ·exact Nat.le_add_right _ _
  ·exact yI _
theorem aK3 (c:Core) (n:Int):(c.change n).1.out.length≤c.out.length+7:=by
 unfold Core.change
 simp only
 split
 ·exact Nat.le_add_right _ _
 ·exact yI _
theorem aHp (c:Core) (n:Int) (s:List UInt8):(c.compact n s).1.out.length≤c.out.length+7:=by
 unfold Core.compact
 split
 ·exact Nat.le_add_right _ _
 ·exact Nat.le_add_right _ _
end Go.Raft
end
section
namespace Go.Proofs.Ytbiidlmhadihlaa
open Go.AM Go.Raft Try
section
variable [Guard]
theorem bBh:bC 10=some (.spec (Sp.told.run prog)):=by kernel_rfl
theorem g10 (S:St):Does prog bC bD 10 [] S (fun u S'=>u=.bool true∧S'=S):=Does.step bBh (v:=.bool true) (S':=S) rfl ⟨rfl,rfl⟩
theorem wC (a b:Entry):aD prog .neq 59 (.agg (bR a)) (.agg (bR b))=.ok (.bool (!decide (a=b))):=by
 have h:=bAj a.term a.members a.data b.term b.members b.data
 simp only [aD,bR,h]
 congr 3
 obtain ⟨x,y,z⟩:=a
 obtain ⟨x',y',z'⟩:=b
 simp only [Entry.mk.injEq,aHf]
 by_cases h1:x=x'<;>by_cases h2:y=y'<;>by_cases h3:z=z'<;>simp [h1,h2,h3]
theorem aB3 (a b:List V):aJ prog 59 (.agg a) (.agg b)=true:=congrFun (congrFun bAk a) b
structure Seen (S:St) (c d:Core) (b1 b2 b3:Nat) (la lb:V):Prop where
 h1:S.heap.get b1=some (.row 0 7 [bB c.h la])
 h2:S.heap.get b2=some (.row 0 6 [oE c.view])
 h3:S.heap.get b3=some (.row 0 7 [bB d.h lb])
 la:Sl S 3 la (c.h.log.map bR)
 lb:Sl S 3 lb (d.h.log.map bR)
theorem Seen.ext {S S':St} {c d:Core} {b1 b2 b3:Nat} {la lb:V} (h:Seen S c d b1 b2 b3 la lb) (x:Ext S S'):Seen S' c d b1 b2 b3 la lb:=
 ⟨x.old _ _ h.h1,x.old _ _ h.h2,x.old _ _ h.h3,h.la.ext x,h.lb.ext x⟩
section
variable {S:St} {a:Nat} {h:Hard} {lv:V} (g:S.heap.get a=some (.row 0 7 [bB h lv]))
include g
theorem uE:aL none (.ptr a 0 0 0) S=.ok (.int .i64 h.term):=by rw [aY _ _ _ _ _ (aX g)];rfl
theorem jA:aL none (.ptr a 0 0 2) S=.ok (.int .i64 h.base):=by rw [aY _ _ _ _ _ (aX g)];rfl
theorem sO:aL none (.ptr a 0 0 6) S=.ok lv:=by rw [aY _ _ _ _ _ (aX g)];rfl
theorem aPt:aL (some 7) (.ptr a 0 0 0) S=.ok (.agg (bB h lv)):=by rw [aY _ _ _ _ _ (aX g)];exact cJ _ _ rfl
end
section
variable {S:St} {a:Nat} {v:View} (g:S.heap.get a=some (.row 0 6 [oE v]))
include g
theorem qO:aL none (.ptr a 0 0 2) S=.ok (.int .i64 v.commit):=by rw [aY _ _ _ _ _ (aX g)];rfl
end
end
section
variable [Guard]
theorem aHq (a b c d:Nat):aD prog .eql 28 (.ptr a b c d) .nilp=.ok (.bool false):=by
 have h:(fun a b c d=>aD prog .eql 28 (.ptr a b c d) .nilp)=fun _ _ _ _=>.ok (.bool false):=by kernel_rfl
 exact congrFun (congrFun (congrFun (congrFun h a) b) c) d
theorem aHr (a b c d:Nat):aJ prog 28 (.ptr a b c d) .nilp=true:=by
 have h:(fun a b c d=>aJ prog 28 (.ptr a b c d) .nilp)=fun _ _ _ _=>true:=by kernel_rfl
 exact congrFun (congrFun (congrFun (congrFun h a) b) c) d
theorem aPu {S:St} {Q:V→St→Prop} (h:Q (.bool true) S):Ok (fun k K=>aC prog bC bD k 10 [] S fun t S'=>K t S') Q:=
 Does.call (g10 S) fun u S' ⟨e,e2⟩=>by subst e;subst e2;exact Ok.ret h
section
variable {S:St} {p:V} {q:Ask} (h:At S p (aY1 q))
include h
end
end
end Go.Proofs.Ytbiidlmhadihlaa
end
section
namespace Go.AM
open Go.RowKit Go.ChangeShapes
section
def Gh.all (W:World):Gh:={ Gh.none with pr:=fun b=>W.heap[b]? }
theorem aS9 (W:World):hZ (fun i=>W.heap[i]?) (Gh.all W) St.empty W.heap:=
 ⟨fun _ _=>⟨rfl,rfl⟩,fun _ _ h=>(by cases h),fun a b h=>(by cases h),fun a a' b b' i h=>(by cases h),fun i o h=>h,fun i o h=>h,fun a b i h=>(by cases h),
  fun a i h=>(by rcases h with ⟨L,h,_⟩ | h<;>cases h),fun a b h=>(by cases h)⟩
theorem aHs {P:Program} {pl:fI} (hp:PlansOK P pl) {k:Nat} {f:FuncId} {args:List V} {S':St} (h:gY P pl k f args St.empty=.ok (.bool true,S')) (W:World) {cs:List Value} (hc:VRs (Gh.all W) args cs):
  Calls P f cs.toArray W fun e W'=>e=.returned (.bool true)∧Below W.heap.size W W':=by
 refine ((oU hp k).calls h (aS9 W) hc).mono ?_
 rintro e W' ⟨G',w,rfl,q1,q2⟩
 cases q2
 refine ⟨rfl,q1.same.os,q1.same.tape,q1.same.output,q1.same.size,fun i hi=>?_⟩
 have:=Array.getElem?_eq_getElem hi
 rw [this]
 exact q1.rel.fr i _ this
theorem VRss.of {G:Gh}:∀ {l:List (List V×List Value)},(∀ x,x∈l→VRs G x.1 x.2)→VRss G (l.map (·.1)) (l.map (·.2))
 | [],_=>.nil
 | x::l,h=>.cons _ _ _ _ (h x (List.mem_cons_self ..)) (VRss.of fun y hy=>h y (List.mem_cons_of_mem _ hy))
section
variable {H:Type} {enc:TypeId×Value→H} {P:Program} {W:World} {sp:Nat→Bool} {held:Bool}
end
end
end Go.AM
end
section
namespace Go.Proofs.Ytbiidlmhadihlaa
open Go.AM Go.Raft Try
theorem aPv:WF St.empty:=fun a b h=>by cases h
theorem c3:prog.cellsOf 3=1:=by kernel_rfl
theorem c4:prog.cellsOf 4=1:=by kernel_rfl
theorem c9:prog.cellsOf 9=1:=by kernel_rfl
end Go.Proofs.Ytbiidlmhadihlaa
end
section
namespace Go.AM
open Go.ChangeShapes Go.WideShapes Go.ChangeAt Go.RowKit
theorem aC4 {H:Type} {enc:TypeId×Value→H} {P:Program} {f:Func} {s:ChangeSpec} {apart fresh handsOn:Bool} {W W':World} {args:Array Value} {v:Value} {ds gs:List (DataW H)} {before pa pv:List MemPlace}
  (hW:DataW.Whole enc P f.params.toList s.vars apart W args.toList ds gs before)
  (hres:∀ (b:Nat) (sp:Nat→Bool) (hd:Bool),DataW.TrodAll enc P W' b sp hd f.resultTypes.toList (v.resultList f.resultTypes.size) (s.fn H (ds++gs)).results [])
  (hargs:∀ sp:Nat→Bool,(∀ p∈before,sp p.block=true)→DataW.TrodAll enc P W' 0 sp true f.params.toList args.toList (s.fn H (ds++gs)).args pa)
  (hvars:∀ sp:Nat→Bool,(∀ p∈before,sp p.block=true)→DataW.TrodVars enc P W' sp s.vars (s.fn H (ds++gs)).vars pv)
  (hps:before=pa++pv) (hk:W.keptBut W' (·∈before)):
  s.post enc P f apart fresh handsOn false W args v W':=by
 have hold:∀ p∈before,(fun b=>decide (b<W.heap.size)) p.block=true:=fun p hp=>by simpa using hW.lt p hp
 refine ⟨ds,gs,before,[],pa,pv,hW,hres _ _ _,hargs _ hold,hvars _ hold,World.keptBut_mono (fun p hp=>⟨hp,?_⟩) hk,fun h=>by cases h⟩
 rw [hps,List.mem_append] at hp
 exact Or.inr hp
theorem aC5 {W W':World} (h:Below W.heap.size W W') (S:MemPlace→Prop):W.keptBut W' S:=Below.frame h S
theorem aMv {H:Type} {enc:TypeId×Value→H} {P:Program} {W:World} {t:TypeId} (ht:P.underlying t=some .bool) (b:Nat) (sp:Nat→Bool) (hd:Bool):
  DataW.TrodAll enc P W b sp hd [t] ((Value.bool true).resultList 1) [.lit (.bool true)] []:=
 trodAll_mk1 ⟨1,by simp [DataW.trod,Value.cells,ht]⟩
end Go.AM
end
section
namespace Go.AM
open Go.RowKit Go.ChangeShapes
section
theorem Does.calls {P:Program} {pl:fI} {lv:lW} (hp:PlansOK P pl) {f:FuncId} {args:List V} (h:Does P pl lv f args St.empty fun u _=>u=.bool true) (W:World) {cs:List Value} (hc:VRs (Gh.all W) args cs):
  Calls P f cs.toArray W fun e W'=>e=.returned (.bool true)∧Below W.heap.size W W':=by
 obtain ⟨k,v,S',hv,hk⟩:=h.says
 subst hv
 exact aHs hp hk W hc
section
variable {H:Type} {enc:TypeId×Value→H} {P:Program} {W:World} {sp:Nat→Bool} {held:Bool}
end
end
end Go.AM
end
