import Derived.Test.YtoaibmbldmckaaaGreatX4
set_option linter.unusedSimpArgs false
set_option linter.unusedVariables false
set_option linter.unusedSectionVars false
set_option maxRecDepth 100000
section
namespace Go.Proofs.YtoaibmbldmckaaaGreat
open Go.AM Tryz
theorem bQ4 (t:Total) (hf:aJr t) (S:St) (K:KW):C 121 [.agg [.int .i64 t.net,.int .i64 t.tax,.int .i64 t.gross,.imm (t.parts.map Part.enc)]] S K=K (.tup [.imm ((cC t).1.map Bal.enc),.int .i64 (cC t).2]) S:=by
 refine (bL6 rfl ?_).eq S K
 delta Tryz.f121;simp only [↓cw,↓reduceIte,Nat.reduceLT,kk,aY2,iI,gm]
 have hpl:=hf.1
 refine aF t.parts (step:=iN) (fin:=fun l=>(l,0)) (fun i s vs S=>∃ v,vs=[.nils,.int .i64 0,v,.int .i64 (i:Int)]∧Own E0 S 2 v (s.map Bal.enc)∧WF S∧s.length=1+2*i∧aA S 0 0=.ok (4,[t.enc])∧AM.blkOf v≠some 0∧2≤S.next) (fun r=>r=cC t) ?_ ?_ (s:=[⟨[111,119,101,100],t.gross⟩]) ⟨_,rfl,⟨.inr ⟨1,0,[],rfl,Nat.zero_le _,Nat.lt_succ_self 1,rfl⟩,?_⟩,hM (hM (m:=1) nK (by decide) (by decide)) (by decide) (by decide),rfl,rfl,fun h=>(by cases h),Nat.le_refl _⟩ rfl
 ·rintro i p s vs S hi ⟨v,rfl,own,w,hsl,r0,hv0,hn⟩ aE H
  have hil:=(List.getElem?_eq_some_iff.1 hi).1
  have hcat:=hf.2 p (List.mem_of_getElem? hi)
  simp only [↓cw,↓reduceIte,Nat.reduceLT,iN,kk] at H
  have e1:vV.length+p.cat.length<2000000:=by simp only [vV,List.length_cons,List.length_nil];omega
  have e2:vW.length+p.cat.length<2000000:=by simp only [vW,List.length_cons,List.length_nil];omega
  have c1:=aBo (P:=prog) (t:=9) e1
  have c2:=aBo (P:=prog) (t:=9) e2
  simp only [vV,vW] at c1 c2
  simp only [Total.enc] at r0
  simp only [↓cw,↓reduceIte,Nat.reduceLT,kk,r0,bL hi,if_true,iT hi,Part.enc,iE (show i<1000000000 by omega),bDh,dF,gm,c1,c2,bCh]
  by_cases h1:(bR 0 p.net).2=0
  ·by_cases h2:(bR 0 p.tax).2=0
   ·simp only [↓cw,↓reduceIte,Nat.reduceLT,h1,h2,kk,not_true_eq_false,if_false] at H ⊢
    have f1:S.heap.get (S.next+19)=none:=fresh w (by omega)
    have f2:S.heap.get (S.next+20)=none:=fresh w (by omega)
    have w1:WF ⟨S.next+22,S.heap.put (S.next+19) (.row 0 2 [Bal.enc ⟨vV++p.cat,(bR 0 p.net).1⟩,Bal.enc ⟨vW++p.cat,(bR 0 p.tax).1⟩])⟩:=hM (n:=S.next) w (by omega) (by omega)
    have o1:Own E0 ⟨S.next+22,S.heap.put (S.next+19) (.row 0 2 [Bal.enc ⟨vV++p.cat,(bR 0 p.net).1⟩,Bal.enc ⟨vW++p.cat,(bR 0 p.tax).1⟩])⟩ 2 v (s.map Bal.enc):=own.same (by show S.next≤S.next+22;omega) fun a ha=>Tr.get_put_neB _ _ _ _ trivial (by have:=(fG own ha).2;omega)
    have hu:aO ⟨S.next+22,S.heap.put (S.next+19) (.row 0 2 [Bal.enc ⟨vV++p.cat,(bR 0 p.net).1⟩,Bal.enc ⟨vW++p.cat,(bR 0 p.tax).1⟩])⟩ (.sl (S.next+19) 0 2 0 2)=.ok [Bal.enc ⟨vV++p.cat,(bR 0 p.net).1⟩,Bal.enc ⟨vW++p.cat,(bR 0 p.tax).1⟩]:=by
     simp only [aO,aC];rfl
    have f3:(⟨S.next+22,S.heap.put (S.next+19) (.row 0 2 [Bal.enc ⟨vV++p.cat,(bR 0 p.net).1⟩,Bal.enc ⟨vW++p.cat,(bR 0 p.tax).1⟩])⟩:St).heap.get (S.next+20)=none:=by
     show (S.heap.put (S.next+19) _).get (S.next+20)=none
     rw [Tr.get_put_neB _ _ _ _ trivial (by omega)];exact f2
    obtain ⟨v',S',q1,q2,q3,q4,q5,q6⟩:=o1.pushAt (b:=24) (k:=S.next+20) (aD8 w1) nK hu (fun d hd=>by
     rcases List.mem_cons.1 hd with rfl | hd
     ·exact aEm _
     ·rcases List.mem_cons.1 hd with rfl | hd
      ·exact aEm _
      ·cases hd) (by simp) (Nat.zero_le _) (by show S.next+20<S.next+22;omega) f3 (by simp;omega) (by simp [dR];omega)
    simp only [↓cw,↓reduceIte,Nat.reduceLT,Bal.enc,vV,vW,kk] at q1
    simp only [↓cw,↓reduceIte,Nat.reduceLT,q1,kk]
    have wS:WF S':=q2.wf nK
    have hnn:S'.next=S.next+22:=q3
    refine H _ _ ⟨_,rfl,by rw [List.map_append];exact q4,wS,by rw [List.length_append,hsl];simp;omega,?_,?_,by omega⟩
    ·refine aQ (S:=S) r0 ?_
     rw [q6 0 (by omega) hv0]
     exact Tr.get_put_neB _ _ _ _ trivial (by omega)
    ·rcases q5 with e | e
     ·rw [e];intro h;cases h
     ·rw [e];exact hv0
   ·simp only [↓cw,↓reduceIte,Nat.reduceLT,h1,h2,kk,not_true_eq_false,not_false_eq_true,if_false,if_true] at H ⊢
    simp only [oo,←H,List.map_nil]
  ·simp only [↓cw,↓reduceIte,Nat.reduceLT,h1,kk,not_false_eq_true,if_true] at H ⊢
   simp only [oo,←H,List.map_nil]
 ·rintro s vs S ⟨v,rfl,own,w,hsl,r0,hv0,hn⟩ aE H
  have H':cC t=(s,0):=H.symm
  simp only [Total.enc] at r0
  simp only [↓cw,↓reduceIte,Nat.reduceLT,kk,r0,Int.lt_irrefl,if_false,oo,own.frz (cR (fun _=>rfl) _),H']
 ·intro c hc;simp at hc;subst hc;exact ⟨rfl,rfl⟩
theorem bKh (book l:List Bal) (hbb:book.length+l.length<1000000) (S:St) (K:KW):C 122 [.imm (book.map Bal.enc),.imm (l.map Bal.enc)] S K=K (.tup [.imm ((bC book l).1.map Bal.enc),.int .i64 (bC book l).2]) S:=by
 refine (bNc rfl ?_).eq S K
 simp only [aXh,kk,bPp book (by omega),bC]
 cases h:uY book
 ·simp only [h,kk,Bool.not_false,if_true,oo,List.map_nil]
 simp only [h,kk,Bool.not_true,Bool.true_eq_false,Bool.false_eq_true,if_false,bs0]
 have q0:=aVz (b:=24) aEm book (S:=⟨0+1,Tr.nil.put 0 (.row 0 2 [])⟩) (a:=0) (aC _ _ _ _ _ _) (by omega) (by unfold dR;omega) none
 simp only [q0]
 refine aF l (step:=bD) (fin:=fun l=>(l,0)) (fun i cur vs X=>∃ a ver,vs=[.nils,.int .i64 0,.sl a ver 2 0 cur.length,.int .i64 (i:Int)]∧X.heap.get a=some (.row ver 2 (cur.map Bal.enc))∧WF X∧cur.length≤book.length+i) (fun r=>r=aD bD (fun l=>(l,0)) l book) ?_ ?_ (s:=book) ⟨0,1,rfl,Tr.get_put_sameB _ _ _ trivial,hM (n:=1) (hM nK (by decide) (by decide)) (by decide) (by decide),Nat.le_refl _⟩ rfl
 ·rintro i x cur vs X hi ⟨a,ver,rfl,hg,w,hlen⟩ aE H
  have hil:=(List.getElem?_eq_some_iff.1 hi).1
  have haX:=w _ _ hg
  have hpl:=nU cur x.acc
  have hroom:(bI cur x.acc).length≤cur.length+1:=by
   unfold bI
   split
   ·rw [mM _ _ _ hpl];exact Nat.le_refl _
   ·omega
  have hj1:∀ (a' ver':Nat) (Y:St),Y.heap.get a'=some (.row ver' 2 ((bI cur x.acc).map Bal.enc))→WF Y→aBf C (fun v0 S0=>gK S0 v0=Except.ok (V.tup [.imm ((aD bD (fun l=>(l,0)) l book).1.map Bal.enc),.int .i64 (aD bD (fun l=>(l,0)) l book).2])) aE (.imm (l.map Bal.enc)) .nils (.int .i64 0) (.sl a' ver' 2 0 (bI cur x.acc).length) (.int .i64 (i:Int)) (.int .i64 (aI cur x.acc:Int)) Y:=by
   intro a' ver' Y hY wY
   have hlt:aI cur x.acc<(bI cur x.acc).length:=by
    by_cases c:aI cur x.acc<cur.length
    ·unfold bI
     split
     ·rw [mM _ _ _ hpl];omega
     ·exact c
    ·have hm:fA cur x.acc=true:=by unfold fA;rw [List.getElem?_eq_none (by omega)]
     unfold bI
     rw [if_pos hm,mM _ _ _ hpl];omega
   obtain ⟨r,hr⟩:∃ r,(bI cur x.acc)[aI cur x.acc]?=some r:=⟨_,List.getElem?_eq_getElem hlt⟩
   have hr':((bI cur x.acc).map Bal.enc)[aI cur x.acc]?=some r.enc:=by rw [List.getElem?_map,hr];rfl
   have hld:∀ m,jH none (.ptr a' ver' (aI cur x.acc) 1) ⟨m,Y.heap⟩=.ok (.int .i64 r.amount):=fun m=>by
    rw [aR9 (X:=⟨m,Y.heap⟩) hY hr'];rfl
   have hst:=bCs (X:=⟨Y.next+16,Y.heap⟩) (v:=.int .i64 (cS r.amount x.amount).1) (j:=1) hY hr' rfl rfl (by show 1+1≤2;decide)
   simp only [bD,hr] at H
   simp only [aBf,kk,aGi hlt,hld,oC hi,Bal.enc,bIr,dF,iE (show i<1000000000 by omega),Nat.zero_add]
   by_cases c:(cS r.amount x.amount).2=0
   ·simp only [c,not_true_eq_false,if_false] at H ⊢
    have hst':fV 1 (.ptr a' ver' (aI cur x.acc) 1) (.int .i64 (cS r.amount x.amount).1) ⟨Y.next+16,Y.heap⟩=.ok ⟨Y.next+16,Y.heap.put a' (.row ver' 2 (((bI cur x.acc).map Bal.enc).set (aI cur x.acc) (splice r.enc 1 [.int .i64 (cS r.amount x.amount).1])))⟩:=hst
    simp only [hst',kk]
    have hset:((bI cur x.acc).map Bal.enc).set (aI cur x.acc) (splice r.enc 1 [.int .i64 (cS r.amount x.amount).1])=((bI cur x.acc).set (aI cur x.acc) ⟨r.acc,(cS r.amount x.amount).1⟩).map Bal.enc:=by rw [List.map_set];rfl
    rw [hset]
    refine H _ _ ⟨a',ver',by rw [List.length_set],Tr.get_put_sameB _ _ _ trivial,hM (n:=Y.next+16) (fun b c hb=>by have:=wY b c hb;show b<Y.next+16;omega) (by have:=wY _ _ hY;omega) (Nat.le_refl _),by rw [List.length_set];omega⟩
   ·simp only [c,ne_eq,not_false_eq_true,if_true] at H ⊢
    simp only [oo,←H,List.map_nil]
  have hj2:∀ Y:St,Y.heap=X.heap→X.next≤Y.next→yG C (fun v0 S0=>gK S0 v0=Except.ok (V.tup [.imm ((aD bD (fun l=>(l,0)) l book).1.map Bal.enc),.int .i64 (aD bD (fun l=>(l,0)) l book).2])) aE (.imm (l.map Bal.enc)) .nils (.int .i64 0) (.sl a ver 2 0 cur.length) (.int .i64 (i:Int)) (.int .i64 (aI cur x.acc:Int)) (.bool (fA cur x.acc)) Y:=by
   intro Y hh hn
   have wY:WF Y:=fun b c hb=>by rw [hh] at hb;have:=w b c hb;omega
   have hgY:Y.heap.get a=some (.row ver 2 (cur.map Bal.enc)):=by rw [hh];exact hg
   cases hm:fA cur x.acc
   ·have e:bI cur x.acc=cur:=by unfold bI;rw [hm];rfl
    have:=hj1 a ver Y (by rw [e];exact hgY) wY
    rw [e] at this
    simp only [yG,kk,Bool.false_eq_true,if_false]
    exact this
   ·have e:bI cur x.acc=eG cur (aI cur x.acc) ⟨x.acc,0⟩:=by unfold bI;rw [hm];rfl
    obtain ⟨Z,hZ⟩:∃ Z:St,Z=⟨Y.next+18,Y.heap.put Y.next (.row 0 2 [])⟩:=⟨_,rfl⟩
    have wZ:WF Z:=by rw [hZ];exact hM (n:=Y.next) wY (by omega) (by omega)
    have gZ:aA Z Y.next 0=.ok (2,[]):=by rw [hZ];exact aC _ _ _ _ _ _
    have nZ:Z.next=Y.next+18:=by rw [hZ]
    have sZ:Z.heap.get a=some (.row ver 2 (cur.map Bal.enc)):=by rw [hZ];show (Y.heap.put Y.next _).get a=_;rw [Tr.get_put_neB _ _ _ _ trivial (by omega)];exact hgY
    obtain ⟨S1,S2,S3,q1,m1,q2,q3,n3,w3,g3,k1,k3⟩:=bK9 (b:=24) aEm cur ⟨x.acc,0⟩ hpl (S:=Z) (k1:=Y.next) (k2:=Y.next+11) (m:=Z.next) (s:=a) (vs:=ver) (by omega) (by omega) (by omega) sZ (by omega) (Nat.le_refl _) gZ wZ (by omega) (by omega) (by unfold dR;omega) (some (Y.next+4)) (some (Y.next+12)) (some (Y.next+16))
    have mm:∀ b,(⟨Z.next,S1.heap.put (Y.next+11) b⟩:St)=⟨S1.next,S1.heap.put (Y.next+11) b⟩:=fun b=>by rw [m1]
    rw [mm] at q2
    simp only [Bal.enc] at q2
    have b1:fR cur.length none (some (.int .i64 (aI cur x.acc:Int)))=.ok (0,aI cur x.acc):=by
     have:(decide ((0:Int)≤(aI cur x.acc:Int))&&decide ((aI cur x.acc:Int)≤(cur.length:Int)))=true:=by simp;omega
     simp only [fR,this,cond_true];rfl
    have b2:fR cur.length (some (.int .i64 (aI cur x.acc:Int))) none=.ok (aI cur x.acc,cur.length):=by
     simp only [fR];simp [hpl]
    have hfin:=hj1 Y.next 3 S3 (by rw [e];exact g3) w3
    have hrl:(bI cur x.acc).length=cur.length+1:=by rw [e,mM _ _ _ hpl]
    rw [hrl] at hfin
    simp only [yG,kk,if_true,bD9,b1,b2,oC hi,Bal.enc,bs0,Nat.add_zero,Nat.zero_add,Nat.sub_zero,←hZ,q1,aY2,q2,q3]
    exact hfin
  have hj0:∀ Y:St,Y.heap=X.heap→X.next≤Y.next→yH C (fun v0 S0=>gK S0 v0=Except.ok (V.tup [.imm ((aD bD (fun l=>(l,0)) l book).1.map Bal.enc),.int .i64 (aD bD (fun l=>(l,0)) l book).2])) aE (.imm (l.map Bal.enc)) .nils (.int .i64 0) (.sl a ver 2 0 cur.length) (.int .i64 (i:Int)) (.int .i64 (aI cur x.acc:Int)) Y:=by
   intro Y hh hn
   have h2:=hj2 ⟨Y.next+17,Y.heap⟩ hh (by show X.next≤Y.next+17;omega)
   by_cases c:aI cur x.acc<cur.length
   ·obtain ⟨r,hr⟩:∃ r,cur[aI cur x.acc]?=some r:=⟨_,List.getElem?_eq_getElem c⟩
    have hr':(cur.map Bal.enc)[aI cur x.acc]?=some r.enc:=by rw [List.getElem?_map,hr];rfl
    have hld:jH none (.ptr a ver (aI cur x.acc) 0) ⟨Y.next+17,Y.heap⟩=.ok (.str r.acc):=by
     rw [aR9 (X:=⟨Y.next+17,Y.heap⟩) (by rw [←hh] at hg;exact hg) hr'];rfl
    have hm:fA cur x.acc=!(r.acc == x.acc):=by unfold fA;rw [hr]
    rw [hm] at h2
    simp only [yH,kk,show ¬ ((aI cur x.acc:Nat):Int)=(cur.length:Int) by omega,if_false,aGi c,Nat.add_zero,hld,oC hi,Bal.enc]
    exact h2
   ·have e:aI cur x.acc=cur.length:=by omega
    have hm:fA cur x.acc=true:=by unfold fA;rw [List.getElem?_eq_none (by omega)]
    rw [hm] at h2
    simp only [yH,kk,show ((aI cur x.acc:Nat):Int)=(cur.length:Int) by omega,if_true]
    rw [show ((aI cur x.acc:Nat):Int)=(cur.length:Int) by omega] at h2
    exact h2
  simp only [aHj,kk,bL hi,if_true]
  refine aF cur (step:=eP (fun b:Bal=>fN b.acc x.acc)) (fin:=id) (fun k n vs Y=>n=k∧vs=[.int .i64 (k:Int)]∧Y.heap=X.heap∧X.next≤Y.next) (fun n=>n=aI cur x.acc) ?_ ?_ (s:=0) ⟨rfl,rfl,rfl,Nat.le_refl _⟩ rfl
  ·rintro k b n vs Y hk ⟨rfl,rfl,hh,hn⟩ again' H'
   have hkl:=(List.getElem?_eq_some_iff.1 hk).1
   have hk':(cur.map Bal.enc)[n]?=some b.enc:=by rw [List.getElem?_map,hk];rfl
   have hld:jH none (.ptr a ver n 0) ⟨Y.next+17,Y.heap⟩=.ok (.str b.acc):=by
    rw [aR9 (X:=⟨Y.next+17,Y.heap⟩) (by rw [←hh] at hg;exact hg) hk'];rfl
   simp only [eP] at H'
   simp only [aHi,kk,bL hk,if_true,aGi hkl,Nat.add_zero,hld,oC hi,Bal.enc,iE (show n<1000000000 by omega)]
   cases c:fN b.acc x.acc<;>simp only [c,kk,if_true,if_false,Bool.false_eq_true] at H' ⊢
   ·have H':n=aI cur x.acc:=H'
    rw [H']
    exact hj0 _ hh (by show X.next≤Y.next+17;omega)
   ·exact H' _ _ ⟨rfl,hh,by show X.next≤Y.next+17;omega⟩
  ·rintro n vs Y ⟨rfl,rfl,hh,hn⟩ again' H'
   have H':cur.length=aI cur x.acc:=H'
   simp only [aHi,kk,Int.lt_irrefl,if_false]
   have:=hj0 ⟨Y.next+17,Y.heap⟩ hh (by show X.next≤Y.next+17;omega)
   rw [←H'] at this
   exact this
 ·rintro cur vs X ⟨a,ver,rfl,hg,w,hlen⟩ aE H
  have H:(cur,(0:Int))=aD bD (fun l=>(l,0)) l book:=H
  obtain ⟨v,hv⟩:∃ v,v=V.sl a ver 2 0 cur.length:=⟨_,rfl⟩
  have own:=bK6 aEm (l:=cur) hg (w _ _ hg)
  rw [←hv] at own ⊢
  have of:=own.out fun _=>rfl
  simp only [aHj,kk,Int.lt_irrefl,if_false,oo,of,←H]
theorem yY {a b:Int} (h:(bR a b).2≠0):(bR a b).2=7:=by
 unfold bR at h ⊢
 split at h
 ·rename_i c;rw [if_pos c]
 ·exact absurd rfl h
theorem bQ5 (x y:Int):fJ [x,y]=if (bR 0 x).2≠0∨(bR 0 y).2≠0 then ([],7) else ([(bR 0 x).1,(bR 0 y).1],0):=by
 simp only [fJ,aD,nW]
 by_cases c1:(bR 0 x).2=0
 ·by_cases c2:(bR 0 y).2=0
  ·simp [c1,c2,aD]
  ·simp [c1,c2,aD,yY c2]
 ·simp [c1,aD,yY c1]
theorem bQ6 (x y z:Int):fJ [x,y,z]=if (bR 0 x).2≠0∨(bR 0 y).2≠0∨(bR 0 z).2≠0 then ([],7) else ([(bR 0 x).1,(bR 0 y).1,(bR 0 z).1],0):=by
 simp only [fJ,aD,nW]
 by_cases c1:(bR 0 x).2=0
 ·by_cases c2:(bR 0 y).2=0
  ·by_cases c3:(bR 0 z).2=0
   ·simp [c1,c2,c3,aD]
   ·simp [c1,c2,c3,aD,yY c3]
  ·simp [c1,c2,aD,yY c2]
 ·simp [c1,aD,yY c1]
set_option maxHeartbeats 2000000 in
theorem bQ7 (t:Total) (hf:t.parts.length≤1000) (S:St) (K:KW):C 197 [.agg [.int .i64 t.net,.int .i64 t.tax,.int .i64 t.gross,.imm (t.parts.map Part.enc)]] S K=K (aB3 (aV t)) S:=by
 refine (bM7 rfl ?_).eq S K
 have zero:∀ (X:St) (e:Int),gK X (.tup [.agg [.int .i64 0,.int .i64 0,.int .i64 0,.nils],.int .i64 e])=.ok (aB3 (Total.zero,e)):=fun X e=>by
  simp only [oo,aB3,Total.zero,List.map_nil]
 have hx:=bQ6 t.net t.tax t.gross
 delta Tryz.f197;simp only [↓cw,↓reduceIte,Nat.reduceLT,kk,gm,iI,bDh,dF]
 have bad:¬ ((bR 0 t.net).2=0∧(bR 0 t.tax).2=0∧(bR 0 t.gross).2=0)→aV t=(Total.zero,7):=fun h=>by
  unfold aV
  rw [hx]
  rw [if_pos (show (bR 0 t.net).2≠0∨(bR 0 t.tax).2≠0∨(bR 0 t.gross).2≠0 by by_cases a:(bR 0 t.net).2=0<;>by_cases b:(bR 0 t.tax).2=0<;>simp_all)]
  rfl
 by_cases c1:(bR 0 t.net).2=0
 rotate_left
 ·simp only [↓cw,↓reduceIte,Nat.reduceLT,c1,not_false_eq_true,if_true,kk,iI,zero,bad (fun h=>c1 h.1)]
 by_cases c2:(bR 0 t.tax).2=0
 rotate_left
 ·simp only [↓cw,↓reduceIte,Nat.reduceLT,c1,c2,not_true_eq_false,if_false,not_false_eq_true,if_true,kk,iI,zero,bad (fun h=>c2 h.2.1)]
 by_cases c3:(bR 0 t.gross).2=0
 rotate_left
 ·simp only [↓cw,↓reduceIte,Nat.reduceLT,c1,c2,c3,not_true_eq_false,if_false,not_false_eq_true,if_true,kk,iI,zero,bad (fun h=>c3 h.2.2),decide_false,Bool.not_false]
 have hx:fJ [t.net,t.tax,t.gross]=([(bR 0 t.net).1,(bR 0 t.tax).1,(bR 0 t.gross).1],0):=by rw [hx,if_neg (by simp [c1,c2,c3])]
 obtain ⟨x,hx1⟩:∃ x,x=(bR 0 t.net).1:=⟨_,rfl⟩
 obtain ⟨y,hy1⟩:∃ y,y=(bR 0 t.tax).1:=⟨_,rfl⟩
 obtain ⟨z,hz1⟩:∃ z,z=(bR 0 t.gross).1:=⟨_,rfl⟩
 rw [←hx1,←hy1,←hz1] at hx
 obtain ⟨R,hR⟩:∃ R,R=aD cX (fun l=>(l,0)) t.parts []:=⟨_,rfl⟩
 have hb:aV t=if R.2≠0 then (Total.zero,R.2) else (⟨x,y,z,R.1⟩,0):=by
  unfold aV
  rw [hx,←hR]
  rfl
 rw [hb]
 obtain ⟨S0,hS0⟩:∃ S0:St,S0=⟨1+1+1,(((Tr.nil.put 0 (.row 0 (1+1+1+1) [[.int .i64 t.net,.int .i64 t.tax,.int .i64 t.gross,.imm (t.parts.map Part.enc)]])).put 1 (.row 0 4 [[.int .i64 0,.int .i64 0,.int .i64 0,.nils]])).put (1+1) (.row 0 4 [[.int .i64 0,.int .i64 0,.int .i64 0,.nils]])).put (1+1) (.row 0 4 [[.int .i64 x,.int .i64 y,.int .i64 z,.nils]])⟩:=⟨_,rfl⟩
 have w0:WF S0:=by rw [hS0];exact hM (n:=3) (hM (n:=2) (hM (n:=1) (hM nK (by decide) (by decide)) (by decide) (by decide)) (by decide) (by decide)) (by decide) (by decide)
 have n0:S0.next=3:=by rw [hS0]
 have r0:aA S0 0 0=.ok (4,[[.int .i64 t.net,.int .i64 t.tax,.int .i64 t.gross,.imm (t.parts.map Part.enc)]]):=by rw [hS0];rfl
 have r1:aA S0 1 0=.ok (4,[[.int .i64 0,.int .i64 0,.int .i64 0,.nils]]):=by rw [hS0];rfl
 have r2:aA S0 2 0=.ok (4,[[.int .i64 x,.int .i64 y,.int .i64 z,.nils]]):=by rw [hS0];rfl
 simp only [↓cw,↓reduceIte,Nat.reduceLT,c1,c2,c3,not_true_eq_false,if_false,decide_true,Bool.not_true,kk,Bool.false_eq_true,←hx1,←hy1,←hz1,←hS0]
 refine aF t.parts (step:=cX) (fin:=fun l=>(l,0)) (fun i acc vs X=>vs=[.int .i64 0,.int .i64 (i:Int)]∧∃ v,Own E0 X 4 v (acc.map Part.enc)∧WF X∧aA X 0 0=.ok (4,[[.int .i64 t.net,.int .i64 t.tax,.int .i64 t.gross,.imm (t.parts.map Part.enc)]])∧aA X 1 0=.ok (4,[[.int .i64 0,.int .i64 0,.int .i64 0,.nils]])∧aA X 2 0=.ok (4,[[.int .i64 x,.int .i64 y,.int .i64 z,v]])∧3≤X.next∧acc.length=i∧∀ k,k<3→AM.blkOf v≠some k) (fun r=>r=R) ?_ ?_ (s:=[]) ⟨rfl,.nils,⟨.inl ⟨rfl,rfl⟩,fun c h=>by cases h⟩,w0,r0,r1,r2,by omega,rfl,fun k _ h=>by cases h⟩ hR.symm
 ·rintro i p acc vs X hi ⟨rfl,v,own,w,r0,r1,r2,n3,hal,hv⟩ aE H
  have hil:=(List.getElem?_eq_some_iff.1 hi).1
  obtain ⟨B,hB⟩:∃ B:St,B=⟨X.next+1,(X.heap.put X.next (.row 0 4 [[.str [],.int .i64 0,.int .i64 0,.int .i64 0]])).put X.next (.row 0 4 [p.enc])⟩:=⟨_,rfl⟩
  have wB:WF B:=by rw [hB];exact hM (n:=X.next+1) (hM (n:=X.next) w (by omega) (Nat.le_succ _)) (by omega) (Nat.le_refl _)
  have nB:B.next=X.next+1:=by rw [hB]
  have kB:∀ y,y<X.next→B.heap.get y=X.heap.get y:=fun y hy=>by
   rw [hB]
   show ((X.heap.put X.next _).put X.next _).get y=_
   rw [Tr.get_put_neB _ _ _ _ trivial (by omega),Tr.get_put_neB _ _ _ _ trivial (by omega)]
  have oB:Own E0 B 4 v (acc.map Part.enc):=own.same (by omega) fun a ha=>kB a (fG own ha).2
  have b1:=aQ r1 (kB 1 (by omega))
  have b2:=aQ r2 (kB 2 (by omega))
  have rP:aA B X.next 0=.ok (4,[p.enc]):=by rw [hB];exact aC _ _ _ _ _ _
  simp only [Part.enc] at hB rP
  have ho2:=bQ5 p.net p.tax
  simp only [cX] at H
  simp only [↓cw,↓reduceIte,Nat.reduceLT,kk,gm,r0,bL hi,if_true,iT hi,Part.enc,←hB,rP,bDh,dF,iE (show i<1000000000 by omega)]
  have bad:¬ ((bR 0 p.net).2=0∧(bR 0 p.tax).2=0)→R=([],7):=fun h=>by
   have:fJ [p.net,p.tax]=([],7):=by rw [ho2,if_pos (by by_cases a:(bR 0 p.net).2=0<;>simp_all)]
   rw [this,if_pos (by decide)] at H
   exact H.symm
  by_cases d1:(bR 0 p.net).2=0
  rotate_left
  ·simp only [↓cw,↓reduceIte,Nat.reduceLT,d1,not_false_eq_true,if_true,kk,b1,bad (fun h=>d1 h.1)]
   exact zero _ _
  by_cases d2:(bR 0 p.tax).2=0
  rotate_left
  ·simp only [↓cw,↓reduceIte,Nat.reduceLT,d1,d2,not_true_eq_false,if_false,decide_false,Bool.not_false,kk,if_true,b1,bad (fun h=>d2 h.2)]
   exact zero _ _
  have ho2:fJ [p.net,p.tax]=([(bR 0 p.net).1,(bR 0 p.tax).1],0):=by rw [ho2,if_neg (by simp [d1,d2])]
  rw [ho2,if_neg (show ¬ (0:Int)≠0 by decide)] at H
  obtain ⟨v',Z,q1,oZ,wZ,nZ,vZ,kZ⟩:=bK1 (b:=40) oB wB (c:=Part.enc { p with net:=(bR 0 p.net).1,tax:=(bR 0 p.tax).1 }) (aOp _) (by rw [List.length_map];omega) (by rw [List.length_map];unfold dR;omega)
  simp only [Part.enc] at q1
  have z0:=aQ r0 ((kZ 0 (by omega) (hv 0 (by decide))).trans (kB 0 (by omega)))
  have z1:=aQ r1 ((kZ 1 (by omega) (hv 1 (by decide))).trans (kB 1 (by omega)))
  have z2:=aQ r2 ((kZ 2 (by omega) (hv 2 (by decide))).trans (kB 2 (by omega)))
  have vn:∀ k,k<3→AM.blkOf v'≠some k:=fun k hk e=>by
   rcases vZ with q | q
   ·exact hv k hk (q▸e)
   ·rw [q] at e;cases e;omega
  simp only [↓cw,↓reduceIte,Nat.reduceLT,d1,d2,not_true_eq_false,if_false,decide_true,Bool.not_true,kk,Bool.false_eq_true,gm,b2,rP,bDl,q1,z2,oZ.one,oZ.cells,iE (show i<1000000000 by omega)]
  refine H _ _ ⟨rfl,v',?_,hM (n:=Z.next) wZ (show 2<Z.next by omega) (Nat.le_refl _),aG (n:=Z.next) (by decide) z0,aG (n:=Z.next) (by decide) z1,aC _ _ _ _ _ _,by show 3≤Z.next;omega,by simp [hal],vn⟩
  rw [List.map_append]
  exact oZ.same (S':=⟨Z.next,Z.heap.put 2 (.row 0 4 [[.int .i64 x,.int .i64 y,.int .i64 z,v']])⟩) (Nat.le_refl _) fun a ha=>Tr.get_put_neB _ _ _ _ trivial fun e=>vn 2 (by decide) (by rw [←e];exact ha)
 ·rintro acc vs X ⟨rfl,v,own,w,r0,r1,r2,n3,hal,hv⟩ aE H
  have H:(acc,(0:Int))=R:=H
  have of:=(own.same (S':=⟨X.next,X.heap.put 1 (.row 0 4 [[.int .i64 x,.int .i64 y,.int .i64 z,v]])⟩) (Nat.le_refl _) fun a ha=>Tr.get_put_neB _ _ _ _ trivial fun e=>hv 1 (by decide) (by rw [←e];exact ha)).out fun _=>rfl
  simp only [↓cw,↓reduceIte,Nat.reduceLT,kk,gm,r0,r1,r2,Int.lt_irrefl,if_false,←H,own.one,own.cells]
  simp only [oo,aB3,of,ne_eq,not_true_eq_false,if_false]
def pM (r:Ref) (n:Nat) (q:Posted):Bool⊕Nat:=.inr (n+if q.of=r then 1 else 0)
theorem aWf (r:Ref) (fin:Nat→Bool):∀ (l:List Posted) (n:Nat),aD (pM r) fin l n=fin (n+jS l r)
 | [],n=>rfl
 | q::l,n=>by
  simp only [aD,pM]
  rw [aWf r fin l,tF,Nat.add_assoc]
def yZ (p:Posted) (u:Unit) (q:Posted):Bool⊕Unit:=if q.ref=p.of then .inl (aGf q p) else .inr ()
theorem aGk (p:Posted):∀ (l:List Posted) (u:Unit),aD (yZ p) (fun _=>false) l u=oG p l
 | [],u=>rfl
 | q::l,u=>by
  simp only [aD,yZ,oG]
  by_cases c:q.ref=p.of
  ·rw [if_pos c,if_pos c]
  ·rw [if_neg c,if_neg c];exact aGk p l ()
def aBu (l:List Posted) (i:Nat) (p:Posted) (n:Nat):Bool:=
 if 1<n then false else if p.back≠decide (n=1) then false else if p.of=Ref.zero then true else if p.back=true then false else oG p (l.take i)
theorem aRa (l:List Posted) (i:Nat) (p:Posted):pK l i p=aD (pM p.ref) (aBu l i p) (l.drop (i+1)) 0:=by
 rw [aWf,Nat.zero_add];rfl
set_option maxHeartbeats 2000000 in
theorem bQ8 (l:List Posted) (hb:l.length<1000000) (hq:∀ q∈l,q.total.parts.length≤1000) {i:Nat} {p:Posted} (hi:l[i]?=some p) (S:St) (K:KW):C 120 [.imm (l.map Posted.enc),.int .i64 (i:Int)] S K=K (.bool (pK l i p)) S:=by
 refine (bL5 rfl ?_).eq S K
 have hil:=(List.getElem?_eq_some_iff.1 hi).1
 have hpb:=hq p (List.mem_of_getElem? hi)
 have ei:l.drop (i+1)=l.drop (i+1):=rfl
 delta Tryz.f120;simp only [↓cw,↓reduceIte,Nat.reduceLT,kk,lN hi,Posted.enc,iE (show i<1000000000 by omega)]
 obtain ⟨S0,hS0⟩:∃ S0:St,S0=⟨0+1,(Tr.nil.put 0 (.row 0 12 [yL])).put 0 (.row 0 12 [p.enc])⟩:=⟨_,rfl⟩
 have r0:aA S0 0 0=.ok (12,[p.enc]):=by rw [hS0];rfl
 have n0:1≤S0.next:=by rw [hS0];exact Nat.le_refl _
 simp only [yL,Posted.enc] at hS0
 simp only [←hS0]
 refine aF (l.drop (i+1)) (step:=pM p.ref) (fin:=aBu l i p) (fun k n vs X=>vs=[.int .i64 (n:Int),.int .i64 ((i+1+k:Nat):Int)]∧n≤k∧aA X 0 0=.ok (12,[p.enc])∧1≤X.next) (fun r=>r=pK l i p) ?_ ?_ (s:=0) ⟨rfl,Nat.le_refl _,r0,n0⟩ (aRa l i p).symm
 ·rintro k q n vs X hk ⟨rfl,hn,r0,n1⟩ aE H
  rw [List.getElem?_drop] at hk
  have hkl:=(List.getElem?_eq_some_iff.1 hk).1
  simp only [pM] at H
  simp only [Posted.enc] at r0
  simp only [↓cw,↓reduceIte,Nat.reduceLT,kk,gm,bL hk,if_true,lN hk,Posted.enc,r0,iE (show i+1+k<1000000000 by omega),iE (show n<1000000000 by omega)]
  by_cases c:q.of=p.ref
  ·have c':(q.of.ser == p.ref.ser&&decide (q.of.num=p.ref.num))=true:=by rw [c];simp
   simp only [c,if_true] at H
   simp only [c',if_true]
   exact H _ _ ⟨rfl,by omega,r0,by show 1≤X.next+8;omega⟩
  ·have c':¬ (q.of.ser == p.ref.ser&&decide (q.of.num=p.ref.num))=true:=by rw [Ref.ext_iff] at c;simpa using c
   simp only [c,if_false,Nat.add_zero] at H
   simp only [c',if_false]
   exact H _ _ ⟨rfl,by omega,r0,by show 1≤X.next+8;omega⟩
 ·rintro n vs X ⟨rfl,hn,r0,n1⟩ aE H
  have H:aBu l i p n=pK l i p:=H
  have hge:¬ ((i+1+(l.drop (i+1)).length:Nat):Int)<(l.length:Int):=by rw [List.length_drop];omega
  simp only [Posted.enc] at r0
  rw [←H]
  simp only [↓cw,↓reduceIte,Nat.reduceLT,aBu,kk,hge,if_false,r0,aFq,gm]
  by_cases c1:1<n
  ·simp only [c1,show (1:Int)<(n:Int) by omega,if_true,oo]
  simp only [c1,show ¬ (1:Int)<(n:Int) by omega,if_false]
  have e1:decide ((n:Int)=1)=decide (n=1):=by rw [Bool.eq_iff_iff];simp;omega
  rw [e1]
  by_cases c2:p.back=decide (n=1)
  rotate_left
  ·have c2':(p.back == decide (n=1))=false:=by simpa using c2
   simp only [c2,c2',ne_eq,not_false_eq_true,if_true,Bool.not_false,oo]
  have c2':(p.back == decide (n=1))=true:=by simpa using c2
  rw [if_neg (show ¬ p.back≠decide (n=1) from fun h=>h c2)]
  simp only [c2',Bool.not_true,Bool.false_eq_true,if_false]
  by_cases c3:p.of=Ref.zero
  ·have c3':(p.of.ser == []&&decide (p.of.num=0))=true:=by rw [c3];rfl
   rw [if_pos c3,if_pos c3']
  have c3':¬ (p.of.ser == []&&decide (p.of.num=0))=true:=by rw [Ref.ext_iff] at c3;simpa [Ref.zero] using c3
  simp only [↓cw,↓reduceIte,Nat.reduceLT,c3,c3',if_false,kk]
  cases c4:p.back
  rotate_left
  ·simp only [c4,if_true,oo]
  simp only [c4,Bool.false_eq_true,if_false]
  have lt:(l.take i).length=i:=by rw [List.length_take];omega
  refine aF (l.take i) (step:=yZ p) (fin:=fun _=>false) (fun k u vs X=>vs=[.bool false,.int .i64 (k:Int)]∧aA X 0 0=.ok (12,[p.enc])∧1≤X.next) (fun r=>r=oG p (l.take i)) ?_ ?_ (s:=()) ⟨rfl,r0,n1⟩ (aGk p (l.take i) ())
  ·rintro k q u vs X hk ⟨rfl,r0,n1⟩ aE H
   have hki:=(List.getElem?_eq_some_iff.1 hk).1
   rw [lt] at hki
   rw [List.getElem?_take,if_pos hki] at hk
   have hqb:=hq q (List.mem_of_getElem? hk)
   have hbl:=uA q.total
   simp only [yZ] at H
   simp only [Posted.enc] at r0
   simp only [↓cw,↓reduceIte,Nat.reduceLT,kk,gm,show (k:Int)<(i:Int) by omega,if_true,lN hk,Posted.enc,r0,iE (show k<1000000000 by omega),bQ7 q.total hqb,aB3]
   obtain ⟨T,hT⟩:∃ T,T=(aV q.total).1:=⟨_,rfl⟩
   simp only [aGf,←hT] at H
   rw [←hT] at hbl
   simp only [←hT]
   obtain ⟨B,hB⟩:∃ B:St,B=⟨X.next+8+1+49,(X.heap.put (X.next+8) (Blk.row 0 4 [[V.int IntKind.i64 0,V.int IntKind.i64 0,V.int IntKind.i64 0,V.nils]])).put (X.next+8) (Blk.row 0 4 [[V.int IntKind.i64 T.net,V.int IntKind.i64 T.tax,V.int IntKind.i64 T.gross,V.imm (List.map Part.enc T.parts)]])⟩:=⟨_,rfl⟩
   have b0:∀ m,aA ⟨m,B.heap⟩ 0 0=.ok (12,[p.enc]):=fun m=>by rw [hB];exact aG (n:=X.next) (by omega) (aG (n:=X.next) (by omega) r0)
   have b8:∀ m,aA ⟨m,B.heap⟩ (X.next+8) 0=.ok (4,[[V.int IntKind.i64 T.net,V.int IntKind.i64 T.tax,V.int IntKind.i64 T.gross,V.imm (List.map Part.enc T.parts)]]):=fun m=>by rw [hB];exact aC _ _ _ _ _ _
   have bn:X.next+58=B.next:=by rw [hB]
   have b0':=b0 (X.next+8+1)
   have b1:=b0 B.next
   have b8':=b8 B.next
   simp only [Posted.enc] at b0 b0' b1
   have hh:B.heap=(X.heap.put (X.next+8) (Blk.row 0 4 [[V.int IntKind.i64 0,V.int IntKind.i64 0,V.int IntKind.i64 0,V.nils]])).put (X.next+8) (Blk.row 0 4 [[V.int IntKind.i64 T.net,V.int IntKind.i64 T.tax,V.int IntKind.i64 T.gross,V.imm (List.map Part.enc T.parts)]]):=by rw [hB]
   have hBe:(⟨X.next+8+1+49,B.heap⟩:St)=B:=by rw [hB]
   rw [←hh,hBe]
   by_cases d0:q.ref=p.of
   rotate_left
   ·have d0':(!(q.ref.ser == p.of.ser&&decide (q.ref.num=p.of.num)))=true:=by rw [Ref.ext_iff] at d0;simp;exact Decidable.not_and_iff_or_not.1 d0
    simp only [d0,if_false] at H
    simp only [d0',if_true]
    exact H _ _ ⟨rfl,r0,by show 1≤X.next+8;omega⟩
   have d0':¬ (!(q.ref.ser == p.of.ser&&decide (q.ref.num=p.of.num)))=true:=by rw [d0];simp
   rw [if_pos d0] at H
   rw [if_neg d0']
   by_cases d1:(aV q.total).2=0
   rotate_left
   ·rw [if_pos d1] at H
    rw [if_pos d1,←H]
   rw [if_neg (fun h=>h d1)] at H
   rw [if_neg (fun h=>h d1)]
   by_cases d2:q.of=Ref.zero
   rotate_left
   ·have d2':(!(q.of.ser == []&&decide (q.of.num=0)))=true:=by rw [Ref.ext_iff] at d2;simp;exact Decidable.not_and_iff_or_not.1 d2
    rw [if_pos d2] at H
    rw [if_pos d2',←H]
   have d2':¬ (!(q.of.ser == []&&decide (q.of.num=0)))=true:=by rw [d2];decide
   rw [if_neg (fun h=>h d2)] at H
   rw [if_neg d2']
   simp only [↓cw,↓reduceIte,Nat.reduceLT,b0',kk,bIt]
   by_cases d3:p.day.days<q.day.days
   ·rw [if_pos d3] at H
    rw [if_pos d3,←H]
   rw [if_neg d3] at H
   rw [if_neg d3]
   simp only [↓cw,↓reduceIte,Nat.reduceLT,b1,b8',kk]
   by_cases d4:T.net=p.total.net
   rotate_left
   ·rw [decide_eq_false d4,Bool.false_and] at H
    rw [if_pos d4,←H]
   rw [if_neg (fun h=>h d4)]
   by_cases d5:T.tax=p.total.tax
   rotate_left
   ·rw [decide_eq_false d5,Bool.false_and,Bool.and_false] at H
    rw [if_pos d5,←H]
   rw [if_neg (fun h=>h d5)]
   rw [decide_eq_true d4,decide_eq_true d5,Bool.true_and,Bool.true_and] at H
   by_cases d6:T.parts.length=p.total.parts.length
   rotate_left
   ·have:¬ T.parts=p.total.parts:=fun h=>d6 (by rw [h])
    rw [decide_eq_false this] at H
    rw [if_pos (show ¬ ((T.parts.length:Nat):Int)=(p.total.parts.length:Int) by omega),←H]
   rw [if_neg (show ¬ ¬ ((T.parts.length:Nat):Int)=(p.total.parts.length:Int) by omega)]
   refine aF T.parts (step:=kL p.total.parts) (fin:=fun _=>true) (fun j n vs Y=>n=j∧vs=[.bool false,.int .i64 (j:Int)]∧Y.heap=B.heap) (fun r=>r=oG p (l.take i)) ?_ ?_ (s:=0) ⟨rfl,rfl,rfl⟩ (by rw [eqL d6];exact H)
   ·rintro j x n vs Y hj ⟨rfl,rfl,hY⟩ again' H'
    have hjl:=(List.getElem?_eq_some_iff.1 hj).1
    have hj2:p.total.parts[n]?=some p.total.parts[n]:=List.getElem?_eq_getElem (by omega)
    have y8:∀ m,aA ⟨m,Y.heap⟩ (X.next+8) 0=.ok (4,[[V.int IntKind.i64 T.net,V.int IntKind.i64 T.tax,V.int IntKind.i64 T.gross,V.imm (List.map Part.enc T.parts)]]):=fun m=>by rw [hY];exact b8 m
    have y0:∀ m,aA ⟨m,Y.heap⟩ 0 0=.ok (12,[p.enc]):=fun m=>by rw [hY];exact b0 m
    have y8':aA Y (X.next+8) 0=.ok (4,[[V.int IntKind.i64 T.net,V.int IntKind.i64 T.tax,V.int IntKind.i64 T.gross,V.imm (List.map Part.enc T.parts)]]):=y8 Y.next
    simp only [Posted.enc] at y0
    generalize hz:p.total.parts[n]=z at hj2
    have he:(z=x)=(x.cat=z.cat∧x.bp=z.bp∧x.net=z.net∧x.tax=z.tax):=by
     obtain ⟨_,_,_,_⟩:=x;obtain ⟨_,_,_,_⟩:=z;simp [and_assoc,eq_comm]
    simp only [kL,hj2,Option.some.injEq,he] at H'
    simp only [↓cw,↓reduceIte,Nat.reduceLT,kk,gm,y8,y0,y8',bL hj,if_true,iT hj,iT hj2,Part.enc,iE (show n<1000000000 by omega)]
    by_cases c:x.cat=z.cat∧x.bp=z.bp∧x.net=z.net∧x.tax=z.tax
    ·have c':¬ (!(x.cat == z.cat&&decide (x.bp=z.bp)&&decide (x.net=z.net)&&decide (x.tax=z.tax)))=true:=by simp [c]
     rw [if_pos c] at H'
     rw [if_neg c']
     exact H' _ _ ⟨rfl,rfl,hY⟩
    ·have c':(!(x.cat == z.cat&&decide (x.bp=z.bp)&&decide (x.net=z.net)&&decide (x.tax=z.tax)))=true:=by
      rw [Bool.not_eq_true',Bool.eq_false_iff]
      intro h
      simp only [Bool.and_eq_true,decide_eq_true_eq,beq_iff_eq] at h
      exact c ⟨h.1.1.1,h.1.1.2,h.1.2,h.2⟩
     rw [if_neg c] at H'
     have H':false=oG p (l.take i):=H'
     rw [if_pos c',←H']
   ·rintro n vs Y ⟨rfl,rfl,hY⟩ again' H'
    have H':true=oG p (l.take i):=H'
    have y8:aA Y (X.next+8) 0=.ok (4,[[V.int IntKind.i64 T.net,V.int IntKind.i64 T.tax,V.int IntKind.i64 T.gross,V.imm (List.map Part.enc T.parts)]]):=by have:=b8 Y.next;rw [←hY] at this;exact this
    simp only [↓cw,↓reduceIte,Nat.reduceLT,kk,gm,y8,Int.lt_irrefl,if_false,oo,←H']
  ·rintro u vs X ⟨rfl,r0,n1⟩ aE H
   have H:false=oG p (l.take i):=H
   simp only [↓cw,↓reduceIte,Nat.reduceLT,kk,lt,Int.lt_irrefl,if_false,oo,←H]
theorem bQ9 {v:V} (book l:List Bal) (hv:v=.imm (book.map Bal.enc)∨(v=.nils∧book=[])) (hbb:book.length+l.length<1000000) (S:St) (K:KW):C 122 [v,.imm (l.map Bal.enc)] S K=K (.tup [.imm ((bC book l).1.map Bal.enc),.int .i64 (bC book l).2]) S:=by
 rcases hv with rfl | ⟨rfl,rfl⟩
 ·exact bKh book l hbb S K
 ·exact (Fn.back (args:=[.imm [],.imm (l.map Bal.enc)]) fun S K=>bKh [] l hbb S K).frz bF4 rfl rfl rfl (.inr rfl) K
def lP (n:Int):List V:=[.int .i64 n]
theorem bQa {n:Nat} (hn:n≤8) (S:St):dD prog 96 (.int .i64 (n:Int)) (.int .i64 (n:Int)) none S=.ok (.sl S.next 0 1 0 n,⟨S.next+1,S.heap.put S.next (.row 0 1 ((List.replicate n (0:Int)).map lP))⟩):=by
 have h1:iU prog 96=some 3:=by kernel_rfl
 have h2:aJ prog 3=some (.int .i64 0):=by kernel_rfl
 have h3:sz prog 3=1:=by kernel_rfl
 have h4:room prog 3 n=true:=match n,hn with
  | 0,_=>by kernel_rfl
  | 1,_=>by kernel_rfl
  | 2,_=>by kernel_rfl
  | 3,_=>by kernel_rfl
  | 4,_=>by kernel_rfl
  | 5,_=>by kernel_rfl
  | 6,_=>by kernel_rfl
  | 7,_=>by kernel_rfl
  | 8,_=>by kernel_rfl
  | k+9,h=>absurd h (by omega)
 have h5:(decide ((0:Int)≤(n:Int))&&decide ((n:Int)≤(n:Int))&&decide ((n:Int)<2147483648))=true:=by simp;omega
 simp only [dD,h1,h2,h3,Int.toNat_natCast,h4,V.cells,List.length_cons,List.length_nil,Nat.zero_add,Nat.beq_refl,Bool.true_and,Bool.and_true,h5,cond_true,eL,List.map_replicate,lP]
theorem aWg (b:Bool):∀ (l:List Ser) (is:List Int),aD fM (fun _=>b) l is=(aD fM (fun _=>true) l is&&b)
 | [],is=>by simp [aD]
 | s::l,is=>by
  simp only [aD,fM]
  by_cases c:is.headD 0=wr .i64 (s.next - 1)
  ·rw [if_pos c];exact aWg b l _
  ·rw [if_neg c];rfl
set_option maxHeartbeats 4000000 in
theorem g38 (s:State) (hI:mH s) (hp:s.posted.length<1000000) (hq:∀ q∈s.posted,q.total.parts.length≤1000) (S:St) (K:KW):C 38 [.agg [.imm (s.table.map Rate.enc),.imm (s.ser.map Ser.enc),.imm (s.posted.map Posted.enc),.imm (s.book.map Bal.enc),.imm (s.sess.map Sess.enc),.int .i64 s.next]] S K=K (.bool (aDy s)) S:=by
 refine (v38 rfl ?_).eq S K
 obtain ⟨R,hR⟩:∃ R,R=aDy s:=⟨_,rfl⟩
 rw [←hR]
 unfold aDy at hR
 simp only [m38,kk,gm,bPm,bPn,bPo]
 cases c1:dW s.table
 ·rw [if_pos c1] at hR;rw [hR];simp only [kk,if_true,oo]
 rw [if_neg (by rw [c1];decide)] at hR
 cases c2:kK s.ser
 ·rw [if_pos c2] at hR;rw [hR];simp only [kk,Bool.false_eq_true,if_false,if_true,oo]
 rw [if_neg (by rw [c2];decide)] at hR
 cases c3:eO s.sess
 ·rw [if_pos c3] at hR;rw [hR];simp only [kk,Bool.false_eq_true,if_false,if_true,oo]
 rw [if_neg (by rw [c3];decide)] at hR
 have hsl:=mY c2
 have hel:=kI c3
 simp only [kk,Bool.true_eq_false,Bool.false_eq_true,if_false]
 by_cases c4:40<s.posted.length
 ·rw [if_pos c4] at hR;rw [hR]
  simp only [show (40:Int)<(s.posted.length:Int) by omega,kk,if_true,oo]
 rw [if_neg c4] at hR
 simp only [show ¬ (40:Int)<(s.posted.length:Int) by omega,if_false]
 by_cases c5:s.next<1
 ·rw [if_pos c5] at hR;rw [hR];simp only [c5,if_true,oo]
 rw [if_neg c5] at hR
 simp only [c5,if_false]
 by_cases c6:1099511627776<s.next
 ·rw [if_pos c6] at hR;rw [hR];simp only [c6,if_true,oo]
 rw [if_neg c6] at hR
 simp only [c6,if_false]
 have hj0:∀ Y:St,aA Y 0 0=.ok (6,[s.enc])→1≤Y.next→R=aD (rM s) (aKg s) s.posted ⟨[],List.replicate s.ser.length 0,[]⟩→aHg C (fun v0 S0=>gK S0 v0=.ok (.bool R)) (.ptr 0 0 0 0) Y:=by
  intro Y y0 yn hR
  have y0':=y0
  simp only [State.enc] at y0
  simp only [aHg,kk,gm,y0,bQa hsl]
  obtain ⟨tb,htb⟩:∃ tb,tb=Y.next:=⟨_,rfl⟩
  rw [←htb]
  refine aF s.posted (step:=rM s) (fin:=aKg s) (fun i st vs X=>∃ v,vs=[.bool false,v,.int .i64 (i:Int)]∧(v=.imm (st.book.map Bal.enc)∨(v=.nils∧st.book=[]))∧aA X 0 0=.ok (6,[s.enc])∧X.heap.get tb=some (.row 0 1 (st.taken.map lP))∧tb<X.next∧st.taken.length=s.ser.length∧st.done.length=i∧st.book.length≤25*i) (fun r=>r=R) ?_ ?_ (s:=⟨[],List.replicate s.ser.length 0,[]⟩) ⟨.nils,rfl,.inr ⟨rfl,rfl⟩,aG (n:=Y.next) (by omega) y0',Tr.get_put_sameB _ _ _ trivial,Nat.lt_succ_self _,List.length_replicate,rfl,Nat.zero_le _⟩ hR.symm
  ·rintro i p ⟨done,taken,book⟩ vs X hi ⟨v,rfl,hv,x0,hg,htX,htl,hdl,hbl⟩ aE H
   simp only at hv hg htl hdl hbl
   have hil:=(List.getElem?_eq_some_iff.1 hi).1
   have hpm:=List.mem_of_getElem? hi
   simp only [State.enc] at x0
   simp only [rM,hdl] at H
   simp only [aM2,kk,gm,x0,bL hi,if_true,lN hi,Posted.enc,bK5 s.ser p.ref.ser (by omega),iE (show i<1000000000 by omega)]
   obtain ⟨B,hB⟩:∃ B:St,B=⟨X.next+1,(X.heap.put X.next (.row 0 12 [yL])).put X.next (.row 0 12 [p.enc])⟩:=⟨_,rfl⟩
   have kB:∀ y,y≠X.next→B.heap.get y=X.heap.get y:=fun y hy=>by
    rw [hB]
    show ((X.heap.put X.next _).put X.next _).get y=_
    rw [Tr.get_put_neB _ _ _ _ trivial hy,Tr.get_put_neB _ _ _ _ trivial hy]
   have h0X:0<X.next:=by omega
   have b0:∀ m,aA ⟨m,B.heap⟩ 0 0=.ok (6,[s.enc]):=fun m=>aQ (S:=X) x0 (kB 0 (by omega))
   have bP:∀ m,aA ⟨m,B.heap⟩ X.next 0=.ok (12,[p.enc]):=fun m=>by rw [hB];exact aC _ _ _ _ _ _
   have bT:B.heap.get tb=some (.row 0 1 (taken.map lP)):=by rw [kB tb (by omega)];exact hg
   have bn:B.next=X.next+1:=by rw [hB]
   have b0':aA B 0 0=.ok (6,[s.enc]):=b0 B.next
   have bP':aA B X.next 0=.ok (12,[p.enc]):=bP B.next
   simp only [State.enc] at b0 b0'
   simp only [Posted.enc] at bP bP'
   simp only [yL,Posted.enc] at hB
   simp only [←hB,b0',bP',kk,bK5 s.ser p.ref.ser (show s.ser.length<1000000 by omega)]
   by_cases d0:dE s.ser p.ref.ser<0
   ·rw [if_pos d0] at H
    rw [if_pos d0,←H]
   rw [if_neg d0] at H
   rw [if_neg d0]
   obtain ⟨k,x,e,hk⟩:=aR6 d0
   have hkl:=(List.getElem?_eq_some_iff.1 hk).1
   have hkt:(taken.map lP)[k]?=some (lP (taken.getD k 0)):=by
    rw [List.getElem?_map,List.getD_eq_getElem?_getD,List.getElem?_eq_getElem (by omega)];rfl
   have hld:∀ m,jH none (.ptr tb 0 k 0) ⟨m,B.heap⟩=.ok (.int .i64 (taken.getD k 0)):=fun m=>by rw [aR9 (X:=⟨m,B.heap⟩) bT hkt];rfl
   have hst:=fun m=>bCs (X:=⟨m,B.heap⟩) (v:=.int .i64 (wr .i64 (taken.getD k 0+1))) (j:=0) bT hkt rfl rfl (Nat.le_refl _)
   have hset:(taken.map lP).set k (splice (lP (taken.getD k 0)) 0 [.int .i64 (wr .i64 (taken.getD k 0+1))])=(taken.set k (wr .i64 (taken.getD k 0+1))).map lP:=by rw [List.map_set];rfl
   simp only [e,Int.toNat_natCast] at H
   simp only [e,aGi hkl,hld,kk,bP]
   by_cases d1:p.ref.num=wr .i64 (taken.getD k 0+1)
   rotate_left
   ·rw [if_pos d1] at H
    rw [if_pos d1,←H]
   rw [if_neg (fun h=>h d1)] at H
   rw [if_neg (fun h=>h d1)]
   simp only [bDf,kk,bP]
   cases d2:p.day.right
   ·rw [if_pos d2] at H
    simp only [Bool.not_false,if_true,←H]
   rw [if_neg (by rw [d2];decide)] at H
   simp only [Bool.not_true,Bool.false_eq_true,if_false,bPs p.total (hI p hpm),kk,b0]
   cases d3:bU p.total
   ·rw [if_pos d3] at H
    simp only [Bool.not_false,if_true,←H]
   rw [if_neg (by rw [d3];decide)] at H
   simp only [Bool.not_true,Bool.false_eq_true,if_false,bQ8 s.posted hp hq hi,kk]
   cases d4:pK s.posted i p
   ·rw [if_pos d4] at H
    simp only [Bool.not_false,if_true,←H]
   rw [if_neg (by rw [d4];decide)] at H
   have hft:=sS d3
   obtain ⟨D,hD⟩:∃ D:St,D=⟨B.next+32,B.heap.put tb (.row 0 1 ((taken.set k (wr .i64 (taken.getD k 0+1))).map lP))⟩:=⟨_,rfl⟩
   have hst':fV 1 (.ptr tb 0 k 0) (.int .i64 (wr .i64 (taken.getD k 0+1))) ⟨B.next+32,B.heap⟩=.ok D:=by rw [hst,hset,hD]
   have dP:aA D X.next 0=.ok (12,[p.enc]):=by rw [hD];exact aG (n:=B.next) (by omega) (bP B.next)
   have d0r:aA D 0 0=.ok (6,[s.enc]):=by rw [hD];exact aG (n:=B.next) (by omega) (b0 B.next)
   have dn:D.next=B.next+32:=by rw [hD]
   simp only [Posted.enc] at dP
   simp only [Bool.not_true,Bool.false_eq_true,if_false,hld,hst',dP,bQ4 p.total hft,kk]
   by_cases d5:(cC p.total).2=0
   rotate_left
   ·rw [if_pos d5] at H
    rw [if_pos d5,←H]
   have hle:=(sR p.total).resolve_right (not_not_intro d5)
   have h12:=hft.1
   have hle2:=qU book (cC p.total).1
   rw [if_neg (fun h=>h d5)] at H
   rw [if_neg (fun h=>h d5),bQ9 book _ hv (show book.length+(cC p.total).1.length<1000000 by omega)]
   simp only [kk]
   by_cases d6:(bC book (cC p.total).1).2=0
   rotate_left
   ·rw [if_pos d6] at H
    rw [if_pos d6,←H]
   rw [if_neg (fun h=>h d6)] at H
   rw [if_neg (fun h=>h d6)]
   exact H _ _ ⟨_,rfl,.inl rfl,d0r,by rw [hD];exact Tr.get_put_sameB _ _ _ trivial,by omega,by rw [List.length_set];exact htl,by rw [List.length_append,hdl];rfl,by show (bC book (cC p.total).1).1.length≤_;omega⟩
  ·rintro ⟨done,taken,book⟩ vs X ⟨v,rfl,hv,x0,hg,htX,htl,hdl,hbl⟩ aE H
   simp only at hv hg htl hdl hbl
   have H:aKg s ⟨done,taken,book⟩=R:=H
   unfold aKg at H
   rw [←aWg] at H
   simp only [State.enc] at x0
   simp only [aM2,kk,gm,x0,Int.lt_irrefl,if_false]
   have lv:lenW v=.ok (.int .i64 (book.length:Int)):=by rcases hv with rfl | ⟨rfl,rfl⟩<;>simp [lenW]
   refine aF s.ser (step:=fM) (fin:=fun _=>decide (book=s.book)) (fun i is vs Z=>vs=[.bool false,.int .i64 (i:Int)]∧is=taken.drop i∧Z.heap=X.heap) (fun r=>r=R) ?_ ?_ (s:=taken) ⟨rfl,rfl,rfl⟩ H
   ·rintro i x is vs Z hi ⟨rfl,rfl,hZ⟩ again' H'
    have hil:=(List.getElem?_eq_some_iff.1 hi).1
    have hkt:(taken.map lP)[i]?=some (lP (taken.getD i 0)):=by
     rw [List.getElem?_map,List.getD_eq_getElem?_getD,List.getElem?_eq_getElem (by omega)];rfl
    have hhd:(taken.drop i).headD 0=taken.getD i 0:=by rw [List.drop_eq_getElem_cons (by omega),List.getD_eq_getElem?_getD,List.getElem?_eq_getElem (by omega)];rfl
    have htl':(taken.drop i).tail=taken.drop (i+1):=by rw [List.drop_eq_getElem_cons (by omega)];rfl
    have hld:∀ m,jH none (.ptr tb 0 i 0) ⟨m,Z.heap⟩=.ok (.int .i64 (taken.getD i 0)):=fun m=>by rw [aR9 (X:=⟨m,Z.heap⟩) (by rw [←hZ] at hg;exact hg) hkt];rfl
    have z0:∀ m,aA ⟨m,Z.heap⟩ 0 0=.ok (6,[s.enc]):=fun m=>by rw [hZ];exact x0
    simp only [State.enc] at z0
    simp only [fM,hhd,htl'] at H'
    simp only [aM1,kk,gm,bL hi,if_true,aGi hil,hld,z0,lU hi,Ser.enc,iE (show i<1000000000 by omega)]
    by_cases c:taken.getD i 0=wr .i64 (x.next - 1)
    ·rw [if_pos c] at H'
     rw [if_neg (fun h=>h c)]
     exact H' _ _ ⟨rfl,rfl,hZ⟩
    ·rw [if_neg c] at H'
     have H':false=R:=H'
     rw [if_pos c,←H']
   ·rintro is vs Z ⟨rfl,rfl,hZ⟩ again' H'
    have H':decide (book=s.book)=R:=H'
    have z0:∀ m,aA ⟨m,Z.heap⟩ 0 0=.ok (6,[s.enc]):=fun m=>by rw [hZ];exact x0
    have z0':aA Z 0 0=.ok (6,[s.enc]):=z0 Z.next
    simp only [State.enc] at z0 z0'
    simp only [aM1,kk,gm,Int.lt_irrefl,if_false,lv,z0']
    by_cases c:book.length=s.book.length
    rotate_left
    ·have:¬ book=s.book:=fun h=>c (by rw [h])
     rw [decide_eq_false this] at H'
     rw [if_pos (show ¬ ((book.length:Nat):Int)=(s.book.length:Int) by omega),←H']
    rw [if_neg (show ¬ ¬ ((book.length:Nat):Int)=(s.book.length:Int) by omega)]
    refine aF book (step:=kL s.book) (fin:=fun _=>true) (fun i n vs U=>n=i∧vs=[.bool false,.int .i64 (i:Int)]∧U.heap=X.heap) (fun r=>r=R) ?_ ?_ (s:=0) ⟨rfl,rfl,hZ⟩ (by rw [eqL c];exact H')
    ·rintro i q n vs U hi ⟨rfl,rfl,hU⟩ again2 H2
     have hil:=(List.getElem?_eq_some_iff.1 hi).1
     have hj:s.book[n]?=some s.book[n]:=List.getElem?_eq_getElem (by omega)
     have hve:v=.imm (book.map Bal.enc):=hv.resolve_right fun h=>by rw [h.2] at hi;cases hi
     have u0:∀ m,aA ⟨m,U.heap⟩ 0 0=.ok (6,[s.enc]):=fun m=>by rw [hU];exact x0
     simp only [State.enc] at u0
     generalize hz:s.book[n]=z at hj
     have he:(z=q)=(q.acc=z.acc∧q.amount=z.amount):=by
      obtain ⟨_,_⟩:=q;obtain ⟨_,_⟩:=z;simp [and_assoc,eq_comm]
     simp only [kL,hj,Option.some.injEq,he] at H2
     simp only [aM0,kk,gm,hve,bL hi,if_true,oC hi,oC hj,Bal.enc,u0,iE (show n<1000000000 by omega)]
     by_cases c:q.acc=z.acc∧q.amount=z.amount
     ·have c':¬ (!(q.acc == z.acc&&decide (q.amount=z.amount)))=true:=by simp [c]
      rw [if_pos c] at H2
      rw [if_neg c']
      exact H2 _ _ ⟨rfl,rfl,hU⟩
     ·have c':(!(q.acc == z.acc&&decide (q.amount=z.amount)))=true:=by
       rw [Bool.not_eq_true',Bool.eq_false_iff]
       intro h
       simp only [Bool.and_eq_true,decide_eq_true_eq,beq_iff_eq] at h
       exact c h
      rw [if_neg c] at H2
      have H2:false=R:=H2
      rw [if_pos c',←H2]
    ·rintro n vs U ⟨rfl,rfl,hU⟩ again2 H2
     have H2:true=R:=H2
     simp only [aM0,kk,lv,Int.lt_irrefl,if_false,oo,←H2]
 obtain ⟨Z,hZ⟩:∃ Z:St,Z=⟨1,Tr.nil.put 0 (Blk.row 0 (1+1+1+1+1+1) [s.enc])⟩:=⟨_,rfl⟩
 have z0:∀ m,aA ⟨m,Z.heap⟩ 0 0=.ok (6,[s.enc]):=fun m=>by rw [hZ];rfl
 have zh:Z.heap=Tr.nil.put 0 (Blk.row 0 (1+1+1+1+1+1) [s.enc]):=by rw [hZ]
 simp only [State.enc] at zh
 rw [←zh]
 have z0':=z0
 simp only [State.enc] at z0'
 by_cases c7:s.sess.length=0
 ·have:s.sess=[]:=List.length_eq_zero_iff.1 c7
  rw [if_neg (by simp [qV,this])] at hR
  rw [if_neg (show ¬ (0:Int)<(s.sess.length:Int) by omega)]
  exact hj0 _ (z0 _) (by show 1≤1+14;decide) hR
 ·obtain ⟨j,hj⟩:∃ j,s.sess.length=j+1:=⟨s.sess.length - 1,by omega⟩
  have hjl:s.sess[j]?=some s.sess[j]:=List.getElem?_eq_getElem (by omega)
  rw [if_pos (show (0:Int)<(s.sess.length:Int) by omega)]
  simp only [qV,hj,Nat.add_sub_cancel,hjl] at hR
  simp only [hj,wrm (show j+1<1000000000 by omega),lM hjl,Sess.enc,kk,gm]
  by_cases c8:s.sess[j].id<s.next
  ·rw [if_neg (by simp [c8])] at hR
   rw [if_neg (by omega)]
   exact hj0 _ (z0 _) (by show 1≤1+14;decide) hR
  ·rw [if_pos (by simp [c8])] at hR
   rw [if_pos (by omega),hR]
theorem aMn {s:State} (hr:bB s=true):∀ x∈s.ser,I64 x.next:=fun x hx=>by
 obtain ⟨_,b⟩:=((dY _).1 ((bV s).1 hr).2.1).2.1 x hx
 unfold kJ at b
 simp only [Bool.or_eq_false_iff,decide_eq_false_iff_not] at b
 obtain ⟨b1,b2,b3,b4⟩:=b
 rw [dX ⟨by omega,by omega⟩] at b4
 exact ⟨by omega,by omega⟩
theorem Ext.b {S:St} (n:Nat):Ext S ⟨S.next+n,S.heap⟩:=(Ext.refl S).bump n
theorem g29 (s:State) (hI:mH s) (hn:∀ x∈s.ser,I64 x.next) (hp:s.posted.length<1000000) (hq:∀ q∈s.posted,q.total.parts.length≤1000) (h:bB s=true→ImgOK s) (S:St) (K:KW):C 29 [.agg [.imm (s.table.map Rate.enc),.imm (s.ser.map Ser.enc),.imm (s.posted.map Posted.enc),.imm (s.book.map Bal.enc),.imm (s.sess.map Sess.enc),.int .i64 s.next]] S K=K (.imm ((iJ s).map lG)) S:=by
 refine (v29 rfl ?_).eq S K
 delta Tryz.f29;simp only [↓cw,↓reduceIte,Nat.reduceLT,kk,gm,iI,g38 s hI hp hq,aR5 hI hn]
 cases c1:bB s
 ·have e:iJ s=[]:=by unfold iJ;rw [if_pos c1]
  simp only [↓cw,↓reduceIte,Nat.reduceLT,kk,gm,c1,oo,if_true,Bool.not_false,e,List.map_nil]
 have ok:=h c1
 have e:iJ s=tJ s:=by unfold iJ;rw [if_neg (by rw [c1];decide),aPg]
 obtain ⟨R,hR⟩:∃ R,R=tJ s:=⟨_,rfl⟩
 rw [e,←hR]
 obtain ⟨S0,hS0⟩:∃ S0:St,S0=⟨1,Tr.nil.put 0 (.row 0 6 [s.enc])⟩:=⟨_,rfl⟩
 have w0:WF S0:=by rw [hS0];exact hM nK (by decide) (by decide)
 have r0:aA S0 0 0=.ok (6,[s.enc]):=by rw [hS0];rfl
 have rr:∀ {X:St},Ext S0 X→aA X 0 0=.ok (6,[s.enc]):=fun {X} x=>x.row r0
 have wf:∀ {X:St},Ext S0 X→WF X:=fun {X} x=>x.wf w0
 simp only [State.enc] at hS0 rr r0
 simp only [↓cw,↓reduceIte,Nat.reduceLT,kk,gm,c1,iI,Bool.not_true,Bool.false_eq_true,if_false,←hS0,r0]
 have o1:=ok.t1;have o2:=ok.s1;have o3:=ok.p1;have o4:=ok.e1
 have fl1:=kT nJ (n:=114) s.table fun r hr=>yW (ok.t2 r hr)
 have fl2:=kT wV (n:=94) s.ser fun r hr=>aBt (ok.s2 r hr)
 have fl3:=kT jT (n:=1326) s.posted fun r hr=>uK (ok.p2 r hr)
 have fl4:=kT tH (n:=50) s.sess fun r hr=>yX (ok.e2 r hr)
 have l1:=jU (oP (n:=s.table.length) (by omega))
 have l2:=jU (oP (n:=s.ser.length) (by omega))
 have l3:=jU (oP (n:=s.posted.length) (by omega))
 have l4:=jU (oP (n:=s.sess.length) (by omega))
 refine g97 (b:=[]) w0 (Sl.nilv _ _) (by simp) _ (oP (by omega)) fun v1 S1 x1 o1'=>?_
 rw [aE3] at o1'
 refine aE2 nJ s.table (X0:=S0) (B:=114) (fun r hr=>yW (ok.t2 r hr)) x1 o1'.sl (fun i x d v X hi bt hv hd aE H=>?_) fun v X aE bt hv=>?_
 ·have hil:=(List.getElem?_eq_some_iff.1 hi).1
  have hx:=ok.t2 x (List.mem_of_getElem? hi)
  have q1:=fW x.cat (by omega);have q2:=tK hx.2.1
  have hd':d.length≤10000:=by simp only [List.nil_append] at hd;omega
  have xb:Ext S0 ⟨X.next+23,X.heap⟩:=bt.bump 23
  simp only [↓cw,↓reduceIte,Nat.reduceLT,kk,gm,rr bt,bL hi,if_true,oL hi,Rate.enc]
  refine g99 (wf xb) (hv.ext (Ext.b 23)) (by omega) _ (by omega) fun v2 Y1 y1 k1=>?_
  have z1:=xb.trans y1
  simp only [↓cw,↓reduceIte,Nat.reduceLT,kk,gm,rr z1,oL hi,Rate.enc]
  refine g98 (wf z1) k1.sl (by rw [List.length_append];omega) x.day hx.2.1 fun v3 Y2 y2 k2=>?_
  have z2:=z1.trans y2
  simp only [↓cw,↓reduceIte,Nat.reduceLT,kk,gm,rr z2,oL hi,Rate.enc]
  refine g97 (wf z2) k2.sl (by simp only [List.length_append];omega) x.bp hx.2.2 fun v4 Y3 y3 k3=>?_
  simp only [↓cw,↓reduceIte,Nat.reduceLT,kk,gm,iE (show i<1000000000 by omega)]
  exact H _ _ (z2.trans y3) (by have:=k3.sl;rw [aE3] at this;simpa [nJ] using this)
 simp only [↓cw,↓reduceIte,Nat.reduceLT,kk,gm,Int.lt_irrefl,if_false,rr bt]
 have z1:([]++bY [(s.table.length:Int)]++s.table.flatMap nJ).length≤2746:=by simp only [List.length_append,List.length_nil];omega
 generalize hB1:([]++bY [(s.table.length:Int)]++s.table.flatMap nJ:List UInt8)=B1 at hv z1
 refine g97 (wf bt) hv (by omega) _ (oP (n:=s.ser.length) (by omega)) fun v2 S2 x2 o2'=>?_
 rw [aE3] at o2'
 have b2:=bt.trans x2
 clear hv
 refine aE2 wV s.ser (X0:=S0) (B:=94) (fun r hr=>aBt (ok.s2 r hr)) b2 o2'.sl (fun i x d v X hi bt hv hd aE H=>?_) fun v X aE bt hv=>?_
 ·have hil:=(List.getElem?_eq_some_iff.1 hi).1
  have hx:=ok.s2 x (List.mem_of_getElem? hi)
  have q1:=fW x.name (by omega)
  have hd':d.length≤10000:=by rw [List.length_append] at hd;omega
  have xb:Ext S0 ⟨X.next+23,X.heap⟩:=bt.bump 23
  simp only [↓cw,↓reduceIte,Nat.reduceLT,kk,gm,rr bt,bL hi,if_true,lU hi,Ser.enc]
  refine g99 (wf xb) (hv.ext (Ext.b 23)) (by omega) _ (by omega) fun v2 Y1 y1 k1=>?_
  have z1:=xb.trans y1
  simp only [↓cw,↓reduceIte,Nat.reduceLT,kk,gm,rr z1,lU hi,Ser.enc]
  refine g97 (wf z1) k1.sl (by rw [List.length_append];omega) x.limit hx.2 fun v3 Y2 y2 k2=>?_
  have z2:=z1.trans y2
  have q2:=Go.Pack.numP_len hx.2
  simp only [↓cw,↓reduceIte,Nat.reduceLT,kk,gm,rr z2,lU hi,Ser.enc]
  refine bQ2 (wf z2) k2.sl (by simp only [List.length_append];omega) x.shut fun v4 Y3 y3 k3=>?_
  simp only [↓cw,↓reduceIte,Nat.reduceLT,kk,gm,iE (show i<1000000000 by omega)]
  exact H _ _ (z2.trans y3) (by have:=k3.sl;rw [aE3] at this;simpa [wV] using this)
 simp only [↓cw,↓reduceIte,Nat.reduceLT,kk,gm,Int.lt_irrefl,if_false,rr bt]
 have z2:(B1++bY [(s.ser.length:Int)]++s.ser.flatMap wV).length≤3508:=by simp only [List.length_append];omega
 generalize hB2:(B1++bY [(s.ser.length:Int)]++s.ser.flatMap wV:List UInt8)=B2 at hv z2
 refine g97 (wf bt) hv (by omega) _ (oP (n:=s.posted.length) (by omega)) fun v3 S3 x3 o3'=>?_
 rw [aE3] at o3'
 have b3:=bt.trans x3
 clear hv
 refine aE2 jT s.posted (X0:=S0) (B:=1326) (fun r hr=>uK (ok.p2 r hr)) b3 o3'.sl (fun i x d v X hi bt hv hd aE H=>?_) fun v X aE bt hv=>?_
 ·have hil:=(List.getElem?_eq_some_iff.1 hi).1
  have hx:=ok.p2 x (List.mem_of_getElem? hi)
  have hd':d.length≤70000:=by rw [List.length_append] at hd;omega
  have q1:=fW x.ref.ser (by have:=hx.ser;omega);have q2:=tK hx.day;have q3:=fW x.of.ser (by have:=hx.ofs;omega)
  have hs1:=hx.ser;have hs2:=hx.ofs;have hs3:=hx.len
  have wX:=wf bt
  obtain ⟨X1,hX1⟩:∃ X1:St,X1=⟨X.next+1,(X.heap.put X.next (.row 0 12 [yL])).put X.next (.row 0 12 [x.enc])⟩:=⟨_,rfl⟩
  have xX:Ext X X1:=by rw [hX1];exact Ext.var wX 12 _ _
  have rq:aA X1 X.next 0=.ok (12,[x.enc]):=by rw [hX1];exact aC _ _ _ _ _ _
  have rr2:∀ {Y:St},Ext X1 Y→aA Y X.next 0=.ok (12,[x.enc]):=fun {Y} y=>y.row rq
  simp only [yL,Posted.enc] at hX1
  simp only [Posted.enc] at rr2 rq
  simp only [↓cw,↓reduceIte,Nat.reduceLT,kk,gm,rr bt,bL hi,if_true,lN hi,Posted.enc,←hX1,rq]
  have wX1:=xX.wf wX
  have y0:Ext X1 ⟨X1.next+9,X1.heap⟩:=Ext.b 9
  refine g99 (y0.wf wX1) (hv.ext (xX.trans y0)) (by omega) _ (by omega) fun v2 Y1 y1 k1=>?_
  have t1:=y0.trans y1
  simp only [↓cw,↓reduceIte,Nat.reduceLT,kk,gm,rr2 t1]
  refine g98 (t1.wf wX1) k1.sl (by rw [List.length_append];omega) x.day hx.day fun v3 Y2 y2 k2=>?_
  have t2:=(t1.trans y2).trans (Ext.b (S:=Y2) 10)
  simp only [↓cw,↓reduceIte,Nat.reduceLT,kk,gm,rr2 (t1.trans y2)]
  refine g99 (t2.wf wX1) (k2.sl.ext (Ext.b 10)) (by simp only [List.length_append];omega) _ (by omega) fun v4 Y3 y3 k3=>?_
  have t3:=t2.trans y3
  simp only [↓cw,↓reduceIte,Nat.reduceLT,kk,gm,rr2 t3]
  refine g97 (t3.wf wX1) k3.sl (by simp only [List.length_append];omega) _ hx.num fun v5 Y4 y4 k4=>?_
  have t4:=t3.trans y4
  have q4:=Go.Pack.numP_len hx.num
  simp only [↓cw,↓reduceIte,Nat.reduceLT,kk,gm,rr2 t4]
  refine g97 (t4.wf wX1) k4.sl (by simp only [List.length_append];omega) _ (oP (n:=x.total.parts.length) (by omega)) fun v6 Y5 y5 k5=>?_
  have t5:=t4.trans y5
  have q5:=Go.Pack.numP_len (oP (n:=x.total.parts.length) (by omega))
  refine aE2 tG x.total.parts (X0:=X1) (B:=94) (fun r hr=>aE1 (hx.parts r hr)) t5 k5.sl (fun i2 x2 d2 v X hi2 bt2 hv2 hd2 again2 H2=>?_) fun v X' again2 bt2 hv2=>?_
  ·have hil2:=(List.getElem?_eq_some_iff.1 hi2).1
   have hx2:=hx.parts x2 (List.mem_of_getElem? hi2)
   have e1:=fW x2.cat (by omega)
   have hd2':d2.length≤80000:=by simp only [List.length_append] at hd2;omega
   have wZ:=bt2.wf wX1
   obtain ⟨Z1,hZ1⟩:∃ Z1:St,Z1=⟨X.next+1,(X.heap.put X.next (.row 0 4 [[.str [],.int .i64 0,.int .i64 0,.int .i64 0]])).put X.next (.row 0 4 [x2.enc])⟩:=⟨_,rfl⟩
   have xZ:Ext X Z1:=by rw [hZ1];exact Ext.var wZ 4 _ _
   have rz:aA Z1 X.next 0=.ok (4,[x2.enc]):=by rw [hZ1];exact aC _ _ _ _ _ _
   have rr3:∀ {Y:St},Ext Z1 Y→aA Y X.next 0=.ok (4,[x2.enc]):=fun {Y} y=>y.row rz
   simp only [Part.enc] at hZ1 rr3 rz
   have wZ1:=xZ.wf wZ
   simp only [↓cw,↓reduceIte,Nat.reduceLT,kk,gm,rr2 bt2,bL hi2,if_true,iT hi2,Part.enc,←hZ1,rz]
   have f0:Ext Z1 ⟨Z1.next+11,Z1.heap⟩:=Ext.b 11
   refine g99 (f0.wf wZ1) (hv2.ext (xZ.trans f0)) (by omega) _ (by omega) fun v2 U1 u1 m1=>?_
   have f1:=f0.trans u1
   simp only [↓cw,↓reduceIte,Nat.reduceLT,kk,gm,rr3 f1]
   refine g97 (f1.wf wZ1) m1.sl (by rw [List.length_append];omega) _ hx2.2.1 fun v3 U2 u2 m2=>?_
   have f2:=f1.trans u2
   have e2:=Go.Pack.numP_len hx2.2.1
   simp only [↓cw,↓reduceIte,Nat.reduceLT,kk,gm,rr3 f2]
   refine g97 (f2.wf wZ1) m2.sl (by simp only [List.length_append];omega) _ hx2.2.2 fun v4 U3 u3 m3=>?_
   simp only [↓cw,↓reduceIte,Nat.reduceLT,kk,gm,iE (show i2<1000000000 by omega)]
   exact H2 _ _ (bt2.trans (xZ.trans (f2.trans u3))) (by have:=m3.sl;simpa [tG,bY] using this)
  ·simp only [↓cw,↓reduceIte,Nat.reduceLT,kk,gm,rr2 bt2,Int.lt_irrefl,if_false,iE (show i<1000000000 by omega)]
   exact H _ _ (bt.trans (xX.trans bt2)) (by simpa [jT,bY] using hv2)
 simp only [↓cw,↓reduceIte,Nat.reduceLT,kk,gm,Int.lt_irrefl,if_false,rr bt]
 have z3:(B2++bY [(s.posted.length:Int)]++s.posted.flatMap jT).length≤60000:=by simp only [List.length_append];omega
 generalize hB3:(B2++bY [(s.posted.length:Int)]++s.posted.flatMap jT:List UInt8)=B3 at hv z3
 refine g97 (wf bt) hv (by omega) _ (oP (n:=s.sess.length) (by omega)) fun v4 S4 x4 o4'=>?_
 rw [aE3] at o4'
 have b4:=bt.trans x4
 clear hv
 refine aE2 tH s.sess (X0:=S0) (B:=50) (fun r hr=>yX (ok.e2 r hr)) b4 o4'.sl (fun i x d v X hi bt hv hd aE H=>?_) fun v X aE bt hv=>?_
 ·have hil:=(List.getElem?_eq_some_iff.1 hi).1
  have hx:=ok.e2 x (List.mem_of_getElem? hi)
  have hd':d.length≤70000:=by rw [List.length_append] at hd;omega
  have q1:=Go.Pack.numP_len hx.1;have q2:=Go.Pack.numP_len hx.2.1
  have xb:Ext S0 ⟨X.next+23,X.heap⟩:=bt.bump 23
  simp only [↓cw,↓reduceIte,Nat.reduceLT,kk,gm,rr bt,bL hi,if_true,lM hi,Sess.enc]
  refine g97 (wf xb) (hv.ext (Ext.b 23)) (by omega) _ hx.1 fun v2 Y1 y1 k1=>?_
  have z1:=xb.trans y1
  simp only [↓cw,↓reduceIte,Nat.reduceLT,kk,gm,rr z1,lM hi,Sess.enc]
  refine g97 (wf z1) k1.sl (by rw [List.length_append];omega) _ hx.2.1 fun v3 Y2 y2 k2=>?_
  have z2:=z1.trans y2
  simp only [↓cw,↓reduceIte,Nat.reduceLT,kk,gm,rr z2,lM hi,Sess.enc]
  refine bQ3 (wf z2) k2.sl (by simp only [List.length_append];omega) x.reply hx.2.2 fun v4 Y3 y3 k3=>?_
  simp only [↓cw,↓reduceIte,Nat.reduceLT,kk,gm,iE (show i<1000000000 by omega)]
  exact H _ _ (z2.trans y3) (by have:=k3.sl;simpa [tH,bY] using this)
 simp only [↓cw,↓reduceIte,Nat.reduceLT,kk,gm,Int.lt_irrefl,if_false,rr bt]
 refine g97 (wf bt) hv (by simp only [List.length_append];omega) _ ok.n fun v5 S5 x5 o5=>?_
 have hfin:B3++bY [(s.sess.length:Int)]++s.sess.flatMap tH++Go.Pack.numP s.next=R:=by rw [hR,←hB3,←hB2,←hB1,aE3];simp [tJ]
 rw [hfin] at o5
 simp only [↓cw,↓reduceIte,Nat.reduceLT,kk,gm,oo]
 exact o5.sl.out fun _=>rfl
theorem aWh {l:List UInt8} {i:Nat} {a:UInt8} (hi:l[i]?=some a) (k:IntKind):gS 1 (.imm (l.map lG)) (.int k (i:Int))=.ok (.iptr (lG a) 0):=ixI (enc:=lG) hi rfl k
theorem bE4 (a b:UInt8):(a=b)=((a.toNat:Int)=(b.toNat:Int)):=by
 refine propext ⟨fun h=>by rw [h],fun h=>UInt8.toNat_inj.1 (by omega)⟩
theorem g27 (l r:List UInt8) (hb:l.length<1000000000) (S:St) (K:KW):C 27 [.imm (l.map lG),.imm (r.map lG)] S K=K (.bool (decide (l=r))) S:=by
 refine (v27 rfl ?_).eq S K
 delta Tryz.f27;simp only [↓cw,↓reduceIte,Nat.reduceLT,kk]
 by_cases h:l.length=r.length
 ·simp only [↓cw,↓reduceIte,Nat.reduceLT,show (l.length:Int)=(r.length:Int) by omega,kk,not_true_eq_false,if_false]
  refine aF l (step:=kL r) (fin:=fun _=>true) (fun i n vs S=>n=i∧vs=[.bool false,.int .i64 (i:Int)]) (fun x=>x=decide (l=r)) ?_ ?_ (s:=0) ⟨rfl,rfl⟩ (eqL h)
  ·rintro i p n vs S hi ⟨rfl,rfl⟩ aE H
   have hil:=(List.getElem?_eq_some_iff.1 hi).1
   have hj:r[n]?=some r[n]:=List.getElem?_eq_getElem (by omega)
   have hlt:((n:Int)<(r.length:Int))=True:=bL hj
   simp only [kL,hj,Option.some.injEq,bE4] at H
   simp only [↓cw,↓reduceIte,Nat.reduceLT,kk,bL hi,hlt,aWh hi,aWh hj,lG,iE (show n<1000000000 by omega),oo]
   grind
  ·rintro n vs S ⟨rfl,rfl⟩ aE H
   simp only [↓cw,↓reduceIte,Nat.reduceLT,kk,h,Int.lt_irrefl,if_false,oo,←H]
 ·simp only [↓cw,↓reduceIte,Nat.reduceLT,show ¬ (l.length:Int)=(r.length:Int) by omega,kk,not_false_eq_true,if_true,oo]
  have:decide (l=r)=false:=by simpa using fun e=>h (by rw [e])
  rw [this]
theorem bQb:uL 25=some (.spec (Sp.told.run prog)):=by kernel_rfl
theorem g25 (S:St) (K:KW):C 25 [] S K=K (.bool true) S:=aL8 bQb rfl K
structure After (s:State):Prop where
 beh:Beh s
 rep:RepI s
theorem After.new:After State.new:=⟨Beh.new,RepI.new⟩
theorem After.play {s:State} (h:After s) (l:List Call):After (playM s l).1:=⟨h.beh.playM l,RepI.playM h.beh h.rep l⟩
theorem After.img {s:State} (h:After s):ImgOK s:=ImgOK.of (aW5 h.beh.right h.beh.ints h.rep)
theorem g13 (l:List Call) (S:St) (K:KW):C 13 [.imm (l.map Call.enc)] S K=K (.bool true) S:=by
 refine (v13 rfl ?_).eq S K
 have h30:=fun S K=>g30 l 50 (by decide) S K
 simp only [show ((50:Nat):Int)=50 from rfl] at h30
 obtain ⟨s,hs⟩:∃ s,s=(playM State.new (sV l 50)).1:=⟨_,rfl⟩
 have A:After s:=by rw [hs];exact After.new.play _
 have h35:=fun S K=>a35 l 50 (by decide) S K
 simp only [←hs] at h35
 obtain ⟨q1,q2,q3,q4,q5,q6,_⟩:=sU A.beh.right
 have hln:=aYp A.beh.right A.beh.ints A.rep
 have h28:=fun S K=>g28 s (fun _=>A.img) S K
 have h29:=fun S K=>g29 s A.beh.ints (aMn A.beh.right) (by omega) (fun q hq=>by have:=q6 q hq;omega) (fun _=>A.img) S K
 have h27:=fun S K=>g27 (iJ s) (iJ s) (by omega) S K
 simp only [decide_true] at h27
 delta Tryz.f13;simp only [↓cw,↓reduceIte,Nat.reduceLT,kk,iI,gm,g31,h30,h35,h28,h29,h27,g25]
 rw [if_pos (by omega)];trivial
end Go.Proofs.YtoaibmbldmckaaaGreat
end
