import Derived.Test.YtoaibmbldmckaaaGreatX3
set_option linter.unusedSimpArgs false
set_option linter.unusedVariables false
set_option linter.unusedSectionVars false
set_option maxRecDepth 100000
section
namespace Go.Proofs.YtoaibmbldmckaaaGreat
open Go.AM Tryz
theorem bGx (t:Total) (hf:aRr t) (S:St) (K:KW):C 121 [.agg [.int .i64 t.net,.int .i64 t.tax,.int .i64 t.gross,.imm (t.parts.map Part.enc)]] S K=K (.tup [.imm ((dG t).1.map Bal.enc),.int .i64 (dG t).2]) S:=by
 refine (bDi rfl ?_).eq S K
 delta Tryz.f121;simp only [↓cw,↓reduceIte,Nat.reduceLT,kk,aRp,tP,gm]
 have hpl:=hf.1
 refine aG t.parts (step:=mT) (fin:=fun l=>(l,0)) (fun i s vs S=>∃ v,vs=[.nils,.int .i64 0,v,.int .i64 (i:Int)]∧Own E0 S 2 v (s.map Bal.enc)∧WF S∧s.length=1+2*i∧aB S 0 0=.ok (4,[t.enc])∧AM.blkOf v≠some 0∧2≤S.next) (fun r=>r=dG t) ?_ ?_ (s:=[⟨[111,119,101,100],t.gross⟩]) ⟨_,rfl,⟨.inr ⟨1,0,[],rfl,Nat.zero_le _,Nat.lt_succ_self 1,rfl⟩,?_⟩,lA (lA (m:=1) xD (by decide) (by decide)) (by decide) (by decide),rfl,rfl,fun h=>(by cases h),Nat.le_refl _⟩ rfl
 ·rintro i p s vs S hi ⟨v,rfl,own,w,hsl,r0,hv0,hn⟩ aC H
  have hil:=(List.getElem?_eq_some_iff.1 hi).1
  have hcat:=hf.2 p (List.mem_of_getElem? hi)
  simp only [↓cw,↓reduceIte,Nat.reduceLT,mT,kk] at H
  have e1:rH.length+p.cat.length<2000000:=by simp only [rH,List.length_cons,List.length_nil];omega
  have e2:rI.length+p.cat.length<2000000:=by simp only [rI,List.length_cons,List.length_nil];omega
  have c1:=xE (P:=prog) (t:=9) e1
  have c2:=xE (P:=prog) (t:=9) e2
  simp only [rH,rI] at c1 c2
  simp only [Total.enc] at r0
  simp only [↓cw,↓reduceIte,Nat.reduceLT,kk,r0,aY hi,if_true,eW hi,Part.enc,fV (show i<1000000000 by omega),aWw,eG,gm,c1,c2,aVy]
  by_cases h1:(bK 0 p.net).2=0
  ·by_cases h2:(bK 0 p.tax).2=0
   ·simp only [↓cw,↓reduceIte,Nat.reduceLT,h1,h2,kk,not_true_eq_false,if_false] at H ⊢
    have f1:S.heap.get (S.next+19)=none:=fresh w (by omega)
    have f2:S.heap.get (S.next+20)=none:=fresh w (by omega)
    have w1:WF ⟨S.next+22,S.heap.put (S.next+19) (.row 0 2 [Bal.enc ⟨rH++p.cat,(bK 0 p.net).1⟩,Bal.enc ⟨rI++p.cat,(bK 0 p.tax).1⟩])⟩:=lA (n:=S.next) w (by omega) (by omega)
    have o1:Own E0 ⟨S.next+22,S.heap.put (S.next+19) (.row 0 2 [Bal.enc ⟨rH++p.cat,(bK 0 p.net).1⟩,Bal.enc ⟨rI++p.cat,(bK 0 p.tax).1⟩])⟩ 2 v (s.map Bal.enc):=own.same (by show S.next≤S.next+22;omega) fun a ha=>Tr.get_put_neB _ _ _ _ trivial (by have:=(fE own ha).2;omega)
    have hu:aM ⟨S.next+22,S.heap.put (S.next+19) (.row 0 2 [Bal.enc ⟨rH++p.cat,(bK 0 p.net).1⟩,Bal.enc ⟨rI++p.cat,(bK 0 p.tax).1⟩])⟩ (.sl (S.next+19) 0 2 0 2)=.ok [Bal.enc ⟨rH++p.cat,(bK 0 p.net).1⟩,Bal.enc ⟨rI++p.cat,(bK 0 p.tax).1⟩]:=by
     simp only [aM,aF];rfl
    have f3:(⟨S.next+22,S.heap.put (S.next+19) (.row 0 2 [Bal.enc ⟨rH++p.cat,(bK 0 p.net).1⟩,Bal.enc ⟨rI++p.cat,(bK 0 p.tax).1⟩])⟩:St).heap.get (S.next+20)=none:=by
     show (S.heap.put (S.next+19) _).get (S.next+20)=none
     rw [Tr.get_put_neB _ _ _ _ trivial (by omega)];exact f2
    obtain ⟨v',S',q1,q2,q3,q4,q5,q6⟩:=o1.pushAt (b:=24) (k:=S.next+20) (aH7 w1) xD hu (fun d hd=>by
     rcases List.mem_cons.1 hd with rfl | hd
     ·exact aAl _
     ·rcases List.mem_cons.1 hd with rfl | hd
      ·exact aAl _
      ·cases hd) (by simp) (Nat.zero_le _) (by show S.next+20<S.next+22;omega) f3 (by simp;omega) (by simp [eE];omega)
    simp only [↓cw,↓reduceIte,Nat.reduceLT,Bal.enc,rH,rI,kk] at q1
    simp only [↓cw,↓reduceIte,Nat.reduceLT,q1,kk]
    have wS:WF S':=q2.wf xD
    have hnn:S'.next=S.next+22:=q3
    refine H _ _ ⟨_,rfl,by rw [List.map_append];exact q4,wS,by rw [List.length_append,hsl];simp;omega,?_,?_,by omega⟩
    ·refine bG (S:=S) r0 ?_
     rw [q6 0 (by omega) hv0]
     exact Tr.get_put_neB _ _ _ _ trivial (by omega)
    ·rcases q5 with e | e
     ·rw [e];intro h;cases h
     ·rw [e];exact hv0
   ·simp only [↓cw,↓reduceIte,Nat.reduceLT,h1,h2,kk,not_true_eq_false,not_false_eq_true,if_false,if_true] at H ⊢
    simp only [oo,←H,List.map_nil]
  ·simp only [↓cw,↓reduceIte,Nat.reduceLT,h1,kk,not_false_eq_true,if_true] at H ⊢
   simp only [oo,←H,List.map_nil]
 ·rintro s vs S ⟨v,rfl,own,w,hsl,r0,hv0,hn⟩ aC H
  have H':dG t=(s,0):=H.symm
  simp only [Total.enc] at r0
  simp only [↓cw,↓reduceIte,Nat.reduceLT,kk,r0,Int.lt_irrefl,if_false,oo,own.frz (kY (fun _=>rfl) _),H']
 ·intro c hc;simp at hc;subst hc;exact ⟨rfl,rfl⟩
theorem bCy (book l:List Bal) (hbb:book.length+l.length<1000000) (S:St) (K:KW):C 122 [.imm (book.map Bal.enc),.imm (l.map Bal.enc)] S K=K (.tup [.imm ((cH book l).1.map Bal.enc),.int .i64 (cH book l).2]) S:=by
 refine (bF0 rfl ?_).eq S K
 simp only [aRc,kk,bGi book (by omega),cH]
 cases h:qC book
 ·simp only [h,kk,Bool.not_false,if_true,oo,List.map_nil]
 simp only [h,kk,Bool.not_true,Bool.true_eq_false,Bool.false_eq_true,if_false,bs0]
 have q0:=aFl (b:=24) aAl book (S:=⟨0+1,Tr.nil.put 0 (.row 0 2 [])⟩) (a:=0) (aF _ _ _ _ _ _) (by omega) (by unfold eE;omega) none
 simp only [q0]
 refine aG l (step:=bF) (fin:=fun l=>(l,0)) (fun i cur vs X=>∃ a ver,vs=[.nils,.int .i64 0,.sl a ver 2 0 cur.length,.int .i64 (i:Int)]∧X.heap.get a=some (.row ver 2 (cur.map Bal.enc))∧WF X∧cur.length≤book.length+i) (fun r=>r=aE bF (fun l=>(l,0)) l book) ?_ ?_ (s:=book) ⟨0,1,rfl,Tr.get_put_sameB _ _ _ trivial,lA (n:=1) (lA xD (by decide) (by decide)) (by decide) (by decide),Nat.le_refl _⟩ rfl
 ·rintro i x cur vs X hi ⟨a,ver,rfl,hg,w,hlen⟩ aC H
  have hil:=(List.getElem?_eq_some_iff.1 hi).1
  have haX:=w _ _ hg
  have hpl:=kW cur x.acc
  have hroom:(bD cur x.acc).length≤cur.length+1:=by
   unfold bD
   split
   ·rw [lR _ _ _ hpl];exact Nat.le_refl _
   ·omega
  have hj1:∀ (a' ver':Nat) (Y:St),Y.heap.get a'=some (.row ver' 2 ((bD cur x.acc).map Bal.enc))→WF Y→xA C (fun v0 S0=>iR S0 v0=Except.ok (V.tup [.imm ((aE bF (fun l=>(l,0)) l book).1.map Bal.enc),.int .i64 (aE bF (fun l=>(l,0)) l book).2])) aC (.imm (l.map Bal.enc)) .nils (.int .i64 0) (.sl a' ver' 2 0 (bD cur x.acc).length) (.int .i64 (i:Int)) (.int .i64 (aH cur x.acc:Int)) Y:=by
   intro a' ver' Y hY wY
   have hlt:aH cur x.acc<(bD cur x.acc).length:=by
    by_cases c:aH cur x.acc<cur.length
    ·unfold bD
     split
     ·rw [lR _ _ _ hpl];omega
     ·exact c
    ·have hm:dM cur x.acc=true:=by unfold dM;rw [List.getElem?_eq_none (by omega)]
     unfold bD
     rw [if_pos hm,lR _ _ _ hpl];omega
   obtain ⟨r,hr⟩:∃ r,(bD cur x.acc)[aH cur x.acc]?=some r:=⟨_,List.getElem?_eq_getElem hlt⟩
   have hr':((bD cur x.acc).map Bal.enc)[aH cur x.acc]?=some r.enc:=by rw [List.getElem?_map,hr];rfl
   have hld:∀ m,iZ none (.ptr a' ver' (aH cur x.acc) 1) ⟨m,Y.heap⟩=.ok (.int .i64 r.amount):=fun m=>by
    rw [aLs (X:=⟨m,Y.heap⟩) hY hr'];rfl
   have hst:=aW8 (X:=⟨Y.next+16,Y.heap⟩) (v:=.int .i64 (iS r.amount x.amount).1) (j:=1) hY hr' rfl rfl (by show 1+1≤2;decide)
   simp only [bF,hr] at H
   simp only [xA,kk,aC6 hlt,hld,jZ hi,Bal.enc,bBx,eG,fV (show i<1000000000 by omega),Nat.zero_add]
   by_cases c:(iS r.amount x.amount).2=0
   ·simp only [c,not_true_eq_false,if_false] at H ⊢
    have hst':eM 1 (.ptr a' ver' (aH cur x.acc) 1) (.int .i64 (iS r.amount x.amount).1) ⟨Y.next+16,Y.heap⟩=.ok ⟨Y.next+16,Y.heap.put a' (.row ver' 2 (((bD cur x.acc).map Bal.enc).set (aH cur x.acc) (splice r.enc 1 [.int .i64 (iS r.amount x.amount).1])))⟩:=hst
    simp only [hst',kk]
    have hset:((bD cur x.acc).map Bal.enc).set (aH cur x.acc) (splice r.enc 1 [.int .i64 (iS r.amount x.amount).1])=((bD cur x.acc).set (aH cur x.acc) ⟨r.acc,(iS r.amount x.amount).1⟩).map Bal.enc:=by rw [List.map_set];rfl
    rw [hset]
    refine H _ _ ⟨a',ver',by rw [List.length_set],Tr.get_put_sameB _ _ _ trivial,lA (n:=Y.next+16) (fun b c hb=>by have:=wY b c hb;show b<Y.next+16;omega) (by have:=wY _ _ hY;omega) (Nat.le_refl _),by rw [List.length_set];omega⟩
   ·simp only [c,ne_eq,not_false_eq_true,if_true] at H ⊢
    simp only [oo,←H,List.map_nil]
  have hj2:∀ Y:St,Y.heap=X.heap→X.next≤Y.next→sU C (fun v0 S0=>iR S0 v0=Except.ok (V.tup [.imm ((aE bF (fun l=>(l,0)) l book).1.map Bal.enc),.int .i64 (aE bF (fun l=>(l,0)) l book).2])) aC (.imm (l.map Bal.enc)) .nils (.int .i64 0) (.sl a ver 2 0 cur.length) (.int .i64 (i:Int)) (.int .i64 (aH cur x.acc:Int)) (.bool (dM cur x.acc)) Y:=by
   intro Y hh hn
   have wY:WF Y:=fun b c hb=>by rw [hh] at hb;have:=w b c hb;omega
   have hgY:Y.heap.get a=some (.row ver 2 (cur.map Bal.enc)):=by rw [hh];exact hg
   cases hm:dM cur x.acc
   ·have e:bD cur x.acc=cur:=by unfold bD;rw [hm];rfl
    have:=hj1 a ver Y (by rw [e];exact hgY) wY
    rw [e] at this
    simp only [sU,kk,Bool.false_eq_true,if_false]
    exact this
   ·have e:bD cur x.acc=nJ cur (aH cur x.acc) ⟨x.acc,0⟩:=by unfold bD;rw [hm];rfl
    obtain ⟨Z,hZ⟩:∃ Z:St,Z=⟨Y.next+18,Y.heap.put Y.next (.row 0 2 [])⟩:=⟨_,rfl⟩
    have wZ:WF Z:=by rw [hZ];exact lA (n:=Y.next) wY (by omega) (by omega)
    have gZ:aB Z Y.next 0=.ok (2,[]):=by rw [hZ];exact aF _ _ _ _ _ _
    have nZ:Z.next=Y.next+18:=by rw [hZ]
    have sZ:Z.heap.get a=some (.row ver 2 (cur.map Bal.enc)):=by rw [hZ];show (Y.heap.put Y.next _).get a=_;rw [Tr.get_put_neB _ _ _ _ trivial (by omega)];exact hgY
    obtain ⟨S1,S2,S3,q1,m1,q2,q3,n3,w3,g3,k1,k3⟩:=bCq (b:=24) aAl cur ⟨x.acc,0⟩ hpl (S:=Z) (k1:=Y.next) (k2:=Y.next+11) (m:=Z.next) (s:=a) (vs:=ver) (by omega) (by omega) (by omega) sZ (by omega) (Nat.le_refl _) gZ wZ (by omega) (by omega) (by unfold eE;omega) (some (Y.next+4)) (some (Y.next+12)) (some (Y.next+16))
    have mm:∀ b,(⟨Z.next,S1.heap.put (Y.next+11) b⟩:St)=⟨S1.next,S1.heap.put (Y.next+11) b⟩:=fun b=>by rw [m1]
    rw [mm] at q2
    simp only [Bal.enc] at q2
    have b1:eR cur.length none (some (.int .i64 (aH cur x.acc:Int)))=.ok (0,aH cur x.acc):=by
     have:(decide ((0:Int)≤(aH cur x.acc:Int))&&decide ((aH cur x.acc:Int)≤(cur.length:Int)))=true:=by simp;omega
     simp only [eR,this,cond_true];rfl
    have b2:eR cur.length (some (.int .i64 (aH cur x.acc:Int))) none=.ok (aH cur x.acc,cur.length):=by
     simp only [eR];simp [hpl]
    have hfin:=hj1 Y.next 3 S3 (by rw [e];exact g3) w3
    have hrl:(bD cur x.acc).length=cur.length+1:=by rw [e,lR _ _ _ hpl]
    rw [hrl] at hfin
    simp only [sU,kk,if_true,aWp,b1,b2,jZ hi,Bal.enc,bs0,Nat.add_zero,Nat.zero_add,Nat.sub_zero,←hZ,q1,aRp,q2,q3]
    exact hfin
  have hj0:∀ Y:St,Y.heap=X.heap→X.next≤Y.next→sV C (fun v0 S0=>iR S0 v0=Except.ok (V.tup [.imm ((aE bF (fun l=>(l,0)) l book).1.map Bal.enc),.int .i64 (aE bF (fun l=>(l,0)) l book).2])) aC (.imm (l.map Bal.enc)) .nils (.int .i64 0) (.sl a ver 2 0 cur.length) (.int .i64 (i:Int)) (.int .i64 (aH cur x.acc:Int)) Y:=by
   intro Y hh hn
   have h2:=hj2 ⟨Y.next+17,Y.heap⟩ hh (by show X.next≤Y.next+17;omega)
   by_cases c:aH cur x.acc<cur.length
   ·obtain ⟨r,hr⟩:∃ r,cur[aH cur x.acc]?=some r:=⟨_,List.getElem?_eq_getElem c⟩
    have hr':(cur.map Bal.enc)[aH cur x.acc]?=some r.enc:=by rw [List.getElem?_map,hr];rfl
    have hld:iZ none (.ptr a ver (aH cur x.acc) 0) ⟨Y.next+17,Y.heap⟩=.ok (.str r.acc):=by
     rw [aLs (X:=⟨Y.next+17,Y.heap⟩) (by rw [←hh] at hg;exact hg) hr'];rfl
    have hm:dM cur x.acc=!(r.acc == x.acc):=by unfold dM;rw [hr]
    rw [hm] at h2
    simp only [sV,kk,show ¬ ((aH cur x.acc:Nat):Int)=(cur.length:Int) by omega,if_false,aC6 c,Nat.add_zero,hld,jZ hi,Bal.enc]
    exact h2
   ·have e:aH cur x.acc=cur.length:=by omega
    have hm:dM cur x.acc=true:=by unfold dM;rw [List.getElem?_eq_none (by omega)]
    rw [hm] at h2
    simp only [sV,kk,show ((aH cur x.acc:Nat):Int)=(cur.length:Int) by omega,if_true]
    rw [show ((aH cur x.acc:Nat):Int)=(cur.length:Int) by omega] at h2
    exact h2
  simp only [aD7,kk,aY hi,if_true]
  refine aG cur (step:=kV (fun b:Bal=>iW b.acc x.acc)) (fin:=id) (fun k n vs Y=>n=k∧vs=[.int .i64 (k:Int)]∧Y.heap=X.heap∧X.next≤Y.next) (fun n=>n=aH cur x.acc) ?_ ?_ (s:=0) ⟨rfl,rfl,rfl,Nat.le_refl _⟩ rfl
  ·rintro k b n vs Y hk ⟨rfl,rfl,hh,hn⟩ again' H'
   have hkl:=(List.getElem?_eq_some_iff.1 hk).1
   have hk':(cur.map Bal.enc)[n]?=some b.enc:=by rw [List.getElem?_map,hk];rfl
   have hld:iZ none (.ptr a ver n 0) ⟨Y.next+17,Y.heap⟩=.ok (.str b.acc):=by
    rw [aLs (X:=⟨Y.next+17,Y.heap⟩) (by rw [←hh] at hg;exact hg) hk'];rfl
   simp only [kV] at H'
   simp only [aD6,kk,aY hk,if_true,aC6 hkl,Nat.add_zero,hld,jZ hi,Bal.enc,fV (show n<1000000000 by omega)]
   cases c:iW b.acc x.acc<;>simp only [c,kk,if_true,if_false,Bool.false_eq_true] at H' ⊢
   ·have H':n=aH cur x.acc:=H'
    rw [H']
    exact hj0 _ hh (by show X.next≤Y.next+17;omega)
   ·exact H' _ _ ⟨rfl,hh,by show X.next≤Y.next+17;omega⟩
  ·rintro n vs Y ⟨rfl,rfl,hh,hn⟩ again' H'
   have H':cur.length=aH cur x.acc:=H'
   simp only [aD6,kk,Int.lt_irrefl,if_false]
   have:=hj0 ⟨Y.next+17,Y.heap⟩ hh (by show X.next≤Y.next+17;omega)
   rw [←H'] at this
   exact this
 ·rintro cur vs X ⟨a,ver,rfl,hg,w,hlen⟩ aC H
  have H:(cur,(0:Int))=aE bF (fun l=>(l,0)) l book:=H
  obtain ⟨v,hv⟩:∃ v,v=V.sl a ver 2 0 cur.length:=⟨_,rfl⟩
  have own:=bCn aAl (l:=cur) hg (w _ _ hg)
  rw [←hv] at own ⊢
  have of:=own.out fun _=>rfl
  simp only [aD7,kk,Int.lt_irrefl,if_false,oo,of,←H]
theorem tN {a b:Int} (h:(bK a b).2≠0):(bK a b).2=7:=by
 unfold bK at h ⊢
 split at h
 ·rename_i c;rw [if_pos c]
 ·exact absurd rfl h
theorem bGy (x y:Int):eA [x,y]=if (bK 0 x).2≠0∨(bK 0 y).2≠0 then ([],7) else ([(bK 0 x).1,(bK 0 y).1],0):=by
 simp only [eA,aE,mV]
 by_cases c1:(bK 0 x).2=0
 ·by_cases c2:(bK 0 y).2=0
  ·simp [c1,c2,aE]
  ·simp [c1,c2,aE,tN c2]
 ·simp [c1,aE,tN c1]
theorem bGz (x y z:Int):eA [x,y,z]=if (bK 0 x).2≠0∨(bK 0 y).2≠0∨(bK 0 z).2≠0 then ([],7) else ([(bK 0 x).1,(bK 0 y).1,(bK 0 z).1],0):=by
 simp only [eA,aE,mV]
 by_cases c1:(bK 0 x).2=0
 ·by_cases c2:(bK 0 y).2=0
  ·by_cases c3:(bK 0 z).2=0
   ·simp [c1,c2,c3,aE]
   ·simp [c1,c2,c3,aE,tN c3]
  ·simp [c1,c2,aE,tN c2]
 ·simp [c1,aE,tN c1]
set_option maxHeartbeats 2000000 in
theorem bH0 (t:Total) (hf:t.parts.length≤1100000) (S:St) (K:KW):C 197 [.agg [.int .i64 t.net,.int .i64 t.tax,.int .i64 t.gross,.imm (t.parts.map Part.enc)]] S K=K (aFd (dT t)) S:=by
 refine (bEa rfl ?_).eq S K
 have zero:∀ (X:St) (e:Int),iR X (.tup [.agg [.int .i64 0,.int .i64 0,.int .i64 0,.nils],.int .i64 e])=.ok (aFd (Total.zero,e)):=fun X e=>by
  simp only [oo,aFd,Total.zero,List.map_nil]
 have hx:=bGz t.net t.tax t.gross
 delta Tryz.f197;simp only [↓cw,↓reduceIte,Nat.reduceLT,kk,gm,tP,aWw,eG]
 have bad:¬ ((bK 0 t.net).2=0∧(bK 0 t.tax).2=0∧(bK 0 t.gross).2=0)→dT t=(Total.zero,7):=fun h=>by
  unfold dT
  rw [hx]
  rw [if_pos (show (bK 0 t.net).2≠0∨(bK 0 t.tax).2≠0∨(bK 0 t.gross).2≠0 by by_cases a:(bK 0 t.net).2=0<;>by_cases b:(bK 0 t.tax).2=0<;>simp_all)]
  rfl
 by_cases c1:(bK 0 t.net).2=0
 rotate_left
 ·simp only [↓cw,↓reduceIte,Nat.reduceLT,c1,not_false_eq_true,if_true,kk,tP,zero,bad (fun h=>c1 h.1)]
 by_cases c2:(bK 0 t.tax).2=0
 rotate_left
 ·simp only [↓cw,↓reduceIte,Nat.reduceLT,c1,c2,not_true_eq_false,if_false,not_false_eq_true,if_true,kk,tP,zero,bad (fun h=>c2 h.2.1)]
 by_cases c3:(bK 0 t.gross).2=0
 rotate_left
 ·simp only [↓cw,↓reduceIte,Nat.reduceLT,c1,c2,c3,not_true_eq_false,if_false,not_false_eq_true,if_true,kk,tP,zero,bad (fun h=>c3 h.2.2),decide_false,Bool.not_false]
 have hx:eA [t.net,t.tax,t.gross]=([(bK 0 t.net).1,(bK 0 t.tax).1,(bK 0 t.gross).1],0):=by rw [hx,if_neg (by simp [c1,c2,c3])]
 obtain ⟨x,hx1⟩:∃ x,x=(bK 0 t.net).1:=⟨_,rfl⟩
 obtain ⟨y,hy1⟩:∃ y,y=(bK 0 t.tax).1:=⟨_,rfl⟩
 obtain ⟨z,hz1⟩:∃ z,z=(bK 0 t.gross).1:=⟨_,rfl⟩
 rw [←hx1,←hy1,←hz1] at hx
 obtain ⟨R,hR⟩:∃ R,R=aE cU (fun l=>(l,0)) t.parts []:=⟨_,rfl⟩
 have hb:dT t=if R.2≠0 then (Total.zero,R.2) else (⟨x,y,z,R.1⟩,0):=by
  unfold dT
  rw [hx,←hR]
  rfl
 rw [hb]
 obtain ⟨S0,hS0⟩:∃ S0:St,S0=⟨1+1+1,(((Tr.nil.put 0 (.row 0 (1+1+1+1) [[.int .i64 t.net,.int .i64 t.tax,.int .i64 t.gross,.imm (t.parts.map Part.enc)]])).put 1 (.row 0 4 [[.int .i64 0,.int .i64 0,.int .i64 0,.nils]])).put (1+1) (.row 0 4 [[.int .i64 0,.int .i64 0,.int .i64 0,.nils]])).put (1+1) (.row 0 4 [[.int .i64 x,.int .i64 y,.int .i64 z,.nils]])⟩:=⟨_,rfl⟩
 have w0:WF S0:=by rw [hS0];exact lA (n:=3) (lA (n:=2) (lA (n:=1) (lA xD (by decide) (by decide)) (by decide) (by decide)) (by decide) (by decide)) (by decide) (by decide)
 have n0:S0.next=3:=by rw [hS0]
 have r0:aB S0 0 0=.ok (4,[[.int .i64 t.net,.int .i64 t.tax,.int .i64 t.gross,.imm (t.parts.map Part.enc)]]):=by rw [hS0];rfl
 have r1:aB S0 1 0=.ok (4,[[.int .i64 0,.int .i64 0,.int .i64 0,.nils]]):=by rw [hS0];rfl
 have r2:aB S0 2 0=.ok (4,[[.int .i64 x,.int .i64 y,.int .i64 z,.nils]]):=by rw [hS0];rfl
 simp only [↓cw,↓reduceIte,Nat.reduceLT,c1,c2,c3,not_true_eq_false,if_false,decide_true,Bool.not_true,kk,Bool.false_eq_true,←hx1,←hy1,←hz1,←hS0]
 refine aG t.parts (step:=cU) (fin:=fun l=>(l,0)) (fun i acc vs X=>vs=[.int .i64 0,.int .i64 (i:Int)]∧∃ v,Own E0 X 4 v (acc.map Part.enc)∧WF X∧aB X 0 0=.ok (4,[[.int .i64 t.net,.int .i64 t.tax,.int .i64 t.gross,.imm (t.parts.map Part.enc)]])∧aB X 1 0=.ok (4,[[.int .i64 0,.int .i64 0,.int .i64 0,.nils]])∧aB X 2 0=.ok (4,[[.int .i64 x,.int .i64 y,.int .i64 z,v]])∧3≤X.next∧acc.length=i∧∀ k,k<3→AM.blkOf v≠some k) (fun r=>r=R) ?_ ?_ (s:=[]) ⟨rfl,.nils,⟨.inl ⟨rfl,rfl⟩,fun c h=>by cases h⟩,w0,r0,r1,r2,by omega,rfl,fun k _ h=>by cases h⟩ hR.symm
 ·rintro i p acc vs X hi ⟨rfl,v,own,w,r0,r1,r2,n3,hal,hv⟩ aC H
  have hil:=(List.getElem?_eq_some_iff.1 hi).1
  obtain ⟨B,hB⟩:∃ B:St,B=⟨X.next+1,(X.heap.put X.next (.row 0 4 [[.str [],.int .i64 0,.int .i64 0,.int .i64 0]])).put X.next (.row 0 4 [p.enc])⟩:=⟨_,rfl⟩
  have wB:WF B:=by rw [hB];exact lA (n:=X.next+1) (lA (n:=X.next) w (by omega) (Nat.le_succ _)) (by omega) (Nat.le_refl _)
  have nB:B.next=X.next+1:=by rw [hB]
  have kB:∀ y,y<X.next→B.heap.get y=X.heap.get y:=fun y hy=>by
   rw [hB]
   show ((X.heap.put X.next _).put X.next _).get y=_
   rw [Tr.get_put_neB _ _ _ _ trivial (by omega),Tr.get_put_neB _ _ _ _ trivial (by omega)]
  have oB:Own E0 B 4 v (acc.map Part.enc):=own.same (by omega) fun a ha=>kB a (fE own ha).2
  have b1:=bG r1 (kB 1 (by omega))
  have b2:=bG r2 (kB 2 (by omega))
  have rP:aB B X.next 0=.ok (4,[p.enc]):=by rw [hB];exact aF _ _ _ _ _ _
  simp only [Part.enc] at hB rP
  have ho2:=bGy p.net p.tax
  simp only [cU] at H
  simp only [↓cw,↓reduceIte,Nat.reduceLT,kk,gm,r0,aY hi,if_true,eW hi,Part.enc,←hB,rP,aWw,eG,fV (show i<1000000000 by omega)]
  have bad:¬ ((bK 0 p.net).2=0∧(bK 0 p.tax).2=0)→R=([],7):=fun h=>by
   have:eA [p.net,p.tax]=([],7):=by rw [ho2,if_pos (by by_cases a:(bK 0 p.net).2=0<;>simp_all)]
   rw [this,if_pos (by decide)] at H
   exact H.symm
  by_cases d1:(bK 0 p.net).2=0
  rotate_left
  ·simp only [↓cw,↓reduceIte,Nat.reduceLT,d1,not_false_eq_true,if_true,kk,b1,bad (fun h=>d1 h.1)]
   exact zero _ _
  by_cases d2:(bK 0 p.tax).2=0
  rotate_left
  ·simp only [↓cw,↓reduceIte,Nat.reduceLT,d1,d2,not_true_eq_false,if_false,decide_false,Bool.not_false,kk,if_true,b1,bad (fun h=>d2 h.2)]
   exact zero _ _
  have ho2:eA [p.net,p.tax]=([(bK 0 p.net).1,(bK 0 p.tax).1],0):=by rw [ho2,if_neg (by simp [d1,d2])]
  rw [ho2,if_neg (show ¬ (0:Int)≠0 by decide)] at H
  obtain ⟨v',Z,q1,oZ,wZ,nZ,vZ,kZ⟩:=aW3 (b:=40) oB wB (c:=Part.enc { p with net:=(bK 0 p.net).1,tax:=(bK 0 p.tax).1 }) (aJf _) (by rw [List.length_map];omega) (by rw [List.length_map];unfold eE;omega)
  simp only [Part.enc] at q1
  have z0:=bG r0 ((kZ 0 (by omega) (hv 0 (by decide))).trans (kB 0 (by omega)))
  have z1:=bG r1 ((kZ 1 (by omega) (hv 1 (by decide))).trans (kB 1 (by omega)))
  have z2:=bG r2 ((kZ 2 (by omega) (hv 2 (by decide))).trans (kB 2 (by omega)))
  have vn:∀ k,k<3→AM.blkOf v'≠some k:=fun k hk e=>by
   rcases vZ with q | q
   ·exact hv k hk (q▸e)
   ·rw [q] at e;cases e;omega
  simp only [↓cw,↓reduceIte,Nat.reduceLT,d1,d2,not_true_eq_false,if_false,decide_true,Bool.not_true,kk,Bool.false_eq_true,gm,b2,rP,bFu,q1,z2,oZ.one,oZ.cells,fV (show i<1000000000 by omega)]
  refine H _ _ ⟨rfl,v',?_,lA (n:=Z.next) wZ (show 2<Z.next by omega) (Nat.le_refl _),bB (n:=Z.next) (by decide) z0,bB (n:=Z.next) (by decide) z1,aF _ _ _ _ _ _,by show 3≤Z.next;omega,by simp [hal],vn⟩
  rw [List.map_append]
  exact oZ.same (S':=⟨Z.next,Z.heap.put 2 (.row 0 4 [[.int .i64 x,.int .i64 y,.int .i64 z,v']])⟩) (Nat.le_refl _) fun a ha=>Tr.get_put_neB _ _ _ _ trivial fun e=>vn 2 (by decide) (by rw [←e];exact ha)
 ·rintro acc vs X ⟨rfl,v,own,w,r0,r1,r2,n3,hal,hv⟩ aC H
  have H:(acc,(0:Int))=R:=H
  have of:=(own.same (S':=⟨X.next,X.heap.put 1 (.row 0 4 [[.int .i64 x,.int .i64 y,.int .i64 z,v]])⟩) (Nat.le_refl _) fun a ha=>Tr.get_put_neB _ _ _ _ trivial fun e=>hv 1 (by decide) (by rw [←e];exact ha)).out fun _=>rfl
  simp only [↓cw,↓reduceIte,Nat.reduceLT,kk,gm,r0,r1,r2,Int.lt_irrefl,if_false,←H,own.one,own.cells]
  simp only [oo,aFd,of,ne_eq,not_true_eq_false,if_false]
def lV (r:Ref) (n:Nat) (q:Posted):Bool⊕Nat:=.inr (n+if q.of=r then 1 else 0)
theorem aQ2 (r:Ref) (fin:Nat→Bool):∀ (l:List Posted) (n:Nat),aE (lV r) fin l n=fin (n+gJ l r)
 | [],n=>rfl
 | q::l,n=>by
  simp only [aE,lV]
  rw [aQ2 r fin l,oU,Nat.add_assoc]
def tO (p:Posted) (u:Unit) (q:Posted):Bool⊕Unit:=if q.ref=p.of then .inl (aC3 q p) else .inr ()
theorem aC8 (p:Posted):∀ (l:List Posted) (u:Unit),aE (tO p) (fun _=>false) l u=lD p l
 | [],u=>rfl
 | q::l,u=>by
  simp only [aE,tO,lD]
  by_cases c:q.ref=p.of
  ·rw [if_pos c,if_pos c]
  ·rw [if_neg c,if_neg c];exact aC8 p l ()
def xI (l:List Posted) (i:Nat) (p:Posted) (n:Nat):Bool:=
 if 1<n then false else if p.back≠decide (n=1) then false else if p.of=Ref.zero then true else if p.back=true then false else lD p (l.take i)
theorem aLt (l:List Posted) (i:Nat) (p:Posted):lU l i p=aE (lV p.ref) (xI l i p) (l.drop (i+1)) 0:=by
 rw [aQ2,Nat.zero_add];rfl
set_option maxHeartbeats 2000000 in
theorem bH1 (l:List Posted) (hb:l.length<1000000) (hq:∀ q∈l,q.total.parts.length≤1100000) {i:Nat} {p:Posted} (hi:l[i]?=some p) (S:St) (K:KW):C 120 [.imm (l.map Posted.enc),.int .i64 (i:Int)] S K=K (.bool (lU l i p)) S:=by
 refine (bDh rfl ?_).eq S K
 have hil:=(List.getElem?_eq_some_iff.1 hi).1
 have hpb:=hq p (List.mem_of_getElem? hi)
 have ei:l.drop (i+1)=l.drop (i+1):=rfl
 delta Tryz.f120;simp only [↓cw,↓reduceIte,Nat.reduceLT,kk,fM hi,Posted.enc,fV (show i<1000000000 by omega)]
 obtain ⟨S0,hS0⟩:∃ S0:St,S0=⟨0+1,(Tr.nil.put 0 (.row 0 12 [sY])).put 0 (.row 0 12 [p.enc])⟩:=⟨_,rfl⟩
 have r0:aB S0 0 0=.ok (12,[p.enc]):=by rw [hS0];rfl
 have n0:1≤S0.next:=by rw [hS0];exact Nat.le_refl _
 simp only [sY,Posted.enc] at hS0
 simp only [←hS0]
 refine aG (l.drop (i+1)) (step:=lV p.ref) (fin:=xI l i p) (fun k n vs X=>vs=[.int .i64 (n:Int),.int .i64 ((i+1+k:Nat):Int)]∧n≤k∧aB X 0 0=.ok (12,[p.enc])∧1≤X.next) (fun r=>r=lU l i p) ?_ ?_ (s:=0) ⟨rfl,Nat.le_refl _,r0,n0⟩ (aLt l i p).symm
 ·rintro k q n vs X hk ⟨rfl,hn,r0,n1⟩ aC H
  rw [List.getElem?_drop] at hk
  have hkl:=(List.getElem?_eq_some_iff.1 hk).1
  simp only [lV] at H
  simp only [Posted.enc] at r0
  simp only [↓cw,↓reduceIte,Nat.reduceLT,kk,gm,aY hk,if_true,fM hk,Posted.enc,r0,fV (show i+1+k<1000000000 by omega),fV (show n<1000000000 by omega)]
  by_cases c:q.of=p.ref
  ·have c':(q.of.ser == p.ref.ser&&decide (q.of.num=p.ref.num))=true:=by rw [c];simp
   simp only [c,if_true] at H
   simp only [c',if_true]
   exact H _ _ ⟨rfl,by omega,r0,by show 1≤X.next+8;omega⟩
  ·have c':¬ (q.of.ser == p.ref.ser&&decide (q.of.num=p.ref.num))=true:=by rw [Ref.ext_iff] at c;simpa using c
   simp only [c,if_false,Nat.add_zero] at H
   simp only [c',if_false]
   exact H _ _ ⟨rfl,by omega,r0,by show 1≤X.next+8;omega⟩
 ·rintro n vs X ⟨rfl,hn,r0,n1⟩ aC H
  have H:xI l i p n=lU l i p:=H
  have hge:¬ ((i+1+(l.drop (i+1)).length:Nat):Int)<(l.length:Int):=by rw [List.length_drop];omega
  simp only [Posted.enc] at r0
  rw [←H]
  simp only [↓cw,↓reduceIte,Nat.reduceLT,xI,kk,hge,if_false,r0,uJ,gm]
  by_cases c1:1<n
  ·simp only [c1,show (1:Int)<(n:Int) by omega,if_true,oo]
  simp only [c1,show ¬ (1:Int)<(n:Int) by omega,if_false]
  have e1:decide ((n:Int)=1)=decide (n=1):=by rw [Bool.eq_iff_iff];simp;omega
  rw [e1]
  by_cases c2:p.back=decide (n=1)
  rotate_left
  ·have c2':(p.back == decide (n=1))=false:=by simpa using c2
   simp only [c2,c2',ne_eq,not_false_eq_true,if_true,Bool.not_false,oo]
  have c2':(p.back == decide (n=1))=true:=by simpa using c2
  rw [if_neg (show ¬ p.back≠decide (n=1) from fun h=>h c2)]
  simp only [c2',Bool.not_true,Bool.false_eq_true,if_false]
  by_cases c3:p.of=Ref.zero
  ·have c3':(p.of.ser == []&&decide (p.of.num=0))=true:=by rw [c3];rfl
   rw [if_pos c3,if_pos c3']
  have c3':¬ (p.of.ser == []&&decide (p.of.num=0))=true:=by rw [Ref.ext_iff] at c3;simpa [Ref.zero] using c3
  simp only [↓cw,↓reduceIte,Nat.reduceLT,c3,c3',if_false,kk]
  cases c4:p.back
  rotate_left
  ·simp only [c4,if_true,oo]
  simp only [c4,Bool.false_eq_true,if_false]
  have lt:(l.take i).length=i:=by rw [List.length_take];omega
  refine aG (l.take i) (step:=tO p) (fin:=fun _=>false) (fun k u vs X=>vs=[.bool false,.int .i64 (k:Int)]∧aB X 0 0=.ok (12,[p.enc])∧1≤X.next) (fun r=>r=lD p (l.take i)) ?_ ?_ (s:=()) ⟨rfl,r0,n1⟩ (aC8 p (l.take i) ())
  ·rintro k q u vs X hk ⟨rfl,r0,n1⟩ aC H
   have hki:=(List.getElem?_eq_some_iff.1 hk).1
   rw [lt] at hki
   rw [List.getElem?_take,if_pos hki] at hk
   have hqb:=hq q (List.mem_of_getElem? hk)
   have hbl:=aBq q.total
   simp only [tO] at H
   simp only [Posted.enc] at r0
   simp only [↓cw,↓reduceIte,Nat.reduceLT,kk,gm,show (k:Int)<(i:Int) by omega,if_true,fM hk,Posted.enc,r0,fV (show k<1000000000 by omega),bH0 q.total hqb,aFd]
   obtain ⟨T,hT⟩:∃ T,T=(dT q.total).1:=⟨_,rfl⟩
   simp only [aC3,←hT] at H
   rw [←hT] at hbl
   simp only [←hT]
   obtain ⟨B,hB⟩:∃ B:St,B=⟨X.next+8+1+49,(X.heap.put (X.next+8) (Blk.row 0 4 [[V.int IntKind.i64 0,V.int IntKind.i64 0,V.int IntKind.i64 0,V.nils]])).put (X.next+8) (Blk.row 0 4 [[V.int IntKind.i64 T.net,V.int IntKind.i64 T.tax,V.int IntKind.i64 T.gross,V.imm (List.map Part.enc T.parts)]])⟩:=⟨_,rfl⟩
   have b0:∀ m,aB ⟨m,B.heap⟩ 0 0=.ok (12,[p.enc]):=fun m=>by rw [hB];exact bB (n:=X.next) (by omega) (bB (n:=X.next) (by omega) r0)
   have b8:∀ m,aB ⟨m,B.heap⟩ (X.next+8) 0=.ok (4,[[V.int IntKind.i64 T.net,V.int IntKind.i64 T.tax,V.int IntKind.i64 T.gross,V.imm (List.map Part.enc T.parts)]]):=fun m=>by rw [hB];exact aF _ _ _ _ _ _
   have bn:X.next+58=B.next:=by rw [hB]
   have b0':=b0 (X.next+8+1)
   have b1:=b0 B.next
   have b8':=b8 B.next
   simp only [Posted.enc] at b0 b0' b1
   have hh:B.heap=(X.heap.put (X.next+8) (Blk.row 0 4 [[V.int IntKind.i64 0,V.int IntKind.i64 0,V.int IntKind.i64 0,V.nils]])).put (X.next+8) (Blk.row 0 4 [[V.int IntKind.i64 T.net,V.int IntKind.i64 T.tax,V.int IntKind.i64 T.gross,V.imm (List.map Part.enc T.parts)]]):=by rw [hB]
   have hBe:(⟨X.next+8+1+49,B.heap⟩:St)=B:=by rw [hB]
   rw [←hh,hBe]
   by_cases d0:q.ref=p.of
   rotate_left
   ·have d0':(!(q.ref.ser == p.of.ser&&decide (q.ref.num=p.of.num)))=true:=by rw [Ref.ext_iff] at d0;simp;exact Decidable.not_and_iff_or_not.1 d0
    simp only [d0,if_false] at H
    simp only [d0',if_true]
    exact H _ _ ⟨rfl,r0,by show 1≤X.next+8;omega⟩
   have d0':¬ (!(q.ref.ser == p.of.ser&&decide (q.ref.num=p.of.num)))=true:=by rw [d0];simp
   rw [if_pos d0] at H
   rw [if_neg d0']
   by_cases d1:(dT q.total).2=0
   rotate_left
   ·rw [if_pos d1] at H
    rw [if_pos d1,←H]
   rw [if_neg (fun h=>h d1)] at H
   rw [if_neg (fun h=>h d1)]
   by_cases d2:q.of=Ref.zero
   rotate_left
   ·have d2':(!(q.of.ser == []&&decide (q.of.num=0)))=true:=by rw [Ref.ext_iff] at d2;simp;exact Decidable.not_and_iff_or_not.1 d2
    rw [if_pos d2] at H
    rw [if_pos d2',←H]
   have d2':¬ (!(q.of.ser == []&&decide (q.of.num=0)))=true:=by rw [d2];decide
   rw [if_neg (fun h=>h d2)] at H
   rw [if_neg d2']
   simp only [↓cw,↓reduceIte,Nat.reduceLT,b0',kk,bBy]
   by_cases d3:p.day.days<q.day.days
   ·rw [if_pos d3] at H
    rw [if_pos d3,←H]
   rw [if_neg d3] at H
   rw [if_neg d3]
   simp only [↓cw,↓reduceIte,Nat.reduceLT,b1,b8',kk]
   by_cases d4:T.net=p.total.net
   rotate_left
   ·rw [decide_eq_false d4,Bool.false_and] at H
    rw [if_pos d4,←H]
   rw [if_neg (fun h=>h d4)]
   by_cases d5:T.tax=p.total.tax
   rotate_left
   ·rw [decide_eq_false d5,Bool.false_and,Bool.and_false] at H
    rw [if_pos d5,←H]
   rw [if_neg (fun h=>h d5)]
   rw [decide_eq_true d4,decide_eq_true d5,Bool.true_and,Bool.true_and] at H
   by_cases d6:T.parts.length=p.total.parts.length
   rotate_left
   ·have:¬ T.parts=p.total.parts:=fun h=>d6 (by rw [h])
    rw [decide_eq_false this] at H
    rw [if_pos (show ¬ ((T.parts.length:Nat):Int)=(p.total.parts.length:Int) by omega),←H]
   rw [if_neg (show ¬ ¬ ((T.parts.length:Nat):Int)=(p.total.parts.length:Int) by omega)]
   refine aG T.parts (step:=cN p.total.parts) (fin:=fun _=>true) (fun j n vs Y=>n=j∧vs=[.bool false,.int .i64 (j:Int)]∧Y.heap=B.heap) (fun r=>r=lD p (l.take i)) ?_ ?_ (s:=0) ⟨rfl,rfl,rfl⟩ (by rw [eqL d6];exact H)
   ·rintro j x n vs Y hj ⟨rfl,rfl,hY⟩ again' H'
    have hjl:=(List.getElem?_eq_some_iff.1 hj).1
    have hj2:p.total.parts[n]?=some p.total.parts[n]:=List.getElem?_eq_getElem (by omega)
    have y8:∀ m,aB ⟨m,Y.heap⟩ (X.next+8) 0=.ok (4,[[V.int IntKind.i64 T.net,V.int IntKind.i64 T.tax,V.int IntKind.i64 T.gross,V.imm (List.map Part.enc T.parts)]]):=fun m=>by rw [hY];exact b8 m
    have y0:∀ m,aB ⟨m,Y.heap⟩ 0 0=.ok (12,[p.enc]):=fun m=>by rw [hY];exact b0 m
    have y8':aB Y (X.next+8) 0=.ok (4,[[V.int IntKind.i64 T.net,V.int IntKind.i64 T.tax,V.int IntKind.i64 T.gross,V.imm (List.map Part.enc T.parts)]]):=y8 Y.next
    simp only [Posted.enc] at y0
    generalize hz:p.total.parts[n]=z at hj2
    have he:(z=x)=(x.cat=z.cat∧x.bp=z.bp∧x.net=z.net∧x.tax=z.tax):=by
     obtain ⟨_,_,_,_⟩:=x;obtain ⟨_,_,_,_⟩:=z;simp [and_assoc,eq_comm]
    simp only [cN,hj2,Option.some.injEq,he] at H'
    simp only [↓cw,↓reduceIte,Nat.reduceLT,kk,gm,y8,y0,y8',aY hj,if_true,eW hj,eW hj2,Part.enc,fV (show n<1000000000 by omega)]
    by_cases c:x.cat=z.cat∧x.bp=z.bp∧x.net=z.net∧x.tax=z.tax
    ·have c':¬ (!(x.cat == z.cat&&decide (x.bp=z.bp)&&decide (x.net=z.net)&&decide (x.tax=z.tax)))=true:=by simp [c]
     rw [if_pos c] at H'
     rw [if_neg c']
     exact H' _ _ ⟨rfl,rfl,hY⟩
    ·have c':(!(x.cat == z.cat&&decide (x.bp=z.bp)&&decide (x.net=z.net)&&decide (x.tax=z.tax)))=true:=by
      rw [Bool.not_eq_true',Bool.eq_false_iff]
      intro h
      simp only [Bool.and_eq_true,decide_eq_true_eq,beq_iff_eq] at h
      exact c ⟨h.1.1.1,h.1.1.2,h.1.2,h.2⟩
     rw [if_neg c] at H'
     have H':false=lD p (l.take i):=H'
     rw [if_pos c',←H']
   ·rintro n vs Y ⟨rfl,rfl,hY⟩ again' H'
    have H':true=lD p (l.take i):=H'
    have y8:aB Y (X.next+8) 0=.ok (4,[[V.int IntKind.i64 T.net,V.int IntKind.i64 T.tax,V.int IntKind.i64 T.gross,V.imm (List.map Part.enc T.parts)]]):=by have:=b8 Y.next;rw [←hY] at this;exact this
    simp only [↓cw,↓reduceIte,Nat.reduceLT,kk,gm,y8,Int.lt_irrefl,if_false,oo,←H']
  ·rintro u vs X ⟨rfl,r0,n1⟩ aC H
   have H:false=lD p (l.take i):=H
   simp only [↓cw,↓reduceIte,Nat.reduceLT,kk,lt,Int.lt_irrefl,if_false,oo,←H]
theorem bH2 {v:V} (book l:List Bal) (hv:v=.imm (book.map Bal.enc)∨(v=.nils∧book=[])) (hbb:book.length+l.length<1000000) (S:St) (K:KW):C 122 [v,.imm (l.map Bal.enc)] S K=K (.tup [.imm ((cH book l).1.map Bal.enc),.int .i64 (cH book l).2]) S:=by
 rcases hv with rfl | ⟨rfl,rfl⟩
 ·exact bCy book l hbb S K
 ·exact (Fn.back (args:=[.imm [],.imm (l.map Bal.enc)]) fun S K=>bCy [] l hbb S K).frz aYb rfl rfl rfl (.inr rfl) K
def iV (n:Int):List V:=[.int .i64 n]
theorem bH3 {n:Nat} (hn:n≤8) (S:St):cG prog 96 (.int .i64 (n:Int)) (.int .i64 (n:Int)) none S=.ok (.sl S.next 0 1 0 n,⟨S.next+1,S.heap.put S.next (.row 0 1 ((List.replicate n (0:Int)).map iV))⟩):=by
 have h1:gN prog 96=some 3:=by kernel_rfl
 have h2:aJ prog 3=some (.int .i64 0):=by kernel_rfl
 have h3:sz prog 3=1:=by kernel_rfl
 have h4:qI prog 3 n=true:=match n,hn with
  | 0,_=>by kernel_rfl
  | 1,_=>by kernel_rfl
  | 2,_=>by kernel_rfl
  | 3,_=>by kernel_rfl
  | 4,_=>by kernel_rfl
  | 5,_=>by kernel_rfl
  | 6,_=>by kernel_rfl
  | 7,_=>by kernel_rfl
  | 8,_=>by kernel_rfl
  | k+9,h=>absurd h (by omega)
 have h5:(decide ((0:Int)≤(n:Int))&&decide ((n:Int)≤(n:Int))&&decide ((n:Int)<2147483648))=true:=by simp;omega
 simp only [cG,h1,h2,h3,Int.toNat_natCast,h4,V.cells,List.length_cons,List.length_nil,Nat.zero_add,Nat.beq_refl,Bool.true_and,Bool.and_true,h5,cond_true,eT,List.map_replicate,iV]
theorem aQ3 (b:Bool):∀ (l:List Ser) (is:List Int),aE dU (fun _=>b) l is=(aE dU (fun _=>true) l is&&b)
 | [],is=>by simp [aE]
 | s::l,is=>by
  simp only [aE,dU]
  by_cases c:is.headD 0=wr .i64 (s.next - 1)
  ·rw [if_pos c];exact aQ3 b l _
  ·rw [if_neg c];rfl
set_option maxHeartbeats 4000000 in
theorem g38 (s:State) (hI:aFk s) (hp:s.posted.length<1000000) (hq:∀ q∈s.posted,q.total.parts.length≤1100000) (S:St) (K:KW):C 38 [.agg [.imm (s.table.map Rate.enc),.imm (s.ser.map Ser.enc),.imm (s.posted.map Posted.enc),.imm (s.book.map Bal.enc),.imm (s.sess.map Sess.enc),.int .i64 s.next]] S K=K (.bool (zZ s)) S:=by
 refine (v38 rfl ?_).eq S K
 obtain ⟨R,hR⟩:∃ R,R=zZ s:=⟨_,rfl⟩
 rw [←hR]
 unfold zZ at hR
 simp only [m38,kk,gm,bGf,bGg,bGh]
 cases c1:iT s.table
 ·rw [if_pos c1] at hR;rw [hR];simp only [kk,if_true,oo]
 rw [if_neg (by rw [c1];decide)] at hR
 cases c2:rG s.ser
 ·rw [if_pos c2] at hR;rw [hR];simp only [kk,Bool.false_eq_true,if_false,if_true,oo]
 rw [if_neg (by rw [c2];decide)] at hR
 cases c3:kU s.sess
 ·rw [if_pos c3] at hR;rw [hR];simp only [kk,Bool.false_eq_true,if_false,if_true,oo]
 rw [if_neg (by rw [c3];decide)] at hR
 have hsl:=aF7 c2
 have hel:=aBn c3
 simp only [kk,Bool.true_eq_false,Bool.false_eq_true,if_false]
 by_cases c4:40<s.posted.length
 ·rw [if_pos c4] at hR;rw [hR]
  simp only [show (40:Int)<(s.posted.length:Int) by omega,kk,if_true,oo]
 rw [if_neg c4] at hR
 simp only [show ¬ (40:Int)<(s.posted.length:Int) by omega,if_false]
 by_cases c5:s.next<1
 ·rw [if_pos c5] at hR;rw [hR];simp only [c5,if_true,oo]
 rw [if_neg c5] at hR
 simp only [c5,if_false]
 by_cases c6:1099511627776<s.next
 ·rw [if_pos c6] at hR;rw [hR];simp only [c6,if_true,oo]
 rw [if_neg c6] at hR
 simp only [c6,if_false]
 have hj0:∀ Y:St,aB Y 0 0=.ok (6,[s.enc])→1≤Y.next→R=aE (nK s) (aFt s) s.posted ⟨[],List.replicate s.ser.length 0,[]⟩→aD4 C (fun v0 S0=>iR S0 v0=.ok (.bool R)) (.ptr 0 0 0 0) Y:=by
  intro Y y0 yn hR
  have y0':=y0
  simp only [State.enc] at y0
  simp only [aD4,kk,gm,y0,bH3 hsl]
  obtain ⟨tb,htb⟩:∃ tb,tb=Y.next:=⟨_,rfl⟩
  rw [←htb]
  refine aG s.posted (step:=nK s) (fin:=aFt s) (fun i st vs X=>∃ v,vs=[.bool false,v,.int .i64 (i:Int)]∧(v=.imm (st.book.map Bal.enc)∨(v=.nils∧st.book=[]))∧aB X 0 0=.ok (6,[s.enc])∧X.heap.get tb=some (.row 0 1 (st.taken.map iV))∧tb<X.next∧st.taken.length=s.ser.length∧st.done.length=i∧st.book.length≤25*i) (fun r=>r=R) ?_ ?_ (s:=⟨[],List.replicate s.ser.length 0,[]⟩) ⟨.nils,rfl,.inr ⟨rfl,rfl⟩,bB (n:=Y.next) (by omega) y0',Tr.get_put_sameB _ _ _ trivial,Nat.lt_succ_self _,List.length_replicate,rfl,Nat.zero_le _⟩ hR.symm
  ·rintro i p ⟨done,taken,book⟩ vs X hi ⟨v,rfl,hv,x0,hg,htX,htl,hdl,hbl⟩ aC H
   simp only at hv hg htl hdl hbl
   have hil:=(List.getElem?_eq_some_iff.1 hi).1
   have hpm:=List.mem_of_getElem? hi
   simp only [State.enc] at x0
   simp only [nK,hdl] at H
   simp only [aH5,kk,gm,x0,aY hi,if_true,fM hi,Posted.enc,bCm s.ser p.ref.ser (by omega),fV (show i<1000000000 by omega)]
   obtain ⟨B,hB⟩:∃ B:St,B=⟨X.next+1,(X.heap.put X.next (.row 0 12 [sY])).put X.next (.row 0 12 [p.enc])⟩:=⟨_,rfl⟩
   have kB:∀ y,y≠X.next→B.heap.get y=X.heap.get y:=fun y hy=>by
    rw [hB]
    show ((X.heap.put X.next _).put X.next _).get y=_
    rw [Tr.get_put_neB _ _ _ _ trivial hy,Tr.get_put_neB _ _ _ _ trivial hy]
   have h0X:0<X.next:=by omega
   have b0:∀ m,aB ⟨m,B.heap⟩ 0 0=.ok (6,[s.enc]):=fun m=>bG (S:=X) x0 (kB 0 (by omega))
   have bP:∀ m,aB ⟨m,B.heap⟩ X.next 0=.ok (12,[p.enc]):=fun m=>by rw [hB];exact aF _ _ _ _ _ _
   have bT:B.heap.get tb=some (.row 0 1 (taken.map iV)):=by rw [kB tb (by omega)];exact hg
   have bn:B.next=X.next+1:=by rw [hB]
   have b0':aB B 0 0=.ok (6,[s.enc]):=b0 B.next
   have bP':aB B X.next 0=.ok (12,[p.enc]):=bP B.next
   simp only [State.enc] at b0 b0'
   simp only [Posted.enc] at bP bP'
   simp only [sY,Posted.enc] at hB
   simp only [←hB,b0',bP',kk,bCm s.ser p.ref.ser (show s.ser.length<1000000 by omega)]
   by_cases d0:eH s.ser p.ref.ser<0
   ·rw [if_pos d0] at H
    rw [if_pos d0,←H]
   rw [if_neg d0] at H
   rw [if_neg d0]
   obtain ⟨k,x,e,hk⟩:=aLp d0
   have hkl:=(List.getElem?_eq_some_iff.1 hk).1
   have hkt:(taken.map iV)[k]?=some (iV (taken.getD k 0)):=by
    rw [List.getElem?_map,List.getD_eq_getElem?_getD,List.getElem?_eq_getElem (by omega)];rfl
   have hld:∀ m,iZ none (.ptr tb 0 k 0) ⟨m,B.heap⟩=.ok (.int .i64 (taken.getD k 0)):=fun m=>by rw [aLs (X:=⟨m,B.heap⟩) bT hkt];rfl
   have hst:=fun m=>aW8 (X:=⟨m,B.heap⟩) (v:=.int .i64 (wr .i64 (taken.getD k 0+1))) (j:=0) bT hkt rfl rfl (Nat.le_refl _)
   have hset:(taken.map iV).set k (splice (iV (taken.getD k 0)) 0 [.int .i64 (wr .i64 (taken.getD k 0+1))])=(taken.set k (wr .i64 (taken.getD k 0+1))).map iV:=by rw [List.map_set];rfl
   simp only [e,Int.toNat_natCast] at H
   simp only [e,aC6 hkl,hld,kk,bP]
   by_cases d1:p.ref.num=wr .i64 (taken.getD k 0+1)
   rotate_left
   ·rw [if_pos d1] at H
    rw [if_pos d1,←H]
   rw [if_neg (fun h=>h d1)] at H
   rw [if_neg (fun h=>h d1)]
   simp only [aWu,kk,bP]
   cases d2:p.day.right
   ·rw [if_pos d2] at H
    simp only [Bool.not_false,if_true,←H]
   rw [if_neg (by rw [d2];decide)] at H
   simp only [Bool.not_true,Bool.false_eq_true,if_false,bGl p.total (hI p hpm),kk,b0]
   cases d3:bR p.total
   ·rw [if_pos d3] at H
    simp only [Bool.not_false,if_true,←H]
   rw [if_neg (by rw [d3];decide)] at H
   simp only [Bool.not_true,Bool.false_eq_true,if_false,bH1 s.posted hp hq hi,kk]
   cases d4:lU s.posted i p
   ·rw [if_pos d4] at H
    simp only [Bool.not_false,if_true,←H]
   rw [if_neg (by rw [d4];decide)] at H
   have hft:=vJ d3
   obtain ⟨D,hD⟩:∃ D:St,D=⟨B.next+32,B.heap.put tb (.row 0 1 ((taken.set k (wr .i64 (taken.getD k 0+1))).map iV))⟩:=⟨_,rfl⟩
   have hst':eM 1 (.ptr tb 0 k 0) (.int .i64 (wr .i64 (taken.getD k 0+1))) ⟨B.next+32,B.heap⟩=.ok D:=by rw [hst,hset,hD]
   have dP:aB D X.next 0=.ok (12,[p.enc]):=by rw [hD];exact bB (n:=B.next) (by omega) (bP B.next)
   have d0r:aB D 0 0=.ok (6,[s.enc]):=by rw [hD];exact bB (n:=B.next) (by omega) (b0 B.next)
   have dn:D.next=B.next+32:=by rw [hD]
   simp only [Posted.enc] at dP
   simp only [Bool.not_true,Bool.false_eq_true,if_false,hld,hst',dP,bGx p.total hft,kk]
   by_cases d5:(dG p.total).2=0
   rotate_left
   ·rw [if_pos d5] at H
    rw [if_pos d5,←H]
   have hle:=(zH p.total).resolve_right (not_not_intro d5)
   have h12:=hft.1
   have hle2:=rJ book (dG p.total).1
   rw [if_neg (fun h=>h d5)] at H
   rw [if_neg (fun h=>h d5),bH2 book _ hv (show book.length+(dG p.total).1.length<1000000 by omega)]
   simp only [kk]
   by_cases d6:(cH book (dG p.total).1).2=0
   rotate_left
   ·rw [if_pos d6] at H
    rw [if_pos d6,←H]
   rw [if_neg (fun h=>h d6)] at H
   rw [if_neg (fun h=>h d6)]
   exact H _ _ ⟨_,rfl,.inl rfl,d0r,by rw [hD];exact Tr.get_put_sameB _ _ _ trivial,by omega,by rw [List.length_set];exact htl,by rw [List.length_append,hdl];rfl,by show (cH book (dG p.total).1).1.length≤_;omega⟩
  ·rintro ⟨done,taken,book⟩ vs X ⟨v,rfl,hv,x0,hg,htX,htl,hdl,hbl⟩ aC H
   simp only at hv hg htl hdl hbl
   have H:aFt s ⟨done,taken,book⟩=R:=H
   unfold aFt at H
   rw [←aQ3] at H
   simp only [State.enc] at x0
   simp only [aH5,kk,gm,x0,Int.lt_irrefl,if_false]
   have lv:lenW v=.ok (.int .i64 (book.length:Int)):=by rcases hv with rfl | ⟨rfl,rfl⟩<;>simp [lenW]
   refine aG s.ser (step:=dU) (fin:=fun _=>decide (book=s.book)) (fun i is vs Z=>vs=[.bool false,.int .i64 (i:Int)]∧is=taken.drop i∧Z.heap=X.heap) (fun r=>r=R) ?_ ?_ (s:=taken) ⟨rfl,rfl,rfl⟩ H
   ·rintro i x is vs Z hi ⟨rfl,rfl,hZ⟩ again' H'
    have hil:=(List.getElem?_eq_some_iff.1 hi).1
    have hkt:(taken.map iV)[i]?=some (iV (taken.getD i 0)):=by
     rw [List.getElem?_map,List.getD_eq_getElem?_getD,List.getElem?_eq_getElem (by omega)];rfl
    have hhd:(taken.drop i).headD 0=taken.getD i 0:=by rw [List.drop_eq_getElem_cons (by omega),List.getD_eq_getElem?_getD,List.getElem?_eq_getElem (by omega)];rfl
    have htl':(taken.drop i).tail=taken.drop (i+1):=by rw [List.drop_eq_getElem_cons (by omega)];rfl
    have hld:∀ m,iZ none (.ptr tb 0 i 0) ⟨m,Z.heap⟩=.ok (.int .i64 (taken.getD i 0)):=fun m=>by rw [aLs (X:=⟨m,Z.heap⟩) (by rw [←hZ] at hg;exact hg) hkt];rfl
    have z0:∀ m,aB ⟨m,Z.heap⟩ 0 0=.ok (6,[s.enc]):=fun m=>by rw [hZ];exact x0
    simp only [State.enc] at z0
    simp only [dU,hhd,htl'] at H'
    simp only [aH4,kk,gm,aY hi,if_true,aC6 hil,hld,z0,kX hi,Ser.enc,fV (show i<1000000000 by omega)]
    by_cases c:taken.getD i 0=wr .i64 (x.next - 1)
    ·rw [if_pos c] at H'
     rw [if_neg (fun h=>h c)]
     exact H' _ _ ⟨rfl,rfl,hZ⟩
    ·rw [if_neg c] at H'
     have H':false=R:=H'
     rw [if_pos c,←H']
   ·rintro is vs Z ⟨rfl,rfl,hZ⟩ again' H'
    have H':decide (book=s.book)=R:=H'
    have z0:∀ m,aB ⟨m,Z.heap⟩ 0 0=.ok (6,[s.enc]):=fun m=>by rw [hZ];exact x0
    have z0':aB Z 0 0=.ok (6,[s.enc]):=z0 Z.next
    simp only [State.enc] at z0 z0'
    simp only [aH4,kk,gm,Int.lt_irrefl,if_false,lv,z0']
    by_cases c:book.length=s.book.length
    rotate_left
    ·have:¬ book=s.book:=fun h=>c (by rw [h])
     rw [decide_eq_false this] at H'
     rw [if_pos (show ¬ ((book.length:Nat):Int)=(s.book.length:Int) by omega),←H']
    rw [if_neg (show ¬ ¬ ((book.length:Nat):Int)=(s.book.length:Int) by omega)]
    refine aG book (step:=cN s.book) (fin:=fun _=>true) (fun i n vs U=>n=i∧vs=[.bool false,.int .i64 (i:Int)]∧U.heap=X.heap) (fun r=>r=R) ?_ ?_ (s:=0) ⟨rfl,rfl,hZ⟩ (by rw [eqL c];exact H')
    ·rintro i q n vs U hi ⟨rfl,rfl,hU⟩ again2 H2
     have hil:=(List.getElem?_eq_some_iff.1 hi).1
     have hj:s.book[n]?=some s.book[n]:=List.getElem?_eq_getElem (by omega)
     have hve:v=.imm (book.map Bal.enc):=hv.resolve_right fun h=>by rw [h.2] at hi;cases hi
     have u0:∀ m,aB ⟨m,U.heap⟩ 0 0=.ok (6,[s.enc]):=fun m=>by rw [hU];exact x0
     simp only [State.enc] at u0
     generalize hz:s.book[n]=z at hj
     have he:(z=q)=(q.acc=z.acc∧q.amount=z.amount):=by
      obtain ⟨_,_⟩:=q;obtain ⟨_,_⟩:=z;simp [and_assoc,eq_comm]
     simp only [cN,hj,Option.some.injEq,he] at H2
     simp only [aH3,kk,gm,hve,aY hi,if_true,jZ hi,jZ hj,Bal.enc,u0,fV (show n<1000000000 by omega)]
     by_cases c:q.acc=z.acc∧q.amount=z.amount
     ·have c':¬ (!(q.acc == z.acc&&decide (q.amount=z.amount)))=true:=by simp [c]
      rw [if_pos c] at H2
      rw [if_neg c']
      exact H2 _ _ ⟨rfl,rfl,hU⟩
     ·have c':(!(q.acc == z.acc&&decide (q.amount=z.amount)))=true:=by
       rw [Bool.not_eq_true',Bool.eq_false_iff]
       intro h
       simp only [Bool.and_eq_true,decide_eq_true_eq,beq_iff_eq] at h
       exact c h
      rw [if_neg c] at H2
      have H2:false=R:=H2
      rw [if_pos c',←H2]
    ·rintro n vs U ⟨rfl,rfl,hU⟩ again2 H2
     have H2:true=R:=H2
     simp only [aH3,kk,lv,Int.lt_irrefl,if_false,oo,←H2]
 obtain ⟨Z,hZ⟩:∃ Z:St,Z=⟨1,Tr.nil.put 0 (Blk.row 0 (1+1+1+1+1+1) [s.enc])⟩:=⟨_,rfl⟩
 have z0:∀ m,aB ⟨m,Z.heap⟩ 0 0=.ok (6,[s.enc]):=fun m=>by rw [hZ];rfl
 have zh:Z.heap=Tr.nil.put 0 (Blk.row 0 (1+1+1+1+1+1) [s.enc]):=by rw [hZ]
 simp only [State.enc] at zh
 rw [←zh]
 have z0':=z0
 simp only [State.enc] at z0'
 by_cases c7:s.sess.length=0
 ·have:s.sess=[]:=List.length_eq_zero_iff.1 c7
  rw [if_neg (by simp [mX,this])] at hR
  rw [if_neg (show ¬ (0:Int)<(s.sess.length:Int) by omega)]
  exact hj0 _ (z0 _) (by show 1≤1+14;decide) hR
 ·obtain ⟨j,hj⟩:∃ j,s.sess.length=j+1:=⟨s.sess.length - 1,by omega⟩
  have hjl:s.sess[j]?=some s.sess[j]:=List.getElem?_eq_getElem (by omega)
  rw [if_pos (show (0:Int)<(s.sess.length:Int) by omega)]
  simp only [mX,hj,Nat.add_sub_cancel,hjl] at hR
  simp only [hj,wrm (show j+1<1000000000 by omega),jY hjl,Sess.enc,kk,gm]
  by_cases c8:s.sess[j].id<s.next
  ·rw [if_neg (by simp [c8])] at hR
   rw [if_neg (by omega)]
   exact hj0 _ (z0 _) (by show 1≤1+14;decide) hR
  ·rw [if_pos (by simp [c8])] at hR
   rw [if_pos (by omega),hR]
theorem Rate.same_iff (a b:Rate):(a=b)=(b.cat=a.cat∧b.day.y=a.day.y∧b.day.m=a.day.m∧b.day.d=a.day.d∧b.bp=a.bp):=by
 obtain ⟨_,⟨_,_,_⟩,_⟩:=a;obtain ⟨_,⟨_,_,_⟩,_⟩:=b;simp [and_assoc,eq_comm]
theorem Ser.same_iff (a b:Ser):(a=b)=(b.name=a.name∧b.next=a.next∧b.limit=a.limit∧b.shut=a.shut):=by
 obtain ⟨_,_,_,_⟩:=a;obtain ⟨_,_,_,_⟩:=b;simp [and_assoc,eq_comm]
theorem Bal.same_iff (a b:Bal):(a=b)=(b.acc=a.acc∧b.amount=a.amount):=by
 obtain ⟨_,_⟩:=a;obtain ⟨_,_⟩:=b;simp [and_assoc,eq_comm]
theorem Sess.same_iff (a b:Sess):(a=b)=(b.id=a.id∧b.last=a.last∧b.reply.why=a.reply.why∧b.reply.number=a.reply.number∧b.reply.gross=a.reply.gross):=by
 obtain ⟨_,_,⟨_,_,_⟩⟩:=a;obtain ⟨_,_,⟨_,_,_⟩⟩:=b;simp [and_assoc,eq_comm]
theorem Part.same_iff (a b:Part):(a=b)=(b.cat=a.cat∧b.bp=a.bp∧b.net=a.net∧b.tax=a.tax):=by
 obtain ⟨_,_,_,_⟩:=a;obtain ⟨_,_,_,_⟩:=b;simp [and_assoc,eq_comm]
theorem g80 (l r:List Rate) (hb:l.length<1000000) (S:St) (K:KW):C 80 [.imm (l.map Rate.enc),.imm (r.map Rate.enc)] S K=K (.bool (decide (l=r))) S:=by
 refine (v80 rfl ?_).eq S K
 delta Tryz.f80;simp only [↓cw,↓reduceIte,Nat.reduceLT,kk]
 by_cases h:l.length=r.length
 ·simp only [↓cw,↓reduceIte,Nat.reduceLT,show (l.length:Int)=(r.length:Int) by omega,kk,not_true_eq_false,if_false]
  refine aG l (step:=cN r) (fin:=fun _=>true) (fun i n vs S=>n=i∧vs=[.bool false,.int .i64 (i:Int)]) (fun x=>x=decide (l=r)) ?_ ?_ (s:=0) ⟨rfl,rfl⟩ (eqL h)
  ·rintro i p n vs S hi ⟨rfl,rfl⟩ aC H
   have hil:=(List.getElem?_eq_some_iff.1 hi).1
   have hj:r[n]?=some r[n]:=List.getElem?_eq_getElem (by omega)
   have hlt:((n:Int)<(r.length:Int))=True:=aY hj
   simp only [cN,hj,Option.some.injEq,Rate.same_iff] at H
   simp only [↓cw,↓reduceIte,Nat.reduceLT,kk,aY hi,hlt,lI hi,lI hj,Rate.enc,fV (show n<1000000000 by omega),oo]
   grind
  ·rintro n vs S ⟨rfl,rfl⟩ aC H
   simp only [↓cw,↓reduceIte,Nat.reduceLT,kk,h,Int.lt_irrefl,if_false,oo,←H]
 ·simp only [↓cw,↓reduceIte,Nat.reduceLT,show ¬ (l.length:Int)=(r.length:Int) by omega,kk,not_false_eq_true,if_true,oo]
  have:decide (l=r)=false:=by simpa using fun e=>h (by rw [e])
  rw [this]
theorem g81 (l r:List Ser) (hb:l.length<1000000) (S:St) (K:KW):C 81 [.imm (l.map Ser.enc),.imm (r.map Ser.enc)] S K=K (.bool (decide (l=r))) S:=by
 refine (v81 rfl ?_).eq S K
 delta Tryz.f81;simp only [↓cw,↓reduceIte,Nat.reduceLT,kk]
 by_cases h:l.length=r.length
 ·simp only [↓cw,↓reduceIte,Nat.reduceLT,show (l.length:Int)=(r.length:Int) by omega,kk,not_true_eq_false,if_false]
  refine aG l (step:=cN r) (fin:=fun _=>true) (fun i n vs S=>n=i∧vs=[.bool false,.int .i64 (i:Int)]) (fun x=>x=decide (l=r)) ?_ ?_ (s:=0) ⟨rfl,rfl⟩ (eqL h)
  ·rintro i p n vs S hi ⟨rfl,rfl⟩ aC H
   have hil:=(List.getElem?_eq_some_iff.1 hi).1
   have hj:r[n]?=some r[n]:=List.getElem?_eq_getElem (by omega)
   have hlt:((n:Int)<(r.length:Int))=True:=aY hj
   simp only [cN,hj,Option.some.injEq,Ser.same_iff] at H
   simp only [↓cw,↓reduceIte,Nat.reduceLT,kk,aY hi,hlt,kX hi,kX hj,Ser.enc,fV (show n<1000000000 by omega),oo]
   grind
  ·rintro n vs S ⟨rfl,rfl⟩ aC H
   simp only [↓cw,↓reduceIte,Nat.reduceLT,kk,h,Int.lt_irrefl,if_false,oo,←H]
 ·simp only [↓cw,↓reduceIte,Nat.reduceLT,show ¬ (l.length:Int)=(r.length:Int) by omega,kk,not_false_eq_true,if_true,oo]
  have:decide (l=r)=false:=by simpa using fun e=>h (by rw [e])
  rw [this]
theorem g83 (l r:List Bal) (hb:l.length<1000000) (S:St) (K:KW):C 83 [.imm (l.map Bal.enc),.imm (r.map Bal.enc)] S K=K (.bool (decide (l=r))) S:=by
 refine (v83 rfl ?_).eq S K
 delta Tryz.f83;simp only [↓cw,↓reduceIte,Nat.reduceLT,kk]
 by_cases h:l.length=r.length
 ·simp only [↓cw,↓reduceIte,Nat.reduceLT,show (l.length:Int)=(r.length:Int) by omega,kk,not_true_eq_false,if_false]
  refine aG l (step:=cN r) (fin:=fun _=>true) (fun i n vs S=>n=i∧vs=[.bool false,.int .i64 (i:Int)]) (fun x=>x=decide (l=r)) ?_ ?_ (s:=0) ⟨rfl,rfl⟩ (eqL h)
  ·rintro i p n vs S hi ⟨rfl,rfl⟩ aC H
   have hil:=(List.getElem?_eq_some_iff.1 hi).1
   have hj:r[n]?=some r[n]:=List.getElem?_eq_getElem (by omega)
   have hlt:((n:Int)<(r.length:Int))=True:=aY hj
   simp only [cN,hj,Option.some.injEq,Bal.same_iff] at H
   simp only [↓cw,↓reduceIte,Nat.reduceLT,kk,aY hi,hlt,jZ hi,jZ hj,Bal.enc,fV (show n<1000000000 by omega),oo]
   grind
  ·rintro n vs S ⟨rfl,rfl⟩ aC H
   simp only [↓cw,↓reduceIte,Nat.reduceLT,kk,h,Int.lt_irrefl,if_false,oo,←H]
 ·simp only [↓cw,↓reduceIte,Nat.reduceLT,show ¬ (l.length:Int)=(r.length:Int) by omega,kk,not_false_eq_true,if_true,oo]
  have:decide (l=r)=false:=by simpa using fun e=>h (by rw [e])
  rw [this]
theorem g84 (l r:List Sess) (hb:l.length<1000000) (S:St) (K:KW):C 84 [.imm (l.map Sess.enc),.imm (r.map Sess.enc)] S K=K (.bool (decide (l=r))) S:=by
 refine (v84 rfl ?_).eq S K
 delta Tryz.f84;simp only [↓cw,↓reduceIte,Nat.reduceLT,kk]
 by_cases h:l.length=r.length
 ·simp only [↓cw,↓reduceIte,Nat.reduceLT,show (l.length:Int)=(r.length:Int) by omega,kk,not_true_eq_false,if_false]
  refine aG l (step:=cN r) (fin:=fun _=>true) (fun i n vs S=>n=i∧vs=[.bool false,.int .i64 (i:Int)]) (fun x=>x=decide (l=r)) ?_ ?_ (s:=0) ⟨rfl,rfl⟩ (eqL h)
  ·rintro i p n vs S hi ⟨rfl,rfl⟩ aC H
   have hil:=(List.getElem?_eq_some_iff.1 hi).1
   have hj:r[n]?=some r[n]:=List.getElem?_eq_getElem (by omega)
   have hlt:((n:Int)<(r.length:Int))=True:=aY hj
   simp only [cN,hj,Option.some.injEq,Sess.same_iff] at H
   simp only [↓cw,↓reduceIte,Nat.reduceLT,kk,aY hi,hlt,jY hi,jY hj,Sess.enc,fV (show n<1000000000 by omega),oo]
   grind
  ·rintro n vs S ⟨rfl,rfl⟩ aC H
   simp only [↓cw,↓reduceIte,Nat.reduceLT,kk,h,Int.lt_irrefl,if_false,oo,←H]
 ·simp only [↓cw,↓reduceIte,Nat.reduceLT,show ¬ (l.length:Int)=(r.length:Int) by omega,kk,not_false_eq_true,if_true,oo]
  have:decide (l=r)=false:=by simpa using fun e=>h (by rw [e])
  rw [this]
theorem Posted.same_iff (a b:Posted):(a=b)=(b.ref=a.ref∧b.day=a.day∧b.of=a.of∧b.back=a.back∧b.total=a.total):=by
 obtain ⟨_,_,_,_,_⟩:=a;obtain ⟨_,_,_,_,_⟩:=b;simp only [Posted.mk.injEq,eq_iff_iff]
 constructor
 ·rintro ⟨rfl,rfl,rfl,rfl,rfl⟩;exact ⟨rfl,rfl,rfl,rfl,rfl⟩
 ·rintro ⟨rfl,rfl,rfl,rfl,rfl⟩;exact ⟨rfl,rfl,rfl,rfl,rfl⟩
theorem Date.same_iff (a b:Date):(a=b)=(a.y=b.y∧a.m=b.m∧a.d=b.d):=by obtain ⟨_,_,_⟩:=a;obtain ⟨_,_,_⟩:=b;simp
theorem State.same_iff (a b:State):(a=b)=(a.table=b.table∧a.ser=b.ser∧a.posted=b.posted∧a.book=b.book∧a.sess=b.sess∧a.next=b.next):=by
 obtain ⟨_,_,_,_,_,_⟩:=a;obtain ⟨_,_,_,_,_,_⟩:=b;simp
def aJy (a b:State):Bool:=decide (a.table=b.table)&&(decide (a.ser=b.ser)&&(decide (a.posted=b.posted)&&(decide (a.book=b.book)&&(decide (a.sess=b.sess)&&decide (a.next=b.next)))))
theorem aLu (a b:State):aJy a b=true↔a=b:=by
 rw [State.same_iff];unfold aJy;simp
theorem Ext.b {S:St} (n:Nat):Ext S ⟨S.next+n,S.heap⟩:=(Ext.refl S).bump n
theorem g29 (s:State) (hI:aFk s) (hn:∀ x∈s.ser,I64 x.next) (hp:s.posted.length<1000000) (hq:∀ q∈s.posted,q.total.parts.length≤1100000) (h:fL s=true→ImgOK s) (S:St) (K:KW):C 29 [.agg [.imm (s.table.map Rate.enc),.imm (s.ser.map Ser.enc),.imm (s.posted.map Posted.enc),.imm (s.book.map Bal.enc),.imm (s.sess.map Sess.enc),.int .i64 s.next]] S K=K (.imm ((eC s).map iL)) S:=by
 refine (v29 rfl ?_).eq S K
 delta Tryz.f29;simp only [↓cw,↓reduceIte,Nat.reduceLT,kk,gm,tP,g38 s hI hp hq,aLo hI hn]
 cases c1:fL s
 ·have e:eC s=[]:=by unfold eC;rw [if_pos c1]
  simp only [↓cw,↓reduceIte,Nat.reduceLT,kk,gm,c1,oo,if_true,Bool.not_false,e,List.map_nil]
 have ok:=h c1
 have e:eC s=oX s:=by unfold eC;rw [if_neg (by rw [c1];decide),aJx]
 obtain ⟨R,hR⟩:∃ R,R=oX s:=⟨_,rfl⟩
 rw [e,←hR]
 obtain ⟨S0,hS0⟩:∃ S0:St,S0=⟨1,Tr.nil.put 0 (.row 0 6 [s.enc])⟩:=⟨_,rfl⟩
 have w0:WF S0:=by rw [hS0];exact lA xD (by decide) (by decide)
 have r0:aB S0 0 0=.ok (6,[s.enc]):=by rw [hS0];rfl
 have rr:∀ {X:St},Ext S0 X→aB X 0 0=.ok (6,[s.enc]):=fun {X} x=>x.row r0
 have wf:∀ {X:St},Ext S0 X→WF X:=fun {X} x=>x.wf w0
 simp only [State.enc] at hS0 rr r0
 simp only [↓cw,↓reduceIte,Nat.reduceLT,kk,gm,c1,tP,Bool.not_true,Bool.false_eq_true,if_false,←hS0,r0]
 have o1:=ok.t1;have o2:=ok.s1;have o3:=ok.p1;have o4:=ok.e1
 have fl1:=iA kJ (n:=114) s.table fun r hr=>tL (ok.t2 r hr)
 have fl2:=iA rS (n:=94) s.ser fun r hr=>xH (ok.s2 r hr)
 have fl3:=iA gK (n:=1326) s.posted fun r hr=>pN (ok.p2 r hr)
 have fl4:=iA oW (n:=50) s.sess fun r hr=>tM (ok.e2 r hr)
 have l1:=gL (lJ (n:=s.table.length) (by omega))
 have l2:=gL (lJ (n:=s.ser.length) (by omega))
 have l3:=gL (lJ (n:=s.posted.length) (by omega))
 have l4:=gL (lJ (n:=s.sess.length) (by omega))
 refine g97 (b:=[]) w0 (Sl.nilv _ _) (by simp) _ (lJ (by omega)) fun v1 S1 x1 o1'=>?_
 rw [aA4] at o1'
 refine aA3 kJ s.table (X0:=S0) (B:=114) (fun r hr=>tL (ok.t2 r hr)) x1 o1'.sl (fun i x d v X hi bt hv hd aC H=>?_) fun v X aC bt hv=>?_
 ·have hil:=(List.getElem?_eq_some_iff.1 hi).1
  have hx:=ok.t2 x (List.mem_of_getElem? hi)
  have q1:=eD x.cat (by omega);have q2:=oY hx.2.1
  have hd':d.length≤10000:=by simp only [List.nil_append] at hd;omega
  have xb:Ext S0 ⟨X.next+23,X.heap⟩:=bt.bump 23
  simp only [↓cw,↓reduceIte,Nat.reduceLT,kk,gm,rr bt,aY hi,if_true,lI hi,Rate.enc]
  refine g99 (wf xb) (hv.ext (Ext.b 23)) (by omega) _ (by omega) fun v2 Y1 y1 k1=>?_
  have z1:=xb.trans y1
  simp only [↓cw,↓reduceIte,Nat.reduceLT,kk,gm,rr z1,lI hi,Rate.enc]
  refine g98 (wf z1) k1.sl (by rw [List.length_append];omega) x.day hx.2.1 fun v3 Y2 y2 k2=>?_
  have z2:=z1.trans y2
  simp only [↓cw,↓reduceIte,Nat.reduceLT,kk,gm,rr z2,lI hi,Rate.enc]
  refine g97 (wf z2) k2.sl (by simp only [List.length_append];omega) x.bp hx.2.2 fun v4 Y3 y3 k3=>?_
  simp only [↓cw,↓reduceIte,Nat.reduceLT,kk,gm,fV (show i<1000000000 by omega)]
  exact H _ _ (z2.trans y3) (by have:=k3.sl;rw [aA4] at this;simpa [kJ] using this)
 simp only [↓cw,↓reduceIte,Nat.reduceLT,kk,gm,Int.lt_irrefl,if_false,rr bt]
 have z1:([]++bM [(s.table.length:Int)]++s.table.flatMap kJ).length≤2746:=by simp only [List.length_append,List.length_nil];omega
 generalize hB1:([]++bM [(s.table.length:Int)]++s.table.flatMap kJ:List UInt8)=B1 at hv z1
 refine g97 (wf bt) hv (by omega) _ (lJ (n:=s.ser.length) (by omega)) fun v2 S2 x2 o2'=>?_
 rw [aA4] at o2'
 have b2:=bt.trans x2
 clear hv
 refine aA3 rS s.ser (X0:=S0) (B:=94) (fun r hr=>xH (ok.s2 r hr)) b2 o2'.sl (fun i x d v X hi bt hv hd aC H=>?_) fun v X aC bt hv=>?_
 ·have hil:=(List.getElem?_eq_some_iff.1 hi).1
  have hx:=ok.s2 x (List.mem_of_getElem? hi)
  have q1:=eD x.name (by omega)
  have hd':d.length≤10000:=by rw [List.length_append] at hd;omega
  have xb:Ext S0 ⟨X.next+23,X.heap⟩:=bt.bump 23
  simp only [↓cw,↓reduceIte,Nat.reduceLT,kk,gm,rr bt,aY hi,if_true,kX hi,Ser.enc]
  refine g99 (wf xb) (hv.ext (Ext.b 23)) (by omega) _ (by omega) fun v2 Y1 y1 k1=>?_
  have z1:=xb.trans y1
  simp only [↓cw,↓reduceIte,Nat.reduceLT,kk,gm,rr z1,kX hi,Ser.enc]
  refine g97 (wf z1) k1.sl (by rw [List.length_append];omega) x.limit hx.2 fun v3 Y2 y2 k2=>?_
  have z2:=z1.trans y2
  have q2:=Go.Pack.numP_len hx.2
  simp only [↓cw,↓reduceIte,Nat.reduceLT,kk,gm,rr z2,kX hi,Ser.enc]
  refine bGv (wf z2) k2.sl (by simp only [List.length_append];omega) x.shut fun v4 Y3 y3 k3=>?_
  simp only [↓cw,↓reduceIte,Nat.reduceLT,kk,gm,fV (show i<1000000000 by omega)]
  exact H _ _ (z2.trans y3) (by have:=k3.sl;rw [aA4] at this;simpa [rS] using this)
 simp only [↓cw,↓reduceIte,Nat.reduceLT,kk,gm,Int.lt_irrefl,if_false,rr bt]
 have z2:(B1++bM [(s.ser.length:Int)]++s.ser.flatMap rS).length≤3508:=by simp only [List.length_append];omega
 generalize hB2:(B1++bM [(s.ser.length:Int)]++s.ser.flatMap rS:List UInt8)=B2 at hv z2
 refine g97 (wf bt) hv (by omega) _ (lJ (n:=s.posted.length) (by omega)) fun v3 S3 x3 o3'=>?_
 rw [aA4] at o3'
 have b3:=bt.trans x3
 clear hv
 refine aA3 gK s.posted (X0:=S0) (B:=1326) (fun r hr=>pN (ok.p2 r hr)) b3 o3'.sl (fun i x d v X hi bt hv hd aC H=>?_) fun v X aC bt hv=>?_
 ·have hil:=(List.getElem?_eq_some_iff.1 hi).1
  have hx:=ok.p2 x (List.mem_of_getElem? hi)
  have hd':d.length≤70000:=by rw [List.length_append] at hd;omega
  have q1:=eD x.ref.ser (by have:=hx.ser;omega);have q2:=oY hx.day;have q3:=eD x.of.ser (by have:=hx.ofs;omega)
  have hs1:=hx.ser;have hs2:=hx.ofs;have hs3:=hx.len
  have wX:=wf bt
  obtain ⟨X1,hX1⟩:∃ X1:St,X1=⟨X.next+1,(X.heap.put X.next (.row 0 12 [sY])).put X.next (.row 0 12 [x.enc])⟩:=⟨_,rfl⟩
  have xX:Ext X X1:=by rw [hX1];exact Ext.var wX 12 _ _
  have rq:aB X1 X.next 0=.ok (12,[x.enc]):=by rw [hX1];exact aF _ _ _ _ _ _
  have rr2:∀ {Y:St},Ext X1 Y→aB Y X.next 0=.ok (12,[x.enc]):=fun {Y} y=>y.row rq
  simp only [sY,Posted.enc] at hX1
  simp only [Posted.enc] at rr2 rq
  simp only [↓cw,↓reduceIte,Nat.reduceLT,kk,gm,rr bt,aY hi,if_true,fM hi,Posted.enc,←hX1,rq]
  have wX1:=xX.wf wX
  have y0:Ext X1 ⟨X1.next+9,X1.heap⟩:=Ext.b 9
  refine g99 (y0.wf wX1) (hv.ext (xX.trans y0)) (by omega) _ (by omega) fun v2 Y1 y1 k1=>?_
  have t1:=y0.trans y1
  simp only [↓cw,↓reduceIte,Nat.reduceLT,kk,gm,rr2 t1]
  refine g98 (t1.wf wX1) k1.sl (by rw [List.length_append];omega) x.day hx.day fun v3 Y2 y2 k2=>?_
  have t2:=(t1.trans y2).trans (Ext.b (S:=Y2) 10)
  simp only [↓cw,↓reduceIte,Nat.reduceLT,kk,gm,rr2 (t1.trans y2)]
  refine g99 (t2.wf wX1) (k2.sl.ext (Ext.b 10)) (by simp only [List.length_append];omega) _ (by omega) fun v4 Y3 y3 k3=>?_
  have t3:=t2.trans y3
  simp only [↓cw,↓reduceIte,Nat.reduceLT,kk,gm,rr2 t3]
  refine g97 (t3.wf wX1) k3.sl (by simp only [List.length_append];omega) _ hx.num fun v5 Y4 y4 k4=>?_
  have t4:=t3.trans y4
  have q4:=Go.Pack.numP_len hx.num
  simp only [↓cw,↓reduceIte,Nat.reduceLT,kk,gm,rr2 t4]
  refine g97 (t4.wf wX1) k4.sl (by simp only [List.length_append];omega) _ (lJ (n:=x.total.parts.length) (by omega)) fun v6 Y5 y5 k5=>?_
  have t5:=t4.trans y5
  have q5:=Go.Pack.numP_len (lJ (n:=x.total.parts.length) (by omega))
  refine aA3 oV x.total.parts (X0:=X1) (B:=94) (fun r hr=>aA2 (hx.parts r hr)) t5 k5.sl (fun i2 x2 d2 v X hi2 bt2 hv2 hd2 again2 H2=>?_) fun v X' again2 bt2 hv2=>?_
  ·have hil2:=(List.getElem?_eq_some_iff.1 hi2).1
   have hx2:=hx.parts x2 (List.mem_of_getElem? hi2)
   have e1:=eD x2.cat (by omega)
   have hd2':d2.length≤80000:=by simp only [List.length_append] at hd2;omega
   have wZ:=bt2.wf wX1
   obtain ⟨Z1,hZ1⟩:∃ Z1:St,Z1=⟨X.next+1,(X.heap.put X.next (.row 0 4 [[.str [],.int .i64 0,.int .i64 0,.int .i64 0]])).put X.next (.row 0 4 [x2.enc])⟩:=⟨_,rfl⟩
   have xZ:Ext X Z1:=by rw [hZ1];exact Ext.var wZ 4 _ _
   have rz:aB Z1 X.next 0=.ok (4,[x2.enc]):=by rw [hZ1];exact aF _ _ _ _ _ _
   have rr3:∀ {Y:St},Ext Z1 Y→aB Y X.next 0=.ok (4,[x2.enc]):=fun {Y} y=>y.row rz
   simp only [Part.enc] at hZ1 rr3 rz
   have wZ1:=xZ.wf wZ
   simp only [↓cw,↓reduceIte,Nat.reduceLT,kk,gm,rr2 bt2,aY hi2,if_true,eW hi2,Part.enc,←hZ1,rz]
   have f0:Ext Z1 ⟨Z1.next+11,Z1.heap⟩:=Ext.b 11
   refine g99 (f0.wf wZ1) (hv2.ext (xZ.trans f0)) (by omega) _ (by omega) fun v2 U1 u1 m1=>?_
   have f1:=f0.trans u1
   simp only [↓cw,↓reduceIte,Nat.reduceLT,kk,gm,rr3 f1]
   refine g97 (f1.wf wZ1) m1.sl (by rw [List.length_append];omega) _ hx2.2.1 fun v3 U2 u2 m2=>?_
   have f2:=f1.trans u2
   have e2:=Go.Pack.numP_len hx2.2.1
   simp only [↓cw,↓reduceIte,Nat.reduceLT,kk,gm,rr3 f2]
   refine g97 (f2.wf wZ1) m2.sl (by simp only [List.length_append];omega) _ hx2.2.2 fun v4 U3 u3 m3=>?_
   simp only [↓cw,↓reduceIte,Nat.reduceLT,kk,gm,fV (show i2<1000000000 by omega)]
   exact H2 _ _ (bt2.trans (xZ.trans (f2.trans u3))) (by have:=m3.sl;simpa [oV,bM] using this)
  ·simp only [↓cw,↓reduceIte,Nat.reduceLT,kk,gm,rr2 bt2,Int.lt_irrefl,if_false,fV (show i<1000000000 by omega)]
   exact H _ _ (bt.trans (xX.trans bt2)) (by simpa [gK,bM] using hv2)
 simp only [↓cw,↓reduceIte,Nat.reduceLT,kk,gm,Int.lt_irrefl,if_false,rr bt]
 have z3:(B2++bM [(s.posted.length:Int)]++s.posted.flatMap gK).length≤60000:=by simp only [List.length_append];omega
 generalize hB3:(B2++bM [(s.posted.length:Int)]++s.posted.flatMap gK:List UInt8)=B3 at hv z3
 refine g97 (wf bt) hv (by omega) _ (lJ (n:=s.sess.length) (by omega)) fun v4 S4 x4 o4'=>?_
 rw [aA4] at o4'
 have b4:=bt.trans x4
 clear hv
 refine aA3 oW s.sess (X0:=S0) (B:=50) (fun r hr=>tM (ok.e2 r hr)) b4 o4'.sl (fun i x d v X hi bt hv hd aC H=>?_) fun v X aC bt hv=>?_
 ·have hil:=(List.getElem?_eq_some_iff.1 hi).1
  have hx:=ok.e2 x (List.mem_of_getElem? hi)
  have hd':d.length≤70000:=by rw [List.length_append] at hd;omega
  have q1:=Go.Pack.numP_len hx.1;have q2:=Go.Pack.numP_len hx.2.1
  have xb:Ext S0 ⟨X.next+23,X.heap⟩:=bt.bump 23
  simp only [↓cw,↓reduceIte,Nat.reduceLT,kk,gm,rr bt,aY hi,if_true,jY hi,Sess.enc]
  refine g97 (wf xb) (hv.ext (Ext.b 23)) (by omega) _ hx.1 fun v2 Y1 y1 k1=>?_
  have z1:=xb.trans y1
  simp only [↓cw,↓reduceIte,Nat.reduceLT,kk,gm,rr z1,jY hi,Sess.enc]
  refine g97 (wf z1) k1.sl (by rw [List.length_append];omega) _ hx.2.1 fun v3 Y2 y2 k2=>?_
  have z2:=z1.trans y2
  simp only [↓cw,↓reduceIte,Nat.reduceLT,kk,gm,rr z2,jY hi,Sess.enc]
  refine bGw (wf z2) k2.sl (by simp only [List.length_append];omega) x.reply hx.2.2 fun v4 Y3 y3 k3=>?_
  simp only [↓cw,↓reduceIte,Nat.reduceLT,kk,gm,fV (show i<1000000000 by omega)]
  exact H _ _ (z2.trans y3) (by have:=k3.sl;simpa [oW,bM] using this)
 simp only [↓cw,↓reduceIte,Nat.reduceLT,kk,gm,Int.lt_irrefl,if_false,rr bt]
 refine g97 (wf bt) hv (by simp only [List.length_append];omega) _ ok.n fun v5 S5 x5 o5=>?_
 have hfin:B3++bM [(s.sess.length:Int)]++s.sess.flatMap oW++Go.Pack.numP s.next=R:=by rw [hR,←hB3,←hB2,←hB1,aA4];simp [oX]
 rw [hfin] at o5
 simp only [↓cw,↓reduceIte,Nat.reduceLT,kk,gm,oo]
 exact o5.sl.out fun _=>rfl
theorem aQ4 {l:List UInt8} {i:Nat} {a:UInt8} (hi:l[i]?=some a) (k:IntKind):gC 1 (.imm (l.map iL)) (.int k (i:Int))=.ok (.iptr (iL a) 0):=ixI (enc:=iL) hi rfl k
theorem aXa (a b:UInt8):(a=b)=((a.toNat:Int)=(b.toNat:Int)):=by
 refine propext ⟨fun h=>by rw [h],fun h=>UInt8.toNat_inj.1 (by omega)⟩
theorem g27 (l r:List UInt8) (hb:l.length<1000000000) (S:St) (K:KW):C 27 [.imm (l.map iL),.imm (r.map iL)] S K=K (.bool (decide (l=r))) S:=by
 refine (v27 rfl ?_).eq S K
 delta Tryz.f27;simp only [↓cw,↓reduceIte,Nat.reduceLT,kk]
 by_cases h:l.length=r.length
 ·simp only [↓cw,↓reduceIte,Nat.reduceLT,show (l.length:Int)=(r.length:Int) by omega,kk,not_true_eq_false,if_false]
  refine aG l (step:=cN r) (fin:=fun _=>true) (fun i n vs S=>n=i∧vs=[.bool false,.int .i64 (i:Int)]) (fun x=>x=decide (l=r)) ?_ ?_ (s:=0) ⟨rfl,rfl⟩ (eqL h)
  ·rintro i p n vs S hi ⟨rfl,rfl⟩ aC H
   have hil:=(List.getElem?_eq_some_iff.1 hi).1
   have hj:r[n]?=some r[n]:=List.getElem?_eq_getElem (by omega)
   have hlt:((n:Int)<(r.length:Int))=True:=aY hj
   simp only [cN,hj,Option.some.injEq,aXa] at H
   simp only [↓cw,↓reduceIte,Nat.reduceLT,kk,aY hi,hlt,aQ4 hi,aQ4 hj,iL,fV (show n<1000000000 by omega),oo]
   grind
  ·rintro n vs S ⟨rfl,rfl⟩ aC H
   simp only [↓cw,↓reduceIte,Nat.reduceLT,kk,h,Int.lt_irrefl,if_false,oo,←H]
 ·simp only [↓cw,↓reduceIte,Nat.reduceLT,show ¬ (l.length:Int)=(r.length:Int) by omega,kk,not_false_eq_true,if_true,oo]
  have:decide (l=r)=false:=by simpa using fun e=>h (by rw [e])
  rw [this]
theorem bH4:dPl 25=some (.spec (Sp.told.run prog)):=by kernel_rfl
theorem g25 (S:St) (K:KW):C 25 [] S K=K (.bool true) S:=aMp bH4 rfl K
theorem bCz (l r:List Part) (hb:l.length<2000000) (S:St) (K:KW):C 224 [.imm (l.map Part.enc),.imm (r.map Part.enc)] S K=K (.bool (decide (l=r))) S:=by
 refine (bEn rfl ?_).eq S K
 delta Tryz.f224;simp only [↓cw,↓reduceIte,Nat.reduceLT,kk]
 by_cases h:l.length=r.length
 ·simp only [↓cw,↓reduceIte,Nat.reduceLT,show (l.length:Int)=(r.length:Int) by omega,kk,not_true_eq_false,if_false]
  refine aG l (step:=cN r) (fin:=fun _=>true) (fun i n vs S=>n=i∧vs=[.bool false,.int .i64 (i:Int)]) (fun x=>x=decide (l=r)) ?_ ?_ (s:=0) ⟨rfl,rfl⟩ (eqL h)
  ·rintro i p n vs S hi ⟨rfl,rfl⟩ aC H
   have hil:=(List.getElem?_eq_some_iff.1 hi).1
   have hj:r[n]?=some r[n]:=List.getElem?_eq_getElem (by omega)
   have hlt:((n:Int)<(r.length:Int))=True:=aY hj
   simp only [cN,hj,Option.some.injEq,Part.same_iff] at H
   simp only [↓cw,↓reduceIte,Nat.reduceLT,kk,aY hi,hlt,eW hi,eW hj,Part.enc,fV (show n<1000000000 by omega),oo]
   grind
  ·rintro n vs S ⟨rfl,rfl⟩ aC H
   simp only [↓cw,↓reduceIte,Nat.reduceLT,kk,h,Int.lt_irrefl,if_false,oo,←H]
 ·simp only [↓cw,↓reduceIte,Nat.reduceLT,show ¬ (l.length:Int)=(r.length:Int) by omega,kk,not_false_eq_true,if_true,oo]
  have:decide (l=r)=false:=by simpa using fun e=>h (by rw [e])
  rw [this]
theorem bD0 (a b:Total) (hb:a.parts.length<2000000) (S:St) (K:KW):C 162 [.agg [.int .i64 a.net,.int .i64 a.tax,.int .i64 a.gross,.imm (a.parts.map Part.enc)],.agg [.int .i64 b.net,.int .i64 b.tax,.int .i64 b.gross,.imm (b.parts.map Part.enc)]] S K=K (.bool (decide (a=b))) S:=by
 refine (bDv rfl ?_).eq S K
 delta Tryz.f162;simp only [↓cw,↓reduceIte,Nat.reduceLT,kk,tP,gm,bCz a.parts b.parts hb,Total.ext_iff,oo]
 grind
theorem bH5 (l r:List Posted) (hb:l.length<1000000) (hq:∀ p∈l,p.total.parts.length<2000000) (S:St) (K:KW):C 82 [.imm (l.map Posted.enc),.imm (r.map Posted.enc)] S K=K (.bool (decide (l=r))) S:=by
 refine (v82 rfl ?_).eq S K
 delta Tryz.f82;simp only [↓cw,↓reduceIte,Nat.reduceLT,kk]
 by_cases h:l.length=r.length
 ·simp only [↓cw,↓reduceIte,Nat.reduceLT,show (l.length:Int)=(r.length:Int) by omega,kk,not_true_eq_false,if_false]
  refine aG l (step:=cN r) (fin:=fun _=>true) (fun i n vs S=>n=i∧vs=[.bool false,.int .i64 (i:Int)]) (fun x=>x=decide (l=r)) ?_ ?_ (s:=0) ⟨rfl,rfl⟩ (eqL h)
  ·rintro i p n vs S hi ⟨rfl,rfl⟩ aC H
   have hil:=(List.getElem?_eq_some_iff.1 hi).1
   have hj:r[n]?=some r[n]:=List.getElem?_eq_getElem (by omega)
   have hlt:((n:Int)<(r.length:Int))=True:=aY hj
   generalize r[n]=q at hj
   simp only [cN,hj,Option.some.injEq,Posted.same_iff q p] at H
   simp only [↓cw,↓reduceIte,Nat.reduceLT,kk,gm,aY hi,hlt,if_true,fM hi,fM hj,Posted.enc,bD0 p.total q.total (hq p (List.mem_of_getElem? hi)),fV (show n<1000000000 by omega),uJ]
   by_cases c1:p.ref=q.ref
   rotate_left
   ·have c':(!(p.ref.ser == q.ref.ser&&decide (p.ref.num=q.ref.num)))=true:=by rw [Ref.ext_iff] at c1;simp;exact Decidable.not_and_iff_or_not.1 c1
    rw [if_neg (fun h=>c1 h.1)] at H
    have H:false=decide (l=r):=H
    rw [if_pos c',←H]
   have c':¬ (!(p.ref.ser == q.ref.ser&&decide (p.ref.num=q.ref.num)))=true:=by rw [c1];simp
   rw [if_neg c']
   by_cases c2:p.day=q.day
   rotate_left
   ·rw [if_neg (fun h=>c2 h.2.1)] at H
    have H:false=decide (l=r):=H
    rw [Date.same_iff] at c2
    rw [if_pos (by simp;grind),←H]
   rw [if_neg (by rw [c2];simp)]
   by_cases c3:p.of=q.of
   rotate_left
   ·rw [if_neg (fun h=>c3 h.2.2.1)] at H
    have H:false=decide (l=r):=H
    rw [Ref.ext_iff] at c3
    rw [if_pos (by simp;grind),←H]
   rw [if_neg (by rw [c3];simp)]
   by_cases c4:p.back=q.back
   rotate_left
   ·rw [if_neg (fun h=>c4 h.2.2.2.1)] at H
    have H:false=decide (l=r):=H
    rw [if_pos (by simpa using c4),←H]
   rw [if_neg (by rw [c4];simp)]
   by_cases c5:p.total=q.total
   ·rw [if_pos ⟨c1,c2,c3,c4,c5⟩] at H
    rw [if_neg (by simp [c5])]
    exact H _ _ ⟨rfl,rfl⟩
   ·rw [if_neg (fun h=>c5 h.2.2.2.2)] at H
    have H:false=decide (l=r):=H
    rw [if_pos (by simpa using c5),←H]
  ·rintro n vs S ⟨rfl,rfl⟩ aC H
   simp only [↓cw,↓reduceIte,Nat.reduceLT,kk,h,Int.lt_irrefl,if_false,oo,←H]
 ·simp only [↓cw,↓reduceIte,Nat.reduceLT,show ¬ (l.length:Int)=(r.length:Int) by omega,kk,not_false_eq_true,if_true,oo]
  have:decide (l=r)=false:=by simpa using fun e=>h (by rw [e])
  rw [this]
structure SmlW (s:State):Prop where
 tab:s.table.length<1000000
 ser:s.ser.length<1000000
 post:s.posted.length<1000000
 parts:∀ p∈s.posted,p.total.parts.length<2000000
 book:s.book.length<1000000
 sess:s.sess.length<1000000
theorem bH6 (a b:State) (h:SmlW a) (S:St) (K:KW):C 22 [.agg [.imm (a.table.map Rate.enc),.imm (a.ser.map Ser.enc),.imm (a.posted.map Posted.enc),.imm (a.book.map Bal.enc),.imm (a.sess.map Sess.enc),.int .i64 a.next],.agg [.imm (b.table.map Rate.enc),.imm (b.ser.map Ser.enc),.imm (b.posted.map Posted.enc),.imm (b.book.map Bal.enc),.imm (b.sess.map Sess.enc),.int .i64 b.next]] S K=K (.bool (aJy a b)) S:=by
 refine (v22 rfl ?_).eq S K
 delta Tryz.f22;simp only [↓cw,↓reduceIte,Nat.reduceLT,kk,tP,gm,g80 a.table b.table h.tab,g81 a.ser b.ser h.ser,bH5 a.posted b.posted h.post h.parts,g83 a.book b.book h.book,g84 a.sess b.sess h.sess,aJy]
 by_cases c1:a.table=b.table
 rotate_left
 ·simp only [c1,if_false,decide_false,Bool.false_and,oo]
 by_cases c2:a.ser=b.ser
 rotate_left
 ·simp only [c1,c2,if_true,if_false,decide_false,decide_true,Bool.false_and,Bool.true_and,oo]
 by_cases c3:a.posted=b.posted
 rotate_left
 ·simp only [c1,c2,c3,if_true,if_false,decide_false,decide_true,Bool.false_and,Bool.true_and,oo]
 by_cases c4:a.book=b.book
 rotate_left
 ·simp only [c1,c2,c3,c4,if_true,if_false,decide_false,decide_true,Bool.false_and,Bool.true_and,oo]
 by_cases c5:a.sess=b.sess
 rotate_left
 ·simp only [c1,c2,c3,c4,c5,if_true,if_false,decide_false,decide_true,Bool.false_and,Bool.true_and,oo]
 simp only [c1,c2,c3,c4,c5,if_true,decide_true,Bool.true_and,oo]
theorem g4 (s:State) (hI:aFk s) (hR:aRz s) (hn:∀ x∈s.ser,I64 x.next) (hq:∀ q∈s.posted,q.total.parts.length≤1048576) (S:St) (K:KW):C 4 [.agg s.enc] S K=K (.bool true) S:=by
 refine (v4 rfl ?_).eq S K
 delta Tryz.f4;simp only [↓cw,↓reduceIte,Nat.reduceLT,kk,tP,gm,State.enc,g25]
 by_cases c1:60<(s.posted.length:Int)
 ·rw [if_pos c1];trivial
 by_cases c2:40<(s.table.length:Int)
 ·rw [if_neg c1,if_pos c2];trivial
 by_cases c3:20<(s.ser.length:Int)
 ·rw [if_neg c1,if_neg c2,if_pos c3];trivial
 by_cases c4:20<(s.sess.length:Int)
 ·rw [if_neg c1,if_neg c2,if_neg c3,if_pos c4];trivial
 by_cases c5:200<(s.book.length:Int)
 ·rw [if_neg c1,if_neg c2,if_neg c3,if_neg c4,if_pos c5];trivial
 rw [if_neg c1,if_neg c2,if_neg c3,if_neg c4,if_neg c5]
 have hC:BndC s:=⟨by omega,by omega,by omega,by omega,by omega,hq⟩
 have hS:SmlW s:=⟨by omega,by omega,by omega,fun p hp=>by have:=hq p hp;omega,by omega,by omega⟩
 have hln:(eC s).length<1000000000:=by
  by_cases h:fL s=true
  ·have:=aS1 h hI hR;omega
  ·have e:eC s=[]:=by unfold eC;rw [if_pos (by simpa using h)]
   rw [e];decide
 have hok:fL s=true→ImgOK s:=fun h=>ImgOK.of (aPs h hI hR)
 have h28:=fun S K=>g28 s hok S K
 have h29:=fun S K=>g29 s hI hn (by omega) (fun q h=>by have:=hq q h;omega) hok S K
 have h27:=fun S K=>g27 (eC s) (eC s) hln S K
 have h22:=fun S K=>bH6 s s hS S K
 simp only [decide_true] at h27
 rw [(aLu s s).2 rfl] at h22
 simp only [↓cw,↓reduceIte,Nat.reduceLT,kk,tP,gm,g26 s hC,h28,h29,h27,h22,g25]
theorem c4:prog.cellsOf 4=1:=by kernel_rfl
theorem aJz {n:Nat} {xs:List V} (h:aD prog n 4 xs):∃ b,xs=[.bool b]:=by
 cases n with
 | zero=>cases h
 | succ m=>
  simp only [aD,Tryz.underlying4] at h
  exact h
theorem bH7:prog.cellsOf 145=4:=by kernel_rfl
theorem aS7 {n:Nat} {xs:List V} (h:aD prog n 145 xs):∃ d:Part,xs=d.enc:=by
 obtain ⟨m,hl,hf⟩:=bW Tryz.underlying145 h
 rw [bH7] at hl
 have h0:aD prog m 9 ((xs.drop 0).take (prog.cellsOf 9)):=hf 0 _ rfl
 rw [c9] at h0
 obtain ⟨x0,e0⟩:=zL h0
 have q0:=cut xs 0 1
 rw [e0] at q0
 have h1:aD prog m 3 ((xs.drop 1).take (prog.cellsOf 3)):=hf 1 _ rfl
 rw [c3] at h1
 obtain ⟨x1,e1⟩:=eB h1
 have q1:=cut xs 1 1
 rw [e1] at q1
 have h2:aD prog m 3 ((xs.drop 2).take (prog.cellsOf 3)):=hf 2 _ rfl
 rw [c3] at h2
 obtain ⟨x2,e2⟩:=eB h2
 have q2:=cut xs 2 1
 rw [e2] at q2
 have h3:aD prog m 3 ((xs.drop 3).take (prog.cellsOf 3)):=hf 3 _ rfl
 rw [c3] at h3
 obtain ⟨x3,e3⟩:=eB h3
 have q3:=cut xs 3 1
 rw [e3] at q3
 have hend:xs.drop 4=[]:=List.drop_eq_nil_of_le (by omega)
 have hx:xs=[.str x0]++([.int .i64 x1]++([.int .i64 x2]++([.int .i64 x3]++[]))):=by
  have z:xs=xs.drop 0:=rfl
  rw [z,q0,q1,q2,q3]
  show _=_
  rw [show (3+1:Nat)=4 from rfl,hend]
 rw [hx]
 exact ⟨⟨x0,x1,x2,x3⟩,rfl⟩
theorem c80:prog.cellsOf 80=1:=by kernel_rfl
theorem aQ5 {n:Nat} {xs:List V} (h:aD prog n 80 xs):∃ l:List Part,xs=[.imm (l.map Part.enc)]:=by
 obtain ⟨m,es,h,hes⟩:=kA Tryz.underlying80 h
 obtain ⟨l,hl⟩:=kC (enc:=Part.enc) fun c hc=>aS7 (hes c hc).2
 exact ⟨l,by rw [h,hl]⟩
theorem c82:prog.cellsOf 82=4:=by kernel_rfl
theorem aQ6 {n:Nat} {xs:List V} (h:aD prog n 82 xs):∃ d:Total,xs=d.enc:=by
 obtain ⟨m,hl,hf⟩:=bW Tryz.underlying82 h
 rw [c82] at hl
 have h0:aD prog m 3 ((xs.drop 0).take (prog.cellsOf 3)):=hf 0 _ rfl
 rw [c3] at h0
 obtain ⟨x0,e0⟩:=eB h0
 have q0:=cut xs 0 1
 rw [e0] at q0
 have h1:aD prog m 3 ((xs.drop 1).take (prog.cellsOf 3)):=hf 1 _ rfl
 rw [c3] at h1
 obtain ⟨x1,e1⟩:=eB h1
 have q1:=cut xs 1 1
 rw [e1] at q1
 have h2:aD prog m 3 ((xs.drop 2).take (prog.cellsOf 3)):=hf 2 _ rfl
 rw [c3] at h2
 obtain ⟨x2,e2⟩:=eB h2
 have q2:=cut xs 2 1
 rw [e2] at q2
 have h3:aD prog m 80 ((xs.drop 3).take (prog.cellsOf 80)):=hf 3 _ rfl
 rw [c80] at h3
 obtain ⟨x3,e3⟩:=aQ5 h3
 have q3:=cut xs 3 1
 rw [e3] at q3
 have hend:xs.drop 4=[]:=List.drop_eq_nil_of_le (by omega)
 have hx:xs=[.int .i64 x0]++([.int .i64 x1]++([.int .i64 x2]++([.imm (x3.map Part.enc)]++[]))):=by
  have z:xs=xs.drop 0:=rfl
  rw [z,q0,q1,q2,q3]
  show _=_
  rw [show (3+1:Nat)=4 from rfl,hend]
 rw [hx]
 exact ⟨⟨x0,x1,x2,x3⟩,rfl⟩
theorem c84:prog.cellsOf 84=12:=by kernel_rfl
theorem aS8 {n:Nat} {xs:List V} (h:aD prog n 84 xs):∃ d:Posted,xs=d.enc:=by
 obtain ⟨m,hl,hf⟩:=bW Tryz.underlying84 h
 rw [c84] at hl
 have h0:aD prog m 57 ((xs.drop 0).take (prog.cellsOf 57)):=hf 0 _ rfl
 rw [c57] at h0
 obtain ⟨x0,e0⟩:=aPj h0
 have q0:=cut xs 0 2
 rw [e0] at q0
 have h1:aD prog m 52 ((xs.drop 2).take (prog.cellsOf 52)):=hf 1 _ rfl
 rw [c52] at h1
 obtain ⟨x1,e1⟩:=aJm h1
 have q1:=cut xs 2 3
 rw [e1] at q1
 have h2:aD prog m 82 ((xs.drop 5).take (prog.cellsOf 82)):=hf 2 _ rfl
 rw [c82] at h2
 obtain ⟨x2,e2⟩:=aQ6 h2
 have q2:=cut xs 5 4
 rw [e2] at q2
 have h3:aD prog m 57 ((xs.drop 9).take (prog.cellsOf 57)):=hf 3 _ rfl
 rw [c57] at h3
 obtain ⟨x3,e3⟩:=aPj h3
 have q3:=cut xs 9 2
 rw [e3] at q3
 have h4:aD prog m 4 ((xs.drop 11).take (prog.cellsOf 4)):=hf 4 _ rfl
 rw [c4] at h4
 obtain ⟨x4,e4⟩:=aJz h4
 have q4:=cut xs 11 1
 rw [e4] at q4
 have hend:xs.drop 12=[]:=List.drop_eq_nil_of_le (by omega)
 have hx:xs=x0.enc++(x1.enc++(x2.enc++(x3.enc++([.bool x4]++[])))):=by
  have z:xs=xs.drop 0:=rfl
  rw [z,q0,q1,q2,q3,q4]
  show _=_
  rw [show (11+1:Nat)=12 from rfl,hend]
 rw [hx]
 exact ⟨⟨x0,x1,x2,x3,x4⟩,rfl⟩
theorem c26:prog.cellsOf 26=1:=by kernel_rfl
theorem aQ7 {n:Nat} {xs:List V} (h:aD prog n 26 xs):∃ l:List Posted,xs=[.imm (l.map Posted.enc)]:=by
 obtain ⟨m,es,h,hes⟩:=kA Tryz.underlying26 h
 obtain ⟨l,hl⟩:=kC (enc:=Posted.enc) fun c hc=>aS8 (hes c hc).2
 exact ⟨l,by rw [h,hl]⟩
theorem aFw {n:Nat} {i:Int} (h:aD prog n 3 [.int .i64 i]):I64 i:=by
 cases n with
 | zero=>cases h
 | succ m=>
  simp only [aD,Tryz.underlying3] at h
  obtain ⟨j,e,h⟩:=h
  cases e
  simp [Lit.wf,IntKind.min,IntKind.max,IntKind.signed,IntKind.bits] at h
  exact ⟨by omega,by omega⟩
theorem aDr {α:Type} {enc:α→List V} {t e n:Nat} {Q:α→Prop} (ht:prog.underlying t=some (.slice e)) (hq:∀ m x,aD prog m e (enc x)→Q x) {l:List α} (h:aD prog n t [.imm (l.map enc)]):∀ x∈l,Q x:=fun x hx=>by
 obtain ⟨m,es,e1,h2⟩:=kA ht h
 cases e1
 exact hq m x (h2 _ (List.mem_map_of_mem hx)).2
end Go.Proofs.YtoaibmbldmckaaaGreat
end
section
namespace Go.AM
open Go.RowKit
section
def fC (P:Program) (B:Nat):Nat→TypeId→List V→Prop
 | 0,_,_=>False
 | n+1,t,xs=>match P.underlying t with
  | some (.slice e)=>∃ es,xs=[.imm es]∧es.length≤B∧∀ c,c∈es→fC P B n e c
  | some (.struct fs)=>∀ f,f∈fs.toList→fC P B n f.type ((xs.drop f.offset).take (P.cellsOf f.type))
  | _=>True
section
variable {H:Type} {enc:TypeId×Value→H} {P:Program} {W:World} {sp:Nat→Bool} {held:Bool}
theorem aQ8 {n:Nat} {cs:List Value} {A:TypeId→List V→Prop} {Q:DataW H→Prop} (ih:∀ (t:TypeId) (cs:List Value) (x:DataW H×List MemPlace) (d:Nat),rK P d t=true→DataW.trod enc P W 0 sp held n t cs=some x→Q x.1→∃ xs,VRs (Gh.all W) xs cs∧A t xs) {d:Nat}:
  ∀ (l:List Field) (o e:Nat),aJi P l o e=true→e≤cs.length→(∀ f,f∈l→rK P d f.type=true∧∃ x,Q x.1∧DataW.trod enc P W 0 sp held n f.type ((cs.drop f.offset).take (P.cellsOf f.type))=some x)→
   o≤e∧∃ xs,VRs (Gh.all W) xs ((cs.drop o).take (e - o))∧∀ f,f∈l→o≤f.offset∧A f.type ((xs.drop (f.offset - o)).take (P.cellsOf f.type))
 | [],o,e,h,he,_=>by
  have:o=e:=Nat.eq_of_beq_eq_true h
  subst this
  exact ⟨Nat.le_refl _,[],by rw [Nat.sub_self];exact .nil,fun _ h=>by cases h⟩
 | f::l,o,e,h,he,hf=>by
  simp only [aJi,Bool.and_eq_true] at h
  have h0:f.offset=o:=Nat.eq_of_beq_eq_true h.1
  obtain ⟨hle,xs,hv,hs⟩:=aQ8 ih l (o+P.cellsOf f.type) e h.2 he (fun g hg=>hf g (List.mem_cons_of_mem _ hg))
  obtain ⟨hpl,x,hq,hx⟩:=hf f (List.mem_cons_self ..)
  obtain ⟨ys,hy,hsy⟩:=ih _ _ _ d hpl hx hq
  rw [h0] at hy
  have hyl:ys.length=P.cellsOf f.type:=by rw [hy.length,List.length_take,List.length_drop];omega
  refine ⟨by omega,ys++xs,?_,fun g hg=>?_⟩
  ·have:(cs.drop o).take (e - o)=(cs.drop o).take (P.cellsOf f.type)++(cs.drop (o+P.cellsOf f.type)).take (e - (o+P.cellsOf f.type)):=by
    rw [←List.drop_drop,←List.take_add]
    congr 1
    omega
   rw [this]
   exact hy.append hv
  ·rcases List.mem_cons.1 hg with rfl | hg
   ·refine ⟨by omega,?_⟩
    rw [h0,Nat.sub_self,List.drop_zero,List.take_append_of_le_length (by omega),List.take_of_length_le (by omega)]
    exact hsy
   ·obtain ⟨h1,h2⟩:=hs g hg
    refine ⟨by omega,?_⟩
    rw [List.drop_append,List.drop_eq_nil_of_le (by omega),List.nil_append,hyl]
    have:g.offset - o - P.cellsOf f.type=g.offset - (o+P.cellsOf f.type):=by omega
    rw [this]
    exact h2
theorem aDs {B:Nat} {Q:DataW H→Prop} (hQs:∀ l r,Q (.slice l r)→l.length≤B∧∀ d∈l,Q d) (hQa:∀ l,Q (.agg l)→∀ d∈l,Q d):
  ∀ (n:Nat) (t:TypeId) (cs:List Value) (x:DataW H×List MemPlace) (d:Nat),rK P d t=true→DataW.trod enc P W 0 sp held n t cs=some x→Q x.1→∃ xs,VRs (Gh.all W) xs cs∧aD P n t xs∧fC P B n t xs
 | 0,t,cs,x,d,_,h,_=>by simp [DataW.trod] at h
 | n+1,t,cs,x,0,hp,h,_=>by cases hp
 | n+1,t,cs,x,d+1,hp,h,hq0=>by
  simp only [rK] at hp
  split at hp
  ·rename_i ht
   obtain ⟨b,rfl,_⟩:=DataW.trod_bool ht h
   exact ⟨[.bool b],.cons _ _ _ _ (.bool b) .nil,by simp only [aD,ht];exact ⟨b,rfl⟩,by simp only [fC,ht]⟩
  ·rename_i k ht
   obtain ⟨i,rfl,_,hw⟩:=DataW.trod_int ht h
   exact ⟨[.int k i],.cons _ _ _ _ (.int k i) .nil,by simp only [aD,ht];exact ⟨i,rfl,hw⟩,by simp only [fC,ht]⟩
  ·rename_i ht
   obtain ⟨s,rfl,_,hs⟩:=DataW.trod_string ht h
   refine ⟨[.str s.data.toList],.cons _ _ _ _ (.str s.data.toList) .nil,?_,by simp only [fC,ht]⟩
   simp only [aD,ht]
   exact ⟨_,rfl,hs⟩
  ·rename_i e ht
   simp only [Bool.and_eq_true,Nat.blt_eq] at hp
   rcases DataW.trod_slice ht h with ⟨rfl,_⟩ | ⟨a,len,cap,elems,rest,m,hm,rfl,hx1,_,hlc,hcap,hel,hget,_,_⟩
   ·exact ⟨[.imm []],.cons _ _ _ _ .imm0 .nil,by simp only [aD,ht];exact ⟨[],rfl,Nat.zero_le _,fun c hc=>by cases hc⟩,by simp only [fC,ht];exact ⟨[],rfl,Nat.zero_le _,fun c hc=>by cases hc⟩⟩
   ·have hm:m=n:=by omega
    subst hm
    have hq:elems.length≤B∧∀ y∈elems,Q y.1:=by
     rw [hx1] at hq0
     obtain ⟨q1,q2⟩:=hQs _ _ hq0
     rw [List.length_map] at q1
     exact ⟨q1,fun y hy=>q2 _ (List.mem_map_of_mem hy)⟩
    obtain ⟨l,hl,hq⟩:=aJj (Q:=fun i (y:List V×List Value)=>W.cells? 0 (a.add (i*P.cellsOf e)) (P.cellsOf e)=some y.2∧VRs (Gh.all W) y.1 y.2∧aD P m e y.1∧fC P B m e y.1) len (fun i hi=>by
     have h1:=hget i hi
     rw [List.getElem?_eq_getElem (by omega:i<elems.length)] at h1
     rw [Option.bind_eq_some_iff] at h1
     obtain ⟨r,h2,h3⟩:=h1
     obtain ⟨c,h4,h5⟩:=aDs hQs hQa m e r _ d hp.2 h3 (hq.2 _ (List.getElem_mem _))
     exact ⟨(c,r),h2,h4,h5⟩)
    have hlen:∀ y,y∈l→y.1.length=P.cellsOf e∧y.2.length=P.cellsOf e:=fun y hy=>by
     obtain ⟨i,hi⟩:=List.mem_iff_getElem?.1 hy
     obtain ⟨h1,h2,_⟩:=hq i y hi
     have:=(uK h1).1
     exact ⟨by rw [h2.length];exact this,this⟩
    refine ⟨[.imm (l.map (·.1))],.cons _ _ _ _ (.imm _ a len cap (P.cellsOf e) (by rw [List.length_map,hl]) hlc (l.map (·.2)) (VRss.of fun y hy=>?_) (fun c hc=>?_) ?_) .nil,?_,?_⟩
    ·obtain ⟨i,hi⟩:=List.mem_iff_getElem?.1 hy
     exact (hq i y hi).2.1
    ·obtain ⟨y,hy,rfl⟩:=List.mem_map.1 hc
     exact (hlen y hy).1
    ·by_cases h0:len=0
     ·exact .inl h0
     ·right
      obtain ⟨y0,hy0⟩:∃ y0,l[0]?=some y0:=⟨l[0]'(by omega),List.getElem?_eq_getElem (by omega)⟩
      obtain ⟨h1,_,_⟩:=hq 0 y0 hy0
      rw [Nat.zero_mul,aBs] at h1
      obtain ⟨hyl,hcell⟩:=uK h1
      obtain ⟨v0,hv0⟩:∃ v0,y0.2[0]?=some v0:=⟨y0.2[0]'(by omega),List.getElem?_eq_getElem (by omega)⟩
      have hc0:=hcell 0 v0 hv0
      rw [aBs] at hc0
      obtain ⟨c,ty,fr,hh,hs,_⟩:=aJk hc0
      refine ⟨c,ty,fr,hh,hs,fun i r hr k v hk=>?_⟩
      rw [List.getElem?_map] at hr
      obtain ⟨y,hy,rfl⟩:∃ y,l[i]?=some y∧y.2=r:=by
       cases hy:l[i]? with
       | none=>rw [hy] at hr;cases hr
       | some y=>rw [hy] at hr;exact ⟨y,rfl,Option.some.inj hr⟩
      obtain ⟨h2,_,_⟩:=hq i y hy
      obtain ⟨c',ty',fr',hh',_,hv⟩:=aJk ((uK h2).2 k v hk)
      rw [aBr,aBr,hh] at hh'
      rw [aJl,aJl] at hv
      cases hh'
      exact hv
    ·simp only [aD,ht]
     refine ⟨_,rfl,by rw [List.length_map,hl];omega,fun c hc=>?_⟩
     obtain ⟨y,hy,rfl⟩:=List.mem_map.1 hc
     obtain ⟨i,hi⟩:=List.mem_iff_getElem?.1 hy
     exact ⟨(hlen y hy).1,(hq i y hi).2.2.1⟩
    ·simp only [fC,ht]
     refine ⟨_,rfl,by rw [List.length_map,hl];have:=‹elems.length≤B∧∀ y∈elems,Q y.1›.1;omega,fun c hc=>?_⟩
     obtain ⟨y,hy,rfl⟩:=List.mem_map.1 hc
     obtain ⟨i,hi⟩:=List.mem_iff_getElem?.1 hy
     exact (hq i y hi).2.2.2
  ·rename_i fs ht
   simp only [Bool.and_eq_true,List.all_eq_true] at hp
   obtain ⟨xs,m,hm,hx1,hcl,hxl,hf⟩:=DataW.trod_struct ht h
   have hm:m=n:=by omega
   subst hm
   have hq:∀ y∈xs,Q y.1:=by
    rw [hx1] at hq0
    exact fun y hy=>hQa _ hq0 _ (List.mem_map_of_mem hy)
   obtain ⟨_,ys,h1,h2⟩:=aQ8 (enc:=enc) (sp:=sp) (held:=held) (cs:=cs) (A:=fun t xs=>aD P m t xs∧fC P B m t xs) (Q:=Q) (fun t cs x d=>aDs hQs hQa m t cs x d) fs.toList 0 (P.cellsOf t) hp.1 (Nat.le_of_eq hcl.symm) (fun f hfm=>by
    refine ⟨hp.2 f hfm,?_⟩
    obtain ⟨i,hi⟩:=List.mem_iff_getElem?.1 hfm
    have hi':fs[i]?=some f:=by simpa using hi
    rw [hf i f hi']
    have:i<xs.length:=by
     rw [hxl]
     by_cases c:i<fs.size
     ·exact c
     ·rw [Array.getElem?_eq_none (by omega)] at hi';cases hi'
    exact ⟨_,hq _ (List.getElem_mem this),List.getElem?_eq_getElem this⟩)
   rw [Nat.sub_zero,List.drop_zero,List.take_of_length_le (by omega)] at h1
   refine ⟨ys,h1,?_,?_⟩
   ·simp only [aD,ht]
    refine ⟨by rw [h1.length,hcl],fun f hfm=>?_⟩
    have:=(h2 f hfm).2
    rw [Nat.sub_zero] at this
    exact this.1
   ·simp only [fC,ht]
    intro f hfm
    have:=(h2 f hfm).2
    rw [Nat.sub_zero] at this
    exact this.2
  ·cases hp
theorem vY {B:Nat} {Q:DataW H→Prop} (hQs:∀ l r,Q (.slice l r)→l.length≤B∧∀ d∈l,Q d) (hQa:∀ l,Q (.agg l)→∀ d∈l,Q d) {r:Reach} {b0 d:Nat} {t:TypeId} {fs:Array Field} {v:Value} {dd:DataW H} {ps:List MemPlace} (ht:P.underlying t=some (.struct fs)) (hpl:rK P d t=true) (hval:Value.okWide P W r b0 t v) (hd:DataW.Trod enc P W 0 sp held t v dd ps) (hq:Q dd):
  ∃ xs n,VR (Gh.all W) (.agg xs) v∧aD P n t xs∧fC P B n t xs:=by
 obtain ⟨fuel,hf⟩:=hd
 obtain ⟨xs,h1,h2⟩:=aDs hQs hQa fuel t _ _ d hpl hf hq
 simp only [Value.okWide,ht] at hval
 obtain ⟨cs,rfl,_,_⟩:=hval
 exact ⟨xs,fuel,.agg xs cs h1,h2⟩
end
end
end Go.AM
end
section
namespace Go.Proofs.YtoaibmbldmckaaaGreat
open Go.AM Tryz
theorem c31:prog.cellsOf 31=1:=by kernel_rfl
theorem aXb {n:Nat} {xs:List V} (h:aD prog n 31 xs):∃ i,xs=[.int .i64 i]:=by
 cases n with
 | zero=>cases h
 | succ m=>
  simp only [aD,Tryz.underlying31] at h
  obtain ⟨i,h,_⟩:=h
  exact ⟨i,h⟩
theorem bD1 {n:Nat} {i:Int} (h:aD prog n 31 [.int .i64 i]):I64 i:=by
 cases n with
 | zero=>cases h
 | succ m=>
  simp only [aD,Tryz.underlying31] at h
  obtain ⟨j,e,h⟩:=h
  cases e
  simp [Lit.wf,IntKind.min,IntKind.max,IntKind.signed,IntKind.bits] at h
  exact ⟨by omega,by omega⟩
theorem bHa:prog.cellsOf 126=4:=by kernel_rfl
theorem aXc {n:Nat} {xs:List V} (h:aD prog n 126 xs):∃ d:Ser,xs=d.enc:=by
 obtain ⟨m,hl,hf⟩:=bW Tryz.underlying126 h
 rw [bHa] at hl
 have h0:aD prog m 9 ((xs.drop 0).take (prog.cellsOf 9)):=hf 0 _ rfl
 rw [c9] at h0
 obtain ⟨x0,e0⟩:=zL h0
 have q0:=cut xs 0 1
 rw [e0] at q0
 have h1:aD prog m 3 ((xs.drop 1).take (prog.cellsOf 3)):=hf 1 _ rfl
 rw [c3] at h1
 obtain ⟨x1,e1⟩:=eB h1
 have q1:=cut xs 1 1
 rw [e1] at q1
 have h2:aD prog m 3 ((xs.drop 2).take (prog.cellsOf 3)):=hf 2 _ rfl
 rw [c3] at h2
 obtain ⟨x2,e2⟩:=eB h2
 have q2:=cut xs 2 1
 rw [e2] at q2
 have h3:aD prog m 4 ((xs.drop 3).take (prog.cellsOf 4)):=hf 3 _ rfl
 rw [c4] at h3
 obtain ⟨x3,e3⟩:=aJz h3
 have q3:=cut xs 3 1
 rw [e3] at q3
 have hend:xs.drop 4=[]:=List.drop_eq_nil_of_le (by omega)
 have hx:xs=[.str x0]++([.int .i64 x1]++([.int .i64 x2]++([.bool x3]++[]))):=by
  have z:xs=xs.drop 0:=rfl
  rw [z,q0,q1,q2,q3]
  show _=_
  rw [show (3+1:Nat)=4 from rfl,hend]
 rw [hx]
 exact ⟨⟨x0,x1,x2,x3⟩,rfl⟩
theorem c90:prog.cellsOf 90=2:=by kernel_rfl
theorem aXd {n:Nat} {xs:List V} (h:aD prog n 90 xs):∃ d:Bal,xs=d.enc:=by
 obtain ⟨m,hl,hf⟩:=bW Tryz.underlying90 h
 rw [c90] at hl
 have h0:aD prog m 9 ((xs.drop 0).take (prog.cellsOf 9)):=hf 0 _ rfl
 rw [c9] at h0
 obtain ⟨x0,e0⟩:=zL h0
 have q0:=cut xs 0 1
 rw [e0] at q0
 have h1:aD prog m 3 ((xs.drop 1).take (prog.cellsOf 3)):=hf 1 _ rfl
 rw [c3] at h1
 obtain ⟨x1,e1⟩:=eB h1
 have q1:=cut xs 1 1
 rw [e1] at q1
 have hend:xs.drop 2=[]:=List.drop_eq_nil_of_le (by omega)
 have hx:xs=[.str x0]++([.int .i64 x1]++[]):=by
  have z:xs=xs.drop 0:=rfl
  rw [z,q0,q1]
  show _=_
  rw [show (1+1:Nat)=2 from rfl,hend]
 rw [hx]
 exact ⟨⟨x0,x1⟩,rfl⟩
theorem c48:prog.cellsOf 48=3:=by kernel_rfl
theorem aXe {n:Nat} {xs:List V} (h:aD prog n 48 xs):∃ d:Rep,xs=d.enc:=by
 obtain ⟨m,hl,hf⟩:=bW Tryz.underlying48 h
 rw [c48] at hl
 have h0:aD prog m 31 ((xs.drop 0).take (prog.cellsOf 31)):=hf 0 _ rfl
 rw [c31] at h0
 obtain ⟨x0,e0⟩:=aXb h0
 have q0:=cut xs 0 1
 rw [e0] at q0
 have h1:aD prog m 3 ((xs.drop 1).take (prog.cellsOf 3)):=hf 1 _ rfl
 rw [c3] at h1
 obtain ⟨x1,e1⟩:=eB h1
 have q1:=cut xs 1 1
 rw [e1] at q1
 have h2:aD prog m 3 ((xs.drop 2).take (prog.cellsOf 3)):=hf 2 _ rfl
 rw [c3] at h2
 obtain ⟨x2,e2⟩:=eB h2
 have q2:=cut xs 2 1
 rw [e2] at q2
 have hend:xs.drop 3=[]:=List.drop_eq_nil_of_le (by omega)
 have hx:xs=[.int .i64 x0]++([.int .i64 x1]++([.int .i64 x2]++[])):=by
  have z:xs=xs.drop 0:=rfl
  rw [z,q0,q1,q2]
  show _=_
  rw [show (2+1:Nat)=3 from rfl,hend]
 rw [hx]
 exact ⟨⟨x0,x1,x2⟩,rfl⟩
theorem bHc:prog.cellsOf 132=5:=by kernel_rfl
theorem aS9 {n:Nat} {xs:List V} (h:aD prog n 132 xs):∃ d:Sess,xs=d.enc:=by
 obtain ⟨m,hl,hf⟩:=bW Tryz.underlying132 h
 rw [bHc] at hl
 have h0:aD prog m 3 ((xs.drop 0).take (prog.cellsOf 3)):=hf 0 _ rfl
 rw [c3] at h0
 obtain ⟨x0,e0⟩:=eB h0
 have q0:=cut xs 0 1
 rw [e0] at q0
 have h1:aD prog m 3 ((xs.drop 1).take (prog.cellsOf 3)):=hf 1 _ rfl
 rw [c3] at h1
 obtain ⟨x1,e1⟩:=eB h1
 have q1:=cut xs 1 1
 rw [e1] at q1
 have h2:aD prog m 48 ((xs.drop 2).take (prog.cellsOf 48)):=hf 2 _ rfl
 rw [c48] at h2
 obtain ⟨x2,e2⟩:=aXe h2
 have q2:=cut xs 2 3
 rw [e2] at q2
 have hend:xs.drop 5=[]:=List.drop_eq_nil_of_le (by omega)
 have hx:xs=[.int .i64 x0]++([.int .i64 x1]++(x2.enc++[])):=by
  have z:xs=xs.drop 0:=rfl
  rw [z,q0,q1,q2]
  show _=_
  rw [show (2+3:Nat)=5 from rfl,hend]
 rw [hx]
 exact ⟨⟨x0,x1,x2⟩,rfl⟩
theorem c25:prog.cellsOf 25=1:=by kernel_rfl
theorem aSa {n:Nat} {xs:List V} (h:aD prog n 25 xs):∃ l:List Ser,xs=[.imm (l.map Ser.enc)]:=by
 obtain ⟨m,es,h,hes⟩:=kA Tryz.underlying25 h
 obtain ⟨l,hl⟩:=kC (enc:=Ser.enc) fun c hc=>aXc (hes c hc).2
 exact ⟨l,by rw [h,hl]⟩
theorem c27:prog.cellsOf 27=1:=by kernel_rfl
theorem aSb {n:Nat} {xs:List V} (h:aD prog n 27 xs):∃ l:List Bal,xs=[.imm (l.map Bal.enc)]:=by
 obtain ⟨m,es,h,hes⟩:=kA Tryz.underlying27 h
 obtain ⟨l,hl⟩:=kC (enc:=Bal.enc) fun c hc=>aXd (hes c hc).2
 exact ⟨l,by rw [h,hl]⟩
theorem c28:prog.cellsOf 28=1:=by kernel_rfl
theorem aQ9 {n:Nat} {xs:List V} (h:aD prog n 28 xs):∃ l:List Sess,xs=[.imm (l.map Sess.enc)]:=by
 obtain ⟨m,es,h,hes⟩:=kA Tryz.underlying28 h
 obtain ⟨l,hl⟩:=kC (enc:=Sess.enc) fun c hc=>aS9 (hes c hc).2
 exact ⟨l,by rw [h,hl]⟩
theorem c24:prog.cellsOf 24=1:=by kernel_rfl
theorem aQa {n:Nat} {xs:List V} (h:aD prog n 24 xs):∃ l:List Rate,xs=[.imm (l.map Rate.enc)]:=by
 obtain ⟨m,es,h,hes⟩:=kA Tryz.underlying24 h
 obtain ⟨l,hl⟩:=kC (enc:=Rate.enc) fun c hc=>aRt (hes c hc).2
 exact ⟨l,by rw [h,hl]⟩
theorem c30:prog.cellsOf 30=6:=by kernel_rfl
theorem aQb {n:Nat} {xs:List V} (h:aD prog n 30 xs):∃ d:State,xs=d.enc:=by
 obtain ⟨m,hl,hf⟩:=bW Tryz.underlying30 h
 rw [c30] at hl
 have h0:aD prog m 24 ((xs.drop 0).take (prog.cellsOf 24)):=hf 0 _ rfl
 rw [c24] at h0
 obtain ⟨x0,e0⟩:=aQa h0
 have q0:=cut xs 0 1
 rw [e0] at q0
 have h1:aD prog m 25 ((xs.drop 1).take (prog.cellsOf 25)):=hf 1 _ rfl
 rw [c25] at h1
 obtain ⟨x1,e1⟩:=aSa h1
 have q1:=cut xs 1 1
 rw [e1] at q1
 have h2:aD prog m 26 ((xs.drop 2).take (prog.cellsOf 26)):=hf 2 _ rfl
 rw [c26] at h2
 obtain ⟨x2,e2⟩:=aQ7 h2
 have q2:=cut xs 2 1
 rw [e2] at q2
 have h3:aD prog m 27 ((xs.drop 3).take (prog.cellsOf 27)):=hf 3 _ rfl
 rw [c27] at h3
 obtain ⟨x3,e3⟩:=aSb h3
 have q3:=cut xs 3 1
 rw [e3] at q3
 have h4:aD prog m 28 ((xs.drop 4).take (prog.cellsOf 28)):=hf 4 _ rfl
 rw [c28] at h4
 obtain ⟨x4,e4⟩:=aQ9 h4
 have q4:=cut xs 4 1
 rw [e4] at q4
 have h5:aD prog m 3 ((xs.drop 5).take (prog.cellsOf 3)):=hf 5 _ rfl
 rw [c3] at h5
 obtain ⟨x5,e5⟩:=eB h5
 have q5:=cut xs 5 1
 rw [e5] at q5
 have hend:xs.drop 6=[]:=List.drop_eq_nil_of_le (by omega)
 have hx:xs=[.imm (x0.map Rate.enc)]++([.imm (x1.map Ser.enc)]++([.imm (x2.map Posted.enc)]++([.imm (x3.map Bal.enc)]++([.imm (x4.map Sess.enc)]++([.int .i64 x5]++[]))))):=by
  have z:xs=xs.drop 0:=rfl
  rw [z,q0,q1,q2,q3,q4,q5]
  show _=_
  rw [show (5+1:Nat)=6 from rfl,hend]
 rw [hx]
 exact ⟨⟨x0,x1,x2,x3,x4,x5⟩,rfl⟩
theorem bD2 {n:Nat} {d:Ser} (h:aD prog n 126 d.enc):I64 d.next:=by
 obtain ⟨m,_,hf⟩:=bW Tryz.underlying126 h
 have h1:aD prog m 3 ((d.enc.drop 1).take (prog.cellsOf 3)):=hf 1 _ rfl
 rw [c3] at h1
 exact aFw h1
theorem aXf {n:Nat} {d:Part} (h:aD prog n 145 d.enc):I64 d.net∧I64 d.tax:=by
 obtain ⟨m,_,hf⟩:=bW Tryz.underlying145 h
 have h2:aD prog m 3 ((d.enc.drop 2).take (prog.cellsOf 3)):=hf 2 _ rfl
 have h3:aD prog m 3 ((d.enc.drop 3).take (prog.cellsOf 3)):=hf 3 _ rfl
 rw [c3] at h2 h3
 exact ⟨aFw h2,aFw h3⟩
theorem aXg {n:Nat} {p:Posted} (h:aD prog n 84 p.enc):∀ q∈p.total.parts,I64 q.net∧I64 q.tax:=by
 obtain ⟨m,_,hf⟩:=bW Tryz.underlying84 h
 have h2:aD prog m 82 ((p.enc.drop 5).take (prog.cellsOf 82)):=hf 2 _ rfl
 rw [c82] at h2
 obtain ⟨m',_,hf'⟩:=bW Tryz.underlying82 h2
 have h3:aD prog m' 80 ((((p.enc.drop 5).take 4).drop 3).take (prog.cellsOf 80)):=hf' 3 _ rfl
 rw [c80] at h3
 exact aDr (Q:=fun q:Part=>I64 q.net∧I64 q.tax) Tryz.underlying80 (fun _ _=>aXf) h3
theorem aXh {n:Nat} {d:Sess} (h:aD prog n 132 d.enc):IR d.reply:=by
 obtain ⟨m,_,hf⟩:=bW Tryz.underlying132 h
 have h2:aD prog m 48 ((d.enc.drop 2).take (prog.cellsOf 48)):=hf 2 _ rfl
 rw [c48] at h2
 obtain ⟨m',_,hf'⟩:=bW Tryz.underlying48 h2
 have h0:aD prog m' 31 ((((d.enc.drop 2).take 3).drop 0).take (prog.cellsOf 31)):=hf' 0 _ rfl
 have h1:aD prog m' 3 ((((d.enc.drop 2).take 3).drop 1).take (prog.cellsOf 3)):=hf' 1 _ rfl
 have h3:aD prog m' 3 ((((d.enc.drop 2).take 3).drop 2).take (prog.cellsOf 3)):=hf' 2 _ rfl
 rw [c31] at h0
 rw [c3] at h1 h3
 exact ⟨bD1 h0,aFw h1,aFw h3⟩
theorem aDt {n:Nat} {s:State} (h:aD prog n 30 s.enc):aFk s∧aRz s∧∀ x∈s.ser,I64 x.next:=by
 obtain ⟨m,_,hf⟩:=bW Tryz.underlying30 h
 have h1:aD prog m 25 ((s.enc.drop 1).take (prog.cellsOf 25)):=hf 1 _ rfl
 have h2:aD prog m 26 ((s.enc.drop 2).take (prog.cellsOf 26)):=hf 2 _ rfl
 have h4:aD prog m 28 ((s.enc.drop 4).take (prog.cellsOf 28)):=hf 4 _ rfl
 rw [c25] at h1
 rw [c26] at h2
 rw [c28] at h4
 exact ⟨aDr (Q:=fun p:Posted=>∀ q∈p.total.parts,I64 q.net∧I64 q.tax) Tryz.underlying26 (fun _ _=>aXg) h2,aDr (Q:=fun x:Sess=>IR x.reply) Tryz.underlying28 (fun _ _=>aXh) h4,aDr (Q:=fun x:Ser=>I64 x.next) Tryz.underlying25 (fun _ _=>bD2) h1⟩
theorem aA5 {B n:Nat} {t:TypeId} {fs:Array Field} {xs:List V} (ht:prog.underlying t=some (.struct fs)) (h:fC prog B n t xs):∃ m,∀ (i:Nat) (f:Field),fs[i]?=some f→fC prog B m f.type ((xs.drop f.offset).take (prog.cellsOf f.type)):=by
 cases n with
 | zero=>cases h
 | succ m=>
  simp only [fC,ht] at h
  exact ⟨m,fun i f hi=>h f (List.mem_of_getElem? (by rw [Array.getElem?_toList];exact hi))⟩
theorem aK0 {B n:Nat} {t e:TypeId} {es:List (List V)} (ht:prog.underlying t=some (.slice e)) (h:fC prog B n t [.imm es]):∃ m,es.length≤B∧∀ c,c∈es→fC prog B m e c:=by
 cases n with
 | zero=>cases h
 | succ m=>
  simp only [fC,ht] at h
  obtain ⟨es',e1,h1,h2⟩:=h
  cases e1
  exact ⟨m,h1,h2⟩
theorem aSc {B n:Nat} {s:State} (h:fC prog B n 30 s.enc):∀ p∈s.posted,p.total.parts.length≤B:=by
 obtain ⟨m,hf⟩:=aA5 Tryz.underlying30 h
 have h2:fC prog B m 26 ((s.enc.drop 2).take (prog.cellsOf 26)):=hf 2 _ rfl
 rw [c26] at h2
 obtain ⟨m2,_,hes⟩:=aK0 (es:=s.posted.map Posted.enc) Tryz.underlying26 h2
 intro p hp
 obtain ⟨m3,hf⟩:=aA5 Tryz.underlying84 (hes _ (List.mem_map_of_mem hp))
 have h4:fC prog B m3 82 ((p.enc.drop 5).take (prog.cellsOf 82)):=hf 2 _ rfl
 rw [c82] at h4
 obtain ⟨m4,hf⟩:=aA5 Tryz.underlying82 h4
 have h5:fC prog B m4 80 ((((p.enc.drop 5).take 4).drop 3).take (prog.cellsOf 80)):=hf 3 _ rfl
 rw [c80] at h5
 obtain ⟨m5,h6,_⟩:=aK0 (es:=p.total.parts.map Part.enc) Tryz.underlying80 h5
 rwa [List.length_map] at h6
end Go.Proofs.YtoaibmbldmckaaaGreat
end
