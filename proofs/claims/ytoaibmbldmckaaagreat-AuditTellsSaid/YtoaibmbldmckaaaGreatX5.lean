import Derived.KernelRfl
import Derived.Test.YtoaibmbldmckaaaGreatProg
import Derived.Test.YtoaibmbldmckaaaGreatX4
set_option linter.unusedSimpArgs false
set_option linter.unusedVariables false
set_option linter.unusedSectionVars false
set_option maxRecDepth 100000
section
namespace Go.Proofs.YtoaibmbldmckaaaGreat
open Go.AM Tryz
abbrev aV9:Nat→Option (List bJ):=eX [(10,[(0,[]),(1,[]),(3,[]),(2,[3]),(4,[]),(5,[]),(6,[]),(7,[]),(8,[]),(10,[]),(9,[10]),(11,[]),(12,[]),(13,[])]),(19,[(1,[]),(2,[]),(3,[]),(5,[]),(6,[]),(7,[]),(8,[]),(9,[]),(12,[]),(13,[]),(14,[]),(0,[]),(4,[8,6]),(10,[]),(11,[]),(15,[]),(16,[])])]
abbrev aVa:Nat→List Nat:=iN [(16,[13]),(12,[6,7,8,11]),(7,[6,7,8,9])]
def aHk (C:aM) (K:KW) (again0:List V→St→Prop) (again1:List V→St→Prop) (p3 p4 p5 p6 p7 p8 p9 p10 p11 p12 p13:V) (S:St):Prop:=
qX 71 p8 p13 fun t57=>
qE 77 t57 2 3 (up S 13) fun t59=>
qE 145 p12 2 3 (up S 13) fun t61=>
C 127 [t59,t61] (up S 13) fun t62 S63=>
eB t62 0 fun t64=>
eB t62 1 fun t65=>
qX 71 p8 p13 fun t66=>
qE 77 t66 3 3 (up S63 13) fun t68=>
qE 145 p12 3 3 (up S63 13) fun t70=>
C 127 [t68,t70] (up S63 13) fun t71 S72=>
eB t71 0 fun t73=>
eB t71 1 fun t74=>
(qG .neq 3 t65 (jI 0) fun t75=>
aK t75 (K (.tup [(.nils),(jI 7)]) S72) ((qG .neq 3 t74 (jI 0) fun t76=>
aK t76 (K (.tup [(.nils),(jI 7)]) S72) (qX 71 p8 p13 fun t77=>
qF 77 t77 2 fun t78=>
qS 3 t78 t64 S72 fun S79=>
qX 71 p8 p13 fun t80=>
qF 77 t80 3 fun t81=>
qS 3 t81 t73 S79 fun S82=>
qB .add 3 p11 (jI 1) fun t83=>
again1 [p6,p7,p8,t83] S82))))
def aAa (C:aM) (K:KW) (again0:List V→St→Prop) (again1:List V→St→Prop) (p3 p4 p5 p6 p7 p8 p9 p10 p11 p12 p13 p128:V) (S:St):Prop:=
aK p128 (wR (dY prog 71 p8 none (some p13)) fun t84=>
qF 145 p12 0 fun t85=>
qL 9 t85 (up S 17) fun t86=>
qF 145 p12 1 fun t87=>
qL 3 t87 (up S 17) fun t88=>
qD 77 [(0,t86),(1,t88)] fun t89=>
wR (dY prog 71 p8 (some p13) none) fun t90=>
qQ 71 0 [] (some (S.next+0)) (up S 17) fun r91=>
qP 71 r91.1 t84 (some (S.next+4)) r91.2 fun r92=>
qL 3 t87 r92.2 fun t93=>
uA (eJ t88 t93) (qL 9 t85 r92.2 fun t94=>
uA (eJ t86 t94) (qQ 71 1 [(0,t89)] (some (S.next+10)) r92.2 fun r95=>
qP 71 r92.1 r95.1 (some (S.next+11)) r95.2 fun r96=>
qP 71 r96.1 t90 (some (S.next+15)) r96.2 fun r97=>
aHk C K again0 again1 p3 p4 p5 p6 p7 r97.1 p9 p10 p11 p12 p13 r97.2))) (aHk C K again0 again1 p3 p4 p5 p6 p7 p8 p9 p10 p11 p12 p13 S)
def xD (C:aM) (K:KW) (again0:List V→St→Prop) (again1:List V→St→Prop) (p3 p4 p5 p6 p7 p8 p9 p10 p11 p12 p13:V) (S:St):Prop:=
qZ 71 p8 (up S 24) fun t98=>
(qG .eql 3 p13 t98 fun t99=>
aK t99 (aAa C K again0 again1 p3 p4 p5 p6 p7 p8 p9 p10 p11 p12 p13 (.bool true) (up S 24)) (qX 71 p8 p13 fun t100=>
qE 77 t100 0 9 (up S 24) fun t102=>
qE 145 p12 0 9 (up S 24) fun t104=>
(qG .neq 9 t102 t104 fun t105=>
aK t105 (aAa C K again0 again1 p3 p4 p5 p6 p7 p8 p9 p10 p11 p12 p13 (.bool true) (up S 24)) (qX 71 p8 p13 fun t106=>
qE 77 t106 1 3 (up S 24) fun t108=>
qE 145 p12 1 3 (up S 24) fun t110=>
(qG .neq 3 t108 t110 fun t111=>
aAa C K again0 again1 p3 p4 p5 p6 p7 p8 p9 p10 p11 p12 p13 t111 (up S 24))))))
def aHl (C:aM) (K:KW) (again0:List V→St→Prop) (again1:List V→St→Prop) (p3 p4 p5 p6 p7 p8 p9 p10 p11 p12:V) (vs:List V) (S:St) (again2:List V→St→Prop):Prop:=
pA vs fun x13 vs=>
qZ 71 p8 (up S 34) fun t112=>
qB .lss 3 x13 t112 fun t113=>
aK t113 (qX 71 p8 x13 fun t114=>
qE 77 t114 0 9 (up S 34) fun t116=>
qE 145 p12 0 9 (up S 34) fun t118=>
qB .lss 9 t116 t118 fun bBp=>
aK bBp (qB .add 3 x13 (jI 1) fun t120=>
again2 [t120] (up S 34)) (qX 71 p8 x13 fun t121=>
qE 77 t121 0 9 (up S 34) fun t123=>
qE 145 p12 0 9 (up S 34) fun bBq=>
(qG .eql 9 t123 bBq fun t126=>
aK t126 (qX 71 p8 x13 fun t127=>
qE 77 t127 1 3 (up S 34) fun t129=>
qE 145 p12 1 3 (up S 34) fun t131=>
qB .lss 3 t129 t131 fun t132=>
aK t132 (qB .add 3 x13 (jI 1) fun t133=>
again2 [t133] (up S 34)) (xD C K again0 again1 p3 p4 p5 p6 p7 p8 p9 p10 p11 p12 x13 (up S 34))) (xD C K again0 again1 p3 p4 p5 p6 p7 p8 p9 p10 p11 p12 x13 (up S 34))))) (xD C K again0 again1 p3 p4 p5 p6 p7 p8 p9 p10 p11 p12 x13 (up S 34))
def aLr (C:aM) (K:KW) (again0:List V→St→Prop) (p3 p4 p5 p9 p10:V) (vs:List V) (S:St) (again1:List V→St→Prop):Prop:=
pA vs fun x6 vs=>
pA vs fun x7 vs=>
pA vs fun x8 vs=>
pA vs fun x11 vs=>
qF 84 p10 2 fun t45=>
qE 82 t45 3 80 S fun t47=>
qZ 80 t47 S fun t48=>
qB .lss 3 x11 t48 fun t49=>
aK t49 (qF 84 p10 2 fun t50=>
qE 82 t50 3 80 S fun t52=>
qX 80 t52 x11 fun t53=>
qL 145 t53 S fun t54=>
qN S 4 [.str [],jI 0,jI 0,jI 0] fun r55=>
qS 145 (pt r55) t54 r55.2 fun S56=>
fZ [(jI 0)] S56 (aHl C K again0 again1 p3 p4 p5 x6 x7 x8 p9 p10 x11 (pt r55))) (qB .add 3 p9 (jI 1) fun t134=>
again0 [x6,x7,x8,t134] S)
def aLs (C:aM) (K:KW) (p3 p4 p5:V) (vs:List V) (S:St) (again0:List V→St→Prop):Prop:=
pA vs fun x6 vs=>
pA vs fun x7 vs=>
pA vs fun x8 vs=>
pA vs fun x9 vs=>
qE 30 p3 2 26 S fun t16=>
qZ 26 t16 S fun t17=>
qB .lss 3 x9 t17 fun t18=>
aK t18 (qE 30 p3 2 26 S fun t20=>
qX 26 t20 x9 fun t21=>
qL 84 t21 S fun t22=>
qN S 12 [.str [],jI 0,jI 0,jI 0,jI 0,jI 0,jI 0,jI 0,.nils,.str [],jI 0,.bool false] fun r23=>
qS 84 (pt r23) t22 r23.2 fun S24=>
qE 84 (pt r23) 1 52 (up S24 14) fun t26=>
qL 52 p4 (up S24 14) fun t27=>
C 126 [t26] (up S24 14) fun t28 S29=>
qL 52 p4 S29 fun t30=>
uA (eJ t27 t30) (C 126 [t27] S29 fun t31 S32=>
qB .lss 3 t28 t31 fun t33=>
aK t33 (qB .add 3 x9 (jI 1) fun t34=>
again0 [x6,x7,x8,t34] S32) (qE 84 (pt r23) 1 52 S32 fun t36=>
qL 52 p5 S32 fun t37=>
C 126 [t36] S32 fun t38 S39=>
qL 52 p5 S39 fun t40=>
uA (eJ t37 t40) (C 126 [t37] S39 fun t41 S42=>
qB .gtr 3 t38 t41 fun t43=>
aK t43 (qB .add 3 x9 (jI 1) fun t44=>
again0 [x6,x7,x8,t44] S42) (fZ [x6,x7,x8,(jI 0)] S42 (aLr C K again0 p3 p4 p5 x9 (pt r23))))))) (K (.tup [x8,(jI 0)]) S)
def m41 (C:aM) (a0 a1 a2:V) (S:St) (K:KW):Prop:=
(qA a0 S fun r0=>
(qA a1 r0.2 fun r1=>
(qA a2 r1.2 fun r2=>
qL 30 (pt r0) r2.2 fun t3=>
C 38 [t3] r2.2 fun t4 S5=>
wR (unV .not t4) fun t6=>
aK t6 (K (.tup [(.nils),(jI 1)]) S5) (qL 52 (pt r1) S5 fun t7=>
C 118 [t7] S5 fun t8 S9=>
wR (unV .not t8) fun t10=>
aK t10 (K (.tup [(.nils),(jI 9)]) S9) (qL 52 (pt r2) S9 fun t11=>
C 118 [t11] S9 fun t12 S13=>
wR (unV .not t12) fun t14=>
aK t14 (K (.tup [(.nils),(jI 9)]) S13) (fZ [(.nils),(jI 0),(.nils),(jI 0)] S13 (aLs C K (pt r0) (pt r1) (pt r2))))))))
theorem bCp:(fun (C:aM) (a0 a1 a2:V) (S:St) (K:KW)=>dJ prog C aV9 aVa 41 [a0,a1,a2] S K)=fun C a0 a1 a2 S K=>m41 C a0 a1 a2 S K:=by kernel_rfl
theorem t41 (C:aM) (a0 a1 a2:V) (S:St) (K:KW):dJ prog C aV9 aVa 41 [a0,a1,a2] S K=m41 C a0 a1 a2 S K:=congrFun (congrFun (congrFun (congrFun (congrFun (congrFun bCp C) a0) a1) a2) S) K
theorem u41 {a0 a1 a2:V} {v:V} (hc:cloVs [a0,a1,a2]=true) (h:m41 C a0 a1 a2 ⟨0,.nil⟩ fun v0 S0=>iA S0 v0=.ok v):Fv 41 [a0,a1,a2] v:=Go.AM.Fn.of (p:=aV9) (lv:=aVa) (by kernel_rfl) hc (by rw [t41];exact h)
theorem bJ3 {α:Type} {enc:α→List V} {n b:Nat} (hl:∀ x,(enc x).length=n∧aI (enc x)=true) (l:List α) (x:α) {i:Nat} (hi:i≤l.length) {S:St} {k1 k2 m:Nat} (hne:k1≠k2) {u1 u2:V} (hu1:aP S u1=.ok ((l.take i).map enc)) (hu2:∀ Z:St,(∀ y,y≠k1→y≠k2→Z.heap.get y=S.heap.get y)→aP Z u2=.ok ((l.drop i).map enc)) (hk1:k1<S.next) (hm:S.next≤m) (hg:aA S k1 0=.ok (n,[])) (w:WF S) (hk2:k2<m) (h1:(l.length+1)*b≤35184372088832) (h2:l.length+1<dW) (f1 f2 f3:Option Nat):
  ∃ S1 S2 S3:St,dO n b (.sl k1 0 n 0 0) u1 f1 S=.ok (.sl k1 1 n 0 i,S1)∧S1.next=S.next∧dO n b (.sl k1 1 n 0 i) (.sl k2 0 n 0 1) f2 ⟨m,S1.heap.put k2 (.row 0 n [enc x])⟩=.ok (.sl k1 2 n 0 (i+1),S2) ∧
   dO n b (.sl k1 2 n 0 (i+1)) u2 f3 S2=.ok (.sl k1 3 n 0 (l.length+1),S3)∧S3.next=m∧WF S3∧S3.heap.get k1=some (.row 3 n ((dG l i x).map enc))∧(∀ y,y≠k1→S1.heap.get y=S.heap.get y)∧∀ y,y≠k1→y≠k2→S3.heap.get y=S.heap.get y:=by
 have lt:(l.take i).length=i:=by rw [List.length_take];omega
 have ld:(l.drop i).length=l.length - i:=List.length_drop
 have hb:∀ j,j≤l.length+1→j*b≤35184372088832:=fun j hj=>Nat.le_trans (Nat.mul_le_mul_right b hj) h1
 have q1:=aFs (b:=b) hl (l.take i) hu1 hg (hb _ (by omega)) (by omega) f1
 rw [lt] at q1
 have g2:aA ⟨m,(S.heap.put k1 (.row 1 n ((l.take i).map enc))).put k2 (.row 0 n [enc x])⟩ k1 1=.ok (n,(l.take i).map enc):=aG (S:=⟨S.next,S.heap.put k1 (.row 1 n ((l.take i).map enc))⟩) (aC _ _ _ _ _ _) (Tr.get_put_neB _ _ _ _ trivial hne)
 have g3:aA ⟨m,(S.heap.put k1 (.row 1 n ((l.take i).map enc))).put k2 (.row 0 n [enc x])⟩ k2 0=.ok (n,[enc x]):=aC _ _ _ _ _ _
 have q2:=aV4 (b:=b) hl (l.take i) x g2 g3 (hb _ (by omega)) (by omega) f2
 rw [lt] at q2
 obtain ⟨Z,hZ⟩:∃ Z:St,Z=⟨m,((S.heap.put k1 (.row 1 n ((l.take i).map enc))).put k2 (.row 0 n [enc x])).put k1 (.row 2 n ((l.take i++[x]).map enc))⟩:=⟨_,rfl⟩
 have g4:aA Z k1 2=.ok (n,(l.take i++[x]).map enc):=by rw [hZ];exact aC _ _ _ _ _ _
 have u3:aP Z u2=.ok ((l.drop i).map enc):=hu2 Z fun y y1 y2=>by
  rw [hZ]
  show (((S.heap.put k1 _).put k2 _).put k1 _).get y=_
  rw [Tr.get_put_neB _ _ _ _ trivial y1,Tr.get_put_neB _ _ _ _ trivial y2,Tr.get_put_neB _ _ _ _ trivial y1]
 have l1:(l.take i++[x]).length=i+1:=by rw [List.length_append,lt];rfl
 have q3:=aOc (b:=b) hl (l.take i++[x]) (l.drop i) u3 g4 (hb _ (by omega)) (by omega) f3
 rw [l1,ld] at q3
 have e:i+1+(l.length - i)=l.length+1:=by omega
 rw [e] at q3
 have ei:l.take i++[x]++l.drop i=dG l i x:=by simp [dG]
 rw [ei] at q3
 have zn:Z.next=m:=by rw [hZ]
 have wZ:WF Z:=by rw [hZ];exact eH (n:=m) (eH (n:=S.next) (eH (n:=S.next) w hk1 (Nat.le_refl _)) hk2 hm) (show k1<m by omega) (Nat.le_refl _)
 refine ⟨_,Z,_,q1,rfl,by rw [hZ];exact q2,q3,zn,eH (n:=Z.next) wZ (by omega) (Nat.le_refl _),Tr.get_put_sameB _ _ _ trivial,fun y hy=>Tr.get_put_neB _ _ _ _ trivial hy,fun y hy hy2=>?_⟩
 show (Z.heap.put k1 _).get y=_
 rw [Tr.get_put_neB _ _ _ _ trivial hy,hZ]
 show (((S.heap.put k1 _).put k2 _).put k1 _).get y=_
 rw [Tr.get_put_neB _ _ _ _ trivial hy,Tr.get_put_neB _ _ _ _ trivial hy2,Tr.get_put_neB _ _ _ _ trivial hy]
def LR (ps:List Nat) (X:St) (v:V) (l:List ARow):Prop:=(v=.nils∧l=[])∨∃ a ver,v=.sl a ver 4 0 l.length∧a ∉ ps∧X.heap.get a=some (.row ver 4 (l.map ARow.enc))
theorem LR.len {ps:List Nat} {X:St} {v:V} {l:List ARow} (h:LR ps X v l):lenW v=.ok (.int .i64 (l.length:Int)):=by
 rcases h with ⟨rfl,rfl⟩ | ⟨a,ver,rfl,_,_⟩<;>rfl
theorem LR.same {ps:List Nat} {X Y:St} {v:V} {l:List ARow} (h:LR ps X v l) (e:Y.heap=X.heap):LR ps Y v l:=by
 unfold LR at h ⊢;rw [e];exact h
theorem LR.new {ps:List Nat} {X Y:St} {v:V} {l:List ARow} (h:LR ps X v l) (w:WF X) {P:Nat} (hP:X.next≤P) (e:∀ y,y<X.next→Y.heap.get y=X.heap.get y):LR (P::ps) Y v l:=by
 rcases h with h | ⟨a,ver,rfl,ha,hg⟩
 ·exact .inl h
 ·have:=w _ _ hg
  exact .inr ⟨a,ver,rfl,by simp only [List.mem_cons,not_or];exact ⟨by omega,ha⟩,by rw [e a this];exact hg⟩
theorem LR.tail {P:Nat} {ps:List Nat} {X:St} {v:V} {l:List ARow} (h:LR (P::ps) X v l):LR ps X v l:=by
 rcases h with h | ⟨a,ver,rfl,ha,hg⟩
 ·exact .inl h
 ·exact .inr ⟨a,ver,rfl,fun h=>ha (List.mem_cons_of_mem _ h),hg⟩
theorem LR.at {ps:List Nat} {X:St} {v:V} {l:List ARow} (h:LR ps X v l) {i:Nat} {r:ARow} (hi:l[i]?=some r):∃ a ver,v=.sl a ver 4 0 l.length∧gV 4 v (.int .i64 (i:Int))=.ok (.ptr a ver i 0)∧∀ (Y:St) (j:Nat),Y.heap=X.heap→iJ none (.ptr a ver i j) Y=jM none r.enc j:=by
 rcases h with ⟨rfl,rfl⟩ | ⟨a,ver,rfl,ha,hg⟩
 ·cases hi
 ·have hl:=(List.getElem?_eq_some_iff.1 hi).1
  exact ⟨a,ver,rfl,aDv hl,fun Y j e=>aLo (by rw [e];exact hg) (by rw [List.getElem?_map,hi];rfl) none j⟩
theorem bBe:dY prog 71 .nils none (some (.int .i64 0))=.ok .nils∧dY prog 71 .nils (some (.int .i64 0)) none=.ok .nils:=⟨by kernel_rfl,by kernel_rfl⟩
theorem LR.ins {ps:List Nat} {Y:St} {v:V} {l:List ARow} (h:LR ps Y v l) (w:WF Y) {i:Nat} (hi:i≤l.length) (hl:l.length<1000000) (x:ARow):
  ∃ u1 u2 S1 S2 S3,dY prog 71 v none (some (.int .i64 (i:Int)))=.ok u1∧dY prog 71 v (some (.int .i64 (i:Int))) none=.ok u2∧dO 4 40 (.sl Y.next 0 4 0 0) u1 (some (Y.next+4)) ⟨Y.next+17,Y.heap.put Y.next (.row 0 4 [])⟩=.ok (.sl Y.next 1 4 0 i,S1)∧S1.next=Y.next+17 ∧
   dO 4 40 (.sl Y.next 1 4 0 i) (.sl (Y.next+10) 0 4 0 1) (some (Y.next+11)) ⟨S1.next,S1.heap.put (Y.next+10) (.row 0 4 [x.enc])⟩=.ok (.sl Y.next 2 4 0 (i+1),S2)∧dO 4 40 (.sl Y.next 2 4 0 (i+1)) u2 (some (Y.next+15)) S2=.ok (.sl Y.next 3 4 0 (l.length+1),S3) ∧
   WF S3∧S3.next=Y.next+17∧S3.heap.get Y.next=some (.row 3 4 ((dG l i x).map ARow.enc))∧(∀ y,y<Y.next→S1.heap.get y=Y.heap.get y)∧∀ y,y<Y.next→S3.heap.get y=Y.heap.get y:=by
 obtain ⟨Z,hZ⟩:∃ Z:St,Z=⟨Y.next+17,Y.heap.put Y.next (.row 0 4 [])⟩:=⟨_,rfl⟩
 have wZ:WF Z:=by rw [hZ];exact eH (n:=Y.next) w (by omega) (by omega)
 have gZ:aA Z Y.next 0=.ok (4,[]):=by rw [hZ];exact aC _ _ _ _ _ _
 have nZ:Z.next=Y.next+17:=by rw [hZ]
 have kZ:∀ y,y≠Y.next→Z.heap.get y=Y.heap.get y:=fun y hy=>by rw [hZ];exact Tr.get_put_neB _ _ _ _ trivial hy
 have key:∀ u1 u2:V,aP Z u1=.ok ((l.take i).map ARow.enc)→(∀ Z':St,(∀ y,y≠Y.next→y≠Y.next+10→Z'.heap.get y=Z.heap.get y)→aP Z' u2=.ok ((l.drop i).map ARow.enc))→_:=fun u1 u2 h1 h2=>
  bJ3 (b:=40) (enc:=ARow.enc) (n:=4) aUy l x hi (S:=Z) (k1:=Y.next) (k2:=Y.next+10) (m:=Z.next) (by omega) h1 h2 (by omega) (Nat.le_refl _) gZ wZ (by omega) (by omega) (by unfold dW;omega) (some (Y.next+4)) (some (Y.next+11)) (some (Y.next+15))
 rcases h with ⟨rfl,rfl⟩ | ⟨a,ver,rfl,ha,hg⟩
 ·have hi0:i=0:=by simpa using hi
  subst hi0
  obtain ⟨S1,S2,S3,q1,m1,q2,q3,n3,w3,g3,k1,k3⟩:=key .nils .nils rfl (fun _ _=>rfl)
  rw [hZ] at q1
  rw [←m1] at q2
  exact ⟨_,_,S1,S2,S3,bBe.1,bBe.2,q1,by omega,q2,q3,w3,by omega,g3,fun y hy=>by rw [k1 y (by omega),kZ y (by omega)],fun y hy=>by rw [k3 y (by omega) (by omega),kZ y (by omega)]⟩
 ·have ha':=w _ _ hg
  have gs:Z.heap.get a=some (.row ver 4 (l.map ARow.enc)):=by rw [kZ a (by omega)];exact hg
  have lm:(l.map ARow.enc).length=l.length:=List.length_map _
  obtain ⟨S1,S2,S3,q1,m1,q2,q3,n3,w3,g3,k1,k3⟩:=key (.sl a ver 4 0 i) (.sl a ver 4 i (l.length - i)) (by rw [aLp gs (by omega),List.map_take]) (fun Z' hz=>by
   have:=aV6 (X:=Z') (by rw [hz a (by omega) (by omega)];exact gs) (i:=i) (by omega)
   rw [lm] at this
   rw [this,List.map_drop])
  rw [hZ] at q1
  rw [←m1] at q2
  have b1:dM l.length none (some (.int .i64 (i:Int)))=.ok (0,i):=by
   have:(decide ((0:Int)≤(i:Int))&&decide ((i:Int)≤(l.length:Int)))=true:=by simp;omega
   simp only [dM,this,cond_true];rfl
  have b2:dM l.length (some (.int .i64 (i:Int))) none=.ok (i,l.length):=by
   simp only [dM];simp [hi]
  refine ⟨_,_,S1,S2,S3,by rw [aWr,b1],by rw [aWr,b2],by simpa using q1,by omega,q2,by simpa using q3,w3,by omega,g3,fun y hy=>by rw [k1 y (by omega),kZ y (by omega)],fun y hy=>by rw [k3 y (by omega) (by omega),kZ y (by omega)]⟩
section
section
variable {K:KW} {again0 again1:List V→St→Prop} {p3 p4 p5 p9 p10:V}
structure Out41 (K:KW) (again1:List V→St→Prop) (ps:List Nat) (B:St) (l:List ARow) (p:Part) (j:Nat):Prop where
 some:∀ l',jW l p=some l'→∀ v X,LR ps X v l'→(∀ y∈ps,X.heap.get y=B.heap.get y)→WF X→B.next≤X.next→again1 [.nils,.int .i64 0,v,.int .i64 ((j+1:Nat):Int)] X
 none:jW l p=none→∀ X,K (.tup [.nils,.int .i64 7]) X
theorem bBf {l:List ARow} {p:Part} {j:Nat} {ps:List Nat} {B Y:St} {a ver Q:Nat} (o:Out41 K again1 ps B l p j) (hj:j<1000000) (hY:Y.heap.get a=some (.row ver 4 ((dX l p).map ARow.enc))) (ha:a ∉ ps) (hQ:Q∈ps) (rQ:aA B Q 0=.ok (4,[p.enc]))
  (kp:∀ y∈ps,Y.heap.get y=B.heap.get y) (w:WF Y) (hn:B.next≤Y.next):aHk C K again0 again1 p3 p4 p5 .nils (.int .i64 0) (.sl a ver 4 0 (dX l p).length) p9 p10 (.int .i64 (j:Int)) (.ptr Q 0 0 0) (.int .i64 (aV l p:Int)) Y:=by
 obtain ⟨r,hr⟩:=aFo l p
 have hlt:=(List.getElem?_eq_some_iff.1 hr).1
 have hr':((dX l p).map ARow.enc)[aV l p]?=some r.enc:=by rw [List.getElem?_map,hr];rfl
 have hld:∀ m i,iJ none (.ptr a ver (aV l p) i) ⟨m,Y.heap⟩=jM none r.enc i:=fun m i=>aLo (X:=⟨m,Y.heap⟩) hY hr' none i
 have l2:=fun m=>hld m 2
 have l3:=fun m=>hld m 3
 simp only [kk,ARow.enc] at l2 l3
 have rQ':∀ m,aA ⟨m,Y.heap⟩ Q 0=.ok (4,[p.enc]):=fun m=>aG (S:=B) rQ (kp Q hQ)
 simp only [Part.enc] at rQ'
 have hen:jW l p=if (bF r.net p.net).2=0 then (if (bF r.tax p.tax).2=0 then some ((dX l p).set (aV l p) { r with net:=(bF r.net p.net).1,tax:=(bF r.tax p.tax).1 }) else none) else none:=by
  simp only [jW,hr]
 simp only [aHk,kk,aDv hlt,l2,l3,rQ',bC2,dA,Nat.zero_add]
 by_cases c1:(bF r.net p.net).2=0
 ·by_cases c2:(bF r.tax p.tax).2=0
  ·simp only [c1,c2,if_true] at hen
   simp only [c1,c2,kk,not_true_eq_false,if_false]
   obtain ⟨E1,hE1⟩:∃ E1,E1=((dX l p).set (aV l p) { r with net:=(bF r.net p.net).1 }):=⟨_,rfl⟩
   have s1:=aOb (X:=⟨Y.next+13+13,Y.heap⟩) (v:=.int .i64 (bF r.net p.net).1) (j:=2) hY hr' rfl rfl (by show 2+1≤4;decide)
   have e1:((dX l p).map ARow.enc).set (aV l p) (splice r.enc 2 [.int .i64 (bF r.net p.net).1])=E1.map ARow.enc:=by rw [hE1,List.map_set];rfl
   rw [e1] at s1
   have hE1r:E1[aV l p]?=some { r with net:=(bF r.net p.net).1 }:=by rw [hE1];exact List.getElem?_set_self hlt
   have hE1':(E1.map ARow.enc)[aV l p]?=some ({ r with net:=(bF r.net p.net).1 }:ARow).enc:=by rw [List.getElem?_map,hE1r];rfl
   have g1:(Y.heap.put a (.row ver 4 (E1.map ARow.enc))).get a=some (.row ver 4 (E1.map ARow.enc)):=Tr.get_put_sameB _ _ _ trivial
   have s2:=aOb (X:=⟨Y.next+13+13,Y.heap.put a (.row ver 4 (E1.map ARow.enc))⟩) (v:=.int .i64 (bF r.tax p.tax).1) (j:=3) g1 hE1' rfl rfl (by show 3+1≤4;decide)
   have e2:(E1.map ARow.enc).set (aV l p) (splice ({ r with net:=(bF r.net p.net).1 }:ARow).enc 3 [.int .i64 (bF r.tax p.tax).1])=((dX l p).set (aV l p) { r with net:=(bF r.net p.net).1,tax:=(bF r.tax p.tax).1 }).map ARow.enc:=by rw [hE1,List.map_set,List.set_set,List.map_set];rfl
   rw [e2] at s2
   simp only [s1,s2,kk,gC (show j<1000000000 by omega)]
   have hlen:((dX l p).set (aV l p) { r with net:=(bF r.net p.net).1,tax:=(bF r.tax p.tax).1 }).length=(dX l p).length:=List.length_set
   have haY:=w _ _ hY
   have fin:=o.some _ hen (.sl a ver 4 0 (dX l p).length) ⟨Y.next+13+13,(Y.heap.put a (.row ver 4 (E1.map ARow.enc))).put a (.row ver 4 (((dX l p).set (aV l p) { r with net:=(bF r.net p.net).1,tax:=(bF r.tax p.tax).1 }).map ARow.enc))⟩ (.inr ⟨a,ver,by rw [hlen],ha,Tr.get_put_sameB _ _ _ trivial⟩) (fun y hy=>by
    have:y≠a:=fun e=>ha (e▸hy)
    show ((Y.heap.put a _).put a _).get y=_
    rw [Tr.get_put_neB _ _ _ _ trivial this,Tr.get_put_neB _ _ _ _ trivial this];exact kp y hy) (eH (n:=Y.next) (eH (n:=Y.next) w (by omega) (Nat.le_refl _)) (by omega) (by omega)) (by show B.next≤Y.next+13+13;omega)
   exact fin
  ·simp only [c1,c2,if_true,if_false] at hen
   simp only [c1,c2,kk,not_true_eq_false,not_false_eq_true,if_true,if_false]
   exact o.none hen _
 ·simp only [c1,if_false] at hen
  simp only [c1,kk,not_false_eq_true,if_true]
  exact o.none hen _
theorem bJ4 {l:List ARow} {p:Part} {j:Nat} {ps:List Nat} {B Y:St} {v:V} {Q:Nat} (o:Out41 K again1 ps B l p j) (hj:j<1000000) (hl:l.length<1000000) (hv:LR ps Y v l) (hQ:Q∈ps) (rQ:aA B Q 0=.ok (4,[p.enc]))
  (kp:∀ y∈ps,Y.heap.get y=B.heap.get y) (hps:∀ y∈ps,y<B.next) (w:WF Y) (hn:B.next≤Y.next):aAa C K again0 again1 p3 p4 p5 .nils (.int .i64 0) v p9 p10 (.int .i64 (j:Int)) (.ptr Q 0 0 0) (.int .i64 (aV l p:Int)) (.bool (lX l p)) Y:=by
 have rQ':∀ m,aA ⟨m,Y.heap⟩ Q 0=.ok (4,[p.enc]):=fun m=>aG (S:=B) rQ (kp Q hQ)
 cases hm:lX l p
 ·have e:dX l p=l:=by unfold dX;rw [hm];rfl
  simp only [aAa,kk,Bool.false_eq_true,if_false]
  rcases hv with ⟨rfl,rfl⟩ | ⟨a,ver,rfl,ha,hg⟩
  ·have:lX [] p=true:=by unfold lX;simp
   rw [this] at hm;cases hm
  ·have:=bBf (again0:=again0) (p3:=p3) (p4:=p4) (p5:=p5) (p9:=p9) (p10:=p10) (a:=a) (ver:=ver) (Y:=Y) o hj (by rw [e];exact hg) ha hQ rQ kp w hn
   rw [e] at this
   exact this
 ·have e:dX l p=dG l (aV l p) ⟨p.cat,p.bp,0,0⟩:=by unfold dX;rw [hm];rfl
  obtain ⟨u1,u2,S1,S2,S3,h1,h2,q1,m1,q2,q3,w3,n3,g3,k1,k3⟩:=hv.ins w (mQ l p) hl ⟨p.cat,p.bp,0,0⟩
  have rQ1:aA S1 Q 0=.ok (4,[p.enc]):=aG (S:=B) rQ (by rw [k1 Q (by have:=hps Q hQ;omega)];exact kp Q hQ)
  have hrl:(dX l p).length=l.length+1:=by rw [e,iY _ _ _ (mQ l p)]
  have fin:=bBf (again0:=again0) (p3:=p3) (p4:=p4) (p5:=p5) (p9:=p9) (p10:=p10) (a:=Y.next) (ver:=3) (Y:=S3) o hj (by rw [e];exact g3) (fun h=>by have:=hps _ h;omega) hQ rQ (fun y hy=>by rw [k3 y (by have:=hps y hy;omega)];exact kp y hy) w3 (by omega)
  rw [hrl] at fin
  simp only [Part.enc] at rQ' rQ1
  simp only [ARow.enc] at q2
  simp only [aAa,kk,if_true,h1,h2,rQ',bs0,Nat.add_zero,q1,rQ1,aL6,q2,q3]
  exact fin
theorem bBg {l:List ARow} {p:Part} {j:Nat} {ps:List Nat} {B Y:St} {v:V} {Q:Nat} (o:Out41 K again1 ps B l p j) (hj:j<1000000) (hl:l.length<1000000) (hv:LR ps Y v l) (hQ:Q∈ps) (rQ:aA B Q 0=.ok (4,[p.enc]))
  (kp:∀ y∈ps,Y.heap.get y=B.heap.get y) (hps:∀ y∈ps,y<B.next) (w:WF Y) (hn:B.next≤Y.next):xD C K again0 again1 p3 p4 p5 .nils (.int .i64 0) v p9 p10 (.int .i64 (j:Int)) (.ptr Q 0 0 0) (.int .i64 (aV l p:Int)) Y:=by
 have rQ':∀ m,aA ⟨m,Y.heap⟩ Q 0=.ok (4,[p.enc]):=fun m=>aG (S:=B) rQ (kp Q hQ)
 have w':WF ⟨Y.next+24,Y.heap⟩:=fun a b h=>by have:=w a b h;show a<Y.next+24;omega
 have h2:=bJ4 (again0:=again0) (p3:=p3) (p4:=p4) (p5:=p5) (p9:=p9) (p10:=p10) (Y:=⟨Y.next+24,Y.heap⟩) o hj hl (hv.same rfl) hQ rQ kp hps w' (by show B.next≤Y.next+24;omega)
 have hple:=mQ l p
 simp only [Part.enc] at rQ'
 by_cases c:aV l p=l.length
 ·have hm:lX l p=true:=by unfold lX;rw [c,List.getElem?_eq_none (Nat.le_refl _)]
  rw [hm,c] at h2
  simp only [xD,kk,hv.len,c,if_true]
  exact h2
 ·have hlt:aV l p<l.length:=by omega
  obtain ⟨r,hr⟩:∃ r,l[aV l p]?=some r:=⟨_,List.getElem?_eq_getElem hlt⟩
  have hm:lX l p=if r.cat=p.cat then !decide (r.bp=p.bp) else true:=by unfold lX;rw [hr]
  obtain ⟨a,ver,hva,e4,hld⟩:=hv.at hr
  have l0:=hld ⟨Y.next+24,Y.heap⟩ 0 rfl
  have l1:=hld ⟨Y.next+24,Y.heap⟩ 1 rfl
  simp only [kk,ARow.enc] at l0 l1
  simp only [xD,kk,hv.len,show ¬ ((aV l p:Nat):Int)=(l.length:Int) by omega,if_false,e4,l0,l1,rQ']
  by_cases c2:r.cat=p.cat
  ·rw [if_pos c2] at hm
   rw [hm] at h2
   simp only [c2,kk,if_true,if_false,Bool.not_true,Bool.false_eq_true]
   simpa using h2
  ·rw [if_neg c2] at hm
   rw [hm] at h2
   have:(r.cat == p.cat)=false:=by simpa using c2
   simp only [this,kk,Bool.not_false,if_true]
   exact h2
end
end
section
section
variable {K:KW} {again0 again1:List V→St→Prop} {p3 p4 p5 p9 p10:V}
theorem bJ5 {l:List ARow} {p:Part} {j:Nat} {ps:List Nat} {B:St} {v:V} {Q:Nat} (o:Out41 K again1 ps B l p j) (hj:j<1000000) (hl:l.length<1000000) (hv:LR ps B v l) (hQ:Q∈ps) (rQ:aA B Q 0=.ok (4,[p.enc]))
  (hps:∀ y∈ps,y<B.next) (w:WF B):fZ [.int .i64 0] B (aHl C K again0 again1 p3 p4 p5 .nils (.int .i64 0) v p9 p10 (.int .i64 (j:Int)) (.ptr Q 0 0 0)):=by
 refine aF l (step:=dE (fun r=>lR r p)) (fin:=id) (fun i n vs X=>n=i∧vs=[.int .i64 (i:Int)]∧X.heap=B.heap∧B.next≤X.next) (fun n=>n=aV l p) ?_ ?_ (s:=0) ⟨rfl,rfl,rfl,Nat.le_refl _⟩ rfl
 ·rintro i r n vs X hi ⟨rfl,rfl,hh,hn⟩ aE H
  have hil:=(List.getElem?_eq_some_iff.1 hi).1
  have rX:∀ m,aA ⟨m,X.heap⟩ Q 0=.ok (4,[p.enc]):=fun m=>aG (S:=B) rQ (by rw [hh])
  obtain ⟨a,ver,hva,e4,hld⟩:=hv.at hi
  have l0:=hld ⟨X.next+34,X.heap⟩ 0 hh
  have l1:=hld ⟨X.next+34,X.heap⟩ 1 hh
  simp only [kk,ARow.enc] at l0 l1
  simp only [Part.enc] at rX
  have wX:WF ⟨X.next+34,X.heap⟩:=fun a b h=>by have:=w a b (by rw [←hh];exact h);show a<X.next+34;omega
  have fin:n=aV l p→xD C K again0 again1 p3 p4 p5 .nils (.int .i64 0) v p9 p10 (.int .i64 (j:Int)) (.ptr Q 0 0 0) (.int .i64 (n:Int)) ⟨X.next+34,X.heap⟩:=fun e=>by
   rw [e]
   exact bBg (Y:=⟨X.next+34,X.heap⟩) o hj hl (hv.same hh) hQ rQ (fun y _=>by show X.heap.get y=_;rw [hh]) hps wX (by show B.next≤X.next+34;omega)
  simp only [dE] at H
  simp only [aHl,kk,hv.len,aU hi,if_true,e4,l0,l1,rX,gC (show n<1000000000 by omega)]
  have yes:lR r p=true→aE [.int .i64 ((n+1:Nat):Int)] ⟨X.next+34,X.heap⟩:=fun e=>by
   simp only [e,if_true] at H
   exact H _ _ ⟨trivial,rfl,hh,by show B.next≤X.next+34;omega⟩
  have no:lR r p=false→n=aV l p:=fun e=>by simp only [e,Bool.false_eq_true,if_false] at H;exact H
  cases c1:fG r.cat p.cat
  ·by_cases c2:r.cat=p.cat
   ·have c2':(r.cat == p.cat)=true:=by simpa using c2
    simp only [c1,c2',kk,Bool.false_eq_true,if_false,if_true]
    by_cases c3:r.bp<p.bp
    ·simp only [c3,if_true]
     exact yes (by unfold lR;rw [c1,c2];simp [c3])
    ·simp only [c3,if_false]
     exact fin (no (by unfold lR;rw [c1,c2];simp [c3]))
   ·have c2':(r.cat == p.cat)=false:=by simpa using c2
    simp only [c1,c2',kk,Bool.false_eq_true,if_false]
    exact fin (no (by unfold lR;rw [c1];simp [c2]))
  ·simp only [c1,kk,if_true]
   exact yes (by unfold lR;rw [c1];rfl)
 ·rintro n vs X ⟨rfl,rfl,hh,hn⟩ aE H
  have H:l.length=aV l p:=H
  have wX:WF ⟨X.next+34,X.heap⟩:=fun a b h=>by have:=w a b (by rw [←hh];exact h);show a<X.next+34;omega
  simp only [aHl,kk,hv.len,Int.lt_irrefl,if_false]
  rw [H]
  exact bBg (Y:=⟨X.next+34,X.heap⟩) o hj hl (hv.same hh) hQ rQ (fun y _=>by show X.heap.get y=_;rw [hh]) hps wX (by show B.next≤X.next+34;omega)
end
theorem LR.frz {ps:List Nat} {X:St} {v:V} {l:List ARow} (h:LR ps X v l):cU mU (pX (lL X 3) X) v=.ok (.imm (l.map ARow.enc)):=by
 rcases h with ⟨rfl,rfl⟩ | ⟨a,ver,rfl,ha,hg⟩
 ·rfl
 ·have he:aP X (.sl a ver 4 0 l.length)=.ok (l.map ARow.enc):=by
   have:=aLp hg (i:=l.length) (by rw [List.length_map];omega)
   rw [this,List.take_of_length_le (by rw [List.length_map];omega)]
  simp only [cU,pX,he,(mX (S:=X) (n:=2) (cR (enc:=ARow.enc) (fun _=>rfl) l)).1]
theorem aB6 {a b:Date} (ha:a.right=true) (hb:b.right=true):a.before b=decide (a.days<b.days):=by unfold Date.before;rw [ha,hb];rfl
theorem g41 (s:State) (a b:Date) (hI:yX s) (hn:∀ x∈s.ser,eZ x.next) (hp:s.posted.length<1000000) (hq:∀ q∈s.posted,q.total.parts.length≤1000) (S:St) (K:KW):C 41 [.agg [.imm (s.table.map Rate.enc),.imm (s.ser.map Ser.enc),.imm (s.posted.map Posted.enc),.imm (s.book.map Bal.enc),.imm (s.sess.map Sess.enc),.int .i64 s.next],.agg [.int .i64 a.y,.int .i64 a.m,.int .i64 a.d],.agg [.int .i64 b.y,.int .i64 b.m,.int .i64 b.d]] S K=
  K (.tup [.imm ((bV s a b).1.map ARow.enc),.int .i64 (bV s a b).2]) S:=by
 refine (u41 rfl ?_).eq S K
 simp only [m41,kk,gH,g38 s hI hp hq,aQ5 hI hn,aL5]
 cases c1:bQ s
 ·simp only [c1,kk,Bool.not_false,oo,if_true,List.map_nil,bV]
 cases c2:a.right
 ·simp only [c1,c2,kk,gH,aL5,oo,Bool.not_true,Bool.not_false,if_true,Bool.true_eq_false,Bool.false_eq_true,if_false,List.map_nil,bV]
 cases c3:b.right
 ·simp only [c1,c2,c3,kk,gH,aL5,oo,Bool.not_true,Bool.not_false,if_true,Bool.true_eq_false,Bool.false_eq_true,if_false,List.map_nil,bV]
 simp only [c1,c2,c3,kk,gH,aL5,Bool.not_true,Bool.true_eq_false,Bool.false_eq_true,if_false]
 obtain ⟨h40,hok⟩:=kP (kY c1)
 have hrun:aD (oJ a b) (fun l=>(l,0)) s.posted []=bV s a b:=by
  rw [lJ]
  unfold bV
  rw [c1,c2,c3]
  simp only [Bool.true_eq_false,if_false]
  all_goals (cases gP (eM s.posted a b) []<;>rfl)
 obtain ⟨S0,hS0⟩:∃ S0:St,S0=⟨2+1,((Tr.nil.put 0 (.row 0 6 [s.enc])).put 1 (.row 0 3 [a.enc])).put 2 (.row 0 3 [b.enc])⟩:=⟨_,rfl⟩
 have w0:WF S0:=by rw [hS0];exact eH (n:=2) (eH (n:=1) (eH nL (by decide) (by decide)) (by decide) (by decide)) (by decide) (by decide)
 have n0:S0.next=3:=by rw [hS0]
 have rs:aA S0 0 0=.ok (6,[s.enc]):=by rw [hS0];rfl
 have ra:aA S0 1 0=.ok (3,[a.enc]):=by rw [hS0];rfl
 have rb:aA S0 2 0=.ok (3,[b.enc]):=by rw [hS0];rfl
 simp only [State.enc,Date.enc] at hS0 ra rb rs
 rw [←hS0]
 refine aF s.posted (step:=oJ a b) (fin:=fun l=>(l,0)) (fun i l vs X=>∃ v,vs=[.nils,.int .i64 0,v,.int .i64 (i:Int)]∧LR [0,1,2] X v l∧(∀ y∈[0,1,2],X.heap.get y=S0.heap.get y)∧WF X∧3≤X.next∧l.length≤12*i) (fun r=>r=bV s a b) ?_ ?_ (s:=[]) ⟨_,rfl,.inl ⟨rfl,rfl⟩,fun _ _=>rfl,w0,by omega,Nat.zero_le _⟩ hrun
 ·rintro i x l vs X hi ⟨v,rfl,hv,kp,w,hn3,hll⟩ aE H
  have hil:=(List.getElem?_eq_some_iff.1 hi).1
  have hxp:=gX (hok x (List.mem_of_getElem? hi)).2
  have hxr:=aHi c1 (List.mem_of_getElem? hi)
  have rsX:∀ m,aA ⟨m,X.heap⟩ 0 0=_:=fun m=>aG (S:=S0) rs (kp 0 (by simp))
  obtain ⟨X1,hX1⟩:∃ X1:St,X1=⟨X.next+1,(X.heap.put X.next (.row 0 12 [sD])).put X.next (.row 0 12 [x.enc])⟩:=⟨_,rfl⟩
  have k1:∀ y,y<X.next→X1.heap.get y=X.heap.get y:=fun y hy=>by
   rw [hX1]
   show ((X.heap.put X.next _).put X.next _).get y=_
   rw [Tr.get_put_neB _ _ _ _ trivial (by omega),Tr.get_put_neB _ _ _ _ trivial (by omega)]
  have w1:WF X1:=by rw [hX1];exact eH (n:=X.next+1) (eH (n:=X.next) w (by omega) (by omega)) (by omega) (Nat.le_refl _)
  have nX1:X1.next=X.next+1:=by rw [hX1]
  have rP:aA X1 X.next 0=.ok (12,[x.enc]):=by rw [hX1];exact aC _ _ _ _ _ _
  have hv1:LR [X.next,0,1,2] X1 v l:=hv.new w (Nat.le_refl _) k1
  have kp1:∀ y∈[X.next,0,1,2],X1.heap.get y=X1.heap.get y:=fun _ _=>rfl
  have ra1:∀ m,aA ⟨m,X1.heap⟩ 1 0=_:=fun m=>aG (S:=S0) ra (by show X1.heap.get 1=_;rw [k1 1 (by omega)];exact kp 1 (by simp))
  have rb1:∀ m,aA ⟨m,X1.heap⟩ 2 0=_:=fun m=>aG (S:=S0) rb (by show X1.heap.get 2=_;rw [k1 2 (by omega)];exact kp 2 (by simp))
  have rP1:∀ m,aA ⟨m,X1.heap⟩ X.next 0=.ok (12,[x.enc]):=fun m=>rP
  simp only [sD,Posted.enc] at hX1
  simp only [Posted.enc] at rP1 rP
  simp only [oJ,aB6 hxr c2,aB6 c3 hxr] at H
  simp only [aLs,kk,rsX,aU hi,if_true,fX hi,Posted.enc,←hX1,rP1,ra1,rb1,bC7,gC (show i<1000000000 by omega)]
  by_cases d1:x.day.days<a.days
  ·simp only [d1,decide_true,if_true] at H ⊢
   exact H _ _ ⟨v,rfl,(hv1.tail).same rfl,fun y hy=>by show X1.heap.get y=_;rw [k1 y (by simp at hy;omega)];exact kp y hy,fun y c h=>by have:=w1 y c h;show y<X1.next+14;omega,by show 3≤X1.next+14;omega,by omega⟩
  by_cases d2:b.days<x.day.days
  ·simp only [d1,d2,decide_true,decide_false,Bool.false_eq_true,if_true,if_false] at H ⊢
   exact H _ _ ⟨v,rfl,(hv1.tail).same rfl,fun y hy=>by show X1.heap.get y=_;rw [k1 y (by simp at hy;omega)];exact kp y hy,fun y c h=>by have:=w1 y c h;show y<X1.next+14;omega,by show 3≤X1.next+14;omega,by omega⟩
  simp only [d1,d2,decide_false,Bool.false_eq_true,if_false] at H ⊢
  refine aF x.total.parts (step:=rK) (fin:=some) (fun j l' vs X2=>∃ v',vs=[.nils,.int .i64 0,v',.int .i64 (j:Int)]∧LR [X.next,0,1,2] X2 v' l'∧(∀ y∈[X.next,0,1,2],X2.heap.get y=X1.heap.get y)∧WF X2∧X1.next≤X2.next∧l'.length≤12*i+j) (fun r=>r=gP x.total.parts l) ?_ ?_ (s:=l) ⟨v,rfl,hv1.same rfl,fun _ _=>rfl,fun y c h=>by have:=w1 y c h;show y<X1.next+14;omega,by show X1.next≤X1.next+14;omega,hll⟩ (aA9 _ _)
  ·rintro j p l' vs X2 hj ⟨v',rfl,hv2,kp2,w2,hn2,hl2⟩ again2 H2
   have hjl:=(List.getElem?_eq_some_iff.1 hj).1
   have rP2:∀ m,aA ⟨m,X2.heap⟩ X.next 0=_:=fun m=>aG (S:=X1) rP (kp2 X.next (by simp))
   obtain ⟨B,hB⟩:∃ B:St,B=⟨X2.next+1,(X2.heap.put X2.next (.row 0 4 [[.str [],.int .i64 0,.int .i64 0,.int .i64 0]])).put X2.next (.row 0 4 [p.enc])⟩:=⟨_,rfl⟩
   have kB:∀ y,y<X2.next→B.heap.get y=X2.heap.get y:=fun y hy=>by
    rw [hB]
    show ((X2.heap.put X2.next _).put X2.next _).get y=_
    rw [Tr.get_put_neB _ _ _ _ trivial (by omega),Tr.get_put_neB _ _ _ _ trivial (by omega)]
   have wB:WF B:=by rw [hB];exact eH (n:=X2.next+1) (eH (n:=X2.next) w2 (by omega) (by omega)) (by omega) (Nat.le_refl _)
   have nB:B.next=X2.next+1:=by rw [hB]
   have rQ:aA B X2.next 0=.ok (4,[p.enc]):=by rw [hB];exact aC _ _ _ _ _ _
   simp only [Part.enc] at hB
   simp only [aLr,kk,rP2,aU hj,if_true,gY hj,Part.enc,←hB]
   refine bJ5 (ps:=X2.next::[X.next,0,1,2]) (B:=B) (Q:=X2.next) ⟨fun l3 h3 v3 X3 hv3 kp3 w3 hn3'=>?_,fun h3 X3=>?_⟩ (by omega) (by omega) (hv2.new w2 (Nat.le_refl _) kB) (by simp) rQ (fun y hy=>by simp at hy;omega) wB
   ·simp only [rK,h3] at H2
    have:=wW h3
    exact H2 _ _ ⟨v3,rfl,hv3.tail,fun y hy=>by rw [kp3 y (List.mem_cons_of_mem _ hy),kB y (by simp at hy;omega)];exact kp2 y hy,w3,by omega,by omega⟩
   ·simp only [rK,h3] at H2
    have H2:none=gP x.total.parts l:=H2
    rw [←H2] at H
    have H:(([],7):List ARow×Int)=bV s a b:=H
    simp only [oo,←H,List.map_nil]
  ·rintro l' vs X2 ⟨v',rfl,hv2,kp2,w2,hn2,hl2⟩ again2 H2
   have H2:some l'=gP x.total.parts l:=H2
   rw [←H2] at H
   have rP2:∀ m,aA ⟨m,X2.heap⟩ X.next 0=_:=fun m=>aG (S:=X1) rP (kp2 X.next (by simp))
   simp only [aLr,kk,rP2,Int.lt_irrefl,if_false,gC (show i<1000000000 by omega)]
   exact H _ _ ⟨v',rfl,hv2.tail,fun y hy=>by rw [kp2 y (List.mem_cons_of_mem _ hy),k1 y (by simp at hy;omega)];exact kp y hy,w2,by omega,by omega⟩
 ·rintro l vs X ⟨v,rfl,hv,kp,w,hn3,hll⟩ aE H
  have H:(l,(0:Int))=bV s a b:=H
  have rsX:∀ m,aA ⟨m,X.heap⟩ 0 0=_:=fun m=>aG (S:=S0) rs (kp 0 (by simp))
  simp only [aLs,kk,rsX,Int.lt_irrefl,if_false,oo,←H,hv.frz]
end
theorem aVb:∀ (ps:List Part) (l l':List ARow),gP ps l=some l'→l'.length≤l.length+ps.length:=by
 intro ps
 induction ps with
 | nil=>intro l l' h;cases h;exact Nat.le_refl _
 | cons p ps ih=>
  intro l l' h
  simp only [gP] at h
  split at h
  ·rename_i l2 h2
   have:=wW h2
   have:=ih _ _ h
   simp only [List.length_cons];omega
  ·cases h
theorem aXl (a b:Date):∀ ps:List Posted,(∀ p∈ps,p.total.parts.length≤12)→(eM ps a b).length≤12*ps.length:=by
 intro ps
 induction ps with
 | nil=>intro _;exact Nat.le_refl _
 | cons p ps ih=>
  intro h
  have h5:=h p (List.mem_cons_self ..)
  have h6:=ih fun q hq=>h q (List.mem_cons_of_mem _ hq)
  rw [aQ2]
  simp only [List.length_append,List.length_cons]
  split<;>(try simp only [List.length_nil])<;>omega
theorem aXm {s:State} (a b:Date):(bV s a b).1.length<100000:=by
 by_cases c1:(bV s a b).2=0
 ·obtain ⟨rows,hr⟩:∃ rows,bV s a b=(rows,0):=⟨_,Prod.ext rfl c1⟩
  have h2:=aQ1 hr
  obtain ⟨h40',hok⟩:=kP (kY h2.1)
  have h3:=aVb _ _ _ h2.2.2.2
  have h5:=aXl a b s.posted fun p hp=>gX (hok p hp).2
  simp only [List.length_nil] at h3
  rw [hr]
  show rows.length<100000
  omega
 ·rw [aLm c1];decide
theorem bBh (rows:List ARow) {B:St} {F:List V→St→(List V→St→Prop)→Prop} (hb:rows.length<100000) (hs:∀ i r X,rows[i]?=some r→∀ aE:List V→St→Prop,(∀ X',aE [.bool false,.int .i64 ((i+1:Nat):Int)] X')→F [.bool false,.int .i64 (i:Int)] X aE)
  (he:∀ X aE,F [.bool false,.int .i64 (rows.length:Int)] X aE):fZ [.bool false,.int .i64 0] B F:=
 aF rows (step:=fun (_:Unit) (_:ARow)=>(.inr ():Unit⊕Unit)) (fin:=id) (fun i _ vs X=>vs=[.bool false,.int .i64 (i:Int)]) (fun _=>True)
  (fun i r _ vs X hi hv aE H=>by subst hv;exact hs i r X hi aE fun X'=>H _ _ rfl) (fun _ vs X hv aE _=>by subst hv;exact he X aE) (s:=()) rfl trivial
theorem g7 (l:List Call) (a b:Date) (ps:List Posted) (S:St) (K:KW):C 7 [.imm (l.map Call.enc),.agg [.int .i64 a.y,.int .i64 a.m,.int .i64 a.d],.agg [.int .i64 b.y,.int .i64 b.m,.int .i64 b.d],.imm (ps.map Posted.enc)] S K=K (.bool true) S:=by
 refine (v7 rfl ?_).eq S K
 have h30:=fun S K=>g30 l 50 (by decide) S K
 simp only [show ((50:Nat):Int)=50 from rfl] at h30
 obtain ⟨s,hs⟩:∃ s,s=(playM State.new (tF l 50)).1:=⟨_,rfl⟩
 have hb:Beh s:=by rw [hs];exact Beh.new.playM _
 have hr:=hb.right
 have rp:=oF hr
 have sm:SmlS s:=⟨by omega,by omega,by omega,fun q h=>by have:=rp.2.2.2.2.2.1 q h;omega,by omega,by omega⟩
 have h35:=fun S K=>a35 l 50 (by decide) S K
 simp only [←hs] at h35
 have h41:=fun S K=>g41 s a b hb.ints (aLq hr) (by omega) (fun q h=>by have:=rp.2.2.2.2.2.1 q h;omega) S K
 have h26:=fun S K=>g26 s (aQ4 hr).c S K
 obtain ⟨rows,hrows⟩:∃ rows,rows=(bV s a b).1:=⟨_,rfl⟩
 obtain ⟨why,hwhy⟩:∃ why,why=(bV s a b).2:=⟨_,rfl⟩
 have h40:=fun S K=>g40 s a b S K
 simp only [←hrows,←hwhy] at h40 h41
 have hrl:rows.length<100000:=by rw [hrows];exact aXm a b
 have same:aJj s s=true:=(aQa _ _).2 rfl
 delta Tryz.f7;simp only [↓cw,↓reduceIte,Nat.reduceLT,kk,gH,gm]
 obtain ⟨qs,hqs⟩:∃ qs,qs=ps.take 60:=⟨_,rfl⟩
 have hq60:qs.length≤60:=by rw [hqs,List.length_take];omega
 have h42:=fun S K=>g42 qs (by omega) S K
 have h43:=fun S K=>g43 qs (by omega) S K
 by_cases c:60<ps.length
 ·have c1:=bCm ps (k:=60) (by omega)
  simp only [show ((60:Nat):Int)=60 from rfl,←hqs] at c1
  simp only [↓cw,↓reduceIte,Nat.reduceLT,show (60:Int)<(ps.length:Int) by omega,if_true,c1,kk,gH,gm,g31,h30,h35,h26,h40,h41,h42,h43,not_true_eq_false,if_false,g22 s s sm,same,Bool.not_true,Bool.false_eq_true]
  refine bBh rows hrl (fun i r X hi aE H=>?_) fun X aE=>?_
  ·simp only [↓cw,↓reduceIte,Nat.reduceLT,kk,aU hi,if_true,aHj hi,ARow.enc,gC (show i<1000000000 by have:=(List.getElem?_eq_some_iff.1 hi).1;omega),decide_true,beq_self_eq_true,Bool.and_true,Bool.not_true,Bool.false_eq_true,if_false]
   exact H _
  ·simp only [↓cw,↓reduceIte,Nat.reduceLT,kk,Int.lt_irrefl,if_false,g44,oo]
 ·have e:ps=qs:=by rw [hqs,List.take_of_length_le (by omega)]
  simp only [e]
  simp only [↓cw,↓reduceIte,Nat.reduceLT,show ¬ (60:Int)<(qs.length:Int) by omega,kk,gH,gm,g31,h30,h35,h26,h40,h41,h42,h43,not_true_eq_false,if_false,g22 s s sm,same,Bool.not_true,Bool.false_eq_true]
  refine bBh rows hrl (fun i r X hi aE H=>?_) fun X aE=>?_
  ·simp only [↓cw,↓reduceIte,Nat.reduceLT,kk,aU hi,if_true,aHj hi,ARow.enc,gC (show i<1000000000 by have:=(List.getElem?_eq_some_iff.1 hi).1;omega),decide_true,beq_self_eq_true,Bool.and_true,Bool.not_true,Bool.false_eq_true,if_false]
   exact H _
  ·simp only [↓cw,↓reduceIte,Nat.reduceLT,kk,Int.lt_irrefl,if_false,g44,oo]
theorem c4:prog.cellsOf 4=1:=by kernel_rfl
theorem aXn {n:Nat} {xs:List V} (h:aJ prog n 4 xs):∃ b,xs=[.bool b]:=by
 cases n with
 | zero=>cases h
 | succ m=>
  simp only [aJ,Tryz.underlying4] at h
  exact h
theorem bP5:prog.cellsOf 145=4:=by kernel_rfl
theorem aXo {n:Nat} {xs:List V} (h:aJ prog n 145 xs):∃ d:Part,xs=d.enc:=by
 obtain ⟨m,hl,hf⟩:=iG Tryz.underlying145 h
 rw [bP5] at hl
 have h0:aJ prog m 9 ((xs.drop 0).take (prog.cellsOf 9)):=hf 0 _ rfl
 rw [c9] at h0
 obtain ⟨x0,e0⟩:=aA0 h0
 have q0:=cut xs 0 1
 rw [e0] at q0
 have h1:aJ prog m 3 ((xs.drop 1).take (prog.cellsOf 3)):=hf 1 _ rfl
 rw [c3] at h1
 obtain ⟨x1,e1⟩:=gK h1
 have q1:=cut xs 1 1
 rw [e1] at q1
 have h2:aJ prog m 3 ((xs.drop 2).take (prog.cellsOf 3)):=hf 2 _ rfl
 rw [c3] at h2
 obtain ⟨x2,e2⟩:=gK h2
 have q2:=cut xs 2 1
 rw [e2] at q2
 have h3:aJ prog m 3 ((xs.drop 3).take (prog.cellsOf 3)):=hf 3 _ rfl
 rw [c3] at h3
 obtain ⟨x3,e3⟩:=gK h3
 have q3:=cut xs 3 1
 rw [e3] at q3
 have hend:xs.drop 4=[]:=List.drop_eq_nil_of_le (by omega)
 have hx:xs=[.str x0]++([.int .i64 x1]++([.int .i64 x2]++([.int .i64 x3]++[]))):=by
  have z:xs=xs.drop 0:=rfl
  rw [z,q0,q1,q2,q3]
  show _=_
  rw [show (3+1:Nat)=4 from rfl,hend]
 rw [hx]
 exact ⟨⟨x0,x1,x2,x3⟩,rfl⟩
theorem c80:prog.cellsOf 80=1:=by kernel_rfl
theorem aVc {n:Nat} {xs:List V} (h:aJ prog n 80 xs):∃ l:List Part,xs=[.imm (l.map Part.enc)]:=by
 obtain ⟨m,es,h,hes⟩:=yU Tryz.underlying80 h
 obtain ⟨l,hl⟩:=tN (enc:=Part.enc) fun c hc=>aXo (hes c hc).2
 exact ⟨l,by rw [h,hl]⟩
theorem c82:prog.cellsOf 82=4:=by kernel_rfl
theorem aVd {n:Nat} {xs:List V} (h:aJ prog n 82 xs):∃ d:Total,xs=d.enc:=by
 obtain ⟨m,hl,hf⟩:=iG Tryz.underlying82 h
 rw [c82] at hl
 have h0:aJ prog m 3 ((xs.drop 0).take (prog.cellsOf 3)):=hf 0 _ rfl
 rw [c3] at h0
 obtain ⟨x0,e0⟩:=gK h0
 have q0:=cut xs 0 1
 rw [e0] at q0
 have h1:aJ prog m 3 ((xs.drop 1).take (prog.cellsOf 3)):=hf 1 _ rfl
 rw [c3] at h1
 obtain ⟨x1,e1⟩:=gK h1
 have q1:=cut xs 1 1
 rw [e1] at q1
 have h2:aJ prog m 3 ((xs.drop 2).take (prog.cellsOf 3)):=hf 2 _ rfl
 rw [c3] at h2
 obtain ⟨x2,e2⟩:=gK h2
 have q2:=cut xs 2 1
 rw [e2] at q2
 have h3:aJ prog m 80 ((xs.drop 3).take (prog.cellsOf 80)):=hf 3 _ rfl
 rw [c80] at h3
 obtain ⟨x3,e3⟩:=aVc h3
 have q3:=cut xs 3 1
 rw [e3] at q3
 have hend:xs.drop 4=[]:=List.drop_eq_nil_of_le (by omega)
 have hx:xs=[.int .i64 x0]++([.int .i64 x1]++([.int .i64 x2]++([.imm (x3.map Part.enc)]++[]))):=by
  have z:xs=xs.drop 0:=rfl
  rw [z,q0,q1,q2,q3]
  show _=_
  rw [show (3+1:Nat)=4 from rfl,hend]
 rw [hx]
 exact ⟨⟨x0,x1,x2,x3⟩,rfl⟩
theorem c84:prog.cellsOf 84=12:=by kernel_rfl
theorem aXp {n:Nat} {xs:List V} (h:aJ prog n 84 xs):∃ d:Posted,xs=d.enc:=by
 obtain ⟨m,hl,hf⟩:=iG Tryz.underlying84 h
 rw [c84] at hl
 have h0:aJ prog m 57 ((xs.drop 0).take (prog.cellsOf 57)):=hf 0 _ rfl
 rw [c57] at h0
 obtain ⟨x0,e0⟩:=aL8 h0
 have q0:=cut xs 0 2
 rw [e0] at q0
 have h1:aJ prog m 52 ((xs.drop 2).take (prog.cellsOf 52)):=hf 1 _ rfl
 rw [c52] at h1
 obtain ⟨x1,e1⟩:=yV h1
 have q1:=cut xs 2 3
 rw [e1] at q1
 have h2:aJ prog m 82 ((xs.drop 5).take (prog.cellsOf 82)):=hf 2 _ rfl
 rw [c82] at h2
 obtain ⟨x2,e2⟩:=aVd h2
 have q2:=cut xs 5 4
 rw [e2] at q2
 have h3:aJ prog m 57 ((xs.drop 9).take (prog.cellsOf 57)):=hf 3 _ rfl
 rw [c57] at h3
 obtain ⟨x3,e3⟩:=aL8 h3
 have q3:=cut xs 9 2
 rw [e3] at q3
 have h4:aJ prog m 4 ((xs.drop 11).take (prog.cellsOf 4)):=hf 4 _ rfl
 rw [c4] at h4
 obtain ⟨x4,e4⟩:=aXn h4
 have q4:=cut xs 11 1
 rw [e4] at q4
 have hend:xs.drop 12=[]:=List.drop_eq_nil_of_le (by omega)
 have hx:xs=x0.enc++(x1.enc++(x2.enc++(x3.enc++([.bool x4]++[])))):=by
  have z:xs=xs.drop 0:=rfl
  rw [z,q0,q1,q2,q3,q4]
  show _=_
  rw [show (11+1:Nat)=12 from rfl,hend]
 rw [hx]
 exact ⟨⟨x0,x1,x2,x3,x4⟩,rfl⟩
theorem aVe {n:Nat} {xs:List V} (h:aJ prog n 26 xs):∃ l:List Posted,xs=[.imm (l.map Posted.enc)]:=by
 obtain ⟨m,es,h,hes⟩:=yU Tryz.underlying26 h
 obtain ⟨l,hl⟩:=tN (enc:=Posted.enc) fun c hc=>aXp (hes c hc).2
 exact ⟨l,by rw [h,hl]⟩
end Go.Proofs.YtoaibmbldmckaaaGreat
end
