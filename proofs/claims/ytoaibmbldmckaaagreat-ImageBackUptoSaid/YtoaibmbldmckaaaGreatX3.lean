import Derived.ChangeArms
import Derived.ProofKit
import Derived.Test.YtoaibmbldmckaaaGreatX2
set_option linter.unusedSimpArgs false
set_option linter.unusedVariables false
set_option linter.unusedSectionVars false
set_option maxRecDepth 100000
section
namespace Go.Proofs.YtoaibmbldmckaaaGreat
open Go.AM Tryz
theorem bOr (n:Int) (S:St) (K:KW):C 286 [.int .i64 n] S K=K (.int .u64 (pR n)) S:=by
 refine (bO4 rfl ?_).eq S K
 delta Tryz.f286;simp only [↓cw,↓reduceIte,Nat.reduceLT,kk,unK,pR]
 split<;>rfl
theorem bOs (n:Int) (b:Bool) (S:St) (K:KW):C 287 [.int .u64 n,.bool b] S K=K (.tup [.int .i64 (aC8 n b).1,.bool (aC8 n b).2]) S:=by
 refine (bO5 rfl ?_).eq S K
 delta Tryz.f287;simp only [↓cw,↓reduceIte,Nat.reduceLT,kk,unK,oo,aC8]
 cases b<;>simp
theorem aYt (a b:Int) (S:St) (K:KW):C 203 [.int .i64 a,.int .i64 b] S K=K (fZ (dQ a b)) S:=by
 refine (bNc rfl ?_).eq S K
 delta Tryz.f203;simp only [↓cw,↓reduceIte,Nat.reduceLT,kk,oo,dQ,fZ]
 grind
theorem bEf (a b:Int) (S:St) (K:KW):C 219 [.int .i64 a,.int .i64 b] S K=K (fZ (kW a b)) S:=by
 refine (bNh rfl ?_).eq S K
 delta Tryz.f219;simp only [↓cw,↓reduceIte,Nat.reduceLT,kk,oo,kW,fZ]
 grind
theorem bOt:(fun (a b:Bool)=>bQ prog .neq 4 (.bool a) (.bool b))=fun a b=>.ok (.bool (!(a == b))):=by kernel_rfl
theorem bOu (a b:Bool):bQ prog .neq 4 (.bool a) (.bool b)=.ok (.bool (!(a == b))):=congrFun (congrFun bOt a) b
theorem bOv (a b:Int) (S:St) (K:KW):C 279 [.int .i64 a,.int .i64 b] S K=K (fZ (aMo a b)) S:=by
 refine (bO3 rfl ?_).eq S K
 delta Tryz.f279;simp only [↓cw,↓reduceIte,Nat.reduceLT,kk,bOr,bOs,bOu,oo,fZ,aMo]
 by_cases h:0<pR b
 ·have h0:pR b≠0:=by omega
  simp only [↓cw,↓reduceIte,Nat.reduceLT,h,h0,kk,ne_eq,not_false_eq_true]
  grind
 ·simp only [↓cw,↓reduceIte,Nat.reduceLT,h,kk]
  grind
theorem bOw (n bp:Int) (S:St) (K:KW):C 254 [.int .i64 n,.int .i64 bp,.int .i64 10000] S K=K (fZ (bG n bp)) S:=by
 refine (bNx rfl ?_).eq S K
 delta Tryz.f254;simp only [↓cw,↓reduceIte,Nat.reduceLT,kk,unK,oo,fZ,bEb,aDj,ne_eq,Int.reduceEq,not_false_eq_true]
 unfold bG
 simp only [pR]
 by_cases hn:n<0<;>simp only [↓cw,↓reduceIte,Nat.reduceLT,hn,kk,if_true,if_false,aDj]
 all_goals
  by_cases hp:wr .u64 bp=0
  ·simp only [↓cw,↓reduceIte,Nat.reduceLT,hp,kk,aDj]
   grind
  ·simp only [↓cw,↓reduceIte,Nat.reduceLT,hp,kk,aDj,ne_eq,not_false_eq_true]
   grind
theorem aYu (n bp:Int) (S:St) (K:KW):C 217 [.int .i64 n,.int .i64 bp] S K=K (fZ (bG n bp)) S:=by
 refine (bNf rfl ?_).eq S K
 delta Tryz.f217;simp only [↓cw,↓reduceIte,Nat.reduceLT,kk,bOw,fZ,oo]
theorem bEg:(fun (a b c:Int)=>qV Tryz.f255 [.int .u64 a,.int .u64 b,.int .u64 c])=fun a b c=>
  bif decide (0≤a)&&decide (0≤b)&&decide (0≤c)&&decide (c≤1) then .ok (.tup [.int .u64 ((a+b+c) % 18446744073709551616),.int .u64 ((a+b+c) / 18446744073709551616)]) else .error "Add64":=by kernel_rfl
theorem aP9 {a b c:Int} (ha:0≤a) (hb:0≤b) (hc:0≤c) (hc1:c≤1):qV Tryz.f255 [.int .u64 a,.int .u64 b,.int .u64 c]=.ok (.tup [.int .u64 ((a+b+c) % 18446744073709551616),.int .u64 ((a+b+c) / 18446744073709551616)]):=by
 refine (congrFun (congrFun (congrFun bEg a) b) c).trans ?_
 simp only [ha,hb,hc,hc1,decide_true,Bool.and_self,cond_true]
theorem aRh (P:Program) (t:TypeId) (a:Int):bQ P .shr t (.int .u64 a) (.int .u64 63)=.ok (.int .u64 (a.fdiv (2 ^ 63))):=rfl
theorem bOx (l:List Int) (hb:l.length<1000000) (S:St) (K:KW):C 218 [.imm (l.map cX)] S K=K (.tup [.int .i64 (cZ l).1,.bool (cZ l).2]) S:=by
 refine (bNg rfl ?_).eq S K
 delta Tryz.f218;simp only [↓cw,↓reduceIte,Nat.reduceLT,kk]
 refine aH l (step:=uR) (fin:=tN) (fun i st vs S=>vs=[.int .u64 st.1,.int .u64 st.2,.int .i64 (i:Int)]∧0≤st.1∧st.1<18446744073709551616∧0≤st.2∧st.2<18446744073709551616) (fun r=>V.tup [.int .i64 r.1,.bool r.2]=.tup [.int .i64 (cZ l).1,.bool (cZ l).2])
  ?_ ?_ (s:=(0,0)) ⟨rfl,by decide,by decide,by decide,by decide⟩ rfl
 ·rintro i n ⟨h,lo⟩ vs S hi ⟨rfl,r1,r2,r3,r4⟩ aD H
  have hr:=aRc n
  have hil:=(List.getElem?_eq_some_iff.1 hi).1
  simp only at r1 r2 r3 r4
  have hc1:(lo+wr .u64 n+0) / 18446744073709551616≤1:=by omega
  have hc0:0≤(lo+wr .u64 n+0) / 18446744073709551616:=by omega
  have hI:=H [.int .u64 ((h+(if n<0 then 18446744073709551615 else 0)+(lo+wr .u64 n+0) / 18446744073709551616) % 18446744073709551616),.int .u64 ((lo+wr .u64 n+0) % 18446744073709551616),.int .i64 ((i+1:Nat):Int)] S ⟨rfl,by simp only;omega,by simp only;omega,by simp only;omega,by simp only;omega⟩
  simp only [↓cw,↓reduceIte,Nat.reduceLT,kk,bO hi,bJq hi,cX,unK,bJl]
  by_cases hn:n<0
  ·simp only [↓cw,↓reduceIte,Nat.reduceLT,hn,kk,if_true,aP9 (c:=0) r3 hr.1 (by decide) (by decide),aP9 r1 (show (0:Int)≤18446744073709551615 by decide) hc0 hc1,jO (show i<1000000000 by omega)] at hI ⊢
   exact hI
  ·simp only [↓cw,↓reduceIte,Nat.reduceLT,hn,kk,if_false,aP9 (c:=0) r3 hr.1 (by decide) (by decide),aP9 r1 (show (0:Int)≤0 by decide) hc0 hc1,jO (show i<1000000000 by omega)] at hI ⊢
   exact hI
 ·rintro ⟨h,lo⟩ vs S ⟨rfl,r1,r2,r3,r4⟩ aD H
  simp only [↓cw,↓reduceIte,Nat.reduceLT,kk,Int.lt_irrefl,aRh,tN,oo] at H ⊢
  by_cases c:lo.fdiv (2 ^ 63)=0<;>simp only [↓cw,↓reduceIte,Nat.reduceLT,c,kk,if_true,if_false] at H ⊢<;>exact H
theorem bOy (r:Int) (S:St) (K:KW):C 225 [.int .i32 r] S K=K (.bool (yT r)) S:=by
 refine (bNk rfl ?_).eq S K
 delta Tryz.f225;simp only [↓cw,↓reduceIte,Nat.reduceLT,kk,yT]
 grind
theorem aYv (s:List UInt8) (a pos:Nat) (S:St) (hg:S.heap.get a=some (.iter s pos)) (hl:pos<s.length):
  yK (.ptr a 0 0 0) S=.ok (.tup [.bool true,.int .i64 pos,.int .i32 (Utf8.decode ⟨⟨s⟩⟩ pos).1],⟨S.next,S.heap.put a (.iter s (pos+(Utf8.decode ⟨⟨s⟩⟩ pos).2))⟩):=by
 have hb:Nat.blt pos s.length=true:=Nat.ble_eq_true_of_le hl
 have hs:s[pos]?=some s[pos]:=List.getElem?_eq_getElem hl
 simp only [yK,hg,hb,hs]
 split
 ·rename_i h
  rw [Go.AM.decode_ascii hs (by simpa using h)]
 ·rfl
theorem aK6 (s:List UInt8) (a pos:Nat) (S:St) (hg:S.heap.get a=some (.iter s pos)) (hl:s.length≤pos):yK (.ptr a 0 0 0) S=.ok (.tup [.bool false],S):=by
 have hb:Nat.blt pos s.length=false:=by
  cases h:Nat.blt pos s.length with
  | false=>rfl
  | true=>exact absurd (Nat.le_of_ble_eq_true h) (by omega)
 simp only [yK,hg,hb]
def IterAt (s:List UInt8) (i:Nat) (S:St):Prop:=∃ pos f,S.heap.get 0=some (.iter s pos)∧(oN s s.length 0).drop i=oN s f pos∧s.length≤f+pos
theorem IterAt.next {s:List UInt8} {i:Nat} {S:St} (h:IterAt s i S) {q r:Nat} (hi:(oN s s.length 0)[i]?=some (q,r)):∃ S',yK (.ptr 0 0 0 0) S=.ok (.tup [.bool true,.int .i64 q,.int .i32 r],S')∧IterAt s (i+1) S':=by
 obtain ⟨pos,f,hg,hd,hf⟩:=h
 have hd0:=congrArg (·[0]?) hd
 simp only [List.getElem?_drop,Nat.add_zero,hi] at hd0
 cases f with
 | zero=>simp [oN] at hd0
 | succ f=>
  have hl:pos<s.length:=by
   by_cases hl:pos<s.length
   ·exact hl
   ·simp [oN,hl] at hd0
  have hd2:oN s (f+1) pos=(pos,(Utf8.decode ⟨⟨s⟩⟩ pos).1)::oN s f (pos+(Utf8.decode ⟨⟨s⟩⟩ pos).2):=by simp only [oN,hl,if_true]
  rw [hd2] at hd0 hd
  simp only [List.getElem?_cons_zero,Option.some.injEq,Prod.mk.injEq] at hd0
  obtain ⟨rfl,rfl⟩:=hd0
  have hw:=aJz ⟨⟨s⟩⟩ q
  exact ⟨_,aYv s 0 q S hg hl,_,f,Tr.get_put_sameB _ _ _ trivial,by rw [←List.drop_drop,hd];rfl,by omega⟩
theorem IterAt.last {s:List UInt8} {S:St} (h:IterAt s (oN s s.length 0).length S):yK (.ptr 0 0 0 0) S=.ok (.tup [.bool false],S):=by
 obtain ⟨pos,f,hg,hd,hf⟩:=h
 rw [List.drop_length] at hd
 cases f with
 | zero=>exact aK6 s 0 pos S hg (by omega)
 | succ f=>
  by_cases hl:pos<s.length
  ·simp [oN,hl] at hd
  ·exact aK6 s 0 pos S hg (by omega)
theorem aK7 (s:List UInt8):aHr (.str s) none ⟨0,.nil⟩=.ok (.ptr 0 0 0 0,⟨1,Tr.nil.put 0 (.iter s 0)⟩)∧IterAt s 0 ⟨1,Tr.nil.put 0 (.iter s 0)⟩:=⟨rfl,0,s.length,Tr.get_put_sameB _ _ _ trivial,rfl,by omega⟩
theorem aVt (s:List UInt8) (S:St) (K:KW):C 165 [.str s] S K=K (.bool (dR s)) S:=by
 refine (bMt rfl ?_).eq S K
 delta Tryz.f165;simp only [↓cw,↓reduceIte,Nat.reduceLT,kk,(aK7 s).1,dR]
 by_cases h1:s.length<1
 ·rw [if_pos (by omega)];simp [h1]
 by_cases h2:24<s.length
 ·rw [if_neg (by omega),if_pos (by omega)];simp [h1,h2]
 rw [if_neg (by omega),if_neg (by omega)]
 simp only [↓cw,↓reduceIte,Nat.reduceLT,h1,h2,kk]
 refine aH (oN s s.length 0) (step:=yU) (fin:=fun _=>true) (fun i _ vs S=>vs=[.bool false]∧IterAt s i S) (fun r=>V.bool r=.bool (aE yU (fun _=>true) (oN s s.length 0) ())) ?_ ?_ (s:=()) ⟨rfl,(aK7 s).2⟩ rfl
 ·rintro i ⟨q,r⟩ _ vs S hi ⟨rfl,hI⟩ aD H
  obtain ⟨S',e,hI'⟩:=hI.next hi
  simp only [↓cw,↓reduceIte,Nat.reduceLT,kk,e,bOy]
  simp only [yU] at H
  have H1:=fun h:yT (r:Int)=true=>(by simpa only [h,if_true] using H:∀ vs' S',vs'=[.bool false]∧IterAt s (i+1) S'→aD vs' S') [.bool false] S' ⟨rfl,hI'⟩
  by_cases c1:yT (r:Int)=true
  ·simp only [c1,if_true];exact H1 c1
  ·simp only [c1,if_false] at H ⊢
   by_cases c2:q=0
   ·subst c2;simp at H ⊢;exact H
   ·have c2':¬ (q:Int)=0:=by omega
    simp only [c2,c2',if_false] at H ⊢
    by_cases c3:(48≤r∧r≤57)∨r=45∨r=95∨r=46
    ·simp only [c3,if_true] at H
     have h0:=H [.bool false] S' ⟨rfl,hI'⟩
     grind
    ·simp only [c3,if_false] at H
     grind
 ·rintro _ vs S ⟨rfl,hI⟩ aD H
  simp only [↓cw,↓reduceIte,Nat.reduceLT,kk,hI.last]
  exact H
theorem bJu (r:Rate) (S:St) (K:KW):C 163 [.agg [.str r.cat,.int .i64 r.day.y,.int .i64 r.day.m,.int .i64 r.day.d,.int .i64 r.bp]] S K=K (.int .i64 (wT r)) S:=by
 refine (bMr rfl ?_).eq S K
 delta Tryz.f163;simp only [↓cw,↓reduceIte,Nat.reduceLT,kk,aVt,aK5,wT]
 cases dR r.cat<;>cases r.day.right<;>simp
 grind
theorem bJv (a b:Rate) (S:St) (K:KW):C 164 [.agg [.str a.cat,.int .i64 a.day.y,.int .i64 a.day.m,.int .i64 a.day.d,.int .i64 a.bp],.agg [.str b.cat,.int .i64 b.day.y,.int .i64 b.day.m,.int .i64 b.day.d,.int .i64 b.bp]] S K=K (.bool (fR a b)) S:=by
 refine (bMs rfl ?_).eq S K
 delta Tryz.f164;simp only [↓cw,↓reduceIte,Nat.reduceLT,kk,aYs,eG,fR]
 cases fU a.cat b.cat<;>cases (a.cat == b.cat)<;>simp
theorem g85 (l:List Rate) (S:St) (K:KW):C 85 [.imm (l.map Rate.enc)] S K=K (.bool (gE l)) S:=by
 refine (v85 rfl ?_).eq S K
 delta Tryz.f85;simp only [↓cw,↓reduceIte,Nat.reduceLT,kk,gE]
 by_cases h:24<l.length
 ·rw [if_pos (by omega),if_pos h]
 have h':¬ (24:Int)<(l.length:Int):=by omega
 simp only [↓cw,↓reduceIte,Nat.reduceLT,h,h',kk]
 refine aH l (step:=jG) (fin:=fun _=>true) (fun i s vs S=>s=gF l i∧vs=[.bool false,.int .i64 (i:Int)]) (fun r=>V.bool r=.bool (aE jG (fun _=>true) l none)) ?_ ?_ ⟨rfl,rfl⟩ rfl
 ·rintro i r s vs S hi ⟨rfl,rfl⟩ aD H
  have hil:=(List.getElem?_eq_some_iff.1 hi).1
  have hn:gF l (i+1)=some r:=by simpa [gF] using hi
  simp only [hn] at H
  simp only [↓cw,↓reduceIte,Nat.reduceLT,kk,bO hi,xB hi,Rate.enc,bJu,jO (show i<1000000000 by omega),jG] at H ⊢
  by_cases c:wT r=0
  ·simp only [↓cw,↓reduceIte,Nat.reduceLT,c,kk,ne_eq,not_true_eq_false] at H ⊢
   cases i with
   | zero=>simp [gF] at H ⊢;exact H _ _ rfl
   | succ j=>
    have hj:l[j]?=some l[j]:=List.getElem?_eq_getElem (by omega)
    have hp:gF l (j+1)=some l[j]:=by simp [gF,hj]
    simp only [↓cw,↓reduceIte,Nat.reduceLT,hp,gt0,kk,wrm (show j+1<1000000000 by omega),xB hj,Rate.enc,bJv] at H ⊢
    cases ha:fR l[j] r<;>simp [ha] at H ⊢<;>first | exact H | exact H _ _ rfl
  ·simp [c] at H ⊢
   exact H
 ·rintro s vs S ⟨rfl,rfl⟩ aD H
  simp only [↓cw,↓reduceIte,Nat.reduceLT,kk,Int.lt_irrefl]
  exact H
end Go.Proofs.YtoaibmbldmckaaaGreat
end
section
namespace Go.AM
theorem Own.frz {S0 S:St} {n:Nat} {v:V} {es:List (List V)} (h:Own S0 S n v es) (hc:es.all cloVs=true):cF jL (jU (gO S 3) S) v=.ok (.imm es):=by
 rcases h.is with ⟨rfl,rfl⟩ | ⟨a,ver,tl,rfl,_,_,q⟩
 ·rfl
 ·have he:aM S (.sl a ver n 0 es.length)=.ok es:=h.sl.elems
  simp only [cF,jU,he,(gY (S:=S) (n:=2) hc).1]
theorem Own.ptrs {S0 S:St} {n:Nat} {v:V} {es:List (List V)} (h:Own S0 S n v es):nF v=[]:=by
 rcases h.is with ⟨rfl,rfl⟩ | ⟨a,ver,tl,rfl,_,_,q⟩<;>rfl
theorem aO {α:Type} {enc:α→List V} (h:∀ x,cloVs (enc x)=true) (l:List α):(l.map enc).all cloVs=true:=by
 rw [List.all_eq_true]
 intro y hy
 obtain ⟨x,_,rfl⟩:=List.mem_map.1 hy
 exact h x
theorem Sl.imm {n:Nat} {es:List (List V)} (S:St) (h:∀ cs,cs∈es→cs.length=n∧aF cs=true):Sl S n (.imm es) es:=⟨.inr (.inl rfl),h⟩
abbrev E0:St:=⟨0,.nil⟩
theorem pF:WF E0:=fun a b h=>by cases h
theorem aVu {α:Type} {enc:α→List V} {n b:Nat} (hl:∀ x,(enc x).length=n∧aF (enc x)=true) (l:List α) {S:St} (w:WF S) (h1:l.length*b≤35184372088832) (h2:l.length<eD):
  ∃ v S',fQ n b .nils (.imm (l.map enc)) none S=.ok (v,S')∧Ext S S'∧Own E0 S' n v (l.map enc):=by
 obtain ⟨v,S',q1,q2,q3⟩:=(Sl.imm (n:=n) (es:=l.map enc) S (fun cs hc=>by obtain ⟨x,_,rfl⟩:=List.mem_map.1 hc;exact hl x)).copy (b:=b) w (by rw [List.length_map];exact h1) (by rw [List.length_map];exact h2)
 exact ⟨v,S',q1,q2,q3.weaken (Nat.zero_le _)⟩
theorem aPa {α:Type} {enc:α→List V} {n b:Nat} (hl:∀ x,(enc x).length=n∧aF (enc x)=true) (l:List α) {S:St} (w:WF S) (h1:l.length*b≤35184372088832) (h2:l.length<eD):
  ∃ v S',fQ n b .nils (.imm (l.map enc)) none S=.ok (v,S')∧Ext S S'∧Own S S' n v (l.map enc):=
 (Sl.imm (n:=n) (es:=l.map enc) S (fun cs hc=>by obtain ⟨x,_,rfl⟩:=List.mem_map.1 hc;exact hl x)).copy (b:=b) w (by rw [List.length_map];exact h1) (by rw [List.length_map];exact h2)
theorem zG {S:St} (w:WF S):Ext E0 S:=⟨fun a b h=>(by cases h),Nat.zero_le _,fun _=>w⟩
theorem Pt.fn {l:V} {f:FuncId} (hl:nY l=true):Pt fun a=>[l,.func f [] [.ptr a 0 0 0]]:=Pt.next hl (Pt.func rfl)
end Go.AM
namespace Go.Proofs.YtoaibmbldmckaaaGreat
open Go.AM Tryz
set_option linter.unusedVariables false
set_option linter.unusedSimpArgs false
set_option maxRecDepth 100000
theorem bOz (fk:Nat) (ht:cG prog fk=some none) {n:Nat} {cap:List V} (hcap:cloVs cap=true) (p:Sess→Bool) (hf:∀ s:Sess,Fr fk (fun a=>[.agg s.enc,.ptr a 0 0 0]) n cap (.bool (p s)) cap) (l:List Sess) (hb:l.length<1000000):
  Fr 231 (fun a=>[.imm (l.map Sess.enc),.func fk [] [.ptr a 0 0 0]]) n cap (.int .i64 (ixM p l)) cap:=by
 refine FnR.of bFs (lv:=fB [(2,[4,8])]) (Pt.fn rfl) (by simp [hcap]) ?_ rfl (by simp [hcap])
 rw [bNp]
 delta Tryz.f231;simp only [↓cw,↓reduceIte,Nat.reduceLT,kk]
 refine aH l (step:=dO p) (fin:=fun _=>-1) (fun i k vs S=>k=i∧vs=[.int .i64 0,.int .i64 (i:Int)]∧S.heap.get 0=some (.row 0 n [cap])) (fun r=>r=ixM p l) ?_ ?_ ⟨rfl,rfl,Tr.get_put_sameB _ _ _ trivial⟩ rfl
 ·rintro i s k vs S hi ⟨rfl,rfl,hg⟩ aD H
  have hil:=(List.getElem?_eq_some_iff.1 hi).1
  have he:=(hf s).eq_same hg
  simp only [Sess.enc] at he
  simp only [↓cw,↓reduceIte,Nat.reduceLT,kk,bO hi,tW hi,Sess.enc,↓oM prog C ht,List.nil_append,List.cons_append,he,jO (show k<1000000000 by omega)]
  simp only [dO] at H
  cases hp:p s<;>simp only [↓cw,↓reduceIte,Nat.reduceLT,hp,kk] at H ⊢
  ·exact H _ _ ⟨rfl,hg⟩
  ·exact ⟨by rw [H],hg⟩
 ·rintro k vs S ⟨rfl,rfl,hg⟩ aD H
  simp only [↓cw,↓reduceIte,Nat.reduceLT,kk,Int.lt_irrefl]
  exact ⟨by rw [H],hg⟩
theorem bJw {f:FuncId} {args:List V} {S:St} {v:V} (h:C f args S fun v' S'=>v'=v∧S'=S) (K:KW):C f args S K=K v S:=by
 obtain ⟨v',S',ev,rfl,rfl⟩:=h
 exact aEx ev K
theorem bJx (fk:Nat) (ht:cG prog fk=some none) {n:Nat} {cap:List V} (p:Ser→Bool) (hf:∀ s:Ser,Fr fk (fun a=>[.agg s.enc,.ptr a 0 0 0]) n cap (.bool (p s)) cap) (l:List Ser) (hb:l.length<1000000) {S:St} {a:Nat} (hg:S.heap.get a=some (.row 0 n [cap])):
  ∀ K:KW,C 152 [.imm (l.map Ser.enc),.func fk [] [.ptr a 0 0 0]] S K=K (.int .i64 (ixM p l)) S:=by
 refine bJw (bFl ?_)
 delta Tryz.f152;simp only [↓cw,↓reduceIte,Nat.reduceLT,kk]
 refine aH l (step:=dO p) (fin:=fun _=>-1) (fun i k vs X=>k=i∧vs=[.int .i64 0,.int .i64 (i:Int)]∧X=S) (fun r=>r=ixM p l) ?_ ?_ ⟨rfl,rfl,rfl⟩ rfl
 ·rintro i s k vs X hi ⟨rfl,rfl,rfl⟩ aD H
  have hil:=(List.getElem?_eq_some_iff.1 hi).1
  have he:=(hf s).eq_same hg
  simp only [Ser.enc] at he
  simp only [↓cw,↓reduceIte,Nat.reduceLT,kk,bO hi,tV hi,Ser.enc,↓oM prog C ht,List.nil_append,List.cons_append,he,jO (show k<1000000000 by omega)]
  simp only [dO] at H
  cases hp:p s<;>simp only [↓cw,↓reduceIte,Nat.reduceLT,hp,kk] at H ⊢
  ·exact H _ _ ⟨rfl,rfl⟩
  ·rw [H]
 ·rintro k vs X ⟨rfl,rfl,rfl⟩ aD H
  simp only [↓cw,↓reduceIte,Nat.reduceLT,kk,Int.lt_irrefl]
  rw [H]
theorem bJy:cG prog 232=some none:=by kernel_rfl
theorem bP0 (id:Int) (s:Sess):Fr 232 (fun a=>[.agg s.enc,.ptr a 0 0 0]) 1 [.int .i64 id] (.bool (decide (s.id=id))) [.int .i64 id]:=by
 refine FnR.of bFt (lv:=fB []) (Pt.next rfl (Pt.head rfl)) rfl ?_ rfl rfl
 rw [bNq]
 delta Tryz.f232;simp only [↓cw,↓reduceIte,Nat.reduceLT,kk,Sess.enc,eG]
 rfl
theorem f174 (l:List Sess) (id:Int) (hb:l.length<1000000):Fv 174 [.imm (l.map Sess.enc),.int .i64 id] (.int .i64 (hJ l id)):=by
 refine bN1 rfl ?_
 have h:=(bOz 232 bJy rfl _ (bP0 id) l hb).eq_same (S:=⟨1,Tr.nil.put 0 (.row 0 1 [[.int .i64 id]])⟩) (a:=0) (Tr.get_put_sameB _ _ _ trivial)
 delta Tryz.f174;simp only [↓cw,↓reduceIte,Nat.reduceLT,kk,h,hJ]
theorem bEh (l:List Sess) (id:Int) (hb:l.length<1000000) (S:St) (K:KW):C 174 [.imm (l.map Sess.enc),.int .i64 id] S K=K (.int .i64 (hJ l id)) S:=(f174 l id hb).eq S K
theorem aYw (l:List Sess) (S:St) (K:KW):C 166 [.imm (l.map Sess.enc)] S K=K (.bool (gH l)) S:=by
 refine (bMu rfl ?_).eq S K
 delta Tryz.f166;simp only [↓cw,↓reduceIte,Nat.reduceLT,kk,gH]
 by_cases h:8<l.length
 ·rw [if_pos (by omega),if_pos h]
 have h':¬ (8:Int)<(l.length:Int):=by omega
 simp only [↓cw,↓reduceIte,Nat.reduceLT,h,h',kk]
 refine aH l (step:=kC) (fin:=fun _=>true) (fun i s vs S=>vs=[.bool false,.int .i64 s,.int .i64 (i:Int)]) (fun r=>V.bool r=.bool (aE kC (fun _=>true) l 0)) ?_ ?_ rfl rfl
 ·rintro i s last vs S hi rfl aD H
  have hil:=(List.getElem?_eq_some_iff.1 hi).1
  have hn:((s.reply=Rep.zero):Prop)=((s.reply.why=0∧s.reply.number=0)∧s.reply.gross=0):=by
   obtain ⟨_,_,⟨_,_,_⟩⟩:=s;simp [Rep.zero,and_assoc]
  simp only [↓cw,↓reduceIte,Nat.reduceLT,kC,hn,kk] at H
  simp only [↓cw,↓reduceIte,Nat.reduceLT,kk,bO hi,tW hi,Sess.enc,jO (show i<1000000000 by omega)]
  grind
 ·rintro s vs S rfl aD H
  simp only [↓cw,↓reduceIte,Nat.reduceLT,kk,Int.lt_irrefl]
  exact H
end Go.Proofs.YtoaibmbldmckaaaGreat
end
section
namespace Go.AM
theorem bsl (n:Nat) (z:List V) (parts:List (Nat×V)) (fr:Option Nat) (S:St) (hn:n≤1000):cH n z 1 parts fr S=(match zS n [z] parts with
  | .error e=>.error e
  | .ok elems=>match bB fr S (.row 0 n elems) with
   | .error e=>.error e
   | .ok (a,S')=>.ok (.sl a 0 n 0 1,S')):=by
 unfold cH
 rw [if_pos (by omega)]
 rfl
theorem aDr (z:List V) (parts:List (Nat×V)) (fr:Option Nat) (S:St):type_of% (bsl 1 z parts fr S (by decide)):=bsl 1 z parts fr S (by decide)
theorem bJz (z:List V) (parts:List (Nat×V)) (fr:Option Nat) (S:St):type_of% (bsl 2 z parts fr S (by decide)):=bsl 2 z parts fr S (by decide)
theorem aVv (z:List V) (parts:List (Nat×V)) (fr:Option Nat) (S:St):type_of% (bsl 4 z parts fr S (by decide)):=bsl 4 z parts fr S (by decide)
theorem aVw (z:List V) (parts:List (Nat×V)) (fr:Option Nat) (S:St):type_of% (bsl 5 z parts fr S (by decide)):=bsl 5 z parts fr S (by decide)
theorem bK0 (z:List V) (parts:List (Nat×V)) (fr:Option Nat) (S:St):type_of% (bsl 12 z parts fr S (by decide)):=bsl 12 z parts fr S (by decide)
theorem jN {n m k:Nat} {h:Tr Blk} {b:Blk} (w:WF ⟨n,h⟩) (h1:k<m) (h2:n≤m):WF ⟨m,h.put k b⟩:=by
 intro a c hc
 have hc':(h.put k b).get a=some c:=hc
 rw [Tr.get_putB _ _ _ _ trivial] at hc'
 split at hc'
 ·show a<m;omega
 ·have:=w a c hc';show a<m;have:a<n:=this;omega
theorem WF.bump {S:St} (w:WF S) (c:Nat):WF ⟨S.next+c,S.heap⟩:=fun a b h=>Nat.lt_of_lt_of_le (w a b h) (Nat.le_add_right _ _)
theorem zH {S:St} {a ver n:Nat} {el:List (List V)} (h:aC S a ver=.ok (n,el)):S.heap.get a=some (.row ver n el):=by
 unfold aC at h
 split at h
 ·rename_i v es els he
  rw [cond_eq_ite] at h
  split at h
  ·rename_i hv
   have:=Nat.eq_of_beq_eq_true hv
   cases h
   rw [he,this]
  ·cases h
 ·cases h
theorem aY {S S':St} {a ver n:Nat} {el:List (List V)} (hg:aC S a ver=.ok (n,el)) (h:S'.heap.get a=S.heap.get a):aC S' a ver=.ok (n,el):=by
 rw [←hg];unfold aC;rw [h]
theorem bDe {P:Program} {T:TypeId} {n b:Nat} (hT:apT P T=some (n,b)) (hn:1<n) {S:St} {v:V} {es:List (List V)} (h:Own E0 S n v es) (w:WF S) {c:List V} (hc:c.length=n∧aF c=true) (h1:(es.length+1)*b≤35184372088832) (h2:es.length+1<eD) {i:Nat} (hi:i≤es.length):
  ∃ v' S',iA P T v (.int .i64 (i:Int)) (.sl S.next 0 n 0 1) ⟨S.next+1,S.heap.put S.next (.row 0 n [c])⟩=.ok (v',S')∧WF S'∧Own E0 S' n v' (es.take i++c::es.drop i)∧∀ y,y<S.next→(∀ a ver m,v=.sl a ver n 0 m→y≠a)→S'.heap.get y=S.heap.get y:=by
 have x:Ext S ⟨S.next+1,S.heap.put S.next (.row 0 n [c])⟩:=Ext.new w _
 obtain ⟨v',S',q1,q2,q3,q4⟩:=(h.ext x).insertK hT hn (zG (x.wf w)) pF (bx:=S.next) (c:=c) (aA _ _ _ _ _ _) (fun a ver m hv=>by
  rcases h.is with ⟨rfl,_⟩ | ⟨a',ver',tl,rfl,_,hlt,_⟩
  ·cases hv
  ·cases hv;omega) hc h1 h2 hi
 refine ⟨v',S',q1,q2.wf pF,q3,fun y hy hya=>?_⟩
 rw [q4 y (by show y<S.next+1;omega) hya]
 exact Tr.get_put_neB _ _ _ _ trivial (by omega)
theorem bK1 {P:Program} {T:TypeId} {n b:Nat} (hT:apT P T=some (n,b)) (hn:1<n) {S:St} {v:V} {es:List (List V)} (h:Own E0 S n v es) (w:WF S) {c:List V} (hc:c.length=n∧aF c=true) (h1:(es.length+1)*b≤35184372088832) (h2:es.length+1<eD) {i:Nat} (hi:i≤es.length):
  ∃ v' S',iA P T v (.int .i64 (i:Int)) (.sl S.next 0 n 0 1) ⟨S.next+1,S.heap.put S.next (.row 0 n [c])⟩=.ok (v',S')∧WF S'∧Own E0 S' n v' (es.take i++c::es.drop i):=by
 obtain ⟨v',S',q1,q2,q3,_⟩:=bDe hT hn h w hc h1 h2 hi
 exact ⟨v',S',q1,q2,q3⟩
end Go.AM
namespace Go.Proofs.YtoaibmbldmckaaaGreat
open Go.AM Tryz
set_option linter.unusedVariables false
set_option linter.unusedSimpArgs false
set_option maxRecDepth 100000
theorem aVx {f:FuncId} {T:TypeId} (hpl:nK f=some (.spec ((Sp.ins T).run prog))) {s i x v:V} {S S':St} (h:iA prog T s i x S=.ok (v,S')) (K:KW):C f [s,i,x] S K=K v S':=aLy hpl (args:=[s,i,x]) (show (Sp.ins T).run prog [s,i,x] S=.ok (v,S') from h) K
theorem bP1 {f:FuncId} {T:TypeId} (hpl:nK f=some (.spec ((Sp.del T).run prog))) {s i x v:V} {S S':St} (h:qU prog T s i x S=.ok (v,S')) (K:KW):C f [s,i,x] S K=K v S':=aLy hpl (args:=[s,i,x]) (show (Sp.del T).run prog [s,i,x] S=.ok (v,S') from h) K
theorem bP2:apT prog 28=some (5,40):=by kernel_rfl
theorem bP3:apT prog 25=some (4,40):=by kernel_rfl
theorem bK2:nK 230=some (.spec ((Sp.ins 28).run prog)):=by kernel_rfl
theorem bK3:nK 234=some (.spec ((Sp.ins 25).run prog)):=by kernel_rfl
theorem bK4:nK 240=some (.spec ((Sp.del 28).run prog)):=by kernel_rfl
theorem sess5 (x:Sess):x.enc.length=5∧aF x.enc=true:=⟨rfl,rfl⟩
theorem ser4 (x:Ser):x.enc.length=4∧aF x.enc=true:=⟨rfl,rfl⟩
theorem bK5 (l:List Sess) (id seq:Int) (S:St) (K:KW):C 105 [.imm (l.map Sess.enc),.int .i64 id,.int .i64 seq] S K=K (.tup [.agg [.int .i64 (cD l id seq).1.why,.int .i64 (cD l id seq).1.number,.int .i64 (cD l id seq).1.gross],.bool (cD l id seq).2.1,.int .i64 (cD l id seq).2.2]) S:=by
 refine (bMd rfl ?_).eq S K
 delta Tryz.f105;simp only [↓cw,↓reduceIte,Nat.reduceLT,kk,aYw]
 by_cases hr:gH l=true
 ·have hb:=mU hr
  simp only [↓cw,↓reduceIte,Nat.reduceLT,hr,kk,bEh l id (show l.length<1000000 by omega),cD,Bool.true_eq_false,if_false]
  rcases kE l id with h | ⟨i,s,h,h2,h3⟩
  ·simp only [↓cw,↓reduceIte,Nat.reduceLT,h,show (-1:Int)<0 by decide,kk,oo,Rep.zero,if_true]
  ·simp only [↓cw,↓reduceIte,Nat.reduceLT,h,show ¬ (i:Int)<0 by omega,kk,if_false,tW h2,Sess.enc,Int.toNat_natCast,h2]
   by_cases c1:seq<1
   ·simp only [↓cw,↓reduceIte,Nat.reduceLT,c1,kk,oo,Rep.zero,true_or,if_true]
   ·by_cases c2:1099511627776<seq
    ·simp only [↓cw,↓reduceIte,Nat.reduceLT,c1,c2,kk,oo,Rep.zero,or_true,if_true,if_false,decide_true]
    ·simp only [↓cw,↓reduceIte,Nat.reduceLT,c1,c2,kk,oo,or_self,if_false,decide_false]
     by_cases c3:seq=s.last
     ·simp only [↓cw,↓reduceIte,Nat.reduceLT,c3,kk,oo,if_true]
     ·by_cases c4:seq<s.last<;>simp only [↓cw,↓reduceIte,Nat.reduceLT,c3,c4,kk,oo,Rep.zero,if_true,if_false]
 ·have hr:gH l=false:=by simpa using hr
  simp only [↓cw,↓reduceIte,Nat.reduceLT,hr,kk,oo,cD,Rep.zero,if_true]
theorem bK6 (l:List Sess) (n:Int) (S:St) (K:KW):C 173 [.imm (l.map Sess.enc),.int .i64 n] S K=K (.tup [.imm ((mF l n).1.map Sess.enc),.int .i64 (mF l n).2]) S:=by
 refine (bOa rfl ?_).eq S K
 simp only [aYg,aI2,kk,aYw]
 by_cases hr:gH l=true
 ·have hb:=mU hr
  simp only [hr,kk,bEh l n (show l.length<1000000 by omega),mF,Bool.true_eq_false,false_or]
  by_cases c1:n<1
  ·simp only [c1,kk,oo,if_true,List.map_nil]
  ·simp only [c1,kk,if_false]
   by_cases c2:0≤hJ l n
   ·simp only [c2,kk,oo,if_true,List.map_nil]
   ·by_cases c3:8≤l.length
    ·simp only [c2,c3,show (8:Int)≤(l.length:Int) by omega,kk,oo,if_true,if_false,List.map_nil]
    ·simp only [c2,c3,show ¬ (8:Int)≤(l.length:Int) by omega,kk,if_false]
     have hj:∀ k:Nat,k=nL (fun s:Sess=>decide (s.id<n)) l→aC4 C (fun v0 S0=>lS S0 v0=Except.ok (.tup [.imm ((fL l (nL (fun s:Sess=>decide (s.id<n)) l) ⟨n,0,Rep.zero⟩).map Sess.enc),.int .i64 0])) (.imm (l.map Sess.enc)) (.int .i64 n) (.int .i64 (k:Int)) ⟨0,.nil⟩:=by
      intro k hk
      obtain ⟨v,S1,q1,x1,own⟩:=aVu (b:=40) sess5 l pF (by omega) (by unfold eD;omega)
      have w1:=x1.wf pF
      have hkl:k≤l.length:=by rw [hk];exact aC9 _ _
      obtain ⟨v2,S2,q2,w2,own2⟩:=bK1 bP2 (by decide) own w1 (sess5 ⟨n,0,Rep.zero⟩) (by simp;omega) (by simp [eD];omega) (i:=k) (by simpa using hkl)
      simp only [Sess.enc,Rep.zero] at q2
      simp only [aC4,kk,q1,aVw]
      rw [aVx bK2 q2]
      rw [←pS] at own2
      simp only [oo,own2.frz (aO (fun _=>rfl) _),hk]
     refine aH l (step:=fS (fun s:Sess=>decide (s.id<n))) (fin:=id) (fun i k vs S=>k=i∧vs=[.int .i64 (i:Int)]∧S=⟨0,.nil⟩) (fun r=>r=nL (fun s:Sess=>decide (s.id<n)) l) ?_ ?_ ⟨rfl,rfl,rfl⟩ rfl
     ·rintro i s k vs S hi ⟨rfl,rfl,rfl⟩ aD H
      have hil:=(List.getElem?_eq_some_iff.1 hi).1
      simp only [fS] at H
      simp only [aI1,kk,bO hi,tW hi,Sess.enc,jO (show k<1000000000 by omega)]
      by_cases c:s.id<n<;>simp only [c,kk,if_true,if_false,decide_true,decide_false] at H ⊢
      ·exact H _ _ ⟨rfl,rfl⟩
      ·exact hj _ H
     ·rintro k vs S ⟨rfl,rfl,rfl⟩ aD H
      simp only [aI1,kk,Int.lt_irrefl]
      exact hj _ (by simpa using H)
 ·have hr:gH l=false:=by simpa using hr
  simp only [hr,kk,oo,mF,true_or,if_true,List.map_nil]
theorem bP4:jS prog 28=some 132:=by kernel_rfl
theorem bK7:uH prog 132=some [.int .i64 0,.int .i64 0,.int .i64 0,.int .i64 0,.int .i64 0]:=by kernel_rfl
theorem bK8:sz prog 132=5:=by kernel_rfl
theorem bP5 (l:List Sess) (id:Int) (S:St) (K:KW):C 182 [.imm (l.map Sess.enc),.int .i64 id] S K=K (.tup [.imm ((gG l id).1.map Sess.enc),.int .i64 (gG l id).2]) S:=by
 refine (bN8 rfl ?_).eq S K
 delta Tryz.f182;simp only [↓cw,↓reduceIte,Nat.reduceLT,kk,aYw]
 by_cases hr:gH l=true
 ·have hb:=mU hr
  simp only [↓cw,↓reduceIte,Nat.reduceLT,hr,kk,bEh l id (show l.length<1000000 by omega),gG,Bool.true_eq_false]
  rcases kE l id with h | ⟨i,s,h,h2,h3⟩
  ·simp only [↓cw,↓reduceIte,Nat.reduceLT,h,show (-1:Int)<0 by decide,kk,oo,if_true,List.map_nil]
  ·have hil:=(List.getElem?_eq_some_iff.1 h2).1
   obtain ⟨v,S1,q1,x1,own⟩:=aVu (b:=40) sess5 l pF (by omega) (by unfold eD;omega)
   obtain ⟨v2,S2,q2,x2,own2⟩:=own.delete bP4 bK7 bK8 (zG (x1.wf pF)) pF (by simp [eD];omega) (i:=i) (by simpa using hil)
   rw [←aMp] at own2
   simp only [↓cw,↓reduceIte,Nat.reduceLT,h,show ¬ (i:Int)<0 by omega,kk,if_false,q1,kU (show -9223372036854775808≤(i:Int)+1 by omega) (show (i:Int)+1≤9223372036854775807 by omega),Int.toNat_natCast]
   rw [bP1 bK4 q2]
   simp only [oo,own2.frz (aO (fun _=>rfl) _)]
 ·have hr:gH l=false:=by simpa using hr
  simp only [↓cw,↓reduceIte,Nat.reduceLT,hr,kk,oo,gG,if_true,List.map_nil]
theorem bP6 (l:List Sess) (id seq:Int) (r:Rep) (S:St) (K:KW):C 107 [.imm (l.map Sess.enc),.int .i64 id,.int .i64 seq,.agg [.int .i64 r.why,.int .i64 r.number,.int .i64 r.gross]] S K=K (.tup [.imm ((kN l id seq r).1.map Sess.enc),.int .i64 (kN l id seq r).2]) S:=by
 refine (bMf rfl ?_).eq S K
 delta Tryz.f107;simp only [↓cw,↓reduceIte,Nat.reduceLT,kk,bK5,kN]
 by_cases h0:(cD l id seq).2.2=0
 ·simp only [↓cw,↓reduceIte,Nat.reduceLT,h0,kk,not_true_eq_false,if_false]
  by_cases h1:(cD l id seq).2.1=true
  ·simp only [↓cw,↓reduceIte,Nat.reduceLT,h1,kk,oo,if_true,List.map_nil]
  ·obtain ⟨hr,i,s,h2,h3⟩:=aDk h0
   have hb:=mU hr
   have hil:=(List.getElem?_eq_some_iff.1 h3).1
   simp only [↓cw,↓reduceIte,Nat.reduceLT,h1,kk,if_false,h2,Int.toNat_natCast,h3]
   obtain ⟨S0,hS0⟩:∃ S0:St,S0=⟨1+1,((Tr.nil.put 0 (Blk.row 0 (1+1+1) [[V.int .i64 r.why,.int .i64 r.number,.int .i64 r.gross]])).put 1 (Blk.row 0 3 [[V.int .i64 0,.int .i64 0,.int .i64 0]])).put 1 (Blk.row 0 3 [[V.int .i64 (cD l id seq).1.why,.int .i64 (cD l id seq).1.number,.int .i64 (cD l id seq).1.gross]])⟩:=⟨_,rfl⟩
   have w0:WF S0:=by rw [hS0];exact jN (n:=2) (jN (n:=1) (m:=2) (jN (m:=1) pF (by decide) (by decide)) (by decide) (by decide)) (by decide) (by decide)
   have hg0:aC S0 0 0=.ok (3,[r.enc]):=by rw [hS0];rfl
   rw [←hS0]
   obtain ⟨v,S1,q1,x1,own⟩:=aPa (b:=40) sess5 l w0 (by omega) (by unfold eD;omega)
   have w1:=x1.wf w0
   have xb:Ext S0 ⟨S1.next+12,S1.heap⟩:=x1.bump 12
   have own':=own.ext ((Ext.refl S1).bump 12)
   have hg1:aC ⟨S1.next+12,S1.heap⟩ 0 0=.ok (3,[r.enc]):=x1.row hg0
   have hb1:S0.next=2:=by rw [hS0]
   obtain ⟨a,ver,e1,e2,e3,e4,_,set1⟩:=own'.setK xb w0 (i:=i) (cs:=s.enc) (by simp [h3]) .i64
   obtain ⟨S2,st1,x2,n2,own2,keep2,w2⟩:=set1 1 1 (.int .i64 seq) rfl rfl (by decide)
   obtain ⟨a',ver',e1',_,_,e4',_,set2⟩:=own2.setK x2 w0 (i:=i) (cs:=splice s.enc 1 [.int .i64 seq]) (by rw [List.getElem?_set_self (by simpa using hil)];rfl) .i64
   obtain ⟨rfl,rfl⟩:a'=a∧ver'=ver:=by rw [e1] at e1';injection e1' with h1 h2;exact ⟨h1.symm,h2.symm⟩
   obtain ⟨S3,oV,_,n3,own3,keep3,w3⟩:=set2 2 3 (.agg r.enc) rfl rfl (by decide)
   have hg2:=aY hg1 (keep2 0 (by omega))
   simp only [Rep.enc] at hg1 hg2 oV
   have hfz:frzVs jL (jU (gO S1 3) S1) [v,.int .i64 id]=.ok [.imm (l.map Sess.enc),.int .i64 id]:=by
    simp only [frzVs,own.frz (aO (fun _=>rfl) _),cF]
   simp only [↓cw,↓reduceIte,Nat.reduceLT,q1,kk]
   rw [show C 174 [v,.int .i64 id] S1 _=_ from (f174 l id (by omega)).frz bFp rfl hfz (by simp [ptrsVs,own.ptrs,nF]) (.inl rfl) _]
   have e5:(0:Nat)≠a':=by omega
   have hfin:((l.map Sess.enc).set i (splice s.enc 1 [.int .i64 seq])).set i (splice (splice s.enc 1 [.int .i64 seq]) 2 r.enc)=(l.set i ⟨s.id,seq,r⟩).map Sess.enc:=by
    rw [List.set_set,List.map_set];rfl
   simp only [V.cells] at own3
   rw [hfin] at own3
   have e4'':fI 5 v (.int .i64 (i:Int))=.ok (.ptr a' ver' i 0):=e4
   simp only [↓cw,↓reduceIte,Nat.reduceLT,h2,e4'',kk,hg1,hg2,st1,oV,oo,own3.frz (aO (fun _=>rfl) _)]
 ·simp only [↓cw,↓reduceIte,Nat.reduceLT,h0,kk,oo,if_true,not_false_eq_true,List.map_nil]
end Go.Proofs.YtoaibmbldmckaaaGreat
end
section
namespace Go.Proofs.YtoaibmbldmckaaaGreat
open Go.AM Tryz
theorem g86 (l:List Ser) (S:St) (K:KW):C 86 [.imm (l.map Ser.enc)] S K=K (.bool (nZ l)) S:=by
 refine (v86 rfl ?_).eq S K
 delta Tryz.f86;simp only [↓cw,↓reduceIte,Nat.reduceLT,kk,nZ]
 by_cases h:8<l.length
 ·rw [if_pos (by omega),if_pos h]
 have h':¬ (8:Int)<(l.length:Int):=by omega
 simp only [↓cw,↓reduceIte,Nat.reduceLT,h,h',kk]
 refine aH l (step:=oO) (fin:=fun _=>true) (fun i s vs S=>s=gF l i∧vs=[.bool false,.int .i64 (i:Int)]) (fun r=>V.bool r=.bool (aE oO (fun _=>true) l none)) ?_ ?_ ⟨rfl,rfl⟩ rfl
 ·rintro i r s vs S hi ⟨rfl,rfl⟩ aD H
  have hil:=(List.getElem?_eq_some_iff.1 hi).1
  have hn:gF l (i+1)=some r:=by simpa [gF] using hi
  simp only [hn,oO] at H
  simp only [↓cw,↓reduceIte,Nat.reduceLT,kk,bO hi,tV hi,Ser.enc,aVt,jO (show i<1000000000 by omega)]
  cases hna:dR r.name
  ·simp [hna] at H ⊢;exact H
  ·simp only [↓cw,↓reduceIte,Nat.reduceLT,hna,kk,Bool.true_eq_false,if_false] at H ⊢
   cases i with
   | zero=>
    simp only [↓cw,↓reduceIte,Nat.reduceLT,gF,pT,kk,Bool.false_eq_true,if_false,if_true,rP,Bool.or_eq_true,decide_eq_true_eq] at H ⊢
    simp only [↓cw,↓reduceIte,Nat.reduceLT,Int.natCast_zero,Int.lt_irrefl,kk,if_false]
    grind
   | succ j=>
    have hj:l[j]?=some l[j]:=List.getElem?_eq_getElem (by omega)
    have hp:gF l (j+1)=some l[j]:=by simp [gF,hj]
    simp only [↓cw,↓reduceIte,Nat.reduceLT,hp,gt0,kk,wrm (show j+1<1000000000 by omega),tV hj,Ser.enc,pT,rP,Bool.or_eq_true,decide_eq_true_eq] at H ⊢
    grind
 ·rintro s vs S ⟨rfl,rfl⟩ aD H
  simp only [↓cw,↓reduceIte,Nat.reduceLT,kk,Int.lt_irrefl]
  exact H
theorem bK9:cG prog 263=some none:=by kernel_rfl
theorem bP8 (name:List UInt8) (s:Ser):Fr 263 (fun a=>[.agg s.enc,.ptr a 0 0 0]) 1 [.str name] (.bool (s.name == name)) [.str name]:=by
 refine FnR.of bFv (lv:=fB []) (Pt.next rfl (Pt.head rfl)) rfl ?_ rfl rfl
 rw [bNz]
 delta Tryz.f263;simp only [↓cw,↓reduceIte,Nat.reduceLT,kk,Ser.enc,eG]
 rfl
theorem f233 (l:List Ser) (name:List UInt8) (hb:l.length<1000000):Fv 233 [.imm (l.map Ser.enc),.str name] (.int .i64 (fC l name)):=by
 refine bNr rfl ?_
 have h:=bJx 263 bK9 _ (bP8 name) l hb (S:=⟨1,Tr.nil.put 0 (.row 0 1 [[.str name]])⟩) (a:=0) (Tr.get_put_sameB _ _ _ trivial)
 delta Tryz.f233;simp only [↓cw,↓reduceIte,Nat.reduceLT,kk,h,fC]
theorem bEi (l:List Ser) (name:List UInt8) (hb:l.length<1000000) (S:St) (K:KW):C 233 [.imm (l.map Ser.enc),.str name] S K=K (.int .i64 (fC l name)) S:=(f233 l name hb).eq S K
theorem bP9 (l:List Ser) (name:List UInt8) (hb:l.length<1000000) (S:St) (K:KW):C 241 [.imm (l.map Ser.enc),.str name] S K=K (.tup [.agg [.str (lF l name).1.name,.int .i64 (lF l name).1.next,.int .i64 (lF l name).1.limit,.bool (lF l name).1.shut],.bool (lF l name).2]) S:=by
 refine (bNw rfl ?_).eq S K
 delta Tryz.f241;simp only [↓cw,↓reduceIte,Nat.reduceLT,kk,bEi l name hb,lF]
 rcases jH l name with h | ⟨i,s,h,h2,h3⟩
 ·simp only [↓cw,↓reduceIte,Nat.reduceLT,h,show (-1:Int)<0 by decide,kk,oo,Ser.zero,if_true]
 ·simp only [↓cw,↓reduceIte,Nat.reduceLT,h,show ¬ (i:Int)<0 by omega,kk,if_false,tV h2,Ser.enc,Int.toNat_natCast,h2,oo]
theorem bKa (l:List Ser) (name:List UInt8) (S:St) (K:KW):C 236 [.imm (l.map Ser.enc),.str name] S K=K (fZ (iR l name)) S:=by
 refine (bNt rfl ?_).eq S K
 delta Tryz.f236;simp only [↓cw,↓reduceIte,Nat.reduceLT,kk,g86,iR,fZ]
 by_cases hr:nZ l=true
 ·have hb:=pU hr
  simp only [↓cw,↓reduceIte,Nat.reduceLT,hr,kk,bEi l name (show l.length<1000000 by omega),Bool.true_eq_false,if_false]
  rcases jH l name with h | ⟨i,s,h,h2,h3⟩
  ·simp only [↓cw,↓reduceIte,Nat.reduceLT,h,show (-1:Int)<0 by decide,kk,oo,if_true]
  ·simp only [↓cw,↓reduceIte,Nat.reduceLT,h,show ¬ (i:Int)<0 by omega,kk,if_false,tV h2,Ser.enc,Int.toNat_natCast,h2,oo]
   cases s.shut<;>simp
 ·have hr:nZ l=false:=by simpa using hr
  simp only [↓cw,↓reduceIte,Nat.reduceLT,hr,kk,oo,if_true]
theorem bEj (l:List Ser) (hb:l.length<1000000) {S:St} (w:WF S) {K:KW} (k:∀ v S',Ext S S'→Own S S' 4 v (l.map Ser.enc)→K v S'):C 235 [.imm (l.map Ser.enc)] S K:=by
 refine bNs rfl ?_
 delta Tryz.f235;simp only [↓cw,↓reduceIte,Nat.reduceLT,kk]
 cases l with
 | nil=>
  exact k .nils ⟨S.next+0,S.heap⟩ ⟨fun a b h=>h,Nat.le_refl _,fun w=>w⟩ (Own.nil _ _ _)
 | cons x l=>
  obtain ⟨v,S1,q1,x1,own⟩:=aPa (b:=40) ser4 (x::l) pF (by omega) (by unfold eD;omega)
  have q2:fQ 4 40 .nils (.imm ((x::l).map Ser.enc)) none E0=.ok (.sl 0 0 4 0 (l.length+1),⟨1,Tr.nil.put 0 (.row 0 4 ((x::l).map Ser.enc))⟩):=by
   have a1:jR 4 ((x::l).map Ser.enc)=true∧((x::l).map Ser.enc).all aF=true:=dA (fun c hc=>by obtain ⟨y,_,rfl⟩:=List.mem_map.1 hc;exact ser4 y)
   simp only [fQ,aM]
   rw [if_pos a1]
   simp only [List.map_cons]
   have hb2:l.length+1<1000000:=hb
   simp only [List.length_cons,List.length_map,fJ]
   rw [if_pos (by unfold eD;omega)]
  rw [q2]
  simp only [↓cw,↓reduceIte,Nat.reduceLT,kk]
  have hc:((x::l).map Ser.enc).all cloVs=true:=aO (fun _=>rfl) _
  have ho:tK [0] (.sl 0 0 4 0 (l.length+1)) ⟨1,Tr.nil.put 0 (.row 0 4 ((x::l).map Ser.enc))⟩ S=.ok (.sl S.next 0 4 0 (l.length+1),⟨S.next+1,S.heap.put S.next (.row 0 4 ((x::l).map Ser.enc))⟩):=by
   have hg:(Tr.nil.put 0 (Blk.row 0 4 ((x::l).map Ser.enc))).get 0=some (.row 0 4 ((x::l).map Ser.enc)):=Tr.get_put_sameB _ _ _ trivial
   obtain ⟨z1,z2⟩:=gY (S:=⟨1,Tr.nil.put 0 (.row 0 4 ((x::l).map Ser.enc))⟩) (n:=2) hc
   simp only [List.map_cons] at hg z1 z2
   simp only [tK,V.cells,aBk,gL,Nat.beq_refl,Bool.true_or,cond_true,fV,hg,z1,rF,vU,cR,z2,pH,nG,aFc,hg,z1,z2,Nat.zero_add,List.append_nil,List.any_nil,List.length_cons,List.length_nil,Nat.zero_add,Bool.not_false,Bool.and_self,List.nil_append,List.map_cons]
  rw [ho]
  simp only [↓cw,↓reduceIte,Nat.reduceLT,kk]
  refine k _ _ (Ext.new w _) ⟨.inr ⟨S.next,0,[],by simp,Nat.le_refl _,Nat.lt_succ_self _,?_⟩,fun c hc=>by obtain ⟨y,_,rfl⟩:=List.mem_map.1 hc;exact ser4 y⟩
  rw [List.append_nil];exact Tr.get_put_sameB _ _ _ trivial
theorem bPa (l:List Ser) (name:List UInt8) (limit:Int) (S:St) (K:KW):C 175 [.imm (l.map Ser.enc),.str name,.int .i64 limit] S K=K (.tup [.imm ((eS l name limit).1.map Ser.enc),.int .i64 (eS l name limit).2]) S:=by
 refine (bOc rfl ?_).eq S K
 simp only [aYi,aI4,kk,g86,aVt]
 by_cases hr:nZ l=true
 ·have hb:=pU hr
  simp only [hr,kk,bEi l name (show l.length<1000000 by omega),eS,Bool.true_eq_false,if_false]
  by_cases hn:dR name=true
  ·simp only [hn,kk,Bool.true_eq_false,if_false]
   by_cases c1:limit<1
   ·simp only [c1,kk,oo,if_true,List.map_nil,true_or]
   ·by_cases c2:1099511627776<limit
    ·simp only [c1,c2,kk,oo,if_true,if_false,List.map_nil,or_true,decide_true]
    ·simp only [c1,c2,kk,if_false,or_self,decide_false]
     by_cases c3:0≤fC l name
     ·simp only [c3,kk,oo,if_true,List.map_nil]
     ·by_cases c4:8≤l.length
      ·simp only [c3,c4,show (8:Int)≤(l.length:Int) by omega,kk,oo,if_true,if_false,List.map_nil]
      ·simp only [c3,c4,show ¬ (8:Int)≤(l.length:Int) by omega,kk,if_false]
       have hj:∀ k:Nat,k=nL (fun s:Ser=>fU s.name name) l→aC5 C (fun v0 S0=>lS S0 v0=Except.ok (.tup [.imm ((fL l (nL (fun s:Ser=>fU s.name name) l) ⟨name,1,limit,false⟩).map Ser.enc),.int .i64 0])) (.imm (l.map Ser.enc)) (.str name) (.int .i64 limit) (.int .i64 (k:Int)) ⟨0,.nil⟩:=by
        intro k hk
        simp only [aC5]
        refine bEj l (by omega) pF fun v S1 x1 own=>?_
        have w1:=x1.wf pF
        have hkl:k≤l.length:=by rw [hk];exact aC9 _ _
        obtain ⟨v2,S2,q2,w2,own2⟩:=bK1 bP3 (by decide) own w1 (ser4 ⟨name,1,limit,false⟩) (by simp;omega) (by simp [eD];omega) (i:=k) (by simpa using hkl)
        simp only [Ser.enc] at q2
        simp only [kk,aVv]
        rw [aVx bK3 q2]
        rw [←pS] at own2
        simp only [oo,own2.frz (aO (fun _=>rfl) _),hk]
       refine aH l (step:=fS (fun s:Ser=>fU s.name name)) (fin:=id) (fun i k vs S=>k=i∧vs=[.int .i64 (i:Int)]∧S=⟨0,.nil⟩) (fun r=>r=nL (fun s:Ser=>fU s.name name) l) ?_ ?_ ⟨rfl,rfl,rfl⟩ rfl
       ·rintro i s k vs S hi ⟨rfl,rfl,rfl⟩ aD H
        have hil:=(List.getElem?_eq_some_iff.1 hi).1
        simp only [fS] at H
        simp only [aI3,kk,bO hi,tV hi,Ser.enc,jO (show k<1000000000 by omega)]
        cases c:fU s.name name<;>simp only [c,kk,if_true,if_false,Bool.false_eq_true] at H ⊢
        ·exact hj _ H
        ·exact H _ _ ⟨rfl,rfl⟩
       ·rintro k vs S ⟨rfl,rfl,rfl⟩ aD H
        simp only [aI3,kk,Int.lt_irrefl]
        exact hj _ (by simpa using H)
  ·have hn:dR name=false:=by simpa using hn
   simp only [hn,kk,oo,if_true,List.map_nil]
 ·have hr:nZ l=false:=by simpa using hr
  simp only [hr,kk,oo,eS,if_true,List.map_nil]
theorem bPb (l:List Ser) (name:List UInt8) (S:St) (K:KW):C 177 [.imm (l.map Ser.enc),.str name] S K=K (.tup [.imm ((pV l name).1.map Ser.enc),.int .i64 (pV l name).2]) S:=by
 refine (bN3 rfl ?_).eq S K
 delta Tryz.f177;simp only [↓cw,↓reduceIte,Nat.reduceLT,kk,bKa,fZ,pV]
 by_cases h0:(iR l name).2=0
 ·obtain ⟨hr,i,s,h1,_,h2,h3,_⟩:=yV h0
  have hb:=pU hr
  have hil:=(List.getElem?_eq_some_iff.1 h2).1
  have e1:(iR l name).1=(i:Int):=by rw [h1]
  simp only [↓cw,↓reduceIte,Nat.reduceLT,h0,kk,not_true_eq_false,if_false]
  refine bEj l (by omega) pF fun v S1 x1 own=>?_
  obtain ⟨a,ver,_,_,_,e4,_,set1⟩:=own.setK x1 pF (i:=i) (cs:=s.enc) (by simp [h2]) .i64
  obtain ⟨S2,st1,x2,n2,own2,keep2,w2⟩:=set1 3 1 (.bool true) rfl rfl (by decide)
  have hfin:(l.map Ser.enc).set i (splice s.enc 3 [.bool true])=(l.set i { s with shut:=true }).map Ser.enc:=by rw [List.map_set];rfl
  simp only [V.cells] at own2
  rw [hfin] at own2
  simp only [↓cw,↓reduceIte,Nat.reduceLT,e1,e4,kk,st1,oo,own2.frz (aO (fun _=>rfl) _),Int.toNat_natCast,h2]
 ·simp only [↓cw,↓reduceIte,Nat.reduceLT,h0,kk,oo,if_true,not_false_eq_true,List.map_nil]
theorem bPc (l:List Ser) (name:List UInt8) (S:St) (K:KW):C 271 [.imm (l.map Ser.enc),.str name] S K=K (.tup [.imm ((cO l name).1.map Ser.enc),.int .i64 (cO l name).2.1,.int .i64 (cO l name).2.2]) S:=by
 refine (bO1 rfl ?_).eq S K
 delta Tryz.f271;simp only [↓cw,↓reduceIte,Nat.reduceLT,kk,bKa,fZ,cO]
 by_cases h0:(iR l name).2=0
 ·obtain ⟨hr,i,s,h1,_,h2,h3,_⟩:=yV h0
  have hb:=pU hr
  have hil:=(List.getElem?_eq_some_iff.1 h2).1
  have e1:(iR l name).1=(i:Int):=by rw [h1]
  simp only [↓cw,↓reduceIte,Nat.reduceLT,h0,kk,not_true_eq_false,if_false,e1,tV h2,Ser.enc,Int.toNat_natCast,h2]
  by_cases c:s.limit<s.next
  ·simp only [↓cw,↓reduceIte,Nat.reduceLT,c,kk,oo,if_true,List.map_nil]
  ·simp only [↓cw,↓reduceIte,Nat.reduceLT,c,kk,if_false]
   refine bEj l (by omega) pF fun v S1 x1 own=>?_
   obtain ⟨a,ver,_,_,_,e4,hat,set1⟩:=own.setK x1 pF (i:=i) (cs:=s.enc) (by simp [h2]) .i64
   obtain ⟨S2,st1,x2,n2,own2,keep2,w2⟩:=set1 1 1 (.int .i64 (wr .i64 (s.next+1))) rfl rfl (by decide)
   have hld:=hat.load none 1
   have hfin:(l.map Ser.enc).set i (splice s.enc 1 [.int .i64 (wr .i64 (s.next+1))])=(l.set i { s with next:=wr .i64 (s.next+1) }).map Ser.enc:=by rw [List.map_set];rfl
   simp only [V.cells] at own2
   rw [hfin] at own2
   simp only [↓cw,↓reduceIte,Nat.reduceLT,adv,kk] at hld
   simp only [↓cw,↓reduceIte,Nat.reduceLT,e4,kk,hld,Ser.enc,st1,oo,own2.frz (aO (fun _=>rfl) _)]
 ·simp only [↓cw,↓reduceIte,Nat.reduceLT,h0,kk,oo,if_true,not_false_eq_true,List.map_nil]
theorem zne {S:St} (h:0<S.next):((0:Nat)=S.next)=False:=by simp;omega
theorem bPd (l:List Rate) (cat:List UInt8) (d:Date) (S:St) (K:KW):C 278 [.imm (l.map Rate.enc),.str cat,.agg [.int .i64 d.y,.int .i64 d.m,.int .i64 d.d]] S K=K (.tup [.int .i64 (iS l cat d).1,.bool (iS l cat d).2]) S:=by
 refine (bO2 rfl ?_).eq S K
 delta Tryz.f278;simp only [↓cw,↓reduceIte,Nat.reduceLT,kk,g85,aK5,iS]
 by_cases hr:gE l=true
 ·have hb:=wV hr
  simp only [↓cw,↓reduceIte,Nat.reduceLT,hr,kk,Bool.true_eq_false,if_false]
  cases hd:d.right
  ·simp only [↓cw,↓reduceIte,Nat.reduceLT,hd,kk,oo,if_true]
  simp only [↓cw,↓reduceIte,Nat.reduceLT,hd,kk,Bool.true_eq_false,if_false]
  refine aH l (step:=kF cat d) (fin:=id) (fun i s vs S=>vs=[.int .i64 s.1,.bool s.2,.int .i64 (i:Int)]∧aC S 0 0=.ok (3,[d.enc])∧0<S.next) (fun r=>r=aE (kF cat d) id l (0,false)) ?_ ?_ (s:=(0,false)) ⟨rfl,by simp only [↓cw,↓reduceIte,Nat.reduceLT,kk];rfl,Nat.zero_lt_one⟩ rfl
  ·rintro i r ⟨bp,ok⟩ vs S hi ⟨rfl,hg,h0⟩ aD H
   have hil:=(List.getElem?_eq_some_iff.1 hi).1
   simp only [kF] at H
   simp only [↓cw,↓reduceIte,Nat.reduceLT,kk,bO hi,xB hi,Rate.enc,jO (show i<1000000000 by omega),eG,zne h0,gm,hg,Date.enc,aYs]
   have hg':∀ b b':Blk,aC ⟨S.next+1,(S.heap.put S.next b).put S.next b'⟩ 0 0=.ok (3,[d.enc]):=fun b b'=>by simp only [↓cw,↓reduceIte,Nat.reduceLT,eG,kk,zne h0,gm,hg]
   cases c1:(r.cat == cat)<;>simp only [↓cw,↓reduceIte,Nat.reduceLT,c1,kk,Bool.false_eq_true,false_and,if_false,true_and] at H ⊢
   ·exact H _ _ ⟨rfl,hg' _ _,Nat.succ_pos _⟩
   ·cases c2:d.before r.day<;>simp only [↓cw,↓reduceIte,Nat.reduceLT,c2,kk,if_true,if_false,Bool.true_eq_false] at H ⊢<;>exact H _ _ ⟨rfl,hg' _ _,Nat.succ_pos _⟩
  ·rintro ⟨bp,ok⟩ vs S ⟨rfl,hg,h0⟩ aD H
   have H:(bp,ok)=aE (kF cat d) id l (0,false):=H
   simp only [↓cw,↓reduceIte,Nat.reduceLT,kk,Int.lt_irrefl,oo,←H]
 ·have hr:gE l=false:=by simpa using hr
  simp only [↓cw,↓reduceIte,Nat.reduceLT,hr,kk,oo,if_true]
theorem bPe:apT prog 24=some (5,48):=by kernel_rfl
theorem bKb:nK 237=some (.spec ((Sp.ins 24).run prog)):=by kernel_rfl
theorem aVy (x:Rate):x.enc.length=5∧aF x.enc=true:=⟨rfl,rfl⟩
theorem Date.ext_iff (a b:Date):(a=b)=((a.y=b.y∧a.m=b.m)∧a.d=b.d):=by
 obtain ⟨_,_,_⟩:=a;obtain ⟨_,_,_⟩:=b;simp [and_assoc]
theorem aYx {P:Program} {T:TypeId} {α:Type} {enc:α→List V} {n b:Nat} (hT:apT P T=some (n,b)) (hn:1<n) (hl:∀ x,(enc x).length=n∧aF (enc x)=true) (l:List α) {S:St} (w:WF S) {ka kb m:Nat} (hk:S.next≤ka) (hm:ka<m) (hkb:S.next≤kb) (hmb:kb<m) (hne:ka≠kb)
  (h1:(l.length+1)*b≤35184372088832) (h2:l.length+1<eD) (x:α) {i:Nat} (hi:i≤l.length):
  ∃ v S1 v' S',fQ n b .nils (.imm (l.map enc)) (some ka) ⟨m,S.heap⟩=.ok (v,S1)∧(∀ y,y<S.next→S1.heap.get y=S.heap.get y)∧iA P T v (.int .i64 (i:Int)) (.sl kb 0 n 0 1) ⟨S1.next,S1.heap.put kb (.row 0 n [enc x])⟩=.ok (v',S')∧Own E0 S' n v' ((fL l i x).map enc):=by
 have hx:Ext S ⟨m,S.heap⟩:=⟨fun a b h=>h,by show S.next≤m;omega,fun w a b h=>by have:=w a b h;show a<m;omega⟩
 have hnone:∀ k,S.next≤k→S.heap.get k=none:=by
  intro k hk
  cases hq:S.heap.get k with
  | none=>rfl
  | some b=>have:=w k b hq;omega
 have hc:∀ cs,cs∈l.map enc→cs.length=n∧aF cs=true:=fun cs hc=>by obtain ⟨x,_,rfl⟩:=List.mem_map.1 hc;exact hl x
 obtain ⟨a1,a2⟩:=dA hc
 have hwm:WF ⟨m,S.heap⟩:=hx.wf w
 have key:∃ v S1,fQ n b .nils (.imm (l.map enc)) (some ka) ⟨m,S.heap⟩=.ok (v,S1)∧WF S1∧S1.next=m∧(∀ y,y<S.next→S1.heap.get y=S.heap.get y)∧S1.heap.get kb=none∧(∀ a ver k,v=.sl a ver n 0 k→a=ka)∧Own E0 S1 n v (l.map enc):=by
  cases l with
  | nil=>exact ⟨.nils,⟨m,S.heap⟩,rfl,hwm,rfl,fun _ _=>rfl,hnone kb hkb,(fun _ _ _ h=>by cases h),Own.nil _ _ _⟩
  | cons y l=>
   refine ⟨.sl ka 0 n 0 (l.length+1),⟨m,S.heap.put ka (.row 0 n ((y::l).map enc))⟩,?_,jN hwm hm (Nat.le_refl _),rfl,fun z hz=>Tr.get_put_neB _ _ _ _ trivial (by omega),?_,fun _ _ _ h=>(by cases h;rfl),⟨.inr ⟨ka,0,[],by simp,Nat.zero_le _,hm,?_⟩,hc⟩⟩
   ·simp only [fQ,aM]
    rw [if_pos ⟨a1,a2⟩]
    simp only [List.map_cons,List.length_cons,List.length_map,uK] at h1 h2 ⊢
    have hb2:(l.length+1)*b≤(l.length+1+1)*b:=Nat.mul_le_mul_right _ (by omega)
    rw [if_pos ⟨by omega,by omega⟩]
   ·rw [Tr.get_put_neB _ _ _ _ trivial (Ne.symm hne)];exact hnone kb hkb
   ·rw [List.append_nil];exact Tr.get_put_sameB _ _ _ trivial
 obtain ⟨v,S1,q1,w1,n1,q2,q3,q4,own⟩:=key
 have x1:Ext S1 ⟨S1.next,S1.heap.put kb (.row 0 n [enc x])⟩:=⟨fun a c hc=>by
  show (S1.heap.put kb _).get a=some c
  rw [Tr.get_put_neB _ _ _ _ trivial (fun e=>by rw [e,q3] at hc;cases hc)];exact hc,Nat.le_refl _,fun w=>jN w (by omega) (Nat.le_refl _)⟩
 obtain ⟨v',S',p1,_,p3⟩:=(own.ext x1).insert hT hn (zG (x1.wf w1)) pF (bx:=kb) (c:=enc x) (aA _ _ _ _ _ _) (fun a ver k hv=>by rw [q4 a ver k hv];exact hne) (hl x) (by simpa using h1) (by simpa using h2) (i:=i) (by simpa using hi)
 rw [←pS] at p3
 exact ⟨v,S1,v',S',q1,q2,p1,p3⟩
theorem bPf (l:List Rate) (r:Rate) (S:St) (K:KW):C 178 [.imm (l.map Rate.enc),.agg [.str r.cat,.int .i64 r.day.y,.int .i64 r.day.m,.int .i64 r.day.d,.int .i64 r.bp]] S K=K (.tup [.imm ((iD l r).1.map Rate.enc),.int .i64 (iD l r).2]) S:=by
 refine (bN4 rfl ?_).eq S K
 delta Tryz.f178;simp only [↓cw,↓reduceIte,Nat.reduceLT,kk,g85,iD]
 by_cases hr:gE l=true
 ·have hb:=wV hr
  simp only [↓cw,↓reduceIte,Nat.reduceLT,hr,kk,Bool.true_eq_false,if_false,bJu]
  by_cases h0:wT r=0
  ·simp only [↓cw,↓reduceIte,Nat.reduceLT,h0,kk,not_true_eq_false,if_false]
   refine aH l (step:=lG r) (fin:=some) (fun i k vs S=>vs=[.nils,.int .i64 0,.int .i64 (k:Int),.int .i64 (i:Int)]∧aC S 0 0=.ok (5,[r.enc])∧0<S.next∧WF S∧k≤i) (fun q=>q=aE (lG r) some l 0) ?_ ?_ (s:=0) ⟨rfl,by simp only [↓cw,↓reduceIte,Nat.reduceLT,kk];rfl,Nat.zero_lt_one,jN pF (by decide) (by decide),Nat.le_refl _⟩ rfl
   ·rintro i x k vs S hi ⟨rfl,hg,hp,w,hki⟩ aD H
    have hil:=(List.getElem?_eq_some_iff.1 hi).1
    simp only [↓cw,↓reduceIte,Nat.reduceLT,lG,Date.ext_iff,kk] at H
    have hg':∀ b b':Blk,aC ⟨S.next+1,(S.heap.put S.next b).put S.next b'⟩ 0 0=.ok (5,[r.enc]):=fun b b'=>by simp only [↓cw,↓reduceIte,Nat.reduceLT,eG,kk,zne hp,gm,hg]
    have hw':∀ b b':Blk,WF ⟨S.next+1,(S.heap.put S.next b).put S.next b'⟩:=fun b b'=>jN (jN w (Nat.lt_succ_self _) (Nat.le_succ _)) (Nat.lt_succ_self _) (Nat.le_refl _)
    simp only [↓cw,↓reduceIte,Nat.reduceLT,kk,bO hi,xB hi,Rate.enc,jO (show i<1000000000 by omega),jO (show k<1000000000 by omega),eG,zne hp,gm,hg,bJv]
    cases c1:(x.cat == r.cat)<;>simp only [↓cw,↓reduceIte,Nat.reduceLT,c1,kk,Bool.false_eq_true,false_and,if_false,true_and,Bool.and_eq_true,decide_eq_true_eq] at H ⊢
    ·cases c3:fR x r<;>simp only [↓cw,↓reduceIte,Nat.reduceLT,c3,kk,if_true,if_false,Bool.false_eq_true] at H ⊢<;>exact H _ _ ⟨rfl,hg' _ _,Nat.succ_pos _,hw' _ _,by omega⟩
    ·by_cases c2:(x.day.y=r.day.y∧x.day.m=r.day.m)∧x.day.d=r.day.d<;>simp only [↓cw,↓reduceIte,Nat.reduceLT,c2,kk,if_true,if_false] at H ⊢
     ·have H':aE (lG r) some l 0=none:=H.symm
      simp only [oo,H',List.map_nil]
     ·cases c3:fR x r<;>simp only [↓cw,↓reduceIte,Nat.reduceLT,c3,kk,if_true,if_false,Bool.false_eq_true] at H ⊢<;>exact H _ _ ⟨rfl,hg' _ _,Nat.succ_pos _,hw' _ _,by omega⟩
   ·rintro k vs S ⟨rfl,hg,hp,w,hki⟩ aD H
    have H':aE (lG r) some l 0=some k:=H.symm
    simp only [↓cw,↓reduceIte,Nat.reduceLT,kk,Int.lt_irrefl,H']
    by_cases c:24≤l.length
    ·simp only [↓cw,↓reduceIte,Nat.reduceLT,c,show (24:Int)≤(l.length:Int) by omega,kk,oo,if_true,List.map_nil]
    ·obtain ⟨v,S1,v',S',q1,q2,q3,own⟩:=aYx bPe (by decide) aVy l w (ka:=S.next+1) (kb:=S.next+4) (m:=S.next+8) (by omega) (by omega) (by omega) (by omega) (by omega) (by omega) (by unfold eD;omega) r hki
     have hg1:aC S1 0 0=.ok (5,[r.enc]):=aY hg (q2 0 hp)
     simp only [Rate.enc] at hg hg1 q3
     simp only [↓cw,↓reduceIte,Nat.reduceLT,c,show ¬ (24:Int)≤(l.length:Int) by omega,kk,gm,hg,q1,hg1,aVw,if_false]
     rw [aVx bKb q3]
     simp only [oo,own.frz (aO (fun _=>rfl) _),c,if_false]
  ·simp only [↓cw,↓reduceIte,Nat.reduceLT,h0,kk,oo,if_true,not_false_eq_true,List.map_nil]
 ·have hr:gE l=false:=by simpa using hr
  simp only [↓cw,↓reduceIte,Nat.reduceLT,hr,kk,oo,if_true,List.map_nil]
end Go.Proofs.YtoaibmbldmckaaaGreat
end
section
namespace Go.AM
theorem aYy (n:Nat) (z:List V) (parts:List (Nat×V)) (fr:Option Nat) (S:St) (hn:n≤1000):cH n z 2 parts fr S=(match zS n [z,z] parts with
  | .error e=>.error e
  | .ok elems=>match bB fr S (.row 0 n elems) with
   | .error e=>.error e
   | .ok (a,S')=>.ok (.sl a 0 n 0 2,S')):=by
 unfold cH
 rw [if_pos (by omega)]
 rfl
theorem bKc (z:List V) (parts:List (Nat×V)) (fr:Option Nat) (S:St):type_of% (aYy 2 z parts fr S (by decide)):=aYy 2 z parts fr S (by decide)
theorem Own.bump {S0 S:St} {n:Nat} {v:V} {es:List (List V)} (h:Own S0 S n v es) (c:Nat):Own S0 ⟨S.next+c,S.heap⟩ n v es:=h.ext ((Ext.refl S).bump c)
theorem Own.newV {S0 S:St} {n:Nat} {v:V} {es:List (List V)} (h:Own S0 S n v es) (hp:es.all (fun cs=>cs.all lZ)=true):newV S v=true:=by
 have he:=h.sl.elems
 rcases h.is with ⟨rfl,_⟩ | ⟨a,ver,tl,rfl,_⟩
 ·rfl
 ·simp only [Go.AM.newV,he,hp]
theorem aK8 {α:Type} {enc:α→List V} (h:∀ a,(enc a).all lZ=true):∀ l:List α,(l.map enc).all (fun cs=>cs.all lZ)=true
 | []=>rfl
 | a::l=>by simp only [List.map_cons,List.all_cons,h a,aK8 h l,Bool.and_self]
theorem aVz {n b:Nat} {S:St} {v:V} {es:List (List V)} (h:Own E0 S n v es) (w:WF S) {cs:List (List V)} (hc:∀ c,c∈cs→c.length=n∧aF c=true) (hne:cs≠[]) (h1:(es.length+cs.length)*b≤35184372088832) (h2:es.length+cs.length<eD):
  ∃ v' S',fQ n b v (.sl S.next 0 n 0 cs.length) none ⟨S.next+1,S.heap.put S.next (.row 0 n cs)⟩=.ok (v',S')∧Own E0 S' n v' (es++cs)∧WF S'∧∀ y,y<S.next→(∀ a ver m,v=.sl a ver n 0 m→y≠a)→S'.heap.get y=S.heap.get y:=by
 have x:Ext S ⟨S.next+1,S.heap.put S.next (.row 0 n cs)⟩:=Ext.new w _
 have hu:aM ⟨S.next+1,S.heap.put S.next (.row 0 n cs)⟩ (.sl S.next 0 n 0 cs.length)=.ok cs:=by
  have hb:Nat.ble (0+cs.length) cs.length=true:=Nat.ble_eq_true_of_le (by omega)
  simp only [aM,aA,hb,cond_true,List.drop_zero,List.take_length]
 obtain ⟨v',S',q1,q2,_,q3,q4⟩:=(h.ext x).pushK (b:=b) (zG (x.wf w)) pF hu hc hne h1 h2
 refine ⟨v',S',q1,q3,q2.wf pF,fun y hy hya=>?_⟩
 rw [q4 y (by show y<S.next+1;omega) hya]
 exact Tr.get_put_neB _ _ _ _ trivial (by omega)
end Go.AM
namespace Go.Proofs.YtoaibmbldmckaaaGreat
open Go.AM Tryz
set_option linter.unusedVariables false
set_option linter.unusedSimpArgs false
set_option maxRecDepth 100000
def tX (t:Total):Prop:=t.parts.length≤12∧∀ q∈t.parts,q.cat.length≤1000000
theorem aPb {P:Program} {t:TypeId} {a b:List UInt8} (h:a.length+b.length<2000000):bQ P .add t (.str a) (.str b)=.ok (.str (a++b)):=by
 have:Nat.blt (a.length+b.length) eD=true:=by rw [Nat.blt_eq];unfold eD;omega
 simp only [bQ,aAm,this,cond_true]
theorem aW0 (x:Bal):x.enc.length=2∧aF x.enc=true:=⟨rfl,rfl⟩
theorem aPc (x:Part):x.enc.length=4∧aF x.enc=true:=⟨rfl,rfl⟩
theorem bKd (t:Total) (hf:tX t):FnK prog nK 157 [.agg [.int .i64 t.net,.int .i64 t.tax,.int .i64 t.gross,.imm (t.parts.map Part.enc)]] (.tup [.imm ((dG t).1.map Bal.enc),.int .i64 (dG t).2]):=by
 refine bMp ?_
 delta Tryz.f157;simp only [↓cw,↓reduceIte,Nat.reduceLT,kk,bJz]
 have hpl:=hf.1
 refine aH t.parts (step:=lH) (fin:=fun l=>(l,0)) (fun i s vs S=>∃ v,vs=[.nils,.int .i64 0,v,.int .i64 (i:Int)]∧Own E0 S 2 v (s.map Bal.enc)∧WF S∧s.length=1+2*i) (fun r=>r=dG t) ?_ ?_ (s:=[⟨[111,119,101,100],t.gross⟩]) ⟨_,rfl,⟨.inr ⟨1,0,[],rfl,Nat.zero_le _,Nat.lt_succ_self 1,rfl⟩,?_⟩,jN (jN (m:=1) pF (by decide) (by decide)) (by decide) (by decide),rfl⟩ rfl
 ·rintro i p s vs S hi ⟨v,rfl,own,w,hsl⟩ aD H
  have hil:=(List.getElem?_eq_some_iff.1 hi).1
  have hcat:=hf.2 p (List.mem_of_getElem? hi)
  simp only [↓cw,↓reduceIte,Nat.reduceLT,lH,kk] at H
  have e1:aRa.length+p.cat.length<2000000:=by simp only [aRa,List.length_cons,List.length_nil];omega
  have e2:aRb.length+p.cat.length<2000000:=by simp only [aRb,List.length_cons,List.length_nil];omega
  have c1:=aPb (P:=prog) (t:=9) e1
  have c2:=aPb (P:=prog) (t:=9) e2
  simp only [aRa,aRb] at c1 c2
  simp only [↓cw,↓reduceIte,Nat.reduceLT,kk,bO hi,rY hi,Part.enc,jO (show i<1000000000 by omega),bEf,fZ,eG,c1,c2,bKc]
  by_cases h1:(kW 0 p.net).2=0
  ·by_cases h2:(kW 0 p.tax).2=0
   ·simp only [↓cw,↓reduceIte,Nat.reduceLT,h1,h2,kk,not_true_eq_false,if_false] at H ⊢
    have w1:WF ⟨S.next+1,(S.heap.put S.next (.row 0 4 [[V.str [],.int .i64 0,.int .i64 0,.int .i64 0]])).put S.next (.row 0 4 [p.enc])⟩:=jN (jN w (Nat.lt_succ_self _) (Nat.le_succ _)) (Nat.lt_succ_self _) (Nat.le_refl _)
    have x1:Ext S ⟨S.next+1,(S.heap.put S.next (.row 0 4 [[V.str [],.int .i64 0,.int .i64 0,.int .i64 0]])).put S.next (.row 0 4 [p.enc])⟩:=Ext.var w 4 _ _
    obtain ⟨v',S',q1,q2,q3,_⟩:=aVz (b:=24) (own.ext x1) w1 (cs:=[Bal.enc ⟨aRa++p.cat,(kW 0 p.net).1⟩,Bal.enc ⟨aRb++p.cat,(kW 0 p.tax).1⟩]) (fun c hc=>by
     rcases List.mem_cons.1 hc with rfl | hc
     ·exact aW0 _
     ·rcases List.mem_cons.1 hc with rfl | hc
      ·exact aW0 _
      ·cases hc) (by simp) (by simp;omega) (by simp [eD];omega)
    simp only [↓cw,↓reduceIte,Nat.reduceLT,Part.enc,Bal.enc,aRa,aRb,kk] at q1
    simp only [↓cw,↓reduceIte,Nat.reduceLT,q1,kk]
    exact H _ _ ⟨_,rfl,by rw [List.map_append];exact q2,q3,by rw [List.length_append,hsl];simp;omega⟩
   ·simp only [↓cw,↓reduceIte,Nat.reduceLT,h1,h2,kk,not_true_eq_false,not_false_eq_true,if_false,if_true] at H ⊢
    exact ⟨rfl,by simp only [oo,←H,List.map_nil]⟩
  ·simp only [↓cw,↓reduceIte,Nat.reduceLT,h1,kk,not_false_eq_true,if_true] at H ⊢
   exact ⟨rfl,by simp only [oo,←H,List.map_nil]⟩
 ·rintro s vs S ⟨v,rfl,own,w,_⟩ aD H
  have H':dG t=(s,0):=H.symm
  simp only [↓cw,↓reduceIte,Nat.reduceLT,kk,Int.lt_irrefl,if_false]
  exact ⟨by simp only [aFd,List.all_cons,List.all_nil,own.newV (aK8 (fun _=>rfl) _),Bool.true_and,Bool.and_true];rfl,by simp only [oo,own.frz (aO (fun _=>rfl) _),H']⟩
 ·intro c hc;simp at hc;subst hc;exact ⟨rfl,rfl⟩
theorem bKe (t:Total) (hf:tX t) (S:St) (K:KW):C 157 [.agg [.int .i64 t.net,.int .i64 t.tax,.int .i64 t.gross,.imm (t.parts.map Part.enc)]] S K=K (.tup [.imm ((dG t).1.map Bal.enc),.int .i64 (dG t).2]) S:=(bKd t hf).eq (by simp only [cloVs,nY,aO (enc:=Part.enc) (fun _=>rfl) t.parts,Bool.and_self]) S K
theorem bKf (l:List Bal) (hb:l.length<1000000):Fv 220 [.imm (l.map Bal.enc)] (.bool (aG4 l)):=by
 refine bNi rfl ?_
 delta Tryz.f220;simp only [↓cw,↓reduceIte,Nat.reduceLT]
 refine aH (l.drop 1) (step:=aDl) (fin:=fun _=>true) (fun j s vs S=>s=l[j]?∧vs=[.bool false,.int .i64 ((j+1:Nat):Int)]) (fun r=>V.bool r=.bool (aG4 l)) ?_ ?_ (s:=l[0]?) ⟨rfl,rfl⟩ rfl
 ·rintro j b s vs S hi ⟨rfl,rfl⟩ aD H
  rw [List.getElem?_drop,Nat.add_comm] at hi
  have hil:=(List.getElem?_eq_some_iff.1 hi).1
  have hj:l[j]?=some l[j]:=List.getElem?_eq_getElem (by omega)
  simp only [hj,aDl,hi] at H
  simp only [↓cw,↓reduceIte,Nat.reduceLT,kk,bO hi,aB5 hi,aB5 hj,Bal.enc,wrm (show j+1<1000000000 by omega),jO (show j+1<1000000000 by omega)]
  cases c:fU l[j].acc b.acc<;>simp only [↓cw,↓reduceIte,Nat.reduceLT,c,kk,if_true,if_false,Bool.false_eq_true] at H ⊢
  ·exact H
  ·exact H _ _ rfl
 ·rintro s vs S ⟨rfl,rfl⟩ aD H
  have hn:¬ (((l.drop 1).length+1:Nat):Int)<(l.length:Int):=by rw [List.length_drop];omega
  simp only [↓cw,↓reduceIte,Nat.reduceLT,kk,hn]
  exact H
theorem bPg (l:List Bal) (hb:l.length<1000000) (S:St) (K:KW):C 220 [.imm (l.map Bal.enc)] S K=K (.bool (aG4 l)) S:=(bKf l hb).eq S K
theorem bPh:apT prog 27=some (2,24):=by kernel_rfl
theorem bKg:nK 221=some (.spec ((Sp.ins 27).run prog)):=by kernel_rfl
theorem bEk (book l:List Bal) (hbb:book.length+l.length<1000000) (S:St) (K:KW):C 158 [.imm (book.map Bal.enc),.imm (l.map Bal.enc)] S K=K (.tup [.imm ((cC book l).1.map Bal.enc),.int .i64 (cC book l).2]) S:=by
 refine (bO8 rfl ?_).eq S K
 simp only [aYe,kk,bPg book (show book.length<1000000 by omega),cC]
 by_cases hr:aG4 book=true
 ·simp only [hr,kk,Bool.true_eq_false,if_false]
  obtain ⟨v0,S0,q0,x0,own0⟩:=aVu (b:=24) aW0 book pF (by omega) (by unfold eD;omega)
  simp only [q0,kk]
  refine aH l (step:=cJ) (fin:=fun l=>(l,0)) (fun i s vs S=>∃ v,vs=[.nils,.int .i64 0,v,.int .i64 (i:Int)]∧Own E0 S 2 v (s.map Bal.enc)∧WF S∧s.length≤book.length+i) (fun r=>r=aE cJ (fun l=>(l,0)) l book) ?_ ?_ (s:=book) ⟨_,rfl,own0,x0.wf pF,Nat.le_refl _⟩ rfl
  ·rintro i x s vs S hi ⟨v,rfl,own,w,hsl⟩ aD H
   have hil:=(List.getElem?_eq_some_iff.1 hi).1
   rw [rQ] at H
   simp only [aI0,kk,bO hi,aB5 hi,Bal.enc]
   obtain ⟨S1,hS1⟩:∃ S1:St,S1=⟨S.next+1,(S.heap.put S.next (.row 0 2 [[V.str [],.int .i64 0]])).put S.next (.row 0 2 [[.str x.acc,.int .i64 x.amount]])⟩:=⟨_,rfl⟩
   have x1:Ext S S1:=by rw [hS1];exact Ext.var w 2 _ _
   have w1:=x1.wf w
   have hg1:aC S1 S.next 0=.ok (2,[x.enc]):=by rw [hS1];exact aA _ _ _ _ _ _
   have own1:=own.ext x1
   have hlt1:S.next<S1.next:=by rw [hS1];exact Nat.lt_succ_self _
   rw [←hS1]
   have hva:∀ a ver m,v=.sl a ver 2 0 m→S.next≠a:=by
    intro a ver m hv
    rcases own.is with ⟨rfl,_⟩ | ⟨a',ver',tl,rfl,_,hlt,_⟩
    ·cases hv
    ·cases hv;omega
   have hlen:s.length<1000000:=by omega
   have hple:=tM s x.acc
   have hj1:∀ (v':V) (S':St),Own E0 S' 2 v' ((dD s x.acc).map Bal.enc)→WF S'→aC S' S.next 0=.ok (2,[x.enc])→aC2 C (fun v0 S0=>lS S0 v0=.ok (.tup [.imm ((aE cJ (fun l=>(l,0)) l book).1.map Bal.enc),.int .i64 (aE cJ (fun l=>(l,0)) l book).2])) aD .nils (.int .i64 0) v' (.ptr S.next 0 0 0) (.int .i64 (bW s x.acc:Int)) (.imm (l.map Bal.enc)) (.int .i64 (l.length:Int)) (.int .i64 (i:Int)) S':=by
    intro v' S' own' w' hg'
    obtain ⟨b,hb⟩:=oQ s x.acc
    obtain ⟨a,ver,_,_,_,e4,hat,set1⟩:=(own'.bump 13).setK (zG (w'.bump 13)) pF (i:=bW s x.acc) (cs:=b.enc) (by simp [hb]) .i64
    obtain ⟨S2,st1,x2,n2,own2,keep2,w2⟩:=set1 1 1 (.int .i64 (dQ b.amount x.amount).1) rfl rfl (by decide)
    have hld:=hat.load none 1
    simp only [adv,kk,Bal.enc] at hld
    have hfin:((dD s x.acc).map Bal.enc).set (bW s x.acc) (splice b.enc 1 [.int .i64 (dQ b.amount x.amount).1])=((dD s x.acc).set (bW s x.acc) ⟨b.acc,(dQ b.amount x.amount).1⟩).map Bal.enc:=by rw [List.map_set];rfl
    simp only [V.cells] at own2
    rw [hfin] at own2
    simp only [hb,Option.map_some,Option.getD_some,kk] at H
    have hg2:aC ⟨S'.next+13,S'.heap⟩ S.next 0=.ok (2,[x.enc]):=hg'
    simp only [Bal.enc] at hg2
    simp only [aC2,e4,kk,hld,hg2,aYt,fZ,jO (show i<1000000000 by omega),st1]
    by_cases h0:(dQ b.amount x.amount).2=0
    ·simp only [h0,kk,not_true_eq_false,if_false] at H ⊢
     exact H _ _ ⟨_,rfl,own2,w2 (w'.bump 13),by rw [List.length_set];have:=aB2 s x.acc;omega⟩
    ·simp only [h0,kk,not_false_eq_true,if_true] at H ⊢
     simp only [oo,←H,List.map_nil]
   have hj2:∀ (S':St),Own E0 S' 2 v (s.map Bal.enc)→WF S'→aC S' S.next 0=.ok (2,[x.enc])→S.next<S'.next→yR C (fun v0 S0=>lS S0 v0=.ok (.tup [.imm ((aE cJ (fun l=>(l,0)) l book).1.map Bal.enc),.int .i64 (aE cJ (fun l=>(l,0)) l book).2])) aD .nils (.int .i64 0) v (.ptr S.next 0 0 0) (.int .i64 (bW s x.acc:Int)) (.imm (l.map Bal.enc)) (.int .i64 (l.length:Int)) (.int .i64 (i:Int)) (.bool (oP s x.acc)) S':=by
    intro S' own' w' hg' hlt'
    cases hm:oP s x.acc
    ·simp only [yR,kk]
     exact hj1 v S' (by rw [show dD s x.acc=s by simp [dD,hm]];exact own') w' hg'
    ·obtain ⟨v2,S2,q1,w2,own2,keep2⟩:=bDe bPh (by decide) own' w' (aW0 ⟨x.acc,0⟩) (by simp;omega) (by simp [eD];omega) (i:=bW s x.acc) (by simpa using hple)
     rw [←pS] at own2
     have hg2:=aY hg' (keep2 S.next hlt' hva)
     simp only [Bal.enc] at hg' q1
     simp only [yR,kk,hg',bJz]
     rw [aVx bKg q1]
     exact hj1 v2 S2 (by rw [show dD s x.acc=fL s (bW s x.acc) ⟨x.acc,0⟩ by simp [dD,hm]];exact own2) w2 hg2
   have hj0:∀ (S':St),Own E0 S' 2 v (s.map Bal.enc)→WF S'→aC S' S.next 0=.ok (2,[x.enc])→S.next<S'.next→aC3 C (fun v0 S0=>lS S0 v0=.ok (.tup [.imm ((aE cJ (fun l=>(l,0)) l book).1.map Bal.enc),.int .i64 (aE cJ (fun l=>(l,0)) l book).2])) aD .nils (.int .i64 0) v (.ptr S.next 0 0 0) (.int .i64 (bW s x.acc:Int)) (.imm (l.map Bal.enc)) (.int .i64 (l.length:Int)) (.int .i64 (i:Int)) S':=by
    intro S' own' w' hg' hlt'
    have h2:=hj2 ⟨S'.next+14,S'.heap⟩ (own'.bump 14) (w'.bump 14) hg' (by show S.next<S'.next+14;omega)
    have hgb:aC ⟨S'.next+14,S'.heap⟩ S.next 0=.ok (2,[x.enc]):=hg'
    simp only [Bal.enc] at hgb
    simp only [aC3,own'.sl.lenI,kk]
    by_cases hk:bW s x.acc=s.length
    ·have hm:oP s x.acc=true:=by unfold oP;rw [hk,List.getElem?_eq_none (Nat.le_refl _)]
     rw [hm] at h2
     simp only [hk,kk,eq_self,if_true]
     rw [hk] at h2
     exact h2
    ·have hlt:bW s x.acc<s.length:=by omega
     have hb:s[bW s x.acc]?=some s[bW s x.acc]:=List.getElem?_eq_getElem hlt
     have hm:oP s x.acc=!((s[bW s x.acc]).acc == x.acc):=by unfold oP;rw [hb]
     rw [hm] at h2
     obtain ⟨p,hp,hat,_,_⟩:=(own'.bump 14).sl.elem hb
     have hld:=hat.load none 0
     simp only [Bal.enc,kk] at hld
     simp only [show ¬ ((bW s x.acc:Nat):Int)=(s.length:Int) by omega,kk,if_false,hp,hat.advW,hld,hgb]
     exact h2
   refine aH s (step:=fS (fun b:Bal=>fU b.acc x.acc)) (fin:=id) (fun k n vs S'=>n=k∧vs=[.int .i64 (k:Int)]∧S'.heap=S1.heap∧S1.next≤S'.next) (fun r=>r=bW s x.acc) ?_ ?_ ⟨rfl,rfl,rfl,Nat.le_refl _⟩ rfl
   ·rintro k b n vs S' hk ⟨rfl,rfl,hh,hn⟩ again' H'
    have hkl:=(List.getElem?_eq_some_iff.1 hk).1
    have hown:∀ c,Own E0 ⟨S'.next+c,S'.heap⟩ 2 v (s.map Bal.enc):=fun c=>own1.same (by show S1.next≤S'.next+c;omega) (fun a _=>by show S'.heap.get a=_;rw [hh])
    have hw:∀ c,WF ⟨S'.next+c,S'.heap⟩:=fun c a b hb=>by
     have hb:S'.heap.get a=some b:=hb
     rw [hh] at hb;have:=w1 a b hb;show a<S'.next+c;omega
    have hgr:∀ c,aC ⟨S'.next+c,S'.heap⟩ S.next 0=.ok (2,[x.enc]):=fun c=>by
     show aC ⟨S'.next,S'.heap⟩ S.next 0=_
     rw [hh];exact hg1
    have hgb:=hgr 14
    simp only [Bal.enc] at hgb
    obtain ⟨p,hp,hat,_,_⟩:=(hown 14).sl.elem hk
    have hld:=hat.load none 0
    simp only [Bal.enc,kk] at hld
    simp only [fS] at H'
    simp only [aHz,kk,own1.sl.lenI,bO hk,hp,hat.advW,hld,hgb,jO (show n<1000000000 by omega)]
    cases c:fU b.acc x.acc<;>simp only [c,kk,if_true,if_false,Bool.false_eq_true] at H' ⊢
    ·have:=hj0 ⟨S'.next+14,S'.heap⟩ (hown 14) (hw 14) (hgr 14) (by show S.next<S'.next+14;omega)
     rw [←H'] at this
     exact this
    ·exact H' _ _ ⟨rfl,hh,by show S1.next≤S'.next+14;omega⟩
   ·rintro n vs S' ⟨rfl,rfl,hh,hn⟩ again' H'
    have hown:∀ c,Own E0 ⟨S'.next+c,S'.heap⟩ 2 v (s.map Bal.enc):=fun c=>own1.same (by show S1.next≤S'.next+c;omega) (fun a _=>by show S'.heap.get a=_;rw [hh])
    have hw:∀ c,WF ⟨S'.next+c,S'.heap⟩:=fun c a b hb=>by
     have hb:S'.heap.get a=some b:=hb
     rw [hh] at hb;have:=w1 a b hb;show a<S'.next+c;omega
    have hgr:∀ c,aC ⟨S'.next+c,S'.heap⟩ S.next 0=.ok (2,[x.enc]):=fun c=>by
     show aC ⟨S'.next,S'.heap⟩ S.next 0=_
     rw [hh];exact hg1
    have H':s.length=bW s x.acc:=H'
    simp only [aHz,kk,own1.sl.lenI,Int.lt_irrefl]
    have:=hj0 ⟨S'.next+14,S'.heap⟩ (hown 14) (hw 14) (hgr 14) (by show S.next<S'.next+14;omega)
    rw [←H'] at this
    exact this
  ·rintro s vs S ⟨v,rfl,own,w,_⟩ aD H
   have H':aE cJ (fun l=>(l,0)) l book=(s,0):=H.symm
   simp only [aI0,kk,Int.lt_irrefl,oo,own.frz (aO (fun _=>rfl) _),H']
 ·have hr:aG4 book=false:=by simpa using hr
  simp only [hr,kk,oo,if_true,List.map_nil]
end Go.Proofs.YtoaibmbldmckaaaGreat
end
section
namespace Go.Proofs.YtoaibmbldmckaaaGreat
open Go.AM Tryz
theorem bPi (tab:List Rate) (d:Date) (l:Line) (S:St) (K:KW):C 268 [.imm (tab.map Rate.enc),.agg [.int .i64 d.y,.int .i64 d.m,.int .i64 d.d],.agg [.str l.text,.str l.cat,.int .i64 l.count,.int .i64 l.price]] S K=K (aVp (fD tab d l)) S:=by
 refine (bO0 rfl ?_).eq S K
 delta Tryz.f268;simp only [↓cw,↓reduceIte,Nat.reduceLT,kk,eG,aVt,bPd,bOv,fD,aVp,fZ]
 by_cases c1:64<l.text.length
 ·simp only [↓cw,↓reduceIte,Nat.reduceLT,c1,show (64:Int)<(l.text.length:Int) by omega,kk,oo,if_true]
 simp only [↓cw,↓reduceIte,Nat.reduceLT,c1,show ¬ (64:Int)<(l.text.length:Int) by omega,kk,if_false]
 cases c2:dR l.cat
 ·simp only [↓cw,↓reduceIte,Nat.reduceLT,c2,kk,oo,if_true]
 simp only [↓cw,↓reduceIte,Nat.reduceLT,c2,kk,Bool.true_eq_false,if_false]
 by_cases c3:l.count<1
 ·simp only [↓cw,↓reduceIte,Nat.reduceLT,c3,kk,oo,true_or,if_true]
 by_cases c4:1048576<l.count
 ·simp only [↓cw,↓reduceIte,Nat.reduceLT,c3,c4,kk,oo,or_true,if_true,if_false]
 simp only [↓cw,↓reduceIte,Nat.reduceLT,c3,c4,kk,if_false,or_self]
 cases c5:(iS tab l.cat d).2
 ·simp only [↓cw,↓reduceIte,Nat.reduceLT,c5,kk,oo,if_true]
 ·simp only [↓cw,↓reduceIte,Nat.reduceLT,c5,kk,oo,Bool.true_eq_false,if_false]
theorem bPj:apT prog 80=some (4,40):=by kernel_rfl
theorem bKh:nK 280=some (.spec ((Sp.ins 80).run prog)):=by kernel_rfl
theorem bPk {P:Program} {T:TypeId} {n b:Nat} (hT:apT P T=some (n,b)) (hn:1<n) {S0 S:St} {v:V} {es:List (List V)} (h:Own S0 S n v es) (x:Ext S0 S) (w:WF S0) {c:List V} (hc:c.length=n∧aF c=true) (h1:(es.length+1)*b≤35184372088832) (h2:es.length+1<eD) {i:Nat} (hi:i≤es.length):
  ∃ v' S',iA P T v (.int .i64 (i:Int)) (.sl S.next 0 n 0 1) ⟨S.next+1,S.heap.put S.next (.row 0 n [c])⟩=.ok (v',S')∧Ext S0 S'∧Own S0 S' n v' (es.take i++c::es.drop i):=by
 have x1:Ext S ⟨S.next+1,S.heap.put S.next (.row 0 n [c])⟩:=Ext.new (x.wf w) _
 obtain ⟨v',S',q1,q2,q3,_⟩:=(h.ext x1).insertK hT hn (x.trans x1) w (bx:=S.next) (c:=c) (aA _ _ _ _ _ _) (fun a ver m hv=>by
  rcases h.is with ⟨rfl,_⟩ | ⟨a',ver',tl,rfl,_,hlt,_⟩
  ·cases hv
  ·cases hv;omega) hc h1 h2 hi
 exact ⟨v',S',q1,q2,q3⟩
theorem bPl {S0 S:St} {v:V} {l:List Part} (own:Own S0 S 4 v (l.map Part.enc)) (x:Ext S0 S) (w:WF S0) (hl:l.length≤1000) (cat:List UInt8) (bp n:Int) {K:KW} (H:∀ v' S',Ext S0 S'→Own S0 S' 4 v' ((sP l cat bp n).1.map Part.enc)→K (.tup [v',.int .i64 (sP l cat bp n).2]) S'):C 269 [v,.str cat,.int .i64 bp,.int .i64 n] S K:=by
 refine bOe ?_
 simp only [aYk]
 have hple:=rR l cat
 have hlen:lenW v=.ok (.int .i64 (l.length:Int)):=own.sl.lenI
 have hj1:∀ (v':V) (S':St),Ext S0 S'→Own S0 S' 4 v' ((dE l cat bp).map Part.enc)→aC6 C K v' (.int .i64 n) (.int .i64 (bI l cat:Int)) S':=by
  intro v' S' x' own'
  obtain ⟨b,hb⟩:=rT l cat bp
  obtain ⟨a,ver,_,_,_,e4,hat,set1⟩:=own'.setK x' w (i:=bI l cat) (cs:=b.enc) (by simp [hb]) .i64
  obtain ⟨S2,st1,x2,n2,own2,keep2,w2⟩:=set1 2 1 (.int .i64 (dQ b.net n).1) rfl rfl (by decide)
  have hld:=hat.load none 2
  simp only [adv,kk,Part.enc] at hld
  have hfin:((dE l cat bp).map Part.enc).set (bI l cat) (splice b.enc 2 [.int .i64 (dQ b.net n).1])=((dE l cat bp).set (bI l cat) { b with net:=(dQ b.net n).1 }).map Part.enc:=by rw [List.map_set];rfl
  simp only [V.cells] at own2
  rw [hfin] at own2
  have hput:sP l cat bp n=((dE l cat bp).set (bI l cat) { b with net:=(dQ b.net n).1 },(dQ b.net n).2):=by simp only [sP,hb]
  simp only [aC6,e4,kk,hld,aYt,fZ,st1]
  have:=H v' S2 x2 (by rw [hput];exact own2)
  rw [hput] at this
  exact this
 have hj2:yS C K v (.str cat) (.int .i64 bp) (.int .i64 n) (.int .i64 (bI l cat:Int)) (.bool (kG l cat)) S:=by
  cases hm:kG l cat
  ·simp only [yS,kk,Bool.false_eq_true,if_false]
   exact hj1 v S x (by rw [show dE l cat bp=l by simp [dE,hm]];exact own)
  ·obtain ⟨v2,S2,q1,x2,own2⟩:=bPk bPj (by decide) own x w (aPc ⟨cat,bp,0,0⟩) (by simp;omega) (by simp [eD];omega) (i:=bI l cat) (by simpa using hple)
   rw [←pS] at own2
   simp only [Part.enc] at q1
   simp only [yS,kk,if_true,aVv]
   rw [aVx bKh q1]
   exact hj1 v2 S2 x2 (by rw [show dE l cat bp=fL l (bI l cat) ⟨cat,bp,0,0⟩ by simp [dE,hm]];exact own2)
 have hj0:aC7 C K v (.str cat) (.int .i64 bp) (.int .i64 n) (.int .i64 (bI l cat:Int)) S:=by
  simp only [aC7,kk,hlen]
  by_cases hk:bI l cat=l.length
  ·have hm:kG l cat=true:=by unfold kG;rw [hk,List.getElem?_eq_none (Nat.le_refl _)]
   rw [hm] at hj2
   rw [hk] at hj2
   simp only [hk,kk,if_true]
   exact hj2
  ·have hlt:bI l cat<l.length:=by omega
   have hb:l[bI l cat]?=some l[bI l cat]:=List.getElem?_eq_getElem hlt
   have hm:kG l cat=!((l[bI l cat]).cat == cat):=by unfold kG;rw [hb]
   rw [hm] at hj2
   obtain ⟨p,hp,hat,_,_⟩:=own.sl.elem hb
   have hld:=hat.load none 0
   simp only [Part.enc,kk] at hld
   simp only [show ¬ ((bI l cat:Nat):Int)=(l.length:Int) by omega,kk,if_false,hp,hat.advW,hld]
   exact hj2
 refine aH l (step:=fS (fun b:Part=>fU b.cat cat)) (fin:=id) (fun k n vs S'=>n=k∧vs=[.int .i64 (k:Int)]∧S'=S) (fun r=>r=bI l cat) ?_ ?_ ⟨rfl,rfl,rfl⟩ rfl
 ·rintro k b m vs S' hk ⟨rfl,rfl,rfl⟩ again' H'
  have hkl:=(List.getElem?_eq_some_iff.1 hk).1
  obtain ⟨p,hp,hat,_,_⟩:=own.sl.elem hk
  have hld:=hat.load none 0
  simp only [Part.enc,kk] at hld
  simp only [fS] at H'
  simp only [aI5,kk,hlen,bO hk,hp,hat.advW,hld,jO (show m<1000000000 by omega)]
  cases c:fU b.cat cat<;>simp only [c,kk,if_true,if_false,Bool.false_eq_true] at H' ⊢
  ·rw [←H'] at hj0
   exact hj0
  ·exact H' _ _ ⟨rfl,rfl⟩
 ·rintro m vs S' ⟨rfl,rfl,rfl⟩ again' H'
  have H':l.length=bI l cat:=H'
  simp only [aI5,kk,hlen,Int.lt_irrefl,if_false]
  rw [←H'] at hj0
  exact hj0
end Go.Proofs.YtoaibmbldmckaaaGreat
end
section
namespace Go.AM
theorem Own.one {S0 S:St} {n:Nat} {v:V} {es:List (List V)} (h:Own S0 S n v es):v.one=true:=by
 rcases h.is with ⟨rfl,_⟩ | ⟨a,ver,tl,rfl,_⟩<;>rfl
theorem Own.cells {S0 S:St} {n:Nat} {v:V} {es:List (List V)} (h:Own S0 S n v es):v.cells=[v]:=by
 rcases h.is with ⟨rfl,_⟩ | ⟨a,ver,tl,rfl,_⟩<;>rfl
theorem Own.lt {S0 S:St} {n:Nat} {v:V} {es:List (List V)} (h:Own S0 S n v es):∀ a ver m,v=.sl a ver n 0 m→a<S.next:=by
 intro a ver m hv
 rcases h.is with ⟨rfl,_⟩ | ⟨a',ver',tl,rfl,_,hlt,_⟩
 ·cases hv
 ·cases hv;exact hlt
theorem Own.ld {S0 S:St} {n:Nat} {v:V} {es:List (List V)} (h:Own S0 S n v es) {a ver m:Nat} (hv:v=.sl a ver n 0 m) {i:Nat} {cs:List V} (hi:es[i]?=some cs) (k:Option Nat) (j:Nat):gX k (.ptr a ver i j) S=gW k cs j:=by
 rcases h.is with ⟨rfl,rfl⟩ | ⟨a',ver',tl,rfl,q1,q2,q3⟩
 ·simp at hi
 ·cases hv
  have hil:=(List.getElem?_eq_some_iff.1 hi).1
  have hg:(es++tl)[i]?=some cs:=by rw [List.getElem?_append_left hil];exact hi
  simp only [ldP,aI q3,hg]
theorem Own.put {S0 S:St} {n:Nat} {v:V} {es:List (List V)} (h:Own S0 S n v es) {k m:Nat} {b:Blk} (hm:S.next≤m) (hk:∀ a ver m,v=.sl a ver n 0 m→k≠a):Own S0 ⟨m,S.heap.put k b⟩ n v es:=
 h.other hm fun a ver m hv=>Tr.get_put_neB _ _ _ _ trivial (Ne.symm (hk a ver m hv))
theorem Ext.put {S S':St} (h:Ext S S') {a m:Nat} (ha:S.next≤a) (hb:a<m) (hm:S'.next≤m) (w:WF S) (b:Blk):Ext S ⟨m,S'.heap.put a b⟩:=
 ⟨fun y c hy=>by
  show (S'.heap.put a b).get y=some c
  have:=w y c hy
  rw [Tr.get_put_neB _ _ _ _ trivial (by omega)];exact h.old y c hy,Nat.le_trans h.next hm,fun ww=>jN (h.wf ww) hb hm⟩
end Go.AM
namespace Go.Proofs.YtoaibmbldmckaaaGreat
open Go.AM Tryz
set_option linter.unusedVariables false
set_option linter.unusedSimpArgs false
set_option maxRecDepth 100000
theorem bPm {S0 S:St} {v:V} {l:List Part} (own:Own S0 S 4 v (l.map Part.enc)) (x:Ext S0 S) (w:WF S0) (hl:l.length≤1000) {K:KW}
  (H:∀ v' S',Ext S0 S'→Own S0 S' 4 v' ((eO l).1.parts.map Part.enc)→K (.tup [.agg [.int .i64 (eO l).1.net,.int .i64 (eO l).1.tax,.int .i64 (eO l).1.gross,v'],.int .i64 (eO l).2]) S'):C 270 [v] S K:=by
 refine bOg ?_
 have hlen:lenW v=.ok (.int .i64 (l.length:Int)):=own.sl.lenI
 have h1:=own.one
 have hlt:=own.lt
 have h2:=own.cells
 simp only [aYm,kk,h1,h2,hlen]
 have hn:=x.next
 refine aH l (step:=gD) (fin:=lU) (fun i s vs S'=>vs=[.int .i64 0,.int .i64 (i:Int)]∧Ext S0 S'∧Own S0 S' 4 v ((s.2.2++l.drop i).map Part.enc)∧s.2.2.length=i∧S.next+2≤S'.next∧aC S' S.next 0=.ok (4,[[.int .i64 0,.int .i64 0,.int .i64 0,.nils]])∧aC S' (S.next+1) 0=.ok (4,[[.int .i64 s.1,.int .i64 s.2.1,.int .i64 0,v]])) (fun r=>r=eO l) ?_ ?_ (s:=(0,0,[])) ⟨rfl,?_,?_,rfl,?_,?_,?_⟩ rfl
 ·rintro i p ⟨net,tax,done⟩ vs S' hi ⟨rfl,x',own',hd,hn',hg0,hg1⟩ aD Hq
  have hil:=(List.getElem?_eq_some_iff.1 hi).1
  obtain ⟨a,ver,hv,ha,hb,e4,hat,set1⟩:=(own'.bump 17).setK (x'.bump 17) w (i:=i) (cs:=p.enc) (by
   rw [List.getElem?_map,List.getElem?_append_right (by omega),hd,Nat.sub_self,List.getElem?_drop,Nat.add_zero,hi];rfl) .i64
  obtain ⟨S2,st1,x2,n2,own2,keep2,w2⟩:=set1 3 1 (.int .i64 (bG p.net p.bp).1) rfl rfl (by decide)
  have hav:=hlt a ver _ hv
  have hld2:=hat.load none 2
  have hld1:=hat.load none 1
  simp only [adv,kk,Part.enc] at hld1 hld2
  have hne0:a≠S.next:=by omega
  have hne1:a≠S.next+1:=by omega
  have k0:=aY (S:=⟨S'.next+17,S'.heap⟩) hg0 (keep2 S.next (Ne.symm hne0))
  have k1:=aY (S:=⟨S'.next+17,S'.heap⟩) hg1 (keep2 (S.next+1) (Ne.symm hne1))
  have hes:((done++l.drop i).map Part.enc).set i (splice p.enc 3 [.int .i64 (bG p.net p.bp).1])=((done++[{ p with tax:=(bG p.net p.bp).1 }])++l.drop (i+1)).map Part.enc:=by
   have hd':done.length=i:=hd
   rw [List.drop_eq_getElem_cons hil,(List.getElem?_eq_some_iff.1 hi).2]
   simp only [List.map_append,List.map_cons,List.map_nil,List.append_assoc,List.singleton_append]
   rw [List.set_append_right _ _ (by simp;omega)]
   simp only [List.length_map,hd',Nat.sub_self,List.set_cons_zero]
   rfl
  simp only [V.cells] at own2
  rw [hes] at own2
  have hi2:(((done++[{ p with tax:=(bG p.net p.bp).1 }])++l.drop (i+1)).map Part.enc)[i]?=some (Part.enc { p with tax:=(bG p.net p.bp).1 }):=by
   have hd':done.length=i:=hd
   rw [List.getElem?_map,List.getElem?_append_left (by simp;omega),List.getElem?_append_right (by omega),hd',Nat.sub_self];rfl
  have ow3:∀ (m:Nat) (b:Blk),S2.next≤m→Own S0 ⟨m,S2.heap.put (S.next+1) b⟩ 4 v (((done++[{ p with tax:=(bG p.net p.bp).1 }])++l.drop (i+1)).map Part.enc):=fun m b hm=>own2.put hm fun a ver m hv=>by have:=hlt a ver m hv;omega
  have ld3:∀ (m:Nat) (b:Blk) (k:Option Nat) (j:Nat),S2.next≤m→gX k (.ptr a ver i j) ⟨m,S2.heap.put (S.next+1) b⟩=gW k (Part.enc { p with tax:=(bG p.net p.bp).1 }) j:=fun m b k j hm=>(ow3 m b hm).ld hv hi2 k j
  have ld2:∀ k j,gX k (.ptr a ver i j) ⟨S2.next+13,S2.heap⟩=gW k (Part.enc { p with tax:=(bG p.net p.bp).1 }) j:=fun k j=>(own2.bump 13).ld hv hi2 k j
  have l2:=ld2 none 2
  have l3:=fun m b hm=>ld3 m b none 3 hm
  simp only [gD] at Hq
  simp only [kk,Part.enc] at l2 l3
  have hn2:S2.next=S'.next+17:=n2
  have g0:∀ (m:Nat) (b:Blk),aC ⟨m,S2.heap.put (S.next+1) b⟩ S.next 0=.ok (4,[[V.int IntKind.i64 0,V.int IntKind.i64 0,V.int IntKind.i64 0,V.nils]]):=fun m b=>by
   rw [cM _ S2.next _ _ _ _ _ (by omega)];exact k0
  have x3:∀ (m:Nat) (b:Blk),S2.next≤m→Ext S0 ⟨m,S2.heap.put (S.next+1) b⟩:=fun m b hm=>x2.put (by omega) (by omega) hm w b
  simp only [aI6,kk,bO hi,e4,hld1,hld2,aYu,aYt,fZ,st1,jO (show i<1000000000 by omega),gm,k1,l2,l3 _ _ (show S2.next≤S2.next+13+13 by omega)]
  obtain ⟨S9,hS9⟩:∃ S9:St,S9=⟨S2.next+13+13,(S2.heap.put (S.next+1) (Blk.row 0 4 [[V.int IntKind.i64 (dQ net p.net).1,V.int IntKind.i64 tax,V.int IntKind.i64 0,v]])).put (S.next+1) (Blk.row 0 4 [[V.int IntKind.i64 (dQ net p.net).1,V.int IntKind.i64 (dQ tax (bG p.net p.bp).1).1,V.int IntKind.i64 0,v]])⟩:=⟨_,rfl⟩
  have x9:Ext S0 S9:=by rw [hS9];exact (x3 S2.next _ (Nat.le_refl _)).put (by omega) (by omega) (show S2.next≤S2.next+13+13 by omega) w _
  have o9:Own S0 S9 4 v (((done++[{ p with tax:=(bG p.net p.bp).1 }])++l.drop (i+1)).map Part.enc):=by rw [hS9];exact (ow3 S2.next _ (Nat.le_refl _)).put (show S2.next≤S2.next+13+13 by omega) fun a ver m hv=>by have:=hlt a ver m hv;omega
  have r9:aC S9 S.next 0=.ok (4,[[V.int IntKind.i64 0,V.int IntKind.i64 0,V.int IntKind.i64 0,V.nils]]):=by rw [hS9,cM _ S2.next _ _ _ _ _ (by omega)];exact g0 _ _
  have q9:aC S9 (S.next+1) 0=.ok (4,[[V.int IntKind.i64 (dQ net p.net).1,V.int IntKind.i64 (dQ tax (bG p.net p.bp).1).1,V.int IntKind.i64 0,v]]):=by rw [hS9];exact aA _ _ _ _ _ _
  have n9:S.next+2≤S9.next:=by rw [hS9];show _≤S2.next+13+13;omega
  rw [←hS9]
  have fail:eO l=(Total.zero,7)→uQ C K aD v (V.ptr S.next 0 0 0) (V.int IntKind.i64 0) (V.ptr (S.next+1) 0 0 0) (V.int IntKind.i64 ↑l.length) (V.int IntKind.i64 ↑i) (V.bool true) S9:=by
   intro he
   have:=H .nils ⟨S9.next,S9.heap.put S.next (.row 0 4 [[.int .i64 0,.int .i64 0,.int .i64 0,.nils]])⟩ (x9.put hn (by omega) (Nat.le_refl _) w _) (by rw [he];exact Own.nil _ _ _)
   simp only [he,Total.zero] at this
   simp only [uQ,kk,r9]
   exact this
  by_cases c1:(bG p.net p.bp).2=0
  ·by_cases c2:(dQ net p.net).2=0
   ·simp only [c1,c2,kk,not_true_eq_false,not_false_eq_true,false_or,if_false,if_true] at Hq ⊢
    by_cases c3:(dQ tax (bG p.net p.bp).1).2=0
    ·simp only [c3,kk,not_true_eq_false,if_false] at Hq ⊢
     simp only [uQ,kk,jO (show i<1000000000 by omega),decide_true,decide_false,Bool.false_eq_true,if_false]
     exact Hq _ _ ⟨rfl,x9,o9,by have hd':done.length=i:=hd;simp;omega,n9,r9,q9⟩
    ·simp only [c3,kk,not_false_eq_true,if_true,decide_false] at Hq ⊢
     exact fail Hq.symm
   ·simp only [c1,c2,kk,not_true_eq_false,not_false_eq_true,false_or,true_or,if_false,if_true] at Hq ⊢
    exact fail Hq.symm
  ·simp only [c1,kk,not_false_eq_true,true_or,if_true] at Hq ⊢
   exact fail Hq.symm
 ·rintro ⟨net,tax,done⟩ vs S' ⟨rfl,x',own',hd,hn',hg0,hg1⟩ aD Hq
  rw [List.drop_length,List.append_nil] at own'
  simp only [lU] at Hq
  simp only [aI6,kk,Int.lt_irrefl,if_false,hg1,aYt,fZ]
  by_cases c:(dQ net tax).2=0
  ·simp only [c,kk,not_true_eq_false,if_false] at Hq ⊢
   have hb:∀ (k:Nat) (b:Blk),aC ⟨S'.next,S'.heap.put (S.next+1) b⟩ S.next 0=.ok (4,[[V.int IntKind.i64 0,V.int IntKind.i64 0,V.int IntKind.i64 0,V.nils]]):=fun k b=>by rw [cM _ S'.next _ _ _ _ _ (by omega)];exact hg0
   simp only [hb 0,kk,h1,h2,gm]
   have x1:=x'.put (a:=S.next+1) (m:=S'.next) (by omega) (by omega) (Nat.le_refl _) w (.row 0 4 [[.int .i64 net,.int .i64 tax,.int .i64 (dQ net tax).1,v]])
   have o1:=own'.put (k:=S.next+1) (m:=S'.next) (b:=.row 0 4 [[.int .i64 net,.int .i64 tax,.int .i64 (dQ net tax).1,v]]) (Nat.le_refl _) fun a ver m hv=>by have:=hlt a ver m hv;omega
   have:=H v _ (x1.put (a:=S.next) (m:=S'.next) hn (by omega) (Nat.le_refl _) w (.row 0 4 [[.int .i64 net,.int .i64 tax,.int .i64 (dQ net tax).1,v]])) (by rw [←Hq];exact o1.put (Nat.le_refl _) fun a ver m hv=>by have:=hlt a ver m hv;omega)
   rw [←Hq] at this
   exact this
  ·simp only [c,kk,not_false_eq_true,if_true] at Hq ⊢
   simp only [hg0,kk]
   have:=H .nils ⟨S'.next,S'.heap.put S.next (.row 0 4 [[.int .i64 0,.int .i64 0,.int .i64 0,.nils]])⟩ (x'.put hn (by omega) (Nat.le_refl _) w _) (by rw [←Hq];exact Own.nil _ _ _)
   rw [←Hq] at this
   exact this
 ·exact ((x.put (m:=S.next+1+1) hn (by omega) (by omega) w _).put (m:=S.next+1+1) (by omega) (by omega) (Nat.le_refl _) w _).put (m:=S.next+1+1) (by omega) (by omega) (Nat.le_refl _) w _
 ·rw [List.nil_append,List.drop_zero]
  have nn:∀ k,S.next≤k→∀ a ver m,v=.sl a ver 4 0 m→k≠a:=fun k hk a ver m hv=>by have:=hlt a ver m hv;omega
  exact ((own.put (m:=S.next+1+1) (by omega) (nn _ (Nat.le_refl _))).put (Nat.le_refl _) (nn _ (by omega))).put (Nat.le_refl _) (nn _ (by omega))
 ·exact Nat.le_refl _
 ·rw [cM _ S.next _ _ _ _ _ (by omega),cM _ S.next _ _ _ _ _ (by omega)];exact aA _ _ _ _ _ _
 ·exact aA _ _ _ _ _ _
end Go.Proofs.YtoaibmbldmckaaaGreat
end
section
namespace Go.AM
theorem Own.out {S0 S:St} {n:Nat} {v:V} {α:Type} {enc:α→List V} {l:List α} (h:Own S0 S n v (l.map enc)) (hc:∀ x,cloVs (enc x)=true):cF jL (jU (gO S 3) S) v=.ok (.imm (l.map enc)):=h.frz (aO hc _)
end Go.AM
namespace Go.Proofs.YtoaibmbldmckaaaGreat
open Go.AM Tryz
set_option linter.unusedVariables false
set_option linter.unusedSimpArgs false
set_option maxRecDepth 100000
def aMs (r:Total×Int):V:=.tup [.agg [.int .i64 r.1.net,.int .i64 r.1.tax,.int .i64 r.1.gross,.imm (r.1.parts.map Part.enc)],.int .i64 r.2]
theorem bPn (tab:List Rate) (d:Date) (lines:List Line) (hll:lines.length<1000000) (S:St) (K:KW):C 238 [.imm (tab.map Rate.enc),.agg [.int .i64 d.y,.int .i64 d.m,.int .i64 d.d],.imm (lines.map Line.enc)] S K=K (aMs (dB tab d lines)) S:=by
 refine (bNu rfl ?_).eq S K
 delta Tryz.f238;simp only [↓cw,↓reduceIte,Nat.reduceLT,kk,eG,g85,aK5,dB,aMs]
 cases h1:gE tab
 ·simp only [↓cw,↓reduceIte,Nat.reduceLT,h1,kk,oo,if_true,Total.zero,List.map_nil]
 cases h2:d.right
 ·simp only [↓cw,↓reduceIte,Nat.reduceLT,h1,h2,kk,eG,oo,if_true,Bool.true_eq_false,if_false,Total.zero,List.map_nil]
 simp only [↓cw,↓reduceIte,Nat.reduceLT,h1,h2,kk,Bool.true_eq_false,if_false,eG,aK5]
 by_cases h3:lines.length=0
 ·simp only [↓cw,↓reduceIte,Nat.reduceLT,h3,kk,eG,oo,show ((0:Nat):Int)=0 from rfl,if_true,Total.zero,List.map_nil]
 by_cases h4:12<lines.length
 ·simp only [↓cw,↓reduceIte,Nat.reduceLT,h3,h4,kk,eG,oo,show ¬ (lines.length:Int)=0 by omega,show (12:Int)<(lines.length:Int) by omega,if_true,if_false,Total.zero,List.map_nil]
 simp only [↓cw,↓reduceIte,Nat.reduceLT,h3,h4,kk,eG,show ¬ (lines.length:Int)=0 by omega,show ¬ (12:Int)<(lines.length:Int) by omega,if_false]
 obtain ⟨S0,hS0⟩:∃ S0:St,S0=⟨1+1,(Tr.nil.put 0 (.row 0 3 [d.enc])).put 1 (.row 0 4 [[.int .i64 0,.int .i64 0,.int .i64 0,.nils]])⟩:=⟨_,rfl⟩
 have w0:WF S0:=by rw [hS0];exact jN (n:=1) (jN pF (by decide) (by decide)) (by decide) (by decide)
 have a0:aC S0 0 0=.ok (3,[d.enc]):=by rw [hS0];rfl
 have a1:aC S0 1 0=.ok (4,[[.int .i64 0,.int .i64 0,.int .i64 0,.nils]]):=by rw [hS0];rfl
 have n0:S0.next=2:=by rw [hS0]
 simp only [Date.enc] at a0
 refine aH lines (step:=iW tab d) (fin:=eO) (fun i s vs S=>∃ v,vs=[.int .i64 0,v,.int .i64 (i:Int)]∧Own S0 S 4 v (s.map Part.enc)∧Ext S0 S∧s.length≤i) (fun r=>r=aE (iW tab d) eO lines []) ?_ ?_ (s:=[]) ⟨_,rfl,Own.nil _ _ _,by rw [hS0];exact Ext.refl _,Nat.le_refl _⟩ rfl
 ·rintro i l s vs S hi ⟨v,rfl,own,x,hsl⟩ aD H
  have hil:=(List.getElem?_eq_some_iff.1 hi).1
  simp only [iW] at H
  have hn:=x.next
  have b0:=x.row a0
  have b1:=x.row a1
  have z0:((0:Nat)=S.next)=False:=by simp;omega
  have z1:((1:Nat)=S.next)=False:=by simp;omega
  have x1:Ext S0 ⟨S.next+1,(S.heap.put S.next (.row 0 4 [[.str [],.str [],.int .i64 0,.int .i64 0]])).put S.next (.row 0 4 [l.enc])⟩:=(x.put (m:=S.next+1) hn (by omega) (by omega) w0 _).put (m:=S.next+1) hn (by omega) (Nat.le_refl _) w0 _
  have nn:∀ a ver m,v=.sl a ver 4 0 m→S.next≠a:=fun a ver m hv=>by have:=own.lt a ver m hv;omega
  have o1:Own S0 ⟨S.next+1,(S.heap.put S.next (.row 0 4 [[.str [],.str [],.int .i64 0,.int .i64 0]])).put S.next (.row 0 4 [l.enc])⟩ 4 v (s.map Part.enc):=(own.put (m:=S.next+1) (by omega) nn).put (m:=S.next+1) (Nat.le_refl _) nn
  simp only [Line.enc] at x1 o1
  simp only [↓cw,↓reduceIte,Nat.reduceLT,kk,bO hi,bEd hi,Line.enc,eG,z0,z1,gm,b0,b1,bPi,aVp]
  by_cases c1:(fD tab d l).2.2=0
  ·simp only [↓cw,↓reduceIte,Nat.reduceLT,c1,kk,not_true_eq_false,if_false] at H ⊢
   refine bPl o1 x1 w0 (by omega) l.cat _ _ fun v' S' x' own'=>?_
   have b1':=x'.row a1
   by_cases c2:(sP s l.cat (fD tab d l).1 (fD tab d l).2.1).2=0
   ·simp only [↓cw,↓reduceIte,Nat.reduceLT,c2,kk,not_true_eq_false,if_false,jO (show i<1000000000 by omega)] at H ⊢
    exact H _ _ ⟨v',rfl,own',x',by have:=aK1 s l.cat (fD tab d l).1 (fD tab d l).2.1;omega⟩
   ·simp only [↓cw,↓reduceIte,Nat.reduceLT,c2,kk,b1',not_false_eq_true,if_true] at H ⊢
    simp only [oo,←H,Total.zero,List.map_nil]
  ·simp only [↓cw,↓reduceIte,Nat.reduceLT,c1,kk,not_false_eq_true,if_true] at H ⊢
   simp only [oo,←H,Total.zero,List.map_nil]
 ·rintro s vs S ⟨v,rfl,own,x,hsl⟩ aD H
  simp only [↓cw,↓reduceIte,Nat.reduceLT,kk,Int.lt_irrefl,if_false]
  refine bPm own x w0 (by omega) fun v' S' x' own'=>?_
  have b1':=x'.row a1
  have H':eO s=aE (iW tab d) eO lines []:=H
  simp only [↓cw,↓reduceIte,Nat.reduceLT,kk,own'.one,own'.cells,b1',←H']
  have:=(own'.put (m:=S'.next) (k:=1) (b:=.row 0 4 [[.int .i64 (eO s).1.net,.int .i64 (eO s).1.tax,.int .i64 (eO s).1.gross,v']]) (Nat.le_refl _) fun a ver m hv=>by
   rcases own'.is with ⟨rfl,_⟩ | ⟨a',ver',tl,rfl,h,_⟩
   ·cases hv
   ·cases hv;omega).out fun _=>rfl
  simp only [oo,this]
end Go.Proofs.YtoaibmbldmckaaaGreat
end
section
namespace Go.AM
theorem bDf (n:Nat) (z:List V) (parts:List (Nat×V)) (fr:Option Nat) (S:St) (hn:n≤1000):cH n z 3 parts fr S=(match zS n [z,z,z] parts with
  | .error e=>.error e
  | .ok elems=>match bB fr S (.row 0 n elems) with
   | .error e=>.error e
   | .ok (a,S')=>.ok (.sl a 0 n 0 3,S')):=by
 unfold cH
 rw [if_pos (by omega)]
 rfl
theorem bKi (z:List V) (parts:List (Nat×V)) (fr:Option Nat) (S:St):type_of% (bDf 1 z parts fr S (by decide)):=bDf 1 z parts fr S (by decide)
theorem aMt (z:List V) (parts:List (Nat×V)) (fr:Option Nat) (S:St):type_of% (aYy 1 z parts fr S (by decide)):=aYy 1 z parts fr S (by decide)
theorem ix3 (b:Nat):(∀ k:IntKind,fI 1 (.sl b 0 1 0 3) (.int k 0)=.ok (.ptr b 0 0 0))∧(∀ k:IntKind,fI 1 (.sl b 0 1 0 3) (.int k 1)=.ok (.ptr b 0 1 0))∧(∀ k:IntKind,fI 1 (.sl b 0 1 0 3) (.int k 2)=.ok (.ptr b 0 2 0)) ∧
  (∀ k:IntKind,fI 1 (.sl b 0 1 0 2) (.int k 0)=.ok (.ptr b 0 0 0))∧(∀ k:IntKind,fI 1 (.sl b 0 1 0 2) (.int k 1)=.ok (.ptr b 0 1 0)):=⟨fun _=>rfl,fun _=>rfl,fun _=>rfl,fun _=>rfl,fun _=>rfl⟩
theorem aG {n m:Nat} {h:Tr Blk} {a c ver k:Nat} {b:Blk} {el:List (List V)} (hne:c≠a) (hg:aC ⟨n,h⟩ c ver=.ok (k,el)):aC ⟨m,h.put a b⟩ c ver=.ok (k,el):=by
 rw [cM m n h a c ver b hne];exact hg
end Go.AM
namespace Go.Proofs.YtoaibmbldmckaaaGreat
open Go.AM Tryz
set_option linter.unusedVariables false
set_option linter.unusedSimpArgs false
set_option maxRecDepth 100000
theorem bKj {S:St} {a b:Nat} {q:V} {x y z:Int} (hb:aC S b 0=.ok (1,[[.ptr a 0 0 0],[.ptr a 0 0 1],[.ptr a 0 0 2]])) (ha:aC S a 0=.ok (4,[[.int .i64 x,.int .i64 y,.int .i64 z,q]])) (hne:b≠a) (han:a<S.next) {K:KW}
  (H:∀ S',S'.next=S.next→(∀ y,y≠a→S'.heap.get y=S.heap.get y)→(WF S→WF S')→((iE [x,y,z]).2=0→aC S' a 0=.ok (4,[[.int .i64 ((iE [x,y,z]).1.getD 0 0),.int .i64 ((iE [x,y,z]).1.getD 1 0),.int .i64 ((iE [x,y,z]).1.getD 2 0),q]]))→K (.int .i64 (iE [x,y,z]).2) S'):C 259 [.sl b 0 1 0 3] S K:=by
 refine bFu ?_
 delta Tryz.f259;simp only [↓cw,↓reduceIte,Nat.reduceLT,kk]
 have hne':(b=a)=False:=by simp [hne]
 have key:∀ (cs:List V) (h:Tr Blk),(∀ y,y≠a→h.get y=S.heap.get y)→∀ y,y≠a→(h.put a (.row 0 4 [cs])).get y=S.heap.get y:=fun cs h hh y hy=>by rw [Tr.get_put_neB _ _ _ _ trivial hy];exact hh y hy
 have kw:∀ (cs:List V) (h:Tr Blk),(WF S→WF ⟨S.next,h⟩)→WF S→WF ⟨S.next,h.put a (.row 0 4 [cs])⟩:=fun cs h hh w=>jN (hh w) han (Nat.le_refl _)
 have e0:∀ y,y≠a→S.heap.get y=S.heap.get y:=fun _ _=>rfl
 have w0:WF S→WF ⟨S.next,S.heap⟩:=fun w=>w
 refine ⟨4,?_⟩
 simp only [↓cw,↓reduceIte,Nat.reduceLT,aAt,kk,show ((3:Nat):Int)=3 from rfl,show (0:Int)<3 by decide,show (1:Int)<3 by decide,show (2:Int)<3 by decide,show ¬ (3:Int)<3 by decide,ix3,hb,ha,bEf,fZ,eG,hne',gm,ldP,show wr .i64 (0+1)=1 from rfl,show wr .i64 (1+1)=2 from rfl,show wr .i64 (2+1)=3 from rfl]
 simp only [iE,aE,uS,ne_eq] at H
 by_cases c1:(kW 0 x).2=0
 ·by_cases c2:(kW 0 y).2=0
  ·by_cases c3:(kW 0 z).2=0
   ·simp only [↓cw,↓reduceIte,Nat.reduceLT,c1,c2,c3,kk,if_false,not_true_eq_false] at H ⊢
    exact H _ rfl (key _ _ (key _ _ (key _ _ e0))) (kw _ _ (kw _ _ (kw _ _ w0))) fun _=>aA _ _ _ _ _ _
   ·simp only [↓cw,↓reduceIte,Nat.reduceLT,c1,c2,c3,kk,if_false,if_true,not_true_eq_false,not_false_eq_true] at H ⊢
    exact H _ rfl (key _ _ (key _ _ e0)) (kw _ _ (kw _ _ w0)) fun h=>h.elim
  ·simp only [↓cw,↓reduceIte,Nat.reduceLT,c1,c2,kk,if_false,if_true,not_true_eq_false,not_false_eq_true] at H ⊢
   exact H _ rfl (key _ _ e0) (kw _ _ w0) fun h=>h.elim
 ·simp only [↓cw,↓reduceIte,Nat.reduceLT,c1,kk,if_true,not_false_eq_true] at H ⊢
  exact H S rfl e0 id fun h=>h.elim
theorem bKk {S:St} {v:V} {es:List (List V)} (own:Own E0 S 4 v es) (w:WF S) {a b ver m i:Nat} (hv:v=.sl a ver 4 0 m) {c:List UInt8} {bp x y:Int} (hi:es[i]?=some [.str c,.int .i64 bp,.int .i64 x,.int .i64 y]) (hb:aC S b 0=.ok (1,[[.ptr a ver i 2],[.ptr a ver i 3]])) (hne:b≠a) {K:KW}
  (H:∀ S',S'.next=S.next→(∀ y,y≠a→S'.heap.get y=S.heap.get y)→WF S'→((iE [x,y]).2=0→Own E0 S' 4 v (es.set i [.str c,.int .i64 bp,.int .i64 ((iE [x,y]).1.getD 0 0),.int .i64 ((iE [x,y]).1.getD 1 0)]))→K (.int .i64 (iE [x,y]).2) S'):C 259 [.sl b 0 1 0 2] S K:=by
 refine bFu ?_
 delta Tryz.f259;simp only [↓cw,↓reduceIte,Nat.reduceLT,kk]
 have hil:=(List.getElem?_eq_some_iff.1 hi).1
 obtain ⟨a1,ver1,hv1,_,_,_,_,set1⟩:=own.setK (zG w) pF hi .i64
 obtain ⟨rfl,rfl⟩:a1=a∧ver1=ver:=by rw [hv] at hv1;injection hv1 with h1 h2;exact ⟨h1.symm,h2.symm⟩
 obtain ⟨S2,st1,x2,n2,own2,keep2,w2⟩:=set1 2 1 (.int .i64 (kW 0 x).1) rfl rfl (by decide)
 have hi2:(es.set i (splice [.str c,.int .i64 bp,.int .i64 x,.int .i64 y] 2 [.int .i64 (kW 0 x).1]))[i]?=some [.str c,.int .i64 bp,.int .i64 (kW 0 x).1,.int .i64 y]:=by rw [List.getElem?_set_self hil];rfl
 obtain ⟨a2,ver2,hv2,_,_,_,_,set2⟩:=own2.setK x2 pF hi2 .i64
 obtain ⟨rfl,rfl⟩:a2=a1∧ver2=ver1:=by rw [hv] at hv2;injection hv2 with h1 h2;exact ⟨h1.symm,h2.symm⟩
 obtain ⟨S3,oV,x3,n3,own3,keep3,w3⟩:=set2 3 1 (.int .i64 (kW 0 y).1) rfl rfl (by decide)
 have l1:=own.ld hv hi none 2
 have l2:=own2.ld hv hi2 none 3
 have hb2:=aY hb (keep2 b hne)
 simp only [V.cells,List.set_set] at own3
 simp only [↓cw,↓reduceIte,Nat.reduceLT,kk] at l1 l2
 refine ⟨3,?_⟩
 simp only [↓cw,↓reduceIte,Nat.reduceLT,aAt,kk,show ((2:Nat):Int)=2 from rfl,show (0:Int)<2 by decide,show (1:Int)<2 by decide,show ¬ (2:Int)<2 by decide,ix3,ldP none b,hb,hb2,bEf,fZ,l1,l2,st1,oV,show wr .i64 (0+1)=1 from rfl,show wr .i64 (1+1)=2 from rfl]
 simp only [iE,aE,uS,ne_eq] at H
 by_cases c1:(kW 0 x).2=0
 ·by_cases c2:(kW 0 y).2=0
  ·simp only [↓cw,↓reduceIte,Nat.reduceLT,c1,c2,kk,if_false,not_true_eq_false] at H ⊢
   exact H S3 (n3.trans n2) (fun y hy=>(keep3 y hy).trans (keep2 y hy)) (w3 (w2 w)) fun _=>own3
  ·simp only [↓cw,↓reduceIte,Nat.reduceLT,c1,c2,kk,if_false,if_true,not_true_eq_false,not_false_eq_true] at H ⊢
   exact H S2 n2 keep2 (w2 w) fun h=>h.elim
 ·simp only [↓cw,↓reduceIte,Nat.reduceLT,c1,kk,if_true,not_false_eq_true] at H ⊢
  exact H S rfl (fun _ _=>rfl) w fun h=>h.elim
theorem bKl (t:Total) (hf:t.parts.length≤1000) (S:St) (K:KW):C 228 [.agg [.int .i64 t.net,.int .i64 t.tax,.int .i64 t.gross,.imm (t.parts.map Part.enc)]] S K=K (aMs (bK t)) S:=by
 refine (bNn rfl ?_).eq S K
 delta Tryz.f228;simp only [↓cw,↓reduceIte,Nat.reduceLT,kk,eG,aMs]
 obtain ⟨S1,hS1⟩:∃ S1:St,S1=⟨1+1,(Tr.nil.put 0 (Blk.row 0 4 [[.int .i64 t.net,.int .i64 t.tax,.int .i64 t.gross,.imm (t.parts.map Part.enc)]])).put 1 (.row 0 4 [[.int .i64 0,.int .i64 0,.int .i64 0,.nils]])⟩:=⟨_,rfl⟩
 have w1:WF S1:=by rw [hS1];exact jN (n:=1) (jN pF (by decide) (by decide)) (by decide) (by decide)
 have a0:aC S1 0 0=.ok (4,[[.int .i64 t.net,.int .i64 t.tax,.int .i64 t.gross,.imm (t.parts.map Part.enc)]]):=by rw [hS1];rfl
 have a1:aC S1 1 0=.ok (4,[[.int .i64 0,.int .i64 0,.int .i64 0,.nils]]):=by rw [hS1];rfl
 obtain ⟨v,S2,q1,x2,own⟩:=aPa (b:=40) aPc t.parts w1 (by omega) (by unfold eD;omega)
 have n1:S1.next=2:=by rw [hS1]
 have n2:=x2.next
 rw [←hS1]
 have b0:=x2.row a0
 have b1:=x2.row a1
 have o1:=own.one
 have o2:=own.cells
 have hvn:∀ a ver m,v=.sl a ver 4 0 m→2≤a:=by
  intro a ver m hv
  rcases own.is with ⟨rfl,_⟩ | ⟨a',ver',tl,rfl,h,_⟩
  ·cases hv
  ·cases hv;omega
 simp only [↓cw,↓reduceIte,Nat.reduceLT,q1,kk,o1,o2,b0,bKi]
 have nn:∀ k,k<2→∀ a ver m,v=.sl a ver 4 0 m→k≠a:=fun k hk a ver m hv=>by have:=hvn a ver m hv;omega
 have nS:∀ a ver m,v=.sl a ver 4 0 m→S2.next≠a:=fun a ver m hv=>by have:=own.lt a ver m hv;omega
 have oA:=((own.put (m:=S2.next) (b:=.row 0 4 [[.int .i64 t.net,.int .i64 t.tax,.int .i64 t.gross,v]]) (Nat.le_refl _) (nn 0 (by decide))).put (k:=S2.next) (m:=S2.next+1) (b:=.row 0 1 [[.ptr 0 0 0 0],[.ptr 0 0 0 1],[.ptr 0 0 0 2]]) (Nat.le_succ _) nS).weaken (A:=E0) (Nat.zero_le _)
 have wA:WF ⟨S2.next+1,(S2.heap.put 0 (.row 0 4 [[.int .i64 t.net,.int .i64 t.tax,.int .i64 t.gross,v]])).put S2.next (.row 0 1 [[.ptr 0 0 0 0],[.ptr 0 0 0 1],[.ptr 0 0 0 2]])⟩:=jN (n:=S2.next) (jN (n:=S2.next) (x2.wf w1) (by omega) (Nat.le_refl _)) (by omega) (by omega)
 have bA:aC ⟨S2.next+1,(S2.heap.put 0 (.row 0 4 [[.int .i64 t.net,.int .i64 t.tax,.int .i64 t.gross,v]])).put S2.next (.row 0 1 [[.ptr 0 0 0 0],[.ptr 0 0 0 1],[.ptr 0 0 0 2]])⟩ 1 0=.ok (4,[[.int .i64 0,.int .i64 0,.int .i64 0,.nils]]):=aG (n:=S2.next) (by omega) (aG (n:=S2.next) (by decide) b1)
 refine bKj (S:=⟨S2.next+1,(S2.heap.put 0 (.row 0 4 [[.int .i64 t.net,.int .i64 t.tax,.int .i64 t.gross,v]])).put S2.next (.row 0 1 [[.ptr 0 0 0 0],[.ptr 0 0 0 1],[.ptr 0 0 0 2]])⟩) (aA _ _ _ _ _ _) (aG (n:=S2.next) (by omega) (aA S2.next _ _ _ _ _)) (by omega) (by show 0<S2.next+1;omega) fun S3 n3 keep3 w3 g3=>?_
 have n3:S3.next=S2.next+1:=n3
 have c1:=aY bA (keep3 1 (by decide))
 have o3:Own E0 S3 4 v (t.parts.map Part.enc):=oA.other (by show S2.next+1≤S3.next;omega) fun a ver m hv=>keep3 a (by have:=hvn a ver m hv;omega)
 simp only [↓cw,↓reduceIte,Nat.reduceLT,kk,bK]
 by_cases h0:(iE [t.net,t.tax,t.gross]).2=0
 ·have g3:=g3 h0
  have hlen:lenW v=.ok (.int .i64 (t.parts.length:Int)):=own.sl.lenI
  obtain ⟨x,hx⟩:∃ x,x=(iE [t.net,t.tax,t.gross]).1.getD 0 0:=⟨_,rfl⟩
  obtain ⟨y,hy⟩:∃ y,y=(iE [t.net,t.tax,t.gross]).1.getD 1 0:=⟨_,rfl⟩
  obtain ⟨z,hz⟩:∃ z,z=(iE [t.net,t.tax,t.gross]).1.getD 2 0:=⟨_,rfl⟩
  simp only [←hx,←hy,←hz] at g3 ⊢
  simp only [↓cw,↓reduceIte,Nat.reduceLT,h0,kk,not_true_eq_false,if_false,g3,hlen]
  refine aH t.parts (step:=dS) (fin:=fun l=>(l,0)) (fun i s vs S=>vs=[.int .i64 0,.int .i64 (i:Int)]∧Own E0 S 4 v ((s++t.parts.drop i).map Part.enc)∧s.length=i∧WF S∧2≤S.next∧aC S 0 0=.ok (4,[[.int .i64 x,.int .i64 y,.int .i64 z,v]])∧aC S 1 0=.ok (4,[[.int .i64 0,.int .i64 0,.int .i64 0,.nils]])) (fun r=>r=aE dS (fun l=>(l,0)) t.parts []) ?_ ?_ (s:=[]) ⟨rfl,by simpa using o3,rfl,w3 wA,by omega,g3,c1⟩ rfl
  ·rintro i p s vs S hi ⟨rfl,own,hd,w,hn,r0,r1⟩ aD H
   have hil:=(List.getElem?_eq_some_iff.1 hi).1
   have hpi:((s++t.parts.drop i).map Part.enc)[i]?=some p.enc:=by
    rw [List.getElem?_map,List.getElem?_append_right (by omega),hd,Nat.sub_self,List.getElem?_drop,Nat.add_zero,hi];rfl
   obtain ⟨a,ver,hv,_,hb,e4,_,_⟩:=own.setK (zG w) pF hpi .i64
   simp only [dS] at H
   simp only [↓cw,↓reduceIte,Nat.reduceLT,kk,bO hi,gm,r0,e4,aMt,jO (show i<1000000000 by omega)]
   have oB:=own.put (k:=S.next+10) (m:=S.next+13) (b:=.row 0 1 [[.ptr a ver i 2],[.ptr a ver i 3]]) (by omega) fun a ver m hv=>by have:=own.lt a ver m hv;omega
   refine bKk oB (jN (n:=S.next) w (by omega) (by omega)) hv hpi (aA _ _ _ _ _ _) (by omega) fun S4 n4 keep4 w4 g4=>?_
   have n4:S4.next=S.next+13:=n4
   have ha2:=hvn a ver _ hv
   have d0:=aY (aG (n:=S.next) (m:=S.next+13) (a:=S.next+10) (b:=.row 0 1 [[.ptr a ver i 2],[.ptr a ver i 3]]) (by omega) r0) (keep4 0 (by omega))
   have d1:=aY (aG (n:=S.next) (m:=S.next+13) (a:=S.next+10) (b:=.row 0 1 [[.ptr a ver i 2],[.ptr a ver i 3]]) (by omega) r1) (keep4 1 (by omega))
   by_cases c:(iE [p.net,p.tax]).2=0
   ·have g4:=g4 c
    simp only [↓cw,↓reduceIte,Nat.reduceLT,c,kk,not_true_eq_false,if_false] at H ⊢
    refine H _ _ ⟨rfl,?_,by simp;omega,w4,by omega,d0,d1⟩
    have:((s++t.parts.drop i).map Part.enc).set i [.str p.cat,.int .i64 p.bp,.int .i64 ((iE [p.net,p.tax]).1.getD 0 0),.int .i64 ((iE [p.net,p.tax]).1.getD 1 0)]=((s++[{ p with net:=(iE [p.net,p.tax]).1.getD 0 0,tax:=(iE [p.net,p.tax]).1.getD 1 0 }])++t.parts.drop (i+1)).map Part.enc:=by
     rw [List.drop_eq_getElem_cons hil,(List.getElem?_eq_some_iff.1 hi).2]
     simp only [List.map_append,List.map_cons,List.map_nil,List.append_assoc,List.singleton_append]
     rw [List.set_append_right _ _ (by simp;omega)]
     simp only [List.length_map,hd,Nat.sub_self,List.set_cons_zero]
     rfl
    rw [this] at g4
    exact g4
   ·simp only [↓cw,↓reduceIte,Nat.reduceLT,c,kk,not_false_eq_true,if_true,d1] at H ⊢
    simp only [oo,←H,c,not_false_eq_true,if_true,Total.zero,List.map_nil]
  ·rintro s vs S ⟨rfl,own,hd,w,hn,r0,r1⟩ aD H
   rw [List.drop_length,List.append_nil] at own
   have H':aE dS (fun l=>(l,0)) t.parts []=(s,0):=H.symm
   have:=(own.put (m:=S.next) (k:=1) (b:=.row 0 4 [[.int .i64 x,.int .i64 y,.int .i64 z,v]]) (Nat.le_refl _) (nn 1 (by decide))).out fun _=>rfl
   simp only [↓cw,↓reduceIte,Nat.reduceLT,kk,Int.lt_irrefl,if_false,r0,r1,o1,o2,H',not_true_eq_false]
   simp only [oo,this]
 ·simp only [↓cw,↓reduceIte,Nat.reduceLT,h0,kk,not_false_eq_true,if_true,c1]
  simp only [oo,Total.zero,List.map_nil]
end Go.Proofs.YtoaibmbldmckaaaGreat
end
section
namespace Go.AM
theorem Fn.back {P:Program} {pl:iQ} {f:FuncId} {args:List V} {v:V} (h:∀ S K,W P pl f args S K=K v S):Fn P pl f args v:=fun S=>by
 have h1:=h S fun v' S'=>v'=v∧S'=S
 obtain ⟨v',S',e,rfl,rfl⟩:=h1.mpr ⟨rfl,rfl⟩
 exact e
theorem Own.arg {P:Program} {pl:iQ} {f:FuncId} {p:Nat→Option (List bJ)} (hpl:pl f=some (.val p)) {S0 S:St} {n:Nat} {v r:V} {es:List (List V)} (h:Own S0 S n v es) (hc:es.all cloVs=true) (hf:∀ S K,W P pl f [.imm es] S K=K r S) (hk:iP r=true) (K:KW):W P pl f [v] S K=K r S:=
 (Fn.back hf).frz hpl rfl (by simp only [frzVs,h.frz hc]) (by simp only [ptrsVs,h.ptrs];rfl) (.inl hk) K
theorem Own.there {S0 S:St} {n:Nat} {v:V} {es:List (List V)} (h:Own S0 S n v es) {y:Nat} (hy:blkOf v=some y):S.heap.get y≠none:=by
 rcases h.is with ⟨rfl,_⟩ | ⟨a,ver,tl,rfl,_,_,hg⟩
 ·cases hy
 ·cases hy;rw [hg];exact fun h=>by cases h
theorem aK9 {n b:Nat} {S:St} {v:V} {es:List (List V)} (h:Own E0 S n v es) (w:WF S) {k1 k2 m:Nat} (f1:S.heap.get k1=none) (f2:S.heap.get k2=none) (hne:k1≠k2) (hm1:k1<m) (hm2:k2<m) (hm:S.next≤m) {c:List V} (hc:c.length=n∧aF c=true) (h1:(es.length+1)*b≤35184372088832) (h2:es.length+1<eD):
  ∃ v' S',fQ n b v (.sl k1 0 n 0 1) (some k2) ⟨m,S.heap.put k1 (.row 0 n [c])⟩=.ok (v',S')∧WF S'∧S'.next=m∧Own E0 S' n v' (es++[c])∧(blkOf v'=some k2∨blkOf v'=blkOf v)∧∀ y,y≠k1→y≠k2→blkOf v≠some y→S'.heap.get y=S.heap.get y:=by
 have w1:WF ⟨m,S.heap.put k1 (.row 0 n [c])⟩:=jN (n:=S.next) w hm1 hm
 have h':Own E0 ⟨m,S.heap.put k1 (.row 0 n [c])⟩ n v es:=h.same hm fun a ha=>Tr.get_put_neB _ _ _ _ trivial fun e=>h.there ha (by rw [e];exact f1)
 have hu:aM ⟨m,S.heap.put k1 (.row 0 n [c])⟩ (.sl k1 0 n 0 1)=.ok [c]:=by
  simp only [aM,aA];rfl
 have hf:(⟨m,S.heap.put k1 (.row 0 n [c])⟩:St).heap.get k2=none:=by
  show (S.heap.put k1 _).get k2=none
  rw [Tr.get_put_neB _ _ _ _ trivial (Ne.symm hne)];exact f2
 obtain ⟨v',S',q1,q2,q3,q4,q5,q6⟩:=h'.pushAt (b:=b) (zG w1) pF hu (fun d hd=>by rcases List.mem_singleton.1 hd with rfl;exact hc) (by simp) (Nat.zero_le _) hm2 hf h1 h2
 refine ⟨v',S',q1,q2.wf pF,q3,q4,q5,fun y y1 y2 y3=>?_⟩
 rw [q6 y y2 y3]
 exact Tr.get_put_neB _ _ _ _ trivial y1
theorem fresh {S:St} (w:WF S) {k:Nat} (hk:S.next≤k):S.heap.get k=none:=by
 cases hq:S.heap.get k with
 | none=>rfl
 | some b=>have:=w k b hq;omega
end Go.AM
namespace Go.Proofs.YtoaibmbldmckaaaGreat
open Go.AM Tryz
set_option linter.unusedVariables false
set_option linter.unusedSimpArgs false
set_option maxRecDepth 100000
theorem aKa (x:Int):(cX x).length=1∧aF (cX x)=true:=⟨rfl,rfl⟩
theorem aRi {S0 S:St} {v:V} {l:List Int} (h:Own S0 S 1 v (l.map cX)) (hl:l.length<1000000) (K:KW):C 218 [v] S K=K (.tup [.int .i64 (cZ l).1,.bool (cZ l).2]) S:=h.arg bFq (aO (fun _=>rfl) _) (fun S K=>bOx l hl S K) rfl K
theorem bPo (t:Total) (hl:t.parts.length<100000) (S:St) (K:KW):C 226 [.agg [.int .i64 t.net,.int .i64 t.tax,.int .i64 t.gross,.imm (t.parts.map Part.enc)]] S K=K (.bool (tO t)) S:=by
 refine (bNl rfl ?_).eq S K
 delta Tryz.f226;simp only [↓cw,↓reduceIte,Nat.reduceLT,kk]
 refine aH t.parts (step:=aCa) (fin:=id) (fun i s vs S=>∃ u v,vs=[u,v,.int .i64 (i:Int)]∧Own E0 S 1 u (s.1.map cX)∧Own E0 S 1 v (s.2.map cX)∧s.1.length=i∧s.2.length=i∧WF S∧(∀ y,AM.blkOf u=some y→AM.blkOf v≠some y)∧AM.blkOf u≠some 0∧AM.blkOf v≠some 0∧aC S 0 0=.ok (4,[[.int .i64 t.net,.int .i64 t.tax,.int .i64 t.gross,.imm (t.parts.map Part.enc)]])∧0<S.next) (fun r=>r=(t.parts.map (·.net),t.parts.map (·.tax))) ?_ ?_ (s:=([],[])) ⟨_,_,rfl,Own.nil _ _ _,Own.nil _ _ _,rfl,rfl,jN pF (by decide) (by decide),fun y h=>(by cases h),fun h=>(by cases h),fun h=>(by cases h),aA _ _ _ _ _ _,Nat.zero_lt_one⟩ (by rw [bJm];rfl)
 ·rintro i p ⟨ns,ts⟩ vs S hi ⟨u,v,rfl,ou,ov,lu,lv,w,huv,hu0,hv0,r0,h0⟩ aD H
  have hil:=(List.getElem?_eq_some_iff.1 hi).1
  have lu:ns.length=i:=lu
  have lv:ts.length=i:=lv
  simp only [aCa] at H
  have hS1:∃ S1:St,S1=⟨S.next+1,(S.heap.put S.next (.row 0 4 [[.str [],.int .i64 0,.int .i64 0,.int .i64 0]])).put S.next (.row 0 4 [p.enc])⟩:=⟨_,rfl⟩
  obtain ⟨S1,hS1⟩:=hS1
  have n1:S1.next=S.next+1:=by rw [hS1]
  have w1:WF S1:=by rw [hS1];exact (Ext.var w 4 _ _).wf w
  have x1:Ext S S1:=by rw [hS1];exact Ext.var w 4 _ _
  have g1:aC S1 S.next 0=.ok (4,[p.enc]):=by rw [hS1];exact aA _ _ _ _ _ _
  have bu:∀ y,AM.blkOf u=some y→y<S.next:=fun y hy=>(cN ou hy).2
  have bv:∀ y,AM.blkOf v=some y→y<S.next:=fun y hy=>(cN ov hy).2
  obtain ⟨u',S2,q1,w2,n2,ou2,bu2,keep2⟩:=aK9 (b:=8) (ou.ext x1) w1 (k1:=S1.next+3) (k2:=S1.next+4) (m:=S1.next+12) (fresh w1 (by omega)) (fresh w1 (by omega)) (by omega) (by omega) (by omega) (by omega) (aKa p.net) (by simp;omega) (by simp [eD];omega)
  have k2:∀ y,y<S1.next→AM.blkOf u≠some y→S2.heap.get y=S1.heap.get y:=fun y hy h=>keep2 y (by omega) (by omega) h
  have g2:aC S2 S.next 0=.ok (4,[p.enc]):=aY g1 (k2 S.next (by omega) fun h=>by have:=bu _ h;omega)
  have ov2:Own E0 S2 1 v (ts.map cX):=(ov.ext x1).same (by omega) fun a ha=>k2 a (by have:=bv a ha;omega) fun h=>huv a h ha
  have fr8:∀ k,5≤k→S2.heap.get (S1.next+k)=none:=fun k hk=>by
   rw [keep2 (S1.next+k) (by omega) (by omega) fun h=>by have:=bu _ h;omega];exact fresh w1 (by omega)
  obtain ⟨v',S3,q2,w3,n3,ov3,bv3,keep3⟩:=aK9 (b:=8) ov2 w2 (k1:=S1.next+8) (k2:=S1.next+9) (m:=S2.next) (fr8 8 (by omega)) (fr8 9 (by omega)) (by omega) (by omega) (by omega) (Nat.le_refl _) (aKa p.tax) (by simp;omega) (by simp [eD];omega)
  have hu2:∀ y,AM.blkOf u'=some y→y=S1.next+4∨AM.blkOf u=some y:=fun y hy=>by
   rcases bu2 with h | h
   ·rw [h] at hy;cases hy;exact .inl rfl
   ·rw [h] at hy;exact .inr hy
  have hv3:∀ y,AM.blkOf v'=some y→y=S1.next+9∨AM.blkOf v=some y:=fun y hy=>by
   rcases bv3 with h | h
   ·rw [h] at hy;cases hy;exact .inl rfl
   ·rw [h] at hy;exact .inr hy
  have hb8:∀ a,AM.blkOf u'=some a→a≠S1.next+8∧a≠S1.next+9:=fun a ha=>by
   rcases hu2 a ha with h | h
   ·omega
   ·have:=bu a h;omega
  have ou3:Own E0 S3 1 u' ((ns++[p.net]).map cX):=by
   rw [List.map_append]
   exact ou2.same (by omega) fun a ha=>keep3 a (hb8 a ha).1 (hb8 a ha).2 fun hv=>by
    rcases hu2 a ha with h | h
    ·have:=bv a hv;omega
    ·exact huv a h hv
  have r3:=aY (aY (x1.row r0) (k2 0 (by omega) hu0)) (keep3 0 (by omega) (by omega) hv0)
  have hh:(S.heap.put S.next (.row 0 4 [[.str [],.int .i64 0,.int .i64 0,.int .i64 0]])).put S.next (.row 0 4 [[.str p.cat,.int .i64 p.bp,.int .i64 p.net,.int .i64 p.tax]])=S1.heap:=by rw [hS1];rfl
  simp only [Part.enc] at g1
  simp only [Part.enc,n1] at g2 q1 q2
  simp only [cX] at q1 q2
  simp only [↓cw,↓reduceIte,Nat.reduceLT,kk,bO hi,rY hi,Part.enc,jO (show i<1000000000 by omega),hh,gm,g1,aDr,q1,g2,q2]
  exact H _ _ ⟨u',v',rfl,ou3,by rw [List.map_append];exact ov3,by simp;omega,by simp;omega,w3,fun y hy hy'=>by
   rcases hu2 y hy with h | h<;>rcases hv3 y hy' with h' | h'
   ·omega
   ·have:=bv y h';omega
   ·have:=bu y h;omega
   ·exact huv y h h',fun h=>by
   rcases hu2 0 h with h | h
   ·omega
   ·exact hu0 h,fun h=>by
   rcases hv3 0 h with h | h
   ·omega
   ·exact hv0 h,r3,by omega⟩
 ·rintro ⟨ns,ts⟩ vs S ⟨u,v,rfl,ou,ov,lu,lv,w,huv,hu0,hv0,r0,h0⟩ aD H
  have lu:ns.length=t.parts.length:=lu
  have lv:ts.length=t.parts.length:=lv
  obtain ⟨rfl,rfl⟩:ns=t.parts.map (·.net)∧ts=t.parts.map (·.tax):=Prod.mk.inj H
  have hlu:=aRi ou (by omega)
  have hlv:=aRi ov (by omega)
  have ow:Own E0 ⟨S.next+1,S.heap.put S.next (.row 0 1 ([t.net,t.tax].map cX))⟩ 1 (.sl S.next 0 1 0 2) ([t.net,t.tax].map cX):=⟨.inr ⟨S.next,0,[],rfl,Nat.zero_le _,Nat.lt_succ_self _,by rw [List.append_nil];exact Tr.get_put_sameB _ _ _ trivial⟩,fun c hc=>by
   rcases List.mem_cons.1 hc with rfl | hc
   ·exact aKa _
   ·rcases List.mem_cons.1 hc with rfl | hc
    ·exact aKa _
    ·cases hc⟩
  have hlw:=aRi ow (by simp)
  have z0:((0:Nat)=S.next)=False:=by simp;omega
  simp only [List.map_cons,List.map_nil,cX] at hlw
  simp only [↓cw,↓reduceIte,Nat.reduceLT,kk,Int.lt_irrefl,if_false,hlu,hlv,r0,aMt,hlw,eG,z0,gm,tO,oo]
  split
  rotate_left
  ·rfl
  split
  rotate_left
  ·rfl
  split
  rotate_left
  ·rfl
  split
  rotate_left
  ·rfl
  split<;>rfl
end Go.Proofs.YtoaibmbldmckaaaGreat
end
section
namespace Go.Proofs.YtoaibmbldmckaaaGreat
open Go.AM Tryz
theorem bPp (t:Total) (S:St) (K:KW):C 167 [.agg [.int .i64 t.net,.int .i64 t.tax,.int .i64 t.gross,.imm (t.parts.map Part.enc)]] S K=K (.bool (dI t)) S:=by
 refine (bMv rfl ?_).eq S K
 delta Tryz.f167;simp only [↓cw,↓reduceIte,Nat.reduceLT,kk,dI]
 by_cases c1:t.parts.length<1
 ·simp only [↓cw,↓reduceIte,Nat.reduceLT,c1,show (t.parts.length:Int)<1 by omega,kk,oo,if_true]
 by_cases c2:12<t.parts.length
 ·simp only [↓cw,↓reduceIte,Nat.reduceLT,c1,c2,show ¬ (t.parts.length:Int)<1 by omega,show (12:Int)<(t.parts.length:Int) by omega,kk,oo,if_true,if_false]
 simp only [↓cw,↓reduceIte,Nat.reduceLT,c1,c2,show ¬ (t.parts.length:Int)<1 by omega,show ¬ (12:Int)<(t.parts.length:Int) by omega,kk,if_false]
 refine aH t.parts (step:=fE) (fin:=fun _=>tO t) (fun i s vs S=>vs=[.bool false,.int .i64 (i:Int)]∧s=gF t.parts i∧aC S 0 0=.ok (4,[[.int .i64 t.net,.int .i64 t.tax,.int .i64 t.gross,.imm (t.parts.map Part.enc)]])∧0<S.next) (fun r=>r=aE fE (fun _=>tO t) t.parts none) ?_ ?_ (s:=none) ⟨rfl,rfl,aA _ _ _ _ _ _,Nat.zero_lt_one⟩ rfl
 ·rintro i p s vs S hi ⟨rfl,rfl,r0,h0⟩ aD H
  have hil:=(List.getElem?_eq_some_iff.1 hi).1
  have r1:∀ (m:Nat) (b c:Blk),aC ⟨m,(S.heap.put S.next b).put S.next c⟩ 0 0=.ok (4,[[.int .i64 t.net,.int .i64 t.tax,.int .i64 t.gross,.imm (t.parts.map Part.enc)]]):=fun m b c=>aG (n:=S.next) (by omega) (aG (n:=S.next) (by omega) r0)
  have hn:gF t.parts (i+1)=some p:=by simpa [gF] using hi
  simp only [hn,fE] at H
  simp only [↓cw,↓reduceIte,Nat.reduceLT,kk,bO hi,rY hi,Part.enc,jO (show i<1000000000 by omega),aVt,aYu,fZ,r1,oo]
  obtain ⟨S',hS'⟩:∃ S':St,S'=⟨S.next+1+30,(S.heap.put S.next (.row 0 4 [[.str [],.int .i64 0,.int .i64 0,.int .i64 0]])).put S.next (.row 0 4 [[.str p.cat,.int .i64 p.bp,.int .i64 p.net,.int .i64 p.tax]])⟩:=⟨_,rfl⟩
  have r2:aC S' 0 0=.ok (4,[[.int .i64 t.net,.int .i64 t.tax,.int .i64 t.gross,.imm (t.parts.map Part.enc)]]):=by rw [hS'];exact r1 _ _ _
  have h2:0<S'.next:=by rw [hS'];exact Nat.succ_pos _
  rw [←hS']
  clear hS' r1
  cases hna:dR p.cat
  ·simp only [↓cw,↓reduceIte,Nat.reduceLT,hna,kk,if_true] at H ⊢
   rw [←H]
  ·simp only [↓cw,↓reduceIte,Nat.reduceLT,hna,kk,Bool.true_eq_false,if_false] at H ⊢
   cases i with
   | zero=>
    simp only [↓cw,↓reduceIte,Nat.reduceLT,gF,mV,kk,Bool.false_eq_true,if_false,if_true,yW,yX,Bool.or_eq_true,decide_eq_true_eq] at H ⊢
    simp only [↓cw,↓reduceIte,Nat.reduceLT,Int.natCast_zero,Int.lt_irrefl,kk,if_false]
    grind
   | succ j=>
    have hj:t.parts[j]?=some t.parts[j]:=List.getElem?_eq_getElem (by omega)
    have hp:gF t.parts (j+1)=some t.parts[j]:=by simp [gF,hj]
    simp only [↓cw,↓reduceIte,Nat.reduceLT,hp,gt0,kk,wrm (show j+1<1000000000 by omega),rY hj,Part.enc,mV,yW,yX,Bool.or_eq_true,decide_eq_true_eq] at H ⊢
    grind
 ·rintro s vs S ⟨rfl,rfl,r0,h0⟩ aD H
  have H':aE fE (fun _=>tO t) t.parts none=tO t:=H.symm
  simp only [↓cw,↓reduceIte,Nat.reduceLT,kk,Int.lt_irrefl,if_false,r0,bPo t (show t.parts.length<100000 by omega),oo,H']
theorem bPq (l r:List Part) (hb:l.length<1000000) (S:St) (K:KW):C 260 [.imm (l.map Part.enc),.imm (r.map Part.enc)] S K=K (.bool (decide (l=r))) S:=by
 refine (bNy rfl ?_).eq S K
 delta Tryz.f260;simp only [↓cw,↓reduceIte,Nat.reduceLT,kk]
 by_cases h:l.length=r.length
 ·simp only [↓cw,↓reduceIte,Nat.reduceLT,show (l.length:Int)=(r.length:Int) by omega,kk,not_true_eq_false,if_false]
  refine aH l (step:=dZ r) (fin:=fun _=>true) (fun i n vs S=>n=i∧vs=[.bool false,.int .i64 (i:Int)]) (fun x=>x=decide (l=r)) ?_ ?_ (s:=0) ⟨rfl,rfl⟩ (eqL h)
  ·rintro i p n vs S hi ⟨rfl,rfl⟩ aD H
   have hil:=(List.getElem?_eq_some_iff.1 hi).1
   have hj:r[n]?=some r[n]:=List.getElem?_eq_getElem (by omega)
   have hlt:((n:Int)<(r.length:Int))=True:=bO hj
   have he:(r[n]=p)=(((p.cat=r[n].cat∧p.bp=r[n].bp)∧p.net=r[n].net)∧p.tax=r[n].tax):=by
    obtain ⟨_,_,_,_⟩:=p;generalize r[n]=q;obtain ⟨_,_,_,_⟩:=q;simp [and_assoc,eq_comm]
   simp only [dZ,hj,Option.some.injEq,he] at H
   simp only [↓cw,↓reduceIte,Nat.reduceLT,kk,hlt,rY hi,rY hj,Part.enc,jO (show n<1000000000 by omega),oo]
   grind
  ·rintro n vs S ⟨rfl,rfl⟩ aD H
   simp only [↓cw,↓reduceIte,Nat.reduceLT,kk,h,Int.lt_irrefl,if_false,oo,←H]
 ·simp only [↓cw,↓reduceIte,Nat.reduceLT,show ¬ (l.length:Int)=(r.length:Int) by omega,kk,not_false_eq_true,if_true,oo]
  have:decide (l=r)=false:=by simpa using fun e=>h (by rw [e])
  rw [this]
def Posted.enc (p:Posted):List V:=[.str p.ref.ser,.int .i64 p.ref.num,.int .i64 p.day.y,.int .i64 p.day.m,.int .i64 p.day.d,.int .i64 p.total.net,.int .i64 p.total.tax,.int .i64 p.total.gross,.imm (p.total.parts.map Part.enc),.str p.of.ser,.int .i64 p.of.num,.bool p.back]
theorem rZ {l:List Posted} {i:Nat} {a:Posted} (hi:l[i]?=some a) (k:IntKind):fI 12 (.imm (l.map Posted.enc)) (.int k (i:Int))=.ok (.iptr a.enc 0):=ixI (enc:=Posted.enc) hi rfl k
theorem aIb (x:Posted):x.enc.length=12∧aF x.enc=true:=⟨rfl,rfl⟩
theorem Total.ext_iff (a b:Total):(a=b)=(((a.net=b.net∧a.tax=b.tax)∧a.gross=b.gross)∧a.parts=b.parts):=by
 obtain ⟨_,_,_,_⟩:=a;obtain ⟨_,_,_,_⟩:=b;simp [and_assoc]
theorem Ref.ext_iff (a b:Ref):(a=b)=(a.ser=b.ser∧a.num=b.num):=by
 obtain ⟨_,_⟩:=a;obtain ⟨_,_⟩:=b;simp
theorem g91 (l r:List Bal) (hb:l.length<1000000) (S:St) (K:KW):C 91 [.imm (l.map Bal.enc),.imm (r.map Bal.enc)] S K=K (.bool (decide (l=r))) S:=by
 refine (v91 rfl ?_).eq S K
 delta Tryz.f91;simp only [↓cw,↓reduceIte,Nat.reduceLT,kk]
 by_cases h:l.length=r.length
 ·simp only [↓cw,↓reduceIte,Nat.reduceLT,show (l.length:Int)=(r.length:Int) by omega,kk,not_true_eq_false,if_false]
  refine aH l (step:=dZ r) (fin:=fun _=>true) (fun i n vs S=>n=i∧vs=[.bool false,.int .i64 (i:Int)]) (fun x=>x=decide (l=r)) ?_ ?_ (s:=0) ⟨rfl,rfl⟩ (eqL h)
  ·rintro i p n vs S hi ⟨rfl,rfl⟩ aD H
   have hil:=(List.getElem?_eq_some_iff.1 hi).1
   have hj:r[n]?=some r[n]:=List.getElem?_eq_getElem (by omega)
   have hlt:((n:Int)<(r.length:Int))=True:=bO hj
   have he:(r[n]=p)=(p.acc=r[n].acc∧p.amount=r[n].amount):=by
    obtain ⟨_,_⟩:=p;generalize r[n]=q;obtain ⟨_,_⟩:=q;simp [and_assoc,eq_comm]
   simp only [dZ,hj,Option.some.injEq,he] at H
   simp only [↓cw,↓reduceIte,Nat.reduceLT,kk,hlt,aB5 hi,aB5 hj,Bal.enc,jO (show n<1000000000 by omega),oo]
   grind
  ·rintro n vs S ⟨rfl,rfl⟩ aD H
   simp only [↓cw,↓reduceIte,Nat.reduceLT,kk,h,Int.lt_irrefl,if_false,oo,←H]
 ·simp only [↓cw,↓reduceIte,Nat.reduceLT,show ¬ (l.length:Int)=(r.length:Int) by omega,kk,not_false_eq_true,if_true,oo]
  have:decide (l=r)=false:=by simpa using fun e=>h (by rw [e])
  rw [this]
theorem bPr (a b:Total) (hb:a.parts.length<1000000) (S:St) (K:KW):C 229 [.agg [.int .i64 a.net,.int .i64 a.tax,.int .i64 a.gross,.imm (a.parts.map Part.enc)],.agg [.int .i64 b.net,.int .i64 b.tax,.int .i64 b.gross,.imm (b.parts.map Part.enc)]] S K=K (.bool (decide (a=b))) S:=by
 refine (bNo rfl ?_).eq S K
 delta Tryz.f229;simp only [↓cw,↓reduceIte,Nat.reduceLT,kk,eG,bPq a.parts b.parts hb,Total.ext_iff,oo]
 grind
theorem bPs (p fr:Posted) (hb:fr.total.parts.length≤1000) (S:St) (K:KW):C 169 [.agg [.str p.ref.ser,.int .i64 p.ref.num,.int .i64 p.day.y,.int .i64 p.day.m,.int .i64 p.day.d,.int .i64 p.total.net,.int .i64 p.total.tax,.int .i64 p.total.gross,.imm (p.total.parts.map Part.enc),.str p.of.ser,.int .i64 p.of.num,.bool p.back],.agg [.str fr.ref.ser,.int .i64 fr.ref.num,.int .i64 fr.day.y,.int .i64 fr.day.m,.int .i64 fr.day.d,.int .i64 fr.total.net,.int .i64 fr.total.tax,.int .i64 fr.total.gross,.imm (fr.total.parts.map Part.enc),.str fr.of.ser,.int .i64 fr.of.num,.bool fr.back]] S K=K (.bool (pE p fr)) S:=by
 refine (bMx rfl ?_).eq S K
 have hbl:=aA9 fr.total
 delta Tryz.f169;simp only [↓cw,↓reduceIte,Nat.reduceLT,kk,eG,bKl fr.total hb,aMs,aYs,bPr (bK fr.total).1 p.total (by omega),pE,Ref.ext_iff,Ref.zero,oo]
 grind
theorem bKm:cG prog 227=some none:=by kernel_rfl
theorem bPt (r:Ref) (p:Posted):Fr 227 (fun a=>[.agg p.enc,.ptr a 0 0 0]) 2 [.str r.ser,.int .i64 r.num] (.bool (decide (p.ref=r))) [.str r.ser,.int .i64 r.num]:=by
 refine FnR.of bFr (lv:=fB []) (Pt.next rfl (Pt.head rfl)) rfl ?_ rfl rfl
 rw [bNm]
 delta Tryz.f227;simp only [↓cw,↓reduceIte,Nat.reduceLT,kk,Posted.enc,eG,Ref.ext_iff]
 exact ⟨by congr 1;rw [Bool.eq_iff_iff];simp,rfl⟩
theorem bPu (fk:Nat) (ht:cG prog fk=some none) {n:Nat} {cap:List V} (p:Posted→Bool) (hf:∀ s:Posted,Fr fk (fun a=>[.agg s.enc,.ptr a 0 0 0]) n cap (.bool (p s)) cap) (l:List Posted) (hb:l.length<1000000) {S:St} {a:Nat} (hg:S.heap.get a=some (.row 0 n [cap])):
  ∀ K:KW,C 155 [.imm (l.map Posted.enc),.func fk [] [.ptr a 0 0 0]] S K=K (.int .i64 (ixM p l)) S:=by
 refine bJw (bFm ?_)
 delta Tryz.f155;simp only [↓cw,↓reduceIte,Nat.reduceLT,kk]
 refine aH l (step:=dO p) (fin:=fun _=>-1) (fun i k vs X=>k=i∧vs=[.int .i64 0,.int .i64 (i:Int)]∧X=S) (fun r=>r=ixM p l) ?_ ?_ ⟨rfl,rfl,rfl⟩ rfl
 ·rintro i s k vs X hi ⟨rfl,rfl,rfl⟩ aD H
  have hil:=(List.getElem?_eq_some_iff.1 hi).1
  have he:=(hf s).eq_same hg
  simp only [Posted.enc] at he
  simp only [↓cw,↓reduceIte,Nat.reduceLT,kk,bO hi,rZ hi,Posted.enc,↓oM prog C ht,List.nil_append,List.cons_append,he,jO (show k<1000000000 by omega)]
  simp only [dO] at H
  cases hp:p s<;>simp only [↓cw,↓reduceIte,Nat.reduceLT,hp,kk] at H ⊢
  ·exact H _ _ ⟨rfl,rfl⟩
  ·rw [H]
 ·rintro k vs X ⟨rfl,rfl,rfl⟩ aD H
  simp only [↓cw,↓reduceIte,Nat.reduceLT,kk,Int.lt_irrefl]
  rw [H]
theorem f168 (l:List Posted) (r:Ref) (hb:l.length<1000000):Fv 168 [.imm (l.map Posted.enc),.agg [.str r.ser,.int .i64 r.num]] (.int .i64 (bC l r)):=by
 refine bMw rfl ?_
 have h:=bPu 227 bKm _ (bPt r) l hb (S:=⟨1,Tr.nil.put 0 (.row 0 2 [[.str r.ser,.int .i64 r.num]])⟩) (a:=0) (Tr.get_put_sameB _ _ _ trivial)
 delta Tryz.f168;simp only [↓cw,↓reduceIte,Nat.reduceLT,kk,h,bC]
theorem bPv (l:List Posted) (r:Ref) (hb:l.length<1000000) (S:St) (K:KW):C 168 [.imm (l.map Posted.enc),.agg [.str r.ser,.int .i64 r.num]] S K=K (.int .i64 (bC l r)) S:=(f168 l r hb).eq S K
theorem bKn:(fun (a ver i j:Nat) (x:V)=>cY prog 246 (.ptr a ver i j) x)=fun a ver i j x=>(match mY x 40 with
 | none=>.error "index"
 | some k=>.ok (.ptr a ver i (j+k*1))):=by kernel_rfl
theorem aW1 (a ver i j:Nat) {k:Nat} (h:k<40):cY prog 246 (.ptr a ver i j) (.int .i64 (k:Int))=.ok (.ptr a ver i (j+k)):=by
 have:=congrFun (congrFun (congrFun (congrFun (congrFun bKn a) ver) i) j) (.int .i64 (k:Int))
 rw [fX h] at this
 rw [this]
 simp only [Nat.mul_one]
theorem bKo:(fun (a ver i j:Nat) (x:V)=>cY prog 249 (.ptr a ver i j) x)=fun a ver i j x=>(match mY x 8 with
 | none=>.error "index"
 | some k=>.ok (.ptr a ver i (j+k*1))):=by kernel_rfl
theorem aW2 (a ver i j:Nat) {k:Nat} (h:k<8):cY prog 249 (.ptr a ver i j) (.int .i64 (k:Int))=.ok (.ptr a ver i (j+k)):=by
 have:=congrFun (congrFun (congrFun (congrFun (congrFun bKo a) ver) i) j) (.int .i64 (k:Int))
 rw [fX h] at this
 rw [this]
 simp only [Nat.mul_one]
theorem aW3 {l:List Int} {k:Nat} (h:k<l.length):(l.map pW)[k]?=some (.int .i64 l[k]):=by
 rw [List.getElem?_map,List.getElem?_eq_getElem h];rfl
theorem bKp {l:List Int} {k:Nat} (h:k<l.length) (x:Int):tS (l.map pW) k [.int .i64 x]=some ((l.set k x).map pW):=by
 have hl:(l.map pW).length=l.length:=List.length_map ..
 rw [zD,if_pos (by rw [hl];exact h),List.map_set]
 simp only [splice,List.length_cons,List.length_nil]
 rw [List.set_eq_take_append_cons_drop,if_pos (by rw [hl];exact h)]
 rfl
def State.enc (s:State):List V:=[.imm (s.table.map Rate.enc),.imm (s.ser.map Ser.enc),.imm (s.posted.map Posted.enc),.imm (s.book.map Bal.enc),.imm (s.sess.map Sess.enc),.int .i64 s.next]
theorem bKq:cG prog 170=some none:=by kernel_rfl
theorem bPw (p:Posted) (s:Ser):Fr 170 (fun a=>[.agg s.enc,.ptr a 0 0 0]) 12 p.enc (.bool (s.name == p.ref.ser)) p.enc:=by
 refine FnR.of bFo (lv:=fB []) (Pt.next rfl (Pt.head rfl)) rfl ?_ rfl rfl
 rw [bMy]
 delta Tryz.f170;simp only [↓cw,↓reduceIte,Nat.reduceLT,kk,Posted.enc,Ser.enc,eG]
 rfl
theorem z8:[V.int .i64 0,.int .i64 0,.int .i64 0,.int .i64 0,.int .i64 0,.int .i64 0,.int .i64 0,.int .i64 0]=(List.replicate 8 (0:Int)).map pW:=rfl
theorem g89 (s:State) (h8:s.ser.length≤8) (h40:s.posted.length≤40) (S:St) (K:KW):C 89 [.agg [.imm (s.table.map Rate.enc),.imm (s.ser.map Ser.enc),.imm (s.posted.map Posted.enc),.imm (s.book.map Bal.enc),.imm (s.sess.map Sess.enc),.int .i64 s.next]] S K=K (.bool (nM s.ser s.posted)) S:=by
 refine (v89 rfl ?_).eq S K
 delta Tryz.f89;simp only [↓cw,↓reduceIte,Nat.reduceLT,kk,eG,z8]
 refine aH s.posted (step:=lI s.ser) (fin:=fun is=>aE kI (fun _=>true) s.ser is) (fun i is vs S=>vs=[.bool false,.int .i64 (i:Int)]∧aC S 0 0=.ok (6,[s.enc])∧aC S 1 0=.ok (8,[is.map pW])∧is.length=8∧(∀ b∈is,0≤b∧b≤i)∧2≤S.next) (fun r=>r=nM s.ser s.posted) ?_ ?_ (s:=List.replicate 8 0) ⟨rfl,rfl,rfl,rfl,fun b hb=>by rw [List.eq_of_mem_replicate hb];omega,Nat.le_refl _⟩ rfl
 ·rintro i p is vs S hi ⟨rfl,hc,hg,hbl,hbr,h2⟩ aD H
  have hil:=(List.getElem?_eq_some_iff.1 hi).1
  have z0:((0:Nat)=S.next)=False:=by simp;omega
  have z1:((1:Nat)=S.next)=False:=by simp;omega
  have zn:(S.next=1)=False:=by simp;omega
  obtain ⟨S1,hS1⟩:∃ S1:St,S1=⟨S.next+1,(S.heap.put S.next (.row 0 12 [aK2])).put S.next (.row 0 12 [p.enc])⟩:=⟨_,rfl⟩
  have e1:S1.heap.get S.next=some (.row 0 12 [p.enc]):=by rw [hS1];exact Tr.get_put_sameB _ _ _ trivial
  have n1:S1.next=S.next+1:=by rw [hS1]
  have c1:aC S1 0 0=.ok (6,[s.enc]):=by rw [hS1];exact aG (n:=S.next) (by omega) (aG (n:=S.next) (by omega) hc)
  have g1:aC S1 1 0=.ok (8,[is.map pW]):=by rw [hS1];exact aG (n:=S.next) (by omega) (aG (n:=S.next) (by omega) hg)
  have p1:aC S1 S.next 0=.ok (12,[p.enc]):=aI e1
  have h152:=bJx 170 bKq _ (bPw p) s.ser (by omega) (a:=S.next) e1
  have hx:ixM (fun t:Ser=>t.name == p.ref.ser) s.ser=fC s.ser p.ref.ser:=rfl
  rw [hx] at h152
  simp only [lI] at H
  simp only [aK2,Posted.enc] at hS1
  simp only [↓cw,↓reduceIte,Nat.reduceLT,kk,bO hi,rZ hi,Posted.enc,←hS1,c1,State.enc,h152]
  rcases jH s.ser p.ref.ser with hk | ⟨k,f,hk,hf,_⟩
  ·simp only [↓cw,↓reduceIte,Nat.reduceLT,hk,show (-1:Int)<0 by decide,kk,if_true] at H ⊢
   rw [←H]
  have hks:k<s.ser.length:=(List.getElem?_eq_some_iff.1 hf).1
  have hk8:k<8:=by omega
  have hkb:k<is.length:=by omega
  have hbk:=hbr is[k] (List.getElem_mem hkb)
  have hw2:wr .i64 (is[k]+1)=is[k]+1:=kU (by omega) (by omega)
  have hbu:bump is k=is.set k (is[k]+1):=by unfold bump;rw [yY is k hkb]
  have hkb':k<(bump is k).length:=by rw [yZ];exact hkb
  have hgk:=aVq is k hkb
  have hgk2:(bump is k)[k]=is[k]+1:=by rw [←yY _ _ hkb'];exact hgk
  have g2:aC ⟨S1.next+7,S1.heap.put 1 (.row 0 8 [(bump is k).map pW])⟩ 1 0=.ok (8,[(bump is k).map pW]):=aA _ _ _ _ _ _
  have p2:aC ⟨S1.next+7,S1.heap.put 1 (.row 0 8 [(bump is k).map pW])⟩ S.next 0=.ok (12,[p.enc]):=aG (n:=S1.next) (by omega) p1
  have c2:aC ⟨S1.next+7,S1.heap.put 1 (.row 0 8 [(bump is k).map pW])⟩ 0 0=.ok (6,[s.enc]):=aG (n:=S1.next) (by decide) c1
  simp only [Posted.enc] at p2
  simp only [↓cw,↓reduceIte,Nat.reduceLT,hk,show ¬ (k:Int)<0 by omega,kk,if_false,Int.toNat_natCast,hgk] at H ⊢
  simp only [↓cw,↓reduceIte,Nat.reduceLT,aW2 _ _ _ _ hk8,kk,g1,aW3 hkb,aW3 hkb',hw2,bKp hkb,←hbu,g2,p2,hgk2,jO (show i<1000000000 by omega)]
  by_cases c:p.ref.num=is[k]+1
  ·simp only [↓cw,↓reduceIte,Nat.reduceLT,c,kk,if_true,if_false,not_true_eq_false] at H ⊢
   refine H _ _ ⟨rfl,c2,g2,by rw [yZ];exact hbl,fun b hb=>?_,by show 2≤S1.next+7;omega⟩
   rw [hbu] at hb
   rcases List.mem_or_eq_of_mem_set hb with hb | rfl
   ·exact ⟨(hbr b hb).1,by have:=(hbr b hb).2;omega⟩
   ·omega
  ·simp only [↓cw,↓reduceIte,Nat.reduceLT,c,kk,if_true,if_false,not_false_eq_true] at H ⊢
   rw [←H]
 ·rintro is vs S ⟨rfl,hc,hg,hbl,hbr,h2⟩ aD H
  have H':nM s.ser s.posted=aE kI (fun _=>true) s.ser is:=H.symm
  simp only [↓cw,↓reduceIte,Nat.reduceLT,kk,Int.lt_irrefl,if_false,hc,State.enc,H']
  refine aH s.ser (step:=kI) (fin:=fun _=>true) (fun i st vs S=>vs=[.bool false,.int .i64 (i:Int)]∧st=is.drop i∧aC S 1 0=.ok (8,[is.map pW])∧2≤S.next) (fun r=>r=aE kI (fun _=>true) s.ser is) ?_ ?_ (s:=is) ⟨rfl,rfl,hg,h2⟩ rfl
  ·rintro i q st vs S hi ⟨rfl,rfl,hg,h2⟩ aD H
   have hil:=(List.getElem?_eq_some_iff.1 hi).1
   have hi8:i<8:=by omega
   have hib:i<is.length:=by omega
   have z1:((1:Nat)=S.next)=False:=by simp;omega
   have hbi:=hbr is[i] (List.getElem_mem hib)
   have hw2:wr .i64 (is[i]+1)=is[i]+1:=kU (by omega) (by omega)
   have hhd:(is.drop i).headD 0=is[i]:=by rw [List.drop_eq_getElem_cons hib];rfl
   have htl:(is.drop i).tail=is.drop (i+1):=by rw [List.drop_eq_getElem_cons hib];rfl
   have g1:∀ m b c,aC ⟨m,(S.heap.put S.next b).put S.next c⟩ 1 0=.ok (8,[is.map pW]):=fun m b c=>aG (n:=S.next) (by omega) (aG (n:=S.next) (by omega) hg)
   simp only [kI,hhd,htl] at H
   simp only [↓cw,↓reduceIte,Nat.reduceLT,kk,bO hi,tV hi,Ser.enc,aW2 _ _ _ _ hi8,g1,aW3 hib,hw2,jO (show i<1000000000 by omega)]
   by_cases c:q.next=is[i]+1
   ·simp only [↓cw,↓reduceIte,Nat.reduceLT,c,kk,if_true,if_false,not_true_eq_false] at H ⊢
    exact H _ _ ⟨rfl,g1 _ _ _,by show 2≤S.next+1+7;omega⟩
   ·simp only [↓cw,↓reduceIte,Nat.reduceLT,c,kk,if_true,if_false,not_false_eq_true] at H ⊢
    simp only [oo,←H]
  ·rintro st vs S ⟨rfl,rfl,hg,h2⟩ aD H
   simp only [↓cw,↓reduceIte,Nat.reduceLT,kk,Int.lt_irrefl,if_false,oo,←H]
theorem z40:[V.int .i64 0,.int .i64 0,.int .i64 0,.int .i64 0,.int .i64 0,.int .i64 0,.int .i64 0,.int .i64 0,.int .i64 0,.int .i64 0,.int .i64 0,.int .i64 0,.int .i64 0,.int .i64 0,.int .i64 0,.int .i64 0,.int .i64 0,.int .i64 0,.int .i64 0,.int .i64 0,.int .i64 0,.int .i64 0,.int .i64 0,.int .i64 0,.int .i64 0,.int .i64 0,.int .i64 0,.int .i64 0,.int .i64 0,.int .i64 0,.int .i64 0,.int .i64 0,.int .i64 0,.int .i64 0,.int .i64 0,.int .i64 0,.int .i64 0,.int .i64 0,.int .i64 0,.int .i64 0]=(List.replicate 40 (0:Int)).map pW:=rfl
theorem bKr (l:List Posted) {i:Nat} (hi:i<l.length):iY prog 26 (.imm (l.map Posted.enc)) none (some (.int .i64 (i:Int)))=.ok (.imm ((l.take i).map Posted.enc)):=by
 have hb:fO (l.map Posted.enc).length none (some (.int .i64 (i:Int)))=.ok (0,i):=by
  have:(decide ((0:Int)≤(i:Int))&&decide ((i:Int)≤((l.map Posted.enc).length:Int)))=true:=by simp;omega
  simp only [fO,this,cond_true,Int.toNat_natCast]
 rw [bIr _ (dA (n:=12) (fun c hc=>by obtain ⟨x,_,rfl⟩:=List.mem_map.1 hc;exact aIb x)).1,hb]
 simp only [List.drop_zero,Nat.sub_zero,List.map_take]
theorem aRj:(fun (a b:Bool)=>bQ prog .neq 4 (.bool a) (.bool b))=fun a b=>.ok (.bool (!(a == b))):=by kernel_rfl
theorem aGb (a b:Bool):bQ prog .neq 4 (.bool a) (.bool b)=.ok (.bool (!(a == b))):=congrFun (congrFun aRj a) b
theorem g88 (l:List Posted) (S:St) (K:KW):C 88 [.imm (l.map Posted.enc)] S K=K (.bool (iX l)) S:=by
 refine (v88 rfl ?_).eq S K
 delta Tryz.f88;simp only [↓cw,↓reduceIte,Nat.reduceLT,kk,iX]
 by_cases h40:40<l.length
 ·simp only [↓cw,↓reduceIte,Nat.reduceLT,h40,show (40:Int)<(l.length:Int) by omega,kk,if_true,oo]
 simp only [↓cw,↓reduceIte,Nat.reduceLT,h40,show ¬ (40:Int)<(l.length:Int) by omega,kk,if_false,z40]
 refine aH l (step:=gA) (fin:=fun st=>aE iF (fun _=>true) l st.2) (fun i st vs S=>vs=[.bool false,.int .i64 (i:Int)]∧aC S 0 0=.ok (40,[st.2.map pW])∧st.1=l.take i∧st.2.length=40∧(∀ b∈st.2,0≤b∧b≤i)∧(∀ p∈st.1,p.total.parts.length≤12)∧0<S.next) (fun r=>r=aE gA (fun st=>aE iF (fun _=>true) l st.2) l ([],List.replicate 40 0)) ?_ ?_ (s:=([],List.replicate 40 0)) ⟨rfl,rfl,rfl,rfl,fun b hb=>by rw [List.eq_of_mem_replicate hb];omega,(fun p h=>(by cases h)),Nat.zero_lt_one⟩ rfl
 ·rintro i p ⟨done,bs⟩ vs S hi ⟨rfl,hg,hdone,hbl,hbr,hfi,h0⟩ aD H
  simp only at hg hdone hbl hbr hfi
  have hil:=(List.getElem?_eq_some_iff.1 hi).1
  obtain ⟨S1,hS1⟩:∃ S1:St,S1=⟨S.next+1,(S.heap.put S.next (.row 0 12 [aK2])).put S.next (.row 0 12 [p.enc])⟩:=⟨_,rfl⟩
  have n1:S1.next=S.next+1:=by rw [hS1]
  have g1:aC S1 0 0=.ok (40,[bs.map pW]):=by rw [hS1];exact aG (n:=S.next) (by omega) (aG (n:=S.next) (by omega) hg)
  have p1:aC S1 S.next 0=.ok (12,[p.enc]):=by rw [hS1];exact aA _ _ _ _ _ _
  have hdone':(done++[p])=l.take (i+1):=by
   rw [hdone,List.take_succ_eq_append_getElem hil,(List.getElem?_eq_some_iff.1 hi).2]
  simp only [gA,Ref.ext_iff,Ref.zero] at H
  simp only [aK2,Posted.enc] at hS1
  simp only [Posted.enc] at p1
  simp only [↓cw,↓reduceIte,Nat.reduceLT,kk,bO hi,rZ hi,Posted.enc,←hS1,gm,p1,aK5,bPp,jO (show i<1000000000 by omega),bKr l hil,oo]
  cases h1:p.day.right
  ·simp only [↓cw,↓reduceIte,Nat.reduceLT,h1,kk,if_true] at H ⊢
   rw [←H]
  cases h2:dI p.total
  ·simp only [↓cw,↓reduceIte,Nat.reduceLT,h1,h2,kk,Bool.true_eq_false,if_true,if_false] at H ⊢
   rw [←H]
  simp only [↓cw,↓reduceIte,Nat.reduceLT,h1,h2,kk,Bool.true_eq_false,if_false] at H ⊢
  have hfi':∀ q∈done++[p],q.total.parts.length≤12:=fun q hq=>by
   rcases List.mem_append.1 hq with hq | hq
   ·exact hfi q hq
   ·rw [List.mem_singleton.1 hq];exact oR h2
  by_cases h3:p.of.ser=[]∧p.of.num=0
  ·simp only [↓cw,↓reduceIte,Nat.reduceLT,h3,and_self,BEq.rfl,decide_true,Bool.and_self,kk,if_true] at H ⊢
   exact H _ _ ⟨rfl,g1,hdone',hbl,fun b hb=>⟨(hbr b hb).1,by have:=(hbr b hb).2;omega⟩,hfi',by omega⟩
  have h3':¬ (p.of.ser == []&&decide (p.of.num=0))=true:=by simpa using h3
  have hdl:done.length≤i:=by rw [hdone,List.length_take];omega
  simp only [↓cw,↓reduceIte,Nat.reduceLT,h3,h3',if_false,bPv done p.of (show done.length<1000000 by omega),←hdone,kk,gm,p1] at H ⊢
  rcases kH done p.of with hk | ⟨k,f,hk,hf,_⟩
  ·simp only [↓cw,↓reduceIte,Nat.reduceLT,hk,show (-1:Int)<0 by decide,kk,if_true] at H ⊢
   rw [←H]
  have hkd:=(List.getElem?_eq_some_iff.1 hf).1
  have hki:k<i:=by omega
  have hlk:l[k]?=some f:=by rw [hdone,List.getElem?_take,if_pos hki] at hf;exact hf
  have hfl:f.total.parts.length≤12:=hfi f (List.mem_of_getElem? hf)
  have hgd:∀ d,done.getD k d=f:=fun d=>by rw [List.getD_eq_getElem?_getD,hf];rfl
  have hkb:k<bs.length:=by omega
  have hk40:k<40:=by omega
  have hbk:=hbr bs[k] (List.getElem_mem hkb)
  have hw2:wr .i64 (bs[k]+1)=bs[k]+1:=kU (by omega) (by omega)
  have hbu:bump bs k=bs.set k (bs[k]+1):=by unfold bump;rw [yY bs k hkb]
  have g2:aC ⟨S1.next+7+11,S1.heap.put 0 (.row 0 40 [(bump bs k).map pW])⟩ 0 0=.ok (40,[(bump bs k).map pW]):=aA _ _ _ _ _ _
  simp only [↓cw,↓reduceIte,Nat.reduceLT,hk,show ¬ (k:Int)<0 by omega,kk,if_false,Int.toNat_natCast,hgd,rZ hlk,Posted.enc,bPs p f (show f.total.parts.length≤1000 by omega)] at H ⊢
  cases h4:pE p f
  ·simp only [↓cw,↓reduceIte,Nat.reduceLT,h4,kk,if_true] at H ⊢
   rw [←H]
  ·simp only [↓cw,↓reduceIte,Nat.reduceLT,h4,kk,Bool.true_eq_false,if_false,aW1 _ _ _ _ hk40,gm,g1,aW3 hkb,hw2,bKp hkb,←hbu] at H ⊢
   refine H _ _ ⟨rfl,g2,hdone',by rw [yZ];exact hbl,fun b hb=>?_,hfi',Nat.succ_pos _⟩
   rw [hbu] at hb
   rcases List.mem_or_eq_of_mem_set hb with hb | rfl
   ·exact ⟨(hbr b hb).1,by have:=(hbr b hb).2;omega⟩
   ·omega
 ·rintro ⟨done,bs⟩ vs S ⟨rfl,hg,hdone,hbl,hbr,hfi,h0⟩ aD H
  simp only at hg hbl
  have H':aE gA (fun st=>aE iF (fun _=>true) l st.2) l ([],List.replicate 40 0)=aE iF (fun _=>true) l bs:=H.symm
  simp only [↓cw,↓reduceIte,Nat.reduceLT,kk,Int.lt_irrefl,if_false,H']
  refine aH l (step:=iF) (fin:=fun _=>true) (fun i st vs S=>vs=[.bool false,.int .i64 (i:Int)]∧st=bs.drop i∧aC S 0 0=.ok (40,[bs.map pW])∧0<S.next) (fun r=>r=aE iF (fun _=>true) l bs) ?_ ?_ (s:=bs) ⟨rfl,rfl,hg,h0⟩ rfl
  ·rintro i p st vs S hi ⟨rfl,rfl,hg,h0⟩ aD H
   have hil:=(List.getElem?_eq_some_iff.1 hi).1
   have hi40:i<40:=by omega
   have hib:i<bs.length:=by omega
   have hhd:(bs.drop i).headD 0=bs[i]:=by rw [List.drop_eq_getElem_cons hib];rfl
   have htl:(bs.drop i).tail=bs.drop (i+1):=by rw [List.drop_eq_getElem_cons hib];rfl
   have g1:∀ m b c,aC ⟨m,(S.heap.put S.next b).put S.next c⟩ 0 0=.ok (40,[bs.map pW]):=fun m b c=>aG (n:=S.next) (by omega) (aG (n:=S.next) (by omega) hg)
   simp only [iF,hhd,htl] at H
   simp only [↓cw,↓reduceIte,Nat.reduceLT,kk,bO hi,rZ hi,Posted.enc,aW1 _ _ _ _ hi40,g1,aW3 hib,aGb,jO (show i<1000000000 by omega)]
   by_cases c1:1<bs[i]
   ·simp only [↓cw,↓reduceIte,Nat.reduceLT,c1,kk,if_true] at H ⊢
    simp only [oo,←H]
   ·by_cases c2:p.back=decide (bs[i]=1)
    ·simp only [↓cw,↓reduceIte,Nat.reduceLT,c1,c2,kk,if_true,if_false,BEq.rfl,Bool.not_true,Bool.false_eq_true] at H ⊢
     exact H _ _ ⟨rfl,g1 _ _ _,Nat.succ_pos _⟩
    ·have c3:(!(p.back == decide (bs[i]=1)))=true:=by simpa using c2
     simp only [↓cw,↓reduceIte,Nat.reduceLT,c1,c2,c3,kk,if_true,if_false] at H ⊢
     simp only [oo,←H]
  ·rintro st vs S ⟨rfl,rfl,hg,h2⟩ aD H
   simp only [↓cw,↓reduceIte,Nat.reduceLT,kk,Int.lt_irrefl,if_false,oo,←H]
theorem bKs {v:V} (book l:List Bal) (hv:v=.imm (book.map Bal.enc)∨(v=.nils∧book=[])) (hbb:book.length+l.length<1000000) (S:St) (K:KW):C 158 [v,.imm (l.map Bal.enc)] S K=K (.tup [.imm ((cC book l).1.map Bal.enc),.int .i64 (cC book l).2]) S:=by
 rcases hv with rfl | ⟨rfl,rfl⟩
 ·exact bEk book l hbb S K
 ·exact (Fn.back (args:=[.imm [],.imm (l.map Bal.enc)]) fun S K=>bEk [] l hbb S K).frz bG7 rfl rfl rfl (.inr rfl) K
theorem aKb (l:List Posted):cK l=aE bM (fun b=>(b,0)) l []:=rfl
theorem g90 (l:List Posted) (hl:l.length≤1000) (hf:∀ p∈l,tX p.total) (S:St) (K:KW):C 90 [.imm (l.map Posted.enc)] S K=K (.tup [.imm ((cK l).1.map Bal.enc),.int .i64 (cK l).2]) S:=by
 refine (v90 rfl ?_).eq S K
 delta Tryz.f90;simp only [↓cw,↓reduceIte,Nat.reduceLT,kk,aKb]
 refine aH l (step:=bM) (fin:=fun b=>(b,0)) (fun i s vs S=>∃ v,vs=[.nils,.int .i64 0,v,.int .i64 (i:Int)]∧(v=.imm (s.map Bal.enc)∨(v=.nils∧s=[]))∧s.length≤25*i) (fun r=>r=aE bM (fun b=>(b,0)) l []) ?_ ?_ (s:=[]) ⟨_,rfl,.inr ⟨rfl,rfl⟩,Nat.zero_le _⟩ rfl
 ·rintro i p s vs S hi ⟨v,rfl,hv,hsl⟩ aD H
  have hil:=(List.getElem?_eq_some_iff.1 hi).1
  have hfp:=hf p (List.mem_of_getElem? hi)
  simp only [bM] at H
  simp only [↓cw,↓reduceIte,Nat.reduceLT,kk,bO hi,rZ hi,Posted.enc,bKe p.total hfp,jO (show i<1000000000 by omega)]
  by_cases c1:(dG p.total).2=0
  ·have hel:=(tP p.total).resolve_right (not_not_intro c1)
   have h12:=hfp.1
   have hle:=rU s (dG p.total).1
   simp only [↓cw,↓reduceIte,Nat.reduceLT,c1,kk,not_true_eq_false,if_false,bKs s _ hv (show s.length+(dG p.total).1.length<1000000 by omega)] at H ⊢
   by_cases c2:(cC s (dG p.total).1).2=0
   ·simp only [↓cw,↓reduceIte,Nat.reduceLT,c2,kk,not_true_eq_false,if_false] at H ⊢
    exact H _ _ ⟨_,rfl,.inl rfl,by omega⟩
   ·simp only [↓cw,↓reduceIte,Nat.reduceLT,c2,kk,not_false_eq_true,if_true] at H ⊢
    simp only [oo,←H,List.map_nil]
  ·simp only [↓cw,↓reduceIte,Nat.reduceLT,c1,kk,not_false_eq_true,if_true] at H ⊢
   simp only [oo,←H,List.map_nil]
 ·rintro s vs S ⟨v,rfl,hv,hsl⟩ aD H
  have H':aE bM (fun b=>(b,0)) l []=(s,0):=H.symm
  simp only [↓cw,↓reduceIte,Nat.reduceLT,kk,Int.lt_irrefl,if_false,H']
  rcases hv with rfl | ⟨rfl,rfl⟩<;>simp only [oo,List.map_nil]
theorem g87 (s:State) (S:St) (K:KW):C 87 [.agg [.imm (s.table.map Rate.enc),.imm (s.ser.map Ser.enc),.imm (s.posted.map Posted.enc),.imm (s.book.map Bal.enc),.imm (s.sess.map Sess.enc),.int .i64 s.next]] S K=K (.bool (kY s)) S:=by
 refine (v87 rfl ?_).eq S K
 delta Tryz.f87;simp only [↓cw,↓reduceIte,Nat.reduceLT,kk,gm,grS,aYw,kY,oo]
 cases h1:gH s.sess
 ·simp only [↓cw,↓reduceIte,Nat.reduceLT,h1,kk,Bool.false_eq_true,if_false]
 have hb:=mU h1
 simp only [↓cw,↓reduceIte,Nat.reduceLT,h1,kk,if_true]
 by_cases h2:1≤s.next
 ·by_cases h3:s.next≤1099511627776
  ·simp only [↓cw,↓reduceIte,Nat.reduceLT,h2,h3,kk,if_true]
   by_cases h4:s.sess.length=0
   ·have:s.sess=[]:=List.length_eq_zero_iff.1 h4
    simp only [↓cw,↓reduceIte,Nat.reduceLT,h4,show ((0:Nat):Int)=0 from rfl,kk,if_true,aDn,this]
   ·obtain ⟨j,hj⟩:∃ j,s.sess.length=j+1:=⟨s.sess.length - 1,by omega⟩
    have hjl:s.sess[j]?=some s.sess[j]:=List.getElem?_eq_getElem (by omega)
    simp only [↓cw,↓reduceIte,Nat.reduceLT,h4,hj,show ¬ ((j+1:Nat):Int)=0 by omega,kk,if_false,oo,wrm (show j+1<1000000000 by omega),tW hjl,Sess.enc,aDn,Nat.add_sub_cancel,hjl]
  ·simp only [↓cw,↓reduceIte,Nat.reduceLT,h2,h3,kk,if_true,if_false]
 ·simp only [↓cw,↓reduceIte,Nat.reduceLT,h2,kk,if_false]
theorem g24 (s:State) (S:St) (K:KW):C 24 [.agg [.imm (s.table.map Rate.enc),.imm (s.ser.map Ser.enc),.imm (s.posted.map Posted.enc),.imm (s.book.map Bal.enc),.imm (s.sess.map Sess.enc),.int .i64 s.next]] S K=K (.bool (aV s)) S:=by
 refine (v24 rfl ?_).eq S K
 delta Tryz.f24;simp only [↓cw,↓reduceIte,Nat.reduceLT,kk,g85,g86,g87 s,g88,aV,oo]
 cases h1:gE s.table
 ·simp only [↓cw,↓reduceIte,Nat.reduceLT,h1,kk,if_true]
 cases h2:nZ s.ser
 ·simp only [↓cw,↓reduceIte,Nat.reduceLT,h2,kk,if_true,Bool.true_eq_false,if_false]
 cases h3:kY s
 ·simp only [↓cw,↓reduceIte,Nat.reduceLT,h3,kk,if_true,Bool.true_eq_false,if_false]
 cases h4:iX s.posted
 ·simp only [↓cw,↓reduceIte,Nat.reduceLT,h4,kk,if_true,Bool.true_eq_false,if_false]
 obtain ⟨h40,hok⟩:=wW h4
 simp only [↓cw,↓reduceIte,Nat.reduceLT,kk,Bool.true_eq_false,if_false,g89 s (pU h2) h40]
 cases h5:nM s.ser s.posted
 ·simp only [↓cw,↓reduceIte,Nat.reduceLT,h5,kk,if_true]
 have hbl:=tQ s.posted [] (cK s.posted) (fun p hp=>oR (hok p hp).2) rfl
 simp only [List.length_nil,Nat.zero_add] at hbl
 simp only [↓cw,↓reduceIte,Nat.reduceLT,kk,Bool.true_eq_false,if_false,g90 s.posted (show s.posted.length≤1000 by omega) (fun p hp=>aB3 (hok p hp).2)]
 by_cases h6:(cK s.posted).2=0
 ·simp only [↓cw,↓reduceIte,Nat.reduceLT,h6,kk,if_true,g91 (cK s.posted).1 s.book (show (cK s.posted).1.length<1000000 by omega),oo]
 ·simp only [↓cw,↓reduceIte,Nat.reduceLT,h6,kk,if_false,oo]
end Go.Proofs.YtoaibmbldmckaaaGreat
end
section
namespace Go.AM
structure Mv (a:Nat) (v:V) (S:St) (v':V) (S':St):Prop where
 next:S.next≤S'.next
 keep:∀ y,y<S.next→y≠a→blkOf v≠some y→S'.heap.get y=S.heap.get y
 fresh:∀ y,blkOf v'=some y→blkOf v=some y∨S.next≤y
theorem Mv.refl (a:Nat) (v:V) (S:St):Mv a v S v S:=⟨Nat.le_refl _,fun _ _ _ _=>rfl,fun _ h=>.inl h⟩
theorem Mv.trans {a:Nat} {u v w:V} {S S' S'':St} (h:Mv a u S v S') (k:Mv a v S' w S''):Mv a u S w S'':=
 ⟨Nat.le_trans h.next k.next,fun y hy ha hu=>by
  rw [k.keep y (Nat.lt_of_lt_of_le hy h.next) ha (fun e=>(h.fresh y e).elim hu fun q=>by omega),h.keep y hy ha hu],fun y hy=>by
  rcases k.fresh y hy with q | q
  ·exact h.fresh y q
  ·exact .inr (Nat.le_trans h.next q)⟩
theorem Mv.put {a:Nat} {v w:V} {S S':St} (h:Mv a v S w S') {k m:Nat} {b:Blk} (hk:k=a∨S.next≤k) (hm:S'.next≤m):Mv a v S w ⟨m,S'.heap.put k b⟩:=
 ⟨Nat.le_trans h.next hm,fun y hy ha hv=>by
  show (S'.heap.put k b).get y=_
  rw [Tr.get_put_neB _ _ _ _ trivial (by
   rcases hk with rfl | q
   ·exact ha
   ·omega)];exact h.keep y hy ha hv,h.fresh⟩
theorem Mv.bump {a:Nat} {v w:V} {S S':St} (h:Mv a v S w S') (c:Nat):Mv a v S w ⟨S'.next+c,S'.heap⟩:=
 ⟨Nat.le_trans h.next (Nat.le_add_right _ _),h.keep,h.fresh⟩
end Go.AM
namespace Go.Proofs.YtoaibmbldmckaaaGreat
open Go.AM Tryz
set_option linter.unusedVariables false
set_option linter.unusedSimpArgs false
set_option maxRecDepth 100000
def State.cells (s:State) (v:V):List V:=[.imm (s.table.map Rate.enc),.imm (s.ser.map Ser.enc),v,.imm (s.book.map Bal.enc),.imm (s.sess.map Sess.enc),.int .i64 s.next]
structure StAt (S:St) (a:Nat) (s:State) (v:V):Prop where
 row:aC S a 0=.ok (6,[s.cells v])
 own:Own E0 S 12 v (s.posted.map Posted.enc)
 wf:WF S
 ne:AM.blkOf v≠some a
theorem StAt.lt {S:St} {a:Nat} {s:State} {v:V} (h:StAt S a s v):a<S.next:=h.wf _ _ (zH h.row)
theorem StAt.put {S:St} {a:Nat} {s:State} {v:V} (h:StAt S a s v) {k m:Nat} {b:Blk} (hk:k≠a) (hv:AM.blkOf v≠some k) (hm:k<m) (hn:S.next≤m):StAt ⟨m,S.heap.put k b⟩ a s v:=
 ⟨aG (n:=S.next) (Ne.symm hk) h.row,h.own.same hn fun y hy=>Tr.get_put_neB _ _ _ _ trivial (fun e=>hv (by rw [←e];exact hy)),jN (n:=S.next) h.wf hm hn,h.ne⟩
theorem StAt.bump {S:St} {a:Nat} {s:State} {v:V} (h:StAt S a s v) (c:Nat):StAt ⟨S.next+c,S.heap⟩ a s v:=⟨h.row,h.own.bump c,h.wf.bump c,h.ne⟩
theorem StAt.set {S:St} {a:Nat} {s s':State} {v:V} (h:StAt S a s v) (hp:s'.posted=s.posted):StAt ⟨S.next,S.heap.put a (.row 0 6 [s'.cells v])⟩ a s' v:=
 ⟨aA _ _ _ _ _ _,by rw [hp];exact h.own.same (Nat.le_refl _) fun y hy=>Tr.get_put_neB _ _ _ _ trivial (fun e=>h.ne (by rw [←e];exact hy)),jN (n:=S.next) h.wf h.lt (Nat.le_refl _),h.ne⟩
theorem StAt.new {S:St} {a:Nat} {s:State} {v:V} (h:StAt S a s v) {k:Nat} (hk:S.next≤k):AM.blkOf v≠some k:=fun e=>by have:=(cN h.own e).2;omega
theorem mM (w:Int) (S:St) (K:KW):C 103 [.int .i64 w] S K=K (.agg [.int .i64 w,.int .i64 0,.int .i64 0]) S:=by
 refine (bMb rfl ?_).eq S K
 delta Tryz.f103;simp only [↓cw,↓reduceIte,Nat.reduceLT,kk,oo]
theorem bKt {S:St} {a:Nat} {s:State} {v:V} (st:StAt S a s v) (name:List UInt8) (p:Posted) (hf:tX p.total) (hb:s.book.length<900000) {K:KW}
  (H:∀ S' v',StAt S' a (aR s name p).1 v'→Mv a v S v' S'→K (.agg [.int .i64 (aR s name p).2.why,.int .i64 (aR s name p).2.number,.int .i64 (aR s name p).2.gross]) S'):
  C 239 [.ptr a 0 0 0,.str name,.agg [.str p.ref.ser,.int .i64 p.ref.num,.int .i64 p.day.y,.int .i64 p.day.m,.int .i64 p.day.d,.int .i64 p.total.net,.int .i64 p.total.tax,.int .i64 p.total.gross,.imm (p.total.parts.map Part.enc),.str p.of.ser,.int .i64 p.of.num,.bool p.back]] S K:=by
 refine bNv ?_
 have ha:=st.lt
 obtain ⟨S1,hS1⟩:∃ S1:St,S1=⟨S.next+1+1,(S.heap.put S.next (.row 0 12 [p.enc])).put (S.next+1) (.row 0 3 [[.int .i64 0,.int .i64 0,.int .i64 0]])⟩:=⟨_,rfl⟩
 have n1:S1.next=S.next+2:=by rw [hS1]
 have st1:StAt S1 a s v:=by
  rw [hS1]
  exact (st.put (k:=S.next) (m:=S.next+1) (by omega) (st.new (Nat.le_refl _)) (by omega) (by omega)).put (by omega) (st.new (by omega)) (by omega) (Nat.le_succ _)
 have mv1:Mv a v S v S1:=by
  rw [hS1]
  exact ((Mv.refl a v S).put (k:=S.next) (m:=S.next+1) (.inr (Nat.le_refl _)) (by omega)).put (.inr (by omega)) (Nat.le_succ _)
 have r0:aC S1 S.next 0=.ok (12,[p.enc]):=by rw [hS1];exact aG (n:=S.next+1) (by omega) (aA _ _ _ _ _ _)
 have r1:aC S1 (S.next+1) 0=.ok (3,[[.int .i64 0,.int .i64 0,.int .i64 0]]):=by rw [hS1];exact aA _ _ _ _ _ _
 have ra:=st1.row
 simp only [Posted.enc] at r0 hS1
 simp only [State.cells] at ra
 have hlen:lenW v=.ok (.int .i64 (s.posted.length:Int)):=st1.own.sl.lenI
 delta Tryz.f239;simp only [↓cw,↓reduceIte,Nat.reduceLT,kk,←hS1,ra,r0,bPc,hlen,bKe p.total hf]
 simp only [↓cw,↓reduceIte,Nat.reduceLT,mM,kk,r1]
 have hfail:∀ w:Int,aR s name p=(s,why w)→K (.agg [.int .i64 w,.int .i64 0,.int .i64 0]) ⟨S1.next,S1.heap.put (S.next+1) (.row 0 3 [[.int .i64 w,.int .i64 0,.int .i64 0]])⟩:=by
  intro w hw
  have:=H _ v (by rw [hw];exact st1.put (k:=S.next+1) (m:=S1.next) (b:=.row 0 3 [[.int .i64 w,.int .i64 0,.int .i64 0]]) (by omega) (st.new (by omega)) (by omega) (Nat.le_refl _)) (mv1.put (.inr (by omega)) (Nat.le_refl _))
  rw [hw] at this
  exact this
 by_cases c1:(cO s.ser name).2.2=0
 rotate_left
 ·simp only [↓cw,↓reduceIte,Nat.reduceLT,c1,kk,not_false_eq_true,if_true]
  exact hfail _ (by simp only [aR,c1,not_false_eq_true,if_true,ne_eq])
 by_cases c2:40≤s.posted.length
 ·simp only [↓cw,↓reduceIte,Nat.reduceLT,c1,show (40:Int)≤(s.posted.length:Int) by omega,kk,not_true_eq_false,if_false,if_true]
  exact hfail _ (by simp only [aR,c1,c2,not_true_eq_false,if_false,if_true,ne_eq])
 by_cases c3:(dG p.total).2=0
 rotate_left
 ·simp only [↓cw,↓reduceIte,Nat.reduceLT,c1,c3,show ¬ (40:Int)≤(s.posted.length:Int) by omega,kk,not_true_eq_false,not_false_eq_true,if_false,if_true]
  exact hfail _ (by simp only [aR,c1,c2,c3,not_true_eq_false,not_false_eq_true,if_false,if_true,ne_eq])
 have hel:=(tP p.total).resolve_right (not_not_intro c3)
 have h12:=hf.1
 simp only [↓cw,↓reduceIte,Nat.reduceLT,bEk s.book (dG p.total).1 (show s.book.length+(dG p.total).1.length<1000000 by omega),kk]
 by_cases c4:(cC s.book (dG p.total).1).2=0
 rotate_left
 ·simp only [↓cw,↓reduceIte,Nat.reduceLT,c1,c3,c4,show ¬ (40:Int)≤(s.posted.length:Int) by omega,kk,mM,r1,not_true_eq_false,not_false_eq_true,if_false,if_true]
  exact hfail (cC s.book (dG p.total).1).2 (by simp only [aR,c1,c2,c3,c4,not_true_eq_false,not_false_eq_true,if_false,if_true,ne_eq])
 simp only [↓cw,↓reduceIte,Nat.reduceLT,c1,c3,c4,show ¬ (40:Int)≤(s.posted.length:Int) by omega,kk,not_true_eq_false,if_false,bK0]
 obtain ⟨q,hq⟩:∃ q:Posted,q={ p with ref:=⟨name,(cO s.ser name).2.1⟩ }:=⟨_,rfl⟩
 have hiss:aR s name p=({ s with ser:=(cO s.ser name).1,book:=(cC s.book (dG p.total).1).1,posted:=s.posted++[q] },⟨0,(cO s.ser name).2.1,p.total.gross⟩):=by
  rw [hq]
  simp only [aR,c1,c2,c3,c4,not_true_eq_false,not_false_eq_true,if_false,if_true,ne_eq]
 have hqe:q.enc=[.str name,.int .i64 (cO s.ser name).2.1,.int .i64 p.day.y,.int .i64 p.day.m,.int .i64 p.day.d,.int .i64 p.total.net,.int .i64 p.total.tax,.int .i64 p.total.gross,.imm (p.total.parts.map Part.enc),.str p.of.ser,.int .i64 p.of.num,.bool p.back]:=by rw [hq];rfl
 have oV:=st1.put (k:=S.next) (m:=S1.next) (b:=.row 0 12 [q.enc]) (by omega) (st.new (Nat.le_refl _)) (by omega) (Nat.le_refl _)
 have mv2:=mv1.put (k:=S.next) (m:=S1.next) (b:=.row 0 12 [q.enc]) (.inr (Nat.le_refl _)) (Nat.le_refl _)
 obtain ⟨v',S3,q1,w3,n3,own3,bk3,keep3⟩:=aK9 (b:=128) oV.own oV.wf (k1:=S1.next+10) (k2:=S1.next+11) (m:=S1.next+21) (fresh oV.wf (by show S1.next≤_;omega)) (fresh oV.wf (by show S1.next≤_;omega)) (by omega) (by omega) (by omega) (by show S1.next≤_;omega) (aIb q) (by simp;omega) (by simp [eD];omega)
 have hbv:∀ y,AM.blkOf v=some y→y<S.next:=fun y hy=>(cN st.own hy).2
 have hn':AM.blkOf v'≠some a:=fun e=>by
  rcases bk3 with h | h
  ·rw [h] at e;have:=Option.some.inj e;omega
  ·rw [h] at e;exact st.ne e
 have mv3:Mv a v S v' S3:=⟨by omega,fun y hy hya hyv=>by rw [keep3 y (by omega) (by omega) hyv];exact mv2.keep y hy hya hyv,fun y hy=>by
  rcases bk3 with h | h
  ·rw [h] at hy;have:=Option.some.inj hy;exact .inr (by omega)
  ·rw [h] at hy;exact .inl hy⟩
 have ra3:aC S3 a 0=.ok (6,[s.cells v]):=aY oV.row (keep3 a (by omega) (by omega) st.ne)
 have r03:aC S3 S.next 0=.ok (12,[q.enc]):=aY (aA S1.next S1.heap S.next 0 12 [q.enc]) (keep3 S.next (by omega) (by omega) (st.new (Nat.le_refl _)))
 have r13:aC S3 (S.next+1) 0=.ok (3,[[.int .i64 0,.int .i64 0,.int .i64 0]]):=aY (aG (n:=S1.next) (m:=S1.next) (b:=.row 0 12 [q.enc]) (by omega) r1) (keep3 (S.next+1) (by omega) (by omega) (st.new (Nat.le_succ _)))
 have hm:s.posted.map Posted.enc++[q.enc]=(s.posted++[q]).map Posted.enc:=by rw [List.map_append];rfl
 rw [hm] at own3
 have o1:=own3.one
 have o2:=own3.cells
 have zz:(S.next=a)=False:=by simp;omega
 have zy:(a=S.next)=False:=by simp;omega
 have zx:(S.next+1=a)=False:=by simp;omega
 have zw:(a=S.next+1)=False:=by simp;omega
 have zv:(S.next+1=S.next)=False:=by simp
 have zu:(S.next=S.next+1)=False:=by simp
 rw [hqe] at q1 r03
 simp only [State.cells] at ra3
 simp only [↓cw,↓reduceIte,Nat.reduceLT,kk,r0,gm,eG,zz,zy,zx,zw,ra]
 dsimp only at q1
 simp only [↓cw,↓reduceIte,Nat.reduceLT,q1,kk,ra3,o1,o2,gm,eG,zz,zy,zx,zw,zv,zu,r03,r13,r1]
 have key:=H ⟨S3.next,(((S3.heap.put a (.row 0 6 [({ s with ser:=(cO s.ser name).1 }:State).cells v])).put a (.row 0 6 [({ s with ser:=(cO s.ser name).1,book:=(cC s.book (dG p.total).1).1 }:State).cells v])).put a (.row 0 6 [({ s with ser:=(cO s.ser name).1,book:=(cC s.book (dG p.total).1).1,posted:=s.posted++[q] }:State).cells v'])).put (S.next+1) (.row 0 3 [[.int .i64 0,.int .i64 (cO s.ser name).2.1,.int .i64 p.total.gross]])⟩ v' ?_ ?_
 ·rw [hiss] at key
  exact key
 ·rw [hiss]
  have ka:∀ (h:Tr Blk) (b:Blk),∀ y,AM.blkOf v'=some y→(h.put a b).get y=h.get y:=fun h b y hy=>Tr.get_put_neB _ _ _ _ trivial (fun e=>hn' (by rw [←e];exact hy))
  have kn:AM.blkOf v'≠some (S.next+1):=fun e=>by
   rcases bk3 with h | h
   ·rw [h] at e;have:=Option.some.inj e;omega
   ·rw [h] at e;have:=hbv _ e;omega
  have ow:Own E0 ⟨S3.next,((S3.heap.put a (.row 0 6 [({ s with ser:=(cO s.ser name).1 }:State).cells v])).put a (.row 0 6 [({ s with ser:=(cO s.ser name).1,book:=(cC s.book (dG p.total).1).1 }:State).cells v])).put a (.row 0 6 [({ s with ser:=(cO s.ser name).1,book:=(cC s.book (dG p.total).1).1,posted:=s.posted++[q] }:State).cells v'])⟩ 12 v' ((s.posted++[q]).map Posted.enc):=own3.same (Nat.le_refl _) fun y hy=>by
   show ((((S3.heap.put a _).put a _).put a _).get y)=_
   rw [ka _ _ y hy,ka _ _ y hy,ka _ _ y hy]
  have hs:StAt ⟨S3.next,((S3.heap.put a (.row 0 6 [({ s with ser:=(cO s.ser name).1 }:State).cells v])).put a (.row 0 6 [({ s with ser:=(cO s.ser name).1,book:=(cC s.book (dG p.total).1).1 }:State).cells v])).put a (.row 0 6 [({ s with ser:=(cO s.ser name).1,book:=(cC s.book (dG p.total).1).1,posted:=s.posted++[q] }:State).cells v'])⟩ a { s with ser:=(cO s.ser name).1,book:=(cC s.book (dG p.total).1).1,posted:=s.posted++[q] } v':=
   ⟨aA _ _ _ _ _ _,ow,jN (n:=S3.next) (jN (n:=S3.next) (jN (n:=S3.next) w3 (by omega) (Nat.le_refl _)) (by omega) (Nat.le_refl _)) (by omega) (Nat.le_refl _),hn'⟩
  exact hs.put (k:=S.next+1) (m:=S3.next) (by omega) kn (by omega) (Nat.le_refl _)
 ·exact (((mv3.put (m:=S3.next) (.inl rfl) (Nat.le_refl _)).put (m:=S3.next) (.inl rfl) (Nat.le_refl _)).put (m:=S3.next) (.inl rfl) (Nat.le_refl _)).put (m:=S3.next) (.inr (Nat.le_succ _)) (Nat.le_refl _)
end Go.Proofs.YtoaibmbldmckaaaGreat
end
section
namespace Go.Proofs.YtoaibmbldmckaaaGreat
open Go.AM Tryz
theorem aCb {S:St} {a:Nat} {s:State} {v:V} (st:StAt S a s v) (n m:Nat) (x y:List V):∃ S1:St,S1=⟨S.next+1+1,(S.heap.put S.next (.row 0 n [x])).put (S.next+1) (.row 0 m [y])⟩∧S.next+1+1=S1.next∧(S.heap.put S.next (.row 0 n [x])).put (S.next+1) (.row 0 m [y])=S1.heap∧S1.next=S.next+2∧StAt S1 a s v∧Mv a v S v S1∧aC S1 S.next 0=.ok (n,[x])∧aC S1 (S.next+1) 0=.ok (m,[y]):=by
 have ha:=st.lt
 exact ⟨_,rfl,rfl,rfl,rfl,(st.put (k:=S.next) (m:=S.next+1) (by omega) (st.new (Nat.le_refl _)) (by omega) (by omega)).put (by omega) (st.new (by omega)) (by omega) (Nat.le_succ _),((Mv.refl a v S).put (k:=S.next) (m:=S.next+1) (.inr (Nat.le_refl _)) (by omega)).put (.inr (by omega)) (Nat.le_succ _),
  aG (n:=S.next+1) (by omega) (aA _ _ _ _ _ _),aA _ _ _ _ _ _⟩
theorem bPy {S:St} {a:Nat} {s:State} {v:V} (st:StAt S a s v) (c:Cmd) (hl:c.lines.length<1000000) (hb:s.book.length<900000) {K:KW}
  (H:∀ S' v',StAt S' a (lV s c).1 v'→Mv a v S v' S'→K (.agg [.int .i64 (lV s c).2.why,.int .i64 (lV s c).2.number,.int .i64 (lV s c).2.gross]) S'):
  C 180 [.ptr a 0 0 0,.agg [.int .i64 c.kind,.str c.series,.int .i64 c.limit,.str c.row.cat,.int .i64 c.row.day.y,.int .i64 c.row.day.m,.int .i64 c.row.day.d,.int .i64 c.row.bp,.int .i64 c.day.y,.int .i64 c.day.m,.int .i64 c.day.d,.imm (c.lines.map Line.enc),.str c.of.ser,.int .i64 c.of.num,.int .i64 c.session]] S K:=by
 refine bN6 ?_
 have ha:=st.lt
 obtain ⟨S1,hS1,hnx,hhp,n1,st1,mv1,r0,r1⟩:=aCb st 15 3 [.int .i64 c.kind,.str c.series,.int .i64 c.limit,.str c.row.cat,.int .i64 c.row.day.y,.int .i64 c.row.day.m,.int .i64 c.row.day.d,.int .i64 c.row.bp,.int .i64 c.day.y,.int .i64 c.day.m,.int .i64 c.day.d,.imm (c.lines.map Line.enc),.str c.of.ser,.int .i64 c.of.num,.int .i64 c.session] [.int .i64 0,.int .i64 0,.int .i64 0]
 have ra:=st1.row
 simp only [State.cells] at ra
 have e1:(S.next=S1.next+12)=False:=by simp;omega
 have e2:(S.next+1=S1.next+12)=False:=by simp;omega
 delta Tryz.f180;simp only [↓cw,↓reduceIte,Nat.reduceLT,kk,hnx,hhp,gm,ra,r0,bPn s.table c.day c.lines hl,aMs,eG,e1,e2,r1,mM,gm]
 obtain ⟨S2,hS2⟩:∃ S2:St,S2=⟨S1.next+15,(S1.heap.put (S1.next+12) (.row 0 4 [[.int .i64 0,.int .i64 0,.int .i64 0,.nils]])).put (S1.next+12) (.row 0 4 [[.int .i64 (dB s.table c.day c.lines).1.net,.int .i64 (dB s.table c.day c.lines).1.tax,.int .i64 (dB s.table c.day c.lines).1.gross,.imm ((dB s.table c.day c.lines).1.parts.map Part.enc)]])⟩:=⟨_,rfl⟩
 have oV:StAt S2 a s v:=by
  rw [hS2]
  exact (st1.put (k:=S1.next+12) (m:=S1.next+15) (by omega) (st.new (by omega)) (by omega) (by omega)).put (by omega) (st.new (by omega)) (by omega) (Nat.le_refl _)
 have mv2:Mv a v S v S2:=by
  rw [hS2]
  exact (mv1.put (k:=S1.next+12) (m:=S1.next+15) (.inr (by omega)) (by omega)).put (.inr (by omega)) (Nat.le_refl _)
 have n2:S2.next=S1.next+15:=by rw [hS2]
 have r12:aC S2 (S.next+1) 0=.ok (3,[[.int .i64 0,.int .i64 0,.int .i64 0]]):=by
  rw [hS2];exact aG (n:=S1.next+15) (by omega) (aG (n:=S1.next) (by omega) r1)
 rw [←hS2]
 by_cases h:(dB s.table c.day c.lines).2=0
 ·have hbm:lV s c=aR s c.series ⟨Ref.zero,c.day,(dB s.table c.day c.lines).1,Ref.zero,false⟩:=by simp only [lV,h,ne_eq,not_true_eq_false,if_false]
  rw [hbm] at H
  simp only [↓cw,↓reduceIte,Nat.reduceLT,h,kk,not_true_eq_false,if_false]
  refine bKt oV c.series ⟨Ref.zero,c.day,(dB s.table c.day c.lines).1,Ref.zero,false⟩ (xA h) hb fun S3 v3 st3 mv3=>?_
  have n3:=mv3.next
  have r13:=aY r12 (mv3.keep (S.next+1) (by omega) (by omega) (st.new (Nat.le_succ _)))
  simp only [↓cw,↓reduceIte,Nat.reduceLT,kk,r13]
  have hv3:AM.blkOf v3≠some (S.next+1):=fun e=>by
   rcases mv3.fresh _ e with q | q
   ·exact st.new (Nat.le_succ _) q
   ·omega
  exact H _ v3 (st3.put (k:=S.next+1) (m:=S3.next) (by omega) hv3 (by omega) (Nat.le_refl _)) ((mv2.trans mv3).put (.inr (Nat.le_succ _)) (Nat.le_refl _))
 ·have hbm:lV s c=(s,why (dB s.table c.day c.lines).2):=by simp only [lV,h,ne_eq,not_false_eq_true,if_true]
  rw [hbm] at H
  simp only [↓cw,↓reduceIte,Nat.reduceLT,h,kk,not_false_eq_true,if_true]
  have:=H ⟨S2.next,S2.heap.put (S.next+1) (.row 0 3 [[.int .i64 (dB s.table c.day c.lines).2,.int .i64 0,.int .i64 0]])⟩ v (oV.put (by omega) (st.new (by omega)) (by omega) (Nat.le_refl _)) (mv2.put (.inr (Nat.le_succ _)) (Nat.le_refl _))
  subst hS2
  exact this
theorem bKu {S:St} {a:Nat} {s:State} {v:V} (st:StAt S a s v) (l:List Ser) (w:Int) {K:KW}
  (H:∀ S' v',StAt S' a (gJ s (l,w)).1 v'→Mv a v S v' S'→K (.agg [.int .i64 (gJ s (l,w)).2.why,.int .i64 (gJ s (l,w)).2.number,.int .i64 (gJ s (l,w)).2.gross]) S'):C 176 [.ptr a 0 0 1,.imm (l.map Ser.enc),.int .i64 w] S K:=by
 refine bN2 ?_
 have ha:=st.lt
 have st1:=st.put (k:=S.next) (m:=S.next+1) (b:=.row 0 3 [[.int .i64 0,.int .i64 0,.int .i64 0]]) (by omega) (st.new (Nat.le_refl _)) (by omega) (by omega)
 have mv1:=(Mv.refl a v S).put (k:=S.next) (m:=S.next+1) (b:=.row 0 3 [[.int .i64 0,.int .i64 0,.int .i64 0]]) (.inr (Nat.le_refl _)) (by omega)
 have ra:=st1.row
 simp only [State.cells] at ra
 have z:(S.next=a)=False:=by simp;omega
 by_cases h:w=0
 ·subst h
  delta Tryz.f176;simp only [↓cw,↓reduceIte,Nat.reduceLT,kk,mM,ra,eG,z,if_true]
  simp only [gJ,if_true,why] at H
  exact H _ v ((st1.set (s':={ s with ser:=l }) rfl).put (k:=S.next) (m:=S.next+1) (by omega) (st.new (Nat.le_refl _)) (by omega) (Nat.le_refl _)) ((mv1.put (k:=a) (m:=S.next+1) (.inl rfl) (Nat.le_refl _)).put (.inr (Nat.le_refl _)) (Nat.le_refl _))
 ·delta Tryz.f176;simp only [↓cw,↓reduceIte,Nat.reduceLT,kk,mM,ra,eG,z,h,if_false]
  simp only [gJ,h,if_false,why] at H
  exact H _ v (st1.put (k:=S.next) (m:=S.next+1) (by omega) (st.new (Nat.le_refl _)) (by omega) (Nat.le_refl _)) (mv1.put (.inr (Nat.le_refl _)) (Nat.le_refl _))
theorem bPz {S:St} {a:Nat} {s:State} {v:V} (st:StAt S a s v) (l:List Rate) (w:Int) {K:KW}
  (H:∀ S' v',StAt S' a (lJ s (l,w)).1 v'→Mv a v S v' S'→K (.agg [.int .i64 (lJ s (l,w)).2.why,.int .i64 (lJ s (l,w)).2.number,.int .i64 (lJ s (l,w)).2.gross]) S'):C 179 [.ptr a 0 0 0,.imm (l.map Rate.enc),.int .i64 w] S K:=by
 refine bN5 ?_
 have ha:=st.lt
 have st1:=st.put (k:=S.next) (m:=S.next+1) (b:=.row 0 3 [[.int .i64 0,.int .i64 0,.int .i64 0]]) (by omega) (st.new (Nat.le_refl _)) (by omega) (by omega)
 have mv1:=(Mv.refl a v S).put (k:=S.next) (m:=S.next+1) (b:=.row 0 3 [[.int .i64 0,.int .i64 0,.int .i64 0]]) (.inr (Nat.le_refl _)) (by omega)
 have ra:=st1.row
 simp only [State.cells] at ra
 have z:(S.next=a)=False:=by simp;omega
 by_cases h:w=0
 ·subst h
  delta Tryz.f179;simp only [↓cw,↓reduceIte,Nat.reduceLT,kk,mM,ra,eG,z,if_true]
  simp only [lJ,if_true,why] at H
  exact H _ v ((st1.set (s':={ s with table:=l }) rfl).put (k:=S.next) (m:=S.next+1) (by omega) (st.new (Nat.le_refl _)) (by omega) (Nat.le_refl _)) ((mv1.put (k:=a) (m:=S.next+1) (.inl rfl) (Nat.le_refl _)).put (.inr (Nat.le_refl _)) (Nat.le_refl _))
 ·delta Tryz.f179;simp only [↓cw,↓reduceIte,Nat.reduceLT,kk,mM,ra,eG,z,h,if_false]
  simp only [lJ,h,if_false,why] at H
  exact H _ v (st1.put (k:=S.next) (m:=S.next+1) (by omega) (st.new (Nat.le_refl _)) (by omega) (Nat.le_refl _)) (mv1.put (.inr (Nat.le_refl _)) (Nat.le_refl _))
theorem bQ0 {S:St} {a:Nat} {s:State} {v:V} (st:StAt S a s v) (l:List Sess) (w:Int) {K:KW}
  (H:∀ S' v',StAt S' a (iT s (l,w)).1 v'→Mv a v S v' S'→K (.agg [.int .i64 (iT s (l,w)).2.why,.int .i64 (iT s (l,w)).2.number,.int .i64 (iT s (l,w)).2.gross]) S'):C 183 [.ptr a 0 0 4,.imm (l.map Sess.enc),.int .i64 w] S K:=by
 refine bN9 ?_
 have ha:=st.lt
 have st1:=st.put (k:=S.next) (m:=S.next+1) (b:=.row 0 3 [[.int .i64 0,.int .i64 0,.int .i64 0]]) (by omega) (st.new (Nat.le_refl _)) (by omega) (by omega)
 have mv1:=(Mv.refl a v S).put (k:=S.next) (m:=S.next+1) (b:=.row 0 3 [[.int .i64 0,.int .i64 0,.int .i64 0]]) (.inr (Nat.le_refl _)) (by omega)
 have ra:=st1.row
 simp only [State.cells] at ra
 have z:(S.next=a)=False:=by simp;omega
 by_cases h:w=0
 ·subst h
  delta Tryz.f183;simp only [↓cw,↓reduceIte,Nat.reduceLT,kk,mM,ra,eG,z,if_true]
  simp only [iT,if_true,why] at H
  exact H _ v ((st1.set (s':={ s with sess:=l }) rfl).put (k:=S.next) (m:=S.next+1) (by omega) (st.new (Nat.le_refl _)) (by omega) (Nat.le_refl _)) ((mv1.put (k:=a) (m:=S.next+1) (.inl rfl) (Nat.le_refl _)).put (.inr (Nat.le_refl _)) (Nat.le_refl _))
 ·delta Tryz.f183;simp only [↓cw,↓reduceIte,Nat.reduceLT,kk,mM,ra,eG,z,h,if_false]
  simp only [iT,h,if_false,why] at H
  exact H _ v (st1.put (k:=S.next) (m:=S.next+1) (by omega) (st.new (Nat.le_refl _)) (by omega) (Nat.le_refl _)) (mv1.put (.inr (Nat.le_refl _)) (Nat.le_refl _))
theorem bQ1 {S:St} {a:Nat} {s:State} {v:V} (st:StAt S a s v) (name:List UInt8) (h1:s.ser.length<1000000) (h2:s.book.length<1000000) {K:KW}
  (H:∀ S',StAt S' a s v→Mv a v S v S'→K (.agg [.int .i64 (aEz s name).why,.int .i64 (aEz s name).number,.int .i64 (aEz s name).gross]) S'):C 184 [.ptr a 0 0 0,.str name] S K:=by
 refine bNa ?_
 have ha:=st.lt
 obtain ⟨f,hf⟩:∃ f,f=(lF s.ser name).1:=⟨_,rfl⟩
 obtain ⟨S1,hS1,hnx,hhp,n1,st1,mv1,r0,r7⟩:=aCb st 3 4 [.int .i64 0,.int .i64 0,.int .i64 0] [.str [],.int .i64 0,.int .i64 0,.bool false]
 have oV:=st1.put (k:=S.next+1) (m:=S1.next) (b:=.row 0 4 [[.str f.name,.int .i64 f.next,.int .i64 f.limit,.bool f.shut]]) (by omega) (st.new (by omega)) (by omega) (Nat.le_refl _)
 have mv2:=mv1.put (k:=S.next+1) (m:=S1.next) (b:=.row 0 4 [[.str f.name,.int .i64 f.next,.int .i64 f.limit,.bool f.shut]]) (.inr (by omega)) (Nat.le_refl _)
 have ra:=st.row
 have ra2:=oV.row
 simp only [State.cells] at ra ra2
 have z0:(a=S.next)=False:=by simp;omega
 have z1:(a=S.next+1)=False:=by simp;omega
 have z2:(S.next=S.next+1)=False:=by simp
 delta Tryz.f184;simp only [↓cw,↓reduceIte,Nat.reduceLT,kk,eG,z0,gm,ra,bP9 s.ser name h1,←hf,hnx,hhp,mM,z2,r0,r7]
 cases c:(lF s.ser name).2
 ·simp only [↓cw,↓reduceIte,Nat.reduceLT,c,kk,if_true,mM,eG,z2,gm,r0]
  simp only [aEz,c,if_true] at H
  exact H _ (oV.put (k:=S.next) (m:=S1.next) (by omega) (st.new (by omega)) (by show S.next<S1.next;omega) (Nat.le_refl _)) (mv2.put (.inr (Nat.le_refl _)) (Nat.le_refl _))
 ·simp only [↓cw,↓reduceIte,Nat.reduceLT,c,kk,Bool.true_eq_false,if_false,eG,z0,z1,gm,ra2]
  simp only [aEz,c,Bool.true_eq_false,if_false,←hf] at H
  have z3:(a=S1.next)=False:=by simp;omega
  have nk1:=st.new (k:=S1.next) (by omega)
  obtain ⟨S3,hS3⟩:∃ S3:St,S3=⟨S1.next+1,((S1.heap.put (S.next+1) (.row 0 4 [[.str f.name,.int .i64 f.next,.int .i64 f.limit,.bool f.shut]])).put S1.next (.row 0 3 [[.int .i64 0,.int .i64 0,.int .i64 0]])).put S1.next (.row 0 3 [[.int .i64 0,.int .i64 (wr .i64 (f.next - 1)),.int .i64 0]])⟩:=⟨_,rfl⟩
  have st3:StAt S3 a s v:=by rw [hS3];exact (oV.put (k:=S1.next) (m:=S1.next+1) (by omega) nk1 (by omega) (Nat.le_succ _)).put (by omega) nk1 (by omega) (Nat.le_refl _)
  have mv3:Mv a v S v S3:=by rw [hS3];exact (mv2.put (k:=S1.next) (m:=S1.next+1) (.inr (by omega)) (Nat.le_succ _)).put (.inr (by omega)) (Nat.le_refl _)
  have r03:aC S3 S.next 0=.ok (3,[[.int .i64 0,.int .i64 0,.int .i64 0]]):=by
   rw [hS3];exact aG (n:=S1.next+1) (by omega) (aG (n:=S1.next) (by omega) (aG (n:=S1.next) (by omega) r0))
  have r13:aC S3 S1.next 0=.ok (3,[[.int .i64 0,.int .i64 (wr .i64 (f.next - 1)),.int .i64 0]]):=by rw [hS3];exact aA _ _ _ _ _ _
  have n3:S3.next=S1.next+1:=by rw [hS3]
  rw [←hS3]
  have ra3:=st3.row
  simp only [State.cells] at ra3
  simp only [↓cw,↓reduceIte,Nat.reduceLT,ra3,kk]
  refine aH s.book (step:=rV) (fin:=id) (fun i g vs S'=>vs=[.int .i64 (i:Int)]∧StAt S' a s v∧Mv a v S v S'∧aC S' S.next 0=.ok (3,[[.int .i64 0,.int .i64 0,.int .i64 0]])∧aC S' S1.next 0=.ok (3,[[.int .i64 0,.int .i64 (wr .i64 (f.next - 1)),.int .i64 g]])∧S1.next+1≤S'.next) (fun g=>g=aE rV id s.book 0) ?_ ?_ (s:=0) ⟨rfl,st3,mv3,r03,r13,by omega⟩ rfl
  ·rintro i b g vs S' hi ⟨rfl,st4,mv4,r04,r14,h4⟩ aD Hq
   have hil:=(List.getElem?_eq_some_iff.1 hi).1
   simp only [rV,bDc] at Hq
   have e0:(S1.next=S'.next)=False:=by simp;omega
   have nk2:=st.new (k:=S'.next) (by omega)
   have st5:=(st4.put (k:=S'.next) (m:=S'.next+1) (b:=.row 0 2 [[.str [],.int .i64 0]]) (by omega) nk2 (by omega) (Nat.le_succ _)).put (k:=S'.next) (m:=S'.next+1) (b:=.row 0 2 [[.str b.acc,.int .i64 b.amount]]) (by omega) nk2 (by omega) (Nat.le_refl _)
   have mv5:=(mv4.put (k:=S'.next) (m:=S'.next+1) (b:=.row 0 2 [[.str [],.int .i64 0]]) (.inr (by omega)) (Nat.le_succ _)).put (k:=S'.next) (m:=S'.next+1) (b:=.row 0 2 [[.str b.acc,.int .i64 b.amount]]) (.inr (by omega)) (Nat.le_refl _)
   have r05:∀ m x y,aC ⟨m,(S'.heap.put S'.next x).put S'.next y⟩ S.next 0=.ok (3,[[.int .i64 0,.int .i64 0,.int .i64 0]]):=fun m x y=>aG (n:=S'.next) (by omega) (aG (n:=S'.next) (by omega) r04)
   have r15:∀ m x y,aC ⟨m,(S'.heap.put S'.next x).put S'.next y⟩ S1.next 0=.ok (3,[[.int .i64 0,.int .i64 (wr .i64 (f.next - 1)),.int .i64 g]]):=fun m x y=>aG (n:=S'.next) (by omega) (aG (n:=S'.next) (by omega) r14)
   simp only [↓cw,↓reduceIte,Nat.reduceLT,kk,bO hi,aB5 hi,Bal.enc,r15,jO (show i<1000000000 by omega)]
   by_cases c:(b.acc == [111,119,101,100])=true
   ·simp only [↓cw,↓reduceIte,Nat.reduceLT,c,kk,if_true] at Hq ⊢
    exact Hq _ _ ⟨rfl,st5.put (k:=S1.next) (m:=S'.next+1) (by omega) nk1 (by omega) (Nat.le_refl _),mv5.put (k:=S1.next) (m:=S'.next+1) (.inr (by omega)) (Nat.le_refl _),aG (n:=S'.next+1) (by omega) (r05 _ _ _),aA _ _ _ _ _ _,by show _≤S'.next+1;omega⟩
   ·simp only [↓cw,↓reduceIte,Nat.reduceLT,c,kk,if_false] at Hq ⊢
    exact Hq _ _ ⟨rfl,st5,mv5,r05 _ _ _,r15 _ _ _,by show _≤S'.next+1;omega⟩
  ·rintro g vs S' ⟨rfl,st4,mv4,r04,r14,h4⟩ aD Hq
   have Hq:g=aE rV id s.book 0:=Hq
   simp only [↓cw,↓reduceIte,Nat.reduceLT,kk,Int.lt_irrefl,if_false,r14,r04]
   rw [←Hq] at H
   exact H _ (st4.put (k:=S.next) (m:=S'.next) (by omega) (st.new (Nat.le_refl _)) (by omega) (Nat.le_refl _)) (mv4.put (.inr (Nat.le_refl _)) (Nat.le_refl _))
end Go.Proofs.YtoaibmbldmckaaaGreat
end
section
namespace Go.AM
theorem Own.fv {S0 S:St} {n:Nat} {v:V} {α:Type} {enc:α→List V} {l:List α} (h:Own S0 S n v (l.map enc)) (hc:∀ x,cloVs (enc x)=true) (bs:List V) (hb:cloVs bs=true):frzVs jL (jU (gO S 3) S) (v::bs)=.ok (.imm (l.map enc)::bs):=by
 simp only [frzVs,h.out hc,clo_frzs bs hb]
end Go.AM
namespace Go.Proofs.YtoaibmbldmckaaaGreat
open Go.AM Tryz
set_option linter.unusedVariables false
set_option linter.unusedSimpArgs false
set_option maxRecDepth 100000
theorem bQ2 {S0 S:St} {v:V} {l:List Posted} (h:Own S0 S 12 v (l.map Posted.enc)) (r:Ref) (hb:l.length<1000000) (K:KW):C 168 [v,.agg [.str r.ser,.int .i64 r.num]] S K=K (.int .i64 (bC l r)) S:=
 (f168 l r hb).frz bFn rfl (h.fv (fun _=>rfl) _ rfl) (by simp only [ptrsVs,h.ptrs];rfl) (.inl rfl) K
theorem bQ3 {S:St} {a:Nat} {s:State} {v:V} (st:StAt S a s v) (c:Cmd) (hp:s.posted.length<900000) (hq:∀ p∈s.posted,tX p.total) (hb:s.book.length<900000) {K:KW}
  (H:∀ S' v',StAt S' a (eC s c).1 v'→Mv a v S v' S'→K (.agg [.int .i64 (eC s c).2.why,.int .i64 (eC s c).2.number,.int .i64 (eC s c).2.gross]) S'):
  C 181 [.ptr a 0 0 0,.agg [.int .i64 c.kind,.str c.series,.int .i64 c.limit,.str c.row.cat,.int .i64 c.row.day.y,.int .i64 c.row.day.m,.int .i64 c.row.day.d,.int .i64 c.row.bp,.int .i64 c.day.y,.int .i64 c.day.m,.int .i64 c.day.d,.imm (c.lines.map Line.enc),.str c.of.ser,.int .i64 c.of.num,.int .i64 c.session]] S K:=by
 refine bN7 ?_
 have ha:=st.lt
 obtain ⟨S1,hS1,hnx,hhp,n1,st1,mv1,r0,r1⟩:=aCb st 15 3 [.int .i64 c.kind,.str c.series,.int .i64 c.limit,.str c.row.cat,.int .i64 c.row.day.y,.int .i64 c.row.day.m,.int .i64 c.row.day.d,.int .i64 c.row.bp,.int .i64 c.day.y,.int .i64 c.day.m,.int .i64 c.day.d,.imm (c.lines.map Line.enc),.str c.of.ser,.int .i64 c.of.num,.int .i64 c.session] [.int .i64 0,.int .i64 0,.int .i64 0]
 have ra:=st1.row
 simp only [State.cells] at ra
 have h168:=bQ2 (st1.bump 8).own c.of (show s.posted.length<1000000 by omega)
 delta Tryz.f181;simp only [↓cw,↓reduceIte,Nat.reduceLT,kk,hnx,hhp,gm,ra,r0,h168,mM,r1]
 have hfail:∀ (S2:St) (w:Int),StAt S2 a s v→Mv a v S v S2→S1.next≤S2.next→eC s c=(s,why w)→K (.agg [.int .i64 w,.int .i64 0,.int .i64 0]) ⟨S2.next,S2.heap.put (S.next+1) (.row 0 3 [[.int .i64 w,.int .i64 0,.int .i64 0]])⟩:=by
  intro S2 w oV mv2 hn hw
  have:=H _ v (by rw [hw];exact oV.put (k:=S.next+1) (m:=S2.next) (b:=.row 0 3 [[.int .i64 w,.int .i64 0,.int .i64 0]]) (by omega) (st.new (by omega)) (by omega) (Nat.le_refl _)) (mv2.put (.inr (by omega)) (Nat.le_refl _))
  rw [hw] at this
  exact this
 rcases kH s.posted c.of with hk | ⟨k,p,hk,hkp,_⟩
 ·simp only [↓cw,↓reduceIte,Nat.reduceLT,hk,show (-1:Int)<0 by decide,kk,if_true]
  exact hfail ⟨S1.next+8,S1.heap⟩ 11 (st1.bump 8) (mv1.bump 8) (Nat.le_add_right _ _) (by simp only [eC,hk];rfl)
 have hkl:=(List.getElem?_eq_some_iff.1 hkp).1
 have hcm:eC s c=fF s c k p:=by
  have:s.posted.getD k Posted.zero=p:=by rw [List.getD_eq_getElem?_getD,hkp];rfl
  simp only [eC,hk,show ¬ (k:Int)<0 by omega,if_false,Int.toNat_natCast,this]
 have hfp:=hq p (List.mem_of_getElem? hkp)
 have hf12:=hfp.1
 have hkp':(s.posted.map Posted.enc)[k]?=some p.enc:=by rw [List.getElem?_map,hkp];rfl
 obtain ⟨va,ver,hv,_,hvb,hpp,_,_⟩:=(st1.bump 8).own.setK (zG (st1.bump 8).wf) pF hkp' .i64
 have hld:=(st1.bump 8).own.ld hv hkp' (some 12) 0
 simp only [↓cw,↓reduceIte,Nat.reduceLT,kk,Posted.enc] at hld
 have nkb:=st.new (k:=S1.next+8) (by omega)
 obtain ⟨S2,hS2⟩:∃ S2:St,S2=⟨S1.next+8+1,(S1.heap.put (S1.next+8) (.row 0 12 [aK2])).put (S1.next+8) (.row 0 12 [p.enc])⟩:=⟨_,rfl⟩
 have oV:StAt S2 a s v:=by rw [hS2];exact (st1.put (k:=S1.next+8) (m:=S1.next+8+1) (by omega) nkb (by omega) (by omega)).put (by omega) nkb (by omega) (Nat.le_refl _)
 have mv2:Mv a v S v S2:=by rw [hS2];exact (mv1.put (k:=S1.next+8) (m:=S1.next+8+1) (.inr (by omega)) (by omega)).put (.inr (by omega)) (Nat.le_refl _)
 have n2:S2.next=S1.next+9:=by rw [hS2]
 have r02:aC S2 S.next 0=aC S1 S.next 0:=by rw [hS2,cM _ S1.next _ _ _ _ _ (by omega),cM _ S1.next _ _ _ _ _ (by omega)]
 have r12:aC S2 (S.next+1) 0=aC S1 (S.next+1) 0:=by rw [hS2,cM _ S1.next _ _ _ _ _ (by omega),cM _ S1.next _ _ _ _ _ (by omega)]
 have rp2:aC S2 (S1.next+8) 0=.ok (12,[p.enc]):=by rw [hS2];exact aA _ _ _ _ _ _
 rw [r0] at r02
 rw [r1] at r12
 simp only [aK2,Posted.enc] at hS2
 simp only [Posted.enc] at rp2
 simp only [↓cw,↓reduceIte,Nat.reduceLT,hk,show ¬ (k:Int)<0 by omega,kk,if_false,hpp,hld,gm,ra,←hS2,rp2,r02,r12,mM,aK5,aYs,bKl p.total (show p.total.parts.length≤1000 by omega),aMs]
 cases d1:p.back
 rotate_left
 ·simp only [↓cw,↓reduceIte,Nat.reduceLT,d1,kk,if_true]
  exact hfail S2 12 oV mv2 (by omega) (by rw [hcm];simp only [fF,d1,if_true])
 by_cases d2:p.of.ser=[]∧p.of.num=0
 rotate_left
 ·have d2n:¬ p.of=Ref.zero:=by rw [Ref.ext_iff];exact d2
  have d2':(!(p.of.ser == []&&decide (p.of.num=0)))=true:=by
   cases h:(p.of.ser == []&&decide (p.of.num=0)) with
   | false=>rfl
   | true=>exact absurd (by simpa using h) d2
  simp only [↓cw,↓reduceIte,Nat.reduceLT,d1,d2',kk,if_true,Bool.false_eq_true,if_false]
  exact hfail S2 12 oV mv2 (by omega) (by rw [hcm];simp only [fF,d1,Bool.false_eq_true,if_false,d2n])
 have d2z:p.of=Ref.zero:=by rw [Ref.ext_iff];exact d2
 have d2':(p.of.ser == []&&decide (p.of.num=0))=true:=by simpa using d2
 simp only [↓cw,↓reduceIte,Nat.reduceLT,d1,d2',kk,Bool.false_eq_true,if_false]
 cases d3:c.day.right
 ·simp only [↓cw,↓reduceIte,Nat.reduceLT,d3,kk,if_true]
  exact hfail S2 9 oV mv2 (by omega) (by rw [hcm];simp only [fF,d1,d2z,d3,Bool.false_eq_true,if_false,if_true])
 cases d4:c.day.before p.day
 rotate_left
 ·simp only [↓cw,↓reduceIte,Nat.reduceLT,d3,d4,kk,Bool.false_eq_true,if_false,if_true]
  exact hfail S2 9 oV mv2 (by omega) (by rw [hcm];simp only [fF,d1,d2z,d3,d4,Bool.false_eq_true,Bool.true_eq_false,if_false,if_true])
 simp only [↓cw,↓reduceIte,Nat.reduceLT,d3,d4,kk,Bool.false_eq_true,if_false]
 have nk2:=st.new (k:=S2.next) (by omega)
 obtain ⟨S3,hS3⟩:∃ S3:St,S3=⟨S2.next+1,(S2.heap.put S2.next (.row 0 4 [[.int .i64 0,.int .i64 0,.int .i64 0,.nils]])).put S2.next (.row 0 4 [[.int .i64 (bK p.total).1.net,.int .i64 (bK p.total).1.tax,.int .i64 (bK p.total).1.gross,.imm ((bK p.total).1.parts.map Part.enc)]])⟩:=⟨_,rfl⟩
 have st3:StAt S3 a s v:=by rw [hS3];exact (oV.put (k:=S2.next) (m:=S2.next+1) (by omega) nk2 (by omega) (Nat.le_succ _)).put (by omega) nk2 (by omega) (Nat.le_refl _)
 have mv3:Mv a v S v S3:=by rw [hS3];exact (mv2.put (k:=S2.next) (m:=S2.next+1) (.inr (by omega)) (Nat.le_succ _)).put (.inr (by omega)) (Nat.le_refl _)
 have n3:S3.next=S2.next+1:=by rw [hS3]
 have r03:=aG (n:=S2.next+1) (m:=S2.next+1) (a:=S2.next) (b:=.row 0 4 [[.int .i64 (bK p.total).1.net,.int .i64 (bK p.total).1.tax,.int .i64 (bK p.total).1.gross,.imm ((bK p.total).1.parts.map Part.enc)]]) (by omega) (aG (n:=S2.next) (m:=S2.next+1) (a:=S2.next) (b:=.row 0 4 [[.int .i64 0,.int .i64 0,.int .i64 0,.nils]]) (by omega) r02)
 have r13:=aG (n:=S2.next+1) (m:=S2.next+1) (a:=S2.next) (b:=.row 0 4 [[.int .i64 (bK p.total).1.net,.int .i64 (bK p.total).1.tax,.int .i64 (bK p.total).1.gross,.imm ((bK p.total).1.parts.map Part.enc)]]) (by omega) (aG (n:=S2.next) (m:=S2.next+1) (a:=S2.next) (b:=.row 0 4 [[.int .i64 0,.int .i64 0,.int .i64 0,.nils]]) (by omega) r12)
 have rb3:aC S3 S2.next 0=.ok (4,[[.int .i64 (bK p.total).1.net,.int .i64 (bK p.total).1.tax,.int .i64 (bK p.total).1.gross,.imm ((bK p.total).1.parts.map Part.enc)]]):=by rw [hS3];exact aA _ _ _ _ _ _
 simp only [←hS3] at r03 r13 ⊢
 by_cases d5:(bK p.total).2=0
 rotate_left
 ·simp only [↓cw,↓reduceIte,Nat.reduceLT,d5,kk,r13,not_false_eq_true,if_true]
  have:=hfail S3 (bK p.total).2 st3 mv3 (by omega) (by rw [hcm];simp only [fF,d1,d2z,d3,d4,d5,Bool.false_eq_true,Bool.true_eq_false,if_false,if_true,ne_eq,not_false_eq_true])
  subst hS3
  exact this
 simp only [↓cw,↓reduceIte,Nat.reduceLT,d5,kk,r03,rb3,not_true_eq_false,if_false]
 obtain ⟨q,hqq⟩:∃ q:Posted,q=⟨Ref.zero,c.day,(bK p.total).1,c.of,false⟩:=⟨_,rfl⟩
 have hcq:eC s c=if (aR s c.series q).2.why=0 then ({ (aR s c.series q).1 with posted:=cE (aR s c.series q).1.posted k },(aR s c.series q).2) else aR s c.series q:=by
  rw [hcm];simp only [fF,d1,d2z,d3,d4,d5,←hqq,Bool.false_eq_true,Bool.true_eq_false,if_false,if_true,ne_eq,not_true_eq_false]
 have hfq:tX q.total:=by rw [hqq];exact aRe hfp d5
 rw [hcq] at H
 have h239:=@bKt S3 a s v st3 c.series q hfq hb
 obtain ⟨s',hs'⟩:∃ s',s'=(aR s c.series q).1:=⟨_,rfl⟩
 obtain ⟨r,hr⟩:∃ r,r=(aR s c.series q).2:=⟨_,rfl⟩
 obtain ⟨lx,hlx⟩:=aI9 s c.series q
 have hiq:aR s c.series q=(s',r):=by rw [hs',hr]
 simp only [hiq] at H h239 hlx
 rw [hqq] at h239
 refine h239 fun S4 v4 st4 mv4=>?_
 have n4:=mv4.next
 have hv4:∀ y,y<S3.next→AM.blkOf v≠some y→AM.blkOf v4≠some y:=fun y h1 h2 e=>by
  rcases mv4.fresh y e with h | h
  ·exact h2 h
  ·omega
 have hv4S:AM.blkOf v4≠some S4.next:=fun e=>by have:=(cN st4.own e).2;omega
 have ha4:=st4.lt
 obtain ⟨S5,hS5⟩:∃ S5:St,S5=⟨S4.next+1,(S4.heap.put S4.next (.row 0 3 [[.int .i64 0,.int .i64 0,.int .i64 0]])).put S4.next (.row 0 3 [[.int .i64 r.why,.int .i64 r.number,.int .i64 r.gross]])⟩:=⟨_,rfl⟩
 have n5:S5.next=S4.next+1:=by rw [hS5]
 have st5:StAt S5 a s' v4:=by rw [hS5];exact (st4.put (k:=S4.next) (m:=S4.next+1) (by omega) hv4S (by omega) (Nat.le_succ _)).put (by omega) hv4S (by omega) (Nat.le_refl _)
 have mv5:Mv a v S v4 S5:=by rw [hS5];exact ((mv3.trans mv4).put (k:=S4.next) (m:=S4.next+1) (.inr (by omega)) (Nat.le_succ _)).put (.inr (by omega)) (Nat.le_refl _)
 have r14:=aY r13 (mv4.keep (S.next+1) (by omega) (by omega) (st.new (Nat.le_succ _)))
 have r15:aC S5 (S.next+1) 0=.ok (3,[[.int .i64 0,.int .i64 0,.int .i64 0]]):=by rw [hS5];exact aG (n:=S4.next+1) (by omega) (aG (n:=S4.next) (by omega) r14)
 have rr5:aC S5 S4.next 0=.ok (3,[[.int .i64 r.why,.int .i64 r.number,.int .i64 r.gross]]):=by rw [hS5];exact aA _ _ _ _ _ _
 have hv41:=hv4 (S.next+1) (by omega) (st.new (Nat.le_succ _))
 have ra5:=st5.row
 simp only [State.cells] at ra5
 simp only [↓cw,↓reduceIte,Nat.reduceLT,kk,←hS5,rr5,ra5]
 by_cases d6:r.why=0
 ·simp only [d6,if_true] at H
  have hk4:s'.posted[k]?=some p:=by rw [hlx,List.getElem?_append_left hkl];exact hkp
  have hk5:(s'.posted.map Posted.enc)[k]?=some p.enc:=by rw [List.getElem?_map,hk4];rfl
  obtain ⟨vb,ver5,hv5,_,hvb5,e5,_,set5⟩:=st5.own.setK (zG st5.wf) pF hk5 .i64
  obtain ⟨S6,q6,x6,n6,own6,keep6,w6⟩:=set5 11 1 (.bool true) rfl rfl (by decide)
  have hblk:AM.blkOf v4=some vb:=by rw [hv5];rfl
  have hes:(s'.posted.map Posted.enc).set k (splice p.enc 11 [.bool true])=(cE s'.posted k).map Posted.enc:=by
   simp only [cE,hk4,List.map_set];rfl
  simp only [V.cells] at own6
  rw [hes] at own6
  have st6:StAt S6 a { s' with posted:=cE s'.posted k } v4:=⟨aY st5.row (keep6 a (fun e=>st5.ne (by rw [hblk,e]))),own6,w6 st5.wf,st5.ne⟩
  have mv6:Mv a v S v4 S6:=⟨by have:=mv5.next;omega,fun y h1 h2 h3=>by
   rw [keep6 y (fun e=>by
    have:=mv5.fresh y (by rw [hblk,e])
    rcases this with h | h
    ·exact h3 h
    ·omega)]
   exact mv5.keep y h1 h2 h3,mv5.fresh⟩
  have rr6:=aY rr5 (keep6 S4.next (fun e=>hv4S (by rw [hblk,e])))
  have r16:=aY r15 (keep6 (S.next+1) (fun e=>hv41 (by rw [hblk,e])))
  simp only [↓cw,↓reduceIte,Nat.reduceLT,d6,kk,if_true,e5,q6,rr6,r16]
  have:=H _ v4 (st6.put (k:=S.next+1) (m:=S6.next) (b:=.row 0 3 [[.int .i64 r.why,.int .i64 r.number,.int .i64 r.gross]]) (by omega) hv41 (by omega) (Nat.le_refl _)) (mv6.put (.inr (Nat.le_succ _)) (Nat.le_refl _))
  simp only [d6] at this
  exact this
 ·simp only [d6,if_false] at H
  simp only [↓cw,↓reduceIte,Nat.reduceLT,d6,kk,if_false,r15]
  exact H _ v4 (st5.put (k:=S.next+1) (m:=S5.next) (by omega) hv41 (by omega) (Nat.le_refl _)) (mv5.put (.inr (Nat.le_succ _)) (Nat.le_refl _))
end Go.Proofs.YtoaibmbldmckaaaGreat
end
section
namespace Go.Proofs.YtoaibmbldmckaaaGreat
open Go.AM Tryz
theorem bQ4 {S:St} {a:Nat} {s:State} {v:V} (st:StAt S a s v) (c:Cmd) (hl:c.lines.length<1000000) (hs:s.ser.length<1000000) (hp:s.posted.length<900000) (hq:∀ p∈s.posted,tX p.total) (hb:s.book.length<900000) {K:KW}
  (H:∀ S' v',StAt S' a (sS s c).1 v'→Mv a v S v' S'→K (.agg [.int .i64 (sS s c).2.why,.int .i64 (sS s c).2.number,.int .i64 (sS s c).2.gross]) S'):
  C 106 [.ptr a 0 0 0,.agg [.int .i64 c.kind,.str c.series,.int .i64 c.limit,.str c.row.cat,.int .i64 c.row.day.y,.int .i64 c.row.day.m,.int .i64 c.row.day.d,.int .i64 c.row.bp,.int .i64 c.day.y,.int .i64 c.day.m,.int .i64 c.day.d,.imm (c.lines.map Line.enc),.str c.of.ser,.int .i64 c.of.num,.int .i64 c.session]] S K:=by
 refine bMe ?_
 have ha:=st.lt
 obtain ⟨S1,hS1,hnx,hhp,n1,st1,mv1,r0,r1⟩:=aCb st 15 3 [.int .i64 c.kind,.str c.series,.int .i64 c.limit,.str c.row.cat,.int .i64 c.row.day.y,.int .i64 c.row.day.m,.int .i64 c.row.day.d,.int .i64 c.row.bp,.int .i64 c.day.y,.int .i64 c.day.m,.int .i64 c.day.d,.imm (c.lines.map Line.enc),.str c.of.ser,.int .i64 c.of.num,.int .i64 c.session] [.int .i64 0,.int .i64 0,.int .i64 0]
 have ra:=st1.row
 simp only [State.cells] at ra
 have hend:∀ (S2:St) (v2:V) (r:State×Rep),sS s c=r→StAt S2 a r.1 v2→Mv a v S1 v2 S2→K (.agg [.int .i64 r.2.why,.int .i64 r.2.number,.int .i64 r.2.gross]) ⟨S2.next,S2.heap.put (S.next+1) (.row 0 3 [[.int .i64 r.2.why,.int .i64 r.2.number,.int .i64 r.2.gross]])⟩:=by
  rintro S2 v2 r rfl oV mv2
  have n2:=mv2.next
  have hv2:AM.blkOf v2≠some (S.next+1):=fun e=>by
   rcases mv2.fresh _ e with h | h
   ·exact st.new (Nat.le_succ _) h
   ·omega
  exact H _ v2 (oV.put (k:=S.next+1) (m:=S2.next) (by omega) hv2 (by omega) (Nat.le_refl _)) ((mv1.trans mv2).put (.inr (Nat.le_succ _)) (Nat.le_refl _))
 have hr1:∀ (S2:St) (v2:V),Mv a v S1 v2 S2→aC S2 (S.next+1) 0=.ok (3,[[.int .i64 0,.int .i64 0,.int .i64 0]]):=fun S2 v2 mv2=>aY r1 (mv2.keep (S.next+1) (by omega) (by omega) (st.new (Nat.le_succ _)))
 delta Tryz.f106;simp only [↓cw,↓reduceIte,Nat.reduceLT,kk,hnx,hhp,←hS1,gm,ra,r0]
 by_cases k1:c.kind=1
 ·simp only [↓cw,↓reduceIte,Nat.reduceLT,k1,kk,if_true,bPa]
  refine bKu (st1.bump 14) _ _ fun S2 v2 oV mv2=>?_
  have mv2':=((Mv.refl a v S1).bump 14).trans mv2
  simp only [↓cw,↓reduceIte,Nat.reduceLT,kk,hr1 _ _ mv2']
  exact hend S2 v2 _ (by simp only [sS,k1,if_true]) oV mv2'
 by_cases k2:c.kind=2
 ·simp only [↓cw,↓reduceIte,Nat.reduceLT,k1,k2,kk,show ¬ (2:Int)=1 by decide,if_true,if_false,bPb]
  refine bKu (st1.bump 12) _ _ fun S2 v2 oV mv2=>?_
  have mv2':=((Mv.refl a v S1).bump 12).trans mv2
  simp only [↓cw,↓reduceIte,Nat.reduceLT,kk,hr1 _ _ mv2']
  exact hend S2 v2 _ (by simp only [sS,k2,show ¬ (2:Int)=1 by decide,if_true,if_false]) oV mv2'
 by_cases k3:c.kind=3
 ·simp only [↓cw,↓reduceIte,Nat.reduceLT,k1,k2,k3,kk,show ¬ (3:Int)=1 by decide,show ¬ (3:Int)=2 by decide,if_true,if_false,bPf]
  refine bPz (st1.bump 12) _ _ fun S2 v2 oV mv2=>?_
  have mv2':=((Mv.refl a v S1).bump 12).trans mv2
  simp only [↓cw,↓reduceIte,Nat.reduceLT,kk,hr1 _ _ mv2']
  exact hend S2 v2 _ (by simp only [sS,k3,show ¬ (3:Int)=1 by decide,show ¬ (3:Int)=2 by decide,if_true,if_false]) oV mv2'
 by_cases k4:c.kind=4
 ·simp only [↓cw,↓reduceIte,Nat.reduceLT,k1,k2,k3,kk,if_true,if_false,show (c.kind=4)=True by simp [k4]]
  refine bPy st1 c hl hb fun S2 v2 oV mv2=>?_
  simp only [↓cw,↓reduceIte,Nat.reduceLT,kk,hr1 _ _ mv2]
  exact hend S2 v2 _ (by simp only [sS,k1,k2,k3,show (c.kind=4)=True by simp [k4],if_true,if_false]) oV mv2
 by_cases k5:c.kind=5
 ·simp only [↓cw,↓reduceIte,Nat.reduceLT,k1,k2,k3,k4,kk,if_true,if_false,show (c.kind=5)=True by simp [k5]]
  refine bQ3 st1 c hp hq hb fun S2 v2 oV mv2=>?_
  simp only [↓cw,↓reduceIte,Nat.reduceLT,kk,hr1 _ _ mv2]
  exact hend S2 v2 _ (by simp only [sS,k1,k2,k3,k4,show (c.kind=5)=True by simp [k5],if_true,if_false]) oV mv2
 by_cases k7:c.kind=7
 ·simp only [↓cw,↓reduceIte,Nat.reduceLT,k1,k2,k3,k4,k5,kk,if_true,if_false,show (c.kind=7)=True by simp [k7],bP5]
  refine bQ0 (st1.bump 12) _ _ fun S2 v2 oV mv2=>?_
  have mv2':=((Mv.refl a v S1).bump 12).trans mv2
  simp only [↓cw,↓reduceIte,Nat.reduceLT,kk,hr1 _ _ mv2']
  exact hend S2 v2 _ (by simp only [sS,k1,k2,k3,k4,k5,show (c.kind=7)=True by simp [k7],if_true,if_false]) oV mv2'
 ·simp only [↓cw,↓reduceIte,Nat.reduceLT,k1,k2,k3,k4,k5,k7,kk,if_false]
  refine bQ1 st1 c.series hs (by omega) fun S2 oV mv2=>?_
  simp only [↓cw,↓reduceIte,Nat.reduceLT,kk,hr1 _ _ mv2]
  exact hend S2 v (s,aEz s c.series) (by simp only [sS,k1,k2,k3,k4,k5,k7,if_false]) oV mv2
end Go.Proofs.YtoaibmbldmckaaaGreat
end
section
namespace Go.AM
theorem Own.frzN {S0 S:St} {n:Nat} {v:V} {es:List (List V)} (h:Own S0 S n v es) (hc:es.all cloVs=true) (k:Nat):cF jL (jU (gO S (k+1)) S) v=.ok (.imm es):=by
 rcases h.is with ⟨rfl,rfl⟩ | ⟨a,ver,tl,rfl,_,_,q⟩
 ·rfl
 ·have he:aM S (.sl a ver n 0 es.length)=.ok es:=h.sl.elems
  simp only [cF,jU,he,(gY (S:=S) (n:=k) hc).1]
theorem Own.blks {S0 S:St} {n:Nat} {v:V} {es:List (List V)} (h:Own S0 S n v es) (hc:es.all cloVs=true) (k:Nat) {y:Nat} (hy:y∈dX (iB (eW S (k+1)) S) v):blkOf v=some y:=by
 rcases h.is with ⟨rfl,rfl⟩ | ⟨a,ver,tl,rfl,_,_,q⟩
 ·cases hy
 ·have he:aM S (.sl a ver n 0 es.length)=.ok es:=h.sl.elems
  simp only [dX,iB,he,(gY (S:=S) (n:=k) hc).2,List.mem_singleton] at hy
  rw [hy];rfl
theorem aPd {α β:Type} {φ:α→R β}:∀ {l:List α} {out:List β},l.length=out.length→(∀ (j:Nat) (x:α),l[j]?=some x→∃ y,out[j]?=some y∧φ x=.ok y)→jT φ l=.ok out
 | [],[],_,_=>rfl
 | [],_::_,h,_=>by simp at h
 | _::_,[],h,_=>by simp at h
 | x::l,y::out,h,hx=>by
  obtain ⟨y',h1,h2⟩:=hx 0 x rfl
  cases h1
  simp only [jT,h2,aPd (l:=l) (out:=out) (by simpa using h) fun j z hz=>hx (j+1) z hz]
theorem aKc {φ:List V→List Nat} {a:Nat}:∀ {l:List (List V)},a∈iZ φ l→∃ x∈l,a∈φ x
 | [],h=>by cases h
 | x::l,h=>by
  rcases List.mem_append.1 h with h | h
  ·exact ⟨x,List.mem_cons_self ..,h⟩
  ·obtain ⟨z,h1,h2⟩:=aKc h
   exact ⟨z,List.mem_cons_of_mem _ h1,h2⟩
theorem aYz {l:List Nat} {a:Nat} (h:a ∉ l):(l.any fun b=>gL b [a])=false:=by
 rw [List.any_eq_false]
 intro b hb e
 simp only [gL,Bool.or_false] at e
 exact h (by rw [←Nat.eq_of_beq_eq_true e];exact hb)
theorem bEl {α:Type} {enc:α→List V} {n b:Nat} (hl:∀ x,(enc x).length=n∧aF (enc x)=true) (l:List α) {S:St} (w:WF S) {k m:Nat} (hk:k<m) (hm:S.next≤m) (h1:l.length*b≤35184372088832) (h2:l.length<eD):
  ∃ v S',fQ n b .nils (.imm (l.map enc)) (some k) ⟨m,S.heap⟩=.ok (v,S')∧WF S'∧S'.next=m∧Own E0 S' n v (l.map enc)∧(∀ y,blkOf v=some y→y=k)∧∀ y,y≠k→S'.heap.get y=S.heap.get y:=by
 have hc:∀ cs,cs∈l.map enc→cs.length=n∧aF cs=true:=fun cs hc=>by obtain ⟨x,_,rfl⟩:=List.mem_map.1 hc;exact hl x
 obtain ⟨a1,a2⟩:=dA hc
 have w1:WF ⟨m,S.heap⟩:=fun a b h=>by have:=w a b h;show a<m;omega
 cases l with
 | nil=>exact ⟨.nils,⟨m,S.heap⟩,rfl,w1,rfl,Own.nil _ _ _,fun y h=>(by cases h),fun _ _=>rfl⟩
 | cons x l=>
  refine ⟨.sl k 0 n 0 (l.length+1),⟨m,S.heap.put k (.row 0 n ((x::l).map enc))⟩,?_,jN w1 hk (Nat.le_refl _),rfl,⟨.inr ⟨k,0,[],by simp,Nat.zero_le _,hk,?_⟩,hc⟩,fun y h=>(by cases h;rfl),fun y hy=>Tr.get_put_neB _ _ _ _ trivial hy⟩
  ·simp only [fQ,aM]
   rw [if_pos ⟨a1,a2⟩]
   simp only [List.map_cons,List.length_cons,List.length_map,uK] at h1 h2 ⊢
   rw [if_pos ⟨h1,h2⟩]
  ·rw [List.append_nil];exact Tr.get_put_sameB _ _ _ trivial
theorem aZ0 {S2 S:St} {v1 v2 v3 v4:V} {l1 l2 l3 l4 es es':List (List V)} {k:IntKind} {x:Int} {a n m:Nat} (h1:cF jL (jU (gO S2 3) S2) v1=.ok (.imm l1)) (h2:cF jL (jU (gO S2 3) S2) v2=.ok (.imm l2)) (h3:cF jL (jU (gO S2 3) S2) v3=.ok (.imm l3)) (h4:cF jL (jU (gO S2 3) S2) v4=.ok (.imm l4))
  (hg:S2.heap.get a=some (.row 0 n es)) (hm:jT (gO S2 3) es=.ok es') (b1:a ∉ dX (iB (eW S2 3) S2) v1) (b2:a ∉ dX (iB (eW S2 3) S2) v2) (b3:a ∉ dX (iB (eW S2 3) S2) v3) (b4:a ∉ dX (iB (eW S2 3) S2) v4) (b5:a ∉ iZ (eW S2 3) es):
  tK [2] (.agg [v1,v2,.sl a 0 n 0 m,v3,v4,.int k x]) S2 S=.ok (.agg [.imm l1,.imm l2,.sl S.next 0 n 0 m,.imm l3,.imm l4,.int k x],⟨S.next+1,S.heap.put S.next (.row 0 n es')⟩):=by
 have hb:a ∉ dX (iB (eW S2 3) S2) v1++(dX (iB (eW S2 3) S2) v2++([]++(dX (iB (eW S2 3) S2) v3++(dX (iB (eW S2 3) S2) v4++([]++[])))))++(iZ (eW S2 3) es++[]):=by
  simp only [List.mem_append,List.append_nil,List.nil_append]
  rintro ((h | h | h | h) | h)
  ·exact b1 h
  ·exact b2 h
  ·exact b3 h
  ·exact b4 h
  ·exact b5 h
 have hi:aBk S2 [2] 0 S.next [v1,v2,.sl a 0 n 0 m,v3,v4,.int k x]=.ok ([.imm l1,.imm l2,.sl S.next 0 n 0 m,.imm l3,.imm l4,.int k x],[a]):=by
  simp only [aBk,gL,show Nat.beq 0 2=false from rfl,show Nat.beq (0+1) 2=false from rfl,show Nat.beq (0+1+1) 2=true from rfl,show Nat.beq (0+1+1+1) 2=false from rfl,show Nat.beq (0+1+1+1+1) 2=false from rfl,show Nat.beq (0+1+1+1+1+1) 2=false from rfl,Bool.or_false,cond_false,cond_true,h1,h2,h3,h4,cF]
 have hr:fV S2 [a]=.ok [(0,n,es')]:=by simp only [fV,hg,hm]
 have hB:vU S2 [2] 0 [v1,v2,.sl a 0 n 0 m,v3,v4,.int k x]=dX (iB (eW S2 3) S2) v1++(dX (iB (eW S2 3) S2) v2++([]++(dX (iB (eW S2 3) S2) v3++(dX (iB (eW S2 3) S2) v4++([]++[]))))):=rfl
 have hR:cR S2 [a]=iZ (eW S2 3) es++[]:=by simp only [cR,hg]
 simp only [tK,V.cells,hi,hr,rF,hB,hR,aYz hb]
 rfl
theorem aW4 {S2 S:St} {v1 v2 v3 v4:V} {l1 l2 l3 l4:List (List V)} {k:IntKind} {x:Int} (h1:cF jL (jU (gO S2 3) S2) v1=.ok (.imm l1)) (h2:cF jL (jU (gO S2 3) S2) v2=.ok (.imm l2)) (h3:cF jL (jU (gO S2 3) S2) v3=.ok (.imm l3)) (h4:cF jL (jU (gO S2 3) S2) v4=.ok (.imm l4)):
  tK [2] (.agg [v1,v2,.nils,v3,v4,.int k x]) S2 S=.ok (.agg [.imm l1,.imm l2,.nils,.imm l3,.imm l4,.int k x],⟨S.next+0,S.heap⟩):=by
 have hi:aBk S2 [2] 0 S.next [v1,v2,.nils,v3,v4,.int k x]=.ok ([.imm l1,.imm l2,.nils,.imm l3,.imm l4,.int k x],[]):=by
  simp only [aBk,gL,show Nat.beq 0 2=false from rfl,show Nat.beq (0+1) 2=false from rfl,show Nat.beq (0+1+1) 2=true from rfl,show Nat.beq (0+1+1+1) 2=false from rfl,show Nat.beq (0+1+1+1+1) 2=false from rfl,show Nat.beq (0+1+1+1+1+1) 2=false from rfl,Bool.or_false,cond_false,cond_true,h1,h2,h3,h4,cF]
 have hn:∀ l:List Nat,(l.any fun b=>gL b [])=false:=fun l=>by rw [List.any_eq_false];intro b _ e;cases e
 simp only [tK,V.cells,hi,fV,rF,hn]
 rfl
structure Cp (S:St) (cells z:List V):Prop where
 wf:WF S
 two:2≤S.next
 r0:aC S 0 0=.ok (6,[cells])
 r1:aC S 1 0=.ok (6,[z])
theorem Cp.put {S:St} {cells z:List V} (c:Cp S cells z) (cells':List V):Cp ⟨S.next,S.heap.put 0 (.row 0 6 [cells'])⟩ cells' z:=
 ⟨jN (n:=S.next) c.wf (by have:=c.two;omega) (Nat.le_refl _),c.two,aA _ _ _ _ _ _,aG (n:=S.next) (by decide) c.r1⟩
theorem Cp.copy {α:Type} {enc:α→List V} {n b:Nat} (hl:∀ x,(enc x).length=n∧aF (enc x)=true) (l:List α) {S:St} {cells z:List V} (c:Cp S cells z) (h1:l.length*b≤35184372088832) (h2:l.length<eD):
  ∃ v S',fQ n b .nils (.imm (l.map enc)) none S=.ok (v,S')∧Cp S' cells z∧Own E0 S' n v (l.map enc)∧(∀ y,blkOf v=some y→S.next≤y∧y<S'.next)∧Ext S S':=by
 obtain ⟨v,S',q1,x,own⟩:=aPa (b:=b) hl l c.wf h1 h2
 exact ⟨v,S',q1,⟨x.wf c.wf,Nat.le_trans c.two x.next,x.row c.r0,x.row c.r1⟩,own.weaken (Nat.zero_le _),fun y hy=>cN own hy,x⟩
theorem Own.on {S S':St} {n:Nat} {v:V} {es:List (List V)} (o:Own E0 S n v es) (hb:∀ y,blkOf v=some y→2≤y) (x:Ext S S') (b:Blk):Own E0 ⟨S'.next,S'.heap.put 0 b⟩ n v es:=
 (o.ext x).same (Nat.le_refl _) fun a ha=>Tr.get_put_neB _ _ _ _ trivial (by have:=hb a ha;omega)
theorem Own.on0 {S:St} {n:Nat} {v:V} {es:List (List V)} (o:Own E0 S n v es) (hb:∀ y,blkOf v=some y→2≤y) (b:Blk):Own E0 ⟨S.next,S.heap.put 0 b⟩ n v es:=o.on hb (Ext.refl S) b
end Go.AM
namespace Go.Proofs.YtoaibmbldmckaaaGreat
open Go.AM Tryz
set_option linter.unusedVariables false
set_option linter.unusedSimpArgs false
set_option maxRecDepth 100000
end Go.Proofs.YtoaibmbldmckaaaGreat
end
section
namespace Go.Proofs.YtoaibmbldmckaaaGreat
open Go.AM Tryz
def zst:List V:=[.nils,.nils,.nils,.nils,.nils,.int .i64 0]
theorem bKv {S:St} (w:WF S) (s:State) (b:Bnd s) {K:KW} (k:∀ v S',Ext S S'→Own S S' 12 v (s.posted.map Posted.enc)→K (.agg [.imm (s.table.map Rate.enc),.imm (s.ser.map Ser.enc),v,.imm (s.book.map Bal.enc),.imm (s.sess.map Sess.enc),.int .i64 s.next]) S'):
  C 102 [.agg [.imm (s.table.map Rate.enc),.imm (s.ser.map Ser.enc),.imm (s.posted.map Posted.enc),.imm (s.book.map Bal.enc),.imm (s.sess.map Sess.enc),.int .i64 s.next]] S K:=by
 have hbt:=b.bt
 have hbs:=b.bs
 have hbp:=b.bp
 have hbb:=b.bb
 have hbe:=b.be
 refine bMa rfl ?_
 obtain ⟨A0,hA0⟩:∃ A0:St,A0=⟨1+1,(Tr.nil.put 0 (.row 0 6 [s.enc])).put 1 (.row 0 6 [zst])⟩:=⟨_,rfl⟩
 have c0:Cp A0 s.enc zst:=by rw [hA0];exact ⟨jN (n:=1) (jN pF (by decide) (by decide)) (by decide) (by decide),Nat.le_refl _,rfl,rfl⟩
 obtain ⟨v1,A1,q1,c1,o1,b1,x1⟩:=c0.copy (b:=48) aVy s.table (by omega) (by unfold eD;omega)
 have d1:=c1.put [v1,.imm (s.ser.map Ser.enc),.imm (s.posted.map Posted.enc),.imm (s.book.map Bal.enc),.imm (s.sess.map Sess.enc),.int .i64 s.next]
 obtain ⟨v2,A2,q2,c2,o2,b2,x2⟩:=d1.copy (b:=40) ser4 s.ser (by omega) (by unfold eD;omega)
 have d2:=c2.put [v1,v2,.imm (s.posted.map Posted.enc),.imm (s.book.map Bal.enc),.imm (s.sess.map Sess.enc),.int .i64 s.next]
 obtain ⟨v3,A3,q3,c3,o3,b3,x3⟩:=d2.copy (b:=24) aW0 s.book (by omega) (by unfold eD;omega)
 have d3:=c3.put [v1,v2,.imm (s.posted.map Posted.enc),v3,.imm (s.sess.map Sess.enc),.int .i64 s.next]
 obtain ⟨v4,A4,q4,c4,o4,b4,x4⟩:=d3.copy (b:=40) sess5 s.sess (by omega) (by unfold eD;omega)
 have d4:=c4.put [v1,v2,.imm (s.posted.map Posted.enc),v3,v4,.int .i64 s.next]
 have t0:=c0.two
 have t1:=c1.two
 have t2:=c2.two
 have t3:=c3.two
 have t4:=c4.two
 have m1:=x1.next
 have m2:A1.next≤A2.next:=x2.next
 have m3:A2.next≤A3.next:=x3.next
 have m4:A3.next≤A4.next:=x4.next
 have b2:∀ y,AM.blkOf v2=some y→A1.next≤y∧y<A2.next:=b2
 have b3:∀ y,AM.blkOf v3=some y→A2.next≤y∧y<A3.next:=b3
 have b4:∀ y,AM.blkOf v4=some y→A3.next≤y∧y<A4.next:=b4
 have g1:∀ y,AM.blkOf v1=some y→2≤y:=fun y hy=>by have:=b1 y hy;omega
 have g2:∀ y,AM.blkOf v2=some y→2≤y:=fun y hy=>by have:=b2 y hy;omega
 have g3:∀ y,AM.blkOf v3=some y→2≤y:=fun y hy=>by have:=b3 y hy;omega
 have g4:∀ y,AM.blkOf v4=some y→2≤y:=fun y hy=>by have:=b4 y hy;omega
 have p1:=((((o1.on0 g1 _).on g1 x2 _).on g1 x3 _).on g1 x4 (.row 0 6 [[v1,v2,.imm (s.posted.map Posted.enc),v3,v4,.int .i64 s.next]]))
 have p2:=(((o2.on0 g2 _).on g2 x3 _).on g2 x4 (.row 0 6 [[v1,v2,.imm (s.posted.map Posted.enc),v3,v4,.int .i64 s.next]]))
 have p3:=((o3.on0 g3 _).on g3 x4 (.row 0 6 [[v1,v2,.imm (s.posted.map Posted.enc),v3,v4,.int .i64 s.next]]))
 have p4:=(o4.on0 g4 (.row 0 6 [[v1,v2,.imm (s.posted.map Posted.enc),v3,v4,.int .i64 s.next]]))
 have e1:=o1.one
 have e2:=o2.one
 have e3:=o3.one
 have e4:=o4.one
 have f1:=o1.cells
 have f2:=o2.cells
 have f3:=o3.cells
 have f4:=o4.cells
 have r0:=c0.r0
 have r1:=c1.r0
 have r2:=c2.r0
 have r3:=c3.r0
 have r4:=c4.r0
 simp only [State.enc] at r0 r1 hA0
 simp only [zst] at hA0
 delta Tryz.f102;simp only [↓cw,↓reduceIte,Nat.reduceLT,kk,eG,←hA0,r0,q1,e1,f1,r1,q2,e2,f2,r2,q3,e3,f3,r3,q4,e4,f4,r4]
 have w4:=d4.wf
 cases hp:s.posted with
 | nil=>
  have q5:fQ 12 128 .nils (.imm (([]:List Posted).map Posted.enc)) none ⟨A4.next,A4.heap.put 0 (.row 0 6 [[v1,v2,.imm (([]:List Posted).map Posted.enc),v3,v4,.int .i64 s.next]])⟩=.ok (.nils,⟨A4.next,A4.heap.put 0 (.row 0 6 [[v1,v2,.imm (([]:List Posted).map Posted.enc),v3,v4,.int .i64 s.next]])⟩):=rfl
  rw [hp] at k p1 p2 p3 p4 d4
  have d5:=d4.put [v1,v2,.nils,v3,v4,.int .i64 s.next]
  have d6:=d5.r1
  simp only [zst] at d6
  simp only [↓cw,↓reduceIte,Nat.reduceLT,q5,kk]
  refine ⟨1,?_⟩
  have u1:=(((p1.on0 g1 (.row 0 6 [[v1,v2,.nils,v3,v4,.int .i64 s.next]])).put (k:=1) (m:=A4.next) (b:=.row 0 6 [[v1,v2,.nils,v3,v4,.int .i64 s.next]]) (Nat.le_refl _) fun a ver m hv=>by have:=g1 a (by rw [hv];rfl);omega).out fun _=>rfl)
  have u2:=(((p2.on0 g2 (.row 0 6 [[v1,v2,.nils,v3,v4,.int .i64 s.next]])).put (k:=1) (m:=A4.next) (b:=.row 0 6 [[v1,v2,.nils,v3,v4,.int .i64 s.next]]) (Nat.le_refl _) fun a ver m hv=>by have:=g2 a (by rw [hv];rfl);omega).out fun _=>rfl)
  have u3:=(((p3.on0 g3 (.row 0 6 [[v1,v2,.nils,v3,v4,.int .i64 s.next]])).put (k:=1) (m:=A4.next) (b:=.row 0 6 [[v1,v2,.nils,v3,v4,.int .i64 s.next]]) (Nat.le_refl _) fun a ver m hv=>by have:=g3 a (by rw [hv];rfl);omega).out fun _=>rfl)
  have u4:=(((p4.on0 g4 (.row 0 6 [[v1,v2,.nils,v3,v4,.int .i64 s.next]])).put (k:=1) (m:=A4.next) (b:=.row 0 6 [[v1,v2,.nils,v3,v4,.int .i64 s.next]]) (Nat.le_refl _) fun a ver m hv=>by have:=g4 a (by rw [hv];rfl);omega).out fun _=>rfl)
  simp only [↓cw,↓reduceIte,Nat.reduceLT,aAt,kk,Int.lt_irrefl,if_false,e1,e2,e3,e4,f1,f2,f3,f4,d6,show ((0:Nat):Int)=0 from rfl]
  rw [aW4 u1 u2 u3 u4]
  exact k .nils _ ⟨fun a b h=>h,Nat.le_refl _,fun w=>w⟩ (Own.nil _ _ _)
 | cons pp l=>
  obtain ⟨P,hP⟩:∃ P,P=pp::l:=⟨_,rfl⟩
  have hPl:P.length=l.length+1:=by rw [hP];rfl
  have hsP:s.posted=P:=by rw [hp,hP]
  have hPlen:P.length≤100000:=by rw [←hsP];exact hbp
  have hbq:∀ p∈P,p.total.parts.length≤100000:=fun p h=>b.bq p (by rw [hsP];exact h)
  obtain ⟨a,ha⟩:∃ a,a=A4.next:=⟨_,rfl⟩
  rw [hp,←hP] at k p1 p2 p3 p4 d4 w4
  rw [←hP]
  have q5:fQ 12 128 .nils (.imm (P.map Posted.enc)) none ⟨A4.next,A4.heap.put 0 (.row 0 6 [[v1,v2,.imm (P.map Posted.enc),v3,v4,.int .i64 s.next]])⟩=.ok (.sl a 0 12 0 P.length,⟨a+1,(A4.heap.put 0 (.row 0 6 [[v1,v2,.imm (P.map Posted.enc),v3,v4,.int .i64 s.next]])).put a (.row 0 12 (P.map Posted.enc))⟩):=by
   have a1:jR 12 (P.map Posted.enc)=true∧(P.map Posted.enc).all aF=true:=dA (fun c hc=>by obtain ⟨y,_,rfl⟩:=List.mem_map.1 hc;exact aIb y)
   rw [hP] at a1 ⊢
   simp only [fQ,aM]
   rw [if_pos a1]
   have hb2:l.length+1≤100000:=by omega
   simp only [List.map_cons,List.length_cons,List.length_map,fJ,←ha]
   rw [if_pos (by unfold eD;omega)]
  simp only [↓cw,↓reduceIte,Nat.reduceLT,q5,kk,eG,show ((0:Nat)=a)=False by simp;omega]
  obtain ⟨cs5,hcs5⟩:∃ cs5,cs5=[v1,v2,.sl a 0 12 0 P.length,v3,v4,.int .i64 s.next]:=⟨_,rfl⟩
  obtain ⟨T,hT⟩:∃ T:St,T=⟨a+1,((A4.heap.put 0 (.row 0 6 [[v1,v2,.imm (P.map Posted.enc),v3,v4,.int .i64 s.next]])).put a (.row 0 12 (P.map Posted.enc))).put 0 (.row 0 6 [[v1,v2,.sl a 0 12 0 P.length,v3,v4,.int .i64 s.next]])⟩:=⟨_,rfl⟩
  have cT:Cp T cs5 zst:=by
   rw [hT,hcs5]
   exact Cp.put (S:=⟨a+1,(A4.heap.put 0 (.row 0 6 [[v1,v2,.imm (P.map Posted.enc),v3,v4,.int .i64 s.next]])).put a (.row 0 12 (P.map Posted.enc))⟩) ⟨jN (n:=A4.next) w4 (by omega) (by omega),by show 2≤a+1;omega,aG (n:=A4.next) (by omega) (aA _ _ _ _ _ _),aG (n:=A4.next) (by omega) d4.r1⟩ _
  have oT:∀ {n:Nat} {v:V} {es:List (List V)},Own E0 ⟨A4.next,A4.heap.put 0 (.row 0 6 [[v1,v2,.imm (P.map Posted.enc),v3,v4,.int .i64 s.next]])⟩ n v es→(∀ y,AM.blkOf v=some y→2≤y)→Own E0 T n v es:=fun o g=>by
   rw [hT]
   refine o.same (by show A4.next≤a+1;omega) fun y hy=>?_
   have h1:=g y hy
   have h2:y<A4.next:=(cN o hy).2
   show (((A4.heap.put 0 _).put a _).put 0 _).get y=(A4.heap.put 0 _).get y
   rw [Tr.get_put_neB _ _ _ _ trivial (by omega),Tr.get_put_neB _ _ _ _ trivial (by omega)]
  have gT:T.heap.get a=some (.row 0 12 (P.map Posted.enc)):=by
   rw [hT]
   show (((A4.heap.put 0 _).put a _).put 0 _).get a=_
   rw [Tr.get_put_neB _ _ _ _ trivial (by omega)];exact Tr.get_put_sameB _ _ _ trivial
  have nT:T.next=a+1:=by rw [hT]
  rw [←hT]
  have l1:∀ y,AM.blkOf v1=some y→2≤y∧y<a:=fun y hy=>⟨g1 y hy,by have:=b1 y hy;omega⟩
  have l2:∀ y,AM.blkOf v2=some y→2≤y∧y<a:=fun y hy=>⟨g2 y hy,by have:=b2 y hy;omega⟩
  have l3:∀ y,AM.blkOf v3=some y→2≤y∧y<a:=fun y hy=>⟨g3 y hy,by have:=b3 y hy;omega⟩
  have l4:∀ y,AM.blkOf v4=some y→2≤y∧y<a:=fun y hy=>⟨g4 y hy,by have:=b4 y hy;omega⟩
  refine aH P (step:=fun (_:Unit) (_:Posted)=>(.inr ():Unit⊕Unit)) (fin:=id) (fun i _ vs S'=>vs=[.int .i64 (i:Int)]∧Cp S' cs5 zst∧a<S'.next∧Own E0 S' 5 v1 (s.table.map Rate.enc)∧Own E0 S' 4 v2 (s.ser.map Ser.enc)∧Own E0 S' 2 v3 (s.book.map Bal.enc)∧Own E0 S' 5 v4 (s.sess.map Sess.enc) ∧
   ∃ es,S'.heap.get a=some (.row 0 12 es)∧es.length=P.length∧∀ (j:Nat) (p:Posted),P[j]?=some p→∃ u,es[j]?=some (p.cells u)∧((i≤j∧u=.imm (p.total.parts.map Part.enc))∨(j<i∧Own E0 S' 4 u (p.total.parts.map Part.enc)∧∀ y,AM.blkOf u=some y→a<y))) (fun _=>True) ?_ ?_ (s:=()) ⟨rfl,cT,by omega,oT p1 g1,oT p2 g2,oT p3 g3,oT p4 g4,_,gT,List.length_map ..,fun j p hj=>⟨_,by rw [List.getElem?_map,hj];rfl,.inl ⟨Nat.zero_le _,rfl⟩⟩⟩ trivial
  ·rintro i p _ vs S' hi ⟨rfl,c,hlt,u1,u2,u3,u4,es,hg,hel,hes⟩ aD H
   have hil:=(List.getElem?_eq_some_iff.1 hi).1
   have hpl:=hbq p (List.mem_of_getElem? hi)
   have tw:=c.two
   obtain ⟨u0,hu,hu2⟩:=hes i p hi
   have hu2:u0=.imm (p.total.parts.map Part.enc):=by
    rcases hu2 with h | h
    ·exact h.2
    ·exact absurd h.1 (Nat.lt_irrefl _)
   subst hu2
   have fk:∀ y,S'.next≤y→S'.heap.get y=none:=fun y hy=>fresh c.wf hy
   obtain ⟨u,S2,q2,w2,n2,ou,bu,keep2⟩:=bEl (b:=40) aPc p.total.parts c.wf (k:=S'.next+10) (m:=S'.next+15) (by omega) (by omega) (by omega) (by unfold eD;omega)
   have hg2:S2.heap.get a=some (.row 0 12 es):=by rw [keep2 a (by omega)];exact hg
   have hld:∀ m,gX none (.ptr a 0 i 8) ⟨m,S'.heap⟩=.ok (.imm (p.total.parts.map Part.enc)):=fun m=>by
    have:aC ⟨m,S'.heap⟩ a 0=.ok (12,es):=aI hg
    simp only [↓cw,↓reduceIte,Nat.reduceLT,ldP,this,hu,Posted.cells,kk]
   have hix:fI 12 (.sl a 0 12 0 P.length) (.int .i64 (i:Int))=.ok (.ptr a 0 i 0):=by
    simp only [fI,fX hil,if_true,Nat.zero_add]
   have hst:eH 1 (.ptr a 0 i 8) u S2=.ok ⟨S2.next,S2.heap.put a (.row 0 12 (es.set i (p.cells u)))⟩:=by
    have hg':aC S2 a 0=.ok (12,es):=aI hg2
    simp only [stP,hg',hu]
    rw [if_pos ⟨by rw [ou.cells];rfl,by rw [ou.cells];simp [aF,ou.one],by rw [ou.cells];show 8+1≤12;decide⟩,ou.cells]
    rfl
   have r0:=aY c.r0 (keep2 0 (by omega))
   have r1:=aY c.r1 (keep2 1 (by omega))
   have rc:=c.r0
   simp only [hcs5] at r0 rc
   simp only [↓cw,↓reduceIte,Nat.reduceLT,kk,bO hi,gm,rc,hix,show (0+5+3:Nat)=8 from rfl,show (5+3:Nat)=8 from rfl,hld,q2,r0,hst,jO (show i<1000000000 by omega)]
   have ok:∀ {n:Nat} {v:V} {el:List (List V)},Own E0 S' n v el→(∀ y,AM.blkOf v=some y→y≠a)→Own E0 ⟨S2.next,S2.heap.put a (.row 0 12 (es.set i (p.cells u)))⟩ n v el:=fun o g=>o.same (by show S'.next≤S2.next;omega) fun y hy=>by
    have:=(cN o hy).2
    show (S2.heap.put a _).get y=_
    rw [Tr.get_put_neB _ _ _ _ trivial (g y hy),keep2 y (by omega)]
   refine H _ _ ⟨rfl,⟨jN (n:=S2.next) w2 (by omega) (Nat.le_refl _),by show 2≤S2.next;omega,aG (n:=S2.next) (by omega) (by rw [hcs5];exact r0),aG (n:=S2.next) (by omega) r1⟩,by show a<S2.next;omega,ok u1 (fun y hy=>by have:=l1 y hy;omega),ok u2 (fun y hy=>by have:=l2 y hy;omega),ok u3 (fun y hy=>by have:=l3 y hy;omega),ok u4 (fun y hy=>by have:=l4 y hy;omega),_,Tr.get_put_sameB _ _ _ trivial,by rw [List.length_set];exact hel,fun j q hj=>?_⟩
   by_cases e:j=i
   ·subst e
    rw [hi] at hj
    cases hj
    refine ⟨u,List.getElem?_set_self (by omega),.inr ⟨Nat.lt_succ_self _,ou.same (Nat.le_refl _) fun y hy=>?_,fun y hy=>by have:=bu y hy;omega⟩⟩
    have:=bu y hy
    exact Tr.get_put_neB _ _ _ _ trivial (by omega)
   ·obtain ⟨x,hx1,hx2⟩:=hes j q hj
    refine ⟨x,by rw [List.getElem?_set_ne (Ne.symm e)];exact hx1,?_⟩
    rcases hx2 with h | ⟨h1,h2,h3⟩
    ·exact .inl ⟨by omega,h.2⟩
    ·exact .inr ⟨by omega,ok h2 (fun y hy=>by have:=h3 y hy;omega),h3⟩
  ·rintro _ vs S' ⟨rfl,c,hlt,u1,u2,u3,u4,es,hg,hel,hes⟩ aD H
   have tw:=c.two
   have rc:=c.r0
   have rd:=c.r1
   simp only [hcs5] at rc
   simp only [zst] at rd
   simp only [↓cw,↓reduceIte,Nat.reduceLT,kk,Int.lt_irrefl,if_false,gm,rc,rd,e1,e2,e3,e4,f1,f2,f3,f4]
   obtain ⟨S3,hS3⟩:∃ S3:St,S3=⟨S'.next,S'.heap.put 1 (.row 0 6 [[v1,v2,.sl a 0 12 0 P.length,v3,v4,.int .i64 s.next]])⟩:=⟨_,rfl⟩
   have kk3:∀ {n:Nat} {v:V} {el:List (List V)},Own E0 S' n v el→(∀ y,AM.blkOf v=some y→2≤y)→Own E0 S3 n v el:=fun o g=>by
    rw [hS3]
    exact o.same (Nat.le_refl _) fun y hy=>Tr.get_put_neB _ _ _ _ trivial (by have:=g y hy;omega)
   have g3':S3.heap.get a=some (.row 0 12 es):=by rw [hS3];show (S'.heap.put 1 _).get a=_;rw [Tr.get_put_neB _ _ _ _ trivial (by omega)];exact hg
   rw [←hS3]
   have o1':=kk3 u1 g1
   have o2':=kk3 u2 g2
   have o3':=kk3 u3 g3
   have o4':=kk3 u4 g4
   have el:∀ (j:Nat) (p:Posted),P[j]?=some p→∃ u,es[j]?=some (p.cells u)∧Own E0 S3 4 u (p.total.parts.map Part.enc)∧AM.blkOf u≠some a:=fun j p hj=>by
    obtain ⟨u,h1,h2⟩:=hes j p hj
    have hjl:=(List.getElem?_eq_some_iff.1 hj).1
    rcases h2 with h | ⟨_,h2,h3⟩
    ·omega
    ·exact ⟨u,h1,kk3 h2 (fun y hy=>by have:=h3 y hy;omega),fun e=>by have:=h3 a e;omega⟩
   have hm:jT (gO S3 3) es=.ok (P.map Posted.enc):=aPd (by rw [List.length_map];exact hel) fun j x hx=>by
    have hjl:j<P.length:=by rw [←hel];exact (List.getElem?_eq_some_iff.1 hx).1
    have hj:P[j]?=some P[j]:=List.getElem?_eq_getElem hjl
    obtain ⟨u,h1,h2,_⟩:=el j _ hj
    rw [hx] at h1
    cases h1
    refine ⟨P[j].enc,by rw [List.getElem?_map,hj];rfl,?_⟩
    have hf:=h2.frzN (aO (fun _=>rfl) _) 1
    simp only [gO,Posted.cells,frzVs,cF] at hf ⊢
    rw [hf]
    rfl
   have hnb:∀ {n:Nat} {v:V} {el:List (List V)},Own E0 S3 n v el→el.all cloVs=true→(∀ y,AM.blkOf v=some y→y≠a)→a ∉ dX (iB (eW S3 3) S3) v:=fun o hc g h=>g a (o.blks hc 2 h) rfl
   have hb5:a ∉ iZ (eW S3 3) es:=fun h=>by
    obtain ⟨x,h1,h2⟩:=aKc h
    obtain ⟨j,hj,rfl⟩:=List.getElem_of_mem h1
    have hjl:j<P.length:=by omega
    obtain ⟨u,q1,q2,q3⟩:=el j _ (List.getElem?_eq_getElem hjl)
    rw [List.getElem?_eq_getElem hj] at q1
    rw [Option.some.inj q1] at h2
    simp only [eW,Posted.cells,slsVs,dX,List.nil_append,List.append_nil] at h2
    exact q3 (q2.blks (aO (fun _=>rfl) _) 1 h2)
   rw [aZ0 (o1'.out fun _=>rfl) (o2'.out fun _=>rfl) (o3'.out fun _=>rfl) (o4'.out fun _=>rfl) g3' hm (hnb o1' (aO (fun _=>rfl) _) fun y hy=>by have:=l1 y hy;omega) (hnb o2' (aO (fun _=>rfl) _) fun y hy=>by have:=l2 y hy;omega) (hnb o3' (aO (fun _=>rfl) _) fun y hy=>by have:=l3 y hy;omega) (hnb o4' (aO (fun _=>rfl) _) fun y hy=>by have:=l4 y hy;omega) hb5]
   refine k _ _ (Ext.new w _) ⟨.inr ⟨S.next,0,[],by rw [List.length_map],Nat.le_refl _,Nat.lt_succ_self _,?_⟩,fun c hc=>by obtain ⟨y,_,rfl⟩:=List.mem_map.1 hc;exact aIb y⟩
   rw [List.append_nil];exact Tr.get_put_sameB _ _ _ trivial
def srV (r:State×Rep):V:=.tup [.agg [.imm (r.1.table.map Rate.enc),.imm (r.1.ser.map Ser.enc),.imm (r.1.posted.map Posted.enc),.imm (r.1.book.map Bal.enc),.imm (r.1.sess.map Sess.enc),.int .i64 r.1.next],.agg [.int .i64 r.2.why,.int .i64 r.2.number,.int .i64 r.2.gross]]
theorem bQ5 (s:State) (S:St) (K:KW):C 104 [.agg [.imm (s.table.map Rate.enc),.imm (s.ser.map Ser.enc),.imm (s.posted.map Posted.enc),.imm (s.book.map Bal.enc),.imm (s.sess.map Sess.enc),.int .i64 s.next]] S K=K (srV (eT s)) S:=by
 refine (bMc rfl ?_).eq S K
 delta Tryz.f104;simp only [↓cw,↓reduceIte,Nat.reduceLT,kk,eG,gm,mM,bK6,eT,srV]
 by_cases c1:8≤s.sess.length
 ·simp only [↓cw,↓reduceIte,Nat.reduceLT,c1,show (8:Int)≤(s.sess.length:Int) by omega,kk,eG,gm,mM,oo,why,true_or,if_true]
 by_cases c2:1099511627776≤s.next
 ·simp only [↓cw,↓reduceIte,Nat.reduceLT,c1,c2,show ¬ (8:Int)≤(s.sess.length:Int) by omega,kk,eG,gm,mM,oo,why,or_true,if_true,if_false]
 simp only [↓cw,↓reduceIte,Nat.reduceLT,c1,c2,show ¬ (8:Int)≤(s.sess.length:Int) by omega,kk,eG,gm,mM,bK6,or_self,if_false]
 by_cases c3:(mF s.sess s.next).2=0
 ·simp only [↓cw,↓reduceIte,Nat.reduceLT,c3,kk,eG,gm,oo,why,not_true_eq_false,if_false]
 ·simp only [↓cw,↓reduceIte,Nat.reduceLT,c3,kk,eG,gm,mM,oo,why,not_false_eq_true,if_true]
theorem g31 (S:St) (K:KW):C 31 [] S K=K (.agg [.imm ([]:List (List V)),.imm [],.imm [],.imm [],.imm [],.int .i64 1]) S:=by
 refine (v31 rfl ?_).eq S K
 delta Tryz.f31;simp only [↓cw,↓reduceIte,Nat.reduceLT,kk,oo]
end Go.Proofs.YtoaibmbldmckaaaGreat
end
section
namespace Go.AM
theorem Own.in3 {S0 S:St} {n:Nat} {v:V} {α:Type} {enc:α→List V} {l:List α} (h:Own S0 S n v (l.map enc)) (hc:∀ x,cloVs (enc x)=true) {x y:V} {bs:List V} (hx:nY x=true) (hy:nY y=true) (hb:cloVs bs=true):
  frzVs jL (jU (gO S 3) S) [.agg (x::y::v::bs)]=.ok [.agg (x::y::.imm (l.map enc)::bs)]∧ptrsVs [.agg (x::y::v::bs)]=[]:=by
 constructor
 ·simp only [frzVs,cF,mL x hx,mL y hy,h.out hc,clo_frzs bs hb]
 ·simp only [ptrsVs,nF,uP x hx,uP y hy,h.ptrs,clo_ptrs bs hb,List.append_nil]
theorem aPe:∀ (l:List Nat) (h:Tr Blk) {y:Nat},y ∉ l→(pJ l h).get y=h.get y
 | [],_,_,_=>rfl
 | a::l,h,y,hy=>by
  simp only [List.mem_cons,not_or] at hy
  simp only [pJ]
  rw [aPe l _ hy.2,Tr.get_cut,if_neg hy.1]
theorem Fn.cutE {P:Program} {pl:iQ} {f:FuncId} {bs:List V} {v:V} (h:Fn P pl f bs v) {p:Nat→Option (List bJ)} (hpl:pl f=some (.val p)) (hc:cloVs bs=true) {args:List V} {S:St} (hb:frzVs jL (jU (gO S 3) S) args=.ok bs) (hp:ptrsVs args=[]):
  ∃ h':Tr Blk,(∀ y,y ∉ slsVs (iB (eW S 3) S) args→h'.get y=S.heap.get y)∧∀ K,W P pl f args S K=K v ⟨S.next,h'⟩:=by
 obtain ⟨N,h⟩:=h ⟨0,.nil⟩
 obtain ⟨h',hh'⟩:∃ h',h'=(bif iP v&&pK [] then S.heap else pJ (slsVs (iB (eW S 3) S) args++[]) S.heap):=⟨_,rfl⟩
 refine ⟨h',fun y hy=>?_,fun K=>aEx ⟨N+1,fun k hk'=>?_⟩ K⟩
 ·rw [hh']
  cases iP v&&pK []
  ·exact aPe _ _ (by rw [List.append_nil];exact hy)
  ·rfl
 obtain ⟨k,rfl⟩:∃ m,k=m+1:=⟨k - 1,by omega⟩
 have:=h (k+1) (by omega)
 simp only [eF,hpl] at this ⊢
 unfold vD at this
 have e1:gQ (ptrsVs bs)=[]:=by rw [clo_ptrs bs hc];rfl
 have e2:slsVs (iB (eW (⟨0,.nil⟩:St) 3) ⟨0,.nil⟩) bs=[]:=clo_sls bs hc
 rw [e1,e2] at this
 simp only [clo_frzs bs hc,fV,cR,List.append_nil,List.any_nil,cond_false,List.length_nil,vC,pH,tJ] at this
 split at this
 ·cases this
 ·rename_i v0 S0 hrun
  split at this
  ·cases this
  ·rename_i v' hv'
   have hv:v'=v:=(Prod.mk.inj (Except.ok.inj this)).1
   subst hv
   have h1:gQ (ptrsVs args)=[]:=by rw [hp];rfl
   have hi:(fun a=>sM a 0 ([]:List Nat))=jL:=rfl
   have hh:∀ l:List Nat,(l.any fun a=>gL a [])=false:=by intro l;rw [List.any_eq_false];intro a _;simp [gL]
   unfold vD
   rw [h1]
   simp only [hi,hb,fV,cR,hh,cond_false,List.length_nil,vC,hrun,hv',pH,tJ,List.append_nil,nG,hh']
end Go.AM
namespace Go.Proofs.YtoaibmbldmckaaaGreat
open Go.AM Tryz
set_option linter.unusedVariables false
set_option linter.unusedSimpArgs false
set_option maxRecDepth 100000
theorem a24 {S0 S:St} {s:State} {v:V} (h:Own S0 S 12 v (s.posted.map Posted.enc)) (K:KW):C 24 [.agg [.imm (s.table.map Rate.enc),.imm (s.ser.map Ser.enc),v,.imm (s.book.map Bal.enc),.imm (s.sess.map Sess.enc),.int .i64 s.next]] S K=K (.bool (aV s)) S:=by
 obtain ⟨h1,h2⟩:=h.in3 (fun _=>rfl) (x:=.imm (s.table.map Rate.enc)) (y:=.imm (s.ser.map Ser.enc)) (bs:=[.imm (s.book.map Bal.enc),.imm (s.sess.map Sess.enc),.int .i64 s.next]) rfl rfl rfl
 exact (Fn.back fun S K=>g24 s S K).frz bFj rfl h1 h2 (.inl rfl) K
theorem aW5 (x y z u:List V) (n m k j:Nat):∃ S1:St,S1=⟨3+1,(((Tr.nil.put 0 (.row 0 n [x])).put 1 (.row 0 m [y])).put 2 (.row 0 k [z])).put 3 (.row 0 j [u])⟩∧WF S1∧S1.next=4∧aC S1 0 0=.ok (n,[x])∧aC S1 1 0=.ok (m,[y])∧aC S1 2 0=.ok (k,[z])∧aC S1 3 0=.ok (j,[u]):=
 ⟨_,rfl,jN (n:=3) (jN (n:=2) (jN (n:=1) (jN pF (by decide) (by decide)) (by decide) (by decide)) (by decide) (by decide)) (by decide) (by decide),rfl,rfl,rfl,rfl,rfl⟩
theorem g33 (s:State) (c:Call) (b:Bnd s) (hl:c.cmd.lines.length<1000000) (S:St) (K:KW):C 33 [.agg [.imm (s.table.map Rate.enc),.imm (s.ser.map Ser.enc),.imm (s.posted.map Posted.enc),.imm (s.book.map Bal.enc),.imm (s.sess.map Sess.enc),.int .i64 s.next],
  .agg [.int .i64 c.session,.int .i64 c.seq,.int .i64 c.cmd.kind,.str c.cmd.series,.int .i64 c.cmd.limit,.str c.cmd.row.cat,.int .i64 c.cmd.row.day.y,.int .i64 c.cmd.row.day.m,.int .i64 c.cmd.row.day.d,.int .i64 c.cmd.row.bp,.int .i64 c.cmd.day.y,.int .i64 c.cmd.day.m,.int .i64 c.cmd.day.d,.imm (c.cmd.lines.map Line.enc),.str c.cmd.of.ser,.int .i64 c.cmd.of.num,.int .i64 c.cmd.session]] S K=K (srV (eP s c)) S:=by
 refine (v33 rfl ?_).eq S K
 obtain ⟨A,hA,wA,nA,r0,r1,r2,r3⟩:=aW5 s.enc [.int .i64 c.session,.int .i64 c.seq,.int .i64 c.cmd.kind,.str c.cmd.series,.int .i64 c.cmd.limit,.str c.cmd.row.cat,.int .i64 c.cmd.row.day.y,.int .i64 c.cmd.row.day.m,.int .i64 c.cmd.row.day.d,.int .i64 c.cmd.row.bp,.int .i64 c.cmd.day.y,.int .i64 c.cmd.day.m,.int .i64 c.cmd.day.d,.imm (c.cmd.lines.map Line.enc),.str c.cmd.of.ser,.int .i64 c.cmd.of.num,.int .i64 c.cmd.session] zst [.int .i64 0,.int .i64 0,.int .i64 0] 6 17 6 3
 simp only [State.enc] at r0 hA
 simp only [zst] at hA r2
 simp only [m33,kk,←hA,eG,r0]
 refine bKv wA s b fun v S6 x6 own6=>?_
 have n6:4≤S6.next:=by have:=x6.next;omega
 have w6:=x6.wf wA
 have bv:∀ y,AM.blkOf v=some y→4≤y∧y<S6.next:=fun y hy=>by have:=cN own6 hy;omega
 have a0:=x6.row r0
 have a1:=x6.row r1
 have a2:=x6.row r2
 have a3:=x6.row r3
 have own6:=own6.weaken (A:=E0) (Nat.zero_le _)
 have o1:=own6.one
 have o2:=own6.cells
 obtain ⟨S7,hS7⟩:∃ S7:St,S7=⟨S6.next,S6.heap.put 0 (.row 0 6 [s.cells v])⟩:=⟨_,rfl⟩
 have st:StAt S7 0 s v:=by
  rw [hS7]
  exact ⟨aA _ _ _ _ _ _,own6.same (Nat.le_refl _) fun y hy=>Tr.get_put_neB _ _ _ _ trivial (by have:=bv y hy;omega),jN (n:=S6.next) w6 (by omega) (Nat.le_refl _),fun e=>by have:=bv _ e;omega⟩
 have b1:aC S7 1 0=aC A 1 0:=by rw [hS7,r1];exact aG (n:=S6.next) (by decide) a1
 have b2:aC S7 2 0=aC A 2 0:=by rw [hS7,r2];exact aG (n:=S6.next) (by decide) a2
 have b3:aC S7 3 0=aC A 3 0:=by rw [hS7,r3];exact aG (n:=S6.next) (by decide) a3
 rw [r1] at b1
 rw [r2] at b2
 rw [r3] at b3
 have n7:S7.next=S6.next:=by rw [hS7]
 simp only [State.cells] at hS7
 have ra:=st.row
 simp only [State.cells] at ra
 have h24:=a24 st.own
 have hout:∀ (S8:St) (v8:V) (r:State×Rep),Own E0 S8 12 v8 (r.1.posted.map Posted.enc)→lS S8 (.tup [.agg [.imm (r.1.table.map Rate.enc),.imm (r.1.ser.map Ser.enc),v8,.imm (r.1.book.map Bal.enc),.imm (r.1.sess.map Sess.enc),.int .i64 r.1.next],.agg [.int .i64 r.2.why,.int .i64 r.2.number,.int .i64 r.2.gross]])=.ok (srV r):=by
  intro S8 v8 r o
  have:=o.out fun _=>rfl
  simp only [oo,this,srV]
 have hput:∀ (S8:St) (v8:V) (s8:State) (x y:Blk),Own E0 S8 12 v8 (s8.posted.map Posted.enc)→(∀ z,AM.blkOf v8=some z→4≤z)→Own E0 ⟨S8.next,(S8.heap.put 2 x).put 3 y⟩ 12 v8 (s8.posted.map Posted.enc):=fun S8 v8 s8 x y o g=>o.same (Nat.le_refl _) fun z hz=>by
  have:=g z hz
  show ((S8.heap.put 2 x).put 3 y).get z=_
  rw [Tr.get_put_neB _ _ _ _ trivial (by omega),Tr.get_put_neB _ _ _ _ trivial (by omega)]
 simp only [kk,a0,o1,o2,←hS7,ra,h24,gm,mM]
 cases c1:aV s
 ·simp only [c1,kk,if_true,mM,gm,ra,b2,b3,o1,o2,eG]
  have:=hout ⟨S7.next+4,(S7.heap.put 2 (.row 0 6 [s.cells v])).put 3 (.row 0 3 [[.int .i64 1,.int .i64 0,.int .i64 0]])⟩ v (s,why 1) ((hput S7 v s _ _ st.own fun z hz=>(bv z hz).1).bump 4)
  simp only [eP,c1,if_true]
  exact this
 simp only [c1,kk,Bool.true_eq_false,if_false,b1]
 have hk17:c.cmd.kind<1∨8<c.cmd.kind→aDg C (fun v0 S0=>lS S0 v0=Except.ok (srV (eP s c))) (V.ptr 0 0 0 0) (V.ptr 1 0 0 0) (V.ptr (1+1) 0 0 0) (V.ptr (1+1+1) 0 0 0) (V.bool true) S7:=by
  intro h
  have:=hout ⟨S7.next+4,(S7.heap.put 2 (.row 0 6 [s.cells v])).put 3 (.row 0 3 [[.int .i64 17,.int .i64 0,.int .i64 0]])⟩ v (s,why 17) ((hput S7 v s _ _ st.own fun z hz=>(bv z hz).1).bump 4)
  simp only [aDg,kk,if_true,mM,gm,ra,b2,b3,o1,o2,eG,eP,c1,Bool.true_eq_false,if_false,h]
  exact this
 by_cases c2:c.cmd.kind<1
 ·simp only [c2,if_true]
  exact hk17 (.inl c2)
 by_cases c3:8<c.cmd.kind
 ·simp only [c2,c3,if_false,decide_true]
  exact hk17 (.inr c3)
 have hap:eP s c=if c.cmd.kind=6 then eT s else if (cD s.sess c.session c.seq).2.2≠0 then (s,why (cD s.sess c.session c.seq).2.2) else if (cD s.sess c.session c.seq).2.1=true then (s,(cD s.sess c.session c.seq).1) else iG (sS s c.cmd) c:=by
  simp only [eP,c1,c2,c3,Bool.true_eq_false,if_false,or_self]
 rw [hap]
 simp only [c2,c3,if_false,decide_false,aDg,kk,Bool.false_eq_true,b1,ra]
 by_cases c6:c.cmd.kind=6
 ·obtain ⟨h1,h2⟩:=st.own.in3 (fun _=>rfl) (x:=.imm (s.table.map Rate.enc)) (y:=.imm (s.ser.map Ser.enc)) (bs:=[.imm (s.book.map Bal.enc),.imm (s.sess.map Sess.enc),.int .i64 s.next]) rfl rfl rfl
  obtain ⟨h',hk',hC⟩:=(Fn.back fun S K=>bQ5 s S K).cutE bFk rfl h1 h2
  have hno:∀ y,y<4→h'.get y=S7.heap.get y:=fun y hy=>hk' y fun hm=>by
   simp only [slsVs,dX,List.nil_append,List.append_nil] at hm
   have:=st.own.blks (aO (fun _=>rfl) _) 2 hm
   have:=bv _ this
   omega
  have d2:aC ⟨S7.next,h'⟩ 2 0=.ok (6,[[.nils,.nils,.nils,.nils,.nils,.int .i64 0]]):=aY b2 (hno 2 (by decide))
  have d3:aC ⟨S7.next,h'⟩ 3 0=.ok (3,[[.int .i64 0,.int .i64 0,.int .i64 0]]):=aY b3 (hno 3 (by decide))
  simp only [c6,if_true,hC,srV,kk,d2,d3,eG,gm]
  simp only [oo]
 simp only [c6,if_false,kk,bK5]
 obtain ⟨B,hB⟩:∃ B:St,B=⟨S7.next+1,(S7.heap.put S7.next (.row 0 3 [[.int .i64 0,.int .i64 0,.int .i64 0]])).put S7.next (.row 0 3 [[.int .i64 (cD s.sess c.session c.seq).1.why,.int .i64 (cD s.sess c.session c.seq).1.number,.int .i64 (cD s.sess c.session c.seq).1.gross]])⟩:=⟨_,rfl⟩
 have nB:B.next=S7.next+1:=by rw [hB]
 have nk7:=st.new (k:=S7.next) (Nat.le_refl _)
 have stB:StAt B 0 s v:=by rw [hB];exact (st.put (k:=S7.next) (m:=S7.next+1) (by omega) nk7 (by omega) (Nat.le_succ _)).put (by omega) nk7 (by omega) (Nat.le_refl _)
 have kB:∀ {y n:Nat} {el:List (List V)},y<4→aC S7 y 0=.ok (n,el)→aC B y 0=.ok (n,el):=fun hy hr=>by rw [hB];exact aG (n:=S7.next+1) (by omega) (aG (n:=S7.next) (by omega) hr)
 have rB:aC B S7.next 0=.ok (3,[[.int .i64 (cD s.sess c.session c.seq).1.why,.int .i64 (cD s.sess c.session c.seq).1.number,.int .i64 (cD s.sess c.session c.seq).1.gross]]):=by rw [hB];exact aA _ _ _ _ _ _
 have e0:=kB (by decide) ra
 have e1:=kB (by decide) b1
 have e2:=kB (by decide) b2
 have e3:=kB (by decide) b3
 have hhB:(S7.heap.put S7.next (.row 0 3 [[.int .i64 0,.int .i64 0,.int .i64 0]])).put S7.next (.row 0 3 [[.int .i64 (cD s.sess c.session c.seq).1.why,.int .i64 (cD s.sess c.session c.seq).1.number,.int .i64 (cD s.sess c.session c.seq).1.gross]])=B.heap:=by rw [hB]
 have oB:∀ x y,Own E0 ⟨B.next,(B.heap.put 2 x).put 3 y⟩ 12 v (s.posted.map Posted.enc):=fun x y=>hput B v s x y stB.own fun z hz=>(bv z hz).1
 have z3:(S7.next=2)=False:=by simp;omega
 have z4:(S7.next=3)=False:=by simp;omega
 simp only [hhB,←nB,gm,e0,e1,rB,mM]
 by_cases c7:(cD s.sess c.session c.seq).2.2=0
 rotate_left
 ·have:=hout ⟨B.next+5,(B.heap.put 2 (.row 0 6 [s.cells v])).put 3 (.row 0 3 [[.int .i64 (cD s.sess c.session c.seq).2.2,.int .i64 0,.int .i64 0]])⟩ v (s,why (cD s.sess c.session c.seq).2.2) ((oB _ _).bump 5)
  simp only [c7,kk,e0,e2,e3,gm,mM,o1,o2,eG,not_false_eq_true,if_true,ne_eq]
  exact this
 cases c8:(cD s.sess c.session c.seq).2.1
 rotate_left
 ·have:=hout ⟨B.next+4,(B.heap.put 2 (.row 0 6 [s.cells v])).put 3 (.row 0 3 [[.int .i64 (cD s.sess c.session c.seq).1.why,.int .i64 (cD s.sess c.session c.seq).1.number,.int .i64 (cD s.sess c.session c.seq).1.gross]])⟩ v (s,(cD s.sess c.session c.seq).1) ((oB _ _).bump 4)
  simp only [c7,c8,kk,e0,e2,e3,rB,gm,mM,o1,o2,eG,z3,z4,not_true_eq_false,if_true,if_false,ne_eq]
  exact this
 simp only [c7,c8,kk,e0,e1,gm,not_true_eq_false,if_false,Bool.false_eq_true,ne_eq]
 obtain ⟨hq40,hqok⟩:=wW (aF0 c1)
 refine bQ4 stB c.cmd hl (by have:=b.bs;omega) (by omega) (fun p hp=>aB3 (hqok p hp).2) (by have:=b.bb;omega) fun S4 v4 st4 mv4=>?_
 have n4:=mv4.next
 obtain ⟨s',hs'⟩:∃ s',s'=(sS s c.cmd).1:=⟨_,rfl⟩
 obtain ⟨r,hr⟩:∃ r,r=(sS s c.cmd).2:=⟨_,rfl⟩
 have hdo:sS s c.cmd=(s',r):=by rw [hs',hr]
 rw [hdo] at st4 ⊢
 have v4b:∀ y,AM.blkOf v4=some y→4≤y∧y<S4.next:=fun y hy=>by
  have h2:=(cN st4.own hy).2
  rcases mv4.fresh y hy with h | h
  ·have:=bv y h;omega
  ·omega
 have kv:∀ y,y<4→AM.blkOf v≠some y:=fun y hy e=>by have:=bv y e;omega
 have f1:=aY e1 (mv4.keep 1 (by omega) (by decide) (kv 1 (by decide)))
 have f2:=aY e2 (mv4.keep 2 (by omega) (by decide) (kv 2 (by decide)))
 have f3:=aY e3 (mv4.keep 3 (by omega) (by decide) (kv 3 (by decide)))
 have nk4:AM.blkOf v4≠some S4.next:=fun e=>by have:=v4b _ e;omega
 obtain ⟨D,hD⟩:∃ D:St,D=⟨S4.next+1,(S4.heap.put S4.next (.row 0 3 [[.int .i64 0,.int .i64 0,.int .i64 0]])).put S4.next (.row 0 3 [[.int .i64 r.why,.int .i64 r.number,.int .i64 r.gross]])⟩:=⟨_,rfl⟩
 have nD:D.next=S4.next+1:=by rw [hD]
 have stD:StAt D 0 s' v4:=by rw [hD];exact (st4.put (k:=S4.next) (m:=S4.next+1) (by omega) nk4 (by omega) (Nat.le_succ _)).put (by omega) nk4 (by omega) (Nat.le_refl _)
 have kD:∀ {y n:Nat} {el:List (List V)},y<4→aC S4 y 0=.ok (n,el)→aC D y 0=.ok (n,el):=fun hy hr=>by rw [hD];exact aG (n:=S4.next+1) (by omega) (aG (n:=S4.next) (by omega) hr)
 have rD:aC D S4.next 0=.ok (3,[[.int .i64 r.why,.int .i64 r.number,.int .i64 r.gross]]):=by rw [hD];exact aA _ _ _ _ _ _
 have h1:=kD (by decide) f1
 have h2:=kD (by decide) f2
 have h3:=kD (by decide) f3
 have h0:=stD.row
 simp only [State.cells] at h0
 have p1:=stD.own.one
 have p2:=stD.own.cells
 have y2:(S4.next=2)=False:=by simp;omega
 have y3:(S4.next=3)=False:=by simp;omega
 have y0:(S4.next=0)=False:=by simp;omega
 simp only [kk,←hD,h0,h1,rD,bP6 s'.sess c.session c.seq r]
 have hend:∀ (E:St) (s9:State),E.next=D.next→Own E0 E 12 v4 (s9.posted.map Posted.enc)→aC E 0 0=.ok (6,[[.imm (s9.table.map Rate.enc),.imm (s9.ser.map Ser.enc),v4,.imm (s9.book.map Bal.enc),.imm (s9.sess.map Sess.enc),.int .i64 s9.next]])→aC E 2 0=.ok (6,[[.nils,.nils,.nils,.nils,.nils,.int .i64 0]])→aC E 3 0=.ok (3,[[.int .i64 0,.int .i64 0,.int .i64 0]])→aC E S4.next 0=.ok (3,[[.int .i64 r.why,.int .i64 r.number,.int .i64 r.gross]])→iG (s',r) c=(s9,r)→
   aHy C (fun v0 S0=>lS S0 v0=Except.ok (srV (iG (s',r) c))) (V.ptr 0 0 0 0) (V.ptr (1+1) 0 0 0) (V.ptr (1+1+1) 0 0 0) (V.ptr S4.next 0 0 0) E:=by
  intro E s9 hn o i0 i2 i3 ir hk
  have:=hout ⟨E.next+4,(E.heap.put 2 (.row 0 6 [s9.cells v4])).put 3 (.row 0 3 [[.int .i64 r.why,.int .i64 r.number,.int .i64 r.gross]])⟩ v4 (s9,r) ((hput E v4 s9 _ _ o fun z hz=>(v4b z hz).1).bump 4)
  simp only [aHy,kk,gm,i0,i2,i3,ir,eG,y2,y3,p1,p2,hk]
  exact this
 by_cases c9:(kN s'.sess c.session c.seq r).2=0
 ·have hk:iG (s',r) c=({ s' with sess:=(kN s'.sess c.session c.seq r).1 },r):=by simp only [iG,c9,if_true]
  simp only [c9,kk,if_true]
  have stE:=stD.set (s':={ s' with sess:=(kN s'.sess c.session c.seq r).1 }) rfl
  exact hend ⟨D.next,D.heap.put 0 (.row 0 6 [({ s' with sess:=(kN s'.sess c.session c.seq r).1 }:State).cells v4])⟩ _ rfl stE.own stE.row (aG (n:=D.next) (by decide) h2) (aG (n:=D.next) (by decide) h3) (aG (n:=D.next) (by omega) rD) hk
 ·have hk:iG (s',r) c=(s',r):=by simp only [iG,c9,if_false]
  simp only [c9,kk,if_false]
  exact hend D s' rfl stD.own h0 h2 h3 rD hk
end Go.Proofs.YtoaibmbldmckaaaGreat
end
section
namespace Go.AM
theorem bEm (z:List V) (parts:List (Nat×V)) (fr:Option Nat) (S:St):type_of% (bsl 17 z parts fr S (by decide)):=bsl 17 z parts fr S (by decide)
theorem bKw (z:List V) (parts:List (Nat×V)) (fr:Option Nat) (S:St):type_of% (bsl 3 z parts fr S (by decide)):=bsl 3 z parts fr S (by decide)
end Go.AM
namespace Go.Proofs.YtoaibmbldmckaaaGreat
open Go.AM Tryz
set_option linter.unusedVariables false
set_option linter.unusedSimpArgs false
set_option maxRecDepth 100000
def Call.enc (c:Call):List V:=[.int .i64 c.session,.int .i64 c.seq,.int .i64 c.cmd.kind,.str c.cmd.series,.int .i64 c.cmd.limit,.str c.cmd.row.cat,.int .i64 c.cmd.row.day.y,.int .i64 c.cmd.row.day.m,.int .i64 c.cmd.row.day.d,.int .i64 c.cmd.row.bp,.int .i64 c.cmd.day.y,.int .i64 c.cmd.day.m,.int .i64 c.cmd.day.d,.imm (c.cmd.lines.map Line.enc),.str c.cmd.of.ser,.int .i64 c.cmd.of.num,.int .i64 c.cmd.session]
theorem bEn (x:Call):x.enc.length=17∧aF x.enc=true:=⟨rfl,rfl⟩
theorem bKx (x:Line):x.enc.length=4∧aF x.enc=true:=⟨rfl,rfl⟩
theorem bQ6 (x:Rep):x.enc.length=3∧aF x.enc=true:=⟨rfl,rfl⟩
theorem aW6 {l:List Call} {i:Nat} {a:Call} (hi:l[i]?=some a) (k:IntKind):fI 17 (.imm (l.map Call.enc)) (.int k (i:Int))=.ok (.iptr a.enc 0):=ixI (enc:=Call.enc) hi rfl k
theorem bKy (l:List Line) (hi:15≤l.length):iY prog 55 (.imm (l.map Line.enc)) none (some (.int .i64 15))=.ok (.imm ((l.take 15).map Line.enc)):=by
 have hb:fO (l.map Line.enc).length none (some (.int .i64 15))=.ok (0,15):=by
  have:(decide ((0:Int)≤15)&&decide ((15:Int)≤((l.map Line.enc).length:Int)))=true:=by simp;omega
  simp only [fO,this,cond_true]
  rfl
 rw [bIv _ (dA (n:=4) (fun c hc=>by obtain ⟨x,_,rfl⟩:=List.mem_map.1 hc;exact bKx x)).1,hb]
 simp only [List.drop_zero,Nat.sub_zero,List.map_take]
def aPf {α β:Type} (f:α→β) (s:List β) (a:α):List β⊕List β:=.inr (s++[f a])
theorem aGc {α β:Type} (f:α→β):∀ (l:List α) (s:List β),aE (aPf f) id l s=s++l.map f
 | [],s=>by simp [aE]
 | a::l,s=>by simp only [aE,aPf];rw [aGc f l];simp
theorem g30 (l:List Call) (n:Nat) (hn:n≤1000) (S:St) (K:KW):C 30 [.imm (l.map Call.enc),.int .i64 (n:Int)] S K=K (.imm ((lW l n).map Call.enc)) S:=by
 refine (v30 rfl ?_).eq S K
 simp only [m30]
 have htl:(l.take n).length≤n:=by rw [List.length_take];omega
 have htl2:(l.take n).length≤l.length:=by rw [List.length_take];omega
 refine aH (l.take n) (step:=aPf rW) (fin:=id) (fun i s vs S=>∃ v,vs=[v,.int .i64 (i:Int)]∧Own E0 S 17 v (s.map Call.enc)∧WF S∧s.length=i) (fun r=>r=lW l n) ?_ ?_ (s:=[]) ⟨_,rfl,Own.nil _ _ _,pF,rfl⟩ (by rw [aGc];rfl)
 ·rintro i c s vs S hi ⟨v,rfl,own,w,hsl⟩ aD H
  have hil:=(List.getElem?_eq_some_iff.1 hi).1
  have hi':l[i]?=some c:=by rw [List.getElem?_take,if_pos (by omega)] at hi;exact hi
  have hlt:((i:Int)<(n:Int))=True:=by simp;omega
  simp only [aPf] at H
  obtain ⟨S1,hS1⟩:∃ S1:St,S1=⟨S.next+1,(S.heap.put S.next (.row 0 17 [[.int .i64 0,.int .i64 0,.int .i64 0,.str [],.int .i64 0,.str [],.int .i64 0,.int .i64 0,.int .i64 0,.int .i64 0,.int .i64 0,.int .i64 0,.int .i64 0,.nils,.str [],.int .i64 0,.int .i64 0]])).put S.next (.row 0 17 [c.enc])⟩:=⟨_,rfl⟩
  have x1:Ext S S1:=by rw [hS1];exact Ext.var w 17 _ _
  have n1:S1.next=S.next+1:=by rw [hS1]
  have r1:aC S1 S.next 0=.ok (17,[c.enc]):=by rw [hS1];exact aA _ _ _ _ _ _
  simp only [Call.enc] at r1 hS1
  have hj:∀ X:St,Own E0 X 17 v (s.map Call.enc)→WF X→aC X S.next 0=.ok (17,[(rW c).enc])→aHw C (fun v0 S0=>lS S0 v0=Except.ok (V.imm (List.map Call.enc (lW l n)))) aD (.imm (l.map Call.enc)) (.int .i64 (n:Int)) v (.int .i64 (i:Int)) (.ptr S.next 0 0 0) X:=by
   intro X o wX hr
   obtain ⟨v',S',q1,q2,q3,_⟩:=aVz (b:=176) o wX (cs:=[(rW c).enc]) (fun d hd=>by rcases List.mem_singleton.1 hd with rfl;exact bEn _) (by simp) (by simp;omega) (by simp [eD];omega)
   simp only [Call.enc] at hr q1
   simp only [aHw,kk,hr,bEm,jO (show i<1000000000 by omega)]
   simp only [kk] at q1
   simp only [q1,kk]
   exact H _ _ ⟨v',rfl,by rw [List.map_append];exact q2,q3,by simp;omega⟩
  have own1:=own.ext x1
  have w1:=x1.wf w
  simp only [aHx,kk,bO hi',hlt,if_true,aW6 hi',Call.enc,←hS1,r1]
  by_cases h15:15<c.cmd.lines.length
  ·have z:∀ (m:Nat) (b:Blk),Own E0 ⟨m,S1.heap.put S.next b⟩ 17 v (s.map Call.enc)→True:=fun _ _ _=>trivial
   simp only [show (15:Int)<(c.cmd.lines.length:Int) by omega,kk,if_true,bKy c.cmd.lines (by omega),r1]
   refine hj ⟨S1.next,S1.heap.put S.next (.row 0 17 [(rW c).enc])⟩ (own1.same (Nat.le_refl _) fun y hy=>Tr.get_put_neB _ _ _ _ trivial fun e=>?_) (jN (n:=S1.next) w1 (by omega) (Nat.le_refl _)) (aA _ _ _ _ _ _)
   have:=(cN own hy).2
   omega
  ·have hcc:(rW c).enc=c.enc:=by
    have:c.cmd.lines.take 15=c.cmd.lines:=List.take_of_length_le (by omega)
    simp only [rW,Call.enc,this]
   simp only [show ¬ (15:Int)<(c.cmd.lines.length:Int) by omega,kk,if_false]
   exact hj S1 own1 w1 (by rw [hcc];exact r1)
 ·rintro s vs S ⟨v,rfl,own,w,hsl⟩ aD H
  have H:s=lW l n:=H
  have ho:=own.out fun _=>rfl
  rw [H] at ho
  by_cases c1:l.length≤n
  ·have he:(l.take n).length=l.length:=by rw [List.length_take];omega
   simp only [aHx,kk,he,Int.lt_irrefl,if_false,oo,ho]
  ·have he:(l.take n).length=n:=by rw [List.length_take];omega
   have hlt:(n:Int)<(l.length:Int):=by omega
   simp only [aHx,kk,he,hlt,if_true,Int.lt_irrefl,if_false,oo,ho]
end Go.Proofs.YtoaibmbldmckaaaGreat
end
section
namespace Go.Proofs.YtoaibmbldmckaaaGreat
open Go.AM Tryz
theorem a33 {S:St} {s:State} {pv:V} (h:pv=.imm (s.posted.map Posted.enc)∨Own E0 S 12 pv (s.posted.map Posted.enc)) (c:Call) (b:Bnd s) (hl:c.cmd.lines.length<1000000):∃ h':Tr Blk,(∀ y,AM.blkOf pv≠some y→h'.get y=S.heap.get y)∧∀ K,C 33 [.agg [.imm (s.table.map Rate.enc),.imm (s.ser.map Ser.enc),pv,.imm (s.book.map Bal.enc),.imm (s.sess.map Sess.enc),.int .i64 s.next],
  .agg [.int .i64 c.session,.int .i64 c.seq,.int .i64 c.cmd.kind,.str c.cmd.series,.int .i64 c.cmd.limit,.str c.cmd.row.cat,.int .i64 c.cmd.row.day.y,.int .i64 c.cmd.row.day.m,.int .i64 c.cmd.row.day.d,.int .i64 c.cmd.row.bp,.int .i64 c.cmd.day.y,.int .i64 c.cmd.day.m,.int .i64 c.cmd.day.d,.imm (c.cmd.lines.map Line.enc),.str c.cmd.of.ser,.int .i64 c.cmd.of.num,.int .i64 c.cmd.session]] S K=K (srV (eP s c)) ⟨S.next,h'⟩:=by
 rcases h with rfl | h
 ·exact ⟨S.heap,fun _ _=>rfl,fun K=>g33 s c b hl S K⟩
 ·obtain ⟨h1,h2⟩:=h.in3 (fun _=>rfl) (x:=.imm (s.table.map Rate.enc)) (y:=.imm (s.ser.map Ser.enc)) (bs:=[.imm (s.book.map Bal.enc),.imm (s.sess.map Sess.enc),.int .i64 s.next]) rfl rfl rfl
  have hf:=h.out fun _=>rfl
  obtain ⟨h',hk,hC⟩:=(Fn.back fun S K=>g33 s c b hl S K).cutE (S:=S) (args:=[.agg [.imm (s.table.map Rate.enc),.imm (s.ser.map Ser.enc),pv,.imm (s.book.map Bal.enc),.imm (s.sess.map Sess.enc),.int .i64 s.next],.agg c.enc]) bO6 rfl (by simp only [frzVs,cF,hf,Call.enc]) (by simp only [ptrsVs,nF,h.ptrs,Call.enc];rfl)
  refine ⟨h',fun y hy=>hk y fun hm=>?_,hC⟩
  simp only [slsVs,dX,Call.enc,List.nil_append,List.append_nil] at hm
  exact hy (h.blks (aO (fun _=>rfl) _) 2 hm)
theorem g35 (s:State) (l:List Call) (sm:Sml s) (hll:l.length<100000) (hl:∀ c∈l,c.cmd.lines.length<1000000) (S:St) (K:KW):C 35 [.agg [.imm (s.table.map Rate.enc),.imm (s.ser.map Ser.enc),.imm (s.posted.map Posted.enc),.imm (s.book.map Bal.enc),.imm (s.sess.map Sess.enc),.int .i64 s.next],.imm (l.map Call.enc)] S K=
  K (.tup [.agg [.imm ((playM s l).1.table.map Rate.enc),.imm ((playM s l).1.ser.map Ser.enc),.imm ((playM s l).1.posted.map Posted.enc),.imm ((playM s l).1.book.map Bal.enc),.imm ((playM s l).1.sess.map Sess.enc),.int .i64 (playM s l).1.next],.imm ((playM s l).2.map Rep.enc)]) S:=by
 refine (v35 rfl ?_).eq S K
 obtain ⟨A,hA⟩:∃ A:St,A=⟨1+1,(Tr.nil.put 0 (.row 0 6 [s.enc])).put 1 (.row 0 6 [zst])⟩:=⟨_,rfl⟩
 have wA:WF A:=by rw [hA];exact jN (n:=1) (jN pF (by decide) (by decide)) (by decide) (by decide)
 have nA:A.next=2:=by rw [hA]
 have r0:aC A 0 0=.ok (6,[s.enc]):=by rw [hA];rfl
 have r1:aC A 1 0=.ok (6,[zst]):=by rw [hA];rfl
 simp only [State.enc] at r0 hA
 simp only [zst] at hA
 delta Tryz.f35;simp only [↓cw,↓reduceIte,Nat.reduceLT,kk,←hA,r0]
 refine bKv wA s sm.bnd fun v S6 x6 own6=>?_
 have n6:2≤S6.next:=by have:=x6.next;omega
 have w6:=x6.wf wA
 have bv:∀ y,AM.blkOf v=some y→2≤y∧y<S6.next:=fun y hy=>by have:=cN own6 hy;omega
 have a0:=x6.row r0
 have a1:=x6.row r1
 have own6:=own6.weaken (A:=E0) (Nat.zero_le _)
 have o1:=own6.one
 have o2:=own6.cells
 simp only [↓cw,↓reduceIte,Nat.reduceLT,kk,a0,o1,o2]
 refine aH l (step:=aP7) (fin:=id) (fun i st vs S'=>∃ u pv,vs=[u,.int .i64 (i:Int)]∧WF S'∧2≤S'.next∧Own E0 S' 3 u (st.2.map Rep.enc)∧st.2.length=i∧Sml st.1∧aC S' 0 0=.ok (6,[st.1.cells pv])∧aC S' 1 0=.ok (6,[zst])∧(pv=.imm (st.1.posted.map Posted.enc)∨Own E0 S' 12 pv (st.1.posted.map Posted.enc))∧pv.one=true∧pv.cells=[pv]∧(∀ y,AM.blkOf pv=some y→2≤y∧AM.blkOf u≠some y)∧(∀ y,AM.blkOf u=some y→2≤y))
  (fun r=>r=playM s l) ?_ ?_ (s:=(s,[])) ⟨.nils,v,rfl,jN (n:=S6.next) w6 (by omega) (Nat.le_refl _),n6,Own.nil _ _ _,rfl,sm,aA _ _ _ _ _ _,aG (n:=S6.next) (by decide) a1,.inr (own6.same (Nat.le_refl _) fun y hy=>Tr.get_put_neB _ _ _ _ trivial (by have:=bv y hy;omega)),o1,o2,fun y hy=>⟨(bv y hy).1,fun h=>by cases h⟩,fun y hy=>by cases hy⟩ (by rw [aG9];rfl)
 ·rintro i c ⟨s1,rs⟩ vs S1 hi ⟨u,pv,rfl,w,h2,ou,hrl,sm1,i0,i1,hpv,p1,p2,hb,hbu⟩ aD H
  have hil:=(List.getElem?_eq_some_iff.1 hi).1
  have hrl:rs.length=i:=hrl
  simp only [aP7,iU] at H
  obtain ⟨B,hB⟩:∃ B:St,B=⟨S1.next+1+1,((S1.heap.put S1.next (.row 0 17 [bJn])).put S1.next (.row 0 17 [c.enc])).put (S1.next+1) (.row 0 3 [[.int .i64 0,.int .i64 0,.int .i64 0]])⟩:=⟨_,rfl⟩
  have nB:B.next=S1.next+2:=by rw [hB]
  have wB:WF B:=by rw [hB];exact jN (n:=S1.next+1) (jN (n:=S1.next+1) (jN (n:=S1.next) w (by omega) (by omega)) (by omega) (Nat.le_refl _)) (by omega) (by omega)
  have kB:∀ y,y<S1.next→B.heap.get y=S1.heap.get y:=fun y hy=>by
   rw [hB]
   show (((S1.heap.put S1.next _).put S1.next _).put (S1.next+1) _).get y=_
   rw [Tr.get_put_neB _ _ _ _ trivial (by omega),Tr.get_put_neB _ _ _ _ trivial (by omega),Tr.get_put_neB _ _ _ _ trivial (by omega)]
  have j0:=aY i0 (kB 0 (by omega))
  have j1:=aY i1 (kB 1 (by omega))
  have jc:aC B S1.next 0=.ok (17,[c.enc]):=by rw [hB];exact aG (n:=S1.next+1) (by omega) (aA _ _ _ _ _ _)
  have jr:aC B (S1.next+1) 0=.ok (3,[[.int .i64 0,.int .i64 0,.int .i64 0]]):=by rw [hB];exact aA _ _ _ _ _ _
  have ouB:Own E0 B 3 u (rs.map Rep.enc):=ou.same (by omega) fun y hy=>kB y (cN ou hy).2
  have hpB:pv=.imm (s1.posted.map Posted.enc)∨Own E0 B 12 pv (s1.posted.map Posted.enc):=by
   rcases hpv with h | h
   ·exact .inl h
   ·exact .inr (h.same (by omega) fun y hy=>kB y (cN h hy).2)
  have hpl:∀ y,AM.blkOf pv=some y→y<S1.next:=fun y hy=>by
   rcases hpv with h | h
   ·rw [h] at hy;cases hy
   ·exact (cN h hy).2
  obtain ⟨h',hk,hC⟩:=a33 hpB c sm1.bnd (hl c (List.mem_of_getElem? hi))
  have wD:WF ⟨B.next,h'⟩:=fun y b hy=>by
   by_cases e:AM.blkOf pv=some y
   ·have:=hpl y e;show y<B.next;omega
   ·exact wB y b (by rw [←hk y e];exact hy)
  have d0:aC ⟨B.next,h'⟩ 0 0=.ok (6,[s1.cells pv]):=aY j0 (hk 0 fun e=>by have:=hb _ e;omega)
  have d1:aC ⟨B.next,h'⟩ 1 0=.ok (6,[zst]):=aY j1 (hk 1 fun e=>by have:=hb _ e;omega)
  have dr:aC ⟨B.next,h'⟩ (S1.next+1) 0=.ok (3,[[.int .i64 0,.int .i64 0,.int .i64 0]]):=aY jr (hk _ fun e=>by have:=hpl _ e;omega)
  have oD:Own E0 ⟨B.next,h'⟩ 3 u (rs.map Rep.enc):=ouB.same (Nat.le_refl _) fun y hy=>hk y fun e=>(hb y e).2 hy
  simp only [bJn,Call.enc] at hB
  simp only [Call.enc] at jc
  simp only [State.cells] at j0 d0
  simp only [↓cw,↓reduceIte,Nat.reduceLT,kk,bO hi,aW6 hi,Call.enc,←hB,j0,jc,p1,p2,hC,srV,d0,dr,eG,bKw,jO (show i<1000000000 by omega),show (S1.next+1=0)=False by simp]
  obtain ⟨s2,hs2⟩:∃ s2,s2=(eP s1 c).1:=⟨_,rfl⟩
  obtain ⟨r,hr⟩:∃ r,r=(eP s1 c).2:=⟨_,rfl⟩
  have sm2:Sml s2:=by rw [hs2];exact aMr sm1 c
  simp only [←hs2,←hr] at H ⊢
  obtain ⟨E,hE⟩:∃ E:St,E=⟨B.next,(h'.put 0 (.row 0 6 [s2.enc])).put (S1.next+1) (.row 0 3 [r.enc])⟩:=⟨_,rfl⟩
  have wE:WF E:=by rw [hE];exact jN (n:=B.next) (jN (n:=B.next) wD (by omega) (Nat.le_refl _)) (by omega) (Nat.le_refl _)
  have nE:E.next=B.next:=by rw [hE]
  have hul:∀ y,AM.blkOf u=some y→y<S1.next:=fun y hy=>(cN ou hy).2
  have oE:Own E0 E 3 u (rs.map Rep.enc):=by
   rw [hE]
   exact oD.same (Nat.le_refl _) fun y hy=>by
    have h1:=hul y hy
    have h2:=hbu y hy
    show ((h'.put 0 _).put (S1.next+1) _).get y=_
    rw [Tr.get_put_neB _ _ _ _ trivial (by omega),Tr.get_put_neB _ _ _ _ trivial (by omega)]
  have k0:aC E 0 0=.ok (6,[s2.enc]):=by rw [hE];exact aG (n:=B.next) (by omega) (aA _ _ _ _ _ _)
  have k1:aC E 1 0=.ok (6,[zst]):=by rw [hE];exact aG (n:=B.next) (by omega) (aG (n:=B.next) (by decide) d1)
  obtain ⟨u',F,q1,q2,q3,q4⟩:=aVz (b:=24) oE wE (cs:=[r.enc]) (fun d hd=>by rcases List.mem_singleton.1 hd with rfl;exact bQ6 _) (by simp) (by simp;omega) (by simp [eD];omega)
  have hu':∀ y,AM.blkOf u'=some y→2≤y:=fun y hy=>by
   have hnn:∀ z,z<2→F.heap.get z=E.heap.get z:=fun z hz=>q4 z (by omega) fun a ver m hv e=>by have:=hbu a (by rw [hv];rfl);omega
   rcases q2.is with ⟨rfl,_⟩ | ⟨a',ver',tl,rfl,_,hlt,hg⟩
   ·cases hy
   ·cases hy
    rcases Nat.lt_or_ge y 2 with h | h
    ·rw [hnn y h] at hg
     have:y=0∨y=1:=by omega
     rcases this with rfl | rfl
     ·rw [zH k0] at hg;cases hg
     ·rw [zH k1] at hg;cases hg
    ·exact h
  have l0:aC F 0 0=.ok (6,[s2.enc]):=aY k0 (q4 0 (by omega) fun a ver m hv e=>by have:=hbu a (by rw [hv];rfl);omega)
  have l1:aC F 1 0=.ok (6,[zst]):=aY k1 (q4 1 (by omega) fun a ver m hv e=>by have:=hbu a (by rw [hv];rfl);omega)
  have hFn:2≤F.next:=by have:=q3 0 _ (zH l0);have:=q3 1 _ (zH l1);omega
  subst hE
  simp only [↓cw,↓reduceIte,Nat.reduceLT,State.enc,Rep.enc,kk] at q1
  simp only [↓cw,↓reduceIte,Nat.reduceLT,q1,kk]
  exact H _ _ ⟨u',.imm (s2.posted.map Posted.enc),rfl,q3,hFn,by rw [List.map_append];exact q2,by simp;omega,sm2,l0,l1,.inl rfl,rfl,rfl,(fun y hy=>(by cases hy)),hu'⟩
 ·rintro ⟨s1,rs⟩ vs S1 ⟨u,pv,rfl,w,h2,ou,hrl,sm1,i0,i1,hpv,p1,p2,hb,hbu⟩ aD H
  have H':playM s l=(s1,rs):=H.symm
  simp only [State.cells] at i0
  simp only [zst] at i1
  simp only [↓cw,↓reduceIte,Nat.reduceLT,kk,Int.lt_irrefl,if_false,i0,i1,eG,p1,p2,H']
  have hu1:cF jL (jU (gO ⟨S1.next,S1.heap.put 1 (.row 0 6 [s1.cells pv])⟩ 3) ⟨S1.next,S1.heap.put 1 (.row 0 6 [s1.cells pv])⟩) u=.ok (.imm (rs.map Rep.enc)):=(ou.same (S':=⟨S1.next,S1.heap.put 1 (.row 0 6 [s1.cells pv])⟩) (Nat.le_refl _) fun y hy=>Tr.get_put_neB _ _ _ _ trivial (by have:=hbu y hy;omega)).out fun _=>rfl
  have hu2:cF jL (jU (gO ⟨S1.next,S1.heap.put 1 (.row 0 6 [s1.cells pv])⟩ 3) ⟨S1.next,S1.heap.put 1 (.row 0 6 [s1.cells pv])⟩) pv=.ok (.imm (s1.posted.map Posted.enc)):=by
   rcases hpv with rfl | h
   ·rfl
   ·exact (h.same (S':=⟨S1.next,S1.heap.put 1 (.row 0 6 [s1.cells pv])⟩) (Nat.le_refl _) fun y hy=>Tr.get_put_neB _ _ _ _ trivial (by have:=hb y hy;omega)).out fun _=>rfl
  simp only [State.cells] at hu1 hu2
  simp only [oo,hu1,hu2]
end Go.Proofs.YtoaibmbldmckaaaGreat
end
section
namespace Go.AM
open Go.RowKit Go.ChangeShapes
section
def Gh.all (W:World):Gh:={ Gh.none with pr:=fun b=>W.heap[b]? }
theorem aZ1 (W:World):eQ (fun i=>W.heap[i]?) (Gh.all W) St.empty W.heap:=
 ⟨fun _ _=>⟨rfl,rfl⟩,fun _ _ h=>(by cases h),fun a b h=>(by cases h),fun a a' b b' i h=>(by cases h),fun i o h=>h,fun i o h=>h,fun a b i h=>(by cases h),
  fun a i h=>(by rcases h with ⟨L,h,_⟩ | h<;>cases h),fun a b h=>(by cases h)⟩
theorem aKe {P:Program} {pl:iQ} (hp:PlansOK P pl) {k:Nat} {f:FuncId} {args:List V} {S':St} (h:eF P pl k f args St.empty=.ok (.bool true,S')) (W:World) {cs:List Value} (hc:VRs (Gh.all W) args cs):
  Calls P f cs.toArray W fun e W'=>e=.returned (.bool true)∧Below W.heap.size W W':=by
 refine ((tF hp k).calls h (aZ1 W) hc).mono ?_
 rintro e W' ⟨G',w,rfl,q1,q2⟩
 cases q2
 refine ⟨rfl,q1.same.os,q1.same.tape,q1.same.output,q1.same.size,fun i hi=>?_⟩
 have:=Array.getElem?_eq_getElem hi
 rw [this]
 exact q1.rel.fr i _ this
def aL (P:Program):Nat→TypeId→List V→Prop
 | 0,_,_=>False
 | n+1,t,xs=>match P.underlying t with
  | some .bool=>∃ b,xs=[.bool b]
  | some (.int k)=>∃ i,xs=[.int k i]∧(Lit.int k i).wf=true
  | some .string=>∃ s,xs=[.str s]∧s.length≤maxLen
  | some (.slice e)=>∃ es,xs=[.imm es]∧es.length≤maxLen∧∀ c,c∈es→c.length=P.cellsOf e∧aL P n e c
  | some (.struct fs)=>xs.length=P.cellsOf t∧∀ f,f∈fs.toList→aL P n f.type ((xs.drop f.offset).take (P.cellsOf f.type))
  | _=>False
def aPg (P:Program):List Field→Nat→Nat→Bool
 | [],o,e=>Nat.beq o e
 | f::l,o,e=>Nat.beq f.offset o&&aPg P l (o+P.cellsOf f.type) e
def xC (P:Program):Nat→TypeId→Bool
 | 0,_=>false
 | d+1,t=>match P.underlying t with
  | some .bool=>true
  | some (.int _)=>true
  | some .string=>true
  | some (.slice e)=>Nat.blt 0 (P.cellsOf e)&&xC P d e
  | some (.struct fs)=>aPg P fs.toList 0 (P.cellsOf t)&&fs.toList.all fun f=>xC P d f.type
  | _=>false
theorem aPh {α:Type} {Q:Nat→α→Prop}:∀ n,(∀ i,i<n→∃ a,Q i a)→∃ l:List α,l.length=n∧∀ i a,l[i]?=some a→Q i a
 | 0,_=>⟨[],rfl,fun i a h=>by simp at h⟩
 | n+1,h=>by
  obtain ⟨l,h1,h2⟩:=aPh n fun i hi=>h i (by omega)
  obtain ⟨a,ha⟩:=h n (by omega)
  refine ⟨l++[a],by simp [h1],fun i x hx=>?_⟩
  by_cases c:i<n
  ·rw [List.getElem?_append_left (by omega)] at hx;exact h2 i x hx
  ·have hi:i<(l++[a]).length:=(List.getElem?_eq_some_iff.1 hx).1
   simp only [List.length_append,List.length_cons,List.length_nil] at hi
   have:i=n:=by omega
   subst this
   rw [List.getElem?_append_right (by omega),h1,Nat.sub_self] at hx
   cases hx;exact ha
theorem VRss.of {G:Gh}:∀ {l:List (List V×List Value)},(∀ x,x∈l→VRs G x.1 x.2)→VRss G (l.map (·.1)) (l.map (·.2))
 | [],_=>.nil
 | x::l,h=>.cons _ _ _ _ (h x (List.mem_cons_self ..)) (VRss.of fun y hy=>h y (List.mem_cons_of_mem _ hy))
section
variable {H:Type} {enc:TypeId×Value→H} {P:Program} {W:World} {sp:Nat→Bool} {held:Bool}
theorem bDg {n:Nat} {cs:List Value} (ih:∀ (t:TypeId) (cs:List Value) (x:DataW H×List MemPlace) (d:Nat),xC P d t=true→DataW.trod enc P W 0 sp held n t cs=some x→∃ xs,VRs (Gh.all W) xs cs∧aL P n t xs) {d:Nat}:
  ∀ (l:List Field) (o e:Nat),aPg P l o e=true→e≤cs.length→(∀ f,f∈l→xC P d f.type=true∧∃ x,DataW.trod enc P W 0 sp held n f.type ((cs.drop f.offset).take (P.cellsOf f.type))=some x)→
   o≤e∧∃ xs,VRs (Gh.all W) xs ((cs.drop o).take (e - o))∧∀ f,f∈l→o≤f.offset∧aL P n f.type ((xs.drop (f.offset - o)).take (P.cellsOf f.type))
 | [],o,e,h,he,_=>by
  have:o=e:=Nat.eq_of_beq_eq_true h
  subst this
  exact ⟨Nat.le_refl _,[],by rw [Nat.sub_self];exact .nil,fun _ h=>by cases h⟩
 | f::l,o,e,h,he,hf=>by
  simp only [aPg,Bool.and_eq_true] at h
  have h0:f.offset=o:=Nat.eq_of_beq_eq_true h.1
  obtain ⟨hle,xs,hv,hs⟩:=bDg ih l (o+P.cellsOf f.type) e h.2 he (fun g hg=>hf g (List.mem_cons_of_mem _ hg))
  obtain ⟨hpl,x,hx⟩:=hf f (List.mem_cons_self ..)
  obtain ⟨ys,hy,hsy⟩:=ih _ _ _ d hpl hx
  rw [h0] at hy
  have hyl:ys.length=P.cellsOf f.type:=by rw [hy.length,List.length_take,List.length_drop];omega
  refine ⟨by omega,ys++xs,?_,fun g hg=>?_⟩
  ·have:(cs.drop o).take (e - o)=(cs.drop o).take (P.cellsOf f.type)++(cs.drop (o+P.cellsOf f.type)).take (e - (o+P.cellsOf f.type)):=by
    rw [←List.drop_drop,←List.take_add]
    congr 1
    omega
   rw [this]
   exact hy.append hv
  ·rcases List.mem_cons.1 hg with rfl | hg
   ·refine ⟨by omega,?_⟩
    rw [h0,Nat.sub_self,List.drop_zero,List.take_append_of_le_length (by omega),List.take_of_length_le (by omega)]
    exact hsy
   ·obtain ⟨h1,h2⟩:=hs g hg
    refine ⟨by omega,?_⟩
    rw [List.drop_append,List.drop_eq_nil_of_le (by omega),List.nil_append,hyl]
    have:g.offset - o - P.cellsOf f.type=g.offset - (o+P.cellsOf f.type):=by omega
    rw [this]
    exact h2
theorem aAa {a:Addr} {n:Nat} {r:List Value} (h:W.cells? 0 a n=some r):r.length=n∧∀ k v,r[k]?=some v→W.cell? (a.add k)=some v:=by
 unfold World.cells? at h
 rw [if_pos (Nat.zero_le _)] at h
 have hl:=mapM_some_length h
 rw [List.length_range] at hl
 refine ⟨hl,fun k v hk=>?_⟩
 have hkn:k<n:=by have:=(List.getElem?_eq_some_iff.1 hk).1;omega
 have:=mapM_some_get h k k (by rw [List.getElem?_range hkn])
 rw [this,hk]
theorem aPi {a:Addr} {v:Value} (h:W.cell? a=some v):∃ c ty fr,W.heap[a.block]?=some (.cells c ty fr)∧a.spot=none∧c[a.off]?=some v:=by
 unfold World.cell? at h
 split at h
 ·rename_i c ty fr hc
  split at h
  ·cases h
  ·rename_i hs
   exact ⟨c,ty,fr,hc,by simpa using hs,h⟩
 ·cases h
theorem aGd (a:Addr) (n:Nat):(a.add n).block=a.block:=by
 unfold Addr.add
 split<;>rfl
theorem aPj (a:Addr) (n:Nat):(a.add n).off=a.off+n:=by
 unfold Addr.add
 split
 ·rename_i h;rw [h,Nat.add_zero]
 ·rfl
theorem aGe (a:Addr):a.add 0=a:=by unfold Addr.add;rw [if_pos rfl]
theorem aMu:∀ (n:Nat) (t:TypeId) (cs:List Value) (x:DataW H×List MemPlace) (d:Nat),xC P d t=true→DataW.trod enc P W 0 sp held n t cs=some x→∃ xs,VRs (Gh.all W) xs cs∧aL P n t xs
 | 0,t,cs,x,d,_,h=>by simp [DataW.trod] at h
 | n+1,t,cs,x,0,hp,h=>by cases hp
 | n+1,t,cs,x,d+1,hp,h=>by
  simp only [xC] at hp
  split at hp
  ·rename_i ht
   obtain ⟨b,rfl,_⟩:=DataW.trod_bool ht h
   exact ⟨[.bool b],.cons _ _ _ _ (.bool b) .nil,by simp only [aL,ht];exact ⟨b,rfl⟩⟩
  ·rename_i k ht
   obtain ⟨i,rfl,_,hw⟩:=DataW.trod_int ht h
   exact ⟨[.int k i],.cons _ _ _ _ (.int k i) .nil,by simp only [aL,ht];exact ⟨i,rfl,hw⟩⟩
  ·rename_i ht
   obtain ⟨s,rfl,_,hs⟩:=DataW.trod_string ht h
   refine ⟨[.str s.data.toList],.cons _ _ _ _ (.str s.data.toList) .nil,?_⟩
   simp only [aL,ht]
   exact ⟨_,rfl,hs⟩
  ·rename_i e ht
   simp only [Bool.and_eq_true,Nat.blt_eq] at hp
   rcases DataW.trod_slice ht h with ⟨rfl,_⟩ | ⟨a,len,cap,elems,rest,m,hm,rfl,_,_,hlc,hcap,hel,hget,_,_⟩
   ·exact ⟨[.imm []],.cons _ _ _ _ .imm0 .nil,by simp only [aL,ht];exact ⟨[],rfl,Nat.zero_le _,fun c hc=>by cases hc⟩⟩
   ·have hm:m=n:=by omega
    subst hm
    obtain ⟨l,hl,hq⟩:=aPh (Q:=fun i (y:List V×List Value)=>W.cells? 0 (a.add (i*P.cellsOf e)) (P.cellsOf e)=some y.2∧VRs (Gh.all W) y.1 y.2∧aL P m e y.1) len (fun i hi=>by
     have h1:=hget i hi
     rw [List.getElem?_eq_getElem (by omega:i<elems.length)] at h1
     rw [Option.bind_eq_some_iff] at h1
     obtain ⟨r,h2,h3⟩:=h1
     obtain ⟨c,h4,h5⟩:=aMu m e r _ d hp.2 h3
     exact ⟨(c,r),h2,h4,h5⟩)
    have hlen:∀ y,y∈l→y.1.length=P.cellsOf e∧y.2.length=P.cellsOf e:=fun y hy=>by
     obtain ⟨i,hi⟩:=List.mem_iff_getElem?.1 hy
     obtain ⟨h1,h2,_⟩:=hq i y hi
     have:=(aAa h1).1
     exact ⟨by rw [h2.length];exact this,this⟩
    refine ⟨[.imm (l.map (·.1))],.cons _ _ _ _ (.imm _ a len cap (P.cellsOf e) (by rw [List.length_map,hl]) hlc (l.map (·.2)) (VRss.of fun y hy=>?_) (fun c hc=>?_) ?_) .nil,?_⟩
    ·obtain ⟨i,hi⟩:=List.mem_iff_getElem?.1 hy
     exact (hq i y hi).2.1
    ·obtain ⟨y,hy,rfl⟩:=List.mem_map.1 hc
     exact (hlen y hy).1
    ·by_cases h0:len=0
     ·exact .inl h0
     ·right
      obtain ⟨y0,hy0⟩:∃ y0,l[0]?=some y0:=⟨l[0]'(by omega),List.getElem?_eq_getElem (by omega)⟩
      obtain ⟨h1,_,_⟩:=hq 0 y0 hy0
      rw [Nat.zero_mul,aGe] at h1
      obtain ⟨hyl,hcell⟩:=aAa h1
      obtain ⟨v0,hv0⟩:∃ v0,y0.2[0]?=some v0:=⟨y0.2[0]'(by omega),List.getElem?_eq_getElem (by omega)⟩
      have hc0:=hcell 0 v0 hv0
      rw [aGe] at hc0
      obtain ⟨c,ty,fr,hh,hs,_⟩:=aPi hc0
      refine ⟨c,ty,fr,hh,hs,fun i r hr k v hk=>?_⟩
      rw [List.getElem?_map] at hr
      obtain ⟨y,hy,rfl⟩:∃ y,l[i]?=some y∧y.2=r:=by
       cases hy:l[i]? with
       | none=>rw [hy] at hr;cases hr
       | some y=>rw [hy] at hr;exact ⟨y,rfl,Option.some.inj hr⟩
      obtain ⟨h2,_,_⟩:=hq i y hy
      obtain ⟨c',ty',fr',hh',_,hv⟩:=aPi ((aAa h2).2 k v hk)
      rw [aGd,aGd,hh] at hh'
      rw [aPj,aPj] at hv
      cases hh'
      exact hv
    ·simp only [aL,ht]
     refine ⟨_,rfl,by rw [List.length_map,hl];omega,fun c hc=>?_⟩
     obtain ⟨y,hy,rfl⟩:=List.mem_map.1 hc
     obtain ⟨i,hi⟩:=List.mem_iff_getElem?.1 hy
     exact ⟨(hlen y hy).1,(hq i y hi).2.2⟩
  ·rename_i fs ht
   simp only [Bool.and_eq_true,List.all_eq_true] at hp
   obtain ⟨xs,m,hm,_,hcl,hxl,hf⟩:=DataW.trod_struct ht h
   have hm:m=n:=by omega
   subst hm
   obtain ⟨_,ys,h1,h2⟩:=bDg (enc:=enc) (sp:=sp) (held:=held) (cs:=cs) (fun t cs x d=>aMu m t cs x d) fs.toList 0 (P.cellsOf t) hp.1 (Nat.le_of_eq hcl.symm) (fun f hfm=>by
    refine ⟨hp.2 f hfm,?_⟩
    obtain ⟨i,hi⟩:=List.mem_iff_getElem?.1 hfm
    have hi':fs[i]?=some f:=by simpa using hi
    rw [hf i f hi']
    have:i<xs.length:=by
     rw [hxl]
     by_cases c:i<fs.size
     ·exact c
     ·rw [Array.getElem?_eq_none (by omega)] at hi';cases hi'
    exact ⟨_,List.getElem?_eq_getElem this⟩)
   rw [Nat.sub_zero,List.drop_zero,List.take_of_length_le (by omega)] at h1
   refine ⟨ys,h1,?_⟩
   simp only [aL,ht]
   refine ⟨by rw [h1.length,hcl],fun f hfm=>?_⟩
   have:=(h2 f hfm).2
   rwa [Nat.sub_zero] at this
  ·cases hp
end
end
end Go.AM
end
section
namespace Go.AM
open Go.ChangeShapes Go.WideShapes Go.ChangeAt Go.RowKit
theorem aF1 {H:Type} {enc:TypeId×Value→H} {P:Program} {f:Func} {s:ChangeSpec} {apart fresh handsOn:Bool} {W W':World} {args:Array Value} {v:Value} {ds gs:List (DataW H)} {before pa pv:List MemPlace}
  (hW:DataW.Whole enc P f.params.toList s.vars apart W args.toList ds gs before)
  (hres:∀ (b:Nat) (sp:Nat→Bool) (hd:Bool),DataW.TrodAll enc P W' b sp hd f.resultTypes.toList (v.resultList f.resultTypes.size) (s.fn H (ds++gs)).results [])
  (hargs:∀ sp:Nat→Bool,(∀ p∈before,sp p.block=true)→DataW.TrodAll enc P W' 0 sp true f.params.toList args.toList (s.fn H (ds++gs)).args pa)
  (hvars:∀ sp:Nat→Bool,(∀ p∈before,sp p.block=true)→DataW.TrodVars enc P W' sp s.vars (s.fn H (ds++gs)).vars pv)
  (hps:before=pa++pv) (hk:W.keptBut W' (·∈before)):
  s.post enc P f apart fresh handsOn false W args v W':=by
 have hold:∀ p∈before,(fun b=>decide (b<W.heap.size)) p.block=true:=fun p hp=>by simpa using hW.lt p hp
 refine ⟨ds,gs,before,[],pa,pv,hW,hres _ _ _,hargs _ hold,hvars _ hold,World.keptBut_mono (fun p hp=>⟨hp,?_⟩) hk,fun h=>by cases h⟩
 rw [hps,List.mem_append] at hp
 exact Or.inr hp
theorem aF2 {W W':World} (h:Below W.heap.size W W') (S:MemPlace→Prop):W.keptBut W' S:=Below.frame h S
theorem aRk {H:Type} {enc:TypeId×Value→H} {P:Program} {W:World} {t:TypeId} (ht:P.underlying t=some .bool) (b:Nat) (sp:Nat→Bool) (hd:Bool):
  DataW.TrodAll enc P W b sp hd [t] ((Value.bool true).resultList 1) [.lit (.bool true)] []:=
 trodAll_mk1 ⟨1,by simp [DataW.trod,Value.cells,ht]⟩
end Go.AM
end
section
namespace Go.AM
open Go.RowKit Go.ChangeShapes
section
section
variable {H:Type} {enc:TypeId×Value→H} {P:Program} {W:World} {sp:Nat→Bool} {held:Bool}
theorem aF3 {r:Reach} {b0:Nat} {t e:TypeId} {v:Value} (ht:P.underlying t=some (.slice e)) (hval:Value.okWide P W r b0 t v):v.cells.toList=[v]:=by
 cases v with
 | agg cs=>simp [Value.okWide,ht,Cell.okWide,Cell.ok] at hval
 | _=>rfl
theorem nN {r:Reach} {b0 d:Nat} {t e:TypeId} {v:Value} {dd:DataW H} {ps:List MemPlace} (ht:P.underlying t=some (.slice e)) (hpl:xC P d t=true) (hval:Value.okWide P W r b0 t v) (hd:DataW.Trod enc P W 0 sp held t v dd ps):
  ∃ x n,VR (Gh.all W) x v∧aL P n t [x]:=by
 obtain ⟨fuel,hf⟩:=hd
 obtain ⟨xs,h1,h2⟩:=aMu fuel t _ _ d hpl hf
 rw [aF3 ht hval] at h1
 cases h1 with
 | cons x _ vs _ hx t'=>
  cases t'
  exact ⟨x,fuel,hx,h2⟩
theorem aAb {t:TypeId} (hl:laidOutB P=true) (hr:P.readableRec t=true) (hrow:t<P.types.size) {W':World} {v:Value} {d:DataW H} {ps:List MemPlace} (h:DataW.Trod enc P W 0 (fun _=>true) true t v d ps) (hb:Below W.heap.size W W')
  (hlt:∀ x∈ps,x.block<W.heap.size) {sp':Nat→Bool} (hs:∀ x∈ps,sp' x.block=true):DataW.Trod enc P W' 0 sp' true t v d ps:=
 WideElems.Trod_stays hl hr hrow h (fun x hx=>hb.same (hlt x hx)) hs
end
end
end Go.AM
end
section
namespace Go.Proofs.YtoaibmbldmckaaaGreat
open Go.AM Tryz
theorem mW {P:Program} {n:Nat} {t:TypeId} {fs:Array Field} {xs:List V} (ht:P.underlying t=some (.struct fs)) (h:aL P n t xs):
  ∃ m,xs.length=P.cellsOf t∧∀ (i:Nat) (f:Field),fs[i]?=some f→aL P m f.type ((xs.drop f.offset).take (P.cellsOf f.type)):=by
 cases n with
 | zero=>cases h
 | succ m=>
  simp only [aL,ht] at h
  exact ⟨m,h.1,fun i f hf=>h.2 f (List.mem_of_getElem? (by rw [Array.getElem?_toList];exact hf))⟩
theorem aDs {P:Program} {n:Nat} {t e:TypeId} {xs:List V} (ht:P.underlying t=some (.slice e)) (h:aL P n t xs):
  ∃ m es,xs=[.imm es]∧∀ c,c∈es→c.length=P.cellsOf e∧aL P m e c:=by
 cases n with
 | zero=>cases h
 | succ m=>
  simp only [aL,ht] at h
  obtain ⟨es,h1,_,h2⟩:=h
  exact ⟨m,es,h1,h2⟩
theorem c3:prog.cellsOf 3=1:=by kernel_rfl
theorem c9:prog.cellsOf 9=1:=by kernel_rfl
theorem mD {n:Nat} {xs:List V} (h:aL prog n 3 xs):∃ i,xs=[.int .i64 i]:=by
 cases n with
 | zero=>cases h
 | succ m=>
  simp only [aL,Tryz.underlying3] at h
  obtain ⟨i,h,_⟩:=h
  exact ⟨i,h⟩
theorem aDt {n:Nat} {xs:List V} (h:aL prog n 9 xs):∃ s,xs=[.str s]:=by
 cases n with
 | zero=>cases h
 | succ m=>
  simp only [aL,Tryz.underlying9] at h
  obtain ⟨s,h,_⟩:=h
  exact ⟨s,h⟩
theorem cut (xs:List V) (o k:Nat):xs.drop o=(xs.drop o).take k++xs.drop (o+k):=by
 rw [←List.drop_drop,List.take_append_drop]
theorem zJ {α:Type} {enc:α→List V}:∀ {es:List (List V)},(∀ c,c∈es→∃ a:α,c=enc a)→∃ l:List α,es=l.map enc
 | [],_=>⟨[],rfl⟩
 | c::es,h=>by
  obtain ⟨a,ha⟩:=h c (List.mem_cons_self ..)
  obtain ⟨l,hl⟩:=zJ fun d hd=>h d (List.mem_cons_of_mem _ hd)
  exact ⟨a::l,by rw [ha,hl];rfl⟩
theorem c52:prog.cellsOf 52=3:=by kernel_rfl
theorem aPk {n:Nat} {xs:List V} (h:aL prog n 52 xs):∃ d:Date,xs=d.enc:=by
 obtain ⟨m,hl,hf⟩:=mW Tryz.underlying52 h
 rw [c52] at hl
 have h0:aL prog m 3 ((xs.drop 0).take (prog.cellsOf 3)):=hf 0 _ rfl
 rw [c3] at h0
 obtain ⟨x0,e0⟩:=mD h0
 have q0:=cut xs 0 1
 rw [e0] at q0
 have h1:aL prog m 3 ((xs.drop 1).take (prog.cellsOf 3)):=hf 1 _ rfl
 rw [c3] at h1
 obtain ⟨x1,e1⟩:=mD h1
 have q1:=cut xs 1 1
 rw [e1] at q1
 have h2:aL prog m 3 ((xs.drop 2).take (prog.cellsOf 3)):=hf 2 _ rfl
 rw [c3] at h2
 obtain ⟨x2,e2⟩:=mD h2
 have q2:=cut xs 2 1
 rw [e2] at q2
 have hend:xs.drop 3=[]:=List.drop_eq_nil_of_le (by omega)
 have hx:xs=[.int .i64 x0]++([.int .i64 x1]++([.int .i64 x2]++[])):=by
  have z:xs=xs.drop 0:=rfl
  rw [z,q0,q1,q2]
  show _=_
  rw [show (2+1:Nat)=3 from rfl,hend]
 rw [hx]
 exact ⟨⟨x0,x1,x2⟩,rfl⟩
theorem c57:prog.cellsOf 57=2:=by kernel_rfl
theorem bEo {n:Nat} {xs:List V} (h:aL prog n 57 xs):∃ d:Ref,xs=d.enc:=by
 obtain ⟨m,hl,hf⟩:=mW Tryz.underlying57 h
 rw [c57] at hl
 have h0:aL prog m 9 ((xs.drop 0).take (prog.cellsOf 9)):=hf 0 _ rfl
 rw [c9] at h0
 obtain ⟨x0,e0⟩:=aDt h0
 have q0:=cut xs 0 1
 rw [e0] at q0
 have h1:aL prog m 3 ((xs.drop 1).take (prog.cellsOf 3)):=hf 1 _ rfl
 rw [c3] at h1
 obtain ⟨x1,e1⟩:=mD h1
 have q1:=cut xs 1 1
 rw [e1] at q1
 have hend:xs.drop 2=[]:=List.drop_eq_nil_of_le (by omega)
 have hx:xs=[.str x0]++([.int .i64 x1]++[]):=by
  have z:xs=xs.drop 0:=rfl
  rw [z,q0,q1]
  show _=_
  rw [show (1+1:Nat)=2 from rfl,hend]
 rw [hx]
 exact ⟨⟨x0,x1⟩,rfl⟩
theorem c54:prog.cellsOf 54=5:=by kernel_rfl
theorem aZ2 {n:Nat} {xs:List V} (h:aL prog n 54 xs):∃ d:Rate,xs=d.enc:=by
 obtain ⟨m,hl,hf⟩:=mW Tryz.underlying54 h
 rw [c54] at hl
 have h0:aL prog m 9 ((xs.drop 0).take (prog.cellsOf 9)):=hf 0 _ rfl
 rw [c9] at h0
 obtain ⟨x0,e0⟩:=aDt h0
 have q0:=cut xs 0 1
 rw [e0] at q0
 have h1:aL prog m 52 ((xs.drop 1).take (prog.cellsOf 52)):=hf 1 _ rfl
 rw [c52] at h1
 obtain ⟨x1,e1⟩:=aPk h1
 have q1:=cut xs 1 3
 rw [e1] at q1
 have h2:aL prog m 3 ((xs.drop 4).take (prog.cellsOf 3)):=hf 2 _ rfl
 rw [c3] at h2
 obtain ⟨x2,e2⟩:=mD h2
 have q2:=cut xs 4 1
 rw [e2] at q2
 have hend:xs.drop 5=[]:=List.drop_eq_nil_of_le (by omega)
 have hx:xs=[.str x0]++(x1.enc++([.int .i64 x2]++[])):=by
  have z:xs=xs.drop 0:=rfl
  rw [z,q0,q1,q2]
  show _=_
  rw [show (4+1:Nat)=5 from rfl,hend]
 rw [hx]
 exact ⟨⟨x0,x1,x2⟩,rfl⟩
theorem bQ9:prog.cellsOf 201=4:=by kernel_rfl
theorem aZ3 {n:Nat} {xs:List V} (h:aL prog n 201 xs):∃ d:Line,xs=d.enc:=by
 obtain ⟨m,hl,hf⟩:=mW Tryz.underlying201 h
 rw [bQ9] at hl
 have h0:aL prog m 9 ((xs.drop 0).take (prog.cellsOf 9)):=hf 0 _ rfl
 rw [c9] at h0
 obtain ⟨x0,e0⟩:=aDt h0
 have q0:=cut xs 0 1
 rw [e0] at q0
 have h1:aL prog m 9 ((xs.drop 1).take (prog.cellsOf 9)):=hf 1 _ rfl
 rw [c9] at h1
 obtain ⟨x1,e1⟩:=aDt h1
 have q1:=cut xs 1 1
 rw [e1] at q1
 have h2:aL prog m 3 ((xs.drop 2).take (prog.cellsOf 3)):=hf 2 _ rfl
 rw [c3] at h2
 obtain ⟨x2,e2⟩:=mD h2
 have q2:=cut xs 2 1
 rw [e2] at q2
 have h3:aL prog m 3 ((xs.drop 3).take (prog.cellsOf 3)):=hf 3 _ rfl
 rw [c3] at h3
 obtain ⟨x3,e3⟩:=mD h3
 have q3:=cut xs 3 1
 rw [e3] at q3
 have hend:xs.drop 4=[]:=List.drop_eq_nil_of_le (by omega)
 have hx:xs=[.str x0]++([.str x1]++([.int .i64 x2]++([.int .i64 x3]++[]))):=by
  have z:xs=xs.drop 0:=rfl
  rw [z,q0,q1,q2,q3]
  show _=_
  rw [show (3+1:Nat)=4 from rfl,hend]
 rw [hx]
 exact ⟨⟨x0,x1,x2,x3⟩,rfl⟩
theorem c55:prog.cellsOf 55=1:=by kernel_rfl
theorem aW7 {n:Nat} {xs:List V} (h:aL prog n 55 xs):∃ l:List Line,xs=[.imm (l.map Line.enc)]:=by
 obtain ⟨m,es,h,hes⟩:=aDs Tryz.underlying55 h
 obtain ⟨l,hl⟩:=zJ (enc:=Line.enc) fun c hc=>aZ3 (hes c hc).2
 exact ⟨l,by rw [h,hl]⟩
def Cmd.enc (c:Cmd):List V:=[.int .i64 c.kind,.str c.series,.int .i64 c.limit,.str c.row.cat,.int .i64 c.row.day.y,.int .i64 c.row.day.m,.int .i64 c.row.day.d,.int .i64 c.row.bp,.int .i64 c.day.y,.int .i64 c.day.m,.int .i64 c.day.d,.imm (c.lines.map Line.enc),.str c.of.ser,.int .i64 c.of.num,.int .i64 c.session]
theorem c59:prog.cellsOf 59=15:=by kernel_rfl
theorem bEp {n:Nat} {xs:List V} (h:aL prog n 59 xs):∃ c:Cmd,xs=c.enc:=by
 obtain ⟨m,hl,hf⟩:=mW Tryz.underlying59 h
 rw [c59] at hl
 have h0:aL prog m 3 ((xs.drop 0).take (prog.cellsOf 3)):=hf 0 _ rfl
 rw [c3] at h0
 obtain ⟨x0,e0⟩:=mD h0
 have q0:=cut xs 0 1
 rw [e0] at q0
 have h1:aL prog m 9 ((xs.drop 1).take (prog.cellsOf 9)):=hf 1 _ rfl
 rw [c9] at h1
 obtain ⟨x1,e1⟩:=aDt h1
 have q1:=cut xs 1 1
 rw [e1] at q1
 have h2:aL prog m 3 ((xs.drop 2).take (prog.cellsOf 3)):=hf 2 _ rfl
 rw [c3] at h2
 obtain ⟨x2,e2⟩:=mD h2
 have q2:=cut xs 2 1
 rw [e2] at q2
 have h3:aL prog m 54 ((xs.drop 3).take (prog.cellsOf 54)):=hf 3 _ rfl
 rw [c54] at h3
 obtain ⟨x3,e3⟩:=aZ2 h3
 have q3:=cut xs 3 5
 rw [e3] at q3
 have h4:aL prog m 52 ((xs.drop 8).take (prog.cellsOf 52)):=hf 4 _ rfl
 rw [c52] at h4
 obtain ⟨x4,e4⟩:=aPk h4
 have q4:=cut xs 8 3
 rw [e4] at q4
 have h5:aL prog m 55 ((xs.drop 11).take (prog.cellsOf 55)):=hf 5 _ rfl
 rw [c55] at h5
 obtain ⟨x5,e5⟩:=aW7 h5
 have q5:=cut xs 11 1
 rw [e5] at q5
 have h6:aL prog m 57 ((xs.drop 12).take (prog.cellsOf 57)):=hf 6 _ rfl
 rw [c57] at h6
 obtain ⟨x6,e6⟩:=bEo h6
 have q6:=cut xs 12 2
 rw [e6] at q6
 have h7:aL prog m 3 ((xs.drop 14).take (prog.cellsOf 3)):=hf 7 _ rfl
 rw [c3] at h7
 obtain ⟨x7,e7⟩:=mD h7
 have q7:=cut xs 14 1
 rw [e7] at q7
 have hend:xs.drop 15=[]:=List.drop_eq_nil_of_le (by omega)
 have hx:xs=[.int .i64 x0]++([.str x1]++([.int .i64 x2]++(x3.enc++(x4.enc++([.imm (x5.map Line.enc)]++(x6.enc++([.int .i64 x7]++[]))))))):=by
  have z:xs=xs.drop 0:=rfl
  rw [z,q0,q1,q2,q3,q4,q5,q6,q7]
  show _=_
  rw [show (14+1:Nat)=15 from rfl,hend]
 rw [hx]
 exact ⟨⟨x0,x1,x2,x3,x4,x5,x6,x7⟩,rfl⟩
theorem c61:prog.cellsOf 61=17:=by kernel_rfl
theorem aZ4 {n:Nat} {xs:List V} (h:aL prog n 61 xs):∃ c:Call,xs=c.enc:=by
 obtain ⟨m,hl,hf⟩:=mW Tryz.underlying61 h
 rw [c61] at hl
 have h0:aL prog m 3 ((xs.drop 0).take (prog.cellsOf 3)):=hf 0 _ rfl
 rw [c3] at h0
 obtain ⟨x0,e0⟩:=mD h0
 have q0:=cut xs 0 1
 rw [e0] at q0
 have h1:aL prog m 3 ((xs.drop 1).take (prog.cellsOf 3)):=hf 1 _ rfl
 rw [c3] at h1
 obtain ⟨x1,e1⟩:=mD h1
 have q1:=cut xs 1 1
 rw [e1] at q1
 have h2:aL prog m 59 ((xs.drop 2).take (prog.cellsOf 59)):=hf 2 _ rfl
 rw [c59] at h2
 obtain ⟨x2,e2⟩:=bEp h2
 have q2:=cut xs 2 15
 rw [e2] at q2
 have hend:xs.drop 17=[]:=List.drop_eq_nil_of_le (by omega)
 have hx:xs=[.int .i64 x0]++([.int .i64 x1]++(x2.enc++[])):=by
  have z:xs=xs.drop 0:=rfl
  rw [z,q0,q1,q2]
  show _=_
  rw [show (2+15:Nat)=17 from rfl,hend]
 rw [hx]
 exact ⟨⟨x0,x1,x2⟩,rfl⟩
theorem aKf {n:Nat} {xs:List V} (h:aL prog n 44 xs):∃ l:List Call,xs=[.imm (l.map Call.enc)]:=by
 obtain ⟨m,es,h,hes⟩:=aDs Tryz.underlying44 h
 obtain ⟨l,hl⟩:=zJ (enc:=Call.enc) fun c hc=>aZ4 (hes c hc).2
 exact ⟨l,by rw [h,hl]⟩
abbrev I64 (n:Int):Prop:=-9223372036854775808≤n∧n≤9223372036854775807
theorem iV {n:Int} (h:I64 n):wr .i64 n=n:=kU h.1 h.2
theorem aIc (n:Int):I64 (wr .i64 n):=by
 unfold wr lo hi
 simp only
 split
 ·omega
 ·rw [IntKind.wrap_i64];omega
theorem kJ {n:Int} (h1:0≤n) (h2:n<18446744073709551616):wr .u64 n=n:=by
 unfold wr lo hi
 simp only
 rw [if_pos (by omega)]
theorem aPl (n:Int):wr .u64 n=n % 18446744073709551616:=by
 unfold wr lo hi
 simp only
 split
 ·omega
 ·rfl
theorem uV {a b:Int} (ha:I64 a) (hb:I64 b):dQ a b=if I64 (a+b) then (a+b,0) else (0,7):=by
 unfold dQ at *
 have e1:0<b→wr .i64 (9223372036854775807 - b)=9223372036854775807 - b:=fun h=>kU (by omega) (by omega)
 have e2:b<0→wr .i64 (-9223372036854775808 - b)=-9223372036854775808 - b:=fun h=>kU (by omega) (by omega)
 by_cases h:-9223372036854775808≤a+b∧a+b≤9223372036854775807
 ·rw [if_pos h,kU h.1 h.2,if_neg]
  rintro (⟨h1,h2⟩ | ⟨h1,h2⟩)
  ·rw [e1 h1] at h2;omega
  ·rw [e2 h1] at h2;omega
 ·rw [if_neg h,if_pos]
  by_cases h0:0<b
  ·exact .inl ⟨h0,by rw [e1 h0];omega⟩
  ·exact .inr ⟨by omega,by rw [e2 (by omega)];omega⟩
theorem aAc {b:Int} (hb:I64 b):kW 0 b=if b=-9223372036854775808 then (0,7) else (-b,0):=by
 unfold kW at *
 have e1:b<0→wr .i64 (9223372036854775807+b)=9223372036854775807+b:=fun h=>kU (by omega) (by omega)
 have e2:0<b→wr .i64 (-9223372036854775808+b)=-9223372036854775808+b:=fun h=>kU (by omega) (by omega)
 by_cases h:b=-9223372036854775808
 ·rw [if_pos h,if_pos]
  exact .inl ⟨by omega,by rw [e1 (by omega)];omega⟩
 ·rw [if_neg h,if_neg,Int.zero_sub,kU (by omega) (by omega)]
  rintro (⟨h1,h2⟩ | ⟨h1,h2⟩)
  ·rw [e1 h1] at h2;omega
  ·rw [e2 h1] at h2;omega
theorem aW8 (a b:Int):I64 (dQ a b).1:=by
 unfold dQ
 split
 ·show I64 0;omega
 ·exact aIc _
theorem aDu (n bp:Int):I64 (bG n bp).1:=by
 unfold bG
 have h0:I64 0:=by omega
 split
 ·exact h0
 ·simp only
  split
  ·exact h0
  ·split
   ·exact h0
   ·split
    ·exact aIc _
    ·exact aIc _
theorem aW9:∀ (l:List Int) (h w s:Int),(∀ n∈l,I64 n)→0≤h→h<18446744073709551616→0≤w→w<18446744073709551616→(h*18446744073709551616+w - s) % 340282366920938463463374607431768211456=0→
  ∃ h' w',aE uR tN l (h,w)=tN (h',w')∧0≤h'∧h'<18446744073709551616∧0≤w'∧w'<18446744073709551616∧(h'*18446744073709551616+w' - (s+l.sum)) % 340282366920938463463374607431768211456=0
 | [],h,w,s,_,a,b,c,d,e=>⟨h,w,rfl,a,b,c,d,by simpa using e⟩
 | n::l,h,w,s,hl,a,b,c,d,e=>by
  have hn:=hl n (List.mem_cons_self ..)
  have hstep:∃ h2 w2,uR (h,w) n=.inr (h2,w2)∧0≤h2∧h2<18446744073709551616∧0≤w2∧w2<18446744073709551616∧(h2*18446744073709551616+w2 - (s+n)) % 340282366920938463463374607431768211456=0:=by
   refine ⟨_,_,rfl,?_,?_,?_,?_,?_⟩
   ·simp only;omega
   ·simp only;omega
   ·simp only;omega
   ·simp only;omega
   ·simp only [aPl]
    split<;>omega
  obtain ⟨h2,w2,e1,a2,b2,c2,d2,e2⟩:=hstep
  obtain ⟨h',w',r1,r2⟩:=aW9 l h2 w2 (s+n) (fun m hm=>hl m (List.mem_cons_of_mem _ hm)) a2 b2 c2 d2 e2
  refine ⟨h',w',?_,?_⟩
  ·simp only [aE,e1];exact r1
  ·rw [List.sum_cons,←Int.add_assoc];exact r2
theorem aGf:∀ (l:List Int),(∀ n∈l,I64 n)→-9223372036854775808*(l.length:Int)≤l.sum∧l.sum≤9223372036854775808*(l.length:Int)
 | [],_=>by simp
 | n::l,h=>by
  have h1:=h n (List.mem_cons_self ..)
  have h2:=aGf l fun m hm=>h m (List.mem_cons_of_mem _ hm)
  simp only [List.sum_cons,List.length_cons]
  omega
theorem oW {l:List Int} (h:∀ n∈l,I64 n) (hl:l.length≤1000000):(cZ l).1=wr .i64 l.sum∧((cZ l).2=true↔I64 l.sum):=by
 obtain ⟨h',w',e,a,b,c,d,m⟩:=aW9 l 0 0 0 h (by decide) (by decide) (by decide) (by decide) (by decide)
 have hs:=aGf l h
 unfold cZ
 rw [e]
 have hb1:-9223372036854775808000000≤l.sum:=by omega
 have hb2:l.sum≤9223372036854775808000000:=by omega
 have key:w'=l.sum % 18446744073709551616∧h'=(l.sum / 18446744073709551616) % 18446744073709551616:=by
  rw [Int.zero_add] at m
  omega
 constructor
 ·show wr .i64 w'=wr .i64 l.sum
  unfold wr lo hi
  simp only [IntKind.wrap_i64]
  split<;>split<;>omega
 ·show (if w'.fdiv (2 ^ 63)=0 then decide (h'=0) else decide (h'=18446744073709551615))=true↔_
  have hf:w'.fdiv (2 ^ 63)=w' / 9223372036854775808:=by
   rw [Int.fdiv_eq_ediv_of_nonneg _ (by decide)]
   rfl
  rw [hf]
  split
  ·simp only [decide_eq_true_eq];omega
  ·simp only [decide_eq_true_eq];omega
theorem aAd {l:List Int} (h:∀ n∈l,I64 n) (hl:l.length≤1000000) (hs:I64 l.sum):cZ l=(l.sum,true):=by
 obtain ⟨h1,h2⟩:=oW h hl
 exact Prod.ext (by rw [h1,iV hs]) (h2.2 hs)
end Go.Proofs.YtoaibmbldmckaaaGreat
end
