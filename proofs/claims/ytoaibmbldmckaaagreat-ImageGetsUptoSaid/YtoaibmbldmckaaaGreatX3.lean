import Derived.ChangeArms
import Derived.ProofKit
import Derived.Test.YtoaibmbldmckaaaGreatX2
set_option linter.unusedSimpArgs false
set_option linter.unusedVariables false
set_option linter.unusedSectionVars false
set_option maxRecDepth 100000
section
namespace Go.Proofs.YtoaibmbldmckaaaGreat
open Go.AM Tryz
theorem aYz (s:List UInt8) (S:St) (K:KW):C 195 [.str s] S K=K (.bool (gP s)) S:=by
 refine (bH5 rfl ?_).eq S K
 delta Tryz.f195;simp only [↓cw,↓reduceIte,Nat.reduceLT,kk,(vI s).1,gP]
 by_cases h1:s=[]
 ·subst h1;simp
 have h0:¬ s.length<1:=by have:=List.length_pos_iff.2 h1;omega
 by_cases h2:24<s.length
 ·have h3:(24:Int)<(s.length:Int):=by omega
  simp [h0,h1,h2,h3]
 rw [if_neg (by simpa using h1),if_neg (by omega)]
 simp only [↓cw,↓reduceIte,Nat.reduceLT,h0,h2,kk]
 refine aG (kP s s.length 0) (step:=lX) (fin:=fun _=>true) (fun i _ vs S=>vs=[.bool false]∧IterAt s i S) (fun r=>V.bool r=.bool (aD lX (fun _=>true) (kP s s.length 0) ())) ?_ ?_ (s:=()) ⟨rfl,(vI s).2⟩ rfl
 ·rintro i ⟨q,r⟩ _ vs S hi ⟨rfl,hI⟩ aF H
  obtain ⟨S',e,hI'⟩:=hI.next hi
  simp only [↓cw,↓reduceIte,Nat.reduceLT,kk,e,bIe]
  simp only [lX] at H
  have H1:=fun h:lF (r:Int)=true=>(by simpa only [h,if_true] using H:∀ vs' S',vs'=[.bool false]∧IterAt s (i+1) S'→aF vs' S') [.bool false] S' ⟨rfl,hI'⟩
  by_cases c1:lF (r:Int)=true
  ·simp only [c1,if_true];exact H1 c1
  ·simp only [c1,if_false] at H ⊢
   by_cases c2:q=0
   ·subst c2;simp at H ⊢;exact H
   ·have c2':¬ (q:Int)=0:=by omega
    simp only [c2,c2',if_false] at H ⊢
    by_cases c3:(48≤r∧r≤57)∨r=45∨r=95∨r=46
    ·simp only [c3,if_true] at H
     have h0:=H [.bool false] S' ⟨rfl,hI'⟩
     grind
    ·simp only [c3,if_false] at H
     grind
 ·rintro _ vs S ⟨rfl,hI⟩ aF H
  simp only [↓cw,↓reduceIte,Nat.reduceLT,kk,hI.last]
  exact H
theorem bE9 (d:Date) (S:St) (K:KW):C 126 [.agg [.int .i64 d.y,.int .i64 d.m,.int .i64 d.d]] S K=K (.int .i64 d.days) S:=by
 refine (bGk rfl ?_).eq S K
 delta Tryz.f126;simp only [↓cw,↓reduceIte,Nat.reduceLT,kk,aYs,Date.days,ne_eq,Int.reduceEq,not_false_eq_true]
 by_cases hr:d.right=true
 ·simp only [↓cw,↓reduceIte,Nat.reduceLT,hr,kk]
  have hm:1≤d.m∧d.m≤12:=by simp only [Date.right,Bool.and_eq_true,decide_eq_true_eq] at hr;omega
  refine aG (List.range (d.m - 1).toNat) (step:=jN d.y) (fin:=id) (fun i n vs S=>vs=[.int .i64 n,.int .i64 ((i:Int)+1)]∧aC S 0 0=.ok (3,[d.enc])) (fun r=>V.int .i64 (wr .i64 (wr .i64 (r+d.d) - 1))=.int .i64 (wr .i64 (wr .i64 (aD (jN d.y) id (List.range (d.m - 1).toNat) (aGl d.y)+d.d) - 1))) ?_ ?_ ⟨rfl,by simp only [↓cw,↓reduceIte,Nat.reduceLT,kk];rfl⟩ rfl
  ·rintro i a n vs S hi ⟨rfl,hg⟩ aF H
   obtain ⟨hil,rfl⟩:=aGs hi
   simp only [jN] at H
   simp only [↓cw,↓reduceIte,Nat.reduceLT,kk,hg,Date.enc,bE6,rV]
   rw [if_pos (by omega),if_pos (by omega)]
   refine H _ _ ⟨?_,hg⟩
   rw [eX (n:=(a:Int)+1+1) (by omega) (by omega)]
   simp
  ·rintro n vs S ⟨rfl,hg⟩ aF H
   simp only [↓cw,↓reduceIte,Nat.reduceLT,kk,hg,Date.enc]
   rw [if_neg (by simp;omega)]
   exact H
 ·have hr:d.right=false:=by simpa using hr
  simp only [↓cw,↓reduceIte,Nat.reduceLT,hr,kk]
theorem bIf (r:Rate) (S:St) (K:KW):C 163 [.agg [.str r.cat,.int .i64 r.day.y,.int .i64 r.day.m,.int .i64 r.day.d,.int .i64 r.bp]] S K=K (.int .i64 (aEw r)) S:=by
 refine (bGw rfl ?_).eq S K
 delta Tryz.f163;simp only [↓cw,↓reduceIte,Nat.reduceLT,kk,aYy,aTj,aEw]
 cases gP r.cat<;>cases r.day.right<;>simp
 grind
theorem bIg (r:Rate) (S:St) (K:KW):C 193 [.agg [.str r.cat,.int .i64 r.day.y,.int .i64 r.day.m,.int .i64 r.day.d,.int .i64 r.bp]] S K=K (.int .i64 (aEw r)) S:=by
 refine (bH3 rfl ?_).eq S K
 delta Tryz.f193;simp only [↓cw,↓reduceIte,Nat.reduceLT,kk,aYz,aYs,aEw]
 cases gP r.cat<;>cases r.day.right<;>simp
 grind
theorem bIh (a b:Rate) (S:St) (K:KW):C 164 [.agg [.str a.cat,.int .i64 a.day.y,.int .i64 a.day.m,.int .i64 a.day.d,.int .i64 a.bp],.agg [.str b.cat,.int .i64 b.day.y,.int .i64 b.day.m,.int .i64 b.day.d,.int .i64 b.bp]] S K=K (.bool (tH a b)) S:=by
 refine (bGx rfl ?_).eq S K
 delta Tryz.f164;simp only [↓cw,↓reduceIte,Nat.reduceLT,kk,bE7,kE,tH]
 cases kU a.cat b.cat<;>cases (a.cat == b.cat)<;>simp
theorem g85 (l:List Rate) (S:St) (K:KW):C 85 [.imm (l.map Rate.enc)] S K=K (.bool (kK l)) S:=by
 refine (v85 rfl ?_).eq S K
 delta Tryz.f85;simp only [↓cw,↓reduceIte,Nat.reduceLT,kk,kK]
 by_cases h:24<l.length
 ·rw [if_pos (by omega),if_pos h]
 have h':¬ (24:Int)<(l.length:Int):=by omega
 simp only [↓cw,↓reduceIte,Nat.reduceLT,h,h',kk]
 refine aG l (step:=jO) (fin:=fun _=>true) (fun i s vs S=>s=cA l i∧vs=[.bool false,.int .i64 (i:Int)]) (fun r=>V.bool r=.bool (aD jO (fun _=>true) l none)) ?_ ?_ ⟨rfl,rfl⟩ rfl
 ·rintro i r s vs S hi ⟨rfl,rfl⟩ aF H
  have hil:=(List.getElem?_eq_some_iff.1 hi).1
  have hn:cA l (i+1)=some r:=by simpa [cA] using hi
  simp only [hn] at H
  simp only [↓cw,↓reduceIte,Nat.reduceLT,kk,bG hi,wQ hi,Rate.enc,bIf,gJ (show i<1000000000 by omega),jO] at H ⊢
  by_cases c:aEw r=0
  ·simp only [↓cw,↓reduceIte,Nat.reduceLT,c,kk,ne_eq,not_true_eq_false] at H ⊢
   cases i with
   | zero=>simp [cA] at H ⊢;exact H _ _ rfl
   | succ j=>
    have hj:l[j]?=some l[j]:=List.getElem?_eq_getElem (by omega)
    have hp:cA l (j+1)=some l[j]:=by simp [cA,hj]
    simp only [↓cw,↓reduceIte,Nat.reduceLT,hp,gt0,kk,wrm (show j+1<1000000000 by omega),wQ hj,Rate.enc,bIh] at H ⊢
    cases ha:tH l[j] r<;>simp [ha] at H ⊢<;>first | exact H | exact H _ _ rfl
  ·simp [c] at H ⊢
   exact H
 ·rintro s vs S ⟨rfl,rfl⟩ aF H
  simp only [↓cw,↓reduceIte,Nat.reduceLT,kk,Int.lt_irrefl]
  exact H
end Go.Proofs.YtoaibmbldmckaaaGreat
end
section
namespace Go.AM
theorem Own.frz {S0 S:St} {n:Nat} {v:V} {es:List (List V)} (h:Own S0 S n v es) (hc:es.all cloVs=true):cZ lH (lR (iP S 3) S) v=.ok (.imm es):=by
 rcases h.is with ⟨rfl,rfl⟩ | ⟨a,ver,tl,rfl,_,_,q⟩
 ·rfl
 ·have he:aL S (.sl a ver n 0 es.length)=.ok es:=h.sl.elems
  simp only [cZ,lR,he,(gF (S:=S) (n:=2) hc).1]
theorem Own.ptrs {S0 S:St} {n:Nat} {v:V} {es:List (List V)} (h:Own S0 S n v es):pR v=[]:=by
 rcases h.is with ⟨rfl,rfl⟩ | ⟨a,ver,tl,rfl,_,_,q⟩<;>rfl
theorem bM {α:Type} {enc:α→List V} (h:∀ x,cloVs (enc x)=true) (l:List α):(l.map enc).all cloVs=true:=by
 rw [List.all_eq_true]
 intro y hy
 obtain ⟨x,_,rfl⟩:=List.mem_map.1 hy
 exact h x
theorem Sl.imm {n:Nat} {es:List (List V)} (S:St) (h:∀ cs,cs∈es→cs.length=n∧aI cs=true):Sl S n (.imm es) es:=⟨.inr (.inl rfl),h⟩
abbrev E0:St:=⟨0,.nil⟩
theorem rC:WF E0:=fun a b h=>by cases h
theorem bEa {α:Type} {enc:α→List V} {n b:Nat} (hl:∀ x,(enc x).length=n∧aI (enc x)=true) (l:List α) {S:St} (w:WF S) (h1:l.length*b≤35184372088832) (h2:l.length<fL):
  ∃ v S',eW n b .nils (.imm (l.map enc)) none S=.ok (v,S')∧Ext S S'∧Own E0 S' n v (l.map enc):=by
 obtain ⟨v,S',q1,q2,q3⟩:=(Sl.imm (n:=n) (es:=l.map enc) S (fun cs hc=>by obtain ⟨x,_,rfl⟩:=List.mem_map.1 hc;exact hl x)).copy (b:=b) w (by rw [List.length_map];exact h1) (by rw [List.length_map];exact h2)
 exact ⟨v,S',q1,q2,q3.weaken (Nat.zero_le _)⟩
theorem bEb {α:Type} {enc:α→List V} {n b:Nat} (hl:∀ x,(enc x).length=n∧aI (enc x)=true) (l:List α) {S:St} (w:WF S) (h1:l.length*b≤35184372088832) (h2:l.length<fL):
  ∃ v S',eW n b .nils (.imm (l.map enc)) none S=.ok (v,S')∧Ext S S'∧Own S S' n v (l.map enc):=
 (Sl.imm (n:=n) (es:=l.map enc) S (fun cs hc=>by obtain ⟨x,_,rfl⟩:=List.mem_map.1 hc;exact hl x)).copy (b:=b) w (by rw [List.length_map];exact h1) (by rw [List.length_map];exact h2)
theorem rZ {S:St} (w:WF S):Ext E0 S:=⟨fun a b h=>(by cases h),Nat.zero_le _,fun _=>w⟩
end Go.AM
namespace Go.Proofs.YtoaibmbldmckaaaGreat
open Go.AM Tryz
set_option linter.unusedVariables false
set_option linter.unusedSimpArgs false
set_option maxRecDepth 100000
theorem bEc {f:FuncId} {args:List V} {S:St} {v:V} (h:C f args S fun v' S'=>v'=v∧S'=S) (K:KW):C f args S K=K v S:=by
 obtain ⟨v',S',ev,rfl,rfl⟩:=h
 exact aC4 ev K
theorem bIi (fk:Nat) (ht:cP prog fk=some none) {n:Nat} {cap:List V} (p:Ser→Bool) (hf:∀ s:Ser,Fr fk (fun a=>[.agg s.enc,.ptr a 0 0 0]) n cap (.bool (p s)) cap) (l:List Ser) (hb:l.length<1000000) {S:St} {a:Nat} (hg:S.heap.get a=some (.row 0 n [cap])):
  ∀ K:KW,C 152 [.imm (l.map Ser.enc),.func fk [] [.ptr a 0 0 0]] S K=K (.int .i64 (vR p l)) S:=by
 refine bEc (bA5 ?_)
 delta Tryz.f152;simp only [↓cw,↓reduceIte,Nat.reduceLT,kk]
 refine aG l (step:=cN p) (fin:=fun _=>-1) (fun i k vs X=>k=i∧vs=[.int .i64 0,.int .i64 (i:Int)]∧X=S) (fun r=>r=vR p l) ?_ ?_ ⟨rfl,rfl,rfl⟩ rfl
 ·rintro i s k vs X hi ⟨rfl,rfl,rfl⟩ aF H
  have hil:=(List.getElem?_eq_some_iff.1 hi).1
  have he:=(hf s).eq_same hg
  simp only [Ser.enc] at he
  simp only [↓cw,↓reduceIte,Nat.reduceLT,kk,bG hi,sK hi,Ser.enc,↓nI prog C ht,List.nil_append,List.cons_append,he,gJ (show k<1000000000 by omega)]
  simp only [cN] at H
  cases hp:p s<;>simp only [↓cw,↓reduceIte,Nat.reduceLT,hp,kk] at H ⊢
  ·exact H _ _ ⟨rfl,rfl⟩
  ·rw [H]
 ·rintro k vs X ⟨rfl,rfl,rfl⟩ aF H
  simp only [↓cw,↓reduceIte,Nat.reduceLT,kk,Int.lt_irrefl]
  rw [H]
theorem bIj (l:List Sess) (S:St) (K:KW):C 166 [.imm (l.map Sess.enc)] S K=K (.bool (kQ l)) S:=by
 refine (bGz rfl ?_).eq S K
 delta Tryz.f166;simp only [↓cw,↓reduceIte,Nat.reduceLT,kk,kQ]
 by_cases h:8<l.length
 ·rw [if_pos (by omega),if_pos h]
 have h':¬ (8:Int)<(l.length:Int):=by omega
 simp only [↓cw,↓reduceIte,Nat.reduceLT,h,h',kk]
 refine aG l (step:=eR) (fin:=fun _=>true) (fun i s vs S=>vs=[.bool false,.int .i64 s,.int .i64 (i:Int)]) (fun r=>V.bool r=.bool (aD eR (fun _=>true) l 0)) ?_ ?_ rfl rfl
 ·rintro i s last vs S hi rfl aF H
  have hil:=(List.getElem?_eq_some_iff.1 hi).1
  have hn:((s.reply=Rep.zero):Prop)=((s.reply.why=0∧s.reply.number=0)∧s.reply.gross=0):=by
   obtain ⟨_,_,⟨_,_,_⟩⟩:=s;simp [Rep.zero,and_assoc]
  simp only [↓cw,↓reduceIte,Nat.reduceLT,eR,hn,kk] at H
  simp only [↓cw,↓reduceIte,Nat.reduceLT,kk,bG hi,tM hi,Sess.enc,gJ (show i<1000000000 by omega)]
  grind
 ·rintro s vs S rfl aF H
  simp only [↓cw,↓reduceIte,Nat.reduceLT,kk,Int.lt_irrefl]
  exact H
end Go.Proofs.YtoaibmbldmckaaaGreat
end
section
namespace Go.AM
theorem bsl (n:Nat) (z:List V) (parts:List (Nat×V)) (fr:Option Nat) (S:St) (hn:n≤1000):cW n z 1 parts fr S=(match tW n [z] parts with
  | .error e=>.error e
  | .ok elems=>match bD fr S (.row 0 n elems) with
   | .error e=>.error e
   | .ok (a,S')=>.ok (.sl a 0 n 0 1,S')):=by
 unfold cW
 rw [if_pos (by omega)]
 rfl
theorem aZ0 (z:List V) (parts:List (Nat×V)) (fr:Option Nat) (S:St):type_of% (bsl 1 z parts fr S (by decide)):=bsl 1 z parts fr S (by decide)
theorem aTl (z:List V) (parts:List (Nat×V)) (fr:Option Nat) (S:St):type_of% (bsl 2 z parts fr S (by decide)):=bsl 2 z parts fr S (by decide)
theorem aMs (z:List V) (parts:List (Nat×V)) (fr:Option Nat) (S:St):type_of% (bsl 4 z parts fr S (by decide)):=bsl 4 z parts fr S (by decide)
theorem aR8 (z:List V) (parts:List (Nat×V)) (fr:Option Nat) (S:St):type_of% (bsl 5 z parts fr S (by decide)):=bsl 5 z parts fr S (by decide)
theorem kR {n m k:Nat} {h:Tr Blk} {b:Blk} (w:WF ⟨n,h⟩) (h1:k<m) (h2:n≤m):WF ⟨m,h.put k b⟩:=by
 intro a c hc
 have hc':(h.put k b).get a=some c:=hc
 rw [Tr.get_putB _ _ _ _ trivial] at hc'
 split at hc'
 ·show a<m;omega
 ·have:=w a c hc';show a<m;have:a<n:=this;omega
theorem WF.bump {S:St} (w:WF S) (c:Nat):WF ⟨S.next+c,S.heap⟩:=fun a b h=>Nat.lt_of_lt_of_le (w a b h) (Nat.le_add_right _ _)
theorem dW {S S':St} {a ver n:Nat} {el:List (List V)} (hg:aC S a ver=.ok (n,el)) (h:S'.heap.get a=S.heap.get a):aC S' a ver=.ok (n,el):=by
 rw [←hg];unfold aC;rw [h]
theorem bEd {P:Program} {T:TypeId} {n b:Nat} (hT:apT P T=some (n,b)) (hn:1<n) {S:St} {v:V} {es:List (List V)} (h:Own E0 S n v es) (w:WF S) {c:List V} (hc:c.length=n∧aI c=true) (h1:(es.length+1)*b≤35184372088832) (h2:es.length+1<fL) {i:Nat} (hi:i≤es.length):
  ∃ v' S',kV P T v (.int .i64 (i:Int)) (.sl S.next 0 n 0 1) ⟨S.next+1,S.heap.put S.next (.row 0 n [c])⟩=.ok (v',S')∧WF S'∧Own E0 S' n v' (es.take i++c::es.drop i)∧∀ y,y<S.next→(∀ a ver m,v=.sl a ver n 0 m→y≠a)→S'.heap.get y=S.heap.get y:=by
 have x:Ext S ⟨S.next+1,S.heap.put S.next (.row 0 n [c])⟩:=Ext.new w _
 obtain ⟨v',S',q1,q2,q3,q4⟩:=(h.ext x).insertK hT hn (rZ (x.wf w)) rC (bx:=S.next) (c:=c) (aA _ _ _ _ _ _) (fun a ver m hv=>by
  rcases h.is with ⟨rfl,_⟩ | ⟨a',ver',tl,rfl,_,hlt,_⟩
  ·cases hv
  ·cases hv;omega) hc h1 h2 hi
 refine ⟨v',S',q1,q2.wf rC,q3,fun y hy hya=>?_⟩
 rw [q4 y (by show y<S.next+1;omega) hya]
 exact Tr.get_put_neB _ _ _ _ trivial (by omega)
end Go.AM
namespace Go.Proofs.YtoaibmbldmckaaaGreat
open Go.AM Tryz
set_option linter.unusedVariables false
set_option linter.unusedSimpArgs false
set_option maxRecDepth 100000
theorem bIk {f:FuncId} {T:TypeId} (hpl:mE f=some (.spec ((Sp.ins T).run prog))) {s i x v:V} {S S':St} (h:kV prog T s i x S=.ok (v,S')) (K:KW):C f [s,i,x] S K=K v S':=aOf hpl (args:=[s,i,x]) (show (Sp.ins T).run prog [s,i,x] S=.ok (v,S') from h) K
theorem sess5 (x:Sess):x.enc.length=5∧aI x.enc=true:=⟨rfl,rfl⟩
theorem ser4 (x:Ser):x.enc.length=4∧aI x.enc=true:=⟨rfl,rfl⟩
end Go.Proofs.YtoaibmbldmckaaaGreat
end
section
namespace Go.Proofs.YtoaibmbldmckaaaGreat
open Go.AM Tryz
theorem g86 (l:List Ser) (S:St) (K:KW):C 86 [.imm (l.map Ser.enc)] S K=K (.bool (tJ l)) S:=by
 refine (v86 rfl ?_).eq S K
 delta Tryz.f86;simp only [↓cw,↓reduceIte,Nat.reduceLT,kk,tJ]
 by_cases h:8<l.length
 ·rw [if_pos (by omega),if_pos h]
 have h':¬ (8:Int)<(l.length:Int):=by omega
 simp only [↓cw,↓reduceIte,Nat.reduceLT,h,h',kk]
 refine aG l (step:=iY) (fin:=fun _=>true) (fun i s vs S=>s=cA l i∧vs=[.bool false,.int .i64 (i:Int)]) (fun r=>V.bool r=.bool (aD iY (fun _=>true) l none)) ?_ ?_ ⟨rfl,rfl⟩ rfl
 ·rintro i r s vs S hi ⟨rfl,rfl⟩ aF H
  have hil:=(List.getElem?_eq_some_iff.1 hi).1
  have hn:cA l (i+1)=some r:=by simpa [cA] using hi
  simp only [hn,iY] at H
  simp only [↓cw,↓reduceIte,Nat.reduceLT,kk,bG hi,sK hi,Ser.enc,aYy,gJ (show i<1000000000 by omega)]
  cases hna:gP r.name
  ·simp [hna] at H ⊢;exact H
  ·simp only [↓cw,↓reduceIte,Nat.reduceLT,hna,kk,Bool.true_eq_false,if_false] at H ⊢
   cases i with
   | zero=>
    simp only [↓cw,↓reduceIte,Nat.reduceLT,cA,kA,kk,Bool.false_eq_true,if_false,if_true,qM,Bool.or_eq_true,decide_eq_true_eq] at H ⊢
    simp only [↓cw,↓reduceIte,Nat.reduceLT,Int.natCast_zero,Int.lt_irrefl,kk,if_false]
    grind
   | succ j=>
    have hj:l[j]?=some l[j]:=List.getElem?_eq_getElem (by omega)
    have hp:cA l (j+1)=some l[j]:=by simp [cA,hj]
    simp only [↓cw,↓reduceIte,Nat.reduceLT,hp,gt0,kk,wrm (show j+1<1000000000 by omega),sK hj,Ser.enc,kA,qM,Bool.or_eq_true,decide_eq_true_eq] at H ⊢
    grind
 ·rintro s vs S ⟨rfl,rfl⟩ aF H
  simp only [↓cw,↓reduceIte,Nat.reduceLT,kk,Int.lt_irrefl]
  exact H
theorem aXp (x:Rate):x.enc.length=5∧aI x.enc=true:=⟨rfl,rfl⟩
end Go.Proofs.YtoaibmbldmckaaaGreat
end
section
namespace Go.AM
theorem aTm (n:Nat) (z:List V) (parts:List (Nat×V)) (fr:Option Nat) (S:St) (hn:n≤1000):cW n z 2 parts fr S=(match tW n [z,z] parts with
  | .error e=>.error e
  | .ok elems=>match bD fr S (.row 0 n elems) with
   | .error e=>.error e
   | .ok (a,S')=>.ok (.sl a 0 n 0 2,S')):=by
 unfold cW
 rw [if_pos (by omega)]
 rfl
theorem aXq (z:List V) (parts:List (Nat×V)) (fr:Option Nat) (S:St):type_of% (aTm 2 z parts fr S (by decide)):=aTm 2 z parts fr S (by decide)
theorem Own.bump {S0 S:St} {n:Nat} {v:V} {es:List (List V)} (h:Own S0 S n v es) (c:Nat):Own S0 ⟨S.next+c,S.heap⟩ n v es:=h.ext ((Ext.refl S).bump c)
theorem Own.newV {S0 S:St} {n:Nat} {v:V} {es:List (List V)} (h:Own S0 S n v es) (hp:es.all (fun cs=>cs.all kG)=true):newV S v=true:=by
 have he:=h.sl.elems
 rcases h.is with ⟨rfl,_⟩ | ⟨a,ver,tl,rfl,_⟩
 ·rfl
 ·simp only [Go.AM.newV,he,hp]
theorem aB1 {α:Type} {enc:α→List V} (h:∀ a,(enc a).all kG=true):∀ l:List α,(l.map enc).all (fun cs=>cs.all kG)=true
 | []=>rfl
 | a::l=>by simp only [List.map_cons,List.all_cons,h a,aB1 h l,Bool.and_self]
theorem aXr {n b:Nat} {S:St} {v:V} {es:List (List V)} (h:Own E0 S n v es) (w:WF S) {cs:List (List V)} (hc:∀ c,c∈cs→c.length=n∧aI c=true) (hne:cs≠[]) (h1:(es.length+cs.length)*b≤35184372088832) (h2:es.length+cs.length<fL):
  ∃ v' S',eW n b v (.sl S.next 0 n 0 cs.length) none ⟨S.next+1,S.heap.put S.next (.row 0 n cs)⟩=.ok (v',S')∧Own E0 S' n v' (es++cs)∧WF S'∧∀ y,y<S.next→(∀ a ver m,v=.sl a ver n 0 m→y≠a)→S'.heap.get y=S.heap.get y:=by
 have x:Ext S ⟨S.next+1,S.heap.put S.next (.row 0 n cs)⟩:=Ext.new w _
 have hu:aL ⟨S.next+1,S.heap.put S.next (.row 0 n cs)⟩ (.sl S.next 0 n 0 cs.length)=.ok cs:=by
  have hb:Nat.ble (0+cs.length) cs.length=true:=Nat.ble_eq_true_of_le (by omega)
  simp only [aL,aA,hb,cond_true,List.drop_zero,List.take_length]
 obtain ⟨v',S',q1,q2,_,q3,q4⟩:=(h.ext x).pushK (b:=b) (rZ (x.wf w)) rC hu hc hne h1 h2
 refine ⟨v',S',q1,q3,q2.wf rC,fun y hy hya=>?_⟩
 rw [q4 y (by show y<S.next+1;omega) hya]
 exact Tr.get_put_neB _ _ _ _ trivial (by omega)
end Go.AM
namespace Go.Proofs.YtoaibmbldmckaaaGreat
open Go.AM Tryz
set_option linter.unusedVariables false
set_option linter.unusedSimpArgs false
set_option maxRecDepth 100000
def Total.enc (t:Total):List V:=[.int .i64 t.net,.int .i64 t.tax,.int .i64 t.gross,.imm (t.parts.map Part.enc)]
def nN (t:Total):Prop:=t.parts.length≤12∧∀ q∈t.parts,q.cat.length≤1000000
theorem zJ {P:Program} {t:TypeId} {a b:List UInt8} (h:a.length+b.length<2000000):bW P .add t (.str a) (.str b)=.ok (.str (a++b)):=by
 have:Nat.blt (a.length+b.length) fL=true:=by rw [Nat.blt_eq];unfold fL;omega
 simp only [bW,xG,this,cond_true]
theorem aEz (x:Bal):x.enc.length=2∧aI x.enc=true:=⟨rfl,rfl⟩
theorem aKz (x:Part):x.enc.length=4∧aI x.enc=true:=⟨rfl,rfl⟩
theorem bEe (t:Total) (hf:nN t):FnK prog mE 157 [.agg [.int .i64 t.net,.int .i64 t.tax,.int .i64 t.gross,.imm (t.parts.map Part.enc)]] (.tup [.imm ((cG t).1.map Bal.enc),.int .i64 (cG t).2]):=by
 refine bGs ?_
 delta Tryz.f157;simp only [↓cw,↓reduceIte,Nat.reduceLT,kk,aTl]
 have hpl:=hf.1
 refine aG t.parts (step:=oR) (fin:=fun l=>(l,0)) (fun i s vs S=>∃ v,vs=[.nils,.int .i64 0,v,.int .i64 (i:Int)]∧Own E0 S 2 v (s.map Bal.enc)∧WF S∧s.length=1+2*i) (fun r=>r=cG t) ?_ ?_ (s:=[⟨[111,119,101,100],t.gross⟩]) ⟨_,rfl,⟨.inr ⟨1,0,[],rfl,Nat.zero_le _,Nat.lt_succ_self 1,rfl⟩,?_⟩,kR (kR (m:=1) rC (by decide) (by decide)) (by decide) (by decide),rfl⟩ rfl
 ·rintro i p s vs S hi ⟨v,rfl,own,w,hsl⟩ aF H
  have hil:=(List.getElem?_eq_some_iff.1 hi).1
  have hcat:=hf.2 p (List.mem_of_getElem? hi)
  simp only [↓cw,↓reduceIte,Nat.reduceLT,oR,kk] at H
  have e1:tK.length+p.cat.length<2000000:=by simp only [tK,List.length_cons,List.length_nil];omega
  have e2:tL.length+p.cat.length<2000000:=by simp only [tL,List.length_cons,List.length_nil];omega
  have c1:=zJ (P:=prog) (t:=9) e1
  have c2:=zJ (P:=prog) (t:=9) e2
  simp only [tK,tL] at c1 c2
  simp only [↓cw,↓reduceIte,Nat.reduceLT,kk,bG hi,iD hi,Part.enc,gJ (show i<1000000000 by omega),aYu,eQ,kE,c1,c2,aXq]
  by_cases h1:(bZ 0 p.net).2=0
  ·by_cases h2:(bZ 0 p.tax).2=0
   ·simp only [↓cw,↓reduceIte,Nat.reduceLT,h1,h2,kk,not_true_eq_false,if_false] at H ⊢
    have w1:WF ⟨S.next+1,(S.heap.put S.next (.row 0 4 [[V.str [],.int .i64 0,.int .i64 0,.int .i64 0]])).put S.next (.row 0 4 [p.enc])⟩:=kR (kR w (Nat.lt_succ_self _) (Nat.le_succ _)) (Nat.lt_succ_self _) (Nat.le_refl _)
    have x1:Ext S ⟨S.next+1,(S.heap.put S.next (.row 0 4 [[V.str [],.int .i64 0,.int .i64 0,.int .i64 0]])).put S.next (.row 0 4 [p.enc])⟩:=Ext.var w 4 _ _
    obtain ⟨v',S',q1,q2,q3,_⟩:=aXr (b:=24) (own.ext x1) w1 (cs:=[Bal.enc ⟨tK++p.cat,(bZ 0 p.net).1⟩,Bal.enc ⟨tL++p.cat,(bZ 0 p.tax).1⟩]) (fun c hc=>by
     rcases List.mem_cons.1 hc with rfl | hc
     ·exact aEz _
     ·rcases List.mem_cons.1 hc with rfl | hc
      ·exact aEz _
      ·cases hc) (by simp) (by simp;omega) (by simp [fL];omega)
    simp only [↓cw,↓reduceIte,Nat.reduceLT,Part.enc,Bal.enc,tK,tL,kk] at q1
    simp only [↓cw,↓reduceIte,Nat.reduceLT,q1,kk]
    exact H _ _ ⟨_,rfl,by rw [List.map_append];exact q2,q3,by rw [List.length_append,hsl];simp;omega⟩
   ·simp only [↓cw,↓reduceIte,Nat.reduceLT,h1,h2,kk,not_true_eq_false,not_false_eq_true,if_false,if_true] at H ⊢
    exact ⟨rfl,by simp only [oo,←H,List.map_nil]⟩
  ·simp only [↓cw,↓reduceIte,Nat.reduceLT,h1,kk,not_false_eq_true,if_true] at H ⊢
   exact ⟨rfl,by simp only [oo,←H,List.map_nil]⟩
 ·rintro s vs S ⟨v,rfl,own,w,_⟩ aF H
  have H':cG t=(s,0):=H.symm
  simp only [↓cw,↓reduceIte,Nat.reduceLT,kk,Int.lt_irrefl,if_false]
  exact ⟨by simp only [zZ,List.all_cons,List.all_nil,own.newV (aB1 (fun _=>rfl) _),Bool.true_and,Bool.and_true];rfl,by simp only [oo,own.frz (bM (fun _=>rfl) _),H']⟩
 ·intro c hc;simp at hc;subst hc;exact ⟨rfl,rfl⟩
theorem bIl (t:Total) (hf:nN t) (S:St) (K:KW):C 157 [.agg [.int .i64 t.net,.int .i64 t.tax,.int .i64 t.gross,.imm (t.parts.map Part.enc)]] S K=K (.tup [.imm ((cG t).1.map Bal.enc),.int .i64 (cG t).2]) S:=(bEe t hf).eq (by simp only [cloVs,lE,bM (enc:=Part.enc) (fun _=>rfl) t.parts,Bool.and_self]) S K
theorem bEf (l:List Bal) (hb:l.length<1000000):Fv 220 [.imm (l.map Bal.enc)] (.bool (sJ l)):=by
 refine bHg rfl ?_
 delta Tryz.f220;simp only [↓cw,↓reduceIte,Nat.reduceLT]
 refine aG (l.drop 1) (step:=qO) (fin:=fun _=>true) (fun j s vs S=>s=l[j]?∧vs=[.bool false,.int .i64 ((j+1:Nat):Int)]) (fun r=>V.bool r=.bool (sJ l)) ?_ ?_ (s:=l[0]?) ⟨rfl,rfl⟩ rfl
 ·rintro j b s vs S hi ⟨rfl,rfl⟩ aF H
  rw [List.getElem?_drop,Nat.add_comm] at hi
  have hil:=(List.getElem?_eq_some_iff.1 hi).1
  have hj:l[j]?=some l[j]:=List.getElem?_eq_getElem (by omega)
  simp only [hj,qO,hi] at H
  simp only [↓cw,↓reduceIte,Nat.reduceLT,kk,bG hi,mA hi,mA hj,Bal.enc,wrm (show j+1<1000000000 by omega),gJ (show j+1<1000000000 by omega)]
  cases c:kU l[j].acc b.acc<;>simp only [↓cw,↓reduceIte,Nat.reduceLT,c,kk,if_true,if_false,Bool.false_eq_true] at H ⊢
  ·exact H
  ·exact H _ _ rfl
 ·rintro s vs S ⟨rfl,rfl⟩ aF H
  have hn:¬ (((l.drop 1).length+1:Nat):Int)<(l.length:Int):=by rw [List.length_drop];omega
  simp only [↓cw,↓reduceIte,Nat.reduceLT,kk,hn]
  exact H
theorem bIm (l:List Bal) (hb:l.length<1000000) (S:St) (K:KW):C 220 [.imm (l.map Bal.enc)] S K=K (.bool (sJ l)) S:=(bEf l hb).eq S K
theorem bIn:apT prog 27=some (2,24):=by kernel_rfl
theorem bEg:mE 221=some (.spec ((Sp.ins 27).run prog)):=by kernel_rfl
theorem bEh (book l:List Bal) (hbb:book.length+l.length<1000000) (S:St) (K:KW):C 158 [.imm (book.map Bal.enc),.imm (l.map Bal.enc)] S K=K (.tup [.imm ((bY book l).1.map Bal.enc),.int .i64 (bY book l).2]) S:=by
 refine (bHx rfl ?_).eq S K
 simp only [aTb,kk,bIm book (show book.length<1000000 by omega),bY]
 by_cases hr:sJ book=true
 ·simp only [hr,kk,Bool.true_eq_false,if_false]
  obtain ⟨v0,S0,q0,x0,own0⟩:=bEa (b:=24) aEz book rC (by omega) (by unfold fL;omega)
  simp only [q0,kk]
  refine aG l (step:=bR) (fin:=fun l=>(l,0)) (fun i s vs S=>∃ v,vs=[.nils,.int .i64 0,v,.int .i64 (i:Int)]∧Own E0 S 2 v (s.map Bal.enc)∧WF S∧s.length≤book.length+i) (fun r=>r=aD bR (fun l=>(l,0)) l book) ?_ ?_ (s:=book) ⟨_,rfl,own0,x0.wf rC,Nat.le_refl _⟩ rfl
  ·rintro i x s vs S hi ⟨v,rfl,own,w,hsl⟩ aF H
   have hil:=(List.getElem?_eq_some_iff.1 hi).1
   rw [oS] at H
   simp only [aEv,kk,bG hi,mA hi,Bal.enc]
   obtain ⟨S1,hS1⟩:∃ S1:St,S1=⟨S.next+1,(S.heap.put S.next (.row 0 2 [[V.str [],.int .i64 0]])).put S.next (.row 0 2 [[.str x.acc,.int .i64 x.amount]])⟩:=⟨_,rfl⟩
   have x1:Ext S S1:=by rw [hS1];exact Ext.var w 2 _ _
   have w1:=x1.wf w
   have hg1:aC S1 S.next 0=.ok (2,[x.enc]):=by rw [hS1];exact aA _ _ _ _ _ _
   have own1:=own.ext x1
   have hlt1:S.next<S1.next:=by rw [hS1];exact Nat.lt_succ_self _
   rw [←hS1]
   have hva:∀ a ver m,v=.sl a ver 2 0 m→S.next≠a:=by
    intro a ver m hv
    rcases own.is with ⟨rfl,_⟩ | ⟨a',ver',tl,rfl,_,hlt,_⟩
    ·cases hv
    ·cases hv;omega
   have hlen:s.length<1000000:=by omega
   have hple:=mO s x.acc
   have hj1:∀ (v':V) (S':St),Own E0 S' 2 v' ((bK s x.acc).map Bal.enc)→WF S'→aC S' S.next 0=.ok (2,[x.enc])→zG C (fun v0 S0=>fW S0 v0=.ok (.tup [.imm ((aD bR (fun l=>(l,0)) l book).1.map Bal.enc),.int .i64 (aD bR (fun l=>(l,0)) l book).2])) aF .nils (.int .i64 0) v' (.ptr S.next 0 0 0) (.int .i64 (aJ s x.acc:Int)) (.imm (l.map Bal.enc)) (.int .i64 (l.length:Int)) (.int .i64 (i:Int)) S':=by
    intro v' S' own' w' hg'
    obtain ⟨b,hb⟩:=xZ s x.acc
    obtain ⟨a,ver,_,_,_,e4,hat,set1⟩:=(own'.bump 13).setK (rZ (w'.bump 13)) rC (i:=aJ s x.acc) (cs:=b.enc) (by simp [hb]) .i64
    obtain ⟨S2,st1,x2,n2,own2,keep2,w2⟩:=set1 1 1 (.int .i64 (iX b.amount x.amount).1) rfl rfl (by decide)
    have hld:=hat.load none 1
    simp only [adv,kk,Bal.enc] at hld
    have hfin:((bK s x.acc).map Bal.enc).set (aJ s x.acc) (splice b.enc 1 [.int .i64 (iX b.amount x.amount).1])=((bK s x.acc).set (aJ s x.acc) ⟨b.acc,(iX b.amount x.amount).1⟩).map Bal.enc:=by rw [List.map_set];rfl
    simp only [V.cells] at own2
    rw [hfin] at own2
    simp only [hb,Option.map_some,Option.getD_some,kk] at H
    have hg2:aC ⟨S'.next+13,S'.heap⟩ S.next 0=.ok (2,[x.enc]):=hg'
    simp only [Bal.enc] at hg2
    simp only [zG,e4,kk,hld,hg2,bI9,eQ,gJ (show i<1000000000 by omega),st1]
    by_cases h0:(iX b.amount x.amount).2=0
    ·simp only [h0,kk,not_true_eq_false,if_false] at H ⊢
     exact H _ _ ⟨_,rfl,own2,w2 (w'.bump 13),by rw [List.length_set];have:=yA s x.acc;omega⟩
    ·simp only [h0,kk,not_false_eq_true,if_true] at H ⊢
     simp only [oo,←H,List.map_nil]
   have hj2:∀ (S':St),Own E0 S' 2 v (s.map Bal.enc)→WF S'→aC S' S.next 0=.ok (2,[x.enc])→S.next<S'.next→vC C (fun v0 S0=>fW S0 v0=.ok (.tup [.imm ((aD bR (fun l=>(l,0)) l book).1.map Bal.enc),.int .i64 (aD bR (fun l=>(l,0)) l book).2])) aF .nils (.int .i64 0) v (.ptr S.next 0 0 0) (.int .i64 (aJ s x.acc:Int)) (.imm (l.map Bal.enc)) (.int .i64 (l.length:Int)) (.int .i64 (i:Int)) (.bool (fB s x.acc)) S':=by
    intro S' own' w' hg' hlt'
    cases hm:fB s x.acc
    ·simp only [vC,kk]
     exact hj1 v S' (by rw [show bK s x.acc=s by simp [bK,hm]];exact own') w' hg'
    ·obtain ⟨v2,S2,q1,w2,own2,keep2⟩:=bEd bIn (by decide) own' w' (aEz ⟨x.acc,0⟩) (by simp;omega) (by simp [fL];omega) (i:=aJ s x.acc) (by simpa using hple)
     rw [←aMm] at own2
     have hg2:=dW hg' (keep2 S.next hlt' hva)
     simp only [Bal.enc] at hg' q1
     simp only [vC,kk,hg',aTl]
     rw [bIk bEg q1]
     exact hj1 v2 S2 (by rw [show bK s x.acc=pF s (aJ s x.acc) ⟨x.acc,0⟩ by simp [bK,hm]];exact own2) w2 hg2
   have hj0:∀ (S':St),Own E0 S' 2 v (s.map Bal.enc)→WF S'→aC S' S.next 0=.ok (2,[x.enc])→S.next<S'.next→zH C (fun v0 S0=>fW S0 v0=.ok (.tup [.imm ((aD bR (fun l=>(l,0)) l book).1.map Bal.enc),.int .i64 (aD bR (fun l=>(l,0)) l book).2])) aF .nils (.int .i64 0) v (.ptr S.next 0 0 0) (.int .i64 (aJ s x.acc:Int)) (.imm (l.map Bal.enc)) (.int .i64 (l.length:Int)) (.int .i64 (i:Int)) S':=by
    intro S' own' w' hg' hlt'
    have h2:=hj2 ⟨S'.next+14,S'.heap⟩ (own'.bump 14) (w'.bump 14) hg' (by show S.next<S'.next+14;omega)
    have hgb:aC ⟨S'.next+14,S'.heap⟩ S.next 0=.ok (2,[x.enc]):=hg'
    simp only [Bal.enc] at hgb
    simp only [zH,own'.sl.lenI,kk]
    by_cases hk:aJ s x.acc=s.length
    ·have hm:fB s x.acc=true:=by unfold fB;rw [hk,List.getElem?_eq_none (Nat.le_refl _)]
     rw [hm] at h2
     simp only [hk,kk,eq_self,if_true]
     rw [hk] at h2
     exact h2
    ·have hlt:aJ s x.acc<s.length:=by omega
     have hb:s[aJ s x.acc]?=some s[aJ s x.acc]:=List.getElem?_eq_getElem hlt
     have hm:fB s x.acc=!((s[aJ s x.acc]).acc == x.acc):=by unfold fB;rw [hb]
     rw [hm] at h2
     obtain ⟨p,hp,hat,_,_⟩:=(own'.bump 14).sl.elem hb
     have hld:=hat.load none 0
     simp only [Bal.enc,kk] at hld
     simp only [show ¬ ((aJ s x.acc:Nat):Int)=(s.length:Int) by omega,kk,if_false,hp,hat.advW,hld,hgb]
     exact h2
   refine aG s (step:=mM (fun b:Bal=>kU b.acc x.acc)) (fin:=id) (fun k n vs S'=>n=k∧vs=[.int .i64 (k:Int)]∧S'.heap=S1.heap∧S1.next≤S'.next) (fun r=>r=aJ s x.acc) ?_ ?_ ⟨rfl,rfl,rfl,Nat.le_refl _⟩ rfl
   ·rintro k b n vs S' hk ⟨rfl,rfl,hh,hn⟩ again' H'
    have hkl:=(List.getElem?_eq_some_iff.1 hk).1
    have hown:∀ c,Own E0 ⟨S'.next+c,S'.heap⟩ 2 v (s.map Bal.enc):=fun c=>own1.same (by show S1.next≤S'.next+c;omega) (fun a _=>by show S'.heap.get a=_;rw [hh])
    have hw:∀ c,WF ⟨S'.next+c,S'.heap⟩:=fun c a b hb=>by
     have hb:S'.heap.get a=some b:=hb
     rw [hh] at hb;have:=w1 a b hb;show a<S'.next+c;omega
    have hgr:∀ c,aC ⟨S'.next+c,S'.heap⟩ S.next 0=.ok (2,[x.enc]):=fun c=>by
     show aC ⟨S'.next,S'.heap⟩ S.next 0=_
     rw [hh];exact hg1
    have hgb:=hgr 14
    simp only [Bal.enc] at hgb
    obtain ⟨p,hp,hat,_,_⟩:=(hown 14).sl.elem hk
    have hld:=hat.load none 0
    simp only [Bal.enc,kk] at hld
    simp only [mM] at H'
    simp only [aEu,kk,own1.sl.lenI,bG hk,hp,hat.advW,hld,hgb,gJ (show n<1000000000 by omega)]
    cases c:kU b.acc x.acc<;>simp only [c,kk,if_true,if_false,Bool.false_eq_true] at H' ⊢
    ·have:=hj0 ⟨S'.next+14,S'.heap⟩ (hown 14) (hw 14) (hgr 14) (by show S.next<S'.next+14;omega)
     rw [←H'] at this
     exact this
    ·exact H' _ _ ⟨rfl,hh,by show S1.next≤S'.next+14;omega⟩
   ·rintro n vs S' ⟨rfl,rfl,hh,hn⟩ again' H'
    have hown:∀ c,Own E0 ⟨S'.next+c,S'.heap⟩ 2 v (s.map Bal.enc):=fun c=>own1.same (by show S1.next≤S'.next+c;omega) (fun a _=>by show S'.heap.get a=_;rw [hh])
    have hw:∀ c,WF ⟨S'.next+c,S'.heap⟩:=fun c a b hb=>by
     have hb:S'.heap.get a=some b:=hb
     rw [hh] at hb;have:=w1 a b hb;show a<S'.next+c;omega
    have hgr:∀ c,aC ⟨S'.next+c,S'.heap⟩ S.next 0=.ok (2,[x.enc]):=fun c=>by
     show aC ⟨S'.next,S'.heap⟩ S.next 0=_
     rw [hh];exact hg1
    have H':s.length=aJ s x.acc:=H'
    simp only [aEu,kk,own1.sl.lenI,Int.lt_irrefl]
    have:=hj0 ⟨S'.next+14,S'.heap⟩ (hown 14) (hw 14) (hgr 14) (by show S.next<S'.next+14;omega)
    rw [←H'] at this
    exact this
  ·rintro s vs S ⟨v,rfl,own,w,_⟩ aF H
   have H':aD bR (fun l=>(l,0)) l book=(s,0):=H.symm
   simp only [aEv,kk,Int.lt_irrefl,oo,own.frz (bM (fun _=>rfl) _),H']
 ·have hr:sJ book=false:=by simpa using hr
  simp only [hr,kk,oo,if_true,List.map_nil]
end Go.Proofs.YtoaibmbldmckaaaGreat
end
section
namespace Go.AM
theorem Own.one {S0 S:St} {n:Nat} {v:V} {es:List (List V)} (h:Own S0 S n v es):v.one=true:=by
 rcases h.is with ⟨rfl,_⟩ | ⟨a,ver,tl,rfl,_⟩<;>rfl
theorem Own.cells {S0 S:St} {n:Nat} {v:V} {es:List (List V)} (h:Own S0 S n v es):v.cells=[v]:=by
 rcases h.is with ⟨rfl,_⟩ | ⟨a,ver,tl,rfl,_⟩<;>rfl
theorem Own.lt {S0 S:St} {n:Nat} {v:V} {es:List (List V)} (h:Own S0 S n v es):∀ a ver m,v=.sl a ver n 0 m→a<S.next:=by
 intro a ver m hv
 rcases h.is with ⟨rfl,_⟩ | ⟨a',ver',tl,rfl,_,hlt,_⟩
 ·cases hv
 ·cases hv;exact hlt
theorem Own.ld {S0 S:St} {n:Nat} {v:V} {es:List (List V)} (h:Own S0 S n v es) {a ver m:Nat} (hv:v=.sl a ver n 0 m) {i:Nat} {cs:List V} (hi:es[i]?=some cs) (k:Option Nat) (j:Nat):fN k (.ptr a ver i j) S=gO k cs j:=by
 rcases h.is with ⟨rfl,rfl⟩ | ⟨a',ver',tl,rfl,q1,q2,q3⟩
 ·simp at hi
 ·cases hv
  have hil:=(List.getElem?_eq_some_iff.1 hi).1
  have hg:(es++tl)[i]?=some cs:=by rw [List.getElem?_append_left hil];exact hi
  simp only [ldP,aE q3,hg]
theorem Own.put {S0 S:St} {n:Nat} {v:V} {es:List (List V)} (h:Own S0 S n v es) {k m:Nat} {b:Blk} (hm:S.next≤m) (hk:∀ a ver m,v=.sl a ver n 0 m→k≠a):Own S0 ⟨m,S.heap.put k b⟩ n v es:=
 h.other hm fun a ver m hv=>Tr.get_put_neB _ _ _ _ trivial (Ne.symm (hk a ver m hv))
theorem Ext.put {S S':St} (h:Ext S S') {a m:Nat} (ha:S.next≤a) (hb:a<m) (hm:S'.next≤m) (w:WF S) (b:Blk):Ext S ⟨m,S'.heap.put a b⟩:=
 ⟨fun y c hy=>by
  show (S'.heap.put a b).get y=some c
  have:=w y c hy
  rw [Tr.get_put_neB _ _ _ _ trivial (by omega)];exact h.old y c hy,Nat.le_trans h.next hm,fun ww=>kR (h.wf ww) hb hm⟩
end Go.AM
namespace Go.Proofs.YtoaibmbldmckaaaGreat
open Go.AM Tryz
set_option linter.unusedVariables false
set_option linter.unusedSimpArgs false
set_option maxRecDepth 100000
end Go.Proofs.YtoaibmbldmckaaaGreat
end
section
namespace Go.AM
theorem Own.out {S0 S:St} {n:Nat} {v:V} {α:Type} {enc:α→List V} {l:List α} (h:Own S0 S n v (l.map enc)) (hc:∀ x,cloVs (enc x)=true):cZ lH (lR (iP S 3) S) v=.ok (.imm (l.map enc)):=h.frz (bM hc _)
end Go.AM
namespace Go.Proofs.YtoaibmbldmckaaaGreat
open Go.AM Tryz
set_option linter.unusedVariables false
set_option linter.unusedSimpArgs false
set_option maxRecDepth 100000
def aGu (r:Total×Int):V:=.tup [.agg [.int .i64 r.1.net,.int .i64 r.1.tax,.int .i64 r.1.gross,.imm (r.1.parts.map Part.enc)],.int .i64 r.2]
end Go.Proofs.YtoaibmbldmckaaaGreat
end
section
namespace Go.AM
theorem aXs (n:Nat) (z:List V) (parts:List (Nat×V)) (fr:Option Nat) (S:St) (hn:n≤1000):cW n z 3 parts fr S=(match tW n [z,z,z] parts with
  | .error e=>.error e
  | .ok elems=>match bD fr S (.row 0 n elems) with
   | .error e=>.error e
   | .ok (a,S')=>.ok (.sl a 0 n 0 3,S')):=by
 unfold cW
 rw [if_pos (by omega)]
 rfl
theorem bEi (z:List V) (parts:List (Nat×V)) (fr:Option Nat) (S:St):type_of% (aXs 1 z parts fr S (by decide)):=aXs 1 z parts fr S (by decide)
theorem aIq (z:List V) (parts:List (Nat×V)) (fr:Option Nat) (S:St):type_of% (aTm 1 z parts fr S (by decide)):=aTm 1 z parts fr S (by decide)
theorem ix3 (b:Nat):(∀ k:IntKind,fK 1 (.sl b 0 1 0 3) (.int k 0)=.ok (.ptr b 0 0 0))∧(∀ k:IntKind,fK 1 (.sl b 0 1 0 3) (.int k 1)=.ok (.ptr b 0 1 0))∧(∀ k:IntKind,fK 1 (.sl b 0 1 0 3) (.int k 2)=.ok (.ptr b 0 2 0)) ∧
  (∀ k:IntKind,fK 1 (.sl b 0 1 0 2) (.int k 0)=.ok (.ptr b 0 0 0))∧(∀ k:IntKind,fK 1 (.sl b 0 1 0 2) (.int k 1)=.ok (.ptr b 0 1 0)):=⟨fun _=>rfl,fun _=>rfl,fun _=>rfl,fun _=>rfl,fun _=>rfl⟩
theorem bX {n m:Nat} {h:Tr Blk} {a c ver k:Nat} {b:Blk} {el:List (List V)} (hne:c≠a) (hg:aC ⟨n,h⟩ c ver=.ok (k,el)):aC ⟨m,h.put a b⟩ c ver=.ok (k,el):=by
 rw [sI m n h a c ver b hne];exact hg
end Go.AM
namespace Go.Proofs.YtoaibmbldmckaaaGreat
open Go.AM Tryz
set_option linter.unusedVariables false
set_option linter.unusedSimpArgs false
set_option maxRecDepth 100000
theorem bEj {S:St} {a b:Nat} {q:V} {x y z:Int} (hb:aC S b 0=.ok (1,[[.ptr a 0 0 0],[.ptr a 0 0 1],[.ptr a 0 0 2]])) (ha:aC S a 0=.ok (4,[[.int .i64 x,.int .i64 y,.int .i64 z,q]])) (hne:b≠a) (han:a<S.next) {K:KW}
  (H:∀ S',S'.next=S.next→(∀ y,y≠a→S'.heap.get y=S.heap.get y)→(WF S→WF S')→((fP [x,y,z]).2=0→aC S' a 0=.ok (4,[[.int .i64 ((fP [x,y,z]).1.getD 0 0),.int .i64 ((fP [x,y,z]).1.getD 1 0),.int .i64 ((fP [x,y,z]).1.getD 2 0),q]]))→K (.int .i64 (fP [x,y,z]).2) S'):C 259 [.sl b 0 1 0 3] S K:=by
 refine bAb ?_
 delta Tryz.f259;simp only [↓cw,↓reduceIte,Nat.reduceLT,kk]
 have hne':(b=a)=False:=by simp [hne]
 have key:∀ (cs:List V) (h:Tr Blk),(∀ y,y≠a→h.get y=S.heap.get y)→∀ y,y≠a→(h.put a (.row 0 4 [cs])).get y=S.heap.get y:=fun cs h hh y hy=>by rw [Tr.get_put_neB _ _ _ _ trivial hy];exact hh y hy
 have kw:∀ (cs:List V) (h:Tr Blk),(WF S→WF ⟨S.next,h⟩)→WF S→WF ⟨S.next,h.put a (.row 0 4 [cs])⟩:=fun cs h hh w=>kR (hh w) han (Nat.le_refl _)
 have e0:∀ y,y≠a→S.heap.get y=S.heap.get y:=fun _ _=>rfl
 have w0:WF S→WF ⟨S.next,S.heap⟩:=fun w=>w
 refine ⟨4,?_⟩
 simp only [↓cw,↓reduceIte,Nat.reduceLT,aAi,kk,show ((3:Nat):Int)=3 from rfl,show (0:Int)<3 by decide,show (1:Int)<3 by decide,show (2:Int)<3 by decide,show ¬ (3:Int)<3 by decide,ix3,hb,ha,aYu,eQ,kE,hne',gm,ldP,show wr .i64 (0+1)=1 from rfl,show wr .i64 (1+1)=2 from rfl,show wr .i64 (2+1)=3 from rfl]
 simp only [fP,aD,oT,ne_eq] at H
 by_cases c1:(bZ 0 x).2=0
 ·by_cases c2:(bZ 0 y).2=0
  ·by_cases c3:(bZ 0 z).2=0
   ·simp only [↓cw,↓reduceIte,Nat.reduceLT,c1,c2,c3,kk,if_false,not_true_eq_false] at H ⊢
    exact H _ rfl (key _ _ (key _ _ (key _ _ e0))) (kw _ _ (kw _ _ (kw _ _ w0))) fun _=>aA _ _ _ _ _ _
   ·simp only [↓cw,↓reduceIte,Nat.reduceLT,c1,c2,c3,kk,if_false,if_true,not_true_eq_false,not_false_eq_true] at H ⊢
    exact H _ rfl (key _ _ (key _ _ e0)) (kw _ _ (kw _ _ w0)) fun h=>h.elim
  ·simp only [↓cw,↓reduceIte,Nat.reduceLT,c1,c2,kk,if_false,if_true,not_true_eq_false,not_false_eq_true] at H ⊢
   exact H _ rfl (key _ _ e0) (kw _ _ w0) fun h=>h.elim
 ·simp only [↓cw,↓reduceIte,Nat.reduceLT,c1,kk,if_true,not_false_eq_true] at H ⊢
  exact H S rfl e0 id fun h=>h.elim
theorem bEk {S:St} {v:V} {es:List (List V)} (own:Own E0 S 4 v es) (w:WF S) {a b ver m i:Nat} (hv:v=.sl a ver 4 0 m) {c:List UInt8} {bp x y:Int} (hi:es[i]?=some [.str c,.int .i64 bp,.int .i64 x,.int .i64 y]) (hb:aC S b 0=.ok (1,[[.ptr a ver i 2],[.ptr a ver i 3]])) (hne:b≠a) {K:KW}
  (H:∀ S',S'.next=S.next→(∀ y,y≠a→S'.heap.get y=S.heap.get y)→WF S'→((fP [x,y]).2=0→Own E0 S' 4 v (es.set i [.str c,.int .i64 bp,.int .i64 ((fP [x,y]).1.getD 0 0),.int .i64 ((fP [x,y]).1.getD 1 0)]))→K (.int .i64 (fP [x,y]).2) S'):C 259 [.sl b 0 1 0 2] S K:=by
 refine bAb ?_
 delta Tryz.f259;simp only [↓cw,↓reduceIte,Nat.reduceLT,kk]
 have hil:=(List.getElem?_eq_some_iff.1 hi).1
 obtain ⟨a1,ver1,hv1,_,_,_,_,set1⟩:=own.setK (rZ w) rC hi .i64
 obtain ⟨rfl,rfl⟩:a1=a∧ver1=ver:=by rw [hv] at hv1;injection hv1 with h1 h2;exact ⟨h1.symm,h2.symm⟩
 obtain ⟨S2,st1,x2,n2,own2,keep2,w2⟩:=set1 2 1 (.int .i64 (bZ 0 x).1) rfl rfl (by decide)
 have hi2:(es.set i (splice [.str c,.int .i64 bp,.int .i64 x,.int .i64 y] 2 [.int .i64 (bZ 0 x).1]))[i]?=some [.str c,.int .i64 bp,.int .i64 (bZ 0 x).1,.int .i64 y]:=by rw [List.getElem?_set_self hil];rfl
 obtain ⟨a2,ver2,hv2,_,_,_,_,set2⟩:=own2.setK x2 rC hi2 .i64
 obtain ⟨rfl,rfl⟩:a2=a1∧ver2=ver1:=by rw [hv] at hv2;injection hv2 with h1 h2;exact ⟨h1.symm,h2.symm⟩
 obtain ⟨S3,st2,x3,n3,own3,keep3,w3⟩:=set2 3 1 (.int .i64 (bZ 0 y).1) rfl rfl (by decide)
 have l1:=own.ld hv hi none 2
 have l2:=own2.ld hv hi2 none 3
 have hb2:=dW hb (keep2 b hne)
 simp only [V.cells,List.set_set] at own3
 simp only [↓cw,↓reduceIte,Nat.reduceLT,kk] at l1 l2
 refine ⟨3,?_⟩
 simp only [↓cw,↓reduceIte,Nat.reduceLT,aAi,kk,show ((2:Nat):Int)=2 from rfl,show (0:Int)<2 by decide,show (1:Int)<2 by decide,show ¬ (2:Int)<2 by decide,ix3,ldP none b,hb,hb2,aYu,eQ,l1,l2,st1,st2,show wr .i64 (0+1)=1 from rfl,show wr .i64 (1+1)=2 from rfl]
 simp only [fP,aD,oT,ne_eq] at H
 by_cases c1:(bZ 0 x).2=0
 ·by_cases c2:(bZ 0 y).2=0
  ·simp only [↓cw,↓reduceIte,Nat.reduceLT,c1,c2,kk,if_false,not_true_eq_false] at H ⊢
   exact H S3 (n3.trans n2) (fun y hy=>(keep3 y hy).trans (keep2 y hy)) (w3 (w2 w)) fun _=>own3
  ·simp only [↓cw,↓reduceIte,Nat.reduceLT,c1,c2,kk,if_false,if_true,not_true_eq_false,not_false_eq_true] at H ⊢
   exact H S2 n2 keep2 (w2 w) fun h=>h.elim
 ·simp only [↓cw,↓reduceIte,Nat.reduceLT,c1,kk,if_true,not_false_eq_true] at H ⊢
  exact H S rfl (fun _ _=>rfl) w fun h=>h.elim
theorem bIo (t:Total) (hf:t.parts.length≤1000) (S:St) (K:KW):C 228 [.agg [.int .i64 t.net,.int .i64 t.tax,.int .i64 t.gross,.imm (t.parts.map Part.enc)]] S K=K (aGu (fH t)) S:=by
 refine (bHn rfl ?_).eq S K
 delta Tryz.f228;simp only [↓cw,↓reduceIte,Nat.reduceLT,kk,kE,aGu]
 obtain ⟨S1,hS1⟩:∃ S1:St,S1=⟨1+1,(Tr.nil.put 0 (Blk.row 0 4 [[.int .i64 t.net,.int .i64 t.tax,.int .i64 t.gross,.imm (t.parts.map Part.enc)]])).put 1 (.row 0 4 [[.int .i64 0,.int .i64 0,.int .i64 0,.nils]])⟩:=⟨_,rfl⟩
 have w1:WF S1:=by rw [hS1];exact kR (n:=1) (kR rC (by decide) (by decide)) (by decide) (by decide)
 have a0:aC S1 0 0=.ok (4,[[.int .i64 t.net,.int .i64 t.tax,.int .i64 t.gross,.imm (t.parts.map Part.enc)]]):=by rw [hS1];rfl
 have a1:aC S1 1 0=.ok (4,[[.int .i64 0,.int .i64 0,.int .i64 0,.nils]]):=by rw [hS1];rfl
 obtain ⟨v,S2,q1,x2,own⟩:=bEb (b:=40) aKz t.parts w1 (by omega) (by unfold fL;omega)
 have n1:S1.next=2:=by rw [hS1]
 have n2:=x2.next
 rw [←hS1]
 have b0:=x2.row a0
 have b1:=x2.row a1
 have o1:=own.one
 have o2:=own.cells
 have hvn:∀ a ver m,v=.sl a ver 4 0 m→2≤a:=by
  intro a ver m hv
  rcases own.is with ⟨rfl,_⟩ | ⟨a',ver',tl,rfl,h,_⟩
  ·cases hv
  ·cases hv;omega
 simp only [↓cw,↓reduceIte,Nat.reduceLT,q1,kk,o1,o2,b0,bEi]
 have nn:∀ k,k<2→∀ a ver m,v=.sl a ver 4 0 m→k≠a:=fun k hk a ver m hv=>by have:=hvn a ver m hv;omega
 have nS:∀ a ver m,v=.sl a ver 4 0 m→S2.next≠a:=fun a ver m hv=>by have:=own.lt a ver m hv;omega
 have oA:=((own.put (m:=S2.next) (b:=.row 0 4 [[.int .i64 t.net,.int .i64 t.tax,.int .i64 t.gross,v]]) (Nat.le_refl _) (nn 0 (by decide))).put (k:=S2.next) (m:=S2.next+1) (b:=.row 0 1 [[.ptr 0 0 0 0],[.ptr 0 0 0 1],[.ptr 0 0 0 2]]) (Nat.le_succ _) nS).weaken (A:=E0) (Nat.zero_le _)
 have wA:WF ⟨S2.next+1,(S2.heap.put 0 (.row 0 4 [[.int .i64 t.net,.int .i64 t.tax,.int .i64 t.gross,v]])).put S2.next (.row 0 1 [[.ptr 0 0 0 0],[.ptr 0 0 0 1],[.ptr 0 0 0 2]])⟩:=kR (n:=S2.next) (kR (n:=S2.next) (x2.wf w1) (by omega) (Nat.le_refl _)) (by omega) (by omega)
 have bA:aC ⟨S2.next+1,(S2.heap.put 0 (.row 0 4 [[.int .i64 t.net,.int .i64 t.tax,.int .i64 t.gross,v]])).put S2.next (.row 0 1 [[.ptr 0 0 0 0],[.ptr 0 0 0 1],[.ptr 0 0 0 2]])⟩ 1 0=.ok (4,[[.int .i64 0,.int .i64 0,.int .i64 0,.nils]]):=bX (n:=S2.next) (by omega) (bX (n:=S2.next) (by decide) b1)
 refine bEj (S:=⟨S2.next+1,(S2.heap.put 0 (.row 0 4 [[.int .i64 t.net,.int .i64 t.tax,.int .i64 t.gross,v]])).put S2.next (.row 0 1 [[.ptr 0 0 0 0],[.ptr 0 0 0 1],[.ptr 0 0 0 2]])⟩) (aA _ _ _ _ _ _) (bX (n:=S2.next) (by omega) (aA S2.next _ _ _ _ _)) (by omega) (by show 0<S2.next+1;omega) fun S3 n3 keep3 w3 g3=>?_
 have n3:S3.next=S2.next+1:=n3
 have c1:=dW bA (keep3 1 (by decide))
 have o3:Own E0 S3 4 v (t.parts.map Part.enc):=oA.other (by show S2.next+1≤S3.next;omega) fun a ver m hv=>keep3 a (by have:=hvn a ver m hv;omega)
 simp only [↓cw,↓reduceIte,Nat.reduceLT,kk,fH]
 by_cases h0:(fP [t.net,t.tax,t.gross]).2=0
 ·have g3:=g3 h0
  have hlen:lenW v=.ok (.int .i64 (t.parts.length:Int)):=own.sl.lenI
  obtain ⟨x,hx⟩:∃ x,x=(fP [t.net,t.tax,t.gross]).1.getD 0 0:=⟨_,rfl⟩
  obtain ⟨y,hy⟩:∃ y,y=(fP [t.net,t.tax,t.gross]).1.getD 1 0:=⟨_,rfl⟩
  obtain ⟨z,hz⟩:∃ z,z=(fP [t.net,t.tax,t.gross]).1.getD 2 0:=⟨_,rfl⟩
  simp only [←hx,←hy,←hz] at g3 ⊢
  simp only [↓cw,↓reduceIte,Nat.reduceLT,h0,kk,not_true_eq_false,if_false,g3,hlen]
  refine aG t.parts (step:=eH) (fin:=fun l=>(l,0)) (fun i s vs S=>vs=[.int .i64 0,.int .i64 (i:Int)]∧Own E0 S 4 v ((s++t.parts.drop i).map Part.enc)∧s.length=i∧WF S∧2≤S.next∧aC S 0 0=.ok (4,[[.int .i64 x,.int .i64 y,.int .i64 z,v]])∧aC S 1 0=.ok (4,[[.int .i64 0,.int .i64 0,.int .i64 0,.nils]])) (fun r=>r=aD eH (fun l=>(l,0)) t.parts []) ?_ ?_ (s:=[]) ⟨rfl,by simpa using o3,rfl,w3 wA,by omega,g3,c1⟩ rfl
  ·rintro i p s vs S hi ⟨rfl,own,hd,w,hn,r0,r1⟩ aF H
   have hil:=(List.getElem?_eq_some_iff.1 hi).1
   have hpi:((s++t.parts.drop i).map Part.enc)[i]?=some p.enc:=by
    rw [List.getElem?_map,List.getElem?_append_right (by omega),hd,Nat.sub_self,List.getElem?_drop,Nat.add_zero,hi];rfl
   obtain ⟨a,ver,hv,_,hb,e4,_,_⟩:=own.setK (rZ w) rC hpi .i64
   simp only [eH] at H
   simp only [↓cw,↓reduceIte,Nat.reduceLT,kk,bG hi,gm,r0,e4,aIq,gJ (show i<1000000000 by omega)]
   have oB:=own.put (k:=S.next+10) (m:=S.next+13) (b:=.row 0 1 [[.ptr a ver i 2],[.ptr a ver i 3]]) (by omega) fun a ver m hv=>by have:=own.lt a ver m hv;omega
   refine bEk oB (kR (n:=S.next) w (by omega) (by omega)) hv hpi (aA _ _ _ _ _ _) (by omega) fun S4 n4 keep4 w4 g4=>?_
   have n4:S4.next=S.next+13:=n4
   have ha2:=hvn a ver _ hv
   have d0:=dW (bX (n:=S.next) (m:=S.next+13) (a:=S.next+10) (b:=.row 0 1 [[.ptr a ver i 2],[.ptr a ver i 3]]) (by omega) r0) (keep4 0 (by omega))
   have d1:=dW (bX (n:=S.next) (m:=S.next+13) (a:=S.next+10) (b:=.row 0 1 [[.ptr a ver i 2],[.ptr a ver i 3]]) (by omega) r1) (keep4 1 (by omega))
   by_cases c:(fP [p.net,p.tax]).2=0
   ·have g4:=g4 c
    simp only [↓cw,↓reduceIte,Nat.reduceLT,c,kk,not_true_eq_false,if_false] at H ⊢
    refine H _ _ ⟨rfl,?_,by simp;omega,w4,by omega,d0,d1⟩
    have:((s++t.parts.drop i).map Part.enc).set i [.str p.cat,.int .i64 p.bp,.int .i64 ((fP [p.net,p.tax]).1.getD 0 0),.int .i64 ((fP [p.net,p.tax]).1.getD 1 0)]=((s++[{ p with net:=(fP [p.net,p.tax]).1.getD 0 0,tax:=(fP [p.net,p.tax]).1.getD 1 0 }])++t.parts.drop (i+1)).map Part.enc:=by
     rw [List.drop_eq_getElem_cons hil,(List.getElem?_eq_some_iff.1 hi).2]
     simp only [List.map_append,List.map_cons,List.map_nil,List.append_assoc,List.singleton_append]
     rw [List.set_append_right _ _ (by simp;omega)]
     simp only [List.length_map,hd,Nat.sub_self,List.set_cons_zero]
     rfl
    rw [this] at g4
    exact g4
   ·simp only [↓cw,↓reduceIte,Nat.reduceLT,c,kk,not_false_eq_true,if_true,d1] at H ⊢
    simp only [oo,←H,c,not_false_eq_true,if_true,Total.zero,List.map_nil]
  ·rintro s vs S ⟨rfl,own,hd,w,hn,r0,r1⟩ aF H
   rw [List.drop_length,List.append_nil] at own
   have H':aD eH (fun l=>(l,0)) t.parts []=(s,0):=H.symm
   have:=(own.put (m:=S.next) (k:=1) (b:=.row 0 4 [[.int .i64 x,.int .i64 y,.int .i64 z,v]]) (Nat.le_refl _) (nn 1 (by decide))).out fun _=>rfl
   simp only [↓cw,↓reduceIte,Nat.reduceLT,kk,Int.lt_irrefl,if_false,r0,r1,o1,o2,H',not_true_eq_false]
   simp only [oo,this]
 ·simp only [↓cw,↓reduceIte,Nat.reduceLT,h0,kk,not_false_eq_true,if_true,c1]
  simp only [oo,Total.zero,List.map_nil]
end Go.Proofs.YtoaibmbldmckaaaGreat
end
section
namespace Go.AM
theorem Fn.back {P:Program} {pl:gX} {f:FuncId} {args:List V} {v:V} (h:∀ S K,W P pl f args S K=K v S):Fn P pl f args v:=fun S=>by
 have h1:=h S fun v' S'=>v'=v∧S'=S
 obtain ⟨v',S',e,rfl,rfl⟩:=h1.mpr ⟨rfl,rfl⟩
 exact e
theorem Own.arg {P:Program} {pl:gX} {f:FuncId} {p:Nat→Option (List bH)} (hpl:pl f=some (.val p)) {S0 S:St} {n:Nat} {v r:V} {es:List (List V)} (h:Own S0 S n v es) (hc:es.all cloVs=true) (hf:∀ S K,W P pl f [.imm es] S K=K r S) (hk:gV r=true) (K:KW):W P pl f [v] S K=K r S:=
 (Fn.back hf).frz hpl rfl (by simp only [frzVs,h.frz hc]) (by simp only [ptrsVs,h.ptrs];rfl) (.inl hk) K
theorem Own.there {S0 S:St} {n:Nat} {v:V} {es:List (List V)} (h:Own S0 S n v es) {y:Nat} (hy:blkOf v=some y):S.heap.get y≠none:=by
 rcases h.is with ⟨rfl,_⟩ | ⟨a,ver,tl,rfl,_,_,hg⟩
 ·cases hy
 ·cases hy;rw [hg];exact fun h=>by cases h
theorem aD9 {n b:Nat} {S:St} {v:V} {es:List (List V)} (h:Own E0 S n v es) (w:WF S) {k1 k2 m:Nat} (f1:S.heap.get k1=none) (f2:S.heap.get k2=none) (hne:k1≠k2) (hm1:k1<m) (hm2:k2<m) (hm:S.next≤m) {c:List V} (hc:c.length=n∧aI c=true) (h1:(es.length+1)*b≤35184372088832) (h2:es.length+1<fL):
  ∃ v' S',eW n b v (.sl k1 0 n 0 1) (some k2) ⟨m,S.heap.put k1 (.row 0 n [c])⟩=.ok (v',S')∧WF S'∧S'.next=m∧Own E0 S' n v' (es++[c])∧(blkOf v'=some k2∨blkOf v'=blkOf v)∧∀ y,y≠k1→y≠k2→blkOf v≠some y→S'.heap.get y=S.heap.get y:=by
 have w1:WF ⟨m,S.heap.put k1 (.row 0 n [c])⟩:=kR (n:=S.next) w hm1 hm
 have h':Own E0 ⟨m,S.heap.put k1 (.row 0 n [c])⟩ n v es:=h.same hm fun a ha=>Tr.get_put_neB _ _ _ _ trivial fun e=>h.there ha (by rw [e];exact f1)
 have hu:aL ⟨m,S.heap.put k1 (.row 0 n [c])⟩ (.sl k1 0 n 0 1)=.ok [c]:=by
  simp only [aL,aA];rfl
 have hf:(⟨m,S.heap.put k1 (.row 0 n [c])⟩:St).heap.get k2=none:=by
  show (S.heap.put k1 _).get k2=none
  rw [Tr.get_put_neB _ _ _ _ trivial (Ne.symm hne)];exact f2
 obtain ⟨v',S',q1,q2,q3,q4,q5,q6⟩:=h'.pushAt (b:=b) (rZ w1) rC hu (fun d hd=>by rcases List.mem_singleton.1 hd with rfl;exact hc) (by simp) (Nat.zero_le _) hm2 hf h1 h2
 refine ⟨v',S',q1,q2.wf rC,q3,q4,q5,fun y y1 y2 y3=>?_⟩
 rw [q6 y y2 y3]
 exact Tr.get_put_neB _ _ _ _ trivial y1
theorem fresh {S:St} (w:WF S) {k:Nat} (hk:S.next≤k):S.heap.get k=none:=by
 cases hq:S.heap.get k with
 | none=>rfl
 | some b=>have:=w k b hq;omega
end Go.AM
namespace Go.Proofs.YtoaibmbldmckaaaGreat
open Go.AM Tryz
set_option linter.unusedVariables false
set_option linter.unusedSimpArgs false
set_option maxRecDepth 100000
theorem aC6 (x:Int):(cM x).length=1∧aI (cM x)=true:=⟨rfl,rfl⟩
theorem aMt {S0 S:St} {v:V} {l:List Int} (h:Own S0 S 1 v (l.map cM)) (hl:l.length<1000000) (K:KW):C 218 [v] S K=K (.tup [.int .i64 (bO l).1,.bool (bO l).2]) S:=h.arg bA8 (bM (fun _=>rfl) _) (fun S K=>bIc l hl S K) rfl K
theorem bIp (t:Total) (hl:t.parts.length<100000) (S:St) (K:KW):C 226 [.agg [.int .i64 t.net,.int .i64 t.tax,.int .i64 t.gross,.imm (t.parts.map Part.enc)]] S K=K (.bool (gQ t)) S:=by
 refine (bHl rfl ?_).eq S K
 delta Tryz.f226;simp only [↓cw,↓reduceIte,Nat.reduceLT,kk]
 refine aG t.parts (step:=rR) (fin:=id) (fun i s vs S=>∃ u v,vs=[u,v,.int .i64 (i:Int)]∧Own E0 S 1 u (s.1.map cM)∧Own E0 S 1 v (s.2.map cM)∧s.1.length=i∧s.2.length=i∧WF S∧(∀ y,AM.blkOf u=some y→AM.blkOf v≠some y)∧AM.blkOf u≠some 0∧AM.blkOf v≠some 0∧aC S 0 0=.ok (4,[[.int .i64 t.net,.int .i64 t.tax,.int .i64 t.gross,.imm (t.parts.map Part.enc)]])∧0<S.next) (fun r=>r=(t.parts.map (·.net),t.parts.map (·.tax))) ?_ ?_ (s:=([],[])) ⟨_,_,rfl,Own.nil _ _ _,Own.nil _ _ _,rfl,rfl,kR rC (by decide) (by decide),fun y h=>(by cases h),fun h=>(by cases h),fun h=>(by cases h),aA _ _ _ _ _ _,Nat.zero_lt_one⟩ (by rw [aYr];rfl)
 ·rintro i p ⟨ns,ts⟩ vs S hi ⟨u,v,rfl,ou,ov,lu,lv,w,huv,hu0,hv0,r0,h0⟩ aF H
  have hil:=(List.getElem?_eq_some_iff.1 hi).1
  have lu:ns.length=i:=lu
  have lv:ts.length=i:=lv
  simp only [rR] at H
  have hS1:∃ S1:St,S1=⟨S.next+1,(S.heap.put S.next (.row 0 4 [[.str [],.int .i64 0,.int .i64 0,.int .i64 0]])).put S.next (.row 0 4 [p.enc])⟩:=⟨_,rfl⟩
  obtain ⟨S1,hS1⟩:=hS1
  have n1:S1.next=S.next+1:=by rw [hS1]
  have w1:WF S1:=by rw [hS1];exact (Ext.var w 4 _ _).wf w
  have x1:Ext S S1:=by rw [hS1];exact Ext.var w 4 _ _
  have g1:aC S1 S.next 0=.ok (4,[p.enc]):=by rw [hS1];exact aA _ _ _ _ _ _
  have bu:∀ y,AM.blkOf u=some y→y<S.next:=fun y hy=>(cS ou hy).2
  have bv:∀ y,AM.blkOf v=some y→y<S.next:=fun y hy=>(cS ov hy).2
  obtain ⟨u',S2,q1,w2,n2,ou2,bu2,keep2⟩:=aD9 (b:=8) (ou.ext x1) w1 (k1:=S1.next+3) (k2:=S1.next+4) (m:=S1.next+12) (fresh w1 (by omega)) (fresh w1 (by omega)) (by omega) (by omega) (by omega) (by omega) (aC6 p.net) (by simp;omega) (by simp [fL];omega)
  have k2:∀ y,y<S1.next→AM.blkOf u≠some y→S2.heap.get y=S1.heap.get y:=fun y hy h=>keep2 y (by omega) (by omega) h
  have g2:aC S2 S.next 0=.ok (4,[p.enc]):=dW g1 (k2 S.next (by omega) fun h=>by have:=bu _ h;omega)
  have ov2:Own E0 S2 1 v (ts.map cM):=(ov.ext x1).same (by omega) fun a ha=>k2 a (by have:=bv a ha;omega) fun h=>huv a h ha
  have fr8:∀ k,5≤k→S2.heap.get (S1.next+k)=none:=fun k hk=>by
   rw [keep2 (S1.next+k) (by omega) (by omega) fun h=>by have:=bu _ h;omega];exact fresh w1 (by omega)
  obtain ⟨v',S3,q2,w3,n3,ov3,bv3,keep3⟩:=aD9 (b:=8) ov2 w2 (k1:=S1.next+8) (k2:=S1.next+9) (m:=S2.next) (fr8 8 (by omega)) (fr8 9 (by omega)) (by omega) (by omega) (by omega) (Nat.le_refl _) (aC6 p.tax) (by simp;omega) (by simp [fL];omega)
  have hu2:∀ y,AM.blkOf u'=some y→y=S1.next+4∨AM.blkOf u=some y:=fun y hy=>by
   rcases bu2 with h | h
   ·rw [h] at hy;cases hy;exact .inl rfl
   ·rw [h] at hy;exact .inr hy
  have hv3:∀ y,AM.blkOf v'=some y→y=S1.next+9∨AM.blkOf v=some y:=fun y hy=>by
   rcases bv3 with h | h
   ·rw [h] at hy;cases hy;exact .inl rfl
   ·rw [h] at hy;exact .inr hy
  have hb8:∀ a,AM.blkOf u'=some a→a≠S1.next+8∧a≠S1.next+9:=fun a ha=>by
   rcases hu2 a ha with h | h
   ·omega
   ·have:=bu a h;omega
  have ou3:Own E0 S3 1 u' ((ns++[p.net]).map cM):=by
   rw [List.map_append]
   exact ou2.same (by omega) fun a ha=>keep3 a (hb8 a ha).1 (hb8 a ha).2 fun hv=>by
    rcases hu2 a ha with h | h
    ·have:=bv a hv;omega
    ·exact huv a h hv
  have r3:=dW (dW (x1.row r0) (k2 0 (by omega) hu0)) (keep3 0 (by omega) (by omega) hv0)
  have hh:(S.heap.put S.next (.row 0 4 [[.str [],.int .i64 0,.int .i64 0,.int .i64 0]])).put S.next (.row 0 4 [[.str p.cat,.int .i64 p.bp,.int .i64 p.net,.int .i64 p.tax]])=S1.heap:=by rw [hS1];rfl
  simp only [Part.enc] at g1
  simp only [Part.enc,n1] at g2 q1 q2
  simp only [cM] at q1 q2
  simp only [↓cw,↓reduceIte,Nat.reduceLT,kk,bG hi,iD hi,Part.enc,gJ (show i<1000000000 by omega),hh,gm,g1,aZ0,q1,g2,q2]
  exact H _ _ ⟨u',v',rfl,ou3,by rw [List.map_append];exact ov3,by simp;omega,by simp;omega,w3,fun y hy hy'=>by
   rcases hu2 y hy with h | h<;>rcases hv3 y hy' with h' | h'
   ·omega
   ·have:=bv y h';omega
   ·have:=bu y h;omega
   ·exact huv y h h',fun h=>by
   rcases hu2 0 h with h | h
   ·omega
   ·exact hu0 h,fun h=>by
   rcases hv3 0 h with h | h
   ·omega
   ·exact hv0 h,r3,by omega⟩
 ·rintro ⟨ns,ts⟩ vs S ⟨u,v,rfl,ou,ov,lu,lv,w,huv,hu0,hv0,r0,h0⟩ aF H
  have lu:ns.length=t.parts.length:=lu
  have lv:ts.length=t.parts.length:=lv
  obtain ⟨rfl,rfl⟩:ns=t.parts.map (·.net)∧ts=t.parts.map (·.tax):=Prod.mk.inj H
  have hlu:=aMt ou (by omega)
  have hlv:=aMt ov (by omega)
  have ow:Own E0 ⟨S.next+1,S.heap.put S.next (.row 0 1 ([t.net,t.tax].map cM))⟩ 1 (.sl S.next 0 1 0 2) ([t.net,t.tax].map cM):=⟨.inr ⟨S.next,0,[],rfl,Nat.zero_le _,Nat.lt_succ_self _,by rw [List.append_nil];exact Tr.get_put_sameB _ _ _ trivial⟩,fun c hc=>by
   rcases List.mem_cons.1 hc with rfl | hc
   ·exact aC6 _
   ·rcases List.mem_cons.1 hc with rfl | hc
    ·exact aC6 _
    ·cases hc⟩
  have hlw:=aMt ow (by simp)
  have z0:((0:Nat)=S.next)=False:=by simp;omega
  simp only [List.map_cons,List.map_nil,cM] at hlw
  simp only [↓cw,↓reduceIte,Nat.reduceLT,kk,Int.lt_irrefl,if_false,hlu,hlv,r0,aIq,hlw,kE,z0,gm,gQ,oo]
  split
  rotate_left
  ·rfl
  split
  rotate_left
  ·rfl
  split
  rotate_left
  ·rfl
  split
  rotate_left
  ·rfl
  split<;>rfl
end Go.Proofs.YtoaibmbldmckaaaGreat
end
section
namespace Go.Proofs.YtoaibmbldmckaaaGreat
open Go.AM Tryz
theorem bIq (t:Total) (S:St) (K:KW):C 167 [.agg [.int .i64 t.net,.int .i64 t.tax,.int .i64 t.gross,.imm (t.parts.map Part.enc)]] S K=K (.bool (cF t)) S:=by
 refine (bH0 rfl ?_).eq S K
 delta Tryz.f167;simp only [↓cw,↓reduceIte,Nat.reduceLT,kk,cF]
 by_cases c1:t.parts.length<1
 ·simp only [↓cw,↓reduceIte,Nat.reduceLT,c1,show (t.parts.length:Int)<1 by omega,kk,oo,if_true]
 by_cases c2:12<t.parts.length
 ·simp only [↓cw,↓reduceIte,Nat.reduceLT,c1,c2,show ¬ (t.parts.length:Int)<1 by omega,show (12:Int)<(t.parts.length:Int) by omega,kk,oo,if_true,if_false]
 simp only [↓cw,↓reduceIte,Nat.reduceLT,c1,c2,show ¬ (t.parts.length:Int)<1 by omega,show ¬ (12:Int)<(t.parts.length:Int) by omega,kk,if_false]
 refine aG t.parts (step:=cI) (fin:=fun _=>gQ t) (fun i s vs S=>vs=[.bool false,.int .i64 (i:Int)]∧s=cA t.parts i∧aC S 0 0=.ok (4,[[.int .i64 t.net,.int .i64 t.tax,.int .i64 t.gross,.imm (t.parts.map Part.enc)]])∧0<S.next) (fun r=>r=aD cI (fun _=>gQ t) t.parts none) ?_ ?_ (s:=none) ⟨rfl,rfl,aA _ _ _ _ _ _,Nat.zero_lt_one⟩ rfl
 ·rintro i p s vs S hi ⟨rfl,rfl,r0,h0⟩ aF H
  have hil:=(List.getElem?_eq_some_iff.1 hi).1
  have r1:∀ (m:Nat) (b c:Blk),aC ⟨m,(S.heap.put S.next b).put S.next c⟩ 0 0=.ok (4,[[.int .i64 t.net,.int .i64 t.tax,.int .i64 t.gross,.imm (t.parts.map Part.enc)]]):=fun m b c=>bX (n:=S.next) (by omega) (bX (n:=S.next) (by omega) r0)
  have hn:cA t.parts (i+1)=some p:=by simpa [cA] using hi
  simp only [hn,cI] at H
  simp only [↓cw,↓reduceIte,Nat.reduceLT,kk,bG hi,iD hi,Part.enc,gJ (show i<1000000000 by omega),aYy,aYw,eQ,r1,oo]
  obtain ⟨S',hS'⟩:∃ S':St,S'=⟨S.next+1+30,(S.heap.put S.next (.row 0 4 [[.str [],.int .i64 0,.int .i64 0,.int .i64 0]])).put S.next (.row 0 4 [[.str p.cat,.int .i64 p.bp,.int .i64 p.net,.int .i64 p.tax]])⟩:=⟨_,rfl⟩
  have r2:aC S' 0 0=.ok (4,[[.int .i64 t.net,.int .i64 t.tax,.int .i64 t.gross,.imm (t.parts.map Part.enc)]]):=by rw [hS'];exact r1 _ _ _
  have h2:0<S'.next:=by rw [hS'];exact Nat.succ_pos _
  rw [←hS']
  clear hS' r1
  cases hna:gP p.cat
  ·simp only [↓cw,↓reduceIte,Nat.reduceLT,hna,kk,if_true] at H ⊢
   rw [←H]
  ·simp only [↓cw,↓reduceIte,Nat.reduceLT,hna,kk,Bool.true_eq_false,if_false] at H ⊢
   cases i with
   | zero=>
    simp only [↓cw,↓reduceIte,Nat.reduceLT,cA,fU,kk,Bool.false_eq_true,if_false,if_true,rT,rU,Bool.or_eq_true,decide_eq_true_eq] at H ⊢
    simp only [↓cw,↓reduceIte,Nat.reduceLT,Int.natCast_zero,Int.lt_irrefl,kk,if_false]
    grind
   | succ j=>
    have hj:t.parts[j]?=some t.parts[j]:=List.getElem?_eq_getElem (by omega)
    have hp:cA t.parts (j+1)=some t.parts[j]:=by simp [cA,hj]
    simp only [↓cw,↓reduceIte,Nat.reduceLT,hp,gt0,kk,wrm (show j+1<1000000000 by omega),iD hj,Part.enc,fU,rT,rU,Bool.or_eq_true,decide_eq_true_eq] at H ⊢
    grind
 ·rintro s vs S ⟨rfl,rfl,r0,h0⟩ aF H
  have H':aD cI (fun _=>gQ t) t.parts none=gQ t:=H.symm
  simp only [↓cw,↓reduceIte,Nat.reduceLT,kk,Int.lt_irrefl,if_false,r0,bIp t (show t.parts.length<100000 by omega),oo,H']
theorem bIr (l r:List Part) (hb:l.length<1000000) (S:St) (K:KW):C 260 [.imm (l.map Part.enc),.imm (r.map Part.enc)] S K=K (.bool (decide (l=r))) S:=by
 refine (bHt rfl ?_).eq S K
 delta Tryz.f260;simp only [↓cw,↓reduceIte,Nat.reduceLT,kk]
 by_cases h:l.length=r.length
 ·simp only [↓cw,↓reduceIte,Nat.reduceLT,show (l.length:Int)=(r.length:Int) by omega,kk,not_true_eq_false,if_false]
  refine aG l (step:=dU r) (fin:=fun _=>true) (fun i n vs S=>n=i∧vs=[.bool false,.int .i64 (i:Int)]) (fun x=>x=decide (l=r)) ?_ ?_ (s:=0) ⟨rfl,rfl⟩ (eqL h)
  ·rintro i p n vs S hi ⟨rfl,rfl⟩ aF H
   have hil:=(List.getElem?_eq_some_iff.1 hi).1
   have hj:r[n]?=some r[n]:=List.getElem?_eq_getElem (by omega)
   have hlt:((n:Int)<(r.length:Int))=True:=bG hj
   have he:(r[n]=p)=(((p.cat=r[n].cat∧p.bp=r[n].bp)∧p.net=r[n].net)∧p.tax=r[n].tax):=by
    obtain ⟨_,_,_,_⟩:=p;generalize r[n]=q;obtain ⟨_,_,_,_⟩:=q;simp [and_assoc,eq_comm]
   simp only [dU,hj,Option.some.injEq,he] at H
   simp only [↓cw,↓reduceIte,Nat.reduceLT,kk,hlt,iD hi,iD hj,Part.enc,gJ (show n<1000000000 by omega),oo]
   grind
  ·rintro n vs S ⟨rfl,rfl⟩ aF H
   simp only [↓cw,↓reduceIte,Nat.reduceLT,kk,h,Int.lt_irrefl,if_false,oo,←H]
 ·simp only [↓cw,↓reduceIte,Nat.reduceLT,show ¬ (l.length:Int)=(r.length:Int) by omega,kk,not_false_eq_true,if_true,oo]
  have:decide (l=r)=false:=by simpa using fun e=>h (by rw [e])
  rw [this]
def Posted.enc (p:Posted):List V:=[.str p.ref.ser,.int .i64 p.ref.num,.int .i64 p.day.y,.int .i64 p.day.m,.int .i64 p.day.d,.int .i64 p.total.net,.int .i64 p.total.tax,.int .i64 p.total.gross,.imm (p.total.parts.map Part.enc),.str p.of.ser,.int .i64 p.of.num,.bool p.back]
theorem kL {l:List Posted} {i:Nat} {a:Posted} (hi:l[i]?=some a) (k:IntKind):fK 12 (.imm (l.map Posted.enc)) (.int k (i:Int))=.ok (.iptr a.enc 0):=ixI (enc:=Posted.enc) hi rfl k
theorem aZ1 (x:Posted):x.enc.length=12∧aI x.enc=true:=⟨rfl,rfl⟩
theorem Total.ext_iff (a b:Total):(a=b)=(((a.net=b.net∧a.tax=b.tax)∧a.gross=b.gross)∧a.parts=b.parts):=by
 obtain ⟨_,_,_,_⟩:=a;obtain ⟨_,_,_,_⟩:=b;simp [and_assoc]
theorem Ref.ext_iff (a b:Ref):(a=b)=(a.ser=b.ser∧a.num=b.num):=by
 obtain ⟨_,_⟩:=a;obtain ⟨_,_⟩:=b;simp
theorem g91 (l r:List Bal) (hb:l.length<1000000) (S:St) (K:KW):C 91 [.imm (l.map Bal.enc),.imm (r.map Bal.enc)] S K=K (.bool (decide (l=r))) S:=by
 refine (v91 rfl ?_).eq S K
 delta Tryz.f91;simp only [↓cw,↓reduceIte,Nat.reduceLT,kk]
 by_cases h:l.length=r.length
 ·simp only [↓cw,↓reduceIte,Nat.reduceLT,show (l.length:Int)=(r.length:Int) by omega,kk,not_true_eq_false,if_false]
  refine aG l (step:=dU r) (fin:=fun _=>true) (fun i n vs S=>n=i∧vs=[.bool false,.int .i64 (i:Int)]) (fun x=>x=decide (l=r)) ?_ ?_ (s:=0) ⟨rfl,rfl⟩ (eqL h)
  ·rintro i p n vs S hi ⟨rfl,rfl⟩ aF H
   have hil:=(List.getElem?_eq_some_iff.1 hi).1
   have hj:r[n]?=some r[n]:=List.getElem?_eq_getElem (by omega)
   have hlt:((n:Int)<(r.length:Int))=True:=bG hj
   have he:(r[n]=p)=(p.acc=r[n].acc∧p.amount=r[n].amount):=by
    obtain ⟨_,_⟩:=p;generalize r[n]=q;obtain ⟨_,_⟩:=q;simp [and_assoc,eq_comm]
   simp only [dU,hj,Option.some.injEq,he] at H
   simp only [↓cw,↓reduceIte,Nat.reduceLT,kk,hlt,mA hi,mA hj,Bal.enc,gJ (show n<1000000000 by omega),oo]
   grind
  ·rintro n vs S ⟨rfl,rfl⟩ aF H
   simp only [↓cw,↓reduceIte,Nat.reduceLT,kk,h,Int.lt_irrefl,if_false,oo,←H]
 ·simp only [↓cw,↓reduceIte,Nat.reduceLT,show ¬ (l.length:Int)=(r.length:Int) by omega,kk,not_false_eq_true,if_true,oo]
  have:decide (l=r)=false:=by simpa using fun e=>h (by rw [e])
  rw [this]
theorem bIs (a b:Total) (hb:a.parts.length<1000000) (S:St) (K:KW):C 229 [.agg [.int .i64 a.net,.int .i64 a.tax,.int .i64 a.gross,.imm (a.parts.map Part.enc)],.agg [.int .i64 b.net,.int .i64 b.tax,.int .i64 b.gross,.imm (b.parts.map Part.enc)]] S K=K (.bool (decide (a=b))) S:=by
 refine (bHo rfl ?_).eq S K
 delta Tryz.f229;simp only [↓cw,↓reduceIte,Nat.reduceLT,kk,kE,bIr a.parts b.parts hb,Total.ext_iff,oo]
 grind
theorem bIt (p fr:Posted) (hb:fr.total.parts.length≤1000) (S:St) (K:KW):C 169 [.agg [.str p.ref.ser,.int .i64 p.ref.num,.int .i64 p.day.y,.int .i64 p.day.m,.int .i64 p.day.d,.int .i64 p.total.net,.int .i64 p.total.tax,.int .i64 p.total.gross,.imm (p.total.parts.map Part.enc),.str p.of.ser,.int .i64 p.of.num,.bool p.back],.agg [.str fr.ref.ser,.int .i64 fr.ref.num,.int .i64 fr.day.y,.int .i64 fr.day.m,.int .i64 fr.day.d,.int .i64 fr.total.net,.int .i64 fr.total.tax,.int .i64 fr.total.gross,.imm (fr.total.parts.map Part.enc),.str fr.of.ser,.int .i64 fr.of.num,.bool fr.back]] S K=K (.bool (oV p fr)) S:=by
 refine (bH2 rfl ?_).eq S K
 have hbl:=aD8 fr.total
 delta Tryz.f169;simp only [↓cw,↓reduceIte,Nat.reduceLT,kk,kE,bIo fr.total hb,aGu,bE7,bIs (fH fr.total).1 p.total (by omega),oV,Ref.ext_iff,Ref.zero,oo]
 grind
theorem bEl:cP prog 227=some none:=by kernel_rfl
theorem bIu (r:Ref) (p:Posted):Fr 227 (fun a=>[.agg p.enc,.ptr a 0 0 0]) 2 [.str r.ser,.int .i64 r.num] (.bool (decide (p.ref=r))) [.str r.ser,.int .i64 r.num]:=by
 refine FnR.of bAa (lv:=eG []) (Pt.next rfl (Pt.head rfl)) rfl ?_ rfl rfl
 rw [bHm]
 delta Tryz.f227;simp only [↓cw,↓reduceIte,Nat.reduceLT,kk,Posted.enc,kE,Ref.ext_iff]
 exact ⟨by congr 1;rw [Bool.eq_iff_iff];simp,rfl⟩
theorem bIv (fk:Nat) (ht:cP prog fk=some none) {n:Nat} {cap:List V} (p:Posted→Bool) (hf:∀ s:Posted,Fr fk (fun a=>[.agg s.enc,.ptr a 0 0 0]) n cap (.bool (p s)) cap) (l:List Posted) (hb:l.length<1000000) {S:St} {a:Nat} (hg:S.heap.get a=some (.row 0 n [cap])):
  ∀ K:KW,C 155 [.imm (l.map Posted.enc),.func fk [] [.ptr a 0 0 0]] S K=K (.int .i64 (vR p l)) S:=by
 refine bEc (bA6 ?_)
 delta Tryz.f155;simp only [↓cw,↓reduceIte,Nat.reduceLT,kk]
 refine aG l (step:=cN p) (fin:=fun _=>-1) (fun i k vs X=>k=i∧vs=[.int .i64 0,.int .i64 (i:Int)]∧X=S) (fun r=>r=vR p l) ?_ ?_ ⟨rfl,rfl,rfl⟩ rfl
 ·rintro i s k vs X hi ⟨rfl,rfl,rfl⟩ aF H
  have hil:=(List.getElem?_eq_some_iff.1 hi).1
  have he:=(hf s).eq_same hg
  simp only [Posted.enc] at he
  simp only [↓cw,↓reduceIte,Nat.reduceLT,kk,bG hi,kL hi,Posted.enc,↓nI prog C ht,List.nil_append,List.cons_append,he,gJ (show k<1000000000 by omega)]
  simp only [cN] at H
  cases hp:p s<;>simp only [↓cw,↓reduceIte,Nat.reduceLT,hp,kk] at H ⊢
  ·exact H _ _ ⟨rfl,rfl⟩
  ·rw [H]
 ·rintro k vs X ⟨rfl,rfl,rfl⟩ aF H
  simp only [↓cw,↓reduceIte,Nat.reduceLT,kk,Int.lt_irrefl]
  rw [H]
theorem f168 (l:List Posted) (r:Ref) (hb:l.length<1000000):Fv 168 [.imm (l.map Posted.enc),.agg [.str r.ser,.int .i64 r.num]] (.int .i64 (cC l r)):=by
 refine bH1 rfl ?_
 have h:=bIv 227 bEl _ (bIu r) l hb (S:=⟨1,Tr.nil.put 0 (.row 0 2 [[.str r.ser,.int .i64 r.num]])⟩) (a:=0) (Tr.get_put_sameB _ _ _ trivial)
 delta Tryz.f168;simp only [↓cw,↓reduceIte,Nat.reduceLT,kk,h,cC]
theorem bIw (l:List Posted) (r:Ref) (hb:l.length<1000000) (S:St) (K:KW):C 168 [.imm (l.map Posted.enc),.agg [.str r.ser,.int .i64 r.num]] S K=K (.int .i64 (cC l r)) S:=(f168 l r hb).eq S K
theorem bEm:(fun (a ver i j:Nat) (x:V)=>dA prog 246 (.ptr a ver i j) x)=fun a ver i j x=>(match lO x 40 with
 | none=>.error "index"
 | some k=>.ok (.ptr a ver i (j+k*1))):=by kernel_rfl
theorem aR9 (a ver i j:Nat) {k:Nat} (h:k<40):dA prog 246 (.ptr a ver i j) (.int .i64 (k:Int))=.ok (.ptr a ver i (j+k)):=by
 have:=congrFun (congrFun (congrFun (congrFun (congrFun bEm a) ver) i) j) (.int .i64 (k:Int))
 rw [fF h] at this
 rw [this]
 simp only [Nat.mul_one]
theorem bEn:(fun (a ver i j:Nat) (x:V)=>dA prog 249 (.ptr a ver i j) x)=fun a ver i j x=>(match lO x 8 with
 | none=>.error "index"
 | some k=>.ok (.ptr a ver i (j+k*1))):=by kernel_rfl
theorem aRa (a ver i j:Nat) {k:Nat} (h:k<8):dA prog 249 (.ptr a ver i j) (.int .i64 (k:Int))=.ok (.ptr a ver i (j+k)):=by
 have:=congrFun (congrFun (congrFun (congrFun (congrFun bEn a) ver) i) j) (.int .i64 (k:Int))
 rw [fF h] at this
 rw [this]
 simp only [Nat.mul_one]
theorem aRb {l:List Int} {k:Nat} (h:k<l.length):(l.map nM)[k]?=some (.int .i64 l[k]):=by
 rw [List.getElem?_map,List.getElem?_eq_getElem h];rfl
theorem bEo {l:List Int} {k:Nat} (h:k<l.length) (x:Int):qW (l.map nM) k [.int .i64 x]=some ((l.set k x).map nM):=by
 have hl:(l.map nM).length=l.length:=List.length_map ..
 rw [vG,if_pos (by rw [hl];exact h),List.map_set]
 simp only [splice,List.length_cons,List.length_nil]
 rw [List.set_eq_take_append_cons_drop,if_pos (by rw [hl];exact h)]
 rfl
def State.enc (s:State):List V:=[.imm (s.table.map Rate.enc),.imm (s.ser.map Ser.enc),.imm (s.posted.map Posted.enc),.imm (s.book.map Bal.enc),.imm (s.sess.map Sess.enc),.int .i64 s.next]
theorem bEp:cP prog 170=some none:=by kernel_rfl
theorem bIx (p:Posted) (s:Ser):Fr 170 (fun a=>[.agg s.enc,.ptr a 0 0 0]) 12 p.enc (.bool (s.name == p.ref.ser)) p.enc:=by
 refine FnR.of bA7 (lv:=eG []) (Pt.next rfl (Pt.head rfl)) rfl ?_ rfl rfl
 rw [aYg]
 delta Tryz.f170;simp only [↓cw,↓reduceIte,Nat.reduceLT,kk,Posted.enc,Ser.enc,kE]
 rfl
theorem z8:[V.int .i64 0,.int .i64 0,.int .i64 0,.int .i64 0,.int .i64 0,.int .i64 0,.int .i64 0,.int .i64 0]=(List.replicate 8 (0:Int)).map nM:=rfl
theorem g89 (s:State) (h8:s.ser.length≤8) (h40:s.posted.length≤40) (S:St) (K:KW):C 89 [.agg [.imm (s.table.map Rate.enc),.imm (s.ser.map Ser.enc),.imm (s.posted.map Posted.enc),.imm (s.book.map Bal.enc),.imm (s.sess.map Sess.enc),.int .i64 s.next]] S K=K (.bool (lZ s.ser s.posted)) S:=by
 refine (v89 rfl ?_).eq S K
 delta Tryz.f89;simp only [↓cw,↓reduceIte,Nat.reduceLT,kk,kE,z8]
 refine aG s.posted (step:=jU s.ser) (fin:=fun is=>aD jA (fun _=>true) s.ser is) (fun i is vs S=>vs=[.bool false,.int .i64 (i:Int)]∧aC S 0 0=.ok (6,[s.enc])∧aC S 1 0=.ok (8,[is.map nM])∧is.length=8∧(∀ b∈is,0≤b∧b≤i)∧2≤S.next) (fun r=>r=lZ s.ser s.posted) ?_ ?_ (s:=List.replicate 8 0) ⟨rfl,rfl,rfl,rfl,fun b hb=>by rw [List.eq_of_mem_replicate hb];omega,Nat.le_refl _⟩ rfl
 ·rintro i p is vs S hi ⟨rfl,hc,hg,hbl,hbr,h2⟩ aF H
  have hil:=(List.getElem?_eq_some_iff.1 hi).1
  have z0:((0:Nat)=S.next)=False:=by simp;omega
  have z1:((1:Nat)=S.next)=False:=by simp;omega
  have zn:(S.next=1)=False:=by simp;omega
  obtain ⟨S1,hS1⟩:∃ S1:St,S1=⟨S.next+1,(S.heap.put S.next (.row 0 12 [aGp])).put S.next (.row 0 12 [p.enc])⟩:=⟨_,rfl⟩
  have e1:S1.heap.get S.next=some (.row 0 12 [p.enc]):=by rw [hS1];exact Tr.get_put_sameB _ _ _ trivial
  have n1:S1.next=S.next+1:=by rw [hS1]
  have c1:aC S1 0 0=.ok (6,[s.enc]):=by rw [hS1];exact bX (n:=S.next) (by omega) (bX (n:=S.next) (by omega) hc)
  have g1:aC S1 1 0=.ok (8,[is.map nM]):=by rw [hS1];exact bX (n:=S.next) (by omega) (bX (n:=S.next) (by omega) hg)
  have p1:aC S1 S.next 0=.ok (12,[p.enc]):=aE e1
  have h152:=bIi 170 bEp _ (bIx p) s.ser (by omega) (a:=S.next) e1
  have hx:vR (fun t:Ser=>t.name == p.ref.ser) s.ser=cE s.ser p.ref.ser:=rfl
  rw [hx] at h152
  simp only [jU] at H
  simp only [aGp,Posted.enc] at hS1
  simp only [↓cw,↓reduceIte,Nat.reduceLT,kk,bG hi,kL hi,Posted.enc,←hS1,c1,State.enc,h152]
  rcases mN s.ser p.ref.ser with hk | ⟨k,f,hk,hf,_⟩
  ·simp only [↓cw,↓reduceIte,Nat.reduceLT,hk,show (-1:Int)<0 by decide,kk,if_true] at H ⊢
   rw [←H]
  have hks:k<s.ser.length:=(List.getElem?_eq_some_iff.1 hf).1
  have hk8:k<8:=by omega
  have hkb:k<is.length:=by omega
  have hbk:=hbr is[k] (List.getElem_mem hkb)
  have hw2:wr .i64 (is[k]+1)=is[k]+1:=eX (by omega) (by omega)
  have hbu:bump is k=is.set k (is[k]+1):=by unfold bump;rw [vD is k hkb]
  have hkb':k<(bump is k).length:=by rw [vE];exact hkb
  have hgk:=aR5 is k hkb
  have hgk2:(bump is k)[k]=is[k]+1:=by rw [←vD _ _ hkb'];exact hgk
  have g2:aC ⟨S1.next+7,S1.heap.put 1 (.row 0 8 [(bump is k).map nM])⟩ 1 0=.ok (8,[(bump is k).map nM]):=aA _ _ _ _ _ _
  have p2:aC ⟨S1.next+7,S1.heap.put 1 (.row 0 8 [(bump is k).map nM])⟩ S.next 0=.ok (12,[p.enc]):=bX (n:=S1.next) (by omega) p1
  have c2:aC ⟨S1.next+7,S1.heap.put 1 (.row 0 8 [(bump is k).map nM])⟩ 0 0=.ok (6,[s.enc]):=bX (n:=S1.next) (by decide) c1
  simp only [Posted.enc] at p2
  simp only [↓cw,↓reduceIte,Nat.reduceLT,hk,show ¬ (k:Int)<0 by omega,kk,if_false,Int.toNat_natCast,hgk] at H ⊢
  simp only [↓cw,↓reduceIte,Nat.reduceLT,aRa _ _ _ _ hk8,kk,g1,aRb hkb,aRb hkb',hw2,bEo hkb,←hbu,g2,p2,hgk2,gJ (show i<1000000000 by omega)]
  by_cases c:p.ref.num=is[k]+1
  ·simp only [↓cw,↓reduceIte,Nat.reduceLT,c,kk,if_true,if_false,not_true_eq_false] at H ⊢
   refine H _ _ ⟨rfl,c2,g2,by rw [vE];exact hbl,fun b hb=>?_,by show 2≤S1.next+7;omega⟩
   rw [hbu] at hb
   rcases List.mem_or_eq_of_mem_set hb with hb | rfl
   ·exact ⟨(hbr b hb).1,by have:=(hbr b hb).2;omega⟩
   ·omega
  ·simp only [↓cw,↓reduceIte,Nat.reduceLT,c,kk,if_true,if_false,not_false_eq_true] at H ⊢
   rw [←H]
 ·rintro is vs S ⟨rfl,hc,hg,hbl,hbr,h2⟩ aF H
  have H':lZ s.ser s.posted=aD jA (fun _=>true) s.ser is:=H.symm
  simp only [↓cw,↓reduceIte,Nat.reduceLT,kk,Int.lt_irrefl,if_false,hc,State.enc,H']
  refine aG s.ser (step:=jA) (fin:=fun _=>true) (fun i st vs S=>vs=[.bool false,.int .i64 (i:Int)]∧st=is.drop i∧aC S 1 0=.ok (8,[is.map nM])∧2≤S.next) (fun r=>r=aD jA (fun _=>true) s.ser is) ?_ ?_ (s:=is) ⟨rfl,rfl,hg,h2⟩ rfl
  ·rintro i q st vs S hi ⟨rfl,rfl,hg,h2⟩ aF H
   have hil:=(List.getElem?_eq_some_iff.1 hi).1
   have hi8:i<8:=by omega
   have hib:i<is.length:=by omega
   have z1:((1:Nat)=S.next)=False:=by simp;omega
   have hbi:=hbr is[i] (List.getElem_mem hib)
   have hw2:wr .i64 (is[i]+1)=is[i]+1:=eX (by omega) (by omega)
   have hhd:(is.drop i).headD 0=is[i]:=by rw [List.drop_eq_getElem_cons hib];rfl
   have htl:(is.drop i).tail=is.drop (i+1):=by rw [List.drop_eq_getElem_cons hib];rfl
   have g1:∀ m b c,aC ⟨m,(S.heap.put S.next b).put S.next c⟩ 1 0=.ok (8,[is.map nM]):=fun m b c=>bX (n:=S.next) (by omega) (bX (n:=S.next) (by omega) hg)
   simp only [jA,hhd,htl] at H
   simp only [↓cw,↓reduceIte,Nat.reduceLT,kk,bG hi,sK hi,Ser.enc,aRa _ _ _ _ hi8,g1,aRb hib,hw2,gJ (show i<1000000000 by omega)]
   by_cases c:q.next=is[i]+1
   ·simp only [↓cw,↓reduceIte,Nat.reduceLT,c,kk,if_true,if_false,not_true_eq_false] at H ⊢
    exact H _ _ ⟨rfl,g1 _ _ _,by show 2≤S.next+1+7;omega⟩
   ·simp only [↓cw,↓reduceIte,Nat.reduceLT,c,kk,if_true,if_false,not_false_eq_true] at H ⊢
    simp only [oo,←H]
  ·rintro st vs S ⟨rfl,rfl,hg,h2⟩ aF H
   simp only [↓cw,↓reduceIte,Nat.reduceLT,kk,Int.lt_irrefl,if_false,oo,←H]
theorem z40:[V.int .i64 0,.int .i64 0,.int .i64 0,.int .i64 0,.int .i64 0,.int .i64 0,.int .i64 0,.int .i64 0,.int .i64 0,.int .i64 0,.int .i64 0,.int .i64 0,.int .i64 0,.int .i64 0,.int .i64 0,.int .i64 0,.int .i64 0,.int .i64 0,.int .i64 0,.int .i64 0,.int .i64 0,.int .i64 0,.int .i64 0,.int .i64 0,.int .i64 0,.int .i64 0,.int .i64 0,.int .i64 0,.int .i64 0,.int .i64 0,.int .i64 0,.int .i64 0,.int .i64 0,.int .i64 0,.int .i64 0,.int .i64 0,.int .i64 0,.int .i64 0,.int .i64 0,.int .i64 0]=(List.replicate 40 (0:Int)).map nM:=rfl
theorem bEq (l:List Posted) {i:Nat} (hi:i<l.length):gA prog 26 (.imm (l.map Posted.enc)) none (some (.int .i64 (i:Int)))=.ok (.imm ((l.take i).map Posted.enc)):=by
 have hb:dR (l.map Posted.enc).length none (some (.int .i64 (i:Int)))=.ok (0,i):=by
  have:(decide ((0:Int)≤(i:Int))&&decide ((i:Int)≤((l.map Posted.enc).length:Int)))=true:=by simp;omega
  simp only [dR,this,cond_true,Int.toNat_natCast]
 rw [bD7 _ (cX (n:=12) (fun c hc=>by obtain ⟨x,_,rfl⟩:=List.mem_map.1 hc;exact aZ1 x)).1,hb]
 simp only [List.drop_zero,Nat.sub_zero,List.map_take]
theorem aMu:(fun (a b:Bool)=>bW prog .neq 4 (.bool a) (.bool b))=fun a b=>.ok (.bool (!(a == b))):=by kernel_rfl
theorem wU (a b:Bool):bW prog .neq 4 (.bool a) (.bool b)=.ok (.bool (!(a == b))):=congrFun (congrFun aMu a) b
theorem g88 (l:List Posted) (S:St) (K:KW):C 88 [.imm (l.map Posted.enc)] S K=K (.bool (jT l)) S:=by
 refine (v88 rfl ?_).eq S K
 delta Tryz.f88;simp only [↓cw,↓reduceIte,Nat.reduceLT,kk,jT]
 by_cases h40:40<l.length
 ·simp only [↓cw,↓reduceIte,Nat.reduceLT,h40,show (40:Int)<(l.length:Int) by omega,kk,if_true,oo]
 simp only [↓cw,↓reduceIte,Nat.reduceLT,h40,show ¬ (40:Int)<(l.length:Int) by omega,kk,if_false,z40]
 refine aG l (step:=fS) (fin:=fun st=>aD gG (fun _=>true) l st.2) (fun i st vs S=>vs=[.bool false,.int .i64 (i:Int)]∧aC S 0 0=.ok (40,[st.2.map nM])∧st.1=l.take i∧st.2.length=40∧(∀ b∈st.2,0≤b∧b≤i)∧(∀ p∈st.1,p.total.parts.length≤12)∧0<S.next) (fun r=>r=aD fS (fun st=>aD gG (fun _=>true) l st.2) l ([],List.replicate 40 0)) ?_ ?_ (s:=([],List.replicate 40 0)) ⟨rfl,rfl,rfl,rfl,fun b hb=>by rw [List.eq_of_mem_replicate hb];omega,(fun p h=>(by cases h)),Nat.zero_lt_one⟩ rfl
 ·rintro i p ⟨done,bs⟩ vs S hi ⟨rfl,hg,hdone,hbl,hbr,hfi,h0⟩ aF H
  simp only at hg hdone hbl hbr hfi
  have hil:=(List.getElem?_eq_some_iff.1 hi).1
  obtain ⟨S1,hS1⟩:∃ S1:St,S1=⟨S.next+1,(S.heap.put S.next (.row 0 12 [aGp])).put S.next (.row 0 12 [p.enc])⟩:=⟨_,rfl⟩
  have n1:S1.next=S.next+1:=by rw [hS1]
  have g1:aC S1 0 0=.ok (40,[bs.map nM]):=by rw [hS1];exact bX (n:=S.next) (by omega) (bX (n:=S.next) (by omega) hg)
  have p1:aC S1 S.next 0=.ok (12,[p.enc]):=by rw [hS1];exact aA _ _ _ _ _ _
  have hdone':(done++[p])=l.take (i+1):=by
   rw [hdone,List.take_succ_eq_append_getElem hil,(List.getElem?_eq_some_iff.1 hi).2]
  simp only [fS,Ref.ext_iff,Ref.zero] at H
  simp only [aGp,Posted.enc] at hS1
  simp only [Posted.enc] at p1
  simp only [↓cw,↓reduceIte,Nat.reduceLT,kk,bG hi,kL hi,Posted.enc,←hS1,gm,p1,aTj,bIq,gJ (show i<1000000000 by omega),bEq l hil,oo]
  cases h1:p.day.right
  ·simp only [↓cw,↓reduceIte,Nat.reduceLT,h1,kk,if_true] at H ⊢
   rw [←H]
  cases h2:cF p.total
  ·simp only [↓cw,↓reduceIte,Nat.reduceLT,h1,h2,kk,Bool.true_eq_false,if_true,if_false] at H ⊢
   rw [←H]
  simp only [↓cw,↓reduceIte,Nat.reduceLT,h1,h2,kk,Bool.true_eq_false,if_false] at H ⊢
  have hfi':∀ q∈done++[p],q.total.parts.length≤12:=fun q hq=>by
   rcases List.mem_append.1 hq with hq | hq
   ·exact hfi q hq
   ·rw [List.mem_singleton.1 hq];exact mP h2
  by_cases h3:p.of.ser=[]∧p.of.num=0
  ·simp only [↓cw,↓reduceIte,Nat.reduceLT,h3,and_self,BEq.rfl,decide_true,Bool.and_self,kk,if_true] at H ⊢
   exact H _ _ ⟨rfl,g1,hdone',hbl,fun b hb=>⟨(hbr b hb).1,by have:=(hbr b hb).2;omega⟩,hfi',by omega⟩
  have h3':¬ (p.of.ser == []&&decide (p.of.num=0))=true:=by simpa using h3
  have hdl:done.length≤i:=by rw [hdone,List.length_take];omega
  simp only [↓cw,↓reduceIte,Nat.reduceLT,h3,h3',if_false,bIw done p.of (show done.length<1000000 by omega),←hdone,kk,gm,p1] at H ⊢
  rcases iZ done p.of with hk | ⟨k,f,hk,hf,_⟩
  ·simp only [↓cw,↓reduceIte,Nat.reduceLT,hk,show (-1:Int)<0 by decide,kk,if_true] at H ⊢
   rw [←H]
  have hkd:=(List.getElem?_eq_some_iff.1 hf).1
  have hki:k<i:=by omega
  have hlk:l[k]?=some f:=by rw [hdone,List.getElem?_take,if_pos hki] at hf;exact hf
  have hfl:f.total.parts.length≤12:=hfi f (List.mem_of_getElem? hf)
  have hgd:∀ d,done.getD k d=f:=fun d=>by rw [List.getD_eq_getElem?_getD,hf];rfl
  have hkb:k<bs.length:=by omega
  have hk40:k<40:=by omega
  have hbk:=hbr bs[k] (List.getElem_mem hkb)
  have hw2:wr .i64 (bs[k]+1)=bs[k]+1:=eX (by omega) (by omega)
  have hbu:bump bs k=bs.set k (bs[k]+1):=by unfold bump;rw [vD bs k hkb]
  have g2:aC ⟨S1.next+7+11,S1.heap.put 0 (.row 0 40 [(bump bs k).map nM])⟩ 0 0=.ok (40,[(bump bs k).map nM]):=aA _ _ _ _ _ _
  simp only [↓cw,↓reduceIte,Nat.reduceLT,hk,show ¬ (k:Int)<0 by omega,kk,if_false,Int.toNat_natCast,hgd,kL hlk,Posted.enc,bIt p f (show f.total.parts.length≤1000 by omega)] at H ⊢
  cases h4:oV p f
  ·simp only [↓cw,↓reduceIte,Nat.reduceLT,h4,kk,if_true] at H ⊢
   rw [←H]
  ·simp only [↓cw,↓reduceIte,Nat.reduceLT,h4,kk,Bool.true_eq_false,if_false,aR9 _ _ _ _ hk40,gm,g1,aRb hkb,hw2,bEo hkb,←hbu] at H ⊢
   refine H _ _ ⟨rfl,g2,hdone',by rw [vE];exact hbl,fun b hb=>?_,hfi',Nat.succ_pos _⟩
   rw [hbu] at hb
   rcases List.mem_or_eq_of_mem_set hb with hb | rfl
   ·exact ⟨(hbr b hb).1,by have:=(hbr b hb).2;omega⟩
   ·omega
 ·rintro ⟨done,bs⟩ vs S ⟨rfl,hg,hdone,hbl,hbr,hfi,h0⟩ aF H
  simp only at hg hbl
  have H':aD fS (fun st=>aD gG (fun _=>true) l st.2) l ([],List.replicate 40 0)=aD gG (fun _=>true) l bs:=H.symm
  simp only [↓cw,↓reduceIte,Nat.reduceLT,kk,Int.lt_irrefl,if_false,H']
  refine aG l (step:=gG) (fin:=fun _=>true) (fun i st vs S=>vs=[.bool false,.int .i64 (i:Int)]∧st=bs.drop i∧aC S 0 0=.ok (40,[bs.map nM])∧0<S.next) (fun r=>r=aD gG (fun _=>true) l bs) ?_ ?_ (s:=bs) ⟨rfl,rfl,hg,h0⟩ rfl
  ·rintro i p st vs S hi ⟨rfl,rfl,hg,h0⟩ aF H
   have hil:=(List.getElem?_eq_some_iff.1 hi).1
   have hi40:i<40:=by omega
   have hib:i<bs.length:=by omega
   have hhd:(bs.drop i).headD 0=bs[i]:=by rw [List.drop_eq_getElem_cons hib];rfl
   have htl:(bs.drop i).tail=bs.drop (i+1):=by rw [List.drop_eq_getElem_cons hib];rfl
   have g1:∀ m b c,aC ⟨m,(S.heap.put S.next b).put S.next c⟩ 0 0=.ok (40,[bs.map nM]):=fun m b c=>bX (n:=S.next) (by omega) (bX (n:=S.next) (by omega) hg)
   simp only [gG,hhd,htl] at H
   simp only [↓cw,↓reduceIte,Nat.reduceLT,kk,bG hi,kL hi,Posted.enc,aR9 _ _ _ _ hi40,g1,aRb hib,wU,gJ (show i<1000000000 by omega)]
   by_cases c1:1<bs[i]
   ·simp only [↓cw,↓reduceIte,Nat.reduceLT,c1,kk,if_true] at H ⊢
    simp only [oo,←H]
   ·by_cases c2:p.back=decide (bs[i]=1)
    ·simp only [↓cw,↓reduceIte,Nat.reduceLT,c1,c2,kk,if_true,if_false,BEq.rfl,Bool.not_true,Bool.false_eq_true] at H ⊢
     exact H _ _ ⟨rfl,g1 _ _ _,Nat.succ_pos _⟩
    ·have c3:(!(p.back == decide (bs[i]=1)))=true:=by simpa using c2
     simp only [↓cw,↓reduceIte,Nat.reduceLT,c1,c2,c3,kk,if_true,if_false] at H ⊢
     simp only [oo,←H]
  ·rintro st vs S ⟨rfl,rfl,hg,h2⟩ aF H
   simp only [↓cw,↓reduceIte,Nat.reduceLT,kk,Int.lt_irrefl,if_false,oo,←H]
theorem bEr {v:V} (book l:List Bal) (hv:v=.imm (book.map Bal.enc)∨(v=.nils∧book=[])) (hbb:book.length+l.length<1000000) (S:St) (K:KW):C 158 [v,.imm (l.map Bal.enc)] S K=K (.tup [.imm ((bY book l).1.map Bal.enc),.int .i64 (bY book l).2]) S:=by
 rcases hv with rfl | ⟨rfl,rfl⟩
 ·exact bEh book l hbb S K
 ·exact (Fn.back (args:=[.imm [],.imm (l.map Bal.enc)]) fun S K=>bEh [] l hbb S K).frz bAo rfl rfl rfl (.inr rfl) K
theorem aGv (l:List Posted):cK l=aD aP (fun b=>(b,0)) l []:=rfl
theorem g90 (l:List Posted) (hl:l.length≤1000) (hf:∀ p∈l,nN p.total) (S:St) (K:KW):C 90 [.imm (l.map Posted.enc)] S K=K (.tup [.imm ((cK l).1.map Bal.enc),.int .i64 (cK l).2]) S:=by
 refine (v90 rfl ?_).eq S K
 delta Tryz.f90;simp only [↓cw,↓reduceIte,Nat.reduceLT,kk,aGv]
 refine aG l (step:=aP) (fin:=fun b=>(b,0)) (fun i s vs S=>∃ v,vs=[.nils,.int .i64 0,v,.int .i64 (i:Int)]∧(v=.imm (s.map Bal.enc)∨(v=.nils∧s=[]))∧s.length≤25*i) (fun r=>r=aD aP (fun b=>(b,0)) l []) ?_ ?_ (s:=[]) ⟨_,rfl,.inr ⟨rfl,rfl⟩,Nat.zero_le _⟩ rfl
 ·rintro i p s vs S hi ⟨v,rfl,hv,hsl⟩ aF H
  have hil:=(List.getElem?_eq_some_iff.1 hi).1
  have hfp:=hf p (List.mem_of_getElem? hi)
  simp only [aP] at H
  simp only [↓cw,↓reduceIte,Nat.reduceLT,kk,bG hi,kL hi,Posted.enc,bIl p.total hfp,gJ (show i<1000000000 by omega)]
  by_cases c1:(cG p.total).2=0
  ·have hel:=(qT p.total).resolve_right (not_not_intro c1)
   have h12:=hfp.1
   have hle:=lY s (cG p.total).1
   simp only [↓cw,↓reduceIte,Nat.reduceLT,c1,kk,not_true_eq_false,if_false,bEr s _ hv (show s.length+(cG p.total).1.length<1000000 by omega)] at H ⊢
   by_cases c2:(bY s (cG p.total).1).2=0
   ·simp only [↓cw,↓reduceIte,Nat.reduceLT,c2,kk,not_true_eq_false,if_false] at H ⊢
    exact H _ _ ⟨_,rfl,.inl rfl,by omega⟩
   ·simp only [↓cw,↓reduceIte,Nat.reduceLT,c2,kk,not_false_eq_true,if_true] at H ⊢
    simp only [oo,←H,List.map_nil]
  ·simp only [↓cw,↓reduceIte,Nat.reduceLT,c1,kk,not_false_eq_true,if_true] at H ⊢
   simp only [oo,←H,List.map_nil]
 ·rintro s vs S ⟨v,rfl,hv,hsl⟩ aF H
  have H':aD aP (fun b=>(b,0)) l []=(s,0):=H.symm
  simp only [↓cw,↓reduceIte,Nat.reduceLT,kk,Int.lt_irrefl,if_false,H']
  rcases hv with rfl | ⟨rfl,rfl⟩<;>simp only [oo,List.map_nil]
theorem g87 (s:State) (S:St) (K:KW):C 87 [.agg [.imm (s.table.map Rate.enc),.imm (s.ser.map Ser.enc),.imm (s.posted.map Posted.enc),.imm (s.book.map Bal.enc),.imm (s.sess.map Sess.enc),.int .i64 s.next]] S K=K (.bool (gH s)) S:=by
 refine (v87 rfl ?_).eq S K
 delta Tryz.f87;simp only [↓cw,↓reduceIte,Nat.reduceLT,kk,gm,grS,bIj,gH,oo]
 cases h1:kQ s.sess
 ·simp only [↓cw,↓reduceIte,Nat.reduceLT,h1,kk,Bool.false_eq_true,if_false]
 have hb:=wP h1
 simp only [↓cw,↓reduceIte,Nat.reduceLT,h1,kk,if_true]
 by_cases h2:1≤s.next
 ·by_cases h3:s.next≤1099511627776
  ·simp only [↓cw,↓reduceIte,Nat.reduceLT,h2,h3,kk,if_true]
   by_cases h4:s.sess.length=0
   ·have:s.sess=[]:=List.length_eq_zero_iff.1 h4
    simp only [↓cw,↓reduceIte,Nat.reduceLT,h4,show ((0:Nat):Int)=0 from rfl,kk,if_true,oW,this]
   ·obtain ⟨j,hj⟩:∃ j,s.sess.length=j+1:=⟨s.sess.length - 1,by omega⟩
    have hjl:s.sess[j]?=some s.sess[j]:=List.getElem?_eq_getElem (by omega)
    simp only [↓cw,↓reduceIte,Nat.reduceLT,h4,hj,show ¬ ((j+1:Nat):Int)=0 by omega,kk,if_false,oo,wrm (show j+1<1000000000 by omega),tM hjl,Sess.enc,oW,Nat.add_sub_cancel,hjl]
  ·simp only [↓cw,↓reduceIte,Nat.reduceLT,h2,h3,kk,if_true,if_false]
 ·simp only [↓cw,↓reduceIte,Nat.reduceLT,h2,kk,if_false]
theorem g24 (s:State) (S:St) (K:KW):C 24 [.agg [.imm (s.table.map Rate.enc),.imm (s.ser.map Ser.enc),.imm (s.posted.map Posted.enc),.imm (s.book.map Bal.enc),.imm (s.sess.map Sess.enc),.int .i64 s.next]] S K=K (.bool (fX s)) S:=by
 refine (v24 rfl ?_).eq S K
 delta Tryz.f24;simp only [↓cw,↓reduceIte,Nat.reduceLT,kk,g85,g86,g87 s,g88,fX,oo]
 cases h1:kK s.table
 ·simp only [↓cw,↓reduceIte,Nat.reduceLT,h1,kk,if_true]
 cases h2:tJ s.ser
 ·simp only [↓cw,↓reduceIte,Nat.reduceLT,h2,kk,if_true,Bool.true_eq_false,if_false]
 cases h3:gH s
 ·simp only [↓cw,↓reduceIte,Nat.reduceLT,h3,kk,if_true,Bool.true_eq_false,if_false]
 cases h4:jT s.posted
 ·simp only [↓cw,↓reduceIte,Nat.reduceLT,h4,kk,if_true,Bool.true_eq_false,if_false]
 obtain ⟨h40,hok⟩:=aAz h4
 simp only [↓cw,↓reduceIte,Nat.reduceLT,kk,Bool.true_eq_false,if_false,g89 s (aAw h2) h40]
 cases h5:lZ s.ser s.posted
 ·simp only [↓cw,↓reduceIte,Nat.reduceLT,h5,kk,if_true]
 have hbl:=qU s.posted [] (cK s.posted) (fun p hp=>mP (hok p hp).2) rfl
 simp only [List.length_nil,Nat.zero_add] at hbl
 simp only [↓cw,↓reduceIte,Nat.reduceLT,kk,Bool.true_eq_false,if_false,g90 s.posted (show s.posted.length≤1000 by omega) (fun p hp=>yB (hok p hp).2)]
 by_cases h6:(cK s.posted).2=0
 ·simp only [↓cw,↓reduceIte,Nat.reduceLT,h6,kk,if_true,g91 (cK s.posted).1 s.book (show (cK s.posted).1.length<1000000 by omega),oo]
 ·simp only [↓cw,↓reduceIte,Nat.reduceLT,h6,kk,if_false,oo]
end Go.Proofs.YtoaibmbldmckaaaGreat
end
section
namespace Go.AM
theorem Own.frzN {S0 S:St} {n:Nat} {v:V} {es:List (List V)} (h:Own S0 S n v es) (hc:es.all cloVs=true) (k:Nat):cZ lH (lR (iP S (k+1)) S) v=.ok (.imm es):=by
 rcases h.is with ⟨rfl,rfl⟩ | ⟨a,ver,tl,rfl,_,_,q⟩
 ·rfl
 ·have he:aL S (.sl a ver n 0 es.length)=.ok es:=h.sl.elems
  simp only [cZ,lR,he,(gF (S:=S) (n:=k) hc).1]
end Go.AM
namespace Go.Proofs.YtoaibmbldmckaaaGreat
open Go.AM Tryz
set_option linter.unusedVariables false
set_option linter.unusedSimpArgs false
set_option maxRecDepth 100000
end Go.Proofs.YtoaibmbldmckaaaGreat
end
section
namespace Go.AM
open Go.RowKit Go.ChangeShapes
section
def Gh.all (W:World):Gh:={ Gh.none with pr:=fun b=>W.heap[b]? }
theorem aTn (W:World):eV (fun i=>W.heap[i]?) (Gh.all W) St.empty W.heap:=
 ⟨fun _ _=>⟨rfl,rfl⟩,fun _ _ h=>(by cases h),fun a b h=>(by cases h),fun a a' b b' i h=>(by cases h),fun i o h=>h,fun i o h=>h,fun a b i h=>(by cases h),
  fun a i h=>(by rcases h with ⟨L,h,_⟩ | h<;>cases h),fun a b h=>(by cases h)⟩
theorem aGw {P:Program} {pl:gX} (hp:PlansOK P pl) {k:Nat} {f:FuncId} {args:List V} {S':St} (h:eO P pl k f args St.empty=.ok (.bool true,S')) (W:World) {cs:List Value} (hc:VRs (Gh.all W) args cs):
  Calls P f cs.toArray W fun e W'=>e=.returned (.bool true)∧Below W.heap.size W W':=by
 refine ((qH hp k).calls h (aTn W) hc).mono ?_
 rintro e W' ⟨G',w,rfl,q1,q2⟩
 cases q2
 refine ⟨rfl,q1.same.os,q1.same.tape,q1.same.output,q1.same.size,fun i hi=>?_⟩
 have:=Array.getElem?_eq_getElem hi
 rw [this]
 exact q1.rel.fr i _ this
def eM (P:Program):Nat→TypeId→List V→Prop
 | 0,_,_=>False
 | n+1,t,xs=>match P.underlying t with
  | some .bool=>∃ b,xs=[.bool b]
  | some (.int k)=>∃ i,xs=[.int k i]∧(Lit.int k i).wf=true
  | some .string=>∃ s,xs=[.str s]∧s.length≤maxLen
  | some (.slice e)=>∃ es,xs=[.imm es]∧es.length≤maxLen∧∀ c,c∈es→c.length=P.cellsOf e∧eM P n e c
  | some (.struct fs)=>xs.length=P.cellsOf t∧∀ f,f∈fs.toList→eM P n f.type ((xs.drop f.offset).take (P.cellsOf f.type))
  | _=>False
def aL0 (P:Program):List Field→Nat→Nat→Bool
 | [],o,e=>Nat.beq o e
 | f::l,o,e=>Nat.beq f.offset o&&aL0 P l (o+P.cellsOf f.type) e
def tN (P:Program):Nat→TypeId→Bool
 | 0,_=>false
 | d+1,t=>match P.underlying t with
  | some .bool=>true
  | some (.int _)=>true
  | some .string=>true
  | some (.slice e)=>Nat.blt 0 (P.cellsOf e)&&tN P d e
  | some (.struct fs)=>aL0 P fs.toList 0 (P.cellsOf t)&&fs.toList.all fun f=>tN P d f.type
  | _=>false
theorem aL1 {α:Type} {Q:Nat→α→Prop}:∀ n,(∀ i,i<n→∃ a,Q i a)→∃ l:List α,l.length=n∧∀ i a,l[i]?=some a→Q i a
 | 0,_=>⟨[],rfl,fun i a h=>by simp at h⟩
 | n+1,h=>by
  obtain ⟨l,h1,h2⟩:=aL1 n fun i hi=>h i (by omega)
  obtain ⟨a,ha⟩:=h n (by omega)
  refine ⟨l++[a],by simp [h1],fun i x hx=>?_⟩
  by_cases c:i<n
  ·rw [List.getElem?_append_left (by omega)] at hx;exact h2 i x hx
  ·have hi:i<(l++[a]).length:=(List.getElem?_eq_some_iff.1 hx).1
   simp only [List.length_append,List.length_cons,List.length_nil] at hi
   have:i=n:=by omega
   subst this
   rw [List.getElem?_append_right (by omega),h1,Nat.sub_self] at hx
   cases hx;exact ha
theorem VRss.of {G:Gh}:∀ {l:List (List V×List Value)},(∀ x,x∈l→VRs G x.1 x.2)→VRss G (l.map (·.1)) (l.map (·.2))
 | [],_=>.nil
 | x::l,h=>.cons _ _ _ _ (h x (List.mem_cons_self ..)) (VRss.of fun y hy=>h y (List.mem_cons_of_mem _ hy))
section
variable {H:Type} {enc:TypeId×Value→H} {P:Program} {W:World} {sp:Nat→Bool} {held:Bool}
theorem aXt {n:Nat} {cs:List Value} (ih:∀ (t:TypeId) (cs:List Value) (x:DataW H×List MemPlace) (d:Nat),tN P d t=true→DataW.trod enc P W 0 sp held n t cs=some x→∃ xs,VRs (Gh.all W) xs cs∧eM P n t xs) {d:Nat}:
  ∀ (l:List Field) (o e:Nat),aL0 P l o e=true→e≤cs.length→(∀ f,f∈l→tN P d f.type=true∧∃ x,DataW.trod enc P W 0 sp held n f.type ((cs.drop f.offset).take (P.cellsOf f.type))=some x)→
   o≤e∧∃ xs,VRs (Gh.all W) xs ((cs.drop o).take (e - o))∧∀ f,f∈l→o≤f.offset∧eM P n f.type ((xs.drop (f.offset - o)).take (P.cellsOf f.type))
 | [],o,e,h,he,_=>by
  have:o=e:=Nat.eq_of_beq_eq_true h
  subst this
  exact ⟨Nat.le_refl _,[],by rw [Nat.sub_self];exact .nil,fun _ h=>by cases h⟩
 | f::l,o,e,h,he,hf=>by
  simp only [aL0,Bool.and_eq_true] at h
  have h0:f.offset=o:=Nat.eq_of_beq_eq_true h.1
  obtain ⟨hle,xs,hv,hs⟩:=aXt ih l (o+P.cellsOf f.type) e h.2 he (fun g hg=>hf g (List.mem_cons_of_mem _ hg))
  obtain ⟨hpl,x,hx⟩:=hf f (List.mem_cons_self ..)
  obtain ⟨ys,hy,hsy⟩:=ih _ _ _ d hpl hx
  rw [h0] at hy
  have hyl:ys.length=P.cellsOf f.type:=by rw [hy.length,List.length_take,List.length_drop];omega
  refine ⟨by omega,ys++xs,?_,fun g hg=>?_⟩
  ·have:(cs.drop o).take (e - o)=(cs.drop o).take (P.cellsOf f.type)++(cs.drop (o+P.cellsOf f.type)).take (e - (o+P.cellsOf f.type)):=by
    rw [←List.drop_drop,←List.take_add]
    congr 1
    omega
   rw [this]
   exact hy.append hv
  ·rcases List.mem_cons.1 hg with rfl | hg
   ·refine ⟨by omega,?_⟩
    rw [h0,Nat.sub_self,List.drop_zero,List.take_append_of_le_length (by omega),List.take_of_length_le (by omega)]
    exact hsy
   ·obtain ⟨h1,h2⟩:=hs g hg
    refine ⟨by omega,?_⟩
    rw [List.drop_append,List.drop_eq_nil_of_le (by omega),List.nil_append,hyl]
    have:g.offset - o - P.cellsOf f.type=g.offset - (o+P.cellsOf f.type):=by omega
    rw [this]
    exact h2
theorem wV {a:Addr} {n:Nat} {r:List Value} (h:W.cells? 0 a n=some r):r.length=n∧∀ k v,r[k]?=some v→W.cell? (a.add k)=some v:=by
 unfold World.cells? at h
 rw [if_pos (Nat.zero_le _)] at h
 have hl:=mapM_some_length h
 rw [List.length_range] at hl
 refine ⟨hl,fun k v hk=>?_⟩
 have hkn:k<n:=by have:=(List.getElem?_eq_some_iff.1 hk).1;omega
 have:=mapM_some_get h k k (by rw [List.getElem?_range hkn])
 rw [this,hk]
theorem aL2 {a:Addr} {v:Value} (h:W.cell? a=some v):∃ c ty fr,W.heap[a.block]?=some (.cells c ty fr)∧a.spot=none∧c[a.off]?=some v:=by
 unfold World.cell? at h
 split at h
 ·rename_i c ty fr hc
  split at h
  ·cases h
  ·rename_i hs
   exact ⟨c,ty,fr,hc,by simpa using hs,h⟩
 ·cases h
theorem aDa (a:Addr) (n:Nat):(a.add n).block=a.block:=by
 unfold Addr.add
 split<;>rfl
theorem aL3 (a:Addr) (n:Nat):(a.add n).off=a.off+n:=by
 unfold Addr.add
 split
 ·rename_i h;rw [h,Nat.add_zero]
 ·rfl
theorem aDb (a:Addr):a.add 0=a:=by unfold Addr.add;rw [if_pos rfl]
theorem aIr:∀ (n:Nat) (t:TypeId) (cs:List Value) (x:DataW H×List MemPlace) (d:Nat),tN P d t=true→DataW.trod enc P W 0 sp held n t cs=some x→∃ xs,VRs (Gh.all W) xs cs∧eM P n t xs
 | 0,t,cs,x,d,_,h=>by simp [DataW.trod] at h
 | n+1,t,cs,x,0,hp,h=>by cases hp
 | n+1,t,cs,x,d+1,hp,h=>by
  simp only [tN] at hp
  split at hp
  ·rename_i ht
   obtain ⟨b,rfl,_⟩:=DataW.trod_bool ht h
   exact ⟨[.bool b],.cons _ _ _ _ (.bool b) .nil,by simp only [eM,ht];exact ⟨b,rfl⟩⟩
  ·rename_i k ht
   obtain ⟨i,rfl,_,hw⟩:=DataW.trod_int ht h
   exact ⟨[.int k i],.cons _ _ _ _ (.int k i) .nil,by simp only [eM,ht];exact ⟨i,rfl,hw⟩⟩
  ·rename_i ht
   obtain ⟨s,rfl,_,hs⟩:=DataW.trod_string ht h
   refine ⟨[.str s.data.toList],.cons _ _ _ _ (.str s.data.toList) .nil,?_⟩
   simp only [eM,ht]
   exact ⟨_,rfl,hs⟩
  ·rename_i e ht
   simp only [Bool.and_eq_true,Nat.blt_eq] at hp
   rcases DataW.trod_slice ht h with ⟨rfl,_⟩ | ⟨a,len,cap,elems,rest,m,hm,rfl,_,_,hlc,hcap,hel,hget,_,_⟩
   ·exact ⟨[.imm []],.cons _ _ _ _ .imm0 .nil,by simp only [eM,ht];exact ⟨[],rfl,Nat.zero_le _,fun c hc=>by cases hc⟩⟩
   ·have hm:m=n:=by omega
    subst hm
    obtain ⟨l,hl,hq⟩:=aL1 (Q:=fun i (y:List V×List Value)=>W.cells? 0 (a.add (i*P.cellsOf e)) (P.cellsOf e)=some y.2∧VRs (Gh.all W) y.1 y.2∧eM P m e y.1) len (fun i hi=>by
     have h1:=hget i hi
     rw [List.getElem?_eq_getElem (by omega:i<elems.length)] at h1
     rw [Option.bind_eq_some_iff] at h1
     obtain ⟨r,h2,h3⟩:=h1
     obtain ⟨c,h4,h5⟩:=aIr m e r _ d hp.2 h3
     exact ⟨(c,r),h2,h4,h5⟩)
    have hlen:∀ y,y∈l→y.1.length=P.cellsOf e∧y.2.length=P.cellsOf e:=fun y hy=>by
     obtain ⟨i,hi⟩:=List.mem_iff_getElem?.1 hy
     obtain ⟨h1,h2,_⟩:=hq i y hi
     have:=(wV h1).1
     exact ⟨by rw [h2.length];exact this,this⟩
    refine ⟨[.imm (l.map (·.1))],.cons _ _ _ _ (.imm _ a len cap (P.cellsOf e) (by rw [List.length_map,hl]) hlc (l.map (·.2)) (VRss.of fun y hy=>?_) (fun c hc=>?_) ?_) .nil,?_⟩
    ·obtain ⟨i,hi⟩:=List.mem_iff_getElem?.1 hy
     exact (hq i y hi).2.1
    ·obtain ⟨y,hy,rfl⟩:=List.mem_map.1 hc
     exact (hlen y hy).1
    ·by_cases h0:len=0
     ·exact .inl h0
     ·right
      obtain ⟨y0,hy0⟩:∃ y0,l[0]?=some y0:=⟨l[0]'(by omega),List.getElem?_eq_getElem (by omega)⟩
      obtain ⟨h1,_,_⟩:=hq 0 y0 hy0
      rw [Nat.zero_mul,aDb] at h1
      obtain ⟨hyl,hcell⟩:=wV h1
      obtain ⟨v0,hv0⟩:∃ v0,y0.2[0]?=some v0:=⟨y0.2[0]'(by omega),List.getElem?_eq_getElem (by omega)⟩
      have hc0:=hcell 0 v0 hv0
      rw [aDb] at hc0
      obtain ⟨c,ty,fr,hh,hs,_⟩:=aL2 hc0
      refine ⟨c,ty,fr,hh,hs,fun i r hr k v hk=>?_⟩
      rw [List.getElem?_map] at hr
      obtain ⟨y,hy,rfl⟩:∃ y,l[i]?=some y∧y.2=r:=by
       cases hy:l[i]? with
       | none=>rw [hy] at hr;cases hr
       | some y=>rw [hy] at hr;exact ⟨y,rfl,Option.some.inj hr⟩
      obtain ⟨h2,_,_⟩:=hq i y hy
      obtain ⟨c',ty',fr',hh',_,hv⟩:=aL2 ((wV h2).2 k v hk)
      rw [aDa,aDa,hh] at hh'
      rw [aL3,aL3] at hv
      cases hh'
      exact hv
    ·simp only [eM,ht]
     refine ⟨_,rfl,by rw [List.length_map,hl];omega,fun c hc=>?_⟩
     obtain ⟨y,hy,rfl⟩:=List.mem_map.1 hc
     obtain ⟨i,hi⟩:=List.mem_iff_getElem?.1 hy
     exact ⟨(hlen y hy).1,(hq i y hi).2.2⟩
  ·rename_i fs ht
   simp only [Bool.and_eq_true,List.all_eq_true] at hp
   obtain ⟨xs,m,hm,_,hcl,hxl,hf⟩:=DataW.trod_struct ht h
   have hm:m=n:=by omega
   subst hm
   obtain ⟨_,ys,h1,h2⟩:=aXt (enc:=enc) (sp:=sp) (held:=held) (cs:=cs) (fun t cs x d=>aIr m t cs x d) fs.toList 0 (P.cellsOf t) hp.1 (Nat.le_of_eq hcl.symm) (fun f hfm=>by
    refine ⟨hp.2 f hfm,?_⟩
    obtain ⟨i,hi⟩:=List.mem_iff_getElem?.1 hfm
    have hi':fs[i]?=some f:=by simpa using hi
    rw [hf i f hi']
    have:i<xs.length:=by
     rw [hxl]
     by_cases c:i<fs.size
     ·exact c
     ·rw [Array.getElem?_eq_none (by omega)] at hi';cases hi'
    exact ⟨_,List.getElem?_eq_getElem this⟩)
   rw [Nat.sub_zero,List.drop_zero,List.take_of_length_le (by omega)] at h1
   refine ⟨ys,h1,?_⟩
   simp only [eM,ht]
   refine ⟨by rw [h1.length,hcl],fun f hfm=>?_⟩
   have:=(h2 f hfm).2
   rwa [Nat.sub_zero] at this
  ·cases hp
end
end
end Go.AM
end
section
namespace Go.AM
open Go.ChangeShapes Go.WideShapes Go.ChangeAt Go.RowKit
theorem aC7 {H:Type} {enc:TypeId×Value→H} {P:Program} {f:Func} {s:ChangeSpec} {apart fresh handsOn:Bool} {W W':World} {args:Array Value} {v:Value} {ds gs:List (DataW H)} {before pa pv:List MemPlace}
  (hW:DataW.Whole enc P f.params.toList s.vars apart W args.toList ds gs before)
  (hres:∀ (b:Nat) (sp:Nat→Bool) (hd:Bool),DataW.TrodAll enc P W' b sp hd f.resultTypes.toList (v.resultList f.resultTypes.size) (s.fn H (ds++gs)).results [])
  (hargs:∀ sp:Nat→Bool,(∀ p∈before,sp p.block=true)→DataW.TrodAll enc P W' 0 sp true f.params.toList args.toList (s.fn H (ds++gs)).args pa)
  (hvars:∀ sp:Nat→Bool,(∀ p∈before,sp p.block=true)→DataW.TrodVars enc P W' sp s.vars (s.fn H (ds++gs)).vars pv)
  (hps:before=pa++pv) (hk:W.keptBut W' (·∈before)):
  s.post enc P f apart fresh handsOn false W args v W':=by
 have hold:∀ p∈before,(fun b=>decide (b<W.heap.size)) p.block=true:=fun p hp=>by simpa using hW.lt p hp
 refine ⟨ds,gs,before,[],pa,pv,hW,hres _ _ _,hargs _ hold,hvars _ hold,World.keptBut_mono (fun p hp=>⟨hp,?_⟩) hk,fun h=>by cases h⟩
 rw [hps,List.mem_append] at hp
 exact Or.inr hp
theorem aC8 {W W':World} (h:Below W.heap.size W W') (S:MemPlace→Prop):W.keptBut W' S:=Below.frame h S
theorem aMv {H:Type} {enc:TypeId×Value→H} {P:Program} {W:World} {t:TypeId} (ht:P.underlying t=some .bool) (b:Nat) (sp:Nat→Bool) (hd:Bool):
  DataW.TrodAll enc P W b sp hd [t] ((Value.bool true).resultList 1) [.lit (.bool true)] []:=
 trodAll_mk1 ⟨1,by simp [DataW.trod,Value.cells,ht]⟩
end Go.AM
end
section
namespace Go.AM
open Go.RowKit Go.ChangeShapes
section
section
variable {H:Type} {enc:TypeId×Value→H} {P:Program} {W:World} {sp:Nat→Bool} {held:Bool}
theorem aC9 {r:Reach} {b0:Nat} {t e:TypeId} {v:Value} (ht:P.underlying t=some (.slice e)) (hval:Value.okWide P W r b0 t v):v.cells.toList=[v]:=by
 cases v with
 | agg cs=>simp [Value.okWide,ht,Cell.okWide,Cell.ok] at hval
 | _=>rfl
theorem aB2 {r:Reach} {b0 d:Nat} {t e:TypeId} {v:Value} {dd:DataW H} {ps:List MemPlace} (ht:P.underlying t=some (.slice e)) (hpl:tN P d t=true) (hval:Value.okWide P W r b0 t v) (hd:DataW.Trod enc P W 0 sp held t v dd ps):
  ∃ x n,VR (Gh.all W) x v∧eM P n t [x]:=by
 obtain ⟨fuel,hf⟩:=hd
 obtain ⟨xs,h1,h2⟩:=aIr fuel t _ _ d hpl hf
 rw [aC9 ht hval] at h1
 cases h1 with
 | cons x _ vs _ hx t'=>
  cases t'
  exact ⟨x,fuel,hx,h2⟩
theorem aMw {t:TypeId} (hl:laidOutB P=true) (hr:P.readableRec t=true) (hrow:t<P.types.size) {W':World} {v:Value} {d:DataW H} {ps:List MemPlace} (h:DataW.Trod enc P W 0 (fun _=>true) true t v d ps) (hb:Below W.heap.size W W')
  (hlt:∀ x∈ps,x.block<W.heap.size) {sp':Nat→Bool} (hs:∀ x∈ps,sp' x.block=true):DataW.Trod enc P W' 0 sp' true t v d ps:=
 WideElems.Trod_stays hl hr hrow h (fun x hx=>hb.same (hlt x hx)) hs
end
end
end Go.AM
end
section
namespace Go.Proofs.YtoaibmbldmckaaaGreat
open Go.AM Tryz
theorem aRc {P:Program} {n:Nat} {t e:TypeId} {xs:List V} (ht:P.underlying t=some (.slice e)) (h:eM P n t xs):
  ∃ m es,xs=[.imm es]∧∀ c,c∈es→c.length=P.cellsOf e∧eM P m e c:=by
 cases n with
 | zero=>cases h
 | succ m=>
  simp only [eM,ht] at h
  obtain ⟨es,h1,_,h2⟩:=h
  exact ⟨m,es,h1,h2⟩
theorem aGx {α:Type} {enc:α→List V}:∀ {es:List (List V)},(∀ c,c∈es→∃ a:α,c=enc a)→∃ l:List α,es=l.map enc
 | [],_=>⟨[],rfl⟩
 | c::es,h=>by
  obtain ⟨a,ha⟩:=h c (List.mem_cons_self ..)
  obtain ⟨l,hl⟩:=aGx fun d hd=>h d (List.mem_cons_of_mem _ hd)
  exact ⟨a::l,by rw [ha,hl];rfl⟩
abbrev dY (n:Int):Prop:=-9223372036854775808≤n∧n≤9223372036854775807
theorem mB {n:Int} (h:dY n):wr .i64 n=n:=eX h.1 h.2
theorem rD (n:Int):dY (wr .i64 n):=by
 unfold wr lo hi
 simp only
 split
 ·omega
 ·rw [IntKind.wrap_i64];omega
theorem dM {n:Int} (h1:0≤n) (h2:n<18446744073709551616):wr .u64 n=n:=by
 unfold wr lo hi
 simp only
 rw [if_pos (by omega)]
theorem zK (n:Int):wr .u64 n=n % 18446744073709551616:=by
 unfold wr lo hi
 simp only
 split
 ·omega
 ·rfl
theorem aDc {a b:Int} (ha:dY a) (hb:dY b):iX a b=if dY (a+b) then (a+b,0) else (0,7):=by
 unfold iX at *
 have e1:0<b→wr .i64 (9223372036854775807 - b)=9223372036854775807 - b:=fun h=>eX (by omega) (by omega)
 have e2:b<0→wr .i64 (-9223372036854775808 - b)=-9223372036854775808 - b:=fun h=>eX (by omega) (by omega)
 by_cases h:-9223372036854775808≤a+b∧a+b≤9223372036854775807
 ·rw [if_pos h,eX h.1 h.2,if_neg]
  rintro (⟨h1,h2⟩ | ⟨h1,h2⟩)
  ·rw [e1 h1] at h2;omega
  ·rw [e2 h1] at h2;omega
 ·rw [if_neg h,if_pos]
  by_cases h0:0<b
  ·exact .inl ⟨h0,by rw [e1 h0];omega⟩
  ·exact .inr ⟨by omega,by rw [e2 (by omega)];omega⟩
theorem aMx {b:Int} (hb:dY b):bZ 0 b=if b=-9223372036854775808 then (0,7) else (-b,0):=by
 unfold bZ at *
 have e1:b<0→wr .i64 (9223372036854775807+b)=9223372036854775807+b:=fun h=>eX (by omega) (by omega)
 have e2:0<b→wr .i64 (-9223372036854775808+b)=-9223372036854775808+b:=fun h=>eX (by omega) (by omega)
 by_cases h:b=-9223372036854775808
 ·rw [if_pos h,if_pos]
  exact .inl ⟨by omega,by rw [e1 (by omega)];omega⟩
 ·rw [if_neg h,if_neg,Int.zero_sub,eX (by omega) (by omega)]
  rintro (⟨h1,h2⟩ | ⟨h1,h2⟩)
  ·rw [e1 h1] at h2;omega
  ·rw [e2 h1] at h2;omega
theorem aB3 (n bp:Int):dY (cH n bp).1:=by
 unfold cH
 have h0:dY 0:=by omega
 split
 ·exact h0
 ·simp only
  split
  ·exact h0
  ·split
   ·exact h0
   ·split
    ·exact rD _
    ·exact rD _
theorem aRd:∀ (l:List Int) (h w s:Int),(∀ n∈l,dY n)→0≤h→h<18446744073709551616→0≤w→w<18446744073709551616→(h*18446744073709551616+w - s) % 340282366920938463463374607431768211456=0→
  ∃ h' w',aD rQ qR l (h,w)=qR (h',w')∧0≤h'∧h'<18446744073709551616∧0≤w'∧w'<18446744073709551616∧(h'*18446744073709551616+w' - (s+l.sum)) % 340282366920938463463374607431768211456=0
 | [],h,w,s,_,a,b,c,d,e=>⟨h,w,rfl,a,b,c,d,by simpa using e⟩
 | n::l,h,w,s,hl,a,b,c,d,e=>by
  have hn:=hl n (List.mem_cons_self ..)
  have hstep:∃ h2 w2,rQ (h,w) n=.inr (h2,w2)∧0≤h2∧h2<18446744073709551616∧0≤w2∧w2<18446744073709551616∧(h2*18446744073709551616+w2 - (s+n)) % 340282366920938463463374607431768211456=0:=by
   refine ⟨_,_,rfl,?_,?_,?_,?_,?_⟩
   ·simp only;omega
   ·simp only;omega
   ·simp only;omega
   ·simp only;omega
   ·simp only [zK]
    split<;>omega
  obtain ⟨h2,w2,e1,a2,b2,c2,d2,e2⟩:=hstep
  obtain ⟨h',w',r1,r2⟩:=aRd l h2 w2 (s+n) (fun m hm=>hl m (List.mem_cons_of_mem _ hm)) a2 b2 c2 d2 e2
  refine ⟨h',w',?_,?_⟩
  ·simp only [aD,e1];exact r1
  ·rw [List.sum_cons,←Int.add_assoc];exact r2
theorem aDd:∀ (l:List Int),(∀ n∈l,dY n)→-9223372036854775808*(l.length:Int)≤l.sum∧l.sum≤9223372036854775808*(l.length:Int)
 | [],_=>by simp
 | n::l,h=>by
  have h1:=h n (List.mem_cons_self ..)
  have h2:=aDd l fun m hm=>h m (List.mem_cons_of_mem _ hm)
  simp only [List.sum_cons,List.length_cons]
  omega
theorem dN {l:List Int} (h:∀ n∈l,dY n) (hl:l.length≤1000000):(bO l).1=wr .i64 l.sum∧((bO l).2=true↔dY l.sum):=by
 obtain ⟨h',w',e,a,b,c,d,m⟩:=aRd l 0 0 0 h (by decide) (by decide) (by decide) (by decide) (by decide)
 have hs:=aDd l h
 unfold bO
 rw [e]
 have hb1:-9223372036854775808000000≤l.sum:=by omega
 have hb2:l.sum≤9223372036854775808000000:=by omega
 have key:w'=l.sum % 18446744073709551616∧h'=(l.sum / 18446744073709551616) % 18446744073709551616:=by
  rw [Int.zero_add] at m
  omega
 constructor
 ·show wr .i64 w'=wr .i64 l.sum
  unfold wr lo hi
  simp only [IntKind.wrap_i64]
  split<;>split<;>omega
 ·show (if w'.fdiv (2 ^ 63)=0 then decide (h'=0) else decide (h'=18446744073709551615))=true↔_
  have hf:w'.fdiv (2 ^ 63)=w' / 9223372036854775808:=by
   rw [Int.fdiv_eq_ediv_of_nonneg _ (by decide)]
   rfl
  rw [hf]
  split
  ·simp only [decide_eq_true_eq];omega
  ·simp only [decide_eq_true_eq];omega
theorem wW {l:List Int} (h:∀ n∈l,dY n) (hl:l.length≤1000000) (hs:dY l.sum):bO l=(l.sum,true):=by
 obtain ⟨h1,h2⟩:=dN h hl
 exact Prod.ext (by rw [h1,mB hs]) (h2.2 hs)
theorem tO:∀ a,kU a a=false
 | []=>rfl
 | x::a=>by
  simp only [kU,cond_eq_ite]
  rw [if_neg (by simp [Nat.blt]),if_pos (by simp)]
  exact tO a
theorem aRe (x y:UInt8) (a b:List UInt8):kU (x::a) (y::b)=true↔x.toNat<y.toNat∨x.toNat=y.toNat∧kU a b=true:=by
 simp only [kU,cond_eq_ite,Nat.blt_eq,Nat.beq_eq]
 split
 ·rename_i h;simp [h]
 ·rename_i h
  split
  ·rename_i h2;simp [h2]
  ·rename_i h2;simp [h,h2]
theorem xA:∀ {a b c:List UInt8},kU a b=true→kU b c=true→kU a c=true
 | [],[],c,h,_=>by cases h
 | x::a,[],c,h,_=>by cases h
 | a,y::b,[],_,h=>by cases h
 | [],y::b,z::c,_,_=>rfl
 | x::a,y::b,z::c,h1,h2=>by
  rw [aRe] at *
  rcases h1 with h1 | ⟨h1,h3⟩<;>rcases h2 with h2 | ⟨h2,h4⟩
  ·exact .inl (by omega)
  ·exact .inl (by omega)
  ·exact .inl (by omega)
  ·exact .inr ⟨by omega,xA h3 h4⟩
theorem aZ2 {a b:List UInt8} (h:kU a b=true):a≠b:=fun e=>by subst e;rw [tO] at h;cases h
theorem yC {α:Type} {step:Option α→α→Bool⊕Option α} {good:α→Prop} {R:α→α→Prop}
  (h2:∀ a p,¬ good a→step p a=.inl false) (h3:∀ p a,good a→R p a→step (some p) a=.inr (some a)) (h4:∀ p a,good a→¬ R p a→step (some p) a=.inl false)
  (tr:∀ a b c,R a b→R b c→R a c):∀ (l:List α) (p:α),aD step (fun _=>true) l (some p)=true↔(∀ a∈l,good a)∧(∀ a∈l,R p a)∧l.Pairwise R
 | [],p=>by simp [aD]
 | a::l,p=>by
  by_cases g:good a
  ·by_cases r:R p a
   ·simp only [aD,h3 p a g r]
    rw [yC h2 h3 h4 tr l a]
    simp only [List.mem_cons,List.pairwise_cons]
    constructor
    ·rintro ⟨q1,q2,q3⟩
     exact ⟨fun b hb=>hb.elim (fun e=>e▸g) (q1 b),fun b hb=>hb.elim (fun e=>e▸r) (fun hb=>tr _ _ _ r (q2 b hb)),q2,q3⟩
    ·rintro ⟨q1,q2,q3,q4⟩
     exact ⟨fun b hb=>q1 b (.inr hb),q3,q4⟩
   ·simp only [aD,h4 p a g r]
    constructor
    ·intro h;cases h
    ·rintro ⟨_,q2,_⟩;exact absurd (q2 a (List.mem_cons_self ..)) r
  ·simp only [aD,h2 a (some p) g]
   constructor
   ·intro h;cases h
   ·rintro ⟨q1,_,_⟩;exact absurd (q1 a (List.mem_cons_self ..)) g
theorem aB4 {α:Type} {step:Option α→α→Bool⊕Option α} {good:α→Prop} {R:α→α→Prop} (h1:∀ a,good a→step none a=.inr (some a))
  (h2:∀ a p,¬ good a→step p a=.inl false) (h3:∀ p a,good a→R p a→step (some p) a=.inr (some a)) (h4:∀ p a,good a→¬ R p a→step (some p) a=.inl false)
  (tr:∀ a b c,R a b→R b c→R a c):∀ (l:List α),aD step (fun _=>true) l none=true↔(∀ a∈l,good a)∧l.Pairwise R
 | []=>by simp [aD]
 | a::l=>by
  by_cases g:good a
  ·simp only [aD,h1 a g]
   rw [yC h2 h3 h4 tr l a]
   simp only [List.mem_cons,List.pairwise_cons]
   constructor
   ·rintro ⟨q1,q2,q3⟩
    exact ⟨fun b hb=>hb.elim (fun e=>e▸g) (q1 b),q2,q3⟩
   ·rintro ⟨q1,q3,q4⟩
    exact ⟨fun b hb=>q1 b (.inr hb),q3,q4⟩
  ·simp only [aD,h2 a none g]
   constructor
   ·intro h;cases h
   ·rintro ⟨q1,_⟩;exact absurd (q1 a (List.mem_cons_self ..)) g
theorem rE (l:List Ser):tJ l=true↔l.length≤8∧(∀ s∈l,gP s.name=true∧qM s=false)∧l.Pairwise (fun a b=>kU a.name b.name=true):=by
 unfold tJ
 split
 ·rename_i h;simp;omega
 ·rename_i h
  rw [aB4 (good:=fun s:Ser=>gP s.name=true∧qM s=false) (R:=fun a b=>kU a.name b.name=true)]
  ·constructor
   ·intro q;exact ⟨by omega,q⟩
   ·intro q;exact q.2
  ·intro a g;simp [iY,kA,g.1,g.2]
  ·intro a p g
   unfold iY
   split
   ·rfl
   ·split
    ·rfl
    ·split
     ·rfl
     ·rename_i h1 h2 h3
      exact absurd ⟨by simpa using h1,by simpa using h3⟩ g
  ·intro p a g r;simp [iY,kA,g.1,g.2,r]
  ·intro p a g r;simp [iY,kA,g.1,g.2,r]
  ·intro a b c;exact xA
theorem aXu:∀ (l:List Sess) (last:Int),aD eR (fun _=>true) l last=true↔(∀ s∈l,last<s.id∧0≤s.last∧s.last≤1099511627776∧(s.last=0→s.reply=Rep.zero))∧l.Pairwise (fun a b=>a.id<b.id)
 | [],last=>by simp [aD]
 | s::l,last=>by
  by_cases g:last<s.id∧0≤s.last∧s.last≤1099511627776∧(s.last=0→s.reply=Rep.zero)
  ·have e:eR last s=.inr s.id:=by
    unfold eR
    rw [if_neg (by omega),if_neg (by omega),if_neg (by omega),if_neg (fun h=>h.2 (g.2.2.2 h.1))]
   simp only [aD,e]
   rw [aXu l s.id]
   simp only [List.mem_cons,List.pairwise_cons]
   constructor
   ·rintro ⟨q1,q2⟩
    exact ⟨fun b hb=>hb.elim (fun e=>e▸g) (fun hb=>⟨by have:=(q1 b hb).1;omega,(q1 b hb).2⟩),fun b hb=>(q1 b hb).1,q2⟩
   ·rintro ⟨q1,q2,q3⟩
    exact ⟨fun b hb=>⟨q2 b hb,(q1 b (.inr hb)).2⟩,q3⟩
  ·have e:eR last s=.inl false:=by
    unfold eR
    repeat' split
    all_goals first | rfl | skip
    rename_i h1 h2 h3 h4
    refine absurd ⟨by omega,by omega,by omega,fun h=>?_⟩ g
    by_cases c:s.reply=Rep.zero
    ·exact c
    ·exact absurd ⟨h,c⟩ h4
   simp only [aD,e]
   constructor
   ·intro h;cases h
   ·rintro ⟨q1,_⟩;exact absurd (q1 s (List.mem_cons_self ..)) g
theorem aDe (l:List Sess):kQ l=true↔l.length≤8∧(∀ s∈l,0<s.id∧0≤s.last∧s.last≤1099511627776∧(s.last=0→s.reply=Rep.zero))∧l.Pairwise (fun a b=>a.id<b.id):=by
 unfold kQ
 split
 ·rename_i h;simp;omega
 ·rename_i h
  rw [aXu]
  exact ⟨fun q=>⟨by omega,q⟩,fun q=>q.2⟩
theorem aMy {n:Int} (h:dY n):aKu n=if n<0 then -n else n:=by
 unfold aKu
 split
 ·rename_i c
  have h1:wr .u64 n=18446744073709551616+n:=by rw [zK];omega
  rw [h1]
  have h2:aGm (18446744073709551616+n)=-n - 1:=by
   unfold aGm
   simp only [IntKind.signed,Bool.false_eq_true,if_false]
   have hm:(IntKind.u64.max:Int)=18446744073709551615:=by decide
   rw [hm]
   have hb:IntKind.u64.bits=64:=rfl
   rw [hb]
   have:(BitVec.ofInt 64 18446744073709551615 ^^^ BitVec.ofInt 64 (18446744073709551616+n)) = ~~~ (BitVec.ofInt 64 (18446744073709551616+n)):=by
    rw [show (BitVec.ofInt 64 18446744073709551615)=BitVec.allOnes 64 from by decide,BitVec.allOnes_xor]
   rw [this,BitVec.toNat_not]
   have hv:(BitVec.ofInt 64 (18446744073709551616+n)).toNat=(18446744073709551616+n).toNat:=by
    rw [BitVec.toNat_ofInt]
    omega
   rw [hv,dM (by omega) (by omega)]
   omega
  rw [h2,dM (by omega) (by omega)]
  omega
 ·exact dM (by omega) (by omega)
def tP (u bp:Int):Option Int:=
 if 0<bp∧9223372036854775807 / bp<u / 10000 then none else
  if 9223372036854775807<u / 10000*bp+(2*(u % 10000)*bp+10000) / 20000 then none else some (u / 10000*bp+(2*(u % 10000)*bp+10000) / 20000)
theorem aF0 {u bp t:Int} (hu:0≤u) (hb:0≤bp) (h:tP u bp=some t):0≤t∧t≤9223372036854775807:=by
 unfold tP at h
 split at h
 ·cases h
 ·split at h
  ·cases h
  ·rename_i h2
   cases h
   have h3:0≤u / 10000*bp:=Int.mul_nonneg (by omega) hb
   have h4:0≤2*(u % 10000)*bp:=Int.mul_nonneg (by omega) hb
   exact ⟨by omega,by omega⟩
theorem xB {n bp:Int} (h:dY n) (h1:0≤bp) (h2:bp≤100000):cH n bp=match tP (if n<0 then -n else n) bp with
  | none=>(0,7)
  | some t=>(if n<0 then -t else t,0):=by
 unfold cH
 rw [if_neg (by omega)]
 simp only [aMy h]
 have hp:wr .u64 bp=bp:=dM h1 (by omega)
 rw [hp]
 obtain ⟨u,hu⟩:∃ u,u=(if n<0 then -n else n):=⟨_,rfl⟩
 rw [←hu]
 have hu0:0≤u∧u≤9223372036854775808:=by subst hu;split<;>omega
 have hq:u.tdiv 10000=u / 10000:=Int.tdiv_eq_ediv_of_nonneg hu0.1
 have hr:u.tmod 10000=u % 10000:=Int.tmod_eq_emod_of_nonneg hu0.1
 have hmax:(9223372036854775807:Int).tdiv bp=9223372036854775807 / bp:=Int.tdiv_eq_ediv_of_nonneg (by decide)
 rw [hq,hr,hmax,dM (n:=u / 10000) (by omega) (by omega)]
 have hdiv:0<bp→0≤9223372036854775807 / bp∧9223372036854775807 / bp<18446744073709551616:=by
  intro hb
  constructor
  ·exact Int.ediv_nonneg (by decide) (by omega)
  ·have:=Int.ediv_le_self bp (a:=9223372036854775807) (by decide);omega
 unfold tP
 by_cases c:0<bp∧9223372036854775807 / bp<u / 10000
 ·rw [if_pos c,if_pos ⟨c.1,by rw [dM (hdiv c.1).1 (hdiv c.1).2];exact c.2⟩]
 ·rw [if_neg c,if_neg (fun q=>c ⟨q.1,by have:=q.2;rwa [dM (hdiv q.1).1 (hdiv q.1).2] at this⟩)]
  have hm1:0≤u / 10000*bp:=Int.mul_nonneg (by omega) h1
  have hm2:u / 10000*bp≤9223372036854775807:=by
   by_cases hb:0<bp
   ·have hle:u / 10000≤9223372036854775807 / bp:=by
     by_cases q:u / 10000≤9223372036854775807 / bp
     ·exact q
     ·exact absurd ⟨hb,by omega⟩ c
    calc u / 10000*bp≤9223372036854775807 / bp*bp:=Int.mul_le_mul_of_nonneg_right hle h1
     _≤9223372036854775807:=Int.ediv_mul_le _ (by omega)
   ·have:bp=0:=by omega
    subst this;simp
  have hr1:0≤2*(u % 10000)*bp:=Int.mul_nonneg (by omega) h1
  have hr2:2*(u % 10000)*bp≤2*10000*100000:=Int.mul_le_mul (by omega) h2 h1 (by decide)
  rw [dM hm1 (by omega),dM (n:=2*(u % 10000)) (by omega) (by omega),dM hr1 (by omega),dM (n:=2*(u % 10000)*bp+10000) (by omega) (by omega),aAv]
  have ht:(2*(u % 10000)*bp+10000).tdiv 20000=(2*(u % 10000)*bp+10000) / 20000:=Int.tdiv_eq_ediv_of_nonneg (by omega)
  rw [ht,dM (n:=(2*(u % 10000)*bp+10000) / 20000) (by omega) (by omega),dM (n:=u / 10000*bp+(2*(u % 10000)*bp+10000) / 20000) (by omega) (by omega)]
  obtain ⟨t,htt⟩:∃ t,t=u / 10000*bp+(2*(u % 10000)*bp+10000) / 20000:=⟨_,rfl⟩
  have ht0:0≤t:=by omega
  rw [←htt]
  split
  ·rfl
  ·rename_i hle
   rw [eX (n:=t) (by omega) (by omega)]
   split
   ·rw [eX (by omega) (by omega)];simp
   ·rfl
theorem aIs {n bp t:Int} (h:dY n) (h1:0≤bp) (h2:bp≤100000) (hn:n≠-9223372036854775808) (hs:cH n bp=(t,0)):cH (-n) bp=(-t,0)∧t≠-9223372036854775808:=by
 rw [xB h h1 h2] at hs
 rw [xB (by omega) h1 h2]
 have hu:(if -n<0 then - -n else -n)=if n<0 then -n else n:=by split<;>split<;>omega
 rw [hu]
 cases hx:tP (if n<0 then -n else n) bp with
 | none=>rw [hx] at hs;cases hs
 | some x=>
  rw [hx] at hs
  obtain ⟨a,b⟩:=aF0 (by split<;>omega) h1 hx
  simp only [Prod.mk.injEq,and_true] at hs ⊢
  by_cases c0:n=0
  ·subst c0
   have:x=0:=by
    simp only [Int.lt_irrefl,if_false] at hx
    unfold tP at hx
    simp only [Int.zero_ediv,Int.zero_emod,Int.zero_mul,Int.mul_zero] at hx
    split at hx
    ·cases hx
    ·split at hx
     ·cases hx
     ·cases hx;decide
   subst this
   simp at hs ⊢
   omega
  ·constructor
   ·rw [←hs];split<;>split<;>omega
   ·rw [←hs];split<;>omega
theorem aGy {σ α:Type} {step:σ→α→Bool⊕σ} (hs:∀ s a r,step s a=.inl r→r=false) (c:Bool):∀ (l:List α) (s:σ),aD step (fun _=>c) l s=(aD step (fun _=>true) l s&&c)
 | [],s=>by simp [aD]
 | a::l,s=>by
  simp only [aD]
  split
  ·rename_i r he;rw [hs _ _ _ he,Bool.false_and]
  ·exact aGy hs c l _
structure PG (p:Part):Prop where
 name:gP p.cat=true
 lo:0≤p.bp
 hi:p.bp≤100000
 tax:cH p.net p.bp=(p.tax,0)
theorem aF1 (p:Part):PG p↔gP p.cat=true∧rT p=false∧rU p=false:=by
 unfold rT rU
 simp only [Bool.or_eq_false_iff,decide_eq_false_iff_not,Bool.not_eq_false',decide_eq_true_eq]
 constructor
 ·rintro ⟨a,b,c,d⟩
  exact ⟨a,⟨by omega,by omega⟩,by rw [d],by rw [d]⟩
 ·rintro ⟨a,⟨b,c⟩,d,e⟩
  exact ⟨a,by omega,by omega,Prod.ext e d⟩
theorem aB5:∀ s a r,cI s a=.inl r→r=false:=by
 intro s a r h
 unfold cI at h
 repeat' split at h
 all_goals first | (cases h;done) | (cases h;rfl)
theorem rF (t:Total):cF t=true↔1≤t.parts.length∧t.parts.length≤12∧(∀ p∈t.parts,PG p)∧t.parts.Pairwise (fun a b=>kU a.cat b.cat=true)∧gQ t=true:=by
 unfold cF
 split
 ·rename_i h;simp;omega
 ·rename_i h
  split
  ·rename_i h2;simp;omega
  ·rename_i h2
   rw [aGy aB5,Bool.and_eq_true,aB4 (good:=PG) (R:=fun a b=>kU a.cat b.cat=true)]
   ·constructor
    ·rintro ⟨⟨a,b⟩,c⟩;exact ⟨by omega,by omega,a,b,c⟩
    ·rintro ⟨_,_,a,b,c⟩;exact ⟨⟨a,b⟩,c⟩
   ·intro a g
    obtain ⟨g1,g2,g3⟩:=(aF1 a).1 g
    simp [cI,fU,g1,g2,g3]
   ·intro a p g
    rw [aF1] at g
    unfold cI
    split
    ·rfl
    ·split
     ·rfl
     ·split
      ·rfl
      ·split
       ·rfl
       ·rename_i h1 _ h3 h4
        exact absurd ⟨by simpa using h1,by simpa using h3,by simpa using h4⟩ g
   ·intro p a g r
    obtain ⟨g1,g2,g3⟩:=(aF1 a).1 g
    simp [cI,fU,g1,g2,g3,r]
   ·intro p a g r
    obtain ⟨g1,g2,g3⟩:=(aF1 a).1 g
    simp [cI,fU,g1,g2,g3,r]
   ·intro a b c;exact xA
theorem aDf {t:Total} (hn:∀ p∈t.parts,dY p.net) (ht:∀ p∈t.parts,dY p.tax) (hl:t.parts.length≤1000000):
  gQ t=true↔dY t.net∧dY t.tax∧dY t.gross∧t.net=(t.parts.map (·.net)).sum∧t.tax=(t.parts.map (·.tax)).sum∧t.gross=t.net+t.tax:=by
 have h1:∀ n∈t.parts.map (·.net),dY n:=fun n h=>by obtain ⟨p,hp,rfl⟩:=List.mem_map.1 h;exact hn p hp
 have h2:∀ n∈t.parts.map (·.tax),dY n:=fun n h=>by obtain ⟨p,hp,rfl⟩:=List.mem_map.1 h;exact ht p hp
 obtain ⟨a1,a2⟩:=dN h1 (by rw [List.length_map];exact hl)
 obtain ⟨b1,b2⟩:=dN h2 (by rw [List.length_map];exact hl)
 unfold gQ
 constructor
 ·intro h
  repeat' split at h
  all_goals first | cases h;done | skip
  rename_i c1 c2 c3 c4 c5
  have d:=of_decide_eq_true h
  have i1:=a2.1 c1
  have i2:=b2.1 c2
  rw [a1,mB i1] at c4
  rw [b1,mB i2] at c5
  have j:∀ n∈[t.net,t.tax],dY n:=by
   intro n hn
   simp only [List.mem_cons,List.not_mem_nil,or_false] at hn
   rcases hn with rfl | rfl
   ·rw [←c4];exact i1
   ·rw [←c5];exact i2
  obtain ⟨e1,e2⟩:=dN j (by simp)
  have i3:=e2.1 c3
  rw [e1,mB i3] at d
  have hs:[t.net,t.tax].sum=t.net+t.tax:=by simp
  rw [hs] at d i3
  exact ⟨by rw [←c4];exact i1,by rw [←c5];exact i2,by rw [←d];exact i3,c4.symm,c5.symm,d.symm⟩
 ·rintro ⟨i1,i2,i3,e1,e2,e3⟩
  have j:∀ n∈[t.net,t.tax],dY n:=by
   intro n hn
   simp only [List.mem_cons,List.not_mem_nil,or_false] at hn
   rcases hn with rfl | rfl
   ·exact i1
   ·exact i2
  have hs:[t.net,t.tax].sum=t.net+t.tax:=by simp
  have k3:=wW j (by simp) (by rw [hs,←e3];exact i3)
  have k1:=wW h1 (by rw [List.length_map];exact hl) (by rw [←e1];exact i1)
  have k2:=wW h2 (by rw [List.length_map];exact hl) (by rw [←e2];exact i2)
  rw [k1,k2,k3]
  simp only [if_true,←e1,←e2,hs,←e3,decide_true]
theorem aTo {r:Rate} (h:aEw r=0):gP r.cat=true∧r.day.right=true∧0≤r.bp∧r.bp≤100000:=by
 unfold aEw at h
 split at h
 ·omega
 ·rename_i h1
  split at h
  ·omega
  ·rename_i h2
   split at h
   ·omega
   ·split at h
    ·omega
    ·exact ⟨by simpa using h1,by simpa using h2,by omega,by omega⟩
def pG (p:Part):Part:={ p with tax:=(cH p.net p.bp).1 }
def aF2 (p:Part):Part:={ p with net:=-p.net,tax:=-p.tax }
def aCa:Int:=-9223372036854775808
theorem aDg:∀ (l d:List Int) (r:List Int×Int),(∀ n∈l,dY n)→aD oT (fun l=>(l,0)) l d=r→r.2=0→r.1=d++l.map (fun n=>-n)∧∀ n∈l,n≠aCa
 | [],d,r,_,h,_=>by subst h;simp [aD]
 | n::l,d,r,hl,h,h0=>by
  simp only [aD,oT,aMx (hl n (List.mem_cons_self ..))] at h
  by_cases c:n=-9223372036854775808
  ·simp only [c,if_true] at h
   subst h;simp at h0
  ·simp only [c,if_false] at h
   obtain ⟨a,b⟩:=aDg l _ r (fun m hm=>hl m (List.mem_cons_of_mem _ hm)) h h0
   refine ⟨by rw [a,List.map_cons,List.append_assoc];rfl,fun m hm=>?_⟩
   rcases List.mem_cons.1 hm with rfl | hm
   ·exact c
   ·exact b m hm
theorem aDh {l:List Int} (hl:∀ n∈l,dY n) (h:(fP l).2=0):(fP l).1=l.map (fun n=>-n)∧∀ n∈l,n≠aCa:=by
 have:=aDg l [] (fP l) hl rfl h
 exact this
theorem aB6:∀ (l a:List Part) (r:List Part×Int),(∀ p∈l,dY p.net∧dY p.tax)→aD eH (fun l=>(l,0)) l a=r→r.2=0→r.1=a++l.map aF2∧∀ p∈l,p.net≠aCa∧p.tax≠aCa
 | [],a,r,_,h,_=>by subst h;simp [aD]
 | p::l,a,r,hl,h,h0=>by
  simp only [aD,eH] at h
  split at h
  ·rename_i r' he
   split at he
   ·rename_i hc;cases he;subst h;exact absurd h0 hc
   ·cases he
  ·rename_i s' he
   split at he
   ·cases he
   ·rename_i hc
    cases he
    have hp:=hl p (List.mem_cons_self ..)
    obtain ⟨e1,e2⟩:=aDh (l:=[p.net,p.tax]) (fun n hn=>by
     simp only [List.mem_cons,List.not_mem_nil,or_false] at hn
     rcases hn with rfl | rfl
     ·exact hp.1
     ·exact hp.2) (Decidable.not_not.1 hc)
    rw [e1] at h
    obtain ⟨q1,q2⟩:=aB6 l _ r (fun m hm=>hl m (List.mem_cons_of_mem _ hm)) h h0
    refine ⟨by rw [q1,List.map_cons,List.append_assoc];rfl,fun m hm=>?_⟩
    rcases List.mem_cons.1 hm with rfl | hm
    ·exact ⟨e2 _ (List.mem_cons_self ..),e2 _ (List.mem_cons_of_mem _ (List.mem_cons_self ..))⟩
    ·exact q2 m hm
theorem aIt {t:Total} (ht:∀ p∈t.parts,dY p.net∧dY p.tax) (h1:dY t.net) (h2:dY t.tax) (h3:dY t.gross) (h:(fH t).2=0):
  (fH t).1=⟨-t.net,-t.tax,-t.gross,t.parts.map aF2⟩∧t.net≠aCa∧t.tax≠aCa∧t.gross≠aCa∧∀ p∈t.parts,p.net≠aCa∧p.tax≠aCa:=by
 unfold fH at h ⊢
 split at h
 ·rename_i hc;exact absurd h hc
 ·rename_i hc
  split at h
  ·rename_i hc2;exact absurd h hc2
  ·rename_i hc2
   rw [if_neg hc,if_neg hc2]
   obtain ⟨e1,e2⟩:=aDh (l:=[t.net,t.tax,t.gross]) (fun n hn=>by
    simp only [List.mem_cons,List.not_mem_nil,or_false] at hn
    rcases hn with rfl | rfl | rfl
    ·exact h1
    ·exact h2
    ·exact h3) (Decidable.not_not.1 hc)
   obtain ⟨q1,q2⟩:=aB6 t.parts [] _ ht rfl (Decidable.not_not.1 hc2)
   rw [e1,q1]
   exact ⟨rfl,e2 _ (by simp),e2 _ (by simp),e2 _ (by simp),q2⟩
theorem aL4:∀ l:List Int,(l.map fun n=>-n).sum=-l.sum
 | []=>rfl
 | n::l=>by rw [List.map_cons,List.sum_cons,List.sum_cons,aL4 l];omega
theorem aIu {t:Total} (ht:∀ p∈t.parts,dY p.net∧dY p.tax) (ho:cF t=true) (h:(fH t).2=0):cF (fH t).1=true∧(∀ p∈(fH t).1.parts,dY p.net∧dY p.tax)∧(fH t).1=⟨-t.net,-t.tax,-t.gross,t.parts.map aF2⟩:=by
 obtain ⟨o1,o2,o3,o4,o5⟩:=(rF t).1 ho
 obtain ⟨s1,s2,s3,s4,s5,s6⟩:=(aDf (fun p hp=>(ht p hp).1) (fun p hp=>(ht p hp).2) (by omega)).1 o5
 obtain ⟨b1,b2,b3,b4,b5⟩:=aIt ht s1 s2 s3 h
 unfold aCa at b2 b3 b4 b5
 have hm:∀ p∈t.parts.map aF2,∃ q∈t.parts,p=aF2 q:=fun p hp=>by obtain ⟨q,hq,rfl⟩:=List.mem_map.1 hp;exact ⟨q,hq,rfl⟩
 have hi:∀ p∈t.parts.map aF2,dY p.net∧dY p.tax:=fun p hp=>by
  obtain ⟨q,hq,rfl⟩:=hm p hp
  have:=ht q hq
  have:=b5 q hq
  show dY (-q.net)∧dY (-q.tax)
  omega
 refine ⟨?_,by rw [b1];exact hi,b1⟩
 rw [b1,rF]
 refine ⟨by simpa using o1,by simpa using o2,fun p hp=>?_,?_,?_⟩
 ·obtain ⟨q,hq,rfl⟩:=hm p hp
  have g:=o3 q hq
  exact ⟨g.name,g.lo,g.hi,(aIs (ht q hq).1 g.lo g.hi (b5 q hq).1 g.tax).1⟩
 ·show (t.parts.map aF2).Pairwise _
  rw [List.pairwise_map];exact o4
 ·rw [aDf (fun p hp=>(hi p hp).1) (fun p hp=>(hi p hp).2) (by simp;omega)]
  have e1:(t.parts.map aF2).map (·.net)=(t.parts.map (·.net)).map fun n=>-n:=by rw [List.map_map,List.map_map];rfl
  have e2:(t.parts.map aF2).map (·.tax)=(t.parts.map (·.tax)).map fun n=>-n:=by rw [List.map_map,List.map_map];rfl
  simp only [e1,e2,aL4]
  refine ⟨?_,?_,?_,?_,?_,?_⟩
  ·show dY (-t.net);omega
  ·show dY (-t.tax);omega
  ·show dY (-t.gross);omega
  ·show -t.net=_;omega
  ·show -t.tax=_;omega
  ·show -t.gross=-t.net+-t.tax;omega
theorem aL5 {α:Type} (p:α→Bool):∀ (l:List α) (n:Nat),aD (cN p) (fun _=>-1) l n=-1→∀ a∈l,p a=false
 | [],n,_,a,h=>by cases h
 | x::l,n,h,a,ha=>by
  by_cases c:p x=true
  ·simp only [aD,cN,c,if_true] at h
   omega
  ·simp only [aD,cN,c,if_false] at h
   rcases List.mem_cons.1 ha with rfl | ha
   ·simpa using c
   ·exact aL5 p l (n+1) h a ha
theorem aL6 {α:Type} {p:α→Bool} {l:List α} (h:vR p l<0):∀ a∈l,p a=false:=by
 rcases lM p l with e | ⟨i,a,e,_⟩
 ·exact aL5 p l 0 e
 ·rw [e] at h;omega
theorem aDi {α:Type} (p:α→Bool):∀ (l:List α) (n i:Nat) (a:α),l[i]?=some a→p a=true→(∀ j b,j<i→l[j]?=some b→p b=false)→aD (cN p) (fun _=>-1) l n=((n+i:Nat):Int)
 | x::l,n,0,a,h,hp,_=>by
  cases h
  simp only [aD,cN,hp,if_true];rfl
 | x::l,n,i+1,a,h,hp,hj=>by
  have c:p x=false:=hj 0 x (by omega) rfl
  simp only [aD,cN,c,Bool.false_eq_true,if_false]
  rw [aDi p l (n+1) i a h hp (fun j b hji hb=>hj (j+1) b (by omega) hb)]
  omega
theorem aMz {α:Type} {p:α→Bool} {l:List α} {i:Nat} {a:α} (h:l[i]?=some a) (hp:p a=true) (hj:∀ j b,j<i→l[j]?=some b→p b=false):vR p l=(i:Int):=by
 have:=aDi p l 0 i a h hp hj
 rw [Nat.zero_add] at this
 exact this
theorem vJ {l:List Ser} (hs:l.Pairwise (fun a b=>kU a.name b.name=true)) {i:Nat} {s:Ser} (h:l[i]?=some s):cE l s.name=(i:Int):=by
 refine aMz h (by simp) (fun j b hj hb=>?_)
 have h1:=List.pairwise_iff_getElem.1 hs j i (List.getElem?_eq_some_iff.1 hb).1 (List.getElem?_eq_some_iff.1 h).1 hj
 rw [(List.getElem?_eq_some_iff.1 hb).2,(List.getElem?_eq_some_iff.1 h).2] at h1
 have:=aZ2 h1
 simpa using this
theorem aB7 {l:List Ser} {name:List UInt8} (h:cE l name<0):∀ s∈l,s.name≠name:=fun s hs=>by
 have:=aL6 h s hs
 simpa using this
def cnt (l:List Posted) (name:List UInt8):Int:=((l.filter fun p=>p.ref.ser == name).length:Int)
theorem iE (a b:List Posted) (name:List UInt8):cnt (a++b) name=cnt a name+cnt b name:=by
 unfold cnt;rw [List.filter_append,List.length_append];omega
theorem rW (p:Posted) (name:List UInt8):cnt [p] name=if p.ref.ser=name then 1 else 0:=by
 unfold cnt
 by_cases c:p.ref.ser=name
 ·simp [c]
 ·simp [c]
theorem oX (l:List Posted) (name:List UInt8):0≤cnt l name:=by unfold cnt;omega
structure Nums (ser:List Ser) (l:List Posted):Prop where
 num:∀ i p,l[i]?=some p→(∃ s∈ser,s.name=p.ref.ser)∧p.ref.num=cnt (l.take i) p.ref.ser+1
 next:∀ s∈ser,s.next=cnt l s.name+1
def kT (ser:List Ser) (l:List Posted):List Int:=ser.map (fun s=>cnt l s.name)++List.replicate (8 - ser.length) 0
theorem jP {ser:List Ser} {l:List Posted} {i:Nat} {s:Ser} (h:ser[i]?=some s):(kT ser l)[i]?=some (cnt l s.name):=by
 unfold kT
 rw [List.getElem?_append_left (by rw [List.length_map];exact (List.getElem?_eq_some_iff.1 h).1),List.getElem?_map,h]
 rfl
theorem aIv {ser:List Ser} (hs:ser.Pairwise (fun a b=>kU a.name b.name=true)) {l:List Posted} {p:Posted} {i:Nat} {s:Ser} (h:ser[i]?=some s) (hn:s.name=p.ref.ser):bump (kT ser l) i=kT ser (l++[p]):=by
 unfold bump
 rw [List.getD_eq_getElem?_getD,jP h]
 apply List.ext_getElem?
 intro j
 rw [List.getElem?_set]
 have hlen:ser.length≤(kT ser l).length:=by unfold kT;rw [List.length_append,List.length_map];omega
 have hi:=(List.getElem?_eq_some_iff.1 h).1
 split
 ·rename_i e
  subst e
  rw [if_pos (by omega),jP h,iE,rW,if_pos hn.symm]
  rfl
 ·rename_i e
  by_cases hj:j<ser.length
  ·have hjs:ser[j]?=some ser[j]:=List.getElem?_eq_getElem hj
   rw [jP hjs,jP hjs,iE,rW,if_neg,Int.add_zero]
   intro hc
   have e1:=vJ hs hjs
   have e2:=vJ hs h
   rw [hn,hc] at e2
   rw [e2] at e1
   exact e (by omega)
  ·unfold kT
   rw [List.getElem?_append_right (by rw [List.length_map];omega),List.getElem?_append_right (by rw [List.length_map];omega),List.length_map,List.length_map]
theorem bEs {ser:List Ser} (hs:ser.Pairwise (fun a b=>kU a.name b.name=true)) (h8:ser.length≤8) {fin:List Int→Bool}:∀ (l done:List Posted),aD (jU ser) fin l (kT ser done)=true ↔
  (∀ i p,l[i]?=some p→(∃ s∈ser,s.name=p.ref.ser)∧p.ref.num=cnt (done++l.take i) p.ref.ser+1)∧fin (kT ser (done++l))=true
 | [],done=>by simp [aD]
 | p::l,done=>by
  by_cases c:cE ser p.ref.ser<0
  ·have e:jU ser (kT ser done) p=.inl false:=by unfold jU;rw [if_pos c]
   simp only [aD,e]
   constructor
   ·intro h;cases h
   ·rintro ⟨h,_⟩
    obtain ⟨⟨s,h1,h2⟩,_⟩:=h 0 p rfl
    exact absurd h2 (aB7 c s h1)
  ·rcases mN ser p.ref.ser with e | ⟨i,s,e,hi,hn⟩
   ·exact absurd (by rw [e];decide) c
   ·have hb:=aIv hs (l:=done) hi hn
    have hg:(kT ser (done++[p])).getD i 0=cnt done p.ref.ser+1:=by
     rw [List.getD_eq_getElem?_getD,jP hi,iE,rW,if_pos hn.symm,hn];rfl
    by_cases q:p.ref.num=cnt done p.ref.ser+1
    ·have es:jU ser (kT ser done) p=.inr (kT ser (done++[p])):=by
      unfold jU
      rw [if_neg c,e]
      simp only [Int.toNat_natCast]
      rw [hb,hg,if_pos q]
     simp only [aD,es]
     rw [bEs hs h8 l (done++[p])]
     constructor
     ·rintro ⟨h1,h2⟩
      refine ⟨fun j x hj=>?_,by rw [List.append_assoc] at h2;exact h2⟩
      cases j with
      | zero=>cases hj;exact ⟨⟨s,List.mem_of_getElem? hi,hn⟩,by simpa using q⟩
      | succ j=>have:=h1 j x hj;rw [List.append_assoc] at this;exact this
     ·rintro ⟨h1,h2⟩
      refine ⟨fun j x hj=>?_,by rw [List.append_assoc];exact h2⟩
      have:=h1 (j+1) x hj
      rw [List.append_assoc];exact this
    ·have es:jU ser (kT ser done) p=.inl false:=by
      unfold jU
      rw [if_neg c,e]
      simp only [Int.toNat_natCast]
      rw [hb,hg,if_neg q]
     simp only [aD,es]
     constructor
     ·intro h;cases h
     ·rintro ⟨h,_⟩
      have:=(h 0 p rfl).2
      simp only [List.take_zero,List.append_nil] at this
      exact absurd this q
theorem bEt:∀ (ser:List Ser) (is:List Int),aD jA (fun _=>true) ser is=true↔∀ i s,ser[i]?=some s→s.next=is.getD i 0+1
 | [],is=>by simp [aD]
 | s::l,is=>by
  have hh:is.headD 0=is.getD 0 0:=by cases is<;>rfl
  have ht:∀ j,is.tail.getD j 0=is.getD (j+1) 0:=fun j=>by cases is<;>simp
  by_cases c:s.next=is.getD 0 0+1
  ·have e:jA is s=.inr is.tail:=by unfold jA;rw [hh,if_pos c]
   simp only [aD,e]
   rw [bEt l is.tail]
   constructor
   ·intro h i x hx
    cases i with
    | zero=>cases hx;exact c
    | succ i=>have:=h i x hx;rwa [ht] at this
   ·intro h i x hx
    have:=h (i+1) x hx
    rwa [ht]
  ·have e:jA is s=.inl false:=by unfold jA;rw [hh,if_neg c]
   simp only [aD,e]
   constructor
   ·intro h;cases h
   ·intro h;exact absurd (h 0 s rfl) c
theorem vK {ser:List Ser} (hs:ser.Pairwise (fun a b=>kU a.name b.name=true)) (h8:ser.length≤8) (l:List Posted):lZ ser l=true↔Nums ser l:=by
 unfold lZ
 have h0:List.replicate 8 (0:Int)=kT ser []:=by
  unfold kT
  apply List.ext_getElem?
  intro j
  by_cases hj:j<ser.length
  ·rw [List.getElem?_append_left (by rw [List.length_map];exact hj),List.getElem?_map,List.getElem?_eq_getElem hj,List.getElem?_replicate,if_pos (by omega)];rfl
  ·rw [List.getElem?_append_right (by rw [List.length_map];omega),List.length_map,List.getElem?_replicate,List.getElem?_replicate]
   by_cases hj8:j<8
   ·rw [if_pos hj8,if_pos (by omega)]
   ·rw [if_neg hj8,if_neg (by omega)]
 rw [h0,bEs hs h8 l [],bEt]
 simp only [List.nil_append]
 constructor
 ·rintro ⟨h1,h2⟩
  refine ⟨h1,fun s hm=>?_⟩
  obtain ⟨i,hi⟩:=List.mem_iff_getElem?.1 hm
  have:=h2 i s hi
  rwa [List.getD_eq_getElem?_getD,jP hi] at this
 ·rintro ⟨h1,h2⟩
  refine ⟨h1,fun i s hi=>?_⟩
  rw [List.getD_eq_getElem?_getD,jP hi]
  exact h2 s (List.mem_of_getElem? hi)
def aRf:Posted:=⟨Ref.zero,⟨0,0,0⟩,Total.zero,Ref.zero,false⟩
def mQ (p:Posted):Posted:={ p with back:=false }
def yO (done:List Posted) (p:Posted):Prop:=p.day.right=true∧cF p.total=true∧(p.of=Ref.zero∨0≤cC done p.of∧oV p (done.getD (cC done p.of).toNat aRf)=true)
def hP (done:List Posted) (is:List Int) (p:Posted):List Int:=if p.of=Ref.zero then is else bump is (cC done p.of).toNat
def dG:List Posted→List Posted→List Int→List Int
 | _,[],is=>is
 | done,p::l,is=>dG (done++[p]) l (hP done is p)
def kM (l:List Posted):List Int:=dG [] l (List.replicate 40 0)
theorem aGz {done:List Posted} {is:List Int} {p:Posted} (h:yO done p):fS (done,is) p=.inr (done++[p],hP done is p):=by
 obtain ⟨h1,h2,h3⟩:=h
 unfold fS hP
 rw [if_neg (by rw [h1];simp),if_neg (by rw [h2];simp)]
 by_cases c:p.of=Ref.zero
 ·rw [if_pos c,if_pos c]
 ·rw [if_neg c,if_neg c]
  rcases h3 with h3 | ⟨h3,h4⟩
  ·exact absurd h3 c
  ·simp only
   rw [if_neg (by omega)]
   unfold aRf at h4
   rw [h4]
   simp
theorem aH0 {done:List Posted} {is:List Int} {p:Posted} (h:¬ yO done p):fS (done,is) p=.inl false:=by
 unfold fS
 split
 ·rfl
 ·rename_i h1
  split
  ·rfl
  ·rename_i h2
   have h1:p.day.right=true:=by simpa using h1
   have h2:cF p.total=true:=by simpa using h2
   split
   ·rename_i h3;exact absurd ⟨h1,h2,.inl h3⟩ h
   ·split
    ·rfl
    ·rename_i h4
     split
     ·rfl
     ·rename_i h5
      exact absurd ⟨h1,h2,.inr ⟨by simp only at h4;omega,(Bool.not_eq_false _).mp h5⟩⟩ h
theorem aXv {fin:List Posted×List Int→Bool}:∀ (l done:List Posted) (is:List Int),aD fS fin l (done,is)=true↔(∀ i p,l[i]?=some p→yO (done++l.take i) p)∧fin (done++l,dG done l is)=true
 | [],done,is=>by simp [aD,dG]
 | p::l,done,is=>by
  by_cases c:yO done p
  ·simp only [aD,aGz c]
   rw [aXv l (done++[p]) _]
   simp only [dG]
   constructor
   ·rintro ⟨h1,h2⟩
    refine ⟨fun j x hj=>?_,by rw [List.append_assoc] at h2;exact h2⟩
    cases j with
    | zero=>cases hj;simpa using c
    | succ j=>have:=h1 j x hj;rw [List.append_assoc] at this;exact this
   ·rintro ⟨h1,h2⟩
    refine ⟨fun j x hj=>?_,by rw [List.append_assoc];exact h2⟩
    have:=h1 (j+1) x hj
    rw [List.append_assoc];exact this
  ·simp only [aD,aH0 c]
   constructor
   ·intro h;cases h
   ·rintro ⟨h,_⟩
    have:=h 0 p rfl
    simp only [List.take_zero,List.append_nil] at this
    exact absurd this c
theorem bEu:∀ (l:List Posted) (is:List Int),aD gG (fun _=>true) l is=true↔∀ i p,l[i]?=some p→is.getD i 0≤1∧p.back=decide (is.getD i 0=1)
 | [],is=>by simp [aD]
 | s::l,is=>by
  have hh:is.headD 0=is.getD 0 0:=by cases is<;>rfl
  have ht:∀ j,is.tail.getD j 0=is.getD (j+1) 0:=fun j=>by cases is<;>simp
  by_cases c:is.getD 0 0≤1∧s.back=decide (is.getD 0 0=1)
  ·have e:gG is s=.inr is.tail:=by unfold gG;rw [hh,if_neg (by omega),if_pos c.2]
   simp only [aD,e]
   rw [bEu l is.tail]
   constructor
   ·intro h i x hx
    cases i with
    | zero=>cases hx;exact c
    | succ i=>have:=h i x hx;rwa [ht] at this
   ·intro h i x hx
    have:=h (i+1) x hx
    rwa [ht]
  ·have e:gG is s=.inl false:=by
    unfold gG
    rw [hh]
    split
    ·rfl
    ·split
     ·rename_i h1 h2;exact absurd ⟨by omega,h2⟩ c
     ·rfl
   simp only [aD,e]
   constructor
   ·intro h;cases h
   ·intro h;exact absurd (h 0 s rfl) c
theorem mR (l:List Posted):jT l=true↔l.length≤40∧(∀ i p,l[i]?=some p→yO (l.take i) p)∧∀ i p,l[i]?=some p→(kM l).getD i 0≤1∧p.back=decide ((kM l).getD i 0=1):=by
 unfold jT
 split
 ·rename_i h;simp;omega
 ·rename_i h
  rw [aXv l [] _,bEu]
  simp only [List.nil_append]
  exact ⟨fun ⟨a,b⟩=>⟨by omega,a,b⟩,fun ⟨_,a,b⟩=>⟨a,b⟩⟩
theorem mS:∀ (l done:List Posted) (is:List Int) (p:Posted),dG done (l++[p]) is=hP (done++l) (dG done l is) p
 | [],done,is,p=>by simp [dG]
 | x::l,done,is,p=>by
  simp only [List.cons_append,dG]
  rw [mS l]
  rw [List.append_assoc];rfl
theorem aCb (l:List Posted) (p:Posted):kM (l++[p])=hP l (kM l) p:=by
 unfold kM
 rw [mS,List.nil_append]
theorem nO:∀ (l done:List Posted) (is:List Int),(∀ i,0≤is.getD i 0)→(∀ i,done.length≤i→is.getD i 0=0)→(∀ i p,l[i]?=some p→yO (done++l.take i) p)→
  (∀ i,0≤(dG done l is).getD i 0)∧(∀ i,(done++l).length≤i→(dG done l is).getD i 0=0)∧(dG done l is).length=is.length
 | [],done,is,h1,h2,_=>⟨h1,by rw [List.append_nil];exact h2,rfl⟩
 | p::l,done,is,h1,h2,h3=>by
  simp only [dG]
  have hp:=h3 0 p rfl
  simp only [List.take_zero,List.append_nil] at hp
  have hb:∀ i,(hP done is p).getD i 0=is.getD i 0∨i<done.length∧(hP done is p).getD i 0=is.getD i 0+1:=by
   intro i
   unfold hP
   split
   ·exact .inl rfl
   ·rename_i hc
    obtain ⟨hp1,_⟩:=hp.2.2.resolve_left hc
    rcases iZ done p.of with e | ⟨k,x,e,hk,_⟩
    ·omega
    ·have hkl:=(List.getElem?_eq_some_iff.1 hk).1
     rw [e,Int.toNat_natCast]
     unfold bump
     simp only [List.getD_eq_getElem?_getD,List.getElem?_set]
     by_cases q:k=i
     ·rw [if_pos q]
      subst q
      split
      ·exact .inr ⟨hkl,rfl⟩
      ·rename_i hn;left;rw [List.getElem?_eq_none (by omega)]
     ·rw [if_neg q];exact .inl rfl
  have hl:(hP done is p).length=is.length:=by
   unfold hP
   split
   ·rfl
   ·exact vE _ _
  obtain ⟨a,b,c⟩:=nO l (done++[p]) (hP done is p) (fun i=>by have:=h1 i;rcases hb i with h | ⟨_,h⟩<;>omega)
   (fun i hi=>by
    rw [List.length_append] at hi
    simp only [List.length_cons,List.length_nil] at hi
    have:=h2 i (by omega)
    rcases hb i with h | ⟨h0,h⟩<;>omega)
   (fun i x hx=>by have:=h3 (i+1) x hx;rw [List.append_assoc];exact this)
  refine ⟨a,fun i hi=>b i (by rw [List.append_assoc];exact hi),c.trans hl⟩
theorem aF3 {l:List Posted} (h:∀ i p,l[i]?=some p→yO (l.take i) p):(∀ i,0≤(kM l).getD i 0)∧(∀ i,l.length≤i→(kM l).getD i 0=0)∧(kM l).length=40:=by
 have hz:∀ i,(List.replicate 40 (0:Int)).getD i 0=0:=fun i=>by
  rw [List.getD_eq_getElem?_getD,List.getElem?_replicate];split<;>rfl
 have:=nO l [] (List.replicate 40 0) (fun i=>by rw [hz];omega) (fun i _=>hz i) (by simpa using h)
 simp only [List.nil_append,List.length_replicate] at this
 exact this
theorem aDj (l:List Posted) (r:Ref):cC (l.map mQ) r=cC l r:=by
 unfold cC
 rw [←aKv]
 rfl
theorem aB8 (l:List Posted) (k:Nat):(hM l k).map mQ=l.map mQ:=by
 unfold hM
 split
 ·rfl
 ·rename_i p hp
  apply List.ext_getElem?
  intro j
  rw [List.getElem?_map,List.getElem?_map,List.getElem?_set]
  split
  ·rename_i e;subst e;rw [if_pos (List.getElem?_eq_some_iff.1 hp).1,hp];rfl
  ·rfl
theorem mC {fin:List Bal→List Bal×Int}:∀ (l:List Posted) (a:List Bal),aD aP fin (l.map mQ) a=aD aP fin l a
 | [],_=>rfl
 | p::l,a=>by
  simp only [List.map_cons,aD]
  have e:aP a (mQ p)=aP a p:=rfl
  rw [e]
  split
  ·rfl
  ·exact mC l _
theorem aH1 {l:List Sess} (hs:l.Pairwise (fun a b=>a.id<b.id)) (n:Int):oW l n=true↔∀ s∈l,s.id<n:=by
 unfold oW
 cases h:l[l.length - 1]? with
 | none=>
  have:l=[]:=by
   rw [List.getElem?_eq_none_iff] at h
   cases l with
   | nil=>rfl
   | cons a l=>simp only [List.length_cons] at h;omega
  subst this
  simp
 | some s=>
  simp only [decide_eq_true_eq]
  constructor
  ·intro hn x hx
   obtain ⟨i,hi⟩:=List.mem_iff_getElem?.1 hx
   have hil:=(List.getElem?_eq_some_iff.1 hi).1
   by_cases c:i=l.length - 1
   ·subst c;rw [h] at hi;cases hi;exact hn
   ·have h1:=List.pairwise_iff_getElem.1 hs i (l.length - 1) hil (by omega) (by omega)
    rw [(List.getElem?_eq_some_iff.1 h).2,(List.getElem?_eq_some_iff.1 hi).2] at h1
    omega
  ·intro q;exact q s (List.mem_of_getElem? h)
def aF4 (l:List Sess) (n:Int):Prop:=l.length≤8∧(∀ s∈l,0<s.id∧0≤s.last∧s.last≤1099511627776∧(s.last=0→s.reply=Rep.zero))∧l.Pairwise (fun a b=>a.id<b.id)∧1≤n∧n≤1099511627776∧∀ s∈l,s.id<n
theorem sL (s:State):gH s=true↔aF4 s.sess s.next:=by
 unfold gH aF4
 constructor
 ·intro h
  repeat' split at h
  all_goals first | (cases h;done) | skip
  rename_i h1 h2 h3
  obtain ⟨a,b,c⟩:=(aDe _).1 h1
  exact ⟨a,b,c,h2,h3,(aH1 c _).1 h⟩
 ·rintro ⟨a,b,c,d,e,f⟩
  rw [if_pos ((aDe _).2 ⟨a,b,c⟩),if_pos d,if_pos e]
  exact (aH1 c _).2 f
theorem aB9 (s:State):fX s=true↔kK s.table=true∧tJ s.ser=true∧aF4 s.sess s.next∧jT s.posted=true∧Nums s.ser s.posted∧cK s.posted=(s.book,0):=by
 rw [←sL]
 unfold fX
 constructor
 ·intro h
  repeat' split at h
  all_goals first | (cases h;done) | skip
  rename_i h1 h2 h3 h4 h5 h6
  have h2':tJ s.ser=true:=by simpa using h2
  obtain ⟨a,b,c⟩:=(rE _).1 h2'
  exact ⟨by simpa using h1,h2',by simpa using h3,by simpa using h4,(vK c a _).1 (by simpa using h5),Prod.ext (of_decide_eq_true h) h6⟩
 ·rintro ⟨h1,h2,h3,h4,h5,h6⟩
  obtain ⟨a,b,c⟩:=(rE _).1 h2
  rw [if_neg (by rw [h1];simp),if_neg (by rw [h2];simp),if_neg (by rw [h3];simp),if_neg (by rw [h4];simp),if_neg (by rw [(vK c a _).2 h5];simp),if_pos (by rw [h6])]
  rw [h6];simp
def bEv (s:State):Prop:=∀ p∈s.posted,∀ q∈p.total.parts,dY q.net∧dY q.tax
theorem aBa {ser:List Ser} {l:List Posted} (h:Nums ser l) {i j:Nat} {p q:Posted} (hi:l[i]?=some p) (hj:l[j]?=some q) (e:p.ref=q.ref):i=j:=by
 have key:∀ {i j:Nat} {p q:Posted},l[i]?=some p→l[j]?=some q→p.ref=q.ref→¬ i<j:=by
  intro i j p q hi hj e hlt
  have h1:=(h.num i p hi).2
  have h2:=(h.num j q hj).2
  have hjl:=(List.getElem?_eq_some_iff.1 hj).1
  have hpre:l.take j=l.take i++(l.take j).drop i:=by
   conv=>lhs;rw [←List.take_append_drop i (l.take j)]
   rw [List.take_take,Nat.min_eq_left (by omega)]
  have hmem:((l.take j).drop i)[0]?=some p:=by
   rw [List.getElem?_drop,List.getElem?_take,if_pos (by omega)];exact hi
  have hc:1≤cnt ((l.take j).drop i) q.ref.ser:=by
   cases hd:(l.take j).drop i with
   | nil=>rw [hd] at hmem;cases hmem
   | cons a r=>
    rw [hd] at hmem
    cases hmem
    have:=iE [p] r q.ref.ser
    rw [rW,if_pos (by rw [e])] at this
    have:=oX r q.ref.ser
    show 1≤cnt ([p]++r) q.ref.ser
    omega
  rw [hpre,iE] at h2
  rw [e] at h1
  omega
 have h1:=key hi hj e
 have h2:=key hj hi e.symm
 omega
theorem aTp {ser:List Ser} {l:List Posted} (h:Nums ser l) {p:Posted} (hp:p∈l):1≤p.ref.num:=by
 obtain ⟨i,hi⟩:=List.mem_iff_getElem?.1 hp
 have:=(h.num i p hi).2
 have:=oX (l.take i) p.ref.ser
 omega
theorem aL7 (l:List Posted) (name:List UInt8):cnt l name≤l.length:=by
 unfold cnt
 have:=List.length_filter_le (fun p:Posted=>p.ref.ser == name) l
 omega
end Go.Proofs.YtoaibmbldmckaaaGreat
end
section
namespace Go.AM
theorem bEw {n b:Nat} {S:St} {v:V} {es:List (List V)} (h:Own E0 S n v es) (w:WF S) {c:List V} (hc:c.length=n∧aI c=true) (h1:(es.length+1)*b≤35184372088832) (h2:es.length+1<fL):
  ∃ v' S',eW n b v (.sl S.next 0 n 0 1) none ⟨S.next+1,S.heap.put S.next (.row 0 n [c])⟩=.ok (v',S')∧Own E0 S' n v' (es++[c])∧WF S'∧S.next+1≤S'.next∧(blkOf v'=blkOf v∨blkOf v'=some (S.next+1))∧∀ y,y<S.next→blkOf v≠some y→S'.heap.get y=S.heap.get y:=by
 obtain ⟨v',S',q1,q2,q3,q4⟩:=aXr (b:=b) h w (cs:=[c]) (fun d hd=>by rcases List.mem_singleton.1 hd with rfl;exact hc) (by simp) h1 h2
 have hu:aL ⟨S.next+1,S.heap.put S.next (.row 0 n [c])⟩ (.sl S.next 0 n 0 1)=.ok [c]:=by
  simp only [aL,aA];rfl
 have hk:∀ y,y<S.next→blkOf v≠some y→S'.heap.get y=S.heap.get y:=fun y hy hb=>q4 y hy fun a ver m hv e=>hb (by rw [hv,e];rfl)
 refine ⟨v',S',q1,q2,q3,?_,?_,hk⟩
 ·have q1:eW n b v (.sl S.next 0 n 0 1) none ⟨S.next+1,S.heap.put S.next (.row 0 n [c])⟩=.ok (v',S'):=q1
  unfold eW at q1
  simp only [hu] at q1
  repeat' split at q1
  all_goals first | (cases q1;done) | skip
  ·rename_i hn
   rw [dK] at hn
   cases hn;cases q1;exact Nat.le_succ _
  ·cases q1;exact Nat.le_refl _
 ·have q1:eW n b v (.sl S.next 0 n 0 1) none ⟨S.next+1,S.heap.put S.next (.row 0 n [c])⟩=.ok (v',S'):=q1
  unfold eW at q1
  simp only [hu] at q1
  repeat' split at q1
  all_goals first | (cases q1;done) | skip
  ·rename_i hn
   rw [dK] at hn
   cases hn;cases q1;exact .inr rfl
  ·cases q1;exact .inl rfl
end Go.AM
namespace Go.Proofs.YtoaibmbldmckaaaGreat
open Go.AM Tryz
set_option linter.unusedVariables false
set_option linter.unusedSimpArgs false
set_option maxRecDepth 100000
end Go.Proofs.YtoaibmbldmckaaaGreat
end
section
namespace Go.AM
theorem aRg {α:Type} {enc:α→List V} {n b:Nat} (hl:∀ x,(enc x).length=n∧aI (enc x)=true) (l:List α) {S:St} {a:Nat} (hg:aC S a 0=.ok (n,[])) (h1:l.length*b≤35184372088832) (h2:l.length<fL) (fr:Option Nat):
  eW n b (.sl a 0 n 0 0) (.imm (l.map enc)) fr S=.ok (.sl a 1 n 0 l.length,⟨S.next,S.heap.put a (.row 1 n (l.map enc))⟩):=by
 have hc:∀ cs,cs∈l.map enc→cs.length=n∧aI cs=true:=fun cs hc=>by obtain ⟨x,_,rfl⟩:=List.mem_map.1 hc;exact hl x
 obtain ⟨a1,a2⟩:=cX hc
 simp only [eW,aL,a1,a2,and_self,if_true,hg,List.length_map,Nat.zero_add,List.length_nil,Nat.le_refl,h1,h2,List.drop_nil,List.take_nil,List.nil_append]
end Go.AM
namespace Go.Proofs.YtoaibmbldmckaaaGreat
open Go.AM Tryz
set_option linter.unusedVariables false
set_option linter.unusedSimpArgs false
set_option maxRecDepth 100000
end Go.Proofs.YtoaibmbldmckaaaGreat
end
section
namespace Go.Pack
def nb (u:Nat):List UInt8:=if h:u<128 then [UInt8.ofNat u] else UInt8.ofNat (u % 128+128)::nb (u / 128)
termination_by u
decreasing_by omega
theorem aIw {u:Nat} (h:u<128):nb u=[UInt8.ofNat u]:=by rw [nb,dif_pos h]
theorem aF5 {u:Nat} (h:¬ u<128):nb u=UInt8.ofNat (u % 128+128)::nb (u / 128):=by rw [nb,dif_neg h]
def rdL:Nat→Nat→List UInt8→Except Int (Nat×List UInt8)
 | _,_,[]=>.error 3
 | i,acc,c::t=>if i=9∧1<c.toNat then .error 4 else if 128≤c.toNat then rdL (i+1) (acc+c.toNat % 128*2 ^ (7*i)) t else if c.toNat=0∧0<i then .error 4 else .ok (acc+c.toNat % 128*2 ^ (7*i),t)
theorem aL8 {u:Nat} (h:u<256):(UInt8.ofNat u).toNat=u:=by
 rw [UInt8.toNat_ofNat'];exact Nat.mod_eq_of_lt h
theorem pow_step {i:Nat} (h:i≤9):i=0∨i=1∨i=2∨i=3∨i=4∨i=5∨i=6∨i=7∨i=8∨i=9:=by omega
theorem bEx {u i:Nat} (h:u<2 ^ (64 - 7*i)) (hi:i≤9) (h2:¬ u<128):i≤8∧u / 128<2 ^ (64 - 7*(i+1)):=by
 rcases pow_step hi with rfl | rfl | rfl | rfl | rfl | rfl | rfl | rfl | rfl | rfl<;>simp only [Nat.reduceMul,Nat.reduceSub,Nat.reducePow,Nat.reduceAdd] at h ⊢<;>omega
theorem aRh {u i acc:Nat} (hi:i≤9):acc+u % 128*2 ^ (7*i)+u / 128*2 ^ (7*(i+1))=acc+u*2 ^ (7*i):=by
 have e:7*(i+1)=7*i+7:=by omega
 rw [e,Nat.pow_add,Nat.add_assoc,←Nat.mul_assoc,Nat.mul_right_comm (u / 128),←Nat.add_mul]
 have h:u % 128+u / 128*2 ^ 7=u:=by show u % 128+u / 128*128=u;omega
 rw [h]
theorem aXw:∀ (n u i acc:Nat) (t:List UInt8),u≤n→u<2 ^ (64 - 7*i)→i≤9→(0<i→0<u)→rdL i acc (nb u++t)=.ok (acc+u*2 ^ (7*i),t)
 | n,u,i,acc,t,hn,hu,hi,hp=>by
  by_cases h:u<128
  ·rw [aIw h]
   show rdL i acc (UInt8.ofNat u::t)=_
   unfold rdL
   rw [aL8 (by omega)]
   have h9:¬ (i=9∧1<u):=by
    rintro ⟨rfl,h1⟩
    have:u<2:=hu
    omega
   rw [if_neg h9,if_neg (by omega),if_neg (by rintro ⟨h1,h2⟩;have:=hp h2;omega),Nat.mod_eq_of_lt h]
  ·obtain ⟨h8,hd⟩:=bEx hu hi h
   rw [aF5 h]
   show rdL i acc (UInt8.ofNat (u % 128+128)::(nb (u / 128)++t))=_
   unfold rdL
   rw [aL8 (by omega),if_neg (by omega),if_pos (by omega)]
   cases n with
   | zero=>omega
   | succ n=>
    rw [aXw n (u / 128) (i+1) _ t (by omega) hd (by omega) (fun _=>by omega)]
    have e:(u % 128+128) % 128=u % 128:=by omega
    rw [e,aRh hi]
theorem aXx (c:UInt8):UInt8.ofNat c.toNat=c:=UInt8.ofNat_toNat
theorem rd_back:∀ (b:List UInt8) (i acc v:Nat) (t:List UInt8),i≤9→rdL i acc b=.ok (v,t)→∃ u,v=acc+u*2 ^ (7*i)∧b=nb u++t∧(0<i→0<u)∧u<2 ^ (64 - 7*i)
 | [],i,acc,v,t,hi,h=>by cases h
 | c::b,i,acc,v,t,hi,h=>by
  have hc:c.toNat<256:=c.toNat_lt
  unfold rdL at h
  split at h
  ·cases h
  ·rename_i h9
   split at h
   ·rename_i h128
    have h8:i≤8:=by omega
    obtain ⟨u,e1,e2,e3,e4⟩:=rd_back b (i+1) _ v t (by omega) h
    have hp:=e3 (by omega)
    refine ⟨c.toNat - 128+u*128,?_,?_,fun _=>by omega,?_⟩
    ·have hs:=aRh (u:=c.toNat - 128+u*128) (acc:=acc) hi
     have k1:(c.toNat - 128+u*128) % 128=c.toNat % 128:=by omega
     have k2:(c.toNat - 128+u*128) / 128=u:=by omega
     rw [k1,k2] at hs
     rw [e1,hs]
    ·rw [aF5 (by omega)]
     have k1:(c.toNat - 128+u*128) % 128+128=c.toNat:=by omega
     have k2:(c.toNat - 128+u*128) / 128=u:=by omega
     rw [k1,k2,aXx,e2];rfl
    ·rcases pow_step (show i≤9 from hi) with rfl | rfl | rfl | rfl | rfl | rfl | rfl | rfl | rfl | rfl<;>simp only [Nat.reduceMul,Nat.reduceSub,Nat.reducePow,Nat.reduceAdd] at e4 ⊢<;>omega
   ·rename_i h128
    split at h
    ·cases h
    ·rename_i h0
     cases h
     refine ⟨c.toNat,by rw [Nat.mod_eq_of_lt (by omega)],?_,fun hp=>by omega,?_⟩
     ·rw [aIw (by omega),aXx];rfl
     ·rcases pow_step hi with rfl | rfl | rfl | rfl | rfl | rfl | rfl | rfl | rfl | rfl<;>simp only [Nat.reduceMul,Nat.reduceSub,Nat.reducePow,Nat.reduceAdd]<;>omega
def zig (n:Int):Nat:=if 0≤n then (2*n).toNat else (-2*n - 1).toNat
def zag (u:Nat):Int:=if u % 2=1 then -((u / 2:Nat):Int) - 1 else ((u / 2:Nat):Int)
theorem aTq (n:Int):zag (zig n)=n:=by unfold zag zig;split<;>split<;>omega
theorem aTr (u:Nat):zig (zag u)=u:=by unfold zag zig;split<;>split<;>omega
theorem aZ3 {n:Int} (h:-9223372036854775808≤n∧n≤9223372036854775807):zig n<2 ^ 64:=by unfold zig;split<;>omega
theorem aN0 {u:Nat} (h:u<2 ^ 64):-9223372036854775808≤zag u∧zag u≤9223372036854775807:=by unfold zag;split<;>omega
def vL (n:Int):List UInt8:=nb (zig n)
def numR (b:List UInt8):Except Int (Int×List UInt8):=match rdL 0 0 b with
 | .ok (u,t)=>.ok (zag u,t)
 | .error e=>.error e
theorem aDk {n:Int} (h:-9223372036854775808≤n∧n≤9223372036854775807) (t:List UInt8):numR (vL n++t)=.ok (n,t):=by
 unfold numR vL
 rw [aXw (zig n) (zig n) 0 0 t (Nat.le_refl _) (aZ3 h) (by omega) (fun q=>absurd q (by omega))]
 simp only [Nat.zero_add,Nat.mul_zero,Nat.pow_zero,Nat.mul_one,aTq]
theorem num_back {b:List UInt8} {n:Int} {t:List UInt8} (h:numR b=.ok (n,t)):b=vL n++t∧-9223372036854775808≤n∧n≤9223372036854775807:=by
 unfold numR at h
 cases e:rdL 0 0 b with
 | error x=>rw [e] at h;cases h
 | ok r=>
  obtain ⟨u,t'⟩:=r
  rw [e] at h
  cases h
  obtain ⟨u',e1,e2,_,e4⟩:=rd_back b 0 0 u t (by omega) e
  have:u=u':=by rw [e1];simp
  subst this
  unfold vL
  rw [aTr]
  exact ⟨e2,aN0 e4⟩
structure Cod (α:Type) where
 put:α→List UInt8
 get:List UInt8→Except Int (α×List UInt8)
 ok:α→Prop
 pos:∀ a,1≤(put a).length
 there:∀ a t,ok a→get (put a++t)=.ok (a,t)
 back:∀ b a t,get b=.ok (a,t)→b=put a++t∧ok a
theorem aF6:∀ u,1≤(nb u).length:=fun u=>by
 by_cases h:u<128
 ·rw [aIw h];exact Nat.le_refl _
 ·rw [aF5 h,List.length_cons];omega
def bEy (n:Int):Prop:=-9223372036854775808≤n∧n≤9223372036854775807
def num:Cod Int:=⟨vL,numR,bEy,fun a=>aF6 _,fun a t h=>aDk h t,fun b a t h=>num_back h⟩
def Cod.only {α:Type} (c:Cod α) (p:α→Bool) (e:Int):Cod α where
 put:=c.put
 get:=fun b=>match c.get b with
  | .ok (a,t)=>if p a=true then .ok (a,t) else .error e
  | .error x=>.error x
 ok:=fun a=>c.ok a∧p a=true
 pos:=c.pos
 there:=fun a t h=>by simp only [c.there a t h.1,h.2,if_true]
 back:=fun b a t h=>by
  cases e:c.get b with
  | error x=>rw [e] at h;cases h
  | ok r=>
   obtain ⟨a',t'⟩:=r
   rw [e] at h
   simp only at h
   split at h
   ·rename_i hp
    cases h
    exact ⟨(c.back b _ _ e).1,(c.back b _ _ e).2,hp⟩
   ·cases h
def Cod.both {α β:Type} (c:Cod α) (d:Cod β):Cod (α×β) where
 put:=fun x=>c.put x.1++d.put x.2
 get:=fun b=>match c.get b with
  | .ok (a,t)=>(match d.get t with
   | .ok (x,t')=>.ok ((a,x),t')
   | .error x=>.error x)
  | .error x=>.error x
 ok:=fun x=>c.ok x.1∧d.ok x.2
 pos:=fun x=>by rw [List.length_append];have:=c.pos x.1;omega
 there:=fun x t h=>by
  rw [List.append_assoc]
  simp only [c.there x.1 _ h.1,d.there x.2 t h.2]
 back:=fun b x t h=>by
  cases e:c.get b with
  | error y=>rw [e] at h;cases h
  | ok r=>
   obtain ⟨a,t1⟩:=r
   rw [e] at h
   simp only at h
   cases e2:d.get t1 with
   | error y=>rw [e2] at h;cases h
   | ok r2=>
    obtain ⟨x2,t2⟩:=r2
    rw [e2] at h
    cases h
    obtain ⟨b1,o1⟩:=c.back b _ _ e
    obtain ⟨b2,o2⟩:=d.back t1 _ _ e2
    exact ⟨by rw [b1,b2,List.append_assoc],o1,o2⟩
def Cod.map {α β:Type} (c:Cod α) (f:α→β) (g:β→α) (hf:∀ a,g (f a)=a) (hg:∀ b,f (g b)=b):Cod β where
 put:=fun b=>c.put (g b)
 get:=fun l=>match c.get l with
  | .ok (a,t)=>.ok (f a,t)
  | .error x=>.error x
 ok:=fun b=>c.ok (g b)
 pos:=fun b=>c.pos _
 there:=fun b t h=>by simp only [c.there (g b) t h,hg]
 back:=fun l b t h=>by
  cases e:c.get l with
  | error y=>rw [e] at h;cases h
  | ok r=>
   obtain ⟨a,t1⟩:=r
   rw [e] at h
   cases h
   rw [hf]
   exact c.back l _ _ e
def aBb (most:Nat) (n:Int):Bool:=decide (0≤n)&&decide (n≤most)
def upto (most:Nat):Cod Int:=num.only (aBb most) 2
theorem aDl {most n:Nat} (h:n≤most):aBb most (n:Int)=true:=by
 unfold aBb
 rw [decide_eq_true (by omega),decide_eq_true (by omega)];rfl
def yD (most:Nat) (b:List UInt8):Except Int (List UInt8×List UInt8):=match (upto most).get b with
 | .ok (n,t)=>if n≤(t.length:Int) then .ok (t.take n.toNat,t.drop n.toNat) else .error 3
 | .error x=>.error x
def text (most:Nat) (hm:most≤1000000):Cod (List UInt8) where
 put:=fun s=>vL s.length++s
 get:=yD most
 ok:=fun s=>s.length≤most
 pos:=fun s=>by rw [List.length_append];have:=aF6 (zig s.length);show 1≤(vL s.length).length+_;unfold vL;omega
 there:=fun s t h=>by
  have e:(upto most).get (vL s.length++(s++t))=.ok ((s.length:Int),s++t):=(upto most).there (s.length:Int) (s++t) ⟨⟨by omega,by omega⟩,aDl h⟩
  unfold yD
  rw [List.append_assoc,e]
  simp only [List.length_append]
  rw [if_pos (by omega)]
  have k:((s.length:Int)).toNat=s.length:=by omega
  rw [k,List.take_left',List.drop_left']<;>rfl
 back:=fun b s t h=>by
  unfold yD at h
  cases e:(upto most).get b with
  | error y=>rw [e] at h;cases h
  | ok r=>
   obtain ⟨n,t1⟩:=r
   rw [e] at h
   simp only at h
   split at h
   ·rename_i hn
    cases h
    obtain ⟨b1,⟨i1,i2⟩,hp⟩:=(upto most).back b _ _ e
    unfold aBb at hp
    simp only [Bool.and_eq_true,decide_eq_true_eq] at hp
    have hl:(t1.take n.toNat).length=n.toNat:=by rw [List.length_take];omega
    refine ⟨?_,by rw [hl];omega⟩
    rw [b1,hl,List.append_assoc,List.take_append_drop]
    have k:((n.toNat:Nat):Int)=n:=by omega
    rw [k];rfl
   ·cases h
def mD {α:Type} (c:Cod α):Nat→List UInt8→Except Int (List α×List UInt8)
 | 0,b=>.ok ([],b)
 | n+1,b=>match c.get b with
  | .ok (a,t)=>(match mD c n t with
   | .ok (l,t')=>.ok (a::l,t')
   | .error x=>.error x)
  | .error x=>.error x
theorem aBc {α:Type} (c:Cod α):∀ (l:List α) (t:List UInt8),(∀ a∈l,c.ok a)→mD c l.length (l.flatMap c.put++t)=.ok (l,t)
 | [],t,_=>rfl
 | a::l,t,h=>by
  rw [List.flatMap_cons,List.append_assoc,List.length_cons]
  unfold mD
  rw [c.there a _ (h a (List.mem_cons_self ..))]
  simp only [aBc c l t fun x hx=>h x (List.mem_cons_of_mem _ hx)]
theorem aDm {α:Type} (c:Cod α):∀ (n:Nat) (b:List UInt8) (l:List α) (t:List UInt8),mD c n b=.ok (l,t)→b=l.flatMap c.put++t∧l.length=n∧∀ a∈l,c.ok a
 | 0,b,l,t,h=>by cases h;exact ⟨rfl,rfl,fun a ha=>(by cases ha)⟩
 | n+1,b,l,t,h=>by
  unfold mD at h
  cases e:c.get b with
  | error y=>rw [e] at h;cases h
  | ok r=>
   obtain ⟨a,t1⟩:=r
   rw [e] at h
   simp only at h
   cases e2:mD c n t1 with
   | error y=>rw [e2] at h;cases h
   | ok r2=>
    obtain ⟨l2,t2⟩:=r2
    rw [e2] at h
    cases h
    obtain ⟨b1,o1⟩:=c.back b _ _ e
    obtain ⟨b2,o2,o3⟩:=aDm c n t1 _ _ e2
    refine ⟨by rw [b1,b2,List.flatMap_cons,List.append_assoc],by rw [List.length_cons,o2],fun x hx=>?_⟩
    rcases List.mem_cons.1 hx with rfl | hx
    ·exact o1
    ·exact o3 x hx
theorem aH2 {α:Type} (c:Cod α):∀ l:List α,l.length≤(l.flatMap c.put).length
 | []=>Nat.le_refl _
 | a::l=>by
  have:=aH2 c l
  have:=c.pos a
  rw [List.flatMap_cons,List.length_append,List.length_cons];omega
end Go.Pack
end
section
namespace Go.Pack
set_option linter.unusedVariables false
set_option linter.unusedSimpArgs false
set_option maxRecDepth 100000
def aBd {α:Type} (c:Cod α) (most:Nat) (b:List UInt8):Except Int (List α×List UInt8):=match (upto most).get b with
 | .ok (n,t)=>if n≤(t.length:Int) then mD c n.toNat t else .error 3
 | .error x=>.error x
def Cod.list {α:Type} (c:Cod α) (most:Nat) (hm:most≤1000000):Cod (List α) where
 put:=fun l=>vL l.length++l.flatMap c.put
 get:=aBd c most
 ok:=fun l=>l.length≤most∧∀ a∈l,c.ok a
 pos:=fun l=>by rw [List.length_append];have:=aF6 (zig l.length);show 1≤(vL l.length).length+_;unfold vL;omega
 there:=fun l t h=>by
  have e:(upto most).get (vL l.length++(l.flatMap c.put++t))=.ok ((l.length:Int),l.flatMap c.put++t):=(upto most).there (l.length:Int) _ ⟨⟨by have:=h.1;omega,by have:=h.1;omega⟩,aDl h.1⟩
  unfold aBd
  rw [List.append_assoc,e]
  simp only [List.length_append]
  have:=aH2 c l
  rw [if_pos (by omega)]
  have k:((l.length:Int)).toNat=l.length:=by omega
  rw [k]
  exact aBc c l t h.2
 back:=fun b l t h=>by
  unfold aBd at h
  cases e:(upto most).get b with
  | error y=>rw [e] at h;cases h
  | ok r=>
   obtain ⟨n,t1⟩:=r
   rw [e] at h
   simp only at h
   split at h
   ·obtain ⟨b1,⟨i1,i2⟩,hp⟩:=(upto most).back b _ _ e
    unfold aBb at hp
    simp only [Bool.and_eq_true,decide_eq_true_eq] at hp
    obtain ⟨b2,o2,o3⟩:=aDm c n.toNat t1 _ _ h
    refine ⟨?_,by rw [o2];omega,o3⟩
    have k:((l.length:Nat):Int)=n:=by rw [o2];omega
    rw [b1,b2,k,List.append_assoc];rfl
   ·cases h
def flagR (b:List UInt8):Except Int (Bool×List UInt8):=match numR b with
 | .ok (n,t)=>if n=0 then .ok (false,t) else if n=1 then .ok (true,t) else .error 4
 | .error x=>.error x
def flag:Cod Bool where
 put:=fun f=>vL (if f then 1 else 0)
 get:=flagR
 ok:=fun _=>True
 pos:=fun f=>aF6 _
 there:=fun f t _=>by
  unfold flagR
  rw [aDk (by split<;>decide)]
  cases f<;>rfl
 back:=fun b f t h=>by
  unfold flagR at h
  cases e:numR b with
  | error y=>rw [e] at h;cases h
  | ok r=>
   obtain ⟨n,t1⟩:=r
   rw [e] at h
   simp only at h
   obtain ⟨b1,_⟩:=num_back e
   split at h
   ·rename_i h0
    cases h
    exact ⟨by rw [b1,h0];rfl,trivial⟩
   ·split at h
    ·rename_i h1
     cases h
     exact ⟨by rw [b1,h1];rfl,trivial⟩
    ·cases h
end Go.Pack
namespace Go.Proofs.YtoaibmbldmckaaaGreat
open Go.AM Go.Pack Tryz
set_option linter.unusedVariables false
set_option linter.unusedSimpArgs false
set_option maxRecDepth 100000
def txt:Cod (List UInt8):=Go.Pack.text 64 (by decide)
def aL9:Cod Date:=(num.both (num.both num)).map (fun x=>⟨x.1,x.2.1,x.2.2⟩) (fun d=>(d.y,d.m,d.d)) (fun _=>rfl) (fun _=>rfl)
def aRj:Cod Rate:=(txt.both (aL9.both num)).map (fun x=>⟨x.1,x.2.1,x.2.2⟩) (fun r=>(r.cat,r.day,r.bp)) (fun _=>rfl) (fun _=>rfl)
structure SerI where
 name:List UInt8
 limit:Int
 shut:Bool
def aZ4:Cod SerI:=(txt.both (num.both flag)).map (fun x=>⟨x.1,x.2.1,x.2.2⟩) (fun r=>(r.name,r.limit,r.shut)) (fun _=>rfl) (fun _=>rfl)
structure PartI where
 cat:List UInt8
 bp:Int
 net:Int
def aRk:Cod PartI:=(txt.both (num.both num)).map (fun x=>⟨x.1,x.2.1,x.2.2⟩) (fun r=>(r.cat,r.bp,r.net)) (fun _=>rfl) (fun _=>rfl)
structure PostI where
 ser:List UInt8
 day:Date
 ofSer:List UInt8
 ofNum:Int
 parts:List PartI
def aZ5:Cod PostI:=(txt.both (aL9.both (txt.both (num.both (aRk.list 12 (by decide)))))).map (fun x=>⟨x.1,x.2.1,x.2.2.1,x.2.2.2.1,x.2.2.2.2⟩) (fun r=>(r.ser,r.day,r.ofSer,r.ofNum,r.parts)) (fun _=>rfl) (fun _=>rfl)
structure SessI where
 id:Int
 last:Int
 why:Int
 number:Int
 gross:Int
def aRl:Cod SessI:=(num.both (num.both (num.both (num.both num)))).map (fun x=>⟨x.1,x.2.1,x.2.2.1,x.2.2.2.1,x.2.2.2.2⟩) (fun r=>(r.id,r.last,r.why,r.number,r.gross)) (fun _=>rfl) (fun _=>rfl)
structure ImgI where
 table:List Rate
 ser:List SerI
 posted:List PostI
 sess:List SessI
 next:Int
def aTs:Cod ImgI:=((aRj.list 24 (by decide)).both ((aZ4.list 8 (by decide)).both ((aZ5.list 40 (by decide)).both ((aRl.list 8 (by decide)).both num)))).map (fun x=>⟨x.1,x.2.1,x.2.2.1,x.2.2.2.1,x.2.2.2.2⟩) (fun r=>(r.table,r.ser,r.posted,r.sess,r.next)) (fun _=>rfl) (fun _=>rfl)
end Go.Proofs.YtoaibmbldmckaaaGreat
end
section
namespace Go.Proofs.YtoaibmbldmckaaaGreat
open Go.AM Go.Pack Tryz
def aXy (p:PartI):Part:=⟨p.cat,p.bp,p.net,0⟩
def aXz (p:PostI):Posted:=⟨⟨p.ser,0⟩,p.day,⟨0,0,0,p.parts.map aXy⟩,⟨p.ofSer,p.ofNum⟩,false⟩
def bEz (s:SerI):Ser:=⟨s.name,1,s.limit,s.shut⟩
def aY0 (s:SessI):Sess:=⟨s.id,s.last,⟨s.why,s.number,s.gross⟩⟩
def aF7 (x:ImgI):State:=⟨x.table,x.ser.map bEz,x.posted.map aXz,[],x.sess.map aY0,x.next⟩
def State.zero:State:=⟨[],[],[],[],[],0⟩
def gY (st:List Part) (p:Part):Option (List Part)⊕List Part:=if (cH p.net p.bp).2=0 then .inr (st++[pG p]) else .inl none
def lG (ps:List Part):Option Total:=
 if (bO (ps.map (·.net))).2=true then (if (bO (ps.map (·.tax))).2=true then (if (bO [(bO (ps.map (·.net))).1,(bO (ps.map (·.tax))).1]).2=true then
  some ⟨(bO (ps.map (·.net))).1,(bO (ps.map (·.tax))).1,(bO [(bO (ps.map (·.net))).1,(bO (ps.map (·.tax))).1]).1,ps⟩ else none) else none) else none
def nP (t:Total):Option Total:=match aD gY some t.parts [] with
 | none=>none
 | some ps=>lG ps
def bN (st:List Ser×List Posted) (p:Posted):Option (List Ser×List Posted)⊕(List Ser×List Posted):=
 if cE st.1 p.ref.ser<0 then .inl none else match nP p.total with
 | none=>.inl none
 | some t=>match st.1[(cE st.1 p.ref.ser).toNat]? with
  | none=>.inl none
  | some x=>if p.of=Ref.zero then .inr (st.1.set (cE st.1 p.ref.ser).toNat { x with next:=wr .i64 (x.next+1) },st.2++[{ p with ref:=⟨p.ref.ser,x.next⟩,total:=t }]) else
   if cC st.2 p.of<0 then .inl none else .inr (st.1.set (cE st.1 p.ref.ser).toNat { x with next:=wr .i64 (x.next+1) },hM st.2 (cC st.2 p.of).toNat++[{ p with ref:=⟨p.ref.ser,x.next⟩,total:=t }])
def nQ (s:State):Option State:=match aD bN some s.posted (s.ser,[]) with
 | none=>none
 | some r=>if (cK r.2).2=0 then some { s with ser:=r.1,posted:=r.2,book:=(cK r.2).1 } else none
def eY (b:List UInt8):State×Int:=match aTs.get b with
 | .error e=>(State.zero,e)
 | .ok (x,t)=>if t=[] then (match nQ (aF7 x) with
  | none=>(State.zero,4)
  | some s=>if fX s=true then (s,0) else (State.zero,4)) else (State.zero,5)
theorem aRm:∀ (b:List UInt8) (i acc:Nat),rdL i acc b≠.error 0
 | [],i,acc,h=>by cases h
 | c::t,i,acc,h=>by
  unfold rdL at h
  repeat' split at h
  ·cases h
  ·exact aRm t _ _ h
  ·cases h
  ·cases h
theorem numR_ne (b:List UInt8):numR b≠.error 0:=fun h=>by
 unfold numR at h
 split at h
 ·cases h
 ·rename_i e he;cases h;exact aRm _ _ _ he
def CNE {α:Type} (c:Cod α):Prop:=∀ b,c.get b≠.error 0
theorem CNE.num:CNE num:=numR_ne
theorem CNE.only {α:Type} {c:Cod α} (h:CNE c) (p:α→Bool) {e:Int} (he:e≠0):CNE (c.only p e):=fun b hb=>by
 have hb:(match c.get b with
  | .ok (a,t)=>if p a=true then .ok (a,t) else .error e
  | .error x=>.error x:Except Int (α×List UInt8))=.error 0:=hb
 split at hb
 ·split at hb
  ·cases hb
  ·cases hb;exact he rfl
 ·rename_i x hx;cases hb;exact h _ hx
theorem CNE.both {α β:Type} {c:Cod α} {d:Cod β} (h:CNE c) (k:CNE d):CNE (c.both d):=fun b hb=>by
 have hb:(match c.get b with
  | .ok (a,t)=>(match d.get t with
   | .ok (x,t')=>.ok ((a,x),t')
   | .error x=>.error x)
  | .error x=>.error x:Except Int ((α×β)×List UInt8))=.error 0:=hb
 split at hb
 ·split at hb
  ·cases hb
  ·rename_i x hx;cases hb;exact k _ hx
 ·rename_i x hx;cases hb;exact h _ hx
theorem CNE.map {α β:Type} {c:Cod α} (h:CNE c) {f:α→β} {g:β→α} {h1:∀ a,g (f a)=a} {h2:∀ b,f (g b)=b}:CNE (c.map f g h1 h2):=fun b hb=>by
 have hb:(match c.get b with
  | .ok (a,t)=>.ok (f a,t)
  | .error x=>.error x:Except Int (β×List UInt8))=.error 0:=hb
 split at hb
 ·cases hb
 ·rename_i x hx;cases hb;exact h _ hx
theorem CNE.upto (m:Nat):CNE (upto m):=CNE.num.only _ (by decide)
theorem CNE.text {m:Nat} (hm:m≤1000000):CNE (Go.Pack.text m hm):=fun b hb=>by
 have hb:yD m b=.error 0:=hb
 unfold yD at hb
 repeat' split at hb
 all_goals first | (cases hb;done) | skip
 rename_i x hx;cases hb;exact CNE.upto _ _ hx
theorem aLa {α:Type} {c:Cod α} (h:CNE c):∀ (n:Nat) (b:List UInt8),mD c n b≠.error 0
 | 0,b,hb=>by cases hb
 | n+1,b,hb=>by
  unfold mD at hb
  split at hb
  ·split at hb
   ·cases hb
   ·rename_i x hx;cases hb;exact aLa h _ _ hx
  ·rename_i x hx;cases hb;exact h _ hx
theorem CNE.list {α:Type} {c:Cod α} (h:CNE c) {m:Nat} (hm:m≤1000000):CNE (c.list m hm):=fun b hb=>by
 have hb:aBd c m b=.error 0:=hb
 unfold aBd at hb
 split at hb
 ·split at hb
  ·exact aLa h _ _ hb
  ·cases hb
 ·rename_i x hx;cases hb;exact CNE.upto _ _ hx
theorem CNE.flag:CNE flag:=fun b hb=>by
 have hb:flagR b=.error 0:=hb
 unfold flagR at hb
 repeat' split at hb
 all_goals first | (cases hb;done) | skip
 rename_i x hx;cases hb;exact numR_ne _ hx
theorem CNE.txt:CNE txt:=CNE.text _
theorem CNE.day:CNE aL9:=(CNE.num.both (CNE.num.both CNE.num)).map
theorem CNE.img:CNE aTs:=((CNE.list ((CNE.txt.both (CNE.day.both CNE.num)).map) _).both ((CNE.list ((CNE.txt.both (CNE.num.both CNE.flag)).map) _).both ((CNE.list ((CNE.txt.both (CNE.day.both (CNE.txt.both (CNE.num.both (CNE.list ((CNE.txt.both (CNE.num.both CNE.num)).map) _))))).map) _).both ((CNE.list ((CNE.num.both (CNE.num.both (CNE.num.both (CNE.num.both CNE.num)))).map) _).both CNE.num)))).map
end Go.Proofs.YtoaibmbldmckaaaGreat
end
section
namespace Go.Proofs.YtoaibmbldmckaaaGreat
open Go.AM Tryz
def aDn (q p:Posted):Bool:=if (fH q.total).2≠0 then false else if q.of≠Ref.zero then false else if p.day.days<q.day.days then false else
 decide ((fH q.total).1.net=p.total.net)&&(decide ((fH q.total).1.tax=p.total.tax)&&decide ((fH q.total).1.parts=p.total.parts))
def mT (p:Posted):List Posted→Bool
 | []=>false
 | q::l=>if q.ref=p.of then aDn q p else mT p l
def jB (l:List Posted) (r:Ref):Nat:=(l.filter fun q=>decide (q.of=r)).length
def nR (l:List Posted) (i:Nat) (p:Posted):Bool:=
 if 1<jB (l.drop (i+1)) p.ref then false else if p.back≠decide (jB (l.drop (i+1)) p.ref=1) then false else if p.of=Ref.zero then true else if p.back=true then false else mT p (l.take i)
theorem rG (q:Posted) (l:List Posted) (r:Ref):jB (q::l) r=(if q.of=r then 1 else 0)+jB l r:=by
 unfold jB
 rw [List.filter_cons]
 by_cases c:q.of=r
 ·rw [if_pos (by simpa using c),if_pos c,List.length_cons];omega
 ·rw [if_neg (by simpa using c),if_neg c];omega
theorem yE {t:Total} (h:cF t=true):t.gross=(bO [t.net,t.tax]).1:=by
 obtain ⟨_,_,_,_,hs⟩:=(rF t).1 h
 unfold gQ at hs
 repeat' split at hs
 all_goals first | cases hs;done | skip
 exact (of_decide_eq_true hs).symm
theorem aRn {q p:Posted} (h1:cF q.total=true) (h2:cF p.total=true) (hi:∀ x∈q.total.parts,dY x.net∧dY x.tax) (d1:q.day.right=true) (d2:p.day.right=true):aDn q p=oV p q:=by
 unfold aDn oV
 have hb:p.day.before q.day=decide (p.day.days<q.day.days):=by unfold Date.before;rw [d1,d2];rfl
 rw [hb]
 by_cases c2:q.of=Ref.zero
 ·by_cases c1:(fH q.total).2=0
  ·rw [if_neg (by simp [c1]),if_neg (by simp [c2]),if_pos c2]
   by_cases c3:p.day.days<q.day.days
   ·rw [if_pos c3,if_neg (by simp [c3])]
   ·rw [if_neg c3,if_pos (by simp [c3]),if_pos c1]
    obtain ⟨b1,_,_⟩:=aIu hi h1 c1
    have e1:=yE b1
    have e2:=yE h2
    rw [Bool.eq_iff_iff]
    simp only [Bool.and_eq_true,decide_eq_true_eq]
    constructor
    ·rintro ⟨a,b,c⟩
     generalize (fH q.total).1=t at *
     generalize p.total=r at *
     obtain ⟨tn,tx,tg,tp⟩:=t
     obtain ⟨rn,rx,rg,rp⟩:=r
     simp only at a b c e1 e2
     subst a b c
     rw [e1,e2]
    ·intro e;rw [e];exact ⟨rfl,rfl,rfl⟩
  ·rw [if_pos c1,if_pos c2,if_neg c1]
   split<;>rfl
 ·rw [if_neg c2]
  split<;>rfl
theorem aDo {α:Type} (p:α→Bool):∀ (l:List α) (n:Nat),aD (cN p) (fun _=>-1) l (n+1)=if aD (cN p) (fun _=>-1) l n<0 then -1 else aD (cN p) (fun _=>-1) l n+1
 | [],n=>by simp [aD]
 | a::l,n=>by
  cases c:p a with
  | true=>
   simp only [aD,cN,c,if_true]
   rw [if_neg (by omega)];omega
  | false=>
   simp only [aD,cN,c,Bool.false_eq_true,if_false]
   exact aDo p l (n+1)
theorem aRo {α:Type} (p:α→Bool) (a:α) (l:List α):vR p (a::l)=if p a=true then 0 else if vR p l<0 then -1 else vR p l+1:=by
 unfold vR
 cases c:p a with
 | true=>simp only [aD,cN,c,if_true];rfl
 | false=>simp only [aD,cN,c,Bool.false_eq_true,if_false];exact aDo p l 0
theorem aDp (p:Posted):∀ l:List Posted,mT p l=true↔0≤cC l p.of∧aDn (l.getD (cC l p.of).toNat aRf) p=true
 | []=>by
  simp only [mT]
  exact ⟨fun h=>(by cases h),fun h=>by have h1:(0:Int)≤-1:=h.1;omega⟩
 | q::l=>by
  have e:cC (q::l) p.of=if q.ref=p.of then 0 else if cC l p.of<0 then -1 else cC l p.of+1:=by
   have:=aRo (fun x:Posted=>decide (x.ref=p.of)) q l
   simp only [decide_eq_true_eq] at this
   exact this
  simp only [mT]
  rw [e]
  by_cases c:q.ref=p.of
  ·rw [if_pos c,if_pos c]
   simp
  ·rw [if_neg c,if_neg c,aDp p l]
   by_cases c2:cC l p.of<0
   ·rw [if_pos c2]
    exact ⟨fun h=>absurd h.1 (by omega),fun h=>by have:=h.1;omega⟩
   ·rw [if_neg c2]
    have:(cC l p.of+1).toNat=(cC l p.of).toNat+1:=by omega
    rw [this,List.getD_cons_succ]
    exact ⟨fun h=>⟨by omega,h.2⟩,fun h=>⟨by omega,h.2⟩⟩
theorem tQ {l:List Posted} {r:Ref} (h:0≤cC l r):∃ (k:Nat) (q:Posted),cC l r=(k:Int)∧l[k]?=some q∧q.ref=r:=by
 rcases lM (fun p:Posted=>decide (p.ref=r)) l with e | ⟨i,q,e,hi,hp⟩
 ·have:cC l r=-1:=e
  omega
 ·exact ⟨i,q,e,hi,of_decide_eq_true hp⟩
theorem aLb {ser:List Ser} {l:List Posted} (hn:Nums ser l) {p:Posted} (hp:p∈l):p.ref≠Ref.zero:=fun e=>by
 have:=aTp hn hp
 rw [e] at this
 have:(1:Int)≤0:=this
 omega
theorem aBe (a b:List Posted) (r:Ref):jB (a++b) r=jB a r+jB b r:=by unfold jB;rw [List.filter_append,List.length_append]
theorem pA {ser:List Ser} {l:List Posted} (hn:Nums ser l) (h40:l.length≤40) (hO:∀ i q,l[i]?=some q→yO (l.take i) q):∀ n,n≤l.length→∀ i p,i<n→l[i]?=some p→(kM (l.take n)).getD i 0=(jB ((l.take n).drop (i+1)) p.ref:Int)
 | 0,_,i,p,h,_=>absurd h (Nat.not_lt_zero _)
 | n+1,hl,i,p,hi,hp=>by
  have hx:l[n]?=some l[n]:=List.getElem?_eq_getElem (by omega)
  obtain ⟨x,hxe⟩:∃ x,x=l[n]:=⟨_,rfl⟩
  rw [←hxe] at hx
  have ht:l.take (n+1)=l.take n++[x]:=by rw [List.take_add_one,hx];rfl
  have hOn:∀ j q,(l.take n)[j]?=some q→yO ((l.take n).take j) q:=fun j q hq=>by
   have hj:=(List.getElem?_eq_some_iff.1 hq).1
   rw [List.length_take] at hj
   rw [List.getElem?_take,if_pos (by omega)] at hq
   rw [List.take_take,Nat.min_eq_left (by omega)]
   exact hO j q hq
  obtain ⟨r1,r2,r3⟩:=aF3 hOn
  have hlen:(l.take n).length=n:=by rw [List.length_take];omega
  have hpos:=aLb hn (List.mem_of_getElem? hp)
  have hdrop:i<n→(l.take n++[x]).drop (i+1)=(l.take n).drop (i+1)++[x]:=fun h=>by rw [List.drop_append_of_le_length (by omega)]
  rw [ht,aCb]
  unfold hP
  by_cases c:x.of=Ref.zero
  ·rw [if_pos c]
   rcases Nat.lt_succ_iff_lt_or_eq.1 hi with h | rfl
   ·rw [pA hn h40 hO n (by omega) i p h hp,hdrop h,aBe,rG,if_neg (by rw [c];exact fun e=>hpos e.symm)]
    rfl
   ·rw [r2 i (by omega),List.drop_of_length_le (by rw [List.length_append,hlen];exact Nat.le_refl _)];rfl
  ·rw [if_neg c]
   obtain ⟨_,_,o⟩:=hO n x hx
   rcases o with o | ⟨o,_⟩
   ·exact absurd o c
   ·obtain ⟨k,q,e,hk,hq⟩:=tQ o
    have hkn:=(List.getElem?_eq_some_iff.1 hk).1
    rw [hlen] at hkn
    have hk':l[k]?=some q:=by rw [List.getElem?_take,if_pos hkn] at hk;exact hk
    rw [e,Int.toNat_natCast]
    unfold bump
    simp only [List.getD_eq_getElem?_getD,List.getElem?_set]
    rcases Nat.lt_succ_iff_lt_or_eq.1 hi with h | rfl
    ·have ih:=pA hn h40 hO n (by omega) i p h hp
     simp only [List.getD_eq_getElem?_getD] at ih
     rw [hdrop h,aBe,rG]
     by_cases e2:k=i
     ·subst e2
      rw [hp] at hk'
      cases hk'
      rw [if_pos rfl,if_pos (by omega),if_pos hq.symm,Option.getD_some,ih]
      show _+1=((_+(1+0):Nat):Int)
      omega
     ·have hne:¬ x.of=p.ref:=fun e3=>e2 (aBa hn hk' hp (hq.trans e3))
      rw [if_neg e2,if_neg hne,ih]
      rfl
    ·rw [if_neg (by omega),←List.getD_eq_getElem?_getD,r2 i (by omega),List.drop_of_length_le (by rw [List.length_append,hlen];exact Nat.le_refl _)]
     rfl
theorem aH3 {ser:List Ser} {l:List Posted} (hn:Nums ser l) (h40:l.length≤40) (hd:∀ p∈l,p.day.right=true∧cF p.total=true) (hi:∀ p∈l,∀ q∈p.total.parts,dY q.net∧dY q.tax):
  (∀ i p,l[i]?=some p→nR l i p=true)↔(∀ i p,l[i]?=some p→yO (l.take i) p)∧∀ i p,l[i]?=some p→(kM l).getD i 0≤1∧p.back=decide ((kM l).getD i 0=1):=by
 have take_ok:∀ i p,l[i]?=some p→p.of≠Ref.zero→(mT p (l.take i)=true↔0≤cC (l.take i) p.of∧oV p ((l.take i).getD (cC (l.take i) p.of).toNat aRf)=true):=by
  intro i p hp hof
  rw [aDp]
  by_cases c:0≤cC (l.take i) p.of
  ·obtain ⟨k,q,e,hk,hq⟩:=tQ c
   have hqm:q∈l:=List.mem_of_mem_take (List.mem_of_getElem? hk)
   have:(l.take i).getD (cC (l.take i) p.of).toNat aRf=q:=by rw [e,Int.toNat_natCast,List.getD_eq_getElem?_getD,hk];rfl
   have hpm:=List.mem_of_getElem? hp
   rw [this,aRn (hd q hqm).2 (hd p hpm).2 (hi q hqm) (hd q hqm).1 (hd p hpm).1]
  ·exact ⟨fun h=>absurd h.1 c,fun h=>absurd h.1 c⟩
 have all:∀ i p,l[i]?=some p→(∀ i q,l[i]?=some q→yO (l.take i) q)→(kM l).getD i 0=(jB (l.drop (i+1)) p.ref:Int):=by
  intro i p hp hO
  have hlt:=(List.getElem?_eq_some_iff.1 hp).1
  have:=pA hn h40 hO l.length (Nat.le_refl _) i p hlt hp
  rwa [List.take_length] at this
 constructor
 ·intro h
  have hO:∀ i p,l[i]?=some p→yO (l.take i) p:=by
   intro i p hp
   have hpm:=List.mem_of_getElem? hp
   refine ⟨(hd p hpm).1,(hd p hpm).2,?_⟩
   by_cases c:p.of=Ref.zero
   ·exact .inl c
   ·have hc:=h i p hp
    unfold nR at hc
    repeat' split at hc
    all_goals first | (cases hc;done) | skip
    all_goals first | exact absurd (by assumption) c | exact .inr ((take_ok i p hp c).1 hc)
  refine ⟨hO,fun i p hp=>?_⟩
  have hc:=h i p hp
  have e:=all i p hp hO
  unfold nR at hc
  split at hc
  ·cases hc
  ·rename_i h1
   split at hc
   ·cases hc
   ·rename_i h2
    have h2:=Decidable.not_not.1 h2
    rw [e]
    refine ⟨by omega,?_⟩
    rw [h2,Bool.eq_iff_iff]
    simp only [decide_eq_true_eq]
    omega
 ·rintro ⟨hO,hc⟩ i p hp
  have e:=all i p hp hO
  obtain ⟨c1,c2⟩:=hc i p hp
  rw [e] at c1 c2
  unfold nR
  have c2':p.back=decide (jB (l.drop (i+1)) p.ref=1):=by
   rw [c2,Bool.eq_iff_iff]
   simp only [decide_eq_true_eq]
   omega
  rw [if_neg (by omega),if_neg (by rw [←c2'];simp)]
  split
  ·rfl
  ·rename_i hof
   have hback:¬ p.back=true:=by
    intro hb
    rw [hb] at c2'
    have h1:=of_decide_eq_true c2'.symm
    obtain ⟨x,hx⟩:∃ x,x∈(l.drop (i+1)).filter fun q=>decide (q.of=p.ref):=by
     unfold jB at h1
     cases hf:(l.drop (i+1)).filter fun q=>decide (q.of=p.ref) with
     | nil=>rw [hf] at h1;cases h1
     | cons a b=>exact ⟨a,List.mem_cons_self ..⟩
    obtain ⟨hx1,hx2⟩:=List.mem_filter.1 hx
    have hx2:=of_decide_eq_true hx2
    obtain ⟨j,hj⟩:=List.getElem?_of_mem hx1
    rw [List.getElem?_drop] at hj
    obtain ⟨_,_,o⟩:=hO _ x hj
    rcases o with o | ⟨o1,o2⟩
    ·rw [hx2] at o
     exact aLb hn (List.mem_of_getElem? hp) o
    ·obtain ⟨k,q,e,hk,hq⟩:=tQ o1
     have hk':l[k]?=some q:=by
      have:=(List.getElem?_eq_some_iff.1 hk).1
      rw [List.length_take] at this
      rw [List.getElem?_take,if_pos (by omega)] at hk;exact hk
     have:k=i:=aBa hn hk' hp (hq.trans hx2)
     subst this
     rw [hp] at hk'
     cases hk'
     rw [e,Int.toNat_natCast,List.getD_eq_getElem?_getD,hk] at o2
     unfold oV at o2
     split at o2
     ·rename_i hz;exact hof hz
     ·cases o2
   rw [if_neg hback]
   rcases (hO i p hp).2.2 with o | o
   ·exact absurd o hof
   ·exact (take_ok i p hp hof).2 o
structure RD where
 done:List Posted
 taken:List Int
 book:List Bal
def pH (s:State) (st:RD) (p:Posted):Bool⊕RD:=
 if cE s.ser p.ref.ser<0 then .inl false else if p.ref.num≠wr .i64 (st.taken.getD (cE s.ser p.ref.ser).toNat 0+1) then .inl false else
  if p.day.right=false then .inl false else if cF p.total=false then .inl false else if nR s.posted st.done.length p=false then .inl false else
   if (cG p.total).2≠0 then .inl false else if (bY st.book (cG p.total).1).2≠0 then .inl false else
    .inr ⟨st.done++[p],st.taken.set (cE s.ser p.ref.ser).toNat (wr .i64 (st.taken.getD (cE s.ser p.ref.ser).toNat 0+1)),(bY st.book (cG p.total).1).1⟩
def fI (is:List Int) (x:Ser):Bool⊕List Int:=if is.headD 0=wr .i64 (x.next - 1) then .inr is.tail else .inl false
def aH4 (s:State) (st:RD):Bool:=aD fI (fun _=>true) s.ser st.taken&&decide (st.book=s.book)
def aBf (s:State):Bool:=
 if kK s.table=false then false else if tJ s.ser=false then false else if kQ s.sess=false then false else if 40<s.posted.length then false else
  if s.next<1 then false else if 1099511627776<s.next then false else if oW s.sess s.next=false then false else
   aD (pH s) (aH4 s) s.posted ⟨[],List.replicate s.ser.length 0,[]⟩
def eS (ser:List Ser) (l:List Posted):List Int:=ser.map (fun x=>cnt l x.name)
theorem aH5 {ser:List Ser} (hs:ser.Pairwise (fun a b=>kU a.name b.name=true)) {l:List Posted} {p:Posted} {i:Nat} {x:Ser} (h:ser[i]?=some x) (hn:x.name=p.ref.ser):(eS ser l).set i (cnt l p.ref.ser+1)=eS ser (l++[p]):=by
 apply List.ext_getElem?
 intro j
 unfold eS
 rw [List.getElem?_set]
 by_cases e:i=j
 ·subst e
  rw [if_pos rfl,if_pos (by rw [List.length_map];exact (List.getElem?_eq_some_iff.1 h).1),List.getElem?_map,h,Option.map_some,iE,rW,if_pos hn.symm,hn]
 ·rw [if_neg e,List.getElem?_map,List.getElem?_map]
  cases hj:ser[j]? with
  | none=>rfl
  | some y=>
   have hne:¬ p.ref.ser=y.name:=by
    rw [←hn]
    intro e'
    have h1:=vJ hs h
    have h2:=vJ hs hj
    rw [e'] at h1
    omega
   rw [Option.map_some,Option.map_some,iE,rW,if_neg hne,Int.add_zero]
theorem aRp:∀ (ser:List Ser) (is:List Int),aD fI (fun _=>true) ser is=true↔∀ i x,ser[i]?=some x→is.getD i 0=wr .i64 (x.next - 1)
 | [],is=>by simp [aD]
 | s::l,is=>by
  have hh:is.headD 0=is.getD 0 0:=by cases is<;>rfl
  have ht:∀ j,is.tail.getD j 0=is.getD (j+1) 0:=fun j=>by cases is<;>simp
  by_cases c:is.getD 0 0=wr .i64 (s.next - 1)
  ·have e:fI is s=.inr is.tail:=by unfold fI;rw [hh,if_pos c]
   simp only [aD,e]
   rw [aRp l is.tail]
   constructor
   ·intro h i x hx
    cases i with
    | zero=>cases hx;exact c
    | succ i=>have:=h i x hx;rwa [ht] at this
   ·intro h i x hx
    have:=h (i+1) x hx
    rwa [ht]
  ·have e:fI is s=.inl false:=by unfold fI;rw [hh,if_neg c]
   simp only [aD,e]
   constructor
   ·intro h;cases h
   ·intro h;exact absurd (h 0 s rfl) c
def aTt (s:State) (done:List Posted) (i:Nat) (p:Posted):Prop:=(∃ x∈s.ser,x.name=p.ref.ser)∧p.ref.num=cnt done p.ref.ser+1∧p.day.right=true∧cF p.total=true∧nR s.posted i p=true
theorem rL {s:State} (hs:s.ser.Pairwise (fun a b=>kU a.name b.name=true)) (h40:s.posted.length≤40):∀ (l done:List Posted) (book:List Bal),s.posted=done++l→
  (aD (pH s) (aH4 s) l ⟨done,eS s.ser done,book⟩=true↔(∀ i p,l[i]?=some p→aTt s (done++l.take i) (done.length+i) p)∧(∀ x∈s.ser,cnt s.posted x.name=wr .i64 (x.next - 1))∧aD aP (fun b=>(b,0)) l book=(s.book,0))
 | [],done,book,e=>by
  rw [List.append_nil] at e
  subst e
  simp only [aD,aH4,Bool.and_eq_true,decide_eq_true_eq,aRp]
  constructor
  ·rintro ⟨h1,h2⟩
   refine ⟨fun i p h=>(by cases h),fun x hx=>?_,by rw [h2]⟩
   obtain ⟨i,hi⟩:=List.getElem?_of_mem hx
   have:=h1 i x hi
   unfold eS at this
   rw [List.getD_eq_getElem?_getD,List.getElem?_map,hi] at this
   exact this
  ·rintro ⟨_,h1,h2⟩
   refine ⟨fun i x hi=>?_,congrArg Prod.fst h2⟩
   unfold eS
   rw [List.getD_eq_getElem?_getD,List.getElem?_map,hi]
   exact h1 x (List.mem_of_getElem? hi)
 | p::l,done,book,e=>by
  have hlen:done.length<40:=by have:=congrArg List.length e;simp at this;omega
  have hc:=aL7 done p.ref.ser
  have h0:=oX done p.ref.ser
  have e':s.posted=(done++[p])++l:=by rw [e,List.append_assoc];rfl
  by_cases k0:cE s.ser p.ref.ser<0
  ·have e1:pH s ⟨done,eS s.ser done,book⟩ p=.inl false:=by unfold pH;rw [if_pos k0]
   simp only [aD,e1]
   refine ⟨fun h=>(by cases h),fun h=>?_⟩
   obtain ⟨⟨x,hx,hn⟩,_⟩:=h.1 0 p rfl
   exact absurd hn (aB7 k0 x hx)
  ·rcases lM (fun x:Ser=>x.name == p.ref.ser) s.ser with e1 | ⟨i,x,e1,hi,hx⟩
   ·exact absurd (show cE s.ser p.ref.ser<0 by unfold cE;rw [e1];decide) k0
   ·have e1:cE s.ser p.ref.ser=(i:Int):=e1
    have hx:x.name=p.ref.ser:=by simpa using hx
    have hget:(eS s.ser done).getD i 0=cnt done p.ref.ser:=by
     unfold eS
     rw [List.getD_eq_getElem?_getD,List.getElem?_map,hi,Option.map_some,hx];rfl
    have hw:wr .i64 (cnt done p.ref.ser+1)=cnt done p.ref.ser+1:=mB ⟨by omega,by omega⟩
    have hstep:pH s ⟨done,eS s.ser done,book⟩ p=if p.ref.num≠cnt done p.ref.ser+1 then .inl false else
      if p.day.right=false then .inl false else if cF p.total=false then .inl false else if nR s.posted done.length p=false then .inl false else
      if (cG p.total).2≠0 then .inl false else if (bY book (cG p.total).1).2≠0 then .inl false else .inr ⟨done++[p],eS s.ser (done++[p]),(bY book (cG p.total).1).1⟩:=by
     unfold pH
     rw [if_neg k0]
     simp only [e1,Int.toNat_natCast,hget,hw,aH5 hs hi hx]
    have bad:∀ b:Bool⊕RD,b=.inl false→pH s ⟨done,eS s.ser done,book⟩ p=b→¬ (aTt s done done.length p∧(cG p.total).2=0∧(bY book (cG p.total).1).2=0)→(aD (pH s) (aH4 s) (p::l) ⟨done,eS s.ser done,book⟩=true↔(∀ i q,(p::l)[i]?=some q→aTt s (done++(p::l).take i) (done.length+i) q)∧(∀ x∈s.ser,cnt s.posted x.name=wr .i64 (x.next - 1))∧aD aP (fun b=>(b,0)) (p::l) book=(s.book,0)):=by
     intro b hb h1 h2
     subst hb
     simp only [aD,h1]
     refine ⟨fun h=>(by cases h),fun h=>?_⟩
     exfalso
     have g:=h.1 0 p rfl
     rw [List.take_zero,List.append_nil,Nat.add_zero] at g
     refine h2 ⟨g,?_⟩
     have hb:=h.2.2
     simp only [aP] at hb
     by_cases c:(cG p.total).2=0
     ·refine ⟨c,?_⟩
      by_cases c2:(bY book (cG p.total).1).2=0
      ·exact c2
      ·rw [if_neg (by simp [c]),if_pos c2] at hb
       exact absurd (congrArg Prod.snd hb) c2
     ·rw [if_pos c] at hb
      exact absurd (congrArg Prod.snd hb) c
    by_cases c1:p.ref.num=cnt done p.ref.ser+1
    rotate_left
    ·exact bad _ rfl (by rw [hstep,if_pos c1]) fun h=>c1 h.1.2.1
    by_cases c2:p.day.right=true
    rotate_left
    ·exact bad _ rfl (by rw [hstep,if_neg (by simp [c1]),if_pos (by simpa using c2)]) fun h=>c2 h.1.2.2.1
    by_cases c3:cF p.total=true
    rotate_left
    ·exact bad _ rfl (by rw [hstep,if_neg (by simp [c1]),if_neg (by simp [c2]),if_pos (by simpa using c3)]) fun h=>c3 h.1.2.2.2.1
    by_cases c4:nR s.posted done.length p=true
    rotate_left
    ·exact bad _ rfl (by rw [hstep,if_neg (by simp [c1]),if_neg (by simp [c2]),if_neg (by simp [c3]),if_pos (by simpa using c4)]) fun h=>c4 h.1.2.2.2.2
    by_cases c5:(cG p.total).2=0
    rotate_left
    ·exact bad _ rfl (by rw [hstep,if_neg (by simp [c1]),if_neg (by simp [c2]),if_neg (by simp [c3]),if_neg (by simp [c4]),if_pos c5]) fun h=>c5 h.2.1
    by_cases c6:(bY book (cG p.total).1).2=0
    rotate_left
    ·exact bad _ rfl (by rw [hstep,if_neg (by simp [c1]),if_neg (by simp [c2]),if_neg (by simp [c3]),if_neg (by simp [c4]),if_neg (by simp [c5]),if_pos c6]) fun h=>c6 h.2.2
    have hgood:pH s ⟨done,eS s.ser done,book⟩ p=.inr ⟨done++[p],eS s.ser (done++[p]),(bY book (cG p.total).1).1⟩:=by
     rw [hstep,if_neg (by simp [c1]),if_neg (by simp [c2]),if_neg (by simp [c3]),if_neg (by simp [c4]),if_neg (by simp [c5]),if_neg (by simp [c6])]
    have hbk:aP book p=.inr (bY book (cG p.total).1).1:=by unfold aP;rw [if_neg (by simp [c5]),if_neg (by simp [c6])]
    have one:aTt s done done.length p:=⟨⟨x,List.mem_of_getElem? hi,hx⟩,c1,c2,c3,c4⟩
    simp only [aD,hgood,hbk]
    rw [rL hs h40 l (done++[p]) _ e']
    constructor
    ·rintro ⟨h1,h2⟩
     refine ⟨fun i q hq=>?_,h2⟩
     cases i with
     | zero=>cases hq;rw [List.take_zero,List.append_nil];exact one
     | succ i=>
      have:=h1 i q hq
      rw [List.append_assoc,List.length_append] at this
      rw [List.take_succ_cons]
      have e2:done.length+(i+1)=done.length+[p].length+i:=by simp;omega
      rw [e2];exact this
    ·rintro ⟨h1,h2⟩
     refine ⟨fun i q hq=>?_,h2⟩
     have:=h1 (i+1) q hq
     rw [List.take_succ_cons] at this
     rw [List.append_assoc,List.length_append]
     have e2:done.length+(i+1)=done.length+[p].length+i:=by simp;omega
     rw [←e2];exact this
theorem aN1 {s:State} (hi:bEv s) (hn:∀ x∈s.ser,dY x.next):aBf s=fX s:=by
 rw [Bool.eq_iff_iff,aB9]
 unfold aBf
 by_cases c1:kK s.table=true
 rotate_left
 ·rw [if_pos (by simpa using c1)];exact ⟨fun h=>(by cases h),fun h=>absurd h.1 c1⟩
 rw [if_neg (by simp [c1])]
 by_cases c2:tJ s.ser=true
 rotate_left
 ·rw [if_pos (by simpa using c2)];exact ⟨fun h=>(by cases h),fun h=>absurd h.2.1 c2⟩
 rw [if_neg (by simp [c2])]
 have hs:=((rE _).1 c2).2.2
 have hsl:=((rE _).1 c2).1
 have hsb:=((rE _).1 c2).2.1
 have hso:gH s=true↔aF4 s.sess s.next:=sL s
 unfold gH at hso
 by_cases c3:kQ s.sess=true
 rotate_left
 ·rw [if_pos (by simpa using c3)]
  rw [if_neg c3] at hso
  exact ⟨fun h=>(by cases h),fun h=>by have:=hso.2 h.2.2.1;cases this⟩
 rw [if_neg (by simp [c3])]
 rw [if_pos c3] at hso
 by_cases c4:s.posted.length≤40
 rotate_left
 ·rw [if_pos (by omega)]
  exact ⟨fun h=>(by cases h),fun h=>absurd ((mR _).1 h.2.2.2.1).1 c4⟩
 rw [if_neg (by omega)]
 by_cases c5:1≤s.next
 rotate_left
 ·rw [if_pos (by omega)];rw [if_neg c5] at hso
  exact ⟨fun h=>(by cases h),fun h=>by have:=hso.2 h.2.2.1;cases this⟩
 rw [if_neg (by omega)]
 rw [if_pos c5] at hso
 by_cases c6:s.next≤1099511627776
 rotate_left
 ·rw [if_pos (by omega)];rw [if_neg c6] at hso
  exact ⟨fun h=>(by cases h),fun h=>by have:=hso.2 h.2.2.1;cases this⟩
 rw [if_neg (by omega)]
 rw [if_pos c6] at hso
 by_cases c7:oW s.sess s.next=true
 rotate_left
 ·rw [if_pos (by simpa using c7)]
  exact ⟨fun h=>(by cases h),fun h=>absurd (hso.2 h.2.2.1) c7⟩
 rw [if_neg (by simp [c7])]
 have ht:List.replicate s.ser.length (0:Int)=eS s.ser []:=by
  unfold eS
  apply List.ext_getElem?
  intro j
  rw [List.getElem?_replicate,List.getElem?_map]
  split
  ·rename_i h;rw [List.getElem?_eq_getElem h];rfl
  ·rename_i h;rw [List.getElem?_eq_none (by omega)];rfl
 rw [ht,rL hs c4 s.posted [] [] rfl]
 have hnx:(∀ x∈s.ser,cnt s.posted x.name=wr .i64 (x.next - 1))↔∀ x∈s.ser,x.next=cnt s.posted x.name+1:=by
  constructor
  ·intro h x hx
   have:=h x hx
   obtain ⟨_,b⟩:=hsb x hx
   unfold qM at b
   simp only [Bool.or_eq_false_iff,decide_eq_false_iff_not] at b
   have:=hn x hx
   rw [mB ⟨by have:=this.1;omega,by have:=this.2;omega⟩] at *
   omega
  ·intro h x hx
   have e:=h x hx
   have h1:=aL7 s.posted x.name
   have h2:=oX s.posted x.name
   rw [mB ⟨by omega,by omega⟩];omega
 rw [hnx]
 simp only [List.nil_append,List.length_nil,Nat.zero_add]
 constructor
 ·rintro ⟨h1,h2,h3⟩
  have hnum:Nums s.ser s.posted:=⟨fun i p hp=>⟨(h1 i p hp).1,(h1 i p hp).2.1⟩,h2⟩
  have hd:∀ p∈s.posted,p.day.right=true∧cF p.total=true:=fun p hp=>by
   obtain ⟨i,hi'⟩:=List.getElem?_of_mem hp
   exact ⟨(h1 i p hi').2.2.1,(h1 i p hi').2.2.2.1⟩
  have hc:=(aH3 hnum c4 hd hi).1 fun i p hp=>(h1 i p hp).2.2.2.2
  exact ⟨c1,c2,hso.1 c7,(mR _).2 ⟨c4,hc⟩,hnum,h3⟩
 ·rintro ⟨_,_,_,h4,h5,h6⟩
  obtain ⟨_,hO,hb⟩:=(mR _).1 h4
  have hd:∀ p∈s.posted,p.day.right=true∧cF p.total=true:=fun p hp=>by
   obtain ⟨i,hi'⟩:=List.getElem?_of_mem hp
   exact ⟨(hO i p hi').1,(hO i p hi').2.1⟩
  have hc:=(aH3 h5 c4 hd hi).2 ⟨hO,hb⟩
  refine ⟨fun i p hp=>⟨(h5.num i p hp).1,(h5.num i p hp).2,(hO i p hp).1,(hO i p hp).2.1,hc i p hp⟩,fun x hx=>?_,h6⟩
  exact h5.next x hx
def zL (a b:Rate):Bool:=if a.cat=b.cat then decide (a.day.days<b.day.days) else kU a.cat b.cat
theorem aIx {a b:Rate} (ha:a.day.right=true) (hb:b.day.right=true):zL a b=tH a b:=by
 unfold zL tH Date.before
 by_cases c:a.cat=b.cat
 ·rw [if_pos c,c,tO,if_neg (by simp),if_pos (by simp),ha,hb];rfl
 ·rw [if_neg c]
  cases kU a.cat b.cat<;>simp [c]
theorem bIy (a b:Rate) (S:St) (K:KW):C 194 [.agg [.str a.cat,.int .i64 a.day.y,.int .i64 a.day.m,.int .i64 a.day.d,.int .i64 a.bp],.agg [.str b.cat,.int .i64 b.day.y,.int .i64 b.day.m,.int .i64 b.day.d,.int .i64 b.bp]] S K=K (.bool (zL a b)) S:=by
 refine (bH4 rfl ?_).eq S K
 delta Tryz.f194;simp only [↓cw,↓reduceIte,Nat.reduceLT,kk,kE,gm,bE9,zL]
 by_cases c:a.cat=b.cat
 ·simp only [↓cw,↓reduceIte,Nat.reduceLT,c,BEq.rfl,kk,if_true,if_false,oo]
 ·have c':¬ (a.cat == b.cat)=true:=by simpa using c
  simp only [↓cw,↓reduceIte,Nat.reduceLT,c,c',kk,if_true,if_false,oo]
theorem bIz (l:List Rate) (S:St) (K:KW):C 114 [.imm (l.map Rate.enc)] S K=K (.bool (kK l)) S:=by
 refine (bGb rfl ?_).eq S K
 delta Tryz.f114;simp only [↓cw,↓reduceIte,Nat.reduceLT,kk,kK]
 by_cases h:24<l.length
 ·simp only [↓cw,↓reduceIte,Nat.reduceLT,h,show (24:Int)<(l.length:Int) by omega,kk,if_true,oo]
 have h':¬ (24:Int)<(l.length:Int):=by omega
 simp only [↓cw,↓reduceIte,Nat.reduceLT,h,h',kk,if_false]
 refine aG l (step:=jO) (fin:=fun _=>true) (fun i s vs S=>s=cA l i∧vs=[.bool false,.int .i64 (i:Int)]∧∀ p,s=some p→p.day.right=true) (fun r=>r=aD jO (fun _=>true) l none) ?_ ?_ ⟨rfl,rfl,fun p h=>(by cases h)⟩ rfl
 ·rintro i r s vs S hi ⟨rfl,rfl,hr⟩ aF H
  have hil:=(List.getElem?_eq_some_iff.1 hi).1
  have hn:cA l (i+1)=some r:=by simpa [cA] using hi
  simp only [hn] at H
  simp only [↓cw,↓reduceIte,Nat.reduceLT,kk,bG hi,wQ hi,Rate.enc,bIg,gJ (show i<1000000000 by omega),jO] at H ⊢
  by_cases c:aEw r=0
  ·have hrr:=(aTo c).2.1
   simp only [↓cw,↓reduceIte,Nat.reduceLT,c,kk,ne_eq,not_true_eq_false,if_false] at H ⊢
   cases i with
   | zero=>
    simp only [↓cw,↓reduceIte,Nat.reduceLT,cA,if_true,Int.natCast_zero,Int.lt_irrefl,kk,if_false] at H ⊢
    exact H _ _ ⟨rfl,fun p h=>by cases h;exact hrr⟩
   | succ j=>
    have hj:l[j]?=some l[j]:=List.getElem?_eq_getElem (by omega)
    have hp:cA l (j+1)=some l[j]:=by simp [cA,hj]
    have hb:=aIx (hr _ hp) hrr
    simp only [↓cw,↓reduceIte,Nat.reduceLT,hp,gt0,kk,wrm (show j+1<1000000000 by omega),wQ hj,Rate.enc,bIy,hb,if_true] at H ⊢
    cases ha:tH l[j] r<;>simp only [↓cw,↓reduceIte,Nat.reduceLT,ha,kk,Bool.not_false,Bool.not_true,if_true,if_false,Bool.false_eq_true,oo] at H ⊢
    ·rw [←H]
    ·exact H _ _ ⟨rfl,fun p h=>by cases h;exact hrr⟩
  ·simp only [↓cw,↓reduceIte,Nat.reduceLT,c,ne_eq,not_false_eq_true,if_true,kk,oo] at H ⊢
   rw [←H]
 ·rintro s vs S ⟨rfl,rfl,hr⟩ aF H
  have H:true=_:=H
  simp only [↓cw,↓reduceIte,Nat.reduceLT,kk,Int.lt_irrefl,if_false,oo,←H]
theorem bJ0 (l:List Ser) (S:St) (K:KW):C 115 [.imm (l.map Ser.enc)] S K=K (.bool (tJ l)) S:=by
 refine (bGc rfl ?_).eq S K
 delta Tryz.f115;simp only [↓cw,↓reduceIte,Nat.reduceLT,kk,tJ]
 by_cases h:8<l.length
 ·simp only [↓cw,↓reduceIte,Nat.reduceLT,h,show (8:Int)<(l.length:Int) by omega,kk,if_true,oo]
 have h':¬ (8:Int)<(l.length:Int):=by omega
 simp only [↓cw,↓reduceIte,Nat.reduceLT,h,h',kk,if_false]
 refine aG l (step:=iY) (fin:=fun _=>true) (fun i s vs S=>s=cA l i∧vs=[.bool false,.int .i64 (i:Int)]) (fun r=>V.bool r=.bool (aD iY (fun _=>true) l none)) ?_ ?_ ⟨rfl,rfl⟩ rfl
 ·rintro i r s vs S hi ⟨rfl,rfl⟩ aF H
  have hil:=(List.getElem?_eq_some_iff.1 hi).1
  have hn:cA l (i+1)=some r:=by simpa [cA] using hi
  simp only [hn,iY] at H
  simp only [↓cw,↓reduceIte,Nat.reduceLT,kk,bG hi,sK hi,Ser.enc,aYz,gm,gJ (show i<1000000000 by omega),oo]
  cases hna:gP r.name
  ·simp [hna] at H ⊢;exact H
  ·simp only [↓cw,↓reduceIte,Nat.reduceLT,hna,kk,Bool.true_eq_false,if_false] at H ⊢
   cases i with
   | zero=>
    simp only [↓cw,↓reduceIte,Nat.reduceLT,cA,kA,kk,Bool.false_eq_true,if_false,if_true,qM,Bool.or_eq_true,decide_eq_true_eq] at H ⊢
    simp only [↓cw,↓reduceIte,Nat.reduceLT,Int.natCast_zero,Int.lt_irrefl,kk,if_false]
    grind
   | succ j=>
    have hj:l[j]?=some l[j]:=List.getElem?_eq_getElem (by omega)
    have hp:cA l (j+1)=some l[j]:=by simp [cA,hj]
    simp only [↓cw,↓reduceIte,Nat.reduceLT,hp,gt0,kk,wrm (show j+1<1000000000 by omega),sK hj,Ser.enc,kA,qM,Bool.or_eq_true,decide_eq_true_eq] at H ⊢
    grind
 ·rintro s vs S ⟨rfl,rfl⟩ aF H
  simp only [↓cw,↓reduceIte,Nat.reduceLT,kk,Int.lt_irrefl]
  exact H
theorem bJ1 (l:List Sess) (S:St) (K:KW):C 116 [.imm (l.map Sess.enc)] S K=K (.bool (kQ l)) S:=by
 refine (bGd rfl ?_).eq S K
 delta Tryz.f116;simp only [↓cw,↓reduceIte,Nat.reduceLT,kk,kQ]
 by_cases h:8<l.length
 ·simp only [↓cw,↓reduceIte,Nat.reduceLT,h,show (8:Int)<(l.length:Int) by omega,kk,if_true,oo]
 have h':¬ (8:Int)<(l.length:Int):=by omega
 simp only [↓cw,↓reduceIte,Nat.reduceLT,h,h',kk,if_false]
 refine aG l (step:=eR) (fin:=fun _=>true) (fun i s vs S=>vs=[.bool false,.int .i64 (i:Int)]∧0≤s∧(i=0→s=0)∧∀ p,0<i→l[i - 1]?=some p→s=p.id) (fun r=>V.bool r=.bool (aD eR (fun _=>true) l 0)) ?_ ?_ ⟨rfl,Int.le_refl _,fun _=>rfl,fun p h=>absurd h (Nat.lt_irrefl _)⟩ rfl
 ·rintro i s last vs S hi ⟨rfl,h0,h1,h2⟩ aF H
  have hil:=(List.getElem?_eq_some_iff.1 hi).1
  have hn:((s.reply=Rep.zero):Prop)=((s.reply.why=0∧s.reply.number=0)∧s.reply.gross=0):=by
   obtain ⟨_,_,⟨_,_,_⟩⟩:=s;simp [Rep.zero,and_assoc]
  have hnext:∀ (S':St),last<s.id→([V.bool false,V.int .i64 ((i+1:Nat):Int)]=[V.bool false,.int .i64 ((i+1:Nat):Int)]∧0≤s.id∧(i+1=0→s.id=0)∧∀ p,0<i+1→l[i+1 - 1]?=some p→s.id=p.id):=fun S' hl=>⟨rfl,by omega,fun e=>(by omega),fun p _ hp=>by rw [Nat.add_sub_cancel,hi] at hp;cases hp;rfl⟩
  have hst:eR last s=if s.id<1 then .inl false else if s.last<0 then .inl false else if 1099511627776<s.last then .inl false else if s.id≤last then .inl false else if s.last=0∧¬ ((s.reply.why=0∧s.reply.number=0)∧s.reply.gross=0) then .inl false else .inr s.id:=by
   unfold eR
   simp only [ne_eq,hn]
   grind
  rw [hst] at H
  simp only [↓cw,↓reduceIte,Nat.reduceLT,kk,bG hi,tM hi,Sess.enc,gJ (show i<1000000000 by omega),gm,if_true,oo]
  by_cases a1:s.id<1
  ·simp only [a1,if_true] at H ⊢;exact H
  by_cases a2:s.last<0
  ·simp only [a1,a2,if_true,if_false] at H ⊢;exact H
  by_cases a3:1099511627776<s.last
  ·simp only [a1,a2,a3,if_true,if_false] at H ⊢;exact H
  simp only [a1,a2,a3,if_false] at H ⊢
  have fin:∀ (a4:¬ s.id≤last),(if s.last=0 then (if (!((decide (s.reply.why=0)&&decide (s.reply.number=0))&&decide (s.reply.gross=0)))=true then V.bool false=V.bool (aD eR (fun x=>true) l 0) else aF [V.bool false,V.int .i64 ((i+1:Nat):Int)] ⟨S.next+57,S.heap⟩) else aF [V.bool false,V.int .i64 ((i+1:Nat):Int)] ⟨S.next+57,S.heap⟩):=by
   intro a4
   have hn:=hnext S (by omega)
   simp only [a4,if_false] at H
   by_cases a5:s.last=0
   ·by_cases a6:(s.reply.why=0∧s.reply.number=0)∧s.reply.gross=0
    ·simp only [a5,a6,and_self,not_true_eq_false,and_false,if_true,if_false,decide_true,Bool.and_self,Bool.not_true,Bool.false_eq_true] at H ⊢
     exact H _ _ hn
    ·have a6':(!((decide (s.reply.why=0)&&decide (s.reply.number=0))&&decide (s.reply.gross=0)))=true:=by simp only [Bool.not_eq_true',Bool.and_eq_false_iff,decide_eq_false_iff_not];omega
     simp only [a5,a6,a6',and_self,not_false_eq_true,if_true] at H ⊢
     exact H
   ·simp only [a5,false_and,if_false] at H ⊢
    exact H _ _ hn
  by_cases i0:i=0
  ·simp only [show ¬ (0:Int)<(i:Int) by omega,if_false]
   have:=fin (by have:=h1 i0;omega)
   simpa using this
  ·have hj:l[i - 1]?=some l[i - 1]:=List.getElem?_eq_getElem (by omega)
   have e0:=h2 _ (by omega) hj
   have w:wr .i64 ((i:Int) - 1)=((i - 1:Nat):Int):=by rw [eX (by omega) (by omega)];omega
   simp only [↓cw,↓reduceIte,Nat.reduceLT,show (0:Int)<(i:Int) by omega,if_true,w,tM hj,Sess.enc,kk,←e0]
   by_cases a4:s.id≤last
   ·simp only [a4,if_true] at H ⊢;exact H
   ·simp only [a4,if_false]
    simpa using fin a4
 ·rintro s vs S ⟨rfl,_⟩ aF H
  simp only [↓cw,↓reduceIte,Nat.reduceLT,kk,Int.lt_irrefl]
  exact H
theorem aZ6 (l:List Ser) (name:List UInt8) (hb:l.length<1000000) (S:St) (K:KW):C 117 [.imm (l.map Ser.enc),.str name] S K=K (.int .i64 (cE l name)) S:=by
 refine (bGe rfl ?_).eq S K
 delta Tryz.f117;simp only [↓cw,↓reduceIte,Nat.reduceLT,kk]
 refine aG l (step:=cN fun s:Ser=>s.name == name) (fin:=fun _=>-1) (fun i k vs S=>k=i∧vs=[.int .i64 0,.int .i64 (i:Int)]) (fun r=>r=cE l name) ?_ ?_ ⟨rfl,rfl⟩ rfl
 ·rintro i s k vs S hi ⟨rfl,rfl⟩ aF H
  have hil:=(List.getElem?_eq_some_iff.1 hi).1
  simp only [cN] at H
  simp only [↓cw,↓reduceIte,Nat.reduceLT,kk,bG hi,if_true,sK hi,Ser.enc,gJ (show k<1000000000 by omega)]
  cases c:s.name == name<;>simp only [↓cw,↓reduceIte,Nat.reduceLT,c,kk,if_true,if_false,Bool.false_eq_true,oo] at H ⊢
  ·exact H _ _ rfl
  ·rw [←H]
 ·rintro k vs S ⟨rfl,rfl⟩ aF H
  have H:(-1:Int)=_:=H
  simp only [↓cw,↓reduceIte,Nat.reduceLT,kk,Int.lt_irrefl,if_false,oo,←H]
theorem bs0 (n:Nat) (z:List V) (fr:Option Nat) (S:St):cW n z 0 [] fr S=(match bD fr S (.row 0 n []) with
  | .error e=>.error e
  | .ok (a,S')=>.ok (.sl a 0 n 0 0,S')):=by unfold cW;rw [if_pos (by omega)];rfl
theorem bF0 {α:Type} {enc:α→List V} {n:Nat} (hl:∀ x,(enc x).length=n∧aI (enc x)=true) {l:List α} {S:St} {a ver:Nat} (hg:S.heap.get a=some (.row ver n (l.map enc))) (ha:a<S.next):Own E0 S n (.sl a ver n 0 l.length) (l.map enc):=
 ⟨.inr ⟨a,ver,[],by rw [List.length_map],Nat.zero_le _,ha,by rw [List.append_nil];exact hg⟩,fun c hc=>by obtain ⟨x,_,rfl⟩:=List.mem_map.1 hc;exact hl x⟩
theorem aZ7 {α:Type} {enc:α→List V} {n b:Nat} (hl:∀ x,(enc x).length=n∧aI (enc x)=true) (l:List α) (x:α) {S:St} {a k ver:Nat} (hg:aC S a ver=.ok (n,l.map enc)) (hx:aC S k 0=.ok (n,[enc x])) (h1:(l.length+1)*b≤35184372088832) (h2:l.length+1<fL) (fr:Option Nat):
  eW n b (.sl a ver n 0 l.length) (.sl k 0 n 0 1) fr S=.ok (.sl a (ver+1) n 0 (l.length+1),⟨S.next,S.heap.put a (.row (ver+1) n ((l++[x]).map enc))⟩):=by
 have hu:aL S (.sl k 0 n 0 1)=.ok [enc x]:=by simp only [aL,hx];rfl
 have a1:jF n [enc x]=true∧[enc x].all aI=true:=cX (fun c hc=>by rcases List.mem_singleton.1 hc with rfl;exact hl x)
 simp only [eW,hu,a1,and_self,if_true,hg,List.length_map,Nat.zero_add,Nat.le_refl,List.length_cons,List.length_nil,h1,h2,List.drop_zero,List.map_append,List.map_cons,List.map_nil]
 rw [List.take_of_length_le (by rw [List.length_map];exact Nat.le_refl _)]
theorem bJ2 (l:List Bal) (hb:l.length<1000000) (S:St) (K:KW):C 199 [.imm (l.map Bal.enc)] S K=K (.bool (sJ l)) S:=by
 refine (bH9 rfl ?_).eq S K
 delta Tryz.f199;simp only [↓cw,↓reduceIte,Nat.reduceLT]
 refine aG (l.drop 1) (step:=qO) (fin:=fun _=>true) (fun i s vs S=>s=l[i]?∧vs=[.bool false,.int .i64 ((i+1:Nat):Int)]) (fun r=>r=sJ l) ?_ ?_ (s:=l[0]?) ⟨rfl,rfl⟩ rfl
 ·rintro i r s vs S hi ⟨rfl,rfl⟩ aF H
  rw [List.getElem?_drop,Nat.add_comm] at hi
  have hil:=(List.getElem?_eq_some_iff.1 hi).1
  have hj:l[i]?=some l[i]:=List.getElem?_eq_getElem (by omega)
  simp only [hj,qO,hi] at H
  simp only [↓cw,↓reduceIte,Nat.reduceLT,kk,bG hi,if_true,mA hi,mA hj,Bal.enc,wrm (show i+1<1000000000 by omega),gJ (show i+1<1000000000 by omega),gm]
  cases c:kU l[i].acc r.acc<;>simp only [↓cw,↓reduceIte,Nat.reduceLT,c,kk,Bool.not_false,Bool.not_true,if_true,if_false,Bool.false_eq_true,oo] at H ⊢
  ·rw [←H]
  ·exact H _ _ rfl
 ·rintro s vs S ⟨rfl,rfl⟩ aF H
  have H:true=sJ l:=H
  have hn:¬ (((l.drop 1).length+1:Nat):Int)<(l.length:Int):=by rw [List.length_drop];omega
  simp only [↓cw,↓reduceIte,Nat.reduceLT,kk,hn,if_false,oo,←H]
theorem aN2 {l:List Ser} {name:List UInt8} (h:¬ cE l name<0):∃ (i:Nat) (s:Ser),cE l name=(i:Int)∧l[i]?=some s:=by
 rcases lM (fun x:Ser=>x.name == name) l with e | ⟨i,a,e,hi,_⟩
 ·exact absurd (show cE l name<0 by unfold cE;rw [e];decide) h
 ·exact ⟨i,a,e,hi⟩
def eZ (w:Int×Int) (n:Int):Int×Int:=
 let lo:=wr .u64 (w.2+wr .u64 n)
 let hi:=if lo<w.2 then wr .i64 (w.1+1) else w.1
 (if n<0 then wr .i64 (hi - 1) else hi,lo)
theorem bF1 (hi lo n:Int) (S:St) (K:KW):C 258 [.agg [.int .i64 hi,.int .u64 lo],.int .i64 n] S K=K (.agg [.int .i64 (eZ (hi,lo) n).1,.int .u64 (eZ (hi,lo) n).2]) S:=by
 refine (bHs rfl ?_).eq S K
 delta Tryz.f258;simp only [↓cw,↓reduceIte,Nat.reduceLT,kk,kE,gm,eZ]
 by_cases c1:wr .u64 (lo+wr .u64 n)<lo<;>by_cases c2:n<0<;>simp only [↓cw,↓reduceIte,Nat.reduceLT,c1,c2,kk,if_true,if_false,oo]
theorem aBg {hi lo n:Int} (h0:0≤lo) (h1:lo<18446744073709551616) (hn:dY n) (b1:-1237940039285380274899124224≤hi*18446744073709551616+lo) (b2:hi*18446744073709551616+lo≤1237940039285380274899124224):
  (eZ (hi,lo) n).1*18446744073709551616+(eZ (hi,lo) n).2=hi*18446744073709551616+lo+n∧0≤(eZ (hi,lo) n).2∧(eZ (hi,lo) n).2<18446744073709551616:=by
 obtain ⟨n1,n2⟩:=hn
 obtain ⟨A,hA⟩:∃ A,A=wr .u64 n:=⟨_,rfl⟩
 have e1:A=n % 18446744073709551616:=by rw [hA,zK]
 obtain ⟨B,hB⟩:∃ B,B=wr .u64 (lo+A):=⟨_,rfl⟩
 have e2:B=(lo+A) % 18446744073709551616:=by rw [hB,zK]
 have w1:wr .i64 (hi+1)=hi+1:=mB ⟨by omega,by omega⟩
 have w2:wr .i64 (hi - 1)=hi - 1:=mB ⟨by omega,by omega⟩
 have w3:wr .i64 (hi+1 - 1)=hi:=by rw [mB ⟨by omega,by omega⟩];omega
 unfold eZ
 simp only [←hA,←hB,w1]
 refine ⟨?_,?_,?_⟩<;>repeat' split
 all_goals omega
theorem aN3 (l:List Int):∀ (hi lo:Int),(∀ n∈l,dY n)→0≤lo→lo<18446744073709551616→-1237940039285380274899124224+9223372036854775808*(l.length:Int)≤hi*18446744073709551616+lo→hi*18446744073709551616+lo≤1237940039285380274899124224 - 9223372036854775808*(l.length:Int)→
  (l.foldl eZ (hi,lo)).1*18446744073709551616+(l.foldl eZ (hi,lo)).2=hi*18446744073709551616+lo+l.sum∧0≤(l.foldl eZ (hi,lo)).2∧(l.foldl eZ (hi,lo)).2<18446744073709551616:=by
 induction l with
 | nil=>
  intro hi lo _ h0 h1 _ _
  exact ⟨(Int.add_zero _).symm,h0,h1⟩
 | cons n l ih=>
  intro hi lo hl h0 h1 b1 b2
  have hn:=hl n (List.mem_cons_self ..)
  have hlen:(((n::l).length:Nat):Int)=(l.length:Int)+1:=by rw [List.length_cons];omega
  rw [hlen] at b1 b2
  obtain ⟨s1,s2,s3⟩:=aBg (hi:=hi) h0 h1 hn (by omega) (by omega)
  obtain ⟨n1,n2⟩:=hn
  have hp:eZ (hi,lo) n=((eZ (hi,lo) n).1,(eZ (hi,lo) n).2):=rfl
  rw [List.foldl_cons,List.sum_cons,hp]
  generalize (eZ (hi,lo) n).1=p at *
  generalize (eZ (hi,lo) n).2=q at *
  obtain ⟨t1,t2⟩:=ih p q (fun x hx=>hl x (List.mem_cons_of_mem _ hx)) s2 s3 (by omega) (by omega)
  exact ⟨by rw [t1,s1,Int.add_assoc],t2⟩
def yP (l:List Int):Int×Bool:=(wr .i64 (l.foldl eZ (0,0)).2,decide ((l.foldl eZ (0,0))=eZ (0,0) (wr .i64 (l.foldl eZ (0,0)).2)))
theorem aZ8 (n:Int):wr .i64 n=(n+9223372036854775808) % 18446744073709551616 - 9223372036854775808:=by
 unfold wr lo hi
 simp only
 split
 ·omega
 ·rw [IntKind.wrap_i64]
theorem zM {l:List Int} (hl:∀ n∈l,dY n) (hb:l.length≤1000000):yP l=bO l:=by
 obtain ⟨s1,s2,s3⟩:=aN3 l 0 0 hl (Int.le_refl _) (by decide) (by omega) (by omega)
 obtain ⟨e1,e2⟩:=dN hl hb
 unfold yP
 generalize l.foldl eZ (0,0)=w at *
 obtain ⟨hi,lo⟩:=w
 simp only at s1 s2 s3 ⊢
 have hw:=rD lo
 obtain ⟨p1,p2,p3⟩:=aBg (hi:=0) (lo:=0) (Int.le_refl _) (by decide) hw (by decide) (by decide)
 have hwl:wr .i64 lo=wr .i64 l.sum:=by
  have e:=aZ8
  rw [e,e]
  omega
 refine Prod.ext (hwl.trans e1.symm) ?_
 rw [Bool.eq_iff_iff,decide_eq_true_eq,e2]
 constructor
 ·intro h
  have h':=h
  rw [←h'] at p1
  simp only at p1
  have:l.sum=wr .i64 lo:=by omega
  rw [this];exact hw
 ·intro h
  have hs:wr .i64 lo=l.sum:=by rw [hwl];exact mB h
  rw [hs] at p1 p2 p3 ⊢
  generalize eZ (0,0) l.sum=q at *
  obtain ⟨qh,ql⟩:=q
  simp only at p1 p2 p3
  have:hi=qh∧lo=ql:=by omega
  rw [this.1,this.2]
theorem aZ9 {l:List Int} {i:Nat} {a:Int} (hi:l[i]?=some a) (k:IntKind):fK 1 (.imm (l.map cM)) (.int k (i:Int))=.ok (.iptr (cM a) 0):=ixI (enc:=cM) hi rfl k
theorem bJ3 (l:List Int) (hb:l.length<1000000) (S:St) (K:KW):C 223 [.imm (l.map cM)] S K=K (.tup [.int .i64 (yP l).1,.bool (yP l).2]) S:=by
 refine (bHi rfl ?_).eq S K
 delta Tryz.f223;simp only [↓cw,↓reduceIte,Nat.reduceLT,kk]
 refine aG l (step:=fun w n=>(.inr (eZ w n):(Int×Int)⊕(Int×Int))) (fin:=id) (fun i w vs S=>vs=[.int .i64 (i:Int)]∧aC S 0 0=.ok (2,[[.int .i64 w.1,.int .u64 w.2]])) (fun w=>w=l.foldl eZ (0,0)) ?_ ?_ (s:=(0,0)) ⟨rfl,aA _ _ _ _ _ _⟩ ?_
 ·rintro i n ⟨hi',lo'⟩ vs S hi ⟨rfl,hg⟩ aF H
  have hil:=(List.getElem?_eq_some_iff.1 hi).1
  simp only [↓cw,↓reduceIte,Nat.reduceLT,kk,bG hi,if_true,gm,hg,aZ9 hi,cM,bF1,gJ (show i<1000000000 by omega)]
  exact H _ _ ⟨rfl,aA _ _ _ _ _ _⟩
 ·rintro ⟨hi',lo'⟩ vs S ⟨rfl,hg⟩ aF H
  have H:(hi',lo')=l.foldl eZ (0,0):=H
  simp only [↓cw,↓reduceIte,Nat.reduceLT,kk,Int.lt_irrefl,if_false,gm,hg,bF1,oo,yP,←H]
  have:∀ p:Int×Int,(decide (hi'=p.1)&&decide (lo'=p.2))=decide ((hi',lo')=p):=fun p=>by
   obtain ⟨a,b⟩:=p
   rw [Bool.eq_iff_iff];simp
  rw [this]
 ·have:∀ (l:List Int) (w:Int×Int),aD (fun w n=>(.inr (eZ w n):(Int×Int)⊕(Int×Int))) id l w=l.foldl eZ w:=by
   intro l
   induction l with
   | nil=>intro w;rfl
   | cons n l ih=>intro w;simp only [aD,List.foldl_cons];exact ih _
  exact this _ _
theorem bF2 {S:St} {v:V} {l:List Int} (o:Own E0 S 1 v (l.map cM)) (hb:l.length<1000000) (K:KW):C 223 [v] S K=K (.tup [.int .i64 (yP l).1,.bool (yP l).2]) S:=by
 have h:=o.out fun _=>rfl
 exact (Fn.back fun S K=>bJ3 l hb S K).frz bA9 rfl (by simp only [frzVs,h]) (by simp only [ptrsVs,o.ptrs];rfl) (.inl rfl) K
def dO (l:List Part):Int×Int×Bool:=((yP (l.map (·.net))).1,(yP (l.map (·.tax))).1,(yP (l.map (·.net))).2&&(yP (l.map (·.tax))).2)
theorem bF3 (l:List Part) (hl:l.length<100000) (S:St) (K:KW):C 161 [.imm (l.map Part.enc)] S K=K (.tup [.int .i64 (dO l).1,.int .i64 (dO l).2.1,.bool (dO l).2.2]) S:=by
 refine (bGu rfl ?_).eq S K
 delta Tryz.f161;simp only [↓cw,↓reduceIte,Nat.reduceLT,kk]
 refine aG l (step:=rR) (fin:=id) (fun i s vs S=>∃ u v,vs=[u,v,.int .i64 (i:Int)]∧Own E0 S 1 u (s.1.map cM)∧Own E0 S 1 v (s.2.map cM)∧s.1.length=i∧s.2.length=i∧WF S∧(∀ y,AM.blkOf u=some y→AM.blkOf v≠some y)) (fun r=>r=(l.map (·.net),l.map (·.tax))) ?_ ?_ (s:=([],[])) ⟨_,_,rfl,Own.nil _ _ _,Own.nil _ _ _,rfl,rfl,rC,fun y h=>(by cases h)⟩ (by rw [aYr];rfl)
 ·rintro i p ⟨ns,ts⟩ vs S hi ⟨u,v,rfl,ou,ov,lu,lv,w,huv⟩ aF H
  have hil:=(List.getElem?_eq_some_iff.1 hi).1
  have lu:ns.length=i:=lu
  have lv:ts.length=i:=lv
  simp only [rR] at H
  have bu:∀ y,AM.blkOf u=some y→y<S.next:=fun y hy=>(cS ou hy).2
  have bv:∀ y,AM.blkOf v=some y→y<S.next:=fun y hy=>(cS ov hy).2
  obtain ⟨u',S2,q1,w2,n2,ou2,bu2,keep2⟩:=aD9 (b:=8) ou w (k1:=S.next+6) (k2:=S.next+7) (m:=S.next+18) (fresh w (by omega)) (fresh w (by omega)) (by omega) (by omega) (by omega) (by omega) (aC6 p.net) (by simp;omega) (by simp [fL];omega)
  have k2:∀ y,y<S.next→AM.blkOf u≠some y→S2.heap.get y=S.heap.get y:=fun y hy h=>keep2 y (by omega) (by omega) h
  have ov2:Own E0 S2 1 v (ts.map cM):=ov.same (by omega) fun a ha=>k2 a (by have:=bv a ha;omega) fun h=>huv a h ha
  have fr8:∀ k,8≤k→S2.heap.get (S.next+k)=none:=fun k hk=>by
   rw [keep2 (S.next+k) (by omega) (by omega) fun h=>by have:=bu _ h;omega];exact fresh w (by omega)
  obtain ⟨v',S3,q2,w3,n3,ov3,bv3,keep3⟩:=aD9 (b:=8) ov2 w2 (k1:=S.next+14) (k2:=S.next+15) (m:=S2.next) (fr8 14 (by omega)) (fr8 15 (by omega)) (by omega) (by omega) (by omega) (Nat.le_refl _) (aC6 p.tax) (by simp;omega) (by simp [fL];omega)
  have hu2:∀ y,AM.blkOf u'=some y→y=S.next+7∨AM.blkOf u=some y:=fun y hy=>by
   rcases bu2 with h | h
   ·rw [h] at hy;cases hy;exact .inl rfl
   ·rw [h] at hy;exact .inr hy
  have hv3:∀ y,AM.blkOf v'=some y→y=S.next+15∨AM.blkOf v=some y:=fun y hy=>by
   rcases bv3 with h | h
   ·rw [h] at hy;cases hy;exact .inl rfl
   ·rw [h] at hy;exact .inr hy
  have hb8:∀ a,AM.blkOf u'=some a→a≠S.next+14∧a≠S.next+15:=fun a ha=>by
   rcases hu2 a ha with h | h
   ·omega
   ·have:=bu a h;omega
  have ou3:Own E0 S3 1 u' ((ns++[p.net]).map cM):=by
   rw [List.map_append]
   exact ou2.same (by omega) fun a ha=>keep3 a (hb8 a ha).1 (hb8 a ha).2 fun hv=>by
    rcases hu2 a ha with h | h
    ·have:=bv a hv;omega
    ·exact huv a h hv
  simp only [cM] at q1 q2
  simp only [↓cw,↓reduceIte,Nat.reduceLT,kk,bG hi,if_true,iD hi,Part.enc,gJ (show i<1000000000 by omega),gm,aZ0,q1,q2]
  exact H _ _ ⟨u',v',rfl,ou3,by rw [List.map_append];exact ov3,by simp;omega,by simp;omega,w3,fun y hy hy'=>by
   rcases hu2 y hy with h | h<;>rcases hv3 y hy' with h' | h'
   ·omega
   ·have:=bv y h';omega
   ·have:=bu y h;omega
   ·exact huv y h h'⟩
 ·rintro ⟨ns,ts⟩ vs S ⟨u,v,rfl,ou,ov,lu,lv,w,huv⟩ aF H
  have H:(ns,ts)=(l.map (·.net),l.map (·.tax)):=H
  obtain ⟨rfl,rfl⟩:=Prod.mk.inj H
  have c1:=fun K=>bF2 ou (by rw [List.length_map];omega) K
  have c2:=fun K=>bF2 ov (by rw [List.length_map];omega) K
  simp only [↓cw,↓reduceIte,Nat.reduceLT,kk,Int.lt_irrefl,if_false,c1,c2,dO]
  cases (yP (l.map (·.net))).2<;>simp only [↓cw,↓reduceIte,Nat.reduceLT,kk,if_true,if_false,Bool.false_eq_true,oo,Bool.true_and,Bool.false_and]
theorem aRq {t:Total} (hi:∀ p∈t.parts,dY p.net∧dY p.tax) (hl:t.parts.length≤1000000):
  (if (dO t.parts).2.2=true then (if (iX (dO t.parts).1 (dO t.parts).2.1).2=0 then (if (dO t.parts).1=t.net then (if (dO t.parts).2.1=t.tax then decide ((iX (dO t.parts).1 (dO t.parts).2.1).1=t.gross) else false) else false) else false) else false)=gQ t:=by
 have h1:∀ n∈t.parts.map (·.net),dY n:=fun n h=>by obtain ⟨p,hp,rfl⟩:=List.mem_map.1 h;exact (hi p hp).1
 have h2:∀ n∈t.parts.map (·.tax),dY n:=fun n h=>by obtain ⟨p,hp,rfl⟩:=List.mem_map.1 h;exact (hi p hp).2
 unfold dO gQ
 simp only
 rw [zM h1 (by rw [List.length_map];exact hl),zM h2 (by rw [List.length_map];exact hl)]
 by_cases c1:(bO (t.parts.map (·.net))).2=true
 ·by_cases c2:(bO (t.parts.map (·.tax))).2=true
  ·simp only [c1,c2,Bool.and_self,if_true]
   have i1:dY (bO (t.parts.map (·.net))).1:=by rw [(dN h1 (by rw [List.length_map];exact hl)).1];exact rD _
   have i2:dY (bO (t.parts.map (·.tax))).1:=by rw [(dN h2 (by rw [List.length_map];exact hl)).1];exact rD _
   by_cases c3:(bO (t.parts.map (·.net))).1=t.net
   ·by_cases c4:(bO (t.parts.map (·.tax))).1=t.tax
    ·rw [c3] at i1
     rw [c4] at i2
     simp only [c3,c4,if_true]
     rw [aDc i1 i2]
     have hx:=dN (l:=[t.net,t.tax]) (fun n hn=>by simp at hn;rcases hn with rfl | rfl<;>assumption) (by simp)
     have hs:[t.net,t.tax].sum=t.net+t.tax:=by simp
     rw [hs] at hx
     by_cases c5:dY (t.net+t.tax)
     ·rw [if_pos c5,if_pos (hx.2.2 c5),hx.1,mB c5];rfl
     ·rw [if_neg c5,if_neg (fun h=>c5 (hx.2.1 h))];rfl
    ·simp only [c3,c4,if_true,if_false];split<;>split<;>rfl
   ·simp only [c3,if_false];split<;>split<;>rfl
  ·simp only [c1,c2,Bool.and_false,if_true,if_false,Bool.false_eq_true,Bool.true_and]
 ·simp only [c1,Bool.false_and,if_false,Bool.false_eq_true]
theorem aN4 {n:Int} (h:dY n):aB0 n=if n<0 then -n else n:=by
 obtain ⟨h1,h2⟩:=h
 unfold aB0
 split
 ·rw [mB (n:=n+1) ⟨by omega,by omega⟩,mB (n:=0 - (n+1)) ⟨by omega,by omega⟩,dM (n:=0 - (n+1)) (by omega) (by omega),dM (by omega) (by omega)]
  omega
 ·exact dM (by omega) (by omega)
theorem aLc {n bp:Int} (h:dY n):aR7 n bp=cH n bp:=by
 by_cases c0:bp<0∨100000<bp
 ·unfold aR7 cH
  rw [if_pos c0,if_pos c0]
 have h1:0≤bp:=by omega
 have h2:bp≤100000:=by omega
 rw [xB h h1 h2]
 unfold aR7
 rw [if_neg c0]
 simp only [aN4 h]
 have hp:wr .u64 bp=bp:=dM h1 (by omega)
 rw [hp]
 obtain ⟨n1,n2⟩:=h
 obtain ⟨u,hu⟩:∃ u,u=(if n<0 then -n else n):=⟨_,rfl⟩
 rw [←hu]
 have hu0:0≤u∧u≤9223372036854775808:=by subst hu;split<;>omega
 have hq:u.tdiv 10000=u / 10000:=Int.tdiv_eq_ediv_of_nonneg hu0.1
 have hr:u.tmod 10000=u % 10000:=Int.tmod_eq_emod_of_nonneg hu0.1
 have hmax:(9223372036854775807:Int).tdiv bp=9223372036854775807 / bp:=Int.tdiv_eq_ediv_of_nonneg (by decide)
 rw [hq,hr,hmax,dM (n:=u / 10000) (by omega) (by omega)]
 have hdiv:0<bp→0≤9223372036854775807 / bp∧9223372036854775807 / bp<18446744073709551616:=by
  intro hb
  constructor
  ·exact Int.ediv_nonneg (by decide) (by omega)
  ·have:=Int.ediv_le_self bp (a:=9223372036854775807) (by decide);omega
 unfold tP
 by_cases c:0<bp∧9223372036854775807 / bp<u / 10000
 ·rw [if_pos c,if_pos ⟨c.1,by rw [dM (hdiv c.1).1 (hdiv c.1).2];exact c.2⟩]
 ·rw [if_neg c,if_neg (fun q=>c ⟨q.1,by have:=q.2;rwa [dM (hdiv q.1).1 (hdiv q.1).2] at this⟩)]
  have hm1:0≤u / 10000*bp:=Int.mul_nonneg (by omega) h1
  have hm2:u / 10000*bp≤9223372036854775807:=by
   by_cases hb:0<bp
   ·have hle:u / 10000≤9223372036854775807 / bp:=by
     by_cases q:u / 10000≤9223372036854775807 / bp
     ·exact q
     ·exact absurd ⟨hb,by omega⟩ c
    calc u / 10000*bp≤9223372036854775807 / bp*bp:=Int.mul_le_mul_of_nonneg_right hle h1
     _≤9223372036854775807:=Int.ediv_mul_le _ (by omega)
   ·have:bp=0:=by omega
    subst this;simp
  have hr1:0≤u % 10000*bp:=Int.mul_nonneg (by omega) h1
  have hr2:u % 10000*bp≤10000*100000:=Int.mul_le_mul (by omega) h2 h1 (by decide)
  rw [dM hm1 (by omega),dM hr1 (by omega),dM (n:=u % 10000*bp+5000) (by omega) (by omega)]
  have ht:(u % 10000*bp+5000).tdiv 10000=(2*(u % 10000)*bp+10000) / 20000:=by
   rw [Int.tdiv_eq_ediv_of_nonneg (by omega),Int.mul_assoc];omega
  have hr3:2*(u % 10000)*bp=2*(u % 10000*bp):=Int.mul_assoc ..
  rw [ht,dM (n:=(2*(u % 10000)*bp+10000) / 20000) (by omega) (by omega),dM (n:=u / 10000*bp+(2*(u % 10000)*bp+10000) / 20000) (by omega) (by omega)]
  obtain ⟨t,htt⟩:∃ t,t=u / 10000*bp+(2*(u % 10000)*bp+10000) / 20000:=⟨_,rfl⟩
  have ht0:0≤t:=by omega
  rw [←htt]
  split
  ·rfl
  ·rename_i hle
   rw [eX (n:=t) (by omega) (by omega)]
   split
   ·rw [eX (by omega) (by omega)];simp
   ·rfl
theorem aTu {u:Int} (h1:0≤u) (h2:u<18446744073709551616):aGm u=18446744073709551615 - u:=by
 unfold aGm
 simp only [IntKind.signed,Bool.false_eq_true,if_false]
 have hm:(IntKind.u64.max:Int)=18446744073709551615:=by decide
 rw [hm]
 have hb:IntKind.u64.bits=64:=rfl
 rw [hb]
 have:(BitVec.ofInt 64 18446744073709551615 ^^^ BitVec.ofInt 64 u) = ~~~(BitVec.ofInt 64 u):=by
  rw [show (BitVec.ofInt 64 18446744073709551615)=BitVec.allOnes 64 from by decide,BitVec.allOnes_xor]
 rw [this,BitVec.toNat_not]
 have hv:(BitVec.ofInt 64 u).toNat=u.toNat:=by
  rw [BitVec.toNat_ofInt]
  omega
 rw [hv,dM (by omega) (by omega)]
 omega
theorem bJ4 (t:Total) (hint:∀ p∈t.parts,dY p.net∧dY p.tax) (S:St) (K:KW):C 119 [.agg [.int .i64 t.net,.int .i64 t.tax,.int .i64 t.gross,.imm (t.parts.map Part.enc)]] S K=K (.bool (cF t)) S:=by
 refine (bHv rfl ?_).eq S K
 simp only [aT7,kk,cF]
 by_cases c1:t.parts.length<1
 ·simp only [c1,show (t.parts.length:Int)=0 by omega,kk,oo,if_true]
 by_cases c2:12<t.parts.length
 ·simp only [c1,c2,show ¬ (t.parts.length:Int)=0 by omega,show (12:Int)<(t.parts.length:Int) by omega,kk,oo,if_true,if_false]
 simp only [c1,c2,show ¬ (t.parts.length:Int)=0 by omega,show ¬ (12:Int)<(t.parts.length:Int) by omega,kk,if_false]
 have hsum:=aRq hint (by omega)
 refine aG t.parts (step:=cI) (fin:=fun _=>gQ t) (fun i s vs S=>vs=[.bool false,.int .i64 (i:Int)]∧s=cA t.parts i∧aC S 0 0=.ok (4,[[.int .i64 t.net,.int .i64 t.tax,.int .i64 t.gross,.imm (t.parts.map Part.enc)]])∧0<S.next) (fun r=>r=aD cI (fun _=>gQ t) t.parts none) ?_ ?_ (s:=none) ⟨rfl,rfl,aA _ _ _ _ _ _,Nat.zero_lt_one⟩ rfl
 ·rintro i p s vs S hi ⟨rfl,rfl,r0,h0⟩ aF H
  have hil:=(List.getElem?_eq_some_iff.1 hi).1
  have hn:cA t.parts (i+1)=some p:=by simpa [cA] using hi
  obtain ⟨S',hS'⟩:∃ S':St,S'=⟨S.next+1+30,(S.heap.put S.next (.row 0 4 [[.str [],.int .i64 0,.int .i64 0,.int .i64 0]])).put S.next (.row 0 4 [[.str p.cat,.int .i64 p.bp,.int .i64 p.net,.int .i64 p.tax]])⟩:=⟨_,rfl⟩
  have r2:aC S' 0 0=.ok (4,[[.int .i64 t.net,.int .i64 t.tax,.int .i64 t.gross,.imm (t.parts.map Part.enc)]]):=by rw [hS'];exact bX (n:=S.next) (by omega) (bX (n:=S.next) (by omega) r0)
  have r3:aC S' S.next 0=.ok (4,[[.str p.cat,.int .i64 p.bp,.int .i64 p.net,.int .i64 p.tax]]):=by rw [hS'];exact aA _ _ _ _ _ _
  have h2:0<S'.next:=by rw [hS'];exact Nat.succ_pos _
  have w1:wr .i64 ((i:Int)+1)=((i+1:Nat):Int):=gJ (by omega)
  have ht3:=aLc (bp:=p.bp) (hint p (List.mem_of_getElem? hi)).1
  have hst:cI (cA t.parts i) p=if gP p.cat=false then .inl false else if p.bp<0 then .inl false else if 100000<p.bp then .inl false else if fU (cA t.parts i) p=true then .inl false else if (cH p.net p.bp).2=0 then (if (cH p.net p.bp).1=p.tax then .inr (some p) else .inl false) else .inl false:=by
   unfold cI rT rU
   simp only [Bool.or_eq_true,decide_eq_true_eq]
   grind
  rw [hst] at H
  have hj0:∀ X:St,X=S'→(if (cH p.net p.bp).2=0 then (if (cH p.net p.bp).1=p.tax then aF [.bool false,.int .i64 ((i+1:Nat):Int)] S' else aD cI (fun _=>gQ t) t.parts none=false) else aD cI (fun _=>gQ t) t.parts none=false)→zD C (fun v0 S0=>fW S0 v0=Except.ok (V.bool (aD cI (fun _=>gQ t) t.parts none))) aF (.ptr 0 0 0 0) (.bool false) (.int .i64 (i:Int)) (.ptr S.next 0 0 0) X:=by
   rintro X rfl hyp
   simp only [zD,kk,r3,bE8,ht3,eQ,w1]
   by_cases d1:(cH p.net p.bp).2=0
   ·by_cases d2:(cH p.net p.bp).1=p.tax
    ·simp only [d1,d2,if_true,not_true_eq_false,if_false] at hyp ⊢;exact hyp
    ·simp only [d1,d2,if_true,if_false,not_true_eq_false,not_false_eq_true,oo] at hyp ⊢
     rw [hyp]
   ·simp only [d1,if_false,not_false_eq_true,if_true,oo] at hyp ⊢
    rw [hyp]
  simp only [aEr,kk,r0,bG hi,if_true,iD hi,Part.enc,←hS',r3,aYz]
  cases hna:gP p.cat
  ·simp only [hna,kk,if_true,Bool.not_false,oo] at H ⊢
   rw [←H]
  simp only [hna,kk,Bool.true_eq_false,Bool.not_true,Bool.false_eq_true,if_false,r3] at H ⊢
  by_cases e1:p.bp<0
  ·simp only [e1,if_true,oo] at H ⊢
   rw [←H]
  by_cases e2:100000<p.bp
  ·simp only [e1,e2,if_true,if_false,oo] at H ⊢
   rw [←H]
  simp only [e1,e2,if_false] at H ⊢
  have hlast:fU (cA t.parts i) p=false→(if (cH p.net p.bp).2=0 then (if (cH p.net p.bp).1=p.tax then aF [.bool false,.int .i64 ((i+1:Nat):Int)] S' else aD cI (fun _=>gQ t) t.parts none=false) else aD cI (fun _=>gQ t) t.parts none=false):=by
   intro e3
   simp only [e3,Bool.false_eq_true,if_false] at H
   by_cases d1:(cH p.net p.bp).2=0
   ·by_cases d2:(cH p.net p.bp).1=p.tax
    ·simp only [d1,d2,if_true] at H ⊢
     exact H _ _ ⟨rfl,by rw [hn],r2,h2⟩
    ·simp only [d1,d2,if_true,if_false] at H ⊢;exact H.symm
   ·simp only [d1,if_false] at H ⊢;exact H.symm
  by_cases i0:i=0
  ·have e3:fU (cA t.parts i) p=false:=by rw [i0];rfl
   simp only [show ¬ (0:Int)<(i:Int) by omega,if_false]
   exact hj0 S' rfl (hlast e3)
  ·have hj:t.parts[i - 1]?=some t.parts[i - 1]:=List.getElem?_eq_getElem (by omega)
   have hp:cA t.parts i=some t.parts[i - 1]:=by unfold cA;rw [if_neg i0];exact hj
   have w2:wr .i64 ((i:Int) - 1)=((i - 1:Nat):Int):=by rw [eX (by omega) (by omega)];omega
   have e4:fU (cA t.parts i) p=!kU t.parts[i - 1].cat p.cat:=by rw [hp];rfl
   simp only [show (0:Int)<(i:Int) by omega,if_true,r2,w2,iD hj,Part.enc,kk,r3]
   cases d:kU t.parts[i - 1].cat p.cat
   ·rw [d] at e4
    simp only [e4,Bool.not_false,if_true,oo] at H ⊢
    rw [←H]
   ·rw [d] at e4
    simp only [Bool.not_true,Bool.false_eq_true,if_false]
    exact hj0 S' rfl (hlast e4)
 ·rintro s vs S ⟨rfl,rfl,r0,h0⟩ aF H
  have H:gQ t=aD cI (fun _=>gQ t) t.parts none:=H
  rw [←H,←hsum]
  simp only [aEr,kk,r0,Int.lt_irrefl,if_false,bF3 t.parts (by omega),aYt,eQ]
  cases d1:(dO t.parts).2.2
  ·simp only [kk,Bool.false_eq_true,if_false,oo]
  simp only [kk,if_true]
  by_cases d2:(iX (dO t.parts).1 (dO t.parts).2.1).2=0
  ·simp only [d2,kk,if_true]
   by_cases d3:(dO t.parts).1=t.net
   ·by_cases d4:(dO t.parts).2.1=t.tax
    ·simp only [d3,d4,kk,if_true,oo]
    ·simp only [d3,d4,kk,if_true,if_false,oo]
   ·simp only [d3,kk,if_false,oo]
  ·simp only [d2,kk,if_false,oo]
end Go.Proofs.YtoaibmbldmckaaaGreat
end
section
namespace Go.AM
theorem aH6 {n a ver i len:Nat} (h:i<len):fK n (.sl a ver n 0 len) (.int .i64 (i:Int))=.ok (.ptr a ver i 0):=by
 simp only [fK,fF h,if_true,Nat.zero_add]
theorem aRr {X:St} {a ver n i:Nat} {es:List (List V)} {cs:List V} (hg:X.heap.get a=some (.row ver n es)) (hi:es[i]?=some cs) (k:Option Nat) (j:Nat):fN k (.ptr a ver i j) X=gO k cs j:=by
 simp only [ldP,aE hg,hi]
theorem aY1 {X:St} {a ver n i j:Nat} {es:List (List V)} {cs:List V} {v:V} (hg:X.heap.get a=some (.row ver n es)) (hi:es[i]?=some cs) (hv:v.cells=[v]) (ho:v.one=true) (hj:j+1≤cs.length):
  dT 1 (.ptr a ver i j) v X=.ok ⟨X.next,X.heap.put a (.row ver n (es.set i (splice cs j [v])))⟩:=by
 simp only [stP,aE hg,hi,hv]
 rw [if_pos ⟨rfl,by simp [aI,ho],hj⟩]
theorem aBh {X:St} {a ver n i:Nat} {es:List (List V)} (hg:X.heap.get a=some (.row ver n es)) (hi:i≤es.length):aL X (.sl a ver n 0 i)=.ok (es.take i):=by
 have hb:Nat.ble (0+i) es.length=true:=Nat.ble_eq_true_of_le (by omega)
 simp only [aL,aE hg,hb,cond_true,List.drop_zero]
theorem aZa {X:St} {a ver n i:Nat} {es:List (List V)} (hg:X.heap.get a=some (.row ver n es)) (hi:i≤es.length):aL X (.sl a ver n i (es.length - i))=.ok (es.drop i):=by
 have hb:Nat.ble (i+(es.length - i)) es.length=true:=Nat.ble_eq_true_of_le (by omega)
 simp only [aL,aE hg,hb,cond_true]
 rw [List.take_of_length_le (by rw [List.length_drop];omega)]
end Go.AM
namespace Go.Proofs.YtoaibmbldmckaaaGreat
open Go.AM Tryz
set_option linter.unusedVariables false
set_option linter.unusedSimpArgs false
set_option maxRecDepth 100000
theorem aN5 {α:Type} {enc:α→List V} {n b:Nat} (hl:∀ x,(enc x).length=n∧aI (enc x)=true) (l:List α) {S:St} {a:Nat} {u:V} (hu:aL S u=.ok (l.map enc)) (hg:aC S a 0=.ok (n,[])) (h1:l.length*b≤35184372088832) (h2:l.length<fL) (fr:Option Nat):
  eW n b (.sl a 0 n 0 0) u fr S=.ok (.sl a 1 n 0 l.length,⟨S.next,S.heap.put a (.row 1 n (l.map enc))⟩):=by
 have hc:∀ cs,cs∈l.map enc→cs.length=n∧aI cs=true:=fun cs hc=>by obtain ⟨x,_,rfl⟩:=List.mem_map.1 hc;exact hl x
 obtain ⟨a1,a2⟩:=cX hc
 simp only [eW,hu,a1,a2,and_self,if_true,hg,List.length_map,Nat.zero_add,List.length_nil,Nat.le_refl,h1,h2,List.drop_nil,List.take_nil,List.nil_append]
theorem aTv {α:Type} {enc:α→List V} {n b:Nat} (hl:∀ x,(enc x).length=n∧aI (enc x)=true) (l r:List α) {S:St} {a:Nat} {ver:Nat} {u:V} (hu:aL S u=.ok (r.map enc)) (hg:aC S a ver=.ok (n,l.map enc)) (h1:(l.length+r.length)*b≤35184372088832) (h2:l.length+r.length<fL) (fr:Option Nat):
  eW n b (.sl a ver n 0 l.length) u fr S=.ok (.sl a (ver+1) n 0 (l.length+r.length),⟨S.next,S.heap.put a (.row (ver+1) n ((l++r).map enc))⟩):=by
 have hc:∀ cs,cs∈r.map enc→cs.length=n∧aI cs=true:=fun cs hc=>by obtain ⟨x,_,rfl⟩:=List.mem_map.1 hc;exact hl x
 obtain ⟨a1,a2⟩:=cX hc
 simp only [eW,hu,a1,a2,and_self,if_true,hg,List.length_map,Nat.zero_add,Nat.le_refl,h1,h2,List.drop_zero,List.map_append]
 rw [List.take_of_length_le (by rw [List.length_map];exact Nat.le_refl _)]
theorem bF4 {α:Type} {enc:α→List V} {n b:Nat} (hl:∀ x,(enc x).length=n∧aI (enc x)=true) (l:List α) (x:α) {i:Nat} (hi:i≤l.length) {S:St} {k1 k2 m s vs:Nat} (hne:k1≠k2) (hs1:s≠k1) (hs2:s≠k2) (hsrc:S.heap.get s=some (.row vs n (l.map enc))) (hk1:k1<S.next) (hm:S.next≤m) (hg:aC S k1 0=.ok (n,[])) (w:WF S) (hk2:k2<m) (h1:(l.length+1)*b≤35184372088832) (h2:l.length+1<fL) (f1 f2 f3:Option Nat):
  ∃ S1 S2 S3:St,eW n b (.sl k1 0 n 0 0) (.sl s vs n 0 i) f1 S=.ok (.sl k1 1 n 0 i,S1)∧S1.next=S.next∧eW n b (.sl k1 1 n 0 i) (.sl k2 0 n 0 1) f2 ⟨m,S1.heap.put k2 (.row 0 n [enc x])⟩=.ok (.sl k1 2 n 0 (i+1),S2) ∧
   eW n b (.sl k1 2 n 0 (i+1)) (.sl s vs n i (l.length - i)) f3 S2=.ok (.sl k1 3 n 0 (l.length+1),S3)∧S3.next=m∧WF S3∧S3.heap.get k1=some (.row 3 n ((pF l i x).map enc))∧(∀ y,y≠k1→S1.heap.get y=S.heap.get y)∧∀ y,y≠k1→y≠k2→S3.heap.get y=S.heap.get y:=by
 have lt:(l.take i).length=i:=by rw [List.length_take];omega
 have ld:(l.drop i).length=l.length - i:=List.length_drop
 have lm:(l.map enc).length=l.length:=List.length_map _
 have hb:∀ j,j≤l.length+1→j*b≤35184372088832:=fun j hj=>Nat.le_trans (Nat.mul_le_mul_right b hj) h1
 have u1:aL S (.sl s vs n 0 i)=.ok ((l.take i).map enc):=by rw [aBh hsrc (by omega),List.map_take]
 have q1:=aN5 (b:=b) hl (l.take i) u1 hg (hb _ (by omega)) (by omega) f1
 rw [lt] at q1
 have g2:aC ⟨m,(S.heap.put k1 (.row 1 n ((l.take i).map enc))).put k2 (.row 0 n [enc x])⟩ k1 1=.ok (n,(l.take i).map enc):=dW (S:=⟨S.next,S.heap.put k1 (.row 1 n ((l.take i).map enc))⟩) (aA _ _ _ _ _ _) (Tr.get_put_neB _ _ _ _ trivial hne)
 have g3:aC ⟨m,(S.heap.put k1 (.row 1 n ((l.take i).map enc))).put k2 (.row 0 n [enc x])⟩ k2 0=.ok (n,[enc x]):=aA _ _ _ _ _ _
 have q2:=aZ7 (b:=b) hl (l.take i) x g2 g3 (hb _ (by omega)) (by omega) f2
 rw [lt] at q2
 obtain ⟨Z,hZ⟩:∃ Z:St,Z=⟨m,((S.heap.put k1 (.row 1 n ((l.take i).map enc))).put k2 (.row 0 n [enc x])).put k1 (.row 2 n ((l.take i++[x]).map enc))⟩:=⟨_,rfl⟩
 have g4:aC Z k1 2=.ok (n,(l.take i++[x]).map enc):=by rw [hZ];exact aA _ _ _ _ _ _
 have gs:Z.heap.get s=some (.row vs n (l.map enc)):=by
  rw [hZ]
  show (((S.heap.put k1 _).put k2 _).put k1 _).get s=_
  rw [Tr.get_put_neB _ _ _ _ trivial hs1,Tr.get_put_neB _ _ _ _ trivial hs2,Tr.get_put_neB _ _ _ _ trivial hs1];exact hsrc
 have u3:aL Z (.sl s vs n i (l.length - i))=.ok ((l.drop i).map enc):=by
  have:=aZa gs (i:=i) (by omega)
  rw [lm] at this
  rw [this,List.map_drop]
 have l1:(l.take i++[x]).length=i+1:=by rw [List.length_append,lt];rfl
 have q3:=aTv (b:=b) hl (l.take i++[x]) (l.drop i) u3 g4 (hb _ (by omega)) (by omega) f3
 rw [l1,ld] at q3
 have e:i+1+(l.length - i)=l.length+1:=by omega
 rw [e] at q3
 have ei:l.take i++[x]++l.drop i=pF l i x:=by simp [pF]
 rw [ei] at q3
 have zn:Z.next=m:=by rw [hZ]
 have wZ:WF Z:=by rw [hZ];exact kR (n:=m) (kR (n:=S.next) (kR (n:=S.next) w hk1 (Nat.le_refl _)) hk2 hm) (show k1<m by omega) (Nat.le_refl _)
 refine ⟨_,Z,_,q1,rfl,by rw [hZ];exact q2,q3,zn,kR (n:=Z.next) wZ (by omega) (Nat.le_refl _),Tr.get_put_sameB _ _ _ trivial,fun y hy=>Tr.get_put_neB _ _ _ _ trivial hy,fun y hy hy2=>?_⟩
 show (Z.heap.put k1 _).get y=_
 rw [Tr.get_put_neB _ _ _ _ trivial hy,hZ]
 show (((S.heap.put k1 _).put k2 _).put k1 _).get y=_
 rw [Tr.get_put_neB _ _ _ _ trivial hy,Tr.get_put_neB _ _ _ _ trivial hy2,Tr.get_put_neB _ _ _ _ trivial hy]
end Go.Proofs.YtoaibmbldmckaaaGreat
end
section
namespace Go.Proofs.YtoaibmbldmckaaaGreat
open Go.AM Tryz
def eN (c:UInt8):List V:=[.int .u8 (c.toNat:Int)]
theorem u81 (c:UInt8):(eN c).length=1∧aI (eN c)=true:=⟨rfl,rfl⟩
theorem wr8 (u:Nat):wr .u8 (u:Int)=((u % 256:Nat):Int):=by
 simp only [wr,lo,hi,IntKind.wrap,IntKind.min,IntKind.max,IntKind.bits,IntKind.signed,Bool.false_and,Bool.false_eq_true,if_false]
 by_cases h:(u:Int)≤255
 ·rw [if_pos ⟨by omega,h⟩];omega
 ·rw [if_neg (fun q=>h q.2)];omega
theorem aTw (t:Nat) (a b:Int):bW prog .and t (.int .u64 a) (.int .u64 b)=.ok (.int .u64 (wr .u64 ((BitVec.toNat (BitVec.ofInt IntKind.u64.bits a &&& BitVec.ofInt IntKind.u64.bits b):Nat):Int))):=rfl
theorem aDq {u:Nat} (h:u<2 ^ 64):wr .u64 (u:Int)=(u:Int):=by
 unfold wr
 rw [if_pos ⟨by show (0:Int)≤_;omega,by show _≤(18446744073709551615:Int);omega⟩]
theorem bF5 (t:Total) (hf:nN t):FnK prog mE 121 [.agg [.int .i64 t.net,.int .i64 t.tax,.int .i64 t.gross,.imm (t.parts.map Part.enc)]] (.tup [.imm ((cG t).1.map Bal.enc),.int .i64 (cG t).2]):=by
 refine bGh ?_
 delta Tryz.f121;simp only [↓cw,↓reduceIte,Nat.reduceLT,kk,aTl,kE,gm]
 have hpl:=hf.1
 refine aG t.parts (step:=oR) (fin:=fun l=>(l,0)) (fun i s vs S=>∃ v,vs=[.nils,.int .i64 0,v,.int .i64 (i:Int)]∧Own E0 S 2 v (s.map Bal.enc)∧WF S∧s.length=1+2*i∧aC S 0 0=.ok (4,[t.enc])∧AM.blkOf v≠some 0∧2≤S.next) (fun r=>r=cG t) ?_ ?_ (s:=[⟨[111,119,101,100],t.gross⟩]) ⟨_,rfl,⟨.inr ⟨1,0,[],rfl,Nat.zero_le _,Nat.lt_succ_self 1,rfl⟩,?_⟩,kR (kR (m:=1) rC (by decide) (by decide)) (by decide) (by decide),rfl,rfl,fun h=>(by cases h),Nat.le_refl _⟩ rfl
 ·rintro i p s vs S hi ⟨v,rfl,own,w,hsl,r0,hv0,hn⟩ aF H
  have hil:=(List.getElem?_eq_some_iff.1 hi).1
  have hcat:=hf.2 p (List.mem_of_getElem? hi)
  simp only [↓cw,↓reduceIte,Nat.reduceLT,oR,kk] at H
  have e1:tK.length+p.cat.length<2000000:=by simp only [tK,List.length_cons,List.length_nil];omega
  have e2:tL.length+p.cat.length<2000000:=by simp only [tL,List.length_cons,List.length_nil];omega
  have c1:=zJ (P:=prog) (t:=9) e1
  have c2:=zJ (P:=prog) (t:=9) e2
  simp only [tK,tL] at c1 c2
  simp only [Total.enc] at r0
  simp only [↓cw,↓reduceIte,Nat.reduceLT,kk,r0,bG hi,if_true,iD hi,Part.enc,gJ (show i<1000000000 by omega),aYv,eQ,gm,c1,c2,aXq]
  by_cases h1:(bZ 0 p.net).2=0
  ·by_cases h2:(bZ 0 p.tax).2=0
   ·simp only [↓cw,↓reduceIte,Nat.reduceLT,h1,h2,kk,not_true_eq_false,if_false] at H ⊢
    have f1:S.heap.get (S.next+19)=none:=fresh w (by omega)
    have f2:S.heap.get (S.next+20)=none:=fresh w (by omega)
    have w1:WF ⟨S.next+22,S.heap.put (S.next+19) (.row 0 2 [Bal.enc ⟨tK++p.cat,(bZ 0 p.net).1⟩,Bal.enc ⟨tL++p.cat,(bZ 0 p.tax).1⟩])⟩:=kR (n:=S.next) w (by omega) (by omega)
    have o1:Own E0 ⟨S.next+22,S.heap.put (S.next+19) (.row 0 2 [Bal.enc ⟨tK++p.cat,(bZ 0 p.net).1⟩,Bal.enc ⟨tL++p.cat,(bZ 0 p.tax).1⟩])⟩ 2 v (s.map Bal.enc):=own.same (by show S.next≤S.next+22;omega) fun a ha=>Tr.get_put_neB _ _ _ _ trivial (by have:=(cS own ha).2;omega)
    have hu:aL ⟨S.next+22,S.heap.put (S.next+19) (.row 0 2 [Bal.enc ⟨tK++p.cat,(bZ 0 p.net).1⟩,Bal.enc ⟨tL++p.cat,(bZ 0 p.tax).1⟩])⟩ (.sl (S.next+19) 0 2 0 2)=.ok [Bal.enc ⟨tK++p.cat,(bZ 0 p.net).1⟩,Bal.enc ⟨tL++p.cat,(bZ 0 p.tax).1⟩]:=by
     simp only [aL,aA];rfl
    have f3:(⟨S.next+22,S.heap.put (S.next+19) (.row 0 2 [Bal.enc ⟨tK++p.cat,(bZ 0 p.net).1⟩,Bal.enc ⟨tL++p.cat,(bZ 0 p.tax).1⟩])⟩:St).heap.get (S.next+20)=none:=by
     show (S.heap.put (S.next+19) _).get (S.next+20)=none
     rw [Tr.get_put_neB _ _ _ _ trivial (by omega)];exact f2
    obtain ⟨v',S',q1,q2,q3,q4,q5,q6⟩:=o1.pushAt (b:=24) (k:=S.next+20) (rZ w1) rC hu (fun d hd=>by
     rcases List.mem_cons.1 hd with rfl | hd
     ·exact aEz _
     ·rcases List.mem_cons.1 hd with rfl | hd
      ·exact aEz _
      ·cases hd) (by simp) (Nat.zero_le _) (by show S.next+20<S.next+22;omega) f3 (by simp;omega) (by simp [fL];omega)
    simp only [↓cw,↓reduceIte,Nat.reduceLT,Bal.enc,tK,tL,kk] at q1
    simp only [↓cw,↓reduceIte,Nat.reduceLT,q1,kk]
    have wS:WF S':=q2.wf rC
    have hnn:S'.next=S.next+22:=q3
    refine H _ _ ⟨_,rfl,by rw [List.map_append];exact q4,wS,by rw [List.length_append,hsl];simp;omega,?_,?_,by omega⟩
    ·refine dW (S:=S) r0 ?_
     rw [q6 0 (by omega) hv0]
     exact Tr.get_put_neB _ _ _ _ trivial (by omega)
    ·rcases q5 with e | e
     ·rw [e];intro h;cases h
     ·rw [e];exact hv0
   ·simp only [↓cw,↓reduceIte,Nat.reduceLT,h1,h2,kk,not_true_eq_false,not_false_eq_true,if_false,if_true] at H ⊢
    exact ⟨rfl,by simp only [oo,←H,List.map_nil]⟩
  ·simp only [↓cw,↓reduceIte,Nat.reduceLT,h1,kk,not_false_eq_true,if_true] at H ⊢
   exact ⟨rfl,by simp only [oo,←H,List.map_nil]⟩
 ·rintro s vs S ⟨v,rfl,own,w,hsl,r0,hv0,hn⟩ aF H
  have H':cG t=(s,0):=H.symm
  simp only [Total.enc] at r0
  simp only [↓cw,↓reduceIte,Nat.reduceLT,kk,r0,Int.lt_irrefl,if_false]
  exact ⟨by simp only [zZ,List.all_cons,List.all_nil,own.newV (aB1 (fun _=>rfl) _),Bool.true_and,Bool.and_true];rfl,by simp only [oo,own.frz (bM (fun _=>rfl) _),H']⟩
 ·intro c hc;simp at hc;subst hc;exact ⟨rfl,rfl⟩
theorem bJ5 (t:Total) (hf:nN t) (S:St) (K:KW):C 121 [.agg [.int .i64 t.net,.int .i64 t.tax,.int .i64 t.gross,.imm (t.parts.map Part.enc)]] S K=K (.tup [.imm ((cG t).1.map Bal.enc),.int .i64 (cG t).2]) S:=(bF5 t hf).eq (by simp only [cloVs,lE,bM (enc:=Part.enc) (fun _=>rfl) t.parts,Bool.and_self]) S K
theorem bF6 (book l:List Bal) (hbb:book.length+l.length<1000000) (S:St) (K:KW):C 122 [.imm (book.map Bal.enc),.imm (l.map Bal.enc)] S K=K (.tup [.imm ((bY book l).1.map Bal.enc),.int .i64 (bY book l).2]) S:=by
 refine (bHw rfl ?_).eq S K
 simp only [aT9,kk,bJ2 book (by omega),bY]
 cases h:sJ book
 ·simp only [h,kk,Bool.not_false,if_true,oo,List.map_nil]
 simp only [h,kk,Bool.not_true,Bool.true_eq_false,Bool.false_eq_true,if_false,bs0]
 have q0:=aRg (b:=24) aEz book (S:=⟨0+1,Tr.nil.put 0 (.row 0 2 [])⟩) (a:=0) (aA _ _ _ _ _ _) (by omega) (by unfold fL;omega) none
 simp only [q0]
 refine aG l (step:=bR) (fin:=fun l=>(l,0)) (fun i cur vs X=>∃ a ver,vs=[.nils,.int .i64 0,.sl a ver 2 0 cur.length,.int .i64 (i:Int)]∧X.heap.get a=some (.row ver 2 (cur.map Bal.enc))∧WF X∧cur.length≤book.length+i) (fun r=>r=aD bR (fun l=>(l,0)) l book) ?_ ?_ (s:=book) ⟨0,1,rfl,Tr.get_put_sameB _ _ _ trivial,kR (n:=1) (kR rC (by decide) (by decide)) (by decide) (by decide),Nat.le_refl _⟩ rfl
 ·rintro i x cur vs X hi ⟨a,ver,rfl,hg,w,hlen⟩ aF H
  have hil:=(List.getElem?_eq_some_iff.1 hi).1
  have haX:=w _ _ hg
  have hpl:=mO cur x.acc
  have hroom:(bK cur x.acc).length≤cur.length+1:=by
   unfold bK
   split
   ·rw [nL _ _ _ hpl];exact Nat.le_refl _
   ·omega
  have hj1:∀ (a' ver':Nat) (Y:St),Y.heap.get a'=some (.row ver' 2 ((bK cur x.acc).map Bal.enc))→WF Y→zF C (fun v0 S0=>fW S0 v0=Except.ok (V.tup [.imm ((aD bR (fun l=>(l,0)) l book).1.map Bal.enc),.int .i64 (aD bR (fun l=>(l,0)) l book).2])) aF (.imm (l.map Bal.enc)) .nils (.int .i64 0) (.sl a' ver' 2 0 (bK cur x.acc).length) (.int .i64 (i:Int)) (.int .i64 (aJ cur x.acc:Int)) Y:=by
   intro a' ver' Y hY wY
   have hlt:aJ cur x.acc<(bK cur x.acc).length:=by
    by_cases c:aJ cur x.acc<cur.length
    ·unfold bK
     split
     ·rw [nL _ _ _ hpl];omega
     ·exact c
    ·have hm:fB cur x.acc=true:=by unfold fB;rw [List.getElem?_eq_none (by omega)]
     unfold bK
     rw [if_pos hm,nL _ _ _ hpl];omega
   obtain ⟨r,hr⟩:∃ r,(bK cur x.acc)[aJ cur x.acc]?=some r:=⟨_,List.getElem?_eq_getElem hlt⟩
   have hr':((bK cur x.acc).map Bal.enc)[aJ cur x.acc]?=some r.enc:=by rw [List.getElem?_map,hr];rfl
   have hld:∀ m,fN none (.ptr a' ver' (aJ cur x.acc) 1) ⟨m,Y.heap⟩=.ok (.int .i64 r.amount):=fun m=>by
    rw [aRr (X:=⟨m,Y.heap⟩) hY hr'];rfl
   have hst:=aY1 (X:=⟨Y.next+16,Y.heap⟩) (v:=.int .i64 (iX r.amount x.amount).1) (j:=1) hY hr' rfl rfl (by show 1+1≤2;decide)
   simp only [bR,hr] at H
   simp only [zF,kk,aH6 hlt,hld,mA hi,Bal.enc,aYt,eQ,gJ (show i<1000000000 by omega),Nat.zero_add]
   by_cases c:(iX r.amount x.amount).2=0
   ·simp only [c,not_true_eq_false,if_false] at H ⊢
    have hst':dT 1 (.ptr a' ver' (aJ cur x.acc) 1) (.int .i64 (iX r.amount x.amount).1) ⟨Y.next+16,Y.heap⟩=.ok ⟨Y.next+16,Y.heap.put a' (.row ver' 2 (((bK cur x.acc).map Bal.enc).set (aJ cur x.acc) (splice r.enc 1 [.int .i64 (iX r.amount x.amount).1])))⟩:=hst
    simp only [hst',kk]
    have hset:((bK cur x.acc).map Bal.enc).set (aJ cur x.acc) (splice r.enc 1 [.int .i64 (iX r.amount x.amount).1])=((bK cur x.acc).set (aJ cur x.acc) ⟨r.acc,(iX r.amount x.amount).1⟩).map Bal.enc:=by rw [List.map_set];rfl
    rw [hset]
    refine H _ _ ⟨a',ver',by rw [List.length_set],Tr.get_put_sameB _ _ _ trivial,kR (n:=Y.next+16) (fun b c hb=>by have:=wY b c hb;show b<Y.next+16;omega) (by have:=wY _ _ hY;omega) (Nat.le_refl _),by rw [List.length_set];omega⟩
   ·simp only [c,ne_eq,not_false_eq_true,if_true] at H ⊢
    simp only [oo,←H,List.map_nil]
  have hj2:∀ Y:St,Y.heap=X.heap→X.next≤Y.next→vA C (fun v0 S0=>fW S0 v0=Except.ok (V.tup [.imm ((aD bR (fun l=>(l,0)) l book).1.map Bal.enc),.int .i64 (aD bR (fun l=>(l,0)) l book).2])) aF (.imm (l.map Bal.enc)) .nils (.int .i64 0) (.sl a ver 2 0 cur.length) (.int .i64 (i:Int)) (.int .i64 (aJ cur x.acc:Int)) (.bool (fB cur x.acc)) Y:=by
   intro Y hh hn
   have wY:WF Y:=fun b c hb=>by rw [hh] at hb;have:=w b c hb;omega
   have hgY:Y.heap.get a=some (.row ver 2 (cur.map Bal.enc)):=by rw [hh];exact hg
   cases hm:fB cur x.acc
   ·have e:bK cur x.acc=cur:=by unfold bK;rw [hm];rfl
    have:=hj1 a ver Y (by rw [e];exact hgY) wY
    rw [e] at this
    simp only [vA,kk,Bool.false_eq_true,if_false]
    exact this
   ·have e:bK cur x.acc=pF cur (aJ cur x.acc) ⟨x.acc,0⟩:=by unfold bK;rw [hm];rfl
    obtain ⟨Z,hZ⟩:∃ Z:St,Z=⟨Y.next+18,Y.heap.put Y.next (.row 0 2 [])⟩:=⟨_,rfl⟩
    have wZ:WF Z:=by rw [hZ];exact kR (n:=Y.next) wY (by omega) (by omega)
    have gZ:aC Z Y.next 0=.ok (2,[]):=by rw [hZ];exact aA _ _ _ _ _ _
    have nZ:Z.next=Y.next+18:=by rw [hZ]
    have sZ:Z.heap.get a=some (.row ver 2 (cur.map Bal.enc)):=by rw [hZ];show (Y.heap.put Y.next _).get a=_;rw [Tr.get_put_neB _ _ _ _ trivial (by omega)];exact hgY
    obtain ⟨S1,S2,S3,q1,m1,q2,q3,n3,w3,g3,k1,k3⟩:=bF4 (b:=24) aEz cur ⟨x.acc,0⟩ hpl (S:=Z) (k1:=Y.next) (k2:=Y.next+11) (m:=Z.next) (s:=a) (vs:=ver) (by omega) (by omega) (by omega) sZ (by omega) (Nat.le_refl _) gZ wZ (by omega) (by omega) (by unfold fL;omega) (some (Y.next+4)) (some (Y.next+12)) (some (Y.next+16))
    have mm:∀ b,(⟨Z.next,S1.heap.put (Y.next+11) b⟩:St)=⟨S1.next,S1.heap.put (Y.next+11) b⟩:=fun b=>by rw [m1]
    rw [mm] at q2
    simp only [Bal.enc] at q2
    have b1:dR cur.length none (some (.int .i64 (aJ cur x.acc:Int)))=.ok (0,aJ cur x.acc):=by
     have:(decide ((0:Int)≤(aJ cur x.acc:Int))&&decide ((aJ cur x.acc:Int)≤(cur.length:Int)))=true:=by simp;omega
     simp only [dR,this,cond_true];rfl
    have b2:dR cur.length (some (.int .i64 (aJ cur x.acc:Int))) none=.ok (aJ cur x.acc,cur.length):=by
     simp only [dR];simp [hpl]
    have hfin:=hj1 Y.next 3 S3 (by rw [e];exact g3) w3
    have hrl:(bK cur x.acc).length=cur.length+1:=by rw [e,nL _ _ _ hpl]
    rw [hrl] at hfin
    simp only [vA,kk,if_true,aYo,b1,b2,mA hi,Bal.enc,bs0,Nat.add_zero,Nat.zero_add,Nat.sub_zero,←hZ,q1,aTl,q2,q3]
    exact hfin
  have hj0:∀ Y:St,Y.heap=X.heap→X.next≤Y.next→vB C (fun v0 S0=>fW S0 v0=Except.ok (V.tup [.imm ((aD bR (fun l=>(l,0)) l book).1.map Bal.enc),.int .i64 (aD bR (fun l=>(l,0)) l book).2])) aF (.imm (l.map Bal.enc)) .nils (.int .i64 0) (.sl a ver 2 0 cur.length) (.int .i64 (i:Int)) (.int .i64 (aJ cur x.acc:Int)) Y:=by
   intro Y hh hn
   have h2:=hj2 ⟨Y.next+17,Y.heap⟩ hh (by show X.next≤Y.next+17;omega)
   by_cases c:aJ cur x.acc<cur.length
   ·obtain ⟨r,hr⟩:∃ r,cur[aJ cur x.acc]?=some r:=⟨_,List.getElem?_eq_getElem c⟩
    have hr':(cur.map Bal.enc)[aJ cur x.acc]?=some r.enc:=by rw [List.getElem?_map,hr];rfl
    have hld:fN none (.ptr a ver (aJ cur x.acc) 0) ⟨Y.next+17,Y.heap⟩=.ok (.str r.acc):=by
     rw [aRr (X:=⟨Y.next+17,Y.heap⟩) (by rw [←hh] at hg;exact hg) hr'];rfl
    have hm:fB cur x.acc=!(r.acc == x.acc):=by unfold fB;rw [hr]
    rw [hm] at h2
    simp only [vB,kk,show ¬ ((aJ cur x.acc:Nat):Int)=(cur.length:Int) by omega,if_false,aH6 c,Nat.add_zero,hld,mA hi,Bal.enc]
    exact h2
   ·have e:aJ cur x.acc=cur.length:=by omega
    have hm:fB cur x.acc=true:=by unfold fB;rw [List.getElem?_eq_none (by omega)]
    rw [hm] at h2
    simp only [vB,kk,show ((aJ cur x.acc:Nat):Int)=(cur.length:Int) by omega,if_true]
    rw [show ((aJ cur x.acc:Nat):Int)=(cur.length:Int) by omega] at h2
    exact h2
  simp only [aEt,kk,bG hi,if_true]
  refine aG cur (step:=mM (fun b:Bal=>kU b.acc x.acc)) (fin:=id) (fun k n vs Y=>n=k∧vs=[.int .i64 (k:Int)]∧Y.heap=X.heap∧X.next≤Y.next) (fun n=>n=aJ cur x.acc) ?_ ?_ (s:=0) ⟨rfl,rfl,rfl,Nat.le_refl _⟩ rfl
  ·rintro k b n vs Y hk ⟨rfl,rfl,hh,hn⟩ again' H'
   have hkl:=(List.getElem?_eq_some_iff.1 hk).1
   have hk':(cur.map Bal.enc)[n]?=some b.enc:=by rw [List.getElem?_map,hk];rfl
   have hld:fN none (.ptr a ver n 0) ⟨Y.next+17,Y.heap⟩=.ok (.str b.acc):=by
    rw [aRr (X:=⟨Y.next+17,Y.heap⟩) (by rw [←hh] at hg;exact hg) hk'];rfl
   simp only [mM] at H'
   simp only [aEs,kk,bG hk,if_true,aH6 hkl,Nat.add_zero,hld,mA hi,Bal.enc,gJ (show n<1000000000 by omega)]
   cases c:kU b.acc x.acc<;>simp only [c,kk,if_true,if_false,Bool.false_eq_true] at H' ⊢
   ·have H':n=aJ cur x.acc:=H'
    rw [H']
    exact hj0 _ hh (by show X.next≤Y.next+17;omega)
   ·exact H' _ _ ⟨rfl,hh,by show X.next≤Y.next+17;omega⟩
  ·rintro n vs Y ⟨rfl,rfl,hh,hn⟩ again' H'
   have H':cur.length=aJ cur x.acc:=H'
   simp only [aEs,kk,Int.lt_irrefl,if_false]
   have:=hj0 ⟨Y.next+17,Y.heap⟩ hh (by show X.next≤Y.next+17;omega)
   rw [←H'] at this
   exact this
 ·rintro cur vs X ⟨a,ver,rfl,hg,w,hlen⟩ aF H
  have H:(cur,(0:Int))=aD bR (fun l=>(l,0)) l book:=H
  obtain ⟨v,hv⟩:∃ v,v=V.sl a ver 2 0 cur.length:=⟨_,rfl⟩
  have own:=bF0 aEz (l:=cur) hg (w _ _ hg)
  rw [←hv] at own ⊢
  have of:=own.out fun _=>rfl
  simp only [aEt,kk,Int.lt_irrefl,if_false,oo,of,←H]
theorem vM {a b:Int} (h:(bZ a b).2≠0):(bZ a b).2=7:=by
 unfold bZ at h ⊢
 split at h
 ·rename_i c;rw [if_pos c]
 ·exact absurd rfl h
theorem bJ6 (x y:Int):fP [x,y]=if (bZ 0 x).2≠0∨(bZ 0 y).2≠0 then ([],7) else ([(bZ 0 x).1,(bZ 0 y).1],0):=by
 simp only [fP,aD,oT]
 by_cases c1:(bZ 0 x).2=0
 ·by_cases c2:(bZ 0 y).2=0
  ·simp [c1,c2,aD]
  ·simp [c1,c2,aD,vM c2]
 ·simp [c1,aD,vM c1]
theorem bJ7 (x y z:Int):fP [x,y,z]=if (bZ 0 x).2≠0∨(bZ 0 y).2≠0∨(bZ 0 z).2≠0 then ([],7) else ([(bZ 0 x).1,(bZ 0 y).1,(bZ 0 z).1],0):=by
 simp only [fP,aD,oT]
 by_cases c1:(bZ 0 x).2=0
 ·by_cases c2:(bZ 0 y).2=0
  ·by_cases c3:(bZ 0 z).2=0
   ·simp [c1,c2,c3,aD]
   ·simp [c1,c2,c3,aD,vM c3]
  ·simp [c1,c2,aD,vM c2]
 ·simp [c1,aD,vM c1]
set_option maxHeartbeats 2000000 in
theorem bJ8 (t:Total) (hf:t.parts.length≤1100000) (S:St) (K:KW):C 197 [.agg [.int .i64 t.net,.int .i64 t.tax,.int .i64 t.gross,.imm (t.parts.map Part.enc)]] S K=K (aGu (fH t)) S:=by
 refine (bH7 rfl ?_).eq S K
 have zero:∀ (X:St) (e:Int),fW X (.tup [.agg [.int .i64 0,.int .i64 0,.int .i64 0,.nils],.int .i64 e])=.ok (aGu (Total.zero,e)):=fun X e=>by
  simp only [oo,aGu,Total.zero,List.map_nil]
 have hx:=bJ7 t.net t.tax t.gross
 delta Tryz.f197;simp only [↓cw,↓reduceIte,Nat.reduceLT,kk,gm,kE,aYv,eQ]
 have bad:¬ ((bZ 0 t.net).2=0∧(bZ 0 t.tax).2=0∧(bZ 0 t.gross).2=0)→fH t=(Total.zero,7):=fun h=>by
  unfold fH
  rw [hx]
  rw [if_pos (show (bZ 0 t.net).2≠0∨(bZ 0 t.tax).2≠0∨(bZ 0 t.gross).2≠0 by by_cases a:(bZ 0 t.net).2=0<;>by_cases b:(bZ 0 t.tax).2=0<;>simp_all)]
  rfl
 by_cases c1:(bZ 0 t.net).2=0
 rotate_left
 ·simp only [↓cw,↓reduceIte,Nat.reduceLT,c1,not_false_eq_true,if_true,kk,kE,zero,bad (fun h=>c1 h.1)]
 by_cases c2:(bZ 0 t.tax).2=0
 rotate_left
 ·simp only [↓cw,↓reduceIte,Nat.reduceLT,c1,c2,not_true_eq_false,if_false,not_false_eq_true,if_true,kk,kE,zero,bad (fun h=>c2 h.2.1)]
 by_cases c3:(bZ 0 t.gross).2=0
 rotate_left
 ·simp only [↓cw,↓reduceIte,Nat.reduceLT,c1,c2,c3,not_true_eq_false,if_false,not_false_eq_true,if_true,kk,kE,zero,bad (fun h=>c3 h.2.2),decide_false,Bool.not_false]
 have hx:fP [t.net,t.tax,t.gross]=([(bZ 0 t.net).1,(bZ 0 t.tax).1,(bZ 0 t.gross).1],0):=by rw [hx,if_neg (by simp [c1,c2,c3])]
 obtain ⟨x,hx1⟩:∃ x,x=(bZ 0 t.net).1:=⟨_,rfl⟩
 obtain ⟨y,hy1⟩:∃ y,y=(bZ 0 t.tax).1:=⟨_,rfl⟩
 obtain ⟨z,hz1⟩:∃ z,z=(bZ 0 t.gross).1:=⟨_,rfl⟩
 rw [←hx1,←hy1,←hz1] at hx
 obtain ⟨R,hR⟩:∃ R,R=aD eH (fun l=>(l,0)) t.parts []:=⟨_,rfl⟩
 have hb:fH t=if R.2≠0 then (Total.zero,R.2) else (⟨x,y,z,R.1⟩,0):=by
  unfold fH
  rw [hx,←hR]
  rfl
 rw [hb]
 obtain ⟨S0,hS0⟩:∃ S0:St,S0=⟨1+1+1,(((Tr.nil.put 0 (.row 0 (1+1+1+1) [[.int .i64 t.net,.int .i64 t.tax,.int .i64 t.gross,.imm (t.parts.map Part.enc)]])).put 1 (.row 0 4 [[.int .i64 0,.int .i64 0,.int .i64 0,.nils]])).put (1+1) (.row 0 4 [[.int .i64 0,.int .i64 0,.int .i64 0,.nils]])).put (1+1) (.row 0 4 [[.int .i64 x,.int .i64 y,.int .i64 z,.nils]])⟩:=⟨_,rfl⟩
 have w0:WF S0:=by rw [hS0];exact kR (n:=3) (kR (n:=2) (kR (n:=1) (kR rC (by decide) (by decide)) (by decide) (by decide)) (by decide) (by decide)) (by decide) (by decide)
 have n0:S0.next=3:=by rw [hS0]
 have r0:aC S0 0 0=.ok (4,[[.int .i64 t.net,.int .i64 t.tax,.int .i64 t.gross,.imm (t.parts.map Part.enc)]]):=by rw [hS0];rfl
 have r1:aC S0 1 0=.ok (4,[[.int .i64 0,.int .i64 0,.int .i64 0,.nils]]):=by rw [hS0];rfl
 have r2:aC S0 2 0=.ok (4,[[.int .i64 x,.int .i64 y,.int .i64 z,.nils]]):=by rw [hS0];rfl
 simp only [↓cw,↓reduceIte,Nat.reduceLT,c1,c2,c3,not_true_eq_false,if_false,decide_true,Bool.not_true,kk,Bool.false_eq_true,←hx1,←hy1,←hz1,←hS0]
 refine aG t.parts (step:=eH) (fin:=fun l=>(l,0)) (fun i acc vs X=>vs=[.int .i64 0,.int .i64 (i:Int)]∧∃ v,Own E0 X 4 v (acc.map Part.enc)∧WF X∧aC X 0 0=.ok (4,[[.int .i64 t.net,.int .i64 t.tax,.int .i64 t.gross,.imm (t.parts.map Part.enc)]])∧aC X 1 0=.ok (4,[[.int .i64 0,.int .i64 0,.int .i64 0,.nils]])∧aC X 2 0=.ok (4,[[.int .i64 x,.int .i64 y,.int .i64 z,v]])∧3≤X.next∧acc.length=i∧∀ k,k<3→AM.blkOf v≠some k) (fun r=>r=R) ?_ ?_ (s:=[]) ⟨rfl,.nils,⟨.inl ⟨rfl,rfl⟩,fun c h=>by cases h⟩,w0,r0,r1,r2,by omega,rfl,fun k _ h=>by cases h⟩ hR.symm
 ·rintro i p acc vs X hi ⟨rfl,v,own,w,r0,r1,r2,n3,hal,hv⟩ aF H
  have hil:=(List.getElem?_eq_some_iff.1 hi).1
  obtain ⟨B,hB⟩:∃ B:St,B=⟨X.next+1,(X.heap.put X.next (.row 0 4 [[.str [],.int .i64 0,.int .i64 0,.int .i64 0]])).put X.next (.row 0 4 [p.enc])⟩:=⟨_,rfl⟩
  have wB:WF B:=by rw [hB];exact kR (n:=X.next+1) (kR (n:=X.next) w (by omega) (Nat.le_succ _)) (by omega) (Nat.le_refl _)
  have nB:B.next=X.next+1:=by rw [hB]
  have kB:∀ y,y<X.next→B.heap.get y=X.heap.get y:=fun y hy=>by
   rw [hB]
   show ((X.heap.put X.next _).put X.next _).get y=_
   rw [Tr.get_put_neB _ _ _ _ trivial (by omega),Tr.get_put_neB _ _ _ _ trivial (by omega)]
  have oB:Own E0 B 4 v (acc.map Part.enc):=own.same (by omega) fun a ha=>kB a (cS own ha).2
  have b1:=dW r1 (kB 1 (by omega))
  have b2:=dW r2 (kB 2 (by omega))
  have rP:aC B X.next 0=.ok (4,[p.enc]):=by rw [hB];exact aA _ _ _ _ _ _
  simp only [Part.enc] at hB rP
  have ho2:=bJ6 p.net p.tax
  simp only [eH] at H
  simp only [↓cw,↓reduceIte,Nat.reduceLT,kk,gm,r0,bG hi,if_true,iD hi,Part.enc,←hB,rP,aYv,eQ,gJ (show i<1000000000 by omega)]
  have bad:¬ ((bZ 0 p.net).2=0∧(bZ 0 p.tax).2=0)→R=([],7):=fun h=>by
   have:fP [p.net,p.tax]=([],7):=by rw [ho2,if_pos (by by_cases a:(bZ 0 p.net).2=0<;>simp_all)]
   rw [this,if_pos (by decide)] at H
   exact H.symm
  by_cases d1:(bZ 0 p.net).2=0
  rotate_left
  ·simp only [↓cw,↓reduceIte,Nat.reduceLT,d1,not_false_eq_true,if_true,kk,b1,bad (fun h=>d1 h.1)]
   exact zero _ _
  by_cases d2:(bZ 0 p.tax).2=0
  rotate_left
  ·simp only [↓cw,↓reduceIte,Nat.reduceLT,d1,d2,not_true_eq_false,if_false,decide_false,Bool.not_false,kk,if_true,b1,bad (fun h=>d2 h.2)]
   exact zero _ _
  have ho2:fP [p.net,p.tax]=([(bZ 0 p.net).1,(bZ 0 p.tax).1],0):=by rw [ho2,if_neg (by simp [d1,d2])]
  rw [ho2,if_neg (show ¬ (0:Int)≠0 by decide)] at H
  obtain ⟨v',Z,q1,oZ,wZ,nZ,vZ,kZ⟩:=bEw (b:=40) oB wB (c:=Part.enc { p with net:=(bZ 0 p.net).1,tax:=(bZ 0 p.tax).1 }) (aKz _) (by rw [List.length_map];omega) (by rw [List.length_map];unfold fL;omega)
  simp only [Part.enc] at q1
  have z0:=dW r0 ((kZ 0 (by omega) (hv 0 (by decide))).trans (kB 0 (by omega)))
  have z1:=dW r1 ((kZ 1 (by omega) (hv 1 (by decide))).trans (kB 1 (by omega)))
  have z2:=dW r2 ((kZ 2 (by omega) (hv 2 (by decide))).trans (kB 2 (by omega)))
  have vn:∀ k,k<3→AM.blkOf v'≠some k:=fun k hk e=>by
   rcases vZ with q | q
   ·exact hv k hk (q▸e)
   ·rw [q] at e;cases e;omega
  simp only [↓cw,↓reduceIte,Nat.reduceLT,d1,d2,not_true_eq_false,if_false,decide_true,Bool.not_true,kk,Bool.false_eq_true,gm,b2,rP,aMs,q1,z2,oZ.one,oZ.cells,gJ (show i<1000000000 by omega)]
  refine H _ _ ⟨rfl,v',?_,kR (n:=Z.next) wZ (show 2<Z.next by omega) (Nat.le_refl _),bX (n:=Z.next) (by decide) z0,bX (n:=Z.next) (by decide) z1,aA _ _ _ _ _ _,by show 3≤Z.next;omega,by simp [hal],vn⟩
  rw [List.map_append]
  exact oZ.same (S':=⟨Z.next,Z.heap.put 2 (.row 0 4 [[.int .i64 x,.int .i64 y,.int .i64 z,v']])⟩) (Nat.le_refl _) fun a ha=>Tr.get_put_neB _ _ _ _ trivial fun e=>vn 2 (by decide) (by rw [←e];exact ha)
 ·rintro acc vs X ⟨rfl,v,own,w,r0,r1,r2,n3,hal,hv⟩ aF H
  have H:(acc,(0:Int))=R:=H
  have of:=(own.same (S':=⟨X.next,X.heap.put 1 (.row 0 4 [[.int .i64 x,.int .i64 y,.int .i64 z,v]])⟩) (Nat.le_refl _) fun a ha=>Tr.get_put_neB _ _ _ _ trivial fun e=>hv 1 (by decide) (by rw [←e];exact ha)).out fun _=>rfl
  simp only [↓cw,↓reduceIte,Nat.reduceLT,kk,gm,r0,r1,r2,Int.lt_irrefl,if_false,←H,own.one,own.cells]
  simp only [oo,aGu,of,ne_eq,not_true_eq_false,if_false]
def nV (r:Ref) (n:Nat) (q:Posted):Bool⊕Nat:=.inr (n+if q.of=r then 1 else 0)
theorem aRs (r:Ref) (fin:Nat→Bool):∀ (l:List Posted) (n:Nat),aD (nV r) fin l n=fin (n+jB l r)
 | [],n=>rfl
 | q::l,n=>by
  simp only [aD,nV]
  rw [aRs r fin l,rG,Nat.add_assoc]
def vN (p:Posted) (u:Unit) (q:Posted):Bool⊕Unit:=if q.ref=p.of then .inl (aDn q p) else .inr ()
theorem aDr (p:Posted):∀ (l:List Posted) (u:Unit),aD (vN p) (fun _=>false) l u=mT p l
 | [],u=>rfl
 | q::l,u=>by
  simp only [aD,vN,mT]
  by_cases c:q.ref=p.of
  ·rw [if_pos c,if_pos c]
  ·rw [if_neg c,if_neg c];exact aDr p l ()
def zN (l:List Posted) (i:Nat) (p:Posted) (n:Nat):Bool:=
 if 1<n then false else if p.back≠decide (n=1) then false else if p.of=Ref.zero then true else if p.back=true then false else mT p (l.take i)
theorem aN6 (l:List Posted) (i:Nat) (p:Posted):nR l i p=aD (nV p.ref) (zN l i p) (l.drop (i+1)) 0:=by
 rw [aRs,Nat.zero_add];rfl
set_option maxHeartbeats 2000000 in
theorem bJ9 (l:List Posted) (hb:l.length<1000000) (hq:∀ q∈l,q.total.parts.length≤1100000) {i:Nat} {p:Posted} (hi:l[i]?=some p) (S:St) (K:KW):C 120 [.imm (l.map Posted.enc),.int .i64 (i:Int)] S K=K (.bool (nR l i p)) S:=by
 refine (bGg rfl ?_).eq S K
 have hil:=(List.getElem?_eq_some_iff.1 hi).1
 have hpb:=hq p (List.mem_of_getElem? hi)
 have ei:l.drop (i+1)=l.drop (i+1):=rfl
 delta Tryz.f120;simp only [↓cw,↓reduceIte,Nat.reduceLT,kk,kL hi,Posted.enc,gJ (show i<1000000000 by omega)]
 obtain ⟨S0,hS0⟩:∃ S0:St,S0=⟨0+1,(Tr.nil.put 0 (.row 0 12 [aGp])).put 0 (.row 0 12 [p.enc])⟩:=⟨_,rfl⟩
 have r0:aC S0 0 0=.ok (12,[p.enc]):=by rw [hS0];rfl
 have n0:1≤S0.next:=by rw [hS0];exact Nat.le_refl _
 simp only [aGp,Posted.enc] at hS0
 simp only [←hS0]
 refine aG (l.drop (i+1)) (step:=nV p.ref) (fin:=zN l i p) (fun k n vs X=>vs=[.int .i64 (n:Int),.int .i64 ((i+1+k:Nat):Int)]∧n≤k∧aC X 0 0=.ok (12,[p.enc])∧1≤X.next) (fun r=>r=nR l i p) ?_ ?_ (s:=0) ⟨rfl,Nat.le_refl _,r0,n0⟩ (aN6 l i p).symm
 ·rintro k q n vs X hk ⟨rfl,hn,r0,n1⟩ aF H
  rw [List.getElem?_drop] at hk
  have hkl:=(List.getElem?_eq_some_iff.1 hk).1
  simp only [nV] at H
  simp only [Posted.enc] at r0
  simp only [↓cw,↓reduceIte,Nat.reduceLT,kk,gm,bG hk,if_true,kL hk,Posted.enc,r0,gJ (show i+1+k<1000000000 by omega),gJ (show n<1000000000 by omega)]
  by_cases c:q.of=p.ref
  ·have c':(q.of.ser == p.ref.ser&&decide (q.of.num=p.ref.num))=true:=by rw [c];simp
   simp only [c,if_true] at H
   simp only [c',if_true]
   exact H _ _ ⟨rfl,by omega,r0,by show 1≤X.next+8;omega⟩
  ·have c':¬ (q.of.ser == p.ref.ser&&decide (q.of.num=p.ref.num))=true:=by rw [Ref.ext_iff] at c;simpa using c
   simp only [c,if_false,Nat.add_zero] at H
   simp only [c',if_false]
   exact H _ _ ⟨rfl,by omega,r0,by show 1≤X.next+8;omega⟩
 ·rintro n vs X ⟨rfl,hn,r0,n1⟩ aF H
  have H:zN l i p n=nR l i p:=H
  have hge:¬ ((i+1+(l.drop (i+1)).length:Nat):Int)<(l.length:Int):=by rw [List.length_drop];omega
  simp only [Posted.enc] at r0
  rw [←H]
  simp only [↓cw,↓reduceIte,Nat.reduceLT,zN,kk,hge,if_false,r0,wU,gm]
  by_cases c1:1<n
  ·simp only [c1,show (1:Int)<(n:Int) by omega,if_true,oo]
  simp only [c1,show ¬ (1:Int)<(n:Int) by omega,if_false]
  have e1:decide ((n:Int)=1)=decide (n=1):=by rw [Bool.eq_iff_iff];simp;omega
  rw [e1]
  by_cases c2:p.back=decide (n=1)
  rotate_left
  ·have c2':(p.back == decide (n=1))=false:=by simpa using c2
   simp only [c2,c2',ne_eq,not_false_eq_true,if_true,Bool.not_false,oo]
  have c2':(p.back == decide (n=1))=true:=by simpa using c2
  rw [if_neg (show ¬ p.back≠decide (n=1) from fun h=>h c2)]
  simp only [c2',Bool.not_true,Bool.false_eq_true,if_false]
  by_cases c3:p.of=Ref.zero
  ·have c3':(p.of.ser == []&&decide (p.of.num=0))=true:=by rw [c3];rfl
   rw [if_pos c3,if_pos c3']
  have c3':¬ (p.of.ser == []&&decide (p.of.num=0))=true:=by rw [Ref.ext_iff] at c3;simpa [Ref.zero] using c3
  simp only [↓cw,↓reduceIte,Nat.reduceLT,c3,c3',if_false,kk]
  cases c4:p.back
  rotate_left
  ·simp only [c4,if_true,oo]
  simp only [c4,Bool.false_eq_true,if_false]
  have lt:(l.take i).length=i:=by rw [List.length_take];omega
  refine aG (l.take i) (step:=vN p) (fin:=fun _=>false) (fun k u vs X=>vs=[.bool false,.int .i64 (k:Int)]∧aC X 0 0=.ok (12,[p.enc])∧1≤X.next) (fun r=>r=mT p (l.take i)) ?_ ?_ (s:=()) ⟨rfl,r0,n1⟩ (aDr p (l.take i) ())
  ·rintro k q u vs X hk ⟨rfl,r0,n1⟩ aF H
   have hki:=(List.getElem?_eq_some_iff.1 hk).1
   rw [lt] at hki
   rw [List.getElem?_take,if_pos hki] at hk
   have hqb:=hq q (List.mem_of_getElem? hk)
   have hbl:=aD8 q.total
   simp only [vN] at H
   simp only [Posted.enc] at r0
   simp only [↓cw,↓reduceIte,Nat.reduceLT,kk,gm,show (k:Int)<(i:Int) by omega,if_true,kL hk,Posted.enc,r0,gJ (show k<1000000000 by omega),bJ8 q.total hqb,aGu]
   obtain ⟨T,hT⟩:∃ T,T=(fH q.total).1:=⟨_,rfl⟩
   simp only [aDn,←hT] at H
   rw [←hT] at hbl
   simp only [←hT]
   obtain ⟨B,hB⟩:∃ B:St,B=⟨X.next+8+1+49,(X.heap.put (X.next+8) (Blk.row 0 4 [[V.int IntKind.i64 0,V.int IntKind.i64 0,V.int IntKind.i64 0,V.nils]])).put (X.next+8) (Blk.row 0 4 [[V.int IntKind.i64 T.net,V.int IntKind.i64 T.tax,V.int IntKind.i64 T.gross,V.imm (List.map Part.enc T.parts)]])⟩:=⟨_,rfl⟩
   have b0:∀ m,aC ⟨m,B.heap⟩ 0 0=.ok (12,[p.enc]):=fun m=>by rw [hB];exact bX (n:=X.next) (by omega) (bX (n:=X.next) (by omega) r0)
   have b8:∀ m,aC ⟨m,B.heap⟩ (X.next+8) 0=.ok (4,[[V.int IntKind.i64 T.net,V.int IntKind.i64 T.tax,V.int IntKind.i64 T.gross,V.imm (List.map Part.enc T.parts)]]):=fun m=>by rw [hB];exact aA _ _ _ _ _ _
   have bn:X.next+58=B.next:=by rw [hB]
   have b0':=b0 (X.next+8+1)
   have b1:=b0 B.next
   have b8':=b8 B.next
   simp only [Posted.enc] at b0 b0' b1
   have hh:B.heap=(X.heap.put (X.next+8) (Blk.row 0 4 [[V.int IntKind.i64 0,V.int IntKind.i64 0,V.int IntKind.i64 0,V.nils]])).put (X.next+8) (Blk.row 0 4 [[V.int IntKind.i64 T.net,V.int IntKind.i64 T.tax,V.int IntKind.i64 T.gross,V.imm (List.map Part.enc T.parts)]]):=by rw [hB]
   have hBe:(⟨X.next+8+1+49,B.heap⟩:St)=B:=by rw [hB]
   rw [←hh,hBe]
   by_cases d0:q.ref=p.of
   rotate_left
   ·have d0':(!(q.ref.ser == p.of.ser&&decide (q.ref.num=p.of.num)))=true:=by rw [Ref.ext_iff] at d0;simp;exact Decidable.not_and_iff_or_not.1 d0
    simp only [d0,if_false] at H
    simp only [d0',if_true]
    exact H _ _ ⟨rfl,r0,by show 1≤X.next+8;omega⟩
   have d0':¬ (!(q.ref.ser == p.of.ser&&decide (q.ref.num=p.of.num)))=true:=by rw [d0];simp
   rw [if_pos d0] at H
   rw [if_neg d0']
   by_cases d1:(fH q.total).2=0
   rotate_left
   ·rw [if_pos d1] at H
    rw [if_pos d1,←H]
   rw [if_neg (fun h=>h d1)] at H
   rw [if_neg (fun h=>h d1)]
   by_cases d2:q.of=Ref.zero
   rotate_left
   ·have d2':(!(q.of.ser == []&&decide (q.of.num=0)))=true:=by rw [Ref.ext_iff] at d2;simp;exact Decidable.not_and_iff_or_not.1 d2
    rw [if_pos d2] at H
    rw [if_pos d2',←H]
   have d2':¬ (!(q.of.ser == []&&decide (q.of.num=0)))=true:=by rw [d2];decide
   rw [if_neg (fun h=>h d2)] at H
   rw [if_neg d2']
   simp only [↓cw,↓reduceIte,Nat.reduceLT,b0',kk,bE9]
   by_cases d3:p.day.days<q.day.days
   ·rw [if_pos d3] at H
    rw [if_pos d3,←H]
   rw [if_neg d3] at H
   rw [if_neg d3]
   simp only [↓cw,↓reduceIte,Nat.reduceLT,b1,b8',kk]
   by_cases d4:T.net=p.total.net
   rotate_left
   ·rw [decide_eq_false d4,Bool.false_and] at H
    rw [if_pos d4,←H]
   rw [if_neg (fun h=>h d4)]
   by_cases d5:T.tax=p.total.tax
   rotate_left
   ·rw [decide_eq_false d5,Bool.false_and,Bool.and_false] at H
    rw [if_pos d5,←H]
   rw [if_neg (fun h=>h d5)]
   rw [decide_eq_true d4,decide_eq_true d5,Bool.true_and,Bool.true_and] at H
   by_cases d6:T.parts.length=p.total.parts.length
   rotate_left
   ·have:¬ T.parts=p.total.parts:=fun h=>d6 (by rw [h])
    rw [decide_eq_false this] at H
    rw [if_pos (show ¬ ((T.parts.length:Nat):Int)=(p.total.parts.length:Int) by omega),←H]
   rw [if_neg (show ¬ ¬ ((T.parts.length:Nat):Int)=(p.total.parts.length:Int) by omega)]
   refine aG T.parts (step:=dU p.total.parts) (fin:=fun _=>true) (fun j n vs Y=>n=j∧vs=[.bool false,.int .i64 (j:Int)]∧Y.heap=B.heap) (fun r=>r=mT p (l.take i)) ?_ ?_ (s:=0) ⟨rfl,rfl,rfl⟩ (by rw [eqL d6];exact H)
   ·rintro j x n vs Y hj ⟨rfl,rfl,hY⟩ again' H'
    have hjl:=(List.getElem?_eq_some_iff.1 hj).1
    have hj2:p.total.parts[n]?=some p.total.parts[n]:=List.getElem?_eq_getElem (by omega)
    have y8:∀ m,aC ⟨m,Y.heap⟩ (X.next+8) 0=.ok (4,[[V.int IntKind.i64 T.net,V.int IntKind.i64 T.tax,V.int IntKind.i64 T.gross,V.imm (List.map Part.enc T.parts)]]):=fun m=>by rw [hY];exact b8 m
    have y0:∀ m,aC ⟨m,Y.heap⟩ 0 0=.ok (12,[p.enc]):=fun m=>by rw [hY];exact b0 m
    have y8':aC Y (X.next+8) 0=.ok (4,[[V.int IntKind.i64 T.net,V.int IntKind.i64 T.tax,V.int IntKind.i64 T.gross,V.imm (List.map Part.enc T.parts)]]):=y8 Y.next
    simp only [Posted.enc] at y0
    generalize hz:p.total.parts[n]=z at hj2
    have he:(z=x)=(x.cat=z.cat∧x.bp=z.bp∧x.net=z.net∧x.tax=z.tax):=by
     obtain ⟨_,_,_,_⟩:=x;obtain ⟨_,_,_,_⟩:=z;simp [and_assoc,eq_comm]
    simp only [dU,hj2,Option.some.injEq,he] at H'
    simp only [↓cw,↓reduceIte,Nat.reduceLT,kk,gm,y8,y0,y8',bG hj,if_true,iD hj,iD hj2,Part.enc,gJ (show n<1000000000 by omega)]
    by_cases c:x.cat=z.cat∧x.bp=z.bp∧x.net=z.net∧x.tax=z.tax
    ·have c':¬ (!(x.cat == z.cat&&decide (x.bp=z.bp)&&decide (x.net=z.net)&&decide (x.tax=z.tax)))=true:=by simp [c]
     rw [if_pos c] at H'
     rw [if_neg c']
     exact H' _ _ ⟨rfl,rfl,hY⟩
    ·have c':(!(x.cat == z.cat&&decide (x.bp=z.bp)&&decide (x.net=z.net)&&decide (x.tax=z.tax)))=true:=by
      rw [Bool.not_eq_true',Bool.eq_false_iff]
      intro h
      simp only [Bool.and_eq_true,decide_eq_true_eq,beq_iff_eq] at h
      exact c ⟨h.1.1.1,h.1.1.2,h.1.2,h.2⟩
     rw [if_neg c] at H'
     have H':false=mT p (l.take i):=H'
     rw [if_pos c',←H']
   ·rintro n vs Y ⟨rfl,rfl,hY⟩ again' H'
    have H':true=mT p (l.take i):=H'
    have y8:aC Y (X.next+8) 0=.ok (4,[[V.int IntKind.i64 T.net,V.int IntKind.i64 T.tax,V.int IntKind.i64 T.gross,V.imm (List.map Part.enc T.parts)]]):=by have:=b8 Y.next;rw [←hY] at this;exact this
    simp only [↓cw,↓reduceIte,Nat.reduceLT,kk,gm,y8,Int.lt_irrefl,if_false,oo,←H']
  ·rintro u vs X ⟨rfl,r0,n1⟩ aF H
   have H:false=mT p (l.take i):=H
   simp only [↓cw,↓reduceIte,Nat.reduceLT,kk,lt,Int.lt_irrefl,if_false,oo,←H]
end Go.Proofs.YtoaibmbldmckaaaGreat
end
