import Derived.KernelRfl
import Derived.Lib.Walk
import Derived.Test.YtoaibmbldmckaaaGreatProg
import Derived.WalkKit
import Derived.Test.YtoaibmbldmckaaaGreatX1
set_option linter.unusedSimpArgs false
set_option linter.unusedVariables false
set_option linter.unusedSectionVars false
set_option maxRecDepth 100000
section
set_option linter.unusedSimpArgs false
set_option linter.unusedVariables false
namespace Go.AM
structure Own (S0 S:St) (n:Nat) (v:V) (es:List (List V)):Prop where
 is:(v=.nils∧es=[])∨∃ a ver tl,v=.sl a ver n 0 es.length∧S0.next≤a∧a<S.next∧S.heap.get a=some (.row ver n (es++tl))
 len:∀ cs,cs∈es→cs.length=n∧aF cs=true
theorem aI {S:St} {a ver n:Nat} {el:List (List V)} (h:S.heap.get a=some (.row ver n el)):aC S a ver=.ok (n,el):=by
 simp only [aC,h,Nat.beq_refl,cond_true]
theorem Own.sl {S0 S:St} {n:Nat} {v:V} {es:List (List V)} (h:Own S0 S n v es):Sl S n v es:=by
 refine ⟨?_,h.len⟩
 rcases h.is with h1 | ⟨a,ver,tl,h1,h2,h3,h4⟩
 ·exact .inl h1
 ·exact .inr (.inr ⟨a,ver,0,es++tl,h1,aI h4,by simp,by simp⟩)
theorem Own.ext {S0 S S':St} {n:Nat} {v:V} {es:List (List V)} (h:Own S0 S n v es) (x:Ext S S'):Own S0 S' n v es:=by
 refine ⟨?_,h.len⟩
 rcases h.is with h1 | ⟨a,ver,tl,h1,h2,h3,h4⟩
 ·exact .inl h1
 ·exact .inr ⟨a,ver,tl,h1,h2,Nat.lt_of_lt_of_le h3 x.next,x.old _ _ h4⟩
theorem Own.nil (S0 S:St) (n:Nat):Own S0 S n .nils []:=⟨.inl ⟨rfl,rfl⟩,fun _ h=>by cases h⟩
theorem Own.weaken {A B S:St} {n:Nat} {v:V} {es:List (List V)} (h:Own B S n v es) (x:A.next≤B.next):Own A S n v es:=by
 refine ⟨?_,h.len⟩
 rcases h.is with h1 | ⟨a,ver,tl,h1,h2,h3,h4⟩
 ·exact .inl h1
 ·exact .inr ⟨a,ver,tl,h1,Nat.le_trans x h2,h3,h4⟩
theorem dA {n:Nat} {es:List (List V)} (h:∀ cs,cs∈es→cs.length=n∧aF cs=true):jR n es=true∧es.all aF=true:=
 ⟨List.all_eq_true.2 fun cs hc=>by simp [(h cs hc).1],List.all_eq_true.2 fun cs hc=>(h cs hc).2⟩
theorem Sl.copy {S:St} {n b:Nat} {v:V} {es:List (List V)} (h:Sl S n v es) (w:WF S) (h1:es.length*b≤35184372088832) (h2:es.length<eD):
  ∃ v' S',fQ n b .nils v none S=.ok (v',S')∧Ext S S'∧Own S S' n v' es:=by
 obtain ⟨a1,a2⟩:=dA h.len
 cases es with
 | nil=>exact ⟨.nils,S,by simp only [fQ,h.elems,a1,a2,and_self,if_true],Ext.refl S,Own.nil _ _ _⟩
 | cons c es=>
  refine ⟨.sl S.next 0 n 0 (c::es).length,⟨S.next+1,S.heap.put S.next (.row 0 n (c::es))⟩,?_,Ext.new w _,⟨.inr ⟨S.next,0,[],rfl,Nat.le_refl _,Nat.lt_succ_self _,?_⟩,h.len⟩⟩
  ·simp only [fQ,h.elems,a1,a2,and_self,if_true,h1,h2,fJ]
  ·rw [List.append_nil];exact Tr.get_put_sameB _ _ _ trivial
theorem Own.pushK {S0 S:St} {n b:Nat} {v:V} {es:List (List V)} (h:Own S0 S n v es) (x:Ext S0 S) (w:WF S0) {u:V} {cs:List (List V)} (hu:aM S u=.ok cs) (hc:∀ c,c∈cs→c.length=n∧aF c=true) (hne:cs≠[])
  (h1:(es.length+cs.length)*b≤35184372088832) (h2:es.length+cs.length<eD):∃ v' S',fQ n b v u none S=.ok (v',S')∧Ext S0 S'∧S'.next≤S.next+1∧Own S0 S' n v' (es++cs)∧∀ y,y<S.next→(∀ a ver m,v=.sl a ver n 0 m→y≠a)→S'.heap.get y=S.heap.get y:=by
 obtain ⟨a1,a2⟩:=dA hc
 have hlen:∀ c,c∈es++cs→c.length=n∧aF c=true:=fun c hm=>(List.mem_append.1 hm).elim (h.len c) (hc c)
 rcases h.is with ⟨rfl,rfl⟩ | ⟨a,ver,tl,rfl,q1,q2,q3⟩
 ·cases cs with
  | nil=>exact absurd rfl hne
  | cons c cs=>
   refine ⟨.sl S.next 0 n 0 (c::cs).length,⟨S.next+1,S.heap.put S.next (.row 0 n (c::cs))⟩,?_,x.trans (Ext.new (x.wf w) _),Nat.le_refl _,⟨.inr ⟨S.next,0,[],rfl,x.next,Nat.lt_succ_self _,?_⟩,hlen⟩,fun y hy _=>Tr.get_put_neB _ _ _ _ trivial (by omega)⟩
   ·simp only [List.length_nil,Nat.zero_add] at h1 h2
    simp only [fQ,hu,a1,a2,and_self,if_true,h1,h2,fJ]
   ·rw [List.append_nil];exact Tr.get_put_sameB _ _ _ trivial
 ·have hb:0+es.length≤es.length+tl.length:=by omega
  refine ⟨.sl a (ver+1) n 0 (es++cs).length,⟨S.next,S.heap.put a (.row (ver+1) n (es++cs))⟩,?_,x.set q1 q2 w _,Nat.le_succ _,⟨.inr ⟨a,ver+1,[],rfl,q1,q2,?_⟩,hlen⟩,fun y _ hy=>Tr.get_put_neB _ _ _ _ trivial (hy a ver _ rfl)⟩
  ·simp only [fQ,hu,a1,a2,and_self,if_true,aI q3,hb,h1,h2,List.drop_zero,List.take_left',List.length_append]
  ·rw [List.append_nil];exact Tr.get_put_sameB _ _ _ trivial
theorem Own.push {S0 S:St} {n b:Nat} {v:V} {es:List (List V)} (h:Own S0 S n v es) (x:Ext S0 S) (w:WF S0) {u:V} {cs:List (List V)} (hu:aM S u=.ok cs) (hc:∀ c,c∈cs→c.length=n∧aF c=true) (hne:cs≠[])
  (h1:(es.length+cs.length)*b≤35184372088832) (h2:es.length+cs.length<eD):∃ v' S',fQ n b v u none S=.ok (v',S')∧Ext S0 S'∧S'.next≤S.next+1∧Own S0 S' n v' (es++cs):=by
 obtain ⟨v',S',q1,q2,q3,q4,_⟩:=h.pushK x w hu hc hne h1 h2
 exact ⟨v',S',q1,q2,q3,q4⟩
theorem Own.set {S0 S:St} {n:Nat} {v:V} {es:List (List V)} (h:Own S0 S n v es) (x:Ext S0 S) (w:WF S0) {i:Nat} {cs:List V} (hi:es[i]?=some cs) (k:IntKind):
  ∃ p,fI n v (.int k (i:Int))=.ok p∧At S p cs∧∀ (j m:Nat) (u:V),u.cells.length=m→aF u.cells=true→j+m≤n→∃ S',eH m (adv j p) u S=.ok S'∧Ext S0 S'∧S'.next=S.next∧Own S0 S' n v (es.set i (splice cs j u.cells)) ∧
   ∀ S1,Ext S1 S→(∀ a ver,v=.sl a ver n 0 es.length→S1.next≤a)→WF S1→Ext S1 S':=by
 have hil:i<es.length:=(List.getElem?_eq_some_iff.1 hi).1
 have hl:=h.len cs (List.mem_of_getElem? hi)
 rcases h.is with ⟨rfl,rfl⟩ | ⟨a,ver,tl,rfl,q1,q2,q3⟩
 ·simp at hil
 ·have hg:(es++tl)[0+i]?=some cs:=by rw [Nat.zero_add,List.getElem?_append_left hil];exact hi
  refine ⟨.ptr a ver (0+i) 0,by simp only [fI,fX hil,if_true],.inl ⟨a,ver,0+i,n,es++tl,rfl,aI q3,hg⟩,fun j m u hu ho hj=>?_⟩
  have hsl:(splice cs j u.cells).length=n:=by simp only [splice,List.length_append,List.length_take,List.length_drop];omega
  have hso:aF (splice cs j u.cells)=true:=by
   have h1:=hl.2
   simp only [aF,List.all_eq_true] at h1 ho ⊢
   intro y hy
   simp only [splice,List.mem_append] at hy
   rcases hy with hy | hy | hy
   ·exact h1 y (List.mem_of_mem_take hy)
   ·exact ho y hy
   ·exact h1 y (List.mem_of_mem_drop hy)
  have hst:eH m (adv j (.ptr a ver (0+i) 0)) u S=.ok ⟨S.next,S.heap.put a (.row ver n ((es++tl).set (0+i) (splice cs j u.cells)))⟩:=by
   have hj':0+j+u.cells.length≤cs.length:=by omega
   simp only [adv,eH,aI q3,hg,hu,ho,true_and]
   rw [if_pos (by omega)]
   simp only [Nat.zero_add]
  have hset:(es++tl).set (0+i) (splice cs j u.cells)=es.set i (splice cs j u.cells)++tl:=by rw [Nat.zero_add,List.set_append_left _ _ hil]
  refine ⟨_,hst,x.set q1 q2 w _,rfl,⟨.inr ⟨a,ver,tl,by rw [List.length_set],q1,q2,?_⟩,fun c hc=>?_⟩,fun S1 x1 ha w1=>x1.set (ha a ver rfl) q2 w1 _⟩
  ·rw [hset];exact Tr.get_put_sameB _ _ _ trivial
  ·rcases List.mem_or_eq_of_mem_set hc with hc | rfl
   ·exact h.len c hc
   ·exact ⟨hsl,hso⟩
theorem aT2 {P:Program} {T:TypeId} {n b:Nat} (h:apT P T=some (n,b)):∃ e,jS P T=some e∧lM P e=true∧sz P e=n∧P.bytesOf e=b:=by
 unfold apT at h
 split at h
 ·cases h
 ·rename_i e he
  rw [cond_eq_ite] at h
  split at h
  ·rename_i hz;cases h;exact ⟨e,he,hz,rfl,rfl⟩
  ·cases h
theorem Own.insertK {P:Program} {T:TypeId} {n b:Nat} (hT:apT P T=some (n,b)) (hn:1<n) {S0 S:St} {v:V} {es:List (List V)} (h:Own S0 S n v es) (x:Ext S0 S) (w:WF S0) {bx:Nat} {c:List V} (hb:aC S bx 0=.ok (n,[c]))
  (hne:∀ a ver m,v=.sl a ver n 0 m→a≠bx) (hc:c.length=n∧aF c=true) (h1:(es.length+1)*b≤35184372088832) (h2:es.length+1<eD) {i:Nat} (hi:i≤es.length):
  ∃ v' S',iA P T v (.int .i64 (i:Int)) (.sl bx 0 n 0 1) S=.ok (v',S')∧Ext S0 S'∧Own S0 S' n v' (es.take i++c::es.drop i)∧∀ y,y<S.next→(∀ a ver m,v=.sl a ver n 0 m→y≠a)→S'.heap.get y=S.heap.get y:=by
 obtain ⟨e,he,hz,hsz,hby⟩:=aT2 hT
 have hx:aM S (.sl bx 0 n 0 1)=.ok [c]:=by
  simp only [aM,hb]
  rfl
 have h1n:Nat.ble n 1=false:=by
  cases hq:Nat.ble n 1 with
  | false=>rfl
  | true=>exact absurd (Nat.le_of_ble_eq_true hq) (by omega)
 have hcs:∀ d,d∈[c]→d.length=n∧aF d=true:=fun d hd=>by cases hd with
  | head=>exact hc
  | tail _ hd=>cases hd
 have hlen:∀ d,d∈es.take i++c::es.drop i→d.length=n∧aF d=true:=by
  intro d hd
  rcases List.mem_append.1 hd with hd | hd
  ·exact h.len d (List.mem_of_mem_take hd)
  ·rcases List.mem_cons.1 hd with rfl | hd
   ·exact hc
   ·exact h.len d (List.mem_of_mem_drop hd)
 have hlt:(es.take i++c::es.drop i).length=es.length+1:=by simp only [List.length_append,List.length_take,List.length_cons,List.length_drop];omega
 by_cases hend:i=es.length
 ·subst hend
  obtain ⟨v',S',q1,q2,_,q3,q4⟩:=h.pushK (b:=b) x w hx hcs (by simp) h1 h2
  refine ⟨v',S',?_,q2,by simpa using q3,q4⟩
  rw [←cS hT] at q1
  unfold iA
  simp only [he,hx,hsz,h1n,Bool.false_or]
  rcases h.is with ⟨rfl,rfl⟩ | ⟨a,ver,tl,rfl,_⟩
  ·simp only [List.length_nil]
   show (bif Nat.beq 1 0 then _ else bif decide (((0:Nat):Int)=0) then _ else _)=_
   simp only [Int.natCast_zero,decide_true,cond_true]
   exact q1
  ·simp only [decide_true,cond_true]
   exact q1
 ·rcases h.is with ⟨rfl,rfl⟩ | ⟨a,ver,tl,rfl,p1,p2,p3⟩
  ·simp at hi;exact absurd hi hend
  ·have hab:Nat.beq a bx=false:=by
    cases hq:Nat.beq a bx with
    | false=>rfl
    | true=>exact absurd (Nat.eq_of_beq_eq_true hq) (hne a ver _ rfl)
   obtain ⟨a1,a2⟩:=dA hcs
   obtain ⟨_,a3⟩:=dA h.len
   have hb1:Nat.ble (0+es.length) (es++tl).length=true:=Nat.ble_eq_true_of_le (by simp)
   have hroom:room P e (es.length+[c].length)=true:=by
    simp only [room,hby,Bool.and_eq_true,Nat.ble_eq,Nat.blt_eq,List.length_cons,List.length_nil]
    exact ⟨h1,h2⟩
   have e1:decide ((i:Int)=((es.length:Nat):Int))=false:=decide_eq_false (by omega)
   have e2:decide ((i:Int)<0)=false:=decide_eq_false (by omega)
   have e3:decide (((es.length:Nat):Int)<(i:Int))=false:=decide_eq_false (by omega)
   refine ⟨.sl a (ver+1) n 0 (es.take i++c::es.drop i).length,⟨S.next,S.heap.put a (.row (ver+1) n (es.take i++c::es.drop i))⟩,?_,x.set p1 p2 w _,⟨.inr ⟨a,ver+1,[],rfl,p1,p2,?_⟩,hlen⟩,fun y _ hy=>Tr.get_put_neB _ _ _ _ trivial (hy a ver _ rfl)⟩
   ·unfold iA
    simp only [he,hx,hsz,h1n,Bool.false_or,e1,cond_false,hab,e2,e3,a1,a2,hz,Bool.and_self,Bool.not_true,aI p3,hb1,Nat.beq_refl,hroom,List.drop_zero,List.take_left',a3,cond_true,Int.toNat_natCast,hlt]
    rfl
   ·rw [List.append_nil];exact Tr.get_put_sameB _ _ _ trivial
theorem Own.insert {P:Program} {T:TypeId} {n b:Nat} (hT:apT P T=some (n,b)) (hn:1<n) {S0 S:St} {v:V} {es:List (List V)} (h:Own S0 S n v es) (x:Ext S0 S) (w:WF S0) {bx:Nat} {c:List V} (hb:aC S bx 0=.ok (n,[c]))
  (hne:∀ a ver m,v=.sl a ver n 0 m→a≠bx) (hc:c.length=n∧aF c=true) (h1:(es.length+1)*b≤35184372088832) (h2:es.length+1<eD) {i:Nat} (hi:i≤es.length):
  ∃ v' S',iA P T v (.int .i64 (i:Int)) (.sl bx 0 n 0 1) S=.ok (v',S')∧Ext S0 S'∧Own S0 S' n v' (es.take i++c::es.drop i):=by
 obtain ⟨v',S',q1,q2,q3,_⟩:=h.insertK hT hn x w hb hne hc h1 h2 hi
 exact ⟨v',S',q1,q2,q3⟩
theorem Own.delete {P:Program} {T e:TypeId} {n:Nat} {z:List V} (he:jS P T=some e) (hz:uH P e=some z) (hsz:sz P e=n) {S0 S:St} {v:V} {es:List (List V)} (h:Own S0 S n v es) (x:Ext S0 S) (w:WF S0)
  (h2:es.length<eD) {i:Nat} (hi:i<es.length):
  ∃ v' S',qU P T v (.int .i64 (i:Int)) (.int .i64 ((i:Int)+1)) S=.ok (v',S')∧Ext S0 S'∧Own S0 S' n v' (es.take i++es.drop (i+1)):=by
 have hlen:∀ d,d∈es.take i++es.drop (i+1)→d.length=n∧aF d=true:=by
  intro d hd
  rcases List.mem_append.1 hd with hd | hd
  ·exact h.len d (List.mem_of_mem_take hd)
  ·exact h.len d (List.mem_of_mem_drop hd)
 have hlt:(es.take i++es.drop (i+1)).length=es.length - 1:=by simp only [List.length_append,List.length_take,List.length_drop];omega
 rcases h.is with ⟨rfl,rfl⟩ | ⟨a,ver,tl,rfl,p1,p2,p3⟩
 ·simp at hi
 ·obtain ⟨_,a3⟩:=dA h.len
  have e1:decide ((i:Int)<0)=false:=decide_eq_false (by omega)
  have e2:decide ((i:Int)+1<(i:Int))=false:=decide_eq_false (by omega)
  have e3:decide (((es.length:Nat):Int)<(i:Int)+1)=false:=decide_eq_false (by omega)
  have e4:Nat.blt es.length eD=true:=Nat.ble_eq_true_of_le h2
  have e5:Nat.beq es.length 0=false:=by
   cases hq:Nat.beq es.length 0 with
   | false=>rfl
   | true=>have:=Nat.eq_of_beq_eq_true hq;omega
  have e6:decide ((i:Int)=(i:Int)+1)=false:=decide_eq_false (by omega)
  have hb1:Nat.ble (0+es.length) (es++tl).length=true:=Nat.ble_eq_true_of_le (by simp)
  have hj:((i:Int)+1).toNat=i+1:=by omega
  have hk:i+1 - i=1:=by omega
  have hrow:mH (es++tl) (0+i) (es.drop (i+1)++[z])=(es.take i++es.drop (i+1))++(z::tl):=by
   unfold mH
   rw [Nat.zero_add,List.take_append_of_le_length (by omega)]
   have:i+(es.drop (i+1)++[z]).length=es.length+0:=by simp only [List.length_append,List.length_drop,List.length_cons,List.length_nil];omega
   rw [this,List.drop_length_add_append]
   simp
  refine ⟨.sl a ver n 0 (es.length - 1),⟨S.next,S.heap.put a (.row ver n ((es.take i++es.drop (i+1))++(z::tl)))⟩,?_,x.set p1 p2 w _,⟨.inr ⟨a,ver,z::tl,by rw [hlt],p1,p2,Tr.get_put_sameB _ _ _ trivial⟩,hlen⟩⟩
  unfold qU
  simp only [he,e1,e2,e3,e4,e5,e6,Bool.or_false,Bool.not_true,cond_false,hz,hsz,aI p3,Nat.beq_refl,hb1,Bool.true_and,List.drop_zero,List.take_left',a3,cond_true,Int.toNat_natCast,hj,hk,List.replicate_one,hrow]
end Go.AM
namespace Go.AM
theorem Ext.newAt {S:St} {k:Nat} (hk:S.heap.get k=none) (hk2:k<S.next) (b:Blk):Ext S ⟨S.next,S.heap.put k b⟩:=by
 refine ⟨fun a d hd=>?_,Nat.le_refl _,fun w a d hd=>?_⟩
 ·show (S.heap.put k _).get a=some d
  rw [Tr.get_put_neB _ _ _ _ trivial (fun e=>by rw [e,hk] at hd;cases hd)];exact hd
 ·have hd':(S.heap.put k b).get a=some d:=hd
  rw [Tr.get_putB _ _ _ _ trivial] at hd'
  split at hd'
  ·show a<S.next;omega
  ·exact w a d hd'
end Go.AM
namespace Go.AM
theorem Own.other {S0 S S':St} {n:Nat} {v:V} {es:List (List V)} (h:Own S0 S n v es) (hn:S.next≤S'.next) (hg:∀ a ver m,v=.sl a ver n 0 m→S'.heap.get a=S.heap.get a):Own S0 S' n v es:=by
 refine ⟨?_,h.len⟩
 rcases h.is with h1 | ⟨a,ver,tl,h1,h2,h3,h4⟩
 ·exact .inl h1
 ·exact .inr ⟨a,ver,tl,h1,h2,Nat.lt_of_lt_of_le h3 hn,by rw [hg a ver _ h1];exact h4⟩
theorem Own.setK {S0 S:St} {n:Nat} {v:V} {es:List (List V)} (h:Own S0 S n v es) (x:Ext S0 S) (w:WF S0) {i:Nat} {cs:List V} (hi:es[i]?=some cs) (k:IntKind):
  ∃ a ver,v=.sl a ver n 0 es.length∧S0.next≤a∧a<S.next∧fI n v (.int k (i:Int))=.ok (.ptr a ver i 0)∧At S (.ptr a ver i 0) cs ∧
   ∀ (j m:Nat) (u:V),u.cells.length=m→aF u.cells=true→j+m≤n→∃ S',eH m (.ptr a ver i j) u S=.ok S'∧Ext S0 S'∧S'.next=S.next∧Own S0 S' n v (es.set i (splice cs j u.cells))∧(∀ y,y≠a→S'.heap.get y=S.heap.get y)∧(WF S→WF S'):=by
 have hil:i<es.length:=(List.getElem?_eq_some_iff.1 hi).1
 rcases h.is with ⟨rfl,rfl⟩ | ⟨a,ver,tl,rfl,q1,q2,q3⟩
 ·simp at hil
 ·obtain ⟨p,hp,hat,hset⟩:=h.set x w hi k
  have hpe:p=.ptr a ver (0+i) 0:=by
   simp only [fI,fX hil,if_true] at hp
   cases hp;rfl
  subst hpe
  rw [Nat.zero_add] at hp hat hset
  refine ⟨a,ver,rfl,q1,q2,hp,hat,fun j m u hu ho hj=>?_⟩
  obtain ⟨S',t1,t2,t3,t4,_⟩:=hset j m u hu ho hj
  have t1':eH m (.ptr a ver i j) u S=.ok S':=by
   have:adv j (.ptr a ver i 0)=.ptr a ver i j:=by simp only [adv,Nat.zero_add]
   rw [←this];exact t1
  have hS':∃ b,S'=⟨S.next,S.heap.put a b⟩:=by
   have hg:(es++tl)[i]?=some cs:=by rw [List.getElem?_append_left hil];exact hi
   simp only [eH,aI q3,hg] at t1'
   split at t1'
   ·cases t1';exact ⟨_,rfl⟩
   ·cases t1'
  obtain ⟨b,rfl⟩:=hS'
  refine ⟨_,t1',t2,rfl,t4,fun y hy=>Tr.get_put_neB _ _ _ _ trivial hy,fun ww y d hd=>?_⟩
  have hd':(S.heap.put a b).get y=some d:=hd
  rw [Tr.get_putB _ _ _ _ trivial] at hd'
  split at hd'
  ·show y<S.next;omega
  ·exact ww y d hd'
theorem aC1 {S:St} {a ver n:Nat} {el:List (List V)} (h:aC S a ver=.ok (n,el)):S.heap.get a=some (.row ver n el):=by
 unfold aC at h
 split at h
 ·rename_i v es elems hg
  rw [cond_eq_ite] at h
  split at h
  ·rename_i hb
   have:=Nat.eq_of_beq_eq_true hb
   cases h
   subst this
   exact hg
  ·cases h
 ·cases h
end Go.AM
end
section
set_option linter.unusedSimpArgs false
set_option linter.unusedVariables false
namespace Go.AM
structure D (b:Nat) (S S':St):Prop where
 next:S.next≤S'.next
 dead:∀ a,a<b→S.heap.get a=none→S'.heap.get a=none
section
variable {P:Program} {b:Nat} {S S':St} {fr:Option Nat}
end
end Go.AM
namespace Go.AM
end Go.AM
end
section
namespace Go.AM
section
section
variable {P:Program} {pl:iQ} {lv:bF6}
end
theorem Sl.nilv (S:St) (n:Nat):Sl S n .nils []:=⟨.inl ⟨rfl,rfl⟩,fun _ h=>by cases h⟩
structure But (a:Nat) (S S':St):Prop where
 old:∀ y b,y≠a→S.heap.get y=some b→S'.heap.get y=some b
 next:S.next≤S'.next
 wf:WF S→WF S'
theorem But.of {a:Nat} {S S':St} (x:Ext S S'):But a S S':=⟨fun y b _ h=>x.old y b h,x.next,x.wf⟩
theorem But.trans {a:Nat} {A B C:St} (h:But a A B) (k:But a B C):But a A C:=⟨fun y b hy q=>k.old y b hy (h.old y b hy q),Nat.le_trans h.next k.next,fun w=>k.wf (h.wf w)⟩
theorem But.put {a:Nat} {S:St} (ha:a<S.next) (b:Blk):But a S ⟨S.next,S.heap.put a b⟩:=by
 refine ⟨fun y c hy h=>?_,Nat.le_refl _,fun w y c hc=>?_⟩
 ·show (S.heap.put a b).get y=some c
  rw [Tr.get_put_neB _ _ _ _ trivial hy];exact h
 ·have hc':(S.heap.put a b).get y=some c:=hc
  rw [Tr.get_putB _ _ _ _ trivial] at hc'
  split at hc'
  ·show y<S.next;omega
  ·exact w y c hc'
def blkOf:V→Option Nat
 | .sl a _ _ _ _=>some a
 | _=>none
theorem cN {S0 S:St} {n:Nat} {v:V} {es:List (List V)} (h:Own S0 S n v es) {y:Nat} (hy:blkOf v=some y):S0.next≤y∧y<S.next:=by
 rcases h.is with ⟨e1,_⟩ | ⟨a,ver,tl,e1,e2,e3,_⟩
 ·rw [e1] at hy;cases hy
 ·rw [e1] at hy;cases hy;exact ⟨e2,e3⟩
theorem Own.same {S0 S S':St} {n:Nat} {v:V} {es:List (List V)} (h:Own S0 S n v es) (hn:S.next≤S'.next) (hg:∀ a,blkOf v=some a→S'.heap.get a=S.heap.get a):Own S0 S' n v es:=
 h.other hn fun a ver m hv=>hg a (by rw [hv];rfl)
theorem Own.pushAt {S0 S:St} {n b:Nat} {v:V} {es:List (List V)} (h:Own S0 S n v es) (x:Ext S0 S) (w:WF S0) {u:V} {cs:List (List V)} (hu:aM S u=.ok cs) (hc:∀ c,c∈cs→c.length=n∧aF c=true) (hne:cs≠[])
  {k:Nat} (hk:S0.next≤k) (hk2:k<S.next) (hk3:S.heap.get k=none)
  (h1:(es.length+cs.length)*b≤35184372088832) (h2:es.length+cs.length<eD):∃ v' S',fQ n b v u (some k) S=.ok (v',S')∧Ext S0 S'∧S'.next=S.next∧Own S0 S' n v' (es++cs)∧(blkOf v'=some k∨blkOf v'=blkOf v)∧∀ y,y≠k→blkOf v≠some y→S'.heap.get y=S.heap.get y:=by
 obtain ⟨a1,a2⟩:=dA hc
 have hlen:∀ c,c∈es++cs→c.length=n∧aF c=true:=fun c hm=>(List.mem_append.1 hm).elim (h.len c) (hc c)
 rcases h.is with ⟨rfl,rfl⟩ | ⟨a,ver,tl,rfl,q1,q2,q3⟩
 ·cases cs with
  | nil=>exact absurd rfl hne
  | cons c cs=>
   refine ⟨.sl k 0 n 0 (c::cs).length,⟨S.next,S.heap.put k (.row 0 n (c::cs))⟩,?_,x.trans (Ext.newAt hk3 hk2 _),rfl,⟨.inr ⟨k,0,[],rfl,hk,hk2,?_⟩,hlen⟩,.inl rfl,fun y hy _=>Tr.get_put_neB _ _ _ _ trivial hy⟩
   ·simp only [List.length_nil,Nat.zero_add] at h1 h2
    simp only [fQ,hu,a1,a2,and_self,if_true,h1,h2,uK]
   ·rw [List.append_nil];exact Tr.get_put_sameB _ _ _ trivial
 ·have hb:0+es.length≤es.length+tl.length:=by omega
  refine ⟨.sl a (ver+1) n 0 (es++cs).length,⟨S.next,S.heap.put a (.row (ver+1) n (es++cs))⟩,?_,x.set q1 q2 w _,rfl,⟨.inr ⟨a,ver+1,[],rfl,q1,q2,?_⟩,hlen⟩,.inr rfl,fun y _ hy=>Tr.get_put_neB _ _ _ _ trivial (fun e=>hy (by rw [e];rfl))⟩
  ·simp only [fQ,hu,a1,a2,and_self,if_true,aI q3,hb,h1,h2,List.drop_zero,List.take_left',List.length_append]
  ·rw [List.append_nil];exact Tr.get_put_sameB _ _ _ trivial
theorem vb {S:St} (w:WF S) (n:Nat) (zs:List V) (x:V) (hz:zs.length=n) (hx:x.cells.length=n) (ho:aF x.cells=true):
  ∃ S1 S2,bB none S (.row 0 n [zs])=.ok (S.next,S1)∧eH n (.ptr S.next 0 0 0) x S1=.ok S2∧Ext S S2∧S2.heap.get S.next=some (.row 0 n [x.cells])∧S2.next=S.next+1:=
 ⟨_,_,fJ ..,aQu S n zs x hz hx ho,Ext.var w n zs x.cells,aC1 (aY5 S n zs x.cells),rfl⟩
theorem Sl.keep {S S':St} {n:Nat} {v:V} {es:List (List V)} (h:Sl S n v es) (hg:∀ y c,blkOf v=some y→S.heap.get y=some c→S'.heap.get y=some c):Sl S' n v es:=by
 refine ⟨?_,h.len⟩
 rcases h.is with h1 | h1 | ⟨a,ver,off,elems,h1,h2,h3⟩
 ·exact .inl h1
 ·exact .inr (.inl h1)
 ·exact .inr (.inr ⟨a,ver,off,elems,h1,aI (hg a _ (by rw [h1];rfl) (aC1 h2)),h3⟩)
theorem Own.pushG {S0 S:St} {n b:Nat} {v:V} {es:List (List V)} (h:Own S0 S n v es) (x:Ext S0 S) (w:WF S0) {u:V} {cs:List (List V)} (hu:aM S u=.ok cs) (hc:∀ c,c∈cs→c.length=n∧aF c=true) (hne:cs≠[])
  (h1:(es.length+cs.length)*b≤35184372088832) (h2:es.length+cs.length<eD):∃ v' S',fQ n b v u none S=.ok (v',S')∧Ext S0 S'∧Own S0 S' n v' (es++cs)∧(blkOf v'=some S.next∨blkOf v'=blkOf v)∧(∀ y,y<S.next→blkOf v≠some y→S'.heap.get y=S.heap.get y)∧S.next≤S'.next:=by
 obtain ⟨a1,a2⟩:=dA hc
 have hlen:∀ c,c∈es++cs→c.length=n∧aF c=true:=fun c hm=>(List.mem_append.1 hm).elim (h.len c) (hc c)
 rcases h.is with ⟨rfl,rfl⟩ | ⟨a,ver,tl,rfl,q1,q2,q3⟩
 ·cases cs with
  | nil=>exact absurd rfl hne
  | cons c cs=>
   refine ⟨.sl S.next 0 n 0 (c::cs).length,⟨S.next+1,S.heap.put S.next (.row 0 n (c::cs))⟩,?_,x.trans (Ext.new (x.wf w) _),⟨.inr ⟨S.next,0,[],rfl,x.next,Nat.lt_succ_self _,?_⟩,hlen⟩,.inl rfl,fun y hy _=>Tr.get_put_neB _ _ _ _ trivial (by omega),Nat.le_succ _⟩
   ·simp only [List.length_nil,Nat.zero_add] at h1 h2
    simp only [fQ,hu,a1,a2,and_self,if_true,h1,h2,fJ]
   ·rw [List.append_nil];exact Tr.get_put_sameB _ _ _ trivial
 ·have hb:0+es.length≤es.length+tl.length:=by omega
  refine ⟨.sl a (ver+1) n 0 (es++cs).length,⟨S.next,S.heap.put a (.row (ver+1) n (es++cs))⟩,?_,x.set q1 q2 w _,⟨.inr ⟨a,ver+1,[],rfl,q1,q2,?_⟩,hlen⟩,.inr rfl,fun y _ hy=>Tr.get_put_neB _ _ _ _ trivial (fun e=>hy (by rw [e];rfl)),Nat.le_refl _⟩
  ·simp only [fQ,hu,a1,a2,and_self,if_true,aI q3,hb,h1,h2,List.drop_zero,List.take_left',List.length_append]
  ·rw [List.append_nil];exact Tr.get_put_sameB _ _ _ trivial
mutual
theorem uO:∀ v:V,eV v v=true
 | .bool b=>by simp [eV]
 | .int k n=>by simp [eV,cQ]
 | .str s=>by rw [eV];rw [dC];simp
 | .nilp=>rfl
 | .ptr a b c d=>by simp [eV]
 | .iptr a b=>by simp [eV,beqVs_refl a]
 | .nils=>rfl
 | .sl a b c d f=>by simp [eV]
 | .imm a=>by simp [eV,beqVss_refl a]
 | .agg a=>by simp [eV,beqVs_refl a]
 | .tup a=>by simp [eV,beqVs_refl a]
 | .nili=>rfl
 | .iface t a=>by simp [eV,uO a]
 | .nilf=>rfl
 | .func f a b=>by simp [eV,beqVs_refl a,beqVs_refl b]
 | .nilm=>rfl
 | .mp a=>by simp [eV]
 | .res a b=>by simp [eV]
theorem beqVs_refl:∀ l:List V,beqVs l l=true
 | []=>rfl
 | a::l=>by simp [beqVs,uO a,beqVs_refl l]
theorem beqVss_refl:∀ l:List (List V),beqVss l l=true
 | []=>rfl
 | a::l=>by simp [beqVss,beqVs_refl a,beqVss_refl l]
end
end
section
mutual
def nY:V→Bool
 | .ptr _ _ _ _=>false
 | .nils=>false
 | .sl _ _ _ _ _=>false
 | .agg cs=>cloVs cs
 | .tup cs=>cloVs cs
 | .iface _ v=>nY v
 | .func _ a b=>cloVs a&&cloVs b
 | .mp _=>false
 | _=>true
def cloVs:List V→Bool
 | []=>true
 | v::l=>nY v&&cloVs l
end
mutual
theorem mL {ρ:Nat→Option Nat} {σ:V→R V}:∀ (v:V),nY v=true→cF ρ σ v=.ok v
 | .bool _,_ | .int _ _,_ | .str _,_ | .nilp,_ | .iptr _ _,_ | .imm _,_ | .nili,_ | .nilf,_ | .nilm,_ | .res _ _,_=>rfl
 | .agg cs,h=>by simp only [cF,clo_frzs cs h]
 | .tup cs,h=>by simp only [cF,clo_frzs cs h]
 | .iface t v,h=>by simp only [cF,mL v h]
 | .func f a b,h=>by
  simp only [nY,Bool.and_eq_true] at h
  simp only [cF,clo_frzs a h.1,clo_frzs b h.2]
theorem clo_frzs {ρ:Nat→Option Nat} {σ:V→R V}:∀ (l:List V),cloVs l=true→frzVs ρ σ l=.ok l
 | [],_=>rfl
 | v::l,h=>by
  simp only [cloVs,Bool.and_eq_true] at h
  simp only [frzVs,mL v h.1,clo_frzs l h.2]
end
mutual
theorem uP:∀ (v:V),nY v=true→nF v=[]
 | .bool _,_ | .int _ _,_ | .str _,_ | .nilp,_ | .iptr _ _,_ | .imm _,_ | .nili,_ | .nilf,_ | .nilm,_ | .res _ _,_=>rfl
 | .agg cs,h=>clo_ptrs cs h
 | .tup cs,h=>clo_ptrs cs h
 | .iface t v,h=>uP v h
 | .func f a b,h=>by
  simp only [nY,Bool.and_eq_true] at h
  simp only [nF,clo_ptrs a h.1,clo_ptrs b h.2,List.append_nil]
theorem clo_ptrs:∀ (l:List V),cloVs l=true→ptrsVs l=[]
 | [],_=>rfl
 | v::l,h=>by
  simp only [cloVs,Bool.and_eq_true] at h
  simp only [ptrsVs,uP v h.1,clo_ptrs l h.2,List.append_nil]
end
mutual
theorem aA8 {τ:V→List Nat}:∀ (v:V),nY v=true→dX τ v=[]
 | .bool _,_ | .int _ _,_ | .str _,_ | .nilp,_ | .iptr _ _,_ | .imm _,_ | .nili,_ | .nilf,_ | .nilm,_ | .res _ _,_=>rfl
 | .agg cs,h=>clo_sls cs h
 | .tup cs,h=>clo_sls cs h
 | .iface t v,h=>aA8 v h
 | .func f a b,h=>by
  simp only [nY,Bool.and_eq_true] at h
  simp only [dX,clo_sls a h.1,clo_sls b h.2,List.append_nil]
theorem clo_sls {τ:V→List Nat}:∀ (l:List V),cloVs l=true→slsVs τ l=[]
 | [],_=>rfl
 | v::l,h=>by
  simp only [cloVs,Bool.and_eq_true] at h
  simp only [slsVs,aA8 v h.1,clo_sls l h.2,List.append_nil]
end
theorem aDc:aEm []=jL:=by funext i;cases i<;>rfl
theorem tJ (l:List Nat):(l.any fun a=>Nat.blt a 0)=false:=by
 rw [List.any_eq_false]
 intro a _
 simp
def lS (S:St) (v:V):R V:=cF jL (jU (gO S 3) S) v
theorem aT3 {run:List V→St→R (V×St)} {args:List V} (hc:cloVs args=true) {S S0:St} {v0 v:V} (h:run args ⟨0,.nil⟩=.ok (v0,S0)) (ho:lS S0 v0=.ok v):vD run args S=.ok (v,S):=by
 unfold vD
 have h1:gQ (ptrsVs args)=[]:=by rw [clo_ptrs args hc];rfl
 have h2:slsVs (iB (eW S 3) S) args=[]:=clo_sls args hc
 have ho':cF (aEm []) (jU (gO S0 3) S0) v0=.ok v:=by rw [aDc];exact ho
 rw [h1,h2]
 simp only [clo_frzs args hc,fV,cR,List.append_nil,List.any_nil,cond_false,List.length_nil,vC,h,ho',pH,tJ]
 cases iP v&&pK []<;>rfl
section
variable {P:Program} {pl:iQ}
def W (P:Program) (pl:iQ):aQ:=fun f args S K=>∃ v S',Evt (fun k=>eF P pl k f args S) (v,S')∧K v S'
theorem aLw:oK (eF P pl) (W P pl):=fun f args S K h=>h
theorem aEx {f:FuncId} {args:List V} {S S':St} {v:V} (h:Evt (fun k=>eF P pl k f args S) (v,S')) (K:KW):W P pl f args S K=K v S':=by
 refine propext ⟨?_,fun h1=>⟨v,S',h,h1⟩⟩
 rintro ⟨v1,S1,h1,h2⟩
 cases h.eq h1
 exact h2
theorem lT {f:FuncId} {args:List V} {S:St} {r:V×St} (h:Evt (fun k=>eF P pl (k+1) f args S) r):Evt (fun k=>eF P pl k f args S) r:=by
 obtain ⟨N,h⟩:=h
 refine ⟨N+1,fun k hk=>?_⟩
 obtain ⟨k,rfl⟩:∃ m,k=m+1:=⟨k - 1,by omega⟩
 exact h k (by omega)
theorem aLx {f:FuncId} {p:Nat→Option (List bJ)} (hpl:pl f=some (.code p)) {lv:Nat→List Nat} {args:List V} {S:St} {K:KW} (h:eY P (W P pl) p lv f args S K):W P pl f args S K:=by
 obtain ⟨v,S',h1,h2⟩:=jC aLw h
 exact ⟨v,S',lT (h1.one fun k h1=>by simp only [eF,hpl];exact h1),h2⟩
theorem aLy {f:FuncId} {g:List V→St→R (V×St)} (hpl:pl f=some (.spec g)) {args:List V} {S S':St} {v:V} (h:g args S=.ok (v,S')) (K:KW):W P pl f args S K=K v S':=
 aEx (lT (.of fun k=>by simp only [eF,hpl,h])) K
def Fn (P:Program) (pl:iQ) (f:FuncId) (args:List V) (v:V):Prop:=∀ S,Evt (fun k=>eF P pl k f args S) (v,S)
theorem Fn.eq {f:FuncId} {args:List V} {v:V} (h:Fn P pl f args v) (S:St) (K:KW):W P pl f args S K=K v S:=aEx (h S) K
theorem Fn.of {f:FuncId} {p:Nat→Option (List bJ)} (hpl:pl f=some (.val p)) {lv:Nat→List Nat} {args:List V} {v:V} (hc:cloVs args=true)
  (h:eY P (W P pl) p lv f args ⟨0,.nil⟩ fun v0 S0=>lS S0 v0=.ok v):Fn P pl f args v:=by
 obtain ⟨v0,S0,h1,h2⟩:=jC aLw h
 exact fun S=>lT (h1.one fun k h1=>by simp only [eF,hpl];exact aT3 hc h1 h2)
structure Pt (mk:Nat→List V):Prop where
 ptr:∀ a,gQ (ptrsVs (mk a))=[a]
 frz:∀ a σ,frzVs (fun b=>sM b 0 [a]) σ (mk a)=.ok (mk 0)
 sls:∀ a τ,slsVs τ (mk a)=[]
theorem Pt.head {ver i j:Nat} {args:List V} (hc:cloVs args=true):Pt fun a=>.ptr a ver i j::args:=
 ⟨fun a=>by simp only [ptrsVs,nF,clo_ptrs args hc];rfl,fun a σ=>by simp only [frzVs,cF,sM,Nat.beq_refl,cond_true,clo_frzs args hc],fun a τ=>by simp only [slsVs,dX,clo_sls args hc,List.append_nil]⟩
theorem Pt.next {v:V} {mk:Nat→List V} (hv:nY v=true) (h:Pt mk):Pt fun a=>v::mk a:=
 ⟨fun a=>by simp only [ptrsVs,uP v hv,List.nil_append];exact h.ptr a,fun a σ=>by simp only [frzVs,mL v hv,h.frz],fun a τ=>by simp only [slsVs,aA8 v hv,h.sls,List.append_nil]⟩
theorem Pt.func {f:FuncId} {ver i j:Nat} {args:List V} (hc:cloVs args=true):Pt fun a=>.func f [] [.ptr a ver i j]::args:=
 ⟨fun a=>by simp only [ptrsVs,nF,clo_ptrs args hc];rfl,fun a σ=>by simp only [frzVs,cF,sM,Nat.beq_refl,cond_true,clo_frzs args hc],fun a τ=>by simp only [slsVs,dX,clo_sls args hc,List.append_nil]⟩
def FnR (P:Program) (pl:iQ) (f:FuncId) (mk:Nat→List V) (ver n:Nat) (pre:List (List V)) (v:V) (post:List (List V)):Prop:=
 ∀ S a,S.heap.get a=some (.row ver n pre)→Evt (fun k=>eF P pl k f (mk a) S) (v,⟨S.next,S.heap.put a (.row ver n post)⟩)
theorem aNm {φ:List V→R (List V)}:∀ {l:List (List V)},(∀ x,x∈l→φ x=.ok x)→jT φ l=.ok l
 | [],_=>rfl
 | x::l,h=>by simp only [jT,h x (List.mem_cons_self ..),aNm fun y hy=>h y (List.mem_cons_of_mem _ hy)]
theorem aJr {φ:List V→List Nat}:∀ {l:List (List V)},(∀ x,x∈l→φ x=[])→iZ φ l=[]
 | [],_=>rfl
 | x::l,h=>by simp only [iZ,h x (List.mem_cons_self ..),aJr fun y hy=>h y (List.mem_cons_of_mem _ hy),List.append_nil]
theorem aY6 {S:St} {n:Nat} {x:List V} (h:cloVs x=true):gO S (n+1) x=.ok x:=clo_frzs x h
theorem aY7 {S:St} {n:Nat} {x:List V} (h:cloVs x=true):eW S (n+1) x=[]:=clo_sls x h
theorem gY {S:St} {n:Nat} {l:List (List V)} (h:l.all cloVs=true):jT (gO S (n+1)) l=.ok l∧iZ (eW S (n+1)) l=[]:=
 ⟨aNm fun x hx=>aY6 (List.all_eq_true.1 h x hx),aJr fun x hx=>aY7 (List.all_eq_true.1 h x hx)⟩
theorem aT4 {run:List V→St→R (V×St)} {mk:Nat→List V} (hm:Pt mk) {a ver n:Nat} {pre post post0:List (List V)} (hp:pre.all cloVs=true) {S S0:St} {v0 v:V} (hS:S.heap.get a=some (.row ver n pre))
  (h:run (mk 0) ⟨1,Tr.nil.put 0 (.row ver n pre)⟩=.ok (v0,S0)) (ho:∀ ρ,cF ρ (jU (gO S0 3) S0) v0=.ok v) (hs:(dX (iB (eW S0 3) S0) v0).any (fun a=>Nat.blt a 1)=false) (h0:S0.heap.get 0=some (.row ver n post0)) (hq:jT (gO S0 3) post0=.ok post)
  (hs2:(iZ (eW S0 3) post0).any (fun a=>Nat.blt a 1)=false):vD run (mk a) S=.ok (v,⟨S.next,S.heap.put a (.row ver n post)⟩):=by
 unfold vD
 obtain ⟨q1,q2⟩:=gY (S:=S) (n:=2) hp
 rw [hm.ptr,hm.sls]
 have hA:([]++cR S [a])=[]:=by simp only [cR,hS,q2,List.append_nil]
 have hB:(dX (iB (eW S0 3) S0) v0++cR S0 (pH 0 1)).any (fun a=>Nat.blt a 1)=false:=by
  simp only [pH,cR,h0,List.append_nil,List.any_append,hs,hs2,Bool.or_false]
 rw [hA]
 simp only [hm.frz,fV,hS,q1,List.any_nil,cond_false,List.length_cons,List.length_nil,Nat.zero_add,vC,h,ho,hB,nG]
 have:fV S0 (pH 0 1)=.ok [(ver,n,post)]:=by simp only [pH,fV,h0,hq]
 rw [this]
 simp only [pJ,nG]
 cases iP v&&pK [(ver,n,post)]<;>rfl
theorem FnR.of {f:FuncId} {p:Nat→Option (List bJ)} (hpl:pl f=some (.val p)) {lv:Nat→List Nat} {mk:Nat→List V} (hm:Pt mk) {ver n:Nat} {pre post:List (List V)} {v:V} (hp:pre.all cloVs=true)
  (h:eY P (W P pl) p lv f (mk 0) ⟨1,Tr.nil.put 0 (.row ver n pre)⟩ fun v0 S0=>v0=v∧S0.heap.get 0=some (.row ver n post)) (hv:nY v=true) (hq:post.all cloVs=true):FnR P pl f mk ver n pre v post:=by
 obtain ⟨v0,S0,h1,rfl,h2⟩:=jC aLw h
 intro S a hS
 obtain ⟨q1,q2⟩:=gY (S:=S0) (n:=2) hq
 refine lT (h1.one fun k h1=>?_)
 simp only [eF,hpl]
 exact aT4 hm hp hS h1 (fun ρ=>mL v0 hv) (by rw [aA8 v0 hv];rfl) h2 q1 (by rw [q2];rfl)
theorem FnR.eq {f:FuncId} {mk:Nat→List V} {ver n:Nat} {pre post:List (List V)} {v:V} (h:FnR P pl f mk ver n pre v post) {S:St} {a:Nat} (hS:S.heap.get a=some (.row ver n pre)) (K:KW):
  W P pl f (mk a) S K=K v ⟨S.next,S.heap.put a (.row ver n post)⟩:=aEx (h S a hS) K
theorem aDd {α:Type}:∀ (f:Nat) (t:Tr α) (n:Nat) (x:α),t.get n=some x→Tr.set f t n x=t
 | 0,t,n,x,_=>rfl
 | f+1,.nil,n,x,h=>by cases h
 | f+1,.node l v r,n,x,h=>by
  rw [Tr.get_node] at h
  simp only [Tr.set,cond_eq_ite,Nat.beq_eq]
  by_cases h0:n=0
  ·rw [if_pos h0] at h ⊢;rw [h]
  ·rw [if_neg h0] at h ⊢
   by_cases h1:n % 2=1
   ·rw [if_pos h1] at h ⊢;rw [aDd f l _ _ h]
   ·rw [if_neg h1] at h ⊢;rw [aDd f r _ _ h]
theorem aT5 {t:Tr Blk} {n:Nat} {x:Blk} (h:t.get n=some x):t.put n x=t:=aDd _ t n x h
theorem FnR.eq_same {f:FuncId} {mk:Nat→List V} {ver n:Nat} {pre:List (List V)} {v:V} (h:FnR P pl f mk ver n pre v pre) {S:St} {a:Nat} (hS:S.heap.get a=some (.row ver n pre)) (K:KW):W P pl f (mk a) S K=K v S:=by
 rw [h.eq hS K,aT5 hS]
theorem aT6 {run:List V→St→R (V×St)} {args bs:List V} {S:St} (hb:frzVs jL (jU (gO S 3) S) args=.ok bs) (hp:ptrsVs args=[]) {S0:St} {v0 v:V} (h:run bs ⟨0,.nil⟩=.ok (v0,S0)) (ho:lS S0 v0=.ok v)
  (hk:iP v=true∨slsVs (iB (eW S 3) S) args=[]):vD run args S=.ok (v,S):=by
 unfold vD
 have h1:gQ (ptrsVs args)=[]:=by rw [hp];rfl
 have ho':cF (aEm []) (jU (gO S0 3) S0) v0=.ok v:=by rw [aDc];exact ho
 have hi:(fun a=>sM a 0 ([]:List Nat))=jL:=rfl
 have hh:∀ l:List Nat,(l.any fun a=>gL a [])=false:=by intro l;rw [List.any_eq_false];intro a _;simp [gL]
 rw [h1]
 simp only [hi,hb,fV,cR,hh,cond_false,List.length_nil,vC,h,ho',pH,tJ,List.append_nil]
 rcases hk with hk | hk
 ·rw [hk];rfl
 ·rw [hk]
  cases iP v&&pK []<;>rfl
theorem Fn.frz {f:FuncId} {bs:List V} {v:V} (h:Fn P pl f bs v) {p:Nat→Option (List bJ)} (hpl:pl f=some (.val p)) (hc:cloVs bs=true) {args:List V} {S:St} (hb:frzVs jL (jU (gO S 3) S) args=.ok bs) (hp:ptrsVs args=[]) (hk:iP v=true∨slsVs (iB (eW S 3) S) args=[])
  (K:KW):W P pl f args S K=K v S:=by
 refine aEx ?_ K
 obtain ⟨N,h⟩:=h ⟨0,.nil⟩
 refine ⟨N+1,fun k hk'=>?_⟩
 obtain ⟨k,rfl⟩:∃ m,k=m+1:=⟨k - 1,by omega⟩
 have:=h (k+1) (by omega)
 simp only [eF,hpl] at this ⊢
 unfold vD at this
 have e1:gQ (ptrsVs bs)=[]:=by rw [clo_ptrs bs hc];rfl
 have e2:slsVs (iB (eW (⟨0,.nil⟩:St) 3) ⟨0,.nil⟩) bs=[]:=clo_sls bs hc
 rw [e1,e2] at this
 simp only [clo_frzs bs hc,fV,cR,List.append_nil,List.any_nil,cond_false,List.length_nil,vC,pH,tJ] at this
 split at this
 ·cases this
 ·rename_i v0 S0 hrun
  split at this
  ·cases this
  ·rename_i v' hv'
   have hv:v'=v:=(Prod.mk.inj (Except.ok.inj this)).1
   subst hv
   rw [aDc] at hv'
   exact aT6 hb hp hrun hv' hk
def tK (mask:List Nat) (v:V) (S2:St) (S:St):R (V×St):=match aBk S2 mask 0 S.next v.cells with
 | .error e=>.error e
 | .ok r=>match fV S2 r.2 with
  | .error e=>.error e
  | .ok rows=>match rF v r.1 with
   | .error e=>.error e
   | .ok v'=>bif aFc r.2&&!(vU S2 mask 0 v.cells++cR S2 r.2).any (fun a=>gL a r.2) then .ok (v',⟨S.next+r.2.length,nG (pH S.next r.2.length) rows S.heap⟩) else .error "blocks"
theorem bFf {f:FuncId} {p:Nat→Option (List bJ)} {mask:List Nat} (hpl:pl f=some (.own p mask)) (hm:gL kpN mask=false) {lv:Nat→List Nat} {args:List V} (hc:cloVs args=true) {S:St} {K:KW}
  (h:eY P (W P pl) p lv f args ⟨0,.nil⟩ fun v0 S0=>wR (tK mask v0 S0 S) fun r=>K r.1 r.2):W P pl f args S K:=by
 obtain ⟨v0,S0,h1,h2⟩:=jC aLw h
 obtain ⟨r,h3,h4⟩:=cA h2
 refine ⟨r.1,r.2,lT (h1.one fun k h1=>?_),h4⟩
 simp only [eF,hpl]
 unfold aLa aSe
 rw [hm]
 have e2:slsVs (iB (eW S 3) S) args=[]:=clo_sls args hc
 simp only [cond_false,clo_frzs args hc,h1,e2,pJ]
 exact h3
def FnK (P:Program) (pl:iQ) (f:FuncId) (bs:List V) (v:V):Prop:=∀ (S:St) (args:List V),frzVs jL (jU (gO S 3) S) args=.ok bs→Evt (fun k=>eF P pl k f args S) (v,S)
theorem FnK.of {f:FuncId} {p:Nat→Option (List bJ)} (hpl:pl f=some (.own p [kpN])) {lv:Nat→List Nat} {bs:List V} {v:V}
  (h:eY P (W P pl) p lv f bs ⟨0,.nil⟩ fun v0 S0=>aFd S0 v0=true∧lS S0 v0=.ok v):FnK P pl f bs v:=by
 obtain ⟨v0,S0,h1,h2,h3⟩:=jC aLw h
 intro S args hb
 refine lT (h1.one fun k h1=>?_)
 simp only [eF,hpl]
 have h3:cF jL (jU (gO S0 3) S0) v0=.ok v:=h3
 have hm:gL kpN [kpN]=true:=rfl
 unfold aLa aIu
 simp only [hm,cond_true,hb,h1,h3,h2]
theorem FnK.frz {f:FuncId} {bs:List V} {v:V} (h:FnK P pl f bs v) {S:St} {args:List V} (hb:frzVs jL (jU (gO S 3) S) args=.ok bs) (K:KW):W P pl f args S K=K v S:=aEx (h S args hb) K
theorem FnK.eq {f:FuncId} {bs:List V} {v:V} (h:FnK P pl f bs v) (hc:cloVs bs=true) (S:St) (K:KW):W P pl f bs S K=K v S:=aEx (h S bs (clo_frzs bs hc)) K
theorem bE0 {f:FuncId} {args:List V} {S:St} {K:KW} (h:W P pl f args S K):∃ k v S',K v S'∧eF P pl k f args S=.ok (v,S'):=by
 obtain ⟨v,S',⟨N,h⟩,k⟩:=h
 exact ⟨N,v,S',k,h N (Nat.le_refl _)⟩
theorem aFv {F:List V→St→(List V→St→Prop)→Prop} (n:Nat) (I:Nat→List V→St→Prop)
  (h:∀ i vs S,i≤n→I i vs S→∀ aD:List V→St→Prop,(∀ vs' S',i<n→I (i+1) vs' S'→aD vs' S')→F vs S aD) {vs:List V} {S:St} (h0:I 0 vs S):nI vs S F:=by
 have:∀ m i vs S,i+m=n→I i vs S→aAt (m+1) vs S F:=by
  intro m
  induction m with
  | zero=>intro i vs S hi hI;exact h i vs S (by omega) hI _ fun vs' S' hlt _=>by omega
  | succ m ih=>intro i vs S hi hI;exact h i vs S (by omega) hI _ fun vs' S' hlt hI'=>ih (i+1) vs' S' (by omega) hI'
 exact ⟨n+1,this n 0 vs S (by omega) h0⟩
theorem jD {F:List V→St→(List V→St→Prop)→Prop} (I:Nat→List V→St→Prop)
  (h:∀ i vs S,I i vs S→∀ aD:List V→St→Prop,(∀ j vs' S',j<i→I j vs' S'→aD vs' S')→F vs S aD) {n:Nat} {vs:List V} {S:St} (h0:I n vs S):nI vs S F:=by
 refine aFv n (fun i vs S=>∃ j,j+i≤n∧I j vs S) ?_ ⟨n,by omega,h0⟩
 rintro i vs S hi ⟨j,hj,hI⟩ aD ha
 exact h j vs S hI aD fun j' vs' S' hlt hI'=>ha vs' S' (by omega) ⟨j',by omega,hI'⟩
theorem aH {F:List V→St→(List V→St→Prop)→Prop} {α σ ρ:Type} (l:List α) {step:σ→α→ρ⊕σ} {fin:σ→ρ} (I:Nat→σ→List V→St→Prop) (E:ρ→Prop)
  (hs:∀ i a s vs S,l[i]?=some a→I i s vs S→∀ aD:List V→St→Prop,(match step s a with
   | .inl r=>E r
   | .inr s'=>∀ vs' S',I (i+1) s' vs' S'→aD vs' S')→F vs S aD)
  (he:∀ s vs S,I l.length s vs S→∀ aD:List V→St→Prop,E (fin s)→F vs S aD) {s:σ} {vs:List V} {S:St} (h0:I 0 s vs S) (hE:E (aE step fin l s)):nI vs S F:=by
 refine aFv l.length (fun i vs S=>∃ s,I i s vs S∧E (aE step fin (l.drop i) s)) ?_ ⟨s,h0,hE⟩
 rintro i vs S hi ⟨s,hI,hE⟩ aD ha
 by_cases hl:i=l.length
 ·subst hl
  rw [List.drop_length] at hE
  exact he s vs S hI aD hE
 ·have hlt:i<l.length:=by omega
  have ha':l[i]?=some l[i]:=List.getElem?_eq_getElem hlt
  rw [List.drop_eq_getElem_cons hlt] at hE
  refine hs i _ s vs S ha' hI aD ?_
  simp only [aE] at hE
  split
  ·rename_i r hr
   rw [hr] at hE;exact hE
  ·rename_i s' hr
   rw [hr] at hE
   exact fun vs' S' hI'=>ha vs' S' hlt ⟨s',hI',hE⟩
end
end
section
theorem aJs {d t:Nat} (h:d≠t):Nat.beq d t=false:=Bool.eq_false_iff.2 fun h'=>h (Nat.eq_of_beq_eq_true h')
theorem aT7 {α:Type} {x y:R α} (K:α→Prop) (h:x=y):wR x K=wR y K:=by rw [h]
theorem aT8 {α:Type} {x y:Option α} (K:α→Prop) (h:x=y):wO x K=wO y K:=by rw [h]
theorem aQv {b c:Bool} (x:Prop) (h:b=c):yO b x=yO c x:=by rw [h]
theorem aJt {v w:V} (x y:Prop) (h:v=w):bX v x y=bX w x y:=by rw [h]
theorem aLz {v w:V} (i:Nat) (K:V→Prop) (h:v=w):lQ v i K=lQ w i K:=by rw [h]
theorem aQw {v w:List V} (K:V→List V→Prop) (h:v=w):wUn v K=wUn w K:=by rw [h]
theorem aM0 {v w:V} (x:Prop) (h:v=w):aA5 v x=aA5 w x:=by rw [h]
theorem aJu {vs ws:List V} {S T:St} (F:List V→St→(List V→St→Prop)→Prop) (h:vs=ws) (g:S=T):nI vs S F=nI ws T F:=by rw [h,g]
theorem aY8 (P:Program) (pl:iQ) (f:FuncId) {a b:List V} {S T:St} (K:KW) (h:a=b) (g:S=T):W P pl f a S K=W P pl f b T K:=by rw [h,g]
attribute [congr] aY8 aT7 aT8 aQv aJt aLz aQw aM0 aJu
def wG:List Oper→Nat→(Nat→Prop)→Prop
 | [],_,_=>False
 | o::_,0,K=>wO o.dst K
 | _::l,j+1,K=>wG l j K
def wI:List Oper→Nat→(Oper→Prop)→Prop
 | [],_,_=>False
 | o::_,0,K=>K o
 | _::l,j+1,K=>wI l j K
theorem aFw (K:Oper→Prop):∀ (l:List Oper) (j:Nat),wO l.toArray[j]? K=wI l j K
 | [],j=>by simp [wO,wI]
 | o::l,0=>by simp [wO,wI]
 | o::l,j+1=>by rw [wI,←aFw K l j];simp
theorem aT9 (K:Nat→Prop):∀ (l:List Oper) (j:Nat),wO (mS l.toArray j) K=wG l j K
 | [],j=>by simp [wO,wG,mS]
 | o::l,0=>by simp [wG,mS]
 | o::l,j+1=>by rw [wG,←aT9 K l j];simp [mS]
def hl {α:Type} (a:α):α:=a
theorem aZw {α:Type} (a:α):hl a=a:=Eq.trans rfl rfl
def wLn:List Oper→List Nat→Nat→(Nat→Prop)→Prop
 | [],[],i,K=>K i
 | [],k::_,i,K=>K k
 | _::l,[],i,K=>wLn l [] (i+1) K
 | _::l,_::ks,i,K=>wLn l ks (i+1) K
def wQ:Nat→List Nat→Prop
 | _,[]=>True
 | i,k::l=>k=i∧wQ (i+1) l
theorem aM1 (K:Nat→Prop):∀ (l:List Oper) (ks:List Nat) (i:Nat),wQ i ks→wLn l ks i K=K (i+l.length)
 | [],[],i,h=>rfl
 | [],k::ks,i,h=>by rw [wLn,h.1];rfl
 | o::l,[],i,h=>by rw [wLn,aM1 K l [] (i+1) trivial];congr 1;simp;omega
 | o::l,k::ks,i,h=>by rw [wLn,aM1 K l ks (i+1) h.2];congr 1;simp;omega
def wLv:List (Nat×List Nat)→Nat→(List Nat→Prop)→Prop
 | [],_,K=>K []
 | (i,l)::r,j,K=>match Nat.beq i j with
  | true=>K l
  | false=>wLv r j K
def fB:List (Nat×List Nat)→Nat→List Nat
 | [],_=>[]
 | (i,l)::r,j=>match Nat.beq i j with
  | true=>l
  | false=>fB r j
theorem aM2 (K:List Nat→Prop):∀ (t:List (Nat×List Nat)) (j:Nat),wLv t j K=K (fB t j)
 | [],j=>rfl
 | (i,l)::r,j=>by
  simp only [wLv,fB,aM2 K r j]
  cases Nat.beq i j<;>rfl
theorem aQx {j k:Nat} (t:List (Nat×List Nat)) (K:List Nat→Prop) (h:j=k):wLv t j K=wLv t k K:=by rw [h]
attribute [congr] aQx
def wSt:List (Nat×List bJ)→Nat→(List bJ→Prop)→Prop→Prop
 | [],_,_,x=>x
 | (i,l)::r,j,K,x=>match Nat.beq i j with
  | true=>K l
  | false=>wSt r j K x
def dP (t:List (Nat×List bJ)) (id:Nat):Option (List bJ):=iI id t
section
variable (P:Program) (C:aQ) (n:Nat)
def yQ (ops:Array Oper) (base:Nat):List Oper→List Nat→Nat→List Nat→aP→St→mK→Prop
 | [],_,_,_,e,S,K=>K e S
 | o::l,[],i,sk,e,S,K=>kM P C n ops sk o (some (base+i)) e S fun ran _ e' S'=>yQ ops base l [] (i+1) (yL ran i sk) e' S' K
 | o::l,k::ks,i,sk,e,S,K=>kM P C n ops sk o (some (base+k)) e S fun ran _ e' S'=>yQ ops base l ks (i+1) (yL ran k sk) e' S' K
def aHt (ops:Array Oper):List Oper→List Nat→Nat→List Nat→aP→St→mK→Prop
 | [],_,_,_,e,S,K=>K e S
 | o::l,[],i,sk,e,S,K=>kM P C n ops sk o none e S fun ran _ e' S'=>aHt ops l [] (i+1) (yL ran i sk) e' S' K
 | o::l,k::ks,i,sk,e,S,K=>kM P C n ops sk o none e S fun ran _ e' S'=>aHt ops l ks (i+1) (yL ran k sk) e' S' K
theorem oL {ops:Array Oper} {sk:List Nat} {o:Oper} {fr:Option Nat} {e:aP} {S:St} {K K':Bool→V→aP→St→Prop} (h:∀ b v e S,K b v e S=K' b v e S):kM P C n ops sk o fr e S K=kM P C n ops sk o fr e S K':=by
 rw [show K=K' from funext fun b=>funext fun v=>funext fun e=>funext fun S=>h b v e S]
def rO:Nat→Nat→List bJ
 | _,0=>[]
 | i,k+1=>(i,[])::rO (i+1) k
theorem aB0:∀ (k i:Nat),rO i (k+1)=rO i k++[(i+k,[])]
 | 0,i=>rfl
 | k+1,i=>by
  rw [rO,aB0 k (i+1),rO]
  simp only [List.cons_append,Nat.add_assoc,Nat.add_comm 1 k]
theorem aJw:∀ k,aIt k=rO 0 k
 | 0=>rfl
 | k+1=>by rw [aIt,aJw k,aB0,Nat.zero_add]
theorem aDe (ops:Array Oper) (base:Nat) (K:mK):∀ (l:List Oper) (ks:List Nat) (i:Nat) (sk:List Nat) (recs:List sR) (e:aP) (S:St),wQ i ks→(∀ k,ops[i+k]?=l[k]?)→sI P C n ops base (rO i l.length) sk recs e S K=yQ P C n ops base l ks i sk e S K
 | [],ks,i,sk,recs,e,S,_,h=>by cases ks<;>rfl
 | o::l,ks,i,sk,recs,e,S,hk,h=>by
  have h0:ops[i]?=some o:=h 0
  cases ks with
  | nil=>
   simp only [List.length_cons,rO,sI,yQ,h0,wO,rN]
   exact oL P C n fun b v e S=>aDe ops base K l [] (i+1) _ _ e S trivial fun k=>by have:=h (k+1);rw [show i+1+k=i+(k+1) by omega,this];simp
  | cons k ks=>
   obtain ⟨rfl,hk⟩:=hk
   simp only [List.length_cons,rO,sI,yQ,h0,wO,rN]
   exact oL P C n fun b v e S=>aDe ops base K l ks (k+1) _ _ e S hk fun j=>by have:=h (j+1);rw [show k+1+j=k+(j+1) by omega,this];simp
theorem aHu (ops:Array Oper) (K:mK):∀ (l:List Oper) (ks:List Nat) (i:Nat) (sk:List Nat) (e:aP) (S:St),wQ i ks→aLs P C n ops l i sk e S K=aHt P C n ops l ks i sk e S K
 | [],ks,i,sk,e,S,_=>by cases ks<;>rfl
 | o::l,[],i,sk,e,S,hk=>by
  simp only [aLs,aHt]
  exact oL P C n fun b v e S=>aHu ops K l [] (i+1) _ e S trivial
 | o::l,k::ks,i,sk,e,S,hk=>by
  obtain ⟨rfl,hk⟩:=hk
  simp only [aLs,aHt]
  exact oL P C n fun b v e S=>aHu ops K l ks (k+1) _ e S hk
def aM4 (id:Nat) (Kn:mK) (Kx:KXW):KXW:=fun j e S=>match Nat.beq j id with
 | true=>Kn e S
 | false=>Kx j e S
def aZx (p:Nat→Option (List bJ)) (lv:Nat→List Nat) (a:Code) (e:aP) (Kx:KXW) (Kr:mK) (vs:List V) (S:St) (aD:List V→St→Prop):Prop:=
 aHs (lv (bF a)) vs (e.filt fun t=>!mJ a t) fun e=>dY P C n p lv a e S (fun e S=>nJ e (lv (bF a)) fun vs=>aD vs S) Kx Kr
end
section
variable {P:Program} {C:aQ} {n:Nat} {tp:List (Nat×List bJ)} {tl:List (Nat×List Nat)}
theorem aNn:(∀ (e:aP) (t:Nat) (K:V→Prop),wO (ev e (.tmp t)) K=wO (e.get t) K)∧(∀ (e:aP) (v:Value) (K:V→Prop),wO (ev e (.const v)) K=wO (ofValue v) K)∧(∀ (e:aP) (f:Nat) (K:V→Prop),wO (ev e (.func f)) K=K (.func f [] [])) ∧
  (∀ (e:aP) (t:Nat) (v:V) (K:V→Prop),wO ((e.put t v).get t) K=K v)∧(∀ (b:Bool) (K:V→Prop),wO (ofValue (.bool b)) K=K (.bool b))∧(∀ (k:IntKind) (i:Int) (K:V→Prop),wO (ofValue (.int k i)) K=K (.int k i)) ∧
  (∀ (l:List UInt8) (K:V→Prop),wO (ofValue (.string ⟨l.toArray⟩)) K=K (.str l))∧(∀ (K:V→Prop),wO (ofValue (.slice none 0 0)) K=K .nils)∧(∀ (K:V→Prop),wO (ofValue (.pointer none)) K=K .nilp)∧(∀ (K:V→Prop),wO (ofValue .nilIface) K=K .nili)∧(∀ (K:V→Prop),wO (ofValue .nilFunc) K=K .nilf)∧(∀ (K:V→Prop),wO (ofValue (.map none)) K=K .nilm) ∧
  (∀ (l:List Value) (K:V→Prop),wO (ofValue (.agg l.toArray)) K=wO (lY l) fun xs=>K (.agg xs))∧(∀ (K:List V→Prop),wO (lY []) K=K [])∧(∀ (v:Value) (l:List Value) (K:List V→Prop),wO (lY (v::l)) K=wO (pI v) fun x=>wO (lY l) fun xs=>K (x::xs)) ∧
  (∀ (b:Bool) (K:V→Prop),wO (pI (.bool b)) K=K (.bool b))∧(∀ (k:IntKind) (i:Int) (K:V→Prop),wO (pI (.int k i)) K=K (.int k i))∧(∀ (l:List UInt8) (K:V→Prop),wO (pI (.string ⟨l.toArray⟩)) K=K (.str l))∧(∀ (K:V→Prop),wO (pI (.slice none 0 0)) K=K .nils)∧(∀ (K:V→Prop),wO (pI (.pointer none)) K=K .nilp) ∧
  (∀ (e:aP) (K:List V→Prop),wO (qO (ev e) []) K=K [])∧(∀ (e:aP) (x:Operand) (l:List Operand) (K:List V→Prop),wO (qO (ev e) (x::l)) K=wO (ev e x) fun v=>wO (qO (ev e) l) fun vs=>K (v::vs)) ∧
  (∀ (e:aP) (K:List (Nat×V)→Prop),wO (nC (ev e) []) K=K [])∧(∀ (e:aP) (i:Nat) (x:Operand) (l:List (Nat×Operand)) (K:List (Nat×V)→Prop),wO (nC (ev e) ((i,x)::l)) K=wO (ev e x) fun v=>wO (nC (ev e) l) fun vs=>K ((i,v)::vs)) ∧
  (∀ (e:aP) (K:Option V→Prop),wO (evO (ev e) none) K=K none)∧(∀ (e:aP) (x:Operand) (K:Option V→Prop),wO (evO (ev e) (some x)) K=wO (ev e x) fun v=>K (some v)):=by
 refine ⟨fun _ _ _=>rfl,fun _ _ _=>rfl,fun _ _ _=>rfl,fun e t v K=>by rw [Tr.get_put_sameB _ _ _ trivial];rfl,fun _ _=>rfl,fun _ _ _=>rfl,fun l K=>by simp [ofValue,pI,wO],fun _=>rfl,fun _=>rfl,fun _=>rfl,fun _=>rfl,fun _=>rfl,
  fun l K=>?_,fun _=>rfl,fun v l K=>?_,fun _ _=>rfl,fun _ _ _=>rfl,fun l K=>by simp [pI,wO],fun _=>rfl,fun _=>rfl,fun _ _=>rfl,fun e x l K=>?_,fun _ _=>rfl,fun e i x l K=>?_,fun _ _=>rfl,fun e x K=>?_⟩
 ·simp only [ofValue];cases lY l<;>rfl
 ·simp only [lY]
  cases pI v with
  | none=>rfl
  | some x=>cases lY l<;>rfl
 ·simp only [qO]
  cases ev e x with
  | none=>rfl
  | some x=>cases qO (ev e) l<;>rfl
 ·simp only [nC]
  cases ev e x with
  | none=>rfl
  | some x=>cases nC (ev e) l<;>rfl
 ·simp only [evO];cases ev e x<;>rfl
theorem aZy {t d:Nat} (h:¬ t=d) (e:aP) (v:V) (K:V→Prop):wO ((e.put d v).get t) K=wO (e.get t) K:=by rw [Tr.get_put_neB _ _ _ _ trivial h]
theorem bFg {t d:Nat} (h:t<d) (e:aP) (v:V) (K:V→Prop):wO ((e.put d v).get t) K=wO (e.get t) K:=aZy (Nat.ne_of_lt h) e v K
theorem aZz {t d:Nat} (h:d<t) (e:aP) (v:V) (K:V→Prop):wO ((e.put d v).get t) K=wO (e.get t) K:=aZy (Nat.ne_of_gt h) e v K
def pL (l:List Code) (t:Nat):Bool:=l.any fun a=>mJ a t
def dL (l:List Oper) (r:List Code) (t:Nat):Bool:=aD6 l t||pL r t
theorem aY9 (a:Code) (r:List Code) (t:Nat):pL (a::r) t=(mJ a t||pL r t):=by simp [pL]
theorem aTa {a:Code} {t:Nat} (h:pL [a] t=false) (e:aP) (K:V→Prop):wO ((e.filt fun t=>!mJ a t).get t) K=wO (e.get t) K:=by
 have h:mJ a t=false:=by simpa [pL] using h
 rw [tG,if_pos (by rw [h];rfl)]
theorem aNo:(∀ t,pL [] t=false)∧(∀ (a b:Code) (r:List Code) (t:Nat),pL (.seq a b::r) t=pL (a::b::r) t)∧(∀ (c:Operand) (a b:Code) (r:List Code) (t:Nat),pL (.cond c a b::r) t=pL (a::b::r) t)∧(∀ (i:Nat) (a:Code) (r:List Code) (t:Nat),pL (.block i a::r) t=pL (a::r) t) ∧
  (∀ (a:Code) (r:List Code) (t:Nat),pL (.loop a::r) t=pL (a::r) t)∧(∀ (r:List Code) (t:Nat),pL (.skip::r) t=pL r t)∧(∀ (r:List Code) (t:Nat),pL (.ret::r) t=pL r t)∧(∀ (i:Nat) (r:List Code) (t:Nat),pL (.exit i::r) t=pL r t)∧(∀ (i:Nat) (r:List Code) (t:Nat),pL (.label i::r) t=pL r t) ∧
  (∀ (id:Nat) (l:List Oper) (d:Bool) (r:List Code) (t:Nat),pL (.region id l.toArray d::r) t=dL l r t)∧(∀ (r:List Code) (t:Nat),dL [] r t=pL r t)∧(∀ (op:Op) (ty:TypeId) (pos:String) (aft:Array Edge) (g:Option (Nat×Bool)) (l:List Oper) (r:List Code) (t:Nat),dL (⟨none,op,ty,pos,aft,g⟩::l) r t=dL l r t):=by
 refine ⟨fun _=>rfl,fun a b r t=>?_,fun c a b r t=>?_,fun i a r t=>?_,fun a r t=>?_,fun r t=>?_,fun r t=>?_,fun i r t=>?_,fun i r t=>?_,fun id l d r t=>?_,fun r t=>?_,fun op ty pos aft g l r t=>?_⟩
 all_goals simp only [aY9,mJ,dL,aD6,Bool.false_or,Bool.or_assoc]
theorem aTb {d t:Nat} (h:¬ t=d) (op:Op) (ty:TypeId) (pos:String) (aft:Array Edge) (g:Option (Nat×Bool)) (l:List Oper) (r:List Code):dL (⟨some d,op,ty,pos,aft,g⟩::l) r t=dL l r t:=by
 simp only [dL,aD6,aJs (Ne.symm h),Bool.false_or]
theorem bA0 {d t:Nat} (h:t<d) (op:Op) (ty:TypeId) (pos:String) (aft:Array Edge) (g:Option (Nat×Bool)) (l:List Oper) (r:List Code):dL (⟨some d,op,ty,pos,aft,g⟩::l) r t=dL l r t:=aTb (Nat.ne_of_lt h) ..
theorem aTc {d t:Nat} (h:d<t) (op:Op) (ty:TypeId) (pos:String) (aft:Array Edge) (g:Option (Nat×Bool)) (l:List Oper) (r:List Code):dL (⟨some d,op,ty,pos,aft,g⟩::l) r t=dL l r t:=aTb (Nat.ne_of_gt h) ..end
def tL (P:Program) (u:TypeId):Bool:=match P.underlying u with
 | some (.slice _)=>true
 | some .string=>true
 | _=>false
theorem aM5 {α:Type} (x:Option α) {K K':α→Prop} (h:∀ a,K a=K' a):wO x K=wO x K':=by rw [show K=K' from funext h]
theorem aYa (e:aP) (x:Operand) (K:List V→Prop):wO (qO (ev e) [x]) K=wO (ev e x) fun v=>K [v]:=by simp only [qO];cases ev e x<;>rfl
theorem aYb (e:aP) (x y:Operand) (K:List V→Prop):wO (qO (ev e) [x,y]) K=wO (ev e x) fun v=>wO (ev e y) fun w=>K [v,w]:=by
 simp only [qO]
 cases ev e x with
 | none=>rfl
 | some a=>cases ev e y<;>rfl
theorem aNp (P:Program) (C:aQ):(∀ (x:Operand) (d:Option Tmp) (ty:TypeId) (pos:String) (aft:Array Edge) (g:Option (Nat×Bool)) (fr:Option Nat) (e:aP) (S:St) (K:KW),jM P C ⟨d,.move x,ty,pos,aft,g⟩ fr e S K=wO (ev e x) fun v=>K v S) ∧
  (∀ (x:Operand) (d:Option Tmp) (ty:TypeId) (pos:String) (aft:Array Edge) (g:Option (Nat×Bool)) (fr:Option Nat) (e:aP) (S:St) (K:KW),jM P C ⟨d,.assign x,ty,pos,aft,g⟩ fr e S K=wO (ev e x) fun v=>K v S) ∧
  (∀ (c a b:Operand) (d:Option Tmp) (ty:TypeId) (pos:String) (aft:Array Edge) (g:Option (Nat×Bool)) (fr:Option Nat) (e:aP) (S:St) (K:KW),jM P C ⟨d,.pick c a b,ty,pos,aft,g⟩ fr e S K=wO (ev e c) fun c=>wO (ev e a) fun a=>wO (ev e b) fun b=>wR (hl (aJk c a b)) fun v=>K v S) ∧
  (∀ (t:TypeId) (d:Option Tmp) (ty:TypeId) (pos:String) (aft:Array Edge) (g:Option (Nat×Bool)) (fr:Option Nat) (e:aP) (S:St) (K:KW),jM P C ⟨d,.alloc t,ty,pos,aft,g⟩ fr e S K=wO (aJ P t) fun z=>wR (hl (bB fr S (.row 0 z.cells.length [z.cells]))) fun r=>K (.ptr r.1 0 0 0) r.2) ∧
  (∀ (u:TypeId) (x:Operand) (d:Option Tmp) (ty:TypeId) (pos:String) (aft:Array Edge) (g:Option (Nat×Bool)) (fr:Option Nat) (e:aP) (S:St) (K:KW),jM P C ⟨d,.box u x,ty,pos,aft,g⟩ fr e S K=wO (ev e x) fun v=>yO (hl (aF v.cells)) (wR (hl (bB fr S (.row 0 v.cells.length [v.cells]))) fun r=>K (.ptr r.1 0 0 0) r.2)) ∧
  (∀ (t:TypeId) (ps:List (Nat×Operand)) (d:Option Tmp) (ty:TypeId) (pos:String) (aft:Array Edge) (g:Option (Nat×Bool)) (fr:Option Nat) (e:aP) (S:St) (K:KW),jM P C ⟨d,.build t ps.toArray,ty,pos,aft,g⟩ fr e S K=wO (nC (ev e) ps) fun vs=>wR (hl (pB P t vs)) fun v=>K v S) ∧
  (∀ (t:TypeId) (m:Nat) (ps:List (Nat×Operand)) (d:Option Tmp) (ty:TypeId) (pos:String) (aft:Array Edge) (g:Option (Nat×Bool)) (fr:Option Nat) (e:aP) (S:St) (K:KW),jM P C ⟨d,.buildSlice t m ps.toArray,ty,pos,aft,g⟩ fr e S K=wO (nC (ev e) ps) fun vs=>wR (hl (cV P t m vs fr S)) fun r=>K r.1 r.2) ∧
  (∀ (t:TypeId) (a:Operand) (d:Option Tmp) (ty:TypeId) (pos:String) (aft:Array Edge) (g:Option (Nat×Bool)) (fr:Option Nat) (e:aP) (S:St) (K:KW),jM P C ⟨d,.load t a,ty,pos,aft,g⟩ fr e S K=wO (ev e a) fun p=>wR (hl (mE P t p S)) fun v=>K v S) ∧
  (∀ (t:TypeId) (a x:Operand) (d:Option Tmp) (ty:TypeId) (pos:String) (aft:Array Edge) (g:Option (Nat×Bool)) (fr:Option Nat) (e:aP) (S:St) (K:KW),jM P C ⟨d,.store t a x,ty,pos,aft,g⟩ fr e S K=wO (ev e a) fun p=>wO (ev e x) fun v=>wR (hl (pA P t p v S)) fun S'=>K (.tup []) S') ∧
  (∀ (x:Operand) (d:Option Tmp) (ty:TypeId) (pos:String) (aft:Array Edge) (g:Option (Nat×Bool)) (fr:Option Nat) (e:aP) (S:St) (K:KW),jM P C ⟨d,.nilCheck x,ty,pos,aft,g⟩ fr e S K=wO (ev e x) fun v=>aA5 (hl v) (K v S)) ∧
  (∀ (t u:TypeId) (x y:Operand) (d:Option Tmp) (ty:TypeId) (pos:String) (aft:Array Edge) (g:Option (Nat×Bool)) (fr:Option Nat) (e:aP) (S:St) (K:KW),jM P C ⟨d,.binOp .add t x y u,ty,pos,aft,g⟩ fr e S K=wO (ev e x) fun a=>wO (ev e y) fun b=>wR (hl (bQ P .add t a b)) fun v=>K v S) ∧
  (∀ (t u:TypeId) (x y:Operand) (d:Option Tmp) (ty:TypeId) (pos:String) (aft:Array Edge) (g:Option (Nat×Bool)) (fr:Option Nat) (e:aP) (S:St) (K:KW),jM P C ⟨d,.binOp .sub t x y u,ty,pos,aft,g⟩ fr e S K=wO (ev e x) fun a=>wO (ev e y) fun b=>wR (hl (bQ P .sub t a b)) fun v=>K v S) ∧
  (∀ (t u:TypeId) (x y:Operand) (d:Option Tmp) (ty:TypeId) (pos:String) (aft:Array Edge) (g:Option (Nat×Bool)) (fr:Option Nat) (e:aP) (S:St) (K:KW),jM P C ⟨d,.binOp .mul t x y u,ty,pos,aft,g⟩ fr e S K=wO (ev e x) fun a=>wO (ev e y) fun b=>wR (hl (bQ P .mul t a b)) fun v=>K v S) ∧
  (∀ (t u:TypeId) (x y:Operand) (d:Option Tmp) (ty:TypeId) (pos:String) (aft:Array Edge) (g:Option (Nat×Bool)) (fr:Option Nat) (e:aP) (S:St) (K:KW),jM P C ⟨d,.binOp .quo t x y u,ty,pos,aft,g⟩ fr e S K=wO (ev e x) fun a=>wO (ev e y) fun b=>wR (hl (bQ P .quo t a b)) fun v=>K v S) ∧
  (∀ (t u:TypeId) (x y:Operand) (d:Option Tmp) (ty:TypeId) (pos:String) (aft:Array Edge) (g:Option (Nat×Bool)) (fr:Option Nat) (e:aP) (S:St) (K:KW),jM P C ⟨d,.binOp .rem t x y u,ty,pos,aft,g⟩ fr e S K=wO (ev e x) fun a=>wO (ev e y) fun b=>wR (hl (bQ P .rem t a b)) fun v=>K v S) ∧
  (∀ (t u:TypeId) (x y:Operand) (d:Option Tmp) (ty:TypeId) (pos:String) (aft:Array Edge) (g:Option (Nat×Bool)) (fr:Option Nat) (e:aP) (S:St) (K:KW),jM P C ⟨d,.binOp .and t x y u,ty,pos,aft,g⟩ fr e S K=wO (ev e x) fun a=>wO (ev e y) fun b=>wR (hl (bQ P .and t a b)) fun v=>K v S) ∧
  (∀ (t u:TypeId) (x y:Operand) (d:Option Tmp) (ty:TypeId) (pos:String) (aft:Array Edge) (g:Option (Nat×Bool)) (fr:Option Nat) (e:aP) (S:St) (K:KW),jM P C ⟨d,.binOp .or t x y u,ty,pos,aft,g⟩ fr e S K=wO (ev e x) fun a=>wO (ev e y) fun b=>wR (hl (bQ P .or t a b)) fun v=>K v S) ∧
  (∀ (t u:TypeId) (x y:Operand) (d:Option Tmp) (ty:TypeId) (pos:String) (aft:Array Edge) (g:Option (Nat×Bool)) (fr:Option Nat) (e:aP) (S:St) (K:KW),jM P C ⟨d,.binOp .xor t x y u,ty,pos,aft,g⟩ fr e S K=wO (ev e x) fun a=>wO (ev e y) fun b=>wR (hl (bQ P .xor t a b)) fun v=>K v S) ∧
  (∀ (t u:TypeId) (x y:Operand) (d:Option Tmp) (ty:TypeId) (pos:String) (aft:Array Edge) (g:Option (Nat×Bool)) (fr:Option Nat) (e:aP) (S:St) (K:KW),jM P C ⟨d,.binOp .andNot t x y u,ty,pos,aft,g⟩ fr e S K=wO (ev e x) fun a=>wO (ev e y) fun b=>wR (hl (bQ P .andNot t a b)) fun v=>K v S) ∧
  (∀ (t u:TypeId) (x y:Operand) (d:Option Tmp) (ty:TypeId) (pos:String) (aft:Array Edge) (g:Option (Nat×Bool)) (fr:Option Nat) (e:aP) (S:St) (K:KW),jM P C ⟨d,.binOp .shl t x y u,ty,pos,aft,g⟩ fr e S K=wO (ev e x) fun a=>wO (ev e y) fun b=>wR (hl (bQ P .shl t a b)) fun v=>K v S) ∧
  (∀ (t u:TypeId) (x y:Operand) (d:Option Tmp) (ty:TypeId) (pos:String) (aft:Array Edge) (g:Option (Nat×Bool)) (fr:Option Nat) (e:aP) (S:St) (K:KW),jM P C ⟨d,.binOp .shr t x y u,ty,pos,aft,g⟩ fr e S K=wO (ev e x) fun a=>wO (ev e y) fun b=>wR (hl (bQ P .shr t a b)) fun v=>K v S) ∧
  (∀ (t u:TypeId) (x y:Operand) (d:Option Tmp) (ty:TypeId) (pos:String) (aft:Array Edge) (g:Option (Nat×Bool)) (fr:Option Nat) (e:aP) (S:St) (K:KW),jM P C ⟨d,.binOp .lss t x y u,ty,pos,aft,g⟩ fr e S K=wO (ev e x) fun a=>wO (ev e y) fun b=>wR (hl (bQ P .lss t a b)) fun v=>K v S) ∧
  (∀ (t u:TypeId) (x y:Operand) (d:Option Tmp) (ty:TypeId) (pos:String) (aft:Array Edge) (g:Option (Nat×Bool)) (fr:Option Nat) (e:aP) (S:St) (K:KW),jM P C ⟨d,.binOp .leq t x y u,ty,pos,aft,g⟩ fr e S K=wO (ev e x) fun a=>wO (ev e y) fun b=>wR (hl (bQ P .leq t a b)) fun v=>K v S) ∧
  (∀ (t u:TypeId) (x y:Operand) (d:Option Tmp) (ty:TypeId) (pos:String) (aft:Array Edge) (g:Option (Nat×Bool)) (fr:Option Nat) (e:aP) (S:St) (K:KW),jM P C ⟨d,.binOp .gtr t x y u,ty,pos,aft,g⟩ fr e S K=wO (ev e x) fun a=>wO (ev e y) fun b=>wR (hl (bQ P .gtr t a b)) fun v=>K v S) ∧
  (∀ (t u:TypeId) (x y:Operand) (d:Option Tmp) (ty:TypeId) (pos:String) (aft:Array Edge) (g:Option (Nat×Bool)) (fr:Option Nat) (e:aP) (S:St) (K:KW),jM P C ⟨d,.binOp .geq t x y u,ty,pos,aft,g⟩ fr e S K=wO (ev e x) fun a=>wO (ev e y) fun b=>wR (hl (bQ P .geq t a b)) fun v=>K v S) ∧
  (∀ (t u:TypeId) (x y:Operand) (d:Option Tmp) (ty:TypeId) (pos:String) (aft:Array Edge) (g:Option (Nat×Bool)) (fr:Option Nat) (e:aP) (S:St) (K:KW),jM P C ⟨d,.binOp .eql t x y u,ty,pos,aft,g⟩ fr e S K=wO (ev e x) fun a=>wO (ev e y) fun b=>yO (hl (gP P t x y a b)) (wR (hl (bQ P .eql t a b)) fun v=>K v S)) ∧
  (∀ (t u:TypeId) (x y:Operand) (d:Option Tmp) (ty:TypeId) (pos:String) (aft:Array Edge) (g:Option (Nat×Bool)) (fr:Option Nat) (e:aP) (S:St) (K:KW),jM P C ⟨d,.binOp .neq t x y u,ty,pos,aft,g⟩ fr e S K=wO (ev e x) fun a=>wO (ev e y) fun b=>yO (hl (gP P t x y a b)) (wR (hl (bQ P .neq t a b)) fun v=>K v S)) ∧
  (∀ (o:UnOp) (t:TypeId) (x:Operand) (d:Option Tmp) (ty:TypeId) (pos:String) (aft:Array Edge) (g:Option (Nat×Bool)) (fr:Option Nat) (e:aP) (S:St) (K:KW),jM P C ⟨d,.unOp o t x,ty,pos,aft,g⟩ fr e S K=wO (ev e x) fun v=>wR (hl (unV o v)) fun v=>K v S) ∧
  (∀ (s u:TypeId) (x:Operand) (d:Option Tmp) (ty:TypeId) (pos:String) (aft:Array Edge) (g:Option (Nat×Bool)) (fr:Option Nat) (e:aP) (S:St) (K:KW),jM P C ⟨d,.convert s u x,ty,pos,aft,g⟩ fr e S K=wO (ev e x) fun v=>wR (hl (dJ P s u v fr S)) fun r=>K r.1 r.2) ∧
  (∀ (t:TypeId) (l c:Operand) (d:Option Tmp) (ty:TypeId) (pos:String) (aft:Array Edge) (g:Option (Nat×Bool)) (fr:Option Nat) (e:aP) (S:St) (K:KW),jM P C ⟨d,.makeSlice t l c,ty,pos,aft,g⟩ fr e S K=wO (ev e l) fun l=>wO (ev e c) fun c=>wR (hl (eL P t l c fr S)) fun r=>K r.1 r.2) ∧
  (∀ (t:TypeId) (x:Operand) (lo hi:Option Operand) (d:Option Tmp) (ty:TypeId) (pos:String) (aft:Array Edge) (g:Option (Nat×Bool)) (fr:Option Nat) (e:aP) (S:St) (K:KW),jM P C ⟨d,.slice t x lo hi none,ty,pos,aft,g⟩ fr e S K=wO (ev e x) fun v=>wO (evO (ev e) lo) fun l=>wO (evO (ev e) hi) fun h=>wR (hl (iY P t v l h)) fun v=>K v S) ∧
  (∀ (s:TypeId) (x:Operand) (f:Nat) (d:Option Tmp) (ty:TypeId) (pos:String) (aft:Array Edge) (g:Option (Nat×Bool)) (fr:Option Nat) (e:aP) (S:St) (K:KW),jM P C ⟨d,.fieldAddr s x f,ty,pos,aft,g⟩ fr e S K=wO (ev e x) fun p=>wR (hl (dM P s p f)) fun v=>K v S) ∧
  (∀ (s:TypeId) (x:Operand) (f:Nat) (d:Option Tmp) (ty:TypeId) (pos:String) (aft:Array Edge) (g:Option (Nat×Bool)) (fr:Option Nat) (e:aP) (S:St) (K:KW),jM P C ⟨d,.field s x f,ty,pos,aft,g⟩ fr e S K=wO (ev e x) fun p=>wR (hl (aCk P s p f)) fun v=>K v S) ∧
  (∀ (t:TypeId) (x i:Operand) (d:Option Tmp) (ty:TypeId) (pos:String) (aft:Array Edge) (g:Option (Nat×Bool)) (fr:Option Nat) (e:aP) (S:St) (K:KW),jM P C ⟨d,.indexAddr t x i,ty,pos,aft,g⟩ fr e S K=wO (ev e x) fun v=>wO (ev e i) fun k=>wR (hl (cY P t v k)) fun v=>K v S) ∧
  (∀ (t:TypeId) (x i:Operand) (d:Option Tmp) (ty:TypeId) (pos:String) (aft:Array Edge) (g:Option (Nat×Bool)) (fr:Option Nat) (e:aP) (S:St) (K:KW),jM P C ⟨d,.index t x i,ty,pos,aft,g⟩ fr e S K=wO (ev e x) fun v=>wO (ev e i) fun k=>wR (hl (aCj P t v k)) fun v=>K v S) ∧
  (∀ (t:TypeId) (x:Operand) (d:Option Tmp) (ty:TypeId) (pos:String) (aft:Array Edge) (g:Option (Nat×Bool)) (fr:Option Nat) (e:aP) (S:St) (K:KW),jM P C ⟨d,.range t x,ty,pos,aft,g⟩ fr e S K=wO (ev e x) fun v=>yO (hl (aHq P t)) (wR (hl (aHr v fr S)) fun r=>K r.1 r.2)) ∧
  (∀ (it:Operand) (isS:Bool) (d:Option Tmp) (ty:TypeId) (pos:String) (aft:Array Edge) (g:Option (Nat×Bool)) (fr:Option Nat) (e:aP) (S:St) (K:KW),jM P C ⟨d,.next it isS,ty,pos,aft,g⟩ fr e S K=wO (ev e it) fun v=>yO (hl isS) (wR (hl (yK v S)) fun r=>K r.1 r.2)) ∧
  (∀ (t:TypeId) (d:Option Tmp) (ty:TypeId) (pos:String) (aft:Array Edge) (g:Option (Nat×Bool)) (fr:Option Nat) (e:aP) (S:St) (K:KW),jM P C ⟨d,.makeMap t none,ty,pos,aft,g⟩ fr e S K=wR (hl (bB fr S (.mp []))) fun r=>K (.mp r.1) r.2) ∧
  (∀ (t:TypeId) (m k:Operand) (ok:Bool) (d:Option Tmp) (ty:TypeId) (pos:String) (aft:Array Edge) (g:Option (Nat×Bool)) (fr:Option Nat) (e:aP) (S:St) (K:KW),jM P C ⟨d,.lookup t m k ok,ty,pos,aft,g⟩ fr e S K=wO (ev e m) fun m=>wO (ev e k) fun k=>wR (hl (xN P t m k ok S)) fun v=>K v S) ∧
  (∀ (t:TypeId) (m k v:Operand) (d:Option Tmp) (ty:TypeId) (pos:String) (aft:Array Edge) (g:Option (Nat×Bool)) (fr:Option Nat) (e:aP) (S:St) (K:KW),jM P C ⟨d,.mapUpdate t m k v,ty,pos,aft,g⟩ fr e S K=wO (ev e m) fun m=>wO (ev e k) fun k=>wO (ev e v) fun v=>wR (hl (mZ P t m k v S)) fun S'=>K (.tup []) S') ∧
  (∀ (f:FuncId) (a b:List Operand) (d:Option Tmp) (ty:TypeId) (pos:String) (aft:Array Edge) (g:Option (Nat×Bool)) (fr:Option Nat) (e:aP) (S:St) (K:KW),jM P C ⟨d,.makeFunc (.func f) a.toArray b.toArray,ty,pos,aft,g⟩ fr e S K=wO (qO (ev e) a) fun a=>wO (qO (ev e) b) fun b=>K (.func f a b) S) ∧
  (∀ (x:Operand) (u t:TypeId) (ok:Bool) (d:Option Tmp) (ty:TypeId) (pos:String) (aft:Array Edge) (g:Option (Nat×Bool)) (fr:Option Nat) (e:aP) (S:St) (K:KW),jM P C ⟨d,.typeAssert x u t ok,ty,pos,aft,g⟩ fr e S K=wO (ev e x) fun v=>wR (hl (xO P v t ok)) fun v=>K v S) ∧
  (∀ (t:Operand) (i:Nat) (d:Option Tmp) (ty:TypeId) (pos:String) (aft:Array Edge) (g:Option (Nat×Bool)) (fr:Option Nat) (e:aP) (S:St) (K:KW),jM P C ⟨d,.extract t i,ty,pos,aft,g⟩ fr e S K=wO (ev e t) fun v=>lQ (hl v) i fun v=>K v S) ∧
  (∀ (f:FuncId) (a:List Operand) (ts:Array TypeId) (d:Option Tmp) (ty:TypeId) (pos:String) (aft:Array Edge) (g:Option (Nat×Bool)) (fr:Option Nat) (e:aP) (S:St) (K:KW),jM P C ⟨d,.call ⟨.value (.func f),a.toArray,ts⟩,ty,pos,aft,g⟩ fr e S K=wO (qO (ev e) a) fun args=>kT P C f args S K) ∧
  (∀ (t:Tmp) (a:List Operand) (ts:Array TypeId) (d:Option Tmp) (ty:TypeId) (pos:String) (aft:Array Edge) (g:Option (Nat×Bool)) (fr:Option Nat) (e:aP) (S:St) (K:KW),jM P C ⟨d,.call ⟨.value (.tmp t),a.toArray,ts⟩,ty,pos,aft,g⟩ fr e S K=wO (ev e (.tmp t)) fun v=>wO (qO (ev e) a) fun args=>aSx P C v args S K) ∧
  (∀ (x:Operand) (t:TypeId) (ts:List TypeId) (d:Option Tmp) (ty:TypeId) (pos:String) (aft:Array Edge) (g:Option (Nat×Bool)) (fr:Option Nat) (e:aP) (S:St) (K:KW),jM P C ⟨d,.call ⟨.builtin .len,[x].toArray,(t::ts).toArray⟩,ty,pos,aft,g⟩ fr e S K=wO (ev e x) fun x=>wR (hl (zU P t x S)) fun v=>K v S) ∧
  (∀ (a:List Operand) (ts:Array TypeId) (d:Option Tmp) (ty:TypeId) (pos:String) (aft:Array Edge) (g:Option (Nat×Bool)) (fr:Option Nat) (e:aP) (S:St) (K:KW),jM P C ⟨d,.call ⟨.builtin .min,a.toArray,ts⟩,ty,pos,aft,g⟩ fr e S K=wO (qO (ev e) a) fun args=>wR (hl (aSc args)) fun v=>K v S) ∧
  (∀ (a:List Operand) (ts:Array TypeId) (d:Option Tmp) (ty:TypeId) (pos:String) (aft:Array Edge) (g:Option (Nat×Bool)) (fr:Option Nat) (e:aP) (S:St) (K:KW),jM P C ⟨d,.call ⟨.builtin .max,a.toArray,ts⟩,ty,pos,aft,g⟩ fr e S K=wO (qO (ev e) a) fun args=>wR (hl (aSd args)) fun v=>K v S) ∧
  (∀ (s x:Operand) (t u:TypeId) (ts:List TypeId) (d:Option Tmp) (ty:TypeId) (pos:String) (aft:Array Edge) (g:Option (Nat×Bool)) (fr:Option Nat) (e:aP) (S:St) (K:KW),jM P C ⟨d,.call ⟨.builtin .append,[s,x].toArray,(t::u::ts).toArray⟩,ty,pos,aft,g⟩ fr e S K=wO (ev e s) fun s=>wO (ev e x) fun x=>yO (hl (tL P u)) (wR (hl (fP P t s x fr S)) fun r=>K r.1 r.2)) ∧
  (∀ (x:Operand) (t:TypeId) (ts:List TypeId) (d:Option Tmp) (ty:TypeId) (pos:String) (aft:Array Edge) (g:Option (Nat×Bool)) (fr:Option Nat) (e:aP) (S:St) (K:KW),jM P C ⟨d,.call ⟨.builtin .clear,[x].toArray,(t::ts).toArray⟩,ty,pos,aft,g⟩ fr e S K=wO (ev e x) fun x=>wR (hl (aCl P t x S)) fun r=>K r.1 r.2):=by
 refine ⟨?_,?_,?_,?_,?_,?_,?_,?_,?_,?_,?_,?_,?_,?_,?_,?_,?_,?_,?_,?_,?_,?_,?_,?_,?_,?_,?_,?_,?_,?_,?_,?_,?_,?_,?_,?_,?_,?_,?_,?_,?_,?_,?_,?_,?_,?_,?_,?_,?_,?_⟩
 all_goals intros
 all_goals first
  | rfl
  | (simp only [hl];refine (aYa _ _ _).trans (aM5 _ fun v=>?_);simp only [aD7,List.getElem?_toArray,List.getElem?_cons_zero,wO])
  | (simp only [hl];refine (aYb _ _ _ _).trans (aM5 _ fun v=>aM5 _ fun w=>?_);simp only [aD7,List.getElem?_toArray,List.getElem?_cons_zero,List.getElem?_cons_succ,wO,tL];split<;>simp [yO, *];done)
  | (simp only [jM,ev,aSx,wO,List.nil_append,List.append_nil];done)
  | skip
def sO (j:Nat) (sk:List Nat) (x y:Prop):Prop:=match aSu j sk with
 | true=>x
 | false=>y
theorem bA1 {i j:Nat} (h:¬ j=i) (l:List Nat) (x y:Prop):sO j (i::l) x y=sO j l x y:=by simp only [sO,aSu,aJs (Ne.symm h)]
theorem bFh {i j:Nat} (h:j<i) (l:List Nat) (x y:Prop):sO j (i::l) x y=sO j l x y:=bA1 (Nat.ne_of_lt h) l x y
theorem bA2 {i j:Nat} (h:i<j) (l:List Nat) (x y:Prop):sO j (i::l) x y=sO j l x y:=bA1 (Nat.ne_of_gt h) l x y
theorem aTd {i j:Nat} (h:¬ j=i) (l:List Nat) (r:List (Nat×List Nat)) (K:List Nat→Prop):wLv ((i,l)::r) j K=wLv r j K:=by simp only [wLv,aJs (Ne.symm h)]
theorem bA3 {i j:Nat} (h:j<i) (l:List Nat) (r:List (Nat×List Nat)) (K:List Nat→Prop):wLv ((i,l)::r) j K=wLv r j K:=aTd (Nat.ne_of_lt h) l r K
theorem aTe {i j:Nat} (h:i<j) (l:List Nat) (r:List (Nat×List Nat)) (K:List Nat→Prop):wLv ((i,l)::r) j K=wLv r j K:=aTd (Nat.ne_of_gt h) l r K
theorem aTf {i j:Nat} (h:¬ j=i) (l:List bJ) (r:List (Nat×List bJ)) (K:List bJ→Prop) (x:Prop):wSt ((i,l)::r) j K x=wSt r j K x:=by simp only [wSt,aJs (Ne.symm h)]
theorem bA4 {i j:Nat} (h:j<i) (l:List bJ) (r:List (Nat×List bJ)) (K:List bJ→Prop) (x:Prop):wSt ((i,l)::r) j K x=wSt r j K x:=aTf (Nat.ne_of_lt h) l r K x
theorem aTg {i j:Nat} (h:i<j) (l:List bJ) (r:List (Nat×List bJ)) (K:List bJ→Prop) (x:Prop):wSt ((i,l)::r) j K x=wSt r j K x:=aTf (Nat.ne_of_gt h) l r K x
theorem aNq {i j:Nat} (h:¬ j=i) (Kn:mK) (Kx:KXW) (e:aP) (S:St):aM4 i Kn Kx j e S=Kx j e S:=by simp only [aM4,aJs h]
theorem aTh {i j:Nat} (h:j<i) (Kn:mK) (Kx:KXW) (e:aP) (S:St):aM4 i Kn Kx j e S=Kx j e S:=aNq (Nat.ne_of_lt h) Kn Kx e S
theorem aNr {i j:Nat} (h:i<j) (Kn:mK) (Kx:KXW) (e:aP) (S:St):aM4 i Kn Kx j e S=Kx j e S:=aNq (Nat.ne_of_gt h) Kn Kx e S
theorem aTi {d n:Nat} (h:d<n) (e:aP) (v:V) (K:aP→Prop):sN n (some d) e v K=K (e.put d v):=by simp only [sN,show Nat.blt d n=true by rw [Nat.blt_eq];exact h]
theorem aM6 (i:Nat):Nat.beq i i=true:=Nat.beq_refl i
theorem aFx {i j:Nat} (h:¬ i=j) (P:Program) (C:aQ) (ops:Array Oper) (S:St) (K:Prop) (o:Oper) (e:aP) (ran:Bool) (v:V) (recs:List sR):dU P C ops i S K (yM P o j e ran v recs)=dU P C ops i S K recs:=by
 unfold yM
 split
 ·simp only [dU,aJs h]
 ·rfl
theorem aJx {i j:Nat} (h:i<j) (P:Program) (C:aQ) (ops:Array Oper) (S:St) (K:Prop) (o:Oper) (e:aP) (ran:Bool) (v:V) (recs:List sR):dU P C ops i S K (yM P o j e ran v recs)=dU P C ops i S K recs:=aFx (Nat.ne_of_lt h) P C ops S K o e ran v recs
theorem aFy {i j:Nat} (h:j<i) (P:Program) (C:aQ) (ops:Array Oper) (S:St) (K:Prop) (o:Oper) (e:aP) (ran:Bool) (v:V) (recs:List sR):dU P C ops i S K (yM P o j e ran v recs)=dU P C ops i S K recs:=aFx (Nat.ne_of_gt h) P C ops S K o e ran v recs
theorem aTj (K:List bJ→Prop) (x:Prop) (id:Nat):∀ t:List (Nat×List bJ),wSt t id K x=(match dP t id with
  | some l=>K l
  | none=>x)
 | []=>rfl
 | (i,l)::r=>by
  have ih:=aTj K x id r
  unfold dP at ih ⊢
  by_cases h:i=id
  ·subst h;simp only [wSt,iI,aM6,cond_true]
  ·simp only [wSt,iI,aJs h,aJs (Ne.symm h),cond_false,ih]
theorem aFz (P:Program) (C:aQ) (n:Nat) (tp:List (Nat×List bJ)) (lv:Nat→List Nat) (id:Nat) (l:List Oper) (e:aP) (S:St) (Kn:mK) (Kx:KXW) (Kr:mK):
  dY P C n (dP tp) lv (.region id l.toArray true) e S Kn Kx Kr=wLn l [0,1,2,3,4,5,6,7,8,9,10,11,12,13,14,15,16,17,18,19,20,21,22,23,24,25,26,27,28,29,30,31,32,33,34,35,36,37,38,39,40,41,42,43,44,45,46,47,48,49,50,51,52,53,54,55,56,57,58,59,60,61,62,63,64,65,66,67,68,69,70,71,72,73,74,75,76,77,78,79,80,81,82,83,84,85,86,87,88,89,90,91,92,93,94,95,96,97,98,99,100,101,102,103,104,105,106,107,108,109,110,111,112,113,114,115,116,117,118,119,120,121,122,123,124,125,126,127,128,129,130,131,132,133,134,135,136,137,138,139,140,141,142,143,144,145,146,147,148,149,150,151,152,153,154,155,156,157,158,159,160] 0 fun k=>wSt tp id (fun st=>sI P C n l.toArray S.next st [] [] e ⟨S.next+k,S.heap⟩ Kn) (yQ P C n l.toArray S.next l [0,1,2,3,4,5,6,7,8,9,10,11,12,13,14,15,16,17,18,19,20,21,22,23,24,25,26,27,28,29,30,31,32,33,34,35,36,37,38,39,40,41,42,43,44,45,46,47,48,49,50,51,52,53,54,55,56,57,58,59,60,61,62,63,64,65,66,67,68,69,70,71,72,73,74,75,76,77,78,79,80,81,82,83,84,85,86,87,88,89,90,91,92,93,94,95,96,97,98,99,100,101,102,103,104,105,106,107,108,109,110,111,112,113,114,115,116,117,118,119,120,121,122,123,124,125,126,127,128,129,130,131,132,133,134,135,136,137,138,139,140,141,142,143,144,145,146,147,148,149,150,151,152,153,154,155,156,157,158,159,160] 0 [] e ⟨S.next+k,S.heap⟩ Kn):=by
 have hu:wQ 0 [0,1,2,3,4,5,6,7,8,9,10,11,12,13,14,15,16,17,18,19,20,21,22,23,24,25,26,27,28,29,30,31,32,33,34,35,36,37,38,39,40,41,42,43,44,45,46,47,48,49,50,51,52,53,54,55,56,57,58,59,60,61,62,63,64,65,66,67,68,69,70,71,72,73,74,75,76,77,78,79,80,81,82,83,84,85,86,87,88,89,90,91,92,93,94,95,96,97,98,99,100,101,102,103,104,105,106,107,108,109,110,111,112,113,114,115,116,117,118,119,120,121,122,123,124,125,126,127,128,129,130,131,132,133,134,135,136,137,138,139,140,141,142,143,144,145,146,147,148,149,150,151,152,153,154,155,156,157,158,159,160]:=by simp only [wQ,and_self]
 generalize [0,1,2,3,4,5,6,7,8,9,10,11,12,13,14,15,16,17,18,19,20,21,22,23,24,25,26,27,28,29,30,31,32,33,34,35,36,37,38,39,40,41,42,43,44,45,46,47,48,49,50,51,52,53,54,55,56,57,58,59,60,61,62,63,64,65,66,67,68,69,70,71,72,73,74,75,76,77,78,79,80,81,82,83,84,85,86,87,88,89,90,91,92,93,94,95,96,97,98,99,100,101,102,103,104,105,106,107,108,109,110,111,112,113,114,115,116,117,118,119,120,121,122,123,124,125,126,127,128,129,130,131,132,133,134,135,136,137,138,139,140,141,142,143,144,145,146,147,148,149,150,151,152,153,154,155,156,157,158,159,160]=ks at hu ⊢
 rw [aM1 _ _ _ _ hu,aTj,Nat.zero_add]
 simp only [dY,List.size_toArray]
 cases dP tp id with
 | some st=>rfl
 | none=>
  show sI P C n l.toArray S.next (aIt l.length) [] [] e _ Kn=_
  rw [aJw]
  exact aDe P C n l.toArray S.next Kn l ks 0 [] [] e _ hu fun k=>by simp
theorem aG0 (P:Program) (C:aQ) (n:Nat) (p:Nat→Option (List bJ)) (tl:List (Nat×List Nat)) (a:Code) (e:aP) (S:St) (Kn:mK) (Kx:KXW) (Kr:mK):
  dY P C n p (fB tl) (.loop a) e S Kn Kx Kr=wLv tl (bF a) fun ts=>nJ e ts fun vs=>nI (hl vs) S (aZx P C n p (fB tl) a e Kx Kr):=by rw [aM2];rfl
theorem aTk (P:Program) (C:aQ) (n:Nat) (p:Nat→Option (List bJ)) (tl:List (Nat×List Nat)) (a:Code) (e:aP) (Kx:KXW) (Kr:mK) (vs:List V) (S:St) (aD:List V→St→Prop):
  aZx P C n p (fB tl) a e Kx Kr vs S aD=wLv tl (bF a) fun ts=>aHs ts vs (e.filt fun t=>!mJ a t) fun e=>dY P C n p (fB tl) a e S (fun e S=>nJ e ts fun vs=>aD vs S) Kx Kr:=by rw [aM2];rfl
theorem aNs (P:Program) (C:aQ):
  (∀ (n:Nat) (p:Nat→Option (List bJ)) (lv:Nat→List Nat) (e:aP) (S:St) (Kn:mK) (Kx:KXW) (Kr:mK),dY P C n p lv .skip e S Kn Kx Kr=Kn e S) ∧
  (∀ (n:Nat) (p:Nat→Option (List bJ)) (lv:Nat→List Nat) (l:Nat) (e:aP) (S:St) (Kn:mK) (Kx:KXW) (Kr:mK),dY P C n p lv (.label l) e S Kn Kx Kr=Kn e S) ∧
  (∀ (n:Nat) (p:Nat→Option (List bJ)) (lv:Nat→List Nat) (id:Nat) (e:aP) (S:St) (Kn:mK) (Kx:KXW) (Kr:mK),dY P C n p lv (.exit id) e S Kn Kx Kr=Kx id e S) ∧
  (∀ (n:Nat) (p:Nat→Option (List bJ)) (lv:Nat→List Nat) (e:aP) (S:St) (Kn:mK) (Kx:KXW) (Kr:mK),dY P C n p lv .ret e S Kn Kx Kr=Kr e S) ∧
  (∀ (n:Nat) (p:Nat→Option (List bJ)) (lv:Nat→List Nat) (id:Nat) (l:List Oper) (e:aP) (S:St) (Kn:mK) (Kx:KXW) (Kr:mK),dY P C n p lv (.region id l.toArray false) e S Kn Kx Kr=aHt P C n l.toArray l [0,1,2,3,4,5,6,7,8,9,10,11,12,13,14,15,16,17,18,19,20,21,22,23,24,25,26,27,28,29,30,31,32,33,34,35,36,37,38,39,40,41,42,43,44,45,46,47,48,49,50,51,52,53,54,55,56,57,58,59,60,61,62,63,64,65,66,67,68,69,70,71,72,73,74,75,76,77,78,79,80,81,82,83,84,85,86,87,88,89,90,91,92,93,94,95,96,97,98,99,100,101,102,103,104,105,106,107,108,109,110,111,112,113,114,115,116,117,118,119,120,121,122,123,124,125,126,127,128,129,130,131,132,133,134,135,136,137,138,139,140,141,142,143,144,145,146,147,148,149,150,151,152,153,154,155,156,157,158,159,160] 0 [] e S Kn) ∧
  (∀ (n:Nat) (p:Nat→Option (List bJ)) (lv:Nat→List Nat) (a b:Code) (e:aP) (S:St) (Kn:mK) (Kx:KXW) (Kr:mK),dY P C n p lv (.seq a b) e S Kn Kx Kr=dY P C n p lv a e S (fun e S=>dY P C n p lv b e S Kn Kx Kr) Kx Kr) ∧
  (∀ (n:Nat) (p:Nat→Option (List bJ)) (lv:Nat→List Nat) (c:Operand) (a b:Code) (e:aP) (S:St) (Kn:mK) (Kx:KXW) (Kr:mK),dY P C n p lv (.cond c a b) e S Kn Kx Kr=wO (ev e c) fun v=>bX (hl v) (dY P C n p lv a (aAr e c true) S Kn Kx Kr) (dY P C n p lv b (aAr e c false) S Kn Kx Kr)) ∧
  (∀ (n:Nat) (p:Nat→Option (List bJ)) (lv:Nat→List Nat) (id:Nat) (a:Code) (e:aP) (S:St) (Kn:mK) (Kx:KXW) (Kr:mK),dY P C n p lv (.block id a) e S Kn Kx Kr=dY P C n p lv a e S Kn (aM4 id Kn Kx) Kr) ∧
  (∀ (n:Nat) (ops:Array Oper) (ks:List Nat) (i:Nat) (sk:List Nat) (e:aP) (S:St) (K:mK),aHt P C n ops [] ks i sk e S K=K e S) ∧
  (∀ (n:Nat) (ops:Array Oper) (o:Oper) (l:List Oper) (k i:Nat) (ks sk:List Nat) (e:aP) (S:St) (K:mK),aHt P C n ops (o::l) (k::ks) i sk e S K=kM P C n ops sk o none e S fun ran _ e' S'=>aHt P C n ops l ks (i+1) (yL ran k sk) e' S' K) ∧
  (∀ (n:Nat) (ops:Array Oper) (b:Nat) (ks:List Nat) (i:Nat) (sk:List Nat) (e:aP) (S:St) (K:mK),yQ P C n ops b [] ks i sk e S K=K e S) ∧
  (∀ (n:Nat) (ops:Array Oper) (o:Oper) (l:List Oper) (b k i:Nat) (ks:List Nat) (sk:List Nat) (e:aP) (S:St) (K:mK),yQ P C n ops b (o::l) (k::ks) i sk e S K=kM P C n ops sk o (some (b+k)) e S fun ran _ e' S'=>yQ P C n ops b l ks (i+1) (yL ran k sk) e' S' K) ∧
  (∀ (n:Nat) (ops:Array Oper) (b:Nat) (sk:List Nat) (recs:List sR) (e:aP) (S:St) (K:mK),sI P C n ops b [] sk recs e S K=K e S) ∧
  (∀ (n:Nat) (ops:List Oper) (i:Nat) (re:List Nat) (l:List bJ) (b:Nat) (sk:List Nat) (recs:List sR) (e:aP) (S:St) (K:mK),sI P C n ops.toArray b ((i,re)::l) sk recs e S K=wI ops i fun o=>kM P C n ops.toArray sk o (some (b+i)) e S fun ran v e' S'=>rN P C ops.toArray recs S' (sI P C n ops.toArray b l (yL ran i sk) (yM P o i e ran v recs) e' S' K) re) ∧
  (∀ (ops:Array Oper) (recs:List sR) (S:St) (K:Prop),rN P C ops recs S K []=K) ∧
  (∀ (ops:Array Oper) (recs:List sR) (S:St) (K:Prop) (i:Nat) (l:List Nat),rN P C ops recs S K (i::l)=dU P C ops i S (rN P C ops recs S K l) recs) ∧
  (∀ (ops:Array Oper) (i:Nat) (S:St) (K:Prop),dU P C ops i S K []=K) ∧
  (∀ (ops:List Oper) (i:Nat) (S:St) (K:Prop) (d t:Nat) (a:Operand) (ty:TypeId) (pos:String) (aft:Array Edge) (g:Option (Nat×Bool)) (e:aP) (v:V) (recs:List sR),dU P C ops.toArray i S K (yM P ⟨some d,.load t a,ty,pos,aft,g⟩ i e true v recs)=wI ops i fun o=>jM P C o none e S fun v' _=>yO (hl (eV v v')) K) ∧
  (∀ (ops:List Oper) (i:Nat) (S:St) (K:Prop) (d:Nat) (a:Array Operand) (ts:Array TypeId) (ty:TypeId) (pos:String) (aft:Array Edge) (g:Option (Nat×Bool)) (e:aP) (v:V) (recs:List sR),dU P C ops.toArray i S K (yM P ⟨some d,.call ⟨.builtin .len,a,ts⟩,ty,pos,aft,g⟩ i e true v recs)=wI ops i fun o=>jM P C o none e S fun v' _=>yO (hl (eV v v')) K) ∧
  (∀ (o:Oper) (i:Nat) (e:aP) (v:V) (recs:List sR) (ops:Array Oper) (S:St) (K:Prop),dU P C ops i S K (yM P o i e false v recs)=dU P C ops i S K recs) ∧
  (∀ (n:Nat) (ops:Array Oper) (sk:List Nat) (d:Option Tmp) (op:Op) (ty:TypeId) (pos:String) (aft:Array Edge) (fr:Option Nat) (e:aP) (S:St) (K:Bool→V→aP→St→Prop),kM P C n ops sk ⟨d,op,ty,pos,aft,none⟩ fr e S K=jM P C ⟨d,op,ty,pos,aft,none⟩ fr e S fun v S'=>sN n d e v fun e'=>K true v e' S') ∧
  (∀ (n:Nat) (ops:List Oper) (sk:List Nat) (d:Option Tmp) (op:Op) (ty:TypeId) (pos:String) (aft:Array Edge) (j:Nat) (fr:Option Nat) (e:aP) (S:St) (K:Bool→V→aP→St→Prop),kM P C n ops.toArray sk ⟨d,op,ty,pos,aft,some (j,true)⟩ fr e S K=wG ops j fun s=>wO (e.get s) fun v=>sO j sk (aQl v (sN n d e (.tup []) fun e'=>K false (.tup []) e' S)) (bX (hl v) (jM P C ⟨d,op,ty,pos,aft,some (j,true)⟩ fr (e.put s (.bool true)) S fun v S'=>sN n d (e.put s (.bool true)) v fun e'=>K true v e' S') (sN n d (e.put s (.bool false)) (.tup []) fun e'=>K false (.tup []) e' S))) ∧
  (∀ (n:Nat) (ops:List Oper) (sk:List Nat) (d:Option Tmp) (op:Op) (ty:TypeId) (pos:String) (aft:Array Edge) (j:Nat) (fr:Option Nat) (e:aP) (S:St) (K:Bool→V→aP→St→Prop),kM P C n ops.toArray sk ⟨d,op,ty,pos,aft,some (j,false)⟩ fr e S K=wG ops j fun s=>wO (e.get s) fun v=>sO j sk (aQl v (sN n d e (.tup []) fun e'=>K false (.tup []) e' S)) (bX (hl v) (sN n d (e.put s (.bool true)) (.tup []) fun e'=>K false (.tup []) e' S) (jM P C ⟨d,op,ty,pos,aft,some (j,false)⟩ fr (e.put s (.bool false)) S fun v S'=>sN n d (e.put s (.bool false)) v fun e'=>K true v e' S'))) ∧
  (∀ (n:Nat) (e:aP) (v:V) (K:aP→Prop),sN n none e v K=K e) ∧
  (∀ (rs:List ResultVar) (K:KW) (e:aP) (S:St),aQm P rs K e S=aEw P e S rs fun vs=>K (rE vs) S) ∧
  (∀ (e:aP) (S:St) (K:List V→Prop),aEw P e S [] K=K []) ∧
  (∀ (e:aP) (S:St) (t:Tmp) (l:List ResultVar) (K:List V→Prop),aEw P e S (.tmp t::l) K=wO (e.get t) fun v=>aEw P e S l fun vs=>K (v::vs)) ∧
  (∀ (e:aP) (S:St) (a:Tmp) (t:TypeId) (l:List ResultVar) (K:List V→Prop),aEw P e S (.cell a t::l) K=wO (e.get a) fun p=>wR (hl (mE P t p S)) fun v=>aEw P e S l fun vs=>K (v::vs)) ∧
  (∀ (f:FuncId) (a b args:List V) (S:St) (K:KW),aSx P C (.func f a b) args S K=kT P C f (a++args++b) S K):=by
 refine ⟨fun n _ _ _ _ _ _ _=>rfl,fun n _ _ _ _ _ _ _ _=>rfl,fun n _ _ _ _ _ _ _ _=>rfl,fun n _ _ _ _ _ _ _=>rfl,fun n p lv id l e S Kn Kx Kr=>aHu P C n l.toArray Kn l _ 0 [] e S (by simp only [wQ,and_self]),fun n _ _ _ _ _ _ _ _ _=>rfl,fun n _ _ _ _ _ _ _ _ _ _=>rfl,fun n _ _ _ _ _ _ _ _ _=>rfl,fun n ops ks i sk e S K=>by cases ks<;>rfl,fun n _ _ _ _ _ _ _ _ _ _=>rfl,fun n ops b ks i sk e S K=>by cases ks<;>rfl,fun n _ _ _ _ _ _ _ _ _ _ _=>rfl,fun n _ _ _ _ _ _ _=>rfl,fun n ops i re l b sk recs e S K=>?_,fun _ _ _ _=>rfl,fun _ _ _ _ _ _=>rfl,fun _ _ _ _=>rfl,fun ops i S K d t a ty pos aft g e v recs=>?_,fun ops i S K d a ts ty pos aft g e v recs=>?_,fun o i e v recs ops S K=>?_,fun n _ _ _ _ _ _ _ _ _ _ _=>rfl,fun n ops sk d op ty pos aft j fr e S K=>?_,fun n ops sk d op ty pos aft j fr e S K=>?_,fun n _ _ _=>rfl,fun _ _ _ _=>rfl,fun _ _ _=>rfl,fun _ _ _ _ _=>rfl,fun _ _ _ _ _ _=>rfl,fun _ _ _ _ _ _=>rfl⟩
 ·rw [sI,aFw]
 ·simp only [yM,dT,aM6,Bool.and_true,Option.isSome,dU,hl];rw [aFw]
 ·simp only [yM,dT,aM6,Bool.and_true,Option.isSome,dU,hl];rw [aFw]
 ·simp only [yM,Bool.and_false,Bool.false_and]
 ·simp only [kM,doW,aFs,sO];rw [aT9];rfl
 ·simp only [kM,doW,aFs,sO];rw [aT9];rfl
theorem aNt:(∀ (k:Nat) (ks:List Nat) (i:Nat) (K:Nat→Prop),wLn [] (k::ks) i K=K k)∧(∀ (o:Oper) (l:List Oper) (k:Nat) (ks:List Nat) (i:Nat) (K:Nat→Prop),wLn (o::l) (k::ks) i K=wLn l ks (i+1) K)∧(∀ (j:Nat) (x y:Prop),sO j [] x y=y)∧(∀ (j i:Nat) (l:List Nat) (x y:Prop),sO j (yL true i l) x y=sO j l x y)∧(∀ (j i:Nat) (l:List Nat) (x y:Prop),sO j (yL false i l) x y=sO j (i::l) x y)∧(∀ (j:Nat) (l:List Nat) (x y:Prop),sO j (j::l) x y=x) ∧
  (∀ (j:Nat) (K:List Nat→Prop),wLv [] j K=K [])∧(∀ (j:Nat) (l:List Nat) (r:List (Nat×List Nat)) (K:List Nat→Prop),wLv ((j,l)::r) j K=K l)∧(∀ (j:Nat) (K:List bJ→Prop) (x:Prop),wSt [] j K x=x)∧(∀ (j:Nat) (l:List bJ) (r:List (Nat×List bJ)) (K:List bJ→Prop) (x:Prop),wSt ((j,l)::r) j K x=K l) ∧
  (∀ (o:Oper) (l:List Oper) (K:Nat→Prop),wG (o::l) 0 K=wO o.dst K)∧(∀ (o:Oper) (l:List Oper) (j:Nat) (K:Nat→Prop),wG (o::l) (j+1) K=wG l j K)∧(∀ (o:Oper) (l:List Oper) (K:Oper→Prop),wI (o::l) 0 K=K o)∧(∀ (o:Oper) (l:List Oper) (j:Nat) (K:Oper→Prop),wI (o::l) (j+1) K=wI l j K) ∧
  (∀ (d:Nat) (op:Op) (ty:TypeId) (pos:String) (aft:Array Edge) (g:Option (Nat×Bool)) (K:Nat→Prop),wO (Oper.dst ⟨some d,op,ty,pos,aft,g⟩) K=K d) ∧
  (∀ (i:Nat) (Kn:mK) (Kx:KXW) (e:aP) (S:St),aM4 i Kn Kx i e S=Kn e S)∧(∀ (e:aP) (K:List V→Prop),nJ e [] K=K [])∧(∀ (e:aP) (t:Nat) (l:List Nat) (K:List V→Prop),nJ e (t::l) K=wO (e.get t) fun v=>nJ e l fun vs=>K (v::vs)) ∧
  (∀ (vs:List V) (e:aP) (K:aP→Prop),aHs [] vs e K=K e)∧(∀ (t:Nat) (l:List Nat) (v:V) (vs:List V) (e:aP) (K:aP→Prop),aHs (t::l) (v::vs) e K=aHs l vs (e.put t v) K)∧(eA 0 [] .nil=.nil)∧(∀ a0:V,eA 0 [a0] .nil=(Tr.put .nil 0 a0))∧(∀ a0 a1:V,eA 0 [a0,a1] .nil=((Tr.put .nil 0 a0).put 1 a1))∧(∀ a0 a1 a2:V,eA 0 [a0,a1,a2] .nil=(((Tr.put .nil 0 a0).put 1 a1).put 2 a2))∧(∀ a0 a1 a2 a3:V,eA 0 [a0,a1,a2,a3] .nil=((((Tr.put .nil 0 a0).put 1 a1).put 2 a2).put 3 a3))∧(∀ a0 a1 a2 a3 a4:V,eA 0 [a0,a1,a2,a3,a4] .nil=(((((Tr.put .nil 0 a0).put 1 a1).put 2 a2).put 3 a3).put 4 a4))∧(∀ a0 a1 a2 a3 a4 a5:V,eA 0 [a0,a1,a2,a3,a4,a5] .nil=((((((Tr.put .nil 0 a0).put 1 a1).put 2 a2).put 3 a3).put 4 a4).put 5 a5))∧(∀ a0 a1 a2 a3 a4 a5 a6:V,eA 0 [a0,a1,a2,a3,a4,a5,a6] .nil=(((((((Tr.put .nil 0 a0).put 1 a1).put 2 a2).put 3 a3).put 4 a4).put 5 a5).put 6 a6))∧(∀ a0 a1 a2 a3 a4 a5 a6 a7:V,eA 0 [a0,a1,a2,a3,a4,a5,a6,a7] .nil=((((((((Tr.put .nil 0 a0).put 1 a1).put 2 a2).put 3 a3).put 4 a4).put 5 a5).put 6 a6).put 7 a7)) ∧
  (∀ (i:Nat) (sk:List Nat),yL true i sk=sk)∧(∀ (i:Nat) (sk:List Nat),yL false i sk=i::sk)∧(∀ (e:aP) (t:Nat) (b:Bool),aAr e (.tmp t) b=e.put t (.bool b))∧(∀ (e:aP) (v:Value) (b:Bool),aAr e (.const v) b=e)∧(∀ v:V,rE [v]=v)∧rE []=.tup []∧(∀ (v w:V) (l:List V),rE (v::w::l)=.tup (v::w::l)) ∧
  (∀ (l:List V) (x:Prop),aQl (.tup l) x=x)∧(∀ a b:Code,bF (.seq a b)=bF a)∧(∀ (i:Nat) (a:Code),bF (.block i a)=bF a)∧(∀ (id:Nat) (ops:Array Oper) (d:Bool),bF (.region id ops d)=id)∧(∀ a:Code,bF (.loop a)=bF a)∧(∀ (c:Operand) (a b:Code),bF (.cond c a b)=0)∧(∀ x y:Prop,bX (hl (.bool true)) x y=x)∧(∀ x y:Prop,bX (hl (.bool false)) x y=y)∧(true=true)=True∧(false=true)=False∧(∀ a b:V,aJk (.bool true) a b=.ok a)∧(∀ a b:V,aJk (.bool false) a b=.ok b):=by
 refine ⟨fun _ _ _ _=>rfl,fun _ _ _ _ _ _=>rfl,fun _ _ _=>rfl,fun _ _ _ _ _=>rfl,fun _ _ _ _ _=>rfl,fun j l x y=>by simp only [sO,aSu,aM6],fun _ _=>rfl,fun j l r K=>by simp only [wLv,aM6],fun _ _ _=>rfl,fun j l r K x=>by simp only [wSt,aM6],fun _ _ _=>rfl,fun _ _ _ _=>rfl,fun _ _ _=>rfl,fun _ _ _ _=>rfl,fun _ _ _ _ _ _ _=>rfl,fun i Kn Kx e S=>by simp only [aM4,aM6],fun _ _=>rfl,fun _ _ _ _=>rfl,fun _ _ _=>rfl,fun _ _ _ _ _ _=>rfl,rfl,fun _=>rfl,fun _ _=>rfl,fun _ _ _=>rfl,fun _ _ _ _=>rfl,fun _ _ _ _ _=>rfl,fun _ _ _ _ _ _=>rfl,fun _ _ _ _ _ _ _=>rfl,fun _ _ _ _ _ _ _ _=>rfl,fun _ _=>rfl,fun _ _=>rfl,fun _ _ _=>rfl,fun _ _ _=>rfl,fun _=>rfl,rfl,fun _ _ _=>rfl,fun _ _=>rfl,fun _ _=>rfl,fun _ _=>rfl,fun _ _ _=>rfl,fun _=>rfl,fun _ _ _=>rfl,fun _ _=>rfl,fun _ _=>rfl,by simp,by simp,fun _ _=>rfl,fun _ _=>rfl⟩
theorem aNu (P:Program):(∀ (t:TypeId) (i j:Nat) (a b:V),gP P t (.tmp i) (.tmp j) a b=bP P t a b)∧(∀ (t:TypeId) (x:Operand) (c:Value) (i:TypeId) (v:V),gP P t x (.const c) (.iface i v) .nili=true) ∧
  (∀ (t:TypeId) (x y:Operand) (a:V) (k:IntKind) (n:Int),gP P t x y a (.int k n)=bP P t a (.int k n))∧(∀ (t:TypeId) (x y:Operand) (a:V) (s:List UInt8),gP P t x y a (.str s)=bP P t a (.str s))∧(∀ (t:TypeId) (x y:Operand) (a:V) (b:Bool),gP P t x y a (.bool b)=bP P t a (.bool b)) ∧
  (∀ (t:TypeId) (x y:Operand) (a:V) (l:List V),gP P t x y a (.agg l)=bP P t a (.agg l))∧(∀ (t:TypeId) (x y:Operand) (a:V),gP P t x y a .nilp=bP P t a .nilp)∧(∀ (t:TypeId) (x y:Operand) (a:V),gP P t x y a .nils=bP P t a .nils)∧(∀ (t:TypeId) (x y:Operand) (a:V),gP P t x y a .nilf=bP P t a .nilf)∧(∀ (t:TypeId) (x y:Operand) (a:V),gP P t x y a .nilm=bP P t a .nilm):=
 have key:∀ (t:TypeId) (x y:Operand) (a b:V),aQ4 x y a b=false→gP P t x y a b=bP P t a b:=fun t x y a b h=>by
  unfold gP
  split
  ·rw [h,Bool.or_false]
  ·rfl
 ⟨fun t i j a b=>key _ _ _ _ _ (by unfold aQ4;cases b<;>first | rfl | (cases a<;>rfl)),fun t x c i v=>(key _ _ _ _ _ rfl).trans rfl,
  fun _ _ _ _ _ _=>key _ _ _ _ _ rfl,fun _ _ _ _ _=>key _ _ _ _ _ rfl,fun _ _ _ _ _=>key _ _ _ _ _ rfl,fun _ _ _ _ _=>key _ _ _ _ _ rfl,fun _ _ _ _=>key _ _ _ _ _ rfl,fun _ _ _ _=>key _ _ _ _ _ rfl,fun _ _ _ _=>key _ _ _ _ _ rfl,fun _ _ _ _=>key _ _ _ _ _ rfl⟩
def aB1 (P:Program) (C:aQ) (fn:Func) (tp:List (Nat×List bJ)) (tl:List (Nat×List Nat)) (args:List V) (S:St) (K:KW):Prop:=aSy P C (dP tp) (fB tl) args S K (fn.body.getD .skip) fn.ntmps fn.results.toList
theorem bA5 (P:Program) (C:aQ) (nm og:String) (ta pa rt:Array TypeId) (nf nt:Nat) (rs:List ResultVar) (c:Code) (b1 b2:Bool) (fl:String) (el:Nat) (ln:Option Nat) (me:List Departure) (tn:Array String) (tp:List (Nat×List bJ)) (tl:List (Nat×List Nat)) (args:List V) (S:St) (K:KW):
  aB1 P C ⟨nm,og,ta,pa,rt,nf,nt,rs.toArray,some c,b1,b2,fl,el,ln,me,tn⟩ tp tl args S K=yO (Nat.ble args.length nt) (dY P C nt (dP tp) (fB tl) c (eA 0 args .nil) S (aQm P rs K) (fun _ _ _=>False) (aQm P rs K)):=rfl
def aDf (fn:Func):Code×Nat×List ResultVar:=(fn.body.getD .skip,fn.ntmps,fn.results.toList)
theorem aG1:(∀ n,Nat.ble ([]:List V).length n=true)∧(∀ (a:V) (l:List V) (n:Nat),Nat.ble (a::l).length (n+1)=Nat.ble l.length n):=⟨fun n=>by cases n<;>rfl,fun _ _ _=>rfl⟩
theorem oM (P:Program) (C:aQ) {g:FuncId} (h:cG P g=some none) (args:List V) (S:St) (K:KW):kT P C g args S K=C g (hl args) S K:=by unfold kT;rw [h];rfl
section
variable {P:Program} {pl:iQ} {f:FuncId} {fn:Func} {tp:List (Nat×List bJ)} {tl:List (Nat×List Nat)}
theorem bFi (hp:pl f=some (.val (dP tp))) (hb:yN P f=some (aDf fn)) {args:List V} {v:V} (hc:cloVs args=true) (h:aB1 P (W P pl) fn tp tl args ⟨0,.nil⟩ fun v0 S0=>lS S0 v0=.ok v):Fn P pl f args v:=
 Fn.of (p:=dP tp) (lv:=fB tl) hp hc (by unfold eY;rw [hb];exact h)
theorem bE1 (hp:pl f=some (.code (dP tp))) (hb:yN P f=some (aDf fn)) {args:List V} {S:St} {K:KW} (h:aB1 P (W P pl) fn tp tl args S K):W P pl f args S K:=
 aLx (p:=dP tp) (lv:=fB tl) hp (by unfold eY;rw [hb];exact h)
end
end
end Go.AM
end
section
namespace Go.Proofs.YtoaibmbldmckaaaGreat
open Go.AM Tryz
def dSp:aFe:=[(202,.ins 68),(221,.ins 27),(230,.ins 28),(234,.ins 25),(237,.ins 24),(280,.ins 80),(240,.del 28),(25,.told)]
def aYc:iJ:=[
 (3,[]),
 (4,[(4,[(0,[]),(2,[]),(1,[2]),(3,[]),(4,[]),(5,[]),(6,[]),(7,[]),(8,[]),(9,[]),(10,[]),(11,[]),(12,[]),(13,[])])]),
 (5,[(10,[(0,[]),(1,[]),(2,[1]),(3,[])])]),
 (6,[(8,[(0,[]),(2,[]),(1,[2]),(3,[]),(4,[]),(5,[]),(6,[]),(7,[]),(8,[]),(9,[]),(10,[]),(11,[]),(12,[]),(13,[]),(14,[]),(15,[])])]),
 (7,[]),
 (8,[(7,[(1,[]),(2,[]),(3,[]),(4,[]),(6,[]),(7,[]),(8,[]),(9,[]),(10,[]),(0,[]),(5,[7]),(11,[]),(12,[])]),(15,[(0,[]),(1,[0]),(2,[0]),(3,[]),(4,[]),(5,[]),(6,[]),(7,[]),(8,[])])]),
 (9,[]),
 (10,[]),
 (11,[]),
 (12,[]),
 (13,[(2,[(0,[]),(2,[]),(1,[2]),(3,[]),(4,[]),(5,[]),(6,[]),(7,[]),(8,[]),(9,[]),(10,[]),(11,[]),(12,[]),(13,[]),(14,[])])]),
 (14,[]),
 (15,[(5,[(0,[]),(1,[]),(2,[0]),(3,[]),(4,[]),(5,[]),(6,[]),(7,[]),(8,[]),(9,[])]),(6,[(0,[]),(1,[]),(2,[0]),(3,[]),(4,[]),(5,[]),(6,[]),(7,[]),(8,[]),(9,[])])]),
 (16,[(3,[(0,[]),(2,[]),(1,[2]),(3,[]),(4,[]),(5,[])]),(4,[(0,[]),(1,[]),(2,[]),(3,[]),(4,[]),(5,[]),(6,[]),(7,[]),(8,[]),(9,[]),(10,[]),(12,[]),(13,[]),(11,[13,12]),(14,[]),(15,[]),(16,[]),(17,[]),(18,[]),(19,[]),(20,[])])]),
 (17,[(32,[(0,[]),(1,[]),(2,[]),(3,[]),(4,[]),(5,[]),(6,[]),(7,[]),(8,[]),(9,[]),(10,[]),(11,[]),(12,[]),(13,[]),(14,[]),(15,[]),(16,[]),(17,[]),(18,[]),(19,[]),(20,[]),(21,[]),(22,[]),(23,[]),(24,[]),(25,[]),(26,[]),(27,[]),(28,[25,23]),(29,[]),(30,[]),(31,[25,23]),(32,[]),(33,[]),(34,[25]),(35,[]),(36,[]),(37,[])])]),
 (18,[]),
 (19,[]),
 (20,[]),
 (21,[]),
 (22,[]),
 (23,[]),
 (24,[]),
 (25,[(6,[(0,[]),(1,[]),(2,[]),(3,[]),(4,[]),(5,[]),(6,[]),(7,[]),(8,[]),(9,[8]),(10,[]),(11,[]),(12,[]),(13,[]),(14,[]),(15,[]),(16,[]),(17,[]),(18,[]),(19,[]),(20,[]),(21,[]),(22,[]),(23,[]),(24,[])])]),
 (26,[]),
 (27,[]),
 (28,[]),
 (29,[(7,[(0,[]),(1,[]),(2,[]),(3,[]),(4,[]),(5,[]),(6,[]),(8,[]),(9,[]),(10,[]),(11,[]),(12,[]),(13,[]),(15,[]),(16,[]),(17,[]),(18,[]),(19,[]),(20,[]),(7,[20,16,13,9]),(14,[20,16]),(21,[]),(22,[])]),(12,[(0,[]),(1,[]),(2,[]),(3,[]),(4,[]),(5,[]),(6,[]),(8,[]),(9,[]),(10,[]),(11,[]),(12,[]),(13,[]),(15,[]),(16,[]),(17,[]),(18,[]),(19,[]),(20,[]),(7,[20,16,13,9]),(14,[20,16]),(21,[]),(22,[])]),(18,[(0,[]),(1,[]),(2,[]),(3,[]),(5,[]),(6,[]),(4,[6]),(7,[]),(8,[])]),(19,[(0,[]),(1,[]),(2,[]),(3,[]),(5,[]),(6,[]),(7,[]),(4,[7]),(8,[]),(9,[])]),(25,[(0,[]),(1,[]),(2,[]),(4,[]),(5,[]),(7,[]),(8,[]),(3,[8,5]),(6,[8]),(9,[]),(10,[])]),(30,[(0,[]),(1,[]),(2,[]),(3,[]),(4,[]),(5,[]),(6,[]),(8,[]),(9,[]),(10,[]),(11,[]),(12,[]),(13,[]),(15,[]),(16,[]),(17,[]),(18,[]),(19,[]),(20,[]),(7,[20,16,13,9]),(14,[20,16]),(21,[]),(22,[])])]),
 (30,[]),
 (31,[]),
 (32,[]),
 (33,[(3,[(0,[]),(1,[0]),(2,[]),(3,[])]),(5,[(0,[]),(1,[0]),(2,[]),(3,[])]),(10,[(0,[]),(1,[]),(2,[0]),(3,[]),(4,[])]),(12,[(0,[]),(1,[]),(2,[1]),(3,[])]),(17,[(0,[]),(1,[]),(2,[1]),(3,[])])]),
 (34,[(9,[(1,[]),(2,[]),(4,[]),(5,[]),(6,[]),(0,[]),(3,[5]),(7,[]),(8,[]),(9,[]),(10,[])]),(11,[(0,[]),(1,[]),(2,[]),(3,[]),(4,[]),(5,[2]),(6,[])]),(16,[(0,[]),(1,[]),(2,[1]),(3,[])]),(21,[(0,[]),(1,[]),(2,[1]),(3,[])])]),
 (35,[]),
 (36,[]),
 (37,[]),
 (38,[]),
 (39,[]),
 (40,[]),
 (41,[(10,[(0,[]),(1,[]),(3,[]),(2,[3]),(4,[]),(5,[]),(6,[]),(7,[]),(8,[]),(10,[]),(9,[10]),(11,[]),(12,[]),(13,[])]),(19,[(1,[]),(2,[]),(3,[]),(5,[]),(6,[]),(7,[]),(8,[]),(9,[]),(12,[]),(13,[]),(14,[]),(0,[]),(4,[8,6]),(10,[]),(11,[]),(15,[]),(16,[])])]),
 (42,[]),
 (43,[]),
 (44,[(3,[(0,[]),(1,[0]),(2,[0]),(3,[]),(4,[]),(5,[]),(6,[]),(7,[]),(8,[])]),(4,[(0,[]),(1,[0]),(2,[0]),(3,[]),(4,[]),(5,[]),(6,[]),(7,[]),(8,[])])]),
 (45,[]),
 (46,[]),
 (47,[]),
 (48,[]),
 (50,[]),
 (51,[]),
 (52,[]),
 (53,[]),
 (54,[(7,[(0,[]),(1,[]),(3,[]),(4,[]),(6,[]),(2,[4]),(5,[]),(7,[]),(8,[]),(9,[]),(10,[])])]),
 (55,[]),
 (56,[]),
 (57,[]),
 (58,[]),
 (59,[]),
 (60,[]),
 (61,[]),
 (62,[]),
 (63,[]),
 (64,[]),
 (65,[]),
 (66,[]),
 (67,[]),
 (68,[]),
 (69,[]),
 (70,[]),
 (71,[]),
 (72,[]),
 (73,[]),
 (74,[]),
 (75,[]),
 (76,[]),
 (77,[]),
 (78,[]),
 (79,[]),
 (80,[]),
 (81,[]),
 (82,[]),
 (83,[]),
 (84,[]),
 (85,[]),
 (86,[]),
 (87,[]),
 (88,[]),
 (89,[]),
 (90,[]),
 (91,[]),
 (92,[]),
 (93,[]),
 (94,[]),
 (95,[]),
 (96,[]),
 (97,[]),
 (98,[(1,[(0,[]),(1,[]),(2,[]),(4,[]),(5,[]),(7,[]),(8,[]),(3,[8,5]),(6,[8]),(9,[]),(10,[])])]),
 (99,[]),
 (100,[]),
 (101,[(1,[(0,[]),(1,[]),(2,[]),(4,[]),(5,[]),(7,[]),(8,[]),(3,[8,5]),(6,[8]),(9,[]),(10,[])])]),
 (102,[(9,[(0,[]),(1,[]),(2,[]),(3,[]),(4,[]),(5,[]),(6,[]),(7,[]),(8,[]),(9,[]),(10,[1]),(11,[]),(12,[]),(13,[]),(14,[])])]),
 (103,[]),
 (104,[(2,[(0,[]),(1,[0]),(2,[]),(3,[])]),(5,[(0,[]),(1,[]),(2,[0]),(3,[]),(4,[])]),(9,[(0,[]),(1,[]),(2,[1]),(3,[])])]),
 (105,[]),
 (106,[]),
 (107,[(8,[(0,[]),(1,[]),(2,[]),(3,[]),(4,[]),(5,[]),(6,[]),(7,[]),(8,[5]),(9,[]),(10,[]),(11,[])])]),
 (108,[(5,[(0,[]),(1,[]),(2,[]),(3,[]),(4,[]),(5,[3]),(6,[]),(7,[])]),(12,[(0,[]),(1,[]),(2,[]),(3,[]),(4,[]),(5,[3]),(6,[]),(7,[])]),(15,[(0,[]),(1,[]),(2,[]),(3,[]),(4,[]),(5,[]),(6,[]),(7,[5,3]),(8,[]),(9,[5]),(10,[]),(11,[])])]),
 (109,[]),
 (110,[(33,[(1,[]),(2,[]),(3,[]),(4,[]),(6,[]),(7,[]),(8,[]),(9,[]),(10,[]),(0,[]),(5,[7]),(11,[]),(12,[]),(13,[])]),(44,[(0,[]),(1,[]),(2,[1]),(3,[])])]),
 (111,[(4,[(0,[]),(1,[]),(2,[]),(3,[]),(4,[]),(5,[]),(6,[]),(7,[]),(8,[5]),(9,[]),(10,[]),(11,[])])]),
 (112,[]),
 (113,[]),
 (114,[]),
 (115,[]),
 (116,[]),
 (117,[]),
 (118,[(1,[(0,[]),(1,[]),(2,[]),(3,[]),(4,[]),(5,[]),(6,[]),(7,[]),(8,[]),(9,[]),(10,[]),(11,[]),(12,[]),(13,[]),(14,[]),(15,[]),(16,[]),(17,[]),(18,[]),(19,[]),(20,[15]),(21,[]),(22,[]),(23,[])])]),
 (119,[]),
 (120,[(19,[(0,[]),(1,[]),(2,[]),(3,[]),(4,[]),(5,[]),(6,[]),(7,[]),(8,[]),(9,[]),(10,[]),(11,[]),(12,[]),(13,[]),(15,[]),(16,[]),(17,[]),(18,[]),(19,[]),(14,[19]),(20,[]),(21,[]),(22,[]),(23,[]),(24,[]),(25,[]),(26,[]),(27,[]),(28,[]),(29,[]),(30,[]),(31,[]),(32,[]),(33,[]),(34,[]),(35,[]),(36,[]),(37,[]),(38,[]),(39,[]),(40,[]),(41,[]),(42,[]),(43,[]),(44,[]),(45,[]),(46,[]),(47,[]),(48,[])])]),
 (121,[]),
 (122,[(11,[(1,[]),(2,[]),(3,[]),(5,[]),(6,[]),(7,[]),(8,[]),(9,[]),(10,[]),(13,[]),(14,[]),(15,[]),(0,[]),(4,[9]),(11,[]),(12,[]),(16,[]),(17,[])])]),
 (123,[(1,[(0,[]),(1,[]),(2,[]),(3,[]),(4,[]),(5,[]),(6,[]),(7,[]),(8,[]),(9,[]),(10,[]),(11,[]),(12,[]),(13,[]),(14,[]),(15,[]),(16,[]),(17,[]),(18,[]),(19,[]),(20,[]),(21,[]),(22,[]),(23,[]),(24,[]),(25,[]),(26,[]),(27,[]),(28,[]),(29,[]),(30,[25]),(31,[]),(32,[]),(33,[])])]),
 (124,[(1,[(0,[]),(1,[]),(2,[]),(3,[]),(4,[]),(5,[]),(6,[]),(7,[]),(9,[]),(8,[9]),(10,[]),(11,[]),(12,[]),(13,[])])]),
 (125,[]),
 (126,[]),
 (127,[]),
 (128,[]),
 (129,[]),
 (130,[]),
 (131,[]),
 (132,[]),
 (133,[]),
 (134,[]),
 (135,[]),
 (136,[]),
 (137,[]),
 (138,[]),
 (139,[]),
 (140,[]),
 (141,[]),
 (142,[(5,[(0,[]),(1,[]),(2,[]),(3,[]),(4,[]),(5,[3]),(6,[]),(7,[])]),(14,[(0,[]),(1,[]),(2,[]),(3,[]),(4,[]),(5,[]),(6,[]),(7,[]),(8,[]),(10,[]),(9,[5,2]),(11,[5]),(12,[]),(13,[]),(14,[]),(15,[])]),(17,[(0,[]),(1,[]),(2,[]),(3,[]),(4,[]),(5,[]),(6,[]),(7,[5,3]),(8,[]),(9,[5]),(10,[]),(11,[])]),(24,[(0,[]),(1,[]),(2,[]),(3,[]),(4,[2]),(5,[])])]),
 (143,[(5,[(0,[]),(1,[]),(2,[]),(3,[]),(4,[]),(5,[4]),(6,[])])]),
 (144,[]),
 (145,[]),
 (146,[]),
 (147,[]),
 (148,[]),
 (149,[]),
 (150,[]),
 (151,[]),
 (152,[]),
 (153,[]),
 (154,[(10,[(0,[]),(1,[]),(2,[]),(3,[]),(4,[]),(7,[]),(8,[]),(9,[]),(10,[]),(11,[]),(5,[]),(6,[11]),(12,[]),(13,[]),(14,[]),(15,[])])]),
 (155,[]),
 (156,[]),
 (157,[]),
 (158,[]),
 (159,[]),
 (160,[]),
 (161,[(5,[(0,[]),(1,[]),(2,[]),(3,[]),(4,[]),(5,[]),(8,[]),(9,[]),(10,[]),(11,[]),(12,[]),(13,[]),(6,[]),(7,[13]),(14,[]),(15,[]),(16,[]),(17,[])])]),
 (162,[]),
 (163,[]),
 (164,[]),
 (165,[]),
 (166,[]),
 (167,[]),
 (168,[]),
 (169,[]),
 (170,[]),
 (171,[]),
 (172,[]),
 (173,[]),
 (174,[]),
 (175,[]),
 (176,[]),
 (177,[]),
 (178,[(17,[(0,[]),(2,[]),(3,[]),(1,[3]),(4,[]),(5,[]),(6,[]),(7,[])])]),
 (179,[]),
 (180,[]),
 (181,[]),
 (182,[]),
 (183,[]),
 (184,[]),
 (185,[]),
 (186,[(14,[(1,[]),(2,[]),(3,[]),(5,[]),(6,[]),(7,[]),(10,[]),(11,[]),(12,[]),(0,[]),(4,[]),(8,[]),(9,[]),(13,[]),(14,[]),(15,[])])]),
 (187,[]),
 (188,[]),
 (189,[(13,[(1,[]),(2,[]),(3,[]),(5,[]),(8,[]),(9,[]),(10,[]),(0,[]),(4,[5]),(6,[]),(7,[]),(11,[]),(12,[]),(13,[])])]),
 (190,[(30,[(1,[]),(2,[]),(3,[]),(4,[]),(6,[]),(7,[]),(8,[]),(9,[]),(12,[]),(13,[]),(14,[]),(15,[]),(0,[]),(5,[13,7]),(10,[]),(11,[13]),(16,[]),(17,[]),(18,[])]),(31,[(0,[]),(1,[]),(2,[]),(3,[]),(4,[]),(5,[]),(6,[]),(7,[]),(8,[]),(9,[]),(10,[1]),(11,[]),(12,[]),(13,[]),(14,[]),(15,[]),(16,[]),(17,[])])]),
 (191,[(13,[(1,[]),(2,[]),(4,[]),(5,[]),(6,[]),(7,[]),(8,[]),(9,[]),(10,[]),(11,[]),(12,[]),(13,[]),(0,[]),(3,[12,10,9,5]),(14,[]),(15,[]),(16,[]),(17,[])]),(14,[(0,[]),(1,[]),(2,[]),(3,[]),(4,[]),(5,[3]),(6,[])])]),
 (192,[(12,[(0,[]),(1,[]),(2,[]),(3,[]),(4,[]),(5,[]),(6,[]),(8,[]),(9,[]),(7,[9]),(10,[]),(11,[]),(12,[])]),(22,[(0,[]),(1,[]),(2,[1]),(3,[])])]),
 (193,[]),
 (194,[(3,[(0,[]),(1,[]),(3,[]),(4,[]),(2,[4]),(5,[]),(6,[]),(7,[])])]),
 (195,[]),
 (196,[]),
 (197,[]),
 (198,[]),
 (199,[]),
 (200,[]),
 (201,[]),
 (203,[]),
 (204,[]),
 (205,[]),
 (206,[]),
 (207,[(4,[(0,[]),(1,[]),(3,[]),(4,[]),(6,[]),(2,[4]),(5,[]),(7,[]),(8,[]),(9,[]),(10,[])])]),
 (208,[(9,[(0,[]),(1,[]),(2,[]),(3,[]),(4,[]),(5,[]),(6,[3,1]),(7,[]),(8,[]),(9,[]),(10,[])])]),
 (209,[]),
 (210,[]),
 (211,[]),
 (212,[]),
 (213,[]),
 (214,[]),
 (215,[(6,[(0,[]),(1,[]),(2,[]),(3,[]),(4,[]),(5,[4]),(6,[])])]),
 (216,[]),
 (217,[]),
 (218,[]),
 (219,[]),
 (220,[]),
 (222,[]),
 (223,[(7,[(0,[]),(1,[]),(2,[]),(3,[]),(4,[1]),(5,[]),(6,[]),(7,[])])]),
 (224,[]),
 (225,[]),
 (226,[(5,[(0,[]),(1,[]),(2,[]),(5,[]),(6,[]),(7,[]),(3,[]),(4,[7]),(8,[]),(9,[]),(10,[]),(11,[])])]),
 (227,[]),
 (228,[]),
 (229,[]),
 (231,[]),
 (232,[]),
 (233,[]),
 (235,[]),
 (236,[]),
 (238,[]),
 (239,[]),
 (241,[]),
 (242,[(7,[(0,[]),(1,[]),(2,[]),(3,[]),(4,[]),(5,[]),(6,[]),(7,[]),(8,[]),(9,[]),(10,[]),(11,[]),(12,[]),(14,[]),(13,[14]),(15,[]),(16,[]),(17,[])])]),
 (243,[]),
 (244,[]),
 (245,[]),
 (246,[]),
 (249,[(7,[(0,[]),(1,[]),(2,[]),(4,[]),(5,[]),(3,[5]),(6,[]),(7,[])]),(16,[(0,[]),(1,[]),(2,[]),(3,[]),(5,[]),(6,[]),(7,[]),(9,[]),(10,[]),(11,[]),(4,[11,7]),(8,[11]),(12,[]),(13,[])]),(20,[(0,[]),(1,[]),(2,[]),(4,[]),(5,[]),(7,[]),(8,[]),(9,[]),(3,[9,8,5]),(6,[9,8]),(10,[]),(11,[])]),(27,[(0,[]),(1,[]),(2,[]),(4,[]),(5,[]),(7,[]),(8,[]),(10,[]),(11,[]),(3,[11,8,5]),(6,[11,8]),(9,[11]),(12,[]),(13,[])]),(31,[(0,[]),(1,[]),(2,[]),(4,[]),(5,[]),(7,[]),(8,[]),(9,[]),(11,[]),(12,[]),(13,[]),(3,[13,9,5]),(6,[13,9]),(10,[13]),(14,[]),(15,[])])]),
 (250,[]),
 (251,[]),
 (252,[]),
 (253,[]),
 (254,[]),
 (258,[]),
 (259,[]),
 (260,[]),
 (263,[]),
 (268,[]),
 (269,[]),
 (270,[]),
 (271,[]),
 (273,[]),
 (278,[]),
 (279,[]),
 (286,[]),
 (287,[]),
 (307,[]),
 (308,[]),
 (309,[]),
 (310,[]),
 (311,[]),
 (312,[]),
 (313,[]),
 (314,[])]
def dVl:List Nat:=[3,4,5,6,7,8,9,10,11,12,13,14,15,16,17,18,19,21,22,23,24,25,26,27,28,29,30,31,32,33,34,35,36,37,38,40,41,42,43,44,45,46,47,48,50,51,52,53,54,55,56,57,58,59,62,64,68,69,70,73,74,75,76,77,78,80,81,82,83,84,85,86,87,88,89,90,91,103,104,105,107,108,109,110,111,112,113,114,115,116,117,118,119,120,121,122,123,124,126,127,128,129,130,131,132,133,134,135,136,137,139,140,141,142,143,144,145,146,147,148,150,151,158,159,160,161,162,163,164,165,166,167,168,169,170,173,174,175,177,178,182,185,186,187,188,189,190,191,192,193,194,195,196,197,198,199,200,201,203,204,205,206,207,208,212,213,214,215,216,217,218,219,220,222,223,224,225,226,227,228,229,231,232,233,236,238,241,242,243,244,245,246,249,253,254,258,260,263,268,271,273,278,279,286,287,307,308,309,310,311,312,313,314]
def dOl:List (Nat×List Nat):=[(235,[0]),(102,[2]),(157,[999])]
noncomputable def nK:iQ:=rG prog dSp aYc dVl dOl
end Go.Proofs.YtoaibmbldmckaaaGreat
end
section
namespace Go.Proofs.YtoaibmbldmckaaaGreat
open Go.RowKit Go.AM Tryz
def aTl:iJ:=[
 (3,[]),
 (4,[(4,[(0,[]),(2,[]),(1,[2]),(3,[]),(4,[]),(5,[]),(6,[]),(7,[]),(8,[]),(9,[]),(10,[]),(11,[]),(12,[]),(13,[])])]),
 (5,[(10,[(0,[]),(1,[]),(2,[1]),(3,[])])]),
 (6,[(8,[(0,[]),(2,[]),(1,[2]),(3,[]),(4,[]),(5,[]),(6,[]),(7,[]),(8,[]),(9,[]),(10,[]),(11,[]),(12,[]),(13,[]),(14,[]),(15,[])])]),
 (7,[]),
 (8,[(7,[(1,[]),(2,[]),(3,[]),(4,[]),(6,[]),(7,[]),(8,[]),(9,[]),(10,[]),(0,[]),(5,[7]),(11,[]),(12,[])]),(15,[(0,[]),(1,[0]),(2,[0]),(3,[]),(4,[]),(5,[]),(6,[]),(7,[]),(8,[])])]),
 (9,[]),
 (10,[]),
 (11,[]),
 (12,[]),
 (13,[(2,[(0,[]),(2,[]),(1,[2]),(3,[]),(4,[]),(5,[]),(6,[]),(7,[]),(8,[]),(9,[]),(10,[]),(11,[]),(12,[]),(13,[]),(14,[])])]),
 (14,[]),
 (15,[(5,[(0,[]),(1,[]),(2,[0]),(3,[]),(4,[]),(5,[]),(6,[]),(7,[]),(8,[]),(9,[])]),(6,[(0,[]),(1,[]),(2,[0]),(3,[]),(4,[]),(5,[]),(6,[]),(7,[]),(8,[]),(9,[])])]),
 (16,[(3,[(0,[]),(2,[]),(1,[2]),(3,[]),(4,[]),(5,[])]),(4,[(0,[]),(1,[]),(2,[]),(3,[]),(4,[]),(5,[]),(6,[]),(7,[]),(8,[]),(9,[]),(10,[]),(12,[]),(13,[]),(11,[13,12]),(14,[]),(15,[]),(16,[]),(17,[]),(18,[]),(19,[]),(20,[])])]),
 (17,[(32,[(0,[]),(1,[]),(2,[]),(3,[]),(4,[]),(5,[]),(6,[]),(7,[]),(8,[]),(9,[]),(10,[]),(11,[]),(12,[]),(13,[]),(14,[]),(15,[]),(16,[]),(17,[]),(18,[]),(19,[]),(20,[]),(21,[]),(22,[]),(23,[]),(24,[]),(25,[]),(26,[]),(27,[]),(28,[25,23]),(29,[]),(30,[]),(31,[25,23]),(32,[]),(33,[]),(34,[25]),(35,[]),(36,[]),(37,[])])]),
 (18,[])]
theorem aQy:gR prog aTl=true:=by kernel_rfl
def aTm:iJ:=[
 (19,[]),
 (20,[]),
 (21,[]),
 (22,[]),
 (23,[]),
 (24,[]),
 (25,[(6,[(0,[]),(1,[]),(2,[]),(3,[]),(4,[]),(5,[]),(6,[]),(7,[]),(8,[]),(9,[8]),(10,[]),(11,[]),(12,[]),(13,[]),(14,[]),(15,[]),(16,[]),(17,[]),(18,[]),(19,[]),(20,[]),(21,[]),(22,[]),(23,[]),(24,[])])]),
 (26,[]),
 (27,[]),
 (28,[]),
 (29,[(7,[(0,[]),(1,[]),(2,[]),(3,[]),(4,[]),(5,[]),(6,[]),(8,[]),(9,[]),(10,[]),(11,[]),(12,[]),(13,[]),(15,[]),(16,[]),(17,[]),(18,[]),(19,[]),(20,[]),(7,[20,16,13,9]),(14,[20,16]),(21,[]),(22,[])]),(12,[(0,[]),(1,[]),(2,[]),(3,[]),(4,[]),(5,[]),(6,[]),(8,[]),(9,[]),(10,[]),(11,[]),(12,[]),(13,[]),(15,[]),(16,[]),(17,[]),(18,[]),(19,[]),(20,[]),(7,[20,16,13,9]),(14,[20,16]),(21,[]),(22,[])]),(18,[(0,[]),(1,[]),(2,[]),(3,[]),(5,[]),(6,[]),(4,[6]),(7,[]),(8,[])]),(19,[(0,[]),(1,[]),(2,[]),(3,[]),(5,[]),(6,[]),(7,[]),(4,[7]),(8,[]),(9,[])]),(25,[(0,[]),(1,[]),(2,[]),(4,[]),(5,[]),(7,[]),(8,[]),(3,[8,5]),(6,[8]),(9,[]),(10,[])]),(30,[(0,[]),(1,[]),(2,[]),(3,[]),(4,[]),(5,[]),(6,[]),(8,[]),(9,[]),(10,[]),(11,[]),(12,[]),(13,[]),(15,[]),(16,[]),(17,[]),(18,[]),(19,[]),(20,[]),(7,[20,16,13,9]),(14,[20,16]),(21,[]),(22,[])])]),
 (30,[]),
 (31,[]),
 (32,[]),
 (33,[(3,[(0,[]),(1,[0]),(2,[]),(3,[])]),(5,[(0,[]),(1,[0]),(2,[]),(3,[])]),(10,[(0,[]),(1,[]),(2,[0]),(3,[]),(4,[])]),(12,[(0,[]),(1,[]),(2,[1]),(3,[])]),(17,[(0,[]),(1,[]),(2,[1]),(3,[])])]),
 (34,[(9,[(1,[]),(2,[]),(4,[]),(5,[]),(6,[]),(0,[]),(3,[5]),(7,[]),(8,[]),(9,[]),(10,[])]),(11,[(0,[]),(1,[]),(2,[]),(3,[]),(4,[]),(5,[2]),(6,[])]),(16,[(0,[]),(1,[]),(2,[1]),(3,[])]),(21,[(0,[]),(1,[]),(2,[1]),(3,[])])])]
theorem aQz:gR prog aTm=true:=by kernel_rfl
def aTn:iJ:=[
 (35,[]),
 (36,[]),
 (37,[]),
 (38,[]),
 (39,[]),
 (40,[]),
 (41,[(10,[(0,[]),(1,[]),(3,[]),(2,[3]),(4,[]),(5,[]),(6,[]),(7,[]),(8,[]),(10,[]),(9,[10]),(11,[]),(12,[]),(13,[])]),(19,[(1,[]),(2,[]),(3,[]),(5,[]),(6,[]),(7,[]),(8,[]),(9,[]),(12,[]),(13,[]),(14,[]),(0,[]),(4,[8,6]),(10,[]),(11,[]),(15,[]),(16,[])])]),
 (42,[]),
 (43,[]),
 (44,[(3,[(0,[]),(1,[0]),(2,[0]),(3,[]),(4,[]),(5,[]),(6,[]),(7,[]),(8,[])]),(4,[(0,[]),(1,[0]),(2,[0]),(3,[]),(4,[]),(5,[]),(6,[]),(7,[]),(8,[])])]),
 (45,[]),
 (46,[]),
 (47,[]),
 (48,[]),
 (50,[]),
 (51,[])]
theorem aR0:gR prog aTn=true:=by kernel_rfl
def aTo:iJ:=[
 (52,[]),
 (53,[]),
 (54,[(7,[(0,[]),(1,[]),(3,[]),(4,[]),(6,[]),(2,[4]),(5,[]),(7,[]),(8,[]),(9,[]),(10,[])])]),
 (55,[]),
 (56,[]),
 (57,[]),
 (58,[]),
 (59,[]),
 (60,[]),
 (61,[]),
 (62,[]),
 (63,[]),
 (64,[]),
 (65,[]),
 (66,[]),
 (67,[])]
theorem aR1:gR prog aTo=true:=by kernel_rfl
def aTp:iJ:=[
 (68,[]),
 (69,[]),
 (70,[]),
 (71,[]),
 (72,[]),
 (73,[]),
 (74,[]),
 (75,[]),
 (76,[]),
 (77,[]),
 (78,[]),
 (79,[]),
 (80,[]),
 (81,[]),
 (82,[]),
 (83,[])]
theorem aR2:gR prog aTp=true:=by kernel_rfl
def aTq:iJ:=[
 (84,[]),
 (85,[]),
 (86,[]),
 (87,[]),
 (88,[]),
 (89,[]),
 (90,[]),
 (91,[]),
 (92,[]),
 (93,[]),
 (94,[]),
 (95,[]),
 (96,[]),
 (97,[]),
 (98,[(1,[(0,[]),(1,[]),(2,[]),(4,[]),(5,[]),(7,[]),(8,[]),(3,[8,5]),(6,[8]),(9,[]),(10,[])])]),
 (99,[])]
theorem aR3:gR prog aTq=true:=by kernel_rfl
def aTr:iJ:=[
 (100,[]),
 (101,[(1,[(0,[]),(1,[]),(2,[]),(4,[]),(5,[]),(7,[]),(8,[]),(3,[8,5]),(6,[8]),(9,[]),(10,[])])]),
 (102,[(9,[(0,[]),(1,[]),(2,[]),(3,[]),(4,[]),(5,[]),(6,[]),(7,[]),(8,[]),(9,[]),(10,[1]),(11,[]),(12,[]),(13,[]),(14,[])])]),
 (103,[]),
 (104,[(2,[(0,[]),(1,[0]),(2,[]),(3,[])]),(5,[(0,[]),(1,[]),(2,[0]),(3,[]),(4,[])]),(9,[(0,[]),(1,[]),(2,[1]),(3,[])])]),
 (105,[]),
 (106,[]),
 (107,[(8,[(0,[]),(1,[]),(2,[]),(3,[]),(4,[]),(5,[]),(6,[]),(7,[]),(8,[5]),(9,[]),(10,[]),(11,[])])]),
 (108,[(5,[(0,[]),(1,[]),(2,[]),(3,[]),(4,[]),(5,[3]),(6,[]),(7,[])]),(12,[(0,[]),(1,[]),(2,[]),(3,[]),(4,[]),(5,[3]),(6,[]),(7,[])]),(15,[(0,[]),(1,[]),(2,[]),(3,[]),(4,[]),(5,[]),(6,[]),(7,[5,3]),(8,[]),(9,[5]),(10,[]),(11,[])])]),
 (109,[]),
 (110,[(33,[(1,[]),(2,[]),(3,[]),(4,[]),(6,[]),(7,[]),(8,[]),(9,[]),(10,[]),(0,[]),(5,[7]),(11,[]),(12,[]),(13,[])]),(44,[(0,[]),(1,[]),(2,[1]),(3,[])])]),
 (111,[(4,[(0,[]),(1,[]),(2,[]),(3,[]),(4,[]),(5,[]),(6,[]),(7,[]),(8,[5]),(9,[]),(10,[]),(11,[])])]),
 (112,[]),
 (113,[]),
 (114,[]),
 (115,[])]
theorem aR4:gR prog aTr=true:=by kernel_rfl
def aTs:iJ:=[
 (116,[]),
 (117,[]),
 (118,[(1,[(0,[]),(1,[]),(2,[]),(3,[]),(4,[]),(5,[]),(6,[]),(7,[]),(8,[]),(9,[]),(10,[]),(11,[]),(12,[]),(13,[]),(14,[]),(15,[]),(16,[]),(17,[]),(18,[]),(19,[]),(20,[15]),(21,[]),(22,[]),(23,[])])]),
 (119,[]),
 (120,[(19,[(0,[]),(1,[]),(2,[]),(3,[]),(4,[]),(5,[]),(6,[]),(7,[]),(8,[]),(9,[]),(10,[]),(11,[]),(12,[]),(13,[]),(15,[]),(16,[]),(17,[]),(18,[]),(19,[]),(14,[19]),(20,[]),(21,[]),(22,[]),(23,[]),(24,[]),(25,[]),(26,[]),(27,[]),(28,[]),(29,[]),(30,[]),(31,[]),(32,[]),(33,[]),(34,[]),(35,[]),(36,[]),(37,[]),(38,[]),(39,[]),(40,[]),(41,[]),(42,[]),(43,[]),(44,[]),(45,[]),(46,[]),(47,[]),(48,[])])]),
 (121,[]),
 (122,[(11,[(1,[]),(2,[]),(3,[]),(5,[]),(6,[]),(7,[]),(8,[]),(9,[]),(10,[]),(13,[]),(14,[]),(15,[]),(0,[]),(4,[9]),(11,[]),(12,[]),(16,[]),(17,[])])]),
 (123,[(1,[(0,[]),(1,[]),(2,[]),(3,[]),(4,[]),(5,[]),(6,[]),(7,[]),(8,[]),(9,[]),(10,[]),(11,[]),(12,[]),(13,[]),(14,[]),(15,[]),(16,[]),(17,[]),(18,[]),(19,[]),(20,[]),(21,[]),(22,[]),(23,[]),(24,[]),(25,[]),(26,[]),(27,[]),(28,[]),(29,[]),(30,[25]),(31,[]),(32,[]),(33,[])])]),
 (124,[(1,[(0,[]),(1,[]),(2,[]),(3,[]),(4,[]),(5,[]),(6,[]),(7,[]),(9,[]),(8,[9]),(10,[]),(11,[]),(12,[]),(13,[])])]),
 (125,[]),
 (126,[]),
 (127,[]),
 (128,[]),
 (129,[]),
 (130,[]),
 (131,[])]
theorem aR5:gR prog aTs=true:=by kernel_rfl
def aTt:iJ:=[
 (132,[]),
 (133,[]),
 (134,[]),
 (135,[]),
 (136,[]),
 (137,[]),
 (138,[]),
 (139,[]),
 (140,[]),
 (141,[]),
 (142,[(5,[(0,[]),(1,[]),(2,[]),(3,[]),(4,[]),(5,[3]),(6,[]),(7,[])]),(14,[(0,[]),(1,[]),(2,[]),(3,[]),(4,[]),(5,[]),(6,[]),(7,[]),(8,[]),(10,[]),(9,[5,2]),(11,[5]),(12,[]),(13,[]),(14,[]),(15,[])]),(17,[(0,[]),(1,[]),(2,[]),(3,[]),(4,[]),(5,[]),(6,[]),(7,[5,3]),(8,[]),(9,[5]),(10,[]),(11,[])]),(24,[(0,[]),(1,[]),(2,[]),(3,[]),(4,[2]),(5,[])])]),
 (143,[(5,[(0,[]),(1,[]),(2,[]),(3,[]),(4,[]),(5,[4]),(6,[])])]),
 (144,[]),
 (145,[]),
 (146,[]),
 (147,[])]
theorem aR6:gR prog aTt=true:=by kernel_rfl
def aTu:iJ:=[
 (148,[]),
 (149,[]),
 (150,[]),
 (151,[]),
 (152,[]),
 (153,[]),
 (154,[(10,[(0,[]),(1,[]),(2,[]),(3,[]),(4,[]),(7,[]),(8,[]),(9,[]),(10,[]),(11,[]),(5,[]),(6,[11]),(12,[]),(13,[]),(14,[]),(15,[])])]),
 (155,[]),
 (156,[]),
 (157,[]),
 (158,[]),
 (159,[]),
 (160,[]),
 (161,[(5,[(0,[]),(1,[]),(2,[]),(3,[]),(4,[]),(5,[]),(8,[]),(9,[]),(10,[]),(11,[]),(12,[]),(13,[]),(6,[]),(7,[13]),(14,[]),(15,[]),(16,[]),(17,[])])]),
 (162,[]),
 (163,[])]
theorem aR7:gR prog aTu=true:=by kernel_rfl
def aNv:iJ:=[
 (164,[]),
 (165,[]),
 (166,[]),
 (167,[]),
 (168,[]),
 (169,[]),
 (170,[]),
 (171,[]),
 (172,[]),
 (173,[]),
 (174,[]),
 (175,[]),
 (176,[]),
 (177,[]),
 (178,[(17,[(0,[]),(2,[]),(3,[]),(1,[3]),(4,[]),(5,[]),(6,[]),(7,[])])]),
 (179,[])]
theorem aM7:gR prog aNv=true:=by kernel_rfl
def aNw:iJ:=[
 (180,[]),
 (181,[]),
 (182,[]),
 (183,[]),
 (184,[]),
 (185,[]),
 (186,[(14,[(1,[]),(2,[]),(3,[]),(5,[]),(6,[]),(7,[]),(10,[]),(11,[]),(12,[]),(0,[]),(4,[]),(8,[]),(9,[]),(13,[]),(14,[]),(15,[])])]),
 (187,[]),
 (188,[]),
 (189,[(13,[(1,[]),(2,[]),(3,[]),(5,[]),(8,[]),(9,[]),(10,[]),(0,[]),(4,[5]),(6,[]),(7,[]),(11,[]),(12,[]),(13,[])])]),
 (190,[(30,[(1,[]),(2,[]),(3,[]),(4,[]),(6,[]),(7,[]),(8,[]),(9,[]),(12,[]),(13,[]),(14,[]),(15,[]),(0,[]),(5,[13,7]),(10,[]),(11,[13]),(16,[]),(17,[]),(18,[])]),(31,[(0,[]),(1,[]),(2,[]),(3,[]),(4,[]),(5,[]),(6,[]),(7,[]),(8,[]),(9,[]),(10,[1]),(11,[]),(12,[]),(13,[]),(14,[]),(15,[]),(16,[]),(17,[])])]),
 (191,[(13,[(1,[]),(2,[]),(4,[]),(5,[]),(6,[]),(7,[]),(8,[]),(9,[]),(10,[]),(11,[]),(12,[]),(13,[]),(0,[]),(3,[12,10,9,5]),(14,[]),(15,[]),(16,[]),(17,[])]),(14,[(0,[]),(1,[]),(2,[]),(3,[]),(4,[]),(5,[3]),(6,[])])]),
 (192,[(12,[(0,[]),(1,[]),(2,[]),(3,[]),(4,[]),(5,[]),(6,[]),(8,[]),(9,[]),(7,[9]),(10,[]),(11,[]),(12,[])]),(22,[(0,[]),(1,[]),(2,[1]),(3,[])])]),
 (193,[]),
 (194,[(3,[(0,[]),(1,[]),(3,[]),(4,[]),(2,[4]),(5,[]),(6,[]),(7,[])])]),
 (195,[])]
theorem aM8:gR prog aNw=true:=by kernel_rfl
def aNx:iJ:=[
 (196,[]),
 (197,[]),
 (198,[]),
 (199,[]),
 (200,[]),
 (201,[]),
 (203,[]),
 (204,[]),
 (205,[]),
 (206,[]),
 (207,[(4,[(0,[]),(1,[]),(3,[]),(4,[]),(6,[]),(2,[4]),(5,[]),(7,[]),(8,[]),(9,[]),(10,[])])]),
 (208,[(9,[(0,[]),(1,[]),(2,[]),(3,[]),(4,[]),(5,[]),(6,[3,1]),(7,[]),(8,[]),(9,[]),(10,[])])]),
 (209,[]),
 (210,[]),
 (211,[]),
 (212,[])]
theorem aM9:gR prog aNx=true:=by kernel_rfl
def aNy:iJ:=[
 (213,[]),
 (214,[]),
 (215,[(6,[(0,[]),(1,[]),(2,[]),(3,[]),(4,[]),(5,[4]),(6,[])])]),
 (216,[]),
 (217,[]),
 (218,[]),
 (219,[]),
 (220,[]),
 (222,[]),
 (223,[(7,[(0,[]),(1,[]),(2,[]),(3,[]),(4,[1]),(5,[]),(6,[]),(7,[])])]),
 (224,[]),
 (225,[]),
 (226,[(5,[(0,[]),(1,[]),(2,[]),(5,[]),(6,[]),(7,[]),(3,[]),(4,[7]),(8,[]),(9,[]),(10,[]),(11,[])])]),
 (227,[]),
 (228,[]),
 (229,[])]
theorem aMa:gR prog aNy=true:=by kernel_rfl
def aNz:iJ:=[
 (231,[]),
 (232,[]),
 (233,[]),
 (235,[]),
 (236,[]),
 (238,[]),
 (239,[]),
 (241,[]),
 (242,[(7,[(0,[]),(1,[]),(2,[]),(3,[]),(4,[]),(5,[]),(6,[]),(7,[]),(8,[]),(9,[]),(10,[]),(11,[]),(12,[]),(14,[]),(13,[14]),(15,[]),(16,[]),(17,[])])]),
 (243,[]),
 (244,[]),
 (245,[]),
 (246,[]),
 (249,[(7,[(0,[]),(1,[]),(2,[]),(4,[]),(5,[]),(3,[5]),(6,[]),(7,[])]),(16,[(0,[]),(1,[]),(2,[]),(3,[]),(5,[]),(6,[]),(7,[]),(9,[]),(10,[]),(11,[]),(4,[11,7]),(8,[11]),(12,[]),(13,[])]),(20,[(0,[]),(1,[]),(2,[]),(4,[]),(5,[]),(7,[]),(8,[]),(9,[]),(3,[9,8,5]),(6,[9,8]),(10,[]),(11,[])]),(27,[(0,[]),(1,[]),(2,[]),(4,[]),(5,[]),(7,[]),(8,[]),(10,[]),(11,[]),(3,[11,8,5]),(6,[11,8]),(9,[11]),(12,[]),(13,[])]),(31,[(0,[]),(1,[]),(2,[]),(4,[]),(5,[]),(7,[]),(8,[]),(9,[]),(11,[]),(12,[]),(13,[]),(3,[13,9,5]),(6,[13,9]),(10,[13]),(14,[]),(15,[])])]),
 (250,[]),
 (251,[])]
theorem aMb:gR prog aNz=true:=by kernel_rfl
def aO0:iJ:=[
 (252,[]),
 (253,[]),
 (254,[]),
 (258,[]),
 (259,[]),
 (260,[]),
 (263,[]),
 (268,[]),
 (269,[]),
 (270,[]),
 (271,[]),
 (273,[]),
 (278,[]),
 (279,[]),
 (286,[]),
 (287,[])]
theorem aMc:gR prog aO0=true:=by kernel_rfl
def aO1:iJ:=[
 (307,[]),
 (308,[]),
 (309,[]),
 (310,[]),
 (311,[]),
 (312,[]),
 (313,[]),
 (314,[])]
theorem aMd:gR prog aO1=true:=by kernel_rfl
end Go.Proofs.YtoaibmbldmckaaaGreat
end
section
namespace Go.Proofs.YtoaibmbldmckaaaGreat
open Go.AM Tryz
section
noncomputable abbrev C:aQ:=W prog nK
abbrev Fv (f:Nat) (args:List V) (v:V):Prop:=Go.AM.Fn prog nK f args v
abbrev Fr (f:Nat) (mk:Nat→List V) (n:Nat) (pre:List V) (v:V) (post:List V):Prop:=Go.AM.FnR prog nK f mk 0 n [pre] v [post]
theorem A2 {p q:Prop} (a:p) (b:q):p∧q:=⟨a,b⟩
abbrev TP:=List (Nat×List bJ)
abbrev TL:=List (Nat×List Nat)
abbrev VA (f:Nat) (fn:Func) (tp:TP) (tl:TL):Prop:=∀ {args:List V} {v:V},cloVs args=true→(aB1 prog C fn tp tl args ⟨0,.nil⟩ fun v0 S0=>lS S0 v0=.ok v)→Fv f args v
abbrev VB (f:Nat) (fn:Func) (tp:TP) (tl:TL):Prop:=∀ {args:List V} {S:St} {K:KW},aB1 prog C fn tp tl args S K→C f args S K
abbrev VC (f:Nat) (fn:Func) (tp:TP) (tl:TL) (w:List Nat):Prop:=∀ {args:List V} {S:St} {K:KW},cloVs args=true→(aB1 prog C fn tp tl args ⟨0,.nil⟩ fun v0 S0=>wR (hl (tK w v0 S0 S)) fun r=>K r.1 r.2)→C f args S K
abbrev VT (f:Nat) (fn:Func) (tp:TP) (tl:TL):Prop:=∀ (args:List V) (S:St) (K:KW),eY prog C (dP tp) (fB tl) f args S K=aB1 prog C fn tp tl args S K
abbrev VK (f:Nat) (fn:Func) (tp:TP) (tl:TL):Prop:=∀ {bs:List V} {v:V},(aB1 prog C fn tp tl bs ⟨0,.nil⟩ fun v0 S0=>aFd S0 v0=true∧lS S0 v0=.ok v)→FnK prog nK f bs v
section
variable {f:Nat} {fn:Func} {tp:TP} {tl:TL}
theorem va (hp:nK f=some (.val (dP tp))) (hb:yN prog f=some (aDf fn)):VA f fn tp tl:=fun hc h=>bFi hp hb hc h
theorem vb (hp:nK f=some (.code (dP tp))) (hb:yN prog f=some (aDf fn)):VB f fn tp tl:=fun h=>bE1 hp hb h
theorem vt (hb:yN prog f=some (aDf fn)):VT f fn tp tl:=fun args S K=>by unfold eY;rw [hb];rfl
theorem vc {w:List Nat} (hp:nK f=some (.own (dP tp) w)) (hb:yN prog f=some (aDf fn)) (hm:gL kpN w=false):VC f fn tp tl w:=fun hc h=>bFf (p:=dP tp) (lv:=fB tl) hp hm hc (by rw [vt (tp:=tp) (tl:=tl) hb];exact h)
theorem vk (hp:nK f=some (.own (dP tp) [kpN])) (hb:yN prog f=some (aDf fn)):VK f fn tp tl:=fun h=>FnK.of (p:=dP tp) (lv:=fB tl) hp (by rw [vt (tp:=tp) (tl:=tl) hb];exact h)
end
theorem v15:VA 15 Tryz.f15 [(5,[(0,[]),(1,[]),(2,[0]),(3,[]),(4,[]),(5,[]),(6,[]),(7,[]),(8,[]),(9,[])]),(6,[(0,[]),(1,[]),(2,[0]),(3,[]),(4,[]),(5,[]),(6,[]),(7,[]),(8,[]),(9,[])])] []:=va (by kernel_rfl) (by kernel_rfl)
theorem v20:VB 20 Tryz.f20 [] []:=vb (by kernel_rfl) (by kernel_rfl)
theorem v22:VA 22 Tryz.f22 [] []:=va (by kernel_rfl) (by kernel_rfl)
theorem v24:VA 24 Tryz.f24 [] []:=va (by kernel_rfl) (by kernel_rfl)
theorem bFj:nK 24=some (.val (dP [])):=by kernel_rfl
theorem v27:VA 27 Tryz.f27 [] [(4,[4,5])]:=va (by kernel_rfl) (by kernel_rfl)
theorem v28:VA 28 Tryz.f28 [] [(28,[97]),(22,[80]),(14,[53]),(6,[26])]:=va (by kernel_rfl) (by kernel_rfl)
theorem v31:VA 31 Tryz.f31 [] []:=va (by kernel_rfl) (by kernel_rfl)
theorem v35:VA 35 Tryz.f35 [] [(4,[6,14])]:=va (by kernel_rfl) (by kernel_rfl)
theorem bM9:nK 35=some (.val (dP [])):=by kernel_rfl
theorem v53:VA 53 Tryz.f53 [] [(4,[4,5])]:=va (by kernel_rfl) (by kernel_rfl)
theorem v60:VB 60 Tryz.f60 [] []:=vb (by kernel_rfl) (by kernel_rfl)
theorem v61:VB 61 Tryz.f61 [] [(3,[7,11])]:=vb (by kernel_rfl) (by kernel_rfl)
theorem v63:VB 63 Tryz.f63 [] [(3,[7,11])]:=vb (by kernel_rfl) (by kernel_rfl)
theorem v65:VB 65 Tryz.f65 [] [(3,[7,11])]:=vb (by kernel_rfl) (by kernel_rfl)
theorem v66:VB 66 Tryz.f66 [] []:=vb (by kernel_rfl) (by kernel_rfl)
theorem v67:VB 67 Tryz.f67 [] [(3,[7,11])]:=vb (by kernel_rfl) (by kernel_rfl)
theorem v71:VB 71 Tryz.f71 [] [(17,[2,91]),(2,[2,15])]:=vb (by kernel_rfl) (by kernel_rfl)
theorem v80:VA 80 Tryz.f80 [] [(4,[4,5])]:=va (by kernel_rfl) (by kernel_rfl)
theorem v81:VA 81 Tryz.f81 [] [(4,[4,5])]:=va (by kernel_rfl) (by kernel_rfl)
theorem v82:VA 82 Tryz.f82 [] [(4,[4,5])]:=va (by kernel_rfl) (by kernel_rfl)
theorem v83:VA 83 Tryz.f83 [] [(4,[4,5])]:=va (by kernel_rfl) (by kernel_rfl)
theorem v84:VA 84 Tryz.f84 [] [(4,[4,5])]:=va (by kernel_rfl) (by kernel_rfl)
theorem v85:VA 85 Tryz.f85 [] [(4,[2,10])]:=va (by kernel_rfl) (by kernel_rfl)
theorem v86:VA 86 Tryz.f86 [] [(4,[2,10])]:=va (by kernel_rfl) (by kernel_rfl)
theorem v87:VA 87 Tryz.f87 [] []:=va (by kernel_rfl) (by kernel_rfl)
theorem v88:VA 88 Tryz.f88 [] [(16,[2,58]),(5,[2,14])]:=va (by kernel_rfl) (by kernel_rfl)
theorem v89:VA 89 Tryz.f89 [] [(13,[2,38]),(3,[2,12])]:=va (by kernel_rfl) (by kernel_rfl)
theorem v90:VA 90 Tryz.f90 [] [(3,[2,3,4,11])]:=va (by kernel_rfl) (by kernel_rfl)
theorem v91:VA 91 Tryz.f91 [] [(4,[4,13])]:=va (by kernel_rfl) (by kernel_rfl)
theorem v92:VB 92 Tryz.f92 [] [(1,[8])]:=vb (by kernel_rfl) (by kernel_rfl)
theorem v93:VB 93 Tryz.f93 [] []:=vb (by kernel_rfl) (by kernel_rfl)
theorem v94:VB 94 Tryz.f94 [] []:=vb (by kernel_rfl) (by kernel_rfl)
theorem v95:VB 95 Tryz.f95 [] []:=vb (by kernel_rfl) (by kernel_rfl)
theorem v96:VB 96 Tryz.f96 [] [(6,[34])]:=vb (by kernel_rfl) (by kernel_rfl)
theorem bMa:VC 102 Tryz.f102 [(9,[(0,[]),(1,[]),(2,[]),(3,[]),(4,[]),(5,[]),(6,[]),(7,[]),(8,[]),(9,[]),(10,[1]),(11,[]),(12,[]),(13,[]),(14,[])])] [(7,[27])] [2]:=vc (by kernel_rfl) (by kernel_rfl) rfl
theorem bMb:VA 103 Tryz.f103 [] []:=va (by kernel_rfl) (by kernel_rfl)
theorem bMc:VA 104 Tryz.f104 [(2,[(0,[]),(1,[0]),(2,[]),(3,[])]),(5,[(0,[]),(1,[]),(2,[0]),(3,[]),(4,[])]),(9,[(0,[]),(1,[]),(2,[1]),(3,[])])] []:=va (by kernel_rfl) (by kernel_rfl)
theorem bFk:nK 104=some (.val (dP [(2,[(0,[]),(1,[0]),(2,[]),(3,[])]),(5,[(0,[]),(1,[]),(2,[0]),(3,[]),(4,[])]),(9,[(0,[]),(1,[]),(2,[1]),(3,[])])])):=by kernel_rfl
theorem bMd:VA 105 Tryz.f105 [] []:=va (by kernel_rfl) (by kernel_rfl)
theorem bMe:VB 106 Tryz.f106 [] []:=vb (by kernel_rfl) (by kernel_rfl)
theorem bMf:VA 107 Tryz.f107 [(8,[(0,[]),(1,[]),(2,[]),(3,[]),(4,[]),(5,[]),(6,[]),(7,[]),(8,[5]),(9,[]),(10,[]),(11,[])])] []:=va (by kernel_rfl) (by kernel_rfl)
theorem bMg:VA 123 Tryz.f123 [(1,[(0,[]),(1,[]),(2,[]),(3,[]),(4,[]),(5,[]),(6,[]),(7,[]),(8,[]),(9,[]),(10,[]),(11,[]),(12,[]),(13,[]),(14,[]),(15,[]),(16,[]),(17,[]),(18,[]),(19,[]),(20,[]),(21,[]),(22,[]),(23,[]),(24,[]),(25,[]),(26,[]),(27,[]),(28,[]),(29,[]),(30,[25]),(31,[]),(32,[]),(33,[])])] []:=va (by kernel_rfl) (by kernel_rfl)
theorem bMh:VA 124 Tryz.f124 [(1,[(0,[]),(1,[]),(2,[]),(3,[]),(4,[]),(5,[]),(6,[]),(7,[]),(9,[]),(8,[9]),(10,[]),(11,[]),(12,[]),(13,[])])] []:=va (by kernel_rfl) (by kernel_rfl)
theorem bMi:VA 131 Tryz.f131 [] []:=va (by kernel_rfl) (by kernel_rfl)
theorem bMj:VA 132 Tryz.f132 [] []:=va (by kernel_rfl) (by kernel_rfl)
theorem bMk:VB 138 Tryz.f138 [] [(5,[5,6])]:=vb (by kernel_rfl) (by kernel_rfl)
theorem bMl:VB 149 Tryz.f149 [] [(3,[7,11])]:=vb (by kernel_rfl) (by kernel_rfl)
theorem bFl:VB 152 Tryz.f152 [] [(2,[4,8])]:=vb (by kernel_rfl) (by kernel_rfl)
theorem bMm:VB 153 Tryz.f153 [] []:=vb (by kernel_rfl) (by kernel_rfl)
theorem bMn:VB 154 Tryz.f154 [(10,[(0,[]),(1,[]),(2,[]),(3,[]),(4,[]),(7,[]),(8,[]),(9,[]),(10,[]),(11,[]),(5,[]),(6,[11]),(12,[]),(13,[]),(14,[]),(15,[])])] [(3,[2,3,4,16])]:=vb (by kernel_rfl) (by kernel_rfl)
theorem bFm:VB 155 Tryz.f155 [] [(2,[4,8])]:=vb (by kernel_rfl) (by kernel_rfl)
theorem bMo:VB 156 Tryz.f156 [] []:=vb (by kernel_rfl) (by kernel_rfl)
theorem bMp:VK 157 Tryz.f157 [] [(3,[2,3,4,18])]:=vk (by kernel_rfl) (by kernel_rfl)
theorem bMq:VA 162 Tryz.f162 [] []:=va (by kernel_rfl) (by kernel_rfl)
theorem bMr:VA 163 Tryz.f163 [] []:=va (by kernel_rfl) (by kernel_rfl)
theorem bMs:VA 164 Tryz.f164 [] []:=va (by kernel_rfl) (by kernel_rfl)
theorem bMt:VA 165 Tryz.f165 [] [(4,[2])]:=va (by kernel_rfl) (by kernel_rfl)
theorem bMu:VA 166 Tryz.f166 [] [(5,[2,3,11])]:=va (by kernel_rfl) (by kernel_rfl)
theorem bMv:VA 167 Tryz.f167 [] [(4,[2,20])]:=va (by kernel_rfl) (by kernel_rfl)
theorem bMw:VA 168 Tryz.f168 [] []:=va (by kernel_rfl) (by kernel_rfl)
theorem bFn:nK 168=some (.val (dP [])):=by kernel_rfl
theorem bMx:VA 169 Tryz.f169 [] []:=va (by kernel_rfl) (by kernel_rfl)
theorem bFo:nK 170=some (.val (dP [])):=by kernel_rfl
theorem bMy:VT 170 Tryz.f170 [] []:=vt (by kernel_rfl)
theorem bMz:VB 171 Tryz.f171 [] []:=vb (by kernel_rfl) (by kernel_rfl)
theorem bN0:VB 172 Tryz.f172 [] []:=vb (by kernel_rfl) (by kernel_rfl)
theorem bN1:VA 174 Tryz.f174 [] []:=va (by kernel_rfl) (by kernel_rfl)
theorem bFp:nK 174=some (.val (dP [])):=by kernel_rfl
theorem bN2:VB 176 Tryz.f176 [] []:=vb (by kernel_rfl) (by kernel_rfl)
theorem bN3:VA 177 Tryz.f177 [] []:=va (by kernel_rfl) (by kernel_rfl)
theorem bN4:VA 178 Tryz.f178 [(17,[(0,[]),(2,[]),(3,[]),(1,[3]),(4,[]),(5,[]),(6,[]),(7,[])])] [(8,[4,5,7,20])]:=va (by kernel_rfl) (by kernel_rfl)
theorem bN5:VB 179 Tryz.f179 [] []:=vb (by kernel_rfl) (by kernel_rfl)
theorem bN6:VB 180 Tryz.f180 [] []:=vb (by kernel_rfl) (by kernel_rfl)
theorem bN7:VB 181 Tryz.f181 [] []:=vb (by kernel_rfl) (by kernel_rfl)
theorem bN8:VA 182 Tryz.f182 [] []:=va (by kernel_rfl) (by kernel_rfl)
theorem bN9:VB 183 Tryz.f183 [] []:=vb (by kernel_rfl) (by kernel_rfl)
theorem bNa:VB 184 Tryz.f184 [] [(6,[31])]:=vb (by kernel_rfl) (by kernel_rfl)
theorem bNb:VA 200 Tryz.f200 [] [(5,[3,4])]:=va (by kernel_rfl) (by kernel_rfl)
theorem bNc:VA 203 Tryz.f203 [] []:=va (by kernel_rfl) (by kernel_rfl)
theorem bNd:VA 204 Tryz.f204 [] []:=va (by kernel_rfl) (by kernel_rfl)
theorem bNe:VB 211 Tryz.f211 [] []:=vb (by kernel_rfl) (by kernel_rfl)
theorem bNf:VA 217 Tryz.f217 [] []:=va (by kernel_rfl) (by kernel_rfl)
theorem bNg:VA 218 Tryz.f218 [] [(3,[4,5,12])]:=va (by kernel_rfl) (by kernel_rfl)
theorem bFq:nK 218=some (.val (dP [])):=by kernel_rfl
theorem bNh:VA 219 Tryz.f219 [] []:=va (by kernel_rfl) (by kernel_rfl)
theorem bNi:VA 220 Tryz.f220 [] [(2,[2,3])]:=va (by kernel_rfl) (by kernel_rfl)
theorem bNj:VA 224 Tryz.f224 [] [(4,[4,5])]:=va (by kernel_rfl) (by kernel_rfl)
theorem bNk:VA 225 Tryz.f225 [] []:=va (by kernel_rfl) (by kernel_rfl)
theorem bNl:VA 226 Tryz.f226 [(5,[(0,[]),(1,[]),(2,[]),(5,[]),(6,[]),(7,[]),(3,[]),(4,[7]),(8,[]),(9,[]),(10,[]),(11,[])])] [(3,[3,4,16])]:=va (by kernel_rfl) (by kernel_rfl)
theorem bFr:nK 227=some (.val (dP [])):=by kernel_rfl
theorem bNm:VT 227 Tryz.f227 [] []:=vt (by kernel_rfl)
theorem bNn:VA 228 Tryz.f228 [] [(6,[3,23])]:=va (by kernel_rfl) (by kernel_rfl)
theorem bNo:VA 229 Tryz.f229 [] []:=va (by kernel_rfl) (by kernel_rfl)
theorem bFs:nK 231=some (.val (dP [])):=by kernel_rfl
theorem bNp:VT 231 Tryz.f231 [] [(2,[4,8])]:=vt (by kernel_rfl)
theorem bFt:nK 232=some (.val (dP [])):=by kernel_rfl
theorem bNq:VT 232 Tryz.f232 [] []:=vt (by kernel_rfl)
theorem bNr:VA 233 Tryz.f233 [] []:=va (by kernel_rfl) (by kernel_rfl)
theorem bNs:VC 235 Tryz.f235 [] [] [0]:=vc (by kernel_rfl) (by kernel_rfl) rfl
theorem bNt:VA 236 Tryz.f236 [] []:=va (by kernel_rfl) (by kernel_rfl)
theorem bNu:VA 238 Tryz.f238 [] [(11,[7,8,36])]:=va (by kernel_rfl) (by kernel_rfl)
theorem bNv:VB 239 Tryz.f239 [] []:=vb (by kernel_rfl) (by kernel_rfl)
theorem bNw:VA 241 Tryz.f241 [] []:=va (by kernel_rfl) (by kernel_rfl)
theorem bNx:VA 254 Tryz.f254 [] []:=va (by kernel_rfl) (by kernel_rfl)
theorem bFu:VB 259 Tryz.f259 [] [(2,[2,9])]:=vb (by kernel_rfl) (by kernel_rfl)
theorem bNy:VA 260 Tryz.f260 [] [(4,[4,13])]:=va (by kernel_rfl) (by kernel_rfl)
theorem bFv:nK 263=some (.val (dP [])):=by kernel_rfl
theorem bNz:VT 263 Tryz.f263 [] []:=vt (by kernel_rfl)
theorem bO0:VA 268 Tryz.f268 [] []:=va (by kernel_rfl) (by kernel_rfl)
theorem bO1:VA 271 Tryz.f271 [] []:=va (by kernel_rfl) (by kernel_rfl)
theorem bO2:VA 278 Tryz.f278 [] [(5,[8,9,22])]:=va (by kernel_rfl) (by kernel_rfl)
theorem bO3:VA 279 Tryz.f279 [] []:=va (by kernel_rfl) (by kernel_rfl)
theorem bO4:VA 286 Tryz.f286 [] []:=va (by kernel_rfl) (by kernel_rfl)
theorem bO5:VA 287 Tryz.f287 [] []:=va (by kernel_rfl) (by kernel_rfl)
theorem tx0:∀ g:Nat,2≤g→g<247→cG prog g=some none:=by
 have h:((List.range 245).all fun g=>match cG prog (g+2) with
  | some none=>true
  | _=>false)=true:=by kernel_rfl
 intro g h0 h1
 have:=List.all_eq_true.1 h (g - 2) (List.mem_range.2 (by omega))
 rw [Nat.sub_add_cancel h0] at this
 split at this
 ·assumption
 ·cases this
theorem bA6 {g:Nat} (h0:1<g) (h1:g<247) (args:List V) (S:St) (K:KW):kT prog C g args S K=C g (hl args) S K:=oM _ _ (tx0 g h0 h1) _ _ _
theorem tx1:∀ g:Nat,248≤g→g<255→cG prog g=some none:=by
 have h:((List.range 7).all fun g=>match cG prog (g+248) with
  | some none=>true
  | _=>false)=true:=by kernel_rfl
 intro g h0 h1
 have:=List.all_eq_true.1 h (g - 248) (List.mem_range.2 (by omega))
 rw [Nat.sub_add_cancel h0] at this
 split at this
 ·assumption
 ·cases this
theorem bA7 {g:Nat} (h0:247<g) (h1:g<255) (args:List V) (S:St) (K:KW):kT prog C g args S K=C g (hl args) S K:=oM _ _ (tx1 g h0 h1) _ _ _
theorem tx2:∀ g:Nat,257≤g→g<261→cG prog g=some none:=by
 have h:((List.range 4).all fun g=>match cG prog (g+257) with
  | some none=>true
  | _=>false)=true:=by kernel_rfl
 intro g h0 h1
 have:=List.all_eq_true.1 h (g - 257) (List.mem_range.2 (by omega))
 rw [Nat.sub_add_cancel h0] at this
 split at this
 ·assumption
 ·cases this
theorem bA8 {g:Nat} (h0:256<g) (h1:g<261) (args:List V) (S:St) (K:KW):kT prog C g args S K=C g (hl args) S K:=oM _ _ (tx2 g h0 h1) _ _ _
theorem tx3:∀ g:Nat,267≤g→g<288→cG prog g=some none:=by
 have h:((List.range 21).all fun g=>match cG prog (g+267) with
  | some none=>true
  | _=>false)=true:=by kernel_rfl
 intro g h0 h1
 have:=List.all_eq_true.1 h (g - 267) (List.mem_range.2 (by omega))
 rw [Nat.sub_add_cancel h0] at this
 split at this
 ·assumption
 ·cases this
theorem bA9 {g:Nat} (h0:266<g) (h1:g<288) (args:List V) (S:St) (K:KW):kT prog C g args S K=C g (hl args) S K:=oM _ _ (tx3 g h0 h1) _ _ _
theorem aJy (args:List V) (S:St) (K:KW):kT prog C 255 args S K=wR (hl (qV Tryz.f255 args)) fun v=>K v S:=by
 unfold kT
 rw [show cG prog 255=some (some Tryz.f255) by kernel_rfl]
 rfl
theorem bFw (K:V→Prop):wO (aJ prog 30) K=K (.agg [.nils,.nils,.nils,.nils,.nils,.int .i64 0]):=congrArg (fun x=>wO x K) (show aJ prog 30=some (.agg [.nils,.nils,.nils,.nils,.nils,.int .i64 0]) by kernel_rfl)
theorem bFx (K:V→Prop):wO (aJ prog 48) K=K (.agg [.int .i64 0,.int .i64 0,.int .i64 0]):=congrArg (fun x=>wO x K) (show aJ prog 48=some (.agg [.int .i64 0,.int .i64 0,.int .i64 0]) by kernel_rfl)
theorem bAa:tL prog 26=true:=by kernel_rfl
theorem bFy (K:V→Prop):wO (aJ prog 52) K=K (.agg [.int .i64 0,.int .i64 0,.int .i64 0]):=congrArg (fun x=>wO x K) (show aJ prog 52=some (.agg [.int .i64 0,.int .i64 0,.int .i64 0]) by kernel_rfl)
theorem bAb:tL prog 22=true:=by kernel_rfl
theorem bFz (K:V→Prop):wO (aJ prog 61) K=K (.agg [.int .i64 0,.int .i64 0,.int .i64 0,.str [],.int .i64 0,.str [],.int .i64 0,.int .i64 0,.int .i64 0,.int .i64 0,.int .i64 0,.int .i64 0,.int .i64 0,.nils,.str [],.int .i64 0,.int .i64 0]):=congrArg (fun x=>wO x K) (show aJ prog 61=some (.agg [.int .i64 0,.int .i64 0,.int .i64 0,.str [],.int .i64 0,.str [],.int .i64 0,.int .i64 0,.int .i64 0,.int .i64 0,.int .i64 0,.int .i64 0,.int .i64 0,.nils,.str [],.int .i64 0,.int .i64 0]) by kernel_rfl)
theorem bAc:tL prog 44=true:=by kernel_rfl
theorem bAd:tL prog 96=true:=by kernel_rfl
theorem bAe:tL prog 97=true:=by kernel_rfl
theorem bG0 (K:V→Prop):wO (aJ prog 99) K=K (.agg [.int .i64 0,.int .i64 0,.int .i64 0,.str [],.int .i64 0,.str [],.int .i64 0,.int .i64 0,.int .i64 0,.int .i64 0,.int .i64 0,.int .i64 0,.int .i64 0,.nils,.str [],.int .i64 0,.int .i64 0,.int .i64 0,.int .i64 0,.int .i64 0,.int .i64 0,.int .i64 0,.int .i64 0]):=congrArg (fun x=>wO x K) (show aJ prog 99=some (.agg [.int .i64 0,.int .i64 0,.int .i64 0,.str [],.int .i64 0,.str [],.int .i64 0,.int .i64 0,.int .i64 0,.int .i64 0,.int .i64 0,.int .i64 0,.int .i64 0,.nils,.str [],.int .i64 0,.int .i64 0,.int .i64 0,.int .i64 0,.int .i64 0,.int .i64 0,.int .i64 0,.int .i64 0]) by kernel_rfl)
theorem bG1 (K:V→Prop):wO (aJ prog 54) K=K (.agg [.str [],.int .i64 0,.int .i64 0,.int .i64 0,.int .i64 0]):=congrArg (fun x=>wO x K) (show aJ prog 54=some (.agg [.str [],.int .i64 0,.int .i64 0,.int .i64 0,.int .i64 0]) by kernel_rfl)
theorem bAf:tL prog 24=true:=by kernel_rfl
theorem bAg (K:V→Prop):wO (aJ prog 126) K=K (.agg [.str [],.int .i64 0,.int .i64 0,.bool false]):=congrArg (fun x=>wO x K) (show aJ prog 126=some (.agg [.str [],.int .i64 0,.int .i64 0,.bool false]) by kernel_rfl)
theorem bAh:tL prog 25=true:=by kernel_rfl
theorem bG2 (K:V→Prop):wO (aJ prog 84) K=K (.agg [.str [],.int .i64 0,.int .i64 0,.int .i64 0,.int .i64 0,.int .i64 0,.int .i64 0,.int .i64 0,.nils,.str [],.int .i64 0,.bool false]):=congrArg (fun x=>wO x K) (show aJ prog 84=some (.agg [.str [],.int .i64 0,.int .i64 0,.int .i64 0,.int .i64 0,.int .i64 0,.int .i64 0,.int .i64 0,.nils,.str [],.int .i64 0,.bool false]) by kernel_rfl)
theorem bAi (K:V→Prop):wO (aJ prog 145) K=K (.agg [.str [],.int .i64 0,.int .i64 0,.int .i64 0]):=congrArg (fun x=>wO x K) (show aJ prog 145=some (.agg [.str [],.int .i64 0,.int .i64 0,.int .i64 0]) by kernel_rfl)
theorem bAj:tL prog 80=true:=by kernel_rfl
theorem bAk (K:V→Prop):wO (aJ prog 132) K=K (.agg [.int .i64 0,.int .i64 0,.int .i64 0,.int .i64 0,.int .i64 0]):=congrArg (fun x=>wO x K) (show aJ prog 132=some (.agg [.int .i64 0,.int .i64 0,.int .i64 0,.int .i64 0,.int .i64 0]) by kernel_rfl)
theorem bAl:tL prog 28=true:=by kernel_rfl
theorem bAm:tL prog 27=true:=by kernel_rfl
theorem bG3 (K:V→Prop):wO (aJ prog 59) K=K (.agg [.int .i64 0,.str [],.int .i64 0,.str [],.int .i64 0,.int .i64 0,.int .i64 0,.int .i64 0,.int .i64 0,.int .i64 0,.int .i64 0,.nils,.str [],.int .i64 0,.int .i64 0]):=congrArg (fun x=>wO x K) (show aJ prog 59=some (.agg [.int .i64 0,.str [],.int .i64 0,.str [],.int .i64 0,.int .i64 0,.int .i64 0,.int .i64 0,.int .i64 0,.int .i64 0,.int .i64 0,.nils,.str [],.int .i64 0,.int .i64 0]) by kernel_rfl)
theorem bAn:tL prog 62=true:=by kernel_rfl
theorem bAo:tL prog 71=true:=by kernel_rfl
theorem aTv:tL prog 102=true:=by kernel_rfl
theorem bAp (K:V→Prop):wO (aJ prog 212) K=K (.agg [.nili]):=congrArg (fun x=>wO x K) (show aJ prog 212=some (.agg [.nili]) by kernel_rfl)
theorem bAq (K:V→Prop):wO (aJ prog 220) K=K (.agg [.int .i64 0,.int .i64 0,.str []]):=congrArg (fun x=>wO x K) (show aJ prog 220=some (.agg [.int .i64 0,.int .i64 0,.str []]) by kernel_rfl)
theorem bAr (K:V→Prop):wO (aJ prog 232) K=K (.nilp):=congrArg (fun x=>wO x K) (show aJ prog 232=some (.nilp) by kernel_rfl)
theorem bAs (K:V→Prop):wO (aJ prog 246) K=K (.agg [.int .i64 0,.int .i64 0,.int .i64 0,.int .i64 0,.int .i64 0,.int .i64 0,.int .i64 0,.int .i64 0,.int .i64 0,.int .i64 0,.int .i64 0,.int .i64 0,.int .i64 0,.int .i64 0,.int .i64 0,.int .i64 0,.int .i64 0,.int .i64 0,.int .i64 0,.int .i64 0,.int .i64 0,.int .i64 0,.int .i64 0,.int .i64 0,.int .i64 0,.int .i64 0,.int .i64 0,.int .i64 0,.int .i64 0,.int .i64 0,.int .i64 0,.int .i64 0,.int .i64 0,.int .i64 0,.int .i64 0,.int .i64 0,.int .i64 0,.int .i64 0,.int .i64 0,.int .i64 0]):=congrArg (fun x=>wO x K) (show aJ prog 246=some (.agg [.int .i64 0,.int .i64 0,.int .i64 0,.int .i64 0,.int .i64 0,.int .i64 0,.int .i64 0,.int .i64 0,.int .i64 0,.int .i64 0,.int .i64 0,.int .i64 0,.int .i64 0,.int .i64 0,.int .i64 0,.int .i64 0,.int .i64 0,.int .i64 0,.int .i64 0,.int .i64 0,.int .i64 0,.int .i64 0,.int .i64 0,.int .i64 0,.int .i64 0,.int .i64 0,.int .i64 0,.int .i64 0,.int .i64 0,.int .i64 0,.int .i64 0,.int .i64 0,.int .i64 0,.int .i64 0,.int .i64 0,.int .i64 0,.int .i64 0,.int .i64 0,.int .i64 0,.int .i64 0]) by kernel_rfl)
theorem bAt (K:V→Prop):wO (aJ prog 249) K=K (.agg [.int .i64 0,.int .i64 0,.int .i64 0,.int .i64 0,.int .i64 0,.int .i64 0,.int .i64 0,.int .i64 0]):=congrArg (fun x=>wO x K) (show aJ prog 249=some (.agg [.int .i64 0,.int .i64 0,.int .i64 0,.int .i64 0,.int .i64 0,.int .i64 0,.int .i64 0,.int .i64 0]) by kernel_rfl)
theorem bG4:tL prog 9=true:=by kernel_rfl
theorem bAu:tL prog 55=true:=by kernel_rfl
theorem bG5 (K:V→Prop):wO (aJ prog 82) K=K (.agg [.int .i64 0,.int .i64 0,.int .i64 0,.nils]):=congrArg (fun x=>wO x K) (show aJ prog 82=some (.agg [.int .i64 0,.int .i64 0,.int .i64 0,.nils]) by kernel_rfl)
theorem bAv (K:V→Prop):wO (aJ prog 293) K=K (.agg [.str [],.int .i64 0]):=congrArg (fun x=>wO x K) (show aJ prog 293=some (.agg [.str [],.int .i64 0]) by kernel_rfl)
theorem bAw (K:V→Prop):wO (aJ prog 295) K=K (.agg [.str []]):=congrArg (fun x=>wO x K) (show aJ prog 295=some (.agg [.str []]) by kernel_rfl)
theorem bAx (K:V→Prop):wO (aJ prog 297) K=K (.agg [.str [],.int .i64 0,.int .i64 0,.int .i64 0,.int .i64 0]):=congrArg (fun x=>wO x K) (show aJ prog 297=some (.agg [.str [],.int .i64 0,.int .i64 0,.int .i64 0,.int .i64 0]) by kernel_rfl)
theorem bAy (K:V→Prop):wO (aJ prog 301) K=K (.agg [.str [],.int .i64 0,.int .i64 0,.int .i64 0,.nils]):=congrArg (fun x=>wO x K) (show aJ prog 301=some (.agg [.str [],.int .i64 0,.int .i64 0,.int .i64 0,.nils]) by kernel_rfl)
theorem bAz (K:V→Prop):wO (aJ prog 304) K=K (.agg [.str [],.int .i64 0,.int .i64 0,.int .i64 0,.str [],.int .i64 0]):=congrArg (fun x=>wO x K) (show aJ prog 304=some (.agg [.str [],.int .i64 0,.int .i64 0,.int .i64 0,.str [],.int .i64 0]) by kernel_rfl)
theorem bB0 (K:V→Prop):wO (aJ prog 306) K=K (.agg [.int .i64 0]):=congrArg (fun x=>wO x K) (show aJ prog 306=some (.agg [.int .i64 0]) by kernel_rfl)
theorem bB1 (K:V→Prop):wO (aJ prog 307) K=K (.agg [.str []]):=congrArg (fun x=>wO x K) (show aJ prog 307=some (.agg [.str []]) by kernel_rfl)
theorem bG6 (K:V→Prop):wO (aJ prog 90) K=K (.agg [.str [],.int .i64 0]):=congrArg (fun x=>wO x K) (show aJ prog 90=some (.agg [.str [],.int .i64 0]) by kernel_rfl)
theorem rg9:aHq prog 9=true:=by kernel_rfl
theorem bB2 (K:V→Prop):wO (aJ prog 201) K=K (.agg [.str [],.str [],.int .i64 0,.int .i64 0]):=congrArg (fun x=>wO x K) (show aJ prog 201=some (.agg [.str [],.str [],.int .i64 0,.int .i64 0]) by kernel_rfl)
theorem bB3 (K:V→Prop):wO (aJ prog 346) K=K (.agg [.int .i64 0,.int .u64 0]):=congrArg (fun x=>wO x K) (show aJ prog 346=some (.agg [.int .i64 0,.int .u64 0]) by kernel_rfl)
theorem aYd (f:FuncId) {a b:List V} {S T:St} (K:KW) (h:a=b) (g:S=T):C f a S K=C f b T K:=by rw [h,g]
attribute [congr] aYd
theorem cw:type_of% (A2 (aNu prog) <| A2 (aNs prog C) <| A2 (aNp prog C) <| A2 aNt <| A2 aNn <| A2 aNo <| A2 bA5 <| A2 (aFz prog C) <| A2 (aG0 prog C) <| A2 (aTk prog C) <| A2 @bFg <| A2 @aZz <| A2 @aTa <| A2 @bA0 <| A2 @aTc <| A2 @aTi <| A2 @bFh <| A2 @bA2 <| A2 @bA3 <| A2 @aTe <| A2 @bA4 <| A2 @aTg <| A2 @aTh <| A2 @aNr <| A2 @aJx <| A2 @aFy <| A2 aG1 <| A2 aFw <| A2 @aZw <| A2 @bA6 <| A2 @bA7 <| A2 @bA8 <| A2 @bA9 <| A2 aJy <| A2 bFw <| A2 bFx <| A2 bAa <| A2 bFy <| A2 bAb <| A2 bFz <| A2 bAc <| A2 bAd <| A2 bAe <| A2 bG0 <| A2 bG1 <| A2 bAf <| A2 bAg <| A2 bAh <| A2 bG2 <| A2 bAi <| A2 bAj <| A2 bAk <| A2 bAl <| A2 bAm <| A2 bG3 <| A2 bAn <| A2 bAo <| A2 aTv <| A2 bAp <| A2 bAq <| A2 bAr <| A2 bAs <| A2 bAt <| A2 bG4 <| A2 bAu <| A2 bG5 <| A2 bAv <| A2 bAw <| A2 bAx <| A2 bAy <| A2 bAz <| A2 bB0 <| A2 bB1 <| A2 bG6 <| A2 rg9 <| A2 bB2 <| bB3):=A2 (aNu prog) <| A2 (aNs prog C) <| A2 (aNp prog C) <| A2 aNt <| A2 aNn <| A2 aNo <| A2 bA5 <| A2 (aFz prog C) <| A2 (aG0 prog C) <| A2 (aTk prog C) <| A2 @bFg <| A2 @aZz <| A2 @aTa <| A2 @bA0 <| A2 @aTc <| A2 @aTi <| A2 @bFh <| A2 @bA2 <| A2 @bA3 <| A2 @aTe <| A2 @bA4 <| A2 @aTg <| A2 @aTh <| A2 @aNr <| A2 @aJx <| A2 @aFy <| A2 aG1 <| A2 aFw <| A2 @aZw <| A2 @bA6 <| A2 @bA7 <| A2 @bA8 <| A2 @bA9 <| A2 aJy <| A2 bFw <| A2 bFx <| A2 bAa <| A2 bFy <| A2 bAb <| A2 bFz <| A2 bAc <| A2 bAd <| A2 bAe <| A2 bG0 <| A2 bG1 <| A2 bAf <| A2 bAg <| A2 bAh <| A2 bG2 <| A2 bAi <| A2 bAj <| A2 bAk <| A2 bAl <| A2 bAm <| A2 bG3 <| A2 bAn <| A2 bAo <| A2 aTv <| A2 bAp <| A2 bAq <| A2 bAr <| A2 bAs <| A2 bAt <| A2 bG4 <| A2 bAu <| A2 bG5 <| A2 bAv <| A2 bAw <| A2 bAx <| A2 bAy <| A2 bAz <| A2 bB0 <| A2 bB1 <| A2 bG6 <| A2 rg9 <| A2 bB2 <| bB3
end
def qL (t:TypeId) (p:V) (S:St) (K:V→Prop):Prop:=wR (mE prog t p S) K
def qF (s:TypeId) (p:V) (f:Nat) (K:V→Prop):Prop:=wR (dM prog s p f) K
def qE (s:TypeId) (p:V) (f:Nat) (t:TypeId) (S:St) (K:V→Prop):Prop:=wR (dM prog s p f) fun q=>wR (mE prog t q S) K
def qX (t:TypeId) (v i:V) (K:V→Prop):Prop:=wR (cY prog t v i) K
def qS (t:TypeId) (p x:V) (S:St) (K:St→Prop):Prop:=wR (pA prog t p x S) K
def qZ (t:TypeId) (x:V) (S:St) (K:V→Prop):Prop:=wR (zU prog t x S) K
def qB (o:BinOp) (t:TypeId) (x y:V) (K:V→Prop):Prop:=wR (bQ prog o t x y) K
def qG (o:BinOp) (t:TypeId) (x y:V) (K:V→Prop):Prop:=yO (bP prog t x y) (wR (bQ prog o t x y) K)
def qD (t:TypeId) (l:List (Nat×V)) (K:V→Prop):Prop:=wR (pB prog t l) K
def qP (t:TypeId) (s x:V) (r:Option Nat) (S:St) (K:V×St→Prop):Prop:=wR (fP prog t s x r S) K
def qQ (t:TypeId) (n:Nat) (l:List (Nat×V)) (r:Option Nat) (S:St) (K:V×St→Prop):Prop:=wR (cV prog t n l r S) K
def qA (a:V) (S:St) (K:Nat×St→Prop):Prop:=yO (aF a.cells) (wR (bB none S (.row 0 a.cells.length [a.cells])) K)
def qN (S:St) (n:Nat) (c:List V) (K:Nat×St→Prop):Prop:=wR (bB none S (.row 0 n [c])) K
def pt (r:Nat×St):V:=.ptr r.1 0 0 0
def up (S:St) (n:Nat):St:=⟨S.next+n,S.heap⟩
def jI (n:Int):V:=.int .i64 n
theorem sf:(∀ (t:TypeId) (p:V) (S:St) (K:V→Prop),qL t p S K=(wR (mE prog t p S) K))∧(∀ (s:TypeId) (p:V) (f:Nat) (K:V→Prop),qF s p f K=(wR (dM prog s p f) K))∧(∀ (s:TypeId) (p:V) (f:Nat) (t:TypeId) (S:St) (K:V→Prop),qE s p f t S K=(wR (dM prog s p f) fun q=>wR (mE prog t q S) K))∧(∀ (t:TypeId) (v i:V) (K:V→Prop),qX t v i K=(wR (cY prog t v i) K))∧(∀ (t:TypeId) (p x:V) (S:St) (K:St→Prop),qS t p x S K=(wR (pA prog t p x S) K))∧(∀ (t:TypeId) (x:V) (S:St) (K:V→Prop),qZ t x S K=(wR (zU prog t x S) K))∧(∀ (o:BinOp) (t:TypeId) (x y:V) (K:V→Prop),qB o t x y K=(wR (bQ prog o t x y) K))∧(∀ (o:BinOp) (t:TypeId) (x y:V) (K:V→Prop),qG o t x y K=(yO (bP prog t x y) (wR (bQ prog o t x y) K)))∧(∀ (t:TypeId) (l:List (Nat×V)) (K:V→Prop),qD t l K=(wR (pB prog t l) K))∧(∀ (t:TypeId) (s x:V) (r:Option Nat) (S:St) (K:V×St→Prop),qP t s x r S K=(wR (fP prog t s x r S) K))∧(∀ (t:TypeId) (n:Nat) (l:List (Nat×V)) (r:Option Nat) (S:St) (K:V×St→Prop),qQ t n l r S K=(wR (cV prog t n l r S) K))∧(∀ (a:V) (S:St) (K:Nat×St→Prop),qA a S K=(yO (aF a.cells) (wR (bB none S (.row 0 a.cells.length [a.cells])) K)))∧(∀ (S:St) (n:Nat) (c:List V) (K:Nat×St→Prop),qN S n c K=(wR (bB none S (.row 0 n [c])) K))∧(∀ (r:Nat×St),pt r=.ptr r.1 0 0 0)∧(∀ (S:St) (n:Nat),up S n=⟨S.next+n,S.heap⟩)∧(∀ (n:Int),jI n=.int .i64 n):=⟨fun _ _ _ _=>rfl,fun _ _ _ _=>rfl,fun _ _ _ _ _ _=>rfl,fun _ _ _ _=>rfl,fun _ _ _ _ _=>rfl,fun _ _ _ _=>rfl,fun _ _ _ _ _=>rfl,fun _ _ _ _ _=>rfl,fun _ _ _=>rfl,fun _ _ _ _ _ _=>rfl,fun _ _ _ _ _ _=>rfl,fun _ _ _=>rfl,fun _ _ _ _=>rfl,fun _=>rfl,fun _ _=>rfl,fun _=>rfl⟩
abbrev aMe:Nat→Option (List bJ):=dP []
abbrev aMf:Nat→List Nat:=fB [(2,[10])]
abbrev aMg:Nat→Option (List bJ):=dP []
abbrev aMh:Nat→List Nat:=fB [(3,[3,16])]
abbrev aO2:Nat→Option (List bJ):=dP [(3,[(0,[]),(1,[0]),(2,[]),(3,[])]),(5,[(0,[]),(1,[0]),(2,[]),(3,[])]),(10,[(0,[]),(1,[]),(2,[0]),(3,[]),(4,[])]),(12,[(0,[]),(1,[]),(2,[1]),(3,[])]),(17,[(0,[]),(1,[]),(2,[1]),(3,[])])]
abbrev aTw:Nat→List Nat:=fB []
abbrev aTx:Nat→Option (List bJ):=dP []
abbrev aTy:Nat→List Nat:=fB [(3,[5,6])]
abbrev aMi:Nat→Option (List bJ):=dP []
abbrev aMj:Nat→List Nat:=fB [(8,[6])]
abbrev aMk:Nat→Option (List bJ):=dP []
abbrev aMl:Nat→List Nat:=fB [(12,[8])]
abbrev aHv:Nat→Option (List bJ):=dP []
abbrev aMm:Nat→List Nat:=fB [(8,[9]),(5,[4,5,6,19])]
def aHw (C:aQ) (K:KW) (again0:List V→St→Prop) (p0 p1 p5 p6 p7:V) (S:St):Prop:=
qL 61 p7 S fun t7=>
qQ 44 1 [(0,t7)] none S fun r8=>
qP 44 p5 r8.1 none r8.2 fun r9=>
qB .add 3 p6 (jI 1) fun t10=>
again0 [r9.1,t10] r9.2
def aHx (C:aQ) (K:KW) (p0 p1:V) (vs:List V) (S:St) (again0:List V→St→Prop):Prop:=
wUn vs fun x5 vs=>
wUn vs fun x6 vs=>
qZ 44 p0 S fun t0=>
qB .lss 3 x6 t0 fun t1=>
bX t1 (qB .lss 3 x6 p1 fun t2=>
bX t2 (qX 44 p0 x6 fun t3=>
qL 61 t3 S fun t4=>
qN S 17 [jI 0,jI 0,jI 0,.str [],jI 0,.str [],jI 0,jI 0,jI 0,jI 0,jI 0,jI 0,jI 0,.nils,.str [],jI 0,jI 0] fun r5=>
qS 61 (pt r5) t4 r5.2 fun S6=>
qF 61 (pt r5) 2 fun t11=>
qE 59 t11 5 55 S6 fun t13=>
qZ 55 t13 S6 fun t14=>
qB .gtr 3 t14 (jI 15) fun t15=>
bX t15 (qF 61 (pt r5) 2 fun t16=>
qE 59 t16 5 55 S6 fun t18=>
wR (iY prog 55 t18 none (some (jI 15))) fun t19=>
qF 61 (pt r5) 2 fun t20=>
qF 59 t20 5 fun t21=>
qS 55 t21 t19 S6 fun S22=>
aHw C K again0 p0 p1 x5 x6 (pt r5) S22) (aHw C K again0 p0 p1 x5 x6 (pt r5) S6)) (K x5 S)) (K x5 S)
def m30 (C:aQ) (a0 a1:V) (S:St) (K:KW):Prop:=
nI [(.nils),(jI 0)] S (aHx C K a0 a1)
theorem bE2:(fun (C:aQ) (a0 a1:V) (S:St) (K:KW)=>eY prog C aTx aTy 30 [a0,a1] S K)=fun C a0 a1 S K=>m30 C a0 a1 S K:=by kernel_rfl
theorem t30 (C:aQ) (a0 a1:V) (S:St) (K:KW):eY prog C aTx aTy 30 [a0,a1] S K=m30 C a0 a1 S K:=congrFun (congrFun (congrFun (congrFun (congrFun bE2 C) a0) a1) S) K
theorem v30 {a0 a1:V} {v:V} (hc:cloVs [a0,a1]=true) (h:m30 C a0 a1 ⟨0,.nil⟩ fun v0 S0=>lS S0 v0=.ok v):Fv 30 [a0,a1] v:=Go.AM.Fn.of (p:=aTx) (lv:=aTy) (by kernel_rfl) hc (by rw [t30];exact h)
def aHy (C:aQ) (K:KW) (p2 p4 p5 p9:V) (S:St):Prop:=
qL 30 p2 (up S 4) fun t76=>
qL 48 p9 (up S 4) fun t77=>
qS 30 p4 t76 (up S 4) fun S78=>
qL 48 p9 S78 fun t79=>
yO (eV t77 t79) (qS 48 p5 t77 S78 fun S80=>
qL 30 p4 S80 fun t81=>
qL 48 p5 S80 fun t82=>
K (.tup [t81,t82]) S80)
def aDg (C:aQ) (K:KW) (p2 p3 p4 p5 p28:V) (S:St):Prop:=
bX p28 (qL 30 p2 (up S 4) fun t20=>
C 103 [(jI 17)] (up S 4) fun t21 S22=>
qL 30 p2 S22 fun t23=>
yO (eV t20 t23) (qS 30 p4 t20 S22 fun S24=>
qS 48 p5 t21 S24 fun S25=>
qL 30 p4 S25 fun t26=>
qL 48 p5 S25 fun t27=>
K (.tup [t26,t27]) S25)) (qF 61 p3 2 fun t28=>
qE 59 t28 0 3 S fun t30=>
(qG .eql 3 t30 (jI 6) fun t31=>
bX t31 (qL 30 p2 S fun t32=>
C 104 [t32] S fun t33 S34=>
lQ t33 0 fun t35=>
lQ t33 1 fun t36=>
qS 30 p4 t35 S34 fun S37=>
qS 48 p5 t36 S37 fun S38=>
qL 30 p4 S38 fun t39=>
qL 48 p5 S38 fun t40=>
K (.tup [t39,t40]) S38) (qE 30 p2 4 28 S fun t42=>
qE 61 p3 0 3 S fun t44=>
qE 61 p3 1 3 S fun t46=>
C 105 [t42,t44,t46] S fun t47 S48=>
lQ t47 0 fun t49=>
lQ t47 1 fun t50=>
lQ t47 2 fun t51=>
qN S48 3 [jI 0,jI 0,jI 0] fun r52=>
qS 48 (pt r52) t49 r52.2 fun S53=>
(qG .neq 31 t51 (jI 0) fun t54=>
bX t54 (qL 30 p2 (up S53 5) fun t55=>
C 103 [t51] (up S53 5) fun t56 S57=>
qL 30 p2 S57 fun t58=>
yO (eV t55 t58) (qS 30 p4 t55 S57 fun S59=>
qS 48 p5 t56 S59 fun S60=>
qL 30 p4 S60 fun t61=>
qL 48 p5 S60 fun t62=>
K (.tup [t61,t62]) S60)) (bX t50 (qL 30 p2 (up S53 4) fun t63=>
qL 48 (pt r52) (up S53 4) fun t64=>
qS 30 p4 t63 (up S53 4) fun S65=>
qL 48 (pt r52) S65 fun t66=>
yO (eV t64 t66) (qS 48 p5 t64 S65 fun S67=>
qL 30 p4 S67 fun t68=>
qL 48 p5 S67 fun t69=>
K (.tup [t68,t69]) S67)) (qE 61 p3 2 59 S53 fun t71=>
C 106 [p2,t71] S53 fun t72 S73=>
qN S73 3 [jI 0,jI 0,jI 0] fun r74=>
qS 48 (pt r74) t72 r74.2 fun S75=>
qE 30 p2 4 28 S75 fun t84=>
qE 61 p3 0 3 S75 fun t86=>
qE 61 p3 1 3 S75 fun t88=>
qL 48 (pt r74) S75 fun t89=>
C 107 [t84,t86,t88,t89] S75 fun t90 S91=>
lQ t90 0 fun t92=>
lQ t90 1 fun t93=>
(qG .eql 31 t93 (jI 0) fun t94=>
bX t94 (qF 30 p2 4 fun t95=>
qS 28 t95 t92 S91 fun S96=>
aHy C K p2 p4 p5 (pt r74) S96) (aHy C K p2 p4 p5 (pt r74) S91))))))))
def m33 (C:aQ) (a0 a1:V) (S:St) (K:KW):Prop:=
(qA a0 S fun r0=>
(qA a1 r0.2 fun r1=>
qN r1.2 6 [.nils,.nils,.nils,.nils,.nils,jI 0] fun r2=>
qN r2.2 3 [jI 0,jI 0,jI 0] fun r3=>
qL 30 (pt r0) r3.2 fun t4=>
C 102 [t4] r3.2 fun t5 S6=>
qS 30 (pt r0) t5 S6 fun S7=>
qL 30 (pt r0) S7 fun t8=>
C 24 [t8] S7 fun t9 S10=>
wR (unV .not t9) fun t11=>
bX t11 (qL 30 (pt r0) (up S10 4) fun t12=>
C 103 [(jI 1)] (up S10 4) fun t13 S14=>
qL 30 (pt r0) S14 fun t15=>
yO (eV t12 t15) (qS 30 (pt r2) t12 S14 fun S16=>
qS 48 (pt r3) t13 S16 fun S17=>
qL 30 (pt r2) S17 fun t18=>
qL 48 (pt r3) S17 fun t19=>
K (.tup [t18,t19]) S17)) (qF 61 (pt r1) 2 fun t97=>
qE 59 t97 0 3 S10 fun t99=>
qB .lss 3 t99 (jI 1) fun t100=>
bX t100 (aDg C K (pt r0) (pt r1) (pt r2) (pt r3) (.bool true) S10) (qF 61 (pt r1) 2 fun t101=>
qE 59 t101 0 3 S10 fun t103=>
qB .gtr 3 t103 (jI 8) fun t104=>
aDg C K (pt r0) (pt r1) (pt r2) (pt r3) t104 S10))))
theorem bE4:(fun (C:aQ) (a0 a1:V) (S:St) (K:KW)=>eY prog C aO2 aTw 33 [a0,a1] S K)=fun C a0 a1 S K=>m33 C a0 a1 S K:=by kernel_rfl
theorem t33 (C:aQ) (a0 a1:V) (S:St) (K:KW):eY prog C aO2 aTw 33 [a0,a1] S K=m33 C a0 a1 S K:=congrFun (congrFun (congrFun (congrFun (congrFun bE4 C) a0) a1) S) K
theorem v33 {a0 a1:V} {v:V} (hc:cloVs [a0,a1]=true) (h:m33 C a0 a1 ⟨0,.nil⟩ fun v0 S0=>lS S0 v0=.ok v):Fv 33 [a0,a1] v:=Go.AM.Fn.of (p:=aO2) (lv:=aTw) (by kernel_rfl) hc (by rw [t33];exact h)
theorem bO6:nK 33=some (.val aO2):=by kernel_rfl
def aC2 (C:aQ) (K:KW) (again0:List V→St→Prop) (p4 p5 p6 p8 p9 p17 p18 p19:V) (S:St):Prop:=
qX 27 p6 p9 fun t10=>
qE 90 t10 1 3 (up S 13) fun t12=>
qE 90 p8 1 3 (up S 13) fun t14=>
C 203 [t12,t14] (up S 13) fun t15 S16=>
lQ t15 0 fun t17=>
lQ t15 1 fun t18=>
(qG .neq 31 t18 (jI 0) fun t19=>
bX t19 (K (.tup [(.nils),t18]) S16) (qX 27 p6 p9 fun t20=>
qF 90 t20 1 fun t21=>
qS 3 t21 t17 S16 fun S22=>
qB .add 3 p19 (jI 1) fun t23=>
again0 [p4,p5,p6,t23] S22))
def yR (C:aQ) (K:KW) (again0:List V→St→Prop) (p4 p5 p6 p8 p9 p17 p18 p19 p52:V) (S:St):Prop:=
bX p52 (qE 90 p8 0 9 S fun t25=>
qD 90 [(0,t25)] fun t26=>
qQ 27 1 [(0,t26)] none S fun r27=>
C 221 [p6,p9,r27.1] r27.2 fun t28 S29=>
aC2 C K again0 p4 p5 t28 p8 p9 p17 p18 p19 S29) (aC2 C K again0 p4 p5 p6 p8 p9 p17 p18 p19 S)
def aC3 (C:aQ) (K:KW) (again0:List V→St→Prop) (p4 p5 p6 p8 p9 p17 p18 p19:V) (S:St):Prop:=
qZ 27 p6 (up S 14) fun t30=>
(qG .eql 3 p9 t30 fun t31=>
bX t31 (yR C K again0 p4 p5 p6 p8 p9 p17 p18 p19 (.bool true) (up S 14)) (qX 27 p6 p9 fun t32=>
qE 90 t32 0 9 (up S 14) fun t34=>
qE 90 p8 0 9 (up S 14) fun t36=>
(qG .neq 9 t34 t36 fun t37=>
yR C K again0 p4 p5 p6 p8 p9 p17 p18 p19 t37 (up S 14))))
def aHz (C:aQ) (K:KW) (again0:List V→St→Prop) (p4 p5 p6 p8 p17 p18 p19:V) (vs:List V) (S:St) (again1:List V→St→Prop):Prop:=
wUn vs fun x9 vs=>
qZ 27 p6 (up S 14) fun t38=>
qB .lss 3 x9 t38 fun t39=>
bX t39 (qX 27 p6 x9 fun t40=>
qE 90 t40 0 9 (up S 14) fun t42=>
qE 90 p8 0 9 (up S 14) fun t44=>
qB .lss 9 t42 t44 fun t45=>
bX t45 (qB .add 3 x9 (jI 1) fun t46=>
again1 [t46] (up S 14)) (aC3 C K again0 p4 p5 p6 p8 x9 p17 p18 p19 (up S 14))) (aC3 C K again0 p4 p5 p6 p8 x9 p17 p18 p19 (up S 14))
def aI0 (C:aQ) (K:KW) (p17 p18:V) (vs:List V) (S:St) (again0:List V→St→Prop):Prop:=
wUn vs fun x4 vs=>
wUn vs fun x5 vs=>
wUn vs fun x6 vs=>
wUn vs fun x19 vs=>
qB .lss 3 x19 p18 fun t5=>
bX t5 (qX 27 p17 x19 fun t6=>
qL 90 t6 S fun t7=>
qN S 2 [.str [],jI 0] fun r8=>
qS 90 (pt r8) t7 r8.2 fun S9=>
nI [(jI 0)] S9 (aHz C K again0 x4 x5 x6 (pt r8) p17 p18 x19)) (K (.tup [x6,(jI 0)]) S)
def aYe (C:aQ) (a0 a1:V) (S:St) (K:KW):Prop:=
C 220 [a0] S fun t0 S1=>
wR (unV .not t0) fun t2=>
bX t2 (K (.tup [(.nils),(jI 1)]) S1) (qP 27 (.nils) a0 none S1 fun r3=>
qZ 27 a1 r3.2 fun t4=>
nI [(.nils),(jI 0),r3.1,(jI 0)] r3.2 (aI0 C K a1 t4))
theorem aYf:(fun (C:aQ) (a0 a1:V) (S:St) (K:KW)=>eY prog C aHv aMm 158 [a0,a1] S K)=fun C a0 a1 S K=>aYe C a0 a1 S K:=by kernel_rfl
theorem bO7 (C:aQ) (a0 a1:V) (S:St) (K:KW):eY prog C aHv aMm 158 [a0,a1] S K=aYe C a0 a1 S K:=congrFun (congrFun (congrFun (congrFun (congrFun aYf C) a0) a1) S) K
theorem bO8 {a0 a1:V} {v:V} (hc:cloVs [a0,a1]=true) (h:aYe C a0 a1 ⟨0,.nil⟩ fun v0 S0=>lS S0 v0=.ok v):Fv 158 [a0,a1] v:=Go.AM.Fn.of (p:=aHv) (lv:=aMm) (by kernel_rfl) hc (by rw [bO7];exact h)
theorem bG7:nK 158=some (.val aHv):=by kernel_rfl
def aC4 (C:aQ) (K:KW) (p0 p1 p6:V) (S:St):Prop:=
qP 28 (.nils) p0 none S fun r5=>
qD 132 [(0,p1)] fun t6=>
qQ 28 1 [(0,t6)] none r5.2 fun r7=>
C 230 [r5.1,p6,r7.1] r7.2 fun t8 S9=>
K (.tup [t8,(jI 0)]) S9
def aI1 (C:aQ) (K:KW) (p0 p1:V) (vs:List V) (S:St) (again0:List V→St→Prop):Prop:=
wUn vs fun x6 vs=>
qZ 28 p0 S fun t10=>
qB .lss 3 x6 t10 fun t11=>
bX t11 (qX 28 p0 x6 fun t12=>
qE 132 t12 0 3 S fun t14=>
qB .lss 3 t14 p1 fun t15=>
bX t15 (qB .add 3 x6 (jI 1) fun t16=>
again0 [t16] S) (aC4 C K p0 p1 x6 S)) (aC4 C K p0 p1 x6 S)
def aI2 (C:aQ) (K:KW) (p0 p1 p7:V) (S:St):Prop:=
bX p7 (K (.tup [(.nils),(jI 1)]) S) (C 174 [p0,p1] S fun t0 S1=>
qB .geq 3 t0 (jI 0) fun t2=>
bX t2 (K (.tup [(.nils),(jI 12)]) S1) (qZ 28 p0 S1 fun t3=>
qB .geq 3 t3 (jI 8) fun t4=>
bX t4 (K (.tup [(.nils),(jI 14)]) S1) (nI [(jI 0)] S1 (aI1 C K p0 p1))))
def aYg (C:aQ) (a0 a1:V) (S:St) (K:KW):Prop:=
C 166 [a0] S fun t17 S18=>
wR (unV .not t17) fun t19=>
bX t19 (aI2 C K a0 a1 (.bool true) S18) (qB .lss 3 a1 (jI 1) fun t20=>
aI2 C K a0 a1 t20 S18)
theorem aYh:(fun (C:aQ) (a0 a1:V) (S:St) (K:KW)=>eY prog C aMi aMj 173 [a0,a1] S K)=fun C a0 a1 S K=>aYg C a0 a1 S K:=by kernel_rfl
theorem bO9 (C:aQ) (a0 a1:V) (S:St) (K:KW):eY prog C aMi aMj 173 [a0,a1] S K=aYg C a0 a1 S K:=congrFun (congrFun (congrFun (congrFun (congrFun aYh C) a0) a1) S) K
theorem bOa {a0 a1:V} {v:V} (hc:cloVs [a0,a1]=true) (h:aYg C a0 a1 ⟨0,.nil⟩ fun v0 S0=>lS S0 v0=.ok v):Fv 173 [a0,a1] v:=Go.AM.Fn.of (p:=aMi) (lv:=aMj) (by kernel_rfl) hc (by rw [bO9];exact h)
def aC5 (C:aQ) (K:KW) (p0 p1 p2 p8:V) (S:St):Prop:=
C 235 [p0] S fun t11 S12=>
qD 126 [(0,p1),(1,(jI 1)),(2,p2)] fun t13=>
qQ 25 1 [(0,t13)] none S12 fun r14=>
C 234 [t11,p8,r14.1] r14.2 fun t15 S16=>
K (.tup [t15,(jI 0)]) S16
def aI3 (C:aQ) (K:KW) (p0 p1 p2:V) (vs:List V) (S:St) (again0:List V→St→Prop):Prop:=
wUn vs fun x8 vs=>
qZ 25 p0 S fun t17=>
qB .lss 3 x8 t17 fun t18=>
bX t18 (qX 25 p0 x8 fun t19=>
qE 126 t19 0 9 S fun t21=>
qB .lss 9 t21 p1 fun t22=>
bX t22 (qB .add 3 x8 (jI 1) fun t23=>
again0 [t23] S) (aC5 C K p0 p1 p2 x8 S)) (aC5 C K p0 p1 p2 x8 S)
def aI4 (C:aQ) (K:KW) (p0 p1 p2 p17:V) (S:St):Prop:=
bX p17 (K (.tup [(.nils),(jI 1)]) S) (C 233 [p0,p1] S fun t6 S7=>
qB .geq 3 t6 (jI 0) fun t8=>
bX t8 (K (.tup [(.nils),(jI 12)]) S7) (qZ 25 p0 S7 fun t9=>
qB .geq 3 t9 (jI 8) fun t10=>
bX t10 (K (.tup [(.nils),(jI 14)]) S7) (nI [(jI 0)] S7 (aI3 C K p0 p1 p2))))
def aYi (C:aQ) (a0 a1 a2:V) (S:St) (K:KW):Prop:=
C 86 [a0] S fun t0 S1=>
wR (unV .not t0) fun t2=>
bX t2 (K (.tup [(.nils),(jI 1)]) S1) (C 165 [a1] S1 fun t3 S4=>
wR (unV .not t3) fun t5=>
bX t5 (K (.tup [(.nils),(jI 8)]) S4) (qB .lss 3 a2 (jI 1) fun t24=>
bX t24 (aI4 C K a0 a1 a2 (.bool true) S4) (qB .gtr 3 a2 (jI 1099511627776) fun t25=>
aI4 C K a0 a1 a2 t25 S4)))
theorem aYj:(fun (C:aQ) (a0 a1 a2:V) (S:St) (K:KW)=>eY prog C aMk aMl 175 [a0,a1,a2] S K)=fun C a0 a1 a2 S K=>aYi C a0 a1 a2 S K:=by kernel_rfl
theorem bOb (C:aQ) (a0 a1 a2:V) (S:St) (K:KW):eY prog C aMk aMl 175 [a0,a1,a2] S K=aYi C a0 a1 a2 S K:=congrFun (congrFun (congrFun (congrFun (congrFun (congrFun aYj C) a0) a1) a2) S) K
theorem bOc {a0 a1 a2:V} {v:V} (hc:cloVs [a0,a1,a2]=true) (h:aYi C a0 a1 a2 ⟨0,.nil⟩ fun v0 S0=>lS S0 v0=.ok v):Fv 175 [a0,a1,a2] v:=Go.AM.Fn.of (p:=aMk) (lv:=aMl) (by kernel_rfl) hc (by rw [bOb];exact h)
def aC6 (C:aQ) (K:KW) (p0 p3 p10:V) (S:St):Prop:=
qX 80 p0 p10 fun t0=>
qE 145 t0 2 3 S fun t2=>
C 203 [t2,p3] S fun t3 S4=>
lQ t3 0 fun t5=>
lQ t3 1 fun t6=>
qX 80 p0 p10 fun t7=>
qF 145 t7 2 fun t8=>
qS 3 t8 t5 S4 fun S9=>
K (.tup [p0,t6]) S9
def yS (C:aQ) (K:KW) (p0 p1 p2 p3 p10 p40:V) (S:St):Prop:=
bX p40 (qD 145 [(0,p1),(1,p2)] fun t10=>
qQ 80 1 [(0,t10)] none S fun r11=>
C 280 [p0,p10,r11.1] r11.2 fun t12 S13=>
aC6 C K t12 p3 p10 S13) (aC6 C K p0 p3 p10 S)
def aC7 (C:aQ) (K:KW) (p0 p1 p2 p3 p10:V) (S:St):Prop:=
qZ 80 p0 S fun t14=>
(qG .eql 3 p10 t14 fun t15=>
bX t15 (yS C K p0 p1 p2 p3 p10 (.bool true) S) (qX 80 p0 p10 fun t16=>
qE 145 t16 0 9 S fun t18=>
(qG .neq 9 t18 p1 fun t19=>
yS C K p0 p1 p2 p3 p10 t19 S)))
def aI5 (C:aQ) (K:KW) (p0 p1 p2 p3:V) (vs:List V) (S:St) (again0:List V→St→Prop):Prop:=
wUn vs fun x10 vs=>
qZ 80 p0 S fun t20=>
qB .lss 3 x10 t20 fun t21=>
bX t21 (qX 80 p0 x10 fun t22=>
qE 145 t22 0 9 S fun t24=>
qB .lss 9 t24 p1 fun t25=>
bX t25 (qB .add 3 x10 (jI 1) fun t26=>
again0 [t26] S) (aC7 C K p0 p1 p2 p3 x10 S)) (aC7 C K p0 p1 p2 p3 x10 S)
def aYk (C:aQ) (a0 a1 a2 a3:V) (S:St) (K:KW):Prop:=
nI [(jI 0)] S (aI5 C K a0 a1 a2 a3)
theorem aYl:(fun (C:aQ) (a0 a1 a2 a3:V) (S:St) (K:KW)=>eY prog C aMe aMf 269 [a0,a1,a2,a3] S K)=fun C a0 a1 a2 a3 S K=>aYk C a0 a1 a2 a3 S K:=by kernel_rfl
theorem bOd (C:aQ) (a0 a1 a2 a3:V) (S:St) (K:KW):eY prog C aMe aMf 269 [a0,a1,a2,a3] S K=aYk C a0 a1 a2 a3 S K:=congrFun (congrFun (congrFun (congrFun (congrFun (congrFun (congrFun aYl C) a0) a1) a2) a3) S) K
theorem bOe {a0 a1 a2 a3:V} {S:St} {K:KW} (h:aYk C a0 a1 a2 a3 S K):C 269 [a0,a1,a2,a3] S K:=aLx (p:=aMe) (lv:=aMf) (by kernel_rfl) (by rw [bOd];exact h)
def uQ (C:aQ) (K:KW) (again0:List V→St→Prop) (p0 p2 p3 p4 p15 p16 p68:V) (S:St):Prop:=
bX p68 (qD 82 [] fun t37=>
qS 82 p2 t37 S fun S38=>
qL 82 p2 S38 fun t39=>
K (.tup [t39,(jI 7)]) S38) (qB .add 3 p16 (jI 1) fun t40=>
again0 [p3,t40] S)
def aI6 (C:aQ) (K:KW) (p0 p2 p4 p15:V) (vs:List V) (S:St) (again0:List V→St→Prop):Prop:=
wUn vs fun x3 vs=>
wUn vs fun x16 vs=>
qB .lss 3 x16 p15 fun t5=>
bX t5 (qX 80 p0 x16 fun t6=>
aA5 t6 (qE 145 t6 2 3 (up S 17) fun t8=>
aA5 t6 (qE 145 t6 1 3 (up S 17) fun t10=>
C 217 [t8,t10] (up S 17) fun t11 S12=>
lQ t11 0 fun t13=>
lQ t11 1 fun t14=>
aA5 t6 (qF 145 t6 3 fun t15=>
qS 3 t15 t13 S12 fun S16=>
qE 82 p4 0 3 (up S16 13) fun t18=>
aA5 t6 (qE 145 t6 2 3 (up S16 13) fun t20=>
C 203 [t18,t20] (up S16 13) fun t21 S22=>
lQ t21 0 fun t23=>
lQ t21 1 fun t24=>
qF 82 p4 0 fun t25=>
qS 3 t25 t23 S22 fun S26=>
qE 82 p4 1 3 (up S26 13) fun t28=>
aA5 t6 (qE 145 t6 3 3 (up S26 13) fun t30=>
C 203 [t28,t30] (up S26 13) fun t31 S32=>
lQ t31 0 fun t33=>
lQ t31 1 fun t34=>
qF 82 p4 1 fun t35=>
qS 3 t35 t33 S32 fun S36=>
(qG .neq 31 t14 (jI 0) fun t41=>
bX t41 (uQ C K again0 p0 p2 x3 p4 p15 x16 (.bool true) S36) ((qG .neq 31 t24 (jI 0) fun t42=>
bX t42 (uQ C K again0 p0 p2 x3 p4 p15 x16 (.bool true) S36) ((qG .neq 31 t34 (jI 0) fun t43=>
uQ C K again0 p0 p2 x3 p4 p15 x16 t43 S36))))))))))) (qE 82 p4 0 3 S fun t45=>
qE 82 p4 1 3 S fun t47=>
C 203 [t45,t47] S fun t48 S49=>
lQ t48 0 fun t50=>
lQ t48 1 fun t51=>
(qG .neq 31 t51 (jI 0) fun t52=>
bX t52 (qD 82 [] fun t53=>
qS 82 p2 t53 S49 fun S54=>
qL 82 p2 S54 fun t55=>
K (.tup [t55,t51]) S54) (qF 82 p4 2 fun t56=>
qS 3 t56 t50 S49 fun S57=>
qL 82 p4 S57 fun t58=>
qS 82 p2 t58 S57 fun S59=>
qL 82 p2 S59 fun t60=>
K (.tup [t60,(jI 0)]) S59)))
def aYm (C:aQ) (a0:V) (S:St) (K:KW):Prop:=
qN S 4 [jI 0,jI 0,jI 0,.nils] fun r0=>
qD 82 [(3,a0)] fun t1=>
qN r0.2 4 [jI 0,jI 0,jI 0,.nils] fun r2=>
qS 82 (pt r2) t1 r2.2 fun S3=>
qZ 80 a0 S3 fun t4=>
nI [(jI 0),(jI 0)] S3 (aI6 C K a0 (pt r0) (pt r2) t4)
theorem aYn:(fun (C:aQ) (a0:V) (S:St) (K:KW)=>eY prog C aMg aMh 270 [a0] S K)=fun C a0 S K=>aYm C a0 S K:=by kernel_rfl
theorem bOf (C:aQ) (a0:V) (S:St) (K:KW):eY prog C aMg aMh 270 [a0] S K=aYm C a0 S K:=congrFun (congrFun (congrFun (congrFun aYn C) a0) S) K
theorem bOg {a0:V} {S:St} {K:KW} (h:aYm C a0 S K):C 270 [a0] S K:=aLx (p:=aMg) (lv:=aMh) (by kernel_rfl) (by rw [bOf];exact h)
abbrev App (T n b:Nat):Prop:=∀ (s x:V) (fr:Option Nat) (S:St),fP prog T s x fr S=fQ n b s x fr S
abbrev Bd (T:Nat) (z:List V) (pl:List (Nat×Nat)):Prop:=∀ parts:List (Nat×V),pB prog T parts=wN z pl parts
abbrev Bs (T n:Nat) (z:List V):Prop:=∀ (len:Nat) (parts:List (Nat×V)) (fr:Option Nat) (S:St),cV prog T len parts fr S=cH n z len parts fr S
abbrev Cv (s d:Nat) (k:IntKind):Prop:=∀ (j:IntKind) (n:Int) (fr:Option Nat) (S:St),dJ prog s d (.int j n) fr S=.ok (.int k (wr k n),S)
abbrev Fa (s f o:Nat):Prop:=∀ p:V,dM prog s p f=advW o p
abbrev Ix (T n:Nat):Prop:=∀ x i:V,cY prog T x i=fI n x i
abbrev Ld (T:Nat) (k:Option Nat):Prop:=∀ (p:V) (S:St),mE prog T p S=gX k p S
abbrev Ln (T:Nat):Prop:=∀ (x:V) (S:St),zU prog T x S=lenW x
abbrev Sl_ (T n:Nat):Prop:=∀ (a ver off len:Nat) (lo hi:Option V),iY prog T (.sl a ver n off len) lo hi=(match fO len lo hi with
  | .ok (l,h)=>.ok (.sl a ver n (off+l) (h - l))
  | .error e=>.error e)
abbrev Si (T n:Nat):Prop:=∀ (es:List (List V)) (hl:jR n es=true) (lo hi:Option V),iY prog T (.imm es) lo hi=(match fO es.length lo hi with
  | .ok (l,h)=>.ok (.imm ((es.take h).drop l))
  | .error e=>.error e)
abbrev Sr (T n:Nat):Prop:=∀ (p x:V) (S:St),pA prog T p x S=eH n p x S
theorem aU0:App 102 23 224:=cS (by kernel_rfl)
theorem bB4:App 22 1 1:=cS (by kernel_rfl)
theorem bB5:App 24 5 48:=cS (by kernel_rfl)
theorem bB6:App 25 4 40:=cS (by kernel_rfl)
theorem bB7:App 26 12 128:=cS (by kernel_rfl)
theorem bB8:App 27 2 24:=cS (by kernel_rfl)
theorem bB9:App 28 5 40:=cS (by kernel_rfl)
theorem bBa:App 44 17 176:=cS (by kernel_rfl)
theorem bBb:App 55 4 48:=cS (by kernel_rfl)
theorem bBc:App 62 3 24:=cS (by kernel_rfl)
theorem bBd:App 71 4 40:=cS (by kernel_rfl)
theorem bBe:App 80 4 40:=cS (by kernel_rfl)
theorem bBf:App 96 1 8:=cS (by kernel_rfl)
theorem bBg:App 97 23 224:=cS (by kernel_rfl)
theorem bBh:Bd 126 [.str [],.int .i64 0,.int .i64 0,.bool false] [(0,1),(1,1),(2,1),(3,1)]:=bR (by kernel_rfl)
theorem bBi:Bd 132 [.int .i64 0,.int .i64 0,.int .i64 0,.int .i64 0,.int .i64 0] [(0,1),(1,1),(2,3)]:=bR (by kernel_rfl)
theorem bBj:Bd 142 [.nils,.int .i64 0,.int .i64 0] [(0,1),(1,1),(2,1)]:=bR (by kernel_rfl)
theorem bBk:Bd 145 [.str [],.int .i64 0,.int .i64 0,.int .i64 0] [(0,1),(1,1),(2,1),(3,1)]:=bR (by kernel_rfl)
theorem bBl:Bd 160 [.nils] [(0,1)]:=bR (by kernel_rfl)
theorem bBm:Bd 201 [.str [],.str [],.int .i64 0,.int .i64 0] [(0,1),(1,1),(2,1),(3,1)]:=bR (by kernel_rfl)
theorem bBn:Bd 207 [.int .i64 0,.int .i64 0,.int .i64 0,.str [],.int .i64 0,.str [],.int .i64 0,.int .i64 0,.int .i64 0,.int .i64 0,.int .i64 0,.int .i64 0,.int .i64 0,.nils,.str [],.int .i64 0,.int .i64 0,.int .i64 0,.int .i64 0,.int .i64 0,.int .i64 0,.int .i64 0,.int .i64 0] [(0,17),(17,1),(18,1),(19,1),(20,3)]:=bR (by kernel_rfl)
theorem bBo:Bd 212 [.nili] [(0,1)]:=bR (by kernel_rfl)
theorem bBp:Bd 225 [.nils,.int .i64 0,.int .i64 0] [(0,1),(1,1),(2,1)]:=bR (by kernel_rfl)
theorem bBq:Bd 287 [.nils,.bool false] [(0,1),(1,1)]:=bR (by kernel_rfl)
theorem bG8:Bd 30 [.nils,.nils,.nils,.nils,.nils,.int .i64 0] [(0,1),(1,1),(2,1),(3,1),(4,1),(5,1)]:=bR (by kernel_rfl)
theorem bBr:Bd 346 [.int .i64 0,.int .u64 0] [(0,1),(1,1)]:=bR (by kernel_rfl)
theorem bG9:Bd 48 [.int .i64 0,.int .i64 0,.int .i64 0] [(0,1),(1,1),(2,1)]:=bR (by kernel_rfl)
theorem bGa:Bd 52 [.int .i64 0,.int .i64 0,.int .i64 0] [(0,1),(1,1),(2,1)]:=bR (by kernel_rfl)
theorem bGb:Bd 54 [.str [],.int .i64 0,.int .i64 0,.int .i64 0,.int .i64 0] [(0,1),(1,3),(4,1)]:=bR (by kernel_rfl)
theorem bGc:Bd 57 [.str [],.int .i64 0] [(0,1),(1,1)]:=bR (by kernel_rfl)
theorem bGd:Bd 59 [.int .i64 0,.str [],.int .i64 0,.str [],.int .i64 0,.int .i64 0,.int .i64 0,.int .i64 0,.int .i64 0,.int .i64 0,.int .i64 0,.nils,.str [],.int .i64 0,.int .i64 0] [(0,1),(1,1),(2,1),(3,5),(8,3),(11,1),(12,2),(14,1)]:=bR (by kernel_rfl)
theorem bGe:Bd 61 [.int .i64 0,.int .i64 0,.int .i64 0,.str [],.int .i64 0,.str [],.int .i64 0,.int .i64 0,.int .i64 0,.int .i64 0,.int .i64 0,.int .i64 0,.int .i64 0,.nils,.str [],.int .i64 0,.int .i64 0] [(0,1),(1,1),(2,15)]:=bR (by kernel_rfl)
theorem bGf:Bd 76 [.str [],.int .i64 0,.int .i64 0,.int .i64 0] [(0,1),(1,1),(2,1),(3,1)]:=bR (by kernel_rfl)
theorem bGg:Bd 77 [.str [],.int .i64 0,.int .i64 0,.int .i64 0] [(0,1),(1,1),(2,1),(3,1)]:=bR (by kernel_rfl)
theorem bGh:Bd 82 [.int .i64 0,.int .i64 0,.int .i64 0,.nils] [(0,1),(1,1),(2,1),(3,1)]:=bR (by kernel_rfl)
theorem bGi:Bd 84 [.str [],.int .i64 0,.int .i64 0,.int .i64 0,.int .i64 0,.int .i64 0,.int .i64 0,.int .i64 0,.nils,.str [],.int .i64 0,.bool false] [(0,2),(2,3),(5,4),(9,2),(11,1)]:=bR (by kernel_rfl)
theorem bGj:Bd 90 [.str [],.int .i64 0] [(0,1),(1,1)]:=bR (by kernel_rfl)
theorem bGk:Bd 99 [.int .i64 0,.int .i64 0,.int .i64 0,.str [],.int .i64 0,.str [],.int .i64 0,.int .i64 0,.int .i64 0,.int .i64 0,.int .i64 0,.int .i64 0,.int .i64 0,.nils,.str [],.int .i64 0,.int .i64 0,.int .i64 0,.int .i64 0,.int .i64 0,.int .i64 0,.int .i64 0,.int .i64 0] [(0,17),(17,1),(18,1),(19,1),(20,3)]:=bR (by kernel_rfl)
theorem bBs:Bs 102 23 [.int .i64 0,.int .i64 0,.int .i64 0,.str [],.int .i64 0,.str [],.int .i64 0,.int .i64 0,.int .i64 0,.int .i64 0,.int .i64 0,.int .i64 0,.int .i64 0,.nils,.str [],.int .i64 0,.int .i64 0,.int .i64 0,.int .i64 0,.int .i64 0,.int .i64 0,.int .i64 0,.int .i64 0]:=aX (by kernel_rfl)
theorem bGl:Bs 22 1 [.int .u8 0]:=aX (by kernel_rfl)
theorem bGm:Bs 24 5 [.str [],.int .i64 0,.int .i64 0,.int .i64 0,.int .i64 0]:=aX (by kernel_rfl)
theorem bGn:Bs 25 4 [.str [],.int .i64 0,.int .i64 0,.bool false]:=aX (by kernel_rfl)
theorem bGo:Bs 26 12 [.str [],.int .i64 0,.int .i64 0,.int .i64 0,.int .i64 0,.int .i64 0,.int .i64 0,.int .i64 0,.nils,.str [],.int .i64 0,.bool false]:=aX (by kernel_rfl)
theorem bGp:Bs 27 2 [.str [],.int .i64 0]:=aX (by kernel_rfl)
theorem bGq:Bs 28 5 [.int .i64 0,.int .i64 0,.int .i64 0,.int .i64 0,.int .i64 0]:=aX (by kernel_rfl)
theorem bBt:Bs 361 1 [.nilp]:=aX (by kernel_rfl)
theorem bBu:Bs 364 1 [.str []]:=aX (by kernel_rfl)
theorem bGr:Bs 44 17 [.int .i64 0,.int .i64 0,.int .i64 0,.str [],.int .i64 0,.str [],.int .i64 0,.int .i64 0,.int .i64 0,.int .i64 0,.int .i64 0,.int .i64 0,.int .i64 0,.nils,.str [],.int .i64 0,.int .i64 0]:=aX (by kernel_rfl)
theorem bGs:Bs 55 4 [.str [],.str [],.int .i64 0,.int .i64 0]:=aX (by kernel_rfl)
theorem bGt:Bs 62 3 [.int .i64 0,.int .i64 0,.int .i64 0]:=aX (by kernel_rfl)
theorem bGu:Bs 68 4 [.str [],.int .i64 0,.int .i64 0,.int .i64 0]:=aX (by kernel_rfl)
theorem bGv:Bs 71 4 [.str [],.int .i64 0,.int .i64 0,.int .i64 0]:=aX (by kernel_rfl)
theorem bGw:Bs 80 4 [.str [],.int .i64 0,.int .i64 0,.int .i64 0]:=aX (by kernel_rfl)
theorem bGx:Bs 96 1 [.int .i64 0]:=aX (by kernel_rfl)
theorem bGy:Bs 97 23 [.int .i64 0,.int .i64 0,.int .i64 0,.str [],.int .i64 0,.str [],.int .i64 0,.int .i64 0,.int .i64 0,.int .i64 0,.int .i64 0,.int .i64 0,.int .i64 0,.nils,.str [],.int .i64 0,.int .i64 0,.int .i64 0,.int .i64 0,.int .i64 0,.int .i64 0,.int .i64 0,.int .i64 0]:=aX (by kernel_rfl)
theorem aO4:Cv 229 3 .i64:=lR (by kernel_rfl)
theorem aO5:Cv 229 5 .u8:=lR (by kernel_rfl)
theorem aO6:Cv 3 229 .u64:=lR (by kernel_rfl)
theorem aO7:Cv 3 231 .u64:=lR (by kernel_rfl)
theorem aO8:Cv 5 229 .u64:=lR (by kernel_rfl)
theorem bE5:(fun (a_0:List UInt8) (a_1:Int) (a_2:Int) (a_3:Bool) (b_0:List UInt8) (b_1:Int) (b_2:Int) (b_3:Bool)=>sT prog 100 126 (.agg [.str a_0,.int .i64 a_1,.int .i64 a_2,.bool a_3]) (.agg [.str b_0,.int .i64 b_1,.int .i64 b_2,.bool b_3]))=fun a_0 a_1 a_2 a_3 b_0 b_1 b_2 b_3=>(fA (.ok (qT a_0 b_0)) (fA (.ok (decide (a_1=b_1))) (fA (.ok (decide (a_2=b_2))) (fA (.ok (a_3 == b_3)) (.ok true))))):=by kernel_rfl
theorem bBv (a_0:List UInt8) (a_1:Int) (a_2:Int) (a_3:Bool) (b_0:List UInt8) (b_1:Int) (b_2:Int) (b_3:Bool):sT prog 100 126 (.agg [.str a_0,.int .i64 a_1,.int .i64 a_2,.bool a_3]) (.agg [.str b_0,.int .i64 b_1,.int .i64 b_2,.bool b_3])=.ok ((a_0 == b_0)&&decide (a_1=b_1)&&decide (a_2=b_2)&&(a_3 == b_3)):=by
 refine (congrFun (congrFun (congrFun (congrFun (congrFun (congrFun (congrFun (congrFun bE5 a_0) a_1) a_2) a_3) b_0) b_1) b_2) b_3).trans ?_
 simp only [kA,dC,Bool.and_true,Bool.and_assoc]
theorem bGz:(fun a b=>bP prog 126 (.agg a) (.agg b))=fun _ _=>true:=by kernel_rfl
theorem bBw (a b:List V):bP prog 126 (.agg a) (.agg b)=true:=congrFun (congrFun bGz a) b
theorem bE6:(fun (a_0:Int) (a_1:Int) (a_2_0:Int) (a_2_1:Int) (a_2_2:Int) (b_0:Int) (b_1:Int) (b_2_0:Int) (b_2_1:Int) (b_2_2:Int)=>sT prog 100 132 (.agg [.int .i64 a_0,.int .i64 a_1,.int .i64 a_2_0,.int .i64 a_2_1,.int .i64 a_2_2]) (.agg [.int .i64 b_0,.int .i64 b_1,.int .i64 b_2_0,.int .i64 b_2_1,.int .i64 b_2_2]))=fun a_0 a_1 a_2_0 a_2_1 a_2_2 b_0 b_1 b_2_0 b_2_1 b_2_2=>(fA (.ok (decide (a_0=b_0))) (fA (.ok (decide (a_1=b_1))) (fA (fA (.ok (decide (a_2_0=b_2_0))) (fA (.ok (decide (a_2_1=b_2_1))) (fA (.ok (decide (a_2_2=b_2_2))) (.ok true)))) (.ok true)))):=by kernel_rfl
theorem bBx (a_0:Int) (a_1:Int) (a_2_0:Int) (a_2_1:Int) (a_2_2:Int) (b_0:Int) (b_1:Int) (b_2_0:Int) (b_2_1:Int) (b_2_2:Int):sT prog 100 132 (.agg [.int .i64 a_0,.int .i64 a_1,.int .i64 a_2_0,.int .i64 a_2_1,.int .i64 a_2_2]) (.agg [.int .i64 b_0,.int .i64 b_1,.int .i64 b_2_0,.int .i64 b_2_1,.int .i64 b_2_2])=.ok (decide (a_0=b_0)&&decide (a_1=b_1)&&decide (a_2_0=b_2_0)&&decide (a_2_1=b_2_1)&&decide (a_2_2=b_2_2)):=by
 refine (congrFun (congrFun (congrFun (congrFun (congrFun (congrFun (congrFun (congrFun (congrFun (congrFun bE6 a_0) a_1) a_2_0) a_2_1) a_2_2) b_0) b_1) b_2_0) b_2_1) b_2_2).trans ?_
 simp only [kA,dC,Bool.and_true,Bool.and_assoc]
theorem bH0:(fun a b=>bP prog 132 (.agg a) (.agg b))=fun _ _=>true:=by kernel_rfl
theorem bBy (a b:List V):bP prog 132 (.agg a) (.agg b)=true:=congrFun (congrFun bH0 a) b
theorem bE7:(fun (a_0:List UInt8) (a_1:Int) (a_2:Int) (a_3:Int) (b_0:List UInt8) (b_1:Int) (b_2:Int) (b_3:Int)=>sT prog 100 145 (.agg [.str a_0,.int .i64 a_1,.int .i64 a_2,.int .i64 a_3]) (.agg [.str b_0,.int .i64 b_1,.int .i64 b_2,.int .i64 b_3]))=fun a_0 a_1 a_2 a_3 b_0 b_1 b_2 b_3=>(fA (.ok (qT a_0 b_0)) (fA (.ok (decide (a_1=b_1))) (fA (.ok (decide (a_2=b_2))) (fA (.ok (decide (a_3=b_3))) (.ok true))))):=by kernel_rfl
theorem bBz (a_0:List UInt8) (a_1:Int) (a_2:Int) (a_3:Int) (b_0:List UInt8) (b_1:Int) (b_2:Int) (b_3:Int):sT prog 100 145 (.agg [.str a_0,.int .i64 a_1,.int .i64 a_2,.int .i64 a_3]) (.agg [.str b_0,.int .i64 b_1,.int .i64 b_2,.int .i64 b_3])=.ok ((a_0 == b_0)&&decide (a_1=b_1)&&decide (a_2=b_2)&&decide (a_3=b_3)):=by
 refine (congrFun (congrFun (congrFun (congrFun (congrFun (congrFun (congrFun (congrFun bE7 a_0) a_1) a_2) a_3) b_0) b_1) b_2) b_3).trans ?_
 simp only [kA,dC,Bool.and_true,Bool.and_assoc]
theorem bH1:(fun a b=>bP prog 145 (.agg a) (.agg b))=fun _ _=>true:=by kernel_rfl
theorem bC0 (a b:List V):bP prog 145 (.agg a) (.agg b)=true:=congrFun (congrFun bH1 a) b
theorem bE8:(fun (a_0:List UInt8) (a_1:List UInt8) (a_2:Int) (a_3:Int) (b_0:List UInt8) (b_1:List UInt8) (b_2:Int) (b_3:Int)=>sT prog 100 201 (.agg [.str a_0,.str a_1,.int .i64 a_2,.int .i64 a_3]) (.agg [.str b_0,.str b_1,.int .i64 b_2,.int .i64 b_3]))=fun a_0 a_1 a_2 a_3 b_0 b_1 b_2 b_3=>(fA (.ok (qT a_0 b_0)) (fA (.ok (qT a_1 b_1)) (fA (.ok (decide (a_2=b_2))) (fA (.ok (decide (a_3=b_3))) (.ok true))))):=by kernel_rfl
theorem bC1 (a_0:List UInt8) (a_1:List UInt8) (a_2:Int) (a_3:Int) (b_0:List UInt8) (b_1:List UInt8) (b_2:Int) (b_3:Int):sT prog 100 201 (.agg [.str a_0,.str a_1,.int .i64 a_2,.int .i64 a_3]) (.agg [.str b_0,.str b_1,.int .i64 b_2,.int .i64 b_3])=.ok ((a_0 == b_0)&&(a_1 == b_1)&&decide (a_2=b_2)&&decide (a_3=b_3)):=by
 refine (congrFun (congrFun (congrFun (congrFun (congrFun (congrFun (congrFun (congrFun bE8 a_0) a_1) a_2) a_3) b_0) b_1) b_2) b_3).trans ?_
 simp only [kA,dC,Bool.and_true,Bool.and_assoc]
theorem bH2:(fun a b=>bP prog 201 (.agg a) (.agg b))=fun _ _=>true:=by kernel_rfl
theorem bC2 (a b:List V):bP prog 201 (.agg a) (.agg b)=true:=congrFun (congrFun bH2 a) b
theorem bE9:(fun (a_0:Int) (a_1:Int) (b_0:Int) (b_1:Int)=>sT prog 100 346 (.agg [.int .i64 a_0,.int .u64 a_1]) (.agg [.int .i64 b_0,.int .u64 b_1]))=fun a_0 a_1 b_0 b_1=>(fA (.ok (decide (a_0=b_0))) (fA (.ok (decide (a_1=b_1))) (.ok true))):=by kernel_rfl
theorem bC3 (a_0:Int) (a_1:Int) (b_0:Int) (b_1:Int):sT prog 100 346 (.agg [.int .i64 a_0,.int .u64 a_1]) (.agg [.int .i64 b_0,.int .u64 b_1])=.ok (decide (a_0=b_0)&&decide (a_1=b_1)):=by
 refine (congrFun (congrFun (congrFun (congrFun bE9 a_0) a_1) b_0) b_1).trans ?_
 simp only [kA,dC,Bool.and_true,Bool.and_assoc]
theorem bH3:(fun a b=>bP prog 346 (.agg a) (.agg b))=fun _ _=>true:=by kernel_rfl
theorem bC4 (a b:List V):bP prog 346 (.agg a) (.agg b)=true:=congrFun (congrFun bH3 a) b
theorem bH4:(fun (a_0:Int) (a_1:Int) (a_2:Int) (b_0:Int) (b_1:Int) (b_2:Int)=>sT prog 100 48 (.agg [.int .i64 a_0,.int .i64 a_1,.int .i64 a_2]) (.agg [.int .i64 b_0,.int .i64 b_1,.int .i64 b_2]))=fun a_0 a_1 a_2 b_0 b_1 b_2=>(fA (.ok (decide (a_0=b_0))) (fA (.ok (decide (a_1=b_1))) (fA (.ok (decide (a_2=b_2))) (.ok true)))):=by kernel_rfl
theorem bH5 (a_0:Int) (a_1:Int) (a_2:Int) (b_0:Int) (b_1:Int) (b_2:Int):sT prog 100 48 (.agg [.int .i64 a_0,.int .i64 a_1,.int .i64 a_2]) (.agg [.int .i64 b_0,.int .i64 b_1,.int .i64 b_2])=.ok (decide (a_0=b_0)&&decide (a_1=b_1)&&decide (a_2=b_2)):=by
 refine (congrFun (congrFun (congrFun (congrFun (congrFun (congrFun bH4 a_0) a_1) a_2) b_0) b_1) b_2).trans ?_
 simp only [kA,dC,Bool.and_true,Bool.and_assoc]
theorem bOh:(fun a b=>bP prog 48 (.agg a) (.agg b))=fun _ _=>true:=by kernel_rfl
theorem bH6 (a b:List V):bP prog 48 (.agg a) (.agg b)=true:=congrFun (congrFun bOh a) b
theorem bH7:(fun (a_0:Int) (a_1:Int) (a_2:Int) (b_0:Int) (b_1:Int) (b_2:Int)=>sT prog 100 52 (.agg [.int .i64 a_0,.int .i64 a_1,.int .i64 a_2]) (.agg [.int .i64 b_0,.int .i64 b_1,.int .i64 b_2]))=fun a_0 a_1 a_2 b_0 b_1 b_2=>(fA (.ok (decide (a_0=b_0))) (fA (.ok (decide (a_1=b_1))) (fA (.ok (decide (a_2=b_2))) (.ok true)))):=by kernel_rfl
theorem bH8 (a_0:Int) (a_1:Int) (a_2:Int) (b_0:Int) (b_1:Int) (b_2:Int):sT prog 100 52 (.agg [.int .i64 a_0,.int .i64 a_1,.int .i64 a_2]) (.agg [.int .i64 b_0,.int .i64 b_1,.int .i64 b_2])=.ok (decide (a_0=b_0)&&decide (a_1=b_1)&&decide (a_2=b_2)):=by
 refine (congrFun (congrFun (congrFun (congrFun (congrFun (congrFun bH7 a_0) a_1) a_2) b_0) b_1) b_2).trans ?_
 simp only [kA,dC,Bool.and_true,Bool.and_assoc]
theorem bOi:(fun a b=>bP prog 52 (.agg a) (.agg b))=fun _ _=>true:=by kernel_rfl
theorem bH9 (a b:List V):bP prog 52 (.agg a) (.agg b)=true:=congrFun (congrFun bOi a) b
theorem bHa:(fun (a_0:List UInt8) (a_1_0:Int) (a_1_1:Int) (a_1_2:Int) (a_2:Int) (b_0:List UInt8) (b_1_0:Int) (b_1_1:Int) (b_1_2:Int) (b_2:Int)=>sT prog 100 54 (.agg [.str a_0,.int .i64 a_1_0,.int .i64 a_1_1,.int .i64 a_1_2,.int .i64 a_2]) (.agg [.str b_0,.int .i64 b_1_0,.int .i64 b_1_1,.int .i64 b_1_2,.int .i64 b_2]))=fun a_0 a_1_0 a_1_1 a_1_2 a_2 b_0 b_1_0 b_1_1 b_1_2 b_2=>(fA (.ok (qT a_0 b_0)) (fA (fA (.ok (decide (a_1_0=b_1_0))) (fA (.ok (decide (a_1_1=b_1_1))) (fA (.ok (decide (a_1_2=b_1_2))) (.ok true)))) (fA (.ok (decide (a_2=b_2))) (.ok true)))):=by kernel_rfl
theorem bHb (a_0:List UInt8) (a_1_0:Int) (a_1_1:Int) (a_1_2:Int) (a_2:Int) (b_0:List UInt8) (b_1_0:Int) (b_1_1:Int) (b_1_2:Int) (b_2:Int):sT prog 100 54 (.agg [.str a_0,.int .i64 a_1_0,.int .i64 a_1_1,.int .i64 a_1_2,.int .i64 a_2]) (.agg [.str b_0,.int .i64 b_1_0,.int .i64 b_1_1,.int .i64 b_1_2,.int .i64 b_2])=.ok ((a_0 == b_0)&&decide (a_1_0=b_1_0)&&decide (a_1_1=b_1_1)&&decide (a_1_2=b_1_2)&&decide (a_2=b_2)):=by
 refine (congrFun (congrFun (congrFun (congrFun (congrFun (congrFun (congrFun (congrFun (congrFun (congrFun bHa a_0) a_1_0) a_1_1) a_1_2) a_2) b_0) b_1_0) b_1_1) b_1_2) b_2).trans ?_
 simp only [kA,dC,Bool.and_true,Bool.and_assoc]
theorem bOj:(fun a b=>bP prog 54 (.agg a) (.agg b))=fun _ _=>true:=by kernel_rfl
theorem bHc (a b:List V):bP prog 54 (.agg a) (.agg b)=true:=congrFun (congrFun bOj a) b
theorem bHd:(fun (a_0:List UInt8) (a_1:Int) (b_0:List UInt8) (b_1:Int)=>sT prog 100 57 (.agg [.str a_0,.int .i64 a_1]) (.agg [.str b_0,.int .i64 b_1]))=fun a_0 a_1 b_0 b_1=>(fA (.ok (qT a_0 b_0)) (fA (.ok (decide (a_1=b_1))) (.ok true))):=by kernel_rfl
theorem bHe (a_0:List UInt8) (a_1:Int) (b_0:List UInt8) (b_1:Int):sT prog 100 57 (.agg [.str a_0,.int .i64 a_1]) (.agg [.str b_0,.int .i64 b_1])=.ok ((a_0 == b_0)&&decide (a_1=b_1)):=by
 refine (congrFun (congrFun (congrFun (congrFun bHd a_0) a_1) b_0) b_1).trans ?_
 simp only [kA,dC,Bool.and_true,Bool.and_assoc]
theorem bOk:(fun a b=>bP prog 57 (.agg a) (.agg b))=fun _ _=>true:=by kernel_rfl
theorem bHf (a b:List V):bP prog 57 (.agg a) (.agg b)=true:=congrFun (congrFun bOk a) b
theorem bHg:(fun (a_0:List UInt8) (a_1:Int) (a_2:Int) (a_3:Int) (b_0:List UInt8) (b_1:Int) (b_2:Int) (b_3:Int)=>sT prog 100 76 (.agg [.str a_0,.int .i64 a_1,.int .i64 a_2,.int .i64 a_3]) (.agg [.str b_0,.int .i64 b_1,.int .i64 b_2,.int .i64 b_3]))=fun a_0 a_1 a_2 a_3 b_0 b_1 b_2 b_3=>(fA (.ok (qT a_0 b_0)) (fA (.ok (decide (a_1=b_1))) (fA (.ok (decide (a_2=b_2))) (fA (.ok (decide (a_3=b_3))) (.ok true))))):=by kernel_rfl
theorem bHh (a_0:List UInt8) (a_1:Int) (a_2:Int) (a_3:Int) (b_0:List UInt8) (b_1:Int) (b_2:Int) (b_3:Int):sT prog 100 76 (.agg [.str a_0,.int .i64 a_1,.int .i64 a_2,.int .i64 a_3]) (.agg [.str b_0,.int .i64 b_1,.int .i64 b_2,.int .i64 b_3])=.ok ((a_0 == b_0)&&decide (a_1=b_1)&&decide (a_2=b_2)&&decide (a_3=b_3)):=by
 refine (congrFun (congrFun (congrFun (congrFun (congrFun (congrFun (congrFun (congrFun bHg a_0) a_1) a_2) a_3) b_0) b_1) b_2) b_3).trans ?_
 simp only [kA,dC,Bool.and_true,Bool.and_assoc]
theorem bOl:(fun a b=>bP prog 76 (.agg a) (.agg b))=fun _ _=>true:=by kernel_rfl
theorem bHi (a b:List V):bP prog 76 (.agg a) (.agg b)=true:=congrFun (congrFun bOl a) b
theorem bHj:(fun (a_0:List UInt8) (a_1:Int) (b_0:List UInt8) (b_1:Int)=>sT prog 100 90 (.agg [.str a_0,.int .i64 a_1]) (.agg [.str b_0,.int .i64 b_1]))=fun a_0 a_1 b_0 b_1=>(fA (.ok (qT a_0 b_0)) (fA (.ok (decide (a_1=b_1))) (.ok true))):=by kernel_rfl
theorem bHk (a_0:List UInt8) (a_1:Int) (b_0:List UInt8) (b_1:Int):sT prog 100 90 (.agg [.str a_0,.int .i64 a_1]) (.agg [.str b_0,.int .i64 b_1])=.ok ((a_0 == b_0)&&decide (a_1=b_1)):=by
 refine (congrFun (congrFun (congrFun (congrFun bHj a_0) a_1) b_0) b_1).trans ?_
 simp only [kA,dC,Bool.and_true,Bool.and_assoc]
theorem bOm:(fun a b=>bP prog 90 (.agg a) (.agg b))=fun _ _=>true:=by kernel_rfl
theorem bHl (a b:List V):bP prog 90 (.agg a) (.agg b)=true:=congrFun (congrFun bOm a) b
theorem aO9:Fa 126 0 0:=aB (by kernel_rfl)
theorem aOa:Fa 126 1 1:=aB (by kernel_rfl)
theorem aOb:Fa 126 2 2:=aB (by kernel_rfl)
theorem aOc:Fa 126 3 3:=aB (by kernel_rfl)
theorem aOd:Fa 132 0 0:=aB (by kernel_rfl)
theorem aOe:Fa 132 1 1:=aB (by kernel_rfl)
theorem aOf:Fa 132 2 2:=aB (by kernel_rfl)
theorem aOg:Fa 142 0 0:=aB (by kernel_rfl)
theorem aOh:Fa 142 1 1:=aB (by kernel_rfl)
theorem aOi:Fa 142 2 2:=aB (by kernel_rfl)
theorem aOj:Fa 145 0 0:=aB (by kernel_rfl)
theorem aOk:Fa 145 1 1:=aB (by kernel_rfl)
theorem aOl:Fa 145 2 2:=aB (by kernel_rfl)
theorem aOm:Fa 145 3 3:=aB (by kernel_rfl)
theorem aOn:Fa 160 0 0:=aB (by kernel_rfl)
theorem aOo:Fa 201 0 0:=aB (by kernel_rfl)
theorem aOp:Fa 201 1 1:=aB (by kernel_rfl)
theorem aOq:Fa 201 2 2:=aB (by kernel_rfl)
theorem aOr:Fa 201 3 3:=aB (by kernel_rfl)
theorem aOs:Fa 207 0 0:=aB (by kernel_rfl)
theorem aOt:Fa 207 1 17:=aB (by kernel_rfl)
theorem aOu:Fa 207 2 18:=aB (by kernel_rfl)
theorem aOv:Fa 207 3 19:=aB (by kernel_rfl)
theorem aOw:Fa 207 4 20:=aB (by kernel_rfl)
theorem aOx:Fa 220 1 1:=aB (by kernel_rfl)
theorem aOy:Fa 220 2 2:=aB (by kernel_rfl)
theorem aOz:Fa 225 0 0:=aB (by kernel_rfl)
theorem aP0:Fa 225 1 1:=aB (by kernel_rfl)
theorem aP1:Fa 225 2 2:=aB (by kernel_rfl)
theorem aP2:Fa 287 0 0:=aB (by kernel_rfl)
theorem aP3:Fa 287 1 1:=aB (by kernel_rfl)
theorem aU1:Fa 30 0 0:=aB (by kernel_rfl)
theorem aU2:Fa 30 1 1:=aB (by kernel_rfl)
theorem aU3:Fa 30 2 2:=aB (by kernel_rfl)
theorem aU4:Fa 30 3 3:=aB (by kernel_rfl)
theorem aU5:Fa 30 4 4:=aB (by kernel_rfl)
theorem aU6:Fa 30 5 5:=aB (by kernel_rfl)
theorem aP4:Fa 346 0 0:=aB (by kernel_rfl)
theorem aP5:Fa 346 1 1:=aB (by kernel_rfl)
theorem aU7:Fa 48 0 0:=aB (by kernel_rfl)
theorem aU8:Fa 48 1 1:=aB (by kernel_rfl)
theorem aU9:Fa 48 2 2:=aB (by kernel_rfl)
theorem aUa:Fa 52 0 0:=aB (by kernel_rfl)
theorem aUb:Fa 52 1 1:=aB (by kernel_rfl)
theorem aUc:Fa 52 2 2:=aB (by kernel_rfl)
theorem aUd:Fa 54 0 0:=aB (by kernel_rfl)
theorem aUe:Fa 54 1 1:=aB (by kernel_rfl)
theorem aUf:Fa 54 2 4:=aB (by kernel_rfl)
theorem aUg:Fa 57 0 0:=aB (by kernel_rfl)
theorem aUh:Fa 57 1 1:=aB (by kernel_rfl)
theorem aUi:Fa 59 0 0:=aB (by kernel_rfl)
theorem aUj:Fa 59 1 1:=aB (by kernel_rfl)
theorem aUk:Fa 59 2 2:=aB (by kernel_rfl)
theorem aUl:Fa 59 3 3:=aB (by kernel_rfl)
theorem aUm:Fa 59 4 8:=aB (by kernel_rfl)
theorem aUn:Fa 59 5 11:=aB (by kernel_rfl)
theorem aUo:Fa 59 6 12:=aB (by kernel_rfl)
theorem aUp:Fa 59 7 14:=aB (by kernel_rfl)
theorem aUq:Fa 61 0 0:=aB (by kernel_rfl)
theorem aUr:Fa 61 1 1:=aB (by kernel_rfl)
theorem aUs:Fa 61 2 2:=aB (by kernel_rfl)
theorem aUt:Fa 76 0 0:=aB (by kernel_rfl)
theorem aUu:Fa 76 1 1:=aB (by kernel_rfl)
theorem aUv:Fa 76 2 2:=aB (by kernel_rfl)
theorem aUw:Fa 76 3 3:=aB (by kernel_rfl)
theorem aUx:Fa 77 0 0:=aB (by kernel_rfl)
theorem aUy:Fa 77 1 1:=aB (by kernel_rfl)
theorem aUz:Fa 77 2 2:=aB (by kernel_rfl)
theorem aV0:Fa 77 3 3:=aB (by kernel_rfl)
theorem aV1:Fa 82 0 0:=aB (by kernel_rfl)
theorem aV2:Fa 82 1 1:=aB (by kernel_rfl)
theorem aV3:Fa 82 2 2:=aB (by kernel_rfl)
theorem aV4:Fa 82 3 3:=aB (by kernel_rfl)
theorem aV5:Fa 84 0 0:=aB (by kernel_rfl)
theorem aV6:Fa 84 1 2:=aB (by kernel_rfl)
theorem aV7:Fa 84 2 5:=aB (by kernel_rfl)
theorem aV8:Fa 84 3 9:=aB (by kernel_rfl)
theorem aV9:Fa 84 4 11:=aB (by kernel_rfl)
theorem aVa:Fa 90 0 0:=aB (by kernel_rfl)
theorem aVb:Fa 90 1 1:=aB (by kernel_rfl)
theorem aVc:Fa 99 0 0:=aB (by kernel_rfl)
theorem aVd:Fa 99 1 17:=aB (by kernel_rfl)
theorem aVe:Fa 99 2 18:=aB (by kernel_rfl)
theorem aVf:Fa 99 3 19:=aB (by kernel_rfl)
theorem aVg:Fa 99 4 20:=aB (by kernel_rfl)
theorem bC5:Ix 102 23:=aZ (by kernel_rfl)
theorem bC6:Ix 114 3:=aZ (by kernel_rfl)
theorem bHm:Ix 22 1:=aZ (by kernel_rfl)
theorem bHn:Ix 24 5:=aZ (by kernel_rfl)
theorem bHo:Ix 25 4:=aZ (by kernel_rfl)
theorem bHp:Ix 26 12:=aZ (by kernel_rfl)
theorem bHq:Ix 27 2:=aZ (by kernel_rfl)
theorem bHr:Ix 28 5:=aZ (by kernel_rfl)
theorem bC7:Ix 361 1:=aZ (by kernel_rfl)
theorem bC8:Ix 364 1:=aZ (by kernel_rfl)
theorem bHs:Ix 44 17:=aZ (by kernel_rfl)
theorem bHt:Ix 55 4:=aZ (by kernel_rfl)
theorem bHu:Ix 62 3:=aZ (by kernel_rfl)
theorem bHv:Ix 68 4:=aZ (by kernel_rfl)
theorem bHw:Ix 71 4:=aZ (by kernel_rfl)
theorem bHx:Ix 80 4:=aZ (by kernel_rfl)
theorem bHy:Ix 96 1:=aZ (by kernel_rfl)
theorem bHz:Ix 97 23:=aZ (by kernel_rfl)
theorem bC9:Ld 126 (some 4):=aW (by kernel_rfl)
theorem bCa:Ld 132 (some 5):=aW (by kernel_rfl)
theorem bCb:Ld 145 (some 4):=aW (by kernel_rfl)
theorem ld2:Ld 2 none:=aW (by kernel_rfl)
theorem bCc:Ld 201 (some 4):=aW (by kernel_rfl)
theorem bCd:Ld 212 (some 1):=aW (by kernel_rfl)
theorem bI0:Ld 22 none:=aW (by kernel_rfl)
theorem bCe:Ld 220 (some 3):=aW (by kernel_rfl)
theorem bCf:Ld 229 none:=aW (by kernel_rfl)
theorem bCg:Ld 232 none:=aW (by kernel_rfl)
theorem bI1:Ld 24 none:=aW (by kernel_rfl)
theorem bI2:Ld 25 none:=aW (by kernel_rfl)
theorem bI3:Ld 26 none:=aW (by kernel_rfl)
theorem bI4:Ld 27 none:=aW (by kernel_rfl)
theorem bI5:Ld 28 none:=aW (by kernel_rfl)
theorem ld3:Ld 3 none:=aW (by kernel_rfl)
theorem bI6:Ld 30 (some 6):=aW (by kernel_rfl)
theorem bI7:Ld 31 none:=aW (by kernel_rfl)
theorem bCh:Ld 346 (some 2):=aW (by kernel_rfl)
theorem bCi:Ld 349 none:=aW (by kernel_rfl)
theorem ld4:Ld 4 none:=aW (by kernel_rfl)
theorem bI8:Ld 48 (some 3):=aW (by kernel_rfl)
theorem ld5:Ld 5 none:=aW (by kernel_rfl)
theorem bI9:Ld 52 (some 3):=aW (by kernel_rfl)
theorem bIa:Ld 54 (some 5):=aW (by kernel_rfl)
theorem bIb:Ld 55 none:=aW (by kernel_rfl)
theorem bIc:Ld 57 (some 2):=aW (by kernel_rfl)
theorem bId:Ld 59 (some 15):=aW (by kernel_rfl)
theorem bIe:Ld 61 (some 17):=aW (by kernel_rfl)
theorem bIf:Ld 76 (some 4):=aW (by kernel_rfl)
theorem bIg:Ld 80 none:=aW (by kernel_rfl)
theorem bIh:Ld 82 (some 4):=aW (by kernel_rfl)
theorem bIi:Ld 84 (some 12):=aW (by kernel_rfl)
theorem ld9:Ld 9 none:=aW (by kernel_rfl)
theorem bIj:Ld 90 (some 2):=aW (by kernel_rfl)
theorem bIk:Ld 99 (some 23):=aW (by kernel_rfl)
theorem aVh:Ln 102:=eB (by kernel_rfl)
theorem aVi:Ln 114:=eB (by kernel_rfl)
theorem bCj:Ln 22:=eB (by kernel_rfl)
theorem bCk:Ln 24:=eB (by kernel_rfl)
theorem bCl:Ln 25:=eB (by kernel_rfl)
theorem bCm:Ln 26:=eB (by kernel_rfl)
theorem bCn:Ln 27:=eB (by kernel_rfl)
theorem bCo:Ln 28:=eB (by kernel_rfl)
theorem aVj:Ln 361:=eB (by kernel_rfl)
theorem aVk:Ln 364:=eB (by kernel_rfl)
theorem bCp:Ln 44:=eB (by kernel_rfl)
theorem bCq:Ln 55:=eB (by kernel_rfl)
theorem bCr:Ln 62:=eB (by kernel_rfl)
theorem bCs:Ln 68:=eB (by kernel_rfl)
theorem bCt:Ln 71:=eB (by kernel_rfl)
theorem bCu:Ln 80:=eB (by kernel_rfl)
theorem bIl (s:List UInt8) (S:St):zU prog 9 (.str s) S=.ok (.int .i64 s.length):=aQs (by kernel_rfl) s S
theorem bCv:Ln 96:=eB (by kernel_rfl)
theorem bCw:Ln 97:=eB (by kernel_rfl)
theorem bIm:Sl_ 22 1:=eZ (by kernel_rfl)
theorem bIn:Si 22 1:=wP (by kernel_rfl)
theorem bIo:Sl_ 24 5:=eZ (by kernel_rfl)
theorem bIp:Sl_ 25 4:=eZ (by kernel_rfl)
theorem bIq:Sl_ 26 12:=eZ (by kernel_rfl)
theorem bIr:Si 26 12:=wP (by kernel_rfl)
theorem bIs:Sl_ 27 2:=eZ (by kernel_rfl)
theorem bIt:Sl_ 28 5:=eZ (by kernel_rfl)
theorem bIu:Sl_ 55 4:=eZ (by kernel_rfl)
theorem bIv:Si 55 4:=wP (by kernel_rfl)
theorem bIw:Sl_ 71 4:=eZ (by kernel_rfl)
theorem bIx:Sl_ 80 4:=eZ (by kernel_rfl)
theorem bIy:Sl_ 96 1:=eZ (by kernel_rfl)
theorem bIz:Sl_ 97 23:=eZ (by kernel_rfl)
theorem bCx:Sr 126 4:=aS (by kernel_rfl)
theorem bCy:Sr 132 5:=aS (by kernel_rfl)
theorem bCz:Sr 145 4:=aS (by kernel_rfl)
theorem bD0:Sr 201 4:=aS (by kernel_rfl)
theorem bD1:Sr 212 1:=aS (by kernel_rfl)
theorem bJ0:Sr 22 1:=aS (by kernel_rfl)
theorem bD2:Sr 220 3:=aS (by kernel_rfl)
theorem bD3:Sr 232 1:=aS (by kernel_rfl)
theorem bJ1:Sr 24 1:=aS (by kernel_rfl)
theorem bJ2:Sr 25 1:=aS (by kernel_rfl)
theorem bJ3:Sr 26 1:=aS (by kernel_rfl)
theorem bJ4:Sr 27 1:=aS (by kernel_rfl)
theorem bJ5:Sr 28 1:=aS (by kernel_rfl)
theorem st3:Sr 3 1:=aS (by kernel_rfl)
theorem bJ6:Sr 30 6:=aS (by kernel_rfl)
theorem bJ7:Sr 31 1:=aS (by kernel_rfl)
theorem bD4:Sr 346 2:=aS (by kernel_rfl)
theorem st4:Sr 4 1:=aS (by kernel_rfl)
theorem bJ8:Sr 48 3:=aS (by kernel_rfl)
theorem st5:Sr 5 1:=aS (by kernel_rfl)
theorem bJ9:Sr 52 3:=aS (by kernel_rfl)
theorem bJa:Sr 54 5:=aS (by kernel_rfl)
theorem bJb:Sr 55 1:=aS (by kernel_rfl)
theorem bJc:Sr 57 2:=aS (by kernel_rfl)
theorem bJd:Sr 59 15:=aS (by kernel_rfl)
theorem bJe:Sr 61 17:=aS (by kernel_rfl)
theorem bJf:Sr 80 1:=aS (by kernel_rfl)
theorem bJg:Sr 82 4:=aS (by kernel_rfl)
theorem bJh:Sr 84 12:=aS (by kernel_rfl)
theorem st9:Sr 9 1:=aS (by kernel_rfl)
theorem bJi:Sr 90 2:=aS (by kernel_rfl)
theorem bJj:Sr 99 23:=aS (by kernel_rfl)
end Go.Proofs.YtoaibmbldmckaaaGreat
end
section
namespace Go.AM
open Go.RowKit Go.Lib Go.Proofs Go.Shelf
theorem aDh {P:Program} {t:TypeId} (h:(P.info? t).isSome=true) (w:World):(Go.sizeOf t).run P w=.ok (sz P t) w:=by
 obtain ⟨i,hi⟩:=Option.isSome_iff_exists.1 h
 simp [sizeOf,typeInfo,hi,jA hi]
theorem kV {P:Program} {t:TypeId} (h:(P.info? t).map (·.size)=some 1) (w:World):(Go.sizeOf t).run P w=.ok 1 w:=by
 cases hi:P.info? t with
 | none=>rw [hi] at h;cases h
 | some i=>rw [hi] at h;simp [sizeOf,typeInfo,hi] at h ⊢;exact h
theorem pQ {P:Program} {f:FuncId} {T e I B:TypeId} {ov rr:FuncId} {fn fo:Func} (mixed:P.follows .mixedOrders=true) (hf:P.funcs[f]?=some fn) (hb:fn.body=some (yE T I B ov rr)) (hn:fn.ntmps=95) (hr:fn.results=#[.tmp 6])
  (tT:P.underlying T=some (.slice e)) (tI:P.underlying I=some (.int .i64)) (tB:P.underlying B=some .bool)
  (ho:P.funcs[ov]?=some fo) (o1:(fo.name == "runtime.NumGoroutine")=false) (o2:fo.body.isNone=true) (o3:Extern.findNext fo=none) (o4:Extern.find fo=some (Extern.SlicesOverlaps.overlaps #[T,T] #[B]))
  (zE:(P.info? e).isSome=true) (zT:(P.info? T).map (·.size)=some 1) (zI:(P.info? I).map (·.size)=some 1) (zB:(P.info? B).map (·.size)=some 1):InsAt P f T e I B ov rr fn:=
 ⟨mixed,hf,hb,hn,hr,tT,tI,tB,run_callFunc_extern ho o1 o2 o3 o4,aDh zE,kV zT,kV zI,kV zB⟩
theorem aVl {P:Program} {f:FuncId} {T e I B:TypeId} {fn:Func} (mixed:P.follows .mixedOrders=true) (hf:P.funcs[f]?=some fn) (hb:fn.body=some (aBx T I B)) (hn:fn.ntmps=33) (hr:fn.results=#[.tmp 6])
  (tT:P.underlying T=some (.slice e)) (tI:P.underlying I=some (.int .i64)) (tB:P.underlying B=some .bool)
  (zE:(P.info? e).isSome=true) (zT:(P.info? T).map (·.size)=some 1) (zI:(P.info? I).map (·.size)=some 1) (zB:(P.info? B).map (·.size)=some 1):DelAt P f T e I B fn:=
 ⟨mixed,hf,hb,hn,hr,tT,tI,tB,aDh zE,kV zT,kV zI,kV zB⟩
end Go.AM
end
section
set_option linter.unusedSimpArgs false
set_option linter.unusedVariables false
namespace Go.AM
structure Lit where
 args:List V
 n:Nat
 blocks:List (Nat×Blk)
 v:V
 n':Nat
 blocks':List (Nat×Blk)
end Go.AM
namespace Go.AM
theorem aVm {fn:Func} (h:fn.body.isSome=true):fn.body=some (fn.body.get h):=(Option.some_get h).symm
end Go.AM
end
section
set_option linter.unusedSimpArgs false
set_option linter.unusedVariables false
namespace Go.AM
open Go.RowKit
theorem RelH.grow {F:Nat→Option Obj} {G:Gh} {S:St} {H H':Array Obj} (R:eQ F G S H) (hs:H.size≤H'.size) (old:∀ i,i<H.size→H'[i]?=H[i]?):eQ F G S H':=by
 have lt:∀ {i:Nat} {o:Obj},H[i]?=some o→i<H.size:=fun h=>(Array.getElem?_eq_some_iff.1 h).1
 constructor
 ·exact R.fresh
 ·exact R.sep
 ·intro a b hb
  have hold:=R.blk a b hb
  cases b with
  | row ver' es' elems'=>
   obtain ⟨K,hK,r1,r2,r3,c',ty',fr',hc',r⟩:=hold
   exact ⟨K,hK,r1,r2,r3,c',ty',fr',by rw [old _ (lt hc')];exact hc',r⟩
  | mp kvs=>
   obtain ⟨i,es',clock,hi,hH',r⟩:=hold
   exact ⟨i,es',clock,hi,by rw [old _ (lt hH')];exact hH',r⟩
  | iter s pos=>
   obtain ⟨K,hK,r1,r2,hH'⟩:=hold
   exact ⟨K,hK,r1,r2,by rw [old _ (lt hH')];exact hH'⟩
 ·exact R.inj
 ·intro i o h
  have:=R.fr i o h
  rw [old i (lt this)];exact this
 ·intro i o h
  have:=R.pr i o h
  rw [old i (lt this)];exact this
 ·exact R.own
 ·intro a i h
  have:=R.lt a i h
  omega
 ·exact R.small
theorem aR8 {P:Program} {f:FuncId} {fn:Func} (hf:P.funcs[f]?=some fn) (hn:(fn.name == "runtime.NumGoroutine")=false) (hb:fn.body.isSome=true)
  (h:∀ W,Calls P f #[] W fun e W'=>e=.returned (.bool true)∧Below W.heap.size W W'):SpecOK P f (Sp.told.run P):=by
 refine ⟨⟨fn,_,hf,hn,aVm hb⟩,fun {args S S' v} hr=>?_⟩
 intro F G W cs R hvs
 match args,hr with
 | [],hr=>
  cases hr
  cases hvs
  refine (h W).mono ?_
  rintro e W' ⟨rfl,hw⟩
  have hw':=hw
  obtain ⟨w1,w2,w3,w4,w5⟩:=hw
  have old:∀ i,i<W.heap.size→W'.heap[i]?=W.heap[i]?:=w5
  exact ⟨G,.bool true,rfl,⟨G.le_refl,R.grow w4 old,⟨w1,w2,w3,w4⟩,Nat.le_refl _,fun _ _ _ _=>⟨rfl,rfl⟩,fun _ h _ _=>h,fun _ _ h=>.inl h⟩,.bool true⟩
end Go.AM
namespace Go.AM
open Go.RowKit
end Go.AM
end
section
namespace Go.Proofs.YtoaibmbldmckaaaGreat
open Go.RowKit Go.AM Tryz
theorem bD5:SpecOK prog 202 ((Sp.ins 68).run prog):=
 jF (e:=76) (I:=3) (B:=4) (ov:=247) (rr:=248) (fn:=Tryz.f202) (pQ (fo:=Tryz.f247) (by kernel_rfl) (by kernel_rfl) (by kernel_rfl) (by kernel_rfl) (by kernel_rfl)
  (by kernel_rfl) (by kernel_rfl) (by kernel_rfl) (by kernel_rfl) (by kernel_rfl) (by kernel_rfl) (by kernel_rfl) (by kernel_rfl) (by kernel_rfl) (by kernel_rfl) (by kernel_rfl) (by kernel_rfl)) (by kernel_rfl)
theorem bD6:SpecOK prog 221 ((Sp.ins 27).run prog):=
 jF (e:=90) (I:=3) (B:=4) (ov:=256) (rr:=257) (fn:=Tryz.f221) (pQ (fo:=Tryz.f256) (by kernel_rfl) (by kernel_rfl) (by kernel_rfl) (by kernel_rfl) (by kernel_rfl)
  (by kernel_rfl) (by kernel_rfl) (by kernel_rfl) (by kernel_rfl) (by kernel_rfl) (by kernel_rfl) (by kernel_rfl) (by kernel_rfl) (by kernel_rfl) (by kernel_rfl) (by kernel_rfl) (by kernel_rfl)) (by kernel_rfl)
theorem bD7:SpecOK prog 230 ((Sp.ins 28).run prog):=
 jF (e:=132) (I:=3) (B:=4) (ov:=261) (rr:=262) (fn:=Tryz.f230) (pQ (fo:=Tryz.f261) (by kernel_rfl) (by kernel_rfl) (by kernel_rfl) (by kernel_rfl) (by kernel_rfl)
  (by kernel_rfl) (by kernel_rfl) (by kernel_rfl) (by kernel_rfl) (by kernel_rfl) (by kernel_rfl) (by kernel_rfl) (by kernel_rfl) (by kernel_rfl) (by kernel_rfl) (by kernel_rfl) (by kernel_rfl)) (by kernel_rfl)
theorem bD8:SpecOK prog 234 ((Sp.ins 25).run prog):=
 jF (e:=126) (I:=3) (B:=4) (ov:=264) (rr:=265) (fn:=Tryz.f234) (pQ (fo:=Tryz.f264) (by kernel_rfl) (by kernel_rfl) (by kernel_rfl) (by kernel_rfl) (by kernel_rfl)
  (by kernel_rfl) (by kernel_rfl) (by kernel_rfl) (by kernel_rfl) (by kernel_rfl) (by kernel_rfl) (by kernel_rfl) (by kernel_rfl) (by kernel_rfl) (by kernel_rfl) (by kernel_rfl) (by kernel_rfl)) (by kernel_rfl)
theorem bD9:SpecOK prog 237 ((Sp.ins 24).run prog):=
 jF (e:=54) (I:=3) (B:=4) (ov:=266) (rr:=267) (fn:=Tryz.f237) (pQ (fo:=Tryz.f266) (by kernel_rfl) (by kernel_rfl) (by kernel_rfl) (by kernel_rfl) (by kernel_rfl)
  (by kernel_rfl) (by kernel_rfl) (by kernel_rfl) (by kernel_rfl) (by kernel_rfl) (by kernel_rfl) (by kernel_rfl) (by kernel_rfl) (by kernel_rfl) (by kernel_rfl) (by kernel_rfl) (by kernel_rfl)) (by kernel_rfl)
theorem bDa:SpecOK prog 280 ((Sp.ins 80).run prog):=
 jF (e:=145) (I:=3) (B:=4) (ov:=288) (rr:=289) (fn:=Tryz.f280) (pQ (fo:=Tryz.f288) (by kernel_rfl) (by kernel_rfl) (by kernel_rfl) (by kernel_rfl) (by kernel_rfl)
  (by kernel_rfl) (by kernel_rfl) (by kernel_rfl) (by kernel_rfl) (by kernel_rfl) (by kernel_rfl) (by kernel_rfl) (by kernel_rfl) (by kernel_rfl) (by kernel_rfl) (by kernel_rfl) (by kernel_rfl)) (by kernel_rfl)
theorem bDb:SpecOK prog 240 ((Sp.del 28).run prog):=
 aJj (e:=132) (I:=3) (B:=4) (fn:=Tryz.f240) (aVl (by kernel_rfl) (by kernel_rfl) (by kernel_rfl) (by kernel_rfl) (by kernel_rfl)
  (by kernel_rfl) (by kernel_rfl) (by kernel_rfl) (by kernel_rfl) (by kernel_rfl) (by kernel_rfl) (by kernel_rfl)) (by kernel_rfl)
theorem iO {P:Program} {a b:iJ} (h:gR P a=true) (k:gR P b=true):gR P (a++b)=true:=by unfold gR at *;rw [List.all_append,h,k];rfl
def bJk:aFe:=[(202,.ins 68),(221,.ins 27),(230,.ins 28),(234,.ins 25),(237,.ins 24),(280,.ins 80),(240,.del 28)]
theorem aYo:SpAll prog bJk:=⟨bD5,bD6,bD7,bD8,bD9,bDa,bDb,trivial⟩
theorem aVn:aYc=aTl++(aTm++(aTn++(aTo++(aTp++(aTq++(aTr++(aTs++(aTt++(aTu++(aNv++(aNw++(aNx++(aNy++(aNz++(aO0++(aO1)))))))))))))))):=rfl
theorem aP6:gR prog aYc=true:=by
 rw [aVn]
 exact iO aQy (iO aQz (iO aR0 (iO aR1 (iO aR2 (iO aR3 (iO aR4 (iO aR5 (iO aR6 (iO aR7 (iO aM7 (iO aM8 (iO aM9 (iO aMa (iO aMb (iO aMc (aMd))))))))))))))))
theorem aVo:aCo (eF prog (rG prog bJk aYc) 1000 25 [] St.empty)=true:=by kernel_rfl
theorem bOn:SpecOK prog 25 (Sp.told.run prog):=aR8 Tryz.func25 (by kernel_rfl) (by kernel_rfl) fun W=>aLp (aD5 (by kernel_rfl) aYo aP6) aVo W
theorem bEa:SpAll prog dSp:=⟨bD5,bD6,bD7,bD8,bD9,bDa,bDb,bOn,trivial⟩
theorem aR9:PlansOK prog nK:=aD5 (by kernel_rfl) bEa aP6
end Go.Proofs.YtoaibmbldmckaaaGreat
end
section
namespace Go.Proofs.YtoaibmbldmckaaaGreat
open Go.AM Tryz
def aMn (y:Int):Bool:=if y.tmod 4=0 then (if y.tmod 100=0 then decide (y.tmod 400=0) else true) else false
def fY (y m:Int):Int:=if m=2 then (if aMn y=true then 29 else 28) else if m=4∨m=6∨m=9∨m=11 then 30 else 31
structure Date where
 y:Int
 m:Int
 d:Int
deriving DecidableEq
def Date.enc (d:Date):List V:=[.int .i64 d.y,.int .i64 d.m,.int .i64 d.d]
def Date.right (d:Date):Bool:=decide (1≤d.y)&&(decide (d.y≤9999)&&(decide (1≤d.m)&&(decide (d.m≤12)&&(decide (1≤d.d)&&decide (d.d≤fY d.y d.m)))))
def ahead (y:Int):Int:=
 wr .i64 (wr .i64 (wr .i64 (wr .i64 (365*wr .i64 (y - 1))+wr .i64 ((wr .i64 (y - 1)).tdiv 4)) - wr .i64 ((wr .i64 (y - 1)).tdiv 100))+wr .i64 ((wr .i64 (y - 1)).tdiv 400))
def mT (y:Int) (n:Int) (i:Nat):Int⊕Int:=.inr (wr .i64 (n+fY y ((i:Int)+1)))
def Date.days (d:Date):Int:=if d.right=true then wr .i64 (wr .i64 (aE (mT d.y) id (List.range (d.m - 1).toNat) (ahead d.y)+d.d) - 1) else -1
def Date.before (a b:Date):Bool:=a.right&&(b.right&&decide (a.days<b.days))
def dQ (a b:Int):Int×Int:=
 if (0<b∧wr .i64 (9223372036854775807 - b)<a)∨(b<0∧a<wr .i64 (-9223372036854775808 - b)) then (0,7) else (wr .i64 (a+b),0)
def kW (a b:Int):Int×Int:=
 if (b<0∧wr .i64 (9223372036854775807+b)<a)∨(0<b∧a<wr .i64 (-9223372036854775808+b)) then (0,7) else (wr .i64 (a - b),0)
def fZ (r:Int×Int):V:=.tup [.int .i64 r.1,.int .i64 r.2]
def aDi (n:Int):Int:=wr .u64 ((BitVec.ofInt IntKind.u64.bits (if IntKind.u64.signed then -1 else IntKind.u64.max) ^^^ BitVec.ofInt IntKind.u64.bits n).toNat)
def pR (n:Int):Int:=if n<0 then wr .u64 (aDi (wr .u64 n)+1) else wr .u64 n
def aC8 (n:Int) (neg:Bool):Int×Bool:=
 if neg=true then (wr .i64 (wr .u64 (aDi n+1)),decide (n≤9223372036854775808)) else (wr .i64 n,decide (n≤9223372036854775807))
def aMo (a b:Int):Int×Int:=
 if 0<pR b∧wr .u64 ((9223372036854775808:Int).tdiv (pR b))<pR a then (0,7) else
  let r:=aC8 (wr .u64 (pR a*pR b)) (!(decide (a<0) == decide (b<0)))
  if r.2=true then (r.1,0) else (0,7)
def bG (n bp:Int):Int×Int:=
 if bp<0∨100000<bp then (0,1) else
  let u:=pR n
  let p:=wr .u64 bp
  let many:=wr .u64 (u.tdiv 10000)
  let rest:=u.tmod 10000
  if 0<p∧wr .u64 ((9223372036854775807:Int).tdiv p)<many then (0,7) else
   let out:=wr .u64 (wr .u64 (many*p)+wr .u64 ((wr .u64 (wr .u64 (wr .u64 (2*rest)*p)+10000)).tdiv (wr .u64 (2*10000))))
   if 9223372036854775807<out then (0,7) else if n<0 then (wr .i64 (0 - wr .i64 out),0) else (wr .i64 out,0)
theorem aDj:wr .u64 (2*10000)=20000:=by decide
theorem bEb:wr .u64 10000=10000:=by decide
def yT (r:Int):Bool:=
 if (97≤r∧r≤122)∨(65≤r∧r≤90) then true else if r=215 then false else if r=247 then false else decide (192≤r)&&decide (r≤591)
def oN (s:List UInt8):Nat→Nat→List (Nat×Nat)
 | 0,_=>[]
 | f+1,pos=>if pos<s.length then (pos,(Utf8.decode ⟨⟨s⟩⟩ pos).1)::oN s f (pos+(Utf8.decode ⟨⟨s⟩⟩ pos).2) else []
theorem aJz (s:ByteArray) (i:Nat):1≤(Utf8.decode s i).2:=by
 unfold Utf8.decode
 simp only
 repeat' split
 all_goals simp
def yU (_:Unit) (x:Nat×Nat):Bool⊕Unit:=
 if yT x.2=true then .inr () else if x.1=0 then .inl false else if (48≤x.2∧x.2≤57)∨x.2=45∨x.2=95∨x.2=46 then .inr () else .inl false
def dR (s:List UInt8):Bool:=if s.length<1 then false else if 24<s.length then false else aE yU (fun _=>true) (oN s s.length 0) ()
structure Rate where
 cat:List UInt8
 day:Date
 bp:Int
deriving DecidableEq
def Rate.enc (r:Rate):List V:=[.str r.cat,.int .i64 r.day.y,.int .i64 r.day.m,.int .i64 r.day.d,.int .i64 r.bp]
def wT (r:Rate):Int:=if dR r.cat=false then 8 else if r.day.right=false then 9 else if r.bp<0 then 10 else if 100000<r.bp then 10 else 0
def fR (a b:Rate):Bool:=if fU a.cat b.cat=true then true else if (a.cat == b.cat)=true then a.day.before b.day else false
def jG (prev:Option Rate) (r:Rate):Bool⊕Option Rate:=
 if wT r≠0 then .inl false else match prev with
  | none=>.inr (some r)
  | some p=>if fR p r=true then .inr (some r) else .inl false
def gE (l:List Rate):Bool:=if 24<l.length then false else aE jG (fun _=>true) l none
def gF {α:Type} (l:List α) (i:Nat):Option α:=if i=0 then none else l[i - 1]?
structure Rep where
 why:Int
 number:Int
 gross:Int
deriving DecidableEq
structure Sess where
 id:Int
 last:Int
 reply:Rep
deriving DecidableEq
def Rep.enc (r:Rep):List V:=[.int .i64 r.why,.int .i64 r.number,.int .i64 r.gross]
def Sess.enc (s:Sess):List V:=[.int .i64 s.id,.int .i64 s.last,.int .i64 s.reply.why,.int .i64 s.reply.number,.int .i64 s.reply.gross]
def Rep.zero:Rep:=⟨0,0,0⟩
def kC (last:Int) (s:Sess):Bool⊕Int:=
 if s.id≤last then .inl false else if s.last<0 then .inl false else if 1099511627776<s.last then .inl false else if s.last=0∧s.reply≠Rep.zero then .inl false else .inr s.id
def gH (l:List Sess):Bool:=if 8<l.length then false else aE kC (fun _=>true) l 0
def dO {α:Type} (p:α→Bool) (n:Nat) (a:α):Int⊕Nat:=if p a=true then .inl (n:Int) else .inr (n+1)
def ixM {α:Type} (p:α→Bool) (l:List α):Int:=aE (dO p) (fun _=>-1) l 0
theorem aG2 {α:Type} (p:α→Bool):∀ (l:List α) (n:Nat),(aE (dO p) (fun _=>-1) l n=-1)∨∃ (i:Nat) (a:α),aE (dO p) (fun _=>-1) l n=((n+i:Nat):Int)∧l[i]?=some a∧p a=true
 | [],n=>.inl rfl
 | a::l,n=>by
  by_cases h:p a=true
  ·refine .inr ⟨0,a,?_,rfl,h⟩
   simp [aE,dO,h]
  ·rcases aG2 p l (n+1) with h1 | ⟨i,b,h1,h2,h3⟩
   ·left;simp [aE,dO,h,h1]
   ·right
    refine ⟨i+1,b,?_,by simpa using h2,h3⟩
    simp only [aE,dO,h,if_false]
    simp only [h1,Bool.false_eq_true,if_false]
    omega
theorem kX {α:Type} (p:α→Bool) (l:List α):(ixM p l=-1)∨∃ (i:Nat) (a:α),ixM p l=(i:Int)∧l[i]?=some a∧p a=true:=by
 rcases aG2 p l 0 with h | ⟨i,a,h1,h2,h3⟩
 ·exact .inl h
 ·exact .inr ⟨i,a,by rw [ixM,h1];simp,h2,h3⟩
def hJ (l:List Sess) (id:Int):Int:=ixM (fun s:Sess=>decide (s.id=id)) l
def cD (l:List Sess) (id seq:Int):Rep×Bool×Int:=
 if gH l=false then (Rep.zero,false,1) else if hJ l id<0 then (Rep.zero,false,15) else if seq<1∨1099511627776<seq then (Rep.zero,false,1) else
  match l[(hJ l id).toNat]? with
  | none=>(Rep.zero,false,1)
  | some s=>if seq=s.last then (s.reply,true,0) else if seq<s.last then (Rep.zero,false,16) else (Rep.zero,false,0)
theorem mU {l:List Sess} (h:gH l=true):l.length≤8:=by
 unfold gH at h
 split at h
 ·cases h
 ·omega
theorem kE (l:List Sess) (id:Int):hJ l id=-1∨∃ (i:Nat) (s:Sess),hJ l id=(i:Int)∧l[i]?=some s∧s.id=id:=by
 rcases kX (fun s:Sess=>decide (s.id=id)) l with h | ⟨i,s,h1,h2,h3⟩
 ·exact .inl h
 ·exact .inr ⟨i,s,h1,h2,of_decide_eq_true h3⟩
def fS {α:Type} (p:α→Bool) (n:Nat) (a:α):Nat⊕Nat:=if p a=true then .inr (n+1) else .inl n
def nL {α:Type} (p:α→Bool) (l:List α):Nat:=aE (fS p) id l 0
theorem aG3 {α:Type} (p:α→Bool):∀ (l:List α) (n:Nat),aE (fS p) id l n≤n+l.length
 | [],n=>by simp [aE]
 | a::l,n=>by
  have ih:=aG3 p l (n+1)
  by_cases h:p a=true
  ·simp only [aE,fS,h,if_true,List.length_cons];omega
  ·simp only [aE,fS,h,if_false,List.length_cons,Bool.false_eq_true];omega
theorem aC9 {α:Type} (p:α→Bool) (l:List α):nL p l≤l.length:=by have:=aG3 p l 0;simp only [nL];omega
def fL {α:Type} (l:List α) (i:Nat) (a:α):List α:=l.take i++a::l.drop i
theorem pS {α β:Type} (f:α→β) (l:List α) (i:Nat) (a:α):(fL l i a).map f=(l.map f).take i++f a::(l.map f).drop i:=by simp [fL,List.map_take,List.map_drop]
def mF (l:List Sess) (id:Int):List Sess×Int:=
 if gH l=false∨id<1 then ([],1) else if 0≤hJ l id then ([],12) else if 8≤l.length then ([],14) else (fL l (nL (fun s=>decide (s.id<id)) l) ⟨id,0,Rep.zero⟩,0)
def wU {α:Type} (l:List α) (i:Nat):List α:=l.take i++l.drop (i+1)
theorem aMp {α β:Type} (f:α→β) (l:List α) (i:Nat):(wU l i).map f=(l.map f).take i++(l.map f).drop (i+1):=by simp [wU,List.map_take,List.map_drop]
def gG (l:List Sess) (id:Int):List Sess×Int:=
 if gH l=false then ([],1) else if hJ l id<0 then ([],11) else (wU l (hJ l id).toNat,0)
def kN (l:List Sess) (id seq:Int) (r:Rep):List Sess×Int:=
 if (cD l id seq).2.2≠0 then ([],(cD l id seq).2.2) else if (cD l id seq).2.1=true then ([],12) else
  match l[(hJ l id).toNat]? with
  | none=>([],0)
  | some s=>(l.set (hJ l id).toNat ⟨s.id,seq,r⟩,0)
theorem aDk {l:List Sess} {id seq:Int} (h:(cD l id seq).2.2=0):gH l=true∧∃ (i:Nat) (s:Sess),hJ l id=(i:Int)∧l[i]?=some s:=by
 unfold cD at h
 split at h
 ·cases h
 ·rename_i hr
  have hr:gH l=true:=by simpa using hr
  split at h
  ·cases h
  ·rcases kE l id with h' | ⟨i,s,h1,h2,_⟩
   ·omega
   ·exact ⟨hr,i,s,h1,h2⟩
structure Ser where
 name:List UInt8
 next:Int
 limit:Int
 shut:Bool
deriving DecidableEq
def Ser.enc (s:Ser):List V:=[.str s.name,.int .i64 s.next,.int .i64 s.limit,.bool s.shut]
def fC (l:List Ser) (name:List UInt8):Int:=ixM (fun s:Ser=>s.name == name) l
theorem jH (l:List Ser) (name:List UInt8):fC l name=-1∨∃ (i:Nat) (s:Ser),fC l name=(i:Int)∧l[i]?=some s∧s.name=name:=by
 rcases kX (fun s:Ser=>s.name == name) l with h | ⟨i,s,h1,h2,h3⟩
 ·exact .inl h
 ·exact .inr ⟨i,s,h1,h2,by simpa using h3⟩
def rP (s:Ser):Bool:=decide (s.limit<1)||(decide (1099511627776<s.limit)||(decide (s.next<1)||decide (wr .i64 (s.limit+1)<s.next)))
def pT (prev:Option Ser) (s:Ser):Bool:=match prev with
 | none=>false
 | some p=>!fU p.name s.name
def oO (prev:Option Ser) (s:Ser):Bool⊕Option Ser:=
 if dR s.name=false then .inl false else if pT prev s=true then .inl false else if rP s=true then .inl false else .inr (some s)
def nZ (l:List Ser):Bool:=if 8<l.length then false else aE oO (fun _=>true) l none
theorem pU {l:List Ser} (h:nZ l=true):l.length≤8:=by
 unfold nZ at h
 split at h
 ·cases h
 ·omega
def iR (l:List Ser) (name:List UInt8):Int×Int:=
 if nZ l=false then (0,1) else if fC l name<0 then (0,11) else match l[(fC l name).toNat]? with
  | none=>(0,1)
  | some s=>if s.shut=true then (0,13) else (fC l name,0)
theorem yV {l:List Ser} {name:List UInt8} (h:(iR l name).2=0):nZ l=true∧∃ (i:Nat) (s:Ser),iR l name=((i:Int),0)∧fC l name=(i:Int)∧l[i]?=some s∧s.name=name∧s.shut=false:=by
 unfold iR at h
 split at h
 ·cases h
 ·rename_i hr
  have hr:nZ l=true:=by simpa using hr
  split at h
  ·cases h
  ·rename_i h11
   rcases jH l name with h' | ⟨i,s,h1,h2,h3⟩
   ·omega
   ·rw [h1] at h
    simp only [Int.toNat_natCast,h2] at h
    split at h
    ·cases h
    ·rename_i hsh
     refine ⟨hr,i,s,?_,h1,h2,h3,by simpa using hsh⟩
     unfold iR
     rw [if_neg (by rw [hr];simp),if_neg h11,h1]
     simp only [Int.toNat_natCast,h2,if_neg hsh]
def pV (l:List Ser) (name:List UInt8):List Ser×Int:=
 if (iR l name).2≠0 then ([],(iR l name).2) else match l[(iR l name).1.toNat]? with
  | none=>([],0)
  | some s=>(l.set (iR l name).1.toNat { s with shut:=true },0)
def cO (l:List Ser) (name:List UInt8):List Ser×Int×Int:=
 if (iR l name).2≠0 then ([],0,(iR l name).2) else match l[(iR l name).1.toNat]? with
  | none=>([],0,0)
  | some s=>if s.limit<s.next then ([],0,14) else (l.set (iR l name).1.toNat { s with next:=wr .i64 (s.next+1) },s.next,0)
def eS (l:List Ser) (name:List UInt8) (limit:Int):List Ser×Int:=
 if nZ l=false then ([],1) else if dR name=false then ([],8) else if limit<1∨1099511627776<limit then ([],1) else if 0≤fC l name then ([],12) else if 8≤l.length then ([],14) else
  (fL l (nL (fun s=>fU s.name name) l) ⟨name,1,limit,false⟩,0)
def Ser.zero:Ser:=⟨[],0,0,false⟩
def lF (l:List Ser) (name:List UInt8):Ser×Bool:=match (if fC l name<0 then none else l[(fC l name).toNat]?) with
 | none=>(Ser.zero,false)
 | some s=>(s,true)
def kF (cat:List UInt8) (d:Date) (st:Int×Bool) (r:Rate):(Int×Bool)⊕(Int×Bool):=.inr (if (r.cat == cat)=true∧d.before r.day=false then (r.bp,true) else st)
def iS (l:List Rate) (cat:List UInt8) (d:Date):Int×Bool:=if gE l=false then (0,false) else if d.right=false then (0,false) else aE (kF cat d) id l (0,false)
theorem wV {l:List Rate} (h:gE l=true):l.length≤24:=by
 unfold gE at h
 split at h
 ·cases h
 ·omega
def lG (r:Rate) (k:Nat) (x:Rate):Option Nat⊕Nat:=
 if (x.cat == r.cat)=true∧x.day=r.day then .inl none else .inr (if fR x r=true then k+1 else k)
def iD (l:List Rate) (r:Rate):List Rate×Int:=
 if gE l=false then ([],1) else if wT r≠0 then ([],wT r) else match aE (lG r) some l 0 with
  | none=>([],12)
  | some k=>if 24≤l.length then ([],2) else (fL l k r,0)
structure Bal where
 acc:List UInt8
 amount:Int
deriving DecidableEq
def Bal.enc (b:Bal):List V:=[.str b.acc,.int .i64 b.amount]
structure Part where
 cat:List UInt8
 bp:Int
 net:Int
 tax:Int
deriving DecidableEq
def Part.enc (p:Part):List V:=[.str p.cat,.int .i64 p.bp,.int .i64 p.net,.int .i64 p.tax]
structure Total where
 net:Int
 tax:Int
 gross:Int
 parts:List Part
deriving DecidableEq
def aDl (prev:Option Bal) (b:Bal):Bool⊕Option Bal:=match prev with
 | none=>.inl false
 | some p=>if fU p.acc b.acc=true then .inr (some b) else .inl false
def aG4 (l:List Bal):Bool:=aE aDl (fun _=>true) (l.drop 1) l[0]?
def aRa:List UInt8:=[110,101,116,47]
def aRb:List UInt8:=[116,97,120,47]
def lH (l:List Bal) (p:Part):(List Bal×Int)⊕List Bal:=
 if (kW 0 p.net).2≠0 then .inl ([],7) else if (kW 0 p.tax).2≠0 then .inl ([],7) else .inr (l++[⟨aRa++p.cat,(kW 0 p.net).1⟩,⟨aRb++p.cat,(kW 0 p.tax).1⟩])
def dG (t:Total):List Bal×Int:=aE lH (fun l=>(l,0)) t.parts [⟨[111,119,101,100],t.gross⟩]
theorem aK0:∀ (l:List Part) (a:List Bal) (r:List Bal×Int),aE lH (fun l=>(l,0)) l a=r→r.2=0→r.1.length=a.length+2*l.length
 | [],a,r,h,_=>by subst h;simp [aE]
 | p::l,a,r,h,h0=>by
  simp only [aE,lH] at h
  split at h
  ·rename_i r' he
   split at he
   ·cases he;subst h;cases h0
   ·split at he
    ·cases he;subst h;cases h0
    ·cases he
  ·rename_i s' he
   split at he
   ·cases he
   ·split at he
    ·cases he
    ·cases he
     have:=aK0 l _ r h h0
     simp only [List.length_append,List.length_cons,List.length_nil] at this ⊢
     omega
theorem aG5 {α:Type} (l:List α) (i:Nat) (a:α) (h:i≤l.length):(fL l i a)[i]?=some a:=by
 unfold fL
 rw [List.getElem?_append_right (by rw [List.length_take];omega),List.length_take,Nat.min_eq_left h,Nat.sub_self]
 rfl
theorem aG6 {α:Type} (l:List α) (i:Nat) (a:α) (h:i≤l.length):(fL l i a).length=l.length+1:=by
 simp only [fL,List.length_append,List.length_take,List.length_cons,List.length_drop];omega
def bW (l:List Bal) (acc:List UInt8):Nat:=nL (fun b=>fU b.acc acc) l
def oP (l:List Bal) (acc:List UInt8):Bool:=match l[bW l acc]? with
 | none=>true
 | some b=>!(b.acc == acc)
def dD (l:List Bal) (acc:List UInt8):List Bal:=if oP l acc=true then fL l (bW l acc) ⟨acc,0⟩ else l
def cJ (l:List Bal) (x:Bal):(List Bal×Int)⊕List Bal:=match (dD l x.acc)[bW l x.acc]? with
 | none=>.inl ([],0)
 | some b=>if (dQ b.amount x.amount).2≠0 then .inl ([],(dQ b.amount x.amount).2) else .inr ((dD l x.acc).set (bW l x.acc) ⟨b.acc,(dQ b.amount x.amount).1⟩)
def cC (book l:List Bal):List Bal×Int:=if aG4 book=false then ([],1) else aE cJ (fun l=>(l,0)) l book
theorem tM (l:List Bal) (acc:List UInt8):bW l acc≤l.length:=aC9 _ _
theorem oQ (l:List Bal) (acc:List UInt8):∃ b,(dD l acc)[bW l acc]?=some b:=by
 unfold dD
 split
 ·exact ⟨_,aG5 _ _ _ (tM l acc)⟩
 ·rename_i h
  unfold oP at h
  split at h
  ·exact absurd rfl h
  ·rename_i b hb;exact ⟨b,hb⟩
theorem aB2 (l:List Bal) (acc:List UInt8):(dD l acc).length≤l.length+1:=by
 unfold dD
 split
 ·rw [aG6 _ _ _ (tM l acc)];exact Nat.le_refl _
 ·omega
theorem rQ (l:List Bal) (x:Bal):cJ l x=if (dQ ((dD l x.acc)[bW l x.acc]?.map (·.amount) |>.getD 0) x.amount).2≠0 then .inl ([],(dQ ((dD l x.acc)[bW l x.acc]?.map (·.amount) |>.getD 0) x.amount).2)
  else .inr ((dD l x.acc).set (bW l x.acc) ⟨((dD l x.acc)[bW l x.acc]?.map (·.acc) |>.getD []),(dQ ((dD l x.acc)[bW l x.acc]?.map (·.amount) |>.getD 0) x.amount).1⟩):=by
 obtain ⟨b,hb⟩:=oQ l x.acc
 unfold cJ
 simp only [hb,Option.map_some,Option.getD_some]
theorem aEy {l l':List Bal} {x:Bal} (h:cJ l x=.inr l'):l'.length≤l.length+1:=by
 rw [rQ] at h
 split at h
 ·cases h
 ·cases h
  rw [List.length_set]
  exact aB2 l x.acc
theorem aDm:∀ (l:List Bal) (a:List Bal) (r:List Bal×Int),aE cJ (fun l=>(l,0)) l a=r→r.1.length≤a.length+l.length
 | [],a,r,h=>by subst h;simp [aE]
 | x::l,a,r,h=>by
  simp only [aE] at h
  split at h
  ·rename_i r' he
   subst h
   rw [rQ] at he
   split at he
   ·cases he;simp
   ·cases he
  ·rename_i s' he
   have h1:=aEy he
   have:=aDm l _ r h
   simp only [List.length_cons]
   omega
def cX (n:Int):List V:=[.int .i64 n]
theorem aRc (n:Int):0≤wr .u64 n∧wr .u64 n<18446744073709551616:=by
 unfold wr lo hi
 simp only
 split
 ·omega
 ·show 0≤n % 18446744073709551616∧n % 18446744073709551616<18446744073709551616
  omega
theorem bJl:aDi 0=18446744073709551615:=by decide
def uR (st:Int×Int) (n:Int):(Int×Bool)⊕(Int×Int):=
 .inr ((st.1+(if n<0 then 18446744073709551615 else 0)+(st.2+wr .u64 n+0) / 18446744073709551616) % 18446744073709551616,(st.2+wr .u64 n+0) % 18446744073709551616)
def tN (st:Int×Int):Int×Bool:=(wr .i64 st.2,if st.2.fdiv (2 ^ 63)=0 then decide (st.1=0) else decide (st.1=18446744073709551615))
def cZ (l:List Int):Int×Bool:=aE uR tN l (0,0)
structure Line where
 text:List UInt8
 cat:List UInt8
 count:Int
 price:Int
deriving DecidableEq
def Line.enc (l:Line):List V:=[.str l.text,.str l.cat,.int .i64 l.count,.int .i64 l.price]
def fD (tab:List Rate) (d:Date) (l:Line):Int×Int×Int:=
 if 64<l.text.length then (0,0,2) else if dR l.cat=false then (0,0,8) else if l.count<1∨1048576<l.count then (0,0,1) else
  if (iS tab l.cat d).2=false then (0,0,10) else ((iS tab l.cat d).1,(aMo l.count l.price).1,(aMo l.count l.price).2)
def aVp (r:Int×Int×Int):V:=.tup [.int .i64 r.1,.int .i64 r.2.1,.int .i64 r.2.2]
def bI (l:List Part) (cat:List UInt8):Nat:=nL (fun p=>fU p.cat cat) l
def kG (l:List Part) (cat:List UInt8):Bool:=match l[bI l cat]? with
 | none=>true
 | some b=>!(b.cat == cat)
def dE (l:List Part) (cat:List UInt8) (bp:Int):List Part:=if kG l cat=true then fL l (bI l cat) ⟨cat,bp,0,0⟩ else l
def sP (l:List Part) (cat:List UInt8) (bp n:Int):List Part×Int:=match (dE l cat bp)[bI l cat]? with
 | none=>([],0)
 | some p=>((dE l cat bp).set (bI l cat) { p with net:=(dQ p.net n).1 },(dQ p.net n).2)
theorem rR (l:List Part) (cat:List UInt8):bI l cat≤l.length:=aC9 _ _
theorem rT (l:List Part) (cat:List UInt8) (bp:Int):∃ b,(dE l cat bp)[bI l cat]?=some b:=by
 unfold dE
 split
 ·exact ⟨_,aG5 _ _ _ (rR l cat)⟩
 ·rename_i h
  unfold kG at h
  split at h
  ·exact absurd rfl h
  ·rename_i b hb;exact ⟨b,hb⟩
theorem aI7 (l:List Part) (cat:List UInt8) (bp:Int):(dE l cat bp).length≤l.length+1:=by
 unfold dE
 split
 ·rw [aG6 _ _ _ (rR l cat)];exact Nat.le_refl _
 ·omega
theorem aK1 (l:List Part) (cat:List UInt8) (bp n:Int):(sP l cat bp n).1.length≤l.length+1:=by
 obtain ⟨b,hb⟩:=rT l cat bp
 unfold sP
 rw [hb]
 simp only [List.length_set]
 exact aI7 l cat bp
def Total.zero:Total:=⟨0,0,0,[]⟩
def gD (st:Int×Int×List Part) (p:Part):(Total×Int)⊕(Int×Int×List Part):=
 if (bG p.net p.bp).2≠0∨(dQ st.1 p.net).2≠0∨(dQ st.2.1 (bG p.net p.bp).1).2≠0 then .inl (Total.zero,7) else
  .inr ((dQ st.1 p.net).1,(dQ st.2.1 (bG p.net p.bp).1).1,st.2.2++[{ p with tax:=(bG p.net p.bp).1 }])
def lU (st:Int×Int×List Part):Total×Int:=
 if (dQ st.1 st.2.1).2≠0 then (Total.zero,(dQ st.1 st.2.1).2) else (⟨st.1,st.2.1,(dQ st.1 st.2.1).1,st.2.2⟩,0)
def eO (l:List Part):Total×Int:=aE gD lU l (0,0,[])
def iW (tab:List Rate) (d:Date) (parts:List Part) (l:Line):(Total×Int)⊕List Part:=
 if (fD tab d l).2.2≠0 then .inl (Total.zero,(fD tab d l).2.2) else
  if (sP parts l.cat (fD tab d l).1 (fD tab d l).2.1).2≠0 then .inl (Total.zero,(sP parts l.cat (fD tab d l).1 (fD tab d l).2.1).2) else
   .inr (sP parts l.cat (fD tab d l).1 (fD tab d l).2.1).1
def dB (tab:List Rate) (d:Date) (lines:List Line):Total×Int:=
 if gE tab=false then (Total.zero,1) else if d.right=false then (Total.zero,9) else if lines.length=0 then (Total.zero,1) else if 12<lines.length then (Total.zero,2) else
  aE (iW tab d) eO lines []
def pW (n:Int):V:=.int .i64 n
def uS (done:List Int) (x:Int):(List Int×Int)⊕List Int:=if (kW 0 x).2≠0 then .inl ([],(kW 0 x).2) else .inr (done++[(kW 0 x).1])
def iE (l:List Int):List Int×Int:=aE uS (fun l=>(l,0)) l []
def dS (acc:List Part) (p:Part):(List Part×Int)⊕List Part:=
 if (iE [p.net,p.tax]).2≠0 then .inl ([],(iE [p.net,p.tax]).2) else .inr (acc++[{ p with net:=(iE [p.net,p.tax]).1.getD 0 0,tax:=(iE [p.net,p.tax]).1.getD 1 0 }])
def bK (t:Total):Total×Int:=
 if (iE [t.net,t.tax,t.gross]).2≠0 then (Total.zero,(iE [t.net,t.tax,t.gross]).2) else
  if (aE dS (fun l=>(l,0)) t.parts []).2≠0 then (Total.zero,(aE dS (fun l=>(l,0)) t.parts []).2) else
   (⟨(iE [t.net,t.tax,t.gross]).1.getD 0 0,(iE [t.net,t.tax,t.gross]).1.getD 1 0,(iE [t.net,t.tax,t.gross]).1.getD 2 0,(aE dS (fun l=>(l,0)) t.parts []).1⟩,0)
structure Ref where
 ser:List UInt8
 num:Int
deriving DecidableEq
def Ref.enc (r:Ref):List V:=[.str r.ser,.int .i64 r.num]
def Ref.zero:Ref:=⟨[],0⟩
structure Posted where
 ref:Ref
 day:Date
 total:Total
 of:Ref
 back:Bool
deriving DecidableEq
def Posted.cells (p:Posted) (pv:V):List V:=[.str p.ref.ser,.int .i64 p.ref.num,.int .i64 p.day.y,.int .i64 p.day.m,.int .i64 p.day.d,.int .i64 p.total.net,.int .i64 p.total.tax,.int .i64 p.total.gross,pv,.str p.of.ser,.int .i64 p.of.num,.bool p.back]
theorem aYp {α β:Type} (f:α→β) (p:β→Bool) (l:List α):ixM (fun a=>p (f a)) l=ixM p (l.map f):=by
 have:∀ (l:List α) (n:Nat),aE (dO fun a=>p (f a)) (fun _=>(-1:Int)) l n=aE (dO p) (fun _=>-1) (l.map f) n:=by
  intro l
  induction l with
  | nil=>intro n;rfl
  | cons a l ih=>
   intro n
   simp only [aE,List.map_cons,dO]
   by_cases h:p (f a)=true
   ·simp only [h,if_true]
   ·simp only [h,if_false]
    exact ih (n+1)
 exact this l 0
def bC (l:List Posted) (r:Ref):Int:=ixM (fun p:Posted=>decide (p.ref=r)) l
theorem kH (l:List Posted) (r:Ref):bC l r=-1∨∃ (i:Nat) (s:Posted),bC l r=(i:Int)∧l[i]?=some s∧s.ref=r:=by
 rcases kX (fun p:Posted=>decide (p.ref=r)) l with h | ⟨i,s,h1,h2,h3⟩
 ·exact .inl h
 ·exact .inr ⟨i,s,h1,h2,by simpa using h3⟩
def dZ {α:Type} [DecidableEq α] (r:List α) (n:Nat) (a:α):Bool⊕Nat:=if r[n]?=some a then .inr (n+1) else .inl false
theorem eqL {α:Type} [DecidableEq α] {l r:List α} (h:l.length=r.length):aE (dZ r) (fun _=>true) l 0=decide (l=r):=by
 have:∀ (l t r:List α),l.length=(r.drop t.length).length→r.take t.length=t→aE (dZ r) (fun _=>true) l t.length=decide (l=r.drop t.length):=by
  intro l
  induction l with
  | nil=>
   intro t r h1 h2
   have:r.drop t.length=[]:=List.length_eq_zero_iff.1 h1.symm
   rw [this];rfl
  | cons a l ih=>
   intro t r h1 h2
   have hlt:t.length<r.length:=by rw [List.length_drop] at h1;simp only [List.length_cons] at h1;omega
   rw [List.drop_eq_getElem_cons hlt]
   simp only [aE,dZ,List.getElem?_eq_getElem hlt]
   by_cases c:r[t.length]=a
   ·have e1:(t++[a]).length=t.length+1:=by simp
    have:=ih (t++[a]) r (by rw [e1];rw [List.length_drop] at h1 ⊢;simp only [List.length_cons] at h1;omega) (by rw [e1,List.take_succ_eq_append_getElem hlt,h2,c])
    rw [e1] at this
    simp only [c,if_true]
    rw [this]
    by_cases d:l=r.drop (t.length+1)<;>simp [d]
   ·have c':¬ (some r[t.length]=some a):=fun e=>c (Option.some.inj e)
    simp only [c',if_false]
    rw [eq_comm,decide_eq_false_iff_not]
    intro e
    exact c (List.cons.inj e).1.symm
 have:=this l [] r (by simpa using h) rfl
 simpa using this
def blkOf:V→Option Nat
 | .sl a _ _ _ _=>some a
 | _=>none
def tO (t:Total):Bool:=
 if (cZ (t.parts.map (·.net))).2=true then (if (cZ (t.parts.map (·.tax))).2=true then (if (cZ [t.net,t.tax]).2=true then
  (if (cZ (t.parts.map (·.net))).1=t.net then (if (cZ (t.parts.map (·.tax))).1=t.tax then decide ((cZ [t.net,t.tax]).1=t.gross) else false) else false) else false) else false) else false
def aCa (st:List Int×List Int) (p:Part):(List Int×List Int)⊕(List Int×List Int):=.inr (st.1++[p.net],st.2++[p.tax])
theorem bJm:∀ (l:List Part) (a b:List Int),aE aCa id l (a,b)=(a++l.map (·.net),b++l.map (·.tax))
 | [],a,b=>by simp [aE]
 | p::l,a,b=>by simp only [aE,aCa];rw [bJm l];simp
def mV (prev:Option Part) (s:Part):Bool:=match prev with
 | none=>false
 | some p=>!fU p.cat s.cat
def yW (s:Part):Bool:=decide (s.bp<0)||decide (100000<s.bp)
def yX (s:Part):Bool:=!decide ((bG s.net s.bp).2=0)||!decide ((bG s.net s.bp).1=s.tax)
def fE (prev:Option Part) (s:Part):Bool⊕Option Part:=
 if dR s.cat=false then .inl false else if mV prev s=true then .inl false else if yW s=true then .inl false else if yX s=true then .inl false else .inr (some s)
def dI (t:Total):Bool:=if t.parts.length<1 then false else if 12<t.parts.length then false else aE fE (fun _=>tO t) t.parts none
def pE (p fr:Posted):Bool:=if fr.of=Ref.zero then (if p.day.before fr.day=false then (if (bK fr.total).2=0 then decide ((bK fr.total).1=p.total) else false) else false) else false
theorem aG7:∀ (l a:List Part) (r:List Part×Int),aE dS (fun l=>(l,0)) l a=r→r.1.length≤a.length+l.length
 | [],a,r,h=>by subst h;simp [aE]
 | x::l,a,r,h=>by
  simp only [aE] at h
  split at h
  ·rename_i r' he
   subst h
   unfold dS at he
   split at he
   ·cases he;simp
   ·cases he
  ·rename_i a' he
   unfold dS at he
   split at he
   ·cases he
   ·cases he
    have:=aG7 l _ r h
    simp only [List.length_append,List.length_cons,List.length_nil] at this ⊢
    omega
theorem aA9 (t:Total):(bK t).1.parts.length≤t.parts.length:=by
 unfold bK
 split
 ·simp [Total.zero]
 ·split
  ·simp [Total.zero]
  ·have:=aG7 t.parts [] _ rfl
   simpa using this
def bM (book:List Bal) (p:Posted):(List Bal×Int)⊕List Bal:=
 if (dG p.total).2≠0 then .inl ([],(dG p.total).2) else if (cC book (dG p.total).1).2≠0 then .inl ([],(cC book (dG p.total).1).2) else .inr (cC book (dG p.total).1).1
def cK (l:List Posted):List Bal×Int:=aE bM (fun b=>(b,0)) l []
theorem rU (book l:List Bal):(cC book l).1.length≤book.length+l.length:=by
 unfold cC
 split
 ·simp
 ·exact aDm l book _ rfl
theorem tP (t:Total):(dG t).1.length≤1+2*t.parts.length∨(dG t).2≠0:=by
 by_cases h:(dG t).2=0
 ·exact .inl (by have:=aK0 t.parts _ _ rfl h;simp only [List.length_cons,List.length_nil] at this;unfold dG;omega)
 ·exact .inr h
def aK2:List V:=[.str [],.int .i64 0,.int .i64 0,.int .i64 0,.int .i64 0,.int .i64 0,.int .i64 0,.int .i64 0,.nils,.str [],.int .i64 0,.bool false]
def Fit (p:Posted):Prop:=p.total.parts.length≤12∧∀ q∈p.total.parts,q.cat.length≤1000000
def bump (l:List Int) (k:Nat):List Int:=l.set k (l.getD k 0+1)
def gA (st:List Posted×List Int) (p:Posted):Bool⊕(List Posted×List Int):=
 if p.day.right=false then .inl false else if dI p.total=false then .inl false else if p.of=Ref.zero then .inr (st.1++[p],st.2) else
  if bC st.1 p.of<0 then .inl false else if pE p (st.1.getD (bC st.1 p.of).toNat ⟨Ref.zero,⟨0,0,0⟩,Total.zero,Ref.zero,false⟩)=false then .inl false else
   .inr (st.1++[p],bump st.2 (bC st.1 p.of).toNat)
def iF (bs:List Int) (p:Posted):Bool⊕List Int:=if 1<bs.headD 0 then .inl false else if p.back=decide (bs.headD 0=1) then .inr bs.tail else .inl false
def iX (l:List Posted):Bool:=if 40<l.length then false else aE gA (fun st=>aE iF (fun _=>true) l st.2) l ([],List.replicate 40 0)
theorem oR {t:Total} (h:dI t=true):t.parts.length≤12:=by
 unfold dI at h
 split at h
 ·cases h
 ·split at h
  ·cases h
  ·omega
theorem yY (l:List Int) (k:Nat) (h:k<l.length):l.getD k 0=l[k]:=by rw [List.getD_eq_getElem?_getD,List.getElem?_eq_getElem h];rfl
structure State where
 table:List Rate
 ser:List Ser
 posted:List Posted
 book:List Bal
 sess:List Sess
 next:Int
deriving DecidableEq
def lI (ser:List Ser) (is:List Int) (p:Posted):Bool⊕List Int:=
 if fC ser p.ref.ser<0 then .inl false else if p.ref.num=(bump is (fC ser p.ref.ser).toNat).getD (fC ser p.ref.ser).toNat 0 then .inr (bump is (fC ser p.ref.ser).toNat) else .inl false
def kI (is:List Int) (s:Ser):Bool⊕List Int:=if s.next=is.headD 0+1 then .inr is.tail else .inl false
def nM (ser:List Ser) (l:List Posted):Bool:=aE (lI ser) (fun is=>aE kI (fun _=>true) ser is) l (List.replicate 8 0)
theorem yZ (l:List Int) (k:Nat):(bump l k).length=l.length:=List.length_set ..
theorem aVq (l:List Int) (k:Nat) (h:k<l.length):(bump l k).getD k 0=l[k]+1:=by
 rw [List.getD_eq_getElem?_getD,bump,List.getElem?_set_self h,yY l k h];rfl
def aDn (l:List Sess) (next:Int):Bool:=match l[l.length - 1]? with
 | none=>true
 | some s=>decide (s.id<next)
def kY (s:State):Bool:=if gH s.sess=true then (if 1≤s.next then (if s.next≤1099511627776 then aDn s.sess s.next else false) else false) else false
theorem aDo {σ α:Type} {step:σ→α→Bool⊕σ} {fin:σ→Bool} (hs:∀ s a r,step s a=.inl r→r=false):∀ (l:List α) (s:σ),aE step fin l s=true→∀ a∈l,∃ s s',step s a=.inr s'
 | [],s,h,a,ha=>by cases ha
 | b::l,s,h,a,ha=>by
  simp only [aE] at h
  split at h
  ·rename_i r he
   have:=hs s b r he
   rw [this] at h;cases h
  ·rename_i s' he
   rcases List.mem_cons.1 ha with rfl | ha
   ·exact ⟨s,s',he⟩
   ·exact aDo hs l s' h a ha
theorem uU {s:List UInt8} (h:dR s=true):s.length≤24:=by
 unfold dR at h
 split at h
 ·cases h
 ·split at h
  ·cases h
  ·omega
theorem aI8 {t:Total} (h:dI t=true):∀ q∈t.parts,dR q.cat=true:=by
 unfold dI at h
 split at h
 ·cases h
 ·split at h
  ·cases h
  ·intro q hq
   obtain ⟨s,s',he⟩:=aDo (fun s a r hr=>by
    unfold fE at hr
    repeat' split at hr
    all_goals cases hr
    all_goals rfl) t.parts none h q hq
   unfold fE at he
   split at he
   ·cases he
   ·rename_i hn;simpa using hn
theorem aB3 {p:Posted} (h:dI p.total=true):Fit p:=⟨oR h,fun q hq=>by have:=uU (aI8 h q hq);omega⟩
theorem wW {l:List Posted} (h:iX l=true):l.length≤40∧∀ p∈l,p.day.right=true∧dI p.total=true:=by
 unfold iX at h
 split at h
 ·cases h
 ·refine ⟨by omega,fun p hp=>?_⟩
  obtain ⟨s,s',he⟩:=aDo (fun s a r hr=>by
   unfold gA at hr
   repeat' split at hr
   all_goals cases hr
   all_goals rfl) l _ h p hp
  unfold gA at he
  split at he
  ·cases he
  ·rename_i h1
   split at he
   ·cases he
   ·rename_i h2
    exact ⟨by simpa using h1,by simpa using h2⟩
def aV (s:State):Bool:=if gE s.table=false then false else if nZ s.ser=false then false else if kY s=false then false else if iX s.posted=false then false else
 if nM s.ser s.posted=false then false else if (cK s.posted).2=0 then decide ((cK s.posted).1=s.book) else false
theorem tQ:∀ (l:List Posted) (a:List Bal) (r:List Bal×Int),(∀ p∈l,p.total.parts.length≤12)→aE bM (fun b=>(b,0)) l a=r→r.1.length≤a.length+25*l.length
 | [],a,r,_,h=>by subst h;simp [aE]
 | p::l,a,r,hp,h=>by
  simp only [aE] at h
  split at h
  ·rename_i r' he
   subst h
   unfold bM at he
   repeat' split at he
   all_goals cases he
   all_goals simp
  ·rename_i a' he
   unfold bM at he
   split at he
   ·cases he
   ·rename_i h1
    split at he
    ·cases he
    ·cases he
     have h2:=(tP p.total).resolve_right h1
     have h3:=rU a (dG p.total).1
     have h4:=hp p (List.mem_cons_self ..)
     have:=tQ l _ r (fun q hq=>hp q (List.mem_cons_of_mem _ hq)) h
     simp only [List.length_cons]
     omega
def State.new:State:=⟨[],[],[],[],[],1⟩
structure Bnd (s:State):Prop where
 bt:s.table.length≤100000
 bs:s.ser.length≤100000
 bp:s.posted.length≤100000
 bb:s.book.length≤100000
 be:s.sess.length≤100000
 bq:∀ p∈s.posted,p.total.parts.length≤100000
def bDc:List UInt8:=[111,119,101,100]
def rV (g:Int) (b:Bal):Int⊕Int:=.inr (if (b.acc == bDc)=true then b.amount else g)
def aEz (s:State) (name:List UInt8):Rep:=if (lF s.ser name).2=false then ⟨11,0,0⟩ else ⟨0,wr .i64 ((lF s.ser name).1.next - 1),aE rV id s.book 0⟩
def why (e:Int):Rep:=⟨e,0,0⟩
def aR (s:State) (name:List UInt8) (p:Posted):State×Rep:=
 if (cO s.ser name).2.2≠0 then (s,why (cO s.ser name).2.2) else if 40≤s.posted.length then (s,why 14) else
  if (dG p.total).2≠0 then (s,why (dG p.total).2) else if (cC s.book (dG p.total).1).2≠0 then (s,why (cC s.book (dG p.total).1).2) else
   ({ s with ser:=(cO s.ser name).1,book:=(cC s.book (dG p.total).1).1,posted:=s.posted++[{ p with ref:=⟨name,(cO s.ser name).2.1⟩ }] },⟨0,(cO s.ser name).2.1,p.total.gross⟩)
theorem aRd {P:List UInt8→Prop} {l:List Part} {cat:List UInt8} {bp n:Int} (h:∀ p∈l,P p.cat) (hc:P cat):∀ p∈(sP l cat bp n).1,P p.cat:=by
 have hroom:∀ p∈dE l cat bp,P p.cat:=by
  unfold dE
  split
  ·intro p hp
   rcases List.mem_append.1 hp with hp | hp
   ·exact h p (List.mem_of_mem_take hp)
   ·rcases List.mem_cons.1 hp with rfl | hp
    ·exact hc
    ·exact h p (List.mem_of_mem_drop hp)
  ·exact h
 unfold sP
 split
 ·intro p hp;cases hp
 ·rename_i q hq
  intro p hp
  rcases List.mem_or_eq_of_mem_set hp with hp | rfl
  ·exact hroom p hp
  ·exact hroom q (List.mem_of_getElem? hq)
theorem aB4:∀ (l:List Part) (st:Int×Int×List Part) (r:Total×Int),aE gD lU l st=r→r.2=0→r.1.parts.map (·.cat)=st.2.2.map (·.cat)++l.map (·.cat)
 | [],st,r,h,h0=>by
  subst h
  simp only [aE,lU] at h0 ⊢
  split at h0
  ·rename_i hc;exact absurd h0 hc
  ·rename_i hc;rw [if_neg hc];simp
 | p::l,st,r,h,h0=>by
  simp only [aE] at h
  split at h
  ·rename_i r' he
   unfold gD at he
   split at he
   ·cases he;subst h;cases h0
   ·cases he
  ·rename_i st' he
   unfold gD at he
   split at he
   ·cases he
   ·cases he
    rw [aB4 l _ r h h0]
    simp
theorem aG8 {tab:List Rate} {d:Date}:∀ (l:List Line) (parts:List Part) (r:Total×Int),(∀ p∈parts,dR p.cat=true)→aE (iW tab d) eO l parts=r→r.2=0→(∀ p∈r.1.parts,dR p.cat=true)∧r.1.parts.length≤parts.length+l.length
 | [],parts,r,hp,h,h0=>by
  subst h
  simp only [aE] at h0 ⊢
  have:=aB4 parts (0,0,[]) _ rfl h0
  simp only [List.map_nil,List.nil_append] at this
  refine ⟨fun p hpm=>?_,?_⟩
  ·have hm:p.cat∈parts.map (·.cat):=by rw [←this];exact List.mem_map_of_mem hpm
   obtain ⟨q,hq,e⟩:=List.mem_map.1 hm
   rw [←e];exact hp q hq
  ·have hl:=congrArg List.length this
   rw [List.length_map,List.length_map] at hl
   exact Nat.le_of_eq hl
 | x::l,parts,r,hp,h,h0=>by
  simp only [aE] at h
  split at h
  ·rename_i r' he
   unfold iW at he
   split at he
   ·rename_i hc;cases he;subst h;exact absurd h0 hc
   ·split at he
    ·rename_i hc;cases he;subst h;exact absurd h0 hc
    ·cases he
  ·rename_i s' he
   unfold iW at he
   split at he
   ·cases he
   ·rename_i hc
    split at he
    ·cases he
    ·cases he
     have hn:dR x.cat=true:=by
      have hc0:(fD tab d x).2.2=0:=by omega
      unfold fD at hc0
      split at hc0
      ·cases hc0
      ·split at hc0
       ·cases hc0
       ·rename_i hh;simpa using hh
     have h1:=aK1 parts x.cat (fD tab d x).1 (fD tab d x).2.1
     obtain ⟨h2,h3⟩:=aG8 l _ r (aRd (P:=fun c=>dR c=true) hp hn) h h0
     refine ⟨h2,?_⟩
     simp only [List.length_cons]
     omega
theorem xA {tab:List Rate} {d:Date} {l:List Line} (h:(dB tab d l).2=0):(dB tab d l).1.parts.length≤12∧∀ q∈(dB tab d l).1.parts,q.cat.length≤1000000:=by
 unfold dB at h ⊢
 split at h
 ·cases h
 ·rename_i c1
  rw [if_neg c1]
  split at h
  ·cases h
  ·rename_i c2
   rw [if_neg c2]
   split at h
   ·cases h
   ·rename_i c3
    rw [if_neg c3]
    split at h
    ·cases h
    ·rename_i c4
     rw [if_neg c4]
     obtain ⟨h1,h2⟩:=aG8 l [] _ (fun _ h=>by cases h) rfl h
     refine ⟨by simp only [List.length_nil] at h2;omega,fun q hq=>by have:=uU (h1 q hq);omega⟩
theorem aDp:∀ (l a:List Part) (r:List Part×Int),aE dS (fun l=>(l,0)) l a=r→r.2=0→r.1.map (·.cat)=a.map (·.cat)++l.map (·.cat)
 | [],a,r,h,h0=>by subst h;simp [aE]
 | x::l,a,r,h,h0=>by
  simp only [aE] at h
  split at h
  ·rename_i r' he
   subst h
   unfold dS at he
   split at he
   ·rename_i hc;cases he;exact absurd h0 hc
   ·cases he
  ·rename_i a' he
   unfold dS at he
   split at he
   ·cases he
   ·cases he
    rw [aDp l _ r h h0]
    simp
theorem aMq (t:Total) (h:(bK t).2=0):(bK t).1.parts.map (·.cat)=t.parts.map (·.cat):=by
 unfold bK at h ⊢
 split at h
 ·rename_i c;exact absurd h c
 ·rename_i c
  rw [if_neg c]
  split at h
  ·rename_i c2;exact absurd h c2
  ·rename_i c2
   rw [if_neg c2]
   have:=aDp t.parts [] _ rfl (by omega)
   simpa using this
theorem aRe {p:Posted} (hf:Fit p) (h:(bK p.total).2=0):(bK p.total).1.parts.length≤12∧∀ q∈(bK p.total).1.parts,q.cat.length≤1000000:=by
 have:=aMq p.total h
 refine ⟨by have:=aA9 p.total;have:=hf.1;omega,fun q hq=>?_⟩
 have hm:q.cat∈p.total.parts.map (·.cat):=by rw [←this];exact List.mem_map_of_mem hq
 obtain ⟨q',hq',e⟩:=List.mem_map.1 hm
 rw [←e];exact hf.2 q' hq'
structure Cmd where
 kind:Int
 series:List UInt8
 limit:Int
 row:Rate
 day:Date
 lines:List Line
 of:Ref
 session:Int
def lV (s:State) (c:Cmd):State×Rep:=
 if (dB s.table c.day c.lines).2≠0 then (s,why (dB s.table c.day c.lines).2) else aR s c.series ⟨Ref.zero,c.day,(dB s.table c.day c.lines).1,Ref.zero,false⟩
def Posted.zero:Posted:=⟨Ref.zero,⟨0,0,0⟩,Total.zero,Ref.zero,false⟩
def cE (l:List Posted) (k:Nat):List Posted:=match l[k]? with
 | none=>l
 | some p=>l.set k { p with back:=true }
def fF (s:State) (c:Cmd) (k:Nat) (p:Posted):State×Rep:=
 if p.back=true then (s,why 12) else if p.of=Ref.zero then
  (if c.day.right=false then (s,why 9) else if c.day.before p.day=true then (s,why 9) else if (bK p.total).2≠0 then (s,why (bK p.total).2) else
   if (aR s c.series ⟨Ref.zero,c.day,(bK p.total).1,c.of,false⟩).2.why=0 then
    ({ (aR s c.series ⟨Ref.zero,c.day,(bK p.total).1,c.of,false⟩).1 with posted:=cE (aR s c.series ⟨Ref.zero,c.day,(bK p.total).1,c.of,false⟩).1.posted k },(aR s c.series ⟨Ref.zero,c.day,(bK p.total).1,c.of,false⟩).2)
   else aR s c.series ⟨Ref.zero,c.day,(bK p.total).1,c.of,false⟩) else (s,why 12)
def eC (s:State) (c:Cmd):State×Rep:=
 if bC s.posted c.of<0 then (s,why 11) else fF s c (bC s.posted c.of).toNat (s.posted.getD (bC s.posted c.of).toNat Posted.zero)
theorem aI9 (s:State) (name:List UInt8) (p:Posted):∃ l,(aR s name p).1.posted=s.posted++l:=by
 unfold aR
 repeat' split
 all_goals first | exact ⟨[],(List.append_nil _).symm⟩ | exact ⟨_,rfl⟩
def gJ (s:State) (r:List Ser×Int):State×Rep:=if r.2=0 then ({ s with ser:=r.1 },why r.2) else (s,why r.2)
def lJ (s:State) (r:List Rate×Int):State×Rep:=if r.2=0 then ({ s with table:=r.1 },why r.2) else (s,why r.2)
def iT (s:State) (r:List Sess×Int):State×Rep:=if r.2=0 then ({ s with sess:=r.1 },why r.2) else (s,why r.2)
def sS (s:State) (c:Cmd):State×Rep:=
 if c.kind=1 then gJ s (eS s.ser c.series c.limit) else if c.kind=2 then gJ s (pV s.ser c.series) else if c.kind=3 then lJ s (iD s.table c.row) else
  if c.kind=4 then lV s c else if c.kind=5 then eC s c else if c.kind=7 then iT s (gG s.sess c.session) else (s,aEz s c.series)
def eT (s:State):State×Rep:=
 if 8≤s.sess.length∨1099511627776≤s.next then (s,why 14) else if (mF s.sess s.next).2≠0 then (s,why (mF s.sess s.next).2) else
  ({ s with sess:=(mF s.sess s.next).1,next:=wr .i64 (s.next+1) },⟨0,s.next,0⟩)
structure Call where
 session:Int
 seq:Int
 cmd:Cmd
def iG (r:State×Rep) (c:Call):State×Rep:=if (kN r.1.sess c.session c.seq r.2).2=0 then ({ r.1 with sess:=(kN r.1.sess c.session c.seq r.2).1 },r.2) else r
def eP (s:State) (c:Call):State×Rep:=
 if aV s=false then (s,why 1) else if c.cmd.kind<1∨8<c.cmd.kind then (s,why 17) else if c.cmd.kind=6 then eT s else
  if (cD s.sess c.session c.seq).2.2≠0 then (s,why (cD s.sess c.session c.seq).2.2) else if (cD s.sess c.session c.seq).2.1=true then (s,(cD s.sess c.session c.seq).1) else iG (sS s c.cmd) c
theorem aF0 {s:State} (h:aV s=true):iX s.posted=true:=by
 unfold aV at h
 repeat' split at h
 all_goals first | cases h | skip
 rename_i h4 _ _
 simpa using h4
structure Sml (s:State):Prop where
 st:s.table.length≤1000
 ss:s.ser.length≤1000
 sp:s.posted.length≤1000
 sb:s.book.length≤10000
 se:s.sess.length≤1000
 sq:∀ p∈s.posted,p.total.parts.length≤1000
theorem Sml.bnd {s:State} (h:Sml s):Bnd s:=⟨by have:=h.st;omega,by have:=h.ss;omega,by have:=h.sp;omega,by have:=h.sb;omega,by have:=h.se;omega,fun p hp=>by have:=h.sq p hp;omega⟩
theorem Sml.new:Sml State.new:=⟨by decide,by decide,by decide,by decide,by decide,fun p hp=>by cases hp⟩
theorem oS {s:State} (h:aV s=true):s.table.length≤24∧s.ser.length≤8∧s.sess.length≤8∧s.posted.length≤40∧s.book.length≤1000∧(∀ p∈s.posted,p.total.parts.length≤12)∧s.book=(cK s.posted).1:=by
 unfold aV at h
 split at h
 ·cases h
 ·rename_i h1
  split at h
  ·cases h
  ·rename_i h2
   split at h
   ·cases h
   ·rename_i h3
    split at h
    ·cases h
    ·rename_i h4
     split at h
     ·cases h
     ·split at h
      ·have hb:=of_decide_eq_true h
       have h4':iX s.posted=true:=by simpa using h4
       obtain ⟨p1,p2⟩:=wW h4'
       have hparts:∀ p∈s.posted,p.total.parts.length≤12:=fun p hp=>oR (p2 p hp).2
       have hl:=tQ s.posted [] (cK s.posted) hparts rfl
       have hs:gH s.sess=true:=by
        unfold kY at h3
        by_cases c:gH s.sess=true
        ·exact c
        ·rw [if_neg c] at h3;exact absurd rfl h3
       refine ⟨wV (by simpa using h1),pU (by simpa using h2),mU hs,p1,?_,hparts,hb.symm⟩
       rw [←hb]
       simp only [List.length_nil] at hl
       omega
      ·cases h
theorem aDq {s:State} (h:Sml s) (h1:s.ser.length≤8) (h2:s.posted.length≤40) (h3:s.book.length≤1000) (name:List UInt8) (p:Posted) (hp:p.total.parts.length≤12):Sml (aR s name p).1:=by
 unfold aR
 split
 ·exact h
 ·split
  ·exact h
  ·split
   ·exact h
   ·rename_i c3
    split
    ·exact h
    ·refine ⟨h.st,?_,?_,?_,h.se,?_⟩
     ·show (cO s.ser name).1.length≤1000
      unfold cO
      repeat' split
      all_goals simp
      omega
     ·show (s.posted++_).length≤1000
      simp only [List.length_append,List.length_cons,List.length_nil];omega
     ·show (cC s.book (dG p.total).1).1.length≤10000
      have:=rU s.book (dG p.total).1
      have:=(tP p.total).resolve_right c3
      omega
     ·intro q hq
      rcases List.mem_append.1 hq with hq | hq
      ·exact h.sq q hq
      ·rw [List.mem_singleton.1 hq]
       show p.total.parts.length≤1000
       omega
theorem aK3 (l:List Posted) (k:Nat) (h:∀ p∈l,p.total.parts.length≤1000):(cE l k).length=l.length∧∀ p∈cE l k,p.total.parts.length≤1000:=by
 unfold cE
 split
 ·exact ⟨rfl,h⟩
 ·rename_i p hp
  refine ⟨List.length_set ..,fun q hq=>?_⟩
  rcases List.mem_or_eq_of_mem_set hq with hq | rfl
  ·exact h q hq
  ·exact h p (List.mem_of_getElem? hp)
theorem pX {α:Type} (l:List α) (i:Nat) (a:α):(fL l i a).length≤l.length+1:=by
 simp only [fL,List.length_append,List.length_cons,List.length_take,List.length_drop];omega
theorem aYq {s:State} (h:Sml s) (hr:aV s=true) (c:Cmd):Sml (sS s c).1:=by
 obtain ⟨r1,r2,r3,r4,r5,r6,_⟩:=oS hr
 unfold sS
 split
 ·unfold gJ
  split
  ·refine ⟨h.st,?_,h.sp,h.sb,h.se,h.sq⟩
   show (eS s.ser c.series c.limit).1.length≤1000
   unfold eS
   repeat' split
   all_goals first | (simp;done) | (refine Nat.le_trans (pX _ _ _) ?_;omega)
  ·exact h
 ·split
  ·unfold gJ
   split
   ·refine ⟨h.st,?_,h.sp,h.sb,h.se,h.sq⟩
    show (pV s.ser c.series).1.length≤1000
    unfold pV
    repeat' split
    all_goals simp
    omega
   ·exact h
  ·split
   ·unfold lJ
    split
    ·refine ⟨?_,h.ss,h.sp,h.sb,h.se,h.sq⟩
     show (iD s.table c.row).1.length≤1000
     unfold iD
     repeat' split
     all_goals first | (simp;done) | (refine Nat.le_trans (pX _ _ _) ?_;omega)
    ·exact h
   ·split
    ·unfold lV
     split
     ·exact h
     ·rename_i c1
      exact aDq h r2 r4 r5 _ _ (xA (by omega)).1
    ·split
     ·unfold eC
      split
      ·exact h
      ·rename_i c1
       unfold fF
       split
       ·exact h
       ·split
        ·split
         ·exact h
         ·split
          ·exact h
          ·split
           ·exact h
           ·rename_i c4
            have hpar:(s.posted.getD (bC s.posted c.of).toNat Posted.zero).total.parts.length≤12:=by
             rw [List.getD_eq_getElem?_getD]
             cases hg:s.posted[(bC s.posted c.of).toNat]? with
             | none=>exact Nat.zero_le _
             | some p=>exact r6 p (List.mem_of_getElem? hg)
            have hbl:=aA9 (s.posted.getD (bC s.posted c.of).toNat Posted.zero).total
            have hi:=aDq h r2 r4 r5 c.series ⟨Ref.zero,c.day,(bK (s.posted.getD (bC s.posted c.of).toNat Posted.zero).total).1,c.of,false⟩ (Nat.le_trans hbl hpar)
            split
            ·obtain ⟨e1,e2⟩:=aK3 _ (bC s.posted c.of).toNat hi.sq
             exact ⟨hi.st,hi.ss,by rw [e1];exact hi.sp,hi.sb,hi.se,e2⟩
            ·exact hi
        ·exact h
     ·split
      ·unfold iT
       split
       ·refine ⟨h.st,h.ss,h.sp,h.sb,?_,h.sq⟩
        show (gG s.sess c.session).1.length≤1000
        unfold gG
        repeat' split
        all_goals first | (simp;done) | (simp only [wU,List.length_append,List.length_take,List.length_drop];omega)
       ·exact h
      ·exact h
theorem aRf (l:List Sess) (id seq:Int) (r:Rep):(kN l id seq r).1.length≤l.length:=by
 unfold kN
 repeat' split
 all_goals simp
theorem aMr {s:State} (h:Sml s) (c:Call):Sml (eP s c).1:=by
 unfold eP
 split
 ·exact h
 ·rename_i hr
  have hr:aV s=true:=by simpa using hr
  split
  ·exact h
  ·split
   ·unfold eT
    split
    ·exact h
    ·split
     ·exact h
     ·obtain ⟨_,_,r3,_⟩:=oS hr
      refine ⟨h.st,h.ss,h.sp,h.sb,?_,h.sq⟩
      show (mF s.sess s.next).1.length≤1000
      unfold mF
      repeat' split
      all_goals first | (simp;done) | (refine Nat.le_trans (pX _ _ _) ?_;omega)
   ·split
    ·exact h
    ·split
     ·exact h
     ·have hd:=aYq h hr c.cmd
      unfold iG
      split
      ·exact ⟨hd.st,hd.ss,hd.sp,hd.sb,by have:=aRf (sS s c.cmd).1.sess c.session c.seq (sS s c.cmd).2;have:=hd.se;show (kN _ _ _ _).1.length≤1000;omega,hd.sq⟩
      ·exact hd
def rW (c:Call):Call:={ c with cmd:={ c.cmd with lines:=c.cmd.lines.take 15 } }
def lW (l:List Call) (n:Nat):List Call:=(l.take n).map rW
def bJn:List V:=[.int .i64 0,.int .i64 0,.int .i64 0,.str [],.int .i64 0,.str [],.int .i64 0,.int .i64 0,.int .i64 0,.int .i64 0,.int .i64 0,.int .i64 0,.int .i64 0,.nils,.str [],.int .i64 0,.int .i64 0]
def iU (st:State×List Rep) (c:Call):State×List Rep:=((eP st.1 c).1,st.2++[(eP st.1 c).2])
def playM (s:State) (l:List Call):State×List Rep:=l.foldl iU (s,[])
def aP7 (st:State×List Rep) (c:Call):(State×List Rep)⊕(State×List Rep):=.inr (iU st c)
theorem aG9:∀ (l:List Call) (st:State×List Rep),aE aP7 id l st=l.foldl iU st
 | [],st=>rfl
 | c::l,st=>by simp only [aE,aP7,List.foldl_cons];exact aG9 l _
theorem aRg (l:List Call):∀ (s:State) (a:List Rep),(l.foldl iU (s,a)).2.length=a.length+l.length:=by
 induction l with
 | nil=>intro s a;rfl
 | cons c l ih=>intro s a;simp only [List.foldl_cons,iU,List.length_cons];rw [ih];simp;omega
theorem zA (l:List Call) (n:Nat):(lW l n).length≤n:=by simp only [lW,List.length_map,List.length_take];omega
end Go.Proofs.YtoaibmbldmckaaaGreat
end
section
namespace Go.AM
def tR {α:Type} (a:α):Option (List α)→Option (List α)
 | some l=>some (a::l)
 | none=>none
def zC:List V→Nat→Option (List V)
 | _,0=>some []
 | [],_+1=>none
 | a::l,n+1=>tR a (zC l n)
def tS:List V→Nat→List V→Option (List V)
 | cs,0,[]=>some cs
 | [],0,_::_=>none
 | _::cs,0,x::xs=>tR x (tS cs 0 xs)
 | [],_+1,_=>none
 | c::cs,j+1,xs=>tR c (tS cs j xs)
def tU:List V→Nat→Bool
 | [],0=>true
 | _::l,n+1=>tU l n
 | _,_=>false
def aIa {α:Type}:List α→Nat→α→Option (List α)
 | [],_,_=>none
 | _::l,0,x=>some (x::l)
 | a::l,i+1,x=>tR a (aIa l i x)
theorem aK4:∀ (l:List V) (n:Nat),zC l n=if n≤l.length then some (l.take n) else none
 | l,0=>by cases l<;>simp [zC]
 | [],n+1=>by simp [zC]
 | a::l,n+1=>by
  simp only [zC,aK4 l n,List.length_cons,Nat.add_le_add_iff_right,List.take_succ_cons]
  split<;>rfl
theorem zD:∀ (cs:List V) (j:Nat) (xs:List V),tS cs j xs=if j+xs.length≤cs.length then some (splice cs j xs) else none
 | cs,0,[]=>by cases cs<;>simp [tS,splice]
 | [],0,x::xs=>by simp [tS]
 | c::cs,0,x::xs=>by
  have h:=zD cs 0 xs
  simp only [tS,h,List.length_cons,splice,List.take_zero,List.nil_append,Nat.zero_add]
  by_cases c1:xs.length≤cs.length
  ·rw [if_pos c1,if_pos (by omega)];simp [tR]
  ·rw [if_neg c1,if_neg (by omega)];rfl
 | [],j+1,xs=>by simp [tS]
 | c::cs,j+1,xs=>by
  have h:=zD cs j xs
  simp only [tS,h,List.length_cons,splice]
  by_cases c1:j+xs.length≤cs.length
  ·rw [if_pos c1,if_pos (by omega)]
   simp only [tR,List.take_succ_cons,List.cons_append,show j+1+xs.length=(j+xs.length)+1 by omega,List.drop_succ_cons]
  ·rw [if_neg c1,if_neg (by omega)];rfl
theorem zF:∀ (l:List V) (n:Nat),tU l n=decide (l.length=n)
 | [],0=>rfl
 | [],n+1=>by simp [tU]
 | a::l,0=>by simp [tU]
 | a::l,n+1=>by simp [tU,zF l n]
theorem aP8 {α:Type}:∀ (l:List α) (i:Nat) (x:α),aIa l i x=if i<l.length then some (l.set i x) else none
 | [],i,x=>by simp [aIa]
 | a::l,0,x=>by simp [aIa]
 | a::l,i+1,x=>by
  simp only [aIa,aP8 l i x,List.length_cons,Nat.add_lt_add_iff_right,List.set_cons_succ]
  split<;>rfl
theorem pt2 (n:Nat) (cs:List V) (j:Nat):gW (some (n+1)) cs j=(match zC (cs.drop j) (n+1) with
  | some l=>.ok (.agg l)
  | none=>.error "part"):=by
 simp only [gW,aK4,List.length_drop]
 by_cases c:j+(n+1)≤cs.length
 ·rw [if_pos c,if_pos (by omega)]
 ·rw [if_neg c,if_neg (by omega)]
theorem oV (n a ver i j:Nat) (x:V) (S:St):eH n (.ptr a ver i j) x S=(match aC S a ver with
  | .error e=>.error e
  | .ok (es,elems)=>match elems[i]? with
   | some cs=>(match tU x.cells n&&aF x.cells with
    | true=>(match tS cs j x.cells with
     | some cs'=>.ok ⟨S.next,S.heap.put a (.row ver es (elems.set i cs'))⟩
     | none=>.error "store: the size")
    | false=>.error "store: the size")
   | none=>.error "store"):=by
 simp only [eH,zD,zF]
 cases aC S a ver with
 | error e=>rfl
 | ok r=>
  obtain ⟨es,elems⟩:=r
  simp only
  cases elems[i]? with
  | none=>rfl
  | some cs=>
   simp only
   by_cases c1:x.cells.length=n
   ·cases c2:aF x.cells
    ·simp [c1]
    ·by_cases c3:j+x.cells.length≤cs.length
     ·rw [if_pos ⟨c1,rfl,c3⟩];simp [c1];simp [←c1,c3]
     ·rw [if_neg (fun h=>c3 h.2.2)];simp [c1];simp [←c1,c3]
   ·rw [if_neg (fun h=>c1 h.1)];simp [c1]
theorem bw0 (z:List V) (pl:List (Nat×Nat)):wN z pl []=.ok (.agg z):=rfl
theorem bw1 (z:List V) (pl:List (Nat×Nat)) (i:Nat) (v:V) (rest:List (Nat×V)):wN z pl ((i,v)::rest)=(match pl[i]? with
  | none=>.error "fill"
  | some (off,size)=>(match tU v.cells size&&aF v.cells with
   | true=>(match tS z off v.cells with
    | some z'=>wN z' pl rest
    | none=>.error "fill")
   | false=>.error "fill")):=by
 simp only [wN,sV]
 cases pl[i]? with
 | none=>rfl
 | some p=>
  obtain ⟨off,size⟩:=p
  simp only [zD,zF,cond_eq_ite]
  by_cases c1:v.cells.length=size
  ·cases c2:aF v.cells
   ·simp [c1]
   ·by_cases c3:off+v.cells.length≤z.length
    ·have h1:Nat.beq v.cells.length size=true:=by simpa using c1
     have h2:Nat.ble (off+v.cells.length) z.length=true:=Nat.ble_eq_true_of_le c3
     simp [h1,h2,c1]
     simp [←c1,c3]
    ·have h2:Nat.ble (off+v.cells.length) z.length=false:=by
      cases h:Nat.ble (off+v.cells.length) z.length with
      | false=>rfl
      | true=>exact absurd (Nat.le_of_ble_eq_true h) c3
     simp [h2,c1]
     simp [←c1,c3]
  ·have h1:Nat.beq v.cells.length size=false:=by
    cases h:Nat.beq v.cells.length size with
    | false=>rfl
    | true=>exact absurd (Nat.eq_of_beq_eq_true h) c1
   simp [h1,c1]
theorem lv1 (es:Nat) (elems:List (List V)) (i:Nat) (v:V) (rest:List (Nat×V)):zS es elems ((i,v)::rest)=(match tU v.cells es&&aF v.cells with
  | true=>(match aIa elems i v.cells with
   | some e=>zS es e rest
   | none=>.error "buildSlice")
  | false=>.error "buildSlice"):=by
 simp only [zS,aP8,zF,cond_eq_ite]
 by_cases c1:v.cells.length=es
 ·have h1:Nat.beq v.cells.length es=true:=by simpa using c1
  cases c2:aF v.cells
  ·simp [c1]
  ·by_cases c3:i<elems.length
   ·have h2:Nat.blt i elems.length=true:=by simpa using c3
    simp [h1,h2,c1,c3]
   ·have h2:Nat.blt i elems.length=false:=by
     cases h:Nat.blt i elems.length with
     | false=>rfl
     | true=>exact absurd (by simpa using h) c3
    simp [h2,c1,c3]
 ·have h1:Nat.beq v.cells.length es=false:=by
   cases h:Nat.beq v.cells.length es with
   | false=>rfl
   | true=>exact absurd (Nat.eq_of_beq_eq_true h) c1
  simp [h1,c1]
theorem bDd:(∀ {α:Type} (a:α) (l:List α),tR a (some l)=some (a::l))∧(∀ l:List V,zC l 0=some [])∧(∀ (a:V) (l:List V) (n:Nat),zC (a::l) (n+1)=tR a (zC l n)) ∧
  (∀ cs:List V,tS cs 0 []=some cs)∧(∀ (c x:V) (cs xs:List V),tS (c::cs) 0 (x::xs)=tR x (tS cs 0 xs))∧(∀ (c:V) (cs:List V) (j:Nat) (xs:List V),tS (c::cs) (j+1) xs=tR c (tS cs j xs)) ∧
  tU [] 0=true∧(∀ (a:V) (l:List V) (n:Nat),tU (a::l) (n+1)=tU l n)∧(∀ {α:Type} (a:α) (l:List α) (x:α),aIa (a::l) 0 x=some (x::l))∧(∀ {α:Type} (a:α) (l:List α) (i:Nat) (x:α),aIa (a::l) (i+1) x=tR a (aIa l i x)) ∧
  type_of% pt2∧(∀ (n a j:Nat) (x:V) (S:St),type_of% (oV n a 0 0 j x S))∧type_of% bw0∧type_of% bw1∧type_of% lv1∧(∀ (es:Nat) (l:List (List V)),zS es l []=.ok l):=
 ⟨fun _ _=>rfl,fun l=>by cases l<;>rfl,fun _ _ _=>rfl,fun cs=>by cases cs<;>rfl,fun _ _ _ _=>rfl,fun _ _ _ _=>by simp only [tS],rfl,fun _ _ _=>rfl,fun _ _ _=>rfl,fun _ _ _ _=>rfl,pt2,fun n a j x S=>oV n a 0 0 j x S,bw0,bw1,lv1,fun _ _=>rfl⟩
section
section
variable {P:Program}
theorem aYr (b:Bool) (x y:Prop):bX (.bool b) x y=if b=true then x else y:=by cases b<;>rfl
theorem ldP (k:Option Nat) (a ver i j:Nat) (S:St):gX k (.ptr a ver i j) S=(match aC S a ver with
  | .error e=>.error e
  | .ok (_,elems)=>match elems[i]? with
   | some cs=>gW k cs j
   | none=>.error "load"):=rfl
theorem ptN (cs:List V) (j:Nat):gW none cs j=(match cs[j]? with
  | some v=>.ok v
  | none=>.error "part"):=rfl
theorem grS (n:Nat) (h:Tr Blk) (a ver es:Nat) (el:List (List V)):aC ⟨n,h.put a (.row ver es el)⟩ a ver=.ok (es,el):=aA ..
theorem eG {c a:Nat} (hc:c≠a) (n:Nat) (h:Tr Blk) (ver:Nat) (b:Blk):aC ⟨n,h.put a b⟩ c ver=aC ⟨n,h⟩ c ver:=cM n n h a c ver b hc
theorem nb0 (S:St) (b:Blk):bB none S b=.ok (S.next,⟨S.next+1,S.heap.put S.next b⟩):=fJ S b
theorem nb1 (k:Nat) (S:St) (b:Blk):bB (some k) S b=.ok (k,⟨S.next,S.heap.put k b⟩):=uK k S b
theorem stP (n a ver i j:Nat) (x:V) (S:St):eH n (.ptr a ver i j) x S=(match aC S a ver with
  | .error e=>.error e
  | .ok (es,elems)=>match elems[i]? with
   | some cs=>if x.cells.length=n∧aF x.cells=true∧j+x.cells.length≤cs.length then .ok ⟨S.next,S.heap.put a (.row ver es (elems.set i (splice cs j x.cells)))⟩ else .error "store: the size"
   | none=>.error "store"):=rfl
theorem ixI {α:Type} {l:List α} {enc:α→List V} {i:Nat} {a:α} {n:Nat} (hi:l[i]?=some a) (hn:(enc a).length=n) (k:IntKind):fI n (.imm (l.map enc)) (.int k (i:Int))=.ok (.iptr (enc a) 0):=by
 have hil:=(List.getElem?_eq_some_iff.1 hi).1
 have hx:(l.map enc)[i]?=some (enc a):=by rw [List.getElem?_map,hi];rfl
 simp only [fI,List.length_map,fX hil,hx]
 simp only [hn,if_true]
theorem okI {α:Type} (a b:α):((Except.ok a:R α)=.ok b)=(a=b):=by simp
end
theorem kit:(∀ {α:Type} (a:α) (K:α→Prop),wR (.ok a) K=K a)∧(∀ {α:Type} (a:α) (K:α→Prop),wO (some a) K=K a)∧(∀ x:Prop,yO true x=x)∧(∀ (b:Bool) (x y:Prop),bX (.bool b) x y=if b=true then x else y) ∧
  (∀ (v:V) (r:List V) (K:V→List V→Prop),wUn (v::r) K=K v r)∧(∀ (vs:List V) (i:Nat) (K:V→Prop),lQ (.tup vs) i K=wO vs[i]? K)∧(∀ (a b c d:Nat) (x:Prop),aA5 (.ptr a b c d) x=x)∧(∀ (a:List V) (b:Nat) (x:Prop),aA5 (.iptr a b) x=x) ∧
  (∀ b:Bool,unV .not (.bool b)=.ok (.bool !b))∧(∀ v:V,eV v v=true):=
 ⟨fun _ _=>rfl,fun _ _=>rfl,fun _=>rfl,aYr,fun _ _ _=>rfl,fun _ _ _=>rfl,fun _ _ _ _ _=>rfl,fun _ _ _=>rfl,fun _=>rfl,uO⟩
theorem bJo (P:Program):(∀ (t:TypeId) (k:IntKind) (a b:Int),bQ P .add t (.int k a) (.int k b)=.ok (.int k (wr k (a+b))))∧(∀ (t:TypeId) (k:IntKind) (a b:Int),bQ P .sub t (.int k a) (.int k b)=.ok (.int k (wr k (a - b)))) ∧
  (∀ (t:TypeId) (k:IntKind) (a b:Int),bQ P .mul t (.int k a) (.int k b)=.ok (.int k (wr k (a*b))))∧(∀ (t:TypeId) (k:IntKind) (a b:Int),bQ P .lss t (.int k a) (.int k b)=.ok (.bool (decide (a<b)))) ∧
  (∀ (t:TypeId) (k:IntKind) (a b:Int),bQ P .leq t (.int k a) (.int k b)=.ok (.bool (decide (a≤b))))∧(∀ (t:TypeId) (k:IntKind) (a b:Int),bQ P .gtr t (.int k a) (.int k b)=.ok (.bool (decide (b<a)))) ∧
  (∀ (t:TypeId) (k:IntKind) (a b:Int),bQ P .geq t (.int k a) (.int k b)=.ok (.bool (decide (b≤a))))∧(∀ (t:TypeId) (k:IntKind) (a b:Int),bQ P .eql t (.int k a) (.int k b)=.ok (.bool (decide (a=b)))) ∧
  (∀ (t:TypeId) (k:IntKind) (a b:Int),bQ P .neq t (.int k a) (.int k b)=.ok (.bool (!decide (a=b)))) ∧
  (∀ (t:TypeId) (j k:IntKind) (a b:Int),bP P t (.int j a) (.int k b)=true)∧(∀ (t:TypeId) (x y:List UInt8),bP P t (.str x) (.str y)=true)∧(∀ (t:TypeId) (x y:Bool),bP P t (.bool x) (.bool y)=true) ∧
  (∀ (t:TypeId) (x y:List UInt8),bQ P .eql t (.str x) (.str y)=.ok (.bool (x == y)))∧(∀ (t:TypeId) (x y:List UInt8),bQ P .neq t (.str x) (.str y)=.ok (.bool (!(x == y)))) ∧
  (∀ (t:TypeId) (x y:List UInt8),bQ P .lss t (.str x) (.str y)=.ok (.bool (fU x y)))∧(∀ (t:TypeId) (x y:List UInt8),bQ P .geq t (.str x) (.str y)=.ok (.bool (!fU x y))) ∧
  (∀ (t:TypeId) (k:IntKind) (a b:Int),b≠0→bQ P .quo t (.int k a) (.int k b)=.ok (.int k (wr k (a.tdiv b))))∧(∀ (t:TypeId) (k:IntKind) (a b:Int),b≠0→bQ P .rem t (.int k a) (.int k b)=.ok (.int k (a.tmod b))):=
 ⟨aXq P,aXr P,aXs P,aXv P,aXw P,aXx P,aXy P,aXz P,aY0 P,fun _ _ _ _ _=>rfl,fun _ _ _=>rfl,fun _ _ _=>rfl,aY1 P,aY2 P,aY3 P,aY4 P,fun _ _ _ _ h=>aXt P _ _ _ _ h,fun _ _ _ _ h=>aXu P _ _ _ _ h⟩
theorem bJp : (∀ (k : Option Nat) (a j : Nat) (S : St), gX k (.ptr a 0 0 j) S = (match aC S a 0 with
      | .error e => .error e
      | .ok (_, elems) => match elems[0]? with
        | some cs => gW k cs j
        | none => .error "load")) ∧ (∀ (k : Option Nat) (cs : List V) (j : Nat) (S : St), gX k (.iptr cs j) S = gW k cs j) ∧
    (∀ (cs : List V) (j : Nat), gW none cs j = (match cs[j]? with
      | some v => .ok v
      | none => .error "part")) ∧
    (∀ off a ver i j : Nat, advW off (.ptr a ver i j) = .ok (.ptr a ver i (j + off))) ∧ (∀ (off : Nat) (cs : List V) (j : Nat), advW off (.iptr cs j) = .ok (.iptr cs (j + off))) ∧
    (∀ (n : Nat) (h : Tr Blk) (a ver es : Nat) (el : List (List V)), aC ⟨n, h.put a (.row ver es el)⟩ a ver = .ok (es, el)) ∧ (∀ (S : St) (b : Blk), bB none S b = .ok (S.next, ⟨S.next + 1, S.heap.put S.next b⟩)) ∧
    (∀ (k : Nat) (S : St) (b : Blk), bB (some k) S b = .ok (k, ⟨S.next, S.heap.put k b⟩)) ∧ (∀ cs : List V, (V.agg cs).cells = cs) ∧ (∀ b : Bool, (V.bool b).cells = [.bool b]) ∧ (∀ (k : IntKind) (n : Int), (V.int k n).cells = [.int k n]) ∧
    (∀ s : List UInt8, (V.str s).cells = [.str s]) ∧ (∀ es : List (List V), (V.imm es).cells = [.imm es]) ∧ V.nils.cells = [.nils] ∧ (∀ a b c d : Nat, (V.ptr a b c d).cells = [.ptr a b c d]) ∧ (∀ a b c d e : Nat, (V.sl a b c d e).cells = [.sl a b c d e]) ∧
    (∀ (f : FuncId) (a b : List V), (V.func f a b).cells = [.func f a b]) ∧ aF [] = true ∧ (∀ (v : V) (l : List V), aF (v :: l) = (v.one && aF l)) ∧ (∀ b : Bool, (V.bool b).one = true) ∧ (∀ (k : IntKind) (n : Int), (V.int k n).one = true) ∧ (∀ s : List UInt8, (V.str s).one = true) ∧
    (∀ es : List (List V), (V.imm es).one = true) ∧ V.nils.one = true ∧ (∀ a b c d : Nat, (V.ptr a b c d).one = true) ∧ (∀ a b c d e : Nat, (V.sl a b c d e).one = true) ∧ (∀ (f : FuncId) (a b : List V), (V.func f a b).one = true) ∧
    (∀ es : List (List V), lenW (.imm es) = .ok (.int .i64 es.length)) ∧ lenW .nils = .ok (.int .i64 0) ∧ (∀ a b c d e : Nat, lenW (.sl a b c d e) = .ok (.int .i64 e)) ∧
    (∀ (S : St) (b : Bool), lS S (.bool b) = .ok (.bool b)) ∧ (∀ (S : St) (k : IntKind) (n : Int), lS S (.int k n) = .ok (.int k n)) ∧ (∀ (S : St) (s : List UInt8), lS S (.str s) = .ok (.str s)) ∧ (∀ (S : St) (es : List (List V)), lS S (.imm es) = .ok (.imm es)) ∧
    (∀ {α : Type} (a b : α), ((Except.ok a : R α) = .ok b) = (a = b)) :=
  ⟨fun _ _ _ _ => rfl, fun _ _ _ _ => rfl, fun _ _ => rfl, fun _ _ _ _ _ => rfl, fun _ _ _ => rfl, grS, nb0, nb1, fun _ => rfl, fun _ => rfl, fun _ _ => rfl, fun _ => rfl, fun _ => rfl, rfl, fun _ _ _ _ => rfl, fun _ _ _ _ _ => rfl, fun _ _ _ => rfl, rfl, fun _ _ => rfl,
    fun _ => rfl, fun _ _ => rfl, fun _ => rfl, fun _ => rfl, rfl, fun _ _ _ _ => rfl, fun _ _ _ _ _ => rfl, fun _ _ _ => rfl, fun _ => rfl, rfl, fun _ _ _ _ _ => rfl, fun _ _ => rfl, fun _ _ _ => rfl, fun _ _ => rfl, fun _ _ => rfl, okI⟩
end
end Go.AM
end
section
namespace Go.Proofs.YtoaibmbldmckaaaGreat
open Go.AM Tryz
theorem fx:type_of% (A2 aU0 <| A2 bB4 <| A2 bB5 <| A2 bB6 <| A2 bB7 <| A2 bB8 <| A2 bB9 <| A2 bBa <| A2 bBb <| A2 bBc <| A2 bBd <| A2 bBe <| A2 bBf <| A2 bBg <| A2 bBh <| A2 bBi <| A2 bBj <| A2 bBk <| A2 bBl <| A2 bBm <| A2 bBn <| A2 bBo <| A2 bBp <| A2 bBq <| A2 bG8 <| A2 bBr <| A2 bG9 <| A2 bGa <| A2 bGb <| A2 bGc <| A2 bGd <| A2 bGe <| A2 bGf <| A2 bGg <| A2 bGh <| A2 bGi <| A2 bGj <| A2 bGk <| A2 bBs <| A2 bGl <| A2 bGm <| A2 bGn <| A2 bGo <| A2 bGp <| A2 bGq <| A2 bBt <| A2 bBu <| A2 bGr <| A2 bGs <| A2 bGt <| A2 bGu <| A2 bGv <| A2 bGw <| A2 bGx <| A2 bGy <| A2 aO4 <| A2 aO5 <| A2 aO6 <| A2 aO7 <| A2 aO8 <| A2 aO9 <| A2 aOa <| A2 aOb <| A2 aOc <| A2 aOd <| A2 aOe <| A2 aOf <| A2 aOg <| A2 aOh <| A2 aOi <| A2 aOj <| A2 aOk <| A2 aOl <| A2 aOm <| A2 aOn <| A2 aOo <| A2 aOp <| A2 aOq <| A2 aOr <| A2 aOs <| A2 aOt <| A2 aOu <| A2 aOv <| A2 aOw <| A2 aOx <| A2 aOy <| A2 aOz <| A2 aP0 <| A2 aP1 <| A2 aP2 <| A2 aP3 <| A2 aU1 <| A2 aU2 <| A2 aU3 <| A2 aU4 <| A2 aU5 <| A2 aU6 <| A2 aP4 <| A2 aP5 <| A2 aU7 <| A2 aU8 <| A2 aU9 <| A2 aUa <| A2 aUb <| A2 aUc <| A2 aUd <| A2 aUe <| A2 aUf <| A2 aUg <| A2 aUh <| A2 aUi <| A2 aUj <| A2 aUk <| A2 aUl <| A2 aUm <| A2 aUn <| A2 aUo <| A2 aUp <| A2 aUq <| A2 aUr <| A2 aUs <| A2 aUt <| A2 aUu <| A2 aUv <| A2 aUw <| A2 aUx <| A2 aUy <| A2 aUz <| A2 aV0 <| A2 aV1 <| A2 aV2 <| A2 aV3 <| A2 aV4 <| A2 aV5 <| A2 aV6 <| A2 aV7 <| A2 aV8 <| A2 aV9 <| A2 aVa <| A2 aVb <| A2 aVc <| A2 aVd <| A2 aVe <| A2 aVf <| A2 aVg <| A2 bC5 <| A2 bC6 <| A2 bHm <| A2 bHn <| A2 bHo <| A2 bHp <| A2 bHq <| A2 bHr <| A2 bC7 <| A2 bC8 <| A2 bHs <| A2 bHt <| A2 bHu <| A2 bHv <| A2 bHw <| A2 bHx <| A2 bHy <| A2 bHz <| A2 bC9 <| A2 bCa <| A2 bCb <| A2 ld2 <| A2 bCc <| A2 bCd <| A2 bI0 <| A2 bCe <| A2 bCf <| A2 bCg <| A2 bI1 <| A2 bI2 <| A2 bI3 <| A2 bI4 <| A2 bI5 <| A2 ld3 <| A2 bI6 <| A2 bI7 <| A2 bCh <| A2 bCi <| A2 ld4 <| A2 bI8 <| A2 ld5 <| A2 bI9 <| A2 bIa <| A2 bIb <| A2 bIc <| A2 bId <| A2 bIe <| A2 bIf <| A2 bIg <| A2 bIh <| A2 bIi <| A2 ld9 <| A2 bIj <| A2 bIk <| A2 aVh <| A2 aVi <| A2 bCj <| A2 bCk <| A2 bCl <| A2 bCm <| A2 bCn <| A2 bCo <| A2 aVj <| A2 aVk <| A2 bCp <| A2 bCq <| A2 bCr <| A2 bCs <| A2 bCt <| A2 bCu <| A2 bIl <| A2 bCv <| A2 bCw <| A2 bIm <| A2 bIo <| A2 bIp <| A2 bIq <| A2 bIs <| A2 bIt <| A2 bIu <| A2 bIw <| A2 bIx <| A2 bIy <| A2 bIz <| A2 bCx <| A2 bCy <| A2 bCz <| A2 bD0 <| A2 bD1 <| A2 bJ0 <| A2 bD2 <| A2 bD3 <| A2 bJ1 <| A2 bJ2 <| A2 bJ3 <| A2 bJ4 <| A2 bJ5 <| A2 st3 <| A2 bJ6 <| A2 bJ7 <| A2 bD4 <| A2 st4 <| A2 bJ8 <| A2 st5 <| A2 bJ9 <| A2 bJa <| A2 bJb <| A2 bJc <| A2 bJd <| A2 bJe <| A2 bJf <| A2 bJg <| A2 bJh <| A2 st9 <| A2 bJi <| bJj):=A2 aU0 <| A2 bB4 <| A2 bB5 <| A2 bB6 <| A2 bB7 <| A2 bB8 <| A2 bB9 <| A2 bBa <| A2 bBb <| A2 bBc <| A2 bBd <| A2 bBe <| A2 bBf <| A2 bBg <| A2 bBh <| A2 bBi <| A2 bBj <| A2 bBk <| A2 bBl <| A2 bBm <| A2 bBn <| A2 bBo <| A2 bBp <| A2 bBq <| A2 bG8 <| A2 bBr <| A2 bG9 <| A2 bGa <| A2 bGb <| A2 bGc <| A2 bGd <| A2 bGe <| A2 bGf <| A2 bGg <| A2 bGh <| A2 bGi <| A2 bGj <| A2 bGk <| A2 bBs <| A2 bGl <| A2 bGm <| A2 bGn <| A2 bGo <| A2 bGp <| A2 bGq <| A2 bBt <| A2 bBu <| A2 bGr <| A2 bGs <| A2 bGt <| A2 bGu <| A2 bGv <| A2 bGw <| A2 bGx <| A2 bGy <| A2 aO4 <| A2 aO5 <| A2 aO6 <| A2 aO7 <| A2 aO8 <| A2 aO9 <| A2 aOa <| A2 aOb <| A2 aOc <| A2 aOd <| A2 aOe <| A2 aOf <| A2 aOg <| A2 aOh <| A2 aOi <| A2 aOj <| A2 aOk <| A2 aOl <| A2 aOm <| A2 aOn <| A2 aOo <| A2 aOp <| A2 aOq <| A2 aOr <| A2 aOs <| A2 aOt <| A2 aOu <| A2 aOv <| A2 aOw <| A2 aOx <| A2 aOy <| A2 aOz <| A2 aP0 <| A2 aP1 <| A2 aP2 <| A2 aP3 <| A2 aU1 <| A2 aU2 <| A2 aU3 <| A2 aU4 <| A2 aU5 <| A2 aU6 <| A2 aP4 <| A2 aP5 <| A2 aU7 <| A2 aU8 <| A2 aU9 <| A2 aUa <| A2 aUb <| A2 aUc <| A2 aUd <| A2 aUe <| A2 aUf <| A2 aUg <| A2 aUh <| A2 aUi <| A2 aUj <| A2 aUk <| A2 aUl <| A2 aUm <| A2 aUn <| A2 aUo <| A2 aUp <| A2 aUq <| A2 aUr <| A2 aUs <| A2 aUt <| A2 aUu <| A2 aUv <| A2 aUw <| A2 aUx <| A2 aUy <| A2 aUz <| A2 aV0 <| A2 aV1 <| A2 aV2 <| A2 aV3 <| A2 aV4 <| A2 aV5 <| A2 aV6 <| A2 aV7 <| A2 aV8 <| A2 aV9 <| A2 aVa <| A2 aVb <| A2 aVc <| A2 aVd <| A2 aVe <| A2 aVf <| A2 aVg <| A2 bC5 <| A2 bC6 <| A2 bHm <| A2 bHn <| A2 bHo <| A2 bHp <| A2 bHq <| A2 bHr <| A2 bC7 <| A2 bC8 <| A2 bHs <| A2 bHt <| A2 bHu <| A2 bHv <| A2 bHw <| A2 bHx <| A2 bHy <| A2 bHz <| A2 bC9 <| A2 bCa <| A2 bCb <| A2 ld2 <| A2 bCc <| A2 bCd <| A2 bI0 <| A2 bCe <| A2 bCf <| A2 bCg <| A2 bI1 <| A2 bI2 <| A2 bI3 <| A2 bI4 <| A2 bI5 <| A2 ld3 <| A2 bI6 <| A2 bI7 <| A2 bCh <| A2 bCi <| A2 ld4 <| A2 bI8 <| A2 ld5 <| A2 bI9 <| A2 bIa <| A2 bIb <| A2 bIc <| A2 bId <| A2 bIe <| A2 bIf <| A2 bIg <| A2 bIh <| A2 bIi <| A2 ld9 <| A2 bIj <| A2 bIk <| A2 aVh <| A2 aVi <| A2 bCj <| A2 bCk <| A2 bCl <| A2 bCm <| A2 bCn <| A2 bCo <| A2 aVj <| A2 aVk <| A2 bCp <| A2 bCq <| A2 bCr <| A2 bCs <| A2 bCt <| A2 bCu <| A2 bIl <| A2 bCv <| A2 bCw <| A2 bIm <| A2 bIo <| A2 bIp <| A2 bIq <| A2 bIs <| A2 bIt <| A2 bIu <| A2 bIw <| A2 bIx <| A2 bIy <| A2 bIz <| A2 bCx <| A2 bCy <| A2 bCz <| A2 bD0 <| A2 bD1 <| A2 bJ0 <| A2 bD2 <| A2 bD3 <| A2 bJ1 <| A2 bJ2 <| A2 bJ3 <| A2 bJ4 <| A2 bJ5 <| A2 st3 <| A2 bJ6 <| A2 bJ7 <| A2 bD4 <| A2 st4 <| A2 bJ8 <| A2 st5 <| A2 bJ9 <| A2 bJa <| A2 bJb <| A2 bJc <| A2 bJd <| A2 bJe <| A2 bJf <| A2 bJg <| A2 bJh <| A2 st9 <| A2 bJi <| bJj
theorem ls:(∀ {α:Type} (a:α) (l:List α),(a::l)[0]?=some a)∧(∀ {α:Type} (a:α) (l:List α) (i:Nat),(a::l)[i+1]?=l[i]?)∧(∀ {α:Type} (i:Nat),([]:List α)[i]?=none)∧(∀ {α:Type} (a:α) (l:List α),(a::l).length=l.length+1)∧(∀ {α:Type},([]:List α).length=0) ∧
  (∀ {α:Type} (l:List α),l.drop 0=l)∧(∀ {α:Type} (a:α) (l:List α) (i:Nat),(a::l).drop (i+1)=l.drop i)∧(∀ {α:Type} (l:List α),l.take 0=[])∧(∀ {α:Type} (a:α) (l:List α) (i:Nat),(a::l).take (i+1)=a::l.take i)∧(∀ {α:Type} (i:Nat),([]:List α).take i=[])∧(∀ {α:Type} (i:Nat),([]:List α).drop i=[]) ∧
  (∀ {α:Type} (l:List α),[]++l=l)∧(∀ {α:Type} (a:α) (l m:List α),a::l++m=a::(l++m))∧(∀ {α:Type} (a b:α) (l:List α),(a::l).set 0 b=b::l)∧(∀ {α:Type} (a b:α) (l:List α) (i:Nat),(a::l).set (i+1) b=a::l.set i b) ∧
  (∀ b:Bool,(true&&b)=b)∧(∀ b:Bool,(b&&true)=b)∧(∀ b:Bool,(!!b)=b)∧(∀ {p q:Prop},(if true=true then p else q)=p)∧(∀ {p q:Prop},(if false=true then p else q)=q)∧(!true)=false∧(!false)=true∧(∀ {α:Type} (a b:α),(if True then a else b)=a)∧(∀ {α:Type} (a b:α),(if False then a else b)=b)∧(∀ n:Nat,0+n=n)∧(∀ n:Nat,n+0=n)∧(∀ {α:Type} (f:α→List V) (l:List α),(l.map f).length=l.length) ∧
  (∀ (p:Prop) [Decidable p],(decide p=true)=p)∧(∀ (p:Prop) [Decidable p],((!decide p)=true)=¬ p)∧(∀ p:Prop,(p∧True)=p)∧(∀ p:Prop,(True∧p)=p)∧(∀ n:Nat,(n≤n)=True)∧(∀ n:Nat,(0≤n)=True)∧(∀ (a:Nat),(a=a)=True):=
 ⟨fun _ _=>rfl,fun _ _ _=>rfl,fun _=>rfl,fun _ _=>rfl,rfl,fun _=>rfl,fun _ _ _=>rfl,fun _=>rfl,fun _ _ _=>rfl,fun _=>by simp,fun _=>by simp,fun _=>rfl,fun _ _ _=>rfl,fun _ _ _=>rfl,fun _ _ _ _=>rfl,Bool.true_and,Bool.and_true,Bool.not_not,by intros;rfl,by intros;rfl,rfl,rfl,fun _ _=>if_pos trivial,fun _ _=>if_neg id,Nat.zero_add,Nat.add_zero,fun _ _=>List.length_map ..,fun p _=>by simp,fun p _=>by simp,and_true,true_and,fun n=>by simp,fun n=>by simp,fun n=>by simp⟩
theorem gm (n:Nat) (S:St) (a v:Nat):aC ⟨n,S.heap⟩ a v=aC S a v:=rfl
theorem bJq {l:List Int} {i:Nat} {a:Int} (hi:l[i]?=some a) (k:IntKind):fI 1 (.imm (l.map cX)) (.int k (i:Int))=.ok (.iptr (cX a) 0):=ixI (enc:=cX) hi rfl k
theorem xB {l:List Rate} {i:Nat} {a:Rate} (hi:l[i]?=some a) (k:IntKind):fI 5 (.imm (l.map Rate.enc)) (.int k (i:Int))=.ok (.iptr a.enc 0):=ixI (enc:=Rate.enc) hi rfl k
theorem tV {l:List Ser} {i:Nat} {a:Ser} (hi:l[i]?=some a) (k:IntKind):fI 4 (.imm (l.map Ser.enc)) (.int k (i:Int))=.ok (.iptr a.enc 0):=ixI (enc:=Ser.enc) hi rfl k
theorem tW {l:List Sess} {i:Nat} {a:Sess} (hi:l[i]?=some a) (k:IntKind):fI 5 (.imm (l.map Sess.enc)) (.int k (i:Int))=.ok (.iptr a.enc 0):=ixI (enc:=Sess.enc) hi rfl k
theorem aB5 {l:List Bal} {i:Nat} {a:Bal} (hi:l[i]?=some a) (k:IntKind):fI 2 (.imm (l.map Bal.enc)) (.int k (i:Int))=.ok (.iptr a.enc 0):=ixI (enc:=Bal.enc) hi rfl k
theorem rY {l:List Part} {i:Nat} {a:Part} (hi:l[i]?=some a) (k:IntKind):fI 4 (.imm (l.map Part.enc)) (.int k (i:Int))=.ok (.iptr a.enc 0):=ixI (enc:=Part.enc) hi rfl k
theorem bEd {l:List Line} {i:Nat} {a:Line} (hi:l[i]?=some a) (k:IntKind):fI 4 (.imm (l.map Line.enc)) (.int k (i:Int))=.ok (.iptr a.enc 0):=ixI (enc:=Line.enc) hi rfl k
theorem bO {α:Type} {l:List α} {i:Nat} {a:α} (h:l[i]?=some a):((i:Int)<(l.length:Int))=True:=by
 have:=(List.getElem?_eq_some_iff.1 h).1
 simp;exact this
theorem jO {i:Nat} (h:i<1000000000):wr .i64 ((i:Int)+1)=((i+1:Nat):Int):=by rw [kU (by omega) (by omega)];omega
theorem wrm {i:Nat} (h:i+1<1000000000):wr .i64 (((i+1:Nat):Int) - 1)=(i:Int):=by rw [kU (by omega) (by omega)];omega
theorem gt0 (i:Nat):((0:Int)<((i+1:Nat):Int))=True:=by simp
theorem aVs {n i a:Nat} (h:(List.range n)[i]?=some a):i<n∧a=i:=by
 have hl:i<n:=by simpa using (List.getElem?_eq_some_iff.1 h).1
 rw [List.getElem?_range hl] at h
 exact ⟨hl,(Option.some.inj h).symm⟩
theorem oo : (∀ (S : St) (v : V), lS S v = cF jL (jU (gO S 3) S) v) ∧ (∀ (σ : V → Go.AM.R V) (l : List V), cF jL σ (.tup l) = (match frzVs jL σ l with
      | .ok cs => .ok (.tup cs)
      | .error e => .error e)) ∧ (∀ (σ : V → Go.AM.R V) (l : List V), cF jL σ (.agg l) = (match frzVs jL σ l with
      | .ok cs => .ok (.agg cs)
      | .error e => .error e)) ∧ (∀ σ : V → Go.AM.R V, frzVs jL σ [] = .ok []) ∧ (∀ (σ : V → Go.AM.R V) (v : V) (l : List V), frzVs jL σ (v :: l) = (match cF jL σ v with
      | .ok v => (match frzVs jL σ l with
        | .ok l => .ok (v :: l)
        | .error e => .error e)
      | .error e => .error e)) ∧ (∀ (σ : V → Go.AM.R V) (b : Bool), cF jL σ (.bool b) = .ok (.bool b)) ∧ (∀ (σ : V → Go.AM.R V) (k : IntKind) (n : Int), cF jL σ (.int k n) = .ok (.int k n)) ∧ (∀ (σ : V → Go.AM.R V) (s : List UInt8), cF jL σ (.str s) = .ok (.str s)) ∧
    (∀ (σ : V → Go.AM.R V) (es : List (List V)), cF jL σ (.imm es) = .ok (.imm es)) ∧ (∀ σ : V → Go.AM.R V, cF jL σ .nils = .ok (.imm [])) ∧ (∀ (σ : V → Go.AM.R V) (a b c d e : Nat), cF jL σ (.sl a b c d e) = σ (.sl a b c d e)) :=
  ⟨fun _ _ => rfl, fun σ l => by simp only [cF] <;> rfl, fun σ l => by simp only [cF] <;> rfl, fun _ => rfl, fun σ v l => by simp only [frzVs] <;> rfl, fun _ _ => rfl, fun _ _ _ => rfl, fun _ _ => rfl, fun _ _ => rfl, fun _ => rfl, fun _ _ _ _ _ _ => rfl⟩
theorem unK:(∀ (k:IntKind) (n:Int),unV .neg (.int k n)=.ok (.int k (wr k (0 - n))))∧(∀ n:Int,unV .xor (.int .u64 n)=.ok (.int .u64 (aDi n))):=⟨fun _ _=>rfl,fun _=>rfl⟩
theorem nk:(∀ n:Nat,(0=n+1)=False)∧(∀ n:Nat,(n+1=0)=False)∧(∀ n m:Nat,(n+1=m+1)=(n=m))∧(∀ {α:Type} {a b:α},(a≠b)=¬ a=b)∧(¬ False)=True:=⟨fun n=>by simp,fun n=>by simp,fun n m=>by simp,by intros;rfl,by simp⟩
theorem ex:type_of% (A2 bBv <| A2 bBw <| A2 bBx <| A2 bBy <| A2 bBz <| A2 bC0 <| A2 bC1 <| A2 bC2 <| A2 bC3 <| A2 bC4 <| A2 bH5 <| A2 bH6 <| A2 bH8 <| A2 bH9 <| A2 bHb <| A2 bHc <| A2 bHe <| A2 bHf <| A2 bHh <| A2 bHi <| A2 bHk <| bHl):=A2 bBv <| A2 bBw <| A2 bBx <| A2 bBy <| A2 bBz <| A2 bC0 <| A2 bC1 <| A2 bC2 <| A2 bC3 <| A2 bC4 <| A2 bH5 <| A2 bH6 <| A2 bH8 <| A2 bH9 <| A2 bHb <| A2 bHc <| A2 bHe <| A2 bHf <| A2 bHh <| A2 bHi <| A2 bHk <| bHl
theorem agK (P : Program) : (∀ (t : TypeId) (a b : List V), bQ P .eql t (.agg a) (.agg b) = (match sT P 100 t (.agg a) (.agg b) with
      | .ok r => .ok (.bool r)
      | .error e => .error e)) ∧ (∀ (t : TypeId) (a b : List V), bQ P .neq t (.agg a) (.agg b) = (match sT P 100 t (.agg a) (.agg b) with
      | .ok r => .ok (.bool (!r))
      | .error e => .error e)) := ⟨fun _ _ _ => rfl, fun _ _ _ => rfl⟩
theorem kk:type_of% (A2 sf <| A2 ex <| A2 (agK prog) <| A2 bDd <| A2 nk <| A2 kit <| A2 (bJo prog) <| A2 bJp <| A2 fx ls):=A2 sf <| A2 ex <| A2 (agK prog) <| A2 bDd <| A2 nk <| A2 kit <| A2 (bJo prog) <| A2 bJp <| A2 fx ls
theorem bOo (y:Int) (S:St) (K:KW):C 204 [.int .i64 y] S K=K (.bool (aMn y)) S:=by
 refine (bNd rfl ?_).eq S K
 delta Tryz.f204;simp only [↓cw,↓reduceIte,Nat.reduceLT,kk,ne_eq,Int.reduceEq,not_false_eq_true,aMn]
 grind
theorem bJt (y m:Int) (S:St) (K:KW):C 132 [.int .i64 y,.int .i64 m] S K=K (.int .i64 (fY y m)) S:=by
 refine (bMj rfl ?_).eq S K
 delta Tryz.f132;simp only [↓cw,↓reduceIte,Nat.reduceLT,kk,bOo,fY]
 grind
theorem aK5 (d:Date) (S:St) (K:KW):C 123 [.agg [.int .i64 d.y,.int .i64 d.m,.int .i64 d.d]] S K=K (.bool d.right) S:=by
 refine (bMg rfl ?_).eq S K
 delta Tryz.f123;simp only [↓cw,↓reduceIte,Nat.reduceLT,kk,bJt,Date.right]
 grind
theorem bOp (y:Int) (S:St) (K:KW):C 131 [.int .i64 y] S K=K (.int .i64 (ahead y)) S:=by
 refine (bMi rfl ?_).eq S K
 delta Tryz.f131;simp only [↓cw,↓reduceIte,Nat.reduceLT,kk,ne_eq,Int.reduceEq,not_false_eq_true,ahead]
theorem bOq (d:Date) (S:St) (K:KW):C 200 [.agg [.int .i64 d.y,.int .i64 d.m,.int .i64 d.d]] S K=K (.int .i64 d.days) S:=by
 refine (bNb rfl ?_).eq S K
 delta Tryz.f200;simp only [↓cw,↓reduceIte,Nat.reduceLT,kk,aK5,bOp,Date.days]
 by_cases hr:d.right=true
 ·simp only [↓cw,↓reduceIte,Nat.reduceLT,hr,kk]
  have hm:1≤d.m∧d.m≤12:=by simp only [Date.right,Bool.and_eq_true,decide_eq_true_eq] at hr;omega
  refine aH (List.range (d.m - 1).toNat) (step:=mT d.y) (fin:=id) (fun i n vs S=>vs=[.int .i64 n,.int .i64 ((i:Int)+1)]∧aC S 0 0=.ok (3,[d.enc])) (fun r=>V.int .i64 (wr .i64 (wr .i64 (r+d.d) - 1))=.int .i64 (wr .i64 (wr .i64 (aE (mT d.y) id (List.range (d.m - 1).toNat) (ahead d.y)+d.d) - 1))) ?_ ?_ ⟨rfl,by simp only [↓cw,↓reduceIte,Nat.reduceLT,kk];rfl⟩ rfl
  ·rintro i a n vs S hi ⟨rfl,hg⟩ aD H
   obtain ⟨hil,rfl⟩:=aVs hi
   simp only [mT] at H
   simp only [↓cw,↓reduceIte,Nat.reduceLT,kk,hg,Date.enc,bJt]
   rw [if_pos (by omega)]
   refine H _ _ ⟨?_,hg⟩
   rw [kU (n:=(a:Int)+1+1) (by omega) (by omega)]
   simp
  ·rintro n vs S ⟨rfl,hg⟩ aD H
   simp only [↓cw,↓reduceIte,Nat.reduceLT,kk,hg,Date.enc]
   rw [if_neg (by simp;omega)]
   exact H
 ·have hr:d.right=false:=by simpa using hr
  simp only [↓cw,↓reduceIte,Nat.reduceLT,hr,kk]
theorem aYs (a b:Date) (S:St) (K:KW):C 124 [.agg [.int .i64 a.y,.int .i64 a.m,.int .i64 a.d],.agg [.int .i64 b.y,.int .i64 b.m,.int .i64 b.d]] S K=K (.bool (a.before b)) S:=by
 refine (bMh rfl ?_).eq S K
 delta Tryz.f124;simp only [↓cw,↓reduceIte,Nat.reduceLT,kk,eG,aK5,bOq,Date.before]
 cases a.right<;>cases b.right<;>simp
end Go.Proofs.YtoaibmbldmckaaaGreat
end
