import Derived.KernelRfl
import Derived.Lib.Walk
import Derived.Test.YtoaibmbldmckaaaGreatProg
import Derived.WalkKit
import Derived.Test.YtoaibmbldmckaaaGreatX1
set_option linter.unusedSimpArgs false
set_option linter.unusedVariables false
set_option linter.unusedSectionVars false
set_option maxRecDepth 100000
section
set_option linter.unusedSimpArgs false
set_option linter.unusedVariables false
namespace Go.AM
structure Own (S0 S:St) (n:Nat) (v:V) (es:List (List V)):Prop where
 is:(v=.nils∧es=[])∨∃ a ver tl,v=.sl a ver n 0 es.length∧S0.next≤a∧a<S.next∧S.heap.get a=some (.row ver n (es++tl))
 len:∀ cs,cs∈es→cs.length=n∧aH cs=true
theorem bW {S:St} {a ver n:Nat} {el:List (List V)} (h:S.heap.get a=some (.row ver n el)):aA S a ver=.ok (n,el):=by
 simp only [aA,h,Nat.beq_refl,cond_true]
theorem Own.sl {S0 S:St} {n:Nat} {v:V} {es:List (List V)} (h:Own S0 S n v es):Sl S n v es:=by
 refine ⟨?_,h.len⟩
 rcases h.is with h1 | ⟨a,ver,tl,h1,h2,h3,h4⟩
 ·exact .inl h1
 ·exact .inr (.inr ⟨a,ver,0,es++tl,h1,bW h4,by simp,by simp⟩)
theorem Own.ext {S0 S S':St} {n:Nat} {v:V} {es:List (List V)} (h:Own S0 S n v es) (x:Ext S S'):Own S0 S' n v es:=by
 refine ⟨?_,h.len⟩
 rcases h.is with h1 | ⟨a,ver,tl,h1,h2,h3,h4⟩
 ·exact .inl h1
 ·exact .inr ⟨a,ver,tl,h1,h2,Nat.lt_of_lt_of_le h3 x.next,x.old _ _ h4⟩
theorem Own.nil (S0 S:St) (n:Nat):Own S0 S n .nils []:=⟨.inl ⟨rfl,rfl⟩,fun _ h=>by cases h⟩
theorem Own.weaken {A B S:St} {n:Nat} {v:V} {es:List (List V)} (h:Own B S n v es) (x:A.next≤B.next):Own A S n v es:=by
 refine ⟨?_,h.len⟩
 rcases h.is with h1 | ⟨a,ver,tl,h1,h2,h3,h4⟩
 ·exact .inl h1
 ·exact .inr ⟨a,ver,tl,h1,Nat.le_trans x h2,h3,h4⟩
theorem cY {n:Nat} {es:List (List V)} (h:∀ cs,cs∈es→cs.length=n∧aH cs=true):iQ n es=true∧es.all aH=true:=
 ⟨List.all_eq_true.2 fun cs hc=>by simp [(h cs hc).1],List.all_eq_true.2 fun cs hc=>(h cs hc).2⟩
theorem Sl.copy {S:St} {n b:Nat} {v:V} {es:List (List V)} (h:Sl S n v es) (w:WF S) (h1:es.length*b≤35184372088832) (h2:es.length<dR):
  ∃ v' S',eE n b .nils v none S=.ok (v',S')∧Ext S S'∧Own S S' n v' es:=by
 obtain ⟨a1,a2⟩:=cY h.len
 cases es with
 | nil=>exact ⟨.nils,S,by simp only [eE,h.elems,a1,a2,and_self,if_true],Ext.refl S,Own.nil _ _ _⟩
 | cons c es=>
  refine ⟨.sl S.next 0 n 0 (c::es).length,⟨S.next+1,S.heap.put S.next (.row 0 n (c::es))⟩,?_,Ext.new w _,⟨.inr ⟨S.next,0,[],rfl,Nat.le_refl _,Nat.lt_succ_self _,?_⟩,h.len⟩⟩
  ·simp only [eE,h.elems,a1,a2,and_self,if_true,h1,h2,eL]
  ·rw [List.append_nil];exact Tr.get_put_sameB _ _ _ trivial
theorem Own.pushK {S0 S:St} {n b:Nat} {v:V} {es:List (List V)} (h:Own S0 S n v es) (x:Ext S0 S) (w:WF S0) {u:V} {cs:List (List V)} (hu:aO S u=.ok cs) (hc:∀ c,c∈cs→c.length=n∧aH c=true) (hne:cs≠[])
  (h1:(es.length+cs.length)*b≤35184372088832) (h2:es.length+cs.length<dR):∃ v' S',eE n b v u none S=.ok (v',S')∧Ext S0 S'∧S'.next≤S.next+1∧Own S0 S' n v' (es++cs)∧∀ y,y<S.next→(∀ a ver m,v=.sl a ver n 0 m→y≠a)→S'.heap.get y=S.heap.get y:=by
 obtain ⟨a1,a2⟩:=cY hc
 have hlen:∀ c,c∈es++cs→c.length=n∧aH c=true:=fun c hm=>(List.mem_append.1 hm).elim (h.len c) (hc c)
 rcases h.is with ⟨rfl,rfl⟩ | ⟨a,ver,tl,rfl,q1,q2,q3⟩
 ·cases cs with
  | nil=>exact absurd rfl hne
  | cons c cs=>
   refine ⟨.sl S.next 0 n 0 (c::cs).length,⟨S.next+1,S.heap.put S.next (.row 0 n (c::cs))⟩,?_,x.trans (Ext.new (x.wf w) _),Nat.le_refl _,⟨.inr ⟨S.next,0,[],rfl,x.next,Nat.lt_succ_self _,?_⟩,hlen⟩,fun y hy _=>Tr.get_put_neB _ _ _ _ trivial (by omega)⟩
   ·simp only [List.length_nil,Nat.zero_add] at h1 h2
    simp only [eE,hu,a1,a2,and_self,if_true,h1,h2,eL]
   ·rw [List.append_nil];exact Tr.get_put_sameB _ _ _ trivial
 ·have hb:0+es.length≤es.length+tl.length:=by omega
  refine ⟨.sl a (ver+1) n 0 (es++cs).length,⟨S.next,S.heap.put a (.row (ver+1) n (es++cs))⟩,?_,x.set q1 q2 w _,Nat.le_succ _,⟨.inr ⟨a,ver+1,[],rfl,q1,q2,?_⟩,hlen⟩,fun y _ hy=>Tr.get_put_neB _ _ _ _ trivial (hy a ver _ rfl)⟩
  ·simp only [eE,hu,a1,a2,and_self,if_true,bW q3,hb,h1,h2,List.drop_zero,List.take_left',List.length_append]
  ·rw [List.append_nil];exact Tr.get_put_sameB _ _ _ trivial
theorem Own.push {S0 S:St} {n b:Nat} {v:V} {es:List (List V)} (h:Own S0 S n v es) (x:Ext S0 S) (w:WF S0) {u:V} {cs:List (List V)} (hu:aO S u=.ok cs) (hc:∀ c,c∈cs→c.length=n∧aH c=true) (hne:cs≠[])
  (h1:(es.length+cs.length)*b≤35184372088832) (h2:es.length+cs.length<dR):∃ v' S',eE n b v u none S=.ok (v',S')∧Ext S0 S'∧S'.next≤S.next+1∧Own S0 S' n v' (es++cs):=by
 obtain ⟨v',S',q1,q2,q3,q4,_⟩:=h.pushK x w hu hc hne h1 h2
 exact ⟨v',S',q1,q2,q3,q4⟩
theorem Own.set {S0 S:St} {n:Nat} {v:V} {es:List (List V)} (h:Own S0 S n v es) (x:Ext S0 S) (w:WF S0) {i:Nat} {cs:List V} (hi:es[i]?=some cs) (k:IntKind):
  ∃ p,gS n v (.int k (i:Int))=.ok p∧At S p cs∧∀ (j m:Nat) (u:V),u.cells.length=m→aH u.cells=true→j+m≤n→∃ S',fV m (adv j p) u S=.ok S'∧Ext S0 S'∧S'.next=S.next∧Own S0 S' n v (es.set i (splice cs j u.cells)) ∧
   ∀ S1,Ext S1 S→(∀ a ver,v=.sl a ver n 0 es.length→S1.next≤a)→WF S1→Ext S1 S':=by
 have hil:i<es.length:=(List.getElem?_eq_some_iff.1 hi).1
 have hl:=h.len cs (List.mem_of_getElem? hi)
 rcases h.is with ⟨rfl,rfl⟩ | ⟨a,ver,tl,rfl,q1,q2,q3⟩
 ·simp at hil
 ·have hg:(es++tl)[0+i]?=some cs:=by rw [Nat.zero_add,List.getElem?_append_left hil];exact hi
  refine ⟨.ptr a ver (0+i) 0,by simp only [gS,jJ hil,if_true],.inl ⟨a,ver,0+i,n,es++tl,rfl,bW q3,hg⟩,fun j m u hu ho hj=>?_⟩
  have hsl:(splice cs j u.cells).length=n:=by simp only [splice,List.length_append,List.length_take,List.length_drop];omega
  have hso:aH (splice cs j u.cells)=true:=by
   have h1:=hl.2
   simp only [aH,List.all_eq_true] at h1 ho ⊢
   intro y hy
   simp only [splice,List.mem_append] at hy
   rcases hy with hy | hy | hy
   ·exact h1 y (List.mem_of_mem_take hy)
   ·exact ho y hy
   ·exact h1 y (List.mem_of_mem_drop hy)
  have hst:fV m (adv j (.ptr a ver (0+i) 0)) u S=.ok ⟨S.next,S.heap.put a (.row ver n ((es++tl).set (0+i) (splice cs j u.cells)))⟩:=by
   have hj':0+j+u.cells.length≤cs.length:=by omega
   simp only [adv,fV,bW q3,hg,hu,ho,true_and]
   rw [if_pos (by omega)]
   simp only [Nat.zero_add]
  have hset:(es++tl).set (0+i) (splice cs j u.cells)=es.set i (splice cs j u.cells)++tl:=by rw [Nat.zero_add,List.set_append_left _ _ hil]
  refine ⟨_,hst,x.set q1 q2 w _,rfl,⟨.inr ⟨a,ver,tl,by rw [List.length_set],q1,q2,?_⟩,fun c hc=>?_⟩,fun S1 x1 ha w1=>x1.set (ha a ver rfl) q2 w1 _⟩
  ·rw [hset];exact Tr.get_put_sameB _ _ _ trivial
  ·rcases List.mem_or_eq_of_mem_set hc with hc | rfl
   ·exact h.len c hc
   ·exact ⟨hsl,hso⟩
theorem aS1 {P:Program} {T:TypeId} {n b:Nat} (h:apT P T=some (n,b)):∃ e,iU P T=some e∧kU P e=true∧sz P e=n∧P.bytesOf e=b:=by
 unfold apT at h
 split at h
 ·cases h
 ·rename_i e he
  rw [cond_eq_ite] at h
  split at h
  ·rename_i hz;cases h;exact ⟨e,he,hz,rfl,rfl⟩
  ·cases h
theorem Own.insertK {P:Program} {T:TypeId} {n b:Nat} (hT:apT P T=some (n,b)) (hn:1<n) {S0 S:St} {v:V} {es:List (List V)} (h:Own S0 S n v es) (x:Ext S0 S) (w:WF S0) {bx:Nat} {c:List V} (hb:aA S bx 0=.ok (n,[c]))
  (hne:∀ a ver m,v=.sl a ver n 0 m→a≠bx) (hc:c.length=n∧aH c=true) (h1:(es.length+1)*b≤35184372088832) (h2:es.length+1<dR) {i:Nat} (hi:i≤es.length):
  ∃ v' S',gP P T v (.int .i64 (i:Int)) (.sl bx 0 n 0 1) S=.ok (v',S')∧Ext S0 S'∧Own S0 S' n v' (es.take i++c::es.drop i)∧∀ y,y<S.next→(∀ a ver m,v=.sl a ver n 0 m→y≠a)→S'.heap.get y=S.heap.get y:=by
 obtain ⟨e,he,hz,hsz,hby⟩:=aS1 hT
 have hx:aO S (.sl bx 0 n 0 1)=.ok [c]:=by
  simp only [aO,hb]
  rfl
 have h1n:Nat.ble n 1=false:=by
  cases hq:Nat.ble n 1 with
  | false=>rfl
  | true=>exact absurd (Nat.le_of_ble_eq_true hq) (by omega)
 have hcs:∀ d,d∈[c]→d.length=n∧aH d=true:=fun d hd=>by cases hd with
  | head=>exact hc
  | tail _ hd=>cases hd
 have hlen:∀ d,d∈es.take i++c::es.drop i→d.length=n∧aH d=true:=by
  intro d hd
  rcases List.mem_append.1 hd with hd | hd
  ·exact h.len d (List.mem_of_mem_take hd)
  ·rcases List.mem_cons.1 hd with rfl | hd
   ·exact hc
   ·exact h.len d (List.mem_of_mem_drop hd)
 have hlt:(es.take i++c::es.drop i).length=es.length+1:=by simp only [List.length_append,List.length_take,List.length_cons,List.length_drop];omega
 by_cases hend:i=es.length
 ·subst hend
  obtain ⟨v',S',q1,q2,_,q3,q4⟩:=h.pushK (b:=b) x w hx hcs (by simp) h1 h2
  refine ⟨v',S',?_,q2,by simpa using q3,q4⟩
  rw [←cN hT] at q1
  unfold gP
  simp only [he,hx,hsz,h1n,Bool.false_or]
  rcases h.is with ⟨rfl,rfl⟩ | ⟨a,ver,tl,rfl,_⟩
  ·simp only [List.length_nil]
   show (bif Nat.beq 1 0 then _ else bif decide (((0:Nat):Int)=0) then _ else _)=_
   simp only [Int.natCast_zero,decide_true,cond_true]
   exact q1
  ·simp only [decide_true,cond_true]
   exact q1
 ·rcases h.is with ⟨rfl,rfl⟩ | ⟨a,ver,tl,rfl,p1,p2,p3⟩
  ·simp at hi;exact absurd hi hend
  ·have hab:Nat.beq a bx=false:=by
    cases hq:Nat.beq a bx with
    | false=>rfl
    | true=>exact absurd (Nat.eq_of_beq_eq_true hq) (hne a ver _ rfl)
   obtain ⟨a1,a2⟩:=cY hcs
   obtain ⟨_,a3⟩:=cY h.len
   have hb1:Nat.ble (0+es.length) (es++tl).length=true:=Nat.ble_eq_true_of_le (by simp)
   have hroom:room P e (es.length+[c].length)=true:=by
    simp only [room,hby,Bool.and_eq_true,Nat.ble_eq,Nat.blt_eq,List.length_cons,List.length_nil]
    exact ⟨h1,h2⟩
   have e1:decide ((i:Int)=((es.length:Nat):Int))=false:=decide_eq_false (by omega)
   have e2:decide ((i:Int)<0)=false:=decide_eq_false (by omega)
   have e3:decide (((es.length:Nat):Int)<(i:Int))=false:=decide_eq_false (by omega)
   refine ⟨.sl a (ver+1) n 0 (es.take i++c::es.drop i).length,⟨S.next,S.heap.put a (.row (ver+1) n (es.take i++c::es.drop i))⟩,?_,x.set p1 p2 w _,⟨.inr ⟨a,ver+1,[],rfl,p1,p2,?_⟩,hlen⟩,fun y _ hy=>Tr.get_put_neB _ _ _ _ trivial (hy a ver _ rfl)⟩
   ·unfold gP
    simp only [he,hx,hsz,h1n,Bool.false_or,e1,cond_false,hab,e2,e3,a1,a2,hz,Bool.and_self,Bool.not_true,bW p3,hb1,Nat.beq_refl,hroom,List.drop_zero,List.take_left',a3,cond_true,Int.toNat_natCast,hlt]
    rfl
   ·rw [List.append_nil];exact Tr.get_put_sameB _ _ _ trivial
theorem Own.insert {P:Program} {T:TypeId} {n b:Nat} (hT:apT P T=some (n,b)) (hn:1<n) {S0 S:St} {v:V} {es:List (List V)} (h:Own S0 S n v es) (x:Ext S0 S) (w:WF S0) {bx:Nat} {c:List V} (hb:aA S bx 0=.ok (n,[c]))
  (hne:∀ a ver m,v=.sl a ver n 0 m→a≠bx) (hc:c.length=n∧aH c=true) (h1:(es.length+1)*b≤35184372088832) (h2:es.length+1<dR) {i:Nat} (hi:i≤es.length):
  ∃ v' S',gP P T v (.int .i64 (i:Int)) (.sl bx 0 n 0 1) S=.ok (v',S')∧Ext S0 S'∧Own S0 S' n v' (es.take i++c::es.drop i):=by
 obtain ⟨v',S',q1,q2,q3,_⟩:=h.insertK hT hn x w hb hne hc h1 h2 hi
 exact ⟨v',S',q1,q2,q3⟩
theorem Own.delete {P:Program} {T e:TypeId} {n:Nat} {z:List V} (he:iU P T=some e) (hz:tM P e=some z) (hsz:sz P e=n) {S0 S:St} {v:V} {es:List (List V)} (h:Own S0 S n v es) (x:Ext S0 S) (w:WF S0)
  (h2:es.length<dR) {i:Nat} (hi:i<es.length):
  ∃ v' S',pQ P T v (.int .i64 (i:Int)) (.int .i64 ((i:Int)+1)) S=.ok (v',S')∧Ext S0 S'∧Own S0 S' n v' (es.take i++es.drop (i+1)):=by
 have hlen:∀ d,d∈es.take i++es.drop (i+1)→d.length=n∧aH d=true:=by
  intro d hd
  rcases List.mem_append.1 hd with hd | hd
  ·exact h.len d (List.mem_of_mem_take hd)
  ·exact h.len d (List.mem_of_mem_drop hd)
 have hlt:(es.take i++es.drop (i+1)).length=es.length - 1:=by simp only [List.length_append,List.length_take,List.length_drop];omega
 rcases h.is with ⟨rfl,rfl⟩ | ⟨a,ver,tl,rfl,p1,p2,p3⟩
 ·simp at hi
 ·obtain ⟨_,a3⟩:=cY h.len
  have e1:decide ((i:Int)<0)=false:=decide_eq_false (by omega)
  have e2:decide ((i:Int)+1<(i:Int))=false:=decide_eq_false (by omega)
  have e3:decide (((es.length:Nat):Int)<(i:Int)+1)=false:=decide_eq_false (by omega)
  have e4:Nat.blt es.length dR=true:=Nat.ble_eq_true_of_le h2
  have e5:Nat.beq es.length 0=false:=by
   cases hq:Nat.beq es.length 0 with
   | false=>rfl
   | true=>have:=Nat.eq_of_beq_eq_true hq;omega
  have e6:decide ((i:Int)=(i:Int)+1)=false:=decide_eq_false (by omega)
  have hb1:Nat.ble (0+es.length) (es++tl).length=true:=Nat.ble_eq_true_of_le (by simp)
  have hj:((i:Int)+1).toNat=i+1:=by omega
  have hk:i+1 - i=1:=by omega
  have hrow:lW (es++tl) (0+i) (es.drop (i+1)++[z])=(es.take i++es.drop (i+1))++(z::tl):=by
   unfold lW
   rw [Nat.zero_add,List.take_append_of_le_length (by omega)]
   have:i+(es.drop (i+1)++[z]).length=es.length+0:=by simp only [List.length_append,List.length_drop,List.length_cons,List.length_nil];omega
   rw [this,List.drop_length_add_append]
   simp
  refine ⟨.sl a ver n 0 (es.length - 1),⟨S.next,S.heap.put a (.row ver n ((es.take i++es.drop (i+1))++(z::tl)))⟩,?_,x.set p1 p2 w _,⟨.inr ⟨a,ver,z::tl,by rw [hlt],p1,p2,Tr.get_put_sameB _ _ _ trivial⟩,hlen⟩⟩
  unfold pQ
  simp only [he,e1,e2,e3,e4,e5,e6,Bool.or_false,Bool.not_true,cond_false,hz,hsz,bW p3,Nat.beq_refl,hb1,Bool.true_and,List.drop_zero,List.take_left',a3,cond_true,Int.toNat_natCast,hj,hk,List.replicate_one,hrow]
end Go.AM
namespace Go.AM
theorem Ext.newAt {S:St} {k:Nat} (hk:S.heap.get k=none) (hk2:k<S.next) (b:Blk):Ext S ⟨S.next,S.heap.put k b⟩:=by
 refine ⟨fun a d hd=>?_,Nat.le_refl _,fun w a d hd=>?_⟩
 ·show (S.heap.put k _).get a=some d
  rw [Tr.get_put_neB _ _ _ _ trivial (fun e=>by rw [e,hk] at hd;cases hd)];exact hd
 ·have hd':(S.heap.put k b).get a=some d:=hd
  rw [Tr.get_putB _ _ _ _ trivial] at hd'
  split at hd'
  ·show a<S.next;omega
  ·exact w a d hd'
end Go.AM
namespace Go.AM
theorem Own.other {S0 S S':St} {n:Nat} {v:V} {es:List (List V)} (h:Own S0 S n v es) (hn:S.next≤S'.next) (hg:∀ a ver m,v=.sl a ver n 0 m→S'.heap.get a=S.heap.get a):Own S0 S' n v es:=by
 refine ⟨?_,h.len⟩
 rcases h.is with h1 | ⟨a,ver,tl,h1,h2,h3,h4⟩
 ·exact .inl h1
 ·exact .inr ⟨a,ver,tl,h1,h2,Nat.lt_of_lt_of_le h3 hn,by rw [hg a ver _ h1];exact h4⟩
theorem Own.setK {S0 S:St} {n:Nat} {v:V} {es:List (List V)} (h:Own S0 S n v es) (x:Ext S0 S) (w:WF S0) {i:Nat} {cs:List V} (hi:es[i]?=some cs) (k:IntKind):
  ∃ a ver,v=.sl a ver n 0 es.length∧S0.next≤a∧a<S.next∧gS n v (.int k (i:Int))=.ok (.ptr a ver i 0)∧At S (.ptr a ver i 0) cs ∧
   ∀ (j m:Nat) (u:V),u.cells.length=m→aH u.cells=true→j+m≤n→∃ S',fV m (.ptr a ver i j) u S=.ok S'∧Ext S0 S'∧S'.next=S.next∧Own S0 S' n v (es.set i (splice cs j u.cells))∧(∀ y,y≠a→S'.heap.get y=S.heap.get y)∧(WF S→WF S'):=by
 have hil:i<es.length:=(List.getElem?_eq_some_iff.1 hi).1
 rcases h.is with ⟨rfl,rfl⟩ | ⟨a,ver,tl,rfl,q1,q2,q3⟩
 ·simp at hil
 ·obtain ⟨p,hp,hat,hset⟩:=h.set x w hi k
  have hpe:p=.ptr a ver (0+i) 0:=by
   simp only [gS,jJ hil,if_true] at hp
   cases hp;rfl
  subst hpe
  rw [Nat.zero_add] at hp hat hset
  refine ⟨a,ver,rfl,q1,q2,hp,hat,fun j m u hu ho hj=>?_⟩
  obtain ⟨S',t1,t2,t3,t4,_⟩:=hset j m u hu ho hj
  have t1':fV m (.ptr a ver i j) u S=.ok S':=by
   have:adv j (.ptr a ver i 0)=.ptr a ver i j:=by simp only [adv,Nat.zero_add]
   rw [←this];exact t1
  have hS':∃ b,S'=⟨S.next,S.heap.put a b⟩:=by
   have hg:(es++tl)[i]?=some cs:=by rw [List.getElem?_append_left hil];exact hi
   simp only [fV,bW q3,hg] at t1'
   split at t1'
   ·cases t1';exact ⟨_,rfl⟩
   ·cases t1'
  obtain ⟨b,rfl⟩:=hS'
  refine ⟨_,t1',t2,rfl,t4,fun y hy=>Tr.get_put_neB _ _ _ _ trivial hy,fun ww y d hd=>?_⟩
  have hd':(S.heap.put a b).get y=some d:=hd
  rw [Tr.get_putB _ _ _ _ trivial] at hd'
  split at hd'
  ·show y<S.next;omega
  ·exact ww y d hd'
theorem aBd {S:St} {a ver n:Nat} {el:List (List V)} (h:aA S a ver=.ok (n,el)):S.heap.get a=some (.row ver n el):=by
 unfold aA at h
 split at h
 ·rename_i v es elems hg
  rw [cond_eq_ite] at h
  split at h
  ·rename_i hb
   have:=Nat.eq_of_beq_eq_true hb
   cases h
   subst this
   exact hg
  ·cases h
 ·cases h
end Go.AM
end
section
set_option linter.unusedSimpArgs false
set_option linter.unusedVariables false
namespace Go.AM
structure D (b:Nat) (S S':St):Prop where
 next:S.next≤S'.next
 dead:∀ a,a<b→S.heap.get a=none→S'.heap.get a=none
section
variable {P:Program} {b:Nat} {S S':St} {fr:Option Nat}
end
end Go.AM
namespace Go.AM
end Go.AM
end
section
namespace Go.AM
section
section
variable {P:Program} {pl:jB} {lv:bEb}
end
theorem Sl.nilv (S:St) (n:Nat):Sl S n .nils []:=⟨.inl ⟨rfl,rfl⟩,fun _ h=>by cases h⟩
structure But (a:Nat) (S S':St):Prop where
 old:∀ y b,y≠a→S.heap.get y=some b→S'.heap.get y=some b
 next:S.next≤S'.next
 wf:WF S→WF S'
theorem But.of {a:Nat} {S S':St} (x:Ext S S'):But a S S':=⟨fun y b _ h=>x.old y b h,x.next,x.wf⟩
theorem But.trans {a:Nat} {A B C:St} (h:But a A B) (k:But a B C):But a A C:=⟨fun y b hy q=>k.old y b hy (h.old y b hy q),Nat.le_trans h.next k.next,fun w=>k.wf (h.wf w)⟩
theorem But.put {a:Nat} {S:St} (ha:a<S.next) (b:Blk):But a S ⟨S.next,S.heap.put a b⟩:=by
 refine ⟨fun y c hy h=>?_,Nat.le_refl _,fun w y c hc=>?_⟩
 ·show (S.heap.put a b).get y=some c
  rw [Tr.get_put_neB _ _ _ _ trivial hy];exact h
 ·have hc':(S.heap.put a b).get y=some c:=hc
  rw [Tr.get_putB _ _ _ _ trivial] at hc'
  split at hc'
  ·show y<S.next;omega
  ·exact w y c hc'
def blkOf:V→Option Nat
 | .sl a _ _ _ _=>some a
 | _=>none
theorem fG {S0 S:St} {n:Nat} {v:V} {es:List (List V)} (h:Own S0 S n v es) {y:Nat} (hy:blkOf v=some y):S0.next≤y∧y<S.next:=by
 rcases h.is with ⟨e1,_⟩ | ⟨a,ver,tl,e1,e2,e3,_⟩
 ·rw [e1] at hy;cases hy
 ·rw [e1] at hy;cases hy;exact ⟨e2,e3⟩
theorem Own.same {S0 S S':St} {n:Nat} {v:V} {es:List (List V)} (h:Own S0 S n v es) (hn:S.next≤S'.next) (hg:∀ a,blkOf v=some a→S'.heap.get a=S.heap.get a):Own S0 S' n v es:=
 h.other hn fun a ver m hv=>hg a (by rw [hv];rfl)
theorem Own.pushAt {S0 S:St} {n b:Nat} {v:V} {es:List (List V)} (h:Own S0 S n v es) (x:Ext S0 S) (w:WF S0) {u:V} {cs:List (List V)} (hu:aO S u=.ok cs) (hc:∀ c,c∈cs→c.length=n∧aH c=true) (hne:cs≠[])
  {k:Nat} (hk:S0.next≤k) (hk2:k<S.next) (hk3:S.heap.get k=none)
  (h1:(es.length+cs.length)*b≤35184372088832) (h2:es.length+cs.length<dR):∃ v' S',eE n b v u (some k) S=.ok (v',S')∧Ext S0 S'∧S'.next=S.next∧Own S0 S' n v' (es++cs)∧(blkOf v'=some k∨blkOf v'=blkOf v)∧∀ y,y≠k→blkOf v≠some y→S'.heap.get y=S.heap.get y:=by
 obtain ⟨a1,a2⟩:=cY hc
 have hlen:∀ c,c∈es++cs→c.length=n∧aH c=true:=fun c hm=>(List.mem_append.1 hm).elim (h.len c) (hc c)
 rcases h.is with ⟨rfl,rfl⟩ | ⟨a,ver,tl,rfl,q1,q2,q3⟩
 ·cases cs with
  | nil=>exact absurd rfl hne
  | cons c cs=>
   refine ⟨.sl k 0 n 0 (c::cs).length,⟨S.next,S.heap.put k (.row 0 n (c::cs))⟩,?_,x.trans (Ext.newAt hk3 hk2 _),rfl,⟨.inr ⟨k,0,[],rfl,hk,hk2,?_⟩,hlen⟩,.inl rfl,fun y hy _=>Tr.get_put_neB _ _ _ _ trivial hy⟩
   ·simp only [List.length_nil,Nat.zero_add] at h1 h2
    simp only [eE,hu,a1,a2,and_self,if_true,h1,h2,tP]
   ·rw [List.append_nil];exact Tr.get_put_sameB _ _ _ trivial
 ·have hb:0+es.length≤es.length+tl.length:=by omega
  refine ⟨.sl a (ver+1) n 0 (es++cs).length,⟨S.next,S.heap.put a (.row (ver+1) n (es++cs))⟩,?_,x.set q1 q2 w _,rfl,⟨.inr ⟨a,ver+1,[],rfl,q1,q2,?_⟩,hlen⟩,.inr rfl,fun y _ hy=>Tr.get_put_neB _ _ _ _ trivial (fun e=>hy (by rw [e];rfl))⟩
  ·simp only [eE,hu,a1,a2,and_self,if_true,bW q3,hb,h1,h2,List.drop_zero,List.take_left',List.length_append]
  ·rw [List.append_nil];exact Tr.get_put_sameB _ _ _ trivial
theorem vb {S:St} (w:WF S) (n:Nat) (zs:List V) (x:V) (hz:zs.length=n) (hx:x.cells.length=n) (ho:aH x.cells=true):
  ∃ S1 S2,aY none S (.row 0 n [zs])=.ok (S.next,S1)∧fV n (.ptr S.next 0 0 0) x S1=.ok S2∧Ext S S2∧S2.heap.get S.next=some (.row 0 n [x.cells])∧S2.next=S.next+1:=
 ⟨_,_,eL ..,aQ4 S n zs x hz hx ho,Ext.var w n zs x.cells,aBd (aX6 S n zs x.cells),rfl⟩
theorem Sl.keep {S S':St} {n:Nat} {v:V} {es:List (List V)} (h:Sl S n v es) (hg:∀ y c,blkOf v=some y→S.heap.get y=some c→S'.heap.get y=some c):Sl S' n v es:=by
 refine ⟨?_,h.len⟩
 rcases h.is with h1 | h1 | ⟨a,ver,off,elems,h1,h2,h3⟩
 ·exact .inl h1
 ·exact .inr (.inl h1)
 ·exact .inr (.inr ⟨a,ver,off,elems,h1,bW (hg a _ (by rw [h1];rfl) (aBd h2)),h3⟩)
mutual
theorem zR:∀ v:V,eY v v=true
 | .bool b=>by simp [eY]
 | .int k n=>by simp [eY,cL]
 | .str s=>by rw [eY];rw [dB];simp
 | .nilp=>rfl
 | .ptr a b c d=>by simp [eY]
 | .iptr a b=>by simp [eY,beqVs_refl a]
 | .nils=>rfl
 | .sl a b c d f=>by simp [eY]
 | .imm a=>by simp [eY,beqVss_refl a]
 | .agg a=>by simp [eY,beqVs_refl a]
 | .tup a=>by simp [eY,beqVs_refl a]
 | .nili=>rfl
 | .iface t a=>by simp [eY,zR a]
 | .nilf=>rfl
 | .func f a b=>by simp [eY,beqVs_refl a,beqVs_refl b]
 | .nilm=>rfl
 | .mp a=>by simp [eY]
 | .res a b=>by simp [eY]
theorem beqVs_refl:∀ l:List V,beqVs l l=true
 | []=>rfl
 | a::l=>by simp [beqVs,zR a,beqVs_refl l]
theorem beqVss_refl:∀ l:List (List V),beqVss l l=true
 | []=>rfl
 | a::l=>by simp [beqVss,beqVs_refl a,beqVss_refl l]
end
end
section
mutual
def yD:V→Bool
 | .ptr _ _ _ _=>false
 | .nils=>false
 | .sl _ _ _ _ _=>false
 | .agg cs=>cloVs cs
 | .tup cs=>cloVs cs
 | .iface _ v=>yD v
 | .func _ a b=>cloVs a&&cloVs b
 | .mp _=>false
 | _=>true
def cloVs:List V→Bool
 | []=>true
 | v::l=>yD v&&cloVs l
end
mutual
theorem tU {ρ:Nat→Option Nat} {σ:V→R V}:∀ (v:V),yD v=true→cM ρ σ v=.ok v
 | .bool _,_ | .int _ _,_ | .str _,_ | .nilp,_ | .iptr _ _,_ | .imm _,_ | .nili,_ | .nilf,_ | .nilm,_ | .res _ _,_=>rfl
 | .agg cs,h=>by simp only [cM,clo_frzs cs h]
 | .tup cs,h=>by simp only [cM,clo_frzs cs h]
 | .iface t v,h=>by simp only [cM,tU v h]
 | .func f a b,h=>by
  simp only [yD,Bool.and_eq_true] at h
  simp only [cM,clo_frzs a h.1,clo_frzs b h.2]
theorem clo_frzs {ρ:Nat→Option Nat} {σ:V→R V}:∀ (l:List V),cloVs l=true→frzVs ρ σ l=.ok l
 | [],_=>rfl
 | v::l,h=>by
  simp only [cloVs,Bool.and_eq_true] at h
  simp only [frzVs,tU v h.1,clo_frzs l h.2]
end
mutual
theorem yE:∀ (v:V),yD v=true→uM v=[]
 | .bool _,_ | .int _ _,_ | .str _,_ | .nilp,_ | .iptr _ _,_ | .imm _,_ | .nili,_ | .nilf,_ | .nilm,_ | .res _ _,_=>rfl
 | .agg cs,h=>clo_ptrs cs h
 | .tup cs,h=>clo_ptrs cs h
 | .iface t v,h=>yE v h
 | .func f a b,h=>by
  simp only [yD,Bool.and_eq_true] at h
  simp only [uM,clo_ptrs a h.1,clo_ptrs b h.2,List.append_nil]
theorem clo_ptrs:∀ (l:List V),cloVs l=true→ptrsVs l=[]
 | [],_=>rfl
 | v::l,h=>by
  simp only [cloVs,Bool.and_eq_true] at h
  simp only [ptrsVs,yE v h.1,clo_ptrs l h.2,List.append_nil]
end
mutual
theorem aH8 {τ:V→List Nat}:∀ (v:V),yD v=true→fT τ v=[]
 | .bool _,_ | .int _ _,_ | .str _,_ | .nilp,_ | .iptr _ _,_ | .imm _,_ | .nili,_ | .nilf,_ | .nilm,_ | .res _ _,_=>rfl
 | .agg cs,h=>clo_sls cs h
 | .tup cs,h=>clo_sls cs h
 | .iface t v,h=>aH8 v h
 | .func f a b,h=>by
  simp only [yD,Bool.and_eq_true] at h
  simp only [fT,clo_sls a h.1,clo_sls b h.2,List.append_nil]
theorem clo_sls {τ:V→List Nat}:∀ (l:List V),cloVs l=true→slsVs τ l=[]
 | [],_=>rfl
 | v::l,h=>by
  simp only [cloVs,Bool.and_eq_true] at h
  simp only [slsVs,aH8 v h.1,clo_sls l h.2,List.append_nil]
end
theorem aCt:aE6 []=kO:=by funext i;cases i<;>rfl
theorem sM (l:List Nat):(l.any fun a=>Nat.blt a 0)=false:=by
 rw [List.any_eq_false]
 intro a _
 simp
def gK (S:St) (v:V):R V:=cM kO (lY (iZ S 3) S) v
theorem aS2 {run:List V→St→R (V×St)} {args:List V} (hc:cloVs args=true) {S S0:St} {v0 v:V} (h:run args ⟨0,.nil⟩=.ok (v0,S0)) (ho:gK S0 v0=.ok v):xE run args S=.ok (v,S):=by
 unfold xE
 have h1:gG (ptrsVs args)=[]:=by rw [clo_ptrs args hc];rfl
 have h2:slsVs (jV (gO S 3) S) args=[]:=clo_sls args hc
 have ho':cM (aE6 []) (lY (iZ S0 3) S0) v0=.ok v:=by rw [aCt];exact ho
 rw [h1,h2]
 simp only [clo_frzs args hc,jA,dH,List.append_nil,List.any_nil,cond_false,List.length_nil,xD,h,ho',tO,sM]
 cases jX v&&uN []<;>rfl
section
variable {P:Program} {pl:jB}
def W (P:Program) (pl:jB):aK:=fun f args S K=>∃ v S',Evt (fun k=>eV P pl k f args S) (v,S')∧K v S'
theorem aS3:nQ (eV P pl) (W P pl):=fun f args S K h=>h
theorem aL6 {f:FuncId} {args:List V} {S S':St} {v:V} (h:Evt (fun k=>eV P pl k f args S) (v,S')) (K:KW):W P pl f args S K=K v S':=by
 refine propext ⟨?_,fun h1=>⟨v,S',h,h1⟩⟩
 rintro ⟨v1,S1,h1,h2⟩
 cases h.eq h1
 exact h2
theorem oW {f:FuncId} {args:List V} {S:St} {r:V×St} (h:Evt (fun k=>eV P pl (k+1) f args S) r):Evt (fun k=>eV P pl k f args S) r:=by
 obtain ⟨N,h⟩:=h
 refine ⟨N+1,fun k hk=>?_⟩
 obtain ⟨k,rfl⟩:∃ m,k=m+1:=⟨k - 1,by omega⟩
 exact h k (by omega)
theorem aL7 {f:FuncId} {p:Nat→Option (List bM)} (hpl:pl f=some (.code p)) {lv:Nat→List Nat} {args:List V} {S:St} {K:KW} (h:dV P (W P pl) p lv f args S K):W P pl f args S K:=by
 obtain ⟨v,S',h1,h2⟩:=mT aS3 h
 exact ⟨v,S',oW (h1.one fun k h1=>by simp only [eV,hpl];exact h1),h2⟩
theorem aL8 {f:FuncId} {g:List V→St→R (V×St)} (hpl:pl f=some (.spec g)) {args:List V} {S S':St} {v:V} (h:g args S=.ok (v,S')) (K:KW):W P pl f args S K=K v S':=
 aL6 (oW (.of fun k=>by simp only [eV,hpl,h])) K
def Fn (P:Program) (pl:jB) (f:FuncId) (args:List V) (v:V):Prop:=∀ S,Evt (fun k=>eV P pl k f args S) (v,S)
theorem Fn.eq {f:FuncId} {args:List V} {v:V} (h:Fn P pl f args v) (S:St) (K:KW):W P pl f args S K=K v S:=aL6 (h S) K
theorem Fn.of {f:FuncId} {p:Nat→Option (List bM)} (hpl:pl f=some (.val p)) {lv:Nat→List Nat} {args:List V} {v:V} (hc:cloVs args=true)
  (h:dV P (W P pl) p lv f args ⟨0,.nil⟩ fun v0 S0=>gK S0 v0=.ok v):Fn P pl f args v:=by
 obtain ⟨v0,S0,h1,h2⟩:=mT aS3 h
 exact fun S=>oW (h1.one fun k h1=>by simp only [eV,hpl];exact aS2 hc h1 h2)
structure Pt (mk:Nat→List V):Prop where
 ptr:∀ a,gG (ptrsVs (mk a))=[a]
 frz:∀ a σ,frzVs (fun b=>rN b 0 [a]) σ (mk a)=.ok (mk 0)
 sls:∀ a τ,slsVs τ (mk a)=[]
theorem Pt.head {ver i j:Nat} {args:List V} (hc:cloVs args=true):Pt fun a=>.ptr a ver i j::args:=
 ⟨fun a=>by simp only [ptrsVs,uM,clo_ptrs args hc];rfl,fun a σ=>by simp only [frzVs,cM,rN,Nat.beq_refl,cond_true,clo_frzs args hc],fun a τ=>by simp only [slsVs,fT,clo_sls args hc,List.append_nil]⟩
theorem Pt.next {v:V} {mk:Nat→List V} (hv:yD v=true) (h:Pt mk):Pt fun a=>v::mk a:=
 ⟨fun a=>by simp only [ptrsVs,yE v hv,List.nil_append];exact h.ptr a,fun a σ=>by simp only [frzVs,tU v hv,h.frz],fun a τ=>by simp only [slsVs,aH8 v hv,h.sls,List.append_nil]⟩
theorem Pt.func {f:FuncId} {ver i j:Nat} {args:List V} (hc:cloVs args=true):Pt fun a=>.func f [] [.ptr a ver i j]::args:=
 ⟨fun a=>by simp only [ptrsVs,uM,clo_ptrs args hc];rfl,fun a σ=>by simp only [frzVs,cM,rN,Nat.beq_refl,cond_true,clo_frzs args hc],fun a τ=>by simp only [slsVs,fT,clo_sls args hc,List.append_nil]⟩
def FnR (P:Program) (pl:jB) (f:FuncId) (mk:Nat→List V) (ver n:Nat) (pre:List (List V)) (v:V) (post:List (List V)):Prop:=
 ∀ S a,S.heap.get a=some (.row ver n pre)→Evt (fun k=>eV P pl k f (mk a) S) (v,⟨S.next,S.heap.put a (.row ver n post)⟩)
theorem aMx {φ:List V→R (List V)}:∀ {l:List (List V)},(∀ x,x∈l→φ x=.ok x)→lX φ l=.ok l
 | [],_=>rfl
 | x::l,h=>by simp only [lX,h x (List.mem_cons_self ..),aMx fun y hy=>h y (List.mem_cons_of_mem _ hy)]
theorem aJ9 {φ:List V→List Nat}:∀ {l:List (List V)},(∀ x,x∈l→φ x=[])→lZ φ l=[]
 | [],_=>rfl
 | x::l,h=>by simp only [lZ,h x (List.mem_cons_self ..),aJ9 fun y hy=>h y (List.mem_cons_of_mem _ hy),List.append_nil]
theorem aX7 {S:St} {n:Nat} {x:List V} (h:cloVs x=true):iZ S (n+1) x=.ok x:=clo_frzs x h
theorem aX8 {S:St} {n:Nat} {x:List V} (h:cloVs x=true):gO S (n+1) x=[]:=clo_sls x h
theorem mV {S:St} {n:Nat} {l:List (List V)} (h:l.all cloVs=true):lX (iZ S (n+1)) l=.ok l∧lZ (gO S (n+1)) l=[]:=
 ⟨aMx fun x hx=>aX7 (List.all_eq_true.1 h x hx),aJ9 fun x hx=>aX8 (List.all_eq_true.1 h x hx)⟩
theorem aS4 {run:List V→St→R (V×St)} {mk:Nat→List V} (hm:Pt mk) {a ver n:Nat} {pre post post0:List (List V)} (hp:pre.all cloVs=true) {S S0:St} {v0 v:V} (hS:S.heap.get a=some (.row ver n pre))
  (h:run (mk 0) ⟨1,Tr.nil.put 0 (.row ver n pre)⟩=.ok (v0,S0)) (ho:∀ ρ,cM ρ (lY (iZ S0 3) S0) v0=.ok v) (hs:(fT (jV (gO S0 3) S0) v0).any (fun a=>Nat.blt a 1)=false) (h0:S0.heap.get 0=some (.row ver n post0)) (hq:lX (iZ S0 3) post0=.ok post)
  (hs2:(lZ (gO S0 3) post0).any (fun a=>Nat.blt a 1)=false):xE run (mk a) S=.ok (v,⟨S.next,S.heap.put a (.row ver n post)⟩):=by
 unfold xE
 obtain ⟨q1,q2⟩:=mV (S:=S) (n:=2) hp
 rw [hm.ptr,hm.sls]
 have hA:([]++dH S [a])=[]:=by simp only [dH,hS,q2,List.append_nil]
 have hB:(fT (jV (gO S0 3) S0) v0++dH S0 (tO 0 1)).any (fun a=>Nat.blt a 1)=false:=by
  simp only [tO,dH,h0,List.append_nil,List.any_append,hs,hs2,Bool.or_false]
 rw [hA]
 simp only [hm.frz,jA,hS,q1,List.any_nil,cond_false,List.length_cons,List.length_nil,Nat.zero_add,xD,h,ho,hB,pV]
 have:jA S0 (tO 0 1)=.ok [(ver,n,post)]:=by simp only [tO,jA,h0,hq]
 rw [this]
 simp only [rO,pV]
 cases jX v&&uN [(ver,n,post)]<;>rfl
theorem FnR.of {f:FuncId} {p:Nat→Option (List bM)} (hpl:pl f=some (.val p)) {lv:Nat→List Nat} {mk:Nat→List V} (hm:Pt mk) {ver n:Nat} {pre post:List (List V)} {v:V} (hp:pre.all cloVs=true)
  (h:dV P (W P pl) p lv f (mk 0) ⟨1,Tr.nil.put 0 (.row ver n pre)⟩ fun v0 S0=>v0=v∧S0.heap.get 0=some (.row ver n post)) (hv:yD v=true) (hq:post.all cloVs=true):FnR P pl f mk ver n pre v post:=by
 obtain ⟨v0,S0,h1,rfl,h2⟩:=mT aS3 h
 intro S a hS
 obtain ⟨q1,q2⟩:=mV (S:=S0) (n:=2) hq
 refine oW (h1.one fun k h1=>?_)
 simp only [eV,hpl]
 exact aS4 hm hp hS h1 (fun ρ=>tU v0 hv) (by rw [aH8 v0 hv];rfl) h2 q1 (by rw [q2];rfl)
theorem FnR.eq {f:FuncId} {mk:Nat→List V} {ver n:Nat} {pre post:List (List V)} {v:V} (h:FnR P pl f mk ver n pre v post) {S:St} {a:Nat} (hS:S.heap.get a=some (.row ver n pre)) (K:KW):
  W P pl f (mk a) S K=K v ⟨S.next,S.heap.put a (.row ver n post)⟩:=aL6 (h S a hS) K
theorem aCu {α:Type}:∀ (f:Nat) (t:Tr α) (n:Nat) (x:α),t.get n=some x→Tr.set f t n x=t
 | 0,t,n,x,_=>rfl
 | f+1,.nil,n,x,h=>by cases h
 | f+1,.node l v r,n,x,h=>by
  rw [Tr.get_node] at h
  simp only [Tr.set,cond_eq_ite,Nat.beq_eq]
  by_cases h0:n=0
  ·rw [if_pos h0] at h ⊢;rw [h]
  ·rw [if_neg h0] at h ⊢
   by_cases h1:n % 2=1
   ·rw [if_pos h1] at h ⊢;rw [aCu f l _ _ h]
   ·rw [if_neg h1] at h ⊢;rw [aCu f r _ _ h]
theorem aS5 {t:Tr Blk} {n:Nat} {x:Blk} (h:t.get n=some x):t.put n x=t:=aCu _ t n x h
theorem FnR.eq_same {f:FuncId} {mk:Nat→List V} {ver n:Nat} {pre:List (List V)} {v:V} (h:FnR P pl f mk ver n pre v pre) {S:St} {a:Nat} (hS:S.heap.get a=some (.row ver n pre)) (K:KW):W P pl f (mk a) S K=K v S:=by
 rw [h.eq hS K,aS5 hS]
theorem aS6 {run:List V→St→R (V×St)} {args bs:List V} {S:St} (hb:frzVs kO (lY (iZ S 3) S) args=.ok bs) (hp:ptrsVs args=[]) {S0:St} {v0 v:V} (h:run bs ⟨0,.nil⟩=.ok (v0,S0)) (ho:gK S0 v0=.ok v)
  (hk:jX v=true∨slsVs (jV (gO S 3) S) args=[]):xE run args S=.ok (v,S):=by
 unfold xE
 have h1:gG (ptrsVs args)=[]:=by rw [hp];rfl
 have ho':cM (aE6 []) (lY (iZ S0 3) S0) v0=.ok v:=by rw [aCt];exact ho
 have hi:(fun a=>rN a 0 ([]:List Nat))=kO:=rfl
 have hh:∀ l:List Nat,(l.any fun a=>gQ a [])=false:=by intro l;rw [List.any_eq_false];intro a _;simp [gQ]
 rw [h1]
 simp only [hi,hb,jA,dH,hh,cond_false,List.length_nil,xD,h,ho',tO,sM,List.append_nil]
 rcases hk with hk | hk
 ·rw [hk];rfl
 ·rw [hk]
  cases jX v&&uN []<;>rfl
theorem Fn.frz {f:FuncId} {bs:List V} {v:V} (h:Fn P pl f bs v) {p:Nat→Option (List bM)} (hpl:pl f=some (.val p)) (hc:cloVs bs=true) {args:List V} {S:St} (hb:frzVs kO (lY (iZ S 3) S) args=.ok bs) (hp:ptrsVs args=[]) (hk:jX v=true∨slsVs (jV (gO S 3) S) args=[])
  (K:KW):W P pl f args S K=K v S:=by
 refine aL6 ?_ K
 obtain ⟨N,h⟩:=h ⟨0,.nil⟩
 refine ⟨N+1,fun k hk'=>?_⟩
 obtain ⟨k,rfl⟩:∃ m,k=m+1:=⟨k - 1,by omega⟩
 have:=h (k+1) (by omega)
 simp only [eV,hpl] at this ⊢
 unfold xE at this
 have e1:gG (ptrsVs bs)=[]:=by rw [clo_ptrs bs hc];rfl
 have e2:slsVs (jV (gO (⟨0,.nil⟩:St) 3) ⟨0,.nil⟩) bs=[]:=clo_sls bs hc
 rw [e1,e2] at this
 simp only [clo_frzs bs hc,jA,dH,List.append_nil,List.any_nil,cond_false,List.length_nil,xD,tO,sM] at this
 split at this
 ·cases this
 ·rename_i v0 S0 hrun
  split at this
  ·cases this
  ·rename_i v' hv'
   have hv:v'=v:=(Prod.mk.inj (Except.ok.inj this)).1
   subst hv
   rw [aCt] at hv'
   exact aS6 hb hp hrun hv' hk
def sN (mask:List Nat) (v:V) (S2:St) (S:St):R (V×St):=match aAy S2 mask 0 S.next v.cells with
 | .error e=>.error e
 | .ok r=>match jA S2 r.2 with
  | .error e=>.error e
  | .ok rows=>match pW v r.1 with
   | .error e=>.error e
   | .ok v'=>bif aEu r.2&&!(vE S2 mask 0 v.cells++dH S2 r.2).any (fun a=>gQ a r.2) then .ok (v',⟨S.next+r.2.length,pV (tO S.next r.2.length) rows S.heap⟩) else .error "blocks"
theorem bEe {f:FuncId} {p:Nat→Option (List bM)} {mask:List Nat} (hpl:pl f=some (.own p mask)) (hm:gQ kpN mask=false) {lv:Nat→List Nat} {args:List V} (hc:cloVs args=true) {S:St} {K:KW}
  (h:dV P (W P pl) p lv f args ⟨0,.nil⟩ fun v0 S0=>wR (sN mask v0 S0 S) fun r=>K r.1 r.2):W P pl f args S K:=by
 obtain ⟨v0,S0,h1,h2⟩:=mT aS3 h
 obtain ⟨r,h3,h4⟩:=bZ h2
 refine ⟨r.1,r.2,oW (h1.one fun k h1=>?_),h4⟩
 simp only [eV,hpl]
 unfold aKl aRe
 rw [hm]
 have e2:slsVs (jV (gO S 3) S) args=[]:=clo_sls args hc
 simp only [cond_false,clo_frzs args hc,h1,e2,rO]
 exact h3
def FnK (P:Program) (pl:jB) (f:FuncId) (bs:List V) (v:V):Prop:=∀ (S:St) (args:List V),frzVs kO (lY (iZ S 3) S) args=.ok bs→Evt (fun k=>eV P pl k f args S) (v,S)
theorem FnK.of {f:FuncId} {p:Nat→Option (List bM)} (hpl:pl f=some (.own p [kpN])) {lv:Nat→List Nat} {bs:List V} {v:V}
  (h:dV P (W P pl) p lv f bs ⟨0,.nil⟩ fun v0 S0=>aEv S0 v0=true∧gK S0 v0=.ok v):FnK P pl f bs v:=by
 obtain ⟨v0,S0,h1,h2,h3⟩:=mT aS3 h
 intro S args hb
 refine oW (h1.one fun k h1=>?_)
 simp only [eV,hpl]
 have h3:cM kO (lY (iZ S0 3) S0) v0=.ok v:=h3
 have hm:gQ kpN [kpN]=true:=rfl
 unfold aKl aId
 simp only [hm,cond_true,hb,h1,h3,h2]
theorem FnK.eq {f:FuncId} {bs:List V} {v:V} (h:FnK P pl f bs v) (hc:cloVs bs=true) (S:St) (K:KW):W P pl f bs S K=K v S:=aL6 (h S bs (clo_frzs bs hc)) K
theorem bCy {f:FuncId} {args:List V} {S:St} {K:KW} (h:W P pl f args S K):∃ k v S',K v S'∧eV P pl k f args S=.ok (v,S'):=by
 obtain ⟨v,S',⟨N,h⟩,k⟩:=h
 exact ⟨N,v,S',k,h N (Nat.le_refl _)⟩
theorem aFd {F:List V→St→(List V→St→Prop)→Prop} (n:Nat) (I:Nat→List V→St→Prop)
  (h:∀ i vs S,i≤n→I i vs S→∀ aE:List V→St→Prop,(∀ vs' S',i<n→I (i+1) vs' S'→aE vs' S')→F vs S aE) {vs:List V} {S:St} (h0:I 0 vs S):iC vs S F:=by
 have:∀ m i vs S,i+m=n→I i vs S→aA9 (m+1) vs S F:=by
  intro m
  induction m with
  | zero=>intro i vs S hi hI;exact h i vs S (by omega) hI _ fun vs' S' hlt _=>by omega
  | succ m ih=>intro i vs S hi hI;exact h i vs S (by omega) hI _ fun vs' S' hlt hI'=>ih (i+1) vs' S' (by omega) hI'
 exact ⟨n+1,this n 0 vs S (by omega) h0⟩
theorem aCv {F:List V→St→(List V→St→Prop)→Prop} (I:Nat→List V→St→Prop)
  (h:∀ i vs S,I i vs S→∀ aE:List V→St→Prop,(∀ j vs' S',j<i→I j vs' S'→aE vs' S')→F vs S aE) {n:Nat} {vs:List V} {S:St} (h0:I n vs S):iC vs S F:=by
 refine aFd n (fun i vs S=>∃ j,j+i≤n∧I j vs S) ?_ ⟨n,by omega,h0⟩
 rintro i vs S hi ⟨j,hj,hI⟩ aE ha
 exact h j vs S hI aE fun j' vs' S' hlt hI'=>ha vs' S' (by omega) ⟨j',by omega,hI'⟩
theorem aF {F:List V→St→(List V→St→Prop)→Prop} {α σ ρ:Type} (l:List α) {step:σ→α→ρ⊕σ} {fin:σ→ρ} (I:Nat→σ→List V→St→Prop) (E:ρ→Prop)
  (hs:∀ i a s vs S,l[i]?=some a→I i s vs S→∀ aE:List V→St→Prop,(match step s a with
   | .inl r=>E r
   | .inr s'=>∀ vs' S',I (i+1) s' vs' S'→aE vs' S')→F vs S aE)
  (he:∀ s vs S,I l.length s vs S→∀ aE:List V→St→Prop,E (fin s)→F vs S aE) {s:σ} {vs:List V} {S:St} (h0:I 0 s vs S) (hE:E (aD step fin l s)):iC vs S F:=by
 refine aFd l.length (fun i vs S=>∃ s,I i s vs S∧E (aD step fin (l.drop i) s)) ?_ ⟨s,h0,hE⟩
 rintro i vs S hi ⟨s,hI,hE⟩ aE ha
 by_cases hl:i=l.length
 ·subst hl
  rw [List.drop_length] at hE
  exact he s vs S hI aE hE
 ·have hlt:i<l.length:=by omega
  have ha':l[i]?=some l[i]:=List.getElem?_eq_getElem hlt
  rw [List.drop_eq_getElem_cons hlt] at hE
  refine hs i _ s vs S ha' hI aE ?_
  simp only [aD] at hE
  split
  ·rename_i r hr
   rw [hr] at hE;exact hE
  ·rename_i s' hr
   rw [hr] at hE
   exact fun vs' S' hI'=>ha vs' S' hlt ⟨s',hI',hE⟩
end
end
section
theorem aJa {d t:Nat} (h:d≠t):Nat.beq d t=false:=Bool.eq_false_iff.2 fun h'=>h (Nat.eq_of_beq_eq_true h')
theorem aS7 {α:Type} {x y:R α} (K:α→Prop) (h:x=y):wR x K=wR y K:=by rw [h]
theorem aS8 {α:Type} {x y:Option α} (K:α→Prop) (h:x=y):wO x K=wO y K:=by rw [h]
theorem aQ5 {b c:Bool} (x:Prop) (h:b=c):wW b x=wW c x:=by rw [h]
theorem aJb {v w:V} (x y:Prop) (h:v=w):aL v x y=aL w x y:=by rw [h]
theorem aL9 {v w:V} (i:Nat) (K:V→Prop) (h:v=w):fU v i K=fU w i K:=by rw [h]
theorem aQ6 {v w:List V} (K:V→List V→Prop) (h:v=w):vP v K=vP w K:=by rw [h]
theorem aLa {v w:V} (x:Prop) (h:v=w):zP v x=zP w x:=by rw [h]
theorem aJc {vs ws:List V} {S T:St} (F:List V→St→(List V→St→Prop)→Prop) (h:vs=ws) (g:S=T):iC vs S F=iC ws T F:=by rw [h,g]
theorem aX9 (P:Program) (pl:jB) (f:FuncId) {a b:List V} {S T:St} (K:KW) (h:a=b) (g:S=T):W P pl f a S K=W P pl f b T K:=by rw [h,g]
attribute [congr] aX9 aS7 aS8 aQ5 aJb aL9 aQ6 aLa aJc
def wG:List Oper→Nat→(Nat→Prop)→Prop
 | [],_,_=>False
 | o::_,0,K=>wO o.dst K
 | _::l,j+1,K=>wG l j K
def wI:List Oper→Nat→(Oper→Prop)→Prop
 | [],_,_=>False
 | o::_,0,K=>K o
 | _::l,j+1,K=>wI l j K
theorem aFe (K:Oper→Prop):∀ (l:List Oper) (j:Nat),wO l.toArray[j]? K=wI l j K
 | [],j=>by simp [wO,wI]
 | o::l,0=>by simp [wO,wI]
 | o::l,j+1=>by rw [wI,←aFe K l j];simp
theorem aS9 (K:Nat→Prop):∀ (l:List Oper) (j:Nat),wO (mL l.toArray j) K=wG l j K
 | [],j=>by simp [wO,wG,mL]
 | o::l,0=>by simp [wG,mL]
 | o::l,j+1=>by rw [wG,←aS9 K l j];simp [mL]
def hl {α:Type} (a:α):α:=a
theorem aYx {α:Type} (a:α):hl a=a:=Eq.trans rfl rfl
def wLn:List Oper→List Nat→Nat→(Nat→Prop)→Prop
 | [],[],i,K=>K i
 | [],k::_,i,K=>K k
 | _::l,[],i,K=>wLn l [] (i+1) K
 | _::l,_::ks,i,K=>wLn l ks (i+1) K
def vS:Nat→List Nat→Prop
 | _,[]=>True
 | i,k::l=>k=i∧vS (i+1) l
theorem aLb (K:Nat→Prop):∀ (l:List Oper) (ks:List Nat) (i:Nat),vS i ks→wLn l ks i K=K (i+l.length)
 | [],[],i,h=>rfl
 | [],k::ks,i,h=>by rw [wLn,h.1];rfl
 | o::l,[],i,h=>by rw [wLn,aLb K l [] (i+1) trivial];congr 1;simp;omega
 | o::l,k::ks,i,h=>by rw [wLn,aLb K l ks (i+1) h.2];congr 1;simp;omega
def wLv:List (Nat×List Nat)→Nat→(List Nat→Prop)→Prop
 | [],_,K=>K []
 | (i,l)::r,j,K=>match Nat.beq i j with
  | true=>K l
  | false=>wLv r j K
def jL:List (Nat×List Nat)→Nat→List Nat
 | [],_=>[]
 | (i,l)::r,j=>match Nat.beq i j with
  | true=>l
  | false=>jL r j
theorem aLc (K:List Nat→Prop):∀ (t:List (Nat×List Nat)) (j:Nat),wLv t j K=K (jL t j)
 | [],j=>rfl
 | (i,l)::r,j=>by
  simp only [wLv,jL,aLc K r j]
  cases Nat.beq i j<;>rfl
theorem aQ7 {j k:Nat} (t:List (Nat×List Nat)) (K:List Nat→Prop) (h:j=k):wLv t j K=wLv t k K:=by rw [h]
attribute [congr] aQ7
def wSt:List (Nat×List bM)→Nat→(List bM→Prop)→Prop→Prop
 | [],_,_,x=>x
 | (i,l)::r,j,K,x=>match Nat.beq i j with
  | true=>K l
  | false=>wSt r j K x
def fY (t:List (Nat×List bM)) (id:Nat):Option (List bM):=iA id t
section
variable (P:Program) (C:aK) (n:Nat)
def yF (ops:Array Oper) (base:Nat):List Oper→List Nat→Nat→List Nat→aR→St→mC→Prop
 | [],_,_,_,e,S,K=>K e S
 | o::l,[],i,sk,e,S,K=>jY P C n ops sk o (some (base+i)) e S fun ran _ e' S'=>yF ops base l [] (i+1) (xY ran i sk) e' S' K
 | o::l,k::ks,i,sk,e,S,K=>jY P C n ops sk o (some (base+k)) e S fun ran _ e' S'=>yF ops base l ks (i+1) (xY ran k sk) e' S' K
def aH9 (ops:Array Oper):List Oper→List Nat→Nat→List Nat→aR→St→mC→Prop
 | [],_,_,_,e,S,K=>K e S
 | o::l,[],i,sk,e,S,K=>jY P C n ops sk o none e S fun ran _ e' S'=>aH9 ops l [] (i+1) (xY ran i sk) e' S' K
 | o::l,k::ks,i,sk,e,S,K=>jY P C n ops sk o none e S fun ran _ e' S'=>aH9 ops l ks (i+1) (xY ran k sk) e' S' K
theorem nR {ops:Array Oper} {sk:List Nat} {o:Oper} {fr:Option Nat} {e:aR} {S:St} {K K':Bool→V→aR→St→Prop} (h:∀ b v e S,K b v e S=K' b v e S):jY P C n ops sk o fr e S K=jY P C n ops sk o fr e S K':=by
 rw [show K=K' from funext fun b=>funext fun v=>funext fun e=>funext fun S=>h b v e S]
def qM:Nat→Nat→List bM
 | _,0=>[]
 | i,k+1=>(i,[])::qM (i+1) k
theorem aAg:∀ (k i:Nat),qM i (k+1)=qM i k++[(i+k,[])]
 | 0,i=>rfl
 | k+1,i=>by
  rw [qM,aAg k (i+1),qM]
  simp only [List.cons_append,Nat.add_assoc,Nat.add_comm 1 k]
theorem aJe:∀ k,aIc k=qM 0 k
 | 0=>rfl
 | k+1=>by rw [aIc,aJe k,aAg,Nat.zero_add]
theorem aCw (ops:Array Oper) (base:Nat) (K:mC):∀ (l:List Oper) (ks:List Nat) (i:Nat) (sk:List Nat) (recs:List rW) (e:aR) (S:St),vS i ks→(∀ k,ops[i+k]?=l[k]?)→rK P C n ops base (qM i l.length) sk recs e S K=yF P C n ops base l ks i sk e S K
 | [],ks,i,sk,recs,e,S,_,h=>by cases ks<;>rfl
 | o::l,ks,i,sk,recs,e,S,hk,h=>by
  have h0:ops[i]?=some o:=h 0
  cases ks with
  | nil=>
   simp only [List.length_cons,qM,rK,yF,h0,wO,qK]
   exact nR P C n fun b v e S=>aCw ops base K l [] (i+1) _ _ e S trivial fun k=>by have:=h (k+1);rw [show i+1+k=i+(k+1) by omega,this];simp
  | cons k ks=>
   obtain ⟨rfl,hk⟩:=hk
   simp only [List.length_cons,qM,rK,yF,h0,wO,qK]
   exact nR P C n fun b v e S=>aCw ops base K l ks (k+1) _ _ e S hk fun j=>by have:=h (j+1);rw [show k+1+j=k+(j+1) by omega,this];simp
theorem aHa (ops:Array Oper) (K:mC):∀ (l:List Oper) (ks:List Nat) (i:Nat) (sk:List Nat) (e:aR) (S:St),vS i ks→aL2 P C n ops l i sk e S K=aH9 P C n ops l ks i sk e S K
 | [],ks,i,sk,e,S,_=>by cases ks<;>rfl
 | o::l,[],i,sk,e,S,hk=>by
  simp only [aL2,aH9]
  exact nR P C n fun b v e S=>aHa ops K l [] (i+1) _ e S trivial
 | o::l,k::ks,i,sk,e,S,hk=>by
  obtain ⟨rfl,hk⟩:=hk
  simp only [aL2,aH9]
  exact nR P C n fun b v e S=>aHa ops K l ks (k+1) _ e S hk
def aLe (id:Nat) (Kn:mC) (Kx:KXW):KXW:=fun j e S=>match Nat.beq j id with
 | true=>Kn e S
 | false=>Kx j e S
def aYy (p:Nat→Option (List bM)) (lv:Nat→List Nat) (a:Code) (e:aR) (Kx:KXW) (Kr:mC) (vs:List V) (S:St) (aE:List V→St→Prop):Prop:=
 aH7 (lv (bJ a)) vs (e.filt fun t=>!mB a t) fun e=>dU P C n p lv a e S (fun e S=>mS e (lv (bJ a)) fun vs=>aE vs S) Kx Kr
end
section
variable {P:Program} {C:aK} {n:Nat} {tp:List (Nat×List bM)} {tl:List (Nat×List Nat)}
theorem aMy:(∀ (e:aR) (t:Nat) (K:V→Prop),wO (ev e (.tmp t)) K=wO (e.get t) K)∧(∀ (e:aR) (v:Value) (K:V→Prop),wO (ev e (.const v)) K=wO (ofValue v) K)∧(∀ (e:aR) (f:Nat) (K:V→Prop),wO (ev e (.func f)) K=K (.func f [] [])) ∧
  (∀ (e:aR) (t:Nat) (v:V) (K:V→Prop),wO ((e.put t v).get t) K=K v)∧(∀ (b:Bool) (K:V→Prop),wO (ofValue (.bool b)) K=K (.bool b))∧(∀ (k:IntKind) (i:Int) (K:V→Prop),wO (ofValue (.int k i)) K=K (.int k i)) ∧
  (∀ (l:List UInt8) (K:V→Prop),wO (ofValue (.string ⟨l.toArray⟩)) K=K (.str l))∧(∀ (K:V→Prop),wO (ofValue (.slice none 0 0)) K=K .nils)∧(∀ (K:V→Prop),wO (ofValue (.pointer none)) K=K .nilp)∧(∀ (K:V→Prop),wO (ofValue .nilIface) K=K .nili)∧(∀ (K:V→Prop),wO (ofValue .nilFunc) K=K .nilf)∧(∀ (K:V→Prop),wO (ofValue (.map none)) K=K .nilm) ∧
  (∀ (l:List Value) (K:V→Prop),wO (ofValue (.agg l.toArray)) K=wO (lH l) fun xs=>K (.agg xs))∧(∀ (K:List V→Prop),wO (lH []) K=K [])∧(∀ (v:Value) (l:List Value) (K:List V→Prop),wO (lH (v::l)) K=wO (oQ v) fun x=>wO (lH l) fun xs=>K (x::xs)) ∧
  (∀ (b:Bool) (K:V→Prop),wO (oQ (.bool b)) K=K (.bool b))∧(∀ (k:IntKind) (i:Int) (K:V→Prop),wO (oQ (.int k i)) K=K (.int k i))∧(∀ (l:List UInt8) (K:V→Prop),wO (oQ (.string ⟨l.toArray⟩)) K=K (.str l))∧(∀ (K:V→Prop),wO (oQ (.slice none 0 0)) K=K .nils)∧(∀ (K:V→Prop),wO (oQ (.pointer none)) K=K .nilp) ∧
  (∀ (e:aR) (K:List V→Prop),wO (pN (ev e) []) K=K [])∧(∀ (e:aR) (x:Operand) (l:List Operand) (K:List V→Prop),wO (pN (ev e) (x::l)) K=wO (ev e x) fun v=>wO (pN (ev e) l) fun vs=>K (v::vs)) ∧
  (∀ (e:aR) (K:List (Nat×V)→Prop),wO (mQ (ev e) []) K=K [])∧(∀ (e:aR) (i:Nat) (x:Operand) (l:List (Nat×Operand)) (K:List (Nat×V)→Prop),wO (mQ (ev e) ((i,x)::l)) K=wO (ev e x) fun v=>wO (mQ (ev e) l) fun vs=>K ((i,v)::vs)) ∧
  (∀ (e:aR) (K:Option V→Prop),wO (evO (ev e) none) K=K none)∧(∀ (e:aR) (x:Operand) (K:Option V→Prop),wO (evO (ev e) (some x)) K=wO (ev e x) fun v=>K (some v)):=by
 refine ⟨fun _ _ _=>rfl,fun _ _ _=>rfl,fun _ _ _=>rfl,fun e t v K=>by rw [Tr.get_put_sameB _ _ _ trivial];rfl,fun _ _=>rfl,fun _ _ _=>rfl,fun l K=>by simp [ofValue,oQ,wO],fun _=>rfl,fun _=>rfl,fun _=>rfl,fun _=>rfl,fun _=>rfl,
  fun l K=>?_,fun _=>rfl,fun v l K=>?_,fun _ _=>rfl,fun _ _ _=>rfl,fun l K=>by simp [oQ,wO],fun _=>rfl,fun _=>rfl,fun _ _=>rfl,fun e x l K=>?_,fun _ _=>rfl,fun e i x l K=>?_,fun _ _=>rfl,fun e x K=>?_⟩
 ·simp only [ofValue];cases lH l<;>rfl
 ·simp only [lH]
  cases oQ v with
  | none=>rfl
  | some x=>cases lH l<;>rfl
 ·simp only [pN]
  cases ev e x with
  | none=>rfl
  | some x=>cases pN (ev e) l<;>rfl
 ·simp only [mQ]
  cases ev e x with
  | none=>rfl
  | some x=>cases mQ (ev e) l<;>rfl
 ·simp only [evO];cases ev e x<;>rfl
theorem aYz {t d:Nat} (h:¬ t=d) (e:aR) (v:V) (K:V→Prop):wO ((e.put d v).get t) K=wO (e.get t) K:=by rw [Tr.get_put_neB _ _ _ _ trivial h]
theorem bEf {t d:Nat} (h:t<d) (e:aR) (v:V) (K:V→Prop):wO ((e.put d v).get t) K=wO (e.get t) K:=aYz (Nat.ne_of_lt h) e v K
theorem aZ0 {t d:Nat} (h:d<t) (e:aR) (v:V) (K:V→Prop):wO ((e.put d v).get t) K=wO (e.get t) K:=aYz (Nat.ne_of_gt h) e v K
def pL (l:List Code) (t:Nat):Bool:=l.any fun a=>mB a t
def dL (l:List Oper) (r:List Code) (t:Nat):Bool:=aCm l t||pL r t
theorem aXa (a:Code) (r:List Code) (t:Nat):pL (a::r) t=(mB a t||pL r t):=by simp [pL]
theorem aSa {a:Code} {t:Nat} (h:pL [a] t=false) (e:aR) (K:V→Prop):wO ((e.filt fun t=>!mB a t).get t) K=wO (e.get t) K:=by
 have h:mB a t=false:=by simpa [pL] using h
 rw [sK,if_pos (by rw [h];rfl)]
theorem aMz:(∀ t,pL [] t=false)∧(∀ (a b:Code) (r:List Code) (t:Nat),pL (.seq a b::r) t=pL (a::b::r) t)∧(∀ (c:Operand) (a b:Code) (r:List Code) (t:Nat),pL (.cond c a b::r) t=pL (a::b::r) t)∧(∀ (i:Nat) (a:Code) (r:List Code) (t:Nat),pL (.block i a::r) t=pL (a::r) t) ∧
  (∀ (a:Code) (r:List Code) (t:Nat),pL (.loop a::r) t=pL (a::r) t)∧(∀ (r:List Code) (t:Nat),pL (.skip::r) t=pL r t)∧(∀ (r:List Code) (t:Nat),pL (.ret::r) t=pL r t)∧(∀ (i:Nat) (r:List Code) (t:Nat),pL (.exit i::r) t=pL r t)∧(∀ (i:Nat) (r:List Code) (t:Nat),pL (.label i::r) t=pL r t) ∧
  (∀ (id:Nat) (l:List Oper) (d:Bool) (r:List Code) (t:Nat),pL (.region id l.toArray d::r) t=dL l r t)∧(∀ (r:List Code) (t:Nat),dL [] r t=pL r t)∧(∀ (op:Op) (ty:TypeId) (pos:String) (aft:Array Edge) (g:Option (Nat×Bool)) (l:List Oper) (r:List Code) (t:Nat),dL (⟨none,op,ty,pos,aft,g⟩::l) r t=dL l r t):=by
 refine ⟨fun _=>rfl,fun a b r t=>?_,fun c a b r t=>?_,fun i a r t=>?_,fun a r t=>?_,fun r t=>?_,fun r t=>?_,fun i r t=>?_,fun i r t=>?_,fun id l d r t=>?_,fun r t=>?_,fun op ty pos aft g l r t=>?_⟩
 all_goals simp only [aXa,mB,dL,aCm,Bool.false_or,Bool.or_assoc]
theorem aSb {d t:Nat} (h:¬ t=d) (op:Op) (ty:TypeId) (pos:String) (aft:Array Edge) (g:Option (Nat×Bool)) (l:List Oper) (r:List Code):dL (⟨some d,op,ty,pos,aft,g⟩::l) r t=dL l r t:=by
 simp only [dL,aCm,aJa (Ne.symm h),Bool.false_or]
theorem aZ1 {d t:Nat} (h:t<d) (op:Op) (ty:TypeId) (pos:String) (aft:Array Edge) (g:Option (Nat×Bool)) (l:List Oper) (r:List Code):dL (⟨some d,op,ty,pos,aft,g⟩::l) r t=dL l r t:=aSb (Nat.ne_of_lt h) ..
theorem aSc {d t:Nat} (h:d<t) (op:Op) (ty:TypeId) (pos:String) (aft:Array Edge) (g:Option (Nat×Bool)) (l:List Oper) (r:List Code):dL (⟨some d,op,ty,pos,aft,g⟩::l) r t=dL l r t:=aSb (Nat.ne_of_gt h) ..end
def sO (P:Program) (u:TypeId):Bool:=match P.underlying u with
 | some (.slice _)=>true
 | some .string=>true
 | _=>false
theorem aLf {α:Type} (x:Option α) {K K':α→Prop} (h:∀ a,K a=K' a):wO x K=wO x K':=by rw [show K=K' from funext h]
theorem aXb (e:aR) (x:Operand) (K:List V→Prop):wO (pN (ev e) [x]) K=wO (ev e x) fun v=>K [v]:=by simp only [pN];cases ev e x<;>rfl
theorem aXc (e:aR) (x y:Operand) (K:List V→Prop):wO (pN (ev e) [x,y]) K=wO (ev e x) fun v=>wO (ev e y) fun w=>K [v,w]:=by
 simp only [pN]
 cases ev e x with
 | none=>rfl
 | some a=>cases ev e y<;>rfl
theorem aN0 (P:Program) (C:aK):(∀ (x:Operand) (d:Option Tmp) (ty:TypeId) (pos:String) (aft:Array Edge) (g:Option (Nat×Bool)) (fr:Option Nat) (e:aR) (S:St) (K:KW),iY P C ⟨d,.move x,ty,pos,aft,g⟩ fr e S K=wO (ev e x) fun v=>K v S) ∧
  (∀ (x:Operand) (d:Option Tmp) (ty:TypeId) (pos:String) (aft:Array Edge) (g:Option (Nat×Bool)) (fr:Option Nat) (e:aR) (S:St) (K:KW),iY P C ⟨d,.assign x,ty,pos,aft,g⟩ fr e S K=wO (ev e x) fun v=>K v S) ∧
  (∀ (c a b:Operand) (d:Option Tmp) (ty:TypeId) (pos:String) (aft:Array Edge) (g:Option (Nat×Bool)) (fr:Option Nat) (e:aR) (S:St) (K:KW),iY P C ⟨d,.pick c a b,ty,pos,aft,g⟩ fr e S K=wO (ev e c) fun c=>wO (ev e a) fun a=>wO (ev e b) fun b=>wR (hl (aJ3 c a b)) fun v=>K v S) ∧
  (∀ (t:TypeId) (d:Option Tmp) (ty:TypeId) (pos:String) (aft:Array Edge) (g:Option (Nat×Bool)) (fr:Option Nat) (e:aR) (S:St) (K:KW),iY P C ⟨d,.alloc t,ty,pos,aft,g⟩ fr e S K=wO (aJ P t) fun z=>wR (hl (aY fr S (.row 0 z.cells.length [z.cells]))) fun r=>K (.ptr r.1 0 0 0) r.2) ∧
  (∀ (u:TypeId) (x:Operand) (d:Option Tmp) (ty:TypeId) (pos:String) (aft:Array Edge) (g:Option (Nat×Bool)) (fr:Option Nat) (e:aR) (S:St) (K:KW),iY P C ⟨d,.box u x,ty,pos,aft,g⟩ fr e S K=wO (ev e x) fun v=>wW (hl (aH v.cells)) (wR (hl (aY fr S (.row 0 v.cells.length [v.cells]))) fun r=>K (.ptr r.1 0 0 0) r.2)) ∧
  (∀ (t:TypeId) (ps:List (Nat×Operand)) (d:Option Tmp) (ty:TypeId) (pos:String) (aft:Array Edge) (g:Option (Nat×Bool)) (fr:Option Nat) (e:aR) (S:St) (K:KW),iY P C ⟨d,.build t ps.toArray,ty,pos,aft,g⟩ fr e S K=wO (mQ (ev e) ps) fun vs=>wR (hl (oI P t vs)) fun v=>K v S) ∧
  (∀ (t:TypeId) (m:Nat) (ps:List (Nat×Operand)) (d:Option Tmp) (ty:TypeId) (pos:String) (aft:Array Edge) (g:Option (Nat×Bool)) (fr:Option Nat) (e:aR) (S:St) (K:KW),iY P C ⟨d,.buildSlice t m ps.toArray,ty,pos,aft,g⟩ fr e S K=wO (mQ (ev e) ps) fun vs=>wR (hl (cP P t m vs fr S)) fun r=>K r.1 r.2) ∧
  (∀ (t:TypeId) (a:Operand) (d:Option Tmp) (ty:TypeId) (pos:String) (aft:Array Edge) (g:Option (Nat×Bool)) (fr:Option Nat) (e:aR) (S:St) (K:KW),iY P C ⟨d,.load t a,ty,pos,aft,g⟩ fr e S K=wO (ev e a) fun p=>wR (hl (lQ P t p S)) fun v=>K v S) ∧
  (∀ (t:TypeId) (a x:Operand) (d:Option Tmp) (ty:TypeId) (pos:String) (aft:Array Edge) (g:Option (Nat×Bool)) (fr:Option Nat) (e:aR) (S:St) (K:KW),iY P C ⟨d,.store t a x,ty,pos,aft,g⟩ fr e S K=wO (ev e a) fun p=>wO (ev e x) fun v=>wR (hl (oH P t p v S)) fun S'=>K (.tup []) S') ∧
  (∀ (x:Operand) (d:Option Tmp) (ty:TypeId) (pos:String) (aft:Array Edge) (g:Option (Nat×Bool)) (fr:Option Nat) (e:aR) (S:St) (K:KW),iY P C ⟨d,.nilCheck x,ty,pos,aft,g⟩ fr e S K=wO (ev e x) fun v=>zP (hl v) (K v S)) ∧
  (∀ (t u:TypeId) (x y:Operand) (d:Option Tmp) (ty:TypeId) (pos:String) (aft:Array Edge) (g:Option (Nat×Bool)) (fr:Option Nat) (e:aR) (S:St) (K:KW),iY P C ⟨d,.binOp .add t x y u,ty,pos,aft,g⟩ fr e S K=wO (ev e x) fun a=>wO (ev e y) fun b=>wR (hl (bQ P .add t a b)) fun v=>K v S) ∧
  (∀ (t u:TypeId) (x y:Operand) (d:Option Tmp) (ty:TypeId) (pos:String) (aft:Array Edge) (g:Option (Nat×Bool)) (fr:Option Nat) (e:aR) (S:St) (K:KW),iY P C ⟨d,.binOp .sub t x y u,ty,pos,aft,g⟩ fr e S K=wO (ev e x) fun a=>wO (ev e y) fun b=>wR (hl (bQ P .sub t a b)) fun v=>K v S) ∧
  (∀ (t u:TypeId) (x y:Operand) (d:Option Tmp) (ty:TypeId) (pos:String) (aft:Array Edge) (g:Option (Nat×Bool)) (fr:Option Nat) (e:aR) (S:St) (K:KW),iY P C ⟨d,.binOp .mul t x y u,ty,pos,aft,g⟩ fr e S K=wO (ev e x) fun a=>wO (ev e y) fun b=>wR (hl (bQ P .mul t a b)) fun v=>K v S) ∧
  (∀ (t u:TypeId) (x y:Operand) (d:Option Tmp) (ty:TypeId) (pos:String) (aft:Array Edge) (g:Option (Nat×Bool)) (fr:Option Nat) (e:aR) (S:St) (K:KW),iY P C ⟨d,.binOp .quo t x y u,ty,pos,aft,g⟩ fr e S K=wO (ev e x) fun a=>wO (ev e y) fun b=>wR (hl (bQ P .quo t a b)) fun v=>K v S) ∧
  (∀ (t u:TypeId) (x y:Operand) (d:Option Tmp) (ty:TypeId) (pos:String) (aft:Array Edge) (g:Option (Nat×Bool)) (fr:Option Nat) (e:aR) (S:St) (K:KW),iY P C ⟨d,.binOp .rem t x y u,ty,pos,aft,g⟩ fr e S K=wO (ev e x) fun a=>wO (ev e y) fun b=>wR (hl (bQ P .rem t a b)) fun v=>K v S) ∧
  (∀ (t u:TypeId) (x y:Operand) (d:Option Tmp) (ty:TypeId) (pos:String) (aft:Array Edge) (g:Option (Nat×Bool)) (fr:Option Nat) (e:aR) (S:St) (K:KW),iY P C ⟨d,.binOp .and t x y u,ty,pos,aft,g⟩ fr e S K=wO (ev e x) fun a=>wO (ev e y) fun b=>wR (hl (bQ P .and t a b)) fun v=>K v S) ∧
  (∀ (t u:TypeId) (x y:Operand) (d:Option Tmp) (ty:TypeId) (pos:String) (aft:Array Edge) (g:Option (Nat×Bool)) (fr:Option Nat) (e:aR) (S:St) (K:KW),iY P C ⟨d,.binOp .or t x y u,ty,pos,aft,g⟩ fr e S K=wO (ev e x) fun a=>wO (ev e y) fun b=>wR (hl (bQ P .or t a b)) fun v=>K v S) ∧
  (∀ (t u:TypeId) (x y:Operand) (d:Option Tmp) (ty:TypeId) (pos:String) (aft:Array Edge) (g:Option (Nat×Bool)) (fr:Option Nat) (e:aR) (S:St) (K:KW),iY P C ⟨d,.binOp .xor t x y u,ty,pos,aft,g⟩ fr e S K=wO (ev e x) fun a=>wO (ev e y) fun b=>wR (hl (bQ P .xor t a b)) fun v=>K v S) ∧
  (∀ (t u:TypeId) (x y:Operand) (d:Option Tmp) (ty:TypeId) (pos:String) (aft:Array Edge) (g:Option (Nat×Bool)) (fr:Option Nat) (e:aR) (S:St) (K:KW),iY P C ⟨d,.binOp .andNot t x y u,ty,pos,aft,g⟩ fr e S K=wO (ev e x) fun a=>wO (ev e y) fun b=>wR (hl (bQ P .andNot t a b)) fun v=>K v S) ∧
  (∀ (t u:TypeId) (x y:Operand) (d:Option Tmp) (ty:TypeId) (pos:String) (aft:Array Edge) (g:Option (Nat×Bool)) (fr:Option Nat) (e:aR) (S:St) (K:KW),iY P C ⟨d,.binOp .shl t x y u,ty,pos,aft,g⟩ fr e S K=wO (ev e x) fun a=>wO (ev e y) fun b=>wR (hl (bQ P .shl t a b)) fun v=>K v S) ∧
  (∀ (t u:TypeId) (x y:Operand) (d:Option Tmp) (ty:TypeId) (pos:String) (aft:Array Edge) (g:Option (Nat×Bool)) (fr:Option Nat) (e:aR) (S:St) (K:KW),iY P C ⟨d,.binOp .shr t x y u,ty,pos,aft,g⟩ fr e S K=wO (ev e x) fun a=>wO (ev e y) fun b=>wR (hl (bQ P .shr t a b)) fun v=>K v S) ∧
  (∀ (t u:TypeId) (x y:Operand) (d:Option Tmp) (ty:TypeId) (pos:String) (aft:Array Edge) (g:Option (Nat×Bool)) (fr:Option Nat) (e:aR) (S:St) (K:KW),iY P C ⟨d,.binOp .lss t x y u,ty,pos,aft,g⟩ fr e S K=wO (ev e x) fun a=>wO (ev e y) fun b=>wR (hl (bQ P .lss t a b)) fun v=>K v S) ∧
  (∀ (t u:TypeId) (x y:Operand) (d:Option Tmp) (ty:TypeId) (pos:String) (aft:Array Edge) (g:Option (Nat×Bool)) (fr:Option Nat) (e:aR) (S:St) (K:KW),iY P C ⟨d,.binOp .leq t x y u,ty,pos,aft,g⟩ fr e S K=wO (ev e x) fun a=>wO (ev e y) fun b=>wR (hl (bQ P .leq t a b)) fun v=>K v S) ∧
  (∀ (t u:TypeId) (x y:Operand) (d:Option Tmp) (ty:TypeId) (pos:String) (aft:Array Edge) (g:Option (Nat×Bool)) (fr:Option Nat) (e:aR) (S:St) (K:KW),iY P C ⟨d,.binOp .gtr t x y u,ty,pos,aft,g⟩ fr e S K=wO (ev e x) fun a=>wO (ev e y) fun b=>wR (hl (bQ P .gtr t a b)) fun v=>K v S) ∧
  (∀ (t u:TypeId) (x y:Operand) (d:Option Tmp) (ty:TypeId) (pos:String) (aft:Array Edge) (g:Option (Nat×Bool)) (fr:Option Nat) (e:aR) (S:St) (K:KW),iY P C ⟨d,.binOp .geq t x y u,ty,pos,aft,g⟩ fr e S K=wO (ev e x) fun a=>wO (ev e y) fun b=>wR (hl (bQ P .geq t a b)) fun v=>K v S) ∧
  (∀ (t u:TypeId) (x y:Operand) (d:Option Tmp) (ty:TypeId) (pos:String) (aft:Array Edge) (g:Option (Nat×Bool)) (fr:Option Nat) (e:aR) (S:St) (K:KW),iY P C ⟨d,.binOp .eql t x y u,ty,pos,aft,g⟩ fr e S K=wO (ev e x) fun a=>wO (ev e y) fun b=>wW (hl (cG P t a b)) (wR (hl (bQ P .eql t a b)) fun v=>K v S)) ∧
  (∀ (t u:TypeId) (x y:Operand) (d:Option Tmp) (ty:TypeId) (pos:String) (aft:Array Edge) (g:Option (Nat×Bool)) (fr:Option Nat) (e:aR) (S:St) (K:KW),iY P C ⟨d,.binOp .neq t x y u,ty,pos,aft,g⟩ fr e S K=wO (ev e x) fun a=>wO (ev e y) fun b=>wW (hl (cG P t a b)) (wR (hl (bQ P .neq t a b)) fun v=>K v S)) ∧
  (∀ (o:UnOp) (t:TypeId) (x:Operand) (d:Option Tmp) (ty:TypeId) (pos:String) (aft:Array Edge) (g:Option (Nat×Bool)) (fr:Option Nat) (e:aR) (S:St) (K:KW),iY P C ⟨d,.unOp o t x,ty,pos,aft,g⟩ fr e S K=wO (ev e x) fun v=>wR (hl (unV o v)) fun v=>K v S) ∧
  (∀ (s u:TypeId) (x:Operand) (d:Option Tmp) (ty:TypeId) (pos:String) (aft:Array Edge) (g:Option (Nat×Bool)) (fr:Option Nat) (e:aR) (S:St) (K:KW),iY P C ⟨d,.convert s u x,ty,pos,aft,g⟩ fr e S K=wO (ev e x) fun v=>wR (hl (dT P s u v fr S)) fun r=>K r.1 r.2) ∧
  (∀ (t:TypeId) (l c:Operand) (d:Option Tmp) (ty:TypeId) (pos:String) (aft:Array Edge) (g:Option (Nat×Bool)) (fr:Option Nat) (e:aR) (S:St) (K:KW),iY P C ⟨d,.makeSlice t l c,ty,pos,aft,g⟩ fr e S K=wO (ev e l) fun l=>wO (ev e c) fun c=>wR (hl (dD P t l c fr S)) fun r=>K r.1 r.2) ∧
  (∀ (t:TypeId) (x:Operand) (lo hi:Option Operand) (d:Option Tmp) (ty:TypeId) (pos:String) (aft:Array Edge) (g:Option (Nat×Bool)) (fr:Option Nat) (e:aR) (S:St) (K:KW),iY P C ⟨d,.slice t x lo hi none,ty,pos,aft,g⟩ fr e S K=wO (ev e x) fun v=>wO (evO (ev e) lo) fun l=>wO (evO (ev e) hi) fun h=>wR (hl (iF P t v l h)) fun v=>K v S) ∧
  (∀ (s:TypeId) (x:Operand) (f:Nat) (d:Option Tmp) (ty:TypeId) (pos:String) (aft:Array Edge) (g:Option (Nat×Bool)) (fr:Option Nat) (e:aR) (S:St) (K:KW),iY P C ⟨d,.fieldAddr s x f,ty,pos,aft,g⟩ fr e S K=wO (ev e x) fun p=>wR (hl (dI P s p f)) fun v=>K v S) ∧
  (∀ (s:TypeId) (x:Operand) (f:Nat) (d:Option Tmp) (ty:TypeId) (pos:String) (aft:Array Edge) (g:Option (Nat×Bool)) (fr:Option Nat) (e:aR) (S:St) (K:KW),iY P C ⟨d,.field s x f,ty,pos,aft,g⟩ fr e S K=wO (ev e x) fun p=>wR (hl (aC0 P s p f)) fun v=>K v S) ∧
  (∀ (t:TypeId) (x i:Operand) (d:Option Tmp) (ty:TypeId) (pos:String) (aft:Array Edge) (g:Option (Nat×Bool)) (fr:Option Nat) (e:aR) (S:St) (K:KW),iY P C ⟨d,.indexAddr t x i,ty,pos,aft,g⟩ fr e S K=wO (ev e x) fun v=>wO (ev e i) fun k=>wR (hl (cV P t v k)) fun v=>K v S) ∧
  (∀ (t:TypeId) (x i:Operand) (d:Option Tmp) (ty:TypeId) (pos:String) (aft:Array Edge) (g:Option (Nat×Bool)) (fr:Option Nat) (e:aR) (S:St) (K:KW),iY P C ⟨d,.index t x i,ty,pos,aft,g⟩ fr e S K=wO (ev e x) fun v=>wO (ev e i) fun k=>wR (hl (aBz P t v k)) fun v=>K v S) ∧
  (∀ (t:TypeId) (x:Operand) (d:Option Tmp) (ty:TypeId) (pos:String) (aft:Array Edge) (g:Option (Nat×Bool)) (fr:Option Nat) (e:aR) (S:St) (K:KW),iY P C ⟨d,.range t x,ty,pos,aft,g⟩ fr e S K=wO (ev e x) fun v=>wW (hl (aH5 P t)) (wR (hl (aH6 v fr S)) fun r=>K r.1 r.2)) ∧
  (∀ (it:Operand) (isS:Bool) (d:Option Tmp) (ty:TypeId) (pos:String) (aft:Array Edge) (g:Option (Nat×Bool)) (fr:Option Nat) (e:aR) (S:St) (K:KW),iY P C ⟨d,.next it isS,ty,pos,aft,g⟩ fr e S K=wO (ev e it) fun v=>wW (hl isS) (wR (hl (xW v S)) fun r=>K r.1 r.2)) ∧
  (∀ (t:TypeId) (d:Option Tmp) (ty:TypeId) (pos:String) (aft:Array Edge) (g:Option (Nat×Bool)) (fr:Option Nat) (e:aR) (S:St) (K:KW),iY P C ⟨d,.makeMap t none,ty,pos,aft,g⟩ fr e S K=wR (hl (aY fr S (.mp []))) fun r=>K (.mp r.1) r.2) ∧
  (∀ (t:TypeId) (m k:Operand) (ok:Bool) (d:Option Tmp) (ty:TypeId) (pos:String) (aft:Array Edge) (g:Option (Nat×Bool)) (fr:Option Nat) (e:aR) (S:St) (K:KW),iY P C ⟨d,.lookup t m k ok,ty,pos,aft,g⟩ fr e S K=wO (ev e m) fun m=>wO (ev e k) fun k=>wR (hl (xB P t m k ok S)) fun v=>K v S) ∧
  (∀ (t:TypeId) (m k v:Operand) (d:Option Tmp) (ty:TypeId) (pos:String) (aft:Array Edge) (g:Option (Nat×Bool)) (fr:Option Nat) (e:aR) (S:St) (K:KW),iY P C ⟨d,.mapUpdate t m k v,ty,pos,aft,g⟩ fr e S K=wO (ev e m) fun m=>wO (ev e k) fun k=>wO (ev e v) fun v=>wR (hl (mP P t m k v S)) fun S'=>K (.tup []) S') ∧
  (∀ (f:FuncId) (a b:List Operand) (d:Option Tmp) (ty:TypeId) (pos:String) (aft:Array Edge) (g:Option (Nat×Bool)) (fr:Option Nat) (e:aR) (S:St) (K:KW),iY P C ⟨d,.makeFunc (.func f) a.toArray b.toArray,ty,pos,aft,g⟩ fr e S K=wO (pN (ev e) a) fun a=>wO (pN (ev e) b) fun b=>K (.func f a b) S) ∧
  (∀ (x:Operand) (u t:TypeId) (ok:Bool) (d:Option Tmp) (ty:TypeId) (pos:String) (aft:Array Edge) (g:Option (Nat×Bool)) (fr:Option Nat) (e:aR) (S:St) (K:KW),iY P C ⟨d,.typeAssert x u t ok,ty,pos,aft,g⟩ fr e S K=wO (ev e x) fun v=>wR (hl (xC P v t ok)) fun v=>K v S) ∧
  (∀ (t:Operand) (i:Nat) (d:Option Tmp) (ty:TypeId) (pos:String) (aft:Array Edge) (g:Option (Nat×Bool)) (fr:Option Nat) (e:aR) (S:St) (K:KW),iY P C ⟨d,.extract t i,ty,pos,aft,g⟩ fr e S K=wO (ev e t) fun v=>fU (hl v) i fun v=>K v S) ∧
  (∀ (f:FuncId) (a:List Operand) (ts:Array TypeId) (d:Option Tmp) (ty:TypeId) (pos:String) (aft:Array Edge) (g:Option (Nat×Bool)) (fr:Option Nat) (e:aR) (S:St) (K:KW),iY P C ⟨d,.call ⟨.value (.func f),a.toArray,ts⟩,ty,pos,aft,g⟩ fr e S K=wO (pN (ev e) a) fun args=>kG P C f args S K) ∧
  (∀ (t:Tmp) (a:List Operand) (ts:Array TypeId) (d:Option Tmp) (ty:TypeId) (pos:String) (aft:Array Edge) (g:Option (Nat×Bool)) (fr:Option Nat) (e:aR) (S:St) (K:KW),iY P C ⟨d,.call ⟨.value (.tmp t),a.toArray,ts⟩,ty,pos,aft,g⟩ fr e S K=wO (ev e (.tmp t)) fun v=>wO (pN (ev e) a) fun args=>aRw P C v args S K) ∧
  (∀ (x:Operand) (t:TypeId) (ts:List TypeId) (d:Option Tmp) (ty:TypeId) (pos:String) (aft:Array Edge) (g:Option (Nat×Bool)) (fr:Option Nat) (e:aR) (S:St) (K:KW),iY P C ⟨d,.call ⟨.builtin .len,[x].toArray,(t::ts).toArray⟩,ty,pos,aft,g⟩ fr e S K=wO (ev e x) fun x=>wR (hl (zC P t x S)) fun v=>K v S) ∧
  (∀ (a:List Operand) (ts:Array TypeId) (d:Option Tmp) (ty:TypeId) (pos:String) (aft:Array Edge) (g:Option (Nat×Bool)) (fr:Option Nat) (e:aR) (S:St) (K:KW),iY P C ⟨d,.call ⟨.builtin .min,a.toArray,ts⟩,ty,pos,aft,g⟩ fr e S K=wO (pN (ev e) a) fun args=>wR (hl (aRc args)) fun v=>K v S) ∧
  (∀ (a:List Operand) (ts:Array TypeId) (d:Option Tmp) (ty:TypeId) (pos:String) (aft:Array Edge) (g:Option (Nat×Bool)) (fr:Option Nat) (e:aR) (S:St) (K:KW),iY P C ⟨d,.call ⟨.builtin .max,a.toArray,ts⟩,ty,pos,aft,g⟩ fr e S K=wO (pN (ev e) a) fun args=>wR (hl (aRd args)) fun v=>K v S) ∧
  (∀ (s x:Operand) (t u:TypeId) (ts:List TypeId) (d:Option Tmp) (ty:TypeId) (pos:String) (aft:Array Edge) (g:Option (Nat×Bool)) (fr:Option Nat) (e:aR) (S:St) (K:KW),iY P C ⟨d,.call ⟨.builtin .append,[s,x].toArray,(t::u::ts).toArray⟩,ty,pos,aft,g⟩ fr e S K=wO (ev e s) fun s=>wO (ev e x) fun x=>wW (hl (sO P u)) (wR (hl (fS P t s x fr S)) fun r=>K r.1 r.2)) ∧
  (∀ (x:Operand) (t:TypeId) (ts:List TypeId) (d:Option Tmp) (ty:TypeId) (pos:String) (aft:Array Edge) (g:Option (Nat×Bool)) (fr:Option Nat) (e:aR) (S:St) (K:KW),iY P C ⟨d,.call ⟨.builtin .clear,[x].toArray,(t::ts).toArray⟩,ty,pos,aft,g⟩ fr e S K=wO (ev e x) fun x=>wR (hl (aC1 P t x S)) fun r=>K r.1 r.2):=by
 refine ⟨?_,?_,?_,?_,?_,?_,?_,?_,?_,?_,?_,?_,?_,?_,?_,?_,?_,?_,?_,?_,?_,?_,?_,?_,?_,?_,?_,?_,?_,?_,?_,?_,?_,?_,?_,?_,?_,?_,?_,?_,?_,?_,?_,?_,?_,?_,?_,?_,?_,?_⟩
 all_goals intros
 all_goals first
  | rfl
  | (simp only [hl];refine (aXb _ _ _).trans (aLf _ fun v=>?_);simp only [aCn,List.getElem?_toArray,List.getElem?_cons_zero,wO])
  | (simp only [hl];refine (aXc _ _ _ _).trans (aLf _ fun v=>aLf _ fun w=>?_);simp only [aCn,List.getElem?_toArray,List.getElem?_cons_zero,List.getElem?_cons_succ,wO,sO];split<;>simp [wW, *];done)
  | (simp only [iY,ev,aRw,wO,List.nil_append,List.append_nil];done)
  | skip
def rR (j:Nat) (sk:List Nat) (x y:Prop):Prop:=match aRu j sk with
 | true=>x
 | false=>y
theorem aZ2 {i j:Nat} (h:¬ j=i) (l:List Nat) (x y:Prop):rR j (i::l) x y=rR j l x y:=by simp only [rR,aRu,aJa (Ne.symm h)]
theorem bEg {i j:Nat} (h:j<i) (l:List Nat) (x y:Prop):rR j (i::l) x y=rR j l x y:=aZ2 (Nat.ne_of_lt h) l x y
theorem aZ3 {i j:Nat} (h:i<j) (l:List Nat) (x y:Prop):rR j (i::l) x y=rR j l x y:=aZ2 (Nat.ne_of_gt h) l x y
theorem aSd {i j:Nat} (h:¬ j=i) (l:List Nat) (r:List (Nat×List Nat)) (K:List Nat→Prop):wLv ((i,l)::r) j K=wLv r j K:=by simp only [wLv,aJa (Ne.symm h)]
theorem aZ4 {i j:Nat} (h:j<i) (l:List Nat) (r:List (Nat×List Nat)) (K:List Nat→Prop):wLv ((i,l)::r) j K=wLv r j K:=aSd (Nat.ne_of_lt h) l r K
theorem aSe {i j:Nat} (h:i<j) (l:List Nat) (r:List (Nat×List Nat)) (K:List Nat→Prop):wLv ((i,l)::r) j K=wLv r j K:=aSd (Nat.ne_of_gt h) l r K
theorem aSf {i j:Nat} (h:¬ j=i) (l:List bM) (r:List (Nat×List bM)) (K:List bM→Prop) (x:Prop):wSt ((i,l)::r) j K x=wSt r j K x:=by simp only [wSt,aJa (Ne.symm h)]
theorem aZ5 {i j:Nat} (h:j<i) (l:List bM) (r:List (Nat×List bM)) (K:List bM→Prop) (x:Prop):wSt ((i,l)::r) j K x=wSt r j K x:=aSf (Nat.ne_of_lt h) l r K x
theorem aSg {i j:Nat} (h:i<j) (l:List bM) (r:List (Nat×List bM)) (K:List bM→Prop) (x:Prop):wSt ((i,l)::r) j K x=wSt r j K x:=aSf (Nat.ne_of_gt h) l r K x
theorem aN1 {i j:Nat} (h:¬ j=i) (Kn:mC) (Kx:KXW) (e:aR) (S:St):aLe i Kn Kx j e S=Kx j e S:=by simp only [aLe,aJa h]
theorem aSh {i j:Nat} (h:j<i) (Kn:mC) (Kx:KXW) (e:aR) (S:St):aLe i Kn Kx j e S=Kx j e S:=aN1 (Nat.ne_of_lt h) Kn Kx e S
theorem aN2 {i j:Nat} (h:i<j) (Kn:mC) (Kx:KXW) (e:aR) (S:St):aLe i Kn Kx j e S=Kx j e S:=aN1 (Nat.ne_of_gt h) Kn Kx e S
theorem aSi {d n:Nat} (h:d<n) (e:aR) (v:V) (K:aR→Prop):rQ n (some d) e v K=K (e.put d v):=by simp only [rQ,show Nat.blt d n=true by rw [Nat.blt_eq];exact h]
theorem aLg (i:Nat):Nat.beq i i=true:=Nat.beq_refl i
theorem aFf {i j:Nat} (h:¬ i=j) (P:Program) (C:aK) (ops:Array Oper) (S:St) (K:Prop) (o:Oper) (e:aR) (ran:Bool) (v:V) (recs:List rW):dN P C ops i S K (yA P o j e ran v recs)=dN P C ops i S K recs:=by
 unfold yA
 split
 ·simp only [dN,aJa h]
 ·rfl
theorem aJf {i j:Nat} (h:i<j) (P:Program) (C:aK) (ops:Array Oper) (S:St) (K:Prop) (o:Oper) (e:aR) (ran:Bool) (v:V) (recs:List rW):dN P C ops i S K (yA P o j e ran v recs)=dN P C ops i S K recs:=aFf (Nat.ne_of_lt h) P C ops S K o e ran v recs
theorem aFg {i j:Nat} (h:j<i) (P:Program) (C:aK) (ops:Array Oper) (S:St) (K:Prop) (o:Oper) (e:aR) (ran:Bool) (v:V) (recs:List rW):dN P C ops i S K (yA P o j e ran v recs)=dN P C ops i S K recs:=aFf (Nat.ne_of_gt h) P C ops S K o e ran v recs
theorem aSj (K:List bM→Prop) (x:Prop) (id:Nat):∀ t:List (Nat×List bM),wSt t id K x=(match fY t id with
  | some l=>K l
  | none=>x)
 | []=>rfl
 | (i,l)::r=>by
  have ih:=aSj K x id r
  unfold fY at ih ⊢
  by_cases h:i=id
  ·subst h;simp only [wSt,iA,aLg,cond_true]
  ·simp only [wSt,iA,aJa h,aJa (Ne.symm h),cond_false,ih]
theorem aFh (P:Program) (C:aK) (n:Nat) (tp:List (Nat×List bM)) (lv:Nat→List Nat) (id:Nat) (l:List Oper) (e:aR) (S:St) (Kn:mC) (Kx:KXW) (Kr:mC):
  dU P C n (fY tp) lv (.region id l.toArray true) e S Kn Kx Kr=wLn l [0,1,2,3,4,5,6,7,8,9,10,11,12,13,14,15,16,17,18,19,20,21,22,23,24,25,26,27,28,29,30,31,32,33,34,35,36,37,38,39,40,41,42,43,44,45,46,47,48,49,50,51,52,53,54,55,56,57,58,59,60,61,62,63,64,65,66,67,68,69,70,71,72,73,74,75,76,77,78,79,80,81,82,83,84,85,86,87,88,89,90,91,92,93,94,95,96,97,98,99,100,101,102,103,104,105,106,107,108,109,110,111,112,113,114,115,116,117,118,119,120,121,122,123,124,125,126,127,128,129,130,131,132,133,134,135,136,137,138,139,140,141,142,143,144,145,146,147,148,149,150,151,152,153,154,155,156,157,158,159,160] 0 fun k=>wSt tp id (fun st=>rK P C n l.toArray S.next st [] [] e ⟨S.next+k,S.heap⟩ Kn) (yF P C n l.toArray S.next l [0,1,2,3,4,5,6,7,8,9,10,11,12,13,14,15,16,17,18,19,20,21,22,23,24,25,26,27,28,29,30,31,32,33,34,35,36,37,38,39,40,41,42,43,44,45,46,47,48,49,50,51,52,53,54,55,56,57,58,59,60,61,62,63,64,65,66,67,68,69,70,71,72,73,74,75,76,77,78,79,80,81,82,83,84,85,86,87,88,89,90,91,92,93,94,95,96,97,98,99,100,101,102,103,104,105,106,107,108,109,110,111,112,113,114,115,116,117,118,119,120,121,122,123,124,125,126,127,128,129,130,131,132,133,134,135,136,137,138,139,140,141,142,143,144,145,146,147,148,149,150,151,152,153,154,155,156,157,158,159,160] 0 [] e ⟨S.next+k,S.heap⟩ Kn):=by
 have hu:vS 0 [0,1,2,3,4,5,6,7,8,9,10,11,12,13,14,15,16,17,18,19,20,21,22,23,24,25,26,27,28,29,30,31,32,33,34,35,36,37,38,39,40,41,42,43,44,45,46,47,48,49,50,51,52,53,54,55,56,57,58,59,60,61,62,63,64,65,66,67,68,69,70,71,72,73,74,75,76,77,78,79,80,81,82,83,84,85,86,87,88,89,90,91,92,93,94,95,96,97,98,99,100,101,102,103,104,105,106,107,108,109,110,111,112,113,114,115,116,117,118,119,120,121,122,123,124,125,126,127,128,129,130,131,132,133,134,135,136,137,138,139,140,141,142,143,144,145,146,147,148,149,150,151,152,153,154,155,156,157,158,159,160]:=by simp only [vS,and_self]
 generalize [0,1,2,3,4,5,6,7,8,9,10,11,12,13,14,15,16,17,18,19,20,21,22,23,24,25,26,27,28,29,30,31,32,33,34,35,36,37,38,39,40,41,42,43,44,45,46,47,48,49,50,51,52,53,54,55,56,57,58,59,60,61,62,63,64,65,66,67,68,69,70,71,72,73,74,75,76,77,78,79,80,81,82,83,84,85,86,87,88,89,90,91,92,93,94,95,96,97,98,99,100,101,102,103,104,105,106,107,108,109,110,111,112,113,114,115,116,117,118,119,120,121,122,123,124,125,126,127,128,129,130,131,132,133,134,135,136,137,138,139,140,141,142,143,144,145,146,147,148,149,150,151,152,153,154,155,156,157,158,159,160]=ks at hu ⊢
 rw [aLb _ _ _ _ hu,aSj,Nat.zero_add]
 simp only [dU,List.size_toArray]
 cases fY tp id with
 | some st=>rfl
 | none=>
  show rK P C n l.toArray S.next (aIc l.length) [] [] e _ Kn=_
  rw [aJe]
  exact aCw P C n l.toArray S.next Kn l ks 0 [] [] e _ hu fun k=>by simp
theorem aFi (P:Program) (C:aK) (n:Nat) (p:Nat→Option (List bM)) (tl:List (Nat×List Nat)) (a:Code) (e:aR) (S:St) (Kn:mC) (Kx:KXW) (Kr:mC):
  dU P C n p (jL tl) (.loop a) e S Kn Kx Kr=wLv tl (bJ a) fun ts=>mS e ts fun vs=>iC (hl vs) S (aYy P C n p (jL tl) a e Kx Kr):=by rw [aLc];rfl
theorem aSk (P:Program) (C:aK) (n:Nat) (p:Nat→Option (List bM)) (tl:List (Nat×List Nat)) (a:Code) (e:aR) (Kx:KXW) (Kr:mC) (vs:List V) (S:St) (aE:List V→St→Prop):
  aYy P C n p (jL tl) a e Kx Kr vs S aE=wLv tl (bJ a) fun ts=>aH7 ts vs (e.filt fun t=>!mB a t) fun e=>dU P C n p (jL tl) a e S (fun e S=>mS e ts fun vs=>aE vs S) Kx Kr:=by rw [aLc];rfl
theorem aN3 (P:Program) (C:aK):
  (∀ (n:Nat) (p:Nat→Option (List bM)) (lv:Nat→List Nat) (e:aR) (S:St) (Kn:mC) (Kx:KXW) (Kr:mC),dU P C n p lv .skip e S Kn Kx Kr=Kn e S) ∧
  (∀ (n:Nat) (p:Nat→Option (List bM)) (lv:Nat→List Nat) (l:Nat) (e:aR) (S:St) (Kn:mC) (Kx:KXW) (Kr:mC),dU P C n p lv (.label l) e S Kn Kx Kr=Kn e S) ∧
  (∀ (n:Nat) (p:Nat→Option (List bM)) (lv:Nat→List Nat) (id:Nat) (e:aR) (S:St) (Kn:mC) (Kx:KXW) (Kr:mC),dU P C n p lv (.exit id) e S Kn Kx Kr=Kx id e S) ∧
  (∀ (n:Nat) (p:Nat→Option (List bM)) (lv:Nat→List Nat) (e:aR) (S:St) (Kn:mC) (Kx:KXW) (Kr:mC),dU P C n p lv .ret e S Kn Kx Kr=Kr e S) ∧
  (∀ (n:Nat) (p:Nat→Option (List bM)) (lv:Nat→List Nat) (id:Nat) (l:List Oper) (e:aR) (S:St) (Kn:mC) (Kx:KXW) (Kr:mC),dU P C n p lv (.region id l.toArray false) e S Kn Kx Kr=aH9 P C n l.toArray l [0,1,2,3,4,5,6,7,8,9,10,11,12,13,14,15,16,17,18,19,20,21,22,23,24,25,26,27,28,29,30,31,32,33,34,35,36,37,38,39,40,41,42,43,44,45,46,47,48,49,50,51,52,53,54,55,56,57,58,59,60,61,62,63,64,65,66,67,68,69,70,71,72,73,74,75,76,77,78,79,80,81,82,83,84,85,86,87,88,89,90,91,92,93,94,95,96,97,98,99,100,101,102,103,104,105,106,107,108,109,110,111,112,113,114,115,116,117,118,119,120,121,122,123,124,125,126,127,128,129,130,131,132,133,134,135,136,137,138,139,140,141,142,143,144,145,146,147,148,149,150,151,152,153,154,155,156,157,158,159,160] 0 [] e S Kn) ∧
  (∀ (n:Nat) (p:Nat→Option (List bM)) (lv:Nat→List Nat) (a b:Code) (e:aR) (S:St) (Kn:mC) (Kx:KXW) (Kr:mC),dU P C n p lv (.seq a b) e S Kn Kx Kr=dU P C n p lv a e S (fun e S=>dU P C n p lv b e S Kn Kx Kr) Kx Kr) ∧
  (∀ (n:Nat) (p:Nat→Option (List bM)) (lv:Nat→List Nat) (c:Operand) (a b:Code) (e:aR) (S:St) (Kn:mC) (Kx:KXW) (Kr:mC),dU P C n p lv (.cond c a b) e S Kn Kx Kr=wO (ev e c) fun v=>aL (hl v) (dU P C n p lv a (aA7 e c true) S Kn Kx Kr) (dU P C n p lv b (aA7 e c false) S Kn Kx Kr)) ∧
  (∀ (n:Nat) (p:Nat→Option (List bM)) (lv:Nat→List Nat) (id:Nat) (a:Code) (e:aR) (S:St) (Kn:mC) (Kx:KXW) (Kr:mC),dU P C n p lv (.block id a) e S Kn Kx Kr=dU P C n p lv a e S Kn (aLe id Kn Kx) Kr) ∧
  (∀ (n:Nat) (ops:Array Oper) (ks:List Nat) (i:Nat) (sk:List Nat) (e:aR) (S:St) (K:mC),aH9 P C n ops [] ks i sk e S K=K e S) ∧
  (∀ (n:Nat) (ops:Array Oper) (o:Oper) (l:List Oper) (k i:Nat) (ks sk:List Nat) (e:aR) (S:St) (K:mC),aH9 P C n ops (o::l) (k::ks) i sk e S K=jY P C n ops sk o none e S fun ran _ e' S'=>aH9 P C n ops l ks (i+1) (xY ran k sk) e' S' K) ∧
  (∀ (n:Nat) (ops:Array Oper) (b:Nat) (ks:List Nat) (i:Nat) (sk:List Nat) (e:aR) (S:St) (K:mC),yF P C n ops b [] ks i sk e S K=K e S) ∧
  (∀ (n:Nat) (ops:Array Oper) (o:Oper) (l:List Oper) (b k i:Nat) (ks:List Nat) (sk:List Nat) (e:aR) (S:St) (K:mC),yF P C n ops b (o::l) (k::ks) i sk e S K=jY P C n ops sk o (some (b+k)) e S fun ran _ e' S'=>yF P C n ops b l ks (i+1) (xY ran k sk) e' S' K) ∧
  (∀ (n:Nat) (ops:Array Oper) (b:Nat) (sk:List Nat) (recs:List rW) (e:aR) (S:St) (K:mC),rK P C n ops b [] sk recs e S K=K e S) ∧
  (∀ (n:Nat) (ops:List Oper) (i:Nat) (re:List Nat) (l:List bM) (b:Nat) (sk:List Nat) (recs:List rW) (e:aR) (S:St) (K:mC),rK P C n ops.toArray b ((i,re)::l) sk recs e S K=wI ops i fun o=>jY P C n ops.toArray sk o (some (b+i)) e S fun ran v e' S'=>qK P C ops.toArray recs S' (rK P C n ops.toArray b l (xY ran i sk) (yA P o i e ran v recs) e' S' K) re) ∧
  (∀ (ops:Array Oper) (recs:List rW) (S:St) (K:Prop),qK P C ops recs S K []=K) ∧
  (∀ (ops:Array Oper) (recs:List rW) (S:St) (K:Prop) (i:Nat) (l:List Nat),qK P C ops recs S K (i::l)=dN P C ops i S (qK P C ops recs S K l) recs) ∧
  (∀ (ops:Array Oper) (i:Nat) (S:St) (K:Prop),dN P C ops i S K []=K) ∧
  (∀ (ops:List Oper) (i:Nat) (S:St) (K:Prop) (d t:Nat) (a:Operand) (ty:TypeId) (pos:String) (aft:Array Edge) (g:Option (Nat×Bool)) (e:aR) (v:V) (recs:List rW),dN P C ops.toArray i S K (yA P ⟨some d,.load t a,ty,pos,aft,g⟩ i e true v recs)=wI ops i fun o=>iY P C o none e S fun v' _=>wW (hl (eY v v')) K) ∧
  (∀ (ops:List Oper) (i:Nat) (S:St) (K:Prop) (d:Nat) (a:Array Operand) (ts:Array TypeId) (ty:TypeId) (pos:String) (aft:Array Edge) (g:Option (Nat×Bool)) (e:aR) (v:V) (recs:List rW),dN P C ops.toArray i S K (yA P ⟨some d,.call ⟨.builtin .len,a,ts⟩,ty,pos,aft,g⟩ i e true v recs)=wI ops i fun o=>iY P C o none e S fun v' _=>wW (hl (eY v v')) K) ∧
  (∀ (o:Oper) (i:Nat) (e:aR) (v:V) (recs:List rW) (ops:Array Oper) (S:St) (K:Prop),dN P C ops i S K (yA P o i e false v recs)=dN P C ops i S K recs) ∧
  (∀ (n:Nat) (ops:Array Oper) (sk:List Nat) (d:Option Tmp) (op:Op) (ty:TypeId) (pos:String) (aft:Array Edge) (fr:Option Nat) (e:aR) (S:St) (K:Bool→V→aR→St→Prop),jY P C n ops sk ⟨d,op,ty,pos,aft,none⟩ fr e S K=iY P C ⟨d,op,ty,pos,aft,none⟩ fr e S fun v S'=>rQ n d e v fun e'=>K true v e' S') ∧
  (∀ (n:Nat) (ops:List Oper) (sk:List Nat) (d:Option Tmp) (op:Op) (ty:TypeId) (pos:String) (aft:Array Edge) (j:Nat) (fr:Option Nat) (e:aR) (S:St) (K:Bool→V→aR→St→Prop),jY P C n ops.toArray sk ⟨d,op,ty,pos,aft,some (j,true)⟩ fr e S K=wG ops j fun s=>wO (e.get s) fun v=>rR j sk (aPv v (rQ n d e (.tup []) fun e'=>K false (.tup []) e' S)) (aL (hl v) (iY P C ⟨d,op,ty,pos,aft,some (j,true)⟩ fr (e.put s (.bool true)) S fun v S'=>rQ n d (e.put s (.bool true)) v fun e'=>K true v e' S') (rQ n d (e.put s (.bool false)) (.tup []) fun e'=>K false (.tup []) e' S))) ∧
  (∀ (n:Nat) (ops:List Oper) (sk:List Nat) (d:Option Tmp) (op:Op) (ty:TypeId) (pos:String) (aft:Array Edge) (j:Nat) (fr:Option Nat) (e:aR) (S:St) (K:Bool→V→aR→St→Prop),jY P C n ops.toArray sk ⟨d,op,ty,pos,aft,some (j,false)⟩ fr e S K=wG ops j fun s=>wO (e.get s) fun v=>rR j sk (aPv v (rQ n d e (.tup []) fun e'=>K false (.tup []) e' S)) (aL (hl v) (rQ n d (e.put s (.bool true)) (.tup []) fun e'=>K false (.tup []) e' S) (iY P C ⟨d,op,ty,pos,aft,some (j,false)⟩ fr (e.put s (.bool false)) S fun v S'=>rQ n d (e.put s (.bool false)) v fun e'=>K true v e' S'))) ∧
  (∀ (n:Nat) (e:aR) (v:V) (K:aR→Prop),rQ n none e v K=K e) ∧
  (∀ (rs:List ResultVar) (K:KW) (e:aR) (S:St),aPw P rs K e S=aEg P e S rs fun vs=>K (pU vs) S) ∧
  (∀ (e:aR) (S:St) (K:List V→Prop),aEg P e S [] K=K []) ∧
  (∀ (e:aR) (S:St) (t:Tmp) (l:List ResultVar) (K:List V→Prop),aEg P e S (.tmp t::l) K=wO (e.get t) fun v=>aEg P e S l fun vs=>K (v::vs)) ∧
  (∀ (e:aR) (S:St) (a:Tmp) (t:TypeId) (l:List ResultVar) (K:List V→Prop),aEg P e S (.cell a t::l) K=wO (e.get a) fun p=>wR (hl (lQ P t p S)) fun v=>aEg P e S l fun vs=>K (v::vs)) ∧
  (∀ (f:FuncId) (a b args:List V) (S:St) (K:KW),aRw P C (.func f a b) args S K=kG P C f (a++args++b) S K):=by
 refine ⟨fun n _ _ _ _ _ _ _=>rfl,fun n _ _ _ _ _ _ _ _=>rfl,fun n _ _ _ _ _ _ _ _=>rfl,fun n _ _ _ _ _ _ _=>rfl,fun n p lv id l e S Kn Kx Kr=>aHa P C n l.toArray Kn l _ 0 [] e S (by simp only [vS,and_self]),fun n _ _ _ _ _ _ _ _ _=>rfl,fun n _ _ _ _ _ _ _ _ _ _=>rfl,fun n _ _ _ _ _ _ _ _ _=>rfl,fun n ops ks i sk e S K=>by cases ks<;>rfl,fun n _ _ _ _ _ _ _ _ _ _=>rfl,fun n ops b ks i sk e S K=>by cases ks<;>rfl,fun n _ _ _ _ _ _ _ _ _ _ _=>rfl,fun n _ _ _ _ _ _ _=>rfl,fun n ops i re l b sk recs e S K=>?_,fun _ _ _ _=>rfl,fun _ _ _ _ _ _=>rfl,fun _ _ _ _=>rfl,fun ops i S K d t a ty pos aft g e v recs=>?_,fun ops i S K d a ts ty pos aft g e v recs=>?_,fun o i e v recs ops S K=>?_,fun n _ _ _ _ _ _ _ _ _ _ _=>rfl,fun n ops sk d op ty pos aft j fr e S K=>?_,fun n ops sk d op ty pos aft j fr e S K=>?_,fun n _ _ _=>rfl,fun _ _ _ _=>rfl,fun _ _ _=>rfl,fun _ _ _ _ _=>rfl,fun _ _ _ _ _ _=>rfl,fun _ _ _ _ _ _=>rfl⟩
 ·rw [rK,aFe]
 ·simp only [yA,dK,aLg,Bool.and_true,Option.isSome,dN,hl];rw [aFe]
 ·simp only [yA,dK,aLg,Bool.and_true,Option.isSome,dN,hl];rw [aFe]
 ·simp only [yA,Bool.and_false,Bool.false_and]
 ·simp only [jY,doW,aFa,rR];rw [aS9];rfl
 ·simp only [jY,doW,aFa,rR];rw [aS9];rfl
theorem aN4:(∀ (k:Nat) (ks:List Nat) (i:Nat) (K:Nat→Prop),wLn [] (k::ks) i K=K k)∧(∀ (o:Oper) (l:List Oper) (k:Nat) (ks:List Nat) (i:Nat) (K:Nat→Prop),wLn (o::l) (k::ks) i K=wLn l ks (i+1) K)∧(∀ (j:Nat) (x y:Prop),rR j [] x y=y)∧(∀ (j i:Nat) (l:List Nat) (x y:Prop),rR j (xY true i l) x y=rR j l x y)∧(∀ (j i:Nat) (l:List Nat) (x y:Prop),rR j (xY false i l) x y=rR j (i::l) x y)∧(∀ (j:Nat) (l:List Nat) (x y:Prop),rR j (j::l) x y=x) ∧
  (∀ (j:Nat) (K:List Nat→Prop),wLv [] j K=K [])∧(∀ (j:Nat) (l:List Nat) (r:List (Nat×List Nat)) (K:List Nat→Prop),wLv ((j,l)::r) j K=K l)∧(∀ (j:Nat) (K:List bM→Prop) (x:Prop),wSt [] j K x=x)∧(∀ (j:Nat) (l:List bM) (r:List (Nat×List bM)) (K:List bM→Prop) (x:Prop),wSt ((j,l)::r) j K x=K l) ∧
  (∀ (o:Oper) (l:List Oper) (K:Nat→Prop),wG (o::l) 0 K=wO o.dst K)∧(∀ (o:Oper) (l:List Oper) (j:Nat) (K:Nat→Prop),wG (o::l) (j+1) K=wG l j K)∧(∀ (o:Oper) (l:List Oper) (K:Oper→Prop),wI (o::l) 0 K=K o)∧(∀ (o:Oper) (l:List Oper) (j:Nat) (K:Oper→Prop),wI (o::l) (j+1) K=wI l j K) ∧
  (∀ (d:Nat) (op:Op) (ty:TypeId) (pos:String) (aft:Array Edge) (g:Option (Nat×Bool)) (K:Nat→Prop),wO (Oper.dst ⟨some d,op,ty,pos,aft,g⟩) K=K d) ∧
  (∀ (i:Nat) (Kn:mC) (Kx:KXW) (e:aR) (S:St),aLe i Kn Kx i e S=Kn e S)∧(∀ (e:aR) (K:List V→Prop),mS e [] K=K [])∧(∀ (e:aR) (t:Nat) (l:List Nat) (K:List V→Prop),mS e (t::l) K=wO (e.get t) fun v=>mS e l fun vs=>K (v::vs)) ∧
  (∀ (vs:List V) (e:aR) (K:aR→Prop),aH7 [] vs e K=K e)∧(∀ (t:Nat) (l:List Nat) (v:V) (vs:List V) (e:aR) (K:aR→Prop),aH7 (t::l) (v::vs) e K=aH7 l vs (e.put t v) K)∧(dZ 0 [] .nil=.nil)∧(∀ a0:V,dZ 0 [a0] .nil=(Tr.put .nil 0 a0))∧(∀ a0 a1:V,dZ 0 [a0,a1] .nil=((Tr.put .nil 0 a0).put 1 a1))∧(∀ a0 a1 a2:V,dZ 0 [a0,a1,a2] .nil=(((Tr.put .nil 0 a0).put 1 a1).put 2 a2))∧(∀ a0 a1 a2 a3:V,dZ 0 [a0,a1,a2,a3] .nil=((((Tr.put .nil 0 a0).put 1 a1).put 2 a2).put 3 a3))∧(∀ a0 a1 a2 a3 a4:V,dZ 0 [a0,a1,a2,a3,a4] .nil=(((((Tr.put .nil 0 a0).put 1 a1).put 2 a2).put 3 a3).put 4 a4))∧(∀ a0 a1 a2 a3 a4 a5:V,dZ 0 [a0,a1,a2,a3,a4,a5] .nil=((((((Tr.put .nil 0 a0).put 1 a1).put 2 a2).put 3 a3).put 4 a4).put 5 a5))∧(∀ a0 a1 a2 a3 a4 a5 a6:V,dZ 0 [a0,a1,a2,a3,a4,a5,a6] .nil=(((((((Tr.put .nil 0 a0).put 1 a1).put 2 a2).put 3 a3).put 4 a4).put 5 a5).put 6 a6))∧(∀ a0 a1 a2 a3 a4 a5 a6 a7:V,dZ 0 [a0,a1,a2,a3,a4,a5,a6,a7] .nil=((((((((Tr.put .nil 0 a0).put 1 a1).put 2 a2).put 3 a3).put 4 a4).put 5 a5).put 6 a6).put 7 a7)) ∧
  (∀ (i:Nat) (sk:List Nat),xY true i sk=sk)∧(∀ (i:Nat) (sk:List Nat),xY false i sk=i::sk)∧(∀ (e:aR) (t:Nat) (b:Bool),aA7 e (.tmp t) b=e.put t (.bool b))∧(∀ (e:aR) (v:Value) (b:Bool),aA7 e (.const v) b=e)∧(∀ v:V,pU [v]=v)∧pU []=.tup []∧(∀ (v w:V) (l:List V),pU (v::w::l)=.tup (v::w::l)) ∧
  (∀ (l:List V) (x:Prop),aPv (.tup l) x=x)∧(∀ a b:Code,bJ (.seq a b)=bJ a)∧(∀ (i:Nat) (a:Code),bJ (.block i a)=bJ a)∧(∀ (id:Nat) (ops:Array Oper) (d:Bool),bJ (.region id ops d)=id)∧(∀ a:Code,bJ (.loop a)=bJ a)∧(∀ (c:Operand) (a b:Code),bJ (.cond c a b)=0)∧(∀ x y:Prop,aL (hl (.bool true)) x y=x)∧(∀ x y:Prop,aL (hl (.bool false)) x y=y)∧(true=true)=True∧(false=true)=False∧(∀ a b:V,aJ3 (.bool true) a b=.ok a)∧(∀ a b:V,aJ3 (.bool false) a b=.ok b):=by
 refine ⟨fun _ _ _ _=>rfl,fun _ _ _ _ _ _=>rfl,fun _ _ _=>rfl,fun _ _ _ _ _=>rfl,fun _ _ _ _ _=>rfl,fun j l x y=>by simp only [rR,aRu,aLg],fun _ _=>rfl,fun j l r K=>by simp only [wLv,aLg],fun _ _ _=>rfl,fun j l r K x=>by simp only [wSt,aLg],fun _ _ _=>rfl,fun _ _ _ _=>rfl,fun _ _ _=>rfl,fun _ _ _ _=>rfl,fun _ _ _ _ _ _ _=>rfl,fun i Kn Kx e S=>by simp only [aLe,aLg],fun _ _=>rfl,fun _ _ _ _=>rfl,fun _ _ _=>rfl,fun _ _ _ _ _ _=>rfl,rfl,fun _=>rfl,fun _ _=>rfl,fun _ _ _=>rfl,fun _ _ _ _=>rfl,fun _ _ _ _ _=>rfl,fun _ _ _ _ _ _=>rfl,fun _ _ _ _ _ _ _=>rfl,fun _ _ _ _ _ _ _ _=>rfl,fun _ _=>rfl,fun _ _=>rfl,fun _ _ _=>rfl,fun _ _ _=>rfl,fun _=>rfl,rfl,fun _ _ _=>rfl,fun _ _=>rfl,fun _ _=>rfl,fun _ _=>rfl,fun _ _ _=>rfl,fun _=>rfl,fun _ _ _=>rfl,fun _ _=>rfl,fun _ _=>rfl,by simp,by simp,fun _ _=>rfl,fun _ _=>rfl⟩
def aAh (P:Program) (C:aK) (fn:Func) (tp:List (Nat×List bM)) (tl:List (Nat×List Nat)) (args:List V) (S:St) (K:KW):Prop:=aRx P C (fY tp) (jL tl) args S K (fn.body.getD .skip) fn.ntmps fn.results.toList
theorem aZ6 (P:Program) (C:aK) (nm og:String) (ta pa rt:Array TypeId) (nf nt:Nat) (rs:List ResultVar) (c:Code) (b1 b2:Bool) (fl:String) (el:Nat) (ln:Option Nat) (me:List Departure) (tn:Array String) (tp:List (Nat×List bM)) (tl:List (Nat×List Nat)) (args:List V) (S:St) (K:KW):
  aAh P C ⟨nm,og,ta,pa,rt,nf,nt,rs.toArray,some c,b1,b2,fl,el,ln,me,tn⟩ tp tl args S K=wW (Nat.ble args.length nt) (dU P C nt (fY tp) (jL tl) c (dZ 0 args .nil) S (aPw P rs K) (fun _ _ _=>False) (aPw P rs K)):=rfl
def aCx (fn:Func):Code×Nat×List ResultVar:=(fn.body.getD .skip,fn.ntmps,fn.results.toList)
theorem aFj:(∀ n,Nat.ble ([]:List V).length n=true)∧(∀ (a:V) (l:List V) (n:Nat),Nat.ble (a::l).length (n+1)=Nat.ble l.length n):=⟨fun n=>by cases n<;>rfl,fun _ _ _=>rfl⟩
theorem aCy (P:Program) (C:aK) {g:FuncId} (h:dM P g=some none) (args:List V) (S:St) (K:KW):kG P C g args S K=C g (hl args) S K:=by unfold kG;rw [h];rfl
section
variable {P:Program} {pl:jB} {f:FuncId} {fn:Func} {tp:List (Nat×List bM)} {tl:List (Nat×List Nat)}
theorem bEh (hp:pl f=some (.val (fY tp))) (hb:yB P f=some (aCx fn)) {args:List V} {v:V} (hc:cloVs args=true) (h:aAh P (W P pl) fn tp tl args ⟨0,.nil⟩ fun v0 S0=>gK S0 v0=.ok v):Fn P pl f args v:=
 Fn.of (p:=fY tp) (lv:=jL tl) hp hc (by unfold dV;rw [hb];exact h)
theorem bCz (hp:pl f=some (.code (fY tp))) (hb:yB P f=some (aCx fn)) {args:List V} {S:St} {K:KW} (h:aAh P (W P pl) fn tp tl args S K):W P pl f args S K:=
 aL7 (p:=fY tp) (lv:=jL tl) hp (by unfold dV;rw [hb];exact h)
end
end
end Go.AM
end
section
namespace Go.Proofs.YtoaibmbldmckaaaGreat
open Go.AM Tryz
def dSp:aEw:=[(202,.ins 68),(221,.ins 27),(230,.ins 28),(234,.ins 25),(237,.ins 24),(280,.ins 80),(240,.del 28),(25,.told)]
def aXd:iB:=[
 (3,[]),
 (4,[(4,[(0,[]),(2,[]),(1,[2]),(3,[]),(4,[]),(5,[]),(6,[]),(7,[]),(8,[]),(9,[]),(10,[]),(11,[]),(12,[]),(13,[])])]),
 (5,[(10,[(0,[]),(1,[]),(2,[1]),(3,[])])]),
 (6,[(8,[(0,[]),(2,[]),(1,[2]),(3,[]),(4,[]),(5,[]),(6,[]),(7,[]),(8,[]),(9,[]),(10,[]),(11,[]),(12,[]),(13,[]),(14,[]),(15,[])])]),
 (7,[]),
 (8,[(7,[(1,[]),(2,[]),(3,[]),(4,[]),(6,[]),(7,[]),(8,[]),(9,[]),(10,[]),(0,[]),(5,[7]),(11,[]),(12,[])]),(15,[(0,[]),(1,[0]),(2,[0]),(3,[]),(4,[]),(5,[]),(6,[]),(7,[]),(8,[])])]),
 (9,[]),
 (10,[]),
 (11,[]),
 (12,[]),
 (13,[(2,[(0,[]),(2,[]),(1,[2]),(3,[]),(4,[]),(5,[]),(6,[]),(7,[]),(8,[]),(9,[]),(10,[]),(11,[]),(12,[]),(13,[]),(14,[])])]),
 (14,[]),
 (15,[(5,[(0,[]),(1,[]),(2,[0]),(3,[]),(4,[]),(5,[]),(6,[]),(7,[]),(8,[]),(9,[])]),(6,[(0,[]),(1,[]),(2,[0]),(3,[]),(4,[]),(5,[]),(6,[]),(7,[]),(8,[]),(9,[])])]),
 (16,[(3,[(0,[]),(2,[]),(1,[2]),(3,[]),(4,[]),(5,[])]),(4,[(0,[]),(1,[]),(2,[]),(3,[]),(4,[]),(5,[]),(6,[]),(7,[]),(8,[]),(9,[]),(10,[]),(12,[]),(13,[]),(11,[13,12]),(14,[]),(15,[]),(16,[]),(17,[]),(18,[]),(19,[]),(20,[])])]),
 (17,[(32,[(0,[]),(1,[]),(2,[]),(3,[]),(4,[]),(5,[]),(6,[]),(7,[]),(8,[]),(9,[]),(10,[]),(11,[]),(12,[]),(13,[]),(14,[]),(15,[]),(16,[]),(17,[]),(18,[]),(19,[]),(20,[]),(21,[]),(22,[]),(23,[]),(24,[]),(25,[]),(26,[]),(27,[]),(28,[25,23]),(29,[]),(30,[]),(31,[25,23]),(32,[]),(33,[]),(34,[25]),(35,[]),(36,[]),(37,[])])]),
 (18,[]),
 (19,[]),
 (20,[]),
 (21,[]),
 (22,[]),
 (23,[]),
 (24,[]),
 (25,[(6,[(0,[]),(1,[]),(2,[]),(3,[]),(4,[]),(5,[]),(6,[]),(7,[]),(8,[]),(9,[8]),(10,[]),(11,[]),(12,[]),(13,[]),(14,[]),(15,[]),(16,[]),(17,[]),(18,[]),(19,[]),(20,[]),(21,[]),(22,[]),(23,[]),(24,[])])]),
 (26,[]),
 (27,[]),
 (28,[]),
 (29,[(7,[(0,[]),(1,[]),(2,[]),(3,[]),(4,[]),(5,[]),(6,[]),(8,[]),(9,[]),(10,[]),(11,[]),(12,[]),(13,[]),(15,[]),(16,[]),(17,[]),(18,[]),(19,[]),(20,[]),(7,[20,16,13,9]),(14,[20,16]),(21,[]),(22,[])]),(12,[(0,[]),(1,[]),(2,[]),(3,[]),(4,[]),(5,[]),(6,[]),(8,[]),(9,[]),(10,[]),(11,[]),(12,[]),(13,[]),(15,[]),(16,[]),(17,[]),(18,[]),(19,[]),(20,[]),(7,[20,16,13,9]),(14,[20,16]),(21,[]),(22,[])]),(18,[(0,[]),(1,[]),(2,[]),(3,[]),(5,[]),(6,[]),(4,[6]),(7,[]),(8,[])]),(19,[(0,[]),(1,[]),(2,[]),(3,[]),(5,[]),(6,[]),(7,[]),(4,[7]),(8,[]),(9,[])]),(25,[(0,[]),(1,[]),(2,[]),(4,[]),(5,[]),(7,[]),(8,[]),(3,[8,5]),(6,[8]),(9,[]),(10,[])]),(30,[(0,[]),(1,[]),(2,[]),(3,[]),(4,[]),(5,[]),(6,[]),(8,[]),(9,[]),(10,[]),(11,[]),(12,[]),(13,[]),(15,[]),(16,[]),(17,[]),(18,[]),(19,[]),(20,[]),(7,[20,16,13,9]),(14,[20,16]),(21,[]),(22,[])])]),
 (30,[]),
 (31,[]),
 (32,[]),
 (33,[(3,[(0,[]),(1,[0]),(2,[]),(3,[])]),(5,[(0,[]),(1,[0]),(2,[]),(3,[])]),(10,[(0,[]),(1,[]),(2,[0]),(3,[]),(4,[])]),(12,[(0,[]),(1,[]),(2,[1]),(3,[])]),(17,[(0,[]),(1,[]),(2,[1]),(3,[])])]),
 (34,[(9,[(1,[]),(2,[]),(4,[]),(5,[]),(6,[]),(0,[]),(3,[5]),(7,[]),(8,[]),(9,[]),(10,[])]),(11,[(0,[]),(1,[]),(2,[]),(3,[]),(4,[]),(5,[2]),(6,[])]),(16,[(0,[]),(1,[]),(2,[1]),(3,[])]),(21,[(0,[]),(1,[]),(2,[1]),(3,[])])]),
 (35,[]),
 (36,[]),
 (37,[]),
 (38,[]),
 (39,[]),
 (40,[]),
 (41,[(10,[(0,[]),(1,[]),(3,[]),(2,[3]),(4,[]),(5,[]),(6,[]),(7,[]),(8,[]),(10,[]),(9,[10]),(11,[]),(12,[]),(13,[])]),(19,[(1,[]),(2,[]),(3,[]),(5,[]),(6,[]),(7,[]),(8,[]),(9,[]),(12,[]),(13,[]),(14,[]),(0,[]),(4,[8,6]),(10,[]),(11,[]),(15,[]),(16,[])])]),
 (42,[]),
 (43,[]),
 (44,[(3,[(0,[]),(1,[0]),(2,[0]),(3,[]),(4,[]),(5,[]),(6,[]),(7,[]),(8,[])]),(4,[(0,[]),(1,[0]),(2,[0]),(3,[]),(4,[]),(5,[]),(6,[]),(7,[]),(8,[])])]),
 (45,[]),
 (46,[]),
 (47,[]),
 (48,[]),
 (50,[]),
 (51,[]),
 (52,[]),
 (53,[]),
 (54,[(7,[(0,[]),(1,[]),(3,[]),(4,[]),(6,[]),(2,[4]),(5,[]),(7,[]),(8,[]),(9,[]),(10,[])])]),
 (55,[]),
 (56,[]),
 (57,[]),
 (58,[]),
 (59,[]),
 (60,[]),
 (61,[]),
 (62,[]),
 (63,[]),
 (64,[]),
 (65,[]),
 (66,[]),
 (67,[]),
 (68,[]),
 (69,[]),
 (70,[]),
 (71,[]),
 (72,[]),
 (73,[]),
 (74,[]),
 (75,[]),
 (76,[]),
 (77,[]),
 (78,[]),
 (79,[]),
 (80,[]),
 (81,[]),
 (82,[]),
 (83,[]),
 (84,[]),
 (85,[]),
 (86,[]),
 (87,[]),
 (88,[]),
 (89,[]),
 (90,[]),
 (91,[]),
 (92,[]),
 (93,[]),
 (94,[]),
 (95,[]),
 (96,[]),
 (97,[]),
 (98,[(1,[(0,[]),(1,[]),(2,[]),(4,[]),(5,[]),(7,[]),(8,[]),(3,[8,5]),(6,[8]),(9,[]),(10,[])])]),
 (99,[]),
 (100,[]),
 (101,[(1,[(0,[]),(1,[]),(2,[]),(4,[]),(5,[]),(7,[]),(8,[]),(3,[8,5]),(6,[8]),(9,[]),(10,[])])]),
 (102,[(9,[(0,[]),(1,[]),(2,[]),(3,[]),(4,[]),(5,[]),(6,[]),(7,[]),(8,[]),(9,[]),(10,[1]),(11,[]),(12,[]),(13,[]),(14,[])])]),
 (103,[]),
 (104,[(2,[(0,[]),(1,[0]),(2,[]),(3,[])]),(5,[(0,[]),(1,[]),(2,[0]),(3,[]),(4,[])]),(9,[(0,[]),(1,[]),(2,[1]),(3,[])])]),
 (105,[]),
 (106,[]),
 (107,[(8,[(0,[]),(1,[]),(2,[]),(3,[]),(4,[]),(5,[]),(6,[]),(7,[]),(8,[5]),(9,[]),(10,[]),(11,[])])]),
 (108,[(5,[(0,[]),(1,[]),(2,[]),(3,[]),(4,[]),(5,[3]),(6,[]),(7,[])]),(12,[(0,[]),(1,[]),(2,[]),(3,[]),(4,[]),(5,[3]),(6,[]),(7,[])]),(15,[(0,[]),(1,[]),(2,[]),(3,[]),(4,[]),(5,[]),(6,[]),(7,[5,3]),(8,[]),(9,[5]),(10,[]),(11,[])])]),
 (109,[]),
 (110,[(33,[(1,[]),(2,[]),(3,[]),(4,[]),(6,[]),(7,[]),(8,[]),(9,[]),(10,[]),(0,[]),(5,[7]),(11,[]),(12,[]),(13,[])]),(44,[(0,[]),(1,[]),(2,[1]),(3,[])])]),
 (111,[(4,[(0,[]),(1,[]),(2,[]),(3,[]),(4,[]),(5,[]),(6,[]),(7,[]),(8,[5]),(9,[]),(10,[]),(11,[])])]),
 (112,[]),
 (113,[]),
 (114,[]),
 (115,[]),
 (116,[]),
 (117,[]),
 (118,[(1,[(0,[]),(1,[]),(2,[]),(3,[]),(4,[]),(5,[]),(6,[]),(7,[]),(8,[]),(9,[]),(10,[]),(11,[]),(12,[]),(13,[]),(14,[]),(15,[]),(16,[]),(17,[]),(18,[]),(19,[]),(20,[15]),(21,[]),(22,[]),(23,[])])]),
 (119,[]),
 (120,[(19,[(0,[]),(1,[]),(2,[]),(3,[]),(4,[]),(5,[]),(6,[]),(7,[]),(8,[]),(9,[]),(10,[]),(11,[]),(12,[]),(13,[]),(15,[]),(16,[]),(17,[]),(18,[]),(19,[]),(14,[19]),(20,[]),(21,[]),(22,[]),(23,[]),(24,[]),(25,[]),(26,[]),(27,[]),(28,[]),(29,[]),(30,[]),(31,[]),(32,[]),(33,[]),(34,[]),(35,[]),(36,[]),(37,[]),(38,[]),(39,[]),(40,[]),(41,[]),(42,[]),(43,[]),(44,[]),(45,[]),(46,[]),(47,[]),(48,[])])]),
 (121,[]),
 (122,[(11,[(1,[]),(2,[]),(3,[]),(5,[]),(6,[]),(7,[]),(8,[]),(9,[]),(10,[]),(13,[]),(14,[]),(15,[]),(0,[]),(4,[9]),(11,[]),(12,[]),(16,[]),(17,[])])]),
 (123,[(1,[(0,[]),(1,[]),(2,[]),(3,[]),(4,[]),(5,[]),(6,[]),(7,[]),(8,[]),(9,[]),(10,[]),(11,[]),(12,[]),(13,[]),(14,[]),(15,[]),(16,[]),(17,[]),(18,[]),(19,[]),(20,[]),(21,[]),(22,[]),(23,[]),(24,[]),(25,[]),(26,[]),(27,[]),(28,[]),(29,[]),(30,[25]),(31,[]),(32,[]),(33,[])])]),
 (124,[(1,[(0,[]),(1,[]),(2,[]),(3,[]),(4,[]),(5,[]),(6,[]),(7,[]),(9,[]),(8,[9]),(10,[]),(11,[]),(12,[]),(13,[])])]),
 (125,[]),
 (126,[]),
 (127,[]),
 (128,[]),
 (129,[]),
 (130,[]),
 (131,[]),
 (132,[]),
 (133,[]),
 (134,[]),
 (135,[]),
 (136,[]),
 (137,[]),
 (138,[]),
 (139,[]),
 (140,[]),
 (141,[]),
 (142,[(5,[(0,[]),(1,[]),(2,[]),(3,[]),(4,[]),(5,[3]),(6,[]),(7,[])]),(14,[(0,[]),(1,[]),(2,[]),(3,[]),(4,[]),(5,[]),(6,[]),(7,[]),(8,[]),(10,[]),(9,[5,2]),(11,[5]),(12,[]),(13,[]),(14,[]),(15,[])]),(17,[(0,[]),(1,[]),(2,[]),(3,[]),(4,[]),(5,[]),(6,[]),(7,[5,3]),(8,[]),(9,[5]),(10,[]),(11,[])]),(24,[(0,[]),(1,[]),(2,[]),(3,[]),(4,[2]),(5,[])])]),
 (143,[(5,[(0,[]),(1,[]),(2,[]),(3,[]),(4,[]),(5,[4]),(6,[])])]),
 (144,[]),
 (145,[]),
 (146,[]),
 (147,[]),
 (148,[]),
 (149,[]),
 (150,[]),
 (151,[]),
 (152,[]),
 (153,[]),
 (154,[(10,[(0,[]),(1,[]),(2,[]),(3,[]),(4,[]),(7,[]),(8,[]),(9,[]),(10,[]),(11,[]),(5,[]),(6,[11]),(12,[]),(13,[]),(14,[]),(15,[])])]),
 (155,[]),
 (156,[]),
 (157,[]),
 (158,[]),
 (159,[]),
 (160,[]),
 (161,[(5,[(0,[]),(1,[]),(2,[]),(3,[]),(4,[]),(5,[]),(8,[]),(9,[]),(10,[]),(11,[]),(12,[]),(13,[]),(6,[]),(7,[13]),(14,[]),(15,[]),(16,[]),(17,[])])]),
 (162,[]),
 (163,[]),
 (164,[]),
 (165,[]),
 (166,[]),
 (167,[]),
 (168,[]),
 (169,[]),
 (170,[]),
 (171,[]),
 (172,[]),
 (173,[]),
 (174,[]),
 (175,[]),
 (176,[]),
 (177,[]),
 (178,[(17,[(0,[]),(2,[]),(3,[]),(1,[3]),(4,[]),(5,[]),(6,[]),(7,[])])]),
 (179,[]),
 (180,[]),
 (181,[]),
 (182,[]),
 (183,[]),
 (184,[]),
 (185,[]),
 (186,[(14,[(1,[]),(2,[]),(3,[]),(5,[]),(6,[]),(7,[]),(10,[]),(11,[]),(12,[]),(0,[]),(4,[]),(8,[]),(9,[]),(13,[]),(14,[]),(15,[])])]),
 (187,[]),
 (188,[]),
 (189,[(13,[(1,[]),(2,[]),(3,[]),(5,[]),(8,[]),(9,[]),(10,[]),(0,[]),(4,[5]),(6,[]),(7,[]),(11,[]),(12,[]),(13,[])])]),
 (190,[(30,[(1,[]),(2,[]),(3,[]),(4,[]),(6,[]),(7,[]),(8,[]),(9,[]),(12,[]),(13,[]),(14,[]),(15,[]),(0,[]),(5,[13,7]),(10,[]),(11,[13]),(16,[]),(17,[]),(18,[])]),(31,[(0,[]),(1,[]),(2,[]),(3,[]),(4,[]),(5,[]),(6,[]),(7,[]),(8,[]),(9,[]),(10,[1]),(11,[]),(12,[]),(13,[]),(14,[]),(15,[]),(16,[]),(17,[])])]),
 (191,[(13,[(1,[]),(2,[]),(4,[]),(5,[]),(6,[]),(7,[]),(8,[]),(9,[]),(10,[]),(11,[]),(12,[]),(13,[]),(0,[]),(3,[12,10,9,5]),(14,[]),(15,[]),(16,[]),(17,[])]),(14,[(0,[]),(1,[]),(2,[]),(3,[]),(4,[]),(5,[3]),(6,[])])]),
 (192,[(12,[(0,[]),(1,[]),(2,[]),(3,[]),(4,[]),(5,[]),(6,[]),(8,[]),(9,[]),(7,[9]),(10,[]),(11,[]),(12,[])]),(22,[(0,[]),(1,[]),(2,[1]),(3,[])])]),
 (193,[]),
 (194,[(3,[(0,[]),(1,[]),(3,[]),(4,[]),(2,[4]),(5,[]),(6,[]),(7,[])])]),
 (195,[]),
 (196,[]),
 (197,[]),
 (198,[]),
 (199,[]),
 (200,[]),
 (201,[]),
 (203,[]),
 (204,[]),
 (205,[]),
 (206,[]),
 (207,[(4,[(0,[]),(1,[]),(3,[]),(4,[]),(6,[]),(2,[4]),(5,[]),(7,[]),(8,[]),(9,[]),(10,[])])]),
 (208,[(9,[(0,[]),(1,[]),(2,[]),(3,[]),(4,[]),(5,[]),(6,[3,1]),(7,[]),(8,[]),(9,[]),(10,[])])]),
 (209,[]),
 (210,[]),
 (211,[]),
 (212,[]),
 (213,[]),
 (214,[]),
 (215,[(6,[(0,[]),(1,[]),(2,[]),(3,[]),(4,[]),(5,[4]),(6,[])])]),
 (216,[]),
 (217,[]),
 (218,[]),
 (219,[]),
 (220,[]),
 (222,[]),
 (223,[(7,[(0,[]),(1,[]),(2,[]),(3,[]),(4,[1]),(5,[]),(6,[]),(7,[])])]),
 (224,[]),
 (225,[]),
 (226,[(5,[(0,[]),(1,[]),(2,[]),(5,[]),(6,[]),(7,[]),(3,[]),(4,[7]),(8,[]),(9,[]),(10,[]),(11,[])])]),
 (227,[]),
 (228,[]),
 (229,[]),
 (231,[]),
 (232,[]),
 (233,[]),
 (235,[]),
 (236,[]),
 (238,[]),
 (239,[]),
 (241,[]),
 (242,[(7,[(0,[]),(1,[]),(2,[]),(3,[]),(4,[]),(5,[]),(6,[]),(7,[]),(8,[]),(9,[]),(10,[]),(11,[]),(12,[]),(14,[]),(13,[14]),(15,[]),(16,[]),(17,[])])]),
 (243,[]),
 (244,[]),
 (245,[]),
 (246,[]),
 (249,[(7,[(0,[]),(1,[]),(2,[]),(4,[]),(5,[]),(3,[5]),(6,[]),(7,[])]),(16,[(0,[]),(1,[]),(2,[]),(3,[]),(5,[]),(6,[]),(7,[]),(9,[]),(10,[]),(11,[]),(4,[11,7]),(8,[11]),(12,[]),(13,[])]),(20,[(0,[]),(1,[]),(2,[]),(4,[]),(5,[]),(7,[]),(8,[]),(9,[]),(3,[9,8,5]),(6,[9,8]),(10,[]),(11,[])]),(27,[(0,[]),(1,[]),(2,[]),(4,[]),(5,[]),(7,[]),(8,[]),(10,[]),(11,[]),(3,[11,8,5]),(6,[11,8]),(9,[11]),(12,[]),(13,[])]),(31,[(0,[]),(1,[]),(2,[]),(4,[]),(5,[]),(7,[]),(8,[]),(9,[]),(11,[]),(12,[]),(13,[]),(3,[13,9,5]),(6,[13,9]),(10,[13]),(14,[]),(15,[])])]),
 (250,[]),
 (251,[]),
 (252,[]),
 (253,[]),
 (254,[]),
 (258,[]),
 (259,[]),
 (260,[]),
 (263,[]),
 (268,[]),
 (269,[]),
 (270,[]),
 (271,[]),
 (273,[]),
 (278,[]),
 (279,[]),
 (286,[]),
 (287,[]),
 (307,[]),
 (308,[]),
 (309,[]),
 (310,[]),
 (311,[]),
 (312,[]),
 (313,[]),
 (314,[])]
def dVl:List Nat:=[3,4,5,6,7,8,9,10,11,12,13,14,15,16,17,18,19,21,22,23,24,25,26,27,28,29,30,31,32,33,34,35,36,37,38,40,41,42,43,44,45,46,47,48,50,51,52,53,54,55,56,57,58,59,62,64,68,69,70,73,74,75,76,77,78,80,81,82,83,84,85,86,87,88,89,90,91,103,104,105,107,108,109,110,111,112,113,114,115,116,117,118,119,120,121,122,123,124,126,127,128,129,130,131,132,133,134,135,136,137,139,140,141,142,143,144,145,146,147,148,150,151,158,159,160,161,162,163,164,165,166,167,168,169,170,173,174,175,177,178,182,185,186,187,188,189,190,191,192,193,194,195,196,197,198,199,200,201,203,204,205,206,207,208,212,213,214,215,216,217,218,219,220,222,223,224,225,226,227,228,229,231,232,233,236,238,241,242,243,244,245,246,249,253,254,258,260,263,268,271,273,278,279,286,287,307,308,309,310,311,312,313,314]
def dOl:List (Nat×List Nat):=[(235,[0]),(102,[2]),(157,[999])]
noncomputable def uL:jB:=pX prog dSp aXd dVl dOl
end Go.Proofs.YtoaibmbldmckaaaGreat
end
section
namespace Go.Proofs.YtoaibmbldmckaaaGreat
open Go.RowKit Go.AM Tryz
def aSl:iB:=[
 (3,[]),
 (4,[(4,[(0,[]),(2,[]),(1,[2]),(3,[]),(4,[]),(5,[]),(6,[]),(7,[]),(8,[]),(9,[]),(10,[]),(11,[]),(12,[]),(13,[])])]),
 (5,[(10,[(0,[]),(1,[]),(2,[1]),(3,[])])]),
 (6,[(8,[(0,[]),(2,[]),(1,[2]),(3,[]),(4,[]),(5,[]),(6,[]),(7,[]),(8,[]),(9,[]),(10,[]),(11,[]),(12,[]),(13,[]),(14,[]),(15,[])])]),
 (7,[]),
 (8,[(7,[(1,[]),(2,[]),(3,[]),(4,[]),(6,[]),(7,[]),(8,[]),(9,[]),(10,[]),(0,[]),(5,[7]),(11,[]),(12,[])]),(15,[(0,[]),(1,[0]),(2,[0]),(3,[]),(4,[]),(5,[]),(6,[]),(7,[]),(8,[])])]),
 (9,[]),
 (10,[]),
 (11,[]),
 (12,[]),
 (13,[(2,[(0,[]),(2,[]),(1,[2]),(3,[]),(4,[]),(5,[]),(6,[]),(7,[]),(8,[]),(9,[]),(10,[]),(11,[]),(12,[]),(13,[]),(14,[])])]),
 (14,[]),
 (15,[(5,[(0,[]),(1,[]),(2,[0]),(3,[]),(4,[]),(5,[]),(6,[]),(7,[]),(8,[]),(9,[])]),(6,[(0,[]),(1,[]),(2,[0]),(3,[]),(4,[]),(5,[]),(6,[]),(7,[]),(8,[]),(9,[])])]),
 (16,[(3,[(0,[]),(2,[]),(1,[2]),(3,[]),(4,[]),(5,[])]),(4,[(0,[]),(1,[]),(2,[]),(3,[]),(4,[]),(5,[]),(6,[]),(7,[]),(8,[]),(9,[]),(10,[]),(12,[]),(13,[]),(11,[13,12]),(14,[]),(15,[]),(16,[]),(17,[]),(18,[]),(19,[]),(20,[])])]),
 (17,[(32,[(0,[]),(1,[]),(2,[]),(3,[]),(4,[]),(5,[]),(6,[]),(7,[]),(8,[]),(9,[]),(10,[]),(11,[]),(12,[]),(13,[]),(14,[]),(15,[]),(16,[]),(17,[]),(18,[]),(19,[]),(20,[]),(21,[]),(22,[]),(23,[]),(24,[]),(25,[]),(26,[]),(27,[]),(28,[25,23]),(29,[]),(30,[]),(31,[25,23]),(32,[]),(33,[]),(34,[25]),(35,[]),(36,[]),(37,[])])]),
 (18,[])]
theorem aQ8:gH prog aSl=true:=by kernel_rfl
def aSm:iB:=[
 (19,[]),
 (20,[]),
 (21,[]),
 (22,[]),
 (23,[]),
 (24,[]),
 (25,[(6,[(0,[]),(1,[]),(2,[]),(3,[]),(4,[]),(5,[]),(6,[]),(7,[]),(8,[]),(9,[8]),(10,[]),(11,[]),(12,[]),(13,[]),(14,[]),(15,[]),(16,[]),(17,[]),(18,[]),(19,[]),(20,[]),(21,[]),(22,[]),(23,[]),(24,[])])]),
 (26,[]),
 (27,[]),
 (28,[]),
 (29,[(7,[(0,[]),(1,[]),(2,[]),(3,[]),(4,[]),(5,[]),(6,[]),(8,[]),(9,[]),(10,[]),(11,[]),(12,[]),(13,[]),(15,[]),(16,[]),(17,[]),(18,[]),(19,[]),(20,[]),(7,[20,16,13,9]),(14,[20,16]),(21,[]),(22,[])]),(12,[(0,[]),(1,[]),(2,[]),(3,[]),(4,[]),(5,[]),(6,[]),(8,[]),(9,[]),(10,[]),(11,[]),(12,[]),(13,[]),(15,[]),(16,[]),(17,[]),(18,[]),(19,[]),(20,[]),(7,[20,16,13,9]),(14,[20,16]),(21,[]),(22,[])]),(18,[(0,[]),(1,[]),(2,[]),(3,[]),(5,[]),(6,[]),(4,[6]),(7,[]),(8,[])]),(19,[(0,[]),(1,[]),(2,[]),(3,[]),(5,[]),(6,[]),(7,[]),(4,[7]),(8,[]),(9,[])]),(25,[(0,[]),(1,[]),(2,[]),(4,[]),(5,[]),(7,[]),(8,[]),(3,[8,5]),(6,[8]),(9,[]),(10,[])]),(30,[(0,[]),(1,[]),(2,[]),(3,[]),(4,[]),(5,[]),(6,[]),(8,[]),(9,[]),(10,[]),(11,[]),(12,[]),(13,[]),(15,[]),(16,[]),(17,[]),(18,[]),(19,[]),(20,[]),(7,[20,16,13,9]),(14,[20,16]),(21,[]),(22,[])])]),
 (30,[]),
 (31,[]),
 (32,[]),
 (33,[(3,[(0,[]),(1,[0]),(2,[]),(3,[])]),(5,[(0,[]),(1,[0]),(2,[]),(3,[])]),(10,[(0,[]),(1,[]),(2,[0]),(3,[]),(4,[])]),(12,[(0,[]),(1,[]),(2,[1]),(3,[])]),(17,[(0,[]),(1,[]),(2,[1]),(3,[])])]),
 (34,[(9,[(1,[]),(2,[]),(4,[]),(5,[]),(6,[]),(0,[]),(3,[5]),(7,[]),(8,[]),(9,[]),(10,[])]),(11,[(0,[]),(1,[]),(2,[]),(3,[]),(4,[]),(5,[2]),(6,[])]),(16,[(0,[]),(1,[]),(2,[1]),(3,[])]),(21,[(0,[]),(1,[]),(2,[1]),(3,[])])])]
theorem aQ9:gH prog aSm=true:=by kernel_rfl
def aSn:iB:=[
 (35,[]),
 (36,[]),
 (37,[]),
 (38,[]),
 (39,[]),
 (40,[]),
 (41,[(10,[(0,[]),(1,[]),(3,[]),(2,[3]),(4,[]),(5,[]),(6,[]),(7,[]),(8,[]),(10,[]),(9,[10]),(11,[]),(12,[]),(13,[])]),(19,[(1,[]),(2,[]),(3,[]),(5,[]),(6,[]),(7,[]),(8,[]),(9,[]),(12,[]),(13,[]),(14,[]),(0,[]),(4,[8,6]),(10,[]),(11,[]),(15,[]),(16,[])])]),
 (42,[]),
 (43,[]),
 (44,[(3,[(0,[]),(1,[0]),(2,[0]),(3,[]),(4,[]),(5,[]),(6,[]),(7,[]),(8,[])]),(4,[(0,[]),(1,[0]),(2,[0]),(3,[]),(4,[]),(5,[]),(6,[]),(7,[]),(8,[])])]),
 (45,[]),
 (46,[]),
 (47,[]),
 (48,[]),
 (50,[]),
 (51,[])]
theorem aQa:gH prog aSn=true:=by kernel_rfl
def aSo:iB:=[
 (52,[]),
 (53,[]),
 (54,[(7,[(0,[]),(1,[]),(3,[]),(4,[]),(6,[]),(2,[4]),(5,[]),(7,[]),(8,[]),(9,[]),(10,[])])]),
 (55,[]),
 (56,[]),
 (57,[]),
 (58,[]),
 (59,[]),
 (60,[]),
 (61,[]),
 (62,[]),
 (63,[]),
 (64,[]),
 (65,[]),
 (66,[]),
 (67,[])]
theorem aQb:gH prog aSo=true:=by kernel_rfl
def aSp:iB:=[
 (68,[]),
 (69,[]),
 (70,[]),
 (71,[]),
 (72,[]),
 (73,[]),
 (74,[]),
 (75,[]),
 (76,[]),
 (77,[]),
 (78,[]),
 (79,[]),
 (80,[]),
 (81,[]),
 (82,[]),
 (83,[])]
theorem aQc:gH prog aSp=true:=by kernel_rfl
def aSq:iB:=[
 (84,[]),
 (85,[]),
 (86,[]),
 (87,[]),
 (88,[]),
 (89,[]),
 (90,[]),
 (91,[]),
 (92,[]),
 (93,[]),
 (94,[]),
 (95,[]),
 (96,[]),
 (97,[]),
 (98,[(1,[(0,[]),(1,[]),(2,[]),(4,[]),(5,[]),(7,[]),(8,[]),(3,[8,5]),(6,[8]),(9,[]),(10,[])])]),
 (99,[])]
theorem aQd:gH prog aSq=true:=by kernel_rfl
def aSr:iB:=[
 (100,[]),
 (101,[(1,[(0,[]),(1,[]),(2,[]),(4,[]),(5,[]),(7,[]),(8,[]),(3,[8,5]),(6,[8]),(9,[]),(10,[])])]),
 (102,[(9,[(0,[]),(1,[]),(2,[]),(3,[]),(4,[]),(5,[]),(6,[]),(7,[]),(8,[]),(9,[]),(10,[1]),(11,[]),(12,[]),(13,[]),(14,[])])]),
 (103,[]),
 (104,[(2,[(0,[]),(1,[0]),(2,[]),(3,[])]),(5,[(0,[]),(1,[]),(2,[0]),(3,[]),(4,[])]),(9,[(0,[]),(1,[]),(2,[1]),(3,[])])]),
 (105,[]),
 (106,[]),
 (107,[(8,[(0,[]),(1,[]),(2,[]),(3,[]),(4,[]),(5,[]),(6,[]),(7,[]),(8,[5]),(9,[]),(10,[]),(11,[])])]),
 (108,[(5,[(0,[]),(1,[]),(2,[]),(3,[]),(4,[]),(5,[3]),(6,[]),(7,[])]),(12,[(0,[]),(1,[]),(2,[]),(3,[]),(4,[]),(5,[3]),(6,[]),(7,[])]),(15,[(0,[]),(1,[]),(2,[]),(3,[]),(4,[]),(5,[]),(6,[]),(7,[5,3]),(8,[]),(9,[5]),(10,[]),(11,[])])]),
 (109,[]),
 (110,[(33,[(1,[]),(2,[]),(3,[]),(4,[]),(6,[]),(7,[]),(8,[]),(9,[]),(10,[]),(0,[]),(5,[7]),(11,[]),(12,[]),(13,[])]),(44,[(0,[]),(1,[]),(2,[1]),(3,[])])]),
 (111,[(4,[(0,[]),(1,[]),(2,[]),(3,[]),(4,[]),(5,[]),(6,[]),(7,[]),(8,[5]),(9,[]),(10,[]),(11,[])])]),
 (112,[]),
 (113,[]),
 (114,[]),
 (115,[])]
theorem aQe:gH prog aSr=true:=by kernel_rfl
def aSs:iB:=[
 (116,[]),
 (117,[]),
 (118,[(1,[(0,[]),(1,[]),(2,[]),(3,[]),(4,[]),(5,[]),(6,[]),(7,[]),(8,[]),(9,[]),(10,[]),(11,[]),(12,[]),(13,[]),(14,[]),(15,[]),(16,[]),(17,[]),(18,[]),(19,[]),(20,[15]),(21,[]),(22,[]),(23,[])])]),
 (119,[]),
 (120,[(19,[(0,[]),(1,[]),(2,[]),(3,[]),(4,[]),(5,[]),(6,[]),(7,[]),(8,[]),(9,[]),(10,[]),(11,[]),(12,[]),(13,[]),(15,[]),(16,[]),(17,[]),(18,[]),(19,[]),(14,[19]),(20,[]),(21,[]),(22,[]),(23,[]),(24,[]),(25,[]),(26,[]),(27,[]),(28,[]),(29,[]),(30,[]),(31,[]),(32,[]),(33,[]),(34,[]),(35,[]),(36,[]),(37,[]),(38,[]),(39,[]),(40,[]),(41,[]),(42,[]),(43,[]),(44,[]),(45,[]),(46,[]),(47,[]),(48,[])])]),
 (121,[]),
 (122,[(11,[(1,[]),(2,[]),(3,[]),(5,[]),(6,[]),(7,[]),(8,[]),(9,[]),(10,[]),(13,[]),(14,[]),(15,[]),(0,[]),(4,[9]),(11,[]),(12,[]),(16,[]),(17,[])])]),
 (123,[(1,[(0,[]),(1,[]),(2,[]),(3,[]),(4,[]),(5,[]),(6,[]),(7,[]),(8,[]),(9,[]),(10,[]),(11,[]),(12,[]),(13,[]),(14,[]),(15,[]),(16,[]),(17,[]),(18,[]),(19,[]),(20,[]),(21,[]),(22,[]),(23,[]),(24,[]),(25,[]),(26,[]),(27,[]),(28,[]),(29,[]),(30,[25]),(31,[]),(32,[]),(33,[])])]),
 (124,[(1,[(0,[]),(1,[]),(2,[]),(3,[]),(4,[]),(5,[]),(6,[]),(7,[]),(9,[]),(8,[9]),(10,[]),(11,[]),(12,[]),(13,[])])]),
 (125,[]),
 (126,[]),
 (127,[]),
 (128,[]),
 (129,[]),
 (130,[]),
 (131,[])]
theorem aQf:gH prog aSs=true:=by kernel_rfl
def aSt:iB:=[
 (132,[]),
 (133,[]),
 (134,[]),
 (135,[]),
 (136,[]),
 (137,[]),
 (138,[]),
 (139,[]),
 (140,[]),
 (141,[]),
 (142,[(5,[(0,[]),(1,[]),(2,[]),(3,[]),(4,[]),(5,[3]),(6,[]),(7,[])]),(14,[(0,[]),(1,[]),(2,[]),(3,[]),(4,[]),(5,[]),(6,[]),(7,[]),(8,[]),(10,[]),(9,[5,2]),(11,[5]),(12,[]),(13,[]),(14,[]),(15,[])]),(17,[(0,[]),(1,[]),(2,[]),(3,[]),(4,[]),(5,[]),(6,[]),(7,[5,3]),(8,[]),(9,[5]),(10,[]),(11,[])]),(24,[(0,[]),(1,[]),(2,[]),(3,[]),(4,[2]),(5,[])])]),
 (143,[(5,[(0,[]),(1,[]),(2,[]),(3,[]),(4,[]),(5,[4]),(6,[])])]),
 (144,[]),
 (145,[]),
 (146,[]),
 (147,[])]
theorem aQg:gH prog aSt=true:=by kernel_rfl
def aSu:iB:=[
 (148,[]),
 (149,[]),
 (150,[]),
 (151,[]),
 (152,[]),
 (153,[]),
 (154,[(10,[(0,[]),(1,[]),(2,[]),(3,[]),(4,[]),(7,[]),(8,[]),(9,[]),(10,[]),(11,[]),(5,[]),(6,[11]),(12,[]),(13,[]),(14,[]),(15,[])])]),
 (155,[]),
 (156,[]),
 (157,[]),
 (158,[]),
 (159,[]),
 (160,[]),
 (161,[(5,[(0,[]),(1,[]),(2,[]),(3,[]),(4,[]),(5,[]),(8,[]),(9,[]),(10,[]),(11,[]),(12,[]),(13,[]),(6,[]),(7,[13]),(14,[]),(15,[]),(16,[]),(17,[])])]),
 (162,[]),
 (163,[])]
theorem aQh:gH prog aSu=true:=by kernel_rfl
def aN5:iB:=[
 (164,[]),
 (165,[]),
 (166,[]),
 (167,[]),
 (168,[]),
 (169,[]),
 (170,[]),
 (171,[]),
 (172,[]),
 (173,[]),
 (174,[]),
 (175,[]),
 (176,[]),
 (177,[]),
 (178,[(17,[(0,[]),(2,[]),(3,[]),(1,[3]),(4,[]),(5,[]),(6,[]),(7,[])])]),
 (179,[])]
theorem aLh:gH prog aN5=true:=by kernel_rfl
def aN6:iB:=[
 (180,[]),
 (181,[]),
 (182,[]),
 (183,[]),
 (184,[]),
 (185,[]),
 (186,[(14,[(1,[]),(2,[]),(3,[]),(5,[]),(6,[]),(7,[]),(10,[]),(11,[]),(12,[]),(0,[]),(4,[]),(8,[]),(9,[]),(13,[]),(14,[]),(15,[])])]),
 (187,[]),
 (188,[]),
 (189,[(13,[(1,[]),(2,[]),(3,[]),(5,[]),(8,[]),(9,[]),(10,[]),(0,[]),(4,[5]),(6,[]),(7,[]),(11,[]),(12,[]),(13,[])])]),
 (190,[(30,[(1,[]),(2,[]),(3,[]),(4,[]),(6,[]),(7,[]),(8,[]),(9,[]),(12,[]),(13,[]),(14,[]),(15,[]),(0,[]),(5,[13,7]),(10,[]),(11,[13]),(16,[]),(17,[]),(18,[])]),(31,[(0,[]),(1,[]),(2,[]),(3,[]),(4,[]),(5,[]),(6,[]),(7,[]),(8,[]),(9,[]),(10,[1]),(11,[]),(12,[]),(13,[]),(14,[]),(15,[]),(16,[]),(17,[])])]),
 (191,[(13,[(1,[]),(2,[]),(4,[]),(5,[]),(6,[]),(7,[]),(8,[]),(9,[]),(10,[]),(11,[]),(12,[]),(13,[]),(0,[]),(3,[12,10,9,5]),(14,[]),(15,[]),(16,[]),(17,[])]),(14,[(0,[]),(1,[]),(2,[]),(3,[]),(4,[]),(5,[3]),(6,[])])]),
 (192,[(12,[(0,[]),(1,[]),(2,[]),(3,[]),(4,[]),(5,[]),(6,[]),(8,[]),(9,[]),(7,[9]),(10,[]),(11,[]),(12,[])]),(22,[(0,[]),(1,[]),(2,[1]),(3,[])])]),
 (193,[]),
 (194,[(3,[(0,[]),(1,[]),(3,[]),(4,[]),(2,[4]),(5,[]),(6,[]),(7,[])])]),
 (195,[])]
theorem aLi:gH prog aN6=true:=by kernel_rfl
def aN7:iB:=[
 (196,[]),
 (197,[]),
 (198,[]),
 (199,[]),
 (200,[]),
 (201,[]),
 (203,[]),
 (204,[]),
 (205,[]),
 (206,[]),
 (207,[(4,[(0,[]),(1,[]),(3,[]),(4,[]),(6,[]),(2,[4]),(5,[]),(7,[]),(8,[]),(9,[]),(10,[])])]),
 (208,[(9,[(0,[]),(1,[]),(2,[]),(3,[]),(4,[]),(5,[]),(6,[3,1]),(7,[]),(8,[]),(9,[]),(10,[])])]),
 (209,[]),
 (210,[]),
 (211,[]),
 (212,[])]
theorem aLj:gH prog aN7=true:=by kernel_rfl
def aN8:iB:=[
 (213,[]),
 (214,[]),
 (215,[(6,[(0,[]),(1,[]),(2,[]),(3,[]),(4,[]),(5,[4]),(6,[])])]),
 (216,[]),
 (217,[]),
 (218,[]),
 (219,[]),
 (220,[]),
 (222,[]),
 (223,[(7,[(0,[]),(1,[]),(2,[]),(3,[]),(4,[1]),(5,[]),(6,[]),(7,[])])]),
 (224,[]),
 (225,[]),
 (226,[(5,[(0,[]),(1,[]),(2,[]),(5,[]),(6,[]),(7,[]),(3,[]),(4,[7]),(8,[]),(9,[]),(10,[]),(11,[])])]),
 (227,[]),
 (228,[]),
 (229,[])]
theorem aLk:gH prog aN8=true:=by kernel_rfl
def aN9:iB:=[
 (231,[]),
 (232,[]),
 (233,[]),
 (235,[]),
 (236,[]),
 (238,[]),
 (239,[]),
 (241,[]),
 (242,[(7,[(0,[]),(1,[]),(2,[]),(3,[]),(4,[]),(5,[]),(6,[]),(7,[]),(8,[]),(9,[]),(10,[]),(11,[]),(12,[]),(14,[]),(13,[14]),(15,[]),(16,[]),(17,[])])]),
 (243,[]),
 (244,[]),
 (245,[]),
 (246,[]),
 (249,[(7,[(0,[]),(1,[]),(2,[]),(4,[]),(5,[]),(3,[5]),(6,[]),(7,[])]),(16,[(0,[]),(1,[]),(2,[]),(3,[]),(5,[]),(6,[]),(7,[]),(9,[]),(10,[]),(11,[]),(4,[11,7]),(8,[11]),(12,[]),(13,[])]),(20,[(0,[]),(1,[]),(2,[]),(4,[]),(5,[]),(7,[]),(8,[]),(9,[]),(3,[9,8,5]),(6,[9,8]),(10,[]),(11,[])]),(27,[(0,[]),(1,[]),(2,[]),(4,[]),(5,[]),(7,[]),(8,[]),(10,[]),(11,[]),(3,[11,8,5]),(6,[11,8]),(9,[11]),(12,[]),(13,[])]),(31,[(0,[]),(1,[]),(2,[]),(4,[]),(5,[]),(7,[]),(8,[]),(9,[]),(11,[]),(12,[]),(13,[]),(3,[13,9,5]),(6,[13,9]),(10,[13]),(14,[]),(15,[])])]),
 (250,[]),
 (251,[])]
theorem aLl:gH prog aN9=true:=by kernel_rfl
def aNa:iB:=[
 (252,[]),
 (253,[]),
 (254,[]),
 (258,[]),
 (259,[]),
 (260,[]),
 (263,[]),
 (268,[]),
 (269,[]),
 (270,[]),
 (271,[]),
 (273,[]),
 (278,[]),
 (279,[]),
 (286,[]),
 (287,[])]
theorem aLm:gH prog aNa=true:=by kernel_rfl
def aNb:iB:=[
 (307,[]),
 (308,[]),
 (309,[]),
 (310,[]),
 (311,[]),
 (312,[]),
 (313,[]),
 (314,[])]
theorem aLn:gH prog aNb=true:=by kernel_rfl
end Go.Proofs.YtoaibmbldmckaaaGreat
end
section
namespace Go.Proofs.YtoaibmbldmckaaaGreat
open Go.AM Tryz
section
noncomputable abbrev C:aK:=W prog uL
abbrev Fv (f:Nat) (args:List V) (v:V):Prop:=Go.AM.Fn prog uL f args v
abbrev Fr (f:Nat) (mk:Nat→List V) (n:Nat) (pre:List V) (v:V) (post:List V):Prop:=Go.AM.FnR prog uL f mk 0 n [pre] v [post]
theorem A2 {p q:Prop} (a:p) (b:q):p∧q:=⟨a,b⟩
abbrev TP:=List (Nat×List bM)
abbrev TL:=List (Nat×List Nat)
abbrev VA (f:Nat) (fn:Func) (tp:TP) (tl:TL):Prop:=∀ {args:List V} {v:V},cloVs args=true→(aAh prog C fn tp tl args ⟨0,.nil⟩ fun v0 S0=>gK S0 v0=.ok v)→Fv f args v
abbrev VB (f:Nat) (fn:Func) (tp:TP) (tl:TL):Prop:=∀ {args:List V} {S:St} {K:KW},aAh prog C fn tp tl args S K→C f args S K
abbrev VC (f:Nat) (fn:Func) (tp:TP) (tl:TL) (w:List Nat):Prop:=∀ {args:List V} {S:St} {K:KW},cloVs args=true→(aAh prog C fn tp tl args ⟨0,.nil⟩ fun v0 S0=>wR (hl (sN w v0 S0 S)) fun r=>K r.1 r.2)→C f args S K
abbrev VT (f:Nat) (fn:Func) (tp:TP) (tl:TL):Prop:=∀ (args:List V) (S:St) (K:KW),dV prog C (fY tp) (jL tl) f args S K=aAh prog C fn tp tl args S K
abbrev VK (f:Nat) (fn:Func) (tp:TP) (tl:TL):Prop:=∀ {bs:List V} {v:V},(aAh prog C fn tp tl bs ⟨0,.nil⟩ fun v0 S0=>aEv S0 v0=true∧gK S0 v0=.ok v)→FnK prog uL f bs v
section
variable {f:Nat} {fn:Func} {tp:TP} {tl:TL}
theorem va (hp:uL f=some (.val (fY tp))) (hb:yB prog f=some (aCx fn)):VA f fn tp tl:=fun hc h=>bEh hp hb hc h
theorem vb (hp:uL f=some (.code (fY tp))) (hb:yB prog f=some (aCx fn)):VB f fn tp tl:=fun h=>bCz hp hb h
theorem vt (hb:yB prog f=some (aCx fn)):VT f fn tp tl:=fun args S K=>by unfold dV;rw [hb];rfl
theorem vc {w:List Nat} (hp:uL f=some (.own (fY tp) w)) (hb:yB prog f=some (aCx fn)) (hm:gQ kpN w=false):VC f fn tp tl w:=fun hc h=>bEe (p:=fY tp) (lv:=jL tl) hp hm hc (by rw [vt (tp:=tp) (tl:=tl) hb];exact h)
theorem vk (hp:uL f=some (.own (fY tp) [kpN])) (hb:yB prog f=some (aCx fn)):VK f fn tp tl:=fun h=>FnK.of (p:=fY tp) (lv:=jL tl) hp (by rw [vt (tp:=tp) (tl:=tl) hb];exact h)
end
theorem v13:VA 13 Tryz.f13 [(2,[(0,[]),(2,[]),(1,[2]),(3,[]),(4,[]),(5,[]),(6,[]),(7,[]),(8,[]),(9,[]),(10,[]),(11,[]),(12,[]),(13,[]),(14,[])])] []:=va (by kernel_rfl) (by kernel_rfl)
theorem v24:VA 24 Tryz.f24 [] []:=va (by kernel_rfl) (by kernel_rfl)
theorem bKr:uL 24=some (.val (fY [])):=by kernel_rfl
theorem v27:VA 27 Tryz.f27 [] [(4,[4,5])]:=va (by kernel_rfl) (by kernel_rfl)
theorem v28:VA 28 Tryz.f28 [] [(28,[97]),(22,[80]),(14,[53]),(6,[26])]:=va (by kernel_rfl) (by kernel_rfl)
theorem v29:VA 29 Tryz.f29 [(7,[(0,[]),(1,[]),(2,[]),(3,[]),(4,[]),(5,[]),(6,[]),(8,[]),(9,[]),(10,[]),(11,[]),(12,[]),(13,[]),(15,[]),(16,[]),(17,[]),(18,[]),(19,[]),(20,[]),(7,[20,16,13,9]),(14,[20,16]),(21,[]),(22,[])]),(12,[(0,[]),(1,[]),(2,[]),(3,[]),(4,[]),(5,[]),(6,[]),(8,[]),(9,[]),(10,[]),(11,[]),(12,[]),(13,[]),(15,[]),(16,[]),(17,[]),(18,[]),(19,[]),(20,[]),(7,[20,16,13,9]),(14,[20,16]),(21,[]),(22,[])]),(18,[(0,[]),(1,[]),(2,[]),(3,[]),(5,[]),(6,[]),(4,[6]),(7,[]),(8,[])]),(19,[(0,[]),(1,[]),(2,[]),(3,[]),(5,[]),(6,[]),(7,[]),(4,[7]),(8,[]),(9,[])]),(25,[(0,[]),(1,[]),(2,[]),(4,[]),(5,[]),(7,[]),(8,[]),(3,[8,5]),(6,[8]),(9,[]),(10,[])]),(30,[(0,[]),(1,[]),(2,[]),(3,[]),(4,[]),(5,[]),(6,[]),(8,[]),(9,[]),(10,[]),(11,[]),(12,[]),(13,[]),(15,[]),(16,[]),(17,[]),(18,[]),(19,[]),(20,[]),(7,[20,16,13,9]),(14,[20,16]),(21,[]),(22,[])])] [(28,[3,10]),(22,[3,8]),(15,[3,6]),(10,[3,5]),(5,[3,4])]:=va (by kernel_rfl) (by kernel_rfl)
theorem v31:VA 31 Tryz.f31 [] []:=va (by kernel_rfl) (by kernel_rfl)
theorem v35:VA 35 Tryz.f35 [] [(4,[6,14])]:=va (by kernel_rfl) (by kernel_rfl)
theorem v85:VA 85 Tryz.f85 [] [(4,[2,10])]:=va (by kernel_rfl) (by kernel_rfl)
theorem v86:VA 86 Tryz.f86 [] [(4,[2,10])]:=va (by kernel_rfl) (by kernel_rfl)
theorem v87:VA 87 Tryz.f87 [] []:=va (by kernel_rfl) (by kernel_rfl)
theorem v88:VA 88 Tryz.f88 [] [(16,[2,58]),(5,[2,14])]:=va (by kernel_rfl) (by kernel_rfl)
theorem v89:VA 89 Tryz.f89 [] [(13,[2,38]),(3,[2,12])]:=va (by kernel_rfl) (by kernel_rfl)
theorem v90:VA 90 Tryz.f90 [] [(3,[2,3,4,11])]:=va (by kernel_rfl) (by kernel_rfl)
theorem v91:VA 91 Tryz.f91 [] [(4,[4,13])]:=va (by kernel_rfl) (by kernel_rfl)
theorem v92:VB 92 Tryz.f92 [] [(1,[8])]:=vb (by kernel_rfl) (by kernel_rfl)
theorem v93:VB 93 Tryz.f93 [] []:=vb (by kernel_rfl) (by kernel_rfl)
theorem v94:VB 94 Tryz.f94 [] []:=vb (by kernel_rfl) (by kernel_rfl)
theorem v95:VB 95 Tryz.f95 [] []:=vb (by kernel_rfl) (by kernel_rfl)
theorem v96:VB 96 Tryz.f96 [] [(6,[34])]:=vb (by kernel_rfl) (by kernel_rfl)
theorem v97:VB 97 Tryz.f97 [] [(3,[5,6])]:=vb (by kernel_rfl) (by kernel_rfl)
theorem v98:VB 98 Tryz.f98 [(1,[(0,[]),(1,[]),(2,[]),(4,[]),(5,[]),(7,[]),(8,[]),(3,[8,5]),(6,[8]),(9,[]),(10,[])])] []:=vb (by kernel_rfl) (by kernel_rfl)
theorem v99:VB 99 Tryz.f99 [] []:=vb (by kernel_rfl) (by kernel_rfl)
theorem bKs:VB 100 Tryz.f100 [] []:=vb (by kernel_rfl) (by kernel_rfl)
theorem bKt:VB 101 Tryz.f101 [(1,[(0,[]),(1,[]),(2,[]),(4,[]),(5,[]),(7,[]),(8,[]),(3,[8,5]),(6,[8]),(9,[]),(10,[])])] []:=vb (by kernel_rfl) (by kernel_rfl)
theorem bKu:VC 102 Tryz.f102 [(9,[(0,[]),(1,[]),(2,[]),(3,[]),(4,[]),(5,[]),(6,[]),(7,[]),(8,[]),(9,[]),(10,[1]),(11,[]),(12,[]),(13,[]),(14,[])])] [(7,[27])] [2]:=vc (by kernel_rfl) (by kernel_rfl) rfl
theorem bKv:VA 103 Tryz.f103 [] []:=va (by kernel_rfl) (by kernel_rfl)
theorem bKw:VA 104 Tryz.f104 [(2,[(0,[]),(1,[0]),(2,[]),(3,[])]),(5,[(0,[]),(1,[]),(2,[0]),(3,[]),(4,[])]),(9,[(0,[]),(1,[]),(2,[1]),(3,[])])] []:=va (by kernel_rfl) (by kernel_rfl)
theorem bEi:uL 104=some (.val (fY [(2,[(0,[]),(1,[0]),(2,[]),(3,[])]),(5,[(0,[]),(1,[]),(2,[0]),(3,[]),(4,[])]),(9,[(0,[]),(1,[]),(2,[1]),(3,[])])])):=by kernel_rfl
theorem bKx:VA 105 Tryz.f105 [] []:=va (by kernel_rfl) (by kernel_rfl)
theorem bKy:VB 106 Tryz.f106 [] []:=vb (by kernel_rfl) (by kernel_rfl)
theorem bKz:VA 107 Tryz.f107 [(8,[(0,[]),(1,[]),(2,[]),(3,[]),(4,[]),(5,[]),(6,[]),(7,[]),(8,[5]),(9,[]),(10,[]),(11,[])])] []:=va (by kernel_rfl) (by kernel_rfl)
theorem bL0:VA 114 Tryz.f114 [] [(4,[2,3])]:=va (by kernel_rfl) (by kernel_rfl)
theorem bL1:VA 115 Tryz.f115 [] [(4,[2,3])]:=va (by kernel_rfl) (by kernel_rfl)
theorem bL2:VA 116 Tryz.f116 [] [(4,[2,3])]:=va (by kernel_rfl) (by kernel_rfl)
theorem bL3:VA 117 Tryz.f117 [] [(2,[4,5])]:=va (by kernel_rfl) (by kernel_rfl)
theorem bL4:VA 118 Tryz.f118 [(1,[(0,[]),(1,[]),(2,[]),(3,[]),(4,[]),(5,[]),(6,[]),(7,[]),(8,[]),(9,[]),(10,[]),(11,[]),(12,[]),(13,[]),(14,[]),(15,[]),(16,[]),(17,[]),(18,[]),(19,[]),(20,[15]),(21,[]),(22,[]),(23,[])])] []:=va (by kernel_rfl) (by kernel_rfl)
theorem bL5:VA 120 Tryz.f120 [(19,[(0,[]),(1,[]),(2,[]),(3,[]),(4,[]),(5,[]),(6,[]),(7,[]),(8,[]),(9,[]),(10,[]),(11,[]),(12,[]),(13,[]),(15,[]),(16,[]),(17,[]),(18,[]),(19,[]),(14,[19]),(20,[]),(21,[]),(22,[]),(23,[]),(24,[]),(25,[]),(26,[]),(27,[]),(28,[]),(29,[]),(30,[]),(31,[]),(32,[]),(33,[]),(34,[]),(35,[]),(36,[]),(37,[]),(38,[]),(39,[]),(40,[]),(41,[]),(42,[]),(43,[]),(44,[]),(45,[]),(46,[]),(47,[]),(48,[])])] [(22,[4,11]),(15,[4,8]),(4,[6,7])]:=va (by kernel_rfl) (by kernel_rfl)
theorem bL6:VA 121 Tryz.f121 [] [(3,[2,3,4,5])]:=va (by kernel_rfl) (by kernel_rfl)
theorem bL7:VA 123 Tryz.f123 [(1,[(0,[]),(1,[]),(2,[]),(3,[]),(4,[]),(5,[]),(6,[]),(7,[]),(8,[]),(9,[]),(10,[]),(11,[]),(12,[]),(13,[]),(14,[]),(15,[]),(16,[]),(17,[]),(18,[]),(19,[]),(20,[]),(21,[]),(22,[]),(23,[]),(24,[]),(25,[]),(26,[]),(27,[]),(28,[]),(29,[]),(30,[25]),(31,[]),(32,[]),(33,[])])] []:=va (by kernel_rfl) (by kernel_rfl)
theorem bL8:VA 124 Tryz.f124 [(1,[(0,[]),(1,[]),(2,[]),(3,[]),(4,[]),(5,[]),(6,[]),(7,[]),(9,[]),(8,[9]),(10,[]),(11,[]),(12,[]),(13,[])])] []:=va (by kernel_rfl) (by kernel_rfl)
theorem bL9:VA 126 Tryz.f126 [] [(6,[4,5])]:=va (by kernel_rfl) (by kernel_rfl)
theorem bLa:VA 127 Tryz.f127 [] []:=va (by kernel_rfl) (by kernel_rfl)
theorem bLb:VA 131 Tryz.f131 [] []:=va (by kernel_rfl) (by kernel_rfl)
theorem bLc:VA 132 Tryz.f132 [] []:=va (by kernel_rfl) (by kernel_rfl)
theorem bLd:VB 138 Tryz.f138 [] [(5,[5,6])]:=vb (by kernel_rfl) (by kernel_rfl)
theorem bLe:VB 152 Tryz.f152 [] [(2,[4,8])]:=vb (by kernel_rfl) (by kernel_rfl)
theorem bLf:VB 155 Tryz.f155 [] [(2,[4,8])]:=vb (by kernel_rfl) (by kernel_rfl)
theorem bLg:VK 157 Tryz.f157 [] [(3,[2,3,4,18])]:=vk (by kernel_rfl) (by kernel_rfl)
theorem bLh:VA 160 Tryz.f160 [] []:=va (by kernel_rfl) (by kernel_rfl)
theorem bLi:VA 161 Tryz.f161 [(5,[(0,[]),(1,[]),(2,[]),(3,[]),(4,[]),(5,[]),(8,[]),(9,[]),(10,[]),(11,[]),(12,[]),(13,[]),(6,[]),(7,[13]),(14,[]),(15,[]),(16,[]),(17,[])])] [(3,[5,6,7])]:=va (by kernel_rfl) (by kernel_rfl)
theorem bLj:VA 163 Tryz.f163 [] []:=va (by kernel_rfl) (by kernel_rfl)
theorem bLk:VA 164 Tryz.f164 [] []:=va (by kernel_rfl) (by kernel_rfl)
theorem bLl:VA 165 Tryz.f165 [] [(4,[2])]:=va (by kernel_rfl) (by kernel_rfl)
theorem bLm:VA 166 Tryz.f166 [] [(5,[2,3,11])]:=va (by kernel_rfl) (by kernel_rfl)
theorem bLn:VA 167 Tryz.f167 [] [(4,[2,20])]:=va (by kernel_rfl) (by kernel_rfl)
theorem bLo:VA 168 Tryz.f168 [] []:=va (by kernel_rfl) (by kernel_rfl)
theorem bEj:uL 168=some (.val (fY [])):=by kernel_rfl
theorem bLp:VA 169 Tryz.f169 [] []:=va (by kernel_rfl) (by kernel_rfl)
theorem bEk:uL 170=some (.val (fY [])):=by kernel_rfl
theorem bLq:VT 170 Tryz.f170 [] []:=vt (by kernel_rfl)
theorem bLr:VB 171 Tryz.f171 [] []:=vb (by kernel_rfl) (by kernel_rfl)
theorem bLs:VB 172 Tryz.f172 [] []:=vb (by kernel_rfl) (by kernel_rfl)
theorem bLt:VA 174 Tryz.f174 [] []:=va (by kernel_rfl) (by kernel_rfl)
theorem bEl:uL 174=some (.val (fY [])):=by kernel_rfl
theorem bLu:VB 176 Tryz.f176 [] []:=vb (by kernel_rfl) (by kernel_rfl)
theorem bLv:VA 177 Tryz.f177 [] []:=va (by kernel_rfl) (by kernel_rfl)
theorem bLw:VA 178 Tryz.f178 [(17,[(0,[]),(2,[]),(3,[]),(1,[3]),(4,[]),(5,[]),(6,[]),(7,[])])] [(8,[4,5,7,20])]:=va (by kernel_rfl) (by kernel_rfl)
theorem bLx:VB 179 Tryz.f179 [] []:=vb (by kernel_rfl) (by kernel_rfl)
theorem bLy:VB 180 Tryz.f180 [] []:=vb (by kernel_rfl) (by kernel_rfl)
theorem bLz:VB 181 Tryz.f181 [] []:=vb (by kernel_rfl) (by kernel_rfl)
theorem bM0:VA 182 Tryz.f182 [] []:=va (by kernel_rfl) (by kernel_rfl)
theorem bM1:VB 183 Tryz.f183 [] []:=vb (by kernel_rfl) (by kernel_rfl)
theorem bM2:VB 184 Tryz.f184 [] [(6,[31])]:=vb (by kernel_rfl) (by kernel_rfl)
theorem bM3:VA 193 Tryz.f193 [] []:=va (by kernel_rfl) (by kernel_rfl)
theorem bM4:VA 194 Tryz.f194 [(3,[(0,[]),(1,[]),(3,[]),(4,[]),(2,[4]),(5,[]),(6,[]),(7,[])])] []:=va (by kernel_rfl) (by kernel_rfl)
theorem bM5:VA 195 Tryz.f195 [] [(4,[2])]:=va (by kernel_rfl) (by kernel_rfl)
theorem bM6:VA 196 Tryz.f196 [] []:=va (by kernel_rfl) (by kernel_rfl)
theorem bM7:VA 197 Tryz.f197 [] [(8,[3,11])]:=va (by kernel_rfl) (by kernel_rfl)
theorem bM8:VA 198 Tryz.f198 [] []:=va (by kernel_rfl) (by kernel_rfl)
theorem bM9:VA 199 Tryz.f199 [] [(2,[2,3])]:=va (by kernel_rfl) (by kernel_rfl)
theorem bMa:VA 200 Tryz.f200 [] [(5,[3,4])]:=va (by kernel_rfl) (by kernel_rfl)
theorem bMb:VA 203 Tryz.f203 [] []:=va (by kernel_rfl) (by kernel_rfl)
theorem bMc:VA 204 Tryz.f204 [] []:=va (by kernel_rfl) (by kernel_rfl)
theorem bMd:VB 211 Tryz.f211 [] []:=vb (by kernel_rfl) (by kernel_rfl)
theorem bMe:VA 217 Tryz.f217 [] []:=va (by kernel_rfl) (by kernel_rfl)
theorem bMf:VA 218 Tryz.f218 [] [(3,[4,5,12])]:=va (by kernel_rfl) (by kernel_rfl)
theorem bEm:uL 218=some (.val (fY [])):=by kernel_rfl
theorem bMg:VA 219 Tryz.f219 [] []:=va (by kernel_rfl) (by kernel_rfl)
theorem bMh:VA 220 Tryz.f220 [] [(2,[2,3])]:=va (by kernel_rfl) (by kernel_rfl)
theorem bMi:VA 222 Tryz.f222 [] []:=va (by kernel_rfl) (by kernel_rfl)
theorem bMj:VA 223 Tryz.f223 [(7,[(0,[]),(1,[]),(2,[]),(3,[]),(4,[1]),(5,[]),(6,[]),(7,[])])] [(3,[5])]:=va (by kernel_rfl) (by kernel_rfl)
theorem bEn:uL 223=some (.val (fY [(7,[(0,[]),(1,[]),(2,[]),(3,[]),(4,[1]),(5,[]),(6,[]),(7,[])])])):=by kernel_rfl
theorem bMk:VA 225 Tryz.f225 [] []:=va (by kernel_rfl) (by kernel_rfl)
theorem bMl:VA 226 Tryz.f226 [(5,[(0,[]),(1,[]),(2,[]),(5,[]),(6,[]),(7,[]),(3,[]),(4,[7]),(8,[]),(9,[]),(10,[]),(11,[])])] [(3,[3,4,16])]:=va (by kernel_rfl) (by kernel_rfl)
theorem bEo:uL 227=some (.val (fY [])):=by kernel_rfl
theorem bMm:VT 227 Tryz.f227 [] []:=vt (by kernel_rfl)
theorem bMn:VA 228 Tryz.f228 [] [(6,[3,23])]:=va (by kernel_rfl) (by kernel_rfl)
theorem bMo:VA 229 Tryz.f229 [] []:=va (by kernel_rfl) (by kernel_rfl)
theorem bEp:uL 231=some (.val (fY [])):=by kernel_rfl
theorem bMp:VT 231 Tryz.f231 [] [(2,[4,8])]:=vt (by kernel_rfl)
theorem bEq:uL 232=some (.val (fY [])):=by kernel_rfl
theorem bMq:VT 232 Tryz.f232 [] []:=vt (by kernel_rfl)
theorem bMr:VA 233 Tryz.f233 [] []:=va (by kernel_rfl) (by kernel_rfl)
theorem bMs:VC 235 Tryz.f235 [] [] [0]:=vc (by kernel_rfl) (by kernel_rfl) rfl
theorem bMt:VA 236 Tryz.f236 [] []:=va (by kernel_rfl) (by kernel_rfl)
theorem bMu:VA 238 Tryz.f238 [] [(11,[7,8,36])]:=va (by kernel_rfl) (by kernel_rfl)
theorem bMv:VB 239 Tryz.f239 [] []:=vb (by kernel_rfl) (by kernel_rfl)
theorem bMw:VA 241 Tryz.f241 [] []:=va (by kernel_rfl) (by kernel_rfl)
theorem bMx:VA 245 Tryz.f245 [] []:=va (by kernel_rfl) (by kernel_rfl)
theorem bMy:VA 246 Tryz.f246 [] []:=va (by kernel_rfl) (by kernel_rfl)
theorem bMz:VA 254 Tryz.f254 [] []:=va (by kernel_rfl) (by kernel_rfl)
theorem bN0:VA 258 Tryz.f258 [] []:=va (by kernel_rfl) (by kernel_rfl)
theorem bEr:VB 259 Tryz.f259 [] [(2,[2,9])]:=vb (by kernel_rfl) (by kernel_rfl)
theorem bN1:VA 260 Tryz.f260 [] [(4,[4,13])]:=va (by kernel_rfl) (by kernel_rfl)
theorem bEs:uL 263=some (.val (fY [])):=by kernel_rfl
theorem bN2:VT 263 Tryz.f263 [] []:=vt (by kernel_rfl)
theorem bN3:VA 268 Tryz.f268 [] []:=va (by kernel_rfl) (by kernel_rfl)
theorem bN4:VA 271 Tryz.f271 [] []:=va (by kernel_rfl) (by kernel_rfl)
theorem bN5:VA 278 Tryz.f278 [] [(5,[8,9,22])]:=va (by kernel_rfl) (by kernel_rfl)
theorem bN6:VA 279 Tryz.f279 [] []:=va (by kernel_rfl) (by kernel_rfl)
theorem bN7:VA 286 Tryz.f286 [] []:=va (by kernel_rfl) (by kernel_rfl)
theorem bN8:VA 287 Tryz.f287 [] []:=va (by kernel_rfl) (by kernel_rfl)
theorem tx0:∀ g:Nat,2≤g→g<247→dM prog g=some none:=by
 have h:((List.range 245).all fun g=>match dM prog (g+2) with
  | some none=>true
  | _=>false)=true:=by kernel_rfl
 intro g h0 h1
 have:=List.all_eq_true.1 h (g - 2) (List.mem_range.2 (by omega))
 rw [Nat.sub_add_cancel h0] at this
 split at this
 ·assumption
 ·cases this
theorem aZ7 {g:Nat} (h0:1<g) (h1:g<247) (args:List V) (S:St) (K:KW):kG prog C g args S K=C g (hl args) S K:=aCy _ _ (tx0 g h0 h1) _ _ _
theorem tx1:∀ g:Nat,248≤g→g<255→dM prog g=some none:=by
 have h:((List.range 7).all fun g=>match dM prog (g+248) with
  | some none=>true
  | _=>false)=true:=by kernel_rfl
 intro g h0 h1
 have:=List.all_eq_true.1 h (g - 248) (List.mem_range.2 (by omega))
 rw [Nat.sub_add_cancel h0] at this
 split at this
 ·assumption
 ·cases this
theorem aZ8 {g:Nat} (h0:247<g) (h1:g<255) (args:List V) (S:St) (K:KW):kG prog C g args S K=C g (hl args) S K:=aCy _ _ (tx1 g h0 h1) _ _ _
theorem tx2:∀ g:Nat,257≤g→g<261→dM prog g=some none:=by
 have h:((List.range 4).all fun g=>match dM prog (g+257) with
  | some none=>true
  | _=>false)=true:=by kernel_rfl
 intro g h0 h1
 have:=List.all_eq_true.1 h (g - 257) (List.mem_range.2 (by omega))
 rw [Nat.sub_add_cancel h0] at this
 split at this
 ·assumption
 ·cases this
theorem aZ9 {g:Nat} (h0:256<g) (h1:g<261) (args:List V) (S:St) (K:KW):kG prog C g args S K=C g (hl args) S K:=aCy _ _ (tx2 g h0 h1) _ _ _
theorem tx3:∀ g:Nat,267≤g→g<288→dM prog g=some none:=by
 have h:((List.range 21).all fun g=>match dM prog (g+267) with
  | some none=>true
  | _=>false)=true:=by kernel_rfl
 intro g h0 h1
 have:=List.all_eq_true.1 h (g - 267) (List.mem_range.2 (by omega))
 rw [Nat.sub_add_cancel h0] at this
 split at this
 ·assumption
 ·cases this
theorem aZa {g:Nat} (h0:266<g) (h1:g<288) (args:List V) (S:St) (K:KW):kG prog C g args S K=C g (hl args) S K:=aCy _ _ (tx3 g h0 h1) _ _ _
theorem aJg (args:List V) (S:St) (K:KW):kG prog C 255 args S K=wR (hl (pR Tryz.f255 args)) fun v=>K v S:=by
 unfold kG
 rw [show dM prog 255=some (some Tryz.f255) by kernel_rfl]
 rfl
theorem bEt (K:V→Prop):wO (aJ prog 30) K=K (.agg [.nils,.nils,.nils,.nils,.nils,.int .i64 0]):=congrArg (fun x=>wO x K) (show aJ prog 30=some (.agg [.nils,.nils,.nils,.nils,.nils,.int .i64 0]) by kernel_rfl)
theorem bEu (K:V→Prop):wO (aJ prog 48) K=K (.agg [.int .i64 0,.int .i64 0,.int .i64 0]):=congrArg (fun x=>wO x K) (show aJ prog 48=some (.agg [.int .i64 0,.int .i64 0,.int .i64 0]) by kernel_rfl)
theorem aZb:sO prog 26=true:=by kernel_rfl
theorem bEv (K:V→Prop):wO (aJ prog 52) K=K (.agg [.int .i64 0,.int .i64 0,.int .i64 0]):=congrArg (fun x=>wO x K) (show aJ prog 52=some (.agg [.int .i64 0,.int .i64 0,.int .i64 0]) by kernel_rfl)
theorem aZc:sO prog 22=true:=by kernel_rfl
theorem bEw (K:V→Prop):wO (aJ prog 61) K=K (.agg [.int .i64 0,.int .i64 0,.int .i64 0,.str [],.int .i64 0,.str [],.int .i64 0,.int .i64 0,.int .i64 0,.int .i64 0,.int .i64 0,.int .i64 0,.int .i64 0,.nils,.str [],.int .i64 0,.int .i64 0]):=congrArg (fun x=>wO x K) (show aJ prog 61=some (.agg [.int .i64 0,.int .i64 0,.int .i64 0,.str [],.int .i64 0,.str [],.int .i64 0,.int .i64 0,.int .i64 0,.int .i64 0,.int .i64 0,.int .i64 0,.int .i64 0,.nils,.str [],.int .i64 0,.int .i64 0]) by kernel_rfl)
theorem aZd:sO prog 44=true:=by kernel_rfl
theorem aZe:sO prog 96=true:=by kernel_rfl
theorem aZf:sO prog 97=true:=by kernel_rfl
theorem bEx (K:V→Prop):wO (aJ prog 99) K=K (.agg [.int .i64 0,.int .i64 0,.int .i64 0,.str [],.int .i64 0,.str [],.int .i64 0,.int .i64 0,.int .i64 0,.int .i64 0,.int .i64 0,.int .i64 0,.int .i64 0,.nils,.str [],.int .i64 0,.int .i64 0,.int .i64 0,.int .i64 0,.int .i64 0,.int .i64 0,.int .i64 0,.int .i64 0]):=congrArg (fun x=>wO x K) (show aJ prog 99=some (.agg [.int .i64 0,.int .i64 0,.int .i64 0,.str [],.int .i64 0,.str [],.int .i64 0,.int .i64 0,.int .i64 0,.int .i64 0,.int .i64 0,.int .i64 0,.int .i64 0,.nils,.str [],.int .i64 0,.int .i64 0,.int .i64 0,.int .i64 0,.int .i64 0,.int .i64 0,.int .i64 0,.int .i64 0]) by kernel_rfl)
theorem bEy (K:V→Prop):wO (aJ prog 54) K=K (.agg [.str [],.int .i64 0,.int .i64 0,.int .i64 0,.int .i64 0]):=congrArg (fun x=>wO x K) (show aJ prog 54=some (.agg [.str [],.int .i64 0,.int .i64 0,.int .i64 0,.int .i64 0]) by kernel_rfl)
theorem aZg:sO prog 24=true:=by kernel_rfl
theorem aZh (K:V→Prop):wO (aJ prog 126) K=K (.agg [.str [],.int .i64 0,.int .i64 0,.bool false]):=congrArg (fun x=>wO x K) (show aJ prog 126=some (.agg [.str [],.int .i64 0,.int .i64 0,.bool false]) by kernel_rfl)
theorem aZi:sO prog 25=true:=by kernel_rfl
theorem bEz (K:V→Prop):wO (aJ prog 84) K=K (.agg [.str [],.int .i64 0,.int .i64 0,.int .i64 0,.int .i64 0,.int .i64 0,.int .i64 0,.int .i64 0,.nils,.str [],.int .i64 0,.bool false]):=congrArg (fun x=>wO x K) (show aJ prog 84=some (.agg [.str [],.int .i64 0,.int .i64 0,.int .i64 0,.int .i64 0,.int .i64 0,.int .i64 0,.int .i64 0,.nils,.str [],.int .i64 0,.bool false]) by kernel_rfl)
theorem aZj (K:V→Prop):wO (aJ prog 145) K=K (.agg [.str [],.int .i64 0,.int .i64 0,.int .i64 0]):=congrArg (fun x=>wO x K) (show aJ prog 145=some (.agg [.str [],.int .i64 0,.int .i64 0,.int .i64 0]) by kernel_rfl)
theorem aZk:sO prog 80=true:=by kernel_rfl
theorem aZl (K:V→Prop):wO (aJ prog 132) K=K (.agg [.int .i64 0,.int .i64 0,.int .i64 0,.int .i64 0,.int .i64 0]):=congrArg (fun x=>wO x K) (show aJ prog 132=some (.agg [.int .i64 0,.int .i64 0,.int .i64 0,.int .i64 0,.int .i64 0]) by kernel_rfl)
theorem aZm:sO prog 28=true:=by kernel_rfl
theorem aZn:sO prog 27=true:=by kernel_rfl
theorem bF0 (K:V→Prop):wO (aJ prog 59) K=K (.agg [.int .i64 0,.str [],.int .i64 0,.str [],.int .i64 0,.int .i64 0,.int .i64 0,.int .i64 0,.int .i64 0,.int .i64 0,.int .i64 0,.nils,.str [],.int .i64 0,.int .i64 0]):=congrArg (fun x=>wO x K) (show aJ prog 59=some (.agg [.int .i64 0,.str [],.int .i64 0,.str [],.int .i64 0,.int .i64 0,.int .i64 0,.int .i64 0,.int .i64 0,.int .i64 0,.int .i64 0,.nils,.str [],.int .i64 0,.int .i64 0]) by kernel_rfl)
theorem aZo:sO prog 62=true:=by kernel_rfl
theorem aZp:sO prog 71=true:=by kernel_rfl
theorem aSv:sO prog 102=true:=by kernel_rfl
theorem aZq (K:V→Prop):wO (aJ prog 212) K=K (.agg [.nili]):=congrArg (fun x=>wO x K) (show aJ prog 212=some (.agg [.nili]) by kernel_rfl)
theorem aZr (K:V→Prop):wO (aJ prog 220) K=K (.agg [.int .i64 0,.int .i64 0,.str []]):=congrArg (fun x=>wO x K) (show aJ prog 220=some (.agg [.int .i64 0,.int .i64 0,.str []]) by kernel_rfl)
theorem aZs (K:V→Prop):wO (aJ prog 232) K=K (.nilp):=congrArg (fun x=>wO x K) (show aJ prog 232=some (.nilp) by kernel_rfl)
theorem aZt (K:V→Prop):wO (aJ prog 246) K=K (.agg [.int .i64 0,.int .i64 0,.int .i64 0,.int .i64 0,.int .i64 0,.int .i64 0,.int .i64 0,.int .i64 0,.int .i64 0,.int .i64 0,.int .i64 0,.int .i64 0,.int .i64 0,.int .i64 0,.int .i64 0,.int .i64 0,.int .i64 0,.int .i64 0,.int .i64 0,.int .i64 0,.int .i64 0,.int .i64 0,.int .i64 0,.int .i64 0,.int .i64 0,.int .i64 0,.int .i64 0,.int .i64 0,.int .i64 0,.int .i64 0,.int .i64 0,.int .i64 0,.int .i64 0,.int .i64 0,.int .i64 0,.int .i64 0,.int .i64 0,.int .i64 0,.int .i64 0,.int .i64 0]):=congrArg (fun x=>wO x K) (show aJ prog 246=some (.agg [.int .i64 0,.int .i64 0,.int .i64 0,.int .i64 0,.int .i64 0,.int .i64 0,.int .i64 0,.int .i64 0,.int .i64 0,.int .i64 0,.int .i64 0,.int .i64 0,.int .i64 0,.int .i64 0,.int .i64 0,.int .i64 0,.int .i64 0,.int .i64 0,.int .i64 0,.int .i64 0,.int .i64 0,.int .i64 0,.int .i64 0,.int .i64 0,.int .i64 0,.int .i64 0,.int .i64 0,.int .i64 0,.int .i64 0,.int .i64 0,.int .i64 0,.int .i64 0,.int .i64 0,.int .i64 0,.int .i64 0,.int .i64 0,.int .i64 0,.int .i64 0,.int .i64 0,.int .i64 0]) by kernel_rfl)
theorem aZu (K:V→Prop):wO (aJ prog 249) K=K (.agg [.int .i64 0,.int .i64 0,.int .i64 0,.int .i64 0,.int .i64 0,.int .i64 0,.int .i64 0,.int .i64 0]):=congrArg (fun x=>wO x K) (show aJ prog 249=some (.agg [.int .i64 0,.int .i64 0,.int .i64 0,.int .i64 0,.int .i64 0,.int .i64 0,.int .i64 0,.int .i64 0]) by kernel_rfl)
theorem bF1:sO prog 9=true:=by kernel_rfl
theorem aZv:sO prog 55=true:=by kernel_rfl
theorem bF2 (K:V→Prop):wO (aJ prog 82) K=K (.agg [.int .i64 0,.int .i64 0,.int .i64 0,.nils]):=congrArg (fun x=>wO x K) (show aJ prog 82=some (.agg [.int .i64 0,.int .i64 0,.int .i64 0,.nils]) by kernel_rfl)
theorem aZw (K:V→Prop):wO (aJ prog 293) K=K (.agg [.str [],.int .i64 0]):=congrArg (fun x=>wO x K) (show aJ prog 293=some (.agg [.str [],.int .i64 0]) by kernel_rfl)
theorem aZx (K:V→Prop):wO (aJ prog 295) K=K (.agg [.str []]):=congrArg (fun x=>wO x K) (show aJ prog 295=some (.agg [.str []]) by kernel_rfl)
theorem aZy (K:V→Prop):wO (aJ prog 297) K=K (.agg [.str [],.int .i64 0,.int .i64 0,.int .i64 0,.int .i64 0]):=congrArg (fun x=>wO x K) (show aJ prog 297=some (.agg [.str [],.int .i64 0,.int .i64 0,.int .i64 0,.int .i64 0]) by kernel_rfl)
theorem aZz (K:V→Prop):wO (aJ prog 301) K=K (.agg [.str [],.int .i64 0,.int .i64 0,.int .i64 0,.nils]):=congrArg (fun x=>wO x K) (show aJ prog 301=some (.agg [.str [],.int .i64 0,.int .i64 0,.int .i64 0,.nils]) by kernel_rfl)
theorem bA0 (K:V→Prop):wO (aJ prog 304) K=K (.agg [.str [],.int .i64 0,.int .i64 0,.int .i64 0,.str [],.int .i64 0]):=congrArg (fun x=>wO x K) (show aJ prog 304=some (.agg [.str [],.int .i64 0,.int .i64 0,.int .i64 0,.str [],.int .i64 0]) by kernel_rfl)
theorem bA1 (K:V→Prop):wO (aJ prog 306) K=K (.agg [.int .i64 0]):=congrArg (fun x=>wO x K) (show aJ prog 306=some (.agg [.int .i64 0]) by kernel_rfl)
theorem bA2 (K:V→Prop):wO (aJ prog 307) K=K (.agg [.str []]):=congrArg (fun x=>wO x K) (show aJ prog 307=some (.agg [.str []]) by kernel_rfl)
theorem bF3 (K:V→Prop):wO (aJ prog 90) K=K (.agg [.str [],.int .i64 0]):=congrArg (fun x=>wO x K) (show aJ prog 90=some (.agg [.str [],.int .i64 0]) by kernel_rfl)
theorem rg9:aH5 prog 9=true:=by kernel_rfl
theorem bA3 (K:V→Prop):wO (aJ prog 201) K=K (.agg [.str [],.str [],.int .i64 0,.int .i64 0]):=congrArg (fun x=>wO x K) (show aJ prog 201=some (.agg [.str [],.str [],.int .i64 0,.int .i64 0]) by kernel_rfl)
theorem bA4 (K:V→Prop):wO (aJ prog 346) K=K (.agg [.int .i64 0,.int .u64 0]):=congrArg (fun x=>wO x K) (show aJ prog 346=some (.agg [.int .i64 0,.int .u64 0]) by kernel_rfl)
theorem aXe (f:FuncId) {a b:List V} {S T:St} (K:KW) (h:a=b) (g:S=T):C f a S K=C f b T K:=by rw [h,g]
attribute [congr] aXe
theorem cw:type_of% (A2 (aN3 prog C) <| A2 (aN0 prog C) <| A2 aN4 <| A2 aMy <| A2 aMz <| A2 aZ6 <| A2 (aFh prog C) <| A2 (aFi prog C) <| A2 (aSk prog C) <| A2 @bEf <| A2 @aZ0 <| A2 @aSa <| A2 @aZ1 <| A2 @aSc <| A2 @aSi <| A2 @bEg <| A2 @aZ3 <| A2 @aZ4 <| A2 @aSe <| A2 @aZ5 <| A2 @aSg <| A2 @aSh <| A2 @aN2 <| A2 @aJf <| A2 @aFg <| A2 aFj <| A2 aFe <| A2 @aYx <| A2 @aZ7 <| A2 @aZ8 <| A2 @aZ9 <| A2 @aZa <| A2 aJg <| A2 bEt <| A2 bEu <| A2 aZb <| A2 bEv <| A2 aZc <| A2 bEw <| A2 aZd <| A2 aZe <| A2 aZf <| A2 bEx <| A2 bEy <| A2 aZg <| A2 aZh <| A2 aZi <| A2 bEz <| A2 aZj <| A2 aZk <| A2 aZl <| A2 aZm <| A2 aZn <| A2 bF0 <| A2 aZo <| A2 aZp <| A2 aSv <| A2 aZq <| A2 aZr <| A2 aZs <| A2 aZt <| A2 aZu <| A2 bF1 <| A2 aZv <| A2 bF2 <| A2 aZw <| A2 aZx <| A2 aZy <| A2 aZz <| A2 bA0 <| A2 bA1 <| A2 bA2 <| A2 bF3 <| A2 rg9 <| A2 bA3 <| bA4):=A2 (aN3 prog C) <| A2 (aN0 prog C) <| A2 aN4 <| A2 aMy <| A2 aMz <| A2 aZ6 <| A2 (aFh prog C) <| A2 (aFi prog C) <| A2 (aSk prog C) <| A2 @bEf <| A2 @aZ0 <| A2 @aSa <| A2 @aZ1 <| A2 @aSc <| A2 @aSi <| A2 @bEg <| A2 @aZ3 <| A2 @aZ4 <| A2 @aSe <| A2 @aZ5 <| A2 @aSg <| A2 @aSh <| A2 @aN2 <| A2 @aJf <| A2 @aFg <| A2 aFj <| A2 aFe <| A2 @aYx <| A2 @aZ7 <| A2 @aZ8 <| A2 @aZ9 <| A2 @aZa <| A2 aJg <| A2 bEt <| A2 bEu <| A2 aZb <| A2 bEv <| A2 aZc <| A2 bEw <| A2 aZd <| A2 aZe <| A2 aZf <| A2 bEx <| A2 bEy <| A2 aZg <| A2 aZh <| A2 aZi <| A2 bEz <| A2 aZj <| A2 aZk <| A2 aZl <| A2 aZm <| A2 aZn <| A2 bF0 <| A2 aZo <| A2 aZp <| A2 aSv <| A2 aZq <| A2 aZr <| A2 aZs <| A2 aZt <| A2 aZu <| A2 bF1 <| A2 aZv <| A2 bF2 <| A2 aZw <| A2 aZx <| A2 aZy <| A2 aZz <| A2 bA0 <| A2 bA1 <| A2 bA2 <| A2 bF3 <| A2 rg9 <| A2 bA3 <| bA4
end
def qL (t:TypeId) (p:V) (S:St) (K:V→Prop):Prop:=wR (lQ prog t p S) K
def qF (s:TypeId) (p:V) (f:Nat) (K:V→Prop):Prop:=wR (dI prog s p f) K
def qE (s:TypeId) (p:V) (f:Nat) (t:TypeId) (S:St) (K:V→Prop):Prop:=wR (dI prog s p f) fun q=>wR (lQ prog t q S) K
def qX (t:TypeId) (v i:V) (K:V→Prop):Prop:=wR (cV prog t v i) K
def qS (t:TypeId) (p x:V) (S:St) (K:St→Prop):Prop:=wR (oH prog t p x S) K
def qZ (t:TypeId) (x:V) (S:St) (K:V→Prop):Prop:=wR (zC prog t x S) K
def qB (o:BinOp) (t:TypeId) (x y:V) (K:V→Prop):Prop:=wR (bQ prog o t x y) K
def qG (o:BinOp) (t:TypeId) (x y:V) (K:V→Prop):Prop:=wW (cG prog t x y) (wR (bQ prog o t x y) K)
def qD (t:TypeId) (l:List (Nat×V)) (K:V→Prop):Prop:=wR (oI prog t l) K
def qP (t:TypeId) (s x:V) (r:Option Nat) (S:St) (K:V×St→Prop):Prop:=wR (fS prog t s x r S) K
def qQ (t:TypeId) (n:Nat) (l:List (Nat×V)) (r:Option Nat) (S:St) (K:V×St→Prop):Prop:=wR (cP prog t n l r S) K
def qA (a:V) (S:St) (K:Nat×St→Prop):Prop:=wW (aH a.cells) (wR (aY none S (.row 0 a.cells.length [a.cells])) K)
def qN (S:St) (n:Nat) (c:List V) (K:Nat×St→Prop):Prop:=wR (aY none S (.row 0 n [c])) K
def pt (r:Nat×St):V:=.ptr r.1 0 0 0
def up (S:St) (n:Nat):St:=⟨S.next+n,S.heap⟩
def jI (n:Int):V:=.int .i64 n
theorem sf:(∀ (t:TypeId) (p:V) (S:St) (K:V→Prop),qL t p S K=(wR (lQ prog t p S) K))∧(∀ (s:TypeId) (p:V) (f:Nat) (K:V→Prop),qF s p f K=(wR (dI prog s p f) K))∧(∀ (s:TypeId) (p:V) (f:Nat) (t:TypeId) (S:St) (K:V→Prop),qE s p f t S K=(wR (dI prog s p f) fun q=>wR (lQ prog t q S) K))∧(∀ (t:TypeId) (v i:V) (K:V→Prop),qX t v i K=(wR (cV prog t v i) K))∧(∀ (t:TypeId) (p x:V) (S:St) (K:St→Prop),qS t p x S K=(wR (oH prog t p x S) K))∧(∀ (t:TypeId) (x:V) (S:St) (K:V→Prop),qZ t x S K=(wR (zC prog t x S) K))∧(∀ (o:BinOp) (t:TypeId) (x y:V) (K:V→Prop),qB o t x y K=(wR (bQ prog o t x y) K))∧(∀ (o:BinOp) (t:TypeId) (x y:V) (K:V→Prop),qG o t x y K=(wW (cG prog t x y) (wR (bQ prog o t x y) K)))∧(∀ (t:TypeId) (l:List (Nat×V)) (K:V→Prop),qD t l K=(wR (oI prog t l) K))∧(∀ (t:TypeId) (s x:V) (r:Option Nat) (S:St) (K:V×St→Prop),qP t s x r S K=(wR (fS prog t s x r S) K))∧(∀ (t:TypeId) (n:Nat) (l:List (Nat×V)) (r:Option Nat) (S:St) (K:V×St→Prop),qQ t n l r S K=(wR (cP prog t n l r S) K))∧(∀ (a:V) (S:St) (K:Nat×St→Prop),qA a S K=(wW (aH a.cells) (wR (aY none S (.row 0 a.cells.length [a.cells])) K)))∧(∀ (S:St) (n:Nat) (c:List V) (K:Nat×St→Prop),qN S n c K=(wR (aY none S (.row 0 n [c])) K))∧(∀ (r:Nat×St),pt r=.ptr r.1 0 0 0)∧(∀ (S:St) (n:Nat),up S n=⟨S.next+n,S.heap⟩)∧(∀ (n:Int),jI n=.int .i64 n):=⟨fun _ _ _ _=>rfl,fun _ _ _ _=>rfl,fun _ _ _ _ _ _=>rfl,fun _ _ _ _=>rfl,fun _ _ _ _ _=>rfl,fun _ _ _ _=>rfl,fun _ _ _ _ _=>rfl,fun _ _ _ _ _=>rfl,fun _ _ _=>rfl,fun _ _ _ _ _ _=>rfl,fun _ _ _ _ _ _=>rfl,fun _ _ _=>rfl,fun _ _ _ _=>rfl,fun _=>rfl,fun _ _=>rfl,fun _=>rfl⟩
abbrev aLo:Nat→Option (List bM):=fY []
abbrev aLp:Nat→List Nat:=jL [(2,[10])]
abbrev aLq:Nat→Option (List bM):=fY []
abbrev aLr:Nat→List Nat:=jL [(3,[3,16])]
abbrev aNc:Nat→Option (List bM):=fY [(3,[(0,[]),(1,[0]),(2,[]),(3,[])]),(5,[(0,[]),(1,[0]),(2,[]),(3,[])]),(10,[(0,[]),(1,[]),(2,[0]),(3,[]),(4,[])]),(12,[(0,[]),(1,[]),(2,[1]),(3,[])]),(17,[(0,[]),(1,[]),(2,[1]),(3,[])])]
abbrev aSw:Nat→List Nat:=jL []
abbrev aSx:Nat→Option (List bM):=fY []
abbrev aSy:Nat→List Nat:=jL [(3,[5,6])]
abbrev aLs:Nat→Option (List bM):=fY []
abbrev aLt:Nat→List Nat:=jL [(4,[2,3])]
abbrev aHb:Nat→Option (List bM):=fY [(11,[(1,[]),(2,[]),(3,[]),(5,[]),(6,[]),(7,[]),(8,[]),(9,[]),(10,[]),(13,[]),(14,[]),(15,[]),(0,[]),(4,[9]),(11,[]),(12,[]),(16,[]),(17,[])])]
abbrev aLu:Nat→List Nat:=jL [(8,[8]),(5,[4,5,6,7])]
abbrev aSz:Nat→Option (List bM):=fY []
abbrev aT0:Nat→List Nat:=jL [(30,[2,12]),(23,[2,11]),(9,[2,5,6])]
abbrev aLv:Nat→Option (List bM):=fY []
abbrev aLw:Nat→List Nat:=jL [(8,[6])]
abbrev aLx:Nat→Option (List bM):=fY []
abbrev aLy:Nat→List Nat:=jL [(12,[8])]
abbrev aHc:Nat→Option (List bM):=fY []
abbrev aLz:Nat→List Nat:=jL [(8,[9]),(5,[4,5,6,19])]
def aHd (C:aK) (K:KW) (again0:List V→St→Prop) (p0 p1 p5 p6 p7:V) (S:St):Prop:=
qL 61 p7 S fun t7=>
qQ 44 1 [(0,t7)] none S fun r8=>
qP 44 p5 r8.1 none r8.2 fun r9=>
qB .add 3 p6 (jI 1) fun t10=>
again0 [r9.1,t10] r9.2
def aHe (C:aK) (K:KW) (p0 p1:V) (vs:List V) (S:St) (again0:List V→St→Prop):Prop:=
vP vs fun x5 vs=>
vP vs fun x6 vs=>
qZ 44 p0 S fun t0=>
qB .lss 3 x6 t0 fun t1=>
aL t1 (qB .lss 3 x6 p1 fun t2=>
aL t2 (qX 44 p0 x6 fun t3=>
qL 61 t3 S fun t4=>
qN S 17 [jI 0,jI 0,jI 0,.str [],jI 0,.str [],jI 0,jI 0,jI 0,jI 0,jI 0,jI 0,jI 0,.nils,.str [],jI 0,jI 0] fun r5=>
qS 61 (pt r5) t4 r5.2 fun S6=>
qF 61 (pt r5) 2 fun t11=>
qE 59 t11 5 55 S6 fun t13=>
qZ 55 t13 S6 fun t14=>
qB .gtr 3 t14 (jI 15) fun t15=>
aL t15 (qF 61 (pt r5) 2 fun t16=>
qE 59 t16 5 55 S6 fun t18=>
wR (iF prog 55 t18 none (some (jI 15))) fun t19=>
qF 61 (pt r5) 2 fun t20=>
qF 59 t20 5 fun t21=>
qS 55 t21 t19 S6 fun S22=>
aHd C K again0 p0 p1 x5 x6 (pt r5) S22) (aHd C K again0 p0 p1 x5 x6 (pt r5) S6)) (K x5 S)) (K x5 S)
def m30 (C:aK) (a0 a1:V) (S:St) (K:KW):Prop:=
iC [(.nils),(jI 0)] S (aHe C K a0 a1)
theorem bD0:(fun (C:aK) (a0 a1:V) (S:St) (K:KW)=>dV prog C aSx aSy 30 [a0,a1] S K)=fun C a0 a1 S K=>m30 C a0 a1 S K:=by kernel_rfl
theorem t30 (C:aK) (a0 a1:V) (S:St) (K:KW):dV prog C aSx aSy 30 [a0,a1] S K=m30 C a0 a1 S K:=congrFun (congrFun (congrFun (congrFun (congrFun bD0 C) a0) a1) S) K
theorem v30 {a0 a1:V} {v:V} (hc:cloVs [a0,a1]=true) (h:m30 C a0 a1 ⟨0,.nil⟩ fun v0 S0=>gK S0 v0=.ok v):Fv 30 [a0,a1] v:=Go.AM.Fn.of (p:=aSx) (lv:=aSy) (by kernel_rfl) hc (by rw [t30];exact h)
def aHf (C:aK) (K:KW) (p2 p4 p5 p9:V) (S:St):Prop:=
qL 30 p2 (up S 4) fun t76=>
qL 48 p9 (up S 4) fun t77=>
qS 30 p4 t76 (up S 4) fun S78=>
qL 48 p9 S78 fun t79=>
wW (eY t77 t79) (qS 48 p5 t77 S78 fun S80=>
qL 30 p4 S80 fun t81=>
qL 48 p5 S80 fun t82=>
K (.tup [t81,t82]) S80)
def aCz (C:aK) (K:KW) (p2 p3 p4 p5 p28:V) (S:St):Prop:=
aL p28 (qL 30 p2 (up S 4) fun t20=>
C 103 [(jI 17)] (up S 4) fun t21 S22=>
qL 30 p2 S22 fun t23=>
wW (eY t20 t23) (qS 30 p4 t20 S22 fun S24=>
qS 48 p5 t21 S24 fun S25=>
qL 30 p4 S25 fun t26=>
qL 48 p5 S25 fun t27=>
K (.tup [t26,t27]) S25)) (qF 61 p3 2 fun t28=>
qE 59 t28 0 3 S fun t30=>
(qG .eql 3 t30 (jI 6) fun t31=>
aL t31 (qL 30 p2 S fun t32=>
C 104 [t32] S fun t33 S34=>
fU t33 0 fun t35=>
fU t33 1 fun t36=>
qS 30 p4 t35 S34 fun S37=>
qS 48 p5 t36 S37 fun S38=>
qL 30 p4 S38 fun t39=>
qL 48 p5 S38 fun t40=>
K (.tup [t39,t40]) S38) (qE 30 p2 4 28 S fun t42=>
qE 61 p3 0 3 S fun t44=>
qE 61 p3 1 3 S fun t46=>
C 105 [t42,t44,t46] S fun t47 S48=>
fU t47 0 fun t49=>
fU t47 1 fun t50=>
fU t47 2 fun t51=>
qN S48 3 [jI 0,jI 0,jI 0] fun r52=>
qS 48 (pt r52) t49 r52.2 fun S53=>
(qG .neq 31 t51 (jI 0) fun t54=>
aL t54 (qL 30 p2 (up S53 5) fun t55=>
C 103 [t51] (up S53 5) fun t56 S57=>
qL 30 p2 S57 fun t58=>
wW (eY t55 t58) (qS 30 p4 t55 S57 fun S59=>
qS 48 p5 t56 S59 fun S60=>
qL 30 p4 S60 fun t61=>
qL 48 p5 S60 fun t62=>
K (.tup [t61,t62]) S60)) (aL t50 (qL 30 p2 (up S53 4) fun t63=>
qL 48 (pt r52) (up S53 4) fun t64=>
qS 30 p4 t63 (up S53 4) fun S65=>
qL 48 (pt r52) S65 fun t66=>
wW (eY t64 t66) (qS 48 p5 t64 S65 fun S67=>
qL 30 p4 S67 fun t68=>
qL 48 p5 S67 fun t69=>
K (.tup [t68,t69]) S67)) (qE 61 p3 2 59 S53 fun t71=>
C 106 [p2,t71] S53 fun t72 S73=>
qN S73 3 [jI 0,jI 0,jI 0] fun r74=>
qS 48 (pt r74) t72 r74.2 fun S75=>
qE 30 p2 4 28 S75 fun t84=>
qE 61 p3 0 3 S75 fun t86=>
qE 61 p3 1 3 S75 fun t88=>
qL 48 (pt r74) S75 fun t89=>
C 107 [t84,t86,t88,t89] S75 fun t90 S91=>
fU t90 0 fun t92=>
fU t90 1 fun t93=>
(qG .eql 31 t93 (jI 0) fun t94=>
aL t94 (qF 30 p2 4 fun t95=>
qS 28 t95 t92 S91 fun S96=>
aHf C K p2 p4 p5 (pt r74) S96) (aHf C K p2 p4 p5 (pt r74) S91))))))))
def m33 (C:aK) (a0 a1:V) (S:St) (K:KW):Prop:=
(qA a0 S fun r0=>
(qA a1 r0.2 fun r1=>
qN r1.2 6 [.nils,.nils,.nils,.nils,.nils,jI 0] fun r2=>
qN r2.2 3 [jI 0,jI 0,jI 0] fun r3=>
qL 30 (pt r0) r3.2 fun t4=>
C 102 [t4] r3.2 fun t5 S6=>
qS 30 (pt r0) t5 S6 fun S7=>
qL 30 (pt r0) S7 fun t8=>
C 24 [t8] S7 fun t9 S10=>
wR (unV .not t9) fun t11=>
aL t11 (qL 30 (pt r0) (up S10 4) fun t12=>
C 103 [(jI 1)] (up S10 4) fun t13 S14=>
qL 30 (pt r0) S14 fun t15=>
wW (eY t12 t15) (qS 30 (pt r2) t12 S14 fun S16=>
qS 48 (pt r3) t13 S16 fun S17=>
qL 30 (pt r2) S17 fun t18=>
qL 48 (pt r3) S17 fun t19=>
K (.tup [t18,t19]) S17)) (qF 61 (pt r1) 2 fun t97=>
qE 59 t97 0 3 S10 fun t99=>
qB .lss 3 t99 (jI 1) fun t100=>
aL t100 (aCz C K (pt r0) (pt r1) (pt r2) (pt r3) (.bool true) S10) (qF 61 (pt r1) 2 fun t101=>
qE 59 t101 0 3 S10 fun t103=>
qB .gtr 3 t103 (jI 8) fun t104=>
aCz C K (pt r0) (pt r1) (pt r2) (pt r3) t104 S10))))
theorem bD1:(fun (C:aK) (a0 a1:V) (S:St) (K:KW)=>dV prog C aNc aSw 33 [a0,a1] S K)=fun C a0 a1 S K=>m33 C a0 a1 S K:=by kernel_rfl
theorem t33 (C:aK) (a0 a1:V) (S:St) (K:KW):dV prog C aNc aSw 33 [a0,a1] S K=m33 C a0 a1 S K:=congrFun (congrFun (congrFun (congrFun (congrFun bD1 C) a0) a1) S) K
theorem v33 {a0 a1:V} {v:V} (hc:cloVs [a0,a1]=true) (h:m33 C a0 a1 ⟨0,.nil⟩ fun v0 S0=>gK S0 v0=.ok v):Fv 33 [a0,a1] v:=Go.AM.Fn.of (p:=aNc) (lv:=aSw) (by kernel_rfl) hc (by rw [t33];exact h)
theorem bN9:uL 33=some (.val aNc):=by kernel_rfl
def aM0 (C:aK) (K:KW) (p1 p5:V) (vs:List V) (S:St) (again2:List V→St→Prop):Prop:=
vP vs fun x2 vs=>
vP vs fun x12 vs=>
qZ 27 p5 S fun t105=>
qB .lss 3 x12 t105 fun t106=>
aL t106 (qX 27 p5 x12 fun t107=>
qL 90 t107 (up S 10) fun t108=>
qE 30 p1 3 27 (up S 10) fun t110=>
qX 27 t110 x12 fun t111=>
qL 90 t111 (up S 10) fun t112=>
(qG .neq 90 t108 t112 fun t113=>
aL t113 (K (.bool false) (up S 10)) (qB .add 3 x12 (jI 1) fun t114=>
again2 [x2,t114] (up S 10)))) (K (.bool true) S)
def aM1 (C:aK) (K:KW) (p1 p4 p5:V) (vs:List V) (S:St) (again1:List V→St→Prop):Prop:=
vP vs fun x2 vs=>
vP vs fun x11 vs=>
qZ 96 p4 S fun t88=>
qB .lss 3 x11 t88 fun t89=>
aL t89 (qX 96 p4 x11 fun t90=>
qL 3 t90 (up S 12) fun t91=>
qE 30 p1 1 25 (up S 12) fun t93=>
qX 25 t93 x11 fun t94=>
qE 126 t94 1 3 (up S 12) fun t96=>
qB .sub 3 t96 (jI 1) fun t97=>
(qG .neq 3 t91 t97 fun t98=>
aL t98 (K (.bool false) (up S 12)) (qB .add 3 x11 (jI 1) fun t99=>
again1 [x2,t99] (up S 12)))) (qZ 27 p5 S fun t100=>
qE 30 p1 3 27 S fun t102=>
qZ 27 t102 S fun t103=>
(qG .neq 3 t100 t103 fun t104=>
aL t104 (K (.bool false) S) (iC [x2,(jI 0)] S (aM0 C K p1 p5))))
def aM2 (C:aK) (K:KW) (p1 p4:V) (vs:List V) (S:St) (again0:List V→St→Prop):Prop:=
vP vs fun x2 vs=>
vP vs fun x5 vs=>
vP vs fun x6 vs=>
qE 30 p1 2 26 S fun t31=>
qZ 26 t31 S fun t32=>
qB .lss 3 x6 t32 fun t33=>
aL t33 (qE 30 p1 2 26 S fun t35=>
qX 26 t35 x6 fun t36=>
qL 84 t36 S fun t37=>
qN S 12 [.str [],jI 0,jI 0,jI 0,jI 0,jI 0,jI 0,jI 0,.nils,.str [],jI 0,.bool false] fun r38=>
qS 84 (pt r38) t37 r38.2 fun S39=>
qE 30 p1 1 25 S39 fun t41=>
qF 84 (pt r38) 0 fun t42=>
qE 57 t42 0 9 S39 fun t44=>
C 117 [t41,t44] S39 fun t45 S46=>
qB .lss 3 t45 (jI 0) fun t47=>
aL t47 (K (.bool false) (up S46 32)) (qF 84 (pt r38) 0 fun t48=>
qE 57 t48 1 3 (up S46 32) fun t50=>
qX 96 p4 t45 fun t51=>
qL 3 t51 (up S46 32) fun t52=>
qB .add 3 t52 (jI 1) fun t53=>
(qG .neq 3 t50 t53 fun t54=>
aL t54 (K (.bool false) (up S46 32)) (qE 84 (pt r38) 1 52 (up S46 32) fun t56=>
C 118 [t56] (up S46 32) fun t57 S58=>
wR (unV .not t57) fun t59=>
aL t59 (K (.bool false) S58) (qE 84 (pt r38) 2 82 S58 fun t61=>
C 119 [t61] S58 fun t62 S63=>
wR (unV .not t62) fun t64=>
aL t64 (K (.bool false) S63) (qE 30 p1 2 26 S63 fun t66=>
C 120 [t66,x6] S63 fun t67 S68=>
wR (unV .not t67) fun t69=>
aL t69 (K (.bool false) S68) (qX 96 p4 t45 fun t70=>
qL 3 t70 S68 fun t71=>
qB .add 3 t71 (jI 1) fun t72=>
qX 96 p4 t45 fun t73=>
qS 3 t73 t72 S68 fun S74=>
qE 84 (pt r38) 2 82 S74 fun t76=>
C 121 [t76] S74 fun t77 S78=>
fU t77 0 fun t79=>
fU t77 1 fun t80=>
(qG .neq 3 t80 (jI 0) fun t81=>
aL t81 (K (.bool false) S78) (C 122 [x5,t79] S78 fun t82 S83=>
fU t82 0 fun t84=>
fU t82 1 fun t85=>
(qG .neq 3 t85 (jI 0) fun t86=>
aL t86 (K (.bool false) S83) (qB .add 3 x6 (jI 1) fun t87=>
again0 [x2,t84,t87] S83))))))))))) (iC [x2,(jI 0)] S (aM1 C K p1 p4 x5))
def aHg (C:aK) (K:KW) (p1:V) (S:St):Prop:=
qE 30 p1 1 25 S fun t27=>
qZ 25 t27 S fun t28=>
wR (dD prog 96 t28 t28 none S) fun r29=>
iC [(.bool false),(.nils),(jI 0)] r29.2 (aM2 C K p1 r29.1)
def m38 (C:aK) (a0:V) (S:St) (K:KW):Prop:=
(qA a0 S fun r0=>
qE 30 (pt r0) 0 24 r0.2 fun t2=>
C 114 [t2] r0.2 fun t3 S4=>
wR (unV .not t3) fun t5=>
aL t5 (K (.bool false) S4) (qE 30 (pt r0) 1 25 S4 fun t7=>
C 115 [t7] S4 fun t8 S9=>
wR (unV .not t8) fun t10=>
aL t10 (K (.bool false) S9) (qE 30 (pt r0) 4 28 S9 fun t12=>
C 116 [t12] S9 fun t13 S14=>
wR (unV .not t13) fun t15=>
aL t15 (K (.bool false) S14) (qE 30 (pt r0) 2 26 S14 fun t17=>
qZ 26 t17 S14 fun t18=>
qB .gtr 3 t18 (jI 40) fun t19=>
aL t19 (K (.bool false) S14) (qE 30 (pt r0) 5 3 S14 fun t21=>
qB .lss 3 t21 (jI 1) fun t22=>
aL t22 (K (.bool false) S14) (qE 30 (pt r0) 5 3 S14 fun t24=>
qB .gtr 3 t24 (jI 1099511627776) fun t25=>
aL t25 (K (.bool false) S14) (qE 30 (pt r0) 4 28 S14 fun t116=>
qZ 28 t116 S14 fun t117=>
qB .gtr 3 t117 (jI 0) fun t118=>
aL t118 (qE 30 (pt r0) 4 28 (up S14 14) fun t120=>
qB .sub 3 t117 (jI 1) fun t121=>
qX 28 t120 t121 fun t122=>
qE 132 t122 0 3 (up S14 14) fun t124=>
qE 30 (pt r0) 5 3 (up S14 14) fun t126=>
qB .geq 3 t124 t126 fun t127=>
aL t127 (K (.bool false) (up S14 14)) (aHg C K (pt r0) (up S14 14))) (aHg C K (pt r0) (up S14 14)))))))))
theorem bD2:(fun (C:aK) (a0:V) (S:St) (K:KW)=>dV prog C aSz aT0 38 [a0] S K)=fun C a0 S K=>m38 C a0 S K:=by kernel_rfl
theorem t38 (C:aK) (a0:V) (S:St) (K:KW):dV prog C aSz aT0 38 [a0] S K=m38 C a0 S K:=congrFun (congrFun (congrFun (congrFun bD2 C) a0) S) K
theorem v38 {a0:V} {v:V} (hc:cloVs [a0]=true) (h:m38 C a0 ⟨0,.nil⟩ fun v0 S0=>gK S0 v0=.ok v):Fv 38 [a0] v:=Go.AM.Fn.of (p:=aSz) (lv:=aT0) (by kernel_rfl) hc (by rw [t38];exact h)
def aBe (C:aK) (K:KW) (again0:List V→St→Prop) (p1 p2 p3 p4:V) (S:St):Prop:=
qE 145 p4 2 3 S fun t20=>
qE 145 p4 1 3 S fun t22=>
C 160 [t20,t22] S fun t23 S24=>
fU t23 0 fun t25=>
fU t23 1 fun t26=>
(qG .neq 3 t26 (jI 0) fun t27=>
aL t27 (K (.bool false) S24) (qE 145 p4 3 3 S24 fun t29=>
(qG .neq 3 t25 t29 fun t30=>
aL t30 (K (.bool false) S24) (qB .add 3 p3 (jI 1) fun t31=>
again0 [p2,t31] S24))))
def aHh (C:aK) (K:KW) (p1:V) (vs:List V) (S:St) (again0:List V→St→Prop):Prop:=
vP vs fun x2 vs=>
vP vs fun x3 vs=>
qE 82 p1 3 80 S fun t10=>
qZ 80 t10 S fun t11=>
qB .lss 3 x3 t11 fun t12=>
aL t12 (qE 82 p1 3 80 S fun t14=>
qX 80 t14 x3 fun t15=>
qL 145 t15 S fun t16=>
qN S 4 [.str [],jI 0,jI 0,jI 0] fun r17=>
qS 145 (pt r17) t16 r17.2 fun S18=>
qE 145 (pt r17) 0 9 (up S18 30) fun t33=>
C 195 [t33] (up S18 30) fun t34 S35=>
wR (unV .not t34) fun t36=>
aL t36 (K (.bool false) S35) (qE 145 (pt r17) 1 3 S35 fun t38=>
qB .lss 3 t38 (jI 0) fun t39=>
aL t39 (K (.bool false) S35) (qE 145 (pt r17) 1 3 S35 fun t41=>
qB .gtr 3 t41 (jI 100000) fun t42=>
aL t42 (K (.bool false) S35) (qB .gtr 3 x3 (jI 0) fun t43=>
aL t43 (qE 82 p1 3 80 S35 fun t45=>
qB .sub 3 x3 (jI 1) fun t46=>
qX 80 t45 t46 fun t47=>
qE 145 t47 0 9 S35 fun t49=>
qE 145 (pt r17) 0 9 S35 fun t51=>
qB .geq 9 t49 t51 fun t52=>
aL t52 (K (.bool false) S35) (aBe C K again0 p1 x2 x3 (pt r17) S35)) (aBe C K again0 p1 x2 x3 (pt r17) S35))))) (qE 82 p1 3 80 S fun t54=>
C 161 [t54] S fun t55 S56=>
fU t55 0 fun t57=>
fU t55 1 fun t58=>
fU t55 2 fun t59=>
C 127 [t57,t58] S56 fun t60 S61=>
fU t60 0 fun t62=>
fU t60 1 fun t63=>
aL t59 ((qG .eql 3 t63 (jI 0) fun t64=>
aL t64 (qE 82 p1 0 3 S61 fun t66=>
(qG .eql 3 t57 t66 fun t67=>
aL t67 (qE 82 p1 1 3 S61 fun t69=>
(qG .eql 3 t58 t69 fun t70=>
aL t70 (qE 82 p1 2 3 S61 fun t72=>
(qG .eql 3 t62 t72 fun t73=>
K t73 S61)) (K (.bool false) S61))) (K (.bool false) S61))) (K (.bool false) S61))) (K (.bool false) S61))
def aXf (C:aK) (a0:V) (S:St) (K:KW):Prop:=
(qA a0 S fun r0=>
qE 82 (pt r0) 3 80 r0.2 fun t2=>
qZ 80 t2 r0.2 fun t3=>
(qG .eql 3 t3 (jI 0) fun t4=>
aL t4 (K (.bool false) r0.2) (qE 82 (pt r0) 3 80 r0.2 fun t6=>
qZ 80 t6 r0.2 fun t7=>
qB .gtr 3 t7 (jI 12) fun t8=>
aL t8 (K (.bool false) r0.2) (iC [(.bool false),(jI 0)] r0.2 (aHh C K (pt r0))))))
theorem aXg:(fun (C:aK) (a0:V) (S:St) (K:KW)=>dV prog C aLs aLt 119 [a0] S K)=fun C a0 S K=>aXf C a0 S K:=by kernel_rfl
theorem bNa (C:aK) (a0:V) (S:St) (K:KW):dV prog C aLs aLt 119 [a0] S K=aXf C a0 S K:=congrFun (congrFun (congrFun (congrFun aXg C) a0) S) K
theorem bNb {a0:V} {v:V} (hc:cloVs [a0]=true) (h:aXf C a0 ⟨0,.nil⟩ fun v0 S0=>gK S0 v0=.ok v):Fv 119 [a0] v:=Go.AM.Fn.of (p:=aLs) (lv:=aLt) (by kernel_rfl) hc (by rw [bNa];exact h)
def aBf (C:aK) (K:KW) (again0:List V→St→Prop) (p1 p4 p5 p6 p7 p8:V) (S:St):Prop:=
qX 27 p6 p8 fun t7=>
qE 90 t7 1 3 (up S 16) fun t9=>
qX 27 p1 p7 fun t10=>
qE 90 t10 1 3 (up S 16) fun t12=>
C 127 [t9,t12] (up S 16) fun t13 S14=>
fU t13 0 fun t15=>
fU t13 1 fun t16=>
(qG .neq 3 t16 (jI 0) fun t17=>
aL t17 (K (.tup [(.nils),t16]) S14) (qX 27 p6 p8 fun t18=>
qF 90 t18 1 fun t19=>
qS 3 t19 t15 S14 fun S20=>
qB .add 3 p7 (jI 1) fun t21=>
again0 [p4,p5,p6,t21] S20))
def yG (C:aK) (K:KW) (again0:List V→St→Prop) (p1 p4 p5 p6 p7 p8 p58:V) (S:St):Prop:=
aL p58 (wR (iF prog 27 p6 none (some p8)) fun t22=>
qX 27 p1 p7 fun t23=>
qF 90 t23 0 fun t24=>
qL 9 t24 (up S 18) fun t25=>
qD 90 [(0,t25)] fun t26=>
wR (iF prog 27 p6 (some p8) none) fun t27=>
qQ 27 0 [] (some (S.next+0)) (up S 18) fun r28=>
qP 27 r28.1 t22 (some (S.next+4)) r28.2 fun r29=>
qL 9 t24 r29.2 fun t30=>
wW (eY t25 t30) (qQ 27 1 [(0,t26)] (some (S.next+11)) r29.2 fun r31=>
qP 27 r29.1 r31.1 (some (S.next+12)) r31.2 fun r32=>
qP 27 r32.1 t27 (some (S.next+16)) r32.2 fun r33=>
aBf C K again0 p1 p4 p5 r33.1 p7 p8 r33.2)) (aBf C K again0 p1 p4 p5 p6 p7 p8 S)
def yH (C:aK) (K:KW) (again0:List V→St→Prop) (p1 p4 p5 p6 p7 p8:V) (S:St):Prop:=
qZ 27 p6 (up S 17) fun t34=>
(qG .eql 3 p8 t34 fun t35=>
aL t35 (yG C K again0 p1 p4 p5 p6 p7 p8 (.bool true) (up S 17)) (qX 27 p6 p8 fun t36=>
qE 90 t36 0 9 (up S 17) fun t38=>
qX 27 p1 p7 fun t39=>
qE 90 t39 0 9 (up S 17) fun t41=>
(qG .neq 9 t38 t41 fun t42=>
yG C K again0 p1 p4 p5 p6 p7 p8 t42 (up S 17))))
def aHi (C:aK) (K:KW) (again0:List V→St→Prop) (p1 p4 p5 p6 p7:V) (vs:List V) (S:St) (again1:List V→St→Prop):Prop:=
vP vs fun x8 vs=>
qZ 27 p6 (up S 17) fun t43=>
qB .lss 3 x8 t43 fun t44=>
aL t44 (qX 27 p6 x8 fun t45=>
qE 90 t45 0 9 (up S 17) fun t47=>
qX 27 p1 p7 fun t48=>
qE 90 t48 0 9 (up S 17) fun t50=>
qB .lss 9 t47 t50 fun t51=>
aL t51 (qB .add 3 x8 (jI 1) fun t52=>
again1 [t52] (up S 17)) (yH C K again0 p1 p4 p5 p6 p7 x8 (up S 17))) (yH C K again0 p1 p4 p5 p6 p7 x8 (up S 17))
def aHj (C:aK) (K:KW) (p1:V) (vs:List V) (S:St) (again0:List V→St→Prop):Prop:=
vP vs fun x4 vs=>
vP vs fun x5 vs=>
vP vs fun x6 vs=>
vP vs fun x7 vs=>
qZ 27 p1 S fun t5=>
qB .lss 3 x7 t5 fun t6=>
aL t6 (iC [(jI 0)] S (aHi C K again0 p1 x4 x5 x6 x7)) (K (.tup [x6,(jI 0)]) S)
def aXh (C:aK) (a0 a1:V) (S:St) (K:KW):Prop:=
C 199 [a0] S fun t0 S1=>
wR (unV .not t0) fun t2=>
aL t2 (K (.tup [(.nils),(jI 1)]) S1) (qQ 27 0 [] none S1 fun r3=>
qP 27 r3.1 a0 none r3.2 fun r4=>
iC [(.nils),(jI 0),r4.1,(jI 0)] r4.2 (aHj C K a1))
theorem aXi:(fun (C:aK) (a0 a1:V) (S:St) (K:KW)=>dV prog C aHb aLu 122 [a0,a1] S K)=fun C a0 a1 S K=>aXh C a0 a1 S K:=by kernel_rfl
theorem t122 (C:aK) (a0 a1:V) (S:St) (K:KW):dV prog C aHb aLu 122 [a0,a1] S K=aXh C a0 a1 S K:=congrFun (congrFun (congrFun (congrFun (congrFun aXi C) a0) a1) S) K
theorem bNc {a0 a1:V} {v:V} (hc:cloVs [a0,a1]=true) (h:aXh C a0 a1 ⟨0,.nil⟩ fun v0 S0=>gK S0 v0=.ok v):Fv 122 [a0,a1] v:=Go.AM.Fn.of (p:=aHb) (lv:=aLu) (by kernel_rfl) hc (by rw [t122];exact h)
theorem bF4:uL 122=some (.val aHb):=by kernel_rfl
def aBg (C:aK) (K:KW) (again0:List V→St→Prop) (p4 p5 p6 p8 p9 p17 p18 p19:V) (S:St):Prop:=
qX 27 p6 p9 fun t10=>
qE 90 t10 1 3 (up S 13) fun t12=>
qE 90 p8 1 3 (up S 13) fun t14=>
C 203 [t12,t14] (up S 13) fun t15 S16=>
fU t15 0 fun t17=>
fU t15 1 fun t18=>
(qG .neq 31 t18 (jI 0) fun t19=>
aL t19 (K (.tup [(.nils),t18]) S16) (qX 27 p6 p9 fun t20=>
qF 90 t20 1 fun t21=>
qS 3 t21 t17 S16 fun S22=>
qB .add 3 p19 (jI 1) fun t23=>
again0 [p4,p5,p6,t23] S22))
def yI (C:aK) (K:KW) (again0:List V→St→Prop) (p4 p5 p6 p8 p9 p17 p18 p19 p52:V) (S:St):Prop:=
aL p52 (qE 90 p8 0 9 S fun t25=>
qD 90 [(0,t25)] fun t26=>
qQ 27 1 [(0,t26)] none S fun r27=>
C 221 [p6,p9,r27.1] r27.2 fun t28 S29=>
aBg C K again0 p4 p5 t28 p8 p9 p17 p18 p19 S29) (aBg C K again0 p4 p5 p6 p8 p9 p17 p18 p19 S)
def aBh (C:aK) (K:KW) (again0:List V→St→Prop) (p4 p5 p6 p8 p9 p17 p18 p19:V) (S:St):Prop:=
qZ 27 p6 (up S 14) fun t30=>
(qG .eql 3 p9 t30 fun t31=>
aL t31 (yI C K again0 p4 p5 p6 p8 p9 p17 p18 p19 (.bool true) (up S 14)) (qX 27 p6 p9 fun t32=>
qE 90 t32 0 9 (up S 14) fun t34=>
qE 90 p8 0 9 (up S 14) fun t36=>
(qG .neq 9 t34 t36 fun t37=>
yI C K again0 p4 p5 p6 p8 p9 p17 p18 p19 t37 (up S 14))))
def aHk (C:aK) (K:KW) (again0:List V→St→Prop) (p4 p5 p6 p8 p17 p18 p19:V) (vs:List V) (S:St) (again1:List V→St→Prop):Prop:=
vP vs fun x9 vs=>
qZ 27 p6 (up S 14) fun t38=>
qB .lss 3 x9 t38 fun t39=>
aL t39 (qX 27 p6 x9 fun t40=>
qE 90 t40 0 9 (up S 14) fun t42=>
qE 90 p8 0 9 (up S 14) fun t44=>
qB .lss 9 t42 t44 fun t45=>
aL t45 (qB .add 3 x9 (jI 1) fun t46=>
again1 [t46] (up S 14)) (aBh C K again0 p4 p5 p6 p8 x9 p17 p18 p19 (up S 14))) (aBh C K again0 p4 p5 p6 p8 x9 p17 p18 p19 (up S 14))
def aHl (C:aK) (K:KW) (p17 p18:V) (vs:List V) (S:St) (again0:List V→St→Prop):Prop:=
vP vs fun x4 vs=>
vP vs fun x5 vs=>
vP vs fun x6 vs=>
vP vs fun x19 vs=>
qB .lss 3 x19 p18 fun t5=>
aL t5 (qX 27 p17 x19 fun t6=>
qL 90 t6 S fun t7=>
qN S 2 [.str [],jI 0] fun r8=>
qS 90 (pt r8) t7 r8.2 fun S9=>
iC [(jI 0)] S9 (aHk C K again0 x4 x5 x6 (pt r8) p17 p18 x19)) (K (.tup [x6,(jI 0)]) S)
def aXj (C:aK) (a0 a1:V) (S:St) (K:KW):Prop:=
C 220 [a0] S fun t0 S1=>
wR (unV .not t0) fun t2=>
aL t2 (K (.tup [(.nils),(jI 1)]) S1) (qP 27 (.nils) a0 none S1 fun r3=>
qZ 27 a1 r3.2 fun t4=>
iC [(.nils),(jI 0),r3.1,(jI 0)] r3.2 (aHl C K a1 t4))
theorem aXk:(fun (C:aK) (a0 a1:V) (S:St) (K:KW)=>dV prog C aHc aLz 158 [a0,a1] S K)=fun C a0 a1 S K=>aXj C a0 a1 S K:=by kernel_rfl
theorem bNd (C:aK) (a0 a1:V) (S:St) (K:KW):dV prog C aHc aLz 158 [a0,a1] S K=aXj C a0 a1 S K:=congrFun (congrFun (congrFun (congrFun (congrFun aXk C) a0) a1) S) K
theorem bNe {a0 a1:V} {v:V} (hc:cloVs [a0,a1]=true) (h:aXj C a0 a1 ⟨0,.nil⟩ fun v0 S0=>gK S0 v0=.ok v):Fv 158 [a0,a1] v:=Go.AM.Fn.of (p:=aHc) (lv:=aLz) (by kernel_rfl) hc (by rw [bNd];exact h)
theorem bF5:uL 158=some (.val aHc):=by kernel_rfl
def aBi (C:aK) (K:KW) (p0 p1 p6:V) (S:St):Prop:=
qP 28 (.nils) p0 none S fun r5=>
qD 132 [(0,p1)] fun t6=>
qQ 28 1 [(0,t6)] none r5.2 fun r7=>
C 230 [r5.1,p6,r7.1] r7.2 fun t8 S9=>
K (.tup [t8,(jI 0)]) S9
def aHm (C:aK) (K:KW) (p0 p1:V) (vs:List V) (S:St) (again0:List V→St→Prop):Prop:=
vP vs fun x6 vs=>
qZ 28 p0 S fun t10=>
qB .lss 3 x6 t10 fun t11=>
aL t11 (qX 28 p0 x6 fun t12=>
qE 132 t12 0 3 S fun t14=>
qB .lss 3 t14 p1 fun t15=>
aL t15 (qB .add 3 x6 (jI 1) fun t16=>
again0 [t16] S) (aBi C K p0 p1 x6 S)) (aBi C K p0 p1 x6 S)
def aHn (C:aK) (K:KW) (p0 p1 p7:V) (S:St):Prop:=
aL p7 (K (.tup [(.nils),(jI 1)]) S) (C 174 [p0,p1] S fun t0 S1=>
qB .geq 3 t0 (jI 0) fun t2=>
aL t2 (K (.tup [(.nils),(jI 12)]) S1) (qZ 28 p0 S1 fun t3=>
qB .geq 3 t3 (jI 8) fun t4=>
aL t4 (K (.tup [(.nils),(jI 14)]) S1) (iC [(jI 0)] S1 (aHm C K p0 p1))))
def aXl (C:aK) (a0 a1:V) (S:St) (K:KW):Prop:=
C 166 [a0] S fun t17 S18=>
wR (unV .not t17) fun t19=>
aL t19 (aHn C K a0 a1 (.bool true) S18) (qB .lss 3 a1 (jI 1) fun t20=>
aHn C K a0 a1 t20 S18)
theorem aXm:(fun (C:aK) (a0 a1:V) (S:St) (K:KW)=>dV prog C aLv aLw 173 [a0,a1] S K)=fun C a0 a1 S K=>aXl C a0 a1 S K:=by kernel_rfl
theorem bNf (C:aK) (a0 a1:V) (S:St) (K:KW):dV prog C aLv aLw 173 [a0,a1] S K=aXl C a0 a1 S K:=congrFun (congrFun (congrFun (congrFun (congrFun aXm C) a0) a1) S) K
theorem bNg {a0 a1:V} {v:V} (hc:cloVs [a0,a1]=true) (h:aXl C a0 a1 ⟨0,.nil⟩ fun v0 S0=>gK S0 v0=.ok v):Fv 173 [a0,a1] v:=Go.AM.Fn.of (p:=aLv) (lv:=aLw) (by kernel_rfl) hc (by rw [bNf];exact h)
def aBj (C:aK) (K:KW) (p0 p1 p2 p8:V) (S:St):Prop:=
C 235 [p0] S fun t11 S12=>
qD 126 [(0,p1),(1,(jI 1)),(2,p2)] fun t13=>
qQ 25 1 [(0,t13)] none S12 fun r14=>
C 234 [t11,p8,r14.1] r14.2 fun t15 S16=>
K (.tup [t15,(jI 0)]) S16
def aHo (C:aK) (K:KW) (p0 p1 p2:V) (vs:List V) (S:St) (again0:List V→St→Prop):Prop:=
vP vs fun x8 vs=>
qZ 25 p0 S fun t17=>
qB .lss 3 x8 t17 fun t18=>
aL t18 (qX 25 p0 x8 fun t19=>
qE 126 t19 0 9 S fun t21=>
qB .lss 9 t21 p1 fun t22=>
aL t22 (qB .add 3 x8 (jI 1) fun t23=>
again0 [t23] S) (aBj C K p0 p1 p2 x8 S)) (aBj C K p0 p1 p2 x8 S)
def aHp (C:aK) (K:KW) (p0 p1 p2 p17:V) (S:St):Prop:=
aL p17 (K (.tup [(.nils),(jI 1)]) S) (C 233 [p0,p1] S fun t6 S7=>
qB .geq 3 t6 (jI 0) fun t8=>
aL t8 (K (.tup [(.nils),(jI 12)]) S7) (qZ 25 p0 S7 fun t9=>
qB .geq 3 t9 (jI 8) fun t10=>
aL t10 (K (.tup [(.nils),(jI 14)]) S7) (iC [(jI 0)] S7 (aHo C K p0 p1 p2))))
def aXn (C:aK) (a0 a1 a2:V) (S:St) (K:KW):Prop:=
C 86 [a0] S fun t0 S1=>
wR (unV .not t0) fun t2=>
aL t2 (K (.tup [(.nils),(jI 1)]) S1) (C 165 [a1] S1 fun t3 S4=>
wR (unV .not t3) fun t5=>
aL t5 (K (.tup [(.nils),(jI 8)]) S4) (qB .lss 3 a2 (jI 1) fun t24=>
aL t24 (aHp C K a0 a1 a2 (.bool true) S4) (qB .gtr 3 a2 (jI 1099511627776) fun t25=>
aHp C K a0 a1 a2 t25 S4)))
theorem aXo:(fun (C:aK) (a0 a1 a2:V) (S:St) (K:KW)=>dV prog C aLx aLy 175 [a0,a1,a2] S K)=fun C a0 a1 a2 S K=>aXn C a0 a1 a2 S K:=by kernel_rfl
theorem bNh (C:aK) (a0 a1 a2:V) (S:St) (K:KW):dV prog C aLx aLy 175 [a0,a1,a2] S K=aXn C a0 a1 a2 S K:=congrFun (congrFun (congrFun (congrFun (congrFun (congrFun aXo C) a0) a1) a2) S) K
theorem bNi {a0 a1 a2:V} {v:V} (hc:cloVs [a0,a1,a2]=true) (h:aXn C a0 a1 a2 ⟨0,.nil⟩ fun v0 S0=>gK S0 v0=.ok v):Fv 175 [a0,a1,a2] v:=Go.AM.Fn.of (p:=aLx) (lv:=aLy) (by kernel_rfl) hc (by rw [bNh];exact h)
def aBk (C:aK) (K:KW) (p0 p3 p10:V) (S:St):Prop:=
qX 80 p0 p10 fun t0=>
qE 145 t0 2 3 S fun t2=>
C 203 [t2,p3] S fun t3 S4=>
fU t3 0 fun t5=>
fU t3 1 fun t6=>
qX 80 p0 p10 fun t7=>
qF 145 t7 2 fun t8=>
qS 3 t8 t5 S4 fun S9=>
K (.tup [p0,t6]) S9
def yJ (C:aK) (K:KW) (p0 p1 p2 p3 p10 p40:V) (S:St):Prop:=
aL p40 (qD 145 [(0,p1),(1,p2)] fun t10=>
qQ 80 1 [(0,t10)] none S fun r11=>
C 280 [p0,p10,r11.1] r11.2 fun t12 S13=>
aBk C K t12 p3 p10 S13) (aBk C K p0 p3 p10 S)
def aBl (C:aK) (K:KW) (p0 p1 p2 p3 p10:V) (S:St):Prop:=
qZ 80 p0 S fun t14=>
(qG .eql 3 p10 t14 fun t15=>
aL t15 (yJ C K p0 p1 p2 p3 p10 (.bool true) S) (qX 80 p0 p10 fun t16=>
qE 145 t16 0 9 S fun t18=>
(qG .neq 9 t18 p1 fun t19=>
yJ C K p0 p1 p2 p3 p10 t19 S)))
def aHq (C:aK) (K:KW) (p0 p1 p2 p3:V) (vs:List V) (S:St) (again0:List V→St→Prop):Prop:=
vP vs fun x10 vs=>
qZ 80 p0 S fun t20=>
qB .lss 3 x10 t20 fun t21=>
aL t21 (qX 80 p0 x10 fun t22=>
qE 145 t22 0 9 S fun t24=>
qB .lss 9 t24 p1 fun t25=>
aL t25 (qB .add 3 x10 (jI 1) fun t26=>
again0 [t26] S) (aBl C K p0 p1 p2 p3 x10 S)) (aBl C K p0 p1 p2 p3 x10 S)
def aXp (C:aK) (a0 a1 a2 a3:V) (S:St) (K:KW):Prop:=
iC [(jI 0)] S (aHq C K a0 a1 a2 a3)
theorem aXq:(fun (C:aK) (a0 a1 a2 a3:V) (S:St) (K:KW)=>dV prog C aLo aLp 269 [a0,a1,a2,a3] S K)=fun C a0 a1 a2 a3 S K=>aXp C a0 a1 a2 a3 S K:=by kernel_rfl
theorem bNj (C:aK) (a0 a1 a2 a3:V) (S:St) (K:KW):dV prog C aLo aLp 269 [a0,a1,a2,a3] S K=aXp C a0 a1 a2 a3 S K:=congrFun (congrFun (congrFun (congrFun (congrFun (congrFun (congrFun aXq C) a0) a1) a2) a3) S) K
theorem bNk {a0 a1 a2 a3:V} {S:St} {K:KW} (h:aXp C a0 a1 a2 a3 S K):C 269 [a0,a1,a2,a3] S K:=aL7 (p:=aLo) (lv:=aLp) (by kernel_rfl) (by rw [bNj];exact h)
def tV (C:aK) (K:KW) (again0:List V→St→Prop) (p0 p2 p3 p4 p15 p16 p68:V) (S:St):Prop:=
aL p68 (qD 82 [] fun t37=>
qS 82 p2 t37 S fun S38=>
qL 82 p2 S38 fun t39=>
K (.tup [t39,(jI 7)]) S38) (qB .add 3 p16 (jI 1) fun t40=>
again0 [p3,t40] S)
def aHr (C:aK) (K:KW) (p0 p2 p4 p15:V) (vs:List V) (S:St) (again0:List V→St→Prop):Prop:=
vP vs fun x3 vs=>
vP vs fun x16 vs=>
qB .lss 3 x16 p15 fun t5=>
aL t5 (qX 80 p0 x16 fun t6=>
zP t6 (qE 145 t6 2 3 (up S 17) fun t8=>
zP t6 (qE 145 t6 1 3 (up S 17) fun t10=>
C 217 [t8,t10] (up S 17) fun t11 S12=>
fU t11 0 fun t13=>
fU t11 1 fun t14=>
zP t6 (qF 145 t6 3 fun t15=>
qS 3 t15 t13 S12 fun S16=>
qE 82 p4 0 3 (up S16 13) fun t18=>
zP t6 (qE 145 t6 2 3 (up S16 13) fun t20=>
C 203 [t18,t20] (up S16 13) fun t21 S22=>
fU t21 0 fun t23=>
fU t21 1 fun t24=>
qF 82 p4 0 fun t25=>
qS 3 t25 t23 S22 fun S26=>
qE 82 p4 1 3 (up S26 13) fun t28=>
zP t6 (qE 145 t6 3 3 (up S26 13) fun t30=>
C 203 [t28,t30] (up S26 13) fun t31 S32=>
fU t31 0 fun t33=>
fU t31 1 fun t34=>
qF 82 p4 1 fun t35=>
qS 3 t35 t33 S32 fun S36=>
(qG .neq 31 t14 (jI 0) fun t41=>
aL t41 (tV C K again0 p0 p2 x3 p4 p15 x16 (.bool true) S36) ((qG .neq 31 t24 (jI 0) fun t42=>
aL t42 (tV C K again0 p0 p2 x3 p4 p15 x16 (.bool true) S36) ((qG .neq 31 t34 (jI 0) fun t43=>
tV C K again0 p0 p2 x3 p4 p15 x16 t43 S36))))))))))) (qE 82 p4 0 3 S fun t45=>
qE 82 p4 1 3 S fun t47=>
C 203 [t45,t47] S fun t48 S49=>
fU t48 0 fun t50=>
fU t48 1 fun t51=>
(qG .neq 31 t51 (jI 0) fun t52=>
aL t52 (qD 82 [] fun t53=>
qS 82 p2 t53 S49 fun S54=>
qL 82 p2 S54 fun t55=>
K (.tup [t55,t51]) S54) (qF 82 p4 2 fun t56=>
qS 3 t56 t50 S49 fun S57=>
qL 82 p4 S57 fun t58=>
qS 82 p2 t58 S57 fun S59=>
qL 82 p2 S59 fun t60=>
K (.tup [t60,(jI 0)]) S59)))
def aXr (C:aK) (a0:V) (S:St) (K:KW):Prop:=
qN S 4 [jI 0,jI 0,jI 0,.nils] fun r0=>
qD 82 [(3,a0)] fun t1=>
qN r0.2 4 [jI 0,jI 0,jI 0,.nils] fun r2=>
qS 82 (pt r2) t1 r2.2 fun S3=>
qZ 80 a0 S3 fun t4=>
iC [(jI 0),(jI 0)] S3 (aHr C K a0 (pt r0) (pt r2) t4)
theorem aXs:(fun (C:aK) (a0:V) (S:St) (K:KW)=>dV prog C aLq aLr 270 [a0] S K)=fun C a0 S K=>aXr C a0 S K:=by kernel_rfl
theorem bNl (C:aK) (a0:V) (S:St) (K:KW):dV prog C aLq aLr 270 [a0] S K=aXr C a0 S K:=congrFun (congrFun (congrFun (congrFun aXs C) a0) S) K
theorem bNm {a0:V} {S:St} {K:KW} (h:aXr C a0 S K):C 270 [a0] S K:=aL7 (p:=aLq) (lv:=aLr) (by kernel_rfl) (by rw [bNl];exact h)
abbrev App (T n b:Nat):Prop:=∀ (s x:V) (fr:Option Nat) (S:St),fS prog T s x fr S=eE n b s x fr S
abbrev Bd (T:Nat) (z:List V) (pl:List (Nat×Nat)):Prop:=∀ parts:List (Nat×V),oI prog T parts=vR z pl parts
abbrev Bs (T n:Nat) (z:List V):Prop:=∀ (len:Nat) (parts:List (Nat×V)) (fr:Option Nat) (S:St),cP prog T len parts fr S=bN n z len parts fr S
abbrev Cv (s d:Nat) (k:IntKind):Prop:=∀ (j:IntKind) (n:Int) (fr:Option Nat) (S:St),dT prog s d (.int j n) fr S=.ok (.int k (wr k n),S)
abbrev Fa (s f o:Nat):Prop:=∀ p:V,dI prog s p f=advW o p
abbrev Ix (T n:Nat):Prop:=∀ x i:V,cV prog T x i=gS n x i
abbrev Ld (T:Nat) (k:Option Nat):Prop:=∀ (p:V) (S:St),lQ prog T p S=jH k p S
abbrev Ln (T:Nat):Prop:=∀ (x:V) (S:St),zC prog T x S=lenW x
abbrev Sl_ (T n:Nat):Prop:=∀ (a ver off len:Nat) (lo hi:Option V),iF prog T (.sl a ver n off len) lo hi=(match fR len lo hi with
  | .ok (l,h)=>.ok (.sl a ver n (off+l) (h - l))
  | .error e=>.error e)
abbrev Si (T n:Nat):Prop:=∀ (es:List (List V)) (hl:iQ n es=true) (lo hi:Option V),iF prog T (.imm es) lo hi=(match fR es.length lo hi with
  | .ok (l,h)=>.ok (.imm ((es.take h).drop l))
  | .error e=>.error e)
abbrev Sr (T n:Nat):Prop:=∀ (p x:V) (S:St),oH prog T p x S=fV n p x S
theorem aT3:App 102 23 224:=cN (by kernel_rfl)
theorem bA5:App 22 1 1:=cN (by kernel_rfl)
theorem bA6:App 24 5 48:=cN (by kernel_rfl)
theorem bA7:App 25 4 40:=cN (by kernel_rfl)
theorem bA8:App 26 12 128:=cN (by kernel_rfl)
theorem bA9:App 27 2 24:=cN (by kernel_rfl)
theorem bAa:App 28 5 40:=cN (by kernel_rfl)
theorem bAb:App 44 17 176:=cN (by kernel_rfl)
theorem bAc:App 55 4 48:=cN (by kernel_rfl)
theorem bAd:App 62 3 24:=cN (by kernel_rfl)
theorem bAe:App 71 4 40:=cN (by kernel_rfl)
theorem bAf:App 80 4 40:=cN (by kernel_rfl)
theorem bAg:App 96 1 8:=cN (by kernel_rfl)
theorem bAh:App 97 23 224:=cN (by kernel_rfl)
theorem bAi:Bd 126 [.str [],.int .i64 0,.int .i64 0,.bool false] [(0,1),(1,1),(2,1),(3,1)]:=bO (by kernel_rfl)
theorem bAj:Bd 132 [.int .i64 0,.int .i64 0,.int .i64 0,.int .i64 0,.int .i64 0] [(0,1),(1,1),(2,3)]:=bO (by kernel_rfl)
theorem bAk:Bd 142 [.nils,.int .i64 0,.int .i64 0] [(0,1),(1,1),(2,1)]:=bO (by kernel_rfl)
theorem bAl:Bd 145 [.str [],.int .i64 0,.int .i64 0,.int .i64 0] [(0,1),(1,1),(2,1),(3,1)]:=bO (by kernel_rfl)
theorem bAm:Bd 160 [.nils] [(0,1)]:=bO (by kernel_rfl)
theorem bAn:Bd 201 [.str [],.str [],.int .i64 0,.int .i64 0] [(0,1),(1,1),(2,1),(3,1)]:=bO (by kernel_rfl)
theorem bAo:Bd 207 [.int .i64 0,.int .i64 0,.int .i64 0,.str [],.int .i64 0,.str [],.int .i64 0,.int .i64 0,.int .i64 0,.int .i64 0,.int .i64 0,.int .i64 0,.int .i64 0,.nils,.str [],.int .i64 0,.int .i64 0,.int .i64 0,.int .i64 0,.int .i64 0,.int .i64 0,.int .i64 0,.int .i64 0] [(0,17),(17,1),(18,1),(19,1),(20,3)]:=bO (by kernel_rfl)
theorem bAp:Bd 212 [.nili] [(0,1)]:=bO (by kernel_rfl)
theorem bAq:Bd 225 [.nils,.int .i64 0,.int .i64 0] [(0,1),(1,1),(2,1)]:=bO (by kernel_rfl)
theorem bAr:Bd 287 [.nils,.bool false] [(0,1),(1,1)]:=bO (by kernel_rfl)
theorem bF6:Bd 30 [.nils,.nils,.nils,.nils,.nils,.int .i64 0] [(0,1),(1,1),(2,1),(3,1),(4,1),(5,1)]:=bO (by kernel_rfl)
theorem bAs:Bd 346 [.int .i64 0,.int .u64 0] [(0,1),(1,1)]:=bO (by kernel_rfl)
theorem bF7:Bd 48 [.int .i64 0,.int .i64 0,.int .i64 0] [(0,1),(1,1),(2,1)]:=bO (by kernel_rfl)
theorem bF8:Bd 52 [.int .i64 0,.int .i64 0,.int .i64 0] [(0,1),(1,1),(2,1)]:=bO (by kernel_rfl)
theorem bF9:Bd 54 [.str [],.int .i64 0,.int .i64 0,.int .i64 0,.int .i64 0] [(0,1),(1,3),(4,1)]:=bO (by kernel_rfl)
theorem bFa:Bd 57 [.str [],.int .i64 0] [(0,1),(1,1)]:=bO (by kernel_rfl)
theorem bFb:Bd 59 [.int .i64 0,.str [],.int .i64 0,.str [],.int .i64 0,.int .i64 0,.int .i64 0,.int .i64 0,.int .i64 0,.int .i64 0,.int .i64 0,.nils,.str [],.int .i64 0,.int .i64 0] [(0,1),(1,1),(2,1),(3,5),(8,3),(11,1),(12,2),(14,1)]:=bO (by kernel_rfl)
theorem bFc:Bd 61 [.int .i64 0,.int .i64 0,.int .i64 0,.str [],.int .i64 0,.str [],.int .i64 0,.int .i64 0,.int .i64 0,.int .i64 0,.int .i64 0,.int .i64 0,.int .i64 0,.nils,.str [],.int .i64 0,.int .i64 0] [(0,1),(1,1),(2,15)]:=bO (by kernel_rfl)
theorem bFd:Bd 76 [.str [],.int .i64 0,.int .i64 0,.int .i64 0] [(0,1),(1,1),(2,1),(3,1)]:=bO (by kernel_rfl)
theorem bFe:Bd 77 [.str [],.int .i64 0,.int .i64 0,.int .i64 0] [(0,1),(1,1),(2,1),(3,1)]:=bO (by kernel_rfl)
theorem bFf:Bd 82 [.int .i64 0,.int .i64 0,.int .i64 0,.nils] [(0,1),(1,1),(2,1),(3,1)]:=bO (by kernel_rfl)
theorem bFg:Bd 84 [.str [],.int .i64 0,.int .i64 0,.int .i64 0,.int .i64 0,.int .i64 0,.int .i64 0,.int .i64 0,.nils,.str [],.int .i64 0,.bool false] [(0,2),(2,3),(5,4),(9,2),(11,1)]:=bO (by kernel_rfl)
theorem bFh:Bd 90 [.str [],.int .i64 0] [(0,1),(1,1)]:=bO (by kernel_rfl)
theorem bFi:Bd 99 [.int .i64 0,.int .i64 0,.int .i64 0,.str [],.int .i64 0,.str [],.int .i64 0,.int .i64 0,.int .i64 0,.int .i64 0,.int .i64 0,.int .i64 0,.int .i64 0,.nils,.str [],.int .i64 0,.int .i64 0,.int .i64 0,.int .i64 0,.int .i64 0,.int .i64 0,.int .i64 0,.int .i64 0] [(0,17),(17,1),(18,1),(19,1),(20,3)]:=bO (by kernel_rfl)
theorem bAt:Bs 102 23 [.int .i64 0,.int .i64 0,.int .i64 0,.str [],.int .i64 0,.str [],.int .i64 0,.int .i64 0,.int .i64 0,.int .i64 0,.int .i64 0,.int .i64 0,.int .i64 0,.nils,.str [],.int .i64 0,.int .i64 0,.int .i64 0,.int .i64 0,.int .i64 0,.int .i64 0,.int .i64 0,.int .i64 0]:=aZ (by kernel_rfl)
theorem bFj:Bs 22 1 [.int .u8 0]:=aZ (by kernel_rfl)
theorem bFk:Bs 24 5 [.str [],.int .i64 0,.int .i64 0,.int .i64 0,.int .i64 0]:=aZ (by kernel_rfl)
theorem bFl:Bs 25 4 [.str [],.int .i64 0,.int .i64 0,.bool false]:=aZ (by kernel_rfl)
theorem bFm:Bs 26 12 [.str [],.int .i64 0,.int .i64 0,.int .i64 0,.int .i64 0,.int .i64 0,.int .i64 0,.int .i64 0,.nils,.str [],.int .i64 0,.bool false]:=aZ (by kernel_rfl)
theorem bFn:Bs 27 2 [.str [],.int .i64 0]:=aZ (by kernel_rfl)
theorem bFo:Bs 28 5 [.int .i64 0,.int .i64 0,.int .i64 0,.int .i64 0,.int .i64 0]:=aZ (by kernel_rfl)
theorem bAu:Bs 361 1 [.nilp]:=aZ (by kernel_rfl)
theorem bAv:Bs 364 1 [.str []]:=aZ (by kernel_rfl)
theorem bFp:Bs 44 17 [.int .i64 0,.int .i64 0,.int .i64 0,.str [],.int .i64 0,.str [],.int .i64 0,.int .i64 0,.int .i64 0,.int .i64 0,.int .i64 0,.int .i64 0,.int .i64 0,.nils,.str [],.int .i64 0,.int .i64 0]:=aZ (by kernel_rfl)
theorem bFq:Bs 55 4 [.str [],.str [],.int .i64 0,.int .i64 0]:=aZ (by kernel_rfl)
theorem bFr:Bs 62 3 [.int .i64 0,.int .i64 0,.int .i64 0]:=aZ (by kernel_rfl)
theorem bFs:Bs 68 4 [.str [],.int .i64 0,.int .i64 0,.int .i64 0]:=aZ (by kernel_rfl)
theorem bFt:Bs 71 4 [.str [],.int .i64 0,.int .i64 0,.int .i64 0]:=aZ (by kernel_rfl)
theorem bFu:Bs 80 4 [.str [],.int .i64 0,.int .i64 0,.int .i64 0]:=aZ (by kernel_rfl)
theorem bFv:Bs 96 1 [.int .i64 0]:=aZ (by kernel_rfl)
theorem bFw:Bs 97 23 [.int .i64 0,.int .i64 0,.int .i64 0,.str [],.int .i64 0,.str [],.int .i64 0,.int .i64 0,.int .i64 0,.int .i64 0,.int .i64 0,.int .i64 0,.int .i64 0,.nils,.str [],.int .i64 0,.int .i64 0,.int .i64 0,.int .i64 0,.int .i64 0,.int .i64 0,.int .i64 0,.int .i64 0]:=aZ (by kernel_rfl)
theorem aNe:Cv 229 3 .i64:=kY (by kernel_rfl)
theorem aNf:Cv 229 5 .u8:=kY (by kernel_rfl)
theorem aNg:Cv 3 229 .u64:=kY (by kernel_rfl)
theorem aNh:Cv 3 231 .u64:=kY (by kernel_rfl)
theorem aNi:Cv 5 229 .u64:=kY (by kernel_rfl)
theorem bD4:(fun (a_0:List UInt8) (a_1:Int) (a_2:Int) (a_3:Bool) (b_0:List UInt8) (b_1:Int) (b_2:Int) (b_3:Bool)=>rY prog 100 126 (.agg [.str a_0,.int .i64 a_1,.int .i64 a_2,.bool a_3]) (.agg [.str b_0,.int .i64 b_1,.int .i64 b_2,.bool b_3]))=fun a_0 a_1 a_2 a_3 b_0 b_1 b_2 b_3=>(fF (.ok (pP a_0 b_0)) (fF (.ok (decide (a_1=b_1))) (fF (.ok (decide (a_2=b_2))) (fF (.ok (a_3 == b_3)) (.ok true))))):=by kernel_rfl
theorem bAw (a_0:List UInt8) (a_1:Int) (a_2:Int) (a_3:Bool) (b_0:List UInt8) (b_1:Int) (b_2:Int) (b_3:Bool):rY prog 100 126 (.agg [.str a_0,.int .i64 a_1,.int .i64 a_2,.bool a_3]) (.agg [.str b_0,.int .i64 b_1,.int .i64 b_2,.bool b_3])=.ok ((a_0 == b_0)&&decide (a_1=b_1)&&decide (a_2=b_2)&&(a_3 == b_3)):=by
 refine (congrFun (congrFun (congrFun (congrFun (congrFun (congrFun (congrFun (congrFun bD4 a_0) a_1) a_2) a_3) b_0) b_1) b_2) b_3).trans ?_
 simp only [jK,dB,Bool.and_true,Bool.and_assoc]
theorem bFx:(fun a b=>cG prog 126 (.agg a) (.agg b))=fun _ _=>true:=by kernel_rfl
theorem bAx (a b:List V):cG prog 126 (.agg a) (.agg b)=true:=congrFun (congrFun bFx a) b
theorem bD5:(fun (a_0:Int) (a_1:Int) (a_2_0:Int) (a_2_1:Int) (a_2_2:Int) (b_0:Int) (b_1:Int) (b_2_0:Int) (b_2_1:Int) (b_2_2:Int)=>rY prog 100 132 (.agg [.int .i64 a_0,.int .i64 a_1,.int .i64 a_2_0,.int .i64 a_2_1,.int .i64 a_2_2]) (.agg [.int .i64 b_0,.int .i64 b_1,.int .i64 b_2_0,.int .i64 b_2_1,.int .i64 b_2_2]))=fun a_0 a_1 a_2_0 a_2_1 a_2_2 b_0 b_1 b_2_0 b_2_1 b_2_2=>(fF (.ok (decide (a_0=b_0))) (fF (.ok (decide (a_1=b_1))) (fF (fF (.ok (decide (a_2_0=b_2_0))) (fF (.ok (decide (a_2_1=b_2_1))) (fF (.ok (decide (a_2_2=b_2_2))) (.ok true)))) (.ok true)))):=by kernel_rfl
theorem bAy (a_0:Int) (a_1:Int) (a_2_0:Int) (a_2_1:Int) (a_2_2:Int) (b_0:Int) (b_1:Int) (b_2_0:Int) (b_2_1:Int) (b_2_2:Int):rY prog 100 132 (.agg [.int .i64 a_0,.int .i64 a_1,.int .i64 a_2_0,.int .i64 a_2_1,.int .i64 a_2_2]) (.agg [.int .i64 b_0,.int .i64 b_1,.int .i64 b_2_0,.int .i64 b_2_1,.int .i64 b_2_2])=.ok (decide (a_0=b_0)&&decide (a_1=b_1)&&decide (a_2_0=b_2_0)&&decide (a_2_1=b_2_1)&&decide (a_2_2=b_2_2)):=by
 refine (congrFun (congrFun (congrFun (congrFun (congrFun (congrFun (congrFun (congrFun (congrFun (congrFun bD5 a_0) a_1) a_2_0) a_2_1) a_2_2) b_0) b_1) b_2_0) b_2_1) b_2_2).trans ?_
 simp only [jK,dB,Bool.and_true,Bool.and_assoc]
theorem bFy:(fun a b=>cG prog 132 (.agg a) (.agg b))=fun _ _=>true:=by kernel_rfl
theorem bAz (a b:List V):cG prog 132 (.agg a) (.agg b)=true:=congrFun (congrFun bFy a) b
theorem bD6:(fun (a_0:List UInt8) (a_1:Int) (a_2:Int) (a_3:Int) (b_0:List UInt8) (b_1:Int) (b_2:Int) (b_3:Int)=>rY prog 100 145 (.agg [.str a_0,.int .i64 a_1,.int .i64 a_2,.int .i64 a_3]) (.agg [.str b_0,.int .i64 b_1,.int .i64 b_2,.int .i64 b_3]))=fun a_0 a_1 a_2 a_3 b_0 b_1 b_2 b_3=>(fF (.ok (pP a_0 b_0)) (fF (.ok (decide (a_1=b_1))) (fF (.ok (decide (a_2=b_2))) (fF (.ok (decide (a_3=b_3))) (.ok true))))):=by kernel_rfl
theorem bB0 (a_0:List UInt8) (a_1:Int) (a_2:Int) (a_3:Int) (b_0:List UInt8) (b_1:Int) (b_2:Int) (b_3:Int):rY prog 100 145 (.agg [.str a_0,.int .i64 a_1,.int .i64 a_2,.int .i64 a_3]) (.agg [.str b_0,.int .i64 b_1,.int .i64 b_2,.int .i64 b_3])=.ok ((a_0 == b_0)&&decide (a_1=b_1)&&decide (a_2=b_2)&&decide (a_3=b_3)):=by
 refine (congrFun (congrFun (congrFun (congrFun (congrFun (congrFun (congrFun (congrFun bD6 a_0) a_1) a_2) a_3) b_0) b_1) b_2) b_3).trans ?_
 simp only [jK,dB,Bool.and_true,Bool.and_assoc]
theorem bFz:(fun a b=>cG prog 145 (.agg a) (.agg b))=fun _ _=>true:=by kernel_rfl
theorem bB1 (a b:List V):cG prog 145 (.agg a) (.agg b)=true:=congrFun (congrFun bFz a) b
theorem bD7:(fun (a_0:List UInt8) (a_1:List UInt8) (a_2:Int) (a_3:Int) (b_0:List UInt8) (b_1:List UInt8) (b_2:Int) (b_3:Int)=>rY prog 100 201 (.agg [.str a_0,.str a_1,.int .i64 a_2,.int .i64 a_3]) (.agg [.str b_0,.str b_1,.int .i64 b_2,.int .i64 b_3]))=fun a_0 a_1 a_2 a_3 b_0 b_1 b_2 b_3=>(fF (.ok (pP a_0 b_0)) (fF (.ok (pP a_1 b_1)) (fF (.ok (decide (a_2=b_2))) (fF (.ok (decide (a_3=b_3))) (.ok true))))):=by kernel_rfl
theorem bB2 (a_0:List UInt8) (a_1:List UInt8) (a_2:Int) (a_3:Int) (b_0:List UInt8) (b_1:List UInt8) (b_2:Int) (b_3:Int):rY prog 100 201 (.agg [.str a_0,.str a_1,.int .i64 a_2,.int .i64 a_3]) (.agg [.str b_0,.str b_1,.int .i64 b_2,.int .i64 b_3])=.ok ((a_0 == b_0)&&(a_1 == b_1)&&decide (a_2=b_2)&&decide (a_3=b_3)):=by
 refine (congrFun (congrFun (congrFun (congrFun (congrFun (congrFun (congrFun (congrFun bD7 a_0) a_1) a_2) a_3) b_0) b_1) b_2) b_3).trans ?_
 simp only [jK,dB,Bool.and_true,Bool.and_assoc]
theorem bG0:(fun a b=>cG prog 201 (.agg a) (.agg b))=fun _ _=>true:=by kernel_rfl
theorem bB3 (a b:List V):cG prog 201 (.agg a) (.agg b)=true:=congrFun (congrFun bG0 a) b
theorem bD8:(fun (a_0:Int) (a_1:Int) (b_0:Int) (b_1:Int)=>rY prog 100 346 (.agg [.int .i64 a_0,.int .u64 a_1]) (.agg [.int .i64 b_0,.int .u64 b_1]))=fun a_0 a_1 b_0 b_1=>(fF (.ok (decide (a_0=b_0))) (fF (.ok (decide (a_1=b_1))) (.ok true))):=by kernel_rfl
theorem bB4 (a_0:Int) (a_1:Int) (b_0:Int) (b_1:Int):rY prog 100 346 (.agg [.int .i64 a_0,.int .u64 a_1]) (.agg [.int .i64 b_0,.int .u64 b_1])=.ok (decide (a_0=b_0)&&decide (a_1=b_1)):=by
 refine (congrFun (congrFun (congrFun (congrFun bD8 a_0) a_1) b_0) b_1).trans ?_
 simp only [jK,dB,Bool.and_true,Bool.and_assoc]
theorem bG1:(fun a b=>cG prog 346 (.agg a) (.agg b))=fun _ _=>true:=by kernel_rfl
theorem bB5 (a b:List V):cG prog 346 (.agg a) (.agg b)=true:=congrFun (congrFun bG1 a) b
theorem bG2:(fun (a_0:Int) (a_1:Int) (a_2:Int) (b_0:Int) (b_1:Int) (b_2:Int)=>rY prog 100 48 (.agg [.int .i64 a_0,.int .i64 a_1,.int .i64 a_2]) (.agg [.int .i64 b_0,.int .i64 b_1,.int .i64 b_2]))=fun a_0 a_1 a_2 b_0 b_1 b_2=>(fF (.ok (decide (a_0=b_0))) (fF (.ok (decide (a_1=b_1))) (fF (.ok (decide (a_2=b_2))) (.ok true)))):=by kernel_rfl
theorem bG3 (a_0:Int) (a_1:Int) (a_2:Int) (b_0:Int) (b_1:Int) (b_2:Int):rY prog 100 48 (.agg [.int .i64 a_0,.int .i64 a_1,.int .i64 a_2]) (.agg [.int .i64 b_0,.int .i64 b_1,.int .i64 b_2])=.ok (decide (a_0=b_0)&&decide (a_1=b_1)&&decide (a_2=b_2)):=by
 refine (congrFun (congrFun (congrFun (congrFun (congrFun (congrFun bG2 a_0) a_1) a_2) b_0) b_1) b_2).trans ?_
 simp only [jK,dB,Bool.and_true,Bool.and_assoc]
theorem bNn:(fun a b=>cG prog 48 (.agg a) (.agg b))=fun _ _=>true:=by kernel_rfl
theorem bG4 (a b:List V):cG prog 48 (.agg a) (.agg b)=true:=congrFun (congrFun bNn a) b
theorem bG5:(fun (a_0:Int) (a_1:Int) (a_2:Int) (b_0:Int) (b_1:Int) (b_2:Int)=>rY prog 100 52 (.agg [.int .i64 a_0,.int .i64 a_1,.int .i64 a_2]) (.agg [.int .i64 b_0,.int .i64 b_1,.int .i64 b_2]))=fun a_0 a_1 a_2 b_0 b_1 b_2=>(fF (.ok (decide (a_0=b_0))) (fF (.ok (decide (a_1=b_1))) (fF (.ok (decide (a_2=b_2))) (.ok true)))):=by kernel_rfl
theorem bG6 (a_0:Int) (a_1:Int) (a_2:Int) (b_0:Int) (b_1:Int) (b_2:Int):rY prog 100 52 (.agg [.int .i64 a_0,.int .i64 a_1,.int .i64 a_2]) (.agg [.int .i64 b_0,.int .i64 b_1,.int .i64 b_2])=.ok (decide (a_0=b_0)&&decide (a_1=b_1)&&decide (a_2=b_2)):=by
 refine (congrFun (congrFun (congrFun (congrFun (congrFun (congrFun bG5 a_0) a_1) a_2) b_0) b_1) b_2).trans ?_
 simp only [jK,dB,Bool.and_true,Bool.and_assoc]
theorem bNo:(fun a b=>cG prog 52 (.agg a) (.agg b))=fun _ _=>true:=by kernel_rfl
theorem bG7 (a b:List V):cG prog 52 (.agg a) (.agg b)=true:=congrFun (congrFun bNo a) b
theorem bG8:(fun (a_0:List UInt8) (a_1_0:Int) (a_1_1:Int) (a_1_2:Int) (a_2:Int) (b_0:List UInt8) (b_1_0:Int) (b_1_1:Int) (b_1_2:Int) (b_2:Int)=>rY prog 100 54 (.agg [.str a_0,.int .i64 a_1_0,.int .i64 a_1_1,.int .i64 a_1_2,.int .i64 a_2]) (.agg [.str b_0,.int .i64 b_1_0,.int .i64 b_1_1,.int .i64 b_1_2,.int .i64 b_2]))=fun a_0 a_1_0 a_1_1 a_1_2 a_2 b_0 b_1_0 b_1_1 b_1_2 b_2=>(fF (.ok (pP a_0 b_0)) (fF (fF (.ok (decide (a_1_0=b_1_0))) (fF (.ok (decide (a_1_1=b_1_1))) (fF (.ok (decide (a_1_2=b_1_2))) (.ok true)))) (fF (.ok (decide (a_2=b_2))) (.ok true)))):=by kernel_rfl
theorem bG9 (a_0:List UInt8) (a_1_0:Int) (a_1_1:Int) (a_1_2:Int) (a_2:Int) (b_0:List UInt8) (b_1_0:Int) (b_1_1:Int) (b_1_2:Int) (b_2:Int):rY prog 100 54 (.agg [.str a_0,.int .i64 a_1_0,.int .i64 a_1_1,.int .i64 a_1_2,.int .i64 a_2]) (.agg [.str b_0,.int .i64 b_1_0,.int .i64 b_1_1,.int .i64 b_1_2,.int .i64 b_2])=.ok ((a_0 == b_0)&&decide (a_1_0=b_1_0)&&decide (a_1_1=b_1_1)&&decide (a_1_2=b_1_2)&&decide (a_2=b_2)):=by
 refine (congrFun (congrFun (congrFun (congrFun (congrFun (congrFun (congrFun (congrFun (congrFun (congrFun bG8 a_0) a_1_0) a_1_1) a_1_2) a_2) b_0) b_1_0) b_1_1) b_1_2) b_2).trans ?_
 simp only [jK,dB,Bool.and_true,Bool.and_assoc]
theorem bNp:(fun a b=>cG prog 54 (.agg a) (.agg b))=fun _ _=>true:=by kernel_rfl
theorem bGa (a b:List V):cG prog 54 (.agg a) (.agg b)=true:=congrFun (congrFun bNp a) b
theorem bGb:(fun (a_0:List UInt8) (a_1:Int) (b_0:List UInt8) (b_1:Int)=>rY prog 100 57 (.agg [.str a_0,.int .i64 a_1]) (.agg [.str b_0,.int .i64 b_1]))=fun a_0 a_1 b_0 b_1=>(fF (.ok (pP a_0 b_0)) (fF (.ok (decide (a_1=b_1))) (.ok true))):=by kernel_rfl
theorem bGc (a_0:List UInt8) (a_1:Int) (b_0:List UInt8) (b_1:Int):rY prog 100 57 (.agg [.str a_0,.int .i64 a_1]) (.agg [.str b_0,.int .i64 b_1])=.ok ((a_0 == b_0)&&decide (a_1=b_1)):=by
 refine (congrFun (congrFun (congrFun (congrFun bGb a_0) a_1) b_0) b_1).trans ?_
 simp only [jK,dB,Bool.and_true,Bool.and_assoc]
theorem bNq:(fun a b=>cG prog 57 (.agg a) (.agg b))=fun _ _=>true:=by kernel_rfl
theorem bGd (a b:List V):cG prog 57 (.agg a) (.agg b)=true:=congrFun (congrFun bNq a) b
theorem bGe:(fun (a_0:List UInt8) (a_1:Int) (a_2:Int) (a_3:Int) (b_0:List UInt8) (b_1:Int) (b_2:Int) (b_3:Int)=>rY prog 100 76 (.agg [.str a_0,.int .i64 a_1,.int .i64 a_2,.int .i64 a_3]) (.agg [.str b_0,.int .i64 b_1,.int .i64 b_2,.int .i64 b_3]))=fun a_0 a_1 a_2 a_3 b_0 b_1 b_2 b_3=>(fF (.ok (pP a_0 b_0)) (fF (.ok (decide (a_1=b_1))) (fF (.ok (decide (a_2=b_2))) (fF (.ok (decide (a_3=b_3))) (.ok true))))):=by kernel_rfl
theorem bGf (a_0:List UInt8) (a_1:Int) (a_2:Int) (a_3:Int) (b_0:List UInt8) (b_1:Int) (b_2:Int) (b_3:Int):rY prog 100 76 (.agg [.str a_0,.int .i64 a_1,.int .i64 a_2,.int .i64 a_3]) (.agg [.str b_0,.int .i64 b_1,.int .i64 b_2,.int .i64 b_3])=.ok ((a_0 == b_0)&&decide (a_1=b_1)&&decide (a_2=b_2)&&decide (a_3=b_3)):=by
 refine (congrFun (congrFun (congrFun (congrFun (congrFun (congrFun (congrFun (congrFun bGe a_0) a_1) a_2) a_3) b_0) b_1) b_2) b_3).trans ?_
 simp only [jK,dB,Bool.and_true,Bool.and_assoc]
theorem bNr:(fun a b=>cG prog 76 (.agg a) (.agg b))=fun _ _=>true:=by kernel_rfl
theorem bGg (a b:List V):cG prog 76 (.agg a) (.agg b)=true:=congrFun (congrFun bNr a) b
theorem bGh:(fun (a_0:List UInt8) (a_1:Int) (b_0:List UInt8) (b_1:Int)=>rY prog 100 90 (.agg [.str a_0,.int .i64 a_1]) (.agg [.str b_0,.int .i64 b_1]))=fun a_0 a_1 b_0 b_1=>(fF (.ok (pP a_0 b_0)) (fF (.ok (decide (a_1=b_1))) (.ok true))):=by kernel_rfl
theorem bGi (a_0:List UInt8) (a_1:Int) (b_0:List UInt8) (b_1:Int):rY prog 100 90 (.agg [.str a_0,.int .i64 a_1]) (.agg [.str b_0,.int .i64 b_1])=.ok ((a_0 == b_0)&&decide (a_1=b_1)):=by
 refine (congrFun (congrFun (congrFun (congrFun bGh a_0) a_1) b_0) b_1).trans ?_
 simp only [jK,dB,Bool.and_true,Bool.and_assoc]
theorem bNs:(fun a b=>cG prog 90 (.agg a) (.agg b))=fun _ _=>true:=by kernel_rfl
theorem bGj (a b:List V):cG prog 90 (.agg a) (.agg b)=true:=congrFun (congrFun bNs a) b
theorem aNj:Fa 126 0 0:=aB (by kernel_rfl)
theorem aNk:Fa 126 1 1:=aB (by kernel_rfl)
theorem aNl:Fa 126 2 2:=aB (by kernel_rfl)
theorem aNm:Fa 126 3 3:=aB (by kernel_rfl)
theorem aNn:Fa 132 0 0:=aB (by kernel_rfl)
theorem aNo:Fa 132 1 1:=aB (by kernel_rfl)
theorem aNp:Fa 132 2 2:=aB (by kernel_rfl)
theorem aNq:Fa 142 0 0:=aB (by kernel_rfl)
theorem aNr:Fa 142 1 1:=aB (by kernel_rfl)
theorem aNs:Fa 142 2 2:=aB (by kernel_rfl)
theorem aNt:Fa 145 0 0:=aB (by kernel_rfl)
theorem aNu:Fa 145 1 1:=aB (by kernel_rfl)
theorem aNv:Fa 145 2 2:=aB (by kernel_rfl)
theorem aNw:Fa 145 3 3:=aB (by kernel_rfl)
theorem aNx:Fa 160 0 0:=aB (by kernel_rfl)
theorem aNy:Fa 201 0 0:=aB (by kernel_rfl)
theorem aNz:Fa 201 1 1:=aB (by kernel_rfl)
theorem aO0:Fa 201 2 2:=aB (by kernel_rfl)
theorem aO1:Fa 201 3 3:=aB (by kernel_rfl)
theorem aO2:Fa 207 0 0:=aB (by kernel_rfl)
theorem aO3:Fa 207 1 17:=aB (by kernel_rfl)
theorem aO4:Fa 207 2 18:=aB (by kernel_rfl)
theorem aO5:Fa 207 3 19:=aB (by kernel_rfl)
theorem aO6:Fa 207 4 20:=aB (by kernel_rfl)
theorem aO7:Fa 220 1 1:=aB (by kernel_rfl)
theorem aO8:Fa 220 2 2:=aB (by kernel_rfl)
theorem aO9:Fa 225 0 0:=aB (by kernel_rfl)
theorem aOa:Fa 225 1 1:=aB (by kernel_rfl)
theorem aOb:Fa 225 2 2:=aB (by kernel_rfl)
theorem aOc:Fa 287 0 0:=aB (by kernel_rfl)
theorem aOd:Fa 287 1 1:=aB (by kernel_rfl)
theorem aT4:Fa 30 0 0:=aB (by kernel_rfl)
theorem aT5:Fa 30 1 1:=aB (by kernel_rfl)
theorem aT6:Fa 30 2 2:=aB (by kernel_rfl)
theorem aT7:Fa 30 3 3:=aB (by kernel_rfl)
theorem aT8:Fa 30 4 4:=aB (by kernel_rfl)
theorem aT9:Fa 30 5 5:=aB (by kernel_rfl)
theorem aOe:Fa 346 0 0:=aB (by kernel_rfl)
theorem aOf:Fa 346 1 1:=aB (by kernel_rfl)
theorem aTa:Fa 48 0 0:=aB (by kernel_rfl)
theorem aTb:Fa 48 1 1:=aB (by kernel_rfl)
theorem aTc:Fa 48 2 2:=aB (by kernel_rfl)
theorem aTd:Fa 52 0 0:=aB (by kernel_rfl)
theorem aTe:Fa 52 1 1:=aB (by kernel_rfl)
theorem aTf:Fa 52 2 2:=aB (by kernel_rfl)
theorem aTg:Fa 54 0 0:=aB (by kernel_rfl)
theorem aTh:Fa 54 1 1:=aB (by kernel_rfl)
theorem aTi:Fa 54 2 4:=aB (by kernel_rfl)
theorem aTj:Fa 57 0 0:=aB (by kernel_rfl)
theorem aTk:Fa 57 1 1:=aB (by kernel_rfl)
theorem aTl:Fa 59 0 0:=aB (by kernel_rfl)
theorem aTm:Fa 59 1 1:=aB (by kernel_rfl)
theorem aTn:Fa 59 2 2:=aB (by kernel_rfl)
theorem aTo:Fa 59 3 3:=aB (by kernel_rfl)
theorem aTp:Fa 59 4 8:=aB (by kernel_rfl)
theorem aTq:Fa 59 5 11:=aB (by kernel_rfl)
theorem aTr:Fa 59 6 12:=aB (by kernel_rfl)
theorem aTs:Fa 59 7 14:=aB (by kernel_rfl)
theorem aTt:Fa 61 0 0:=aB (by kernel_rfl)
theorem aTu:Fa 61 1 1:=aB (by kernel_rfl)
theorem aTv:Fa 61 2 2:=aB (by kernel_rfl)
theorem aTw:Fa 76 0 0:=aB (by kernel_rfl)
theorem aTx:Fa 76 1 1:=aB (by kernel_rfl)
theorem aTy:Fa 76 2 2:=aB (by kernel_rfl)
theorem aTz:Fa 76 3 3:=aB (by kernel_rfl)
theorem aU0:Fa 77 0 0:=aB (by kernel_rfl)
theorem aU1:Fa 77 1 1:=aB (by kernel_rfl)
theorem aU2:Fa 77 2 2:=aB (by kernel_rfl)
theorem aU3:Fa 77 3 3:=aB (by kernel_rfl)
theorem aU4:Fa 82 0 0:=aB (by kernel_rfl)
theorem aU5:Fa 82 1 1:=aB (by kernel_rfl)
theorem aU6:Fa 82 2 2:=aB (by kernel_rfl)
theorem aU7:Fa 82 3 3:=aB (by kernel_rfl)
theorem aU8:Fa 84 0 0:=aB (by kernel_rfl)
theorem aU9:Fa 84 1 2:=aB (by kernel_rfl)
theorem aUa:Fa 84 2 5:=aB (by kernel_rfl)
theorem aUb:Fa 84 3 9:=aB (by kernel_rfl)
theorem aUc:Fa 84 4 11:=aB (by kernel_rfl)
theorem aUd:Fa 90 0 0:=aB (by kernel_rfl)
theorem aUe:Fa 90 1 1:=aB (by kernel_rfl)
theorem aUf:Fa 99 0 0:=aB (by kernel_rfl)
theorem aUg:Fa 99 1 17:=aB (by kernel_rfl)
theorem aUh:Fa 99 2 18:=aB (by kernel_rfl)
theorem aUi:Fa 99 3 19:=aB (by kernel_rfl)
theorem aUj:Fa 99 4 20:=aB (by kernel_rfl)
theorem bB6:Ix 102 23:=bE (by kernel_rfl)
theorem bB7:Ix 114 3:=bE (by kernel_rfl)
theorem bGk:Ix 22 1:=bE (by kernel_rfl)
theorem bGl:Ix 24 5:=bE (by kernel_rfl)
theorem bGm:Ix 25 4:=bE (by kernel_rfl)
theorem bGn:Ix 26 12:=bE (by kernel_rfl)
theorem bGo:Ix 27 2:=bE (by kernel_rfl)
theorem bGp:Ix 28 5:=bE (by kernel_rfl)
theorem bB8:Ix 361 1:=bE (by kernel_rfl)
theorem bB9:Ix 364 1:=bE (by kernel_rfl)
theorem bGq:Ix 44 17:=bE (by kernel_rfl)
theorem bGr:Ix 55 4:=bE (by kernel_rfl)
theorem bGs:Ix 62 3:=bE (by kernel_rfl)
theorem bGt:Ix 68 4:=bE (by kernel_rfl)
theorem bGu:Ix 71 4:=bE (by kernel_rfl)
theorem bGv:Ix 80 4:=bE (by kernel_rfl)
theorem bGw:Ix 96 1:=bE (by kernel_rfl)
theorem bGx:Ix 97 23:=bE (by kernel_rfl)
theorem bBa:Ld 126 (some 4):=aW (by kernel_rfl)
theorem bBb:Ld 132 (some 5):=aW (by kernel_rfl)
theorem bBc:Ld 145 (some 4):=aW (by kernel_rfl)
theorem ld2:Ld 2 none:=aW (by kernel_rfl)
theorem bBd:Ld 201 (some 4):=aW (by kernel_rfl)
theorem bBe:Ld 212 (some 1):=aW (by kernel_rfl)
theorem bGy:Ld 22 none:=aW (by kernel_rfl)
theorem bBf:Ld 220 (some 3):=aW (by kernel_rfl)
theorem bBg:Ld 229 none:=aW (by kernel_rfl)
theorem bBh:Ld 232 none:=aW (by kernel_rfl)
theorem bGz:Ld 24 none:=aW (by kernel_rfl)
theorem bH0:Ld 25 none:=aW (by kernel_rfl)
theorem bH1:Ld 26 none:=aW (by kernel_rfl)
theorem bH2:Ld 27 none:=aW (by kernel_rfl)
theorem bH3:Ld 28 none:=aW (by kernel_rfl)
theorem ld3:Ld 3 none:=aW (by kernel_rfl)
theorem bH4:Ld 30 (some 6):=aW (by kernel_rfl)
theorem bH5:Ld 31 none:=aW (by kernel_rfl)
theorem bBi:Ld 346 (some 2):=aW (by kernel_rfl)
theorem bBj:Ld 349 none:=aW (by kernel_rfl)
theorem ld4:Ld 4 none:=aW (by kernel_rfl)
theorem bH6:Ld 48 (some 3):=aW (by kernel_rfl)
theorem ld5:Ld 5 none:=aW (by kernel_rfl)
theorem bH7:Ld 52 (some 3):=aW (by kernel_rfl)
theorem bH8:Ld 54 (some 5):=aW (by kernel_rfl)
theorem bH9:Ld 55 none:=aW (by kernel_rfl)
theorem bHa:Ld 57 (some 2):=aW (by kernel_rfl)
theorem bHb:Ld 59 (some 15):=aW (by kernel_rfl)
theorem bHc:Ld 61 (some 17):=aW (by kernel_rfl)
theorem bHd:Ld 76 (some 4):=aW (by kernel_rfl)
theorem bHe:Ld 80 none:=aW (by kernel_rfl)
theorem bHf:Ld 82 (some 4):=aW (by kernel_rfl)
theorem bHg:Ld 84 (some 12):=aW (by kernel_rfl)
theorem ld9:Ld 9 none:=aW (by kernel_rfl)
theorem bHh:Ld 90 (some 2):=aW (by kernel_rfl)
theorem bHi:Ld 99 (some 23):=aW (by kernel_rfl)
theorem aUk:Ln 102:=eA (by kernel_rfl)
theorem aUl:Ln 114:=eA (by kernel_rfl)
theorem bBk:Ln 22:=eA (by kernel_rfl)
theorem bBl:Ln 24:=eA (by kernel_rfl)
theorem bBm:Ln 25:=eA (by kernel_rfl)
theorem bBn:Ln 26:=eA (by kernel_rfl)
theorem bBo:Ln 27:=eA (by kernel_rfl)
theorem bBp:Ln 28:=eA (by kernel_rfl)
theorem aUm:Ln 361:=eA (by kernel_rfl)
theorem aUn:Ln 364:=eA (by kernel_rfl)
theorem bBq:Ln 44:=eA (by kernel_rfl)
theorem bBr:Ln 55:=eA (by kernel_rfl)
theorem bBs:Ln 62:=eA (by kernel_rfl)
theorem bBt:Ln 68:=eA (by kernel_rfl)
theorem bBu:Ln 71:=eA (by kernel_rfl)
theorem bBv:Ln 80:=eA (by kernel_rfl)
theorem bHj (s:List UInt8) (S:St):zC prog 9 (.str s) S=.ok (.int .i64 s.length):=aQ2 (by kernel_rfl) s S
theorem bBw:Ln 96:=eA (by kernel_rfl)
theorem bBx:Ln 97:=eA (by kernel_rfl)
theorem bHk:Sl_ 22 1:=fE (by kernel_rfl)
theorem bHl:Sl_ 24 5:=fE (by kernel_rfl)
theorem bHm:Sl_ 25 4:=fE (by kernel_rfl)
theorem bHn:Sl_ 26 12:=fE (by kernel_rfl)
theorem bHo:Si 26 12:=aCs (by kernel_rfl)
theorem bD9:Sl_ 27 2:=fE (by kernel_rfl)
theorem bHp:Sl_ 28 5:=fE (by kernel_rfl)
theorem bHq:Sl_ 55 4:=fE (by kernel_rfl)
theorem bHr:Si 55 4:=aCs (by kernel_rfl)
theorem bHs:Sl_ 71 4:=fE (by kernel_rfl)
theorem bHt:Sl_ 80 4:=fE (by kernel_rfl)
theorem bHu:Sl_ 96 1:=fE (by kernel_rfl)
theorem bHv:Sl_ 97 23:=fE (by kernel_rfl)
theorem bBy:Sr 126 4:=aT (by kernel_rfl)
theorem bBz:Sr 132 5:=aT (by kernel_rfl)
theorem bC0:Sr 145 4:=aT (by kernel_rfl)
theorem bC1:Sr 201 4:=aT (by kernel_rfl)
theorem bC2:Sr 212 1:=aT (by kernel_rfl)
theorem bHw:Sr 22 1:=aT (by kernel_rfl)
theorem bC3:Sr 220 3:=aT (by kernel_rfl)
theorem bC4:Sr 232 1:=aT (by kernel_rfl)
theorem bHx:Sr 24 1:=aT (by kernel_rfl)
theorem bHy:Sr 25 1:=aT (by kernel_rfl)
theorem bHz:Sr 26 1:=aT (by kernel_rfl)
theorem bI0:Sr 27 1:=aT (by kernel_rfl)
theorem bI1:Sr 28 1:=aT (by kernel_rfl)
theorem st3:Sr 3 1:=aT (by kernel_rfl)
theorem bI2:Sr 30 6:=aT (by kernel_rfl)
theorem bI3:Sr 31 1:=aT (by kernel_rfl)
theorem bC5:Sr 346 2:=aT (by kernel_rfl)
theorem st4:Sr 4 1:=aT (by kernel_rfl)
theorem bI4:Sr 48 3:=aT (by kernel_rfl)
theorem st5:Sr 5 1:=aT (by kernel_rfl)
theorem bI5:Sr 52 3:=aT (by kernel_rfl)
theorem bI6:Sr 54 5:=aT (by kernel_rfl)
theorem bI7:Sr 55 1:=aT (by kernel_rfl)
theorem bI8:Sr 57 2:=aT (by kernel_rfl)
theorem bI9:Sr 59 15:=aT (by kernel_rfl)
theorem bIa:Sr 61 17:=aT (by kernel_rfl)
theorem bIb:Sr 80 1:=aT (by kernel_rfl)
theorem bIc:Sr 82 4:=aT (by kernel_rfl)
theorem bId:Sr 84 12:=aT (by kernel_rfl)
theorem st9:Sr 9 1:=aT (by kernel_rfl)
theorem bIe:Sr 90 2:=aT (by kernel_rfl)
theorem bIf:Sr 99 23:=aT (by kernel_rfl)
end Go.Proofs.YtoaibmbldmckaaaGreat
end
section
namespace Go.AM
open Go.RowKit Go.Lib Go.Proofs Go.Shelf
theorem aD0 {P:Program} {t:TypeId} (h:(P.info? t).isSome=true) (w:World):(Go.sizeOf t).run P w=.ok (sz P t) w:=by
 obtain ⟨i,hi⟩:=Option.isSome_iff_exists.1 h
 simp [sizeOf,typeInfo,hi,iR hi]
theorem kH {P:Program} {t:TypeId} (h:(P.info? t).map (·.size)=some 1) (w:World):(Go.sizeOf t).run P w=.ok 1 w:=by
 cases hi:P.info? t with
 | none=>rw [hi] at h;cases h
 | some i=>rw [hi] at h;simp [sizeOf,typeInfo,hi] at h ⊢;exact h
theorem oX {P:Program} {f:FuncId} {T e I B:TypeId} {ov rr:FuncId} {fn fo:Func} (mixed:P.follows .mixedOrders=true) (hf:P.funcs[f]?=some fn) (hb:fn.body=some (xQ T I B ov rr)) (hn:fn.ntmps=95) (hr:fn.results=#[.tmp 6])
  (tT:P.underlying T=some (.slice e)) (tI:P.underlying I=some (.int .i64)) (tB:P.underlying B=some .bool)
  (ho:P.funcs[ov]?=some fo) (o1:(fo.name == "runtime.NumGoroutine")=false) (o2:fo.body.isNone=true) (o3:Extern.findNext fo=none) (o4:Extern.find fo=some (Extern.SlicesOverlaps.overlaps #[T,T] #[B]))
  (zE:(P.info? e).isSome=true) (zT:(P.info? T).map (·.size)=some 1) (zI:(P.info? I).map (·.size)=some 1) (zB:(P.info? B).map (·.size)=some 1):InsAt P f T e I B ov rr fn:=
 ⟨mixed,hf,hb,hn,hr,tT,tI,tB,run_callFunc_extern ho o1 o2 o3 o4,aD0 zE,kH zT,kH zI,kH zB⟩
theorem aUo {P:Program} {f:FuncId} {T e I B:TypeId} {fn:Func} (mixed:P.follows .mixedOrders=true) (hf:P.funcs[f]?=some fn) (hb:fn.body=some (aB9 T I B)) (hn:fn.ntmps=33) (hr:fn.results=#[.tmp 6])
  (tT:P.underlying T=some (.slice e)) (tI:P.underlying I=some (.int .i64)) (tB:P.underlying B=some .bool)
  (zE:(P.info? e).isSome=true) (zT:(P.info? T).map (·.size)=some 1) (zI:(P.info? I).map (·.size)=some 1) (zB:(P.info? B).map (·.size)=some 1):DelAt P f T e I B fn:=
 ⟨mixed,hf,hb,hn,hr,tT,tI,tB,aD0 zE,kH zT,kH zI,kH zB⟩
end Go.AM
end
section
set_option linter.unusedSimpArgs false
set_option linter.unusedVariables false
namespace Go.AM
structure Lit where
 args:List V
 n:Nat
 blocks:List (Nat×Blk)
 v:V
 n':Nat
 blocks':List (Nat×Blk)
end Go.AM
namespace Go.AM
theorem aUp {fn:Func} (h:fn.body.isSome=true):fn.body=some (fn.body.get h):=(Option.some_get h).symm
end Go.AM
end
section
set_option linter.unusedSimpArgs false
set_option linter.unusedVariables false
namespace Go.AM
open Go.RowKit
theorem RelH.grow {F:Nat→Option Obj} {G:Gh} {S:St} {H H':Array Obj} (R:eW F G S H) (hs:H.size≤H'.size) (old:∀ i,i<H.size→H'[i]?=H[i]?):eW F G S H':=by
 have lt:∀ {i:Nat} {o:Obj},H[i]?=some o→i<H.size:=fun h=>(Array.getElem?_eq_some_iff.1 h).1
 constructor
 ·exact R.fresh
 ·exact R.sep
 ·intro a b hb
  have hold:=R.blk a b hb
  cases b with
  | row ver' es' elems'=>
   obtain ⟨K,hK,r1,r2,r3,c',ty',fr',hc',r⟩:=hold
   exact ⟨K,hK,r1,r2,r3,c',ty',fr',by rw [old _ (lt hc')];exact hc',r⟩
  | mp kvs=>
   obtain ⟨i,es',clock,hi,hH',r⟩:=hold
   exact ⟨i,es',clock,hi,by rw [old _ (lt hH')];exact hH',r⟩
  | iter s pos=>
   obtain ⟨K,hK,r1,r2,hH'⟩:=hold
   exact ⟨K,hK,r1,r2,by rw [old _ (lt hH')];exact hH'⟩
 ·exact R.inj
 ·intro i o h
  have:=R.fr i o h
  rw [old i (lt this)];exact this
 ·intro i o h
  have:=R.pr i o h
  rw [old i (lt this)];exact this
 ·exact R.own
 ·intro a i h
  have:=R.lt a i h
  omega
 ·exact R.small
theorem aQi {P:Program} {f:FuncId} {fn:Func} (hf:P.funcs[f]?=some fn) (hn:(fn.name == "runtime.NumGoroutine")=false) (hb:fn.body.isSome=true)
  (h:∀ W,Calls P f #[] W fun e W'=>e=.returned (.bool true)∧Below W.heap.size W W'):SpecOK P f (Sp.told.run P):=by
 refine ⟨⟨fn,_,hf,hn,aUp hb⟩,fun {args S S' v} hr=>?_⟩
 intro F G W cs R hvs
 match args,hr with
 | [],hr=>
  cases hr
  cases hvs
  refine (h W).mono ?_
  rintro e W' ⟨rfl,hw⟩
  have hw':=hw
  obtain ⟨w1,w2,w3,w4,w5⟩:=hw
  have old:∀ i,i<W.heap.size→W'.heap[i]?=W.heap[i]?:=w5
  exact ⟨G,.bool true,rfl,⟨G.le_refl,R.grow w4 old,⟨w1,w2,w3,w4⟩,Nat.le_refl _,fun _ _ _ _=>⟨rfl,rfl⟩,fun _ h _ _=>h,fun _ _ h=>.inl h⟩,.bool true⟩
end Go.AM
namespace Go.AM
open Go.RowKit
end Go.AM
end
section
namespace Go.Proofs.YtoaibmbldmckaaaGreat
open Go.RowKit Go.AM Tryz
theorem bC6:SpecOK prog 202 ((Sp.ins 68).run prog):=
 iW (e:=76) (I:=3) (B:=4) (ov:=247) (rr:=248) (fn:=Tryz.f202) (oX (fo:=Tryz.f247) (by kernel_rfl) (by kernel_rfl) (by kernel_rfl) (by kernel_rfl) (by kernel_rfl)
  (by kernel_rfl) (by kernel_rfl) (by kernel_rfl) (by kernel_rfl) (by kernel_rfl) (by kernel_rfl) (by kernel_rfl) (by kernel_rfl) (by kernel_rfl) (by kernel_rfl) (by kernel_rfl) (by kernel_rfl)) (by kernel_rfl)
theorem bC7:SpecOK prog 221 ((Sp.ins 27).run prog):=
 iW (e:=90) (I:=3) (B:=4) (ov:=256) (rr:=257) (fn:=Tryz.f221) (oX (fo:=Tryz.f256) (by kernel_rfl) (by kernel_rfl) (by kernel_rfl) (by kernel_rfl) (by kernel_rfl)
  (by kernel_rfl) (by kernel_rfl) (by kernel_rfl) (by kernel_rfl) (by kernel_rfl) (by kernel_rfl) (by kernel_rfl) (by kernel_rfl) (by kernel_rfl) (by kernel_rfl) (by kernel_rfl) (by kernel_rfl)) (by kernel_rfl)
theorem bC8:SpecOK prog 230 ((Sp.ins 28).run prog):=
 iW (e:=132) (I:=3) (B:=4) (ov:=261) (rr:=262) (fn:=Tryz.f230) (oX (fo:=Tryz.f261) (by kernel_rfl) (by kernel_rfl) (by kernel_rfl) (by kernel_rfl) (by kernel_rfl)
  (by kernel_rfl) (by kernel_rfl) (by kernel_rfl) (by kernel_rfl) (by kernel_rfl) (by kernel_rfl) (by kernel_rfl) (by kernel_rfl) (by kernel_rfl) (by kernel_rfl) (by kernel_rfl) (by kernel_rfl)) (by kernel_rfl)
theorem bC9:SpecOK prog 234 ((Sp.ins 25).run prog):=
 iW (e:=126) (I:=3) (B:=4) (ov:=264) (rr:=265) (fn:=Tryz.f234) (oX (fo:=Tryz.f264) (by kernel_rfl) (by kernel_rfl) (by kernel_rfl) (by kernel_rfl) (by kernel_rfl)
  (by kernel_rfl) (by kernel_rfl) (by kernel_rfl) (by kernel_rfl) (by kernel_rfl) (by kernel_rfl) (by kernel_rfl) (by kernel_rfl) (by kernel_rfl) (by kernel_rfl) (by kernel_rfl) (by kernel_rfl)) (by kernel_rfl)
theorem bCa:SpecOK prog 237 ((Sp.ins 24).run prog):=
 iW (e:=54) (I:=3) (B:=4) (ov:=266) (rr:=267) (fn:=Tryz.f237) (oX (fo:=Tryz.f266) (by kernel_rfl) (by kernel_rfl) (by kernel_rfl) (by kernel_rfl) (by kernel_rfl)
  (by kernel_rfl) (by kernel_rfl) (by kernel_rfl) (by kernel_rfl) (by kernel_rfl) (by kernel_rfl) (by kernel_rfl) (by kernel_rfl) (by kernel_rfl) (by kernel_rfl) (by kernel_rfl) (by kernel_rfl)) (by kernel_rfl)
theorem bCb:SpecOK prog 280 ((Sp.ins 80).run prog):=
 iW (e:=145) (I:=3) (B:=4) (ov:=288) (rr:=289) (fn:=Tryz.f280) (oX (fo:=Tryz.f288) (by kernel_rfl) (by kernel_rfl) (by kernel_rfl) (by kernel_rfl) (by kernel_rfl)
  (by kernel_rfl) (by kernel_rfl) (by kernel_rfl) (by kernel_rfl) (by kernel_rfl) (by kernel_rfl) (by kernel_rfl) (by kernel_rfl) (by kernel_rfl) (by kernel_rfl) (by kernel_rfl) (by kernel_rfl)) (by kernel_rfl)
theorem bCc:SpecOK prog 240 ((Sp.del 28).run prog):=
 aJ2 (e:=132) (I:=3) (B:=4) (fn:=Tryz.f240) (aUo (by kernel_rfl) (by kernel_rfl) (by kernel_rfl) (by kernel_rfl) (by kernel_rfl)
  (by kernel_rfl) (by kernel_rfl) (by kernel_rfl) (by kernel_rfl) (by kernel_rfl) (by kernel_rfl) (by kernel_rfl)) (by kernel_rfl)
theorem iH {P:Program} {a b:iB} (h:gH P a=true) (k:gH P b=true):gH P (a++b)=true:=by unfold gH at *;rw [List.all_append,h,k];rfl
def bIg:aEw:=[(202,.ins 68),(221,.ins 27),(230,.ins 28),(234,.ins 25),(237,.ins 24),(280,.ins 80),(240,.del 28)]
theorem aXt:SpAll prog bIg:=⟨bC6,bC7,bC8,bC9,bCa,bCb,bCc,trivial⟩
theorem aUq:aXd=aSl++(aSm++(aSn++(aSo++(aSp++(aSq++(aSr++(aSs++(aSt++(aSu++(aN5++(aN6++(aN7++(aN8++(aN9++(aNa++(aNb)))))))))))))))):=rfl
theorem aOi:gH prog aXd=true:=by
 rw [aUq]
 exact iH aQ8 (iH aQ9 (iH aQa (iH aQb (iH aQc (iH aQd (iH aQe (iH aQf (iH aQg (iH aQh (iH aLh (iH aLi (iH aLj (iH aLk (iH aLl (iH aLm (aLn))))))))))))))))
theorem aUr:aC4 (eV prog (pX prog bIg aXd) 1000 25 [] St.empty)=true:=by kernel_rfl
theorem bNt:SpecOK prog 25 (Sp.told.run prog):=aQi Tryz.func25 (by kernel_rfl) (by kernel_rfl) fun W=>aL0 (aCl (by kernel_rfl) aXt aOi) aUr W
theorem bDa:SpAll prog dSp:=⟨bC6,bC7,bC8,bC9,bCa,bCb,bCc,bNt,trivial⟩
theorem aQj:PlansOK prog uL:=aCl (by kernel_rfl) bDa aOi
end Go.Proofs.YtoaibmbldmckaaaGreat
end
section
namespace Go.Proofs.YtoaibmbldmckaaaGreat
open Go.AM Tryz
def aHs (y:Int):Bool:=if y.tmod 4=0 then (if y.tmod 100=0 then decide (y.tmod 400=0) else true) else false
def eM (y m:Int):Int:=if m=2 then (if aHs y=true then 29 else 28) else if m=4∨m=6∨m=9∨m=11 then 30 else 31
structure Date where
 y:Int
 m:Int
 d:Int
deriving DecidableEq
def Date.enc (d:Date):List V:=[.int .i64 d.y,.int .i64 d.m,.int .i64 d.d]
def Date.right (d:Date):Bool:=decide (1≤d.y)&&(decide (d.y≤9999)&&(decide (1≤d.m)&&(decide (d.m≤12)&&(decide (1≤d.d)&&decide (d.d≤eM d.y d.m)))))
def ahead (y:Int):Int:=
 wr .i64 (wr .i64 (wr .i64 (wr .i64 (365*wr .i64 (y - 1))+wr .i64 ((wr .i64 (y - 1)).tdiv 4)) - wr .i64 ((wr .i64 (y - 1)).tdiv 100))+wr .i64 ((wr .i64 (y - 1)).tdiv 400))
def gU (y:Int) (n:Int) (i:Nat):Int⊕Int:=.inr (wr .i64 (n+eM y ((i:Int)+1)))
def Date.days (d:Date):Int:=if d.right=true then wr .i64 (wr .i64 (aD (gU d.y) id (List.range (d.m - 1).toNat) (ahead d.y)+d.d) - 1) else -1
def Date.before (a b:Date):Bool:=a.right&&(b.right&&decide (a.days<b.days))
def cS (a b:Int):Int×Int:=
 if (0<b∧wr .i64 (9223372036854775807 - b)<a)∨(b<0∧a<wr .i64 (-9223372036854775808 - b)) then (0,7) else (wr .i64 (a+b),0)
def bR (a b:Int):Int×Int:=
 if (b<0∧wr .i64 (9223372036854775807+b)<a)∨(0<b∧a<wr .i64 (-9223372036854775808+b)) then (0,7) else (wr .i64 (a - b),0)
def dF (r:Int×Int):V:=.tup [.int .i64 r.1,.int .i64 r.2]
def aEh (n:Int):Int:=wr .u64 ((BitVec.ofInt IntKind.u64.bits (if IntKind.u64.signed then -1 else IntKind.u64.max) ^^^ BitVec.ofInt IntKind.u64.bits n).toNat)
def oY (n:Int):Int:=if n<0 then wr .u64 (aEh (wr .u64 n)+1) else wr .u64 n
def aBm (n:Int) (neg:Bool):Int×Bool:=
 if neg=true then (wr .i64 (wr .u64 (aEh n+1)),decide (n≤9223372036854775808)) else (wr .i64 n,decide (n≤9223372036854775807))
def aM3 (a b:Int):Int×Int:=
 if 0<oY b∧wr .u64 ((9223372036854775808:Int).tdiv (oY b))<oY a then (0,7) else
  let r:=aBm (wr .u64 (oY a*oY b)) (!(decide (a<0) == decide (b<0)))
  if r.2=true then (r.1,0) else (0,7)
def bF (n bp:Int):Int×Int:=
 if bp<0∨100000<bp then (0,1) else
  let u:=oY n
  let p:=wr .u64 bp
  let many:=wr .u64 (u.tdiv 10000)
  let rest:=u.tmod 10000
  if 0<p∧wr .u64 ((9223372036854775807:Int).tdiv p)<many then (0,7) else
   let out:=wr .u64 (wr .u64 (many*p)+wr .u64 ((wr .u64 (wr .u64 (wr .u64 (2*rest)*p)+10000)).tdiv (wr .u64 (2*10000))))
   if 9223372036854775807<out then (0,7) else if n<0 then (wr .i64 (0 - wr .i64 out),0) else (wr .i64 out,0)
theorem aD1:wr .u64 (2*10000)=20000:=by decide
theorem bDb:wr .u64 10000=10000:=by decide
def mD (r:Int):Bool:=
 if (97≤r∧r≤122)∨(65≤r∧r≤90) then true else if r=215 then false else if r=247 then false else decide (192≤r)&&decide (r≤591)
def lS (s:List UInt8):Nat→Nat→List (Nat×Nat)
 | 0,_=>[]
 | f+1,pos=>if pos<s.length then (pos,(Utf8.decode ⟨⟨s⟩⟩ pos).1)::lS s f (pos+(Utf8.decode ⟨⟨s⟩⟩ pos).2) else []
theorem aJh (s:ByteArray) (i:Nat):1≤(Utf8.decode s i).2:=by
 unfold Utf8.decode
 simp only
 repeat' split
 all_goals simp
def mW (_:Unit) (x:Nat×Nat):Bool⊕Unit:=
 if mD x.2=true then .inr () else if x.1=0 then .inl false else if (48≤x.2∧x.2≤57)∨x.2=45∨x.2=95∨x.2=46 then .inr () else .inl false
def cW (s:List UInt8):Bool:=if s.length<1 then false else if 24<s.length then false else aD mW (fun _=>true) (lS s s.length 0) ()
structure Rate where
 cat:List UInt8
 day:Date
 bp:Int
deriving DecidableEq
def Rate.enc (r:Rate):List V:=[.str r.cat,.int .i64 r.day.y,.int .i64 r.day.m,.int .i64 r.day.d,.int .i64 r.bp]
def rS (r:Rate):Int:=if cW r.cat=false then 8 else if r.day.right=false then 9 else if r.bp<0 then 10 else if 100000<r.bp then 10 else 0
def eH (a b:Rate):Bool:=if fN a.cat b.cat=true then true else if (a.cat == b.cat)=true then a.day.before b.day else false
def fH (prev:Option Rate) (r:Rate):Bool⊕Option Rate:=
 if rS r≠0 then .inl false else match prev with
  | none=>.inr (some r)
  | some p=>if eH p r=true then .inr (some r) else .inl false
def dW (l:List Rate):Bool:=if 24<l.length then false else aD fH (fun _=>true) l none
def bX {α:Type} (l:List α) (i:Nat):Option α:=if i=0 then none else l[i - 1]?
structure Rep where
 why:Int
 number:Int
 gross:Int
deriving DecidableEq
structure Sess where
 id:Int
 last:Int
 reply:Rep
deriving DecidableEq
def Rep.enc (r:Rep):List V:=[.int .i64 r.why,.int .i64 r.number,.int .i64 r.gross]
def Sess.enc (s:Sess):List V:=[.int .i64 s.id,.int .i64 s.last,.int .i64 s.reply.why,.int .i64 s.reply.number,.int .i64 s.reply.gross]
def Rep.zero:Rep:=⟨0,0,0⟩
def eN (last:Int) (s:Sess):Bool⊕Int:=
 if s.id≤last then .inl false else if s.last<0 then .inl false else if 1099511627776<s.last then .inl false else if s.last=0∧s.reply≠Rep.zero then .inl false else .inr s.id
def eO (l:List Sess):Bool:=if 8<l.length then false else aD eN (fun _=>true) l 0
def cU {α:Type} (p:α→Bool) (n:Nat) (a:α):Int⊕Nat:=if p a=true then .inl (n:Int) else .inr (n+1)
def ixM {α:Type} (p:α→Bool) (l:List α):Int:=aD (cU p) (fun _=>-1) l 0
theorem aFk {α:Type} (p:α→Bool):∀ (l:List α) (n:Nat),(aD (cU p) (fun _=>-1) l n=-1)∨∃ (i:Nat) (a:α),aD (cU p) (fun _=>-1) l n=((n+i:Nat):Int)∧l[i]?=some a∧p a=true
 | [],n=>.inl rfl
 | a::l,n=>by
  by_cases h:p a=true
  ·refine .inr ⟨0,a,?_,rfl,h⟩
   simp [aD,cU,h]
  ·rcases aFk p l (n+1) with h1 | ⟨i,b,h1,h2,h3⟩
   ·left;simp [aD,cU,h,h1]
   ·right
    refine ⟨i+1,b,?_,by simpa using h2,h3⟩
    simp only [aD,cU,h,if_false]
    simp only [h1,Bool.false_eq_true,if_false]
    omega
theorem gV {α:Type} (p:α→Bool) (l:List α):(ixM p l=-1)∨∃ (i:Nat) (a:α),ixM p l=(i:Int)∧l[i]?=some a∧p a=true:=by
 rcases aFk p l 0 with h | ⟨i,a,h1,h2,h3⟩
 ·exact .inl h
 ·exact .inr ⟨i,a,by rw [ixM,h1];simp,h2,h3⟩
def gL (l:List Sess) (id:Int):Int:=ixM (fun s:Sess=>decide (s.id=id)) l
def cB (l:List Sess) (id seq:Int):Rep×Bool×Int:=
 if eO l=false then (Rep.zero,false,1) else if gL l id<0 then (Rep.zero,false,15) else if seq<1∨1099511627776<seq then (Rep.zero,false,1) else
  match l[(gL l id).toNat]? with
  | none=>(Rep.zero,false,1)
  | some s=>if seq=s.last then (s.reply,true,0) else if seq<s.last then (Rep.zero,false,16) else (Rep.zero,false,0)
theorem kI {l:List Sess} (h:eO l=true):l.length≤8:=by
 unfold eO at h
 split at h
 ·cases h
 ·omega
theorem jM (l:List Sess) (id:Int):gL l id=-1∨∃ (i:Nat) (s:Sess),gL l id=(i:Int)∧l[i]?=some s∧s.id=id:=by
 rcases gV (fun s:Sess=>decide (s.id=id)) l with h | ⟨i,s,h1,h2,h3⟩
 ·exact .inl h
 ·exact .inr ⟨i,s,h1,h2,of_decide_eq_true h3⟩
def eP {α:Type} (p:α→Bool) (n:Nat) (a:α):Nat⊕Nat:=if p a=true then .inr (n+1) else .inl n
def mX {α:Type} (p:α→Bool) (l:List α):Nat:=aD (eP p) id l 0
theorem aFl {α:Type} (p:α→Bool):∀ (l:List α) (n:Nat),aD (eP p) id l n≤n+l.length
 | [],n=>by simp [aD]
 | a::l,n=>by
  have ih:=aFl p l (n+1)
  by_cases h:p a=true
  ·simp only [aD,eP,h,if_true,List.length_cons];omega
  ·simp only [aD,eP,h,if_false,List.length_cons,Bool.false_eq_true];omega
theorem aBn {α:Type} (p:α→Bool) (l:List α):mX p l≤l.length:=by have:=aFl p l 0;simp only [mX];omega
def eG {α:Type} (l:List α) (i:Nat) (a:α):List α:=l.take i++a::l.drop i
theorem pA {α β:Type} (f:α→β) (l:List α) (i:Nat) (a:α):(eG l i a).map f=(l.map f).take i++f a::(l.map f).drop i:=by simp [eG,List.map_take,List.map_drop]
def lT (l:List Sess) (id:Int):List Sess×Int:=
 if eO l=false∨id<1 then ([],1) else if 0≤gL l id then ([],12) else if 8≤l.length then ([],14) else (eG l (mX (fun s=>decide (s.id<id)) l) ⟨id,0,Rep.zero⟩,0)
def vT {α:Type} (l:List α) (i:Nat):List α:=l.take i++l.drop (i+1)
theorem aM4 {α β:Type} (f:α→β) (l:List α) (i:Nat):(vT l i).map f=(l.map f).take i++(l.map f).drop (i+1):=by simp [vT,List.map_take,List.map_drop]
def gC (l:List Sess) (id:Int):List Sess×Int:=
 if eO l=false then ([],1) else if gL l id<0 then ([],11) else (vT l (gL l id).toNat,0)
def jZ (l:List Sess) (id seq:Int) (r:Rep):List Sess×Int:=
 if (cB l id seq).2.2≠0 then ([],(cB l id seq).2.2) else if (cB l id seq).2.1=true then ([],12) else
  match l[(gL l id).toNat]? with
  | none=>([],0)
  | some s=>(l.set (gL l id).toNat ⟨s.id,seq,r⟩,0)
theorem aD2 {l:List Sess} {id seq:Int} (h:(cB l id seq).2.2=0):eO l=true∧∃ (i:Nat) (s:Sess),gL l id=(i:Int)∧l[i]?=some s:=by
 unfold cB at h
 split at h
 ·cases h
 ·rename_i hr
  have hr:eO l=true:=by simpa using hr
  split at h
  ·cases h
  ·rcases jM l id with h' | ⟨i,s,h1,h2,_⟩
   ·omega
   ·exact ⟨hr,i,s,h1,h2⟩
structure Ser where
 name:List UInt8
 next:Int
 limit:Int
 shut:Bool
deriving DecidableEq
def Ser.enc (s:Ser):List V:=[.str s.name,.int .i64 s.next,.int .i64 s.limit,.bool s.shut]
def dE (l:List Ser) (name:List UInt8):Int:=ixM (fun s:Ser=>s.name == name) l
theorem lA (l:List Ser) (name:List UInt8):dE l name=-1∨∃ (i:Nat) (s:Ser),dE l name=(i:Int)∧l[i]?=some s∧s.name=name:=by
 rcases gV (fun s:Ser=>s.name == name) l with h | ⟨i,s,h1,h2,h3⟩
 ·exact .inl h
 ·exact .inr ⟨i,s,h1,h2,by simpa using h3⟩
def kJ (s:Ser):Bool:=decide (s.limit<1)||(decide (1099511627776<s.limit)||(decide (s.next<1)||decide (wr .i64 (s.limit+1)<s.next)))
def lB (prev:Option Ser) (s:Ser):Bool:=match prev with
 | none=>false
 | some p=>!fN p.name s.name
def jN (prev:Option Ser) (s:Ser):Bool⊕Option Ser:=
 if cW s.name=false then .inl false else if lB prev s=true then .inl false else if kJ s=true then .inl false else .inr (some s)
def kK (l:List Ser):Bool:=if 8<l.length then false else aD jN (fun _=>true) l none
theorem mY {l:List Ser} (h:kK l=true):l.length≤8:=by
 unfold kK at h
 split at h
 ·cases h
 ·omega
def iK (l:List Ser) (name:List UInt8):Int×Int:=
 if kK l=false then (0,1) else if dE l name<0 then (0,11) else match l[(dE l name).toNat]? with
  | none=>(0,1)
  | some s=>if s.shut=true then (0,13) else (dE l name,0)
theorem yK {l:List Ser} {name:List UInt8} (h:(iK l name).2=0):kK l=true∧∃ (i:Nat) (s:Ser),iK l name=((i:Int),0)∧dE l name=(i:Int)∧l[i]?=some s∧s.name=name∧s.shut=false:=by
 unfold iK at h
 split at h
 ·cases h
 ·rename_i hr
  have hr:kK l=true:=by simpa using hr
  split at h
  ·cases h
  ·rename_i h11
   rcases lA l name with h' | ⟨i,s,h1,h2,h3⟩
   ·omega
   ·rw [h1] at h
    simp only [Int.toNat_natCast,h2] at h
    split at h
    ·cases h
    ·rename_i hsh
     refine ⟨hr,i,s,?_,h1,h2,h3,by simpa using hsh⟩
     unfold iK
     rw [if_neg (by rw [hr];simp),if_neg h11,h1]
     simp only [Int.toNat_natCast,h2,if_neg hsh]
def pB (l:List Ser) (name:List UInt8):List Ser×Int:=
 if (iK l name).2≠0 then ([],(iK l name).2) else match l[(iK l name).1.toNat]? with
  | none=>([],0)
  | some s=>(l.set (iK l name).1.toNat { s with shut:=true },0)
def cJ (l:List Ser) (name:List UInt8):List Ser×Int×Int:=
 if (iK l name).2≠0 then ([],0,(iK l name).2) else match l[(iK l name).1.toNat]? with
  | none=>([],0,0)
  | some s=>if s.limit<s.next then ([],0,14) else (l.set (iK l name).1.toNat { s with next:=wr .i64 (s.next+1) },s.next,0)
def eZ (l:List Ser) (name:List UInt8) (limit:Int):List Ser×Int:=
 if kK l=false then ([],1) else if cW name=false then ([],8) else if limit<1∨1099511627776<limit then ([],1) else if 0≤dE l name then ([],12) else if 8≤l.length then ([],14) else
  (eG l (mX (fun s=>fN s.name name) l) ⟨name,1,limit,false⟩,0)
def Ser.zero:Ser:=⟨[],0,0,false⟩
def kP (l:List Ser) (name:List UInt8):Ser×Bool:=match (if dE l name<0 then none else l[(dE l name).toNat]?) with
 | none=>(Ser.zero,false)
 | some s=>(s,true)
def jO (cat:List UInt8) (d:Date) (st:Int×Bool) (r:Rate):(Int×Bool)⊕(Int×Bool):=.inr (if (r.cat == cat)=true∧d.before r.day=false then (r.bp,true) else st)
def iL (l:List Rate) (cat:List UInt8) (d:Date):Int×Bool:=if dW l=false then (0,false) else if d.right=false then (0,false) else aD (jO cat d) id l (0,false)
theorem vU {l:List Rate} (h:dW l=true):l.length≤24:=by
 unfold dW at h
 split at h
 ·cases h
 ·omega
def kQ (r:Rate) (k:Nat) (x:Rate):Option Nat⊕Nat:=
 if (x.cat == r.cat)=true∧x.day=r.day then .inl none else .inr (if eH x r=true then k+1 else k)
def gW (l:List Rate) (r:Rate):List Rate×Int:=
 if dW l=false then ([],1) else if rS r≠0 then ([],rS r) else match aD (kQ r) some l 0 with
  | none=>([],12)
  | some k=>if 24≤l.length then ([],2) else (eG l k r,0)
structure Bal where
 acc:List UInt8
 amount:Int
deriving DecidableEq
def Bal.enc (b:Bal):List V:=[.str b.acc,.int .i64 b.amount]
structure Part where
 cat:List UInt8
 bp:Int
 net:Int
 tax:Int
deriving DecidableEq
def Part.enc (p:Part):List V:=[.str p.cat,.int .i64 p.bp,.int .i64 p.net,.int .i64 p.tax]
structure Total where
 net:Int
 tax:Int
 gross:Int
 parts:List Part
deriving DecidableEq
def sP (prev:Option Bal) (b:Bal):Bool⊕Option Bal:=match prev with
 | none=>.inl false
 | some p=>if fN p.acc b.acc=true then .inr (some b) else .inl false
def uY (l:List Bal):Bool:=aD sP (fun _=>true) (l.drop 1) l[0]?
def vV:List UInt8:=[110,101,116,47]
def vW:List UInt8:=[116,97,120,47]
def iN (l:List Bal) (p:Part):(List Bal×Int)⊕List Bal:=
 if (bR 0 p.net).2≠0 then .inl ([],7) else if (bR 0 p.tax).2≠0 then .inl ([],7) else .inr (l++[⟨vV++p.cat,(bR 0 p.net).1⟩,⟨vW++p.cat,(bR 0 p.tax).1⟩])
def cC (t:Total):List Bal×Int:=aD iN (fun l=>(l,0)) t.parts [⟨[111,119,101,100],t.gross⟩]
theorem aJi:∀ (l:List Part) (a:List Bal) (r:List Bal×Int),aD iN (fun l=>(l,0)) l a=r→r.2=0→r.1.length=a.length+2*l.length
 | [],a,r,h,_=>by subst h;simp [aD]
 | p::l,a,r,h,h0=>by
  simp only [aD,iN] at h
  split at h
  ·rename_i r' he
   split at he
   ·cases he;subst h;cases h0
   ·split at he
    ·cases he;subst h;cases h0
    ·cases he
  ·rename_i s' he
   split at he
   ·cases he
   ·split at he
    ·cases he
    ·cases he
     have:=aJi l _ r h h0
     simp only [List.length_append,List.length_cons,List.length_nil] at this ⊢
     omega
theorem aFm {α:Type} (l:List α) (i:Nat) (a:α) (h:i≤l.length):(eG l i a)[i]?=some a:=by
 unfold eG
 rw [List.getElem?_append_right (by rw [List.length_take];omega),List.length_take,Nat.min_eq_left h,Nat.sub_self]
 rfl
theorem mM {α:Type} (l:List α) (i:Nat) (a:α) (h:i≤l.length):(eG l i a).length=l.length+1:=by
 simp only [eG,List.length_append,List.length_take,List.length_cons,List.length_drop];omega
def aI (l:List Bal) (acc:List UInt8):Nat:=mX (fun b=>fN b.acc acc) l
def fA (l:List Bal) (acc:List UInt8):Bool:=match l[aI l acc]? with
 | none=>true
 | some b=>!(b.acc == acc)
def bI (l:List Bal) (acc:List UInt8):List Bal:=if fA l acc=true then eG l (aI l acc) ⟨acc,0⟩ else l
def bD (l:List Bal) (x:Bal):(List Bal×Int)⊕List Bal:=match (bI l x.acc)[aI l x.acc]? with
 | none=>.inl ([],0)
 | some b=>if (cS b.amount x.amount).2≠0 then .inl ([],(cS b.amount x.amount).2) else .inr ((bI l x.acc).set (aI l x.acc) ⟨b.acc,(cS b.amount x.amount).1⟩)
def bC (book l:List Bal):List Bal×Int:=if uY book=false then ([],1) else aD bD (fun l=>(l,0)) l book
theorem nU (l:List Bal) (acc:List UInt8):aI l acc≤l.length:=aBn _ _
theorem nV (l:List Bal) (acc:List UInt8):∃ b,(bI l acc)[aI l acc]?=some b:=by
 unfold bI
 split
 ·exact ⟨_,aFm _ _ _ (nU l acc)⟩
 ·rename_i h
  unfold fA at h
  split at h
  ·exact absurd rfl h
  ·rename_i b hb;exact ⟨b,hb⟩
theorem aAi (l:List Bal) (acc:List UInt8):(bI l acc).length≤l.length+1:=by
 unfold bI
 split
 ·rw [mM _ _ _ (nU l acc)];exact Nat.le_refl _
 ·omega
theorem qO (l:List Bal) (x:Bal):bD l x=if (cS ((bI l x.acc)[aI l x.acc]?.map (·.amount) |>.getD 0) x.amount).2≠0 then .inl ([],(cS ((bI l x.acc)[aI l x.acc]?.map (·.amount) |>.getD 0) x.amount).2)
  else .inr ((bI l x.acc).set (aI l x.acc) ⟨((bI l x.acc)[aI l x.acc]?.map (·.acc) |>.getD []),(cS ((bI l x.acc)[aI l x.acc]?.map (·.amount) |>.getD 0) x.amount).1⟩):=by
 obtain ⟨b,hb⟩:=nV l x.acc
 unfold bD
 simp only [hb,Option.map_some,Option.getD_some]
theorem aEj {l l':List Bal} {x:Bal} (h:bD l x=.inr l'):l'.length≤l.length+1:=by
 rw [qO] at h
 split at h
 ·cases h
 ·cases h
  rw [List.length_set]
  exact aAi l x.acc
theorem aD3:∀ (l:List Bal) (a:List Bal) (r:List Bal×Int),aD bD (fun l=>(l,0)) l a=r→r.1.length≤a.length+l.length
 | [],a,r,h=>by subst h;simp [aD]
 | x::l,a,r,h=>by
  simp only [aD] at h
  split at h
  ·rename_i r' he
   subst h
   rw [qO] at he
   split at he
   ·cases he;simp
   ·cases he
  ·rename_i s' he
   have h1:=aEj he
   have:=aD3 l _ r h
   simp only [List.length_cons]
   omega
def cD (n:Int):List V:=[.int .i64 n]
theorem aQk (n:Int):0≤wr .u64 n∧wr .u64 n<18446744073709551616:=by
 unfold wr lo hi
 simp only
 split
 ·omega
 ·show 0≤n % 18446744073709551616∧n % 18446744073709551616<18446744073709551616
  omega
theorem bIh:aEh 0=18446744073709551615:=by decide
def tW (st:Int×Int) (n:Int):(Int×Bool)⊕(Int×Int):=
 .inr ((st.1+(if n<0 then 18446744073709551615 else 0)+(st.2+wr .u64 n+0) / 18446744073709551616) % 18446744073709551616,(st.2+wr .u64 n+0) % 18446744073709551616)
def sQ (st:Int×Int):Int×Bool:=(wr .i64 st.2,if st.2.fdiv (2 ^ 63)=0 then decide (st.1=0) else decide (st.1=18446744073709551615))
def dO (l:List Int):Int×Bool:=aD tW sQ l (0,0)
structure Line where
 text:List UInt8
 cat:List UInt8
 count:Int
 price:Int
deriving DecidableEq
def Line.enc (l:Line):List V:=[.str l.text,.str l.cat,.int .i64 l.count,.int .i64 l.price]
def fI (tab:List Rate) (d:Date) (l:Line):Int×Int×Int:=
 if 64<l.text.length then (0,0,2) else if cW l.cat=false then (0,0,8) else if l.count<1∨1048576<l.count then (0,0,1) else
  if (iL tab l.cat d).2=false then (0,0,10) else ((iL tab l.cat d).1,(aM3 l.count l.price).1,(aM3 l.count l.price).2)
def aUs (r:Int×Int×Int):V:=.tup [.int .i64 r.1,.int .i64 r.2.1,.int .i64 r.2.2]
def bK (l:List Part) (cat:List UInt8):Nat:=mX (fun p=>fN p.cat cat) l
def jP (l:List Part) (cat:List UInt8):Bool:=match l[bK l cat]? with
 | none=>true
 | some b=>!(b.cat == cat)
def dC (l:List Part) (cat:List UInt8) (bp:Int):List Part:=if jP l cat=true then eG l (bK l cat) ⟨cat,bp,0,0⟩ else l
def rT (l:List Part) (cat:List UInt8) (bp n:Int):List Part×Int:=match (dC l cat bp)[bK l cat]? with
 | none=>([],0)
 | some p=>((dC l cat bp).set (bK l cat) { p with net:=(cS p.net n).1 },(cS p.net n).2)
theorem qR (l:List Part) (cat:List UInt8):bK l cat≤l.length:=aBn _ _
theorem qT (l:List Part) (cat:List UInt8) (bp:Int):∃ b,(dC l cat bp)[bK l cat]?=some b:=by
 unfold dC
 split
 ·exact ⟨_,aFm _ _ _ (qR l cat)⟩
 ·rename_i h
  unfold jP at h
  split at h
  ·exact absurd rfl h
  ·rename_i b hb;exact ⟨b,hb⟩
theorem aHt (l:List Part) (cat:List UInt8) (bp:Int):(dC l cat bp).length≤l.length+1:=by
 unfold dC
 split
 ·rw [mM _ _ _ (qR l cat)];exact Nat.le_refl _
 ·omega
theorem aJj (l:List Part) (cat:List UInt8) (bp n:Int):(rT l cat bp n).1.length≤l.length+1:=by
 obtain ⟨b,hb⟩:=qT l cat bp
 unfold rT
 rw [hb]
 simp only [List.length_set]
 exact aHt l cat bp
def Total.zero:Total:=⟨0,0,0,[]⟩
def gA (st:Int×Int×List Part) (p:Part):(Total×Int)⊕(Int×Int×List Part):=
 if (bF p.net p.bp).2≠0∨(cS st.1 p.net).2≠0∨(cS st.2.1 (bF p.net p.bp).1).2≠0 then .inl (Total.zero,7) else
  .inr ((cS st.1 p.net).1,(cS st.2.1 (bF p.net p.bp).1).1,st.2.2++[{ p with tax:=(bF p.net p.bp).1 }])
def lC (st:Int×Int×List Part):Total×Int:=
 if (cS st.1 st.2.1).2≠0 then (Total.zero,(cS st.1 st.2.1).2) else (⟨st.1,st.2.1,(cS st.1 st.2.1).1,st.2.2⟩,0)
def eT (l:List Part):Total×Int:=aD gA lC l (0,0,[])
def iO (tab:List Rate) (d:Date) (parts:List Part) (l:Line):(Total×Int)⊕List Part:=
 if (fI tab d l).2.2≠0 then .inl (Total.zero,(fI tab d l).2.2) else
  if (rT parts l.cat (fI tab d l).1 (fI tab d l).2.1).2≠0 then .inl (Total.zero,(rT parts l.cat (fI tab d l).1 (fI tab d l).2.1).2) else
   .inr (rT parts l.cat (fI tab d l).1 (fI tab d l).2.1).1
def cZ (tab:List Rate) (d:Date) (lines:List Line):Total×Int:=
 if dW tab=false then (Total.zero,1) else if d.right=false then (Total.zero,9) else if lines.length=0 then (Total.zero,1) else if 12<lines.length then (Total.zero,2) else
  aD (iO tab d) eT lines []
def pC (n:Int):V:=.int .i64 n
def nW (done:List Int) (x:Int):(List Int×Int)⊕List Int:=if (bR 0 x).2≠0 then .inl ([],(bR 0 x).2) else .inr (done++[(bR 0 x).1])
def fJ (l:List Int):List Int×Int:=aD nW (fun l=>(l,0)) l []
def cX (acc:List Part) (p:Part):(List Part×Int)⊕List Part:=
 if (fJ [p.net,p.tax]).2≠0 then .inl ([],(fJ [p.net,p.tax]).2) else .inr (acc++[{ p with net:=(fJ [p.net,p.tax]).1.getD 0 0,tax:=(fJ [p.net,p.tax]).1.getD 1 0 }])
def aV (t:Total):Total×Int:=
 if (fJ [t.net,t.tax,t.gross]).2≠0 then (Total.zero,(fJ [t.net,t.tax,t.gross]).2) else
  if (aD cX (fun l=>(l,0)) t.parts []).2≠0 then (Total.zero,(aD cX (fun l=>(l,0)) t.parts []).2) else
   (⟨(fJ [t.net,t.tax,t.gross]).1.getD 0 0,(fJ [t.net,t.tax,t.gross]).1.getD 1 0,(fJ [t.net,t.tax,t.gross]).1.getD 2 0,(aD cX (fun l=>(l,0)) t.parts []).1⟩,0)
structure Ref where
 ser:List UInt8
 num:Int
deriving DecidableEq
def Ref.enc (r:Ref):List V:=[.str r.ser,.int .i64 r.num]
def Ref.zero:Ref:=⟨[],0⟩
structure Posted where
 ref:Ref
 day:Date
 total:Total
 of:Ref
 back:Bool
deriving DecidableEq
def Posted.cells (p:Posted) (pv:V):List V:=[.str p.ref.ser,.int .i64 p.ref.num,.int .i64 p.day.y,.int .i64 p.day.m,.int .i64 p.day.d,.int .i64 p.total.net,.int .i64 p.total.tax,.int .i64 p.total.gross,pv,.str p.of.ser,.int .i64 p.of.num,.bool p.back]
theorem aXu {α β:Type} (f:α→β) (p:β→Bool) (l:List α):ixM (fun a=>p (f a)) l=ixM p (l.map f):=by
 have:∀ (l:List α) (n:Nat),aD (cU fun a=>p (f a)) (fun _=>(-1:Int)) l n=aD (cU p) (fun _=>-1) (l.map f) n:=by
  intro l
  induction l with
  | nil=>intro n;rfl
  | cons a l ih=>
   intro n
   simp only [aD,List.map_cons,cU]
   by_cases h:p (f a)=true
   ·simp only [h,if_true]
   ·simp only [h,if_false]
    exact ih (n+1)
 exact this l 0
def aX (l:List Posted) (r:Ref):Int:=ixM (fun p:Posted=>decide (p.ref=r)) l
theorem mE (l:List Posted) (r:Ref):aX l r=-1∨∃ (i:Nat) (s:Posted),aX l r=(i:Int)∧l[i]?=some s∧s.ref=r:=by
 rcases gV (fun p:Posted=>decide (p.ref=r)) l with h | ⟨i,s,h1,h2,h3⟩
 ·exact .inl h
 ·exact .inr ⟨i,s,h1,h2,by simpa using h3⟩
def kL {α:Type} [DecidableEq α] (r:List α) (n:Nat) (a:α):Bool⊕Nat:=if r[n]?=some a then .inr (n+1) else .inl false
theorem eqL {α:Type} [DecidableEq α] {l r:List α} (h:l.length=r.length):aD (kL r) (fun _=>true) l 0=decide (l=r):=by
 have:∀ (l t r:List α),l.length=(r.drop t.length).length→r.take t.length=t→aD (kL r) (fun _=>true) l t.length=decide (l=r.drop t.length):=by
  intro l
  induction l with
  | nil=>
   intro t r h1 h2
   have:r.drop t.length=[]:=List.length_eq_zero_iff.1 h1.symm
   rw [this];rfl
  | cons a l ih=>
   intro t r h1 h2
   have hlt:t.length<r.length:=by rw [List.length_drop] at h1;simp only [List.length_cons] at h1;omega
   rw [List.drop_eq_getElem_cons hlt]
   simp only [aD,kL,List.getElem?_eq_getElem hlt]
   by_cases c:r[t.length]=a
   ·have e1:(t++[a]).length=t.length+1:=by simp
    have:=ih (t++[a]) r (by rw [e1];rw [List.length_drop] at h1 ⊢;simp only [List.length_cons] at h1;omega) (by rw [e1,List.take_succ_eq_append_getElem hlt,h2,c])
    rw [e1] at this
    simp only [c,if_true]
    rw [this]
    by_cases d:l=r.drop (t.length+1)<;>simp [d]
   ·have c':¬ (some r[t.length]=some a):=fun e=>c (Option.some.inj e)
    simp only [c',if_false]
    rw [eq_comm,decide_eq_false_iff_not]
    intro e
    exact c (List.cons.inj e).1.symm
 have:=this l [] r (by simpa using h) rfl
 simpa using this
def blkOf:V→Option Nat
 | .sl a _ _ _ _=>some a
 | _=>none
def iD (t:Total):Bool:=
 if (dO (t.parts.map (·.net))).2=true then (if (dO (t.parts.map (·.tax))).2=true then (if (dO [t.net,t.tax]).2=true then
  (if (dO (t.parts.map (·.net))).1=t.net then (if (dO (t.parts.map (·.tax))).1=t.tax then decide ((dO [t.net,t.tax]).1=t.gross) else false) else false) else false) else false) else false
def tX (st:List Int×List Int) (p:Part):(List Int×List Int)⊕(List Int×List Int):=.inr (st.1++[p.net],st.2++[p.tax])
theorem bDc:∀ (l:List Part) (a b:List Int),aD tX id l (a,b)=(a++l.map (·.net),b++l.map (·.tax))
 | [],a,b=>by simp [aD]
 | p::l,a,b=>by simp only [aD,tX];rw [bDc l];simp
def gB (prev:Option Part) (s:Part):Bool:=match prev with
 | none=>false
 | some p=>!fN p.cat s.cat
def tY (s:Part):Bool:=decide (s.bp<0)||decide (100000<s.bp)
def tZ (s:Part):Bool:=!decide ((bF s.net s.bp).2=0)||!decide ((bF s.net s.bp).1=s.tax)
def cE (prev:Option Part) (s:Part):Bool⊕Option Part:=
 if cW s.cat=false then .inl false else if gB prev s=true then .inl false else if tY s=true then .inl false else if tZ s=true then .inl false else .inr (some s)
def bU (t:Total):Bool:=if t.parts.length<1 then false else if 12<t.parts.length then false else aD cE (fun _=>iD t) t.parts none
def jQ (p fr:Posted):Bool:=if fr.of=Ref.zero then (if p.day.before fr.day=false then (if (aV fr.total).2=0 then decide ((aV fr.total).1=p.total) else false) else false) else false
theorem aFn:∀ (l a:List Part) (r:List Part×Int),aD cX (fun l=>(l,0)) l a=r→r.1.length≤a.length+l.length
 | [],a,r,h=>by subst h;simp [aD]
 | x::l,a,r,h=>by
  simp only [aD] at h
  split at h
  ·rename_i r' he
   subst h
   unfold cX at he
   split at he
   ·cases he;simp
   ·cases he
  ·rename_i a' he
   unfold cX at he
   split at he
   ·cases he
   ·cases he
    have:=aFn l _ r h
    simp only [List.length_append,List.length_cons,List.length_nil] at this ⊢
    omega
theorem uA (t:Total):(aV t).1.parts.length≤t.parts.length:=by
 unfold aV
 split
 ·simp [Total.zero]
 ·split
  ·simp [Total.zero]
  ·have:=aFn t.parts [] _ rfl
   simpa using this
def bG (book:List Bal) (p:Posted):(List Bal×Int)⊕List Bal:=
 if (cC p.total).2≠0 then .inl ([],(cC p.total).2) else if (bC book (cC p.total).1).2≠0 then .inl ([],(bC book (cC p.total).1).2) else .inr (bC book (cC p.total).1).1
def dQ (l:List Posted):List Bal×Int:=aD bG (fun b=>(b,0)) l []
theorem qU (book l:List Bal):(bC book l).1.length≤book.length+l.length:=by
 unfold bC
 split
 ·simp
 ·exact aD3 l book _ rfl
theorem sR (t:Total):(cC t).1.length≤1+2*t.parts.length∨(cC t).2≠0:=by
 by_cases h:(cC t).2=0
 ·exact .inl (by have:=aJi t.parts _ _ rfl h;simp only [List.length_cons,List.length_nil] at this;unfold cC;omega)
 ·exact .inr h
def yL:List V:=[.str [],.int .i64 0,.int .i64 0,.int .i64 0,.int .i64 0,.int .i64 0,.int .i64 0,.int .i64 0,.nils,.str [],.int .i64 0,.bool false]
def Fit (p:Posted):Prop:=p.total.parts.length≤12∧∀ q∈p.total.parts,q.cat.length≤1000000
def bump (l:List Int) (k:Nat):List Int:=l.set k (l.getD k 0+1)
def fZ (st:List Posted×List Int) (p:Posted):Bool⊕(List Posted×List Int):=
 if p.day.right=false then .inl false else if bU p.total=false then .inl false else if p.of=Ref.zero then .inr (st.1++[p],st.2) else
  if aX st.1 p.of<0 then .inl false else if jQ p (st.1.getD (aX st.1 p.of).toNat ⟨Ref.zero,⟨0,0,0⟩,Total.zero,Ref.zero,false⟩)=false then .inl false else
   .inr (st.1++[p],bump st.2 (aX st.1 p.of).toNat)
def gX (bs:List Int) (p:Posted):Bool⊕List Int:=if 1<bs.headD 0 then .inl false else if p.back=decide (bs.headD 0=1) then .inr bs.tail else .inl false
def iP (l:List Posted):Bool:=if 40<l.length then false else aD fZ (fun st=>aD gX (fun _=>true) l st.2) l ([],List.replicate 40 0)
theorem nX {t:Total} (h:bU t=true):t.parts.length≤12:=by
 unfold bU at h
 split at h
 ·cases h
 ·split at h
  ·cases h
  ·omega
theorem yM (l:List Int) (k:Nat) (h:k<l.length):l.getD k 0=l[k]:=by rw [List.getD_eq_getElem?_getD,List.getElem?_eq_getElem h];rfl
structure State where
 table:List Rate
 ser:List Ser
 posted:List Posted
 book:List Bal
 sess:List Sess
 next:Int
deriving DecidableEq
def kR (ser:List Ser) (is:List Int) (p:Posted):Bool⊕List Int:=
 if dE ser p.ref.ser<0 then .inl false else if p.ref.num=(bump is (dE ser p.ref.ser).toNat).getD (dE ser p.ref.ser).toNat 0 then .inr (bump is (dE ser p.ref.ser).toNat) else .inl false
def jR (is:List Int) (s:Ser):Bool⊕List Int:=if s.next=is.headD 0+1 then .inr is.tail else .inl false
def mZ (ser:List Ser) (l:List Posted):Bool:=aD (kR ser) (fun is=>aD jR (fun _=>true) ser is) l (List.replicate 8 0)
theorem yN (l:List Int) (k:Nat):(bump l k).length=l.length:=List.length_set ..
theorem aUt (l:List Int) (k:Nat) (h:k<l.length):(bump l k).getD k 0=l[k]+1:=by
 rw [List.getD_eq_getElem?_getD,bump,List.getElem?_set_self h,yM l k h];rfl
def qV (l:List Sess) (next:Int):Bool:=match l[l.length - 1]? with
 | none=>true
 | some s=>decide (s.id<next)
def gY (s:State):Bool:=if eO s.sess=true then (if 1≤s.next then (if s.next≤1099511627776 then qV s.sess s.next else false) else false) else false
theorem aD4 {σ α:Type} {step:σ→α→Bool⊕σ} {fin:σ→Bool} (hs:∀ s a r,step s a=.inl r→r=false):∀ (l:List α) (s:σ),aD step fin l s=true→∀ a∈l,∃ s s',step s a=.inr s'
 | [],s,h,a,ha=>by cases ha
 | b::l,s,h,a,ha=>by
  simp only [aD] at h
  split at h
  ·rename_i r he
   have:=hs s b r he
   rw [this] at h;cases h
  ·rename_i s' he
   rcases List.mem_cons.1 ha with rfl | ha
   ·exact ⟨s,s',he⟩
   ·exact aD4 hs l s' h a ha
theorem uC {s:List UInt8} (h:cW s=true):s.length≤24:=by
 unfold cW at h
 split at h
 ·cases h
 ·split at h
  ·cases h
  ·omega
theorem aHu {t:Total} (h:bU t=true):∀ q∈t.parts,cW q.cat=true:=by
 unfold bU at h
 split at h
 ·cases h
 ·split at h
  ·cases h
  ·intro q hq
   obtain ⟨s,s',he⟩:=aD4 (fun s a r hr=>by
    unfold cE at hr
    repeat' split at hr
    all_goals cases hr
    all_goals rfl) t.parts none h q hq
   unfold cE at he
   split at he
   ·cases he
   ·rename_i hn;simpa using hn
theorem sS {p:Posted} (h:bU p.total=true):Fit p:=⟨nX h,fun q hq=>by have:=uC (aHu h q hq);omega⟩
theorem vX {l:List Posted} (h:iP l=true):l.length≤40∧∀ p∈l,p.day.right=true∧bU p.total=true:=by
 unfold iP at h
 split at h
 ·cases h
 ·refine ⟨by omega,fun p hp=>?_⟩
  obtain ⟨s,s',he⟩:=aD4 (fun s a r hr=>by
   unfold fZ at hr
   repeat' split at hr
   all_goals cases hr
   all_goals rfl) l _ h p hp
  unfold fZ at he
  split at he
  ·cases he
  ·rename_i h1
   split at he
   ·cases he
   ·rename_i h2
    exact ⟨by simpa using h1,by simpa using h2⟩
def bB (s:State):Bool:=if dW s.table=false then false else if kK s.ser=false then false else if gY s=false then false else if iP s.posted=false then false else
 if mZ s.ser s.posted=false then false else if (dQ s.posted).2=0 then decide ((dQ s.posted).1=s.book) else false
theorem sT:∀ (l:List Posted) (a:List Bal) (r:List Bal×Int),(∀ p∈l,p.total.parts.length≤12)→aD bG (fun b=>(b,0)) l a=r→r.1.length≤a.length+25*l.length
 | [],a,r,_,h=>by subst h;simp [aD]
 | p::l,a,r,hp,h=>by
  simp only [aD] at h
  split at h
  ·rename_i r' he
   subst h
   unfold bG at he
   repeat' split at he
   all_goals cases he
   all_goals simp
  ·rename_i a' he
   unfold bG at he
   split at he
   ·cases he
   ·rename_i h1
    split at he
    ·cases he
    ·cases he
     have h2:=(sR p.total).resolve_right h1
     have h3:=qU a (cC p.total).1
     have h4:=hp p (List.mem_cons_self ..)
     have:=sT l _ r (fun q hq=>hp q (List.mem_cons_of_mem _ hq)) h
     simp only [List.length_cons]
     omega
def State.new:State:=⟨[],[],[],[],[],1⟩
structure Bnd (s:State):Prop where
 bt:s.table.length≤100000
 bs:s.ser.length≤100000
 bp:s.posted.length≤100000
 bb:s.book.length≤100000
 be:s.sess.length≤100000
 bq:∀ p∈s.posted,p.total.parts.length≤100000
def bCd:List UInt8:=[111,119,101,100]
def qW (g:Int) (b:Bal):Int⊕Int:=.inr (if (b.acc == bCd)=true then b.amount else g)
def aEk (s:State) (name:List UInt8):Rep:=if (kP s.ser name).2=false then ⟨11,0,0⟩ else ⟨0,wr .i64 ((kP s.ser name).1.next - 1),aD qW id s.book 0⟩
def why (e:Int):Rep:=⟨e,0,0⟩
def aS (s:State) (name:List UInt8) (p:Posted):State×Rep:=
 if (cJ s.ser name).2.2≠0 then (s,why (cJ s.ser name).2.2) else if 40≤s.posted.length then (s,why 14) else
  if (cC p.total).2≠0 then (s,why (cC p.total).2) else if (bC s.book (cC p.total).1).2≠0 then (s,why (bC s.book (cC p.total).1).2) else
   ({ s with ser:=(cJ s.ser name).1,book:=(bC s.book (cC p.total).1).1,posted:=s.posted++[{ p with ref:=⟨name,(cJ s.ser name).2.1⟩ }] },⟨0,(cJ s.ser name).2.1,p.total.gross⟩)
theorem aQl {P:List UInt8→Prop} {l:List Part} {cat:List UInt8} {bp n:Int} (h:∀ p∈l,P p.cat) (hc:P cat):∀ p∈(rT l cat bp n).1,P p.cat:=by
 have hroom:∀ p∈dC l cat bp,P p.cat:=by
  unfold dC
  split
  ·intro p hp
   rcases List.mem_append.1 hp with hp | hp
   ·exact h p (List.mem_of_mem_take hp)
   ·rcases List.mem_cons.1 hp with rfl | hp
    ·exact hc
    ·exact h p (List.mem_of_mem_drop hp)
  ·exact h
 unfold rT
 split
 ·intro p hp;cases hp
 ·rename_i q hq
  intro p hp
  rcases List.mem_or_eq_of_mem_set hp with hp | rfl
  ·exact hroom p hp
  ·exact hroom q (List.mem_of_getElem? hq)
theorem aAj:∀ (l:List Part) (st:Int×Int×List Part) (r:Total×Int),aD gA lC l st=r→r.2=0→r.1.parts.map (·.cat)=st.2.2.map (·.cat)++l.map (·.cat)
 | [],st,r,h,h0=>by
  subst h
  simp only [aD,lC] at h0 ⊢
  split at h0
  ·rename_i hc;exact absurd h0 hc
  ·rename_i hc;rw [if_neg hc];simp
 | p::l,st,r,h,h0=>by
  simp only [aD] at h
  split at h
  ·rename_i r' he
   unfold gA at he
   split at he
   ·cases he;subst h;cases h0
   ·cases he
  ·rename_i st' he
   unfold gA at he
   split at he
   ·cases he
   ·cases he
    rw [aAj l _ r h h0]
    simp
theorem aFo {tab:List Rate} {d:Date}:∀ (l:List Line) (parts:List Part) (r:Total×Int),(∀ p∈parts,cW p.cat=true)→aD (iO tab d) eT l parts=r→r.2=0→(∀ p∈r.1.parts,cW p.cat=true)∧r.1.parts.length≤parts.length+l.length
 | [],parts,r,hp,h,h0=>by
  subst h
  simp only [aD] at h0 ⊢
  have:=aAj parts (0,0,[]) _ rfl h0
  simp only [List.map_nil,List.nil_append] at this
  refine ⟨fun p hpm=>?_,?_⟩
  ·have hm:p.cat∈parts.map (·.cat):=by rw [←this];exact List.mem_map_of_mem hpm
   obtain ⟨q,hq,e⟩:=List.mem_map.1 hm
   rw [←e];exact hp q hq
  ·have hl:=congrArg List.length this
   rw [List.length_map,List.length_map] at hl
   exact Nat.le_of_eq hl
 | x::l,parts,r,hp,h,h0=>by
  simp only [aD] at h
  split at h
  ·rename_i r' he
   unfold iO at he
   split at he
   ·rename_i hc;cases he;subst h;exact absurd h0 hc
   ·split at he
    ·rename_i hc;cases he;subst h;exact absurd h0 hc
    ·cases he
  ·rename_i s' he
   unfold iO at he
   split at he
   ·cases he
   ·rename_i hc
    split at he
    ·cases he
    ·cases he
     have hn:cW x.cat=true:=by
      have hc0:(fI tab d x).2.2=0:=by omega
      unfold fI at hc0
      split at hc0
      ·cases hc0
      ·split at hc0
       ·cases hc0
       ·rename_i hh;simpa using hh
     have h1:=aJj parts x.cat (fI tab d x).1 (fI tab d x).2.1
     obtain ⟨h2,h3⟩:=aFo l _ r (aQl (P:=fun c=>cW c=true) hp hn) h h0
     refine ⟨h2,?_⟩
     simp only [List.length_cons]
     omega
theorem vY {tab:List Rate} {d:Date} {l:List Line} (h:(cZ tab d l).2=0):(cZ tab d l).1.parts.length≤12∧∀ q∈(cZ tab d l).1.parts,q.cat.length≤1000000:=by
 unfold cZ at h ⊢
 split at h
 ·cases h
 ·rename_i c1
  rw [if_neg c1]
  split at h
  ·cases h
  ·rename_i c2
   rw [if_neg c2]
   split at h
   ·cases h
   ·rename_i c3
    rw [if_neg c3]
    split at h
    ·cases h
    ·rename_i c4
     rw [if_neg c4]
     obtain ⟨h1,h2⟩:=aFo l [] _ (fun _ h=>by cases h) rfl h
     refine ⟨by simp only [List.length_nil] at h2;omega,fun q hq=>by have:=uC (h1 q hq);omega⟩
theorem aD5:∀ (l a:List Part) (r:List Part×Int),aD cX (fun l=>(l,0)) l a=r→r.2=0→r.1.map (·.cat)=a.map (·.cat)++l.map (·.cat)
 | [],a,r,h,h0=>by subst h;simp [aD]
 | x::l,a,r,h,h0=>by
  simp only [aD] at h
  split at h
  ·rename_i r' he
   subst h
   unfold cX at he
   split at he
   ·rename_i hc;cases he;exact absurd h0 hc
   ·cases he
  ·rename_i a' he
   unfold cX at he
   split at he
   ·cases he
   ·cases he
    rw [aD5 l _ r h h0]
    simp
theorem aM5 (t:Total) (h:(aV t).2=0):(aV t).1.parts.map (·.cat)=t.parts.map (·.cat):=by
 unfold aV at h ⊢
 split at h
 ·rename_i c;exact absurd h c
 ·rename_i c
  rw [if_neg c]
  split at h
  ·rename_i c2;exact absurd h c2
  ·rename_i c2
   rw [if_neg c2]
   have:=aD5 t.parts [] _ rfl (by omega)
   simpa using this
theorem aQm {p:Posted} (hf:Fit p) (h:(aV p.total).2=0):(aV p.total).1.parts.length≤12∧∀ q∈(aV p.total).1.parts,q.cat.length≤1000000:=by
 have:=aM5 p.total h
 refine ⟨by have:=uA p.total;have:=hf.1;omega,fun q hq=>?_⟩
 have hm:q.cat∈p.total.parts.map (·.cat):=by rw [←this];exact List.mem_map_of_mem hq
 obtain ⟨q',hq',e⟩:=List.mem_map.1 hm
 rw [←e];exact hf.2 q' hq'
structure Cmd where
 kind:Int
 series:List UInt8
 limit:Int
 row:Rate
 day:Date
 lines:List Line
 of:Ref
 session:Int
def lD (s:State) (c:Cmd):State×Rep:=
 if (cZ s.table c.day c.lines).2≠0 then (s,why (cZ s.table c.day c.lines).2) else aS s c.series ⟨Ref.zero,c.day,(cZ s.table c.day c.lines).1,Ref.zero,false⟩
def Posted.zero:Posted:=⟨Ref.zero,⟨0,0,0⟩,Total.zero,Ref.zero,false⟩
def eB (l:List Posted) (k:Nat):List Posted:=match l[k]? with
 | none=>l
 | some p=>l.set k { p with back:=true }
def fK (s:State) (c:Cmd) (k:Nat) (p:Posted):State×Rep:=
 if p.back=true then (s,why 12) else if p.of=Ref.zero then
  (if c.day.right=false then (s,why 9) else if c.day.before p.day=true then (s,why 9) else if (aV p.total).2≠0 then (s,why (aV p.total).2) else
   if (aS s c.series ⟨Ref.zero,c.day,(aV p.total).1,c.of,false⟩).2.why=0 then
    ({ (aS s c.series ⟨Ref.zero,c.day,(aV p.total).1,c.of,false⟩).1 with posted:=eB (aS s c.series ⟨Ref.zero,c.day,(aV p.total).1,c.of,false⟩).1.posted k },(aS s c.series ⟨Ref.zero,c.day,(aV p.total).1,c.of,false⟩).2)
   else aS s c.series ⟨Ref.zero,c.day,(aV p.total).1,c.of,false⟩) else (s,why 12)
def eC (s:State) (c:Cmd):State×Rep:=
 if aX s.posted c.of<0 then (s,why 11) else fK s c (aX s.posted c.of).toNat (s.posted.getD (aX s.posted c.of).toNat Posted.zero)
theorem aHv (s:State) (name:List UInt8) (p:Posted):∃ l,(aS s name p).1.posted=s.posted++l:=by
 unfold aS
 repeat' split
 all_goals first | exact ⟨[],(List.append_nil _).symm⟩ | exact ⟨_,rfl⟩
def gD (s:State) (r:List Ser×Int):State×Rep:=if r.2=0 then ({ s with ser:=r.1 },why r.2) else (s,why r.2)
def kS (s:State) (r:List Rate×Int):State×Rep:=if r.2=0 then ({ s with table:=r.1 },why r.2) else (s,why r.2)
def iM (s:State) (r:List Sess×Int):State×Rep:=if r.2=0 then ({ s with sess:=r.1 },why r.2) else (s,why r.2)
def rX (s:State) (c:Cmd):State×Rep:=
 if c.kind=1 then gD s (eZ s.ser c.series c.limit) else if c.kind=2 then gD s (pB s.ser c.series) else if c.kind=3 then kS s (gW s.table c.row) else
  if c.kind=4 then lD s c else if c.kind=5 then eC s c else if c.kind=7 then iM s (gC s.sess c.session) else (s,aEk s c.series)
def fB (s:State):State×Rep:=
 if 8≤s.sess.length∨1099511627776≤s.next then (s,why 14) else if (lT s.sess s.next).2≠0 then (s,why (lT s.sess s.next).2) else
  ({ s with sess:=(lT s.sess s.next).1,next:=wr .i64 (s.next+1) },⟨0,s.next,0⟩)
structure Call where
 session:Int
 seq:Int
 cmd:Cmd
def hJ (r:State×Rep) (c:Call):State×Rep:=if (jZ r.1.sess c.session c.seq r.2).2=0 then ({ r.1 with sess:=(jZ r.1.sess c.session c.seq r.2).1 },r.2) else r
def eU (s:State) (c:Call):State×Rep:=
 if bB s=false then (s,why 1) else if c.cmd.kind<1∨8<c.cmd.kind then (s,why 17) else if c.cmd.kind=6 then fB s else
  if (cB s.sess c.session c.seq).2.2≠0 then (s,why (cB s.sess c.session c.seq).2.2) else if (cB s.sess c.session c.seq).2.1=true then (s,(cB s.sess c.session c.seq).1) else hJ (rX s c.cmd) c
theorem aEl {s:State} (h:bB s=true):iP s.posted=true:=by
 unfold bB at h
 repeat' split at h
 all_goals first | cases h | skip
 rename_i h4 _ _
 simpa using h4
structure Sml (s:State):Prop where
 st:s.table.length≤1000
 ss:s.ser.length≤1000
 sp:s.posted.length≤1000
 sb:s.book.length≤10000
 se:s.sess.length≤1000
 sq:∀ p∈s.posted,p.total.parts.length≤1000
theorem Sml.bnd {s:State} (h:Sml s):Bnd s:=⟨by have:=h.st;omega,by have:=h.ss;omega,by have:=h.sp;omega,by have:=h.sb;omega,by have:=h.se;omega,fun p hp=>by have:=h.sq p hp;omega⟩
theorem Sml.new:Sml State.new:=⟨by decide,by decide,by decide,by decide,by decide,fun p hp=>by cases hp⟩
theorem sU {s:State} (h:bB s=true):s.table.length≤24∧s.ser.length≤8∧s.sess.length≤8∧s.posted.length≤40∧s.book.length≤1000∧(∀ p∈s.posted,p.total.parts.length≤12)∧s.book=(dQ s.posted).1:=by
 unfold bB at h
 split at h
 ·cases h
 ·rename_i h1
  split at h
  ·cases h
  ·rename_i h2
   split at h
   ·cases h
   ·rename_i h3
    split at h
    ·cases h
    ·rename_i h4
     split at h
     ·cases h
     ·split at h
      ·have hb:=of_decide_eq_true h
       have h4':iP s.posted=true:=by simpa using h4
       obtain ⟨p1,p2⟩:=vX h4'
       have hparts:∀ p∈s.posted,p.total.parts.length≤12:=fun p hp=>nX (p2 p hp).2
       have hl:=sT s.posted [] (dQ s.posted) hparts rfl
       have hs:eO s.sess=true:=by
        unfold gY at h3
        by_cases c:eO s.sess=true
        ·exact c
        ·rw [if_neg c] at h3;exact absurd rfl h3
       refine ⟨vU (by simpa using h1),mY (by simpa using h2),kI hs,p1,?_,hparts,hb.symm⟩
       rw [←hb]
       simp only [List.length_nil] at hl
       omega
      ·cases h
theorem aD6 {s:State} (h:Sml s) (h1:s.ser.length≤8) (h2:s.posted.length≤40) (h3:s.book.length≤1000) (name:List UInt8) (p:Posted) (hp:p.total.parts.length≤12):Sml (aS s name p).1:=by
 unfold aS
 split
 ·exact h
 ·split
  ·exact h
  ·split
   ·exact h
   ·rename_i c3
    split
    ·exact h
    ·refine ⟨h.st,?_,?_,?_,h.se,?_⟩
     ·show (cJ s.ser name).1.length≤1000
      unfold cJ
      repeat' split
      all_goals simp
      omega
     ·show (s.posted++_).length≤1000
      simp only [List.length_append,List.length_cons,List.length_nil];omega
     ·show (bC s.book (cC p.total).1).1.length≤10000
      have:=qU s.book (cC p.total).1
      have:=(sR p.total).resolve_right c3
      omega
     ·intro q hq
      rcases List.mem_append.1 hq with hq | hq
      ·exact h.sq q hq
      ·rw [List.mem_singleton.1 hq]
       show p.total.parts.length≤1000
       omega
theorem aJk (l:List Posted) (k:Nat) (h:∀ p∈l,p.total.parts.length≤1000):(eB l k).length=l.length∧∀ p∈eB l k,p.total.parts.length≤1000:=by
 unfold eB
 split
 ·exact ⟨rfl,h⟩
 ·rename_i p hp
  refine ⟨List.length_set ..,fun q hq=>?_⟩
  rcases List.mem_or_eq_of_mem_set hq with hq | rfl
  ·exact h q hq
  ·exact h p (List.mem_of_getElem? hp)
theorem pD {α:Type} (l:List α) (i:Nat) (a:α):(eG l i a).length≤l.length+1:=by
 simp only [eG,List.length_append,List.length_cons,List.length_take,List.length_drop];omega
theorem aXv {s:State} (h:Sml s) (hr:bB s=true) (c:Cmd):Sml (rX s c).1:=by
 obtain ⟨r1,r2,r3,r4,r5,r6,_⟩:=sU hr
 unfold rX
 split
 ·unfold gD
  split
  ·refine ⟨h.st,?_,h.sp,h.sb,h.se,h.sq⟩
   show (eZ s.ser c.series c.limit).1.length≤1000
   unfold eZ
   repeat' split
   all_goals first | (simp;done) | (refine Nat.le_trans (pD _ _ _) ?_;omega)
  ·exact h
 ·split
  ·unfold gD
   split
   ·refine ⟨h.st,?_,h.sp,h.sb,h.se,h.sq⟩
    show (pB s.ser c.series).1.length≤1000
    unfold pB
    repeat' split
    all_goals simp
    omega
   ·exact h
  ·split
   ·unfold kS
    split
    ·refine ⟨?_,h.ss,h.sp,h.sb,h.se,h.sq⟩
     show (gW s.table c.row).1.length≤1000
     unfold gW
     repeat' split
     all_goals first | (simp;done) | (refine Nat.le_trans (pD _ _ _) ?_;omega)
    ·exact h
   ·split
    ·unfold lD
     split
     ·exact h
     ·rename_i c1
      exact aD6 h r2 r4 r5 _ _ (vY (by omega)).1
    ·split
     ·unfold eC
      split
      ·exact h
      ·rename_i c1
       unfold fK
       split
       ·exact h
       ·split
        ·split
         ·exact h
         ·split
          ·exact h
          ·split
           ·exact h
           ·rename_i c4
            have hpar:(s.posted.getD (aX s.posted c.of).toNat Posted.zero).total.parts.length≤12:=by
             rw [List.getD_eq_getElem?_getD]
             cases hg:s.posted[(aX s.posted c.of).toNat]? with
             | none=>exact Nat.zero_le _
             | some p=>exact r6 p (List.mem_of_getElem? hg)
            have hbl:=uA (s.posted.getD (aX s.posted c.of).toNat Posted.zero).total
            have hi:=aD6 h r2 r4 r5 c.series ⟨Ref.zero,c.day,(aV (s.posted.getD (aX s.posted c.of).toNat Posted.zero).total).1,c.of,false⟩ (Nat.le_trans hbl hpar)
            split
            ·obtain ⟨e1,e2⟩:=aJk _ (aX s.posted c.of).toNat hi.sq
             exact ⟨hi.st,hi.ss,by rw [e1];exact hi.sp,hi.sb,hi.se,e2⟩
            ·exact hi
        ·exact h
     ·split
      ·unfold iM
       split
       ·refine ⟨h.st,h.ss,h.sp,h.sb,?_,h.sq⟩
        show (gC s.sess c.session).1.length≤1000
        unfold gC
        repeat' split
        all_goals first | (simp;done) | (simp only [vT,List.length_append,List.length_take,List.length_drop];omega)
       ·exact h
      ·exact h
theorem aQn (l:List Sess) (id seq:Int) (r:Rep):(jZ l id seq r).1.length≤l.length:=by
 unfold jZ
 repeat' split
 all_goals simp
theorem aM6 {s:State} (h:Sml s) (c:Call):Sml (eU s c).1:=by
 unfold eU
 split
 ·exact h
 ·rename_i hr
  have hr:bB s=true:=by simpa using hr
  split
  ·exact h
  ·split
   ·unfold fB
    split
    ·exact h
    ·split
     ·exact h
     ·obtain ⟨_,_,r3,_⟩:=sU hr
      refine ⟨h.st,h.ss,h.sp,h.sb,?_,h.sq⟩
      show (lT s.sess s.next).1.length≤1000
      unfold lT
      repeat' split
      all_goals first | (simp;done) | (refine Nat.le_trans (pD _ _ _) ?_;omega)
   ·split
    ·exact h
    ·split
     ·exact h
     ·have hd:=aXv h hr c.cmd
      unfold hJ
      split
      ·exact ⟨hd.st,hd.ss,hd.sp,hd.sb,by have:=aQn (rX s c.cmd).1.sess c.session c.seq (rX s c.cmd).2;have:=hd.se;show (jZ _ _ _ _).1.length≤1000;omega,hd.sq⟩
      ·exact hd
def qY (c:Call):Call:={ c with cmd:={ c.cmd with lines:=c.cmd.lines.take 15 } }
def sV (l:List Call) (n:Nat):List Call:=(l.take n).map qY
def bIj:List V:=[.int .i64 0,.int .i64 0,.int .i64 0,.str [],.int .i64 0,.str [],.int .i64 0,.int .i64 0,.int .i64 0,.int .i64 0,.int .i64 0,.int .i64 0,.int .i64 0,.nils,.str [],.int .i64 0,.int .i64 0]
def pE (st:State×List Rep) (c:Call):State×List Rep:=((eU st.1 c).1,st.2++[(eU st.1 c).2])
def playM (s:State) (l:List Call):State×List Rep:=l.foldl pE (s,[])
def aOj (st:State×List Rep) (c:Call):(State×List Rep)⊕(State×List Rep):=.inr (pE st c)
theorem aFp:∀ (l:List Call) (st:State×List Rep),aD aOj id l st=l.foldl pE st
 | [],st=>rfl
 | c::l,st=>by simp only [aD,aOj,List.foldl_cons];exact aFp l _
theorem aUu (l:List Call) (n:Nat):(sV l n).length≤n:=by simp only [sV,List.length_map,List.length_take];omega
end Go.Proofs.YtoaibmbldmckaaaGreat
end
section
namespace Go.AM
def sW {α:Type} (a:α):Option (List α)→Option (List α)
 | some l=>some (a::l)
 | none=>none
def yO:List V→Nat→Option (List V)
 | _,0=>some []
 | [],_+1=>none
 | a::l,n+1=>sW a (yO l n)
def sX:List V→Nat→List V→Option (List V)
 | cs,0,[]=>some cs
 | [],0,_::_=>none
 | _::cs,0,x::xs=>sW x (sX cs 0 xs)
 | [],_+1,_=>none
 | c::cs,j+1,xs=>sW c (sX cs j xs)
def sY:List V→Nat→Bool
 | [],0=>true
 | _::l,n+1=>sY l n
 | _,_=>false
def aHw {α:Type}:List α→Nat→α→Option (List α)
 | [],_,_=>none
 | _::l,0,x=>some (x::l)
 | a::l,i+1,x=>sW a (aHw l i x)
theorem aJl:∀ (l:List V) (n:Nat),yO l n=if n≤l.length then some (l.take n) else none
 | l,0=>by cases l<;>simp [yO]
 | [],n+1=>by simp [yO]
 | a::l,n+1=>by
  simp only [yO,aJl l n,List.length_cons,Nat.add_le_add_iff_right,List.take_succ_cons]
  split<;>rfl
theorem yP:∀ (cs:List V) (j:Nat) (xs:List V),sX cs j xs=if j+xs.length≤cs.length then some (splice cs j xs) else none
 | cs,0,[]=>by cases cs<;>simp [sX,splice]
 | [],0,x::xs=>by simp [sX]
 | c::cs,0,x::xs=>by
  have h:=yP cs 0 xs
  simp only [sX,h,List.length_cons,splice,List.take_zero,List.nil_append,Nat.zero_add]
  by_cases c1:xs.length≤cs.length
  ·rw [if_pos c1,if_pos (by omega)];simp [sW]
  ·rw [if_neg c1,if_neg (by omega)];rfl
 | [],j+1,xs=>by simp [sX]
 | c::cs,j+1,xs=>by
  have h:=yP cs j xs
  simp only [sX,h,List.length_cons,splice]
  by_cases c1:j+xs.length≤cs.length
  ·rw [if_pos c1,if_pos (by omega)]
   simp only [sW,List.take_succ_cons,List.cons_append,show j+1+xs.length=(j+xs.length)+1 by omega,List.drop_succ_cons]
  ·rw [if_neg c1,if_neg (by omega)];rfl
theorem yQ:∀ (l:List V) (n:Nat),sY l n=decide (l.length=n)
 | [],0=>rfl
 | [],n+1=>by simp [sY]
 | a::l,0=>by simp [sY]
 | a::l,n+1=>by simp [sY,yQ l n]
theorem aOk {α:Type}:∀ (l:List α) (i:Nat) (x:α),aHw l i x=if i<l.length then some (l.set i x) else none
 | [],i,x=>by simp [aHw]
 | a::l,0,x=>by simp [aHw]
 | a::l,i+1,x=>by
  simp only [aHw,aOk l i x,List.length_cons,Nat.add_lt_add_iff_right,List.set_cons_succ]
  split<;>rfl
theorem pt2 (n:Nat) (cs:List V) (j:Nat):lR (some (n+1)) cs j=(match yO (cs.drop j) (n+1) with
  | some l=>.ok (.agg l)
  | none=>.error "part"):=by
 simp only [lR,aJl,List.length_drop]
 by_cases c:j+(n+1)≤cs.length
 ·rw [if_pos c,if_pos (by omega)]
 ·rw [if_neg c,if_neg (by omega)]
theorem nY (n a ver i j:Nat) (x:V) (S:St):fV n (.ptr a ver i j) x S=(match aA S a ver with
  | .error e=>.error e
  | .ok (es,elems)=>match elems[i]? with
   | some cs=>(match sY x.cells n&&aH x.cells with
    | true=>(match sX cs j x.cells with
     | some cs'=>.ok ⟨S.next,S.heap.put a (.row ver es (elems.set i cs'))⟩
     | none=>.error "store: the size")
    | false=>.error "store: the size")
   | none=>.error "store"):=by
 simp only [fV,yP,yQ]
 cases aA S a ver with
 | error e=>rfl
 | ok r=>
  obtain ⟨es,elems⟩:=r
  simp only
  cases elems[i]? with
  | none=>rfl
  | some cs=>
   simp only
   by_cases c1:x.cells.length=n
   ·cases c2:aH x.cells
    ·simp [c1]
    ·by_cases c3:j+x.cells.length≤cs.length
     ·rw [if_pos ⟨c1,rfl,c3⟩];simp [c1];simp [←c1,c3]
     ·rw [if_neg (fun h=>c3 h.2.2)];simp [c1];simp [←c1,c3]
   ·rw [if_neg (fun h=>c1 h.1)];simp [c1]
theorem bw0 (z:List V) (pl:List (Nat×Nat)):vR z pl []=.ok (.agg z):=rfl
theorem bw1 (z:List V) (pl:List (Nat×Nat)) (i:Nat) (v:V) (rest:List (Nat×V)):vR z pl ((i,v)::rest)=(match pl[i]? with
  | none=>.error "fill"
  | some (off,size)=>(match sY v.cells size&&aH v.cells with
   | true=>(match sX z off v.cells with
    | some z'=>vR z' pl rest
    | none=>.error "fill")
   | false=>.error "fill")):=by
 simp only [vR,sA]
 cases pl[i]? with
 | none=>rfl
 | some p=>
  obtain ⟨off,size⟩:=p
  simp only [yP,yQ,cond_eq_ite]
  by_cases c1:v.cells.length=size
  ·cases c2:aH v.cells
   ·simp [c1]
   ·by_cases c3:off+v.cells.length≤z.length
    ·have h1:Nat.beq v.cells.length size=true:=by simpa using c1
     have h2:Nat.ble (off+v.cells.length) z.length=true:=Nat.ble_eq_true_of_le c3
     simp [h1,h2,c1]
     simp [←c1,c3]
    ·have h2:Nat.ble (off+v.cells.length) z.length=false:=by
      cases h:Nat.ble (off+v.cells.length) z.length with
      | false=>rfl
      | true=>exact absurd (Nat.le_of_ble_eq_true h) c3
     simp [h2,c1]
     simp [←c1,c3]
  ·have h1:Nat.beq v.cells.length size=false:=by
    cases h:Nat.beq v.cells.length size with
    | false=>rfl
    | true=>exact absurd (Nat.eq_of_beq_eq_true h) c1
   simp [h1,c1]
theorem lv1 (es:Nat) (elems:List (List V)) (i:Nat) (v:V) (rest:List (Nat×V)):zA es elems ((i,v)::rest)=(match sY v.cells es&&aH v.cells with
  | true=>(match aHw elems i v.cells with
   | some e=>zA es e rest
   | none=>.error "buildSlice")
  | false=>.error "buildSlice"):=by
 simp only [zA,aOk,yQ,cond_eq_ite]
 by_cases c1:v.cells.length=es
 ·have h1:Nat.beq v.cells.length es=true:=by simpa using c1
  cases c2:aH v.cells
  ·simp [c1]
  ·by_cases c3:i<elems.length
   ·have h2:Nat.blt i elems.length=true:=by simpa using c3
    simp [h1,h2,c1,c3]
   ·have h2:Nat.blt i elems.length=false:=by
     cases h:Nat.blt i elems.length with
     | false=>rfl
     | true=>exact absurd (by simpa using h) c3
    simp [h2,c1,c3]
 ·have h1:Nat.beq v.cells.length es=false:=by
   cases h:Nat.beq v.cells.length es with
   | false=>rfl
   | true=>exact absurd (Nat.eq_of_beq_eq_true h) c1
  simp [h1,c1]
theorem bCe:(∀ {α:Type} (a:α) (l:List α),sW a (some l)=some (a::l))∧(∀ l:List V,yO l 0=some [])∧(∀ (a:V) (l:List V) (n:Nat),yO (a::l) (n+1)=sW a (yO l n)) ∧
  (∀ cs:List V,sX cs 0 []=some cs)∧(∀ (c x:V) (cs xs:List V),sX (c::cs) 0 (x::xs)=sW x (sX cs 0 xs))∧(∀ (c:V) (cs:List V) (j:Nat) (xs:List V),sX (c::cs) (j+1) xs=sW c (sX cs j xs)) ∧
  sY [] 0=true∧(∀ (a:V) (l:List V) (n:Nat),sY (a::l) (n+1)=sY l n)∧(∀ {α:Type} (a:α) (l:List α) (x:α),aHw (a::l) 0 x=some (x::l))∧(∀ {α:Type} (a:α) (l:List α) (i:Nat) (x:α),aHw (a::l) (i+1) x=sW a (aHw l i x)) ∧
  type_of% pt2∧(∀ (n a j:Nat) (x:V) (S:St),type_of% (nY n a 0 0 j x S))∧type_of% bw0∧type_of% bw1∧type_of% lv1∧(∀ (es:Nat) (l:List (List V)),zA es l []=.ok l):=
 ⟨fun _ _=>rfl,fun l=>by cases l<;>rfl,fun _ _ _=>rfl,fun cs=>by cases cs<;>rfl,fun _ _ _ _=>rfl,fun _ _ _ _=>by simp only [sX],rfl,fun _ _ _=>rfl,fun _ _ _=>rfl,fun _ _ _ _=>rfl,pt2,fun n a j x S=>nY n a 0 0 j x S,bw0,bw1,lv1,fun _ _=>rfl⟩
section
section
variable {P:Program}
theorem aXw (b:Bool) (x y:Prop):aL (.bool b) x y=if b=true then x else y:=by cases b<;>rfl
theorem ldP (k:Option Nat) (a ver i j:Nat) (S:St):jH k (.ptr a ver i j) S=(match aA S a ver with
  | .error e=>.error e
  | .ok (_,elems)=>match elems[i]? with
   | some cs=>lR k cs j
   | none=>.error "load"):=rfl
theorem ptN (cs:List V) (j:Nat):lR none cs j=(match cs[j]? with
  | some v=>.ok v
  | none=>.error "part"):=rfl
theorem grS (n:Nat) (h:Tr Blk) (a ver es:Nat) (el:List (List V)):aA ⟨n,h.put a (.row ver es el)⟩ a ver=.ok (es,el):=aC ..
theorem iI {c a:Nat} (hc:c≠a) (n:Nat) (h:Tr Blk) (ver:Nat) (b:Blk):aA ⟨n,h.put a b⟩ c ver=aA ⟨n,h⟩ c ver:=cI n n h a c ver b hc
theorem nb0 (S:St) (b:Blk):aY none S b=.ok (S.next,⟨S.next+1,S.heap.put S.next b⟩):=eL S b
theorem nb1 (k:Nat) (S:St) (b:Blk):aY (some k) S b=.ok (k,⟨S.next,S.heap.put k b⟩):=tP k S b
theorem stP (n a ver i j:Nat) (x:V) (S:St):fV n (.ptr a ver i j) x S=(match aA S a ver with
  | .error e=>.error e
  | .ok (es,elems)=>match elems[i]? with
   | some cs=>if x.cells.length=n∧aH x.cells=true∧j+x.cells.length≤cs.length then .ok ⟨S.next,S.heap.put a (.row ver es (elems.set i (splice cs j x.cells)))⟩ else .error "store: the size"
   | none=>.error "store"):=rfl
theorem ixI {α:Type} {l:List α} {enc:α→List V} {i:Nat} {a:α} {n:Nat} (hi:l[i]?=some a) (hn:(enc a).length=n) (k:IntKind):gS n (.imm (l.map enc)) (.int k (i:Int))=.ok (.iptr (enc a) 0):=by
 have hil:=(List.getElem?_eq_some_iff.1 hi).1
 have hx:(l.map enc)[i]?=some (enc a):=by rw [List.getElem?_map,hi];rfl
 simp only [gS,List.length_map,jJ hil,hx]
 simp only [hn,if_true]
theorem okI {α:Type} (a b:α):((Except.ok a:R α)=.ok b)=(a=b):=by simp
end
theorem kit:(∀ {α:Type} (a:α) (K:α→Prop),wR (.ok a) K=K a)∧(∀ {α:Type} (a:α) (K:α→Prop),wO (some a) K=K a)∧(∀ x:Prop,wW true x=x)∧(∀ (b:Bool) (x y:Prop),aL (.bool b) x y=if b=true then x else y) ∧
  (∀ (v:V) (r:List V) (K:V→List V→Prop),vP (v::r) K=K v r)∧(∀ (vs:List V) (i:Nat) (K:V→Prop),fU (.tup vs) i K=wO vs[i]? K)∧(∀ (a b c d:Nat) (x:Prop),zP (.ptr a b c d) x=x)∧(∀ (a:List V) (b:Nat) (x:Prop),zP (.iptr a b) x=x) ∧
  (∀ b:Bool,unV .not (.bool b)=.ok (.bool !b))∧(∀ v:V,eY v v=true):=
 ⟨fun _ _=>rfl,fun _ _=>rfl,fun _=>rfl,aXw,fun _ _ _=>rfl,fun _ _ _=>rfl,fun _ _ _ _ _=>rfl,fun _ _ _=>rfl,fun _=>rfl,zR⟩
theorem bIl (P:Program):(∀ (t:TypeId) (k:IntKind) (a b:Int),bQ P .add t (.int k a) (.int k b)=.ok (.int k (wr k (a+b))))∧(∀ (t:TypeId) (k:IntKind) (a b:Int),bQ P .sub t (.int k a) (.int k b)=.ok (.int k (wr k (a - b)))) ∧
  (∀ (t:TypeId) (k:IntKind) (a b:Int),bQ P .mul t (.int k a) (.int k b)=.ok (.int k (wr k (a*b))))∧(∀ (t:TypeId) (k:IntKind) (a b:Int),bQ P .lss t (.int k a) (.int k b)=.ok (.bool (decide (a<b)))) ∧
  (∀ (t:TypeId) (k:IntKind) (a b:Int),bQ P .leq t (.int k a) (.int k b)=.ok (.bool (decide (a≤b))))∧(∀ (t:TypeId) (k:IntKind) (a b:Int),bQ P .gtr t (.int k a) (.int k b)=.ok (.bool (decide (b<a)))) ∧
  (∀ (t:TypeId) (k:IntKind) (a b:Int),bQ P .geq t (.int k a) (.int k b)=.ok (.bool (decide (b≤a))))∧(∀ (t:TypeId) (k:IntKind) (a b:Int),bQ P .eql t (.int k a) (.int k b)=.ok (.bool (decide (a=b)))) ∧
  (∀ (t:TypeId) (k:IntKind) (a b:Int),bQ P .neq t (.int k a) (.int k b)=.ok (.bool (!decide (a=b)))) ∧
  (∀ (t:TypeId) (j k:IntKind) (a b:Int),cG P t (.int j a) (.int k b)=true)∧(∀ (t:TypeId) (x y:List UInt8),cG P t (.str x) (.str y)=true)∧(∀ (t:TypeId) (x y:Bool),cG P t (.bool x) (.bool y)=true) ∧
  (∀ (t:TypeId) (x y:List UInt8),bQ P .eql t (.str x) (.str y)=.ok (.bool (x == y)))∧(∀ (t:TypeId) (x y:List UInt8),bQ P .neq t (.str x) (.str y)=.ok (.bool (!(x == y)))) ∧
  (∀ (t:TypeId) (x y:List UInt8),bQ P .lss t (.str x) (.str y)=.ok (.bool (fN x y)))∧(∀ (t:TypeId) (x y:List UInt8),bQ P .geq t (.str x) (.str y)=.ok (.bool (!fN x y))) ∧
  (∀ (t:TypeId) (k:IntKind) (a b:Int),b≠0→bQ P .quo t (.int k a) (.int k b)=.ok (.int k (wr k (a.tdiv b))))∧(∀ (t:TypeId) (k:IntKind) (a b:Int),b≠0→bQ P .rem t (.int k a) (.int k b)=.ok (.int k (a.tmod b))):=
 ⟨aWr P,aWs P,aWt P,aWw P,aWx P,aWy P,aWz P,aX0 P,aX1 P,fun _ _ _ _ _=>rfl,fun _ _ _=>rfl,fun _ _ _=>rfl,aX2 P,aX3 P,aX4 P,aX5 P,fun _ _ _ _ h=>aWu P _ _ _ _ h,fun _ _ _ _ h=>aWv P _ _ _ _ h⟩
theorem bIm : (∀ (k : Option Nat) (a j : Nat) (S : St), jH k (.ptr a 0 0 j) S = (match aA S a 0 with
      | .error e => .error e
      | .ok (_, elems) => match elems[0]? with
        | some cs => lR k cs j
        | none => .error "load")) ∧ (∀ (k : Option Nat) (cs : List V) (j : Nat) (S : St), jH k (.iptr cs j) S = lR k cs j) ∧
    (∀ (cs : List V) (j : Nat), lR none cs j = (match cs[j]? with
      | some v => .ok v
      | none => .error "part")) ∧
    (∀ off a ver i j : Nat, advW off (.ptr a ver i j) = .ok (.ptr a ver i (j + off))) ∧ (∀ (off : Nat) (cs : List V) (j : Nat), advW off (.iptr cs j) = .ok (.iptr cs (j + off))) ∧
    (∀ (n : Nat) (h : Tr Blk) (a ver es : Nat) (el : List (List V)), aA ⟨n, h.put a (.row ver es el)⟩ a ver = .ok (es, el)) ∧ (∀ (S : St) (b : Blk), aY none S b = .ok (S.next, ⟨S.next + 1, S.heap.put S.next b⟩)) ∧
    (∀ (k : Nat) (S : St) (b : Blk), aY (some k) S b = .ok (k, ⟨S.next, S.heap.put k b⟩)) ∧ (∀ cs : List V, (V.agg cs).cells = cs) ∧ (∀ b : Bool, (V.bool b).cells = [.bool b]) ∧ (∀ (k : IntKind) (n : Int), (V.int k n).cells = [.int k n]) ∧
    (∀ s : List UInt8, (V.str s).cells = [.str s]) ∧ (∀ es : List (List V), (V.imm es).cells = [.imm es]) ∧ V.nils.cells = [.nils] ∧ (∀ a b c d : Nat, (V.ptr a b c d).cells = [.ptr a b c d]) ∧ (∀ a b c d e : Nat, (V.sl a b c d e).cells = [.sl a b c d e]) ∧
    (∀ (f : FuncId) (a b : List V), (V.func f a b).cells = [.func f a b]) ∧ aH [] = true ∧ (∀ (v : V) (l : List V), aH (v :: l) = (v.one && aH l)) ∧ (∀ b : Bool, (V.bool b).one = true) ∧ (∀ (k : IntKind) (n : Int), (V.int k n).one = true) ∧ (∀ s : List UInt8, (V.str s).one = true) ∧
    (∀ es : List (List V), (V.imm es).one = true) ∧ V.nils.one = true ∧ (∀ a b c d : Nat, (V.ptr a b c d).one = true) ∧ (∀ a b c d e : Nat, (V.sl a b c d e).one = true) ∧ (∀ (f : FuncId) (a b : List V), (V.func f a b).one = true) ∧
    (∀ es : List (List V), lenW (.imm es) = .ok (.int .i64 es.length)) ∧ lenW .nils = .ok (.int .i64 0) ∧ (∀ a b c d e : Nat, lenW (.sl a b c d e) = .ok (.int .i64 e)) ∧
    (∀ (S : St) (b : Bool), gK S (.bool b) = .ok (.bool b)) ∧ (∀ (S : St) (k : IntKind) (n : Int), gK S (.int k n) = .ok (.int k n)) ∧ (∀ (S : St) (s : List UInt8), gK S (.str s) = .ok (.str s)) ∧ (∀ (S : St) (es : List (List V)), gK S (.imm es) = .ok (.imm es)) ∧
    (∀ {α : Type} (a b : α), ((Except.ok a : R α) = .ok b) = (a = b)) :=
  ⟨fun _ _ _ _ => rfl, fun _ _ _ _ => rfl, fun _ _ => rfl, fun _ _ _ _ _ => rfl, fun _ _ _ => rfl, grS, nb0, nb1, fun _ => rfl, fun _ => rfl, fun _ _ => rfl, fun _ => rfl, fun _ => rfl, rfl, fun _ _ _ _ => rfl, fun _ _ _ _ _ => rfl, fun _ _ _ => rfl, rfl, fun _ _ => rfl,
    fun _ => rfl, fun _ _ => rfl, fun _ => rfl, fun _ => rfl, rfl, fun _ _ _ _ => rfl, fun _ _ _ _ _ => rfl, fun _ _ _ => rfl, fun _ => rfl, rfl, fun _ _ _ _ _ => rfl, fun _ _ => rfl, fun _ _ _ => rfl, fun _ _ => rfl, fun _ _ => rfl, okI⟩
end
end Go.AM
end
