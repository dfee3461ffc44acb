import Derived.KernelRfl
import Derived.Lib.Walk
import Derived.Test.YtoaibmbldmckaaaGreatProg
import Derived.WalkKit
import Derived.Test.YtoaibmbldmckaaaGreatX1
set_option linter.unusedSimpArgs false
set_option linter.unusedVariables false
set_option linter.unusedSectionVars false
set_option maxRecDepth 100000
section
set_option linter.unusedSimpArgs false
set_option linter.unusedVariables false
namespace Go.AM
structure Own (S0 S:St) (n:Nat) (v:V) (es:List (List V)):Prop where
 is:(v=.nils∧es=[])∨∃ a ver tl,v=.sl a ver n 0 es.length∧S0.next≤a∧a<S.next∧S.heap.get a=some (.row ver n (es++tl))
 len:∀ cs,cs∈es→cs.length=n∧aG cs=true
theorem bS {S:St} {a ver n:Nat} {el:List (List V)} (h:S.heap.get a=some (.row ver n el)):aB S a ver=.ok (n,el):=by
 simp only [aB,h,Nat.beq_refl,cond_true]
theorem Own.sl {S0 S:St} {n:Nat} {v:V} {es:List (List V)} (h:Own S0 S n v es):Sl S n v es:=by
 refine ⟨?_,h.len⟩
 rcases h.is with h1 | ⟨a,ver,tl,h1,h2,h3,h4⟩
 ·exact .inl h1
 ·exact .inr (.inr ⟨a,ver,0,es++tl,h1,bS h4,by simp,by simp⟩)
theorem Own.ext {S0 S S':St} {n:Nat} {v:V} {es:List (List V)} (h:Own S0 S n v es) (x:Ext S S'):Own S0 S' n v es:=by
 refine ⟨?_,h.len⟩
 rcases h.is with h1 | ⟨a,ver,tl,h1,h2,h3,h4⟩
 ·exact .inl h1
 ·exact .inr ⟨a,ver,tl,h1,h2,Nat.lt_of_lt_of_le h3 x.next,x.old _ _ h4⟩
theorem Own.nil (S0 S:St) (n:Nat):Own S0 S n .nils []:=⟨.inl ⟨rfl,rfl⟩,fun _ h=>by cases h⟩
theorem Own.weaken {A B S:St} {n:Nat} {v:V} {es:List (List V)} (h:Own B S n v es) (x:A.next≤B.next):Own A S n v es:=by
 refine ⟨?_,h.len⟩
 rcases h.is with h1 | ⟨a,ver,tl,h1,h2,h3,h4⟩
 ·exact .inl h1
 ·exact .inr ⟨a,ver,tl,h1,Nat.le_trans x h2,h3,h4⟩
theorem dG {n:Nat} {es:List (List V)} (h:∀ cs,cs∈es→cs.length=n∧aG cs=true):hJ n es=true∧es.all aG=true:=
 ⟨List.all_eq_true.2 fun cs hc=>by simp [(h cs hc).1],List.all_eq_true.2 fun cs hc=>(h cs hc).2⟩
theorem Sl.copy {S:St} {n b:Nat} {v:V} {es:List (List V)} (h:Sl S n v es) (w:WF S) (h1:es.length*b≤35184372088832) (h2:es.length<eC):
  ∃ v' S',gI n b .nils v none S=.ok (v',S')∧Ext S S'∧Own S S' n v' es:=by
 obtain ⟨a1,a2⟩:=dG h.len
 cases es with
 | nil=>exact ⟨.nils,S,by simp only [gI,h.elems,a1,a2,and_self,if_true],Ext.refl S,Own.nil _ _ _⟩
 | cons c es=>
  refine ⟨.sl S.next 0 n 0 (c::es).length,⟨S.next+1,S.heap.put S.next (.row 0 n (c::es))⟩,?_,Ext.new w _,⟨.inr ⟨S.next,0,[],rfl,Nat.le_refl _,Nat.lt_succ_self _,?_⟩,h.len⟩⟩
  ·simp only [gI,h.elems,a1,a2,and_self,if_true,h1,h2,gS]
  ·rw [List.append_nil];exact Tr.get_put_sameB _ _ _ trivial
theorem Own.pushK {S0 S:St} {n b:Nat} {v:V} {es:List (List V)} (h:Own S0 S n v es) (x:Ext S0 S) (w:WF S0) {u:V} {cs:List (List V)} (hu:bC S u=.ok cs) (hc:∀ c,c∈cs→c.length=n∧aG c=true) (hne:cs≠[])
  (h1:(es.length+cs.length)*b≤35184372088832) (h2:es.length+cs.length<eC):∃ v' S',gI n b v u none S=.ok (v',S')∧Ext S0 S'∧S'.next≤S.next+1∧Own S0 S' n v' (es++cs)∧∀ y,y<S.next→(∀ a ver m,v=.sl a ver n 0 m→y≠a)→S'.heap.get y=S.heap.get y:=by
 obtain ⟨a1,a2⟩:=dG hc
 have hlen:∀ c,c∈es++cs→c.length=n∧aG c=true:=fun c hm=>(List.mem_append.1 hm).elim (h.len c) (hc c)
 rcases h.is with ⟨rfl,rfl⟩ | ⟨a,ver,tl,rfl,q1,q2,q3⟩
 ·cases cs with
  | nil=>exact absurd rfl hne
  | cons c cs=>
   refine ⟨.sl S.next 0 n 0 (c::cs).length,⟨S.next+1,S.heap.put S.next (.row 0 n (c::cs))⟩,?_,x.trans (Ext.new (x.wf w) _),Nat.le_refl _,⟨.inr ⟨S.next,0,[],rfl,x.next,Nat.lt_succ_self _,?_⟩,hlen⟩,fun y hy _=>Tr.get_put_neB _ _ _ _ trivial (by omega)⟩
   ·simp only [List.length_nil,Nat.zero_add] at h1 h2
    simp only [gI,hu,a1,a2,and_self,if_true,h1,h2,gS]
   ·rw [List.append_nil];exact Tr.get_put_sameB _ _ _ trivial
 ·have hb:0+es.length≤es.length+tl.length:=by omega
  refine ⟨.sl a (ver+1) n 0 (es++cs).length,⟨S.next,S.heap.put a (.row (ver+1) n (es++cs))⟩,?_,x.set q1 q2 w _,Nat.le_succ _,⟨.inr ⟨a,ver+1,[],rfl,q1,q2,?_⟩,hlen⟩,fun y _ hy=>Tr.get_put_neB _ _ _ _ trivial (hy a ver _ rfl)⟩
  ·simp only [gI,hu,a1,a2,and_self,if_true,bS q3,hb,h1,h2,List.drop_zero,List.take_left',List.length_append]
  ·rw [List.append_nil];exact Tr.get_put_sameB _ _ _ trivial
theorem Own.push {S0 S:St} {n b:Nat} {v:V} {es:List (List V)} (h:Own S0 S n v es) (x:Ext S0 S) (w:WF S0) {u:V} {cs:List (List V)} (hu:bC S u=.ok cs) (hc:∀ c,c∈cs→c.length=n∧aG c=true) (hne:cs≠[])
  (h1:(es.length+cs.length)*b≤35184372088832) (h2:es.length+cs.length<eC):∃ v' S',gI n b v u none S=.ok (v',S')∧Ext S0 S'∧S'.next≤S.next+1∧Own S0 S' n v' (es++cs):=by
 obtain ⟨v',S',q1,q2,q3,q4,_⟩:=h.pushK x w hu hc hne h1 h2
 exact ⟨v',S',q1,q2,q3,q4⟩
theorem Own.set {S0 S:St} {n:Nat} {v:V} {es:List (List V)} (h:Own S0 S n v es) (x:Ext S0 S) (w:WF S0) {i:Nat} {cs:List V} (hi:es[i]?=some cs) (k:IntKind):
  ∃ p,gF n v (.int k (i:Int))=.ok p∧At S p cs∧∀ (j m:Nat) (u:V),u.cells.length=m→aG u.cells=true→j+m≤n→∃ S',gE m (adv j p) u S=.ok S'∧Ext S0 S'∧S'.next=S.next∧Own S0 S' n v (es.set i (splice cs j u.cells)) ∧
   ∀ S1,Ext S1 S→(∀ a ver,v=.sl a ver n 0 es.length→S1.next≤a)→WF S1→Ext S1 S':=by
 have hil:i<es.length:=(List.getElem?_eq_some_iff.1 hi).1
 have hl:=h.len cs (List.mem_of_getElem? hi)
 rcases h.is with ⟨rfl,rfl⟩ | ⟨a,ver,tl,rfl,q1,q2,q3⟩
 ·simp at hil
 ·have hg:(es++tl)[0+i]?=some cs:=by rw [Nat.zero_add,List.getElem?_append_left hil];exact hi
  refine ⟨.ptr a ver (0+i) 0,by simp only [gF,iF hil,if_true],.inl ⟨a,ver,0+i,n,es++tl,rfl,bS q3,hg⟩,fun j m u hu ho hj=>?_⟩
  have hsl:(splice cs j u.cells).length=n:=by simp only [splice,List.length_append,List.length_take,List.length_drop];omega
  have hso:aG (splice cs j u.cells)=true:=by
   have h1:=hl.2
   simp only [aG,List.all_eq_true] at h1 ho ⊢
   intro y hy
   simp only [splice,List.mem_append] at hy
   rcases hy with hy | hy | hy
   ·exact h1 y (List.mem_of_mem_take hy)
   ·exact ho y hy
   ·exact h1 y (List.mem_of_mem_drop hy)
  have hst:gE m (adv j (.ptr a ver (0+i) 0)) u S=.ok ⟨S.next,S.heap.put a (.row ver n ((es++tl).set (0+i) (splice cs j u.cells)))⟩:=by
   have hj':0+j+u.cells.length≤cs.length:=by omega
   simp only [adv,gE,bS q3,hg,hu,ho,true_and]
   rw [if_pos (by omega)]
   simp only [Nat.zero_add]
  have hset:(es++tl).set (0+i) (splice cs j u.cells)=es.set i (splice cs j u.cells)++tl:=by rw [Nat.zero_add,List.set_append_left _ _ hil]
  refine ⟨_,hst,x.set q1 q2 w _,rfl,⟨.inr ⟨a,ver,tl,by rw [List.length_set],q1,q2,?_⟩,fun c hc=>?_⟩,fun S1 x1 ha w1=>x1.set (ha a ver rfl) q2 w1 _⟩
  ·rw [hset];exact Tr.get_put_sameB _ _ _ trivial
  ·rcases List.mem_or_eq_of_mem_set hc with hc | rfl
   ·exact h.len c hc
   ·exact ⟨hsl,hso⟩
theorem aQ6 {P:Program} {T:TypeId} {n b:Nat} (h:apT P T=some (n,b)):∃ e,hN P T=some e∧jO P e=true∧sz P e=n∧P.bytesOf e=b:=by
 unfold apT at h
 split at h
 ·cases h
 ·rename_i e he
  rw [cond_eq_ite] at h
  split at h
  ·rename_i hz;cases h;exact ⟨e,he,hz,rfl,rfl⟩
  ·cases h
theorem Own.insertK {P:Program} {T:TypeId} {n b:Nat} (hT:apT P T=some (n,b)) (hn:1<n) {S0 S:St} {v:V} {es:List (List V)} (h:Own S0 S n v es) (x:Ext S0 S) (w:WF S0) {bx:Nat} {c:List V} (hb:aB S bx 0=.ok (n,[c]))
  (hne:∀ a ver m,v=.sl a ver n 0 m→a≠bx) (hc:c.length=n∧aG c=true) (h1:(es.length+1)*b≤35184372088832) (h2:es.length+1<eC) {i:Nat} (hi:i≤es.length):
  ∃ v' S',fS P T v (.int .i64 (i:Int)) (.sl bx 0 n 0 1) S=.ok (v',S')∧Ext S0 S'∧Own S0 S' n v' (es.take i++c::es.drop i)∧∀ y,y<S.next→(∀ a ver m,v=.sl a ver n 0 m→y≠a)→S'.heap.get y=S.heap.get y:=by
 obtain ⟨e,he,hz,hsz,hby⟩:=aQ6 hT
 have hx:bC S (.sl bx 0 n 0 1)=.ok [c]:=by
  simp only [bC,hb]
  rfl
 have h1n:Nat.ble n 1=false:=by
  cases hq:Nat.ble n 1 with
  | false=>rfl
  | true=>exact absurd (Nat.le_of_ble_eq_true hq) (by omega)
 have hcs:∀ d,d∈[c]→d.length=n∧aG d=true:=fun d hd=>by cases hd with
  | head=>exact hc
  | tail _ hd=>cases hd
 have hlen:∀ d,d∈es.take i++c::es.drop i→d.length=n∧aG d=true:=by
  intro d hd
  rcases List.mem_append.1 hd with hd | hd
  ·exact h.len d (List.mem_of_mem_take hd)
  ·rcases List.mem_cons.1 hd with rfl | hd
   ·exact hc
   ·exact h.len d (List.mem_of_mem_drop hd)
 have hlt:(es.take i++c::es.drop i).length=es.length+1:=by simp only [List.length_append,List.length_take,List.length_cons,List.length_drop];omega
 by_cases hend:i=es.length
 ·subst hend
  obtain ⟨v',S',q1,q2,_,q3,q4⟩:=h.pushK (b:=b) x w hx hcs (by simp) h1 h2
  refine ⟨v',S',?_,q2,by simpa using q3,q4⟩
  rw [←cE hT] at q1
  unfold fS
  simp only [he,hx,hsz,h1n,Bool.false_or]
  rcases h.is with ⟨rfl,rfl⟩ | ⟨a,ver,tl,rfl,_⟩
  ·simp only [List.length_nil]
   show (bif Nat.beq 1 0 then _ else bif decide (((0:Nat):Int)=0) then _ else _)=_
   simp only [Int.natCast_zero,decide_true,cond_true]
   exact q1
  ·simp only [decide_true,cond_true]
   exact q1
 ·rcases h.is with ⟨rfl,rfl⟩ | ⟨a,ver,tl,rfl,p1,p2,p3⟩
  ·simp at hi;exact absurd hi hend
  ·have hab:Nat.beq a bx=false:=by
    cases hq:Nat.beq a bx with
    | false=>rfl
    | true=>exact absurd (Nat.eq_of_beq_eq_true hq) (hne a ver _ rfl)
   obtain ⟨a1,a2⟩:=dG hcs
   obtain ⟨_,a3⟩:=dG h.len
   have hb1:Nat.ble (0+es.length) (es++tl).length=true:=Nat.ble_eq_true_of_le (by simp)
   have hroom:room P e (es.length+[c].length)=true:=by
    simp only [room,hby,Bool.and_eq_true,Nat.ble_eq,Nat.blt_eq,List.length_cons,List.length_nil]
    exact ⟨h1,h2⟩
   have e1:decide ((i:Int)=((es.length:Nat):Int))=false:=decide_eq_false (by omega)
   have e2:decide ((i:Int)<0)=false:=decide_eq_false (by omega)
   have e3:decide (((es.length:Nat):Int)<(i:Int))=false:=decide_eq_false (by omega)
   refine ⟨.sl a (ver+1) n 0 (es.take i++c::es.drop i).length,⟨S.next,S.heap.put a (.row (ver+1) n (es.take i++c::es.drop i))⟩,?_,x.set p1 p2 w _,⟨.inr ⟨a,ver+1,[],rfl,p1,p2,?_⟩,hlen⟩,fun y _ hy=>Tr.get_put_neB _ _ _ _ trivial (hy a ver _ rfl)⟩
   ·unfold fS
    simp only [he,hx,hsz,h1n,Bool.false_or,e1,cond_false,hab,e2,e3,a1,a2,hz,Bool.and_self,Bool.not_true,bS p3,hb1,Nat.beq_refl,hroom,List.drop_zero,List.take_left',a3,cond_true,Int.toNat_natCast,hlt]
    rfl
   ·rw [List.append_nil];exact Tr.get_put_sameB _ _ _ trivial
theorem Own.insert {P:Program} {T:TypeId} {n b:Nat} (hT:apT P T=some (n,b)) (hn:1<n) {S0 S:St} {v:V} {es:List (List V)} (h:Own S0 S n v es) (x:Ext S0 S) (w:WF S0) {bx:Nat} {c:List V} (hb:aB S bx 0=.ok (n,[c]))
  (hne:∀ a ver m,v=.sl a ver n 0 m→a≠bx) (hc:c.length=n∧aG c=true) (h1:(es.length+1)*b≤35184372088832) (h2:es.length+1<eC) {i:Nat} (hi:i≤es.length):
  ∃ v' S',fS P T v (.int .i64 (i:Int)) (.sl bx 0 n 0 1) S=.ok (v',S')∧Ext S0 S'∧Own S0 S' n v' (es.take i++c::es.drop i):=by
 obtain ⟨v',S',q1,q2,q3,_⟩:=h.insertK hT hn x w hb hne hc h1 h2 hi
 exact ⟨v',S',q1,q2,q3⟩
theorem Own.delete {P:Program} {T e:TypeId} {n:Nat} {z:List V} (he:hN P T=some e) (hz:rT P e=some z) (hsz:sz P e=n) {S0 S:St} {v:V} {es:List (List V)} (h:Own S0 S n v es) (x:Ext S0 S) (w:WF S0)
  (h2:es.length<eC) {i:Nat} (hi:i<es.length):
  ∃ v' S',nZ P T v (.int .i64 (i:Int)) (.int .i64 ((i:Int)+1)) S=.ok (v',S')∧Ext S0 S'∧Own S0 S' n v' (es.take i++es.drop (i+1)):=by
 have hlen:∀ d,d∈es.take i++es.drop (i+1)→d.length=n∧aG d=true:=by
  intro d hd
  rcases List.mem_append.1 hd with hd | hd
  ·exact h.len d (List.mem_of_mem_take hd)
  ·exact h.len d (List.mem_of_mem_drop hd)
 have hlt:(es.take i++es.drop (i+1)).length=es.length - 1:=by simp only [List.length_append,List.length_take,List.length_drop];omega
 rcases h.is with ⟨rfl,rfl⟩ | ⟨a,ver,tl,rfl,p1,p2,p3⟩
 ·simp at hi
 ·obtain ⟨_,a3⟩:=dG h.len
  have e1:decide ((i:Int)<0)=false:=decide_eq_false (by omega)
  have e2:decide ((i:Int)+1<(i:Int))=false:=decide_eq_false (by omega)
  have e3:decide (((es.length:Nat):Int)<(i:Int)+1)=false:=decide_eq_false (by omega)
  have e4:Nat.blt es.length eC=true:=Nat.ble_eq_true_of_le h2
  have e5:Nat.beq es.length 0=false:=by
   cases hq:Nat.beq es.length 0 with
   | false=>rfl
   | true=>have:=Nat.eq_of_beq_eq_true hq;omega
  have e6:decide ((i:Int)=(i:Int)+1)=false:=decide_eq_false (by omega)
  have hb1:Nat.ble (0+es.length) (es++tl).length=true:=Nat.ble_eq_true_of_le (by simp)
  have hj:((i:Int)+1).toNat=i+1:=by omega
  have hk:i+1 - i=1:=by omega
  have hrow:kP (es++tl) (0+i) (es.drop (i+1)++[z])=(es.take i++es.drop (i+1))++(z::tl):=by
   unfold kP
   rw [Nat.zero_add,List.take_append_of_le_length (by omega)]
   have:i+(es.drop (i+1)++[z]).length=es.length+0:=by simp only [List.length_append,List.length_drop,List.length_cons,List.length_nil];omega
   rw [this,List.drop_length_add_append]
   simp
  refine ⟨.sl a ver n 0 (es.length - 1),⟨S.next,S.heap.put a (.row ver n ((es.take i++es.drop (i+1))++(z::tl)))⟩,?_,x.set p1 p2 w _,⟨.inr ⟨a,ver,z::tl,by rw [hlt],p1,p2,Tr.get_put_sameB _ _ _ trivial⟩,hlen⟩⟩
  unfold nZ
  simp only [he,e1,e2,e3,e4,e5,e6,Bool.or_false,Bool.not_true,cond_false,hz,hsz,bS p3,Nat.beq_refl,hb1,Bool.true_and,List.drop_zero,List.take_left',a3,cond_true,Int.toNat_natCast,hj,hk,List.replicate_one,hrow]
end Go.AM
namespace Go.AM
theorem Ext.newAt {S:St} {k:Nat} (hk:S.heap.get k=none) (hk2:k<S.next) (b:Blk):Ext S ⟨S.next,S.heap.put k b⟩:=by
 refine ⟨fun a d hd=>?_,Nat.le_refl _,fun w a d hd=>?_⟩
 ·show (S.heap.put k _).get a=some d
  rw [Tr.get_put_neB _ _ _ _ trivial (fun e=>by rw [e,hk] at hd;cases hd)];exact hd
 ·have hd':(S.heap.put k b).get a=some d:=hd
  rw [Tr.get_putB _ _ _ _ trivial] at hd'
  split at hd'
  ·show a<S.next;omega
  ·exact w a d hd'
end Go.AM
namespace Go.AM
theorem Own.other {S0 S S':St} {n:Nat} {v:V} {es:List (List V)} (h:Own S0 S n v es) (hn:S.next≤S'.next) (hg:∀ a ver m,v=.sl a ver n 0 m→S'.heap.get a=S.heap.get a):Own S0 S' n v es:=by
 refine ⟨?_,h.len⟩
 rcases h.is with h1 | ⟨a,ver,tl,h1,h2,h3,h4⟩
 ·exact .inl h1
 ·exact .inr ⟨a,ver,tl,h1,h2,Nat.lt_of_lt_of_le h3 hn,by rw [hg a ver _ h1];exact h4⟩
theorem Own.setK {S0 S:St} {n:Nat} {v:V} {es:List (List V)} (h:Own S0 S n v es) (x:Ext S0 S) (w:WF S0) {i:Nat} {cs:List V} (hi:es[i]?=some cs) (k:IntKind):
  ∃ a ver,v=.sl a ver n 0 es.length∧S0.next≤a∧a<S.next∧gF n v (.int k (i:Int))=.ok (.ptr a ver i 0)∧At S (.ptr a ver i 0) cs ∧
   ∀ (j m:Nat) (u:V),u.cells.length=m→aG u.cells=true→j+m≤n→∃ S',gE m (.ptr a ver i j) u S=.ok S'∧Ext S0 S'∧S'.next=S.next∧Own S0 S' n v (es.set i (splice cs j u.cells))∧(∀ y,y≠a→S'.heap.get y=S.heap.get y)∧(WF S→WF S'):=by
 have hil:i<es.length:=(List.getElem?_eq_some_iff.1 hi).1
 rcases h.is with ⟨rfl,rfl⟩ | ⟨a,ver,tl,rfl,q1,q2,q3⟩
 ·simp at hil
 ·obtain ⟨p,hp,hat,hset⟩:=h.set x w hi k
  have hpe:p=.ptr a ver (0+i) 0:=by
   simp only [gF,iF hil,if_true] at hp
   cases hp;rfl
  subst hpe
  rw [Nat.zero_add] at hp hat hset
  refine ⟨a,ver,rfl,q1,q2,hp,hat,fun j m u hu ho hj=>?_⟩
  obtain ⟨S',t1,t2,t3,t4,_⟩:=hset j m u hu ho hj
  have t1':gE m (.ptr a ver i j) u S=.ok S':=by
   have:adv j (.ptr a ver i 0)=.ptr a ver i j:=by simp only [adv,Nat.zero_add]
   rw [←this];exact t1
  have hS':∃ b,S'=⟨S.next,S.heap.put a b⟩:=by
   have hg:(es++tl)[i]?=some cs:=by rw [List.getElem?_append_left hil];exact hi
   simp only [gE,bS q3,hg] at t1'
   split at t1'
   ·cases t1';exact ⟨_,rfl⟩
   ·cases t1'
  obtain ⟨b,rfl⟩:=hS'
  refine ⟨_,t1',t2,rfl,t4,fun y hy=>Tr.get_put_neB _ _ _ _ trivial hy,fun ww y d hd=>?_⟩
  have hd':(S.heap.put a b).get y=some d:=hd
  rw [Tr.get_putB _ _ _ _ trivial] at hd'
  split at hd'
  ·show y<S.next;omega
  ·exact ww y d hd'
theorem zX {S:St} {a ver n:Nat} {el:List (List V)} (h:aB S a ver=.ok (n,el)):S.heap.get a=some (.row ver n el):=by
 unfold aB at h
 split at h
 ·rename_i v es elems hg
  rw [cond_eq_ite] at h
  split at h
  ·rename_i hb
   have:=Nat.eq_of_beq_eq_true hb
   cases h
   subst this
   exact hg
  ·cases h
 ·cases h
end Go.AM
end
section
set_option linter.unusedSimpArgs false
set_option linter.unusedVariables false
namespace Go.AM
structure D (b:Nat) (S S':St):Prop where
 next:S.next≤S'.next
 dead:∀ a,a<b→S.heap.get a=none→S'.heap.get a=none
section
variable {P:Program} {b:Nat} {S S':St} {fr:Option Nat}
end
end Go.AM
namespace Go.AM
end Go.AM
end
section
namespace Go.AM
section
section
variable {P:Program} {pl:hZ} {lv:bBy}
end
theorem Sl.nilv (S:St) (n:Nat):Sl S n .nils []:=⟨.inl ⟨rfl,rfl⟩,fun _ h=>by cases h⟩
structure But (a:Nat) (S S':St):Prop where
 old:∀ y b,y≠a→S.heap.get y=some b→S'.heap.get y=some b
 next:S.next≤S'.next
 wf:WF S→WF S'
theorem But.of {a:Nat} {S S':St} (x:Ext S S'):But a S S':=⟨fun y b _ h=>x.old y b h,x.next,x.wf⟩
theorem But.trans {a:Nat} {A B C:St} (h:But a A B) (k:But a B C):But a A C:=⟨fun y b hy q=>k.old y b hy (h.old y b hy q),Nat.le_trans h.next k.next,fun w=>k.wf (h.wf w)⟩
theorem But.put {a:Nat} {S:St} (ha:a<S.next) (b:Blk):But a S ⟨S.next,S.heap.put a b⟩:=by
 refine ⟨fun y c hy h=>?_,Nat.le_refl _,fun w y c hc=>?_⟩
 ·show (S.heap.put a b).get y=some c
  rw [Tr.get_put_neB _ _ _ _ trivial hy];exact h
 ·have hc':(S.heap.put a b).get y=some c:=hc
  rw [Tr.get_putB _ _ _ _ trivial] at hc'
  split at hc'
  ·show y<S.next;omega
  ·exact w y c hc'
def blkOf:V→Option Nat
 | .sl a _ _ _ _=>some a
 | _=>none
theorem gG {S0 S:St} {n:Nat} {v:V} {es:List (List V)} (h:Own S0 S n v es) {y:Nat} (hy:blkOf v=some y):S0.next≤y∧y<S.next:=by
 rcases h.is with ⟨e1,_⟩ | ⟨a,ver,tl,e1,e2,e3,_⟩
 ·rw [e1] at hy;cases hy
 ·rw [e1] at hy;cases hy;exact ⟨e2,e3⟩
theorem Own.same {S0 S S':St} {n:Nat} {v:V} {es:List (List V)} (h:Own S0 S n v es) (hn:S.next≤S'.next) (hg:∀ a,blkOf v=some a→S'.heap.get a=S.heap.get a):Own S0 S' n v es:=
 h.other hn fun a ver m hv=>hg a (by rw [hv];rfl)
theorem Own.pushAt {S0 S:St} {n b:Nat} {v:V} {es:List (List V)} (h:Own S0 S n v es) (x:Ext S0 S) (w:WF S0) {u:V} {cs:List (List V)} (hu:bC S u=.ok cs) (hc:∀ c,c∈cs→c.length=n∧aG c=true) (hne:cs≠[])
  {k:Nat} (hk:S0.next≤k) (hk2:k<S.next) (hk3:S.heap.get k=none)
  (h1:(es.length+cs.length)*b≤35184372088832) (h2:es.length+cs.length<eC):∃ v' S',gI n b v u (some k) S=.ok (v',S')∧Ext S0 S'∧S'.next=S.next∧Own S0 S' n v' (es++cs)∧(blkOf v'=some k∨blkOf v'=blkOf v)∧∀ y,y≠k→blkOf v≠some y→S'.heap.get y=S.heap.get y:=by
 obtain ⟨a1,a2⟩:=dG hc
 have hlen:∀ c,c∈es++cs→c.length=n∧aG c=true:=fun c hm=>(List.mem_append.1 hm).elim (h.len c) (hc c)
 rcases h.is with ⟨rfl,rfl⟩ | ⟨a,ver,tl,rfl,q1,q2,q3⟩
 ·cases cs with
  | nil=>exact absurd rfl hne
  | cons c cs=>
   refine ⟨.sl k 0 n 0 (c::cs).length,⟨S.next,S.heap.put k (.row 0 n (c::cs))⟩,?_,x.trans (Ext.newAt hk3 hk2 _),rfl,⟨.inr ⟨k,0,[],rfl,hk,hk2,?_⟩,hlen⟩,.inl rfl,fun y hy _=>Tr.get_put_neB _ _ _ _ trivial hy⟩
   ·simp only [List.length_nil,Nat.zero_add] at h1 h2
    simp only [gI,hu,a1,a2,and_self,if_true,h1,h2,rW]
   ·rw [List.append_nil];exact Tr.get_put_sameB _ _ _ trivial
 ·have hb:0+es.length≤es.length+tl.length:=by omega
  refine ⟨.sl a (ver+1) n 0 (es++cs).length,⟨S.next,S.heap.put a (.row (ver+1) n (es++cs))⟩,?_,x.set q1 q2 w _,rfl,⟨.inr ⟨a,ver+1,[],rfl,q1,q2,?_⟩,hlen⟩,.inr rfl,fun y _ hy=>Tr.get_put_neB _ _ _ _ trivial (fun e=>hy (by rw [e];rfl))⟩
  ·simp only [gI,hu,a1,a2,and_self,if_true,bS q3,hb,h1,h2,List.drop_zero,List.take_left',List.length_append]
  ·rw [List.append_nil];exact Tr.get_put_sameB _ _ _ trivial
theorem vb {S:St} (w:WF S) (n:Nat) (zs:List V) (x:V) (hz:zs.length=n) (hx:x.cells.length=n) (ho:aG x.cells=true):
  ∃ S1 S2,aW none S (.row 0 n [zs])=.ok (S.next,S1)∧gE n (.ptr S.next 0 0 0) x S1=.ok S2∧Ext S S2∧S2.heap.get S.next=some (.row 0 n [x.cells])∧S2.next=S.next+1:=
 ⟨_,_,gS ..,aO8 S n zs x hz hx ho,Ext.var w n zs x.cells,zX (aV7 S n zs x.cells),rfl⟩
theorem Sl.keep {S S':St} {n:Nat} {v:V} {es:List (List V)} (h:Sl S n v es) (hg:∀ y c,blkOf v=some y→S.heap.get y=some c→S'.heap.get y=some c):Sl S' n v es:=by
 refine ⟨?_,h.len⟩
 rcases h.is with h1 | h1 | ⟨a,ver,off,elems,h1,h2,h3⟩
 ·exact .inl h1
 ·exact .inr (.inl h1)
 ·exact .inr (.inr ⟨a,ver,off,elems,h1,bS (hg a _ (by rw [h1];rfl) (zX h2)),h3⟩)
mutual
theorem xP:∀ v:V,eE v v=true
 | .bool b=>by simp [eE]
 | .int k n=>by simp [eE,cC]
 | .str s=>by rw [eE];rw [cL];simp
 | .nilp=>rfl
 | .ptr a b c d=>by simp [eE]
 | .iptr a b=>by simp [eE,beqVs_refl a]
 | .nils=>rfl
 | .sl a b c d f=>by simp [eE]
 | .imm a=>by simp [eE,beqVss_refl a]
 | .agg a=>by simp [eE,beqVs_refl a]
 | .tup a=>by simp [eE,beqVs_refl a]
 | .nili=>rfl
 | .iface t a=>by simp [eE,xP a]
 | .nilf=>rfl
 | .func f a b=>by simp [eE,beqVs_refl a,beqVs_refl b]
 | .nilm=>rfl
 | .mp a=>by simp [eE]
 | .res a b=>by simp [eE]
theorem beqVs_refl:∀ l:List V,beqVs l l=true
 | []=>rfl
 | a::l=>by simp [beqVs,xP a,beqVs_refl l]
theorem beqVss_refl:∀ l:List (List V),beqVss l l=true
 | []=>rfl
 | a::l=>by simp [beqVss,beqVs_refl a,beqVss_refl l]
end
end
section
mutual
def tS:V→Bool
 | .ptr _ _ _ _=>false
 | .nils=>false
 | .sl _ _ _ _ _=>false
 | .agg cs=>cloVs cs
 | .tup cs=>cloVs cs
 | .iface _ v=>tS v
 | .func _ a b=>cloVs a&&cloVs b
 | .mp _=>false
 | _=>true
def cloVs:List V→Bool
 | []=>true
 | v::l=>tS v&&cloVs l
end
mutual
theorem sA {ρ:Nat→Option Nat} {σ:V→R V}:∀ (v:V),tS v=true→cD ρ σ v=.ok v
 | .bool _,_ | .int _ _,_ | .str _,_ | .nilp,_ | .iptr _ _,_ | .imm _,_ | .nili,_ | .nilf,_ | .nilm,_ | .res _ _,_=>rfl
 | .agg cs,h=>by simp only [cD,clo_frzs cs h]
 | .tup cs,h=>by simp only [cD,clo_frzs cs h]
 | .iface t v,h=>by simp only [cD,sA v h]
 | .func f a b,h=>by
  simp only [tS,Bool.and_eq_true] at h
  simp only [cD,clo_frzs a h.1,clo_frzs b h.2]
theorem clo_frzs {ρ:Nat→Option Nat} {σ:V→R V}:∀ (l:List V),cloVs l=true→frzVs ρ σ l=.ok l
 | [],_=>rfl
 | v::l,h=>by
  simp only [cloVs,Bool.and_eq_true] at h
  simp only [frzVs,sA v h.1,clo_frzs l h.2]
end
mutual
theorem vS:∀ (v:V),tS v=true→sN v=[]
 | .bool _,_ | .int _ _,_ | .str _,_ | .nilp,_ | .iptr _ _,_ | .imm _,_ | .nili,_ | .nilf,_ | .nilm,_ | .res _ _,_=>rfl
 | .agg cs,h=>clo_ptrs cs h
 | .tup cs,h=>clo_ptrs cs h
 | .iface t v,h=>vS v h
 | .func f a b,h=>by
  simp only [tS,Bool.and_eq_true] at h
  simp only [sN,clo_ptrs a h.1,clo_ptrs b h.2,List.append_nil]
theorem clo_ptrs:∀ (l:List V),cloVs l=true→ptrsVs l=[]
 | [],_=>rfl
 | v::l,h=>by
  simp only [cloVs,Bool.and_eq_true] at h
  simp only [ptrsVs,vS v h.1,clo_ptrs l h.2,List.append_nil]
end
mutual
theorem aFh {τ:V→List Nat}:∀ (v:V),tS v=true→eS τ v=[]
 | .bool _,_ | .int _ _,_ | .str _,_ | .nilp,_ | .iptr _ _,_ | .imm _,_ | .nili,_ | .nilf,_ | .nilm,_ | .res _ _,_=>rfl
 | .agg cs,h=>clo_sls cs h
 | .tup cs,h=>clo_sls cs h
 | .iface t v,h=>aFh v h
 | .func f a b,h=>by
  simp only [tS,Bool.and_eq_true] at h
  simp only [eS,clo_sls a h.1,clo_sls b h.2,List.append_nil]
theorem clo_sls {τ:V→List Nat}:∀ (l:List V),cloVs l=true→slsVs τ l=[]
 | [],_=>rfl
 | v::l,h=>by
  simp only [cloVs,Bool.and_eq_true] at h
  simp only [slsVs,aFh v h.1,clo_sls l h.2,List.append_nil]
end
theorem aB5:aCe []=jF:=by funext i;cases i<;>rfl
theorem qW (l:List Nat):(l.any fun a=>Nat.blt a 0)=false:=by
 rw [List.any_eq_false]
 intro a _
 simp
def jU (S:St) (v:V):R V:=cD jF (kR (hU S 3) S) v
theorem aQ7 {run:List V→St→R (V×St)} {args:List V} (hc:cloVs args=true) {S S0:St} {v0 v:V} (h:run args ⟨0,.nil⟩=.ok (v0,S0)) (ho:jU S0 v0=.ok v):uS run args S=.ok (v,S):=by
 unfold uS
 have h1:fJ (ptrsVs args)=[]:=by rw [clo_ptrs args hc];rfl
 have h2:slsVs (iO (fR S 3) S) args=[]:=clo_sls args hc
 have ho':cD (aCe []) (kR (hU S0 3) S0) v0=.ok v:=by rw [aB5];exact ho
 rw [h1,h2]
 simp only [clo_frzs args hc,hY,cU,List.append_nil,List.any_nil,cond_false,List.length_nil,uR,h,ho',rV,qW]
 cases iQ v&&sO []<;>rfl
section
variable {P:Program} {pl:hZ}
def W (P:Program) (pl:hZ):aN:=fun f args S K=>∃ v S',Evt (fun k=>dY P pl k f args S) (v,S')∧K v S'
theorem aQ8:mD (dY P pl) (W P pl):=fun f args S K h=>h
theorem aJa {f:FuncId} {args:List V} {S S':St} {v:V} (h:Evt (fun k=>dY P pl k f args S) (v,S')) (K:KW):W P pl f args S K=K v S':=by
 refine propext ⟨?_,fun h1=>⟨v,S',h,h1⟩⟩
 rintro ⟨v1,S1,h1,h2⟩
 cases h.eq h1
 exact h2
theorem nF {f:FuncId} {args:List V} {S:St} {r:V×St} (h:Evt (fun k=>dY P pl (k+1) f args S) r):Evt (fun k=>dY P pl k f args S) r:=by
 obtain ⟨N,h⟩:=h
 refine ⟨N+1,fun k hk=>?_⟩
 obtain ⟨k,rfl⟩:∃ m,k=m+1:=⟨k - 1,by omega⟩
 exact h k (by omega)
theorem aJb {f:FuncId} {p:Nat→Option (List bF)} (hpl:pl f=some (.code p)) {lv:Nat→List Nat} {args:List V} {S:St} {K:KW} (h:eX P (W P pl) p lv f args S K):W P pl f args S K:=by
 obtain ⟨v,S',h1,h2⟩:=lP aQ8 h
 exact ⟨v,S',nF (h1.one fun k h1=>by simp only [dY,hpl];exact h1),h2⟩
theorem aJc {f:FuncId} {g:List V→St→R (V×St)} (hpl:pl f=some (.spec g)) {args:List V} {S S':St} {v:V} (h:g args S=.ok (v,S')) (K:KW):W P pl f args S K=K v S':=
 aJa (nF (.of fun k=>by simp only [dY,hpl,h])) K
def Fn (P:Program) (pl:hZ) (f:FuncId) (args:List V) (v:V):Prop:=∀ S,Evt (fun k=>dY P pl k f args S) (v,S)
theorem Fn.eq {f:FuncId} {args:List V} {v:V} (h:Fn P pl f args v) (S:St) (K:KW):W P pl f args S K=K v S:=aJa (h S) K
theorem Fn.of {f:FuncId} {p:Nat→Option (List bF)} (hpl:pl f=some (.val p)) {lv:Nat→List Nat} {args:List V} {v:V} (hc:cloVs args=true)
  (h:eX P (W P pl) p lv f args ⟨0,.nil⟩ fun v0 S0=>jU S0 v0=.ok v):Fn P pl f args v:=by
 obtain ⟨v0,S0,h1,h2⟩:=lP aQ8 h
 exact fun S=>nF (h1.one fun k h1=>by simp only [dY,hpl];exact aQ7 hc h1 h2)
structure Pt (mk:Nat→List V):Prop where
 ptr:∀ a,fJ (ptrsVs (mk a))=[a]
 frz:∀ a σ,frzVs (fun b=>pN b 0 [a]) σ (mk a)=.ok (mk 0)
 sls:∀ a τ,slsVs τ (mk a)=[]
theorem Pt.head {ver i j:Nat} {args:List V} (hc:cloVs args=true):Pt fun a=>.ptr a ver i j::args:=
 ⟨fun a=>by simp only [ptrsVs,sN,clo_ptrs args hc];rfl,fun a σ=>by simp only [frzVs,cD,pN,Nat.beq_refl,cond_true,clo_frzs args hc],fun a τ=>by simp only [slsVs,eS,clo_sls args hc,List.append_nil]⟩
theorem Pt.next {v:V} {mk:Nat→List V} (hv:tS v=true) (h:Pt mk):Pt fun a=>v::mk a:=
 ⟨fun a=>by simp only [ptrsVs,vS v hv,List.nil_append];exact h.ptr a,fun a σ=>by simp only [frzVs,sA v hv,h.frz],fun a τ=>by simp only [slsVs,aFh v hv,h.sls,List.append_nil]⟩
theorem Pt.func {f:FuncId} {ver i j:Nat} {args:List V} (hc:cloVs args=true):Pt fun a=>.func f [] [.ptr a ver i j]::args:=
 ⟨fun a=>by simp only [ptrsVs,sN,clo_ptrs args hc];rfl,fun a σ=>by simp only [frzVs,cD,pN,Nat.beq_refl,cond_true,clo_frzs args hc],fun a τ=>by simp only [slsVs,eS,clo_sls args hc,List.append_nil]⟩
def FnR (P:Program) (pl:hZ) (f:FuncId) (mk:Nat→List V) (ver n:Nat) (pre:List (List V)) (v:V) (post:List (List V)):Prop:=
 ∀ S a,S.heap.get a=some (.row ver n pre)→Evt (fun k=>dY P pl k f (mk a) S) (v,⟨S.next,S.heap.put a (.row ver n post)⟩)
theorem aL1 {φ:List V→R (List V)}:∀ {l:List (List V)},(∀ x,x∈l→φ x=.ok x)→kQ φ l=.ok l
 | [],_=>rfl
 | x::l,h=>by simp only [kQ,h x (List.mem_cons_self ..),aL1 fun y hy=>h y (List.mem_cons_of_mem _ hy)]
theorem aHc {φ:List V→List Nat}:∀ {l:List (List V)},(∀ x,x∈l→φ x=[])→kS φ l=[]
 | [],_=>rfl
 | x::l,h=>by simp only [kS,h x (List.mem_cons_self ..),aHc fun y hy=>h y (List.mem_cons_of_mem _ hy),List.append_nil]
theorem aV8 {S:St} {n:Nat} {x:List V} (h:cloVs x=true):hU S (n+1) x=.ok x:=clo_frzs x h
theorem aV9 {S:St} {n:Nat} {x:List V} (h:cloVs x=true):fR S (n+1) x=[]:=clo_sls x h
theorem lQ {S:St} {n:Nat} {l:List (List V)} (h:l.all cloVs=true):kQ (hU S (n+1)) l=.ok l∧kS (fR S (n+1)) l=[]:=
 ⟨aL1 fun x hx=>aV8 (List.all_eq_true.1 h x hx),aHc fun x hx=>aV9 (List.all_eq_true.1 h x hx)⟩
theorem aQ9 {run:List V→St→R (V×St)} {mk:Nat→List V} (hm:Pt mk) {a ver n:Nat} {pre post post0:List (List V)} (hp:pre.all cloVs=true) {S S0:St} {v0 v:V} (hS:S.heap.get a=some (.row ver n pre))
  (h:run (mk 0) ⟨1,Tr.nil.put 0 (.row ver n pre)⟩=.ok (v0,S0)) (ho:∀ ρ,cD ρ (kR (hU S0 3) S0) v0=.ok v) (hs:(eS (iO (fR S0 3) S0) v0).any (fun a=>Nat.blt a 1)=false) (h0:S0.heap.get 0=some (.row ver n post0)) (hq:kQ (hU S0 3) post0=.ok post)
  (hs2:(kS (fR S0 3) post0).any (fun a=>Nat.blt a 1)=false):uS run (mk a) S=.ok (v,⟨S.next,S.heap.put a (.row ver n post)⟩):=by
 unfold uS
 obtain ⟨q1,q2⟩:=lQ (S:=S) (n:=2) hp
 rw [hm.ptr,hm.sls]
 have hA:([]++cU S [a])=[]:=by simp only [cU,hS,q2,List.append_nil]
 have hB:(eS (iO (fR S0 3) S0) v0++cU S0 (rV 0 1)).any (fun a=>Nat.blt a 1)=false:=by
  simp only [rV,cU,h0,List.append_nil,List.any_append,hs,hs2,Bool.or_false]
 rw [hA]
 simp only [hm.frz,hY,hS,q1,List.any_nil,cond_false,List.length_cons,List.length_nil,Nat.zero_add,uR,h,ho,hB,oI]
 have:hY S0 (rV 0 1)=.ok [(ver,n,post)]:=by simp only [rV,hY,h0,hq]
 rw [this]
 simp only [pO,oI]
 cases iQ v&&sO [(ver,n,post)]<;>rfl
theorem FnR.of {f:FuncId} {p:Nat→Option (List bF)} (hpl:pl f=some (.val p)) {lv:Nat→List Nat} {mk:Nat→List V} (hm:Pt mk) {ver n:Nat} {pre post:List (List V)} {v:V} (hp:pre.all cloVs=true)
  (h:eX P (W P pl) p lv f (mk 0) ⟨1,Tr.nil.put 0 (.row ver n pre)⟩ fun v0 S0=>v0=v∧S0.heap.get 0=some (.row ver n post)) (hv:tS v=true) (hq:post.all cloVs=true):FnR P pl f mk ver n pre v post:=by
 obtain ⟨v0,S0,h1,rfl,h2⟩:=lP aQ8 h
 intro S a hS
 obtain ⟨q1,q2⟩:=lQ (S:=S0) (n:=2) hq
 refine nF (h1.one fun k h1=>?_)
 simp only [dY,hpl]
 exact aQ9 hm hp hS h1 (fun ρ=>sA v0 hv) (by rw [aFh v0 hv];rfl) h2 q1 (by rw [q2];rfl)
theorem FnR.eq {f:FuncId} {mk:Nat→List V} {ver n:Nat} {pre post:List (List V)} {v:V} (h:FnR P pl f mk ver n pre v post) {S:St} {a:Nat} (hS:S.heap.get a=some (.row ver n pre)) (K:KW):
  W P pl f (mk a) S K=K v ⟨S.next,S.heap.put a (.row ver n post)⟩:=aJa (h S a hS) K
theorem aB6 {α:Type}:∀ (f:Nat) (t:Tr α) (n:Nat) (x:α),t.get n=some x→Tr.set f t n x=t
 | 0,t,n,x,_=>rfl
 | f+1,.nil,n,x,h=>by cases h
 | f+1,.node l v r,n,x,h=>by
  rw [Tr.get_node] at h
  simp only [Tr.set,cond_eq_ite,Nat.beq_eq]
  by_cases h0:n=0
  ·rw [if_pos h0] at h ⊢;rw [h]
  ·rw [if_neg h0] at h ⊢
   by_cases h1:n % 2=1
   ·rw [if_pos h1] at h ⊢;rw [aB6 f l _ _ h]
   ·rw [if_neg h1] at h ⊢;rw [aB6 f r _ _ h]
theorem aQa {t:Tr Blk} {n:Nat} {x:Blk} (h:t.get n=some x):t.put n x=t:=aB6 _ t n x h
theorem FnR.eq_same {f:FuncId} {mk:Nat→List V} {ver n:Nat} {pre:List (List V)} {v:V} (h:FnR P pl f mk ver n pre v pre) {S:St} {a:Nat} (hS:S.heap.get a=some (.row ver n pre)) (K:KW):W P pl f (mk a) S K=K v S:=by
 rw [h.eq hS K,aQa hS]
theorem aQb {run:List V→St→R (V×St)} {args bs:List V} {S:St} (hb:frzVs jF (kR (hU S 3) S) args=.ok bs) (hp:ptrsVs args=[]) {S0:St} {v0 v:V} (h:run bs ⟨0,.nil⟩=.ok (v0,S0)) (ho:jU S0 v0=.ok v)
  (hk:iQ v=true∨slsVs (iO (fR S 3) S) args=[]):uS run args S=.ok (v,S):=by
 unfold uS
 have h1:fJ (ptrsVs args)=[]:=by rw [hp];rfl
 have ho':cD (aCe []) (kR (hU S0 3) S0) v0=.ok v:=by rw [aB5];exact ho
 have hi:(fun a=>pN a 0 ([]:List Nat))=jF:=rfl
 have hh:∀ l:List Nat,(l.any fun a=>fT a [])=false:=by intro l;rw [List.any_eq_false];intro a _;simp [fT]
 rw [h1]
 simp only [hi,hb,hY,cU,hh,cond_false,List.length_nil,uR,h,ho',rV,qW,List.append_nil]
 rcases hk with hk | hk
 ·rw [hk];rfl
 ·rw [hk]
  cases iQ v&&sO []<;>rfl
theorem Fn.frz {f:FuncId} {bs:List V} {v:V} (h:Fn P pl f bs v) {p:Nat→Option (List bF)} (hpl:pl f=some (.val p)) (hc:cloVs bs=true) {args:List V} {S:St} (hb:frzVs jF (kR (hU S 3) S) args=.ok bs) (hp:ptrsVs args=[]) (hk:iQ v=true∨slsVs (iO (fR S 3) S) args=[])
  (K:KW):W P pl f args S K=K v S:=by
 refine aJa ?_ K
 obtain ⟨N,h⟩:=h ⟨0,.nil⟩
 refine ⟨N+1,fun k hk'=>?_⟩
 obtain ⟨k,rfl⟩:∃ m,k=m+1:=⟨k - 1,by omega⟩
 have:=h (k+1) (by omega)
 simp only [dY,hpl] at this ⊢
 unfold uS at this
 have e1:fJ (ptrsVs bs)=[]:=by rw [clo_ptrs bs hc];rfl
 have e2:slsVs (iO (fR (⟨0,.nil⟩:St) 3) ⟨0,.nil⟩) bs=[]:=clo_sls bs hc
 rw [e1,e2] at this
 simp only [clo_frzs bs hc,hY,cU,List.append_nil,List.any_nil,cond_false,List.length_nil,uR,rV,qW] at this
 split at this
 ·cases this
 ·rename_i v0 S0 hrun
  split at this
  ·cases this
  ·rename_i v' hv'
   have hv:v'=v:=(Prod.mk.inj (Except.ok.inj this)).1
   subst hv
   rw [aB5] at hv'
   exact aQb hb hp hrun hv' hk
def qY (mask:List Nat) (v:V) (S2:St) (S:St):R (V×St):=match zH S2 mask 0 S.next v.cells with
 | .error e=>.error e
 | .ok r=>match hY S2 r.2 with
  | .error e=>.error e
  | .ok rows=>match oJ v r.1 with
   | .error e=>.error e
   | .ok v'=>bif aD4 r.2&&!(tE S2 mask 0 v.cells++cU S2 r.2).any (fun a=>fT a r.2) then .ok (v',⟨S.next+r.2.length,oI (rV S.next r.2.length) rows S.heap⟩) else .error "blocks"
theorem bC1 {f:FuncId} {p:Nat→Option (List bF)} {mask:List Nat} (hpl:pl f=some (.own p mask)) (hm:fT kpN mask=false) {lv:Nat→List Nat} {args:List V} (hc:cloVs args=true) {S:St} {K:KW}
  (h:eX P (W P pl) p lv f args ⟨0,.nil⟩ fun v0 S0=>wR (qY mask v0 S0 S) fun r=>K r.1 r.2):W P pl f args S K:=by
 obtain ⟨v0,S0,h1,h2⟩:=lP aQ8 h
 obtain ⟨r,h3,h4⟩:=bQ h2
 refine ⟨r.1,r.2,nF (h1.one fun k h1=>?_),h4⟩
 simp only [dY,hpl]
 unfold aIp aPj
 rw [hm]
 have e2:slsVs (iO (fR S 3) S) args=[]:=clo_sls args hc
 simp only [cond_false,clo_frzs args hc,h1,e2,pO]
 exact h3
def FnK (P:Program) (pl:hZ) (f:FuncId) (bs:List V) (v:V):Prop:=∀ (S:St) (args:List V),frzVs jF (kR (hU S 3) S) args=.ok bs→Evt (fun k=>dY P pl k f args S) (v,S)
theorem FnK.of {f:FuncId} {p:Nat→Option (List bF)} (hpl:pl f=some (.own p [kpN])) {lv:Nat→List Nat} {bs:List V} {v:V}
  (h:eX P (W P pl) p lv f bs ⟨0,.nil⟩ fun v0 S0=>aD5 S0 v0=true∧jU S0 v0=.ok v):FnK P pl f bs v:=by
 obtain ⟨v0,S0,h1,h2,h3⟩:=lP aQ8 h
 intro S args hb
 refine nF (h1.one fun k h1=>?_)
 simp only [dY,hpl]
 have h3:cD jF (kR (hU S0 3) S0) v0=.ok v:=h3
 have hm:fT kpN [kpN]=true:=rfl
 unfold aIp aGf
 simp only [hm,cond_true,hb,h1,h3,h2]
theorem FnK.eq {f:FuncId} {bs:List V} {v:V} (h:FnK P pl f bs v) (hc:cloVs bs=true) (S:St) (K:KW):W P pl f bs S K=K v S:=aJa (h S bs (clo_frzs bs hc)) K
theorem bAw {f:FuncId} {args:List V} {S:St} {K:KW} (h:W P pl f args S K):∃ k v S',K v S'∧dY P pl k f args S=.ok (v,S'):=by
 obtain ⟨v,S',⟨N,h⟩,k⟩:=h
 exact ⟨N,v,S',k,h N (Nat.le_refl _)⟩
theorem aDn {F:List V→St→(List V→St→Prop)→Prop} (n:Nat) (I:Nat→List V→St→Prop)
  (h:∀ i vs S,i≤n→I i vs S→∀ aD:List V→St→Prop,(∀ vs' S',i<n→I (i+1) vs' S'→aD vs' S')→F vs S aD) {vs:List V} {S:St} (h0:I 0 vs S):lN vs S F:=by
 have:∀ m i vs S,i+m=n→I i vs S→yF (m+1) vs S F:=by
  intro m
  induction m with
  | zero=>intro i vs S hi hI;exact h i vs S (by omega) hI _ fun vs' S' hlt _=>by omega
  | succ m ih=>intro i vs S hi hI;exact h i vs S (by omega) hI _ fun vs' S' hlt hI'=>ih (i+1) vs' S' (by omega) hI'
 exact ⟨n+1,this n 0 vs S (by omega) h0⟩
theorem aJd {F:List V→St→(List V→St→Prop)→Prop} (I:Nat→List V→St→Prop)
  (h:∀ i vs S,I i vs S→∀ aD:List V→St→Prop,(∀ j vs' S',j<i→I j vs' S'→aD vs' S')→F vs S aD) {n:Nat} {vs:List V} {S:St} (h0:I n vs S):lN vs S F:=by
 refine aDn n (fun i vs S=>∃ j,j+i≤n∧I j vs S) ?_ ⟨n,by omega,h0⟩
 rintro i vs S hi ⟨j,hj,hI⟩ aD ha
 exact h j vs S hI aD fun j' vs' S' hlt hI'=>ha vs' S' (by omega) ⟨j',by omega,hI'⟩
theorem aH {F:List V→St→(List V→St→Prop)→Prop} {α σ ρ:Type} (l:List α) {step:σ→α→ρ⊕σ} {fin:σ→ρ} (I:Nat→σ→List V→St→Prop) (E:ρ→Prop)
  (hs:∀ i a s vs S,l[i]?=some a→I i s vs S→∀ aD:List V→St→Prop,(match step s a with
   | .inl r=>E r
   | .inr s'=>∀ vs' S',I (i+1) s' vs' S'→aD vs' S')→F vs S aD)
  (he:∀ s vs S,I l.length s vs S→∀ aD:List V→St→Prop,E (fin s)→F vs S aD) {s:σ} {vs:List V} {S:St} (h0:I 0 s vs S) (hE:E (aC step fin l s)):lN vs S F:=by
 refine aDn l.length (fun i vs S=>∃ s,I i s vs S∧E (aC step fin (l.drop i) s)) ?_ ⟨s,h0,hE⟩
 rintro i vs S hi ⟨s,hI,hE⟩ aD ha
 by_cases hl:i=l.length
 ·subst hl
  rw [List.drop_length] at hE
  exact he s vs S hI aD hE
 ·have hlt:i<l.length:=by omega
  have ha':l[i]?=some l[i]:=List.getElem?_eq_getElem hlt
  rw [List.drop_eq_getElem_cons hlt] at hE
  refine hs i _ s vs S ha' hI aD ?_
  simp only [aC] at hE
  split
  ·rename_i r hr
   rw [hr] at hE;exact hE
  ·rename_i s' hr
   rw [hr] at hE
   exact fun vs' S' hI'=>ha vs' S' hlt ⟨s',hI',hE⟩
end
end
section
theorem aHd {d t:Nat} (h:d≠t):Nat.beq d t=false:=Bool.eq_false_iff.2 fun h'=>h (Nat.eq_of_beq_eq_true h')
theorem aQc {α:Type} {x y:R α} (K:α→Prop) (h:x=y):wR x K=wR y K:=by rw [h]
theorem aQd {α:Type} {x y:Option α} (K:α→Prop) (h:x=y):wO x K=wO y K:=by rw [h]
theorem aO9 {b c:Bool} (x:Prop) (h:b=c):vQ b x=vQ c x:=by rw [h]
theorem aHe {v w:V} (x y:Prop) (h:v=w):bN v x y=bN w x y:=by rw [h]
theorem aJe {v w:V} (i:Nat) (K:V→Prop) (h:v=w):jS v i K=jS w i K:=by rw [h]
theorem aOa {v w:List V} (K:V→List V→Prop) (h:v=w):wUn v K=wUn w K:=by rw [h]
theorem aJf {v w:V} (x:Prop) (h:v=w):xN v x=xN w x:=by rw [h]
theorem aHf {vs ws:List V} {S T:St} (F:List V→St→(List V→St→Prop)→Prop) (h:vs=ws) (g:S=T):lN vs S F=lN ws T F:=by rw [h,g]
theorem aVa (P:Program) (pl:hZ) (f:FuncId) {a b:List V} {S T:St} (K:KW) (h:a=b) (g:S=T):W P pl f a S K=W P pl f b T K:=by rw [h,g]
attribute [congr] aVa aQc aQd aO9 aHe aJe aOa aJf aHf
def wG:List Oper→Nat→(Nat→Prop)→Prop
 | [],_,_=>False
 | o::_,0,K=>wO o.dst K
 | _::l,j+1,K=>wG l j K
def wI:List Oper→Nat→(Oper→Prop)→Prop
 | [],_,_=>False
 | o::_,0,K=>K o
 | _::l,j+1,K=>wI l j K
theorem aDo (K:Oper→Prop):∀ (l:List Oper) (j:Nat),wO l.toArray[j]? K=wI l j K
 | [],j=>by simp [wO,wI]
 | o::l,0=>by simp [wO,wI]
 | o::l,j+1=>by rw [wI,←aDo K l j];simp
theorem aQe (K:Nat→Prop):∀ (l:List Oper) (j:Nat),wO (lD l.toArray j) K=wG l j K
 | [],j=>by simp [wO,wG,lD]
 | o::l,0=>by simp [wG,lD]
 | o::l,j+1=>by rw [wG,←aQe K l j];simp [lD]
def hl {α:Type} (a:α):α:=a
theorem aWx {α:Type} (a:α):hl a=a:=Eq.trans rfl rfl
def wLn:List Oper→List Nat→Nat→(Nat→Prop)→Prop
 | [],[],i,K=>K i
 | [],k::_,i,K=>K k
 | _::l,[],i,K=>wLn l [] (i+1) K
 | _::l,_::ks,i,K=>wLn l ks (i+1) K
def tU:Nat→List Nat→Prop
 | _,[]=>True
 | i,k::l=>k=i∧tU (i+1) l
theorem aJg (K:Nat→Prop):∀ (l:List Oper) (ks:List Nat) (i:Nat),tU i ks→wLn l ks i K=K (i+l.length)
 | [],[],i,h=>rfl
 | [],k::ks,i,h=>by rw [wLn,h.1];rfl
 | o::l,[],i,h=>by rw [wLn,aJg K l [] (i+1) trivial];congr 1;simp;omega
 | o::l,k::ks,i,h=>by rw [wLn,aJg K l ks (i+1) h.2];congr 1;simp;omega
def wLv:List (Nat×List Nat)→Nat→(List Nat→Prop)→Prop
 | [],_,K=>K []
 | (i,l)::r,j,K=>match Nat.beq i j with
  | true=>K l
  | false=>wLv r j K
def jV:List (Nat×List Nat)→Nat→List Nat
 | [],_=>[]
 | (i,l)::r,j=>match Nat.beq i j with
  | true=>l
  | false=>jV r j
theorem aJh (K:List Nat→Prop):∀ (t:List (Nat×List Nat)) (j:Nat),wLv t j K=K (jV t j)
 | [],j=>rfl
 | (i,l)::r,j=>by
  simp only [wLv,jV,aJh K r j]
  cases Nat.beq i j<;>rfl
theorem aOb {j k:Nat} (t:List (Nat×List Nat)) (K:List Nat→Prop) (h:j=k):wLv t j K=wLv t k K:=by rw [h]
attribute [congr] aOb
def wSt:List (Nat×List bF)→Nat→(List bF→Prop)→Prop→Prop
 | [],_,_,x=>x
 | (i,l)::r,j,K,x=>match Nat.beq i j with
  | true=>K l
  | false=>wSt r j K x
def fV (t:List (Nat×List bF)) (id:Nat):Option (List bF):=gB id t
section
variable (P:Program) (C:aN) (n:Nat)
def vT (ops:Array Oper) (base:Nat):List Oper→List Nat→Nat→List Nat→aM→St→kV→Prop
 | [],_,_,_,e,S,K=>K e S
 | o::l,[],i,sk,e,S,K=>iR P C n ops sk o (some (base+i)) e S fun ran _ e' S'=>vT ops base l [] (i+1) (vN ran i sk) e' S' K
 | o::l,k::ks,i,sk,e,S,K=>iR P C n ops sk o (some (base+k)) e S fun ran _ e' S'=>vT ops base l ks (i+1) (vN ran k sk) e' S' K
def aFi (ops:Array Oper):List Oper→List Nat→Nat→List Nat→aM→St→kV→Prop
 | [],_,_,_,e,S,K=>K e S
 | o::l,[],i,sk,e,S,K=>iR P C n ops sk o none e S fun ran _ e' S'=>aFi ops l [] (i+1) (vN ran i sk) e' S' K
 | o::l,k::ks,i,sk,e,S,K=>iR P C n ops sk o none e S fun ran _ e' S'=>aFi ops l ks (i+1) (vN ran k sk) e' S' K
theorem mF {ops:Array Oper} {sk:List Nat} {o:Oper} {fr:Option Nat} {e:aM} {S:St} {K K':Bool→V→aM→St→Prop} (h:∀ b v e S,K b v e S=K' b v e S):iR P C n ops sk o fr e S K=iR P C n ops sk o fr e S K':=by
 rw [show K=K' from funext fun b=>funext fun v=>funext fun e=>funext fun S=>h b v e S]
def oS:Nat→Nat→List bF
 | _,0=>[]
 | i,k+1=>(i,[])::oS (i+1) k
theorem yM:∀ (k i:Nat),oS i (k+1)=oS i k++[(i+k,[])]
 | 0,i=>rfl
 | k+1,i=>by
  rw [oS,yM k (i+1),oS]
  simp only [List.cons_append,Nat.add_assoc,Nat.add_comm 1 k]
theorem aHh:∀ k,aGe k=oS 0 k
 | 0=>rfl
 | k+1=>by rw [aGe,aHh k,yM,Nat.zero_add]
theorem aB7 (ops:Array Oper) (base:Nat) (K:kV):∀ (l:List Oper) (ks:List Nat) (i:Nat) (sk:List Nat) (recs:List pV) (e:aM) (S:St),tU i ks→(∀ k,ops[i+k]?=l[k]?)→pJ P C n ops base (oS i l.length) sk recs e S K=vT P C n ops base l ks i sk e S K
 | [],ks,i,sk,recs,e,S,_,h=>by cases ks<;>rfl
 | o::l,ks,i,sk,recs,e,S,hk,h=>by
  have h0:ops[i]?=some o:=h 0
  cases ks with
  | nil=>
   simp only [List.length_cons,oS,pJ,vT,h0,wO,oR]
   exact mF P C n fun b v e S=>aB7 ops base K l [] (i+1) _ _ e S trivial fun k=>by have:=h (k+1);rw [show i+1+k=i+(k+1) by omega,this];simp
  | cons k ks=>
   obtain ⟨rfl,hk⟩:=hk
   simp only [List.length_cons,oS,pJ,vT,h0,wO,oR]
   exact mF P C n fun b v e S=>aB7 ops base K l ks (k+1) _ _ e S hk fun j=>by have:=h (j+1);rw [show k+1+j=k+(j+1) by omega,this];simp
theorem aFj (ops:Array Oper) (K:kV):∀ (l:List Oper) (ks:List Nat) (i:Nat) (sk:List Nat) (e:aM) (S:St),tU i ks→aJ6 P C n ops l i sk e S K=aFi P C n ops l ks i sk e S K
 | [],ks,i,sk,e,S,_=>by cases ks<;>rfl
 | o::l,[],i,sk,e,S,hk=>by
  simp only [aJ6,aFi]
  exact mF P C n fun b v e S=>aFj ops K l [] (i+1) _ e S trivial
 | o::l,k::ks,i,sk,e,S,hk=>by
  obtain ⟨rfl,hk⟩:=hk
  simp only [aJ6,aFi]
  exact mF P C n fun b v e S=>aFj ops K l ks (k+1) _ e S hk
def aJj (id:Nat) (Kn:kV) (Kx:KXW):KXW:=fun j e S=>match Nat.beq j id with
 | true=>Kn e S
 | false=>Kx j e S
def aWy (p:Nat→Option (List bF)) (lv:Nat→List Nat) (a:Code) (e:aM) (Kx:KXW) (Kr:kV) (vs:List V) (S:St) (aD:List V→St→Prop):Prop:=
 aFg (lv (aZ a)) vs (e.filt fun t=>!kU a t) fun e=>dI P C n p lv a e S (fun e S=>lO e (lv (aZ a)) fun vs=>aD vs S) Kx Kr
end
section
variable {P:Program} {C:aN} {n:Nat} {tp:List (Nat×List bF)} {tl:List (Nat×List Nat)}
theorem aL2:(∀ (e:aM) (t:Nat) (K:V→Prop),wO (ev e (.tmp t)) K=wO (e.get t) K)∧(∀ (e:aM) (v:Value) (K:V→Prop),wO (ev e (.const v)) K=wO (ofValue v) K)∧(∀ (e:aM) (f:Nat) (K:V→Prop),wO (ev e (.func f)) K=K (.func f [] [])) ∧
  (∀ (e:aM) (t:Nat) (v:V) (K:V→Prop),wO ((e.put t v).get t) K=K v)∧(∀ (b:Bool) (K:V→Prop),wO (ofValue (.bool b)) K=K (.bool b))∧(∀ (k:IntKind) (i:Int) (K:V→Prop),wO (ofValue (.int k i)) K=K (.int k i)) ∧
  (∀ (l:List UInt8) (K:V→Prop),wO (ofValue (.string ⟨l.toArray⟩)) K=K (.str l))∧(∀ (K:V→Prop),wO (ofValue (.slice none 0 0)) K=K .nils)∧(∀ (K:V→Prop),wO (ofValue (.pointer none)) K=K .nilp)∧(∀ (K:V→Prop),wO (ofValue .nilIface) K=K .nili)∧(∀ (K:V→Prop),wO (ofValue .nilFunc) K=K .nilf)∧(∀ (K:V→Prop),wO (ofValue (.map none)) K=K .nilm) ∧
  (∀ (l:List Value) (K:V→Prop),wO (ofValue (.agg l.toArray)) K=wO (kC l) fun xs=>K (.agg xs))∧(∀ (K:List V→Prop),wO (kC []) K=K [])∧(∀ (v:Value) (l:List Value) (K:List V→Prop),wO (kC (v::l)) K=wO (mW v) fun x=>wO (kC l) fun xs=>K (x::xs)) ∧
  (∀ (b:Bool) (K:V→Prop),wO (mW (.bool b)) K=K (.bool b))∧(∀ (k:IntKind) (i:Int) (K:V→Prop),wO (mW (.int k i)) K=K (.int k i))∧(∀ (l:List UInt8) (K:V→Prop),wO (mW (.string ⟨l.toArray⟩)) K=K (.str l))∧(∀ (K:V→Prop),wO (mW (.slice none 0 0)) K=K .nils)∧(∀ (K:V→Prop),wO (mW (.pointer none)) K=K .nilp) ∧
  (∀ (e:aM) (K:List V→Prop),wO (nW (ev e) []) K=K [])∧(∀ (e:aM) (x:Operand) (l:List Operand) (K:List V→Prop),wO (nW (ev e) (x::l)) K=wO (ev e x) fun v=>wO (nW (ev e) l) fun vs=>K (v::vs)) ∧
  (∀ (e:aM) (K:List (Nat×V)→Prop),wO (lL (ev e) []) K=K [])∧(∀ (e:aM) (i:Nat) (x:Operand) (l:List (Nat×Operand)) (K:List (Nat×V)→Prop),wO (lL (ev e) ((i,x)::l)) K=wO (ev e x) fun v=>wO (lL (ev e) l) fun vs=>K ((i,v)::vs)) ∧
  (∀ (e:aM) (K:Option V→Prop),wO (evO (ev e) none) K=K none)∧(∀ (e:aM) (x:Operand) (K:Option V→Prop),wO (evO (ev e) (some x)) K=wO (ev e x) fun v=>K (some v)):=by
 refine ⟨fun _ _ _=>rfl,fun _ _ _=>rfl,fun _ _ _=>rfl,fun e t v K=>by rw [Tr.get_put_sameB _ _ _ trivial];rfl,fun _ _=>rfl,fun _ _ _=>rfl,fun l K=>by simp [ofValue,mW,wO],fun _=>rfl,fun _=>rfl,fun _=>rfl,fun _=>rfl,fun _=>rfl,
  fun l K=>?_,fun _=>rfl,fun v l K=>?_,fun _ _=>rfl,fun _ _ _=>rfl,fun l K=>by simp [mW,wO],fun _=>rfl,fun _=>rfl,fun _ _=>rfl,fun e x l K=>?_,fun _ _=>rfl,fun e i x l K=>?_,fun _ _=>rfl,fun e x K=>?_⟩
 ·simp only [ofValue];cases kC l<;>rfl
 ·simp only [kC]
  cases mW v with
  | none=>rfl
  | some x=>cases kC l<;>rfl
 ·simp only [nW]
  cases ev e x with
  | none=>rfl
  | some x=>cases nW (ev e) l<;>rfl
 ·simp only [lL]
  cases ev e x with
  | none=>rfl
  | some x=>cases lL (ev e) l<;>rfl
 ·simp only [evO];cases ev e x<;>rfl
theorem aWz {t d:Nat} (h:¬ t=d) (e:aM) (v:V) (K:V→Prop):wO ((e.put d v).get t) K=wO (e.get t) K:=by rw [Tr.get_put_neB _ _ _ _ trivial h]
theorem bC2 {t d:Nat} (h:t<d) (e:aM) (v:V) (K:V→Prop):wO ((e.put d v).get t) K=wO (e.get t) K:=aWz (Nat.ne_of_lt h) e v K
theorem aX0 {t d:Nat} (h:d<t) (e:aM) (v:V) (K:V→Prop):wO ((e.put d v).get t) K=wO (e.get t) K:=aWz (Nat.ne_of_gt h) e v K
def pL (l:List Code) (t:Nat):Bool:=l.any fun a=>kU a t
def dL (l:List Oper) (r:List Code) (t:Nat):Bool:=aAy l t||pL r t
theorem aVb (a:Code) (r:List Code) (t:Nat):pL (a::r) t=(kU a t||pL r t):=by simp [pL]
theorem aQf {a:Code} {t:Nat} (h:pL [a] t=false) (e:aM) (K:V→Prop):wO ((e.filt fun t=>!kU a t).get t) K=wO (e.get t) K:=by
 have h:kU a t=false:=by simpa [pL] using h
 rw [qU,if_pos (by rw [h];rfl)]
theorem aL3:(∀ t,pL [] t=false)∧(∀ (a b:Code) (r:List Code) (t:Nat),pL (.seq a b::r) t=pL (a::b::r) t)∧(∀ (c:Operand) (a b:Code) (r:List Code) (t:Nat),pL (.cond c a b::r) t=pL (a::b::r) t)∧(∀ (i:Nat) (a:Code) (r:List Code) (t:Nat),pL (.block i a::r) t=pL (a::r) t) ∧
  (∀ (a:Code) (r:List Code) (t:Nat),pL (.loop a::r) t=pL (a::r) t)∧(∀ (r:List Code) (t:Nat),pL (.skip::r) t=pL r t)∧(∀ (r:List Code) (t:Nat),pL (.ret::r) t=pL r t)∧(∀ (i:Nat) (r:List Code) (t:Nat),pL (.exit i::r) t=pL r t)∧(∀ (i:Nat) (r:List Code) (t:Nat),pL (.label i::r) t=pL r t) ∧
  (∀ (id:Nat) (l:List Oper) (d:Bool) (r:List Code) (t:Nat),pL (.region id l.toArray d::r) t=dL l r t)∧(∀ (r:List Code) (t:Nat),dL [] r t=pL r t)∧(∀ (op:Op) (ty:TypeId) (pos:String) (aft:Array Edge) (g:Option (Nat×Bool)) (l:List Oper) (r:List Code) (t:Nat),dL (⟨none,op,ty,pos,aft,g⟩::l) r t=dL l r t):=by
 refine ⟨fun _=>rfl,fun a b r t=>?_,fun c a b r t=>?_,fun i a r t=>?_,fun a r t=>?_,fun r t=>?_,fun r t=>?_,fun i r t=>?_,fun i r t=>?_,fun id l d r t=>?_,fun r t=>?_,fun op ty pos aft g l r t=>?_⟩
 all_goals simp only [aVb,kU,dL,aAy,Bool.false_or,Bool.or_assoc]
theorem aQg {d t:Nat} (h:¬ t=d) (op:Op) (ty:TypeId) (pos:String) (aft:Array Edge) (g:Option (Nat×Bool)) (l:List Oper) (r:List Code):dL (⟨some d,op,ty,pos,aft,g⟩::l) r t=dL l r t:=by
 simp only [dL,aAy,aHd (Ne.symm h),Bool.false_or]
theorem aX1 {d t:Nat} (h:t<d) (op:Op) (ty:TypeId) (pos:String) (aft:Array Edge) (g:Option (Nat×Bool)) (l:List Oper) (r:List Code):dL (⟨some d,op,ty,pos,aft,g⟩::l) r t=dL l r t:=aQg (Nat.ne_of_lt h) ..
theorem aQh {d t:Nat} (h:d<t) (op:Op) (ty:TypeId) (pos:String) (aft:Array Edge) (g:Option (Nat×Bool)) (l:List Oper) (r:List Code):dL (⟨some d,op,ty,pos,aft,g⟩::l) r t=dL l r t:=aQg (Nat.ne_of_gt h) ..end
def rA (P:Program) (u:TypeId):Bool:=match P.underlying u with
 | some (.slice _)=>true
 | some .string=>true
 | _=>false
theorem aJk {α:Type} (x:Option α) {K K':α→Prop} (h:∀ a,K a=K' a):wO x K=wO x K':=by rw [show K=K' from funext h]
theorem aVc (e:aM) (x:Operand) (K:List V→Prop):wO (nW (ev e) [x]) K=wO (ev e x) fun v=>K [v]:=by simp only [nW];cases ev e x<;>rfl
theorem aVd (e:aM) (x y:Operand) (K:List V→Prop):wO (nW (ev e) [x,y]) K=wO (ev e x) fun v=>wO (ev e y) fun w=>K [v,w]:=by
 simp only [nW]
 cases ev e x with
 | none=>rfl
 | some a=>cases ev e y<;>rfl
theorem aL4 (P:Program) (C:aN):(∀ (x:Operand) (d:Option Tmp) (ty:TypeId) (pos:String) (aft:Array Edge) (g:Option (Nat×Bool)) (fr:Option Nat) (e:aM) (S:St) (K:KW),gY P C ⟨d,.move x,ty,pos,aft,g⟩ fr e S K=wO (ev e x) fun v=>K v S) ∧
  (∀ (x:Operand) (d:Option Tmp) (ty:TypeId) (pos:String) (aft:Array Edge) (g:Option (Nat×Bool)) (fr:Option Nat) (e:aM) (S:St) (K:KW),gY P C ⟨d,.assign x,ty,pos,aft,g⟩ fr e S K=wO (ev e x) fun v=>K v S) ∧
  (∀ (c a b:Operand) (d:Option Tmp) (ty:TypeId) (pos:String) (aft:Array Edge) (g:Option (Nat×Bool)) (fr:Option Nat) (e:aM) (S:St) (K:KW),gY P C ⟨d,.pick c a b,ty,pos,aft,g⟩ fr e S K=wO (ev e c) fun c=>wO (ev e a) fun a=>wO (ev e b) fun b=>wR (hl (aH5 c a b)) fun v=>K v S) ∧
  (∀ (t:TypeId) (d:Option Tmp) (ty:TypeId) (pos:String) (aft:Array Edge) (g:Option (Nat×Bool)) (fr:Option Nat) (e:aM) (S:St) (K:KW),gY P C ⟨d,.alloc t,ty,pos,aft,g⟩ fr e S K=wO (aI P t) fun z=>wR (hl (aW fr S (.row 0 z.cells.length [z.cells]))) fun r=>K (.ptr r.1 0 0 0) r.2) ∧
  (∀ (u:TypeId) (x:Operand) (d:Option Tmp) (ty:TypeId) (pos:String) (aft:Array Edge) (g:Option (Nat×Bool)) (fr:Option Nat) (e:aM) (S:St) (K:KW),gY P C ⟨d,.box u x,ty,pos,aft,g⟩ fr e S K=wO (ev e x) fun v=>vQ (hl (aG v.cells)) (wR (hl (aW fr S (.row 0 v.cells.length [v.cells]))) fun r=>K (.ptr r.1 0 0 0) r.2)) ∧
  (∀ (t:TypeId) (ps:List (Nat×Operand)) (d:Option Tmp) (ty:TypeId) (pos:String) (aft:Array Edge) (g:Option (Nat×Bool)) (fr:Option Nat) (e:aM) (S:St) (K:KW),gY P C ⟨d,.build t ps.toArray,ty,pos,aft,g⟩ fr e S K=wO (lL (ev e) ps) fun vs=>wR (hl (mR P t vs)) fun v=>K v S) ∧
  (∀ (t:TypeId) (m:Nat) (ps:List (Nat×Operand)) (d:Option Tmp) (ty:TypeId) (pos:String) (aft:Array Edge) (g:Option (Nat×Bool)) (fr:Option Nat) (e:aM) (S:St) (K:KW),gY P C ⟨d,.buildSlice t m ps.toArray,ty,pos,aft,g⟩ fr e S K=wO (lL (ev e) ps) fun vs=>wR (hl (cG P t m vs fr S)) fun r=>K r.1 r.2) ∧
  (∀ (t:TypeId) (a:Operand) (d:Option Tmp) (ty:TypeId) (pos:String) (aft:Array Edge) (g:Option (Nat×Bool)) (fr:Option Nat) (e:aM) (S:St) (K:KW),gY P C ⟨d,.load t a,ty,pos,aft,g⟩ fr e S K=wO (ev e a) fun p=>wR (hl (kK P t p S)) fun v=>K v S) ∧
  (∀ (t:TypeId) (a x:Operand) (d:Option Tmp) (ty:TypeId) (pos:String) (aft:Array Edge) (g:Option (Nat×Bool)) (fr:Option Nat) (e:aM) (S:St) (K:KW),gY P C ⟨d,.store t a x,ty,pos,aft,g⟩ fr e S K=wO (ev e a) fun p=>wO (ev e x) fun v=>wR (hl (mQ P t p v S)) fun S'=>K (.tup []) S') ∧
  (∀ (x:Operand) (d:Option Tmp) (ty:TypeId) (pos:String) (aft:Array Edge) (g:Option (Nat×Bool)) (fr:Option Nat) (e:aM) (S:St) (K:KW),gY P C ⟨d,.nilCheck x,ty,pos,aft,g⟩ fr e S K=wO (ev e x) fun v=>xN (hl v) (K v S)) ∧
  (∀ (t u:TypeId) (x y:Operand) (d:Option Tmp) (ty:TypeId) (pos:String) (aft:Array Edge) (g:Option (Nat×Bool)) (fr:Option Nat) (e:aM) (S:St) (K:KW),gY P C ⟨d,.binOp .add t x y u,ty,pos,aft,g⟩ fr e S K=wO (ev e x) fun a=>wO (ev e y) fun b=>wR (hl (bK P .add t a b)) fun v=>K v S) ∧
  (∀ (t u:TypeId) (x y:Operand) (d:Option Tmp) (ty:TypeId) (pos:String) (aft:Array Edge) (g:Option (Nat×Bool)) (fr:Option Nat) (e:aM) (S:St) (K:KW),gY P C ⟨d,.binOp .sub t x y u,ty,pos,aft,g⟩ fr e S K=wO (ev e x) fun a=>wO (ev e y) fun b=>wR (hl (bK P .sub t a b)) fun v=>K v S) ∧
  (∀ (t u:TypeId) (x y:Operand) (d:Option Tmp) (ty:TypeId) (pos:String) (aft:Array Edge) (g:Option (Nat×Bool)) (fr:Option Nat) (e:aM) (S:St) (K:KW),gY P C ⟨d,.binOp .mul t x y u,ty,pos,aft,g⟩ fr e S K=wO (ev e x) fun a=>wO (ev e y) fun b=>wR (hl (bK P .mul t a b)) fun v=>K v S) ∧
  (∀ (t u:TypeId) (x y:Operand) (d:Option Tmp) (ty:TypeId) (pos:String) (aft:Array Edge) (g:Option (Nat×Bool)) (fr:Option Nat) (e:aM) (S:St) (K:KW),gY P C ⟨d,.binOp .quo t x y u,ty,pos,aft,g⟩ fr e S K=wO (ev e x) fun a=>wO (ev e y) fun b=>wR (hl (bK P .quo t a b)) fun v=>K v S) ∧
  (∀ (t u:TypeId) (x y:Operand) (d:Option Tmp) (ty:TypeId) (pos:String) (aft:Array Edge) (g:Option (Nat×Bool)) (fr:Option Nat) (e:aM) (S:St) (K:KW),gY P C ⟨d,.binOp .rem t x y u,ty,pos,aft,g⟩ fr e S K=wO (ev e x) fun a=>wO (ev e y) fun b=>wR (hl (bK P .rem t a b)) fun v=>K v S) ∧
  (∀ (t u:TypeId) (x y:Operand) (d:Option Tmp) (ty:TypeId) (pos:String) (aft:Array Edge) (g:Option (Nat×Bool)) (fr:Option Nat) (e:aM) (S:St) (K:KW),gY P C ⟨d,.binOp .and t x y u,ty,pos,aft,g⟩ fr e S K=wO (ev e x) fun a=>wO (ev e y) fun b=>wR (hl (bK P .and t a b)) fun v=>K v S) ∧
  (∀ (t u:TypeId) (x y:Operand) (d:Option Tmp) (ty:TypeId) (pos:String) (aft:Array Edge) (g:Option (Nat×Bool)) (fr:Option Nat) (e:aM) (S:St) (K:KW),gY P C ⟨d,.binOp .or t x y u,ty,pos,aft,g⟩ fr e S K=wO (ev e x) fun a=>wO (ev e y) fun b=>wR (hl (bK P .or t a b)) fun v=>K v S) ∧
  (∀ (t u:TypeId) (x y:Operand) (d:Option Tmp) (ty:TypeId) (pos:String) (aft:Array Edge) (g:Option (Nat×Bool)) (fr:Option Nat) (e:aM) (S:St) (K:KW),gY P C ⟨d,.binOp .xor t x y u,ty,pos,aft,g⟩ fr e S K=wO (ev e x) fun a=>wO (ev e y) fun b=>wR (hl (bK P .xor t a b)) fun v=>K v S) ∧
  (∀ (t u:TypeId) (x y:Operand) (d:Option Tmp) (ty:TypeId) (pos:String) (aft:Array Edge) (g:Option (Nat×Bool)) (fr:Option Nat) (e:aM) (S:St) (K:KW),gY P C ⟨d,.binOp .andNot t x y u,ty,pos,aft,g⟩ fr e S K=wO (ev e x) fun a=>wO (ev e y) fun b=>wR (hl (bK P .andNot t a b)) fun v=>K v S) ∧
  (∀ (t u:TypeId) (x y:Operand) (d:Option Tmp) (ty:TypeId) (pos:String) (aft:Array Edge) (g:Option (Nat×Bool)) (fr:Option Nat) (e:aM) (S:St) (K:KW),gY P C ⟨d,.binOp .shl t x y u,ty,pos,aft,g⟩ fr e S K=wO (ev e x) fun a=>wO (ev e y) fun b=>wR (hl (bK P .shl t a b)) fun v=>K v S) ∧
  (∀ (t u:TypeId) (x y:Operand) (d:Option Tmp) (ty:TypeId) (pos:String) (aft:Array Edge) (g:Option (Nat×Bool)) (fr:Option Nat) (e:aM) (S:St) (K:KW),gY P C ⟨d,.binOp .shr t x y u,ty,pos,aft,g⟩ fr e S K=wO (ev e x) fun a=>wO (ev e y) fun b=>wR (hl (bK P .shr t a b)) fun v=>K v S) ∧
  (∀ (t u:TypeId) (x y:Operand) (d:Option Tmp) (ty:TypeId) (pos:String) (aft:Array Edge) (g:Option (Nat×Bool)) (fr:Option Nat) (e:aM) (S:St) (K:KW),gY P C ⟨d,.binOp .lss t x y u,ty,pos,aft,g⟩ fr e S K=wO (ev e x) fun a=>wO (ev e y) fun b=>wR (hl (bK P .lss t a b)) fun v=>K v S) ∧
  (∀ (t u:TypeId) (x y:Operand) (d:Option Tmp) (ty:TypeId) (pos:String) (aft:Array Edge) (g:Option (Nat×Bool)) (fr:Option Nat) (e:aM) (S:St) (K:KW),gY P C ⟨d,.binOp .leq t x y u,ty,pos,aft,g⟩ fr e S K=wO (ev e x) fun a=>wO (ev e y) fun b=>wR (hl (bK P .leq t a b)) fun v=>K v S) ∧
  (∀ (t u:TypeId) (x y:Operand) (d:Option Tmp) (ty:TypeId) (pos:String) (aft:Array Edge) (g:Option (Nat×Bool)) (fr:Option Nat) (e:aM) (S:St) (K:KW),gY P C ⟨d,.binOp .gtr t x y u,ty,pos,aft,g⟩ fr e S K=wO (ev e x) fun a=>wO (ev e y) fun b=>wR (hl (bK P .gtr t a b)) fun v=>K v S) ∧
  (∀ (t u:TypeId) (x y:Operand) (d:Option Tmp) (ty:TypeId) (pos:String) (aft:Array Edge) (g:Option (Nat×Bool)) (fr:Option Nat) (e:aM) (S:St) (K:KW),gY P C ⟨d,.binOp .geq t x y u,ty,pos,aft,g⟩ fr e S K=wO (ev e x) fun a=>wO (ev e y) fun b=>wR (hl (bK P .geq t a b)) fun v=>K v S) ∧
  (∀ (t u:TypeId) (x y:Operand) (d:Option Tmp) (ty:TypeId) (pos:String) (aft:Array Edge) (g:Option (Nat×Bool)) (fr:Option Nat) (e:aM) (S:St) (K:KW),gY P C ⟨d,.binOp .eql t x y u,ty,pos,aft,g⟩ fr e S K=wO (ev e x) fun a=>wO (ev e y) fun b=>vQ (hl (bY P t a b)) (wR (hl (bK P .eql t a b)) fun v=>K v S)) ∧
  (∀ (t u:TypeId) (x y:Operand) (d:Option Tmp) (ty:TypeId) (pos:String) (aft:Array Edge) (g:Option (Nat×Bool)) (fr:Option Nat) (e:aM) (S:St) (K:KW),gY P C ⟨d,.binOp .neq t x y u,ty,pos,aft,g⟩ fr e S K=wO (ev e x) fun a=>wO (ev e y) fun b=>vQ (hl (bY P t a b)) (wR (hl (bK P .neq t a b)) fun v=>K v S)) ∧
  (∀ (o:UnOp) (t:TypeId) (x:Operand) (d:Option Tmp) (ty:TypeId) (pos:String) (aft:Array Edge) (g:Option (Nat×Bool)) (fr:Option Nat) (e:aM) (S:St) (K:KW),gY P C ⟨d,.unOp o t x,ty,pos,aft,g⟩ fr e S K=wO (ev e x) fun v=>wR (hl (unV o v)) fun v=>K v S) ∧
  (∀ (s u:TypeId) (x:Operand) (d:Option Tmp) (ty:TypeId) (pos:String) (aft:Array Edge) (g:Option (Nat×Bool)) (fr:Option Nat) (e:aM) (S:St) (K:KW),gY P C ⟨d,.convert s u x,ty,pos,aft,g⟩ fr e S K=wO (ev e x) fun v=>wR (hl (dH P s u v fr S)) fun r=>K r.1 r.2) ∧
  (∀ (t:TypeId) (l c:Operand) (d:Option Tmp) (ty:TypeId) (pos:String) (aft:Array Edge) (g:Option (Nat×Bool)) (fr:Option Nat) (e:aM) (S:St) (K:KW),gY P C ⟨d,.makeSlice t l c,ty,pos,aft,g⟩ fr e S K=wO (ev e l) fun l=>wO (ev e c) fun c=>wR (hl (dR P t l c fr S)) fun r=>K r.1 r.2) ∧
  (∀ (t:TypeId) (x:Operand) (lo hi:Option Operand) (d:Option Tmp) (ty:TypeId) (pos:String) (aft:Array Edge) (g:Option (Nat×Bool)) (fr:Option Nat) (e:aM) (S:St) (K:KW),gY P C ⟨d,.slice t x lo hi none,ty,pos,aft,g⟩ fr e S K=wO (ev e x) fun v=>wO (evO (ev e) lo) fun l=>wO (evO (ev e) hi) fun h=>wR (hl (hM P t v l h)) fun v=>K v S) ∧
  (∀ (s:TypeId) (x:Operand) (f:Nat) (d:Option Tmp) (ty:TypeId) (pos:String) (aft:Array Edge) (g:Option (Nat×Bool)) (fr:Option Nat) (e:aM) (S:St) (K:KW),gY P C ⟨d,.fieldAddr s x f,ty,pos,aft,g⟩ fr e S K=wO (ev e x) fun p=>wR (hl (cW P s p f)) fun v=>K v S) ∧
  (∀ (s:TypeId) (x:Operand) (f:Nat) (d:Option Tmp) (ty:TypeId) (pos:String) (aft:Array Edge) (g:Option (Nat×Bool)) (fr:Option Nat) (e:aM) (S:St) (K:KW),gY P C ⟨d,.field s x f,ty,pos,aft,g⟩ fr e S K=wO (ev e x) fun p=>wR (hl (aAc P s p f)) fun v=>K v S) ∧
  (∀ (t:TypeId) (x i:Operand) (d:Option Tmp) (ty:TypeId) (pos:String) (aft:Array Edge) (g:Option (Nat×Bool)) (fr:Option Nat) (e:aM) (S:St) (K:KW),gY P C ⟨d,.indexAddr t x i,ty,pos,aft,g⟩ fr e S K=wO (ev e x) fun v=>wO (ev e i) fun k=>wR (hl (cJ P t v k)) fun v=>K v S) ∧
  (∀ (t:TypeId) (x i:Operand) (d:Option Tmp) (ty:TypeId) (pos:String) (aft:Array Edge) (g:Option (Nat×Bool)) (fr:Option Nat) (e:aM) (S:St) (K:KW),gY P C ⟨d,.index t x i,ty,pos,aft,g⟩ fr e S K=wO (ev e x) fun v=>wO (ev e i) fun k=>wR (hl (aAb P t v k)) fun v=>K v S) ∧
  (∀ (t:TypeId) (x:Operand) (d:Option Tmp) (ty:TypeId) (pos:String) (aft:Array Edge) (g:Option (Nat×Bool)) (fr:Option Nat) (e:aM) (S:St) (K:KW),gY P C ⟨d,.range t x,ty,pos,aft,g⟩ fr e S K=wO (ev e x) fun v=>vQ (hl (aFe P t)) (wR (hl (aFf v fr S)) fun r=>K r.1 r.2)) ∧
  (∀ (it:Operand) (isS:Bool) (d:Option Tmp) (ty:TypeId) (pos:String) (aft:Array Edge) (g:Option (Nat×Bool)) (fr:Option Nat) (e:aM) (S:St) (K:KW),gY P C ⟨d,.next it isS,ty,pos,aft,g⟩ fr e S K=wO (ev e it) fun v=>vQ (hl isS) (wR (hl (vM v S)) fun r=>K r.1 r.2)) ∧
  (∀ (t:TypeId) (d:Option Tmp) (ty:TypeId) (pos:String) (aft:Array Edge) (g:Option (Nat×Bool)) (fr:Option Nat) (e:aM) (S:St) (K:KW),gY P C ⟨d,.makeMap t none,ty,pos,aft,g⟩ fr e S K=wR (hl (aW fr S (.mp []))) fun r=>K (.mp r.1) r.2) ∧
  (∀ (t:TypeId) (m k:Operand) (ok:Bool) (d:Option Tmp) (ty:TypeId) (pos:String) (aft:Array Edge) (g:Option (Nat×Bool)) (fr:Option Nat) (e:aM) (S:St) (K:KW),gY P C ⟨d,.lookup t m k ok,ty,pos,aft,g⟩ fr e S K=wO (ev e m) fun m=>wO (ev e k) fun k=>wR (hl (uP P t m k ok S)) fun v=>K v S) ∧
  (∀ (t:TypeId) (m k v:Operand) (d:Option Tmp) (ty:TypeId) (pos:String) (aft:Array Edge) (g:Option (Nat×Bool)) (fr:Option Nat) (e:aM) (S:St) (K:KW),gY P C ⟨d,.mapUpdate t m k v,ty,pos,aft,g⟩ fr e S K=wO (ev e m) fun m=>wO (ev e k) fun k=>wO (ev e v) fun v=>wR (hl (lK P t m k v S)) fun S'=>K (.tup []) S') ∧
  (∀ (f:FuncId) (a b:List Operand) (d:Option Tmp) (ty:TypeId) (pos:String) (aft:Array Edge) (g:Option (Nat×Bool)) (fr:Option Nat) (e:aM) (S:St) (K:KW),gY P C ⟨d,.makeFunc (.func f) a.toArray b.toArray,ty,pos,aft,g⟩ fr e S K=wO (nW (ev e) a) fun a=>wO (nW (ev e) b) fun b=>K (.func f a b) S) ∧
  (∀ (x:Operand) (u t:TypeId) (ok:Bool) (d:Option Tmp) (ty:TypeId) (pos:String) (aft:Array Edge) (g:Option (Nat×Bool)) (fr:Option Nat) (e:aM) (S:St) (K:KW),gY P C ⟨d,.typeAssert x u t ok,ty,pos,aft,g⟩ fr e S K=wO (ev e x) fun v=>wR (hl (uQ P v t ok)) fun v=>K v S) ∧
  (∀ (t:Operand) (i:Nat) (d:Option Tmp) (ty:TypeId) (pos:String) (aft:Array Edge) (g:Option (Nat×Bool)) (fr:Option Nat) (e:aM) (S:St) (K:KW),gY P C ⟨d,.extract t i,ty,pos,aft,g⟩ fr e S K=wO (ev e t) fun v=>jS (hl v) i fun v=>K v S) ∧
  (∀ (f:FuncId) (a:List Operand) (ts:Array TypeId) (d:Option Tmp) (ty:TypeId) (pos:String) (aft:Array Edge) (g:Option (Nat×Bool)) (fr:Option Nat) (e:aM) (S:St) (K:KW),gY P C ⟨d,.call ⟨.value (.func f),a.toArray,ts⟩,ty,pos,aft,g⟩ fr e S K=wO (nW (ev e) a) fun args=>iX P C f args S K) ∧
  (∀ (t:Tmp) (a:List Operand) (ts:Array TypeId) (d:Option Tmp) (ty:TypeId) (pos:String) (aft:Array Edge) (g:Option (Nat×Bool)) (fr:Option Nat) (e:aM) (S:St) (K:KW),gY P C ⟨d,.call ⟨.value (.tmp t),a.toArray,ts⟩,ty,pos,aft,g⟩ fr e S K=wO (ev e (.tmp t)) fun v=>wO (nW (ev e) a) fun args=>aQ1 P C v args S K) ∧
  (∀ (x:Operand) (t:TypeId) (ts:List TypeId) (d:Option Tmp) (ty:TypeId) (pos:String) (aft:Array Edge) (g:Option (Nat×Bool)) (fr:Option Nat) (e:aM) (S:St) (K:KW),gY P C ⟨d,.call ⟨.builtin .len,[x].toArray,(t::ts).toArray⟩,ty,pos,aft,g⟩ fr e S K=wO (ev e x) fun x=>wR (hl (xC P t x S)) fun v=>K v S) ∧
  (∀ (a:List Operand) (ts:Array TypeId) (d:Option Tmp) (ty:TypeId) (pos:String) (aft:Array Edge) (g:Option (Nat×Bool)) (fr:Option Nat) (e:aM) (S:St) (K:KW),gY P C ⟨d,.call ⟨.builtin .min,a.toArray,ts⟩,ty,pos,aft,g⟩ fr e S K=wO (nW (ev e) a) fun args=>wR (hl (aPh args)) fun v=>K v S) ∧
  (∀ (a:List Operand) (ts:Array TypeId) (d:Option Tmp) (ty:TypeId) (pos:String) (aft:Array Edge) (g:Option (Nat×Bool)) (fr:Option Nat) (e:aM) (S:St) (K:KW),gY P C ⟨d,.call ⟨.builtin .max,a.toArray,ts⟩,ty,pos,aft,g⟩ fr e S K=wO (nW (ev e) a) fun args=>wR (hl (aPi args)) fun v=>K v S) ∧
  (∀ (s x:Operand) (t u:TypeId) (ts:List TypeId) (d:Option Tmp) (ty:TypeId) (pos:String) (aft:Array Edge) (g:Option (Nat×Bool)) (fr:Option Nat) (e:aM) (S:St) (K:KW),gY P C ⟨d,.call ⟨.builtin .append,[s,x].toArray,(t::u::ts).toArray⟩,ty,pos,aft,g⟩ fr e S K=wO (ev e s) fun s=>wO (ev e x) fun x=>vQ (hl (rA P u)) (wR (hl (eR P t s x fr S)) fun r=>K r.1 r.2)) ∧
  (∀ (x:Operand) (t:TypeId) (ts:List TypeId) (d:Option Tmp) (ty:TypeId) (pos:String) (aft:Array Edge) (g:Option (Nat×Bool)) (fr:Option Nat) (e:aM) (S:St) (K:KW),gY P C ⟨d,.call ⟨.builtin .clear,[x].toArray,(t::ts).toArray⟩,ty,pos,aft,g⟩ fr e S K=wO (ev e x) fun x=>wR (hl (aAd P t x S)) fun r=>K r.1 r.2):=by
 refine ⟨?_,?_,?_,?_,?_,?_,?_,?_,?_,?_,?_,?_,?_,?_,?_,?_,?_,?_,?_,?_,?_,?_,?_,?_,?_,?_,?_,?_,?_,?_,?_,?_,?_,?_,?_,?_,?_,?_,?_,?_,?_,?_,?_,?_,?_,?_,?_,?_,?_,?_⟩
 all_goals intros
 all_goals first
  | rfl
  | (simp only [hl];refine (aVc _ _ _).trans (aJk _ fun v=>?_);simp only [aAz,List.getElem?_toArray,List.getElem?_cons_zero,wO])
  | (simp only [hl];refine (aVd _ _ _ _).trans (aJk _ fun v=>aJk _ fun w=>?_);simp only [aAz,List.getElem?_toArray,List.getElem?_cons_zero,List.getElem?_cons_succ,wO,rA];split<;>simp [vQ, *];done)
  | (simp only [gY,ev,aQ1,wO,List.nil_append,List.append_nil];done)
  | skip
def pR (j:Nat) (sk:List Nat) (x y:Prop):Prop:=match aPz j sk with
 | true=>x
 | false=>y
theorem aX2 {i j:Nat} (h:¬ j=i) (l:List Nat) (x y:Prop):pR j (i::l) x y=pR j l x y:=by simp only [pR,aPz,aHd (Ne.symm h)]
theorem bC3 {i j:Nat} (h:j<i) (l:List Nat) (x y:Prop):pR j (i::l) x y=pR j l x y:=aX2 (Nat.ne_of_lt h) l x y
theorem aX3 {i j:Nat} (h:i<j) (l:List Nat) (x y:Prop):pR j (i::l) x y=pR j l x y:=aX2 (Nat.ne_of_gt h) l x y
theorem aQi {i j:Nat} (h:¬ j=i) (l:List Nat) (r:List (Nat×List Nat)) (K:List Nat→Prop):wLv ((i,l)::r) j K=wLv r j K:=by simp only [wLv,aHd (Ne.symm h)]
theorem aX4 {i j:Nat} (h:j<i) (l:List Nat) (r:List (Nat×List Nat)) (K:List Nat→Prop):wLv ((i,l)::r) j K=wLv r j K:=aQi (Nat.ne_of_lt h) l r K
theorem aQj {i j:Nat} (h:i<j) (l:List Nat) (r:List (Nat×List Nat)) (K:List Nat→Prop):wLv ((i,l)::r) j K=wLv r j K:=aQi (Nat.ne_of_gt h) l r K
theorem aQk {i j:Nat} (h:¬ j=i) (l:List bF) (r:List (Nat×List bF)) (K:List bF→Prop) (x:Prop):wSt ((i,l)::r) j K x=wSt r j K x:=by simp only [wSt,aHd (Ne.symm h)]
theorem aX5 {i j:Nat} (h:j<i) (l:List bF) (r:List (Nat×List bF)) (K:List bF→Prop) (x:Prop):wSt ((i,l)::r) j K x=wSt r j K x:=aQk (Nat.ne_of_lt h) l r K x
theorem aQl {i j:Nat} (h:i<j) (l:List bF) (r:List (Nat×List bF)) (K:List bF→Prop) (x:Prop):wSt ((i,l)::r) j K x=wSt r j K x:=aQk (Nat.ne_of_gt h) l r K x
theorem aL5 {i j:Nat} (h:¬ j=i) (Kn:kV) (Kx:KXW) (e:aM) (S:St):aJj i Kn Kx j e S=Kx j e S:=by simp only [aJj,aHd h]
theorem aQm {i j:Nat} (h:j<i) (Kn:kV) (Kx:KXW) (e:aM) (S:St):aJj i Kn Kx j e S=Kx j e S:=aL5 (Nat.ne_of_lt h) Kn Kx e S
theorem aL6 {i j:Nat} (h:i<j) (Kn:kV) (Kx:KXW) (e:aM) (S:St):aJj i Kn Kx j e S=Kx j e S:=aL5 (Nat.ne_of_gt h) Kn Kx e S
theorem aQn {d n:Nat} (h:d<n) (e:aM) (v:V) (K:aM→Prop):pP n (some d) e v K=K (e.put d v):=by simp only [pP,show Nat.blt d n=true by rw [Nat.blt_eq];exact h]
theorem aJl (i:Nat):Nat.beq i i=true:=Nat.beq_refl i
theorem aDp {i j:Nat} (h:¬ i=j) (P:Program) (C:aN) (ops:Array Oper) (S:St) (K:Prop) (o:Oper) (e:aM) (ran:Bool) (v:V) (recs:List pV):dE P C ops i S K (vO P o j e ran v recs)=dE P C ops i S K recs:=by
 unfold vO
 split
 ·simp only [dE,aHd h]
 ·rfl
theorem aHi {i j:Nat} (h:i<j) (P:Program) (C:aN) (ops:Array Oper) (S:St) (K:Prop) (o:Oper) (e:aM) (ran:Bool) (v:V) (recs:List pV):dE P C ops i S K (vO P o j e ran v recs)=dE P C ops i S K recs:=aDp (Nat.ne_of_lt h) P C ops S K o e ran v recs
theorem aDq {i j:Nat} (h:j<i) (P:Program) (C:aN) (ops:Array Oper) (S:St) (K:Prop) (o:Oper) (e:aM) (ran:Bool) (v:V) (recs:List pV):dE P C ops i S K (vO P o j e ran v recs)=dE P C ops i S K recs:=aDp (Nat.ne_of_gt h) P C ops S K o e ran v recs
theorem aQo (K:List bF→Prop) (x:Prop) (id:Nat):∀ t:List (Nat×List bF),wSt t id K x=(match fV t id with
  | some l=>K l
  | none=>x)
 | []=>rfl
 | (i,l)::r=>by
  have ih:=aQo K x id r
  unfold fV at ih ⊢
  by_cases h:i=id
  ·subst h;simp only [wSt,gB,aJl,cond_true]
  ·simp only [wSt,gB,aHd h,aHd (Ne.symm h),cond_false,ih]
theorem aDr (P:Program) (C:aN) (n:Nat) (tp:List (Nat×List bF)) (lv:Nat→List Nat) (id:Nat) (l:List Oper) (e:aM) (S:St) (Kn:kV) (Kx:KXW) (Kr:kV):
  dI P C n (fV tp) lv (.region id l.toArray true) e S Kn Kx Kr=wLn l [0,1,2,3,4,5,6,7,8,9,10,11,12,13,14,15,16,17,18,19,20,21,22,23,24,25,26,27,28,29,30,31,32,33,34,35,36,37,38,39,40,41,42,43,44,45,46,47,48,49,50,51,52,53,54,55,56,57,58,59,60,61,62,63,64,65,66,67,68,69,70,71,72,73,74,75,76,77,78,79,80,81,82,83,84,85,86,87,88,89,90,91,92,93,94,95,96,97,98,99,100,101,102,103,104,105,106,107,108,109,110,111,112,113,114,115,116,117,118,119,120,121,122,123,124,125,126,127,128,129,130,131,132,133,134,135,136,137,138,139,140,141,142,143,144,145,146,147,148,149,150,151,152,153,154,155,156,157,158,159,160] 0 fun k=>wSt tp id (fun st=>pJ P C n l.toArray S.next st [] [] e ⟨S.next+k,S.heap⟩ Kn) (vT P C n l.toArray S.next l [0,1,2,3,4,5,6,7,8,9,10,11,12,13,14,15,16,17,18,19,20,21,22,23,24,25,26,27,28,29,30,31,32,33,34,35,36,37,38,39,40,41,42,43,44,45,46,47,48,49,50,51,52,53,54,55,56,57,58,59,60,61,62,63,64,65,66,67,68,69,70,71,72,73,74,75,76,77,78,79,80,81,82,83,84,85,86,87,88,89,90,91,92,93,94,95,96,97,98,99,100,101,102,103,104,105,106,107,108,109,110,111,112,113,114,115,116,117,118,119,120,121,122,123,124,125,126,127,128,129,130,131,132,133,134,135,136,137,138,139,140,141,142,143,144,145,146,147,148,149,150,151,152,153,154,155,156,157,158,159,160] 0 [] e ⟨S.next+k,S.heap⟩ Kn):=by
 have hu:tU 0 [0,1,2,3,4,5,6,7,8,9,10,11,12,13,14,15,16,17,18,19,20,21,22,23,24,25,26,27,28,29,30,31,32,33,34,35,36,37,38,39,40,41,42,43,44,45,46,47,48,49,50,51,52,53,54,55,56,57,58,59,60,61,62,63,64,65,66,67,68,69,70,71,72,73,74,75,76,77,78,79,80,81,82,83,84,85,86,87,88,89,90,91,92,93,94,95,96,97,98,99,100,101,102,103,104,105,106,107,108,109,110,111,112,113,114,115,116,117,118,119,120,121,122,123,124,125,126,127,128,129,130,131,132,133,134,135,136,137,138,139,140,141,142,143,144,145,146,147,148,149,150,151,152,153,154,155,156,157,158,159,160]:=by simp only [tU,and_self]
 generalize [0,1,2,3,4,5,6,7,8,9,10,11,12,13,14,15,16,17,18,19,20,21,22,23,24,25,26,27,28,29,30,31,32,33,34,35,36,37,38,39,40,41,42,43,44,45,46,47,48,49,50,51,52,53,54,55,56,57,58,59,60,61,62,63,64,65,66,67,68,69,70,71,72,73,74,75,76,77,78,79,80,81,82,83,84,85,86,87,88,89,90,91,92,93,94,95,96,97,98,99,100,101,102,103,104,105,106,107,108,109,110,111,112,113,114,115,116,117,118,119,120,121,122,123,124,125,126,127,128,129,130,131,132,133,134,135,136,137,138,139,140,141,142,143,144,145,146,147,148,149,150,151,152,153,154,155,156,157,158,159,160]=ks at hu ⊢
 rw [aJg _ _ _ _ hu,aQo,Nat.zero_add]
 simp only [dI,List.size_toArray]
 cases fV tp id with
 | some st=>rfl
 | none=>
  show pJ P C n l.toArray S.next (aGe l.length) [] [] e _ Kn=_
  rw [aHh]
  exact aB7 P C n l.toArray S.next Kn l ks 0 [] [] e _ hu fun k=>by simp
theorem aDs (P:Program) (C:aN) (n:Nat) (p:Nat→Option (List bF)) (tl:List (Nat×List Nat)) (a:Code) (e:aM) (S:St) (Kn:kV) (Kx:KXW) (Kr:kV):
  dI P C n p (jV tl) (.loop a) e S Kn Kx Kr=wLv tl (aZ a) fun ts=>lO e ts fun vs=>lN (hl vs) S (aWy P C n p (jV tl) a e Kx Kr):=by rw [aJh];rfl
theorem aQp (P:Program) (C:aN) (n:Nat) (p:Nat→Option (List bF)) (tl:List (Nat×List Nat)) (a:Code) (e:aM) (Kx:KXW) (Kr:kV) (vs:List V) (S:St) (aD:List V→St→Prop):
  aWy P C n p (jV tl) a e Kx Kr vs S aD=wLv tl (aZ a) fun ts=>aFg ts vs (e.filt fun t=>!kU a t) fun e=>dI P C n p (jV tl) a e S (fun e S=>lO e ts fun vs=>aD vs S) Kx Kr:=by rw [aJh];rfl
theorem aL7 (P:Program) (C:aN):
  (∀ (n:Nat) (p:Nat→Option (List bF)) (lv:Nat→List Nat) (e:aM) (S:St) (Kn:kV) (Kx:KXW) (Kr:kV),dI P C n p lv .skip e S Kn Kx Kr=Kn e S) ∧
  (∀ (n:Nat) (p:Nat→Option (List bF)) (lv:Nat→List Nat) (l:Nat) (e:aM) (S:St) (Kn:kV) (Kx:KXW) (Kr:kV),dI P C n p lv (.label l) e S Kn Kx Kr=Kn e S) ∧
  (∀ (n:Nat) (p:Nat→Option (List bF)) (lv:Nat→List Nat) (id:Nat) (e:aM) (S:St) (Kn:kV) (Kx:KXW) (Kr:kV),dI P C n p lv (.exit id) e S Kn Kx Kr=Kx id e S) ∧
  (∀ (n:Nat) (p:Nat→Option (List bF)) (lv:Nat→List Nat) (e:aM) (S:St) (Kn:kV) (Kx:KXW) (Kr:kV),dI P C n p lv .ret e S Kn Kx Kr=Kr e S) ∧
  (∀ (n:Nat) (p:Nat→Option (List bF)) (lv:Nat→List Nat) (id:Nat) (l:List Oper) (e:aM) (S:St) (Kn:kV) (Kx:KXW) (Kr:kV),dI P C n p lv (.region id l.toArray false) e S Kn Kx Kr=aFi P C n l.toArray l [0,1,2,3,4,5,6,7,8,9,10,11,12,13,14,15,16,17,18,19,20,21,22,23,24,25,26,27,28,29,30,31,32,33,34,35,36,37,38,39,40,41,42,43,44,45,46,47,48,49,50,51,52,53,54,55,56,57,58,59,60,61,62,63,64,65,66,67,68,69,70,71,72,73,74,75,76,77,78,79,80,81,82,83,84,85,86,87,88,89,90,91,92,93,94,95,96,97,98,99,100,101,102,103,104,105,106,107,108,109,110,111,112,113,114,115,116,117,118,119,120,121,122,123,124,125,126,127,128,129,130,131,132,133,134,135,136,137,138,139,140,141,142,143,144,145,146,147,148,149,150,151,152,153,154,155,156,157,158,159,160] 0 [] e S Kn) ∧
  (∀ (n:Nat) (p:Nat→Option (List bF)) (lv:Nat→List Nat) (a b:Code) (e:aM) (S:St) (Kn:kV) (Kx:KXW) (Kr:kV),dI P C n p lv (.seq a b) e S Kn Kx Kr=dI P C n p lv a e S (fun e S=>dI P C n p lv b e S Kn Kx Kr) Kx Kr) ∧
  (∀ (n:Nat) (p:Nat→Option (List bF)) (lv:Nat→List Nat) (c:Operand) (a b:Code) (e:aM) (S:St) (Kn:kV) (Kx:KXW) (Kr:kV),dI P C n p lv (.cond c a b) e S Kn Kx Kr=wO (ev e c) fun v=>bN (hl v) (dI P C n p lv a (yD e c true) S Kn Kx Kr) (dI P C n p lv b (yD e c false) S Kn Kx Kr)) ∧
  (∀ (n:Nat) (p:Nat→Option (List bF)) (lv:Nat→List Nat) (id:Nat) (a:Code) (e:aM) (S:St) (Kn:kV) (Kx:KXW) (Kr:kV),dI P C n p lv (.block id a) e S Kn Kx Kr=dI P C n p lv a e S Kn (aJj id Kn Kx) Kr) ∧
  (∀ (n:Nat) (ops:Array Oper) (ks:List Nat) (i:Nat) (sk:List Nat) (e:aM) (S:St) (K:kV),aFi P C n ops [] ks i sk e S K=K e S) ∧
  (∀ (n:Nat) (ops:Array Oper) (o:Oper) (l:List Oper) (k i:Nat) (ks sk:List Nat) (e:aM) (S:St) (K:kV),aFi P C n ops (o::l) (k::ks) i sk e S K=iR P C n ops sk o none e S fun ran _ e' S'=>aFi P C n ops l ks (i+1) (vN ran k sk) e' S' K) ∧
  (∀ (n:Nat) (ops:Array Oper) (b:Nat) (ks:List Nat) (i:Nat) (sk:List Nat) (e:aM) (S:St) (K:kV),vT P C n ops b [] ks i sk e S K=K e S) ∧
  (∀ (n:Nat) (ops:Array Oper) (o:Oper) (l:List Oper) (b k i:Nat) (ks:List Nat) (sk:List Nat) (e:aM) (S:St) (K:kV),vT P C n ops b (o::l) (k::ks) i sk e S K=iR P C n ops sk o (some (b+k)) e S fun ran _ e' S'=>vT P C n ops b l ks (i+1) (vN ran k sk) e' S' K) ∧
  (∀ (n:Nat) (ops:Array Oper) (b:Nat) (sk:List Nat) (recs:List pV) (e:aM) (S:St) (K:kV),pJ P C n ops b [] sk recs e S K=K e S) ∧
  (∀ (n:Nat) (ops:List Oper) (i:Nat) (re:List Nat) (l:List bF) (b:Nat) (sk:List Nat) (recs:List pV) (e:aM) (S:St) (K:kV),pJ P C n ops.toArray b ((i,re)::l) sk recs e S K=wI ops i fun o=>iR P C n ops.toArray sk o (some (b+i)) e S fun ran v e' S'=>oR P C ops.toArray recs S' (pJ P C n ops.toArray b l (vN ran i sk) (vO P o i e ran v recs) e' S' K) re) ∧
  (∀ (ops:Array Oper) (recs:List pV) (S:St) (K:Prop),oR P C ops recs S K []=K) ∧
  (∀ (ops:Array Oper) (recs:List pV) (S:St) (K:Prop) (i:Nat) (l:List Nat),oR P C ops recs S K (i::l)=dE P C ops i S (oR P C ops recs S K l) recs) ∧
  (∀ (ops:Array Oper) (i:Nat) (S:St) (K:Prop),dE P C ops i S K []=K) ∧
  (∀ (ops:List Oper) (i:Nat) (S:St) (K:Prop) (d t:Nat) (a:Operand) (ty:TypeId) (pos:String) (aft:Array Edge) (g:Option (Nat×Bool)) (e:aM) (v:V) (recs:List pV),dE P C ops.toArray i S K (vO P ⟨some d,.load t a,ty,pos,aft,g⟩ i e true v recs)=wI ops i fun o=>gY P C o none e S fun v' _=>vQ (hl (eE v v')) K) ∧
  (∀ (ops:List Oper) (i:Nat) (S:St) (K:Prop) (d:Nat) (a:Array Operand) (ts:Array TypeId) (ty:TypeId) (pos:String) (aft:Array Edge) (g:Option (Nat×Bool)) (e:aM) (v:V) (recs:List pV),dE P C ops.toArray i S K (vO P ⟨some d,.call ⟨.builtin .len,a,ts⟩,ty,pos,aft,g⟩ i e true v recs)=wI ops i fun o=>gY P C o none e S fun v' _=>vQ (hl (eE v v')) K) ∧
  (∀ (o:Oper) (i:Nat) (e:aM) (v:V) (recs:List pV) (ops:Array Oper) (S:St) (K:Prop),dE P C ops i S K (vO P o i e false v recs)=dE P C ops i S K recs) ∧
  (∀ (n:Nat) (ops:Array Oper) (sk:List Nat) (d:Option Tmp) (op:Op) (ty:TypeId) (pos:String) (aft:Array Edge) (fr:Option Nat) (e:aM) (S:St) (K:Bool→V→aM→St→Prop),iR P C n ops sk ⟨d,op,ty,pos,aft,none⟩ fr e S K=gY P C ⟨d,op,ty,pos,aft,none⟩ fr e S fun v S'=>pP n d e v fun e'=>K true v e' S') ∧
  (∀ (n:Nat) (ops:List Oper) (sk:List Nat) (d:Option Tmp) (op:Op) (ty:TypeId) (pos:String) (aft:Array Edge) (j:Nat) (fr:Option Nat) (e:aM) (S:St) (K:Bool→V→aM→St→Prop),iR P C n ops.toArray sk ⟨d,op,ty,pos,aft,some (j,true)⟩ fr e S K=wG ops j fun s=>wO (e.get s) fun v=>pR j sk (aNz v (pP n d e (.tup []) fun e'=>K false (.tup []) e' S)) (bN (hl v) (gY P C ⟨d,op,ty,pos,aft,some (j,true)⟩ fr (e.put s (.bool true)) S fun v S'=>pP n d (e.put s (.bool true)) v fun e'=>K true v e' S') (pP n d (e.put s (.bool false)) (.tup []) fun e'=>K false (.tup []) e' S))) ∧
  (∀ (n:Nat) (ops:List Oper) (sk:List Nat) (d:Option Tmp) (op:Op) (ty:TypeId) (pos:String) (aft:Array Edge) (j:Nat) (fr:Option Nat) (e:aM) (S:St) (K:Bool→V→aM→St→Prop),iR P C n ops.toArray sk ⟨d,op,ty,pos,aft,some (j,false)⟩ fr e S K=wG ops j fun s=>wO (e.get s) fun v=>pR j sk (aNz v (pP n d e (.tup []) fun e'=>K false (.tup []) e' S)) (bN (hl v) (pP n d (e.put s (.bool true)) (.tup []) fun e'=>K false (.tup []) e' S) (gY P C ⟨d,op,ty,pos,aft,some (j,false)⟩ fr (e.put s (.bool false)) S fun v S'=>pP n d (e.put s (.bool false)) v fun e'=>K true v e' S'))) ∧
  (∀ (n:Nat) (e:aM) (v:V) (K:aM→Prop),pP n none e v K=K e) ∧
  (∀ (rs:List ResultVar) (K:KW) (e:aM) (S:St),aO0 P rs K e S=aCo P e S rs fun vs=>K (oH vs) S) ∧
  (∀ (e:aM) (S:St) (K:List V→Prop),aCo P e S [] K=K []) ∧
  (∀ (e:aM) (S:St) (t:Tmp) (l:List ResultVar) (K:List V→Prop),aCo P e S (.tmp t::l) K=wO (e.get t) fun v=>aCo P e S l fun vs=>K (v::vs)) ∧
  (∀ (e:aM) (S:St) (a:Tmp) (t:TypeId) (l:List ResultVar) (K:List V→Prop),aCo P e S (.cell a t::l) K=wO (e.get a) fun p=>wR (hl (kK P t p S)) fun v=>aCo P e S l fun vs=>K (v::vs)) ∧
  (∀ (f:FuncId) (a b args:List V) (S:St) (K:KW),aQ1 P C (.func f a b) args S K=iX P C f (a++args++b) S K):=by
 refine ⟨fun n _ _ _ _ _ _ _=>rfl,fun n _ _ _ _ _ _ _ _=>rfl,fun n _ _ _ _ _ _ _ _=>rfl,fun n _ _ _ _ _ _ _=>rfl,fun n p lv id l e S Kn Kx Kr=>aFj P C n l.toArray Kn l _ 0 [] e S (by simp only [tU,and_self]),fun n _ _ _ _ _ _ _ _ _=>rfl,fun n _ _ _ _ _ _ _ _ _ _=>rfl,fun n _ _ _ _ _ _ _ _ _=>rfl,fun n ops ks i sk e S K=>by cases ks<;>rfl,fun n _ _ _ _ _ _ _ _ _ _=>rfl,fun n ops b ks i sk e S K=>by cases ks<;>rfl,fun n _ _ _ _ _ _ _ _ _ _ _=>rfl,fun n _ _ _ _ _ _ _=>rfl,fun n ops i re l b sk recs e S K=>?_,fun _ _ _ _=>rfl,fun _ _ _ _ _ _=>rfl,fun _ _ _ _=>rfl,fun ops i S K d t a ty pos aft g e v recs=>?_,fun ops i S K d a ts ty pos aft g e v recs=>?_,fun o i e v recs ops S K=>?_,fun n _ _ _ _ _ _ _ _ _ _ _=>rfl,fun n ops sk d op ty pos aft j fr e S K=>?_,fun n ops sk d op ty pos aft j fr e S K=>?_,fun n _ _ _=>rfl,fun _ _ _ _=>rfl,fun _ _ _=>rfl,fun _ _ _ _ _=>rfl,fun _ _ _ _ _ _=>rfl,fun _ _ _ _ _ _=>rfl⟩
 ·rw [pJ,aDo]
 ·simp only [vO,dC,aJl,Bool.and_true,Option.isSome,dE,hl];rw [aDo]
 ·simp only [vO,dC,aJl,Bool.and_true,Option.isSome,dE,hl];rw [aDo]
 ·simp only [vO,Bool.and_false,Bool.false_and]
 ·simp only [iR,doW,aDk,pR];rw [aQe];rfl
 ·simp only [iR,doW,aDk,pR];rw [aQe];rfl
theorem aL8:(∀ (k:Nat) (ks:List Nat) (i:Nat) (K:Nat→Prop),wLn [] (k::ks) i K=K k)∧(∀ (o:Oper) (l:List Oper) (k:Nat) (ks:List Nat) (i:Nat) (K:Nat→Prop),wLn (o::l) (k::ks) i K=wLn l ks (i+1) K)∧(∀ (j:Nat) (x y:Prop),pR j [] x y=y)∧(∀ (j i:Nat) (l:List Nat) (x y:Prop),pR j (vN true i l) x y=pR j l x y)∧(∀ (j i:Nat) (l:List Nat) (x y:Prop),pR j (vN false i l) x y=pR j (i::l) x y)∧(∀ (j:Nat) (l:List Nat) (x y:Prop),pR j (j::l) x y=x) ∧
  (∀ (j:Nat) (K:List Nat→Prop),wLv [] j K=K [])∧(∀ (j:Nat) (l:List Nat) (r:List (Nat×List Nat)) (K:List Nat→Prop),wLv ((j,l)::r) j K=K l)∧(∀ (j:Nat) (K:List bF→Prop) (x:Prop),wSt [] j K x=x)∧(∀ (j:Nat) (l:List bF) (r:List (Nat×List bF)) (K:List bF→Prop) (x:Prop),wSt ((j,l)::r) j K x=K l) ∧
  (∀ (o:Oper) (l:List Oper) (K:Nat→Prop),wG (o::l) 0 K=wO o.dst K)∧(∀ (o:Oper) (l:List Oper) (j:Nat) (K:Nat→Prop),wG (o::l) (j+1) K=wG l j K)∧(∀ (o:Oper) (l:List Oper) (K:Oper→Prop),wI (o::l) 0 K=K o)∧(∀ (o:Oper) (l:List Oper) (j:Nat) (K:Oper→Prop),wI (o::l) (j+1) K=wI l j K) ∧
  (∀ (d:Nat) (op:Op) (ty:TypeId) (pos:String) (aft:Array Edge) (g:Option (Nat×Bool)) (K:Nat→Prop),wO (Oper.dst ⟨some d,op,ty,pos,aft,g⟩) K=K d) ∧
  (∀ (i:Nat) (Kn:kV) (Kx:KXW) (e:aM) (S:St),aJj i Kn Kx i e S=Kn e S)∧(∀ (e:aM) (K:List V→Prop),lO e [] K=K [])∧(∀ (e:aM) (t:Nat) (l:List Nat) (K:List V→Prop),lO e (t::l) K=wO (e.get t) fun v=>lO e l fun vs=>K (v::vs)) ∧
  (∀ (vs:List V) (e:aM) (K:aM→Prop),aFg [] vs e K=K e)∧(∀ (t:Nat) (l:List Nat) (v:V) (vs:List V) (e:aM) (K:aM→Prop),aFg (t::l) (v::vs) e K=aFg l vs (e.put t v) K)∧(dJ 0 [] .nil=.nil)∧(∀ a0:V,dJ 0 [a0] .nil=(Tr.put .nil 0 a0))∧(∀ a0 a1:V,dJ 0 [a0,a1] .nil=((Tr.put .nil 0 a0).put 1 a1))∧(∀ a0 a1 a2:V,dJ 0 [a0,a1,a2] .nil=(((Tr.put .nil 0 a0).put 1 a1).put 2 a2))∧(∀ a0 a1 a2 a3:V,dJ 0 [a0,a1,a2,a3] .nil=((((Tr.put .nil 0 a0).put 1 a1).put 2 a2).put 3 a3))∧(∀ a0 a1 a2 a3 a4:V,dJ 0 [a0,a1,a2,a3,a4] .nil=(((((Tr.put .nil 0 a0).put 1 a1).put 2 a2).put 3 a3).put 4 a4))∧(∀ a0 a1 a2 a3 a4 a5:V,dJ 0 [a0,a1,a2,a3,a4,a5] .nil=((((((Tr.put .nil 0 a0).put 1 a1).put 2 a2).put 3 a3).put 4 a4).put 5 a5))∧(∀ a0 a1 a2 a3 a4 a5 a6:V,dJ 0 [a0,a1,a2,a3,a4,a5,a6] .nil=(((((((Tr.put .nil 0 a0).put 1 a1).put 2 a2).put 3 a3).put 4 a4).put 5 a5).put 6 a6))∧(∀ a0 a1 a2 a3 a4 a5 a6 a7:V,dJ 0 [a0,a1,a2,a3,a4,a5,a6,a7] .nil=((((((((Tr.put .nil 0 a0).put 1 a1).put 2 a2).put 3 a3).put 4 a4).put 5 a5).put 6 a6).put 7 a7)) ∧
  (∀ (i:Nat) (sk:List Nat),vN true i sk=sk)∧(∀ (i:Nat) (sk:List Nat),vN false i sk=i::sk)∧(∀ (e:aM) (t:Nat) (b:Bool),yD e (.tmp t) b=e.put t (.bool b))∧(∀ (e:aM) (v:Value) (b:Bool),yD e (.const v) b=e)∧(∀ v:V,oH [v]=v)∧oH []=.tup []∧(∀ (v w:V) (l:List V),oH (v::w::l)=.tup (v::w::l)) ∧
  (∀ (l:List V) (x:Prop),aNz (.tup l) x=x)∧(∀ a b:Code,aZ (.seq a b)=aZ a)∧(∀ (i:Nat) (a:Code),aZ (.block i a)=aZ a)∧(∀ (id:Nat) (ops:Array Oper) (d:Bool),aZ (.region id ops d)=id)∧(∀ a:Code,aZ (.loop a)=aZ a)∧(∀ (c:Operand) (a b:Code),aZ (.cond c a b)=0)∧(∀ x y:Prop,bN (hl (.bool true)) x y=x)∧(∀ x y:Prop,bN (hl (.bool false)) x y=y)∧(true=true)=True∧(false=true)=False∧(∀ a b:V,aH5 (.bool true) a b=.ok a)∧(∀ a b:V,aH5 (.bool false) a b=.ok b):=by
 refine ⟨fun _ _ _ _=>rfl,fun _ _ _ _ _ _=>rfl,fun _ _ _=>rfl,fun _ _ _ _ _=>rfl,fun _ _ _ _ _=>rfl,fun j l x y=>by simp only [pR,aPz,aJl],fun _ _=>rfl,fun j l r K=>by simp only [wLv,aJl],fun _ _ _=>rfl,fun j l r K x=>by simp only [wSt,aJl],fun _ _ _=>rfl,fun _ _ _ _=>rfl,fun _ _ _=>rfl,fun _ _ _ _=>rfl,fun _ _ _ _ _ _ _=>rfl,fun i Kn Kx e S=>by simp only [aJj,aJl],fun _ _=>rfl,fun _ _ _ _=>rfl,fun _ _ _=>rfl,fun _ _ _ _ _ _=>rfl,rfl,fun _=>rfl,fun _ _=>rfl,fun _ _ _=>rfl,fun _ _ _ _=>rfl,fun _ _ _ _ _=>rfl,fun _ _ _ _ _ _=>rfl,fun _ _ _ _ _ _ _=>rfl,fun _ _ _ _ _ _ _ _=>rfl,fun _ _=>rfl,fun _ _=>rfl,fun _ _ _=>rfl,fun _ _ _=>rfl,fun _=>rfl,rfl,fun _ _ _=>rfl,fun _ _=>rfl,fun _ _=>rfl,fun _ _=>rfl,fun _ _ _=>rfl,fun _=>rfl,fun _ _ _=>rfl,fun _ _=>rfl,fun _ _=>rfl,by simp,by simp,fun _ _=>rfl,fun _ _=>rfl⟩
def yN (P:Program) (C:aN) (fn:Func) (tp:List (Nat×List bF)) (tl:List (Nat×List Nat)) (args:List V) (S:St) (K:KW):Prop:=aQ2 P C (fV tp) (jV tl) args S K (fn.body.getD .skip) fn.ntmps fn.results.toList
theorem aX6 (P:Program) (C:aN) (nm og:String) (ta pa rt:Array TypeId) (nf nt:Nat) (rs:List ResultVar) (c:Code) (b1 b2:Bool) (fl:String) (el:Nat) (ln:Option Nat) (me:List Departure) (tn:Array String) (tp:List (Nat×List bF)) (tl:List (Nat×List Nat)) (args:List V) (S:St) (K:KW):
  yN P C ⟨nm,og,ta,pa,rt,nf,nt,rs.toArray,some c,b1,b2,fl,el,ln,me,tn⟩ tp tl args S K=vQ (Nat.ble args.length nt) (dI P C nt (fV tp) (jV tl) c (dJ 0 args .nil) S (aO0 P rs K) (fun _ _ _=>False) (aO0 P rs K)):=rfl
def aB8 (fn:Func):Code×Nat×List ResultVar:=(fn.body.getD .skip,fn.ntmps,fn.results.toList)
theorem aDt:(∀ n,Nat.ble ([]:List V).length n=true)∧(∀ (a:V) (l:List V) (n:Nat),Nat.ble (a::l).length (n+1)=Nat.ble l.length n):=⟨fun n=>by cases n<;>rfl,fun _ _ _=>rfl⟩
theorem aB9 (P:Program) (C:aN) {g:FuncId} (h:dD P g=some none) (args:List V) (S:St) (K:KW):iX P C g args S K=C g (hl args) S K:=by unfold iX;rw [h];rfl
section
variable {P:Program} {pl:hZ} {f:FuncId} {fn:Func} {tp:List (Nat×List bF)} {tl:List (Nat×List Nat)}
theorem bC4 (hp:pl f=some (.val (fV tp))) (hb:vP P f=some (aB8 fn)) {args:List V} {v:V} (hc:cloVs args=true) (h:yN P (W P pl) fn tp tl args ⟨0,.nil⟩ fun v0 S0=>jU S0 v0=.ok v):Fn P pl f args v:=
 Fn.of (p:=fV tp) (lv:=jV tl) hp hc (by unfold eX;rw [hb];exact h)
theorem bAx (hp:pl f=some (.code (fV tp))) (hb:vP P f=some (aB8 fn)) {args:List V} {S:St} {K:KW} (h:yN P (W P pl) fn tp tl args S K):W P pl f args S K:=
 aJb (p:=fV tp) (lv:=jV tl) hp (by unfold eX;rw [hb];exact h)
end
end
end Go.AM
end
section
namespace Go.Proofs.YtoaibmbldmckaaaGreat
open Go.AM Tryz
def dSp:aD6:=[(202,.ins 68),(221,.ins 27),(230,.ins 28),(234,.ins 25),(237,.ins 24),(280,.ins 80),(240,.del 28),(25,.told)]
def aVe:gC:=[
 (3,[]),
 (4,[(4,[(0,[]),(2,[]),(1,[2]),(3,[]),(4,[]),(5,[]),(6,[]),(7,[]),(8,[]),(9,[]),(10,[]),(11,[]),(12,[]),(13,[])])]),
 (5,[(10,[(0,[]),(1,[]),(2,[1]),(3,[])])]),
 (6,[(8,[(0,[]),(2,[]),(1,[2]),(3,[]),(4,[]),(5,[]),(6,[]),(7,[]),(8,[]),(9,[]),(10,[]),(11,[]),(12,[]),(13,[]),(14,[]),(15,[])])]),
 (7,[]),
 (8,[(7,[(1,[]),(2,[]),(3,[]),(4,[]),(6,[]),(7,[]),(8,[]),(9,[]),(10,[]),(0,[]),(5,[7]),(11,[]),(12,[])]),(15,[(0,[]),(1,[0]),(2,[0]),(3,[]),(4,[]),(5,[]),(6,[]),(7,[]),(8,[])])]),
 (9,[]),
 (10,[]),
 (11,[]),
 (12,[]),
 (13,[(2,[(0,[]),(2,[]),(1,[2]),(3,[]),(4,[]),(5,[]),(6,[]),(7,[]),(8,[]),(9,[]),(10,[]),(11,[]),(12,[]),(13,[]),(14,[])])]),
 (14,[]),
 (15,[(5,[(0,[]),(1,[]),(2,[0]),(3,[]),(4,[]),(5,[]),(6,[]),(7,[]),(8,[]),(9,[])]),(6,[(0,[]),(1,[]),(2,[0]),(3,[]),(4,[]),(5,[]),(6,[]),(7,[]),(8,[]),(9,[])])]),
 (16,[(3,[(0,[]),(2,[]),(1,[2]),(3,[]),(4,[]),(5,[])]),(4,[(0,[]),(1,[]),(2,[]),(3,[]),(4,[]),(5,[]),(6,[]),(7,[]),(8,[]),(9,[]),(10,[]),(12,[]),(13,[]),(11,[13,12]),(14,[]),(15,[]),(16,[]),(17,[]),(18,[]),(19,[]),(20,[])])]),
 (17,[(32,[(0,[]),(1,[]),(2,[]),(3,[]),(4,[]),(5,[]),(6,[]),(7,[]),(8,[]),(9,[]),(10,[]),(11,[]),(12,[]),(13,[]),(14,[]),(15,[]),(16,[]),(17,[]),(18,[]),(19,[]),(20,[]),(21,[]),(22,[]),(23,[]),(24,[]),(25,[]),(26,[]),(27,[]),(28,[25,23]),(29,[]),(30,[]),(31,[25,23]),(32,[]),(33,[]),(34,[25]),(35,[]),(36,[]),(37,[])])]),
 (18,[]),
 (19,[]),
 (20,[]),
 (21,[]),
 (22,[]),
 (23,[]),
 (24,[]),
 (25,[(6,[(0,[]),(1,[]),(2,[]),(3,[]),(4,[]),(5,[]),(6,[]),(7,[]),(8,[]),(9,[8]),(10,[]),(11,[]),(12,[]),(13,[]),(14,[]),(15,[]),(16,[]),(17,[]),(18,[]),(19,[]),(20,[]),(21,[]),(22,[]),(23,[]),(24,[])])]),
 (26,[]),
 (27,[]),
 (28,[]),
 (29,[(7,[(0,[]),(1,[]),(2,[]),(3,[]),(4,[]),(5,[]),(6,[]),(8,[]),(9,[]),(10,[]),(11,[]),(12,[]),(13,[]),(15,[]),(16,[]),(17,[]),(18,[]),(19,[]),(20,[]),(7,[20,16,13,9]),(14,[20,16]),(21,[]),(22,[])]),(12,[(0,[]),(1,[]),(2,[]),(3,[]),(4,[]),(5,[]),(6,[]),(8,[]),(9,[]),(10,[]),(11,[]),(12,[]),(13,[]),(15,[]),(16,[]),(17,[]),(18,[]),(19,[]),(20,[]),(7,[20,16,13,9]),(14,[20,16]),(21,[]),(22,[])]),(18,[(0,[]),(1,[]),(2,[]),(3,[]),(5,[]),(6,[]),(4,[6]),(7,[]),(8,[])]),(19,[(0,[]),(1,[]),(2,[]),(3,[]),(5,[]),(6,[]),(7,[]),(4,[7]),(8,[]),(9,[])]),(25,[(0,[]),(1,[]),(2,[]),(4,[]),(5,[]),(7,[]),(8,[]),(3,[8,5]),(6,[8]),(9,[]),(10,[])]),(30,[(0,[]),(1,[]),(2,[]),(3,[]),(4,[]),(5,[]),(6,[]),(8,[]),(9,[]),(10,[]),(11,[]),(12,[]),(13,[]),(15,[]),(16,[]),(17,[]),(18,[]),(19,[]),(20,[]),(7,[20,16,13,9]),(14,[20,16]),(21,[]),(22,[])])]),
 (30,[]),
 (31,[]),
 (32,[]),
 (33,[(3,[(0,[]),(1,[0]),(2,[]),(3,[])]),(5,[(0,[]),(1,[0]),(2,[]),(3,[])]),(10,[(0,[]),(1,[]),(2,[0]),(3,[]),(4,[])]),(12,[(0,[]),(1,[]),(2,[1]),(3,[])]),(17,[(0,[]),(1,[]),(2,[1]),(3,[])])]),
 (34,[(9,[(1,[]),(2,[]),(4,[]),(5,[]),(6,[]),(0,[]),(3,[5]),(7,[]),(8,[]),(9,[]),(10,[])]),(11,[(0,[]),(1,[]),(2,[]),(3,[]),(4,[]),(5,[2]),(6,[])]),(16,[(0,[]),(1,[]),(2,[1]),(3,[])]),(21,[(0,[]),(1,[]),(2,[1]),(3,[])])]),
 (35,[]),
 (36,[]),
 (37,[]),
 (38,[]),
 (39,[]),
 (40,[]),
 (41,[(10,[(0,[]),(1,[]),(3,[]),(2,[3]),(4,[]),(5,[]),(6,[]),(7,[]),(8,[]),(10,[]),(9,[10]),(11,[]),(12,[]),(13,[])]),(19,[(1,[]),(2,[]),(3,[]),(5,[]),(6,[]),(7,[]),(8,[]),(9,[]),(12,[]),(13,[]),(14,[]),(0,[]),(4,[8,6]),(10,[]),(11,[]),(15,[]),(16,[])])]),
 (42,[]),
 (43,[]),
 (44,[(3,[(0,[]),(1,[0]),(2,[0]),(3,[]),(4,[]),(5,[]),(6,[]),(7,[]),(8,[])]),(4,[(0,[]),(1,[0]),(2,[0]),(3,[]),(4,[]),(5,[]),(6,[]),(7,[]),(8,[])])]),
 (45,[]),
 (46,[]),
 (47,[]),
 (48,[]),
 (50,[]),
 (51,[]),
 (52,[]),
 (53,[]),
 (54,[(7,[(0,[]),(1,[]),(3,[]),(4,[]),(6,[]),(2,[4]),(5,[]),(7,[]),(8,[]),(9,[]),(10,[])])]),
 (55,[]),
 (56,[]),
 (57,[]),
 (58,[]),
 (59,[]),
 (60,[]),
 (61,[]),
 (62,[]),
 (63,[]),
 (64,[]),
 (65,[]),
 (66,[]),
 (67,[]),
 (68,[]),
 (69,[]),
 (70,[]),
 (71,[]),
 (72,[]),
 (73,[]),
 (74,[]),
 (75,[]),
 (76,[]),
 (77,[]),
 (78,[]),
 (79,[]),
 (80,[]),
 (81,[]),
 (82,[]),
 (83,[]),
 (84,[]),
 (85,[]),
 (86,[]),
 (87,[]),
 (88,[]),
 (89,[]),
 (90,[]),
 (91,[]),
 (92,[]),
 (93,[]),
 (94,[]),
 (95,[]),
 (96,[]),
 (97,[]),
 (98,[(1,[(0,[]),(1,[]),(2,[]),(4,[]),(5,[]),(7,[]),(8,[]),(3,[8,5]),(6,[8]),(9,[]),(10,[])])]),
 (99,[]),
 (100,[]),
 (101,[(1,[(0,[]),(1,[]),(2,[]),(4,[]),(5,[]),(7,[]),(8,[]),(3,[8,5]),(6,[8]),(9,[]),(10,[])])]),
 (102,[(9,[(0,[]),(1,[]),(2,[]),(3,[]),(4,[]),(5,[]),(6,[]),(7,[]),(8,[]),(9,[]),(10,[1]),(11,[]),(12,[]),(13,[]),(14,[])])]),
 (103,[]),
 (104,[(2,[(0,[]),(1,[0]),(2,[]),(3,[])]),(5,[(0,[]),(1,[]),(2,[0]),(3,[]),(4,[])]),(9,[(0,[]),(1,[]),(2,[1]),(3,[])])]),
 (105,[]),
 (106,[]),
 (107,[(8,[(0,[]),(1,[]),(2,[]),(3,[]),(4,[]),(5,[]),(6,[]),(7,[]),(8,[5]),(9,[]),(10,[]),(11,[])])]),
 (108,[(5,[(0,[]),(1,[]),(2,[]),(3,[]),(4,[]),(5,[3]),(6,[]),(7,[])]),(12,[(0,[]),(1,[]),(2,[]),(3,[]),(4,[]),(5,[3]),(6,[]),(7,[])]),(15,[(0,[]),(1,[]),(2,[]),(3,[]),(4,[]),(5,[]),(6,[]),(7,[5,3]),(8,[]),(9,[5]),(10,[]),(11,[])])]),
 (109,[]),
 (110,[(33,[(1,[]),(2,[]),(3,[]),(4,[]),(6,[]),(7,[]),(8,[]),(9,[]),(10,[]),(0,[]),(5,[7]),(11,[]),(12,[]),(13,[])]),(44,[(0,[]),(1,[]),(2,[1]),(3,[])])]),
 (111,[(4,[(0,[]),(1,[]),(2,[]),(3,[]),(4,[]),(5,[]),(6,[]),(7,[]),(8,[5]),(9,[]),(10,[]),(11,[])])]),
 (112,[]),
 (113,[]),
 (114,[]),
 (115,[]),
 (116,[]),
 (117,[]),
 (118,[(1,[(0,[]),(1,[]),(2,[]),(3,[]),(4,[]),(5,[]),(6,[]),(7,[]),(8,[]),(9,[]),(10,[]),(11,[]),(12,[]),(13,[]),(14,[]),(15,[]),(16,[]),(17,[]),(18,[]),(19,[]),(20,[15]),(21,[]),(22,[]),(23,[])])]),
 (119,[]),
 (120,[(19,[(0,[]),(1,[]),(2,[]),(3,[]),(4,[]),(5,[]),(6,[]),(7,[]),(8,[]),(9,[]),(10,[]),(11,[]),(12,[]),(13,[]),(15,[]),(16,[]),(17,[]),(18,[]),(19,[]),(14,[19]),(20,[]),(21,[]),(22,[]),(23,[]),(24,[]),(25,[]),(26,[]),(27,[]),(28,[]),(29,[]),(30,[]),(31,[]),(32,[]),(33,[]),(34,[]),(35,[]),(36,[]),(37,[]),(38,[]),(39,[]),(40,[]),(41,[]),(42,[]),(43,[]),(44,[]),(45,[]),(46,[]),(47,[]),(48,[])])]),
 (121,[]),
 (122,[(11,[(1,[]),(2,[]),(3,[]),(5,[]),(6,[]),(7,[]),(8,[]),(9,[]),(10,[]),(13,[]),(14,[]),(15,[]),(0,[]),(4,[9]),(11,[]),(12,[]),(16,[]),(17,[])])]),
 (123,[(1,[(0,[]),(1,[]),(2,[]),(3,[]),(4,[]),(5,[]),(6,[]),(7,[]),(8,[]),(9,[]),(10,[]),(11,[]),(12,[]),(13,[]),(14,[]),(15,[]),(16,[]),(17,[]),(18,[]),(19,[]),(20,[]),(21,[]),(22,[]),(23,[]),(24,[]),(25,[]),(26,[]),(27,[]),(28,[]),(29,[]),(30,[25]),(31,[]),(32,[]),(33,[])])]),
 (124,[(1,[(0,[]),(1,[]),(2,[]),(3,[]),(4,[]),(5,[]),(6,[]),(7,[]),(9,[]),(8,[9]),(10,[]),(11,[]),(12,[]),(13,[])])]),
 (125,[]),
 (126,[]),
 (127,[]),
 (128,[]),
 (129,[]),
 (130,[]),
 (131,[]),
 (132,[]),
 (133,[]),
 (134,[]),
 (135,[]),
 (136,[]),
 (137,[]),
 (138,[]),
 (139,[]),
 (140,[]),
 (141,[]),
 (142,[(5,[(0,[]),(1,[]),(2,[]),(3,[]),(4,[]),(5,[3]),(6,[]),(7,[])]),(14,[(0,[]),(1,[]),(2,[]),(3,[]),(4,[]),(5,[]),(6,[]),(7,[]),(8,[]),(10,[]),(9,[5,2]),(11,[5]),(12,[]),(13,[]),(14,[]),(15,[])]),(17,[(0,[]),(1,[]),(2,[]),(3,[]),(4,[]),(5,[]),(6,[]),(7,[5,3]),(8,[]),(9,[5]),(10,[]),(11,[])]),(24,[(0,[]),(1,[]),(2,[]),(3,[]),(4,[2]),(5,[])])]),
 (143,[(5,[(0,[]),(1,[]),(2,[]),(3,[]),(4,[]),(5,[4]),(6,[])])]),
 (144,[]),
 (145,[]),
 (146,[]),
 (147,[]),
 (148,[]),
 (149,[]),
 (150,[]),
 (151,[]),
 (152,[]),
 (153,[]),
 (154,[(10,[(0,[]),(1,[]),(2,[]),(3,[]),(4,[]),(7,[]),(8,[]),(9,[]),(10,[]),(11,[]),(5,[]),(6,[11]),(12,[]),(13,[]),(14,[]),(15,[])])]),
 (155,[]),
 (156,[]),
 (157,[]),
 (158,[]),
 (159,[]),
 (160,[]),
 (161,[(5,[(0,[]),(1,[]),(2,[]),(3,[]),(4,[]),(5,[]),(8,[]),(9,[]),(10,[]),(11,[]),(12,[]),(13,[]),(6,[]),(7,[13]),(14,[]),(15,[]),(16,[]),(17,[])])]),
 (162,[]),
 (163,[]),
 (164,[]),
 (165,[]),
 (166,[]),
 (167,[]),
 (168,[]),
 (169,[]),
 (170,[]),
 (171,[]),
 (172,[]),
 (173,[]),
 (174,[]),
 (175,[]),
 (176,[]),
 (177,[]),
 (178,[(17,[(0,[]),(2,[]),(3,[]),(1,[3]),(4,[]),(5,[]),(6,[]),(7,[])])]),
 (179,[]),
 (180,[]),
 (181,[]),
 (182,[]),
 (183,[]),
 (184,[]),
 (185,[]),
 (186,[(14,[(1,[]),(2,[]),(3,[]),(5,[]),(6,[]),(7,[]),(10,[]),(11,[]),(12,[]),(0,[]),(4,[]),(8,[]),(9,[]),(13,[]),(14,[]),(15,[])])]),
 (187,[]),
 (188,[]),
 (189,[(13,[(1,[]),(2,[]),(3,[]),(5,[]),(8,[]),(9,[]),(10,[]),(0,[]),(4,[5]),(6,[]),(7,[]),(11,[]),(12,[]),(13,[])])]),
 (190,[(30,[(1,[]),(2,[]),(3,[]),(4,[]),(6,[]),(7,[]),(8,[]),(9,[]),(12,[]),(13,[]),(14,[]),(15,[]),(0,[]),(5,[13,7]),(10,[]),(11,[13]),(16,[]),(17,[]),(18,[])]),(31,[(0,[]),(1,[]),(2,[]),(3,[]),(4,[]),(5,[]),(6,[]),(7,[]),(8,[]),(9,[]),(10,[1]),(11,[]),(12,[]),(13,[]),(14,[]),(15,[]),(16,[]),(17,[])])]),
 (191,[(13,[(1,[]),(2,[]),(4,[]),(5,[]),(6,[]),(7,[]),(8,[]),(9,[]),(10,[]),(11,[]),(12,[]),(13,[]),(0,[]),(3,[12,10,9,5]),(14,[]),(15,[]),(16,[]),(17,[])]),(14,[(0,[]),(1,[]),(2,[]),(3,[]),(4,[]),(5,[3]),(6,[])])]),
 (192,[(12,[(0,[]),(1,[]),(2,[]),(3,[]),(4,[]),(5,[]),(6,[]),(8,[]),(9,[]),(7,[9]),(10,[]),(11,[]),(12,[])]),(22,[(0,[]),(1,[]),(2,[1]),(3,[])])]),
 (193,[]),
 (194,[(3,[(0,[]),(1,[]),(3,[]),(4,[]),(2,[4]),(5,[]),(6,[]),(7,[])])]),
 (195,[]),
 (196,[]),
 (197,[]),
 (198,[]),
 (199,[]),
 (200,[]),
 (201,[]),
 (203,[]),
 (204,[]),
 (205,[]),
 (206,[]),
 (207,[(4,[(0,[]),(1,[]),(3,[]),(4,[]),(6,[]),(2,[4]),(5,[]),(7,[]),(8,[]),(9,[]),(10,[])])]),
 (208,[(9,[(0,[]),(1,[]),(2,[]),(3,[]),(4,[]),(5,[]),(6,[3,1]),(7,[]),(8,[]),(9,[]),(10,[])])]),
 (209,[]),
 (210,[]),
 (211,[]),
 (212,[]),
 (213,[]),
 (214,[]),
 (215,[(6,[(0,[]),(1,[]),(2,[]),(3,[]),(4,[]),(5,[4]),(6,[])])]),
 (216,[]),
 (217,[]),
 (218,[]),
 (219,[]),
 (220,[]),
 (222,[]),
 (223,[(7,[(0,[]),(1,[]),(2,[]),(3,[]),(4,[1]),(5,[]),(6,[]),(7,[])])]),
 (224,[]),
 (225,[]),
 (226,[(5,[(0,[]),(1,[]),(2,[]),(5,[]),(6,[]),(7,[]),(3,[]),(4,[7]),(8,[]),(9,[]),(10,[]),(11,[])])]),
 (227,[]),
 (228,[]),
 (229,[]),
 (231,[]),
 (232,[]),
 (233,[]),
 (235,[]),
 (236,[]),
 (238,[]),
 (239,[]),
 (241,[]),
 (242,[(7,[(0,[]),(1,[]),(2,[]),(3,[]),(4,[]),(5,[]),(6,[]),(7,[]),(8,[]),(9,[]),(10,[]),(11,[]),(12,[]),(14,[]),(13,[14]),(15,[]),(16,[]),(17,[])])]),
 (243,[]),
 (244,[]),
 (245,[]),
 (246,[]),
 (249,[(7,[(0,[]),(1,[]),(2,[]),(4,[]),(5,[]),(3,[5]),(6,[]),(7,[])]),(16,[(0,[]),(1,[]),(2,[]),(3,[]),(5,[]),(6,[]),(7,[]),(9,[]),(10,[]),(11,[]),(4,[11,7]),(8,[11]),(12,[]),(13,[])]),(20,[(0,[]),(1,[]),(2,[]),(4,[]),(5,[]),(7,[]),(8,[]),(9,[]),(3,[9,8,5]),(6,[9,8]),(10,[]),(11,[])]),(27,[(0,[]),(1,[]),(2,[]),(4,[]),(5,[]),(7,[]),(8,[]),(10,[]),(11,[]),(3,[11,8,5]),(6,[11,8]),(9,[11]),(12,[]),(13,[])]),(31,[(0,[]),(1,[]),(2,[]),(4,[]),(5,[]),(7,[]),(8,[]),(9,[]),(11,[]),(12,[]),(13,[]),(3,[13,9,5]),(6,[13,9]),(10,[13]),(14,[]),(15,[])])]),
 (250,[]),
 (251,[]),
 (252,[]),
 (253,[]),
 (254,[]),
 (258,[]),
 (259,[]),
 (260,[]),
 (263,[]),
 (268,[]),
 (269,[]),
 (270,[]),
 (271,[]),
 (273,[]),
 (278,[]),
 (279,[]),
 (286,[]),
 (287,[]),
 (307,[]),
 (308,[]),
 (309,[]),
 (310,[]),
 (311,[]),
 (312,[]),
 (313,[]),
 (314,[])]
def dVl:List Nat:=[3,4,5,6,7,8,9,10,11,12,13,14,15,16,17,18,19,21,22,23,24,25,26,27,28,29,30,31,32,33,34,35,36,37,38,40,41,42,43,44,45,46,47,48,50,51,52,53,54,55,56,57,58,59,62,64,68,69,70,73,74,75,76,77,78,80,81,82,83,84,85,86,87,88,89,90,91,103,104,105,107,108,109,110,111,112,113,114,115,116,117,118,119,120,121,122,123,124,126,127,128,129,130,131,132,133,134,135,136,137,139,140,141,142,143,144,145,146,147,148,150,151,158,159,160,161,162,163,164,165,166,167,168,169,170,173,174,175,177,178,182,185,186,187,188,189,190,191,192,193,194,195,196,197,198,199,200,201,203,204,205,206,207,208,212,213,214,215,216,217,218,219,220,222,223,224,225,226,227,228,229,231,232,233,236,238,241,242,243,244,245,246,249,253,254,258,260,263,268,271,273,278,279,286,287,307,308,309,310,311,312,313,314]
def dOl:List (Nat×List Nat):=[(235,[0]),(102,[2]),(157,[999])]
noncomputable def tV:hZ:=oK prog dSp aVe dVl dOl
end Go.Proofs.YtoaibmbldmckaaaGreat
end
section
namespace Go.Proofs.YtoaibmbldmckaaaGreat
open Go.RowKit Go.AM Tryz
def aQq:gC:=[
 (3,[]),
 (4,[(4,[(0,[]),(2,[]),(1,[2]),(3,[]),(4,[]),(5,[]),(6,[]),(7,[]),(8,[]),(9,[]),(10,[]),(11,[]),(12,[]),(13,[])])]),
 (5,[(10,[(0,[]),(1,[]),(2,[1]),(3,[])])]),
 (6,[(8,[(0,[]),(2,[]),(1,[2]),(3,[]),(4,[]),(5,[]),(6,[]),(7,[]),(8,[]),(9,[]),(10,[]),(11,[]),(12,[]),(13,[]),(14,[]),(15,[])])]),
 (7,[]),
 (8,[(7,[(1,[]),(2,[]),(3,[]),(4,[]),(6,[]),(7,[]),(8,[]),(9,[]),(10,[]),(0,[]),(5,[7]),(11,[]),(12,[])]),(15,[(0,[]),(1,[0]),(2,[0]),(3,[]),(4,[]),(5,[]),(6,[]),(7,[]),(8,[])])]),
 (9,[]),
 (10,[]),
 (11,[]),
 (12,[]),
 (13,[(2,[(0,[]),(2,[]),(1,[2]),(3,[]),(4,[]),(5,[]),(6,[]),(7,[]),(8,[]),(9,[]),(10,[]),(11,[]),(12,[]),(13,[]),(14,[])])]),
 (14,[]),
 (15,[(5,[(0,[]),(1,[]),(2,[0]),(3,[]),(4,[]),(5,[]),(6,[]),(7,[]),(8,[]),(9,[])]),(6,[(0,[]),(1,[]),(2,[0]),(3,[]),(4,[]),(5,[]),(6,[]),(7,[]),(8,[]),(9,[])])]),
 (16,[(3,[(0,[]),(2,[]),(1,[2]),(3,[]),(4,[]),(5,[])]),(4,[(0,[]),(1,[]),(2,[]),(3,[]),(4,[]),(5,[]),(6,[]),(7,[]),(8,[]),(9,[]),(10,[]),(12,[]),(13,[]),(11,[13,12]),(14,[]),(15,[]),(16,[]),(17,[]),(18,[]),(19,[]),(20,[])])]),
 (17,[(32,[(0,[]),(1,[]),(2,[]),(3,[]),(4,[]),(5,[]),(6,[]),(7,[]),(8,[]),(9,[]),(10,[]),(11,[]),(12,[]),(13,[]),(14,[]),(15,[]),(16,[]),(17,[]),(18,[]),(19,[]),(20,[]),(21,[]),(22,[]),(23,[]),(24,[]),(25,[]),(26,[]),(27,[]),(28,[25,23]),(29,[]),(30,[]),(31,[25,23]),(32,[]),(33,[]),(34,[25]),(35,[]),(36,[]),(37,[])])]),
 (18,[])]
theorem aOc:fK prog aQq=true:=by kernel_rfl
def aQr:gC:=[
 (19,[]),
 (20,[]),
 (21,[]),
 (22,[]),
 (23,[]),
 (24,[]),
 (25,[(6,[(0,[]),(1,[]),(2,[]),(3,[]),(4,[]),(5,[]),(6,[]),(7,[]),(8,[]),(9,[8]),(10,[]),(11,[]),(12,[]),(13,[]),(14,[]),(15,[]),(16,[]),(17,[]),(18,[]),(19,[]),(20,[]),(21,[]),(22,[]),(23,[]),(24,[])])]),
 (26,[]),
 (27,[]),
 (28,[]),
 (29,[(7,[(0,[]),(1,[]),(2,[]),(3,[]),(4,[]),(5,[]),(6,[]),(8,[]),(9,[]),(10,[]),(11,[]),(12,[]),(13,[]),(15,[]),(16,[]),(17,[]),(18,[]),(19,[]),(20,[]),(7,[20,16,13,9]),(14,[20,16]),(21,[]),(22,[])]),(12,[(0,[]),(1,[]),(2,[]),(3,[]),(4,[]),(5,[]),(6,[]),(8,[]),(9,[]),(10,[]),(11,[]),(12,[]),(13,[]),(15,[]),(16,[]),(17,[]),(18,[]),(19,[]),(20,[]),(7,[20,16,13,9]),(14,[20,16]),(21,[]),(22,[])]),(18,[(0,[]),(1,[]),(2,[]),(3,[]),(5,[]),(6,[]),(4,[6]),(7,[]),(8,[])]),(19,[(0,[]),(1,[]),(2,[]),(3,[]),(5,[]),(6,[]),(7,[]),(4,[7]),(8,[]),(9,[])]),(25,[(0,[]),(1,[]),(2,[]),(4,[]),(5,[]),(7,[]),(8,[]),(3,[8,5]),(6,[8]),(9,[]),(10,[])]),(30,[(0,[]),(1,[]),(2,[]),(3,[]),(4,[]),(5,[]),(6,[]),(8,[]),(9,[]),(10,[]),(11,[]),(12,[]),(13,[]),(15,[]),(16,[]),(17,[]),(18,[]),(19,[]),(20,[]),(7,[20,16,13,9]),(14,[20,16]),(21,[]),(22,[])])]),
 (30,[]),
 (31,[]),
 (32,[]),
 (33,[(3,[(0,[]),(1,[0]),(2,[]),(3,[])]),(5,[(0,[]),(1,[0]),(2,[]),(3,[])]),(10,[(0,[]),(1,[]),(2,[0]),(3,[]),(4,[])]),(12,[(0,[]),(1,[]),(2,[1]),(3,[])]),(17,[(0,[]),(1,[]),(2,[1]),(3,[])])]),
 (34,[(9,[(1,[]),(2,[]),(4,[]),(5,[]),(6,[]),(0,[]),(3,[5]),(7,[]),(8,[]),(9,[]),(10,[])]),(11,[(0,[]),(1,[]),(2,[]),(3,[]),(4,[]),(5,[2]),(6,[])]),(16,[(0,[]),(1,[]),(2,[1]),(3,[])]),(21,[(0,[]),(1,[]),(2,[1]),(3,[])])])]
theorem aOd:fK prog aQr=true:=by kernel_rfl
def aQs:gC:=[
 (35,[]),
 (36,[]),
 (37,[]),
 (38,[]),
 (39,[]),
 (40,[]),
 (41,[(10,[(0,[]),(1,[]),(3,[]),(2,[3]),(4,[]),(5,[]),(6,[]),(7,[]),(8,[]),(10,[]),(9,[10]),(11,[]),(12,[]),(13,[])]),(19,[(1,[]),(2,[]),(3,[]),(5,[]),(6,[]),(7,[]),(8,[]),(9,[]),(12,[]),(13,[]),(14,[]),(0,[]),(4,[8,6]),(10,[]),(11,[]),(15,[]),(16,[])])]),
 (42,[]),
 (43,[]),
 (44,[(3,[(0,[]),(1,[0]),(2,[0]),(3,[]),(4,[]),(5,[]),(6,[]),(7,[]),(8,[])]),(4,[(0,[]),(1,[0]),(2,[0]),(3,[]),(4,[]),(5,[]),(6,[]),(7,[]),(8,[])])]),
 (45,[]),
 (46,[]),
 (47,[]),
 (48,[]),
 (50,[]),
 (51,[])]
theorem aOe:fK prog aQs=true:=by kernel_rfl
def aQt:gC:=[
 (52,[]),
 (53,[]),
 (54,[(7,[(0,[]),(1,[]),(3,[]),(4,[]),(6,[]),(2,[4]),(5,[]),(7,[]),(8,[]),(9,[]),(10,[])])]),
 (55,[]),
 (56,[]),
 (57,[]),
 (58,[]),
 (59,[]),
 (60,[]),
 (61,[]),
 (62,[]),
 (63,[]),
 (64,[]),
 (65,[]),
 (66,[]),
 (67,[])]
theorem aOf:fK prog aQt=true:=by kernel_rfl
def aQu:gC:=[
 (68,[]),
 (69,[]),
 (70,[]),
 (71,[]),
 (72,[]),
 (73,[]),
 (74,[]),
 (75,[]),
 (76,[]),
 (77,[]),
 (78,[]),
 (79,[]),
 (80,[]),
 (81,[]),
 (82,[]),
 (83,[])]
theorem aOg:fK prog aQu=true:=by kernel_rfl
def aQv:gC:=[
 (84,[]),
 (85,[]),
 (86,[]),
 (87,[]),
 (88,[]),
 (89,[]),
 (90,[]),
 (91,[]),
 (92,[]),
 (93,[]),
 (94,[]),
 (95,[]),
 (96,[]),
 (97,[]),
 (98,[(1,[(0,[]),(1,[]),(2,[]),(4,[]),(5,[]),(7,[]),(8,[]),(3,[8,5]),(6,[8]),(9,[]),(10,[])])]),
 (99,[])]
theorem aOh:fK prog aQv=true:=by kernel_rfl
def aQw:gC:=[
 (100,[]),
 (101,[(1,[(0,[]),(1,[]),(2,[]),(4,[]),(5,[]),(7,[]),(8,[]),(3,[8,5]),(6,[8]),(9,[]),(10,[])])]),
 (102,[(9,[(0,[]),(1,[]),(2,[]),(3,[]),(4,[]),(5,[]),(6,[]),(7,[]),(8,[]),(9,[]),(10,[1]),(11,[]),(12,[]),(13,[]),(14,[])])]),
 (103,[]),
 (104,[(2,[(0,[]),(1,[0]),(2,[]),(3,[])]),(5,[(0,[]),(1,[]),(2,[0]),(3,[]),(4,[])]),(9,[(0,[]),(1,[]),(2,[1]),(3,[])])]),
 (105,[]),
 (106,[]),
 (107,[(8,[(0,[]),(1,[]),(2,[]),(3,[]),(4,[]),(5,[]),(6,[]),(7,[]),(8,[5]),(9,[]),(10,[]),(11,[])])]),
 (108,[(5,[(0,[]),(1,[]),(2,[]),(3,[]),(4,[]),(5,[3]),(6,[]),(7,[])]),(12,[(0,[]),(1,[]),(2,[]),(3,[]),(4,[]),(5,[3]),(6,[]),(7,[])]),(15,[(0,[]),(1,[]),(2,[]),(3,[]),(4,[]),(5,[]),(6,[]),(7,[5,3]),(8,[]),(9,[5]),(10,[]),(11,[])])]),
 (109,[]),
 (110,[(33,[(1,[]),(2,[]),(3,[]),(4,[]),(6,[]),(7,[]),(8,[]),(9,[]),(10,[]),(0,[]),(5,[7]),(11,[]),(12,[]),(13,[])]),(44,[(0,[]),(1,[]),(2,[1]),(3,[])])]),
 (111,[(4,[(0,[]),(1,[]),(2,[]),(3,[]),(4,[]),(5,[]),(6,[]),(7,[]),(8,[5]),(9,[]),(10,[]),(11,[])])]),
 (112,[]),
 (113,[]),
 (114,[]),
 (115,[])]
theorem aOi:fK prog aQw=true:=by kernel_rfl
def aQx:gC:=[
 (116,[]),
 (117,[]),
 (118,[(1,[(0,[]),(1,[]),(2,[]),(3,[]),(4,[]),(5,[]),(6,[]),(7,[]),(8,[]),(9,[]),(10,[]),(11,[]),(12,[]),(13,[]),(14,[]),(15,[]),(16,[]),(17,[]),(18,[]),(19,[]),(20,[15]),(21,[]),(22,[]),(23,[])])]),
 (119,[]),
 (120,[(19,[(0,[]),(1,[]),(2,[]),(3,[]),(4,[]),(5,[]),(6,[]),(7,[]),(8,[]),(9,[]),(10,[]),(11,[]),(12,[]),(13,[]),(15,[]),(16,[]),(17,[]),(18,[]),(19,[]),(14,[19]),(20,[]),(21,[]),(22,[]),(23,[]),(24,[]),(25,[]),(26,[]),(27,[]),(28,[]),(29,[]),(30,[]),(31,[]),(32,[]),(33,[]),(34,[]),(35,[]),(36,[]),(37,[]),(38,[]),(39,[]),(40,[]),(41,[]),(42,[]),(43,[]),(44,[]),(45,[]),(46,[]),(47,[]),(48,[])])]),
 (121,[]),
 (122,[(11,[(1,[]),(2,[]),(3,[]),(5,[]),(6,[]),(7,[]),(8,[]),(9,[]),(10,[]),(13,[]),(14,[]),(15,[]),(0,[]),(4,[9]),(11,[]),(12,[]),(16,[]),(17,[])])]),
 (123,[(1,[(0,[]),(1,[]),(2,[]),(3,[]),(4,[]),(5,[]),(6,[]),(7,[]),(8,[]),(9,[]),(10,[]),(11,[]),(12,[]),(13,[]),(14,[]),(15,[]),(16,[]),(17,[]),(18,[]),(19,[]),(20,[]),(21,[]),(22,[]),(23,[]),(24,[]),(25,[]),(26,[]),(27,[]),(28,[]),(29,[]),(30,[25]),(31,[]),(32,[]),(33,[])])]),
 (124,[(1,[(0,[]),(1,[]),(2,[]),(3,[]),(4,[]),(5,[]),(6,[]),(7,[]),(9,[]),(8,[9]),(10,[]),(11,[]),(12,[]),(13,[])])]),
 (125,[]),
 (126,[]),
 (127,[]),
 (128,[]),
 (129,[]),
 (130,[]),
 (131,[])]
theorem aOj:fK prog aQx=true:=by kernel_rfl
def aQy:gC:=[
 (132,[]),
 (133,[]),
 (134,[]),
 (135,[]),
 (136,[]),
 (137,[]),
 (138,[]),
 (139,[]),
 (140,[]),
 (141,[]),
 (142,[(5,[(0,[]),(1,[]),(2,[]),(3,[]),(4,[]),(5,[3]),(6,[]),(7,[])]),(14,[(0,[]),(1,[]),(2,[]),(3,[]),(4,[]),(5,[]),(6,[]),(7,[]),(8,[]),(10,[]),(9,[5,2]),(11,[5]),(12,[]),(13,[]),(14,[]),(15,[])]),(17,[(0,[]),(1,[]),(2,[]),(3,[]),(4,[]),(5,[]),(6,[]),(7,[5,3]),(8,[]),(9,[5]),(10,[]),(11,[])]),(24,[(0,[]),(1,[]),(2,[]),(3,[]),(4,[2]),(5,[])])]),
 (143,[(5,[(0,[]),(1,[]),(2,[]),(3,[]),(4,[]),(5,[4]),(6,[])])]),
 (144,[]),
 (145,[]),
 (146,[]),
 (147,[])]
theorem aOk:fK prog aQy=true:=by kernel_rfl
def aQz:gC:=[
 (148,[]),
 (149,[]),
 (150,[]),
 (151,[]),
 (152,[]),
 (153,[]),
 (154,[(10,[(0,[]),(1,[]),(2,[]),(3,[]),(4,[]),(7,[]),(8,[]),(9,[]),(10,[]),(11,[]),(5,[]),(6,[11]),(12,[]),(13,[]),(14,[]),(15,[])])]),
 (155,[]),
 (156,[]),
 (157,[]),
 (158,[]),
 (159,[]),
 (160,[]),
 (161,[(5,[(0,[]),(1,[]),(2,[]),(3,[]),(4,[]),(5,[]),(8,[]),(9,[]),(10,[]),(11,[]),(12,[]),(13,[]),(6,[]),(7,[13]),(14,[]),(15,[]),(16,[]),(17,[])])]),
 (162,[]),
 (163,[])]
theorem aOl:fK prog aQz=true:=by kernel_rfl
def aL9:gC:=[
 (164,[]),
 (165,[]),
 (166,[]),
 (167,[]),
 (168,[]),
 (169,[]),
 (170,[]),
 (171,[]),
 (172,[]),
 (173,[]),
 (174,[]),
 (175,[]),
 (176,[]),
 (177,[]),
 (178,[(17,[(0,[]),(2,[]),(3,[]),(1,[3]),(4,[]),(5,[]),(6,[]),(7,[])])]),
 (179,[])]
theorem aJm:fK prog aL9=true:=by kernel_rfl
def aLa:gC:=[
 (180,[]),
 (181,[]),
 (182,[]),
 (183,[]),
 (184,[]),
 (185,[]),
 (186,[(14,[(1,[]),(2,[]),(3,[]),(5,[]),(6,[]),(7,[]),(10,[]),(11,[]),(12,[]),(0,[]),(4,[]),(8,[]),(9,[]),(13,[]),(14,[]),(15,[])])]),
 (187,[]),
 (188,[]),
 (189,[(13,[(1,[]),(2,[]),(3,[]),(5,[]),(8,[]),(9,[]),(10,[]),(0,[]),(4,[5]),(6,[]),(7,[]),(11,[]),(12,[]),(13,[])])]),
 (190,[(30,[(1,[]),(2,[]),(3,[]),(4,[]),(6,[]),(7,[]),(8,[]),(9,[]),(12,[]),(13,[]),(14,[]),(15,[]),(0,[]),(5,[13,7]),(10,[]),(11,[13]),(16,[]),(17,[]),(18,[])]),(31,[(0,[]),(1,[]),(2,[]),(3,[]),(4,[]),(5,[]),(6,[]),(7,[]),(8,[]),(9,[]),(10,[1]),(11,[]),(12,[]),(13,[]),(14,[]),(15,[]),(16,[]),(17,[])])]),
 (191,[(13,[(1,[]),(2,[]),(4,[]),(5,[]),(6,[]),(7,[]),(8,[]),(9,[]),(10,[]),(11,[]),(12,[]),(13,[]),(0,[]),(3,[12,10,9,5]),(14,[]),(15,[]),(16,[]),(17,[])]),(14,[(0,[]),(1,[]),(2,[]),(3,[]),(4,[]),(5,[3]),(6,[])])]),
 (192,[(12,[(0,[]),(1,[]),(2,[]),(3,[]),(4,[]),(5,[]),(6,[]),(8,[]),(9,[]),(7,[9]),(10,[]),(11,[]),(12,[])]),(22,[(0,[]),(1,[]),(2,[1]),(3,[])])]),
 (193,[]),
 (194,[(3,[(0,[]),(1,[]),(3,[]),(4,[]),(2,[4]),(5,[]),(6,[]),(7,[])])]),
 (195,[])]
theorem aJn:fK prog aLa=true:=by kernel_rfl
def aLb:gC:=[
 (196,[]),
 (197,[]),
 (198,[]),
 (199,[]),
 (200,[]),
 (201,[]),
 (203,[]),
 (204,[]),
 (205,[]),
 (206,[]),
 (207,[(4,[(0,[]),(1,[]),(3,[]),(4,[]),(6,[]),(2,[4]),(5,[]),(7,[]),(8,[]),(9,[]),(10,[])])]),
 (208,[(9,[(0,[]),(1,[]),(2,[]),(3,[]),(4,[]),(5,[]),(6,[3,1]),(7,[]),(8,[]),(9,[]),(10,[])])]),
 (209,[]),
 (210,[]),
 (211,[]),
 (212,[])]
theorem aJo:fK prog aLb=true:=by kernel_rfl
def aLc:gC:=[
 (213,[]),
 (214,[]),
 (215,[(6,[(0,[]),(1,[]),(2,[]),(3,[]),(4,[]),(5,[4]),(6,[])])]),
 (216,[]),
 (217,[]),
 (218,[]),
 (219,[]),
 (220,[]),
 (222,[]),
 (223,[(7,[(0,[]),(1,[]),(2,[]),(3,[]),(4,[1]),(5,[]),(6,[]),(7,[])])]),
 (224,[]),
 (225,[]),
 (226,[(5,[(0,[]),(1,[]),(2,[]),(5,[]),(6,[]),(7,[]),(3,[]),(4,[7]),(8,[]),(9,[]),(10,[]),(11,[])])]),
 (227,[]),
 (228,[]),
 (229,[])]
theorem aJp:fK prog aLc=true:=by kernel_rfl
def aLd:gC:=[
 (231,[]),
 (232,[]),
 (233,[]),
 (235,[]),
 (236,[]),
 (238,[]),
 (239,[]),
 (241,[]),
 (242,[(7,[(0,[]),(1,[]),(2,[]),(3,[]),(4,[]),(5,[]),(6,[]),(7,[]),(8,[]),(9,[]),(10,[]),(11,[]),(12,[]),(14,[]),(13,[14]),(15,[]),(16,[]),(17,[])])]),
 (243,[]),
 (244,[]),
 (245,[]),
 (246,[]),
 (249,[(7,[(0,[]),(1,[]),(2,[]),(4,[]),(5,[]),(3,[5]),(6,[]),(7,[])]),(16,[(0,[]),(1,[]),(2,[]),(3,[]),(5,[]),(6,[]),(7,[]),(9,[]),(10,[]),(11,[]),(4,[11,7]),(8,[11]),(12,[]),(13,[])]),(20,[(0,[]),(1,[]),(2,[]),(4,[]),(5,[]),(7,[]),(8,[]),(9,[]),(3,[9,8,5]),(6,[9,8]),(10,[]),(11,[])]),(27,[(0,[]),(1,[]),(2,[]),(4,[]),(5,[]),(7,[]),(8,[]),(10,[]),(11,[]),(3,[11,8,5]),(6,[11,8]),(9,[11]),(12,[]),(13,[])]),(31,[(0,[]),(1,[]),(2,[]),(4,[]),(5,[]),(7,[]),(8,[]),(9,[]),(11,[]),(12,[]),(13,[]),(3,[13,9,5]),(6,[13,9]),(10,[13]),(14,[]),(15,[])])]),
 (250,[]),
 (251,[])]
theorem aJq:fK prog aLd=true:=by kernel_rfl
def aLe:gC:=[
 (252,[]),
 (253,[]),
 (254,[]),
 (258,[]),
 (259,[]),
 (260,[]),
 (263,[]),
 (268,[]),
 (269,[]),
 (270,[]),
 (271,[]),
 (273,[]),
 (278,[]),
 (279,[]),
 (286,[]),
 (287,[])]
theorem aJr:fK prog aLe=true:=by kernel_rfl
def aLf:gC:=[
 (307,[]),
 (308,[]),
 (309,[]),
 (310,[]),
 (311,[]),
 (312,[]),
 (313,[]),
 (314,[])]
theorem aJs:fK prog aLf=true:=by kernel_rfl
end Go.Proofs.YtoaibmbldmckaaaGreat
end
section
namespace Go.Proofs.YtoaibmbldmckaaaGreat
open Go.AM Tryz
section
noncomputable abbrev C:aN:=W prog tV
abbrev Fv (f:Nat) (args:List V) (v:V):Prop:=Go.AM.Fn prog tV f args v
abbrev Fr (f:Nat) (mk:Nat→List V) (n:Nat) (pre:List V) (v:V) (post:List V):Prop:=Go.AM.FnR prog tV f mk 0 n [pre] v [post]
theorem A2 {p q:Prop} (a:p) (b:q):p∧q:=⟨a,b⟩
abbrev TP:=List (Nat×List bF)
abbrev TL:=List (Nat×List Nat)
abbrev VA (f:Nat) (fn:Func) (tp:TP) (tl:TL):Prop:=∀ {args:List V} {v:V},cloVs args=true→(yN prog C fn tp tl args ⟨0,.nil⟩ fun v0 S0=>jU S0 v0=.ok v)→Fv f args v
abbrev VB (f:Nat) (fn:Func) (tp:TP) (tl:TL):Prop:=∀ {args:List V} {S:St} {K:KW},yN prog C fn tp tl args S K→C f args S K
abbrev VC (f:Nat) (fn:Func) (tp:TP) (tl:TL) (w:List Nat):Prop:=∀ {args:List V} {S:St} {K:KW},cloVs args=true→(yN prog C fn tp tl args ⟨0,.nil⟩ fun v0 S0=>wR (hl (qY w v0 S0 S)) fun r=>K r.1 r.2)→C f args S K
abbrev VT (f:Nat) (fn:Func) (tp:TP) (tl:TL):Prop:=∀ (args:List V) (S:St) (K:KW),eX prog C (fV tp) (jV tl) f args S K=yN prog C fn tp tl args S K
abbrev VK (f:Nat) (fn:Func) (tp:TP) (tl:TL):Prop:=∀ {bs:List V} {v:V},(yN prog C fn tp tl bs ⟨0,.nil⟩ fun v0 S0=>aD5 S0 v0=true∧jU S0 v0=.ok v)→FnK prog tV f bs v
section
variable {f:Nat} {fn:Func} {tp:TP} {tl:TL}
theorem va (hp:tV f=some (.val (fV tp))) (hb:vP prog f=some (aB8 fn)):VA f fn tp tl:=fun hc h=>bC4 hp hb hc h
theorem vb (hp:tV f=some (.code (fV tp))) (hb:vP prog f=some (aB8 fn)):VB f fn tp tl:=fun h=>bAx hp hb h
theorem vt (hb:vP prog f=some (aB8 fn)):VT f fn tp tl:=fun args S K=>by unfold eX;rw [hb];rfl
theorem vc {w:List Nat} (hp:tV f=some (.own (fV tp) w)) (hb:vP prog f=some (aB8 fn)) (hm:fT kpN w=false):VC f fn tp tl w:=fun hc h=>bC1 (p:=fV tp) (lv:=jV tl) hp hm hc (by rw [vt (tp:=tp) (tl:=tl) hb];exact h)
theorem vk (hp:tV f=some (.own (fV tp) [kpN])) (hb:vP prog f=some (aB8 fn)):VK f fn tp tl:=fun h=>FnK.of (p:=fV tp) (lv:=jV tl) hp (by rw [vt (tp:=tp) (tl:=tl) hb];exact h)
end
theorem v16:VA 16 Tryz.f16 [(3,[(0,[]),(2,[]),(1,[2]),(3,[]),(4,[]),(5,[])]),(4,[(0,[]),(1,[]),(2,[]),(3,[]),(4,[]),(5,[]),(6,[]),(7,[]),(8,[]),(9,[]),(10,[]),(12,[]),(13,[]),(11,[13,12]),(14,[]),(15,[]),(16,[]),(17,[]),(18,[]),(19,[]),(20,[])])] []:=va (by kernel_rfl) (by kernel_rfl)
theorem v22:VA 22 Tryz.f22 [] []:=va (by kernel_rfl) (by kernel_rfl)
theorem v24:VA 24 Tryz.f24 [] []:=va (by kernel_rfl) (by kernel_rfl)
theorem bI5:tV 24=some (.val (fV [])):=by kernel_rfl
theorem v27:VA 27 Tryz.f27 [] [(4,[4,5])]:=va (by kernel_rfl) (by kernel_rfl)
theorem v28:VA 28 Tryz.f28 [] [(28,[97]),(22,[80]),(14,[53]),(6,[26])]:=va (by kernel_rfl) (by kernel_rfl)
theorem v31:VA 31 Tryz.f31 [] []:=va (by kernel_rfl) (by kernel_rfl)
theorem v35:VA 35 Tryz.f35 [] [(4,[6,14])]:=va (by kernel_rfl) (by kernel_rfl)
theorem v80:VA 80 Tryz.f80 [] [(4,[4,5])]:=va (by kernel_rfl) (by kernel_rfl)
theorem v81:VA 81 Tryz.f81 [] [(4,[4,5])]:=va (by kernel_rfl) (by kernel_rfl)
theorem v82:VA 82 Tryz.f82 [] [(4,[4,5])]:=va (by kernel_rfl) (by kernel_rfl)
theorem v83:VA 83 Tryz.f83 [] [(4,[4,5])]:=va (by kernel_rfl) (by kernel_rfl)
theorem v84:VA 84 Tryz.f84 [] [(4,[4,5])]:=va (by kernel_rfl) (by kernel_rfl)
theorem v85:VA 85 Tryz.f85 [] [(4,[2,10])]:=va (by kernel_rfl) (by kernel_rfl)
theorem v86:VA 86 Tryz.f86 [] [(4,[2,10])]:=va (by kernel_rfl) (by kernel_rfl)
theorem v87:VA 87 Tryz.f87 [] []:=va (by kernel_rfl) (by kernel_rfl)
theorem v88:VA 88 Tryz.f88 [] [(16,[2,58]),(5,[2,14])]:=va (by kernel_rfl) (by kernel_rfl)
theorem v89:VA 89 Tryz.f89 [] [(13,[2,38]),(3,[2,12])]:=va (by kernel_rfl) (by kernel_rfl)
theorem v90:VA 90 Tryz.f90 [] [(3,[2,3,4,11])]:=va (by kernel_rfl) (by kernel_rfl)
theorem v91:VA 91 Tryz.f91 [] [(4,[4,13])]:=va (by kernel_rfl) (by kernel_rfl)
theorem v92:VB 92 Tryz.f92 [] [(1,[8])]:=vb (by kernel_rfl) (by kernel_rfl)
theorem v93:VB 93 Tryz.f93 [] []:=vb (by kernel_rfl) (by kernel_rfl)
theorem v94:VB 94 Tryz.f94 [] []:=vb (by kernel_rfl) (by kernel_rfl)
theorem v95:VB 95 Tryz.f95 [] []:=vb (by kernel_rfl) (by kernel_rfl)
theorem v96:VB 96 Tryz.f96 [] [(6,[34])]:=vb (by kernel_rfl) (by kernel_rfl)
theorem bI6:VC 102 Tryz.f102 [(9,[(0,[]),(1,[]),(2,[]),(3,[]),(4,[]),(5,[]),(6,[]),(7,[]),(8,[]),(9,[]),(10,[1]),(11,[]),(12,[]),(13,[]),(14,[])])] [(7,[27])] [2]:=vc (by kernel_rfl) (by kernel_rfl) rfl
theorem bI7:VA 103 Tryz.f103 [] []:=va (by kernel_rfl) (by kernel_rfl)
theorem bI8:VA 104 Tryz.f104 [(2,[(0,[]),(1,[0]),(2,[]),(3,[])]),(5,[(0,[]),(1,[]),(2,[0]),(3,[]),(4,[])]),(9,[(0,[]),(1,[]),(2,[1]),(3,[])])] []:=va (by kernel_rfl) (by kernel_rfl)
theorem bC5:tV 104=some (.val (fV [(2,[(0,[]),(1,[0]),(2,[]),(3,[])]),(5,[(0,[]),(1,[]),(2,[0]),(3,[]),(4,[])]),(9,[(0,[]),(1,[]),(2,[1]),(3,[])])])):=by kernel_rfl
theorem bI9:VA 105 Tryz.f105 [] []:=va (by kernel_rfl) (by kernel_rfl)
theorem bIa:VB 106 Tryz.f106 [] []:=vb (by kernel_rfl) (by kernel_rfl)
theorem bIb:VA 107 Tryz.f107 [(8,[(0,[]),(1,[]),(2,[]),(3,[]),(4,[]),(5,[]),(6,[]),(7,[]),(8,[5]),(9,[]),(10,[]),(11,[])])] []:=va (by kernel_rfl) (by kernel_rfl)
theorem bIc:VA 123 Tryz.f123 [(1,[(0,[]),(1,[]),(2,[]),(3,[]),(4,[]),(5,[]),(6,[]),(7,[]),(8,[]),(9,[]),(10,[]),(11,[]),(12,[]),(13,[]),(14,[]),(15,[]),(16,[]),(17,[]),(18,[]),(19,[]),(20,[]),(21,[]),(22,[]),(23,[]),(24,[]),(25,[]),(26,[]),(27,[]),(28,[]),(29,[]),(30,[25]),(31,[]),(32,[]),(33,[])])] []:=va (by kernel_rfl) (by kernel_rfl)
theorem bId:VA 124 Tryz.f124 [(1,[(0,[]),(1,[]),(2,[]),(3,[]),(4,[]),(5,[]),(6,[]),(7,[]),(9,[]),(8,[9]),(10,[]),(11,[]),(12,[]),(13,[])])] []:=va (by kernel_rfl) (by kernel_rfl)
theorem bIe:VA 131 Tryz.f131 [] []:=va (by kernel_rfl) (by kernel_rfl)
theorem bIf:VA 132 Tryz.f132 [] []:=va (by kernel_rfl) (by kernel_rfl)
theorem bIg:VB 138 Tryz.f138 [] [(5,[5,6])]:=vb (by kernel_rfl) (by kernel_rfl)
theorem bIh:VB 152 Tryz.f152 [] [(2,[4,8])]:=vb (by kernel_rfl) (by kernel_rfl)
theorem bIi:VB 155 Tryz.f155 [] [(2,[4,8])]:=vb (by kernel_rfl) (by kernel_rfl)
theorem bIj:VK 157 Tryz.f157 [] [(3,[2,3,4,18])]:=vk (by kernel_rfl) (by kernel_rfl)
theorem bIk:VA 162 Tryz.f162 [] []:=va (by kernel_rfl) (by kernel_rfl)
theorem bIl:VA 163 Tryz.f163 [] []:=va (by kernel_rfl) (by kernel_rfl)
theorem bIm:VA 164 Tryz.f164 [] []:=va (by kernel_rfl) (by kernel_rfl)
theorem bIn:VA 165 Tryz.f165 [] [(4,[2])]:=va (by kernel_rfl) (by kernel_rfl)
theorem bIo:VA 166 Tryz.f166 [] [(5,[2,3,11])]:=va (by kernel_rfl) (by kernel_rfl)
theorem bIp:VA 167 Tryz.f167 [] [(4,[2,20])]:=va (by kernel_rfl) (by kernel_rfl)
theorem bIq:VA 168 Tryz.f168 [] []:=va (by kernel_rfl) (by kernel_rfl)
theorem bC6:tV 168=some (.val (fV [])):=by kernel_rfl
theorem bIr:VA 169 Tryz.f169 [] []:=va (by kernel_rfl) (by kernel_rfl)
theorem bC7:tV 170=some (.val (fV [])):=by kernel_rfl
theorem bIs:VT 170 Tryz.f170 [] []:=vt (by kernel_rfl)
theorem bIt:VB 171 Tryz.f171 [] []:=vb (by kernel_rfl) (by kernel_rfl)
theorem bIu:VB 172 Tryz.f172 [] []:=vb (by kernel_rfl) (by kernel_rfl)
theorem bIv:VA 174 Tryz.f174 [] []:=va (by kernel_rfl) (by kernel_rfl)
theorem bC8:tV 174=some (.val (fV [])):=by kernel_rfl
theorem bIw:VB 176 Tryz.f176 [] []:=vb (by kernel_rfl) (by kernel_rfl)
theorem bIx:VA 177 Tryz.f177 [] []:=va (by kernel_rfl) (by kernel_rfl)
theorem bIy:VA 178 Tryz.f178 [(17,[(0,[]),(2,[]),(3,[]),(1,[3]),(4,[]),(5,[]),(6,[]),(7,[])])] [(8,[4,5,7,20])]:=va (by kernel_rfl) (by kernel_rfl)
theorem bIz:VB 179 Tryz.f179 [] []:=vb (by kernel_rfl) (by kernel_rfl)
theorem bJ0:VB 180 Tryz.f180 [] []:=vb (by kernel_rfl) (by kernel_rfl)
theorem bJ1:VB 181 Tryz.f181 [] []:=vb (by kernel_rfl) (by kernel_rfl)
theorem bJ2:VA 182 Tryz.f182 [] []:=va (by kernel_rfl) (by kernel_rfl)
theorem bJ3:VB 183 Tryz.f183 [] []:=vb (by kernel_rfl) (by kernel_rfl)
theorem bJ4:VB 184 Tryz.f184 [] [(6,[31])]:=vb (by kernel_rfl) (by kernel_rfl)
theorem bJ5:VA 200 Tryz.f200 [] [(5,[3,4])]:=va (by kernel_rfl) (by kernel_rfl)
theorem bJ6:VA 203 Tryz.f203 [] []:=va (by kernel_rfl) (by kernel_rfl)
theorem bJ7:VA 204 Tryz.f204 [] []:=va (by kernel_rfl) (by kernel_rfl)
theorem bJ8:VB 211 Tryz.f211 [] []:=vb (by kernel_rfl) (by kernel_rfl)
theorem bJ9:VA 217 Tryz.f217 [] []:=va (by kernel_rfl) (by kernel_rfl)
theorem bJa:VA 218 Tryz.f218 [] [(3,[4,5,12])]:=va (by kernel_rfl) (by kernel_rfl)
theorem bC9:tV 218=some (.val (fV [])):=by kernel_rfl
theorem bJb:VA 219 Tryz.f219 [] []:=va (by kernel_rfl) (by kernel_rfl)
theorem bJc:VA 220 Tryz.f220 [] [(2,[2,3])]:=va (by kernel_rfl) (by kernel_rfl)
theorem bJd:VA 224 Tryz.f224 [] [(4,[4,5])]:=va (by kernel_rfl) (by kernel_rfl)
theorem bJe:VA 225 Tryz.f225 [] []:=va (by kernel_rfl) (by kernel_rfl)
theorem bJf:VA 226 Tryz.f226 [(5,[(0,[]),(1,[]),(2,[]),(5,[]),(6,[]),(7,[]),(3,[]),(4,[7]),(8,[]),(9,[]),(10,[]),(11,[])])] [(3,[3,4,16])]:=va (by kernel_rfl) (by kernel_rfl)
theorem bCa:tV 227=some (.val (fV [])):=by kernel_rfl
theorem bJg:VT 227 Tryz.f227 [] []:=vt (by kernel_rfl)
theorem bJh:VA 228 Tryz.f228 [] [(6,[3,23])]:=va (by kernel_rfl) (by kernel_rfl)
theorem bJi:VA 229 Tryz.f229 [] []:=va (by kernel_rfl) (by kernel_rfl)
theorem bCb:tV 231=some (.val (fV [])):=by kernel_rfl
theorem bJj:VT 231 Tryz.f231 [] [(2,[4,8])]:=vt (by kernel_rfl)
theorem bCc:tV 232=some (.val (fV [])):=by kernel_rfl
theorem bJk:VT 232 Tryz.f232 [] []:=vt (by kernel_rfl)
theorem bJl:VA 233 Tryz.f233 [] []:=va (by kernel_rfl) (by kernel_rfl)
theorem bJm:VC 235 Tryz.f235 [] [] [0]:=vc (by kernel_rfl) (by kernel_rfl) rfl
theorem bJn:VA 236 Tryz.f236 [] []:=va (by kernel_rfl) (by kernel_rfl)
theorem bJo:VA 238 Tryz.f238 [] [(11,[7,8,36])]:=va (by kernel_rfl) (by kernel_rfl)
theorem bJp:VB 239 Tryz.f239 [] []:=vb (by kernel_rfl) (by kernel_rfl)
theorem bJq:VA 241 Tryz.f241 [] []:=va (by kernel_rfl) (by kernel_rfl)
theorem bJr:VA 254 Tryz.f254 [] []:=va (by kernel_rfl) (by kernel_rfl)
theorem bCd:VB 259 Tryz.f259 [] [(2,[2,9])]:=vb (by kernel_rfl) (by kernel_rfl)
theorem bJs:VA 260 Tryz.f260 [] [(4,[4,13])]:=va (by kernel_rfl) (by kernel_rfl)
theorem bCe:tV 263=some (.val (fV [])):=by kernel_rfl
theorem bJt:VT 263 Tryz.f263 [] []:=vt (by kernel_rfl)
theorem bJu:VA 268 Tryz.f268 [] []:=va (by kernel_rfl) (by kernel_rfl)
theorem bJv:VA 271 Tryz.f271 [] []:=va (by kernel_rfl) (by kernel_rfl)
theorem bJw:VA 278 Tryz.f278 [] [(5,[8,9,22])]:=va (by kernel_rfl) (by kernel_rfl)
theorem bJx:VA 279 Tryz.f279 [] []:=va (by kernel_rfl) (by kernel_rfl)
theorem bJy:VA 286 Tryz.f286 [] []:=va (by kernel_rfl) (by kernel_rfl)
theorem bJz:VA 287 Tryz.f287 [] []:=va (by kernel_rfl) (by kernel_rfl)
theorem tx0:∀ g:Nat,2≤g→g<247→dD prog g=some none:=by
 have h:((List.range 245).all fun g=>match dD prog (g+2) with
  | some none=>true
  | _=>false)=true:=by kernel_rfl
 intro g h0 h1
 have:=List.all_eq_true.1 h (g - 2) (List.mem_range.2 (by omega))
 rw [Nat.sub_add_cancel h0] at this
 split at this
 ·assumption
 ·cases this
theorem aX7 {g:Nat} (h0:1<g) (h1:g<247) (args:List V) (S:St) (K:KW):iX prog C g args S K=C g (hl args) S K:=aB9 _ _ (tx0 g h0 h1) _ _ _
theorem tx1:∀ g:Nat,248≤g→g<255→dD prog g=some none:=by
 have h:((List.range 7).all fun g=>match dD prog (g+248) with
  | some none=>true
  | _=>false)=true:=by kernel_rfl
 intro g h0 h1
 have:=List.all_eq_true.1 h (g - 248) (List.mem_range.2 (by omega))
 rw [Nat.sub_add_cancel h0] at this
 split at this
 ·assumption
 ·cases this
theorem aX8 {g:Nat} (h0:247<g) (h1:g<255) (args:List V) (S:St) (K:KW):iX prog C g args S K=C g (hl args) S K:=aB9 _ _ (tx1 g h0 h1) _ _ _
theorem tx2:∀ g:Nat,257≤g→g<261→dD prog g=some none:=by
 have h:((List.range 4).all fun g=>match dD prog (g+257) with
  | some none=>true
  | _=>false)=true:=by kernel_rfl
 intro g h0 h1
 have:=List.all_eq_true.1 h (g - 257) (List.mem_range.2 (by omega))
 rw [Nat.sub_add_cancel h0] at this
 split at this
 ·assumption
 ·cases this
theorem aX9 {g:Nat} (h0:256<g) (h1:g<261) (args:List V) (S:St) (K:KW):iX prog C g args S K=C g (hl args) S K:=aB9 _ _ (tx2 g h0 h1) _ _ _
theorem tx3:∀ g:Nat,267≤g→g<288→dD prog g=some none:=by
 have h:((List.range 21).all fun g=>match dD prog (g+267) with
  | some none=>true
  | _=>false)=true:=by kernel_rfl
 intro g h0 h1
 have:=List.all_eq_true.1 h (g - 267) (List.mem_range.2 (by omega))
 rw [Nat.sub_add_cancel h0] at this
 split at this
 ·assumption
 ·cases this
theorem aXa {g:Nat} (h0:266<g) (h1:g<288) (args:List V) (S:St) (K:KW):iX prog C g args S K=C g (hl args) S K:=aB9 _ _ (tx3 g h0 h1) _ _ _
theorem aHj (args:List V) (S:St) (K:KW):iX prog C 255 args S K=wR (hl (oC Tryz.f255 args)) fun v=>K v S:=by
 unfold iX
 rw [show dD prog 255=some (some Tryz.f255) by kernel_rfl]
 rfl
theorem bCf (K:V→Prop):wO (aI prog 30) K=K (.agg [.nils,.nils,.nils,.nils,.nils,.int .i64 0]):=congrArg (fun x=>wO x K) (show aI prog 30=some (.agg [.nils,.nils,.nils,.nils,.nils,.int .i64 0]) by kernel_rfl)
theorem bCg (K:V→Prop):wO (aI prog 48) K=K (.agg [.int .i64 0,.int .i64 0,.int .i64 0]):=congrArg (fun x=>wO x K) (show aI prog 48=some (.agg [.int .i64 0,.int .i64 0,.int .i64 0]) by kernel_rfl)
theorem aXb:rA prog 26=true:=by kernel_rfl
theorem bCh (K:V→Prop):wO (aI prog 52) K=K (.agg [.int .i64 0,.int .i64 0,.int .i64 0]):=congrArg (fun x=>wO x K) (show aI prog 52=some (.agg [.int .i64 0,.int .i64 0,.int .i64 0]) by kernel_rfl)
theorem aXc:rA prog 22=true:=by kernel_rfl
theorem bCi (K:V→Prop):wO (aI prog 61) K=K (.agg [.int .i64 0,.int .i64 0,.int .i64 0,.str [],.int .i64 0,.str [],.int .i64 0,.int .i64 0,.int .i64 0,.int .i64 0,.int .i64 0,.int .i64 0,.int .i64 0,.nils,.str [],.int .i64 0,.int .i64 0]):=congrArg (fun x=>wO x K) (show aI prog 61=some (.agg [.int .i64 0,.int .i64 0,.int .i64 0,.str [],.int .i64 0,.str [],.int .i64 0,.int .i64 0,.int .i64 0,.int .i64 0,.int .i64 0,.int .i64 0,.int .i64 0,.nils,.str [],.int .i64 0,.int .i64 0]) by kernel_rfl)
theorem aXd:rA prog 44=true:=by kernel_rfl
theorem aXe:rA prog 96=true:=by kernel_rfl
theorem aXf:rA prog 97=true:=by kernel_rfl
theorem bCj (K:V→Prop):wO (aI prog 99) K=K (.agg [.int .i64 0,.int .i64 0,.int .i64 0,.str [],.int .i64 0,.str [],.int .i64 0,.int .i64 0,.int .i64 0,.int .i64 0,.int .i64 0,.int .i64 0,.int .i64 0,.nils,.str [],.int .i64 0,.int .i64 0,.int .i64 0,.int .i64 0,.int .i64 0,.int .i64 0,.int .i64 0,.int .i64 0]):=congrArg (fun x=>wO x K) (show aI prog 99=some (.agg [.int .i64 0,.int .i64 0,.int .i64 0,.str [],.int .i64 0,.str [],.int .i64 0,.int .i64 0,.int .i64 0,.int .i64 0,.int .i64 0,.int .i64 0,.int .i64 0,.nils,.str [],.int .i64 0,.int .i64 0,.int .i64 0,.int .i64 0,.int .i64 0,.int .i64 0,.int .i64 0,.int .i64 0]) by kernel_rfl)
theorem bCk (K:V→Prop):wO (aI prog 54) K=K (.agg [.str [],.int .i64 0,.int .i64 0,.int .i64 0,.int .i64 0]):=congrArg (fun x=>wO x K) (show aI prog 54=some (.agg [.str [],.int .i64 0,.int .i64 0,.int .i64 0,.int .i64 0]) by kernel_rfl)
theorem aXg:rA prog 24=true:=by kernel_rfl
theorem aXh (K:V→Prop):wO (aI prog 126) K=K (.agg [.str [],.int .i64 0,.int .i64 0,.bool false]):=congrArg (fun x=>wO x K) (show aI prog 126=some (.agg [.str [],.int .i64 0,.int .i64 0,.bool false]) by kernel_rfl)
theorem aXi:rA prog 25=true:=by kernel_rfl
theorem bCl (K:V→Prop):wO (aI prog 84) K=K (.agg [.str [],.int .i64 0,.int .i64 0,.int .i64 0,.int .i64 0,.int .i64 0,.int .i64 0,.int .i64 0,.nils,.str [],.int .i64 0,.bool false]):=congrArg (fun x=>wO x K) (show aI prog 84=some (.agg [.str [],.int .i64 0,.int .i64 0,.int .i64 0,.int .i64 0,.int .i64 0,.int .i64 0,.int .i64 0,.nils,.str [],.int .i64 0,.bool false]) by kernel_rfl)
theorem aXj (K:V→Prop):wO (aI prog 145) K=K (.agg [.str [],.int .i64 0,.int .i64 0,.int .i64 0]):=congrArg (fun x=>wO x K) (show aI prog 145=some (.agg [.str [],.int .i64 0,.int .i64 0,.int .i64 0]) by kernel_rfl)
theorem aXk:rA prog 80=true:=by kernel_rfl
theorem aXl (K:V→Prop):wO (aI prog 132) K=K (.agg [.int .i64 0,.int .i64 0,.int .i64 0,.int .i64 0,.int .i64 0]):=congrArg (fun x=>wO x K) (show aI prog 132=some (.agg [.int .i64 0,.int .i64 0,.int .i64 0,.int .i64 0,.int .i64 0]) by kernel_rfl)
theorem aXm:rA prog 28=true:=by kernel_rfl
theorem aXn:rA prog 27=true:=by kernel_rfl
theorem bCm (K:V→Prop):wO (aI prog 59) K=K (.agg [.int .i64 0,.str [],.int .i64 0,.str [],.int .i64 0,.int .i64 0,.int .i64 0,.int .i64 0,.int .i64 0,.int .i64 0,.int .i64 0,.nils,.str [],.int .i64 0,.int .i64 0]):=congrArg (fun x=>wO x K) (show aI prog 59=some (.agg [.int .i64 0,.str [],.int .i64 0,.str [],.int .i64 0,.int .i64 0,.int .i64 0,.int .i64 0,.int .i64 0,.int .i64 0,.int .i64 0,.nils,.str [],.int .i64 0,.int .i64 0]) by kernel_rfl)
theorem aXo:rA prog 62=true:=by kernel_rfl
theorem aXp:rA prog 71=true:=by kernel_rfl
theorem aR0:rA prog 102=true:=by kernel_rfl
theorem aXq (K:V→Prop):wO (aI prog 212) K=K (.agg [.nili]):=congrArg (fun x=>wO x K) (show aI prog 212=some (.agg [.nili]) by kernel_rfl)
theorem aXr (K:V→Prop):wO (aI prog 220) K=K (.agg [.int .i64 0,.int .i64 0,.str []]):=congrArg (fun x=>wO x K) (show aI prog 220=some (.agg [.int .i64 0,.int .i64 0,.str []]) by kernel_rfl)
theorem aXs (K:V→Prop):wO (aI prog 232) K=K (.nilp):=congrArg (fun x=>wO x K) (show aI prog 232=some (.nilp) by kernel_rfl)
theorem aXt (K:V→Prop):wO (aI prog 246) K=K (.agg [.int .i64 0,.int .i64 0,.int .i64 0,.int .i64 0,.int .i64 0,.int .i64 0,.int .i64 0,.int .i64 0,.int .i64 0,.int .i64 0,.int .i64 0,.int .i64 0,.int .i64 0,.int .i64 0,.int .i64 0,.int .i64 0,.int .i64 0,.int .i64 0,.int .i64 0,.int .i64 0,.int .i64 0,.int .i64 0,.int .i64 0,.int .i64 0,.int .i64 0,.int .i64 0,.int .i64 0,.int .i64 0,.int .i64 0,.int .i64 0,.int .i64 0,.int .i64 0,.int .i64 0,.int .i64 0,.int .i64 0,.int .i64 0,.int .i64 0,.int .i64 0,.int .i64 0,.int .i64 0]):=congrArg (fun x=>wO x K) (show aI prog 246=some (.agg [.int .i64 0,.int .i64 0,.int .i64 0,.int .i64 0,.int .i64 0,.int .i64 0,.int .i64 0,.int .i64 0,.int .i64 0,.int .i64 0,.int .i64 0,.int .i64 0,.int .i64 0,.int .i64 0,.int .i64 0,.int .i64 0,.int .i64 0,.int .i64 0,.int .i64 0,.int .i64 0,.int .i64 0,.int .i64 0,.int .i64 0,.int .i64 0,.int .i64 0,.int .i64 0,.int .i64 0,.int .i64 0,.int .i64 0,.int .i64 0,.int .i64 0,.int .i64 0,.int .i64 0,.int .i64 0,.int .i64 0,.int .i64 0,.int .i64 0,.int .i64 0,.int .i64 0,.int .i64 0]) by kernel_rfl)
theorem aXu (K:V→Prop):wO (aI prog 249) K=K (.agg [.int .i64 0,.int .i64 0,.int .i64 0,.int .i64 0,.int .i64 0,.int .i64 0,.int .i64 0,.int .i64 0]):=congrArg (fun x=>wO x K) (show aI prog 249=some (.agg [.int .i64 0,.int .i64 0,.int .i64 0,.int .i64 0,.int .i64 0,.int .i64 0,.int .i64 0,.int .i64 0]) by kernel_rfl)
theorem bCn:rA prog 9=true:=by kernel_rfl
theorem aXv:rA prog 55=true:=by kernel_rfl
theorem bCo (K:V→Prop):wO (aI prog 82) K=K (.agg [.int .i64 0,.int .i64 0,.int .i64 0,.nils]):=congrArg (fun x=>wO x K) (show aI prog 82=some (.agg [.int .i64 0,.int .i64 0,.int .i64 0,.nils]) by kernel_rfl)
theorem aXw (K:V→Prop):wO (aI prog 293) K=K (.agg [.str [],.int .i64 0]):=congrArg (fun x=>wO x K) (show aI prog 293=some (.agg [.str [],.int .i64 0]) by kernel_rfl)
theorem aXx (K:V→Prop):wO (aI prog 295) K=K (.agg [.str []]):=congrArg (fun x=>wO x K) (show aI prog 295=some (.agg [.str []]) by kernel_rfl)
theorem aXy (K:V→Prop):wO (aI prog 297) K=K (.agg [.str [],.int .i64 0,.int .i64 0,.int .i64 0,.int .i64 0]):=congrArg (fun x=>wO x K) (show aI prog 297=some (.agg [.str [],.int .i64 0,.int .i64 0,.int .i64 0,.int .i64 0]) by kernel_rfl)
theorem aXz (K:V→Prop):wO (aI prog 301) K=K (.agg [.str [],.int .i64 0,.int .i64 0,.int .i64 0,.nils]):=congrArg (fun x=>wO x K) (show aI prog 301=some (.agg [.str [],.int .i64 0,.int .i64 0,.int .i64 0,.nils]) by kernel_rfl)
theorem aY0 (K:V→Prop):wO (aI prog 304) K=K (.agg [.str [],.int .i64 0,.int .i64 0,.int .i64 0,.str [],.int .i64 0]):=congrArg (fun x=>wO x K) (show aI prog 304=some (.agg [.str [],.int .i64 0,.int .i64 0,.int .i64 0,.str [],.int .i64 0]) by kernel_rfl)
theorem aY1 (K:V→Prop):wO (aI prog 306) K=K (.agg [.int .i64 0]):=congrArg (fun x=>wO x K) (show aI prog 306=some (.agg [.int .i64 0]) by kernel_rfl)
theorem aY2 (K:V→Prop):wO (aI prog 307) K=K (.agg [.str []]):=congrArg (fun x=>wO x K) (show aI prog 307=some (.agg [.str []]) by kernel_rfl)
theorem bCp (K:V→Prop):wO (aI prog 90) K=K (.agg [.str [],.int .i64 0]):=congrArg (fun x=>wO x K) (show aI prog 90=some (.agg [.str [],.int .i64 0]) by kernel_rfl)
theorem rg9:aFe prog 9=true:=by kernel_rfl
theorem aY3 (K:V→Prop):wO (aI prog 201) K=K (.agg [.str [],.str [],.int .i64 0,.int .i64 0]):=congrArg (fun x=>wO x K) (show aI prog 201=some (.agg [.str [],.str [],.int .i64 0,.int .i64 0]) by kernel_rfl)
theorem aY4 (K:V→Prop):wO (aI prog 346) K=K (.agg [.int .i64 0,.int .u64 0]):=congrArg (fun x=>wO x K) (show aI prog 346=some (.agg [.int .i64 0,.int .u64 0]) by kernel_rfl)
theorem aVf (f:FuncId) {a b:List V} {S T:St} (K:KW) (h:a=b) (g:S=T):C f a S K=C f b T K:=by rw [h,g]
attribute [congr] aVf
theorem cw:type_of% (A2 (aL7 prog C) <| A2 (aL4 prog C) <| A2 aL8 <| A2 aL2 <| A2 aL3 <| A2 aX6 <| A2 (aDr prog C) <| A2 (aDs prog C) <| A2 (aQp prog C) <| A2 @bC2 <| A2 @aX0 <| A2 @aQf <| A2 @aX1 <| A2 @aQh <| A2 @aQn <| A2 @bC3 <| A2 @aX3 <| A2 @aX4 <| A2 @aQj <| A2 @aX5 <| A2 @aQl <| A2 @aQm <| A2 @aL6 <| A2 @aHi <| A2 @aDq <| A2 aDt <| A2 aDo <| A2 @aWx <| A2 @aX7 <| A2 @aX8 <| A2 @aX9 <| A2 @aXa <| A2 aHj <| A2 bCf <| A2 bCg <| A2 aXb <| A2 bCh <| A2 aXc <| A2 bCi <| A2 aXd <| A2 aXe <| A2 aXf <| A2 bCj <| A2 bCk <| A2 aXg <| A2 aXh <| A2 aXi <| A2 bCl <| A2 aXj <| A2 aXk <| A2 aXl <| A2 aXm <| A2 aXn <| A2 bCm <| A2 aXo <| A2 aXp <| A2 aR0 <| A2 aXq <| A2 aXr <| A2 aXs <| A2 aXt <| A2 aXu <| A2 bCn <| A2 aXv <| A2 bCo <| A2 aXw <| A2 aXx <| A2 aXy <| A2 aXz <| A2 aY0 <| A2 aY1 <| A2 aY2 <| A2 bCp <| A2 rg9 <| A2 aY3 <| aY4):=A2 (aL7 prog C) <| A2 (aL4 prog C) <| A2 aL8 <| A2 aL2 <| A2 aL3 <| A2 aX6 <| A2 (aDr prog C) <| A2 (aDs prog C) <| A2 (aQp prog C) <| A2 @bC2 <| A2 @aX0 <| A2 @aQf <| A2 @aX1 <| A2 @aQh <| A2 @aQn <| A2 @bC3 <| A2 @aX3 <| A2 @aX4 <| A2 @aQj <| A2 @aX5 <| A2 @aQl <| A2 @aQm <| A2 @aL6 <| A2 @aHi <| A2 @aDq <| A2 aDt <| A2 aDo <| A2 @aWx <| A2 @aX7 <| A2 @aX8 <| A2 @aX9 <| A2 @aXa <| A2 aHj <| A2 bCf <| A2 bCg <| A2 aXb <| A2 bCh <| A2 aXc <| A2 bCi <| A2 aXd <| A2 aXe <| A2 aXf <| A2 bCj <| A2 bCk <| A2 aXg <| A2 aXh <| A2 aXi <| A2 bCl <| A2 aXj <| A2 aXk <| A2 aXl <| A2 aXm <| A2 aXn <| A2 bCm <| A2 aXo <| A2 aXp <| A2 aR0 <| A2 aXq <| A2 aXr <| A2 aXs <| A2 aXt <| A2 aXu <| A2 bCn <| A2 aXv <| A2 bCo <| A2 aXw <| A2 aXx <| A2 aXy <| A2 aXz <| A2 aY0 <| A2 aY1 <| A2 aY2 <| A2 bCp <| A2 rg9 <| A2 aY3 <| aY4
end
def qL (t:TypeId) (p:V) (S:St) (K:V→Prop):Prop:=wR (kK prog t p S) K
def qF (s:TypeId) (p:V) (f:Nat) (K:V→Prop):Prop:=wR (cW prog s p f) K
def qE (s:TypeId) (p:V) (f:Nat) (t:TypeId) (S:St) (K:V→Prop):Prop:=wR (cW prog s p f) fun q=>wR (kK prog t q S) K
def qX (t:TypeId) (v i:V) (K:V→Prop):Prop:=wR (cJ prog t v i) K
def qS (t:TypeId) (p x:V) (S:St) (K:St→Prop):Prop:=wR (mQ prog t p x S) K
def qZ (t:TypeId) (x:V) (S:St) (K:V→Prop):Prop:=wR (xC prog t x S) K
def qB (o:BinOp) (t:TypeId) (x y:V) (K:V→Prop):Prop:=wR (bK prog o t x y) K
def qG (o:BinOp) (t:TypeId) (x y:V) (K:V→Prop):Prop:=vQ (bY prog t x y) (wR (bK prog o t x y) K)
def qD (t:TypeId) (l:List (Nat×V)) (K:V→Prop):Prop:=wR (mR prog t l) K
def qP (t:TypeId) (s x:V) (r:Option Nat) (S:St) (K:V×St→Prop):Prop:=wR (eR prog t s x r S) K
def qQ (t:TypeId) (n:Nat) (l:List (Nat×V)) (r:Option Nat) (S:St) (K:V×St→Prop):Prop:=wR (cG prog t n l r S) K
def qA (a:V) (S:St) (K:Nat×St→Prop):Prop:=vQ (aG a.cells) (wR (aW none S (.row 0 a.cells.length [a.cells])) K)
def qN (S:St) (n:Nat) (c:List V) (K:Nat×St→Prop):Prop:=wR (aW none S (.row 0 n [c])) K
def pt (r:Nat×St):V:=.ptr r.1 0 0 0
def up (S:St) (n:Nat):St:=⟨S.next+n,S.heap⟩
def jI (n:Int):V:=.int .i64 n
theorem sf:(∀ (t:TypeId) (p:V) (S:St) (K:V→Prop),qL t p S K=(wR (kK prog t p S) K))∧(∀ (s:TypeId) (p:V) (f:Nat) (K:V→Prop),qF s p f K=(wR (cW prog s p f) K))∧(∀ (s:TypeId) (p:V) (f:Nat) (t:TypeId) (S:St) (K:V→Prop),qE s p f t S K=(wR (cW prog s p f) fun q=>wR (kK prog t q S) K))∧(∀ (t:TypeId) (v i:V) (K:V→Prop),qX t v i K=(wR (cJ prog t v i) K))∧(∀ (t:TypeId) (p x:V) (S:St) (K:St→Prop),qS t p x S K=(wR (mQ prog t p x S) K))∧(∀ (t:TypeId) (x:V) (S:St) (K:V→Prop),qZ t x S K=(wR (xC prog t x S) K))∧(∀ (o:BinOp) (t:TypeId) (x y:V) (K:V→Prop),qB o t x y K=(wR (bK prog o t x y) K))∧(∀ (o:BinOp) (t:TypeId) (x y:V) (K:V→Prop),qG o t x y K=(vQ (bY prog t x y) (wR (bK prog o t x y) K)))∧(∀ (t:TypeId) (l:List (Nat×V)) (K:V→Prop),qD t l K=(wR (mR prog t l) K))∧(∀ (t:TypeId) (s x:V) (r:Option Nat) (S:St) (K:V×St→Prop),qP t s x r S K=(wR (eR prog t s x r S) K))∧(∀ (t:TypeId) (n:Nat) (l:List (Nat×V)) (r:Option Nat) (S:St) (K:V×St→Prop),qQ t n l r S K=(wR (cG prog t n l r S) K))∧(∀ (a:V) (S:St) (K:Nat×St→Prop),qA a S K=(vQ (aG a.cells) (wR (aW none S (.row 0 a.cells.length [a.cells])) K)))∧(∀ (S:St) (n:Nat) (c:List V) (K:Nat×St→Prop),qN S n c K=(wR (aW none S (.row 0 n [c])) K))∧(∀ (r:Nat×St),pt r=.ptr r.1 0 0 0)∧(∀ (S:St) (n:Nat),up S n=⟨S.next+n,S.heap⟩)∧(∀ (n:Int),jI n=.int .i64 n):=⟨fun _ _ _ _=>rfl,fun _ _ _ _=>rfl,fun _ _ _ _ _ _=>rfl,fun _ _ _ _=>rfl,fun _ _ _ _ _=>rfl,fun _ _ _ _=>rfl,fun _ _ _ _ _=>rfl,fun _ _ _ _ _=>rfl,fun _ _ _=>rfl,fun _ _ _ _ _ _=>rfl,fun _ _ _ _ _ _=>rfl,fun _ _ _=>rfl,fun _ _ _ _=>rfl,fun _=>rfl,fun _ _=>rfl,fun _=>rfl⟩
abbrev aJt:Nat→Option (List bF):=fV []
abbrev aJu:Nat→List Nat:=jV [(2,[10])]
abbrev aJv:Nat→Option (List bF):=fV []
abbrev aJw:Nat→List Nat:=jV [(3,[3,16])]
abbrev aLg:Nat→Option (List bF):=fV [(3,[(0,[]),(1,[0]),(2,[]),(3,[])]),(5,[(0,[]),(1,[0]),(2,[]),(3,[])]),(10,[(0,[]),(1,[]),(2,[0]),(3,[]),(4,[])]),(12,[(0,[]),(1,[]),(2,[1]),(3,[])]),(17,[(0,[]),(1,[]),(2,[1]),(3,[])])]
abbrev aR1:Nat→List Nat:=jV []
abbrev aR2:Nat→Option (List bF):=fV []
abbrev aR3:Nat→List Nat:=jV [(3,[5,6])]
abbrev aJx:Nat→Option (List bF):=fV []
abbrev aJy:Nat→List Nat:=jV [(8,[6])]
abbrev aJz:Nat→Option (List bF):=fV []
abbrev aK0:Nat→List Nat:=jV [(12,[8])]
abbrev aFk:Nat→Option (List bF):=fV []
abbrev aK1:Nat→List Nat:=jV [(8,[9]),(5,[4,5,6,19])]
def aFl (C:aN) (K:KW) (again0:List V→St→Prop) (p0 p1 p5 p6 p7:V) (S:St):Prop:=
qL 61 p7 S fun t7=>
qQ 44 1 [(0,t7)] none S fun r8=>
qP 44 p5 r8.1 none r8.2 fun r9=>
qB .add 3 p6 (jI 1) fun t10=>
again0 [r9.1,t10] r9.2
def aFm (C:aN) (K:KW) (p0 p1:V) (vs:List V) (S:St) (again0:List V→St→Prop):Prop:=
wUn vs fun x5 vs=>
wUn vs fun x6 vs=>
qZ 44 p0 S fun t0=>
qB .lss 3 x6 t0 fun t1=>
bN t1 (qB .lss 3 x6 p1 fun t2=>
bN t2 (qX 44 p0 x6 fun t3=>
qL 61 t3 S fun t4=>
qN S 17 [jI 0,jI 0,jI 0,.str [],jI 0,.str [],jI 0,jI 0,jI 0,jI 0,jI 0,jI 0,jI 0,.nils,.str [],jI 0,jI 0] fun r5=>
qS 61 (pt r5) t4 r5.2 fun S6=>
qF 61 (pt r5) 2 fun t11=>
qE 59 t11 5 55 S6 fun t13=>
qZ 55 t13 S6 fun t14=>
qB .gtr 3 t14 (jI 15) fun t15=>
bN t15 (qF 61 (pt r5) 2 fun t16=>
qE 59 t16 5 55 S6 fun t18=>
wR (hM prog 55 t18 none (some (jI 15))) fun t19=>
qF 61 (pt r5) 2 fun t20=>
qF 59 t20 5 fun t21=>
qS 55 t21 t19 S6 fun S22=>
aFl C K again0 p0 p1 x5 x6 (pt r5) S22) (aFl C K again0 p0 p1 x5 x6 (pt r5) S6)) (K x5 S)) (K x5 S)
def m30 (C:aN) (a0 a1:V) (S:St) (K:KW):Prop:=
lN [(.nils),(jI 0)] S (aFm C K a0 a1)
theorem bAy:(fun (C:aN) (a0 a1:V) (S:St) (K:KW)=>eX prog C aR2 aR3 30 [a0,a1] S K)=fun C a0 a1 S K=>m30 C a0 a1 S K:=by kernel_rfl
theorem t30 (C:aN) (a0 a1:V) (S:St) (K:KW):eX prog C aR2 aR3 30 [a0,a1] S K=m30 C a0 a1 S K:=congrFun (congrFun (congrFun (congrFun (congrFun bAy C) a0) a1) S) K
theorem v30 {a0 a1:V} {v:V} (hc:cloVs [a0,a1]=true) (h:m30 C a0 a1 ⟨0,.nil⟩ fun v0 S0=>jU S0 v0=.ok v):Fv 30 [a0,a1] v:=Go.AM.Fn.of (p:=aR2) (lv:=aR3) (by kernel_rfl) hc (by rw [t30];exact h)
def aFn (C:aN) (K:KW) (p2 p4 p5 p9:V) (S:St):Prop:=
qL 30 p2 (up S 4) fun t76=>
qL 48 p9 (up S 4) fun t77=>
qS 30 p4 t76 (up S 4) fun S78=>
qL 48 p9 S78 fun t79=>
vQ (eE t77 t79) (qS 48 p5 t77 S78 fun S80=>
qL 30 p4 S80 fun t81=>
qL 48 p5 S80 fun t82=>
K (.tup [t81,t82]) S80)
def aBa (C:aN) (K:KW) (p2 p3 p4 p5 p28:V) (S:St):Prop:=
bN p28 (qL 30 p2 (up S 4) fun t20=>
C 103 [(jI 17)] (up S 4) fun t21 S22=>
qL 30 p2 S22 fun t23=>
vQ (eE t20 t23) (qS 30 p4 t20 S22 fun S24=>
qS 48 p5 t21 S24 fun S25=>
qL 30 p4 S25 fun t26=>
qL 48 p5 S25 fun t27=>
K (.tup [t26,t27]) S25)) (qF 61 p3 2 fun t28=>
qE 59 t28 0 3 S fun t30=>
(qG .eql 3 t30 (jI 6) fun t31=>
bN t31 (qL 30 p2 S fun t32=>
C 104 [t32] S fun t33 S34=>
jS t33 0 fun t35=>
jS t33 1 fun t36=>
qS 30 p4 t35 S34 fun S37=>
qS 48 p5 t36 S37 fun S38=>
qL 30 p4 S38 fun t39=>
qL 48 p5 S38 fun t40=>
K (.tup [t39,t40]) S38) (qE 30 p2 4 28 S fun t42=>
qE 61 p3 0 3 S fun t44=>
qE 61 p3 1 3 S fun t46=>
C 105 [t42,t44,t46] S fun t47 S48=>
jS t47 0 fun t49=>
jS t47 1 fun t50=>
jS t47 2 fun t51=>
qN S48 3 [jI 0,jI 0,jI 0] fun r52=>
qS 48 (pt r52) t49 r52.2 fun S53=>
(qG .neq 31 t51 (jI 0) fun t54=>
bN t54 (qL 30 p2 (up S53 5) fun t55=>
C 103 [t51] (up S53 5) fun t56 S57=>
qL 30 p2 S57 fun t58=>
vQ (eE t55 t58) (qS 30 p4 t55 S57 fun S59=>
qS 48 p5 t56 S59 fun S60=>
qL 30 p4 S60 fun t61=>
qL 48 p5 S60 fun t62=>
K (.tup [t61,t62]) S60)) (bN t50 (qL 30 p2 (up S53 4) fun t63=>
qL 48 (pt r52) (up S53 4) fun t64=>
qS 30 p4 t63 (up S53 4) fun S65=>
qL 48 (pt r52) S65 fun t66=>
vQ (eE t64 t66) (qS 48 p5 t64 S65 fun S67=>
qL 30 p4 S67 fun t68=>
qL 48 p5 S67 fun t69=>
K (.tup [t68,t69]) S67)) (qE 61 p3 2 59 S53 fun t71=>
C 106 [p2,t71] S53 fun t72 S73=>
qN S73 3 [jI 0,jI 0,jI 0] fun r74=>
qS 48 (pt r74) t72 r74.2 fun S75=>
qE 30 p2 4 28 S75 fun t84=>
qE 61 p3 0 3 S75 fun t86=>
qE 61 p3 1 3 S75 fun t88=>
qL 48 (pt r74) S75 fun t89=>
C 107 [t84,t86,t88,t89] S75 fun t90 S91=>
jS t90 0 fun t92=>
jS t90 1 fun t93=>
(qG .eql 31 t93 (jI 0) fun t94=>
bN t94 (qF 30 p2 4 fun t95=>
qS 28 t95 t92 S91 fun S96=>
aFn C K p2 p4 p5 (pt r74) S96) (aFn C K p2 p4 p5 (pt r74) S91))))))))
def m33 (C:aN) (a0 a1:V) (S:St) (K:KW):Prop:=
(qA a0 S fun r0=>
(qA a1 r0.2 fun r1=>
qN r1.2 6 [.nils,.nils,.nils,.nils,.nils,jI 0] fun r2=>
qN r2.2 3 [jI 0,jI 0,jI 0] fun r3=>
qL 30 (pt r0) r3.2 fun t4=>
C 102 [t4] r3.2 fun t5 S6=>
qS 30 (pt r0) t5 S6 fun S7=>
qL 30 (pt r0) S7 fun t8=>
C 24 [t8] S7 fun t9 S10=>
wR (unV .not t9) fun t11=>
bN t11 (qL 30 (pt r0) (up S10 4) fun t12=>
C 103 [(jI 1)] (up S10 4) fun t13 S14=>
qL 30 (pt r0) S14 fun t15=>
vQ (eE t12 t15) (qS 30 (pt r2) t12 S14 fun S16=>
qS 48 (pt r3) t13 S16 fun S17=>
qL 30 (pt r2) S17 fun t18=>
qL 48 (pt r3) S17 fun t19=>
K (.tup [t18,t19]) S17)) (qF 61 (pt r1) 2 fun t97=>
qE 59 t97 0 3 S10 fun t99=>
qB .lss 3 t99 (jI 1) fun t100=>
bN t100 (aBa C K (pt r0) (pt r1) (pt r2) (pt r3) (.bool true) S10) (qF 61 (pt r1) 2 fun t101=>
qE 59 t101 0 3 S10 fun t103=>
qB .gtr 3 t103 (jI 8) fun t104=>
aBa C K (pt r0) (pt r1) (pt r2) (pt r3) t104 S10))))
theorem bB0:(fun (C:aN) (a0 a1:V) (S:St) (K:KW)=>eX prog C aLg aR1 33 [a0,a1] S K)=fun C a0 a1 S K=>m33 C a0 a1 S K:=by kernel_rfl
theorem t33 (C:aN) (a0 a1:V) (S:St) (K:KW):eX prog C aLg aR1 33 [a0,a1] S K=m33 C a0 a1 S K:=congrFun (congrFun (congrFun (congrFun (congrFun bB0 C) a0) a1) S) K
theorem v33 {a0 a1:V} {v:V} (hc:cloVs [a0,a1]=true) (h:m33 C a0 a1 ⟨0,.nil⟩ fun v0 S0=>jU S0 v0=.ok v):Fv 33 [a0,a1] v:=Go.AM.Fn.of (p:=aLg) (lv:=aR1) (by kernel_rfl) hc (by rw [t33];exact h)
theorem bK0:tV 33=some (.val aLg):=by kernel_rfl
def zY (C:aN) (K:KW) (again0:List V→St→Prop) (p4 p5 p6 p8 p9 p17 p18 p19:V) (S:St):Prop:=
qX 27 p6 p9 fun t10=>
qE 90 t10 1 3 (up S 13) fun t12=>
qE 90 p8 1 3 (up S 13) fun t14=>
C 203 [t12,t14] (up S 13) fun t15 S16=>
jS t15 0 fun t17=>
jS t15 1 fun t18=>
(qG .neq 31 t18 (jI 0) fun t19=>
bN t19 (K (.tup [(.nils),t18]) S16) (qX 27 p6 p9 fun t20=>
qF 90 t20 1 fun t21=>
qS 3 t21 t17 S16 fun S22=>
qB .add 3 p19 (jI 1) fun t23=>
again0 [p4,p5,p6,t23] S22))
def vU (C:aN) (K:KW) (again0:List V→St→Prop) (p4 p5 p6 p8 p9 p17 p18 p19 p52:V) (S:St):Prop:=
bN p52 (qE 90 p8 0 9 S fun t25=>
qD 90 [(0,t25)] fun t26=>
qQ 27 1 [(0,t26)] none S fun r27=>
C 221 [p6,p9,r27.1] r27.2 fun t28 S29=>
zY C K again0 p4 p5 t28 p8 p9 p17 p18 p19 S29) (zY C K again0 p4 p5 p6 p8 p9 p17 p18 p19 S)
def zZ (C:aN) (K:KW) (again0:List V→St→Prop) (p4 p5 p6 p8 p9 p17 p18 p19:V) (S:St):Prop:=
qZ 27 p6 (up S 14) fun t30=>
(qG .eql 3 p9 t30 fun t31=>
bN t31 (vU C K again0 p4 p5 p6 p8 p9 p17 p18 p19 (.bool true) (up S 14)) (qX 27 p6 p9 fun t32=>
qE 90 t32 0 9 (up S 14) fun t34=>
qE 90 p8 0 9 (up S 14) fun t36=>
(qG .neq 9 t34 t36 fun t37=>
vU C K again0 p4 p5 p6 p8 p9 p17 p18 p19 t37 (up S 14))))
def aFo (C:aN) (K:KW) (again0:List V→St→Prop) (p4 p5 p6 p8 p17 p18 p19:V) (vs:List V) (S:St) (again1:List V→St→Prop):Prop:=
wUn vs fun x9 vs=>
qZ 27 p6 (up S 14) fun t38=>
qB .lss 3 x9 t38 fun t39=>
bN t39 (qX 27 p6 x9 fun t40=>
qE 90 t40 0 9 (up S 14) fun t42=>
qE 90 p8 0 9 (up S 14) fun t44=>
qB .lss 9 t42 t44 fun t45=>
bN t45 (qB .add 3 x9 (jI 1) fun t46=>
again1 [t46] (up S 14)) (zZ C K again0 p4 p5 p6 p8 x9 p17 p18 p19 (up S 14))) (zZ C K again0 p4 p5 p6 p8 x9 p17 p18 p19 (up S 14))
def aFp (C:aN) (K:KW) (p17 p18:V) (vs:List V) (S:St) (again0:List V→St→Prop):Prop:=
wUn vs fun x4 vs=>
wUn vs fun x5 vs=>
wUn vs fun x6 vs=>
wUn vs fun x19 vs=>
qB .lss 3 x19 p18 fun t5=>
bN t5 (qX 27 p17 x19 fun t6=>
qL 90 t6 S fun t7=>
qN S 2 [.str [],jI 0] fun r8=>
qS 90 (pt r8) t7 r8.2 fun S9=>
lN [(jI 0)] S9 (aFo C K again0 x4 x5 x6 (pt r8) p17 p18 x19)) (K (.tup [x6,(jI 0)]) S)
def aVg (C:aN) (a0 a1:V) (S:St) (K:KW):Prop:=
C 220 [a0] S fun t0 S1=>
wR (unV .not t0) fun t2=>
bN t2 (K (.tup [(.nils),(jI 1)]) S1) (qP 27 (.nils) a0 none S1 fun r3=>
qZ 27 a1 r3.2 fun t4=>
lN [(.nils),(jI 0),r3.1,(jI 0)] r3.2 (aFp C K a1 t4))
theorem aVh:(fun (C:aN) (a0 a1:V) (S:St) (K:KW)=>eX prog C aFk aK1 158 [a0,a1] S K)=fun C a0 a1 S K=>aVg C a0 a1 S K:=by kernel_rfl
theorem bK1 (C:aN) (a0 a1:V) (S:St) (K:KW):eX prog C aFk aK1 158 [a0,a1] S K=aVg C a0 a1 S K:=congrFun (congrFun (congrFun (congrFun (congrFun aVh C) a0) a1) S) K
theorem bK2 {a0 a1:V} {v:V} (hc:cloVs [a0,a1]=true) (h:aVg C a0 a1 ⟨0,.nil⟩ fun v0 S0=>jU S0 v0=.ok v):Fv 158 [a0,a1] v:=Go.AM.Fn.of (p:=aFk) (lv:=aK1) (by kernel_rfl) hc (by rw [bK1];exact h)
theorem bCq:tV 158=some (.val aFk):=by kernel_rfl
def aA0 (C:aN) (K:KW) (p0 p1 p6:V) (S:St):Prop:=
qP 28 (.nils) p0 none S fun r5=>
qD 132 [(0,p1)] fun t6=>
qQ 28 1 [(0,t6)] none r5.2 fun r7=>
C 230 [r5.1,p6,r7.1] r7.2 fun t8 S9=>
K (.tup [t8,(jI 0)]) S9
def aFq (C:aN) (K:KW) (p0 p1:V) (vs:List V) (S:St) (again0:List V→St→Prop):Prop:=
wUn vs fun x6 vs=>
qZ 28 p0 S fun t10=>
qB .lss 3 x6 t10 fun t11=>
bN t11 (qX 28 p0 x6 fun t12=>
qE 132 t12 0 3 S fun t14=>
qB .lss 3 t14 p1 fun t15=>
bN t15 (qB .add 3 x6 (jI 1) fun t16=>
again0 [t16] S) (aA0 C K p0 p1 x6 S)) (aA0 C K p0 p1 x6 S)
def aFr (C:aN) (K:KW) (p0 p1 p7:V) (S:St):Prop:=
bN p7 (K (.tup [(.nils),(jI 1)]) S) (C 174 [p0,p1] S fun t0 S1=>
qB .geq 3 t0 (jI 0) fun t2=>
bN t2 (K (.tup [(.nils),(jI 12)]) S1) (qZ 28 p0 S1 fun t3=>
qB .geq 3 t3 (jI 8) fun t4=>
bN t4 (K (.tup [(.nils),(jI 14)]) S1) (lN [(jI 0)] S1 (aFq C K p0 p1))))
def aVi (C:aN) (a0 a1:V) (S:St) (K:KW):Prop:=
C 166 [a0] S fun t17 S18=>
wR (unV .not t17) fun t19=>
bN t19 (aFr C K a0 a1 (.bool true) S18) (qB .lss 3 a1 (jI 1) fun t20=>
aFr C K a0 a1 t20 S18)
theorem aVj:(fun (C:aN) (a0 a1:V) (S:St) (K:KW)=>eX prog C aJx aJy 173 [a0,a1] S K)=fun C a0 a1 S K=>aVi C a0 a1 S K:=by kernel_rfl
theorem bK3 (C:aN) (a0 a1:V) (S:St) (K:KW):eX prog C aJx aJy 173 [a0,a1] S K=aVi C a0 a1 S K:=congrFun (congrFun (congrFun (congrFun (congrFun aVj C) a0) a1) S) K
theorem bK4 {a0 a1:V} {v:V} (hc:cloVs [a0,a1]=true) (h:aVi C a0 a1 ⟨0,.nil⟩ fun v0 S0=>jU S0 v0=.ok v):Fv 173 [a0,a1] v:=Go.AM.Fn.of (p:=aJx) (lv:=aJy) (by kernel_rfl) hc (by rw [bK3];exact h)
def aA1 (C:aN) (K:KW) (p0 p1 p2 p8:V) (S:St):Prop:=
C 235 [p0] S fun t11 S12=>
qD 126 [(0,p1),(1,(jI 1)),(2,p2)] fun t13=>
qQ 25 1 [(0,t13)] none S12 fun r14=>
C 234 [t11,p8,r14.1] r14.2 fun t15 S16=>
K (.tup [t15,(jI 0)]) S16
def aFs (C:aN) (K:KW) (p0 p1 p2:V) (vs:List V) (S:St) (again0:List V→St→Prop):Prop:=
wUn vs fun x8 vs=>
qZ 25 p0 S fun t17=>
qB .lss 3 x8 t17 fun t18=>
bN t18 (qX 25 p0 x8 fun t19=>
qE 126 t19 0 9 S fun t21=>
qB .lss 9 t21 p1 fun t22=>
bN t22 (qB .add 3 x8 (jI 1) fun t23=>
again0 [t23] S) (aA1 C K p0 p1 p2 x8 S)) (aA1 C K p0 p1 p2 x8 S)
def aFt (C:aN) (K:KW) (p0 p1 p2 p17:V) (S:St):Prop:=
bN p17 (K (.tup [(.nils),(jI 1)]) S) (C 233 [p0,p1] S fun t6 S7=>
qB .geq 3 t6 (jI 0) fun t8=>
bN t8 (K (.tup [(.nils),(jI 12)]) S7) (qZ 25 p0 S7 fun t9=>
qB .geq 3 t9 (jI 8) fun t10=>
bN t10 (K (.tup [(.nils),(jI 14)]) S7) (lN [(jI 0)] S7 (aFs C K p0 p1 p2))))
def aVk (C:aN) (a0 a1 a2:V) (S:St) (K:KW):Prop:=
C 86 [a0] S fun t0 S1=>
wR (unV .not t0) fun t2=>
bN t2 (K (.tup [(.nils),(jI 1)]) S1) (C 165 [a1] S1 fun t3 S4=>
wR (unV .not t3) fun t5=>
bN t5 (K (.tup [(.nils),(jI 8)]) S4) (qB .lss 3 a2 (jI 1) fun t24=>
bN t24 (aFt C K a0 a1 a2 (.bool true) S4) (qB .gtr 3 a2 (jI 1099511627776) fun t25=>
aFt C K a0 a1 a2 t25 S4)))
theorem aVl:(fun (C:aN) (a0 a1 a2:V) (S:St) (K:KW)=>eX prog C aJz aK0 175 [a0,a1,a2] S K)=fun C a0 a1 a2 S K=>aVk C a0 a1 a2 S K:=by kernel_rfl
theorem bK5 (C:aN) (a0 a1 a2:V) (S:St) (K:KW):eX prog C aJz aK0 175 [a0,a1,a2] S K=aVk C a0 a1 a2 S K:=congrFun (congrFun (congrFun (congrFun (congrFun (congrFun aVl C) a0) a1) a2) S) K
theorem bK6 {a0 a1 a2:V} {v:V} (hc:cloVs [a0,a1,a2]=true) (h:aVk C a0 a1 a2 ⟨0,.nil⟩ fun v0 S0=>jU S0 v0=.ok v):Fv 175 [a0,a1,a2] v:=Go.AM.Fn.of (p:=aJz) (lv:=aK0) (by kernel_rfl) hc (by rw [bK5];exact h)
def aA2 (C:aN) (K:KW) (p0 p3 p10:V) (S:St):Prop:=
qX 80 p0 p10 fun t0=>
qE 145 t0 2 3 S fun t2=>
C 203 [t2,p3] S fun t3 S4=>
jS t3 0 fun t5=>
jS t3 1 fun t6=>
qX 80 p0 p10 fun t7=>
qF 145 t7 2 fun t8=>
qS 3 t8 t5 S4 fun S9=>
K (.tup [p0,t6]) S9
def vV (C:aN) (K:KW) (p0 p1 p2 p3 p10 p40:V) (S:St):Prop:=
bN p40 (qD 145 [(0,p1),(1,p2)] fun t10=>
qQ 80 1 [(0,t10)] none S fun r11=>
C 280 [p0,p10,r11.1] r11.2 fun t12 S13=>
aA2 C K t12 p3 p10 S13) (aA2 C K p0 p3 p10 S)
def aA3 (C:aN) (K:KW) (p0 p1 p2 p3 p10:V) (S:St):Prop:=
qZ 80 p0 S fun t14=>
(qG .eql 3 p10 t14 fun t15=>
bN t15 (vV C K p0 p1 p2 p3 p10 (.bool true) S) (qX 80 p0 p10 fun t16=>
qE 145 t16 0 9 S fun t18=>
(qG .neq 9 t18 p1 fun t19=>
vV C K p0 p1 p2 p3 p10 t19 S)))
def aFu (C:aN) (K:KW) (p0 p1 p2 p3:V) (vs:List V) (S:St) (again0:List V→St→Prop):Prop:=
wUn vs fun x10 vs=>
qZ 80 p0 S fun t20=>
qB .lss 3 x10 t20 fun t21=>
bN t21 (qX 80 p0 x10 fun t22=>
qE 145 t22 0 9 S fun t24=>
qB .lss 9 t24 p1 fun t25=>
bN t25 (qB .add 3 x10 (jI 1) fun t26=>
again0 [t26] S) (aA3 C K p0 p1 p2 p3 x10 S)) (aA3 C K p0 p1 p2 p3 x10 S)
def aVm (C:aN) (a0 a1 a2 a3:V) (S:St) (K:KW):Prop:=
lN [(jI 0)] S (aFu C K a0 a1 a2 a3)
theorem aVn:(fun (C:aN) (a0 a1 a2 a3:V) (S:St) (K:KW)=>eX prog C aJt aJu 269 [a0,a1,a2,a3] S K)=fun C a0 a1 a2 a3 S K=>aVm C a0 a1 a2 a3 S K:=by kernel_rfl
theorem bK7 (C:aN) (a0 a1 a2 a3:V) (S:St) (K:KW):eX prog C aJt aJu 269 [a0,a1,a2,a3] S K=aVm C a0 a1 a2 a3 S K:=congrFun (congrFun (congrFun (congrFun (congrFun (congrFun (congrFun aVn C) a0) a1) a2) a3) S) K
theorem bK8 {a0 a1 a2 a3:V} {S:St} {K:KW} (h:aVm C a0 a1 a2 a3 S K):C 269 [a0,a1,a2,a3] S K:=aJb (p:=aJt) (lv:=aJu) (by kernel_rfl) (by rw [bK7];exact h)
def sB (C:aN) (K:KW) (again0:List V→St→Prop) (p0 p2 p3 p4 p15 p16 p68:V) (S:St):Prop:=
bN p68 (qD 82 [] fun t37=>
qS 82 p2 t37 S fun S38=>
qL 82 p2 S38 fun t39=>
K (.tup [t39,(jI 7)]) S38) (qB .add 3 p16 (jI 1) fun t40=>
again0 [p3,t40] S)
def aFv (C:aN) (K:KW) (p0 p2 p4 p15:V) (vs:List V) (S:St) (again0:List V→St→Prop):Prop:=
wUn vs fun x3 vs=>
wUn vs fun x16 vs=>
qB .lss 3 x16 p15 fun t5=>
bN t5 (qX 80 p0 x16 fun t6=>
xN t6 (qE 145 t6 2 3 (up S 17) fun t8=>
xN t6 (qE 145 t6 1 3 (up S 17) fun t10=>
C 217 [t8,t10] (up S 17) fun t11 S12=>
jS t11 0 fun t13=>
jS t11 1 fun t14=>
xN t6 (qF 145 t6 3 fun t15=>
qS 3 t15 t13 S12 fun S16=>
qE 82 p4 0 3 (up S16 13) fun t18=>
xN t6 (qE 145 t6 2 3 (up S16 13) fun t20=>
C 203 [t18,t20] (up S16 13) fun t21 S22=>
jS t21 0 fun t23=>
jS t21 1 fun t24=>
qF 82 p4 0 fun t25=>
qS 3 t25 t23 S22 fun S26=>
qE 82 p4 1 3 (up S26 13) fun t28=>
xN t6 (qE 145 t6 3 3 (up S26 13) fun t30=>
C 203 [t28,t30] (up S26 13) fun t31 S32=>
jS t31 0 fun t33=>
jS t31 1 fun t34=>
qF 82 p4 1 fun t35=>
qS 3 t35 t33 S32 fun S36=>
(qG .neq 31 t14 (jI 0) fun t41=>
bN t41 (sB C K again0 p0 p2 x3 p4 p15 x16 (.bool true) S36) ((qG .neq 31 t24 (jI 0) fun t42=>
bN t42 (sB C K again0 p0 p2 x3 p4 p15 x16 (.bool true) S36) ((qG .neq 31 t34 (jI 0) fun t43=>
sB C K again0 p0 p2 x3 p4 p15 x16 t43 S36))))))))))) (qE 82 p4 0 3 S fun t45=>
qE 82 p4 1 3 S fun t47=>
C 203 [t45,t47] S fun t48 S49=>
jS t48 0 fun t50=>
jS t48 1 fun t51=>
(qG .neq 31 t51 (jI 0) fun t52=>
bN t52 (qD 82 [] fun t53=>
qS 82 p2 t53 S49 fun S54=>
qL 82 p2 S54 fun t55=>
K (.tup [t55,t51]) S54) (qF 82 p4 2 fun t56=>
qS 3 t56 t50 S49 fun S57=>
qL 82 p4 S57 fun t58=>
qS 82 p2 t58 S57 fun S59=>
qL 82 p2 S59 fun t60=>
K (.tup [t60,(jI 0)]) S59)))
def aVo (C:aN) (a0:V) (S:St) (K:KW):Prop:=
qN S 4 [jI 0,jI 0,jI 0,.nils] fun r0=>
qD 82 [(3,a0)] fun t1=>
qN r0.2 4 [jI 0,jI 0,jI 0,.nils] fun r2=>
qS 82 (pt r2) t1 r2.2 fun S3=>
qZ 80 a0 S3 fun t4=>
lN [(jI 0),(jI 0)] S3 (aFv C K a0 (pt r0) (pt r2) t4)
theorem aVp:(fun (C:aN) (a0:V) (S:St) (K:KW)=>eX prog C aJv aJw 270 [a0] S K)=fun C a0 S K=>aVo C a0 S K:=by kernel_rfl
theorem bK9 (C:aN) (a0:V) (S:St) (K:KW):eX prog C aJv aJw 270 [a0] S K=aVo C a0 S K:=congrFun (congrFun (congrFun (congrFun aVp C) a0) S) K
theorem bKa {a0:V} {S:St} {K:KW} (h:aVo C a0 S K):C 270 [a0] S K:=aJb (p:=aJv) (lv:=aJw) (by kernel_rfl) (by rw [bK9];exact h)
abbrev App (T n b:Nat):Prop:=∀ (s x:V) (fr:Option Nat) (S:St),eR prog T s x fr S=gI n b s x fr S
abbrev Bd (T:Nat) (z:List V) (pl:List (Nat×Nat)):Prop:=∀ parts:List (Nat×V),mR prog T parts=tR z pl parts
abbrev Bs (T n:Nat) (z:List V):Prop:=∀ (len:Nat) (parts:List (Nat×V)) (fr:Option Nat) (S:St),cG prog T len parts fr S=bV n z len parts fr S
abbrev Cv (s d:Nat) (k:IntKind):Prop:=∀ (j:IntKind) (n:Int) (fr:Option Nat) (S:St),dH prog s d (.int j n) fr S=.ok (.int k (wr k n),S)
abbrev Fa (s f o:Nat):Prop:=∀ p:V,cW prog s p f=advW o p
abbrev Ix (T n:Nat):Prop:=∀ x i:V,cJ prog T x i=gF n x i
abbrev Ld (T:Nat) (k:Option Nat):Prop:=∀ (p:V) (S:St),kK prog T p S=mE k p S
abbrev Ln (T:Nat):Prop:=∀ (x:V) (S:St),xC prog T x S=lenW x
abbrev Sl_ (T n:Nat):Prop:=∀ (a ver off len:Nat) (lo hi:Option V),hM prog T (.sl a ver n off len) lo hi=(match gP len lo hi with
  | .ok (l,h)=>.ok (.sl a ver n (off+l) (h - l))
  | .error e=>.error e)
abbrev Si (T n:Nat):Prop:=∀ (es:List (List V)) (hl:hJ n es=true) (lo hi:Option V),hM prog T (.imm es) lo hi=(match gP es.length lo hi with
  | .ok (l,h)=>.ok (.imm ((es.take h).drop l))
  | .error e=>.error e)
abbrev Sr (T n:Nat):Prop:=∀ (p x:V) (S:St),mQ prog T p x S=gE n p x S
theorem aR5:App 102 23 224:=cE (by kernel_rfl)
theorem aY5:App 22 1 1:=cE (by kernel_rfl)
theorem aY6:App 24 5 48:=cE (by kernel_rfl)
theorem aY7:App 25 4 40:=cE (by kernel_rfl)
theorem aY8:App 26 12 128:=cE (by kernel_rfl)
theorem aY9:App 27 2 24:=cE (by kernel_rfl)
theorem aYa:App 28 5 40:=cE (by kernel_rfl)
theorem aYb:App 44 17 176:=cE (by kernel_rfl)
theorem aYc:App 55 4 48:=cE (by kernel_rfl)
theorem aYd:App 62 3 24:=cE (by kernel_rfl)
theorem aYe:App 71 4 40:=cE (by kernel_rfl)
theorem aYf:App 80 4 40:=cE (by kernel_rfl)
theorem aYg:App 96 1 8:=cE (by kernel_rfl)
theorem aYh:App 97 23 224:=cE (by kernel_rfl)
theorem aYi:Bd 126 [.str [],.int .i64 0,.int .i64 0,.bool false] [(0,1),(1,1),(2,1),(3,1)]:=bG (by kernel_rfl)
theorem aYj:Bd 132 [.int .i64 0,.int .i64 0,.int .i64 0,.int .i64 0,.int .i64 0] [(0,1),(1,1),(2,3)]:=bG (by kernel_rfl)
theorem aYk:Bd 142 [.nils,.int .i64 0,.int .i64 0] [(0,1),(1,1),(2,1)]:=bG (by kernel_rfl)
theorem aYl:Bd 145 [.str [],.int .i64 0,.int .i64 0,.int .i64 0] [(0,1),(1,1),(2,1),(3,1)]:=bG (by kernel_rfl)
theorem aYm:Bd 160 [.nils] [(0,1)]:=bG (by kernel_rfl)
theorem aYn:Bd 201 [.str [],.str [],.int .i64 0,.int .i64 0] [(0,1),(1,1),(2,1),(3,1)]:=bG (by kernel_rfl)
theorem aYo:Bd 207 [.int .i64 0,.int .i64 0,.int .i64 0,.str [],.int .i64 0,.str [],.int .i64 0,.int .i64 0,.int .i64 0,.int .i64 0,.int .i64 0,.int .i64 0,.int .i64 0,.nils,.str [],.int .i64 0,.int .i64 0,.int .i64 0,.int .i64 0,.int .i64 0,.int .i64 0,.int .i64 0,.int .i64 0] [(0,17),(17,1),(18,1),(19,1),(20,3)]:=bG (by kernel_rfl)
theorem aYp:Bd 212 [.nili] [(0,1)]:=bG (by kernel_rfl)
theorem aYq:Bd 225 [.nils,.int .i64 0,.int .i64 0] [(0,1),(1,1),(2,1)]:=bG (by kernel_rfl)
theorem aYr:Bd 287 [.nils,.bool false] [(0,1),(1,1)]:=bG (by kernel_rfl)
theorem bCr:Bd 30 [.nils,.nils,.nils,.nils,.nils,.int .i64 0] [(0,1),(1,1),(2,1),(3,1),(4,1),(5,1)]:=bG (by kernel_rfl)
theorem aYs:Bd 346 [.int .i64 0,.int .u64 0] [(0,1),(1,1)]:=bG (by kernel_rfl)
theorem bCs:Bd 48 [.int .i64 0,.int .i64 0,.int .i64 0] [(0,1),(1,1),(2,1)]:=bG (by kernel_rfl)
theorem bCt:Bd 52 [.int .i64 0,.int .i64 0,.int .i64 0] [(0,1),(1,1),(2,1)]:=bG (by kernel_rfl)
theorem bCu:Bd 54 [.str [],.int .i64 0,.int .i64 0,.int .i64 0,.int .i64 0] [(0,1),(1,3),(4,1)]:=bG (by kernel_rfl)
theorem bCv:Bd 57 [.str [],.int .i64 0] [(0,1),(1,1)]:=bG (by kernel_rfl)
theorem bCw:Bd 59 [.int .i64 0,.str [],.int .i64 0,.str [],.int .i64 0,.int .i64 0,.int .i64 0,.int .i64 0,.int .i64 0,.int .i64 0,.int .i64 0,.nils,.str [],.int .i64 0,.int .i64 0] [(0,1),(1,1),(2,1),(3,5),(8,3),(11,1),(12,2),(14,1)]:=bG (by kernel_rfl)
theorem bCx:Bd 61 [.int .i64 0,.int .i64 0,.int .i64 0,.str [],.int .i64 0,.str [],.int .i64 0,.int .i64 0,.int .i64 0,.int .i64 0,.int .i64 0,.int .i64 0,.int .i64 0,.nils,.str [],.int .i64 0,.int .i64 0] [(0,1),(1,1),(2,15)]:=bG (by kernel_rfl)
theorem bCy:Bd 76 [.str [],.int .i64 0,.int .i64 0,.int .i64 0] [(0,1),(1,1),(2,1),(3,1)]:=bG (by kernel_rfl)
theorem bCz:Bd 77 [.str [],.int .i64 0,.int .i64 0,.int .i64 0] [(0,1),(1,1),(2,1),(3,1)]:=bG (by kernel_rfl)
theorem bD0:Bd 82 [.int .i64 0,.int .i64 0,.int .i64 0,.nils] [(0,1),(1,1),(2,1),(3,1)]:=bG (by kernel_rfl)
theorem bD1:Bd 84 [.str [],.int .i64 0,.int .i64 0,.int .i64 0,.int .i64 0,.int .i64 0,.int .i64 0,.int .i64 0,.nils,.str [],.int .i64 0,.bool false] [(0,2),(2,3),(5,4),(9,2),(11,1)]:=bG (by kernel_rfl)
theorem bD2:Bd 90 [.str [],.int .i64 0] [(0,1),(1,1)]:=bG (by kernel_rfl)
theorem bD3:Bd 99 [.int .i64 0,.int .i64 0,.int .i64 0,.str [],.int .i64 0,.str [],.int .i64 0,.int .i64 0,.int .i64 0,.int .i64 0,.int .i64 0,.int .i64 0,.int .i64 0,.nils,.str [],.int .i64 0,.int .i64 0,.int .i64 0,.int .i64 0,.int .i64 0,.int .i64 0,.int .i64 0,.int .i64 0] [(0,17),(17,1),(18,1),(19,1),(20,3)]:=bG (by kernel_rfl)
theorem aYt:Bs 102 23 [.int .i64 0,.int .i64 0,.int .i64 0,.str [],.int .i64 0,.str [],.int .i64 0,.int .i64 0,.int .i64 0,.int .i64 0,.int .i64 0,.int .i64 0,.int .i64 0,.nils,.str [],.int .i64 0,.int .i64 0,.int .i64 0,.int .i64 0,.int .i64 0,.int .i64 0,.int .i64 0,.int .i64 0]:=aT (by kernel_rfl)
theorem bD4:Bs 22 1 [.int .u8 0]:=aT (by kernel_rfl)
theorem bD5:Bs 24 5 [.str [],.int .i64 0,.int .i64 0,.int .i64 0,.int .i64 0]:=aT (by kernel_rfl)
theorem bD6:Bs 25 4 [.str [],.int .i64 0,.int .i64 0,.bool false]:=aT (by kernel_rfl)
theorem bD7:Bs 26 12 [.str [],.int .i64 0,.int .i64 0,.int .i64 0,.int .i64 0,.int .i64 0,.int .i64 0,.int .i64 0,.nils,.str [],.int .i64 0,.bool false]:=aT (by kernel_rfl)
theorem bD8:Bs 27 2 [.str [],.int .i64 0]:=aT (by kernel_rfl)
theorem bD9:Bs 28 5 [.int .i64 0,.int .i64 0,.int .i64 0,.int .i64 0,.int .i64 0]:=aT (by kernel_rfl)
theorem aYu:Bs 361 1 [.nilp]:=aT (by kernel_rfl)
theorem aYv:Bs 364 1 [.str []]:=aT (by kernel_rfl)
theorem bDa:Bs 44 17 [.int .i64 0,.int .i64 0,.int .i64 0,.str [],.int .i64 0,.str [],.int .i64 0,.int .i64 0,.int .i64 0,.int .i64 0,.int .i64 0,.int .i64 0,.int .i64 0,.nils,.str [],.int .i64 0,.int .i64 0]:=aT (by kernel_rfl)
theorem bDb:Bs 55 4 [.str [],.str [],.int .i64 0,.int .i64 0]:=aT (by kernel_rfl)
theorem bDc:Bs 62 3 [.int .i64 0,.int .i64 0,.int .i64 0]:=aT (by kernel_rfl)
theorem bDd:Bs 68 4 [.str [],.int .i64 0,.int .i64 0,.int .i64 0]:=aT (by kernel_rfl)
theorem bDe:Bs 71 4 [.str [],.int .i64 0,.int .i64 0,.int .i64 0]:=aT (by kernel_rfl)
theorem bDf:Bs 80 4 [.str [],.int .i64 0,.int .i64 0,.int .i64 0]:=aT (by kernel_rfl)
theorem bDg:Bs 96 1 [.int .i64 0]:=aT (by kernel_rfl)
theorem bDh:Bs 97 23 [.int .i64 0,.int .i64 0,.int .i64 0,.str [],.int .i64 0,.str [],.int .i64 0,.int .i64 0,.int .i64 0,.int .i64 0,.int .i64 0,.int .i64 0,.int .i64 0,.nils,.str [],.int .i64 0,.int .i64 0,.int .i64 0,.int .i64 0,.int .i64 0,.int .i64 0,.int .i64 0,.int .i64 0]:=aT (by kernel_rfl)
theorem aLi:Cv 229 3 .i64:=jT (by kernel_rfl)
theorem aLj:Cv 229 5 .u8:=jT (by kernel_rfl)
theorem aLk:Cv 3 229 .u64:=jT (by kernel_rfl)
theorem aLl:Cv 3 231 .u64:=jT (by kernel_rfl)
theorem aLm:Cv 5 229 .u64:=jT (by kernel_rfl)
theorem bB1:(fun (a_0:List UInt8) (a_1:Int) (a_2:Int) (a_3:Bool) (b_0:List UInt8) (b_1:Int) (b_2:Int) (b_3:Bool)=>pX prog 100 126 (.agg [.str a_0,.int .i64 a_1,.int .i64 a_2,.bool a_3]) (.agg [.str b_0,.int .i64 b_1,.int .i64 b_2,.bool b_3]))=fun a_0 a_1 a_2 a_3 b_0 b_1 b_2 b_3=>(eH (.ok (nY a_0 b_0)) (eH (.ok (decide (a_1=b_1))) (eH (.ok (decide (a_2=b_2))) (eH (.ok (a_3 == b_3)) (.ok true))))):=by kernel_rfl
theorem aYw (a_0:List UInt8) (a_1:Int) (a_2:Int) (a_3:Bool) (b_0:List UInt8) (b_1:Int) (b_2:Int) (b_3:Bool):pX prog 100 126 (.agg [.str a_0,.int .i64 a_1,.int .i64 a_2,.bool a_3]) (.agg [.str b_0,.int .i64 b_1,.int .i64 b_2,.bool b_3])=.ok ((a_0 == b_0)&&decide (a_1=b_1)&&decide (a_2=b_2)&&(a_3 == b_3)):=by
 refine (congrFun (congrFun (congrFun (congrFun (congrFun (congrFun (congrFun (congrFun bB1 a_0) a_1) a_2) a_3) b_0) b_1) b_2) b_3).trans ?_
 simp only [iG,cL,Bool.and_true,Bool.and_assoc]
theorem bDi:(fun a b=>bY prog 126 (.agg a) (.agg b))=fun _ _=>true:=by kernel_rfl
theorem aYx (a b:List V):bY prog 126 (.agg a) (.agg b)=true:=congrFun (congrFun bDi a) b
theorem bB2:(fun (a_0:Int) (a_1:Int) (a_2_0:Int) (a_2_1:Int) (a_2_2:Int) (b_0:Int) (b_1:Int) (b_2_0:Int) (b_2_1:Int) (b_2_2:Int)=>pX prog 100 132 (.agg [.int .i64 a_0,.int .i64 a_1,.int .i64 a_2_0,.int .i64 a_2_1,.int .i64 a_2_2]) (.agg [.int .i64 b_0,.int .i64 b_1,.int .i64 b_2_0,.int .i64 b_2_1,.int .i64 b_2_2]))=fun a_0 a_1 a_2_0 a_2_1 a_2_2 b_0 b_1 b_2_0 b_2_1 b_2_2=>(eH (.ok (decide (a_0=b_0))) (eH (.ok (decide (a_1=b_1))) (eH (eH (.ok (decide (a_2_0=b_2_0))) (eH (.ok (decide (a_2_1=b_2_1))) (eH (.ok (decide (a_2_2=b_2_2))) (.ok true)))) (.ok true)))):=by kernel_rfl
theorem aYy (a_0:Int) (a_1:Int) (a_2_0:Int) (a_2_1:Int) (a_2_2:Int) (b_0:Int) (b_1:Int) (b_2_0:Int) (b_2_1:Int) (b_2_2:Int):pX prog 100 132 (.agg [.int .i64 a_0,.int .i64 a_1,.int .i64 a_2_0,.int .i64 a_2_1,.int .i64 a_2_2]) (.agg [.int .i64 b_0,.int .i64 b_1,.int .i64 b_2_0,.int .i64 b_2_1,.int .i64 b_2_2])=.ok (decide (a_0=b_0)&&decide (a_1=b_1)&&decide (a_2_0=b_2_0)&&decide (a_2_1=b_2_1)&&decide (a_2_2=b_2_2)):=by
 refine (congrFun (congrFun (congrFun (congrFun (congrFun (congrFun (congrFun (congrFun (congrFun (congrFun bB2 a_0) a_1) a_2_0) a_2_1) a_2_2) b_0) b_1) b_2_0) b_2_1) b_2_2).trans ?_
 simp only [iG,cL,Bool.and_true,Bool.and_assoc]
theorem bDj:(fun a b=>bY prog 132 (.agg a) (.agg b))=fun _ _=>true:=by kernel_rfl
theorem aYz (a b:List V):bY prog 132 (.agg a) (.agg b)=true:=congrFun (congrFun bDj a) b
theorem bB3:(fun (a_0:List UInt8) (a_1:Int) (a_2:Int) (a_3:Int) (b_0:List UInt8) (b_1:Int) (b_2:Int) (b_3:Int)=>pX prog 100 145 (.agg [.str a_0,.int .i64 a_1,.int .i64 a_2,.int .i64 a_3]) (.agg [.str b_0,.int .i64 b_1,.int .i64 b_2,.int .i64 b_3]))=fun a_0 a_1 a_2 a_3 b_0 b_1 b_2 b_3=>(eH (.ok (nY a_0 b_0)) (eH (.ok (decide (a_1=b_1))) (eH (.ok (decide (a_2=b_2))) (eH (.ok (decide (a_3=b_3))) (.ok true))))):=by kernel_rfl
theorem aZ0 (a_0:List UInt8) (a_1:Int) (a_2:Int) (a_3:Int) (b_0:List UInt8) (b_1:Int) (b_2:Int) (b_3:Int):pX prog 100 145 (.agg [.str a_0,.int .i64 a_1,.int .i64 a_2,.int .i64 a_3]) (.agg [.str b_0,.int .i64 b_1,.int .i64 b_2,.int .i64 b_3])=.ok ((a_0 == b_0)&&decide (a_1=b_1)&&decide (a_2=b_2)&&decide (a_3=b_3)):=by
 refine (congrFun (congrFun (congrFun (congrFun (congrFun (congrFun (congrFun (congrFun bB3 a_0) a_1) a_2) a_3) b_0) b_1) b_2) b_3).trans ?_
 simp only [iG,cL,Bool.and_true,Bool.and_assoc]
theorem bDk:(fun a b=>bY prog 145 (.agg a) (.agg b))=fun _ _=>true:=by kernel_rfl
theorem aZ1 (a b:List V):bY prog 145 (.agg a) (.agg b)=true:=congrFun (congrFun bDk a) b
theorem bB4:(fun (a_0:List UInt8) (a_1:List UInt8) (a_2:Int) (a_3:Int) (b_0:List UInt8) (b_1:List UInt8) (b_2:Int) (b_3:Int)=>pX prog 100 201 (.agg [.str a_0,.str a_1,.int .i64 a_2,.int .i64 a_3]) (.agg [.str b_0,.str b_1,.int .i64 b_2,.int .i64 b_3]))=fun a_0 a_1 a_2 a_3 b_0 b_1 b_2 b_3=>(eH (.ok (nY a_0 b_0)) (eH (.ok (nY a_1 b_1)) (eH (.ok (decide (a_2=b_2))) (eH (.ok (decide (a_3=b_3))) (.ok true))))):=by kernel_rfl
theorem aZ2 (a_0:List UInt8) (a_1:List UInt8) (a_2:Int) (a_3:Int) (b_0:List UInt8) (b_1:List UInt8) (b_2:Int) (b_3:Int):pX prog 100 201 (.agg [.str a_0,.str a_1,.int .i64 a_2,.int .i64 a_3]) (.agg [.str b_0,.str b_1,.int .i64 b_2,.int .i64 b_3])=.ok ((a_0 == b_0)&&(a_1 == b_1)&&decide (a_2=b_2)&&decide (a_3=b_3)):=by
 refine (congrFun (congrFun (congrFun (congrFun (congrFun (congrFun (congrFun (congrFun bB4 a_0) a_1) a_2) a_3) b_0) b_1) b_2) b_3).trans ?_
 simp only [iG,cL,Bool.and_true,Bool.and_assoc]
theorem bDl:(fun a b=>bY prog 201 (.agg a) (.agg b))=fun _ _=>true:=by kernel_rfl
theorem aZ3 (a b:List V):bY prog 201 (.agg a) (.agg b)=true:=congrFun (congrFun bDl a) b
theorem bB5:(fun (a_0:Int) (a_1:Int) (b_0:Int) (b_1:Int)=>pX prog 100 346 (.agg [.int .i64 a_0,.int .u64 a_1]) (.agg [.int .i64 b_0,.int .u64 b_1]))=fun a_0 a_1 b_0 b_1=>(eH (.ok (decide (a_0=b_0))) (eH (.ok (decide (a_1=b_1))) (.ok true))):=by kernel_rfl
theorem aZ4 (a_0:Int) (a_1:Int) (b_0:Int) (b_1:Int):pX prog 100 346 (.agg [.int .i64 a_0,.int .u64 a_1]) (.agg [.int .i64 b_0,.int .u64 b_1])=.ok (decide (a_0=b_0)&&decide (a_1=b_1)):=by
 refine (congrFun (congrFun (congrFun (congrFun bB5 a_0) a_1) b_0) b_1).trans ?_
 simp only [iG,cL,Bool.and_true,Bool.and_assoc]
theorem bDm:(fun a b=>bY prog 346 (.agg a) (.agg b))=fun _ _=>true:=by kernel_rfl
theorem aZ5 (a b:List V):bY prog 346 (.agg a) (.agg b)=true:=congrFun (congrFun bDm a) b
theorem bDn:(fun (a_0:Int) (a_1:Int) (a_2:Int) (b_0:Int) (b_1:Int) (b_2:Int)=>pX prog 100 48 (.agg [.int .i64 a_0,.int .i64 a_1,.int .i64 a_2]) (.agg [.int .i64 b_0,.int .i64 b_1,.int .i64 b_2]))=fun a_0 a_1 a_2 b_0 b_1 b_2=>(eH (.ok (decide (a_0=b_0))) (eH (.ok (decide (a_1=b_1))) (eH (.ok (decide (a_2=b_2))) (.ok true)))):=by kernel_rfl
theorem bDo (a_0:Int) (a_1:Int) (a_2:Int) (b_0:Int) (b_1:Int) (b_2:Int):pX prog 100 48 (.agg [.int .i64 a_0,.int .i64 a_1,.int .i64 a_2]) (.agg [.int .i64 b_0,.int .i64 b_1,.int .i64 b_2])=.ok (decide (a_0=b_0)&&decide (a_1=b_1)&&decide (a_2=b_2)):=by
 refine (congrFun (congrFun (congrFun (congrFun (congrFun (congrFun bDn a_0) a_1) a_2) b_0) b_1) b_2).trans ?_
 simp only [iG,cL,Bool.and_true,Bool.and_assoc]
theorem bKb:(fun a b=>bY prog 48 (.agg a) (.agg b))=fun _ _=>true:=by kernel_rfl
theorem bDp (a b:List V):bY prog 48 (.agg a) (.agg b)=true:=congrFun (congrFun bKb a) b
theorem bDq:(fun (a_0:Int) (a_1:Int) (a_2:Int) (b_0:Int) (b_1:Int) (b_2:Int)=>pX prog 100 52 (.agg [.int .i64 a_0,.int .i64 a_1,.int .i64 a_2]) (.agg [.int .i64 b_0,.int .i64 b_1,.int .i64 b_2]))=fun a_0 a_1 a_2 b_0 b_1 b_2=>(eH (.ok (decide (a_0=b_0))) (eH (.ok (decide (a_1=b_1))) (eH (.ok (decide (a_2=b_2))) (.ok true)))):=by kernel_rfl
theorem bDr (a_0:Int) (a_1:Int) (a_2:Int) (b_0:Int) (b_1:Int) (b_2:Int):pX prog 100 52 (.agg [.int .i64 a_0,.int .i64 a_1,.int .i64 a_2]) (.agg [.int .i64 b_0,.int .i64 b_1,.int .i64 b_2])=.ok (decide (a_0=b_0)&&decide (a_1=b_1)&&decide (a_2=b_2)):=by
 refine (congrFun (congrFun (congrFun (congrFun (congrFun (congrFun bDq a_0) a_1) a_2) b_0) b_1) b_2).trans ?_
 simp only [iG,cL,Bool.and_true,Bool.and_assoc]
theorem bKc:(fun a b=>bY prog 52 (.agg a) (.agg b))=fun _ _=>true:=by kernel_rfl
theorem bDs (a b:List V):bY prog 52 (.agg a) (.agg b)=true:=congrFun (congrFun bKc a) b
theorem bDt:(fun (a_0:List UInt8) (a_1_0:Int) (a_1_1:Int) (a_1_2:Int) (a_2:Int) (b_0:List UInt8) (b_1_0:Int) (b_1_1:Int) (b_1_2:Int) (b_2:Int)=>pX prog 100 54 (.agg [.str a_0,.int .i64 a_1_0,.int .i64 a_1_1,.int .i64 a_1_2,.int .i64 a_2]) (.agg [.str b_0,.int .i64 b_1_0,.int .i64 b_1_1,.int .i64 b_1_2,.int .i64 b_2]))=fun a_0 a_1_0 a_1_1 a_1_2 a_2 b_0 b_1_0 b_1_1 b_1_2 b_2=>(eH (.ok (nY a_0 b_0)) (eH (eH (.ok (decide (a_1_0=b_1_0))) (eH (.ok (decide (a_1_1=b_1_1))) (eH (.ok (decide (a_1_2=b_1_2))) (.ok true)))) (eH (.ok (decide (a_2=b_2))) (.ok true)))):=by kernel_rfl
theorem bDu (a_0:List UInt8) (a_1_0:Int) (a_1_1:Int) (a_1_2:Int) (a_2:Int) (b_0:List UInt8) (b_1_0:Int) (b_1_1:Int) (b_1_2:Int) (b_2:Int):pX prog 100 54 (.agg [.str a_0,.int .i64 a_1_0,.int .i64 a_1_1,.int .i64 a_1_2,.int .i64 a_2]) (.agg [.str b_0,.int .i64 b_1_0,.int .i64 b_1_1,.int .i64 b_1_2,.int .i64 b_2])=.ok ((a_0 == b_0)&&decide (a_1_0=b_1_0)&&decide (a_1_1=b_1_1)&&decide (a_1_2=b_1_2)&&decide (a_2=b_2)):=by
 refine (congrFun (congrFun (congrFun (congrFun (congrFun (congrFun (congrFun (congrFun (congrFun (congrFun bDt a_0) a_1_0) a_1_1) a_1_2) a_2) b_0) b_1_0) b_1_1) b_1_2) b_2).trans ?_
 simp only [iG,cL,Bool.and_true,Bool.and_assoc]
theorem bKd:(fun a b=>bY prog 54 (.agg a) (.agg b))=fun _ _=>true:=by kernel_rfl
theorem bDv (a b:List V):bY prog 54 (.agg a) (.agg b)=true:=congrFun (congrFun bKd a) b
theorem bDw:(fun (a_0:List UInt8) (a_1:Int) (b_0:List UInt8) (b_1:Int)=>pX prog 100 57 (.agg [.str a_0,.int .i64 a_1]) (.agg [.str b_0,.int .i64 b_1]))=fun a_0 a_1 b_0 b_1=>(eH (.ok (nY a_0 b_0)) (eH (.ok (decide (a_1=b_1))) (.ok true))):=by kernel_rfl
theorem bDx (a_0:List UInt8) (a_1:Int) (b_0:List UInt8) (b_1:Int):pX prog 100 57 (.agg [.str a_0,.int .i64 a_1]) (.agg [.str b_0,.int .i64 b_1])=.ok ((a_0 == b_0)&&decide (a_1=b_1)):=by
 refine (congrFun (congrFun (congrFun (congrFun bDw a_0) a_1) b_0) b_1).trans ?_
 simp only [iG,cL,Bool.and_true,Bool.and_assoc]
theorem bKe:(fun a b=>bY prog 57 (.agg a) (.agg b))=fun _ _=>true:=by kernel_rfl
theorem bDy (a b:List V):bY prog 57 (.agg a) (.agg b)=true:=congrFun (congrFun bKe a) b
theorem bDz:(fun (a_0:List UInt8) (a_1:Int) (a_2:Int) (a_3:Int) (b_0:List UInt8) (b_1:Int) (b_2:Int) (b_3:Int)=>pX prog 100 76 (.agg [.str a_0,.int .i64 a_1,.int .i64 a_2,.int .i64 a_3]) (.agg [.str b_0,.int .i64 b_1,.int .i64 b_2,.int .i64 b_3]))=fun a_0 a_1 a_2 a_3 b_0 b_1 b_2 b_3=>(eH (.ok (nY a_0 b_0)) (eH (.ok (decide (a_1=b_1))) (eH (.ok (decide (a_2=b_2))) (eH (.ok (decide (a_3=b_3))) (.ok true))))):=by kernel_rfl
theorem bE0 (a_0:List UInt8) (a_1:Int) (a_2:Int) (a_3:Int) (b_0:List UInt8) (b_1:Int) (b_2:Int) (b_3:Int):pX prog 100 76 (.agg [.str a_0,.int .i64 a_1,.int .i64 a_2,.int .i64 a_3]) (.agg [.str b_0,.int .i64 b_1,.int .i64 b_2,.int .i64 b_3])=.ok ((a_0 == b_0)&&decide (a_1=b_1)&&decide (a_2=b_2)&&decide (a_3=b_3)):=by
 refine (congrFun (congrFun (congrFun (congrFun (congrFun (congrFun (congrFun (congrFun bDz a_0) a_1) a_2) a_3) b_0) b_1) b_2) b_3).trans ?_
 simp only [iG,cL,Bool.and_true,Bool.and_assoc]
theorem bKf:(fun a b=>bY prog 76 (.agg a) (.agg b))=fun _ _=>true:=by kernel_rfl
theorem bE1 (a b:List V):bY prog 76 (.agg a) (.agg b)=true:=congrFun (congrFun bKf a) b
theorem bE2:(fun (a_0:List UInt8) (a_1:Int) (b_0:List UInt8) (b_1:Int)=>pX prog 100 90 (.agg [.str a_0,.int .i64 a_1]) (.agg [.str b_0,.int .i64 b_1]))=fun a_0 a_1 b_0 b_1=>(eH (.ok (nY a_0 b_0)) (eH (.ok (decide (a_1=b_1))) (.ok true))):=by kernel_rfl
theorem bE3 (a_0:List UInt8) (a_1:Int) (b_0:List UInt8) (b_1:Int):pX prog 100 90 (.agg [.str a_0,.int .i64 a_1]) (.agg [.str b_0,.int .i64 b_1])=.ok ((a_0 == b_0)&&decide (a_1=b_1)):=by
 refine (congrFun (congrFun (congrFun (congrFun bE2 a_0) a_1) b_0) b_1).trans ?_
 simp only [iG,cL,Bool.and_true,Bool.and_assoc]
theorem bKg:(fun a b=>bY prog 90 (.agg a) (.agg b))=fun _ _=>true:=by kernel_rfl
theorem bE4 (a b:List V):bY prog 90 (.agg a) (.agg b)=true:=congrFun (congrFun bKg a) b
theorem aLn:Fa 126 0 0:=aA (by kernel_rfl)
theorem aLo:Fa 126 1 1:=aA (by kernel_rfl)
theorem aLp:Fa 126 2 2:=aA (by kernel_rfl)
theorem aLq:Fa 126 3 3:=aA (by kernel_rfl)
theorem aLr:Fa 132 0 0:=aA (by kernel_rfl)
theorem aLs:Fa 132 1 1:=aA (by kernel_rfl)
theorem aLt:Fa 132 2 2:=aA (by kernel_rfl)
theorem aLu:Fa 142 0 0:=aA (by kernel_rfl)
theorem aLv:Fa 142 1 1:=aA (by kernel_rfl)
theorem aLw:Fa 142 2 2:=aA (by kernel_rfl)
theorem aLx:Fa 145 0 0:=aA (by kernel_rfl)
theorem aLy:Fa 145 1 1:=aA (by kernel_rfl)
theorem aLz:Fa 145 2 2:=aA (by kernel_rfl)
theorem aM0:Fa 145 3 3:=aA (by kernel_rfl)
theorem aM1:Fa 160 0 0:=aA (by kernel_rfl)
theorem aM2:Fa 201 0 0:=aA (by kernel_rfl)
theorem aM3:Fa 201 1 1:=aA (by kernel_rfl)
theorem aM4:Fa 201 2 2:=aA (by kernel_rfl)
theorem aM5:Fa 201 3 3:=aA (by kernel_rfl)
theorem aM6:Fa 207 0 0:=aA (by kernel_rfl)
theorem aM7:Fa 207 1 17:=aA (by kernel_rfl)
theorem aM8:Fa 207 2 18:=aA (by kernel_rfl)
theorem aM9:Fa 207 3 19:=aA (by kernel_rfl)
theorem aMa:Fa 207 4 20:=aA (by kernel_rfl)
theorem aMb:Fa 220 1 1:=aA (by kernel_rfl)
theorem aMc:Fa 220 2 2:=aA (by kernel_rfl)
theorem aMd:Fa 225 0 0:=aA (by kernel_rfl)
theorem aMe:Fa 225 1 1:=aA (by kernel_rfl)
theorem aMf:Fa 225 2 2:=aA (by kernel_rfl)
theorem aMg:Fa 287 0 0:=aA (by kernel_rfl)
theorem aMh:Fa 287 1 1:=aA (by kernel_rfl)
theorem aR6:Fa 30 0 0:=aA (by kernel_rfl)
theorem aR7:Fa 30 1 1:=aA (by kernel_rfl)
theorem aR8:Fa 30 2 2:=aA (by kernel_rfl)
theorem aR9:Fa 30 3 3:=aA (by kernel_rfl)
theorem aRa:Fa 30 4 4:=aA (by kernel_rfl)
theorem aRb:Fa 30 5 5:=aA (by kernel_rfl)
theorem aMi:Fa 346 0 0:=aA (by kernel_rfl)
theorem aMj:Fa 346 1 1:=aA (by kernel_rfl)
theorem aRc:Fa 48 0 0:=aA (by kernel_rfl)
theorem aRd:Fa 48 1 1:=aA (by kernel_rfl)
theorem aRe:Fa 48 2 2:=aA (by kernel_rfl)
theorem aRf:Fa 52 0 0:=aA (by kernel_rfl)
theorem aRg:Fa 52 1 1:=aA (by kernel_rfl)
theorem aRh:Fa 52 2 2:=aA (by kernel_rfl)
theorem aRi:Fa 54 0 0:=aA (by kernel_rfl)
theorem aRj:Fa 54 1 1:=aA (by kernel_rfl)
theorem aRk:Fa 54 2 4:=aA (by kernel_rfl)
theorem aRl:Fa 57 0 0:=aA (by kernel_rfl)
theorem aRm:Fa 57 1 1:=aA (by kernel_rfl)
theorem aRn:Fa 59 0 0:=aA (by kernel_rfl)
theorem aRo:Fa 59 1 1:=aA (by kernel_rfl)
theorem aRp:Fa 59 2 2:=aA (by kernel_rfl)
theorem aRq:Fa 59 3 3:=aA (by kernel_rfl)
theorem aRr:Fa 59 4 8:=aA (by kernel_rfl)
theorem aRs:Fa 59 5 11:=aA (by kernel_rfl)
theorem aRt:Fa 59 6 12:=aA (by kernel_rfl)
theorem aRu:Fa 59 7 14:=aA (by kernel_rfl)
theorem aRv:Fa 61 0 0:=aA (by kernel_rfl)
theorem aRw:Fa 61 1 1:=aA (by kernel_rfl)
theorem aRx:Fa 61 2 2:=aA (by kernel_rfl)
theorem aRy:Fa 76 0 0:=aA (by kernel_rfl)
theorem aRz:Fa 76 1 1:=aA (by kernel_rfl)
theorem aS0:Fa 76 2 2:=aA (by kernel_rfl)
theorem aS1:Fa 76 3 3:=aA (by kernel_rfl)
theorem aS2:Fa 77 0 0:=aA (by kernel_rfl)
theorem aS3:Fa 77 1 1:=aA (by kernel_rfl)
theorem aS4:Fa 77 2 2:=aA (by kernel_rfl)
theorem aS5:Fa 77 3 3:=aA (by kernel_rfl)
theorem aS6:Fa 82 0 0:=aA (by kernel_rfl)
theorem aS7:Fa 82 1 1:=aA (by kernel_rfl)
theorem aS8:Fa 82 2 2:=aA (by kernel_rfl)
theorem aS9:Fa 82 3 3:=aA (by kernel_rfl)
theorem aSa:Fa 84 0 0:=aA (by kernel_rfl)
theorem aSb:Fa 84 1 2:=aA (by kernel_rfl)
theorem aSc:Fa 84 2 5:=aA (by kernel_rfl)
theorem aSd:Fa 84 3 9:=aA (by kernel_rfl)
theorem aSe:Fa 84 4 11:=aA (by kernel_rfl)
theorem aSf:Fa 90 0 0:=aA (by kernel_rfl)
theorem aSg:Fa 90 1 1:=aA (by kernel_rfl)
theorem aSh:Fa 99 0 0:=aA (by kernel_rfl)
theorem aSi:Fa 99 1 17:=aA (by kernel_rfl)
theorem aSj:Fa 99 2 18:=aA (by kernel_rfl)
theorem aSk:Fa 99 3 19:=aA (by kernel_rfl)
theorem aSl:Fa 99 4 20:=aA (by kernel_rfl)
theorem aZ6:Ix 102 23:=aV (by kernel_rfl)
theorem aZ7:Ix 114 3:=aV (by kernel_rfl)
theorem bE5:Ix 22 1:=aV (by kernel_rfl)
theorem bE6:Ix 24 5:=aV (by kernel_rfl)
theorem bE7:Ix 25 4:=aV (by kernel_rfl)
theorem bE8:Ix 26 12:=aV (by kernel_rfl)
theorem bE9:Ix 27 2:=aV (by kernel_rfl)
theorem bEa:Ix 28 5:=aV (by kernel_rfl)
theorem aZ8:Ix 361 1:=aV (by kernel_rfl)
theorem aZ9:Ix 364 1:=aV (by kernel_rfl)
theorem bEb:Ix 44 17:=aV (by kernel_rfl)
theorem bEc:Ix 55 4:=aV (by kernel_rfl)
theorem bEd:Ix 62 3:=aV (by kernel_rfl)
theorem bEe:Ix 68 4:=aV (by kernel_rfl)
theorem bEf:Ix 71 4:=aV (by kernel_rfl)
theorem bEg:Ix 80 4:=aV (by kernel_rfl)
theorem bEh:Ix 96 1:=aV (by kernel_rfl)
theorem bEi:Ix 97 23:=aV (by kernel_rfl)
theorem aZa:Ld 126 (some 4):=aR (by kernel_rfl)
theorem aZb:Ld 132 (some 5):=aR (by kernel_rfl)
theorem aZc:Ld 145 (some 4):=aR (by kernel_rfl)
theorem ld2:Ld 2 none:=aR (by kernel_rfl)
theorem aZd:Ld 201 (some 4):=aR (by kernel_rfl)
theorem aZe:Ld 212 (some 1):=aR (by kernel_rfl)
theorem bEj:Ld 22 none:=aR (by kernel_rfl)
theorem aZf:Ld 220 (some 3):=aR (by kernel_rfl)
theorem aZg:Ld 229 none:=aR (by kernel_rfl)
theorem aZh:Ld 232 none:=aR (by kernel_rfl)
theorem bEk:Ld 24 none:=aR (by kernel_rfl)
theorem bEl:Ld 25 none:=aR (by kernel_rfl)
theorem bEm:Ld 26 none:=aR (by kernel_rfl)
theorem bEn:Ld 27 none:=aR (by kernel_rfl)
theorem bEo:Ld 28 none:=aR (by kernel_rfl)
theorem ld3:Ld 3 none:=aR (by kernel_rfl)
theorem bEp:Ld 30 (some 6):=aR (by kernel_rfl)
theorem bEq:Ld 31 none:=aR (by kernel_rfl)
theorem aZi:Ld 346 (some 2):=aR (by kernel_rfl)
theorem aZj:Ld 349 none:=aR (by kernel_rfl)
theorem ld4:Ld 4 none:=aR (by kernel_rfl)
theorem bEr:Ld 48 (some 3):=aR (by kernel_rfl)
theorem ld5:Ld 5 none:=aR (by kernel_rfl)
theorem bEs:Ld 52 (some 3):=aR (by kernel_rfl)
theorem bEt:Ld 54 (some 5):=aR (by kernel_rfl)
theorem bEu:Ld 55 none:=aR (by kernel_rfl)
theorem bEv:Ld 57 (some 2):=aR (by kernel_rfl)
theorem bEw:Ld 59 (some 15):=aR (by kernel_rfl)
theorem bEx:Ld 61 (some 17):=aR (by kernel_rfl)
theorem bEy:Ld 76 (some 4):=aR (by kernel_rfl)
theorem bEz:Ld 80 none:=aR (by kernel_rfl)
theorem bF0:Ld 82 (some 4):=aR (by kernel_rfl)
theorem bF1:Ld 84 (some 12):=aR (by kernel_rfl)
theorem ld9:Ld 9 none:=aR (by kernel_rfl)
theorem bF2:Ld 90 (some 2):=aR (by kernel_rfl)
theorem bF3:Ld 99 (some 23):=aR (by kernel_rfl)
theorem aSm:Ln 102:=dK (by kernel_rfl)
theorem aSn:Ln 114:=dK (by kernel_rfl)
theorem aZk:Ln 22:=dK (by kernel_rfl)
theorem aZl:Ln 24:=dK (by kernel_rfl)
theorem aZm:Ln 25:=dK (by kernel_rfl)
theorem aZn:Ln 26:=dK (by kernel_rfl)
theorem aZo:Ln 27:=dK (by kernel_rfl)
theorem aZp:Ln 28:=dK (by kernel_rfl)
theorem aSo:Ln 361:=dK (by kernel_rfl)
theorem aSp:Ln 364:=dK (by kernel_rfl)
theorem aZq:Ln 44:=dK (by kernel_rfl)
theorem aZr:Ln 55:=dK (by kernel_rfl)
theorem aZs:Ln 62:=dK (by kernel_rfl)
theorem aZt:Ln 68:=dK (by kernel_rfl)
theorem aZu:Ln 71:=dK (by kernel_rfl)
theorem aZv:Ln 80:=dK (by kernel_rfl)
theorem bF4 (s:List UInt8) (S:St):xC prog 9 (.str s) S=.ok (.int .i64 s.length):=aO6 (by kernel_rfl) s S
theorem aZw:Ln 96:=dK (by kernel_rfl)
theorem aZx:Ln 97:=dK (by kernel_rfl)
theorem bF5:Sl_ 22 1:=eG (by kernel_rfl)
theorem bF6:Sl_ 24 5:=eG (by kernel_rfl)
theorem bF7:Sl_ 25 4:=eG (by kernel_rfl)
theorem bF8:Sl_ 26 12:=eG (by kernel_rfl)
theorem bF9:Si 26 12:=aB4 (by kernel_rfl)
theorem bFa:Sl_ 27 2:=eG (by kernel_rfl)
theorem bFb:Sl_ 28 5:=eG (by kernel_rfl)
theorem bFc:Sl_ 55 4:=eG (by kernel_rfl)
theorem bFd:Si 55 4:=aB4 (by kernel_rfl)
theorem bFe:Sl_ 71 4:=eG (by kernel_rfl)
theorem bFf:Sl_ 80 4:=eG (by kernel_rfl)
theorem bFg:Sl_ 96 1:=eG (by kernel_rfl)
theorem bFh:Sl_ 97 23:=eG (by kernel_rfl)
theorem aZy:Sr 126 4:=aP (by kernel_rfl)
theorem aZz:Sr 132 5:=aP (by kernel_rfl)
theorem bA0:Sr 145 4:=aP (by kernel_rfl)
theorem bA1:Sr 201 4:=aP (by kernel_rfl)
theorem bA2:Sr 212 1:=aP (by kernel_rfl)
theorem bFi:Sr 22 1:=aP (by kernel_rfl)
theorem bA3:Sr 220 3:=aP (by kernel_rfl)
theorem bA4:Sr 232 1:=aP (by kernel_rfl)
theorem bFj:Sr 24 1:=aP (by kernel_rfl)
theorem bFk:Sr 25 1:=aP (by kernel_rfl)
theorem bFl:Sr 26 1:=aP (by kernel_rfl)
theorem bFm:Sr 27 1:=aP (by kernel_rfl)
theorem bFn:Sr 28 1:=aP (by kernel_rfl)
theorem st3:Sr 3 1:=aP (by kernel_rfl)
theorem bFo:Sr 30 6:=aP (by kernel_rfl)
theorem bFp:Sr 31 1:=aP (by kernel_rfl)
theorem bA5:Sr 346 2:=aP (by kernel_rfl)
theorem st4:Sr 4 1:=aP (by kernel_rfl)
theorem bFq:Sr 48 3:=aP (by kernel_rfl)
theorem st5:Sr 5 1:=aP (by kernel_rfl)
theorem bFr:Sr 52 3:=aP (by kernel_rfl)
theorem bFs:Sr 54 5:=aP (by kernel_rfl)
theorem bFt:Sr 55 1:=aP (by kernel_rfl)
theorem bFu:Sr 57 2:=aP (by kernel_rfl)
theorem bFv:Sr 59 15:=aP (by kernel_rfl)
theorem bFw:Sr 61 17:=aP (by kernel_rfl)
theorem bFx:Sr 80 1:=aP (by kernel_rfl)
theorem bFy:Sr 82 4:=aP (by kernel_rfl)
theorem bFz:Sr 84 12:=aP (by kernel_rfl)
theorem st9:Sr 9 1:=aP (by kernel_rfl)
theorem bG0:Sr 90 2:=aP (by kernel_rfl)
theorem bG1:Sr 99 23:=aP (by kernel_rfl)
end Go.Proofs.YtoaibmbldmckaaaGreat
end
section
namespace Go.AM
open Go.RowKit Go.Lib Go.Proofs Go.Shelf
theorem aBb {P:Program} {t:TypeId} (h:(P.info? t).isSome=true) (w:World):(Go.sizeOf t).run P w=.ok (sz P t) w:=by
 obtain ⟨i,hi⟩:=Option.isSome_iff_exists.1 h
 simp [sizeOf,typeInfo,hi,gQ hi]
theorem iY {P:Program} {t:TypeId} (h:(P.info? t).map (·.size)=some 1) (w:World):(Go.sizeOf t).run P w=.ok 1 w:=by
 cases hi:P.info? t with
 | none=>rw [hi] at h;cases h
 | some i=>rw [hi] at h;simp [sizeOf,typeInfo,hi] at h ⊢;exact h
theorem nG {P:Program} {f:FuncId} {T e I B:TypeId} {ov rr:FuncId} {fn fo:Func} (mixed:P.follows .mixedOrders=true) (hf:P.funcs[f]?=some fn) (hb:fn.body=some (vG T I B ov rr)) (hn:fn.ntmps=95) (hr:fn.results=#[.tmp 6])
  (tT:P.underlying T=some (.slice e)) (tI:P.underlying I=some (.int .i64)) (tB:P.underlying B=some .bool)
  (ho:P.funcs[ov]?=some fo) (o1:(fo.name == "runtime.NumGoroutine")=false) (o2:fo.body.isNone=true) (o3:Extern.findNext fo=none) (o4:Extern.find fo=some (Extern.SlicesOverlaps.overlaps #[T,T] #[B]))
  (zE:(P.info? e).isSome=true) (zT:(P.info? T).map (·.size)=some 1) (zI:(P.info? I).map (·.size)=some 1) (zB:(P.info? B).map (·.size)=some 1):InsAt P f T e I B ov rr fn:=
 ⟨mixed,hf,hb,hn,hr,tT,tI,tB,run_callFunc_extern ho o1 o2 o3 o4,aBb zE,iY zT,iY zI,iY zB⟩
theorem aSq {P:Program} {f:FuncId} {T e I B:TypeId} {fn:Func} (mixed:P.follows .mixedOrders=true) (hf:P.funcs[f]?=some fn) (hb:fn.body=some (zS T I B)) (hn:fn.ntmps=33) (hr:fn.results=#[.tmp 6])
  (tT:P.underlying T=some (.slice e)) (tI:P.underlying I=some (.int .i64)) (tB:P.underlying B=some .bool)
  (zE:(P.info? e).isSome=true) (zT:(P.info? T).map (·.size)=some 1) (zI:(P.info? I).map (·.size)=some 1) (zB:(P.info? B).map (·.size)=some 1):DelAt P f T e I B fn:=
 ⟨mixed,hf,hb,hn,hr,tT,tI,tB,aBb zE,iY zT,iY zI,iY zB⟩
end Go.AM
end
section
set_option linter.unusedSimpArgs false
set_option linter.unusedVariables false
namespace Go.AM
structure Lit where
 args:List V
 n:Nat
 blocks:List (Nat×Blk)
 v:V
 n':Nat
 blocks':List (Nat×Blk)
end Go.AM
namespace Go.AM
theorem aSr {fn:Func} (h:fn.body.isSome=true):fn.body=some (fn.body.get h):=(Option.some_get h).symm
end Go.AM
end
section
set_option linter.unusedSimpArgs false
set_option linter.unusedVariables false
namespace Go.AM
open Go.RowKit
theorem RelH.grow {F:Nat→Option Obj} {G:Gh} {S:St} {H H':Array Obj} (R:dZ F G S H) (hs:H.size≤H'.size) (old:∀ i,i<H.size→H'[i]?=H[i]?):dZ F G S H':=by
 have lt:∀ {i:Nat} {o:Obj},H[i]?=some o→i<H.size:=fun h=>(Array.getElem?_eq_some_iff.1 h).1
 constructor
 ·exact R.fresh
 ·exact R.sep
 ·intro a b hb
  have hold:=R.blk a b hb
  cases b with
  | row ver' es' elems'=>
   obtain ⟨K,hK,r1,r2,r3,c',ty',fr',hc',r⟩:=hold
   exact ⟨K,hK,r1,r2,r3,c',ty',fr',by rw [old _ (lt hc')];exact hc',r⟩
  | mp kvs=>
   obtain ⟨i,es',clock,hi,hH',r⟩:=hold
   exact ⟨i,es',clock,hi,by rw [old _ (lt hH')];exact hH',r⟩
  | iter s pos=>
   obtain ⟨K,hK,r1,r2,hH'⟩:=hold
   exact ⟨K,hK,r1,r2,by rw [old _ (lt hH')];exact hH'⟩
 ·exact R.inj
 ·intro i o h
  have:=R.fr i o h
  rw [old i (lt this)];exact this
 ·intro i o h
  have:=R.pr i o h
  rw [old i (lt this)];exact this
 ·exact R.own
 ·intro a i h
  have:=R.lt a i h
  omega
 ·exact R.small
theorem aOm {P:Program} {f:FuncId} {fn:Func} (hf:P.funcs[f]?=some fn) (hn:(fn.name == "runtime.NumGoroutine")=false) (hb:fn.body.isSome=true)
  (h:∀ W,Calls P f #[] W fun e W'=>e=.returned (.bool true)∧Below W.heap.size W W'):SpecOK P f (Sp.told.run P):=by
 refine ⟨⟨fn,_,hf,hn,aSr hb⟩,fun {args S S' v} hr=>?_⟩
 intro F G W cs R hvs
 match args,hr with
 | [],hr=>
  cases hr
  cases hvs
  refine (h W).mono ?_
  rintro e W' ⟨rfl,hw⟩
  have hw':=hw
  obtain ⟨w1,w2,w3,w4,w5⟩:=hw
  have old:∀ i,i<W.heap.size→W'.heap[i]?=W.heap[i]?:=w5
  exact ⟨G,.bool true,rfl,⟨G.le_refl,R.grow w4 old,⟨w1,w2,w3,w4⟩,Nat.le_refl _,fun _ _ _ _=>⟨rfl,rfl⟩,fun _ h _ _=>h,fun _ _ h=>.inl h⟩,.bool true⟩
end Go.AM
namespace Go.AM
open Go.RowKit
end Go.AM
end
section
namespace Go.Proofs.YtoaibmbldmckaaaGreat
open Go.RowKit Go.AM Tryz
theorem bA6:SpecOK prog 202 ((Sp.ins 68).run prog):=
 gV (e:=76) (I:=3) (B:=4) (ov:=247) (rr:=248) (fn:=Tryz.f202) (nG (fo:=Tryz.f247) (by kernel_rfl) (by kernel_rfl) (by kernel_rfl) (by kernel_rfl) (by kernel_rfl)
  (by kernel_rfl) (by kernel_rfl) (by kernel_rfl) (by kernel_rfl) (by kernel_rfl) (by kernel_rfl) (by kernel_rfl) (by kernel_rfl) (by kernel_rfl) (by kernel_rfl) (by kernel_rfl) (by kernel_rfl)) (by kernel_rfl)
theorem bA7:SpecOK prog 221 ((Sp.ins 27).run prog):=
 gV (e:=90) (I:=3) (B:=4) (ov:=256) (rr:=257) (fn:=Tryz.f221) (nG (fo:=Tryz.f256) (by kernel_rfl) (by kernel_rfl) (by kernel_rfl) (by kernel_rfl) (by kernel_rfl)
  (by kernel_rfl) (by kernel_rfl) (by kernel_rfl) (by kernel_rfl) (by kernel_rfl) (by kernel_rfl) (by kernel_rfl) (by kernel_rfl) (by kernel_rfl) (by kernel_rfl) (by kernel_rfl) (by kernel_rfl)) (by kernel_rfl)
theorem bA8:SpecOK prog 230 ((Sp.ins 28).run prog):=
 gV (e:=132) (I:=3) (B:=4) (ov:=261) (rr:=262) (fn:=Tryz.f230) (nG (fo:=Tryz.f261) (by kernel_rfl) (by kernel_rfl) (by kernel_rfl) (by kernel_rfl) (by kernel_rfl)
  (by kernel_rfl) (by kernel_rfl) (by kernel_rfl) (by kernel_rfl) (by kernel_rfl) (by kernel_rfl) (by kernel_rfl) (by kernel_rfl) (by kernel_rfl) (by kernel_rfl) (by kernel_rfl) (by kernel_rfl)) (by kernel_rfl)
theorem bA9:SpecOK prog 234 ((Sp.ins 25).run prog):=
 gV (e:=126) (I:=3) (B:=4) (ov:=264) (rr:=265) (fn:=Tryz.f234) (nG (fo:=Tryz.f264) (by kernel_rfl) (by kernel_rfl) (by kernel_rfl) (by kernel_rfl) (by kernel_rfl)
  (by kernel_rfl) (by kernel_rfl) (by kernel_rfl) (by kernel_rfl) (by kernel_rfl) (by kernel_rfl) (by kernel_rfl) (by kernel_rfl) (by kernel_rfl) (by kernel_rfl) (by kernel_rfl) (by kernel_rfl)) (by kernel_rfl)
theorem bAa:SpecOK prog 237 ((Sp.ins 24).run prog):=
 gV (e:=54) (I:=3) (B:=4) (ov:=266) (rr:=267) (fn:=Tryz.f237) (nG (fo:=Tryz.f266) (by kernel_rfl) (by kernel_rfl) (by kernel_rfl) (by kernel_rfl) (by kernel_rfl)
  (by kernel_rfl) (by kernel_rfl) (by kernel_rfl) (by kernel_rfl) (by kernel_rfl) (by kernel_rfl) (by kernel_rfl) (by kernel_rfl) (by kernel_rfl) (by kernel_rfl) (by kernel_rfl) (by kernel_rfl)) (by kernel_rfl)
theorem bAb:SpecOK prog 280 ((Sp.ins 80).run prog):=
 gV (e:=145) (I:=3) (B:=4) (ov:=288) (rr:=289) (fn:=Tryz.f280) (nG (fo:=Tryz.f288) (by kernel_rfl) (by kernel_rfl) (by kernel_rfl) (by kernel_rfl) (by kernel_rfl)
  (by kernel_rfl) (by kernel_rfl) (by kernel_rfl) (by kernel_rfl) (by kernel_rfl) (by kernel_rfl) (by kernel_rfl) (by kernel_rfl) (by kernel_rfl) (by kernel_rfl) (by kernel_rfl) (by kernel_rfl)) (by kernel_rfl)
theorem bAc:SpecOK prog 240 ((Sp.del 28).run prog):=
 aH4 (e:=132) (I:=3) (B:=4) (fn:=Tryz.f240) (aSq (by kernel_rfl) (by kernel_rfl) (by kernel_rfl) (by kernel_rfl) (by kernel_rfl)
  (by kernel_rfl) (by kernel_rfl) (by kernel_rfl) (by kernel_rfl) (by kernel_rfl) (by kernel_rfl) (by kernel_rfl)) (by kernel_rfl)
theorem gH {P:Program} {a b:gC} (h:fK P a=true) (k:fK P b=true):fK P (a++b)=true:=by unfold fK at *;rw [List.all_append,h,k];rfl
def bG2:aD6:=[(202,.ins 68),(221,.ins 27),(230,.ins 28),(234,.ins 25),(237,.ins 24),(280,.ins 80),(240,.del 28)]
theorem aVq:SpAll prog bG2:=⟨bA6,bA7,bA8,bA9,bAa,bAb,bAc,trivial⟩
theorem aSs:aVe=aQq++(aQr++(aQs++(aQt++(aQu++(aQv++(aQw++(aQx++(aQy++(aQz++(aL9++(aLa++(aLb++(aLc++(aLd++(aLe++(aLf)))))))))))))))):=rfl
theorem aMm:fK prog aVe=true:=by
 rw [aSs]
 exact gH aOc (gH aOd (gH aOe (gH aOf (gH aOg (gH aOh (gH aOi (gH aOj (gH aOk (gH aOl (gH aJm (gH aJn (gH aJo (gH aJp (gH aJq (gH aJr (aJs))))))))))))))))
theorem aSt:aAg (dY prog (oK prog bG2 aVe) 1000 25 [] St.empty)=true:=by kernel_rfl
theorem bKh:SpecOK prog 25 (Sp.told.run prog):=aOm Tryz.func25 (by kernel_rfl) (by kernel_rfl) fun W=>aJ4 (aAx (by kernel_rfl) aVq aMm) aSt W
theorem bB6:SpAll prog dSp:=⟨bA6,bA7,bA8,bA9,bAa,bAb,bAc,bKh,trivial⟩
theorem aOn:PlansOK prog tV:=aAx (by kernel_rfl) bB6 aMm
end Go.Proofs.YtoaibmbldmckaaaGreat
end
section
namespace Go.Proofs.YtoaibmbldmckaaaGreat
open Go.AM Tryz
def aK2 (y:Int):Bool:=if y.tmod 4=0 then (if y.tmod 100=0 then decide (y.tmod 400=0) else true) else false
def eY (y m:Int):Int:=if m=2 then (if aK2 y=true then 29 else 28) else if m=4∨m=6∨m=9∨m=11 then 30 else 31
structure Date where
 y:Int
 m:Int
 d:Int
deriving DecidableEq
def Date.enc (d:Date):List V:=[.int .i64 d.y,.int .i64 d.m,.int .i64 d.d]
def Date.right (d:Date):Bool:=decide (1≤d.y)&&(decide (d.y≤9999)&&(decide (1≤d.m)&&(decide (d.m≤12)&&(decide (1≤d.d)&&decide (d.d≤eY d.y d.m)))))
def ahead (y:Int):Int:=
 wr .i64 (wr .i64 (wr .i64 (wr .i64 (365*wr .i64 (y - 1))+wr .i64 ((wr .i64 (y - 1)).tdiv 4)) - wr .i64 ((wr .i64 (y - 1)).tdiv 100))+wr .i64 ((wr .i64 (y - 1)).tdiv 400))
def lE (y:Int) (n:Int) (i:Nat):Int⊕Int:=.inr (wr .i64 (n+eY y ((i:Int)+1)))
def Date.days (d:Date):Int:=if d.right=true then wr .i64 (wr .i64 (aC (lE d.y) id (List.range (d.m - 1).toNat) (ahead d.y)+d.d) - 1) else -1
def Date.before (a b:Date):Bool:=a.right&&(b.right&&decide (a.days<b.days))
def cZ (a b:Int):Int×Int:=
 if (0<b∧wr .i64 (9223372036854775807 - b)<a)∨(b<0∧a<wr .i64 (-9223372036854775808 - b)) then (0,7) else (wr .i64 (a+b),0)
def iZ (a b:Int):Int×Int:=
 if (b<0∧wr .i64 (9223372036854775807+b)<a)∨(0<b∧a<wr .i64 (-9223372036854775808+b)) then (0,7) else (wr .i64 (a - b),0)
def fN (r:Int×Int):V:=.tup [.int .i64 r.1,.int .i64 r.2]
def aCp (n:Int):Int:=wr .u64 ((BitVec.ofInt IntKind.u64.bits (if IntKind.u64.signed then -1 else IntKind.u64.max) ^^^ BitVec.ofInt IntKind.u64.bits n).toNat)
def nH (n:Int):Int:=if n<0 then wr .u64 (aCp (wr .u64 n)+1) else wr .u64 n
def aA4 (n:Int) (neg:Bool):Int×Bool:=
 if neg=true then (wr .i64 (wr .u64 (aCp n+1)),decide (n≤9223372036854775808)) else (wr .i64 n,decide (n≤9223372036854775807))
def aK3 (a b:Int):Int×Int:=
 if 0<nH b∧wr .u64 ((9223372036854775808:Int).tdiv (nH b))<nH a then (0,7) else
  let r:=aA4 (wr .u64 (nH a*nH b)) (!(decide (a<0) == decide (b<0)))
  if r.2=true then (r.1,0) else (0,7)
def bH (n bp:Int):Int×Int:=
 if bp<0∨100000<bp then (0,1) else
  let u:=nH n
  let p:=wr .u64 bp
  let many:=wr .u64 (u.tdiv 10000)
  let rest:=u.tmod 10000
  if 0<p∧wr .u64 ((9223372036854775807:Int).tdiv p)<many then (0,7) else
   let out:=wr .u64 (wr .u64 (many*p)+wr .u64 ((wr .u64 (wr .u64 (wr .u64 (2*rest)*p)+10000)).tdiv (wr .u64 (2*10000))))
   if 9223372036854775807<out then (0,7) else if n<0 then (wr .i64 (0 - wr .i64 out),0) else (wr .i64 out,0)
theorem aBc:wr .u64 (2*10000)=20000:=by decide
theorem bB7:wr .u64 10000=10000:=by decide
def vW (r:Int):Bool:=
 if (97≤r∧r≤122)∨(65≤r∧r≤90) then true else if r=215 then false else if r=247 then false else decide (192≤r)&&decide (r≤591)
def mG (s:List UInt8):Nat→Nat→List (Nat×Nat)
 | 0,_=>[]
 | f+1,pos=>if pos<s.length then (pos,(Utf8.decode ⟨⟨s⟩⟩ pos).1)::mG s f (pos+(Utf8.decode ⟨⟨s⟩⟩ pos).2) else []
theorem aHk (s:ByteArray) (i:Nat):1≤(Utf8.decode s i).2:=by
 unfold Utf8.decode
 simp only
 repeat' split
 all_goals simp
def vX (_:Unit) (x:Nat×Nat):Bool⊕Unit:=
 if vW x.2=true then .inr () else if x.1=0 then .inl false else if (48≤x.2∧x.2≤57)∨x.2=45∨x.2=95∨x.2=46 then .inr () else .inl false
def dA (s:List UInt8):Bool:=if s.length<1 then false else if 24<s.length then false else aC vX (fun _=>true) (mG s s.length 0) ()
structure Rate where
 cat:List UInt8
 day:Date
 bp:Int
deriving DecidableEq
def Rate.enc (r:Rate):List V:=[.str r.cat,.int .i64 r.day.y,.int .i64 r.day.m,.int .i64 r.day.d,.int .i64 r.bp]
def tW (r:Rate):Int:=if dA r.cat=false then 8 else if r.day.right=false then 9 else if r.bp<0 then 10 else if 100000<r.bp then 10 else 0
def eT (a b:Rate):Bool:=if eV a.cat b.cat=true then true else if (a.cat == b.cat)=true then a.day.before b.day else false
def gW (prev:Option Rate) (r:Rate):Bool⊕Option Rate:=
 if tW r≠0 then .inl false else match prev with
  | none=>.inr (some r)
  | some p=>if eT p r=true then .inr (some r) else .inl false
def fC (l:List Rate):Bool:=if 24<l.length then false else aC gW (fun _=>true) l none
def fD {α:Type} (l:List α) (i:Nat):Option α:=if i=0 then none else l[i - 1]?
structure Rep where
 why:Int
 number:Int
 gross:Int
deriving DecidableEq
structure Sess where
 id:Int
 last:Int
 reply:Rep
deriving DecidableEq
def Rep.enc (r:Rep):List V:=[.int .i64 r.why,.int .i64 r.number,.int .i64 r.gross]
def Sess.enc (s:Sess):List V:=[.int .i64 s.id,.int .i64 s.last,.int .i64 s.reply.why,.int .i64 s.reply.number,.int .i64 s.reply.gross]
def Rep.zero:Rep:=⟨0,0,0⟩
def iH (last:Int) (s:Sess):Bool⊕Int:=
 if s.id≤last then .inl false else if s.last<0 then .inl false else if 1099511627776<s.last then .inl false else if s.last=0∧s.reply≠Rep.zero then .inl false else .inr s.id
def fF (l:List Sess):Bool:=if 8<l.length then false else aC iH (fun _=>true) l 0
def dU {α:Type} (p:α→Bool) (n:Nat) (a:α):Int⊕Nat:=if p a=true then .inl (n:Int) else .inr (n+1)
def ixM {α:Type} (p:α→Bool) (l:List α):Int:=aC (dU p) (fun _=>-1) l 0
theorem aDu {α:Type} (p:α→Bool):∀ (l:List α) (n:Nat),(aC (dU p) (fun _=>-1) l n=-1)∨∃ (i:Nat) (a:α),aC (dU p) (fun _=>-1) l n=((n+i:Nat):Int)∧l[i]?=some a∧p a=true
 | [],n=>.inl rfl
 | a::l,n=>by
  by_cases h:p a=true
  ·refine .inr ⟨0,a,?_,rfl,h⟩
   simp [aC,dU,h]
  ·rcases aDu p l (n+1) with h1 | ⟨i,b,h1,h2,h3⟩
   ·left;simp [aC,dU,h,h1]
   ·right
    refine ⟨i+1,b,?_,by simpa using h2,h3⟩
    simp only [aC,dU,h,if_false]
    simp only [h1,Bool.false_eq_true,if_false]
    omega
theorem jA {α:Type} (p:α→Bool) (l:List α):(ixM p l=-1)∨∃ (i:Nat) (a:α),ixM p l=(i:Int)∧l[i]?=some a∧p a=true:=by
 rcases aDu p l 0 with h | ⟨i,a,h1,h2,h3⟩
 ·exact .inl h
 ·exact .inr ⟨i,a,by rw [ixM,h1];simp,h2,h3⟩
def fO (l:List Sess) (id:Int):Int:=ixM (fun s:Sess=>decide (s.id=id)) l
def bT (l:List Sess) (id seq:Int):Rep×Bool×Int:=
 if fF l=false then (Rep.zero,false,1) else if fO l id<0 then (Rep.zero,false,15) else if seq<1∨1099511627776<seq then (Rep.zero,false,1) else
  match l[(fO l id).toNat]? with
  | none=>(Rep.zero,false,1)
  | some s=>if seq=s.last then (s.reply,true,0) else if seq<s.last then (Rep.zero,false,16) else (Rep.zero,false,0)
theorem lF {l:List Sess} (h:fF l=true):l.length≤8:=by
 unfold fF at h
 split at h
 ·cases h
 ·omega
theorem iI (l:List Sess) (id:Int):fO l id=-1∨∃ (i:Nat) (s:Sess),fO l id=(i:Int)∧l[i]?=some s∧s.id=id:=by
 rcases jA (fun s:Sess=>decide (s.id=id)) l with h | ⟨i,s,h1,h2,h3⟩
 ·exact .inl h
 ·exact .inr ⟨i,s,h1,h2,of_decide_eq_true h3⟩
def eU {α:Type} (p:α→Bool) (n:Nat) (a:α):Nat⊕Nat:=if p a=true then .inr (n+1) else .inl n
def lR {α:Type} (p:α→Bool) (l:List α):Nat:=aC (eU p) id l 0
theorem aDv {α:Type} (p:α→Bool):∀ (l:List α) (n:Nat),aC (eU p) id l n≤n+l.length
 | [],n=>by simp [aC]
 | a::l,n=>by
  have ih:=aDv p l (n+1)
  by_cases h:p a=true
  ·simp only [aC,eU,h,if_true,List.length_cons];omega
  ·simp only [aC,eU,h,if_false,List.length_cons,Bool.false_eq_true];omega
theorem aA5 {α:Type} (p:α→Bool) (l:List α):lR p l≤l.length:=by have:=aDv p l 0;simp only [lR];omega
def eN {α:Type} (l:List α) (i:Nat) (a:α):List α:=l.take i++a::l.drop i
theorem nI {α β:Type} (f:α→β) (l:List α) (i:Nat) (a:α):(eN l i a).map f=(l.map f).take i++f a::(l.map f).drop i:=by simp [eN,List.map_take,List.map_drop]
def kM (l:List Sess) (id:Int):List Sess×Int:=
 if fF l=false∨id<1 then ([],1) else if 0≤fO l id then ([],12) else if 8≤l.length then ([],14) else (eN l (lR (fun s=>decide (s.id<id)) l) ⟨id,0,Rep.zero⟩,0)
def tX {α:Type} (l:List α) (i:Nat):List α:=l.take i++l.drop (i+1)
theorem aK4 {α β:Type} (f:α→β) (l:List α) (i:Nat):(tX l i).map f=(l.map f).take i++(l.map f).drop (i+1):=by simp [tX,List.map_take,List.map_drop]
def fE (l:List Sess) (id:Int):List Sess×Int:=
 if fF l=false then ([],1) else if fO l id<0 then ([],11) else (tX l (fO l id).toNat,0)
def iS (l:List Sess) (id seq:Int) (r:Rep):List Sess×Int:=
 if (bT l id seq).2.2≠0 then ([],(bT l id seq).2.2) else if (bT l id seq).2.1=true then ([],12) else
  match l[(fO l id).toNat]? with
  | none=>([],0)
  | some s=>(l.set (fO l id).toNat ⟨s.id,seq,r⟩,0)
theorem aBd {l:List Sess} {id seq:Int} (h:(bT l id seq).2.2=0):fF l=true∧∃ (i:Nat) (s:Sess),fO l id=(i:Int)∧l[i]?=some s:=by
 unfold bT at h
 split at h
 ·cases h
 ·rename_i hr
  have hr:fF l=true:=by simpa using hr
  split at h
  ·cases h
  ·rcases iI l id with h' | ⟨i,s,h1,h2,_⟩
   ·omega
   ·exact ⟨hr,i,s,h1,h2⟩
structure Ser where
 name:List UInt8
 next:Int
 limit:Int
 shut:Bool
deriving DecidableEq
def Ser.enc (s:Ser):List V:=[.str s.name,.int .i64 s.next,.int .i64 s.limit,.bool s.shut]
def eO (l:List Ser) (name:List UInt8):Int:=ixM (fun s:Ser=>s.name == name) l
theorem jW (l:List Ser) (name:List UInt8):eO l name=-1∨∃ (i:Nat) (s:Ser),eO l name=(i:Int)∧l[i]?=some s∧s.name=name:=by
 rcases jA (fun s:Ser=>s.name == name) l with h | ⟨i,s,h1,h2,h3⟩
 ·exact .inl h
 ·exact .inr ⟨i,s,h1,h2,by simpa using h3⟩
def oU (s:Ser):Bool:=decide (s.limit<1)||(decide (1099511627776<s.limit)||(decide (s.next<1)||decide (wr .i64 (s.limit+1)<s.next)))
def nJ (prev:Option Ser) (s:Ser):Bool:=match prev with
 | none=>false
 | some p=>!eV p.name s.name
def mH (prev:Option Ser) (s:Ser):Bool⊕Option Ser:=
 if dA s.name=false then .inl false else if nJ prev s=true then .inl false else if oU s=true then .inl false else .inr (some s)
def lY (l:List Ser):Bool:=if 8<l.length then false else aC mH (fun _=>true) l none
theorem nK {l:List Ser} (h:lY l=true):l.length≤8:=by
 unfold lY at h
 split at h
 ·cases h
 ·omega
def gJ (l:List Ser) (name:List UInt8):Int×Int:=
 if lY l=false then (0,1) else if eO l name<0 then (0,11) else match l[(eO l name).toNat]? with
  | none=>(0,1)
  | some s=>if s.shut=true then (0,13) else (eO l name,0)
theorem vY {l:List Ser} {name:List UInt8} (h:(gJ l name).2=0):lY l=true∧∃ (i:Nat) (s:Ser),gJ l name=((i:Int),0)∧eO l name=(i:Int)∧l[i]?=some s∧s.name=name∧s.shut=false:=by
 unfold gJ at h
 split at h
 ·cases h
 ·rename_i hr
  have hr:lY l=true:=by simpa using hr
  split at h
  ·cases h
  ·rename_i h11
   rcases jW l name with h' | ⟨i,s,h1,h2,h3⟩
   ·omega
   ·rw [h1] at h
    simp only [Int.toNat_natCast,h2] at h
    split at h
    ·cases h
    ·rename_i hsh
     refine ⟨hr,i,s,?_,h1,h2,h3,by simpa using hsh⟩
     unfold gJ
     rw [if_neg (by rw [hr];simp),if_neg h11,h1]
     simp only [Int.toNat_natCast,h2,if_neg hsh]
def nL (l:List Ser) (name:List UInt8):List Ser×Int:=
 if (gJ l name).2≠0 then ([],(gJ l name).2) else match l[(gJ l name).1.toNat]? with
  | none=>([],0)
  | some s=>(l.set (gJ l name).1.toNat { s with shut:=true },0)
def cA (l:List Ser) (name:List UInt8):List Ser×Int×Int:=
 if (gJ l name).2≠0 then ([],0,(gJ l name).2) else match l[(gJ l name).1.toNat]? with
  | none=>([],0,0)
  | some s=>if s.limit<s.next then ([],0,14) else (l.set (gJ l name).1.toNat { s with next:=wr .i64 (s.next+1) },s.next,0)
def eA (l:List Ser) (name:List UInt8) (limit:Int):List Ser×Int:=
 if lY l=false then ([],1) else if dA name=false then ([],8) else if limit<1∨1099511627776<limit then ([],1) else if 0≤eO l name then ([],12) else if 8≤l.length then ([],14) else
  (eN l (lR (fun s=>eV s.name name) l) ⟨name,1,limit,false⟩,0)
def Ser.zero:Ser:=⟨[],0,0,false⟩
def jG (l:List Ser) (name:List UInt8):Ser×Bool:=match (if eO l name<0 then none else l[(eO l name).toNat]?) with
 | none=>(Ser.zero,false)
 | some s=>(s,true)
def iJ (cat:List UInt8) (d:Date) (st:Int×Bool) (r:Rate):(Int×Bool)⊕(Int×Bool):=.inr (if (r.cat == cat)=true∧d.before r.day=false then (r.bp,true) else st)
def gK (l:List Rate) (cat:List UInt8) (d:Date):Int×Bool:=if fC l=false then (0,false) else if d.right=false then (0,false) else aC (iJ cat d) id l (0,false)
theorem tY {l:List Rate} (h:fC l=true):l.length≤24:=by
 unfold fC at h
 split at h
 ·cases h
 ·omega
def jH (r:Rate) (k:Nat) (x:Rate):Option Nat⊕Nat:=
 if (x.cat == r.cat)=true∧x.day=r.day then .inl none else .inr (if eT x r=true then k+1 else k)
def fW (l:List Rate) (r:Rate):List Rate×Int:=
 if fC l=false then ([],1) else if tW r≠0 then ([],tW r) else match aC (jH r) some l 0 with
  | none=>([],12)
  | some k=>if 24≤l.length then ([],2) else (eN l k r,0)
structure Bal where
 acc:List UInt8
 amount:Int
deriving DecidableEq
def Bal.enc (b:Bal):List V:=[.str b.acc,.int .i64 b.amount]
structure Part where
 cat:List UInt8
 bp:Int
 net:Int
 tax:Int
deriving DecidableEq
def Part.enc (p:Part):List V:=[.str p.cat,.int .i64 p.bp,.int .i64 p.net,.int .i64 p.tax]
structure Total where
 net:Int
 tax:Int
 gross:Int
 parts:List Part
deriving DecidableEq
def aBe (prev:Option Bal) (b:Bal):Bool⊕Option Bal:=match prev with
 | none=>.inl false
 | some p=>if eV p.acc b.acc=true then .inr (some b) else .inl false
def aDw (l:List Bal):Bool:=aC aBe (fun _=>true) (l.drop 1) l[0]?
def aOo:List UInt8:=[110,101,116,47]
def aOp:List UInt8:=[116,97,120,47]
def jJ (l:List Bal) (p:Part):(List Bal×Int)⊕List Bal:=
 if (iZ 0 p.net).2≠0 then .inl ([],7) else if (iZ 0 p.tax).2≠0 then .inl ([],7) else .inr (l++[⟨aOo++p.cat,(iZ 0 p.net).1⟩,⟨aOp++p.cat,(iZ 0 p.tax).1⟩])
def cY (t:Total):List Bal×Int:=aC jJ (fun l=>(l,0)) t.parts [⟨[111,119,101,100],t.gross⟩]
theorem aHm:∀ (l:List Part) (a:List Bal) (r:List Bal×Int),aC jJ (fun l=>(l,0)) l a=r→r.2=0→r.1.length=a.length+2*l.length
 | [],a,r,h,_=>by subst h;simp [aC]
 | p::l,a,r,h,h0=>by
  simp only [aC,jJ] at h
  split at h
  ·rename_i r' he
   split at he
   ·cases he;subst h;cases h0
   ·split at he
    ·cases he;subst h;cases h0
    ·cases he
  ·rename_i s' he
   split at he
   ·cases he
   ·split at he
    ·cases he
    ·cases he
     have:=aHm l _ r h h0
     simp only [List.length_append,List.length_cons,List.length_nil] at this ⊢
     omega
theorem aDx {α:Type} (l:List α) (i:Nat) (a:α) (h:i≤l.length):(eN l i a)[i]?=some a:=by
 unfold eN
 rw [List.getElem?_append_right (by rw [List.length_take];omega),List.length_take,Nat.min_eq_left h,Nat.sub_self]
 rfl
theorem aDy {α:Type} (l:List α) (i:Nat) (a:α) (h:i≤l.length):(eN l i a).length=l.length+1:=by
 simp only [eN,List.length_append,List.length_take,List.length_cons,List.length_drop];omega
def bL (l:List Bal) (acc:List UInt8):Nat:=lR (fun b=>eV b.acc acc) l
def mI (l:List Bal) (acc:List UInt8):Bool:=match l[bL l acc]? with
 | none=>true
 | some b=>!(b.acc == acc)
def cM (l:List Bal) (acc:List UInt8):List Bal:=if mI l acc=true then eN l (bL l acc) ⟨acc,0⟩ else l
def bW (l:List Bal) (x:Bal):(List Bal×Int)⊕List Bal:=match (cM l x.acc)[bL l x.acc]? with
 | none=>.inl ([],0)
 | some b=>if (cZ b.amount x.amount).2≠0 then .inl ([],(cZ b.amount x.amount).2) else .inr ((cM l x.acc).set (bL l x.acc) ⟨b.acc,(cZ b.amount x.amount).1⟩)
def bU (book l:List Bal):List Bal×Int:=if aDw book=false then ([],1) else aC bW (fun l=>(l,0)) l book
theorem rC (l:List Bal) (acc:List UInt8):bL l acc≤l.length:=aA5 _ _
theorem mJ (l:List Bal) (acc:List UInt8):∃ b,(cM l acc)[bL l acc]?=some b:=by
 unfold cM
 split
 ·exact ⟨_,aDx _ _ _ (rC l acc)⟩
 ·rename_i h
  unfold mI at h
  split at h
  ·exact absurd rfl h
  ·rename_i b hb;exact ⟨b,hb⟩
theorem yO (l:List Bal) (acc:List UInt8):(cM l acc).length≤l.length+1:=by
 unfold cM
 split
 ·rw [aDy _ _ _ (rC l acc)];exact Nat.le_refl _
 ·omega
theorem oV (l:List Bal) (x:Bal):bW l x=if (cZ ((cM l x.acc)[bL l x.acc]?.map (·.amount) |>.getD 0) x.amount).2≠0 then .inl ([],(cZ ((cM l x.acc)[bL l x.acc]?.map (·.amount) |>.getD 0) x.amount).2)
  else .inr ((cM l x.acc).set (bL l x.acc) ⟨((cM l x.acc)[bL l x.acc]?.map (·.acc) |>.getD []),(cZ ((cM l x.acc)[bL l x.acc]?.map (·.amount) |>.getD 0) x.amount).1⟩):=by
 obtain ⟨b,hb⟩:=mJ l x.acc
 unfold bW
 simp only [hb,Option.map_some,Option.getD_some]
theorem aCq {l l':List Bal} {x:Bal} (h:bW l x=.inr l'):l'.length≤l.length+1:=by
 rw [oV] at h
 split at h
 ·cases h
 ·cases h
  rw [List.length_set]
  exact yO l x.acc
theorem aBf:∀ (l:List Bal) (a:List Bal) (r:List Bal×Int),aC bW (fun l=>(l,0)) l a=r→r.1.length≤a.length+l.length
 | [],a,r,h=>by subst h;simp [aC]
 | x::l,a,r,h=>by
  simp only [aC] at h
  split at h
  ·rename_i r' he
   subst h
   rw [oV] at he
   split at he
   ·cases he;simp
   ·cases he
  ·rename_i s' he
   have h1:=aCq he
   have:=aBf l _ r h
   simp only [List.length_cons]
   omega
def dF (n:Int):List V:=[.int .i64 n]
theorem aOq (n:Int):0≤wr .u64 n∧wr .u64 n<18446744073709551616:=by
 unfold wr lo hi
 simp only
 split
 ·omega
 ·show 0≤n % 18446744073709551616∧n % 18446744073709551616<18446744073709551616
  omega
theorem bG3:aCp 0=18446744073709551615:=by decide
def sC (st:Int×Int) (n:Int):(Int×Bool)⊕(Int×Int):=
 .inr ((st.1+(if n<0 then 18446744073709551615 else 0)+(st.2+wr .u64 n+0) / 18446744073709551616) % 18446744073709551616,(st.2+wr .u64 n+0) % 18446744073709551616)
def rE (st:Int×Int):Int×Bool:=(wr .i64 st.2,if st.2.fdiv (2 ^ 63)=0 then decide (st.1=0) else decide (st.1=18446744073709551615))
def cS (l:List Int):Int×Bool:=aC sC rE l (0,0)
structure Line where
 text:List UInt8
 cat:List UInt8
 count:Int
 price:Int
deriving DecidableEq
def Line.enc (l:Line):List V:=[.str l.text,.str l.cat,.int .i64 l.count,.int .i64 l.price]
def eI (tab:List Rate) (d:Date) (l:Line):Int×Int×Int:=
 if 64<l.text.length then (0,0,2) else if dA l.cat=false then (0,0,8) else if l.count<1∨1048576<l.count then (0,0,1) else
  if (gK tab l.cat d).2=false then (0,0,10) else ((gK tab l.cat d).1,(aK3 l.count l.price).1,(aK3 l.count l.price).2)
def aSu (r:Int×Int×Int):V:=.tup [.int .i64 r.1,.int .i64 r.2.1,.int .i64 r.2.2]
def bD (l:List Part) (cat:List UInt8):Nat:=lR (fun p=>eV p.cat cat) l
def iK (l:List Part) (cat:List UInt8):Bool:=match l[bD l cat]? with
 | none=>true
 | some b=>!(b.cat == cat)
def cN (l:List Part) (cat:List UInt8) (bp:Int):List Part:=if iK l cat=true then eN l (bD l cat) ⟨cat,bp,0,0⟩ else l
def pS (l:List Part) (cat:List UInt8) (bp n:Int):List Part×Int:=match (cN l cat bp)[bD l cat]? with
 | none=>([],0)
 | some p=>((cN l cat bp).set (bD l cat) { p with net:=(cZ p.net n).1 },(cZ p.net n).2)
theorem oW (l:List Part) (cat:List UInt8):bD l cat≤l.length:=aA5 _ _
theorem oX (l:List Part) (cat:List UInt8) (bp:Int):∃ b,(cN l cat bp)[bD l cat]?=some b:=by
 unfold cN
 split
 ·exact ⟨_,aDx _ _ _ (oW l cat)⟩
 ·rename_i h
  unfold iK at h
  split at h
  ·exact absurd rfl h
  ·rename_i b hb;exact ⟨b,hb⟩
theorem aFw (l:List Part) (cat:List UInt8) (bp:Int):(cN l cat bp).length≤l.length+1:=by
 unfold cN
 split
 ·rw [aDy _ _ _ (oW l cat)];exact Nat.le_refl _
 ·omega
theorem aHn (l:List Part) (cat:List UInt8) (bp n:Int):(pS l cat bp n).1.length≤l.length+1:=by
 obtain ⟨b,hb⟩:=oX l cat bp
 unfold pS
 rw [hb]
 simp only [List.length_set]
 exact aFw l cat bp
def Total.zero:Total:=⟨0,0,0,[]⟩
def fB (st:Int×Int×List Part) (p:Part):(Total×Int)⊕(Int×Int×List Part):=
 if (bH p.net p.bp).2≠0∨(cZ st.1 p.net).2≠0∨(cZ st.2.1 (bH p.net p.bp).1).2≠0 then .inl (Total.zero,7) else
  .inr ((cZ st.1 p.net).1,(cZ st.2.1 (bH p.net p.bp).1).1,st.2.2++[{ p with tax:=(bH p.net p.bp).1 }])
def jX (st:Int×Int×List Part):Total×Int:=
 if (cZ st.1 st.2.1).2≠0 then (Total.zero,(cZ st.1 st.2.1).2) else (⟨st.1,st.2.1,(cZ st.1 st.2.1).1,st.2.2⟩,0)
def dV (l:List Part):Total×Int:=aC fB jX l (0,0,[])
def gN (tab:List Rate) (d:Date) (parts:List Part) (l:Line):(Total×Int)⊕List Part:=
 if (eI tab d l).2.2≠0 then .inl (Total.zero,(eI tab d l).2.2) else
  if (pS parts l.cat (eI tab d l).1 (eI tab d l).2.1).2≠0 then .inl (Total.zero,(pS parts l.cat (eI tab d l).1 (eI tab d l).2.1).2) else
   .inr (pS parts l.cat (eI tab d l).1 (eI tab d l).2.1).1
def cK (tab:List Rate) (d:Date) (lines:List Line):Total×Int:=
 if fC tab=false then (Total.zero,1) else if d.right=false then (Total.zero,9) else if lines.length=0 then (Total.zero,1) else if 12<lines.length then (Total.zero,2) else
  aC (gN tab d) dV lines []
def nM (n:Int):V:=.int .i64 n
def sD (done:List Int) (x:Int):(List Int×Int)⊕List Int:=if (iZ 0 x).2≠0 then .inl ([],(iZ 0 x).2) else .inr (done++[(iZ 0 x).1])
def fX (l:List Int):List Int×Int:=aC sD (fun l=>(l,0)) l []
def dB (acc:List Part) (p:Part):(List Part×Int)⊕List Part:=
 if (fX [p.net,p.tax]).2≠0 then .inl ([],(fX [p.net,p.tax]).2) else .inr (acc++[{ p with net:=(fX [p.net,p.tax]).1.getD 0 0,tax:=(fX [p.net,p.tax]).1.getD 1 0 }])
def bE (t:Total):Total×Int:=
 if (fX [t.net,t.tax,t.gross]).2≠0 then (Total.zero,(fX [t.net,t.tax,t.gross]).2) else
  if (aC dB (fun l=>(l,0)) t.parts []).2≠0 then (Total.zero,(aC dB (fun l=>(l,0)) t.parts []).2) else
   (⟨(fX [t.net,t.tax,t.gross]).1.getD 0 0,(fX [t.net,t.tax,t.gross]).1.getD 1 0,(fX [t.net,t.tax,t.gross]).1.getD 2 0,(aC dB (fun l=>(l,0)) t.parts []).1⟩,0)
structure Ref where
 ser:List UInt8
 num:Int
deriving DecidableEq
def Ref.enc (r:Ref):List V:=[.str r.ser,.int .i64 r.num]
def Ref.zero:Ref:=⟨[],0⟩
structure Posted where
 ref:Ref
 day:Date
 total:Total
 of:Ref
 back:Bool
deriving DecidableEq
def Posted.cells (p:Posted) (pv:V):List V:=[.str p.ref.ser,.int .i64 p.ref.num,.int .i64 p.day.y,.int .i64 p.day.m,.int .i64 p.day.d,.int .i64 p.total.net,.int .i64 p.total.tax,.int .i64 p.total.gross,pv,.str p.of.ser,.int .i64 p.of.num,.bool p.back]
theorem aVr {α β:Type} (f:α→β) (p:β→Bool) (l:List α):ixM (fun a=>p (f a)) l=ixM p (l.map f):=by
 have:∀ (l:List α) (n:Nat),aC (dU fun a=>p (f a)) (fun _=>(-1:Int)) l n=aC (dU p) (fun _=>-1) (l.map f) n:=by
  intro l
  induction l with
  | nil=>intro n;rfl
  | cons a l ih=>
   intro n
   simp only [aC,List.map_cons,dU]
   by_cases h:p (f a)=true
   ·simp only [h,if_true]
   ·simp only [h,if_false]
    exact ih (n+1)
 exact this l 0
def aX (l:List Posted) (r:Ref):Int:=ixM (fun p:Posted=>decide (p.ref=r)) l
theorem kW (l:List Posted) (r:Ref):aX l r=-1∨∃ (i:Nat) (s:Posted),aX l r=(i:Int)∧l[i]?=some s∧s.ref=r:=by
 rcases jA (fun p:Posted=>decide (p.ref=r)) l with h | ⟨i,s,h1,h2,h3⟩
 ·exact .inl h
 ·exact .inr ⟨i,s,h1,h2,by simpa using h3⟩
def dW {α:Type} [DecidableEq α] (r:List α) (n:Nat) (a:α):Bool⊕Nat:=if r[n]?=some a then .inr (n+1) else .inl false
theorem eqL {α:Type} [DecidableEq α] {l r:List α} (h:l.length=r.length):aC (dW r) (fun _=>true) l 0=decide (l=r):=by
 have:∀ (l t r:List α),l.length=(r.drop t.length).length→r.take t.length=t→aC (dW r) (fun _=>true) l t.length=decide (l=r.drop t.length):=by
  intro l
  induction l with
  | nil=>
   intro t r h1 h2
   have:r.drop t.length=[]:=List.length_eq_zero_iff.1 h1.symm
   rw [this];rfl
  | cons a l ih=>
   intro t r h1 h2
   have hlt:t.length<r.length:=by rw [List.length_drop] at h1;simp only [List.length_cons] at h1;omega
   rw [List.drop_eq_getElem_cons hlt]
   simp only [aC,dW,List.getElem?_eq_getElem hlt]
   by_cases c:r[t.length]=a
   ·have e1:(t++[a]).length=t.length+1:=by simp
    have:=ih (t++[a]) r (by rw [e1];rw [List.length_drop] at h1 ⊢;simp only [List.length_cons] at h1;omega) (by rw [e1,List.take_succ_eq_append_getElem hlt,h2,c])
    rw [e1] at this
    simp only [c,if_true]
    rw [this]
    by_cases d:l=r.drop (t.length+1)<;>simp [d]
   ·have c':¬ (some r[t.length]=some a):=fun e=>c (Option.some.inj e)
    simp only [c',if_false]
    rw [eq_comm,decide_eq_false_iff_not]
    intro e
    exact c (List.cons.inj e).1.symm
 have:=this l [] r (by simpa using h) rfl
 simpa using this
def blkOf:V→Option Nat
 | .sl a _ _ _ _=>some a
 | _=>none
def rF (t:Total):Bool:=
 if (cS (t.parts.map (·.net))).2=true then (if (cS (t.parts.map (·.tax))).2=true then (if (cS [t.net,t.tax]).2=true then
  (if (cS (t.parts.map (·.net))).1=t.net then (if (cS (t.parts.map (·.tax))).1=t.tax then decide ((cS [t.net,t.tax]).1=t.gross) else false) else false) else false) else false) else false
def aA6 (st:List Int×List Int) (p:Part):(List Int×List Int)⊕(List Int×List Int):=.inr (st.1++[p.net],st.2++[p.tax])
theorem bG4:∀ (l:List Part) (a b:List Int),aC aA6 id l (a,b)=(a++l.map (·.net),b++l.map (·.tax))
 | [],a,b=>by simp [aC]
 | p::l,a,b=>by simp only [aC,aA6];rw [bG4 l];simp
def lG (prev:Option Part) (s:Part):Bool:=match prev with
 | none=>false
 | some p=>!eV p.cat s.cat
def vZ (s:Part):Bool:=decide (s.bp<0)||decide (100000<s.bp)
def wC (s:Part):Bool:=!decide ((bH s.net s.bp).2=0)||!decide ((bH s.net s.bp).1=s.tax)
def eJ (prev:Option Part) (s:Part):Bool⊕Option Part:=
 if dA s.cat=false then .inl false else if lG prev s=true then .inl false else if vZ s=true then .inl false else if wC s=true then .inl false else .inr (some s)
def cP (t:Total):Bool:=if t.parts.length<1 then false else if 12<t.parts.length then false else aC eJ (fun _=>rF t) t.parts none
def mU (p fr:Posted):Bool:=if fr.of=Ref.zero then (if p.day.before fr.day=false then (if (bE fr.total).2=0 then decide ((bE fr.total).1=p.total) else false) else false) else false
theorem aDz:∀ (l a:List Part) (r:List Part×Int),aC dB (fun l=>(l,0)) l a=r→r.1.length≤a.length+l.length
 | [],a,r,h=>by subst h;simp [aC]
 | x::l,a,r,h=>by
  simp only [aC] at h
  split at h
  ·rename_i r' he
   subst h
   unfold dB at he
   split at he
   ·cases he;simp
   ·cases he
  ·rename_i a' he
   unfold dB at he
   split at he
   ·cases he
   ·cases he
    have:=aDz l _ r h
    simp only [List.length_append,List.length_cons,List.length_nil] at this ⊢
    omega
theorem xQ (t:Total):(bE t).1.parts.length≤t.parts.length:=by
 unfold bE
 split
 ·simp [Total.zero]
 ·split
  ·simp [Total.zero]
  ·have:=aDz t.parts [] _ rfl
   simpa using this
def bM (book:List Bal) (p:Posted):(List Bal×Int)⊕List Bal:=
 if (cY p.total).2≠0 then .inl ([],(cY p.total).2) else if (bU book (cY p.total).1).2≠0 then .inl ([],(bU book (cY p.total).1).2) else .inr (bU book (cY p.total).1).1
def cQ (l:List Posted):List Bal×Int:=aC bM (fun b=>(b,0)) l []
theorem tZ (book l:List Bal):(bU book l).1.length≤book.length+l.length:=by
 unfold bU
 split
 ·simp
 ·exact aBf l book _ rfl
theorem wF (t:Total):(cY t).1.length≤1+2*t.parts.length∨(cY t).2≠0:=by
 by_cases h:(cY t).2=0
 ·exact .inl (by have:=aHm t.parts _ _ rfl h;simp only [List.length_cons,List.length_nil] at this;unfold cY;omega)
 ·exact .inr h
def aHo:List V:=[.str [],.int .i64 0,.int .i64 0,.int .i64 0,.int .i64 0,.int .i64 0,.int .i64 0,.int .i64 0,.nils,.str [],.int .i64 0,.bool false]
def Fit (p:Posted):Prop:=p.total.parts.length≤12∧∀ q∈p.total.parts,q.cat.length≤1000000
def bump (l:List Int) (k:Nat):List Int:=l.set k (l.getD k 0+1)
def eZ (st:List Posted×List Int) (p:Posted):Bool⊕(List Posted×List Int):=
 if p.day.right=false then .inl false else if cP p.total=false then .inl false else if p.of=Ref.zero then .inr (st.1++[p],st.2) else
  if aX st.1 p.of<0 then .inl false else if mU p (st.1.getD (aX st.1 p.of).toNat ⟨Ref.zero,⟨0,0,0⟩,Total.zero,Ref.zero,false⟩)=false then .inl false else
   .inr (st.1++[p],bump st.2 (aX st.1 p.of).toNat)
def fY (bs:List Int) (p:Posted):Bool⊕List Int:=if 1<bs.headD 0 then .inl false else if p.back=decide (bs.headD 0=1) then .inr bs.tail else .inl false
def gO (l:List Posted):Bool:=if 40<l.length then false else aC eZ (fun st=>aC fY (fun _=>true) l st.2) l ([],List.replicate 40 0)
theorem mK {t:Total} (h:cP t=true):t.parts.length≤12:=by
 unfold cP at h
 split at h
 ·cases h
 ·split at h
  ·cases h
  ·omega
theorem wH (l:List Int) (k:Nat) (h:k<l.length):l.getD k 0=l[k]:=by rw [List.getD_eq_getElem?_getD,List.getElem?_eq_getElem h];rfl
structure State where
 table:List Rate
 ser:List Ser
 posted:List Posted
 book:List Bal
 sess:List Sess
 next:Int
deriving DecidableEq
def jK (ser:List Ser) (is:List Int) (p:Posted):Bool⊕List Int:=
 if eO ser p.ref.ser<0 then .inl false else if p.ref.num=(bump is (eO ser p.ref.ser).toNat).getD (eO ser p.ref.ser).toNat 0 then .inr (bump is (eO ser p.ref.ser).toNat) else .inl false
def iL (is:List Int) (s:Ser):Bool⊕List Int:=if s.next=is.headD 0+1 then .inr is.tail else .inl false
def lS (ser:List Ser) (l:List Posted):Bool:=aC (jK ser) (fun is=>aC iL (fun _=>true) ser is) l (List.replicate 8 0)
theorem wJ (l:List Int) (k:Nat):(bump l k).length=l.length:=List.length_set ..
theorem aSv (l:List Int) (k:Nat) (h:k<l.length):(bump l k).getD k 0=l[k]+1:=by
 rw [List.getD_eq_getElem?_getD,bump,List.getElem?_set_self h,wH l k h];rfl
def aBg (l:List Sess) (next:Int):Bool:=match l[l.length - 1]? with
 | none=>true
 | some s=>decide (s.id<next)
def jB (s:State):Bool:=if fF s.sess=true then (if 1≤s.next then (if s.next≤1099511627776 then aBg s.sess s.next else false) else false) else false
theorem aBh {σ α:Type} {step:σ→α→Bool⊕σ} {fin:σ→Bool} (hs:∀ s a r,step s a=.inl r→r=false):∀ (l:List α) (s:σ),aC step fin l s=true→∀ a∈l,∃ s s',step s a=.inr s'
 | [],s,h,a,ha=>by cases ha
 | b::l,s,h,a,ha=>by
  simp only [aC] at h
  split at h
  ·rename_i r he
   have:=hs s b r he
   rw [this] at h;cases h
  ·rename_i s' he
   rcases List.mem_cons.1 ha with rfl | ha
   ·exact ⟨s,s',he⟩
   ·exact aBh hs l s' h a ha
theorem sE {s:List UInt8} (h:dA s=true):s.length≤24:=by
 unfold dA at h
 split at h
 ·cases h
 ·split at h
  ·cases h
  ·omega
theorem aFx {t:Total} (h:cP t=true):∀ q∈t.parts,dA q.cat=true:=by
 unfold cP at h
 split at h
 ·cases h
 ·split at h
  ·cases h
  ·intro q hq
   obtain ⟨s,s',he⟩:=aBh (fun s a r hr=>by
    unfold eJ at hr
    repeat' split at hr
    all_goals cases hr
    all_goals rfl) t.parts none h q hq
   unfold eJ at he
   split at he
   ·cases he
   ·rename_i hn;simpa using hn
theorem yP {p:Posted} (h:cP p.total=true):Fit p:=⟨mK h,fun q hq=>by have:=sE (aFx h q hq);omega⟩
theorem uA {l:List Posted} (h:gO l=true):l.length≤40∧∀ p∈l,p.day.right=true∧cP p.total=true:=by
 unfold gO at h
 split at h
 ·cases h
 ·refine ⟨by omega,fun p hp=>?_⟩
  obtain ⟨s,s',he⟩:=aBh (fun s a r hr=>by
   unfold eZ at hr
   repeat' split at hr
   all_goals cases hr
   all_goals rfl) l _ h p hp
  unfold eZ at he
  split at he
  ·cases he
  ·rename_i h1
   split at he
   ·cases he
   ·rename_i h2
    exact ⟨by simpa using h1,by simpa using h2⟩
def aS (s:State):Bool:=if fC s.table=false then false else if lY s.ser=false then false else if jB s=false then false else if gO s.posted=false then false else
 if lS s.ser s.posted=false then false else if (cQ s.posted).2=0 then decide ((cQ s.posted).1=s.book) else false
theorem rG:∀ (l:List Posted) (a:List Bal) (r:List Bal×Int),(∀ p∈l,p.total.parts.length≤12)→aC bM (fun b=>(b,0)) l a=r→r.1.length≤a.length+25*l.length
 | [],a,r,_,h=>by subst h;simp [aC]
 | p::l,a,r,hp,h=>by
  simp only [aC] at h
  split at h
  ·rename_i r' he
   subst h
   unfold bM at he
   repeat' split at he
   all_goals cases he
   all_goals simp
  ·rename_i a' he
   unfold bM at he
   split at he
   ·cases he
   ·rename_i h1
    split at he
    ·cases he
    ·cases he
     have h2:=(wF p.total).resolve_right h1
     have h3:=tZ a (cY p.total).1
     have h4:=hp p (List.mem_cons_self ..)
     have:=rG l _ r (fun q hq=>hp q (List.mem_cons_of_mem _ hq)) h
     simp only [List.length_cons]
     omega
def State.new:State:=⟨[],[],[],[],[],1⟩
structure Bnd (s:State):Prop where
 bt:s.table.length≤100000
 bs:s.ser.length≤100000
 bp:s.posted.length≤100000
 bb:s.book.length≤100000
 be:s.sess.length≤100000
 bq:∀ p∈s.posted,p.total.parts.length≤100000
def bAd:List UInt8:=[111,119,101,100]
def oY (g:Int) (b:Bal):Int⊕Int:=.inr (if (b.acc == bAd)=true then b.amount else g)
def aCr (s:State) (name:List UInt8):Rep:=if (jG s.ser name).2=false then ⟨11,0,0⟩ else ⟨0,wr .i64 ((jG s.ser name).1.next - 1),aC oY id s.book 0⟩
def why (e:Int):Rep:=⟨e,0,0⟩
def aO (s:State) (name:List UInt8) (p:Posted):State×Rep:=
 if (cA s.ser name).2.2≠0 then (s,why (cA s.ser name).2.2) else if 40≤s.posted.length then (s,why 14) else
  if (cY p.total).2≠0 then (s,why (cY p.total).2) else if (bU s.book (cY p.total).1).2≠0 then (s,why (bU s.book (cY p.total).1).2) else
   ({ s with ser:=(cA s.ser name).1,book:=(bU s.book (cY p.total).1).1,posted:=s.posted++[{ p with ref:=⟨name,(cA s.ser name).2.1⟩ }] },⟨0,(cA s.ser name).2.1,p.total.gross⟩)
theorem aOr {P:List UInt8→Prop} {l:List Part} {cat:List UInt8} {bp n:Int} (h:∀ p∈l,P p.cat) (hc:P cat):∀ p∈(pS l cat bp n).1,P p.cat:=by
 have hroom:∀ p∈cN l cat bp,P p.cat:=by
  unfold cN
  split
  ·intro p hp
   rcases List.mem_append.1 hp with hp | hp
   ·exact h p (List.mem_of_mem_take hp)
   ·rcases List.mem_cons.1 hp with rfl | hp
    ·exact hc
    ·exact h p (List.mem_of_mem_drop hp)
  ·exact h
 unfold pS
 split
 ·intro p hp;cases hp
 ·rename_i q hq
  intro p hp
  rcases List.mem_or_eq_of_mem_set hp with hp | rfl
  ·exact hroom p hp
  ·exact hroom q (List.mem_of_getElem? hq)
theorem yQ:∀ (l:List Part) (st:Int×Int×List Part) (r:Total×Int),aC fB jX l st=r→r.2=0→r.1.parts.map (·.cat)=st.2.2.map (·.cat)++l.map (·.cat)
 | [],st,r,h,h0=>by
  subst h
  simp only [aC,jX] at h0 ⊢
  split at h0
  ·rename_i hc;exact absurd h0 hc
  ·rename_i hc;rw [if_neg hc];simp
 | p::l,st,r,h,h0=>by
  simp only [aC] at h
  split at h
  ·rename_i r' he
   unfold fB at he
   split at he
   ·cases he;subst h;cases h0
   ·cases he
  ·rename_i st' he
   unfold fB at he
   split at he
   ·cases he
   ·cases he
    rw [yQ l _ r h h0]
    simp
theorem aE0 {tab:List Rate} {d:Date}:∀ (l:List Line) (parts:List Part) (r:Total×Int),(∀ p∈parts,dA p.cat=true)→aC (gN tab d) dV l parts=r→r.2=0→(∀ p∈r.1.parts,dA p.cat=true)∧r.1.parts.length≤parts.length+l.length
 | [],parts,r,hp,h,h0=>by
  subst h
  simp only [aC] at h0 ⊢
  have:=yQ parts (0,0,[]) _ rfl h0
  simp only [List.map_nil,List.nil_append] at this
  refine ⟨fun p hpm=>?_,?_⟩
  ·have hm:p.cat∈parts.map (·.cat):=by rw [←this];exact List.mem_map_of_mem hpm
   obtain ⟨q,hq,e⟩:=List.mem_map.1 hm
   rw [←e];exact hp q hq
  ·have hl:=congrArg List.length this
   rw [List.length_map,List.length_map] at hl
   exact Nat.le_of_eq hl
 | x::l,parts,r,hp,h,h0=>by
  simp only [aC] at h
  split at h
  ·rename_i r' he
   unfold gN at he
   split at he
   ·rename_i hc;cases he;subst h;exact absurd h0 hc
   ·split at he
    ·rename_i hc;cases he;subst h;exact absurd h0 hc
    ·cases he
  ·rename_i s' he
   unfold gN at he
   split at he
   ·cases he
   ·rename_i hc
    split at he
    ·cases he
    ·cases he
     have hn:dA x.cat=true:=by
      have hc0:(eI tab d x).2.2=0:=by omega
      unfold eI at hc0
      split at hc0
      ·cases hc0
      ·split at hc0
       ·cases hc0
       ·rename_i hh;simpa using hh
     have h1:=aHn parts x.cat (eI tab d x).1 (eI tab d x).2.1
     obtain ⟨h2,h3⟩:=aE0 l _ r (aOr (P:=fun c=>dA c=true) hp hn) h h0
     refine ⟨h2,?_⟩
     simp only [List.length_cons]
     omega
theorem uC {tab:List Rate} {d:Date} {l:List Line} (h:(cK tab d l).2=0):(cK tab d l).1.parts.length≤12∧∀ q∈(cK tab d l).1.parts,q.cat.length≤1000000:=by
 unfold cK at h ⊢
 split at h
 ·cases h
 ·rename_i c1
  rw [if_neg c1]
  split at h
  ·cases h
  ·rename_i c2
   rw [if_neg c2]
   split at h
   ·cases h
   ·rename_i c3
    rw [if_neg c3]
    split at h
    ·cases h
    ·rename_i c4
     rw [if_neg c4]
     obtain ⟨h1,h2⟩:=aE0 l [] _ (fun _ h=>by cases h) rfl h
     refine ⟨by simp only [List.length_nil] at h2;omega,fun q hq=>by have:=sE (h1 q hq);omega⟩
theorem aBi:∀ (l a:List Part) (r:List Part×Int),aC dB (fun l=>(l,0)) l a=r→r.2=0→r.1.map (·.cat)=a.map (·.cat)++l.map (·.cat)
 | [],a,r,h,h0=>by subst h;simp [aC]
 | x::l,a,r,h,h0=>by
  simp only [aC] at h
  split at h
  ·rename_i r' he
   subst h
   unfold dB at he
   split at he
   ·rename_i hc;cases he;exact absurd h0 hc
   ·cases he
  ·rename_i a' he
   unfold dB at he
   split at he
   ·cases he
   ·cases he
    rw [aBi l _ r h h0]
    simp
theorem aK5 (t:Total) (h:(bE t).2=0):(bE t).1.parts.map (·.cat)=t.parts.map (·.cat):=by
 unfold bE at h ⊢
 split at h
 ·rename_i c;exact absurd h c
 ·rename_i c
  rw [if_neg c]
  split at h
  ·rename_i c2;exact absurd h c2
  ·rename_i c2
   rw [if_neg c2]
   have:=aBi t.parts [] _ rfl (by omega)
   simpa using this
theorem aOs {p:Posted} (hf:Fit p) (h:(bE p.total).2=0):(bE p.total).1.parts.length≤12∧∀ q∈(bE p.total).1.parts,q.cat.length≤1000000:=by
 have:=aK5 p.total h
 refine ⟨by have:=xQ p.total;have:=hf.1;omega,fun q hq=>?_⟩
 have hm:q.cat∈p.total.parts.map (·.cat):=by rw [←this];exact List.mem_map_of_mem hq
 obtain ⟨q',hq',e⟩:=List.mem_map.1 hm
 rw [←e];exact hf.2 q' hq'
structure Cmd where
 kind:Int
 series:List UInt8
 limit:Int
 row:Rate
 day:Date
 lines:List Line
 of:Ref
 session:Int
def jY (s:State) (c:Cmd):State×Rep:=
 if (cK s.table c.day c.lines).2≠0 then (s,why (cK s.table c.day c.lines).2) else aO s c.series ⟨Ref.zero,c.day,(cK s.table c.day c.lines).1,Ref.zero,false⟩
def Posted.zero:Posted:=⟨Ref.zero,⟨0,0,0⟩,Total.zero,Ref.zero,false⟩
def cR (l:List Posted) (k:Nat):List Posted:=match l[k]? with
 | none=>l
 | some p=>l.set k { p with back:=true }
def eK (s:State) (c:Cmd) (k:Nat) (p:Posted):State×Rep:=
 if p.back=true then (s,why 12) else if p.of=Ref.zero then
  (if c.day.right=false then (s,why 9) else if c.day.before p.day=true then (s,why 9) else if (bE p.total).2≠0 then (s,why (bE p.total).2) else
   if (aO s c.series ⟨Ref.zero,c.day,(bE p.total).1,c.of,false⟩).2.why=0 then
    ({ (aO s c.series ⟨Ref.zero,c.day,(bE p.total).1,c.of,false⟩).1 with posted:=cR (aO s c.series ⟨Ref.zero,c.day,(bE p.total).1,c.of,false⟩).1.posted k },(aO s c.series ⟨Ref.zero,c.day,(bE p.total).1,c.of,false⟩).2)
   else aO s c.series ⟨Ref.zero,c.day,(bE p.total).1,c.of,false⟩) else (s,why 12)
def dM (s:State) (c:Cmd):State×Rep:=
 if aX s.posted c.of<0 then (s,why 11) else eK s c (aX s.posted c.of).toNat (s.posted.getD (aX s.posted c.of).toNat Posted.zero)
theorem aFy (s:State) (name:List UInt8) (p:Posted):∃ l,(aO s name p).1.posted=s.posted++l:=by
 unfold aO
 repeat' split
 all_goals first | exact ⟨[],(List.append_nil _).symm⟩ | exact ⟨_,rfl⟩
def fG (s:State) (r:List Ser×Int):State×Rep:=if r.2=0 then ({ s with ser:=r.1 },why r.2) else (s,why r.2)
def jL (s:State) (r:List Rate×Int):State×Rep:=if r.2=0 then ({ s with table:=r.1 },why r.2) else (s,why r.2)
def gL (s:State) (r:List Sess×Int):State×Rep:=if r.2=0 then ({ s with sess:=r.1 },why r.2) else (s,why r.2)
def pW (s:State) (c:Cmd):State×Rep:=
 if c.kind=1 then fG s (eA s.ser c.series c.limit) else if c.kind=2 then fG s (nL s.ser c.series) else if c.kind=3 then jL s (fW s.table c.row) else
  if c.kind=4 then jY s c else if c.kind=5 then dM s c else if c.kind=7 then gL s (fE s.sess c.session) else (s,aCr s c.series)
def eB (s:State):State×Rep:=
 if 8≤s.sess.length∨1099511627776≤s.next then (s,why 14) else if (kM s.sess s.next).2≠0 then (s,why (kM s.sess s.next).2) else
  ({ s with sess:=(kM s.sess s.next).1,next:=wr .i64 (s.next+1) },⟨0,s.next,0⟩)
structure Call where
 session:Int
 seq:Int
 cmd:Cmd
def fZ (r:State×Rep) (c:Call):State×Rep:=if (iS r.1.sess c.session c.seq r.2).2=0 then ({ r.1 with sess:=(iS r.1.sess c.session c.seq r.2).1 },r.2) else r
def dX (s:State) (c:Call):State×Rep:=
 if aS s=false then (s,why 1) else if c.cmd.kind<1∨8<c.cmd.kind then (s,why 17) else if c.cmd.kind=6 then eB s else
  if (bT s.sess c.session c.seq).2.2≠0 then (s,why (bT s.sess c.session c.seq).2.2) else if (bT s.sess c.session c.seq).2.1=true then (s,(bT s.sess c.session c.seq).1) else fZ (pW s c.cmd) c
theorem aCs {s:State} (h:aS s=true):gO s.posted=true:=by
 unfold aS at h
 repeat' split at h
 all_goals first | cases h | skip
 rename_i h4 _ _
 simpa using h4
structure Sml (s:State):Prop where
 st:s.table.length≤1000
 ss:s.ser.length≤1000
 sp:s.posted.length≤1000
 sb:s.book.length≤10000
 se:s.sess.length≤1000
 sq:∀ p∈s.posted,p.total.parts.length≤1000
theorem Sml.bnd {s:State} (h:Sml s):Bnd s:=⟨by have:=h.st;omega,by have:=h.ss;omega,by have:=h.sp;omega,by have:=h.sb;omega,by have:=h.se;omega,fun p hp=>by have:=h.sq p hp;omega⟩
theorem Sml.new:Sml State.new:=⟨by decide,by decide,by decide,by decide,by decide,fun p hp=>by cases hp⟩
theorem rH {s:State} (h:aS s=true):s.table.length≤24∧s.ser.length≤8∧s.sess.length≤8∧s.posted.length≤40∧s.book.length≤1000∧(∀ p∈s.posted,p.total.parts.length≤12)∧s.book=(cQ s.posted).1:=by
 unfold aS at h
 split at h
 ·cases h
 ·rename_i h1
  split at h
  ·cases h
  ·rename_i h2
   split at h
   ·cases h
   ·rename_i h3
    split at h
    ·cases h
    ·rename_i h4
     split at h
     ·cases h
     ·split at h
      ·have hb:=of_decide_eq_true h
       have h4':gO s.posted=true:=by simpa using h4
       obtain ⟨p1,p2⟩:=uA h4'
       have hparts:∀ p∈s.posted,p.total.parts.length≤12:=fun p hp=>mK (p2 p hp).2
       have hl:=rG s.posted [] (cQ s.posted) hparts rfl
       have hs:fF s.sess=true:=by
        unfold jB at h3
        by_cases c:fF s.sess=true
        ·exact c
        ·rw [if_neg c] at h3;exact absurd rfl h3
       refine ⟨tY (by simpa using h1),nK (by simpa using h2),lF hs,p1,?_,hparts,hb.symm⟩
       rw [←hb]
       simp only [List.length_nil] at hl
       omega
      ·cases h
theorem aBj {s:State} (h:Sml s) (h1:s.ser.length≤8) (h2:s.posted.length≤40) (h3:s.book.length≤1000) (name:List UInt8) (p:Posted) (hp:p.total.parts.length≤12):Sml (aO s name p).1:=by
 unfold aO
 split
 ·exact h
 ·split
  ·exact h
  ·split
   ·exact h
   ·rename_i c3
    split
    ·exact h
    ·refine ⟨h.st,?_,?_,?_,h.se,?_⟩
     ·show (cA s.ser name).1.length≤1000
      unfold cA
      repeat' split
      all_goals simp
      omega
     ·show (s.posted++_).length≤1000
      simp only [List.length_append,List.length_cons,List.length_nil];omega
     ·show (bU s.book (cY p.total).1).1.length≤10000
      have:=tZ s.book (cY p.total).1
      have:=(wF p.total).resolve_right c3
      omega
     ·intro q hq
      rcases List.mem_append.1 hq with hq | hq
      ·exact h.sq q hq
      ·rw [List.mem_singleton.1 hq]
       show p.total.parts.length≤1000
       omega
theorem aHp (l:List Posted) (k:Nat) (h:∀ p∈l,p.total.parts.length≤1000):(cR l k).length=l.length∧∀ p∈cR l k,p.total.parts.length≤1000:=by
 unfold cR
 split
 ·exact ⟨rfl,h⟩
 ·rename_i p hp
  refine ⟨List.length_set ..,fun q hq=>?_⟩
  rcases List.mem_or_eq_of_mem_set hq with hq | rfl
  ·exact h q hq
  ·exact h p (List.mem_of_getElem? hp)
theorem nN {α:Type} (l:List α) (i:Nat) (a:α):(eN l i a).length≤l.length+1:=by
 simp only [eN,List.length_append,List.length_cons,List.length_take,List.length_drop];omega
theorem aVt {s:State} (h:Sml s) (hr:aS s=true) (c:Cmd):Sml (pW s c).1:=by
 obtain ⟨r1,r2,r3,r4,r5,r6,_⟩:=rH hr
 unfold pW
 split
 ·unfold fG
  split
  ·refine ⟨h.st,?_,h.sp,h.sb,h.se,h.sq⟩
   show (eA s.ser c.series c.limit).1.length≤1000
   unfold eA
   repeat' split
   all_goals first | (simp;done) | (refine Nat.le_trans (nN _ _ _) ?_;omega)
  ·exact h
 ·split
  ·unfold fG
   split
   ·refine ⟨h.st,?_,h.sp,h.sb,h.se,h.sq⟩
    show (nL s.ser c.series).1.length≤1000
    unfold nL
    repeat' split
    all_goals simp
    omega
   ·exact h
  ·split
   ·unfold jL
    split
    ·refine ⟨?_,h.ss,h.sp,h.sb,h.se,h.sq⟩
     show (fW s.table c.row).1.length≤1000
     unfold fW
     repeat' split
     all_goals first | (simp;done) | (refine Nat.le_trans (nN _ _ _) ?_;omega)
    ·exact h
   ·split
    ·unfold jY
     split
     ·exact h
     ·rename_i c1
      exact aBj h r2 r4 r5 _ _ (uC (by omega)).1
    ·split
     ·unfold dM
      split
      ·exact h
      ·rename_i c1
       unfold eK
       split
       ·exact h
       ·split
        ·split
         ·exact h
         ·split
          ·exact h
          ·split
           ·exact h
           ·rename_i c4
            have hpar:(s.posted.getD (aX s.posted c.of).toNat Posted.zero).total.parts.length≤12:=by
             rw [List.getD_eq_getElem?_getD]
             cases hg:s.posted[(aX s.posted c.of).toNat]? with
             | none=>exact Nat.zero_le _
             | some p=>exact r6 p (List.mem_of_getElem? hg)
            have hbl:=xQ (s.posted.getD (aX s.posted c.of).toNat Posted.zero).total
            have hi:=aBj h r2 r4 r5 c.series ⟨Ref.zero,c.day,(bE (s.posted.getD (aX s.posted c.of).toNat Posted.zero).total).1,c.of,false⟩ (Nat.le_trans hbl hpar)
            split
            ·obtain ⟨e1,e2⟩:=aHp _ (aX s.posted c.of).toNat hi.sq
             exact ⟨hi.st,hi.ss,by rw [e1];exact hi.sp,hi.sb,hi.se,e2⟩
            ·exact hi
        ·exact h
     ·split
      ·unfold gL
       split
       ·refine ⟨h.st,h.ss,h.sp,h.sb,?_,h.sq⟩
        show (fE s.sess c.session).1.length≤1000
        unfold fE
        repeat' split
        all_goals first | (simp;done) | (simp only [tX,List.length_append,List.length_take,List.length_drop];omega)
       ·exact h
      ·exact h
theorem aOt (l:List Sess) (id seq:Int) (r:Rep):(iS l id seq r).1.length≤l.length:=by
 unfold iS
 repeat' split
 all_goals simp
theorem aK6 {s:State} (h:Sml s) (c:Call):Sml (dX s c).1:=by
 unfold dX
 split
 ·exact h
 ·rename_i hr
  have hr:aS s=true:=by simpa using hr
  split
  ·exact h
  ·split
   ·unfold eB
    split
    ·exact h
    ·split
     ·exact h
     ·obtain ⟨_,_,r3,_⟩:=rH hr
      refine ⟨h.st,h.ss,h.sp,h.sb,?_,h.sq⟩
      show (kM s.sess s.next).1.length≤1000
      unfold kM
      repeat' split
      all_goals first | (simp;done) | (refine Nat.le_trans (nN _ _ _) ?_;omega)
   ·split
    ·exact h
    ·split
     ·exact h
     ·have hd:=aVt h hr c.cmd
      unfold fZ
      split
      ·exact ⟨hd.st,hd.ss,hd.sp,hd.sb,by have:=aOt (pW s c.cmd).1.sess c.session c.seq (pW s c.cmd).2;have:=hd.se;show (iS _ _ _ _).1.length≤1000;omega,hd.sq⟩
      ·exact hd
def oZ (c:Call):Call:={ c with cmd:={ c.cmd with lines:=c.cmd.lines.take 15 } }
def pT (l:List Call) (n:Nat):List Call:=(l.take n).map oZ
def bG5:List V:=[.int .i64 0,.int .i64 0,.int .i64 0,.str [],.int .i64 0,.str [],.int .i64 0,.int .i64 0,.int .i64 0,.int .i64 0,.int .i64 0,.int .i64 0,.int .i64 0,.nils,.str [],.int .i64 0,.int .i64 0]
def nO (st:State×List Rep) (c:Call):State×List Rep:=((dX st.1 c).1,st.2++[(dX st.1 c).2])
def playM (s:State) (l:List Call):State×List Rep:=l.foldl nO (s,[])
def aMn (st:State×List Rep) (c:Call):(State×List Rep)⊕(State×List Rep):=.inr (nO st c)
theorem aE1:∀ (l:List Call) (st:State×List Rep),aC aMn id l st=l.foldl nO st
 | [],st=>rfl
 | c::l,st=>by simp only [aC,aMn,List.foldl_cons];exact aE1 l _
theorem aSw (l:List Call) (n:Nat):(pT l n).length≤n:=by simp only [pT,List.length_map,List.length_take];omega
end Go.Proofs.YtoaibmbldmckaaaGreat
end
section
namespace Go.AM
def rI {α:Type} (a:α):Option (List α)→Option (List α)
 | some l=>some (a::l)
 | none=>none
def wK:List V→Nat→Option (List V)
 | _,0=>some []
 | [],_+1=>none
 | a::l,n+1=>rI a (wK l n)
def rJ:List V→Nat→List V→Option (List V)
 | cs,0,[]=>some cs
 | [],0,_::_=>none
 | _::cs,0,x::xs=>rI x (rJ cs 0 xs)
 | [],_+1,_=>none
 | c::cs,j+1,xs=>rI c (rJ cs j xs)
def rK:List V→Nat→Bool
 | [],0=>true
 | _::l,n+1=>rK l n
 | _,_=>false
def aFz {α:Type}:List α→Nat→α→Option (List α)
 | [],_,_=>none
 | _::l,0,x=>some (x::l)
 | a::l,i+1,x=>rI a (aFz l i x)
theorem aHq:∀ (l:List V) (n:Nat),wK l n=if n≤l.length then some (l.take n) else none
 | l,0=>by cases l<;>simp [wK]
 | [],n+1=>by simp [wK]
 | a::l,n+1=>by
  simp only [wK,aHq l n,List.length_cons,Nat.add_le_add_iff_right,List.take_succ_cons]
  split<;>rfl
theorem wL:∀ (cs:List V) (j:Nat) (xs:List V),rJ cs j xs=if j+xs.length≤cs.length then some (splice cs j xs) else none
 | cs,0,[]=>by cases cs<;>simp [rJ,splice]
 | [],0,x::xs=>by simp [rJ]
 | c::cs,0,x::xs=>by
  have h:=wL cs 0 xs
  simp only [rJ,h,List.length_cons,splice,List.take_zero,List.nil_append,Nat.zero_add]
  by_cases c1:xs.length≤cs.length
  ·rw [if_pos c1,if_pos (by omega)];simp [rI]
  ·rw [if_neg c1,if_neg (by omega)];rfl
 | [],j+1,xs=>by simp [rJ]
 | c::cs,j+1,xs=>by
  have h:=wL cs j xs
  simp only [rJ,h,List.length_cons,splice]
  by_cases c1:j+xs.length≤cs.length
  ·rw [if_pos c1,if_pos (by omega)]
   simp only [rI,List.take_succ_cons,List.cons_append,show j+1+xs.length=(j+xs.length)+1 by omega,List.drop_succ_cons]
  ·rw [if_neg c1,if_neg (by omega)];rfl
theorem wM:∀ (l:List V) (n:Nat),rK l n=decide (l.length=n)
 | [],0=>rfl
 | [],n+1=>by simp [rK]
 | a::l,0=>by simp [rK]
 | a::l,n+1=>by simp [rK,wM l n]
theorem aMo {α:Type}:∀ (l:List α) (i:Nat) (x:α),aFz l i x=if i<l.length then some (l.set i x) else none
 | [],i,x=>by simp [aFz]
 | a::l,0,x=>by simp [aFz]
 | a::l,i+1,x=>by
  simp only [aFz,aMo l i x,List.length_cons,Nat.add_lt_add_iff_right,List.set_cons_succ]
  split<;>rfl
theorem pt2 (n:Nat) (cs:List V) (j:Nat):kL (some (n+1)) cs j=(match wK (cs.drop j) (n+1) with
  | some l=>.ok (.agg l)
  | none=>.error "part"):=by
 simp only [kL,aHq,List.length_drop]
 by_cases c:j+(n+1)≤cs.length
 ·rw [if_pos c,if_pos (by omega)]
 ·rw [if_neg c,if_neg (by omega)]
theorem mL (n a ver i j:Nat) (x:V) (S:St):gE n (.ptr a ver i j) x S=(match aB S a ver with
  | .error e=>.error e
  | .ok (es,elems)=>match elems[i]? with
   | some cs=>(match rK x.cells n&&aG x.cells with
    | true=>(match rJ cs j x.cells with
     | some cs'=>.ok ⟨S.next,S.heap.put a (.row ver es (elems.set i cs'))⟩
     | none=>.error "store: the size")
    | false=>.error "store: the size")
   | none=>.error "store"):=by
 simp only [gE,wL,wM]
 cases aB S a ver with
 | error e=>rfl
 | ok r=>
  obtain ⟨es,elems⟩:=r
  simp only
  cases elems[i]? with
  | none=>rfl
  | some cs=>
   simp only
   by_cases c1:x.cells.length=n
   ·cases c2:aG x.cells
    ·simp [c1]
    ·by_cases c3:j+x.cells.length≤cs.length
     ·rw [if_pos ⟨c1,rfl,c3⟩];simp [c1];simp [←c1,c3]
     ·rw [if_neg (fun h=>c3 h.2.2)];simp [c1];simp [←c1,c3]
   ·rw [if_neg (fun h=>c1 h.1)];simp [c1]
theorem bw0 (z:List V) (pl:List (Nat×Nat)):tR z pl []=.ok (.agg z):=rfl
theorem bw1 (z:List V) (pl:List (Nat×Nat)) (i:Nat) (v:V) (rest:List (Nat×V)):tR z pl ((i,v)::rest)=(match pl[i]? with
  | none=>.error "fill"
  | some (off,size)=>(match rK v.cells size&&aG v.cells with
   | true=>(match rJ z off v.cells with
    | some z'=>tR z' pl rest
    | none=>.error "fill")
   | false=>.error "fill")):=by
 simp only [tR,pZ]
 cases pl[i]? with
 | none=>rfl
 | some p=>
  obtain ⟨off,size⟩:=p
  simp only [wL,wM,cond_eq_ite]
  by_cases c1:v.cells.length=size
  ·cases c2:aG v.cells
   ·simp [c1]
   ·by_cases c3:off+v.cells.length≤z.length
    ·have h1:Nat.beq v.cells.length size=true:=by simpa using c1
     have h2:Nat.ble (off+v.cells.length) z.length=true:=Nat.ble_eq_true_of_le c3
     simp [h1,h2,c1]
     simp [←c1,c3]
    ·have h2:Nat.ble (off+v.cells.length) z.length=false:=by
      cases h:Nat.ble (off+v.cells.length) z.length with
      | false=>rfl
      | true=>exact absurd (Nat.le_of_ble_eq_true h) c3
     simp [h2,c1]
     simp [←c1,c3]
  ·have h1:Nat.beq v.cells.length size=false:=by
    cases h:Nat.beq v.cells.length size with
    | false=>rfl
    | true=>exact absurd (Nat.eq_of_beq_eq_true h) c1
   simp [h1,c1]
theorem lv1 (es:Nat) (elems:List (List V)) (i:Nat) (v:V) (rest:List (Nat×V)):xB es elems ((i,v)::rest)=(match rK v.cells es&&aG v.cells with
  | true=>(match aFz elems i v.cells with
   | some e=>xB es e rest
   | none=>.error "buildSlice")
  | false=>.error "buildSlice"):=by
 simp only [xB,aMo,wM,cond_eq_ite]
 by_cases c1:v.cells.length=es
 ·have h1:Nat.beq v.cells.length es=true:=by simpa using c1
  cases c2:aG v.cells
  ·simp [c1]
  ·by_cases c3:i<elems.length
   ·have h2:Nat.blt i elems.length=true:=by simpa using c3
    simp [h1,h2,c1,c3]
   ·have h2:Nat.blt i elems.length=false:=by
     cases h:Nat.blt i elems.length with
     | false=>rfl
     | true=>exact absurd (by simpa using h) c3
    simp [h2,c1,c3]
 ·have h1:Nat.beq v.cells.length es=false:=by
   cases h:Nat.beq v.cells.length es with
   | false=>rfl
   | true=>exact absurd (Nat.eq_of_beq_eq_true h) c1
  simp [h1,c1]
theorem bAe:(∀ {α:Type} (a:α) (l:List α),rI a (some l)=some (a::l))∧(∀ l:List V,wK l 0=some [])∧(∀ (a:V) (l:List V) (n:Nat),wK (a::l) (n+1)=rI a (wK l n)) ∧
  (∀ cs:List V,rJ cs 0 []=some cs)∧(∀ (c x:V) (cs xs:List V),rJ (c::cs) 0 (x::xs)=rI x (rJ cs 0 xs))∧(∀ (c:V) (cs:List V) (j:Nat) (xs:List V),rJ (c::cs) (j+1) xs=rI c (rJ cs j xs)) ∧
  rK [] 0=true∧(∀ (a:V) (l:List V) (n:Nat),rK (a::l) (n+1)=rK l n)∧(∀ {α:Type} (a:α) (l:List α) (x:α),aFz (a::l) 0 x=some (x::l))∧(∀ {α:Type} (a:α) (l:List α) (i:Nat) (x:α),aFz (a::l) (i+1) x=rI a (aFz l i x)) ∧
  type_of% pt2∧(∀ (n a j:Nat) (x:V) (S:St),type_of% (mL n a 0 0 j x S))∧type_of% bw0∧type_of% bw1∧type_of% lv1∧(∀ (es:Nat) (l:List (List V)),xB es l []=.ok l):=
 ⟨fun _ _=>rfl,fun l=>by cases l<;>rfl,fun _ _ _=>rfl,fun cs=>by cases cs<;>rfl,fun _ _ _ _=>rfl,fun _ _ _ _=>by simp only [rJ],rfl,fun _ _ _=>rfl,fun _ _ _=>rfl,fun _ _ _ _=>rfl,pt2,fun n a j x S=>mL n a 0 0 j x S,bw0,bw1,lv1,fun _ _=>rfl⟩
section
section
variable {P:Program}
theorem aVu (b:Bool) (x y:Prop):bN (.bool b) x y=if b=true then x else y:=by cases b<;>rfl
theorem ldP (k:Option Nat) (a ver i j:Nat) (S:St):mE k (.ptr a ver i j) S=(match aB S a ver with
  | .error e=>.error e
  | .ok (_,elems)=>match elems[i]? with
   | some cs=>kL k cs j
   | none=>.error "load"):=rfl
theorem ptN (cs:List V) (j:Nat):kL none cs j=(match cs[j]? with
  | some v=>.ok v
  | none=>.error "part"):=rfl
theorem grS (n:Nat) (h:Tr Blk) (a ver es:Nat) (el:List (List V)):aB ⟨n,h.put a (.row ver es el)⟩ a ver=.ok (es,el):=aE ..
theorem gZ {c a:Nat} (hc:c≠a) (n:Nat) (h:Tr Blk) (ver:Nat) (b:Blk):aB ⟨n,h.put a b⟩ c ver=aB ⟨n,h⟩ c ver:=bZ n n h a c ver b hc
theorem nb0 (S:St) (b:Blk):aW none S b=.ok (S.next,⟨S.next+1,S.heap.put S.next b⟩):=gS S b
theorem nb1 (k:Nat) (S:St) (b:Blk):aW (some k) S b=.ok (k,⟨S.next,S.heap.put k b⟩):=rW k S b
theorem stP (n a ver i j:Nat) (x:V) (S:St):gE n (.ptr a ver i j) x S=(match aB S a ver with
  | .error e=>.error e
  | .ok (es,elems)=>match elems[i]? with
   | some cs=>if x.cells.length=n∧aG x.cells=true∧j+x.cells.length≤cs.length then .ok ⟨S.next,S.heap.put a (.row ver es (elems.set i (splice cs j x.cells)))⟩ else .error "store: the size"
   | none=>.error "store"):=rfl
theorem ixI {α:Type} {l:List α} {enc:α→List V} {i:Nat} {a:α} {n:Nat} (hi:l[i]?=some a) (hn:(enc a).length=n) (k:IntKind):gF n (.imm (l.map enc)) (.int k (i:Int))=.ok (.iptr (enc a) 0):=by
 have hil:=(List.getElem?_eq_some_iff.1 hi).1
 have hx:(l.map enc)[i]?=some (enc a):=by rw [List.getElem?_map,hi];rfl
 simp only [gF,List.length_map,iF hil,hx]
 simp only [hn,if_true]
theorem okI {α:Type} (a b:α):((Except.ok a:R α)=.ok b)=(a=b):=by simp
end
theorem kit:(∀ {α:Type} (a:α) (K:α→Prop),wR (.ok a) K=K a)∧(∀ {α:Type} (a:α) (K:α→Prop),wO (some a) K=K a)∧(∀ x:Prop,vQ true x=x)∧(∀ (b:Bool) (x y:Prop),bN (.bool b) x y=if b=true then x else y) ∧
  (∀ (v:V) (r:List V) (K:V→List V→Prop),wUn (v::r) K=K v r)∧(∀ (vs:List V) (i:Nat) (K:V→Prop),jS (.tup vs) i K=wO vs[i]? K)∧(∀ (a b c d:Nat) (x:Prop),xN (.ptr a b c d) x=x)∧(∀ (a:List V) (b:Nat) (x:Prop),xN (.iptr a b) x=x) ∧
  (∀ b:Bool,unV .not (.bool b)=.ok (.bool !b))∧(∀ v:V,eE v v=true):=
 ⟨fun _ _=>rfl,fun _ _=>rfl,fun _=>rfl,aVu,fun _ _ _=>rfl,fun _ _ _=>rfl,fun _ _ _ _ _=>rfl,fun _ _ _=>rfl,fun _=>rfl,xP⟩
theorem bG7 (P:Program):(∀ (t:TypeId) (k:IntKind) (a b:Int),bK P .add t (.int k a) (.int k b)=.ok (.int k (wr k (a+b))))∧(∀ (t:TypeId) (k:IntKind) (a b:Int),bK P .sub t (.int k a) (.int k b)=.ok (.int k (wr k (a - b)))) ∧
  (∀ (t:TypeId) (k:IntKind) (a b:Int),bK P .mul t (.int k a) (.int k b)=.ok (.int k (wr k (a*b))))∧(∀ (t:TypeId) (k:IntKind) (a b:Int),bK P .lss t (.int k a) (.int k b)=.ok (.bool (decide (a<b)))) ∧
  (∀ (t:TypeId) (k:IntKind) (a b:Int),bK P .leq t (.int k a) (.int k b)=.ok (.bool (decide (a≤b))))∧(∀ (t:TypeId) (k:IntKind) (a b:Int),bK P .gtr t (.int k a) (.int k b)=.ok (.bool (decide (b<a)))) ∧
  (∀ (t:TypeId) (k:IntKind) (a b:Int),bK P .geq t (.int k a) (.int k b)=.ok (.bool (decide (b≤a))))∧(∀ (t:TypeId) (k:IntKind) (a b:Int),bK P .eql t (.int k a) (.int k b)=.ok (.bool (decide (a=b)))) ∧
  (∀ (t:TypeId) (k:IntKind) (a b:Int),bK P .neq t (.int k a) (.int k b)=.ok (.bool (!decide (a=b)))) ∧
  (∀ (t:TypeId) (j k:IntKind) (a b:Int),bY P t (.int j a) (.int k b)=true)∧(∀ (t:TypeId) (x y:List UInt8),bY P t (.str x) (.str y)=true)∧(∀ (t:TypeId) (x y:Bool),bY P t (.bool x) (.bool y)=true) ∧
  (∀ (t:TypeId) (x y:List UInt8),bK P .eql t (.str x) (.str y)=.ok (.bool (x == y)))∧(∀ (t:TypeId) (x y:List UInt8),bK P .neq t (.str x) (.str y)=.ok (.bool (!(x == y)))) ∧
  (∀ (t:TypeId) (x y:List UInt8),bK P .lss t (.str x) (.str y)=.ok (.bool (eV x y)))∧(∀ (t:TypeId) (x y:List UInt8),bK P .geq t (.str x) (.str y)=.ok (.bool (!eV x y))) ∧
  (∀ (t:TypeId) (k:IntKind) (a b:Int),b≠0→bK P .quo t (.int k a) (.int k b)=.ok (.int k (wr k (a.tdiv b))))∧(∀ (t:TypeId) (k:IntKind) (a b:Int),b≠0→bK P .rem t (.int k a) (.int k b)=.ok (.int k (a.tmod b))):=
 ⟨aUs P,aUt P,aUu P,aUx P,aUy P,aUz P,aV0 P,aV1 P,aV2 P,fun _ _ _ _ _=>rfl,fun _ _ _=>rfl,fun _ _ _=>rfl,aV3 P,aV4 P,aV5 P,aV6 P,fun _ _ _ _ h=>aUv P _ _ _ _ h,fun _ _ _ _ h=>aUw P _ _ _ _ h⟩
theorem bG8 : (∀ (k : Option Nat) (a j : Nat) (S : St), mE k (.ptr a 0 0 j) S = (match aB S a 0 with
      | .error e => .error e
      | .ok (_, elems) => match elems[0]? with
        | some cs => kL k cs j
        | none => .error "load")) ∧ (∀ (k : Option Nat) (cs : List V) (j : Nat) (S : St), mE k (.iptr cs j) S = kL k cs j) ∧
    (∀ (cs : List V) (j : Nat), kL none cs j = (match cs[j]? with
      | some v => .ok v
      | none => .error "part")) ∧
    (∀ off a ver i j : Nat, advW off (.ptr a ver i j) = .ok (.ptr a ver i (j + off))) ∧ (∀ (off : Nat) (cs : List V) (j : Nat), advW off (.iptr cs j) = .ok (.iptr cs (j + off))) ∧
    (∀ (n : Nat) (h : Tr Blk) (a ver es : Nat) (el : List (List V)), aB ⟨n, h.put a (.row ver es el)⟩ a ver = .ok (es, el)) ∧ (∀ (S : St) (b : Blk), aW none S b = .ok (S.next, ⟨S.next + 1, S.heap.put S.next b⟩)) ∧
    (∀ (k : Nat) (S : St) (b : Blk), aW (some k) S b = .ok (k, ⟨S.next, S.heap.put k b⟩)) ∧ (∀ cs : List V, (V.agg cs).cells = cs) ∧ (∀ b : Bool, (V.bool b).cells = [.bool b]) ∧ (∀ (k : IntKind) (n : Int), (V.int k n).cells = [.int k n]) ∧
    (∀ s : List UInt8, (V.str s).cells = [.str s]) ∧ (∀ es : List (List V), (V.imm es).cells = [.imm es]) ∧ V.nils.cells = [.nils] ∧ (∀ a b c d : Nat, (V.ptr a b c d).cells = [.ptr a b c d]) ∧ (∀ a b c d e : Nat, (V.sl a b c d e).cells = [.sl a b c d e]) ∧
    (∀ (f : FuncId) (a b : List V), (V.func f a b).cells = [.func f a b]) ∧ aG [] = true ∧ (∀ (v : V) (l : List V), aG (v :: l) = (v.one && aG l)) ∧ (∀ b : Bool, (V.bool b).one = true) ∧ (∀ (k : IntKind) (n : Int), (V.int k n).one = true) ∧ (∀ s : List UInt8, (V.str s).one = true) ∧
    (∀ es : List (List V), (V.imm es).one = true) ∧ V.nils.one = true ∧ (∀ a b c d : Nat, (V.ptr a b c d).one = true) ∧ (∀ a b c d e : Nat, (V.sl a b c d e).one = true) ∧ (∀ (f : FuncId) (a b : List V), (V.func f a b).one = true) ∧
    (∀ es : List (List V), lenW (.imm es) = .ok (.int .i64 es.length)) ∧ lenW .nils = .ok (.int .i64 0) ∧ (∀ a b c d e : Nat, lenW (.sl a b c d e) = .ok (.int .i64 e)) ∧
    (∀ (S : St) (b : Bool), jU S (.bool b) = .ok (.bool b)) ∧ (∀ (S : St) (k : IntKind) (n : Int), jU S (.int k n) = .ok (.int k n)) ∧ (∀ (S : St) (s : List UInt8), jU S (.str s) = .ok (.str s)) ∧ (∀ (S : St) (es : List (List V)), jU S (.imm es) = .ok (.imm es)) ∧
    (∀ {α : Type} (a b : α), ((Except.ok a : R α) = .ok b) = (a = b)) :=
  ⟨fun _ _ _ _ => rfl, fun _ _ _ _ => rfl, fun _ _ => rfl, fun _ _ _ _ _ => rfl, fun _ _ _ => rfl, grS, nb0, nb1, fun _ => rfl, fun _ => rfl, fun _ _ => rfl, fun _ => rfl, fun _ => rfl, rfl, fun _ _ _ _ => rfl, fun _ _ _ _ _ => rfl, fun _ _ _ => rfl, rfl, fun _ _ => rfl,
    fun _ => rfl, fun _ _ => rfl, fun _ => rfl, fun _ => rfl, rfl, fun _ _ _ _ => rfl, fun _ _ _ _ _ => rfl, fun _ _ _ => rfl, fun _ => rfl, rfl, fun _ _ _ _ _ => rfl, fun _ _ => rfl, fun _ _ _ => rfl, fun _ _ => rfl, fun _ _ => rfl, okI⟩
end
end Go.AM
end
section
namespace Go.Proofs.YtoaibmbldmckaaaGreat
open Go.AM Tryz
theorem fx:type_of% (A2 aR5 <| A2 aY5 <| A2 aY6 <| A2 aY7 <| A2 aY8 <| A2 aY9 <| A2 aYa <| A2 aYb <| A2 aYc <| A2 aYd <| A2 aYe <| A2 aYf <| A2 aYg <| A2 aYh <| A2 aYi <| A2 aYj <| A2 aYk <| A2 aYl <| A2 aYm <| A2 aYn <| A2 aYo <| A2 aYp <| A2 aYq <| A2 aYr <| A2 bCr <| A2 aYs <| A2 bCs <| A2 bCt <| A2 bCu <| A2 bCv <| A2 bCw <| A2 bCx <| A2 bCy <| A2 bCz <| A2 bD0 <| A2 bD1 <| A2 bD2 <| A2 bD3 <| A2 aYt <| A2 bD4 <| A2 bD5 <| A2 bD6 <| A2 bD7 <| A2 bD8 <| A2 bD9 <| A2 aYu <| A2 aYv <| A2 bDa <| A2 bDb <| A2 bDc <| A2 bDd <| A2 bDe <| A2 bDf <| A2 bDg <| A2 bDh <| A2 aLi <| A2 aLj <| A2 aLk <| A2 aLl <| A2 aLm <| A2 aLn <| A2 aLo <| A2 aLp <| A2 aLq <| A2 aLr <| A2 aLs <| A2 aLt <| A2 aLu <| A2 aLv <| A2 aLw <| A2 aLx <| A2 aLy <| A2 aLz <| A2 aM0 <| A2 aM1 <| A2 aM2 <| A2 aM3 <| A2 aM4 <| A2 aM5 <| A2 aM6 <| A2 aM7 <| A2 aM8 <| A2 aM9 <| A2 aMa <| A2 aMb <| A2 aMc <| A2 aMd <| A2 aMe <| A2 aMf <| A2 aMg <| A2 aMh <| A2 aR6 <| A2 aR7 <| A2 aR8 <| A2 aR9 <| A2 aRa <| A2 aRb <| A2 aMi <| A2 aMj <| A2 aRc <| A2 aRd <| A2 aRe <| A2 aRf <| A2 aRg <| A2 aRh <| A2 aRi <| A2 aRj <| A2 aRk <| A2 aRl <| A2 aRm <| A2 aRn <| A2 aRo <| A2 aRp <| A2 aRq <| A2 aRr <| A2 aRs <| A2 aRt <| A2 aRu <| A2 aRv <| A2 aRw <| A2 aRx <| A2 aRy <| A2 aRz <| A2 aS0 <| A2 aS1 <| A2 aS2 <| A2 aS3 <| A2 aS4 <| A2 aS5 <| A2 aS6 <| A2 aS7 <| A2 aS8 <| A2 aS9 <| A2 aSa <| A2 aSb <| A2 aSc <| A2 aSd <| A2 aSe <| A2 aSf <| A2 aSg <| A2 aSh <| A2 aSi <| A2 aSj <| A2 aSk <| A2 aSl <| A2 aZ6 <| A2 aZ7 <| A2 bE5 <| A2 bE6 <| A2 bE7 <| A2 bE8 <| A2 bE9 <| A2 bEa <| A2 aZ8 <| A2 aZ9 <| A2 bEb <| A2 bEc <| A2 bEd <| A2 bEe <| A2 bEf <| A2 bEg <| A2 bEh <| A2 bEi <| A2 aZa <| A2 aZb <| A2 aZc <| A2 ld2 <| A2 aZd <| A2 aZe <| A2 bEj <| A2 aZf <| A2 aZg <| A2 aZh <| A2 bEk <| A2 bEl <| A2 bEm <| A2 bEn <| A2 bEo <| A2 ld3 <| A2 bEp <| A2 bEq <| A2 aZi <| A2 aZj <| A2 ld4 <| A2 bEr <| A2 ld5 <| A2 bEs <| A2 bEt <| A2 bEu <| A2 bEv <| A2 bEw <| A2 bEx <| A2 bEy <| A2 bEz <| A2 bF0 <| A2 bF1 <| A2 ld9 <| A2 bF2 <| A2 bF3 <| A2 aSm <| A2 aSn <| A2 aZk <| A2 aZl <| A2 aZm <| A2 aZn <| A2 aZo <| A2 aZp <| A2 aSo <| A2 aSp <| A2 aZq <| A2 aZr <| A2 aZs <| A2 aZt <| A2 aZu <| A2 aZv <| A2 bF4 <| A2 aZw <| A2 aZx <| A2 bF5 <| A2 bF6 <| A2 bF7 <| A2 bF8 <| A2 bFa <| A2 bFb <| A2 bFc <| A2 bFe <| A2 bFf <| A2 bFg <| A2 bFh <| A2 aZy <| A2 aZz <| A2 bA0 <| A2 bA1 <| A2 bA2 <| A2 bFi <| A2 bA3 <| A2 bA4 <| A2 bFj <| A2 bFk <| A2 bFl <| A2 bFm <| A2 bFn <| A2 st3 <| A2 bFo <| A2 bFp <| A2 bA5 <| A2 st4 <| A2 bFq <| A2 st5 <| A2 bFr <| A2 bFs <| A2 bFt <| A2 bFu <| A2 bFv <| A2 bFw <| A2 bFx <| A2 bFy <| A2 bFz <| A2 st9 <| A2 bG0 <| bG1):=A2 aR5 <| A2 aY5 <| A2 aY6 <| A2 aY7 <| A2 aY8 <| A2 aY9 <| A2 aYa <| A2 aYb <| A2 aYc <| A2 aYd <| A2 aYe <| A2 aYf <| A2 aYg <| A2 aYh <| A2 aYi <| A2 aYj <| A2 aYk <| A2 aYl <| A2 aYm <| A2 aYn <| A2 aYo <| A2 aYp <| A2 aYq <| A2 aYr <| A2 bCr <| A2 aYs <| A2 bCs <| A2 bCt <| A2 bCu <| A2 bCv <| A2 bCw <| A2 bCx <| A2 bCy <| A2 bCz <| A2 bD0 <| A2 bD1 <| A2 bD2 <| A2 bD3 <| A2 aYt <| A2 bD4 <| A2 bD5 <| A2 bD6 <| A2 bD7 <| A2 bD8 <| A2 bD9 <| A2 aYu <| A2 aYv <| A2 bDa <| A2 bDb <| A2 bDc <| A2 bDd <| A2 bDe <| A2 bDf <| A2 bDg <| A2 bDh <| A2 aLi <| A2 aLj <| A2 aLk <| A2 aLl <| A2 aLm <| A2 aLn <| A2 aLo <| A2 aLp <| A2 aLq <| A2 aLr <| A2 aLs <| A2 aLt <| A2 aLu <| A2 aLv <| A2 aLw <| A2 aLx <| A2 aLy <| A2 aLz <| A2 aM0 <| A2 aM1 <| A2 aM2 <| A2 aM3 <| A2 aM4 <| A2 aM5 <| A2 aM6 <| A2 aM7 <| A2 aM8 <| A2 aM9 <| A2 aMa <| A2 aMb <| A2 aMc <| A2 aMd <| A2 aMe <| A2 aMf <| A2 aMg <| A2 aMh <| A2 aR6 <| A2 aR7 <| A2 aR8 <| A2 aR9 <| A2 aRa <| A2 aRb <| A2 aMi <| A2 aMj <| A2 aRc <| A2 aRd <| A2 aRe <| A2 aRf <| A2 aRg <| A2 aRh <| A2 aRi <| A2 aRj <| A2 aRk <| A2 aRl <| A2 aRm <| A2 aRn <| A2 aRo <| A2 aRp <| A2 aRq <| A2 aRr <| A2 aRs <| A2 aRt <| A2 aRu <| A2 aRv <| A2 aRw <| A2 aRx <| A2 aRy <| A2 aRz <| A2 aS0 <| A2 aS1 <| A2 aS2 <| A2 aS3 <| A2 aS4 <| A2 aS5 <| A2 aS6 <| A2 aS7 <| A2 aS8 <| A2 aS9 <| A2 aSa <| A2 aSb <| A2 aSc <| A2 aSd <| A2 aSe <| A2 aSf <| A2 aSg <| A2 aSh <| A2 aSi <| A2 aSj <| A2 aSk <| A2 aSl <| A2 aZ6 <| A2 aZ7 <| A2 bE5 <| A2 bE6 <| A2 bE7 <| A2 bE8 <| A2 bE9 <| A2 bEa <| A2 aZ8 <| A2 aZ9 <| A2 bEb <| A2 bEc <| A2 bEd <| A2 bEe <| A2 bEf <| A2 bEg <| A2 bEh <| A2 bEi <| A2 aZa <| A2 aZb <| A2 aZc <| A2 ld2 <| A2 aZd <| A2 aZe <| A2 bEj <| A2 aZf <| A2 aZg <| A2 aZh <| A2 bEk <| A2 bEl <| A2 bEm <| A2 bEn <| A2 bEo <| A2 ld3 <| A2 bEp <| A2 bEq <| A2 aZi <| A2 aZj <| A2 ld4 <| A2 bEr <| A2 ld5 <| A2 bEs <| A2 bEt <| A2 bEu <| A2 bEv <| A2 bEw <| A2 bEx <| A2 bEy <| A2 bEz <| A2 bF0 <| A2 bF1 <| A2 ld9 <| A2 bF2 <| A2 bF3 <| A2 aSm <| A2 aSn <| A2 aZk <| A2 aZl <| A2 aZm <| A2 aZn <| A2 aZo <| A2 aZp <| A2 aSo <| A2 aSp <| A2 aZq <| A2 aZr <| A2 aZs <| A2 aZt <| A2 aZu <| A2 aZv <| A2 bF4 <| A2 aZw <| A2 aZx <| A2 bF5 <| A2 bF6 <| A2 bF7 <| A2 bF8 <| A2 bFa <| A2 bFb <| A2 bFc <| A2 bFe <| A2 bFf <| A2 bFg <| A2 bFh <| A2 aZy <| A2 aZz <| A2 bA0 <| A2 bA1 <| A2 bA2 <| A2 bFi <| A2 bA3 <| A2 bA4 <| A2 bFj <| A2 bFk <| A2 bFl <| A2 bFm <| A2 bFn <| A2 st3 <| A2 bFo <| A2 bFp <| A2 bA5 <| A2 st4 <| A2 bFq <| A2 st5 <| A2 bFr <| A2 bFs <| A2 bFt <| A2 bFu <| A2 bFv <| A2 bFw <| A2 bFx <| A2 bFy <| A2 bFz <| A2 st9 <| A2 bG0 <| bG1
theorem ls:(∀ {α:Type} (a:α) (l:List α),(a::l)[0]?=some a)∧(∀ {α:Type} (a:α) (l:List α) (i:Nat),(a::l)[i+1]?=l[i]?)∧(∀ {α:Type} (i:Nat),([]:List α)[i]?=none)∧(∀ {α:Type} (a:α) (l:List α),(a::l).length=l.length+1)∧(∀ {α:Type},([]:List α).length=0) ∧
  (∀ {α:Type} (l:List α),l.drop 0=l)∧(∀ {α:Type} (a:α) (l:List α) (i:Nat),(a::l).drop (i+1)=l.drop i)∧(∀ {α:Type} (l:List α),l.take 0=[])∧(∀ {α:Type} (a:α) (l:List α) (i:Nat),(a::l).take (i+1)=a::l.take i)∧(∀ {α:Type} (i:Nat),([]:List α).take i=[])∧(∀ {α:Type} (i:Nat),([]:List α).drop i=[]) ∧
  (∀ {α:Type} (l:List α),[]++l=l)∧(∀ {α:Type} (a:α) (l m:List α),a::l++m=a::(l++m))∧(∀ {α:Type} (a b:α) (l:List α),(a::l).set 0 b=b::l)∧(∀ {α:Type} (a b:α) (l:List α) (i:Nat),(a::l).set (i+1) b=a::l.set i b) ∧
  (∀ b:Bool,(true&&b)=b)∧(∀ b:Bool,(b&&true)=b)∧(∀ b:Bool,(!!b)=b)∧(∀ {p q:Prop},(if true=true then p else q)=p)∧(∀ {p q:Prop},(if false=true then p else q)=q)∧(!true)=false∧(!false)=true∧(∀ {α:Type} (a b:α),(if True then a else b)=a)∧(∀ {α:Type} (a b:α),(if False then a else b)=b)∧(∀ n:Nat,0+n=n)∧(∀ n:Nat,n+0=n)∧(∀ {α:Type} (f:α→List V) (l:List α),(l.map f).length=l.length) ∧
  (∀ (p:Prop) [Decidable p],(decide p=true)=p)∧(∀ (p:Prop) [Decidable p],((!decide p)=true)=¬ p)∧(∀ p:Prop,(p∧True)=p)∧(∀ p:Prop,(True∧p)=p)∧(∀ n:Nat,(n≤n)=True)∧(∀ n:Nat,(0≤n)=True)∧(∀ (a:Nat),(a=a)=True):=
 ⟨fun _ _=>rfl,fun _ _ _=>rfl,fun _=>rfl,fun _ _=>rfl,rfl,fun _=>rfl,fun _ _ _=>rfl,fun _=>rfl,fun _ _ _=>rfl,fun _=>by simp,fun _=>by simp,fun _=>rfl,fun _ _ _=>rfl,fun _ _ _=>rfl,fun _ _ _ _=>rfl,Bool.true_and,Bool.and_true,Bool.not_not,by intros;rfl,by intros;rfl,rfl,rfl,fun _ _=>if_pos trivial,fun _ _=>if_neg id,Nat.zero_add,Nat.add_zero,fun _ _=>List.length_map ..,fun p _=>by simp,fun p _=>by simp,and_true,true_and,fun n=>by simp,fun n=>by simp,fun n=>by simp⟩
theorem gm (n:Nat) (S:St) (a v:Nat):aB ⟨n,S.heap⟩ a v=aB S a v:=rfl
theorem bG9 {l:List Int} {i:Nat} {a:Int} (hi:l[i]?=some a) (k:IntKind):gF 1 (.imm (l.map dF)) (.int k (i:Int))=.ok (.iptr (dF a) 0):=ixI (enc:=dF) hi rfl k
theorem uD {l:List Rate} {i:Nat} {a:Rate} (hi:l[i]?=some a) (k:IntKind):gF 5 (.imm (l.map Rate.enc)) (.int k (i:Int))=.ok (.iptr a.enc 0):=ixI (enc:=Rate.enc) hi rfl k
theorem rL {l:List Ser} {i:Nat} {a:Ser} (hi:l[i]?=some a) (k:IntKind):gF 4 (.imm (l.map Ser.enc)) (.int k (i:Int))=.ok (.iptr a.enc 0):=ixI (enc:=Ser.enc) hi rfl k
theorem rM {l:List Sess} {i:Nat} {a:Sess} (hi:l[i]?=some a) (k:IntKind):gF 5 (.imm (l.map Sess.enc)) (.int k (i:Int))=.ok (.iptr a.enc 0):=ixI (enc:=Sess.enc) hi rfl k
theorem yR {l:List Bal} {i:Nat} {a:Bal} (hi:l[i]?=some a) (k:IntKind):gF 2 (.imm (l.map Bal.enc)) (.int k (i:Int))=.ok (.iptr a.enc 0):=ixI (enc:=Bal.enc) hi rfl k
theorem pA {l:List Part} {i:Nat} {a:Part} (hi:l[i]?=some a) (k:IntKind):gF 4 (.imm (l.map Part.enc)) (.int k (i:Int))=.ok (.iptr a.enc 0):=ixI (enc:=Part.enc) hi rfl k
theorem bB8 {l:List Line} {i:Nat} {a:Line} (hi:l[i]?=some a) (k:IntKind):gF 4 (.imm (l.map Line.enc)) (.int k (i:Int))=.ok (.iptr a.enc 0):=ixI (enc:=Line.enc) hi rfl k
theorem bP {α:Type} {l:List α} {i:Nat} {a:α} (h:l[i]?=some a):((i:Int)<(l.length:Int))=True:=by
 have:=(List.getElem?_eq_some_iff.1 h).1
 simp;exact this
theorem lH {i:Nat} (h:i<1000000000):wr .i64 ((i:Int)+1)=((i+1:Nat):Int):=by rw [pQ (by omega) (by omega)];omega
theorem wrm {i:Nat} (h:i+1<1000000000):wr .i64 (((i+1:Nat):Int) - 1)=(i:Int):=by rw [pQ (by omega) (by omega)];omega
theorem gt0 (i:Nat):((0:Int)<((i+1:Nat):Int))=True:=by simp
theorem aSx {n i a:Nat} (h:(List.range n)[i]?=some a):i<n∧a=i:=by
 have hl:i<n:=by simpa using (List.getElem?_eq_some_iff.1 h).1
 rw [List.getElem?_range hl] at h
 exact ⟨hl,(Option.some.inj h).symm⟩
theorem oo : (∀ (S : St) (v : V), jU S v = cD jF (kR (hU S 3) S) v) ∧ (∀ (σ : V → Go.AM.R V) (l : List V), cD jF σ (.tup l) = (match frzVs jF σ l with
      | .ok cs => .ok (.tup cs)
      | .error e => .error e)) ∧ (∀ (σ : V → Go.AM.R V) (l : List V), cD jF σ (.agg l) = (match frzVs jF σ l with
      | .ok cs => .ok (.agg cs)
      | .error e => .error e)) ∧ (∀ σ : V → Go.AM.R V, frzVs jF σ [] = .ok []) ∧ (∀ (σ : V → Go.AM.R V) (v : V) (l : List V), frzVs jF σ (v :: l) = (match cD jF σ v with
      | .ok v => (match frzVs jF σ l with
        | .ok l => .ok (v :: l)
        | .error e => .error e)
      | .error e => .error e)) ∧ (∀ (σ : V → Go.AM.R V) (b : Bool), cD jF σ (.bool b) = .ok (.bool b)) ∧ (∀ (σ : V → Go.AM.R V) (k : IntKind) (n : Int), cD jF σ (.int k n) = .ok (.int k n)) ∧ (∀ (σ : V → Go.AM.R V) (s : List UInt8), cD jF σ (.str s) = .ok (.str s)) ∧
    (∀ (σ : V → Go.AM.R V) (es : List (List V)), cD jF σ (.imm es) = .ok (.imm es)) ∧ (∀ σ : V → Go.AM.R V, cD jF σ .nils = .ok (.imm [])) ∧ (∀ (σ : V → Go.AM.R V) (a b c d e : Nat), cD jF σ (.sl a b c d e) = σ (.sl a b c d e)) :=
  ⟨fun _ _ => rfl, fun σ l => by simp only [cD] <;> rfl, fun σ l => by simp only [cD] <;> rfl, fun _ => rfl, fun σ v l => by simp only [frzVs] <;> rfl, fun _ _ => rfl, fun _ _ _ => rfl, fun _ _ => rfl, fun _ _ => rfl, fun _ => rfl, fun _ _ _ _ _ _ => rfl⟩
theorem unK:(∀ (k:IntKind) (n:Int),unV .neg (.int k n)=.ok (.int k (wr k (0 - n))))∧(∀ n:Int,unV .xor (.int .u64 n)=.ok (.int .u64 (aCp n))):=⟨fun _ _=>rfl,fun _=>rfl⟩
theorem nk:(∀ n:Nat,(0=n+1)=False)∧(∀ n:Nat,(n+1=0)=False)∧(∀ n m:Nat,(n+1=m+1)=(n=m))∧(∀ {α:Type} {a b:α},(a≠b)=¬ a=b)∧(¬ False)=True:=⟨fun n=>by simp,fun n=>by simp,fun n m=>by simp,by intros;rfl,by simp⟩
theorem ex:type_of% (A2 aYw <| A2 aYx <| A2 aYy <| A2 aYz <| A2 aZ0 <| A2 aZ1 <| A2 aZ2 <| A2 aZ3 <| A2 aZ4 <| A2 aZ5 <| A2 bDo <| A2 bDp <| A2 bDr <| A2 bDs <| A2 bDu <| A2 bDv <| A2 bDx <| A2 bDy <| A2 bE0 <| A2 bE1 <| A2 bE3 <| bE4):=A2 aYw <| A2 aYx <| A2 aYy <| A2 aYz <| A2 aZ0 <| A2 aZ1 <| A2 aZ2 <| A2 aZ3 <| A2 aZ4 <| A2 aZ5 <| A2 bDo <| A2 bDp <| A2 bDr <| A2 bDs <| A2 bDu <| A2 bDv <| A2 bDx <| A2 bDy <| A2 bE0 <| A2 bE1 <| A2 bE3 <| bE4
theorem agK (P : Program) : (∀ (t : TypeId) (a b : List V), bK P .eql t (.agg a) (.agg b) = (match pX P 100 t (.agg a) (.agg b) with
      | .ok r => .ok (.bool r)
      | .error e => .error e)) ∧ (∀ (t : TypeId) (a b : List V), bK P .neq t (.agg a) (.agg b) = (match pX P 100 t (.agg a) (.agg b) with
      | .ok r => .ok (.bool (!r))
      | .error e => .error e)) := ⟨fun _ _ _ => rfl, fun _ _ _ => rfl⟩
theorem kk:type_of% (A2 sf <| A2 ex <| A2 (agK prog) <| A2 bAe <| A2 nk <| A2 kit <| A2 (bG7 prog) <| A2 bG8 <| A2 fx ls):=A2 sf <| A2 ex <| A2 (agK prog) <| A2 bAe <| A2 nk <| A2 kit <| A2 (bG7 prog) <| A2 bG8 <| A2 fx ls
theorem bKj (y:Int) (S:St) (K:KW):C 204 [.int .i64 y] S K=K (.bool (aK2 y)) S:=by
 refine (bJ7 rfl ?_).eq S K
 delta Tryz.f204;simp only [↓cw,↓reduceIte,Nat.reduceLT,kk,ne_eq,Int.reduceEq,not_false_eq_true,aK2]
 grind
theorem bGc (y m:Int) (S:St) (K:KW):C 132 [.int .i64 y,.int .i64 m] S K=K (.int .i64 (eY y m)) S:=by
 refine (bIf rfl ?_).eq S K
 delta Tryz.f132;simp only [↓cw,↓reduceIte,Nat.reduceLT,kk,bKj,eY]
 grind
theorem aHr (d:Date) (S:St) (K:KW):C 123 [.agg [.int .i64 d.y,.int .i64 d.m,.int .i64 d.d]] S K=K (.bool d.right) S:=by
 refine (bIc rfl ?_).eq S K
 delta Tryz.f123;simp only [↓cw,↓reduceIte,Nat.reduceLT,kk,bGc,Date.right]
 grind
theorem bKk (y:Int) (S:St) (K:KW):C 131 [.int .i64 y] S K=K (.int .i64 (ahead y)) S:=by
 refine (bIe rfl ?_).eq S K
 delta Tryz.f131;simp only [↓cw,↓reduceIte,Nat.reduceLT,kk,ne_eq,Int.reduceEq,not_false_eq_true,ahead]
theorem bKl (d:Date) (S:St) (K:KW):C 200 [.agg [.int .i64 d.y,.int .i64 d.m,.int .i64 d.d]] S K=K (.int .i64 d.days) S:=by
 refine (bJ5 rfl ?_).eq S K
 delta Tryz.f200;simp only [↓cw,↓reduceIte,Nat.reduceLT,kk,aHr,bKk,Date.days]
 by_cases hr:d.right=true
 ·simp only [↓cw,↓reduceIte,Nat.reduceLT,hr,kk]
  have hm:1≤d.m∧d.m≤12:=by simp only [Date.right,Bool.and_eq_true,decide_eq_true_eq] at hr;omega
  refine aH (List.range (d.m - 1).toNat) (step:=lE d.y) (fin:=id) (fun i n vs S=>vs=[.int .i64 n,.int .i64 ((i:Int)+1)]∧aB S 0 0=.ok (3,[d.enc])) (fun r=>V.int .i64 (wr .i64 (wr .i64 (r+d.d) - 1))=.int .i64 (wr .i64 (wr .i64 (aC (lE d.y) id (List.range (d.m - 1).toNat) (ahead d.y)+d.d) - 1))) ?_ ?_ ⟨rfl,by simp only [↓cw,↓reduceIte,Nat.reduceLT,kk];rfl⟩ rfl
  ·rintro i a n vs S hi ⟨rfl,hg⟩ aD H
   obtain ⟨hil,rfl⟩:=aSx hi
   simp only [lE] at H
   simp only [↓cw,↓reduceIte,Nat.reduceLT,kk,hg,Date.enc,bGc]
   rw [if_pos (by omega)]
   refine H _ _ ⟨?_,hg⟩
   rw [pQ (n:=(a:Int)+1+1) (by omega) (by omega)]
   simp
  ·rintro n vs S ⟨rfl,hg⟩ aD H
   simp only [↓cw,↓reduceIte,Nat.reduceLT,kk,hg,Date.enc]
   rw [if_neg (by simp;omega)]
   exact H
 ·have hr:d.right=false:=by simpa using hr
  simp only [↓cw,↓reduceIte,Nat.reduceLT,hr,kk]
theorem aVv (a b:Date) (S:St) (K:KW):C 124 [.agg [.int .i64 a.y,.int .i64 a.m,.int .i64 a.d],.agg [.int .i64 b.y,.int .i64 b.m,.int .i64 b.d]] S K=K (.bool (a.before b)) S:=by
 refine (bId rfl ?_).eq S K
 delta Tryz.f124;simp only [↓cw,↓reduceIte,Nat.reduceLT,kk,gZ,aHr,bKl,Date.before]
 cases a.right<;>cases b.right<;>simp
theorem bKm (n:Int) (S:St) (K:KW):C 286 [.int .i64 n] S K=K (.int .u64 (nH n)) S:=by
 refine (bJy rfl ?_).eq S K
 delta Tryz.f286;simp only [↓cw,↓reduceIte,Nat.reduceLT,kk,unK,nH]
 split<;>rfl
theorem bKn (n:Int) (b:Bool) (S:St) (K:KW):C 287 [.int .u64 n,.bool b] S K=K (.tup [.int .i64 (aA4 n b).1,.bool (aA4 n b).2]) S:=by
 refine (bJz rfl ?_).eq S K
 delta Tryz.f287;simp only [↓cw,↓reduceIte,Nat.reduceLT,kk,unK,oo,aA4]
 cases b<;>simp
theorem aVw (a b:Int) (S:St) (K:KW):C 203 [.int .i64 a,.int .i64 b] S K=K (fN (cZ a b)) S:=by
 refine (bJ6 rfl ?_).eq S K
 delta Tryz.f203;simp only [↓cw,↓reduceIte,Nat.reduceLT,kk,oo,cZ,fN]
 grind
theorem bB9 (a b:Int) (S:St) (K:KW):C 219 [.int .i64 a,.int .i64 b] S K=K (fN (iZ a b)) S:=by
 refine (bJb rfl ?_).eq S K
 delta Tryz.f219;simp only [↓cw,↓reduceIte,Nat.reduceLT,kk,oo,iZ,fN]
 grind
theorem bKo:(fun (a b:Bool)=>bK prog .neq 4 (.bool a) (.bool b))=fun a b=>.ok (.bool (!(a == b))):=by kernel_rfl
theorem bKp (a b:Bool):bK prog .neq 4 (.bool a) (.bool b)=.ok (.bool (!(a == b))):=congrFun (congrFun bKo a) b
theorem bKq (a b:Int) (S:St) (K:KW):C 279 [.int .i64 a,.int .i64 b] S K=K (fN (aK3 a b)) S:=by
 refine (bJx rfl ?_).eq S K
 delta Tryz.f279;simp only [↓cw,↓reduceIte,Nat.reduceLT,kk,bKm,bKn,bKp,oo,fN,aK3]
 by_cases h:0<nH b
 ·have h0:nH b≠0:=by omega
  simp only [↓cw,↓reduceIte,Nat.reduceLT,h,h0,kk,ne_eq,not_false_eq_true]
  grind
 ·simp only [↓cw,↓reduceIte,Nat.reduceLT,h,kk]
  grind
theorem bKr (n bp:Int) (S:St) (K:KW):C 254 [.int .i64 n,.int .i64 bp,.int .i64 10000] S K=K (fN (bH n bp)) S:=by
 refine (bJr rfl ?_).eq S K
 delta Tryz.f254;simp only [↓cw,↓reduceIte,Nat.reduceLT,kk,unK,oo,fN,bB7,aBc,ne_eq,Int.reduceEq,not_false_eq_true]
 unfold bH
 simp only [nH]
 by_cases hn:n<0<;>simp only [↓cw,↓reduceIte,Nat.reduceLT,hn,kk,if_true,if_false,aBc]
 all_goals
  by_cases hp:wr .u64 bp=0
  ·simp only [↓cw,↓reduceIte,Nat.reduceLT,hp,kk,aBc]
   grind
  ·simp only [↓cw,↓reduceIte,Nat.reduceLT,hp,kk,aBc,ne_eq,not_false_eq_true]
   grind
theorem bGd (n bp:Int) (S:St) (K:KW):C 217 [.int .i64 n,.int .i64 bp] S K=K (fN (bH n bp)) S:=by
 refine (bJ9 rfl ?_).eq S K
 delta Tryz.f217;simp only [↓cw,↓reduceIte,Nat.reduceLT,kk,bKr,fN,oo]
end Go.Proofs.YtoaibmbldmckaaaGreat
end
