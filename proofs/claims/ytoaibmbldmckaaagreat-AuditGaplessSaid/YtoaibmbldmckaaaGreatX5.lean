import Derived.Test.YtoaibmbldmckaaaGreatX4
set_option linter.unusedSimpArgs false
set_option linter.unusedVariables false
set_option linter.unusedSectionVars false
set_option maxRecDepth 100000
section
namespace Go.Proofs.YtoaibmbldmckaaaGreat
open Go.AM Tryz
theorem aXj (l:List Posted) (name:List UInt8):rI l name≤l.length:=by
 unfold rI
 have:=List.length_filter_le (fun p:Posted=>p.ref.ser == name) l
 omega
def aNz (done:List Posted) (p:Posted):Int⊕List Posted:=if p.ref.num=rI done p.ref.ser+1 then .inr (done++[p]) else .inl (done.length:Int)
def mH (l:List Posted):Int:=aS aNz (fun _=>-1) l []
theorem aXz:∀ (l done:List Posted),aS aNz (fun _=>-1) l done=-1↔∀ i p,l[i]?=some p→p.ref.num=rI (done++l.take i) p.ref.ser+1
 | [],done=>⟨fun _ i p h=>(by cases h),fun _=>rfl⟩
 | q::l,done=>by
  unfold aS aNz
  by_cases h:q.ref.num=rI done q.ref.ser+1
  ·rw [if_pos h]
   show aS aNz (fun _=>-1) l (done++[q])=-1↔_
   rw [aXz l (done++[q])]
   constructor
   ·intro g i p hi
    cases i with
    | zero=>cases hi;simpa using h
    | succ i=>have:=g i p (by simpa using hi);simpa using this
   ·intro g i p hi
    have:=g (i+1) p (by simpa using hi)
    simpa using this
  ·rw [if_neg h]
   show (done.length:Int)=-1↔_
   constructor
   ·intro e;omega
   ·intro g
    exact absurd (by simpa using g 0 q rfl) h
theorem aE3 (l:List Posted):mH l=-1↔∀ i p,l[i]?=some p→p.ref.num=rI (l.take i) p.ref.ser+1:=by
 have:=aXz l []
 simpa [mH] using this
def dC (l:List Posted) (k:Nat):List Posted:=l.take k++l.drop (k+1)
theorem yD {l:List Posted} {k:Nat} {q:Posted} (hq:l[k]?=some q) (name:List UInt8):rI l name=rI (dC l k) name+(if q.ref.ser=name then 1 else 0):=by
 have e:l=l.take k++([q]++l.drop (k+1)):=by
  have h:=(List.getElem?_eq_some_iff.1 hq)
  obtain ⟨h1,h2⟩:=h
  rw [←h2,List.singleton_append,List.getElem_cons_drop,List.take_append_drop]
 unfold dC
 rw [gM]
 conv=>lhs;rw [e,gM,gM,sG]
 omega
theorem aIc {l:List Posted} {k i:Nat} (hi:k≤i) (hk:k<l.length):(dC l k)[i]?=l[i+1]?:=by
 unfold dC
 rw [List.getElem?_append_right (by rw [List.length_take];omega),List.length_take,List.getElem?_drop,Nat.min_eq_left (by omega)]
 congr 1;omega
theorem aR2 {l:List Posted} {k i:Nat} (hi:i<k) (hk:k<l.length):(dC l k)[i]?=l[i]?:=by
 unfold dC
 rw [List.getElem?_append_left (by rw [List.length_take];omega),List.getElem?_take,if_pos hi]
theorem aCq {l:List Posted} {k i:Nat} (hi:i≤k) (hk:k<l.length):(dC l k).take i=l.take i:=by
 unfold dC
 rw [List.take_append_of_le_length (by rw [List.length_take];omega),List.take_take,Nat.min_eq_left hi]
theorem aE4 {l:List Posted} {k i:Nat} (hi:k≤i) (hk:k<l.length):(dC l k).take i=dC (l.take (i+1)) k:=by
 unfold dC
 rw [List.take_append,List.length_take,Nat.min_eq_left (by omega),List.take_take,List.take_take,List.drop_take,Nat.min_eq_right hi,Nat.min_eq_left (by omega)]
 congr 2;omega
theorem aO0 {l:List Posted} {k:Nat} {q:Posted} (h:∀ i p,l[i]?=some p→p.ref.num=rI (l.take i) p.ref.ser+1) (hq:l[k]?=some q):mH (dC l k)=-1↔∀ p∈l.drop (k+1),p.ref.ser≠q.ref.ser:=by
 have hk:=(List.getElem?_eq_some_iff.1 hq).1
 have hqt:∀ i,k≤i→(l.take (i+1))[k]?=some q:=fun i hi=>by rw [List.getElem?_take,if_pos (by omega),hq]
 rw [aE3]
 constructor
 ·intro g p hp e
  obtain ⟨j,hj⟩:=List.mem_iff_getElem?.1 hp
  rw [List.getElem?_drop] at hj
  have h1:=h _ p hj
  have h2:=g (k+j) p (by rw [aIc (by omega) hk,←hj];congr 1;omega)
  rw [aE4 (by omega) hk] at h2
  have h3:=yD (hqt (k+j) (by omega)) p.ref.ser
  rw [if_pos e.symm] at h3
  rw [show k+1+j=k+j+1 by omega] at h1
  omega
 ·intro g i p hp
  by_cases hi:i<k
  ·rw [aR2 hi hk] at hp
   rw [aCq (by omega) hk]
   exact h i p hp
  ·rw [aIc (by omega) hk] at hp
   have h1:=h _ p hp
   have h3:=yD (hqt i (by omega)) p.ref.ser
   have hm:p∈l.drop (k+1):=by
    refine List.mem_iff_getElem?.2 ⟨i - k,?_⟩
    rw [List.getElem?_drop,←hp];congr 1;omega
   rw [if_neg (fun e=>g p hm e.symm)] at h3
   rw [aE4 (by omega) hk]
   omega
theorem aKi {s:State} (h:bZ s=true) {k:Nat} {q:Posted} (hq:s.posted[k]?=some q):bZ { s with posted:=dC s.posted k }=false:=by
 cases e:bZ { s with posted:=dC s.posted k } with
 | false=>rfl
 | true=>
  obtain ⟨_,_,_,_,n1,_⟩:=(cU _).1 h
  obtain ⟨_,_,_,_,n2,_⟩:=(cU _).1 e
  obtain ⟨⟨sr,hs,hn⟩,_⟩:=n1.num k q hq
  have h1:=n1.next sr hs
  have h2:=n2.next sr hs
  have h3:=yD hq sr.name
  rw [if_pos hn.symm] at h3
  have h4:sr.next=rI (dC s.posted k) sr.name+1:=h2
  omega
structure ARow where
 cat:List UInt8
 bp:Int
 net:Int
 tax:Int
deriving DecidableEq
abbrev Key:=List UInt8×Int
def ARow.key (r:ARow):Key:=(r.cat,r.bp)
def pk (p:Part):Key:=(p.cat,p.bp)
def kLt (a b:Key):Prop:=fS a.1 b.1=true∨a.1=b.1∧a.2<b.2
theorem yE {a b c:Key} (h:kLt a b) (k:kLt b c):kLt a c:=by
 rcases h with h | ⟨h,h'⟩<;>rcases k with k | ⟨k,k'⟩
 ·exact .inl (gU h k)
 ·exact .inl (by rw [←k];exact h)
 ·exact .inl (by rw [h];exact k)
 ·exact .inr ⟨h.trans k,by omega⟩
theorem aC6 {a b:Key} (h:kLt a b):a≠b:=fun e=>by
 subst e
 rcases h with h | ⟨_,h⟩
 ·rw [uG] at h;cases h
 ·omega
theorem aXk (a b:Key):kLt a b∨a=b∨kLt b a:=by
 rcases wS a.1 b.1 with h | h | h
 ·exact .inl (.inl h)
 ·rcases Int.lt_trichotomy a.2 b.2 with k | k | k
  ·exact .inl (.inr ⟨h,k⟩)
  ·exact .inr (.inl (Prod.ext h k))
  ·exact .inr (.inr (.inr ⟨h.symm,k⟩))
 ·exact .inr (.inr (.inl h))
def fW (r:ARow) (p:Part):Bool:=if fS r.cat p.cat=true then true else if r.cat=p.cat then decide (r.bp<p.bp) else false
theorem mI (r:ARow) (p:Part):fW r p=true↔kLt r.key (pk p):=by
 unfold fW kLt ARow.key pk
 by_cases h:fS r.cat p.cat=true
 ·simp [h]
 ·by_cases e:r.cat=p.cat
  ·simp [h,e]
  ·simp [h,e]
def cE (l:List ARow) (p:Part):Nat:=kZ (fun r=>fW r p) l
def pZ (l:List ARow) (p:Part):Bool:=match l[cE l p]? with
 | none=>true
 | some r=>if r.cat=p.cat then !decide (r.bp=p.bp) else true
def fQ (l:List ARow) (p:Part):List ARow:=if pZ l p=true then fB l (cE l p) ⟨p.cat,p.bp,0,0⟩ else l
def jW (l:List ARow) (p:Part):Option (List ARow):=match (fQ l p)[cE l p]? with
 | none=>none
 | some r=>if (cN r.net p.net).2=0 then (if (cN r.tax p.tax).2=0 then some ((fQ l p).set (cE l p) { r with net:=(cN r.net p.net).1,tax:=(cN r.tax p.tax).1 }) else none) else none
def kS:List Part→List ARow→Option (List ARow)
 | [],l=>some l
 | p::ps,l=>match jW l p with
  | some l'=>kS ps l'
  | none=>none
def aKj (ps:List Part) (κ:Key):Int:=(ps.map fun p=>if pk p=κ then p.net else 0).sum
def aKk (ps:List Part) (κ:Key):Int:=(ps.map fun p=>if pk p=κ then p.tax else 0).sum
theorem aO1 (ps:List Part) (p:Part) (κ:Key):aKj (ps++[p]) κ=aKj ps κ+if pk p=κ then p.net else 0:=by simp [aKj]
theorem aO2 (ps:List Part) (p:Part) (κ:Key):aKk (ps++[p]) κ=aKk ps κ+if pk p=κ then p.tax else 0:=by simp [aKk]
theorem aR4 {ps:List Part} {κ:Key} (h:∀ p∈ps,pk p≠κ):aKj ps κ=0∧aKk ps κ=0:=by
 induction ps with
 | nil=>exact ⟨rfl,rfl⟩
 | cons p ps ih=>
  obtain ⟨h1,h2⟩:=ih fun q hq=>h q (List.mem_cons_of_mem _ hq)
  have h3:=h p (List.mem_cons_self ..)
  unfold aKj aKk at *
  simp only [List.map_cons,List.sum_cons,if_neg h3]
  omega
structure Rws (ps:List Part) (l:List ARow):Prop where
 srt:l.Pairwise (fun a b=>kLt a.key b.key)
 sum:∀ r∈l,r.net=aKj ps r.key∧r.tax=aKk ps r.key∧fK r.net∧fK r.tax
 mem:∀ κ,(∃ r∈l,r.key=κ)↔∃ p∈ps,pk p=κ
theorem Rws.nil:Rws [] []:=⟨.nil,fun r h=>(by cases h),fun κ=>⟨fun ⟨r,h,_⟩=>(by cases h),fun ⟨r,h,_⟩=>(by cases h)⟩⟩
theorem bBb {l:List ARow} (h:l.Pairwise (fun a b=>kLt a.key b.key)) {i j:Nat} {a b:ARow} (hi:l[i]?=some a) (hj:l[j]?=some b) (hne:i≠j):a.key≠b.key:=by
 obtain ⟨h1,rfl⟩:=List.getElem?_eq_some_iff.1 hi
 obtain ⟨h2,rfl⟩:=List.getElem?_eq_some_iff.1 hj
 rcases Nat.lt_or_gt_of_ne hne with k | k
 ·exact aC6 (List.pairwise_iff_getElem.1 h i j h1 h2 k)
 ·exact (aC6 (List.pairwise_iff_getElem.1 h j i h2 h1 k)).symm
theorem aId {l:List ARow} {p:Part} (h:l.Pairwise (fun a b=>kLt a.key b.key)) (hm:pZ l p=true):∀ x∈l,fW x p=false→kLt (pk p) x.key:=by
 intro x hx hf
 have hmono:∀ a b:ARow,kLt a.key b.key→fW a p=false→fW b p=false:=fun a b hab ha=>by
  cases e:fW b p with
  | false=>rfl
  | true=>
   have:=(mI a p).2 (yE hab ((mI b p).1 e))
   rw [ha] at this;cases this
 have hd:=rH (p:=fun r=>fW r p) h hmono hx hf
 have hsd:(l.dropWhile fun r=>fW r p).Pairwise (fun a b=>kLt a.key b.key):=h.sublist (List.dropWhile_suffix _).sublist
 have hg:l[cE l p]?=(l.dropWhile fun r=>fW r p)[0]?:=aLt _ l
 unfold pZ at hm
 rw [hg] at hm
 cases hdl:l.dropWhile (fun r=>fW r p) with
 | nil=>rw [hdl] at hd;cases hd
 | cons y t=>
  rw [hdl] at hd hm hsd
  have hy:fW y p=false:=xY (p:=fun r=>fW r p) (l:=l) (by rw [hdl];rfl)
  have hyk:kLt (pk p) y.key:=by
   rcases aXk (pk p) y.key with q | q | q
   ·exact q
   ·exfalso
    have e1:y.cat=p.cat:=(congrArg Prod.fst q).symm
    have e2:y.bp=p.bp:=(congrArg Prod.snd q).symm
    simp [e1,e2] at hm
   ·rw [(mI y p).2 q] at hy;cases hy
  rcases List.mem_cons.1 hd with rfl | hd
  ·exact hyk
  ·exact yE hyk ((List.pairwise_cons.1 hsd).1 x hd)
theorem Rws.room {ps:List Part} {l:List ARow} (h:Rws ps l) (p:Part):(fQ l p).Pairwise (fun a b=>kLt a.key b.key)∧(∀ r∈fQ l p,r.net=aKj ps r.key∧r.tax=aKk ps r.key∧fK r.net∧fK r.tax)∧(∀ κ,(∃ r∈fQ l p,r.key=κ)↔(∃ q∈ps,pk q=κ)∨pk p=κ)∧∃ r,(fQ l p)[cE l p]?=some r∧r.key=pk p:=by
 unfold fQ
 by_cases hm:pZ l p=true
 ·rw [if_pos hm]
  have hb:=aId h.srt hm
  have hab:∀ q∈ps,pk q≠pk p:=fun q hq e=>by
   obtain ⟨r,hr,he⟩:=(h.mem (pk p)).2 ⟨q,hq,e⟩
   cases ha:fW r p with
   | true=>exact aC6 ((mI r p).1 ha) he
   | false=>exact aC6 (hb r hr ha) he.symm
  refine ⟨?_,fun r hr=>?_,fun κ=>?_,⟨p.cat,p.bp,0,0⟩,?_,rfl⟩
  ·unfold cE
   rw [oP]
   exact mF h.srt (fun a b c=>yE) (fun x hx hp=>(mI x p).1 hp) hb
  ·rcases (fE _ _ _ _).1 hr with rfl | hr
   ·obtain ⟨z1,z2⟩:=aR4 hab
    exact ⟨z1.symm,z2.symm,by show fK 0;constructor<;>decide,by show fK 0;constructor<;>decide⟩
   ·exact h.sum r hr
  ·constructor
   ·rintro ⟨r,hr,e⟩
    rcases (fE _ _ _ _).1 hr with rfl | hr
    ·exact .inr e
    ·exact .inl ((h.mem κ).1 ⟨r,hr,e⟩)
   ·rintro (hq | e)
    ·obtain ⟨r,hr,e⟩:=(h.mem κ).2 hq
     exact ⟨r,(fE _ _ _ _).2 (.inr hr),e⟩
    ·exact ⟨_,(fE _ _ _ _).2 (.inl rfl),e⟩
  ·have hle:cE l p≤l.length:=by
    unfold cE kZ;rw [oO,Nat.zero_add];exact (List.takeWhile_prefix _).length_le
   unfold fB
   rw [List.getElem?_append_right (by rw [List.length_take];omega),List.length_take,Nat.min_eq_left hle,Nat.sub_self]
   rfl
 ·rw [if_neg hm]
  have hg:∃ r,l[cE l p]?=some r∧r.key=pk p:=by
   unfold pZ at hm
   cases e:l[cE l p]? with
   | none=>rw [e] at hm;exact absurd rfl hm
   | some r=>
    rw [e] at hm
    refine ⟨r,rfl,?_⟩
    by_cases e1:r.cat=p.cat
    ·by_cases e2:r.bp=p.bp
     ·exact Prod.ext e1 e2
     ·simp [e1,e2] at hm
    ·simp [e1] at hm
  obtain ⟨r,hr,hk⟩:=hg
  have hrm:r∈l:=List.mem_of_getElem? hr
  refine ⟨h.srt,h.sum,fun κ=>?_,r,hr,hk⟩
  rw [h.mem κ]
  constructor
  ·exact .inl
  ·rintro (q | q)
   ·exact q
   ·exact (h.mem κ).1 ⟨r,hrm,hk.trans q⟩
theorem Rws.enter {ps:List Part} {l l':List ARow} (h:Rws ps l) {p:Part} (h1:fK p.net) (h2:fK p.tax) (he:jW l p=some l'):Rws (ps++[p]) l':=by
 obtain ⟨q1,q2,q3,r,hr,hk⟩:=h.room p
 unfold jW at he
 rw [hr] at he
 simp only at he
 split at he
 ·rename_i n0
  split at he
  ·rename_i x0
   have he:=Option.some.inj he
   subst he
   have hrm:=List.mem_of_getElem? hr
   obtain ⟨s1,s2,i1,i2⟩:=q2 r hrm
   have hkl:=(List.getElem?_eq_some_iff.1 hr).1
   have sn:fK (r.net+p.net)∧(cN r.net p.net).1=r.net+p.net:=by
    rw [oM i1 h1] at n0 ⊢
    split at n0
    ·rename_i q;rw [if_pos q];exact ⟨q,rfl⟩
    ·cases n0
   have sx:fK (r.tax+p.tax)∧(cN r.tax p.tax).1=r.tax+p.tax:=by
    rw [oM i2 h2] at x0 ⊢
    split at x0
    ·rename_i q;rw [if_pos q];exact ⟨q,rfl⟩
    ·cases x0
   rw [sn.2,sx.2]
   have hmap:((fQ l p).set (cE l p) { r with net:=r.net+p.net,tax:=r.tax+p.tax }).map ARow.key=(fQ l p).map ARow.key:=by
    rw [List.map_set]
    apply List.ext_getElem?
    intro j
    rw [List.getElem?_set]
    split
    ·rename_i e
     subst e
     rw [List.length_map,if_pos hkl,List.getElem?_map,hr];rfl
    ·rfl
   refine ⟨?_,fun r' hr'=>?_,fun κ=>?_⟩
   ·have:=List.pairwise_map.2 q1
    rw [←hmap] at this
    exact List.pairwise_map.1 this
   ·obtain ⟨j,hj⟩:=List.mem_iff_getElem?.1 hr'
    rw [List.getElem?_set] at hj
    rw [aO1,aO2]
    split at hj
    ·rename_i e
     have hj:=Option.some.inj hj
     subst hj
     have hk':pk p=r.key:=hk.symm
     have e1:({ r with net:=r.net+p.net,tax:=r.tax+p.tax }:ARow).key=r.key:=rfl
     rw [e1,if_pos hk',if_pos hk',←s1,←s2]
     exact ⟨rfl,rfl,sn.1,sx.1⟩
    ·rename_i e
     have hne:=bBb q1 hr hj e
     have hne':¬ pk p=r'.key:=fun q=>hne (hk.trans q)
     rw [if_neg hne',if_neg hne',Int.add_zero,Int.add_zero]
     exact q2 r' (List.mem_of_getElem? hj)
   ·have m1:∀ κ,(∃ r'∈(fQ l p).set (cE l p) { r with net:=r.net+p.net,tax:=r.tax+p.tax },r'.key=κ)↔∃ r'∈fQ l p,r'.key=κ:=fun κ=>by
     have a1:∀ l:List ARow,(∃ r'∈l,r'.key=κ)↔κ∈l.map ARow.key:=fun l=>by rw [List.mem_map]
     rw [a1,a1,hmap]
    rw [m1,q3]
    constructor
    ·rintro (⟨q,hq,e⟩ | e)
     ·exact ⟨q,List.mem_append_left _ hq,e⟩
     ·exact ⟨p,List.mem_append_right _ (List.mem_singleton_self _),e⟩
    ·rintro ⟨q,hq,e⟩
     rcases List.mem_append.1 hq with hq | hq
     ·exact .inl ⟨q,hq,e⟩
     ·rw [List.mem_singleton.1 hq] at e;exact .inr e
  ·cases he
 ·cases he
theorem Rws.all:∀ {ps qs:List Part} {l l':List ARow},Rws ps l→(∀ q∈qs,fK q.net∧fK q.tax)→kS qs l=some l'→Rws (ps++qs) l'
 | ps,[],l,l',h,_,he=>by
  have he:=Option.some.inj he
  subst he
  rw [List.append_nil];exact h
 | ps,q::qs,l,l',h,hi,he=>by
  unfold kS at he
  cases e:jW l q with
  | none=>rw [e] at he;cases he
  | some l1=>
   rw [e] at he
   have hq:=hi q (List.mem_cons_self ..)
   have:=(h.enter hq.1 hq.2 e).all (fun x hx=>hi x (List.mem_cons_of_mem _ hx)) he
   rw [List.append_assoc] at this
   exact this
end Go.Proofs.YtoaibmbldmckaaaGreat
end
section
namespace Go.AM
theorem bGc {P:Program} {T:TypeId} {n b:Nat} (hT:apT P T=some (n,b)) (hn:1<n) {S0 S:St} {v:V} {es:List (List V)} (h:Own S0 S n v es) (x:Ext S0 S) (w:WF S0) {c:List V} (hc:c.length=n∧aM c=true) (h1:(es.length+1)*b≤35184372088832) (h2:es.length+1<eG) {i:Nat} (hi:i≤es.length):
  ∃ v' S',fX P T v (.int .i64 (i:Int)) (.sl S.next 0 n 0 1) ⟨S.next+1,S.heap.put S.next (.row 0 n [c])⟩=.ok (v',S')∧Ext S0 S'∧Own S0 S' n v' (es.take i++c::es.drop i)∧∀ y,y<S.next→blkOf v≠some y→S'.heap.get y=S.heap.get y:=by
 have x1:Ext S ⟨S.next+1,S.heap.put S.next (.row 0 n [c])⟩:=Ext.new (x.wf w) _
 obtain ⟨v',S',q1,q2,q3,q4⟩:=(h.ext x1).insertK hT hn (x.trans x1) w (bx:=S.next) (c:=c) (aO _ _ _ _ _ _) (fun a ver m hv=>by
  rcases h.is with ⟨rfl,_⟩ | ⟨a',ver',tl,rfl,_,hlt,_⟩
  ·cases hv
  ·cases hv;omega) hc h1 h2 hi
 refine ⟨v',S',q1,q2,q3,fun y hy hya=>?_⟩
 rw [q4 y (by show y<S.next+1;omega) (fun a ver m hv e=>hya (by rw [hv,e];rfl))]
 exact Tr.get_put_neB _ _ _ _ trivial (by omega)
end Go.AM
namespace Go.Proofs.YtoaibmbldmckaaaGreat
open Go.AM Tryz
set_option linter.unusedVariables false
set_option linter.unusedSimpArgs false
set_option maxRecDepth 100000
def ARow.enc (r:ARow):List V:=[.str r.cat,.int .i64 r.bp,.int .i64 r.net,.int .i64 r.tax]
theorem aY0 (x:ARow):x.enc.length=4∧aM x.enc=true:=⟨rfl,rfl⟩
theorem bPw (r:ARow) (p:Part) (S:St) (K:KW):C 201 [.agg [.str r.cat,.int .i64 r.bp,.int .i64 r.net,.int .i64 r.tax],.agg [.str p.cat,.int .i64 p.bp,.int .i64 p.net,.int .i64 p.tax]] S K=K (.bool (fW r p)) S:=by
 refine (bMi rfl ?_).eq S K
 simp only [aU5,kk,iL,fW,oo]
 grind
end Go.Proofs.YtoaibmbldmckaaaGreat
end
section
namespace Go.Proofs.YtoaibmbldmckaaaGreat
open Go.AM Tryz
theorem bPx:apT prog 68=some (4,40):=by kernel_rfl
theorem bGd:tX 202=some (.spec ((Sp.ins 68).run prog)):=by kernel_rfl
theorem yF (l:List ARow) (p:Part):cE l p≤l.length:=vY _ _
theorem aO3 (l:List ARow) (p:Part):∃ r,(fQ l p)[cE l p]?=some r:=by
 unfold fQ
 split
 ·exact ⟨_,xP _ _ _ (yF l p)⟩
 ·rename_i h
  unfold pZ at h
  split at h
  ·exact absurd rfl h
  ·rename_i b hb;exact ⟨b,hb⟩
theorem bPy {S0 S:St} {v:V} {l:List ARow} (own:Own S0 S 4 v (l.map ARow.enc)) (x:Ext S0 S) (w:WF S0) (hl:l.length≤1000000) (p:Part) {K:KW}
  (H1:∀ l',jW l p=some l'→∀ v' S',Ext S0 S'→Own S0 S' 4 v' (l'.map ARow.enc)→K (.tup [v',.int .i64 0]) S') (H2:jW l p=none→∀ S',Ext S0 S'→K (.tup [.nils,.int .i64 7]) S'):C 125 [v,.agg [.str p.cat,.int .i64 p.bp,.int .i64 p.net,.int .i64 p.tax]] S K:=by
 refine bKv ?_
 have hx:=x.next
 obtain ⟨S1,hS1⟩:∃ S1:St,S1=⟨S.next+1,S.heap.put S.next (.row 0 4 [p.enc])⟩:=⟨_,rfl⟩
 have x1:Ext S S1:=by rw [hS1];exact Ext.new (x.wf w) _
 have n1:S1.next=S.next+1:=by rw [hS1]
 have r1:aI S1 S.next 0=.ok (4,[p.enc]):=by rw [hS1];exact aO _ _ _ _ _ _
 simp only [Part.enc] at hS1 r1
 have hple:=yF l p
 have hlen:lenW v=.ok (.int .i64 (l.length:Int)):=own.sl.lenI
 have bv:∀ y,AM.blkOf v=some y→y<S.next:=fun y hy=>(dS own hy).2
 simp only [aSl,kk,←hS1]
 have hj1:∀ (v':V) (X:St),Ext S0 X→Own S0 X 4 v' ((fQ l p).map ARow.enc)→aI X S.next 0=.ok (4,[p.enc])→aA6 C K v' (.ptr S.next 0 0 0) (.int .i64 (cE l p:Int)) X:=by
  intro v' X xX o hr
  obtain ⟨r,hb⟩:=aO3 l p
  have hb':((fQ l p).map ARow.enc)[cE l p]?=some r.enc:=by rw [List.getElem?_map,hb];rfl
  obtain ⟨a,ver,hv,_,_,e4,_,set1⟩:=(o.bump 26).setK (xX.bump 26) w hb' .i64
  have hld:∀ m j,bB none (.ptr a ver (cE l p) j) ⟨m,X.heap⟩=gK none r.enc j:=fun m j=>by
   have:=o.ld hv hb' none j
   simpa only [ldP,gm] using this
  have l2:=fun m=>hld m 2
  have l3:=fun m=>hld m 3
  simp only [kk,ARow.enc] at l2 l3
  simp only [Part.enc] at hr
  obtain ⟨S2,st1,x2,n2,own2,keep2,w2⟩:=set1 2 1 (.int .i64 (cN r.net p.net).1) rfl rfl (by decide)
  have hb2:(((fQ l p).map ARow.enc).set (cE l p) (splice r.enc 2 [.int .i64 (cN r.net p.net).1]))[cE l p]?=some ({ r with net:=(cN r.net p.net).1 }:ARow).enc:=by
   rw [List.getElem?_set_self (List.getElem?_eq_some_iff.1 hb').1];rfl
  obtain ⟨a',ver',hv',_,_,_,_,set2⟩:=own2.setK x2 w hb2 .i64
  obtain ⟨rfl,rfl⟩:a'=a∧ver'=ver:=by rw [hv] at hv';injection hv' with h1 h2;exact ⟨h1.symm,h2.symm⟩
  obtain ⟨S3,mK,x3,n3,own3,keep3,w3⟩:=set2 3 1 (.int .i64 (cN r.tax p.tax).1) rfl rfl (by decide)
  have hfin:(((fQ l p).map ARow.enc).set (cE l p) (splice r.enc 2 [.int .i64 (cN r.net p.net).1])).set (cE l p) (splice ({ r with net:=(cN r.net p.net).1 }:ARow).enc 3 [.int .i64 (cN r.tax p.tax).1])=((fQ l p).set (cE l p) { r with net:=(cN r.net p.net).1,tax:=(cN r.tax p.tax).1 }).map ARow.enc:=by
   rw [List.set_set,List.map_set];rfl
  simp only [V.cells] at own3
  rw [hfin] at own3
  simp only [aA6,kk,e4,l2,l3,gm,hr,aPy,fY]
  have hen:jW l p=if (cN r.net p.net).2=0 then (if (cN r.tax p.tax).2=0 then some ((fQ l p).set (cE l p) { r with net:=(cN r.net p.net).1,tax:=(cN r.tax p.tax).1 }) else none) else none:=by
   simp only [jW,hb]
  by_cases c1:(cN r.net p.net).2=0
  ·by_cases c2:(cN r.tax p.tax).2=0
   ·simp only [c1,c2,if_true] at hen
    simp only [c1,c2,kk,not_true_eq_false,if_false]
    have e:(⟨X.next+13+13,X.heap⟩:St)=⟨X.next+26,X.heap⟩:=rfl
    rw [e]
    simp only [st1,mK,kk]
    exact H1 _ hen _ _ x3 own3
   ·simp only [c1,c2,if_true,if_false] at hen
    simp only [c1,c2,kk,not_true_eq_false,not_false_eq_true,if_true,if_false]
    exact H2 hen _ (xX.bump 26)
  ·simp only [c1,if_false] at hen
   simp only [c1,kk,not_false_eq_true,if_true]
   exact H2 hen _ (xX.bump 26)
 have hown:∀ {X:St},X.heap=S1.heap→S1.next≤X.next→Own S0 X 4 v (l.map ARow.enc):=fun hh hn=>(own.ext x1).same hn fun a _=>by rw [hh]
 have hext:∀ {X:St},X.heap=S1.heap→S1.next≤X.next→Ext S0 X:=fun {X} hh hn=>⟨fun a b h=>by rw [hh];exact (x.trans x1).old a b h,Nat.le_trans (x.trans x1).next hn,fun ww a b h=>by rw [hh] at h;have:=(x.trans x1).wf ww a b h;omega⟩
 have hrow:∀ {X:St},X.heap=S1.heap→aI X S.next 0=.ok (4,[p.enc]):=fun {X} hh=>aX r1 (by rw [hh])
 have hj2:∀ X:St,X.heap=S1.heap→S1.next≤X.next→rY C K v (.ptr S.next 0 0 0) (.int .i64 (cE l p:Int)) (.bool (pZ l p)) X:=by
  intro X hh hn
  have hr:=hrow hh
  cases hm:pZ l p
  ·simp only [rY,kk,Bool.false_eq_true,if_false]
   exact hj1 v X (hext hh hn) (by rw [show fQ l p=l by simp [fQ,hm]];exact hown hh hn) hr
  ·obtain ⟨v2,S2,q1,x2,own2,keep2⟩:=bGc bPx (by decide) (hown hh hn) (hext hh hn) w (aY0 ⟨p.cat,p.bp,0,0⟩) (by simp;omega) (by simp [eG];omega) (i:=cE l p) (by simpa using hple)
   rw [←lS] at own2
   have hr2:=aX hr (keep2 S.next (by omega) (fun e=>by have:=bv _ e;omega))
   simp only [ARow.enc] at q1
   simp only [Part.enc] at hr
   simp only [rY,kk,if_true,hr,aQ1]
   rw [aNh bGd q1]
   refine hj1 v2 S2 x2 (by rw [show fQ l p=fB l (cE l p) ⟨p.cat,p.bp,0,0⟩ by simp [fQ,hm]];exact own2) hr2
 have hj0:∀ X:St,X.heap=S1.heap→S1.next≤X.next→aA7 C K v (.ptr S.next 0 0 0) (.int .i64 (cE l p:Int)) X:=by
  intro X hh hn
  have h2:=hj2 ⟨X.next+24,X.heap⟩ hh (by show S1.next≤X.next+24;omega)
  have hr:=hrow (X:=⟨X.next+24,X.heap⟩) hh
  simp only [Part.enc] at hr
  simp only [aA7,kk,hlen]
  by_cases hk:cE l p=l.length
  ·have hm:pZ l p=true:=by unfold pZ;rw [hk,List.getElem?_eq_none (Nat.le_refl _)]
   rw [hm,hk] at h2
   simp only [hk,kk,if_true]
   exact h2
  ·have hlt:cE l p<l.length:=by omega
   have hb:l[cE l p]?=some l[cE l p]:=List.getElem?_eq_getElem hlt
   have hm:pZ l p=if (l[cE l p]).cat=p.cat then !decide ((l[cE l p]).bp=p.bp) else true:=by unfold pZ;rw [hb]
   rw [hm] at h2
   have hb':(l.map ARow.enc)[cE l p]?=some l[cE l p].enc:=by rw [List.getElem?_map,hb];rfl
   have o:=hown (X:=⟨X.next+24,X.heap⟩) hh (by show S1.next≤X.next+24;omega)
   obtain ⟨a,ver,hv,_,_,e4,_,_⟩:=o.setK (hext (X:=⟨X.next+24,X.heap⟩) hh (by show S1.next≤X.next+24;omega)) w hb' .i64
   have l0:=o.ld hv hb' none 0
   have l1:=o.ld hv hb' none 1
   simp only [kk,ARow.enc] at l0 l1
   simp only [show ¬ ((cE l p:Nat):Int)=(l.length:Int) by omega,kk,if_false,e4,l0,l1,hr]
   by_cases c1:(l[cE l p]).cat=p.cat
   ·simp only [c1,if_true] at h2
    simp only [c1,BEq.rfl,kk,if_false]
    exact h2
   ·have c1':(!(l[cE l p].cat == p.cat))=true:=by simpa using c1
    simp only [c1,if_false] at h2
    simp only [c1',kk,if_true]
    exact h2
 refine aZ l (step:=eM (fun r:ARow=>fW r p)) (fin:=id) (fun k n vs X=>n=k∧vs=[.int .i64 (k:Int)]∧X.heap=S1.heap∧S1.next≤X.next) (fun r=>r=cE l p) ?_ ?_ ⟨rfl,rfl,rfl,Nat.le_refl _⟩ rfl
 ·rintro k r m vs X hk ⟨rfl,rfl,hh,hn⟩ again' H'
  have hkl:=(List.getElem?_eq_some_iff.1 hk).1
  have hb':(l.map ARow.enc)[m]?=some r.enc:=by rw [List.getElem?_map,hk];rfl
  have o:=hown (X:=⟨X.next+12,X.heap⟩) hh (by show S1.next≤X.next+12;omega)
  obtain ⟨a,ver,hv,_,_,e4,_,_⟩:=o.setK (hext (X:=⟨X.next+12,X.heap⟩) hh (by show S1.next≤X.next+12;omega)) w hb' .i64
  have l0:=o.ld hv hb' (some 4) 0
  have hr:=hrow (X:=⟨X.next+12,X.heap⟩) hh
  simp only [kk,ARow.enc] at l0
  simp only [Part.enc] at hr
  simp only [eM] at H'
  simp only [aF3,kk,hlen,dK hk,if_true,e4,l0,hr,bPw,mO (show m<1000000000 by omega)]
  cases c:fW r p<;>simp only [c,kk,if_true,if_false,Bool.false_eq_true] at H' ⊢
  ·have:=hj0 ⟨X.next+12,X.heap⟩ hh (by show S1.next≤X.next+12;omega)
   rw [←H'] at this
   exact this
  ·exact H' _ _ ⟨rfl,hh,by show S1.next≤X.next+12;omega⟩
 ·rintro m vs X ⟨rfl,rfl,hh,hn⟩ again' H'
  have H':l.length=cE l p:=H'
  simp only [aF3,kk,hlen,Int.lt_irrefl,if_false]
  have:=hj0 ⟨X.next+12,X.heap⟩ hh (by show S1.next≤X.next+12;omega)
  rw [←H'] at this
  exact this
def aR5 (a b:Date) (x:Posted):Bool:=!(x.day.before a)&&!(b.before x.day)
def sH (l:List Posted) (a b:Date):List Part:=(l.filter (aR5 a b)).flatMap (·.total.parts)
def gC (s:State) (a b:Date):List ARow×Int:=if bZ s=false then ([],1) else if a.right=false then ([],9) else if b.right=false then ([],9) else match kS (sH s.posted a b) [] with
 | some l=>(l,0)
 | none=>([],7)
theorem Rws.nodup {ps:List Part} {l:List ARow} (h:Rws ps l):(l.map ARow.key).Nodup:=by
 have:=List.pairwise_map.2 h.srt
 exact this.imp fun h=>aC6 h
theorem aKl {l l':List ARow} {p:Part} (h:jW l p=some l'):l'.length≤l.length+1:=by
 have hr:(fQ l p).length≤l.length+1:=by
  unfold fQ
  split
  ·rw [xQ _ _ _ (yF l p)];exact Nat.le_refl _
  ·omega
 unfold jW at h
 repeat' split at h
 all_goals first | cases h | skip
 rw [List.length_set];exact hr
def aAi (l:List ARow) (p:Part):Option (List ARow)⊕List ARow:=match jW l p with
 | some l'=>.inr l'
 | none=>.inl none
theorem aE5:∀ (ps:List Part) (l:List ARow),aS aAi some ps l=kS ps l
 | [],l=>rfl
 | p::ps,l=>by
  simp only [aS,aAi,kS]
  cases jW l p with
  | none=>rfl
  | some l'=>exact aE5 ps l'
theorem aC7:∀ (ps qs:List Part) (l:List ARow),kS (ps++qs) l=match kS ps l with
  | some l'=>kS qs l'
  | none=>none
 | [],qs,l=>rfl
 | p::ps,qs,l=>by
  simp only [List.cons_append,kS]
  cases jW l p with
  | none=>rfl
  | some l'=>exact aC7 ps qs l'
def wW (a b:Date) (l:List ARow) (x:Posted):(List ARow×Int)⊕List ARow:=
 if x.day.before a=true then .inr l else if b.before x.day=true then .inr l else match kS x.total.parts l with
  | some l'=>.inr l'
  | none=>.inl ([],7)
theorem nI (a b:Date):∀ (ps:List Posted) (l:List ARow),aS (wW a b) (fun l=>(l,0)) ps l=match kS (sH ps a b) l with
  | some l'=>(l',0)
  | none=>([],7)
 | [],l=>rfl
 | x::ps,l=>by
  simp only [aS,wW,sH,List.filter_cons,aR5]
  by_cases c1:x.day.before a=true
  ·simp only [c1,if_true,Bool.not_true,Bool.false_and,Bool.false_eq_true,if_false]
   exact nI a b ps l
  ·by_cases c2:b.before x.day=true
   ·simp only [c1,c2,if_true,if_false,Bool.not_true,Bool.and_false,Bool.false_eq_true]
    exact nI a b ps l
   ·have c1':x.day.before a=false:=by simpa using c1
    have c2':b.before x.day=false:=by simpa using c2
    simp only [c1',c2',if_false,Bool.false_eq_true,Bool.not_false,Bool.and_self,if_true,List.flatMap_cons]
    rw [aC7]
    cases e:kS x.total.parts l with
    | none=>rfl
    | some l'=>exact nI a b ps l'
theorem g40 (s:State) (a b:Date) (S:St) (K:KW):C 40 [.agg [.imm (s.table.map Rate.enc),.imm (s.ser.map Ser.enc),.imm (s.posted.map Posted.enc),.imm (s.book.map Bal.enc),.imm (s.sess.map Sess.enc),.int .i64 s.next],.agg [.int .i64 a.y,.int .i64 a.m,.int .i64 a.d],.agg [.int .i64 b.y,.int .i64 b.m,.int .i64 b.d]] S K=
  K (.tup [.imm ((gC s a b).1.map ARow.enc),.int .i64 (gC s a b).2]) S:=by
 refine (v40 rfl ?_).eq S K
 simp only [m40,kk,iL,g24 s,zX]
 cases c1:bZ s
 ·simp only [c1,kk,oo,if_true,List.map_nil,gC]
 cases c2:a.right
 ·simp only [c1,c2,kk,iL,zX,oo,if_true,Bool.true_eq_false,if_false,List.map_nil,gC]
 cases c3:b.right
 ·simp only [c1,c2,c3,kk,iL,zX,oo,if_true,Bool.true_eq_false,if_false,List.map_nil,gC]
 simp only [c1,c2,c3,kk,iL,zX,Bool.true_eq_false,if_false]
 obtain ⟨h40,hok⟩:=pO (sW c1)
 have hrun:aS (wW a b) (fun l=>(l,0)) s.posted []=gC s a b:=by
  rw [nI]
  unfold gC
  rw [c1,c2,c3]
  simp only [Bool.true_eq_false,if_false]
  all_goals (cases kS (sH s.posted a b) []<;>rfl)
 obtain ⟨S0,hS0⟩:∃ S0:St,S0=⟨2+1,((Tr.nil.put 0 (.row 0 6 [s.enc])).put 1 (.row 0 3 [a.enc])).put 2 (.row 0 3 [b.enc])⟩:=⟨_,rfl⟩
 have w0:WF S0:=by rw [hS0];exact hJ (n:=2) (hJ (n:=1) (hJ oU (by decide) (by decide)) (by decide) (by decide)) (by decide) (by decide)
 have n0:S0.next=3:=by rw [hS0]
 have ra:aI S0 1 0=.ok (3,[a.enc]):=by rw [hS0];rfl
 have rb:aI S0 2 0=.ok (3,[b.enc]):=by rw [hS0];rfl
 simp only [State.enc,Date.enc] at hS0 ra rb
 refine aZ s.posted (step:=wW a b) (fin:=fun l=>(l,0)) (fun i l vs S'=>∃ v,vs=[.nils,.int .i64 0,v,.int .i64 (i:Int)]∧Own S0 S' 4 v (l.map ARow.enc)∧Ext S0 S'∧l.length≤12*i) (fun r=>r=gC s a b) ?_ ?_ (s:=[]) ⟨_,rfl,Own.nil _ _ _,by rw [hS0];exact Ext.refl _,Nat.zero_le _⟩ hrun
 ·rintro i x l vs S' hi ⟨v,rfl,own,ex,hll⟩ aQ H
  have hil:=(List.getElem?_eq_some_iff.1 hi).1
  have hxp:=kR (hok x (List.mem_of_getElem? hi)).2
  have hn:=ex.next
  obtain ⟨S1,hS1⟩:∃ S1:St,S1=⟨S'.next+1,(S'.heap.put S'.next (.row 0 12 [zW])).put S'.next (.row 0 12 [x.enc])⟩:=⟨_,rfl⟩
  have x1:Ext S' S1:=by rw [hS1];exact Ext.var (ex.wf w0) 12 _ _
  have r1:aI S1 S'.next 0=.ok (12,[x.enc]):=by rw [hS1];exact aO _ _ _ _ _ _
  have ra1:=(ex.trans x1).row ra
  have rb1:=(ex.trans x1).row rb
  simp only [zW,Posted.enc] at hS1
  simp only [Posted.enc] at r1
  simp only [wW] at H
  simp only [aJl,kk,dK hi,if_true,nN hi,Posted.enc,←hS1,r1,ra1,rb1,aPx,mO (show i<1000000000 by omega)]
  cases d1:x.day.before a
  rotate_left
  ·simp only [d1,kk,if_true] at H ⊢
   exact H _ _ ⟨v,rfl,own.ext x1,ex.trans x1,by omega⟩
  cases d2:b.before x.day
  rotate_left
  ·simp only [d1,d2,kk,Bool.false_eq_true,if_true,if_false] at H ⊢
   exact H _ _ ⟨v,rfl,own.ext x1,ex.trans x1,by omega⟩
  simp only [d1,d2,kk,Bool.false_eq_true,if_false] at H ⊢
  refine aZ x.total.parts (step:=aAi) (fin:=some) (fun j l' vs S2=>∃ v',vs=[.nils,.int .i64 0,v',.int .i64 (j:Int)]∧Own S0 S2 4 v' (l'.map ARow.enc)∧Ext S0 S2∧l'.length≤12*i+j) (fun r=>r=kS x.total.parts l) ?_ ?_ (s:=l) ⟨v,rfl,own.ext x1,ex.trans x1,hll⟩ (aE5 _ _)
  ·rintro j p l' vs S2 hj ⟨v',rfl,o2,e2,hl2⟩ again2 H2
   have hjl:=(List.getElem?_eq_some_iff.1 hj).1
   have x2:Ext S2 ⟨S2.next+1,(S2.heap.put S2.next (.row 0 4 [[.str [],.int .i64 0,.int .i64 0,.int .i64 0]])).put S2.next (.row 0 4 [p.enc])⟩:=Ext.var (e2.wf w0) 4 _ _
   simp only [Part.enc] at x2
   simp only [aAi] at H2
   simp only [aJk,kk,dK hj,if_true,uE hj,Part.enc]
   refine bPy (o2.ext x2) (e2.trans x2) w0 (by omega) p (fun l3 hl3 v3 S3 e3 o3=>?_) (fun hno S3 e3=>?_)
   ·rw [hl3] at H2
    have:=aKl hl3
    simp only [kk,mO (show j<1000000000 by omega),not_true_eq_false,if_false]
    exact H2 _ _ ⟨v3,rfl,o3,e3,by omega⟩
   ·rw [hno] at H2
    have H2:none=kS x.total.parts l:=H2
    rw [←H2] at H
    have H:(([],7):List ARow×Int)=gC s a b:=H
    simp only [kk,show ¬ (7:Int)=0 by decide,not_false_eq_true,if_true,oo,←H,List.map_nil]
  ·rintro l' vs S2 ⟨v',rfl,o2,e2,hl2⟩ again2 H2
   have H2:some l'=kS x.total.parts l:=H2
   rw [←H2] at H
   simp only [aJk,kk,Int.lt_irrefl,if_false,mO (show i<1000000000 by omega)]
   exact H _ _ ⟨v',rfl,o2,e2,by omega⟩
 ·rintro l vs S' ⟨v,rfl,own,ex,hll⟩ aQ H
  have H:(l,(0:Int))=gC s a b:=H
  simp only [aJl,kk,Int.lt_irrefl,if_false,oo,own.out fun _=>rfl,←H]
def bGe (l:List ARow) (c:List UInt8):Int:=(l.map fun r=>if r.cat=c then r.tax else 0).sum
theorem aCr {s:State} (h:Beh s):mH s.posted=-1∧∀ k q,s.posted[k]?=some q→(mH (dC s.posted k)=-1↔∀ p∈s.posted.drop (k+1),p.ref.ser≠q.ref.ser)∧bZ { s with posted:=dC s.posted k }=false:=by
 obtain ⟨_,_,_,_,n,_⟩:=(cU _).1 h.right
 have hn:∀ i p,s.posted[i]?=some p→p.ref.num=rI (s.posted.take i) p.ref.ser+1:=fun i p hp=>(n.num i p hp).2
 exact ⟨(aE3 _).2 hn,fun k q hq=>⟨aO0 hn hq,aKi h.right hq⟩⟩
theorem aR6 {l:List ARow} {i:Nat} {a:ARow} (hi:l[i]?=some a) (k:IntKind):cP 4 (.imm (l.map ARow.enc)) (.int k (i:Int))=.ok (.iptr a.enc 0):=ixI (enc:=ARow.enc) hi rfl k
theorem aO4 (l:List Call) (n:Nat):∀ c∈qZ l n,c.cmd.lines.length<1000000:=fun c hc=>by
 obtain ⟨d,_,rfl⟩:=List.mem_map.1 hc
 show (d.cmd.lines.take 15).length<1000000
 rw [List.length_take];omega
theorem a35 (l:List Call) (n:Nat) (hn:n≤1000) (S:St) (K:KW):C 35 [.agg [.imm [],.imm [],.imm [],.imm [],.imm [],.int .i64 1],.imm ((qZ l n).map Call.enc)] S K=
  K (.tup [.agg [.imm ((playM State.new (qZ l n)).1.table.map Rate.enc),.imm ((playM State.new (qZ l n)).1.ser.map Ser.enc),.imm ((playM State.new (qZ l n)).1.posted.map Posted.enc),.imm ((playM State.new (qZ l n)).1.book.map Bal.enc),.imm ((playM State.new (qZ l n)).1.sess.map Sess.enc),.int .i64 (playM State.new (qZ l n)).1.next],.imm ((playM State.new (qZ l n)).2.map Rep.enc)]) S:=
 g35 State.new (qZ l n) Sml.new (by have:=aPv l n;omega) (aO4 l n) S K
def uO:List (List UInt8×Int)→List UInt8→List (List UInt8×Int)
 | [],s=>[(s,1)]
 | (t,n)::l,s=>if t=s then (t,n+1)::l else (t,n)::uO l s
def jD:List (List UInt8×Int)→List UInt8→Int
 | [],_=>0
 | (t,n)::l,s=>if t=s then n else jD l s
def oR:List (List UInt8×Int)→List UInt8→Option Nat
 | [],_=>none
 | (t,_)::l,s=>if t=s then some 0 else (oR l s).map (·+1)
def pT (l:List (List UInt8×Int)):List (V×V):=l.map fun x=>(.str x.1,.int .i64 x.2)
theorem uP:∀ (l:List (List UInt8×Int)) (s t:List UInt8),jD (uO l s) t=jD l t+if s=t then 1 else 0
 | [],s,t=>by simp only [uO,jD];split<;>simp
 | (u,n)::l,s,t=>by
  simp only [uO]
  by_cases c:u=s
  ·rw [if_pos c]
   simp only [jD]
   subst c
   split<;>simp
  ·rw [if_neg c]
   simp only [jD,uP l s t]
   by_cases c2:u=t
   ·subst c2
    rw [if_pos rfl,if_pos rfl,if_neg fun e=>c e.symm,Int.add_zero]
   ·rw [if_neg c2,if_neg c2]
theorem aR7 (s:List UInt8):∀ (l:List (List UInt8×Int)) (i:Nat),yH s (pT l) i=some ((oR l s).map fun j=>(i+j,V.int .i64 (jD l s)))
 | [],i=>rfl
 | (t,n)::l,i=>by
  simp only [pT,List.map_cons,yH,oR,jD]
  rw [dJ,cond_eq_ite]
  by_cases c:t=s
  ·subst c
   simp
  ·have h2:¬ (s == t)=true:=by simpa using fun e=>c e.symm
   rw [if_neg h2,if_neg c,if_neg c]
   have:=aR7 s l (i+1)
   simp only [pT] at this
   rw [this]
   cases oR l s with
   | none=>rfl
   | some j=>simp only [Option.map_some];congr 3;omega
theorem wY:∀ {l:List (List UInt8×Int)} {s:List UInt8},oR l s=none→jD l s=0∧pT l++[(.str s,.int .i64 1)]=pT (uO l s)
 | [],s,_=>⟨rfl,rfl⟩
 | (t,n)::l,s,h=>by
  simp only [oR] at h
  split at h
  ·cases h
  ·rename_i c
   have h':oR l s=none:=by cases e:oR l s with
    | none=>rfl
    | some j=>rw [e] at h;cases h
   obtain ⟨h1,h2⟩:=wY h'
   simp only [jD,uO,if_neg c]
   exact ⟨h1,by simp only [pT,List.map_cons,List.cons_append] at h2 ⊢;rw [h2]⟩
theorem aIe:∀ {l:List (List UInt8×Int)} {s:List UInt8} {j:Nat},oR l s=some j→(pT l).set j (.str s,.int .i64 (jD l s+1))=pT (uO l s)
 | (t,n)::l,s,j,h=>by
  simp only [oR] at h
  split at h
  ·rename_i c
   cases h
   subst c
   simp only [jD,uO,if_true,pT,List.map_cons,List.set_cons_zero]
  ·rename_i c
   cases e:oR l s with
   | none=>rw [e] at h;cases h
   | some k=>
    rw [e] at h
    cases h
    have:=aIe e
    simp only [jD,uO,if_neg c,pT,List.map_cons,List.set_cons_succ] at this ⊢
    rw [this]
theorem aM1:aOa prog 199=some 3:=by kernel_rfl
theorem bGf:eO prog 3=some (.int .i64 0):=by kernel_rfl
theorem aM2 {S:St} {a:Nat} {l:List (List UInt8×Int)} (h:S.heap.get a=some (.mp (pT l))) (s:List UInt8):lE prog 199 (.mp a) (.str s) false S=.ok (.int .i64 (jD l s)):=by
 simp only [lE,aM1,xA,h,aR7]
 cases e:oR l s with
 | none=>simp only [Option.map_none,bGf,okV,(wY e).1];rfl
 | some j=>simp only [Option.map_some,okV];rfl
theorem bBc {S:St} {a:Nat} {l:List (List UInt8×Int)} (h:S.heap.get a=some (.mp (pT l))) (s:List UInt8):eQ prog 199 (.mp a) (.str s) (.int .i64 (jD l s+1)) S=.ok ⟨S.next,S.heap.put a (.mp (pT (uO l s)))⟩:=by
 simp only [eQ,aM1,h,aR7]
 cases e:oR l s with
 | none=>simp only [Option.map_none,←(wY e).2,(wY e).1];rfl
 | some j=>simp only [Option.map_some,Nat.zero_add,aIe e]
theorem g42 (l:List Posted) (hl:l.length<1000000) (S:St) (K:KW):C 42 [.imm (l.map Posted.enc)] S K=K (.int .i64 (mH l)) S:=by
 refine (v42 rfl ?_).eq S K
 simp only [m42,kk]
 refine aZ l (step:=aNz) (fin:=fun _=>-1) (fun i done vs S=>∃ kv,vs=[.int .i64 0,.int .i64 (i:Int)]∧S.heap.get 0=some (.mp (pT kv))∧0<S.next∧(∀ s,jD kv s=rI done s)∧done.length=i) (fun r=>r=mH l) ?_ ?_ (s:=[]) ⟨[],rfl,rfl,by decide,fun _=>rfl,rfl⟩ rfl
 ·rintro i p done vs S hi ⟨kv,rfl,hm,h0,hc,hdl⟩ aQ H
  have hil:=(List.getElem?_eq_some_iff.1 hi).1
  have hb:=aXj done p.ref.ser
  have hb0:=aC0 done p.ref.ser
  have hm1:∀ (m:Nat) (b c:Blk),(⟨m,(S.heap.put S.next b).put S.next c⟩:St).heap.get 0=some (.mp (pT kv)):=fun m b c=>by
   show ((S.heap.put S.next b).put S.next c).get 0=_
   rw [Tr.get_put_neB _ _ _ _ trivial (by omega),Tr.get_put_neB _ _ _ _ trivial (by omega)];exact hm
  have hw:wr .i64 (jD kv p.ref.ser+1)=jD kv p.ref.ser+1:=by rw [hc];exact kX (by omega) (by omega)
  simp only [aJm,kk,dK hi,if_true,nN hi,Posted.enc]
  obtain ⟨S1,hS1⟩:∃ S1:St,S1=⟨S.next+1,(S.heap.put S.next (.row 0 12 [zW])).put S.next (.row 0 12 [p.enc])⟩:=⟨_,rfl⟩
  have m1:S1.heap.get 0=some (.mp (pT kv)):=by rw [hS1];exact hm1 _ _ _
  have r1:aI S1 S.next 0=.ok (12,[p.enc]):=by rw [hS1];exact aO _ _ _ _ _ _
  have m2:(⟨S1.next,S1.heap.put 0 (.mp (pT (uO kv p.ref.ser)))⟩:St).heap.get 0=some (.mp (pT (uO kv p.ref.ser))):=Tr.get_put_sameB _ _ _ trivial
  have r2:aI ⟨S1.next,S1.heap.put 0 (.mp (pT (uO kv p.ref.ser)))⟩ S.next 0=.ok (12,[p.enc]):=aX r1 (Tr.get_put_neB _ _ _ _ trivial (by omega))
  have l2:jD (uO kv p.ref.ser) p.ref.ser=rI done p.ref.ser+1:=by rw [uP,if_pos rfl,hc]
  simp only [zW,Posted.enc] at hS1
  simp only [Posted.enc] at r1 r2
  simp only [←hS1,r1,kk,aM2 m1,hw,bBc m1,r2,aM2 m2,l2,mO (show i<1000000000 by omega)]
  simp only [aNz] at H
  by_cases c:p.ref.num=rI done p.ref.ser+1
  ·simp only [c,if_true] at H
   simp only [c,kk,not_true_eq_false,if_false]
   refine H _ _ ⟨uO kv p.ref.ser,rfl,m2,by rw [hS1];show 0<S.next+1;omega,fun s=>?_,by simp [hdl]⟩
   rw [uP,gM,sG,hc]
  ·simp only [c,if_false] at H
   simp only [c,kk,not_false_eq_true,if_true,oo,←H,hdl]
 ·rintro done vs S ⟨kv,rfl,hm,h0,hc,hdl⟩ aQ H
  have H:(-1:Int)=mH l:=H
  simp only [aJm,kk,Int.lt_irrefl,if_false,oo,←H]
theorem ARow.ext_iff (a b:ARow):(a=b)=(((a.cat=b.cat∧a.bp=b.bp)∧a.net=b.net)∧a.tax=b.tax):=by
 obtain ⟨_,_,_,_⟩:=a;obtain ⟨_,_,_,_⟩:=b;simp [and_assoc]
theorem bQ1 (l r:List ARow) (hb:l.length<1000000) (S:St) (K:KW):C 130 [.imm (l.map ARow.enc),.imm (r.map ARow.enc)] S K=K (.bool (decide (l=r))) S:=by
 refine (bL1 rfl ?_).eq S K
 simp only [aSr,kk]
 by_cases h:l.length=r.length
 ·simp only [show (l.length:Int)=(r.length:Int) by omega,kk,not_true_eq_false,if_false]
  refine aZ l (step:=pN r) (fin:=fun _=>true) (fun i n vs S=>n=i∧vs=[.bool false,.int .i64 (i:Int)]) (fun x=>x=decide (l=r)) ?_ ?_ (s:=0) ⟨rfl,rfl⟩ (eqL h)
  ·rintro i p n vs S hi ⟨rfl,rfl⟩ aQ H
   have hil:=(List.getElem?_eq_some_iff.1 hi).1
   have hj:r[n]?=some r[n]:=List.getElem?_eq_getElem (by omega)
   have hlt:((n:Int)<(r.length:Int))=True:=dK hj
   simp only [pN,hj,Option.some.injEq,ARow.ext_iff] at H
   simp only [aF4,kk,dK hi,hlt,aR6 hi,aR6 hj,ARow.enc,mO (show n<1000000000 by omega),oo]
   grind
  ·rintro n vs S ⟨rfl,rfl⟩ aQ H
   simp only [aF4,kk,h,Int.lt_irrefl,if_false,oo,←H]
 ·simp only [show ¬ (l.length:Int)=(r.length:Int) by omega,kk,not_false_eq_true,if_true,oo]
  have:decide (l=r)=false:=by simpa using fun e=>h (by rw [e])
  rw [this]
end Go.Proofs.YtoaibmbldmckaaaGreat
end
section
namespace Go.AM
theorem Own.made {n:Nat} {S:St} {es:List (List V)} (h:∀ c,c∈es→c.length=n∧aM c=true):Own E0 ⟨S.next+1,S.heap.put S.next (.row 0 n es)⟩ n (.sl S.next 0 n 0 es.length) es:=
 ⟨.inr ⟨S.next,0,[],rfl,Nat.zero_le _,Nat.lt_succ_self _,by rw [List.append_nil];exact Tr.get_put_sameB _ _ _ trivial⟩,h⟩
end Go.AM
namespace Go.Proofs.YtoaibmbldmckaaaGreat
open Go.AM Tryz
set_option linter.unusedVariables false
set_option linter.unusedSimpArgs false
set_option maxRecDepth 100000
theorem g46 (n:Int) (S:St) (K:KW):C 46 [.int .i64 n] S K=K (.agg [.int .i64 2026,.int .i64 11,.int .i64 n]) S:=by
 refine (v46 rfl ?_).eq S K
 simp only [m46,kk,oo]
theorem bQ3 (s:List UInt8) (n:Int) (S:St) (K:KW):C 129 [.str s,.int .i64 n] S K=K (.agg (Posted.enc ⟨⟨s,n⟩,⟨0,0,0⟩,⟨0,0,0,[]⟩,Ref.zero,false⟩)) S:=by
 refine (bKz rfl ?_).eq S K
 simp only [aSp,kk,oo]
 rfl
def aC8 (n:Int):Call:=⟨1,n,⟨4,[97],0,⟨[],⟨0,0,0⟩,0⟩,⟨2026,11,15⟩,[⟨[],[115,116,100],1,100⟩],Ref.zero,0⟩⟩
theorem bGg:gO prog 128=some none:=by kernel_rfl
theorem bQ4 (n:Int) (S:St) (K:KW):C 128 [.int .i64 n] S K=K (.agg (aC8 n).enc) S:=by
 refine (bKx rfl ?_).eq S K
 simp only [aSn,kk,g46,aQ1,oo]
 rfl
theorem bBd (z:List V) (parts:List (Nat×V)) (fr:Option Nat) (S:St):aP 12 z 3 parts fr S=(match sI 12 [z,z,z] parts with
  | .error e=>.error e
  | .ok elems=>match aJ fr S (.row 0 12 elems) with
   | .error e=>.error e
   | .ok (a,S')=>.ok (.sl a 0 12 0 3,S')):=by unfold aP;rw [if_pos (by decide)];rfl
theorem bBe (z:List V) (parts:List (Nat×V)) (fr:Option Nat) (S:St):aP 12 z 2 parts fr S=(match sI 12 [z,z] parts with
  | .error e=>.error e
  | .ok elems=>match aJ fr S (.row 0 12 elems) with
   | .error e=>.error e
   | .ok (a,S')=>.ok (.sl a 0 12 0 2,S')):=by unfold aP;rw [if_pos (by decide)];rfl
theorem bBf (z:List V) (parts:List (Nat×V)) (fr:Option Nat) (S:St):aP 17 z 7 parts fr S=(match sI 17 [z,z,z,z,z,z,z] parts with
  | .error e=>.error e
  | .ok elems=>match aJ fr S (.row 0 17 elems) with
   | .error e=>.error e
   | .ok (a,S')=>.ok (.sl a 0 17 0 7,S')):=by unfold aP;rw [if_pos (by decide)];rfl
theorem a42 (S:St) (l:List Posted) (hl:l.length<1000000) (K:KW):C 42 [.sl S.next 0 12 0 l.length] ⟨S.next+1,S.heap.put S.next (.row 0 12 (l.map Posted.enc))⟩ K=K (.int .i64 (mH l)) ⟨S.next+1,S.heap.put S.next (.row 0 12 (l.map Posted.enc))⟩:=by
 have o:=Own.made (n:=12) (S:=S) (es:=l.map Posted.enc) fun c hc=>by obtain ⟨x,_,rfl⟩:=List.mem_map.1 hc;exact nO x
 rw [List.length_map] at o
 have h:=o.out fun _=>rfl
 exact (Fn.back fun S K=>g42 l hl S K).frz bE8 rfl (by simp only [frzVs,h]) (by simp only [ptrsVs,o.ptrs];rfl) (.inl rfl) K
theorem bQ5 (S:St) (r l:List ARow) (hl:r.length<1000000) (K:KW):C 130 [.imm (r.map ARow.enc),.sl S.next 0 4 0 l.length] ⟨S.next+1,S.heap.put S.next (.row 0 4 (l.map ARow.enc))⟩ K=K (.bool (decide (r=l))) ⟨S.next+1,S.heap.put S.next (.row 0 4 (l.map ARow.enc))⟩:=by
 have o:=Own.made (n:=4) (S:=S) (es:=l.map ARow.enc) fun c hc=>by obtain ⟨x,_,rfl⟩:=List.mem_map.1 hc;exact aY0 x
 rw [List.length_map] at o
 have h:=o.out fun _=>rfl
 exact (Fn.back fun S K=>bQ1 r l hl S K).frz bEa rfl (by simp only [frzVs,pI (.imm (r.map ARow.enc)) rfl,h]) (by simp only [ptrsVs,qG,o.ptrs];rfl) (.inl rfl) K
def aM3:Rate:=⟨[],⟨0,0,0⟩,0⟩
def aR8:List Call:=[⟨0,0,⟨6,[],0,aM3,⟨0,0,0⟩,[],Ref.zero,0⟩⟩,⟨1,1,⟨3,[],0,⟨[115,116,100],⟨2000,1,1⟩,1900⟩,⟨0,0,0⟩,[],Ref.zero,0⟩⟩,⟨1,2,⟨1,[97],2,aM3,⟨0,0,0⟩,[],Ref.zero,0⟩⟩,aC8 3,aC8 4,
 ⟨1,6,⟨1,[98],9,aM3,⟨0,0,0⟩,[],Ref.zero,0⟩⟩,⟨1,7,⟨5,[98],0,aM3,⟨2026,11,15⟩,[],⟨[97],1⟩,0⟩⟩]
def Call.mem (c:Call):List V:=match c.cmd.lines with
 | []=>c.enc.set 13 .nils
 | _=>c.enc
def d15:Date:=⟨2026,11,15⟩
def d16:Date:=⟨2026,11,16⟩
theorem g44 (S:St) (K:KW):C 44 [] S K=K (.bool true) S:=by
 refine (v44 rfl ?_).eq S K
 obtain ⟨s,hs⟩:∃ s,s=(playM State.new aR8).1:=⟨_,rfl⟩
 have r15:gC s d15 d15=([⟨[115,116,100],1900,100,19⟩],0):=by rw [hs];kernel_rfl
 have r16:gC s d16 d16=([],0):=by rw [hs];kernel_rfl
 have h15:=fun S K=>g40 s d15 d15 S K
 have h16:=fun S K=>g40 s d16 d16 S K
 simp only [r15,r16] at h15 h16
 simp only [d15,d16,List.map_nil,List.map_cons] at h15 h16
 have e3:(oL (aC8 3).enc 17&&aM (aC8 3).enc)=true:=rfl
 have e4:(oL (aC8 4).enc 17&&aM (aC8 4).enc)=true:=rfl
 simp only [m44,kk,g31,g46,sE _ _ _ _ _ _ _ _ bGg,List.nil_append,List.append_nil,bQ4,bBf,e3,e4]
 obtain ⟨S1,hS1⟩:∃ S1:St,S1=⟨1,Tr.nil.put 0 (.row 0 17 (aR8.map Call.mem))⟩:=⟨_,rfl⟩
 obtain ⟨h',_,hC⟩:=(Fn.back fun S K=>g35 State.new aR8 Sml.new (by decide) (by decide) S K).cutE (S:=S1) (args:=[.agg [.imm [],.imm [],.imm [],.imm [],.imm [],.int .i64 1],.sl 0 0 17 0 7]) bKf rfl (by rw [hS1];rfl) (by rfl)
 rw [←hs] at hC
 have key:=hC
 rw [hS1] at key
 refine Eq.mpr (key _) ?_
 have n1:S1.next=1:=by rw [hS1]
 simp only [n1,kk]
 obtain ⟨S2,hS2⟩:∃ S2:St,S2=⟨1+1+9,(h'.put 1 (.row 0 6 [[.nils,.nils,.nils,.nils,.nils,.int .i64 0]])).put 1 (.row 0 6 [s.enc])⟩:=⟨_,rfl⟩
 have r1:aI S2 1 0=.ok (6,[s.enc]):=by rw [hS2];exact aO _ _ _ _ _ _
 simp only [State.enc] at hS2 r1
 have g3:mH [⟨⟨[97],1⟩,⟨0,0,0⟩,⟨0,0,0,[]⟩,Ref.zero,false⟩,⟨⟨[98],1⟩,⟨0,0,0⟩,⟨0,0,0,[]⟩,Ref.zero,false⟩,⟨⟨[97],2⟩,⟨0,0,0⟩,⟨0,0,0,[]⟩,Ref.zero,false⟩]=-1:=by kernel_rfl
 have g2:mH [⟨⟨[97],1⟩,⟨0,0,0⟩,⟨0,0,0,[]⟩,Ref.zero,false⟩,⟨⟨[97],3⟩,⟨0,0,0⟩,⟨0,0,0,[]⟩,Ref.zero,false⟩]=1:=by kernel_rfl
 have g1:mH [⟨⟨[97],2⟩,⟨0,0,0⟩,⟨0,0,0,[]⟩,Ref.zero,false⟩]=0:=by kernel_rfl
 have c3:=fun n h K=>a42 ⟨n,h⟩ [⟨⟨[97],1⟩,⟨0,0,0⟩,⟨0,0,0,[]⟩,Ref.zero,false⟩,⟨⟨[98],1⟩,⟨0,0,0⟩,⟨0,0,0,[]⟩,Ref.zero,false⟩,⟨⟨[97],2⟩,⟨0,0,0⟩,⟨0,0,0,[]⟩,Ref.zero,false⟩] (by decide) K
 have c2:=fun n h K=>a42 ⟨n,h⟩ [⟨⟨[97],1⟩,⟨0,0,0⟩,⟨0,0,0,[]⟩,Ref.zero,false⟩,⟨⟨[97],3⟩,⟨0,0,0⟩,⟨0,0,0,[]⟩,Ref.zero,false⟩] (by decide) K
 have c1:=fun n h K=>a42 ⟨n,h⟩ [⟨⟨[97],2⟩,⟨0,0,0⟩,⟨0,0,0,[]⟩,Ref.zero,false⟩] (by decide) K
 have c0:=fun n h K=>bQ5 ⟨n,h⟩ [⟨[115,116,100],1900,100,19⟩] [⟨[115,116,100],1900,100,19⟩] (by decide) K
 simp only [g3,g2,g1,List.map_cons,List.map_nil,List.length_cons,List.length_nil,Posted.enc,ARow.enc,Nat.zero_add,Nat.reduceAdd] at c3 c2 c1 c0
 simp only [←hS2,h15,kk,gm,r1,h16,bQ3,bBd,bBe,Posted.enc]
 refine Eq.mpr (c3 _ _ _) ?_
 simp only [kk,if_true]
 refine Eq.mpr (c2 _ _ _) ?_
 simp only [kk,if_true,aQ2]
 refine Eq.mpr (c1 _ _ _) ?_
 simp only [kk,if_true,aQ1]
 refine Eq.mpr (c0 _ _ _) ?_
 simp only [kk,if_true,oo,List.length_nil]
 rfl
end Go.Proofs.YtoaibmbldmckaaaGreat
end
section
namespace Go.Proofs.YtoaibmbldmckaaaGreat
open Go.AM Tryz
def pU (n lo hi:Int):Int:=lo+n % (hi - lo+1)
theorem wZ (n:Int) {lo hi:Int} (h:lo≤hi):lo≤pU n lo hi∧pU n lo hi≤hi:=by
 unfold pU
 have h1:=Int.emod_nonneg n (b:=hi - lo+1) (by omega)
 have h2:=Int.emod_lt_of_pos n (b:=hi - lo+1) (by omega)
 omega
theorem g45 (n lo hi:Int) (h1:-1000000000≤lo) (h2:lo≤hi) (h3:hi≤1000000000) (S:St) (K:KW):C 45 [.int .i64 n,.int .i64 lo,.int .i64 hi] S K=K (.int .i64 (pU n lo hi)) S:=by
 refine (v45 rfl ?_).eq S K
 have w1:wr .i64 (hi - lo)=hi - lo:=kX (by omega) (by omega)
 have w2:wr .i64 (hi - lo+1)=hi - lo+1:=kX (by omega) (by omega)
 have hd0:hi - lo+1≠0:=by omega
 have hm:=Int.emod_lt_of_pos n (b:=hi - lo+1) (by omega)
 have hm0:=Int.emod_nonneg n hd0
 have hr1:n.tmod (hi - lo+1)<hi - lo+1∧-(hi - lo+1)<n.tmod (hi - lo+1)∧(n % (hi - lo+1)=n.tmod (hi - lo+1)∨n.tmod (hi - lo+1)<0∧n % (hi - lo+1)=n.tmod (hi - lo+1)+(hi - lo+1))∧(0≤n.tmod (hi - lo+1)→n % (hi - lo+1)=n.tmod (hi - lo+1)):=by
  rw [Int.tmod_eq_emod]
  split<;>omega
 have w3:=aL3 prog 3 .i64 n (hi - lo+1) hd0
 simp only [m45,aJn,kk,w1,w2,w3,pU,oo]
 generalize n.tmod (hi - lo+1)=r at *
 generalize n % (hi - lo+1)=q at *
 by_cases c:r<0
 ·have w4:wr .i64 (r+hi)=r+hi:=kX (by omega) (by omega)
  have w5:wr .i64 (r+hi - lo)=r+hi - lo:=kX (by omega) (by omega)
  have w6:wr .i64 (r+hi - lo+1)=r+hi - lo+1:=kX (by omega) (by omega)
  have w7:wr .i64 (lo+(r+hi - lo+1))=lo+q:=by rw [kX (by omega) (by omega)];omega
  simp only [c,if_true,w4,w5,w6,w7]
 ·have w7:wr .i64 (lo+r)=lo+q:=by rw [kX (by omega) (by omega)];omega
  simp only [c,if_false,w7]
end Go.Proofs.YtoaibmbldmckaaaGreat
end
section
namespace Go.AM
theorem bGk {n b:Nat} {S:St} {v:V} {es:List (List V)} (h:Own E0 S n v es) (w:WF S) {c:List V} (hc:c.length=n∧aM c=true) (h1:(es.length+1)*b≤35184372088832) (h2:es.length+1<eG):
  ∃ v' S',cQ n b v (.sl S.next 0 n 0 1) none ⟨S.next+1,S.heap.put S.next (.row 0 n [c])⟩=.ok (v',S')∧Own E0 S' n v' (es++[c])∧WF S'∧S.next+1≤S'.next∧(blkOf v'=blkOf v∨blkOf v'=some (S.next+1))∧∀ y,y<S.next→blkOf v≠some y→S'.heap.get y=S.heap.get y:=by
 obtain ⟨v',S',q1,q2,q3,q4⟩:=aLj (b:=b) h w (cs:=[c]) (fun d hd=>by rcases List.mem_singleton.1 hd with rfl;exact hc) (by simp) h1 h2
 have hu:bQ ⟨S.next+1,S.heap.put S.next (.row 0 n [c])⟩ (.sl S.next 0 n 0 1)=.ok [c]:=by
  simp only [bQ,aO];rfl
 have hk:∀ y,y<S.next→blkOf v≠some y→S'.heap.get y=S.heap.get y:=fun y hy hb=>q4 y hy fun a ver m hv e=>hb (by rw [hv,e];rfl)
 refine ⟨v',S',q1,q2,q3,?_,?_,hk⟩
 ·have q1:cQ n b v (.sl S.next 0 n 0 1) none ⟨S.next+1,S.heap.put S.next (.row 0 n [c])⟩=.ok (v',S'):=q1
  unfold cQ at q1
  simp only [hu] at q1
  repeat' split at q1
  all_goals first | (cases q1;done) | skip
  ·rename_i hn
   rw [eB] at hn
   cases hn;cases q1;exact Nat.le_succ _
  ·cases q1;exact Nat.le_refl _
 ·have q1:cQ n b v (.sl S.next 0 n 0 1) none ⟨S.next+1,S.heap.put S.next (.row 0 n [c])⟩=.ok (v',S'):=q1
  unfold cQ at q1
  simp only [hu] at q1
  repeat' split at q1
  all_goals first | (cases q1;done) | skip
  ·rename_i hn
   rw [eB] at hn
   cases hn;cases q1;exact .inr rfl
  ·cases q1;exact .inl rfl
end Go.AM
namespace Go.Proofs.YtoaibmbldmckaaaGreat
open Go.AM Tryz
set_option linter.unusedVariables false
set_option linter.unusedSimpArgs false
set_option maxRecDepth 100000
structure Nest (m:Nat) (S:St) (v:V) (l:List Posted):Prop where
 low:∀ y,AM.blkOf v=some y→m≤y
 is:∃ es,Own E0 S 12 v es∧es.length=l.length∧∀ (j:Nat) (p:Posted),l[j]?=some p→∃ u,es[j]?=some (p.cells u)∧Own E0 S 4 u (p.total.parts.map Part.enc)∧∀ y,AM.blkOf u=some y→m≤y∧AM.blkOf v≠some y
theorem Nest.nil (m:Nat) (S:St):Nest m S .nils []:=⟨fun y h=>(by cases h),[],Own.nil _ _ _,rfl,fun j p h=>(by cases h)⟩
theorem Nest.same {m:Nat} {S S':St} {v:V} {l:List Posted} (h:Nest m S v l) (hn:S.next≤S'.next) (hg:∀ y,m≤y→y<S.next→S'.heap.get y=S.heap.get y):Nest m S' v l:=by
 obtain ⟨low,es,o,hl,hes⟩:=h
 refine ⟨low,es,o.same hn fun y hy=>hg y (low y hy) (dS o hy).2,hl,fun j p hj=>?_⟩
 obtain ⟨u,h1,h2,h3⟩:=hes j p hj
 exact ⟨u,h1,h2.same hn fun y hy=>hg y (h3 y hy).1 (dS h2 hy).2,h3⟩
theorem Nest.lt {m:Nat} {S:St} {v:V} {l:List Posted} (h:Nest m S v l) {y:Nat} (hy:AM.blkOf v=some y):m≤y∧y<S.next:=by
 obtain ⟨low,es,o,_⟩:=h
 exact ⟨low y hy,(dS o hy).2⟩
theorem Nest.one {m:Nat} {S:St} {v:V} {l:List Posted} (h:Nest m S v l):v.one=true∧v.cells=[v]:=by
 obtain ⟨low,es,o,_⟩:=h
 exact ⟨o.one,o.cells⟩
theorem Nest.out {m:Nat} {S:St} {v:V} {l:List Posted} (h:Nest m S v l):dH lX (oS (kA S 3) S) v=.ok (.imm (l.map Posted.enc)):=by
 obtain ⟨low,es,o,hl,hes⟩:=h
 have hm:lW (kA S 3) es=.ok (l.map Posted.enc):=aG9 (by rw [List.length_map];exact hl) fun j x hx=>by
  have hjl:j<l.length:=by rw [←hl];exact (List.getElem?_eq_some_iff.1 hx).1
  have hj:l[j]?=some l[j]:=List.getElem?_eq_getElem hjl
  obtain ⟨u,h1,h2,_⟩:=hes j _ hj
  rw [hx] at h1
  cases h1
  refine ⟨l[j].enc,by rw [List.getElem?_map,hj];rfl,?_⟩
  have hf:=h2.frzN (dM (fun _=>rfl) _) 1
  simp only [kA,Posted.cells,frzVs,dH] at hf ⊢
  rw [hf]
  rfl
 rcases o.is with ⟨rfl,rfl⟩ | ⟨a,ver,tl,rfl,_,_,q⟩
 ·cases l with
  | nil=>rfl
  | cons p l=>simp at hl
 ·have he:bQ S (.sl a ver 12 0 es.length)=.ok es:=o.sl.elems
  simp only [dH,oS,he,hm]
theorem Nest.push {m:Nat} {S:St} {v:V} {l:List Posted} (h:Nest m S v l) (w:WF S) (p:Posted) {u:V} (hu:Own E0 S 4 u (p.total.parts.map Part.enc)) (hb:∀ y,AM.blkOf u=some y→m≤y∧AM.blkOf v≠some y) (hm:m≤S.next) (hl:l.length≤1000000):
  ∃ v' S',cQ 12 128 v (.sl S.next 0 12 0 1) none ⟨S.next+1,S.heap.put S.next (.row 0 12 [p.cells u])⟩=.ok (v',S')∧Nest m S' v' (l++[p])∧WF S'∧S.next+1≤S'.next∧∀ y,y<S.next→AM.blkOf v≠some y→S'.heap.get y=S.heap.get y:=by
 obtain ⟨low,es,o,hel,hes⟩:=h
 obtain ⟨v',S',q1,q2,q3,q4,q5,q6⟩:=bGk (b:=128) o w (c:=p.cells u) ⟨rfl,by simp only [Posted.cells,aWz,bAx,bO5,bO6,bO7,hu.one,Bool.and_self]⟩ (by omega) (by unfold eG;omega)
 have hv':∀ y,AM.blkOf v'=some y→AM.blkOf v=some y∨S.next≤y:=fun y hy=>by
  rcases q5 with e | e
  ·rw [←e];exact .inl hy
  ·rw [e] at hy;cases hy;exact .inr (Nat.le_succ _)
 refine ⟨v',S',q1,⟨fun y hy=>?_,_,q2,by simp [hel],fun j q hj=>?_⟩,q3,q4,q6⟩
 ·rcases hv' y hy with e | e
  ·exact low y e
  ·omega
 ·have keep:∀ {u:V} {x:List (List V)},Own E0 S 4 u x→(∀ y,AM.blkOf u=some y→m≤y∧AM.blkOf v≠some y)→Own E0 S' 4 u x∧∀ y,AM.blkOf u=some y→m≤y∧AM.blkOf v'≠some y:=fun {u x} ou hk=>by
   refine ⟨ou.same (by omega) fun y hy=>q6 y (dS ou hy).2 (hk y hy).2,fun y hy=>⟨(hk y hy).1,fun e=>?_⟩⟩
   rcases hv' y e with e | e
   ·exact (hk y hy).2 e
   ·have:=(dS ou hy).2;omega
  by_cases c:j<l.length
  ·rw [List.getElem?_append_left c] at hj
   obtain ⟨u1,h1,h2,h3⟩:=hes j q hj
   obtain ⟨k1,k2⟩:=keep h2 h3
   exact ⟨u1,by rw [List.getElem?_append_left (by omega)];exact h1,k1,k2⟩
  ·rw [List.getElem?_append_right (by omega)] at hj
   have hj0:j - l.length=0:=by
    have:=(List.getElem?_eq_some_iff.1 hj).1
    simp at this;omega
   rw [hj0] at hj
   cases hj
   obtain ⟨k1,k2⟩:=keep hu hb
   exact ⟨u,by rw [List.getElem?_append_right (by omega),hel,hj0];rfl,k1,k2⟩
end Go.Proofs.YtoaibmbldmckaaaGreat
end
section
namespace Go.AM
theorem bGl (z:List V) (fr:Option Nat) (S:St):aP 4 z 0 [] fr S=(match aJ fr S (.row 0 4 []) with
  | .error e=>.error e
  | .ok (a,S')=>.ok (.sl a 0 4 0 0,S')):=by unfold aP;rw [if_pos (by decide)];rfl
theorem aIf {α:Type} {enc:α→List V} {n b:Nat} (hl:∀ x,(enc x).length=n∧aM (enc x)=true) (l:List α) {S:St} {a:Nat} (hg:aI S a 0=.ok (n,[])) (h1:l.length*b≤35184372088832) (h2:l.length<eG) (fr:Option Nat):
  cQ n b (.sl a 0 n 0 0) (.imm (l.map enc)) fr S=.ok (.sl a 1 n 0 l.length,⟨S.next,S.heap.put a (.row 1 n (l.map enc))⟩):=by
 have hc:∀ cs,cs∈l.map enc→cs.length=n∧aM cs=true:=fun cs hc=>by obtain ⟨x,_,rfl⟩:=List.mem_map.1 hc;exact hl x
 obtain ⟨a1,a2⟩:=dG hc
 simp only [cQ,bQ,a1,a2,and_self,if_true,hg,List.length_map,Nat.zero_add,List.length_nil,Nat.le_refl,h1,h2,List.drop_nil,List.take_nil,List.nil_append]
end Go.AM
namespace Go.Proofs.YtoaibmbldmckaaaGreat
open Go.AM Tryz
set_option linter.unusedVariables false
set_option linter.unusedSimpArgs false
set_option maxRecDepth 100000
structure BndC (s:State):Prop where
 bt:s.table.length≤1048576
 bs:s.ser.length≤1048576
 bp:s.posted.length≤100000
 bb:s.book.length≤1048576
 be:s.sess.length≤1048576
 bq:∀ p∈s.posted,p.total.parts.length≤1048576
theorem Bnd.c {s:State} (b:Bnd s):BndC s:=⟨by have:=b.bt;omega,by have:=b.bs;omega,b.bp,by have:=b.bb;omega,by have:=b.be;omega,fun p hp=>by have:=b.bq p hp;omega⟩
theorem g26 (s:State) (b:BndC s) (S:St) (K:KW):C 26 [.agg [.imm (s.table.map Rate.enc),.imm (s.ser.map Ser.enc),.imm (s.posted.map Posted.enc),.imm (s.book.map Bal.enc),.imm (s.sess.map Sess.enc),.int .i64 s.next]] S K=
  K (.agg [.imm (s.table.map Rate.enc),.imm (s.ser.map Ser.enc),.imm (s.posted.map Posted.enc),.imm (s.book.map Bal.enc),.imm (s.sess.map Sess.enc),.int .i64 s.next]) S:=by
 refine (v26 rfl ?_).eq S K
 have hbt:=b.bt
 have hbs:=b.bs
 have hbp:=b.bp
 have hbb:=b.bb
 have hbe:=b.be
 obtain ⟨A0,hA0⟩:∃ A0:St,A0=⟨2+1,(((Tr.nil.put 0 (.row 0 6 [s.enc])).put 1 (.row 0 6 [xS])).put 2 (.row 0 6 [xS])).put 2 (.row 0 6 [[.nils,.nils,.nils,.nils,.nils,.int .i64 s.next]])⟩:=⟨_,rfl⟩
 have w0:WF A0:=by rw [hA0];exact hJ (n:=3) (hJ (n:=2) (hJ (n:=1) (hJ oU (by decide) (by decide)) (by decide) (by decide)) (by decide) (by decide)) (by decide) (by decide)
 have n0:A0.next=3:=by rw [hA0]
 have r0:aI A0 0 0=.ok (6,[s.enc]):=by rw [hA0];rfl
 have r1:aI A0 1 0=.ok (6,[xS]):=by rw [hA0];rfl
 have r2:aI A0 2 0=.ok (6,[[.nils,.nils,.nils,.nils,.nils,.int .i64 s.next]]):=by rw [hA0];rfl
 have cp:∀ {α:Type} {enc:α→List V} {n bb:Nat} (hl:∀ x,(enc x).length=n∧aM (enc x)=true) (l:List α) {A:St} (w:WF A) (_:3≤A.next) (_:l.length*bb≤35184372088832) (_:l.length<eG),∃ v A',cQ n bb .nils (.imm (l.map enc)) none A=.ok (v,A')∧WF A'∧Own E0 A' n v (l.map enc)∧(∀ y,AM.blkOf v=some y→A.next≤y)∧Ext A A':=by
  intro α enc n bb hl l A w h3 h1 h2
  obtain ⟨v,A',q1,x,own⟩:=aHx (b:=bb) hl l w h1 h2
  exact ⟨v,A',q1,x.wf w,own.weaken (Nat.zero_le _),fun y hy=>(dS own hy).1,x⟩
 have fw:∀ {A:St} (cs:List V),WF A→3≤A.next→WF ⟨A.next,A.heap.put 2 (.row 0 6 [cs])⟩:=fun cs w h=>hJ (n:=_) w (by omega) (Nat.le_refl _)
 have keepO:∀ {A:St} {n:Nat} {v:V} {es:List (List V)} (cs:List V),Own E0 A n v es→(∀ y,AM.blkOf v=some y→3≤y)→Own E0 ⟨A.next,A.heap.put 2 (.row 0 6 [cs])⟩ n v es:=fun cs o g=>o.same (Nat.le_refl _) fun y hy=>Tr.get_put_neB _ _ _ _ trivial (by have:=g y hy;omega)
 obtain ⟨v1,A1,q1,w1,o1,b1,x1⟩:=cp (bb:=48) aQ3 s.table w0 (by omega) (by omega) (by unfold eG;omega)
 have m1:=x1.next
 have w1':=fw [v1,.nils,.nils,.nils,.nils,.int .i64 s.next] w1 (by omega)
 obtain ⟨v2,A2,q2,w2,o2,b2,x2⟩:=cp (bb:=40) aNi s.ser w1' (by show 3≤A1.next;omega) (by omega) (by unfold eG;omega)
 have m2:A1.next≤A2.next:=x2.next
 have w2':=fw [v1,v2,.nils,.nils,.nils,.int .i64 s.next] w2 (by omega)
 obtain ⟨v3,A3,q3,w3,o3,b3,x3⟩:=cp (bb:=24) aNk s.book w2' (by show 3≤A2.next;omega) (by omega) (by unfold eG;omega)
 have m3:A2.next≤A3.next:=x3.next
 have w3':=fw [v1,v2,.nils,v3,.nils,.int .i64 s.next] w3 (by omega)
 obtain ⟨v4,A4,q4,w4,o4,b4,x4⟩:=cp (bb:=40) aDl s.sess w3' (by show 3≤A3.next;omega) (by omega) (by unfold eG;omega)
 have m4:A3.next≤A4.next:=x4.next
 have b2:∀ y,AM.blkOf v2=some y→A1.next≤y:=b2
 have b3:∀ y,AM.blkOf v3=some y→A2.next≤y:=b3
 have b4:∀ y,AM.blkOf v4=some y→A3.next≤y:=b4
 have g1:∀ y,AM.blkOf v1=some y→3≤y:=fun y hy=>by have:=b1 y hy;omega
 have g2:∀ y,AM.blkOf v2=some y→3≤y:=fun y hy=>by have:=b2 y hy;omega
 have g3:∀ y,AM.blkOf v3=some y→3≤y:=fun y hy=>by have:=b3 y hy;omega
 have g4:∀ y,AM.blkOf v4=some y→3≤y:=fun y hy=>by have:=b4 y hy;omega
 have u1:=keepO [v1,v2,.nils,v3,v4,.int .i64 s.next] ((keepO [v1,v2,.nils,v3,.nils,.int .i64 s.next] ((keepO [v1,v2,.nils,.nils,.nils,.int .i64 s.next] ((keepO [v1,.nils,.nils,.nils,.nils,.int .i64 s.next] o1 g1).ext x2) g1).ext x3) g1).ext x4) g1
 have u2:=keepO [v1,v2,.nils,v3,v4,.int .i64 s.next] ((keepO [v1,v2,.nils,v3,.nils,.int .i64 s.next] ((keepO [v1,v2,.nils,.nils,.nils,.int .i64 s.next] o2 g2).ext x3) g2).ext x4) g2
 have u3:=keepO [v1,v2,.nils,v3,v4,.int .i64 s.next] ((keepO [v1,v2,.nils,v3,.nils,.int .i64 s.next] o3 g3).ext x4) g3
 have u4:=keepO [v1,v2,.nils,v3,v4,.int .i64 s.next] o4 g4
 have e1:=o1.one
 have e2:=o2.one
 have e3:=o3.one
 have e4:=o4.one
 have f1:=o1.cells
 have f2:=o2.cells
 have f3:=o3.cells
 have f4:=o4.cells
 have k0:∀ {A A':St} {y:Nat} {n:Nat} {el:List (List V)} (cs:List V),y<2→Ext A A'→aI A y 0=.ok (n,el)→aI ⟨A'.next,A'.heap.put 2 (.row 0 6 [cs])⟩ y 0=.ok (n,el):=fun cs hy x h=>by
  refine aX (x.row h) ?_
  show (_:Tr Blk).get _=_
  exact Tr.get_put_neB _ _ _ _ trivial (by omega)
 have a1:=x1.row r0
 have a2:=x2.row (k0 [v1,.nils,.nils,.nils,.nils,.int .i64 s.next] (by decide) x1 r0)
 have a3:=x3.row (k0 [v1,v2,.nils,.nils,.nils,.int .i64 s.next] (by decide) x2 (k0 [v1,.nils,.nils,.nils,.nils,.int .i64 s.next] (by decide) x1 r0))
 have a4:=k0 [v1,v2,.nils,v3,v4,.int .i64 s.next] (by decide) x4 (k0 [v1,v2,.nils,v3,.nils,.int .i64 s.next] (by decide) x3 (k0 [v1,v2,.nils,.nils,.nils,.int .i64 s.next] (by decide) x2 (k0 [v1,.nils,.nils,.nils,.nils,.int .i64 s.next] (by decide) x1 r0)))
 have c4:=k0 [v1,v2,.nils,v3,v4,.int .i64 s.next] (by decide) x4 (k0 [v1,v2,.nils,v3,.nils,.int .i64 s.next] (by decide) x3 (k0 [v1,v2,.nils,.nils,.nils,.int .i64 s.next] (by decide) x2 (k0 [v1,.nils,.nils,.nils,.nils,.int .i64 s.next] (by decide) x1 r1)))
 have t1:=x1.row r2
 have t2:=x2.row (aO A1.next A1.heap 2 0 6 [[v1,.nils,.nils,.nils,.nils,.int .i64 s.next]])
 have t3:=x3.row (aO A2.next A2.heap 2 0 6 [[v1,v2,.nils,.nils,.nils,.int .i64 s.next]])
 have t4:=x4.row (aO A3.next A3.heap 2 0 6 [[v1,v2,.nils,v3,.nils,.int .i64 s.next]])
 simp only [State.enc] at r0 a1 a2 a3 a4 hA0
 simp only [xS] at hA0 c4 r1
 have ne0:((0:Nat)=2)=False:=by simp
 simp only [m26,kk,iL,←hA0,r0,r2,q1,a1,t1,e1,f1,q2,a2,t2,e2,f2,q3,a3,t3,e3,f3,q4,t4,e4,f4]
 obtain ⟨m,hm⟩:∃ m,m=A4.next:=⟨_,rfl⟩
 have oN:∀ {A A':St} {n:Nat} {v:V} {es:List (List V)},Own E0 A n v es→A.next≤A'.next→(∀ y,AM.blkOf v=some y→y<m)→(∀ y,3≤y→y<m→A'.heap.get y=A.heap.get y)→(∀ y,AM.blkOf v=some y→3≤y)→Own E0 A' n v es:=fun o hn hb hk hg=>o.same hn fun y hy=>hk y (hg y hy) (hb y hy)
 have l1:∀ y,AM.blkOf v1=some y→y<m:=fun y hy=>by have:=(dS u1 hy).2;show y<m;rw [hm];exact this
 have l2:∀ y,AM.blkOf v2=some y→y<m:=fun y hy=>by have:=(dS u2 hy).2;show y<m;rw [hm];exact this
 have l3:∀ y,AM.blkOf v3=some y→y<m:=fun y hy=>by have:=(dS u3 hy).2;show y<m;rw [hm];exact this
 have l4:∀ y,AM.blkOf v4=some y→y<m:=fun y hy=>by have:=(dS u4 hy).2;show y<m;rw [hm];exact this
 refine aZ s.posted (step:=fun (_:Unit) (_:Posted)=>(.inr ():Unit⊕Unit)) (fin:=id) (fun i _ vs A=>vs=[.int .i64 (i:Int)]∧WF A∧m≤A.next∧aI A 0 0=.ok (6,[s.enc])∧aI A 1 0=.ok (6,[xS]) ∧
  Own E0 A 5 v1 (s.table.map Rate.enc)∧Own E0 A 4 v2 (s.ser.map Ser.enc)∧Own E0 A 2 v3 (s.book.map Bal.enc)∧Own E0 A 5 v4 (s.sess.map Sess.enc)∧∃ pv,aI A 2 0=.ok (6,[[v1,v2,pv,v3,v4,.int .i64 s.next]])∧Nest m A pv (s.posted.take i)) (fun _=>True) ?_ ?_ (s:=())
  ⟨rfl,fw _ w4 (by omega),by rw [hm];exact Nat.le_refl _,a4,c4,u1,u2,u3,u4,.nils,aO _ _ _ _ _ _,Nest.nil _ _⟩ trivial
 ·rintro i p _ vs A hi ⟨rfl,w,hA,i0,i1,z1,z2,z3,z4,pv,i2,ne⟩ aQ H
  have hil:=(List.getElem?_eq_some_iff.1 hi).1
  have hpl:=b.bq p (List.mem_of_getElem? hi)
  obtain ⟨B,hB⟩:∃ B:St,B=⟨A.next+1,(A.heap.put A.next (.row 0 12 [zW])).put A.next (.row 0 12 [p.enc])⟩:=⟨_,rfl⟩
  have wB:WF B:=by rw [hB];exact hJ (n:=A.next+1) (hJ (n:=A.next) w (by omega) (Nat.le_succ _)) (by omega) (Nat.le_refl _)
  have nB:B.next=A.next+1:=by rw [hB]
  have kB:∀ y,y<A.next→B.heap.get y=A.heap.get y:=fun y hy=>by
   rw [hB]
   show ((A.heap.put A.next _).put A.next _).get y=_
   rw [Tr.get_put_neB _ _ _ _ trivial (by omega),Tr.get_put_neB _ _ _ _ trivial (by omega)]
  have rB:aI B A.next 0=.ok (12,[p.enc]):=by rw [hB];exact aO _ _ _ _ _ _
  obtain ⟨D,hD⟩:∃ D:St,D=⟨B.next+1,B.heap.put B.next (.row 0 4 [])⟩:=⟨_,rfl⟩
  have wD:WF D:=by rw [hD];exact hJ (n:=B.next) wB (by omega) (by omega)
  have nD:D.next=A.next+2:=by rw [hD];show B.next+1=_;omega
  have kD:∀ y,y≤A.next→D.heap.get y=B.heap.get y:=fun y hy=>by rw [hD];exact Tr.get_put_neB _ _ _ _ trivial (by omega)
  have gD:aI D B.next 0=.ok (4,[]):=by rw [hD];exact aO _ _ _ _ _ _
  obtain ⟨u,hu⟩:∃ u,u=V.sl B.next 1 4 0 p.total.parts.length:=⟨_,rfl⟩
  have q5:=aIf (b:=40) aHy p.total.parts gD (by omega) (by unfold eG;omega) none
  obtain ⟨F,hF⟩:∃ F:St,F=⟨D.next,(D.heap.put B.next (.row 1 4 (p.total.parts.map Part.enc))).put A.next (.row 0 12 [p.cells u])⟩:=⟨_,rfl⟩
  have wF:WF F:=by rw [hF];exact hJ (n:=D.next) (hJ (n:=D.next) wD (by omega) (Nat.le_refl _)) (by omega) (Nat.le_refl _)
  have nF:F.next=A.next+2:=by rw [hF];exact nD
  have kF:∀ y,y<A.next→F.heap.get y=A.heap.get y:=fun y hy=>by
   rw [hF]
   show ((D.heap.put B.next _).put A.next _).get y=_
   rw [Tr.get_put_neB _ _ _ _ trivial (by omega),Tr.get_put_neB _ _ _ _ trivial (by omega),kD y (by omega),kB y hy]
  have gF:F.heap.get B.next=some (.row 1 4 (p.total.parts.map Part.enc)):=by
   rw [hF]
   show ((D.heap.put B.next _).put A.next _).get B.next=_
   rw [Tr.get_put_neB _ _ _ _ trivial (by omega)]
   exact Tr.get_put_sameB _ _ _ trivial
  have hou:Own E0 F 4 u (p.total.parts.map Part.enc):=⟨.inr ⟨B.next,1,[],by rw [hu,List.length_map],Nat.zero_le _,by omega,by rw [List.append_nil];exact gF⟩,fun c hc=>by obtain ⟨x,_,rfl⟩:=List.mem_map.1 hc;exact aHy x⟩
  have hbu:∀ y,AM.blkOf u=some y→y=B.next:=fun y hy=>by rw [hu] at hy;cases hy;rfl
  have j0:=aX i0 (kF 0 (by omega))
  have j1:=aX i1 (kF 1 (by omega))
  have j2:=aX i2 (kF 2 (by omega))
  have rF:aI F A.next 0=.ok (12,[p.cells u]):=by rw [hF];exact aO _ _ _ _ _ _
  have neF:=ne.same (S':=F) (by omega) fun y _ hy=>kF y hy
  obtain ⟨pv',G,q6,ne',wG,nG,kG⟩:=neF.push wF p hou (fun y hy=>⟨by have:=hbu y hy;omega,fun e=>by have:=hbu y hy;have:=(ne.lt e).2;omega⟩) (by omega) (by rw [List.length_take];omega)
  have hpv:∀ y,AM.blkOf pv=some y→m≤y∧y<A.next:=fun y hy=>ne.lt hy
  have kG':∀ y,y<m→G.heap.get y=A.heap.get y:=fun y hy=>by rw [kG y (by omega) fun e=>by have:=hpv y e;omega,kF y (by omega)]
  have h0:=aX i0 (kG' 0 (by omega))
  have h1:=aX i1 (kG' 1 (by omega))
  have h2:=aX i2 (kG' 2 (by omega))
  have hone:pv'.one=true∧pv'.cells=[pv']:=ne'.one
  have rD0:=aX (aX i0 (kB 0 (by omega))) (kD 0 (by omega))
  have rB0:=aX i0 (kB 0 (by omega))
  have rD2:aI D A.next 0=.ok (12,[p.enc]):=aX rB (kD _ (Nat.le_refl _))
  have hF1:(⟨D.next,D.heap.put B.next (.row 1 4 (p.total.parts.map Part.enc))⟩:St).heap.get A.next=D.heap.get A.next:=Tr.get_put_neB _ _ _ _ trivial (by omega)
  have rE2:=aX rD2 hF1
  simp only [State.enc] at i0 rD0 rB0
  simp only [Posted.enc] at hB rB rD2 rE2
  simp only [zW] at hB
  simp only [Posted.cells,hu] at rF hF
  simp only [Posted.cells,hu] at q6
  simp only [aJi,kk,dK hi,i0,nN hi,Posted.enc,←hB,bGl,←hD,rD0,q5,rE2,←hF,j2,rF,aQ2,q6,h2,hone.1,hone.2,mO (show i<1000000000 by omega),Nat.zero_add]
  have hk2:∀ (y:Nat) (b:Blk),3≤y→y<m→(⟨G.next,G.heap.put 2 b⟩:St).heap.get y=A.heap.get y:=fun y b h3 hy=>by
   show (G.heap.put 2 b).get y=_
   rw [Tr.get_put_neB _ _ _ _ trivial (by omega)];exact kG' y hy
  refine H _ _ ⟨rfl,hJ (n:=G.next) wG (by omega) (Nat.le_refl _),by show m≤G.next;omega,aU (n:=G.next) (by decide) h0,aU (n:=G.next) (by decide) h1,oN z1 (by show A.next≤G.next;omega) l1 (fun y h3 hy=>hk2 y _ h3 hy) g1,oN z2 (by show A.next≤G.next;omega) l2 (fun y h3 hy=>hk2 y _ h3 hy) g2,oN z3 (by show A.next≤G.next;omega) l3 (fun y h3 hy=>hk2 y _ h3 hy) g3,oN z4 (by show A.next≤G.next;omega) l4 (fun y h3 hy=>hk2 y _ h3 hy) g4,pv',aO _ _ _ _ _ _,?_⟩
  have ht:s.posted.take (i+1)=s.posted.take i++[p]:=by rw [List.take_add_one,hi];rfl
  rw [ht]
  exact ne'.same (Nat.le_refl _) fun y hy _=>Tr.get_put_neB _ _ _ _ trivial (by omega)
 ·rintro _ vs A ⟨rfl,w,hA,i0,i1,z1,z2,z3,z4,pv,i2,ne⟩ aQ H
  rw [List.take_length] at ne
  simp only [xS] at i1
  simp only [State.enc] at i0
  have hone:pv.one=true∧pv.cells=[pv]:=ne.one
  simp only [aJi,kk,Int.lt_irrefl,if_false,i0,i2,i1,e1,e2,e3,e4,f1,f2,f3,f4,hone.1,hone.2]
  have hk1:∀ (y:Nat) (b:Blk),3≤y→y<m→(⟨A.next,A.heap.put 1 b⟩:St).heap.get y=A.heap.get y:=fun y b h3 hy=>Tr.get_put_neB _ _ _ _ trivial (by omega)
  have y1:=(oN z1 (A':=⟨A.next,A.heap.put 1 (.row 0 6 [[v1,v2,pv,v3,v4,.int .i64 s.next]])⟩) (Nat.le_refl _) l1 (fun y h3 hy=>hk1 y _ h3 hy) g1).out fun _=>rfl
  have y2:=(oN z2 (A':=⟨A.next,A.heap.put 1 (.row 0 6 [[v1,v2,pv,v3,v4,.int .i64 s.next]])⟩) (Nat.le_refl _) l2 (fun y h3 hy=>hk1 y _ h3 hy) g2).out fun _=>rfl
  have y3:=(oN z3 (A':=⟨A.next,A.heap.put 1 (.row 0 6 [[v1,v2,pv,v3,v4,.int .i64 s.next]])⟩) (Nat.le_refl _) l3 (fun y h3 hy=>hk1 y _ h3 hy) g3).out fun _=>rfl
  have y4:=(oN z4 (A':=⟨A.next,A.heap.put 1 (.row 0 6 [[v1,v2,pv,v3,v4,.int .i64 s.next]])⟩) (Nat.le_refl _) l4 (fun y h3 hy=>hk1 y _ h3 hy) g4).out fun _=>rfl
  have y5:=(ne.same (S':=⟨A.next,A.heap.put 1 (.row 0 6 [[v1,v2,pv,v3,v4,.int .i64 s.next]])⟩) (Nat.le_refl _) fun y hy _=>Tr.get_put_neB _ _ _ _ trivial (by omega)).out
  simp only [oo,y1,y2,y3,y4,y5]
end Go.Proofs.YtoaibmbldmckaaaGreat
end
section
namespace Go.Proofs.YtoaibmbldmckaaaGreat
open Go.AM Tryz
theorem bQ6 {S:St} {v:V} {l:List Posted} (o:Own E0 S 12 v (l.map Posted.enc)) (hl:l.length<1000000) (K:KW):C 42 [v] S K=K (.int .i64 (mH l)) S:=by
 have h:=o.out fun _=>rfl
 exact (Fn.back fun S K=>g42 l hl S K).frz bE8 rfl (by simp only [frzVs,h]) (by simp only [ptrsVs,o.ptrs];rfl) (.inl rfl) K
def aM4 (q:Posted) (b:Bool) (p:Posted):Bool⊕Bool:=.inr (b&&!decide (p.ref.ser=q.ref.ser))
theorem aE6 (q:Posted):∀ (l:List Posted) (b:Bool),aS (aM4 q) id l b=(b&&decide (∀ p∈l,p.ref.ser≠q.ref.ser))
 | [],b=>by simp [aS]
 | p::l,b=>by
  simp only [aS,aM4]
  rw [aE6 q l]
  by_cases c:p.ref.ser=q.ref.ser<;>cases b<;>simp [c]
theorem bBg (l:List Posted) {k:Nat} (hk:k≤l.length):cC prog 26 (.imm (l.map Posted.enc)) none (some (.int .i64 (k:Int)))=.ok (.imm ((l.take k).map Posted.enc)):=by
 have hb:cB (l.map Posted.enc).length none (some (.int .i64 (k:Int)))=.ok (0,k):=by
  have:(decide ((0:Int)≤(k:Int))&&decide ((k:Int)≤((l.map Posted.enc).length:Int)))=true:=by simp;omega
  simp only [cB,this,cond_true]
  rfl
 rw [aPq _ (dG (n:=12) (fun c hc=>by obtain ⟨x,_,rfl⟩:=List.mem_map.1 hc;exact nO x)).1,hb]
 simp only [List.drop_zero,Nat.sub_zero,List.map_take]
theorem bBh (l:List Posted) {k:Nat} (hk:k≤l.length):cC prog 26 (.imm (l.map Posted.enc)) (some (.int .i64 (k:Int))) none=.ok (.imm ((l.drop k).map Posted.enc)):=by
 have hb:cB (l.map Posted.enc).length (some (.int .i64 (k:Int))) none=.ok (k,l.length):=by
  have:(decide ((0:Int)≤(k:Int))&&decide ((k:Int)≤((l.map Posted.enc).length:Int)))=true:=by simp;omega
  simp only [cB,List.length_map] at this ⊢
  simp [hk]
 rw [aPq _ (dG (n:=12) (fun c hc=>by obtain ⟨x,_,rfl⟩:=List.mem_map.1 hc;exact nO x)).1,hb]
 simp only [List.map_drop]
 rw [List.take_of_length_le (by rw [List.length_map];exact Nat.le_refl _)]
theorem bBi (z:List V) (fr:Option Nat) (S:St):aP 12 z 0 [] fr S=(match aJ fr S (.row 0 12 []) with
  | .error e=>.error e
  | .ok (a,S')=>.ok (.sl a 0 12 0 0,S')):=by unfold aP;rw [if_pos (by decide)];rfl
theorem bBj {α:Type} {enc:α→List V} {n b:Nat} (hl:∀ x,(enc x).length=n∧aM (enc x)=true) (l r:List α) {S:St} {a:Nat} {ver:Nat} (hg:aI S a ver=.ok (n,l.map enc)) (h1:(l.length+r.length)*b≤35184372088832) (h2:l.length+r.length<eG) (fr:Option Nat):
  cQ n b (.sl a ver n 0 l.length) (.imm (r.map enc)) fr S=.ok (.sl a (ver+1) n 0 (l.length+r.length),⟨S.next,S.heap.put a (.row (ver+1) n ((l++r).map enc))⟩):=by
 have hc:∀ cs,cs∈r.map enc→cs.length=n∧aM cs=true:=fun cs hc=>by obtain ⟨x,_,rfl⟩:=List.mem_map.1 hc;exact hl x
 obtain ⟨a1,a2⟩:=dG hc
 simp only [cQ,bQ,a1,a2,and_self,if_true,hg,List.length_map,Nat.zero_add,Nat.le_refl,h1,h2,List.drop_zero,List.map_append]
 rw [List.take_of_length_le (by rw [List.length_map];exact Nat.le_refl _)]
theorem aO5 {s:State} (hr:bZ s=true):Bnd s:=by
 obtain ⟨h1,h2,h3,h4,h5,h6,_⟩:=mZ hr
 exact ⟨by omega,by omega,by omega,by omega,by omega,fun p hp=>by have:=h6 p hp;omega⟩
theorem aO6:(fun a b:Bool=>aH prog .eql 4 (.bool a) (.bool b))=fun a b=>.ok (.bool (a == b)):=by kernel_rfl
theorem aO7 (a b:Bool):aH prog .eql 4 (.bool a) (.bool b)=.ok (.bool (a == b)):=congrFun (congrFun aO6 a) b
theorem g8 (l:List Call) (out:Int) (S:St) (K:KW):C 8 [.imm (l.map Call.enc),.int .i64 out] S K=K (.bool true) S:=by
 refine (v8 rfl ?_).eq S K
 have h30:=fun S K=>g30 l 60 (by decide) S K
 simp only [show ((60:Nat):Int)=60 from rfl] at h30
 obtain ⟨s,hs⟩:∃ s,s=(playM State.new (qZ l 60)).1:=⟨_,rfl⟩
 have hb:Beh s:=by rw [hs];exact Beh.new.playM _
 have h35:=fun S K=>a35 l 60 (by decide) S K
 simp only [←hs] at h35
 obtain ⟨law1,law2⟩:=aCr hb
 have hpl:=(mZ hb.right).2.2.2.1
 have h42:=fun S K=>g42 s.posted (by omega) S K
 simp only [law1] at h42
 simp only [m8,kk,iL,gm,g31,h30,h35,h42,not_true_eq_false,if_false]
 by_cases c0:s.posted.length=0
 ·simp only [c0,show ((0:Nat):Int)=0 from rfl,if_true,g44,oo]
 have wl:wr .i64 ((s.posted.length:Int) - 1)=(s.posted.length:Int) - 1:=kX (by omega) (by omega)
 obtain ⟨k,hk⟩:∃ k:Nat,(k:Int)=pU out 0 ((s.posted.length:Int) - 1):=⟨(pU out 0 ((s.posted.length:Int) - 1)).toNat,by
  have:=wZ out (show (0:Int)≤(s.posted.length:Int) - 1 by omega);omega⟩
 have rk:=wZ out (show (0:Int)≤(s.posted.length:Int) - 1 by omega)
 rw [←hk] at rk
 have h45:=fun S K=>g45 out 0 ((s.posted.length:Int) - 1) (by decide) (by omega) (by omega) S K
 rw [←hk] at h45
 have hkl:k<s.posted.length:=by omega
 have hq:s.posted[k]?=some s.posted[k]:=List.getElem?_eq_getElem hkl
 obtain ⟨q,hqe⟩:∃ q,q=s.posted[k]:=⟨_,rfl⟩
 rw [←hqe] at hq
 obtain ⟨law3,law4⟩:=law2 k q hq
 have c1:=bBg s.posted (k:=k) (by omega)
 have c2:=bBh s.posted (k:=k+1) (by omega)
 have wk:wr .i64 ((k:Int)+1)=((k+1:Nat):Int):=mO (by omega)
 simp only [show ¬ (s.posted.length:Int)=0 by omega,if_false,wl,h45,kk,gm,iL,c1,wk,c2,bBi,Nat.add_zero]
 obtain ⟨T0,hT0⟩:∃ T0:St,T0=⟨1+13,((Tr.nil.put 0 (.row 0 6 [xS])).put 0 (.row 0 6 [s.enc])).put 1 (.row 0 12 [])⟩:=⟨_,rfl⟩
 have w0:WF T0:=by rw [hT0];exact hJ (n:=1) (hJ (n:=1) (hJ oU (by decide) (by decide)) (by decide) (by decide)) (by decide) (by decide)
 have r0:aI T0 0 0=.ok (6,[s.enc]):=by rw [hT0];rfl
 have e0:aI T0 1 0=.ok (12,[]):=by rw [hT0];rfl
 have n0:T0.next=14:=by rw [hT0]
 have lt:(s.posted.take k).length=k:=by rw [List.length_take];omega
 have ld:(s.posted.drop (k+1)).length=s.posted.length - k - 1:=by rw [List.length_drop];omega
 have q1:=aIf (b:=128) nO (s.posted.take k) e0 (by omega) (by unfold eG;omega) (some (1+5))
 have g1:aI ⟨T0.next,T0.heap.put 1 (.row 1 12 ((s.posted.take k).map Posted.enc))⟩ 1 1=.ok (12,(s.posted.take k).map Posted.enc):=aO _ _ _ _ _ _
 have q2:=bBj (b:=128) nO (s.posted.take k) (s.posted.drop (k+1)) g1 (by omega) (by unfold eG;omega) (some (1+11))
 obtain ⟨T2,hT2⟩:∃ T2:St,T2=⟨T0.next,(T0.heap.put 1 (.row 1 12 ((s.posted.take k).map Posted.enc))).put 1 (.row 2 12 ((s.posted.take k++s.posted.drop (k+1)).map Posted.enc))⟩:=⟨_,rfl⟩
 have hle:s.posted.take k++s.posted.drop (k+1)=dC s.posted k:=rfl
 have lleft:(dC s.posted k).length=s.posted.length - 1:=by rw [←hle,List.length_append,lt,ld];omega
 have gl:T2.heap.get 1=some (.row 2 12 ((dC s.posted k).map Posted.enc)):=by rw [hT2,hle];exact Tr.get_put_sameB _ _ _ trivial
 have r1:aI ⟨T0.next,T0.heap.put 1 (.row 1 12 ((s.posted.take k).map Posted.enc))⟩ 0 0=.ok (6,[s.enc]):=aX r0 (Tr.get_put_neB _ _ _ _ trivial (by decide))
 have r2:aI T2 0 0=.ok (6,[s.enc]):=by rw [hT2];exact aX r1 (Tr.get_put_neB _ _ _ _ trivial (by decide))
 have w2:WF T2:=by rw [hT2];exact hJ (n:=T0.next) (hJ (n:=T0.next) w0 (by omega) (Nat.le_refl _)) (by omega) (Nat.le_refl _)
 have n2:T2.next=14:=by rw [hT2];exact n0
 have nl:(s.posted.take k).length+(s.posted.drop (k+1)).length=(dC s.posted k).length:=by rw [lt,ld,lleft];omega
 rw [nl,←hT2] at q2
 simp only [xS,State.enc] at hT0
 simp only [State.enc] at r0 r1 r2
 simp only [←hT0,q1,kk,r1,q2]
 have own:∀ {X:St},X.heap.get 1=T2.heap.get 1→T2.next≤X.next→Own E0 X 12 (.sl 1 2 12 0 (dC s.posted k).length) ((dC s.posted k).map Posted.enc):=fun {X} hh hn=>⟨.inr ⟨1,2,[],by rw [List.length_map],Nat.zero_le _,by omega,by rw [List.append_nil,hh];exact gl⟩,fun c hc=>by obtain ⟨x,_,rfl⟩:=List.mem_map.1 hc;exact nO x⟩
 have bGe:∀ {X:St},X.heap=T2.heap→aI X 1 2=.ok (12,(dC s.posted k).map Posted.enc):=fun {X} hh=>eV (by rw [hh];exact gl)
 refine aZ (s.posted.drop (k+1)) (step:=aM4 q) (fin:=id) (fun j b vs X=>vs=[.bool b,.int .i64 ((k+j:Nat):Int)]∧X.heap=T2.heap∧T2.next≤X.next) (fun b=>b=decide (mH (dC s.posted k)=-1)) ?_ ?_ (s:=true) ⟨rfl,rfl,Nat.le_refl _⟩ (by rw [aE6,Bool.true_and];exact decide_eq_decide.2 law3.symm)
 ·rintro j p b vs X hj ⟨rfl,hh,hn⟩ aQ H
  have hjl:=(List.getElem?_eq_some_iff.1 hj).1
  have hjl':k+j<(dC s.posted k).length:=by omega
  have hp:(dC s.posted k)[k+j]?=some p:=by
   rw [←hle,List.getElem?_append_right (by omega),lt]
   have:k+j - k=j:=by omega
   rw [this];exact hj
  have hp':((dC s.posted k).map Posted.enc)[k+j]?=some p.enc:=by rw [List.getElem?_map,hp];rfl
  have hX:∀ m,aI ⟨m,X.heap⟩ 1 2=.ok (12,(dC s.posted k).map Posted.enc):=fun m=>bGe hh
  have hX0:∀ m,aI ⟨m,X.heap⟩ 0 0=aI T2 0 0:=fun m=>by rw [hh];rfl
  have hix:cP 12 (.sl 1 2 12 0 (dC s.posted k).length) (.int .i64 ((k+j:Nat):Int))=.ok (.ptr 1 2 (k+j) 0):=by
   simp only [cP,iU hjl',if_true,Nat.zero_add]
  have hld:bB none (.ptr 1 2 (k+j) 0) ⟨X.next+18,X.heap⟩=.ok (.str p.ref.ser):=by
   simp only [ldP,hX,hp',Posted.enc,kk]
  simp only [aM4] at H
  have hb2:T2.next≤X.next+18:=by omega
  cases b
  ·simp only [aLe,kk,show ((k+j:Nat):Int)<((dC s.posted k).length:Int) by omega,if_true,Bool.false_eq_true,if_false,mO (show k+j<1000000000 by omega),Bool.false_and] at H ⊢
   exact H _ _ ⟨rfl,hh,hb2⟩
  ·simp only [aLe,kk,show ((k+j:Nat):Int)<((dC s.posted k).length:Int) by omega,if_true,hix,Nat.add_zero,hld,hX0,r2,nN hq,Posted.enc,mO (show k+j<1000000000 by omega),Bool.true_and] at H ⊢
   have hbe:(!(p.ref.ser == q.ref.ser))=(!decide (p.ref.ser=q.ref.ser)):=by
    rw [Bool.eq_iff_iff];simp
   rw [hbe]
   exact H _ _ ⟨rfl,hh,hb2⟩
 ·rintro b vs X ⟨rfl,hh,hn⟩ aQ H
  have H:b=decide (mH (dC s.posted k)=-1):=H
  have hXn:¬ ((k+(s.posted.drop (k+1)).length:Nat):Int)<((dC s.posted k).length:Int):=by omega
  have wX:WF X:=fun a c h=>by rw [hh] at h;have:=w2 a c h;omega
  have rX:aI X 0 0=aI T2 0 0:=by
   unfold aI;rw [hh]
  have h26:=fun S K=>g26 s (aO5 hb.right).c S K
  obtain ⟨Y,hY⟩:∃ Y:St,Y=⟨X.next+1,((X.heap.put X.next (.row 0 6 [xS])).put X.next (.row 0 6 [s.enc])).put X.next (.row 0 6 [[.imm (s.table.map Rate.enc),.imm (s.ser.map Ser.enc),.sl 1 2 12 0 (dC s.posted k).length,.imm (s.book.map Bal.enc),.imm (s.sess.map Sess.enc),.int .i64 s.next]])⟩:=⟨_,rfl⟩
  have yr:aI Y X.next 0=.ok (6,[[.imm (s.table.map Rate.enc),.imm (s.ser.map Ser.enc),.sl 1 2 12 0 (dC s.posted k).length,.imm (s.book.map Bal.enc),.imm (s.sess.map Sess.enc),.int .i64 s.next]]):=by rw [hY];exact aO _ _ _ _ _ _
  have y1:Y.heap.get 1=T2.heap.get 1:=by
   rw [hY]
   show (((X.heap.put X.next _).put X.next _).put X.next _).get 1=_
   rw [Tr.get_put_neB _ _ _ _ trivial (by omega),Tr.get_put_neB _ _ _ _ trivial (by omega),Tr.get_put_neB _ _ _ _ trivial (by omega),hh]
  have nY:T2.next≤Y.next:=by rw [hY];show T2.next≤X.next+1;omega
  have oY:∀ c,Own E0 ⟨Y.next+c,Y.heap⟩ 12 (.sl 1 2 12 0 (dC s.posted k).length) ((dC s.posted k).map Posted.enc):=fun c=>own y1 (by show T2.next≤Y.next+c;omega)
  have a42:=fun c K=>bQ6 (oY c) (by omega) K
  obtain ⟨z1,z2⟩:=(oY 9).in3 (fun _=>rfl) (x:=.imm (s.table.map Rate.enc)) (y:=.imm (s.ser.map Ser.enc)) (bs:=[.imm (s.book.map Bal.enc),.imm (s.sess.map Sess.enc),.int .i64 s.next]) rfl rfl rfl
  have hrep:gC { s with posted:=dC s.posted k } ⟨2026,11,1⟩ ⟨2026,11,2⟩=([],1):=by unfold gC;rw [law4,if_pos rfl]
  have f40:=Fn.back fun S K=>g40 { s with posted:=dC s.posted k } ⟨2026,11,1⟩ ⟨2026,11,2⟩ S K
  rw [hrep] at f40
  have a40:=fun K=>f40.frz bKg rfl (S:=⟨Y.next+9,Y.heap⟩) (args:=[.agg [.imm (s.table.map Rate.enc),.imm (s.ser.map Ser.enc),.sl 1 2 12 0 (dC s.posted k).length,.imm (s.book.map Bal.enc),.imm (s.sess.map Sess.enc),.int .i64 s.next],.agg [.int .i64 2026,.int .i64 11,.int .i64 1],.agg [.int .i64 2026,.int .i64 11,.int .i64 2]]) (by
   simp only [frzVs] at z1 ⊢
   revert z1
   cases hv:dH lX (oS (kA ⟨Y.next+9,Y.heap⟩ 3) ⟨Y.next+9,Y.heap⟩) (.agg [.imm (s.table.map Rate.enc),.imm (s.ser.map Ser.enc),.sl 1 2 12 0 (dC s.posted k).length,.imm (s.book.map Bal.enc),.imm (s.sess.map Sess.enc),.int .i64 s.next]) with
   | error e=>intro z1;cases z1
   | ok v=>intro z1;cases z1;rfl) (by simp only [ptrsVs] at z2 ⊢;rw [List.append_nil] at z2;rw [z2];rfl) (.inl rfl) K
  simp only [List.map_nil] at a40
  simp only [xS,State.enc] at hY
  simp only [aLe,kk,hXn,if_false,rX,r2,h26,←hY,yr,g46,gm,a40,a42,H]
  simp only [aO7,BEq.rfl,kk,if_true,g44,oo]
end Go.Proofs.YtoaibmbldmckaaaGreat
end
