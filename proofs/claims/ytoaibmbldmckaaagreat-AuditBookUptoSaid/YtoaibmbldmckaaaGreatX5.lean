import Derived.Test.YtoaibmbldmckaaaGreatX4
set_option linter.unusedSimpArgs false
set_option linter.unusedVariables false
set_option linter.unusedSectionVars false
set_option maxRecDepth 100000
section
namespace Go.Proofs.YtoaibmbldmckaaaGreat
open Go.AM Tryz
def dK (l:List Bal):Int:=(l.map (·.amount)).sum
def BI (l:List Bal):Prop:=∀ b∈l,dY b.amount
theorem tE (a b:List Bal):dK (a++b)=dK a+dK b:=by simp [dK]
theorem aKy (l:List Bal) (i:Nat) (b:Bal):dK (eH l i b)=dK l+b.amount:=by
 unfold eH
 conv=>rhs;rw [←List.take_append_drop i l]
 simp only [tE]
 simp [dK]
 omega
theorem aCb:∀ (l:List Bal) (i:Nat) (a b:Bal),l[i]?=some a→dK (l.set i b)=dK l - a.amount+b.amount
 | [],i,a,b,h=>by cases h
 | x::l,0,a,b,h=>by
  cases h
  simp [dK]
  omega
 | x::l,i+1,a,b,h=>by
  have:=aCb l i a b h
  simp only [dK,List.set_cons_succ,List.map_cons,List.sum_cons] at this ⊢
  omega
theorem aRj (l:List Bal) (acc:List UInt8):dK (cP l acc)=dK l:=by
 unfold cP
 split
 ·rw [aKy];simp
 ·rfl
theorem aGs {l:List Bal} (h:BI l) (acc:List UInt8):BI (cP l acc):=by
 unfold cP
 split
 ·intro b hb
  rcases (eK _ _ _ _).1 hb with rfl | hb
  ·show dY 0;omega
  ·exact h b hb
 ·exact h
theorem aEd {l l':List Bal} {x:Bal} (hl:BI l) (hx:dY x.amount) (h:bT l x=.inr l'):dK l'=dK l+x.amount∧BI l':=by
 obtain ⟨b,hb⟩:=gQ l x.acc
 unfold bT at h
 rw [hb] at h
 simp only at h
 have hbi:=aGs hl x.acc b (List.mem_of_getElem? hb)
 have hs:=hJ hbi hx
 split at h
 ·cases h
 ·rename_i h0
  have h0:=Decidable.not_not.1 h0
  cases h
  rw [hs] at h0 ⊢
  split at h0
  ·rename_i hi
   rw [if_pos hi]
   refine ⟨?_,fun y hy=>?_⟩
   ·rw [aCb _ _ _ _ hb,aRj];simp only;omega
   ·rcases List.mem_or_eq_of_mem_set hy with hy | rfl
    ·exact aGs hl x.acc y hy
    ·exact hi
  ·simp at h0
theorem aCc:∀ (l a:List Bal) (r:List Bal×Int),BI a→BI l→aO bT (fun l=>(l,0)) l a=r→r.2=0→dK r.1=dK a+dK l∧BI r.1
 | [],a,r,ha,hl,h,h0=>by subst h;simp [aO,dK];exact ha
 | x::l,a,r,ha,hl,h,h0=>by
  simp only [aO] at h
  split at h
  ·rename_i r' he
   subst h
   obtain ⟨b,hb⟩:=gQ a x.acc
   unfold bT at he
   rw [hb] at he
   simp only at he
   split at he
   ·rename_i h1;cases he;exact absurd h0 h1
   ·cases he
  ·rename_i a' he
   obtain ⟨e1,e2⟩:=aEd ha (hl x (List.mem_cons_self ..)) he
   obtain ⟨e3,e4⟩:=aCc l a' r e2 (fun b hb=>hl b (List.mem_cons_of_mem _ hb)) h h0
   refine ⟨?_,e4⟩
   rw [e3,e1]
   simp [dK]
   omega
theorem aKz {b l:List Bal} (hb:BI b) (hl:BI l) (h:(cD b l).2=0):dK (cD b l).1=dK b+dK l∧BI (cD b l).1:=by
 unfold cD at h ⊢
 split at h
 ·simp at h
 ·rename_i h1
  rw [if_neg h1]
  exact aCc l b _ hb hl rfl h
theorem aIq:∀ (l:List Part) (a:List Bal) (r:List Bal×Int),BI a→(∀ p∈l,dY p.net∧dY p.tax)→aO gW (fun l=>(l,0)) l a=r→r.2=0→dK r.1=dK a - (l.map (·.net)).sum - (l.map (·.tax)).sum∧BI r.1
 | [],a,r,ha,hl,h,h0=>by subst h;simp [aO];exact ha
 | p::l,a,r,ha,hl,h,h0=>by
  simp only [aO] at h
  split at h
  ·rename_i r' he
   subst h
   unfold gW at he
   split at he
   ·cases he;simp at h0
   ·split at he
    ·cases he;simp at h0
    ·cases he
  ·rename_i a' he
   unfold gW at he
   obtain ⟨p1,p2⟩:=hl p (List.mem_cons_self ..)
   have s1:=oP p1
   have s2:=oP p2
   split at he
   ·cases he
   ·rename_i c1
    split at he
    ·cases he
    ·rename_i c2
     cases he
     have c1:=Decidable.not_not.1 c1
     have c2:=Decidable.not_not.1 c2
     rw [s1] at c1 h
     rw [s2] at c2 h
     by_cases m1:p.net=-9223372036854775808
     ·rw [if_pos m1] at c1;simp at c1
     ·by_cases m2:p.tax=-9223372036854775808
      ·rw [if_pos m2] at c2;simp at c2
      ·rw [if_neg m1,if_neg m2] at h
       obtain ⟨e3,e4⟩:=aIq l _ r (fun b hb=>by
        rcases List.mem_append.1 hb with hb | hb
        ·exact ha b hb
        ·simp only [List.mem_cons,List.not_mem_nil,or_false] at hb
         rcases hb with rfl | rfl
         ·show dY (-p.net);omega
         ·show dY (-p.tax);omega) (fun q hq=>hl q (List.mem_cons_of_mem _ hq)) h h0
       refine ⟨?_,e4⟩
       rw [e3,tE]
       simp [dK]
       omega
theorem aRk {t:Total} (ht:∀ p∈t.parts,dY p.net∧dY p.tax) (ho:dU t=true) (h:(dX t).2=0):dK (dX t).1=0∧BI (dX t).1:=by
 obtain ⟨_,h2,_,_,h5⟩:=(nJ t).1 ho
 obtain ⟨_,_,i3,e1,e2,e3⟩:=(sJ (fun p hp=>(ht p hp).1) (fun p hp=>(ht p hp).2) (by omega)).1 h5
 obtain ⟨a,b⟩:=aIq t.parts [⟨[111,119,101,100],t.gross⟩] _ (fun b hb=>by rw [List.mem_singleton.1 hb];exact i3) ht rfl h
 refine ⟨?_,b⟩
 show dK (aO gW (fun l=>(l,0)) t.parts [⟨[111,119,101,100],t.gross⟩]).1=0
 rw [a]
 simp [dK]
 omega
theorem aGt {s:State} (hr:bZ s=true) (hi:sM s):∀ p∈s.posted,dU p.total=true∧∀ q∈p.total.parts,dY q.net∧dY q.tax:=by
 intro p hp
 obtain ⟨_,_,_,r4,_,_⟩:=(cX s).1 hr
 obtain ⟨i,h⟩:=List.mem_iff_getElem?.1 hp
 exact ⟨(((nK _).1 r4).2.1 i p h).2.1,hi p hp⟩
theorem aY6 (l:List Posted) (name:List UInt8):xW l name≤l.length:=by
 unfold xW
 have:=List.length_filter_le (fun p:Posted=>p.ref.ser == name) l
 omega
def bBy (done:List Posted) (p:Posted):Int⊕List Posted:=if p.ref.num=xW done p.ref.ser+1 then .inr (done++[p]) else .inl (done.length:Int)
def aCd (l:List Posted):Int:=aO bBy (fun _=>-1) l []
structure ARow where
 cat:List UInt8
 bp:Int
 net:Int
 tax:Int
deriving DecidableEq
abbrev Key:=List UInt8×Int
def ARow.key (r:ARow):Key:=(r.cat,r.bp)
def pk (p:Part):Key:=(p.cat,p.bp)
def kLt (a b:Key):Prop:=eZ a.1 b.1=true∨a.1=b.1∧a.2<b.2
theorem yB {a b c:Key} (h:kLt a b) (k:kLt b c):kLt a c:=by
 rcases h with h | ⟨h,h'⟩<;>rcases k with k | ⟨k,k'⟩
 ·exact .inl (fH h k)
 ·exact .inl (by rw [←k];exact h)
 ·exact .inl (by rw [h];exact k)
 ·exact .inr ⟨h.trans k,by omega⟩
theorem aCe {a b:Key} (h:kLt a b):a≠b:=fun e=>by
 subst e
 rcases h with h | ⟨_,h⟩
 ·rw [uH] at h;cases h
 ·omega
theorem aY7 (a b:Key):kLt a b∨a=b∨kLt b a:=by
 rcases wQ a.1 b.1 with h | h | h
 ·exact .inl (.inl h)
 ·rcases Int.lt_trichotomy a.2 b.2 with k | k | k
  ·exact .inl (.inr ⟨h,k⟩)
  ·exact .inr (.inl (Prod.ext h k))
  ·exact .inr (.inr (.inr ⟨h.symm,k⟩))
 ·exact .inr (.inr (.inl h))
def gB (r:ARow) (p:Part):Bool:=if eZ r.cat p.cat=true then true else if r.cat=p.cat then decide (r.bp<p.bp) else false
theorem mM (r:ARow) (p:Part):gB r p=true↔kLt r.key (pk p):=by
 unfold gB kLt ARow.key pk
 by_cases h:eZ r.cat p.cat=true
 ·simp [h]
 ·by_cases e:r.cat=p.cat
  ·simp [h,e]
  ·simp [h,e]
def cF (l:List ARow) (p:Part):Nat:=lB (fun r=>gB r p) l
def qB (l:List ARow) (p:Part):Bool:=match l[cF l p]? with
 | none=>true
 | some r=>if r.cat=p.cat then !decide (r.bp=p.bp) else true
def eY (l:List ARow) (p:Part):List ARow:=if qB l p=true then eH l (cF l p) ⟨p.cat,p.bp,0,0⟩ else l
def iA (l:List ARow) (p:Part):Option (List ARow):=match (eY l p)[cF l p]? with
 | none=>none
 | some r=>if (cM r.net p.net).2=0 then (if (cM r.tax p.tax).2=0 then some ((eY l p).set (cF l p) { r with net:=(cM r.net p.net).1,tax:=(cM r.tax p.tax).1 }) else none) else none
def fW:List Part→List ARow→Option (List ARow)
 | [],l=>some l
 | p::ps,l=>match iA l p with
  | some l'=>fW ps l'
  | none=>none
def aL0 (ps:List Part) (κ:Key):Int:=(ps.map fun p=>if pk p=κ then p.net else 0).sum
def aL1 (ps:List Part) (κ:Key):Int:=(ps.map fun p=>if pk p=κ then p.tax else 0).sum
theorem aOf (ps:List Part) (p:Part) (κ:Key):aL0 (ps++[p]) κ=aL0 ps κ+if pk p=κ then p.net else 0:=by simp [aL0]
theorem aOg (ps:List Part) (p:Part) (κ:Key):aL1 (ps++[p]) κ=aL1 ps κ+if pk p=κ then p.tax else 0:=by simp [aL1]
theorem aRm {ps:List Part} {κ:Key} (h:∀ p∈ps,pk p≠κ):aL0 ps κ=0∧aL1 ps κ=0:=by
 induction ps with
 | nil=>exact ⟨rfl,rfl⟩
 | cons p ps ih=>
  obtain ⟨h1,h2⟩:=ih fun q hq=>h q (List.mem_cons_of_mem _ hq)
  have h3:=h p (List.mem_cons_self ..)
  unfold aL0 aL1 at *
  simp only [List.map_cons,List.sum_cons,if_neg h3]
  omega
structure Rws (ps:List Part) (l:List ARow):Prop where
 srt:l.Pairwise (fun a b=>kLt a.key b.key)
 sum:∀ r∈l,r.net=aL0 ps r.key∧r.tax=aL1 ps r.key∧dY r.net∧dY r.tax
 mem:∀ κ,(∃ r∈l,r.key=κ)↔∃ p∈ps,pk p=κ
theorem Rws.nil:Rws [] []:=⟨.nil,fun r h=>(by cases h),fun κ=>⟨fun ⟨r,h,_⟩=>(by cases h),fun ⟨r,h,_⟩=>(by cases h)⟩⟩
theorem bBz {l:List ARow} (h:l.Pairwise (fun a b=>kLt a.key b.key)) {i j:Nat} {a b:ARow} (hi:l[i]?=some a) (hj:l[j]?=some b) (hne:i≠j):a.key≠b.key:=by
 obtain ⟨h1,rfl⟩:=List.getElem?_eq_some_iff.1 hi
 obtain ⟨h2,rfl⟩:=List.getElem?_eq_some_iff.1 hj
 rcases Nat.lt_or_gt_of_ne hne with k | k
 ·exact aCe (List.pairwise_iff_getElem.1 h i j h1 h2 k)
 ·exact (aCe (List.pairwise_iff_getElem.1 h j i h2 h1 k)).symm
theorem aIr {l:List ARow} {p:Part} (h:l.Pairwise (fun a b=>kLt a.key b.key)) (hm:qB l p=true):∀ x∈l,gB x p=false→kLt (pk p) x.key:=by
 intro x hx hf
 have hmono:∀ a b:ARow,kLt a.key b.key→gB a p=false→gB b p=false:=fun a b hab ha=>by
  cases e:gB b p with
  | false=>rfl
  | true=>
   have:=(mM a p).2 (yB hab ((mM b p).1 e))
   rw [ha] at this;cases this
 have hd:=rK (p:=fun r=>gB r p) h hmono hx hf
 have hsd:(l.dropWhile fun r=>gB r p).Pairwise (fun a b=>kLt a.key b.key):=h.sublist (List.dropWhile_suffix _).sublist
 have hg:l[cF l p]?=(l.dropWhile fun r=>gB r p)[0]?:=aMd _ l
 unfold qB at hm
 rw [hg] at hm
 cases hdl:l.dropWhile (fun r=>gB r p) with
 | nil=>rw [hdl] at hd;cases hd
 | cons y t=>
  rw [hdl] at hd hm hsd
  have hy:gB y p=false:=xV (p:=fun r=>gB r p) (l:=l) (by rw [hdl];rfl)
  have hyk:kLt (pk p) y.key:=by
   rcases aY7 (pk p) y.key with q | q | q
   ·exact q
   ·exfalso
    have e1:y.cat=p.cat:=(congrArg Prod.fst q).symm
    have e2:y.bp=p.bp:=(congrArg Prod.snd q).symm
    simp [e1,e2] at hm
   ·rw [(mM y p).2 q] at hy;cases hy
  rcases List.mem_cons.1 hd with rfl | hd
  ·exact hyk
  ·exact yB hyk ((List.pairwise_cons.1 hsd).1 x hd)
theorem Rws.room {ps:List Part} {l:List ARow} (h:Rws ps l) (p:Part):(eY l p).Pairwise (fun a b=>kLt a.key b.key)∧(∀ r∈eY l p,r.net=aL0 ps r.key∧r.tax=aL1 ps r.key∧dY r.net∧dY r.tax)∧(∀ κ,(∃ r∈eY l p,r.key=κ)↔(∃ q∈ps,pk q=κ)∨pk p=κ)∧∃ r,(eY l p)[cF l p]?=some r∧r.key=pk p:=by
 unfold eY
 by_cases hm:qB l p=true
 ·rw [if_pos hm]
  have hb:=aIr h.srt hm
  have hab:∀ q∈ps,pk q≠pk p:=fun q hq e=>by
   obtain ⟨r,hr,he⟩:=(h.mem (pk p)).2 ⟨q,hq,e⟩
   cases ha:gB r p with
   | true=>exact aCe ((mM r p).1 ha) he
   | false=>exact aCe (hb r hr ha) he.symm
  refine ⟨?_,fun r hr=>?_,fun κ=>?_,⟨p.cat,p.bp,0,0⟩,?_,rfl⟩
  ·unfold cF
   rw [lZ]
   exact kA h.srt (fun a b c=>yB) (fun x hx hp=>(mM x p).1 hp) hb
  ·rcases (eK _ _ _ _).1 hr with rfl | hr
   ·obtain ⟨z1,z2⟩:=aRm hab
    exact ⟨z1.symm,z2.symm,by show dY 0;constructor<;>decide,by show dY 0;constructor<;>decide⟩
   ·exact h.sum r hr
  ·constructor
   ·rintro ⟨r,hr,e⟩
    rcases (eK _ _ _ _).1 hr with rfl | hr
    ·exact .inr e
    ·exact .inl ((h.mem κ).1 ⟨r,hr,e⟩)
   ·rintro (hq | e)
    ·obtain ⟨r,hr,e⟩:=(h.mem κ).2 hq
     exact ⟨r,(eK _ _ _ _).2 (.inr hr),e⟩
    ·exact ⟨_,(eK _ _ _ _).2 (.inl rfl),e⟩
  ·have hle:cF l p≤l.length:=by
    unfold cF lB;rw [oQ,Nat.zero_add];exact (List.takeWhile_prefix _).length_le
   unfold eH
   rw [List.getElem?_append_right (by rw [List.length_take];omega),List.length_take,Nat.min_eq_left hle,Nat.sub_self]
   rfl
 ·rw [if_neg hm]
  have hg:∃ r,l[cF l p]?=some r∧r.key=pk p:=by
   unfold qB at hm
   cases e:l[cF l p]? with
   | none=>rw [e] at hm;exact absurd rfl hm
   | some r=>
    rw [e] at hm
    refine ⟨r,rfl,?_⟩
    by_cases e1:r.cat=p.cat
    ·by_cases e2:r.bp=p.bp
     ·exact Prod.ext e1 e2
     ·simp [e1,e2] at hm
    ·simp [e1] at hm
  obtain ⟨r,hr,hk⟩:=hg
  have hrm:r∈l:=List.mem_of_getElem? hr
  refine ⟨h.srt,h.sum,fun κ=>?_,r,hr,hk⟩
  rw [h.mem κ]
  constructor
  ·exact .inl
  ·rintro (q | q)
   ·exact q
   ·exact (h.mem κ).1 ⟨r,hrm,hk.trans q⟩
theorem Rws.enter {ps:List Part} {l l':List ARow} (h:Rws ps l) {p:Part} (h1:dY p.net) (h2:dY p.tax) (he:iA l p=some l'):Rws (ps++[p]) l':=by
 obtain ⟨q1,q2,q3,r,hr,hk⟩:=h.room p
 unfold iA at he
 rw [hr] at he
 simp only at he
 split at he
 ·rename_i n0
  split at he
  ·rename_i x0
   have he:=Option.some.inj he
   subst he
   have hrm:=List.mem_of_getElem? hr
   obtain ⟨s1,s2,i1,i2⟩:=q2 r hrm
   have hkl:=(List.getElem?_eq_some_iff.1 hr).1
   have sn:dY (r.net+p.net)∧(cM r.net p.net).1=r.net+p.net:=by
    rw [hJ i1 h1] at n0 ⊢
    split at n0
    ·rename_i q;rw [if_pos q];exact ⟨q,rfl⟩
    ·cases n0
   have sx:dY (r.tax+p.tax)∧(cM r.tax p.tax).1=r.tax+p.tax:=by
    rw [hJ i2 h2] at x0 ⊢
    split at x0
    ·rename_i q;rw [if_pos q];exact ⟨q,rfl⟩
    ·cases x0
   rw [sn.2,sx.2]
   have hmap:((eY l p).set (cF l p) { r with net:=r.net+p.net,tax:=r.tax+p.tax }).map ARow.key=(eY l p).map ARow.key:=by
    rw [List.map_set]
    apply List.ext_getElem?
    intro j
    rw [List.getElem?_set]
    split
    ·rename_i e
     subst e
     rw [List.length_map,if_pos hkl,List.getElem?_map,hr];rfl
    ·rfl
   refine ⟨?_,fun r' hr'=>?_,fun κ=>?_⟩
   ·have:=List.pairwise_map.2 q1
    rw [←hmap] at this
    exact List.pairwise_map.1 this
   ·obtain ⟨j,hj⟩:=List.mem_iff_getElem?.1 hr'
    rw [List.getElem?_set] at hj
    rw [aOf,aOg]
    split at hj
    ·rename_i e
     have hj:=Option.some.inj hj
     subst hj
     have hk':pk p=r.key:=hk.symm
     have e1:({ r with net:=r.net+p.net,tax:=r.tax+p.tax }:ARow).key=r.key:=rfl
     rw [e1,if_pos hk',if_pos hk',←s1,←s2]
     exact ⟨rfl,rfl,sn.1,sx.1⟩
    ·rename_i e
     have hne:=bBz q1 hr hj e
     have hne':¬ pk p=r'.key:=fun q=>hne (hk.trans q)
     rw [if_neg hne',if_neg hne',Int.add_zero,Int.add_zero]
     exact q2 r' (List.mem_of_getElem? hj)
   ·have m1:∀ κ,(∃ r'∈(eY l p).set (cF l p) { r with net:=r.net+p.net,tax:=r.tax+p.tax },r'.key=κ)↔∃ r'∈eY l p,r'.key=κ:=fun κ=>by
     have a1:∀ l:List ARow,(∃ r'∈l,r'.key=κ)↔κ∈l.map ARow.key:=fun l=>by rw [List.mem_map]
     rw [a1,a1,hmap]
    rw [m1,q3]
    constructor
    ·rintro (⟨q,hq,e⟩ | e)
     ·exact ⟨q,List.mem_append_left _ hq,e⟩
     ·exact ⟨p,List.mem_append_right _ (List.mem_singleton_self _),e⟩
    ·rintro ⟨q,hq,e⟩
     rcases List.mem_append.1 hq with hq | hq
     ·exact .inl ⟨q,hq,e⟩
     ·rw [List.mem_singleton.1 hq] at e;exact .inr e
  ·cases he
 ·cases he
theorem Rws.all:∀ {ps qs:List Part} {l l':List ARow},Rws ps l→(∀ q∈qs,dY q.net∧dY q.tax)→fW qs l=some l'→Rws (ps++qs) l'
 | ps,[],l,l',h,_,he=>by
  have he:=Option.some.inj he
  subst he
  rw [List.append_nil];exact h
 | ps,q::qs,l,l',h,hi,he=>by
  unfold fW at he
  cases e:iA l q with
  | none=>rw [e] at he;cases he
  | some l1=>
   rw [e] at he
   have hq:=hi q (List.mem_cons_self ..)
   have:=(h.enter hq.1 hq.2 e).all (fun x hx=>hi x (List.mem_cons_of_mem _ hx)) he
   rw [List.append_assoc] at this
   exact this
end Go.Proofs.YtoaibmbldmckaaaGreat
end
section
namespace Go.AM
theorem bGx {P:Program} {T:TypeId} {n b:Nat} (hT:apT P T=some (n,b)) (hn:1<n) {S0 S:St} {v:V} {es:List (List V)} (h:Own S0 S n v es) (x:Ext S0 S) (w:WF S0) {c:List V} (hc:c.length=n∧aN c=true) (h1:(es.length+1)*b≤35184372088832) (h2:es.length+1<fK) {i:Nat} (hi:i≤es.length):
  ∃ v' S',gC P T v (.int .i64 (i:Int)) (.sl S.next 0 n 0 1) ⟨S.next+1,S.heap.put S.next (.row 0 n [c])⟩=.ok (v',S')∧Ext S0 S'∧Own S0 S' n v' (es.take i++c::es.drop i)∧∀ y,y<S.next→blkOf v≠some y→S'.heap.get y=S.heap.get y:=by
 have x1:Ext S ⟨S.next+1,S.heap.put S.next (.row 0 n [c])⟩:=Ext.new (x.wf w) _
 obtain ⟨v',S',q1,q2,q3,q4⟩:=(h.ext x1).insertK hT hn (x.trans x1) w (bx:=S.next) (c:=c) (aS _ _ _ _ _ _) (fun a ver m hv=>by
  rcases h.is with ⟨rfl,_⟩ | ⟨a',ver',tl,rfl,_,hlt,_⟩
  ·cases hv
  ·cases hv;omega) hc h1 h2 hi
 refine ⟨v',S',q1,q2,q3,fun y hy hya=>?_⟩
 rw [q4 y (by show y<S.next+1;omega) (fun a ver m hv e=>hya (by rw [hv,e];rfl))]
 exact Tr.get_put_neB _ _ _ _ trivial (by omega)
end Go.AM
namespace Go.Proofs.YtoaibmbldmckaaaGreat
open Go.AM Tryz
set_option linter.unusedVariables false
set_option linter.unusedSimpArgs false
set_option maxRecDepth 100000
def ARow.enc (r:ARow):List V:=[.str r.cat,.int .i64 r.bp,.int .i64 r.net,.int .i64 r.tax]
theorem aYq (x:ARow):x.enc.length=4∧aN x.enc=true:=⟨rfl,rfl⟩
theorem bQ8 (r:ARow) (p:Part) (S:St) (K:KW):C 201 [.agg [.str r.cat,.int .i64 r.bp,.int .i64 r.net,.int .i64 r.tax],.agg [.str p.cat,.int .i64 p.bp,.int .i64 p.net,.int .i64 p.tax]] S K=K (.bool (gB r p)) S:=by
 refine (bMx rfl ?_).eq S K
 simp only [aUt,kk,iV,gB,oo]
 grind
end Go.Proofs.YtoaibmbldmckaaaGreat
end
section
namespace Go.Proofs.YtoaibmbldmckaaaGreat
open Go.AM Tryz
theorem bQ9:apT prog 68=some (4,40):=by kernel_rfl
theorem bGy:uU 202=some (.spec ((Sp.ins 68).run prog)):=by kernel_rfl
theorem yC (l:List ARow) (p:Part):cF l p≤l.length:=vZ _ _
theorem aOh (l:List ARow) (p:Part):∃ r,(eY l p)[cF l p]?=some r:=by
 unfold eY
 split
 ·exact ⟨_,sE _ _ _ (yC l p)⟩
 ·rename_i h
  unfold qB at h
  split at h
  ·exact absurd rfl h
  ·rename_i b hb;exact ⟨b,hb⟩
theorem bQa {S0 S:St} {v:V} {l:List ARow} (own:Own S0 S 4 v (l.map ARow.enc)) (x:Ext S0 S) (w:WF S0) (hl:l.length≤1000000) (p:Part) {K:KW}
  (H1:∀ l',iA l p=some l'→∀ v' S',Ext S0 S'→Own S0 S' 4 v' (l'.map ARow.enc)→K (.tup [v',.int .i64 0]) S') (H2:iA l p=none→∀ S',Ext S0 S'→K (.tup [.nils,.int .i64 7]) S'):C 125 [v,.agg [.str p.cat,.int .i64 p.bp,.int .i64 p.net,.int .i64 p.tax]] S K:=by
 refine bLa ?_
 have hx:=x.next
 obtain ⟨S1,hS1⟩:∃ S1:St,S1=⟨S.next+1,S.heap.put S.next (.row 0 4 [p.enc])⟩:=⟨_,rfl⟩
 have x1:Ext S S1:=by rw [hS1];exact Ext.new (x.wf w) _
 have n1:S1.next=S.next+1:=by rw [hS1]
 have r1:aI S1 S.next 0=.ok (4,[p.enc]):=by rw [hS1];exact aS _ _ _ _ _ _
 simp only [Part.enc] at hS1 r1
 have hple:=yC l p
 have hlen:lenW v=.ok (.int .i64 (l.length:Int)):=own.sl.lenI
 have bv:∀ y,AM.blkOf v=some y→y<S.next:=fun y hy=>(gO own hy).2
 simp only [aT9,kk,←hS1]
 have hj1:∀ (v':V) (X:St),Ext S0 X→Own S0 X 4 v' ((eY l p).map ARow.enc)→aI X S.next 0=.ok (4,[p.enc])→aA6 C K v' (.ptr S.next 0 0 0) (.int .i64 (cF l p:Int)) X:=by
  intro v' X xX o hr
  obtain ⟨r,hb⟩:=aOh l p
  have hb':((eY l p).map ARow.enc)[cF l p]?=some r.enc:=by rw [List.getElem?_map,hb];rfl
  obtain ⟨a,ver,hv,_,_,e4,_,set1⟩:=(o.bump 26).setK (xX.bump 26) w hb' .i64
  have hld:∀ m j,bB none (.ptr a ver (cF l p) j) ⟨m,X.heap⟩=gN none r.enc j:=fun m j=>by
   have:=o.ld hv hb' none j
   simpa only [ldP,gm] using this
  have l2:=fun m=>hld m 2
  have l3:=fun m=>hld m 3
  simp only [kk,ARow.enc] at l2 l3
  simp only [Part.enc] at hr
  obtain ⟨S2,st1,x2,n2,own2,keep2,w2⟩:=set1 2 1 (.int .i64 (cM r.net p.net).1) rfl rfl (by decide)
  have hb2:(((eY l p).map ARow.enc).set (cF l p) (splice r.enc 2 [.int .i64 (cM r.net p.net).1]))[cF l p]?=some ({ r with net:=(cM r.net p.net).1 }:ARow).enc:=by
   rw [List.getElem?_set_self (List.getElem?_eq_some_iff.1 hb').1];rfl
  obtain ⟨a',ver',hv',_,_,_,_,set2⟩:=own2.setK x2 w hb2 .i64
  obtain ⟨rfl,rfl⟩:a'=a∧ver'=ver:=by rw [hv] at hv';injection hv' with h1 h2;exact ⟨h1.symm,h2.symm⟩
  obtain ⟨S3,mO,x3,n3,own3,keep3,w3⟩:=set2 3 1 (.int .i64 (cM r.tax p.tax).1) rfl rfl (by decide)
  have hfin:(((eY l p).map ARow.enc).set (cF l p) (splice r.enc 2 [.int .i64 (cM r.net p.net).1])).set (cF l p) (splice ({ r with net:=(cM r.net p.net).1 }:ARow).enc 3 [.int .i64 (cM r.tax p.tax).1])=((eY l p).set (cF l p) { r with net:=(cM r.net p.net).1,tax:=(cM r.tax p.tax).1 }).map ARow.enc:=by
   rw [List.set_set,List.map_set];rfl
  simp only [V.cells] at own3
  rw [hfin] at own3
  simp only [aA6,kk,e4,l2,l3,gm,hr,aQe,gD]
  have hen:iA l p=if (cM r.net p.net).2=0 then (if (cM r.tax p.tax).2=0 then some ((eY l p).set (cF l p) { r with net:=(cM r.net p.net).1,tax:=(cM r.tax p.tax).1 }) else none) else none:=by
   simp only [iA,hb]
  by_cases c1:(cM r.net p.net).2=0
  ·by_cases c2:(cM r.tax p.tax).2=0
   ·simp only [c1,c2,if_true] at hen
    simp only [c1,c2,kk,not_true_eq_false,if_false]
    have e:(⟨X.next+13+13,X.heap⟩:St)=⟨X.next+26,X.heap⟩:=rfl
    rw [e]
    simp only [st1,mO,kk]
    exact H1 _ hen _ _ x3 own3
   ·simp only [c1,c2,if_true,if_false] at hen
    simp only [c1,c2,kk,not_true_eq_false,not_false_eq_true,if_true,if_false]
    exact H2 hen _ (xX.bump 26)
  ·simp only [c1,if_false] at hen
   simp only [c1,kk,not_false_eq_true,if_true]
   exact H2 hen _ (xX.bump 26)
 have hown:∀ {X:St},X.heap=S1.heap→S1.next≤X.next→Own S0 X 4 v (l.map ARow.enc):=fun hh hn=>(own.ext x1).same hn fun a _=>by rw [hh]
 have hext:∀ {X:St},X.heap=S1.heap→S1.next≤X.next→Ext S0 X:=fun {X} hh hn=>⟨fun a b h=>by rw [hh];exact (x.trans x1).old a b h,Nat.le_trans (x.trans x1).next hn,fun ww a b h=>by rw [hh] at h;have:=(x.trans x1).wf ww a b h;omega⟩
 have hrow:∀ {X:St},X.heap=S1.heap→aI X S.next 0=.ok (4,[p.enc]):=fun {X} hh=>bI r1 (by rw [hh])
 have hj2:∀ X:St,X.heap=S1.heap→S1.next≤X.next→sB C K v (.ptr S.next 0 0 0) (.int .i64 (cF l p:Int)) (.bool (qB l p)) X:=by
  intro X hh hn
  have hr:=hrow hh
  cases hm:qB l p
  ·simp only [sB,kk,Bool.false_eq_true,if_false]
   exact hj1 v X (hext hh hn) (by rw [show eY l p=l by simp [eY,hm]];exact hown hh hn) hr
  ·obtain ⟨v2,S2,q1,x2,own2,keep2⟩:=bGx bQ9 (by decide) (hown hh hn) (hext hh hn) w (aYq ⟨p.cat,p.bp,0,0⟩) (by simp;omega) (by simp [fK];omega) (i:=cF l p) (by simpa using hple)
   rw [←lW] at own2
   have hr2:=bI hr (keep2 S.next (by omega) (fun e=>by have:=bv _ e;omega))
   simp only [ARow.enc] at q1
   simp only [Part.enc] at hr
   simp only [sB,kk,if_true,hr,aQh]
   rw [aO0 bGy q1]
   refine hj1 v2 S2 x2 (by rw [show eY l p=eH l (cF l p) ⟨p.cat,p.bp,0,0⟩ by simp [eY,hm]];exact own2) hr2
 have hj0:∀ X:St,X.heap=S1.heap→S1.next≤X.next→aA7 C K v (.ptr S.next 0 0 0) (.int .i64 (cF l p:Int)) X:=by
  intro X hh hn
  have h2:=hj2 ⟨X.next+24,X.heap⟩ hh (by show S1.next≤X.next+24;omega)
  have hr:=hrow (X:=⟨X.next+24,X.heap⟩) hh
  simp only [Part.enc] at hr
  simp only [aA7,kk,hlen]
  by_cases hk:cF l p=l.length
  ·have hm:qB l p=true:=by unfold qB;rw [hk,List.getElem?_eq_none (Nat.le_refl _)]
   rw [hm,hk] at h2
   simp only [hk,kk,if_true]
   exact h2
  ·have hlt:cF l p<l.length:=by omega
   have hb:l[cF l p]?=some l[cF l p]:=List.getElem?_eq_getElem hlt
   have hm:qB l p=if (l[cF l p]).cat=p.cat then !decide ((l[cF l p]).bp=p.bp) else true:=by unfold qB;rw [hb]
   rw [hm] at h2
   have hb':(l.map ARow.enc)[cF l p]?=some l[cF l p].enc:=by rw [List.getElem?_map,hb];rfl
   have o:=hown (X:=⟨X.next+24,X.heap⟩) hh (by show S1.next≤X.next+24;omega)
   obtain ⟨a,ver,hv,_,_,e4,_,_⟩:=o.setK (hext (X:=⟨X.next+24,X.heap⟩) hh (by show S1.next≤X.next+24;omega)) w hb' .i64
   have l0:=o.ld hv hb' none 0
   have l1:=o.ld hv hb' none 1
   simp only [kk,ARow.enc] at l0 l1
   simp only [show ¬ ((cF l p:Nat):Int)=(l.length:Int) by omega,kk,if_false,e4,l0,l1,hr]
   by_cases c1:(l[cF l p]).cat=p.cat
   ·simp only [c1,if_true] at h2
    simp only [c1,BEq.rfl,kk,if_false]
    exact h2
   ·have c1':(!(l[cF l p].cat == p.cat))=true:=by simpa using c1
    simp only [c1,if_false] at h2
    simp only [c1',kk,if_true]
    exact h2
 refine aY l (step:=eO (fun r:ARow=>gB r p)) (fin:=id) (fun k n vs X=>n=k∧vs=[.int .i64 (k:Int)]∧X.heap=S1.heap∧S1.next≤X.next) (fun r=>r=cF l p) ?_ ?_ ⟨rfl,rfl,rfl,Nat.le_refl _⟩ rfl
 ·rintro k r m vs X hk ⟨rfl,rfl,hh,hn⟩ again' H'
  have hkl:=(List.getElem?_eq_some_iff.1 hk).1
  have hb':(l.map ARow.enc)[m]?=some r.enc:=by rw [List.getElem?_map,hk];rfl
  have o:=hown (X:=⟨X.next+12,X.heap⟩) hh (by show S1.next≤X.next+12;omega)
  obtain ⟨a,ver,hv,_,_,e4,_,_⟩:=o.setK (hext (X:=⟨X.next+12,X.heap⟩) hh (by show S1.next≤X.next+12;omega)) w hb' .i64
  have l0:=o.ld hv hb' (some 4) 0
  have hr:=hrow (X:=⟨X.next+12,X.heap⟩) hh
  simp only [kk,ARow.enc] at l0
  simp only [Part.enc] at hr
  simp only [eO] at H'
  simp only [aFd,kk,hlen,dI hk,if_true,e4,l0,hr,bQ8,nU (show m<1000000000 by omega)]
  cases c:gB r p<;>simp only [c,kk,if_true,if_false,Bool.false_eq_true] at H' ⊢
  ·have:=hj0 ⟨X.next+12,X.heap⟩ hh (by show S1.next≤X.next+12;omega)
   rw [←H'] at this
   exact this
  ·exact H' _ _ ⟨rfl,hh,by show S1.next≤X.next+12;omega⟩
 ·rintro m vs X ⟨rfl,rfl,hh,hn⟩ again' H'
  have H':l.length=cF l p:=H'
  simp only [aFd,kk,hlen,Int.lt_irrefl,if_false]
  have:=hj0 ⟨X.next+12,X.heap⟩ hh (by show S1.next≤X.next+12;omega)
  rw [←H'] at this
  exact this
def yD (a b:Date) (x:Posted):Bool:=!(x.day.before a)&&!(b.before x.day)
def cS (l:List Posted) (a b:Date):List Part:=(l.filter (yD a b)).flatMap (·.total.parts)
def dD (s:State) (a b:Date):List ARow×Int:=if bZ s=false then ([],1) else if a.right=false then ([],9) else if b.right=false then ([],9) else match fW (cS s.posted a b) [] with
 | some l=>(l,0)
 | none=>([],7)
def rN:Date:=⟨1,1,1⟩
def rO:Date:=⟨9999,12,31⟩
theorem aGu {s:State} (h:bZ s=true) {a b:Date} (ha:a.right=true) (hb:b.right=true):(∃ l,fW (cS s.posted a b) []=some l∧dD s a b=(l,0))∨dD s a b=([],7):=by
 unfold dD
 rw [if_neg (by rw [h];decide),if_neg (by rw [ha];decide),if_neg (by rw [hb];decide)]
 cases e:fW (cS s.posted a b) [] with
 | some l=>exact .inl ⟨l,rfl,rfl⟩
 | none=>exact .inr rfl
theorem aEe {s:State} {a b:Date} {l:List ARow} (h:dD s a b=(l,0)):bZ s=true∧a.right=true∧b.right=true∧fW (cS s.posted a b) []=some l:=by
 unfold dD at h
 split at h
 ·cases h
 ·split at h
  ·cases h
  ·split at h
   ·cases h
   ·rename_i h1 h2 h3
    cases e:fW (cS s.posted a b) [] with
    | some l'=>rw [e] at h;cases h;exact ⟨by simpa using h1,by simpa using h2,by simpa using h3,rfl⟩
    | none=>rw [e] at h;cases h
theorem aOi {l:List Posted} {a b:Date} {q:Part}:q∈cS l a b↔∃ p∈l,yD a b p=true∧q∈p.total.parts:=by
 unfold cS
 simp only [List.mem_flatMap,List.mem_filter]
 constructor
 ·rintro ⟨p,⟨h1,h2⟩,h3⟩;exact ⟨p,h1,h2,h3⟩
 ·rintro ⟨p,h1,h2,h3⟩;exact ⟨p,⟨h1,h2⟩,h3⟩
theorem aL2 {s:State} (h:sM s) (a b:Date):∀ q∈cS s.posted a b,dY q.net∧dY q.tax:=fun q hq=>by
 obtain ⟨p,hp,_,hq⟩:=aOi.1 hq
 exact h p hp q hq
theorem Rws.nodup {ps:List Part} {l:List ARow} (h:Rws ps l):(l.map ARow.key).Nodup:=by
 have:=List.pairwise_map.2 h.srt
 exact this.imp fun h=>aCe h
theorem aRn (x:Posted):yD rN rO x=true:=by
 have n1:x.day.before rN=false:=by
  cases e:x.day.before rN with
  | false=>rfl
  | true=>
   unfold Date.before at e
   simp only [Bool.and_eq_true,decide_eq_true_eq] at e
   obtain ⟨r,r',hlt⟩:=e
   obtain ⟨a1,a2,a3,a4,a5,a6⟩:=(oR _).1 r
   by_cases c:x.day=rN
   ·rw [c] at hlt;omega
   ·have:rN.days<x.day.days:=aAj r' r (by
     have:¬ (x.day.y=1∧x.day.m=1∧x.day.d=1):=fun ⟨e1,e2,e3⟩=>c (by
      cases hx:x.day with | mk y m d=>rw [hx] at e1 e2 e3;simp only at e1 e2 e3;rw [e1,e2,e3];rfl)
     show (1:Int)<x.day.y∨(1:Int)=x.day.y∧((1:Int)<x.day.m∨(1:Int)=x.day.m∧(1:Int)<x.day.d)
     omega)
    omega
 have n2:rO.before x.day=false:=by
  cases e:rO.before x.day with
  | false=>rfl
  | true=>
   unfold Date.before at e
   simp only [Bool.and_eq_true,decide_eq_true_eq] at e
   obtain ⟨r',r,hlt⟩:=e
   obtain ⟨a1,a2,a3,a4,a5,a6⟩:=(oR _).1 r
   have hml:=(gR x.day.y x.day.m).2
   by_cases c:x.day=rO
   ·rw [c] at hlt;omega
   ·have:x.day.days<rO.days:=aAj r r' (by
     have:¬ (x.day.y=9999∧x.day.m=12∧x.day.d=31):=fun ⟨e1,e2,e3⟩=>c (by
      cases hx:x.day with | mk y m d=>rw [hx] at e1 e2 e3;simp only at e1 e2 e3;rw [e1,e2,e3];rfl)
     show x.day.y<(9999:Int)∨x.day.y=9999∧(x.day.m<12∨x.day.m=12∧x.day.d<31)
     omega)
    omega
 unfold yD
 rw [n1,n2];rfl
theorem aOj (l:List Posted):cS l rN rO=l.flatMap (·.total.parts):=by
 unfold cS
 rw [List.filter_eq_self.2 fun x _=>aRn x]
theorem aOk (x:Posted) (l:List Posted) (a b:Date):cS (x::l) a b=(if yD a b x=true then x.total.parts else [])++cS l a b:=by
 unfold cS
 rw [List.filter_cons]
 split
 ·rw [List.flatMap_cons]
 ·rfl
theorem aCf {l l':List ARow} {p:Part} (h:iA l p=some l'):l'.length≤l.length+1:=by
 have hr:(eY l p).length≤l.length+1:=by
  unfold eY
  split
  ·rw [xP _ _ _ (yC l p)];exact Nat.le_refl _
  ·omega
 unfold iA at h
 repeat' split at h
 all_goals first | cases h | skip
 rw [List.length_set];exact hr
def aAk (l:List ARow) (p:Part):Option (List ARow)⊕List ARow:=match iA l p with
 | some l'=>.inr l'
 | none=>.inl none
theorem aEf:∀ (ps:List Part) (l:List ARow),aO aAk some ps l=fW ps l
 | [],l=>rfl
 | p::ps,l=>by
  simp only [aO,aAk,fW]
  cases iA l p with
  | none=>rfl
  | some l'=>exact aEf ps l'
theorem aCg:∀ (ps qs:List Part) (l:List ARow),fW (ps++qs) l=match fW ps l with
  | some l'=>fW qs l'
  | none=>none
 | [],qs,l=>rfl
 | p::ps,qs,l=>by
  simp only [List.cons_append,fW]
  cases iA l p with
  | none=>rfl
  | some l'=>exact aCg ps qs l'
def wW (a b:Date) (l:List ARow) (x:Posted):(List ARow×Int)⊕List ARow:=
 if x.day.before a=true then .inr l else if b.before x.day=true then .inr l else match fW x.total.parts l with
  | some l'=>.inr l'
  | none=>.inl ([],7)
theorem nM (a b:Date):∀ (ps:List Posted) (l:List ARow),aO (wW a b) (fun l=>(l,0)) ps l=match fW (cS ps a b) l with
  | some l'=>(l',0)
  | none=>([],7)
 | [],l=>rfl
 | x::ps,l=>by
  simp only [aO,wW,cS,List.filter_cons,yD]
  by_cases c1:x.day.before a=true
  ·simp only [c1,if_true,Bool.not_true,Bool.false_and,Bool.false_eq_true,if_false]
   exact nM a b ps l
  ·by_cases c2:b.before x.day=true
   ·simp only [c1,c2,if_true,if_false,Bool.not_true,Bool.and_false,Bool.false_eq_true]
    exact nM a b ps l
   ·have c1':x.day.before a=false:=by simpa using c1
    have c2':b.before x.day=false:=by simpa using c2
    simp only [c1',c2',if_false,Bool.false_eq_true,Bool.not_false,Bool.and_self,if_true,List.flatMap_cons]
    rw [aCg]
    cases e:fW x.total.parts l with
    | none=>rfl
    | some l'=>exact nM a b ps l'
theorem g40 (s:State) (a b:Date) (S:St) (K:KW):C 40 [.agg [.imm (s.table.map Rate.enc),.imm (s.ser.map Ser.enc),.imm (s.posted.map Posted.enc),.imm (s.book.map Bal.enc),.imm (s.sess.map Sess.enc),.int .i64 s.next],.agg [.int .i64 a.y,.int .i64 a.m,.int .i64 a.d],.agg [.int .i64 b.y,.int .i64 b.m,.int .i64 b.d]] S K=
  K (.tup [.imm ((dD s a b).1.map ARow.enc),.int .i64 (dD s a b).2]) S:=by
 refine (v40 rfl ?_).eq S K
 simp only [m40,kk,iV,g24 s,zX]
 cases c1:bZ s
 ·simp only [c1,kk,oo,if_true,List.map_nil,dD]
 cases c2:a.right
 ·simp only [c1,c2,kk,iV,zX,oo,if_true,Bool.true_eq_false,if_false,List.map_nil,dD]
 cases c3:b.right
 ·simp only [c1,c2,c3,kk,iV,zX,oo,if_true,Bool.true_eq_false,if_false,List.map_nil,dD]
 simp only [c1,c2,c3,kk,iV,zX,Bool.true_eq_false,if_false]
 obtain ⟨h40,hok⟩:=mI (nR c1)
 have hrun:aO (wW a b) (fun l=>(l,0)) s.posted []=dD s a b:=by
  rw [nM]
  unfold dD
  rw [c1,c2,c3]
  simp only [Bool.true_eq_false,if_false]
  all_goals (cases fW (cS s.posted a b) []<;>rfl)
 obtain ⟨S0,hS0⟩:∃ S0:St,S0=⟨2+1,((Tr.nil.put 0 (.row 0 6 [s.enc])).put 1 (.row 0 3 [a.enc])).put 2 (.row 0 3 [b.enc])⟩:=⟨_,rfl⟩
 have w0:WF S0:=by rw [hS0];exact lC (n:=2) (lC (n:=1) (lC qA (by decide) (by decide)) (by decide) (by decide)) (by decide) (by decide)
 have n0:S0.next=3:=by rw [hS0]
 have ra:aI S0 1 0=.ok (3,[a.enc]):=by rw [hS0];rfl
 have rb:aI S0 2 0=.ok (3,[b.enc]):=by rw [hS0];rfl
 simp only [State.enc,Date.enc] at hS0 ra rb
 refine aY s.posted (step:=wW a b) (fin:=fun l=>(l,0)) (fun i l vs S'=>∃ v,vs=[.nils,.int .i64 0,v,.int .i64 (i:Int)]∧Own S0 S' 4 v (l.map ARow.enc)∧Ext S0 S'∧l.length≤12*i) (fun r=>r=dD s a b) ?_ ?_ (s:=[]) ⟨_,rfl,Own.nil _ _ _,by rw [hS0];exact Ext.refl _,Nat.zero_le _⟩ hrun
 ·rintro i x l vs S' hi ⟨v,rfl,own,ex,hll⟩ aP H
  have hil:=(List.getElem?_eq_some_iff.1 hi).1
  have hxp:=iS (hok x (List.mem_of_getElem? hi)).2
  have hn:=ex.next
  obtain ⟨S1,hS1⟩:∃ S1:St,S1=⟨S'.next+1,(S'.heap.put S'.next (.row 0 12 [aCy])).put S'.next (.row 0 12 [x.enc])⟩:=⟨_,rfl⟩
  have x1:Ext S' S1:=by rw [hS1];exact Ext.var (ex.wf w0) 12 _ _
  have r1:aI S1 S'.next 0=.ok (12,[x.enc]):=by rw [hS1];exact aS _ _ _ _ _ _
  have ra1:=(ex.trans x1).row ra
  have rb1:=(ex.trans x1).row rb
  simp only [aCy,Posted.enc] at hS1
  simp only [Posted.enc] at r1
  simp only [wW] at H
  simp only [aK0,kk,dI hi,if_true,rJ hi,Posted.enc,←hS1,r1,ra1,rb1,aQd,nU (show i<1000000000 by omega)]
  cases d1:x.day.before a
  rotate_left
  ·simp only [d1,kk,if_true] at H ⊢
   exact H _ _ ⟨v,rfl,own.ext x1,ex.trans x1,by omega⟩
  cases d2:b.before x.day
  rotate_left
  ·simp only [d1,d2,kk,Bool.false_eq_true,if_true,if_false] at H ⊢
   exact H _ _ ⟨v,rfl,own.ext x1,ex.trans x1,by omega⟩
  simp only [d1,d2,kk,Bool.false_eq_true,if_false] at H ⊢
  refine aY x.total.parts (step:=aAk) (fin:=some) (fun j l' vs S2=>∃ v',vs=[.nils,.int .i64 0,v',.int .i64 (j:Int)]∧Own S0 S2 4 v' (l'.map ARow.enc)∧Ext S0 S2∧l'.length≤12*i+j) (fun r=>r=fW x.total.parts l) ?_ ?_ (s:=l) ⟨v,rfl,own.ext x1,ex.trans x1,hll⟩ (aEf _ _)
  ·rintro j p l' vs S2 hj ⟨v',rfl,o2,e2,hl2⟩ again2 H2
   have hjl:=(List.getElem?_eq_some_iff.1 hj).1
   have x2:Ext S2 ⟨S2.next+1,(S2.heap.put S2.next (.row 0 4 [[.str [],.int .i64 0,.int .i64 0,.int .i64 0]])).put S2.next (.row 0 4 [p.enc])⟩:=Ext.var (e2.wf w0) 4 _ _
   simp only [Part.enc] at x2
   simp only [aAk] at H2
   simp only [aJz,kk,dI hj,if_true,uF hj,Part.enc]
   refine bQa (o2.ext x2) (e2.trans x2) w0 (by omega) p (fun l3 hl3 v3 S3 e3 o3=>?_) (fun hno S3 e3=>?_)
   ·rw [hl3] at H2
    have:=aCf hl3
    simp only [kk,nU (show j<1000000000 by omega),not_true_eq_false,if_false]
    exact H2 _ _ ⟨v3,rfl,o3,e3,by omega⟩
   ·rw [hno] at H2
    have H2:none=fW x.total.parts l:=H2
    rw [←H2] at H
    have H:(([],7):List ARow×Int)=dD s a b:=H
    simp only [kk,show ¬ (7:Int)=0 by decide,not_false_eq_true,if_true,oo,←H,List.map_nil]
  ·rintro l' vs S2 ⟨v',rfl,o2,e2,hl2⟩ again2 H2
   have H2:some l'=fW x.total.parts l:=H2
   rw [←H2] at H
   simp only [aJz,kk,Int.lt_irrefl,if_false,nU (show i<1000000000 by omega)]
   exact H _ _ ⟨v',rfl,o2,e2,by omega⟩
 ·rintro l vs S' ⟨v,rfl,own,ex,hll⟩ aP H
  have H:(l,(0:Int))=dD s a b:=H
  simp only [aK0,kk,Int.lt_irrefl,if_false,oo,own.out fun _=>rfl,←H]
def uO (ps:List Part) (c:List UInt8):Int:=(ps.map fun p=>if p.cat=c then p.net else 0).sum
def uP (ps:List Part) (c:List UInt8):Int:=(ps.map fun p=>if p.cat=c then p.tax else 0).sum
def oU (l:List ARow) (c:List UInt8):Int:=(l.map fun r=>if r.cat=c then r.net else 0).sum
def oV (l:List ARow) (c:List UInt8):Int:=(l.map fun r=>if r.cat=c then r.tax else 0).sum
theorem sK {α:Type} (f:α→Int):∀ (l:List α) (i:Nat) (a b:α),l[i]?=some a→((l.set i b).map f).sum=(l.map f).sum - f a+f b
 | [],i,a,b,h=>by cases h
 | x::l,0,a,b,h=>by
  cases h
  simp
  omega
 | x::l,i+1,a,b,h=>by
  have:=sK f l i a b h
  simp only [List.set_cons_succ,List.map_cons,List.sum_cons] at this ⊢
  omega
theorem yE {α:Type} (f:α→Int) (l:List α) (i:Nat) (a:α):((eH l i a).map f).sum=(l.map f).sum+f a:=by
 unfold eH
 conv=>rhs;rw [←List.take_append_drop i l]
 simp only [List.map_append,List.sum_append,List.map_cons,List.sum_cons]
 omega
theorem Rws.cat_enter {ps:List Part} {l l':List ARow} (h:Rws ps l) {p:Part} (h1:dY p.net) (h2:dY p.tax) (he:iA l p=some l') (c:List UInt8):oU l' c=oU l c+(if p.cat=c then p.net else 0)∧oV l' c=oV l c+(if p.cat=c then p.tax else 0):=by
 obtain ⟨q1,q2,q3,r,hr,hk⟩:=h.room p
 have hc:r.cat=p.cat:=congrArg Prod.fst hk
 have hroom:oU (eY l p) c=oU l c∧oV (eY l p) c=oV l c:=by
  unfold eY
  split
  ·unfold oU oV
   rw [yE,yE]
   constructor<;>split<;>simp
  ·exact ⟨rfl,rfl⟩
 unfold iA at he
 rw [hr] at he
 simp only at he
 split at he
 ·rename_i n0
  split at he
  ·rename_i x0
   have he:=Option.some.inj he
   subst he
   obtain ⟨s1,s2,i1,i2⟩:=q2 r (List.mem_of_getElem? hr)
   have sn:(cM r.net p.net).1=r.net+p.net:=by
    rw [hJ i1 h1] at n0 ⊢
    split at n0
    ·rename_i q;rw [if_pos q]
    ·cases n0
   have sx:(cM r.tax p.tax).1=r.tax+p.tax:=by
    rw [hJ i2 h2] at x0 ⊢
    split at x0
    ·rename_i q;rw [if_pos q]
    ·cases x0
   rw [sn,sx,←hroom.1,←hroom.2]
   unfold oU oV
   rw [sK _ _ _ _ _ hr,sK _ _ _ _ _ hr]
   simp only [hc]
   constructor<;>split<;>omega
  ·cases he
 ·cases he
theorem Rws.cat_all:∀ {ps qs:List Part} {l l':List ARow},Rws ps l→(∀ q∈qs,dY q.net∧dY q.tax)→fW qs l=some l'→∀ c,oU l' c=oU l c+uO qs c∧oV l' c=oV l c+uP qs c
 | ps,[],l,l',h,_,he,c=>by
  have he:=Option.some.inj he
  subst he
  simp [uO,uP]
 | ps,q::qs,l,l',h,hi,he,c=>by
  unfold fW at he
  cases e:iA l q with
  | none=>rw [e] at he;cases he
  | some l1=>
   rw [e] at he
   have hq:=hi q (List.mem_cons_self ..)
   obtain ⟨a1,a2⟩:=h.cat_enter hq.1 hq.2 e c
   obtain ⟨b1,b2⟩:=(h.enter hq.1 hq.2 e).cat_all (fun x hx=>hi x (List.mem_cons_of_mem _ hx)) he c
   rw [b1,b2,a1,a2]
   simp only [uO,uP,List.map_cons,List.sum_cons]
   omega
theorem aL3 {s:State} (hi:sM s) {a b:Date} {l:List ARow} (h:dD s a b=(l,0)) (c:List UInt8):oU l c=uO (cS s.posted a b) c∧oV l c=uP (cS s.posted a b) c:=by
 obtain ⟨_,_,_,h4⟩:=aEe h
 obtain ⟨e1,e2⟩:=Rws.nil.cat_all (aL2 hi a b) h4 c
 rw [e1,e2]
 constructor<;>simp [oU,oV]
def eW (l:List Bal) (acc:List UInt8):Int:=(l.map fun b=>if b.acc=acc then b.amount else 0).sum
theorem rP (a b:List Bal) (acc:List UInt8):eW (a++b) acc=eW a acc+eW b acc:=by simp [eW]
theorem aRo (l:List Bal) (a acc:List UInt8):eW (cP l a) acc=eW l acc:=by
 unfold cP
 split
 ·unfold eW
  rw [yE]
  split<;>simp
 ·rfl
theorem aRp {l:List Bal} {a:List UInt8} {b:Bal} (h:(cP l a)[bV l a]?=some b):b.acc=a:=by
 unfold cP at h
 split at h
 ·rw [sE _ _ _ (nH l a)] at h
  cases h;rfl
 ·rename_i hm
  unfold kJ at hm
  rw [h] at hm
  simpa using hm
theorem aOl {l l':List Bal} {x:Bal} (hl:BI l) (hx:dY x.amount) (h:bT l x=.inr l') (acc:List UInt8):eW l' acc=eW l acc+if x.acc=acc then x.amount else 0:=by
 obtain ⟨b,hb⟩:=gQ l x.acc
 have hk:=aRp hb
 unfold bT at h
 rw [hb] at h
 simp only at h
 have hbi:=aGs hl x.acc b (List.mem_of_getElem? hb)
 have hs:=hJ hbi hx
 split at h
 ·cases h
 ·rename_i h0
  have h0:=Decidable.not_not.1 h0
  cases h
  rw [hs] at h0 ⊢
  split at h0
  ·rename_i hi
   rw [if_pos hi]
   rw [←aRo l x.acc acc]
   unfold eW
   rw [sK _ _ _ _ _ hb]
   simp only [hk]
   split<;>omega
  ·simp at h0
theorem aCh:∀ (l a:List Bal) (r:List Bal×Int),BI a→BI l→aO bT (fun l=>(l,0)) l a=r→r.2=0→∀ acc,eW r.1 acc=eW a acc+eW l acc
 | [],a,r,ha,hl,h,h0,acc=>by subst h;simp [aO,eW]
 | x::l,a,r,ha,hl,h,h0,acc=>by
  simp only [aO] at h
  split at h
  ·rename_i r' he
   subst h
   obtain ⟨b,hb⟩:=gQ a x.acc
   unfold bT at he
   rw [hb] at he
   simp only at he
   split at he
   ·rename_i h1;cases he;exact absurd h0 h1
   ·cases he
  ·rename_i a' he
   have hx:=hl x (List.mem_cons_self ..)
   obtain ⟨e1,e2⟩:=aEd ha hx he
   rw [aCh l a' r e2 (fun b hb=>hl b (List.mem_cons_of_mem _ hb)) h h0 acc,aOl ha hx he acc]
   simp only [eW,List.map_cons,List.sum_cons]
   omega
theorem aMk (c d:List UInt8):(iG++d=iG++c↔d=c)∧¬ iH++d=iG++c∧¬ ([111,119,101,100]:List UInt8)=iG++c:=by
 refine ⟨⟨fun h=>List.append_cancel_left h,fun h=>by rw [h]⟩,fun h=>?_,fun h=>?_⟩
 ·have:=congrArg List.head? h
  simp [iH,iG] at this
 ·have:=congrArg List.head? h
  simp [iG] at this
theorem aMl (c d:List UInt8):(iH++d=iH++c↔d=c)∧¬ iG++d=iH++c∧¬ ([111,119,101,100]:List UInt8)=iH++c:=by
 refine ⟨⟨fun h=>List.append_cancel_left h,fun h=>by rw [h]⟩,fun h=>?_,fun h=>?_⟩
 ·have:=congrArg List.head? h
  simp [iH,iG] at this
 ·have:=congrArg List.head? h
  simp [iH] at this
theorem aIs (c:List UInt8):∀ (l:List Part) (a:List Bal) (r:List Bal×Int),(∀ p∈l,dY p.net∧dY p.tax)→aO gW (fun l=>(l,0)) l a=r→r.2=0→eW r.1 (iG++c)=eW a (iG++c) - uO l c∧eW r.1 (iH++c)=eW a (iH++c) - uP l c
 | [],a,r,hl,h,h0=>by subst h;simp [aO,uO,uP]
 | p::l,a,r,hl,h,h0=>by
  simp only [aO] at h
  split at h
  ·rename_i r' he
   subst h
   unfold gW at he
   split at he
   ·cases he;simp at h0
   ·split at he
    ·cases he;simp at h0
    ·cases he
  ·rename_i a' he
   unfold gW at he
   obtain ⟨p1,p2⟩:=hl p (List.mem_cons_self ..)
   have s1:=oP p1
   have s2:=oP p2
   split at he
   ·cases he
   ·rename_i c1
    split at he
    ·cases he
    ·rename_i c2
     cases he
     have c1:=Decidable.not_not.1 c1
     have c2:=Decidable.not_not.1 c2
     rw [s1] at c1 h
     rw [s2] at c2 h
     by_cases m1:p.net=-9223372036854775808
     ·rw [if_pos m1] at c1;simp at c1
     ·by_cases m2:p.tax=-9223372036854775808
      ·rw [if_pos m2] at c2;simp at c2
      ·rw [if_neg m1,if_neg m2] at h
       obtain ⟨e3,e4⟩:=aIs c l _ r (fun q hq=>hl q (List.mem_cons_of_mem _ hq)) h h0
       rw [e3,e4,rP,rP]
       obtain ⟨n1,n2,_⟩:=aMk c p.cat
       obtain ⟨t1,t2,_⟩:=aMl c p.cat
       have f1:eW [⟨iG++p.cat,-p.net⟩,⟨iH++p.cat,-p.tax⟩] (iG++c)=if p.cat=c then -p.net else 0:=by
        simp only [eW,List.map_cons,List.map_nil,List.sum_cons,List.sum_nil,if_neg n2,Int.add_zero]
        by_cases e:p.cat=c
        ·rw [if_pos (n1.2 e),if_pos e]
        ·rw [if_neg (fun q=>e (n1.1 q)),if_neg e]
       have f2:eW [⟨iG++p.cat,-p.net⟩,⟨iH++p.cat,-p.tax⟩] (iH++c)=if p.cat=c then -p.tax else 0:=by
        simp only [eW,List.map_cons,List.map_nil,List.sum_cons,List.sum_nil,if_neg t2,Int.add_zero,Int.zero_add]
        by_cases e:p.cat=c
        ·rw [if_pos (t1.2 e),if_pos e]
        ·rw [if_neg (fun q=>e (t1.1 q)),if_neg e]
       rw [f1,f2]
       simp only [uO,uP,List.map_cons,List.sum_cons]
       constructor<;>split<;>omega
theorem aRq {t:Total} (ht:∀ p∈t.parts,dY p.net∧dY p.tax) (h:(dX t).2=0) (c:List UInt8):eW (dX t).1 (iG++c)=- uO t.parts c∧eW (dX t).1 (iH++c)=- uP t.parts c:=by
 obtain ⟨a,b⟩:=aIs c t.parts [⟨[111,119,101,100],t.gross⟩] _ ht rfl h
 have z1:eW [⟨[111,119,101,100],t.gross⟩] (iG++c)=0:=by
  simp only [eW,List.map_cons,List.map_nil,List.sum_cons,List.sum_nil,if_neg (aMk c c).2.2,Int.add_zero]
 have z2:eW [⟨[111,119,101,100],t.gross⟩] (iH++c)=0:=by
  simp only [eW,List.map_cons,List.map_nil,List.sum_cons,List.sum_nil,if_neg (aMl c c).2.2,Int.add_zero]
 rw [z1] at a
 rw [z2] at b
 refine ⟨a.trans (by omega),b.trans (by omega)⟩
theorem aCi {b l:List Bal} (hb:BI b) (hl:BI l) (h:(cD b l).2=0) (acc:List UInt8):eW (cD b l).1 acc=eW b acc+eW l acc:=by
 unfold cD at h ⊢
 split at h
 ·simp at h
 ·rename_i h1
  rw [if_neg h1]
  exact aCh l b _ hb hl rfl h acc
theorem aL4 (a b:List Part) (c:List UInt8):uO (a++b) c=uO a c+uO b c∧uP (a++b) c=uP a c+uP b c:=by simp [uO,uP]
theorem zN (c:List UInt8):∀ (l:List Posted) (a b:List Bal),BI a→(∀ p∈l,dU p.total=true∧∀ q∈p.total.parts,dY q.net∧dY q.tax)→aO bS (fun b=>(b,0)) l a=(b,0)→
  eW b (iG++c)=eW a (iG++c) - uO (l.flatMap (·.total.parts)) c∧eW b (iH++c)=eW a (iH++c) - uP (l.flatMap (·.total.parts)) c
 | [],a,b,ha,hl,h=>by
  simp only [aO] at h
  cases h
  simp [uO,uP]
 | p::l,a,b,ha,hl,h=>by
  simp only [aO] at h
  obtain ⟨p1,p2⟩:=hl p (List.mem_cons_self ..)
  split at h
  ·rename_i r he
   subst h
   unfold bS at he
   split at he
   ·rename_i c
    simp only [Sum.inl.injEq,Prod.mk.injEq] at he
    exact absurd he.2 c
   ·split at he
    ·rename_i c
     simp only [Sum.inl.injEq,Prod.mk.injEq] at he
     exact absurd he.2 c
    ·cases he
  ·rename_i a' he
   unfold bS at he
   split at he
   ·cases he
   ·rename_i c1
    split at he
    ·cases he
    ·rename_i c2
     cases he
     have c1:=Decidable.not_not.1 c1
     have c2:=Decidable.not_not.1 c2
     obtain ⟨e1,e2⟩:=aRk p2 p1 c1
     obtain ⟨e3,e4⟩:=aKz ha e2 c2
     obtain ⟨f1,f2⟩:=aRq p2 c1 c
     obtain ⟨g1,g2⟩:=zN c l _ b e4 (fun q hq=>hl q (List.mem_cons_of_mem _ hq)) h
     obtain ⟨k1,k2⟩:=aL4 p.total.parts (l.flatMap (·.total.parts)) c
     rw [g1,g2,aCi ha e2 c2,aCi ha e2 c2,f1,f2,List.flatMap_cons,k1,k2]
     constructor<;>omega
theorem aRr {s:State} (hr:bZ s=true) (hi:sM s) (c:List UInt8):eW s.book (iG++c)=- uO (s.posted.flatMap (·.total.parts)) c∧eW s.book (iH++c)=- uP (s.posted.flatMap (·.total.parts)) c:=by
 obtain ⟨_,_,_,_,_,r6⟩:=(cX s).1 hr
 obtain ⟨a,b⟩:=zN c s.posted [] s.book (fun b hb=>by cases hb) (aGt hr hi) r6
 have z:∀ acc,eW [] acc=0:=fun _=>rfl
 rw [z] at a b
 exact ⟨by omega,by omega⟩
def kV (acc:List UInt8) (n:Int) (b:Bal):Int:=if b.acc=acc then b.amount else n
theorem aIt {l:List Bal} (h:l.Pairwise (fun a b=>eZ a.acc b.acc=true)) (acc:List UInt8):l.foldl (kV acc) 0=eW l acc:=by
 have miss:∀ (m:List Bal) (n:Int),(∀ b∈m,b.acc≠acc)→m.foldl (kV acc) n=n∧eW m acc=0:=by
  intro m
  induction m with
  | nil=>intro n _;exact ⟨rfl,rfl⟩
  | cons b m ih=>
   intro n hm
   have hb:=hm b (List.mem_cons_self ..)
   obtain ⟨i1,i2⟩:=ih n fun x hx=>hm x (List.mem_cons_of_mem _ hx)
   refine ⟨?_,?_⟩
   ·rw [List.foldl_cons]
    have:kV acc n b=n:=if_neg hb
    rw [this];exact i1
   ·unfold eW at i2 ⊢
    rw [List.map_cons,List.sum_cons,if_neg hb,i2];rfl
 by_cases hk:∃ b∈l,b.acc=acc
 ·obtain ⟨b,hb,e⟩:=hk
  obtain ⟨l1,l2,rfl⟩:=List.append_of_mem hb
  rw [List.pairwise_append] at h
  obtain ⟨_,h2,h3⟩:=h
  have m1:=miss l1 0 fun x hx q=>aKk (h3 x hx b (List.mem_cons_self ..)) (q.trans e.symm)
  have m2:=fun n=>miss l2 n fun x hx q=>aKk ((List.pairwise_cons.1 h2).1 x hx) (e.trans q.symm)
  rw [List.foldl_append,m1.1,List.foldl_cons]
  have:kV acc 0 b=b.amount:=if_pos e
  rw [this,(m2 b.amount).1,rP,m1.2]
  have m3:=(m2 0).2
  unfold eW at m3 ⊢
  rw [List.map_cons,List.sum_cons,if_pos e,m3]
  omega
 ·have m1:=miss l 0 fun b hb q=>hk ⟨b,hb,q⟩
  rw [m1.1,m1.2]
theorem aRs {s:State} (hr:bZ s=true) (hi:sM s) (hs:s.book.Pairwise (fun a b=>eZ a.acc b.acc=true)) {l:List ARow} (h:dD s rN rO=(l,0)) (c:List UInt8):oU l c=- (s.book.foldl (kV (iG++c)) 0)∧oV l c=- (s.book.foldl (kV (iH++c)) 0):=by
 obtain ⟨a,b⟩:=aL3 hi h c
 obtain ⟨e,f⟩:=aRr hr hi c
 rw [aOj] at a b
 rw [aIt hs,aIt hs,a,b,e,f]
 constructor<;>omega
theorem wY:∀ (l:List Posted) (a b:List Bal),pZ a=true→aO bS (fun b=>(b,0)) l a=(b,0)→pZ b=true
 | [],a,b,ha,h=>by
  simp only [aO] at h
  cases h
  exact ha
 | p::l,a,b,ha,h=>by
  simp only [aO] at h
  split at h
  ·rename_i r he
   subst h
   unfold bS at he
   split at he
   ·rename_i c
    simp only [Sum.inl.injEq,Prod.mk.injEq] at he
    exact absurd he.2 c
   ·split at he
    ·rename_i c
     simp only [Sum.inl.injEq,Prod.mk.injEq] at he
     exact absurd he.2 c
    ·cases he
  ·rename_i a' he
   unfold bS at he
   split at he
   ·cases he
   ·split at he
    ·cases he
    ·rename_i c2
     cases he
     have c2:=Decidable.not_not.1 c2
     exact wY l _ b (aIk (r:=(cD a (dX p.total).1).1) ha (Prod.ext rfl c2)) h
theorem aIu {s:State} (hr:bZ s=true):s.book.Pairwise (fun a b=>eZ a.acc b.acc=true):=by
 obtain ⟨_,_,_,_,_,r6⟩:=(cX s).1 hr
 exact (xT _).1 (wY s.posted [] s.book (by decide) r6)
theorem aL5 {s:State} (h:Beh s) {l:List ARow} (hl:dD s rN rO=(l,0)) (c:List UInt8):oU l c=- (s.book.foldl (kV (iG++c)) 0)∧oV l c=- (s.book.foldl (kV (iH++c)) 0):=aRs h.right h.ints (aIu h.right) hl c
theorem aL6 {l:List ARow} {i:Nat} {a:ARow} (hi:l[i]?=some a) (k:IntKind):cV 4 (.imm (l.map ARow.enc)) (.int k (i:Int))=.ok (.iptr a.enc 0):=ixI (enc:=ARow.enc) hi rfl k
theorem aOm (l:List Call) (n:Nat):∀ c∈rF l n,c.cmd.lines.length<1000000:=fun c hc=>by
 obtain ⟨d,_,rfl⟩:=List.mem_map.1 hc
 show (d.cmd.lines.take 15).length<1000000
 rw [List.length_take];omega
theorem a35 (l:List Call) (n:Nat) (hn:n≤1000) (S:St) (K:KW):C 35 [.agg [.imm [],.imm [],.imm [],.imm [],.imm [],.int .i64 1],.imm ((rF l n).map Call.enc)] S K=
  K (.tup [.agg [.imm ((playM State.new (rF l n)).1.table.map Rate.enc),.imm ((playM State.new (rF l n)).1.ser.map Ser.enc),.imm ((playM State.new (rF l n)).1.posted.map Posted.enc),.imm ((playM State.new (rF l n)).1.book.map Bal.enc),.imm ((playM State.new (rF l n)).1.sess.map Sess.enc),.int .i64 (playM State.new (rF l n)).1.next],.imm ((playM State.new (rF l n)).2.map Rep.enc)]) S:=
 g35 State.new (rF l n) Sml.new (by have:=aQb l n;omega) (aOm l n) S K
def uQ:List (List UInt8×Int)→List UInt8→List (List UInt8×Int)
 | [],s=>[(s,1)]
 | (t,n)::l,s=>if t=s then (t,n+1)::l else (t,n)::uQ l s
def jJ:List (List UInt8×Int)→List UInt8→Int
 | [],_=>0
 | (t,n)::l,s=>if t=s then n else jJ l s
def oW:List (List UInt8×Int)→List UInt8→Option Nat
 | [],_=>none
 | (t,_)::l,s=>if t=s then some 0 else (oW l s).map (·+1)
def pU (l:List (List UInt8×Int)):List (V×V):=l.map fun x=>(.str x.1,.int .i64 x.2)
theorem uR:∀ (l:List (List UInt8×Int)) (s t:List UInt8),jJ (uQ l s) t=jJ l t+if s=t then 1 else 0
 | [],s,t=>by simp only [uQ,jJ];split<;>simp
 | (u,n)::l,s,t=>by
  simp only [uQ]
  by_cases c:u=s
  ·rw [if_pos c]
   simp only [jJ]
   subst c
   split<;>simp
  ·rw [if_neg c]
   simp only [jJ,uR l s t]
   by_cases c2:u=t
   ·subst c2
    rw [if_pos rfl,if_pos rfl,if_neg fun e=>c e.symm,Int.add_zero]
   ·rw [if_neg c2,if_neg c2]
theorem aRt (s:List UInt8):∀ (l:List (List UInt8×Int)) (i:Nat),yG s (pU l) i=some ((oW l s).map fun j=>(i+j,V.int .i64 (jJ l s)))
 | [],i=>rfl
 | (t,n)::l,i=>by
  simp only [pU,List.map_cons,yG,oW,jJ]
  rw [dJ,cond_eq_ite]
  by_cases c:t=s
  ·subst c
   simp
  ·have h2:¬ (s == t)=true:=by simpa using fun e=>c e.symm
   rw [if_neg h2,if_neg c,if_neg c]
   have:=aRt s l (i+1)
   simp only [pU] at this
   rw [this]
   cases oW l s with
   | none=>rfl
   | some j=>simp only [Option.map_some];congr 3;omega
theorem wZ:∀ {l:List (List UInt8×Int)} {s:List UInt8},oW l s=none→jJ l s=0∧pU l++[(.str s,.int .i64 1)]=pU (uQ l s)
 | [],s,_=>⟨rfl,rfl⟩
 | (t,n)::l,s,h=>by
  simp only [oW] at h
  split at h
  ·cases h
  ·rename_i c
   have h':oW l s=none:=by cases e:oW l s with
    | none=>rfl
    | some j=>rw [e] at h;cases h
   obtain ⟨h1,h2⟩:=wZ h'
   simp only [jJ,uQ,if_neg c]
   exact ⟨h1,by simp only [pU,List.map_cons,List.cons_append] at h2 ⊢;rw [h2]⟩
theorem aIv:∀ {l:List (List UInt8×Int)} {s:List UInt8} {j:Nat},oW l s=some j→(pU l).set j (.str s,.int .i64 (jJ l s+1))=pU (uQ l s)
 | (t,n)::l,s,j,h=>by
  simp only [oW] at h
  split at h
  ·rename_i c
   cases h
   subst c
   simp only [jJ,uQ,if_true,pU,List.map_cons,List.set_cons_zero]
  ·rename_i c
   cases e:oW l s with
   | none=>rw [e] at h;cases h
   | some k=>
    rw [e] at h
    cases h
    have:=aIv e
    simp only [jJ,uQ,if_neg c,pU,List.map_cons,List.set_cons_succ] at this ⊢
    rw [this]
theorem aMm:aOp prog 199=some 3:=by kernel_rfl
theorem bGz:eQ prog 3=some (.int .i64 0):=by kernel_rfl
theorem aMn {S:St} {a:Nat} {l:List (List UInt8×Int)} (h:S.heap.get a=some (.mp (pU l))) (s:List UInt8):lI prog 199 (.mp a) (.str s) false S=.ok (.int .i64 (jJ l s)):=by
 simp only [lI,aMm,xA,h,aRt]
 cases e:oW l s with
 | none=>simp only [Option.map_none,bGz,okV,(wZ e).1];rfl
 | some j=>simp only [Option.map_some,okV];rfl
theorem bC0 {S:St} {a:Nat} {l:List (List UInt8×Int)} (h:S.heap.get a=some (.mp (pU l))) (s:List UInt8):eS prog 199 (.mp a) (.str s) (.int .i64 (jJ l s+1)) S=.ok ⟨S.next,S.heap.put a (.mp (pU (uQ l s)))⟩:=by
 simp only [eS,aMm,h,aRt]
 cases e:oW l s with
 | none=>simp only [Option.map_none,←(wZ e).2,(wZ e).1];rfl
 | some j=>simp only [Option.map_some,Nat.zero_add,aIv e]
theorem g42 (l:List Posted) (hl:l.length<1000000) (S:St) (K:KW):C 42 [.imm (l.map Posted.enc)] S K=K (.int .i64 (aCd l)) S:=by
 refine (v42 rfl ?_).eq S K
 simp only [m42,kk]
 refine aY l (step:=bBy) (fin:=fun _=>-1) (fun i done vs S=>∃ kv,vs=[.int .i64 0,.int .i64 (i:Int)]∧S.heap.get 0=some (.mp (pU kv))∧0<S.next∧(∀ s,jJ kv s=xW done s)∧done.length=i) (fun r=>r=aCd l) ?_ ?_ (s:=[]) ⟨[],rfl,rfl,by decide,fun _=>rfl,rfl⟩ rfl
 ·rintro i p done vs S hi ⟨kv,rfl,hm,h0,hc,hdl⟩ aP H
  have hil:=(List.getElem?_eq_some_iff.1 hi).1
  have hb:=aY6 done p.ref.ser
  have hb0:=aC6 done p.ref.ser
  have hm1:∀ (m:Nat) (b c:Blk),(⟨m,(S.heap.put S.next b).put S.next c⟩:St).heap.get 0=some (.mp (pU kv)):=fun m b c=>by
   show ((S.heap.put S.next b).put S.next c).get 0=_
   rw [Tr.get_put_neB _ _ _ _ trivial (by omega),Tr.get_put_neB _ _ _ _ trivial (by omega)];exact hm
  have hw:wr .i64 (jJ kv p.ref.ser+1)=jJ kv p.ref.ser+1:=by rw [hc];exact qW (by omega) (by omega)
  simp only [aK1,kk,dI hi,if_true,rJ hi,Posted.enc]
  obtain ⟨S1,hS1⟩:∃ S1:St,S1=⟨S.next+1,(S.heap.put S.next (.row 0 12 [aCy])).put S.next (.row 0 12 [p.enc])⟩:=⟨_,rfl⟩
  have m1:S1.heap.get 0=some (.mp (pU kv)):=by rw [hS1];exact hm1 _ _ _
  have r1:aI S1 S.next 0=.ok (12,[p.enc]):=by rw [hS1];exact aS _ _ _ _ _ _
  have m2:(⟨S1.next,S1.heap.put 0 (.mp (pU (uQ kv p.ref.ser)))⟩:St).heap.get 0=some (.mp (pU (uQ kv p.ref.ser))):=Tr.get_put_sameB _ _ _ trivial
  have r2:aI ⟨S1.next,S1.heap.put 0 (.mp (pU (uQ kv p.ref.ser)))⟩ S.next 0=.ok (12,[p.enc]):=bI r1 (Tr.get_put_neB _ _ _ _ trivial (by omega))
  have l2:jJ (uQ kv p.ref.ser) p.ref.ser=xW done p.ref.ser+1:=by rw [uR,if_pos rfl,hc]
  simp only [aCy,Posted.enc] at hS1
  simp only [Posted.enc] at r1 r2
  simp only [←hS1,r1,kk,aMn m1,hw,bC0 m1,r2,aMn m2,l2,nU (show i<1000000000 by omega)]
  simp only [bBy] at H
  by_cases c:p.ref.num=xW done p.ref.ser+1
  ·simp only [c,if_true] at H
   simp only [c,kk,not_true_eq_false,if_false]
   refine H _ _ ⟨uQ kv p.ref.ser,rfl,m2,by rw [hS1];show 0<S.next+1;omega,fun s=>?_,by simp [hdl]⟩
   rw [uR,mK,wT,hc]
  ·simp only [c,if_false] at H
   simp only [c,kk,not_false_eq_true,if_true,oo,←H,hdl]
 ·rintro done vs S ⟨kv,rfl,hm,h0,hc,hdl⟩ aP H
  have H:(-1:Int)=aCd l:=H
  simp only [aK1,kk,Int.lt_irrefl,if_false,oo,←H]
theorem ARow.ext_iff (a b:ARow):(a=b)=(((a.cat=b.cat∧a.bp=b.bp)∧a.net=b.net)∧a.tax=b.tax):=by
 obtain ⟨_,_,_,_⟩:=a;obtain ⟨_,_,_,_⟩:=b;simp [and_assoc]
theorem bQc (l r:List ARow) (hb:l.length<1000000) (S:St) (K:KW):C 130 [.imm (l.map ARow.enc),.imm (r.map ARow.enc)] S K=K (.bool (decide (l=r))) S:=by
 refine (bLg rfl ?_).eq S K
 simp only [aTf,kk]
 by_cases h:l.length=r.length
 ·simp only [show (l.length:Int)=(r.length:Int) by omega,kk,not_true_eq_false,if_false]
  refine aY l (step:=pO r) (fin:=fun _=>true) (fun i n vs S=>n=i∧vs=[.bool false,.int .i64 (i:Int)]) (fun x=>x=decide (l=r)) ?_ ?_ (s:=0) ⟨rfl,rfl⟩ (eqL h)
  ·rintro i p n vs S hi ⟨rfl,rfl⟩ aP H
   have hil:=(List.getElem?_eq_some_iff.1 hi).1
   have hj:r[n]?=some r[n]:=List.getElem?_eq_getElem (by omega)
   have hlt:((n:Int)<(r.length:Int))=True:=dI hj
   simp only [pO,hj,Option.some.injEq,ARow.ext_iff] at H
   simp only [aFe,kk,dI hi,hlt,aL6 hi,aL6 hj,ARow.enc,nU (show n<1000000000 by omega),oo]
   grind
  ·rintro n vs S ⟨rfl,rfl⟩ aP H
   simp only [aFe,kk,h,Int.lt_irrefl,if_false,oo,←H]
 ·simp only [show ¬ (l.length:Int)=(r.length:Int) by omega,kk,not_false_eq_true,if_true,oo]
  have:decide (l=r)=false:=by simpa using fun e=>h (by rw [e])
  rw [this]
end Go.Proofs.YtoaibmbldmckaaaGreat
end
section
namespace Go.AM
theorem Own.made {n:Nat} {S:St} {es:List (List V)} (h:∀ c,c∈es→c.length=n∧aN c=true):Own E0 ⟨S.next+1,S.heap.put S.next (.row 0 n es)⟩ n (.sl S.next 0 n 0 es.length) es:=
 ⟨.inr ⟨S.next,0,[],rfl,Nat.zero_le _,Nat.lt_succ_self _,by rw [List.append_nil];exact Tr.get_put_sameB _ _ _ trivial⟩,h⟩
end Go.AM
namespace Go.Proofs.YtoaibmbldmckaaaGreat
open Go.AM Tryz
set_option linter.unusedVariables false
set_option linter.unusedSimpArgs false
set_option maxRecDepth 100000
theorem g46 (n:Int) (S:St) (K:KW):C 46 [.int .i64 n] S K=K (.agg [.int .i64 2026,.int .i64 11,.int .i64 n]) S:=by
 refine (v46 rfl ?_).eq S K
 simp only [m46,kk,oo]
theorem bQd (s:List UInt8) (n:Int) (S:St) (K:KW):C 129 [.str s,.int .i64 n] S K=K (.agg (Posted.enc ⟨⟨s,n⟩,⟨0,0,0⟩,⟨0,0,0,[]⟩,Ref.zero,false⟩)) S:=by
 refine (bLe rfl ?_).eq S K
 simp only [aTd,kk,oo]
 rfl
def aCj (n:Int):Call:=⟨1,n,⟨4,[97],0,⟨[],⟨0,0,0⟩,0⟩,⟨2026,11,15⟩,[⟨[],[115,116,100],1,100⟩],Ref.zero,0⟩⟩
theorem bH0:gU prog 128=some none:=by kernel_rfl
theorem bQe (n:Int) (S:St) (K:KW):C 128 [.int .i64 n] S K=K (.agg (aCj n).enc) S:=by
 refine (bLc rfl ?_).eq S K
 simp only [aTb,kk,g46,aQh,oo]
 rfl
theorem bC1 (z:List V) (parts:List (Nat×V)) (fr:Option Nat) (S:St):aR 12 z 3 parts fr S=(match sL 12 [z,z,z] parts with
  | .error e=>.error e
  | .ok elems=>match aJ fr S (.row 0 12 elems) with
   | .error e=>.error e
   | .ok (a,S')=>.ok (.sl a 0 12 0 3,S')):=by unfold aR;rw [if_pos (by decide)];rfl
theorem bC2 (z:List V) (parts:List (Nat×V)) (fr:Option Nat) (S:St):aR 12 z 2 parts fr S=(match sL 12 [z,z] parts with
  | .error e=>.error e
  | .ok elems=>match aJ fr S (.row 0 12 elems) with
   | .error e=>.error e
   | .ok (a,S')=>.ok (.sl a 0 12 0 2,S')):=by unfold aR;rw [if_pos (by decide)];rfl
theorem bC3 (z:List V) (parts:List (Nat×V)) (fr:Option Nat) (S:St):aR 17 z 7 parts fr S=(match sL 17 [z,z,z,z,z,z,z] parts with
  | .error e=>.error e
  | .ok elems=>match aJ fr S (.row 0 17 elems) with
   | .error e=>.error e
   | .ok (a,S')=>.ok (.sl a 0 17 0 7,S')):=by unfold aR;rw [if_pos (by decide)];rfl
theorem a42 (S:St) (l:List Posted) (hl:l.length<1000000) (K:KW):C 42 [.sl S.next 0 12 0 l.length] ⟨S.next+1,S.heap.put S.next (.row 0 12 (l.map Posted.enc))⟩ K=K (.int .i64 (aCd l)) ⟨S.next+1,S.heap.put S.next (.row 0 12 (l.map Posted.enc))⟩:=by
 have o:=Own.made (n:=12) (S:=S) (es:=l.map Posted.enc) fun c hc=>by obtain ⟨x,_,rfl⟩:=List.mem_map.1 hc;exact aBx x
 rw [List.length_map] at o
 have h:=o.out fun _=>rfl
 exact (Fn.back fun S K=>g42 l hl S K).frz bKv rfl (by simp only [frzVs,h]) (by simp only [ptrsVs,o.ptrs];rfl) (.inl rfl) K
theorem bQg (S:St) (r l:List ARow) (hl:r.length<1000000) (K:KW):C 130 [.imm (r.map ARow.enc),.sl S.next 0 4 0 l.length] ⟨S.next+1,S.heap.put S.next (.row 0 4 (l.map ARow.enc))⟩ K=K (.bool (decide (r=l))) ⟨S.next+1,S.heap.put S.next (.row 0 4 (l.map ARow.enc))⟩:=by
 have o:=Own.made (n:=4) (S:=S) (es:=l.map ARow.enc) fun c hc=>by obtain ⟨x,_,rfl⟩:=List.mem_map.1 hc;exact aYq x
 rw [List.length_map] at o
 have h:=o.out fun _=>rfl
 exact (Fn.back fun S K=>bQc r l hl S K).frz bEt rfl (by simp only [frzVs,pJ (.imm (r.map ARow.enc)) rfl,h]) (by simp only [ptrsVs,qJ,o.ptrs];rfl) (.inl rfl) K
def aMo:Rate:=⟨[],⟨0,0,0⟩,0⟩
def aRu:List Call:=[⟨0,0,⟨6,[],0,aMo,⟨0,0,0⟩,[],Ref.zero,0⟩⟩,⟨1,1,⟨3,[],0,⟨[115,116,100],⟨2000,1,1⟩,1900⟩,⟨0,0,0⟩,[],Ref.zero,0⟩⟩,⟨1,2,⟨1,[97],2,aMo,⟨0,0,0⟩,[],Ref.zero,0⟩⟩,aCj 3,aCj 4,
 ⟨1,6,⟨1,[98],9,aMo,⟨0,0,0⟩,[],Ref.zero,0⟩⟩,⟨1,7,⟨5,[98],0,aMo,⟨2026,11,15⟩,[],⟨[97],1⟩,0⟩⟩]
def Call.mem (c:Call):List V:=match c.cmd.lines with
 | []=>c.enc.set 13 .nils
 | _=>c.enc
def d15:Date:=⟨2026,11,15⟩
def d16:Date:=⟨2026,11,16⟩
theorem g44 (S:St) (K:KW):C 44 [] S K=K (.bool true) S:=by
 refine (v44 rfl ?_).eq S K
 obtain ⟨s,hs⟩:∃ s,s=(playM State.new aRu).1:=⟨_,rfl⟩
 have r15:dD s d15 d15=([⟨[115,116,100],1900,100,19⟩],0):=by rw [hs];kernel_rfl
 have r16:dD s d16 d16=([],0):=by rw [hs];kernel_rfl
 have h15:=fun S K=>g40 s d15 d15 S K
 have h16:=fun S K=>g40 s d16 d16 S K
 simp only [r15,r16] at h15 h16
 simp only [d15,d16,List.map_nil,List.map_cons] at h15 h16
 have e3:(oO (aCj 3).enc 17&&aN (aCj 3).enc)=true:=rfl
 have e4:(oO (aCj 4).enc 17&&aN (aCj 4).enc)=true:=rfl
 simp only [m44,kk,g31,g46,sH _ _ _ _ _ _ _ _ bH0,List.nil_append,List.append_nil,bQe,bC3,e3,e4]
 obtain ⟨S1,hS1⟩:∃ S1:St,S1=⟨1,Tr.nil.put 0 (.row 0 17 (aRu.map Call.mem))⟩:=⟨_,rfl⟩
 obtain ⟨h',_,hC⟩:=(Fn.back fun S K=>g35 State.new aRu Sml.new (by decide) (by decide) S K).cutE (S:=S1) (args:=[.agg [.imm [],.imm [],.imm [],.imm [],.imm [],.int .i64 1],.sl 0 0 17 0 7]) bKu rfl (by rw [hS1];rfl) (by rfl)
 rw [←hs] at hC
 have key:=hC
 rw [hS1] at key
 refine Eq.mpr (key _) ?_
 have n1:S1.next=1:=by rw [hS1]
 simp only [n1,kk]
 obtain ⟨S2,hS2⟩:∃ S2:St,S2=⟨1+1+9,(h'.put 1 (.row 0 6 [[.nils,.nils,.nils,.nils,.nils,.int .i64 0]])).put 1 (.row 0 6 [s.enc])⟩:=⟨_,rfl⟩
 have r1:aI S2 1 0=.ok (6,[s.enc]):=by rw [hS2];exact aS _ _ _ _ _ _
 simp only [State.enc] at hS2 r1
 have g3:aCd [⟨⟨[97],1⟩,⟨0,0,0⟩,⟨0,0,0,[]⟩,Ref.zero,false⟩,⟨⟨[98],1⟩,⟨0,0,0⟩,⟨0,0,0,[]⟩,Ref.zero,false⟩,⟨⟨[97],2⟩,⟨0,0,0⟩,⟨0,0,0,[]⟩,Ref.zero,false⟩]=-1:=by kernel_rfl
 have g2:aCd [⟨⟨[97],1⟩,⟨0,0,0⟩,⟨0,0,0,[]⟩,Ref.zero,false⟩,⟨⟨[97],3⟩,⟨0,0,0⟩,⟨0,0,0,[]⟩,Ref.zero,false⟩]=1:=by kernel_rfl
 have g1:aCd [⟨⟨[97],2⟩,⟨0,0,0⟩,⟨0,0,0,[]⟩,Ref.zero,false⟩]=0:=by kernel_rfl
 have c3:=fun n h K=>a42 ⟨n,h⟩ [⟨⟨[97],1⟩,⟨0,0,0⟩,⟨0,0,0,[]⟩,Ref.zero,false⟩,⟨⟨[98],1⟩,⟨0,0,0⟩,⟨0,0,0,[]⟩,Ref.zero,false⟩,⟨⟨[97],2⟩,⟨0,0,0⟩,⟨0,0,0,[]⟩,Ref.zero,false⟩] (by decide) K
 have c2:=fun n h K=>a42 ⟨n,h⟩ [⟨⟨[97],1⟩,⟨0,0,0⟩,⟨0,0,0,[]⟩,Ref.zero,false⟩,⟨⟨[97],3⟩,⟨0,0,0⟩,⟨0,0,0,[]⟩,Ref.zero,false⟩] (by decide) K
 have c1:=fun n h K=>a42 ⟨n,h⟩ [⟨⟨[97],2⟩,⟨0,0,0⟩,⟨0,0,0,[]⟩,Ref.zero,false⟩] (by decide) K
 have c0:=fun n h K=>bQg ⟨n,h⟩ [⟨[115,116,100],1900,100,19⟩] [⟨[115,116,100],1900,100,19⟩] (by decide) K
 simp only [g3,g2,g1,List.map_cons,List.map_nil,List.length_cons,List.length_nil,Posted.enc,ARow.enc,Nat.zero_add,Nat.reduceAdd] at c3 c2 c1 c0
 simp only [←hS2,h15,kk,gm,r1,h16,bQd,bC1,bC2,Posted.enc]
 refine Eq.mpr (c3 _ _ _) ?_
 simp only [kk,if_true]
 refine Eq.mpr (c2 _ _ _) ?_
 simp only [kk,if_true,aYh]
 refine Eq.mpr (c1 _ _ _) ?_
 simp only [kk,if_true,aQh]
 refine Eq.mpr (c0 _ _ _) ?_
 simp only [kk,if_true,oo,List.length_nil]
 rfl
end Go.Proofs.YtoaibmbldmckaaaGreat
end
section
namespace Go.Proofs.YtoaibmbldmckaaaGreat
open Go.AM Tryz
def aY8 (r:ARow):Bool:=decide (1152921504606846976<r.net)||decide (r.net < -1152921504606846976)||decide (1152921504606846976<r.tax)||decide (r.tax < -1152921504606846976)
def fJ (c:List UInt8) (st:Int×Int) (r:ARow):(Int×Int×Bool)⊕(Int×Int):=
 if aY8 r=true then .inl (0,0,false) else if r.cat=c then .inr (wr .i64 (st.1+r.net),wr .i64 (st.2+r.tax)) else .inr st
def aCk (c:List UInt8) (l:List ARow):Int×Int×Bool:=aO (fJ c) (fun st=>(st.1,st.2,decide (l.length≤4))) l (0,0)
theorem g47 (l:List ARow) (hl:l.length<1000000) (c:List UInt8) (S:St) (K:KW):C 47 [.imm (l.map ARow.enc),.str c] S K=K (.tup [.int .i64 (aCk c l).1,.int .i64 (aCk c l).2.1,.bool (aCk c l).2.2]) S:=by
 refine (v47 rfl ?_).eq S K
 simp only [m47]
 refine aY l (step:=fJ c) (fin:=fun st=>(st.1,st.2,decide (l.length≤4))) (fun i st vs S=>vs=[.int .i64 0,.int .i64 0,.bool false,.int .i64 st.1,.int .i64 st.2,.int .i64 (i:Int)]) (fun r=>r=aCk c l) ?_ ?_ (s:=(0,0)) rfl rfl
 ·rintro i r ⟨n,x⟩ vs S hi rfl aP H
  have hil:=(List.getElem?_eq_some_iff.1 hi).1
  simp only [fJ,aY8,Bool.or_eq_true,decide_eq_true_eq] at H
  simp only [aK2,aBm,kk,dI hi,if_true,aL6 hi,ARow.enc,nU (show i<1000000000 by omega),oo]
  grind
 ·rintro ⟨n,x⟩ vs S rfl aP H
  have H:(n,x,decide (l.length≤4))=aCk c l:=H
  have h4:(decide ((l.length:Int)≤4))=decide (l.length≤4):=by rw [Bool.eq_iff_iff];simp;omega
  simp only [aK2,kk,Int.lt_irrefl,if_false,oo,←H,h4]
theorem aCl {c:List UInt8} {fin:Int×Int→Int×Int×Bool} (hf:∀ st,fin st=(st.1,st.2,true)):∀ (l:List ARow) (n x:Int),l.length≤4→-1152921504606846976*(4 - l.length)≤n→n≤1152921504606846976*(4 - l.length)→-1152921504606846976*(4 - l.length)≤x→x≤1152921504606846976*(4 - l.length)→
  (aO (fJ c) fin l (n,x)).2.2=true→aO (fJ c) fin l (n,x)=(n+oU l c,x+oV l c,true)∧dY (n+oU l c)∧dY (x+oV l c)
 | [],n,x,h4,h1,h2,h3,h5,h=>by
  simp only [aO,hf,oU,oV,List.map_nil,List.sum_nil,Int.add_zero]
  simp only [List.length_nil] at h1 h2 h3 h5
  exact ⟨trivial,⟨by omega,by omega⟩,⟨by omega,by omega⟩⟩
 | r::l,n,x,h4,h1,h2,h3,h5,h=>by
  simp only [List.length_cons] at h4 h1 h2 h3 h5
  by_cases hb:aY8 r=true
  ·have e:fJ c (n,x) r=.inl (0,0,false):=by unfold fJ;rw [if_pos hb]
   simp only [aO,e] at h
   cases h
  ·have hb':=hb
   unfold aY8 at hb'
   simp only [Bool.or_eq_true,decide_eq_true_eq,not_or] at hb'
   by_cases hc:r.cat=c
   ·have e:fJ c (n,x) r=.inr (n+r.net,x+r.tax):=by
     unfold fJ
     rw [if_neg hb,if_pos hc,gH ⟨by omega,by omega⟩,gH ⟨by omega,by omega⟩]
    simp only [aO,e] at h ⊢
    have:=aCl hf l (n+r.net) (x+r.tax) (by omega) (by omega) (by omega) (by omega) (by omega) h
    simp only [oU,oV,List.map_cons,List.sum_cons,if_pos hc] at this ⊢
    rw [←Int.add_assoc,←Int.add_assoc]
    exact this
   ·have e:fJ c (n,x) r=.inr (n,x):=by
     unfold fJ
     rw [if_neg hb,if_neg hc]
    simp only [aO,e] at h ⊢
    have:=aCl hf l n x (by omega) (by omega) (by omega) (by omega) (by omega) h
    simp only [oU,oV,List.map_cons,List.sum_cons,if_neg hc,Int.zero_add] at this ⊢
    exact this
theorem aCm:∀ {c:List UInt8} {fin:Int×Int→Int×Int×Bool} (hf:∀ st,(fin st).2.2=false) (l:List ARow) (st:Int×Int),(aO (fJ c) fin l st).2.2=false
 | c,fin,hf,[],st=>hf st
 | c,fin,hf,r::l,st=>by
  simp only [aO]
  unfold fJ
  split
  ·rename_i h
   split at h
   ·cases h;rfl
   ·split at h<;>cases h
  ·exact aCm hf l _
theorem aY9 {c:List UInt8} {l:List ARow} (h:(aCk c l).2.2=true):(aCk c l).1=oU l c∧(aCk c l).2.1=oV l c∧dY (oU l c)∧dY (oV l c):=by
 by_cases h4:l.length≤4
 ·have:=aCl (c:=c) (fin:=fun st=>(st.1,st.2,decide (l.length≤4))) (fun st=>by rw [decide_eq_true h4]) l 0 0 h4 (by omega) (by omega) (by omega) (by omega) h
  obtain ⟨h1,h2,h3⟩:=this
  rw [Int.zero_add] at h2 h3
  unfold aCk
  rw [h1,Int.zero_add,Int.zero_add]
  exact ⟨rfl,rfl,h2,h3⟩
 ·unfold aCk at h
  rw [aCm (fun st=>by simp [h4])] at h
  cases h
def aMp (c:List UInt8) (st:Int×Int) (b:Bal):(Int×Int)⊕(Int×Int):=.inr (kV (iG++c) st.1 b,kV (iH++c) st.2 b)
theorem aEg (c:List UInt8):∀ (l:List Bal) (st:Int×Int),aO (aMp c) id l st=(l.foldl (kV (iG++c)) st.1,l.foldl (kV (iH++c)) st.2)
 | [],st=>rfl
 | b::l,st=>by simp only [aO,aMp,List.foldl_cons];rw [aEg c l]
theorem aRv {s:State} {a b:Date} {rows:List ARow} (hr:dD s a b=(rows,0)):rows.length<100000:=by
 have h2:=aEe hr
 obtain ⟨h40',hok⟩:=mI (nR h2.1)
 have:∀ (ps:List Part) (l l':List ARow),fW ps l=some l'→l'.length≤l.length+ps.length:=by
  intro ps
  induction ps with
  | nil=>intro l l' h;cases h;exact Nat.le_refl _
  | cons p ps ih=>
   intro l l' h
   simp only [fW] at h
   split at h
   ·rename_i l1 he
    have:=aCf he
    have:=ih _ _ h
    simp only [List.length_cons];omega
   ·cases h
 have h3:=this _ _ _ h2.2.2.2
 have h4:∀ ps:List Posted,(∀ p∈ps,p.total.parts.length≤12)→(cS ps a b).length≤12*ps.length:=by
  intro ps
  induction ps with
  | nil=>intro _;exact Nat.le_refl _
  | cons p ps ih=>
   intro h
   have h5:=h p (List.mem_cons_self ..)
   have h6:=ih fun q hq=>h q (List.mem_cons_of_mem _ hq)
   rw [aOk]
   simp only [List.length_append,List.length_cons]
   split<;>(try simp only [List.length_nil])<;>omega
 have h5:=h4 s.posted fun p hp=>iS (hok p hp).2
 simp only [List.length_nil] at h3
 omega
theorem aL7 {s:State} (hr:bZ s=true) (h:(dD s rN rO).2≠0):(dD s rN rO).2=7:=by
 rcases aGu hr (a:=rN) (b:=rO) (by decide) (by decide) with ⟨l,_,e⟩ | e
 ·rw [e] at h;exact absurd rfl h
 ·rw [e]
theorem g9 (l:List Call) (c:List UInt8) (hcl:c.length≤1048576) (S:St) (K:KW):C 9 [.imm (l.map Call.enc),.str c] S K=K (.bool true) S:=by
 refine (v9 rfl ?_).eq S K
 have h30:=fun S K=>g30 l 50 (by decide) S K
 simp only [show ((50:Nat):Int)=50 from rfl] at h30
 obtain ⟨s,hs⟩:∃ s,s=(playM State.new (rF l 50)).1:=⟨_,rfl⟩
 have hb:Beh s:=by rw [hs];exact Beh.new.playM _
 have h35:=fun S K=>a35 l 50 (by decide) S K
 simp only [←hs] at h35
 have h40:=fun S K=>g40 s rN rO S K
 simp only [rN,rO] at h40
 simp only [m9,kk,iV,gm,g31,h30,h35,h40]
 by_cases c1:(dD s rN rO).2=0
 rotate_left
 ·have c7:=aL7 hb.right c1
  simp only [rN,rO] at c7
  simp only [c7,kk,show ¬ (7:Int)=0 by decide,not_false_eq_true,if_true,g44,oo]
 obtain ⟨rows,hr⟩:∃ rows,dD s rN rO=(rows,0):=⟨_,Prod.ext rfl c1⟩
 have h64:=aRv hr
 have hbook:=aL5 hb hr c
 have h47:=fun S K=>g47 rows (by omega) c S K
 simp only [rN,rO] at hr
 simp only [hr,kk,not_true_eq_false,if_false,h47]
 cases c2:(aCk c rows).2.2
 ·simp only [kk,Bool.not_false,if_true,g44,oo]
 obtain ⟨e1,e2,i1,i2⟩:=aY9 c2
 simp only [kk,Bool.not_true,Bool.false_eq_true,if_false,e1,e2]
 refine aY s.book (step:=aMp c) (fin:=id) (fun j st vs S'=>vs=[.int .i64 st.1,.int .i64 st.2,.int .i64 (j:Int)]∧aI S' 0 0=.ok (6,[s.enc])) (fun st=>st=(s.book.foldl (kV (iG++c)) 0,s.book.foldl (kV (iH++c)) 0)) ?_ ?_ (s:=(0,0)) ⟨rfl,aS _ _ _ _ _ _⟩ (aEg c _ _)
 ·rintro j b ⟨n,x⟩ vs S' hi ⟨rfl,h2⟩ aP H
  have hil:=(List.getElem?_eq_some_iff.1 hi).1
  have hbl:=(rE hb.right).2.2.2.2.1
  simp only [State.enc] at h2
  simp only [aMp,kV] at H
  have k1:aG prog .add 9 (.str [110,101,116,47]) (.str c)=.ok (.str (iG++c)):=aAh (by simp;omega)
  have k2:aG prog .add 9 (.str [116,97,120,47]) (.str c)=.ok (.str (iH++c)):=aAh (by simp;omega)
  simp only [aQ2,aQ1,kk,h2,dI hi,if_true,aBw hi,Bal.enc,k1,k2,nU (show j<1000000000 by omega),beq_iff_eq]
  by_cases k3:b.acc=iG++c<;>by_cases k4:b.acc=iH++c<;>simp only [k3,k4,if_true,if_false] at H ⊢<;>exact H _ _ ⟨rfl,h2⟩
 ·rintro ⟨n,x⟩ vs S' ⟨rfl,h2⟩ aP H
  have H:(n,x)=_:=H
  obtain ⟨rfl,rfl⟩:=Prod.mk.inj H
  simp only [State.enc] at h2
  have w1:wr .i64 (0 - s.book.foldl (kV (iG++c)) 0)=oU rows c:=by rw [hbook.1,Int.zero_sub];exact gH (by rw [←hbook.1];exact i1)
  have w2:wr .i64 (0 - s.book.foldl (kV (iH++c)) 0)=oV rows c:=by rw [hbook.2,Int.zero_sub];exact gH (by rw [←hbook.2];exact i2)
  simp only [aQ2,kk,h2,Int.lt_irrefl,if_false,unK,w1,w2,if_true,g44,oo]
end Go.Proofs.YtoaibmbldmckaaaGreat
end
