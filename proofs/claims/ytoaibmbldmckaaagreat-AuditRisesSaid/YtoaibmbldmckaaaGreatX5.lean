import Derived.Test.YtoaibmbldmckaaaGreatX4
set_option linter.unusedSimpArgs false
set_option linter.unusedVariables false
set_option linter.unusedSectionVars false
set_option maxRecDepth 100000
section
namespace Go.Proofs.YtoaibmbldmckaaaGreat
open Go.AM Tryz
structure ARow where
 cat:List UInt8
 bp:Int
 net:Int
 tax:Int
deriving DecidableEq
abbrev Key:=List UInt8×Int
def ARow.key (r:ARow):Key:=(r.cat,r.bp)
def pk (p:Part):Key:=(p.cat,p.bp)
def kLt (a b:Key):Prop:=fF a.1 b.1=true∨a.1=b.1∧a.2<b.2
theorem xL {a b c:Key} (h:kLt a b) (k:kLt b c):kLt a c:=by
 rcases h with h | ⟨h,h'⟩<;>rcases k with k | ⟨k,k'⟩
 ·exact .inl (fT h k)
 ·exact .inl (by rw [←k];exact h)
 ·exact .inl (by rw [h];exact k)
 ·exact .inr ⟨h.trans k,by omega⟩
theorem aBv {a b:Key} (h:kLt a b):a≠b:=fun e=>by
 subst e
 rcases h with h | ⟨_,h⟩
 ·rw [jR] at h;cases h
 ·omega
theorem aWv (a b:Key):kLt a b∨a=b∨kLt b a:=by
 rcases vS a.1 b.1 with h | h | h
 ·exact .inl (.inl h)
 ·rcases Int.lt_trichotomy a.2 b.2 with k | k | k
  ·exact .inl (.inr ⟨h,k⟩)
  ·exact .inr (.inl (Prod.ext h k))
  ·exact .inr (.inr (.inr ⟨h.symm,k⟩))
 ·exact .inr (.inr (.inl h))
def fX (r:ARow) (p:Part):Bool:=if fF r.cat p.cat=true then true else if r.cat=p.cat then decide (r.bp<p.bp) else false
theorem mB (r:ARow) (p:Part):fX r p=true↔kLt r.key (pk p):=by
 unfold fX kLt ARow.key pk
 by_cases h:fF r.cat p.cat=true
 ·simp [h]
 ·by_cases e:r.cat=p.cat
  ·simp [h,e]
  ·simp [h,e]
def cB (l:List ARow) (p:Part):Nat:=kR (fun r=>fX r p) l
def pM (l:List ARow) (p:Part):Bool:=match l[cB l p]? with
 | none=>true
 | some r=>if r.cat=p.cat then !decide (r.bp=p.bp) else true
def fR (l:List ARow) (p:Part):List ARow:=if pM l p=true then eY l (cB l p) ⟨p.cat,p.bp,0,0⟩ else l
def jT (l:List ARow) (p:Part):Option (List ARow):=match (fR l p)[cB l p]? with
 | none=>none
 | some r=>if (cN r.net p.net).2=0 then (if (cN r.tax p.tax).2=0 then some ((fR l p).set (cB l p) { r with net:=(cN r.net p.net).1,tax:=(cN r.tax p.tax).1 }) else none) else none
def gM:List Part→List ARow→Option (List ARow)
 | [],l=>some l
 | p::ps,l=>match jT l p with
  | some l'=>gM ps l'
  | none=>none
def aK3 (ps:List Part) (κ:Key):Int:=(ps.map fun p=>if pk p=κ then p.net else 0).sum
def aK4 (ps:List Part) (κ:Key):Int:=(ps.map fun p=>if pk p=κ then p.tax else 0).sum
theorem aNd (ps:List Part) (p:Part) (κ:Key):aK3 (ps++[p]) κ=aK3 ps κ+if pk p=κ then p.net else 0:=by simp [aK3]
theorem aNe (ps:List Part) (p:Part) (κ:Key):aK4 (ps++[p]) κ=aK4 ps κ+if pk p=κ then p.tax else 0:=by simp [aK4]
theorem aQf {ps:List Part} {κ:Key} (h:∀ p∈ps,pk p≠κ):aK3 ps κ=0∧aK4 ps κ=0:=by
 induction ps with
 | nil=>exact ⟨rfl,rfl⟩
 | cons p ps ih=>
  obtain ⟨h1,h2⟩:=ih fun q hq=>h q (List.mem_cons_of_mem _ hq)
  have h3:=h p (List.mem_cons_self ..)
  unfold aK3 aK4 at *
  simp only [List.map_cons,List.sum_cons,if_neg h3]
  omega
structure Rws (ps:List Part) (l:List ARow):Prop where
 srt:l.Pairwise (fun a b=>kLt a.key b.key)
 sum:∀ r∈l,r.net=aK3 ps r.key∧r.tax=aK4 ps r.key∧fD r.net∧fD r.tax
 mem:∀ κ,(∃ r∈l,r.key=κ)↔∃ p∈ps,pk p=κ
theorem Rws.nil:Rws [] []:=⟨.nil,fun r h=>(by cases h),fun κ=>⟨fun ⟨r,h,_⟩=>(by cases h),fun ⟨r,h,_⟩=>(by cases h)⟩⟩
theorem bAo {l:List ARow} (h:l.Pairwise (fun a b=>kLt a.key b.key)) {i j:Nat} {a b:ARow} (hi:l[i]?=some a) (hj:l[j]?=some b) (hne:i≠j):a.key≠b.key:=by
 obtain ⟨h1,rfl⟩:=List.getElem?_eq_some_iff.1 hi
 obtain ⟨h2,rfl⟩:=List.getElem?_eq_some_iff.1 hj
 rcases Nat.lt_or_gt_of_ne hne with k | k
 ·exact aBv (List.pairwise_iff_getElem.1 h i j h1 h2 k)
 ·exact (aBv (List.pairwise_iff_getElem.1 h j i h2 h1 k)).symm
theorem aI2 {l:List ARow} {p:Part} (h:l.Pairwise (fun a b=>kLt a.key b.key)) (hm:pM l p=true):∀ x∈l,fX x p=false→kLt (pk p) x.key:=by
 intro x hx hf
 have hmono:∀ a b:ARow,kLt a.key b.key→fX a p=false→fX b p=false:=fun a b hab ha=>by
  cases e:fX b p with
  | false=>rfl
  | true=>
   have:=(mB a p).2 (xL hab ((mB b p).1 e))
   rw [ha] at this;cases this
 have hd:=qV (p:=fun r=>fX r p) h hmono hx hf
 have hsd:(l.dropWhile fun r=>fX r p).Pairwise (fun a b=>kLt a.key b.key):=h.sublist (List.dropWhile_suffix _).sublist
 have hg:l[cB l p]?=(l.dropWhile fun r=>fX r p)[0]?:=aLb _ l
 unfold pM at hm
 rw [hg] at hm
 cases hdl:l.dropWhile (fun r=>fX r p) with
 | nil=>rw [hdl] at hd;cases hd
 | cons y t=>
  rw [hdl] at hd hm hsd
  have hy:fX y p=false:=xG (p:=fun r=>fX r p) (l:=l) (by rw [hdl];rfl)
  have hyk:kLt (pk p) y.key:=by
   rcases aWv (pk p) y.key with q | q | q
   ·exact q
   ·exfalso
    have e1:y.cat=p.cat:=(congrArg Prod.fst q).symm
    have e2:y.bp=p.bp:=(congrArg Prod.snd q).symm
    simp [e1,e2] at hm
   ·rw [(mB y p).2 q] at hy;cases hy
  rcases List.mem_cons.1 hd with rfl | hd
  ·exact hyk
  ·exact xL hyk ((List.pairwise_cons.1 hsd).1 x hd)
theorem Rws.room {ps:List Part} {l:List ARow} (h:Rws ps l) (p:Part):(fR l p).Pairwise (fun a b=>kLt a.key b.key)∧(∀ r∈fR l p,r.net=aK3 ps r.key∧r.tax=aK4 ps r.key∧fD r.net∧fD r.tax)∧(∀ κ,(∃ r∈fR l p,r.key=κ)↔(∃ q∈ps,pk q=κ)∨pk p=κ)∧∃ r,(fR l p)[cB l p]?=some r∧r.key=pk p:=by
 unfold fR
 by_cases hm:pM l p=true
 ·rw [if_pos hm]
  have hb:=aI2 h.srt hm
  have hab:∀ q∈ps,pk q≠pk p:=fun q hq e=>by
   obtain ⟨r,hr,he⟩:=(h.mem (pk p)).2 ⟨q,hq,e⟩
   cases ha:fX r p with
   | true=>exact aBv ((mB r p).1 ha) he
   | false=>exact aBv (hb r hr ha) he.symm
  refine ⟨?_,fun r hr=>?_,fun κ=>?_,⟨p.cat,p.bp,0,0⟩,?_,rfl⟩
  ·unfold cB
   rw [oF]
   exact lY h.srt (fun a b c=>xL) (fun x hx hp=>(mB x p).1 hp) hb
  ·rcases (fB _ _ _ _).1 hr with rfl | hr
   ·obtain ⟨z1,z2⟩:=aQf hab
    exact ⟨z1.symm,z2.symm,by show fD 0;constructor<;>decide,by show fD 0;constructor<;>decide⟩
   ·exact h.sum r hr
  ·constructor
   ·rintro ⟨r,hr,e⟩
    rcases (fB _ _ _ _).1 hr with rfl | hr
    ·exact .inr e
    ·exact .inl ((h.mem κ).1 ⟨r,hr,e⟩)
   ·rintro (hq | e)
    ·obtain ⟨r,hr,e⟩:=(h.mem κ).2 hq
     exact ⟨r,(fB _ _ _ _).2 (.inr hr),e⟩
    ·exact ⟨_,(fB _ _ _ _).2 (.inl rfl),e⟩
  ·have hle:cB l p≤l.length:=by
    unfold cB kR;rw [oC,Nat.zero_add];exact (List.takeWhile_prefix _).length_le
   unfold eY
   rw [List.getElem?_append_right (by rw [List.length_take];omega),List.length_take,Nat.min_eq_left hle,Nat.sub_self]
   rfl
 ·rw [if_neg hm]
  have hg:∃ r,l[cB l p]?=some r∧r.key=pk p:=by
   unfold pM at hm
   cases e:l[cB l p]? with
   | none=>rw [e] at hm;exact absurd rfl hm
   | some r=>
    rw [e] at hm
    refine ⟨r,rfl,?_⟩
    by_cases e1:r.cat=p.cat
    ·by_cases e2:r.bp=p.bp
     ·exact Prod.ext e1 e2
     ·simp [e1,e2] at hm
    ·simp [e1] at hm
  obtain ⟨r,hr,hk⟩:=hg
  have hrm:r∈l:=List.mem_of_getElem? hr
  refine ⟨h.srt,h.sum,fun κ=>?_,r,hr,hk⟩
  rw [h.mem κ]
  constructor
  ·exact .inl
  ·rintro (q | q)
   ·exact q
   ·exact (h.mem κ).1 ⟨r,hrm,hk.trans q⟩
theorem Rws.enter {ps:List Part} {l l':List ARow} (h:Rws ps l) {p:Part} (h1:fD p.net) (h2:fD p.tax) (he:jT l p=some l'):Rws (ps++[p]) l':=by
 obtain ⟨q1,q2,q3,r,hr,hk⟩:=h.room p
 unfold jT at he
 rw [hr] at he
 simp only at he
 split at he
 ·rename_i n0
  split at he
  ·rename_i x0
   have he:=Option.some.inj he
   subst he
   have hrm:=List.mem_of_getElem? hr
   obtain ⟨s1,s2,i1,i2⟩:=q2 r hrm
   have hkl:=(List.getElem?_eq_some_iff.1 hr).1
   have sn:fD (r.net+p.net)∧(cN r.net p.net).1=r.net+p.net:=by
    rw [nZ i1 h1] at n0 ⊢
    split at n0
    ·rename_i q;rw [if_pos q];exact ⟨q,rfl⟩
    ·cases n0
   have sx:fD (r.tax+p.tax)∧(cN r.tax p.tax).1=r.tax+p.tax:=by
    rw [nZ i2 h2] at x0 ⊢
    split at x0
    ·rename_i q;rw [if_pos q];exact ⟨q,rfl⟩
    ·cases x0
   rw [sn.2,sx.2]
   have hmap:((fR l p).set (cB l p) { r with net:=r.net+p.net,tax:=r.tax+p.tax }).map ARow.key=(fR l p).map ARow.key:=by
    rw [List.map_set]
    apply List.ext_getElem?
    intro j
    rw [List.getElem?_set]
    split
    ·rename_i e
     subst e
     rw [List.length_map,if_pos hkl,List.getElem?_map,hr];rfl
    ·rfl
   refine ⟨?_,fun r' hr'=>?_,fun κ=>?_⟩
   ·have:=List.pairwise_map.2 q1
    rw [←hmap] at this
    exact List.pairwise_map.1 this
   ·obtain ⟨j,hj⟩:=List.mem_iff_getElem?.1 hr'
    rw [List.getElem?_set] at hj
    rw [aNd,aNe]
    split at hj
    ·rename_i e
     have hj:=Option.some.inj hj
     subst hj
     have hk':pk p=r.key:=hk.symm
     have e1:({ r with net:=r.net+p.net,tax:=r.tax+p.tax }:ARow).key=r.key:=rfl
     rw [e1,if_pos hk',if_pos hk',←s1,←s2]
     exact ⟨rfl,rfl,sn.1,sx.1⟩
    ·rename_i e
     have hne:=bAo q1 hr hj e
     have hne':¬ pk p=r'.key:=fun q=>hne (hk.trans q)
     rw [if_neg hne',if_neg hne',Int.add_zero,Int.add_zero]
     exact q2 r' (List.mem_of_getElem? hj)
   ·have m1:∀ κ,(∃ r'∈(fR l p).set (cB l p) { r with net:=r.net+p.net,tax:=r.tax+p.tax },r'.key=κ)↔∃ r'∈fR l p,r'.key=κ:=fun κ=>by
     have a1:∀ l:List ARow,(∃ r'∈l,r'.key=κ)↔κ∈l.map ARow.key:=fun l=>by rw [List.mem_map]
     rw [a1,a1,hmap]
    rw [m1,q3]
    constructor
    ·rintro (⟨q,hq,e⟩ | e)
     ·exact ⟨q,List.mem_append_left _ hq,e⟩
     ·exact ⟨p,List.mem_append_right _ (List.mem_singleton_self _),e⟩
    ·rintro ⟨q,hq,e⟩
     rcases List.mem_append.1 hq with hq | hq
     ·exact .inl ⟨q,hq,e⟩
     ·rw [List.mem_singleton.1 hq] at e;exact .inr e
  ·cases he
 ·cases he
theorem Rws.all:∀ {ps qs:List Part} {l l':List ARow},Rws ps l→(∀ q∈qs,fD q.net∧fD q.tax)→gM qs l=some l'→Rws (ps++qs) l'
 | ps,[],l,l',h,_,he=>by
  have he:=Option.some.inj he
  subst he
  rw [List.append_nil];exact h
 | ps,q::qs,l,l',h,hi,he=>by
  unfold gM at he
  cases e:jT l q with
  | none=>rw [e] at he;cases he
  | some l1=>
   rw [e] at he
   have hq:=hi q (List.mem_cons_self ..)
   have:=(h.enter hq.1 hq.2 e).all (fun x hx=>hi x (List.mem_cons_of_mem _ hx)) he
   rw [List.append_assoc] at this
   exact this
theorem xM {ps:List Part} {l:List ARow} (hi:∀ q∈ps,fD q.net∧fD q.tax) (h:gM ps []=some l):Rws ps l:=by
 have:=Rws.nil.all hi h
 rwa [List.nil_append] at this
end Go.Proofs.YtoaibmbldmckaaaGreat
end
section
namespace Go.AM
theorem bFk {P:Program} {T:TypeId} {n b:Nat} (hT:apT P T=some (n,b)) (hn:1<n) {S0 S:St} {v:V} {es:List (List V)} (h:Own S0 S n v es) (x:Ext S0 S) (w:WF S0) {c:List V} (hc:c.length=n∧aN c=true) (h1:(es.length+1)*b≤35184372088832) (h2:es.length+1<fE) {i:Nat} (hi:i≤es.length):
  ∃ v' S',fY P T v (.int .i64 (i:Int)) (.sl S.next 0 n 0 1) ⟨S.next+1,S.heap.put S.next (.row 0 n [c])⟩=.ok (v',S')∧Ext S0 S'∧Own S0 S' n v' (es.take i++c::es.drop i)∧∀ y,y<S.next→blkOf v≠some y→S'.heap.get y=S.heap.get y:=by
 have x1:Ext S ⟨S.next+1,S.heap.put S.next (.row 0 n [c])⟩:=Ext.new (x.wf w) _
 obtain ⟨v',S',q1,q2,q3,q4⟩:=(h.ext x1).insertK hT hn (x.trans x1) w (bx:=S.next) (c:=c) (aR _ _ _ _ _ _) (fun a ver m hv=>by
  rcases h.is with ⟨rfl,_⟩ | ⟨a',ver',tl,rfl,_,hlt,_⟩
  ·cases hv
  ·cases hv;omega) hc h1 h2 hi
 refine ⟨v',S',q1,q2,q3,fun y hy hya=>?_⟩
 rw [q4 y (by show y<S.next+1;omega) (fun a ver m hv e=>hya (by rw [hv,e];rfl))]
 exact Tr.get_put_neB _ _ _ _ trivial (by omega)
end Go.AM
namespace Go.Proofs.YtoaibmbldmckaaaGreat
open Go.AM Tryz
set_option linter.unusedVariables false
set_option linter.unusedSimpArgs false
set_option maxRecDepth 100000
def ARow.enc (r:ARow):List V:=[.str r.cat,.int .i64 r.bp,.int .i64 r.net,.int .i64 r.tax]
theorem aXe (x:ARow):x.enc.length=4∧aN x.enc=true:=⟨rfl,rfl⟩
theorem bOx (r:ARow) (p:Part) (S:St) (K:KW):C 201 [.agg [.str r.cat,.int .i64 r.bp,.int .i64 r.net,.int .i64 r.tax],.agg [.str p.cat,.int .i64 p.bp,.int .i64 p.net,.int .i64 p.tax]] S K=K (.bool (fX r p)) S:=by
 refine (bLm rfl ?_).eq S K
 simp only [aTh,kk,iL,fX,oo]
 grind
end Go.Proofs.YtoaibmbldmckaaaGreat
end
section
namespace Go.Proofs.YtoaibmbldmckaaaGreat
open Go.AM Tryz
theorem bOy:apT prog 68=some (4,40):=by kernel_rfl
theorem bFl:tX 202=some (.spec ((Sp.ins 68).run prog)):=by kernel_rfl
theorem xN (l:List ARow) (p:Part):cB l p≤l.length:=vG _ _
theorem aNf (l:List ARow) (p:Part):∃ r,(fR l p)[cB l p]?=some r:=by
 unfold fR
 split
 ·exact ⟨_,wY _ _ _ (xN l p)⟩
 ·rename_i h
  unfold pM at h
  split at h
  ·exact absurd rfl h
  ·rename_i b hb;exact ⟨b,hb⟩
theorem bOz {S0 S:St} {v:V} {l:List ARow} (own:Own S0 S 4 v (l.map ARow.enc)) (x:Ext S0 S) (w:WF S0) (hl:l.length≤1000000) (p:Part) {K:KW}
  (H1:∀ l',jT l p=some l'→∀ v' S',Ext S0 S'→Own S0 S' 4 v' (l'.map ARow.enc)→K (.tup [v',.int .i64 0]) S') (H2:jT l p=none→∀ S',Ext S0 S'→K (.tup [.nils,.int .i64 7]) S'):C 125 [v,.agg [.str p.cat,.int .i64 p.bp,.int .i64 p.net,.int .i64 p.tax]] S K:=by
 refine bJz ?_
 have hx:=x.next
 obtain ⟨S1,hS1⟩:∃ S1:St,S1=⟨S.next+1,S.heap.put S.next (.row 0 4 [p.enc])⟩:=⟨_,rfl⟩
 have x1:Ext S S1:=by rw [hS1];exact Ext.new (x.wf w) _
 have n1:S1.next=S.next+1:=by rw [hS1]
 have r1:aI S1 S.next 0=.ok (4,[p.enc]):=by rw [hS1];exact aR _ _ _ _ _ _
 simp only [Part.enc] at hS1 r1
 have hple:=xN l p
 have hlen:lenW v=.ok (.int .i64 (l.length:Int)):=own.sl.lenI
 have bv:∀ y,AM.blkOf v=some y→y<S.next:=fun y hy=>(gJ own hy).2
 simp only [aRx,kk,←hS1]
 have hj1:∀ (v':V) (X:St),Ext S0 X→Own S0 X 4 v' ((fR l p).map ARow.enc)→aI X S.next 0=.ok (4,[p.enc])→zR C K v' (.ptr S.next 0 0 0) (.int .i64 (cB l p:Int)) X:=by
  intro v' X xX o hr
  obtain ⟨r,hb⟩:=aNf l p
  have hb':((fR l p).map ARow.enc)[cB l p]?=some r.enc:=by rw [List.getElem?_map,hb];rfl
  obtain ⟨a,ver,hv,_,_,e4,_,set1⟩:=(o.bump 26).setK (xX.bump 26) w hb' .i64
  have hld:∀ m j,bB none (.ptr a ver (cB l p) j) ⟨m,X.heap⟩=gI none r.enc j:=fun m j=>by
   have:=o.ld hv hb' none j
   simpa only [ldP,gm] using this
  have l2:=fun m=>hld m 2
  have l3:=fun m=>hld m 3
  simp only [kk,ARow.enc] at l2 l3
  simp only [Part.enc] at hr
  obtain ⟨S2,st1,x2,n2,own2,keep2,w2⟩:=set1 2 1 (.int .i64 (cN r.net p.net).1) rfl rfl (by decide)
  have hb2:(((fR l p).map ARow.enc).set (cB l p) (splice r.enc 2 [.int .i64 (cN r.net p.net).1]))[cB l p]?=some ({ r with net:=(cN r.net p.net).1 }:ARow).enc:=by
   rw [List.getElem?_set_self (List.getElem?_eq_some_iff.1 hb').1];rfl
  obtain ⟨a',ver',hv',_,_,_,_,set2⟩:=own2.setK x2 w hb2 .i64
  obtain ⟨rfl,rfl⟩:a'=a∧ver'=ver:=by rw [hv] at hv';injection hv' with h1 h2;exact ⟨h1.symm,h2.symm⟩
  obtain ⟨S3,mD,x3,n3,own3,keep3,w3⟩:=set2 3 1 (.int .i64 (cN r.tax p.tax).1) rfl rfl (by decide)
  have hfin:(((fR l p).map ARow.enc).set (cB l p) (splice r.enc 2 [.int .i64 (cN r.net p.net).1])).set (cB l p) (splice ({ r with net:=(cN r.net p.net).1 }:ARow).enc 3 [.int .i64 (cN r.tax p.tax).1])=((fR l p).set (cB l p) { r with net:=(cN r.net p.net).1,tax:=(cN r.tax p.tax).1 }).map ARow.enc:=by
   rw [List.set_set,List.map_set];rfl
  simp only [V.cells] at own3
  rw [hfin] at own3
  simp only [zR,kk,e4,l2,l3,gm,hr,aP9,fZ]
  have hen:jT l p=if (cN r.net p.net).2=0 then (if (cN r.tax p.tax).2=0 then some ((fR l p).set (cB l p) { r with net:=(cN r.net p.net).1,tax:=(cN r.tax p.tax).1 }) else none) else none:=by
   simp only [jT,hb]
  by_cases c1:(cN r.net p.net).2=0
  ·by_cases c2:(cN r.tax p.tax).2=0
   ·simp only [c1,c2,if_true] at hen
    simp only [c1,c2,kk,not_true_eq_false,if_false]
    have e:(⟨X.next+13+13,X.heap⟩:St)=⟨X.next+26,X.heap⟩:=rfl
    rw [e]
    simp only [st1,mD,kk]
    exact H1 _ hen _ _ x3 own3
   ·simp only [c1,c2,if_true,if_false] at hen
    simp only [c1,c2,kk,not_true_eq_false,not_false_eq_true,if_true,if_false]
    exact H2 hen _ (xX.bump 26)
  ·simp only [c1,if_false] at hen
   simp only [c1,kk,not_false_eq_true,if_true]
   exact H2 hen _ (xX.bump 26)
 have hown:∀ {X:St},X.heap=S1.heap→S1.next≤X.next→Own S0 X 4 v (l.map ARow.enc):=fun hh hn=>(own.ext x1).same hn fun a _=>by rw [hh]
 have hext:∀ {X:St},X.heap=S1.heap→S1.next≤X.next→Ext S0 X:=fun {X} hh hn=>⟨fun a b h=>by rw [hh];exact (x.trans x1).old a b h,Nat.le_trans (x.trans x1).next hn,fun ww a b h=>by rw [hh] at h;have:=(x.trans x1).wf ww a b h;omega⟩
 have hrow:∀ {X:St},X.heap=S1.heap→aI X S.next 0=.ok (4,[p.enc]):=fun {X} hh=>bI r1 (by rw [hh])
 have hj2:∀ X:St,X.heap=S1.heap→S1.next≤X.next→rM C K v (.ptr S.next 0 0 0) (.int .i64 (cB l p:Int)) (.bool (pM l p)) X:=by
  intro X hh hn
  have hr:=hrow hh
  cases hm:pM l p
  ·simp only [rM,kk,Bool.false_eq_true,if_false]
   exact hj1 v X (hext hh hn) (by rw [show fR l p=l by simp [fR,hm]];exact hown hh hn) hr
  ·obtain ⟨v2,S2,q1,x2,own2,keep2⟩:=bFk bOy (by decide) (hown hh hn) (hext hh hn) w (aXe ⟨p.cat,p.bp,0,0⟩) (by simp;omega) (by simp [fE];omega) (i:=cB l p) (by simpa using hple)
   rw [←lM] at own2
   have hr2:=bI hr (keep2 S.next (by omega) (fun e=>by have:=bv _ e;omega))
   simp only [ARow.enc] at q1
   simp only [Part.enc] at hr
   simp only [rM,kk,if_true,hr,aPc]
   rw [aMx bFl q1]
   refine hj1 v2 S2 x2 (by rw [show fR l p=eY l (cB l p) ⟨p.cat,p.bp,0,0⟩ by simp [fR,hm]];exact own2) hr2
 have hj0:∀ X:St,X.heap=S1.heap→S1.next≤X.next→zS C K v (.ptr S.next 0 0 0) (.int .i64 (cB l p:Int)) X:=by
  intro X hh hn
  have h2:=hj2 ⟨X.next+24,X.heap⟩ hh (by show S1.next≤X.next+24;omega)
  have hr:=hrow (X:=⟨X.next+24,X.heap⟩) hh
  simp only [Part.enc] at hr
  simp only [zS,kk,hlen]
  by_cases hk:cB l p=l.length
  ·have hm:pM l p=true:=by unfold pM;rw [hk,List.getElem?_eq_none (Nat.le_refl _)]
   rw [hm,hk] at h2
   simp only [hk,kk,if_true]
   exact h2
  ·have hlt:cB l p<l.length:=by omega
   have hb:l[cB l p]?=some l[cB l p]:=List.getElem?_eq_getElem hlt
   have hm:pM l p=if (l[cB l p]).cat=p.cat then !decide ((l[cB l p]).bp=p.bp) else true:=by unfold pM;rw [hb]
   rw [hm] at h2
   have hb':(l.map ARow.enc)[cB l p]?=some l[cB l p].enc:=by rw [List.getElem?_map,hb];rfl
   have o:=hown (X:=⟨X.next+24,X.heap⟩) hh (by show S1.next≤X.next+24;omega)
   obtain ⟨a,ver,hv,_,_,e4,_,_⟩:=o.setK (hext (X:=⟨X.next+24,X.heap⟩) hh (by show S1.next≤X.next+24;omega)) w hb' .i64
   have l0:=o.ld hv hb' none 0
   have l1:=o.ld hv hb' none 1
   simp only [kk,ARow.enc] at l0 l1
   simp only [show ¬ ((cB l p:Nat):Int)=(l.length:Int) by omega,kk,if_false,e4,l0,l1,hr]
   by_cases c1:(l[cB l p]).cat=p.cat
   ·simp only [c1,if_true] at h2
    simp only [c1,BEq.rfl,kk,if_false]
    exact h2
   ·have c1':(!(l[cB l p].cat == p.cat))=true:=by simpa using c1
    simp only [c1,if_false] at h2
    simp only [c1',kk,if_true]
    exact h2
 refine aY l (step:=eK (fun r:ARow=>fX r p)) (fin:=id) (fun k n vs X=>n=k∧vs=[.int .i64 (k:Int)]∧X.heap=S1.heap∧S1.next≤X.next) (fun r=>r=cB l p) ?_ ?_ ⟨rfl,rfl,rfl,Nat.le_refl _⟩ rfl
 ·rintro k r m vs X hk ⟨rfl,rfl,hh,hn⟩ again' H'
  have hkl:=(List.getElem?_eq_some_iff.1 hk).1
  have hb':(l.map ARow.enc)[m]?=some r.enc:=by rw [List.getElem?_map,hk];rfl
  have o:=hown (X:=⟨X.next+12,X.heap⟩) hh (by show S1.next≤X.next+12;omega)
  obtain ⟨a,ver,hv,_,_,e4,_,_⟩:=o.setK (hext (X:=⟨X.next+12,X.heap⟩) hh (by show S1.next≤X.next+12;omega)) w hb' .i64
  have l0:=o.ld hv hb' (some 4) 0
  have hr:=hrow (X:=⟨X.next+12,X.heap⟩) hh
  simp only [kk,ARow.enc] at l0
  simp only [Part.enc] at hr
  simp only [eK] at H'
  simp only [aEp,kk,hlen,dF hk,if_true,e4,l0,hr,bOx,nH (show m<1000000000 by omega)]
  cases c:fX r p<;>simp only [c,kk,if_true,if_false,Bool.false_eq_true] at H' ⊢
  ·have:=hj0 ⟨X.next+12,X.heap⟩ hh (by show S1.next≤X.next+12;omega)
   rw [←H'] at this
   exact this
  ·exact H' _ _ ⟨rfl,hh,by show S1.next≤X.next+12;omega⟩
 ·rintro m vs X ⟨rfl,rfl,hh,hn⟩ again' H'
  have H':l.length=cB l p:=H'
  simp only [aEp,kk,hlen,Int.lt_irrefl,if_false]
  have:=hj0 ⟨X.next+12,X.heap⟩ hh (by show S1.next≤X.next+12;omega)
  rw [←H'] at this
  exact this
def xO (a b:Date) (x:Posted):Bool:=!(x.day.before a)&&!(b.before x.day)
def dT (l:List Posted) (a b:Date):List Part:=(l.filter (xO a b)).flatMap (·.total.parts)
def cZ (s:State) (a b:Date):List ARow×Int:=if cE s=false then ([],1) else if a.right=false then ([],9) else if b.right=false then ([],9) else match gM (dT s.posted a b) [] with
 | some l=>(l,0)
 | none=>([],7)
def aG6:Date:=⟨1,1,1⟩
def aG7:Date:=⟨9999,12,31⟩
theorem rU {s:State} {a b:Date} {l:List ARow} (h:cZ s a b=(l,0)):cE s=true∧a.right=true∧b.right=true∧gM (dT s.posted a b) []=some l:=by
 unfold cZ at h
 split at h
 ·cases h
 ·split at h
  ·cases h
  ·split at h
   ·cases h
   ·rename_i h1 h2 h3
    cases e:gM (dT s.posted a b) [] with
    | some l'=>rw [e] at h;cases h;exact ⟨by simpa using h1,by simpa using h2,by simpa using h3,rfl⟩
    | none=>rw [e] at h;cases h
theorem aK5 {s:State} {a b:Date} (h:(cZ s a b).2≠0):(cZ s a b).1=[]:=by
 unfold cZ at h ⊢
 split
 ·rfl
 ·rename_i h1
  rw [if_neg h1] at h
  split
  ·rfl
  ·rename_i h2
   rw [if_neg h2] at h
   split
   ·rfl
   ·rename_i h3
    rw [if_neg h3] at h
    cases e:gM (dT s.posted a b) [] with
    | some l=>rw [e] at h;exact absurd rfl h
    | none=>rfl
theorem xP {l:List Posted} {a b:Date} {q:Part}:q∈dT l a b↔∃ p∈l,xO a b p=true∧q∈p.total.parts:=by
 unfold dT
 simp only [List.mem_flatMap,List.mem_filter]
 constructor
 ·rintro ⟨p,⟨h1,h2⟩,h3⟩;exact ⟨p,h1,h2,h3⟩
 ·rintro ⟨p,h1,h2,h3⟩;exact ⟨p,⟨h1,h2⟩,h3⟩
theorem tS {s:State} (h:vX s) (a b:Date):∀ q∈dT s.posted a b,fD q.net∧fD q.tax:=fun q hq=>by
 obtain ⟨p,hp,_,hq⟩:=xP.1 hq
 exact h p hp q hq
theorem aDr {α:Type} [BEq α] [LawfulBEq α]:∀ {l m:List α},l.Nodup→(∀ x∈l,x∈m)→l.length≤m.length
 | [],m,_,_=>Nat.zero_le _
 | x::l,m,h,hm=>by
  have hx:=hm x (List.mem_cons_self ..)
  have hn:=List.nodup_cons.1 h
  have:=aDr (l:=l) (m:=m.erase x) hn.2 fun y hy=>(List.mem_erase_of_ne (fun e=>hn.1 (by rw [←e];exact hy))).2 (hm y (List.mem_cons_of_mem _ hy))
  rw [List.length_erase_of_mem hx] at this
  have hp:0<m.length:=List.length_pos_of_mem hx
  rw [List.length_cons];omega
theorem Rws.nodup {ps:List Part} {l:List ARow} (h:Rws ps l):(l.map ARow.key).Nodup:=by
 have:=List.pairwise_map.2 h.srt
 exact this.imp fun h=>aBv h
theorem Rws.keys {ps:List Part} {l:List ARow} (h:Rws ps l) (κ:Key):κ∈l.map ARow.key↔∃ p∈ps,pk p=κ:=by
 rw [List.mem_map];exact h.mem κ
theorem aWw {ps qs:List Part} {l m:List ARow} (h:Rws ps l) (k:Rws qs m) (hs:∀ q∈ps,q∈qs):l.length≤m.length:=by
 have:=aDr h.nodup (m:=m.map ARow.key) fun κ hκ=>by
  obtain ⟨p,hp,e⟩:=(h.keys κ).1 hκ
  exact (k.keys κ).2 ⟨p,hs p hp,e⟩
 simpa using this
theorem aQg (x:Posted):xO aG6 aG7 x=true:=by
 have n1:x.day.before aG6=false:=by
  cases e:x.day.before aG6 with
  | false=>rfl
  | true=>
   unfold Date.before at e
   simp only [Bool.and_eq_true,decide_eq_true_eq] at e
   obtain ⟨r,r',hlt⟩:=e
   obtain ⟨a1,a2,a3,a4,a5,a6⟩:=(oG _).1 r
   by_cases c:x.day=aG6
   ·rw [c] at hlt;omega
   ·have:aG6.days<x.day.days:=aA5 r' r (by
     have:¬ (x.day.y=1∧x.day.m=1∧x.day.d=1):=fun ⟨e1,e2,e3⟩=>c (by
      cases hx:x.day with | mk y m d=>rw [hx] at e1 e2 e3;simp only at e1 e2 e3;rw [e1,e2,e3];rfl)
     show (1:Int)<x.day.y∨(1:Int)=x.day.y∧((1:Int)<x.day.m∨(1:Int)=x.day.m∧(1:Int)<x.day.d)
     omega)
    omega
 have n2:aG7.before x.day=false:=by
  cases e:aG7.before x.day with
  | false=>rfl
  | true=>
   unfold Date.before at e
   simp only [Bool.and_eq_true,decide_eq_true_eq] at e
   obtain ⟨r',r,hlt⟩:=e
   obtain ⟨a1,a2,a3,a4,a5,a6⟩:=(oG _).1 r
   have hml:=(gL x.day.y x.day.m).2
   by_cases c:x.day=aG7
   ·rw [c] at hlt;omega
   ·have:x.day.days<aG7.days:=aA5 r r' (by
     have:¬ (x.day.y=9999∧x.day.m=12∧x.day.d=31):=fun ⟨e1,e2,e3⟩=>c (by
      cases hx:x.day with | mk y m d=>rw [hx] at e1 e2 e3;simp only at e1 e2 e3;rw [e1,e2,e3];rfl)
     show x.day.y<(9999:Int)∨x.day.y=9999∧(x.day.m<12∨x.day.m=12∧x.day.d<31)
     omega)
    omega
 unfold xO
 rw [n1,n2];rfl
theorem aNg {s:State} (hi:vX s) {a b:Date} {l m:List ARow} (h:cZ s a b=(l,0)) (k:cZ s aG6 aG7=(m,0)):l.length≤m.length:=by
 obtain ⟨_,_,_,h4⟩:=rU h
 obtain ⟨_,_,_,k4⟩:=rU k
 refine aWw (xM (tS hi a b) h4) (xM (tS hi aG6 aG7) k4) fun q hq=>?_
 obtain ⟨p,hp,_,hq⟩:=xP.1 hq
 exact xP.2 ⟨p,hp,aQg p,hq⟩
theorem aNh {s:State} (hi:vX s) {a b:Date} {l:List ARow} (h:cZ s a b=(l,0)):l.Pairwise fun x y=>kLt x.key y.key:=by
 obtain ⟨_,_,_,h4⟩:=rU h
 exact (xM (tS hi a b) h4).srt
theorem aNi (x:Posted) (l:List Posted) (a b:Date):dT (x::l) a b=(if xO a b x=true then x.total.parts else [])++dT l a b:=by
 unfold dT
 rw [List.filter_cons]
 split
 ·rw [List.flatMap_cons]
 ·rfl
theorem aBw {l l':List ARow} {p:Part} (h:jT l p=some l'):l'.length≤l.length+1:=by
 have hr:(fR l p).length≤l.length+1:=by
  unfold fR
  split
  ·rw [wZ _ _ _ (xN l p)];exact Nat.le_refl _
  ·omega
 unfold jT at h
 repeat' split at h
 all_goals first | cases h | skip
 rw [List.length_set];exact hr
def aA6 (l:List ARow) (p:Part):Option (List ARow)⊕List ARow:=match jT l p with
 | some l'=>.inr l'
 | none=>.inl none
theorem aDs:∀ (ps:List Part) (l:List ARow),aS aA6 some ps l=gM ps l
 | [],l=>rfl
 | p::ps,l=>by
  simp only [aS,aA6,gM]
  cases jT l p with
  | none=>rfl
  | some l'=>exact aDs ps l'
theorem aBx:∀ (ps qs:List Part) (l:List ARow),gM (ps++qs) l=match gM ps l with
  | some l'=>gM qs l'
  | none=>none
 | [],qs,l=>rfl
 | p::ps,qs,l=>by
  simp only [List.cons_append,gM]
  cases jT l p with
  | none=>rfl
  | some l'=>exact aBx ps qs l'
def vY (a b:Date) (l:List ARow) (x:Posted):(List ARow×Int)⊕List ARow:=
 if x.day.before a=true then .inr l else if b.before x.day=true then .inr l else match gM x.total.parts l with
  | some l'=>.inr l'
  | none=>.inl ([],7)
theorem mV (a b:Date):∀ (ps:List Posted) (l:List ARow),aS (vY a b) (fun l=>(l,0)) ps l=match gM (dT ps a b) l with
  | some l'=>(l',0)
  | none=>([],7)
 | [],l=>rfl
 | x::ps,l=>by
  simp only [aS,vY,dT,List.filter_cons,xO]
  by_cases c1:x.day.before a=true
  ·simp only [c1,if_true,Bool.not_true,Bool.false_and,Bool.false_eq_true,if_false]
   exact mV a b ps l
  ·by_cases c2:b.before x.day=true
   ·simp only [c1,c2,if_true,if_false,Bool.not_true,Bool.and_false,Bool.false_eq_true]
    exact mV a b ps l
   ·have c1':x.day.before a=false:=by simpa using c1
    have c2':b.before x.day=false:=by simpa using c2
    simp only [c1',c2',if_false,Bool.false_eq_true,Bool.not_false,Bool.and_self,if_true,List.flatMap_cons]
    rw [aBx]
    cases e:gM x.total.parts l with
    | none=>rfl
    | some l'=>exact mV a b ps l'
theorem g40 (s:State) (a b:Date) (S:St) (K:KW):C 40 [.agg [.imm (s.table.map Rate.enc),.imm (s.ser.map Ser.enc),.imm (s.posted.map Posted.enc),.imm (s.book.map Bal.enc),.imm (s.sess.map Sess.enc),.int .i64 s.next],.agg [.int .i64 a.y,.int .i64 a.m,.int .i64 a.d],.agg [.int .i64 b.y,.int .i64 b.m,.int .i64 b.d]] S K=
  K (.tup [.imm ((cZ s a b).1.map ARow.enc),.int .i64 (cZ s a b).2]) S:=by
 refine (v40 rfl ?_).eq S K
 simp only [m40,kk,iL,g24 s,zH]
 cases c1:cE s
 ·simp only [c1,kk,oo,if_true,List.map_nil,cZ]
 cases c2:a.right
 ·simp only [c1,c2,kk,iL,zH,oo,if_true,Bool.true_eq_false,if_false,List.map_nil,cZ]
 cases c3:b.right
 ·simp only [c1,c2,c3,kk,iL,zH,oo,if_true,Bool.true_eq_false,if_false,List.map_nil,cZ]
 simp only [c1,c2,c3,kk,iL,zH,Bool.true_eq_false,if_false]
 obtain ⟨h40,hok⟩:=lW (nF c1)
 have hrun:aS (vY a b) (fun l=>(l,0)) s.posted []=cZ s a b:=by
  rw [mV]
  unfold cZ
  rw [c1,c2,c3]
  simp only [Bool.true_eq_false,if_false]
  all_goals (cases gM (dT s.posted a b) []<;>rfl)
 obtain ⟨S0,hS0⟩:∃ S0:St,S0=⟨2+1,((Tr.nil.put 0 (.row 0 6 [s.enc])).put 1 (.row 0 3 [a.enc])).put 2 (.row 0 3 [b.enc])⟩:=⟨_,rfl⟩
 have w0:WF S0:=by rw [hS0];exact kS (n:=2) (kS (n:=1) (kS pK (by decide) (by decide)) (by decide) (by decide)) (by decide) (by decide)
 have n0:S0.next=3:=by rw [hS0]
 have ra:aI S0 1 0=.ok (3,[a.enc]):=by rw [hS0];rfl
 have rb:aI S0 2 0=.ok (3,[b.enc]):=by rw [hS0];rfl
 simp only [State.enc,Date.enc] at hS0 ra rb
 refine aY s.posted (step:=vY a b) (fin:=fun l=>(l,0)) (fun i l vs S'=>∃ v,vs=[.nils,.int .i64 0,v,.int .i64 (i:Int)]∧Own S0 S' 4 v (l.map ARow.enc)∧Ext S0 S'∧l.length≤12*i) (fun r=>r=cZ s a b) ?_ ?_ (s:=[]) ⟨_,rfl,Own.nil _ _ _,by rw [hS0];exact Ext.refl _,Nat.zero_le _⟩ hrun
 ·rintro i x l vs S' hi ⟨v,rfl,own,ex,hll⟩ aO H
  have hil:=(List.getElem?_eq_some_iff.1 hi).1
  have hxp:=iI (hok x (List.mem_of_getElem? hi)).2
  have hn:=ex.next
  obtain ⟨S1,hS1⟩:∃ S1:St,S1=⟨S'.next+1,(S'.heap.put S'.next (.row 0 12 [aCa])).put S'.next (.row 0 12 [x.enc])⟩:=⟨_,rfl⟩
  have x1:Ext S' S1:=by rw [hS1];exact Ext.var (ex.wf w0) 12 _ _
  have r1:aI S1 S'.next 0=.ok (12,[x.enc]):=by rw [hS1];exact aR _ _ _ _ _ _
  have ra1:=(ex.trans x1).row ra
  have rb1:=(ex.trans x1).row rb
  simp only [aCa,Posted.enc] at hS1
  simp only [Posted.enc] at r1
  simp only [vY] at H
  simp only [aJ8,kk,dF hi,if_true,qS hi,Posted.enc,←hS1,r1,ra1,rb1,aP8,nH (show i<1000000000 by omega)]
  cases d1:x.day.before a
  rotate_left
  ·simp only [d1,kk,if_true] at H ⊢
   exact H _ _ ⟨v,rfl,own.ext x1,ex.trans x1,by omega⟩
  cases d2:b.before x.day
  rotate_left
  ·simp only [d1,d2,kk,Bool.false_eq_true,if_true,if_false] at H ⊢
   exact H _ _ ⟨v,rfl,own.ext x1,ex.trans x1,by omega⟩
  simp only [d1,d2,kk,Bool.false_eq_true,if_false] at H ⊢
  refine aY x.total.parts (step:=aA6) (fin:=some) (fun j l' vs S2=>∃ v',vs=[.nils,.int .i64 0,v',.int .i64 (j:Int)]∧Own S0 S2 4 v' (l'.map ARow.enc)∧Ext S0 S2∧l'.length≤12*i+j) (fun r=>r=gM x.total.parts l) ?_ ?_ (s:=l) ⟨v,rfl,own.ext x1,ex.trans x1,hll⟩ (aDs _ _)
  ·rintro j p l' vs S2 hj ⟨v',rfl,o2,e2,hl2⟩ again2 H2
   have hjl:=(List.getElem?_eq_some_iff.1 hj).1
   have x2:Ext S2 ⟨S2.next+1,(S2.heap.put S2.next (.row 0 4 [[.str [],.int .i64 0,.int .i64 0,.int .i64 0]])).put S2.next (.row 0 4 [p.enc])⟩:=Ext.var (e2.wf w0) 4 _ _
   simp only [Part.enc] at x2
   simp only [aA6] at H2
   simp only [aJ7,kk,dF hj,if_true,tL hj,Part.enc]
   refine bOz (o2.ext x2) (e2.trans x2) w0 (by omega) p (fun l3 hl3 v3 S3 e3 o3=>?_) (fun hno S3 e3=>?_)
   ·rw [hl3] at H2
    have:=aBw hl3
    simp only [kk,nH (show j<1000000000 by omega),not_true_eq_false,if_false]
    exact H2 _ _ ⟨v3,rfl,o3,e3,by omega⟩
   ·rw [hno] at H2
    have H2:none=gM x.total.parts l:=H2
    rw [←H2] at H
    have H:(([],7):List ARow×Int)=cZ s a b:=H
    simp only [kk,show ¬ (7:Int)=0 by decide,not_false_eq_true,if_true,oo,←H,List.map_nil]
  ·rintro l' vs S2 ⟨v',rfl,o2,e2,hl2⟩ again2 H2
   have H2:some l'=gM x.total.parts l:=H2
   rw [←H2] at H
   simp only [aJ7,kk,Int.lt_irrefl,if_false,nH (show i<1000000000 by omega)]
   exact H _ _ ⟨v',rfl,o2,e2,by omega⟩
 ·rintro l vs S' ⟨v,rfl,own,ex,hll⟩ aO H
  have H:(l,(0:Int))=cZ s a b:=H
  simp only [aJ8,kk,Int.lt_irrefl,if_false,oo,own.out fun _=>rfl,←H]
theorem aG8 {l:List ARow} {i:Nat} {a:ARow} (hi:l[i]?=some a) (k:IntKind):cP 4 (.imm (l.map ARow.enc)) (.int k (i:Int))=.ok (.iptr a.enc 0):=ixI (enc:=ARow.enc) hi rfl k
theorem aNj (l:List Call) (n:Nat):∀ c∈qO l n,c.cmd.lines.length<1000000:=fun c hc=>by
 obtain ⟨d,_,rfl⟩:=List.mem_map.1 hc
 show (d.cmd.lines.take 15).length<1000000
 rw [List.length_take];omega
theorem a35 (l:List Call) (n:Nat) (hn:n≤1000) (S:St) (K:KW):C 35 [.agg [.imm [],.imm [],.imm [],.imm [],.imm [],.int .i64 1],.imm ((qO l n).map Call.enc)] S K=
  K (.tup [.agg [.imm ((playM State.new (qO l n)).1.table.map Rate.enc),.imm ((playM State.new (qO l n)).1.ser.map Ser.enc),.imm ((playM State.new (qO l n)).1.posted.map Posted.enc),.imm ((playM State.new (qO l n)).1.book.map Bal.enc),.imm ((playM State.new (qO l n)).1.sess.map Sess.enc),.int .i64 (playM State.new (qO l n)).1.next],.imm ((playM State.new (qO l n)).2.map Rep.enc)]) S:=
 g35 State.new (qO l n) Sml.new (by have:=aP6 l n;omega) (aNj l n) S K
def tU:List (List UInt8×Int)→List UInt8→List (List UInt8×Int)
 | [],s=>[(s,1)]
 | (t,n)::l,s=>if t=s then (t,n+1)::l else (t,n)::tU l s
def iZ:List (List UInt8×Int)→List UInt8→Int
 | [],_=>0
 | (t,n)::l,s=>if t=s then n else iZ l s
def oI:List (List UInt8×Int)→List UInt8→Option Nat
 | [],_=>none
 | (t,_)::l,s=>if t=s then some 0 else (oI l s).map (·+1)
def pF (l:List (List UInt8×Int)):List (V×V):=l.map fun x=>(.str x.1,.int .i64 x.2)
theorem tV:∀ (l:List (List UInt8×Int)) (s t:List UInt8),iZ (tU l s) t=iZ l t+if s=t then 1 else 0
 | [],s,t=>by simp only [tU,iZ];split<;>simp
 | (u,n)::l,s,t=>by
  simp only [tU]
  by_cases c:u=s
  ·rw [if_pos c]
   simp only [iZ]
   subst c
   split<;>simp
  ·rw [if_neg c]
   simp only [iZ,tV l s t]
   by_cases c2:u=t
   ·subst c2
    rw [if_pos rfl,if_pos rfl,if_neg fun e=>c e.symm,Int.add_zero]
   ·rw [if_neg c2,if_neg c2]
theorem aQh (s:List UInt8):∀ (l:List (List UInt8×Int)) (i:Nat),xQ s (pF l) i=some ((oI l s).map fun j=>(i+j,V.int .i64 (iZ l s)))
 | [],i=>rfl
 | (t,n)::l,i=>by
  simp only [pF,List.map_cons,xQ,oI,iZ]
  rw [dE,cond_eq_ite]
  by_cases c:t=s
  ·subst c
   simp
  ·have h2:¬ (s == t)=true:=by simpa using fun e=>c e.symm
   rw [if_neg h2,if_neg c,if_neg c]
   have:=aQh s l (i+1)
   simp only [pF] at this
   rw [this]
   cases oI l s with
   | none=>rfl
   | some j=>simp only [Option.map_some];congr 3;omega
theorem vZ:∀ {l:List (List UInt8×Int)} {s:List UInt8},oI l s=none→iZ l s=0∧pF l++[(.str s,.int .i64 1)]=pF (tU l s)
 | [],s,_=>⟨rfl,rfl⟩
 | (t,n)::l,s,h=>by
  simp only [oI] at h
  split at h
  ·cases h
  ·rename_i c
   have h':oI l s=none:=by cases e:oI l s with
    | none=>rfl
    | some j=>rw [e] at h;cases h
   obtain ⟨h1,h2⟩:=vZ h'
   simp only [iZ,tU,if_neg c]
   exact ⟨h1,by simp only [pF,List.map_cons,List.cons_append] at h2 ⊢;rw [h2]⟩
theorem aI3:∀ {l:List (List UInt8×Int)} {s:List UInt8} {j:Nat},oI l s=some j→(pF l).set j (.str s,.int .i64 (iZ l s+1))=pF (tU l s)
 | (t,n)::l,s,j,h=>by
  simp only [oI] at h
  split at h
  ·rename_i c
   cases h
   subst c
   simp only [iZ,tU,if_true,pF,List.map_cons,List.set_cons_zero]
  ·rename_i c
   cases e:oI l s with
   | none=>rw [e] at h;cases h
   | some k=>
    rw [e] at h
    cases h
    have:=aI3 e
    simp only [iZ,tU,if_neg c,pF,List.map_cons,List.set_cons_succ] at this ⊢
    rw [this]
theorem aLi:aNm prog 199=some 3:=by kernel_rfl
theorem bFm:eM prog 3=some (.int .i64 0):=by kernel_rfl
theorem aLj {S:St} {a:Nat} {l:List (List UInt8×Int)} (h:S.heap.get a=some (.mp (pF l))) (s:List UInt8):kY prog 199 (.mp a) (.str s) false S=.ok (.int .i64 (iZ l s)):=by
 simp only [kY,aLi,wG,h,aQh]
 cases e:oI l s with
 | none=>simp only [Option.map_none,bFm,okV,(vZ e).1];rfl
 | some j=>simp only [Option.map_some,okV];rfl
theorem bAp {S:St} {a:Nat} {l:List (List UInt8×Int)} (h:S.heap.get a=some (.mp (pF l))) (s:List UInt8):eO prog 199 (.mp a) (.str s) (.int .i64 (iZ l s+1)) S=.ok ⟨S.next,S.heap.put a (.mp (pF (tU l s)))⟩:=by
 simp only [eO,aLi,h,aQh]
 cases e:oI l s with
 | none=>simp only [Option.map_none,←(vZ e).2,(vZ e).1];rfl
 | some j=>simp only [Option.map_some,Nat.zero_add,aI3 e]
theorem g42 (l:List Posted) (hl:l.length<1000000) (S:St) (K:KW):C 42 [.imm (l.map Posted.enc)] S K=K (.int .i64 (aBu l)) S:=by
 refine (v42 rfl ?_).eq S K
 simp only [m42,kk]
 refine aY l (step:=bAn) (fin:=fun _=>-1) (fun i done vs S=>∃ kv,vs=[.int .i64 0,.int .i64 (i:Int)]∧S.heap.get 0=some (.mp (pF kv))∧0<S.next∧(∀ s,iZ kv s=xH done s)∧done.length=i) (fun r=>r=aBu l) ?_ ?_ (s:=[]) ⟨[],rfl,rfl,by decide,fun _=>rfl,rfl⟩ rfl
 ·rintro i p done vs S hi ⟨kv,rfl,hm,h0,hc,hdl⟩ aO H
  have hil:=(List.getElem?_eq_some_iff.1 hi).1
  have hb:=aWu done p.ref.ser
  have hb0:=aBp done p.ref.ser
  have hm1:∀ (m:Nat) (b c:Blk),(⟨m,(S.heap.put S.next b).put S.next c⟩:St).heap.get 0=some (.mp (pF kv)):=fun m b c=>by
   show ((S.heap.put S.next b).put S.next c).get 0=_
   rw [Tr.get_put_neB _ _ _ _ trivial (by omega),Tr.get_put_neB _ _ _ _ trivial (by omega)];exact hm
  have hw:wr .i64 (iZ kv p.ref.ser+1)=iZ kv p.ref.ser+1:=by rw [hc];exact qH (by omega) (by omega)
  simp only [aJ9,kk,dF hi,if_true,qS hi,Posted.enc]
  obtain ⟨S1,hS1⟩:∃ S1:St,S1=⟨S.next+1,(S.heap.put S.next (.row 0 12 [aCa])).put S.next (.row 0 12 [p.enc])⟩:=⟨_,rfl⟩
  have m1:S1.heap.get 0=some (.mp (pF kv)):=by rw [hS1];exact hm1 _ _ _
  have r1:aI S1 S.next 0=.ok (12,[p.enc]):=by rw [hS1];exact aR _ _ _ _ _ _
  have m2:(⟨S1.next,S1.heap.put 0 (.mp (pF (tU kv p.ref.ser)))⟩:St).heap.get 0=some (.mp (pF (tU kv p.ref.ser))):=Tr.get_put_sameB _ _ _ trivial
  have r2:aI ⟨S1.next,S1.heap.put 0 (.mp (pF (tU kv p.ref.ser)))⟩ S.next 0=.ok (12,[p.enc]):=bI r1 (Tr.get_put_neB _ _ _ _ trivial (by omega))
  have l2:iZ (tU kv p.ref.ser) p.ref.ser=xH done p.ref.ser+1:=by rw [tV,if_pos rfl,hc]
  simp only [aCa,Posted.enc] at hS1
  simp only [Posted.enc] at r1 r2
  simp only [←hS1,r1,kk,aLj m1,hw,bAp m1,r2,aLj m2,l2,nH (show i<1000000000 by omega)]
  simp only [bAn] at H
  by_cases c:p.ref.num=xH done p.ref.ser+1
  ·simp only [c,if_true] at H
   simp only [c,kk,not_true_eq_false,if_false]
   refine H _ _ ⟨tU kv p.ref.ser,rfl,m2,by rw [hS1];show 0<S.next+1;omega,fun s=>?_,by simp [hdl]⟩
   rw [tV,lZ,vU,hc]
  ·simp only [c,if_false] at H
   simp only [c,kk,not_false_eq_true,if_true,oo,←H,hdl]
 ·rintro done vs S ⟨kv,rfl,hm,h0,hc,hdl⟩ aO H
  have H:(-1:Int)=aBu l:=H
  simp only [aJ9,kk,Int.lt_irrefl,if_false,oo,←H]
theorem ARow.ext_iff (a b:ARow):(a=b)=(((a.cat=b.cat∧a.bp=b.bp)∧a.net=b.net)∧a.tax=b.tax):=by
 obtain ⟨_,_,_,_⟩:=a;obtain ⟨_,_,_,_⟩:=b;simp [and_assoc]
theorem bP0 (l r:List ARow) (hb:l.length<1000000) (S:St) (K:KW):C 130 [.imm (l.map ARow.enc),.imm (r.map ARow.enc)] S K=K (.bool (decide (l=r))) S:=by
 refine (bK5 rfl ?_).eq S K
 simp only [aS3,kk]
 by_cases h:l.length=r.length
 ·simp only [show (l.length:Int)=(r.length:Int) by omega,kk,not_true_eq_false,if_false]
  refine aY l (step:=pA r) (fin:=fun _=>true) (fun i n vs S=>n=i∧vs=[.bool false,.int .i64 (i:Int)]) (fun x=>x=decide (l=r)) ?_ ?_ (s:=0) ⟨rfl,rfl⟩ (eqL h)
  ·rintro i p n vs S hi ⟨rfl,rfl⟩ aO H
   have hil:=(List.getElem?_eq_some_iff.1 hi).1
   have hj:r[n]?=some r[n]:=List.getElem?_eq_getElem (by omega)
   have hlt:((n:Int)<(r.length:Int))=True:=dF hj
   simp only [pA,hj,Option.some.injEq,ARow.ext_iff] at H
   simp only [aEq,kk,dF hi,hlt,aG8 hi,aG8 hj,ARow.enc,nH (show n<1000000000 by omega),oo]
   grind
  ·rintro n vs S ⟨rfl,rfl⟩ aO H
   simp only [aEq,kk,h,Int.lt_irrefl,if_false,oo,←H]
 ·simp only [show ¬ (l.length:Int)=(r.length:Int) by omega,kk,not_false_eq_true,if_true,oo]
  have:decide (l=r)=false:=by simpa using fun e=>h (by rw [e])
  rw [this]
end Go.Proofs.YtoaibmbldmckaaaGreat
end
section
namespace Go.AM
theorem Own.made {n:Nat} {S:St} {es:List (List V)} (h:∀ c,c∈es→c.length=n∧aN c=true):Own E0 ⟨S.next+1,S.heap.put S.next (.row 0 n es)⟩ n (.sl S.next 0 n 0 es.length) es:=
 ⟨.inr ⟨S.next,0,[],rfl,Nat.zero_le _,Nat.lt_succ_self _,by rw [List.append_nil];exact Tr.get_put_sameB _ _ _ trivial⟩,h⟩
end Go.AM
namespace Go.Proofs.YtoaibmbldmckaaaGreat
open Go.AM Tryz
set_option linter.unusedVariables false
set_option linter.unusedSimpArgs false
set_option maxRecDepth 100000
theorem g46 (n:Int) (S:St) (K:KW):C 46 [.int .i64 n] S K=K (.agg [.int .i64 2026,.int .i64 11,.int .i64 n]) S:=by
 refine (v46 rfl ?_).eq S K
 simp only [m46,kk,oo]
theorem bP1 (s:List UInt8) (n:Int) (S:St) (K:KW):C 129 [.str s,.int .i64 n] S K=K (.agg (Posted.enc ⟨⟨s,n⟩,⟨0,0,0⟩,⟨0,0,0,[]⟩,Ref.zero,false⟩)) S:=by
 refine (bK3 rfl ?_).eq S K
 simp only [aS1,kk,oo]
 rfl
def aBy (n:Int):Call:=⟨1,n,⟨4,[97],0,⟨[],⟨0,0,0⟩,0⟩,⟨2026,11,15⟩,[⟨[],[115,116,100],1,100⟩],Ref.zero,0⟩⟩
theorem bFn:gO prog 128=some none:=by kernel_rfl
theorem bP2 (n:Int) (S:St) (K:KW):C 128 [.int .i64 n] S K=K (.agg (aBy n).enc) S:=by
 refine (bK1 rfl ?_).eq S K
 simp only [aRz,kk,g46,aPc,oo]
 rfl
theorem bAq (z:List V) (parts:List (Nat×V)) (fr:Option Nat) (S:St):aQ 12 z 3 parts fr S=(match rV 12 [z,z,z] parts with
  | .error e=>.error e
  | .ok elems=>match aJ fr S (.row 0 12 elems) with
   | .error e=>.error e
   | .ok (a,S')=>.ok (.sl a 0 12 0 3,S')):=by unfold aQ;rw [if_pos (by decide)];rfl
theorem bAr (z:List V) (parts:List (Nat×V)) (fr:Option Nat) (S:St):aQ 12 z 2 parts fr S=(match rV 12 [z,z] parts with
  | .error e=>.error e
  | .ok elems=>match aJ fr S (.row 0 12 elems) with
   | .error e=>.error e
   | .ok (a,S')=>.ok (.sl a 0 12 0 2,S')):=by unfold aQ;rw [if_pos (by decide)];rfl
theorem bAs (z:List V) (parts:List (Nat×V)) (fr:Option Nat) (S:St):aQ 17 z 7 parts fr S=(match rV 17 [z,z,z,z,z,z,z] parts with
  | .error e=>.error e
  | .ok elems=>match aJ fr S (.row 0 17 elems) with
   | .error e=>.error e
   | .ok (a,S')=>.ok (.sl a 0 17 0 7,S')):=by unfold aQ;rw [if_pos (by decide)];rfl
theorem a42 (S:St) (l:List Posted) (hl:l.length<1000000) (K:KW):C 42 [.sl S.next 0 12 0 l.length] ⟨S.next+1,S.heap.put S.next (.row 0 12 (l.map Posted.enc))⟩ K=K (.int .i64 (aBu l)) ⟨S.next+1,S.heap.put S.next (.row 0 12 (l.map Posted.enc))⟩:=by
 have o:=Own.made (n:=12) (S:=S) (es:=l.map Posted.enc) fun c hc=>by obtain ⟨x,_,rfl⟩:=List.mem_map.1 hc;exact aBg x
 rw [List.length_map] at o
 have h:=o.out fun _=>rfl
 exact (Fn.back fun S K=>g42 l hl S K).frz bJk rfl (by simp only [frzVs,h]) (by simp only [ptrsVs,o.ptrs];rfl) (.inl rfl) K
theorem bP4 (S:St) (r l:List ARow) (hl:r.length<1000000) (K:KW):C 130 [.imm (r.map ARow.enc),.sl S.next 0 4 0 l.length] ⟨S.next+1,S.heap.put S.next (.row 0 4 (l.map ARow.enc))⟩ K=K (.bool (decide (r=l))) ⟨S.next+1,S.heap.put S.next (.row 0 4 (l.map ARow.enc))⟩:=by
 have o:=Own.made (n:=4) (S:=S) (es:=l.map ARow.enc) fun c hc=>by obtain ⟨x,_,rfl⟩:=List.mem_map.1 hc;exact aXe x
 rw [List.length_map] at o
 have h:=o.out fun _=>rfl
 exact (Fn.back fun S K=>bP0 r l hl S K).frz bDi rfl (by simp only [frzVs,oV (.imm (r.map ARow.enc)) rfl,h]) (by simp only [ptrsVs,pU,o.ptrs];rfl) (.inl rfl) K
def aLk:Rate:=⟨[],⟨0,0,0⟩,0⟩
def aQi:List Call:=[⟨0,0,⟨6,[],0,aLk,⟨0,0,0⟩,[],Ref.zero,0⟩⟩,⟨1,1,⟨3,[],0,⟨[115,116,100],⟨2000,1,1⟩,1900⟩,⟨0,0,0⟩,[],Ref.zero,0⟩⟩,⟨1,2,⟨1,[97],2,aLk,⟨0,0,0⟩,[],Ref.zero,0⟩⟩,aBy 3,aBy 4,
 ⟨1,6,⟨1,[98],9,aLk,⟨0,0,0⟩,[],Ref.zero,0⟩⟩,⟨1,7,⟨5,[98],0,aLk,⟨2026,11,15⟩,[],⟨[97],1⟩,0⟩⟩]
def Call.mem (c:Call):List V:=match c.cmd.lines with
 | []=>c.enc.set 13 .nils
 | _=>c.enc
def d15:Date:=⟨2026,11,15⟩
def d16:Date:=⟨2026,11,16⟩
theorem g44 (S:St) (K:KW):C 44 [] S K=K (.bool true) S:=by
 refine (v44 rfl ?_).eq S K
 obtain ⟨s,hs⟩:∃ s,s=(playM State.new aQi).1:=⟨_,rfl⟩
 have r15:cZ s d15 d15=([⟨[115,116,100],1900,100,19⟩],0):=by rw [hs];kernel_rfl
 have r16:cZ s d16 d16=([],0):=by rw [hs];kernel_rfl
 have h15:=fun S K=>g40 s d15 d15 S K
 have h16:=fun S K=>g40 s d16 d16 S K
 simp only [r15,r16] at h15 h16
 simp only [d15,d16,List.map_nil,List.map_cons] at h15 h16
 have e3:(nY (aBy 3).enc 17&&aN (aBy 3).enc)=true:=rfl
 have e4:(nY (aBy 4).enc 17&&aN (aBy 4).enc)=true:=rfl
 simp only [m44,kk,g31,g46,rS _ _ _ _ _ _ _ _ bFn,List.nil_append,List.append_nil,bP2,bAs,e3,e4]
 obtain ⟨S1,hS1⟩:∃ S1:St,S1=⟨1,Tr.nil.put 0 (.row 0 17 (aQi.map Call.mem))⟩:=⟨_,rfl⟩
 obtain ⟨h',_,hC⟩:=(Fn.back fun S K=>g35 State.new aQi Sml.new (by decide) (by decide) S K).cutE (S:=S1) (args:=[.agg [.imm [],.imm [],.imm [],.imm [],.imm [],.int .i64 1],.sl 0 0 17 0 7]) bJj rfl (by rw [hS1];rfl) (by rfl)
 rw [←hs] at hC
 have key:=hC
 rw [hS1] at key
 refine Eq.mpr (key _) ?_
 have n1:S1.next=1:=by rw [hS1]
 simp only [n1,kk]
 obtain ⟨S2,hS2⟩:∃ S2:St,S2=⟨1+1+9,(h'.put 1 (.row 0 6 [[.nils,.nils,.nils,.nils,.nils,.int .i64 0]])).put 1 (.row 0 6 [s.enc])⟩:=⟨_,rfl⟩
 have r1:aI S2 1 0=.ok (6,[s.enc]):=by rw [hS2];exact aR _ _ _ _ _ _
 simp only [State.enc] at hS2 r1
 have g3:aBu [⟨⟨[97],1⟩,⟨0,0,0⟩,⟨0,0,0,[]⟩,Ref.zero,false⟩,⟨⟨[98],1⟩,⟨0,0,0⟩,⟨0,0,0,[]⟩,Ref.zero,false⟩,⟨⟨[97],2⟩,⟨0,0,0⟩,⟨0,0,0,[]⟩,Ref.zero,false⟩]=-1:=by kernel_rfl
 have g2:aBu [⟨⟨[97],1⟩,⟨0,0,0⟩,⟨0,0,0,[]⟩,Ref.zero,false⟩,⟨⟨[97],3⟩,⟨0,0,0⟩,⟨0,0,0,[]⟩,Ref.zero,false⟩]=1:=by kernel_rfl
 have g1:aBu [⟨⟨[97],2⟩,⟨0,0,0⟩,⟨0,0,0,[]⟩,Ref.zero,false⟩]=0:=by kernel_rfl
 have c3:=fun n h K=>a42 ⟨n,h⟩ [⟨⟨[97],1⟩,⟨0,0,0⟩,⟨0,0,0,[]⟩,Ref.zero,false⟩,⟨⟨[98],1⟩,⟨0,0,0⟩,⟨0,0,0,[]⟩,Ref.zero,false⟩,⟨⟨[97],2⟩,⟨0,0,0⟩,⟨0,0,0,[]⟩,Ref.zero,false⟩] (by decide) K
 have c2:=fun n h K=>a42 ⟨n,h⟩ [⟨⟨[97],1⟩,⟨0,0,0⟩,⟨0,0,0,[]⟩,Ref.zero,false⟩,⟨⟨[97],3⟩,⟨0,0,0⟩,⟨0,0,0,[]⟩,Ref.zero,false⟩] (by decide) K
 have c1:=fun n h K=>a42 ⟨n,h⟩ [⟨⟨[97],2⟩,⟨0,0,0⟩,⟨0,0,0,[]⟩,Ref.zero,false⟩] (by decide) K
 have c0:=fun n h K=>bP4 ⟨n,h⟩ [⟨[115,116,100],1900,100,19⟩] [⟨[115,116,100],1900,100,19⟩] (by decide) K
 simp only [g3,g2,g1,List.map_cons,List.map_nil,List.length_cons,List.length_nil,Posted.enc,ARow.enc,Nat.zero_add,Nat.reduceAdd] at c3 c2 c1 c0
 simp only [←hS2,h15,kk,gm,r1,h16,bP1,bAq,bAr,Posted.enc]
 refine Eq.mpr (c3 _ _ _) ?_
 simp only [kk,if_true]
 refine Eq.mpr (c2 _ _ _) ?_
 simp only [kk,if_true,aX5]
 refine Eq.mpr (c1 _ _ _) ?_
 simp only [kk,if_true,aPc]
 refine Eq.mpr (c0 _ _ _) ?_
 simp only [kk,if_true,oo,List.length_nil]
 rfl
end Go.Proofs.YtoaibmbldmckaaaGreat
end
section
namespace Go.Proofs.YtoaibmbldmckaaaGreat
open Go.AM Tryz
theorem aQj (P:Program) (t:TypeId) (x y:List UInt8):aH P .gtr t (.str x) (.str y)=.ok (.bool (!(fF x y||mW x y))):=by simp only [aH,tY]
theorem aWx {a b:Key} (h:kLt a b):fF b.1 a.1=false∧(a.1=b.1→a.2<b.2):=by
 rcases h with h | ⟨h,h'⟩
 ·constructor
  ·cases e:fF b.1 a.1 with
   | false=>rfl
   | true=>have:=fT h e;rw [jR] at this;cases this
  ·intro e;rw [e,jR] at h;cases h
 ·exact ⟨by rw [h,jR],fun _=>h'⟩
theorem g10 (l:List Call) (a b:Date) (S:St) (K:KW):C 10 [.imm (l.map Call.enc),.agg [.int .i64 a.y,.int .i64 a.m,.int .i64 a.d],.agg [.int .i64 b.y,.int .i64 b.m,.int .i64 b.d]] S K=K (.bool true) S:=by
 refine (v10 rfl ?_).eq S K
 have h30:=fun S K=>g30 l 50 (by decide) S K
 simp only [show ((50:Nat):Int)=50 from rfl] at h30
 obtain ⟨s,hs⟩:∃ s,s=(playM State.new (qO l 50)).1:=⟨_,rfl⟩
 have hb:Beh s:=by rw [hs];exact Beh.new.playM _
 have h35:=fun S K=>a35 l 50 (by decide) S K
 simp only [←hs] at h35
 simp only [m10,kk,iL,gm,g31,h30,h35,g40 s]
 have hrl:=@aK5 s a b
 by_cases c1:(cZ s a b).2=0
 rotate_left
 ·simp only [c1,hrl c1,kk,not_false_eq_true,if_true,List.map_nil,List.length_nil,g44,oo]
  simp
 obtain ⟨rows,hr⟩:∃ rows,cZ s a b=(rows,0):=⟨_,Prod.ext rfl c1⟩
 simp only [hr,kk,not_true_eq_false,if_false]
 have hrise:=aNh hb.ints hr
 have h40:=fun S K=>g40 s aG6 aG7 S K
 simp only [aG6,aG7] at h40
 have hlen:=fun m (hm:cZ s ⟨1,1,1⟩ ⟨9999,12,31⟩=(m,0))=>aNg hb.ints hr hm
 have h64:rows.length<100000:=by
  have h2:=rU hr
  obtain ⟨h40',hok⟩:=lW (nF h2.1)
  have:∀ (ps:List Part) (l l':List ARow),gM ps l=some l'→l'.length≤l.length+ps.length:=by
   intro ps
   induction ps with
   | nil=>intro l l' h;cases h;exact Nat.le_refl _
   | cons p ps ih=>
    intro l l' h
    simp only [gM] at h
    split at h
    ·rename_i l1 he
     have:=aBw he
     have:=ih _ _ h
     simp only [List.length_cons];omega
    ·cases h
  have h3:=this _ _ _ h2.2.2.2
  have h4:∀ ps:List Posted,(∀ p∈ps,p.total.parts.length≤12)→(dT ps a b).length≤12*ps.length:=by
   intro ps
   induction ps with
   | nil=>intro _;exact Nat.le_refl _
   | cons p ps ih=>
    intro h
    have h5:=h p (List.mem_cons_self ..)
    have h6:=ih fun q hq=>h q (List.mem_cons_of_mem _ hq)
    rw [aNi]
    simp only [List.length_append,List.length_cons]
    split<;>(try simp only [List.length_nil])<;>omega
  have h5:=h4 s.posted fun p hp=>iI (hok p hp).2
  simp only [List.length_nil] at h3
  omega
 refine aY (rows.drop 1) (step:=fun (_:Unit) (_:ARow)=>(.inr ():Unit⊕Unit)) (fin:=id) (fun j _ vs S'=>vs=[.bool false,.int .i64 ((j+1:Nat):Int)]∧aI S' 2 0=.ok (6,[s.enc])) (fun _=>True) ?_ ?_ (s:=()) ⟨rfl,aR _ _ _ _ _ _⟩ trivial
 ·rintro j x _ vs S' hi ⟨rfl,h2⟩ aO H
  rw [List.getElem?_drop,Nat.add_comm] at hi
  have hil:=(List.getElem?_eq_some_iff.1 hi).1
  have hj:rows[j]?=some rows[j]:=List.getElem?_eq_getElem (by omega)
  have hx:x=rows[j+1]:=(List.getElem?_eq_some_iff.1 hi).2.symm
  have hk:kLt rows[j].key x.key:=by rw [hx];exact List.pairwise_iff_getElem.1 hrise j (j+1) (by omega) hil (Nat.lt_succ_self _)
  obtain ⟨k1,k2⟩:=aWx hk
  have k2:rows[j].cat=x.cat→rows[j].bp<x.bp:=k2
  have k1:(!(fF rows[j].cat x.cat||mW rows[j].cat x.cat))=false:=by
   rcases hk with h | ⟨h,_⟩
   ·have h:fF rows[j].cat x.cat=true:=h
    rw [h];rfl
   ·have h:rows[j].cat=x.cat:=h
    rw [h,dE];simp
  simp only [aJ5,kk,dF hi,if_true,aG8 hi,aG8 hj,ARow.enc,wrm (show j+1<1000000000 by omega),nH (show j+1<1000000000 by omega),aQj,k1,Bool.false_eq_true,if_false]
  by_cases c:rows[j].cat=x.cat
  ·have:=k2 c
   simp only [c,BEq.rfl,kk,if_true,show ¬ x.bp≤rows[j].bp by omega,if_false]
   exact H _ _ ⟨rfl,h2⟩
  ·have c':¬ (rows[j].cat == x.cat)=true:=by simpa using c
   simp only [c',kk,if_false]
   exact H _ _ ⟨rfl,h2⟩
 ·rintro _ vs S' ⟨rfl,h2⟩ aO H
  have hn:¬ (((rows.drop 1).length+1:Nat):Int)<(rows.length:Int):=by rw [List.length_drop];omega
  simp only [State.enc] at h2
  simp only [aJ5,kk,hn,if_false,h2,h40]
  by_cases c2:(cZ s ⟨1,1,1⟩ ⟨9999,12,31⟩).2=0
  ·obtain ⟨m,hm⟩:∃ m,cZ s ⟨1,1,1⟩ ⟨9999,12,31⟩=(m,0):=⟨_,Prod.ext rfl c2⟩
   have:=hlen m hm
   simp only [hm,kk,not_true_eq_false,if_false,show (rows.length:Int)≤(m.length:Int) by omega,if_true,g44,oo]
  ·simp only [c2,kk,not_false_eq_true,if_true,g44,oo]
end Go.Proofs.YtoaibmbldmckaaaGreat
end
