import Derived.Test.YtoaibmbldmckaaaGreatX4
set_option linter.unusedSimpArgs false
set_option linter.unusedVariables false
set_option linter.unusedSectionVars false
set_option maxRecDepth 100000
section
namespace Go.Proofs.YtoaibmbldmckaaaGreat
open Go.AM Tryz
structure ARow where
 cat:List UInt8
 bp:Int
 net:Int
 tax:Int
deriving DecidableEq
abbrev Key:=List UInt8×Int
def ARow.key (r:ARow):Key:=(r.cat,r.bp)
def pk (p:Part):Key:=(p.cat,p.bp)
def kLt (a b:Key):Prop:=fY a.1 b.1=true∨a.1=b.1∧a.2<b.2
theorem yA {a b c:Key} (h:kLt a b) (k:kLt b c):kLt a c:=by
 rcases h with h | ⟨h,h'⟩<;>rcases k with k | ⟨k,k'⟩
 ·exact .inl (gZ h k)
 ·exact .inl (by rw [←k];exact h)
 ·exact .inl (by rw [h];exact k)
 ·exact .inr ⟨h.trans k,by omega⟩
theorem uG {a b:Key} (h:kLt a b):a≠b:=fun e=>by
 subst e
 rcases h with h | ⟨_,h⟩
 ·rw [tY] at h;cases h
 ·omega
theorem aXv (a b:Key):kLt a b∨a=b∨kLt b a:=by
 rcases wJ a.1 b.1 with h | h | h
 ·exact .inl (.inl h)
 ·rcases Int.lt_trichotomy a.2 b.2 with k | k | k
  ·exact .inl (.inr ⟨h,k⟩)
  ·exact .inr (.inl (Prod.ext h k))
  ·exact .inr (.inr (.inr ⟨h.symm,k⟩))
 ·exact .inr (.inr (.inl h))
def gC (r:ARow) (p:Part):Bool:=if fY r.cat p.cat=true then true else if r.cat=p.cat then decide (r.bp<p.bp) else false
theorem mH (r:ARow) (p:Part):gC r p=true↔kLt r.key (pk p):=by
 unfold gC kLt ARow.key pk
 by_cases h:fY r.cat p.cat=true
 ·simp [h]
 ·by_cases e:r.cat=p.cat
  ·simp [h,e]
  ·simp [h,e]
def cE (l:List ARow) (p:Part):Nat:=kW (fun r=>gC r p) l
def pT (l:List ARow) (p:Part):Bool:=match l[cE l p]? with
 | none=>true
 | some r=>if r.cat=p.cat then !decide (r.bp=p.bp) else true
def fW (l:List ARow) (p:Part):List ARow:=if pT l p=true then fG l (cE l p) ⟨p.cat,p.bp,0,0⟩ else l
def jZ (l:List ARow) (p:Part):Option (List ARow):=match (fW l p)[cE l p]? with
 | none=>none
 | some r=>if (cQ r.net p.net).2=0 then (if (cQ r.tax p.tax).2=0 then some ((fW l p).set (cE l p) { r with net:=(cQ r.net p.net).1,tax:=(cQ r.tax p.tax).1 }) else none) else none
def gI:List Part→List ARow→Option (List ARow)
 | [],l=>some l
 | p::ps,l=>match jZ l p with
  | some l'=>gI ps l'
  | none=>none
def rF (ps:List Part) (κ:Key):Int:=(ps.map fun p=>if pk p=κ then p.net else 0).sum
def rG (ps:List Part) (κ:Key):Int:=(ps.map fun p=>if pk p=κ then p.tax else 0).sum
theorem aOg (ps:List Part) (p:Part) (κ:Key):rF (ps++[p]) κ=rF ps κ+if pk p=κ then p.net else 0:=by simp [rF]
theorem aOh (ps:List Part) (p:Part) (κ:Key):rG (ps++[p]) κ=rG ps κ+if pk p=κ then p.tax else 0:=by simp [rG]
theorem aCb {ps:List Part} {κ:Key} (h:∀ p∈ps,pk p≠κ):rF ps κ=0∧rG ps κ=0:=by
 induction ps with
 | nil=>exact ⟨rfl,rfl⟩
 | cons p ps ih=>
  obtain ⟨h1,h2⟩:=ih fun q hq=>h q (List.mem_cons_of_mem _ hq)
  have h3:=h p (List.mem_cons_self ..)
  unfold rF rG at *
  simp only [List.map_cons,List.sum_cons,if_neg h3]
  omega
structure Rws (ps:List Part) (l:List ARow):Prop where
 srt:l.Pairwise (fun a b=>kLt a.key b.key)
 sum:∀ r∈l,r.net=rF ps r.key∧r.tax=rG ps r.key∧fA r.net∧fA r.tax
 mem:∀ κ,(∃ r∈l,r.key=κ)↔∃ p∈ps,pk p=κ
theorem Rws.nil:Rws [] []:=⟨.nil,fun r h=>(by cases h),fun κ=>⟨fun ⟨r,h,_⟩=>(by cases h),fun ⟨r,h,_⟩=>(by cases h)⟩⟩
theorem bBp {l:List ARow} (h:l.Pairwise (fun a b=>kLt a.key b.key)) {i j:Nat} {a b:ARow} (hi:l[i]?=some a) (hj:l[j]?=some b) (hne:i≠j):a.key≠b.key:=by
 obtain ⟨h1,rfl⟩:=List.getElem?_eq_some_iff.1 hi
 obtain ⟨h2,rfl⟩:=List.getElem?_eq_some_iff.1 hj
 rcases Nat.lt_or_gt_of_ne hne with k | k
 ·exact uG (List.pairwise_iff_getElem.1 h i j h1 h2 k)
 ·exact (uG (List.pairwise_iff_getElem.1 h j i h2 h1 k)).symm
theorem aIo {l:List ARow} {p:Part} (h:l.Pairwise (fun a b=>kLt a.key b.key)) (hm:pT l p=true):∀ x∈l,gC x p=false→kLt (pk p) x.key:=by
 intro x hx hf
 have hmono:∀ a b:ARow,kLt a.key b.key→gC a p=false→gC b p=false:=fun a b hab ha=>by
  cases e:gC b p with
  | false=>rfl
  | true=>
   have:=(mH a p).2 (yA hab ((mH b p).1 e))
   rw [ha] at this;cases this
 have hd:=rA (p:=fun r=>gC r p) h hmono hx hf
 have hsd:(l.dropWhile fun r=>gC r p).Pairwise (fun a b=>kLt a.key b.key):=h.sublist (List.dropWhile_suffix _).sublist
 have hg:l[cE l p]?=(l.dropWhile fun r=>gC r p)[0]?:=aM9 _ l
 unfold pT at hm
 rw [hg] at hm
 cases hdl:l.dropWhile (fun r=>gC r p) with
 | nil=>rw [hdl] at hd;cases hd
 | cons y t=>
  rw [hdl] at hd hm hsd
  have hy:gC y p=false:=xT (p:=fun r=>gC r p) (l:=l) (by rw [hdl];rfl)
  have hyk:kLt (pk p) y.key:=by
   rcases aXv (pk p) y.key with q | q | q
   ·exact q
   ·exfalso
    have e1:y.cat=p.cat:=(congrArg Prod.fst q).symm
    have e2:y.bp=p.bp:=(congrArg Prod.snd q).symm
    simp [e1,e2] at hm
   ·rw [(mH y p).2 q] at hy;cases hy
  rcases List.mem_cons.1 hd with rfl | hd
  ·exact hyk
  ·exact yA hyk ((List.pairwise_cons.1 hsd).1 x hd)
theorem Rws.room {ps:List Part} {l:List ARow} (h:Rws ps l) (p:Part):(fW l p).Pairwise (fun a b=>kLt a.key b.key)∧(∀ r∈fW l p,r.net=rF ps r.key∧r.tax=rG ps r.key∧fA r.net∧fA r.tax)∧(∀ κ,(∃ r∈fW l p,r.key=κ)↔(∃ q∈ps,pk q=κ)∨pk p=κ)∧∃ r,(fW l p)[cE l p]?=some r∧r.key=pk p:=by
 unfold fW
 by_cases hm:pT l p=true
 ·rw [if_pos hm]
  have hb:=aIo h.srt hm
  have hab:∀ q∈ps,pk q≠pk p:=fun q hq e=>by
   obtain ⟨r,hr,he⟩:=(h.mem (pk p)).2 ⟨q,hq,e⟩
   cases ha:gC r p with
   | true=>exact uG ((mH r p).1 ha) he
   | false=>exact uG (hb r hr ha) he.symm
  refine ⟨?_,fun r hr=>?_,fun κ=>?_,⟨p.cat,p.bp,0,0⟩,?_,rfl⟩
  ·unfold cE
   rw [oM]
   exact mE h.srt (fun a b c=>yA) (fun x hx hp=>(mH x p).1 hp) hb
  ·rcases (fJ _ _ _ _).1 hr with rfl | hr
   ·obtain ⟨z1,z2⟩:=aCb hab
    exact ⟨z1.symm,z2.symm,by show fA 0;constructor<;>decide,by show fA 0;constructor<;>decide⟩
   ·exact h.sum r hr
  ·constructor
   ·rintro ⟨r,hr,e⟩
    rcases (fJ _ _ _ _).1 hr with rfl | hr
    ·exact .inr e
    ·exact .inl ((h.mem κ).1 ⟨r,hr,e⟩)
   ·rintro (hq | e)
    ·obtain ⟨r,hr,e⟩:=(h.mem κ).2 hq
     exact ⟨r,(fJ _ _ _ _).2 (.inr hr),e⟩
    ·exact ⟨_,(fJ _ _ _ _).2 (.inl rfl),e⟩
  ·have hle:cE l p≤l.length:=by
    unfold cE kW;rw [oL,Nat.zero_add];exact (List.takeWhile_prefix _).length_le
   unfold fG
   rw [List.getElem?_append_right (by rw [List.length_take];omega),List.length_take,Nat.min_eq_left hle,Nat.sub_self]
   rfl
 ·rw [if_neg hm]
  have hg:∃ r,l[cE l p]?=some r∧r.key=pk p:=by
   unfold pT at hm
   cases e:l[cE l p]? with
   | none=>rw [e] at hm;exact absurd rfl hm
   | some r=>
    rw [e] at hm
    refine ⟨r,rfl,?_⟩
    by_cases e1:r.cat=p.cat
    ·by_cases e2:r.bp=p.bp
     ·exact Prod.ext e1 e2
     ·simp [e1,e2] at hm
    ·simp [e1] at hm
  obtain ⟨r,hr,hk⟩:=hg
  have hrm:r∈l:=List.mem_of_getElem? hr
  refine ⟨h.srt,h.sum,fun κ=>?_,r,hr,hk⟩
  rw [h.mem κ]
  constructor
  ·exact .inl
  ·rintro (q | q)
   ·exact q
   ·exact (h.mem κ).1 ⟨r,hrm,hk.trans q⟩
theorem Rws.enter {ps:List Part} {l l':List ARow} (h:Rws ps l) {p:Part} (h1:fA p.net) (h2:fA p.tax) (he:jZ l p=some l'):Rws (ps++[p]) l':=by
 obtain ⟨q1,q2,q3,r,hr,hk⟩:=h.room p
 unfold jZ at he
 rw [hr] at he
 simp only at he
 split at he
 ·rename_i n0
  split at he
  ·rename_i x0
   have he:=Option.some.inj he
   subst he
   have hrm:=List.mem_of_getElem? hr
   obtain ⟨s1,s2,i1,i2⟩:=q2 r hrm
   have hkl:=(List.getElem?_eq_some_iff.1 hr).1
   have sn:fA (r.net+p.net)∧(cQ r.net p.net).1=r.net+p.net:=by
    rw [oK i1 h1] at n0 ⊢
    split at n0
    ·rename_i q;rw [if_pos q];exact ⟨q,rfl⟩
    ·cases n0
   have sx:fA (r.tax+p.tax)∧(cQ r.tax p.tax).1=r.tax+p.tax:=by
    rw [oK i2 h2] at x0 ⊢
    split at x0
    ·rename_i q;rw [if_pos q];exact ⟨q,rfl⟩
    ·cases x0
   rw [sn.2,sx.2]
   have hmap:((fW l p).set (cE l p) { r with net:=r.net+p.net,tax:=r.tax+p.tax }).map ARow.key=(fW l p).map ARow.key:=by
    rw [List.map_set]
    apply List.ext_getElem?
    intro j
    rw [List.getElem?_set]
    split
    ·rename_i e
     subst e
     rw [List.length_map,if_pos hkl,List.getElem?_map,hr];rfl
    ·rfl
   refine ⟨?_,fun r' hr'=>?_,fun κ=>?_⟩
   ·have:=List.pairwise_map.2 q1
    rw [←hmap] at this
    exact List.pairwise_map.1 this
   ·obtain ⟨j,hj⟩:=List.mem_iff_getElem?.1 hr'
    rw [List.getElem?_set] at hj
    rw [aOg,aOh]
    split at hj
    ·rename_i e
     have hj:=Option.some.inj hj
     subst hj
     have hk':pk p=r.key:=hk.symm
     have e1:({ r with net:=r.net+p.net,tax:=r.tax+p.tax }:ARow).key=r.key:=rfl
     rw [e1,if_pos hk',if_pos hk',←s1,←s2]
     exact ⟨rfl,rfl,sn.1,sx.1⟩
    ·rename_i e
     have hne:=bBp q1 hr hj e
     have hne':¬ pk p=r'.key:=fun q=>hne (hk.trans q)
     rw [if_neg hne',if_neg hne',Int.add_zero,Int.add_zero]
     exact q2 r' (List.mem_of_getElem? hj)
   ·have m1:∀ κ,(∃ r'∈(fW l p).set (cE l p) { r with net:=r.net+p.net,tax:=r.tax+p.tax },r'.key=κ)↔∃ r'∈fW l p,r'.key=κ:=fun κ=>by
     have a1:∀ l:List ARow,(∃ r'∈l,r'.key=κ)↔κ∈l.map ARow.key:=fun l=>by rw [List.mem_map]
     rw [a1,a1,hmap]
    rw [m1,q3]
    constructor
    ·rintro (⟨q,hq,e⟩ | e)
     ·exact ⟨q,List.mem_append_left _ hq,e⟩
     ·exact ⟨p,List.mem_append_right _ (List.mem_singleton_self _),e⟩
    ·rintro ⟨q,hq,e⟩
     rcases List.mem_append.1 hq with hq | hq
     ·exact .inl ⟨q,hq,e⟩
     ·rw [List.mem_singleton.1 hq] at e;exact .inr e
  ·cases he
 ·cases he
theorem Rws.all:∀ {ps qs:List Part} {l l':List ARow},Rws ps l→(∀ q∈qs,fA q.net∧fA q.tax)→gI qs l=some l'→Rws (ps++qs) l'
 | ps,[],l,l',h,_,he=>by
  have he:=Option.some.inj he
  subst he
  rw [List.append_nil];exact h
 | ps,q::qs,l,l',h,hi,he=>by
  unfold gI at he
  cases e:jZ l q with
  | none=>rw [e] at he;cases he
  | some l1=>
   rw [e] at he
   have hq:=hi q (List.mem_cons_self ..)
   have:=(h.enter hq.1 hq.2 e).all (fun x hx=>hi x (List.mem_cons_of_mem _ hx)) he
   rw [List.append_assoc] at this
   exact this
theorem yB {ps:List Part} {l:List ARow} (hi:∀ q∈ps,fA q.net∧fA q.tax) (h:gI ps []=some l):Rws ps l:=by
 have:=Rws.nil.all hi h
 rwa [List.nil_append] at this
end Go.Proofs.YtoaibmbldmckaaaGreat
end
section
namespace Go.AM
theorem bGl {P:Program} {T:TypeId} {n b:Nat} (hT:apT P T=some (n,b)) (hn:1<n) {S0 S:St} {v:V} {es:List (List V)} (h:Own S0 S n v es) (x:Ext S0 S) (w:WF S0) {c:List V} (hc:c.length=n∧aN c=true) (h1:(es.length+1)*b≤35184372088832) (h2:es.length+1<fK) {i:Nat} (hi:i≤es.length):
  ∃ v' S',gD P T v (.int .i64 (i:Int)) (.sl S.next 0 n 0 1) ⟨S.next+1,S.heap.put S.next (.row 0 n [c])⟩=.ok (v',S')∧Ext S0 S'∧Own S0 S' n v' (es.take i++c::es.drop i)∧∀ y,y<S.next→blkOf v≠some y→S'.heap.get y=S.heap.get y:=by
 have x1:Ext S ⟨S.next+1,S.heap.put S.next (.row 0 n [c])⟩:=Ext.new (x.wf w) _
 obtain ⟨v',S',q1,q2,q3,q4⟩:=(h.ext x1).insertK hT hn (x.trans x1) w (bx:=S.next) (c:=c) (aS _ _ _ _ _ _) (fun a ver m hv=>by
  rcases h.is with ⟨rfl,_⟩ | ⟨a',ver',tl,rfl,_,hlt,_⟩
  ·cases hv
  ·cases hv;omega) hc h1 h2 hi
 refine ⟨v',S',q1,q2,q3,fun y hy hya=>?_⟩
 rw [q4 y (by show y<S.next+1;omega) (fun a ver m hv e=>hya (by rw [hv,e];rfl))]
 exact Tr.get_put_neB _ _ _ _ trivial (by omega)
end Go.AM
namespace Go.Proofs.YtoaibmbldmckaaaGreat
open Go.AM Tryz
set_option linter.unusedVariables false
set_option linter.unusedSimpArgs false
set_option maxRecDepth 100000
def ARow.enc (r:ARow):List V:=[.str r.cat,.int .i64 r.bp,.int .i64 r.net,.int .i64 r.tax]
theorem aYc (x:ARow):x.enc.length=4∧aN x.enc=true:=⟨rfl,rfl⟩
theorem bPe (r:ARow) (p:Part) (S:St) (K:KW):C 201 [.agg [.str r.cat,.int .i64 r.bp,.int .i64 r.net,.int .i64 r.tax],.agg [.str p.cat,.int .i64 p.bp,.int .i64 p.net,.int .i64 p.tax]] S K=K (.bool (gC r p)) S:=by
 refine (bM4 rfl ?_).eq S K
 simp only [aUi,kk,iQ,gC,oo]
 grind
end Go.Proofs.YtoaibmbldmckaaaGreat
end
section
namespace Go.Proofs.YtoaibmbldmckaaaGreat
open Go.AM Tryz
theorem bPf:apT prog 68=some (4,40):=by kernel_rfl
theorem bGm:uN 202=some (.spec ((Sp.ins 68).run prog)):=by kernel_rfl
theorem yC (l:List ARow) (p:Part):cE l p≤l.length:=vT _ _
theorem aOi (l:List ARow) (p:Part):∃ r,(fW l p)[cE l p]?=some r:=by
 unfold fW
 split
 ·exact ⟨_,xM _ _ _ (yC l p)⟩
 ·rename_i h
  unfold pT at h
  split at h
  ·exact absurd rfl h
  ·rename_i b hb;exact ⟨b,hb⟩
theorem bPg {S0 S:St} {v:V} {l:List ARow} (own:Own S0 S 4 v (l.map ARow.enc)) (x:Ext S0 S) (w:WF S0) (hl:l.length≤1000000) (p:Part) {K:KW}
  (H1:∀ l',jZ l p=some l'→∀ v' S',Ext S0 S'→Own S0 S' 4 v' (l'.map ARow.enc)→K (.tup [v',.int .i64 0]) S') (H2:jZ l p=none→∀ S',Ext S0 S'→K (.tup [.nils,.int .i64 7]) S'):C 125 [v,.agg [.str p.cat,.int .i64 p.bp,.int .i64 p.net,.int .i64 p.tax]] S K:=by
 refine bKx ?_
 have hx:=x.next
 obtain ⟨S1,hS1⟩:∃ S1:St,S1=⟨S.next+1,S.heap.put S.next (.row 0 4 [p.enc])⟩:=⟨_,rfl⟩
 have x1:Ext S S1:=by rw [hS1];exact Ext.new (x.wf w) _
 have n1:S1.next=S.next+1:=by rw [hS1]
 have r1:aI S1 S.next 0=.ok (4,[p.enc]):=by rw [hS1];exact aS _ _ _ _ _ _
 simp only [Part.enc] at hS1 r1
 have hple:=yC l p
 have hlen:lenW v=.ok (.int .i64 (l.length:Int)):=own.sl.lenI
 have bv:∀ y,AM.blkOf v=some y→y<S.next:=fun y hy=>(gP own hy).2
 simp only [aSy,kk,←hS1]
 have hj1:∀ (v':V) (X:St),Ext S0 X→Own S0 X 4 v' ((fW l p).map ARow.enc)→aI X S.next 0=.ok (4,[p.enc])→aA8 C K v' (.ptr S.next 0 0 0) (.int .i64 (cE l p:Int)) X:=by
  intro v' X xX o hr
  obtain ⟨r,hb⟩:=aOi l p
  have hb':((fW l p).map ARow.enc)[cE l p]?=some r.enc:=by rw [List.getElem?_map,hb];rfl
  obtain ⟨a,ver,hv,_,_,e4,_,set1⟩:=(o.bump 26).setK (xX.bump 26) w hb' .i64
  have hld:∀ m j,bB none (.ptr a ver (cE l p) j) ⟨m,X.heap⟩=gO none r.enc j:=fun m j=>by
   have:=o.ld hv hb' none j
   simpa only [ldP,gm] using this
  have l2:=fun m=>hld m 2
  have l3:=fun m=>hld m 3
  simp only [kk,ARow.enc] at l2 l3
  simp only [Part.enc] at hr
  obtain ⟨S2,st1,x2,n2,own2,keep2,w2⟩:=set1 2 1 (.int .i64 (cQ r.net p.net).1) rfl rfl (by decide)
  have hb2:(((fW l p).map ARow.enc).set (cE l p) (splice r.enc 2 [.int .i64 (cQ r.net p.net).1]))[cE l p]?=some ({ r with net:=(cQ r.net p.net).1 }:ARow).enc:=by
   rw [List.getElem?_set_self (List.getElem?_eq_some_iff.1 hb').1];rfl
  obtain ⟨a',ver',hv',_,_,_,_,set2⟩:=own2.setK x2 w hb2 .i64
  obtain ⟨rfl,rfl⟩:a'=a∧ver'=ver:=by rw [hv] at hv';injection hv' with h1 h2;exact ⟨h1.symm,h2.symm⟩
  obtain ⟨S3,mJ,x3,n3,own3,keep3,w3⟩:=set2 3 1 (.int .i64 (cQ r.tax p.tax).1) rfl rfl (by decide)
  have hfin:(((fW l p).map ARow.enc).set (cE l p) (splice r.enc 2 [.int .i64 (cQ r.net p.net).1])).set (cE l p) (splice ({ r with net:=(cQ r.net p.net).1 }:ARow).enc 3 [.int .i64 (cQ r.tax p.tax).1])=((fW l p).set (cE l p) { r with net:=(cQ r.net p.net).1,tax:=(cQ r.tax p.tax).1 }).map ARow.enc:=by
   rw [List.set_set,List.map_set];rfl
  simp only [V.cells] at own3
  rw [hfin] at own3
  simp only [aA8,kk,e4,l2,l3,gm,hr,aQd,gE]
  have hen:jZ l p=if (cQ r.net p.net).2=0 then (if (cQ r.tax p.tax).2=0 then some ((fW l p).set (cE l p) { r with net:=(cQ r.net p.net).1,tax:=(cQ r.tax p.tax).1 }) else none) else none:=by
   simp only [jZ,hb]
  by_cases c1:(cQ r.net p.net).2=0
  ·by_cases c2:(cQ r.tax p.tax).2=0
   ·simp only [c1,c2,if_true] at hen
    simp only [c1,c2,kk,not_true_eq_false,if_false]
    have e:(⟨X.next+13+13,X.heap⟩:St)=⟨X.next+26,X.heap⟩:=rfl
    rw [e]
    simp only [st1,mJ,kk]
    exact H1 _ hen _ _ x3 own3
   ·simp only [c1,c2,if_true,if_false] at hen
    simp only [c1,c2,kk,not_true_eq_false,not_false_eq_true,if_true,if_false]
    exact H2 hen _ (xX.bump 26)
  ·simp only [c1,if_false] at hen
   simp only [c1,kk,not_false_eq_true,if_true]
   exact H2 hen _ (xX.bump 26)
 have hown:∀ {X:St},X.heap=S1.heap→S1.next≤X.next→Own S0 X 4 v (l.map ARow.enc):=fun hh hn=>(own.ext x1).same hn fun a _=>by rw [hh]
 have hext:∀ {X:St},X.heap=S1.heap→S1.next≤X.next→Ext S0 X:=fun {X} hh hn=>⟨fun a b h=>by rw [hh];exact (x.trans x1).old a b h,Nat.le_trans (x.trans x1).next hn,fun ww a b h=>by rw [hh] at h;have:=(x.trans x1).wf ww a b h;omega⟩
 have hrow:∀ {X:St},X.heap=S1.heap→aI X S.next 0=.ok (4,[p.enc]):=fun {X} hh=>bI r1 (by rw [hh])
 have hj2:∀ X:St,X.heap=S1.heap→S1.next≤X.next→rS C K v (.ptr S.next 0 0 0) (.int .i64 (cE l p:Int)) (.bool (pT l p)) X:=by
  intro X hh hn
  have hr:=hrow hh
  cases hm:pT l p
  ·simp only [rS,kk,Bool.false_eq_true,if_false]
   exact hj1 v X (hext hh hn) (by rw [show fW l p=l by simp [fW,hm]];exact hown hh hn) hr
  ·obtain ⟨v2,S2,q1,x2,own2,keep2⟩:=bGl bPf (by decide) (hown hh hn) (hext hh hn) w (aYc ⟨p.cat,p.bp,0,0⟩) (by simp;omega) (by simp [fK];omega) (i:=cE l p) (by simpa using hple)
   rw [←lS] at own2
   have hr2:=bI hr (keep2 S.next (by omega) (fun e=>by have:=bv _ e;omega))
   simp only [ARow.enc] at q1
   simp only [Part.enc] at hr
   simp only [rS,kk,if_true,hr,aQg]
   rw [aO0 bGm q1]
   refine hj1 v2 S2 x2 (by rw [show fW l p=fG l (cE l p) ⟨p.cat,p.bp,0,0⟩ by simp [fW,hm]];exact own2) hr2
 have hj0:∀ X:St,X.heap=S1.heap→S1.next≤X.next→aA9 C K v (.ptr S.next 0 0 0) (.int .i64 (cE l p:Int)) X:=by
  intro X hh hn
  have h2:=hj2 ⟨X.next+24,X.heap⟩ hh (by show S1.next≤X.next+24;omega)
  have hr:=hrow (X:=⟨X.next+24,X.heap⟩) hh
  simp only [Part.enc] at hr
  simp only [aA9,kk,hlen]
  by_cases hk:cE l p=l.length
  ·have hm:pT l p=true:=by unfold pT;rw [hk,List.getElem?_eq_none (Nat.le_refl _)]
   rw [hm,hk] at h2
   simp only [hk,kk,if_true]
   exact h2
  ·have hlt:cE l p<l.length:=by omega
   have hb:l[cE l p]?=some l[cE l p]:=List.getElem?_eq_getElem hlt
   have hm:pT l p=if (l[cE l p]).cat=p.cat then !decide ((l[cE l p]).bp=p.bp) else true:=by unfold pT;rw [hb]
   rw [hm] at h2
   have hb':(l.map ARow.enc)[cE l p]?=some l[cE l p].enc:=by rw [List.getElem?_map,hb];rfl
   have o:=hown (X:=⟨X.next+24,X.heap⟩) hh (by show S1.next≤X.next+24;omega)
   obtain ⟨a,ver,hv,_,_,e4,_,_⟩:=o.setK (hext (X:=⟨X.next+24,X.heap⟩) hh (by show S1.next≤X.next+24;omega)) w hb' .i64
   have l0:=o.ld hv hb' none 0
   have l1:=o.ld hv hb' none 1
   simp only [kk,ARow.enc] at l0 l1
   simp only [show ¬ ((cE l p:Nat):Int)=(l.length:Int) by omega,kk,if_false,e4,l0,l1,hr]
   by_cases c1:(l[cE l p]).cat=p.cat
   ·simp only [c1,if_true] at h2
    simp only [c1,BEq.rfl,kk,if_false]
    exact h2
   ·have c1':(!(l[cE l p].cat == p.cat))=true:=by simpa using c1
    simp only [c1,if_false] at h2
    simp only [c1',kk,if_true]
    exact h2
 refine aX l (step:=eP (fun r:ARow=>gC r p)) (fin:=id) (fun k n vs X=>n=k∧vs=[.int .i64 (k:Int)]∧X.heap=S1.heap∧S1.next≤X.next) (fun r=>r=cE l p) ?_ ?_ ⟨rfl,rfl,rfl,Nat.le_refl _⟩ rfl
 ·rintro k r m vs X hk ⟨rfl,rfl,hh,hn⟩ again' H'
  have hkl:=(List.getElem?_eq_some_iff.1 hk).1
  have hb':(l.map ARow.enc)[m]?=some r.enc:=by rw [List.getElem?_map,hk];rfl
  have o:=hown (X:=⟨X.next+12,X.heap⟩) hh (by show S1.next≤X.next+12;omega)
  obtain ⟨a,ver,hv,_,_,e4,_,_⟩:=o.setK (hext (X:=⟨X.next+12,X.heap⟩) hh (by show S1.next≤X.next+12;omega)) w hb' .i64
  have l0:=o.ld hv hb' (some 4) 0
  have hr:=hrow (X:=⟨X.next+12,X.heap⟩) hh
  simp only [kk,ARow.enc] at l0
  simp only [Part.enc] at hr
  simp only [eP] at H'
  simp only [aFa,kk,hlen,dG hk,if_true,e4,l0,hr,bPe,mZ (show m<1000000000 by omega)]
  cases c:gC r p<;>simp only [c,kk,if_true,if_false,Bool.false_eq_true] at H' ⊢
  ·have:=hj0 ⟨X.next+12,X.heap⟩ hh (by show S1.next≤X.next+12;omega)
   rw [←H'] at this
   exact this
  ·exact H' _ _ ⟨rfl,hh,by show S1.next≤X.next+12;omega⟩
 ·rintro m vs X ⟨rfl,rfl,hh,hn⟩ again' H'
  have H':l.length=cE l p:=H'
  simp only [aFa,kk,hlen,Int.lt_irrefl,if_false]
  have:=hj0 ⟨X.next+12,X.heap⟩ hh (by show S1.next≤X.next+12;omega)
  rw [←H'] at this
  exact this
def jF (a b:Date) (x:Posted):Bool:=!(x.day.before a)&&!(b.before x.day)
def cA (l:List Posted) (a b:Date):List Part:=(l.filter (jF a b)).flatMap (·.total.parts)
def bT (s:State) (a b:Date):List ARow×Int:=if cD s=false then ([],1) else if a.right=false then ([],9) else if b.right=false then ([],9) else match gI (cA s.posted a b) [] with
 | some l=>(l,0)
 | none=>([],7)
theorem aGr {s:State} (h:cD s=true) {a b:Date} (ha:a.right=true) (hb:b.right=true):(∃ l,gI (cA s.posted a b) []=some l∧bT s a b=(l,0))∨bT s a b=([],7):=by
 unfold bT
 rw [if_neg (by rw [h];decide),if_neg (by rw [ha];decide),if_neg (by rw [hb];decide)]
 cases e:gI (cA s.posted a b) [] with
 | some l=>exact .inl ⟨l,rfl,rfl⟩
 | none=>exact .inr rfl
theorem sB {s:State} {a b:Date} {l:List ARow} (h:bT s a b=(l,0)):cD s=true∧a.right=true∧b.right=true∧gI (cA s.posted a b) []=some l:=by
 unfold bT at h
 split at h
 ·cases h
 ·split at h
  ·cases h
  ·split at h
   ·cases h
   ·rename_i h1 h2 h3
    cases e:gI (cA s.posted a b) [] with
    | some l'=>rw [e] at h;cases h;exact ⟨by simpa using h1,by simpa using h2,by simpa using h3,rfl⟩
    | none=>rw [e] at h;cases h
theorem sC {l:List Posted} {a b:Date} {q:Part}:q∈cA l a b↔∃ p∈l,jF a b p=true∧q∈p.total.parts:=by
 unfold cA
 simp only [List.mem_flatMap,List.mem_filter]
 constructor
 ·rintro ⟨p,⟨h1,h2⟩,h3⟩;exact ⟨p,h1,h2,h3⟩
 ·rintro ⟨p,h1,h2,h3⟩;exact ⟨p,⟨h1,h2⟩,h3⟩
theorem uH {s:State} (h:xY s) (a b:Date):∀ q∈cA s.posted a b,fA q.net∧fA q.tax:=fun q hq=>by
 obtain ⟨p,hp,_,hq⟩:=sC.1 hq
 exact h p hp q hq
theorem aGs {s:State} (h:cD s=true) {p:Posted} (hp:p∈s.posted):p.day.right=true:=by
 obtain ⟨_,_,_,q4,_⟩:=(dJ _).1 h
 obtain ⟨i,hi⟩:=List.mem_iff_getElem?.1 hp
 exact (((nF _).1 q4).2.1 i p hi).1
theorem yD {α:Type} [BEq α] [LawfulBEq α]:∀ {l m:List α},l.Nodup→(∀ x∈l,x∈m)→l.length≤m.length
 | [],m,_,_=>Nat.zero_le _
 | x::l,m,h,hm=>by
  have hx:=hm x (List.mem_cons_self ..)
  have hn:=List.nodup_cons.1 h
  have:=yD (l:=l) (m:=m.erase x) hn.2 fun y hy=>(List.mem_erase_of_ne (fun e=>hn.1 (by rw [←e];exact hy))).2 (hm y (List.mem_cons_of_mem _ hy))
  rw [List.length_erase_of_mem hx] at this
  have hp:0<m.length:=List.length_pos_of_mem hx
  rw [List.length_cons];omega
theorem Rws.nodup {ps:List Part} {l:List ARow} (h:Rws ps l):(l.map ARow.key).Nodup:=by
 have:=List.pairwise_map.2 h.srt
 exact this.imp fun h=>uG h
theorem Rws.keys {ps:List Part} {l:List ARow} (h:Rws ps l) (κ:Key):κ∈l.map ARow.key↔∃ p∈ps,pk p=κ:=by
 rw [List.mem_map];exact h.mem κ
theorem aMh {ps qs:List Part} {l m:List ARow} (h:Rws ps l) (k:Rws qs m) (hs:∀ q∈ps,q∈qs):l.length≤m.length:=by
 have:=yD h.nodup (m:=m.map ARow.key) fun κ hκ=>by
  obtain ⟨p,hp,e⟩:=(h.keys κ).1 hκ
  exact (k.keys κ).2 ⟨p,hs p hp,e⟩
 simpa using this
theorem wP {a b c d:Date} (ha:a.right=true) (hb:b.right=true) (hc:c.right=true) (hd:d.right=true) (h1:a.days≤b.days) (h2:c.days=b.days+1) (h3:c.days≤d.days) {x:Posted} (hx:x.day.right=true):
  (jF a d x=true↔jF a b x=true∨jF c d x=true)∧¬ (jF a b x=true∧jF c d x=true):=by
 have e:∀ {p q:Date},p.right=true→q.right=true→(jF p q x=true↔p.days≤x.day.days∧x.day.days≤q.days):=fun {p q} hp hq=>by
  unfold jF Date.before
  rw [hp,hq,hx]
  simp only [Bool.true_and,Bool.and_eq_true,Bool.not_eq_true',decide_eq_false_iff_not]
  omega
 rw [e ha hd,e ha hb,e hc hd]
 omega
theorem aIp (p q:List Part) (κ:Key):rF (p++q) κ=rF p κ+rF q κ:=by simp [rF]
theorem aIq (p q:List Part) (κ:Key):rG (p++q) κ=rG p κ+rG q κ:=by simp [rG]
theorem sD (x:Posted) (l:List Posted) (a b:Date):cA (x::l) a b=(if jF a b x=true then x.total.parts else [])++cA l a b:=by
 unfold cA
 rw [List.filter_cons]
 split
 ·rw [List.flatMap_cons]
 ·rfl
theorem aIr {a b c d:Date} (ha:a.right=true) (hb:b.right=true) (hc:c.right=true) (hd:d.right=true) (h1:a.days≤b.days) (h2:c.days=b.days+1) (h3:c.days≤d.days) (κ:Key):∀ {l:List Posted},(∀ x∈l,x.day.right=true)→
  rF (cA l a d) κ=rF (cA l a b) κ+rF (cA l c d) κ∧rG (cA l a d) κ=rG (cA l a b) κ+rG (cA l c d) κ
 | [],_=>⟨rfl,rfl⟩
 | x::l,hl=>by
  obtain ⟨i1,i2⟩:=aIr ha hb hc hd h1 h2 h3 κ (l:=l) fun y hy=>hl y (List.mem_cons_of_mem _ hy)
  obtain ⟨j1,j2⟩:=wP ha hb hc hd h1 h2 h3 (hl x (List.mem_cons_self ..))
  have z:rF [] κ=0∧rG [] κ=0:=⟨rfl,rfl⟩
  rw [sD,sD,sD]
  simp only [aIp,aIq]
  by_cases c1:jF a b x=true
  ·have c2:¬ jF c d x=true:=fun q=>j2 ⟨c1,q⟩
   rw [if_pos c1,if_neg c2,if_pos (j1.2 (.inl c1)),z.1,z.2]
   omega
  ·by_cases c2:jF c d x=true
   ·rw [if_neg c1,if_pos c2,if_pos (j1.2 (.inr c2)),z.1,z.2]
    omega
   ·rw [if_neg c1,if_neg c2,if_neg (fun q=>(j1.1 q).elim c1 c2),z.1,z.2]
    omega
theorem aRi {a b c d:Date} (ha:a.right=true) (hb:b.right=true) (hc:c.right=true) (hd:d.right=true) (h1:a.days≤b.days) (h2:c.days=b.days+1) (h3:c.days≤d.days) {l:List Posted} (hl:∀ x∈l,x.day.right=true) (q:Part):
  q∈cA l a d↔q∈cA l a b∨q∈cA l c d:=by
 rw [sC,sC,sC]
 constructor
 ·rintro ⟨p,hp,hs,hq⟩
  rcases (wP ha hb hc hd h1 h2 h3 (hl p hp)).1.1 hs with h | h
  ·exact .inl ⟨p,hp,h,hq⟩
  ·exact .inr ⟨p,hp,h,hq⟩
 ·rintro (⟨p,hp,hs,hq⟩ | ⟨p,hp,hs,hq⟩)
  ·exact ⟨p,hp,(wP ha hb hc hd h1 h2 h3 (hl p hp)).1.2 (.inl hs),hq⟩
  ·exact ⟨p,hp,(wP ha hb hc hd h1 h2 h3 (hl p hp)).1.2 (.inr hs),hq⟩
def kZ (κ:Key) (st:Int×Int) (r:ARow):Int×Int:=if r.key=κ then (wr .i64 (st.1+r.net),wr .i64 (st.2+r.tax)) else st
theorem aMi {ps:List Part} {l:List ARow} (h:Rws ps l) (κ:Key) (st:Int×Int) (hs:fA st.1∧fA st.2):l.foldl (kZ κ) st=(wr .i64 (st.1+rF ps κ),wr .i64 (st.2+rG ps κ)):=by
 have miss:∀ (m:List ARow) (st:Int×Int),(∀ r∈m,r.key≠κ)→m.foldl (kZ κ) st=st:=by
  intro m
  induction m with
  | nil=>intro st _;rfl
  | cons r m ih=>
   intro st hm
   rw [List.foldl_cons]
   have:kZ κ st r=st:=if_neg (hm r (List.mem_cons_self ..))
   rw [this]
   exact ih st fun x hx=>hm x (List.mem_cons_of_mem _ hx)
 by_cases hk:∃ r∈l,r.key=κ
 ·obtain ⟨r,hr,e⟩:=hk
  obtain ⟨l1,l2,rfl⟩:=List.append_of_mem hr
  have hs:=h.srt
  rw [List.pairwise_append] at hs
  obtain ⟨_,h2,h3⟩:=hs
  have m1:∀ x∈l1,x.key≠κ:=fun x hx q=>uG (h3 x hx r (List.mem_cons_self ..)) (q.trans e.symm)
  have m2:∀ x∈l2,x.key≠κ:=fun x hx q=>uG ((List.pairwise_cons.1 h2).1 x hx) (e.trans q.symm)
  obtain ⟨s1,s2,_⟩:=h.sum r hr
  rw [List.foldl_append,miss l1 st m1,List.foldl_cons]
  have:kZ κ st r=(wr .i64 (st.1+r.net),wr .i64 (st.2+r.tax)):=if_pos e
  rw [this,miss l2 _ m2,s1,s2,e]
 ·have hn:∀ p∈ps,pk p≠κ:=fun p hp q=>hk ((h.mem κ).2 ⟨p,hp,q⟩)
  obtain ⟨z1,z2⟩:=aCb hn
  rw [miss l st fun r hr q=>hk ⟨r,hr,q⟩,z1,z2,Int.add_zero,Int.add_zero,fN hs.1,fN hs.2]
theorem aCc {l l':List ARow} {p:Part} (h:jZ l p=some l'):l'.length≤l.length+1:=by
 have hr:(fW l p).length≤l.length+1:=by
  unfold fW
  split
  ·rw [xN _ _ _ (yC l p)];exact Nat.le_refl _
  ·omega
 unfold jZ at h
 repeat' split at h
 all_goals first | cases h | skip
 rw [List.length_set];exact hr
def aAk (l:List ARow) (p:Part):Option (List ARow)⊕List ARow:=match jZ l p with
 | some l'=>.inr l'
 | none=>.inl none
theorem aEc:∀ (ps:List Part) (l:List ARow),aR aAk some ps l=gI ps l
 | [],l=>rfl
 | p::ps,l=>by
  simp only [aR,aAk,gI]
  cases jZ l p with
  | none=>rfl
  | some l'=>exact aEc ps l'
theorem aCd:∀ (ps qs:List Part) (l:List ARow),gI (ps++qs) l=match gI ps l with
  | some l'=>gI qs l'
  | none=>none
 | [],qs,l=>rfl
 | p::ps,qs,l=>by
  simp only [List.cons_append,gI]
  cases jZ l p with
  | none=>rfl
  | some l'=>exact aCd ps qs l'
def wQ (a b:Date) (l:List ARow) (x:Posted):(List ARow×Int)⊕List ARow:=
 if x.day.before a=true then .inr l else if b.before x.day=true then .inr l else match gI x.total.parts l with
  | some l'=>.inr l'
  | none=>.inl ([],7)
theorem nH (a b:Date):∀ (ps:List Posted) (l:List ARow),aR (wQ a b) (fun l=>(l,0)) ps l=match gI (cA ps a b) l with
  | some l'=>(l',0)
  | none=>([],7)
 | [],l=>rfl
 | x::ps,l=>by
  simp only [aR,wQ,cA,List.filter_cons,jF]
  by_cases c1:x.day.before a=true
  ·simp only [c1,if_true,Bool.not_true,Bool.false_and,Bool.false_eq_true,if_false]
   exact nH a b ps l
  ·by_cases c2:b.before x.day=true
   ·simp only [c1,c2,if_true,if_false,Bool.not_true,Bool.and_false,Bool.false_eq_true]
    exact nH a b ps l
   ·have c1':x.day.before a=false:=by simpa using c1
    have c2':b.before x.day=false:=by simpa using c2
    simp only [c1',c2',if_false,Bool.false_eq_true,Bool.not_false,Bool.and_self,if_true,List.flatMap_cons]
    rw [aCd]
    cases e:gI x.total.parts l with
    | none=>rfl
    | some l'=>exact nH a b ps l'
theorem g40 (s:State) (a b:Date) (S:St) (K:KW):C 40 [.agg [.imm (s.table.map Rate.enc),.imm (s.ser.map Ser.enc),.imm (s.posted.map Posted.enc),.imm (s.book.map Bal.enc),.imm (s.sess.map Sess.enc),.int .i64 s.next],.agg [.int .i64 a.y,.int .i64 a.m,.int .i64 a.d],.agg [.int .i64 b.y,.int .i64 b.m,.int .i64 b.d]] S K=
  K (.tup [.imm ((bT s a b).1.map ARow.enc),.int .i64 (bT s a b).2]) S:=by
 refine (v40 rfl ?_).eq S K
 simp only [m40,kk,iQ,g24 s,zZ]
 cases c1:cD s
 ·simp only [c1,kk,oo,if_true,List.map_nil,bT]
 cases c2:a.right
 ·simp only [c1,c2,kk,iQ,zZ,oo,if_true,Bool.true_eq_false,if_false,List.map_nil,bT]
 cases c3:b.right
 ·simp only [c1,c2,c3,kk,iQ,zZ,oo,if_true,Bool.true_eq_false,if_false,List.map_nil,bT]
 simp only [c1,c2,c3,kk,iQ,zZ,Bool.true_eq_false,if_false]
 obtain ⟨h40,hok⟩:=mC (nN c1)
 have hrun:aR (wQ a b) (fun l=>(l,0)) s.posted []=bT s a b:=by
  rw [nH]
  unfold bT
  rw [c1,c2,c3]
  simp only [Bool.true_eq_false,if_false]
  all_goals (cases gI (cA s.posted a b) []<;>rfl)
 obtain ⟨S0,hS0⟩:∃ S0:St,S0=⟨2+1,((Tr.nil.put 0 (.row 0 6 [s.enc])).put 1 (.row 0 3 [a.enc])).put 2 (.row 0 3 [b.enc])⟩:=⟨_,rfl⟩
 have w0:WF S0:=by rw [hS0];exact kX (n:=2) (kX (n:=1) (kX pS (by decide) (by decide)) (by decide) (by decide)) (by decide) (by decide)
 have n0:S0.next=3:=by rw [hS0]
 have ra:aI S0 1 0=.ok (3,[a.enc]):=by rw [hS0];rfl
 have rb:aI S0 2 0=.ok (3,[b.enc]):=by rw [hS0];rfl
 simp only [State.enc,Date.enc] at hS0 ra rb
 refine aX s.posted (step:=wQ a b) (fin:=fun l=>(l,0)) (fun i l vs S'=>∃ v,vs=[.nils,.int .i64 0,v,.int .i64 (i:Int)]∧Own S0 S' 4 v (l.map ARow.enc)∧Ext S0 S'∧l.length≤12*i) (fun r=>r=bT s a b) ?_ ?_ (s:=[]) ⟨_,rfl,Own.nil _ _ _,by rw [hS0];exact Ext.refl _,Nat.zero_le _⟩ hrun
 ·rintro i x l vs S' hi ⟨v,rfl,own,ex,hll⟩ aO H
  have hil:=(List.getElem?_eq_some_iff.1 hi).1
  have hxp:=iO (hok x (List.mem_of_getElem? hi)).2
  have hn:=ex.next
  obtain ⟨S1,hS1⟩:∃ S1:St,S1=⟨S'.next+1,(S'.heap.put S'.next (.row 0 12 [aCu])).put S'.next (.row 0 12 [x.enc])⟩:=⟨_,rfl⟩
  have x1:Ext S' S1:=by rw [hS1];exact Ext.var (ex.wf w0) 12 _ _
  have r1:aI S1 S'.next 0=.ok (12,[x.enc]):=by rw [hS1];exact aS _ _ _ _ _ _
  have ra1:=(ex.trans x1).row ra
  have rb1:=(ex.trans x1).row rb
  simp only [aCu,Posted.enc] at hS1
  simp only [Posted.enc] at r1
  simp only [wQ] at H
  simp only [aK3,kk,dG hi,if_true,qY hi,Posted.enc,←hS1,r1,ra1,rb1,aQc,mZ (show i<1000000000 by omega)]
  cases d1:x.day.before a
  rotate_left
  ·simp only [d1,kk,if_true] at H ⊢
   exact H _ _ ⟨v,rfl,own.ext x1,ex.trans x1,by omega⟩
  cases d2:b.before x.day
  rotate_left
  ·simp only [d1,d2,kk,Bool.false_eq_true,if_true,if_false] at H ⊢
   exact H _ _ ⟨v,rfl,own.ext x1,ex.trans x1,by omega⟩
  simp only [d1,d2,kk,Bool.false_eq_true,if_false] at H ⊢
  refine aX x.total.parts (step:=aAk) (fin:=some) (fun j l' vs S2=>∃ v',vs=[.nils,.int .i64 0,v',.int .i64 (j:Int)]∧Own S0 S2 4 v' (l'.map ARow.enc)∧Ext S0 S2∧l'.length≤12*i+j) (fun r=>r=gI x.total.parts l) ?_ ?_ (s:=l) ⟨v,rfl,own.ext x1,ex.trans x1,hll⟩ (aEc _ _)
  ·rintro j p l' vs S2 hj ⟨v',rfl,o2,e2,hl2⟩ again2 H2
   have hjl:=(List.getElem?_eq_some_iff.1 hj).1
   have x2:Ext S2 ⟨S2.next+1,(S2.heap.put S2.next (.row 0 4 [[.str [],.int .i64 0,.int .i64 0,.int .i64 0]])).put S2.next (.row 0 4 [p.enc])⟩:=Ext.var (e2.wf w0) 4 _ _
   simp only [Part.enc] at x2
   simp only [aAk] at H2
   simp only [aK2,kk,dG hj,if_true,tW hj,Part.enc]
   refine bPg (o2.ext x2) (e2.trans x2) w0 (by omega) p (fun l3 hl3 v3 S3 e3 o3=>?_) (fun hno S3 e3=>?_)
   ·rw [hl3] at H2
    have:=aCc hl3
    simp only [kk,mZ (show j<1000000000 by omega),not_true_eq_false,if_false]
    exact H2 _ _ ⟨v3,rfl,o3,e3,by omega⟩
   ·rw [hno] at H2
    have H2:none=gI x.total.parts l:=H2
    rw [←H2] at H
    have H:(([],7):List ARow×Int)=bT s a b:=H
    simp only [kk,show ¬ (7:Int)=0 by decide,not_false_eq_true,if_true,oo,←H,List.map_nil]
  ·rintro l' vs S2 ⟨v',rfl,o2,e2,hl2⟩ again2 H2
   have H2:some l'=gI x.total.parts l:=H2
   rw [←H2] at H
   simp only [aK2,kk,Int.lt_irrefl,if_false,mZ (show i<1000000000 by omega)]
   exact H _ _ ⟨v',rfl,o2,e2,by omega⟩
 ·rintro l vs S' ⟨v,rfl,own,ex,hll⟩ aO H
  have H:(l,(0:Int))=bT s a b:=H
  simp only [aK3,kk,Int.lt_irrefl,if_false,oo,own.out fun _=>rfl,←H]
def ofC (n:Int):Int:=min (n % 146097 / 36524) 3
def aCe (n:Int):Int:=n % 146097 - ofC n*36524
def ofF (n:Int):Int:=aCe n / 1461
def yE (n:Int):Int:=aCe n % 1461
def ofO (n:Int):Int:=min (yE n / 365) 3
def ofR (n:Int):Int:=yE n - ofO n*365
def sF (n:Int):Int:=n / 146097*400+1+(100*ofC n+4*ofF n+ofO n)
def aCf (y:Int) (rest:Int) (i:Nat):(Int×Int)⊕Int:=if cS y ((i:Int)+1)≤rest then .inr (rest - cS y ((i:Int)+1)) else .inl ((i:Int)+1,rest)
def aGt (n:Int):Int×Int:=aR (aCf (sF n)) (fun r=>(13,r)) (List.range 12) (ofR n)
def ofM (n:Int):Date:=⟨sF n,(aGt n).1,(aGt n).2+1⟩
theorem ofL (y:Int):∀ (k i:Nat) (rest:Int),0≤rest→rest<dH y (i+k) - dH y i→∃ j r,aR (aCf y) (fun r=>(13,r)) (List.range' i k) rest=(((j:Nat):Int)+1,r)∧i≤j∧j<i+k∧0≤r∧r<cS y ((j:Int)+1)∧dH y i+rest=dH y j+r
 | 0,i,rest,h0,h1=>by rw [Nat.add_zero] at h1;omega
 | k+1,i,rest,h0,h1=>by
  rw [List.range'_succ]
  unfold aR aCf
  by_cases c:cS y ((i:Int)+1)≤rest
  ·rw [if_pos c]
   have hm:dH y (i+1)=dH y i+cS y ((i:Int)+1):=rfl
   obtain ⟨j,r,e,h2,h3,h4,h5,h6⟩:=ofL y k (i+1) (rest - cS y ((i:Int)+1)) (by omega) (by rw [hm,show i+1+k=i+(k+1) by omega];omega)
   exact ⟨j,r,e,by omega,by omega,h4,h5,by rw [hm] at h6;omega⟩
  ·rw [if_neg c]
   exact ⟨i,rest,rfl,Nat.le_refl _,by omega,h0,by omega,rfl⟩
theorem aRj {q c f o:Int} (c0:0≤c) (c3:c≤3) (f0:0≤f) (f24:f≤24) (o0:0≤o) (o3:o≤3):(q*400+1+(100*c+4*f+o) - 1) / 4=100*q+25*c+f∧(q*400+1+(100*c+4*f+o) - 1) / 100=4*q+c∧(q*400+1+(100*c+4*f+o) - 1) / 400=q:=by
 refine ⟨?_,?_,?_⟩<;>omega
theorem aMj {n:Int} (h0:0≤n) (h1:n<3652059):1≤sF n∧sF n≤9999∧0≤ofR n∧ofR n<365+(if aGb (sF n)=true then 1 else 0)∧365*(sF n - 1)+(sF n - 1) / 4 - (sF n - 1) / 100+(sF n - 1) / 400+ofR n=n:=by
 obtain ⟨q,hq⟩:∃ q,q=n / 146097:=⟨_,rfl⟩
 obtain ⟨m,hm⟩:∃ m,m=n % 146097:=⟨_,rfl⟩
 obtain ⟨c,hc⟩:∃ c,c=ofC n:=⟨_,rfl⟩
 obtain ⟨r1,hr1⟩:∃ r,r=aCe n:=⟨_,rfl⟩
 obtain ⟨f,hf⟩:∃ f,f=ofF n:=⟨_,rfl⟩
 obtain ⟨r2,hr2⟩:∃ r,r=yE n:=⟨_,rfl⟩
 obtain ⟨o,ho⟩:∃ o,o=ofO n:=⟨_,rfl⟩
 obtain ⟨r,hr⟩:∃ r,r=ofR n:=⟨_,rfl⟩
 have e1:c=min (m / 36524) 3:=by rw [hc,hm];rfl
 have e2:r1=m - c*36524:=by rw [hr1,hm,hc];rfl
 have e3:f=r1 / 1461:=by rw [hf,hr1];rfl
 have e4:r2=r1 % 1461:=by rw [hr2,hr1];rfl
 have e5:o=min (r2 / 365) 3:=by rw [ho,hr2];rfl
 have e6:r=r2 - o*365:=by rw [hr,hr2,ho];rfl
 have ey:sF n=q*400+1+(100*c+4*f+o):=by rw [hq,hc,hf,ho];rfl
 have b1:0≤m∧m<146097∧n=146097*q+m:=by omega
 have b2:0≤c∧c≤3∧0≤r1∧(c<3→r1<36524)∧r1<36525:=by omega
 have b3:0≤f∧f≤24∧0≤r2∧r2<1461∧r1=1461*f+r2:=by omega
 have b4:0≤o∧o≤3∧0≤r∧(o<3→r<365)∧r≤365∧r2=365*o+r:=by omega
 have b5:0≤q∧q≤24:=by omega
 have hy:1≤sF n∧sF n≤9999:=by rw [ey];omega
 refine ⟨hy.1,hy.2,by rw [←hr];exact b4.2.2.1,?_,?_⟩
 ·rw [←hr,aMc (by omega)]
  by_cases hb:r<365
  ·split<;>omega
  ·have k1:r=365∧o=3:=by omega
   have k2:f=24→c=3:=fun hf=>by omega
   have k3:sF n % 4=0∧(sF n % 100≠0∨sF n % 400=0):=by rw [ey];omega
   rw [if_pos (decide_eq_true k3)]
   omega
 ·obtain ⟨d1,d2,d3⟩:=aRj (q:=q) b2.1 b2.2.1 b3.1 b3.2.1 b4.1 b4.2.1
  rw [←hr,ey,d1,d2,d3]
  omega
theorem aAl {n:Int} (h0:0≤n) (h1:n<3652059):(ofM n).right=true∧(ofM n).days=n:=by
 obtain ⟨y1,y2,r0,r1,e⟩:=aMj h0 h1
 have h12:=aC3 (sF n)
 obtain ⟨j,r,hrun,j0,j12,q0,q1,q2⟩:=ofL (sF n) 12 0 (ofR n) r0 (by
  show ofR n<dH (sF n) 12 - 0
  rw [h12];omega)
 have hmd:aGt n=((j:Int)+1,r):=by
  unfold aGt
  rw [List.range_eq_range']
  exact hrun
 have hr:(ofM n).right=true:=by
  rw [sA]
  unfold ofM
  rw [hmd]
  refine ⟨y1,y2,?_,?_,?_,?_⟩
  ·show 1≤(j:Int)+1;omega
  ·show (j:Int)+1≤12;omega
  ·show 1≤r+1;omega
  ·show r+1≤cS (sF n) ((j:Int)+1);omega
 refine ⟨hr,?_⟩
 rw [aGn hr]
 have hm:((ofM n).m - 1).toNat=j:=by
  unfold ofM
  rw [hmd]
  show ((j:Int)+1 - 1).toNat=j
  omega
 rw [hm]
 have hy:(ofM n).y=sF n:=rfl
 have hd:(ofM n).d=r+1:=by unfold ofM;rw [hmd]
 rw [hy,hd]
 have q3:dH (sF n) 0=0:=rfl
 rw [q3] at q2
 omega
theorem Rws.I64sum {ps:List Part} {l:List ARow} (h:Rws ps l) (κ:Key):fA (rF ps κ)∧fA (rG ps κ):=by
 by_cases hk:∃ r∈l,r.key=κ
 ·obtain ⟨r,hr,e⟩:=hk
  obtain ⟨s1,s2,i1,i2⟩:=h.sum r hr
  rw [←e,←s1,←s2]
  exact ⟨i1,i2⟩
 ·obtain ⟨z1,z2⟩:=aCb (κ:=κ) fun p hp q=>hk ((h.mem κ).2 ⟨p,hp,q⟩)
  rw [z1,z2]
  exact ⟨by constructor<;>decide,by constructor<;>decide⟩
theorem aOj {s:State} (hi:xY s) {a b c d:Date} {x y z:List ARow} (hx:bT s a b=(x,0)) (hy:bT s c d=(y,0)) (hz:bT s a d=(z,0)) (h1:a.days≤b.days) (h2:c.days=b.days+1) (h3:c.days≤d.days):
  (∀ r∈z,y.foldl (kZ r.key) (x.foldl (kZ r.key) (0,0))=(r.net,r.tax))∧z.length≤x.length+y.length∧x.length≤z.length∧y.length≤z.length:=by
 obtain ⟨r0,ra,rb,x1⟩:=sB hx
 obtain ⟨_,rc,rd,y1⟩:=sB hy
 obtain ⟨_,_,_,z1⟩:=sB hz
 have X:=yB (uH hi a b) x1
 have Y:=yB (uH hi c d) y1
 have Z:=yB (uH hi a d) z1
 have hp:∀ p∈s.posted,p.day.right=true:=fun p hp=>aGs r0 hp
 have hm:=fun q=>aRi ra rb rc rd h1 h2 h3 hp q
 refine ⟨fun r hr=>?_,?_,aMh X Z fun q hq=>(hm q).2 (.inl hq),aMh Y Z fun q hq=>(hm q).2 (.inr hq)⟩
 ·obtain ⟨e1,e2⟩:=aIr ra rb rc rd h1 h2 h3 r.key hp
  obtain ⟨s1,s2,i1,i2⟩:=Z.sum r hr
  obtain ⟨j1,j2⟩:=X.I64sum r.key
  rw [aMi X r.key (0,0) ⟨by constructor<;>decide,by constructor<;>decide⟩]
  simp only [Int.zero_add,fN j1,fN j2]
  rw [aMi Y r.key _ ⟨j1,j2⟩,←e1,←e2,←s1,←s2,fN i1,fN i2]
 ·have:=yD Z.nodup (m:=x.map ARow.key++y.map ARow.key) fun κ hκ=>by
   obtain ⟨p,hp,e⟩:=(Z.keys κ).1 hκ
   rw [List.mem_append]
   rcases (hm p).1 hp with q | q
   ·exact .inl ((X.keys κ).2 ⟨p,q,e⟩)
   ·exact .inr ((Y.keys κ).2 ⟨p,q,e⟩)
  rw [List.length_append,List.length_map,List.length_map,List.length_map] at this
  exact this
theorem uJ {l:List ARow} {i:Nat} {a:ARow} (hi:l[i]?=some a) (k:IntKind):cU 4 (.imm (l.map ARow.enc)) (.int k (i:Int))=.ok (.iptr a.enc 0):=ixI (enc:=ARow.enc) hi rfl k
theorem aOk (l:List Call) (n:Nat):∀ c∈qU l n,c.cmd.lines.length<1000000:=fun c hc=>by
 obtain ⟨d,_,rfl⟩:=List.mem_map.1 hc
 show (d.cmd.lines.take 15).length<1000000
 rw [List.length_take];omega
theorem a35 (l:List Call) (n:Nat) (hn:n≤1000) (S:St) (K:KW):C 35 [.agg [.imm [],.imm [],.imm [],.imm [],.imm [],.int .i64 1],.imm ((qU l n).map Call.enc)] S K=
  K (.tup [.agg [.imm ((playM State.new (qU l n)).1.table.map Rate.enc),.imm ((playM State.new (qU l n)).1.ser.map Ser.enc),.imm ((playM State.new (qU l n)).1.posted.map Posted.enc),.imm ((playM State.new (qU l n)).1.book.map Bal.enc),.imm ((playM State.new (qU l n)).1.sess.map Sess.enc),.int .i64 (playM State.new (qU l n)).1.next],.imm ((playM State.new (qU l n)).2.map Rep.enc)]) S:=
 g35 State.new (qU l n) Sml.new (by have:=aQb l n;omega) (aOk l n) S K
def uK:List (List UInt8×Int)→List UInt8→List (List UInt8×Int)
 | [],s=>[(s,1)]
 | (t,n)::l,s=>if t=s then (t,n+1)::l else (t,n)::uK l s
def jG:List (List UInt8×Int)→List UInt8→Int
 | [],_=>0
 | (t,n)::l,s=>if t=s then n else jG l s
def oO:List (List UInt8×Int)→List UInt8→Option Nat
 | [],_=>none
 | (t,_)::l,s=>if t=s then some 0 else (oO l s).map (·+1)
def pM (l:List (List UInt8×Int)):List (V×V):=l.map fun x=>(.str x.1,.int .i64 x.2)
theorem uL:∀ (l:List (List UInt8×Int)) (s t:List UInt8),jG (uK l s) t=jG l t+if s=t then 1 else 0
 | [],s,t=>by simp only [uK,jG];split<;>simp
 | (u,n)::l,s,t=>by
  simp only [uK]
  by_cases c:u=s
  ·rw [if_pos c]
   simp only [jG]
   subst c
   split<;>simp
  ·rw [if_neg c]
   simp only [jG,uL l s t]
   by_cases c2:u=t
   ·subst c2
    rw [if_pos rfl,if_pos rfl,if_neg fun e=>c e.symm,Int.add_zero]
   ·rw [if_neg c2,if_neg c2]
theorem aRk (s:List UInt8):∀ (l:List (List UInt8×Int)) (i:Nat),yH s (pM l) i=some ((oO l s).map fun j=>(i+j,V.int .i64 (jG l s)))
 | [],i=>rfl
 | (t,n)::l,i=>by
  simp only [pM,List.map_cons,yH,oO,jG]
  rw [dI,cond_eq_ite]
  by_cases c:t=s
  ·subst c
   simp
  ·have h2:¬ (s == t)=true:=by simpa using fun e=>c e.symm
   rw [if_neg h2,if_neg c,if_neg c]
   have:=aRk s l (i+1)
   simp only [pM] at this
   rw [this]
   cases oO l s with
   | none=>rfl
   | some j=>simp only [Option.map_some];congr 3;omega
theorem wS:∀ {l:List (List UInt8×Int)} {s:List UInt8},oO l s=none→jG l s=0∧pM l++[(.str s,.int .i64 1)]=pM (uK l s)
 | [],s,_=>⟨rfl,rfl⟩
 | (t,n)::l,s,h=>by
  simp only [oO] at h
  split at h
  ·cases h
  ·rename_i c
   have h':oO l s=none:=by cases e:oO l s with
    | none=>rfl
    | some j=>rw [e] at h;cases h
   obtain ⟨h1,h2⟩:=wS h'
   simp only [jG,uK,if_neg c]
   exact ⟨h1,by simp only [pM,List.map_cons,List.cons_append] at h2 ⊢;rw [h2]⟩
theorem aIt:∀ {l:List (List UInt8×Int)} {s:List UInt8} {j:Nat},oO l s=some j→(pM l).set j (.str s,.int .i64 (jG l s+1))=pM (uK l s)
 | (t,n)::l,s,j,h=>by
  simp only [oO] at h
  split at h
  ·rename_i c
   cases h
   subst c
   simp only [jG,uK,if_true,pM,List.map_cons,List.set_cons_zero]
  ·rename_i c
   cases e:oO l s with
   | none=>rw [e] at h;cases h
   | some k=>
    rw [e] at h
    cases h
    have:=aIt e
    simp only [jG,uK,if_neg c,pM,List.map_cons,List.set_cons_succ] at this ⊢
    rw [this]
theorem aMk:aOr prog 199=some 3:=by kernel_rfl
theorem bGo:eS prog 3=some (.int .i64 0):=by kernel_rfl
theorem aMl {S:St} {a:Nat} {l:List (List UInt8×Int)} (h:S.heap.get a=some (.mp (pM l))) (s:List UInt8):lE prog 199 (.mp a) (.str s) false S=.ok (.int .i64 (jG l s)):=by
 simp only [lE,aMk,wV,h,aRk]
 cases e:oO l s with
 | none=>simp only [Option.map_none,bGo,okV,(wS e).1];rfl
 | some j=>simp only [Option.map_some,okV];rfl
theorem bBq {S:St} {a:Nat} {l:List (List UInt8×Int)} (h:S.heap.get a=some (.mp (pM l))) (s:List UInt8):eU prog 199 (.mp a) (.str s) (.int .i64 (jG l s+1)) S=.ok ⟨S.next,S.heap.put a (.mp (pM (uK l s)))⟩:=by
 simp only [eU,aMk,h,aRk]
 cases e:oO l s with
 | none=>simp only [Option.map_none,←(wS e).2,(wS e).1];rfl
 | some j=>simp only [Option.map_some,Nat.zero_add,aIt e]
theorem g42 (l:List Posted) (hl:l.length<1000000) (S:St) (K:KW):C 42 [.imm (l.map Posted.enc)] S K=K (.int .i64 (aCa l)) S:=by
 refine (v42 rfl ?_).eq S K
 simp only [m42,kk]
 refine aX l (step:=bBo) (fin:=fun _=>-1) (fun i done vs S=>∃ kv,vs=[.int .i64 0,.int .i64 (i:Int)]∧S.heap.get 0=some (.mp (pM kv))∧0<S.next∧(∀ s,jG kv s=xU done s)∧done.length=i) (fun r=>r=aCa l) ?_ ?_ (s:=[]) ⟨[],rfl,rfl,by decide,fun _=>rfl,rfl⟩ rfl
 ·rintro i p done vs S hi ⟨kv,rfl,hm,h0,hc,hdl⟩ aO H
  have hil:=(List.getElem?_eq_some_iff.1 hi).1
  have hb:=aXu done p.ref.ser
  have hb0:=aC5 done p.ref.ser
  have hm1:∀ (m:Nat) (b c:Blk),(⟨m,(S.heap.put S.next b).put S.next c⟩:St).heap.get 0=some (.mp (pM kv)):=fun m b c=>by
   show ((S.heap.put S.next b).put S.next c).get 0=_
   rw [Tr.get_put_neB _ _ _ _ trivial (by omega),Tr.get_put_neB _ _ _ _ trivial (by omega)];exact hm
  have hw:wr .i64 (jG kv p.ref.ser+1)=jG kv p.ref.ser+1:=by rw [hc];exact eM (by omega) (by omega)
  simp only [aK4,kk,dG hi,if_true,qY hi,Posted.enc]
  obtain ⟨S1,hS1⟩:∃ S1:St,S1=⟨S.next+1,(S.heap.put S.next (.row 0 12 [aCu])).put S.next (.row 0 12 [p.enc])⟩:=⟨_,rfl⟩
  have m1:S1.heap.get 0=some (.mp (pM kv)):=by rw [hS1];exact hm1 _ _ _
  have r1:aI S1 S.next 0=.ok (12,[p.enc]):=by rw [hS1];exact aS _ _ _ _ _ _
  have m2:(⟨S1.next,S1.heap.put 0 (.mp (pM (uK kv p.ref.ser)))⟩:St).heap.get 0=some (.mp (pM (uK kv p.ref.ser))):=Tr.get_put_sameB _ _ _ trivial
  have r2:aI ⟨S1.next,S1.heap.put 0 (.mp (pM (uK kv p.ref.ser)))⟩ S.next 0=.ok (12,[p.enc]):=bI r1 (Tr.get_put_neB _ _ _ _ trivial (by omega))
  have l2:jG (uK kv p.ref.ser) p.ref.ser=xU done p.ref.ser+1:=by rw [uL,if_pos rfl,hc]
  simp only [aCu,Posted.enc] at hS1
  simp only [Posted.enc] at r1 r2
  simp only [←hS1,r1,kk,aMl m1,hw,bBq m1,r2,aMl m2,l2,mZ (show i<1000000000 by omega)]
  simp only [bBo] at H
  by_cases c:p.ref.num=xU done p.ref.ser+1
  ·simp only [c,if_true] at H
   simp only [c,kk,not_true_eq_false,if_false]
   refine H _ _ ⟨uK kv p.ref.ser,rfl,m2,by rw [hS1];show 0<S.next+1;omega,fun s=>?_,by simp [hdl]⟩
   rw [uL,mF,wL,hc]
  ·simp only [c,if_false] at H
   simp only [c,kk,not_false_eq_true,if_true,oo,←H,hdl]
 ·rintro done vs S ⟨kv,rfl,hm,h0,hc,hdl⟩ aO H
  have H:(-1:Int)=aCa l:=H
  simp only [aK4,kk,Int.lt_irrefl,if_false,oo,←H]
theorem ARow.ext_iff (a b:ARow):(a=b)=(((a.cat=b.cat∧a.bp=b.bp)∧a.net=b.net)∧a.tax=b.tax):=by
 obtain ⟨_,_,_,_⟩:=a;obtain ⟨_,_,_,_⟩:=b;simp [and_assoc]
theorem bPi (l r:List ARow) (hb:l.length<1000000) (S:St) (K:KW):C 130 [.imm (l.map ARow.enc),.imm (r.map ARow.enc)] S K=K (.bool (decide (l=r))) S:=by
 refine (bL0 rfl ?_).eq S K
 simp only [aT4,kk]
 by_cases h:l.length=r.length
 ·simp only [show (l.length:Int)=(r.length:Int) by omega,kk,not_true_eq_false,if_false]
  refine aX l (step:=pH r) (fin:=fun _=>true) (fun i n vs S=>n=i∧vs=[.bool false,.int .i64 (i:Int)]) (fun x=>x=decide (l=r)) ?_ ?_ (s:=0) ⟨rfl,rfl⟩ (eqL h)
  ·rintro i p n vs S hi ⟨rfl,rfl⟩ aO H
   have hil:=(List.getElem?_eq_some_iff.1 hi).1
   have hj:r[n]?=some r[n]:=List.getElem?_eq_getElem (by omega)
   have hlt:((n:Int)<(r.length:Int))=True:=dG hj
   simp only [pH,hj,Option.some.injEq,ARow.ext_iff] at H
   simp only [aFb,kk,dG hi,hlt,uJ hi,uJ hj,ARow.enc,mZ (show n<1000000000 by omega),oo]
   grind
  ·rintro n vs S ⟨rfl,rfl⟩ aO H
   simp only [aFb,kk,h,Int.lt_irrefl,if_false,oo,←H]
 ·simp only [show ¬ (l.length:Int)=(r.length:Int) by omega,kk,not_false_eq_true,if_true,oo]
  have:decide (l=r)=false:=by simpa using fun e=>h (by rw [e])
  rw [this]
end Go.Proofs.YtoaibmbldmckaaaGreat
end
section
namespace Go.AM
theorem Own.made {n:Nat} {S:St} {es:List (List V)} (h:∀ c,c∈es→c.length=n∧aN c=true):Own E0 ⟨S.next+1,S.heap.put S.next (.row 0 n es)⟩ n (.sl S.next 0 n 0 es.length) es:=
 ⟨.inr ⟨S.next,0,[],rfl,Nat.zero_le _,Nat.lt_succ_self _,by rw [List.append_nil];exact Tr.get_put_sameB _ _ _ trivial⟩,h⟩
end Go.AM
namespace Go.Proofs.YtoaibmbldmckaaaGreat
open Go.AM Tryz
set_option linter.unusedVariables false
set_option linter.unusedSimpArgs false
set_option maxRecDepth 100000
theorem g46 (n:Int) (S:St) (K:KW):C 46 [.int .i64 n] S K=K (.agg [.int .i64 2026,.int .i64 11,.int .i64 n]) S:=by
 refine (v46 rfl ?_).eq S K
 simp only [m46,kk,oo]
theorem bPj (s:List UInt8) (n:Int) (S:St) (K:KW):C 129 [.str s,.int .i64 n] S K=K (.agg (Posted.enc ⟨⟨s,n⟩,⟨0,0,0⟩,⟨0,0,0,[]⟩,Ref.zero,false⟩)) S:=by
 refine (bKz rfl ?_).eq S K
 simp only [aT2,kk,oo]
 rfl
def aCg (n:Int):Call:=⟨1,n,⟨4,[97],0,⟨[],⟨0,0,0⟩,0⟩,⟨2026,11,15⟩,[⟨[],[115,116,100],1,100⟩],Ref.zero,0⟩⟩
theorem bGp:gU prog 128=some none:=by kernel_rfl
theorem bPk (n:Int) (S:St) (K:KW):C 128 [.int .i64 n] S K=K (.agg (aCg n).enc) S:=by
 refine (bKy rfl ?_).eq S K
 simp only [aT0,kk,g46,aQg,oo]
 rfl
theorem bBr (z:List V) (parts:List (Nat×V)) (fr:Option Nat) (S:St):aQ 12 z 3 parts fr S=(match sE 12 [z,z,z] parts with
  | .error e=>.error e
  | .ok elems=>match aK fr S (.row 0 12 elems) with
   | .error e=>.error e
   | .ok (a,S')=>.ok (.sl a 0 12 0 3,S')):=by unfold aQ;rw [if_pos (by decide)];rfl
theorem bBs (z:List V) (parts:List (Nat×V)) (fr:Option Nat) (S:St):aQ 12 z 2 parts fr S=(match sE 12 [z,z] parts with
  | .error e=>.error e
  | .ok elems=>match aK fr S (.row 0 12 elems) with
   | .error e=>.error e
   | .ok (a,S')=>.ok (.sl a 0 12 0 2,S')):=by unfold aQ;rw [if_pos (by decide)];rfl
theorem bBt (z:List V) (parts:List (Nat×V)) (fr:Option Nat) (S:St):aQ 17 z 7 parts fr S=(match sE 17 [z,z,z,z,z,z,z] parts with
  | .error e=>.error e
  | .ok elems=>match aK fr S (.row 0 17 elems) with
   | .error e=>.error e
   | .ok (a,S')=>.ok (.sl a 0 17 0 7,S')):=by unfold aQ;rw [if_pos (by decide)];rfl
theorem a42 (S:St) (l:List Posted) (hl:l.length<1000000) (K:KW):C 42 [.sl S.next 0 12 0 l.length] ⟨S.next+1,S.heap.put S.next (.row 0 12 (l.map Posted.enc))⟩ K=K (.int .i64 (aCa l)) ⟨S.next+1,S.heap.put S.next (.row 0 12 (l.map Posted.enc))⟩:=by
 have o:=Own.made (n:=12) (S:=S) (es:=l.map Posted.enc) fun c hc=>by obtain ⟨x,_,rfl⟩:=List.mem_map.1 hc;exact aBv x
 rw [List.length_map] at o
 have h:=o.out fun _=>rfl
 exact (Fn.back fun S K=>g42 l hl S K).frz bKo rfl (by simp only [frzVs,h]) (by simp only [ptrsVs,o.ptrs];rfl) (.inl rfl) K
theorem bPm (S:St) (r l:List ARow) (hl:r.length<1000000) (K:KW):C 130 [.imm (r.map ARow.enc),.sl S.next 0 4 0 l.length] ⟨S.next+1,S.heap.put S.next (.row 0 4 (l.map ARow.enc))⟩ K=K (.bool (decide (r=l))) ⟨S.next+1,S.heap.put S.next (.row 0 4 (l.map ARow.enc))⟩:=by
 have o:=Own.made (n:=4) (S:=S) (es:=l.map ARow.enc) fun c hc=>by obtain ⟨x,_,rfl⟩:=List.mem_map.1 hc;exact aYc x
 rw [List.length_map] at o
 have h:=o.out fun _=>rfl
 exact (Fn.back fun S K=>bPi r l hl S K).frz bEi rfl (by simp only [frzVs,pC (.imm (r.map ARow.enc)) rfl,h]) (by simp only [ptrsVs,qB,o.ptrs];rfl) (.inl rfl) K
def aMm:Rate:=⟨[],⟨0,0,0⟩,0⟩
def aRl:List Call:=[⟨0,0,⟨6,[],0,aMm,⟨0,0,0⟩,[],Ref.zero,0⟩⟩,⟨1,1,⟨3,[],0,⟨[115,116,100],⟨2000,1,1⟩,1900⟩,⟨0,0,0⟩,[],Ref.zero,0⟩⟩,⟨1,2,⟨1,[97],2,aMm,⟨0,0,0⟩,[],Ref.zero,0⟩⟩,aCg 3,aCg 4,
 ⟨1,6,⟨1,[98],9,aMm,⟨0,0,0⟩,[],Ref.zero,0⟩⟩,⟨1,7,⟨5,[98],0,aMm,⟨2026,11,15⟩,[],⟨[97],1⟩,0⟩⟩]
def Call.mem (c:Call):List V:=match c.cmd.lines with
 | []=>c.enc.set 13 .nils
 | _=>c.enc
def d15:Date:=⟨2026,11,15⟩
def d16:Date:=⟨2026,11,16⟩
theorem g44 (S:St) (K:KW):C 44 [] S K=K (.bool true) S:=by
 refine (v44 rfl ?_).eq S K
 obtain ⟨s,hs⟩:∃ s,s=(playM State.new aRl).1:=⟨_,rfl⟩
 have r15:bT s d15 d15=([⟨[115,116,100],1900,100,19⟩],0):=by rw [hs];kernel_rfl
 have r16:bT s d16 d16=([],0):=by rw [hs];kernel_rfl
 have h15:=fun S K=>g40 s d15 d15 S K
 have h16:=fun S K=>g40 s d16 d16 S K
 simp only [r15,r16] at h15 h16
 simp only [d15,d16,List.map_nil,List.map_cons] at h15 h16
 have e3:(oJ (aCg 3).enc 17&&aN (aCg 3).enc)=true:=rfl
 have e4:(oJ (aCg 4).enc 17&&aN (aCg 4).enc)=true:=rfl
 simp only [m44,kk,g31,g46,rY _ _ _ _ _ _ _ _ bGp,List.nil_append,List.append_nil,bPk,bBt,e3,e4]
 obtain ⟨S1,hS1⟩:∃ S1:St,S1=⟨1,Tr.nil.put 0 (.row 0 17 (aRl.map Call.mem))⟩:=⟨_,rfl⟩
 obtain ⟨h',_,hC⟩:=(Fn.back fun S K=>g35 State.new aRl Sml.new (by decide) (by decide) S K).cutE (S:=S1) (args:=[.agg [.imm [],.imm [],.imm [],.imm [],.imm [],.int .i64 1],.sl 0 0 17 0 7]) bKn rfl (by rw [hS1];rfl) (by rfl)
 rw [←hs] at hC
 have key:=hC
 rw [hS1] at key
 refine Eq.mpr (key _) ?_
 have n1:S1.next=1:=by rw [hS1]
 simp only [n1,kk]
 obtain ⟨S2,hS2⟩:∃ S2:St,S2=⟨1+1+9,(h'.put 1 (.row 0 6 [[.nils,.nils,.nils,.nils,.nils,.int .i64 0]])).put 1 (.row 0 6 [s.enc])⟩:=⟨_,rfl⟩
 have r1:aI S2 1 0=.ok (6,[s.enc]):=by rw [hS2];exact aS _ _ _ _ _ _
 simp only [State.enc] at hS2 r1
 have g3:aCa [⟨⟨[97],1⟩,⟨0,0,0⟩,⟨0,0,0,[]⟩,Ref.zero,false⟩,⟨⟨[98],1⟩,⟨0,0,0⟩,⟨0,0,0,[]⟩,Ref.zero,false⟩,⟨⟨[97],2⟩,⟨0,0,0⟩,⟨0,0,0,[]⟩,Ref.zero,false⟩]=-1:=by kernel_rfl
 have g2:aCa [⟨⟨[97],1⟩,⟨0,0,0⟩,⟨0,0,0,[]⟩,Ref.zero,false⟩,⟨⟨[97],3⟩,⟨0,0,0⟩,⟨0,0,0,[]⟩,Ref.zero,false⟩]=1:=by kernel_rfl
 have g1:aCa [⟨⟨[97],2⟩,⟨0,0,0⟩,⟨0,0,0,[]⟩,Ref.zero,false⟩]=0:=by kernel_rfl
 have c3:=fun n h K=>a42 ⟨n,h⟩ [⟨⟨[97],1⟩,⟨0,0,0⟩,⟨0,0,0,[]⟩,Ref.zero,false⟩,⟨⟨[98],1⟩,⟨0,0,0⟩,⟨0,0,0,[]⟩,Ref.zero,false⟩,⟨⟨[97],2⟩,⟨0,0,0⟩,⟨0,0,0,[]⟩,Ref.zero,false⟩] (by decide) K
 have c2:=fun n h K=>a42 ⟨n,h⟩ [⟨⟨[97],1⟩,⟨0,0,0⟩,⟨0,0,0,[]⟩,Ref.zero,false⟩,⟨⟨[97],3⟩,⟨0,0,0⟩,⟨0,0,0,[]⟩,Ref.zero,false⟩] (by decide) K
 have c1:=fun n h K=>a42 ⟨n,h⟩ [⟨⟨[97],2⟩,⟨0,0,0⟩,⟨0,0,0,[]⟩,Ref.zero,false⟩] (by decide) K
 have c0:=fun n h K=>bPm ⟨n,h⟩ [⟨[115,116,100],1900,100,19⟩] [⟨[115,116,100],1900,100,19⟩] (by decide) K
 simp only [g3,g2,g1,List.map_cons,List.map_nil,List.length_cons,List.length_nil,Posted.enc,ARow.enc,Nat.zero_add,Nat.reduceAdd] at c3 c2 c1 c0
 simp only [←hS2,h15,kk,gm,r1,h16,bPj,bBr,bBs,Posted.enc]
 refine Eq.mpr (c3 _ _ _) ?_
 simp only [kk,if_true]
 refine Eq.mpr (c2 _ _ _) ?_
 simp only [kk,if_true,aY3]
 refine Eq.mpr (c1 _ _ _) ?_
 simp only [kk,if_true,aQg]
 refine Eq.mpr (c0 _ _ _) ?_
 simp only [kk,if_true,oo,List.length_nil]
 rfl
end Go.Proofs.YtoaibmbldmckaaaGreat
end
section
namespace Go.Proofs.YtoaibmbldmckaaaGreat
open Go.AM Tryz
theorem aCh {s:State} {a b:Date} {rows:List ARow} (hr:bT s a b=(rows,0)):rows.length<100000:=by
 have h2:=sB hr
 obtain ⟨h40',hok⟩:=mC (nN h2.1)
 have:∀ (ps:List Part) (l l':List ARow),gI ps l=some l'→l'.length≤l.length+ps.length:=by
  intro ps
  induction ps with
  | nil=>intro l l' h;cases h;exact Nat.le_refl _
  | cons p ps ih=>
   intro l l' h
   simp only [gI] at h
   split at h
   ·rename_i l1 he
    have:=aCc he
    have:=ih _ _ h
    simp only [List.length_cons];omega
   ·cases h
 have h3:=this _ _ _ h2.2.2.2
 have h4:∀ ps:List Posted,(∀ p∈ps,p.total.parts.length≤12)→(cA ps a b).length≤12*ps.length:=by
  intro ps
  induction ps with
  | nil=>intro _;exact Nat.le_refl _
  | cons p ps ih=>
   intro h
   have h5:=h p (List.mem_cons_self ..)
   have h6:=ih fun q hq=>h q (List.mem_cons_of_mem _ hq)
   rw [sD]
   simp only [List.length_append,List.length_cons]
   split<;>(try simp only [List.length_nil])<;>omega
 have h5:=h4 s.posted fun p hp=>iO (hok p hp).2
 simp only [List.length_nil] at h3
 omega
def nI (n lo hi:Int):Int:=lo+n % (hi - lo+1)
theorem pN (n:Int) {lo hi:Int} (h:lo≤hi):lo≤nI n lo hi∧nI n lo hi≤hi:=by
 unfold nI
 have h1:=Int.emod_nonneg n (b:=hi - lo+1) (by omega)
 have h2:=Int.emod_lt_of_pos n (b:=hi - lo+1) (by omega)
 omega
theorem g45 (n lo hi:Int) (h1:-1000000000≤lo) (h2:lo≤hi) (h3:hi≤1000000000) (S:St) (K:KW):C 45 [.int .i64 n,.int .i64 lo,.int .i64 hi] S K=K (.int .i64 (nI n lo hi)) S:=by
 refine (v45 rfl ?_).eq S K
 have w1:wr .i64 (hi - lo)=hi - lo:=eM (by omega) (by omega)
 have w2:wr .i64 (hi - lo+1)=hi - lo+1:=eM (by omega) (by omega)
 have hd0:hi - lo+1≠0:=by omega
 have hm:=Int.emod_lt_of_pos n (b:=hi - lo+1) (by omega)
 have hm0:=Int.emod_nonneg n hd0
 have hr1:n.tmod (hi - lo+1)<hi - lo+1∧-(hi - lo+1)<n.tmod (hi - lo+1)∧(n % (hi - lo+1)=n.tmod (hi - lo+1)∨n.tmod (hi - lo+1)<0∧n % (hi - lo+1)=n.tmod (hi - lo+1)+(hi - lo+1))∧(0≤n.tmod (hi - lo+1)→n % (hi - lo+1)=n.tmod (hi - lo+1)):=by
  rw [Int.tmod_eq_emod]
  split<;>omega
 have w3:=aLj prog 3 .i64 n (hi - lo+1) hd0
 simp only [m45,aK5,kk,w1,w2,w3,nI,oo]
 generalize n.tmod (hi - lo+1)=r at *
 generalize n % (hi - lo+1)=q at *
 by_cases c:r<0
 ·have w4:wr .i64 (r+hi)=r+hi:=eM (by omega) (by omega)
  have w5:wr .i64 (r+hi - lo)=r+hi - lo:=eM (by omega) (by omega)
  have w6:wr .i64 (r+hi - lo+1)=r+hi - lo+1:=eM (by omega) (by omega)
  have w7:wr .i64 (lo+(r+hi - lo+1))=lo+q:=by rw [eM (by omega) (by omega)];omega
  simp only [c,if_true,w4,w5,w6,w7]
 ·have w7:wr .i64 (lo+r)=lo+q:=by rw [eM (by omega) (by omega)];omega
  simp only [c,if_false,w7]
theorem aL1:ahead 10000=3652059:=by decide
theorem bPo (k:IntKind) (a b:Int):aEg [.int k a,.int k b]=.ok (.int k (min a b)):=by
 cases k<;>(simp only [aEg,iR,cond_true];congr 2;omega)
theorem g48 (n:Int) (h0:0≤n) (h1:n<3652059) (S:St) (K:KW):C 48 [.int .i64 n] S K=K (.tup [.agg [.int .i64 (ofM n).y,.int .i64 (ofM n).m,.int .i64 (ofM n).d],.bool true]) S:=by
 refine (v48 rfl ?_).eq S K
 obtain ⟨y1,y2,y3,y4,y5⟩:=aMj h0 h1
 have hc:0≤ofC n∧ofC n≤3:=by unfold ofC;omega
 have t1:n.tdiv 146097=n / 146097:=Int.tdiv_eq_ediv_of_nonneg h0
 have t2:n.tmod 146097=n % 146097:=Int.tmod_eq_emod_of_nonneg h0
 have t3:(n % 146097).tdiv 36524=n % 146097 / 36524:=Int.tdiv_eq_ediv_of_nonneg (by omega)
 have r1:0≤aCe n∧aCe n≤36524:=by unfold aCe ofC;omega
 have t4:(aCe n).tdiv 1461=ofF n:=Int.tdiv_eq_ediv_of_nonneg r1.1
 have t5:(aCe n).tmod 1461=yE n:=Int.tmod_eq_emod_of_nonneg r1.1
 have r2:0≤yE n∧yE n≤1460:=by unfold yE;omega
 have t6:(yE n).tdiv 365=yE n / 365:=Int.tdiv_eq_ediv_of_nonneg r2.1
 have hf:0≤ofF n∧ofF n≤25:=by unfold ofF;omega
 have ho:0≤ofO n∧ofO n≤3:=by unfold ofO;omega
 have w1:wr .i64 (n % 146097 / 36524)=n % 146097 / 36524:=eM (by omega) (by omega)
 have eC:min (n % 146097 / 36524) 3=ofC n:=rfl
 have w2:wr .i64 (ofC n*36524)=ofC n*36524:=eM (by omega) (by omega)
 have eR:wr .i64 (n % 146097 - ofC n*36524)=aCe n:=eM (by unfold aCe at r1;omega) (by unfold aCe at r1;omega)
 have w3:wr .i64 (ofF n)=ofF n:=eM (by omega) (by omega)
 have w4:wr .i64 (yE n / 365)=yE n / 365:=eM (by omega) (by omega)
 have eO:min (yE n / 365) 3=ofO n:=rfl
 have w5:wr .i64 (ofO n*365)=ofO n*365:=eM (by omega) (by omega)
 have eRR:wr .i64 (yE n - ofO n*365)=ofR n:=eM (by unfold ofR at y3;omega) (by unfold ofR at y4;omega)
 have eY:wr .i64 (wr .i64 (wr .i64 (wr .i64 (n / 146097)*400)+1)+wr .i64 (wr .i64 (wr .i64 (100*ofC n)+wr .i64 (4*ofF n))+ofO n))=sF n:=by
  rw [eM (n:=n / 146097) (by omega) (by omega),eM (n:=n / 146097*400) (by omega) (by omega),eM (n:=n / 146097*400+1) (by omega) (by omega),eM (n:=100*ofC n) (by omega) (by omega),eM (n:=4*ofF n) (by omega) (by omega),eM (n:=100*ofC n+4*ofF n) (by omega) (by omega),eM (n:=100*ofC n+4*ofF n+ofO n) (by omega) (by omega),eM (by unfold sF at y1;omega) (by unfold sF at y2;omega)]
  rfl
 simp only [m48,aK6,kk,show ¬ n<0 by omega,if_false,bFa,aL1,show ¬ (3652059:Int)≤n by omega,ne_eq,Int.reduceEq,not_false_eq_true,t1,t2,t3,bPo,w1,eC,w2,eR,t4,t5,t6,w3,w4,eO,w5,eRR,eY]
 obtain ⟨j,r,hj,hj0,hj1,hr0,hr1,hr2⟩:=ofL (sF n) 12 0 (ofR n) y3 (by
  have:dH (sF n) (0+12) - dH (sF n) 0=365+(if aGb (sF n)=true then 1 else 0):=by
   rw [Nat.zero_add,aC3];show _ - 0=_;omega
  rw [this];exact y4)
 have hMD:aGt n=(((j:Nat):Int)+1,r):=by
  unfold aGt
  rw [List.range_eq_range'];exact hj
 refine aX (List.range 12) (step:=aCf (sF n)) (fin:=fun r=>(13,r)) (fun i rest vs S'=>vs=[.int .i64 rest,.int .i64 ((i:Int)+1)]∧aI S' 0 0=.ok (3,[[.int .i64 0,.int .i64 0,.int .i64 0]])∧0≤rest∧rest≤366) (fun r=>r=aGt n) ?_ ?_ (s:=ofR n) ⟨rfl,aS _ _ _ _ _ _,y3,by have:=y4;split at this<;>omega⟩ rfl
 ·rintro i a rest vs S' hi ⟨rfl,hg,h2,h3⟩ aO H
  obtain ⟨hil,rfl⟩:=aI6 hi
  have hm:=gR (sF n) ((a:Int)+1)
  simp only [aCf] at H
  simp only [aQ2,kk,bBb]
  by_cases c:cS (sF n) ((a:Int)+1)≤rest
  ·simp only [c,if_true] at H ⊢
   have w6:wr .i64 (rest - cS (sF n) ((a:Int)+1))=rest - cS (sF n) ((a:Int)+1):=eM (by omega) (by omega)
   have w7:wr .i64 ((a:Int)+1+1)=((a+1:Nat):Int)+1:=by rw [eM (by omega) (by omega)];omega
   simp only [w6,w7]
   exact H _ _ ⟨rfl,hg,by omega,by omega⟩
  ·simp only [c,if_false] at H ⊢
   have w6:wr .i64 (rest+1)=rest+1:=eM (by omega) (by omega)
   have H:((a:Int)+1,rest)=aGt n:=H
   simp only [w6,hg,kk,oo,ofM,←H]
 ·rintro rest vs S' ⟨rfl,hg,h2,h3⟩ aO H
  have H:((13:Int),rest)=aGt n:=H
  rw [hMD] at H
  have:=congrArg Prod.fst H
  simp only at this
  omega
def aOl (κ:Key) (st:Int×Int) (r:ARow):(Int×Int)⊕(Int×Int):=.inr (kZ κ st r)
theorem aCi (κ:Key):∀ (l:List ARow) (st:Int×Int),aR (aOl κ) id l st=l.foldl (kZ κ) st
 | [],st=>rfl
 | r::l,st=>by simp only [aR,aOl,List.foldl_cons];exact aCi κ l _
theorem yF {s:State} (hr:cD s=true) {a b:Date} (ha:a.right=true) (hb:b.right=true):(bT s a b).2=0∨(bT s a b).2=7:=by
 rcases aGr hr ha hb with ⟨l,_,e⟩ | e
 ·rw [e];exact .inl rfl
 ·rw [e];exact .inr rfl
theorem aMn (r q:ARow):(r.key=q.key)=(r.cat=q.cat∧r.bp=q.bp):=by
 unfold ARow.key
 simp
theorem g11 (l:List Call) (fr at' to:Int) (S:St) (K:KW):C 11 [.imm (l.map Call.enc),.int .i64 fr,.int .i64 at',.int .i64 to] S K=K (.bool true) S:=by
 refine (v11 rfl ?_).eq S K
 have h30:=fun S K=>g30 l 50 (by decide) S K
 simp only [show ((50:Nat):Int)=50 from rfl] at h30
 obtain ⟨s,hs⟩:∃ s,s=(playM State.new (qU l 50)).1:=⟨_,rfl⟩
 have hb:Beh s:=by rw [hs];exact Beh.new.playM _
 have h35:=fun S K=>a35 l 50 (by decide) S K
 simp only [←hs] at h35
 obtain ⟨i,hi⟩:∃ i,i=nI fr 0 3652057:=⟨_,rfl⟩
 have ri:=pN fr (show (0:Int)≤3652057 by decide)
 rw [←hi] at ri
 obtain ⟨j,hj⟩:∃ j,j=nI at' i 3652057:=⟨_,rfl⟩
 have rj:=pN at' ri.2
 rw [←hj] at rj
 obtain ⟨k,hk⟩:∃ k,k=nI to (j+1) 3652058:=⟨_,rfl⟩
 have rk:=pN to (show j+1≤3652058 by omega)
 rw [←hk] at rk
 have c1:=fun S K=>g45 fr 0 3652057 (by decide) (by decide) (by decide) S K
 have c2:=fun S K=>g45 at' i 3652057 (by omega) ri.2 (by decide) S K
 have c3:=fun S K=>g45 to (j+1) 3652058 (by omega) (by omega) (by decide) S K
 rw [←hi] at c1
 rw [←hj] at c2
 rw [←hk] at c3
 have w1:wr .i64 (j+1)=j+1:=eM (by omega) (by omega)
 have d1:=fun S K=>g48 i (by omega) (by omega) S K
 have d2:=fun S K=>g48 j (by omega) (by omega) S K
 have d3:=fun S K=>g48 (j+1) (by omega) (by omega) S K
 have d4:=fun S K=>g48 k (by omega) (by omega) S K
 obtain ⟨a1,a2⟩:=aAl (n:=i) (by omega) (by omega)
 obtain ⟨b1,b2⟩:=aAl (n:=j) (by omega) (by omega)
 obtain ⟨e1,e2⟩:=aAl (n:=j+1) (by omega) (by omega)
 obtain ⟨f1,f2⟩:=aAl (n:=k) (by omega) (by omega)
 generalize ofM i=da at *
 generalize ofM j=db at *
 generalize ofM (j+1)=dc at *
 generalize ofM k=dd at *
 have p1:=g40 s da db
 have p2:=g40 s dc dd
 have p3:=g40 s da dd
 simp only [m11,kk,iQ,gm,g31,h30,h35,c1,c2,c3,w1,d1,d2,d3,d4,p1,p2,p3]
 have bad:∀ S' p22 p24 p26,¬ ((bT s da db).2=0∧(bT s dc dd).2=0∧(bT s da dd).2=0)→xL C (fun v0 S0=>bX S0 v0=Except.ok (V.bool true)) p22 (.int .i64 (bT s da db).2) p24 (.int .i64 (bT s dc dd).2) p26 (.int .i64 (bT s da dd).2) (.bool true) S':=by
  intro S' p22 p24 p26 hne
  rcases yF hb.right a1 b1 with e | e<;>rcases yF hb.right e1 f1 with f | f<;>rcases yF hb.right a1 f1 with g | g
  all_goals simp only [e,f,g,xL,kk,if_true,if_false,show ¬ (7:Int)=0 by decide,g44,oo]
 by_cases hall:(bT s da db).2=0∧(bT s dc dd).2=0∧(bT s da dd).2=0
 rotate_left
 ·split
  ·exact bad _ _ _ _ hall
  ·rename_i z1
   split
   ·exact bad _ _ _ _ hall
   ·rename_i z2
    have z3:¬ (bT s da dd).2=0:=fun z3=>hall ⟨Decidable.not_not.1 z1,Decidable.not_not.1 z2,z3⟩
    simp only [z3,decide_false,Bool.not_false]
    exact bad _ _ _ _ hall
 obtain ⟨hx,hy,hz⟩:=hall
 obtain ⟨x,hx⟩:∃ x,bT s da db=(x,0):=⟨_,Prod.ext rfl hx⟩
 obtain ⟨y,hy⟩:∃ y,bT s dc dd=(y,0):=⟨_,Prod.ext rfl hy⟩
 obtain ⟨z,hz⟩:∃ z,bT s da dd=(z,0):=⟨_,Prod.ext rfl hz⟩
 obtain ⟨law,l1,l2,l3⟩:=aOj hb.ints hx hy hz (by omega) (by omega) (by omega)
 have fx':=aCh hx
 have fy':=aCh hy
 have fz':=aCh hz
 simp only [hx,hy,hz,kk,not_true_eq_false,if_false,xL,Bool.false_eq_true]
 refine aX z (step:=fun (_:Unit) (_:ARow)=>(.inr ():Unit⊕Unit)) (fin:=id) (fun n _ vs S'=>vs=[.bool false,.int .i64 (n:Int)]) (fun _=>True) ?_ ?_ (s:=()) rfl trivial
 ·rintro n q _ vs S' hn rfl aO H
  have hnl:=(List.getElem?_eq_some_iff.1 hn).1
  have hq:=law q (List.mem_of_getElem? hn)
  simp only [aK0,kk,dG hn,if_true]
  refine aX x (step:=aOl q.key) (fin:=id) (fun m st vs S'=>vs=[.int .i64 st.1,.int .i64 st.2,.int .i64 (m:Int)]) (fun st=>st=x.foldl (kZ q.key) (0,0)) ?_ ?_ (s:=(0,0)) rfl (aCi _ _ _)
  ·rintro m r ⟨t,u⟩ vs S2 hm rfl again2 H2
   have hml:=(List.getElem?_eq_some_iff.1 hm).1
   simp only [aOl,kZ,aMn] at H2
   simp only [aJz,aJw,kk,dG hm,if_true,uJ hm,uJ hn,ARow.enc,mZ (show m<1000000000 by omega)]
   by_cases k1:r.cat=q.cat<;>by_cases k2:r.bp=q.bp<;>simp only [k1,k2,beq_iff_eq,kk,if_true,if_false,decide_true,decide_false,and_self,and_false,false_and,and_true,true_and,Bool.false_eq_true,BEq.rfl] at H2 ⊢<;>exact H2 _ _ rfl
  ·rintro ⟨t,u⟩ vs S2 rfl again2 H2
   have H2:(t,u)=x.foldl (kZ q.key) (0,0):=H2
   simp only [aJz,kk,Int.lt_irrefl,if_false]
   refine aX y (step:=aOl q.key) (fin:=id) (fun m st vs S'=>vs=[.int .i64 st.1,.int .i64 st.2,.int .i64 (m:Int)]) (fun st=>st=(q.net,q.tax)) ?_ ?_ (s:=(t,u)) rfl (by rw [aCi,H2];exact hq)
   ·rintro m r ⟨t,u⟩ vs S2 hm rfl again2 H2
    have hml:=(List.getElem?_eq_some_iff.1 hm).1
    simp only [aOl,kZ,aMn] at H2
    simp only [aJy,aJx,kk,dG hm,if_true,uJ hm,uJ hn,ARow.enc,mZ (show m<1000000000 by omega)]
    by_cases k1:r.cat=q.cat<;>by_cases k2:r.bp=q.bp<;>simp only [k1,k2,beq_iff_eq,kk,if_true,if_false,decide_true,decide_false,and_self,and_false,false_and,and_true,true_and,Bool.false_eq_true,BEq.rfl] at H2 ⊢<;>exact H2 _ _ rfl
   ·rintro ⟨t,u⟩ vs S3 rfl again3 H3
    have H3:(t,u)=(q.net,q.tax):=H3
    obtain ⟨rfl,rfl⟩:=Prod.mk.inj H3
    simp only [aJy,kk,Int.lt_irrefl,if_false,uJ hn,ARow.enc,not_true_eq_false,mZ (show n<1000000000 by omega)]
    exact H _ _ rfl
 ·rintro _ vs S' rfl aO H
  have w2:wr .i64 ((x.length:Int)+y.length)=(x.length:Int)+y.length:=eM (by omega) (by omega)
  simp only [aK0,kk,Int.lt_irrefl,if_false,w2,show (z.length:Int)≤(x.length:Int)+y.length by omega,show (x.length:Int)≤(z.length:Int) by omega,show (y.length:Int)≤(z.length:Int) by omega,if_true,g44,oo]
end Go.Proofs.YtoaibmbldmckaaaGreat
end
