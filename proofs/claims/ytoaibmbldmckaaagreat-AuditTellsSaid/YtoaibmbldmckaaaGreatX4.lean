import Derived.Test.YtoaibmbldmckaaaGreatX3
set_option linter.unusedSimpArgs false
set_option linter.unusedVariables false
set_option linter.unusedSectionVars false
set_option maxRecDepth 100000
section
namespace Go.Proofs.YtoaibmbldmckaaaGreat
open Go.AM Tryz
theorem aPs {n:Int} (h:eZ n):pD n=if n<0 then -n else n:=by
 unfold pD
 split
 ·rename_i c
  have h1:wr .u64 n=18446744073709551616+n:=by rw [aC3];omega
  rw [h1]
  have h2:aPg (18446744073709551616+n)=-n - 1:=by
   unfold aPg
   simp only [IntKind.signed,Bool.false_eq_true,if_false]
   have hm:(IntKind.u64.max:Int)=18446744073709551615:=by decide
   rw [hm]
   have hb:IntKind.u64.bits=64:=rfl
   rw [hb]
   have:(BitVec.ofInt 64 18446744073709551615 ^^^ BitVec.ofInt 64 (18446744073709551616+n)) = ~~~ (BitVec.ofInt 64 (18446744073709551616+n)):=by
    rw [show (BitVec.ofInt 64 18446744073709551615)=BitVec.allOnes 64 from by decide,BitVec.allOnes_xor]
   rw [this,BitVec.toNat_not]
   have hv:(BitVec.ofInt 64 (18446744073709551616+n)).toNat=(18446744073709551616+n).toNat:=by
    rw [BitVec.toNat_ofInt]
    omega
   rw [hv,dR (by omega) (by omega)]
   omega
  rw [h2,dR (by omega) (by omega)]
  omega
 ·exact dR (by omega) (by omega)
def wP (u bp:Int):Option Int:=
 if 0<bp∧9223372036854775807 / bp<u / 10000 then none else
  if 9223372036854775807<u / 10000*bp+(2*(u % 10000)*bp+10000) / 20000 then none else some (u / 10000*bp+(2*(u % 10000)*bp+10000) / 20000)
theorem aHb {u bp t:Int} (hu:0≤u) (hb:0≤bp) (h:wP u bp=some t):0≤t∧t≤9223372036854775807:=by
 unfold wP at h
 split at h
 ·cases h
 ·split at h
  ·cases h
  ·rename_i h2
   cases h
   have h3:0≤u / 10000*bp:=Int.mul_nonneg (by omega) hb
   have h4:0≤2*(u % 10000)*bp:=Int.mul_nonneg (by omega) hb
   exact ⟨by omega,by omega⟩
theorem aA3 {n bp:Int} (h:eZ n) (h1:0≤bp) (h2:bp≤100000):bD n bp=match wP (if n<0 then -n else n) bp with
  | none=>(0,7)
  | some t=>(if n<0 then -t else t,0):=by
 unfold bD
 rw [if_neg (by omega)]
 simp only [aPs h]
 have hp:wr .u64 bp=bp:=dR h1 (by omega)
 rw [hp]
 obtain ⟨u,hu⟩:∃ u,u=(if n<0 then -n else n):=⟨_,rfl⟩
 rw [←hu]
 have hu0:0≤u∧u≤9223372036854775808:=by subst hu;split<;>omega
 have hq:u.tdiv 10000=u / 10000:=Int.tdiv_eq_ediv_of_nonneg hu0.1
 have hr:u.tmod 10000=u % 10000:=Int.tmod_eq_emod_of_nonneg hu0.1
 have hmax:(9223372036854775807:Int).tdiv bp=9223372036854775807 / bp:=Int.tdiv_eq_ediv_of_nonneg (by decide)
 rw [hq,hr,hmax,dR (n:=u / 10000) (by omega) (by omega)]
 have hdiv:0<bp→0≤9223372036854775807 / bp∧9223372036854775807 / bp<18446744073709551616:=by
  intro hb
  constructor
  ·exact Int.ediv_nonneg (by decide) (by omega)
  ·have:=Int.ediv_le_self bp (a:=9223372036854775807) (by decide);omega
 unfold wP
 by_cases c:0<bp∧9223372036854775807 / bp<u / 10000
 ·rw [if_pos c,if_pos ⟨c.1,by rw [dR (hdiv c.1).1 (hdiv c.1).2];exact c.2⟩]
 ·rw [if_neg c,if_neg (fun q=>c ⟨q.1,by have:=q.2;rwa [dR (hdiv q.1).1 (hdiv q.1).2] at this⟩)]
  have hm1:0≤u / 10000*bp:=Int.mul_nonneg (by omega) h1
  have hm2:u / 10000*bp≤9223372036854775807:=by
   by_cases hb:0<bp
   ·have hle:u / 10000≤9223372036854775807 / bp:=by
     by_cases q:u / 10000≤9223372036854775807 / bp
     ·exact q
     ·exact absurd ⟨hb,by omega⟩ c
    calc u / 10000*bp≤9223372036854775807 / bp*bp:=Int.mul_le_mul_of_nonneg_right hle h1
     _≤9223372036854775807:=Int.ediv_mul_le _ (by omega)
   ·have:bp=0:=by omega
    subst this;simp
  have hr1:0≤2*(u % 10000)*bp:=Int.mul_nonneg (by omega) h1
  have hr2:2*(u % 10000)*bp≤2*10000*100000:=Int.mul_le_mul (by omega) h2 h1 (by decide)
  rw [dR hm1 (by omega),dR (n:=2*(u % 10000)) (by omega) (by omega),dR hr1 (by omega),dR (n:=2*(u % 10000)*bp+10000) (by omega) (by omega),aD6]
  have ht:(2*(u % 10000)*bp+10000).tdiv 20000=(2*(u % 10000)*bp+10000) / 20000:=Int.tdiv_eq_ediv_of_nonneg (by omega)
  rw [ht,dR (n:=(2*(u % 10000)*bp+10000) / 20000) (by omega) (by omega),dR (n:=u / 10000*bp+(2*(u % 10000)*bp+10000) / 20000) (by omega) (by omega)]
  obtain ⟨t,htt⟩:∃ t,t=u / 10000*bp+(2*(u % 10000)*bp+10000) / 20000:=⟨_,rfl⟩
  have ht0:0≤t:=by omega
  rw [←htt]
  split
  ·rfl
  ·rename_i hle
   rw [mD (n:=t) (by omega) (by omega)]
   split
   ·rw [mD (by omega) (by omega)];simp
   ·rfl
theorem aL9 {n bp t:Int} (h:eZ n) (h1:0≤bp) (h2:bp≤100000) (hn:n≠-9223372036854775808) (hs:bD n bp=(t,0)):bD (-n) bp=(-t,0)∧t≠-9223372036854775808:=by
 rw [aA3 h h1 h2] at hs
 rw [aA3 (by omega) h1 h2]
 have hu:(if -n<0 then - -n else -n)=if n<0 then -n else n:=by split<;>split<;>omega
 rw [hu]
 cases hx:wP (if n<0 then -n else n) bp with
 | none=>rw [hx] at hs;cases hs
 | some x=>
  rw [hx] at hs
  obtain ⟨a,b⟩:=aHb (by split<;>omega) h1 hx
  simp only [Prod.mk.injEq,and_true] at hs ⊢
  by_cases c0:n=0
  ·subst c0
   have:x=0:=by
    simp only [Int.lt_irrefl,if_false] at hx
    unfold wP at hx
    simp only [Int.zero_ediv,Int.zero_emod,Int.zero_mul,Int.mul_zero] at hx
    split at hx
    ·cases hx
    ·split at hx
     ·cases hx
     ·cases hx;decide
   subst this
   simp at hs ⊢
   omega
  ·constructor
   ·rw [←hs];split<;>split<;>omega
   ·rw [←hs];split<;>omega
theorem aJ3 {σ α:Type} {step:σ→α→Bool⊕σ} (hs:∀ s a r,step s a=.inl r→r=false) (c:Bool):∀ (l:List α) (s:σ),aD step (fun _=>c) l s=(aD step (fun _=>true) l s&&c)
 | [],s=>by simp [aD]
 | a::l,s=>by
  simp only [aD]
  split
  ·rename_i r he;rw [hs _ _ _ he,Bool.false_and]
  ·exact aJ3 hs c l _
structure PG (p:Part):Prop where
 name:dF p.cat=true
 lo:0≤p.bp
 hi:p.bp≤100000
 tax:bD p.net p.bp=(p.tax,0)
theorem aHc (p:Part):PG p↔dF p.cat=true∧uH p=false∧uJ p=false:=by
 unfold uH uJ
 simp only [Bool.or_eq_false_iff,decide_eq_false_iff_not,Bool.not_eq_false',decide_eq_true_eq]
 constructor
 ·rintro ⟨a,b,c,d⟩
  exact ⟨a,⟨by omega,by omega⟩,by rw [d],by rw [d]⟩
 ·rintro ⟨a,⟨b,c⟩,d,e⟩
  exact ⟨a,by omega,by omega,Prod.ext e d⟩
theorem aDi:∀ s a r,cC s a=.inl r→r=false:=by
 intro s a r h
 unfold cC at h
 repeat' split at h
 all_goals first | (cases h;done) | (cases h;rfl)
theorem oH (t:Total):bY t=true↔1≤t.parts.length∧t.parts.length≤12∧(∀ p∈t.parts,PG p)∧t.parts.Pairwise (fun a b=>fG a.cat b.cat=true)∧iK t=true:=by
 unfold bY
 split
 ·rename_i h;simp;omega
 ·rename_i h
  split
  ·rename_i h2;simp;omega
  ·rename_i h2
   rw [aJ3 aDi,Bool.and_eq_true,wL (good:=PG) (R:=fun a b=>fG a.cat b.cat=true)]
   ·constructor
    ·rintro ⟨⟨a,b⟩,c⟩;exact ⟨by omega,by omega,a,b,c⟩
    ·rintro ⟨_,_,a,b,c⟩;exact ⟨⟨a,b⟩,c⟩
   ·intro a g
    obtain ⟨g1,g2,g3⟩:=(aHc a).1 g
    simp [cC,gG,g1,g2,g3]
   ·intro a p g
    rw [aHc] at g
    unfold cC
    split
    ·rfl
    ·split
     ·rfl
     ·split
      ·rfl
      ·split
       ·rfl
       ·rename_i h1 _ h3 h4
        exact absurd ⟨by simpa using h1,by simpa using h3,by simpa using h4⟩ g
   ·intro p a g r
    obtain ⟨g1,g2,g3⟩:=(aHc a).1 g
    simp [cC,gG,g1,g2,g3,r]
   ·intro p a g r
    obtain ⟨g1,g2,g3⟩:=(aHc a).1 g
    simp [cC,gG,g1,g2,g3,r]
   ·intro a b c;exact iZ
theorem aA4 {t:Total} (hn:∀ p∈t.parts,eZ p.net) (ht:∀ p∈t.parts,eZ p.tax) (hl:t.parts.length≤1000000):
  iK t=true↔eZ t.net∧eZ t.tax∧eZ t.gross∧t.net=(t.parts.map (·.net)).sum∧t.tax=(t.parts.map (·.tax)).sum∧t.gross=t.net+t.tax:=by
 have h1:∀ n∈t.parts.map (·.net),eZ n:=fun n h=>by obtain ⟨p,hp,rfl⟩:=List.mem_map.1 h;exact hn p hp
 have h2:∀ n∈t.parts.map (·.tax),eZ n:=fun n h=>by obtain ⟨p,hp,rfl⟩:=List.mem_map.1 h;exact ht p hp
 obtain ⟨a1,a2⟩:=fS h1 (by rw [List.length_map];exact hl)
 obtain ⟨b1,b2⟩:=fS h2 (by rw [List.length_map];exact hl)
 unfold iK
 constructor
 ·intro h
  repeat' split at h
  all_goals first | cases h;done | skip
  rename_i c1 c2 c3 c4 c5
  have d:=of_decide_eq_true h
  have i1:=a2.1 c1
  have i2:=b2.1 c2
  rw [a1,eE i1] at c4
  rw [b1,eE i2] at c5
  have j:∀ n∈[t.net,t.tax],eZ n:=by
   intro n hn
   simp only [List.mem_cons,List.not_mem_nil,or_false] at hn
   rcases hn with rfl | rfl
   ·rw [←c4];exact i1
   ·rw [←c5];exact i2
  obtain ⟨e1,e2⟩:=fS j (by simp)
  have i3:=e2.1 c3
  rw [e1,eE i3] at d
  have hs:[t.net,t.tax].sum=t.net+t.tax:=by simp
  rw [hs] at d i3
  exact ⟨by rw [←c4];exact i1,by rw [←c5];exact i2,by rw [←d];exact i3,c4.symm,c5.symm,d.symm⟩
 ·rintro ⟨i1,i2,i3,e1,e2,e3⟩
  have j:∀ n∈[t.net,t.tax],eZ n:=by
   intro n hn
   simp only [List.mem_cons,List.not_mem_nil,or_false] at hn
   rcases hn with rfl | rfl
   ·exact i1
   ·exact i2
  have hs:[t.net,t.tax].sum=t.net+t.tax:=by simp
  have k3:=aA2 j (by simp) (by rw [hs,←e3];exact i3)
  have k1:=aA2 h1 (by rw [List.length_map];exact hl) (by rw [←e1];exact i1)
  have k2:=aA2 h2 (by rw [List.length_map];exact hl) (by rw [←e2];exact i2)
  rw [k1,k2,k3]
  simp only [if_true,←e1,←e2,hs,←e3,decide_true]
theorem aX9 {α:Type} (p:α→Bool) (l:List α):l[mF p l]?=(l.dropWhile p)[0]?:=by
 unfold mF
 rw [uP,Nat.zero_add]
 have h:l[(l.takeWhile p).length]?=(l.takeWhile p++l.dropWhile p)[(l.takeWhile p).length]?:=by rw [List.takeWhile_append_dropWhile]
 rw [h,List.getElem?_append_right (Nat.le_refl _),Nat.sub_self]
theorem aFb {α:Type} {p:α→Bool}:∀ {l:List α} {a:α},(l.dropWhile p)[0]?=some a→p a=false
 | [],a,h=>by cases h
 | x::l,a,h=>by
  rw [List.dropWhile_cons] at h
  split at h
  ·exact aFb h
  ·rename_i c;cases h;simpa using c
theorem aAz {α:Type} {p:α→Bool} {R:α→α→Prop}:∀ {l:List α},l.Pairwise R→(∀ a b,R a b→p a=false→p b=false)→∀ {x:α},x∈l→p x=false→x∈l.dropWhile p
 | a::l,hl,hp,x,hx,h=>by
  rw [List.dropWhile_cons]
  rw [List.pairwise_cons] at hl
  split
  ·rename_i c
   rcases List.mem_cons.1 hx with rfl | hx
   ·rw [h] at c;cases c
   ·exact aAz hl.2 hp hx h
  ·exact hx
theorem aUc {α:Type} {key:α→List UInt8} {l:List α} (hs:l.Pairwise (fun a b=>fG (key a) (key b)=true)) (k:List UInt8) (h:∀ b,l[mF (fun x=>fG (key x) k) l]?=some b→key b≠k):
  ∀ x∈l,fG (key x) k=false→fG k (key x)=true:=by
 intro x hx hk
 have hd:=aAz (p:=fun x=>fG (key x) k) hs (fun a b r ha=>by
  cases c:fG (key b) k with
  | false=>rfl
  | true=>rw [iZ r c] at ha;cases ha) hx hk
 rw [aX9] at h
 have hsd:(l.dropWhile fun x=>fG (key x) k).Pairwise (fun a b=>fG (key a) (key b)=true):=hs.sublist (List.dropWhile_sublist _)
 cases hc:l.dropWhile (fun x=>fG (key x) k) with
 | nil=>rw [hc] at hd;cases hd
 | cons q r=>
  rw [hc] at hd hsd
  have hq:fG (key q) k=false:=aFb (p:=fun x=>fG (key x) k) (l:=l) (by rw [hc];rfl)
  have hne:=h q (by rw [hc];rfl)
  have hkq:fG k (key q)=true:=by
   rcases aC4 (key q) k with h1 | h1 | h1
   ·rw [hq] at h1;cases h1
   ·exact absurd h1 hne
   ·exact h1
  rcases List.mem_cons.1 hd with rfl | hd
  ·exact hkq
  ·exact iZ hkq ((List.pairwise_cons.1 hsd).1 x hd)
theorem wQ {α:Type} {key:α→List UInt8} {l:List α} (hs:l.Pairwise (fun a b=>fG (key a) (key b)=true)) {i:Nat} {a b:α} (hi:l[i]?=some a) (he:key b=key a):(l.set i b).Pairwise (fun a b=>fG (key a) (key b)=true):=by
 have hm:∀ l:List α,l.Pairwise (fun a b=>fG (key a) (key b)=true)↔(l.map key).Pairwise (fun a b=>fG a b=true):=fun l=>(List.pairwise_map (f:=key) (R:=fun a b=>fG a b=true)).symm
 rw [hm] at hs ⊢
 have:(l.set i b).map key=l.map key:=by
  rw [List.map_set,he]
  apply List.ext_getElem?
  intro j
  rw [List.getElem?_set]
  split
  ·rename_i hj
   subst hj
   rw [List.getElem?_map,hi,List.length_map]
   rw [if_pos (List.getElem?_eq_some_iff.1 hi).1];rfl
  ·rfl
 rw [this];exact hs
structure PInv (l:List Part):Prop where
 name:∀ p∈l,dF p.cat=true
 bp:∀ p∈l,0≤p.bp∧p.bp≤100000
 net:∀ p∈l,eZ p.net
 srt:l.Pairwise (fun a b=>fG a.cat b.cat=true)
theorem PInv.nil:PInv []:=⟨fun _ h=>(by cases h),fun _ h=>(by cases h),fun _ h=>(by cases h),.nil⟩
theorem PInv.room {l:List Part} (h:PInv l) {cat:List UInt8} {bp:Int} (hc:dF cat=true) (h1:0≤bp) (h2:bp≤100000):PInv (dB l cat bp):=by
 unfold dB
 split
 ·rename_i hm
  have hmem:∀ p,p∈dG l (bK l cat) ⟨cat,bp,0,0⟩→p=⟨cat,bp,0,0⟩∨p∈l:=fun p hp=>(kQ _ _ _ _).1 hp
  refine ⟨fun p hp=>?_,fun p hp=>?_,fun p hp=>?_,?_⟩
  ·rcases hmem p hp with rfl | hp
   ·exact hc
   ·exact h.name p hp
  ·rcases hmem p hp with rfl | hp
   ·exact ⟨h1,h2⟩
   ·exact h.bp p hp
  ·rcases hmem p hp with rfl | hp
   ·show eZ 0;omega
   ·exact h.net p hp
  ·unfold bK
   rw [uQ]
   refine rH h.srt (fun a b c=>iZ) (fun x hx hp=>hp) (fun x hx hp=>?_)
   refine aUc (key:=fun p:Part=>p.cat) h.srt cat (fun b hb=>?_) x hx hp
   unfold jS bK at hm
   rw [hb] at hm
   simpa using hm
 ·exact h
theorem PInv.put {l:List Part} (h:PInv l) {cat:List UInt8} {bp n:Int} (hc:dF cat=true) (h1:0≤bp) (h2:bp≤100000):PInv (sC l cat bp n).1∧(sC l cat bp n).1≠[]:=by
 obtain ⟨b,hb⟩:=qY l cat bp
 have hr:=h.room hc h1 h2
 unfold sC
 rw [hb]
 have hbm:=List.mem_of_getElem? hb
 constructor
 ·refine ⟨fun p hp=>?_,fun p hp=>?_,fun p hp=>?_,wQ (key:=fun p:Part=>p.cat) hr.srt hb rfl⟩
  ·rcases List.mem_or_eq_of_mem_set hp with hp | rfl
   ·exact hr.name p hp
   ·exact hr.name b hbm
  ·rcases List.mem_or_eq_of_mem_set hp with hp | rfl
   ·exact hr.bp p hp
   ·exact hr.bp b hbm
  ·rcases List.mem_or_eq_of_mem_set hp with hp | rfl
   ·exact hr.net p hp
   ·exact aUa _ _
 ·intro e
  have:=congrArg List.length e
  rw [List.length_set,List.length_nil] at this
  have:=(List.getElem?_eq_some_iff.1 hb).1
  omega
theorem aC5 {r:Rate} (h:sB r=0):dF r.cat=true∧r.day.right=true∧0≤r.bp∧r.bp≤100000:=by
 unfold sB at h
 split at h
 ·omega
 ·rename_i h1
  split at h
  ·omega
  ·rename_i h2
   split at h
   ·omega
   ·split at h
    ·omega
    ·exact ⟨by simpa using h1,by simpa using h2,by omega,by omega⟩
theorem bB9 {cat:List UInt8} {d:Date}:∀ (l:List Rate) (st:Int×Bool),(st.2=true→0≤st.1∧st.1≤100000)→(∀ r∈l,0≤r.bp∧r.bp≤100000)→(aD (jR cat d) id l st).2=true→0≤(aD (jR cat d) id l st).1∧(aD (jR cat d) id l st).1≤100000
 | [],st,h,_,h2=>h h2
 | r::l,st,h,hl,h2=>by
  simp only [aD,jR] at h2 ⊢
  refine bB9 l _ ?_ (fun x hx=>hl x (List.mem_cons_of_mem _ hx)) h2
  split
  ·intro _;exact hl r (List.mem_cons_self ..)
  ·exact h
theorem aJ4 {l:List Rate} {cat:List UInt8} {d:Date} (h:(iP l cat d).2=true):0≤(iP l cat d).1∧(iP l cat d).1≤100000:=by
 unfold iP at h ⊢
 split at h
 ·cases h
 ·rename_i h1
  split at h
  ·cases h
  ·rename_i h2
   rw [if_neg h1,if_neg h2]
   have ht:=(wN l).1 (by simpa using h1)
   exact bB9 l _ (fun h=>by cases h) (fun r hr=>(aC5 (ht.2.1 r hr)).2.2) h
theorem aUd {tab:List Rate} {d:Date} {l:Line} (h:(fM tab d l).2.2=0):dF l.cat=true∧0≤(fM tab d l).1∧(fM tab d l).1≤100000:=by
 unfold fM at h ⊢
 split at h
 ·simp at h
 ·rename_i h1
  split at h
  ·simp at h
  ·rename_i h2
   split at h
   ·simp at h
   ·rename_i h3
    split at h
    ·simp at h
    ·rename_i h4
     rw [if_neg h1,if_neg h2,if_neg h3,if_neg h4]
     exact ⟨by simpa using h2,aJ4 (by simpa using h4)⟩
theorem bIl {tab:List Rate} {d:Date}:∀ (lines:List Line) (parts:List Part) (r:Total×Int),PInv parts→aD (iR tab d) eY lines parts=r→r.2=0→∃ ps,PInv ps∧eY ps=r∧(parts≠[]∨lines≠[]→ps≠[])
 | [],parts,r,hp,h,_=>⟨parts,hp,h,fun h=>h.elim id (fun h=>absurd rfl h)⟩
 | l::lines,parts,r,hp,h,h0=>by
  simp only [aD] at h
  split at h
  ·rename_i r' he
   subst h
   unfold iR at he
   split at he
   ·rename_i hc;cases he;exact absurd h0 hc
   ·split at he
    ·rename_i hc;cases he;exact absurd h0 hc
    ·cases he
  ·rename_i s' he
   unfold iR at he
   split at he
   ·cases he
   ·rename_i hl
    split at he
    ·cases he
    ·cases he
     obtain ⟨a,b,c⟩:=aUd (Decidable.not_not.1 hl)
     obtain ⟨q1,q2⟩:=hp.put (n:=(fM tab d l).2.1) a b c
     obtain ⟨ps,i1,i2,i3⟩:=bIl lines _ r q1 h h0
     exact ⟨ps,i1,i2,fun _=>i3 (.inl q2)⟩
def bBa (p:Part):Part:={ p with tax:=(bD p.net p.bp).1 }
theorem aUe:∀ (l:List Part) (n x:Int) (ps:List Part) (r:Total×Int),eZ n→eZ x→(∀ p∈l,eZ p.net)→aD gE lI l (n,x,ps)=r→r.2=0→
  r.1.parts=ps++l.map bBa∧(∀ p∈l,(bD p.net p.bp).2=0)∧r.1.net=n+(l.map (·.net)).sum∧r.1.tax=x+(l.map fun p=>(bD p.net p.bp).1).sum∧r.1.gross=r.1.net+r.1.tax∧eZ r.1.net∧eZ r.1.tax∧eZ r.1.gross
 | [],n,x,ps,r,hn,hx,_,h,h0=>by
  simp only [aD,lI] at h
  split at h
  ·rename_i hc;subst h;exact absurd h0 hc
  ·rename_i hc
   have hc:=Decidable.not_not.1 hc
   subst h
   simp only at hc ⊢
   rw [uN hn hx] at hc ⊢
   split at hc
   ·rename_i hi;rw [if_pos hi];refine ⟨by simp,by simp,by simp,by simp,rfl,hn,hx,hi⟩
   ·simp at hc
 | p::l,n,x,ps,r,hn,hx,hl,h,h0=>by
  simp only [aD] at h
  split at h
  ·rename_i r' he
   subst h
   unfold gE at he
   split at he
   ·cases he;simp at h0
   ·cases he
  ·rename_i s' he
   unfold gE at he
   split at he
   ·cases he
   ·rename_i hc
    cases he
    have hp:=hl p (List.mem_cons_self ..)
    have c1:(bD p.net p.bp).2=0:=by by_cases q:(bD p.net p.bp).2=0;exact q;exact absurd (.inl q) hc
    have c2:(bF n p.net).2=0:=by by_cases q:(bF n p.net).2=0;exact q;exact absurd (.inr (.inl q)) hc
    have c3:(bF x (bD p.net p.bp).1).2=0:=by by_cases q:(bF x (bD p.net p.bp).1).2=0;exact q;exact absurd (.inr (.inr q)) hc
    have e2:(bF n p.net).1=n+p.net∧eZ (n+p.net):=by
     rw [uN hn hp] at c2 ⊢
     split at c2
     ·rename_i hi;rw [if_pos hi];exact ⟨rfl,hi⟩
     ·simp at c2
    have e3:(bF x (bD p.net p.bp).1).1=x+(bD p.net p.bp).1∧eZ (x+(bD p.net p.bp).1):=by
     rw [uN hx (aDg _ _)] at c3 ⊢
     split at c3
     ·rename_i hi;rw [if_pos hi];exact ⟨rfl,hi⟩
     ·simp at c3
    simp only [e2.1,e3.1] at h
    obtain ⟨a1,a2,a3,a4,a5⟩:=aUe l _ _ _ r e2.2 e3.2 (fun q hq=>hl q (List.mem_cons_of_mem _ hq)) h h0
    refine ⟨by rw [a1,List.map_cons,List.append_assoc];rfl,fun q hq=>?_,?_,?_,a5⟩
    ·rcases List.mem_cons.1 hq with rfl | hq
     ·exact c1
     ·exact a2 q hq
    ·rw [a3,List.map_cons,List.sum_cons];omega
    ·rw [a4,List.map_cons,List.sum_cons];omega
theorem aUf {ps:List Part} (h:PInv ps) (h0:ps≠[]) {t:Total} (hl:t.parts.length≤12) (hw:eY ps=(t,0)):bY t=true∧(∀ p∈t.parts,eZ p.net∧eZ p.tax):=by
 obtain ⟨a1,a2,a3,a4,a5,a6,a7,a8⟩:=aUe ps 0 0 [] (t,0) (by omega) (by omega) h.net hw rfl
 simp only [List.nil_append,Int.zero_add] at a1 a2 a3 a4 a5 a6 a7 a8
 have hm:∀ p∈t.parts,∃ q∈ps,p=bBa q:=fun p hp=>by rw [a1] at hp;obtain ⟨q,hq,rfl⟩:=List.mem_map.1 hp;exact ⟨q,hq,rfl⟩
 have hi:∀ p∈t.parts,eZ p.net∧eZ p.tax:=fun p hp=>by
  obtain ⟨q,hq,rfl⟩:=hm p hp
  exact ⟨h.net q hq,aDg _ _⟩
 refine ⟨(oH t).2 ⟨?_,hl,fun p hp=>?_,?_,?_⟩,hi⟩
 ·rw [a1,List.length_map]
  cases ps with
  | nil=>exact absurd rfl h0
  | cons a l=>simp
 ·obtain ⟨q,hq,rfl⟩:=hm p hp
  exact ⟨h.name q hq,(h.bp q hq).1,(h.bp q hq).2,Prod.ext rfl (a2 q hq)⟩
 ·rw [a1,List.pairwise_map]
  exact h.srt
 ·rw [aA4 (fun p hp=>(hi p hp).1) (fun p hp=>(hi p hp).2) (by omega)]
  refine ⟨a6,a7,a8,?_,?_,a5⟩
  ·rw [a3,a1,List.map_map];rfl
  ·rw [a4,a1,List.map_map];rfl
theorem aHd {tab:List Rate} {d:Date} {lines:List Line} (h:(cY tab d lines).2=0):d.right=true∧bY (cY tab d lines).1=true∧∀ p∈(cY tab d lines).1.parts,eZ p.net∧eZ p.tax:=by
 have hf:=(wJ h).1
 unfold cY at h hf ⊢
 split at h
 ·simp at h
 ·rename_i h1
  split at h
  ·simp at h
  ·rename_i h2
   split at h
   ·simp at h
   ·rename_i h3
    split at h
    ·simp at h
    ·rename_i h4
     rw [if_neg h1,if_neg h2,if_neg h3,if_neg h4] at hf ⊢
     obtain ⟨ps,i1,i2,i3⟩:=bIl lines [] _ PInv.nil rfl h
     have hne:ps≠[]:=i3 (.inr (fun e=>h3 (by rw [e];rfl)))
     exact ⟨by simpa using h2,aUf i1 hne hf (by rw [i2];exact Prod.ext rfl h)⟩
def aHe (p:Part):Part:={ p with net:=-p.net,tax:=-p.tax }
def aEc:Int:=-9223372036854775808
theorem aFc:∀ (l d:List Int) (r:List Int×Int),(∀ n∈l,eZ n)→aD oC (fun l=>(l,0)) l d=r→r.2=0→r.1=d++l.map (fun n=>-n)∧∀ n∈l,n≠aEc
 | [],d,r,_,h,_=>by subst h;simp [aD]
 | n::l,d,r,hl,h,h0=>by
  simp only [aD,oC,aPr (hl n (List.mem_cons_self ..))] at h
  by_cases c:n=-9223372036854775808
  ·simp only [c,if_true] at h
   subst h;simp at h0
  ·simp only [c,if_false] at h
   obtain ⟨a,b⟩:=aFc l _ r (fun m hm=>hl m (List.mem_cons_of_mem _ hm)) h h0
   refine ⟨by rw [a,List.map_cons,List.append_assoc];rfl,fun m hm=>?_⟩
   rcases List.mem_cons.1 hm with rfl | hm
   ·exact c
   ·exact b m hm
theorem aFd {l:List Int} (hl:∀ n∈l,eZ n) (h:(fN l).2=0):(fN l).1=l.map (fun n=>-n)∧∀ n∈l,n≠aEc:=by
 have:=aFc l [] (fN l) hl rfl h
 exact this
theorem aDj:∀ (l a:List Part) (r:List Part×Int),(∀ p∈l,eZ p.net∧eZ p.tax)→aD cX (fun l=>(l,0)) l a=r→r.2=0→r.1=a++l.map aHe∧∀ p∈l,p.net≠aEc∧p.tax≠aEc
 | [],a,r,_,h,_=>by subst h;simp [aD]
 | p::l,a,r,hl,h,h0=>by
  simp only [aD,cX] at h
  split at h
  ·rename_i r' he
   split at he
   ·rename_i hc;cases he;subst h;exact absurd h0 hc
   ·cases he
  ·rename_i s' he
   split at he
   ·cases he
   ·rename_i hc
    cases he
    have hp:=hl p (List.mem_cons_self ..)
    obtain ⟨e1,e2⟩:=aFd (l:=[p.net,p.tax]) (fun n hn=>by
     simp only [List.mem_cons,List.not_mem_nil,or_false] at hn
     rcases hn with rfl | rfl
     ·exact hp.1
     ·exact hp.2) (Decidable.not_not.1 hc)
    rw [e1] at h
    obtain ⟨q1,q2⟩:=aDj l _ r (fun m hm=>hl m (List.mem_cons_of_mem _ hm)) h h0
    refine ⟨by rw [q1,List.map_cons,List.append_assoc];rfl,fun m hm=>?_⟩
    rcases List.mem_cons.1 hm with rfl | hm
    ·exact ⟨e2 _ (List.mem_cons_self ..),e2 _ (List.mem_cons_of_mem _ (List.mem_cons_self ..))⟩
    ·exact q2 m hm
theorem aLa {t:Total} (ht:∀ p∈t.parts,eZ p.net∧eZ p.tax) (h1:eZ t.net) (h2:eZ t.tax) (h3:eZ t.gross) (h:(aX t).2=0):
  (aX t).1=⟨-t.net,-t.tax,-t.gross,t.parts.map aHe⟩∧t.net≠aEc∧t.tax≠aEc∧t.gross≠aEc∧∀ p∈t.parts,p.net≠aEc∧p.tax≠aEc:=by
 unfold aX at h ⊢
 split at h
 ·rename_i hc;exact absurd h hc
 ·rename_i hc
  split at h
  ·rename_i hc2;exact absurd h hc2
  ·rename_i hc2
   rw [if_neg hc,if_neg hc2]
   obtain ⟨e1,e2⟩:=aFd (l:=[t.net,t.tax,t.gross]) (fun n hn=>by
    simp only [List.mem_cons,List.not_mem_nil,or_false] at hn
    rcases hn with rfl | rfl | rfl
    ·exact h1
    ·exact h2
    ·exact h3) (Decidable.not_not.1 hc)
   obtain ⟨q1,q2⟩:=aDj t.parts [] _ ht rfl (Decidable.not_not.1 hc2)
   rw [e1,q1]
   exact ⟨rfl,e2 _ (by simp),e2 _ (by simp),e2 _ (by simp),q2⟩
theorem aNy:∀ l:List Int,(l.map fun n=>-n).sum=-l.sum
 | []=>rfl
 | n::l=>by rw [List.map_cons,List.sum_cons,List.sum_cons,aNy l];omega
theorem aDk {t:Total} (ht:∀ p∈t.parts,eZ p.net∧eZ p.tax) (ho:bY t=true) (h:(aX t).2=0):bY (aX t).1=true∧(∀ p∈(aX t).1.parts,eZ p.net∧eZ p.tax)∧(aX t).1=⟨-t.net,-t.tax,-t.gross,t.parts.map aHe⟩:=by
 obtain ⟨o1,o2,o3,o4,o5⟩:=(oH t).1 ho
 obtain ⟨s1,s2,s3,s4,s5,s6⟩:=(aA4 (fun p hp=>(ht p hp).1) (fun p hp=>(ht p hp).2) (by omega)).1 o5
 obtain ⟨b1,b2,b3,b4,b5⟩:=aLa ht s1 s2 s3 h
 unfold aEc at b2 b3 b4 b5
 have hm:∀ p∈t.parts.map aHe,∃ q∈t.parts,p=aHe q:=fun p hp=>by obtain ⟨q,hq,rfl⟩:=List.mem_map.1 hp;exact ⟨q,hq,rfl⟩
 have hi:∀ p∈t.parts.map aHe,eZ p.net∧eZ p.tax:=fun p hp=>by
  obtain ⟨q,hq,rfl⟩:=hm p hp
  have:=ht q hq
  have:=b5 q hq
  show eZ (-q.net)∧eZ (-q.tax)
  omega
 refine ⟨?_,by rw [b1];exact hi,b1⟩
 rw [b1,oH]
 refine ⟨by simpa using o1,by simpa using o2,fun p hp=>?_,?_,?_⟩
 ·obtain ⟨q,hq,rfl⟩:=hm p hp
  have g:=o3 q hq
  exact ⟨g.name,g.lo,g.hi,(aL9 (ht q hq).1 g.lo g.hi (b5 q hq).1 g.tax).1⟩
 ·show (t.parts.map aHe).Pairwise _
  rw [List.pairwise_map];exact o4
 ·rw [aA4 (fun p hp=>(hi p hp).1) (fun p hp=>(hi p hp).2) (by simp;omega)]
  have e1:(t.parts.map aHe).map (·.net)=(t.parts.map (·.net)).map fun n=>-n:=by rw [List.map_map,List.map_map];rfl
  have e2:(t.parts.map aHe).map (·.tax)=(t.parts.map (·.tax)).map fun n=>-n:=by rw [List.map_map,List.map_map];rfl
  simp only [e1,e2,aNy]
  refine ⟨?_,?_,?_,?_,?_,?_⟩
  ·show eZ (-t.net);omega
  ·show eZ (-t.tax);omega
  ·show eZ (-t.gross);omega
  ·show -t.net=_;omega
  ·show -t.tax=_;omega
  ·show -t.gross=-t.net+-t.tax;omega
theorem aUg {y:Int} (h1:1≤y) (h2:y≤9999):Go.Proofs.YtoaibmbldmckaaaGreat.ahead y=365*(y - 1)+(y - 1) / 4 - (y - 1) / 100+(y - 1) / 400:=by
 unfold Go.Proofs.YtoaibmbldmckaaaGreat.ahead
 have a1:wr .i64 (y - 1)=y - 1:=eE (by omega)
 rw [a1]
 have a2:(y - 1).tdiv 4=(y - 1) / 4:=Int.tdiv_eq_ediv_of_nonneg (by omega)
 have a3:(y - 1).tdiv 100=(y - 1) / 100:=Int.tdiv_eq_ediv_of_nonneg (by omega)
 have a4:(y - 1).tdiv 400=(y - 1) / 400:=Int.tdiv_eq_ediv_of_nonneg (by omega)
 rw [a2,a3,a4]
 rw [eE (n:=365*(y - 1)) (by omega),eE (n:=(y - 1) / 4) (by omega),eE (n:=(y - 1) / 100) (by omega),eE (n:=(y - 1) / 400) (by omega)]
 rw [eE (n:=365*(y - 1)+(y - 1) / 4) (by omega),eE (n:=365*(y - 1)+(y - 1) / 4 - (y - 1) / 100) (by omega),eE (by omega)]
theorem jV (y m:Int):28≤eR y m∧eR y m≤31:=by
 unfold eR
 repeat' split
 all_goals omega
def fP (y:Int):Nat→Int
 | 0=>0
 | n+1=>fP y n+eR y ((n:Int)+1)
theorem mI (y:Int):∀ n:Nat,28*(n:Int)≤fP y n∧fP y n≤31*(n:Int)
 | 0=>by simp [fP]
 | n+1=>by
  have:=mI y n
  have:=jV y ((n:Int)+1)
  simp only [fP]
  omega
theorem aNz (y:Int):∀ (n k:Nat) (a:Int),-1000000000≤a→a≤1000000000→k+n≤1000→aD (iB y) id (List.range' k n) (a+fP y k)=a+fP y (k+n)
 | 0,k,a,_,_,_=>rfl
 | n+1,k,a,h1,h2,h3=>by
  have m1:=mI y k
  have m2:=jV y ((k:Int)+1)
  rw [List.range'_succ]
  simp only [aD,iB]
  rw [eE (by omega),Int.add_assoc]
  have:=aNz y n (k+1) a h1 h2 (by omega)
  rw [show k+(n+1)=k+1+n from by omega]
  exact this
theorem aA5 (d:Date):d.right=true↔1≤d.y∧d.y≤9999∧1≤d.m∧d.m≤12∧1≤d.d∧d.d≤eR d.y d.m:=by
 unfold Date.right
 simp only [Bool.and_eq_true,decide_eq_true_eq]
theorem aO0 {d:Date} (h:d.right=true):d.days=365*(d.y - 1)+(d.y - 1) / 4 - (d.y - 1) / 100+(d.y - 1) / 400+fP d.y (d.m - 1).toNat+d.d - 1:=by
 obtain ⟨h1,h2,h3,h4,h5,h6⟩:=(aA5 d).1 h
 unfold Date.days
 rw [if_pos h]
 have e:=aUg h1 h2
 have hr:=jV d.y d.m
 have hm:=mI d.y (d.m - 1).toNat
 have hl:=aNz d.y (d.m - 1).toNat 0 (Go.Proofs.YtoaibmbldmckaaaGreat.ahead d.y) (by rw [e];omega) (by rw [e];omega) (by omega)
 simp only [fP,Int.add_zero,Nat.zero_add] at hl
 rw [List.range_eq_range',hl,e,eE (n:=365*(d.y - 1)+(d.y - 1) / 4 - (d.y - 1) / 100+(d.y - 1) / 400+fP d.y (d.m - 1).toNat+d.d) (by omega),eE (by omega)]
theorem aUh (y:Int):fP y 12=365+(if aH3 y=true then 1 else 0):=by
 simp only [fP,eR]
 by_cases c:aH3 y=true<;>simp [c]
theorem aXa {y:Int} (h:0≤y):aH3 y=decide (y % 4=0∧(y % 100≠0∨y % 400=0)):=by
 unfold aH3
 have a:y.tmod 4=y % 4:=Int.tmod_eq_emod_of_nonneg h
 have b:y.tmod 100=y % 100:=Int.tmod_eq_emod_of_nonneg h
 have c:y.tmod 400=y % 400:=Int.tmod_eq_emod_of_nonneg h
 rw [a,b,c]
 split
 ·rename_i h1
  split
  ·rename_i h2;simp [h1,h2]
  ·rename_i h2;simp [h1,h2]
 ·rename_i h1;simp [h1]
theorem aB0 (y:Int):∀ (n k:Nat),fP y n+28*(k:Int)≤fP y (n+k)
 | n,0=>by simp
 | n,k+1=>by
  have:=aB0 y n k
  have:=jV y (((n+k:Nat):Int)+1)
  show _≤fP y (n+k)+eR y (((n+k:Nat):Int)+1)
  omega
theorem aFe (y:Int) {n k:Nat} (h:n<k):fP y n+eR y ((n:Int)+1)≤fP y k:=by
 have:=aB0 y (n+1) (k - (n+1))
 rw [show n+1+(k - (n+1))=k from by omega] at this
 simp only [fP] at this
 omega
theorem aO1 {a b:Date} (ha:a.right=true) (hb:b.right=true) (h:a.y<b.y∨a.y=b.y∧(a.m<b.m∨a.m=b.m∧a.d<b.d)):a.days<b.days:=by
 rw [aO0 ha,aO0 hb]
 obtain ⟨a1,a2,a3,a4,a5,a6⟩:=(aA5 a).1 ha
 obtain ⟨b1,b2,b3,b4,b5,b6⟩:=(aA5 b).1 hb
 have hma:∀ {d:Date},1≤d.m→(((d.m - 1).toNat:Nat):Int)+1=d.m:=fun h=>by omega
 rcases h with h | ⟨hy,h | ⟨h2,h⟩⟩
 ·
  have h12:fP a.y (a.m - 1).toNat+a.d≤fP a.y 12:=by
   have:=aFe a.y (n:=(a.m - 1).toNat) (k:=12) (by omega)
   rw [hma a3] at this
   omega
  rw [aUh,aXa (by omega)] at h12
  have h0:=(mI b.y (b.m - 1).toNat).1
  by_cases c:a.y % 4=0∧(a.y % 100≠0∨a.y % 400=0)
  ·rw [if_pos (by simpa using c)] at h12
   omega
  ·rw [if_neg (by simpa using c)] at h12
   omega
 ·have:=aFe a.y (n:=(a.m - 1).toNat) (k:=(b.m - 1).toNat) (by omega)
  rw [hma a3] at this
  rw [hy] at this ⊢
  rw [hy] at a6
  omega
 ·rw [hy,h2];omega
theorem aUi {a b:Date} (ha:a.right=true) (hb:b.right=true) (h:a.days=b.days):a=b:=by
 have h1:¬ (a.y<b.y∨a.y=b.y∧(a.m<b.m∨a.m=b.m∧a.d<b.d)):=fun q=>by have:=aO1 ha hb q;omega
 have h2:¬ (b.y<a.y∨b.y=a.y∧(b.m<a.m∨b.m=a.m∧b.d<a.d)):=fun q=>by have:=aO1 hb ha q;omega
 have e1:a.y=b.y:=by omega
 have e2:a.m=b.m:=by omega
 have e3:a.d=b.d:=by omega
 cases a;cases b
 simp only at e1 e2 e3
 rw [e1,e2,e3]
theorem aO2 {α:Type} (p:α→Bool):∀ (l:List α) (n:Nat),aD (cS p) (fun _=>-1) l n=-1→∀ a∈l,p a=false
 | [],n,_,a,h=>by cases h
 | x::l,n,h,a,ha=>by
  by_cases c:p x=true
  ·simp only [aD,cS,c,if_true] at h
   omega
  ·simp only [aD,cS,c,if_false] at h
   rcases List.mem_cons.1 ha with rfl | ha
   ·simpa using c
   ·exact aO2 p l (n+1) h a ha
theorem aXb {α:Type} {p:α→Bool} {l:List α} (h:ixM p l<0):∀ a∈l,p a=false:=by
 rcases kM p l with e | ⟨i,a,e,_⟩
 ·exact aO2 p l 0 e
 ·rw [e] at h;omega
theorem aFf {α:Type} (p:α→Bool):∀ (l:List α) (n i:Nat) (a:α),l[i]?=some a→p a=true→(∀ j b,j<i→l[j]?=some b→p b=false)→aD (cS p) (fun _=>-1) l n=((n+i:Nat):Int)
 | x::l,n,0,a,h,hp,_=>by
  cases h
  simp only [aD,cS,hp,if_true];rfl
 | x::l,n,i+1,a,h,hp,hj=>by
  have c:p x=false:=hj 0 x (by omega) rfl
  simp only [aD,cS,c,Bool.false_eq_true,if_false]
  rw [aFf p l (n+1) i a h hp (fun j b hji hb=>hj (j+1) b (by omega) hb)]
  omega
theorem aFg {α:Type} {p:α→Bool} {l:List α} {i:Nat} {a:α} (h:l[i]?=some a) (hp:p a=true) (hj:∀ j b,j<i→l[j]?=some b→p b=false):ixM p l=(i:Int):=by
 have:=aFf p l 0 i a h hp hj
 rw [Nat.zero_add] at this
 exact this
theorem pI {l:List Ser} (hs:l.Pairwise (fun a b=>fG a.name b.name=true)) {i:Nat} {s:Ser} (h:l[i]?=some s):dD l s.name=(i:Int):=by
 refine aFg h (by simp) (fun j b hj hb=>?_)
 have h1:=List.pairwise_iff_getElem.1 hs j i (List.getElem?_eq_some_iff.1 hb).1 (List.getElem?_eq_some_iff.1 h).1 hj
 rw [(List.getElem?_eq_some_iff.1 hb).2,(List.getElem?_eq_some_iff.1 h).2] at h1
 have:=bCh h1
 simpa using this
theorem wT {l:List Ser} {name:List UInt8} (h:dD l name<0):∀ s∈l,s.name≠name:=fun s hs=>by
 have:=aXb h s hs
 simpa using this
def mP (l:List Posted) (name:List UInt8):Int:=((l.filter fun p=>p.ref.ser == name).length:Int)
theorem fA (a b:List Posted) (name:List UInt8):mP (a++b) name=mP a name+mP b name:=by
 unfold mP;rw [List.filter_append,List.length_append];omega
theorem mJ (p:Posted) (name:List UInt8):mP [p] name=if p.ref.ser=name then 1 else 0:=by
 unfold mP
 by_cases c:p.ref.ser=name
 ·simp [c]
 ·simp [c]
theorem kR (l:List Posted) (name:List UInt8):0≤mP l name:=by unfold mP;omega
structure Nums (ser:List Ser) (l:List Posted):Prop where
 num:∀ i p,l[i]?=some p→(∃ s∈ser,s.name=p.ref.ser)∧p.ref.num=mP (l.take i) p.ref.ser+1
 next:∀ s∈ser,s.next=mP l s.name+1
def lW (ser:List Ser) (l:List Posted):List Int:=ser.map (fun s=>mP l s.name)++List.replicate (8 - ser.length) 0
theorem kS {ser:List Ser} {l:List Posted} {i:Nat} {s:Ser} (h:ser[i]?=some s):(lW ser l)[i]?=some (mP l s.name):=by
 unfold lW
 rw [List.getElem?_append_left (by rw [List.length_map];exact (List.getElem?_eq_some_iff.1 h).1),List.getElem?_map,h]
 rfl
theorem aLb {ser:List Ser} (hs:ser.Pairwise (fun a b=>fG a.name b.name=true)) {l:List Posted} {p:Posted} {i:Nat} {s:Ser} (h:ser[i]?=some s) (hn:s.name=p.ref.ser):bump (lW ser l) i=lW ser (l++[p]):=by
 unfold bump
 rw [List.getD_eq_getElem?_getD,kS h]
 apply List.ext_getElem?
 intro j
 rw [List.getElem?_set]
 have hlen:ser.length≤(lW ser l).length:=by unfold lW;rw [List.length_append,List.length_map];omega
 have hi:=(List.getElem?_eq_some_iff.1 h).1
 split
 ·rename_i e
  subst e
  rw [if_pos (by omega),kS h,fA,mJ,if_pos hn.symm]
  rfl
 ·rename_i e
  by_cases hj:j<ser.length
  ·have hjs:ser[j]?=some ser[j]:=List.getElem?_eq_getElem hj
   rw [kS hjs,kS hjs,fA,mJ,if_neg,Int.add_zero]
   intro hc
   have e1:=pI hs hjs
   have e2:=pI hs h
   rw [hn,hc] at e2
   rw [e2] at e1
   exact e (by omega)
  ·unfold lW
   rw [List.getElem?_append_right (by rw [List.length_map];omega),List.getElem?_append_right (by rw [List.length_map];omega),List.length_map,List.length_map]
theorem bIm {ser:List Ser} (hs:ser.Pairwise (fun a b=>fG a.name b.name=true)) (h8:ser.length≤8) {fin:List Int→Bool}:∀ (l done:List Posted),aD (kW ser) fin l (lW ser done)=true ↔
  (∀ i p,l[i]?=some p→(∃ s∈ser,s.name=p.ref.ser)∧p.ref.num=mP (done++l.take i) p.ref.ser+1)∧fin (lW ser (done++l))=true
 | [],done=>by simp [aD]
 | p::l,done=>by
  by_cases c:dD ser p.ref.ser<0
  ·have e:kW ser (lW ser done) p=.inl false:=by unfold kW;rw [if_pos c]
   simp only [aD,e]
   constructor
   ·intro h;cases h
   ·rintro ⟨h,_⟩
    obtain ⟨⟨s,h1,h2⟩,_⟩:=h 0 p rfl
    exact absurd h2 (wT c s h1)
  ·rcases lG ser p.ref.ser with e | ⟨i,s,e,hi,hn⟩
   ·exact absurd (by rw [e];decide) c
   ·have hb:=aLb hs (l:=done) hi hn
    have hg:(lW ser (done++[p])).getD i 0=mP done p.ref.ser+1:=by
     rw [List.getD_eq_getElem?_getD,kS hi,fA,mJ,if_pos hn.symm,hn];rfl
    by_cases q:p.ref.num=mP done p.ref.ser+1
    ·have es:kW ser (lW ser done) p=.inr (lW ser (done++[p])):=by
      unfold kW
      rw [if_neg c,e]
      simp only [Int.toNat_natCast]
      rw [hb,hg,if_pos q]
     simp only [aD,es]
     rw [bIm hs h8 l (done++[p])]
     constructor
     ·rintro ⟨h1,h2⟩
      refine ⟨fun j x hj=>?_,by rw [List.append_assoc] at h2;exact h2⟩
      cases j with
      | zero=>cases hj;exact ⟨⟨s,List.mem_of_getElem? hi,hn⟩,by simpa using q⟩
      | succ j=>have:=h1 j x hj;rw [List.append_assoc] at this;exact this
     ·rintro ⟨h1,h2⟩
      refine ⟨fun j x hj=>?_,by rw [List.append_assoc];exact h2⟩
      have:=h1 (j+1) x hj
      rw [List.append_assoc];exact this
    ·have es:kW ser (lW ser done) p=.inl false:=by
      unfold kW
      rw [if_neg c,e]
      simp only [Int.toNat_natCast]
      rw [hb,hg,if_neg q]
     simp only [aD,es]
     constructor
     ·intro h;cases h
     ·rintro ⟨h,_⟩
      have:=(h 0 p rfl).2
      simp only [List.take_zero,List.append_nil] at this
      exact absurd this q
theorem bIn:∀ (ser:List Ser) (is:List Int),aD jU (fun _=>true) ser is=true↔∀ i s,ser[i]?=some s→s.next=is.getD i 0+1
 | [],is=>by simp [aD]
 | s::l,is=>by
  have hh:is.headD 0=is.getD 0 0:=by cases is<;>rfl
  have ht:∀ j,is.tail.getD j 0=is.getD (j+1) 0:=fun j=>by cases is<;>simp
  by_cases c:s.next=is.getD 0 0+1
  ·have e:jU is s=.inr is.tail:=by unfold jU;rw [hh,if_pos c]
   simp only [aD,e]
   rw [bIn l is.tail]
   constructor
   ·intro h i x hx
    cases i with
    | zero=>cases hx;exact c
    | succ i=>have:=h i x hx;rwa [ht] at this
   ·intro h i x hx
    have:=h (i+1) x hx
    rwa [ht]
  ·have e:jU is s=.inl false:=by unfold jU;rw [hh,if_neg c]
   simp only [aD,e]
   constructor
   ·intro h;cases h
   ·intro h;exact absurd (h 0 s rfl) c
theorem yW {ser:List Ser} (hs:ser.Pairwise (fun a b=>fG a.name b.name=true)) (h8:ser.length≤8) (l:List Posted):nC ser l=true↔Nums ser l:=by
 unfold nC
 have h0:List.replicate 8 (0:Int)=lW ser []:=by
  unfold lW
  apply List.ext_getElem?
  intro j
  by_cases hj:j<ser.length
  ·rw [List.getElem?_append_left (by rw [List.length_map];exact hj),List.getElem?_map,List.getElem?_eq_getElem hj,List.getElem?_replicate,if_pos (by omega)];rfl
  ·rw [List.getElem?_append_right (by rw [List.length_map];omega),List.length_map,List.getElem?_replicate,List.getElem?_replicate]
   by_cases hj8:j<8
   ·rw [if_pos hj8,if_pos (by omega)]
   ·rw [if_neg hj8,if_neg (by omega)]
 rw [h0,bIm hs h8 l [],bIn]
 simp only [List.nil_append]
 constructor
 ·rintro ⟨h1,h2⟩
  refine ⟨h1,fun s hm=>?_⟩
  obtain ⟨i,hi⟩:=List.mem_iff_getElem?.1 hm
  have:=h2 i s hi
  rwa [List.getD_eq_getElem?_getD,kS hi] at this
 ·rintro ⟨h1,h2⟩
  refine ⟨h1,fun i s hi=>?_⟩
  rw [List.getD_eq_getElem?_getD,kS hi]
  exact h2 s (List.mem_of_getElem? hi)
def aJ5:Posted:=⟨Ref.zero,⟨0,0,0⟩,Total.zero,Ref.zero,false⟩
def rI (p:Posted):Posted:={ p with back:=false }
def nN (done:List Posted) (p:Posted):Prop:=p.day.right=true∧bY p.total=true∧(p.of=Ref.zero∨0≤bE done p.of∧jT p (done.getD (bE done p.of).toNat aJ5)=true)
def eI (done:List Posted) (is:List Int) (p:Posted):List Int:=if p.of=Ref.zero then is else bump is (bE done p.of).toNat
def cF:List Posted→List Posted→List Int→List Int
 | _,[],is=>is
 | done,p::l,is=>cF (done++[p]) l (eI done is p)
def cZ (l:List Posted):List Int:=cF [] l (List.replicate 40 0)
theorem aJ6 {done:List Posted} {is:List Int} {p:Posted} (h:nN done p):gA (done,is) p=.inr (done++[p],eI done is p):=by
 obtain ⟨h1,h2,h3⟩:=h
 unfold gA eI
 rw [if_neg (by rw [h1];simp),if_neg (by rw [h2];simp)]
 by_cases c:p.of=Ref.zero
 ·rw [if_pos c,if_pos c]
 ·rw [if_neg c,if_neg c]
  rcases h3 with h3 | ⟨h3,h4⟩
  ·exact absurd h3 c
  ·simp only
   rw [if_neg (by omega)]
   unfold aJ5 at h4
   rw [h4]
   simp
theorem aJ7 {done:List Posted} {is:List Int} {p:Posted} (h:¬ nN done p):gA (done,is) p=.inl false:=by
 unfold gA
 split
 ·rfl
 ·rename_i h1
  split
  ·rfl
  ·rename_i h2
   have h1:p.day.right=true:=by simpa using h1
   have h2:bY p.total=true:=by simpa using h2
   split
   ·rename_i h3;exact absurd ⟨h1,h2,.inl h3⟩ h
   ·split
    ·rfl
    ·rename_i h4
     split
     ·rfl
     ·rename_i h5
      exact absurd ⟨h1,h2,.inr ⟨by simp only at h4;omega,(Bool.not_eq_false _).mp h5⟩⟩ h
theorem bBb {fin:List Posted×List Int→Bool}:∀ (l done:List Posted) (is:List Int),aD gA fin l (done,is)=true↔(∀ i p,l[i]?=some p→nN (done++l.take i) p)∧fin (done++l,cF done l is)=true
 | [],done,is=>by simp [aD,cF]
 | p::l,done,is=>by
  by_cases c:nN done p
  ·simp only [aD,aJ6 c]
   rw [bBb l (done++[p]) _]
   simp only [cF]
   constructor
   ·rintro ⟨h1,h2⟩
    refine ⟨fun j x hj=>?_,by rw [List.append_assoc] at h2;exact h2⟩
    cases j with
    | zero=>cases hj;simpa using c
    | succ j=>have:=h1 j x hj;rw [List.append_assoc] at this;exact this
   ·rintro ⟨h1,h2⟩
    refine ⟨fun j x hj=>?_,by rw [List.append_assoc];exact h2⟩
    have:=h1 (j+1) x hj
    rw [List.append_assoc];exact this
  ·simp only [aD,aJ7 c]
   constructor
   ·intro h;cases h
   ·rintro ⟨h,_⟩
    have:=h 0 p rfl
    simp only [List.take_zero,List.append_nil] at this
    exact absurd this c
theorem bIo:∀ (l:List Posted) (is:List Int),aD iD (fun _=>true) l is=true↔∀ i p,l[i]?=some p→is.getD i 0≤1∧p.back=decide (is.getD i 0=1)
 | [],is=>by simp [aD]
 | s::l,is=>by
  have hh:is.headD 0=is.getD 0 0:=by cases is<;>rfl
  have ht:∀ j,is.tail.getD j 0=is.getD (j+1) 0:=fun j=>by cases is<;>simp
  by_cases c:is.getD 0 0≤1∧s.back=decide (is.getD 0 0=1)
  ·have e:iD is s=.inr is.tail:=by unfold iD;rw [hh,if_neg (by omega),if_pos c.2]
   simp only [aD,e]
   rw [bIo l is.tail]
   constructor
   ·intro h i x hx
    cases i with
    | zero=>cases hx;exact c
    | succ i=>have:=h i x hx;rwa [ht] at this
   ·intro h i x hx
    have:=h (i+1) x hx
    rwa [ht]
  ·have e:iD is s=.inl false:=by
    unfold iD
    rw [hh]
    split
    ·rfl
    ·split
     ·rename_i h1 h2;exact absurd ⟨by omega,h2⟩ c
     ·rfl
   simp only [aD,e]
   constructor
   ·intro h;cases h
   ·intro h;exact absurd (h 0 s rfl) c
theorem hJ (l:List Posted):iS l=true↔l.length≤40∧(∀ i p,l[i]?=some p→nN (l.take i) p)∧∀ i p,l[i]?=some p→(cZ l).getD i 0≤1∧p.back=decide ((cZ l).getD i 0=1):=by
 unfold iS
 split
 ·rename_i h;simp;omega
 ·rename_i h
  rw [bBb l [] _,bIo]
  simp only [List.nil_append]
  exact ⟨fun ⟨a,b⟩=>⟨by omega,a,b⟩,fun ⟨_,a,b⟩=>⟨a,b⟩⟩
theorem oI:∀ (l done:List Posted) (is:List Int) (p:Posted),cF done (l++[p]) is=eI (done++l) (cF done l is) p
 | [],done,is,p=>by simp [cF]
 | x::l,done,is,p=>by
  simp only [List.cons_append,cF]
  rw [oI l]
  rw [List.append_assoc];rfl
theorem oS (l:List Posted) (p:Posted):cZ (l++[p])=eI l (cZ l) p:=by
 unfold cZ
 rw [oI,List.nil_append]
theorem pJ:∀ (l done:List Posted) (is:List Int),(∀ i,0≤is.getD i 0)→(∀ i,done.length≤i→is.getD i 0=0)→(∀ i p,l[i]?=some p→nN (done++l.take i) p)→
  (∀ i,0≤(cF done l is).getD i 0)∧(∀ i,(done++l).length≤i→(cF done l is).getD i 0=0)∧(cF done l is).length=is.length
 | [],done,is,h1,h2,_=>⟨h1,by rw [List.append_nil];exact h2,rfl⟩
 | p::l,done,is,h1,h2,h3=>by
  simp only [cF]
  have hp:=h3 0 p rfl
  simp only [List.take_zero,List.append_nil] at hp
  have hb:∀ i,(eI done is p).getD i 0=is.getD i 0∨i<done.length∧(eI done is p).getD i 0=is.getD i 0+1:=by
   intro i
   unfold eI
   split
   ·exact .inl rfl
   ·rename_i hc
    obtain ⟨hp1,_⟩:=hp.2.2.resolve_left hc
    rcases mG done p.of with e | ⟨k,x,e,hk,_⟩
    ·omega
    ·have hkl:=(List.getElem?_eq_some_iff.1 hk).1
     rw [e,Int.toNat_natCast]
     unfold bump
     simp only [List.getD_eq_getElem?_getD,List.getElem?_set]
     by_cases q:k=i
     ·rw [if_pos q]
      subst q
      split
      ·exact .inr ⟨hkl,rfl⟩
      ·rename_i hn;left;rw [List.getElem?_eq_none (by omega)]
     ·rw [if_neg q];exact .inl rfl
  have hl:(eI done is p).length=is.length:=by
   unfold eI
   split
   ·rfl
   ·exact yN _ _
  obtain ⟨a,b,c⟩:=pJ l (done++[p]) (eI done is p) (fun i=>by have:=h1 i;rcases hb i with h | ⟨_,h⟩<;>omega)
   (fun i hi=>by
    rw [List.length_append] at hi
    simp only [List.length_cons,List.length_nil] at hi
    have:=h2 i (by omega)
    rcases hb i with h | ⟨h0,h⟩<;>omega)
   (fun i x hx=>by have:=h3 (i+1) x hx;rw [List.append_assoc];exact this)
  refine ⟨a,fun i hi=>b i (by rw [List.append_assoc];exact hi),c.trans hl⟩
theorem rJ {l:List Posted} (h:∀ i p,l[i]?=some p→nN (l.take i) p):(∀ i,0≤(cZ l).getD i 0)∧(∀ i,l.length≤i→(cZ l).getD i 0=0)∧(cZ l).length=40:=by
 have hz:∀ i,(List.replicate 40 (0:Int)).getD i 0=0:=fun i=>by
  rw [List.getD_eq_getElem?_getD,List.getElem?_replicate];split<;>rfl
 have:=pJ l [] (List.replicate 40 0) (fun i=>by rw [hz];omega) (fun i _=>hz i) (by simpa using h)
 simp only [List.nil_append,List.length_replicate] at this
 exact this
theorem aA6 (l:List Posted) (r:Ref):bE (l.map rI) r=bE l r:=by
 unfold bE
 rw [←aWt]
 rfl
theorem aPt (p q:Posted):jT (rI p) (rI q)=jT p q:=rfl
theorem aXc (l:List Posted) (k:Nat):(l.map rI).getD k aJ5=rI (l.getD k aJ5):=by
 rw [List.getD_eq_getElem?_getD,List.getD_eq_getElem?_getD,List.getElem?_map]
 cases l[k]?<;>rfl
theorem aO3 (done:List Posted) (p:Posted):nN (done.map rI) (rI p)↔nN done p:=by
 unfold nN
 rw [aXc,aPt]
 show _∧_∧(p.of=Ref.zero∨0≤bE (done.map rI) p.of∧_)↔_
 have e:bE (done.map rI) (rI p).of=bE done p.of:=aA6 done p.of
 rw [e,aA6]
 exact Iff.rfl
theorem vF:∀ (l done:List Posted) (is:List Int),cF (done.map rI) (l.map rI) is=cF done l is
 | [],_,_=>rfl
 | p::l,done,is=>by
  simp only [List.map_cons,cF]
  have e:eI (done.map rI) is (rI p)=eI done is p:=by
   unfold eI
   show (if p.of=Ref.zero then is else bump is (bE (done.map rI) p.of).toNat)=_
   rw [aA6]
  rw [e]
  have:=vF l (done++[p]) (eI done is p)
  rw [List.map_append] at this
  exact this
theorem aFh (l:List Posted):cZ (l.map rI)=cZ l:=vF l [] _
theorem aLc (l:List Posted) (k:Nat):(fV l k).map rI=l.map rI:=by
 unfold fV
 split
 ·rfl
 ·rename_i p hp
  apply List.ext_getElem?
  intro j
  rw [List.getElem?_map,List.getElem?_map,List.getElem?_set]
  split
  ·rename_i e;subst e;rw [if_pos (List.getElem?_eq_some_iff.1 hp).1,hp];rfl
  ·rfl
theorem aUj {l m:List Posted} (e:l.map rI=m.map rI) (h:∀ i p,l[i]?=some p→nN (l.take i) p):∀ i p,m[i]?=some p→nN (m.take i) p:=by
 intro i p hp
 have h1:(l.map rI)[i]?=some (rI p):=by rw [e,List.getElem?_map,hp];rfl
 rw [List.getElem?_map] at h1
 cases hq:l[i]? with
 | none=>rw [hq] at h1;cases h1
 | some q=>
  rw [hq] at h1
  have hqp:rI q=rI p:=Option.some.inj h1
  have:=h i q hq
  rw [←aO3,List.map_take,hqp,e,←List.map_take,aO3] at this
  exact this
theorem aB1 {fin:List Bal→List Bal×Int}:∀ (l:List Posted) (a b:List Bal),aD bL (fun b=>(b,0)) l a=(b,0)→aD bL fin l a=fin b
 | [],a,b,h=>by cases h;rfl
 | p::l,a,b,h=>by
  simp only [aD] at h ⊢
  split at h
  ·rename_i r he
   unfold bL at he
   split at he
   ·rename_i hc;cases he;exact absurd (congrArg Prod.snd h) hc
   ·split at he
    ·rename_i hc;cases he;exact absurd (congrArg Prod.snd h) hc
    ·cases he
  ·exact aB1 l _ b h
theorem aHf {l:List Posted} {b:List Bal} (h:dV l=(b,0)) {p:Posted} (h1:(cD p.total).2=0) (h2:(bI b (cD p.total).1).2=0):dV (l++[p])=((bI b (cD p.total).1).1,0):=by
 unfold dV at h ⊢
 rw [aAx,aB1 l [] b h]
 simp only [aD,bL,h1,h2,ne_eq,not_true_eq_false,if_false]
theorem wU {fin:List Bal→List Bal×Int}:∀ (l:List Posted) (a:List Bal),aD bL fin (l.map rI) a=aD bL fin l a
 | [],_=>rfl
 | p::l,a=>by
  simp only [List.map_cons,aD]
  have e:bL a (rI p)=bL a p:=rfl
  rw [e]
  split
  ·rfl
  ·exact wU l _
theorem aLd {l m:List Posted} (e:l.map rI=m.map rI):dV l=dV m:=by
 unfold dV
 rw [←wU l,e,wU]
theorem aHg (l:List Posted) (name:List UInt8):mP (l.map rI) name=mP l name:=by
 unfold mP
 rw [List.filter_map,List.length_map]
 rfl
theorem aXd {ser:List Ser} {l m:List Posted} (e:l.map rI=m.map rI) (h:Nums ser l):Nums ser m:=by
 refine ⟨fun i p hp=>?_,fun s hs=>by rw [h.next s hs,←aHg l,e,aHg]⟩
 have h1:(l.map rI)[i]?=some (rI p):=by rw [e,List.getElem?_map,hp];rfl
 rw [List.getElem?_map] at h1
 cases hq:l[i]? with
 | none=>rw [hq] at h1;cases h1
 | some q=>
  rw [hq] at h1
  have hqp:rI q=rI p:=Option.some.inj h1
  have hr:(rI q).ref=(rI p).ref:=congrArg Posted.ref hqp
  have hr:q.ref=p.ref:=hr
  obtain ⟨a,b⟩:=h.num i q hq
  rw [hr] at a b
  refine ⟨a,?_⟩
  rw [b,←aHg,List.map_take,e,←List.map_take,aHg]
theorem aJ8 {l:List Sess} (hs:l.Pairwise (fun a b=>a.id<b.id)) (n:Int):rC l n=true↔∀ s∈l,s.id<n:=by
 unfold rC
 cases h:l[l.length - 1]? with
 | none=>
  have:l=[]:=by
   rw [List.getElem?_eq_none_iff] at h
   cases l with
   | nil=>rfl
   | cons a l=>simp only [List.length_cons] at h;omega
  subst this
  simp
 | some s=>
  simp only [decide_eq_true_eq]
  constructor
  ·intro hn x hx
   obtain ⟨i,hi⟩:=List.mem_iff_getElem?.1 hx
   have hil:=(List.getElem?_eq_some_iff.1 hi).1
   by_cases c:i=l.length - 1
   ·subst c;rw [h] at hi;cases hi;exact hn
   ·have h1:=List.pairwise_iff_getElem.1 hs i (l.length - 1) hil (by omega) (by omega)
    rw [(List.getElem?_eq_some_iff.1 h).2,(List.getElem?_eq_some_iff.1 hi).2] at h1
    omega
  ·intro q;exact q s (List.mem_of_getElem? h)
def oU (l:List Sess) (n:Int):Prop:=l.length≤8∧(∀ s∈l,0<s.id∧0≤s.last∧s.last≤1099511627776∧(s.last=0→s.reply=Rep.zero))∧l.Pairwise (fun a b=>a.id<b.id)∧1≤n∧n≤1099511627776∧∀ s∈l,s.id<n
theorem vG (s:State):iE s=true↔oU s.sess s.next:=by
 unfold iE oU
 constructor
 ·intro h
  repeat' split at h
  all_goals first | (cases h;done) | skip
  rename_i h1 h2 h3
  obtain ⟨a,b,c⟩:=(uO _).1 h1
  exact ⟨a,b,c,h2,h3,(aJ8 c _).1 h⟩
 ·rintro ⟨a,b,c,d,e,f⟩
  rw [if_pos ((uO _).2 ⟨a,b,c⟩),if_pos d,if_pos e]
  exact (aJ8 c _).2 f
theorem cG (s:State):bQ s=true↔eD s.table=true∧kO s.ser=true∧oU s.sess s.next∧iS s.posted=true∧Nums s.ser s.posted∧dV s.posted=(s.book,0):=by
 rw [←vG]
 unfold bQ
 constructor
 ·intro h
  repeat' split at h
  all_goals first | (cases h;done) | skip
  rename_i h1 h2 h3 h4 h5 h6
  have h2':kO s.ser=true:=by simpa using h2
  obtain ⟨a,b,c⟩:=(fO _).1 h2'
  exact ⟨by simpa using h1,h2',by simpa using h3,by simpa using h4,(yW c a _).1 (by simpa using h5),Prod.ext (of_decide_eq_true h) h6⟩
 ·rintro ⟨h1,h2,h3,h4,h5,h6⟩
  obtain ⟨a,b,c⟩:=(fO _).1 h2
  rw [if_neg (by rw [h1];simp),if_neg (by rw [h2];simp),if_neg (by rw [h3];simp),if_neg (by rw [h4];simp),if_neg (by rw [(yW c a _).2 h5];simp),if_pos (by rw [h6])]
  rw [h6];simp
theorem aDl {l:List Ser} {name:List UInt8} {limit:Int} (h:(fD l name limit).2=0):kO (fD l name limit).1=true∧(∀ s,s∈(fD l name limit).1↔s=⟨name,1,limit,false⟩∨s∈l)∧(∀ s∈l,s.name≠name)∧l.length<8:=by
 unfold fD at h ⊢
 split at h
 ·simp at h
 ·rename_i h1
  split at h
  ·simp at h
  ·rename_i h2
   split at h
   ·simp at h
   ·rename_i h3
    split at h
    ·simp at h
    ·rename_i h4
     split at h
     ·simp at h
     ·rename_i h5
      rw [if_neg h1,if_neg h2,if_neg h3,if_neg h4,if_neg h5]
      obtain ⟨a,b,c⟩:=(fO l).1 (by simpa using h1)
      have hn:=wT (l:=l) (name:=name) (by omega)
      refine ⟨?_,fun s=>kQ _ _ _ _,hn,by omega⟩
      simp only
      rw [fO]
      refine ⟨by have:=pG l (mF (fun s=>fG s.name name) l) ⟨name,1,limit,false⟩;omega,fun s hs=>?_,?_⟩
      ·rcases (kQ _ _ _ _).1 hs with rfl | hs
       ·refine ⟨by simpa using h2,?_⟩
        unfold lQ
        rw [eE (by simp only;omega)]
        simp;omega
       ·exact b s hs
      ·rw [uQ]
       refine rH c (fun a b c=>iZ) (fun x hx hp=>hp) (fun x hx hp=>?_)
       rcases aC4 x.name name with q | q | q
       ·rw [hp] at q;cases q
       ·exact absurd q (hn x hx)
       ·exact q
theorem aUk {l:List Ser} {name:List UInt8} (h:(pE l name).2=0):kO (pE l name).1=true∧∃ (i:Nat) (s:Ser),l[i]?=some s∧s.name=name∧(pE l name).1=l.set i { s with shut:=true }:=by
 unfold pE at h ⊢
 split at h
 ·rename_i hc;exact absurd h hc
 ·rename_i hc
  rw [if_neg hc]
  obtain ⟨h1,i,s,e1,e2,h3,h4,h5⟩:=yL (Decidable.not_not.1 hc)
  rw [e1]
  simp only [Int.toNat_natCast,h3]
  refine ⟨?_,i,s,h3,h4,rfl⟩
  obtain ⟨a,b,c⟩:=(fO l).1 h1
  rw [fO]
  refine ⟨by rw [List.length_set];exact a,fun x hx=>?_,wQ (key:=fun s:Ser=>s.name) c h3 rfl⟩
  rcases List.mem_or_eq_of_mem_set hx with hx | rfl
  ·exact b x hx
  ·exact b s (List.mem_of_getElem? h3)
theorem aUl {l:List Ser} {name:List UInt8} (h:(cL l name).2.2=0):kO (cL l name).1=true∧∃ (i:Nat) (s:Ser),l[i]?=some s∧s.name=name∧s.shut=false∧s.next≤s.limit∧(cL l name)=(l.set i { s with next:=s.next+1 },s.next,0):=by
 unfold cL at h ⊢
 split at h
 ·rename_i hc;exact absurd h hc
 ·rename_i hc
  rw [if_neg hc]
  obtain ⟨h1,i,s,e1,e2,h3,h4,h5⟩:=yL (Decidable.not_not.1 hc)
  rw [e1] at h ⊢
  simp only [Int.toNat_natCast,h3] at h ⊢
  split at h
  ·simp at h
  ·rename_i h6
   rw [if_neg h6]
   obtain ⟨a,b,c⟩:=(fO l).1 h1
   have hb:=(b s (List.mem_of_getElem? h3)).2
   unfold lQ at hb
   simp only [Bool.or_eq_false_iff,decide_eq_false_iff_not] at hb
   obtain ⟨b1,b2,b3,b4⟩:=hb
   rw [eE (by omega)] at b4
   rw [eE (n:=s.next+1) (by omega)]
   refine ⟨?_,i,s,h3,h4,h5,by omega,rfl⟩
   rw [fO]
   refine ⟨by rw [List.length_set];exact a,fun x hx=>?_,wQ (key:=fun s:Ser=>s.name) c h3 rfl⟩
   rcases List.mem_or_eq_of_mem_set hx with hx | rfl
   ·exact b x hx
   ·refine ⟨(b s (List.mem_of_getElem? h3)).1,?_⟩
    unfold lQ
    rw [eE (by simp only;omega)]
    simp only [Bool.or_eq_false_iff,decide_eq_false_iff_not]
    omega
theorem aPu {l:List Ser} {post:List Posted} {name:List UInt8} {limit:Int} (h:(fD l name limit).2=0) (hn:Nums l post):Nums (fD l name limit).1 post:=by
 obtain ⟨_,hm,hne,_⟩:=aDl h
 refine ⟨fun i p hp=>?_,fun s hs=>?_⟩
 ·obtain ⟨⟨s,h1,h2⟩,h3⟩:=hn.num i p hp
  exact ⟨⟨s,(hm s).2 (.inr h1),h2⟩,h3⟩
 ·rcases (hm s).1 hs with rfl | hs
  ·have:mP post name=0:=by
    unfold mP
    rw [List.filter_eq_nil_iff.2]
    ·rfl
    ·intro p hp hc
     obtain ⟨i,hi⟩:=List.mem_iff_getElem?.1 hp
     obtain ⟨⟨s,h1,h2⟩,_⟩:=hn.num i p hi
     exact hne s h1 (by rw [h2];simpa using hc)
   show (1:Int)=mP post name+1
   omega
  ·exact hn.next s hs
theorem aUm {l:List Ser} {post:List Posted} {i:Nat} {s:Ser} (hi:l[i]?=some s) (hn:Nums l post):Nums (l.set i { s with shut:=true }) post:=by
 have hmem:{ s with shut:=true }∈l.set i { s with shut:=true }:=List.mem_of_getElem? (i:=i) (by rw [List.getElem?_set,if_pos rfl,if_pos (List.getElem?_eq_some_iff.1 hi).1])
 refine ⟨fun j p hp=>?_,fun x hx=>?_⟩
 ·obtain ⟨⟨y,h1,h2⟩,h3⟩:=hn.num j p hp
  obtain ⟨k,hk⟩:=List.mem_iff_getElem?.1 h1
  refine ⟨?_,h3⟩
  by_cases c:i=k
  ·subst c;rw [hi] at hk;cases hk;exact ⟨_,hmem,h2⟩
  ·exact ⟨y,List.mem_of_getElem? (i:=k) (by rw [List.getElem?_set,if_neg c];exact hk),h2⟩
 ·rcases List.mem_or_eq_of_mem_set hx with hx | rfl
  ·exact hn.next x hx
  ·exact hn.next s (List.mem_of_getElem? hi)
theorem aPv {l:List Ser} (hs:l.Pairwise (fun a b=>fG a.name b.name=true)) {post:List Posted} {i:Nat} {s:Ser} (hi:l[i]?=some s) (hn:Nums l post) {p:Posted} (hp:p.ref=⟨s.name,s.next⟩):Nums (l.set i { s with next:=s.next+1 }) (post++[p]):=by
 have hmem:{ s with next:=s.next+1 }∈l.set i { s with next:=s.next+1 }:=List.mem_of_getElem? (i:=i) (by rw [List.getElem?_set,if_pos rfl,if_pos (List.getElem?_eq_some_iff.1 hi).1])
 have hrs:p.ref.ser=s.name:=by rw [hp]
 have hrn:p.ref.num=s.next:=by rw [hp]
 refine ⟨fun j q hq=>?_,fun x hx=>?_⟩
 ·by_cases hj:j<post.length
  ·rw [List.getElem?_append_left hj] at hq
   rw [List.take_append_of_le_length (by omega)]
   obtain ⟨⟨y,h1,h2⟩,h3⟩:=hn.num j q hq
   obtain ⟨k,hk⟩:=List.mem_iff_getElem?.1 h1
   refine ⟨?_,h3⟩
   by_cases c:i=k
   ·subst c;rw [hi] at hk;cases hk;exact ⟨_,hmem,h2⟩
   ·exact ⟨y,List.mem_of_getElem? (i:=k) (by rw [List.getElem?_set,if_neg c];exact hk),h2⟩
  ·have hjl:j=post.length:=by
    have:=(List.getElem?_eq_some_iff.1 hq).1
    simp only [List.length_append,List.length_cons,List.length_nil] at this
    omega
   subst hjl
   rw [List.getElem?_append_right (Nat.le_refl _),Nat.sub_self] at hq
   cases hq
   rw [List.take_append_of_le_length (Nat.le_refl _),List.take_length,hrs,hrn]
   exact ⟨⟨_,hmem,rfl⟩,hn.next s (List.mem_of_getElem? hi)⟩
 ·rw [fA,mJ,hrs]
  obtain ⟨k,hk⟩:=List.mem_iff_getElem?.1 hx
  rw [List.getElem?_set] at hk
  by_cases c:i=k
  ·rw [if_pos c,if_pos (List.getElem?_eq_some_iff.1 hi).1] at hk
   cases hk
   have:=hn.next s (List.mem_of_getElem? hi)
   simp only [if_true]
   omega
  ·rw [if_neg c] at hk
   have e1:=pI hs hk
   have e2:=pI hs hi
   have hne:¬ s.name=x.name:=fun e=>by rw [e,e1] at e2;exact c (by omega)
   rw [if_neg hne,Int.add_zero]
   exact hn.next x (List.mem_of_getElem? hk)
theorem bIp {r:Rate}:∀ (l:List Rate) (k n:Nat),aD (kV r) some l k=some n→(∀ x∈l,¬ (x.cat=r.cat∧x.day=r.day))∧n=k+(l.filter fun x=>eL x r).length
 | [],k,n,h=>by cases h;simp
 | x::l,k,n,h=>by
  simp only [aD] at h
  split at h
  ·rename_i r' he
   unfold kV at he
   split at he
   ·cases he;cases h
   ·cases he
  ·rename_i s' he
   unfold kV at he
   split at he
   ·cases he
   ·rename_i hc
    cases he
    obtain ⟨a,b⟩:=bIp l _ n h
    refine ⟨fun y hy=>?_,?_⟩
    ·rcases List.mem_cons.1 hy with rfl | hy
     ·simpa using hc
     ·exact a y hy
    ·rw [b,List.filter_cons]
     split
     ·rw [List.length_cons];omega
     ·rfl
theorem vH {α:Type} {p:α→Bool} {R:α→α→Prop}:∀ {l:List α},l.Pairwise R→(∀ a b,R a b→p b=true→p a=true)→l.filter p=l.takeWhile p
 | [],_,_=>rfl
 | x::l,hl,hp=>by
  rw [List.pairwise_cons] at hl
  rw [List.filter_cons,List.takeWhile_cons]
  split
  ·rw [vH hl.2 hp]
  ·rename_i c
   rw [List.filter_eq_nil_iff]
   intro y hy hc
   exact c (hp x y (hl.1 y hy) hc)
theorem aLe {l:List Rate} {r:Rate} (h:(iC l r).2=0):eD (iC l r).1=true∧(iC l r).1=dG l (mF (fun x=>eL x r) l) r∧(∀ x∈l,¬ (x.cat=r.cat∧x.day=r.day)):=by
 unfold iC at h ⊢
 split at h
 ·simp at h
 ·rename_i h1
  split at h
  ·rename_i h2;exact absurd h h2
  ·rename_i h2
   rw [if_neg h1,if_neg h2]
   cases hr:aD (kV r) some l 0 with
   | none=>rw [hr] at h;simp at h
   | some k=>
    rw [hr] at h
    simp only at h ⊢
    split at h
    ·simp at h
    ·rename_i h3
     rw [if_neg h3]
     obtain ⟨a,b,c⟩:=(wN l).1 (by simpa using h1)
     obtain ⟨hne,hk⟩:=bIp l 0 k hr
     have hpre:=vH (p:=fun x=>eL x r) c (fun a b=>rG)
     have hk':k=mF (fun x=>eL x r) l:=by
      unfold mF
      rw [uP,hk,hpre]
     rw [hk']
     refine ⟨?_,rfl,hne⟩
     rw [wN]
     have hrow:sB r=0:=Decidable.not_not.1 h2
     refine ⟨by have:=pG l (mF (fun x=>eL x r) l) r;simp only;omega,fun x hx=>?_,?_⟩
     ·rcases (kQ _ _ _ _).1 hx with rfl | hx
      ·exact hrow
      ·exact b x hx
     ·rw [uQ]
      refine rH c (fun a b c=>rG) (fun x hx hp=>hp) (fun x hx hp=>?_)
      rw [wM]
      have hp':¬ (fG x.cat r.cat=true∨x.cat=r.cat∧x.day.before r.day=true):=fun q=>by rw [(wM x r).2 q] at hp;cases hp
      rcases aC4 x.cat r.cat with q | q | q
      ·exact absurd (.inl q) hp'
      ·refine .inr ⟨q.symm,?_⟩
       have hx1:=(aC5 (b x hx)).2.1
       have hr1:=(aC5 hrow).2.1
       unfold Date.before at hp' ⊢
       simp only [hx1,hr1,Bool.true_and,decide_eq_true_eq] at hp' ⊢
       have hd:x.day.days≠r.day.days:=fun e=>hne x hx ⟨q,aUi hx1 hr1 e⟩
       have:¬ x.day.days<r.day.days:=fun e=>hp' (.inr ⟨q,e⟩)
       omega
      ·exact .inl q
theorem aA7 {s:State} {name:List UInt8} {p:Posted} (h:(bB s name p).2.why=0):
  (cL s.ser name).2.2=0∧s.posted.length<40∧(cD p.total).2=0∧(bI s.book (cD p.total).1).2=0 ∧
   bB s name p=({ s with ser:=(cL s.ser name).1,book:=(bI s.book (cD p.total).1).1,posted:=s.posted++[{ p with ref:=⟨name,(cL s.ser name).2.1⟩ }] },⟨0,(cL s.ser name).2.1,p.total.gross⟩):=by
 unfold bB at h ⊢
 split at h
 ·rename_i hc;exact absurd h hc
 ·rename_i h1
  split at h
  ·simp [why] at h
  ·rename_i h2
   split at h
   ·rename_i hc;exact absurd h hc
   ·rename_i h3
    split at h
    ·rename_i hc;exact absurd h hc
    ·rename_i h4
     rw [if_neg h1,if_neg h2,if_neg h3,if_neg h4]
     exact ⟨Decidable.not_not.1 h1,by omega,Decidable.not_not.1 h3,Decidable.not_not.1 h4,rfl⟩
theorem aFi {s:State} {name:List UInt8} {p:Posted} (h:(bB s name p).2.why≠0):(bB s name p).1=s∧(bB s name p).2=why (bB s name p).2.why:=by
 unfold bB at h ⊢
 split at h
 ·rename_i h1;rw [if_pos h1];exact ⟨rfl,rfl⟩
 ·rename_i h1
  rw [if_neg h1]
  split at h
  ·rename_i h2;rw [if_pos h2];exact ⟨rfl,rfl⟩
  ·rename_i h2
   rw [if_neg h2]
   split at h
   ·rename_i h3;rw [if_pos h3];exact ⟨rfl,rfl⟩
   ·rename_i h3
    rw [if_neg h3]
    split at h
    ·rename_i h4;rw [if_pos h4];exact ⟨rfl,rfl⟩
    ·exact absurd rfl h
theorem aB2 {s:State} {name:List UInt8} {p:Posted} (hr:bQ s=true) (h:(bB s name p).2.why=0) {X:List Posted} (hX:X.map rI=(s.posted++[{ p with ref:=⟨name,(cL s.ser name).2.1⟩ }]).map rI)
  (hok:nN s.posted p) (hback:∀ i q,X[i]?=some q→(cZ X).getD i 0≤1∧q.back=decide ((cZ X).getD i 0=1)):
  bQ { (bB s name p).1 with posted:=X }=true:=by
 obtain ⟨h1,h2,h3,h4,h5⟩:=aA7 h
 obtain ⟨r1,r2,r3,r4,r5,r6⟩:=(cG s).1 hr
 obtain ⟨t1,i,ser,t2,t3,t4,t5,t6⟩:=aUl h1
 rw [h5,cG]
 obtain ⟨c1,c2,c3⟩:=(fO s.ser).1 r2
 refine ⟨r1,t1,r3,?_,?_,?_⟩
 ·show iS X=true
  rw [hJ] at r4 ⊢
  refine ⟨?_,aUj hX.symm (fun j q hq=>?_),hback⟩
  ·have:=congrArg List.length hX
   simp only [List.length_map,List.length_append,List.length_cons,List.length_nil] at this
   omega
  ·by_cases hj:j<s.posted.length
   ·rw [List.getElem?_append_left hj] at hq
    rw [List.take_append_of_le_length (by omega)]
    exact r4.2.1 j q hq
   ·have hjl:j=s.posted.length:=by
     have:=(List.getElem?_eq_some_iff.1 hq).1
     simp only [List.length_append,List.length_cons,List.length_nil] at this
     omega
    subst hjl
    rw [List.getElem?_append_right (Nat.le_refl _),Nat.sub_self] at hq
    cases hq
    rw [List.take_append_of_le_length (Nat.le_refl _),List.take_length]
    exact hok
 ·show Nums (cL s.ser name).1 X
  refine aXd hX.symm ?_
  rw [t6]
  exact aPv c3 t2 r5 (p:={ p with ref:=⟨name,ser.next⟩ }) (by rw [←t3])
 ·show dV X=_
  rw [aLd hX]
  exact aHf r6 h3 h4
def yX (s:State):Prop:=∀ p∈s.posted,∀ q∈p.total.parts,eZ q.net∧eZ q.tax
theorem aPw {l:List Posted} (hl:∀ i p,l[i]?=some p→nN (l.take i) p) {p:Posted} (hp:nN l p) (hb:p.back=false) (hof:p.of=Ref.zero) (h:∀ i q,l[i]?=some q→(cZ l).getD i 0≤1∧q.back=decide ((cZ l).getD i 0=1)) (r:Ref):
  ∀ i q,(l++[{ p with ref:=r }])[i]?=some q→(cZ (l++[{ p with ref:=r }])).getD i 0≤1∧q.back=decide ((cZ (l++[{ p with ref:=r }])).getD i 0=1):=by
 intro i q hq
 have e:cZ (l++[{ p with ref:=r }])=cZ l:=by rw [oS];unfold eI;rw [if_pos hof]
 rw [e]
 by_cases hi:i<l.length
 ·rw [List.getElem?_append_left hi] at hq
  exact h i q hq
 ·have hil:i=l.length:=by
   have:=(List.getElem?_eq_some_iff.1 hq).1
   simp only [List.length_append,List.length_cons,List.length_nil] at this
   omega
  subst hil
  rw [List.getElem?_append_right (Nat.le_refl _),Nat.sub_self] at hq
  cases hq
  rw [(rJ hl).2.1 _ (Nat.le_refl _)]
  exact ⟨by omega,hb⟩
theorem aLf {s:State} (hr:bQ s=true) (hi:yX s) (c:Cmd):bQ (nH s c).1=true∧yX (nH s c).1:=by
 unfold nH
 split
 ·exact ⟨hr,hi⟩
 ·rename_i h1
  obtain ⟨a1,a2,a3⟩:=aHd (Decidable.not_not.1 h1)
  by_cases hw:(bB s c.series ⟨Ref.zero,c.day,(cY s.table c.day c.lines).1,Ref.zero,false⟩).2.why=0
  ·obtain ⟨_,_,_,_,h5⟩:=aA7 hw
   obtain ⟨r1,r2,r3,r4,r5,r6⟩:=(cG s).1 hr
   obtain ⟨p1,p2,p3⟩:=(hJ _).1 r4
   have hok:nN s.posted ⟨Ref.zero,c.day,(cY s.table c.day c.lines).1,Ref.zero,false⟩:=⟨a1,a2,.inl rfl⟩
   have:=aB2 (X:=(bB s c.series ⟨Ref.zero,c.day,(cY s.table c.day c.lines).1,Ref.zero,false⟩).1.posted) hr hw (by rw [h5]) hok (by rw [h5];exact aPw p2 hok rfl rfl p3 _)
   refine ⟨this,fun p hp=>?_⟩
   rw [h5] at hp
   rcases List.mem_append.1 hp with hp | hp
   ·exact hi p hp
   ·rw [List.mem_singleton.1 hp];exact a3
  ·rw [(aFi hw).1];exact ⟨hr,hi⟩
theorem aDm {ser:List Ser} {l:List Posted} (h:Nums ser l) {i j:Nat} {p q:Posted} (hi:l[i]?=some p) (hj:l[j]?=some q) (e:p.ref=q.ref):i=j:=by
 have key:∀ {i j:Nat} {p q:Posted},l[i]?=some p→l[j]?=some q→p.ref=q.ref→¬ i<j:=by
  intro i j p q hi hj e hlt
  have h1:=(h.num i p hi).2
  have h2:=(h.num j q hj).2
  have hjl:=(List.getElem?_eq_some_iff.1 hj).1
  have hpre:l.take j=l.take i++(l.take j).drop i:=by
   conv=>lhs;rw [←List.take_append_drop i (l.take j)]
   rw [List.take_take,Nat.min_eq_left (by omega)]
  have hmem:((l.take j).drop i)[0]?=some p:=by
   rw [List.getElem?_drop,List.getElem?_take,if_pos (by omega)];exact hi
  have hc:1≤mP ((l.take j).drop i) q.ref.ser:=by
   cases hd:(l.take j).drop i with
   | nil=>rw [hd] at hmem;cases hmem
   | cons a r=>
    rw [hd] at hmem
    cases hmem
    have:=fA [p] r q.ref.ser
    rw [mJ,if_pos (by rw [e])] at this
    have:=kR r q.ref.ser
    show 1≤mP ([p]++r) q.ref.ser
    omega
  rw [hpre,fA] at h2
  rw [e] at h1
  omega
 have h1:=key hi hj e
 have h2:=key hj hi e.symm
 omega
theorem aO4 {ser:List Ser} {l:List Posted} (h:Nums ser l) {p:Posted} (hp:p∈l):1≤p.ref.num:=by
 obtain ⟨i,hi⟩:=List.mem_iff_getElem?.1 hp
 have:=(h.num i p hi).2
 have:=kR (l.take i) p.ref.ser
 omega
theorem aHh {s:State} (hr:bQ s=true) (hi:yX s) (c:Cmd):bQ (fF s c).1=true∧yX (fF s c).1:=by
 obtain ⟨r1,r2,r3,r4,r5,r6⟩:=(cG s).1 hr
 obtain ⟨p1,p2,p3⟩:=(hJ _).1 r4
 unfold fF
 split
 ·exact ⟨hr,hi⟩
 ·rename_i h0
  rcases mG s.posted c.of with e | ⟨k,x,e,hk,hx⟩
  ·exact absurd (by rw [e];decide) h0
  ·have hg:s.posted.getD (bE s.posted c.of).toNat Posted.zero=x:=by rw [e,Int.toNat_natCast,List.getD_eq_getElem?_getD,hk];rfl
   rw [hg]
   have hxm:=List.mem_of_getElem? hk
   unfold gB
   split
   ·exact ⟨hr,hi⟩
   ·rename_i h1
    split
    ·rename_i h2
     split
     ·exact ⟨hr,hi⟩
     ·rename_i h3
      split
      ·exact ⟨hr,hi⟩
      ·rename_i h4
       split
       ·exact ⟨hr,hi⟩
       ·rename_i h5
        have h5:=Decidable.not_not.1 h5
        have hxr:=p2 k x hk
        obtain ⟨b1,b2,b3⟩:=aDk (hi x hxm) hxr.2.1 h5
        split
        ·rename_i h6
         obtain ⟨_,_,_,_,h7⟩:=aA7 h6
         have hofz:c.of≠Ref.zero:=by
          intro q
          have:=aO4 r5 hxm
          rw [hx,q] at this
          exact absurd this (by decide)
         have htk:jT ⟨Ref.zero,c.day,(aX x.total).1,c.of,false⟩ x=true:=by
          unfold jT
          rw [if_pos h2,if_pos (by simpa using h4),if_pos h5]
          simp
         have hok:nN s.posted ⟨Ref.zero,c.day,(aX x.total).1,c.of,false⟩:=by
          refine ⟨by simpa using h3,b1,.inr ⟨by show 0≤bE s.posted c.of;omega,?_⟩⟩
          show jT _ (s.posted.getD (bE s.posted c.of).toNat aJ5)=true
          rw [e,Int.toNat_natCast,List.getD_eq_getElem?_getD,hk]
          exact htk
         have hposted:(bB s c.series ⟨Ref.zero,c.day,(aX x.total).1,c.of,false⟩).1.posted=s.posted++[⟨⟨c.series,(cL s.ser c.series).2.1⟩,c.day,(aX x.total).1,c.of,false⟩]:=by rw [h7]
         have hkl:=(List.getElem?_eq_some_iff.1 hk).1
         have hset:fV (bB s c.series ⟨Ref.zero,c.day,(aX x.total).1,c.of,false⟩).1.posted (bE s.posted c.of).toNat=s.posted.set k { x with back:=true }++[⟨⟨c.series,(cL s.ser c.series).2.1⟩,c.day,(aX x.total).1,c.of,false⟩]:=by
          rw [hposted,e,Int.toNat_natCast]
          unfold fV
          rw [List.getElem?_append_left hkl,hk]
          simp only
          rw [List.set_append_left _ _ hkl]
         have hnb:=aLc (bB s c.series ⟨Ref.zero,c.day,(aX x.total).1,c.of,false⟩).1.posted (bE s.posted c.of).toNat
         have hcnt:cZ (fV (bB s c.series ⟨Ref.zero,c.day,(aX x.total).1,c.of,false⟩).1.posted (bE s.posted c.of).toNat)=bump (cZ s.posted) k:=by
          rw [←aFh,hnb,aFh,hposted,oS]
          unfold eI
          rw [if_neg hofz]
          show bump (cZ s.posted) (bE s.posted c.of).toNat=_
          rw [e,Int.toNat_natCast]
         obtain ⟨g1,g2,g3⟩:=rJ p2
         have hbk:∀ i,(bump (cZ s.posted) k).getD i 0=(cZ s.posted).getD i 0+(if i=k then 1 else 0):=by
          intro i
          unfold bump
          simp only [List.getD_eq_getElem?_getD,List.getElem?_set]
          by_cases q:k=i
          ·subst q;rw [if_pos rfl,if_pos (by omega),if_pos rfl];rfl
          ·rw [if_neg q,if_neg (fun q2=>q q2.symm),Int.add_zero]
         have h0k:(cZ s.posted).getD k 0=0:=by
          obtain ⟨q1,q2⟩:=p3 k x hk
          have h1':x.back=false:=by simpa using h1
          rw [h1'] at q2
          have q3:=of_decide_eq_false q2.symm
          have:=g1 k
          omega
         have:=aB2 (X:=fV (bB s c.series ⟨Ref.zero,c.day,(aX x.total).1,c.of,false⟩).1.posted (bE s.posted c.of).toNat) hr h6 (by rw [hnb,hposted]) hok (by
          rw [hcnt,hset]
          intro i q hq
          rw [hbk]
          by_cases hil:i<s.posted.length
          ·rw [List.getElem?_append_left (by rw [List.length_set];exact hil),List.getElem?_set] at hq
           by_cases ck:k=i
           ·subst ck
            rw [if_pos rfl,if_pos hil] at hq
            cases hq
            rw [h0k,if_pos rfl]
            exact ⟨by decide,rfl⟩
           ·rw [if_neg ck] at hq
            rw [if_neg (fun q2=>ck q2.symm),Int.add_zero]
            exact p3 i q hq
          ·have hieq:i=s.posted.length:=by
            have:=(List.getElem?_eq_some_iff.1 hq).1
            simp only [List.length_append,List.length_cons,List.length_nil,List.length_set] at this
            omega
           subst hieq
           rw [List.getElem?_append_right (by rw [List.length_set];exact Nat.le_refl _),List.length_set,Nat.sub_self] at hq
           cases hq
           rw [g2 _ (Nat.le_refl _),if_neg (by omega)]
           exact ⟨by decide,rfl⟩)
         refine ⟨this,fun p hp=>?_⟩
         have hp:p∈fV (bB s c.series ⟨Ref.zero,c.day,(aX x.total).1,c.of,false⟩).1.posted (bE s.posted c.of).toNat:=hp
         rw [hset] at hp
         rcases List.mem_append.1 hp with hp | hp
         ·rcases List.mem_or_eq_of_mem_set hp with hp | rfl
          ·exact hi p hp
          ·exact hi x hxm
         ·rw [List.mem_singleton.1 hp];exact b2
        ·rename_i h6
         rw [(aFi h6).1];exact ⟨hr,hi⟩
    ·exact ⟨hr,hi⟩
theorem aFj {s:State} (hr:bQ s=true) {l:List Ser} (h1:kO l=true) (h2:Nums l s.posted):bQ { s with ser:=l }=true:=by
 obtain ⟨r1,r2,r3,r4,r5,r6⟩:=(cG s).1 hr
 exact (cG _).2 ⟨r1,h1,r3,r4,h2,r6⟩
theorem wV {s:State} (hr:bQ s=true) {l:List Sess} {n:Int} (h1:oU l n):bQ { s with sess:=l,next:=n }=true:=by
 obtain ⟨r1,r2,r3,r4,r5,r6⟩:=(cG s).1 hr
 exact (cG _).2 ⟨r1,r2,h1,r4,r5,r6⟩
theorem aLg {s:State} (hr:bQ s=true):bQ (gO s).1=true∧((gO s).1.posted=s.posted):=by
 obtain ⟨r1,r2,r3,r4,r5,r6⟩:=(cG s).1 hr
 obtain ⟨a,b,c,d,e,f⟩:=r3
 unfold gO
 split
 ·exact ⟨hr,rfl⟩
 ·rename_i h1
  split
  ·exact ⟨hr,rfl⟩
  ·rename_i h2
   have h2:=Decidable.not_not.1 h2
   refine ⟨?_,rfl⟩
   show bQ { s with sess:=(nW s.sess s.next).1,next:=wr .i64 (s.next+1) }=true
   rw [eE (by omega)]
   refine wV hr ?_
   unfold nW at h2 ⊢
   split at h2
   ·simp at h2
   ·rename_i j1
    split at h2
    ·simp at h2
    ·rename_i j2
     split at h2
     ·simp at h2
     ·rename_i j3
      rw [if_neg j1,if_neg j2,if_neg j3]
      refine ⟨by have:=pG s.sess (mF (fun x=>decide (x.id<s.next)) s.sess) ⟨s.next,0,Rep.zero⟩;simp only;omega,fun x hx=>?_,?_,by omega,by omega,fun x hx=>?_⟩
      ·rcases (kQ _ _ _ _).1 hx with rfl | hx
       ·exact ⟨by show 0<s.next;omega,by simp,by simp,fun _=>rfl⟩
       ·exact b x hx
      ·simp only
       rw [uQ]
       refine rH c (fun a b c h1 h2=>by omega) (fun x hx hp=>by simpa using hp) (fun x hx hp=>?_)
       have:=f x hx
       simp at hp
       show s.next<x.id
       omega
      ·rcases (kQ _ _ _ _).1 hx with rfl | hx
       ·show s.next<s.next+1;omega
       ·have:=f x hx;omega
theorem aUn {l:List Sess} {n id:Int} (h:oU l n):(gJ l id).2=0→oU (gJ l id).1 n:=by
 intro h0
 obtain ⟨a,b,c,d,e,f⟩:=h
 unfold gJ at h0 ⊢
 split at h0
 ·simp at h0
 ·rename_i h1
  split at h0
  ·simp at h0
  ·rename_i h2
   rw [if_neg h1,if_neg h2]
   have hsub:(vX l (gW l id).toNat).Sublist l:=by
    unfold vX
    conv=>rhs;rw [←List.take_append_drop (gW l id).toNat l]
    refine List.Sublist.append (List.Sublist.refl _) ?_
    rw [←List.drop_drop]
    exact List.drop_sublist _ _
   exact ⟨by have:=hsub.length_le;simp only;omega,fun x hx=>b x (hsub.subset hx),c.sublist hsub,d,e,fun x hx=>f x (hsub.subset hx)⟩
theorem aXe {l:List Sess} {n id seq:Int} {r:Rep} (h:oU l n):(kE l id seq r).2=0→oU (kE l id seq r).1 n:=by
 intro h0
 obtain ⟨a,b,c,d,e,f⟩:=h
 unfold kE at h0 ⊢
 split at h0
 ·rename_i hc;exact absurd h0 hc
 ·rename_i h1
  have h1':=Decidable.not_not.1 h1
  split at h0
  ·simp at h0
  ·rename_i h2
   rw [if_neg h1,if_neg h2]
   obtain ⟨hs,i,s,e1,e2⟩:=aD7 h1'
   rw [e1,Int.toNat_natCast,e2]
   have hseq:1≤seq∧seq≤1099511627776:=by
    unfold cB at h1'
    rw [if_neg (by rw [hs];simp),if_neg (by omega)] at h1'
    split at h1'
    ·simp at h1'
    ·omega
   have hsm:=List.mem_of_getElem? e2
   refine ⟨by simp only [List.length_set];exact a,fun x hx=>?_,?_,d,e,fun x hx=>?_⟩
   ·rcases List.mem_or_eq_of_mem_set hx with hx | rfl
    ·exact b x hx
    ·exact ⟨(b s hsm).1,by simp only;omega,by simp only;omega,fun q=>by simp only at q;omega⟩
   ·simp only
    have hm:∀ l:List Sess,l.Pairwise (fun a b=>a.id<b.id)↔(l.map (·.id)).Pairwise (fun a b=>a<b):=fun l=>(List.pairwise_map (f:=fun s:Sess=>s.id) (R:=fun a b=>a<b)).symm
    rw [hm] at c ⊢
    have:(l.set i ⟨s.id,seq,r⟩).map (·.id)=l.map (·.id):=by
     apply List.ext_getElem?
     intro j
     rw [List.getElem?_map,List.getElem?_map,List.getElem?_set]
     split
     ·rename_i e;subst e;rw [if_pos (List.getElem?_eq_some_iff.1 e2).1,e2];rfl
     ·rfl
    rw [this];exact c
   ·rcases List.mem_or_eq_of_mem_set hx with hx | rfl
    ·exact f x hx
    ·exact f s hsm
theorem aUo {s:State} (hr:bQ s=true) (hi:yX s) (c:Cmd):bQ (vE s c).1=true∧yX (vE s c).1:=by
 obtain ⟨r1,r2,r3,r4,r5,r6⟩:=(cG s).1 hr
 unfold vE
 split
 ·unfold gN
  split
  ·rename_i h
   exact ⟨aFj hr (aDl h).1 (aPu h r5),hi⟩
  ·exact ⟨hr,hi⟩
 ·split
  ·unfold gN
   split
   ·rename_i h
    obtain ⟨a,i,x,b1,b2,b3⟩:=aUk h
    exact ⟨aFj hr a (by rw [b3];exact aUm b1 r5),hi⟩
   ·exact ⟨hr,hi⟩
  ·split
   ·unfold kX
    split
    ·rename_i h
     exact ⟨(cG _).2 ⟨(aLe h).1,r2,r3,r4,r5,r6⟩,hi⟩
    ·exact ⟨hr,hi⟩
   ·split
    ·exact aLf hr hi c
    ·split
     ·exact aHh hr hi c
     ·split
      ·unfold iQ
       split
       ·rename_i h
        exact ⟨wV (n:=s.next) hr (aUn r3 h),hi⟩
       ·exact ⟨hr,hi⟩
      ·exact ⟨hr,hi⟩
theorem aB3 {s:State} (hr:bQ s=true) (hi:yX s) (c:Call):bQ (fW s c).1=true∧yX (fW s c).1:=by
 unfold fW
 rw [if_neg (by rw [hr];simp)]
 split
 ·exact ⟨hr,hi⟩
 ·split
  ·obtain ⟨a,b⟩:=aLg hr
   exact ⟨a,fun p hp=>hi p (by rw [b] at hp;exact hp)⟩
  ·split
   ·exact ⟨hr,hi⟩
   ·split
    ·exact ⟨hr,hi⟩
    ·obtain ⟨a,b⟩:=aUo hr hi c.cmd
     unfold iF
     split
     ·rename_i h
      exact ⟨wV (n:=(vE s c.cmd).1.next) a (aXe ((cG _).1 a).2.2.1 h),b⟩
     ·exact ⟨a,b⟩
theorem aFk:bQ State.new=true∧yX State.new:=⟨by decide,fun p hp=>by cases hp⟩
def aO5 (x:Sess) (seq:Int):Rep×Bool×Int:=if seq<1∨1099511627776<seq then (Rep.zero,false,1) else if seq=x.last then (x.reply,true,0) else if seq<x.last then (Rep.zero,false,16) else (Rep.zero,false,0)
theorem aA8 {l:List Sess} (hs:l.Pairwise (fun a b=>a.id<b.id)) {i:Nat} {s:Sess} (h:l[i]?=some s):gW l s.id=(i:Int):=by
 refine aFg h (by simp) (fun j b hj hb=>?_)
 have h1:=List.pairwise_iff_getElem.1 hs j i (List.getElem?_eq_some_iff.1 hb).1 (List.getElem?_eq_some_iff.1 h).1 hj
 rw [(List.getElem?_eq_some_iff.1 hb).2,(List.getElem?_eq_some_iff.1 h).2] at h1
 simp only [decide_eq_false_iff_not]
 omega
theorem aJ9 {l:List Sess} (h:eT l=true) {i:Nat} {x:Sess} (hx:l[i]?=some x) (seq:Int):cB l x.id seq=aO5 x seq:=by
 have e:=aA8 ((uO l).1 h).2.2 hx
 unfold cB aO5
 rw [if_neg (by rw [h];simp),e,if_neg (by omega),Int.toNat_natCast,hx]
theorem aUp {l:List Sess} {id seq:Int} (h:(cB l id seq).2.2=0) (h2:(cB l id seq).2.1=false):eT l=true∧∃ (i:Nat) (x:Sess),l[i]?=some x∧x.id=id∧1≤seq∧seq≤1099511627776∧x.last<seq:=by
 obtain ⟨hs,i,x,e,hi⟩:=aD7 h
 have hid:x.id=id:=by
  rcases jP l id with e1 | ⟨j,y,e1,e2,e3⟩
  ·rw [e1] at e;omega
  ·rw [e1] at e
   have:j=i:=by omega
   subst this
   rw [hi] at e2;cases e2;exact e3
 subst hid
 rw [aJ9 hs hi] at h h2
 unfold aO5 at h h2
 split at h
 ·simp at h
 ·rename_i h3
  rw [if_neg h3] at h2
  split at h
  ·rename_i h4;rw [if_pos h4] at h2;simp at h2
  ·rename_i h4
   split at h
   ·simp at h
   ·rename_i h5
    exact ⟨hs,i,x,hi,rfl,by omega,by omega,by omega⟩
theorem aUq {l:List Sess} (h:eT l=true) {i:Nat} {x:Sess} (hx:l[i]?=some x) {seq:Int} (h1:1≤seq) (h2:seq≤1099511627776) (h3:x.last<seq) (r:Rep):kE l x.id seq r=(l.set i ⟨x.id,seq,r⟩,0):=by
 have e:=aA8 ((uO l).1 h).2.2 hx
 have el:cB l x.id seq=(Rep.zero,false,0):=by
  rw [aJ9 h hx];unfold aO5
  rw [if_neg (by omega),if_neg (by omega),if_neg (by omega)]
 unfold kE
 rw [el,if_neg (by simp),if_neg (by simp),e,Int.toNat_natCast,hx]
theorem aJa (l:List Ser) (name:List UInt8) (limit:Int):0≤(fD l name limit).2∧(fD l name limit).2≤14:=by
 unfold fD;repeat' split
 all_goals (constructor<;>first | decide | simp)
theorem aFl (l:List Ser) (name:List UInt8):0≤(iO l name).2∧(iO l name).2≤14:=by
 unfold iO;repeat' split
 all_goals (constructor<;>first | decide | simp)
theorem aPx (l:List Ser) (name:List UInt8):0≤(pE l name).2∧(pE l name).2≤14:=by
 unfold pE
 split
 ·exact aFl l name
 ·split<;>(constructor<;>first | decide | simp)
theorem aFm (l:List Ser) (name:List UInt8):0≤(cL l name).2.2∧(cL l name).2.2≤14:=by
 unfold cL
 split
 ·exact aFl l name
 ·repeat' split
  all_goals (constructor<;>first | decide | simp)
theorem aUr (r:Rate):0≤sB r∧sB r≤14:=by
 unfold sB;repeat' split
 all_goals (constructor<;>first | decide | simp)
theorem aJb (l:List Rate) (r:Rate):0≤(iC l r).2∧(iC l r).2≤14:=by
 unfold iC
 split
 ·constructor<;>first | decide | simp
 ·split
  ·exact aUr r
  ·repeat' split
   all_goals (constructor<;>first | decide | simp)
theorem aDn (a b:Int):0≤(bF a b).2∧(bF a b).2≤14:=by
 unfold bF;split<;>(constructor<;>first | decide | simp)
theorem aUs (a b:Int):0≤(bS a b).2∧(bS a b).2≤14:=by
 unfold bS;split<;>(constructor<;>first | decide | simp)
theorem aUt (a b:Int):0≤(aL1 a b).2∧(aL1 a b).2≤14:=by
 unfold aL1
 simp only
 repeat' split
 all_goals (constructor<;>first | decide | simp)
theorem aPy (tab:List Rate) (d:Date) (l:Line):0≤(fM tab d l).2.2∧(fM tab d l).2.2≤14:=by
 unfold fM
 repeat' split
 all_goals first | exact aUt _ _ | (constructor<;>first | decide | simp)
theorem nI {σ ρ α:Type} {step:σ→α→ρ⊕σ} {fin:σ→ρ} (Q:ρ→Prop) (hs:∀ s a r,step s a=.inl r→Q r) (hf:∀ s,Q (fin s)):∀ (l:List α) (s:σ),Q (aD step fin l s)
 | [],s=>hf s
 | a::l,s=>by
  simp only [aD]
  split
  ·rename_i r he;exact hs _ _ _ he
  ·exact nI Q hs hf l _
theorem aLh (l:List Part):0≤(eY l).2∧(eY l).2≤14:=by
 refine nI (fun r:Total×Int=>0≤r.2∧r.2≤14) (fun s a r h=>?_) (fun s=>?_) l _
 ·unfold gE at h
  split at h
  ·cases h;constructor<;>first | decide | simp
  ·cases h
 ·unfold lI
  split
  ·exact aDn _ _
  ·constructor<;>first | decide | simp
theorem aUu (l:List Part) (cat:List UInt8) (bp n:Int):0≤(sC l cat bp n).2∧(sC l cat bp n).2≤14:=by
 unfold sC
 split
 ·constructor<;>first | decide | simp
 ·exact aDn _ _
theorem aDo (tab:List Rate) (d:Date) (lines:List Line):0≤(cY tab d lines).2∧(cY tab d lines).2≤14:=by
 unfold cY
 split
 ·constructor<;>first | decide | simp
 ·split
  ·constructor<;>first | decide | simp
  ·split
   ·constructor<;>first | decide | simp
   ·split
    ·constructor<;>first | decide | simp
    ·refine nI (fun r:Total×Int=>0≤r.2∧r.2≤14) (fun s a r h=>?_) (fun s=>aLh _) lines _
     unfold iR at h
     split at h
     ·cases h;exact aPy _ _ _
     ·split at h
      ·cases h;exact aUu _ _ _ _
      ·cases h
theorem aJc (t:Total):0≤(cD t).2∧(cD t).2≤14:=by
 refine nI (fun r:List Bal×Int=>0≤r.2∧r.2≤14) (fun s a r h=>?_) (fun s=>by constructor<;>first | decide | simp) _ _
 unfold nX at h
 split at h
 ·cases h;constructor<;>first | decide | simp
 ·split at h
  ·cases h;constructor<;>first | decide | simp
  ·cases h
theorem aDp (b l:List Bal):0≤(bI b l).2∧(bI b l).2≤14:=by
 unfold bI
 split
 ·constructor<;>first | decide | simp
 ·refine nI (fun r:List Bal×Int=>0≤r.2∧r.2≤14) (fun s a r h=>?_) (fun s=>by constructor<;>first | decide | simp) _ _
  unfold bM at h
  split at h
  ·cases h;constructor<;>first | decide | simp
  ·split at h
   ·cases h;exact aDn _ _
   ·cases h
theorem aJd (l:List Int):0≤(fN l).2∧(fN l).2≤14:=by
 refine nI (fun r:List Int×Int=>0≤r.2∧r.2≤14) (fun s a r h=>?_) (fun s=>by constructor<;>first | decide | simp) _ _
 unfold oC at h
 split at h
 ·cases h;exact aUs _ _
 ·cases h
theorem aFn (t:Total):0≤(aX t).2∧(aX t).2≤14:=by
 unfold aX
 split
 ·exact aJd _
 ·split
  ·refine nI (fun r:List Part×Int=>0≤r.2∧r.2≤14) (fun s a r h=>?_) (fun s=>by constructor<;>first | decide | simp) _ _
   unfold cX at h
   split at h
   ·cases h;exact aJd _
   ·cases h
  ·constructor<;>first | decide | simp
theorem aLi (l:List Sess) (id:Int):0≤(gJ l id).2∧(gJ l id).2≤14:=by
 unfold gJ;repeat' split
 all_goals (constructor<;>first | decide | simp)
def Plain (s:State) (r:State×Rep):Prop:=0≤r.2.why∧r.2.why≤14∧(r.2.why≠0→r.1=s∧r.2=why r.2.why)
theorem Plain.why {s:State} {e:Int} (h1:0≤e) (h2:e≤14):Plain s (s,Go.Proofs.YtoaibmbldmckaaaGreat.why e):=⟨h1,h2,fun _=>⟨rfl,rfl⟩⟩
theorem aB4 (s:State) (name:List UInt8) (p:Posted):Plain s (bB s name p):=by
 unfold bB
 split
 ·exact Plain.why (aFm _ _).1 (aFm _ _).2
 ·split
  ·exact Plain.why (by decide) (by decide)
  ·split
   ·exact Plain.why (aJc _).1 (aJc _).2
   ·split
    ·exact Plain.why (aDp _ _).1 (aDp _ _).2
    ·exact ⟨Int.le_refl 0,by show (0:Int)≤14;decide,fun h=>absurd rfl h⟩
theorem aUv (s:State) (c:Cmd):Plain s (vE s c):=by
 have kw:∀ (e:Int) (t:State),(0≤e∧e≤14)→Plain s (if e=0 then (t,why e) else (s,why e)):=by
  intro e t h
  split
  ·rename_i h0;subst h0;exact ⟨Int.le_refl 0,by show (0:Int)≤14;decide,fun h=>absurd rfl h⟩
  ·exact Plain.why h.1 h.2
 unfold vE
 split
 ·exact kw _ _ (aJa _ _ _)
 ·split
  ·exact kw _ _ (aPx _ _)
  ·split
   ·exact kw _ _ (aJb _ _)
   ·split
    ·unfold nH
     split
     ·exact Plain.why (aDo _ _ _).1 (aDo _ _ _).2
     ·exact aB4 _ _ _
    ·split
     ·unfold fF
      split
      ·exact Plain.why (by decide) (by decide)
      ·unfold gB
       split
       ·exact Plain.why (by decide) (by decide)
       ·split
        ·split
         ·exact Plain.why (by decide) (by decide)
         ·split
          ·exact Plain.why (by decide) (by decide)
          ·split
           ·exact Plain.why (aFn _).1 (aFn _).2
           ·split
            ·rename_i h
             exact ⟨by rw [h];decide,by rw [h];decide,fun q=>absurd h q⟩
            ·exact aB4 _ _ _
        ·exact Plain.why (by decide) (by decide)
     ·split
      ·exact kw _ _ (aLi _ _)
      ·unfold aIt
       split
       ·exact Plain.why (e:=11) (by decide) (by decide)
       ·exact ⟨Int.le_refl 0,by show (0:Int)≤14;decide,fun h=>absurd rfl h⟩
theorem aXf (s:State) (c:Cmd):(vE s c).1.sess=s.sess∨(c.kind=7∧(gJ s.sess c.session).2=0∧(vE s c).1.sess=(gJ s.sess c.session).1):=by
 have hi:∀ name p,(bB s name p).1.sess=s.sess:=by
  intro name p
  unfold bB
  repeat' split
  all_goals rfl
 unfold vE
 split
 ·unfold gN;split<;>exact .inl rfl
 ·split
  ·unfold gN;split<;>exact .inl rfl
  ·split
   ·unfold kX;split<;>exact .inl rfl
   ·split
    ·unfold nH
     split
     ·exact .inl rfl
     ·exact .inl (hi _ _)
    ·split
     ·unfold fF gB
      repeat' split
      all_goals first | exact .inl rfl | exact .inl (hi _ _)
     ·split
      ·rename_i h7
       unfold iQ
       split
       ·rename_i h;exact .inr ⟨h7,h,rfl⟩
       ·exact .inl rfl
      ·exact .inl rfl
theorem aPz {l:List Sess} {id:Int} (h:(gJ l id).2=0) {n:Int} (hs:oU l n):∀ x,x∈(gJ l id).1↔x∈l∧x.id≠id:=by
 unfold gJ at h ⊢
 split at h
 ·simp at h
 ·rename_i h1
  split at h
  ·simp at h
  ·rename_i h2
   rw [if_neg h1,if_neg h2]
   rcases jP l id with e | ⟨i,y,e,hi,hy⟩
   ·rw [e] at h2;exact absurd (by decide) h2
   ·simp only [e,Int.toNat_natCast]
    intro x
    unfold vX
    rw [List.mem_append]
    have hp:=hs.2.2.1
    have hil:=(List.getElem?_eq_some_iff.1 hi).1
    have key:∀ j z,l[j]?=some z→(z.id=id↔j=i):=by
     intro j z hz
     constructor
     ·intro hzid
      have e1:=aA8 hp hz
      rw [hzid,e] at e1;omega
     ·rintro rfl;rw [hi] at hz;cases hz;exact hy
    constructor
    ·rintro (hx | hx)
     ·obtain ⟨j,hj⟩:=List.mem_iff_getElem?.1 hx
      rw [List.getElem?_take] at hj
      split at hj
      ·rename_i hji
       exact ⟨List.mem_of_getElem? hj,fun q=>by have:=(key j x hj).1 q;omega⟩
      ·cases hj
     ·obtain ⟨j,hj⟩:=List.mem_iff_getElem?.1 hx
      rw [List.getElem?_drop] at hj
      exact ⟨List.mem_of_getElem? hj,fun q=>by have:=(key _ x hj).1 q;omega⟩
    ·rintro ⟨hx,hne⟩
     obtain ⟨j,hj⟩:=List.mem_iff_getElem?.1 hx
     have hji:j≠i:=fun q=>hne ((key j x hj).2 q)
     by_cases c:j<i
     ·left;exact List.mem_of_getElem? (i:=j) (by rw [List.getElem?_take,if_pos c];exact hj)
     ·right;exact List.mem_of_getElem? (i:=j - (i+1)) (by rw [List.getElem?_drop,show i+1+(j - (i+1))=j from by omega];exact hj)
def tO (s:State):Prop:=∀ x∈s.sess,x.reply.why≠0→x.reply=why x.reply.why
theorem aQ0 {s:State} (hr:bQ s=true) (hq:tO s):tO (gO s).1∧((gO s).2.why≠0→(gO s).1=s∧(gO s).2=why (gO s).2.why):=by
 unfold gO
 split
 ·exact ⟨hq,fun _=>⟨rfl,rfl⟩⟩
 ·split
  ·exact ⟨hq,fun _=>⟨rfl,rfl⟩⟩
  ·refine ⟨fun x hx=>?_,fun h=>absurd rfl h⟩
   rename_i h1 h2
   have h2:=Decidable.not_not.1 h2
   have hx:x∈(nW s.sess s.next).1:=hx
   unfold nW at h2 hx
   split at h2
   ·simp at h2
   ·rename_i j1
    split at h2
    ·simp at h2
    ·rename_i j2
     split at h2
     ·simp at h2
     ·rename_i j3
      rw [if_neg j1,if_neg j2,if_neg j3] at hx
      rcases (kQ _ _ _ _).1 hx with rfl | hx
      ·intro h;exact absurd rfl h
      ·exact hq x hx
theorem aXg {s:State} (hr:bQ s=true) (hq:tO s) (c:Cmd):tO (vE s c).1:=by
 intro x hx
 rcases aXf s c with e | ⟨_,e1,e2⟩
 ·rw [e] at hx;exact hq x hx
 ·rw [e2] at hx
  exact hq x ((aPz e1 ((cG s).1 hr).2.2.1 x).1 hx).1
theorem aLj (r:State×Rep) (c:Call):iF r c=r∨∃ (i:Nat) (x:Sess),r.1.sess[i]?=some x∧x.id=c.session∧x.last<c.seq∧iF r c=({ r.1 with sess:=r.1.sess.set i ⟨x.id,c.seq,r.2⟩ },r.2):=by
 unfold iF
 split
 ·rename_i h
  right
  unfold kE at h
  split at h
  ·rename_i h1;exact absurd h h1
  ·rename_i h1
   have h1':=Decidable.not_not.1 h1
   split at h
   ·simp at h
   ·rename_i h2
    have h2':(cB r.1.sess c.session c.seq).2.1=false:=by simpa using h2
    obtain ⟨hs,i,x,hx,hid,q1,q2,q3⟩:=aUp h1' h2'
    refine ⟨i,x,hx,hid,q3,?_⟩
    have:=aUq hs hx q1 q2 q3 r.2
    rw [hid] at this
    rw [this,hid]
 ·exact .inl rfl
theorem aLk {s:State} (hr:bQ s=true) (hi:yX s) (hq:tO s) (c:Call):tO (fW s c).1:=by
 unfold fW
 rw [if_neg (by rw [hr];simp)]
 split
 ·exact hq
 ·split
  ·exact (aQ0 hr hq).1
  ·split
   ·exact hq
   ·split
    ·exact hq
    ·have hd:=aXg hr hq c.cmd
     rcases aLj (vE s c.cmd) c with e | ⟨i,x,e1,_,_,e2⟩
     ·rw [e];exact hd
     ·rw [e2]
      intro y hy
      rcases List.mem_or_eq_of_mem_set hy with hy | rfl
      ·exact hd y hy
      ·intro h;exact ((aUv s c.cmd).2.2 h).2
theorem aUw:tO State.new:=fun x hx=>by cases hx
structure Beh (s:State):Prop where
 right:bQ s=true
 ints:yX s
 reps:tO s
theorem Beh.new:Beh State.new:=⟨aFk.1,aFk.2,aUw⟩
theorem Beh.apply {s:State} (h:Beh s) (c:Call):Beh (fW s c).1:=⟨(aB3 h.right h.ints c).1,(aB3 h.right h.ints c).2,aLk h.right h.ints h.reps c⟩
theorem Beh.play:∀ (l:List Call) (s:State) (r:List Rep),Beh s→Beh (l.foldl tG (s,r)).1
 | [],s,r,h=>h
 | c::l,s,r,h=>Beh.play l _ _ (h.apply c)
theorem Beh.playM {s:State} (h:Beh s) (l:List Call):Beh (Go.Proofs.YtoaibmbldmckaaaGreat.playM s l).1:=Beh.play l s [] h
theorem aC6 (l:List Posted) (name:List UInt8):mP l name≤l.length:=by
 unfold mP
 have:=List.length_filter_le (fun p:Posted=>p.ref.ser == name) l
 omega
def aUx (done:List Posted) (p:Posted):Int⊕List Posted:=if p.ref.num=mP done p.ref.ser+1 then .inr (done++[p]) else .inl (done.length:Int)
def tP (l:List Posted):Int:=aD aUx (fun _=>-1) l []
structure ARow where
 cat:List UInt8
 bp:Int
 net:Int
 tax:Int
deriving DecidableEq
def lR (r:ARow) (p:Part):Bool:=if fG r.cat p.cat=true then true else if r.cat=p.cat then decide (r.bp<p.bp) else false
def aV (l:List ARow) (p:Part):Nat:=mF (fun r=>lR r p) l
def lX (l:List ARow) (p:Part):Bool:=match l[aV l p]? with
 | none=>true
 | some r=>if r.cat=p.cat then !decide (r.bp=p.bp) else true
def dX (l:List ARow) (p:Part):List ARow:=if lX l p=true then dG l (aV l p) ⟨p.cat,p.bp,0,0⟩ else l
def jW (l:List ARow) (p:Part):Option (List ARow):=match (dX l p)[aV l p]? with
 | none=>none
 | some r=>if (bF r.net p.net).2=0 then (if (bF r.tax p.tax).2=0 then some ((dX l p).set (aV l p) { r with net:=(bF r.net p.net).1,tax:=(bF r.tax p.tax).1 }) else none) else none
def gP:List Part→List ARow→Option (List ARow)
 | [],l=>some l
 | p::ps,l=>match jW l p with
  | some l'=>gP ps l'
  | none=>none
end Go.Proofs.YtoaibmbldmckaaaGreat
end
section
namespace Go.AM
theorem bIq {P:Program} {T:TypeId} {n b:Nat} (hT:apT P T=some (n,b)) (hn:1<n) {S0 S:St} {v:V} {es:List (List V)} (h:Own S0 S n v es) (x:Ext S0 S) (w:WF S0) {c:List V} (hc:c.length=n∧aI c=true) (h1:(es.length+1)*b≤35184372088832) (h2:es.length+1<dW) {i:Nat} (hi:i≤es.length):
  ∃ v' S',gL P T v (.int .i64 (i:Int)) (.sl S.next 0 n 0 1) ⟨S.next+1,S.heap.put S.next (.row 0 n [c])⟩=.ok (v',S')∧Ext S0 S'∧Own S0 S' n v' (es.take i++c::es.drop i)∧∀ y,y<S.next→blkOf v≠some y→S'.heap.get y=S.heap.get y:=by
 have x1:Ext S ⟨S.next+1,S.heap.put S.next (.row 0 n [c])⟩:=Ext.new (x.wf w) _
 obtain ⟨v',S',q1,q2,q3,q4⟩:=(h.ext x1).insertK hT hn (x.trans x1) w (bx:=S.next) (c:=c) (aC _ _ _ _ _ _) (fun a ver m hv=>by
  rcases h.is with ⟨rfl,_⟩ | ⟨a',ver',tl,rfl,_,hlt,_⟩
  ·cases hv
  ·cases hv;omega) hc h1 h2 hi
 refine ⟨v',S',q1,q2,q3,fun y hy hya=>?_⟩
 rw [q4 y (by show y<S.next+1;omega) (fun a ver m hv e=>hya (by rw [hv,e];rfl))]
 exact Tr.get_put_neB _ _ _ _ trivial (by omega)
end Go.AM
namespace Go.Proofs.YtoaibmbldmckaaaGreat
open Go.AM Tryz
set_option linter.unusedVariables false
set_option linter.unusedSimpArgs false
set_option maxRecDepth 100000
def ARow.enc (r:ARow):List V:=[.str r.cat,.int .i64 r.bp,.int .i64 r.net,.int .i64 r.tax]
theorem aUy (x:ARow):x.enc.length=4∧aI x.enc=true:=⟨rfl,rfl⟩
theorem bOe (r:ARow) (p:Part) (S:St) (K:KW):C 201 [.agg [.str r.cat,.int .i64 r.bp,.int .i64 r.net,.int .i64 r.tax],.agg [.str p.cat,.int .i64 p.bp,.int .i64 p.net,.int .i64 p.tax]] S K=K (.bool (lR r p)) S:=by
 refine (bL2 rfl ?_).eq S K
 delta Tryz.f201;simp only [↓cw,↓reduceIte,Nat.reduceLT,kk,gH,lR,oo]
 grind
end Go.Proofs.YtoaibmbldmckaaaGreat
end
section
namespace Go.Proofs.YtoaibmbldmckaaaGreat
open Go.AM Tryz
theorem bOf:apT prog 68=some (4,40):=by kernel_rfl
theorem bIr:sX 202=some (.spec ((Sp.ins 68).run prog)):=by kernel_rfl
theorem mQ (l:List ARow) (p:Part):aV l p≤l.length:=yK _ _
theorem aFo (l:List ARow) (p:Part):∃ r,(dX l p)[aV l p]?=some r:=by
 unfold dX
 split
 ·exact ⟨_,zW _ _ _ (mQ l p)⟩
 ·rename_i h
  unfold lX at h
  split at h
  ·exact absurd rfl h
  ·rename_i b hb;exact ⟨b,hb⟩
theorem bOg {S0 S:St} {v:V} {l:List ARow} (own:Own S0 S 4 v (l.map ARow.enc)) (x:Ext S0 S) (w:WF S0) (hl:l.length≤1000000) (p:Part) {K:KW}
  (H1:∀ l',jW l p=some l'→∀ v' S',Ext S0 S'→Own S0 S' 4 v' (l'.map ARow.enc)→K (.tup [v',.int .i64 0]) S') (H2:jW l p=none→∀ S',Ext S0 S'→K (.tup [.nils,.int .i64 7]) S'):C 125 [v,.agg [.str p.cat,.int .i64 p.bp,.int .i64 p.net,.int .i64 p.tax]] S K:=by
 refine bM4 ?_
 have hx:=x.next
 obtain ⟨S1,hS1⟩:∃ S1:St,S1=⟨S.next+1,S.heap.put S.next (.row 0 4 [p.enc])⟩:=⟨_,rfl⟩
 have x1:Ext S S1:=by rw [hS1];exact Ext.new (x.wf w) _
 have n1:S1.next=S.next+1:=by rw [hS1]
 have r1:aA S1 S.next 0=.ok (4,[p.enc]):=by rw [hS1];exact aC _ _ _ _ _ _
 simp only [Part.enc] at hS1 r1
 have hple:=mQ l p
 have hlen:lenW v=.ok (.int .i64 (l.length:Int)):=own.sl.lenI
 have bv:∀ y,AM.blkOf v=some y→y<S.next:=fun y hy=>(cN own hy).2
 simp only [aWf,kk,←hS1]
 have hj1:∀ (v':V) (X:St),Ext S0 X→Own S0 X 4 v' ((dX l p).map ARow.enc)→aA X S.next 0=.ok (4,[p.enc])→aBs C K v' (.ptr S.next 0 0 0) (.int .i64 (aV l p:Int)) X:=by
  intro v' X xX o hr
  obtain ⟨r,hb⟩:=aFo l p
  have hb':((dX l p).map ARow.enc)[aV l p]?=some r.enc:=by rw [List.getElem?_map,hb];rfl
  obtain ⟨a,ver,hv,_,_,e4,_,set1⟩:=(o.bump 26).setK (xX.bump 26) w hb' .i64
  have hld:∀ m j,iJ none (.ptr a ver (aV l p) j) ⟨m,X.heap⟩=jM none r.enc j:=fun m j=>by
   have:=o.ld hv hb' none j
   simpa only [ldP,gm] using this
  have l2:=fun m=>hld m 2
  have l3:=fun m=>hld m 3
  simp only [kk,ARow.enc] at l2 l3
  simp only [Part.enc] at hr
  obtain ⟨S2,st1,x2,n2,own2,keep2,w2⟩:=set1 2 1 (.int .i64 (bF r.net p.net).1) rfl rfl (by decide)
  have hb2:(((dX l p).map ARow.enc).set (aV l p) (splice r.enc 2 [.int .i64 (bF r.net p.net).1]))[aV l p]?=some ({ r with net:=(bF r.net p.net).1 }:ARow).enc:=by
   rw [List.getElem?_set_self (List.getElem?_eq_some_iff.1 hb').1];rfl
  obtain ⟨a',ver',hv',_,_,_,_,set2⟩:=own2.setK x2 w hb2 .i64
  obtain ⟨rfl,rfl⟩:a'=a∧ver'=ver:=by rw [hv] at hv';injection hv' with h1 h2;exact ⟨h1.symm,h2.symm⟩
  obtain ⟨S3,nK,x3,n3,own3,keep3,w3⟩:=set2 3 1 (.int .i64 (bF r.tax p.tax).1) rfl rfl (by decide)
  have hfin:(((dX l p).map ARow.enc).set (aV l p) (splice r.enc 2 [.int .i64 (bF r.net p.net).1])).set (aV l p) (splice ({ r with net:=(bF r.net p.net).1 }:ARow).enc 3 [.int .i64 (bF r.tax p.tax).1])=((dX l p).set (aV l p) { r with net:=(bF r.net p.net).1,tax:=(bF r.tax p.tax).1 }).map ARow.enc:=by
   rw [List.set_set,List.map_set];rfl
  simp only [V.cells] at own3
  rw [hfin] at own3
  simp only [aBs,kk,e4,l2,l3,gm,hr,aTv,dA]
  have hen:jW l p=if (bF r.net p.net).2=0 then (if (bF r.tax p.tax).2=0 then some ((dX l p).set (aV l p) { r with net:=(bF r.net p.net).1,tax:=(bF r.tax p.tax).1 }) else none) else none:=by
   simp only [jW,hb]
  by_cases c1:(bF r.net p.net).2=0
  ·by_cases c2:(bF r.tax p.tax).2=0
   ·simp only [c1,c2,if_true] at hen
    simp only [c1,c2,kk,not_true_eq_false,if_false]
    have e:(⟨X.next+13+13,X.heap⟩:St)=⟨X.next+26,X.heap⟩:=rfl
    rw [e]
    simp only [st1,nK,kk]
    exact H1 _ hen _ _ x3 own3
   ·simp only [c1,c2,if_true,if_false] at hen
    simp only [c1,c2,kk,not_true_eq_false,not_false_eq_true,if_true,if_false]
    exact H2 hen _ (xX.bump 26)
  ·simp only [c1,if_false] at hen
   simp only [c1,kk,not_false_eq_true,if_true]
   exact H2 hen _ (xX.bump 26)
 have hown:∀ {X:St},X.heap=S1.heap→S1.next≤X.next→Own S0 X 4 v (l.map ARow.enc):=fun hh hn=>(own.ext x1).same hn fun a _=>by rw [hh]
 have hext:∀ {X:St},X.heap=S1.heap→S1.next≤X.next→Ext S0 X:=fun {X} hh hn=>⟨fun a b h=>by rw [hh];exact (x.trans x1).old a b h,Nat.le_trans (x.trans x1).next hn,fun ww a b h=>by rw [hh] at h;have:=(x.trans x1).wf ww a b h;omega⟩
 have hrow:∀ {X:St},X.heap=S1.heap→aA X S.next 0=.ok (4,[p.enc]):=fun {X} hh=>aG r1 (by rw [hh])
 have hj2:∀ X:St,X.heap=S1.heap→S1.next≤X.next→uD C K v (.ptr S.next 0 0 0) (.int .i64 (aV l p:Int)) (.bool (lX l p)) X:=by
  intro X hh hn
  have hr:=hrow hh
  cases hm:lX l p
  ·simp only [uD,kk,Bool.false_eq_true,if_false]
   exact hj1 v X (hext hh hn) (by rw [show dX l p=l by simp [dX,hm]];exact hown hh hn) hr
  ·obtain ⟨v2,S2,q1,x2,own2,keep2⟩:=bIq bOf (by decide) (hown hh hn) (hext hh hn) w (aUy ⟨p.cat,p.bp,0,0⟩) (by simp;omega) (by simp [dW];omega) (i:=aV l p) (by simpa using hple)
   rw [←mO] at own2
   have hr2:=aG hr (keep2 S.next (by omega) (fun e=>by have:=bv _ e;omega))
   simp only [ARow.enc] at q1
   simp only [Part.enc] at hr
   simp only [uD,kk,if_true,hr,aL6]
   rw [aPm bIr q1]
   refine hj1 v2 S2 x2 (by rw [show dX l p=dG l (aV l p) ⟨p.cat,p.bp,0,0⟩ by simp [dX,hm]];exact own2) hr2
 have hj0:∀ X:St,X.heap=S1.heap→S1.next≤X.next→aBt C K v (.ptr S.next 0 0 0) (.int .i64 (aV l p:Int)) X:=by
  intro X hh hn
  have h2:=hj2 ⟨X.next+24,X.heap⟩ hh (by show S1.next≤X.next+24;omega)
  have hr:=hrow (X:=⟨X.next+24,X.heap⟩) hh
  simp only [Part.enc] at hr
  simp only [aBt,kk,hlen]
  by_cases hk:aV l p=l.length
  ·have hm:lX l p=true:=by unfold lX;rw [hk,List.getElem?_eq_none (Nat.le_refl _)]
   rw [hm,hk] at h2
   simp only [hk,kk,if_true]
   exact h2
  ·have hlt:aV l p<l.length:=by omega
   have hb:l[aV l p]?=some l[aV l p]:=List.getElem?_eq_getElem hlt
   have hm:lX l p=if (l[aV l p]).cat=p.cat then !decide ((l[aV l p]).bp=p.bp) else true:=by unfold lX;rw [hb]
   rw [hm] at h2
   have hb':(l.map ARow.enc)[aV l p]?=some l[aV l p].enc:=by rw [List.getElem?_map,hb];rfl
   have o:=hown (X:=⟨X.next+24,X.heap⟩) hh (by show S1.next≤X.next+24;omega)
   obtain ⟨a,ver,hv,_,_,e4,_,_⟩:=o.setK (hext (X:=⟨X.next+24,X.heap⟩) hh (by show S1.next≤X.next+24;omega)) w hb' .i64
   have l0:=o.ld hv hb' none 0
   have l1:=o.ld hv hb' none 1
   simp only [kk,ARow.enc] at l0 l1
   simp only [show ¬ ((aV l p:Nat):Int)=(l.length:Int) by omega,kk,if_false,e4,l0,l1,hr]
   by_cases c1:(l[aV l p]).cat=p.cat
   ·simp only [c1,if_true] at h2
    simp only [c1,BEq.rfl,kk,if_false]
    exact h2
   ·have c1':(!(l[aV l p].cat == p.cat))=true:=by simpa using c1
    simp only [c1,if_false] at h2
    simp only [c1',kk,if_true]
    exact h2
 refine aF l (step:=dE (fun r:ARow=>lR r p)) (fin:=id) (fun k n vs X=>n=k∧vs=[.int .i64 (k:Int)]∧X.heap=S1.heap∧S1.next≤X.next) (fun r=>r=aV l p) ?_ ?_ ⟨rfl,rfl,rfl,Nat.le_refl _⟩ rfl
 ·rintro k r m vs X hk ⟨rfl,rfl,hh,hn⟩ again' H'
  have hkl:=(List.getElem?_eq_some_iff.1 hk).1
  have hb':(l.map ARow.enc)[m]?=some r.enc:=by rw [List.getElem?_map,hk];rfl
  have o:=hown (X:=⟨X.next+12,X.heap⟩) hh (by show S1.next≤X.next+12;omega)
  obtain ⟨a,ver,hv,_,_,e4,_,_⟩:=o.setK (hext (X:=⟨X.next+12,X.heap⟩) hh (by show S1.next≤X.next+12;omega)) w hb' .i64
  have l0:=o.ld hv hb' (some 4) 0
  have hr:=hrow (X:=⟨X.next+12,X.heap⟩) hh
  simp only [kk,ARow.enc] at l0
  simp only [Part.enc] at hr
  simp only [dE] at H'
  simp only [aGu,kk,hlen,aU hk,if_true,e4,l0,hr,bOe,gC (show m<1000000000 by omega)]
  cases c:lR r p<;>simp only [c,kk,if_true,if_false,Bool.false_eq_true] at H' ⊢
  ·have:=hj0 ⟨X.next+12,X.heap⟩ hh (by show S1.next≤X.next+12;omega)
   rw [←H'] at this
   exact this
  ·exact H' _ _ ⟨rfl,hh,by show S1.next≤X.next+12;omega⟩
 ·rintro m vs X ⟨rfl,rfl,hh,hn⟩ again' H'
  have H':l.length=aV l p:=H'
  simp only [aGu,kk,hlen,Int.lt_irrefl,if_false]
  have:=hj0 ⟨X.next+12,X.heap⟩ hh (by show S1.next≤X.next+12;omega)
  rw [←H'] at this
  exact this
def aLl (a b:Date) (x:Posted):Bool:=!(x.day.before a)&&!(b.before x.day)
def eM (l:List Posted) (a b:Date):List Part:=(l.filter (aLl a b)).flatMap (·.total.parts)
def bV (s:State) (a b:Date):List ARow×Int:=if bQ s=false then ([],1) else if a.right=false then ([],9) else if b.right=false then ([],9) else match gP (eM s.posted a b) [] with
 | some l=>(l,0)
 | none=>([],7)
theorem aQ1 {s:State} {a b:Date} {l:List ARow} (h:bV s a b=(l,0)):bQ s=true∧a.right=true∧b.right=true∧gP (eM s.posted a b) []=some l:=by
 unfold bV at h
 split at h
 ·cases h
 ·split at h
  ·cases h
  ·split at h
   ·cases h
   ·rename_i h1 h2 h3
    cases e:gP (eM s.posted a b) [] with
    | some l'=>rw [e] at h;cases h;exact ⟨by simpa using h1,by simpa using h2,by simpa using h3,rfl⟩
    | none=>rw [e] at h;cases h
theorem aLm {s:State} {a b:Date} (h:(bV s a b).2≠0):(bV s a b).1=[]:=by
 unfold bV at h ⊢
 split
 ·rfl
 ·rename_i h1
  rw [if_neg h1] at h
  split
  ·rfl
  ·rename_i h2
   rw [if_neg h2] at h
   split
   ·rfl
   ·rename_i h3
    rw [if_neg h3] at h
    cases e:gP (eM s.posted a b) [] with
    | some l=>rw [e] at h;exact absurd rfl h
    | none=>rfl
theorem aHi {s:State} (h:bQ s=true) {p:Posted} (hp:p∈s.posted):p.day.right=true:=by
 obtain ⟨_,_,_,q4,_⟩:=(cG _).1 h
 obtain ⟨i,hi⟩:=List.mem_iff_getElem?.1 hp
 exact (((hJ _).1 q4).2.1 i p hi).1
theorem aQ2 (x:Posted) (l:List Posted) (a b:Date):eM (x::l) a b=(if aLl a b x=true then x.total.parts else [])++eM l a b:=by
 unfold eM
 rw [List.filter_cons]
 split
 ·rw [List.flatMap_cons]
 ·rfl
theorem wW {l l':List ARow} {p:Part} (h:jW l p=some l'):l'.length≤l.length+1:=by
 have hr:(dX l p).length≤l.length+1:=by
  unfold dX
  split
  ·rw [iY _ _ _ (mQ l p)];exact Nat.le_refl _
  ·omega
 unfold jW at h
 repeat' split at h
 all_goals first | cases h | skip
 rw [List.length_set];exact hr
def rK (l:List ARow) (p:Part):Option (List ARow)⊕List ARow:=match jW l p with
 | some l'=>.inr l'
 | none=>.inl none
theorem aA9:∀ (ps:List Part) (l:List ARow),aD rK some ps l=gP ps l
 | [],l=>rfl
 | p::ps,l=>by
  simp only [aD,rK,gP]
  cases jW l p with
  | none=>rfl
  | some l'=>exact aA9 ps l'
theorem aDq:∀ (ps qs:List Part) (l:List ARow),gP (ps++qs) l=match gP ps l with
  | some l'=>gP qs l'
  | none=>none
 | [],qs,l=>rfl
 | p::ps,qs,l=>by
  simp only [List.cons_append,gP]
  cases jW l p with
  | none=>rfl
  | some l'=>exact aDq ps qs l'
def oJ (a b:Date) (l:List ARow) (x:Posted):(List ARow×Int)⊕List ARow:=
 if x.day.before a=true then .inr l else if b.before x.day=true then .inr l else match gP x.total.parts l with
  | some l'=>.inr l'
  | none=>.inl ([],7)
theorem lJ (a b:Date):∀ (ps:List Posted) (l:List ARow),aD (oJ a b) (fun l=>(l,0)) ps l=match gP (eM ps a b) l with
  | some l'=>(l',0)
  | none=>([],7)
 | [],l=>rfl
 | x::ps,l=>by
  simp only [aD,oJ,eM,List.filter_cons,aLl]
  by_cases c1:x.day.before a=true
  ·simp only [c1,if_true,Bool.not_true,Bool.false_and,Bool.false_eq_true,if_false]
   exact lJ a b ps l
  ·by_cases c2:b.before x.day=true
   ·simp only [c1,c2,if_true,if_false,Bool.not_true,Bool.and_false,Bool.false_eq_true]
    exact lJ a b ps l
   ·have c1':x.day.before a=false:=by simpa using c1
    have c2':b.before x.day=false:=by simpa using c2
    simp only [c1',c2',if_false,Bool.false_eq_true,Bool.not_false,Bool.and_self,if_true,List.flatMap_cons]
    rw [aDq]
    cases e:gP x.total.parts l with
    | none=>rfl
    | some l'=>exact lJ a b ps l'
theorem g40 (s:State) (a b:Date) (S:St) (K:KW):C 40 [.agg [.imm (s.table.map Rate.enc),.imm (s.ser.map Ser.enc),.imm (s.posted.map Posted.enc),.imm (s.book.map Bal.enc),.imm (s.sess.map Sess.enc),.int .i64 s.next],.agg [.int .i64 a.y,.int .i64 a.m,.int .i64 a.d],.agg [.int .i64 b.y,.int .i64 b.m,.int .i64 b.d]] S K=
  K (.tup [.imm ((bV s a b).1.map ARow.enc),.int .i64 (bV s a b).2]) S:=by
 refine (v40 rfl ?_).eq S K
 delta Tryz.f40;simp only [↓cw,↓reduceIte,Nat.reduceLT,kk,gH,g24 s,aBe]
 cases c1:bQ s
 ·simp only [↓cw,↓reduceIte,Nat.reduceLT,c1,kk,oo,if_true,List.map_nil,bV]
 cases c2:a.right
 ·simp only [↓cw,↓reduceIte,Nat.reduceLT,c1,c2,kk,gH,aBe,oo,if_true,Bool.true_eq_false,if_false,List.map_nil,bV]
 cases c3:b.right
 ·simp only [↓cw,↓reduceIte,Nat.reduceLT,c1,c2,c3,kk,gH,aBe,oo,if_true,Bool.true_eq_false,if_false,List.map_nil,bV]
 simp only [↓cw,↓reduceIte,Nat.reduceLT,c1,c2,c3,kk,gH,aBe,Bool.true_eq_false,if_false]
 obtain ⟨h40,hok⟩:=kP (kY c1)
 have hrun:aD (oJ a b) (fun l=>(l,0)) s.posted []=bV s a b:=by
  rw [lJ]
  unfold bV
  rw [c1,c2,c3]
  simp only [Bool.true_eq_false,if_false]
  all_goals (cases gP (eM s.posted a b) []<;>rfl)
 obtain ⟨S0,hS0⟩:∃ S0:St,S0=⟨2+1,((Tr.nil.put 0 (.row 0 6 [s.enc])).put 1 (.row 0 3 [a.enc])).put 2 (.row 0 3 [b.enc])⟩:=⟨_,rfl⟩
 have w0:WF S0:=by rw [hS0];exact eH (n:=2) (eH (n:=1) (eH nL (by decide) (by decide)) (by decide) (by decide)) (by decide) (by decide)
 have n0:S0.next=3:=by rw [hS0]
 have ra:aA S0 1 0=.ok (3,[a.enc]):=by rw [hS0];rfl
 have rb:aA S0 2 0=.ok (3,[b.enc]):=by rw [hS0];rfl
 simp only [State.enc,Date.enc] at hS0 ra rb
 refine aF s.posted (step:=oJ a b) (fin:=fun l=>(l,0)) (fun i l vs S'=>∃ v,vs=[.nils,.int .i64 0,v,.int .i64 (i:Int)]∧Own S0 S' 4 v (l.map ARow.enc)∧Ext S0 S'∧l.length≤12*i) (fun r=>r=bV s a b) ?_ ?_ (s:=[]) ⟨_,rfl,Own.nil _ _ _,by rw [hS0];exact Ext.refl _,Nat.zero_le _⟩ hrun
 ·rintro i x l vs S' hi ⟨v,rfl,own,ex,hll⟩ aE H
  have hil:=(List.getElem?_eq_some_iff.1 hi).1
  have hxp:=gX (hok x (List.mem_of_getElem? hi)).2
  have hn:=ex.next
  obtain ⟨S1,hS1⟩:∃ S1:St,S1=⟨S'.next+1,(S'.heap.put S'.next (.row 0 12 [sD])).put S'.next (.row 0 12 [x.enc])⟩:=⟨_,rfl⟩
  have x1:Ext S' S1:=by rw [hS1];exact Ext.var (ex.wf w0) 12 _ _
  have r1:aA S1 S'.next 0=.ok (12,[x.enc]):=by rw [hS1];exact aC _ _ _ _ _ _
  have ra1:=(ex.trans x1).row ra
  have rb1:=(ex.trans x1).row rb
  simp only [sD,Posted.enc] at hS1
  simp only [Posted.enc] at r1
  simp only [oJ] at H
  simp only [↓cw,↓reduceIte,Nat.reduceLT,kk,aU hi,if_true,fX hi,Posted.enc,←hS1,r1,ra1,rb1,aTu,gC (show i<1000000000 by omega)]
  cases d1:x.day.before a
  rotate_left
  ·simp only [↓cw,↓reduceIte,Nat.reduceLT,d1,kk,if_true] at H ⊢
   exact H _ _ ⟨v,rfl,own.ext x1,ex.trans x1,by omega⟩
  cases d2:b.before x.day
  rotate_left
  ·simp only [↓cw,↓reduceIte,Nat.reduceLT,d1,d2,kk,Bool.false_eq_true,if_true,if_false] at H ⊢
   exact H _ _ ⟨v,rfl,own.ext x1,ex.trans x1,by omega⟩
  simp only [↓cw,↓reduceIte,Nat.reduceLT,d1,d2,kk,Bool.false_eq_true,if_false] at H ⊢
  refine aF x.total.parts (step:=rK) (fin:=some) (fun j l' vs S2=>∃ v',vs=[.nils,.int .i64 0,v',.int .i64 (j:Int)]∧Own S0 S2 4 v' (l'.map ARow.enc)∧Ext S0 S2∧l'.length≤12*i+j) (fun r=>r=gP x.total.parts l) ?_ ?_ (s:=l) ⟨v,rfl,own.ext x1,ex.trans x1,hll⟩ (aA9 _ _)
  ·rintro j p l' vs S2 hj ⟨v',rfl,o2,e2,hl2⟩ again2 H2
   have hjl:=(List.getElem?_eq_some_iff.1 hj).1
   have x2:Ext S2 ⟨S2.next+1,(S2.heap.put S2.next (.row 0 4 [[.str [],.int .i64 0,.int .i64 0,.int .i64 0]])).put S2.next (.row 0 4 [p.enc])⟩:=Ext.var (e2.wf w0) 4 _ _
   simp only [Part.enc] at x2
   simp only [rK] at H2
   simp only [↓cw,↓reduceIte,Nat.reduceLT,kk,aU hj,if_true,gY hj,Part.enc]
   refine bOg (o2.ext x2) (e2.trans x2) w0 (by omega) p (fun l3 hl3 v3 S3 e3 o3=>?_) (fun hno S3 e3=>?_)
   ·rw [hl3] at H2
    have:=wW hl3
    simp only [↓cw,↓reduceIte,Nat.reduceLT,kk,gC (show j<1000000000 by omega),not_true_eq_false,if_false]
    exact H2 _ _ ⟨v3,rfl,o3,e3,by omega⟩
   ·rw [hno] at H2
    have H2:none=gP x.total.parts l:=H2
    rw [←H2] at H
    have H:(([],7):List ARow×Int)=bV s a b:=H
    simp only [↓cw,↓reduceIte,Nat.reduceLT,kk,show ¬ (7:Int)=0 by decide,not_false_eq_true,if_true,oo,←H,List.map_nil]
  ·rintro l' vs S2 ⟨v',rfl,o2,e2,hl2⟩ again2 H2
   have H2:some l'=gP x.total.parts l:=H2
   rw [←H2] at H
   simp only [↓cw,↓reduceIte,Nat.reduceLT,kk,Int.lt_irrefl,if_false,gC (show i<1000000000 by omega)]
   exact H _ _ ⟨v',rfl,o2,e2,by omega⟩
 ·rintro l vs S' ⟨v,rfl,own,ex,hll⟩ aE H
  have H:(l,(0:Int))=bV s a b:=H
  simp only [↓cw,↓reduceIte,Nat.reduceLT,kk,Int.lt_irrefl,if_false,oo,own.out fun _=>rfl,←H]
theorem aHj {l:List ARow} {i:Nat} {a:ARow} (hi:l[i]?=some a) (k:IntKind):gV 4 (.imm (l.map ARow.enc)) (.int k (i:Int))=.ok (.iptr a.enc 0):=ixI (enc:=ARow.enc) hi rfl k
theorem aQ3 (l:List Call) (n:Nat):∀ c∈tF l n,c.cmd.lines.length<1000000:=fun c hc=>by
 obtain ⟨d,_,rfl⟩:=List.mem_map.1 hc
 show (d.cmd.lines.take 15).length<1000000
 rw [List.length_take];omega
theorem a35 (l:List Call) (n:Nat) (hn:n≤1000) (S:St) (K:KW):C 35 [.agg [.imm [],.imm [],.imm [],.imm [],.imm [],.int .i64 1],.imm ((tF l n).map Call.enc)] S K=
  K (.tup [.agg [.imm ((playM State.new (tF l n)).1.table.map Rate.enc),.imm ((playM State.new (tF l n)).1.ser.map Ser.enc),.imm ((playM State.new (tF l n)).1.posted.map Posted.enc),.imm ((playM State.new (tF l n)).1.book.map Bal.enc),.imm ((playM State.new (tF l n)).1.sess.map Sess.enc),.int .i64 (playM State.new (tF l n)).1.next],.imm ((playM State.new (tF l n)).2.map Rep.enc)]) S:=
 g35 State.new (tF l n) Sml.new (by have:=aTs l n;omega) (aQ3 l n) S K
def xA:List (List UInt8×Int)→List UInt8→List (List UInt8×Int)
 | [],s=>[(s,1)]
 | (t,n)::l,s=>if t=s then (t,n+1)::l else (t,n)::xA l s
def jX:List (List UInt8×Int)→List UInt8→Int
 | [],_=>0
 | (t,n)::l,s=>if t=s then n else jX l s
def pK:List (List UInt8×Int)→List UInt8→Option Nat
 | [],_=>none
 | (t,_)::l,s=>if t=s then some 0 else (pK l s).map (·+1)
def rM (l:List (List UInt8×Int)):List (V×V):=l.map fun x=>(.str x.1,.int .i64 x.2)
theorem xB:∀ (l:List (List UInt8×Int)) (s t:List UInt8),jX (xA l s) t=jX l t+if s=t then 1 else 0
 | [],s,t=>by simp only [xA,jX];split<;>simp
 | (u,n)::l,s,t=>by
  simp only [xA]
  by_cases c:u=s
  ·rw [if_pos c]
   simp only [jX]
   subst c
   split<;>simp
  ·rw [if_neg c]
   simp only [jX,xB l s t]
   by_cases c2:u=t
   ·subst c2
    rw [if_pos rfl,if_pos rfl,if_neg fun e=>c e.symm,Int.add_zero]
   ·rw [if_neg c2,if_neg c2]
theorem aUz (s:List UInt8):∀ (l:List (List UInt8×Int)) (i:Nat),aAc s (rM l) i=some ((pK l s).map fun j=>(i+j,V.int .i64 (jX l s)))
 | [],i=>rfl
 | (t,n)::l,i=>by
  simp only [rM,List.map_cons,aAc,pK,jX]
  rw [cW,cond_eq_ite]
  by_cases c:t=s
  ·subst c
   simp
  ·have h2:¬ (s == t)=true:=by simpa using fun e=>c e.symm
   rw [if_neg h2,if_neg c,if_neg c]
   have:=aUz s l (i+1)
   simp only [rM] at this
   rw [this]
   cases pK l s with
   | none=>rfl
   | some j=>simp only [Option.map_some];congr 3;omega
theorem yY:∀ {l:List (List UInt8×Int)} {s:List UInt8},pK l s=none→jX l s=0∧rM l++[(.str s,.int .i64 1)]=rM (xA l s)
 | [],s,_=>⟨rfl,rfl⟩
 | (t,n)::l,s,h=>by
  simp only [pK] at h
  split at h
  ·cases h
  ·rename_i c
   have h':pK l s=none:=by cases e:pK l s with
    | none=>rfl
    | some j=>rw [e] at h;cases h
   obtain ⟨h1,h2⟩:=yY h'
   simp only [jX,xA,if_neg c]
   exact ⟨h1,by simp only [rM,List.map_cons,List.cons_append] at h2 ⊢;rw [h2]⟩
theorem aJe:∀ {l:List (List UInt8×Int)} {s:List UInt8} {j:Nat},pK l s=some j→(rM l).set j (.str s,.int .i64 (jX l s+1))=rM (xA l s)
 | (t,n)::l,s,j,h=>by
  simp only [pK] at h
  split at h
  ·rename_i c
   cases h
   subst c
   simp only [jX,xA,if_true,rM,List.map_cons,List.set_cons_zero]
  ·rename_i c
   cases e:pK l s with
   | none=>rw [e] at h;cases h
   | some k=>
    rw [e] at h
    cases h
    have:=aJe e
    simp only [jX,xA,if_neg c,rM,List.map_cons,List.set_cons_succ] at this ⊢
    rw [this]
theorem aO6:aQc prog 199=some 3:=by kernel_rfl
theorem bIs:aN prog 3=some (.int .i64 0):=by kernel_rfl
theorem aO7 {S:St} {a:Nat} {l:List (List UInt8×Int)} (h:S.heap.get a=some (.mp (rM l))) (s:List UInt8):pS prog 199 (.mp a) (.str s) false S=.ok (.int .i64 (jX l s)):=by
 simp only [pS,aO6,zG,h,aUz]
 cases e:pK l s with
 | none=>simp only [Option.map_none,bIs,okV,(yY e).1];rfl
 | some j=>simp only [Option.map_some,okV];rfl
theorem bCi {S:St} {a:Nat} {l:List (List UInt8×Int)} (h:S.heap.get a=some (.mp (rM l))) (s:List UInt8):iT prog 199 (.mp a) (.str s) (.int .i64 (jX l s+1)) S=.ok ⟨S.next,S.heap.put a (.mp (rM (xA l s)))⟩:=by
 simp only [iT,aO6,h,aUz]
 cases e:pK l s with
 | none=>simp only [Option.map_none,←(yY e).2,(yY e).1];rfl
 | some j=>simp only [Option.map_some,Nat.zero_add,aJe e]
theorem g42 (l:List Posted) (hl:l.length<1000000) (S:St) (K:KW):C 42 [.imm (l.map Posted.enc)] S K=K (.int .i64 (tP l)) S:=by
 refine (v42 rfl ?_).eq S K
 delta Tryz.f42;simp only [↓cw,↓reduceIte,Nat.reduceLT,kk]
 refine aF l (step:=aUx) (fin:=fun _=>-1) (fun i done vs S=>∃ kv,vs=[.int .i64 0,.int .i64 (i:Int)]∧S.heap.get 0=some (.mp (rM kv))∧0<S.next∧(∀ s,jX kv s=mP done s)∧done.length=i) (fun r=>r=tP l) ?_ ?_ (s:=[]) ⟨[],rfl,rfl,by decide,fun _=>rfl,rfl⟩ rfl
 ·rintro i p done vs S hi ⟨kv,rfl,hm,h0,hc,hdl⟩ aE H
  have hil:=(List.getElem?_eq_some_iff.1 hi).1
  have hb:=aC6 done p.ref.ser
  have hb0:=kR done p.ref.ser
  have hm1:∀ (m:Nat) (b c:Blk),(⟨m,(S.heap.put S.next b).put S.next c⟩:St).heap.get 0=some (.mp (rM kv)):=fun m b c=>by
   show ((S.heap.put S.next b).put S.next c).get 0=_
   rw [Tr.get_put_neB _ _ _ _ trivial (by omega),Tr.get_put_neB _ _ _ _ trivial (by omega)];exact hm
  have hw:wr .i64 (jX kv p.ref.ser+1)=jX kv p.ref.ser+1:=by rw [hc];exact mD (by omega) (by omega)
  simp only [↓cw,↓reduceIte,Nat.reduceLT,kk,aU hi,if_true,fX hi,Posted.enc]
  obtain ⟨S1,hS1⟩:∃ S1:St,S1=⟨S.next+1,(S.heap.put S.next (.row 0 12 [sD])).put S.next (.row 0 12 [p.enc])⟩:=⟨_,rfl⟩
  have m1:S1.heap.get 0=some (.mp (rM kv)):=by rw [hS1];exact hm1 _ _ _
  have r1:aA S1 S.next 0=.ok (12,[p.enc]):=by rw [hS1];exact aC _ _ _ _ _ _
  have m2:(⟨S1.next,S1.heap.put 0 (.mp (rM (xA kv p.ref.ser)))⟩:St).heap.get 0=some (.mp (rM (xA kv p.ref.ser))):=Tr.get_put_sameB _ _ _ trivial
  have r2:aA ⟨S1.next,S1.heap.put 0 (.mp (rM (xA kv p.ref.ser)))⟩ S.next 0=.ok (12,[p.enc]):=aG r1 (Tr.get_put_neB _ _ _ _ trivial (by omega))
  have l2:jX (xA kv p.ref.ser) p.ref.ser=mP done p.ref.ser+1:=by rw [xB,if_pos rfl,hc]
  simp only [sD,Posted.enc] at hS1
  simp only [Posted.enc] at r1 r2
  simp only [↓cw,↓reduceIte,Nat.reduceLT,←hS1,r1,kk,aO7 m1,hw,bCi m1,r2,aO7 m2,l2,gC (show i<1000000000 by omega)]
  simp only [aUx] at H
  by_cases c:p.ref.num=mP done p.ref.ser+1
  ·simp only [c,if_true] at H
   simp only [↓cw,↓reduceIte,Nat.reduceLT,c,kk,not_true_eq_false,if_false]
   refine H _ _ ⟨xA kv p.ref.ser,rfl,m2,by rw [hS1];show 0<S.next+1;omega,fun s=>?_,by simp [hdl]⟩
   rw [xB,fA,mJ,hc]
  ·simp only [c,if_false] at H
   simp only [↓cw,↓reduceIte,Nat.reduceLT,c,kk,not_false_eq_true,if_true,oo,←H,hdl]
 ·rintro done vs S ⟨kv,rfl,hm,h0,hc,hdl⟩ aE H
  have H:(-1:Int)=tP l:=H
  simp only [↓cw,↓reduceIte,Nat.reduceLT,kk,Int.lt_irrefl,if_false,oo,←H]
theorem ARow.ext_iff (a b:ARow):(a=b)=(((a.cat=b.cat∧a.bp=b.bp)∧a.net=b.net)∧a.tax=b.tax):=by
 obtain ⟨_,_,_,_⟩:=a;obtain ⟨_,_,_,_⟩:=b;simp [and_assoc]
theorem bOi (l r:List ARow) (hb:l.length<1000000) (S:St) (K:KW):C 130 [.imm (l.map ARow.enc),.imm (r.map ARow.enc)] S K=K (.bool (decide (l=r))) S:=by
 refine (bK3 rfl ?_).eq S K
 delta Tryz.f130;simp only [↓cw,↓reduceIte,Nat.reduceLT,kk]
 by_cases h:l.length=r.length
 ·simp only [↓cw,↓reduceIte,Nat.reduceLT,show (l.length:Int)=(r.length:Int) by omega,kk,not_true_eq_false,if_false]
  refine aF l (step:=dQ r) (fin:=fun _=>true) (fun i n vs S=>n=i∧vs=[.bool false,.int .i64 (i:Int)]) (fun x=>x=decide (l=r)) ?_ ?_ (s:=0) ⟨rfl,rfl⟩ (eqL h)
  ·rintro i p n vs S hi ⟨rfl,rfl⟩ aE H
   have hil:=(List.getElem?_eq_some_iff.1 hi).1
   have hj:r[n]?=some r[n]:=List.getElem?_eq_getElem (by omega)
   have hlt:((n:Int)<(r.length:Int))=True:=aU hj
   simp only [dQ,hj,Option.some.injEq,ARow.ext_iff] at H
   simp only [↓cw,↓reduceIte,Nat.reduceLT,kk,aU hi,hlt,aHj hi,aHj hj,ARow.enc,gC (show n<1000000000 by omega),oo]
   grind
  ·rintro n vs S ⟨rfl,rfl⟩ aE H
   simp only [↓cw,↓reduceIte,Nat.reduceLT,kk,h,Int.lt_irrefl,if_false,oo,←H]
 ·simp only [↓cw,↓reduceIte,Nat.reduceLT,show ¬ (l.length:Int)=(r.length:Int) by omega,kk,not_false_eq_true,if_true,oo]
  have:decide (l=r)=false:=by simpa using fun e=>h (by rw [e])
  rw [this]
end Go.Proofs.YtoaibmbldmckaaaGreat
end
section
namespace Go.AM
theorem Own.made {n:Nat} {S:St} {es:List (List V)} (h:∀ c,c∈es→c.length=n∧aI c=true):Own E0 ⟨S.next+1,S.heap.put S.next (.row 0 n es)⟩ n (.sl S.next 0 n 0 es.length) es:=
 ⟨.inr ⟨S.next,0,[],rfl,Nat.zero_le _,Nat.lt_succ_self _,by rw [List.append_nil];exact Tr.get_put_sameB _ _ _ trivial⟩,h⟩
end Go.AM
namespace Go.Proofs.YtoaibmbldmckaaaGreat
open Go.AM Tryz
set_option linter.unusedVariables false
set_option linter.unusedSimpArgs false
set_option maxRecDepth 100000
theorem g46 (n:Int) (S:St) (K:KW):C 46 [.int .i64 n] S K=K (.agg [.int .i64 2026,.int .i64 11,.int .i64 n]) S:=by
 refine (v46 rfl ?_).eq S K
 delta Tryz.f46;simp only [↓cw,↓reduceIte,Nat.reduceLT,kk,oo]
theorem bOj (s:List UInt8) (n:Int) (S:St) (K:KW):C 129 [.str s,.int .i64 n] S K=K (.agg (Posted.enc ⟨⟨s,n⟩,⟨0,0,0⟩,⟨0,0,0,[]⟩,Ref.zero,false⟩)) S:=by
 refine (bK2 rfl ?_).eq S K
 delta Tryz.f129;simp only [↓cw,↓reduceIte,Nat.reduceLT,kk,oo]
 rfl
def aDr (n:Int):Call:=⟨1,n,⟨4,[97],0,⟨[],⟨0,0,0⟩,0⟩,⟨2026,11,15⟩,[⟨[],[115,116,100],1,100⟩],Ref.zero,0⟩⟩
theorem bIt:dI prog 128=some none:=by kernel_rfl
theorem bOk (n:Int) (S:St) (K:KW):C 128 [.int .i64 n] S K=K (.agg (aDr n).enc) S:=by
 refine (bK1 rfl ?_).eq S K
 delta Tryz.f128;simp only [↓cw,↓reduceIte,Nat.reduceLT,kk,g46,aL6,oo]
 rfl
theorem bCj (z:List V) (parts:List (Nat×V)) (fr:Option Nat) (S:St):bN 12 z 3 parts fr S=(match uR 12 [z,z,z] parts with
  | .error e=>.error e
  | .ok elems=>match aY fr S (.row 0 12 elems) with
   | .error e=>.error e
   | .ok (a,S')=>.ok (.sl a 0 12 0 3,S')):=by unfold bN;rw [if_pos (by decide)];rfl
theorem bCk (z:List V) (parts:List (Nat×V)) (fr:Option Nat) (S:St):bN 12 z 2 parts fr S=(match uR 12 [z,z] parts with
  | .error e=>.error e
  | .ok elems=>match aY fr S (.row 0 12 elems) with
   | .error e=>.error e
   | .ok (a,S')=>.ok (.sl a 0 12 0 2,S')):=by unfold bN;rw [if_pos (by decide)];rfl
theorem bCl (z:List V) (parts:List (Nat×V)) (fr:Option Nat) (S:St):bN 17 z 7 parts fr S=(match uR 17 [z,z,z,z,z,z,z] parts with
  | .error e=>.error e
  | .ok elems=>match aY fr S (.row 0 17 elems) with
   | .error e=>.error e
   | .ok (a,S')=>.ok (.sl a 0 17 0 7,S')):=by unfold bN;rw [if_pos (by decide)];rfl
theorem a42 (S:St) (l:List Posted) (hl:l.length<1000000) (K:KW):C 42 [.sl S.next 0 12 0 l.length] ⟨S.next+1,S.heap.put S.next (.row 0 12 (l.map Posted.enc))⟩ K=K (.int .i64 (tP l)) ⟨S.next+1,S.heap.put S.next (.row 0 12 (l.map Posted.enc))⟩:=by
 have o:=Own.made (n:=12) (S:=S) (es:=l.map Posted.enc) fun c hc=>by obtain ⟨x,_,rfl⟩:=List.mem_map.1 hc;exact zX x
 rw [List.length_map] at o
 have h:=o.out fun _=>rfl
 exact (Fn.back fun S K=>g42 l hl S K).frz bJj rfl (by simp only [frzVs,h]) (by simp only [ptrsVs,o.ptrs];rfl) (.inl rfl) K
theorem bOm (S:St) (r l:List ARow) (hl:r.length<1000000) (K:KW):C 130 [.imm (r.map ARow.enc),.sl S.next 0 4 0 l.length] ⟨S.next+1,S.heap.put S.next (.row 0 4 (l.map ARow.enc))⟩ K=K (.bool (decide (r=l))) ⟨S.next+1,S.heap.put S.next (.row 0 4 (l.map ARow.enc))⟩:=by
 have o:=Own.made (n:=4) (S:=S) (es:=l.map ARow.enc) fun c hc=>by obtain ⟨x,_,rfl⟩:=List.mem_map.1 hc;exact aUy x
 rw [List.length_map] at o
 have h:=o.out fun _=>rfl
 exact (Fn.back fun S K=>bOi r l hl S K).frz bD6 rfl (by simp only [frzVs,qT (.imm (r.map ARow.enc)) rfl,h]) (by simp only [ptrsVs,sI,o.ptrs];rfl) (.inl rfl) K
def aO8:Rate:=⟨[],⟨0,0,0⟩,0⟩
def aV0:List Call:=[⟨0,0,⟨6,[],0,aO8,⟨0,0,0⟩,[],Ref.zero,0⟩⟩,⟨1,1,⟨3,[],0,⟨[115,116,100],⟨2000,1,1⟩,1900⟩,⟨0,0,0⟩,[],Ref.zero,0⟩⟩,⟨1,2,⟨1,[97],2,aO8,⟨0,0,0⟩,[],Ref.zero,0⟩⟩,aDr 3,aDr 4,
 ⟨1,6,⟨1,[98],9,aO8,⟨0,0,0⟩,[],Ref.zero,0⟩⟩,⟨1,7,⟨5,[98],0,aO8,⟨2026,11,15⟩,[],⟨[97],1⟩,0⟩⟩]
def Call.mem (c:Call):List V:=match c.cmd.lines with
 | []=>c.enc.set 13 .nils
 | _=>c.enc
def d15:Date:=⟨2026,11,15⟩
def d16:Date:=⟨2026,11,16⟩
theorem g44 (S:St) (K:KW):C 44 [] S K=K (.bool true) S:=by
 refine (v44 rfl ?_).eq S K
 obtain ⟨s,hs⟩:∃ s,s=(playM State.new aV0).1:=⟨_,rfl⟩
 have r15:bV s d15 d15=([⟨[115,116,100],1900,100,19⟩],0):=by rw [hs];kernel_rfl
 have r16:bV s d16 d16=([],0):=by rw [hs];kernel_rfl
 have h15:=fun S K=>g40 s d15 d15 S K
 have h16:=fun S K=>g40 s d16 d16 S K
 simp only [r15,r16] at h15 h16
 simp only [d15,d16,List.map_nil,List.map_cons] at h15 h16
 have e3:(pH (aDr 3).enc 17&&aI (aDr 3).enc)=true:=rfl
 have e4:(pH (aDr 4).enc 17&&aI (aDr 4).enc)=true:=rfl
 delta Tryz.f44;simp only [↓cw,↓reduceIte,Nat.reduceLT,kk,g31,g46,↓aAt prog C bIt,List.nil_append,List.append_nil,bOk,bCl,e3,e4]
 obtain ⟨S1,hS1⟩:∃ S1:St,S1=⟨1,Tr.nil.put 0 (.row 0 17 (aV0.map Call.mem))⟩:=⟨_,rfl⟩
 obtain ⟨h',_,hC⟩:=(Fn.back fun S K=>g35 State.new aV0 Sml.new (by decide) (by decide) S K).cutE (S:=S1) (args:=[.agg [.imm [],.imm [],.imm [],.imm [],.imm [],.int .i64 1],.sl 0 0 17 0 7]) bJi rfl (by rw [hS1];rfl) (by rfl)
 rw [←hs] at hC
 have key:=hC
 rw [hS1] at key
 refine Eq.mpr (key _) ?_
 have n1:S1.next=1:=by rw [hS1]
 simp only [↓cw,↓reduceIte,Nat.reduceLT,n1,kk]
 obtain ⟨S2,hS2⟩:∃ S2:St,S2=⟨1+1+9,(h'.put 1 (.row 0 6 [[.nils,.nils,.nils,.nils,.nils,.int .i64 0]])).put 1 (.row 0 6 [s.enc])⟩:=⟨_,rfl⟩
 have r1:aA S2 1 0=.ok (6,[s.enc]):=by rw [hS2];exact aC _ _ _ _ _ _
 simp only [State.enc] at hS2 r1
 have g3:tP [⟨⟨[97],1⟩,⟨0,0,0⟩,⟨0,0,0,[]⟩,Ref.zero,false⟩,⟨⟨[98],1⟩,⟨0,0,0⟩,⟨0,0,0,[]⟩,Ref.zero,false⟩,⟨⟨[97],2⟩,⟨0,0,0⟩,⟨0,0,0,[]⟩,Ref.zero,false⟩]=-1:=by kernel_rfl
 have g2:tP [⟨⟨[97],1⟩,⟨0,0,0⟩,⟨0,0,0,[]⟩,Ref.zero,false⟩,⟨⟨[97],3⟩,⟨0,0,0⟩,⟨0,0,0,[]⟩,Ref.zero,false⟩]=1:=by kernel_rfl
 have g1:tP [⟨⟨[97],2⟩,⟨0,0,0⟩,⟨0,0,0,[]⟩,Ref.zero,false⟩]=0:=by kernel_rfl
 have c3:=fun n h K=>a42 ⟨n,h⟩ [⟨⟨[97],1⟩,⟨0,0,0⟩,⟨0,0,0,[]⟩,Ref.zero,false⟩,⟨⟨[98],1⟩,⟨0,0,0⟩,⟨0,0,0,[]⟩,Ref.zero,false⟩,⟨⟨[97],2⟩,⟨0,0,0⟩,⟨0,0,0,[]⟩,Ref.zero,false⟩] (by decide) K
 have c2:=fun n h K=>a42 ⟨n,h⟩ [⟨⟨[97],1⟩,⟨0,0,0⟩,⟨0,0,0,[]⟩,Ref.zero,false⟩,⟨⟨[97],3⟩,⟨0,0,0⟩,⟨0,0,0,[]⟩,Ref.zero,false⟩] (by decide) K
 have c1:=fun n h K=>a42 ⟨n,h⟩ [⟨⟨[97],2⟩,⟨0,0,0⟩,⟨0,0,0,[]⟩,Ref.zero,false⟩] (by decide) K
 have c0:=fun n h K=>bOm ⟨n,h⟩ [⟨[115,116,100],1900,100,19⟩] [⟨[115,116,100],1900,100,19⟩] (by decide) K
 simp only [g3,g2,g1,List.map_cons,List.map_nil,List.length_cons,List.length_nil,Posted.enc,ARow.enc,Nat.zero_add,Nat.reduceAdd] at c3 c2 c1 c0
 simp only [↓cw,↓reduceIte,Nat.reduceLT,←hS2,h15,kk,gm,r1,h16,bOj,bCj,bCk,Posted.enc]
 refine Eq.mpr (c3 _ _ _) ?_
 simp only [↓cw,↓reduceIte,Nat.reduceLT,kk,if_true]
 refine Eq.mpr (c2 _ _ _) ?_
 simp only [↓cw,↓reduceIte,Nat.reduceLT,kk,if_true,aTz]
 refine Eq.mpr (c1 _ _ _) ?_
 simp only [↓cw,↓reduceIte,Nat.reduceLT,kk,if_true,aL6]
 refine Eq.mpr (c0 _ _ _) ?_
 simp only [↓cw,↓reduceIte,Nat.reduceLT,kk,if_true,oo,List.length_nil]
 rfl
end Go.Proofs.YtoaibmbldmckaaaGreat
end
section
namespace Go.AM
theorem bBc {n b:Nat} {S:St} {v:V} {es:List (List V)} (h:Own E0 S n v es) (w:WF S) {c:List V} (hc:c.length=n∧aI c=true) (h1:(es.length+1)*b≤35184372088832) (h2:es.length+1<dW):
  ∃ v' S',dO n b v (.sl S.next 0 n 0 1) none ⟨S.next+1,S.heap.put S.next (.row 0 n [c])⟩=.ok (v',S')∧Own E0 S' n v' (es++[c])∧WF S'∧S.next+1≤S'.next∧(blkOf v'=blkOf v∨blkOf v'=some (S.next+1))∧∀ y,y<S.next→blkOf v≠some y→S'.heap.get y=S.heap.get y:=by
 obtain ⟨v',S',q1,q2,q3,q4⟩:=aNr (b:=b) h w (cs:=[c]) (fun d hd=>by rcases List.mem_singleton.1 hd with rfl;exact hc) (by simp) h1 h2
 have hu:aP ⟨S.next+1,S.heap.put S.next (.row 0 n [c])⟩ (.sl S.next 0 n 0 1)=.ok [c]:=by
  simp only [aP,aC];rfl
 have hk:∀ y,y<S.next→blkOf v≠some y→S'.heap.get y=S.heap.get y:=fun y hy hb=>q4 y hy fun a ver m hv e=>hb (by rw [hv,e];rfl)
 refine ⟨v',S',q1,q2,q3,?_,?_,hk⟩
 ·have q1:dO n b v (.sl S.next 0 n 0 1) none ⟨S.next+1,S.heap.put S.next (.row 0 n [c])⟩=.ok (v',S'):=q1
  unfold dO at q1
  simp only [hu] at q1
  repeat' split at q1
  all_goals first | (cases q1;done) | skip
  ·rename_i hn
   rw [eQ] at hn
   cases hn;cases q1;exact Nat.le_succ _
  ·cases q1;exact Nat.le_refl _
 ·have q1:dO n b v (.sl S.next 0 n 0 1) none ⟨S.next+1,S.heap.put S.next (.row 0 n [c])⟩=.ok (v',S'):=q1
  unfold dO at q1
  simp only [hu] at q1
  repeat' split at q1
  all_goals first | (cases q1;done) | skip
  ·rename_i hn
   rw [eQ] at hn
   cases hn;cases q1;exact .inr rfl
  ·cases q1;exact .inl rfl
end Go.AM
namespace Go.Proofs.YtoaibmbldmckaaaGreat
open Go.AM Tryz
set_option linter.unusedVariables false
set_option linter.unusedSimpArgs false
set_option maxRecDepth 100000
structure Nest (m:Nat) (S:St) (v:V) (l:List Posted):Prop where
 low:∀ y,AM.blkOf v=some y→m≤y
 is:∃ es,Own E0 S 12 v es∧es.length=l.length∧∀ (j:Nat) (p:Posted),l[j]?=some p→∃ u,es[j]?=some (p.cells u)∧Own E0 S 4 u (p.total.parts.map Part.enc)∧∀ y,AM.blkOf u=some y→m≤y∧AM.blkOf v≠some y
theorem Nest.nil (m:Nat) (S:St):Nest m S .nils []:=⟨fun y h=>(by cases h),[],Own.nil _ _ _,rfl,fun j p h=>(by cases h)⟩
theorem Nest.same {m:Nat} {S S':St} {v:V} {l:List Posted} (h:Nest m S v l) (hn:S.next≤S'.next) (hg:∀ y,m≤y→y<S.next→S'.heap.get y=S.heap.get y):Nest m S' v l:=by
 obtain ⟨low,es,o,hl,hes⟩:=h
 refine ⟨low,es,o.same hn fun y hy=>hg y (low y hy) (cN o hy).2,hl,fun j p hj=>?_⟩
 obtain ⟨u,h1,h2,h3⟩:=hes j p hj
 exact ⟨u,h1,h2.same hn fun y hy=>hg y (h3 y hy).1 (cN h2 hy).2,h3⟩
theorem Nest.lt {m:Nat} {S:St} {v:V} {l:List Posted} (h:Nest m S v l) {y:Nat} (hy:AM.blkOf v=some y):m≤y∧y<S.next:=by
 obtain ⟨low,es,o,_⟩:=h
 exact ⟨low y hy,(cN o hy).2⟩
theorem Nest.one {m:Nat} {S:St} {v:V} {l:List Posted} (h:Nest m S v l):v.one=true∧v.cells=[v]:=by
 obtain ⟨low,es,o,_⟩:=h
 exact ⟨o.one,o.cells⟩
theorem Nest.out {m:Nat} {S:St} {v:V} {l:List Posted} (h:Nest m S v l):cU mU (pX (lL S 3) S) v=.ok (.imm (l.map Posted.enc)):=by
 obtain ⟨low,es,o,hl,hes⟩:=h
 have hm:mT (lL S 3) es=.ok (l.map Posted.enc):=aH8 (by rw [List.length_map];exact hl) fun j x hx=>by
  have hjl:j<l.length:=by rw [←hl];exact (List.getElem?_eq_some_iff.1 hx).1
  have hj:l[j]?=some l[j]:=List.getElem?_eq_getElem hjl
  obtain ⟨u,h1,h2,_⟩:=hes j _ hj
  rw [hx] at h1
  cases h1
  refine ⟨l[j].enc,by rw [List.getElem?_map,hj];rfl,?_⟩
  have hf:=h2.frzN (cR (fun _=>rfl) _) 1
  simp only [lL,Posted.cells,frzVs,cU] at hf ⊢
  rw [hf]
  rfl
 rcases o.is with ⟨rfl,rfl⟩ | ⟨a,ver,tl,rfl,_,_,q⟩
 ·cases l with
  | nil=>rfl
  | cons p l=>simp at hl
 ·have he:aP S (.sl a ver 12 0 es.length)=.ok es:=o.sl.elems
  simp only [cU,pX,he,hm]
theorem Nest.push {m:Nat} {S:St} {v:V} {l:List Posted} (h:Nest m S v l) (w:WF S) (p:Posted) {u:V} (hu:Own E0 S 4 u (p.total.parts.map Part.enc)) (hb:∀ y,AM.blkOf u=some y→m≤y∧AM.blkOf v≠some y) (hm:m≤S.next) (hl:l.length≤1000000):
  ∃ v' S',dO 12 128 v (.sl S.next 0 12 0 1) none ⟨S.next+1,S.heap.put S.next (.row 0 12 [p.cells u])⟩=.ok (v',S')∧Nest m S' v' (l++[p])∧WF S'∧S.next+1≤S'.next∧∀ y,y<S.next→AM.blkOf v≠some y→S'.heap.get y=S.heap.get y:=by
 obtain ⟨low,es,o,hel,hes⟩:=h
 obtain ⟨v',S',q1,q2,q3,q4,q5,q6⟩:=bBc (b:=128) o w (c:=p.cells u) ⟨rfl,by simp only [Posted.cells,aWw,bC0,bMl,bMm,bMn,hu.one,Bool.and_self]⟩ (by omega) (by unfold dW;omega)
 have hv':∀ y,AM.blkOf v'=some y→AM.blkOf v=some y∨S.next≤y:=fun y hy=>by
  rcases q5 with e | e
  ·rw [←e];exact .inl hy
  ·rw [e] at hy;cases hy;exact .inr (Nat.le_succ _)
 refine ⟨v',S',q1,⟨fun y hy=>?_,_,q2,by simp [hel],fun j q hj=>?_⟩,q3,q4,q6⟩
 ·rcases hv' y hy with e | e
  ·exact low y e
  ·omega
 ·have keep:∀ {u:V} {x:List (List V)},Own E0 S 4 u x→(∀ y,AM.blkOf u=some y→m≤y∧AM.blkOf v≠some y)→Own E0 S' 4 u x∧∀ y,AM.blkOf u=some y→m≤y∧AM.blkOf v'≠some y:=fun {u x} ou hk=>by
   refine ⟨ou.same (by omega) fun y hy=>q6 y (cN ou hy).2 (hk y hy).2,fun y hy=>⟨(hk y hy).1,fun e=>?_⟩⟩
   rcases hv' y e with e | e
   ·exact (hk y hy).2 e
   ·have:=(cN ou hy).2;omega
  by_cases c:j<l.length
  ·rw [List.getElem?_append_left c] at hj
   obtain ⟨u1,h1,h2,h3⟩:=hes j q hj
   obtain ⟨k1,k2⟩:=keep h2 h3
   exact ⟨u1,by rw [List.getElem?_append_left (by omega)];exact h1,k1,k2⟩
  ·rw [List.getElem?_append_right (by omega)] at hj
   have hj0:j - l.length=0:=by
    have:=(List.getElem?_eq_some_iff.1 hj).1
    simp at this;omega
   rw [hj0] at hj
   cases hj
   obtain ⟨k1,k2⟩:=keep hu hb
   exact ⟨u,by rw [List.getElem?_append_right (by omega),hel,hj0];rfl,k1,k2⟩
end Go.Proofs.YtoaibmbldmckaaaGreat
end
section
namespace Go.AM
theorem bIw (z:List V) (fr:Option Nat) (S:St):bN 4 z 0 [] fr S=(match aY fr S (.row 0 4 []) with
  | .error e=>.error e
  | .ok (a,S')=>.ok (.sl a 0 4 0 0,S')):=by unfold bN;rw [if_pos (by decide)];rfl
theorem aJf {α:Type} {enc:α→List V} {n b:Nat} (hl:∀ x,(enc x).length=n∧aI (enc x)=true) (l:List α) {S:St} {a:Nat} (hg:aA S a 0=.ok (n,[])) (h1:l.length*b≤35184372088832) (h2:l.length<dW) (fr:Option Nat):
  dO n b (.sl a 0 n 0 0) (.imm (l.map enc)) fr S=.ok (.sl a 1 n 0 l.length,⟨S.next,S.heap.put a (.row 1 n (l.map enc))⟩):=by
 have hc:∀ cs,cs∈l.map enc→cs.length=n∧aI cs=true:=fun cs hc=>by obtain ⟨x,_,rfl⟩:=List.mem_map.1 hc;exact hl x
 obtain ⟨a1,a2⟩:=cQ hc
 simp only [dO,aP,a1,a2,and_self,if_true,hg,List.length_map,Nat.zero_add,List.length_nil,Nat.le_refl,h1,h2,List.drop_nil,List.take_nil,List.nil_append]
end Go.AM
namespace Go.Proofs.YtoaibmbldmckaaaGreat
open Go.AM Tryz
set_option linter.unusedVariables false
set_option linter.unusedSimpArgs false
set_option maxRecDepth 100000
structure BndC (s:State):Prop where
 bt:s.table.length≤1048576
 bs:s.ser.length≤1048576
 bp:s.posted.length≤100000
 bb:s.book.length≤1048576
 be:s.sess.length≤1048576
 bq:∀ p∈s.posted,p.total.parts.length≤1048576
theorem Bnd.c {s:State} (b:Bnd s):BndC s:=⟨by have:=b.bt;omega,by have:=b.bs;omega,b.bp,by have:=b.bb;omega,by have:=b.be;omega,fun p hp=>by have:=b.bq p hp;omega⟩
theorem g26 (s:State) (b:BndC s) (S:St) (K:KW):C 26 [.agg [.imm (s.table.map Rate.enc),.imm (s.ser.map Ser.enc),.imm (s.posted.map Posted.enc),.imm (s.book.map Bal.enc),.imm (s.sess.map Sess.enc),.int .i64 s.next]] S K=
  K (.agg [.imm (s.table.map Rate.enc),.imm (s.ser.map Ser.enc),.imm (s.posted.map Posted.enc),.imm (s.book.map Bal.enc),.imm (s.sess.map Sess.enc),.int .i64 s.next]) S:=by
 refine (v26 rfl ?_).eq S K
 have hbt:=b.bt
 have hbs:=b.bs
 have hbp:=b.bp
 have hbb:=b.bb
 have hbe:=b.be
 obtain ⟨A0,hA0⟩:∃ A0:St,A0=⟨2+1,(((Tr.nil.put 0 (.row 0 6 [s.enc])).put 1 (.row 0 6 [zst])).put 2 (.row 0 6 [zst])).put 2 (.row 0 6 [[.nils,.nils,.nils,.nils,.nils,.int .i64 s.next]])⟩:=⟨_,rfl⟩
 have w0:WF A0:=by rw [hA0];exact eH (n:=3) (eH (n:=2) (eH (n:=1) (eH nL (by decide) (by decide)) (by decide) (by decide)) (by decide) (by decide)) (by decide) (by decide)
 have n0:A0.next=3:=by rw [hA0]
 have r0:aA A0 0 0=.ok (6,[s.enc]):=by rw [hA0];rfl
 have r1:aA A0 1 0=.ok (6,[zst]):=by rw [hA0];rfl
 have r2:aA A0 2 0=.ok (6,[[.nils,.nils,.nils,.nils,.nils,.int .i64 s.next]]):=by rw [hA0];rfl
 have cp:∀ {α:Type} {enc:α→List V} {n bb:Nat} (hl:∀ x,(enc x).length=n∧aI (enc x)=true) (l:List α) {A:St} (w:WF A) (_:3≤A.next) (_:l.length*bb≤35184372088832) (_:l.length<dW),∃ v A',dO n bb .nils (.imm (l.map enc)) none A=.ok (v,A')∧WF A'∧Own E0 A' n v (l.map enc)∧(∀ y,AM.blkOf v=some y→A.next≤y)∧Ext A A':=by
  intro α enc n bb hl l A w h3 h1 h2
  obtain ⟨v,A',q1,x,own⟩:=aIy (b:=bb) hl l w h1 h2
  exact ⟨v,A',q1,x.wf w,own.weaken (Nat.zero_le _),fun y hy=>(cN own hy).1,x⟩
 have fw:∀ {A:St} (cs:List V),WF A→3≤A.next→WF ⟨A.next,A.heap.put 2 (.row 0 6 [cs])⟩:=fun cs w h=>eH (n:=_) w (by omega) (Nat.le_refl _)
 have keepO:∀ {A:St} {n:Nat} {v:V} {es:List (List V)} (cs:List V),Own E0 A n v es→(∀ y,AM.blkOf v=some y→3≤y)→Own E0 ⟨A.next,A.heap.put 2 (.row 0 6 [cs])⟩ n v es:=fun cs o g=>o.same (Nat.le_refl _) fun y hy=>Tr.get_put_neB _ _ _ _ trivial (by have:=g y hy;omega)
 obtain ⟨v1,A1,q1,w1,o1,b1,x1⟩:=cp (bb:=48) aU0 s.table w0 (by omega) (by omega) (by unfold dW;omega)
 have m1:=x1.next
 have w1':=fw [v1,.nils,.nils,.nils,.nils,.int .i64 s.next] w1 (by omega)
 obtain ⟨v2,A2,q2,w2,o2,b2,x2⟩:=cp (bb:=40) aPn s.ser w1' (by show 3≤A1.next;omega) (by omega) (by unfold dW;omega)
 have m2:A1.next≤A2.next:=x2.next
 have w2':=fw [v1,v2,.nils,.nils,.nils,.int .i64 s.next] w2 (by omega)
 obtain ⟨v3,A3,q3,w3,o3,b3,x3⟩:=cp (bb:=24) aDe s.book w2' (by show 3≤A2.next;omega) (by omega) (by unfold dW;omega)
 have m3:A2.next≤A3.next:=x3.next
 have w3':=fw [v1,v2,.nils,v3,.nils,.int .i64 s.next] w3 (by omega)
 obtain ⟨v4,A4,q4,w4,o4,b4,x4⟩:=cp (bb:=40) aF5 s.sess w3' (by show 3≤A3.next;omega) (by omega) (by unfold dW;omega)
 have m4:A3.next≤A4.next:=x4.next
 have b2:∀ y,AM.blkOf v2=some y→A1.next≤y:=b2
 have b3:∀ y,AM.blkOf v3=some y→A2.next≤y:=b3
 have b4:∀ y,AM.blkOf v4=some y→A3.next≤y:=b4
 have g1:∀ y,AM.blkOf v1=some y→3≤y:=fun y hy=>by have:=b1 y hy;omega
 have g2:∀ y,AM.blkOf v2=some y→3≤y:=fun y hy=>by have:=b2 y hy;omega
 have g3:∀ y,AM.blkOf v3=some y→3≤y:=fun y hy=>by have:=b3 y hy;omega
 have g4:∀ y,AM.blkOf v4=some y→3≤y:=fun y hy=>by have:=b4 y hy;omega
 have u1:=keepO [v1,v2,.nils,v3,v4,.int .i64 s.next] ((keepO [v1,v2,.nils,v3,.nils,.int .i64 s.next] ((keepO [v1,v2,.nils,.nils,.nils,.int .i64 s.next] ((keepO [v1,.nils,.nils,.nils,.nils,.int .i64 s.next] o1 g1).ext x2) g1).ext x3) g1).ext x4) g1
 have u2:=keepO [v1,v2,.nils,v3,v4,.int .i64 s.next] ((keepO [v1,v2,.nils,v3,.nils,.int .i64 s.next] ((keepO [v1,v2,.nils,.nils,.nils,.int .i64 s.next] o2 g2).ext x3) g2).ext x4) g2
 have u3:=keepO [v1,v2,.nils,v3,v4,.int .i64 s.next] ((keepO [v1,v2,.nils,v3,.nils,.int .i64 s.next] o3 g3).ext x4) g3
 have u4:=keepO [v1,v2,.nils,v3,v4,.int .i64 s.next] o4 g4
 have e1:=o1.one
 have e2:=o2.one
 have e3:=o3.one
 have e4:=o4.one
 have f1:=o1.cells
 have f2:=o2.cells
 have f3:=o3.cells
 have f4:=o4.cells
 have k0:∀ {A A':St} {y:Nat} {n:Nat} {el:List (List V)} (cs:List V),y<2→Ext A A'→aA A y 0=.ok (n,el)→aA ⟨A'.next,A'.heap.put 2 (.row 0 6 [cs])⟩ y 0=.ok (n,el):=fun cs hy x h=>by
  refine aG (x.row h) ?_
  show (_:Tr Blk).get _=_
  exact Tr.get_put_neB _ _ _ _ trivial (by omega)
 have a1:=x1.row r0
 have a2:=x2.row (k0 [v1,.nils,.nils,.nils,.nils,.int .i64 s.next] (by decide) x1 r0)
 have a3:=x3.row (k0 [v1,v2,.nils,.nils,.nils,.int .i64 s.next] (by decide) x2 (k0 [v1,.nils,.nils,.nils,.nils,.int .i64 s.next] (by decide) x1 r0))
 have a4:=k0 [v1,v2,.nils,v3,v4,.int .i64 s.next] (by decide) x4 (k0 [v1,v2,.nils,v3,.nils,.int .i64 s.next] (by decide) x3 (k0 [v1,v2,.nils,.nils,.nils,.int .i64 s.next] (by decide) x2 (k0 [v1,.nils,.nils,.nils,.nils,.int .i64 s.next] (by decide) x1 r0)))
 have c4:=k0 [v1,v2,.nils,v3,v4,.int .i64 s.next] (by decide) x4 (k0 [v1,v2,.nils,v3,.nils,.int .i64 s.next] (by decide) x3 (k0 [v1,v2,.nils,.nils,.nils,.int .i64 s.next] (by decide) x2 (k0 [v1,.nils,.nils,.nils,.nils,.int .i64 s.next] (by decide) x1 r1)))
 have t1:=x1.row r2
 have t2:=x2.row (aC A1.next A1.heap 2 0 6 [[v1,.nils,.nils,.nils,.nils,.int .i64 s.next]])
 have t3:=x3.row (aC A2.next A2.heap 2 0 6 [[v1,v2,.nils,.nils,.nils,.int .i64 s.next]])
 have t4:=x4.row (aC A3.next A3.heap 2 0 6 [[v1,v2,.nils,v3,.nils,.int .i64 s.next]])
 simp only [State.enc] at r0 a1 a2 a3 a4 hA0
 simp only [zst] at hA0 c4 r1
 have ne0:((0:Nat)=2)=False:=by simp
 delta Tryz.f26;simp only [↓cw,↓reduceIte,Nat.reduceLT,kk,gH,←hA0,r0,r2,q1,a1,t1,e1,f1,q2,a2,t2,e2,f2,q3,a3,t3,e3,f3,q4,t4,e4,f4]
 obtain ⟨m,hm⟩:∃ m,m=A4.next:=⟨_,rfl⟩
 have oN:∀ {A A':St} {n:Nat} {v:V} {es:List (List V)},Own E0 A n v es→A.next≤A'.next→(∀ y,AM.blkOf v=some y→y<m)→(∀ y,3≤y→y<m→A'.heap.get y=A.heap.get y)→(∀ y,AM.blkOf v=some y→3≤y)→Own E0 A' n v es:=fun o hn hb hk hg=>o.same hn fun y hy=>hk y (hg y hy) (hb y hy)
 have l1:∀ y,AM.blkOf v1=some y→y<m:=fun y hy=>by have:=(cN u1 hy).2;show y<m;rw [hm];exact this
 have l2:∀ y,AM.blkOf v2=some y→y<m:=fun y hy=>by have:=(cN u2 hy).2;show y<m;rw [hm];exact this
 have l3:∀ y,AM.blkOf v3=some y→y<m:=fun y hy=>by have:=(cN u3 hy).2;show y<m;rw [hm];exact this
 have l4:∀ y,AM.blkOf v4=some y→y<m:=fun y hy=>by have:=(cN u4 hy).2;show y<m;rw [hm];exact this
 refine aF s.posted (step:=fun (_:Unit) (_:Posted)=>(.inr ():Unit⊕Unit)) (fin:=id) (fun i _ vs A=>vs=[.int .i64 (i:Int)]∧WF A∧m≤A.next∧aA A 0 0=.ok (6,[s.enc])∧aA A 1 0=.ok (6,[zst]) ∧
  Own E0 A 5 v1 (s.table.map Rate.enc)∧Own E0 A 4 v2 (s.ser.map Ser.enc)∧Own E0 A 2 v3 (s.book.map Bal.enc)∧Own E0 A 5 v4 (s.sess.map Sess.enc)∧∃ pv,aA A 2 0=.ok (6,[[v1,v2,pv,v3,v4,.int .i64 s.next]])∧Nest m A pv (s.posted.take i)) (fun _=>True) ?_ ?_ (s:=())
  ⟨rfl,fw _ w4 (by omega),by rw [hm];exact Nat.le_refl _,a4,c4,u1,u2,u3,u4,.nils,aC _ _ _ _ _ _,Nest.nil _ _⟩ trivial
 ·rintro i p _ vs A hi ⟨rfl,w,hA,i0,i1,z1,z2,z3,z4,pv,i2,ne⟩ aE H
  have hil:=(List.getElem?_eq_some_iff.1 hi).1
  have hpl:=b.bq p (List.mem_of_getElem? hi)
  obtain ⟨B,hB⟩:∃ B:St,B=⟨A.next+1,(A.heap.put A.next (.row 0 12 [sD])).put A.next (.row 0 12 [p.enc])⟩:=⟨_,rfl⟩
  have wB:WF B:=by rw [hB];exact eH (n:=A.next+1) (eH (n:=A.next) w (by omega) (Nat.le_succ _)) (by omega) (Nat.le_refl _)
  have nB:B.next=A.next+1:=by rw [hB]
  have kB:∀ y,y<A.next→B.heap.get y=A.heap.get y:=fun y hy=>by
   rw [hB]
   show ((A.heap.put A.next _).put A.next _).get y=_
   rw [Tr.get_put_neB _ _ _ _ trivial (by omega),Tr.get_put_neB _ _ _ _ trivial (by omega)]
  have rB:aA B A.next 0=.ok (12,[p.enc]):=by rw [hB];exact aC _ _ _ _ _ _
  obtain ⟨D,hD⟩:∃ D:St,D=⟨B.next+1,B.heap.put B.next (.row 0 4 [])⟩:=⟨_,rfl⟩
  have wD:WF D:=by rw [hD];exact eH (n:=B.next) wB (by omega) (by omega)
  have nD:D.next=A.next+2:=by rw [hD];show B.next+1=_;omega
  have kD:∀ y,y≤A.next→D.heap.get y=B.heap.get y:=fun y hy=>by rw [hD];exact Tr.get_put_neB _ _ _ _ trivial (by omega)
  have gD:aA D B.next 0=.ok (4,[]):=by rw [hD];exact aC _ _ _ _ _ _
  obtain ⟨u,hu⟩:∃ u,u=V.sl B.next 1 4 0 p.total.parts.length:=⟨_,rfl⟩
  have q5:=aJf (b:=40) aF6 p.total.parts gD (by omega) (by unfold dW;omega) none
  obtain ⟨F,hF⟩:∃ F:St,F=⟨D.next,(D.heap.put B.next (.row 1 4 (p.total.parts.map Part.enc))).put A.next (.row 0 12 [p.cells u])⟩:=⟨_,rfl⟩
  have wF:WF F:=by rw [hF];exact eH (n:=D.next) (eH (n:=D.next) wD (by omega) (Nat.le_refl _)) (by omega) (Nat.le_refl _)
  have nF:F.next=A.next+2:=by rw [hF];exact nD
  have kF:∀ y,y<A.next→F.heap.get y=A.heap.get y:=fun y hy=>by
   rw [hF]
   show ((D.heap.put B.next _).put A.next _).get y=_
   rw [Tr.get_put_neB _ _ _ _ trivial (by omega),Tr.get_put_neB _ _ _ _ trivial (by omega),kD y (by omega),kB y hy]
  have gF:F.heap.get B.next=some (.row 1 4 (p.total.parts.map Part.enc)):=by
   rw [hF]
   show ((D.heap.put B.next _).put A.next _).get B.next=_
   rw [Tr.get_put_neB _ _ _ _ trivial (by omega)]
   exact Tr.get_put_sameB _ _ _ trivial
  have hou:Own E0 F 4 u (p.total.parts.map Part.enc):=⟨.inr ⟨B.next,1,[],by rw [hu,List.length_map],Nat.zero_le _,by omega,by rw [List.append_nil];exact gF⟩,fun c hc=>by obtain ⟨x,_,rfl⟩:=List.mem_map.1 hc;exact aF6 x⟩
  have hbu:∀ y,AM.blkOf u=some y→y=B.next:=fun y hy=>by rw [hu] at hy;cases hy;rfl
  have j0:=aG i0 (kF 0 (by omega))
  have j1:=aG i1 (kF 1 (by omega))
  have j2:=aG i2 (kF 2 (by omega))
  have rF:aA F A.next 0=.ok (12,[p.cells u]):=by rw [hF];exact aC _ _ _ _ _ _
  have neF:=ne.same (S':=F) (by omega) fun y _ hy=>kF y hy
  obtain ⟨pv',G,q6,ne',wG,nG,kG⟩:=neF.push wF p hou (fun y hy=>⟨by have:=hbu y hy;omega,fun e=>by have:=hbu y hy;have:=(ne.lt e).2;omega⟩) (by omega) (by rw [List.length_take];omega)
  have hpv:∀ y,AM.blkOf pv=some y→m≤y∧y<A.next:=fun y hy=>ne.lt hy
  have kG':∀ y,y<m→G.heap.get y=A.heap.get y:=fun y hy=>by rw [kG y (by omega) fun e=>by have:=hpv y e;omega,kF y (by omega)]
  have h0:=aG i0 (kG' 0 (by omega))
  have h1:=aG i1 (kG' 1 (by omega))
  have h2:=aG i2 (kG' 2 (by omega))
  have hone:pv'.one=true∧pv'.cells=[pv']:=ne'.one
  have rD0:=aG (aG i0 (kB 0 (by omega))) (kD 0 (by omega))
  have rB0:=aG i0 (kB 0 (by omega))
  have rD2:aA D A.next 0=.ok (12,[p.enc]):=aG rB (kD _ (Nat.le_refl _))
  have hF1:(⟨D.next,D.heap.put B.next (.row 1 4 (p.total.parts.map Part.enc))⟩:St).heap.get A.next=D.heap.get A.next:=Tr.get_put_neB _ _ _ _ trivial (by omega)
  have rE2:=aG rD2 hF1
  simp only [State.enc] at i0 rD0 rB0
  simp only [Posted.enc] at hB rB rD2 rE2
  simp only [sD] at hB
  simp only [Posted.cells,hu] at rF hF
  simp only [Posted.cells,hu] at q6
  simp only [↓cw,↓reduceIte,Nat.reduceLT,kk,aU hi,i0,fX hi,Posted.enc,←hB,bIw,←hD,rD0,q5,rE2,←hF,j2,rF,aTz,q6,h2,hone.1,hone.2,gC (show i<1000000000 by omega),Nat.zero_add]
  have hk2:∀ (y:Nat) (b:Blk),3≤y→y<m→(⟨G.next,G.heap.put 2 b⟩:St).heap.get y=A.heap.get y:=fun y b h3 hy=>by
   show (G.heap.put 2 b).get y=_
   rw [Tr.get_put_neB _ _ _ _ trivial (by omega)];exact kG' y hy
  refine H _ _ ⟨rfl,eH (n:=G.next) wG (by omega) (Nat.le_refl _),by show m≤G.next;omega,aH (n:=G.next) (by decide) h0,aH (n:=G.next) (by decide) h1,oN z1 (by show A.next≤G.next;omega) l1 (fun y h3 hy=>hk2 y _ h3 hy) g1,oN z2 (by show A.next≤G.next;omega) l2 (fun y h3 hy=>hk2 y _ h3 hy) g2,oN z3 (by show A.next≤G.next;omega) l3 (fun y h3 hy=>hk2 y _ h3 hy) g3,oN z4 (by show A.next≤G.next;omega) l4 (fun y h3 hy=>hk2 y _ h3 hy) g4,pv',aC _ _ _ _ _ _,?_⟩
  have ht:s.posted.take (i+1)=s.posted.take i++[p]:=by rw [List.take_add_one,hi];rfl
  rw [ht]
  exact ne'.same (Nat.le_refl _) fun y hy _=>Tr.get_put_neB _ _ _ _ trivial (by omega)
 ·rintro _ vs A ⟨rfl,w,hA,i0,i1,z1,z2,z3,z4,pv,i2,ne⟩ aE H
  rw [List.take_length] at ne
  simp only [zst] at i1
  simp only [State.enc] at i0
  have hone:pv.one=true∧pv.cells=[pv]:=ne.one
  simp only [↓cw,↓reduceIte,Nat.reduceLT,kk,Int.lt_irrefl,if_false,i0,i2,i1,e1,e2,e3,e4,f1,f2,f3,f4,hone.1,hone.2]
  have hk1:∀ (y:Nat) (b:Blk),3≤y→y<m→(⟨A.next,A.heap.put 1 b⟩:St).heap.get y=A.heap.get y:=fun y b h3 hy=>Tr.get_put_neB _ _ _ _ trivial (by omega)
  have y1:=(oN z1 (A':=⟨A.next,A.heap.put 1 (.row 0 6 [[v1,v2,pv,v3,v4,.int .i64 s.next]])⟩) (Nat.le_refl _) l1 (fun y h3 hy=>hk1 y _ h3 hy) g1).out fun _=>rfl
  have y2:=(oN z2 (A':=⟨A.next,A.heap.put 1 (.row 0 6 [[v1,v2,pv,v3,v4,.int .i64 s.next]])⟩) (Nat.le_refl _) l2 (fun y h3 hy=>hk1 y _ h3 hy) g2).out fun _=>rfl
  have y3:=(oN z3 (A':=⟨A.next,A.heap.put 1 (.row 0 6 [[v1,v2,pv,v3,v4,.int .i64 s.next]])⟩) (Nat.le_refl _) l3 (fun y h3 hy=>hk1 y _ h3 hy) g3).out fun _=>rfl
  have y4:=(oN z4 (A':=⟨A.next,A.heap.put 1 (.row 0 6 [[v1,v2,pv,v3,v4,.int .i64 s.next]])⟩) (Nat.le_refl _) l4 (fun y h3 hy=>hk1 y _ h3 hy) g4).out fun _=>rfl
  have y5:=(ne.same (S':=⟨A.next,A.heap.put 1 (.row 0 6 [[v1,v2,pv,v3,v4,.int .i64 s.next]])⟩) (Nat.le_refl _) fun y hy _=>Tr.get_put_neB _ _ _ _ trivial (by omega)).out
  simp only [oo,y1,y2,y3,y4,y5]
end Go.Proofs.YtoaibmbldmckaaaGreat
end
section
namespace Go.Proofs.YtoaibmbldmckaaaGreat
open Go.AM Tryz
theorem bCm (l:List Posted) {k:Nat} (hk:k≤l.length):dY prog 26 (.imm (l.map Posted.enc)) none (some (.int .i64 (k:Int)))=.ok (.imm ((l.take k).map Posted.enc)):=by
 have hb:dM (l.map Posted.enc).length none (some (.int .i64 (k:Int)))=.ok (0,k):=by
  have:(decide ((0:Int)≤(k:Int))&&decide ((k:Int)≤((l.map Posted.enc).length:Int)))=true:=by simp;omega
  simp only [dM,this,cond_true]
  rfl
 rw [bAt _ (cQ (n:=12) (fun c hc=>by obtain ⟨x,_,rfl⟩:=List.mem_map.1 hc;exact zX x)).1,hb]
 simp only [List.drop_zero,Nat.sub_zero,List.map_take]
theorem aQ4 {s:State} (hr:bQ s=true):Bnd s:=by
 obtain ⟨h1,h2,h3,h4,h5,h6,_⟩:=oF hr
 exact ⟨by omega,by omega,by omega,by omega,by omega,fun p hp=>by have:=h6 p hp;omega⟩
def aFp (q p:Posted):Bool:=if (aX q.total).2≠0 then false else if q.of≠Ref.zero then false else if p.day.days<q.day.days then false else
 decide ((aX q.total).1.net=p.total.net)&&(decide ((aX q.total).1.tax=p.total.tax)&&decide ((aX q.total).1.parts=p.total.parts))
def oK (p:Posted):List Posted→Bool
 | []=>false
 | q::l=>if q.ref=p.of then aFp q p else oK p l
def jY (l:List Posted) (r:Ref):Nat:=(l.filter fun q=>decide (q.of=r)).length
def pM (l:List Posted) (i:Nat) (p:Posted):Bool:=
 if 1<jY (l.drop (i+1)) p.ref then false else if p.back≠decide (jY (l.drop (i+1)) p.ref=1) then false else if p.of=Ref.zero then true else if p.back=true then false else oK p (l.take i)
theorem tQ (q:Posted) (l:List Posted) (r:Ref):jY (q::l) r=(if q.of=r then 1 else 0)+jY l r:=by
 unfold jY
 rw [List.filter_cons]
 by_cases c:q.of=r
 ·rw [if_pos (by simpa using c),if_pos c,List.length_cons];omega
 ·rw [if_neg (by simpa using c),if_neg c];omega
theorem aB5 {t:Total} (h:bY t=true):t.gross=(dU [t.net,t.tax]).1:=by
 obtain ⟨_,_,_,_,hs⟩:=(oH t).1 h
 unfold iK at hs
 repeat' split at hs
 all_goals first | cases hs;done | skip
 exact (of_decide_eq_true hs).symm
theorem aV1 {q p:Posted} (h1:bY q.total=true) (h2:bY p.total=true) (hi:∀ x∈q.total.parts,eZ x.net∧eZ x.tax) (d1:q.day.right=true) (d2:p.day.right=true):aFp q p=jT p q:=by
 unfold aFp jT
 have hb:p.day.before q.day=decide (p.day.days<q.day.days):=by unfold Date.before;rw [d1,d2];rfl
 rw [hb]
 by_cases c2:q.of=Ref.zero
 ·by_cases c1:(aX q.total).2=0
  ·rw [if_neg (by simp [c1]),if_neg (by simp [c2]),if_pos c2]
   by_cases c3:p.day.days<q.day.days
   ·rw [if_pos c3,if_neg (by simp [c3])]
   ·rw [if_neg c3,if_pos (by simp [c3]),if_pos c1]
    obtain ⟨b1,_,_⟩:=aDk hi h1 c1
    have e1:=aB5 b1
    have e2:=aB5 h2
    rw [Bool.eq_iff_iff]
    simp only [Bool.and_eq_true,decide_eq_true_eq]
    constructor
    ·rintro ⟨a,b,c⟩
     generalize (aX q.total).1=t at *
     generalize p.total=r at *
     obtain ⟨tn,tx,tg,tp⟩:=t
     obtain ⟨rn,rx,rg,rp⟩:=r
     simp only at a b c e1 e2
     subst a b c
     rw [e1,e2]
    ·intro e;rw [e];exact ⟨rfl,rfl,rfl⟩
  ·rw [if_pos c1,if_pos c2,if_neg c1]
   split<;>rfl
 ·rw [if_neg c2]
  split<;>rfl
theorem aFq {α:Type} (p:α→Bool):∀ (l:List α) (n:Nat),aD (cS p) (fun _=>-1) l (n+1)=if aD (cS p) (fun _=>-1) l n<0 then -1 else aD (cS p) (fun _=>-1) l n+1
 | [],n=>by simp [aD]
 | a::l,n=>by
  cases c:p a with
  | true=>
   simp only [aD,cS,c,if_true]
   rw [if_neg (by omega)];omega
  | false=>
   simp only [aD,cS,c,Bool.false_eq_true,if_false]
   exact aFq p l (n+1)
theorem aV2 {α:Type} (p:α→Bool) (a:α) (l:List α):ixM p (a::l)=if p a=true then 0 else if ixM p l<0 then -1 else ixM p l+1:=by
 unfold ixM
 cases c:p a with
 | true=>simp only [aD,cS,c,if_true];rfl
 | false=>simp only [aD,cS,c,Bool.false_eq_true,if_false];exact aFq p l 0
theorem aFr (p:Posted):∀ l:List Posted,oK p l=true↔0≤bE l p.of∧aFp (l.getD (bE l p.of).toNat aJ5) p=true
 | []=>by
  simp only [oK]
  exact ⟨fun h=>(by cases h),fun h=>by have h1:(0:Int)≤-1:=h.1;omega⟩
 | q::l=>by
  have e:bE (q::l) p.of=if q.ref=p.of then 0 else if bE l p.of<0 then -1 else bE l p.of+1:=by
   have:=aV2 (fun x:Posted=>decide (x.ref=p.of)) q l
   simp only [decide_eq_true_eq] at this
   exact this
  simp only [oK]
  rw [e]
  by_cases c:q.ref=p.of
  ·rw [if_pos c,if_pos c]
   simp
  ·rw [if_neg c,if_neg c,aFr p l]
   by_cases c2:bE l p.of<0
   ·rw [if_pos c2]
    exact ⟨fun h=>absurd h.1 (by omega),fun h=>by have:=h.1;omega⟩
   ·rw [if_neg c2]
    have:(bE l p.of+1).toNat=(bE l p.of).toNat+1:=by omega
    rw [this,List.getD_cons_succ]
    exact ⟨fun h=>⟨by omega,h.2⟩,fun h=>⟨by omega,h.2⟩⟩
theorem xC {l:List Posted} {r:Ref} (h:0≤bE l r):∃ (k:Nat) (q:Posted),bE l r=(k:Int)∧l[k]?=some q∧q.ref=r:=by
 rcases kM (fun p:Posted=>decide (p.ref=r)) l with e | ⟨i,q,e,hi,hp⟩
 ·have:bE l r=-1:=e
  omega
 ·exact ⟨i,q,e,hi,of_decide_eq_true hp⟩
theorem aO9 {ser:List Ser} {l:List Posted} (hn:Nums ser l) {p:Posted} (hp:p∈l):p.ref≠Ref.zero:=fun e=>by
 have:=aO4 hn hp
 rw [e] at this
 have:(1:Int)≤0:=this
 omega
theorem aDs (a b:List Posted) (r:Ref):jY (a++b) r=jY a r+jY b r:=by unfold jY;rw [List.filter_append,List.length_append]
theorem rN {ser:List Ser} {l:List Posted} (hn:Nums ser l) (h40:l.length≤40) (hO:∀ i q,l[i]?=some q→nN (l.take i) q):∀ n,n≤l.length→∀ i p,i<n→l[i]?=some p→(cZ (l.take n)).getD i 0=(jY ((l.take n).drop (i+1)) p.ref:Int)
 | 0,_,i,p,h,_=>absurd h (Nat.not_lt_zero _)
 | n+1,hl,i,p,hi,hp=>by
  have hx:l[n]?=some l[n]:=List.getElem?_eq_getElem (by omega)
  obtain ⟨x,hxe⟩:∃ x,x=l[n]:=⟨_,rfl⟩
  rw [←hxe] at hx
  have ht:l.take (n+1)=l.take n++[x]:=by rw [List.take_add_one,hx];rfl
  have hOn:∀ j q,(l.take n)[j]?=some q→nN ((l.take n).take j) q:=fun j q hq=>by
   have hj:=(List.getElem?_eq_some_iff.1 hq).1
   rw [List.length_take] at hj
   rw [List.getElem?_take,if_pos (by omega)] at hq
   rw [List.take_take,Nat.min_eq_left (by omega)]
   exact hO j q hq
  obtain ⟨r1,r2,r3⟩:=rJ hOn
  have hlen:(l.take n).length=n:=by rw [List.length_take];omega
  have hpos:=aO9 hn (List.mem_of_getElem? hp)
  have hdrop:i<n→(l.take n++[x]).drop (i+1)=(l.take n).drop (i+1)++[x]:=fun h=>by rw [List.drop_append_of_le_length (by omega)]
  rw [ht,oS]
  unfold eI
  by_cases c:x.of=Ref.zero
  ·rw [if_pos c]
   rcases Nat.lt_succ_iff_lt_or_eq.1 hi with h | rfl
   ·rw [rN hn h40 hO n (by omega) i p h hp,hdrop h,aDs,tQ,if_neg (by rw [c];exact fun e=>hpos e.symm)]
    rfl
   ·rw [r2 i (by omega),List.drop_of_length_le (by rw [List.length_append,hlen];exact Nat.le_refl _)];rfl
  ·rw [if_neg c]
   obtain ⟨_,_,o⟩:=hO n x hx
   rcases o with o | ⟨o,_⟩
   ·exact absurd o c
   ·obtain ⟨k,q,e,hk,hq⟩:=xC o
    have hkn:=(List.getElem?_eq_some_iff.1 hk).1
    rw [hlen] at hkn
    have hk':l[k]?=some q:=by rw [List.getElem?_take,if_pos hkn] at hk;exact hk
    rw [e,Int.toNat_natCast]
    unfold bump
    simp only [List.getD_eq_getElem?_getD,List.getElem?_set]
    rcases Nat.lt_succ_iff_lt_or_eq.1 hi with h | rfl
    ·have ih:=rN hn h40 hO n (by omega) i p h hp
     simp only [List.getD_eq_getElem?_getD] at ih
     rw [hdrop h,aDs,tQ]
     by_cases e2:k=i
     ·subst e2
      rw [hp] at hk'
      cases hk'
      rw [if_pos rfl,if_pos (by omega),if_pos hq.symm,Option.getD_some,ih]
      show _+1=((_+(1+0):Nat):Int)
      omega
     ·have hne:¬ x.of=p.ref:=fun e3=>e2 (aDm hn hk' hp (hq.trans e3))
      rw [if_neg e2,if_neg hne,ih]
      rfl
    ·rw [if_neg (by omega),←List.getD_eq_getElem?_getD,r2 i (by omega),List.drop_of_length_le (by rw [List.length_append,hlen];exact Nat.le_refl _)]
     rfl
theorem aJg {ser:List Ser} {l:List Posted} (hn:Nums ser l) (h40:l.length≤40) (hd:∀ p∈l,p.day.right=true∧bY p.total=true) (hi:∀ p∈l,∀ q∈p.total.parts,eZ q.net∧eZ q.tax):
  (∀ i p,l[i]?=some p→pM l i p=true)↔(∀ i p,l[i]?=some p→nN (l.take i) p)∧∀ i p,l[i]?=some p→(cZ l).getD i 0≤1∧p.back=decide ((cZ l).getD i 0=1):=by
 have take_ok:∀ i p,l[i]?=some p→p.of≠Ref.zero→(oK p (l.take i)=true↔0≤bE (l.take i) p.of∧jT p ((l.take i).getD (bE (l.take i) p.of).toNat aJ5)=true):=by
  intro i p hp hof
  rw [aFr]
  by_cases c:0≤bE (l.take i) p.of
  ·obtain ⟨k,q,e,hk,hq⟩:=xC c
   have hqm:q∈l:=List.mem_of_mem_take (List.mem_of_getElem? hk)
   have:(l.take i).getD (bE (l.take i) p.of).toNat aJ5=q:=by rw [e,Int.toNat_natCast,List.getD_eq_getElem?_getD,hk];rfl
   have hpm:=List.mem_of_getElem? hp
   rw [this,aV1 (hd q hqm).2 (hd p hpm).2 (hi q hqm) (hd q hqm).1 (hd p hpm).1]
  ·exact ⟨fun h=>absurd h.1 c,fun h=>absurd h.1 c⟩
 have all:∀ i p,l[i]?=some p→(∀ i q,l[i]?=some q→nN (l.take i) q)→(cZ l).getD i 0=(jY (l.drop (i+1)) p.ref:Int):=by
  intro i p hp hO
  have hlt:=(List.getElem?_eq_some_iff.1 hp).1
  have:=rN hn h40 hO l.length (Nat.le_refl _) i p hlt hp
  rwa [List.take_length] at this
 constructor
 ·intro h
  have hO:∀ i p,l[i]?=some p→nN (l.take i) p:=by
   intro i p hp
   have hpm:=List.mem_of_getElem? hp
   refine ⟨(hd p hpm).1,(hd p hpm).2,?_⟩
   by_cases c:p.of=Ref.zero
   ·exact .inl c
   ·have hc:=h i p hp
    unfold pM at hc
    repeat' split at hc
    all_goals first | (cases hc;done) | skip
    all_goals first | exact absurd (by assumption) c | exact .inr ((take_ok i p hp c).1 hc)
  refine ⟨hO,fun i p hp=>?_⟩
  have hc:=h i p hp
  have e:=all i p hp hO
  unfold pM at hc
  split at hc
  ·cases hc
  ·rename_i h1
   split at hc
   ·cases hc
   ·rename_i h2
    have h2:=Decidable.not_not.1 h2
    rw [e]
    refine ⟨by omega,?_⟩
    rw [h2,Bool.eq_iff_iff]
    simp only [decide_eq_true_eq]
    omega
 ·rintro ⟨hO,hc⟩ i p hp
  have e:=all i p hp hO
  obtain ⟨c1,c2⟩:=hc i p hp
  rw [e] at c1 c2
  unfold pM
  have c2':p.back=decide (jY (l.drop (i+1)) p.ref=1):=by
   rw [c2,Bool.eq_iff_iff]
   simp only [decide_eq_true_eq]
   omega
  rw [if_neg (by omega),if_neg (by rw [←c2'];simp)]
  split
  ·rfl
  ·rename_i hof
   have hback:¬ p.back=true:=by
    intro hb
    rw [hb] at c2'
    have h1:=of_decide_eq_true c2'.symm
    obtain ⟨x,hx⟩:∃ x,x∈(l.drop (i+1)).filter fun q=>decide (q.of=p.ref):=by
     unfold jY at h1
     cases hf:(l.drop (i+1)).filter fun q=>decide (q.of=p.ref) with
     | nil=>rw [hf] at h1;cases h1
     | cons a b=>exact ⟨a,List.mem_cons_self ..⟩
    obtain ⟨hx1,hx2⟩:=List.mem_filter.1 hx
    have hx2:=of_decide_eq_true hx2
    obtain ⟨j,hj⟩:=List.getElem?_of_mem hx1
    rw [List.getElem?_drop] at hj
    obtain ⟨_,_,o⟩:=hO _ x hj
    rcases o with o | ⟨o1,o2⟩
    ·rw [hx2] at o
     exact aO9 hn (List.mem_of_getElem? hp) o
    ·obtain ⟨k,q,e,hk,hq⟩:=xC o1
     have hk':l[k]?=some q:=by
      have:=(List.getElem?_eq_some_iff.1 hk).1
      rw [List.length_take] at this
      rw [List.getElem?_take,if_pos (by omega)] at hk;exact hk
     have:k=i:=aDm hn hk' hp (hq.trans hx2)
     subst this
     rw [hp] at hk'
     cases hk'
     rw [e,Int.toNat_natCast,List.getD_eq_getElem?_getD,hk] at o2
     unfold jT at o2
     split at o2
     ·rename_i hz;exact hof hz
     ·cases o2
   rw [if_neg hback]
   rcases (hO i p hp).2.2 with o | o
   ·exact absurd o hof
   ·exact (take_ok i p hp hof).2 o
structure RD where
 done:List Posted
 taken:List Int
 book:List Bal
def rV (s:State) (st:RD) (p:Posted):Bool⊕RD:=
 if dD s.ser p.ref.ser<0 then .inl false else if p.ref.num≠wr .i64 (st.taken.getD (dD s.ser p.ref.ser).toNat 0+1) then .inl false else
  if p.day.right=false then .inl false else if bY p.total=false then .inl false else if pM s.posted st.done.length p=false then .inl false else
   if (cD p.total).2≠0 then .inl false else if (bI st.book (cD p.total).1).2≠0 then .inl false else
    .inr ⟨st.done++[p],st.taken.set (dD s.ser p.ref.ser).toNat (wr .i64 (st.taken.getD (dD s.ser p.ref.ser).toNat 0+1)),(bI st.book (cD p.total).1).1⟩
def fQ (is:List Int) (x:Ser):Bool⊕List Int:=if is.headD 0=wr .i64 (x.next - 1) then .inr is.tail else .inl false
def aJh (s:State) (st:RD):Bool:=aD fQ (fun _=>true) s.ser st.taken&&decide (st.book=s.book)
def aDt (s:State):Bool:=
 if eD s.table=false then false else if kO s.ser=false then false else if eT s.sess=false then false else if 40<s.posted.length then false else
  if s.next<1 then false else if 1099511627776<s.next then false else if rC s.sess s.next=false then false else
   aD (rV s) (aJh s) s.posted ⟨[],List.replicate s.ser.length 0,[]⟩
def eU (ser:List Ser) (l:List Posted):List Int:=ser.map (fun x=>mP l x.name)
theorem aJi {ser:List Ser} (hs:ser.Pairwise (fun a b=>fG a.name b.name=true)) {l:List Posted} {p:Posted} {i:Nat} {x:Ser} (h:ser[i]?=some x) (hn:x.name=p.ref.ser):(eU ser l).set i (mP l p.ref.ser+1)=eU ser (l++[p]):=by
 apply List.ext_getElem?
 intro j
 unfold eU
 rw [List.getElem?_set]
 by_cases e:i=j
 ·subst e
  rw [if_pos rfl,if_pos (by rw [List.length_map];exact (List.getElem?_eq_some_iff.1 h).1),List.getElem?_map,h,Option.map_some,fA,mJ,if_pos hn.symm,hn]
 ·rw [if_neg e,List.getElem?_map,List.getElem?_map]
  cases hj:ser[j]? with
  | none=>rfl
  | some y=>
   have hne:¬ p.ref.ser=y.name:=by
    rw [←hn]
    intro e'
    have h1:=pI hs h
    have h2:=pI hs hj
    rw [e'] at h1
    omega
   rw [Option.map_some,Option.map_some,fA,mJ,if_neg hne,Int.add_zero]
theorem aV3:∀ (ser:List Ser) (is:List Int),aD fQ (fun _=>true) ser is=true↔∀ i x,ser[i]?=some x→is.getD i 0=wr .i64 (x.next - 1)
 | [],is=>by simp [aD]
 | s::l,is=>by
  have hh:is.headD 0=is.getD 0 0:=by cases is<;>rfl
  have ht:∀ j,is.tail.getD j 0=is.getD (j+1) 0:=fun j=>by cases is<;>simp
  by_cases c:is.getD 0 0=wr .i64 (s.next - 1)
  ·have e:fQ is s=.inr is.tail:=by unfold fQ;rw [hh,if_pos c]
   simp only [aD,e]
   rw [aV3 l is.tail]
   constructor
   ·intro h i x hx
    cases i with
    | zero=>cases hx;exact c
    | succ i=>have:=h i x hx;rwa [ht] at this
   ·intro h i x hx
    have:=h (i+1) x hx
    rwa [ht]
  ·have e:fQ is s=.inl false:=by unfold fQ;rw [hh,if_neg c]
   simp only [aD,e]
   constructor
   ·intro h;cases h
   ·intro h;exact absurd (h 0 s rfl) c
def aXh (s:State) (done:List Posted) (i:Nat) (p:Posted):Prop:=(∃ x∈s.ser,x.name=p.ref.ser)∧p.ref.num=mP done p.ref.ser+1∧p.day.right=true∧bY p.total=true∧pM s.posted i p=true
theorem rL {s:State} (hs:s.ser.Pairwise (fun a b=>fG a.name b.name=true)) (h40:s.posted.length≤40):∀ (l done:List Posted) (book:List Bal),s.posted=done++l→
  (aD (rV s) (aJh s) l ⟨done,eU s.ser done,book⟩=true↔(∀ i p,l[i]?=some p→aXh s (done++l.take i) (done.length+i) p)∧(∀ x∈s.ser,mP s.posted x.name=wr .i64 (x.next - 1))∧aD bL (fun b=>(b,0)) l book=(s.book,0))
 | [],done,book,e=>by
  rw [List.append_nil] at e
  subst e
  simp only [aD,aJh,Bool.and_eq_true,decide_eq_true_eq,aV3]
  constructor
  ·rintro ⟨h1,h2⟩
   refine ⟨fun i p h=>(by cases h),fun x hx=>?_,by rw [h2]⟩
   obtain ⟨i,hi⟩:=List.getElem?_of_mem hx
   have:=h1 i x hi
   unfold eU at this
   rw [List.getD_eq_getElem?_getD,List.getElem?_map,hi] at this
   exact this
  ·rintro ⟨_,h1,h2⟩
   refine ⟨fun i x hi=>?_,congrArg Prod.fst h2⟩
   unfold eU
   rw [List.getD_eq_getElem?_getD,List.getElem?_map,hi]
   exact h1 x (List.mem_of_getElem? hi)
 | p::l,done,book,e=>by
  have hlen:done.length<40:=by have:=congrArg List.length e;simp at this;omega
  have hc:=aC6 done p.ref.ser
  have h0:=kR done p.ref.ser
  have e':s.posted=(done++[p])++l:=by rw [e,List.append_assoc];rfl
  by_cases k0:dD s.ser p.ref.ser<0
  ·have e1:rV s ⟨done,eU s.ser done,book⟩ p=.inl false:=by unfold rV;rw [if_pos k0]
   simp only [aD,e1]
   refine ⟨fun h=>(by cases h),fun h=>?_⟩
   obtain ⟨⟨x,hx,hn⟩,_⟩:=h.1 0 p rfl
   exact absurd hn (wT k0 x hx)
  ·rcases kM (fun x:Ser=>x.name == p.ref.ser) s.ser with e1 | ⟨i,x,e1,hi,hx⟩
   ·exact absurd (show dD s.ser p.ref.ser<0 by unfold dD;rw [e1];decide) k0
   ·have e1:dD s.ser p.ref.ser=(i:Int):=e1
    have hx:x.name=p.ref.ser:=by simpa using hx
    have hget:(eU s.ser done).getD i 0=mP done p.ref.ser:=by
     unfold eU
     rw [List.getD_eq_getElem?_getD,List.getElem?_map,hi,Option.map_some,hx];rfl
    have hw:wr .i64 (mP done p.ref.ser+1)=mP done p.ref.ser+1:=eE ⟨by omega,by omega⟩
    have hstep:rV s ⟨done,eU s.ser done,book⟩ p=if p.ref.num≠mP done p.ref.ser+1 then .inl false else
      if p.day.right=false then .inl false else if bY p.total=false then .inl false else if pM s.posted done.length p=false then .inl false else
      if (cD p.total).2≠0 then .inl false else if (bI book (cD p.total).1).2≠0 then .inl false else .inr ⟨done++[p],eU s.ser (done++[p]),(bI book (cD p.total).1).1⟩:=by
     unfold rV
     rw [if_neg k0]
     simp only [e1,Int.toNat_natCast,hget,hw,aJi hs hi hx]
    have bad:∀ b:Bool⊕RD,b=.inl false→rV s ⟨done,eU s.ser done,book⟩ p=b→¬ (aXh s done done.length p∧(cD p.total).2=0∧(bI book (cD p.total).1).2=0)→(aD (rV s) (aJh s) (p::l) ⟨done,eU s.ser done,book⟩=true↔(∀ i q,(p::l)[i]?=some q→aXh s (done++(p::l).take i) (done.length+i) q)∧(∀ x∈s.ser,mP s.posted x.name=wr .i64 (x.next - 1))∧aD bL (fun b=>(b,0)) (p::l) book=(s.book,0)):=by
     intro b hb h1 h2
     subst hb
     simp only [aD,h1]
     refine ⟨fun h=>(by cases h),fun h=>?_⟩
     exfalso
     have g:=h.1 0 p rfl
     rw [List.take_zero,List.append_nil,Nat.add_zero] at g
     refine h2 ⟨g,?_⟩
     have hb:=h.2.2
     simp only [bL] at hb
     by_cases c:(cD p.total).2=0
     ·refine ⟨c,?_⟩
      by_cases c2:(bI book (cD p.total).1).2=0
      ·exact c2
      ·rw [if_neg (by simp [c]),if_pos c2] at hb
       exact absurd (congrArg Prod.snd hb) c2
     ·rw [if_pos c] at hb
      exact absurd (congrArg Prod.snd hb) c
    by_cases c1:p.ref.num=mP done p.ref.ser+1
    rotate_left
    ·exact bad _ rfl (by rw [hstep,if_pos c1]) fun h=>c1 h.1.2.1
    by_cases c2:p.day.right=true
    rotate_left
    ·exact bad _ rfl (by rw [hstep,if_neg (by simp [c1]),if_pos (by simpa using c2)]) fun h=>c2 h.1.2.2.1
    by_cases c3:bY p.total=true
    rotate_left
    ·exact bad _ rfl (by rw [hstep,if_neg (by simp [c1]),if_neg (by simp [c2]),if_pos (by simpa using c3)]) fun h=>c3 h.1.2.2.2.1
    by_cases c4:pM s.posted done.length p=true
    rotate_left
    ·exact bad _ rfl (by rw [hstep,if_neg (by simp [c1]),if_neg (by simp [c2]),if_neg (by simp [c3]),if_pos (by simpa using c4)]) fun h=>c4 h.1.2.2.2.2
    by_cases c5:(cD p.total).2=0
    rotate_left
    ·exact bad _ rfl (by rw [hstep,if_neg (by simp [c1]),if_neg (by simp [c2]),if_neg (by simp [c3]),if_neg (by simp [c4]),if_pos c5]) fun h=>c5 h.2.1
    by_cases c6:(bI book (cD p.total).1).2=0
    rotate_left
    ·exact bad _ rfl (by rw [hstep,if_neg (by simp [c1]),if_neg (by simp [c2]),if_neg (by simp [c3]),if_neg (by simp [c4]),if_neg (by simp [c5]),if_pos c6]) fun h=>c6 h.2.2
    have hgood:rV s ⟨done,eU s.ser done,book⟩ p=.inr ⟨done++[p],eU s.ser (done++[p]),(bI book (cD p.total).1).1⟩:=by
     rw [hstep,if_neg (by simp [c1]),if_neg (by simp [c2]),if_neg (by simp [c3]),if_neg (by simp [c4]),if_neg (by simp [c5]),if_neg (by simp [c6])]
    have hbk:bL book p=.inr (bI book (cD p.total).1).1:=by unfold bL;rw [if_neg (by simp [c5]),if_neg (by simp [c6])]
    have one:aXh s done done.length p:=⟨⟨x,List.mem_of_getElem? hi,hx⟩,c1,c2,c3,c4⟩
    simp only [aD,hgood,hbk]
    rw [rL hs h40 l (done++[p]) _ e']
    constructor
    ·rintro ⟨h1,h2⟩
     refine ⟨fun i q hq=>?_,h2⟩
     cases i with
     | zero=>cases hq;rw [List.take_zero,List.append_nil];exact one
     | succ i=>
      have:=h1 i q hq
      rw [List.append_assoc,List.length_append] at this
      rw [List.take_succ_cons]
      have e2:done.length+(i+1)=done.length+[p].length+i:=by simp;omega
      rw [e2];exact this
    ·rintro ⟨h1,h2⟩
     refine ⟨fun i q hq=>?_,h2⟩
     have:=h1 (i+1) q hq
     rw [List.take_succ_cons] at this
     rw [List.append_assoc,List.length_append]
     have e2:done.length+(i+1)=done.length+[p].length+i:=by simp;omega
     rw [←e2];exact this
theorem aQ5 {s:State} (hi:yX s) (hn:∀ x∈s.ser,eZ x.next):aDt s=bQ s:=by
 rw [Bool.eq_iff_iff,cG]
 unfold aDt
 by_cases c1:eD s.table=true
 rotate_left
 ·rw [if_pos (by simpa using c1)];exact ⟨fun h=>(by cases h),fun h=>absurd h.1 c1⟩
 rw [if_neg (by simp [c1])]
 by_cases c2:kO s.ser=true
 rotate_left
 ·rw [if_pos (by simpa using c2)];exact ⟨fun h=>(by cases h),fun h=>absurd h.2.1 c2⟩
 rw [if_neg (by simp [c2])]
 have hs:=((fO _).1 c2).2.2
 have hsl:=((fO _).1 c2).1
 have hsb:=((fO _).1 c2).2.1
 have hso:iE s=true↔oU s.sess s.next:=vG s
 unfold iE at hso
 by_cases c3:eT s.sess=true
 rotate_left
 ·rw [if_pos (by simpa using c3)]
  rw [if_neg c3] at hso
  exact ⟨fun h=>(by cases h),fun h=>by have:=hso.2 h.2.2.1;cases this⟩
 rw [if_neg (by simp [c3])]
 rw [if_pos c3] at hso
 by_cases c4:s.posted.length≤40
 rotate_left
 ·rw [if_pos (by omega)]
  exact ⟨fun h=>(by cases h),fun h=>absurd ((hJ _).1 h.2.2.2.1).1 c4⟩
 rw [if_neg (by omega)]
 by_cases c5:1≤s.next
 rotate_left
 ·rw [if_pos (by omega)];rw [if_neg c5] at hso
  exact ⟨fun h=>(by cases h),fun h=>by have:=hso.2 h.2.2.1;cases this⟩
 rw [if_neg (by omega)]
 rw [if_pos c5] at hso
 by_cases c6:s.next≤1099511627776
 rotate_left
 ·rw [if_pos (by omega)];rw [if_neg c6] at hso
  exact ⟨fun h=>(by cases h),fun h=>by have:=hso.2 h.2.2.1;cases this⟩
 rw [if_neg (by omega)]
 rw [if_pos c6] at hso
 by_cases c7:rC s.sess s.next=true
 rotate_left
 ·rw [if_pos (by simpa using c7)]
  exact ⟨fun h=>(by cases h),fun h=>absurd (hso.2 h.2.2.1) c7⟩
 rw [if_neg (by simp [c7])]
 have ht:List.replicate s.ser.length (0:Int)=eU s.ser []:=by
  unfold eU
  apply List.ext_getElem?
  intro j
  rw [List.getElem?_replicate,List.getElem?_map]
  split
  ·rename_i h;rw [List.getElem?_eq_getElem h];rfl
  ·rename_i h;rw [List.getElem?_eq_none (by omega)];rfl
 rw [ht,rL hs c4 s.posted [] [] rfl]
 have hnx:(∀ x∈s.ser,mP s.posted x.name=wr .i64 (x.next - 1))↔∀ x∈s.ser,x.next=mP s.posted x.name+1:=by
  constructor
  ·intro h x hx
   have:=h x hx
   obtain ⟨_,b⟩:=hsb x hx
   unfold lQ at b
   simp only [Bool.or_eq_false_iff,decide_eq_false_iff_not] at b
   have:=hn x hx
   rw [eE ⟨by have:=this.1;omega,by have:=this.2;omega⟩] at *
   omega
  ·intro h x hx
   have e:=h x hx
   have h1:=aC6 s.posted x.name
   have h2:=kR s.posted x.name
   rw [eE ⟨by omega,by omega⟩];omega
 rw [hnx]
 simp only [List.nil_append,List.length_nil,Nat.zero_add]
 constructor
 ·rintro ⟨h1,h2,h3⟩
  have hnum:Nums s.ser s.posted:=⟨fun i p hp=>⟨(h1 i p hp).1,(h1 i p hp).2.1⟩,h2⟩
  have hd:∀ p∈s.posted,p.day.right=true∧bY p.total=true:=fun p hp=>by
   obtain ⟨i,hi'⟩:=List.getElem?_of_mem hp
   exact ⟨(h1 i p hi').2.2.1,(h1 i p hi').2.2.2.1⟩
  have hc:=(aJg hnum c4 hd hi).1 fun i p hp=>(h1 i p hp).2.2.2.2
  exact ⟨c1,c2,hso.1 c7,(hJ _).2 ⟨c4,hc⟩,hnum,h3⟩
 ·rintro ⟨_,_,_,h4,h5,h6⟩
  obtain ⟨_,hO,hb⟩:=(hJ _).1 h4
  have hd:∀ p∈s.posted,p.day.right=true∧bY p.total=true:=fun p hp=>by
   obtain ⟨i,hi'⟩:=List.getElem?_of_mem hp
   exact ⟨(hO i p hi').1,(hO i p hi').2.1⟩
  have hc:=(aJg h5 c4 hd hi).2 ⟨hO,hb⟩
  refine ⟨fun i p hp=>⟨(h5.num i p hp).1,(h5.num i p hp).2,(hO i p hp).1,(hO i p hp).2.1,hc i p hp⟩,fun x hx=>?_,h6⟩
  exact h5.next x hx
def aC7 (a b:Rate):Bool:=if a.cat=b.cat then decide (a.day.days<b.day.days) else fG a.cat b.cat
theorem aLn {a b:Rate} (ha:a.day.right=true) (hb:b.day.right=true):aC7 a b=eL a b:=by
 unfold aC7 eL Date.before
 by_cases c:a.cat=b.cat
 ·rw [if_pos c,c,wK,if_neg (by simp),if_pos (by simp),ha,hb];rfl
 ·rw [if_neg c]
  cases fG a.cat b.cat<;>simp [c]
theorem bOn (a b:Rate) (S:St) (K:KW):C 194 [.agg [.str a.cat,.int .i64 a.day.y,.int .i64 a.day.m,.int .i64 a.day.d,.int .i64 a.bp],.agg [.str b.cat,.int .i64 b.day.y,.int .i64 b.day.m,.int .i64 b.day.d,.int .i64 b.bp]] S K=K (.bool (aC7 a b)) S:=by
 refine (bKv rfl ?_).eq S K
 delta Tryz.f194;simp only [↓cw,↓reduceIte,Nat.reduceLT,kk,gH,gm,bC7,aC7]
 by_cases c:a.cat=b.cat
 ·simp only [↓cw,↓reduceIte,Nat.reduceLT,c,BEq.rfl,kk,if_true,if_false,oo]
 ·have c':¬ (a.cat == b.cat)=true:=by simpa using c
  simp only [↓cw,↓reduceIte,Nat.reduceLT,c,c',kk,if_true,if_false,oo]
theorem bOo (l:List Rate) (S:St) (K:KW):C 114 [.imm (l.map Rate.enc)] S K=K (.bool (eD l)) S:=by
 refine (bJq rfl ?_).eq S K
 delta Tryz.f114;simp only [↓cw,↓reduceIte,Nat.reduceLT,kk,eD]
 by_cases h:24<l.length
 ·simp only [↓cw,↓reduceIte,Nat.reduceLT,h,show (24:Int)<(l.length:Int) by omega,kk,if_true,oo]
 have h':¬ (24:Int)<(l.length:Int):=by omega
 simp only [↓cw,↓reduceIte,Nat.reduceLT,h,h',kk,if_false]
 refine aF l (step:=fL) (fin:=fun _=>true) (fun i s vs S=>s=bW l i∧vs=[.bool false,.int .i64 (i:Int)]∧∀ p,s=some p→p.day.right=true) (fun r=>r=aD fL (fun _=>true) l none) ?_ ?_ ⟨rfl,rfl,fun p h=>(by cases h)⟩ rfl
 ·rintro i r s vs S hi ⟨rfl,rfl,hr⟩ aE H
  have hil:=(List.getElem?_eq_some_iff.1 hi).1
  have hn:bW l (i+1)=some r:=by simpa [bW] using hi
  simp only [hn] at H
  simp only [↓cw,↓reduceIte,Nat.reduceLT,kk,aU hi,tK hi,Rate.enc,bN3,gC (show i<1000000000 by omega),fL] at H ⊢
  by_cases c:sB r=0
  ·have hrr:=(aC5 c).2.1
   simp only [↓cw,↓reduceIte,Nat.reduceLT,c,kk,ne_eq,not_true_eq_false,if_false] at H ⊢
   cases i with
   | zero=>
    simp only [↓cw,↓reduceIte,Nat.reduceLT,bW,if_true,Int.natCast_zero,Int.lt_irrefl,kk,if_false] at H ⊢
    exact H _ _ ⟨rfl,fun p h=>by cases h;exact hrr⟩
   | succ j=>
    have hj:l[j]?=some l[j]:=List.getElem?_eq_getElem (by omega)
    have hp:bW l (j+1)=some l[j]:=by simp [bW,hj]
    have hb:=aLn (hr _ hp) hrr
    simp only [↓cw,↓reduceIte,Nat.reduceLT,hp,gt0,kk,wrm (show j+1<1000000000 by omega),tK hj,Rate.enc,bOn,hb,if_true] at H ⊢
    cases ha:eL l[j] r<;>simp only [↓cw,↓reduceIte,Nat.reduceLT,ha,kk,Bool.not_false,Bool.not_true,if_true,if_false,Bool.false_eq_true,oo] at H ⊢
    ·rw [←H]
    ·exact H _ _ ⟨rfl,fun p h=>by cases h;exact hrr⟩
  ·simp only [↓cw,↓reduceIte,Nat.reduceLT,c,ne_eq,not_false_eq_true,if_true,kk,oo] at H ⊢
   rw [←H]
 ·rintro s vs S ⟨rfl,rfl,hr⟩ aE H
  have H:true=_:=H
  simp only [↓cw,↓reduceIte,Nat.reduceLT,kk,Int.lt_irrefl,if_false,oo,←H]
theorem bOp (l:List Ser) (S:St) (K:KW):C 115 [.imm (l.map Ser.enc)] S K=K (.bool (kO l)) S:=by
 refine (bJr rfl ?_).eq S K
 delta Tryz.f115;simp only [↓cw,↓reduceIte,Nat.reduceLT,kk,kO]
 by_cases h:8<l.length
 ·simp only [↓cw,↓reduceIte,Nat.reduceLT,h,show (8:Int)<(l.length:Int) by omega,kk,if_true,oo]
 have h':¬ (8:Int)<(l.length:Int):=by omega
 simp only [↓cw,↓reduceIte,Nat.reduceLT,h,h',kk,if_false]
 refine aF l (step:=jQ) (fin:=fun _=>true) (fun i s vs S=>s=bW l i∧vs=[.bool false,.int .i64 (i:Int)]) (fun r=>V.bool r=.bool (aD jQ (fun _=>true) l none)) ?_ ?_ ⟨rfl,rfl⟩ rfl
 ·rintro i r s vs S hi ⟨rfl,rfl⟩ aE H
  have hil:=(List.getElem?_eq_some_iff.1 hi).1
  have hn:bW l (i+1)=some r:=by simpa [bW] using hi
  simp only [hn,jQ] at H
  simp only [↓cw,↓reduceIte,Nat.reduceLT,kk,aU hi,oG hi,Ser.enc,bC6,gm,gC (show i<1000000000 by omega),oo]
  cases hna:dF r.name
  ·simp [hna] at H ⊢;exact H
  ·simp only [↓cw,↓reduceIte,Nat.reduceLT,hna,kk,Bool.true_eq_false,if_false] at H ⊢
   cases i with
   | zero=>
    simp only [↓cw,↓reduceIte,Nat.reduceLT,bW,lH,kk,Bool.false_eq_true,if_false,if_true,lQ,Bool.or_eq_true,decide_eq_true_eq] at H ⊢
    simp only [↓cw,↓reduceIte,Nat.reduceLT,Int.natCast_zero,Int.lt_irrefl,kk,if_false]
    grind
   | succ j=>
    have hj:l[j]?=some l[j]:=List.getElem?_eq_getElem (by omega)
    have hp:bW l (j+1)=some l[j]:=by simp [bW,hj]
    simp only [↓cw,↓reduceIte,Nat.reduceLT,hp,gt0,kk,wrm (show j+1<1000000000 by omega),oG hj,Ser.enc,lH,lQ,Bool.or_eq_true,decide_eq_true_eq] at H ⊢
    grind
 ·rintro s vs S ⟨rfl,rfl⟩ aE H
  simp only [↓cw,↓reduceIte,Nat.reduceLT,kk,Int.lt_irrefl]
  exact H
theorem bOq (l:List Sess) (S:St) (K:KW):C 116 [.imm (l.map Sess.enc)] S K=K (.bool (eT l)) S:=by
 refine (bJs rfl ?_).eq S K
 delta Tryz.f116;simp only [↓cw,↓reduceIte,Nat.reduceLT,kk,eT]
 by_cases h:8<l.length
 ·simp only [↓cw,↓reduceIte,Nat.reduceLT,h,show (8:Int)<(l.length:Int) by omega,kk,if_true,oo]
 have h':¬ (8:Int)<(l.length:Int):=by omega
 simp only [↓cw,↓reduceIte,Nat.reduceLT,h,h',kk,if_false]
 refine aF l (step:=eS) (fin:=fun _=>true) (fun i s vs S=>vs=[.bool false,.int .i64 (i:Int)]∧0≤s∧(i=0→s=0)∧∀ p,0<i→l[i - 1]?=some p→s=p.id) (fun r=>V.bool r=.bool (aD eS (fun _=>true) l 0)) ?_ ?_ ⟨rfl,Int.le_refl _,fun _=>rfl,fun p h=>absurd h (Nat.lt_irrefl _)⟩ rfl
 ·rintro i s last vs S hi ⟨rfl,h0,h1,h2⟩ aE H
  have hil:=(List.getElem?_eq_some_iff.1 hi).1
  have hn:((s.reply=Rep.zero):Prop)=((s.reply.why=0∧s.reply.number=0)∧s.reply.gross=0):=by
   obtain ⟨_,_,⟨_,_,_⟩⟩:=s;simp [Rep.zero,and_assoc]
  have hnext:∀ (S':St),last<s.id→([V.bool false,V.int .i64 ((i+1:Nat):Int)]=[V.bool false,.int .i64 ((i+1:Nat):Int)]∧0≤s.id∧(i+1=0→s.id=0)∧∀ p,0<i+1→l[i+1 - 1]?=some p→s.id=p.id):=fun S' hl=>⟨rfl,by omega,fun e=>(by omega),fun p _ hp=>by rw [Nat.add_sub_cancel,hi] at hp;cases hp;rfl⟩
  have hst:eS last s=if s.id<1 then .inl false else if s.last<0 then .inl false else if 1099511627776<s.last then .inl false else if s.id≤last then .inl false else if s.last=0∧¬ ((s.reply.why=0∧s.reply.number=0)∧s.reply.gross=0) then .inl false else .inr s.id:=by
   unfold eS
   simp only [ne_eq,hn]
   grind
  rw [hst] at H
  simp only [↓cw,↓reduceIte,Nat.reduceLT,kk,aU hi,oQ hi,Sess.enc,gC (show i<1000000000 by omega),gm,if_true,oo]
  by_cases a1:s.id<1
  ·simp only [a1,if_true] at H ⊢;exact H
  by_cases a2:s.last<0
  ·simp only [a1,a2,if_true,if_false] at H ⊢;exact H
  by_cases a3:1099511627776<s.last
  ·simp only [a1,a2,a3,if_true,if_false] at H ⊢;exact H
  simp only [a1,a2,a3,if_false] at H ⊢
  have fin:∀ (a4:¬ s.id≤last),(if s.last=0 then (if (!((decide (s.reply.why=0)&&decide (s.reply.number=0))&&decide (s.reply.gross=0)))=true then V.bool false=V.bool (aD eS (fun x=>true) l 0) else aE [V.bool false,V.int .i64 ((i+1:Nat):Int)] ⟨S.next+57,S.heap⟩) else aE [V.bool false,V.int .i64 ((i+1:Nat):Int)] ⟨S.next+57,S.heap⟩):=by
   intro a4
   have hn:=hnext S (by omega)
   simp only [a4,if_false] at H
   by_cases a5:s.last=0
   ·by_cases a6:(s.reply.why=0∧s.reply.number=0)∧s.reply.gross=0
    ·simp only [a5,a6,and_self,not_true_eq_false,and_false,if_true,if_false,decide_true,Bool.and_self,Bool.not_true,Bool.false_eq_true] at H ⊢
     exact H _ _ hn
    ·have a6':(!((decide (s.reply.why=0)&&decide (s.reply.number=0))&&decide (s.reply.gross=0)))=true:=by simp only [Bool.not_eq_true',Bool.and_eq_false_iff,decide_eq_false_iff_not];omega
     simp only [a5,a6,a6',and_self,not_false_eq_true,if_true] at H ⊢
     exact H
   ·simp only [a5,false_and,if_false] at H ⊢
    exact H _ _ hn
  by_cases i0:i=0
  ·simp only [show ¬ (0:Int)<(i:Int) by omega,if_false]
   have:=fin (by have:=h1 i0;omega)
   simpa using this
  ·have hj:l[i - 1]?=some l[i - 1]:=List.getElem?_eq_getElem (by omega)
   have e0:=h2 _ (by omega) hj
   have w:wr .i64 ((i:Int) - 1)=((i - 1:Nat):Int):=by rw [mD (by omega) (by omega)];omega
   simp only [↓cw,↓reduceIte,Nat.reduceLT,show (0:Int)<(i:Int) by omega,if_true,w,oQ hj,Sess.enc,kk,←e0]
   by_cases a4:s.id≤last
   ·simp only [a4,if_true] at H ⊢;exact H
   ·simp only [a4,if_false]
    simpa using fin a4
 ·rintro s vs S ⟨rfl,_⟩ aE H
  simp only [↓cw,↓reduceIte,Nat.reduceLT,kk,Int.lt_irrefl]
  exact H
theorem bIx (l:List Ser) (name:List UInt8) (hb:l.length<1000000) (S:St) (K:KW):C 117 [.imm (l.map Ser.enc),.str name] S K=K (.int .i64 (dD l name)) S:=by
 refine (bJt rfl ?_).eq S K
 delta Tryz.f117;simp only [↓cw,↓reduceIte,Nat.reduceLT,kk]
 refine aF l (step:=cS fun s:Ser=>s.name == name) (fin:=fun _=>-1) (fun i k vs S=>k=i∧vs=[.int .i64 0,.int .i64 (i:Int)]) (fun r=>r=dD l name) ?_ ?_ ⟨rfl,rfl⟩ rfl
 ·rintro i s k vs S hi ⟨rfl,rfl⟩ aE H
  have hil:=(List.getElem?_eq_some_iff.1 hi).1
  simp only [cS] at H
  simp only [↓cw,↓reduceIte,Nat.reduceLT,kk,aU hi,if_true,oG hi,Ser.enc,gC (show k<1000000000 by omega)]
  cases c:s.name == name<;>simp only [↓cw,↓reduceIte,Nat.reduceLT,c,kk,if_true,if_false,Bool.false_eq_true,oo] at H ⊢
  ·exact H _ _ rfl
  ·rw [←H]
 ·rintro k vs S ⟨rfl,rfl⟩ aE H
  have H:(-1:Int)=_:=H
  simp only [↓cw,↓reduceIte,Nat.reduceLT,kk,Int.lt_irrefl,if_false,oo,←H]
theorem bs0 (n:Nat) (z:List V) (fr:Option Nat) (S:St):bN n z 0 [] fr S=(match aY fr S (.row 0 n []) with
  | .error e=>.error e
  | .ok (a,S')=>.ok (.sl a 0 n 0 0,S')):=by unfold bN;rw [if_pos (by omega)];rfl
theorem bIy {α:Type} {enc:α→List V} {n:Nat} (hl:∀ x,(enc x).length=n∧aI (enc x)=true) {l:List α} {S:St} {a ver:Nat} (hg:S.heap.get a=some (.row ver n (l.map enc))) (ha:a<S.next):Own E0 S n (.sl a ver n 0 l.length) (l.map enc):=
 ⟨.inr ⟨a,ver,[],by rw [List.length_map],Nat.zero_le _,ha,by rw [List.append_nil];exact hg⟩,fun c hc=>by obtain ⟨x,_,rfl⟩:=List.mem_map.1 hc;exact hl x⟩
theorem aV4 {α:Type} {enc:α→List V} {n b:Nat} (hl:∀ x,(enc x).length=n∧aI (enc x)=true) (l:List α) (x:α) {S:St} {a k ver:Nat} (hg:aA S a ver=.ok (n,l.map enc)) (hx:aA S k 0=.ok (n,[enc x])) (h1:(l.length+1)*b≤35184372088832) (h2:l.length+1<dW) (fr:Option Nat):
  dO n b (.sl a ver n 0 l.length) (.sl k 0 n 0 1) fr S=.ok (.sl a (ver+1) n 0 (l.length+1),⟨S.next,S.heap.put a (.row (ver+1) n ((l++[x]).map enc))⟩):=by
 have hu:aP S (.sl k 0 n 0 1)=.ok [enc x]:=by simp only [aP,hx];rfl
 have a1:jE n [enc x]=true∧[enc x].all aI=true:=cQ (fun c hc=>by rcases List.mem_singleton.1 hc with rfl;exact hl x)
 simp only [dO,hu,a1,and_self,if_true,hg,List.length_map,Nat.zero_add,Nat.le_refl,List.length_cons,List.length_nil,h1,h2,List.drop_zero,List.map_append,List.map_cons,List.map_nil]
 rw [List.take_of_length_le (by rw [List.length_map];exact Nat.le_refl _)]
theorem bOs (l:List Bal) (hb:l.length<1000000) (S:St) (K:KW):C 199 [.imm (l.map Bal.enc)] S K=K (.bool (vD l)) S:=by
 refine (bL0 rfl ?_).eq S K
 delta Tryz.f199;simp only [↓cw,↓reduceIte,Nat.reduceLT]
 refine aF (l.drop 1) (step:=sY) (fin:=fun _=>true) (fun i s vs S=>s=l[i]?∧vs=[.bool false,.int .i64 ((i+1:Nat):Int)]) (fun r=>r=vD l) ?_ ?_ (s:=l[0]?) ⟨rfl,rfl⟩ rfl
 ·rintro i r s vs S hi ⟨rfl,rfl⟩ aE H
  rw [List.getElem?_drop,Nat.add_comm] at hi
  have hil:=(List.getElem?_eq_some_iff.1 hi).1
  have hj:l[i]?=some l[i]:=List.getElem?_eq_getElem (by omega)
  simp only [hj,sY,hi] at H
  simp only [↓cw,↓reduceIte,Nat.reduceLT,kk,aU hi,if_true,lV hi,lV hj,Bal.enc,wrm (show i+1<1000000000 by omega),gC (show i+1<1000000000 by omega),gm]
  cases c:fG l[i].acc r.acc<;>simp only [↓cw,↓reduceIte,Nat.reduceLT,c,kk,Bool.not_false,Bool.not_true,if_true,if_false,Bool.false_eq_true,oo] at H ⊢
  ·rw [←H]
  ·exact H _ _ rfl
 ·rintro s vs S ⟨rfl,rfl⟩ aE H
  have H:true=vD l:=H
  have hn:¬ (((l.drop 1).length+1:Nat):Int)<(l.length:Int):=by rw [List.length_drop];omega
  simp only [↓cw,↓reduceIte,Nat.reduceLT,kk,hn,if_false,oo,←H]
theorem aQ6 {l:List Ser} {name:List UInt8} (h:¬ dD l name<0):∃ (i:Nat) (s:Ser),dD l name=(i:Int)∧l[i]?=some s:=by
 rcases kM (fun x:Ser=>x.name == name) l with e | ⟨i,a,e,hi,_⟩
 ·exact absurd (show dD l name<0 by unfold dD;rw [e];decide) h
 ·exact ⟨i,a,e,hi⟩
def fB (w:Int×Int) (n:Int):Int×Int:=
 let lo:=wr .u64 (w.2+wr .u64 n)
 let hi:=if lo<w.2 then wr .i64 (w.1+1) else w.1
 (if n<0 then wr .i64 (hi - 1) else hi,lo)
theorem bIz (hi lo n:Int) (S:St) (K:KW):C 258 [.agg [.int .i64 hi,.int .u64 lo],.int .i64 n] S K=K (.agg [.int .i64 (fB (hi,lo) n).1,.int .u64 (fB (hi,lo) n).2]) S:=by
 refine (bLs rfl ?_).eq S K
 delta Tryz.f258;simp only [↓cw,↓reduceIte,Nat.reduceLT,kk,gH,gm,fB]
 by_cases c1:wr .u64 (lo+wr .u64 n)<lo<;>by_cases c2:n<0<;>simp only [↓cw,↓reduceIte,Nat.reduceLT,c1,c2,kk,if_true,if_false,oo]
theorem aDu {hi lo n:Int} (h0:0≤lo) (h1:lo<18446744073709551616) (hn:eZ n) (b1:-1237940039285380274899124224≤hi*18446744073709551616+lo) (b2:hi*18446744073709551616+lo≤1237940039285380274899124224):
  (fB (hi,lo) n).1*18446744073709551616+(fB (hi,lo) n).2=hi*18446744073709551616+lo+n∧0≤(fB (hi,lo) n).2∧(fB (hi,lo) n).2<18446744073709551616:=by
 obtain ⟨n1,n2⟩:=hn
 obtain ⟨A,hA⟩:∃ A,A=wr .u64 n:=⟨_,rfl⟩
 have e1:A=n % 18446744073709551616:=by rw [hA,aC3]
 obtain ⟨B,hB⟩:∃ B,B=wr .u64 (lo+A):=⟨_,rfl⟩
 have e2:B=(lo+A) % 18446744073709551616:=by rw [hB,aC3]
 have w1:wr .i64 (hi+1)=hi+1:=eE ⟨by omega,by omega⟩
 have w2:wr .i64 (hi - 1)=hi - 1:=eE ⟨by omega,by omega⟩
 have w3:wr .i64 (hi+1 - 1)=hi:=by rw [eE ⟨by omega,by omega⟩];omega
 unfold fB
 simp only [←hA,←hB,w1]
 refine ⟨?_,?_,?_⟩<;>repeat' split
 all_goals omega
theorem aQ7 (l:List Int):∀ (hi lo:Int),(∀ n∈l,eZ n)→0≤lo→lo<18446744073709551616→-1237940039285380274899124224+9223372036854775808*(l.length:Int)≤hi*18446744073709551616+lo→hi*18446744073709551616+lo≤1237940039285380274899124224 - 9223372036854775808*(l.length:Int)→
  (l.foldl fB (hi,lo)).1*18446744073709551616+(l.foldl fB (hi,lo)).2=hi*18446744073709551616+lo+l.sum∧0≤(l.foldl fB (hi,lo)).2∧(l.foldl fB (hi,lo)).2<18446744073709551616:=by
 induction l with
 | nil=>
  intro hi lo _ h0 h1 _ _
  exact ⟨(Int.add_zero _).symm,h0,h1⟩
 | cons n l ih=>
  intro hi lo hl h0 h1 b1 b2
  have hn:=hl n (List.mem_cons_self ..)
  have hlen:(((n::l).length:Nat):Int)=(l.length:Int)+1:=by rw [List.length_cons];omega
  rw [hlen] at b1 b2
  obtain ⟨s1,s2,s3⟩:=aDu (hi:=hi) h0 h1 hn (by omega) (by omega)
  obtain ⟨n1,n2⟩:=hn
  have hp:fB (hi,lo) n=((fB (hi,lo) n).1,(fB (hi,lo) n).2):=rfl
  rw [List.foldl_cons,List.sum_cons,hp]
  generalize (fB (hi,lo) n).1=p at *
  generalize (fB (hi,lo) n).2=q at *
  obtain ⟨t1,t2⟩:=ih p q (fun x hx=>hl x (List.mem_cons_of_mem _ hx)) s2 s3 (by omega) (by omega)
  exact ⟨by rw [t1,s1,Int.add_assoc],t2⟩
def aBg (l:List Int):Int×Bool:=(wr .i64 (l.foldl fB (0,0)).2,decide ((l.foldl fB (0,0))=fB (0,0) (wr .i64 (l.foldl fB (0,0)).2)))
theorem bCn (n:Int):wr .i64 n=(n+9223372036854775808) % 18446744073709551616 - 9223372036854775808:=by
 unfold wr lo hi
 simp only
 split
 ·omega
 ·rw [IntKind.wrap_i64]
theorem aOa {l:List Int} (hl:∀ n∈l,eZ n) (hb:l.length≤1000000):aBg l=dU l:=by
 obtain ⟨s1,s2,s3⟩:=aQ7 l 0 0 hl (Int.le_refl _) (by decide) (by omega) (by omega)
 obtain ⟨e1,e2⟩:=fS hl hb
 unfold aBg
 generalize l.foldl fB (0,0)=w at *
 obtain ⟨hi,lo⟩:=w
 simp only at s1 s2 s3 ⊢
 have hw:=aA1 lo
 obtain ⟨p1,p2,p3⟩:=aDu (hi:=0) (lo:=0) (Int.le_refl _) (by decide) hw (by decide) (by decide)
 have hwl:wr .i64 lo=wr .i64 l.sum:=by
  have e:=bCn
  rw [e,e]
  omega
 refine Prod.ext (hwl.trans e1.symm) ?_
 rw [Bool.eq_iff_iff,decide_eq_true_eq,e2]
 constructor
 ·intro h
  have h':=h
  rw [←h'] at p1
  simp only at p1
  have:l.sum=wr .i64 lo:=by omega
  rw [this];exact hw
 ·intro h
  have hs:wr .i64 lo=l.sum:=by rw [hwl];exact eE h
  rw [hs] at p1 p2 p3 ⊢
  generalize fB (0,0) l.sum=q at *
  obtain ⟨qh,ql⟩:=q
  simp only at p1 p2 p3
  have:hi=qh∧lo=ql:=by omega
  rw [this.1,this.2]
theorem bCo {l:List Int} {i:Nat} {a:Int} (hi:l[i]?=some a) (k:IntKind):gV 1 (.imm (l.map dC)) (.int k (i:Int))=.ok (.iptr (dC a) 0):=ixI (enc:=dC) hi rfl k
theorem bOt (l:List Int) (hb:l.length<1000000) (S:St) (K:KW):C 223 [.imm (l.map dC)] S K=K (.tup [.int .i64 (aBg l).1,.bool (aBg l).2]) S:=by
 refine (bLa rfl ?_).eq S K
 delta Tryz.f223;simp only [↓cw,↓reduceIte,Nat.reduceLT,kk]
 refine aF l (step:=fun w n=>(.inr (fB w n):(Int×Int)⊕(Int×Int))) (fin:=id) (fun i w vs S=>vs=[.int .i64 (i:Int)]∧aA S 0 0=.ok (2,[[.int .i64 w.1,.int .u64 w.2]])) (fun w=>w=l.foldl fB (0,0)) ?_ ?_ (s:=(0,0)) ⟨rfl,aC _ _ _ _ _ _⟩ ?_
 ·rintro i n ⟨hi',lo'⟩ vs S hi ⟨rfl,hg⟩ aE H
  have hil:=(List.getElem?_eq_some_iff.1 hi).1
  simp only [↓cw,↓reduceIte,Nat.reduceLT,kk,aU hi,if_true,gm,hg,bCo hi,dC,bIz,gC (show i<1000000000 by omega)]
  exact H _ _ ⟨rfl,aC _ _ _ _ _ _⟩
 ·rintro ⟨hi',lo'⟩ vs S ⟨rfl,hg⟩ aE H
  have H:(hi',lo')=l.foldl fB (0,0):=H
  simp only [↓cw,↓reduceIte,Nat.reduceLT,kk,Int.lt_irrefl,if_false,gm,hg,bIz,oo,aBg,←H]
  have:∀ p:Int×Int,(decide (hi'=p.1)&&decide (lo'=p.2))=decide ((hi',lo')=p):=fun p=>by
   obtain ⟨a,b⟩:=p
   rw [Bool.eq_iff_iff];simp
  rw [this]
 ·have:∀ (l:List Int) (w:Int×Int),aD (fun w n=>(.inr (fB w n):(Int×Int)⊕(Int×Int))) id l w=l.foldl fB w:=by
   intro l
   induction l with
   | nil=>intro w;rfl
   | cons n l ih=>intro w;simp only [aD,List.foldl_cons];exact ih _
  exact this _ _
theorem bJ0 {S:St} {v:V} {l:List Int} (o:Own E0 S 1 v (l.map dC)) (hb:l.length<1000000) (K:KW):C 223 [v] S K=K (.tup [.int .i64 (aBg l).1,.bool (aBg l).2]) S:=by
 have h:=o.out fun _=>rfl
 exact (Fn.back fun S K=>bOt l hb S K).frz bDd rfl (by simp only [frzVs,h]) (by simp only [ptrsVs,o.ptrs];rfl) (.inl rfl) K
def lK (l:List Part):Int×Int×Bool:=((aBg (l.map (·.net))).1,(aBg (l.map (·.tax))).1,(aBg (l.map (·.net))).2&&(aBg (l.map (·.tax))).2)
theorem bOu (l:List Part) (hl:l.length<100000) (S:St) (K:KW):C 161 [.imm (l.map Part.enc)] S K=K (.tup [.int .i64 (lK l).1,.int .i64 (lK l).2.1,.bool (lK l).2.2]) S:=by
 refine (bKa rfl ?_).eq S K
 delta Tryz.f161;simp only [↓cw,↓reduceIte,Nat.reduceLT,kk]
 refine aF l (step:=uG) (fin:=id) (fun i s vs S=>∃ u v,vs=[u,v,.int .i64 (i:Int)]∧Own E0 S 1 u (s.1.map dC)∧Own E0 S 1 v (s.2.map dC)∧s.1.length=i∧s.2.length=i∧WF S∧(∀ y,AM.blkOf u=some y→AM.blkOf v≠some y)) (fun r=>r=(l.map (·.net),l.map (·.tax))) ?_ ?_ (s:=([],[])) ⟨_,_,rfl,Own.nil _ _ _,Own.nil _ _ _,rfl,rfl,nL,fun y h=>(by cases h)⟩ (by rw [bBz];rfl)
 ·rintro i p ⟨ns,ts⟩ vs S hi ⟨u,v,rfl,ou,ov,lu,lv,w,huv⟩ aE H
  have hil:=(List.getElem?_eq_some_iff.1 hi).1
  have lu:ns.length=i:=lu
  have lv:ts.length=i:=lv
  simp only [uG] at H
  have bu:∀ y,AM.blkOf u=some y→y<S.next:=fun y hy=>(cN ou hy).2
  have bv:∀ y,AM.blkOf v=some y→y<S.next:=fun y hy=>(cN ov hy).2
  obtain ⟨u',S2,q1,w2,n2,ou2,bu2,keep2⟩:=aIz (b:=8) ou w (k1:=S.next+6) (k2:=S.next+7) (m:=S.next+18) (fresh w (by omega)) (fresh w (by omega)) (by omega) (by omega) (by omega) (by omega) (aPo p.net) (by simp;omega) (by simp [dW];omega)
  have k2:∀ y,y<S.next→AM.blkOf u≠some y→S2.heap.get y=S.heap.get y:=fun y hy h=>keep2 y (by omega) (by omega) h
  have ov2:Own E0 S2 1 v (ts.map dC):=ov.same (by omega) fun a ha=>k2 a (by have:=bv a ha;omega) fun h=>huv a h ha
  have fr8:∀ k,8≤k→S2.heap.get (S.next+k)=none:=fun k hk=>by
   rw [keep2 (S.next+k) (by omega) (by omega) fun h=>by have:=bu _ h;omega];exact fresh w (by omega)
  obtain ⟨v',S3,q2,w3,n3,ov3,bv3,keep3⟩:=aIz (b:=8) ov2 w2 (k1:=S.next+14) (k2:=S.next+15) (m:=S2.next) (fr8 14 (by omega)) (fr8 15 (by omega)) (by omega) (by omega) (by omega) (Nat.le_refl _) (aPo p.tax) (by simp;omega) (by simp [dW];omega)
  have hu2:∀ y,AM.blkOf u'=some y→y=S.next+7∨AM.blkOf u=some y:=fun y hy=>by
   rcases bu2 with h | h
   ·rw [h] at hy;cases hy;exact .inl rfl
   ·rw [h] at hy;exact .inr hy
  have hv3:∀ y,AM.blkOf v'=some y→y=S.next+15∨AM.blkOf v=some y:=fun y hy=>by
   rcases bv3 with h | h
   ·rw [h] at hy;cases hy;exact .inl rfl
   ·rw [h] at hy;exact .inr hy
  have hb8:∀ a,AM.blkOf u'=some a→a≠S.next+14∧a≠S.next+15:=fun a ha=>by
   rcases hu2 a ha with h | h
   ·omega
   ·have:=bu a h;omega
  have ou3:Own E0 S3 1 u' ((ns++[p.net]).map dC):=by
   rw [List.map_append]
   exact ou2.same (by omega) fun a ha=>keep3 a (hb8 a ha).1 (hb8 a ha).2 fun hv=>by
    rcases hu2 a ha with h | h
    ·have:=bv a hv;omega
    ·exact huv a h hv
  simp only [dC] at q1 q2
  simp only [↓cw,↓reduceIte,Nat.reduceLT,kk,aU hi,if_true,gY hi,Part.enc,gC (show i<1000000000 by omega),gm,bHo,q1,q2]
  exact H _ _ ⟨u',v',rfl,ou3,by rw [List.map_append];exact ov3,by simp;omega,by simp;omega,w3,fun y hy hy'=>by
   rcases hu2 y hy with h | h<;>rcases hv3 y hy' with h' | h'
   ·omega
   ·have:=bv y h';omega
   ·have:=bu y h;omega
   ·exact huv y h h'⟩
 ·rintro ⟨ns,ts⟩ vs S ⟨u,v,rfl,ou,ov,lu,lv,w,huv⟩ aE H
  have H:(ns,ts)=(l.map (·.net),l.map (·.tax)):=H
  obtain ⟨rfl,rfl⟩:=Prod.mk.inj H
  have c1:=fun K=>bJ0 ou (by rw [List.length_map];omega) K
  have c2:=fun K=>bJ0 ov (by rw [List.length_map];omega) K
  simp only [↓cw,↓reduceIte,Nat.reduceLT,kk,Int.lt_irrefl,if_false,c1,c2,lK]
  cases (aBg (l.map (·.net))).2<;>simp only [↓cw,↓reduceIte,Nat.reduceLT,kk,if_true,if_false,Bool.false_eq_true,oo,Bool.true_and,Bool.false_and]
theorem aV5 {t:Total} (hi:∀ p∈t.parts,eZ p.net∧eZ p.tax) (hl:t.parts.length≤1000000):
  (if (lK t.parts).2.2=true then (if (bF (lK t.parts).1 (lK t.parts).2.1).2=0 then (if (lK t.parts).1=t.net then (if (lK t.parts).2.1=t.tax then decide ((bF (lK t.parts).1 (lK t.parts).2.1).1=t.gross) else false) else false) else false) else false)=iK t:=by
 have h1:∀ n∈t.parts.map (·.net),eZ n:=fun n h=>by obtain ⟨p,hp,rfl⟩:=List.mem_map.1 h;exact (hi p hp).1
 have h2:∀ n∈t.parts.map (·.tax),eZ n:=fun n h=>by obtain ⟨p,hp,rfl⟩:=List.mem_map.1 h;exact (hi p hp).2
 unfold lK iK
 simp only
 rw [aOa h1 (by rw [List.length_map];exact hl),aOa h2 (by rw [List.length_map];exact hl)]
 by_cases c1:(dU (t.parts.map (·.net))).2=true
 ·by_cases c2:(dU (t.parts.map (·.tax))).2=true
  ·simp only [c1,c2,Bool.and_self,if_true]
   have i1:eZ (dU (t.parts.map (·.net))).1:=by rw [(fS h1 (by rw [List.length_map];exact hl)).1];exact aA1 _
   have i2:eZ (dU (t.parts.map (·.tax))).1:=by rw [(fS h2 (by rw [List.length_map];exact hl)).1];exact aA1 _
   by_cases c3:(dU (t.parts.map (·.net))).1=t.net
   ·by_cases c4:(dU (t.parts.map (·.tax))).1=t.tax
    ·rw [c3] at i1
     rw [c4] at i2
     simp only [c3,c4,if_true]
     rw [uN i1 i2]
     have hx:=fS (l:=[t.net,t.tax]) (fun n hn=>by simp at hn;rcases hn with rfl | rfl<;>assumption) (by simp)
     have hs:[t.net,t.tax].sum=t.net+t.tax:=by simp
     rw [hs] at hx
     by_cases c5:eZ (t.net+t.tax)
     ·rw [if_pos c5,if_pos (hx.2.2 c5),hx.1,eE c5];rfl
     ·rw [if_neg c5,if_neg (fun h=>c5 (hx.2.1 h))];rfl
    ·simp only [c3,c4,if_true,if_false];split<;>split<;>rfl
   ·simp only [c3,if_false];split<;>split<;>rfl
  ·simp only [c1,c2,Bool.and_false,if_true,if_false,Bool.false_eq_true,Bool.true_and]
 ·simp only [c1,Bool.false_and,if_false,Bool.false_eq_true]
theorem aQ8 {n:Int} (h:eZ n):aDc n=if n<0 then -n else n:=by
 obtain ⟨h1,h2⟩:=h
 unfold aDc
 split
 ·rw [eE (n:=n+1) ⟨by omega,by omega⟩,eE (n:=0 - (n+1)) ⟨by omega,by omega⟩,dR (n:=0 - (n+1)) (by omega) (by omega),dR (by omega) (by omega)]
  omega
 ·exact dR (by omega) (by omega)
theorem aXi {n bp:Int} (h:eZ n):aTw n bp=bD n bp:=by
 by_cases c0:bp<0∨100000<bp
 ·unfold aTw bD
  rw [if_pos c0,if_pos c0]
 have h1:0≤bp:=by omega
 have h2:bp≤100000:=by omega
 rw [aA3 h h1 h2]
 unfold aTw
 rw [if_neg c0]
 simp only [aQ8 h]
 have hp:wr .u64 bp=bp:=dR h1 (by omega)
 rw [hp]
 obtain ⟨n1,n2⟩:=h
 obtain ⟨u,hu⟩:∃ u,u=(if n<0 then -n else n):=⟨_,rfl⟩
 rw [←hu]
 have hu0:0≤u∧u≤9223372036854775808:=by subst hu;split<;>omega
 have hq:u.tdiv 10000=u / 10000:=Int.tdiv_eq_ediv_of_nonneg hu0.1
 have hr:u.tmod 10000=u % 10000:=Int.tmod_eq_emod_of_nonneg hu0.1
 have hmax:(9223372036854775807:Int).tdiv bp=9223372036854775807 / bp:=Int.tdiv_eq_ediv_of_nonneg (by decide)
 rw [hq,hr,hmax,dR (n:=u / 10000) (by omega) (by omega)]
 have hdiv:0<bp→0≤9223372036854775807 / bp∧9223372036854775807 / bp<18446744073709551616:=by
  intro hb
  constructor
  ·exact Int.ediv_nonneg (by decide) (by omega)
  ·have:=Int.ediv_le_self bp (a:=9223372036854775807) (by decide);omega
 unfold wP
 by_cases c:0<bp∧9223372036854775807 / bp<u / 10000
 ·rw [if_pos c,if_pos ⟨c.1,by rw [dR (hdiv c.1).1 (hdiv c.1).2];exact c.2⟩]
 ·rw [if_neg c,if_neg (fun q=>c ⟨q.1,by have:=q.2;rwa [dR (hdiv q.1).1 (hdiv q.1).2] at this⟩)]
  have hm1:0≤u / 10000*bp:=Int.mul_nonneg (by omega) h1
  have hm2:u / 10000*bp≤9223372036854775807:=by
   by_cases hb:0<bp
   ·have hle:u / 10000≤9223372036854775807 / bp:=by
     by_cases q:u / 10000≤9223372036854775807 / bp
     ·exact q
     ·exact absurd ⟨hb,by omega⟩ c
    calc u / 10000*bp≤9223372036854775807 / bp*bp:=Int.mul_le_mul_of_nonneg_right hle h1
     _≤9223372036854775807:=Int.ediv_mul_le _ (by omega)
   ·have:bp=0:=by omega
    subst this;simp
  have hr1:0≤u % 10000*bp:=Int.mul_nonneg (by omega) h1
  have hr2:u % 10000*bp≤10000*100000:=Int.mul_le_mul (by omega) h2 h1 (by decide)
  rw [dR hm1 (by omega),dR hr1 (by omega),dR (n:=u % 10000*bp+5000) (by omega) (by omega)]
  have ht:(u % 10000*bp+5000).tdiv 10000=(2*(u % 10000)*bp+10000) / 20000:=by
   rw [Int.tdiv_eq_ediv_of_nonneg (by omega),Int.mul_assoc];omega
  have hr3:2*(u % 10000)*bp=2*(u % 10000*bp):=Int.mul_assoc ..
  rw [ht,dR (n:=(2*(u % 10000)*bp+10000) / 20000) (by omega) (by omega),dR (n:=u / 10000*bp+(2*(u % 10000)*bp+10000) / 20000) (by omega) (by omega)]
  obtain ⟨t,htt⟩:∃ t,t=u / 10000*bp+(2*(u % 10000)*bp+10000) / 20000:=⟨_,rfl⟩
  have ht0:0≤t:=by omega
  rw [←htt]
  split
  ·rfl
  ·rename_i hle
   rw [mD (n:=t) (by omega) (by omega)]
   split
   ·rw [mD (by omega) (by omega)];simp
   ·rfl
theorem bOv (t:Total) (hint:∀ p∈t.parts,eZ p.net∧eZ p.tax) (S:St) (K:KW):C 119 [.agg [.int .i64 t.net,.int .i64 t.tax,.int .i64 t.gross,.imm (t.parts.map Part.enc)]] S K=K (.bool (bY t)) S:=by
 refine (bM2 rfl ?_).eq S K
 simp only [aWb,kk,bY]
 by_cases c1:t.parts.length<1
 ·simp only [c1,show (t.parts.length:Int)=0 by omega,kk,oo,if_true]
 by_cases c2:12<t.parts.length
 ·simp only [c1,c2,show ¬ (t.parts.length:Int)=0 by omega,show (12:Int)<(t.parts.length:Int) by omega,kk,oo,if_true,if_false]
 simp only [c1,c2,show ¬ (t.parts.length:Int)=0 by omega,show ¬ (12:Int)<(t.parts.length:Int) by omega,kk,if_false]
 have hsum:=aV5 hint (by omega)
 refine aF t.parts (step:=cC) (fin:=fun _=>iK t) (fun i s vs S=>vs=[.bool false,.int .i64 (i:Int)]∧s=bW t.parts i∧aA S 0 0=.ok (4,[[.int .i64 t.net,.int .i64 t.tax,.int .i64 t.gross,.imm (t.parts.map Part.enc)]])∧0<S.next) (fun r=>r=aD cC (fun _=>iK t) t.parts none) ?_ ?_ (s:=none) ⟨rfl,rfl,aC _ _ _ _ _ _,Nat.zero_lt_one⟩ rfl
 ·rintro i p s vs S hi ⟨rfl,rfl,r0,h0⟩ aE H
  have hil:=(List.getElem?_eq_some_iff.1 hi).1
  have hn:bW t.parts (i+1)=some p:=by simpa [bW] using hi
  obtain ⟨S',hS'⟩:∃ S':St,S'=⟨S.next+1+30,(S.heap.put S.next (.row 0 4 [[.str [],.int .i64 0,.int .i64 0,.int .i64 0]])).put S.next (.row 0 4 [[.str p.cat,.int .i64 p.bp,.int .i64 p.net,.int .i64 p.tax]])⟩:=⟨_,rfl⟩
  have r2:aA S' 0 0=.ok (4,[[.int .i64 t.net,.int .i64 t.tax,.int .i64 t.gross,.imm (t.parts.map Part.enc)]]):=by rw [hS'];exact aH (n:=S.next) (by omega) (aH (n:=S.next) (by omega) r0)
  have r3:aA S' S.next 0=.ok (4,[[.str p.cat,.int .i64 p.bp,.int .i64 p.net,.int .i64 p.tax]]):=by rw [hS'];exact aC _ _ _ _ _ _
  have h2:0<S'.next:=by rw [hS'];exact Nat.succ_pos _
  have w1:wr .i64 ((i:Int)+1)=((i+1:Nat):Int):=gC (by omega)
  have ht3:=aXi (bp:=p.bp) (hint p (List.mem_of_getElem? hi)).1
  have hst:cC (bW t.parts i) p=if dF p.cat=false then .inl false else if p.bp<0 then .inl false else if 100000<p.bp then .inl false else if gG (bW t.parts i) p=true then .inl false else if (bD p.net p.bp).2=0 then (if (bD p.net p.bp).1=p.tax then .inr (some p) else .inl false) else .inl false:=by
   unfold cC uH uJ
   simp only [Bool.or_eq_true,decide_eq_true_eq]
   grind
  rw [hst] at H
  have hj0:∀ X:St,X=S'→(if (bD p.net p.bp).2=0 then (if (bD p.net p.bp).1=p.tax then aE [.bool false,.int .i64 ((i+1:Nat):Int)] S' else aD cC (fun _=>iK t) t.parts none=false) else aD cC (fun _=>iK t) t.parts none=false)→aBq C (fun v0 S0=>iA S0 v0=Except.ok (V.bool (aD cC (fun _=>iK t) t.parts none))) aE (.ptr 0 0 0 0) (.bool false) (.int .i64 (i:Int)) (.ptr S.next 0 0 0) X:=by
   rintro X rfl hyp
   simp only [aBq,kk,r3,bMz,ht3,dA,w1]
   by_cases d1:(bD p.net p.bp).2=0
   ·by_cases d2:(bD p.net p.bp).1=p.tax
    ·simp only [d1,d2,if_true,not_true_eq_false,if_false] at hyp ⊢;exact hyp
    ·simp only [d1,d2,if_true,if_false,not_true_eq_false,not_false_eq_true,oo] at hyp ⊢
     rw [hyp]
   ·simp only [d1,if_false,not_false_eq_true,if_true,oo] at hyp ⊢
    rw [hyp]
  simp only [aGr,kk,r0,aU hi,if_true,gY hi,Part.enc,←hS',r3,bC6]
  cases hna:dF p.cat
  ·simp only [hna,kk,if_true,Bool.not_false,oo] at H ⊢
   rw [←H]
  simp only [hna,kk,Bool.true_eq_false,Bool.not_true,Bool.false_eq_true,if_false,r3] at H ⊢
  by_cases e1:p.bp<0
  ·simp only [e1,if_true,oo] at H ⊢
   rw [←H]
  by_cases e2:100000<p.bp
  ·simp only [e1,e2,if_true,if_false,oo] at H ⊢
   rw [←H]
  simp only [e1,e2,if_false] at H ⊢
  have hlast:gG (bW t.parts i) p=false→(if (bD p.net p.bp).2=0 then (if (bD p.net p.bp).1=p.tax then aE [.bool false,.int .i64 ((i+1:Nat):Int)] S' else aD cC (fun _=>iK t) t.parts none=false) else aD cC (fun _=>iK t) t.parts none=false):=by
   intro e3
   simp only [e3,Bool.false_eq_true,if_false] at H
   by_cases d1:(bD p.net p.bp).2=0
   ·by_cases d2:(bD p.net p.bp).1=p.tax
    ·simp only [d1,d2,if_true] at H ⊢
     exact H _ _ ⟨rfl,by rw [hn],r2,h2⟩
    ·simp only [d1,d2,if_true,if_false] at H ⊢;exact H.symm
   ·simp only [d1,if_false] at H ⊢;exact H.symm
  by_cases i0:i=0
  ·have e3:gG (bW t.parts i) p=false:=by rw [i0];rfl
   simp only [show ¬ (0:Int)<(i:Int) by omega,if_false]
   exact hj0 S' rfl (hlast e3)
  ·have hj:t.parts[i - 1]?=some t.parts[i - 1]:=List.getElem?_eq_getElem (by omega)
   have hp:bW t.parts i=some t.parts[i - 1]:=by unfold bW;rw [if_neg i0];exact hj
   have w2:wr .i64 ((i:Int) - 1)=((i - 1:Nat):Int):=by rw [mD (by omega) (by omega)];omega
   have e4:gG (bW t.parts i) p=!fG t.parts[i - 1].cat p.cat:=by rw [hp];rfl
   simp only [show (0:Int)<(i:Int) by omega,if_true,r2,w2,gY hj,Part.enc,kk,r3]
   cases d:fG t.parts[i - 1].cat p.cat
   ·rw [d] at e4
    simp only [e4,Bool.not_false,if_true,oo] at H ⊢
    rw [←H]
   ·rw [d] at e4
    simp only [Bool.not_true,Bool.false_eq_true,if_false]
    exact hj0 S' rfl (hlast e4)
 ·rintro s vs S ⟨rfl,rfl,r0,h0⟩ aE H
  have H:iK t=aD cC (fun _=>iK t) t.parts none:=H
  rw [←H,←hsum]
  simp only [aGr,kk,r0,Int.lt_irrefl,if_false,bOu t.parts (by omega),bC2,dA]
  cases d1:(lK t.parts).2.2
  ·simp only [kk,Bool.false_eq_true,if_false,oo]
  simp only [kk,if_true]
  by_cases d2:(bF (lK t.parts).1 (lK t.parts).2.1).2=0
  ·simp only [d2,kk,if_true]
   by_cases d3:(lK t.parts).1=t.net
   ·by_cases d4:(lK t.parts).2.1=t.tax
    ·simp only [d3,d4,kk,if_true,oo]
    ·simp only [d3,d4,kk,if_true,if_false,oo]
   ·simp only [d3,kk,if_false,oo]
  ·simp only [d2,kk,if_false,oo]
end Go.Proofs.YtoaibmbldmckaaaGreat
end
section
namespace Go.AM
theorem aDv {n a ver i len:Nat} (h:i<len):gV n (.sl a ver n 0 len) (.int .i64 (i:Int))=.ok (.ptr a ver i 0):=by
 simp only [gV,jN h,if_true,Nat.zero_add]
theorem aLo {X:St} {a ver n i:Nat} {es:List (List V)} {cs:List V} (hg:X.heap.get a=some (.row ver n es)) (hi:es[i]?=some cs) (k:Option Nat) (j:Nat):iJ k (.ptr a ver i j) X=jM k cs j:=by
 simp only [ldP,fC hg,hi]
theorem aOb {X:St} {a ver n i j:Nat} {es:List (List V)} {cs:List V} {v:V} (hg:X.heap.get a=some (.row ver n es)) (hi:es[i]?=some cs) (hv:v.cells=[v]) (ho:v.one=true) (hj:j+1≤cs.length):
  fU 1 (.ptr a ver i j) v X=.ok ⟨X.next,X.heap.put a (.row ver n (es.set i (splice cs j [v])))⟩:=by
 simp only [stP,fC hg,hi,hv]
 rw [if_pos ⟨rfl,by simp [aI,ho],hj⟩]
theorem aLp {X:St} {a ver n i:Nat} {es:List (List V)} (hg:X.heap.get a=some (.row ver n es)) (hi:i≤es.length):aP X (.sl a ver n 0 i)=.ok (es.take i):=by
 have hb:Nat.ble (0+i) es.length=true:=Nat.ble_eq_true_of_le (by omega)
 simp only [aP,fC hg,hb,cond_true,List.drop_zero]
theorem aV6 {X:St} {a ver n i:Nat} {es:List (List V)} (hg:X.heap.get a=some (.row ver n es)) (hi:i≤es.length):aP X (.sl a ver n i (es.length - i))=.ok (es.drop i):=by
 have hb:Nat.ble (i+(es.length - i)) es.length=true:=Nat.ble_eq_true_of_le (by omega)
 simp only [aP,fC hg,hb,cond_true]
 rw [List.take_of_length_le (by rw [List.length_drop];omega)]
end Go.AM
namespace Go.Proofs.YtoaibmbldmckaaaGreat
open Go.AM Tryz
set_option linter.unusedVariables false
set_option linter.unusedSimpArgs false
set_option maxRecDepth 100000
theorem aFs {α:Type} {enc:α→List V} {n b:Nat} (hl:∀ x,(enc x).length=n∧aI (enc x)=true) (l:List α) {S:St} {a:Nat} {u:V} (hu:aP S u=.ok (l.map enc)) (hg:aA S a 0=.ok (n,[])) (h1:l.length*b≤35184372088832) (h2:l.length<dW) (fr:Option Nat):
  dO n b (.sl a 0 n 0 0) u fr S=.ok (.sl a 1 n 0 l.length,⟨S.next,S.heap.put a (.row 1 n (l.map enc))⟩):=by
 have hc:∀ cs,cs∈l.map enc→cs.length=n∧aI cs=true:=fun cs hc=>by obtain ⟨x,_,rfl⟩:=List.mem_map.1 hc;exact hl x
 obtain ⟨a1,a2⟩:=cQ hc
 simp only [dO,hu,a1,a2,and_self,if_true,hg,List.length_map,Nat.zero_add,List.length_nil,Nat.le_refl,h1,h2,List.drop_nil,List.take_nil,List.nil_append]
theorem aOc {α:Type} {enc:α→List V} {n b:Nat} (hl:∀ x,(enc x).length=n∧aI (enc x)=true) (l r:List α) {S:St} {a:Nat} {ver:Nat} {u:V} (hu:aP S u=.ok (r.map enc)) (hg:aA S a ver=.ok (n,l.map enc)) (h1:(l.length+r.length)*b≤35184372088832) (h2:l.length+r.length<dW) (fr:Option Nat):
  dO n b (.sl a ver n 0 l.length) u fr S=.ok (.sl a (ver+1) n 0 (l.length+r.length),⟨S.next,S.heap.put a (.row (ver+1) n ((l++r).map enc))⟩):=by
 have hc:∀ cs,cs∈r.map enc→cs.length=n∧aI cs=true:=fun cs hc=>by obtain ⟨x,_,rfl⟩:=List.mem_map.1 hc;exact hl x
 obtain ⟨a1,a2⟩:=cQ hc
 simp only [dO,hu,a1,a2,and_self,if_true,hg,List.length_map,Nat.zero_add,Nat.le_refl,h1,h2,List.drop_zero,List.map_append]
 rw [List.take_of_length_le (by rw [List.length_map];exact Nat.le_refl _)]
theorem bJ1 {α:Type} {enc:α→List V} {n b:Nat} (hl:∀ x,(enc x).length=n∧aI (enc x)=true) (l:List α) (x:α) {i:Nat} (hi:i≤l.length) {S:St} {k1 k2 m s vs:Nat} (hne:k1≠k2) (hs1:s≠k1) (hs2:s≠k2) (hsrc:S.heap.get s=some (.row vs n (l.map enc))) (hk1:k1<S.next) (hm:S.next≤m) (hg:aA S k1 0=.ok (n,[])) (w:WF S) (hk2:k2<m) (h1:(l.length+1)*b≤35184372088832) (h2:l.length+1<dW) (f1 f2 f3:Option Nat):
  ∃ S1 S2 S3:St,dO n b (.sl k1 0 n 0 0) (.sl s vs n 0 i) f1 S=.ok (.sl k1 1 n 0 i,S1)∧S1.next=S.next∧dO n b (.sl k1 1 n 0 i) (.sl k2 0 n 0 1) f2 ⟨m,S1.heap.put k2 (.row 0 n [enc x])⟩=.ok (.sl k1 2 n 0 (i+1),S2) ∧
   dO n b (.sl k1 2 n 0 (i+1)) (.sl s vs n i (l.length - i)) f3 S2=.ok (.sl k1 3 n 0 (l.length+1),S3)∧S3.next=m∧WF S3∧S3.heap.get k1=some (.row 3 n ((dG l i x).map enc))∧(∀ y,y≠k1→S1.heap.get y=S.heap.get y)∧∀ y,y≠k1→y≠k2→S3.heap.get y=S.heap.get y:=by
 have lt:(l.take i).length=i:=by rw [List.length_take];omega
 have ld:(l.drop i).length=l.length - i:=List.length_drop
 have lm:(l.map enc).length=l.length:=List.length_map _
 have hb:∀ j,j≤l.length+1→j*b≤35184372088832:=fun j hj=>Nat.le_trans (Nat.mul_le_mul_right b hj) h1
 have u1:aP S (.sl s vs n 0 i)=.ok ((l.take i).map enc):=by rw [aLp hsrc (by omega),List.map_take]
 have q1:=aFs (b:=b) hl (l.take i) u1 hg (hb _ (by omega)) (by omega) f1
 rw [lt] at q1
 have g2:aA ⟨m,(S.heap.put k1 (.row 1 n ((l.take i).map enc))).put k2 (.row 0 n [enc x])⟩ k1 1=.ok (n,(l.take i).map enc):=aG (S:=⟨S.next,S.heap.put k1 (.row 1 n ((l.take i).map enc))⟩) (aC _ _ _ _ _ _) (Tr.get_put_neB _ _ _ _ trivial hne)
 have g3:aA ⟨m,(S.heap.put k1 (.row 1 n ((l.take i).map enc))).put k2 (.row 0 n [enc x])⟩ k2 0=.ok (n,[enc x]):=aC _ _ _ _ _ _
 have q2:=aV4 (b:=b) hl (l.take i) x g2 g3 (hb _ (by omega)) (by omega) f2
 rw [lt] at q2
 obtain ⟨Z,hZ⟩:∃ Z:St,Z=⟨m,((S.heap.put k1 (.row 1 n ((l.take i).map enc))).put k2 (.row 0 n [enc x])).put k1 (.row 2 n ((l.take i++[x]).map enc))⟩:=⟨_,rfl⟩
 have g4:aA Z k1 2=.ok (n,(l.take i++[x]).map enc):=by rw [hZ];exact aC _ _ _ _ _ _
 have gs:Z.heap.get s=some (.row vs n (l.map enc)):=by
  rw [hZ]
  show (((S.heap.put k1 _).put k2 _).put k1 _).get s=_
  rw [Tr.get_put_neB _ _ _ _ trivial hs1,Tr.get_put_neB _ _ _ _ trivial hs2,Tr.get_put_neB _ _ _ _ trivial hs1];exact hsrc
 have u3:aP Z (.sl s vs n i (l.length - i))=.ok ((l.drop i).map enc):=by
  have:=aV6 gs (i:=i) (by omega)
  rw [lm] at this
  rw [this,List.map_drop]
 have l1:(l.take i++[x]).length=i+1:=by rw [List.length_append,lt];rfl
 have q3:=aOc (b:=b) hl (l.take i++[x]) (l.drop i) u3 g4 (hb _ (by omega)) (by omega) f3
 rw [l1,ld] at q3
 have e:i+1+(l.length - i)=l.length+1:=by omega
 rw [e] at q3
 have ei:l.take i++[x]++l.drop i=dG l i x:=by simp [dG]
 rw [ei] at q3
 have zn:Z.next=m:=by rw [hZ]
 have wZ:WF Z:=by rw [hZ];exact eH (n:=m) (eH (n:=S.next) (eH (n:=S.next) w hk1 (Nat.le_refl _)) hk2 hm) (show k1<m by omega) (Nat.le_refl _)
 refine ⟨_,Z,_,q1,rfl,by rw [hZ];exact q2,q3,zn,eH (n:=Z.next) wZ (by omega) (Nat.le_refl _),Tr.get_put_sameB _ _ _ trivial,fun y hy=>Tr.get_put_neB _ _ _ _ trivial hy,fun y hy hy2=>?_⟩
 show (Z.heap.put k1 _).get y=_
 rw [Tr.get_put_neB _ _ _ _ trivial hy,hZ]
 show (((S.heap.put k1 _).put k2 _).put k1 _).get y=_
 rw [Tr.get_put_neB _ _ _ _ trivial hy,Tr.get_put_neB _ _ _ _ trivial hy2,Tr.get_put_neB _ _ _ _ trivial hy]
end Go.Proofs.YtoaibmbldmckaaaGreat
end
section
namespace Go.Proofs.YtoaibmbldmckaaaGreat
open Go.AM Tryz
theorem bOw (t:Total) (hf:aL7 t) (S:St) (K:KW):C 121 [.agg [.int .i64 t.net,.int .i64 t.tax,.int .i64 t.gross,.imm (t.parts.map Part.enc)]] S K=K (.tup [.imm ((cD t).1.map Bal.enc),.int .i64 (cD t).2]) S:=by
 refine (bJw rfl ?_).eq S K
 delta Tryz.f121;simp only [↓cw,↓reduceIte,Nat.reduceLT,kk,aX0,gH,gm]
 have hpl:=hf.1
 refine aF t.parts (step:=nX) (fin:=fun l=>(l,0)) (fun i s vs S=>∃ v,vs=[.nils,.int .i64 0,v,.int .i64 (i:Int)]∧Own E0 S 2 v (s.map Bal.enc)∧WF S∧s.length=1+2*i∧aA S 0 0=.ok (4,[t.enc])∧AM.blkOf v≠some 0∧2≤S.next) (fun r=>r=cD t) ?_ ?_ (s:=[⟨[111,119,101,100],t.gross⟩]) ⟨_,rfl,⟨.inr ⟨1,0,[],rfl,Nat.zero_le _,Nat.lt_succ_self 1,rfl⟩,?_⟩,eH (eH (m:=1) nL (by decide) (by decide)) (by decide) (by decide),rfl,rfl,fun h=>(by cases h),Nat.le_refl _⟩ rfl
 ·rintro i p s vs S hi ⟨v,rfl,own,w,hsl,r0,hv0,hn⟩ aE H
  have hil:=(List.getElem?_eq_some_iff.1 hi).1
  have hcat:=hf.2 p (List.mem_of_getElem? hi)
  simp only [↓cw,↓reduceIte,Nat.reduceLT,nX,kk] at H
  have e1:wC.length+p.cat.length<2000000:=by simp only [wC,List.length_cons,List.length_nil];omega
  have e2:wH.length+p.cat.length<2000000:=by simp only [wH,List.length_cons,List.length_nil];omega
  have c1:=aC1 (P:=prog) (t:=9) e1
  have c2:=aC1 (P:=prog) (t:=9) e2
  simp only [wC,wH] at c1 c2
  simp only [Total.enc] at r0
  simp only [↓cw,↓reduceIte,Nat.reduceLT,kk,r0,aU hi,if_true,gY hi,Part.enc,gC (show i<1000000000 by omega),bC4,dA,gm,c1,c2,bB5]
  by_cases h1:(bS 0 p.net).2=0
  ·by_cases h2:(bS 0 p.tax).2=0
   ·simp only [↓cw,↓reduceIte,Nat.reduceLT,h1,h2,kk,not_true_eq_false,if_false] at H ⊢
    have f1:S.heap.get (S.next+19)=none:=fresh w (by omega)
    have f2:S.heap.get (S.next+20)=none:=fresh w (by omega)
    have w1:WF ⟨S.next+22,S.heap.put (S.next+19) (.row 0 2 [Bal.enc ⟨wC++p.cat,(bS 0 p.net).1⟩,Bal.enc ⟨wH++p.cat,(bS 0 p.tax).1⟩])⟩:=eH (n:=S.next) w (by omega) (by omega)
    have o1:Own E0 ⟨S.next+22,S.heap.put (S.next+19) (.row 0 2 [Bal.enc ⟨wC++p.cat,(bS 0 p.net).1⟩,Bal.enc ⟨wH++p.cat,(bS 0 p.tax).1⟩])⟩ 2 v (s.map Bal.enc):=own.same (by show S.next≤S.next+22;omega) fun a ha=>Tr.get_put_neB _ _ _ _ trivial (by have:=(cN own ha).2;omega)
    have hu:aP ⟨S.next+22,S.heap.put (S.next+19) (.row 0 2 [Bal.enc ⟨wC++p.cat,(bS 0 p.net).1⟩,Bal.enc ⟨wH++p.cat,(bS 0 p.tax).1⟩])⟩ (.sl (S.next+19) 0 2 0 2)=.ok [Bal.enc ⟨wC++p.cat,(bS 0 p.net).1⟩,Bal.enc ⟨wH++p.cat,(bS 0 p.tax).1⟩]:=by
     simp only [aP,aC];rfl
    have f3:(⟨S.next+22,S.heap.put (S.next+19) (.row 0 2 [Bal.enc ⟨wC++p.cat,(bS 0 p.net).1⟩,Bal.enc ⟨wH++p.cat,(bS 0 p.tax).1⟩])⟩:St).heap.get (S.next+20)=none:=by
     show (S.heap.put (S.next+19) _).get (S.next+20)=none
     rw [Tr.get_put_neB _ _ _ _ trivial (by omega)];exact f2
    obtain ⟨v',S',q1,q2,q3,q4,q5,q6⟩:=o1.pushAt (b:=24) (k:=S.next+20) (aDd w1) nL hu (fun d hd=>by
     rcases List.mem_cons.1 hd with rfl | hd
     ·exact aDe _
     ·rcases List.mem_cons.1 hd with rfl | hd
      ·exact aDe _
      ·cases hd) (by simp) (Nat.zero_le _) (by show S.next+20<S.next+22;omega) f3 (by simp;omega) (by simp [dW];omega)
    simp only [↓cw,↓reduceIte,Nat.reduceLT,Bal.enc,wC,wH,kk] at q1
    simp only [↓cw,↓reduceIte,Nat.reduceLT,q1,kk]
    have wS:WF S':=q2.wf nL
    have hnn:S'.next=S.next+22:=q3
    refine H _ _ ⟨_,rfl,by rw [List.map_append];exact q4,wS,by rw [List.length_append,hsl];simp;omega,?_,?_,by omega⟩
    ·refine aG (S:=S) r0 ?_
     rw [q6 0 (by omega) hv0]
     exact Tr.get_put_neB _ _ _ _ trivial (by omega)
    ·rcases q5 with e | e
     ·rw [e];intro h;cases h
     ·rw [e];exact hv0
   ·simp only [↓cw,↓reduceIte,Nat.reduceLT,h1,h2,kk,not_true_eq_false,not_false_eq_true,if_false,if_true] at H ⊢
    simp only [oo,←H,List.map_nil]
  ·simp only [↓cw,↓reduceIte,Nat.reduceLT,h1,kk,not_false_eq_true,if_true] at H ⊢
   simp only [oo,←H,List.map_nil]
 ·rintro s vs S ⟨v,rfl,own,w,hsl,r0,hv0,hn⟩ aE H
  have H':cD t=(s,0):=H.symm
  simp only [Total.enc] at r0
  simp only [↓cw,↓reduceIte,Nat.reduceLT,kk,r0,Int.lt_irrefl,if_false,oo,own.frz (cR (fun _=>rfl) _),H']
 ·intro c hc;simp at hc;subst hc;exact ⟨rfl,rfl⟩
theorem bJ2 (book l:List Bal) (hbb:book.length+l.length<1000000) (S:St) (K:KW):C 122 [.imm (book.map Bal.enc),.imm (l.map Bal.enc)] S K=K (.tup [.imm ((bI book l).1.map Bal.enc),.int .i64 (bI book l).2]) S:=by
 refine (bM3 rfl ?_).eq S K
 simp only [aWd,kk,bOs book (by omega),bI]
 cases h:vD book
 ·simp only [h,kk,Bool.not_false,if_true,oo,List.map_nil]
 simp only [h,kk,Bool.not_true,Bool.true_eq_false,Bool.false_eq_true,if_false,bs0]
 have q0:=aJf (b:=24) aDe book (S:=⟨0+1,Tr.nil.put 0 (.row 0 2 [])⟩) (a:=0) (aC _ _ _ _ _ _) (by omega) (by unfold dW;omega) none
 simp only [q0]
 refine aF l (step:=bM) (fin:=fun l=>(l,0)) (fun i cur vs X=>∃ a ver,vs=[.nils,.int .i64 0,.sl a ver 2 0 cur.length,.int .i64 (i:Int)]∧X.heap.get a=some (.row ver 2 (cur.map Bal.enc))∧WF X∧cur.length≤book.length+i) (fun r=>r=aD bM (fun l=>(l,0)) l book) ?_ ?_ (s:=book) ⟨0,1,rfl,Tr.get_put_sameB _ _ _ trivial,eH (n:=1) (eH nL (by decide) (by decide)) (by decide) (by decide),Nat.le_refl _⟩ rfl
 ·rintro i x cur vs X hi ⟨a,ver,rfl,hg,w,hlen⟩ aE H
  have hil:=(List.getElem?_eq_some_iff.1 hi).1
  have haX:=w _ _ hg
  have hpl:=nY cur x.acc
  have hroom:(bO cur x.acc).length≤cur.length+1:=by
   unfold bO
   split
   ·rw [iY _ _ _ hpl];exact Nat.le_refl _
   ·omega
  have hj1:∀ (a' ver':Nat) (Y:St),Y.heap.get a'=some (.row ver' 2 ((bO cur x.acc).map Bal.enc))→WF Y→aBr C (fun v0 S0=>iA S0 v0=Except.ok (V.tup [.imm ((aD bM (fun l=>(l,0)) l book).1.map Bal.enc),.int .i64 (aD bM (fun l=>(l,0)) l book).2])) aE (.imm (l.map Bal.enc)) .nils (.int .i64 0) (.sl a' ver' 2 0 (bO cur x.acc).length) (.int .i64 (i:Int)) (.int .i64 (aL cur x.acc:Int)) Y:=by
   intro a' ver' Y hY wY
   have hlt:aL cur x.acc<(bO cur x.acc).length:=by
    by_cases c:aL cur x.acc<cur.length
    ·unfold bO
     split
     ·rw [iY _ _ _ hpl];omega
     ·exact c
    ·have hm:fE cur x.acc=true:=by unfold fE;rw [List.getElem?_eq_none (by omega)]
     unfold bO
     rw [if_pos hm,iY _ _ _ hpl];omega
   obtain ⟨r,hr⟩:∃ r,(bO cur x.acc)[aL cur x.acc]?=some r:=⟨_,List.getElem?_eq_getElem hlt⟩
   have hr':((bO cur x.acc).map Bal.enc)[aL cur x.acc]?=some r.enc:=by rw [List.getElem?_map,hr];rfl
   have hld:∀ m,iJ none (.ptr a' ver' (aL cur x.acc) 1) ⟨m,Y.heap⟩=.ok (.int .i64 r.amount):=fun m=>by
    rw [aLo (X:=⟨m,Y.heap⟩) hY hr'];rfl
   have hst:=aOb (X:=⟨Y.next+16,Y.heap⟩) (v:=.int .i64 (bF r.amount x.amount).1) (j:=1) hY hr' rfl rfl (by show 1+1≤2;decide)
   simp only [bM,hr] at H
   simp only [aBr,kk,aDv hlt,hld,lV hi,Bal.enc,bC2,dA,gC (show i<1000000000 by omega),Nat.zero_add]
   by_cases c:(bF r.amount x.amount).2=0
   ·simp only [c,not_true_eq_false,if_false] at H ⊢
    have hst':fU 1 (.ptr a' ver' (aL cur x.acc) 1) (.int .i64 (bF r.amount x.amount).1) ⟨Y.next+16,Y.heap⟩=.ok ⟨Y.next+16,Y.heap.put a' (.row ver' 2 (((bO cur x.acc).map Bal.enc).set (aL cur x.acc) (splice r.enc 1 [.int .i64 (bF r.amount x.amount).1])))⟩:=hst
    simp only [hst',kk]
    have hset:((bO cur x.acc).map Bal.enc).set (aL cur x.acc) (splice r.enc 1 [.int .i64 (bF r.amount x.amount).1])=((bO cur x.acc).set (aL cur x.acc) ⟨r.acc,(bF r.amount x.amount).1⟩).map Bal.enc:=by rw [List.map_set];rfl
    rw [hset]
    refine H _ _ ⟨a',ver',by rw [List.length_set],Tr.get_put_sameB _ _ _ trivial,eH (n:=Y.next+16) (fun b c hb=>by have:=wY b c hb;show b<Y.next+16;omega) (by have:=wY _ _ hY;omega) (Nat.le_refl _),by rw [List.length_set];omega⟩
   ·simp only [c,ne_eq,not_false_eq_true,if_true] at H ⊢
    simp only [oo,←H,List.map_nil]
  have hj2:∀ Y:St,Y.heap=X.heap→X.next≤Y.next→yG C (fun v0 S0=>iA S0 v0=Except.ok (V.tup [.imm ((aD bM (fun l=>(l,0)) l book).1.map Bal.enc),.int .i64 (aD bM (fun l=>(l,0)) l book).2])) aE (.imm (l.map Bal.enc)) .nils (.int .i64 0) (.sl a ver 2 0 cur.length) (.int .i64 (i:Int)) (.int .i64 (aL cur x.acc:Int)) (.bool (fE cur x.acc)) Y:=by
   intro Y hh hn
   have wY:WF Y:=fun b c hb=>by rw [hh] at hb;have:=w b c hb;omega
   have hgY:Y.heap.get a=some (.row ver 2 (cur.map Bal.enc)):=by rw [hh];exact hg
   cases hm:fE cur x.acc
   ·have e:bO cur x.acc=cur:=by unfold bO;rw [hm];rfl
    have:=hj1 a ver Y (by rw [e];exact hgY) wY
    rw [e] at this
    simp only [yG,kk,Bool.false_eq_true,if_false]
    exact this
   ·have e:bO cur x.acc=dG cur (aL cur x.acc) ⟨x.acc,0⟩:=by unfold bO;rw [hm];rfl
    obtain ⟨Z,hZ⟩:∃ Z:St,Z=⟨Y.next+18,Y.heap.put Y.next (.row 0 2 [])⟩:=⟨_,rfl⟩
    have wZ:WF Z:=by rw [hZ];exact eH (n:=Y.next) wY (by omega) (by omega)
    have gZ:aA Z Y.next 0=.ok (2,[]):=by rw [hZ];exact aC _ _ _ _ _ _
    have nZ:Z.next=Y.next+18:=by rw [hZ]
    have sZ:Z.heap.get a=some (.row ver 2 (cur.map Bal.enc)):=by rw [hZ];show (Y.heap.put Y.next _).get a=_;rw [Tr.get_put_neB _ _ _ _ trivial (by omega)];exact hgY
    obtain ⟨S1,S2,S3,q1,m1,q2,q3,n3,w3,g3,k1,k3⟩:=bJ1 (b:=24) aDe cur ⟨x.acc,0⟩ hpl (S:=Z) (k1:=Y.next) (k2:=Y.next+11) (m:=Z.next) (s:=a) (vs:=ver) (by omega) (by omega) (by omega) sZ (by omega) (Nat.le_refl _) gZ wZ (by omega) (by omega) (by unfold dW;omega) (some (Y.next+4)) (some (Y.next+12)) (some (Y.next+16))
    have mm:∀ b,(⟨Z.next,S1.heap.put (Y.next+11) b⟩:St)=⟨S1.next,S1.heap.put (Y.next+11) b⟩:=fun b=>by rw [m1]
    rw [mm] at q2
    simp only [Bal.enc] at q2
    have b1:dM cur.length none (some (.int .i64 (aL cur x.acc:Int)))=.ok (0,aL cur x.acc):=by
     have:(decide ((0:Int)≤(aL cur x.acc:Int))&&decide ((aL cur x.acc:Int)≤(cur.length:Int)))=true:=by simp;omega
     simp only [dM,this,cond_true];rfl
    have b2:dM cur.length (some (.int .i64 (aL cur x.acc:Int))) none=.ok (aL cur x.acc,cur.length):=by
     simp only [dM];simp [hpl]
    have hfin:=hj1 Y.next 3 S3 (by rw [e];exact g3) w3
    have hrl:(bO cur x.acc).length=cur.length+1:=by rw [e,iY _ _ _ hpl]
    rw [hrl] at hfin
    simp only [yG,kk,if_true,bBw,b1,b2,lV hi,Bal.enc,bs0,Nat.add_zero,Nat.zero_add,Nat.sub_zero,←hZ,q1,aX0,q2,q3]
    exact hfin
  have hj0:∀ Y:St,Y.heap=X.heap→X.next≤Y.next→yH C (fun v0 S0=>iA S0 v0=Except.ok (V.tup [.imm ((aD bM (fun l=>(l,0)) l book).1.map Bal.enc),.int .i64 (aD bM (fun l=>(l,0)) l book).2])) aE (.imm (l.map Bal.enc)) .nils (.int .i64 0) (.sl a ver 2 0 cur.length) (.int .i64 (i:Int)) (.int .i64 (aL cur x.acc:Int)) Y:=by
   intro Y hh hn
   have h2:=hj2 ⟨Y.next+17,Y.heap⟩ hh (by show X.next≤Y.next+17;omega)
   by_cases c:aL cur x.acc<cur.length
   ·obtain ⟨r,hr⟩:∃ r,cur[aL cur x.acc]?=some r:=⟨_,List.getElem?_eq_getElem c⟩
    have hr':(cur.map Bal.enc)[aL cur x.acc]?=some r.enc:=by rw [List.getElem?_map,hr];rfl
    have hld:iJ none (.ptr a ver (aL cur x.acc) 0) ⟨Y.next+17,Y.heap⟩=.ok (.str r.acc):=by
     rw [aLo (X:=⟨Y.next+17,Y.heap⟩) (by rw [←hh] at hg;exact hg) hr'];rfl
    have hm:fE cur x.acc=!(r.acc == x.acc):=by unfold fE;rw [hr]
    rw [hm] at h2
    simp only [yH,kk,show ¬ ((aL cur x.acc:Nat):Int)=(cur.length:Int) by omega,if_false,aDv c,Nat.add_zero,hld,lV hi,Bal.enc]
    exact h2
   ·have e:aL cur x.acc=cur.length:=by omega
    have hm:fE cur x.acc=true:=by unfold fE;rw [List.getElem?_eq_none (by omega)]
    rw [hm] at h2
    simp only [yH,kk,show ((aL cur x.acc:Nat):Int)=(cur.length:Int) by omega,if_true]
    rw [show ((aL cur x.acc:Nat):Int)=(cur.length:Int) by omega] at h2
    exact h2
  simp only [aGt,kk,aU hi,if_true]
  refine aF cur (step:=dE (fun b:Bal=>fG b.acc x.acc)) (fin:=id) (fun k n vs Y=>n=k∧vs=[.int .i64 (k:Int)]∧Y.heap=X.heap∧X.next≤Y.next) (fun n=>n=aL cur x.acc) ?_ ?_ (s:=0) ⟨rfl,rfl,rfl,Nat.le_refl _⟩ rfl
  ·rintro k b n vs Y hk ⟨rfl,rfl,hh,hn⟩ again' H'
   have hkl:=(List.getElem?_eq_some_iff.1 hk).1
   have hk':(cur.map Bal.enc)[n]?=some b.enc:=by rw [List.getElem?_map,hk];rfl
   have hld:iJ none (.ptr a ver n 0) ⟨Y.next+17,Y.heap⟩=.ok (.str b.acc):=by
    rw [aLo (X:=⟨Y.next+17,Y.heap⟩) (by rw [←hh] at hg;exact hg) hk'];rfl
   simp only [dE] at H'
   simp only [aGs,kk,aU hk,if_true,aDv hkl,Nat.add_zero,hld,lV hi,Bal.enc,gC (show n<1000000000 by omega)]
   cases c:fG b.acc x.acc<;>simp only [c,kk,if_true,if_false,Bool.false_eq_true] at H' ⊢
   ·have H':n=aL cur x.acc:=H'
    rw [H']
    exact hj0 _ hh (by show X.next≤Y.next+17;omega)
   ·exact H' _ _ ⟨rfl,hh,by show X.next≤Y.next+17;omega⟩
  ·rintro n vs Y ⟨rfl,rfl,hh,hn⟩ again' H'
   have H':cur.length=aL cur x.acc:=H'
   simp only [aGs,kk,Int.lt_irrefl,if_false]
   have:=hj0 ⟨Y.next+17,Y.heap⟩ hh (by show X.next≤Y.next+17;omega)
   rw [←H'] at this
   exact this
 ·rintro cur vs X ⟨a,ver,rfl,hg,w,hlen⟩ aE H
  have H:(cur,(0:Int))=aD bM (fun l=>(l,0)) l book:=H
  obtain ⟨v,hv⟩:∃ v,v=V.sl a ver 2 0 cur.length:=⟨_,rfl⟩
  have own:=bIy aDe (l:=cur) hg (w _ _ hg)
  rw [←hv] at own ⊢
  have of:=own.out fun _=>rfl
  simp only [aGt,kk,Int.lt_irrefl,if_false,oo,of,←H]
theorem yZ {a b:Int} (h:(bS a b).2≠0):(bS a b).2=7:=by
 unfold bS at h ⊢
 split at h
 ·rename_i c;rw [if_pos c]
 ·exact absurd rfl h
theorem bOx (x y:Int):fN [x,y]=if (bS 0 x).2≠0∨(bS 0 y).2≠0 then ([],7) else ([(bS 0 x).1,(bS 0 y).1],0):=by
 simp only [fN,aD,oC]
 by_cases c1:(bS 0 x).2=0
 ·by_cases c2:(bS 0 y).2=0
  ·simp [c1,c2,aD]
  ·simp [c1,c2,aD,yZ c2]
 ·simp [c1,aD,yZ c1]
theorem bOy (x y z:Int):fN [x,y,z]=if (bS 0 x).2≠0∨(bS 0 y).2≠0∨(bS 0 z).2≠0 then ([],7) else ([(bS 0 x).1,(bS 0 y).1,(bS 0 z).1],0):=by
 simp only [fN,aD,oC]
 by_cases c1:(bS 0 x).2=0
 ·by_cases c2:(bS 0 y).2=0
  ·by_cases c3:(bS 0 z).2=0
   ·simp [c1,c2,c3,aD]
   ·simp [c1,c2,c3,aD,yZ c3]
  ·simp [c1,c2,aD,yZ c2]
 ·simp [c1,aD,yZ c1]
set_option maxHeartbeats 2000000 in
theorem bOz (t:Total) (hf:t.parts.length≤1000) (S:St) (K:KW):C 197 [.agg [.int .i64 t.net,.int .i64 t.tax,.int .i64 t.gross,.imm (t.parts.map Part.enc)]] S K=K (aBf (aX t)) S:=by
 refine (bKy rfl ?_).eq S K
 have zero:∀ (X:St) (e:Int),iA X (.tup [.agg [.int .i64 0,.int .i64 0,.int .i64 0,.nils],.int .i64 e])=.ok (aBf (Total.zero,e)):=fun X e=>by
  simp only [oo,aBf,Total.zero,List.map_nil]
 have hx:=bOy t.net t.tax t.gross
 delta Tryz.f197;simp only [↓cw,↓reduceIte,Nat.reduceLT,kk,gm,gH,bC4,dA]
 have bad:¬ ((bS 0 t.net).2=0∧(bS 0 t.tax).2=0∧(bS 0 t.gross).2=0)→aX t=(Total.zero,7):=fun h=>by
  unfold aX
  rw [hx]
  rw [if_pos (show (bS 0 t.net).2≠0∨(bS 0 t.tax).2≠0∨(bS 0 t.gross).2≠0 by by_cases a:(bS 0 t.net).2=0<;>by_cases b:(bS 0 t.tax).2=0<;>simp_all)]
  rfl
 by_cases c1:(bS 0 t.net).2=0
 rotate_left
 ·simp only [↓cw,↓reduceIte,Nat.reduceLT,c1,not_false_eq_true,if_true,kk,gH,zero,bad (fun h=>c1 h.1)]
 by_cases c2:(bS 0 t.tax).2=0
 rotate_left
 ·simp only [↓cw,↓reduceIte,Nat.reduceLT,c1,c2,not_true_eq_false,if_false,not_false_eq_true,if_true,kk,gH,zero,bad (fun h=>c2 h.2.1)]
 by_cases c3:(bS 0 t.gross).2=0
 rotate_left
 ·simp only [↓cw,↓reduceIte,Nat.reduceLT,c1,c2,c3,not_true_eq_false,if_false,not_false_eq_true,if_true,kk,gH,zero,bad (fun h=>c3 h.2.2),decide_false,Bool.not_false]
 have hx:fN [t.net,t.tax,t.gross]=([(bS 0 t.net).1,(bS 0 t.tax).1,(bS 0 t.gross).1],0):=by rw [hx,if_neg (by simp [c1,c2,c3])]
 obtain ⟨x,hx1⟩:∃ x,x=(bS 0 t.net).1:=⟨_,rfl⟩
 obtain ⟨y,hy1⟩:∃ y,y=(bS 0 t.tax).1:=⟨_,rfl⟩
 obtain ⟨z,hz1⟩:∃ z,z=(bS 0 t.gross).1:=⟨_,rfl⟩
 rw [←hx1,←hy1,←hz1] at hx
 obtain ⟨R,hR⟩:∃ R,R=aD cX (fun l=>(l,0)) t.parts []:=⟨_,rfl⟩
 have hb:aX t=if R.2≠0 then (Total.zero,R.2) else (⟨x,y,z,R.1⟩,0):=by
  unfold aX
  rw [hx,←hR]
  rfl
 rw [hb]
 obtain ⟨S0,hS0⟩:∃ S0:St,S0=⟨1+1+1,(((Tr.nil.put 0 (.row 0 (1+1+1+1) [[.int .i64 t.net,.int .i64 t.tax,.int .i64 t.gross,.imm (t.parts.map Part.enc)]])).put 1 (.row 0 4 [[.int .i64 0,.int .i64 0,.int .i64 0,.nils]])).put (1+1) (.row 0 4 [[.int .i64 0,.int .i64 0,.int .i64 0,.nils]])).put (1+1) (.row 0 4 [[.int .i64 x,.int .i64 y,.int .i64 z,.nils]])⟩:=⟨_,rfl⟩
 have w0:WF S0:=by rw [hS0];exact eH (n:=3) (eH (n:=2) (eH (n:=1) (eH nL (by decide) (by decide)) (by decide) (by decide)) (by decide) (by decide)) (by decide) (by decide)
 have n0:S0.next=3:=by rw [hS0]
 have r0:aA S0 0 0=.ok (4,[[.int .i64 t.net,.int .i64 t.tax,.int .i64 t.gross,.imm (t.parts.map Part.enc)]]):=by rw [hS0];rfl
 have r1:aA S0 1 0=.ok (4,[[.int .i64 0,.int .i64 0,.int .i64 0,.nils]]):=by rw [hS0];rfl
 have r2:aA S0 2 0=.ok (4,[[.int .i64 x,.int .i64 y,.int .i64 z,.nils]]):=by rw [hS0];rfl
 simp only [↓cw,↓reduceIte,Nat.reduceLT,c1,c2,c3,not_true_eq_false,if_false,decide_true,Bool.not_true,kk,Bool.false_eq_true,←hx1,←hy1,←hz1,←hS0]
 refine aF t.parts (step:=cX) (fin:=fun l=>(l,0)) (fun i acc vs X=>vs=[.int .i64 0,.int .i64 (i:Int)]∧∃ v,Own E0 X 4 v (acc.map Part.enc)∧WF X∧aA X 0 0=.ok (4,[[.int .i64 t.net,.int .i64 t.tax,.int .i64 t.gross,.imm (t.parts.map Part.enc)]])∧aA X 1 0=.ok (4,[[.int .i64 0,.int .i64 0,.int .i64 0,.nils]])∧aA X 2 0=.ok (4,[[.int .i64 x,.int .i64 y,.int .i64 z,v]])∧3≤X.next∧acc.length=i∧∀ k,k<3→AM.blkOf v≠some k) (fun r=>r=R) ?_ ?_ (s:=[]) ⟨rfl,.nils,⟨.inl ⟨rfl,rfl⟩,fun c h=>by cases h⟩,w0,r0,r1,r2,by omega,rfl,fun k _ h=>by cases h⟩ hR.symm
 ·rintro i p acc vs X hi ⟨rfl,v,own,w,r0,r1,r2,n3,hal,hv⟩ aE H
  have hil:=(List.getElem?_eq_some_iff.1 hi).1
  obtain ⟨B,hB⟩:∃ B:St,B=⟨X.next+1,(X.heap.put X.next (.row 0 4 [[.str [],.int .i64 0,.int .i64 0,.int .i64 0]])).put X.next (.row 0 4 [p.enc])⟩:=⟨_,rfl⟩
  have wB:WF B:=by rw [hB];exact eH (n:=X.next+1) (eH (n:=X.next) w (by omega) (Nat.le_succ _)) (by omega) (Nat.le_refl _)
  have nB:B.next=X.next+1:=by rw [hB]
  have kB:∀ y,y<X.next→B.heap.get y=X.heap.get y:=fun y hy=>by
   rw [hB]
   show ((X.heap.put X.next _).put X.next _).get y=_
   rw [Tr.get_put_neB _ _ _ _ trivial (by omega),Tr.get_put_neB _ _ _ _ trivial (by omega)]
  have oB:Own E0 B 4 v (acc.map Part.enc):=own.same (by omega) fun a ha=>kB a (cN own ha).2
  have b1:=aG r1 (kB 1 (by omega))
  have b2:=aG r2 (kB 2 (by omega))
  have rP:aA B X.next 0=.ok (4,[p.enc]):=by rw [hB];exact aC _ _ _ _ _ _
  simp only [Part.enc] at hB rP
  have ho2:=bOx p.net p.tax
  simp only [cX] at H
  simp only [↓cw,↓reduceIte,Nat.reduceLT,kk,gm,r0,aU hi,if_true,gY hi,Part.enc,←hB,rP,bC4,dA,gC (show i<1000000000 by omega)]
  have bad:¬ ((bS 0 p.net).2=0∧(bS 0 p.tax).2=0)→R=([],7):=fun h=>by
   have:fN [p.net,p.tax]=([],7):=by rw [ho2,if_pos (by by_cases a:(bS 0 p.net).2=0<;>simp_all)]
   rw [this,if_pos (by decide)] at H
   exact H.symm
  by_cases d1:(bS 0 p.net).2=0
  rotate_left
  ·simp only [↓cw,↓reduceIte,Nat.reduceLT,d1,not_false_eq_true,if_true,kk,b1,bad (fun h=>d1 h.1)]
   exact zero _ _
  by_cases d2:(bS 0 p.tax).2=0
  rotate_left
  ·simp only [↓cw,↓reduceIte,Nat.reduceLT,d1,d2,not_true_eq_false,if_false,decide_false,Bool.not_false,kk,if_true,b1,bad (fun h=>d2 h.2)]
   exact zero _ _
  have ho2:fN [p.net,p.tax]=([(bS 0 p.net).1,(bS 0 p.tax).1],0):=by rw [ho2,if_neg (by simp [d1,d2])]
  rw [ho2,if_neg (show ¬ (0:Int)≠0 by decide)] at H
  obtain ⟨v',Z,q1,oZ,wZ,nZ,vZ,kZ⟩:=bBc (b:=40) oB wB (c:=Part.enc { p with net:=(bS 0 p.net).1,tax:=(bS 0 p.tax).1 }) (aF6 _) (by rw [List.length_map];omega) (by rw [List.length_map];unfold dW;omega)
  simp only [Part.enc] at q1
  have z0:=aG r0 ((kZ 0 (by omega) (hv 0 (by decide))).trans (kB 0 (by omega)))
  have z1:=aG r1 ((kZ 1 (by omega) (hv 1 (by decide))).trans (kB 1 (by omega)))
  have z2:=aG r2 ((kZ 2 (by omega) (hv 2 (by decide))).trans (kB 2 (by omega)))
  have vn:∀ k,k<3→AM.blkOf v'≠some k:=fun k hk e=>by
   rcases vZ with q | q
   ·exact hv k hk (q▸e)
   ·rw [q] at e;cases e;omega
  simp only [↓cw,↓reduceIte,Nat.reduceLT,d1,d2,not_true_eq_false,if_false,decide_true,Bool.not_true,kk,Bool.false_eq_true,gm,b2,rP,aL6,q1,z2,oZ.one,oZ.cells,gC (show i<1000000000 by omega)]
  refine H _ _ ⟨rfl,v',?_,eH (n:=Z.next) wZ (show 2<Z.next by omega) (Nat.le_refl _),aH (n:=Z.next) (by decide) z0,aH (n:=Z.next) (by decide) z1,aC _ _ _ _ _ _,by show 3≤Z.next;omega,by simp [hal],vn⟩
  rw [List.map_append]
  exact oZ.same (S':=⟨Z.next,Z.heap.put 2 (.row 0 4 [[.int .i64 x,.int .i64 y,.int .i64 z,v']])⟩) (Nat.le_refl _) fun a ha=>Tr.get_put_neB _ _ _ _ trivial fun e=>vn 2 (by decide) (by rw [←e];exact ha)
 ·rintro acc vs X ⟨rfl,v,own,w,r0,r1,r2,n3,hal,hv⟩ aE H
  have H:(acc,(0:Int))=R:=H
  have of:=(own.same (S':=⟨X.next,X.heap.put 1 (.row 0 4 [[.int .i64 x,.int .i64 y,.int .i64 z,v]])⟩) (Nat.le_refl _) fun a ha=>Tr.get_put_neB _ _ _ _ trivial fun e=>hv 1 (by decide) (by rw [←e];exact ha)).out fun _=>rfl
  simp only [↓cw,↓reduceIte,Nat.reduceLT,kk,gm,r0,r1,r2,Int.lt_irrefl,if_false,←H,own.one,own.cells]
  simp only [oo,aBf,of,ne_eq,not_true_eq_false,if_false]
def pN (r:Ref) (n:Nat) (q:Posted):Bool⊕Nat:=.inr (n+if q.of=r then 1 else 0)
theorem aV7 (r:Ref) (fin:Nat→Bool):∀ (l:List Posted) (n:Nat),aD (pN r) fin l n=fin (n+jY l r)
 | [],n=>rfl
 | q::l,n=>by
  simp only [aD,pN]
  rw [aV7 r fin l,tQ,Nat.add_assoc]
def zA (p:Posted) (u:Unit) (q:Posted):Bool⊕Unit:=if q.ref=p.of then .inl (aFp q p) else .inr ()
theorem aFt (p:Posted):∀ (l:List Posted) (u:Unit),aD (zA p) (fun _=>false) l u=oK p l
 | [],u=>rfl
 | q::l,u=>by
  simp only [aD,zA,oK]
  by_cases c:q.ref=p.of
  ·rw [if_pos c,if_pos c]
  ·rw [if_neg c,if_neg c];exact aFt p l ()
def aC8 (l:List Posted) (i:Nat) (p:Posted) (n:Nat):Bool:=
 if 1<n then false else if p.back≠decide (n=1) then false else if p.of=Ref.zero then true else if p.back=true then false else oK p (l.take i)
theorem aQ9 (l:List Posted) (i:Nat) (p:Posted):pM l i p=aD (pN p.ref) (aC8 l i p) (l.drop (i+1)) 0:=by
 rw [aV7,Nat.zero_add];rfl
set_option maxHeartbeats 2000000 in
theorem bP0 (l:List Posted) (hb:l.length<1000000) (hq:∀ q∈l,q.total.parts.length≤1000) {i:Nat} {p:Posted} (hi:l[i]?=some p) (S:St) (K:KW):C 120 [.imm (l.map Posted.enc),.int .i64 (i:Int)] S K=K (.bool (pM l i p)) S:=by
 refine (bJv rfl ?_).eq S K
 have hil:=(List.getElem?_eq_some_iff.1 hi).1
 have hpb:=hq p (List.mem_of_getElem? hi)
 have ei:l.drop (i+1)=l.drop (i+1):=rfl
 delta Tryz.f120;simp only [↓cw,↓reduceIte,Nat.reduceLT,kk,fX hi,Posted.enc,gC (show i<1000000000 by omega)]
 obtain ⟨S0,hS0⟩:∃ S0:St,S0=⟨0+1,(Tr.nil.put 0 (.row 0 12 [sD])).put 0 (.row 0 12 [p.enc])⟩:=⟨_,rfl⟩
 have r0:aA S0 0 0=.ok (12,[p.enc]):=by rw [hS0];rfl
 have n0:1≤S0.next:=by rw [hS0];exact Nat.le_refl _
 simp only [sD,Posted.enc] at hS0
 simp only [←hS0]
 refine aF (l.drop (i+1)) (step:=pN p.ref) (fin:=aC8 l i p) (fun k n vs X=>vs=[.int .i64 (n:Int),.int .i64 ((i+1+k:Nat):Int)]∧n≤k∧aA X 0 0=.ok (12,[p.enc])∧1≤X.next) (fun r=>r=pM l i p) ?_ ?_ (s:=0) ⟨rfl,Nat.le_refl _,r0,n0⟩ (aQ9 l i p).symm
 ·rintro k q n vs X hk ⟨rfl,hn,r0,n1⟩ aE H
  rw [List.getElem?_drop] at hk
  have hkl:=(List.getElem?_eq_some_iff.1 hk).1
  simp only [pN] at H
  simp only [Posted.enc] at r0
  simp only [↓cw,↓reduceIte,Nat.reduceLT,kk,gm,aU hk,if_true,fX hk,Posted.enc,r0,gC (show i+1+k<1000000000 by omega),gC (show n<1000000000 by omega)]
  by_cases c:q.of=p.ref
  ·have c':(q.of.ser == p.ref.ser&&decide (q.of.num=p.ref.num))=true:=by rw [c];simp
   simp only [c,if_true] at H
   simp only [c',if_true]
   exact H _ _ ⟨rfl,by omega,r0,by show 1≤X.next+8;omega⟩
  ·have c':¬ (q.of.ser == p.ref.ser&&decide (q.of.num=p.ref.num))=true:=by rw [Ref.ext_iff] at c;simpa using c
   simp only [c,if_false,Nat.add_zero] at H
   simp only [c',if_false]
   exact H _ _ ⟨rfl,by omega,r0,by show 1≤X.next+8;omega⟩
 ·rintro n vs X ⟨rfl,hn,r0,n1⟩ aE H
  have H:aC8 l i p n=pM l i p:=H
  have hge:¬ ((i+1+(l.drop (i+1)).length:Nat):Int)<(l.length:Int):=by rw [List.length_drop];omega
  simp only [Posted.enc] at r0
  rw [←H]
  simp only [↓cw,↓reduceIte,Nat.reduceLT,aC8,kk,hge,if_false,r0,zY,gm]
  by_cases c1:1<n
  ·simp only [c1,show (1:Int)<(n:Int) by omega,if_true,oo]
  simp only [c1,show ¬ (1:Int)<(n:Int) by omega,if_false]
  have e1:decide ((n:Int)=1)=decide (n=1):=by rw [Bool.eq_iff_iff];simp;omega
  rw [e1]
  by_cases c2:p.back=decide (n=1)
  rotate_left
  ·have c2':(p.back == decide (n=1))=false:=by simpa using c2
   simp only [c2,c2',ne_eq,not_false_eq_true,if_true,Bool.not_false,oo]
  have c2':(p.back == decide (n=1))=true:=by simpa using c2
  rw [if_neg (show ¬ p.back≠decide (n=1) from fun h=>h c2)]
  simp only [c2',Bool.not_true,Bool.false_eq_true,if_false]
  by_cases c3:p.of=Ref.zero
  ·have c3':(p.of.ser == []&&decide (p.of.num=0))=true:=by rw [c3];rfl
   rw [if_pos c3,if_pos c3']
  have c3':¬ (p.of.ser == []&&decide (p.of.num=0))=true:=by rw [Ref.ext_iff] at c3;simpa [Ref.zero] using c3
  simp only [↓cw,↓reduceIte,Nat.reduceLT,c3,c3',if_false,kk]
  cases c4:p.back
  rotate_left
  ·simp only [c4,if_true,oo]
  simp only [c4,Bool.false_eq_true,if_false]
  have lt:(l.take i).length=i:=by rw [List.length_take];omega
  refine aF (l.take i) (step:=zA p) (fin:=fun _=>false) (fun k u vs X=>vs=[.bool false,.int .i64 (k:Int)]∧aA X 0 0=.ok (12,[p.enc])∧1≤X.next) (fun r=>r=oK p (l.take i)) ?_ ?_ (s:=()) ⟨rfl,r0,n1⟩ (aFt p (l.take i) ())
  ·rintro k q u vs X hk ⟨rfl,r0,n1⟩ aE H
   have hki:=(List.getElem?_eq_some_iff.1 hk).1
   rw [lt] at hki
   rw [List.getElem?_take,if_pos hki] at hk
   have hqb:=hq q (List.mem_of_getElem? hk)
   have hbl:=uK q.total
   simp only [zA] at H
   simp only [Posted.enc] at r0
   simp only [↓cw,↓reduceIte,Nat.reduceLT,kk,gm,show (k:Int)<(i:Int) by omega,if_true,fX hk,Posted.enc,r0,gC (show k<1000000000 by omega),bOz q.total hqb,aBf]
   obtain ⟨T,hT⟩:∃ T,T=(aX q.total).1:=⟨_,rfl⟩
   simp only [aFp,←hT] at H
   rw [←hT] at hbl
   simp only [←hT]
   obtain ⟨B,hB⟩:∃ B:St,B=⟨X.next+8+1+49,(X.heap.put (X.next+8) (Blk.row 0 4 [[V.int IntKind.i64 0,V.int IntKind.i64 0,V.int IntKind.i64 0,V.nils]])).put (X.next+8) (Blk.row 0 4 [[V.int IntKind.i64 T.net,V.int IntKind.i64 T.tax,V.int IntKind.i64 T.gross,V.imm (List.map Part.enc T.parts)]])⟩:=⟨_,rfl⟩
   have b0:∀ m,aA ⟨m,B.heap⟩ 0 0=.ok (12,[p.enc]):=fun m=>by rw [hB];exact aH (n:=X.next) (by omega) (aH (n:=X.next) (by omega) r0)
   have b8:∀ m,aA ⟨m,B.heap⟩ (X.next+8) 0=.ok (4,[[V.int IntKind.i64 T.net,V.int IntKind.i64 T.tax,V.int IntKind.i64 T.gross,V.imm (List.map Part.enc T.parts)]]):=fun m=>by rw [hB];exact aC _ _ _ _ _ _
   have bn:X.next+58=B.next:=by rw [hB]
   have b0':=b0 (X.next+8+1)
   have b1:=b0 B.next
   have b8':=b8 B.next
   simp only [Posted.enc] at b0 b0' b1
   have hh:B.heap=(X.heap.put (X.next+8) (Blk.row 0 4 [[V.int IntKind.i64 0,V.int IntKind.i64 0,V.int IntKind.i64 0,V.nils]])).put (X.next+8) (Blk.row 0 4 [[V.int IntKind.i64 T.net,V.int IntKind.i64 T.tax,V.int IntKind.i64 T.gross,V.imm (List.map Part.enc T.parts)]]):=by rw [hB]
   have hBe:(⟨X.next+8+1+49,B.heap⟩:St)=B:=by rw [hB]
   rw [←hh,hBe]
   by_cases d0:q.ref=p.of
   rotate_left
   ·have d0':(!(q.ref.ser == p.of.ser&&decide (q.ref.num=p.of.num)))=true:=by rw [Ref.ext_iff] at d0;simp;exact Decidable.not_and_iff_or_not.1 d0
    simp only [d0,if_false] at H
    simp only [d0',if_true]
    exact H _ _ ⟨rfl,r0,by show 1≤X.next+8;omega⟩
   have d0':¬ (!(q.ref.ser == p.of.ser&&decide (q.ref.num=p.of.num)))=true:=by rw [d0];simp
   rw [if_pos d0] at H
   rw [if_neg d0']
   by_cases d1:(aX q.total).2=0
   rotate_left
   ·rw [if_pos d1] at H
    rw [if_pos d1,←H]
   rw [if_neg (fun h=>h d1)] at H
   rw [if_neg (fun h=>h d1)]
   by_cases d2:q.of=Ref.zero
   rotate_left
   ·have d2':(!(q.of.ser == []&&decide (q.of.num=0)))=true:=by rw [Ref.ext_iff] at d2;simp;exact Decidable.not_and_iff_or_not.1 d2
    rw [if_pos d2] at H
    rw [if_pos d2',←H]
   have d2':¬ (!(q.of.ser == []&&decide (q.of.num=0)))=true:=by rw [d2];decide
   rw [if_neg (fun h=>h d2)] at H
   rw [if_neg d2']
   simp only [↓cw,↓reduceIte,Nat.reduceLT,b0',kk,bC7]
   by_cases d3:p.day.days<q.day.days
   ·rw [if_pos d3] at H
    rw [if_pos d3,←H]
   rw [if_neg d3] at H
   rw [if_neg d3]
   simp only [↓cw,↓reduceIte,Nat.reduceLT,b1,b8',kk]
   by_cases d4:T.net=p.total.net
   rotate_left
   ·rw [decide_eq_false d4,Bool.false_and] at H
    rw [if_pos d4,←H]
   rw [if_neg (fun h=>h d4)]
   by_cases d5:T.tax=p.total.tax
   rotate_left
   ·rw [decide_eq_false d5,Bool.false_and,Bool.and_false] at H
    rw [if_pos d5,←H]
   rw [if_neg (fun h=>h d5)]
   rw [decide_eq_true d4,decide_eq_true d5,Bool.true_and,Bool.true_and] at H
   by_cases d6:T.parts.length=p.total.parts.length
   rotate_left
   ·have:¬ T.parts=p.total.parts:=fun h=>d6 (by rw [h])
    rw [decide_eq_false this] at H
    rw [if_pos (show ¬ ((T.parts.length:Nat):Int)=(p.total.parts.length:Int) by omega),←H]
   rw [if_neg (show ¬ ¬ ((T.parts.length:Nat):Int)=(p.total.parts.length:Int) by omega)]
   refine aF T.parts (step:=dQ p.total.parts) (fin:=fun _=>true) (fun j n vs Y=>n=j∧vs=[.bool false,.int .i64 (j:Int)]∧Y.heap=B.heap) (fun r=>r=oK p (l.take i)) ?_ ?_ (s:=0) ⟨rfl,rfl,rfl⟩ (by rw [eqL d6];exact H)
   ·rintro j x n vs Y hj ⟨rfl,rfl,hY⟩ again' H'
    have hjl:=(List.getElem?_eq_some_iff.1 hj).1
    have hj2:p.total.parts[n]?=some p.total.parts[n]:=List.getElem?_eq_getElem (by omega)
    have y8:∀ m,aA ⟨m,Y.heap⟩ (X.next+8) 0=.ok (4,[[V.int IntKind.i64 T.net,V.int IntKind.i64 T.tax,V.int IntKind.i64 T.gross,V.imm (List.map Part.enc T.parts)]]):=fun m=>by rw [hY];exact b8 m
    have y0:∀ m,aA ⟨m,Y.heap⟩ 0 0=.ok (12,[p.enc]):=fun m=>by rw [hY];exact b0 m
    have y8':aA Y (X.next+8) 0=.ok (4,[[V.int IntKind.i64 T.net,V.int IntKind.i64 T.tax,V.int IntKind.i64 T.gross,V.imm (List.map Part.enc T.parts)]]):=y8 Y.next
    simp only [Posted.enc] at y0
    generalize hz:p.total.parts[n]=z at hj2
    have he:(z=x)=(x.cat=z.cat∧x.bp=z.bp∧x.net=z.net∧x.tax=z.tax):=by
     obtain ⟨_,_,_,_⟩:=x;obtain ⟨_,_,_,_⟩:=z;simp [and_assoc,eq_comm]
    simp only [dQ,hj2,Option.some.injEq,he] at H'
    simp only [↓cw,↓reduceIte,Nat.reduceLT,kk,gm,y8,y0,y8',aU hj,if_true,gY hj,gY hj2,Part.enc,gC (show n<1000000000 by omega)]
    by_cases c:x.cat=z.cat∧x.bp=z.bp∧x.net=z.net∧x.tax=z.tax
    ·have c':¬ (!(x.cat == z.cat&&decide (x.bp=z.bp)&&decide (x.net=z.net)&&decide (x.tax=z.tax)))=true:=by simp [c]
     rw [if_pos c] at H'
     rw [if_neg c']
     exact H' _ _ ⟨rfl,rfl,hY⟩
    ·have c':(!(x.cat == z.cat&&decide (x.bp=z.bp)&&decide (x.net=z.net)&&decide (x.tax=z.tax)))=true:=by
      rw [Bool.not_eq_true',Bool.eq_false_iff]
      intro h
      simp only [Bool.and_eq_true,decide_eq_true_eq,beq_iff_eq] at h
      exact c ⟨h.1.1.1,h.1.1.2,h.1.2,h.2⟩
     rw [if_neg c] at H'
     have H':false=oK p (l.take i):=H'
     rw [if_pos c',←H']
   ·rintro n vs Y ⟨rfl,rfl,hY⟩ again' H'
    have H':true=oK p (l.take i):=H'
    have y8:aA Y (X.next+8) 0=.ok (4,[[V.int IntKind.i64 T.net,V.int IntKind.i64 T.tax,V.int IntKind.i64 T.gross,V.imm (List.map Part.enc T.parts)]]):=by have:=b8 Y.next;rw [←hY] at this;exact this
    simp only [↓cw,↓reduceIte,Nat.reduceLT,kk,gm,y8,Int.lt_irrefl,if_false,oo,←H']
  ·rintro u vs X ⟨rfl,r0,n1⟩ aE H
   have H:false=oK p (l.take i):=H
   simp only [↓cw,↓reduceIte,Nat.reduceLT,kk,lt,Int.lt_irrefl,if_false,oo,←H]
theorem bP1 {v:V} (book l:List Bal) (hv:v=.imm (book.map Bal.enc)∨(v=.nils∧book=[])) (hbb:book.length+l.length<1000000) (S:St) (K:KW):C 122 [v,.imm (l.map Bal.enc)] S K=K (.tup [.imm ((bI book l).1.map Bal.enc),.int .i64 (bI book l).2]) S:=by
 rcases hv with rfl | ⟨rfl,rfl⟩
 ·exact bJ2 book l hbb S K
 ·exact (Fn.back (args:=[.imm [],.imm (l.map Bal.enc)]) fun S K=>bJ2 [] l hbb S K).frz bDu rfl rfl rfl (.inr rfl) K
def lS (n:Int):List V:=[.int .i64 n]
theorem bP2 {n:Nat} (hn:n≤8) (S:St):dZ prog 96 (.int .i64 (n:Int)) (.int .i64 (n:Int)) none S=.ok (.sl S.next 0 1 0 n,⟨S.next+1,S.heap.put S.next (.row 0 1 ((List.replicate n (0:Int)).map lS))⟩):=by
 have h1:jF prog 96=some 3:=by kernel_rfl
 have h2:aN prog 3=some (.int .i64 0):=by kernel_rfl
 have h3:sz prog 3=1:=by kernel_rfl
 have h4:room prog 3 n=true:=match n,hn with
  | 0,_=>by kernel_rfl
  | 1,_=>by kernel_rfl
  | 2,_=>by kernel_rfl
  | 3,_=>by kernel_rfl
  | 4,_=>by kernel_rfl
  | 5,_=>by kernel_rfl
  | 6,_=>by kernel_rfl
  | 7,_=>by kernel_rfl
  | 8,_=>by kernel_rfl
  | k+9,h=>absurd h (by omega)
 have h5:(decide ((0:Int)≤(n:Int))&&decide ((n:Int)≤(n:Int))&&decide ((n:Int)<2147483648))=true:=by simp;omega
 simp only [dZ,h1,h2,h3,Int.toNat_natCast,h4,V.cells,List.length_cons,List.length_nil,Nat.zero_add,Nat.beq_refl,Bool.true_and,Bool.and_true,h5,cond_true,eQ,List.map_replicate,lS]
theorem aV8 (b:Bool):∀ (l:List Ser) (is:List Int),aD fQ (fun _=>b) l is=(aD fQ (fun _=>true) l is&&b)
 | [],is=>by simp [aD]
 | s::l,is=>by
  simp only [aD,fQ]
  by_cases c:is.headD 0=wr .i64 (s.next - 1)
  ·rw [if_pos c];exact aV8 b l _
  ·rw [if_neg c];rfl
set_option maxHeartbeats 4000000 in
theorem g38 (s:State) (hI:yX s) (hp:s.posted.length<1000000) (hq:∀ q∈s.posted,q.total.parts.length≤1000) (S:St) (K:KW):C 38 [.agg [.imm (s.table.map Rate.enc),.imm (s.ser.map Ser.enc),.imm (s.posted.map Posted.enc),.imm (s.book.map Bal.enc),.imm (s.sess.map Sess.enc),.int .i64 s.next]] S K=K (.bool (aDt s)) S:=by
 refine (v38 rfl ?_).eq S K
 obtain ⟨R,hR⟩:∃ R,R=aDt s:=⟨_,rfl⟩
 rw [←hR]
 unfold aDt at hR
 simp only [m38,kk,gm,bOo,bOp,bOq]
 cases c1:eD s.table
 ·rw [if_pos c1] at hR;rw [hR];simp only [kk,if_true,oo]
 rw [if_neg (by rw [c1];decide)] at hR
 cases c2:kO s.ser
 ·rw [if_pos c2] at hR;rw [hR];simp only [kk,Bool.false_eq_true,if_false,if_true,oo]
 rw [if_neg (by rw [c2];decide)] at hR
 cases c3:eT s.sess
 ·rw [if_pos c3] at hR;rw [hR];simp only [kk,Bool.false_eq_true,if_false,if_true,oo]
 rw [if_neg (by rw [c3];decide)] at hR
 have hsl:=mZ c2
 have hel:=kN c3
 simp only [kk,Bool.true_eq_false,Bool.false_eq_true,if_false]
 by_cases c4:40<s.posted.length
 ·rw [if_pos c4] at hR;rw [hR]
  simp only [show (40:Int)<(s.posted.length:Int) by omega,kk,if_true,oo]
 rw [if_neg c4] at hR
 simp only [show ¬ (40:Int)<(s.posted.length:Int) by omega,if_false]
 by_cases c5:s.next<1
 ·rw [if_pos c5] at hR;rw [hR];simp only [c5,if_true,oo]
 rw [if_neg c5] at hR
 simp only [c5,if_false]
 by_cases c6:1099511627776<s.next
 ·rw [if_pos c6] at hR;rw [hR];simp only [c6,if_true,oo]
 rw [if_neg c6] at hR
 simp only [c6,if_false]
 have hj0:∀ Y:St,aA Y 0 0=.ok (6,[s.enc])→1≤Y.next→R=aD (rV s) (aJh s) s.posted ⟨[],List.replicate s.ser.length 0,[]⟩→aGq C (fun v0 S0=>iA S0 v0=.ok (.bool R)) (.ptr 0 0 0 0) Y:=by
  intro Y y0 yn hR
  have y0':=y0
  simp only [State.enc] at y0
  simp only [aGq,kk,gm,y0,bP2 hsl]
  obtain ⟨tb,htb⟩:∃ tb,tb=Y.next:=⟨_,rfl⟩
  rw [←htb]
  refine aF s.posted (step:=rV s) (fin:=aJh s) (fun i st vs X=>∃ v,vs=[.bool false,v,.int .i64 (i:Int)]∧(v=.imm (st.book.map Bal.enc)∨(v=.nils∧st.book=[]))∧aA X 0 0=.ok (6,[s.enc])∧X.heap.get tb=some (.row 0 1 (st.taken.map lS))∧tb<X.next∧st.taken.length=s.ser.length∧st.done.length=i∧st.book.length≤25*i) (fun r=>r=R) ?_ ?_ (s:=⟨[],List.replicate s.ser.length 0,[]⟩) ⟨.nils,rfl,.inr ⟨rfl,rfl⟩,aH (n:=Y.next) (by omega) y0',Tr.get_put_sameB _ _ _ trivial,Nat.lt_succ_self _,List.length_replicate,rfl,Nat.zero_le _⟩ hR.symm
  ·rintro i p ⟨done,taken,book⟩ vs X hi ⟨v,rfl,hv,x0,hg,htX,htl,hdl,hbl⟩ aE H
   simp only at hv hg htl hdl hbl
   have hil:=(List.getElem?_eq_some_iff.1 hi).1
   have hpm:=List.mem_of_getElem? hi
   simp only [State.enc] at x0
   simp only [rV,hdl] at H
   simp only [aL0,kk,gm,x0,aU hi,if_true,fX hi,Posted.enc,bIx s.ser p.ref.ser (by omega),gC (show i<1000000000 by omega)]
   obtain ⟨B,hB⟩:∃ B:St,B=⟨X.next+1,(X.heap.put X.next (.row 0 12 [sD])).put X.next (.row 0 12 [p.enc])⟩:=⟨_,rfl⟩
   have kB:∀ y,y≠X.next→B.heap.get y=X.heap.get y:=fun y hy=>by
    rw [hB]
    show ((X.heap.put X.next _).put X.next _).get y=_
    rw [Tr.get_put_neB _ _ _ _ trivial hy,Tr.get_put_neB _ _ _ _ trivial hy]
   have h0X:0<X.next:=by omega
   have b0:∀ m,aA ⟨m,B.heap⟩ 0 0=.ok (6,[s.enc]):=fun m=>aG (S:=X) x0 (kB 0 (by omega))
   have bP:∀ m,aA ⟨m,B.heap⟩ X.next 0=.ok (12,[p.enc]):=fun m=>by rw [hB];exact aC _ _ _ _ _ _
   have bT:B.heap.get tb=some (.row 0 1 (taken.map lS)):=by rw [kB tb (by omega)];exact hg
   have bn:B.next=X.next+1:=by rw [hB]
   have b0':aA B 0 0=.ok (6,[s.enc]):=b0 B.next
   have bP':aA B X.next 0=.ok (12,[p.enc]):=bP B.next
   simp only [State.enc] at b0 b0'
   simp only [Posted.enc] at bP bP'
   simp only [sD,Posted.enc] at hB
   simp only [←hB,b0',bP',kk,bIx s.ser p.ref.ser (show s.ser.length<1000000 by omega)]
   by_cases d0:dD s.ser p.ref.ser<0
   ·rw [if_pos d0] at H
    rw [if_pos d0,←H]
   rw [if_neg d0] at H
   rw [if_neg d0]
   obtain ⟨k,x,e,hk⟩:=aQ6 d0
   have hkl:=(List.getElem?_eq_some_iff.1 hk).1
   have hkt:(taken.map lS)[k]?=some (lS (taken.getD k 0)):=by
    rw [List.getElem?_map,List.getD_eq_getElem?_getD,List.getElem?_eq_getElem (by omega)];rfl
   have hld:∀ m,iJ none (.ptr tb 0 k 0) ⟨m,B.heap⟩=.ok (.int .i64 (taken.getD k 0)):=fun m=>by rw [aLo (X:=⟨m,B.heap⟩) bT hkt];rfl
   have hst:=fun m=>aOb (X:=⟨m,B.heap⟩) (v:=.int .i64 (wr .i64 (taken.getD k 0+1))) (j:=0) bT hkt rfl rfl (Nat.le_refl _)
   have hset:(taken.map lS).set k (splice (lS (taken.getD k 0)) 0 [.int .i64 (wr .i64 (taken.getD k 0+1))])=(taken.set k (wr .i64 (taken.getD k 0+1))).map lS:=by rw [List.map_set];rfl
   simp only [e,Int.toNat_natCast] at H
   simp only [e,aDv hkl,hld,kk,bP]
   by_cases d1:p.ref.num=wr .i64 (taken.getD k 0+1)
   rotate_left
   ·rw [if_pos d1] at H
    rw [if_pos d1,←H]
   rw [if_neg (fun h=>h d1)] at H
   rw [if_neg (fun h=>h d1)]
   simp only [aL5,kk,bP]
   cases d2:p.day.right
   ·rw [if_pos d2] at H
    simp only [Bool.not_false,if_true,←H]
   rw [if_neg (by rw [d2];decide)] at H
   simp only [Bool.not_true,Bool.false_eq_true,if_false,bOv p.total (hI p hpm),kk,b0]
   cases d3:bY p.total
   ·rw [if_pos d3] at H
    simp only [Bool.not_false,if_true,←H]
   rw [if_neg (by rw [d3];decide)] at H
   simp only [Bool.not_true,Bool.false_eq_true,if_false,bP0 s.posted hp hq hi,kk]
   cases d4:pM s.posted i p
   ·rw [if_pos d4] at H
    simp only [Bool.not_false,if_true,←H]
   rw [if_neg (by rw [d4];decide)] at H
   have hft:=tD d3
   obtain ⟨D,hD⟩:∃ D:St,D=⟨B.next+32,B.heap.put tb (.row 0 1 ((taken.set k (wr .i64 (taken.getD k 0+1))).map lS))⟩:=⟨_,rfl⟩
   have hst':fU 1 (.ptr tb 0 k 0) (.int .i64 (wr .i64 (taken.getD k 0+1))) ⟨B.next+32,B.heap⟩=.ok D:=by rw [hst,hset,hD]
   have dP:aA D X.next 0=.ok (12,[p.enc]):=by rw [hD];exact aH (n:=B.next) (by omega) (bP B.next)
   have d0r:aA D 0 0=.ok (6,[s.enc]):=by rw [hD];exact aH (n:=B.next) (by omega) (b0 B.next)
   have dn:D.next=B.next+32:=by rw [hD]
   simp only [Posted.enc] at dP
   simp only [Bool.not_true,Bool.false_eq_true,if_false,hld,hst',dP,bOw p.total hft,kk]
   by_cases d5:(cD p.total).2=0
   rotate_left
   ·rw [if_pos d5] at H
    rw [if_pos d5,←H]
   have hle:=(tC p.total).resolve_right (not_not_intro d5)
   have h12:=hft.1
   have hle2:=rA book (cD p.total).1
   rw [if_neg (fun h=>h d5)] at H
   rw [if_neg (fun h=>h d5),bP1 book _ hv (show book.length+(cD p.total).1.length<1000000 by omega)]
   simp only [kk]
   by_cases d6:(bI book (cD p.total).1).2=0
   rotate_left
   ·rw [if_pos d6] at H
    rw [if_pos d6,←H]
   rw [if_neg (fun h=>h d6)] at H
   rw [if_neg (fun h=>h d6)]
   exact H _ _ ⟨_,rfl,.inl rfl,d0r,by rw [hD];exact Tr.get_put_sameB _ _ _ trivial,by omega,by rw [List.length_set];exact htl,by rw [List.length_append,hdl];rfl,by show (bI book (cD p.total).1).1.length≤_;omega⟩
  ·rintro ⟨done,taken,book⟩ vs X ⟨v,rfl,hv,x0,hg,htX,htl,hdl,hbl⟩ aE H
   simp only at hv hg htl hdl hbl
   have H:aJh s ⟨done,taken,book⟩=R:=H
   unfold aJh at H
   rw [←aV8] at H
   simp only [State.enc] at x0
   simp only [aL0,kk,gm,x0,Int.lt_irrefl,if_false]
   have lv:lenW v=.ok (.int .i64 (book.length:Int)):=by rcases hv with rfl | ⟨rfl,rfl⟩<;>simp [lenW]
   refine aF s.ser (step:=fQ) (fin:=fun _=>decide (book=s.book)) (fun i is vs Z=>vs=[.bool false,.int .i64 (i:Int)]∧is=taken.drop i∧Z.heap=X.heap) (fun r=>r=R) ?_ ?_ (s:=taken) ⟨rfl,rfl,rfl⟩ H
   ·rintro i x is vs Z hi ⟨rfl,rfl,hZ⟩ again' H'
    have hil:=(List.getElem?_eq_some_iff.1 hi).1
    have hkt:(taken.map lS)[i]?=some (lS (taken.getD i 0)):=by
     rw [List.getElem?_map,List.getD_eq_getElem?_getD,List.getElem?_eq_getElem (by omega)];rfl
    have hhd:(taken.drop i).headD 0=taken.getD i 0:=by rw [List.drop_eq_getElem_cons (by omega),List.getD_eq_getElem?_getD,List.getElem?_eq_getElem (by omega)];rfl
    have htl':(taken.drop i).tail=taken.drop (i+1):=by rw [List.drop_eq_getElem_cons (by omega)];rfl
    have hld:∀ m,iJ none (.ptr tb 0 i 0) ⟨m,Z.heap⟩=.ok (.int .i64 (taken.getD i 0)):=fun m=>by rw [aLo (X:=⟨m,Z.heap⟩) (by rw [←hZ] at hg;exact hg) hkt];rfl
    have z0:∀ m,aA ⟨m,Z.heap⟩ 0 0=.ok (6,[s.enc]):=fun m=>by rw [hZ];exact x0
    simp only [State.enc] at z0
    simp only [fQ,hhd,htl'] at H'
    simp only [aKz,kk,gm,aU hi,if_true,aDv hil,hld,z0,oG hi,Ser.enc,gC (show i<1000000000 by omega)]
    by_cases c:taken.getD i 0=wr .i64 (x.next - 1)
    ·rw [if_pos c] at H'
     rw [if_neg (fun h=>h c)]
     exact H' _ _ ⟨rfl,rfl,hZ⟩
    ·rw [if_neg c] at H'
     have H':false=R:=H'
     rw [if_pos c,←H']
   ·rintro is vs Z ⟨rfl,rfl,hZ⟩ again' H'
    have H':decide (book=s.book)=R:=H'
    have z0:∀ m,aA ⟨m,Z.heap⟩ 0 0=.ok (6,[s.enc]):=fun m=>by rw [hZ];exact x0
    have z0':aA Z 0 0=.ok (6,[s.enc]):=z0 Z.next
    simp only [State.enc] at z0 z0'
    simp only [aKz,kk,gm,Int.lt_irrefl,if_false,lv,z0']
    by_cases c:book.length=s.book.length
    rotate_left
    ·have:¬ book=s.book:=fun h=>c (by rw [h])
     rw [decide_eq_false this] at H'
     rw [if_pos (show ¬ ((book.length:Nat):Int)=(s.book.length:Int) by omega),←H']
    rw [if_neg (show ¬ ¬ ((book.length:Nat):Int)=(s.book.length:Int) by omega)]
    refine aF book (step:=dQ s.book) (fin:=fun _=>true) (fun i n vs U=>n=i∧vs=[.bool false,.int .i64 (i:Int)]∧U.heap=X.heap) (fun r=>r=R) ?_ ?_ (s:=0) ⟨rfl,rfl,hZ⟩ (by rw [eqL c];exact H')
    ·rintro i q n vs U hi ⟨rfl,rfl,hU⟩ again2 H2
     have hil:=(List.getElem?_eq_some_iff.1 hi).1
     have hj:s.book[n]?=some s.book[n]:=List.getElem?_eq_getElem (by omega)
     have hve:v=.imm (book.map Bal.enc):=hv.resolve_right fun h=>by rw [h.2] at hi;cases hi
     have u0:∀ m,aA ⟨m,U.heap⟩ 0 0=.ok (6,[s.enc]):=fun m=>by rw [hU];exact x0
     simp only [State.enc] at u0
     generalize hz:s.book[n]=z at hj
     have he:(z=q)=(q.acc=z.acc∧q.amount=z.amount):=by
      obtain ⟨_,_⟩:=q;obtain ⟨_,_⟩:=z;simp [and_assoc,eq_comm]
     simp only [dQ,hj,Option.some.injEq,he] at H2
     simp only [aKy,kk,gm,hve,aU hi,if_true,lV hi,lV hj,Bal.enc,u0,gC (show n<1000000000 by omega)]
     by_cases c:q.acc=z.acc∧q.amount=z.amount
     ·have c':¬ (!(q.acc == z.acc&&decide (q.amount=z.amount)))=true:=by simp [c]
      rw [if_pos c] at H2
      rw [if_neg c']
      exact H2 _ _ ⟨rfl,rfl,hU⟩
     ·have c':(!(q.acc == z.acc&&decide (q.amount=z.amount)))=true:=by
       rw [Bool.not_eq_true',Bool.eq_false_iff]
       intro h
       simp only [Bool.and_eq_true,decide_eq_true_eq,beq_iff_eq] at h
       exact c h
      rw [if_neg c] at H2
      have H2:false=R:=H2
      rw [if_pos c',←H2]
    ·rintro n vs U ⟨rfl,rfl,hU⟩ again2 H2
     have H2:true=R:=H2
     simp only [aKy,kk,lv,Int.lt_irrefl,if_false,oo,←H2]
 obtain ⟨Z,hZ⟩:∃ Z:St,Z=⟨1,Tr.nil.put 0 (Blk.row 0 (1+1+1+1+1+1) [s.enc])⟩:=⟨_,rfl⟩
 have z0:∀ m,aA ⟨m,Z.heap⟩ 0 0=.ok (6,[s.enc]):=fun m=>by rw [hZ];rfl
 have zh:Z.heap=Tr.nil.put 0 (Blk.row 0 (1+1+1+1+1+1) [s.enc]):=by rw [hZ]
 simp only [State.enc] at zh
 rw [←zh]
 have z0':=z0
 simp only [State.enc] at z0'
 by_cases c7:s.sess.length=0
 ·have:s.sess=[]:=List.length_eq_zero_iff.1 c7
  rw [if_neg (by simp [rC,this])] at hR
  rw [if_neg (show ¬ (0:Int)<(s.sess.length:Int) by omega)]
  exact hj0 _ (z0 _) (by show 1≤1+14;decide) hR
 ·obtain ⟨j,hj⟩:∃ j,s.sess.length=j+1:=⟨s.sess.length - 1,by omega⟩
  have hjl:s.sess[j]?=some s.sess[j]:=List.getElem?_eq_getElem (by omega)
  rw [if_pos (show (0:Int)<(s.sess.length:Int) by omega)]
  simp only [rC,hj,Nat.add_sub_cancel,hjl] at hR
  simp only [hj,wrm (show j+1<1000000000 by omega),oQ hjl,Sess.enc,kk,gm]
  by_cases c8:s.sess[j].id<s.next
  ·rw [if_neg (by simp [c8])] at hR
   rw [if_neg (by omega)]
   exact hj0 _ (z0 _) (by show 1≤1+14;decide) hR
  ·rw [if_pos (by simp [c8])] at hR
   rw [if_pos (by omega),hR]
theorem Rate.same_iff (a b:Rate):(a=b)=(b.cat=a.cat∧b.day.y=a.day.y∧b.day.m=a.day.m∧b.day.d=a.day.d∧b.bp=a.bp):=by
 obtain ⟨_,⟨_,_,_⟩,_⟩:=a;obtain ⟨_,⟨_,_,_⟩,_⟩:=b;simp [and_assoc,eq_comm]
theorem Ser.same_iff (a b:Ser):(a=b)=(b.name=a.name∧b.next=a.next∧b.limit=a.limit∧b.shut=a.shut):=by
 obtain ⟨_,_,_,_⟩:=a;obtain ⟨_,_,_,_⟩:=b;simp [and_assoc,eq_comm]
theorem Bal.same_iff (a b:Bal):(a=b)=(b.acc=a.acc∧b.amount=a.amount):=by
 obtain ⟨_,_⟩:=a;obtain ⟨_,_⟩:=b;simp [and_assoc,eq_comm]
theorem Sess.same_iff (a b:Sess):(a=b)=(b.id=a.id∧b.last=a.last∧b.reply.why=a.reply.why∧b.reply.number=a.reply.number∧b.reply.gross=a.reply.gross):=by
 obtain ⟨_,_,⟨_,_,_⟩⟩:=a;obtain ⟨_,_,⟨_,_,_⟩⟩:=b;simp [and_assoc,eq_comm]
theorem Part.same_iff (a b:Part):(a=b)=(b.cat=a.cat∧b.bp=a.bp∧b.net=a.net∧b.tax=a.tax):=by
 obtain ⟨_,_,_,_⟩:=a;obtain ⟨_,_,_,_⟩:=b;simp [and_assoc,eq_comm]
theorem g80 (l r:List Rate) (hb:l.length<1000000) (S:St) (K:KW):C 80 [.imm (l.map Rate.enc),.imm (r.map Rate.enc)] S K=K (.bool (decide (l=r))) S:=by
 refine (v80 rfl ?_).eq S K
 delta Tryz.f80;simp only [↓cw,↓reduceIte,Nat.reduceLT,kk]
 by_cases h:l.length=r.length
 ·simp only [↓cw,↓reduceIte,Nat.reduceLT,show (l.length:Int)=(r.length:Int) by omega,kk,not_true_eq_false,if_false]
  refine aF l (step:=dQ r) (fin:=fun _=>true) (fun i n vs S=>n=i∧vs=[.bool false,.int .i64 (i:Int)]) (fun x=>x=decide (l=r)) ?_ ?_ (s:=0) ⟨rfl,rfl⟩ (eqL h)
  ·rintro i p n vs S hi ⟨rfl,rfl⟩ aE H
   have hil:=(List.getElem?_eq_some_iff.1 hi).1
   have hj:r[n]?=some r[n]:=List.getElem?_eq_getElem (by omega)
   have hlt:((n:Int)<(r.length:Int))=True:=aU hj
   simp only [dQ,hj,Option.some.injEq,Rate.same_iff] at H
   simp only [↓cw,↓reduceIte,Nat.reduceLT,kk,aU hi,hlt,tK hi,tK hj,Rate.enc,gC (show n<1000000000 by omega),oo]
   grind
  ·rintro n vs S ⟨rfl,rfl⟩ aE H
   simp only [↓cw,↓reduceIte,Nat.reduceLT,kk,h,Int.lt_irrefl,if_false,oo,←H]
 ·simp only [↓cw,↓reduceIte,Nat.reduceLT,show ¬ (l.length:Int)=(r.length:Int) by omega,kk,not_false_eq_true,if_true,oo]
  have:decide (l=r)=false:=by simpa using fun e=>h (by rw [e])
  rw [this]
theorem g81 (l r:List Ser) (hb:l.length<1000000) (S:St) (K:KW):C 81 [.imm (l.map Ser.enc),.imm (r.map Ser.enc)] S K=K (.bool (decide (l=r))) S:=by
 refine (v81 rfl ?_).eq S K
 delta Tryz.f81;simp only [↓cw,↓reduceIte,Nat.reduceLT,kk]
 by_cases h:l.length=r.length
 ·simp only [↓cw,↓reduceIte,Nat.reduceLT,show (l.length:Int)=(r.length:Int) by omega,kk,not_true_eq_false,if_false]
  refine aF l (step:=dQ r) (fin:=fun _=>true) (fun i n vs S=>n=i∧vs=[.bool false,.int .i64 (i:Int)]) (fun x=>x=decide (l=r)) ?_ ?_ (s:=0) ⟨rfl,rfl⟩ (eqL h)
  ·rintro i p n vs S hi ⟨rfl,rfl⟩ aE H
   have hil:=(List.getElem?_eq_some_iff.1 hi).1
   have hj:r[n]?=some r[n]:=List.getElem?_eq_getElem (by omega)
   have hlt:((n:Int)<(r.length:Int))=True:=aU hj
   simp only [dQ,hj,Option.some.injEq,Ser.same_iff] at H
   simp only [↓cw,↓reduceIte,Nat.reduceLT,kk,aU hi,hlt,oG hi,oG hj,Ser.enc,gC (show n<1000000000 by omega),oo]
   grind
  ·rintro n vs S ⟨rfl,rfl⟩ aE H
   simp only [↓cw,↓reduceIte,Nat.reduceLT,kk,h,Int.lt_irrefl,if_false,oo,←H]
 ·simp only [↓cw,↓reduceIte,Nat.reduceLT,show ¬ (l.length:Int)=(r.length:Int) by omega,kk,not_false_eq_true,if_true,oo]
  have:decide (l=r)=false:=by simpa using fun e=>h (by rw [e])
  rw [this]
theorem g83 (l r:List Bal) (hb:l.length<1000000) (S:St) (K:KW):C 83 [.imm (l.map Bal.enc),.imm (r.map Bal.enc)] S K=K (.bool (decide (l=r))) S:=by
 refine (v83 rfl ?_).eq S K
 delta Tryz.f83;simp only [↓cw,↓reduceIte,Nat.reduceLT,kk]
 by_cases h:l.length=r.length
 ·simp only [↓cw,↓reduceIte,Nat.reduceLT,show (l.length:Int)=(r.length:Int) by omega,kk,not_true_eq_false,if_false]
  refine aF l (step:=dQ r) (fin:=fun _=>true) (fun i n vs S=>n=i∧vs=[.bool false,.int .i64 (i:Int)]) (fun x=>x=decide (l=r)) ?_ ?_ (s:=0) ⟨rfl,rfl⟩ (eqL h)
  ·rintro i p n vs S hi ⟨rfl,rfl⟩ aE H
   have hil:=(List.getElem?_eq_some_iff.1 hi).1
   have hj:r[n]?=some r[n]:=List.getElem?_eq_getElem (by omega)
   have hlt:((n:Int)<(r.length:Int))=True:=aU hj
   simp only [dQ,hj,Option.some.injEq,Bal.same_iff] at H
   simp only [↓cw,↓reduceIte,Nat.reduceLT,kk,aU hi,hlt,lV hi,lV hj,Bal.enc,gC (show n<1000000000 by omega),oo]
   grind
  ·rintro n vs S ⟨rfl,rfl⟩ aE H
   simp only [↓cw,↓reduceIte,Nat.reduceLT,kk,h,Int.lt_irrefl,if_false,oo,←H]
 ·simp only [↓cw,↓reduceIte,Nat.reduceLT,show ¬ (l.length:Int)=(r.length:Int) by omega,kk,not_false_eq_true,if_true,oo]
  have:decide (l=r)=false:=by simpa using fun e=>h (by rw [e])
  rw [this]
theorem g84 (l r:List Sess) (hb:l.length<1000000) (S:St) (K:KW):C 84 [.imm (l.map Sess.enc),.imm (r.map Sess.enc)] S K=K (.bool (decide (l=r))) S:=by
 refine (v84 rfl ?_).eq S K
 delta Tryz.f84;simp only [↓cw,↓reduceIte,Nat.reduceLT,kk]
 by_cases h:l.length=r.length
 ·simp only [↓cw,↓reduceIte,Nat.reduceLT,show (l.length:Int)=(r.length:Int) by omega,kk,not_true_eq_false,if_false]
  refine aF l (step:=dQ r) (fin:=fun _=>true) (fun i n vs S=>n=i∧vs=[.bool false,.int .i64 (i:Int)]) (fun x=>x=decide (l=r)) ?_ ?_ (s:=0) ⟨rfl,rfl⟩ (eqL h)
  ·rintro i p n vs S hi ⟨rfl,rfl⟩ aE H
   have hil:=(List.getElem?_eq_some_iff.1 hi).1
   have hj:r[n]?=some r[n]:=List.getElem?_eq_getElem (by omega)
   have hlt:((n:Int)<(r.length:Int))=True:=aU hj
   simp only [dQ,hj,Option.some.injEq,Sess.same_iff] at H
   simp only [↓cw,↓reduceIte,Nat.reduceLT,kk,aU hi,hlt,oQ hi,oQ hj,Sess.enc,gC (show n<1000000000 by omega),oo]
   grind
  ·rintro n vs S ⟨rfl,rfl⟩ aE H
   simp only [↓cw,↓reduceIte,Nat.reduceLT,kk,h,Int.lt_irrefl,if_false,oo,←H]
 ·simp only [↓cw,↓reduceIte,Nat.reduceLT,show ¬ (l.length:Int)=(r.length:Int) by omega,kk,not_false_eq_true,if_true,oo]
  have:decide (l=r)=false:=by simpa using fun e=>h (by rw [e])
  rw [this]
theorem bP3 (l r:List Part) (hb:l.length<1000000) (S:St) (K:KW):C 224 [.imm (l.map Part.enc),.imm (r.map Part.enc)] S K=K (.bool (decide (l=r))) S:=by
 refine (bLb rfl ?_).eq S K
 delta Tryz.f224;simp only [↓cw,↓reduceIte,Nat.reduceLT,kk]
 by_cases h:l.length=r.length
 ·simp only [↓cw,↓reduceIte,Nat.reduceLT,show (l.length:Int)=(r.length:Int) by omega,kk,not_true_eq_false,if_false]
  refine aF l (step:=dQ r) (fin:=fun _=>true) (fun i n vs S=>n=i∧vs=[.bool false,.int .i64 (i:Int)]) (fun x=>x=decide (l=r)) ?_ ?_ (s:=0) ⟨rfl,rfl⟩ (eqL h)
  ·rintro i p n vs S hi ⟨rfl,rfl⟩ aE H
   have hil:=(List.getElem?_eq_some_iff.1 hi).1
   have hj:r[n]?=some r[n]:=List.getElem?_eq_getElem (by omega)
   have hlt:((n:Int)<(r.length:Int))=True:=aU hj
   simp only [dQ,hj,Option.some.injEq,Part.same_iff] at H
   simp only [↓cw,↓reduceIte,Nat.reduceLT,kk,aU hi,hlt,gY hi,gY hj,Part.enc,gC (show n<1000000000 by omega),oo]
   grind
  ·rintro n vs S ⟨rfl,rfl⟩ aE H
   simp only [↓cw,↓reduceIte,Nat.reduceLT,kk,h,Int.lt_irrefl,if_false,oo,←H]
 ·simp only [↓cw,↓reduceIte,Nat.reduceLT,show ¬ (l.length:Int)=(r.length:Int) by omega,kk,not_false_eq_true,if_true,oo]
  have:decide (l=r)=false:=by simpa using fun e=>h (by rw [e])
  rw [this]
theorem bP4 (a b:Total) (hb:a.parts.length<1000000) (S:St) (K:KW):C 162 [.agg [.int .i64 a.net,.int .i64 a.tax,.int .i64 a.gross,.imm (a.parts.map Part.enc)],.agg [.int .i64 b.net,.int .i64 b.tax,.int .i64 b.gross,.imm (b.parts.map Part.enc)]] S K=K (.bool (decide (a=b))) S:=by
 refine (bKb rfl ?_).eq S K
 delta Tryz.f162;simp only [↓cw,↓reduceIte,Nat.reduceLT,kk,gH,gm,bP3 a.parts b.parts hb,Total.ext_iff,oo]
 grind
theorem Posted.same_iff (a b:Posted):(a=b)=(b.ref=a.ref∧b.day=a.day∧b.of=a.of∧b.back=a.back∧b.total=a.total):=by
 obtain ⟨_,_,_,_,_⟩:=a;obtain ⟨_,_,_,_,_⟩:=b;simp only [Posted.mk.injEq,eq_iff_iff]
 constructor
 ·rintro ⟨rfl,rfl,rfl,rfl,rfl⟩;exact ⟨rfl,rfl,rfl,rfl,rfl⟩
 ·rintro ⟨rfl,rfl,rfl,rfl,rfl⟩;exact ⟨rfl,rfl,rfl,rfl,rfl⟩
theorem Date.same_iff (a b:Date):(a=b)=(a.y=b.y∧a.m=b.m∧a.d=b.d):=by obtain ⟨_,_,_⟩:=a;obtain ⟨_,_,_⟩:=b;simp
theorem g82 (l r:List Posted) (hb:l.length<1000000) (hq:∀ p∈l,p.total.parts.length<1000000) (S:St) (K:KW):C 82 [.imm (l.map Posted.enc),.imm (r.map Posted.enc)] S K=K (.bool (decide (l=r))) S:=by
 refine (v82 rfl ?_).eq S K
 delta Tryz.f82;simp only [↓cw,↓reduceIte,Nat.reduceLT,kk]
 by_cases h:l.length=r.length
 ·simp only [↓cw,↓reduceIte,Nat.reduceLT,show (l.length:Int)=(r.length:Int) by omega,kk,not_true_eq_false,if_false]
  refine aF l (step:=dQ r) (fin:=fun _=>true) (fun i n vs S=>n=i∧vs=[.bool false,.int .i64 (i:Int)]) (fun x=>x=decide (l=r)) ?_ ?_ (s:=0) ⟨rfl,rfl⟩ (eqL h)
  ·rintro i p n vs S hi ⟨rfl,rfl⟩ aE H
   have hil:=(List.getElem?_eq_some_iff.1 hi).1
   have hj:r[n]?=some r[n]:=List.getElem?_eq_getElem (by omega)
   have hlt:((n:Int)<(r.length:Int))=True:=aU hj
   generalize r[n]=q at hj
   simp only [dQ,hj,Option.some.injEq,Posted.same_iff q p] at H
   simp only [↓cw,↓reduceIte,Nat.reduceLT,kk,gm,aU hi,hlt,if_true,fX hi,fX hj,Posted.enc,bP4 p.total q.total (hq p (List.mem_of_getElem? hi)),gC (show n<1000000000 by omega),zY]
   by_cases c1:p.ref=q.ref
   rotate_left
   ·have c':(!(p.ref.ser == q.ref.ser&&decide (p.ref.num=q.ref.num)))=true:=by rw [Ref.ext_iff] at c1;simp;exact Decidable.not_and_iff_or_not.1 c1
    rw [if_neg (fun h=>c1 h.1)] at H
    have H:false=decide (l=r):=H
    rw [if_pos c',←H]
   have c':¬ (!(p.ref.ser == q.ref.ser&&decide (p.ref.num=q.ref.num)))=true:=by rw [c1];simp
   rw [if_neg c']
   by_cases c2:p.day=q.day
   rotate_left
   ·rw [if_neg (fun h=>c2 h.2.1)] at H
    have H:false=decide (l=r):=H
    rw [Date.same_iff] at c2
    rw [if_pos (by simp;grind),←H]
   rw [if_neg (by rw [c2];simp)]
   by_cases c3:p.of=q.of
   rotate_left
   ·rw [if_neg (fun h=>c3 h.2.2.1)] at H
    have H:false=decide (l=r):=H
    rw [Ref.ext_iff] at c3
    rw [if_pos (by simp;grind),←H]
   rw [if_neg (by rw [c3];simp)]
   by_cases c4:p.back=q.back
   rotate_left
   ·rw [if_neg (fun h=>c4 h.2.2.2.1)] at H
    have H:false=decide (l=r):=H
    rw [if_pos (by simpa using c4),←H]
   rw [if_neg (by rw [c4];simp)]
   by_cases c5:p.total=q.total
   ·rw [if_pos ⟨c1,c2,c3,c4,c5⟩] at H
    rw [if_neg (by simp [c5])]
    exact H _ _ ⟨rfl,rfl⟩
   ·rw [if_neg (fun h=>c5 h.2.2.2.2)] at H
    have H:false=decide (l=r):=H
    rw [if_pos (by simpa using c5),←H]
  ·rintro n vs S ⟨rfl,rfl⟩ aE H
   simp only [↓cw,↓reduceIte,Nat.reduceLT,kk,h,Int.lt_irrefl,if_false,oo,←H]
 ·simp only [↓cw,↓reduceIte,Nat.reduceLT,show ¬ (l.length:Int)=(r.length:Int) by omega,kk,not_false_eq_true,if_true,oo]
  have:decide (l=r)=false:=by simpa using fun e=>h (by rw [e])
  rw [this]
theorem State.same_iff (a b:State):(a=b)=(a.table=b.table∧a.ser=b.ser∧a.posted=b.posted∧a.book=b.book∧a.sess=b.sess∧a.next=b.next):=by
 obtain ⟨_,_,_,_,_,_⟩:=a;obtain ⟨_,_,_,_,_,_⟩:=b;simp
def aJj (a b:State):Bool:=decide (a.table=b.table)&&(decide (a.ser=b.ser)&&(decide (a.posted=b.posted)&&(decide (a.book=b.book)&&(decide (a.sess=b.sess)&&decide (a.next=b.next)))))
theorem aQa (a b:State):aJj a b=true↔a=b:=by
 rw [State.same_iff];unfold aJj;simp
structure SmlS (s:State):Prop where
 tab:s.table.length<1000000
 ser:s.ser.length<1000000
 post:s.posted.length<1000000
 parts:∀ p∈s.posted,p.total.parts.length<1000000
 book:s.book.length<1000000
 sess:s.sess.length<1000000
theorem g22 (a b:State) (h:SmlS a) (S:St) (K:KW):C 22 [.agg [.imm (a.table.map Rate.enc),.imm (a.ser.map Ser.enc),.imm (a.posted.map Posted.enc),.imm (a.book.map Bal.enc),.imm (a.sess.map Sess.enc),.int .i64 a.next],.agg [.imm (b.table.map Rate.enc),.imm (b.ser.map Ser.enc),.imm (b.posted.map Posted.enc),.imm (b.book.map Bal.enc),.imm (b.sess.map Sess.enc),.int .i64 b.next]] S K=K (.bool (aJj a b)) S:=by
 refine (v22 rfl ?_).eq S K
 delta Tryz.f22;simp only [↓cw,↓reduceIte,Nat.reduceLT,kk,gH,gm,g80 a.table b.table h.tab,g81 a.ser b.ser h.ser,g82 a.posted b.posted h.post h.parts,g83 a.book b.book h.book,g84 a.sess b.sess h.sess,aJj]
 by_cases c1:a.table=b.table
 rotate_left
 ·simp only [c1,if_false,decide_false,Bool.false_and,oo]
 by_cases c2:a.ser=b.ser
 rotate_left
 ·simp only [c1,c2,if_true,if_false,decide_false,decide_true,Bool.false_and,Bool.true_and,oo]
 by_cases c3:a.posted=b.posted
 rotate_left
 ·simp only [c1,c2,c3,if_true,if_false,decide_false,decide_true,Bool.false_and,Bool.true_and,oo]
 by_cases c4:a.book=b.book
 rotate_left
 ·simp only [c1,c2,c3,c4,if_true,if_false,decide_false,decide_true,Bool.false_and,Bool.true_and,oo]
 by_cases c5:a.sess=b.sess
 rotate_left
 ·simp only [c1,c2,c3,c4,c5,if_true,if_false,decide_false,decide_true,Bool.false_and,Bool.true_and,oo]
 simp only [c1,c2,c3,c4,c5,if_true,decide_true,Bool.true_and,oo]
theorem aLq {s:State} (hr:bQ s=true):∀ x∈s.ser,eZ x.next:=fun x hx=>by
 obtain ⟨_,b⟩:=((fO _).1 ((cG s).1 hr).2.1).2.1 x hx
 unfold lQ at b
 simp only [Bool.or_eq_false_iff,decide_eq_false_iff_not] at b
 obtain ⟨b1,b2,b3,b4⟩:=b
 rw [eE ⟨by omega,by omega⟩] at b4
 exact ⟨by omega,by omega⟩
def aXj (name:List UInt8) (n:Int) (q:Posted):Int⊕Int:=.inr (if q.ref.ser=name then n+1 else n)
theorem bBd (name:List UInt8):∀ (l:List Posted) (n:Int),aD (aXj name) id l n=n+mP l name
 | [],n=>by simp [aD,mP]
 | q::l,n=>by
  have h:=fA [q] l name
  rw [List.singleton_append,mJ] at h
  rw [h]
  show aD (aXj name) id l (if q.ref.ser=name then n+1 else n)=_
  rw [bBd name l]
  split<;>omega
theorem aXk {α:Type} {l:List α} {i k:Nat} {a:α} (h:(l.take i)[k]?=some a):k<i∧l[k]?=some a:=by
 rw [List.getElem?_take] at h
 split at h
 ·exact ⟨by assumption,h⟩
 ·cases h
theorem g43 (l:List Posted) (hl:l.length<1000000) (S:St) (K:KW):C 43 [.imm (l.map Posted.enc)] S K=K (.int .i64 (tP l)) S:=by
 refine (v43 rfl ?_).eq S K
 delta Tryz.f43;simp only [↓cw,↓reduceIte,Nat.reduceLT,kk]
 refine aF l (step:=aUx) (fin:=fun _=>-1) (fun i done vs S=>vs=[.int .i64 0,.int .i64 (i:Int)]∧done=l.take i) (fun r=>r=tP l) ?_ ?_ (s:=[]) ⟨rfl,rfl⟩ rfl
 ·rintro i p done vs S hi ⟨rfl,rfl⟩ aE H
  have hil:=(List.getElem?_eq_some_iff.1 hi).1
  have hlen:(l.take i).length=i:=by rw [List.length_take];omega
  have hb:=aC6 (l.take i) p.ref.ser
  have hb0:=kR (l.take i) p.ref.ser
  simp only [↓cw,↓reduceIte,Nat.reduceLT,kk,aU hi,if_true]
  refine aF (l.take i) (step:=aXj p.ref.ser) (fin:=id) (fun k n vs S=>vs=[.int .i64 n,.int .i64 (k:Int)]∧0≤n∧n≤k) (fun n=>n=mP (l.take i) p.ref.ser) ?_ ?_ (s:=0) ⟨rfl,by decide,by decide⟩ (by rw [bBd];omega)
  ·rintro k q n vs S hk ⟨rfl,n0,n1⟩ again2 H2
   obtain ⟨hki,hk'⟩:=aXk hk
   simp only [aXj] at H2
   simp only [↓cw,↓reduceIte,Nat.reduceLT,kk,show ((k:Int)<(i:Int))=True by simpa using hki,if_true,fX hi,fX hk',Posted.enc,gC (show k<1000000000 by omega),show wr .i64 (n+1)=n+1 from mD (by omega) (by omega)]
   by_cases c:q.ref.ser=p.ref.ser
   ·rw [if_pos (by simpa using c)]
    simp only [c,if_true] at H2
    exact H2 _ _ ⟨rfl,by omega,by omega⟩
   ·rw [if_neg (by simpa using c)]
    simp only [c,if_false] at H2
    exact H2 _ _ ⟨rfl,by omega,by omega⟩
  ·rintro n vs S ⟨rfl,n0,n1⟩ again2 H2
   have H2:n=mP (l.take i) p.ref.ser:=H2
   subst H2
   rw [hlen]
   simp only [↓cw,↓reduceIte,Nat.reduceLT,kk,Int.lt_irrefl,if_false,fX hi,Posted.enc,show wr .i64 (mP (l.take i) p.ref.ser+1)=mP (l.take i) p.ref.ser+1 from mD (by omega) (by omega),gC (show i<1000000000 by omega)]
   simp only [aUx] at H
   by_cases c:p.ref.num=mP (l.take i) p.ref.ser+1
   ·simp only [c,if_true] at H
    rw [if_neg (fun h=>h c)]
    exact H _ _ ⟨rfl,by rw [List.take_add_one,hi];rfl⟩
   ·simp only [c,if_false] at H
    rw [if_pos c]
    have H:((l.take i).length:Int)=tP l:=H
    rw [←H,hlen]
 ·rintro done vs S ⟨rfl,rfl⟩ aE H
  have H:(-1:Int)=tP l:=H
  simp only [↓cw,↓reduceIte,Nat.reduceLT,kk,Int.lt_irrefl,if_false,oo,←H]
end Go.Proofs.YtoaibmbldmckaaaGreat
end
