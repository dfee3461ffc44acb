import Derived.Test.YtoaibmbldmckaaaGreatX3
set_option linter.unusedSimpArgs false
set_option linter.unusedVariables false
set_option linter.unusedSectionVars false
set_option maxRecDepth 100000
section
namespace Go.Proofs.YtoaibmbldmckaaaGreat
open Go.AM Tryz
theorem aOx {n:Int} (h:I64 n):nH n=if n<0 then -n else n:=by
 unfold nH
 split
 ·rename_i c
  have h1:wr .u64 n=18446744073709551616+n:=by rw [aN1];omega
  rw [h1]
  have h2:aCp (18446744073709551616+n)=-n - 1:=by
   unfold aCp
   simp only [IntKind.signed,Bool.false_eq_true,if_false]
   have hm:(IntKind.u64.max:Int)=18446744073709551615:=by decide
   rw [hm]
   have hb:IntKind.u64.bits=64:=rfl
   rw [hb]
   have:(BitVec.ofInt 64 18446744073709551615 ^^^ BitVec.ofInt 64 (18446744073709551616+n)) = ~~~ (BitVec.ofInt 64 (18446744073709551616+n)):=by
    rw [show (BitVec.ofInt 64 18446744073709551615)=BitVec.allOnes 64 from by decide,BitVec.allOnes_xor]
   rw [this,BitVec.toNat_not]
   have hv:(BitVec.ofInt 64 (18446744073709551616+n)).toNat=(18446744073709551616+n).toNat:=by
    rw [BitVec.toNat_ofInt]
    omega
   rw [hv,iM (by omega) (by omega)]
   omega
  rw [h2,iM (by omega) (by omega)]
  omega
 ·exact iM (by omega) (by omega)
def xU (u bp:Int):Option Int:=
 if 0<bp∧9223372036854775807 / bp<u / 10000 then none else
  if 9223372036854775807<u / 10000*bp+(2*(u % 10000)*bp+10000) / 20000 then none else some (u / 10000*bp+(2*(u % 10000)*bp+10000) / 20000)
theorem aG3 {u bp t:Int} (hu:0≤u) (hb:0≤bp) (h:xU u bp=some t):0≤t∧t≤9223372036854775807:=by
 unfold xU at h
 split at h
 ·cases h
 ·split at h
  ·cases h
  ·rename_i h2
   cases h
   have h3:0≤u / 10000*bp:=Int.mul_nonneg (by omega) hb
   have h4:0≤2*(u % 10000)*bp:=Int.mul_nonneg (by omega) hb
   exact ⟨by omega,by omega⟩
theorem aE8 {n bp:Int} (h:I64 n) (h1:0≤bp) (h2:bp≤100000):bH n bp=match xU (if n<0 then -n else n) bp with
  | none=>(0,7)
  | some t=>(if n<0 then -t else t,0):=by
 unfold bH
 rw [if_neg (by omega)]
 simp only [aOx h]
 have hp:wr .u64 bp=bp:=iM h1 (by omega)
 rw [hp]
 obtain ⟨u,hu⟩:∃ u,u=(if n<0 then -n else n):=⟨_,rfl⟩
 rw [←hu]
 have hu0:0≤u∧u≤9223372036854775808:=by subst hu;split<;>omega
 have hq:u.tdiv 10000=u / 10000:=Int.tdiv_eq_ediv_of_nonneg hu0.1
 have hr:u.tmod 10000=u % 10000:=Int.tmod_eq_emod_of_nonneg hu0.1
 have hmax:(9223372036854775807:Int).tdiv bp=9223372036854775807 / bp:=Int.tdiv_eq_ediv_of_nonneg (by decide)
 rw [hq,hr,hmax,iM (n:=u / 10000) (by omega) (by omega)]
 have hdiv:0<bp→0≤9223372036854775807 / bp∧9223372036854775807 / bp<18446744073709551616:=by
  intro hb
  constructor
  ·exact Int.ediv_nonneg (by decide) (by omega)
  ·have:=Int.ediv_le_self bp (a:=9223372036854775807) (by decide);omega
 unfold xU
 by_cases c:0<bp∧9223372036854775807 / bp<u / 10000
 ·rw [if_pos c,if_pos ⟨c.1,by rw [iM (hdiv c.1).1 (hdiv c.1).2];exact c.2⟩]
 ·rw [if_neg c,if_neg (fun q=>c ⟨q.1,by have:=q.2;rwa [iM (hdiv q.1).1 (hdiv q.1).2] at this⟩)]
  have hm1:0≤u / 10000*bp:=Int.mul_nonneg (by omega) h1
  have hm2:u / 10000*bp≤9223372036854775807:=by
   by_cases hb:0<bp
   ·have hle:u / 10000≤9223372036854775807 / bp:=by
     by_cases q:u / 10000≤9223372036854775807 / bp
     ·exact q
     ·exact absurd ⟨hb,by omega⟩ c
    calc u / 10000*bp≤9223372036854775807 / bp*bp:=Int.mul_le_mul_of_nonneg_right hle h1
     _≤9223372036854775807:=Int.ediv_mul_le _ (by omega)
   ·have:bp=0:=by omega
    subst this;simp
  have hr1:0≤2*(u % 10000)*bp:=Int.mul_nonneg (by omega) h1
  have hr2:2*(u % 10000)*bp≤2*10000*100000:=Int.mul_le_mul (by omega) h2 h1 (by decide)
  rw [iM hm1 (by omega),iM (n:=2*(u % 10000)) (by omega) (by omega),iM hr1 (by omega),iM (n:=2*(u % 10000)*bp+10000) (by omega) (by omega),aBc]
  have ht:(2*(u % 10000)*bp+10000).tdiv 20000=(2*(u % 10000)*bp+10000) / 20000:=Int.tdiv_eq_ediv_of_nonneg (by omega)
  rw [ht,iM (n:=(2*(u % 10000)*bp+10000) / 20000) (by omega) (by omega),iM (n:=u / 10000*bp+(2*(u % 10000)*bp+10000) / 20000) (by omega) (by omega)]
  obtain ⟨t,htt⟩:∃ t,t=u / 10000*bp+(2*(u % 10000)*bp+10000) / 20000:=⟨_,rfl⟩
  have ht0:0≤t:=by omega
  rw [←htt]
  split
  ·rfl
  ·rename_i hle
   rw [pQ (n:=t) (by omega) (by omega)]
   split
   ·rw [pQ (by omega) (by omega)];simp
   ·rfl
theorem aKa {n bp t:Int} (h:I64 n) (h1:0≤bp) (h2:bp≤100000) (hn:n≠-9223372036854775808) (hs:bH n bp=(t,0)):bH (-n) bp=(-t,0)∧t≠-9223372036854775808:=by
 rw [aE8 h h1 h2] at hs
 rw [aE8 (by omega) h1 h2]
 have hu:(if -n<0 then - -n else -n)=if n<0 then -n else n:=by split<;>split<;>omega
 rw [hu]
 cases hx:xU (if n<0 then -n else n) bp with
 | none=>rw [hx] at hs;cases hs
 | some x=>
  rw [hx] at hs
  obtain ⟨a,b⟩:=aG3 (by split<;>omega) h1 hx
  simp only [Prod.mk.injEq,and_true] at hs ⊢
  by_cases c0:n=0
  ·subst c0
   have:x=0:=by
    simp only [Int.lt_irrefl,if_false] at hx
    unfold xU at hx
    simp only [Int.zero_ediv,Int.zero_emod,Int.zero_mul,Int.mul_zero] at hx
    split at hx
    ·cases hx
    ·split at hx
     ·cases hx
     ·cases hx;decide
   subst this
   simp at hs ⊢
   omega
  ·constructor
   ·rw [←hs];split<;>split<;>omega
   ·rw [←hs];split<;>omega
theorem aI2 {σ α:Type} {step:σ→α→Bool⊕σ} (hs:∀ s a r,step s a=.inl r→r=false) (c:Bool):∀ (l:List α) (s:σ),aC step (fun _=>c) l s=(aC step (fun _=>true) l s&&c)
 | [],s=>by simp [aC]
 | a::l,s=>by
  simp only [aC]
  split
  ·rename_i r he;rw [hs _ _ _ he,Bool.false_and]
  ·exact aI2 hs c l _
structure PG (p:Part):Prop where
 name:dA p.cat=true
 lo:0≤p.bp
 hi:p.bp≤100000
 tax:bH p.net p.bp=(p.tax,0)
theorem aG4 (p:Part):PG p↔dA p.cat=true∧vZ p=false∧wC p=false:=by
 unfold vZ wC
 simp only [Bool.or_eq_false_iff,decide_eq_false_iff_not,Bool.not_eq_false',decide_eq_true_eq]
 constructor
 ·rintro ⟨a,b,c,d⟩
  exact ⟨a,⟨by omega,by omega⟩,by rw [d],by rw [d]⟩
 ·rintro ⟨a,⟨b,c⟩,d,e⟩
  exact ⟨a,by omega,by omega,Prod.ext e d⟩
theorem aBp:∀ s a r,eJ s a=.inl r→r=false:=by
 intro s a r h
 unfold eJ at h
 repeat' split at h
 all_goals first | (cases h;done) | (cases h;rfl)
theorem eP (t:Total):cP t=true↔1≤t.parts.length∧t.parts.length≤12∧(∀ p∈t.parts,PG p)∧t.parts.Pairwise (fun a b=>eV a.cat b.cat=true)∧rF t=true:=by
 unfold cP
 split
 ·rename_i h;simp;omega
 ·rename_i h
  split
  ·rename_i h2;simp;omega
  ·rename_i h2
   rw [aI2 aBp,Bool.and_eq_true,uF (good:=PG) (R:=fun a b=>eV a.cat b.cat=true)]
   ·constructor
    ·rintro ⟨⟨a,b⟩,c⟩;exact ⟨by omega,by omega,a,b,c⟩
    ·rintro ⟨_,_,a,b,c⟩;exact ⟨⟨a,b⟩,c⟩
   ·intro a g
    obtain ⟨g1,g2,g3⟩:=(aG4 a).1 g
    simp [eJ,lG,g1,g2,g3]
   ·intro a p g
    rw [aG4] at g
    unfold eJ
    split
    ·rfl
    ·split
     ·rfl
     ·split
      ·rfl
      ·split
       ·rfl
       ·rename_i h1 _ h3 h4
        exact absurd ⟨by simpa using h1,by simpa using h3,by simpa using h4⟩ g
   ·intro p a g r
    obtain ⟨g1,g2,g3⟩:=(aG4 a).1 g
    simp [eJ,lG,g1,g2,g3,r]
   ·intro p a g r
    obtain ⟨g1,g2,g3⟩:=(aG4 a).1 g
    simp [eJ,lG,g1,g2,g3,r]
   ·intro a b c;exact gX
theorem nP {t:Total} (hn:∀ p∈t.parts,I64 p.net) (ht:∀ p∈t.parts,I64 p.tax) (hl:t.parts.length≤1000000):
  rF t=true↔I64 t.net∧I64 t.tax∧I64 t.gross∧t.net=(t.parts.map (·.net)).sum∧t.tax=(t.parts.map (·.tax)).sum∧t.gross=t.net+t.tax:=by
 have h1:∀ n∈t.parts.map (·.net),I64 n:=fun n h=>by obtain ⟨p,hp,rfl⟩:=List.mem_map.1 h;exact hn p hp
 have h2:∀ n∈t.parts.map (·.tax),I64 n:=fun n h=>by obtain ⟨p,hp,rfl⟩:=List.mem_map.1 h;exact ht p hp
 obtain ⟨a1,a2⟩:=mM h1 (by rw [List.length_map];exact hl)
 obtain ⟨b1,b2⟩:=mM h2 (by rw [List.length_map];exact hl)
 unfold rF
 constructor
 ·intro h
  repeat' split at h
  all_goals first | cases h;done | skip
  rename_i c1 c2 c3 c4 c5
  have d:=of_decide_eq_true h
  have i1:=a2.1 c1
  have i2:=b2.1 c2
  rw [a1,gM i1] at c4
  rw [b1,gM i2] at c5
  have j:∀ n∈[t.net,t.tax],I64 n:=by
   intro n hn
   simp only [List.mem_cons,List.not_mem_nil,or_false] at hn
   rcases hn with rfl | rfl
   ·rw [←c4];exact i1
   ·rw [←c5];exact i2
  obtain ⟨e1,e2⟩:=mM j (by simp)
  have i3:=e2.1 c3
  rw [e1,gM i3] at d
  have hs:[t.net,t.tax].sum=t.net+t.tax:=by simp
  rw [hs] at d i3
  exact ⟨by rw [←c4];exact i1,by rw [←c5];exact i2,by rw [←d];exact i3,c4.symm,c5.symm,d.symm⟩
 ·rintro ⟨i1,i2,i3,e1,e2,e3⟩
  have j:∀ n∈[t.net,t.tax],I64 n:=by
   intro n hn
   simp only [List.mem_cons,List.not_mem_nil,or_false] at hn
   rcases hn with rfl | rfl
   ·exact i1
   ·exact i2
  have hs:[t.net,t.tax].sum=t.net+t.tax:=by simp
  have k3:=xT j (by simp) (by rw [hs,←e3];exact i3)
  have k1:=xT h1 (by rw [List.length_map];exact hl) (by rw [←e1];exact i1)
  have k2:=xT h2 (by rw [List.length_map];exact hl) (by rw [←e2];exact i2)
  rw [k1,k2,k3]
  simp only [if_true,←e1,←e2,hs,←e3,decide_true]
theorem aW8 {α:Type} (p:α→Bool) (l:List α):l[lR p l]?=(l.dropWhile p)[0]?:=by
 unfold lR
 rw [sH,Nat.zero_add]
 have h:l[(l.takeWhile p).length]?=(l.takeWhile p++l.dropWhile p)[(l.takeWhile p).length]?:=by rw [List.takeWhile_append_dropWhile]
 rw [h,List.getElem?_append_right (Nat.le_refl _),Nat.sub_self]
theorem aE9 {α:Type} {p:α→Bool}:∀ {l:List α} {a:α},(l.dropWhile p)[0]?=some a→p a=false
 | [],a,h=>by cases h
 | x::l,a,h=>by
  rw [List.dropWhile_cons] at h
  split at h
  ·exact aE9 h
  ·rename_i c;cases h;simpa using c
theorem yU {α:Type} {p:α→Bool} {R:α→α→Prop}:∀ {l:List α},l.Pairwise R→(∀ a b,R a b→p a=false→p b=false)→∀ {x:α},x∈l→p x=false→x∈l.dropWhile p
 | a::l,hl,hp,x,hx,h=>by
  rw [List.dropWhile_cons]
  rw [List.pairwise_cons] at hl
  split
  ·rename_i c
   rcases List.mem_cons.1 hx with rfl | hx
   ·rw [h] at c;cases c
   ·exact yU hl.2 hp hx h
  ·exact hx
theorem aTg {α:Type} {key:α→List UInt8} {l:List α} (hs:l.Pairwise (fun a b=>eV (key a) (key b)=true)) (k:List UInt8) (h:∀ b,l[lR (fun x=>eV (key x) k) l]?=some b→key b≠k):
  ∀ x∈l,eV (key x) k=false→eV k (key x)=true:=by
 intro x hx hk
 have hd:=yU (p:=fun x=>eV (key x) k) hs (fun a b r ha=>by
  cases c:eV (key b) k with
  | false=>rfl
  | true=>rw [gX r c] at ha;cases ha) hx hk
 rw [aW8] at h
 have hsd:(l.dropWhile fun x=>eV (key x) k).Pairwise (fun a b=>eV (key a) (key b)=true):=hs.sublist (List.dropWhile_sublist _)
 cases hc:l.dropWhile (fun x=>eV (key x) k) with
 | nil=>rw [hc] at hd;cases hd
 | cons q r=>
  rw [hc] at hd hsd
  have hq:eV (key q) k=false:=aE9 (p:=fun x=>eV (key x) k) (l:=l) (by rw [hc];rfl)
  have hne:=h q (by rw [hc];rfl)
  have hkq:eV k (key q)=true:=by
   rcases aA8 (key q) k with h1 | h1 | h1
   ·rw [hq] at h1;cases h1
   ·exact absurd h1 hne
   ·exact h1
  rcases List.mem_cons.1 hd with rfl | hd
  ·exact hkq
  ·exact gX hkq ((List.pairwise_cons.1 hsd).1 x hd)
theorem uH {α:Type} {key:α→List UInt8} {l:List α} (hs:l.Pairwise (fun a b=>eV (key a) (key b)=true)) {i:Nat} {a b:α} (hi:l[i]?=some a) (he:key b=key a):(l.set i b).Pairwise (fun a b=>eV (key a) (key b)=true):=by
 have hm:∀ l:List α,l.Pairwise (fun a b=>eV (key a) (key b)=true)↔(l.map key).Pairwise (fun a b=>eV a b=true):=fun l=>(List.pairwise_map (f:=key) (R:=fun a b=>eV a b=true)).symm
 rw [hm] at hs ⊢
 have:(l.set i b).map key=l.map key:=by
  rw [List.map_set,he]
  apply List.ext_getElem?
  intro j
  rw [List.getElem?_set]
  split
  ·rename_i hj
   subst hj
   rw [List.getElem?_map,hi,List.length_map]
   rw [if_pos (List.getElem?_eq_some_iff.1 hi).1];rfl
  ·rfl
 rw [this];exact hs
structure PInv (l:List Part):Prop where
 name:∀ p∈l,dA p.cat=true
 bp:∀ p∈l,0≤p.bp∧p.bp≤100000
 net:∀ p∈l,I64 p.net
 srt:l.Pairwise (fun a b=>eV a.cat b.cat=true)
theorem PInv.nil:PInv []:=⟨fun _ h=>(by cases h),fun _ h=>(by cases h),fun _ h=>(by cases h),.nil⟩
theorem PInv.room {l:List Part} (h:PInv l) {cat:List UInt8} {bp:Int} (hc:dA cat=true) (h1:0≤bp) (h2:bp≤100000):PInv (cN l cat bp):=by
 unfold cN
 split
 ·rename_i hm
  have hmem:∀ p,p∈eN l (bD l cat) ⟨cat,bp,0,0⟩→p=⟨cat,bp,0,0⟩∨p∈l:=fun p hp=>(gA _ _ _ _).1 hp
  refine ⟨fun p hp=>?_,fun p hp=>?_,fun p hp=>?_,?_⟩
  ·rcases hmem p hp with rfl | hp
   ·exact hc
   ·exact h.name p hp
  ·rcases hmem p hp with rfl | hp
   ·exact ⟨h1,h2⟩
   ·exact h.bp p hp
  ·rcases hmem p hp with rfl | hp
   ·show I64 0;omega
   ·exact h.net p hp
  ·unfold bD
   rw [sI]
   refine pD h.srt (fun a b c=>gX) (fun x hx hp=>hp) (fun x hx hp=>?_)
   refine aTg (key:=fun p:Part=>p.cat) h.srt cat (fun b hb=>?_) x hx hp
   unfold iK bD at hm
   rw [hb] at hm
   simpa using hm
 ·exact h
theorem PInv.put {l:List Part} (h:PInv l) {cat:List UInt8} {bp n:Int} (hc:dA cat=true) (h1:0≤bp) (h2:bp≤100000):PInv (pS l cat bp n).1∧(pS l cat bp n).1≠[]:=by
 obtain ⟨b,hb⟩:=oX l cat bp
 have hr:=h.room hc h1 h2
 unfold pS
 rw [hb]
 have hbm:=List.mem_of_getElem? hb
 constructor
 ·refine ⟨fun p hp=>?_,fun p hp=>?_,fun p hp=>?_,uH (key:=fun p:Part=>p.cat) hr.srt hb rfl⟩
  ·rcases List.mem_or_eq_of_mem_set hp with hp | rfl
   ·exact hr.name p hp
   ·exact hr.name b hbm
  ·rcases List.mem_or_eq_of_mem_set hp with hp | rfl
   ·exact hr.bp p hp
   ·exact hr.bp b hbm
  ·rcases List.mem_or_eq_of_mem_set hp with hp | rfl
   ·exact hr.net p hp
   ·exact aTe _ _
 ·intro e
  have:=congrArg List.length e
  rw [List.length_set,List.length_nil] at this
  have:=(List.getElem?_eq_some_iff.1 hb).1
  omega
theorem wP {r:Rate} (h:tW r=0):dA r.cat=true∧r.day.right=true∧0≤r.bp∧r.bp≤100000:=by
 unfold tW at h
 split at h
 ·omega
 ·rename_i h1
  split at h
  ·omega
  ·rename_i h2
   split at h
   ·omega
   ·split at h
    ·omega
    ·exact ⟨by simpa using h1,by simpa using h2,by omega,by omega⟩
theorem bAk {cat:List UInt8} {d:Date}:∀ (l:List Rate) (st:Int×Bool),(st.2=true→0≤st.1∧st.1≤100000)→(∀ r∈l,0≤r.bp∧r.bp≤100000)→(aC (iJ cat d) id l st).2=true→0≤(aC (iJ cat d) id l st).1∧(aC (iJ cat d) id l st).1≤100000
 | [],st,h,_,h2=>h h2
 | r::l,st,h,hl,h2=>by
  simp only [aC,iJ] at h2 ⊢
  refine bAk l _ ?_ (fun x hx=>hl x (List.mem_cons_of_mem _ hx)) h2
  split
  ·intro _;exact hl r (List.mem_cons_self ..)
  ·exact h
theorem aI3 {l:List Rate} {cat:List UInt8} {d:Date} (h:(gK l cat d).2=true):0≤(gK l cat d).1∧(gK l cat d).1≤100000:=by
 unfold gK at h ⊢
 split at h
 ·cases h
 ·rename_i h1
  split at h
  ·cases h
  ·rename_i h2
   rw [if_neg h1,if_neg h2]
   have ht:=(lT l).1 (by simpa using h1)
   exact bAk l _ (fun h=>by cases h) (fun r hr=>(wP (ht.2.1 r hr)).2.2) h
theorem aTh {tab:List Rate} {d:Date} {l:Line} (h:(eI tab d l).2.2=0):dA l.cat=true∧0≤(eI tab d l).1∧(eI tab d l).1≤100000:=by
 unfold eI at h ⊢
 split at h
 ·simp at h
 ·rename_i h1
  split at h
  ·simp at h
  ·rename_i h2
   split at h
   ·simp at h
   ·rename_i h3
    split at h
    ·simp at h
    ·rename_i h4
     rw [if_neg h1,if_neg h2,if_neg h3,if_neg h4]
     exact ⟨by simpa using h2,aI3 (by simpa using h4)⟩
theorem bHj {tab:List Rate} {d:Date}:∀ (lines:List Line) (parts:List Part) (r:Total×Int),PInv parts→aC (gN tab d) dV lines parts=r→r.2=0→∃ ps,PInv ps∧dV ps=r∧(parts≠[]∨lines≠[]→ps≠[])
 | [],parts,r,hp,h,_=>⟨parts,hp,h,fun h=>h.elim id (fun h=>absurd rfl h)⟩
 | l::lines,parts,r,hp,h,h0=>by
  simp only [aC] at h
  split at h
  ·rename_i r' he
   subst h
   unfold gN at he
   split at he
   ·rename_i hc;cases he;exact absurd h0 hc
   ·split at he
    ·rename_i hc;cases he;exact absurd h0 hc
    ·cases he
  ·rename_i s' he
   unfold gN at he
   split at he
   ·cases he
   ·rename_i hl
    split at he
    ·cases he
    ·cases he
     obtain ⟨a,b,c⟩:=aTh (Decidable.not_not.1 hl)
     obtain ⟨q1,q2⟩:=hp.put (n:=(eI tab d l).2.1) a b c
     obtain ⟨ps,i1,i2,i3⟩:=bHj lines _ r q1 h h0
     exact ⟨ps,i1,i2,fun _=>i3 (.inl q2)⟩
def aN2 (p:Part):Part:={ p with tax:=(bH p.net p.bp).1 }
theorem aTi:∀ (l:List Part) (n x:Int) (ps:List Part) (r:Total×Int),I64 n→I64 x→(∀ p∈l,I64 p.net)→aC fB jX l (n,x,ps)=r→r.2=0→
  r.1.parts=ps++l.map aN2∧(∀ p∈l,(bH p.net p.bp).2=0)∧r.1.net=n+(l.map (·.net)).sum∧r.1.tax=x+(l.map fun p=>(bH p.net p.bp).1).sum∧r.1.gross=r.1.net+r.1.tax∧I64 r.1.net∧I64 r.1.tax∧I64 r.1.gross
 | [],n,x,ps,r,hn,hx,_,h,h0=>by
  simp only [aC,jX] at h
  split at h
  ·rename_i hc;subst h;exact absurd h0 hc
  ·rename_i hc
   have hc:=Decidable.not_not.1 hc
   subst h
   simp only at hc ⊢
   rw [sF hn hx] at hc ⊢
   split at hc
   ·rename_i hi;rw [if_pos hi];refine ⟨by simp,by simp,by simp,by simp,rfl,hn,hx,hi⟩
   ·simp at hc
 | p::l,n,x,ps,r,hn,hx,hl,h,h0=>by
  simp only [aC] at h
  split at h
  ·rename_i r' he
   subst h
   unfold fB at he
   split at he
   ·cases he;simp at h0
   ·cases he
  ·rename_i s' he
   unfold fB at he
   split at he
   ·cases he
   ·rename_i hc
    cases he
    have hp:=hl p (List.mem_cons_self ..)
    have c1:(bH p.net p.bp).2=0:=by by_cases q:(bH p.net p.bp).2=0;exact q;exact absurd (.inl q) hc
    have c2:(cZ n p.net).2=0:=by by_cases q:(cZ n p.net).2=0;exact q;exact absurd (.inr (.inl q)) hc
    have c3:(cZ x (bH p.net p.bp).1).2=0:=by by_cases q:(cZ x (bH p.net p.bp).1).2=0;exact q;exact absurd (.inr (.inr q)) hc
    have e2:(cZ n p.net).1=n+p.net∧I64 (n+p.net):=by
     rw [sF hn hp] at c2 ⊢
     split at c2
     ·rename_i hi;rw [if_pos hi];exact ⟨rfl,hi⟩
     ·simp at c2
    have e3:(cZ x (bH p.net p.bp).1).1=x+(bH p.net p.bp).1∧I64 (x+(bH p.net p.bp).1):=by
     rw [sF hx (aBm _ _)] at c3 ⊢
     split at c3
     ·rename_i hi;rw [if_pos hi];exact ⟨rfl,hi⟩
     ·simp at c3
    simp only [e2.1,e3.1] at h
    obtain ⟨a1,a2,a3,a4,a5⟩:=aTi l _ _ _ r e2.2 e3.2 (fun q hq=>hl q (List.mem_cons_of_mem _ hq)) h h0
    refine ⟨by rw [a1,List.map_cons,List.append_assoc];rfl,fun q hq=>?_,?_,?_,a5⟩
    ·rcases List.mem_cons.1 hq with rfl | hq
     ·exact c1
     ·exact a2 q hq
    ·rw [a3,List.map_cons,List.sum_cons];omega
    ·rw [a4,List.map_cons,List.sum_cons];omega
theorem aTj {ps:List Part} (h:PInv ps) (h0:ps≠[]) {t:Total} (hl:t.parts.length≤12) (hw:dV ps=(t,0)):cP t=true∧(∀ p∈t.parts,I64 p.net∧I64 p.tax):=by
 obtain ⟨a1,a2,a3,a4,a5,a6,a7,a8⟩:=aTi ps 0 0 [] (t,0) (by omega) (by omega) h.net hw rfl
 simp only [List.nil_append,Int.zero_add] at a1 a2 a3 a4 a5 a6 a7 a8
 have hm:∀ p∈t.parts,∃ q∈ps,p=aN2 q:=fun p hp=>by rw [a1] at hp;obtain ⟨q,hq,rfl⟩:=List.mem_map.1 hp;exact ⟨q,hq,rfl⟩
 have hi:∀ p∈t.parts,I64 p.net∧I64 p.tax:=fun p hp=>by
  obtain ⟨q,hq,rfl⟩:=hm p hp
  exact ⟨h.net q hq,aBm _ _⟩
 refine ⟨(eP t).2 ⟨?_,hl,fun p hp=>?_,?_,?_⟩,hi⟩
 ·rw [a1,List.length_map]
  cases ps with
  | nil=>exact absurd rfl h0
  | cons a l=>simp
 ·obtain ⟨q,hq,rfl⟩:=hm p hp
  exact ⟨h.name q hq,(h.bp q hq).1,(h.bp q hq).2,Prod.ext rfl (a2 q hq)⟩
 ·rw [a1,List.pairwise_map]
  exact h.srt
 ·rw [nP (fun p hp=>(hi p hp).1) (fun p hp=>(hi p hp).2) (by omega)]
  refine ⟨a6,a7,a8,?_,?_,a5⟩
  ·rw [a3,a1,List.map_map];rfl
  ·rw [a4,a1,List.map_map];rfl
theorem aG5 {tab:List Rate} {d:Date} {lines:List Line} (h:(cK tab d lines).2=0):d.right=true∧cP (cK tab d lines).1=true∧∀ p∈(cK tab d lines).1.parts,I64 p.net∧I64 p.tax:=by
 have hf:=(uC h).1
 unfold cK at h hf ⊢
 split at h
 ·simp at h
 ·rename_i h1
  split at h
  ·simp at h
  ·rename_i h2
   split at h
   ·simp at h
   ·rename_i h3
    split at h
    ·simp at h
    ·rename_i h4
     rw [if_neg h1,if_neg h2,if_neg h3,if_neg h4] at hf ⊢
     obtain ⟨ps,i1,i2,i3⟩:=bHj lines [] _ PInv.nil rfl h
     have hne:ps≠[]:=i3 (.inr (fun e=>h3 (by rw [e];rfl)))
     exact ⟨by simpa using h2,aTj i1 hne hf (by rw [i2];exact Prod.ext rfl h)⟩
def aG6 (p:Part):Part:={ p with net:=-p.net,tax:=-p.tax }
def aCy:Int:=-9223372036854775808
theorem aEa:∀ (l d:List Int) (r:List Int×Int),(∀ n∈l,I64 n)→aC sD (fun l=>(l,0)) l d=r→r.2=0→r.1=d++l.map (fun n=>-n)∧∀ n∈l,n≠aCy
 | [],d,r,_,h,_=>by subst h;simp [aC]
 | n::l,d,r,hl,h,h0=>by
  simp only [aC,sD,xS (hl n (List.mem_cons_self ..))] at h
  by_cases c:n=-9223372036854775808
  ·simp only [c,if_true] at h
   subst h;simp at h0
  ·simp only [c,if_false] at h
   obtain ⟨a,b⟩:=aEa l _ r (fun m hm=>hl m (List.mem_cons_of_mem _ hm)) h h0
   refine ⟨by rw [a,List.map_cons,List.append_assoc];rfl,fun m hm=>?_⟩
   rcases List.mem_cons.1 hm with rfl | hm
   ·exact c
   ·exact b m hm
theorem aEb {l:List Int} (hl:∀ n∈l,I64 n) (h:(fX l).2=0):(fX l).1=l.map (fun n=>-n)∧∀ n∈l,n≠aCy:=by
 have:=aEa l [] (fX l) hl rfl h
 exact this
theorem aBq:∀ (l a:List Part) (r:List Part×Int),(∀ p∈l,I64 p.net∧I64 p.tax)→aC dB (fun l=>(l,0)) l a=r→r.2=0→r.1=a++l.map aG6∧∀ p∈l,p.net≠aCy∧p.tax≠aCy
 | [],a,r,_,h,_=>by subst h;simp [aC]
 | p::l,a,r,hl,h,h0=>by
  simp only [aC,dB] at h
  split at h
  ·rename_i r' he
   split at he
   ·rename_i hc;cases he;subst h;exact absurd h0 hc
   ·cases he
  ·rename_i s' he
   split at he
   ·cases he
   ·rename_i hc
    cases he
    have hp:=hl p (List.mem_cons_self ..)
    obtain ⟨e1,e2⟩:=aEb (l:=[p.net,p.tax]) (fun n hn=>by
     simp only [List.mem_cons,List.not_mem_nil,or_false] at hn
     rcases hn with rfl | rfl
     ·exact hp.1
     ·exact hp.2) (Decidable.not_not.1 hc)
    rw [e1] at h
    obtain ⟨q1,q2⟩:=aBq l _ r (fun m hm=>hl m (List.mem_cons_of_mem _ hm)) h h0
    refine ⟨by rw [q1,List.map_cons,List.append_assoc];rfl,fun m hm=>?_⟩
    rcases List.mem_cons.1 hm with rfl | hm
    ·exact ⟨e2 _ (List.mem_cons_self ..),e2 _ (List.mem_cons_of_mem _ (List.mem_cons_self ..))⟩
    ·exact q2 m hm
theorem aKb {t:Total} (ht:∀ p∈t.parts,I64 p.net∧I64 p.tax) (h1:I64 t.net) (h2:I64 t.tax) (h3:I64 t.gross) (h:(bE t).2=0):
  (bE t).1=⟨-t.net,-t.tax,-t.gross,t.parts.map aG6⟩∧t.net≠aCy∧t.tax≠aCy∧t.gross≠aCy∧∀ p∈t.parts,p.net≠aCy∧p.tax≠aCy:=by
 unfold bE at h ⊢
 split at h
 ·rename_i hc;exact absurd h hc
 ·rename_i hc
  split at h
  ·rename_i hc2;exact absurd h hc2
  ·rename_i hc2
   rw [if_neg hc,if_neg hc2]
   obtain ⟨e1,e2⟩:=aEb (l:=[t.net,t.tax,t.gross]) (fun n hn=>by
    simp only [List.mem_cons,List.not_mem_nil,or_false] at hn
    rcases hn with rfl | rfl | rfl
    ·exact h1
    ·exact h2
    ·exact h3) (Decidable.not_not.1 hc)
   obtain ⟨q1,q2⟩:=aBq t.parts [] _ ht rfl (Decidable.not_not.1 hc2)
   rw [e1,q1]
   exact ⟨rfl,e2 _ (by simp),e2 _ (by simp),e2 _ (by simp),q2⟩
theorem aN3:∀ l:List Int,(l.map fun n=>-n).sum=-l.sum
 | []=>rfl
 | n::l=>by rw [List.map_cons,List.sum_cons,List.sum_cons,aN3 l];omega
theorem aKc {t:Total} (ht:∀ p∈t.parts,I64 p.net∧I64 p.tax) (ho:cP t=true) (h:(bE t).2=0):cP (bE t).1=true∧(∀ p∈(bE t).1.parts,I64 p.net∧I64 p.tax)∧(bE t).1=⟨-t.net,-t.tax,-t.gross,t.parts.map aG6⟩:=by
 obtain ⟨o1,o2,o3,o4,o5⟩:=(eP t).1 ho
 obtain ⟨s1,s2,s3,s4,s5,s6⟩:=(nP (fun p hp=>(ht p hp).1) (fun p hp=>(ht p hp).2) (by omega)).1 o5
 obtain ⟨b1,b2,b3,b4,b5⟩:=aKb ht s1 s2 s3 h
 unfold aCy at b2 b3 b4 b5
 have hm:∀ p∈t.parts.map aG6,∃ q∈t.parts,p=aG6 q:=fun p hp=>by obtain ⟨q,hq,rfl⟩:=List.mem_map.1 hp;exact ⟨q,hq,rfl⟩
 have hi:∀ p∈t.parts.map aG6,I64 p.net∧I64 p.tax:=fun p hp=>by
  obtain ⟨q,hq,rfl⟩:=hm p hp
  have:=ht q hq
  have:=b5 q hq
  show I64 (-q.net)∧I64 (-q.tax)
  omega
 refine ⟨?_,by rw [b1];exact hi,b1⟩
 rw [b1,eP]
 refine ⟨by simpa using o1,by simpa using o2,fun p hp=>?_,?_,?_⟩
 ·obtain ⟨q,hq,rfl⟩:=hm p hp
  have g:=o3 q hq
  exact ⟨g.name,g.lo,g.hi,(aKa (ht q hq).1 g.lo g.hi (b5 q hq).1 g.tax).1⟩
 ·show (t.parts.map aG6).Pairwise _
  rw [List.pairwise_map];exact o4
 ·rw [nP (fun p hp=>(hi p hp).1) (fun p hp=>(hi p hp).2) (by simp;omega)]
  have e1:(t.parts.map aG6).map (·.net)=(t.parts.map (·.net)).map fun n=>-n:=by rw [List.map_map,List.map_map];rfl
  have e2:(t.parts.map aG6).map (·.tax)=(t.parts.map (·.tax)).map fun n=>-n:=by rw [List.map_map,List.map_map];rfl
  simp only [e1,e2,aN3]
  refine ⟨?_,?_,?_,?_,?_,?_⟩
  ·show I64 (-t.net);omega
  ·show I64 (-t.tax);omega
  ·show I64 (-t.gross);omega
  ·show -t.net=_;omega
  ·show -t.tax=_;omega
  ·show -t.gross=-t.net+-t.tax;omega
theorem aTk {y:Int} (h1:1≤y) (h2:y≤9999):Go.Proofs.YtoaibmbldmckaaaGreat.ahead y=365*(y - 1)+(y - 1) / 4 - (y - 1) / 100+(y - 1) / 400:=by
 unfold Go.Proofs.YtoaibmbldmckaaaGreat.ahead
 have a1:wr .i64 (y - 1)=y - 1:=gM (by omega)
 rw [a1]
 have a2:(y - 1).tdiv 4=(y - 1) / 4:=Int.tdiv_eq_ediv_of_nonneg (by omega)
 have a3:(y - 1).tdiv 100=(y - 1) / 100:=Int.tdiv_eq_ediv_of_nonneg (by omega)
 have a4:(y - 1).tdiv 400=(y - 1) / 400:=Int.tdiv_eq_ediv_of_nonneg (by omega)
 rw [a2,a3,a4]
 rw [gM (n:=365*(y - 1)) (by omega),gM (n:=(y - 1) / 4) (by omega),gM (n:=(y - 1) / 100) (by omega),gM (n:=(y - 1) / 400) (by omega)]
 rw [gM (n:=365*(y - 1)+(y - 1) / 4) (by omega),gM (n:=365*(y - 1)+(y - 1) / 4 - (y - 1) / 100) (by omega),gM (by omega)]
theorem fP (y m:Int):28≤eY y m∧eY y m≤31:=by
 unfold eY
 repeat' split
 all_goals omega
def eL (y:Int):Nat→Int
 | 0=>0
 | n+1=>eL y n+eY y ((n:Int)+1)
theorem kY (y:Int):∀ n:Nat,28*(n:Int)≤eL y n∧eL y n≤31*(n:Int)
 | 0=>by simp [eL]
 | n+1=>by
  have:=kY y n
  have:=fP y ((n:Int)+1)
  simp only [eL]
  omega
theorem aN4 (y:Int):∀ (n k:Nat) (a:Int),-1000000000≤a→a≤1000000000→k+n≤1000→aC (lE y) id (List.range' k n) (a+eL y k)=a+eL y (k+n)
 | 0,k,a,_,_,_=>rfl
 | n+1,k,a,h1,h2,h3=>by
  have m1:=kY y k
  have m2:=fP y ((k:Int)+1)
  rw [List.range'_succ]
  simp only [aC,lE]
  rw [gM (by omega),Int.add_assoc]
  have:=aN4 y n (k+1) a h1 h2 (by omega)
  rw [show k+(n+1)=k+1+n from by omega]
  exact this
theorem sJ (d:Date):d.right=true↔1≤d.y∧d.y≤9999∧1≤d.m∧d.m≤12∧1≤d.d∧d.d≤eY d.y d.m:=by
 unfold Date.right
 simp only [Bool.and_eq_true,decide_eq_true_eq]
theorem aN5 {d:Date} (h:d.right=true):d.days=365*(d.y - 1)+(d.y - 1) / 4 - (d.y - 1) / 100+(d.y - 1) / 400+eL d.y (d.m - 1).toNat+d.d - 1:=by
 obtain ⟨h1,h2,h3,h4,h5,h6⟩:=(sJ d).1 h
 unfold Date.days
 rw [if_pos h]
 have e:=aTk h1 h2
 have hr:=fP d.y d.m
 have hm:=kY d.y (d.m - 1).toNat
 have hl:=aN4 d.y (d.m - 1).toNat 0 (Go.Proofs.YtoaibmbldmckaaaGreat.ahead d.y) (by rw [e];omega) (by rw [e];omega) (by omega)
 simp only [eL,Int.add_zero,Nat.zero_add] at hl
 rw [List.range_eq_range',hl,e,gM (n:=365*(d.y - 1)+(d.y - 1) / 4 - (d.y - 1) / 100+(d.y - 1) / 400+eL d.y (d.m - 1).toNat+d.d) (by omega),gM (by omega)]
theorem aTl (y:Int):eL y 12=365+(if aK2 y=true then 1 else 0):=by
 simp only [eL,eY]
 by_cases c:aK2 y=true<;>simp [c]
theorem aW9 {y:Int} (h:0≤y):aK2 y=decide (y % 4=0∧(y % 100≠0∨y % 400=0)):=by
 unfold aK2
 have a:y.tmod 4=y % 4:=Int.tmod_eq_emod_of_nonneg h
 have b:y.tmod 100=y % 100:=Int.tmod_eq_emod_of_nonneg h
 have c:y.tmod 400=y % 400:=Int.tmod_eq_emod_of_nonneg h
 rw [a,b,c]
 split
 ·rename_i h1
  split
  ·rename_i h2;simp [h1,h2]
  ·rename_i h2;simp [h1,h2]
 ·rename_i h1;simp [h1]
theorem yV (y:Int):∀ (n k:Nat),eL y n+28*(k:Int)≤eL y (n+k)
 | n,0=>by simp
 | n,k+1=>by
  have:=yV y n k
  have:=fP y (((n+k:Nat):Int)+1)
  show _≤eL y (n+k)+eY y (((n+k:Nat):Int)+1)
  omega
theorem aEc (y:Int) {n k:Nat} (h:n<k):eL y n+eY y ((n:Int)+1)≤eL y k:=by
 have:=yV y (n+1) (k - (n+1))
 rw [show n+1+(k - (n+1))=k from by omega] at this
 simp only [eL] at this
 omega
theorem aN6 {a b:Date} (ha:a.right=true) (hb:b.right=true) (h:a.y<b.y∨a.y=b.y∧(a.m<b.m∨a.m=b.m∧a.d<b.d)):a.days<b.days:=by
 rw [aN5 ha,aN5 hb]
 obtain ⟨a1,a2,a3,a4,a5,a6⟩:=(sJ a).1 ha
 obtain ⟨b1,b2,b3,b4,b5,b6⟩:=(sJ b).1 hb
 have hma:∀ {d:Date},1≤d.m→(((d.m - 1).toNat:Nat):Int)+1=d.m:=fun h=>by omega
 rcases h with h | ⟨hy,h | ⟨h2,h⟩⟩
 ·
  have h12:eL a.y (a.m - 1).toNat+a.d≤eL a.y 12:=by
   have:=aEc a.y (n:=(a.m - 1).toNat) (k:=12) (by omega)
   rw [hma a3] at this
   omega
  rw [aTl,aW9 (by omega)] at h12
  have h0:=(kY b.y (b.m - 1).toNat).1
  by_cases c:a.y % 4=0∧(a.y % 100≠0∨a.y % 400=0)
  ·rw [if_pos (by simpa using c)] at h12
   omega
  ·rw [if_neg (by simpa using c)] at h12
   omega
 ·have:=aEc a.y (n:=(a.m - 1).toNat) (k:=(b.m - 1).toNat) (by omega)
  rw [hma a3] at this
  rw [hy] at this ⊢
  rw [hy] at a6
  omega
 ·rw [hy,h2];omega
theorem aTm {a b:Date} (ha:a.right=true) (hb:b.right=true) (h:a.days=b.days):a=b:=by
 have h1:¬ (a.y<b.y∨a.y=b.y∧(a.m<b.m∨a.m=b.m∧a.d<b.d)):=fun q=>by have:=aN6 ha hb q;omega
 have h2:¬ (b.y<a.y∨b.y=a.y∧(b.m<a.m∨b.m=a.m∧b.d<a.d)):=fun q=>by have:=aN6 hb ha q;omega
 have e1:a.y=b.y:=by omega
 have e2:a.m=b.m:=by omega
 have e3:a.d=b.d:=by omega
 cases a;cases b
 simp only at e1 e2 e3
 rw [e1,e2,e3]
theorem aN7 {α:Type} (p:α→Bool):∀ (l:List α) (n:Nat),aC (dU p) (fun _=>-1) l n=-1→∀ a∈l,p a=false
 | [],n,_,a,h=>by cases h
 | x::l,n,h,a,ha=>by
  by_cases c:p x=true
  ·simp only [aC,dU,c,if_true] at h
   omega
  ·simp only [aC,dU,c,if_false] at h
   rcases List.mem_cons.1 ha with rfl | ha
   ·simpa using c
   ·exact aN7 p l (n+1) h a ha
theorem aWa {α:Type} {p:α→Bool} {l:List α} (h:ixM p l<0):∀ a∈l,p a=false:=by
 rcases jA p l with e | ⟨i,a,e,_⟩
 ·exact aN7 p l 0 e
 ·rw [e] at h;omega
theorem aEd {α:Type} (p:α→Bool):∀ (l:List α) (n i:Nat) (a:α),l[i]?=some a→p a=true→(∀ j b,j<i→l[j]?=some b→p b=false)→aC (dU p) (fun _=>-1) l n=((n+i:Nat):Int)
 | x::l,n,0,a,h,hp,_=>by
  cases h
  simp only [aC,dU,hp,if_true];rfl
 | x::l,n,i+1,a,h,hp,hj=>by
  have c:p x=false:=hj 0 x (by omega) rfl
  simp only [aC,dU,c,Bool.false_eq_true,if_false]
  rw [aEd p l (n+1) i a h hp (fun j b hji hb=>hj (j+1) b (by omega) hb)]
  omega
theorem aEe {α:Type} {p:α→Bool} {l:List α} {i:Nat} {a:α} (h:l[i]?=some a) (hp:p a=true) (hj:∀ j b,j<i→l[j]?=some b→p b=false):ixM p l=(i:Int):=by
 have:=aEd p l 0 i a h hp hj
 rw [Nat.zero_add] at this
 exact this
theorem lU {l:List Ser} (hs:l.Pairwise (fun a b=>eV a.name b.name=true)) {i:Nat} {s:Ser} (h:l[i]?=some s):eO l s.name=(i:Int):=by
 refine aEe h (by simp) (fun j b hj hb=>?_)
 have h1:=List.pairwise_iff_getElem.1 hs j i (List.getElem?_eq_some_iff.1 hb).1 (List.getElem?_eq_some_iff.1 h).1 hj
 rw [(List.getElem?_eq_some_iff.1 hb).2,(List.getElem?_eq_some_iff.1 h).2] at h1
 have:=bBl h1
 simpa using this
theorem aBr {l:List Ser} {name:List UInt8} (h:eO l name<0):∀ s∈l,s.name≠name:=fun s hs=>by
 have:=aWa h s hs
 simpa using this
def uN (l:List Posted) (name:List UInt8):Int:=((l.filter fun p=>p.ref.ser == name).length:Int)
theorem jC (a b:List Posted) (name:List UInt8):uN (a++b) name=uN a name+uN b name:=by
 unfold uN;rw [List.filter_append,List.length_append];omega
theorem sK (p:Posted) (name:List UInt8):uN [p] name=if p.ref.ser=name then 1 else 0:=by
 unfold uN
 by_cases c:p.ref.ser=name
 ·simp [c]
 ·simp [c]
theorem uJ (l:List Posted) (name:List UInt8):0≤uN l name:=by unfold uN;omega
structure Nums (ser:List Ser) (l:List Posted):Prop where
 num:∀ i p,l[i]?=some p→(∃ s∈ser,s.name=p.ref.ser)∧p.ref.num=uN (l.take i) p.ref.ser+1
 next:∀ s∈ser,s.next=uN l s.name+1
def kO (ser:List Ser) (l:List Posted):List Int:=ser.map (fun s=>uN l s.name)++List.replicate (8 - ser.length) 0
theorem jD {ser:List Ser} {l:List Posted} {i:Nat} {s:Ser} (h:ser[i]?=some s):(kO ser l)[i]?=some (uN l s.name):=by
 unfold kO
 rw [List.getElem?_append_left (by rw [List.length_map];exact (List.getElem?_eq_some_iff.1 h).1),List.getElem?_map,h]
 rfl
theorem aKd {ser:List Ser} (hs:ser.Pairwise (fun a b=>eV a.name b.name=true)) {l:List Posted} {p:Posted} {i:Nat} {s:Ser} (h:ser[i]?=some s) (hn:s.name=p.ref.ser):bump (kO ser l) i=kO ser (l++[p]):=by
 unfold bump
 rw [List.getD_eq_getElem?_getD,jD h]
 apply List.ext_getElem?
 intro j
 rw [List.getElem?_set]
 have hlen:ser.length≤(kO ser l).length:=by unfold kO;rw [List.length_append,List.length_map];omega
 have hi:=(List.getElem?_eq_some_iff.1 h).1
 split
 ·rename_i e
  subst e
  rw [if_pos (by omega),jD h,jC,sK,if_pos hn.symm]
  rfl
 ·rename_i e
  by_cases hj:j<ser.length
  ·have hjs:ser[j]?=some ser[j]:=List.getElem?_eq_getElem hj
   rw [jD hjs,jD hjs,jC,sK,if_neg,Int.add_zero]
   intro hc
   have e1:=lU hs hjs
   have e2:=lU hs h
   rw [hn,hc] at e2
   rw [e2] at e1
   exact e (by omega)
  ·unfold kO
   rw [List.getElem?_append_right (by rw [List.length_map];omega),List.getElem?_append_right (by rw [List.length_map];omega),List.length_map,List.length_map]
theorem bHk {ser:List Ser} (hs:ser.Pairwise (fun a b=>eV a.name b.name=true)) (h8:ser.length≤8) {fin:List Int→Bool}:∀ (l done:List Posted),aC (jK ser) fin l (kO ser done)=true ↔
  (∀ i p,l[i]?=some p→(∃ s∈ser,s.name=p.ref.ser)∧p.ref.num=uN (done++l.take i) p.ref.ser+1)∧fin (kO ser (done++l))=true
 | [],done=>by simp [aC]
 | p::l,done=>by
  by_cases c:eO ser p.ref.ser<0
  ·have e:jK ser (kO ser done) p=.inl false:=by unfold jK;rw [if_pos c]
   simp only [aC,e]
   constructor
   ·intro h;cases h
   ·rintro ⟨h,_⟩
    obtain ⟨⟨s,h1,h2⟩,_⟩:=h 0 p rfl
    exact absurd h2 (aBr c s h1)
  ·rcases jW ser p.ref.ser with e | ⟨i,s,e,hi,hn⟩
   ·exact absurd (by rw [e];decide) c
   ·have hb:=aKd hs (l:=done) hi hn
    have hg:(kO ser (done++[p])).getD i 0=uN done p.ref.ser+1:=by
     rw [List.getD_eq_getElem?_getD,jD hi,jC,sK,if_pos hn.symm,hn];rfl
    by_cases q:p.ref.num=uN done p.ref.ser+1
    ·have es:jK ser (kO ser done) p=.inr (kO ser (done++[p])):=by
      unfold jK
      rw [if_neg c,e]
      simp only [Int.toNat_natCast]
      rw [hb,hg,if_pos q]
     simp only [aC,es]
     rw [bHk hs h8 l (done++[p])]
     constructor
     ·rintro ⟨h1,h2⟩
      refine ⟨fun j x hj=>?_,by rw [List.append_assoc] at h2;exact h2⟩
      cases j with
      | zero=>cases hj;exact ⟨⟨s,List.mem_of_getElem? hi,hn⟩,by simpa using q⟩
      | succ j=>have:=h1 j x hj;rw [List.append_assoc] at this;exact this
     ·rintro ⟨h1,h2⟩
      refine ⟨fun j x hj=>?_,by rw [List.append_assoc];exact h2⟩
      have:=h1 (j+1) x hj
      rw [List.append_assoc];exact this
    ·have es:jK ser (kO ser done) p=.inl false:=by
      unfold jK
      rw [if_neg c,e]
      simp only [Int.toNat_natCast]
      rw [hb,hg,if_neg q]
     simp only [aC,es]
     constructor
     ·intro h;cases h
     ·rintro ⟨h,_⟩
      have:=(h 0 p rfl).2
      simp only [List.take_zero,List.append_nil] at this
      exact absurd this q
theorem bHl:∀ (ser:List Ser) (is:List Int),aC iL (fun _=>true) ser is=true↔∀ i s,ser[i]?=some s→s.next=is.getD i 0+1
 | [],is=>by simp [aC]
 | s::l,is=>by
  have hh:is.headD 0=is.getD 0 0:=by cases is<;>rfl
  have ht:∀ j,is.tail.getD j 0=is.getD (j+1) 0:=fun j=>by cases is<;>simp
  by_cases c:s.next=is.getD 0 0+1
  ·have e:iL is s=.inr is.tail:=by unfold iL;rw [hh,if_pos c]
   simp only [aC,e]
   rw [bHl l is.tail]
   constructor
   ·intro h i x hx
    cases i with
    | zero=>cases hx;exact c
    | succ i=>have:=h i x hx;rwa [ht] at this
   ·intro h i x hx
    have:=h (i+1) x hx
    rwa [ht]
  ·have e:iL is s=.inl false:=by unfold iL;rw [hh,if_neg c]
   simp only [aC,e]
   constructor
   ·intro h;cases h
   ·intro h;exact absurd (h 0 s rfl) c
theorem wQ {ser:List Ser} (hs:ser.Pairwise (fun a b=>eV a.name b.name=true)) (h8:ser.length≤8) (l:List Posted):lS ser l=true↔Nums ser l:=by
 unfold lS
 have h0:List.replicate 8 (0:Int)=kO ser []:=by
  unfold kO
  apply List.ext_getElem?
  intro j
  by_cases hj:j<ser.length
  ·rw [List.getElem?_append_left (by rw [List.length_map];exact hj),List.getElem?_map,List.getElem?_eq_getElem hj,List.getElem?_replicate,if_pos (by omega)];rfl
  ·rw [List.getElem?_append_right (by rw [List.length_map];omega),List.length_map,List.getElem?_replicate,List.getElem?_replicate]
   by_cases hj8:j<8
   ·rw [if_pos hj8,if_pos (by omega)]
   ·rw [if_neg hj8,if_neg (by omega)]
 rw [h0,bHk hs h8 l [],bHl]
 simp only [List.nil_append]
 constructor
 ·rintro ⟨h1,h2⟩
  refine ⟨h1,fun s hm=>?_⟩
  obtain ⟨i,hi⟩:=List.mem_iff_getElem?.1 hm
  have:=h2 i s hi
  rwa [List.getD_eq_getElem?_getD,jD hi] at this
 ·rintro ⟨h1,h2⟩
  refine ⟨h1,fun i s hi=>?_⟩
  rw [List.getD_eq_getElem?_getD,jD hi]
  exact h2 s (List.mem_of_getElem? hi)
def aTn:Posted:=⟨Ref.zero,⟨0,0,0⟩,Total.zero,Ref.zero,false⟩
def kZ (p:Posted):Posted:={ p with back:=false }
def lV (done:List Posted) (p:Posted):Prop:=p.day.right=true∧cP p.total=true∧(p.of=Ref.zero∨0≤aX done p.of∧mU p (done.getD (aX done p.of).toNat aTn)=true)
def cV (done:List Posted) (is:List Int) (p:Posted):List Int:=if p.of=Ref.zero then is else bump is (aX done p.of).toNat
def bB:List Posted→List Posted→List Int→List Int
 | _,[],is=>is
 | done,p::l,is=>bB (done++[p]) l (cV done is p)
def bI (l:List Posted):List Int:=bB [] l (List.replicate 40 0)
theorem aI4 {done:List Posted} {is:List Int} {p:Posted} (h:lV done p):eZ (done,is) p=.inr (done++[p],cV done is p):=by
 obtain ⟨h1,h2,h3⟩:=h
 unfold eZ cV
 rw [if_neg (by rw [h1];simp),if_neg (by rw [h2];simp)]
 by_cases c:p.of=Ref.zero
 ·rw [if_pos c,if_pos c]
 ·rw [if_neg c,if_neg c]
  rcases h3 with h3 | ⟨h3,h4⟩
  ·exact absurd h3 c
  ·simp only
   rw [if_neg (by omega)]
   unfold aTn at h4
   rw [h4]
   simp
theorem aI5 {done:List Posted} {is:List Int} {p:Posted} (h:¬ lV done p):eZ (done,is) p=.inl false:=by
 unfold eZ
 split
 ·rfl
 ·rename_i h1
  split
  ·rfl
  ·rename_i h2
   have h1:p.day.right=true:=by simpa using h1
   have h2:cP p.total=true:=by simpa using h2
   split
   ·rename_i h3;exact absurd ⟨h1,h2,.inl h3⟩ h
   ·split
    ·rfl
    ·rename_i h4
     split
     ·rfl
     ·rename_i h5
      exact absurd ⟨h1,h2,.inr ⟨by simp only at h4;omega,(Bool.not_eq_false _).mp h5⟩⟩ h
theorem bAl {fin:List Posted×List Int→Bool}:∀ (l done:List Posted) (is:List Int),aC eZ fin l (done,is)=true↔(∀ i p,l[i]?=some p→lV (done++l.take i) p)∧fin (done++l,bB done l is)=true
 | [],done,is=>by simp [aC,bB]
 | p::l,done,is=>by
  by_cases c:lV done p
  ·simp only [aC,aI4 c]
   rw [bAl l (done++[p]) _]
   simp only [bB]
   constructor
   ·rintro ⟨h1,h2⟩
    refine ⟨fun j x hj=>?_,by rw [List.append_assoc] at h2;exact h2⟩
    cases j with
    | zero=>cases hj;simpa using c
    | succ j=>have:=h1 j x hj;rw [List.append_assoc] at this;exact this
   ·rintro ⟨h1,h2⟩
    refine ⟨fun j x hj=>?_,by rw [List.append_assoc];exact h2⟩
    have:=h1 (j+1) x hj
    rw [List.append_assoc];exact this
  ·simp only [aC,aI5 c]
   constructor
   ·intro h;cases h
   ·rintro ⟨h,_⟩
    have:=h 0 p rfl
    simp only [List.take_zero,List.append_nil] at this
    exact absurd this c
theorem bHm:∀ (l:List Posted) (is:List Int),aC fY (fun _=>true) l is=true↔∀ i p,l[i]?=some p→is.getD i 0≤1∧p.back=decide (is.getD i 0=1)
 | [],is=>by simp [aC]
 | s::l,is=>by
  have hh:is.headD 0=is.getD 0 0:=by cases is<;>rfl
  have ht:∀ j,is.tail.getD j 0=is.getD (j+1) 0:=fun j=>by cases is<;>simp
  by_cases c:is.getD 0 0≤1∧s.back=decide (is.getD 0 0=1)
  ·have e:fY is s=.inr is.tail:=by unfold fY;rw [hh,if_neg (by omega),if_pos c.2]
   simp only [aC,e]
   rw [bHm l is.tail]
   constructor
   ·intro h i x hx
    cases i with
    | zero=>cases hx;exact c
    | succ i=>have:=h i x hx;rwa [ht] at this
   ·intro h i x hx
    have:=h (i+1) x hx
    rwa [ht]
  ·have e:fY is s=.inl false:=by
    unfold fY
    rw [hh]
    split
    ·rfl
    ·split
     ·rename_i h1 h2;exact absurd ⟨by omega,h2⟩ c
     ·rfl
   simp only [aC,e]
   constructor
   ·intro h;cases h
   ·intro h;exact absurd (h 0 s rfl) c
theorem eQ (l:List Posted):gO l=true↔l.length≤40∧(∀ i p,l[i]?=some p→lV (l.take i) p)∧∀ i p,l[i]?=some p→(bI l).getD i 0≤1∧p.back=decide ((bI l).getD i 0=1):=by
 unfold gO
 split
 ·rename_i h;simp;omega
 ·rename_i h
  rw [bAl l [] _,bHm]
  simp only [List.nil_append]
  exact ⟨fun ⟨a,b⟩=>⟨by omega,a,b⟩,fun ⟨_,a,b⟩=>⟨a,b⟩⟩
theorem mN:∀ (l done:List Posted) (is:List Int) (p:Posted),bB done (l++[p]) is=cV (done++l) (bB done l is) p
 | [],done,is,p=>by simp [bB]
 | x::l,done,is,p=>by
  simp only [List.cons_append,bB]
  rw [mN l]
  rw [List.append_assoc];rfl
theorem jM (l:List Posted) (p:Posted):bI (l++[p])=cV l (bI l) p:=by
 unfold bI
 rw [mN,List.nil_append]
theorem nQ:∀ (l done:List Posted) (is:List Int),(∀ i,0≤is.getD i 0)→(∀ i,done.length≤i→is.getD i 0=0)→(∀ i p,l[i]?=some p→lV (done++l.take i) p)→
  (∀ i,0≤(bB done l is).getD i 0)∧(∀ i,(done++l).length≤i→(bB done l is).getD i 0=0)∧(bB done l is).length=is.length
 | [],done,is,h1,h2,_=>⟨h1,by rw [List.append_nil];exact h2,rfl⟩
 | p::l,done,is,h1,h2,h3=>by
  simp only [bB]
  have hp:=h3 0 p rfl
  simp only [List.take_zero,List.append_nil] at hp
  have hb:∀ i,(cV done is p).getD i 0=is.getD i 0∨i<done.length∧(cV done is p).getD i 0=is.getD i 0+1:=by
   intro i
   unfold cV
   split
   ·exact .inl rfl
   ·rename_i hc
    obtain ⟨hp1,_⟩:=hp.2.2.resolve_left hc
    rcases kW done p.of with e | ⟨k,x,e,hk,_⟩
    ·omega
    ·have hkl:=(List.getElem?_eq_some_iff.1 hk).1
     rw [e,Int.toNat_natCast]
     unfold bump
     simp only [List.getD_eq_getElem?_getD,List.getElem?_set]
     by_cases q:k=i
     ·rw [if_pos q]
      subst q
      split
      ·exact .inr ⟨hkl,rfl⟩
      ·rename_i hn;left;rw [List.getElem?_eq_none (by omega)]
     ·rw [if_neg q];exact .inl rfl
  have hl:(cV done is p).length=is.length:=by
   unfold cV
   split
   ·rfl
   ·exact wJ _ _
  obtain ⟨a,b,c⟩:=nQ l (done++[p]) (cV done is p) (fun i=>by have:=h1 i;rcases hb i with h | ⟨_,h⟩<;>omega)
   (fun i hi=>by
    rw [List.length_append] at hi
    simp only [List.length_cons,List.length_nil] at hi
    have:=h2 i (by omega)
    rcases hb i with h | ⟨h0,h⟩<;>omega)
   (fun i x hx=>by have:=h3 (i+1) x hx;rw [List.append_assoc];exact this)
  refine ⟨a,fun i hi=>b i (by rw [List.append_assoc];exact hi),c.trans hl⟩
theorem iN {l:List Posted} (h:∀ i p,l[i]?=some p→lV (l.take i) p):(∀ i,0≤(bI l).getD i 0)∧(∀ i,l.length≤i→(bI l).getD i 0=0)∧(bI l).length=40:=by
 have hz:∀ i,(List.replicate 40 (0:Int)).getD i 0=0:=fun i=>by
  rw [List.getD_eq_getElem?_getD,List.getElem?_replicate];split<;>rfl
 have:=nQ l [] (List.replicate 40 0) (fun i=>by rw [hz];omega) (fun i _=>hz i) (by simpa using h)
 simp only [List.nil_append,List.length_replicate] at this
 exact this
theorem nR (l:List Posted) (r:Ref):aX (l.map kZ) r=aX l r:=by
 unfold aX
 rw [←aVr]
 rfl
theorem aOy (p q:Posted):mU (kZ p) (kZ q)=mU p q:=rfl
theorem aWb (l:List Posted) (k:Nat):(l.map kZ).getD k aTn=kZ (l.getD k aTn):=by
 rw [List.getD_eq_getElem?_getD,List.getD_eq_getElem?_getD,List.getElem?_map]
 cases l[k]?<;>rfl
theorem aN8 (done:List Posted) (p:Posted):lV (done.map kZ) (kZ p)↔lV done p:=by
 unfold lV
 rw [aWb,aOy]
 show _∧_∧(p.of=Ref.zero∨0≤aX (done.map kZ) p.of∧_)↔_
 have e:aX (done.map kZ) (kZ p).of=aX done p.of:=nR done p.of
 rw [e,nR]
 exact Iff.rfl
theorem sY:∀ (l done:List Posted) (is:List Int),bB (done.map kZ) (l.map kZ) is=bB done l is
 | [],_,_=>rfl
 | p::l,done,is=>by
  simp only [List.map_cons,bB]
  have e:cV (done.map kZ) is (kZ p)=cV done is p:=by
   unfold cV
   show (if p.of=Ref.zero then is else bump is (aX (done.map kZ) p.of).toNat)=_
   rw [nR]
  rw [e]
  have:=sY l (done++[p]) (cV done is p)
  rw [List.map_append] at this
  exact this
theorem aEf (l:List Posted):bI (l.map kZ)=bI l:=sY l [] _
theorem aBs (l:List Posted) (k:Nat):(cR l k).map kZ=l.map kZ:=by
 unfold cR
 split
 ·rfl
 ·rename_i p hp
  apply List.ext_getElem?
  intro j
  rw [List.getElem?_map,List.getElem?_map,List.getElem?_set]
  split
  ·rename_i e;subst e;rw [if_pos (List.getElem?_eq_some_iff.1 hp).1,hp];rfl
  ·rfl
theorem aTo {l m:List Posted} (e:l.map kZ=m.map kZ) (h:∀ i p,l[i]?=some p→lV (l.take i) p):∀ i p,m[i]?=some p→lV (m.take i) p:=by
 intro i p hp
 have h1:(l.map kZ)[i]?=some (kZ p):=by rw [e,List.getElem?_map,hp];rfl
 rw [List.getElem?_map] at h1
 cases hq:l[i]? with
 | none=>rw [hq] at h1;cases h1
 | some q=>
  rw [hq] at h1
  have hqp:kZ q=kZ p:=Option.some.inj h1
  have:=h i q hq
  rw [←aN8,List.map_take,hqp,e,←List.map_take,aN8] at this
  exact this
theorem yW {fin:List Bal→List Bal×Int}:∀ (l:List Posted) (a b:List Bal),aC bM (fun b=>(b,0)) l a=(b,0)→aC bM fin l a=fin b
 | [],a,b,h=>by cases h;rfl
 | p::l,a,b,h=>by
  simp only [aC] at h ⊢
  split at h
  ·rename_i r he
   unfold bM at he
   split at he
   ·rename_i hc;cases he;exact absurd (congrArg Prod.snd h) hc
   ·split at he
    ·rename_i hc;cases he;exact absurd (congrArg Prod.snd h) hc
    ·cases he
  ·exact yW l _ b h
theorem aG7 {l:List Posted} {b:List Bal} (h:cQ l=(b,0)) {p:Posted} (h1:(cY p.total).2=0) (h2:(bU b (cY p.total).1).2=0):cQ (l++[p])=((bU b (cY p.total).1).1,0):=by
 unfold cQ at h ⊢
 rw [yS,yW l [] b h]
 simp only [aC,bM,h1,h2,ne_eq,not_true_eq_false,if_false]
theorem uK {fin:List Bal→List Bal×Int}:∀ (l:List Posted) (a:List Bal),aC bM fin (l.map kZ) a=aC bM fin l a
 | [],_=>rfl
 | p::l,a=>by
  simp only [List.map_cons,aC]
  have e:bM a (kZ p)=bM a p:=rfl
  rw [e]
  split
  ·rfl
  ·exact uK l _
theorem aKe {l m:List Posted} (e:l.map kZ=m.map kZ):cQ l=cQ m:=by
 unfold cQ
 rw [←uK l,e,uK]
theorem aG8 (l:List Posted) (name:List UInt8):uN (l.map kZ) name=uN l name:=by
 unfold uN
 rw [List.filter_map,List.length_map]
 rfl
theorem aWc {ser:List Ser} {l m:List Posted} (e:l.map kZ=m.map kZ) (h:Nums ser l):Nums ser m:=by
 refine ⟨fun i p hp=>?_,fun s hs=>by rw [h.next s hs,←aG8 l,e,aG8]⟩
 have h1:(l.map kZ)[i]?=some (kZ p):=by rw [e,List.getElem?_map,hp];rfl
 rw [List.getElem?_map] at h1
 cases hq:l[i]? with
 | none=>rw [hq] at h1;cases h1
 | some q=>
  rw [hq] at h1
  have hqp:kZ q=kZ p:=Option.some.inj h1
  have hr:(kZ q).ref=(kZ p).ref:=congrArg Posted.ref hqp
  have hr:q.ref=p.ref:=hr
  obtain ⟨a,b⟩:=h.num i q hq
  rw [hr] at a b
  refine ⟨a,?_⟩
  rw [b,←aG8,List.map_take,e,←List.map_take,aG8]
theorem aI6 {l:List Sess} (hs:l.Pairwise (fun a b=>a.id<b.id)) (n:Int):aBg l n=true↔∀ s∈l,s.id<n:=by
 unfold aBg
 cases h:l[l.length - 1]? with
 | none=>
  have:l=[]:=by
   rw [List.getElem?_eq_none_iff] at h
   cases l with
   | nil=>rfl
   | cons a l=>simp only [List.length_cons] at h;omega
  subst this
  simp
 | some s=>
  simp only [decide_eq_true_eq]
  constructor
  ·intro hn x hx
   obtain ⟨i,hi⟩:=List.mem_iff_getElem?.1 hx
   have hil:=(List.getElem?_eq_some_iff.1 hi).1
   by_cases c:i=l.length - 1
   ·subst c;rw [h] at hi;cases hi;exact hn
   ·have h1:=List.pairwise_iff_getElem.1 hs i (l.length - 1) hil (by omega) (by omega)
    rw [(List.getElem?_eq_some_iff.1 h).2,(List.getElem?_eq_some_iff.1 hi).2] at h1
    omega
  ·intro q;exact q s (List.mem_of_getElem? h)
def pE (l:List Sess) (n:Int):Prop:=l.length≤8∧(∀ s∈l,0<s.id∧0≤s.last∧s.last≤1099511627776∧(s.last=0→s.reply=Rep.zero))∧l.Pairwise (fun a b=>a.id<b.id)∧1≤n∧n≤1099511627776∧∀ s∈l,s.id<n
theorem aCz (s:State):jB s=true↔pE s.sess s.next:=by
 unfold jB pE
 constructor
 ·intro h
  repeat' split at h
  all_goals first | (cases h;done) | skip
  rename_i h1 h2 h3
  obtain ⟨a,b,c⟩:=(sG _).1 h1
  exact ⟨a,b,c,h2,h3,(aI6 c _).1 h⟩
 ·rintro ⟨a,b,c,d,e,f⟩
  rw [if_pos ((sG _).2 ⟨a,b,c⟩),if_pos d,if_pos e]
  exact (aI6 c _).2 f
theorem bO (s:State):aS s=true↔fC s.table=true∧lY s.ser=true∧pE s.sess s.next∧gO s.posted=true∧Nums s.ser s.posted∧cQ s.posted=(s.book,0):=by
 rw [←aCz]
 unfold aS
 constructor
 ·intro h
  repeat' split at h
  all_goals first | (cases h;done) | skip
  rename_i h1 h2 h3 h4 h5 h6
  have h2':lY s.ser=true:=by simpa using h2
  obtain ⟨a,b,c⟩:=(fA _).1 h2'
  exact ⟨by simpa using h1,h2',by simpa using h3,by simpa using h4,(wQ c a _).1 (by simpa using h5),Prod.ext (of_decide_eq_true h) h6⟩
 ·rintro ⟨h1,h2,h3,h4,h5,h6⟩
  obtain ⟨a,b,c⟩:=(fA _).1 h2
  rw [if_neg (by rw [h1];simp),if_neg (by rw [h2];simp),if_neg (by rw [h3];simp),if_neg (by rw [h4];simp),if_neg (by rw [(wQ c a _).2 h5];simp),if_pos (by rw [h6])]
  rw [h6];simp
theorem aBt {l:List Ser} {name:List UInt8} {limit:Int} (h:(eA l name limit).2=0):lY (eA l name limit).1=true∧(∀ s,s∈(eA l name limit).1↔s=⟨name,1,limit,false⟩∨s∈l)∧(∀ s∈l,s.name≠name)∧l.length<8:=by
 unfold eA at h ⊢
 split at h
 ·simp at h
 ·rename_i h1
  split at h
  ·simp at h
  ·rename_i h2
   split at h
   ·simp at h
   ·rename_i h3
    split at h
    ·simp at h
    ·rename_i h4
     split at h
     ·simp at h
     ·rename_i h5
      rw [if_neg h1,if_neg h2,if_neg h3,if_neg h4,if_neg h5]
      obtain ⟨a,b,c⟩:=(fA l).1 (by simpa using h1)
      have hn:=aBr (l:=l) (name:=name) (by omega)
      refine ⟨?_,fun s=>gA _ _ _ _,hn,by omega⟩
      simp only
      rw [fA]
      refine ⟨by have:=nN l (lR (fun s=>eV s.name name) l) ⟨name,1,limit,false⟩;omega,fun s hs=>?_,?_⟩
      ·rcases (gA _ _ _ _).1 hs with rfl | hs
       ·refine ⟨by simpa using h2,?_⟩
        unfold oU
        rw [gM (by simp only;omega)]
        simp;omega
       ·exact b s hs
      ·rw [sI]
       refine pD c (fun a b c=>gX) (fun x hx hp=>hp) (fun x hx hp=>?_)
       rcases aA8 x.name name with q | q | q
       ·rw [hp] at q;cases q
       ·exact absurd q (hn x hx)
       ·exact q
theorem aTp {l:List Ser} {name:List UInt8} (h:(nL l name).2=0):lY (nL l name).1=true∧∃ (i:Nat) (s:Ser),l[i]?=some s∧s.name=name∧(nL l name).1=l.set i { s with shut:=true }:=by
 unfold nL at h ⊢
 split at h
 ·rename_i hc;exact absurd h hc
 ·rename_i hc
  rw [if_neg hc]
  obtain ⟨h1,i,s,e1,e2,h3,h4,h5⟩:=vY (Decidable.not_not.1 hc)
  rw [e1]
  simp only [Int.toNat_natCast,h3]
  refine ⟨?_,i,s,h3,h4,rfl⟩
  obtain ⟨a,b,c⟩:=(fA l).1 h1
  rw [fA]
  refine ⟨by rw [List.length_set];exact a,fun x hx=>?_,uH (key:=fun s:Ser=>s.name) c h3 rfl⟩
  rcases List.mem_or_eq_of_mem_set hx with hx | rfl
  ·exact b x hx
  ·exact b s (List.mem_of_getElem? h3)
theorem aTq {l:List Ser} {name:List UInt8} (h:(cA l name).2.2=0):lY (cA l name).1=true∧∃ (i:Nat) (s:Ser),l[i]?=some s∧s.name=name∧s.shut=false∧s.next≤s.limit∧(cA l name)=(l.set i { s with next:=s.next+1 },s.next,0):=by
 unfold cA at h ⊢
 split at h
 ·rename_i hc;exact absurd h hc
 ·rename_i hc
  rw [if_neg hc]
  obtain ⟨h1,i,s,e1,e2,h3,h4,h5⟩:=vY (Decidable.not_not.1 hc)
  rw [e1] at h ⊢
  simp only [Int.toNat_natCast,h3] at h ⊢
  split at h
  ·simp at h
  ·rename_i h6
   rw [if_neg h6]
   obtain ⟨a,b,c⟩:=(fA l).1 h1
   have hb:=(b s (List.mem_of_getElem? h3)).2
   unfold oU at hb
   simp only [Bool.or_eq_false_iff,decide_eq_false_iff_not] at hb
   obtain ⟨b1,b2,b3,b4⟩:=hb
   rw [gM (by omega)] at b4
   rw [gM (n:=s.next+1) (by omega)]
   refine ⟨?_,i,s,h3,h4,h5,by omega,rfl⟩
   rw [fA]
   refine ⟨by rw [List.length_set];exact a,fun x hx=>?_,uH (key:=fun s:Ser=>s.name) c h3 rfl⟩
   rcases List.mem_or_eq_of_mem_set hx with hx | rfl
   ·exact b x hx
   ·refine ⟨(b s (List.mem_of_getElem? h3)).1,?_⟩
    unfold oU
    rw [gM (by simp only;omega)]
    simp only [Bool.or_eq_false_iff,decide_eq_false_iff_not]
    omega
theorem aOz {l:List Ser} {post:List Posted} {name:List UInt8} {limit:Int} (h:(eA l name limit).2=0) (hn:Nums l post):Nums (eA l name limit).1 post:=by
 obtain ⟨_,hm,hne,_⟩:=aBt h
 refine ⟨fun i p hp=>?_,fun s hs=>?_⟩
 ·obtain ⟨⟨s,h1,h2⟩,h3⟩:=hn.num i p hp
  exact ⟨⟨s,(hm s).2 (.inr h1),h2⟩,h3⟩
 ·rcases (hm s).1 hs with rfl | hs
  ·have:uN post name=0:=by
    unfold uN
    rw [List.filter_eq_nil_iff.2]
    ·rfl
    ·intro p hp hc
     obtain ⟨i,hi⟩:=List.mem_iff_getElem?.1 hp
     obtain ⟨⟨s,h1,h2⟩,_⟩:=hn.num i p hi
     exact hne s h1 (by rw [h2];simpa using hc)
   show (1:Int)=uN post name+1
   omega
  ·exact hn.next s hs
theorem aTr {l:List Ser} {post:List Posted} {i:Nat} {s:Ser} (hi:l[i]?=some s) (hn:Nums l post):Nums (l.set i { s with shut:=true }) post:=by
 have hmem:{ s with shut:=true }∈l.set i { s with shut:=true }:=List.mem_of_getElem? (i:=i) (by rw [List.getElem?_set,if_pos rfl,if_pos (List.getElem?_eq_some_iff.1 hi).1])
 refine ⟨fun j p hp=>?_,fun x hx=>?_⟩
 ·obtain ⟨⟨y,h1,h2⟩,h3⟩:=hn.num j p hp
  obtain ⟨k,hk⟩:=List.mem_iff_getElem?.1 h1
  refine ⟨?_,h3⟩
  by_cases c:i=k
  ·subst c;rw [hi] at hk;cases hk;exact ⟨_,hmem,h2⟩
  ·exact ⟨y,List.mem_of_getElem? (i:=k) (by rw [List.getElem?_set,if_neg c];exact hk),h2⟩
 ·rcases List.mem_or_eq_of_mem_set hx with hx | rfl
  ·exact hn.next x hx
  ·exact hn.next s (List.mem_of_getElem? hi)
theorem aP0 {l:List Ser} (hs:l.Pairwise (fun a b=>eV a.name b.name=true)) {post:List Posted} {i:Nat} {s:Ser} (hi:l[i]?=some s) (hn:Nums l post) {p:Posted} (hp:p.ref=⟨s.name,s.next⟩):Nums (l.set i { s with next:=s.next+1 }) (post++[p]):=by
 have hmem:{ s with next:=s.next+1 }∈l.set i { s with next:=s.next+1 }:=List.mem_of_getElem? (i:=i) (by rw [List.getElem?_set,if_pos rfl,if_pos (List.getElem?_eq_some_iff.1 hi).1])
 have hrs:p.ref.ser=s.name:=by rw [hp]
 have hrn:p.ref.num=s.next:=by rw [hp]
 refine ⟨fun j q hq=>?_,fun x hx=>?_⟩
 ·by_cases hj:j<post.length
  ·rw [List.getElem?_append_left hj] at hq
   rw [List.take_append_of_le_length (by omega)]
   obtain ⟨⟨y,h1,h2⟩,h3⟩:=hn.num j q hq
   obtain ⟨k,hk⟩:=List.mem_iff_getElem?.1 h1
   refine ⟨?_,h3⟩
   by_cases c:i=k
   ·subst c;rw [hi] at hk;cases hk;exact ⟨_,hmem,h2⟩
   ·exact ⟨y,List.mem_of_getElem? (i:=k) (by rw [List.getElem?_set,if_neg c];exact hk),h2⟩
  ·have hjl:j=post.length:=by
    have:=(List.getElem?_eq_some_iff.1 hq).1
    simp only [List.length_append,List.length_cons,List.length_nil] at this
    omega
   subst hjl
   rw [List.getElem?_append_right (Nat.le_refl _),Nat.sub_self] at hq
   cases hq
   rw [List.take_append_of_le_length (Nat.le_refl _),List.take_length,hrs,hrn]
   exact ⟨⟨_,hmem,rfl⟩,hn.next s (List.mem_of_getElem? hi)⟩
 ·rw [jC,sK,hrs]
  obtain ⟨k,hk⟩:=List.mem_iff_getElem?.1 hx
  rw [List.getElem?_set] at hk
  by_cases c:i=k
  ·rw [if_pos c,if_pos (List.getElem?_eq_some_iff.1 hi).1] at hk
   cases hk
   have:=hn.next s (List.mem_of_getElem? hi)
   simp only [if_true]
   omega
  ·rw [if_neg c] at hk
   have e1:=lU hs hk
   have e2:=lU hs hi
   have hne:¬ s.name=x.name:=fun e=>by rw [e,e1] at e2;exact c (by omega)
   rw [if_neg hne,Int.add_zero]
   exact hn.next x (List.mem_of_getElem? hk)
theorem bHn {r:Rate}:∀ (l:List Rate) (k n:Nat),aC (jH r) some l k=some n→(∀ x∈l,¬ (x.cat=r.cat∧x.day=r.day))∧n=k+(l.filter fun x=>eT x r).length
 | [],k,n,h=>by cases h;simp
 | x::l,k,n,h=>by
  simp only [aC] at h
  split at h
  ·rename_i r' he
   unfold jH at he
   split at he
   ·cases he;cases h
   ·cases he
  ·rename_i s' he
   unfold jH at he
   split at he
   ·cases he
   ·rename_i hc
    cases he
    obtain ⟨a,b⟩:=bHn l _ n h
    refine ⟨fun y hy=>?_,?_⟩
    ·rcases List.mem_cons.1 hy with rfl | hy
     ·simpa using hc
     ·exact a y hy
    ·rw [b,List.filter_cons]
     split
     ·rw [List.length_cons];omega
     ·rfl
theorem sZ {α:Type} {p:α→Bool} {R:α→α→Prop}:∀ {l:List α},l.Pairwise R→(∀ a b,R a b→p b=true→p a=true)→l.filter p=l.takeWhile p
 | [],_,_=>rfl
 | x::l,hl,hp=>by
  rw [List.pairwise_cons] at hl
  rw [List.filter_cons,List.takeWhile_cons]
  split
  ·rw [sZ hl.2 hp]
  ·rename_i c
   rw [List.filter_eq_nil_iff]
   intro y hy hc
   exact c (hp x y (hl.1 y hy) hc)
theorem aKf {l:List Rate} {r:Rate} (h:(fW l r).2=0):fC (fW l r).1=true∧(fW l r).1=eN l (lR (fun x=>eT x r) l) r∧(∀ x∈l,¬ (x.cat=r.cat∧x.day=r.day)):=by
 unfold fW at h ⊢
 split at h
 ·simp at h
 ·rename_i h1
  split at h
  ·rename_i h2;exact absurd h h2
  ·rename_i h2
   rw [if_neg h1,if_neg h2]
   cases hr:aC (jH r) some l 0 with
   | none=>rw [hr] at h;simp at h
   | some k=>
    rw [hr] at h
    simp only at h ⊢
    split at h
    ·simp at h
    ·rename_i h3
     rw [if_neg h3]
     obtain ⟨a,b,c⟩:=(lT l).1 (by simpa using h1)
     obtain ⟨hne,hk⟩:=bHn l 0 k hr
     have hpre:=sZ (p:=fun x=>eT x r) c (fun a b=>pC)
     have hk':k=lR (fun x=>eT x r) l:=by
      unfold lR
      rw [sH,hk,hpre]
     rw [hk']
     refine ⟨?_,rfl,hne⟩
     rw [lT]
     have hrow:tW r=0:=Decidable.not_not.1 h2
     refine ⟨by have:=nN l (lR (fun x=>eT x r) l) r;simp only;omega,fun x hx=>?_,?_⟩
     ·rcases (gA _ _ _ _).1 hx with rfl | hx
      ·exact hrow
      ·exact b x hx
     ·rw [sI]
      refine pD c (fun a b c=>pC) (fun x hx hp=>hp) (fun x hx hp=>?_)
      rw [uG]
      have hp':¬ (eV x.cat r.cat=true∨x.cat=r.cat∧x.day.before r.day=true):=fun q=>by rw [(uG x r).2 q] at hp;cases hp
      rcases aA8 x.cat r.cat with q | q | q
      ·exact absurd (.inl q) hp'
      ·refine .inr ⟨q.symm,?_⟩
       have hx1:=(wP (b x hx)).2.1
       have hr1:=(wP hrow).2.1
       unfold Date.before at hp' ⊢
       simp only [hx1,hr1,Bool.true_and,decide_eq_true_eq] at hp' ⊢
       have hd:x.day.days≠r.day.days:=fun e=>hne x hx ⟨q,aTm hx1 hr1 e⟩
       have:¬ x.day.days<r.day.days:=fun e=>hp' (.inr ⟨q,e⟩)
       omega
      ·exact .inl q
theorem nU {s:State} {name:List UInt8} {p:Posted} (h:(aO s name p).2.why=0):
  (cA s.ser name).2.2=0∧s.posted.length<40∧(cY p.total).2=0∧(bU s.book (cY p.total).1).2=0 ∧
   aO s name p=({ s with ser:=(cA s.ser name).1,book:=(bU s.book (cY p.total).1).1,posted:=s.posted++[{ p with ref:=⟨name,(cA s.ser name).2.1⟩ }] },⟨0,(cA s.ser name).2.1,p.total.gross⟩):=by
 unfold aO at h ⊢
 split at h
 ·rename_i hc;exact absurd h hc
 ·rename_i h1
  split at h
  ·simp [why] at h
  ·rename_i h2
   split at h
   ·rename_i hc;exact absurd h hc
   ·rename_i h3
    split at h
    ·rename_i hc;exact absurd h hc
    ·rename_i h4
     rw [if_neg h1,if_neg h2,if_neg h3,if_neg h4]
     exact ⟨Decidable.not_not.1 h1,by omega,Decidable.not_not.1 h3,Decidable.not_not.1 h4,rfl⟩
theorem aEg {s:State} {name:List UInt8} {p:Posted} (h:(aO s name p).2.why≠0):(aO s name p).1=s∧(aO s name p).2=why (aO s name p).2.why:=by
 unfold aO at h ⊢
 split at h
 ·rename_i h1;rw [if_pos h1];exact ⟨rfl,rfl⟩
 ·rename_i h1
  rw [if_neg h1]
  split at h
  ·rename_i h2;rw [if_pos h2];exact ⟨rfl,rfl⟩
  ·rename_i h2
   rw [if_neg h2]
   split at h
   ·rename_i h3;rw [if_pos h3];exact ⟨rfl,rfl⟩
   ·rename_i h3
    rw [if_neg h3]
    split at h
    ·rename_i h4;rw [if_pos h4];exact ⟨rfl,rfl⟩
    ·exact absurd rfl h
theorem yX {s:State} {name:List UInt8} {p:Posted} (hr:aS s=true) (h:(aO s name p).2.why=0) {X:List Posted} (hX:X.map kZ=(s.posted++[{ p with ref:=⟨name,(cA s.ser name).2.1⟩ }]).map kZ)
  (hok:lV s.posted p) (hback:∀ i q,X[i]?=some q→(bI X).getD i 0≤1∧q.back=decide ((bI X).getD i 0=1)):
  aS { (aO s name p).1 with posted:=X }=true:=by
 obtain ⟨h1,h2,h3,h4,h5⟩:=nU h
 obtain ⟨r1,r2,r3,r4,r5,r6⟩:=(bO s).1 hr
 obtain ⟨t1,i,ser,t2,t3,t4,t5,t6⟩:=aTq h1
 rw [h5,bO]
 obtain ⟨c1,c2,c3⟩:=(fA s.ser).1 r2
 refine ⟨r1,t1,r3,?_,?_,?_⟩
 ·show gO X=true
  rw [eQ] at r4 ⊢
  refine ⟨?_,aTo hX.symm (fun j q hq=>?_),hback⟩
  ·have:=congrArg List.length hX
   simp only [List.length_map,List.length_append,List.length_cons,List.length_nil] at this
   omega
  ·by_cases hj:j<s.posted.length
   ·rw [List.getElem?_append_left hj] at hq
    rw [List.take_append_of_le_length (by omega)]
    exact r4.2.1 j q hq
   ·have hjl:j=s.posted.length:=by
     have:=(List.getElem?_eq_some_iff.1 hq).1
     simp only [List.length_append,List.length_cons,List.length_nil] at this
     omega
    subst hjl
    rw [List.getElem?_append_right (Nat.le_refl _),Nat.sub_self] at hq
    cases hq
    rw [List.take_append_of_le_length (Nat.le_refl _),List.take_length]
    exact hok
 ·show Nums (cA s.ser name).1 X
  refine aWc hX.symm ?_
  rw [t6]
  exact aP0 c3 t2 r5 (p:={ p with ref:=⟨name,ser.next⟩ }) (by rw [←t3])
 ·show cQ X=_
  rw [aKe hX]
  exact aG7 r6 h3 h4
def kJ (s:State):Prop:=∀ p∈s.posted,∀ q∈p.total.parts,I64 q.net∧I64 q.tax
theorem aP1 {l:List Posted} (hl:∀ i p,l[i]?=some p→lV (l.take i) p) {p:Posted} (hp:lV l p) (hb:p.back=false) (hof:p.of=Ref.zero) (h:∀ i q,l[i]?=some q→(bI l).getD i 0≤1∧q.back=decide ((bI l).getD i 0=1)) (r:Ref):
  ∀ i q,(l++[{ p with ref:=r }])[i]?=some q→(bI (l++[{ p with ref:=r }])).getD i 0≤1∧q.back=decide ((bI (l++[{ p with ref:=r }])).getD i 0=1):=by
 intro i q hq
 have e:bI (l++[{ p with ref:=r }])=bI l:=by rw [jM];unfold cV;rw [if_pos hof]
 rw [e]
 by_cases hi:i<l.length
 ·rw [List.getElem?_append_left hi] at hq
  exact h i q hq
 ·have hil:i=l.length:=by
   have:=(List.getElem?_eq_some_iff.1 hq).1
   simp only [List.length_append,List.length_cons,List.length_nil] at this
   omega
  subst hil
  rw [List.getElem?_append_right (Nat.le_refl _),Nat.sub_self] at hq
  cases hq
  rw [(iN hl).2.1 _ (Nat.le_refl _)]
  exact ⟨by omega,hb⟩
theorem aBu {s:State} (hr:aS s=true) (hi:kJ s) (c:Cmd):aS (jY s c).1=true∧kJ (jY s c).1:=by
 unfold jY
 split
 ·exact ⟨hr,hi⟩
 ·rename_i h1
  obtain ⟨a1,a2,a3⟩:=aG5 (Decidable.not_not.1 h1)
  by_cases hw:(aO s c.series ⟨Ref.zero,c.day,(cK s.table c.day c.lines).1,Ref.zero,false⟩).2.why=0
  ·obtain ⟨_,_,_,_,h5⟩:=nU hw
   obtain ⟨r1,r2,r3,r4,r5,r6⟩:=(bO s).1 hr
   obtain ⟨p1,p2,p3⟩:=(eQ _).1 r4
   have hok:lV s.posted ⟨Ref.zero,c.day,(cK s.table c.day c.lines).1,Ref.zero,false⟩:=⟨a1,a2,.inl rfl⟩
   have:=yX (X:=(aO s c.series ⟨Ref.zero,c.day,(cK s.table c.day c.lines).1,Ref.zero,false⟩).1.posted) hr hw (by rw [h5]) hok (by rw [h5];exact aP1 p2 hok rfl rfl p3 _)
   refine ⟨this,fun p hp=>?_⟩
   rw [h5] at hp
   rcases List.mem_append.1 hp with hp | hp
   ·exact hi p hp
   ·rw [List.mem_singleton.1 hp];exact a3
  ·rw [(aEg hw).1];exact ⟨hr,hi⟩
theorem aWd {ser:List Ser} {l:List Posted} (h:Nums ser l) {p:Posted} (hp:p∈l):1≤p.ref.num:=by
 obtain ⟨i,hi⟩:=List.mem_iff_getElem?.1 hp
 have:=(h.num i p hi).2
 have:=uJ (l.take i) p.ref.ser
 omega
theorem wS {s:State} (hr:aS s=true) (hi:kJ s) (c:Cmd):aS (dM s c).1=true∧kJ (dM s c).1:=by
 obtain ⟨r1,r2,r3,r4,r5,r6⟩:=(bO s).1 hr
 obtain ⟨p1,p2,p3⟩:=(eQ _).1 r4
 unfold dM
 split
 ·exact ⟨hr,hi⟩
 ·rename_i h0
  rcases kW s.posted c.of with e | ⟨k,x,e,hk,hx⟩
  ·exact absurd (by rw [e];decide) h0
  ·have hg:s.posted.getD (aX s.posted c.of).toNat Posted.zero=x:=by rw [e,Int.toNat_natCast,List.getD_eq_getElem?_getD,hk];rfl
   rw [hg]
   have hxm:=List.mem_of_getElem? hk
   unfold eK
   split
   ·exact ⟨hr,hi⟩
   ·rename_i h1
    split
    ·rename_i h2
     split
     ·exact ⟨hr,hi⟩
     ·rename_i h3
      split
      ·exact ⟨hr,hi⟩
      ·rename_i h4
       split
       ·exact ⟨hr,hi⟩
       ·rename_i h5
        have h5:=Decidable.not_not.1 h5
        have hxr:=p2 k x hk
        obtain ⟨b1,b2,b3⟩:=aKc (hi x hxm) hxr.2.1 h5
        split
        ·rename_i h6
         obtain ⟨_,_,_,_,h7⟩:=nU h6
         have hofz:c.of≠Ref.zero:=by
          intro q
          have:=aWd r5 hxm
          rw [hx,q] at this
          exact absurd this (by decide)
         have htk:mU ⟨Ref.zero,c.day,(bE x.total).1,c.of,false⟩ x=true:=by
          unfold mU
          rw [if_pos h2,if_pos (by simpa using h4),if_pos h5]
          simp
         have hok:lV s.posted ⟨Ref.zero,c.day,(bE x.total).1,c.of,false⟩:=by
          refine ⟨by simpa using h3,b1,.inr ⟨by show 0≤aX s.posted c.of;omega,?_⟩⟩
          show mU _ (s.posted.getD (aX s.posted c.of).toNat aTn)=true
          rw [e,Int.toNat_natCast,List.getD_eq_getElem?_getD,hk]
          exact htk
         have hposted:(aO s c.series ⟨Ref.zero,c.day,(bE x.total).1,c.of,false⟩).1.posted=s.posted++[⟨⟨c.series,(cA s.ser c.series).2.1⟩,c.day,(bE x.total).1,c.of,false⟩]:=by rw [h7]
         have hkl:=(List.getElem?_eq_some_iff.1 hk).1
         have hset:cR (aO s c.series ⟨Ref.zero,c.day,(bE x.total).1,c.of,false⟩).1.posted (aX s.posted c.of).toNat=s.posted.set k { x with back:=true }++[⟨⟨c.series,(cA s.ser c.series).2.1⟩,c.day,(bE x.total).1,c.of,false⟩]:=by
          rw [hposted,e,Int.toNat_natCast]
          unfold cR
          rw [List.getElem?_append_left hkl,hk]
          simp only
          rw [List.set_append_left _ _ hkl]
         have hnb:=aBs (aO s c.series ⟨Ref.zero,c.day,(bE x.total).1,c.of,false⟩).1.posted (aX s.posted c.of).toNat
         have hcnt:bI (cR (aO s c.series ⟨Ref.zero,c.day,(bE x.total).1,c.of,false⟩).1.posted (aX s.posted c.of).toNat)=bump (bI s.posted) k:=by
          rw [←aEf,hnb,aEf,hposted,jM]
          unfold cV
          rw [if_neg hofz]
          show bump (bI s.posted) (aX s.posted c.of).toNat=_
          rw [e,Int.toNat_natCast]
         obtain ⟨g1,g2,g3⟩:=iN p2
         have hbk:∀ i,(bump (bI s.posted) k).getD i 0=(bI s.posted).getD i 0+(if i=k then 1 else 0):=by
          intro i
          unfold bump
          simp only [List.getD_eq_getElem?_getD,List.getElem?_set]
          by_cases q:k=i
          ·subst q;rw [if_pos rfl,if_pos (by omega),if_pos rfl];rfl
          ·rw [if_neg q,if_neg (fun q2=>q q2.symm),Int.add_zero]
         have h0k:(bI s.posted).getD k 0=0:=by
          obtain ⟨q1,q2⟩:=p3 k x hk
          have h1':x.back=false:=by simpa using h1
          rw [h1'] at q2
          have q3:=of_decide_eq_false q2.symm
          have:=g1 k
          omega
         have:=yX (X:=cR (aO s c.series ⟨Ref.zero,c.day,(bE x.total).1,c.of,false⟩).1.posted (aX s.posted c.of).toNat) hr h6 (by rw [hnb,hposted]) hok (by
          rw [hcnt,hset]
          intro i q hq
          rw [hbk]
          by_cases hil:i<s.posted.length
          ·rw [List.getElem?_append_left (by rw [List.length_set];exact hil),List.getElem?_set] at hq
           by_cases ck:k=i
           ·subst ck
            rw [if_pos rfl,if_pos hil] at hq
            cases hq
            rw [h0k,if_pos rfl]
            exact ⟨by decide,rfl⟩
           ·rw [if_neg ck] at hq
            rw [if_neg (fun q2=>ck q2.symm),Int.add_zero]
            exact p3 i q hq
          ·have hieq:i=s.posted.length:=by
            have:=(List.getElem?_eq_some_iff.1 hq).1
            simp only [List.length_append,List.length_cons,List.length_nil,List.length_set] at this
            omega
           subst hieq
           rw [List.getElem?_append_right (by rw [List.length_set];exact Nat.le_refl _),List.length_set,Nat.sub_self] at hq
           cases hq
           rw [g2 _ (Nat.le_refl _),if_neg (by omega)]
           exact ⟨by decide,rfl⟩)
         refine ⟨this,fun p hp=>?_⟩
         have hp:p∈cR (aO s c.series ⟨Ref.zero,c.day,(bE x.total).1,c.of,false⟩).1.posted (aX s.posted c.of).toNat:=hp
         rw [hset] at hp
         rcases List.mem_append.1 hp with hp | hp
         ·rcases List.mem_or_eq_of_mem_set hp with hp | rfl
          ·exact hi p hp
          ·exact hi x hxm
         ·rw [List.mem_singleton.1 hp];exact b2
        ·rename_i h6
         rw [(aEg h6).1];exact ⟨hr,hi⟩
    ·exact ⟨hr,hi⟩
theorem aEh {s:State} (hr:aS s=true) {l:List Ser} (h1:lY l=true) (h2:Nums l s.posted):aS { s with ser:=l }=true:=by
 obtain ⟨r1,r2,r3,r4,r5,r6⟩:=(bO s).1 hr
 exact (bO _).2 ⟨r1,h1,r3,r4,h2,r6⟩
theorem uL {s:State} (hr:aS s=true) {l:List Sess} {n:Int} (h1:pE l n):aS { s with sess:=l,next:=n }=true:=by
 obtain ⟨r1,r2,r3,r4,r5,r6⟩:=(bO s).1 hr
 exact (bO _).2 ⟨r1,r2,h1,r4,r5,r6⟩
theorem aKg {s:State} (hr:aS s=true):aS (eB s).1=true∧((eB s).1.posted=s.posted):=by
 obtain ⟨r1,r2,r3,r4,r5,r6⟩:=(bO s).1 hr
 obtain ⟨a,b,c,d,e,f⟩:=r3
 unfold eB
 split
 ·exact ⟨hr,rfl⟩
 ·rename_i h1
  split
  ·exact ⟨hr,rfl⟩
  ·rename_i h2
   have h2:=Decidable.not_not.1 h2
   refine ⟨?_,rfl⟩
   show aS { s with sess:=(kM s.sess s.next).1,next:=wr .i64 (s.next+1) }=true
   rw [gM (by omega)]
   refine uL hr ?_
   unfold kM at h2 ⊢
   split at h2
   ·simp at h2
   ·rename_i j1
    split at h2
    ·simp at h2
    ·rename_i j2
     split at h2
     ·simp at h2
     ·rename_i j3
      rw [if_neg j1,if_neg j2,if_neg j3]
      refine ⟨by have:=nN s.sess (lR (fun x=>decide (x.id<s.next)) s.sess) ⟨s.next,0,Rep.zero⟩;simp only;omega,fun x hx=>?_,?_,by omega,by omega,fun x hx=>?_⟩
      ·rcases (gA _ _ _ _).1 hx with rfl | hx
       ·exact ⟨by show 0<s.next;omega,by simp,by simp,fun _=>rfl⟩
       ·exact b x hx
      ·simp only
       rw [sI]
       refine pD c (fun a b c h1 h2=>by omega) (fun x hx hp=>by simpa using hp) (fun x hx hp=>?_)
       have:=f x hx
       simp at hp
       show s.next<x.id
       omega
      ·rcases (gA _ _ _ _).1 hx with rfl | hx
       ·show s.next<s.next+1;omega
       ·have:=f x hx;omega
theorem aTs {l:List Sess} {n id:Int} (h:pE l n):(fE l id).2=0→pE (fE l id).1 n:=by
 intro h0
 obtain ⟨a,b,c,d,e,f⟩:=h
 unfold fE at h0 ⊢
 split at h0
 ·simp at h0
 ·rename_i h1
  split at h0
  ·simp at h0
  ·rename_i h2
   rw [if_neg h1,if_neg h2]
   have hsub:(tX l (fO l id).toNat).Sublist l:=by
    unfold tX
    conv=>rhs;rw [←List.take_append_drop (fO l id).toNat l]
    refine List.Sublist.append (List.Sublist.refl _) ?_
    rw [←List.drop_drop]
    exact List.drop_sublist _ _
   exact ⟨by have:=hsub.length_le;simp only;omega,fun x hx=>b x (hsub.subset hx),c.sublist hsub,d,e,fun x hx=>f x (hsub.subset hx)⟩
theorem aWe {l:List Sess} {n id seq:Int} {r:Rep} (h:pE l n):(iS l id seq r).2=0→pE (iS l id seq r).1 n:=by
 intro h0
 obtain ⟨a,b,c,d,e,f⟩:=h
 unfold iS at h0 ⊢
 split at h0
 ·rename_i hc;exact absurd h0 hc
 ·rename_i h1
  have h1':=Decidable.not_not.1 h1
  split at h0
  ·simp at h0
  ·rename_i h2
   rw [if_neg h1,if_neg h2]
   obtain ⟨hs,i,s,e1,e2⟩:=aBd h1'
   rw [e1,Int.toNat_natCast,e2]
   have hseq:1≤seq∧seq≤1099511627776:=by
    unfold bT at h1'
    rw [if_neg (by rw [hs];simp),if_neg (by omega)] at h1'
    split at h1'
    ·simp at h1'
    ·omega
   have hsm:=List.mem_of_getElem? e2
   refine ⟨by simp only [List.length_set];exact a,fun x hx=>?_,?_,d,e,fun x hx=>?_⟩
   ·rcases List.mem_or_eq_of_mem_set hx with hx | rfl
    ·exact b x hx
    ·exact ⟨(b s hsm).1,by simp only;omega,by simp only;omega,fun q=>by simp only at q;omega⟩
   ·simp only
    have hm:∀ l:List Sess,l.Pairwise (fun a b=>a.id<b.id)↔(l.map (·.id)).Pairwise (fun a b=>a<b):=fun l=>(List.pairwise_map (f:=fun s:Sess=>s.id) (R:=fun a b=>a<b)).symm
    rw [hm] at c ⊢
    have:(l.set i ⟨s.id,seq,r⟩).map (·.id)=l.map (·.id):=by
     apply List.ext_getElem?
     intro j
     rw [List.getElem?_map,List.getElem?_map,List.getElem?_set]
     split
     ·rename_i e;subst e;rw [if_pos (List.getElem?_eq_some_iff.1 e2).1,e2];rfl
     ·rfl
    rw [this];exact c
   ·rcases List.mem_or_eq_of_mem_set hx with hx | rfl
    ·exact f x hx
    ·exact f s hsm
theorem aTt {s:State} (hr:aS s=true) (hi:kJ s) (c:Cmd):aS (pW s c).1=true∧kJ (pW s c).1:=by
 obtain ⟨r1,r2,r3,r4,r5,r6⟩:=(bO s).1 hr
 unfold pW
 split
 ·unfold fG
  split
  ·rename_i h
   exact ⟨aEh hr (aBt h).1 (aOz h r5),hi⟩
  ·exact ⟨hr,hi⟩
 ·split
  ·unfold fG
   split
   ·rename_i h
    obtain ⟨a,i,x,b1,b2,b3⟩:=aTp h
    exact ⟨aEh hr a (by rw [b3];exact aTr b1 r5),hi⟩
   ·exact ⟨hr,hi⟩
  ·split
   ·unfold jL
    split
    ·rename_i h
     exact ⟨(bO _).2 ⟨(aKf h).1,r2,r3,r4,r5,r6⟩,hi⟩
    ·exact ⟨hr,hi⟩
   ·split
    ·exact aBu hr hi c
    ·split
     ·exact wS hr hi c
     ·split
      ·unfold gL
       split
       ·rename_i h
        exact ⟨uL (n:=s.next) hr (aTs r3 h),hi⟩
       ·exact ⟨hr,hi⟩
      ·exact ⟨hr,hi⟩
theorem yY {s:State} (hr:aS s=true) (hi:kJ s) (c:Call):aS (dX s c).1=true∧kJ (dX s c).1:=by
 unfold dX
 rw [if_neg (by rw [hr];simp)]
 split
 ·exact ⟨hr,hi⟩
 ·split
  ·obtain ⟨a,b⟩:=aKg hr
   exact ⟨a,fun p hp=>hi p (by rw [b] at hp;exact hp)⟩
  ·split
   ·exact ⟨hr,hi⟩
   ·split
    ·exact ⟨hr,hi⟩
    ·obtain ⟨a,b⟩:=aTt hr hi c.cmd
     unfold fZ
     split
     ·rename_i h
      exact ⟨uL (n:=(pW s c.cmd).1.next) a (aWe ((bO _).1 a).2.2.1 h),b⟩
     ·exact ⟨a,b⟩
theorem aEi:aS State.new=true∧kJ State.new:=⟨by decide,fun p hp=>by cases hp⟩
def aN9 (x:Sess) (seq:Int):Rep×Bool×Int:=if seq<1∨1099511627776<seq then (Rep.zero,false,1) else if seq=x.last then (x.reply,true,0) else if seq<x.last then (Rep.zero,false,16) else (Rep.zero,false,0)
theorem xV {l:List Sess} (hs:l.Pairwise (fun a b=>a.id<b.id)) {i:Nat} {s:Sess} (h:l[i]?=some s):fO l s.id=(i:Int):=by
 refine aEe h (by simp) (fun j b hj hb=>?_)
 have h1:=List.pairwise_iff_getElem.1 hs j i (List.getElem?_eq_some_iff.1 hb).1 (List.getElem?_eq_some_iff.1 h).1 hj
 rw [(List.getElem?_eq_some_iff.1 hb).2,(List.getElem?_eq_some_iff.1 h).2] at h1
 simp only [decide_eq_false_iff_not]
 omega
theorem aI7 {l:List Sess} (h:fF l=true) {i:Nat} {x:Sess} (hx:l[i]?=some x) (seq:Int):bT l x.id seq=aN9 x seq:=by
 have e:=xV ((sG l).1 h).2.2 hx
 unfold bT aN9
 rw [if_neg (by rw [h];simp),e,if_neg (by omega),Int.toNat_natCast,hx]
theorem aTu {l:List Sess} {id seq:Int} (h:(bT l id seq).2.2=0) (h2:(bT l id seq).2.1=false):fF l=true∧∃ (i:Nat) (x:Sess),l[i]?=some x∧x.id=id∧1≤seq∧seq≤1099511627776∧x.last<seq:=by
 obtain ⟨hs,i,x,e,hi⟩:=aBd h
 have hid:x.id=id:=by
  rcases iI l id with e1 | ⟨j,y,e1,e2,e3⟩
  ·rw [e1] at e;omega
  ·rw [e1] at e
   have:j=i:=by omega
   subst this
   rw [hi] at e2;cases e2;exact e3
 subst hid
 rw [aI7 hs hi] at h h2
 unfold aN9 at h h2
 split at h
 ·simp at h
 ·rename_i h3
  rw [if_neg h3] at h2
  split at h
  ·rename_i h4;rw [if_pos h4] at h2;simp at h2
  ·rename_i h4
   split at h
   ·simp at h
   ·rename_i h5
    exact ⟨hs,i,x,hi,rfl,by omega,by omega,by omega⟩
theorem aTv {l:List Sess} (h:fF l=true) {i:Nat} {x:Sess} (hx:l[i]?=some x) {seq:Int} (h1:1≤seq) (h2:seq≤1099511627776) (h3:x.last<seq) (r:Rep):iS l x.id seq r=(l.set i ⟨x.id,seq,r⟩,0):=by
 have e:=xV ((sG l).1 h).2.2 hx
 have el:bT l x.id seq=(Rep.zero,false,0):=by
  rw [aI7 h hx];unfold aN9
  rw [if_neg (by omega),if_neg (by omega),if_neg (by omega)]
 unfold iS
 rw [el,if_neg (by simp),if_neg (by simp),e,Int.toNat_natCast,hx]
theorem yZ (l:List Ser) (name:List UInt8) (limit:Int):0≤(eA l name limit).2∧(eA l name limit).2≤14:=by
 unfold eA;repeat' split
 all_goals (constructor<;>first | decide | simp)
theorem aEj (l:List Ser) (name:List UInt8):0≤(gJ l name).2∧(gJ l name).2≤14:=by
 unfold gJ;repeat' split
 all_goals (constructor<;>first | decide | simp)
theorem aEk (l:List Ser) (name:List UInt8):0≤(nL l name).2∧(nL l name).2≤14:=by
 unfold nL
 split
 ·exact aEj l name
 ·split<;>(constructor<;>first | decide | simp)
theorem aEl (l:List Ser) (name:List UInt8):0≤(cA l name).2.2∧(cA l name).2.2≤14:=by
 unfold cA
 split
 ·exact aEj l name
 ·repeat' split
  all_goals (constructor<;>first | decide | simp)
theorem aTw (r:Rate):0≤tW r∧tW r≤14:=by
 unfold tW;repeat' split
 all_goals (constructor<;>first | decide | simp)
theorem zA (l:List Rate) (r:Rate):0≤(fW l r).2∧(fW l r).2≤14:=by
 unfold fW
 split
 ·constructor<;>first | decide | simp
 ·split
  ·exact aTw r
  ·repeat' split
   all_goals (constructor<;>first | decide | simp)
theorem aBv (a b:Int):0≤(cZ a b).2∧(cZ a b).2≤14:=by
 unfold cZ;split<;>(constructor<;>first | decide | simp)
theorem aTx (a b:Int):0≤(iZ a b).2∧(iZ a b).2≤14:=by
 unfold iZ;split<;>(constructor<;>first | decide | simp)
theorem aTy (a b:Int):0≤(aK3 a b).2∧(aK3 a b).2≤14:=by
 unfold aK3
 simp only
 repeat' split
 all_goals (constructor<;>first | decide | simp)
theorem aP2 (tab:List Rate) (d:Date) (l:Line):0≤(eI tab d l).2.2∧(eI tab d l).2.2≤14:=by
 unfold eI
 repeat' split
 all_goals first | exact aTy _ _ | (constructor<;>first | decide | simp)
theorem lW {σ ρ α:Type} {step:σ→α→ρ⊕σ} {fin:σ→ρ} (Q:ρ→Prop) (hs:∀ s a r,step s a=.inl r→Q r) (hf:∀ s,Q (fin s)):∀ (l:List α) (s:σ),Q (aC step fin l s)
 | [],s=>hf s
 | a::l,s=>by
  simp only [aC]
  split
  ·rename_i r he;exact hs _ _ _ he
  ·exact lW Q hs hf l _
theorem aKh (l:List Part):0≤(dV l).2∧(dV l).2≤14:=by
 refine lW (fun r:Total×Int=>0≤r.2∧r.2≤14) (fun s a r h=>?_) (fun s=>?_) l _
 ·unfold fB at h
  split at h
  ·cases h;constructor<;>first | decide | simp
  ·cases h
 ·unfold jX
  split
  ·exact aBv _ _
  ·constructor<;>first | decide | simp
theorem aTz (l:List Part) (cat:List UInt8) (bp n:Int):0≤(pS l cat bp n).2∧(pS l cat bp n).2≤14:=by
 unfold pS
 split
 ·constructor<;>first | decide | simp
 ·exact aBv _ _
theorem uM (tab:List Rate) (d:Date) (lines:List Line):0≤(cK tab d lines).2∧(cK tab d lines).2≤14:=by
 unfold cK
 split
 ·constructor<;>first | decide | simp
 ·split
  ·constructor<;>first | decide | simp
  ·split
   ·constructor<;>first | decide | simp
   ·split
    ·constructor<;>first | decide | simp
    ·refine lW (fun r:Total×Int=>0≤r.2∧r.2≤14) (fun s a r h=>?_) (fun s=>aKh _) lines _
     unfold gN at h
     split at h
     ·cases h;exact aP2 _ _ _
     ·split at h
      ·cases h;exact aTz _ _ _ _
      ·cases h
theorem aI8 (t:Total):0≤(cY t).2∧(cY t).2≤14:=by
 refine lW (fun r:List Bal×Int=>0≤r.2∧r.2≤14) (fun s a r h=>?_) (fun s=>by constructor<;>first | decide | simp) _ _
 unfold jJ at h
 split at h
 ·cases h;constructor<;>first | decide | simp
 ·split at h
  ·cases h;constructor<;>first | decide | simp
  ·cases h
theorem aBw (b l:List Bal):0≤(bU b l).2∧(bU b l).2≤14:=by
 unfold bU
 split
 ·constructor<;>first | decide | simp
 ·refine lW (fun r:List Bal×Int=>0≤r.2∧r.2≤14) (fun s a r h=>?_) (fun s=>by constructor<;>first | decide | simp) _ _
  unfold bW at h
  split at h
  ·cases h;constructor<;>first | decide | simp
  ·split at h
   ·cases h;exact aBv _ _
   ·cases h
theorem aI9 (l:List Int):0≤(fX l).2∧(fX l).2≤14:=by
 refine lW (fun r:List Int×Int=>0≤r.2∧r.2≤14) (fun s a r h=>?_) (fun s=>by constructor<;>first | decide | simp) _ _
 unfold sD at h
 split at h
 ·cases h;exact aTx _ _
 ·cases h
theorem xW (t:Total):0≤(bE t).2∧(bE t).2≤14:=by
 unfold bE
 split
 ·exact aI9 _
 ·split
  ·refine lW (fun r:List Part×Int=>0≤r.2∧r.2≤14) (fun s a r h=>?_) (fun s=>by constructor<;>first | decide | simp) _ _
   unfold dB at h
   split at h
   ·cases h;exact aI9 _
   ·cases h
  ·constructor<;>first | decide | simp
theorem aBx (l:List Sess) (id:Int):0≤(fE l id).2∧(fE l id).2≤14:=by
 unfold fE;repeat' split
 all_goals (constructor<;>first | decide | simp)
def Plain (s:State) (r:State×Rep):Prop:=0≤r.2.why∧r.2.why≤14∧(r.2.why≠0→r.1=s∧r.2=why r.2.why)
theorem Plain.why {s:State} {e:Int} (h1:0≤e) (h2:e≤14):Plain s (s,Go.Proofs.YtoaibmbldmckaaaGreat.why e):=⟨h1,h2,fun _=>⟨rfl,rfl⟩⟩
theorem rO (s:State) (name:List UInt8) (p:Posted):Plain s (aO s name p):=by
 unfold aO
 split
 ·exact Plain.why (aEl _ _).1 (aEl _ _).2
 ·split
  ·exact Plain.why (by decide) (by decide)
  ·split
   ·exact Plain.why (aI8 _).1 (aI8 _).2
   ·split
    ·exact Plain.why (aBw _ _).1 (aBw _ _).2
    ·exact ⟨Int.le_refl 0,by show (0:Int)≤14;decide,fun h=>absurd rfl h⟩
theorem aU0 (s:State) (c:Cmd):Plain s (pW s c):=by
 have kw:∀ (e:Int) (t:State),(0≤e∧e≤14)→Plain s (if e=0 then (t,why e) else (s,why e)):=by
  intro e t h
  split
  ·rename_i h0;subst h0;exact ⟨Int.le_refl 0,by show (0:Int)≤14;decide,fun h=>absurd rfl h⟩
  ·exact Plain.why h.1 h.2
 unfold pW
 split
 ·exact kw _ _ (yZ _ _ _)
 ·split
  ·exact kw _ _ (aEk _ _)
  ·split
   ·exact kw _ _ (zA _ _)
   ·split
    ·unfold jY
     split
     ·exact Plain.why (uM _ _ _).1 (uM _ _ _).2
     ·exact rO _ _ _
    ·split
     ·unfold dM
      split
      ·exact Plain.why (by decide) (by decide)
      ·unfold eK
       split
       ·exact Plain.why (by decide) (by decide)
       ·split
        ·split
         ·exact Plain.why (by decide) (by decide)
         ·split
          ·exact Plain.why (by decide) (by decide)
          ·split
           ·exact Plain.why (xW _).1 (xW _).2
           ·split
            ·rename_i h
             exact ⟨by rw [h];decide,by rw [h];decide,fun q=>absurd h q⟩
            ·exact rO _ _ _
        ·exact Plain.why (by decide) (by decide)
     ·split
      ·exact kw _ _ (aBx _ _)
      ·unfold aCr
       split
       ·exact Plain.why (e:=11) (by decide) (by decide)
       ·exact ⟨Int.le_refl 0,by show (0:Int)≤14;decide,fun h=>absurd rfl h⟩
theorem aNa (s:State) (c:Cmd):(pW s c).1.sess=s.sess∨(c.kind=7∧(fE s.sess c.session).2=0∧(pW s c).1.sess=(fE s.sess c.session).1):=by
 have hi:∀ name p,(aO s name p).1.sess=s.sess:=by
  intro name p
  unfold aO
  repeat' split
  all_goals rfl
 unfold pW
 split
 ·unfold fG;split<;>exact .inl rfl
 ·split
  ·unfold fG;split<;>exact .inl rfl
  ·split
   ·unfold jL;split<;>exact .inl rfl
   ·split
    ·unfold jY
     split
     ·exact .inl rfl
     ·exact .inl (hi _ _)
    ·split
     ·unfold dM eK
      repeat' split
      all_goals first | exact .inl rfl | exact .inl (hi _ _)
     ·split
      ·rename_i h7
       unfold gL
       split
       ·rename_i h;exact .inr ⟨h7,h,rfl⟩
       ·exact .inl rfl
      ·exact .inl rfl
theorem aEm {l:List Sess} {id:Int} (h:(fE l id).2=0) {n:Int} (hs:pE l n):∀ x,x∈(fE l id).1↔x∈l∧x.id≠id:=by
 unfold fE at h ⊢
 split at h
 ·simp at h
 ·rename_i h1
  split at h
  ·simp at h
  ·rename_i h2
   rw [if_neg h1,if_neg h2]
   rcases iI l id with e | ⟨i,y,e,hi,hy⟩
   ·rw [e] at h2;exact absurd (by decide) h2
   ·simp only [e,Int.toNat_natCast]
    intro x
    unfold tX
    rw [List.mem_append]
    have hp:=hs.2.2.1
    have hil:=(List.getElem?_eq_some_iff.1 hi).1
    have key:∀ j z,l[j]?=some z→(z.id=id↔j=i):=by
     intro j z hz
     constructor
     ·intro hzid
      have e1:=xV hp hz
      rw [hzid,e] at e1;omega
     ·rintro rfl;rw [hi] at hz;cases hz;exact hy
    constructor
    ·rintro (hx | hx)
     ·obtain ⟨j,hj⟩:=List.mem_iff_getElem?.1 hx
      rw [List.getElem?_take] at hj
      split at hj
      ·rename_i hji
       exact ⟨List.mem_of_getElem? hj,fun q=>by have:=(key j x hj).1 q;omega⟩
      ·cases hj
     ·obtain ⟨j,hj⟩:=List.mem_iff_getElem?.1 hx
      rw [List.getElem?_drop] at hj
      exact ⟨List.mem_of_getElem? hj,fun q=>by have:=(key _ x hj).1 q;omega⟩
    ·rintro ⟨hx,hne⟩
     obtain ⟨j,hj⟩:=List.mem_iff_getElem?.1 hx
     have hji:j≠i:=fun q=>hne ((key j x hj).2 q)
     by_cases c:j<i
     ·left;exact List.mem_of_getElem? (i:=j) (by rw [List.getElem?_take,if_pos c];exact hj)
     ·right;exact List.mem_of_getElem? (i:=j - (i+1)) (by rw [List.getElem?_drop,show i+1+(j - (i+1))=j from by omega];exact hj)
def rP (s:State):Prop:=∀ x∈s.sess,x.reply.why≠0→x.reply=why x.reply.why
theorem aP3 {s:State} (hr:aS s=true) (hq:rP s):rP (eB s).1∧((eB s).2.why≠0→(eB s).1=s∧(eB s).2=why (eB s).2.why):=by
 unfold eB
 split
 ·exact ⟨hq,fun _=>⟨rfl,rfl⟩⟩
 ·split
  ·exact ⟨hq,fun _=>⟨rfl,rfl⟩⟩
  ·refine ⟨fun x hx=>?_,fun h=>absurd rfl h⟩
   rename_i h1 h2
   have h2:=Decidable.not_not.1 h2
   have hx:x∈(kM s.sess s.next).1:=hx
   unfold kM at h2 hx
   split at h2
   ·simp at h2
   ·rename_i j1
    split at h2
    ·simp at h2
    ·rename_i j2
     split at h2
     ·simp at h2
     ·rename_i j3
      rw [if_neg j1,if_neg j2,if_neg j3] at hx
      rcases (gA _ _ _ _).1 hx with rfl | hx
      ·intro h;exact absurd rfl h
      ·exact hq x hx
theorem aWf {s:State} (hr:aS s=true) (hq:rP s) (c:Cmd):rP (pW s c).1:=by
 intro x hx
 rcases aNa s c with e | ⟨_,e1,e2⟩
 ·rw [e] at hx;exact hq x hx
 ·rw [e2] at hx
  exact hq x ((aEm e1 ((bO s).1 hr).2.2.1 x).1 hx).1
theorem aBy (r:State×Rep) (c:Call):fZ r c=r∨∃ (i:Nat) (x:Sess),r.1.sess[i]?=some x∧x.id=c.session∧x.last<c.seq∧fZ r c=({ r.1 with sess:=r.1.sess.set i ⟨x.id,c.seq,r.2⟩ },r.2):=by
 unfold fZ
 split
 ·rename_i h
  right
  unfold iS at h
  split at h
  ·rename_i h1;exact absurd h h1
  ·rename_i h1
   have h1':=Decidable.not_not.1 h1
   split at h
   ·simp at h
   ·rename_i h2
    have h2':(bT r.1.sess c.session c.seq).2.1=false:=by simpa using h2
    obtain ⟨hs,i,x,hx,hid,q1,q2,q3⟩:=aTu h1' h2'
    refine ⟨i,x,hx,hid,q3,?_⟩
    have:=aTv hs hx q1 q2 q3 r.2
    rw [hid] at this
    rw [this,hid]
 ·exact .inl rfl
theorem aKi {s:State} (hr:aS s=true) (hi:kJ s) (hq:rP s) (c:Call):rP (dX s c).1:=by
 unfold dX
 rw [if_neg (by rw [hr];simp)]
 split
 ·exact hq
 ·split
  ·exact (aP3 hr hq).1
  ·split
   ·exact hq
   ·split
    ·exact hq
    ·have hd:=aWf hr hq c.cmd
     rcases aBy (pW s c.cmd) c with e | ⟨i,x,e1,_,_,e2⟩
     ·rw [e];exact hd
     ·rw [e2]
      intro y hy
      rcases List.mem_or_eq_of_mem_set hy with hy | rfl
      ·exact hd y hy
      ·intro h;exact ((aU0 s c.cmd).2.2 h).2
theorem aU1:rP State.new:=fun x hx=>by cases hx
structure Beh (s:State):Prop where
 right:aS s=true
 ints:kJ s
 reps:rP s
theorem Beh.new:Beh State.new:=⟨aEi.1,aEi.2,aU1⟩
theorem Beh.apply {s:State} (h:Beh s) (c:Call):Beh (dX s c).1:=⟨(yY h.right h.ints c).1,(yY h.right h.ints c).2,aKi h.right h.ints h.reps c⟩
theorem Beh.play:∀ (l:List Call) (s:State) (r:List Rep),Beh s→Beh (l.foldl nO (s,r)).1
 | [],s,r,h=>h
 | c::l,s,r,h=>Beh.play l _ _ (h.apply c)
theorem Beh.playM {s:State} (h:Beh s) (l:List Call):Beh (Go.Proofs.YtoaibmbldmckaaaGreat.playM s l).1:=Beh.play l s [] h
def cF (l:List Bal):Int:=(l.map (·.amount)).sum
def BI (l:List Bal):Prop:=∀ b∈l,I64 b.amount
theorem tA (a b:List Bal):cF (a++b)=cF a+cF b:=by simp [cF]
theorem aKj (l:List Bal) (i:Nat) (b:Bal):cF (eN l i b)=cF l+b.amount:=by
 unfold eN
 conv=>rhs;rw [←List.take_append_drop i l]
 simp only [tA]
 simp [cF]
 omega
theorem aBz:∀ (l:List Bal) (i:Nat) (a b:Bal),l[i]?=some a→cF (l.set i b)=cF l - a.amount+b.amount
 | [],i,a,b,h=>by cases h
 | x::l,0,a,b,h=>by
  cases h
  simp [cF]
  omega
 | x::l,i+1,a,b,h=>by
  have:=aBz l i a b h
  simp only [cF,List.set_cons_succ,List.map_cons,List.sum_cons] at this ⊢
  omega
theorem aU2 (l:List Bal) (acc:List UInt8):cF (cM l acc)=cF l:=by
 unfold cM
 split
 ·rw [aKj];simp
 ·rfl
theorem aNb {l:List Bal} (h:BI l) (acc:List UInt8):BI (cM l acc):=by
 unfold cM
 split
 ·intro b hb
  rcases (gA _ _ _ _).1 hb with rfl | hb
  ·show I64 0;omega
  ·exact h b hb
 ·exact h
theorem aP4 {l l':List Bal} {x:Bal} (hl:BI l) (hx:I64 x.amount) (h:bW l x=.inr l'):cF l'=cF l+x.amount∧BI l':=by
 obtain ⟨b,hb⟩:=mJ l x.acc
 unfold bW at h
 rw [hb] at h
 simp only at h
 have hbi:=aNb hl x.acc b (List.mem_of_getElem? hb)
 have hs:=sF hbi hx
 split at h
 ·cases h
 ·rename_i h0
  have h0:=Decidable.not_not.1 h0
  cases h
  rw [hs] at h0 ⊢
  split at h0
  ·rename_i hi
   rw [if_pos hi]
   refine ⟨?_,fun y hy=>?_⟩
   ·rw [aBz _ _ _ _ hb,aU2];simp only;omega
   ·rcases List.mem_or_eq_of_mem_set hy with hy | rfl
    ·exact aNb hl x.acc y hy
    ·exact hi
  ·simp at h0
theorem aC0:∀ (l a:List Bal) (r:List Bal×Int),BI a→BI l→aC bW (fun l=>(l,0)) l a=r→r.2=0→cF r.1=cF a+cF l∧BI r.1
 | [],a,r,ha,hl,h,h0=>by subst h;simp [aC,cF];exact ha
 | x::l,a,r,ha,hl,h,h0=>by
  simp only [aC] at h
  split at h
  ·rename_i r' he
   subst h
   obtain ⟨b,hb⟩:=mJ a x.acc
   unfold bW at he
   rw [hb] at he
   simp only at he
   split at he
   ·rename_i h1;cases he;exact absurd h0 h1
   ·cases he
  ·rename_i a' he
   obtain ⟨e1,e2⟩:=aP4 ha (hl x (List.mem_cons_self ..)) he
   obtain ⟨e3,e4⟩:=aC0 l a' r e2 (fun b hb=>hl b (List.mem_cons_of_mem _ hb)) h h0
   refine ⟨?_,e4⟩
   rw [e3,e1]
   simp [cF]
   omega
theorem aKk {b l:List Bal} (hb:BI b) (hl:BI l) (h:(bU b l).2=0):cF (bU b l).1=cF b+cF l∧BI (bU b l).1:=by
 unfold bU at h ⊢
 split at h
 ·simp at h
 ·rename_i h1
  rw [if_neg h1]
  exact aC0 l b _ hb hl rfl h
theorem aIa:∀ (l:List Part) (a:List Bal) (r:List Bal×Int),BI a→(∀ p∈l,I64 p.net∧I64 p.tax)→aC jJ (fun l=>(l,0)) l a=r→r.2=0→cF r.1=cF a - (l.map (·.net)).sum - (l.map (·.tax)).sum∧BI r.1
 | [],a,r,ha,hl,h,h0=>by subst h;simp [aC];exact ha
 | p::l,a,r,ha,hl,h,h0=>by
  simp only [aC] at h
  split at h
  ·rename_i r' he
   subst h
   unfold jJ at he
   split at he
   ·cases he;simp at h0
   ·split at he
    ·cases he;simp at h0
    ·cases he
  ·rename_i a' he
   unfold jJ at he
   obtain ⟨p1,p2⟩:=hl p (List.mem_cons_self ..)
   have s1:=xS p1
   have s2:=xS p2
   split at he
   ·cases he
   ·rename_i c1
    split at he
    ·cases he
    ·rename_i c2
     cases he
     have c1:=Decidable.not_not.1 c1
     have c2:=Decidable.not_not.1 c2
     rw [s1] at c1 h
     rw [s2] at c2 h
     by_cases m1:p.net=-9223372036854775808
     ·rw [if_pos m1] at c1;simp at c1
     ·by_cases m2:p.tax=-9223372036854775808
      ·rw [if_pos m2] at c2;simp at c2
      ·rw [if_neg m1,if_neg m2] at h
       obtain ⟨e3,e4⟩:=aIa l _ r (fun b hb=>by
        rcases List.mem_append.1 hb with hb | hb
        ·exact ha b hb
        ·simp only [List.mem_cons,List.not_mem_nil,or_false] at hb
         rcases hb with rfl | rfl
         ·show I64 (-p.net);omega
         ·show I64 (-p.tax);omega) (fun q hq=>hl q (List.mem_cons_of_mem _ hq)) h h0
       refine ⟨?_,e4⟩
       rw [e3,tA]
       simp [cF]
       omega
theorem aU3 {t:Total} (ht:∀ p∈t.parts,I64 p.net∧I64 p.tax) (ho:cP t=true) (h:(cY t).2=0):cF (cY t).1=0∧BI (cY t).1:=by
 obtain ⟨_,h2,_,_,h5⟩:=(eP t).1 ho
 obtain ⟨_,_,i3,e1,e2,e3⟩:=(nP (fun p hp=>(ht p hp).1) (fun p hp=>(ht p hp).2) (by omega)).1 h5
 obtain ⟨a,b⟩:=aIa t.parts [⟨[111,119,101,100],t.gross⟩] _ (fun b hb=>by rw [List.mem_singleton.1 hb];exact i3) ht rfl h
 refine ⟨?_,b⟩
 show cF (aC jJ (fun l=>(l,0)) t.parts [⟨[111,119,101,100],t.gross⟩]).1=0
 rw [a]
 simp [cF]
 omega
theorem zC:∀ (l:List Posted) (a b:List Bal),BI a→cF a=0→(∀ p∈l,cP p.total=true∧∀ q∈p.total.parts,I64 q.net∧I64 q.tax)→aC bM (fun b=>(b,0)) l a=(b,0)→cF b=0∧BI b
 | [],a,b,ha,hs,hl,h=>by
  simp only [aC] at h
  cases h
  exact ⟨hs,ha⟩
 | p::l,a,b,ha,hs,hl,h=>by
  simp only [aC] at h
  obtain ⟨p1,p2⟩:=hl p (List.mem_cons_self ..)
  split at h
  ·rename_i r he
   subst h
   unfold bM at he
   split at he
   ·rename_i c
    simp only [Sum.inl.injEq,Prod.mk.injEq] at he
    exact absurd he.2 c
   ·split at he
    ·rename_i c
     simp only [Sum.inl.injEq,Prod.mk.injEq] at he
     exact absurd he.2 c
    ·cases he
  ·rename_i a' he
   unfold bM at he
   split at he
   ·cases he
   ·rename_i c1
    split at he
    ·cases he
    ·rename_i c2
     cases he
     obtain ⟨e1,e2⟩:=aU3 p2 p1 (Decidable.not_not.1 c1)
     obtain ⟨e3,e4⟩:=aKk ha e2 (Decidable.not_not.1 c2)
     exact zC l _ b e4 (by rw [e3,hs,e1];rfl) (fun q hq=>hl q (List.mem_cons_of_mem _ hq)) h
theorem aNc (l:List Posted) (name:List UInt8):uN l name≤l.length:=by
 unfold uN
 have:=List.length_filter_le (fun p:Posted=>p.ref.ser == name) l
 omega
theorem aP5 (l:List Call) (n:Nat):∀ c∈pT l n,c.cmd.lines.length<1000000:=fun c hc=>by
 obtain ⟨d,_,rfl⟩:=List.mem_map.1 hc
 show (d.cmd.lines.take 15).length<1000000
 rw [List.length_take];omega
theorem a35 (l:List Call) (n:Nat) (hn:n≤1000) (S:St) (K:KW):C 35 [.agg [.imm [],.imm [],.imm [],.imm [],.imm [],.int .i64 1],.imm ((pT l n).map Call.enc)] S K=
  K (.tup [.agg [.imm ((playM State.new (pT l n)).1.table.map Rate.enc),.imm ((playM State.new (pT l n)).1.ser.map Ser.enc),.imm ((playM State.new (pT l n)).1.posted.map Posted.enc),.imm ((playM State.new (pT l n)).1.book.map Bal.enc),.imm ((playM State.new (pT l n)).1.sess.map Sess.enc),.int .i64 (playM State.new (pT l n)).1.next],.imm ((playM State.new (pT l n)).2.map Rep.enc)]) S:=
 g35 State.new (pT l n) Sml.new (by have:=aSw l n;omega) (aP5 l n) S K
theorem aP6:(fun a b:Bool=>bK prog .eql 4 (.bool a) (.bool b))=fun a b=>.ok (.bool (a == b)):=by kernel_rfl
end Go.Proofs.YtoaibmbldmckaaaGreat
end
section
namespace Go.Pack
def nb (u:Nat):List UInt8:=if h:u<128 then [UInt8.ofNat u] else UInt8.ofNat (u % 128+128)::nb (u / 128)
termination_by u
decreasing_by omega
theorem nb_low {u:Nat} (h:u<128):nb u=[UInt8.ofNat u]:=by rw [nb,dif_pos h]
theorem nb_high {u:Nat} (h:¬ u<128):nb u=UInt8.ofNat (u % 128+128)::nb (u / 128):=by rw [nb,dif_neg h]
def rdL:Nat→Nat→List UInt8→Except Int (Nat×List UInt8)
 | _,_,[]=>.error 3
 | i,acc,c::t=>if i=9∧1<c.toNat then .error 4 else if 128≤c.toNat then rdL (i+1) (acc+c.toNat % 128*2 ^ (7*i)) t else if c.toNat=0∧0<i then .error 4 else .ok (acc+c.toNat % 128*2 ^ (7*i),t)
theorem byte_lt {u:Nat} (h:u<256):(UInt8.ofNat u).toNat=u:=by
 rw [UInt8.toNat_ofNat'];exact Nat.mod_eq_of_lt h
theorem aC1 {i:Nat} (h:i≤9):i=0∨i=1∨i=2∨i=3∨i=4∨i=5∨i=6∨i=7∨i=8∨i=9:=by omega
theorem bHo {u i:Nat} (h:u<2 ^ (64 - 7*i)) (hi:i≤9) (h2:¬ u<128):i≤8∧u / 128<2 ^ (64 - 7*(i+1)):=by
 rcases aC1 hi with rfl | rfl | rfl | rfl | rfl | rfl | rfl | rfl | rfl | rfl<;>simp only [Nat.reduceMul,Nat.reduceSub,Nat.reducePow,Nat.reduceAdd] at h ⊢<;>omega
theorem aU4 {u i acc:Nat} (hi:i≤9):acc+u % 128*2 ^ (7*i)+u / 128*2 ^ (7*(i+1))=acc+u*2 ^ (7*i):=by
 have e:7*(i+1)=7*i+7:=by omega
 rw [e,Nat.pow_add,Nat.add_assoc,←Nat.mul_assoc,Nat.mul_right_comm (u / 128),←Nat.add_mul]
 have h:u % 128+u / 128*2 ^ 7=u:=by show u % 128+u / 128*128=u;omega
 rw [h]
theorem bAm:∀ (n u i acc:Nat) (t:List UInt8),u≤n→u<2 ^ (64 - 7*i)→i≤9→(0<i→0<u)→rdL i acc (nb u++t)=.ok (acc+u*2 ^ (7*i),t)
 | n,u,i,acc,t,hn,hu,hi,hp=>by
  by_cases h:u<128
  ·rw [nb_low h]
   show rdL i acc (UInt8.ofNat u::t)=_
   unfold rdL
   rw [byte_lt (by omega)]
   have h9:¬ (i=9∧1<u):=by
    rintro ⟨rfl,h1⟩
    have:u<2:=hu
    omega
   rw [if_neg h9,if_neg (by omega),if_neg (by rintro ⟨h1,h2⟩;have:=hp h2;omega),Nat.mod_eq_of_lt h]
  ·obtain ⟨h8,hd⟩:=bHo hu hi h
   rw [nb_high h]
   show rdL i acc (UInt8.ofNat (u % 128+128)::(nb (u / 128)++t))=_
   unfold rdL
   rw [byte_lt (by omega),if_neg (by omega),if_pos (by omega)]
   cases n with
   | zero=>omega
   | succ n=>
    rw [bAm n (u / 128) (i+1) _ t (by omega) hd (by omega) (fun _=>by omega)]
    have e:(u % 128+128) % 128=u % 128:=by omega
    rw [e,aU4 hi]
theorem bAn (c:UInt8):UInt8.ofNat c.toNat=c:=UInt8.ofNat_toNat
theorem aNd:∀ (b:List UInt8) (i acc v:Nat) (t:List UInt8),i≤9→rdL i acc b=.ok (v,t)→∃ u,v=acc+u*2 ^ (7*i)∧b=nb u++t∧(0<i→0<u)∧u<2 ^ (64 - 7*i)
 | [],i,acc,v,t,hi,h=>by cases h
 | c::b,i,acc,v,t,hi,h=>by
  have hc:c.toNat<256:=c.toNat_lt
  unfold rdL at h
  split at h
  ·cases h
  ·rename_i h9
   split at h
   ·rename_i h128
    have h8:i≤8:=by omega
    obtain ⟨u,e1,e2,e3,e4⟩:=aNd b (i+1) _ v t (by omega) h
    have hp:=e3 (by omega)
    refine ⟨c.toNat - 128+u*128,?_,?_,fun _=>by omega,?_⟩
    ·have hs:=aU4 (u:=c.toNat - 128+u*128) (acc:=acc) hi
     have k1:(c.toNat - 128+u*128) % 128=c.toNat % 128:=by omega
     have k2:(c.toNat - 128+u*128) / 128=u:=by omega
     rw [k1,k2] at hs
     rw [e1,hs]
    ·rw [nb_high (by omega)]
     have k1:(c.toNat - 128+u*128) % 128+128=c.toNat:=by omega
     have k2:(c.toNat - 128+u*128) / 128=u:=by omega
     rw [k1,k2,bAn,e2];rfl
    ·rcases aC1 (show i≤9 from hi) with rfl | rfl | rfl | rfl | rfl | rfl | rfl | rfl | rfl | rfl<;>simp only [Nat.reduceMul,Nat.reduceSub,Nat.reducePow,Nat.reduceAdd] at e4 ⊢<;>omega
   ·rename_i h128
    split at h
    ·cases h
    ·rename_i h0
     cases h
     refine ⟨c.toNat,by rw [Nat.mod_eq_of_lt (by omega)],?_,fun hp=>by omega,?_⟩
     ·rw [nb_low (by omega),bAn];rfl
     ·rcases aC1 hi with rfl | rfl | rfl | rfl | rfl | rfl | rfl | rfl | rfl | rfl<;>simp only [Nat.reduceMul,Nat.reduceSub,Nat.reducePow,Nat.reduceAdd]<;>omega
def zig (n:Int):Nat:=if 0≤n then (2*n).toNat else (-2*n - 1).toNat
def zag (u:Nat):Int:=if u % 2=1 then -((u / 2:Nat):Int) - 1 else ((u / 2:Nat):Int)
theorem aWg (n:Int):zag (zig n)=n:=by unfold zag zig;split<;>split<;>omega
theorem aWh (u:Nat):zig (zag u)=u:=by unfold zag zig;split<;>split<;>omega
theorem zig_lt {n:Int} (h:-9223372036854775808≤n∧n≤9223372036854775807):zig n<2 ^ 64:=by unfold zig;split<;>omega
theorem aP7 {u:Nat} (h:u<2 ^ 64):-9223372036854775808≤zag u∧zag u≤9223372036854775807:=by unfold zag;split<;>omega
def numP (n:Int):List UInt8:=nb (zig n)
def aKl (b:List UInt8):Except Int (Int×List UInt8):=match rdL 0 0 b with
 | .ok (u,t)=>.ok (zag u,t)
 | .error e=>.error e
theorem aEn {n:Int} (h:-9223372036854775808≤n∧n≤9223372036854775807) (t:List UInt8):aKl (numP n++t)=.ok (n,t):=by
 unfold aKl numP
 rw [bAm (zig n) (zig n) 0 0 t (Nat.le_refl _) (zig_lt h) (by omega) (fun q=>absurd q (by omega))]
 simp only [Nat.zero_add,Nat.mul_zero,Nat.pow_zero,Nat.mul_one,aWg]
theorem aIb {b:List UInt8} {n:Int} {t:List UInt8} (h:aKl b=.ok (n,t)):b=numP n++t∧-9223372036854775808≤n∧n≤9223372036854775807:=by
 unfold aKl at h
 cases e:rdL 0 0 b with
 | error x=>rw [e] at h;cases h
 | ok r=>
  obtain ⟨u,t'⟩:=r
  rw [e] at h
  cases h
  obtain ⟨u',e1,e2,_,e4⟩:=aNd b 0 0 u t (by omega) e
  have:u=u':=by rw [e1];simp
  subst this
  unfold numP
  rw [aWh]
  exact ⟨e2,aP7 e4⟩
structure Cod (α:Type) where
 put:α→List UInt8
 get:List UInt8→Except Int (α×List UInt8)
 ok:α→Prop
 pos:∀ a,1≤(put a).length
 there:∀ a t,ok a→get (put a++t)=.ok (a,t)
 back:∀ b a t,get b=.ok (a,t)→b=put a++t∧ok a
theorem nb_pos:∀ u,1≤(nb u).length:=fun u=>by
 by_cases h:u<128
 ·rw [nb_low h];exact Nat.le_refl _
 ·rw [nb_high h,List.length_cons];omega
def bAp (n:Int):Prop:=-9223372036854775808≤n∧n≤9223372036854775807
def num:Cod Int:=⟨numP,aKl,bAp,fun a=>nb_pos _,fun a t h=>aEn h t,fun b a t h=>aIb h⟩
def Cod.only {α:Type} (c:Cod α) (p:α→Bool) (e:Int):Cod α where
 put:=c.put
 get:=fun b=>match c.get b with
  | .ok (a,t)=>if p a=true then .ok (a,t) else .error e
  | .error x=>.error x
 ok:=fun a=>c.ok a∧p a=true
 pos:=c.pos
 there:=fun a t h=>by simp only [c.there a t h.1,h.2,if_true]
 back:=fun b a t h=>by
  cases e:c.get b with
  | error x=>rw [e] at h;cases h
  | ok r=>
   obtain ⟨a',t'⟩:=r
   rw [e] at h
   simp only at h
   split at h
   ·rename_i hp
    cases h
    exact ⟨(c.back b _ _ e).1,(c.back b _ _ e).2,hp⟩
   ·cases h
def Cod.both {α β:Type} (c:Cod α) (d:Cod β):Cod (α×β) where
 put:=fun x=>c.put x.1++d.put x.2
 get:=fun b=>match c.get b with
  | .ok (a,t)=>(match d.get t with
   | .ok (x,t')=>.ok ((a,x),t')
   | .error x=>.error x)
  | .error x=>.error x
 ok:=fun x=>c.ok x.1∧d.ok x.2
 pos:=fun x=>by rw [List.length_append];have:=c.pos x.1;omega
 there:=fun x t h=>by
  rw [List.append_assoc]
  simp only [c.there x.1 _ h.1,d.there x.2 t h.2]
 back:=fun b x t h=>by
  cases e:c.get b with
  | error y=>rw [e] at h;cases h
  | ok r=>
   obtain ⟨a,t1⟩:=r
   rw [e] at h
   simp only at h
   cases e2:d.get t1 with
   | error y=>rw [e2] at h;cases h
   | ok r2=>
    obtain ⟨x2,t2⟩:=r2
    rw [e2] at h
    cases h
    obtain ⟨b1,o1⟩:=c.back b _ _ e
    obtain ⟨b2,o2⟩:=d.back t1 _ _ e2
    exact ⟨by rw [b1,b2,List.append_assoc],o1,o2⟩
def Cod.map {α β:Type} (c:Cod α) (f:α→β) (g:β→α) (hf:∀ a,g (f a)=a) (hg:∀ b,f (g b)=b):Cod β where
 put:=fun b=>c.put (g b)
 get:=fun l=>match c.get l with
  | .ok (a,t)=>.ok (f a,t)
  | .error x=>.error x
 ok:=fun b=>c.ok (g b)
 pos:=fun b=>c.pos _
 there:=fun b t h=>by simp only [c.there (g b) t h,hg]
 back:=fun l b t h=>by
  cases e:c.get l with
  | error y=>rw [e] at h;cases h
  | ok r=>
   obtain ⟨a,t1⟩:=r
   rw [e] at h
   cases h
   rw [hf]
   exact c.back l _ _ e
def aIc (most:Nat) (n:Int):Bool:=decide (0≤n)&&decide (n≤most)
def upto (most:Nat):Cod Int:=num.only (aIc most) 2
theorem aEo {most n:Nat} (h:n≤most):aIc most (n:Int)=true:=by
 unfold aIc
 rw [decide_eq_true (by omega),decide_eq_true (by omega)];rfl
def aU5 (most:Nat) (b:List UInt8):Except Int (List UInt8×List UInt8):=match (upto most).get b with
 | .ok (n,t)=>if n≤(t.length:Int) then .ok (t.take n.toNat,t.drop n.toNat) else .error 3
 | .error x=>.error x
def text (most:Nat) (hm:most≤1000000):Cod (List UInt8) where
 put:=fun s=>numP s.length++s
 get:=aU5 most
 ok:=fun s=>s.length≤most
 pos:=fun s=>by rw [List.length_append];have:=nb_pos (zig s.length);show 1≤(numP s.length).length+_;unfold numP;omega
 there:=fun s t h=>by
  have e:(upto most).get (numP s.length++(s++t))=.ok ((s.length:Int),s++t):=(upto most).there (s.length:Int) (s++t) ⟨⟨by omega,by omega⟩,aEo h⟩
  unfold aU5
  rw [List.append_assoc,e]
  simp only [List.length_append]
  rw [if_pos (by omega)]
  have k:((s.length:Int)).toNat=s.length:=by omega
  rw [k,List.take_left',List.drop_left']<;>rfl
 back:=fun b s t h=>by
  unfold aU5 at h
  cases e:(upto most).get b with
  | error y=>rw [e] at h;cases h
  | ok r=>
   obtain ⟨n,t1⟩:=r
   rw [e] at h
   simp only at h
   split at h
   ·rename_i hn
    cases h
    obtain ⟨b1,⟨i1,i2⟩,hp⟩:=(upto most).back b _ _ e
    unfold aIc at hp
    simp only [Bool.and_eq_true,decide_eq_true_eq] at hp
    have hl:(t1.take n.toNat).length=n.toNat:=by rw [List.length_take];omega
    refine ⟨?_,by rw [hl];omega⟩
    rw [b1,hl,List.append_assoc,List.take_append_drop]
    have k:((n.toNat:Nat):Int)=n:=by omega
    rw [k];rfl
   ·cases h
def aC2 {α:Type} (c:Cod α):Nat→List UInt8→Except Int (List α×List UInt8)
 | 0,b=>.ok ([],b)
 | n+1,b=>match c.get b with
  | .ok (a,t)=>(match aC2 c n t with
   | .ok (l,t')=>.ok (a::l,t')
   | .error x=>.error x)
  | .error x=>.error x
theorem aC3 {α:Type} (c:Cod α):∀ (l:List α) (t:List UInt8),(∀ a∈l,c.ok a)→aC2 c l.length (l.flatMap c.put++t)=.ok (l,t)
 | [],t,_=>rfl
 | a::l,t,h=>by
  rw [List.flatMap_cons,List.append_assoc,List.length_cons]
  unfold aC2
  rw [c.there a _ (h a (List.mem_cons_self ..))]
  simp only [aC3 c l t fun x hx=>h x (List.mem_cons_of_mem _ hx)]
theorem aEp {α:Type} (c:Cod α):∀ (n:Nat) (b:List UInt8) (l:List α) (t:List UInt8),aC2 c n b=.ok (l,t)→b=l.flatMap c.put++t∧l.length=n∧∀ a∈l,c.ok a
 | 0,b,l,t,h=>by cases h;exact ⟨rfl,rfl,fun a ha=>(by cases ha)⟩
 | n+1,b,l,t,h=>by
  unfold aC2 at h
  cases e:c.get b with
  | error y=>rw [e] at h;cases h
  | ok r=>
   obtain ⟨a,t1⟩:=r
   rw [e] at h
   simp only at h
   cases e2:aC2 c n t1 with
   | error y=>rw [e2] at h;cases h
   | ok r2=>
    obtain ⟨l2,t2⟩:=r2
    rw [e2] at h
    cases h
    obtain ⟨b1,o1⟩:=c.back b _ _ e
    obtain ⟨b2,o2,o3⟩:=aEp c n t1 _ _ e2
    refine ⟨by rw [b1,b2,List.flatMap_cons,List.append_assoc],by rw [List.length_cons,o2],fun x hx=>?_⟩
    rcases List.mem_cons.1 hx with rfl | hx
    ·exact o1
    ·exact o3 x hx
theorem aId {α:Type} (c:Cod α):∀ l:List α,l.length≤(l.flatMap c.put).length
 | []=>Nat.le_refl _
 | a::l=>by
  have:=aId c l
  have:=c.pos a
  rw [List.flatMap_cons,List.length_append,List.length_cons];omega
end Go.Pack
end
section
namespace Go.Pack
set_option linter.unusedVariables false
set_option linter.unusedSimpArgs false
set_option maxRecDepth 100000
def aU6 {α:Type} (c:Cod α) (most:Nat) (b:List UInt8):Except Int (List α×List UInt8):=match (upto most).get b with
 | .ok (n,t)=>if n≤(t.length:Int) then aC2 c n.toNat t else .error 3
 | .error x=>.error x
def Cod.list {α:Type} (c:Cod α) (most:Nat) (hm:most≤1000000):Cod (List α) where
 put:=fun l=>numP l.length++l.flatMap c.put
 get:=aU6 c most
 ok:=fun l=>l.length≤most∧∀ a∈l,c.ok a
 pos:=fun l=>by rw [List.length_append];have:=nb_pos (zig l.length);show 1≤(numP l.length).length+_;unfold numP;omega
 there:=fun l t h=>by
  have e:(upto most).get (numP l.length++(l.flatMap c.put++t))=.ok ((l.length:Int),l.flatMap c.put++t):=(upto most).there (l.length:Int) _ ⟨⟨by have:=h.1;omega,by have:=h.1;omega⟩,aEo h.1⟩
  unfold aU6
  rw [List.append_assoc,e]
  simp only [List.length_append]
  have:=aId c l
  rw [if_pos (by omega)]
  have k:((l.length:Int)).toNat=l.length:=by omega
  rw [k]
  exact aC3 c l t h.2
 back:=fun b l t h=>by
  unfold aU6 at h
  cases e:(upto most).get b with
  | error y=>rw [e] at h;cases h
  | ok r=>
   obtain ⟨n,t1⟩:=r
   rw [e] at h
   simp only at h
   split at h
   ·obtain ⟨b1,⟨i1,i2⟩,hp⟩:=(upto most).back b _ _ e
    unfold aIc at hp
    simp only [Bool.and_eq_true,decide_eq_true_eq] at hp
    obtain ⟨b2,o2,o3⟩:=aEp c n.toNat t1 _ _ h
    refine ⟨?_,by rw [o2];omega,o3⟩
    have k:((l.length:Nat):Int)=n:=by rw [o2];omega
    rw [b1,b2,k,List.append_assoc];rfl
   ·cases h
def aU7 (b:List UInt8):Except Int (Bool×List UInt8):=match aKl b with
 | .ok (n,t)=>if n=0 then .ok (false,t) else if n=1 then .ok (true,t) else .error 4
 | .error x=>.error x
def flag:Cod Bool where
 put:=fun f=>numP (if f then 1 else 0)
 get:=aU7
 ok:=fun _=>True
 pos:=fun f=>nb_pos _
 there:=fun f t _=>by
  unfold aU7
  rw [aEn (by split<;>decide)]
  cases f<;>rfl
 back:=fun b f t h=>by
  unfold aU7 at h
  cases e:aKl b with
  | error y=>rw [e] at h;cases h
  | ok r=>
   obtain ⟨n,t1⟩:=r
   rw [e] at h
   simp only at h
   obtain ⟨b1,_⟩:=aIb e
   split at h
   ·rename_i h0
    cases h
    exact ⟨by rw [b1,h0];rfl,trivial⟩
   ·split at h
    ·rename_i h1
     cases h
     exact ⟨by rw [b1,h1];rfl,trivial⟩
    ·cases h
end Go.Pack
namespace Go.Proofs.YtoaibmbldmckaaaGreat
open Go.AM Go.Pack Tryz
set_option linter.unusedVariables false
set_option linter.unusedSimpArgs false
set_option maxRecDepth 100000
def txt:Cod (List UInt8):=Go.Pack.text 64 (by decide)
def jZ:Cod Date:=(num.both (num.both num)).map (fun x=>⟨x.1,x.2.1,x.2.2⟩) (fun d=>(d.y,d.m,d.d)) (fun _=>rfl) (fun _=>rfl)
def aC4:Cod Rate:=(txt.both (jZ.both num)).map (fun x=>⟨x.1,x.2.1,x.2.2⟩) (fun r=>(r.cat,r.day,r.bp)) (fun _=>rfl) (fun _=>rfl)
structure SerI where
 name:List UInt8
 limit:Int
 shut:Bool
def aKm:Cod SerI:=(txt.both (num.both flag)).map (fun x=>⟨x.1,x.2.1,x.2.2⟩) (fun r=>(r.name,r.limit,r.shut)) (fun _=>rfl) (fun _=>rfl)
structure PartI where
 cat:List UInt8
 bp:Int
 net:Int
def aEq:Cod PartI:=(txt.both (num.both num)).map (fun x=>⟨x.1,x.2.1,x.2.2⟩) (fun r=>(r.cat,r.bp,r.net)) (fun _=>rfl) (fun _=>rfl)
structure PostI where
 ser:List UInt8
 day:Date
 ofSer:List UInt8
 ofNum:Int
 parts:List PartI
def aIe:Cod PostI:=(txt.both (jZ.both (txt.both (num.both (aEq.list 12 (by decide)))))).map (fun x=>⟨x.1,x.2.1,x.2.2.1,x.2.2.2.1,x.2.2.2.2⟩) (fun r=>(r.ser,r.day,r.ofSer,r.ofNum,r.parts)) (fun _=>rfl) (fun _=>rfl)
structure SessI where
 id:Int
 last:Int
 why:Int
 number:Int
 gross:Int
def aC5:Cod SessI:=(num.both (num.both (num.both (num.both num)))).map (fun x=>⟨x.1,x.2.1,x.2.2.1,x.2.2.2.1,x.2.2.2.2⟩) (fun r=>(r.id,r.last,r.why,r.number,r.gross)) (fun _=>rfl) (fun _=>rfl)
structure ImgI where
 table:List Rate
 ser:List SerI
 posted:List PostI
 sess:List SessI
 next:Int
def aP8:Cod ImgI:=((aC4.list 24 (by decide)).both ((aKm.list 8 (by decide)).both ((aIe.list 40 (by decide)).both ((aC5.list 8 (by decide)).both num)))).map (fun x=>⟨x.1,x.2.1,x.2.2.1,x.2.2.2.1,x.2.2.2.2⟩) (fun r=>(r.table,r.ser,r.posted,r.sess,r.next)) (fun _=>rfl) (fun _=>rfl)
end Go.Proofs.YtoaibmbldmckaaaGreat
end
section
namespace Go.Pack
theorem aU8:∀ (k u:Nat),u<128 ^ (k+1)→(nb u).length≤k+1
 | 0,u,h=>by rw [nb_low (by simpa using h)];exact Nat.le_refl _
 | k+1,u,h=>by
  by_cases c:u<128
  ·rw [nb_low c];show 1≤_;omega
  ·rw [nb_high c,List.length_cons]
   have:u / 128<128 ^ (k+1):=by
    rw [Nat.div_lt_iff_lt_mul (by decide)]
    rw [Nat.pow_succ] at h
    exact h
   have:=aU8 k (u / 128) this
   omega
theorem numP_len {n:Int} (h:bAp n):(numP n).length≤10:=by
 have h1:=zig_lt h
 exact aU8 9 (zig n) (Nat.lt_trans h1 (by decide))
def Cod.Len {α:Type} (c:Cod α) (p:α→Prop) (n:Nat):Prop:=∀ a,p a→(c.put a).length≤n
theorem Len.flag:flag.Len (fun _=>True) 10:=fun f _=>by
 show (numP (if f then 1 else 0)).length≤10
 exact numP_len (by split<;>exact ⟨by decide,by decide⟩)
end Go.Pack
end
section
namespace Go.Proofs.YtoaibmbldmckaaaGreat
open Go.AM Go.Pack Tryz
def mO (p:Part):PartI:=⟨p.cat,p.bp,p.net⟩
def iT (p:Posted):PostI:=⟨p.ref.ser,p.day,p.of.ser,p.of.num,p.total.parts.map mO⟩
def zN (s:Ser):SerI:=⟨s.name,s.limit,s.shut⟩
def rQ (s:Sess):SessI:=⟨s.id,s.last,s.reply.why,s.reply.number,s.reply.gross⟩
def aC6 (s:State):ImgI:=⟨s.table,s.ser.map zN,s.posted.map iT,s.sess.map rQ,s.next⟩
def fQ (s:State):List UInt8:=if aS s=false then [] else aP8.put (aC6 s)
def aC7 (p:PartI):Part:=⟨p.cat,p.bp,p.net,0⟩
def zD (p:PostI):Posted:=⟨⟨p.ser,0⟩,p.day,⟨0,0,0,p.parts.map aC7⟩,⟨p.ofSer,p.ofNum⟩,false⟩
def aWi (s:SerI):Ser:=⟨s.name,1,s.limit,s.shut⟩
def aU9 (s:SessI):Sess:=⟨s.id,s.last,⟨s.why,s.number,s.gross⟩⟩
def aG9 (x:ImgI):State:=⟨x.table,x.ser.map aWi,x.posted.map zD,[],x.sess.map aU9,x.next⟩
def State.zero:State:=⟨[],[],[],[],[],0⟩
def wT (st:List Part) (p:Part):Option (List Part)⊕List Part:=if (bH p.net p.bp).2=0 then .inr (st++[aN2 p]) else .inl none
def aNe (ps:List Part):Option Total:=
 if (cS (ps.map (·.net))).2=true then (if (cS (ps.map (·.tax))).2=true then (if (cS [(cS (ps.map (·.net))).1,(cS (ps.map (·.tax))).1]).2=true then
  some ⟨(cS (ps.map (·.net))).1,(cS (ps.map (·.tax))).1,(cS [(cS (ps.map (·.net))).1,(cS (ps.map (·.tax))).1]).1,ps⟩ else none) else none) else none
def aNf (t:Total):Option Total:=match aC wT some t.parts [] with
 | none=>none
 | some ps=>aNe ps
def wU (st:List Ser×List Posted) (p:Posted):Option (List Ser×List Posted)⊕(List Ser×List Posted):=
 if eO st.1 p.ref.ser<0 then .inl none else match aNf p.total with
 | none=>.inl none
 | some t=>match st.1[(eO st.1 p.ref.ser).toNat]? with
  | none=>.inl none
  | some x=>if p.of=Ref.zero then .inr (st.1.set (eO st.1 p.ref.ser).toNat { x with next:=wr .i64 (x.next+1) },st.2++[{ p with ref:=⟨p.ref.ser,x.next⟩,total:=t }]) else
   if aX st.2 p.of<0 then .inl none else .inr (st.1.set (eO st.1 p.ref.ser).toNat { x with next:=wr .i64 (x.next+1) },cR st.2 (aX st.2 p.of).toNat++[{ p with ref:=⟨p.ref.ser,x.next⟩,total:=t }])
def aUa (s:State):Option State:=match aC wU some s.posted (s.ser,[]) with
 | none=>none
 | some r=>if (cQ r.2).2=0 then some { s with ser:=r.1,posted:=r.2,book:=(cQ r.2).1 } else none
def aUb (b:List UInt8):State×Int:=match aP8.get b with
 | .error e=>(State.zero,e)
 | .ok (x,t)=>if t=[] then (match aUa (aG9 x) with
  | none=>(State.zero,4)
  | some s=>if aS s=true then (s,0) else (State.zero,4)) else (State.zero,5)
theorem aKn {p:Part} (h:PG p):aN2 (aC7 (mO p))=p:=by
 show (⟨p.cat,p.bp,p.net,(bH p.net p.bp).1⟩:Part)=p
 rw [h.tax]
theorem bAq:∀ (l acc:List Part),(∀ p∈l,PG p)→aC wT some (l.map (fun p=>aC7 (mO p))) acc=some (acc++l)
 | [],acc,_=>by simp [aC]
 | p::l,acc,h=>by
  have hp:=h p (List.mem_cons_self ..)
  have e:wT acc (aC7 (mO p))=.inr (acc++[p]):=by
   unfold wT
   rw [aKn hp,if_pos]
   show (bH p.net p.bp).2=0
   rw [hp.tax]
  simp only [List.map_cons,aC,e]
  rw [bAq l _ fun q hq=>h q (List.mem_cons_of_mem _ hq),List.append_assoc];rfl
theorem aKo {t:Total} (h:cP t=true) (hi:∀ p∈t.parts,I64 p.net∧I64 p.tax):aNf ⟨0,0,0,(t.parts.map mO).map aC7⟩=some t:=by
 obtain ⟨h1,h2,h3,_,h5⟩:=(eP t).1 h
 have hs:=h5
 unfold rF at hs
 repeat' split at hs
 all_goals first | cases hs;done | skip
 rename_i c1 c2 c3 c4 c5
 have c6:=of_decide_eq_true hs
 unfold aNf
 have e:((t.parts.map mO).map aC7)=t.parts.map (fun p=>aC7 (mO p)):=by rw [List.map_map];rfl
 simp only [e,bAq t.parts [] h3,List.nil_append]
 unfold aNe
 rw [if_pos c1,if_pos c2,c4,c5,if_pos c3,c6]
theorem pM:∀ (l done:List Posted) (is:List Int) (i:Nat),is.getD i 0≤(bB done l is).getD i 0
 | [],done,is,i=>Int.le_refl _
 | p::l,done,is,i=>by
  simp only [bB]
  refine Int.le_trans ?_ (pM l _ _ i)
  unfold cV
  split
  ·exact Int.le_refl _
  ·unfold bump
   simp only [List.getD_eq_getElem?_getD,List.getElem?_set]
   split
   ·rename_i e;subst e
    split
    ·rename_i h;simp only [List.getElem?_eq_getElem h,Option.getD_some];omega
    ·rename_i h;rw [List.getElem?_eq_none (by omega)];exact Int.le_refl _
   ·exact Int.le_refl _
theorem nV:∀ (a b done:List Posted) (is:List Int),bB done (a++b) is=bB (done++a) b (bB done a is)
 | [],b,done,is=>by simp [bB]
 | p::a,b,done,is=>by
  simp only [List.cons_append,bB]
  rw [nV a b,List.append_assoc];rfl
theorem aP9 (a b:List Posted) (i:Nat):(bI a).getD i 0≤(bI (a++b)).getD i 0:=by
 unfold bI
 rw [nV]
 exact pM ..
def sM (ser:List Ser) (D:List Posted):List Ser:=ser.map fun x=>{ x with next:=uN D x.name+1 }
def bkS (D:List Posted):List Posted:=D.mapIdx fun j q=>{ q with back:=decide ((bI D).getD j 0=1) }
theorem bBm (D:List Posted):(bkS D).map kZ=D.map kZ:=by
 apply List.ext_getElem?
 intro i
 unfold bkS
 simp only [List.getElem?_map,List.getElem?_mapIdx]
 cases D[i]?<;>rfl
theorem aPa (D:List Posted) (r:Ref):aX (bkS D) r=aX D r:=by rw [←nR (bkS D),bBm,nR]
theorem aPb {l:List Posted} {r:Ref} (h:0≤aX l r):(aX l r).toNat<l.length:=by
 unfold aX at h ⊢
 rcases jA (fun p:Posted=>decide (p.ref=r)) l with e | ⟨i,a,e,hi,_⟩
 ·omega
 ·have:=(List.getElem?_eq_some_iff.1 hi).1
  rw [e];omega
theorem bBn {D:List Posted} {p:Posted} (hO:∀ i q,D[i]?=some q→lV (D.take i) q) (hp:p.of=Ref.zero):bkS (D++[p])=bkS D++[{ p with back:=false }]:=by
 have hc:bI (D++[p])=bI D:=by rw [jM];unfold cV;rw [if_pos hp]
 have h0:=(iN hO).2.1 D.length (Nat.le_refl _)
 unfold bkS
 rw [hc,List.mapIdx_append]
 simp only [List.mapIdx_cons,List.mapIdx_nil,Nat.zero_add,h0]
 simp
theorem bBo {D:List Posted} {p:Posted} (h40:D.length≤40) (hO:∀ i q,D[i]?=some q→lV (D.take i) q) (hp:p.of≠Ref.zero) (h0:0≤aX D p.of) (h1:(bI (D++[p])).getD (aX D p.of).toNat 0≤1):
  bkS (D++[p])=cR (bkS D) (aX D p.of).toNat++[{ p with back:=false }]:=by
 have hk:=aPb h0
 obtain ⟨k,hkk⟩:∃ k,k=(aX D p.of).toNat:=⟨_,rfl⟩
 obtain ⟨r1,r2,r3⟩:=iN hO
 have hc:bI (D++[p])=bump (bI D) k:=by rw [jM];unfold cV;rw [if_neg hp,hkk]
 rw [←hkk] at h1 hk ⊢
 have g:∀ j,(bI (D++[p])).getD j 0=if k=j then (bI D).getD j 0+1 else (bI D).getD j 0:=by
  intro j
  rw [hc]
  unfold bump
  simp only [List.getD_eq_getElem?_getD,List.getElem?_set]
  split
  ·rename_i e;subst e
   rw [if_pos (by omega)];rfl
  ·rfl
 have hD:=r2 D.length (Nat.le_refl _)
 have hk1:=g k
 rw [if_pos rfl] at hk1
 have hk0:=r1 k
 have ek:(bkS D)[k]?=some { D[k] with back:=decide ((bI D).getD k 0=1) }:=by
  unfold bkS
  rw [List.getElem?_mapIdx,List.getElem?_eq_getElem hk];rfl
 unfold cR
 simp only [ek]
 have e1:bkS (D++[p])=(D.mapIdx fun j q=>{ q with back:=decide ((bI (D++[p])).getD j 0=1) })++[{ p with back:=false }]:=by
  unfold bkS
  rw [List.mapIdx_append]
  simp only [List.mapIdx_cons,List.mapIdx_nil,Nat.zero_add]
  rw [g D.length,if_neg (by omega),hD]
  simp
 rw [e1]
 congr 1
 apply List.ext_getElem?
 intro j
 rw [List.getElem?_mapIdx,List.getElem?_set]
 by_cases e:k=j
 ·subst e
  rw [if_pos rfl,List.getElem?_eq_getElem hk,if_pos (by unfold bkS;rw [List.length_mapIdx];exact hk),Option.map_some,hk1]
  have:(bI D).getD k 0=0:=by omega
  rw [this];rfl
 ·rw [if_neg e,g j,if_neg e]
  unfold bkS
  rw [List.getElem?_mapIdx]
theorem aKp {ser:List Ser} (hs:ser.Pairwise (fun a b=>eV a.name b.name=true)) (D:List Posted):(sM ser D).Pairwise (fun a b=>eV a.name b.name=true):=by
 unfold sM
 rw [List.pairwise_map]
 exact hs
theorem aUc {ser:List Ser} (hs:ser.Pairwise (fun a b=>eV a.name b.name=true)) {D:List Posted} {i:Nat} {x:Ser} (hi:ser[i]?=some x) {p:Posted} (hn:x.name=p.ref.ser) (hb:uN D x.name≤1000):
  (sM ser D).set i { x with next:=wr .i64 (uN D x.name+1+1) }=sM ser (D++[p]):=by
 have h0:=uJ D x.name
 apply List.ext_getElem?
 intro j
 unfold sM
 rw [List.getElem?_set,List.getElem?_map]
 by_cases e:i=j
 ·subst e
  rw [if_pos rfl,if_pos (by rw [List.length_map];exact (List.getElem?_eq_some_iff.1 hi).1),List.getElem?_map,hi,Option.map_some,jC,sK,if_pos hn.symm,gM ⟨by omega,by omega⟩]
 ·rw [if_neg e,List.getElem?_map]
  cases hj:ser[j]? with
  | none=>rfl
  | some y=>
   have hne:¬ p.ref.ser=y.name:=by
    rw [←hn]
    intro e'
    have h1:=lU hs hi
    have h2:=lU hs hj
    rw [e'] at h1
    omega
   rw [Option.map_some,Option.map_some,jC,sK,if_neg hne,Int.add_zero]
theorem aUd {ser:List Ser} (hs:ser.Pairwise (fun a b=>eV a.name b.name=true)) {D:List Posted} {p:Posted} (hD:D.length<40) (hO:∀ i q,D[i]?=some q→lV (D.take i) q) (hp:lV D p)
  (hi:∀ q∈p.total.parts,I64 q.net∧I64 q.tax) (hn:∃ s∈ser,s.name=p.ref.ser) (hm:p.ref.num=uN D p.ref.ser+1) (hc:∀ j,(bI (D++[p])).getD j 0≤1):
  wU (sM ser D,bkS D) (zD (iT p))=.inr (sM ser (D++[p]),bkS (D++[p])):=by
 obtain ⟨s,hsm,hsn⟩:=hn
 obtain ⟨i,his⟩:=List.getElem?_of_mem hsm
 have hcl:=aNc D p.ref.ser
 have hi2:(sM ser D)[i]?=some { s with next:=uN D s.name+1 }:=by unfold sM;rw [List.getElem?_map,his];rfl
 have hat:eO (sM ser D) (zD (iT p)).ref.ser=(i:Int):=by
  have:=lU (aKp hs D) hi2
  rw [←this]
  exact congrArg _ hsn.symm
 have hr:aNf (zD (iT p)).total=some p.total:=aKo hp.2.1 hi
 have hof:(zD (iT p)).of=p.of:=rfl
 have hq:uN D s.name+1=p.ref.num:=by rw [hsn,hm]
 have hset:=aUc hs (D:=D) his (p:=p) hsn (by rw [hsn];omega)
 unfold wU
 simp only [hat,hr,Int.toNat_natCast,hi2,hof,aPa]
 rw [if_neg (by omega),hset,hq]
 by_cases c:p.of=Ref.zero
 ·rw [if_pos c,bBn hO c];rfl
 ·rw [if_neg c]
  rcases hp.2.2 with h | ⟨h,_⟩
  ·exact absurd h c
  ·rw [if_neg (by omega),bBo (by omega) hO c h (hc _)];rfl
theorem bAr {ser:List Ser} (hs:ser.Pairwise (fun a b=>eV a.name b.name=true)) {P:List Posted} (h40:P.length≤40) (hO:∀ i q,P[i]?=some q→lV (P.take i) q) (hi:∀ p∈P,∀ q∈p.total.parts,I64 q.net∧I64 q.tax)
  (hn:Nums ser P) (hc:∀ j,(bI P).getD j 0≤1):∀ (l D:List Posted),P=D++l→aC wU some (l.map fun p=>zD (iT p)) (sM ser D,bkS D)=some (sM ser P,bkS P)
 | [],D,e=>by rw [List.append_nil] at e;subst e;rfl
 | p::l,D,e=>by
  have hlen:P.length=D.length+(l.length+1):=by rw [e];simp
  have hget:P[D.length]?=some p:=by rw [e];simp
  have htake:P.take D.length=D:=by rw [e];simp
  have hOD:∀ i q,D[i]?=some q→lV (D.take i) q:=fun i q hq=>by
   have hlt:=(List.getElem?_eq_some_iff.1 hq).1
   have:=hO i q (by rw [e,List.getElem?_append_left hlt];exact hq)
   rwa [e,List.take_append_of_le_length (by omega)] at this
  have hp:=hO _ _ hget
  have hnum:=hn.num _ _ hget
  rw [htake] at hp hnum
  have e':P=(D++[p])++l:=by rw [e,List.append_assoc];rfl
  have st:=aUd hs (by omega) hOD hp (hi p (by rw [e];simp)) hnum.1 hnum.2 (fun j=>Int.le_trans (by rw [e'];exact aP9 _ _ _) (hc j))
  simp only [List.map_cons,aC,st]
  exact bAr hs h40 hO hi hn hc l (D++[p]) e'
theorem aKq {s:State} (hr:aS s=true) (hi:kJ s):aUa (aG9 (aC6 s))=some s:=by
 obtain ⟨_,h2,_,h4,h5,h6⟩:=(bO s).1 hr
 obtain ⟨h40,hO,hb⟩:=(eQ _).1 h4
 have hs:=((fA _).1 h2).2.2
 have hc:∀ j,(bI s.posted).getD j 0≤1:=fun j=>by
  by_cases hj:j<s.posted.length
  ·exact (hb j _ (List.getElem?_eq_getElem hj)).1
  ·rw [(iN hO).2.1 j (by omega)];decide
 have h0:sM s.ser []=s.ser.map fun x=>aWi (zN x):=by
  unfold sM
  refine List.map_congr_left fun x _=>?_
  rfl
 have hser:sM s.ser s.posted=s.ser:=by
  unfold sM
  conv=>rhs;rw [←List.map_id s.ser]
  refine List.map_congr_left fun x hx=>?_
  show ({ x with next:=uN s.posted x.name+1 }:Ser)=x
  rw [←h5.next x hx]
 have hpost:bkS s.posted=s.posted:=by
  apply List.ext_getElem?
  intro j
  unfold bkS
  rw [List.getElem?_mapIdx]
  cases hj:s.posted[j]? with
  | none=>rfl
  | some p=>
   rw [Option.map_some,←(hb j p hj).2]
 have hl:=bAr hs h40 hO hi h5 hc s.posted [] rfl
 rw [h0,hser,hpost] at hl
 unfold aUa
 have e1:(aG9 (aC6 s)).posted=s.posted.map fun p=>zD (iT p):=by
  show (s.posted.map iT).map zD=_
  rw [List.map_map];rfl
 have e2:(aG9 (aC6 s)).ser=s.ser.map fun x=>aWi (zN x):=by
  show (s.ser.map zN).map aWi=_
  rw [List.map_map];rfl
 have e3:(bkS [])=[]:=rfl
 rw [e3] at hl
 rw [e1,e2,hl]
 simp only [h6,if_true]
 have e4:(s.sess.map rQ).map aU9=s.sess:=by
  rw [List.map_map]
  conv=>rhs;rw [←List.map_id s.sess]
  exact List.map_congr_left fun x _=>rfl
 show some (⟨s.table,s.ser,s.posted,s.book,(s.sess.map rQ).map aU9,s.next⟩:State)=some s
 rw [e4]
def IR (r:Rep):Prop:=I64 r.why∧I64 r.number∧I64 r.gross
def RepI (s:State):Prop:=∀ x∈s.sess,IR x.reply
theorem I64.small {n:Int} (h:0≤n∧n≤1099511627777):I64 n:=⟨by omega,by omega⟩
theorem IR.why {e:Int} (h:0≤e∧e≤17):IR (Go.Proofs.YtoaibmbldmckaaaGreat.why e):=⟨I64.small ⟨h.1,by show e≤_;omega⟩,⟨by show (_:Int)≤0;decide,by show (0:Int)≤_;decide⟩,⟨by show (_:Int)≤0;decide,by show (0:Int)≤_;decide⟩⟩
theorem IR.zero:IR Rep.zero:=IR.why (e:=0) (by decide)
theorem aEr {s:State} (hr:aS s=true) (hi:kJ s) {q:Posted} (hq:q∈s.posted):I64 q.ref.num∧I64 q.total.gross:=by
 obtain ⟨_,_,_,h4,h5,_⟩:=(bO s).1 hr
 obtain ⟨h40,hO,_⟩:=(eQ _).1 h4
 obtain ⟨i,hi'⟩:=List.getElem?_of_mem hq
 have h1:=(h5.num i q hi').2
 have h2:=aNc (s.posted.take i) q.ref.ser
 have h3:=uJ (s.posted.take i) q.ref.ser
 have hl:(s.posted.take i).length≤s.posted.length:=by rw [List.length_take];omega
 refine ⟨I64.small (by omega),?_⟩
 obtain ⟨_,b2,_,_,b5⟩:=(eP _).1 (hO i q hi').2.1
 exact ((nP (fun p hp=>(hi q hq p hp).1) (fun p hp=>(hi q hq p hp).2) (by omega)).1 b5).2.2.1
theorem aC8 {s t:State} {name:List UInt8} {p:Posted} (hr:aS t=true) (hi:kJ t) (h:(aO s name p).2.why=0→∃ q∈t.posted,q.ref.num=(aO s name p).2.number∧q.total.gross=(aO s name p).2.gross):IR (aO s name p).2:=by
 have hp:=rO s name p
 by_cases c:(aO s name p).2.why=0
 ·obtain ⟨q,hq,e1,e2⟩:=h c
  obtain ⟨i1,i2⟩:=aEr hr hi hq
  exact ⟨by rw [c];exact I64.small (by decide),e1▸i1,e2▸i2⟩
 ·rw [(hp.2.2 c).2]
  exact IR.why ⟨hp.1,by have:=hp.2.1;omega⟩
theorem aIf {l:List Posted} {k:Nat} {q:Posted} (h:q∈l):∃ r∈cR l k,r.ref=q.ref∧r.total=q.total:=by
 have e:(cR l k).map kZ=l.map kZ:=aBs l k
 have:kZ q∈(cR l k).map kZ:=by rw [e];exact List.mem_map_of_mem h
 obtain ⟨r,hr,he⟩:=List.mem_map.1 this
 exact ⟨r,hr,show (kZ r).ref=(kZ q).ref by rw [he],show (kZ r).total=(kZ q).total by rw [he]⟩
theorem aWj {s:State} (hr:aS s=true) (hi:kJ s) (c:Cmd):IR (jY s c).2:=by
 obtain ⟨r1,r2⟩:=aBu hr hi c
 unfold jY at r1 r2 ⊢
 split
 ·exact IR.why (by have:=uM s.table c.day c.lines;exact ⟨this.1,by have:=this.2;omega⟩)
 ·rename_i h
  rw [if_neg h] at r1 r2
  refine aC8 r1 r2 fun h0=>?_
  obtain ⟨_,_,_,_,e⟩:=nU h0
  rw [e]
  exact ⟨_,List.mem_append_right _ (List.mem_cons_self ..),rfl,rfl⟩
theorem aPc {s:State} (hr:aS s=true) (hi:kJ s) (c:Cmd):IR (dM s c).2:=by
 obtain ⟨r1,r2⟩:=wS hr hi c
 unfold dM at r1 r2 ⊢
 split
 ·exact IR.why (by decide)
 ·rename_i h
  rw [if_neg h] at r1 r2
  generalize (aX s.posted c.of).toNat=k at *
  unfold eK at r1 r2 ⊢
  repeat' split
  ·exact IR.why (by decide)
  ·exact IR.why (by decide)
  ·exact IR.why (by decide)
  ·exact IR.why (by have:=xW (s.posted.getD k Posted.zero).total;exact ⟨this.1,by have:=this.2;omega⟩)
  ·rename_i h1 h2 h3 h4 h5 h6
   rw [if_neg h1,if_pos h2,if_neg h3,if_neg h4,if_neg h5,if_pos h6] at r1 r2
   refine aC8 r1 r2 fun h0=>?_
   obtain ⟨_,_,_,_,e⟩:=nU h0
   rw [e]
   obtain ⟨q,hq,e1,e2⟩:=aIf (l:=s.posted++[{ (⟨Ref.zero,c.day,(bE (s.posted.getD k Posted.zero).total).1,c.of,false⟩:Posted) with ref:=⟨c.series,(cA s.ser c.series).2.1⟩ }]) (k:=k) (List.mem_append_right _ (List.mem_cons_self ..))
   exact ⟨q,hq,by rw [e1],by rw [e2]⟩
  ·rename_i h1 h2 h3 h4 h5 h6
   rw [if_neg h1,if_pos h2,if_neg h3,if_neg h4,if_neg h5,if_neg h6] at r1 r2
   exact aC8 r1 r2 fun h0=>absurd h0 h6
  ·exact IR.why (by decide)
theorem bHp:∀ (l:List Bal) (g:Int),(∀ b∈l,I64 b.amount)→I64 g→I64 (aC oY id l g)
 | [],g,_,h=>h
 | b::l,g,hl,h=>by
  simp only [aC,oY]
  refine bHp l _ (fun x hx=>hl x (List.mem_cons_of_mem _ hx)) ?_
  split
  ·exact hl b (List.mem_cons_self ..)
  ·exact h
theorem aWk {s:State} (hr:aS s=true) (hi:kJ s):BI s.book:=by
 obtain ⟨_,_,_,h4,_,h6⟩:=(bO s).1 hr
 obtain ⟨_,hO,_⟩:=(eQ _).1 h4
 refine (zC s.posted [] s.book (fun _ h=>(by cases h)) rfl (fun p hp=>?_) h6).2
 obtain ⟨i,hi'⟩:=List.getElem?_of_mem hp
 exact ⟨(hO i p hi').2.1,hi p hp⟩
theorem bBp {s:State} (hr:aS s=true) (hi:kJ s) (name:List UInt8):IR (aCr s name):=by
 unfold aCr
 split
 ·exact IR.why (e:=11) (by decide)
 ·exact ⟨I64.small (n:=0) (by decide),aG1 _,bHp _ _ (aWk hr hi) (I64.small (by decide))⟩
theorem bHq {s:State} (hr:aS s=true) (hi:kJ s) (c:Cmd):IR (pW s c).2:=by
 have kw:∀ (e:Int) (t:State),(0≤e∧e≤14)→IR (if e=0 then (t,why e) else (s,why e)).2:=by
  intro e t h
  split<;>exact IR.why ⟨h.1,by omega⟩
 unfold pW
 split
 ·exact kw _ _ (yZ _ _ _)
 ·split
  ·exact kw _ _ (aEk _ _)
  ·split
   ·exact kw _ _ (zA _ _)
   ·split
    ·exact aWj hr hi c
    ·split
     ·exact aPc hr hi c
     ·split
      ·exact kw _ _ (aBx _ _)
      ·exact bBp hr hi _
theorem aWl {s:State} (hr:aS s=true) (hq:RepI s) (c:Cmd):RepI (pW s c).1:=by
 intro x hx
 rcases aNa s c with e | ⟨_,e1,e2⟩
 ·rw [e] at hx;exact hq x hx
 ·rw [e2] at hx
  exact hq x ((aEm e1 ((bO s).1 hr).2.2.1 x).1 hx).1
theorem aPd {s:State} (hq:RepI s):RepI (eB s).1:=by
 unfold eB
 split
 ·exact hq
 ·split
  ·exact hq
  ·rename_i h1 h2
   have h2:=Decidable.not_not.1 h2
   intro x hx
   have hx:x∈(kM s.sess s.next).1:=hx
   unfold kM at h2 hx
   split at h2
   ·simp at h2
   ·rename_i j1
    split at h2
    ·simp at h2
    ·rename_i j2
     split at h2
     ·simp at h2
     ·rename_i j3
      rw [if_neg j1,if_neg j2,if_neg j3] at hx
      rcases (gA _ _ _ _).1 hx with rfl | hx
      ·exact IR.zero
      ·exact hq x hx
theorem aKr {s:State} (hr:aS s=true) (hi:kJ s) (hq:RepI s) (c:Call):RepI (dX s c).1:=by
 unfold dX
 rw [if_neg (by rw [hr];simp)]
 split
 ·exact hq
 ·split
  ·exact aPd hq
  ·split
   ·exact hq
   ·split
    ·exact hq
    ·have hd:=aWl hr hq c.cmd
     rcases aBy (pW s c.cmd) c with e | ⟨i,x,e1,_,_,e2⟩
     ·rw [e];exact hd
     ·rw [e2]
      intro y hy
      rcases List.mem_or_eq_of_mem_set hy with hy | rfl
      ·exact hd y hy
      ·exact bHq hr hi c.cmd
theorem RepI.play:∀ (l:List Call) (s:State) (r:List Rep),Beh s→RepI s→RepI (l.foldl nO (s,r)).1
 | [],s,r,h,q=>q
 | c::l,s,r,h,q=>RepI.play l _ _ (h.apply c) (aKr h.right h.ints q c)
theorem RepI.playM {s:State} (h:Beh s) (q:RepI s) (l:List Call):RepI (Go.Proofs.YtoaibmbldmckaaaGreat.playM s l).1:=RepI.play l s [] h q
theorem RepI.new:RepI State.new:=fun x hx=>by cases hx
theorem aWm (n:Int) (h1:-9000000000≤n) (h2:n≤9000000000000):I64 n:=⟨by omega,by omega⟩
theorem aKs {s:State} (hr:aS s=true) (hi:kJ s) (hq:RepI s):aP8.ok (aC6 s):=by
 obtain ⟨h1,h2,h3,h4,h5,_⟩:=(bO s).1 hr
 obtain ⟨t1,t2,_⟩:=(lT _).1 h1
 obtain ⟨s1,s2,_⟩:=(fA _).1 h2
 obtain ⟨e1,e2,_,e3,e4,e5⟩:=h3
 obtain ⟨h40,hO,_⟩:=(eQ _).1 h4
 have day:∀ d:Date,d.right=true→jZ.ok d:=fun d hd=>by
  obtain ⟨a,b,c,d1,e,f⟩:=(sJ d).1 hd
  have:=(fP d.y d.m).2
  exact ⟨aWm d.y (by omega) (by omega),aWm d.m (by omega) (by omega),aWm d.d (by omega) (by omega)⟩
 have txt:∀ n:List UInt8,dA n=true→txt.ok n:=fun n hn=>by have:=sE hn;show n.length≤64;omega
 refine ⟨⟨t1,fun r hr'=>?_⟩,⟨?_,?_⟩,⟨?_,?_⟩,⟨?_,?_⟩,⟨by show _≤s.next;omega,by show s.next≤_;omega⟩⟩
 ·obtain ⟨a,b,c,d⟩:=wP (t2 r hr')
  exact ⟨txt _ a,day _ b,aWm r.bp (by omega) (by omega)⟩
 ·show (s.ser.map zN).length≤8
  rw [List.length_map];exact s1
 ·intro x hx
  obtain ⟨y,hy,rfl⟩:=List.mem_map.1 hx
  obtain ⟨a,b⟩:=s2 y hy
  unfold oU at b
  simp only [Bool.or_eq_false_iff,decide_eq_false_iff_not] at b
  exact ⟨txt _ a,⟨by show _≤y.limit;omega,by show y.limit≤_;omega⟩,trivial⟩
 ·show (s.posted.map iT).length≤40
  rw [List.length_map];exact h40
 ·intro x hx
  obtain ⟨y,hy,rfl⟩:=List.mem_map.1 hx
  obtain ⟨i,hi'⟩:=List.getElem?_of_mem hy
  have nm:∀ q∈s.posted,dA q.ref.ser=true:=fun q hq'=>by
   obtain ⟨j,hj⟩:=List.getElem?_of_mem hq'
   obtain ⟨⟨z,hz,ez⟩,_⟩:=h5.num j q hj
   rw [←ez];exact (s2 z hz).1
  obtain ⟨o1,o2,o3⟩:=hO i y hi'
  obtain ⟨p1,p2,p3,_,_⟩:=(eP _).1 o2
  have hof:Go.Proofs.YtoaibmbldmckaaaGreat.txt.ok y.of.ser∧num.ok y.of.num:=by
   rcases o3 with e | ⟨a,_⟩
   ·rw [e];exact ⟨Nat.zero_le _,⟨by show (_:Int)≤0;decide,by show (0:Int)≤_;decide⟩⟩
   ·rcases jA (fun p:Posted=>decide (p.ref=y.of)) (s.posted.take i) with e | ⟨j,q,e,hj,hp⟩
    ·have:aX (s.posted.take i) y.of=-1:=e
     omega
    ·have hm:q∈s.posted:=List.mem_of_mem_take (List.mem_of_getElem? hj)
     have e':=of_decide_eq_true hp
     rw [←e']
     exact ⟨txt _ (nm q hm),(aEr hr hi hm).1⟩
  refine ⟨txt _ (nm y hy),day _ o1,hof.1,hof.2,?_,?_⟩
  ·show (y.total.parts.map mO).length≤12
   rw [List.length_map];exact p2
  ·intro z hz
   obtain ⟨w,hw,rfl⟩:=List.mem_map.1 hz
   have g:=p3 w hw
   exact ⟨txt _ g.name,⟨by show _≤w.bp;have:=g.lo;omega,by show w.bp≤_;have:=g.hi;omega⟩,(hi y hy w hw).1⟩
 ·show (s.sess.map rQ).length≤8
  rw [List.length_map];exact e1
 ·intro x hx
  obtain ⟨y,hy,rfl⟩:=List.mem_map.1 hx
  obtain ⟨a,b,c,_⟩:=e2 y hy
  have d:=e5 y hy
  obtain ⟨q1,q2,q3⟩:=hq y hy
  exact ⟨⟨by show _≤y.id;omega,by show y.id≤_;omega⟩,⟨by show _≤y.last;omega,by show y.last≤_;omega⟩,q1,q2,q3⟩
theorem vD {s:State} (hr:aS s=true) (hi:kJ s) (hq:RepI s):aUb (fQ s)=(s,0):=by
 unfold fQ aUb
 rw [hr,if_neg (by decide)]
 have:=aP8.there (aC6 s) [] (aKs hr hi hq)
 rw [List.append_nil] at this
 rw [this]
 simp only [if_true,aKq hr hi,hr]
theorem aWn {s t:State} (hr:aS s=true) (hi:kJ s) (hq:RepI s) (hr':aS t=true) (hi':kJ t) (hq':RepI t) (h:fQ s=fQ t):s=t:=by
 have h1:=vD hr hi hq
 rw [h,vD hr' hi' hq'] at h1
 exact (congrArg Prod.fst h1).symm
theorem aEs {n:Nat} (h:n≤63):(numP (n:Int)).length=1:=by
 unfold numP
 have:zig (n:Int)<128:=by unfold zig;split<;>omega
 rw [nb_low this];rfl
theorem aIg {s:List UInt8} (h:s.length≤24):(txt.put s).length≤25:=by
 show (numP (s.length:Int)++s).length≤25
 rw [List.length_append,aEs (by omega)];omega
theorem fH {n:Int} (h:num.ok n):(num.put n).length≤10:=numP_len h
theorem aNg {d:Date} (h:jZ.ok d):(jZ.put d).length≤30:=by
 obtain ⟨a,b,c⟩:=h
 show (num.put d.y++(num.put d.m++num.put d.d)).length≤30
 rw [List.length_append,List.length_append]
 have h1:(num.put d.y).length≤10:=fH a
 have h2:(num.put d.m).length≤10:=fH b
 have h3:(num.put d.d).length≤10:=fH c
 omega
theorem aIh {α:Type} (c:Cod α) {n:Nat}:∀ l:List α,(∀ a∈l,(c.put a).length≤n)→(l.flatMap c.put).length≤l.length*n
 | [],_=>Nat.zero_le _
 | a::l,h=>by
  have h1:=aIh c l fun x hx=>h x (List.mem_cons_of_mem _ hx)
  have h2:=h a (List.mem_cons_self ..)
  rw [List.flatMap_cons,List.length_append,List.length_cons,Nat.succ_mul]
  omega
theorem rR {α:Type} (c:Cod α) {m:Nat} (hm:m≤1000000) {n k:Nat} {l:List α} (h:∀ a∈l,(c.put a).length≤n) (hl:l.length≤k) (hk:k≤63):((c.list m hm).put l).length≤1+k*n:=by
 show (numP (l.length:Int)++l.flatMap c.put).length≤_
 rw [List.length_append,aEs (by omega)]
 have:=aIh c l h
 have:=Nat.mul_le_mul_right n hl
 omega
theorem aWo {s:State} (hr:aS s=true) (hi:kJ s) (hq:RepI s):(fQ s).length≤32768∧4<(fQ s).length:=by
 obtain ⟨h1,h2,h3,h4,h5,_⟩:=(bO s).1 hr
 obtain ⟨t1,t2,_⟩:=(lT _).1 h1
 obtain ⟨s1,s2,_⟩:=(fA _).1 h2
 obtain ⟨e1,_⟩:=h3
 obtain ⟨h40,hO,_⟩:=(eQ _).1 h4
 obtain ⟨⟨_,ok1⟩,⟨_,ok2⟩,⟨_,ok3⟩,⟨_,ok4⟩,ok5⟩:=aKs hr hi hq
 have nm:∀ q∈s.posted,dA q.ref.ser=true:=fun q hq'=>by
  obtain ⟨j,hj⟩:=List.getElem?_of_mem hq'
  obtain ⟨⟨z,hz,ez⟩,_⟩:=h5.num j q hj
  rw [←ez];exact (s2 z hz).1
 have nl:∀ {n:List UInt8},dA n=true→(txt.put n).length≤25:=fun h=>aIg (sE h)
 have a1:((aC4.list 24 (by decide)).put s.table).length≤1+24*65:=rR aC4 _ (fun r hr'=>by
  obtain ⟨_,b,c⟩:=ok1 r hr'
  show (txt.put r.cat++(jZ.put r.day++num.put r.bp)).length≤65
  rw [List.length_append,List.length_append]
  have h1:=nl (wP (t2 r hr')).1
  have h2:(jZ.put r.day).length≤30:=aNg b
  have h3:(num.put r.bp).length≤10:=fH c
  omega) t1 (by decide)
 have a2:((aKm.list 8 (by decide)).put (s.ser.map zN)).length≤1+8*45:=rR aKm _ (fun x hx=>by
  obtain ⟨y,hy,rfl⟩:=List.mem_map.1 hx
  obtain ⟨_,b,_⟩:=ok2 _ hx
  show (txt.put y.name++(num.put y.limit++flag.put y.shut)).length≤45
  rw [List.length_append,List.length_append]
  have h1:=nl (s2 y hy).1
  have h2:(num.put y.limit).length≤10:=fH b
  have h3:(flag.put y.shut).length≤10:=Len.flag _ trivial
  omega) (by rw [List.length_map];exact s1) (by decide)
 have a3:((aIe.list 40 (by decide)).put (s.posted.map iT)).length≤1+40*631:=rR aIe _ (fun x hx=>by
  obtain ⟨y,hy,rfl⟩:=List.mem_map.1 hx
  obtain ⟨i,hi'⟩:=List.getElem?_of_mem hy
  obtain ⟨_,b,_,d,⟨_,e⟩⟩:=ok3 _ hx
  obtain ⟨o1,o2,o3⟩:=hO i y hi'
  obtain ⟨p1,p2,p3,_,_⟩:=(eP _).1 o2
  have hof:(txt.put y.of.ser).length≤25:=by
   rcases o3 with e | ⟨a,_⟩
   ·rw [e];exact aIg (Nat.zero_le _)
   ·rcases jA (fun p:Posted=>decide (p.ref=y.of)) (s.posted.take i) with e | ⟨j,q,e,hj,hp⟩
    ·have:aX (s.posted.take i) y.of=-1:=e
     omega
    ·have hm:q∈s.posted:=List.mem_of_mem_take (List.mem_of_getElem? hj)
     rw [←of_decide_eq_true hp]
     exact nl (nm q hm)
  have hps:((aEq.list 12 (by decide)).put (y.total.parts.map mO)).length≤1+12*45:=rR aEq _ (fun z hz=>by
   obtain ⟨w,hw,rfl⟩:=List.mem_map.1 hz
   obtain ⟨_,f,g⟩:=e _ hz
   show (txt.put w.cat++(num.put w.bp++num.put w.net)).length≤45
   rw [List.length_append,List.length_append]
   have h1:=nl (p3 w hw).name
   have h2:(num.put w.bp).length≤10:=fH f
   have h3:(num.put w.net).length≤10:=fH g
   omega) (by rw [List.length_map];exact p2) (by decide)
  show (txt.put y.ref.ser++(jZ.put y.day++(txt.put y.of.ser++(num.put y.of.num++(aEq.list 12 (by decide)).put (y.total.parts.map mO))))).length≤631
  rw [List.length_append,List.length_append,List.length_append,List.length_append]
  have h1:=nl (nm y hy)
  have h2:(jZ.put y.day).length≤30:=aNg b
  have h3:(num.put y.of.num).length≤10:=fH d
  omega) (by rw [List.length_map];exact h40) (by decide)
 have a4:((aC5.list 8 (by decide)).put (s.sess.map rQ)).length≤1+8*50:=rR aC5 _ (fun x hx=>by
  obtain ⟨y,hy,rfl⟩:=List.mem_map.1 hx
  obtain ⟨a,b,c,d,e⟩:=ok4 _ hx
  show (num.put y.id++(num.put y.last++(num.put y.reply.why++(num.put y.reply.number++num.put y.reply.gross)))).length≤50
  rw [List.length_append,List.length_append,List.length_append,List.length_append]
  have h1:(num.put y.id).length≤10:=fH a
  have h2:(num.put y.last).length≤10:=fH b
  have h3:(num.put y.reply.why).length≤10:=fH c
  have h4:(num.put y.reply.number).length≤10:=fH d
  have h5:(num.put y.reply.gross).length≤10:=fH e
  omega) (by rw [List.length_map];exact e1) (by decide)
 have a5:(num.put s.next).length≤10:=fH ok5
 have e:fQ s=(aC4.list 24 (by decide)).put s.table++((aKm.list 8 (by decide)).put (s.ser.map zN)++((aIe.list 40 (by decide)).put (s.posted.map iT)++((aC5.list 8 (by decide)).put (s.sess.map rQ)++num.put s.next))):=by
  unfold fQ
  rw [hr,if_neg (by decide)];rfl
 have b1:=(aC4.list 24 (by decide)).pos s.table
 have b2:=(aKm.list 8 (by decide)).pos (s.ser.map zN)
 have b3:=(aIe.list 40 (by decide)).pos (s.posted.map iT)
 have b4:=(aC5.list 8 (by decide)).pos (s.sess.map rQ)
 have b5:=num.pos s.next
 rw [e]
 simp only [List.length_append]
 omega
end Go.Proofs.YtoaibmbldmckaaaGreat
end
section
namespace Go.Proofs.YtoaibmbldmckaaaGreat
open Go.AM Tryz
theorem aWp {u:Int} (h1:0≤u) (h2:u<18446744073709551616):aCp u=18446744073709551615 - u:=by
 unfold aCp
 simp only [IntKind.signed,Bool.false_eq_true,if_false]
 have hm:(IntKind.u64.max:Int)=18446744073709551615:=by decide
 rw [hm]
 have hb:IntKind.u64.bits=64:=rfl
 rw [hb]
 have:(BitVec.ofInt 64 18446744073709551615 ^^^ BitVec.ofInt 64 u) = ~~~(BitVec.ofInt 64 u):=by
  rw [show (BitVec.ofInt 64 18446744073709551615)=BitVec.allOnes 64 from by decide,BitVec.allOnes_xor]
 rw [this,BitVec.toNat_not]
 have hv:(BitVec.ofInt 64 u).toNat=u.toNat:=by
  rw [BitVec.toNat_ofInt]
  omega
 rw [hv,iM (by omega) (by omega)]
 omega
end Go.Proofs.YtoaibmbldmckaaaGreat
end
section
namespace Go.AM
theorem bHr {n a ver i len:Nat} (h:i<len):gF n (.sl a ver n 0 len) (.int .i64 (i:Int))=.ok (.ptr a ver i 0):=by
 simp only [gF,iF h,if_true,Nat.zero_add]
theorem bM5 {X:St} {a ver n i:Nat} {es:List (List V)} {cs:List V} (hg:X.heap.get a=some (.row ver n es)) (hi:es[i]?=some cs) (k:Option Nat) (j:Nat):mE k (.ptr a ver i j) X=kL k cs j:=by
 simp only [ldP,bS hg,hi]
end Go.AM
namespace Go.Proofs.YtoaibmbldmckaaaGreat
open Go.AM Tryz
set_option linter.unusedVariables false
set_option linter.unusedSimpArgs false
set_option maxRecDepth 100000
theorem aPe {α:Type} {enc:α→List V} {n b:Nat} (hl:∀ x,(enc x).length=n∧aG (enc x)=true) (l:List α) {S:St} {a:Nat} {u:V} (hu:bC S u=.ok (l.map enc)) (hg:aB S a 0=.ok (n,[])) (h1:l.length*b≤35184372088832) (h2:l.length<eC) (fr:Option Nat):
  gI n b (.sl a 0 n 0 0) u fr S=.ok (.sl a 1 n 0 l.length,⟨S.next,S.heap.put a (.row 1 n (l.map enc))⟩):=by
 have hc:∀ cs,cs∈l.map enc→cs.length=n∧aG cs=true:=fun cs hc=>by obtain ⟨x,_,rfl⟩:=List.mem_map.1 hc;exact hl x
 obtain ⟨a1,a2⟩:=dG hc
 simp only [gI,hu,a1,a2,and_self,if_true,hg,List.length_map,Nat.zero_add,List.length_nil,Nat.le_refl,h1,h2,List.drop_nil,List.take_nil,List.nil_append]
end Go.Proofs.YtoaibmbldmckaaaGreat
end
section
namespace Go.Proofs.YtoaibmbldmckaaaGreat
open Go.AM Tryz
def wY (c:UInt8):List V:=[.int .u8 (c.toNat:Int)]
theorem u81 (c:UInt8):(wY c).length=1∧aG (wY c)=true:=⟨rfl,rfl⟩
theorem bM6 {c:Int} (h0:0≤c) (h1:c<1000000000) (S:St):dR prog 22 (.int .i64 0) (.int .i64 c) none S=.ok (.sl S.next 0 1 0 0,⟨S.next+1,S.heap.put S.next (.row 0 1 [])⟩):=by
 have e1:hN prog 22=some 5:=by kernel_rfl
 have e2:aI prog 5=some (.int .u8 0):=by kernel_rfl
 have e3:sz prog 5=1:=by kernel_rfl
 have e4:prog.bytesOf 5=1:=by kernel_rfl
 have e5:room prog 5 c.toNat=true:=by
  unfold room eC
  rw [e4,Bool.and_eq_true]
  exact ⟨Nat.ble_eq_true_of_le (by omega),by rw [Nat.blt_eq];omega⟩
 simp only [dR,e1,e2,e3,e5,nb0]
 rw [show (Nat.beq (V.cells (.int .u8 0)).length 1&&decide ((0:Int)≤0)&&decide (0≤c)&&decide (c<2147483648)&&true)=true by
  rw [decide_eq_true h0,decide_eq_true (show c<2147483648 by omega)];rfl]
 rfl
theorem bHt {S:St} {v:V} {b:List UInt8} (w:WF S) (hv:Sl S 1 v (b.map wY)) (hb:b.length<100000000) (n:Int) (h0:0≤n) (h1:n<100000000) {K:KW} (H:∀ v' S',Ext S S'→Own S S' 1 v' (b.map wY)→K v' S'):C 211 [v,.int .i64 n] S K:=by
 refine bJ8 ?_
 have w1:wr .i64 ((b.length:Int)+n)=(b.length:Int)+n:=pQ (by omega) (by omega)
 have x1:Ext S ⟨S.next+1,S.heap.put S.next (.row 0 1 [])⟩:=Ext.new w _
 have q:=aPe (b:=1) u81 b (S:=⟨S.next+1,S.heap.put S.next (.row 0 1 [])⟩) (a:=S.next) (hv.ext x1).elems (aE _ _ _ _ _ _) (by omega) (by unfold eC;omega) none
 delta Tryz.f211;simp only [↓cw,↓reduceIte,Nat.reduceLT,kk,hv.lenI,w1,bM6 (c:=(b.length:Int)+n) (by omega) (by omega),q]
 exact H _ _ (x1.set (Nat.le_refl _) (Nat.lt_succ_self _) w _) ⟨.inr ⟨S.next,1,[],by rw [List.length_map],Nat.le_refl _,Nat.lt_succ_self _,by rw [List.append_nil];exact Tr.get_put_sameB _ _ _ trivial⟩,fun c hc=>by obtain ⟨x,_,rfl⟩:=List.mem_map.1 hc;exact u81 x⟩
theorem bBq {n:Int} (h:0≤n) (h2:n≤9223372036854775807):wr .u64 (wr .u64 n*2 ^ (min (1:Int).toNat IntKind.u64.bits))=((Go.Pack.zig n:Nat):Int):=by
 have e:(min (1:Int).toNat IntKind.u64.bits)=1:=by decide
 rw [e]
 unfold Go.Pack.zig
 rw [if_pos h]
 have h1:wr .u64 n=n:=by simp [wr,lo,hi,IntKind.wrap,IntKind.min,IntKind.max,IntKind.bits,IntKind.signed];omega
 rw [h1]
 simp [wr,lo,hi,IntKind.wrap,IntKind.min,IntKind.max,IntKind.bits,IntKind.signed];omega
theorem aWq {n:Int} (h:n<0) (h2:-9223372036854775808≤n):aCp (wr .u64 (wr .u64 n*2 ^ (min (1:Int).toNat IntKind.u64.bits)))=((Go.Pack.zig n:Nat):Int):=by
 have e:(min (1:Int).toNat IntKind.u64.bits)=1:=by decide
 rw [e]
 unfold Go.Pack.zig
 rw [if_neg (by omega)]
 have h1:wr .u64 n=18446744073709551616+n:=by simp [wr,lo,hi,IntKind.wrap,IntKind.min,IntKind.max,IntKind.bits,IntKind.signed];omega
 have h3:wr .u64 ((18446744073709551616+n)*2 ^ 1)=18446744073709551616+2*n:=by simp [wr,lo,hi,IntKind.wrap,IntKind.min,IntKind.max,IntKind.bits,IntKind.signed];omega
 rw [h1,h3,aWp (by omega) (by omega)]
 omega
theorem wr8 (u:Nat):wr .u8 (u:Int)=((u % 256:Nat):Int):=by
 simp only [wr,lo,hi,IntKind.wrap,IntKind.min,IntKind.max,IntKind.bits,IntKind.signed,Bool.false_and,Bool.false_eq_true,if_false]
 by_cases h:(u:Int)≤255
 ·rw [if_pos ⟨by omega,h⟩];omega
 ·rw [if_neg (fun q=>h q.2)];omega
theorem or8 (x:Nat) (h:x<256):BitVec.toNat (BitVec.ofInt 8 (x:Int) ||| BitVec.ofInt 8 128)=x % 128+128:=by
 have:=(by decide +kernel:∀ x:Fin 256,BitVec.toNat (BitVec.ofInt 8 (x.val:Int) ||| BitVec.ofInt 8 128)=x.val % 128+128) ⟨x,h⟩
 exact this
theorem aWr (u:Nat):wr .u8 ((BitVec.toNat (BitVec.ofInt IntKind.u8.bits (wr .u8 (u:Int)) ||| BitVec.ofInt IntKind.u8.bits 128):Nat):Int)=(((UInt8.ofNat (u % 128+128)).toNat:Nat):Int):=by
 rw [wr8 u]
 have e:=or8 (u % 256) (Nat.mod_lt _ (by decide))
 have:BitVec.toNat (BitVec.ofInt IntKind.u8.bits ((u % 256:Nat):Int) ||| BitVec.ofInt IntKind.u8.bits 128)=u % 256 % 128+128:=e
 rw [this,wr8,Go.Pack.byte_lt (by omega)]
 congr 1
 omega
theorem aUe {u:Nat} (h:u<128):wr .u8 (u:Int)=(((UInt8.ofNat u).toNat:Nat):Int):=by rw [wr8,Go.Pack.byte_lt (by omega)];congr 1;omega
theorem bM8 (u:Nat):Int.fdiv (u:Int) (2 ^ (min (Int.toNat 7) IntKind.u64.bits))=((u / 128:Nat):Int):=by
 rw [show (min (Int.toNat 7) IntKind.u64.bits)=7 from by decide,Int.fdiv_eq_ediv_of_nonneg _ (by decide)]
 omega
theorem bM9 (t:Nat) (k:IntKind) (a:Int):bK prog .shl t (.int k a) (.int .u64 1)=.ok (.int k (wr k (a*2 ^ (min (1:Int).toNat k.bits)))):=rfl
theorem bHu (t:Nat) (k:IntKind) (a:Int):bK prog .shr t (.int k a) (.int .u64 7)=.ok (.int k (Int.fdiv a (2 ^ (min (Int.toNat 7) k.bits)))):=rfl
theorem bMa (t:Nat) (a b:Int):bK prog .or t (.int .u8 a) (.int .u8 b)=.ok (.int .u8 (wr .u8 ((BitVec.toNat (BitVec.ofInt IntKind.u8.bits a ||| BitVec.ofInt IntKind.u8.bits b):Nat):Int))):=rfl
theorem aWs {S:St} {v:V} {b:List UInt8} (w:WF S) (hv:Sl S 1 v (b.map wY)) (hb:b.length<10000000) (n:Int) (hn:I64 n) {K:KW} (H:∀ v' S',Ext S S'→Own S S' 1 v' ((b++Go.Pack.numP n).map wY)→K v' S'):C 138 [v,.int .i64 n] S K:=by
 refine bIg ?_
 delta Tryz.f138;simp only [↓cw,↓reduceIte,Nat.reduceLT,kk]
 refine bHt w hv (by omega) 10 (by decide) (by decide) fun v1 S1 x1 o1=>?_
 have hz:((Go.Pack.zig n:Nat):Int)=if n<0 then aCp (wr .u64 (wr .u64 n*2 ^ (min (1:Int).toNat IntKind.u64.bits))) else wr .u64 (wr .u64 n*2 ^ (min (1:Int).toNat IntKind.u64.bits)):=by
  split
  ·rw [aWq (by assumption) hn.1]
  ·rw [bBq (by omega) hn.2]
 by_cases hneg:n<0
 all_goals
  simp only [hneg,if_true,if_false] at hz
  simp only [↓cw,↓reduceIte,Nat.reduceLT,kk,bM9,hneg,if_true,if_false,unK,←hz]
  refine aJd (fun i vs X=>∃ v' done,vs=[v',.int .u64 (i:Int)]∧Own S X 1 v' (done.map wY)∧Ext S X∧done++Go.Pack.nb i=b++Go.Pack.numP n∧i<2 ^ 64) ?_ ⟨v1,b,rfl,o1.same (Nat.le_refl _) fun _ _=>rfl,x1,rfl,Go.Pack.zig_lt hn⟩
  rintro u vs X ⟨v',done,rfl,o,x,e,hu⟩ aD ha
  have hX:=x.wf w
  have hl:done.length+(Go.Pack.nb u).length=b.length+(Go.Pack.numP n).length:=by rw [←List.length_append,e,List.length_append]
  have hnp:=Go.Pack.numP_len hn
  have hnu:=Go.Pack.nb_pos u
  by_cases h:u<128
  ·have hb1:Go.Pack.nb u=[UInt8.ofNat u]:=Go.Pack.nb_low h
   have x2:Ext X ⟨X.next+1,X.heap.put X.next (.row 0 1 [wY (UInt8.ofNat u)])⟩:=Ext.new hX _
   obtain ⟨v2,X2,q1,x3,n3,o2⟩:=(o.ext x2).push (b:=1) (x.trans x2) w (u:=.sl X.next 0 1 0 1) (cs:=[wY (UInt8.ofNat u)]) (by simp only [bC,aE];rfl) (fun c hc=>by rcases List.mem_singleton.1 hc with rfl;exact u81 _) (by simp) (by simp;omega) (by simp [eC];omega)
   simp only [wY] at q1
   simp only [↓cw,↓reduceIte,Nat.reduceLT,kk,show ¬ (128:Int)≤(u:Int) by omega,if_false,aUe h,aCu,q1]
   exact H _ _ x3 (by rw [←e,hb1];simpa using o2)
  ·have hb1:Go.Pack.nb u=UInt8.ofNat (u % 128+128)::Go.Pack.nb (u / 128):=Go.Pack.nb_high h
   have x2:Ext X ⟨X.next+1,X.heap.put X.next (.row 0 1 [wY (UInt8.ofNat (u % 128+128))])⟩:=Ext.new hX _
   obtain ⟨v2,X2,q1,x3,n3,o2⟩:=(o.ext x2).push (b:=1) (x.trans x2) w (u:=.sl X.next 0 1 0 1) (cs:=[wY (UInt8.ofNat (u % 128+128))]) (by simp only [bC,aE];rfl) (fun c hc=>by rcases List.mem_singleton.1 hc with rfl;exact u81 _) (by simp) (by simp;omega) (by simp [eC];omega)
   simp only [wY] at q1
   simp only [↓cw,↓reduceIte,Nat.reduceLT,kk,show (128:Int)≤(u:Int) by omega,if_true,bMa,aWr,aCu,q1,bHu,bM8]
   exact ha (u / 128) _ _ (by omega) ⟨v2,done++[UInt8.ofNat (u % 128+128)],rfl,by simpa using o2,x3,by rw [←e,hb1];simp,by omega⟩
theorem Own.pushX {S0 S:St} {n b:Nat} {v:V} {es:List (List V)} (h:Own S0 S n v es) (x:Ext S0 S) (w:WF S0) (he:es≠[]) {u:V} {cs:List (List V)} (hu:bC S u=.ok cs) (hc:∀ c,c∈cs→c.length=n∧aG c=true)
  (h1:(es.length+cs.length)*b≤35184372088832) (h2:es.length+cs.length<eC):∃ v' S',gI n b v u none S=.ok (v',S')∧Ext S0 S'∧S'.next≤S.next+1∧Own S0 S' n v' (es++cs):=by
 by_cases hne:cs=[]
 ·subst hne
  rcases h.is with ⟨rfl,rfl⟩ | ⟨a,ver,tl,rfl,q1,q2,q3⟩
  ·exact absurd rfl he
  ·have g:aB S a ver=.ok (n,es++tl):=bS q3
   refine ⟨.sl a (ver+1) n 0 es.length,⟨S.next,S.heap.put a (.row (ver+1) n es)⟩,?_,x.set q1 q2 w _,Nat.le_succ _,⟨.inr ⟨a,ver+1,[],by rw [List.append_nil],q1,q2,by rw [List.append_nil,List.append_nil];exact Tr.get_put_sameB _ _ _ trivial⟩,by rw [List.append_nil];exact h.len⟩⟩
   simp only [List.length_nil,Nat.add_zero] at h1 h2
   simp only [gI,hu,hJ,List.all_nil,and_self,if_true,g,Nat.zero_add,List.length_append,Nat.le_add_right,List.length_nil,Nat.add_zero,h1,h2,List.drop_zero,List.append_nil,List.take_left']
 ·exact h.push x w hu hc hne h1 h2
theorem aWt (n:Int):Go.Pack.numP n≠[]:=fun e=>by have:=Go.Pack.nb_pos (Go.Pack.zig n);unfold Go.Pack.numP at e;rw [e] at this;exact absurd this (by decide)
theorem aNh (s:List UInt8):txt.put s=Go.Pack.numP (s.length:Int)++s:=rfl
theorem bMb {S:St} {v:V} {b:List UInt8} (w:WF S) (hv:Sl S 1 v (b.map wY)) (hb:b.length<1000000) (s:List UInt8) (hs:s.length<1000000) {K:KW} (H:∀ v' S',Ext S S'→Own S S' 1 v' ((b++txt.put s).map wY)→K v' S'):C 171 [v,.str s] S K:=by
 refine bIt ?_
 have w1:wr .i64 (10+(s.length:Int))=10+(s.length:Int):=pQ (by omega) (by omega)
 delta Tryz.f171;simp only [↓cw,↓reduceIte,Nat.reduceLT,kk,w1]
 refine bHt w hv (by omega) _ (by omega) (by omega) fun v1 S1 x1 o1=>?_
 refine aWs (x1.wf w) o1.sl (by omega) _ (by constructor<;>omega) fun v2 S2 x2 o2=>?_
 have o2':Own S S2 1 v2 ((b++Go.Pack.numP (s.length:Int)).map wY):=o2.weaken x1.next
 have hnp:=Go.Pack.numP_len (n:=(s.length:Int)) ⟨by omega,by omega⟩
 obtain ⟨v3,S3,q1,x3,n3,o3⟩:=Own.pushX (b:=1) o2' (x1.trans x2) w (by simp [aWt]) (u:=.str s) (cs:=s.map wY) rfl (fun c hc=>by obtain ⟨y,_,rfl⟩:=List.mem_map.1 hc;exact u81 y) (by simp;omega) (by simp [eC];omega)
 simp only [↓cw,↓reduceIte,Nat.reduceLT,kk,q1]
 exact H _ _ x3 (by rw [aNh,←List.append_assoc,List.map_append];exact o3)
theorem aIi (f:Bool):Go.Pack.flag.put f=Go.Pack.numP (if f=true then 1 else 0):=by cases f<;>rfl
theorem bMc {S:St} {v:V} {b:List UInt8} (w:WF S) (hv:Sl S 1 v (b.map wY)) (hb:b.length<1000000) (f:Bool) {K:KW} (H:∀ v' S',Ext S S'→Own S S' 1 v' ((b++Go.Pack.flag.put f).map wY)→K v' S'):C 172 [v,.bool f] S K:=by
 refine bIu ?_
 rw [aIi] at H
 delta Tryz.f172;cases f<;>simp only [↓cw,↓reduceIte,Nat.reduceLT,kk,Bool.false_eq_true,if_true,if_false]
 ·exact aWs w hv (by omega) 0 (by constructor<;>omega) fun v' S' x o=>H v' S' x o
 ·exact aWs w hv (by omega) 1 (by constructor<;>omega) fun v' S' x o=>H v' S' x o
def WB (a:Nat) (b:List UInt8) (S:St):Prop:=∃ v,S.heap.get a=some (.row 0 1 [[v]])∧Sl S 1 v (b.map wY)∧blkOf v≠some a∧a<S.next
theorem WB.set {S S':St} {a:Nat} {v':V} {b:List UInt8} (w:WF S) (ha:a<S.next) (x:Ext S S') (o:Own S S' 1 v' (b.map wY)):AM.But a S ⟨S'.next,S'.heap.put a (.row 0 1 [[v']])⟩∧WB a b ⟨S'.next,S'.heap.put a (.row 0 1 [[v']])⟩:=by
 have ha':a<S'.next:=Nat.lt_of_lt_of_le ha x.next
 have hb:∀ y,blkOf v'=some y→y≠a:=fun y hy e=>by
  rcases o.is with ⟨rfl,_⟩ | ⟨c,ver,tl,rfl,q1,q2,q3⟩
  ·cases hy
  ·cases hy;omega
 refine ⟨(AM.But.of x).trans (AM.But.put ha' _),v',Tr.get_put_sameB _ _ _ trivial,o.sl.keep fun y c hy hc=>?_,fun e=>hb a e rfl,ha'⟩
 show (S'.heap.put a _).get y=_
 rw [Tr.get_put_neB _ _ _ _ trivial (hb y hy)];exact hc
theorem g93 {S:St} {a:Nat} {b:List UInt8} (w:WF S) (hw:WB a b S) (hb:b.length<1000000) (s:List UInt8) (hs:s.length<1000000) {K:KW} (H:∀ S',AM.But a S S'→WB a (b++txt.put s) S'→K (.tup []) S'):C 93 [.ptr a 0 0 0,.str s] S K:=by
 obtain ⟨v,hg,hv,hk,ha⟩:=hw
 refine v93 ?_
 have r:=bS hg
 delta Tryz.f93;simp only [↓cw,↓reduceIte,Nat.reduceLT,kk,r]
 refine bMb w hv hb s hs fun v' S' x o=>?_
 simp only [↓cw,↓reduceIte,Nat.reduceLT,kk,bS (x.old _ _ hg),o.cells,o.one]
 obtain ⟨h1,h2⟩:=WB.set w ha x o
 exact H _ h1 h2
theorem g95 {S:St} {a:Nat} {b:List UInt8} (w:WF S) (hw:WB a b S) (hb:b.length<1000000) (f:Bool) {K:KW} (H:∀ S',AM.But a S S'→WB a (b++Go.Pack.flag.put f) S'→K (.tup []) S'):C 95 [.ptr a 0 0 0,.bool f] S K:=by
 obtain ⟨v,hg,hv,hk,ha⟩:=hw
 refine v95 ?_
 have r:=bS hg
 delta Tryz.f95;simp only [↓cw,↓reduceIte,Nat.reduceLT,kk,r]
 refine bMc w hv hb f fun v' S' x o=>?_
 simp only [↓cw,↓reduceIte,Nat.reduceLT,kk,bS (x.old _ _ hg),o.cells,o.one]
 obtain ⟨h1,h2⟩:=WB.set w ha x o
 exact H _ h1 h2
def cO (ns:List Int):List UInt8:=ns.flatMap Go.Pack.numP
def aNi (b:List UInt8) (n:Int):List UInt8⊕List UInt8:=.inr (b++Go.Pack.numP n)
theorem bAs:∀ (ns:List Int) (b:List UInt8),aC aNi id ns b=b++cO ns
 | [],b=>by simp [aC,cO]
 | n::ns,b=>by
  show aC aNi id ns (b++Go.Pack.numP n)=_
  rw [bAs ns];simp [cO]
theorem g92 {S:St} {a k:Nat} {b:List UInt8} (w:WF S) (hw:WB a b S) (ns:List Int) (hb:b.length+10*ns.length<1000000) (hI:∀ n∈ns,I64 n) (hk:aB S k 0=.ok (1,ns.map dF)) (hka:k≠a) {K:KW} (H:∀ S',AM.But a S S'→WB a (b++cO ns) S'→K (.tup []) S'):C 92 [.ptr a 0 0 0,.sl k 0 1 0 ns.length] S K:=by
 refine v92 ?_
 delta Tryz.f92;simp only [↓cw,↓reduceIte,Nat.reduceLT,kk]
 refine aH ns (step:=aNi) (fin:=id) (fun i d vs X=>vs=[.int .i64 (i:Int)]∧AM.But a S X∧WB a d X∧d.length≤b.length+10*i) (fun d=>d=b++cO ns) ?_ ?_ (s:=b) ⟨rfl,⟨fun _ _ _ h=>h,Nat.le_refl _,fun h=>h⟩,hw,Nat.le_refl _⟩ (bAs ns b)
 ·rintro i n d vs X hi ⟨rfl,bt,⟨v,hg,hv,hkv,ha⟩,hd⟩ aD Hq
  have hil:=(List.getElem?_eq_some_iff.1 hi).1
  have hn:=hI n (List.mem_of_getElem? hi)
  have hkX:X.heap.get k=some (.row 0 1 (ns.map dF)):=bt.old k _ hka (zX hk)
  have ld:=bM5 hkX (by rw [List.getElem?_map,hi];rfl:(ns.map dF)[i]?=some (dF n)) none 0
  have r:=bS hg
  simp only [kk,dF] at ld
  simp only [aNi] at Hq
  simp only [↓cw,↓reduceIte,Nat.reduceLT,kk,bP hi,if_true,bHr hil,Nat.add_zero,ld,r]
  have wX:=bt.wf w
  refine aWs wX hv (by omega) n hn fun v' S' x o=>?_
  simp only [↓cw,↓reduceIte,Nat.reduceLT,kk,bS (x.old _ _ hg),o.cells,o.one,lH (show i<1000000000 by omega)]
  obtain ⟨h1,h2⟩:=WB.set wX ha x o
  have hl:=Go.Pack.numP_len hn
  exact Hq _ _ ⟨rfl,bt.trans h1,h2,by rw [List.length_append];omega⟩
 ·rintro d vs X ⟨rfl,bt,hw',hd⟩ aD Hq
  have Hq:d=b++cO ns:=Hq
  simp only [↓cw,↓reduceIte,Nat.reduceLT,kk,Int.lt_irrefl,if_false]
  exact H _ bt (by rw [←Hq];exact hw')
theorem WB.ext {S S':St} {a:Nat} {b:List UInt8} (h:WB a b S) (x:Ext S S'):WB a b S':=by
 obtain ⟨v,hg,hv,hk,ha⟩:=h
 exact ⟨v,x.old _ _ hg,hv.ext x,hk,Nat.lt_of_lt_of_le ha x.next⟩
theorem WB.lt {S:St} {a:Nat} {b:List UInt8} (h:WB a b S):a<S.next:=by
 obtain ⟨v,hg,hv,hk,ha⟩:=h
 exact ha
theorem jN (s:List UInt8) (h:s.length<1000000):(txt.put s).length≤10+s.length:=by
 rw [aNh,List.length_append]
 have:=Go.Pack.numP_len (n:=(s.length:Int)) ⟨by omega,by omega⟩
 omega
theorem kA:∀ ns:List Int,(∀ n∈ns,I64 n)→(cO ns).length≤10*ns.length
 | [],_=>Nat.le_refl _
 | n::ns,h=>by
  have:=kA ns fun m hm=>h m (List.mem_cons_of_mem _ hm)
  have:=Go.Pack.numP_len (h n (List.mem_cons_self ..))
  simp only [cO,List.flatMap_cons,List.length_append,List.length_cons] at *
  omega
theorem lX {S:St} {a:Nat} {b:List UInt8} (w:WF S) (hw:WB a b S) (ns:List Int) (hb:b.length+10*ns.length<1000000) (hI:∀ n∈ns,I64 n) {K:KW} (H:∀ S',AM.But a S S'→WB a (b++cO ns) S'→K (.tup []) S'):C 92 [.ptr a 0 0 0,.sl S.next 0 1 0 ns.length] ⟨S.next+1,S.heap.put S.next (.row 0 1 (ns.map dF))⟩ K:=by
 have x:Ext S ⟨S.next+1,S.heap.put S.next (.row 0 1 (ns.map dF))⟩:=Ext.new w _
 have:=hw.lt
 exact g92 (k:=S.next) (x.wf w) (hw.ext x) ns hb hI (aE _ _ _ _ _ _) (by omega) fun S' h1 h2=>H S' ((AM.But.of x).trans h1) h2
theorem pU {a:Int} {l:List Int} (h:I64 a) (t:∀ n∈l,I64 n):∀ n∈a::l,I64 n:=List.forall_mem_cons.2 ⟨h,t⟩
theorem al0:∀ n∈([]:List Int),I64 n:=fun _ h=>by cases h
def aIj (d:Date):Prop:=I64 d.y∧I64 d.m∧I64 d.d
theorem aGa (d:Date):jZ.put d=cO [d.y,d.m,d.d]:=by
 show Go.Pack.numP d.y++(Go.Pack.numP d.m++Go.Pack.numP d.d)=_
 simp [cO]
theorem bHw (a0 a1:Int) (fr:Option Nat) (S:St):bV 1 [.int .i64 0] 2 [(0,.int .i64 a0),(1,.int .i64 a1)] fr S=(match aW fr S (.row 0 1 [[.int .i64 a0],[.int .i64 a1]]) with
  | .error e=>.error e
  | .ok (a,S')=>.ok (.sl a 0 1 0 2,S')):=by unfold bV;rw [if_pos (by decide)];rfl
theorem bMd (a0 a1 a2:Int) (fr:Option Nat) (S:St):bV 1 [.int .i64 0] 3 [(0,.int .i64 a0),(1,.int .i64 a1),(2,.int .i64 a2)] fr S=(match aW fr S (.row 0 1 [[.int .i64 a0],[.int .i64 a1],[.int .i64 a2]]) with
  | .error e=>.error e
  | .ok (a,S')=>.ok (.sl a 0 1 0 3,S')):=by unfold bV;rw [if_pos (by decide)];rfl
theorem bMe (a0 a1 a2 a3 a4:Int) (fr:Option Nat) (S:St):bV 1 [.int .i64 0] 5 [(0,.int .i64 a0),(1,.int .i64 a1),(2,.int .i64 a2),(3,.int .i64 a3),(4,.int .i64 a4)] fr S=(match aW fr S (.row 0 1 [[.int .i64 a0],[.int .i64 a1],[.int .i64 a2],[.int .i64 a3],[.int .i64 a4]]) with
  | .error e=>.error e
  | .ok (a,S')=>.ok (.sl a 0 1 0 5,S')):=by unfold bV;rw [if_pos (by decide)];rfl
theorem g94 {S:St} {a:Nat} {b:List UInt8} (w:WF S) (hw:WB a b S) (hb:b.length<100000) (d:Date) (hd:aIj d) {K:KW} (H:∀ S',AM.But a S S'→WB a (b++jZ.put d) S'→K (.tup []) S'):C 94 [.ptr a 0 0 0,.agg [.int .i64 d.y,.int .i64 d.m,.int .i64 d.d]] S K:=by
 refine v94 ?_
 have x:Ext S ⟨S.next+1,S.heap.put S.next (.row 0 3 [d.enc])⟩:=Ext.new w _
 have h:=lX (x.wf w) (hw.ext x) [d.y,d.m,d.d] (by simp;omega) (pU hd.1 (pU hd.2.1 (pU hd.2.2 al0))) (K:=fun v S'=>K (.tup []) S') fun S' h1 h2=>H S' ((AM.But.of x).trans h1) (by rw [aGa];exact h2)
 simp only [Date.enc,List.map_cons,List.map_nil,dF,List.length_cons,List.length_nil] at h
 delta Tryz.f94;simp only [↓cw,↓reduceIte,Nat.reduceLT,kk,gZ,bMd]
 exact h
def wV (p:Part):List UInt8:=txt.put p.cat++cO [p.bp,p.net]
structure PostI' (p:Posted):Prop where
 ser:p.ref.ser.length≤64
 day:aIj p.day
 ofs:p.of.ser.length≤64
 num:I64 p.of.num
 len:p.total.parts.length≤12
 parts:∀ q∈p.total.parts,q.cat.length≤64∧I64 q.bp∧I64 q.net
def mP (p:Posted):List UInt8:=txt.put p.ref.ser++(jZ.put p.day++(txt.put p.of.ser++(cO [p.of.num,(p.total.parts.length:Int)]++p.total.parts.flatMap wV)))
theorem aUf (p:Posted):aIe.put (iT p)=mP p:=by
 show txt.put p.ref.ser++(jZ.put p.day++(txt.put p.of.ser++(Go.Pack.numP p.of.num++(Go.Pack.numP (((p.total.parts.map mO).length:Nat):Int)++(p.total.parts.map mO).flatMap aEq.put))))=_
 have e:(p.total.parts.map mO).flatMap aEq.put=p.total.parts.flatMap wV:=by
  rw [List.flatMap_map]
  congr 1
  funext q
  show txt.put q.cat++(Go.Pack.numP q.bp++Go.Pack.numP q.net)=_
  simp [wV,cO]
 rw [e,List.length_map]
 simp [mP,cO]
theorem aC9 {n:Nat} (h:n<1000000000):I64 (n:Int):=⟨by omega,by omega⟩
def aGb (b:List UInt8) (p:Part):List UInt8⊕List UInt8:=.inr (b++wV p)
theorem aUg:∀ (ps:List Part) (b:List UInt8),aC aGb id ps b=b++ps.flatMap wV
 | [],b=>by simp [aC]
 | p::ps,b=>by
  show aC aGb id ps (b++wV p)=_
  rw [aUg ps];simp
theorem aIk {p:Part} (h:p.cat.length≤64∧I64 p.bp∧I64 p.net):(wV p).length≤94:=by
 have h1:=jN p.cat (by omega)
 have h2:=kA [p.bp,p.net] (pU h.2.1 (pU h.2.2 al0))
 simp only [wV,List.length_append,List.length_cons,List.length_nil] at *
 omega
theorem g96 {S:St} {a:Nat} {b:List UInt8} (w:WF S) (hw:WB a b S) (hb:b.length<80000) (p:Posted) (hp:PostI' p) {K:KW} (H:∀ S',AM.But a S S'→WB a (b++mP p) S'→K (.tup []) S'):C 96 [.ptr a 0 0 0,.agg p.enc] S K:=by
 refine v96 ?_
 have ha:=hw.lt
 obtain ⟨S1,hS1⟩:∃ S1:St,S1=⟨S.next+1,S.heap.put S.next (.row 0 12 [p.enc])⟩:=⟨_,rfl⟩
 have x1:Ext S S1:=by rw [hS1];exact Ext.new w _
 have r1:S1.heap.get S.next=some (.row 0 12 [p.enc]):=by rw [hS1];exact Tr.get_put_sameB _ _ _ trivial
 have hl1:=jN p.ref.ser (by have:=hp.ser;omega)
 have hl2:=jN p.of.ser (by have:=hp.ofs;omega)
 have hl3:=kA [p.day.y,p.day.m,p.day.d] (pU hp.day.1 (pU hp.day.2.1 (pU hp.day.2.2 al0)))
 have hs:=hp.ser;have hso:=hp.ofs;have hpl:=hp.len
 rw [←aGa] at hl3
 simp only [List.length_cons,List.length_nil] at hl3
 have rr:∀ {X:St},AM.But a S1 X→aB X S.next 0=.ok (12,[p.enc]):=fun {X} bt=>bS (bt.old _ _ (by omega) r1)
 simp only [Posted.enc] at hS1 rr
 have r0:=rr (X:=S1) ⟨fun _ _ _ h=>h,Nat.le_refl _,fun h=>h⟩
 delta Tryz.f96;simp only [↓cw,↓reduceIte,Nat.reduceLT,kk,Posted.enc,←hS1,r0]
 have cwb:∀ {X:St},AM.But a S1 X→WF X:=fun {X} bt=>bt.wf (x1.wf w)
 refine g93 (x1.wf w) (hw.ext x1) (by omega) _ (by omega) fun S2 b2 h2=>?_
 simp only [↓cw,↓reduceIte,Nat.reduceLT,kk,rr b2]
 refine g94 (cwb b2) h2 (by rw [List.length_append];omega) p.day hp.day fun S3 b3' h3=>?_
 have b3:=b2.trans b3'
 simp only [↓cw,↓reduceIte,Nat.reduceLT,kk,rr b3]
 refine g93 (cwb b3) h3 (by simp only [List.length_append];omega) _ (by omega) fun S4 b4' h4=>?_
 have b4:=b3.trans b4'
 simp only [↓cw,↓reduceIte,Nat.reduceLT,kk,rr b4,bHw]
 have hl4:=kA [p.of.num,(p.total.parts.length:Int)] (pU hp.num (pU (aC9 (by omega)) al0))
 simp only [List.length_cons,List.length_nil] at hl4
 refine lX (cwb b4) h4 [p.of.num,(p.total.parts.length:Int)] (by simp only [List.length_append,List.length_cons,List.length_nil];omega) (pU hp.num (pU (aC9 (by omega)) al0)) fun S5 b5' h5=>?_
 have b5:=b4.trans b5'
 simp only [↓cw,↓reduceIte,Nat.reduceLT,kk,rr b5]
 refine aH p.total.parts (step:=aGb) (fin:=id) (fun i d vs X=>vs=[.int .i64 (i:Int)]∧AM.But a S1 X∧WB a d X∧d.length≤b.length+260+94*i) (fun d=>d=b++mP p) ?_ ?_ (s:=b++txt.put p.ref.ser++jZ.put p.day++txt.put p.of.ser++cO [p.of.num,(p.total.parts.length:Int)]) ⟨rfl,b5,h5,by simp only [List.length_append];omega⟩ (by rw [aUg];simp [mP])
 ·rintro i q d vs X hi ⟨rfl,bt,hwd,hd⟩ aD Hq
  have hil:=(List.getElem?_eq_some_iff.1 hi).1
  have hq:=hp.parts q (List.mem_of_getElem? hi)
  have wX:=cwb bt
  have hla:=hwd.lt
  have hq1:=jN q.cat (by omega)
  have hq2:=aIk hq
  obtain ⟨X1,hX1⟩:∃ X1:St,X1=⟨X.next+1,(X.heap.put X.next (.row 0 4 [[.str [],.int .i64 0,.int .i64 0,.int .i64 0]])).put X.next (.row 0 4 [q.enc])⟩:=⟨_,rfl⟩
  have xX:Ext X X1:=by rw [hX1];exact Ext.var wX 4 _ _
  have rq:X1.heap.get X.next=some (.row 0 4 [q.enc]):=by rw [hX1];exact Tr.get_put_sameB _ _ _ trivial
  have rr2:∀ {Y:St},AM.But a X1 Y→aB Y X.next 0=.ok (4,[q.enc]):=fun {Y} bt=>bS (bt.old _ _ (by omega) rq)
  simp only [Part.enc] at hX1 rr2
  have r20:=rr2 (Y:=X1) ⟨fun _ _ _ h=>h,Nat.le_refl _,fun h=>h⟩
  simp only [aGb] at Hq
  simp only [↓cw,↓reduceIte,Nat.reduceLT,kk,bP hi,if_true,pA hi,Part.enc,←hX1,r20]
  refine g93 (xX.wf wX) (hwd.ext xX) (by omega) _ (by omega) fun Y1 c1 k1=>?_
  simp only [↓cw,↓reduceIte,Nat.reduceLT,kk,rr2 c1,bHw,lH (show i<1000000000 by omega)]
  refine lX (c1.wf (xX.wf wX)) k1 [q.bp,q.net] (by simp only [List.length_append,List.length_cons,List.length_nil];omega) (pU hq.2.1 (pU hq.2.2 al0)) fun Y2 c2 k2=>?_
  exact Hq _ _ ⟨rfl,(bt.trans (AM.But.of xX)).trans (c1.trans c2),by rw [List.append_assoc] at k2;exact k2,by rw [List.length_append];omega⟩
 ·rintro d vs X ⟨rfl,bt,hwd,hd⟩ aD Hq
  have Hq:d=b++mP p:=Hq
  simp only [↓cw,↓reduceIte,Nat.reduceLT,kk,Int.lt_irrefl,if_false]
  exact H _ ((AM.But.of x1).trans bt) (by rw [←Hq];exact hwd)
structure ImgOK (s:State):Prop where
 t1:s.table.length≤24
 t2:∀ r∈s.table,r.cat.length≤64∧aIj r.day∧I64 r.bp
 s1:s.ser.length≤8
 s2:∀ x∈s.ser,x.name.length≤64∧I64 x.limit
 p1:s.posted.length≤40
 p2:∀ p∈s.posted,PostI' p
 e1:s.sess.length≤8
 e2:∀ x∈s.sess,I64 x.id∧I64 x.last∧I64 x.reply.why∧I64 x.reply.number∧I64 x.reply.gross
 n:I64 s.next
theorem ImgOK.of {s:State} (h:aP8.ok (aC6 s)):ImgOK s:=by
 obtain ⟨⟨t1,t2⟩,⟨s1,s2⟩,⟨p1,p2⟩,⟨e1,e2⟩,n⟩:=h
 refine ⟨t1,fun r hr=>t2 r hr,?_,fun x hx=>?_,?_,fun p hp=>?_,?_,fun x hx=>?_,n⟩
 ·simpa [aC6] using s1
 ·obtain ⟨a,b,c⟩:=s2 (zN x) (List.mem_map_of_mem hx);exact ⟨a,b⟩
 ·simpa [aC6] using p1
 ·obtain ⟨a,b,c,d,e1,e2⟩:=p2 (iT p) (List.mem_map_of_mem hp)
  refine ⟨a,b,c,d,by simpa [iT] using e1,fun q hq=>?_⟩
  obtain ⟨x,y,z⟩:=e2 (mO q) (List.mem_map_of_mem hq)
  exact ⟨x,y,z⟩
 ·simpa [aC6] using e1
 ·exact e2 (rQ x) (List.mem_map_of_mem hx)
def tC (r:Rate):List UInt8:=txt.put r.cat++(jZ.put r.day++cO [r.bp])
def aD0 (x:Ser):List UInt8:=txt.put x.name++(cO [x.limit]++Go.Pack.flag.put x.shut)
def aCa (x:Sess):List UInt8:=cO [x.id,x.last,x.reply.why,x.reply.number,x.reply.gross]
def aCb (s:State):List UInt8:=cO [(s.table.length:Int)]++s.table.flatMap tC++cO [(s.ser.length:Int)]++s.ser.flatMap aD0++cO [(s.posted.length:Int)]++s.posted.flatMap mP++cO [(s.sess.length:Int)]++s.sess.flatMap aCa++cO [s.next]
theorem aWu (s:State):aP8.put (aC6 s)=aCb s:=by
 show (Go.Pack.numP (s.table.length:Nat)++s.table.flatMap aC4.put)++((Go.Pack.numP (((s.ser.map zN).length:Nat):Int)++(s.ser.map zN).flatMap aKm.put)++((Go.Pack.numP (((s.posted.map iT).length:Nat):Int)++(s.posted.map iT).flatMap aIe.put)++((Go.Pack.numP (((s.sess.map rQ).length:Nat):Int)++(s.sess.map rQ).flatMap aC5.put)++Go.Pack.numP s.next)))=_
 have e1:aC4.put=tC:=by funext r;show txt.put r.cat++(jZ.put r.day++Go.Pack.numP r.bp)=_;simp [tC,cO]
 have e2:(s.ser.map zN).flatMap aKm.put=s.ser.flatMap aD0:=by
  rw [List.flatMap_map];congr 1;funext x
  show txt.put x.name++(Go.Pack.numP x.limit++Go.Pack.flag.put x.shut)=_
  simp [aD0,cO]
 have e3:(s.posted.map iT).flatMap aIe.put=s.posted.flatMap mP:=by
  rw [List.flatMap_map];congr 1;funext p;exact aUf p
 have e4:(s.sess.map rQ).flatMap aC5.put=s.sess.flatMap aCa:=by
  rw [List.flatMap_map];congr 1;funext x
  show Go.Pack.numP x.id++(Go.Pack.numP x.last++(Go.Pack.numP x.reply.why++(Go.Pack.numP x.reply.number++Go.Pack.numP x.reply.gross)))=_
  simp [aCa,cO]
 rw [e1,e2,e3,e4]
 simp [aCb,cO]
def grow {α:Type} (f:α→List UInt8) (b:List UInt8) (x:α):List UInt8⊕List UInt8:=.inr (b++f x)
theorem bAt {α:Type} (f:α→List UInt8):∀ (l:List α) (b:List UInt8),aC (grow f) id l b=b++l.flatMap f
 | [],b=>by simp [aC]
 | x::l,b=>by
  show aC (grow f) id l (b++f x)=_
  rw [bAt f l];simp
theorem aGc {α:Type} (f:α→List UInt8) (l:List α) {a B:Nat} {X0 Y:St} {b:List UInt8} {F:List V→St→(List V→St→Prop)→Prop} (hlen:∀ x∈l,(f x).length≤B) (h0:AM.But a X0 Y) (hw:WB a b Y)
  (hs:∀ i x d X,l[i]?=some x→AM.But a X0 X→WB a d X→d.length≤b.length+B*i→∀ aD:List V→St→Prop,(∀ X',AM.But a X0 X'→WB a (d++f x) X'→aD [.int .i64 ((i+1:Nat):Int)] X')→F [.int .i64 (i:Int)] X aD)
  (he:∀ X aD,AM.But a X0 X→WB a (b++l.flatMap f) X→F [.int .i64 (l.length:Int)] X aD):lN [.int .i64 0] Y F:=by
 refine aH l (step:=grow f) (fin:=id) (fun i d vs X=>vs=[.int .i64 (i:Int)]∧AM.But a X0 X∧WB a d X∧d.length≤b.length+B*i) (fun d=>d=b++l.flatMap f) ?_ ?_ (s:=b) ⟨rfl,h0,hw,Nat.le_refl _⟩ (bAt f l b)
 ·rintro i x d vs X hi ⟨rfl,bt,hwd,hd⟩ aD Hq
  refine hs i x d X hi bt hwd hd aD fun X' h1 h2=>Hq _ _ ⟨rfl,h1,h2,?_⟩
  have:=hlen x (List.mem_of_getElem? hi)
  rw [List.length_append,Nat.mul_add];omega
 ·rintro d vs X ⟨rfl,bt,hwd,hd⟩ aD Hq
  have Hq:d=b++l.flatMap f:=Hq
  exact he X aD bt (by rw [←Hq];exact hwd)
theorem pF {n:Int} (h:I64 n):(cO [n]).length≤10:=kA [n] (pU h al0)
theorem aUh (f:Bool):(Go.Pack.flag.put f).length≤10:=by rw [aIi];cases f<;>exact Go.Pack.numP_len ⟨by decide,by decide⟩
theorem aCc {d:Date} (h:aIj d):(jZ.put d).length≤30:=by rw [aGa];exact kA _ (pU h.1 (pU h.2.1 (pU h.2.2 al0)))
theorem aIl {r:Rate} (h:r.cat.length≤64∧aIj r.day∧I64 r.bp):(tC r).length≤114:=by
 have h1:=jN r.cat (by omega);have h2:=aCc h.2.1;have h3:=pF h.2.2
 simp only [tC,List.length_append];omega
theorem aNj {x:Ser} (h:x.name.length≤64∧I64 x.limit):(aD0 x).length≤94:=by
 have h1:=jN x.name (by omega);have h2:=pF h.2;have h3:=aUh x.shut
 simp only [aD0,List.length_append];omega
theorem sL {α:Type} (f:α→List UInt8) {n:Nat}:∀ l:List α,(∀ a∈l,(f a).length≤n)→(l.flatMap f).length≤n*l.length
 | [],_=>Nat.zero_le _
 | x::l,h=>by
  have h1:=h x (List.mem_cons_self ..)
  have h2:=sL f l fun a ha=>h a (List.mem_cons_of_mem _ ha)
  simp only [List.flatMap_cons,List.length_append,List.length_cons,Nat.mul_add];omega
theorem aEt {p:Posted} (h:PostI' p):(mP p).length≤1326:=by
 have h1:=jN p.ref.ser (by have:=h.ser;omega);have h2:=aCc h.day;have h3:=jN p.of.ser (by have:=h.ofs;omega)
 have h4:=kA [p.of.num,(p.total.parts.length:Int)] (pU h.num (pU (aC9 (by have:=h.len;omega)) al0))
 have h5:=sL wV (n:=94) p.total.parts fun q hq=>aIk (h.parts q hq)
 have:=h.ser;have:=h.ofs;have:=h.len
 simp only [mP,List.length_append,List.length_cons,List.length_nil] at *;omega
theorem aIm {x:Sess} (h:I64 x.id∧I64 x.last∧I64 x.reply.why∧I64 x.reply.number∧I64 x.reply.gross):(aCa x).length≤50:=kA _ (pU h.1 (pU h.2.1 (pU h.2.2.1 (pU h.2.2.2.1 (pU h.2.2.2.2 al0)))))
theorem AM.But.rfl' {a:Nat} {S:St}:AM.But a S S:=⟨fun _ _ _ h=>h,Nat.le_refl _,fun h=>h⟩
theorem _root_.Go.AM.Sl.out {α:Type} {enc:α→List V} {S:St} {n:Nat} {v:V} {l:List α} (h:Sl S n v (l.map enc)) (hc:∀ x,cloVs (enc x)=true):cD jF (kR (hU S 3) S) v=.ok (.imm (l.map enc)):=by
 have he:=h.elems
 rcases h.is with ⟨rfl,e⟩ | rfl | ⟨a',ver',off,elems,rfl,h2,h3⟩
 ·rw [e];rfl
 ·rfl
 ·simp only [cD,kR,he,(lQ (S:=S) (n:=2) (cI (enc:=enc) hc l)).1]
theorem g28 (s:State) (h:aS s=true→ImgOK s) (S:St) (K:KW):C 28 [.agg [.imm (s.table.map Rate.enc),.imm (s.ser.map Ser.enc),.imm (s.posted.map Posted.enc),.imm (s.book.map Bal.enc),.imm (s.sess.map Sess.enc),.int .i64 s.next]] S K=K (.imm ((fQ s).map wY)) S:=by
 refine (v28 rfl ?_).eq S K
 delta Tryz.f28;simp only [↓cw,↓reduceIte,Nat.reduceLT,kk,gZ,g24 s]
 cases c1:aS s
 ·have e:fQ s=[]:=by unfold fQ;rw [if_pos c1]
  simp only [↓cw,↓reduceIte,Nat.reduceLT,c1,kk,oo,if_true,Bool.not_false,e,List.map_nil]
 have ok:=h c1
 have e:fQ s=aCb s:=by unfold fQ;rw [if_neg (by rw [c1];decide),aWu]
 obtain ⟨R,hR⟩:∃ R,R=aCb s:=⟨_,rfl⟩
 rw [e,←hR]
 obtain ⟨S0,hS0⟩:∃ S0:St,S0=⟨1+1,(Tr.nil.put 0 (.row 0 6 [s.enc])).put 1 (.row 0 1 [[.nils]])⟩:=⟨_,rfl⟩
 have w0:WF S0:=by rw [hS0];exact kN (n:=1) (kN pK (by decide) (by decide)) (by decide) (by decide)
 have n0:S0.next=2:=by rw [hS0]
 have r0:aB S0 0 0=.ok (6,[s.enc]):=by rw [hS0];rfl
 have hw0:WB 1 [] S0:=⟨.nils,by rw [hS0];exact Tr.get_put_sameB _ _ _ trivial,Sl.nilv _ _,(by show (none:Option Nat)≠some 1;simp),by omega⟩
 have rr:∀ {X:St},AM.But 1 S0 X→aB X 0 0=.ok (6,[s.enc]):=fun {X} bt=>bS (bt.old _ _ (by decide) (zX r0))
 have wf:∀ {X:St},AM.But 1 S0 X→WF X:=fun {X} bt=>bt.wf w0
 simp only [State.enc] at hS0 rr r0
 simp only [↓cw,↓reduceIte,Nat.reduceLT,c1,kk,gZ,Bool.not_true,Bool.false_eq_true,if_false,aCu,←hS0,r0]
 have o1:=ok.t1;have o2:=ok.s1;have o3:=ok.p1;have o4:=ok.e1
 have fl1:=sL tC (n:=114) s.table fun r hr=>aIl (ok.t2 r hr)
 have fl2:=sL aD0 (n:=94) s.ser fun r hr=>aNj (ok.s2 r hr)
 have fl3:=sL mP (n:=1326) s.posted fun r hr=>aEt (ok.p2 r hr)
 have fl4:=sL aCa (n:=50) s.sess fun r hr=>aIm (ok.e2 r hr)
 have l1:=pF (aC9 (n:=s.table.length) (by omega))
 have l2:=pF (aC9 (n:=s.ser.length) (by omega))
 have l3:=pF (aC9 (n:=s.posted.length) (by omega))
 have l4:=pF (aC9 (n:=s.sess.length) (by omega))
 refine lX w0 hw0 [(s.table.length:Int)] (by simp) (pU (aC9 (by omega)) al0) fun S1 b1 h1=>?_
 simp only [↓cw,↓reduceIte,Nat.reduceLT,kk,rr b1]
 refine aGc tC s.table (X0:=S0) (B:=114) (fun r hr=>aIl (ok.t2 r hr)) b1 h1 (fun i x d X hi bt hwd hd aD H=>?_) fun X aD bt hwd=>?_
 ·have hil:=(List.getElem?_eq_some_iff.1 hi).1
  have hx:=ok.t2 x (List.mem_of_getElem? hi)
  have wX:=wf bt
  have q1:=jN x.cat (by omega);have q2:=aCc hx.2.1
  have hd':d.length≤10000:=by simp only [List.nil_append] at hd;omega
  obtain ⟨X1,hX1⟩:∃ X1:St,X1=⟨X.next+1,(X.heap.put X.next (.row 0 5 [[.str [],.int .i64 0,.int .i64 0,.int .i64 0,.int .i64 0]])).put X.next (.row 0 5 [x.enc])⟩:=⟨_,rfl⟩
  have xX:Ext X X1:=by rw [hX1];exact Ext.var wX 5 _ _
  have rq:X1.heap.get X.next=some (.row 0 5 [x.enc]):=by rw [hX1];exact Tr.get_put_sameB _ _ _ trivial
  have hla:=hwd.lt
  have rr2:∀ {Y:St},AM.But 1 X1 Y→aB Y X.next 0=.ok (5,[x.enc]):=fun {Y} bt=>bS (bt.old _ _ (by omega) rq)
  simp only [Rate.enc] at hX1 rr2
  have r20:=rr2 (Y:=X1) AM.But.rfl'
  simp only [↓cw,↓reduceIte,Nat.reduceLT,kk,bP hi,if_true,uD hi,Rate.enc,←hX1,r20]
  refine g93 (xX.wf wX) (hwd.ext xX) (by omega) _ (by omega) fun Y1 c1' k1=>?_
  simp only [↓cw,↓reduceIte,Nat.reduceLT,kk,rr2 c1']
  refine g94 (c1'.wf (xX.wf wX)) k1 (by rw [List.length_append];omega) x.day hx.2.1 fun Y2 c2' k2=>?_
  have c2:=c1'.trans c2'
  simp only [↓cw,↓reduceIte,Nat.reduceLT,kk,rr2 c2,aCu,lH (show i<1000000000 by omega)]
  exact lX (c2.wf (xX.wf wX)) k2 [x.bp] (by simp only [List.length_append,List.length_cons,List.length_nil];omega) (pU hx.2.2 al0) fun Y3 c3' k3=>H _ ((bt.trans (AM.But.of xX)).trans (c2.trans c3')) (by simpa [tC] using k3)
 simp only [↓cw,↓reduceIte,Nat.reduceLT,kk,Int.lt_irrefl,if_false,rr bt,aCu]
 have z1:([]++cO [(s.table.length:Int)]++s.table.flatMap tC).length≤2746:=by simp only [List.length_append,List.length_nil];omega
 generalize hB1:([]++cO [(s.table.length:Int)]++s.table.flatMap tC:List UInt8)=B1 at hwd z1
 refine lX (wf bt) hwd [(s.ser.length:Int)] (by simp;omega) (pU (aC9 (by omega)) al0) fun S2 b2' h2=>?_
 have b2:=bt.trans b2'
 clear hwd
 simp only [↓cw,↓reduceIte,Nat.reduceLT,kk,rr b2]
 refine aGc aD0 s.ser (X0:=S0) (B:=94) (fun r hr=>aNj (ok.s2 r hr)) b2 h2 (fun i x d X hi bt hwd hd aD H=>?_) fun X aD bt hwd=>?_
 ·have hil:=(List.getElem?_eq_some_iff.1 hi).1
  have hx:=ok.s2 x (List.mem_of_getElem? hi)
  have wX:=wf bt
  have q1:=jN x.name (by omega)
  have hd':d.length≤10000:=by rw [List.length_append] at hd;omega
  obtain ⟨X1,hX1⟩:∃ X1:St,X1=⟨X.next+1,(X.heap.put X.next (.row 0 4 [[.str [],.int .i64 0,.int .i64 0,.bool false]])).put X.next (.row 0 4 [x.enc])⟩:=⟨_,rfl⟩
  have xX:Ext X X1:=by rw [hX1];exact Ext.var wX 4 _ _
  have rq:X1.heap.get X.next=some (.row 0 4 [x.enc]):=by rw [hX1];exact Tr.get_put_sameB _ _ _ trivial
  have hla:=hwd.lt
  have rr2:∀ {Y:St},AM.But 1 X1 Y→aB Y X.next 0=.ok (4,[x.enc]):=fun {Y} bt=>bS (bt.old _ _ (by omega) rq)
  simp only [Ser.enc] at hX1 rr2
  have r20:=rr2 (Y:=X1) AM.But.rfl'
  simp only [↓cw,↓reduceIte,Nat.reduceLT,kk,bP hi,if_true,rL hi,Ser.enc,←hX1,r20]
  refine g93 (xX.wf wX) (hwd.ext xX) (by omega) _ (by omega) fun Y1 c1' k1=>?_
  simp only [↓cw,↓reduceIte,Nat.reduceLT,kk,rr2 c1',aCu]
  refine lX (c1'.wf (xX.wf wX)) k1 [x.limit] (by simp only [List.length_append,List.length_cons,List.length_nil];omega) (pU hx.2 al0) fun Y2 c2' k2=>?_
  have c2:=c1'.trans c2'
  have q2:=pF hx.2
  simp only [↓cw,↓reduceIte,Nat.reduceLT,kk,rr2 c2,lH (show i<1000000000 by omega)]
  exact g95 (c2.wf (xX.wf wX)) k2 (by simp only [List.length_append];omega) x.shut fun Y3 c3' k3=>H _ ((bt.trans (AM.But.of xX)).trans (c2.trans c3')) (by simpa [aD0] using k3)
 simp only [↓cw,↓reduceIte,Nat.reduceLT,kk,Int.lt_irrefl,if_false,rr bt,aCu]
 have z2:(B1++cO [(s.ser.length:Int)]++s.ser.flatMap aD0).length≤3508:=by simp only [List.length_append];omega
 generalize hB2:(B1++cO [(s.ser.length:Int)]++s.ser.flatMap aD0:List UInt8)=B2 at hwd z2
 refine lX (wf bt) hwd [(s.posted.length:Int)] (by simp;omega) (pU (aC9 (by omega)) al0) fun S3 b3' h3=>?_
 have b3:=bt.trans b3'
 clear hwd
 simp only [↓cw,↓reduceIte,Nat.reduceLT,kk,rr b3]
 refine aGc mP s.posted (X0:=S0) (B:=1326) (fun r hr=>aEt (ok.p2 r hr)) b3 h3 (fun i x d X hi bt hwd hd aD H=>?_) fun X aD bt hwd=>?_
 ·have hil:=(List.getElem?_eq_some_iff.1 hi).1
  have hx:=ok.p2 x (List.mem_of_getElem? hi)
  have wX:=wf bt
  have hd':d.length≤70000:=by rw [List.length_append] at hd;omega
  obtain ⟨X1,hX1⟩:∃ X1:St,X1=⟨X.next+1,(X.heap.put X.next (.row 0 12 [aHo])).put X.next (.row 0 12 [x.enc])⟩:=⟨_,rfl⟩
  have xX:Ext X X1:=by rw [hX1];exact Ext.var wX 12 _ _
  have rq:X1.heap.get X.next=some (.row 0 12 [x.enc]):=by rw [hX1];exact Tr.get_put_sameB _ _ _ trivial
  have hla:=hwd.lt
  have rr2:∀ {Y:St},AM.But 1 X1 Y→aB Y X.next 0=.ok (12,[x.enc]):=fun {Y} bt=>bS (bt.old _ _ (by omega) rq)
  simp only [Posted.enc] at hX1 rr2
  have r20:=rr2 (Y:=X1) AM.But.rfl'
  simp only [aHo] at hX1
  simp only [↓cw,↓reduceIte,Nat.reduceLT,kk,bP hi,if_true,pB hi,Posted.enc,←hX1,r20,lH (show i<1000000000 by omega)]
  exact g96 (xX.wf wX) (hwd.ext xX) (by omega) x hx fun Y3 c3' k3=>H _ ((bt.trans (AM.But.of xX)).trans c3') k3
 simp only [↓cw,↓reduceIte,Nat.reduceLT,kk,Int.lt_irrefl,if_false,rr bt,aCu]
 have z3:(B2++cO [(s.posted.length:Int)]++s.posted.flatMap mP).length≤60000:=by simp only [List.length_append];omega
 generalize hB3:(B2++cO [(s.posted.length:Int)]++s.posted.flatMap mP:List UInt8)=B3 at hwd z3
 refine lX (wf bt) hwd [(s.sess.length:Int)] (by simp;omega) (pU (aC9 (by omega)) al0) fun S4 b4' h4=>?_
 have b4:=bt.trans b4'
 clear hwd
 simp only [↓cw,↓reduceIte,Nat.reduceLT,kk,rr b4]
 refine aGc aCa s.sess (X0:=S0) (B:=50) (fun r hr=>aIm (ok.e2 r hr)) b4 h4 (fun i x d X hi bt hwd hd aD H=>?_) fun X aD bt hwd=>?_
 ·have hil:=(List.getElem?_eq_some_iff.1 hi).1
  have hx:=ok.e2 x (List.mem_of_getElem? hi)
  have wX:=wf bt
  have hd':d.length≤70000:=by rw [List.length_append] at hd;omega
  obtain ⟨X1,hX1⟩:∃ X1:St,X1=⟨X.next+1,(X.heap.put X.next (.row 0 5 [[.int .i64 0,.int .i64 0,.int .i64 0,.int .i64 0,.int .i64 0]])).put X.next (.row 0 5 [x.enc])⟩:=⟨_,rfl⟩
  have xX:Ext X X1:=by rw [hX1];exact Ext.var wX 5 _ _
  have rq:X1.heap.get X.next=some (.row 0 5 [x.enc]):=by rw [hX1];exact Tr.get_put_sameB _ _ _ trivial
  have hla:=hwd.lt
  have rr2:∀ {Y:St},AM.But 1 X1 Y→aB Y X.next 0=.ok (5,[x.enc]):=fun {Y} bt=>bS (bt.old _ _ (by omega) rq)
  simp only [Sess.enc] at hX1 rr2
  have r20:=rr2 (Y:=X1) AM.But.rfl'
  simp only [↓cw,↓reduceIte,Nat.reduceLT,kk,bP hi,if_true,rM hi,Sess.enc,←hX1,r20,bMe,lH (show i<1000000000 by omega)]
  exact lX (xX.wf wX) (hwd.ext xX) [x.id,x.last,x.reply.why,x.reply.number,x.reply.gross] (by simp;omega) (pU hx.1 (pU hx.2.1 (pU hx.2.2.1 (pU hx.2.2.2.1 (pU hx.2.2.2.2 al0))))) fun Y3 c3' k3=>H _ ((bt.trans (AM.But.of xX)).trans c3') k3
 simp only [↓cw,↓reduceIte,Nat.reduceLT,kk,Int.lt_irrefl,if_false,rr bt,aCu]
 refine lX (wf bt) hwd [s.next] (by simp only [List.length_append,List.length_cons,List.length_nil];omega) (pU ok.n al0) fun S5 b5' h5=>?_
 obtain ⟨v,hg,hv,hk,ha⟩:=h5
 have hfin:B3++cO [(s.sess.length:Int)]++s.sess.flatMap aCa++cO [s.next]=R:=by rw [hR,←hB3,←hB2,←hB1];simp [aCb]
 rw [hfin] at hv
 have r5:=bS hg
 simp only [↓cw,↓reduceIte,Nat.reduceLT,kk,r5,oo]
 exact hv.out fun _=>rfl
theorem Rate.same_iff (a b:Rate):(a=b)=(b.cat=a.cat∧b.day.y=a.day.y∧b.day.m=a.day.m∧b.day.d=a.day.d∧b.bp=a.bp):=by
 obtain ⟨_,⟨_,_,_⟩,_⟩:=a;obtain ⟨_,⟨_,_,_⟩,_⟩:=b;simp [and_assoc,eq_comm]
theorem Ser.same_iff (a b:Ser):(a=b)=(b.name=a.name∧b.next=a.next∧b.limit=a.limit∧b.shut=a.shut):=by
 obtain ⟨_,_,_,_⟩:=a;obtain ⟨_,_,_,_⟩:=b;simp [and_assoc,eq_comm]
theorem Bal.same_iff (a b:Bal):(a=b)=(b.acc=a.acc∧b.amount=a.amount):=by
 obtain ⟨_,_⟩:=a;obtain ⟨_,_⟩:=b;simp [and_assoc,eq_comm]
theorem Sess.same_iff (a b:Sess):(a=b)=(b.id=a.id∧b.last=a.last∧b.reply.why=a.reply.why∧b.reply.number=a.reply.number∧b.reply.gross=a.reply.gross):=by
 obtain ⟨_,_,⟨_,_,_⟩⟩:=a;obtain ⟨_,_,⟨_,_,_⟩⟩:=b;simp [and_assoc,eq_comm]
theorem Part.same_iff (a b:Part):(a=b)=(b.cat=a.cat∧b.bp=a.bp∧b.net=a.net∧b.tax=a.tax):=by
 obtain ⟨_,_,_,_⟩:=a;obtain ⟨_,_,_,_⟩:=b;simp [and_assoc,eq_comm]
theorem g80 (l r:List Rate) (hb:l.length<1000000) (S:St) (K:KW):C 80 [.imm (l.map Rate.enc),.imm (r.map Rate.enc)] S K=K (.bool (decide (l=r))) S:=by
 refine (v80 rfl ?_).eq S K
 delta Tryz.f80;simp only [↓cw,↓reduceIte,Nat.reduceLT,kk]
 by_cases h:l.length=r.length
 ·simp only [↓cw,↓reduceIte,Nat.reduceLT,show (l.length:Int)=(r.length:Int) by omega,kk,not_true_eq_false,if_false]
  refine aH l (step:=dW r) (fin:=fun _=>true) (fun i n vs S=>n=i∧vs=[.bool false,.int .i64 (i:Int)]) (fun x=>x=decide (l=r)) ?_ ?_ (s:=0) ⟨rfl,rfl⟩ (eqL h)
  ·rintro i p n vs S hi ⟨rfl,rfl⟩ aD H
   have hil:=(List.getElem?_eq_some_iff.1 hi).1
   have hj:r[n]?=some r[n]:=List.getElem?_eq_getElem (by omega)
   have hlt:((n:Int)<(r.length:Int))=True:=bP hj
   simp only [dW,hj,Option.some.injEq,Rate.same_iff] at H
   simp only [↓cw,↓reduceIte,Nat.reduceLT,kk,bP hi,hlt,uD hi,uD hj,Rate.enc,lH (show n<1000000000 by omega),oo]
   grind
  ·rintro n vs S ⟨rfl,rfl⟩ aD H
   simp only [↓cw,↓reduceIte,Nat.reduceLT,kk,h,Int.lt_irrefl,if_false,oo,←H]
 ·simp only [↓cw,↓reduceIte,Nat.reduceLT,show ¬ (l.length:Int)=(r.length:Int) by omega,kk,not_false_eq_true,if_true,oo]
  have:decide (l=r)=false:=by simpa using fun e=>h (by rw [e])
  rw [this]
theorem g81 (l r:List Ser) (hb:l.length<1000000) (S:St) (K:KW):C 81 [.imm (l.map Ser.enc),.imm (r.map Ser.enc)] S K=K (.bool (decide (l=r))) S:=by
 refine (v81 rfl ?_).eq S K
 delta Tryz.f81;simp only [↓cw,↓reduceIte,Nat.reduceLT,kk]
 by_cases h:l.length=r.length
 ·simp only [↓cw,↓reduceIte,Nat.reduceLT,show (l.length:Int)=(r.length:Int) by omega,kk,not_true_eq_false,if_false]
  refine aH l (step:=dW r) (fin:=fun _=>true) (fun i n vs S=>n=i∧vs=[.bool false,.int .i64 (i:Int)]) (fun x=>x=decide (l=r)) ?_ ?_ (s:=0) ⟨rfl,rfl⟩ (eqL h)
  ·rintro i p n vs S hi ⟨rfl,rfl⟩ aD H
   have hil:=(List.getElem?_eq_some_iff.1 hi).1
   have hj:r[n]?=some r[n]:=List.getElem?_eq_getElem (by omega)
   have hlt:((n:Int)<(r.length:Int))=True:=bP hj
   simp only [dW,hj,Option.some.injEq,Ser.same_iff] at H
   simp only [↓cw,↓reduceIte,Nat.reduceLT,kk,bP hi,hlt,rL hi,rL hj,Ser.enc,lH (show n<1000000000 by omega),oo]
   grind
  ·rintro n vs S ⟨rfl,rfl⟩ aD H
   simp only [↓cw,↓reduceIte,Nat.reduceLT,kk,h,Int.lt_irrefl,if_false,oo,←H]
 ·simp only [↓cw,↓reduceIte,Nat.reduceLT,show ¬ (l.length:Int)=(r.length:Int) by omega,kk,not_false_eq_true,if_true,oo]
  have:decide (l=r)=false:=by simpa using fun e=>h (by rw [e])
  rw [this]
theorem g83 (l r:List Bal) (hb:l.length<1000000) (S:St) (K:KW):C 83 [.imm (l.map Bal.enc),.imm (r.map Bal.enc)] S K=K (.bool (decide (l=r))) S:=by
 refine (v83 rfl ?_).eq S K
 delta Tryz.f83;simp only [↓cw,↓reduceIte,Nat.reduceLT,kk]
 by_cases h:l.length=r.length
 ·simp only [↓cw,↓reduceIte,Nat.reduceLT,show (l.length:Int)=(r.length:Int) by omega,kk,not_true_eq_false,if_false]
  refine aH l (step:=dW r) (fin:=fun _=>true) (fun i n vs S=>n=i∧vs=[.bool false,.int .i64 (i:Int)]) (fun x=>x=decide (l=r)) ?_ ?_ (s:=0) ⟨rfl,rfl⟩ (eqL h)
  ·rintro i p n vs S hi ⟨rfl,rfl⟩ aD H
   have hil:=(List.getElem?_eq_some_iff.1 hi).1
   have hj:r[n]?=some r[n]:=List.getElem?_eq_getElem (by omega)
   have hlt:((n:Int)<(r.length:Int))=True:=bP hj
   simp only [dW,hj,Option.some.injEq,Bal.same_iff] at H
   simp only [↓cw,↓reduceIte,Nat.reduceLT,kk,bP hi,hlt,yR hi,yR hj,Bal.enc,lH (show n<1000000000 by omega),oo]
   grind
  ·rintro n vs S ⟨rfl,rfl⟩ aD H
   simp only [↓cw,↓reduceIte,Nat.reduceLT,kk,h,Int.lt_irrefl,if_false,oo,←H]
 ·simp only [↓cw,↓reduceIte,Nat.reduceLT,show ¬ (l.length:Int)=(r.length:Int) by omega,kk,not_false_eq_true,if_true,oo]
  have:decide (l=r)=false:=by simpa using fun e=>h (by rw [e])
  rw [this]
theorem g84 (l r:List Sess) (hb:l.length<1000000) (S:St) (K:KW):C 84 [.imm (l.map Sess.enc),.imm (r.map Sess.enc)] S K=K (.bool (decide (l=r))) S:=by
 refine (v84 rfl ?_).eq S K
 delta Tryz.f84;simp only [↓cw,↓reduceIte,Nat.reduceLT,kk]
 by_cases h:l.length=r.length
 ·simp only [↓cw,↓reduceIte,Nat.reduceLT,show (l.length:Int)=(r.length:Int) by omega,kk,not_true_eq_false,if_false]
  refine aH l (step:=dW r) (fin:=fun _=>true) (fun i n vs S=>n=i∧vs=[.bool false,.int .i64 (i:Int)]) (fun x=>x=decide (l=r)) ?_ ?_ (s:=0) ⟨rfl,rfl⟩ (eqL h)
  ·rintro i p n vs S hi ⟨rfl,rfl⟩ aD H
   have hil:=(List.getElem?_eq_some_iff.1 hi).1
   have hj:r[n]?=some r[n]:=List.getElem?_eq_getElem (by omega)
   have hlt:((n:Int)<(r.length:Int))=True:=bP hj
   simp only [dW,hj,Option.some.injEq,Sess.same_iff] at H
   simp only [↓cw,↓reduceIte,Nat.reduceLT,kk,bP hi,hlt,rM hi,rM hj,Sess.enc,lH (show n<1000000000 by omega),oo]
   grind
  ·rintro n vs S ⟨rfl,rfl⟩ aD H
   simp only [↓cw,↓reduceIte,Nat.reduceLT,kk,h,Int.lt_irrefl,if_false,oo,←H]
 ·simp only [↓cw,↓reduceIte,Nat.reduceLT,show ¬ (l.length:Int)=(r.length:Int) by omega,kk,not_false_eq_true,if_true,oo]
  have:decide (l=r)=false:=by simpa using fun e=>h (by rw [e])
  rw [this]
theorem bMf (l r:List Part) (hb:l.length<1000000) (S:St) (K:KW):C 224 [.imm (l.map Part.enc),.imm (r.map Part.enc)] S K=K (.bool (decide (l=r))) S:=by
 refine (bJd rfl ?_).eq S K
 delta Tryz.f224;simp only [↓cw,↓reduceIte,Nat.reduceLT,kk]
 by_cases h:l.length=r.length
 ·simp only [↓cw,↓reduceIte,Nat.reduceLT,show (l.length:Int)=(r.length:Int) by omega,kk,not_true_eq_false,if_false]
  refine aH l (step:=dW r) (fin:=fun _=>true) (fun i n vs S=>n=i∧vs=[.bool false,.int .i64 (i:Int)]) (fun x=>x=decide (l=r)) ?_ ?_ (s:=0) ⟨rfl,rfl⟩ (eqL h)
  ·rintro i p n vs S hi ⟨rfl,rfl⟩ aD H
   have hil:=(List.getElem?_eq_some_iff.1 hi).1
   have hj:r[n]?=some r[n]:=List.getElem?_eq_getElem (by omega)
   have hlt:((n:Int)<(r.length:Int))=True:=bP hj
   simp only [dW,hj,Option.some.injEq,Part.same_iff] at H
   simp only [↓cw,↓reduceIte,Nat.reduceLT,kk,bP hi,hlt,pA hi,pA hj,Part.enc,lH (show n<1000000000 by omega),oo]
   grind
  ·rintro n vs S ⟨rfl,rfl⟩ aD H
   simp only [↓cw,↓reduceIte,Nat.reduceLT,kk,h,Int.lt_irrefl,if_false,oo,←H]
 ·simp only [↓cw,↓reduceIte,Nat.reduceLT,show ¬ (l.length:Int)=(r.length:Int) by omega,kk,not_false_eq_true,if_true,oo]
  have:decide (l=r)=false:=by simpa using fun e=>h (by rw [e])
  rw [this]
theorem bMg (a b:Total) (hb:a.parts.length<1000000) (S:St) (K:KW):C 162 [.agg [.int .i64 a.net,.int .i64 a.tax,.int .i64 a.gross,.imm (a.parts.map Part.enc)],.agg [.int .i64 b.net,.int .i64 b.tax,.int .i64 b.gross,.imm (b.parts.map Part.enc)]] S K=K (.bool (decide (a=b))) S:=by
 refine (bIk rfl ?_).eq S K
 delta Tryz.f162;simp only [↓cw,↓reduceIte,Nat.reduceLT,kk,gZ,gm,bMf a.parts b.parts hb,Total.ext_iff,oo]
 grind
theorem Posted.same_iff (a b:Posted):(a=b)=(b.ref=a.ref∧b.day=a.day∧b.of=a.of∧b.back=a.back∧b.total=a.total):=by
 obtain ⟨_,_,_,_,_⟩:=a;obtain ⟨_,_,_,_,_⟩:=b;simp only [Posted.mk.injEq,eq_iff_iff]
 constructor
 ·rintro ⟨rfl,rfl,rfl,rfl,rfl⟩;exact ⟨rfl,rfl,rfl,rfl,rfl⟩
 ·rintro ⟨rfl,rfl,rfl,rfl,rfl⟩;exact ⟨rfl,rfl,rfl,rfl,rfl⟩
theorem Date.same_iff (a b:Date):(a=b)=(a.y=b.y∧a.m=b.m∧a.d=b.d):=by obtain ⟨_,_,_⟩:=a;obtain ⟨_,_,_⟩:=b;simp
theorem g82 (l r:List Posted) (hb:l.length<1000000) (hq:∀ p∈l,p.total.parts.length<1000000) (S:St) (K:KW):C 82 [.imm (l.map Posted.enc),.imm (r.map Posted.enc)] S K=K (.bool (decide (l=r))) S:=by
 refine (v82 rfl ?_).eq S K
 delta Tryz.f82;simp only [↓cw,↓reduceIte,Nat.reduceLT,kk]
 by_cases h:l.length=r.length
 ·simp only [↓cw,↓reduceIte,Nat.reduceLT,show (l.length:Int)=(r.length:Int) by omega,kk,not_true_eq_false,if_false]
  refine aH l (step:=dW r) (fin:=fun _=>true) (fun i n vs S=>n=i∧vs=[.bool false,.int .i64 (i:Int)]) (fun x=>x=decide (l=r)) ?_ ?_ (s:=0) ⟨rfl,rfl⟩ (eqL h)
  ·rintro i p n vs S hi ⟨rfl,rfl⟩ aD H
   have hil:=(List.getElem?_eq_some_iff.1 hi).1
   have hj:r[n]?=some r[n]:=List.getElem?_eq_getElem (by omega)
   have hlt:((n:Int)<(r.length:Int))=True:=bP hj
   generalize r[n]=q at hj
   simp only [dW,hj,Option.some.injEq,Posted.same_iff q p] at H
   simp only [↓cw,↓reduceIte,Nat.reduceLT,kk,gm,bP hi,hlt,if_true,pB hi,pB hj,Posted.enc,bMg p.total q.total (hq p (List.mem_of_getElem? hi)),lH (show n<1000000000 by omega),aE2]
   by_cases c1:p.ref=q.ref
   rotate_left
   ·have c':(!(p.ref.ser == q.ref.ser&&decide (p.ref.num=q.ref.num)))=true:=by rw [Ref.ext_iff] at c1;simp;exact Decidable.not_and_iff_or_not.1 c1
    rw [if_neg (fun h=>c1 h.1)] at H
    have H:false=decide (l=r):=H
    rw [if_pos c',←H]
   have c':¬ (!(p.ref.ser == q.ref.ser&&decide (p.ref.num=q.ref.num)))=true:=by rw [c1];simp
   rw [if_neg c']
   by_cases c2:p.day=q.day
   rotate_left
   ·rw [if_neg (fun h=>c2 h.2.1)] at H
    have H:false=decide (l=r):=H
    rw [Date.same_iff] at c2
    rw [if_pos (by simp;grind),←H]
   rw [if_neg (by rw [c2];simp)]
   by_cases c3:p.of=q.of
   rotate_left
   ·rw [if_neg (fun h=>c3 h.2.2.1)] at H
    have H:false=decide (l=r):=H
    rw [Ref.ext_iff] at c3
    rw [if_pos (by simp;grind),←H]
   rw [if_neg (by rw [c3];simp)]
   by_cases c4:p.back=q.back
   rotate_left
   ·rw [if_neg (fun h=>c4 h.2.2.2.1)] at H
    have H:false=decide (l=r):=H
    rw [if_pos (by simpa using c4),←H]
   rw [if_neg (by rw [c4];simp)]
   by_cases c5:p.total=q.total
   ·rw [if_pos ⟨c1,c2,c3,c4,c5⟩] at H
    rw [if_neg (by simp [c5])]
    exact H _ _ ⟨rfl,rfl⟩
   ·rw [if_neg (fun h=>c5 h.2.2.2.2)] at H
    have H:false=decide (l=r):=H
    rw [if_pos (by simpa using c5),←H]
  ·rintro n vs S ⟨rfl,rfl⟩ aD H
   simp only [↓cw,↓reduceIte,Nat.reduceLT,kk,h,Int.lt_irrefl,if_false,oo,←H]
 ·simp only [↓cw,↓reduceIte,Nat.reduceLT,show ¬ (l.length:Int)=(r.length:Int) by omega,kk,not_false_eq_true,if_true,oo]
  have:decide (l=r)=false:=by simpa using fun e=>h (by rw [e])
  rw [this]
theorem State.same_iff (a b:State):(a=b)=(a.table=b.table∧a.ser=b.ser∧a.posted=b.posted∧a.book=b.book∧a.sess=b.sess∧a.next=b.next):=by
 obtain ⟨_,_,_,_,_,_⟩:=a;obtain ⟨_,_,_,_,_,_⟩:=b;simp
def wW (a b:State):Bool:=decide (a.table=b.table)&&(decide (a.ser=b.ser)&&(decide (a.posted=b.posted)&&(decide (a.book=b.book)&&(decide (a.sess=b.sess)&&decide (a.next=b.next)))))
theorem aPf (a b:State):wW a b=true↔a=b:=by
 rw [State.same_iff];unfold wW;simp
structure SmlS (s:State):Prop where
 tab:s.table.length<1000000
 ser:s.ser.length<1000000
 post:s.posted.length<1000000
 parts:∀ p∈s.posted,p.total.parts.length<1000000
 book:s.book.length<1000000
 sess:s.sess.length<1000000
theorem g22 (a b:State) (h:SmlS a) (S:St) (K:KW):C 22 [.agg [.imm (a.table.map Rate.enc),.imm (a.ser.map Ser.enc),.imm (a.posted.map Posted.enc),.imm (a.book.map Bal.enc),.imm (a.sess.map Sess.enc),.int .i64 a.next],.agg [.imm (b.table.map Rate.enc),.imm (b.ser.map Ser.enc),.imm (b.posted.map Posted.enc),.imm (b.book.map Bal.enc),.imm (b.sess.map Sess.enc),.int .i64 b.next]] S K=K (.bool (wW a b)) S:=by
 refine (v22 rfl ?_).eq S K
 delta Tryz.f22;simp only [↓cw,↓reduceIte,Nat.reduceLT,kk,gZ,gm,g80 a.table b.table h.tab,g81 a.ser b.ser h.ser,g82 a.posted b.posted h.post h.parts,g83 a.book b.book h.book,g84 a.sess b.sess h.sess,wW]
 by_cases c1:a.table=b.table
 rotate_left
 ·simp only [c1,if_false,decide_false,Bool.false_and,oo]
 by_cases c2:a.ser=b.ser
 rotate_left
 ·simp only [c1,c2,if_true,if_false,decide_false,decide_true,Bool.false_and,Bool.true_and,oo]
 by_cases c3:a.posted=b.posted
 rotate_left
 ·simp only [c1,c2,c3,if_true,if_false,decide_false,decide_true,Bool.false_and,Bool.true_and,oo]
 by_cases c4:a.book=b.book
 rotate_left
 ·simp only [c1,c2,c3,c4,if_true,if_false,decide_false,decide_true,Bool.false_and,Bool.true_and,oo]
 by_cases c5:a.sess=b.sess
 rotate_left
 ·simp only [c1,c2,c3,c4,c5,if_true,if_false,decide_false,decide_true,Bool.false_and,Bool.true_and,oo]
 simp only [c1,c2,c3,c4,c5,if_true,decide_true,Bool.true_and,oo]
theorem aUi {l:List UInt8} {i:Nat} {a:UInt8} (hi:l[i]?=some a) (k:IntKind):gF 1 (.imm (l.map wY)) (.int k (i:Int))=.ok (.iptr (wY a) 0):=ixI (enc:=wY) hi rfl k
theorem bBr (a b:UInt8):(a=b)=((a.toNat:Int)=(b.toNat:Int)):=by
 refine propext ⟨fun h=>by rw [h],fun h=>UInt8.toNat_inj.1 (by omega)⟩
theorem g27 (l r:List UInt8) (hb:l.length<1000000000) (S:St) (K:KW):C 27 [.imm (l.map wY),.imm (r.map wY)] S K=K (.bool (decide (l=r))) S:=by
 refine (v27 rfl ?_).eq S K
 delta Tryz.f27;simp only [↓cw,↓reduceIte,Nat.reduceLT,kk]
 by_cases h:l.length=r.length
 ·simp only [↓cw,↓reduceIte,Nat.reduceLT,show (l.length:Int)=(r.length:Int) by omega,kk,not_true_eq_false,if_false]
  refine aH l (step:=dW r) (fin:=fun _=>true) (fun i n vs S=>n=i∧vs=[.bool false,.int .i64 (i:Int)]) (fun x=>x=decide (l=r)) ?_ ?_ (s:=0) ⟨rfl,rfl⟩ (eqL h)
  ·rintro i p n vs S hi ⟨rfl,rfl⟩ aD H
   have hil:=(List.getElem?_eq_some_iff.1 hi).1
   have hj:r[n]?=some r[n]:=List.getElem?_eq_getElem (by omega)
   have hlt:((n:Int)<(r.length:Int))=True:=bP hj
   simp only [dW,hj,Option.some.injEq,bBr] at H
   simp only [↓cw,↓reduceIte,Nat.reduceLT,kk,bP hi,hlt,aUi hi,aUi hj,wY,lH (show n<1000000000 by omega),oo]
   grind
  ·rintro n vs S ⟨rfl,rfl⟩ aD H
   simp only [↓cw,↓reduceIte,Nat.reduceLT,kk,h,Int.lt_irrefl,if_false,oo,←H]
 ·simp only [↓cw,↓reduceIte,Nat.reduceLT,show ¬ (l.length:Int)=(r.length:Int) by omega,kk,not_false_eq_true,if_true,oo]
  have:decide (l=r)=false:=by simpa using fun e=>h (by rw [e])
  rw [this]
theorem bMh:tV 25=some (.spec (Sp.told.run prog)):=by kernel_rfl
theorem g25 (S:St) (K:KW):C 25 [] S K=K (.bool true) S:=aJc bMh rfl K
structure After (s:State):Prop where
 beh:Beh s
 rep:RepI s
theorem After.new:After State.new:=⟨Beh.new,RepI.new⟩
theorem After.play {s:State} (h:After s) (l:List Call):After (playM s l).1:=⟨h.beh.playM l,RepI.playM h.beh h.rep l⟩
theorem After.img {s:State} (h:After s):ImgOK s:=ImgOK.of (aKs h.beh.right h.beh.ints h.rep)
theorem After.smlS {s:State} (h:After s):SmlS s:=by
 obtain ⟨h1,h2,h3,h4,h5,h6,_⟩:=rH h.beh.right
 exact ⟨by omega,by omega,by omega,fun p hp=>by have:=h6 p hp;omega,by omega,by omega⟩
theorem g16 (l m:List Call) (S:St) (K:KW):C 16 [.imm (l.map Call.enc),.imm (m.map Call.enc)] S K=K (.bool true) S:=by
 refine (v16 (by simp only [cloVs,tS,cI (enc:=Call.enc) (fun _=>rfl),Bool.and_self]) ?_).eq S K
 have h30:=fun l S K=>g30 l 60 (by decide) S K
 simp only [show ((60:Nat):Int)=60 from rfl] at h30
 obtain ⟨s,hs⟩:∃ s,s=(playM State.new (pT l 60)).1:=⟨_,rfl⟩
 obtain ⟨t,ht⟩:∃ t,t=(playM State.new (pT m 60)).1:=⟨_,rfl⟩
 have A:After s:=by rw [hs];exact After.new.play _
 have B:After t:=by rw [ht];exact After.new.play _
 have h35:=fun S K=>a35 l 60 (by decide) S K
 have k35:=fun S K=>a35 m 60 (by decide) S K
 simp only [←hs] at h35
 simp only [←ht] at k35
 have hln:=aWo A.beh.right A.beh.ints A.rep
 have h28:=fun S K=>g28 s (fun _=>A.img) S K
 have k28:=fun S K=>g28 t (fun _=>B.img) S K
 have h27:=fun S K=>g27 (fQ s) (fQ t) (by omega) S K
 have h22:=fun S K=>g22 s t A.smlS S K
 have e:decide (fQ s=fQ t)=wW s t:=by
  rw [Bool.eq_iff_iff,decide_eq_true_eq,aPf]
  exact ⟨aWn A.beh.right A.beh.ints A.rep B.beh.right B.beh.ints B.rep,fun h=>by rw [h]⟩
 delta Tryz.f16;simp only [↓cw,↓reduceIte,Nat.reduceLT,kk,gZ,gm,g31,h30,h35,k35,h28,k28,h27,h22,g25]
 rw [if_pos (by omega),if_pos (by omega),e]
 have hb:bK prog .eql 4 (.bool (wW s t)) (.bool (wW s t))=.ok (.bool (wW s t == wW s t)):=congrFun (congrFun aP6 _) _
 simp only [hb,BEq.rfl]
 trivial
end Go.Proofs.YtoaibmbldmckaaaGreat
end
