import Derived.Test.YtoaibmbldmckaaaGreatX3
set_option linter.unusedSimpArgs false
set_option linter.unusedVariables false
set_option linter.unusedSectionVars false
set_option maxRecDepth 100000
section
namespace Go.Proofs.YtoaibmbldmckaaaGreat
open Go.AM Tryz
theorem aDv:∀ a,fU a a=false
 | []=>rfl
 | x::a=>by
  simp only [fU,cond_eq_ite]
  rw [if_neg (by simp [Nat.blt]),if_pos (by simp)]
  exact aDv a
theorem aDw (x y:UInt8) (a b:List UInt8):fU (x::a) (y::b)=true↔x.toNat<y.toNat∨x.toNat=y.toNat∧fU a b=true:=by
 simp only [fU,cond_eq_ite,Nat.blt_eq,Nat.beq_eq]
 split
 ·rename_i h;simp [h]
 ·rename_i h
  split
  ·rename_i h2;simp [h2]
  ·rename_i h2;simp [h,h2]
theorem jJ:∀ {a b c:List UInt8},fU a b=true→fU b c=true→fU a c=true
 | [],[],c,h,_=>by cases h
 | x::a,[],c,h,_=>by cases h
 | a,y::b,[],_,h=>by cases h
 | [],y::b,z::c,_,_=>rfl
 | x::a,y::b,z::c,h1,h2=>by
  rw [aDw] at *
  rcases h1 with h1 | ⟨h1,h3⟩<;>rcases h2 with h2 | ⟨h2,h4⟩
  ·exact .inl (by omega)
  ·exact .inl (by omega)
  ·exact .inl (by omega)
  ·exact .inr ⟨by omega,jJ h3 h4⟩
theorem aCc:∀ a b:List UInt8,fU a b=true∨a=b∨fU b a=true
 | [],[]=>.inr (.inl rfl)
 | [],y::b=>.inl rfl
 | x::a,[]=>.inr (.inr rfl)
 | x::a,y::b=>by
  rw [aDw,aDw]
  rcases Nat.lt_trichotomy x.toNat y.toNat with h | h | h
  ·exact .inl (.inl h)
  ·have hxy:x=y:=UInt8.toNat_inj.1 h
   rcases aCc a b with h2 | h2 | h2
   ·exact .inl (.inr ⟨h,h2⟩)
   ·exact .inr (.inl (by rw [hxy,h2]))
   ·exact .inr (.inr (.inr ⟨h.symm,h2⟩))
  ·exact .inr (.inr (.inl h))
theorem bEq {a b:List UInt8} (h:fU a b=true):a≠b:=fun e=>by subst e;rw [aDv] at h;cases h
theorem aB6 {σ ρ α:Type} {step:σ→α→ρ⊕σ} {fin:σ→ρ}:∀ (a b:List α) (s:σ),aE step fin (a++b) s=aE step (fun s=>aE step fin b s) a s
 | [],b,s=>rfl
 | x::a,b,s=>by
  simp only [List.cons_append,aE]
  split
  ·rfl
  ·exact aB6 a b _
theorem aB7 {α:Type} {step:Option α→α→Bool⊕Option α} {good:α→Prop} {R:α→α→Prop}
  (h2:∀ a p,¬ good a→step p a=.inl false) (h3:∀ p a,good a→R p a→step (some p) a=.inr (some a)) (h4:∀ p a,good a→¬ R p a→step (some p) a=.inl false)
  (tr:∀ a b c,R a b→R b c→R a c):∀ (l:List α) (p:α),aE step (fun _=>true) l (some p)=true↔(∀ a∈l,good a)∧(∀ a∈l,R p a)∧l.Pairwise R
 | [],p=>by simp [aE]
 | a::l,p=>by
  by_cases g:good a
  ·by_cases r:R p a
   ·simp only [aE,h3 p a g r]
    rw [aB7 h2 h3 h4 tr l a]
    simp only [List.mem_cons,List.pairwise_cons]
    constructor
    ·rintro ⟨q1,q2,q3⟩
     exact ⟨fun b hb=>hb.elim (fun e=>e▸g) (q1 b),fun b hb=>hb.elim (fun e=>e▸r) (fun hb=>tr _ _ _ r (q2 b hb)),q2,q3⟩
    ·rintro ⟨q1,q2,q3,q4⟩
     exact ⟨fun b hb=>q1 b (.inr hb),q3,q4⟩
   ·simp only [aE,h4 p a g r]
    constructor
    ·intro h;cases h
    ·rintro ⟨_,q2,_⟩;exact absurd (q2 a (List.mem_cons_self ..)) r
  ·simp only [aE,h2 a (some p) g]
   constructor
   ·intro h;cases h
   ·rintro ⟨q1,_,_⟩;exact absurd (q1 a (List.mem_cons_self ..)) g
theorem xD {α:Type} {step:Option α→α→Bool⊕Option α} {good:α→Prop} {R:α→α→Prop} (h1:∀ a,good a→step none a=.inr (some a))
  (h2:∀ a p,¬ good a→step p a=.inl false) (h3:∀ p a,good a→R p a→step (some p) a=.inr (some a)) (h4:∀ p a,good a→¬ R p a→step (some p) a=.inl false)
  (tr:∀ a b c,R a b→R b c→R a c):∀ (l:List α),aE step (fun _=>true) l none=true↔(∀ a∈l,good a)∧l.Pairwise R
 | []=>by simp [aE]
 | a::l=>by
  by_cases g:good a
  ·simp only [aE,h1 a g]
   rw [aB7 h2 h3 h4 tr l a]
   simp only [List.mem_cons,List.pairwise_cons]
   constructor
   ·rintro ⟨q1,q2,q3⟩
    exact ⟨fun b hb=>hb.elim (fun e=>e▸g) (q1 b),q2,q3⟩
   ·rintro ⟨q1,q3,q4⟩
    exact ⟨fun b hb=>q1 b (.inr hb),q3,q4⟩
  ·simp only [aE,h2 a none g]
   constructor
   ·intro h;cases h
   ·rintro ⟨q1,_⟩;exact absurd (q1 a (List.mem_cons_self ..)) g
theorem aId {a b c:Date} (h1:a.before b=true) (h2:b.before c=true):a.before c=true:=by
 unfold Date.before at *
 simp only [Bool.and_eq_true,decide_eq_true_eq] at *
 exact ⟨h1.1,h2.2.1,by omega⟩
theorem xE (a b:Rate):fR a b=true↔fU a.cat b.cat=true∨a.cat=b.cat∧a.day.before b.day=true:=by
 unfold fR
 split
 ·rename_i h;simp [h]
 ·rename_i h
  split
  ·rename_i h2;simp only [beq_iff_eq] at h2;exact ⟨fun q=>.inr ⟨h2,q⟩,fun q=>q.elim (fun q=>absurd q h) (·.2)⟩
  ·rename_i h2;simp only [beq_iff_eq] at h2;simp [h,h2]
theorem sA {a b c:Rate} (h1:fR a b=true) (h2:fR b c=true):fR a c=true:=by
 rw [xE] at *
 rcases h1 with h1 | ⟨e1,h1⟩<;>rcases h2 with h2 | ⟨e2,h2⟩
 ·exact .inl (jJ h1 h2)
 ·exact .inl (e2▸h1)
 ·exact .inl (e1▸h2)
 ·exact .inr ⟨e1.trans e2,aId h1 h2⟩
theorem nO (l:List Rate):gE l=true↔l.length≤24∧(∀ r∈l,wT r=0)∧l.Pairwise (fun a b=>fR a b=true):=by
 unfold gE
 split
 ·rename_i h;simp;omega
 ·rename_i h
  rw [xD (good:=fun r=>wT r=0) (R:=fun a b=>fR a b=true)]
  ·constructor
   ·intro q;exact ⟨by omega,q⟩
   ·intro q;exact q.2
  ·intro a g;simp only [jG,g,ne_eq,not_true_eq_false,if_false]
  ·intro a p g;simp only [jG,ne_eq,g,not_false_eq_true,if_true]
  ·intro p a g r;simp only [jG,g,ne_eq,not_true_eq_false,if_false,r,if_true]
  ·intro p a g r;simp only [jG,g,ne_eq,not_true_eq_false,if_false,r];rfl
  ·intro a b c;exact sA
theorem gB (l:List Ser):nZ l=true↔l.length≤8∧(∀ s∈l,dR s.name=true∧rP s=false)∧l.Pairwise (fun a b=>fU a.name b.name=true):=by
 unfold nZ
 split
 ·rename_i h;simp;omega
 ·rename_i h
  rw [xD (good:=fun s:Ser=>dR s.name=true∧rP s=false) (R:=fun a b=>fU a.name b.name=true)]
  ·constructor
   ·intro q;exact ⟨by omega,q⟩
   ·intro q;exact q.2
  ·intro a g;simp [oO,pT,g.1,g.2]
  ·intro a p g
   unfold oO
   split
   ·rfl
   ·split
    ·rfl
    ·split
     ·rfl
     ·rename_i h1 h2 h3
      exact absurd ⟨by simpa using h1,by simpa using h3⟩ g
  ·intro p a g r;simp [oO,pT,g.1,g.2,r]
  ·intro p a g r;simp [oO,pT,g.1,g.2,r]
  ·intro a b c;exact jJ
theorem bDh:∀ (l:List Sess) (last:Int),aE kC (fun _=>true) l last=true↔(∀ s∈l,last<s.id∧0≤s.last∧s.last≤1099511627776∧(s.last=0→s.reply=Rep.zero))∧l.Pairwise (fun a b=>a.id<b.id)
 | [],last=>by simp [aE]
 | s::l,last=>by
  by_cases g:last<s.id∧0≤s.last∧s.last≤1099511627776∧(s.last=0→s.reply=Rep.zero)
  ·have e:kC last s=.inr s.id:=by
    unfold kC
    rw [if_neg (by omega),if_neg (by omega),if_neg (by omega),if_neg (fun h=>h.2 (g.2.2.2 h.1))]
   simp only [aE,e]
   rw [bDh l s.id]
   simp only [List.mem_cons,List.pairwise_cons]
   constructor
   ·rintro ⟨q1,q2⟩
    exact ⟨fun b hb=>hb.elim (fun e=>e▸g) (fun hb=>⟨by have:=(q1 b hb).1;omega,(q1 b hb).2⟩),fun b hb=>(q1 b hb).1,q2⟩
   ·rintro ⟨q1,q2,q3⟩
    exact ⟨fun b hb=>⟨q2 b hb,(q1 b (.inr hb)).2⟩,q3⟩
  ·have e:kC last s=.inl false:=by
    unfold kC
    repeat' split
    all_goals first | rfl | skip
    rename_i h1 h2 h3 h4
    refine absurd ⟨by omega,by omega,by omega,fun h=>?_⟩ g
    by_cases c:s.reply=Rep.zero
    ·exact c
    ·exact absurd ⟨h,c⟩ h4
   simp only [aE,e]
   constructor
   ·intro h;cases h
   ·rintro ⟨q1,_⟩;exact absurd (q1 s (List.mem_cons_self ..)) g
theorem uW (l:List Sess):gH l=true↔l.length≤8∧(∀ s∈l,0<s.id∧0≤s.last∧s.last≤1099511627776∧(s.last=0→s.reply=Rep.zero))∧l.Pairwise (fun a b=>a.id<b.id):=by
 unfold gH
 split
 ·rename_i h;simp;omega
 ·rename_i h
  rw [bDh]
  exact ⟨fun q=>⟨by omega,q⟩,fun q=>q.2⟩
theorem uX {α:Type} (p:α→Bool):∀ (l:List α) (n:Nat),aE (fS p) id l n=n+(l.takeWhile p).length
 | [],n=>rfl
 | a::l,n=>by
  by_cases c:p a=true
  ·simp only [aE,fS,c,if_true,List.takeWhile_cons]
   rw [uX p l (n+1),List.length_cons];omega
  ·simp only [aE,fS,c,if_false,List.takeWhile_cons];rfl
theorem uY {α:Type} (p:α→Bool) (l:List α) (a:α):fL l (nL p l) a=l.takeWhile p++a::l.dropWhile p:=by
 unfold fL nL
 rw [uX,Nat.zero_add]
 have h1:l.take (l.takeWhile p).length=l.takeWhile p:=by
  have:=congrArg (List.take (l.takeWhile p).length) (List.takeWhile_append_dropWhile (p:=p) (l:=l)).symm
  rw [List.take_left'] at this
  ·exact this
  ·rfl
 have h2:l.drop (l.takeWhile p).length=l.dropWhile p:=by
  have:=congrArg (List.drop (l.takeWhile p).length) (List.takeWhile_append_dropWhile (p:=p) (l:=l)).symm
  rw [List.drop_left'] at this
  ·exact this
  ·rfl
 rw [h1,h2]
theorem pG {α:Type} {p:α→Bool}:∀ {l:List α} {a:α},a∈l.takeWhile p→p a=true∧a∈l
 | [],a,h=>by cases h
 | x::l,a,h=>by
  rw [List.takeWhile_cons] at h
  split at h
  ·rename_i c
   rcases List.mem_cons.1 h with rfl | h
   ·exact ⟨c,List.mem_cons_self ..⟩
   ·exact ⟨(pG h).1,List.mem_cons_of_mem _ (pG h).2⟩
  ·cases h
theorem sB {α:Type} {R:α→α→Prop} {p:α→Bool} {l:List α} {a:α} (hl:l.Pairwise R) (tr:∀ a b c,R a b→R b c→R a c) (h1:∀ x∈l,p x=true→R x a) (h2:∀ x∈l,p x=false→R a x):
  (l.takeWhile p++a::l.dropWhile p).Pairwise R:=by
 induction l with
 | nil=>simp
 | cons x l ih=>
  rw [List.pairwise_cons] at hl
  by_cases c:p x=true
  ·simp only [List.takeWhile_cons,List.dropWhile_cons,c,if_true,List.cons_append,List.pairwise_cons]
   refine ⟨fun b hb=>?_,ih hl.2 (fun y hy=>h1 y (List.mem_cons_of_mem _ hy)) (fun y hy=>h2 y (List.mem_cons_of_mem _ hy))⟩
   rcases List.mem_append.1 hb with hb | hb
   ·exact hl.1 b (pG hb).2
   ·rcases List.mem_cons.1 hb with rfl | hb
    ·exact h1 x (List.mem_cons_self ..) c
    ·exact hl.1 b (List.dropWhile_suffix p |>.mem hb)
  ·have c:p x=false:=by simpa using c
   simp only [List.takeWhile_cons,List.dropWhile_cons,c,Bool.false_eq_true,if_false,List.nil_append,List.pairwise_cons]
   refine ⟨fun b hb=>?_,hl⟩
   have hx:=h2 x (List.mem_cons_self ..) (by simpa using c)
   rcases List.mem_cons.1 hb with rfl | hb
   ·exact hx
   ·exact tr _ _ _ hx (hl.1 b hb)
theorem iH {α:Type} (l:List α) (i:Nat) (a x:α):x∈fL l i a↔x=a∨x∈l:=by
 unfold fL
 rw [List.mem_append,List.mem_cons]
 constructor
 ·rintro (h | h | h)
  ·exact .inr (List.mem_of_mem_take h)
  ·exact .inl h
  ·exact .inr (List.mem_of_mem_drop h)
 ·rintro (h | h)
  ·exact .inr (.inl h)
  ·rw [←List.take_append_drop i l,List.mem_append] at h
   exact h.elim .inl (fun h=>.inr (.inr h))
theorem aRl {n:Int} (h:I64 n):pR n=if n<0 then -n else n:=by
 unfold pR
 split
 ·rename_i c
  have h1:wr .u64 n=18446744073709551616+n:=by rw [aPl];omega
  rw [h1]
  have h2:aDi (18446744073709551616+n)=-n - 1:=by
   unfold aDi
   simp only [IntKind.signed,Bool.false_eq_true,if_false]
   have hm:(IntKind.u64.max:Int)=18446744073709551615:=by decide
   rw [hm]
   have hb:IntKind.u64.bits=64:=rfl
   rw [hb]
   have:(BitVec.ofInt 64 18446744073709551615 ^^^ BitVec.ofInt 64 (18446744073709551616+n)) = ~~~ (BitVec.ofInt 64 (18446744073709551616+n)):=by
    rw [show (BitVec.ofInt 64 18446744073709551615)=BitVec.allOnes 64 from by decide,BitVec.allOnes_xor]
   rw [this,BitVec.toNat_not]
   have hv:(BitVec.ofInt 64 (18446744073709551616+n)).toNat=(18446744073709551616+n).toNat:=by
    rw [BitVec.toNat_ofInt]
    omega
   rw [hv,kJ (by omega) (by omega)]
   omega
  rw [h2,kJ (by omega) (by omega)]
  omega
 ·exact kJ (by omega) (by omega)
def aAe (u bp:Int):Option Int:=
 if 0<bp∧9223372036854775807 / bp<u / 10000 then none else
  if 9223372036854775807<u / 10000*bp+(2*(u % 10000)*bp+10000) / 20000 then none else some (u / 10000*bp+(2*(u % 10000)*bp+10000) / 20000)
theorem aIe {u bp t:Int} (hu:0≤u) (hb:0≤bp) (h:aAe u bp=some t):0≤t∧t≤9223372036854775807:=by
 unfold aAe at h
 split at h
 ·cases h
 ·split at h
  ·cases h
  ·rename_i h2
   cases h
   have h3:0≤u / 10000*bp:=Int.mul_nonneg (by omega) hb
   have h4:0≤2*(u % 10000)*bp:=Int.mul_nonneg (by omega) hb
   exact ⟨by omega,by omega⟩
theorem aGg {n bp:Int} (h:I64 n) (h1:0≤bp) (h2:bp≤100000):bG n bp=match aAe (if n<0 then -n else n) bp with
  | none=>(0,7)
  | some t=>(if n<0 then -t else t,0):=by
 unfold bG
 rw [if_neg (by omega)]
 simp only [aRl h]
 have hp:wr .u64 bp=bp:=kJ h1 (by omega)
 rw [hp]
 obtain ⟨u,hu⟩:∃ u,u=(if n<0 then -n else n):=⟨_,rfl⟩
 rw [←hu]
 have hu0:0≤u∧u≤9223372036854775808:=by subst hu;split<;>omega
 have hq:u.tdiv 10000=u / 10000:=Int.tdiv_eq_ediv_of_nonneg hu0.1
 have hr:u.tmod 10000=u % 10000:=Int.tmod_eq_emod_of_nonneg hu0.1
 have hmax:(9223372036854775807:Int).tdiv bp=9223372036854775807 / bp:=Int.tdiv_eq_ediv_of_nonneg (by decide)
 rw [hq,hr,hmax,kJ (n:=u / 10000) (by omega) (by omega)]
 have hdiv:0<bp→0≤9223372036854775807 / bp∧9223372036854775807 / bp<18446744073709551616:=by
  intro hb
  constructor
  ·exact Int.ediv_nonneg (by decide) (by omega)
  ·have:=Int.ediv_le_self bp (a:=9223372036854775807) (by decide);omega
 unfold aAe
 by_cases c:0<bp∧9223372036854775807 / bp<u / 10000
 ·rw [if_pos c,if_pos ⟨c.1,by rw [kJ (hdiv c.1).1 (hdiv c.1).2];exact c.2⟩]
 ·rw [if_neg c,if_neg (fun q=>c ⟨q.1,by have:=q.2;rwa [kJ (hdiv q.1).1 (hdiv q.1).2] at this⟩)]
  have hm1:0≤u / 10000*bp:=Int.mul_nonneg (by omega) h1
  have hm2:u / 10000*bp≤9223372036854775807:=by
   by_cases hb:0<bp
   ·have hle:u / 10000≤9223372036854775807 / bp:=by
     by_cases q:u / 10000≤9223372036854775807 / bp
     ·exact q
     ·exact absurd ⟨hb,by omega⟩ c
    calc u / 10000*bp≤9223372036854775807 / bp*bp:=Int.mul_le_mul_of_nonneg_right hle h1
     _≤9223372036854775807:=Int.ediv_mul_le _ (by omega)
   ·have:bp=0:=by omega
    subst this;simp
  have hr1:0≤2*(u % 10000)*bp:=Int.mul_nonneg (by omega) h1
  have hr2:2*(u % 10000)*bp≤2*10000*100000:=Int.mul_le_mul (by omega) h2 h1 (by decide)
  rw [kJ hm1 (by omega),kJ (n:=2*(u % 10000)) (by omega) (by omega),kJ hr1 (by omega),kJ (n:=2*(u % 10000)*bp+10000) (by omega) (by omega),aDj]
  have ht:(2*(u % 10000)*bp+10000).tdiv 20000=(2*(u % 10000)*bp+10000) / 20000:=Int.tdiv_eq_ediv_of_nonneg (by omega)
  rw [ht,kJ (n:=(2*(u % 10000)*bp+10000) / 20000) (by omega) (by omega),kJ (n:=u / 10000*bp+(2*(u % 10000)*bp+10000) / 20000) (by omega) (by omega)]
  obtain ⟨t,htt⟩:∃ t,t=u / 10000*bp+(2*(u % 10000)*bp+10000) / 20000:=⟨_,rfl⟩
  have ht0:0≤t:=by omega
  rw [←htt]
  split
  ·rfl
  ·rename_i hle
   rw [kU (n:=t) (by omega) (by omega)]
   split
   ·rw [kU (by omega) (by omega)];simp
   ·rfl
theorem aMv {n bp t:Int} (h:I64 n) (h1:0≤bp) (h2:bp≤100000) (hn:n≠-9223372036854775808) (hs:bG n bp=(t,0)):bG (-n) bp=(-t,0)∧t≠-9223372036854775808:=by
 rw [aGg h h1 h2] at hs
 rw [aGg (by omega) h1 h2]
 have hu:(if -n<0 then - -n else -n)=if n<0 then -n else n:=by split<;>split<;>omega
 rw [hu]
 cases hx:aAe (if n<0 then -n else n) bp with
 | none=>rw [hx] at hs;cases hs
 | some x=>
  rw [hx] at hs
  obtain ⟨a,b⟩:=aIe (by split<;>omega) h1 hx
  simp only [Prod.mk.injEq,and_true] at hs ⊢
  by_cases c0:n=0
  ·subst c0
   have:x=0:=by
    simp only [Int.lt_irrefl,if_false] at hx
    unfold aAe at hx
    simp only [Int.zero_ediv,Int.zero_emod,Int.zero_mul,Int.mul_zero] at hx
    split at hx
    ·cases hx
    ·split at hx
     ·cases hx
     ·cases hx;decide
   subst this
   simp at hs ⊢
   omega
  ·constructor
   ·rw [←hs];split<;>split<;>omega
   ·rw [←hs];split<;>omega
theorem aKg {σ α:Type} {step:σ→α→Bool⊕σ} (hs:∀ s a r,step s a=.inl r→r=false) (c:Bool):∀ (l:List α) (s:σ),aE step (fun _=>c) l s=(aE step (fun _=>true) l s&&c)
 | [],s=>by simp [aE]
 | a::l,s=>by
  simp only [aE]
  split
  ·rename_i r he;rw [hs _ _ _ he,Bool.false_and]
  ·exact aKg hs c l _
structure PG (p:Part):Prop where
 name:dR p.cat=true
 lo:0≤p.bp
 hi:p.bp≤100000
 tax:bG p.net p.bp=(p.tax,0)
theorem aIf (p:Part):PG p↔dR p.cat=true∧yW p=false∧yX p=false:=by
 unfold yW yX
 simp only [Bool.or_eq_false_iff,decide_eq_false_iff_not,Bool.not_eq_false',decide_eq_true_eq]
 constructor
 ·rintro ⟨a,b,c,d⟩
  exact ⟨a,⟨by omega,by omega⟩,by rw [d],by rw [d]⟩
 ·rintro ⟨a,⟨b,c⟩,d,e⟩
  exact ⟨a,by omega,by omega,Prod.ext e d⟩
theorem aDx:∀ s a r,fE s a=.inl r→r=false:=by
 intro s a r h
 unfold fE at h
 repeat' split at h
 all_goals first | (cases h;done) | (cases h;rfl)
theorem fM (t:Total):dI t=true↔1≤t.parts.length∧t.parts.length≤12∧(∀ p∈t.parts,PG p)∧t.parts.Pairwise (fun a b=>fU a.cat b.cat=true)∧tO t=true:=by
 unfold dI
 split
 ·rename_i h;simp;omega
 ·rename_i h
  split
  ·rename_i h2;simp;omega
  ·rename_i h2
   rw [aKg aDx,Bool.and_eq_true,xD (good:=PG) (R:=fun a b=>fU a.cat b.cat=true)]
   ·constructor
    ·rintro ⟨⟨a,b⟩,c⟩;exact ⟨by omega,by omega,a,b,c⟩
    ·rintro ⟨_,_,a,b,c⟩;exact ⟨⟨a,b⟩,c⟩
   ·intro a g
    obtain ⟨g1,g2,g3⟩:=(aIf a).1 g
    simp [fE,mV,g1,g2,g3]
   ·intro a p g
    rw [aIf] at g
    unfold fE
    split
    ·rfl
    ·split
     ·rfl
     ·split
      ·rfl
      ·split
       ·rfl
       ·rename_i h1 _ h3 h4
        exact absurd ⟨by simpa using h1,by simpa using h3,by simpa using h4⟩ g
   ·intro p a g r
    obtain ⟨g1,g2,g3⟩:=(aIf a).1 g
    simp [fE,mV,g1,g2,g3,r]
   ·intro p a g r
    obtain ⟨g1,g2,g3⟩:=(aIf a).1 g
    simp [fE,mV,g1,g2,g3,r]
   ·intro a b c;exact jJ
theorem pY {t:Total} (hn:∀ p∈t.parts,I64 p.net) (ht:∀ p∈t.parts,I64 p.tax) (hl:t.parts.length≤1000000):
  tO t=true↔I64 t.net∧I64 t.tax∧I64 t.gross∧t.net=(t.parts.map (·.net)).sum∧t.tax=(t.parts.map (·.tax)).sum∧t.gross=t.net+t.tax:=by
 have h1:∀ n∈t.parts.map (·.net),I64 n:=fun n h=>by obtain ⟨p,hp,rfl⟩:=List.mem_map.1 h;exact hn p hp
 have h2:∀ n∈t.parts.map (·.tax),I64 n:=fun n h=>by obtain ⟨p,hp,rfl⟩:=List.mem_map.1 h;exact ht p hp
 obtain ⟨a1,a2⟩:=oW h1 (by rw [List.length_map];exact hl)
 obtain ⟨b1,b2⟩:=oW h2 (by rw [List.length_map];exact hl)
 unfold tO
 constructor
 ·intro h
  repeat' split at h
  all_goals first | cases h;done | skip
  rename_i c1 c2 c3 c4 c5
  have d:=of_decide_eq_true h
  have i1:=a2.1 c1
  have i2:=b2.1 c2
  rw [a1,iV i1] at c4
  rw [b1,iV i2] at c5
  have j:∀ n∈[t.net,t.tax],I64 n:=by
   intro n hn
   simp only [List.mem_cons,List.not_mem_nil,or_false] at hn
   rcases hn with rfl | rfl
   ·rw [←c4];exact i1
   ·rw [←c5];exact i2
  obtain ⟨e1,e2⟩:=oW j (by simp)
  have i3:=e2.1 c3
  rw [e1,iV i3] at d
  have hs:[t.net,t.tax].sum=t.net+t.tax:=by simp
  rw [hs] at d i3
  exact ⟨by rw [←c4];exact i1,by rw [←c5];exact i2,by rw [←d];exact i3,c4.symm,c5.symm,d.symm⟩
 ·rintro ⟨i1,i2,i3,e1,e2,e3⟩
  have j:∀ n∈[t.net,t.tax],I64 n:=by
   intro n hn
   simp only [List.mem_cons,List.not_mem_nil,or_false] at hn
   rcases hn with rfl | rfl
   ·exact i1
   ·exact i2
  have hs:[t.net,t.tax].sum=t.net+t.tax:=by simp
  have k3:=aAd j (by simp) (by rw [hs,←e3];exact i3)
  have k1:=aAd h1 (by rw [List.length_map];exact hl) (by rw [←e1];exact i1)
  have k2:=aAd h2 (by rw [List.length_map];exact hl) (by rw [←e2];exact i2)
  rw [k1,k2,k3]
  simp only [if_true,←e1,←e2,hs,←e3,decide_true]
theorem aZ5 {α:Type} (p:α→Bool) (l:List α):l[nL p l]?=(l.dropWhile p)[0]?:=by
 unfold nL
 rw [uX,Nat.zero_add]
 have h:l[(l.takeWhile p).length]?=(l.takeWhile p++l.dropWhile p)[(l.takeWhile p).length]?:=by rw [List.takeWhile_append_dropWhile]
 rw [h,List.getElem?_append_right (Nat.le_refl _),Nat.sub_self]
theorem aGh {α:Type} {p:α→Bool}:∀ {l:List α} {a:α},(l.dropWhile p)[0]?=some a→p a=false
 | [],a,h=>by cases h
 | x::l,a,h=>by
  rw [List.dropWhile_cons] at h
  split at h
  ·exact aGh h
  ·rename_i c;cases h;simpa using c
theorem aB8 {α:Type} {p:α→Bool} {R:α→α→Prop}:∀ {l:List α},l.Pairwise R→(∀ a b,R a b→p a=false→p b=false)→∀ {x:α},x∈l→p x=false→x∈l.dropWhile p
 | a::l,hl,hp,x,hx,h=>by
  rw [List.dropWhile_cons]
  rw [List.pairwise_cons] at hl
  split
  ·rename_i c
   rcases List.mem_cons.1 hx with rfl | hx
   ·rw [h] at c;cases c
   ·exact aB8 hl.2 hp hx h
  ·exact hx
theorem aWa {α:Type} {key:α→List UInt8} {l:List α} (hs:l.Pairwise (fun a b=>fU (key a) (key b)=true)) (k:List UInt8) (h:∀ b,l[nL (fun x=>fU (key x) k) l]?=some b→key b≠k):
  ∀ x∈l,fU (key x) k=false→fU k (key x)=true:=by
 intro x hx hk
 have hd:=aB8 (p:=fun x=>fU (key x) k) hs (fun a b r ha=>by
  cases c:fU (key b) k with
  | false=>rfl
  | true=>rw [jJ r c] at ha;cases ha) hx hk
 rw [aZ5] at h
 have hsd:(l.dropWhile fun x=>fU (key x) k).Pairwise (fun a b=>fU (key a) (key b)=true):=hs.sublist (List.dropWhile_sublist _)
 cases hc:l.dropWhile (fun x=>fU (key x) k) with
 | nil=>rw [hc] at hd;cases hd
 | cons q r=>
  rw [hc] at hd hsd
  have hq:fU (key q) k=false:=aGh (p:=fun x=>fU (key x) k) (l:=l) (by rw [hc];rfl)
  have hne:=h q (by rw [hc];rfl)
  have hkq:fU k (key q)=true:=by
   rcases aCc (key q) k with h1 | h1 | h1
   ·rw [hq] at h1;cases h1
   ·exact absurd h1 hne
   ·exact h1
  rcases List.mem_cons.1 hd with rfl | hd
  ·exact hkq
  ·exact jJ hkq ((List.pairwise_cons.1 hsd).1 x hd)
theorem xF {α:Type} {key:α→List UInt8} {l:List α} (hs:l.Pairwise (fun a b=>fU (key a) (key b)=true)) {i:Nat} {a b:α} (hi:l[i]?=some a) (he:key b=key a):(l.set i b).Pairwise (fun a b=>fU (key a) (key b)=true):=by
 have hm:∀ l:List α,l.Pairwise (fun a b=>fU (key a) (key b)=true)↔(l.map key).Pairwise (fun a b=>fU a b=true):=fun l=>(List.pairwise_map (f:=key) (R:=fun a b=>fU a b=true)).symm
 rw [hm] at hs ⊢
 have:(l.set i b).map key=l.map key:=by
  rw [List.map_set,he]
  apply List.ext_getElem?
  intro j
  rw [List.getElem?_set]
  split
  ·rename_i hj
   subst hj
   rw [List.getElem?_map,hi,List.length_map]
   rw [if_pos (List.getElem?_eq_some_iff.1 hi).1];rfl
  ·rfl
 rw [this];exact hs
structure PInv (l:List Part):Prop where
 name:∀ p∈l,dR p.cat=true
 bp:∀ p∈l,0≤p.bp∧p.bp≤100000
 net:∀ p∈l,I64 p.net
 srt:l.Pairwise (fun a b=>fU a.cat b.cat=true)
theorem PInv.nil:PInv []:=⟨fun _ h=>(by cases h),fun _ h=>(by cases h),fun _ h=>(by cases h),.nil⟩
theorem PInv.room {l:List Part} (h:PInv l) {cat:List UInt8} {bp:Int} (hc:dR cat=true) (h1:0≤bp) (h2:bp≤100000):PInv (dE l cat bp):=by
 unfold dE
 split
 ·rename_i hm
  have hmem:∀ p,p∈fL l (bI l cat) ⟨cat,bp,0,0⟩→p=⟨cat,bp,0,0⟩∨p∈l:=fun p hp=>(iH _ _ _ _).1 hp
  refine ⟨fun p hp=>?_,fun p hp=>?_,fun p hp=>?_,?_⟩
  ·rcases hmem p hp with rfl | hp
   ·exact hc
   ·exact h.name p hp
  ·rcases hmem p hp with rfl | hp
   ·exact ⟨h1,h2⟩
   ·exact h.bp p hp
  ·rcases hmem p hp with rfl | hp
   ·show I64 0;omega
   ·exact h.net p hp
  ·unfold bI
   rw [uY]
   refine sB h.srt (fun a b c=>jJ) (fun x hx hp=>hp) (fun x hx hp=>?_)
   refine aWa (key:=fun p:Part=>p.cat) h.srt cat (fun b hb=>?_) x hx hp
   unfold kG bI at hm
   rw [hb] at hm
   simpa using hm
 ·exact h
theorem PInv.put {l:List Part} (h:PInv l) {cat:List UInt8} {bp n:Int} (hc:dR cat=true) (h1:0≤bp) (h2:bp≤100000):PInv (sP l cat bp n).1∧(sP l cat bp n).1≠[]:=by
 obtain ⟨b,hb⟩:=rT l cat bp
 have hr:=h.room hc h1 h2
 unfold sP
 rw [hb]
 have hbm:=List.mem_of_getElem? hb
 constructor
 ·refine ⟨fun p hp=>?_,fun p hp=>?_,fun p hp=>?_,xF (key:=fun p:Part=>p.cat) hr.srt hb rfl⟩
  ·rcases List.mem_or_eq_of_mem_set hp with hp | rfl
   ·exact hr.name p hp
   ·exact hr.name b hbm
  ·rcases List.mem_or_eq_of_mem_set hp with hp | rfl
   ·exact hr.bp p hp
   ·exact hr.bp b hbm
  ·rcases List.mem_or_eq_of_mem_set hp with hp | rfl
   ·exact hr.net p hp
   ·exact aW8 _ _
 ·intro e
  have:=congrArg List.length e
  rw [List.length_set,List.length_nil] at this
  have:=(List.getElem?_eq_some_iff.1 hb).1
  omega
theorem zK {r:Rate} (h:wT r=0):dR r.cat=true∧r.day.right=true∧0≤r.bp∧r.bp≤100000:=by
 unfold wT at h
 split at h
 ·omega
 ·rename_i h1
  split at h
  ·omega
  ·rename_i h2
   split at h
   ·omega
   ·split at h
    ·omega
    ·exact ⟨by simpa using h1,by simpa using h2,by omega,by omega⟩
theorem bDi {cat:List UInt8} {d:Date}:∀ (l:List Rate) (st:Int×Bool),(st.2=true→0≤st.1∧st.1≤100000)→(∀ r∈l,0≤r.bp∧r.bp≤100000)→(aE (kF cat d) id l st).2=true→0≤(aE (kF cat d) id l st).1∧(aE (kF cat d) id l st).1≤100000
 | [],st,h,_,h2=>h h2
 | r::l,st,h,hl,h2=>by
  simp only [aE,kF] at h2 ⊢
  refine bDi l _ ?_ (fun x hx=>hl x (List.mem_cons_of_mem _ hx)) h2
  split
  ·intro _;exact hl r (List.mem_cons_self ..)
  ·exact h
theorem aKh {l:List Rate} {cat:List UInt8} {d:Date} (h:(iS l cat d).2=true):0≤(iS l cat d).1∧(iS l cat d).1≤100000:=by
 unfold iS at h ⊢
 split at h
 ·cases h
 ·rename_i h1
  split at h
  ·cases h
  ·rename_i h2
   rw [if_neg h1,if_neg h2]
   have ht:=(nO l).1 (by simpa using h1)
   exact bDi l _ (fun h=>by cases h) (fun r hr=>(zK (ht.2.1 r hr)).2.2) h
theorem aWb {tab:List Rate} {d:Date} {l:Line} (h:(fD tab d l).2.2=0):dR l.cat=true∧0≤(fD tab d l).1∧(fD tab d l).1≤100000:=by
 unfold fD at h ⊢
 split at h
 ·simp at h
 ·rename_i h1
  split at h
  ·simp at h
  ·rename_i h2
   split at h
   ·simp at h
   ·rename_i h3
    split at h
    ·simp at h
    ·rename_i h4
     rw [if_neg h1,if_neg h2,if_neg h3,if_neg h4]
     exact ⟨by simpa using h2,aKh (by simpa using h4)⟩
theorem bKz {tab:List Rate} {d:Date}:∀ (lines:List Line) (parts:List Part) (r:Total×Int),PInv parts→aE (iW tab d) eO lines parts=r→r.2=0→∃ ps,PInv ps∧eO ps=r∧(parts≠[]∨lines≠[]→ps≠[])
 | [],parts,r,hp,h,_=>⟨parts,hp,h,fun h=>h.elim id (fun h=>absurd rfl h)⟩
 | l::lines,parts,r,hp,h,h0=>by
  simp only [aE] at h
  split at h
  ·rename_i r' he
   subst h
   unfold iW at he
   split at he
   ·rename_i hc;cases he;exact absurd h0 hc
   ·split at he
    ·rename_i hc;cases he;exact absurd h0 hc
    ·cases he
  ·rename_i s' he
   unfold iW at he
   split at he
   ·cases he
   ·rename_i hl
    split at he
    ·cases he
    ·cases he
     obtain ⟨a,b,c⟩:=aWb (Decidable.not_not.1 hl)
     obtain ⟨q1,q2⟩:=hp.put (n:=(fD tab d l).2.1) a b c
     obtain ⟨ps,i1,i2,i3⟩:=bKz lines _ r q1 h h0
     exact ⟨ps,i1,i2,fun _=>i3 (.inl q2)⟩
def tY (p:Part):Part:={ p with tax:=(bG p.net p.bp).1 }
theorem aWc:∀ (l:List Part) (n x:Int) (ps:List Part) (r:Total×Int),I64 n→I64 x→(∀ p∈l,I64 p.net)→aE gD lU l (n,x,ps)=r→r.2=0→
  r.1.parts=ps++l.map tY∧(∀ p∈l,(bG p.net p.bp).2=0)∧r.1.net=n+(l.map (·.net)).sum∧r.1.tax=x+(l.map fun p=>(bG p.net p.bp).1).sum∧r.1.gross=r.1.net+r.1.tax∧I64 r.1.net∧I64 r.1.tax∧I64 r.1.gross
 | [],n,x,ps,r,hn,hx,_,h,h0=>by
  simp only [aE,lU] at h
  split at h
  ·rename_i hc;subst h;exact absurd h0 hc
  ·rename_i hc
   have hc:=Decidable.not_not.1 hc
   subst h
   simp only at hc ⊢
   rw [uV hn hx] at hc ⊢
   split at hc
   ·rename_i hi;rw [if_pos hi];refine ⟨by simp,by simp,by simp,by simp,rfl,hn,hx,hi⟩
   ·simp at hc
 | p::l,n,x,ps,r,hn,hx,hl,h,h0=>by
  simp only [aE] at h
  split at h
  ·rename_i r' he
   subst h
   unfold gD at he
   split at he
   ·cases he;simp at h0
   ·cases he
  ·rename_i s' he
   unfold gD at he
   split at he
   ·cases he
   ·rename_i hc
    cases he
    have hp:=hl p (List.mem_cons_self ..)
    have c1:(bG p.net p.bp).2=0:=by by_cases q:(bG p.net p.bp).2=0;exact q;exact absurd (.inl q) hc
    have c2:(dQ n p.net).2=0:=by by_cases q:(dQ n p.net).2=0;exact q;exact absurd (.inr (.inl q)) hc
    have c3:(dQ x (bG p.net p.bp).1).2=0:=by by_cases q:(dQ x (bG p.net p.bp).1).2=0;exact q;exact absurd (.inr (.inr q)) hc
    have e2:(dQ n p.net).1=n+p.net∧I64 (n+p.net):=by
     rw [uV hn hp] at c2 ⊢
     split at c2
     ·rename_i hi;rw [if_pos hi];exact ⟨rfl,hi⟩
     ·simp at c2
    have e3:(dQ x (bG p.net p.bp).1).1=x+(bG p.net p.bp).1∧I64 (x+(bG p.net p.bp).1):=by
     rw [uV hx (aDu _ _)] at c3 ⊢
     split at c3
     ·rename_i hi;rw [if_pos hi];exact ⟨rfl,hi⟩
     ·simp at c3
    simp only [e2.1,e3.1] at h
    obtain ⟨a1,a2,a3,a4,a5⟩:=aWc l _ _ _ r e2.2 e3.2 (fun q hq=>hl q (List.mem_cons_of_mem _ hq)) h h0
    refine ⟨by rw [a1,List.map_cons,List.append_assoc];rfl,fun q hq=>?_,?_,?_,a5⟩
    ·rcases List.mem_cons.1 hq with rfl | hq
     ·exact c1
     ·exact a2 q hq
    ·rw [a3,List.map_cons,List.sum_cons];omega
    ·rw [a4,List.map_cons,List.sum_cons];omega
theorem aWd {ps:List Part} (h:PInv ps) (h0:ps≠[]) {t:Total} (hl:t.parts.length≤12) (hw:eO ps=(t,0)):dI t=true∧(∀ p∈t.parts,I64 p.net∧I64 p.tax):=by
 obtain ⟨a1,a2,a3,a4,a5,a6,a7,a8⟩:=aWc ps 0 0 [] (t,0) (by omega) (by omega) h.net hw rfl
 simp only [List.nil_append,Int.zero_add] at a1 a2 a3 a4 a5 a6 a7 a8
 have hm:∀ p∈t.parts,∃ q∈ps,p=tY q:=fun p hp=>by rw [a1] at hp;obtain ⟨q,hq,rfl⟩:=List.mem_map.1 hp;exact ⟨q,hq,rfl⟩
 have hi:∀ p∈t.parts,I64 p.net∧I64 p.tax:=fun p hp=>by
  obtain ⟨q,hq,rfl⟩:=hm p hp
  exact ⟨h.net q hq,aDu _ _⟩
 refine ⟨(fM t).2 ⟨?_,hl,fun p hp=>?_,?_,?_⟩,hi⟩
 ·rw [a1,List.length_map]
  cases ps with
  | nil=>exact absurd rfl h0
  | cons a l=>simp
 ·obtain ⟨q,hq,rfl⟩:=hm p hp
  exact ⟨h.name q hq,(h.bp q hq).1,(h.bp q hq).2,Prod.ext rfl (a2 q hq)⟩
 ·rw [a1,List.pairwise_map]
  exact h.srt
 ·rw [pY (fun p hp=>(hi p hp).1) (fun p hp=>(hi p hp).2) (by omega)]
  refine ⟨a6,a7,a8,?_,?_,a5⟩
  ·rw [a3,a1,List.map_map];rfl
  ·rw [a4,a1,List.map_map];rfl
theorem aIg {tab:List Rate} {d:Date} {lines:List Line} (h:(dB tab d lines).2=0):d.right=true∧dI (dB tab d lines).1=true∧∀ p∈(dB tab d lines).1.parts,I64 p.net∧I64 p.tax:=by
 have hf:=(xA h).1
 unfold dB at h hf ⊢
 split at h
 ·simp at h
 ·rename_i h1
  split at h
  ·simp at h
  ·rename_i h2
   split at h
   ·simp at h
   ·rename_i h3
    split at h
    ·simp at h
    ·rename_i h4
     rw [if_neg h1,if_neg h2,if_neg h3,if_neg h4] at hf ⊢
     obtain ⟨ps,i1,i2,i3⟩:=bKz lines [] _ PInv.nil rfl h
     have hne:ps≠[]:=i3 (.inr (fun e=>h3 (by rw [e];rfl)))
     exact ⟨by simpa using h2,aWd i1 hne hf (by rw [i2];exact Prod.ext rfl h)⟩
def aIh (p:Part):Part:={ p with net:=-p.net,tax:=-p.tax }
def aF4:Int:=-9223372036854775808
theorem aGi:∀ (l d:List Int) (r:List Int×Int),(∀ n∈l,I64 n)→aE uS (fun l=>(l,0)) l d=r→r.2=0→r.1=d++l.map (fun n=>-n)∧∀ n∈l,n≠aF4
 | [],d,r,_,h,_=>by subst h;simp [aE]
 | n::l,d,r,hl,h,h0=>by
  simp only [aE,uS,aAc (hl n (List.mem_cons_self ..))] at h
  by_cases c:n=-9223372036854775808
  ·simp only [c,if_true] at h
   subst h;simp at h0
  ·simp only [c,if_false] at h
   obtain ⟨a,b⟩:=aGi l _ r (fun m hm=>hl m (List.mem_cons_of_mem _ hm)) h h0
   refine ⟨by rw [a,List.map_cons,List.append_assoc];rfl,fun m hm=>?_⟩
   rcases List.mem_cons.1 hm with rfl | hm
   ·exact c
   ·exact b m hm
theorem aGj {l:List Int} (hl:∀ n∈l,I64 n) (h:(iE l).2=0):(iE l).1=l.map (fun n=>-n)∧∀ n∈l,n≠aF4:=by
 have:=aGi l [] (iE l) hl rfl h
 exact this
theorem aDy:∀ (l a:List Part) (r:List Part×Int),(∀ p∈l,I64 p.net∧I64 p.tax)→aE dS (fun l=>(l,0)) l a=r→r.2=0→r.1=a++l.map aIh∧∀ p∈l,p.net≠aF4∧p.tax≠aF4
 | [],a,r,_,h,_=>by subst h;simp [aE]
 | p::l,a,r,hl,h,h0=>by
  simp only [aE,dS] at h
  split at h
  ·rename_i r' he
   split at he
   ·rename_i hc;cases he;subst h;exact absurd h0 hc
   ·cases he
  ·rename_i s' he
   split at he
   ·cases he
   ·rename_i hc
    cases he
    have hp:=hl p (List.mem_cons_self ..)
    obtain ⟨e1,e2⟩:=aGj (l:=[p.net,p.tax]) (fun n hn=>by
     simp only [List.mem_cons,List.not_mem_nil,or_false] at hn
     rcases hn with rfl | rfl
     ·exact hp.1
     ·exact hp.2) (Decidable.not_not.1 hc)
    rw [e1] at h
    obtain ⟨q1,q2⟩:=aDy l _ r (fun m hm=>hl m (List.mem_cons_of_mem _ hm)) h h0
    refine ⟨by rw [q1,List.map_cons,List.append_assoc];rfl,fun m hm=>?_⟩
    rcases List.mem_cons.1 hm with rfl | hm
    ·exact ⟨e2 _ (List.mem_cons_self ..),e2 _ (List.mem_cons_of_mem _ (List.mem_cons_self ..))⟩
    ·exact q2 m hm
theorem aMw {t:Total} (ht:∀ p∈t.parts,I64 p.net∧I64 p.tax) (h1:I64 t.net) (h2:I64 t.tax) (h3:I64 t.gross) (h:(bK t).2=0):
  (bK t).1=⟨-t.net,-t.tax,-t.gross,t.parts.map aIh⟩∧t.net≠aF4∧t.tax≠aF4∧t.gross≠aF4∧∀ p∈t.parts,p.net≠aF4∧p.tax≠aF4:=by
 unfold bK at h ⊢
 split at h
 ·rename_i hc;exact absurd h hc
 ·rename_i hc
  split at h
  ·rename_i hc2;exact absurd h hc2
  ·rename_i hc2
   rw [if_neg hc,if_neg hc2]
   obtain ⟨e1,e2⟩:=aGj (l:=[t.net,t.tax,t.gross]) (fun n hn=>by
    simp only [List.mem_cons,List.not_mem_nil,or_false] at hn
    rcases hn with rfl | rfl | rfl
    ·exact h1
    ·exact h2
    ·exact h3) (Decidable.not_not.1 hc)
   obtain ⟨q1,q2⟩:=aDy t.parts [] _ ht rfl (Decidable.not_not.1 hc2)
   rw [e1,q1]
   exact ⟨rfl,e2 _ (by simp),e2 _ (by simp),e2 _ (by simp),q2⟩
theorem aPm:∀ l:List Int,(l.map fun n=>-n).sum=-l.sum
 | []=>rfl
 | n::l=>by rw [List.map_cons,List.sum_cons,List.sum_cons,aPm l];omega
theorem aMx {t:Total} (ht:∀ p∈t.parts,I64 p.net∧I64 p.tax) (ho:dI t=true) (h:(bK t).2=0):dI (bK t).1=true∧(∀ p∈(bK t).1.parts,I64 p.net∧I64 p.tax)∧(bK t).1=⟨-t.net,-t.tax,-t.gross,t.parts.map aIh⟩:=by
 obtain ⟨o1,o2,o3,o4,o5⟩:=(fM t).1 ho
 obtain ⟨s1,s2,s3,s4,s5,s6⟩:=(pY (fun p hp=>(ht p hp).1) (fun p hp=>(ht p hp).2) (by omega)).1 o5
 obtain ⟨b1,b2,b3,b4,b5⟩:=aMw ht s1 s2 s3 h
 unfold aF4 at b2 b3 b4 b5
 have hm:∀ p∈t.parts.map aIh,∃ q∈t.parts,p=aIh q:=fun p hp=>by obtain ⟨q,hq,rfl⟩:=List.mem_map.1 hp;exact ⟨q,hq,rfl⟩
 have hi:∀ p∈t.parts.map aIh,I64 p.net∧I64 p.tax:=fun p hp=>by
  obtain ⟨q,hq,rfl⟩:=hm p hp
  have:=ht q hq
  have:=b5 q hq
  show I64 (-q.net)∧I64 (-q.tax)
  omega
 refine ⟨?_,by rw [b1];exact hi,b1⟩
 rw [b1,fM]
 refine ⟨by simpa using o1,by simpa using o2,fun p hp=>?_,?_,?_⟩
 ·obtain ⟨q,hq,rfl⟩:=hm p hp
  have g:=o3 q hq
  exact ⟨g.name,g.lo,g.hi,(aMv (ht q hq).1 g.lo g.hi (b5 q hq).1 g.tax).1⟩
 ·show (t.parts.map aIh).Pairwise _
  rw [List.pairwise_map];exact o4
 ·rw [pY (fun p hp=>(hi p hp).1) (fun p hp=>(hi p hp).2) (by simp;omega)]
  have e1:(t.parts.map aIh).map (·.net)=(t.parts.map (·.net)).map fun n=>-n:=by rw [List.map_map,List.map_map];rfl
  have e2:(t.parts.map aIh).map (·.tax)=(t.parts.map (·.tax)).map fun n=>-n:=by rw [List.map_map,List.map_map];rfl
  simp only [e1,e2,aPm]
  refine ⟨?_,?_,?_,?_,?_,?_⟩
  ·show I64 (-t.net);omega
  ·show I64 (-t.tax);omega
  ·show I64 (-t.gross);omega
  ·show -t.net=_;omega
  ·show -t.tax=_;omega
  ·show -t.gross=-t.net+-t.tax;omega
theorem aWe {y:Int} (h1:1≤y) (h2:y≤9999):Go.Proofs.YtoaibmbldmckaaaGreat.ahead y=365*(y - 1)+(y - 1) / 4 - (y - 1) / 100+(y - 1) / 400:=by
 unfold Go.Proofs.YtoaibmbldmckaaaGreat.ahead
 have a1:wr .i64 (y - 1)=y - 1:=iV (by omega)
 rw [a1]
 have a2:(y - 1).tdiv 4=(y - 1) / 4:=Int.tdiv_eq_ediv_of_nonneg (by omega)
 have a3:(y - 1).tdiv 100=(y - 1) / 100:=Int.tdiv_eq_ediv_of_nonneg (by omega)
 have a4:(y - 1).tdiv 400=(y - 1) / 400:=Int.tdiv_eq_ediv_of_nonneg (by omega)
 rw [a2,a3,a4]
 rw [iV (n:=365*(y - 1)) (by omega),iV (n:=(y - 1) / 4) (by omega),iV (n:=(y - 1) / 100) (by omega),iV (n:=(y - 1) / 400) (by omega)]
 rw [iV (n:=365*(y - 1)+(y - 1) / 4) (by omega),iV (n:=365*(y - 1)+(y - 1) / 4 - (y - 1) / 100) (by omega),iV (by omega)]
theorem hM (y m:Int):28≤fY y m∧fY y m≤31:=by
 unfold fY
 repeat' split
 all_goals omega
def fG (y:Int):Nat→Int
 | 0=>0
 | n+1=>fG y n+fY y ((n:Int)+1)
theorem mN (y:Int):∀ n:Nat,28*(n:Int)≤fG y n∧fG y n≤31*(n:Int)
 | 0=>by simp [fG]
 | n+1=>by
  have:=mN y n
  have:=hM y ((n:Int)+1)
  simp only [fG]
  omega
theorem aPn (y:Int):∀ (n k:Nat) (a:Int),-1000000000≤a→a≤1000000000→k+n≤1000→aE (mT y) id (List.range' k n) (a+fG y k)=a+fG y (k+n)
 | 0,k,a,_,_,_=>rfl
 | n+1,k,a,h1,h2,h3=>by
  have m1:=mN y k
  have m2:=hM y ((k:Int)+1)
  rw [List.range'_succ]
  simp only [aE,mT]
  rw [iV (by omega),Int.add_assoc]
  have:=aPn y n (k+1) a h1 h2 (by omega)
  rw [show k+(n+1)=k+1+n from by omega]
  exact this
theorem uZ (d:Date):d.right=true↔1≤d.y∧d.y≤9999∧1≤d.m∧d.m≤12∧1≤d.d∧d.d≤fY d.y d.m:=by
 unfold Date.right
 simp only [Bool.and_eq_true,decide_eq_true_eq]
theorem aPo {d:Date} (h:d.right=true):d.days=365*(d.y - 1)+(d.y - 1) / 4 - (d.y - 1) / 100+(d.y - 1) / 400+fG d.y (d.m - 1).toNat+d.d - 1:=by
 obtain ⟨h1,h2,h3,h4,h5,h6⟩:=(uZ d).1 h
 unfold Date.days
 rw [if_pos h]
 have e:=aWe h1 h2
 have hr:=hM d.y d.m
 have hm:=mN d.y (d.m - 1).toNat
 have hl:=aPn d.y (d.m - 1).toNat 0 (Go.Proofs.YtoaibmbldmckaaaGreat.ahead d.y) (by rw [e];omega) (by rw [e];omega) (by omega)
 simp only [fG,Int.add_zero,Nat.zero_add] at hl
 rw [List.range_eq_range',hl,e,iV (n:=365*(d.y - 1)+(d.y - 1) / 4 - (d.y - 1) / 100+(d.y - 1) / 400+fG d.y (d.m - 1).toNat+d.d) (by omega),iV (by omega)]
theorem aWf (y:Int):fG y 12=365+(if aMn y=true then 1 else 0):=by
 simp only [fG,fY]
 by_cases c:aMn y=true<;>simp [c]
theorem aZ6 {y:Int} (h:0≤y):aMn y=decide (y % 4=0∧(y % 100≠0∨y % 400=0)):=by
 unfold aMn
 have a:y.tmod 4=y % 4:=Int.tmod_eq_emod_of_nonneg h
 have b:y.tmod 100=y % 100:=Int.tmod_eq_emod_of_nonneg h
 have c:y.tmod 400=y % 400:=Int.tmod_eq_emod_of_nonneg h
 rw [a,b,c]
 split
 ·rename_i h1
  split
  ·rename_i h2;simp [h1,h2]
  ·rename_i h2;simp [h1,h2]
 ·rename_i h1;simp [h1]
theorem aB9 (y:Int):∀ (n k:Nat),fG y n+28*(k:Int)≤fG y (n+k)
 | n,0=>by simp
 | n,k+1=>by
  have:=aB9 y n k
  have:=hM y (((n+k:Nat):Int)+1)
  show _≤fG y (n+k)+fY y (((n+k:Nat):Int)+1)
  omega
theorem aGk (y:Int) {n k:Nat} (h:n<k):fG y n+fY y ((n:Int)+1)≤fG y k:=by
 have:=aB9 y (n+1) (k - (n+1))
 rw [show n+1+(k - (n+1))=k from by omega] at this
 simp only [fG] at this
 omega
theorem aPp {a b:Date} (ha:a.right=true) (hb:b.right=true) (h:a.y<b.y∨a.y=b.y∧(a.m<b.m∨a.m=b.m∧a.d<b.d)):a.days<b.days:=by
 rw [aPo ha,aPo hb]
 obtain ⟨a1,a2,a3,a4,a5,a6⟩:=(uZ a).1 ha
 obtain ⟨b1,b2,b3,b4,b5,b6⟩:=(uZ b).1 hb
 have hma:∀ {d:Date},1≤d.m→(((d.m - 1).toNat:Nat):Int)+1=d.m:=fun h=>by omega
 rcases h with h | ⟨hy,h | ⟨h2,h⟩⟩
 ·
  have h12:fG a.y (a.m - 1).toNat+a.d≤fG a.y 12:=by
   have:=aGk a.y (n:=(a.m - 1).toNat) (k:=12) (by omega)
   rw [hma a3] at this
   omega
  rw [aWf,aZ6 (by omega)] at h12
  have h0:=(mN b.y (b.m - 1).toNat).1
  by_cases c:a.y % 4=0∧(a.y % 100≠0∨a.y % 400=0)
  ·rw [if_pos (by simpa using c)] at h12
   omega
  ·rw [if_neg (by simpa using c)] at h12
   omega
 ·have:=aGk a.y (n:=(a.m - 1).toNat) (k:=(b.m - 1).toNat) (by omega)
  rw [hma a3] at this
  rw [hy] at this ⊢
  rw [hy] at a6
  omega
 ·rw [hy,h2];omega
theorem aWg {a b:Date} (ha:a.right=true) (hb:b.right=true) (h:a.days=b.days):a=b:=by
 have h1:¬ (a.y<b.y∨a.y=b.y∧(a.m<b.m∨a.m=b.m∧a.d<b.d)):=fun q=>by have:=aPp ha hb q;omega
 have h2:¬ (b.y<a.y∨b.y=a.y∧(b.m<a.m∨b.m=a.m∧b.d<a.d)):=fun q=>by have:=aPp hb ha q;omega
 have e1:a.y=b.y:=by omega
 have e2:a.m=b.m:=by omega
 have e3:a.d=b.d:=by omega
 cases a;cases b
 simp only at e1 e2 e3
 rw [e1,e2,e3]
theorem aPq {α:Type} (p:α→Bool):∀ (l:List α) (n:Nat),aE (dO p) (fun _=>-1) l n=-1→∀ a∈l,p a=false
 | [],n,_,a,h=>by cases h
 | x::l,n,h,a,ha=>by
  by_cases c:p x=true
  ·simp only [aE,dO,c,if_true] at h
   omega
  ·simp only [aE,dO,c,if_false] at h
   rcases List.mem_cons.1 ha with rfl | ha
   ·simpa using c
   ·exact aPq p l (n+1) h a ha
theorem aZ7 {α:Type} {p:α→Bool} {l:List α} (h:ixM p l<0):∀ a∈l,p a=false:=by
 rcases kX p l with e | ⟨i,a,e,_⟩
 ·exact aPq p l 0 e
 ·rw [e] at h;omega
theorem aGl {α:Type} (p:α→Bool):∀ (l:List α) (n i:Nat) (a:α),l[i]?=some a→p a=true→(∀ j b,j<i→l[j]?=some b→p b=false)→aE (dO p) (fun _=>-1) l n=((n+i:Nat):Int)
 | x::l,n,0,a,h,hp,_=>by
  cases h
  simp only [aE,dO,hp,if_true];rfl
 | x::l,n,i+1,a,h,hp,hj=>by
  have c:p x=false:=hj 0 x (by omega) rfl
  simp only [aE,dO,c,Bool.false_eq_true,if_false]
  rw [aGl p l (n+1) i a h hp (fun j b hji hb=>hj (j+1) b (by omega) hb)]
  omega
theorem aGm {α:Type} {p:α→Bool} {l:List α} {i:Nat} {a:α} (h:l[i]?=some a) (hp:p a=true) (hj:∀ j b,j<i→l[j]?=some b→p b=false):ixM p l=(i:Int):=by
 have:=aGl p l 0 i a h hp hj
 rw [Nat.zero_add] at this
 exact this
theorem nP {l:List Ser} (hs:l.Pairwise (fun a b=>fU a.name b.name=true)) {i:Nat} {s:Ser} (h:l[i]?=some s):fC l s.name=(i:Int):=by
 refine aGm h (by simp) (fun j b hj hb=>?_)
 have h1:=List.pairwise_iff_getElem.1 hs j i (List.getElem?_eq_some_iff.1 hb).1 (List.getElem?_eq_some_iff.1 h).1 hj
 rw [(List.getElem?_eq_some_iff.1 hb).2,(List.getElem?_eq_some_iff.1 h).2] at h1
 have:=bEq h1
 simpa using this
theorem aDz {l:List Ser} {name:List UInt8} (h:fC l name<0):∀ s∈l,s.name≠name:=fun s hs=>by
 have:=aZ7 h s hs
 simpa using this
def cnt (l:List Posted) (name:List UInt8):Int:=((l.filter fun p=>p.ref.ser == name).length:Int)
theorem kZ (a b:List Posted) (name:List UInt8):cnt (a++b) name=cnt a name+cnt b name:=by
 unfold cnt;rw [List.filter_append,List.length_append];omega
theorem vA (p:Posted) (name:List UInt8):cnt [p] name=if p.ref.ser=name then 1 else 0:=by
 unfold cnt
 by_cases c:p.ref.ser=name
 ·simp [c]
 ·simp [c]
theorem xG (l:List Posted) (name:List UInt8):0≤cnt l name:=by unfold cnt;omega
structure Nums (ser:List Ser) (l:List Posted):Prop where
 num:∀ i p,l[i]?=some p→(∃ s∈ser,s.name=p.ref.ser)∧p.ref.num=cnt (l.take i) p.ref.ser+1
 next:∀ s∈ser,s.next=cnt l s.name+1
def mG (ser:List Ser) (l:List Posted):List Int:=ser.map (fun s=>cnt l s.name)++List.replicate (8 - ser.length) 0
theorem lA {ser:List Ser} {l:List Posted} {i:Nat} {s:Ser} (h:ser[i]?=some s):(mG ser l)[i]?=some (cnt l s.name):=by
 unfold mG
 rw [List.getElem?_append_left (by rw [List.length_map];exact (List.getElem?_eq_some_iff.1 h).1),List.getElem?_map,h]
 rfl
theorem aMy {ser:List Ser} (hs:ser.Pairwise (fun a b=>fU a.name b.name=true)) {l:List Posted} {p:Posted} {i:Nat} {s:Ser} (h:ser[i]?=some s) (hn:s.name=p.ref.ser):bump (mG ser l) i=mG ser (l++[p]):=by
 unfold bump
 rw [List.getD_eq_getElem?_getD,lA h]
 apply List.ext_getElem?
 intro j
 rw [List.getElem?_set]
 have hlen:ser.length≤(mG ser l).length:=by unfold mG;rw [List.length_append,List.length_map];omega
 have hi:=(List.getElem?_eq_some_iff.1 h).1
 split
 ·rename_i e
  subst e
  rw [if_pos (by omega),lA h,kZ,vA,if_pos hn.symm]
  rfl
 ·rename_i e
  by_cases hj:j<ser.length
  ·have hjs:ser[j]?=some ser[j]:=List.getElem?_eq_getElem hj
   rw [lA hjs,lA hjs,kZ,vA,if_neg,Int.add_zero]
   intro hc
   have e1:=nP hs hjs
   have e2:=nP hs h
   rw [hn,hc] at e2
   rw [e2] at e1
   exact e (by omega)
  ·unfold mG
   rw [List.getElem?_append_right (by rw [List.length_map];omega),List.getElem?_append_right (by rw [List.length_map];omega),List.length_map,List.length_map]
theorem bL0 {ser:List Ser} (hs:ser.Pairwise (fun a b=>fU a.name b.name=true)) (h8:ser.length≤8) {fin:List Int→Bool}:∀ (l done:List Posted),aE (lI ser) fin l (mG ser done)=true ↔
  (∀ i p,l[i]?=some p→(∃ s∈ser,s.name=p.ref.ser)∧p.ref.num=cnt (done++l.take i) p.ref.ser+1)∧fin (mG ser (done++l))=true
 | [],done=>by simp [aE]
 | p::l,done=>by
  by_cases c:fC ser p.ref.ser<0
  ·have e:lI ser (mG ser done) p=.inl false:=by unfold lI;rw [if_pos c]
   simp only [aE,e]
   constructor
   ·intro h;cases h
   ·rintro ⟨h,_⟩
    obtain ⟨⟨s,h1,h2⟩,_⟩:=h 0 p rfl
    exact absurd h2 (aDz c s h1)
  ·rcases jH ser p.ref.ser with e | ⟨i,s,e,hi,hn⟩
   ·exact absurd (by rw [e];decide) c
   ·have hb:=aMy hs (l:=done) hi hn
    have hg:(mG ser (done++[p])).getD i 0=cnt done p.ref.ser+1:=by
     rw [List.getD_eq_getElem?_getD,lA hi,kZ,vA,if_pos hn.symm,hn];rfl
    by_cases q:p.ref.num=cnt done p.ref.ser+1
    ·have es:lI ser (mG ser done) p=.inr (mG ser (done++[p])):=by
      unfold lI
      rw [if_neg c,e]
      simp only [Int.toNat_natCast]
      rw [hb,hg,if_pos q]
     simp only [aE,es]
     rw [bL0 hs h8 l (done++[p])]
     constructor
     ·rintro ⟨h1,h2⟩
      refine ⟨fun j x hj=>?_,by rw [List.append_assoc] at h2;exact h2⟩
      cases j with
      | zero=>cases hj;exact ⟨⟨s,List.mem_of_getElem? hi,hn⟩,by simpa using q⟩
      | succ j=>have:=h1 j x hj;rw [List.append_assoc] at this;exact this
     ·rintro ⟨h1,h2⟩
      refine ⟨fun j x hj=>?_,by rw [List.append_assoc];exact h2⟩
      have:=h1 (j+1) x hj
      rw [List.append_assoc];exact this
    ·have es:lI ser (mG ser done) p=.inl false:=by
      unfold lI
      rw [if_neg c,e]
      simp only [Int.toNat_natCast]
      rw [hb,hg,if_neg q]
     simp only [aE,es]
     constructor
     ·intro h;cases h
     ·rintro ⟨h,_⟩
      have:=(h 0 p rfl).2
      simp only [List.take_zero,List.append_nil] at this
      exact absurd this q
theorem bL1:∀ (ser:List Ser) (is:List Int),aE kI (fun _=>true) ser is=true↔∀ i s,ser[i]?=some s→s.next=is.getD i 0+1
 | [],is=>by simp [aE]
 | s::l,is=>by
  have hh:is.headD 0=is.getD 0 0:=by cases is<;>rfl
  have ht:∀ j,is.tail.getD j 0=is.getD (j+1) 0:=fun j=>by cases is<;>simp
  by_cases c:s.next=is.getD 0 0+1
  ·have e:kI is s=.inr is.tail:=by unfold kI;rw [hh,if_pos c]
   simp only [aE,e]
   rw [bL1 l is.tail]
   constructor
   ·intro h i x hx
    cases i with
    | zero=>cases hx;exact c
    | succ i=>have:=h i x hx;rwa [ht] at this
   ·intro h i x hx
    have:=h (i+1) x hx
    rwa [ht]
  ·have e:kI is s=.inl false:=by unfold kI;rw [hh,if_neg c]
   simp only [aE,e]
   constructor
   ·intro h;cases h
   ·intro h;exact absurd (h 0 s rfl) c
theorem zL {ser:List Ser} (hs:ser.Pairwise (fun a b=>fU a.name b.name=true)) (h8:ser.length≤8) (l:List Posted):nM ser l=true↔Nums ser l:=by
 unfold nM
 have h0:List.replicate 8 (0:Int)=mG ser []:=by
  unfold mG
  apply List.ext_getElem?
  intro j
  by_cases hj:j<ser.length
  ·rw [List.getElem?_append_left (by rw [List.length_map];exact hj),List.getElem?_map,List.getElem?_eq_getElem hj,List.getElem?_replicate,if_pos (by omega)];rfl
  ·rw [List.getElem?_append_right (by rw [List.length_map];omega),List.length_map,List.getElem?_replicate,List.getElem?_replicate]
   by_cases hj8:j<8
   ·rw [if_pos hj8,if_pos (by omega)]
   ·rw [if_neg hj8,if_neg (by omega)]
 rw [h0,bL0 hs h8 l [],bL1]
 simp only [List.nil_append]
 constructor
 ·rintro ⟨h1,h2⟩
  refine ⟨h1,fun s hm=>?_⟩
  obtain ⟨i,hi⟩:=List.mem_iff_getElem?.1 hm
  have:=h2 i s hi
  rwa [List.getD_eq_getElem?_getD,lA hi] at this
 ·rintro ⟨h1,h2⟩
  refine ⟨h1,fun i s hi=>?_⟩
  rw [List.getD_eq_getElem?_getD,lA hi]
  exact h2 s (List.mem_of_getElem? hi)
def aWh:Posted:=⟨Ref.zero,⟨0,0,0⟩,Total.zero,Ref.zero,false⟩
def mO (p:Posted):Posted:={ p with back:=false }
def nQ (done:List Posted) (p:Posted):Prop:=p.day.right=true∧dI p.total=true∧(p.of=Ref.zero∨0≤bC done p.of∧pE p (done.getD (bC done p.of).toNat aWh)=true)
def dK (done:List Posted) (is:List Int) (p:Posted):List Int:=if p.of=Ref.zero then is else bump is (bC done p.of).toNat
def bH:List Posted→List Posted→List Int→List Int
 | _,[],is=>is
 | done,p::l,is=>bH (done++[p]) l (dK done is p)
def bS (l:List Posted):List Int:=bH [] l (List.replicate 40 0)
theorem aKi {done:List Posted} {is:List Int} {p:Posted} (h:nQ done p):gA (done,is) p=.inr (done++[p],dK done is p):=by
 obtain ⟨h1,h2,h3⟩:=h
 unfold gA dK
 rw [if_neg (by rw [h1];simp),if_neg (by rw [h2];simp)]
 by_cases c:p.of=Ref.zero
 ·rw [if_pos c,if_pos c]
 ·rw [if_neg c,if_neg c]
  rcases h3 with h3 | ⟨h3,h4⟩
  ·exact absurd h3 c
  ·simp only
   rw [if_neg (by omega)]
   unfold aWh at h4
   rw [h4]
   simp
theorem aKj {done:List Posted} {is:List Int} {p:Posted} (h:¬ nQ done p):gA (done,is) p=.inl false:=by
 unfold gA
 split
 ·rfl
 ·rename_i h1
  split
  ·rfl
  ·rename_i h2
   have h1:p.day.right=true:=by simpa using h1
   have h2:dI p.total=true:=by simpa using h2
   split
   ·rename_i h3;exact absurd ⟨h1,h2,.inl h3⟩ h
   ·split
    ·rfl
    ·rename_i h4
     split
     ·rfl
     ·rename_i h5
      exact absurd ⟨h1,h2,.inr ⟨by simp only at h4;omega,(Bool.not_eq_false _).mp h5⟩⟩ h
theorem bDj {fin:List Posted×List Int→Bool}:∀ (l done:List Posted) (is:List Int),aE gA fin l (done,is)=true↔(∀ i p,l[i]?=some p→nQ (done++l.take i) p)∧fin (done++l,bH done l is)=true
 | [],done,is=>by simp [aE,bH]
 | p::l,done,is=>by
  by_cases c:nQ done p
  ·simp only [aE,aKi c]
   rw [bDj l (done++[p]) _]
   simp only [bH]
   constructor
   ·rintro ⟨h1,h2⟩
    refine ⟨fun j x hj=>?_,by rw [List.append_assoc] at h2;exact h2⟩
    cases j with
    | zero=>cases hj;simpa using c
    | succ j=>have:=h1 j x hj;rw [List.append_assoc] at this;exact this
   ·rintro ⟨h1,h2⟩
    refine ⟨fun j x hj=>?_,by rw [List.append_assoc];exact h2⟩
    have:=h1 (j+1) x hj
    rw [List.append_assoc];exact this
  ·simp only [aE,aKj c]
   constructor
   ·intro h;cases h
   ·rintro ⟨h,_⟩
    have:=h 0 p rfl
    simp only [List.take_zero,List.append_nil] at this
    exact absurd this c
theorem bL2:∀ (l:List Posted) (is:List Int),aE iF (fun _=>true) l is=true↔∀ i p,l[i]?=some p→is.getD i 0≤1∧p.back=decide (is.getD i 0=1)
 | [],is=>by simp [aE]
 | s::l,is=>by
  have hh:is.headD 0=is.getD 0 0:=by cases is<;>rfl
  have ht:∀ j,is.tail.getD j 0=is.getD (j+1) 0:=fun j=>by cases is<;>simp
  by_cases c:is.getD 0 0≤1∧s.back=decide (is.getD 0 0=1)
  ·have e:iF is s=.inr is.tail:=by unfold iF;rw [hh,if_neg (by omega),if_pos c.2]
   simp only [aE,e]
   rw [bL2 l is.tail]
   constructor
   ·intro h i x hx
    cases i with
    | zero=>cases hx;exact c
    | succ i=>have:=h i x hx;rwa [ht] at this
   ·intro h i x hx
    have:=h (i+1) x hx
    rwa [ht]
  ·have e:iF is s=.inl false:=by
    unfold iF
    rw [hh]
    split
    ·rfl
    ·split
     ·rename_i h1 h2;exact absurd ⟨by omega,h2⟩ c
     ·rfl
   simp only [aE,e]
   constructor
   ·intro h;cases h
   ·intro h;exact absurd (h 0 s rfl) c
theorem fN (l:List Posted):iX l=true↔l.length≤40∧(∀ i p,l[i]?=some p→nQ (l.take i) p)∧∀ i p,l[i]?=some p→(bS l).getD i 0≤1∧p.back=decide ((bS l).getD i 0=1):=by
 unfold iX
 split
 ·rename_i h;simp;omega
 ·rename_i h
  rw [bDj l [] _,bL2]
  simp only [List.nil_append]
  exact ⟨fun ⟨a,b⟩=>⟨by omega,a,b⟩,fun ⟨_,a,b⟩=>⟨a,b⟩⟩
theorem oX:∀ (l done:List Posted) (is:List Int) (p:Posted),bH done (l++[p]) is=dK (done++l) (bH done l is) p
 | [],done,is,p=>by simp [bH]
 | x::l,done,is,p=>by
  simp only [List.cons_append,bH]
  rw [oX l]
  rw [List.append_assoc];rfl
theorem lK (l:List Posted) (p:Posted):bS (l++[p])=dK l (bS l) p:=by
 unfold bS
 rw [oX,List.nil_append]
theorem pZ:∀ (l done:List Posted) (is:List Int),(∀ i,0≤is.getD i 0)→(∀ i,done.length≤i→is.getD i 0=0)→(∀ i p,l[i]?=some p→nQ (done++l.take i) p)→
  (∀ i,0≤(bH done l is).getD i 0)∧(∀ i,(done++l).length≤i→(bH done l is).getD i 0=0)∧(bH done l is).length=is.length
 | [],done,is,h1,h2,_=>⟨h1,by rw [List.append_nil];exact h2,rfl⟩
 | p::l,done,is,h1,h2,h3=>by
  simp only [bH]
  have hp:=h3 0 p rfl
  simp only [List.take_zero,List.append_nil] at hp
  have hb:∀ i,(dK done is p).getD i 0=is.getD i 0∨i<done.length∧(dK done is p).getD i 0=is.getD i 0+1:=by
   intro i
   unfold dK
   split
   ·exact .inl rfl
   ·rename_i hc
    obtain ⟨hp1,_⟩:=hp.2.2.resolve_left hc
    rcases kH done p.of with e | ⟨k,x,e,hk,_⟩
    ·omega
    ·have hkl:=(List.getElem?_eq_some_iff.1 hk).1
     rw [e,Int.toNat_natCast]
     unfold bump
     simp only [List.getD_eq_getElem?_getD,List.getElem?_set]
     by_cases q:k=i
     ·rw [if_pos q]
      subst q
      split
      ·exact .inr ⟨hkl,rfl⟩
      ·rename_i hn;left;rw [List.getElem?_eq_none (by omega)]
     ·rw [if_neg q];exact .inl rfl
  have hl:(dK done is p).length=is.length:=by
   unfold dK
   split
   ·rfl
   ·exact yZ _ _
  obtain ⟨a,b,c⟩:=pZ l (done++[p]) (dK done is p) (fun i=>by have:=h1 i;rcases hb i with h | ⟨_,h⟩<;>omega)
   (fun i hi=>by
    rw [List.length_append] at hi
    simp only [List.length_cons,List.length_nil] at hi
    have:=h2 i (by omega)
    rcases hb i with h | ⟨h0,h⟩<;>omega)
   (fun i x hx=>by have:=h3 (i+1) x hx;rw [List.append_assoc];exact this)
  refine ⟨a,fun i hi=>b i (by rw [List.append_assoc];exact hi),c.trans hl⟩
theorem kK {l:List Posted} (h:∀ i p,l[i]?=some p→nQ (l.take i) p):(∀ i,0≤(bS l).getD i 0)∧(∀ i,l.length≤i→(bS l).getD i 0=0)∧(bS l).length=40:=by
 have hz:∀ i,(List.replicate 40 (0:Int)).getD i 0=0:=fun i=>by
  rw [List.getD_eq_getElem?_getD,List.getElem?_replicate];split<;>rfl
 have:=pZ l [] (List.replicate 40 0) (fun i=>by rw [hz];omega) (fun i _=>hz i) (by simpa using h)
 simp only [List.nil_append,List.length_replicate] at this
 exact this
theorem qC (l:List Posted) (r:Ref):bC (l.map mO) r=bC l r:=by
 unfold bC
 rw [←aYp]
 rfl
theorem aRm (p q:Posted):pE (mO p) (mO q)=pE p q:=rfl
theorem aZ8 (l:List Posted) (k:Nat):(l.map mO).getD k aWh=mO (l.getD k aWh):=by
 rw [List.getD_eq_getElem?_getD,List.getD_eq_getElem?_getD,List.getElem?_map]
 cases l[k]?<;>rfl
theorem aPr (done:List Posted) (p:Posted):nQ (done.map mO) (mO p)↔nQ done p:=by
 unfold nQ
 rw [aZ8,aRm]
 show _∧_∧(p.of=Ref.zero∨0≤bC (done.map mO) p.of∧_)↔_
 have e:bC (done.map mO) (mO p).of=bC done p.of:=qC done p.of
 rw [e,qC]
 exact Iff.rfl
theorem vO:∀ (l done:List Posted) (is:List Int),bH (done.map mO) (l.map mO) is=bH done l is
 | [],_,_=>rfl
 | p::l,done,is=>by
  simp only [List.map_cons,bH]
  have e:dK (done.map mO) is (mO p)=dK done is p:=by
   unfold dK
   show (if p.of=Ref.zero then is else bump is (bC (done.map mO) p.of).toNat)=_
   rw [qC]
  rw [e]
  have:=vO l (done++[p]) (dK done is p)
  rw [List.map_append] at this
  exact this
theorem aGn (l:List Posted):bS (l.map mO)=bS l:=vO l [] _
theorem aE0 (l:List Posted) (k:Nat):(cE l k).map mO=l.map mO:=by
 unfold cE
 split
 ·rfl
 ·rename_i p hp
  apply List.ext_getElem?
  intro j
  rw [List.getElem?_map,List.getElem?_map,List.getElem?_set]
  split
  ·rename_i e;subst e;rw [if_pos (List.getElem?_eq_some_iff.1 hp).1,hp];rfl
  ·rfl
theorem aWi {l m:List Posted} (e:l.map mO=m.map mO) (h:∀ i p,l[i]?=some p→nQ (l.take i) p):∀ i p,m[i]?=some p→nQ (m.take i) p:=by
 intro i p hp
 have h1:(l.map mO)[i]?=some (mO p):=by rw [e,List.getElem?_map,hp];rfl
 rw [List.getElem?_map] at h1
 cases hq:l[i]? with
 | none=>rw [hq] at h1;cases h1
 | some q=>
  rw [hq] at h1
  have hqp:mO q=mO p:=Option.some.inj h1
  have:=h i q hq
  rw [←aPr,List.map_take,hqp,e,←List.map_take,aPr] at this
  exact this
theorem aBa {fin:List Bal→List Bal×Int}:∀ (l:List Posted) (a b:List Bal),aE bM (fun b=>(b,0)) l a=(b,0)→aE bM fin l a=fin b
 | [],a,b,h=>by cases h;rfl
 | p::l,a,b,h=>by
  simp only [aE] at h ⊢
  split at h
  ·rename_i r he
   unfold bM at he
   split at he
   ·rename_i hc;cases he;exact absurd (congrArg Prod.snd h) hc
   ·split at he
    ·rename_i hc;cases he;exact absurd (congrArg Prod.snd h) hc
    ·cases he
  ·exact aBa l _ b h
theorem aIi {l:List Posted} {b:List Bal} (h:cK l=(b,0)) {p:Posted} (h1:(dG p.total).2=0) (h2:(cC b (dG p.total).1).2=0):cK (l++[p])=((cC b (dG p.total).1).1,0):=by
 unfold cK at h ⊢
 rw [aB6,aBa l [] b h]
 simp only [aE,bM,h1,h2,ne_eq,not_true_eq_false,if_false]
theorem xH {fin:List Bal→List Bal×Int}:∀ (l:List Posted) (a:List Bal),aE bM fin (l.map mO) a=aE bM fin l a
 | [],_=>rfl
 | p::l,a=>by
  simp only [List.map_cons,aE]
  have e:bM a (mO p)=bM a p:=rfl
  rw [e]
  split
  ·rfl
  ·exact xH l _
theorem aMz {l m:List Posted} (e:l.map mO=m.map mO):cK l=cK m:=by
 unfold cK
 rw [←xH l,e,xH]
theorem aIj (l:List Posted) (name:List UInt8):cnt (l.map mO) name=cnt l name:=by
 unfold cnt
 rw [List.filter_map,List.length_map]
 rfl
theorem aZ9 {ser:List Ser} {l m:List Posted} (e:l.map mO=m.map mO) (h:Nums ser l):Nums ser m:=by
 refine ⟨fun i p hp=>?_,fun s hs=>by rw [h.next s hs,←aIj l,e,aIj]⟩
 have h1:(l.map mO)[i]?=some (mO p):=by rw [e,List.getElem?_map,hp];rfl
 rw [List.getElem?_map] at h1
 cases hq:l[i]? with
 | none=>rw [hq] at h1;cases h1
 | some q=>
  rw [hq] at h1
  have hqp:mO q=mO p:=Option.some.inj h1
  have hr:(mO q).ref=(mO p).ref:=congrArg Posted.ref hqp
  have hr:q.ref=p.ref:=hr
  obtain ⟨a,b⟩:=h.num i q hq
  rw [hr] at a b
  refine ⟨a,?_⟩
  rw [b,←aIj,List.map_take,e,←List.map_take,aIj]
theorem aKk {l:List Sess} (hs:l.Pairwise (fun a b=>a.id<b.id)) (n:Int):aDn l n=true↔∀ s∈l,s.id<n:=by
 unfold aDn
 cases h:l[l.length - 1]? with
 | none=>
  have:l=[]:=by
   rw [List.getElem?_eq_none_iff] at h
   cases l with
   | nil=>rfl
   | cons a l=>simp only [List.length_cons] at h;omega
  subst this
  simp
 | some s=>
  simp only [decide_eq_true_eq]
  constructor
  ·intro hn x hx
   obtain ⟨i,hi⟩:=List.mem_iff_getElem?.1 hx
   have hil:=(List.getElem?_eq_some_iff.1 hi).1
   by_cases c:i=l.length - 1
   ·subst c;rw [h] at hi;cases hi;exact hn
   ·have h1:=List.pairwise_iff_getElem.1 hs i (l.length - 1) hil (by omega) (by omega)
    rw [(List.getElem?_eq_some_iff.1 h).2,(List.getElem?_eq_some_iff.1 hi).2] at h1
    omega
  ·intro q;exact q s (List.mem_of_getElem? h)
def sC (l:List Sess) (n:Int):Prop:=l.length≤8∧(∀ s∈l,0<s.id∧0≤s.last∧s.last≤1099511627776∧(s.last=0→s.reply=Rep.zero))∧l.Pairwise (fun a b=>a.id<b.id)∧1≤n∧n≤1099511627776∧∀ s∈l,s.id<n
theorem aF5 (s:State):kY s=true↔sC s.sess s.next:=by
 unfold kY sC
 constructor
 ·intro h
  repeat' split at h
  all_goals first | (cases h;done) | skip
  rename_i h1 h2 h3
  obtain ⟨a,b,c⟩:=(uW _).1 h1
  exact ⟨a,b,c,h2,h3,(aKk c _).1 h⟩
 ·rintro ⟨a,b,c,d,e,f⟩
  rw [if_pos ((uW _).2 ⟨a,b,c⟩),if_pos d,if_pos e]
  exact (aKk c _).2 f
theorem bZ (s:State):aV s=true↔gE s.table=true∧nZ s.ser=true∧sC s.sess s.next∧iX s.posted=true∧Nums s.ser s.posted∧cK s.posted=(s.book,0):=by
 rw [←aF5]
 unfold aV
 constructor
 ·intro h
  repeat' split at h
  all_goals first | (cases h;done) | skip
  rename_i h1 h2 h3 h4 h5 h6
  have h2':nZ s.ser=true:=by simpa using h2
  obtain ⟨a,b,c⟩:=(gB _).1 h2'
  exact ⟨by simpa using h1,h2',by simpa using h3,by simpa using h4,(zL c a _).1 (by simpa using h5),Prod.ext (of_decide_eq_true h) h6⟩
 ·rintro ⟨h1,h2,h3,h4,h5,h6⟩
  obtain ⟨a,b,c⟩:=(gB _).1 h2
  rw [if_neg (by rw [h1];simp),if_neg (by rw [h2];simp),if_neg (by rw [h3];simp),if_neg (by rw [h4];simp),if_neg (by rw [(zL c a _).2 h5];simp),if_pos (by rw [h6])]
  rw [h6];simp
theorem aE1 {l:List Ser} {name:List UInt8} {limit:Int} (h:(eS l name limit).2=0):nZ (eS l name limit).1=true∧(∀ s,s∈(eS l name limit).1↔s=⟨name,1,limit,false⟩∨s∈l)∧(∀ s∈l,s.name≠name)∧l.length<8:=by
 unfold eS at h ⊢
 split at h
 ·simp at h
 ·rename_i h1
  split at h
  ·simp at h
  ·rename_i h2
   split at h
   ·simp at h
   ·rename_i h3
    split at h
    ·simp at h
    ·rename_i h4
     split at h
     ·simp at h
     ·rename_i h5
      rw [if_neg h1,if_neg h2,if_neg h3,if_neg h4,if_neg h5]
      obtain ⟨a,b,c⟩:=(gB l).1 (by simpa using h1)
      have hn:=aDz (l:=l) (name:=name) (by omega)
      refine ⟨?_,fun s=>iH _ _ _ _,hn,by omega⟩
      simp only
      rw [gB]
      refine ⟨by have:=pX l (nL (fun s=>fU s.name name) l) ⟨name,1,limit,false⟩;omega,fun s hs=>?_,?_⟩
      ·rcases (iH _ _ _ _).1 hs with rfl | hs
       ·refine ⟨by simpa using h2,?_⟩
        unfold rP
        rw [iV (by simp only;omega)]
        simp;omega
       ·exact b s hs
      ·rw [uY]
       refine sB c (fun a b c=>jJ) (fun x hx hp=>hp) (fun x hx hp=>?_)
       rcases aCc x.name name with q | q | q
       ·rw [hp] at q;cases q
       ·exact absurd q (hn x hx)
       ·exact q
theorem aWj {l:List Ser} {name:List UInt8} (h:(pV l name).2=0):nZ (pV l name).1=true∧∃ (i:Nat) (s:Ser),l[i]?=some s∧s.name=name∧(pV l name).1=l.set i { s with shut:=true }:=by
 unfold pV at h ⊢
 split at h
 ·rename_i hc;exact absurd h hc
 ·rename_i hc
  rw [if_neg hc]
  obtain ⟨h1,i,s,e1,e2,h3,h4,h5⟩:=yV (Decidable.not_not.1 hc)
  rw [e1]
  simp only [Int.toNat_natCast,h3]
  refine ⟨?_,i,s,h3,h4,rfl⟩
  obtain ⟨a,b,c⟩:=(gB l).1 h1
  rw [gB]
  refine ⟨by rw [List.length_set];exact a,fun x hx=>?_,xF (key:=fun s:Ser=>s.name) c h3 rfl⟩
  rcases List.mem_or_eq_of_mem_set hx with hx | rfl
  ·exact b x hx
  ·exact b s (List.mem_of_getElem? h3)
theorem aWk {l:List Ser} {name:List UInt8} (h:(cO l name).2.2=0):nZ (cO l name).1=true∧∃ (i:Nat) (s:Ser),l[i]?=some s∧s.name=name∧s.shut=false∧s.next≤s.limit∧(cO l name)=(l.set i { s with next:=s.next+1 },s.next,0):=by
 unfold cO at h ⊢
 split at h
 ·rename_i hc;exact absurd h hc
 ·rename_i hc
  rw [if_neg hc]
  obtain ⟨h1,i,s,e1,e2,h3,h4,h5⟩:=yV (Decidable.not_not.1 hc)
  rw [e1] at h ⊢
  simp only [Int.toNat_natCast,h3] at h ⊢
  split at h
  ·simp at h
  ·rename_i h6
   rw [if_neg h6]
   obtain ⟨a,b,c⟩:=(gB l).1 h1
   have hb:=(b s (List.mem_of_getElem? h3)).2
   unfold rP at hb
   simp only [Bool.or_eq_false_iff,decide_eq_false_iff_not] at hb
   obtain ⟨b1,b2,b3,b4⟩:=hb
   rw [iV (by omega)] at b4
   rw [iV (n:=s.next+1) (by omega)]
   refine ⟨?_,i,s,h3,h4,h5,by omega,rfl⟩
   rw [gB]
   refine ⟨by rw [List.length_set];exact a,fun x hx=>?_,xF (key:=fun s:Ser=>s.name) c h3 rfl⟩
   rcases List.mem_or_eq_of_mem_set hx with hx | rfl
   ·exact b x hx
   ·refine ⟨(b s (List.mem_of_getElem? h3)).1,?_⟩
    unfold rP
    rw [iV (by simp only;omega)]
    simp only [Bool.or_eq_false_iff,decide_eq_false_iff_not]
    omega
theorem aRn {l:List Ser} {post:List Posted} {name:List UInt8} {limit:Int} (h:(eS l name limit).2=0) (hn:Nums l post):Nums (eS l name limit).1 post:=by
 obtain ⟨_,hm,hne,_⟩:=aE1 h
 refine ⟨fun i p hp=>?_,fun s hs=>?_⟩
 ·obtain ⟨⟨s,h1,h2⟩,h3⟩:=hn.num i p hp
  exact ⟨⟨s,(hm s).2 (.inr h1),h2⟩,h3⟩
 ·rcases (hm s).1 hs with rfl | hs
  ·have:cnt post name=0:=by
    unfold cnt
    rw [List.filter_eq_nil_iff.2]
    ·rfl
    ·intro p hp hc
     obtain ⟨i,hi⟩:=List.mem_iff_getElem?.1 hp
     obtain ⟨⟨s,h1,h2⟩,_⟩:=hn.num i p hi
     exact hne s h1 (by rw [h2];simpa using hc)
   show (1:Int)=cnt post name+1
   omega
  ·exact hn.next s hs
theorem aWl {l:List Ser} {post:List Posted} {i:Nat} {s:Ser} (hi:l[i]?=some s) (hn:Nums l post):Nums (l.set i { s with shut:=true }) post:=by
 have hmem:{ s with shut:=true }∈l.set i { s with shut:=true }:=List.mem_of_getElem? (i:=i) (by rw [List.getElem?_set,if_pos rfl,if_pos (List.getElem?_eq_some_iff.1 hi).1])
 refine ⟨fun j p hp=>?_,fun x hx=>?_⟩
 ·obtain ⟨⟨y,h1,h2⟩,h3⟩:=hn.num j p hp
  obtain ⟨k,hk⟩:=List.mem_iff_getElem?.1 h1
  refine ⟨?_,h3⟩
  by_cases c:i=k
  ·subst c;rw [hi] at hk;cases hk;exact ⟨_,hmem,h2⟩
  ·exact ⟨y,List.mem_of_getElem? (i:=k) (by rw [List.getElem?_set,if_neg c];exact hk),h2⟩
 ·rcases List.mem_or_eq_of_mem_set hx with hx | rfl
  ·exact hn.next x hx
  ·exact hn.next s (List.mem_of_getElem? hi)
theorem aRo {l:List Ser} (hs:l.Pairwise (fun a b=>fU a.name b.name=true)) {post:List Posted} {i:Nat} {s:Ser} (hi:l[i]?=some s) (hn:Nums l post) {p:Posted} (hp:p.ref=⟨s.name,s.next⟩):Nums (l.set i { s with next:=s.next+1 }) (post++[p]):=by
 have hmem:{ s with next:=s.next+1 }∈l.set i { s with next:=s.next+1 }:=List.mem_of_getElem? (i:=i) (by rw [List.getElem?_set,if_pos rfl,if_pos (List.getElem?_eq_some_iff.1 hi).1])
 have hrs:p.ref.ser=s.name:=by rw [hp]
 have hrn:p.ref.num=s.next:=by rw [hp]
 refine ⟨fun j q hq=>?_,fun x hx=>?_⟩
 ·by_cases hj:j<post.length
  ·rw [List.getElem?_append_left hj] at hq
   rw [List.take_append_of_le_length (by omega)]
   obtain ⟨⟨y,h1,h2⟩,h3⟩:=hn.num j q hq
   obtain ⟨k,hk⟩:=List.mem_iff_getElem?.1 h1
   refine ⟨?_,h3⟩
   by_cases c:i=k
   ·subst c;rw [hi] at hk;cases hk;exact ⟨_,hmem,h2⟩
   ·exact ⟨y,List.mem_of_getElem? (i:=k) (by rw [List.getElem?_set,if_neg c];exact hk),h2⟩
  ·have hjl:j=post.length:=by
    have:=(List.getElem?_eq_some_iff.1 hq).1
    simp only [List.length_append,List.length_cons,List.length_nil] at this
    omega
   subst hjl
   rw [List.getElem?_append_right (Nat.le_refl _),Nat.sub_self] at hq
   cases hq
   rw [List.take_append_of_le_length (Nat.le_refl _),List.take_length,hrs,hrn]
   exact ⟨⟨_,hmem,rfl⟩,hn.next s (List.mem_of_getElem? hi)⟩
 ·rw [kZ,vA,hrs]
  obtain ⟨k,hk⟩:=List.mem_iff_getElem?.1 hx
  rw [List.getElem?_set] at hk
  by_cases c:i=k
  ·rw [if_pos c,if_pos (List.getElem?_eq_some_iff.1 hi).1] at hk
   cases hk
   have:=hn.next s (List.mem_of_getElem? hi)
   simp only [if_true]
   omega
  ·rw [if_neg c] at hk
   have e1:=nP hs hk
   have e2:=nP hs hi
   have hne:¬ s.name=x.name:=fun e=>by rw [e,e1] at e2;exact c (by omega)
   rw [if_neg hne,Int.add_zero]
   exact hn.next x (List.mem_of_getElem? hk)
theorem bL3 {r:Rate}:∀ (l:List Rate) (k n:Nat),aE (lG r) some l k=some n→(∀ x∈l,¬ (x.cat=r.cat∧x.day=r.day))∧n=k+(l.filter fun x=>fR x r).length
 | [],k,n,h=>by cases h;simp
 | x::l,k,n,h=>by
  simp only [aE] at h
  split at h
  ·rename_i r' he
   unfold lG at he
   split at he
   ·cases he;cases h
   ·cases he
  ·rename_i s' he
   unfold lG at he
   split at he
   ·cases he
   ·rename_i hc
    cases he
    obtain ⟨a,b⟩:=bL3 l _ n h
    refine ⟨fun y hy=>?_,?_⟩
    ·rcases List.mem_cons.1 hy with rfl | hy
     ·simpa using hc
     ·exact a y hy
    ·rw [b,List.filter_cons]
     split
     ·rw [List.length_cons];omega
     ·rfl
theorem vP {α:Type} {p:α→Bool} {R:α→α→Prop}:∀ {l:List α},l.Pairwise R→(∀ a b,R a b→p b=true→p a=true)→l.filter p=l.takeWhile p
 | [],_,_=>rfl
 | x::l,hl,hp=>by
  rw [List.pairwise_cons] at hl
  rw [List.filter_cons,List.takeWhile_cons]
  split
  ·rw [vP hl.2 hp]
  ·rename_i c
   rw [List.filter_eq_nil_iff]
   intro y hy hc
   exact c (hp x y (hl.1 y hy) hc)
theorem aN0 {l:List Rate} {r:Rate} (h:(iD l r).2=0):gE (iD l r).1=true∧(iD l r).1=fL l (nL (fun x=>fR x r) l) r∧(∀ x∈l,¬ (x.cat=r.cat∧x.day=r.day)):=by
 unfold iD at h ⊢
 split at h
 ·simp at h
 ·rename_i h1
  split at h
  ·rename_i h2;exact absurd h h2
  ·rename_i h2
   rw [if_neg h1,if_neg h2]
   cases hr:aE (lG r) some l 0 with
   | none=>rw [hr] at h;simp at h
   | some k=>
    rw [hr] at h
    simp only at h ⊢
    split at h
    ·simp at h
    ·rename_i h3
     rw [if_neg h3]
     obtain ⟨a,b,c⟩:=(nO l).1 (by simpa using h1)
     obtain ⟨hne,hk⟩:=bL3 l 0 k hr
     have hpre:=vP (p:=fun x=>fR x r) c (fun a b=>sA)
     have hk':k=nL (fun x=>fR x r) l:=by
      unfold nL
      rw [uX,hk,hpre]
     rw [hk']
     refine ⟨?_,rfl,hne⟩
     rw [nO]
     have hrow:wT r=0:=Decidable.not_not.1 h2
     refine ⟨by have:=pX l (nL (fun x=>fR x r) l) r;simp only;omega,fun x hx=>?_,?_⟩
     ·rcases (iH _ _ _ _).1 hx with rfl | hx
      ·exact hrow
      ·exact b x hx
     ·rw [uY]
      refine sB c (fun a b c=>sA) (fun x hx hp=>hp) (fun x hx hp=>?_)
      rw [xE]
      have hp':¬ (fU x.cat r.cat=true∨x.cat=r.cat∧x.day.before r.day=true):=fun q=>by rw [(xE x r).2 q] at hp;cases hp
      rcases aCc x.cat r.cat with q | q | q
      ·exact absurd (.inl q) hp'
      ·refine .inr ⟨q.symm,?_⟩
       have hx1:=(zK (b x hx)).2.1
       have hr1:=(zK hrow).2.1
       unfold Date.before at hp' ⊢
       simp only [hx1,hr1,Bool.true_and,decide_eq_true_eq] at hp' ⊢
       have hd:x.day.days≠r.day.days:=fun e=>hne x hx ⟨q,aWg hx1 hr1 e⟩
       have:¬ x.day.days<r.day.days:=fun e=>hp' (.inr ⟨q,e⟩)
       omega
      ·exact .inl q
theorem qH {s:State} {name:List UInt8} {p:Posted} (h:(aR s name p).2.why=0):
  (cO s.ser name).2.2=0∧s.posted.length<40∧(dG p.total).2=0∧(cC s.book (dG p.total).1).2=0 ∧
   aR s name p=({ s with ser:=(cO s.ser name).1,book:=(cC s.book (dG p.total).1).1,posted:=s.posted++[{ p with ref:=⟨name,(cO s.ser name).2.1⟩ }] },⟨0,(cO s.ser name).2.1,p.total.gross⟩):=by
 unfold aR at h ⊢
 split at h
 ·rename_i hc;exact absurd h hc
 ·rename_i h1
  split at h
  ·simp [why] at h
  ·rename_i h2
   split at h
   ·rename_i hc;exact absurd h hc
   ·rename_i h3
    split at h
    ·rename_i hc;exact absurd h hc
    ·rename_i h4
     rw [if_neg h1,if_neg h2,if_neg h3,if_neg h4]
     exact ⟨Decidable.not_not.1 h1,by omega,Decidable.not_not.1 h3,Decidable.not_not.1 h4,rfl⟩
theorem aGo {s:State} {name:List UInt8} {p:Posted} (h:(aR s name p).2.why≠0):(aR s name p).1=s∧(aR s name p).2=why (aR s name p).2.why:=by
 unfold aR at h ⊢
 split at h
 ·rename_i h1;rw [if_pos h1];exact ⟨rfl,rfl⟩
 ·rename_i h1
  rw [if_neg h1]
  split at h
  ·rename_i h2;rw [if_pos h2];exact ⟨rfl,rfl⟩
  ·rename_i h2
   rw [if_neg h2]
   split at h
   ·rename_i h3;rw [if_pos h3];exact ⟨rfl,rfl⟩
   ·rename_i h3
    rw [if_neg h3]
    split at h
    ·rename_i h4;rw [if_pos h4];exact ⟨rfl,rfl⟩
    ·exact absurd rfl h
theorem aBb {s:State} {name:List UInt8} {p:Posted} (hr:aV s=true) (h:(aR s name p).2.why=0) {X:List Posted} (hX:X.map mO=(s.posted++[{ p with ref:=⟨name,(cO s.ser name).2.1⟩ }]).map mO)
  (hok:nQ s.posted p) (hback:∀ i q,X[i]?=some q→(bS X).getD i 0≤1∧q.back=decide ((bS X).getD i 0=1)):
  aV { (aR s name p).1 with posted:=X }=true:=by
 obtain ⟨h1,h2,h3,h4,h5⟩:=qH h
 obtain ⟨r1,r2,r3,r4,r5,r6⟩:=(bZ s).1 hr
 obtain ⟨t1,i,ser,t2,t3,t4,t5,t6⟩:=aWk h1
 rw [h5,bZ]
 obtain ⟨c1,c2,c3⟩:=(gB s.ser).1 r2
 refine ⟨r1,t1,r3,?_,?_,?_⟩
 ·show iX X=true
  rw [fN] at r4 ⊢
  refine ⟨?_,aWi hX.symm (fun j q hq=>?_),hback⟩
  ·have:=congrArg List.length hX
   simp only [List.length_map,List.length_append,List.length_cons,List.length_nil] at this
   omega
  ·by_cases hj:j<s.posted.length
   ·rw [List.getElem?_append_left hj] at hq
    rw [List.take_append_of_le_length (by omega)]
    exact r4.2.1 j q hq
   ·have hjl:j=s.posted.length:=by
     have:=(List.getElem?_eq_some_iff.1 hq).1
     simp only [List.length_append,List.length_cons,List.length_nil] at this
     omega
    subst hjl
    rw [List.getElem?_append_right (Nat.le_refl _),Nat.sub_self] at hq
    cases hq
    rw [List.take_append_of_le_length (Nat.le_refl _),List.take_length]
    exact hok
 ·show Nums (cO s.ser name).1 X
  refine aZ9 hX.symm ?_
  rw [t6]
  exact aRo c3 t2 r5 (p:={ p with ref:=⟨name,ser.next⟩ }) (by rw [←t3])
 ·show cK X=_
  rw [aMz hX]
  exact aIi r6 h3 h4
def nR (s:State):Prop:=∀ p∈s.posted,∀ q∈p.total.parts,I64 q.net∧I64 q.tax
theorem aRp {l:List Posted} (hl:∀ i p,l[i]?=some p→nQ (l.take i) p) {p:Posted} (hp:nQ l p) (hb:p.back=false) (hof:p.of=Ref.zero) (h:∀ i q,l[i]?=some q→(bS l).getD i 0≤1∧q.back=decide ((bS l).getD i 0=1)) (r:Ref):
  ∀ i q,(l++[{ p with ref:=r }])[i]?=some q→(bS (l++[{ p with ref:=r }])).getD i 0≤1∧q.back=decide ((bS (l++[{ p with ref:=r }])).getD i 0=1):=by
 intro i q hq
 have e:bS (l++[{ p with ref:=r }])=bS l:=by rw [lK];unfold dK;rw [if_pos hof]
 rw [e]
 by_cases hi:i<l.length
 ·rw [List.getElem?_append_left hi] at hq
  exact h i q hq
 ·have hil:i=l.length:=by
   have:=(List.getElem?_eq_some_iff.1 hq).1
   simp only [List.length_append,List.length_cons,List.length_nil] at this
   omega
  subst hil
  rw [List.getElem?_append_right (Nat.le_refl _),Nat.sub_self] at hq
  cases hq
  rw [(kK hl).2.1 _ (Nat.le_refl _)]
  exact ⟨by omega,hb⟩
theorem aE2 {s:State} (hr:aV s=true) (hi:nR s) (c:Cmd):aV (lV s c).1=true∧nR (lV s c).1:=by
 unfold lV
 split
 ·exact ⟨hr,hi⟩
 ·rename_i h1
  obtain ⟨a1,a2,a3⟩:=aIg (Decidable.not_not.1 h1)
  by_cases hw:(aR s c.series ⟨Ref.zero,c.day,(dB s.table c.day c.lines).1,Ref.zero,false⟩).2.why=0
  ·obtain ⟨_,_,_,_,h5⟩:=qH hw
   obtain ⟨r1,r2,r3,r4,r5,r6⟩:=(bZ s).1 hr
   obtain ⟨p1,p2,p3⟩:=(fN _).1 r4
   have hok:nQ s.posted ⟨Ref.zero,c.day,(dB s.table c.day c.lines).1,Ref.zero,false⟩:=⟨a1,a2,.inl rfl⟩
   have:=aBb (X:=(aR s c.series ⟨Ref.zero,c.day,(dB s.table c.day c.lines).1,Ref.zero,false⟩).1.posted) hr hw (by rw [h5]) hok (by rw [h5];exact aRp p2 hok rfl rfl p3 _)
   refine ⟨this,fun p hp=>?_⟩
   rw [h5] at hp
   rcases List.mem_append.1 hp with hp | hp
   ·exact hi p hp
   ·rw [List.mem_singleton.1 hp];exact a3
  ·rw [(aGo hw).1];exact ⟨hr,hi⟩
theorem aZa {ser:List Ser} {l:List Posted} (h:Nums ser l) {p:Posted} (hp:p∈l):1≤p.ref.num:=by
 obtain ⟨i,hi⟩:=List.mem_iff_getElem?.1 hp
 have:=(h.num i p hi).2
 have:=xG (l.take i) p.ref.ser
 omega
theorem zM {s:State} (hr:aV s=true) (hi:nR s) (c:Cmd):aV (eC s c).1=true∧nR (eC s c).1:=by
 obtain ⟨r1,r2,r3,r4,r5,r6⟩:=(bZ s).1 hr
 obtain ⟨p1,p2,p3⟩:=(fN _).1 r4
 unfold eC
 split
 ·exact ⟨hr,hi⟩
 ·rename_i h0
  rcases kH s.posted c.of with e | ⟨k,x,e,hk,hx⟩
  ·exact absurd (by rw [e];decide) h0
  ·have hg:s.posted.getD (bC s.posted c.of).toNat Posted.zero=x:=by rw [e,Int.toNat_natCast,List.getD_eq_getElem?_getD,hk];rfl
   rw [hg]
   have hxm:=List.mem_of_getElem? hk
   unfold fF
   split
   ·exact ⟨hr,hi⟩
   ·rename_i h1
    split
    ·rename_i h2
     split
     ·exact ⟨hr,hi⟩
     ·rename_i h3
      split
      ·exact ⟨hr,hi⟩
      ·rename_i h4
       split
       ·exact ⟨hr,hi⟩
       ·rename_i h5
        have h5:=Decidable.not_not.1 h5
        have hxr:=p2 k x hk
        obtain ⟨b1,b2,b3⟩:=aMx (hi x hxm) hxr.2.1 h5
        split
        ·rename_i h6
         obtain ⟨_,_,_,_,h7⟩:=qH h6
         have hofz:c.of≠Ref.zero:=by
          intro q
          have:=aZa r5 hxm
          rw [hx,q] at this
          exact absurd this (by decide)
         have htk:pE ⟨Ref.zero,c.day,(bK x.total).1,c.of,false⟩ x=true:=by
          unfold pE
          rw [if_pos h2,if_pos (by simpa using h4),if_pos h5]
          simp
         have hok:nQ s.posted ⟨Ref.zero,c.day,(bK x.total).1,c.of,false⟩:=by
          refine ⟨by simpa using h3,b1,.inr ⟨by show 0≤bC s.posted c.of;omega,?_⟩⟩
          show pE _ (s.posted.getD (bC s.posted c.of).toNat aWh)=true
          rw [e,Int.toNat_natCast,List.getD_eq_getElem?_getD,hk]
          exact htk
         have hposted:(aR s c.series ⟨Ref.zero,c.day,(bK x.total).1,c.of,false⟩).1.posted=s.posted++[⟨⟨c.series,(cO s.ser c.series).2.1⟩,c.day,(bK x.total).1,c.of,false⟩]:=by rw [h7]
         have hkl:=(List.getElem?_eq_some_iff.1 hk).1
         have hset:cE (aR s c.series ⟨Ref.zero,c.day,(bK x.total).1,c.of,false⟩).1.posted (bC s.posted c.of).toNat=s.posted.set k { x with back:=true }++[⟨⟨c.series,(cO s.ser c.series).2.1⟩,c.day,(bK x.total).1,c.of,false⟩]:=by
          rw [hposted,e,Int.toNat_natCast]
          unfold cE
          rw [List.getElem?_append_left hkl,hk]
          simp only
          rw [List.set_append_left _ _ hkl]
         have hnb:=aE0 (aR s c.series ⟨Ref.zero,c.day,(bK x.total).1,c.of,false⟩).1.posted (bC s.posted c.of).toNat
         have hcnt:bS (cE (aR s c.series ⟨Ref.zero,c.day,(bK x.total).1,c.of,false⟩).1.posted (bC s.posted c.of).toNat)=bump (bS s.posted) k:=by
          rw [←aGn,hnb,aGn,hposted,lK]
          unfold dK
          rw [if_neg hofz]
          show bump (bS s.posted) (bC s.posted c.of).toNat=_
          rw [e,Int.toNat_natCast]
         obtain ⟨g1,g2,g3⟩:=kK p2
         have hbk:∀ i,(bump (bS s.posted) k).getD i 0=(bS s.posted).getD i 0+(if i=k then 1 else 0):=by
          intro i
          unfold bump
          simp only [List.getD_eq_getElem?_getD,List.getElem?_set]
          by_cases q:k=i
          ·subst q;rw [if_pos rfl,if_pos (by omega),if_pos rfl];rfl
          ·rw [if_neg q,if_neg (fun q2=>q q2.symm),Int.add_zero]
         have h0k:(bS s.posted).getD k 0=0:=by
          obtain ⟨q1,q2⟩:=p3 k x hk
          have h1':x.back=false:=by simpa using h1
          rw [h1'] at q2
          have q3:=of_decide_eq_false q2.symm
          have:=g1 k
          omega
         have:=aBb (X:=cE (aR s c.series ⟨Ref.zero,c.day,(bK x.total).1,c.of,false⟩).1.posted (bC s.posted c.of).toNat) hr h6 (by rw [hnb,hposted]) hok (by
          rw [hcnt,hset]
          intro i q hq
          rw [hbk]
          by_cases hil:i<s.posted.length
          ·rw [List.getElem?_append_left (by rw [List.length_set];exact hil),List.getElem?_set] at hq
           by_cases ck:k=i
           ·subst ck
            rw [if_pos rfl,if_pos hil] at hq
            cases hq
            rw [h0k,if_pos rfl]
            exact ⟨by decide,rfl⟩
           ·rw [if_neg ck] at hq
            rw [if_neg (fun q2=>ck q2.symm),Int.add_zero]
            exact p3 i q hq
          ·have hieq:i=s.posted.length:=by
            have:=(List.getElem?_eq_some_iff.1 hq).1
            simp only [List.length_append,List.length_cons,List.length_nil,List.length_set] at this
            omega
           subst hieq
           rw [List.getElem?_append_right (by rw [List.length_set];exact Nat.le_refl _),List.length_set,Nat.sub_self] at hq
           cases hq
           rw [g2 _ (Nat.le_refl _),if_neg (by omega)]
           exact ⟨by decide,rfl⟩)
         refine ⟨this,fun p hp=>?_⟩
         have hp:p∈cE (aR s c.series ⟨Ref.zero,c.day,(bK x.total).1,c.of,false⟩).1.posted (bC s.posted c.of).toNat:=hp
         rw [hset] at hp
         rcases List.mem_append.1 hp with hp | hp
         ·rcases List.mem_or_eq_of_mem_set hp with hp | rfl
          ·exact hi p hp
          ·exact hi x hxm
         ·rw [List.mem_singleton.1 hp];exact b2
        ·rename_i h6
         rw [(aGo h6).1];exact ⟨hr,hi⟩
    ·exact ⟨hr,hi⟩
theorem aGp {s:State} (hr:aV s=true) {l:List Ser} (h1:nZ l=true) (h2:Nums l s.posted):aV { s with ser:=l }=true:=by
 obtain ⟨r1,r2,r3,r4,r5,r6⟩:=(bZ s).1 hr
 exact (bZ _).2 ⟨r1,h1,r3,r4,h2,r6⟩
theorem xI {s:State} (hr:aV s=true) {l:List Sess} {n:Int} (h1:sC l n):aV { s with sess:=l,next:=n }=true:=by
 obtain ⟨r1,r2,r3,r4,r5,r6⟩:=(bZ s).1 hr
 exact (bZ _).2 ⟨r1,r2,h1,r4,r5,r6⟩
theorem aN1 {s:State} (hr:aV s=true):aV (eT s).1=true∧((eT s).1.posted=s.posted):=by
 obtain ⟨r1,r2,r3,r4,r5,r6⟩:=(bZ s).1 hr
 obtain ⟨a,b,c,d,e,f⟩:=r3
 unfold eT
 split
 ·exact ⟨hr,rfl⟩
 ·rename_i h1
  split
  ·exact ⟨hr,rfl⟩
  ·rename_i h2
   have h2:=Decidable.not_not.1 h2
   refine ⟨?_,rfl⟩
   show aV { s with sess:=(mF s.sess s.next).1,next:=wr .i64 (s.next+1) }=true
   rw [iV (by omega)]
   refine xI hr ?_
   unfold mF at h2 ⊢
   split at h2
   ·simp at h2
   ·rename_i j1
    split at h2
    ·simp at h2
    ·rename_i j2
     split at h2
     ·simp at h2
     ·rename_i j3
      rw [if_neg j1,if_neg j2,if_neg j3]
      refine ⟨by have:=pX s.sess (nL (fun x=>decide (x.id<s.next)) s.sess) ⟨s.next,0,Rep.zero⟩;simp only;omega,fun x hx=>?_,?_,by omega,by omega,fun x hx=>?_⟩
      ·rcases (iH _ _ _ _).1 hx with rfl | hx
       ·exact ⟨by show 0<s.next;omega,by simp,by simp,fun _=>rfl⟩
       ·exact b x hx
      ·simp only
       rw [uY]
       refine sB c (fun a b c h1 h2=>by omega) (fun x hx hp=>by simpa using hp) (fun x hx hp=>?_)
       have:=f x hx
       simp at hp
       show s.next<x.id
       omega
      ·rcases (iH _ _ _ _).1 hx with rfl | hx
       ·show s.next<s.next+1;omega
       ·have:=f x hx;omega
theorem aWm {l:List Sess} {n id:Int} (h:sC l n):(gG l id).2=0→sC (gG l id).1 n:=by
 intro h0
 obtain ⟨a,b,c,d,e,f⟩:=h
 unfold gG at h0 ⊢
 split at h0
 ·simp at h0
 ·rename_i h1
  split at h0
  ·simp at h0
  ·rename_i h2
   rw [if_neg h1,if_neg h2]
   have hsub:(wU l (hJ l id).toNat).Sublist l:=by
    unfold wU
    conv=>rhs;rw [←List.take_append_drop (hJ l id).toNat l]
    refine List.Sublist.append (List.Sublist.refl _) ?_
    rw [←List.drop_drop]
    exact List.drop_sublist _ _
   exact ⟨by have:=hsub.length_le;simp only;omega,fun x hx=>b x (hsub.subset hx),c.sublist hsub,d,e,fun x hx=>f x (hsub.subset hx)⟩
theorem aZb {l:List Sess} {n id seq:Int} {r:Rep} (h:sC l n):(kN l id seq r).2=0→sC (kN l id seq r).1 n:=by
 intro h0
 obtain ⟨a,b,c,d,e,f⟩:=h
 unfold kN at h0 ⊢
 split at h0
 ·rename_i hc;exact absurd h0 hc
 ·rename_i h1
  have h1':=Decidable.not_not.1 h1
  split at h0
  ·simp at h0
  ·rename_i h2
   rw [if_neg h1,if_neg h2]
   obtain ⟨hs,i,s,e1,e2⟩:=aDk h1'
   rw [e1,Int.toNat_natCast,e2]
   have hseq:1≤seq∧seq≤1099511627776:=by
    unfold cD at h1'
    rw [if_neg (by rw [hs];simp),if_neg (by omega)] at h1'
    split at h1'
    ·simp at h1'
    ·omega
   have hsm:=List.mem_of_getElem? e2
   refine ⟨by simp only [List.length_set];exact a,fun x hx=>?_,?_,d,e,fun x hx=>?_⟩
   ·rcases List.mem_or_eq_of_mem_set hx with hx | rfl
    ·exact b x hx
    ·exact ⟨(b s hsm).1,by simp only;omega,by simp only;omega,fun q=>by simp only at q;omega⟩
   ·simp only
    have hm:∀ l:List Sess,l.Pairwise (fun a b=>a.id<b.id)↔(l.map (·.id)).Pairwise (fun a b=>a<b):=fun l=>(List.pairwise_map (f:=fun s:Sess=>s.id) (R:=fun a b=>a<b)).symm
    rw [hm] at c ⊢
    have:(l.set i ⟨s.id,seq,r⟩).map (·.id)=l.map (·.id):=by
     apply List.ext_getElem?
     intro j
     rw [List.getElem?_map,List.getElem?_map,List.getElem?_set]
     split
     ·rename_i e;subst e;rw [if_pos (List.getElem?_eq_some_iff.1 e2).1,e2];rfl
     ·rfl
    rw [this];exact c
   ·rcases List.mem_or_eq_of_mem_set hx with hx | rfl
    ·exact f x hx
    ·exact f s hsm
theorem aWn {s:State} (hr:aV s=true) (hi:nR s) (c:Cmd):aV (sS s c).1=true∧nR (sS s c).1:=by
 obtain ⟨r1,r2,r3,r4,r5,r6⟩:=(bZ s).1 hr
 unfold sS
 split
 ·unfold gJ
  split
  ·rename_i h
   exact ⟨aGp hr (aE1 h).1 (aRn h r5),hi⟩
  ·exact ⟨hr,hi⟩
 ·split
  ·unfold gJ
   split
   ·rename_i h
    obtain ⟨a,i,x,b1,b2,b3⟩:=aWj h
    exact ⟨aGp hr a (by rw [b3];exact aWl b1 r5),hi⟩
   ·exact ⟨hr,hi⟩
  ·split
   ·unfold lJ
    split
    ·rename_i h
     exact ⟨(bZ _).2 ⟨(aN0 h).1,r2,r3,r4,r5,r6⟩,hi⟩
    ·exact ⟨hr,hi⟩
   ·split
    ·exact aE2 hr hi c
    ·split
     ·exact zM hr hi c
     ·split
      ·unfold iT
       split
       ·rename_i h
        exact ⟨xI (n:=s.next) hr (aWm r3 h),hi⟩
       ·exact ⟨hr,hi⟩
      ·exact ⟨hr,hi⟩
theorem aBc {s:State} (hr:aV s=true) (hi:nR s) (c:Call):aV (eP s c).1=true∧nR (eP s c).1:=by
 unfold eP
 rw [if_neg (by rw [hr];simp)]
 split
 ·exact ⟨hr,hi⟩
 ·split
  ·obtain ⟨a,b⟩:=aN1 hr
   exact ⟨a,fun p hp=>hi p (by rw [b] at hp;exact hp)⟩
  ·split
   ·exact ⟨hr,hi⟩
   ·split
    ·exact ⟨hr,hi⟩
    ·obtain ⟨a,b⟩:=aWn hr hi c.cmd
     unfold iG
     split
     ·rename_i h
      exact ⟨xI (n:=(sS s c.cmd).1.next) a (aZb ((bZ _).1 a).2.2.1 h),b⟩
     ·exact ⟨a,b⟩
theorem aGq:aV State.new=true∧nR State.new:=⟨by decide,fun p hp=>by cases hp⟩
def aPs (x:Sess) (seq:Int):Rep×Bool×Int:=if seq<1∨1099511627776<seq then (Rep.zero,false,1) else if seq=x.last then (x.reply,true,0) else if seq<x.last then (Rep.zero,false,16) else (Rep.zero,false,0)
theorem aAf {l:List Sess} (hs:l.Pairwise (fun a b=>a.id<b.id)) {i:Nat} {s:Sess} (h:l[i]?=some s):hJ l s.id=(i:Int):=by
 refine aGm h (by simp) (fun j b hj hb=>?_)
 have h1:=List.pairwise_iff_getElem.1 hs j i (List.getElem?_eq_some_iff.1 hb).1 (List.getElem?_eq_some_iff.1 h).1 hj
 rw [(List.getElem?_eq_some_iff.1 hb).2,(List.getElem?_eq_some_iff.1 h).2] at h1
 simp only [decide_eq_false_iff_not]
 omega
theorem aKl {l:List Sess} (h:gH l=true) {i:Nat} {x:Sess} (hx:l[i]?=some x) (seq:Int):cD l x.id seq=aPs x seq:=by
 have e:=aAf ((uW l).1 h).2.2 hx
 unfold cD aPs
 rw [if_neg (by rw [h];simp),e,if_neg (by omega),Int.toNat_natCast,hx]
theorem aWo {l:List Sess} {id seq:Int} (h:(cD l id seq).2.2=0) (h2:(cD l id seq).2.1=false):gH l=true∧∃ (i:Nat) (x:Sess),l[i]?=some x∧x.id=id∧1≤seq∧seq≤1099511627776∧x.last<seq:=by
 obtain ⟨hs,i,x,e,hi⟩:=aDk h
 have hid:x.id=id:=by
  rcases kE l id with e1 | ⟨j,y,e1,e2,e3⟩
  ·rw [e1] at e;omega
  ·rw [e1] at e
   have:j=i:=by omega
   subst this
   rw [hi] at e2;cases e2;exact e3
 subst hid
 rw [aKl hs hi] at h h2
 unfold aPs at h h2
 split at h
 ·simp at h
 ·rename_i h3
  rw [if_neg h3] at h2
  split at h
  ·rename_i h4;rw [if_pos h4] at h2;simp at h2
  ·rename_i h4
   split at h
   ·simp at h
   ·rename_i h5
    exact ⟨hs,i,x,hi,rfl,by omega,by omega,by omega⟩
theorem aWp {l:List Sess} (h:gH l=true) {i:Nat} {x:Sess} (hx:l[i]?=some x) {seq:Int} (h1:1≤seq) (h2:seq≤1099511627776) (h3:x.last<seq) (r:Rep):kN l x.id seq r=(l.set i ⟨x.id,seq,r⟩,0):=by
 have e:=aAf ((uW l).1 h).2.2 hx
 have el:cD l x.id seq=(Rep.zero,false,0):=by
  rw [aKl h hx];unfold aPs
  rw [if_neg (by omega),if_neg (by omega),if_neg (by omega)]
 unfold kN
 rw [el,if_neg (by simp),if_neg (by simp),e,Int.toNat_natCast,hx]
theorem aBd (l:List Ser) (name:List UInt8) (limit:Int):0≤(eS l name limit).2∧(eS l name limit).2≤14:=by
 unfold eS;repeat' split
 all_goals (constructor<;>first | decide | simp)
theorem aGr (l:List Ser) (name:List UInt8):0≤(iR l name).2∧(iR l name).2≤14:=by
 unfold iR;repeat' split
 all_goals (constructor<;>first | decide | simp)
theorem aGs (l:List Ser) (name:List UInt8):0≤(pV l name).2∧(pV l name).2≤14:=by
 unfold pV
 split
 ·exact aGr l name
 ·split<;>(constructor<;>first | decide | simp)
theorem aGt (l:List Ser) (name:List UInt8):0≤(cO l name).2.2∧(cO l name).2.2≤14:=by
 unfold cO
 split
 ·exact aGr l name
 ·repeat' split
  all_goals (constructor<;>first | decide | simp)
theorem aWq (r:Rate):0≤wT r∧wT r≤14:=by
 unfold wT;repeat' split
 all_goals (constructor<;>first | decide | simp)
theorem aBe (l:List Rate) (r:Rate):0≤(iD l r).2∧(iD l r).2≤14:=by
 unfold iD
 split
 ·constructor<;>first | decide | simp
 ·split
  ·exact aWq r
  ·repeat' split
   all_goals (constructor<;>first | decide | simp)
theorem aE3 (a b:Int):0≤(dQ a b).2∧(dQ a b).2≤14:=by
 unfold dQ;split<;>(constructor<;>first | decide | simp)
theorem aWr (a b:Int):0≤(kW a b).2∧(kW a b).2≤14:=by
 unfold kW;split<;>(constructor<;>first | decide | simp)
theorem aWs (a b:Int):0≤(aMo a b).2∧(aMo a b).2≤14:=by
 unfold aMo
 simp only
 repeat' split
 all_goals (constructor<;>first | decide | simp)
theorem aRq (tab:List Rate) (d:Date) (l:Line):0≤(fD tab d l).2.2∧(fD tab d l).2.2≤14:=by
 unfold fD
 repeat' split
 all_goals first | exact aWs _ _ | (constructor<;>first | decide | simp)
theorem nU {σ ρ α:Type} {step:σ→α→ρ⊕σ} {fin:σ→ρ} (Q:ρ→Prop) (hs:∀ s a r,step s a=.inl r→Q r) (hf:∀ s,Q (fin s)):∀ (l:List α) (s:σ),Q (aE step fin l s)
 | [],s=>hf s
 | a::l,s=>by
  simp only [aE]
  split
  ·rename_i r he;exact hs _ _ _ he
  ·exact nU Q hs hf l _
theorem aN2 (l:List Part):0≤(eO l).2∧(eO l).2≤14:=by
 refine nU (fun r:Total×Int=>0≤r.2∧r.2≤14) (fun s a r h=>?_) (fun s=>?_) l _
 ·unfold gD at h
  split at h
  ·cases h;constructor<;>first | decide | simp
  ·cases h
 ·unfold lU
  split
  ·exact aE3 _ _
  ·constructor<;>first | decide | simp
theorem aWt (l:List Part) (cat:List UInt8) (bp n:Int):0≤(sP l cat bp n).2∧(sP l cat bp n).2≤14:=by
 unfold sP
 split
 ·constructor<;>first | decide | simp
 ·exact aE3 _ _
theorem xJ (tab:List Rate) (d:Date) (lines:List Line):0≤(dB tab d lines).2∧(dB tab d lines).2≤14:=by
 unfold dB
 split
 ·constructor<;>first | decide | simp
 ·split
  ·constructor<;>first | decide | simp
  ·split
   ·constructor<;>first | decide | simp
   ·split
    ·constructor<;>first | decide | simp
    ·refine nU (fun r:Total×Int=>0≤r.2∧r.2≤14) (fun s a r h=>?_) (fun s=>aN2 _) lines _
     unfold iW at h
     split at h
     ·cases h;exact aRq _ _ _
     ·split at h
      ·cases h;exact aWt _ _ _ _
      ·cases h
theorem aKm (t:Total):0≤(dG t).2∧(dG t).2≤14:=by
 refine nU (fun r:List Bal×Int=>0≤r.2∧r.2≤14) (fun s a r h=>?_) (fun s=>by constructor<;>first | decide | simp) _ _
 unfold lH at h
 split at h
 ·cases h;constructor<;>first | decide | simp
 ·split at h
  ·cases h;constructor<;>first | decide | simp
  ·cases h
theorem aE4 (b l:List Bal):0≤(cC b l).2∧(cC b l).2≤14:=by
 unfold cC
 split
 ·constructor<;>first | decide | simp
 ·refine nU (fun r:List Bal×Int=>0≤r.2∧r.2≤14) (fun s a r h=>?_) (fun s=>by constructor<;>first | decide | simp) _ _
  unfold cJ at h
  split at h
  ·cases h;constructor<;>first | decide | simp
  ·split at h
   ·cases h;exact aE3 _ _
   ·cases h
theorem aKn (l:List Int):0≤(iE l).2∧(iE l).2≤14:=by
 refine nU (fun r:List Int×Int=>0≤r.2∧r.2≤14) (fun s a r h=>?_) (fun s=>by constructor<;>first | decide | simp) _ _
 unfold uS at h
 split at h
 ·cases h;exact aWr _ _
 ·cases h
theorem aAg (t:Total):0≤(bK t).2∧(bK t).2≤14:=by
 unfold bK
 split
 ·exact aKn _
 ·split
  ·refine nU (fun r:List Part×Int=>0≤r.2∧r.2≤14) (fun s a r h=>?_) (fun s=>by constructor<;>first | decide | simp) _ _
   unfold dS at h
   split at h
   ·cases h;exact aKn _
   ·cases h
  ·constructor<;>first | decide | simp
theorem aE5 (l:List Sess) (id:Int):0≤(gG l id).2∧(gG l id).2≤14:=by
 unfold gG;repeat' split
 all_goals (constructor<;>first | decide | simp)
def Plain (s:State) (r:State×Rep):Prop:=0≤r.2.why∧r.2.why≤14∧(r.2.why≠0→r.1=s∧r.2=why r.2.why)
theorem Plain.why {s:State} {e:Int} (h1:0≤e) (h2:e≤14):Plain s (s,Go.Proofs.YtoaibmbldmckaaaGreat.why e):=⟨h1,h2,fun _=>⟨rfl,rfl⟩⟩
theorem tZ (s:State) (name:List UInt8) (p:Posted):Plain s (aR s name p):=by
 unfold aR
 split
 ·exact Plain.why (aGt _ _).1 (aGt _ _).2
 ·split
  ·exact Plain.why (by decide) (by decide)
  ·split
   ·exact Plain.why (aKm _).1 (aKm _).2
   ·split
    ·exact Plain.why (aE4 _ _).1 (aE4 _ _).2
    ·exact ⟨Int.le_refl 0,by show (0:Int)≤14;decide,fun h=>absurd rfl h⟩
theorem aWu (s:State) (c:Cmd):Plain s (sS s c):=by
 have kw:∀ (e:Int) (t:State),(0≤e∧e≤14)→Plain s (if e=0 then (t,why e) else (s,why e)):=by
  intro e t h
  split
  ·rename_i h0;subst h0;exact ⟨Int.le_refl 0,by show (0:Int)≤14;decide,fun h=>absurd rfl h⟩
  ·exact Plain.why h.1 h.2
 unfold sS
 split
 ·exact kw _ _ (aBd _ _ _)
 ·split
  ·exact kw _ _ (aGs _ _)
  ·split
   ·exact kw _ _ (aBe _ _)
   ·split
    ·unfold lV
     split
     ·exact Plain.why (xJ _ _ _).1 (xJ _ _ _).2
     ·exact tZ _ _ _
    ·split
     ·unfold eC
      split
      ·exact Plain.why (by decide) (by decide)
      ·unfold fF
       split
       ·exact Plain.why (by decide) (by decide)
       ·split
        ·split
         ·exact Plain.why (by decide) (by decide)
         ·split
          ·exact Plain.why (by decide) (by decide)
          ·split
           ·exact Plain.why (aAg _).1 (aAg _).2
           ·split
            ·rename_i h
             exact ⟨by rw [h];decide,by rw [h];decide,fun q=>absurd h q⟩
            ·exact tZ _ _ _
        ·exact Plain.why (by decide) (by decide)
     ·split
      ·exact kw _ _ (aE5 _ _)
      ·unfold aEz
       split
       ·exact Plain.why (e:=11) (by decide) (by decide)
       ·exact ⟨Int.le_refl 0,by show (0:Int)≤14;decide,fun h=>absurd rfl h⟩
theorem aPt (s:State) (c:Cmd):(sS s c).1.sess=s.sess∨(c.kind=7∧(gG s.sess c.session).2=0∧(sS s c).1.sess=(gG s.sess c.session).1):=by
 have hi:∀ name p,(aR s name p).1.sess=s.sess:=by
  intro name p
  unfold aR
  repeat' split
  all_goals rfl
 unfold sS
 split
 ·unfold gJ;split<;>exact .inl rfl
 ·split
  ·unfold gJ;split<;>exact .inl rfl
  ·split
   ·unfold lJ;split<;>exact .inl rfl
   ·split
    ·unfold lV
     split
     ·exact .inl rfl
     ·exact .inl (hi _ _)
    ·split
     ·unfold eC fF
      repeat' split
      all_goals first | exact .inl rfl | exact .inl (hi _ _)
     ·split
      ·rename_i h7
       unfold iT
       split
       ·rename_i h;exact .inr ⟨h7,h,rfl⟩
       ·exact .inl rfl
      ·exact .inl rfl
theorem aGu {l:List Sess} {id:Int} (h:(gG l id).2=0) {n:Int} (hs:sC l n):∀ x,x∈(gG l id).1↔x∈l∧x.id≠id:=by
 unfold gG at h ⊢
 split at h
 ·simp at h
 ·rename_i h1
  split at h
  ·simp at h
  ·rename_i h2
   rw [if_neg h1,if_neg h2]
   rcases kE l id with e | ⟨i,y,e,hi,hy⟩
   ·rw [e] at h2;exact absurd (by decide) h2
   ·simp only [e,Int.toNat_natCast]
    intro x
    unfold wU
    rw [List.mem_append]
    have hp:=hs.2.2.1
    have hil:=(List.getElem?_eq_some_iff.1 hi).1
    have key:∀ j z,l[j]?=some z→(z.id=id↔j=i):=by
     intro j z hz
     constructor
     ·intro hzid
      have e1:=aAf hp hz
      rw [hzid,e] at e1;omega
     ·rintro rfl;rw [hi] at hz;cases hz;exact hy
    constructor
    ·rintro (hx | hx)
     ·obtain ⟨j,hj⟩:=List.mem_iff_getElem?.1 hx
      rw [List.getElem?_take] at hj
      split at hj
      ·rename_i hji
       exact ⟨List.mem_of_getElem? hj,fun q=>by have:=(key j x hj).1 q;omega⟩
      ·cases hj
     ·obtain ⟨j,hj⟩:=List.mem_iff_getElem?.1 hx
      rw [List.getElem?_drop] at hj
      exact ⟨List.mem_of_getElem? hj,fun q=>by have:=(key _ x hj).1 q;omega⟩
    ·rintro ⟨hx,hne⟩
     obtain ⟨j,hj⟩:=List.mem_iff_getElem?.1 hx
     have hji:j≠i:=fun q=>hne ((key j x hj).2 q)
     by_cases c:j<i
     ·left;exact List.mem_of_getElem? (i:=j) (by rw [List.getElem?_take,if_pos c];exact hj)
     ·right;exact List.mem_of_getElem? (i:=j - (i+1)) (by rw [List.getElem?_drop,show i+1+(j - (i+1))=j from by omega];exact hj)
def uA (s:State):Prop:=∀ x∈s.sess,x.reply.why≠0→x.reply=why x.reply.why
theorem aRr {s:State} (hr:aV s=true) (hq:uA s):uA (eT s).1∧((eT s).2.why≠0→(eT s).1=s∧(eT s).2=why (eT s).2.why):=by
 unfold eT
 split
 ·exact ⟨hq,fun _=>⟨rfl,rfl⟩⟩
 ·split
  ·exact ⟨hq,fun _=>⟨rfl,rfl⟩⟩
  ·refine ⟨fun x hx=>?_,fun h=>absurd rfl h⟩
   rename_i h1 h2
   have h2:=Decidable.not_not.1 h2
   have hx:x∈(mF s.sess s.next).1:=hx
   unfold mF at h2 hx
   split at h2
   ·simp at h2
   ·rename_i j1
    split at h2
    ·simp at h2
    ·rename_i j2
     split at h2
     ·simp at h2
     ·rename_i j3
      rw [if_neg j1,if_neg j2,if_neg j3] at hx
      rcases (iH _ _ _ _).1 hx with rfl | hx
      ·intro h;exact absurd rfl h
      ·exact hq x hx
theorem aZc {s:State} (hr:aV s=true) (hq:uA s) (c:Cmd):uA (sS s c).1:=by
 intro x hx
 rcases aPt s c with e | ⟨_,e1,e2⟩
 ·rw [e] at hx;exact hq x hx
 ·rw [e2] at hx
  exact hq x ((aGu e1 ((bZ s).1 hr).2.2.1 x).1 hx).1
theorem aE6 (r:State×Rep) (c:Call):iG r c=r∨∃ (i:Nat) (x:Sess),r.1.sess[i]?=some x∧x.id=c.session∧x.last<c.seq∧iG r c=({ r.1 with sess:=r.1.sess.set i ⟨x.id,c.seq,r.2⟩ },r.2):=by
 unfold iG
 split
 ·rename_i h
  right
  unfold kN at h
  split at h
  ·rename_i h1;exact absurd h h1
  ·rename_i h1
   have h1':=Decidable.not_not.1 h1
   split at h
   ·simp at h
   ·rename_i h2
    have h2':(cD r.1.sess c.session c.seq).2.1=false:=by simpa using h2
    obtain ⟨hs,i,x,hx,hid,q1,q2,q3⟩:=aWo h1' h2'
    refine ⟨i,x,hx,hid,q3,?_⟩
    have:=aWp hs hx q1 q2 q3 r.2
    rw [hid] at this
    rw [this,hid]
 ·exact .inl rfl
theorem aN3 {s:State} (hr:aV s=true) (hi:nR s) (hq:uA s) (c:Call):uA (eP s c).1:=by
 unfold eP
 rw [if_neg (by rw [hr];simp)]
 split
 ·exact hq
 ·split
  ·exact (aRr hr hq).1
  ·split
   ·exact hq
   ·split
    ·exact hq
    ·have hd:=aZc hr hq c.cmd
     rcases aE6 (sS s c.cmd) c with e | ⟨i,x,e1,_,_,e2⟩
     ·rw [e];exact hd
     ·rw [e2]
      intro y hy
      rcases List.mem_or_eq_of_mem_set hy with hy | rfl
      ·exact hd y hy
      ·intro h;exact ((aWu s c.cmd).2.2 h).2
theorem aWv:uA State.new:=fun x hx=>by cases hx
structure Beh (s:State):Prop where
 right:aV s=true
 ints:nR s
 reps:uA s
theorem Beh.new:Beh State.new:=⟨aGq.1,aGq.2,aWv⟩
theorem Beh.apply {s:State} (h:Beh s) (c:Call):Beh (eP s c).1:=⟨(aBc h.right h.ints c).1,(aBc h.right h.ints c).2,aN3 h.right h.ints h.reps c⟩
theorem Beh.play:∀ (l:List Call) (s:State) (r:List Rep),Beh s→Beh (l.foldl iU (s,r)).1
 | [],s,r,h=>h
 | c::l,s,r,h=>Beh.play l _ _ (h.apply c)
theorem Beh.playM {s:State} (h:Beh s) (l:List Call):Beh (Go.Proofs.YtoaibmbldmckaaaGreat.playM s l).1:=Beh.play l s [] h
def cU (l:List Bal):Int:=(l.map (·.amount)).sum
def BI (l:List Bal):Prop:=∀ b∈l,I64 b.amount
theorem vQ (a b:List Bal):cU (a++b)=cU a+cU b:=by simp [cU]
theorem aN4 (l:List Bal) (i:Nat) (b:Bal):cU (fL l i b)=cU l+b.amount:=by
 unfold fL
 conv=>rhs;rw [←List.take_append_drop i l]
 simp only [vQ]
 simp [cU]
 omega
theorem aE7:∀ (l:List Bal) (i:Nat) (a b:Bal),l[i]?=some a→cU (l.set i b)=cU l - a.amount+b.amount
 | [],i,a,b,h=>by cases h
 | x::l,0,a,b,h=>by
  cases h
  simp [cU]
  omega
 | x::l,i+1,a,b,h=>by
  have:=aE7 l i a b h
  simp only [cU,List.set_cons_succ,List.map_cons,List.sum_cons] at this ⊢
  omega
theorem aWw (l:List Bal) (acc:List UInt8):cU (dD l acc)=cU l:=by
 unfold dD
 split
 ·rw [aN4];simp
 ·rfl
theorem aPu {l:List Bal} (h:BI l) (acc:List UInt8):BI (dD l acc):=by
 unfold dD
 split
 ·intro b hb
  rcases (iH _ _ _ _).1 hb with rfl | hb
  ·show I64 0;omega
  ·exact h b hb
 ·exact h
theorem aRs {l l':List Bal} {x:Bal} (hl:BI l) (hx:I64 x.amount) (h:cJ l x=.inr l'):cU l'=cU l+x.amount∧BI l':=by
 obtain ⟨b,hb⟩:=oQ l x.acc
 unfold cJ at h
 rw [hb] at h
 simp only at h
 have hbi:=aPu hl x.acc b (List.mem_of_getElem? hb)
 have hs:=uV hbi hx
 split at h
 ·cases h
 ·rename_i h0
  have h0:=Decidable.not_not.1 h0
  cases h
  rw [hs] at h0 ⊢
  split at h0
  ·rename_i hi
   rw [if_pos hi]
   refine ⟨?_,fun y hy=>?_⟩
   ·rw [aE7 _ _ _ _ hb,aWw];simp only;omega
   ·rcases List.mem_or_eq_of_mem_set hy with hy | rfl
    ·exact aPu hl x.acc y hy
    ·exact hi
  ·simp at h0
theorem aE8:∀ (l a:List Bal) (r:List Bal×Int),BI a→BI l→aE cJ (fun l=>(l,0)) l a=r→r.2=0→cU r.1=cU a+cU l∧BI r.1
 | [],a,r,ha,hl,h,h0=>by subst h;simp [aE,cU];exact ha
 | x::l,a,r,ha,hl,h,h0=>by
  simp only [aE] at h
  split at h
  ·rename_i r' he
   subst h
   obtain ⟨b,hb⟩:=oQ a x.acc
   unfold cJ at he
   rw [hb] at he
   simp only at he
   split at he
   ·rename_i h1;cases he;exact absurd h0 h1
   ·cases he
  ·rename_i a' he
   obtain ⟨e1,e2⟩:=aRs ha (hl x (List.mem_cons_self ..)) he
   obtain ⟨e3,e4⟩:=aE8 l a' r e2 (fun b hb=>hl b (List.mem_cons_of_mem _ hb)) h h0
   refine ⟨?_,e4⟩
   rw [e3,e1]
   simp [cU]
   omega
theorem aN5 {b l:List Bal} (hb:BI b) (hl:BI l) (h:(cC b l).2=0):cU (cC b l).1=cU b+cU l∧BI (cC b l).1:=by
 unfold cC at h ⊢
 split at h
 ·simp at h
 ·rename_i h1
  rw [if_neg h1]
  exact aE8 l b _ hb hl rfl h
theorem aKo:∀ (l:List Part) (a:List Bal) (r:List Bal×Int),BI a→(∀ p∈l,I64 p.net∧I64 p.tax)→aE lH (fun l=>(l,0)) l a=r→r.2=0→cU r.1=cU a - (l.map (·.net)).sum - (l.map (·.tax)).sum∧BI r.1
 | [],a,r,ha,hl,h,h0=>by subst h;simp [aE];exact ha
 | p::l,a,r,ha,hl,h,h0=>by
  simp only [aE] at h
  split at h
  ·rename_i r' he
   subst h
   unfold lH at he
   split at he
   ·cases he;simp at h0
   ·split at he
    ·cases he;simp at h0
    ·cases he
  ·rename_i a' he
   unfold lH at he
   obtain ⟨p1,p2⟩:=hl p (List.mem_cons_self ..)
   have s1:=aAc p1
   have s2:=aAc p2
   split at he
   ·cases he
   ·rename_i c1
    split at he
    ·cases he
    ·rename_i c2
     cases he
     have c1:=Decidable.not_not.1 c1
     have c2:=Decidable.not_not.1 c2
     rw [s1] at c1 h
     rw [s2] at c2 h
     by_cases m1:p.net=-9223372036854775808
     ·rw [if_pos m1] at c1;simp at c1
     ·by_cases m2:p.tax=-9223372036854775808
      ·rw [if_pos m2] at c2;simp at c2
      ·rw [if_neg m1,if_neg m2] at h
       obtain ⟨e3,e4⟩:=aKo l _ r (fun b hb=>by
        rcases List.mem_append.1 hb with hb | hb
        ·exact ha b hb
        ·simp only [List.mem_cons,List.not_mem_nil,or_false] at hb
         rcases hb with rfl | rfl
         ·show I64 (-p.net);omega
         ·show I64 (-p.tax);omega) (fun q hq=>hl q (List.mem_cons_of_mem _ hq)) h h0
       refine ⟨?_,e4⟩
       rw [e3,vQ]
       simp [cU]
       omega
theorem aWx {t:Total} (ht:∀ p∈t.parts,I64 p.net∧I64 p.tax) (ho:dI t=true) (h:(dG t).2=0):cU (dG t).1=0∧BI (dG t).1:=by
 obtain ⟨_,h2,_,_,h5⟩:=(fM t).1 ho
 obtain ⟨_,_,i3,e1,e2,e3⟩:=(pY (fun p hp=>(ht p hp).1) (fun p hp=>(ht p hp).2) (by omega)).1 h5
 obtain ⟨a,b⟩:=aKo t.parts [⟨[111,119,101,100],t.gross⟩] _ (fun b hb=>by rw [List.mem_singleton.1 hb];exact i3) ht rfl h
 refine ⟨?_,b⟩
 show cU (aE lH (fun l=>(l,0)) t.parts [⟨[111,119,101,100],t.gross⟩]).1=0
 rw [a]
 simp [cU]
 omega
theorem aBf:∀ (l:List Posted) (a b:List Bal),BI a→cU a=0→(∀ p∈l,dI p.total=true∧∀ q∈p.total.parts,I64 q.net∧I64 q.tax)→aE bM (fun b=>(b,0)) l a=(b,0)→cU b=0∧BI b
 | [],a,b,ha,hs,hl,h=>by
  simp only [aE] at h
  cases h
  exact ⟨hs,ha⟩
 | p::l,a,b,ha,hs,hl,h=>by
  simp only [aE] at h
  obtain ⟨p1,p2⟩:=hl p (List.mem_cons_self ..)
  split at h
  ·rename_i r he
   subst h
   unfold bM at he
   split at he
   ·rename_i c
    simp only [Sum.inl.injEq,Prod.mk.injEq] at he
    exact absurd he.2 c
   ·split at he
    ·rename_i c
     simp only [Sum.inl.injEq,Prod.mk.injEq] at he
     exact absurd he.2 c
    ·cases he
  ·rename_i a' he
   unfold bM at he
   split at he
   ·cases he
   ·rename_i c1
    split at he
    ·cases he
    ·rename_i c2
     cases he
     obtain ⟨e1,e2⟩:=aWx p2 p1 (Decidable.not_not.1 c1)
     obtain ⟨e3,e4⟩:=aN5 ha e2 (Decidable.not_not.1 c2)
     exact aBf l _ b e4 (by rw [e3,hs,e1];rfl) (fun q hq=>hl q (List.mem_cons_of_mem _ hq)) h
theorem aPv (l:List Posted) (name:List UInt8):cnt l name≤l.length:=by
 unfold cnt
 have:=List.length_filter_le (fun p:Posted=>p.ref.ser == name) l
 omega
theorem aAh (l:List Call) (n:Nat):∀ c∈lW l n,c.cmd.lines.length<1000000:=fun c hc=>by
 obtain ⟨d,_,rfl⟩:=List.mem_map.1 hc
 show (d.cmd.lines.take 15).length<1000000
 rw [List.length_take];omega
theorem a35 (l:List Call) (n:Nat) (hn:n≤1000) (S:St) (K:KW):C 35 [.agg [.imm [],.imm [],.imm [],.imm [],.imm [],.int .i64 1],.imm ((lW l n).map Call.enc)] S K=
  K (.tup [.agg [.imm ((playM State.new (lW l n)).1.table.map Rate.enc),.imm ((playM State.new (lW l n)).1.ser.map Ser.enc),.imm ((playM State.new (lW l n)).1.posted.map Posted.enc),.imm ((playM State.new (lW l n)).1.book.map Bal.enc),.imm ((playM State.new (lW l n)).1.sess.map Sess.enc),.int .i64 (playM State.new (lW l n)).1.next],.imm ((playM State.new (lW l n)).2.map Rep.enc)]) S:=
 g35 State.new (lW l n) Sml.new (by have:=zA l n;omega) (aAh l n) S K
end Go.Proofs.YtoaibmbldmckaaaGreat
end
section
namespace Go.Pack
def nb (u:Nat):List UInt8:=if h:u<128 then [UInt8.ofNat u] else UInt8.ofNat (u % 128+128)::nb (u / 128)
termination_by u
decreasing_by omega
theorem nb_low {u:Nat} (h:u<128):nb u=[UInt8.ofNat u]:=by rw [nb,dif_pos h]
theorem nb_high {u:Nat} (h:¬ u<128):nb u=UInt8.ofNat (u % 128+128)::nb (u / 128):=by rw [nb,dif_neg h]
def rdL:Nat→Nat→List UInt8→Except Int (Nat×List UInt8)
 | _,_,[]=>.error 3
 | i,acc,c::t=>if i=9∧1<c.toNat then .error 4 else if 128≤c.toNat then rdL (i+1) (acc+c.toNat % 128*2 ^ (7*i)) t else if c.toNat=0∧0<i then .error 4 else .ok (acc+c.toNat % 128*2 ^ (7*i),t)
theorem byte_lt {u:Nat} (h:u<256):(UInt8.ofNat u).toNat=u:=by
 rw [UInt8.toNat_ofNat'];exact Nat.mod_eq_of_lt h
theorem pow_step {i:Nat} (h:i≤9):i=0∨i=1∨i=2∨i=3∨i=4∨i=5∨i=6∨i=7∨i=8∨i=9:=by omega
theorem bL4 {u i:Nat} (h:u<2 ^ (64 - 7*i)) (hi:i≤9) (h2:¬ u<128):i≤8∧u / 128<2 ^ (64 - 7*(i+1)):=by
 rcases pow_step hi with rfl | rfl | rfl | rfl | rfl | rfl | rfl | rfl | rfl | rfl<;>simp only [Nat.reduceMul,Nat.reduceSub,Nat.reducePow,Nat.reduceAdd] at h ⊢<;>omega
theorem aWy {u i acc:Nat} (hi:i≤9):acc+u % 128*2 ^ (7*i)+u / 128*2 ^ (7*(i+1))=acc+u*2 ^ (7*i):=by
 have e:7*(i+1)=7*i+7:=by omega
 rw [e,Nat.pow_add,Nat.add_assoc,←Nat.mul_assoc,Nat.mul_right_comm (u / 128),←Nat.add_mul]
 have h:u % 128+u / 128*2 ^ 7=u:=by show u % 128+u / 128*128=u;omega
 rw [h]
theorem bDk:∀ (n u i acc:Nat) (t:List UInt8),u≤n→u<2 ^ (64 - 7*i)→i≤9→(0<i→0<u)→rdL i acc (nb u++t)=.ok (acc+u*2 ^ (7*i),t)
 | n,u,i,acc,t,hn,hu,hi,hp=>by
  by_cases h:u<128
  ·rw [nb_low h]
   show rdL i acc (UInt8.ofNat u::t)=_
   unfold rdL
   rw [byte_lt (by omega)]
   have h9:¬ (i=9∧1<u):=by
    rintro ⟨rfl,h1⟩
    have:u<2:=hu
    omega
   rw [if_neg h9,if_neg (by omega),if_neg (by rintro ⟨h1,h2⟩;have:=hp h2;omega),Nat.mod_eq_of_lt h]
  ·obtain ⟨h8,hd⟩:=bL4 hu hi h
   rw [nb_high h]
   show rdL i acc (UInt8.ofNat (u % 128+128)::(nb (u / 128)++t))=_
   unfold rdL
   rw [byte_lt (by omega),if_neg (by omega),if_pos (by omega)]
   cases n with
   | zero=>omega
   | succ n=>
    rw [bDk n (u / 128) (i+1) _ t (by omega) hd (by omega) (fun _=>by omega)]
    have e:(u % 128+128) % 128=u % 128:=by omega
    rw [e,aWy hi]
theorem bDl (c:UInt8):UInt8.ofNat c.toNat=c:=UInt8.ofNat_toNat
theorem rd_back:∀ (b:List UInt8) (i acc v:Nat) (t:List UInt8),i≤9→rdL i acc b=.ok (v,t)→∃ u,v=acc+u*2 ^ (7*i)∧b=nb u++t∧(0<i→0<u)∧u<2 ^ (64 - 7*i)
 | [],i,acc,v,t,hi,h=>by cases h
 | c::b,i,acc,v,t,hi,h=>by
  have hc:c.toNat<256:=c.toNat_lt
  unfold rdL at h
  split at h
  ·cases h
  ·rename_i h9
   split at h
   ·rename_i h128
    have h8:i≤8:=by omega
    obtain ⟨u,e1,e2,e3,e4⟩:=rd_back b (i+1) _ v t (by omega) h
    have hp:=e3 (by omega)
    refine ⟨c.toNat - 128+u*128,?_,?_,fun _=>by omega,?_⟩
    ·have hs:=aWy (u:=c.toNat - 128+u*128) (acc:=acc) hi
     have k1:(c.toNat - 128+u*128) % 128=c.toNat % 128:=by omega
     have k2:(c.toNat - 128+u*128) / 128=u:=by omega
     rw [k1,k2] at hs
     rw [e1,hs]
    ·rw [nb_high (by omega)]
     have k1:(c.toNat - 128+u*128) % 128+128=c.toNat:=by omega
     have k2:(c.toNat - 128+u*128) / 128=u:=by omega
     rw [k1,k2,bDl,e2];rfl
    ·rcases pow_step (show i≤9 from hi) with rfl | rfl | rfl | rfl | rfl | rfl | rfl | rfl | rfl | rfl<;>simp only [Nat.reduceMul,Nat.reduceSub,Nat.reducePow,Nat.reduceAdd] at e4 ⊢<;>omega
   ·rename_i h128
    split at h
    ·cases h
    ·rename_i h0
     cases h
     refine ⟨c.toNat,by rw [Nat.mod_eq_of_lt (by omega)],?_,fun hp=>by omega,?_⟩
     ·rw [nb_low (by omega),bDl];rfl
     ·rcases pow_step hi with rfl | rfl | rfl | rfl | rfl | rfl | rfl | rfl | rfl | rfl<;>simp only [Nat.reduceMul,Nat.reduceSub,Nat.reducePow,Nat.reduceAdd]<;>omega
def zig (n:Int):Nat:=if 0≤n then (2*n).toNat else (-2*n - 1).toNat
def zag (u:Nat):Int:=if u % 2=1 then -((u / 2:Nat):Int) - 1 else ((u / 2:Nat):Int)
theorem aZd (n:Int):zag (zig n)=n:=by unfold zag zig;split<;>split<;>omega
theorem aZe (u:Nat):zig (zag u)=u:=by unfold zag zig;split<;>split<;>omega
theorem zig_lt {n:Int} (h:-9223372036854775808≤n∧n≤9223372036854775807):zig n<2 ^ 64:=by unfold zig;split<;>omega
theorem aRt {u:Nat} (h:u<2 ^ 64):-9223372036854775808≤zag u∧zag u≤9223372036854775807:=by unfold zag;split<;>omega
def numP (n:Int):List UInt8:=nb (zig n)
def numR (b:List UInt8):Except Int (Int×List UInt8):=match rdL 0 0 b with
 | .ok (u,t)=>.ok (zag u,t)
 | .error e=>.error e
theorem aGv {n:Int} (h:-9223372036854775808≤n∧n≤9223372036854775807) (t:List UInt8):numR (numP n++t)=.ok (n,t):=by
 unfold numR numP
 rw [bDk (zig n) (zig n) 0 0 t (Nat.le_refl _) (zig_lt h) (by omega) (fun q=>absurd q (by omega))]
 simp only [Nat.zero_add,Nat.mul_zero,Nat.pow_zero,Nat.mul_one,aZd]
theorem aKp {b:List UInt8} {n:Int} {t:List UInt8} (h:numR b=.ok (n,t)):b=numP n++t∧-9223372036854775808≤n∧n≤9223372036854775807:=by
 unfold numR at h
 cases e:rdL 0 0 b with
 | error x=>rw [e] at h;cases h
 | ok r=>
  obtain ⟨u,t'⟩:=r
  rw [e] at h
  cases h
  obtain ⟨u',e1,e2,_,e4⟩:=rd_back b 0 0 u t (by omega) e
  have:u=u':=by rw [e1];simp
  subst this
  unfold numP
  rw [aZe]
  exact ⟨e2,aRt e4⟩
structure Cod (α:Type) where
 put:α→List UInt8
 get:List UInt8→Except Int (α×List UInt8)
 ok:α→Prop
 pos:∀ a,1≤(put a).length
 there:∀ a t,ok a→get (put a++t)=.ok (a,t)
 back:∀ b a t,get b=.ok (a,t)→b=put a++t∧ok a
theorem nb_pos:∀ u,1≤(nb u).length:=fun u=>by
 by_cases h:u<128
 ·rw [nb_low h];exact Nat.le_refl _
 ·rw [nb_high h,List.length_cons];omega
def bDm (n:Int):Prop:=-9223372036854775808≤n∧n≤9223372036854775807
def num:Cod Int:=⟨numP,numR,bDm,fun a=>nb_pos _,fun a t h=>aGv h t,fun b a t h=>aKp h⟩
def Cod.only {α:Type} (c:Cod α) (p:α→Bool) (e:Int):Cod α where
 put:=c.put
 get:=fun b=>match c.get b with
  | .ok (a,t)=>if p a=true then .ok (a,t) else .error e
  | .error x=>.error x
 ok:=fun a=>c.ok a∧p a=true
 pos:=c.pos
 there:=fun a t h=>by simp only [c.there a t h.1,h.2,if_true]
 back:=fun b a t h=>by
  cases e:c.get b with
  | error x=>rw [e] at h;cases h
  | ok r=>
   obtain ⟨a',t'⟩:=r
   rw [e] at h
   simp only at h
   split at h
   ·rename_i hp
    cases h
    exact ⟨(c.back b _ _ e).1,(c.back b _ _ e).2,hp⟩
   ·cases h
def Cod.both {α β:Type} (c:Cod α) (d:Cod β):Cod (α×β) where
 put:=fun x=>c.put x.1++d.put x.2
 get:=fun b=>match c.get b with
  | .ok (a,t)=>(match d.get t with
   | .ok (x,t')=>.ok ((a,x),t')
   | .error x=>.error x)
  | .error x=>.error x
 ok:=fun x=>c.ok x.1∧d.ok x.2
 pos:=fun x=>by rw [List.length_append];have:=c.pos x.1;omega
 there:=fun x t h=>by
  rw [List.append_assoc]
  simp only [c.there x.1 _ h.1,d.there x.2 t h.2]
 back:=fun b x t h=>by
  cases e:c.get b with
  | error y=>rw [e] at h;cases h
  | ok r=>
   obtain ⟨a,t1⟩:=r
   rw [e] at h
   simp only at h
   cases e2:d.get t1 with
   | error y=>rw [e2] at h;cases h
   | ok r2=>
    obtain ⟨x2,t2⟩:=r2
    rw [e2] at h
    cases h
    obtain ⟨b1,o1⟩:=c.back b _ _ e
    obtain ⟨b2,o2⟩:=d.back t1 _ _ e2
    exact ⟨by rw [b1,b2,List.append_assoc],o1,o2⟩
def Cod.map {α β:Type} (c:Cod α) (f:α→β) (g:β→α) (hf:∀ a,g (f a)=a) (hg:∀ b,f (g b)=b):Cod β where
 put:=fun b=>c.put (g b)
 get:=fun l=>match c.get l with
  | .ok (a,t)=>.ok (f a,t)
  | .error x=>.error x
 ok:=fun b=>c.ok (g b)
 pos:=fun b=>c.pos _
 there:=fun b t h=>by simp only [c.there (g b) t h,hg]
 back:=fun l b t h=>by
  cases e:c.get l with
  | error y=>rw [e] at h;cases h
  | ok r=>
   obtain ⟨a,t1⟩:=r
   rw [e] at h
   cases h
   rw [hf]
   exact c.back l _ _ e
def aE9 (most:Nat) (n:Int):Bool:=decide (0≤n)&&decide (n≤most)
def upto (most:Nat):Cod Int:=num.only (aE9 most) 2
theorem aGw {most n:Nat} (h:n≤most):aE9 most (n:Int)=true:=by
 unfold aE9
 rw [decide_eq_true (by omega),decide_eq_true (by omega)];rfl
def aBg (most:Nat) (b:List UInt8):Except Int (List UInt8×List UInt8):=match (upto most).get b with
 | .ok (n,t)=>if n≤(t.length:Int) then .ok (t.take n.toNat,t.drop n.toNat) else .error 3
 | .error x=>.error x
def text (most:Nat) (hm:most≤1000000):Cod (List UInt8) where
 put:=fun s=>numP s.length++s
 get:=aBg most
 ok:=fun s=>s.length≤most
 pos:=fun s=>by rw [List.length_append];have:=nb_pos (zig s.length);show 1≤(numP s.length).length+_;unfold numP;omega
 there:=fun s t h=>by
  have e:(upto most).get (numP s.length++(s++t))=.ok ((s.length:Int),s++t):=(upto most).there (s.length:Int) (s++t) ⟨⟨by omega,by omega⟩,aGw h⟩
  unfold aBg
  rw [List.append_assoc,e]
  simp only [List.length_append]
  rw [if_pos (by omega)]
  have k:((s.length:Int)).toNat=s.length:=by omega
  rw [k,List.take_left',List.drop_left']<;>rfl
 back:=fun b s t h=>by
  unfold aBg at h
  cases e:(upto most).get b with
  | error y=>rw [e] at h;cases h
  | ok r=>
   obtain ⟨n,t1⟩:=r
   rw [e] at h
   simp only at h
   split at h
   ·rename_i hn
    cases h
    obtain ⟨b1,⟨i1,i2⟩,hp⟩:=(upto most).back b _ _ e
    unfold aE9 at hp
    simp only [Bool.and_eq_true,decide_eq_true_eq] at hp
    have hl:(t1.take n.toNat).length=n.toNat:=by rw [List.length_take];omega
    refine ⟨?_,by rw [hl];omega⟩
    rw [b1,hl,List.append_assoc,List.take_append_drop]
    have k:((n.toNat:Nat):Int)=n:=by omega
    rw [k];rfl
   ·cases h
def nV {α:Type} (c:Cod α):Nat→List UInt8→Except Int (List α×List UInt8)
 | 0,b=>.ok ([],b)
 | n+1,b=>match c.get b with
  | .ok (a,t)=>(match nV c n t with
   | .ok (l,t')=>.ok (a::l,t')
   | .error x=>.error x)
  | .error x=>.error x
theorem aEa {α:Type} (c:Cod α):∀ (l:List α) (t:List UInt8),(∀ a∈l,c.ok a)→nV c l.length (l.flatMap c.put++t)=.ok (l,t)
 | [],t,_=>rfl
 | a::l,t,h=>by
  rw [List.flatMap_cons,List.append_assoc,List.length_cons]
  unfold nV
  rw [c.there a _ (h a (List.mem_cons_self ..))]
  simp only [aEa c l t fun x hx=>h x (List.mem_cons_of_mem _ hx)]
theorem aGx {α:Type} (c:Cod α):∀ (n:Nat) (b:List UInt8) (l:List α) (t:List UInt8),nV c n b=.ok (l,t)→b=l.flatMap c.put++t∧l.length=n∧∀ a∈l,c.ok a
 | 0,b,l,t,h=>by cases h;exact ⟨rfl,rfl,fun a ha=>(by cases ha)⟩
 | n+1,b,l,t,h=>by
  unfold nV at h
  cases e:c.get b with
  | error y=>rw [e] at h;cases h
  | ok r=>
   obtain ⟨a,t1⟩:=r
   rw [e] at h
   simp only at h
   cases e2:nV c n t1 with
   | error y=>rw [e2] at h;cases h
   | ok r2=>
    obtain ⟨l2,t2⟩:=r2
    rw [e2] at h
    cases h
    obtain ⟨b1,o1⟩:=c.back b _ _ e
    obtain ⟨b2,o2,o3⟩:=aGx c n t1 _ _ e2
    refine ⟨by rw [b1,b2,List.flatMap_cons,List.append_assoc],by rw [List.length_cons,o2],fun x hx=>?_⟩
    rcases List.mem_cons.1 hx with rfl | hx
    ·exact o1
    ·exact o3 x hx
theorem aKq {α:Type} (c:Cod α):∀ l:List α,l.length≤(l.flatMap c.put).length
 | []=>Nat.le_refl _
 | a::l=>by
  have:=aKq c l
  have:=c.pos a
  rw [List.flatMap_cons,List.length_append,List.length_cons];omega
end Go.Pack
end
section
namespace Go.Pack
set_option linter.unusedVariables false
set_option linter.unusedSimpArgs false
set_option maxRecDepth 100000
def aEb {α:Type} (c:Cod α) (most:Nat) (b:List UInt8):Except Int (List α×List UInt8):=match (upto most).get b with
 | .ok (n,t)=>if n≤(t.length:Int) then nV c n.toNat t else .error 3
 | .error x=>.error x
def Cod.list {α:Type} (c:Cod α) (most:Nat) (hm:most≤1000000):Cod (List α) where
 put:=fun l=>numP l.length++l.flatMap c.put
 get:=aEb c most
 ok:=fun l=>l.length≤most∧∀ a∈l,c.ok a
 pos:=fun l=>by rw [List.length_append];have:=nb_pos (zig l.length);show 1≤(numP l.length).length+_;unfold numP;omega
 there:=fun l t h=>by
  have e:(upto most).get (numP l.length++(l.flatMap c.put++t))=.ok ((l.length:Int),l.flatMap c.put++t):=(upto most).there (l.length:Int) _ ⟨⟨by have:=h.1;omega,by have:=h.1;omega⟩,aGw h.1⟩
  unfold aEb
  rw [List.append_assoc,e]
  simp only [List.length_append]
  have:=aKq c l
  rw [if_pos (by omega)]
  have k:((l.length:Int)).toNat=l.length:=by omega
  rw [k]
  exact aEa c l t h.2
 back:=fun b l t h=>by
  unfold aEb at h
  cases e:(upto most).get b with
  | error y=>rw [e] at h;cases h
  | ok r=>
   obtain ⟨n,t1⟩:=r
   rw [e] at h
   simp only at h
   split at h
   ·obtain ⟨b1,⟨i1,i2⟩,hp⟩:=(upto most).back b _ _ e
    unfold aE9 at hp
    simp only [Bool.and_eq_true,decide_eq_true_eq] at hp
    obtain ⟨b2,o2,o3⟩:=aGx c n.toNat t1 _ _ h
    refine ⟨?_,by rw [o2];omega,o3⟩
    have k:((l.length:Nat):Int)=n:=by rw [o2];omega
    rw [b1,b2,k,List.append_assoc];rfl
   ·cases h
def flagR (b:List UInt8):Except Int (Bool×List UInt8):=match numR b with
 | .ok (n,t)=>if n=0 then .ok (false,t) else if n=1 then .ok (true,t) else .error 4
 | .error x=>.error x
def flag:Cod Bool where
 put:=fun f=>numP (if f then 1 else 0)
 get:=flagR
 ok:=fun _=>True
 pos:=fun f=>nb_pos _
 there:=fun f t _=>by
  unfold flagR
  rw [aGv (by split<;>decide)]
  cases f<;>rfl
 back:=fun b f t h=>by
  unfold flagR at h
  cases e:numR b with
  | error y=>rw [e] at h;cases h
  | ok r=>
   obtain ⟨n,t1⟩:=r
   rw [e] at h
   simp only at h
   obtain ⟨b1,_⟩:=aKp e
   split at h
   ·rename_i h0
    cases h
    exact ⟨by rw [b1,h0];rfl,trivial⟩
   ·split at h
    ·rename_i h1
     cases h
     exact ⟨by rw [b1,h1];rfl,trivial⟩
    ·cases h
end Go.Pack
namespace Go.Proofs.YtoaibmbldmckaaaGreat
open Go.AM Go.Pack Tryz
set_option linter.unusedVariables false
set_option linter.unusedSimpArgs false
set_option maxRecDepth 100000
def txt:Cod (List UInt8):=Go.Pack.text 64 (by decide)
def kL:Cod Date:=(num.both (num.both num)).map (fun x=>⟨x.1,x.2.1,x.2.2⟩) (fun d=>(d.y,d.m,d.d)) (fun _=>rfl) (fun _=>rfl)
def zN:Cod Rate:=(txt.both (kL.both num)).map (fun x=>⟨x.1,x.2.1,x.2.2⟩) (fun r=>(r.cat,r.day,r.bp)) (fun _=>rfl) (fun _=>rfl)
structure SerI where
 name:List UInt8
 limit:Int
 shut:Bool
def aIk:Cod SerI:=(txt.both (num.both flag)).map (fun x=>⟨x.1,x.2.1,x.2.2⟩) (fun r=>(r.name,r.limit,r.shut)) (fun _=>rfl) (fun _=>rfl)
structure PartI where
 cat:List UInt8
 bp:Int
 net:Int
def aBh:Cod PartI:=(txt.both (num.both num)).map (fun x=>⟨x.1,x.2.1,x.2.2⟩) (fun r=>(r.cat,r.bp,r.net)) (fun _=>rfl) (fun _=>rfl)
structure PostI where
 ser:List UInt8
 day:Date
 ofSer:List UInt8
 ofNum:Int
 parts:List PartI
def aF6:Cod PostI:=(txt.both (kL.both (txt.both (num.both (aBh.list 12 (by decide)))))).map (fun x=>⟨x.1,x.2.1,x.2.2.1,x.2.2.2.1,x.2.2.2.2⟩) (fun r=>(r.ser,r.day,r.ofSer,r.ofNum,r.parts)) (fun _=>rfl) (fun _=>rfl)
structure SessI where
 id:Int
 last:Int
 why:Int
 number:Int
 gross:Int
def zO:Cod SessI:=(num.both (num.both (num.both (num.both num)))).map (fun x=>⟨x.1,x.2.1,x.2.2.1,x.2.2.2.1,x.2.2.2.2⟩) (fun r=>(r.id,r.last,r.why,r.number,r.gross)) (fun _=>rfl) (fun _=>rfl)
structure ImgI where
 table:List Rate
 ser:List SerI
 posted:List PostI
 sess:List SessI
 next:Int
def aBq:Cod ImgI:=((zN.list 24 (by decide)).both ((aIk.list 8 (by decide)).both ((aF6.list 40 (by decide)).both ((zO.list 8 (by decide)).both num)))).map (fun x=>⟨x.1,x.2.1,x.2.2.1,x.2.2.2.1,x.2.2.2.2⟩) (fun r=>(r.table,r.ser,r.posted,r.sess,r.next)) (fun _=>rfl) (fun _=>rfl)
end Go.Proofs.YtoaibmbldmckaaaGreat
end
section
namespace Go.Pack
theorem aWz:∀ (k u:Nat),u<128 ^ (k+1)→(nb u).length≤k+1
 | 0,u,h=>by rw [nb_low (by simpa using h)];exact Nat.le_refl _
 | k+1,u,h=>by
  by_cases c:u<128
  ·rw [nb_low c];show 1≤_;omega
  ·rw [nb_high c,List.length_cons]
   have:u / 128<128 ^ (k+1):=by
    rw [Nat.div_lt_iff_lt_mul (by decide)]
    rw [Nat.pow_succ] at h
    exact h
   have:=aWz k (u / 128) this
   omega
theorem numP_len {n:Int} (h:bDm n):(numP n).length≤10:=by
 have h1:=zig_lt h
 exact aWz 9 (zig n) (Nat.lt_trans h1 (by decide))
def Cod.Len {α:Type} (c:Cod α) (p:α→Prop) (n:Nat):Prop:=∀ a,p a→(c.put a).length≤n
theorem Len.flag:flag.Len (fun _=>True) 10:=fun f _=>by
 show (numP (if f then 1 else 0)).length≤10
 exact numP_len (by split<;>exact ⟨by decide,by decide⟩)
end Go.Pack
end
section
namespace Go.Proofs.YtoaibmbldmckaaaGreat
open Go.AM Go.Pack Tryz
def iK (p:Part):PartI:=⟨p.cat,p.bp,p.net⟩
def dV (p:Posted):PostI:=⟨p.ref.ser,p.day,p.of.ser,p.of.num,p.total.parts.map iK⟩
def oC (s:Ser):SerI:=⟨s.name,s.limit,s.shut⟩
def qI (s:Sess):SessI:=⟨s.id,s.last,s.reply.why,s.reply.number,s.reply.gross⟩
def aAi (s:State):ImgI:=⟨s.table,s.ser.map oC,s.posted.map dV,s.sess.map qI,s.next⟩
def lB (s:State):List UInt8:=if aV s=false then [] else aBq.put (aAi s)
def vR (p:PartI):Part:=⟨p.cat,p.bp,p.net,0⟩
def uC (p:PostI):Posted:=⟨⟨p.ser,0⟩,p.day,⟨0,0,0,p.parts.map vR⟩,⟨p.ofSer,p.ofNum⟩,false⟩
def aN6 (s:SerI):Ser:=⟨s.name,1,s.limit,s.shut⟩
def aGy (s:SessI):Sess:=⟨s.id,s.last,⟨s.why,s.number,s.gross⟩⟩
def uD (x:ImgI):State:=⟨x.table,x.ser.map aN6,x.posted.map uC,[],x.sess.map aGy,x.next⟩
def State.zero:State:=⟨[],[],[],[],[],0⟩
def gC (st:List Part) (p:Part):Option (List Part)⊕List Part:=if (bG p.net p.bp).2=0 then .inr (st++[tY p]) else .inl none
def sD (ps:List Part):Option Total:=
 if (cZ (ps.map (·.net))).2=true then (if (cZ (ps.map (·.tax))).2=true then (if (cZ [(cZ (ps.map (·.net))).1,(cZ (ps.map (·.tax))).1]).2=true then
  some ⟨(cZ (ps.map (·.net))).1,(cZ (ps.map (·.tax))).1,(cZ [(cZ (ps.map (·.net))).1,(cZ (ps.map (·.tax))).1]).1,ps⟩ else none) else none) else none
def qJ (t:Total):Option Total:=match aE gC some t.parts [] with
 | none=>none
 | some ps=>sD ps
def fH (st:List Ser×List Posted) (p:Posted):Option (List Ser×List Posted)⊕(List Ser×List Posted):=
 if fC st.1 p.ref.ser<0 then .inl none else match qJ p.total with
 | none=>.inl none
 | some t=>match st.1[(fC st.1 p.ref.ser).toNat]? with
  | none=>.inl none
  | some x=>if p.of=Ref.zero then .inr (st.1.set (fC st.1 p.ref.ser).toNat { x with next:=wr .i64 (x.next+1) },st.2++[{ p with ref:=⟨p.ref.ser,x.next⟩,total:=t }]) else
   if bC st.2 p.of<0 then .inl none else .inr (st.1.set (fC st.1 p.ref.ser).toNat { x with next:=wr .i64 (x.next+1) },cE st.2 (bC st.2 p.of).toNat++[{ p with ref:=⟨p.ref.ser,x.next⟩,total:=t }])
def sJ (s:State):Option State:=match aE fH some s.posted (s.ser,[]) with
 | none=>none
 | some r=>if (cK r.2).2=0 then some { s with ser:=r.1,posted:=r.2,book:=(cK r.2).1 } else none
def fT (b:List UInt8):State×Int:=match aBq.get b with
 | .error e=>(State.zero,e)
 | .ok (x,t)=>if t=[] then (match sJ (uD x) with
  | none=>(State.zero,4)
  | some s=>if aV s=true then (s,0) else (State.zero,4)) else (State.zero,5)
theorem aN7 {p:Part} (h:PG p):tY (vR (iK p))=p:=by
 show (⟨p.cat,p.bp,p.net,(bG p.net p.bp).1⟩:Part)=p
 rw [h.tax]
theorem bDn:∀ (l acc:List Part),(∀ p∈l,PG p)→aE gC some (l.map (fun p=>vR (iK p))) acc=some (acc++l)
 | [],acc,_=>by simp [aE]
 | p::l,acc,h=>by
  have hp:=h p (List.mem_cons_self ..)
  have e:gC acc (vR (iK p))=.inr (acc++[p]):=by
   unfold gC
   rw [aN7 hp,if_pos]
   show (bG p.net p.bp).2=0
   rw [hp.tax]
  simp only [List.map_cons,aE,e]
  rw [bDn l _ fun q hq=>h q (List.mem_cons_of_mem _ hq),List.append_assoc];rfl
theorem aN8 {t:Total} (h:dI t=true) (hi:∀ p∈t.parts,I64 p.net∧I64 p.tax):qJ ⟨0,0,0,(t.parts.map iK).map vR⟩=some t:=by
 obtain ⟨h1,h2,h3,_,h5⟩:=(fM t).1 h
 have hs:=h5
 unfold tO at hs
 repeat' split at hs
 all_goals first | cases hs;done | skip
 rename_i c1 c2 c3 c4 c5
 have c6:=of_decide_eq_true hs
 unfold qJ
 have e:((t.parts.map iK).map vR)=t.parts.map (fun p=>vR (iK p)):=by rw [List.map_map];rfl
 simp only [e,bDn t.parts [] h3,List.nil_append]
 unfold sD
 rw [if_pos c1,if_pos c2,c4,c5,if_pos c3,c6]
theorem sK:∀ (l done:List Posted) (is:List Int) (i:Nat),is.getD i 0≤(bH done l is).getD i 0
 | [],done,is,i=>Int.le_refl _
 | p::l,done,is,i=>by
  simp only [bH]
  refine Int.le_trans ?_ (sK l _ _ i)
  unfold dK
  split
  ·exact Int.le_refl _
  ·unfold bump
   simp only [List.getD_eq_getElem?_getD,List.getElem?_set]
   split
   ·rename_i e;subst e
    split
    ·rename_i h;simp only [List.getElem?_eq_getElem h,Option.getD_some];omega
    ·rename_i h;rw [List.getElem?_eq_none (by omega)];exact Int.le_refl _
   ·exact Int.le_refl _
theorem qK:∀ (a b done:List Posted) (is:List Int),bH done (a++b) is=bH (done++a) b (bH done a is)
 | [],b,done,is=>by simp [bH]
 | p::a,b,done,is=>by
  simp only [List.cons_append,bH]
  rw [qK a b,List.append_assoc];rfl
theorem aRu (a b:List Posted) (i:Nat):(bS a).getD i 0≤(bS (a++b)).getD i 0:=by
 unfold bS
 rw [qK]
 exact sK ..
def vE (ser:List Ser) (D:List Posted):List Ser:=ser.map fun x=>{ x with next:=cnt D x.name+1 }
def bkS (D:List Posted):List Posted:=D.mapIdx fun j q=>{ q with back:=decide ((bS D).getD j 0=1) }
theorem bEr (D:List Posted):(bkS D).map mO=D.map mO:=by
 apply List.ext_getElem?
 intro i
 unfold bkS
 simp only [List.getElem?_map,List.getElem?_mapIdx]
 cases D[i]?<;>rfl
theorem aRv (D:List Posted) (r:Ref):bC (bkS D) r=bC D r:=by rw [←qC (bkS D),bEr,qC]
theorem aRw {l:List Posted} {r:Ref} (h:0≤bC l r):(bC l r).toNat<l.length:=by
 unfold bC at h ⊢
 rcases kX (fun p:Posted=>decide (p.ref=r)) l with e | ⟨i,a,e,hi,_⟩
 ·omega
 ·have:=(List.getElem?_eq_some_iff.1 hi).1
  rw [e];omega
theorem bEs {D:List Posted} {p:Posted} (hO:∀ i q,D[i]?=some q→nQ (D.take i) q) (hp:p.of=Ref.zero):bkS (D++[p])=bkS D++[{ p with back:=false }]:=by
 have hc:bS (D++[p])=bS D:=by rw [lK];unfold dK;rw [if_pos hp]
 have h0:=(kK hO).2.1 D.length (Nat.le_refl _)
 unfold bkS
 rw [hc,List.mapIdx_append]
 simp only [List.mapIdx_cons,List.mapIdx_nil,Nat.zero_add,h0]
 simp
theorem bEt {D:List Posted} {p:Posted} (h40:D.length≤40) (hO:∀ i q,D[i]?=some q→nQ (D.take i) q) (hp:p.of≠Ref.zero) (h0:0≤bC D p.of) (h1:(bS (D++[p])).getD (bC D p.of).toNat 0≤1):
  bkS (D++[p])=cE (bkS D) (bC D p.of).toNat++[{ p with back:=false }]:=by
 have hk:=aRw h0
 obtain ⟨k,hkk⟩:∃ k,k=(bC D p.of).toNat:=⟨_,rfl⟩
 obtain ⟨r1,r2,r3⟩:=kK hO
 have hc:bS (D++[p])=bump (bS D) k:=by rw [lK];unfold dK;rw [if_neg hp,hkk]
 rw [←hkk] at h1 hk ⊢
 have g:∀ j,(bS (D++[p])).getD j 0=if k=j then (bS D).getD j 0+1 else (bS D).getD j 0:=by
  intro j
  rw [hc]
  unfold bump
  simp only [List.getD_eq_getElem?_getD,List.getElem?_set]
  split
  ·rename_i e;subst e
   rw [if_pos (by omega)];rfl
  ·rfl
 have hD:=r2 D.length (Nat.le_refl _)
 have hk1:=g k
 rw [if_pos rfl] at hk1
 have hk0:=r1 k
 have ek:(bkS D)[k]?=some { D[k] with back:=decide ((bS D).getD k 0=1) }:=by
  unfold bkS
  rw [List.getElem?_mapIdx,List.getElem?_eq_getElem hk];rfl
 unfold cE
 simp only [ek]
 have e1:bkS (D++[p])=(D.mapIdx fun j q=>{ q with back:=decide ((bS (D++[p])).getD j 0=1) })++[{ p with back:=false }]:=by
  unfold bkS
  rw [List.mapIdx_append]
  simp only [List.mapIdx_cons,List.mapIdx_nil,Nat.zero_add]
  rw [g D.length,if_neg (by omega),hD]
  simp
 rw [e1]
 congr 1
 apply List.ext_getElem?
 intro j
 rw [List.getElem?_mapIdx,List.getElem?_set]
 by_cases e:k=j
 ·subst e
  rw [if_pos rfl,List.getElem?_eq_getElem hk,if_pos (by unfold bkS;rw [List.length_mapIdx];exact hk),Option.map_some,hk1]
  have:(bS D).getD k 0=0:=by omega
  rw [this];rfl
 ·rw [if_neg e,g j,if_neg e]
  unfold bkS
  rw [List.getElem?_mapIdx]
theorem aN9 {ser:List Ser} (hs:ser.Pairwise (fun a b=>fU a.name b.name=true)) (D:List Posted):(vE ser D).Pairwise (fun a b=>fU a.name b.name=true):=by
 unfold vE
 rw [List.pairwise_map]
 exact hs
theorem aX0 {ser:List Ser} (hs:ser.Pairwise (fun a b=>fU a.name b.name=true)) {D:List Posted} {i:Nat} {x:Ser} (hi:ser[i]?=some x) {p:Posted} (hn:x.name=p.ref.ser) (hb:cnt D x.name≤1000):
  (vE ser D).set i { x with next:=wr .i64 (cnt D x.name+1+1) }=vE ser (D++[p]):=by
 have h0:=xG D x.name
 apply List.ext_getElem?
 intro j
 unfold vE
 rw [List.getElem?_set,List.getElem?_map]
 by_cases e:i=j
 ·subst e
  rw [if_pos rfl,if_pos (by rw [List.length_map];exact (List.getElem?_eq_some_iff.1 hi).1),List.getElem?_map,hi,Option.map_some,kZ,vA,if_pos hn.symm,iV ⟨by omega,by omega⟩]
 ·rw [if_neg e,List.getElem?_map]
  cases hj:ser[j]? with
  | none=>rfl
  | some y=>
   have hne:¬ p.ref.ser=y.name:=by
    rw [←hn]
    intro e'
    have h1:=nP hs hi
    have h2:=nP hs hj
    rw [e'] at h1
    omega
   rw [Option.map_some,Option.map_some,kZ,vA,if_neg hne,Int.add_zero]
theorem aX1 {ser:List Ser} (hs:ser.Pairwise (fun a b=>fU a.name b.name=true)) {D:List Posted} {p:Posted} (hD:D.length<40) (hO:∀ i q,D[i]?=some q→nQ (D.take i) q) (hp:nQ D p)
  (hi:∀ q∈p.total.parts,I64 q.net∧I64 q.tax) (hn:∃ s∈ser,s.name=p.ref.ser) (hm:p.ref.num=cnt D p.ref.ser+1) (hc:∀ j,(bS (D++[p])).getD j 0≤1):
  fH (vE ser D,bkS D) (uC (dV p))=.inr (vE ser (D++[p]),bkS (D++[p])):=by
 obtain ⟨s,hsm,hsn⟩:=hn
 obtain ⟨i,his⟩:=List.getElem?_of_mem hsm
 have hcl:=aPv D p.ref.ser
 have hi2:(vE ser D)[i]?=some { s with next:=cnt D s.name+1 }:=by unfold vE;rw [List.getElem?_map,his];rfl
 have hat:fC (vE ser D) (uC (dV p)).ref.ser=(i:Int):=by
  have:=nP (aN9 hs D) hi2
  rw [←this]
  exact congrArg _ hsn.symm
 have hr:qJ (uC (dV p)).total=some p.total:=aN8 hp.2.1 hi
 have hof:(uC (dV p)).of=p.of:=rfl
 have hq:cnt D s.name+1=p.ref.num:=by rw [hsn,hm]
 have hset:=aX0 hs (D:=D) his (p:=p) hsn (by rw [hsn];omega)
 unfold fH
 simp only [hat,hr,Int.toNat_natCast,hi2,hof,aRv]
 rw [if_neg (by omega),hset,hq]
 by_cases c:p.of=Ref.zero
 ·rw [if_pos c,bEs hO c];rfl
 ·rw [if_neg c]
  rcases hp.2.2 with h | ⟨h,_⟩
  ·exact absurd h c
  ·rw [if_neg (by omega),bEt (by omega) hO c h (hc _)];rfl
theorem bDo {ser:List Ser} (hs:ser.Pairwise (fun a b=>fU a.name b.name=true)) {P:List Posted} (h40:P.length≤40) (hO:∀ i q,P[i]?=some q→nQ (P.take i) q) (hi:∀ p∈P,∀ q∈p.total.parts,I64 q.net∧I64 q.tax)
  (hn:Nums ser P) (hc:∀ j,(bS P).getD j 0≤1):∀ (l D:List Posted),P=D++l→aE fH some (l.map fun p=>uC (dV p)) (vE ser D,bkS D)=some (vE ser P,bkS P)
 | [],D,e=>by rw [List.append_nil] at e;subst e;rfl
 | p::l,D,e=>by
  have hlen:P.length=D.length+(l.length+1):=by rw [e];simp
  have hget:P[D.length]?=some p:=by rw [e];simp
  have htake:P.take D.length=D:=by rw [e];simp
  have hOD:∀ i q,D[i]?=some q→nQ (D.take i) q:=fun i q hq=>by
   have hlt:=(List.getElem?_eq_some_iff.1 hq).1
   have:=hO i q (by rw [e,List.getElem?_append_left hlt];exact hq)
   rwa [e,List.take_append_of_le_length (by omega)] at this
  have hp:=hO _ _ hget
  have hnum:=hn.num _ _ hget
  rw [htake] at hp hnum
  have e':P=(D++[p])++l:=by rw [e,List.append_assoc];rfl
  have st:=aX1 hs (by omega) hOD hp (hi p (by rw [e];simp)) hnum.1 hnum.2 (fun j=>Int.le_trans (by rw [e'];exact aRu _ _ _) (hc j))
  simp only [List.map_cons,aE,st]
  exact bDo hs h40 hO hi hn hc l (D++[p]) e'
theorem aNa {s:State} (hr:aV s=true) (hi:nR s):sJ (uD (aAi s))=some s:=by
 obtain ⟨_,h2,_,h4,h5,h6⟩:=(bZ s).1 hr
 obtain ⟨h40,hO,hb⟩:=(fN _).1 h4
 have hs:=((gB _).1 h2).2.2
 have hc:∀ j,(bS s.posted).getD j 0≤1:=fun j=>by
  by_cases hj:j<s.posted.length
  ·exact (hb j _ (List.getElem?_eq_getElem hj)).1
  ·rw [(kK hO).2.1 j (by omega)];decide
 have h0:vE s.ser []=s.ser.map fun x=>aN6 (oC x):=by
  unfold vE
  refine List.map_congr_left fun x _=>?_
  rfl
 have hser:vE s.ser s.posted=s.ser:=by
  unfold vE
  conv=>rhs;rw [←List.map_id s.ser]
  refine List.map_congr_left fun x hx=>?_
  show ({ x with next:=cnt s.posted x.name+1 }:Ser)=x
  rw [←h5.next x hx]
 have hpost:bkS s.posted=s.posted:=by
  apply List.ext_getElem?
  intro j
  unfold bkS
  rw [List.getElem?_mapIdx]
  cases hj:s.posted[j]? with
  | none=>rfl
  | some p=>
   rw [Option.map_some,←(hb j p hj).2]
 have hl:=bDo hs h40 hO hi h5 hc s.posted [] rfl
 rw [h0,hser,hpost] at hl
 unfold sJ
 have e1:(uD (aAi s)).posted=s.posted.map fun p=>uC (dV p):=by
  show (s.posted.map dV).map uC=_
  rw [List.map_map];rfl
 have e2:(uD (aAi s)).ser=s.ser.map fun x=>aN6 (oC x):=by
  show (s.ser.map oC).map aN6=_
  rw [List.map_map];rfl
 have e3:(bkS [])=[]:=rfl
 rw [e3] at hl
 rw [e1,e2,hl]
 simp only [h6,if_true]
 have e4:(s.sess.map qI).map aGy=s.sess:=by
  rw [List.map_map]
  conv=>rhs;rw [←List.map_id s.sess]
  exact List.map_congr_left fun x _=>rfl
 show some (⟨s.table,s.ser,s.posted,s.book,(s.sess.map qI).map aGy,s.next⟩:State)=some s
 rw [e4]
theorem aEc:∀ (l acc:List Part) (ps:List Part),aE gC some l acc=some ps→ps.map iK=acc.map iK++l.map iK
 | [],acc,ps,h=>by cases h;simp
 | p::l,acc,ps,h=>by
  simp only [aE] at h
  unfold gC at h
  split at h
  ·rename_i r he
   split at he
   ·cases he
   ·cases he;cases h
  ·rename_i st he
   split at he
   ·cases he
    have:=aEc l _ _ h
    rw [this,List.map_append,List.append_assoc];rfl
   ·cases he
theorem aRx {t t':Total} (h:qJ t=some t'):t'.parts.map iK=t.parts.map iK:=by
 unfold qJ at h
 split at h
 ·cases h
 ·rename_i ps hp
  have:=aEc _ _ _ hp
  unfold sD at h
  repeat' split at h
  all_goals first | cases h;done | skip
  cases h
  simpa using this
theorem aIl (l:List Posted) (k:Nat):(cE l k).map dV=l.map dV:=by
 unfold cE
 split
 ·rfl
 ·rename_i p hp
  rw [List.map_set]
  apply List.ext_getElem?
  intro j
  rw [List.getElem?_set]
  split
  ·rename_i e;subst e
   have:=(List.getElem?_eq_some_iff.1 hp).1
   rw [if_pos (by rw [List.length_map];exact this),List.getElem?_map,hp];rfl
  ·rfl
theorem zP {l:List Ser} {k:Nat} {x:Ser} (h:l[k]?=some x) (n:Int):(l.set k { x with next:=n }).map oC=l.map oC:=by
 rw [List.map_set]
 apply List.ext_getElem?
 intro j
 rw [List.getElem?_set]
 split
 ·rename_i e;subst e
  have:=(List.getElem?_eq_some_iff.1 h).1
  rw [if_pos (by rw [List.length_map];exact this),List.getElem?_map,h];rfl
 ·rfl
theorem aEd:∀ (l:List Posted) (st r:List Ser×List Posted),aE fH some l st=some r→r.1.map oC=st.1.map oC∧r.2.map dV=st.2.map dV++l.map dV
 | [],st,r,h=>by cases h;simp
 | p::l,st,r,h=>by
  simp only [aE] at h
  have key:∀ st',fH st p=.inr st'→st'.1.map oC=st.1.map oC∧st'.2.map dV=st.2.map dV++[dV p]:=by
   intro st' he
   unfold fH at he
   split at he
   ·cases he
   ·split at he
    ·cases he
    ·rename_i t ht
     have hb:=aRx ht
     split at he
     ·cases he
     ·rename_i x hx
      have hp:dV { p with ref:=⟨p.ref.ser,x.next⟩,total:=t }=dV p:=by
       show (⟨p.ref.ser,p.day,p.of.ser,p.of.num,t.parts.map iK⟩:PostI)=_
       rw [hb];rfl
      split at he
      ·cases he
       refine ⟨zP hx _,?_⟩
       rw [List.map_append,List.map_cons,hp];rfl
      ·split at he
       ·cases he
       ·cases he
        refine ⟨zP hx _,?_⟩
        rw [List.map_append,List.map_cons,hp,aIl];rfl
  cases he:fH st p with
  | inl r'=>
   rw [he] at h
   have:r'=none:=by
    unfold fH at he
    repeat' split at he
    all_goals first | cases he;rfl | cases he
   rw [this] at h;cases h
  | inr st'=>
   rw [he] at h
   obtain ⟨k1,k2⟩:=key st' he
   obtain ⟨i1,i2⟩:=aEd l st' r h
   exact ⟨i1.trans k1,by rw [i2,k2,List.append_assoc];rfl⟩
theorem aGz {x:ImgI} {w:State} (h:sJ (uD x)=some w):aAi w=x:=by
 unfold sJ at h
 split at h
 ·cases h
 ·rename_i r hr
  split at h
  ·cases h
   obtain ⟨h1,h2⟩:=aEd _ _ _ hr
   have e1:(x.ser.map aN6).map oC=x.ser:=by
    rw [List.map_map];conv=>rhs;rw [←List.map_id x.ser]
    exact List.map_congr_left fun y _=>rfl
   have e2:(x.posted.map uC).map dV=x.posted:=by
    rw [List.map_map];conv=>rhs;rw [←List.map_id x.posted]
    refine List.map_congr_left fun y _=>?_
    show (⟨y.ser,y.day,y.ofSer,y.ofNum,(y.parts.map vR).map iK⟩:PostI)=y
    rw [List.map_map]
    have:y.parts.map (iK ∘ vR)=y.parts:=by
     conv=>rhs;rw [←List.map_id y.parts]
     exact List.map_congr_left fun z _=>rfl
    rw [this]
   have e3:(x.sess.map aGy).map qI=x.sess:=by
    rw [List.map_map];conv=>rhs;rw [←List.map_id x.sess]
    exact List.map_congr_left fun y _=>rfl
   have h1:r.1.map oC=(x.ser.map aN6).map oC:=h1
   have h2:r.2.map dV=[]++(x.posted.map uC).map dV:=h2
   show (⟨x.table,r.1.map oC,r.2.map dV,(x.sess.map aGy).map qI,x.next⟩:ImgI)=x
   rw [h1,h2,e1,e2,e3];rfl
  ·cases h
theorem aX2:∀ (b:List UInt8) (i acc:Nat),rdL i acc b≠.error 0
 | [],i,acc,h=>by cases h
 | c::t,i,acc,h=>by
  unfold rdL at h
  repeat' split at h
  ·cases h
  ·exact aX2 t _ _ h
  ·cases h
  ·cases h
theorem numR_ne (b:List UInt8):numR b≠.error 0:=fun h=>by
 unfold numR at h
 split at h
 ·cases h
 ·rename_i e he;cases h;exact aX2 _ _ _ he
def CNE {α:Type} (c:Cod α):Prop:=∀ b,c.get b≠.error 0
theorem CNE.num:CNE num:=numR_ne
theorem CNE.only {α:Type} {c:Cod α} (h:CNE c) (p:α→Bool) {e:Int} (he:e≠0):CNE (c.only p e):=fun b hb=>by
 have hb:(match c.get b with
  | .ok (a,t)=>if p a=true then .ok (a,t) else .error e
  | .error x=>.error x:Except Int (α×List UInt8))=.error 0:=hb
 split at hb
 ·split at hb
  ·cases hb
  ·cases hb;exact he rfl
 ·rename_i x hx;cases hb;exact h _ hx
theorem CNE.both {α β:Type} {c:Cod α} {d:Cod β} (h:CNE c) (k:CNE d):CNE (c.both d):=fun b hb=>by
 have hb:(match c.get b with
  | .ok (a,t)=>(match d.get t with
   | .ok (x,t')=>.ok ((a,x),t')
   | .error x=>.error x)
  | .error x=>.error x:Except Int ((α×β)×List UInt8))=.error 0:=hb
 split at hb
 ·split at hb
  ·cases hb
  ·rename_i x hx;cases hb;exact k _ hx
 ·rename_i x hx;cases hb;exact h _ hx
theorem CNE.map {α β:Type} {c:Cod α} (h:CNE c) {f:α→β} {g:β→α} {h1:∀ a,g (f a)=a} {h2:∀ b,f (g b)=b}:CNE (c.map f g h1 h2):=fun b hb=>by
 have hb:(match c.get b with
  | .ok (a,t)=>.ok (f a,t)
  | .error x=>.error x:Except Int (β×List UInt8))=.error 0:=hb
 split at hb
 ·cases hb
 ·rename_i x hx;cases hb;exact h _ hx
theorem CNE.upto (m:Nat):CNE (upto m):=CNE.num.only _ (by decide)
theorem CNE.text {m:Nat} (hm:m≤1000000):CNE (Go.Pack.text m hm):=fun b hb=>by
 have hb:aBg m b=.error 0:=hb
 unfold aBg at hb
 repeat' split at hb
 all_goals first | (cases hb;done) | skip
 rename_i x hx;cases hb;exact CNE.upto _ _ hx
theorem aPw {α:Type} {c:Cod α} (h:CNE c):∀ (n:Nat) (b:List UInt8),nV c n b≠.error 0
 | 0,b,hb=>by cases hb
 | n+1,b,hb=>by
  unfold nV at hb
  split at hb
  ·split at hb
   ·cases hb
   ·rename_i x hx;cases hb;exact aPw h _ _ hx
  ·rename_i x hx;cases hb;exact h _ hx
theorem CNE.list {α:Type} {c:Cod α} (h:CNE c) {m:Nat} (hm:m≤1000000):CNE (c.list m hm):=fun b hb=>by
 have hb:aEb c m b=.error 0:=hb
 unfold aEb at hb
 split at hb
 ·split at hb
  ·exact aPw h _ _ hb
  ·cases hb
 ·rename_i x hx;cases hb;exact CNE.upto _ _ hx
theorem CNE.flag:CNE flag:=fun b hb=>by
 have hb:flagR b=.error 0:=hb
 unfold flagR at hb
 repeat' split at hb
 all_goals first | (cases hb;done) | skip
 rename_i x hx;cases hb;exact numR_ne _ hx
theorem CNE.txt:CNE txt:=CNE.text _
theorem CNE.day:CNE kL:=(CNE.num.both (CNE.num.both CNE.num)).map
theorem CNE.img:CNE aBq:=((CNE.list ((CNE.txt.both (CNE.day.both CNE.num)).map) _).both ((CNE.list ((CNE.txt.both (CNE.num.both CNE.flag)).map) _).both ((CNE.list ((CNE.txt.both (CNE.day.both (CNE.txt.both (CNE.num.both (CNE.list ((CNE.txt.both (CNE.num.both CNE.num)).map) _))))).map) _).both ((CNE.list ((CNE.num.both (CNE.num.both (CNE.num.both (CNE.num.both CNE.num)))).map) _).both CNE.num)))).map
theorem get_put {b:List UInt8} {w:State} (h:fT b=(w,0)):lB w=b:=by
 unfold fT at h
 split at h
 ·rename_i e he
  have h0:e=0:=congrArg Prod.snd h
  exact absurd he (by rw [h0];exact CNE.img b)
 ·rename_i x t hx
  split at h
  ·rename_i ht
   split at h
   ·cases h
   ·rename_i s hs
    split at h
    ·rename_i hr
     cases h
     unfold lB
     rw [hr,if_neg (by decide),aGz hs]
     obtain ⟨hb,_⟩:=aBq.back _ _ _ hx
     rw [hb,ht,List.append_nil]
    ·cases h
  ·cases h
def IR (r:Rep):Prop:=I64 r.why∧I64 r.number∧I64 r.gross
def RepI (s:State):Prop:=∀ x∈s.sess,IR x.reply
theorem I64.small {n:Int} (h:0≤n∧n≤1099511627777):I64 n:=⟨by omega,by omega⟩
theorem IR.why {e:Int} (h:0≤e∧e≤17):IR (Go.Proofs.YtoaibmbldmckaaaGreat.why e):=⟨I64.small ⟨h.1,by show e≤_;omega⟩,⟨by show (_:Int)≤0;decide,by show (0:Int)≤_;decide⟩,⟨by show (_:Int)≤0;decide,by show (0:Int)≤_;decide⟩⟩
theorem IR.zero:IR Rep.zero:=IR.why (e:=0) (by decide)
theorem aH0 {s:State} (hr:aV s=true) (hi:nR s) {q:Posted} (hq:q∈s.posted):I64 q.ref.num∧I64 q.total.gross:=by
 obtain ⟨_,_,_,h4,h5,_⟩:=(bZ s).1 hr
 obtain ⟨h40,hO,_⟩:=(fN _).1 h4
 obtain ⟨i,hi'⟩:=List.getElem?_of_mem hq
 have h1:=(h5.num i q hi').2
 have h2:=aPv (s.posted.take i) q.ref.ser
 have h3:=xG (s.posted.take i) q.ref.ser
 have hl:(s.posted.take i).length≤s.posted.length:=by rw [List.length_take];omega
 refine ⟨I64.small (by omega),?_⟩
 obtain ⟨_,b2,_,_,b5⟩:=(fM _).1 (hO i q hi').2.1
 exact ((pY (fun p hp=>(hi q hq p hp).1) (fun p hp=>(hi q hq p hp).2) (by omega)).1 b5).2.2.1
theorem aEe {s t:State} {name:List UInt8} {p:Posted} (hr:aV t=true) (hi:nR t) (h:(aR s name p).2.why=0→∃ q∈t.posted,q.ref.num=(aR s name p).2.number∧q.total.gross=(aR s name p).2.gross):IR (aR s name p).2:=by
 have hp:=tZ s name p
 by_cases c:(aR s name p).2.why=0
 ·obtain ⟨q,hq,e1,e2⟩:=h c
  obtain ⟨i1,i2⟩:=aH0 hr hi hq
  exact ⟨by rw [c];exact I64.small (by decide),e1▸i1,e2▸i2⟩
 ·rw [(hp.2.2 c).2]
  exact IR.why ⟨hp.1,by have:=hp.2.1;omega⟩
theorem aKr {l:List Posted} {k:Nat} {q:Posted} (h:q∈l):∃ r∈cE l k,r.ref=q.ref∧r.total=q.total:=by
 have e:(cE l k).map mO=l.map mO:=aE0 l k
 have:mO q∈(cE l k).map mO:=by rw [e];exact List.mem_map_of_mem h
 obtain ⟨r,hr,he⟩:=List.mem_map.1 this
 exact ⟨r,hr,show (mO r).ref=(mO q).ref by rw [he],show (mO r).total=(mO q).total by rw [he]⟩
theorem aZf {s:State} (hr:aV s=true) (hi:nR s) (c:Cmd):IR (lV s c).2:=by
 obtain ⟨r1,r2⟩:=aE2 hr hi c
 unfold lV at r1 r2 ⊢
 split
 ·exact IR.why (by have:=xJ s.table c.day c.lines;exact ⟨this.1,by have:=this.2;omega⟩)
 ·rename_i h
  rw [if_neg h] at r1 r2
  refine aEe r1 r2 fun h0=>?_
  obtain ⟨_,_,_,_,e⟩:=qH h0
  rw [e]
  exact ⟨_,List.mem_append_right _ (List.mem_cons_self ..),rfl,rfl⟩
theorem aRy {s:State} (hr:aV s=true) (hi:nR s) (c:Cmd):IR (eC s c).2:=by
 obtain ⟨r1,r2⟩:=zM hr hi c
 unfold eC at r1 r2 ⊢
 split
 ·exact IR.why (by decide)
 ·rename_i h
  rw [if_neg h] at r1 r2
  generalize (bC s.posted c.of).toNat=k at *
  unfold fF at r1 r2 ⊢
  repeat' split
  ·exact IR.why (by decide)
  ·exact IR.why (by decide)
  ·exact IR.why (by decide)
  ·exact IR.why (by have:=aAg (s.posted.getD k Posted.zero).total;exact ⟨this.1,by have:=this.2;omega⟩)
  ·rename_i h1 h2 h3 h4 h5 h6
   rw [if_neg h1,if_pos h2,if_neg h3,if_neg h4,if_neg h5,if_pos h6] at r1 r2
   refine aEe r1 r2 fun h0=>?_
   obtain ⟨_,_,_,_,e⟩:=qH h0
   rw [e]
   obtain ⟨q,hq,e1,e2⟩:=aKr (l:=s.posted++[{ (⟨Ref.zero,c.day,(bK (s.posted.getD k Posted.zero).total).1,c.of,false⟩:Posted) with ref:=⟨c.series,(cO s.ser c.series).2.1⟩ }]) (k:=k) (List.mem_append_right _ (List.mem_cons_self ..))
   exact ⟨q,hq,by rw [e1],by rw [e2]⟩
  ·rename_i h1 h2 h3 h4 h5 h6
   rw [if_neg h1,if_pos h2,if_neg h3,if_neg h4,if_neg h5,if_neg h6] at r1 r2
   exact aEe r1 r2 fun h0=>absurd h0 h6
  ·exact IR.why (by decide)
theorem bL5:∀ (l:List Bal) (g:Int),(∀ b∈l,I64 b.amount)→I64 g→I64 (aE rV id l g)
 | [],g,_,h=>h
 | b::l,g,hl,h=>by
  simp only [aE,rV]
  refine bL5 l _ (fun x hx=>hl x (List.mem_cons_of_mem _ hx)) ?_
  split
  ·exact hl b (List.mem_cons_self ..)
  ·exact h
theorem aZg {s:State} (hr:aV s=true) (hi:nR s):BI s.book:=by
 obtain ⟨_,_,_,h4,_,h6⟩:=(bZ s).1 hr
 obtain ⟨_,hO,_⟩:=(fN _).1 h4
 refine (aBf s.posted [] s.book (fun _ h=>(by cases h)) rfl (fun p hp=>?_) h6).2
 obtain ⟨i,hi'⟩:=List.getElem?_of_mem hp
 exact ⟨(hO i p hi').2.1,hi p hp⟩
theorem bEu {s:State} (hr:aV s=true) (hi:nR s) (name:List UInt8):IR (aEz s name):=by
 unfold aEz
 split
 ·exact IR.why (e:=11) (by decide)
 ·exact ⟨I64.small (n:=0) (by decide),aIc _,bL5 _ _ (aZg hr hi) (I64.small (by decide))⟩
theorem bL6 {s:State} (hr:aV s=true) (hi:nR s) (c:Cmd):IR (sS s c).2:=by
 have kw:∀ (e:Int) (t:State),(0≤e∧e≤14)→IR (if e=0 then (t,why e) else (s,why e)).2:=by
  intro e t h
  split<;>exact IR.why ⟨h.1,by omega⟩
 unfold sS
 split
 ·exact kw _ _ (aBd _ _ _)
 ·split
  ·exact kw _ _ (aGs _ _)
  ·split
   ·exact kw _ _ (aBe _ _)
   ·split
    ·exact aZf hr hi c
    ·split
     ·exact aRy hr hi c
     ·split
      ·exact kw _ _ (aE5 _ _)
      ·exact bEu hr hi _
theorem aZh {s:State} (hr:aV s=true) (hq:RepI s) (c:Cmd):RepI (sS s c).1:=by
 intro x hx
 rcases aPt s c with e | ⟨_,e1,e2⟩
 ·rw [e] at hx;exact hq x hx
 ·rw [e2] at hx
  exact hq x ((aGu e1 ((bZ s).1 hr).2.2.1 x).1 hx).1
theorem aRz {s:State} (hq:RepI s):RepI (eT s).1:=by
 unfold eT
 split
 ·exact hq
 ·split
  ·exact hq
  ·rename_i h1 h2
   have h2:=Decidable.not_not.1 h2
   intro x hx
   have hx:x∈(mF s.sess s.next).1:=hx
   unfold mF at h2 hx
   split at h2
   ·simp at h2
   ·rename_i j1
    split at h2
    ·simp at h2
    ·rename_i j2
     split at h2
     ·simp at h2
     ·rename_i j3
      rw [if_neg j1,if_neg j2,if_neg j3] at hx
      rcases (iH _ _ _ _).1 hx with rfl | hx
      ·exact IR.zero
      ·exact hq x hx
theorem aNb {s:State} (hr:aV s=true) (hi:nR s) (hq:RepI s) (c:Call):RepI (eP s c).1:=by
 unfold eP
 rw [if_neg (by rw [hr];simp)]
 split
 ·exact hq
 ·split
  ·exact aRz hq
  ·split
   ·exact hq
   ·split
    ·exact hq
    ·have hd:=aZh hr hq c.cmd
     rcases aE6 (sS s c.cmd) c with e | ⟨i,x,e1,_,_,e2⟩
     ·rw [e];exact hd
     ·rw [e2]
      intro y hy
      rcases List.mem_or_eq_of_mem_set hy with hy | rfl
      ·exact hd y hy
      ·exact bL6 hr hi c.cmd
theorem RepI.play:∀ (l:List Call) (s:State) (r:List Rep),Beh s→RepI s→RepI (l.foldl iU (s,r)).1
 | [],s,r,h,q=>q
 | c::l,s,r,h,q=>RepI.play l _ _ (h.apply c) (aNb h.right h.ints q c)
theorem RepI.playM {s:State} (h:Beh s) (q:RepI s) (l:List Call):RepI (Go.Proofs.YtoaibmbldmckaaaGreat.playM s l).1:=RepI.play l s [] h q
theorem RepI.new:RepI State.new:=fun x hx=>by cases hx
theorem aZi (n:Int) (h1:-9000000000≤n) (h2:n≤9000000000000):I64 n:=⟨by omega,by omega⟩
theorem aNc {s:State} (hr:aV s=true) (hi:nR s) (hq:RepI s):aBq.ok (aAi s):=by
 obtain ⟨h1,h2,h3,h4,h5,_⟩:=(bZ s).1 hr
 obtain ⟨t1,t2,_⟩:=(nO _).1 h1
 obtain ⟨s1,s2,_⟩:=(gB _).1 h2
 obtain ⟨e1,e2,_,e3,e4,e5⟩:=h3
 obtain ⟨h40,hO,_⟩:=(fN _).1 h4
 have day:∀ d:Date,d.right=true→kL.ok d:=fun d hd=>by
  obtain ⟨a,b,c,d1,e,f⟩:=(uZ d).1 hd
  have:=(hM d.y d.m).2
  exact ⟨aZi d.y (by omega) (by omega),aZi d.m (by omega) (by omega),aZi d.d (by omega) (by omega)⟩
 have txt:∀ n:List UInt8,dR n=true→txt.ok n:=fun n hn=>by have:=uU hn;show n.length≤64;omega
 refine ⟨⟨t1,fun r hr'=>?_⟩,⟨?_,?_⟩,⟨?_,?_⟩,⟨?_,?_⟩,⟨by show _≤s.next;omega,by show s.next≤_;omega⟩⟩
 ·obtain ⟨a,b,c,d⟩:=zK (t2 r hr')
  exact ⟨txt _ a,day _ b,aZi r.bp (by omega) (by omega)⟩
 ·show (s.ser.map oC).length≤8
  rw [List.length_map];exact s1
 ·intro x hx
  obtain ⟨y,hy,rfl⟩:=List.mem_map.1 hx
  obtain ⟨a,b⟩:=s2 y hy
  unfold rP at b
  simp only [Bool.or_eq_false_iff,decide_eq_false_iff_not] at b
  exact ⟨txt _ a,⟨by show _≤y.limit;omega,by show y.limit≤_;omega⟩,trivial⟩
 ·show (s.posted.map dV).length≤40
  rw [List.length_map];exact h40
 ·intro x hx
  obtain ⟨y,hy,rfl⟩:=List.mem_map.1 hx
  obtain ⟨i,hi'⟩:=List.getElem?_of_mem hy
  have nm:∀ q∈s.posted,dR q.ref.ser=true:=fun q hq'=>by
   obtain ⟨j,hj⟩:=List.getElem?_of_mem hq'
   obtain ⟨⟨z,hz,ez⟩,_⟩:=h5.num j q hj
   rw [←ez];exact (s2 z hz).1
  obtain ⟨o1,o2,o3⟩:=hO i y hi'
  obtain ⟨p1,p2,p3,_,_⟩:=(fM _).1 o2
  have hof:Go.Proofs.YtoaibmbldmckaaaGreat.txt.ok y.of.ser∧num.ok y.of.num:=by
   rcases o3 with e | ⟨a,_⟩
   ·rw [e];exact ⟨Nat.zero_le _,⟨by show (_:Int)≤0;decide,by show (0:Int)≤_;decide⟩⟩
   ·rcases kX (fun p:Posted=>decide (p.ref=y.of)) (s.posted.take i) with e | ⟨j,q,e,hj,hp⟩
    ·have:bC (s.posted.take i) y.of=-1:=e
     omega
    ·have hm:q∈s.posted:=List.mem_of_mem_take (List.mem_of_getElem? hj)
     have e':=of_decide_eq_true hp
     rw [←e']
     exact ⟨txt _ (nm q hm),(aH0 hr hi hm).1⟩
  refine ⟨txt _ (nm y hy),day _ o1,hof.1,hof.2,?_,?_⟩
  ·show (y.total.parts.map iK).length≤12
   rw [List.length_map];exact p2
  ·intro z hz
   obtain ⟨w,hw,rfl⟩:=List.mem_map.1 hz
   have g:=p3 w hw
   exact ⟨txt _ g.name,⟨by show _≤w.bp;have:=g.lo;omega,by show w.bp≤_;have:=g.hi;omega⟩,(hi y hy w hw).1⟩
 ·show (s.sess.map qI).length≤8
  rw [List.length_map];exact e1
 ·intro x hx
  obtain ⟨y,hy,rfl⟩:=List.mem_map.1 hx
  obtain ⟨a,b,c,_⟩:=e2 y hy
  have d:=e5 y hy
  obtain ⟨q1,q2,q3⟩:=hq y hy
  exact ⟨⟨by show _≤y.id;omega,by show y.id≤_;omega⟩,⟨by show _≤y.last;omega,by show y.last≤_;omega⟩,q1,q2,q3⟩
theorem aBv {s:State} (hr:aV s=true) (hi:nR s) (hq:RepI s):fT (lB s)=(s,0):=by
 unfold lB fT
 rw [hr,if_neg (by decide)]
 have:=aBq.there (aAi s) [] (aNc hr hi hq)
 rw [List.append_nil] at this
 rw [this]
 simp only [if_true,aNa hr hi,hr]
theorem aH1 {n:Nat} (h:n≤63):(numP (n:Int)).length=1:=by
 unfold numP
 have:zig (n:Int)<128:=by unfold zig;split<;>omega
 rw [nb_low this];rfl
theorem aKs {s:List UInt8} (h:s.length≤24):(txt.put s).length≤25:=by
 show (numP (s.length:Int)++s).length≤25
 rw [List.length_append,aH1 (by omega)];omega
theorem gK {n:Int} (h:num.ok n):(num.put n).length≤10:=numP_len h
theorem aPx {d:Date} (h:kL.ok d):(kL.put d).length≤30:=by
 obtain ⟨a,b,c⟩:=h
 show (num.put d.y++(num.put d.m++num.put d.d)).length≤30
 rw [List.length_append,List.length_append]
 have h1:(num.put d.y).length≤10:=gK a
 have h2:(num.put d.m).length≤10:=gK b
 have h3:(num.put d.d).length≤10:=gK c
 omega
theorem aKt {α:Type} (c:Cod α) {n:Nat}:∀ l:List α,(∀ a∈l,(c.put a).length≤n)→(l.flatMap c.put).length≤l.length*n
 | [],_=>Nat.zero_le _
 | a::l,h=>by
  have h1:=aKt c l fun x hx=>h x (List.mem_cons_of_mem _ hx)
  have h2:=h a (List.mem_cons_self ..)
  rw [List.flatMap_cons,List.length_append,List.length_cons,Nat.succ_mul]
  omega
theorem uE {α:Type} (c:Cod α) {m:Nat} (hm:m≤1000000) {n k:Nat} {l:List α} (h:∀ a∈l,(c.put a).length≤n) (hl:l.length≤k) (hk:k≤63):((c.list m hm).put l).length≤1+k*n:=by
 show (numP (l.length:Int)++l.flatMap c.put).length≤_
 rw [List.length_append,aH1 (by omega)]
 have:=aKt c l h
 have:=Nat.mul_le_mul_right n hl
 omega
theorem aZj {s:State} (hr:aV s=true) (hi:nR s) (hq:RepI s):(lB s).length≤32768∧4<(lB s).length:=by
 obtain ⟨h1,h2,h3,h4,h5,_⟩:=(bZ s).1 hr
 obtain ⟨t1,t2,_⟩:=(nO _).1 h1
 obtain ⟨s1,s2,_⟩:=(gB _).1 h2
 obtain ⟨e1,_⟩:=h3
 obtain ⟨h40,hO,_⟩:=(fN _).1 h4
 obtain ⟨⟨_,ok1⟩,⟨_,ok2⟩,⟨_,ok3⟩,⟨_,ok4⟩,ok5⟩:=aNc hr hi hq
 have nm:∀ q∈s.posted,dR q.ref.ser=true:=fun q hq'=>by
  obtain ⟨j,hj⟩:=List.getElem?_of_mem hq'
  obtain ⟨⟨z,hz,ez⟩,_⟩:=h5.num j q hj
  rw [←ez];exact (s2 z hz).1
 have nl:∀ {n:List UInt8},dR n=true→(txt.put n).length≤25:=fun h=>aKs (uU h)
 have a1:((zN.list 24 (by decide)).put s.table).length≤1+24*65:=uE zN _ (fun r hr'=>by
  obtain ⟨_,b,c⟩:=ok1 r hr'
  show (txt.put r.cat++(kL.put r.day++num.put r.bp)).length≤65
  rw [List.length_append,List.length_append]
  have h1:=nl (zK (t2 r hr')).1
  have h2:(kL.put r.day).length≤30:=aPx b
  have h3:(num.put r.bp).length≤10:=gK c
  omega) t1 (by decide)
 have a2:((aIk.list 8 (by decide)).put (s.ser.map oC)).length≤1+8*45:=uE aIk _ (fun x hx=>by
  obtain ⟨y,hy,rfl⟩:=List.mem_map.1 hx
  obtain ⟨_,b,_⟩:=ok2 _ hx
  show (txt.put y.name++(num.put y.limit++flag.put y.shut)).length≤45
  rw [List.length_append,List.length_append]
  have h1:=nl (s2 y hy).1
  have h2:(num.put y.limit).length≤10:=gK b
  have h3:(flag.put y.shut).length≤10:=Len.flag _ trivial
  omega) (by rw [List.length_map];exact s1) (by decide)
 have a3:((aF6.list 40 (by decide)).put (s.posted.map dV)).length≤1+40*631:=uE aF6 _ (fun x hx=>by
  obtain ⟨y,hy,rfl⟩:=List.mem_map.1 hx
  obtain ⟨i,hi'⟩:=List.getElem?_of_mem hy
  obtain ⟨_,b,_,d,⟨_,e⟩⟩:=ok3 _ hx
  obtain ⟨o1,o2,o3⟩:=hO i y hi'
  obtain ⟨p1,p2,p3,_,_⟩:=(fM _).1 o2
  have hof:(txt.put y.of.ser).length≤25:=by
   rcases o3 with e | ⟨a,_⟩
   ·rw [e];exact aKs (Nat.zero_le _)
   ·rcases kX (fun p:Posted=>decide (p.ref=y.of)) (s.posted.take i) with e | ⟨j,q,e,hj,hp⟩
    ·have:bC (s.posted.take i) y.of=-1:=e
     omega
    ·have hm:q∈s.posted:=List.mem_of_mem_take (List.mem_of_getElem? hj)
     rw [←of_decide_eq_true hp]
     exact nl (nm q hm)
  have hps:((aBh.list 12 (by decide)).put (y.total.parts.map iK)).length≤1+12*45:=uE aBh _ (fun z hz=>by
   obtain ⟨w,hw,rfl⟩:=List.mem_map.1 hz
   obtain ⟨_,f,g⟩:=e _ hz
   show (txt.put w.cat++(num.put w.bp++num.put w.net)).length≤45
   rw [List.length_append,List.length_append]
   have h1:=nl (p3 w hw).name
   have h2:(num.put w.bp).length≤10:=gK f
   have h3:(num.put w.net).length≤10:=gK g
   omega) (by rw [List.length_map];exact p2) (by decide)
  show (txt.put y.ref.ser++(kL.put y.day++(txt.put y.of.ser++(num.put y.of.num++(aBh.list 12 (by decide)).put (y.total.parts.map iK))))).length≤631
  rw [List.length_append,List.length_append,List.length_append,List.length_append]
  have h1:=nl (nm y hy)
  have h2:(kL.put y.day).length≤30:=aPx b
  have h3:(num.put y.of.num).length≤10:=gK d
  omega) (by rw [List.length_map];exact h40) (by decide)
 have a4:((zO.list 8 (by decide)).put (s.sess.map qI)).length≤1+8*50:=uE zO _ (fun x hx=>by
  obtain ⟨y,hy,rfl⟩:=List.mem_map.1 hx
  obtain ⟨a,b,c,d,e⟩:=ok4 _ hx
  show (num.put y.id++(num.put y.last++(num.put y.reply.why++(num.put y.reply.number++num.put y.reply.gross)))).length≤50
  rw [List.length_append,List.length_append,List.length_append,List.length_append]
  have h1:(num.put y.id).length≤10:=gK a
  have h2:(num.put y.last).length≤10:=gK b
  have h3:(num.put y.reply.why).length≤10:=gK c
  have h4:(num.put y.reply.number).length≤10:=gK d
  have h5:(num.put y.reply.gross).length≤10:=gK e
  omega) (by rw [List.length_map];exact e1) (by decide)
 have a5:(num.put s.next).length≤10:=gK ok5
 have e:lB s=(zN.list 24 (by decide)).put s.table++((aIk.list 8 (by decide)).put (s.ser.map oC)++((aF6.list 40 (by decide)).put (s.posted.map dV)++((zO.list 8 (by decide)).put (s.sess.map qI)++num.put s.next))):=by
  unfold lB
  rw [hr,if_neg (by decide)];rfl
 have b1:=(zN.list 24 (by decide)).pos s.table
 have b2:=(aIk.list 8 (by decide)).pos (s.ser.map oC)
 have b3:=(aF6.list 40 (by decide)).pos (s.posted.map dV)
 have b4:=(zO.list 8 (by decide)).pos (s.sess.map qI)
 have b5:=num.pos s.next
 rw [e]
 simp only [List.length_append]
 omega
end Go.Proofs.YtoaibmbldmckaaaGreat
end
section
namespace Go.Proofs.YtoaibmbldmckaaaGreat
open Go.AM Tryz
theorem aPy {u:Int} (h1:0≤u) (h2:u<18446744073709551616):aDi u=18446744073709551615 - u:=by
 unfold aDi
 simp only [IntKind.signed,Bool.false_eq_true,if_false]
 have hm:(IntKind.u64.max:Int)=18446744073709551615:=by decide
 rw [hm]
 have hb:IntKind.u64.bits=64:=rfl
 rw [hb]
 have:(BitVec.ofInt 64 18446744073709551615 ^^^ BitVec.ofInt 64 u) = ~~~(BitVec.ofInt 64 u):=by
  rw [show (BitVec.ofInt 64 18446744073709551615)=BitVec.allOnes 64 from by decide,BitVec.allOnes_xor]
 rw [this,BitVec.toNat_not]
 have hv:(BitVec.ofInt 64 u).toNat=u.toNat:=by
  rw [BitVec.toNat_ofInt]
  omega
 rw [hv,kJ (by omega) (by omega)]
 omega
end Go.Proofs.YtoaibmbldmckaaaGreat
end
section
namespace Go.AM
theorem bL7 {n a ver i len:Nat} (h:i<len):fI n (.sl a ver n 0 len) (.int .i64 (i:Int))=.ok (.ptr a ver i 0):=by
 simp only [fI,fX h,if_true,Nat.zero_add]
theorem bQa {X:St} {a ver n i:Nat} {es:List (List V)} {cs:List V} (hg:X.heap.get a=some (.row ver n es)) (hi:es[i]?=some cs) (k:Option Nat) (j:Nat):gX k (.ptr a ver i j) X=gW k cs j:=by
 simp only [ldP,aI hg,hi]
theorem aX3 {X:St} {a ver n i:Nat} {es:List (List V)} (hg:X.heap.get a=some (.row ver n es)) (hi:i≤es.length):aM X (.sl a ver n 0 i)=.ok (es.take i):=by
 have hb:Nat.ble (0+i) es.length=true:=Nat.ble_eq_true_of_le (by omega)
 simp only [aM,aI hg,hb,cond_true,List.drop_zero]
end Go.AM
namespace Go.Proofs.YtoaibmbldmckaaaGreat
open Go.AM Tryz
set_option linter.unusedVariables false
set_option linter.unusedSimpArgs false
set_option maxRecDepth 100000
theorem aS0 {α:Type} {enc:α→List V} {n b:Nat} (hl:∀ x,(enc x).length=n∧aF (enc x)=true) (l:List α) {S:St} {a:Nat} {u:V} (hu:aM S u=.ok (l.map enc)) (hg:aC S a 0=.ok (n,[])) (h1:l.length*b≤35184372088832) (h2:l.length<eD) (fr:Option Nat):
  fQ n b (.sl a 0 n 0 0) u fr S=.ok (.sl a 1 n 0 l.length,⟨S.next,S.heap.put a (.row 1 n (l.map enc))⟩):=by
 have hc:∀ cs,cs∈l.map enc→cs.length=n∧aF cs=true:=fun cs hc=>by obtain ⟨x,_,rfl⟩:=List.mem_map.1 hc;exact hl x
 obtain ⟨a1,a2⟩:=dA hc
 simp only [fQ,hu,a1,a2,and_self,if_true,hg,List.length_map,Nat.zero_add,List.length_nil,Nat.le_refl,h1,h2,List.drop_nil,List.take_nil,List.nil_append]
end Go.Proofs.YtoaibmbldmckaaaGreat
end
section
namespace Go.Proofs.YtoaibmbldmckaaaGreat
open Go.AM Tryz
def jP (c:UInt8):List V:=[.int .u8 (c.toNat:Int)]
theorem u81 (c:UInt8):(jP c).length=1∧aF (jP c)=true:=⟨rfl,rfl⟩
theorem bQb {c:Int} (h0:0≤c) (h1:c<1000000000) (S:St):eL prog 22 (.int .i64 0) (.int .i64 c) none S=.ok (.sl S.next 0 1 0 0,⟨S.next+1,S.heap.put S.next (.row 0 1 [])⟩):=by
 have e1:jS prog 22=some 5:=by kernel_rfl
 have e2:aJ prog 5=some (.int .u8 0):=by kernel_rfl
 have e3:sz prog 5=1:=by kernel_rfl
 have e4:prog.bytesOf 5=1:=by kernel_rfl
 have e5:room prog 5 c.toNat=true:=by
  unfold room eD
  rw [e4,Bool.and_eq_true]
  exact ⟨Nat.ble_eq_true_of_le (by omega),by rw [Nat.blt_eq];omega⟩
 simp only [eL,e1,e2,e3,e5,nb0]
 rw [show (Nat.beq (V.cells (.int .u8 0)).length 1&&decide ((0:Int)≤0)&&decide (0≤c)&&decide (c<2147483648)&&true)=true by
  rw [decide_eq_true h0,decide_eq_true (show c<2147483648 by omega)];rfl]
 rfl
theorem bL8 {S:St} {v:V} {b:List UInt8} (w:WF S) (hv:Sl S 1 v (b.map jP)) (hb:b.length<100000000) (n:Int) (h0:0≤n) (h1:n<100000000) {K:KW} (H:∀ v' S',Ext S S'→Own S S' 1 v' (b.map jP)→K v' S'):C 211 [v,.int .i64 n] S K:=by
 refine bNe ?_
 have w1:wr .i64 ((b.length:Int)+n)=(b.length:Int)+n:=kU (by omega) (by omega)
 have x1:Ext S ⟨S.next+1,S.heap.put S.next (.row 0 1 [])⟩:=Ext.new w _
 have q:=aS0 (b:=1) u81 b (S:=⟨S.next+1,S.heap.put S.next (.row 0 1 [])⟩) (a:=S.next) (hv.ext x1).elems (aA _ _ _ _ _ _) (by omega) (by unfold eD;omega) none
 delta Tryz.f211;simp only [↓cw,↓reduceIte,Nat.reduceLT,kk,hv.lenI,w1,bQb (c:=(b.length:Int)+n) (by omega) (by omega),q]
 exact H _ _ (x1.set (Nat.le_refl _) (Nat.lt_succ_self _) w _) ⟨.inr ⟨S.next,1,[],by rw [List.length_map],Nat.le_refl _,Nat.lt_succ_self _,by rw [List.append_nil];exact Tr.get_put_sameB _ _ _ trivial⟩,fun c hc=>by obtain ⟨x,_,rfl⟩:=List.mem_map.1 hc;exact u81 x⟩
theorem bEw {n:Int} (h:0≤n) (h2:n≤9223372036854775807):wr .u64 (wr .u64 n*2 ^ (min (1:Int).toNat IntKind.u64.bits))=((Go.Pack.zig n:Nat):Int):=by
 have e:(min (1:Int).toNat IntKind.u64.bits)=1:=by decide
 rw [e]
 unfold Go.Pack.zig
 rw [if_pos h]
 have h1:wr .u64 n=n:=by simp [wr,lo,hi,IntKind.wrap,IntKind.min,IntKind.max,IntKind.bits,IntKind.signed];omega
 rw [h1]
 simp [wr,lo,hi,IntKind.wrap,IntKind.min,IntKind.max,IntKind.bits,IntKind.signed];omega
theorem aZk {n:Int} (h:n<0) (h2:-9223372036854775808≤n):aDi (wr .u64 (wr .u64 n*2 ^ (min (1:Int).toNat IntKind.u64.bits)))=((Go.Pack.zig n:Nat):Int):=by
 have e:(min (1:Int).toNat IntKind.u64.bits)=1:=by decide
 rw [e]
 unfold Go.Pack.zig
 rw [if_neg (by omega)]
 have h1:wr .u64 n=18446744073709551616+n:=by simp [wr,lo,hi,IntKind.wrap,IntKind.min,IntKind.max,IntKind.bits,IntKind.signed];omega
 have h3:wr .u64 ((18446744073709551616+n)*2 ^ 1)=18446744073709551616+2*n:=by simp [wr,lo,hi,IntKind.wrap,IntKind.min,IntKind.max,IntKind.bits,IntKind.signed];omega
 rw [h1,h3,aPy (by omega) (by omega)]
 omega
theorem wr8 (u:Nat):wr .u8 (u:Int)=((u % 256:Nat):Int):=by
 simp only [wr,lo,hi,IntKind.wrap,IntKind.min,IntKind.max,IntKind.bits,IntKind.signed,Bool.false_and,Bool.false_eq_true,if_false]
 by_cases h:(u:Int)≤255
 ·rw [if_pos ⟨by omega,h⟩];omega
 ·rw [if_neg (fun q=>h q.2)];omega
theorem or8 (x:Nat) (h:x<256):BitVec.toNat (BitVec.ofInt 8 (x:Int) ||| BitVec.ofInt 8 128)=x % 128+128:=by
 have:=(by decide +kernel:∀ x:Fin 256,BitVec.toNat (BitVec.ofInt 8 (x.val:Int) ||| BitVec.ofInt 8 128)=x.val % 128+128) ⟨x,h⟩
 exact this
theorem aZl (u:Nat):wr .u8 ((BitVec.toNat (BitVec.ofInt IntKind.u8.bits (wr .u8 (u:Int)) ||| BitVec.ofInt IntKind.u8.bits 128):Nat):Int)=(((UInt8.ofNat (u % 128+128)).toNat:Nat):Int):=by
 rw [wr8 u]
 have e:=or8 (u % 256) (Nat.mod_lt _ (by decide))
 have:BitVec.toNat (BitVec.ofInt IntKind.u8.bits ((u % 256:Nat):Int) ||| BitVec.ofInt IntKind.u8.bits 128)=u % 256 % 128+128:=e
 rw [this,wr8,Go.Pack.byte_lt (by omega)]
 congr 1
 omega
theorem aX4 {u:Nat} (h:u<128):wr .u8 (u:Int)=(((UInt8.ofNat u).toNat:Nat):Int):=by rw [wr8,Go.Pack.byte_lt (by omega)];congr 1;omega
theorem bQc (u:Nat):Int.fdiv (u:Int) (2 ^ (min (Int.toNat 7) IntKind.u64.bits))=((u / 128:Nat):Int):=by
 rw [show (min (Int.toNat 7) IntKind.u64.bits)=7 from by decide,Int.fdiv_eq_ediv_of_nonneg _ (by decide)]
 omega
theorem bQd (t:Nat) (k:IntKind) (a:Int):bQ prog .shl t (.int k a) (.int .u64 1)=.ok (.int k (wr k (a*2 ^ (min (1:Int).toNat k.bits)))):=rfl
theorem bL9 (t:Nat) (k:IntKind) (a:Int):bQ prog .shr t (.int k a) (.int .u64 7)=.ok (.int k (Int.fdiv a (2 ^ (min (Int.toNat 7) k.bits)))):=rfl
theorem bQe (t:Nat) (a b:Int):bQ prog .or t (.int .u8 a) (.int .u8 b)=.ok (.int .u8 (wr .u8 ((BitVec.toNat (BitVec.ofInt IntKind.u8.bits a ||| BitVec.ofInt IntKind.u8.bits b):Nat):Int))):=rfl
theorem aZm {S:St} {v:V} {b:List UInt8} (w:WF S) (hv:Sl S 1 v (b.map jP)) (hb:b.length<10000000) (n:Int) (hn:I64 n) {K:KW} (H:∀ v' S',Ext S S'→Own S S' 1 v' ((b++Go.Pack.numP n).map jP)→K v' S'):C 138 [v,.int .i64 n] S K:=by
 refine bMk ?_
 delta Tryz.f138;simp only [↓cw,↓reduceIte,Nat.reduceLT,kk]
 refine bL8 w hv (by omega) 10 (by decide) (by decide) fun v1 S1 x1 o1=>?_
 have hz:((Go.Pack.zig n:Nat):Int)=if n<0 then aDi (wr .u64 (wr .u64 n*2 ^ (min (1:Int).toNat IntKind.u64.bits))) else wr .u64 (wr .u64 n*2 ^ (min (1:Int).toNat IntKind.u64.bits)):=by
  split
  ·rw [aZk (by assumption) hn.1]
  ·rw [bEw (by omega) hn.2]
 by_cases hneg:n<0
 all_goals
  simp only [hneg,if_true,if_false] at hz
  simp only [↓cw,↓reduceIte,Nat.reduceLT,kk,bQd,hneg,if_true,if_false,unK,←hz]
  refine jD (fun i vs X=>∃ v' done,vs=[v',.int .u64 (i:Int)]∧Own S X 1 v' (done.map jP)∧Ext S X∧done++Go.Pack.nb i=b++Go.Pack.numP n∧i<2 ^ 64) ?_ ⟨v1,b,rfl,o1.same (Nat.le_refl _) fun _ _=>rfl,x1,rfl,Go.Pack.zig_lt hn⟩
  rintro u vs X ⟨v',done,rfl,o,x,e,hu⟩ aD ha
  have hX:=x.wf w
  have hl:done.length+(Go.Pack.nb u).length=b.length+(Go.Pack.numP n).length:=by rw [←List.length_append,e,List.length_append]
  have hnp:=Go.Pack.numP_len hn
  have hnu:=Go.Pack.nb_pos u
  by_cases h:u<128
  ·have hb1:Go.Pack.nb u=[UInt8.ofNat u]:=Go.Pack.nb_low h
   have x2:Ext X ⟨X.next+1,X.heap.put X.next (.row 0 1 [jP (UInt8.ofNat u)])⟩:=Ext.new hX _
   obtain ⟨v2,X2,q1,x3,n3,o2⟩:=(o.ext x2).push (b:=1) (x.trans x2) w (u:=.sl X.next 0 1 0 1) (cs:=[jP (UInt8.ofNat u)]) (by simp only [aM,aA];rfl) (fun c hc=>by rcases List.mem_singleton.1 hc with rfl;exact u81 _) (by simp) (by simp;omega) (by simp [eD];omega)
   simp only [jP] at q1
   simp only [↓cw,↓reduceIte,Nat.reduceLT,kk,show ¬ (128:Int)≤(u:Int) by omega,if_false,aX4 h,aDr,q1]
   exact H _ _ x3 (by rw [←e,hb1];simpa using o2)
  ·have hb1:Go.Pack.nb u=UInt8.ofNat (u % 128+128)::Go.Pack.nb (u / 128):=Go.Pack.nb_high h
   have x2:Ext X ⟨X.next+1,X.heap.put X.next (.row 0 1 [jP (UInt8.ofNat (u % 128+128))])⟩:=Ext.new hX _
   obtain ⟨v2,X2,q1,x3,n3,o2⟩:=(o.ext x2).push (b:=1) (x.trans x2) w (u:=.sl X.next 0 1 0 1) (cs:=[jP (UInt8.ofNat (u % 128+128))]) (by simp only [aM,aA];rfl) (fun c hc=>by rcases List.mem_singleton.1 hc with rfl;exact u81 _) (by simp) (by simp;omega) (by simp [eD];omega)
   simp only [jP] at q1
   simp only [↓cw,↓reduceIte,Nat.reduceLT,kk,show (128:Int)≤(u:Int) by omega,if_true,bQe,aZl,aDr,q1,bL9,bQc]
   exact ha (u / 128) _ _ (by omega) ⟨v2,done++[UInt8.ofNat (u % 128+128)],rfl,by simpa using o2,x3,by rw [←e,hb1];simp,by omega⟩
theorem Own.pushX {S0 S:St} {n b:Nat} {v:V} {es:List (List V)} (h:Own S0 S n v es) (x:Ext S0 S) (w:WF S0) (he:es≠[]) {u:V} {cs:List (List V)} (hu:aM S u=.ok cs) (hc:∀ c,c∈cs→c.length=n∧aF c=true)
  (h1:(es.length+cs.length)*b≤35184372088832) (h2:es.length+cs.length<eD):∃ v' S',fQ n b v u none S=.ok (v',S')∧Ext S0 S'∧S'.next≤S.next+1∧Own S0 S' n v' (es++cs):=by
 by_cases hne:cs=[]
 ·subst hne
  rcases h.is with ⟨rfl,rfl⟩ | ⟨a,ver,tl,rfl,q1,q2,q3⟩
  ·exact absurd rfl he
  ·have g:aC S a ver=.ok (n,es++tl):=aI q3
   refine ⟨.sl a (ver+1) n 0 es.length,⟨S.next,S.heap.put a (.row (ver+1) n es)⟩,?_,x.set q1 q2 w _,Nat.le_succ _,⟨.inr ⟨a,ver+1,[],by rw [List.append_nil],q1,q2,by rw [List.append_nil,List.append_nil];exact Tr.get_put_sameB _ _ _ trivial⟩,by rw [List.append_nil];exact h.len⟩⟩
   simp only [List.length_nil,Nat.add_zero] at h1 h2
   simp only [fQ,hu,jR,List.all_nil,and_self,if_true,g,Nat.zero_add,List.length_append,Nat.le_add_right,List.length_nil,Nat.add_zero,h1,h2,List.drop_zero,List.append_nil,List.take_left']
 ·exact h.push x w hu hc hne h1 h2
theorem aZn (n:Int):Go.Pack.numP n≠[]:=fun e=>by have:=Go.Pack.nb_pos (Go.Pack.zig n);unfold Go.Pack.numP at e;rw [e] at this;exact absurd this (by decide)
theorem aPz (s:List UInt8):txt.put s=Go.Pack.numP (s.length:Int)++s:=rfl
theorem bQf {S:St} {v:V} {b:List UInt8} (w:WF S) (hv:Sl S 1 v (b.map jP)) (hb:b.length<1000000) (s:List UInt8) (hs:s.length<1000000) {K:KW} (H:∀ v' S',Ext S S'→Own S S' 1 v' ((b++txt.put s).map jP)→K v' S'):C 171 [v,.str s] S K:=by
 refine bMz ?_
 have w1:wr .i64 (10+(s.length:Int))=10+(s.length:Int):=kU (by omega) (by omega)
 delta Tryz.f171;simp only [↓cw,↓reduceIte,Nat.reduceLT,kk,w1]
 refine bL8 w hv (by omega) _ (by omega) (by omega) fun v1 S1 x1 o1=>?_
 refine aZm (x1.wf w) o1.sl (by omega) _ (by constructor<;>omega) fun v2 S2 x2 o2=>?_
 have o2':Own S S2 1 v2 ((b++Go.Pack.numP (s.length:Int)).map jP):=o2.weaken x1.next
 have hnp:=Go.Pack.numP_len (n:=(s.length:Int)) ⟨by omega,by omega⟩
 obtain ⟨v3,S3,q1,x3,n3,o3⟩:=Own.pushX (b:=1) o2' (x1.trans x2) w (by simp [aZn]) (u:=.str s) (cs:=s.map jP) rfl (fun c hc=>by obtain ⟨y,_,rfl⟩:=List.mem_map.1 hc;exact u81 y) (by simp;omega) (by simp [eD];omega)
 simp only [↓cw,↓reduceIte,Nat.reduceLT,kk,q1]
 exact H _ _ x3 (by rw [aPz,←List.append_assoc,List.map_append];exact o3)
theorem aKu (f:Bool):Go.Pack.flag.put f=Go.Pack.numP (if f=true then 1 else 0):=by cases f<;>rfl
theorem bQg {S:St} {v:V} {b:List UInt8} (w:WF S) (hv:Sl S 1 v (b.map jP)) (hb:b.length<1000000) (f:Bool) {K:KW} (H:∀ v' S',Ext S S'→Own S S' 1 v' ((b++Go.Pack.flag.put f).map jP)→K v' S'):C 172 [v,.bool f] S K:=by
 refine bN0 ?_
 rw [aKu] at H
 delta Tryz.f172;cases f<;>simp only [↓cw,↓reduceIte,Nat.reduceLT,kk,Bool.false_eq_true,if_true,if_false]
 ·exact aZm w hv (by omega) 0 (by constructor<;>omega) fun v' S' x o=>H v' S' x o
 ·exact aZm w hv (by omega) 1 (by constructor<;>omega) fun v' S' x o=>H v' S' x o
def WB (a:Nat) (b:List UInt8) (S:St):Prop:=∃ v,S.heap.get a=some (.row 0 1 [[v]])∧Sl S 1 v (b.map jP)∧blkOf v≠some a∧a<S.next
theorem WB.set {S S':St} {a:Nat} {v':V} {b:List UInt8} (w:WF S) (ha:a<S.next) (x:Ext S S') (o:Own S S' 1 v' (b.map jP)):AM.But a S ⟨S'.next,S'.heap.put a (.row 0 1 [[v']])⟩∧WB a b ⟨S'.next,S'.heap.put a (.row 0 1 [[v']])⟩:=by
 have ha':a<S'.next:=Nat.lt_of_lt_of_le ha x.next
 have hb:∀ y,blkOf v'=some y→y≠a:=fun y hy e=>by
  rcases o.is with ⟨rfl,_⟩ | ⟨c,ver,tl,rfl,q1,q2,q3⟩
  ·cases hy
  ·cases hy;omega
 refine ⟨(AM.But.of x).trans (AM.But.put ha' _),v',Tr.get_put_sameB _ _ _ trivial,o.sl.keep fun y c hy hc=>?_,fun e=>hb a e rfl,ha'⟩
 show (S'.heap.put a _).get y=_
 rw [Tr.get_put_neB _ _ _ _ trivial (hb y hy)];exact hc
theorem g93 {S:St} {a:Nat} {b:List UInt8} (w:WF S) (hw:WB a b S) (hb:b.length<1000000) (s:List UInt8) (hs:s.length<1000000) {K:KW} (H:∀ S',AM.But a S S'→WB a (b++txt.put s) S'→K (.tup []) S'):C 93 [.ptr a 0 0 0,.str s] S K:=by
 obtain ⟨v,hg,hv,hk,ha⟩:=hw
 refine v93 ?_
 have r:=aI hg
 delta Tryz.f93;simp only [↓cw,↓reduceIte,Nat.reduceLT,kk,r]
 refine bQf w hv hb s hs fun v' S' x o=>?_
 simp only [↓cw,↓reduceIte,Nat.reduceLT,kk,aI (x.old _ _ hg),o.cells,o.one]
 obtain ⟨h1,h2⟩:=WB.set w ha x o
 exact H _ h1 h2
theorem g95 {S:St} {a:Nat} {b:List UInt8} (w:WF S) (hw:WB a b S) (hb:b.length<1000000) (f:Bool) {K:KW} (H:∀ S',AM.But a S S'→WB a (b++Go.Pack.flag.put f) S'→K (.tup []) S'):C 95 [.ptr a 0 0 0,.bool f] S K:=by
 obtain ⟨v,hg,hv,hk,ha⟩:=hw
 refine v95 ?_
 have r:=aI hg
 delta Tryz.f95;simp only [↓cw,↓reduceIte,Nat.reduceLT,kk,r]
 refine bQg w hv hb f fun v' S' x o=>?_
 simp only [↓cw,↓reduceIte,Nat.reduceLT,kk,aI (x.old _ _ hg),o.cells,o.one]
 obtain ⟨h1,h2⟩:=WB.set w ha x o
 exact H _ h1 h2
def dF (ns:List Int):List UInt8:=ns.flatMap Go.Pack.numP
def aQ0 (b:List UInt8) (n:Int):List UInt8⊕List UInt8:=.inr (b++Go.Pack.numP n)
theorem bDp:∀ (ns:List Int) (b:List UInt8),aE aQ0 id ns b=b++dF ns
 | [],b=>by simp [aE,dF]
 | n::ns,b=>by
  show aE aQ0 id ns (b++Go.Pack.numP n)=_
  rw [bDp ns];simp [dF]
theorem g92 {S:St} {a k:Nat} {b:List UInt8} (w:WF S) (hw:WB a b S) (ns:List Int) (hb:b.length+10*ns.length<1000000) (hI:∀ n∈ns,I64 n) (hk:aC S k 0=.ok (1,ns.map cX)) (hka:k≠a) {K:KW} (H:∀ S',AM.But a S S'→WB a (b++dF ns) S'→K (.tup []) S'):C 92 [.ptr a 0 0 0,.sl k 0 1 0 ns.length] S K:=by
 refine v92 ?_
 delta Tryz.f92;simp only [↓cw,↓reduceIte,Nat.reduceLT,kk]
 refine aH ns (step:=aQ0) (fin:=id) (fun i d vs X=>vs=[.int .i64 (i:Int)]∧AM.But a S X∧WB a d X∧d.length≤b.length+10*i) (fun d=>d=b++dF ns) ?_ ?_ (s:=b) ⟨rfl,⟨fun _ _ _ h=>h,Nat.le_refl _,fun h=>h⟩,hw,Nat.le_refl _⟩ (bDp ns b)
 ·rintro i n d vs X hi ⟨rfl,bt,⟨v,hg,hv,hkv,ha⟩,hd⟩ aD Hq
  have hil:=(List.getElem?_eq_some_iff.1 hi).1
  have hn:=hI n (List.mem_of_getElem? hi)
  have hkX:X.heap.get k=some (.row 0 1 (ns.map cX)):=bt.old k _ hka (aC1 hk)
  have ld:=bQa hkX (by rw [List.getElem?_map,hi];rfl:(ns.map cX)[i]?=some (cX n)) none 0
  have r:=aI hg
  simp only [kk,cX] at ld
  simp only [aQ0] at Hq
  simp only [↓cw,↓reduceIte,Nat.reduceLT,kk,bO hi,if_true,bL7 hil,Nat.add_zero,ld,r]
  have wX:=bt.wf w
  refine aZm wX hv (by omega) n hn fun v' S' x o=>?_
  simp only [↓cw,↓reduceIte,Nat.reduceLT,kk,aI (x.old _ _ hg),o.cells,o.one,jO (show i<1000000000 by omega)]
  obtain ⟨h1,h2⟩:=WB.set wX ha x o
  have hl:=Go.Pack.numP_len hn
  exact Hq _ _ ⟨rfl,bt.trans h1,h2,by rw [List.length_append];omega⟩
 ·rintro d vs X ⟨rfl,bt,hw',hd⟩ aD Hq
  have Hq:d=b++dF ns:=Hq
  simp only [↓cw,↓reduceIte,Nat.reduceLT,kk,Int.lt_irrefl,if_false]
  exact H _ bt (by rw [←Hq];exact hw')
theorem WB.ext {S S':St} {a:Nat} {b:List UInt8} (h:WB a b S) (x:Ext S S'):WB a b S':=by
 obtain ⟨v,hg,hv,hk,ha⟩:=h
 exact ⟨v,x.old _ _ hg,hv.ext x,hk,Nat.lt_of_lt_of_le ha x.next⟩
theorem WB.lt {S:St} {a:Nat} {b:List UInt8} (h:WB a b S):a<S.next:=by
 obtain ⟨v,hg,hv,hk,ha⟩:=h
 exact ha
theorem lL (s:List UInt8) (h:s.length<1000000):(txt.put s).length≤10+s.length:=by
 rw [aPz,List.length_append]
 have:=Go.Pack.numP_len (n:=(s.length:Int)) ⟨by omega,by omega⟩
 omega
theorem lX:∀ ns:List Int,(∀ n∈ns,I64 n)→(dF ns).length≤10*ns.length
 | [],_=>Nat.le_refl _
 | n::ns,h=>by
  have:=lX ns fun m hm=>h m (List.mem_cons_of_mem _ hm)
  have:=Go.Pack.numP_len (h n (List.mem_cons_self ..))
  simp only [dF,List.flatMap_cons,List.length_append,List.length_cons] at *
  omega
theorem nW {S:St} {a:Nat} {b:List UInt8} (w:WF S) (hw:WB a b S) (ns:List Int) (hb:b.length+10*ns.length<1000000) (hI:∀ n∈ns,I64 n) {K:KW} (H:∀ S',AM.But a S S'→WB a (b++dF ns) S'→K (.tup []) S'):C 92 [.ptr a 0 0 0,.sl S.next 0 1 0 ns.length] ⟨S.next+1,S.heap.put S.next (.row 0 1 (ns.map cX))⟩ K:=by
 have x:Ext S ⟨S.next+1,S.heap.put S.next (.row 0 1 (ns.map cX))⟩:=Ext.new w _
 have:=hw.lt
 exact g92 (k:=S.next) (x.wf w) (hw.ext x) ns hb hI (aA _ _ _ _ _ _) (by omega) fun S' h1 h2=>H S' ((AM.But.of x).trans h1) h2
theorem sQ {a:Int} {l:List Int} (h:I64 a) (t:∀ n∈l,I64 n):∀ n∈a::l,I64 n:=List.forall_mem_cons.2 ⟨h,t⟩
theorem al0:∀ n∈([]:List Int),I64 n:=fun _ h=>by cases h
def aKv (d:Date):Prop:=I64 d.y∧I64 d.m∧I64 d.d
theorem aIm (d:Date):kL.put d=dF [d.y,d.m,d.d]:=by
 show Go.Pack.numP d.y++(Go.Pack.numP d.m++Go.Pack.numP d.d)=_
 simp [dF]
theorem bLb (a0 a1:Int) (fr:Option Nat) (S:St):cH 1 [.int .i64 0] 2 [(0,.int .i64 a0),(1,.int .i64 a1)] fr S=(match bB fr S (.row 0 1 [[.int .i64 a0],[.int .i64 a1]]) with
  | .error e=>.error e
  | .ok (a,S')=>.ok (.sl a 0 1 0 2,S')):=by unfold cH;rw [if_pos (by decide)];rfl
theorem bQh (a0 a1 a2:Int) (fr:Option Nat) (S:St):cH 1 [.int .i64 0] 3 [(0,.int .i64 a0),(1,.int .i64 a1),(2,.int .i64 a2)] fr S=(match bB fr S (.row 0 1 [[.int .i64 a0],[.int .i64 a1],[.int .i64 a2]]) with
  | .error e=>.error e
  | .ok (a,S')=>.ok (.sl a 0 1 0 3,S')):=by unfold cH;rw [if_pos (by decide)];rfl
theorem bQi (a0 a1 a2 a3 a4:Int) (fr:Option Nat) (S:St):cH 1 [.int .i64 0] 5 [(0,.int .i64 a0),(1,.int .i64 a1),(2,.int .i64 a2),(3,.int .i64 a3),(4,.int .i64 a4)] fr S=(match bB fr S (.row 0 1 [[.int .i64 a0],[.int .i64 a1],[.int .i64 a2],[.int .i64 a3],[.int .i64 a4]]) with
  | .error e=>.error e
  | .ok (a,S')=>.ok (.sl a 0 1 0 5,S')):=by unfold cH;rw [if_pos (by decide)];rfl
theorem g94 {S:St} {a:Nat} {b:List UInt8} (w:WF S) (hw:WB a b S) (hb:b.length<100000) (d:Date) (hd:aKv d) {K:KW} (H:∀ S',AM.But a S S'→WB a (b++kL.put d) S'→K (.tup []) S'):C 94 [.ptr a 0 0 0,.agg [.int .i64 d.y,.int .i64 d.m,.int .i64 d.d]] S K:=by
 refine v94 ?_
 have x:Ext S ⟨S.next+1,S.heap.put S.next (.row 0 3 [d.enc])⟩:=Ext.new w _
 have h:=nW (x.wf w) (hw.ext x) [d.y,d.m,d.d] (by simp;omega) (sQ hd.1 (sQ hd.2.1 (sQ hd.2.2 al0))) (K:=fun v S'=>K (.tup []) S') fun S' h1 h2=>H S' ((AM.But.of x).trans h1) (by rw [aIm];exact h2)
 simp only [Date.enc,List.map_cons,List.map_nil,cX,List.length_cons,List.length_nil] at h
 delta Tryz.f94;simp only [↓cw,↓reduceIte,Nat.reduceLT,kk,eG,bQh]
 exact h
def zQ (p:Part):List UInt8:=txt.put p.cat++dF [p.bp,p.net]
structure PostI' (p:Posted):Prop where
 ser:p.ref.ser.length≤64
 day:aKv p.day
 ofs:p.of.ser.length≤64
 num:I64 p.of.num
 len:p.total.parts.length≤12
 parts:∀ q∈p.total.parts,q.cat.length≤64∧I64 q.bp∧I64 q.net
def oZ (p:Posted):List UInt8:=txt.put p.ref.ser++(kL.put p.day++(txt.put p.of.ser++(dF [p.of.num,(p.total.parts.length:Int)]++p.total.parts.flatMap zQ)))
theorem aX5 (p:Posted):aF6.put (dV p)=oZ p:=by
 show txt.put p.ref.ser++(kL.put p.day++(txt.put p.of.ser++(Go.Pack.numP p.of.num++(Go.Pack.numP (((p.total.parts.map iK).length:Nat):Int)++(p.total.parts.map iK).flatMap aBh.put))))=_
 have e:(p.total.parts.map iK).flatMap aBh.put=p.total.parts.flatMap zQ:=by
  rw [List.flatMap_map]
  congr 1
  funext q
  show txt.put q.cat++(Go.Pack.numP q.bp++Go.Pack.numP q.net)=_
  simp [zQ,dF]
 rw [e,List.length_map]
 simp [oZ,dF]
theorem aEf {n:Nat} (h:n<1000000000):I64 (n:Int):=⟨by omega,by omega⟩
def aIn (b:List UInt8) (p:Part):List UInt8⊕List UInt8:=.inr (b++zQ p)
theorem aX6:∀ (ps:List Part) (b:List UInt8),aE aIn id ps b=b++ps.flatMap zQ
 | [],b=>by simp [aE]
 | p::ps,b=>by
  show aE aIn id ps (b++zQ p)=_
  rw [aX6 ps];simp
theorem aKw {p:Part} (h:p.cat.length≤64∧I64 p.bp∧I64 p.net):(zQ p).length≤94:=by
 have h1:=lL p.cat (by omega)
 have h2:=lX [p.bp,p.net] (sQ h.2.1 (sQ h.2.2 al0))
 simp only [zQ,List.length_append,List.length_cons,List.length_nil] at *
 omega
theorem g96 {S:St} {a:Nat} {b:List UInt8} (w:WF S) (hw:WB a b S) (hb:b.length<80000) (p:Posted) (hp:PostI' p) {K:KW} (H:∀ S',AM.But a S S'→WB a (b++oZ p) S'→K (.tup []) S'):C 96 [.ptr a 0 0 0,.agg p.enc] S K:=by
 refine v96 ?_
 have ha:=hw.lt
 obtain ⟨S1,hS1⟩:∃ S1:St,S1=⟨S.next+1,S.heap.put S.next (.row 0 12 [p.enc])⟩:=⟨_,rfl⟩
 have x1:Ext S S1:=by rw [hS1];exact Ext.new w _
 have r1:S1.heap.get S.next=some (.row 0 12 [p.enc]):=by rw [hS1];exact Tr.get_put_sameB _ _ _ trivial
 have hl1:=lL p.ref.ser (by have:=hp.ser;omega)
 have hl2:=lL p.of.ser (by have:=hp.ofs;omega)
 have hl3:=lX [p.day.y,p.day.m,p.day.d] (sQ hp.day.1 (sQ hp.day.2.1 (sQ hp.day.2.2 al0)))
 have hs:=hp.ser;have hso:=hp.ofs;have hpl:=hp.len
 rw [←aIm] at hl3
 simp only [List.length_cons,List.length_nil] at hl3
 have rr:∀ {X:St},AM.But a S1 X→aC X S.next 0=.ok (12,[p.enc]):=fun {X} bt=>aI (bt.old _ _ (by omega) r1)
 simp only [Posted.enc] at hS1 rr
 have r0:=rr (X:=S1) ⟨fun _ _ _ h=>h,Nat.le_refl _,fun h=>h⟩
 delta Tryz.f96;simp only [↓cw,↓reduceIte,Nat.reduceLT,kk,Posted.enc,←hS1,r0]
 have cwb:∀ {X:St},AM.But a S1 X→WF X:=fun {X} bt=>bt.wf (x1.wf w)
 refine g93 (x1.wf w) (hw.ext x1) (by omega) _ (by omega) fun S2 b2 h2=>?_
 simp only [↓cw,↓reduceIte,Nat.reduceLT,kk,rr b2]
 refine g94 (cwb b2) h2 (by rw [List.length_append];omega) p.day hp.day fun S3 b3' h3=>?_
 have b3:=b2.trans b3'
 simp only [↓cw,↓reduceIte,Nat.reduceLT,kk,rr b3]
 refine g93 (cwb b3) h3 (by simp only [List.length_append];omega) _ (by omega) fun S4 b4' h4=>?_
 have b4:=b3.trans b4'
 simp only [↓cw,↓reduceIte,Nat.reduceLT,kk,rr b4,bLb]
 have hl4:=lX [p.of.num,(p.total.parts.length:Int)] (sQ hp.num (sQ (aEf (by omega)) al0))
 simp only [List.length_cons,List.length_nil] at hl4
 refine nW (cwb b4) h4 [p.of.num,(p.total.parts.length:Int)] (by simp only [List.length_append,List.length_cons,List.length_nil];omega) (sQ hp.num (sQ (aEf (by omega)) al0)) fun S5 b5' h5=>?_
 have b5:=b4.trans b5'
 simp only [↓cw,↓reduceIte,Nat.reduceLT,kk,rr b5]
 refine aH p.total.parts (step:=aIn) (fin:=id) (fun i d vs X=>vs=[.int .i64 (i:Int)]∧AM.But a S1 X∧WB a d X∧d.length≤b.length+260+94*i) (fun d=>d=b++oZ p) ?_ ?_ (s:=b++txt.put p.ref.ser++kL.put p.day++txt.put p.of.ser++dF [p.of.num,(p.total.parts.length:Int)]) ⟨rfl,b5,h5,by simp only [List.length_append];omega⟩ (by rw [aX6];simp [oZ])
 ·rintro i q d vs X hi ⟨rfl,bt,hwd,hd⟩ aD Hq
  have hil:=(List.getElem?_eq_some_iff.1 hi).1
  have hq:=hp.parts q (List.mem_of_getElem? hi)
  have wX:=cwb bt
  have hla:=hwd.lt
  have hq1:=lL q.cat (by omega)
  have hq2:=aKw hq
  obtain ⟨X1,hX1⟩:∃ X1:St,X1=⟨X.next+1,(X.heap.put X.next (.row 0 4 [[.str [],.int .i64 0,.int .i64 0,.int .i64 0]])).put X.next (.row 0 4 [q.enc])⟩:=⟨_,rfl⟩
  have xX:Ext X X1:=by rw [hX1];exact Ext.var wX 4 _ _
  have rq:X1.heap.get X.next=some (.row 0 4 [q.enc]):=by rw [hX1];exact Tr.get_put_sameB _ _ _ trivial
  have rr2:∀ {Y:St},AM.But a X1 Y→aC Y X.next 0=.ok (4,[q.enc]):=fun {Y} bt=>aI (bt.old _ _ (by omega) rq)
  simp only [Part.enc] at hX1 rr2
  have r20:=rr2 (Y:=X1) ⟨fun _ _ _ h=>h,Nat.le_refl _,fun h=>h⟩
  simp only [aIn] at Hq
  simp only [↓cw,↓reduceIte,Nat.reduceLT,kk,bO hi,if_true,rY hi,Part.enc,←hX1,r20]
  refine g93 (xX.wf wX) (hwd.ext xX) (by omega) _ (by omega) fun Y1 c1 k1=>?_
  simp only [↓cw,↓reduceIte,Nat.reduceLT,kk,rr2 c1,bLb,jO (show i<1000000000 by omega)]
  refine nW (c1.wf (xX.wf wX)) k1 [q.bp,q.net] (by simp only [List.length_append,List.length_cons,List.length_nil];omega) (sQ hq.2.1 (sQ hq.2.2 al0)) fun Y2 c2 k2=>?_
  exact Hq _ _ ⟨rfl,(bt.trans (AM.But.of xX)).trans (c1.trans c2),by rw [List.append_assoc] at k2;exact k2,by rw [List.length_append];omega⟩
 ·rintro d vs X ⟨rfl,bt,hwd,hd⟩ aD Hq
  have Hq:d=b++oZ p:=Hq
  simp only [↓cw,↓reduceIte,Nat.reduceLT,kk,Int.lt_irrefl,if_false]
  exact H _ ((AM.But.of x1).trans bt) (by rw [←Hq];exact hwd)
structure ImgOK (s:State):Prop where
 t1:s.table.length≤24
 t2:∀ r∈s.table,r.cat.length≤64∧aKv r.day∧I64 r.bp
 s1:s.ser.length≤8
 s2:∀ x∈s.ser,x.name.length≤64∧I64 x.limit
 p1:s.posted.length≤40
 p2:∀ p∈s.posted,PostI' p
 e1:s.sess.length≤8
 e2:∀ x∈s.sess,I64 x.id∧I64 x.last∧I64 x.reply.why∧I64 x.reply.number∧I64 x.reply.gross
 n:I64 s.next
theorem ImgOK.of {s:State} (h:aBq.ok (aAi s)):ImgOK s:=by
 obtain ⟨⟨t1,t2⟩,⟨s1,s2⟩,⟨p1,p2⟩,⟨e1,e2⟩,n⟩:=h
 refine ⟨t1,fun r hr=>t2 r hr,?_,fun x hx=>?_,?_,fun p hp=>?_,?_,fun x hx=>?_,n⟩
 ·simpa [aAi] using s1
 ·obtain ⟨a,b,c⟩:=s2 (oC x) (List.mem_map_of_mem hx);exact ⟨a,b⟩
 ·simpa [aAi] using p1
 ·obtain ⟨a,b,c,d,e1,e2⟩:=p2 (dV p) (List.mem_map_of_mem hp)
  refine ⟨a,b,c,d,by simpa [dV] using e1,fun q hq=>?_⟩
  obtain ⟨x,y,z⟩:=e2 (iK q) (List.mem_map_of_mem hq)
  exact ⟨x,y,z⟩
 ·simpa [aAi] using e1
 ·exact e2 (qI x) (List.mem_map_of_mem hx)
def vS (r:Rate):List UInt8:=txt.put r.cat++(kL.put r.day++dF [r.bp])
def aF7 (x:Ser):List UInt8:=txt.put x.name++(dF [x.limit]++Go.Pack.flag.put x.shut)
def aEg (x:Sess):List UInt8:=dF [x.id,x.last,x.reply.why,x.reply.number,x.reply.gross]
def aEh (s:State):List UInt8:=dF [(s.table.length:Int)]++s.table.flatMap vS++dF [(s.ser.length:Int)]++s.ser.flatMap aF7++dF [(s.posted.length:Int)]++s.posted.flatMap oZ++dF [(s.sess.length:Int)]++s.sess.flatMap aEg++dF [s.next]
theorem aZo (s:State):aBq.put (aAi s)=aEh s:=by
 show (Go.Pack.numP (s.table.length:Nat)++s.table.flatMap zN.put)++((Go.Pack.numP (((s.ser.map oC).length:Nat):Int)++(s.ser.map oC).flatMap aIk.put)++((Go.Pack.numP (((s.posted.map dV).length:Nat):Int)++(s.posted.map dV).flatMap aF6.put)++((Go.Pack.numP (((s.sess.map qI).length:Nat):Int)++(s.sess.map qI).flatMap zO.put)++Go.Pack.numP s.next)))=_
 have e1:zN.put=vS:=by funext r;show txt.put r.cat++(kL.put r.day++Go.Pack.numP r.bp)=_;simp [vS,dF]
 have e2:(s.ser.map oC).flatMap aIk.put=s.ser.flatMap aF7:=by
  rw [List.flatMap_map];congr 1;funext x
  show txt.put x.name++(Go.Pack.numP x.limit++Go.Pack.flag.put x.shut)=_
  simp [aF7,dF]
 have e3:(s.posted.map dV).flatMap aF6.put=s.posted.flatMap oZ:=by
  rw [List.flatMap_map];congr 1;funext p;exact aX5 p
 have e4:(s.sess.map qI).flatMap zO.put=s.sess.flatMap aEg:=by
  rw [List.flatMap_map];congr 1;funext x
  show Go.Pack.numP x.id++(Go.Pack.numP x.last++(Go.Pack.numP x.reply.why++(Go.Pack.numP x.reply.number++Go.Pack.numP x.reply.gross)))=_
  simp [aEg,dF]
 rw [e1,e2,e3,e4]
 simp [aEh,dF]
def grow {α:Type} (f:α→List UInt8) (b:List UInt8) (x:α):List UInt8⊕List UInt8:=.inr (b++f x)
theorem bDq {α:Type} (f:α→List UInt8):∀ (l:List α) (b:List UInt8),aE (grow f) id l b=b++l.flatMap f
 | [],b=>by simp [aE]
 | x::l,b=>by
  show aE (grow f) id l (b++f x)=_
  rw [bDq f l];simp
theorem aIo {α:Type} (f:α→List UInt8) (l:List α) {a B:Nat} {X0 Y:St} {b:List UInt8} {F:List V→St→(List V→St→Prop)→Prop} (hlen:∀ x∈l,(f x).length≤B) (h0:AM.But a X0 Y) (hw:WB a b Y)
  (hs:∀ i x d X,l[i]?=some x→AM.But a X0 X→WB a d X→d.length≤b.length+B*i→∀ aD:List V→St→Prop,(∀ X',AM.But a X0 X'→WB a (d++f x) X'→aD [.int .i64 ((i+1:Nat):Int)] X')→F [.int .i64 (i:Int)] X aD)
  (he:∀ X aD,AM.But a X0 X→WB a (b++l.flatMap f) X→F [.int .i64 (l.length:Int)] X aD):nI [.int .i64 0] Y F:=by
 refine aH l (step:=grow f) (fin:=id) (fun i d vs X=>vs=[.int .i64 (i:Int)]∧AM.But a X0 X∧WB a d X∧d.length≤b.length+B*i) (fun d=>d=b++l.flatMap f) ?_ ?_ (s:=b) ⟨rfl,h0,hw,Nat.le_refl _⟩ (bDq f l b)
 ·rintro i x d vs X hi ⟨rfl,bt,hwd,hd⟩ aD Hq
  refine hs i x d X hi bt hwd hd aD fun X' h1 h2=>Hq _ _ ⟨rfl,h1,h2,?_⟩
  have:=hlen x (List.mem_of_getElem? hi)
  rw [List.length_append,Nat.mul_add];omega
 ·rintro d vs X ⟨rfl,bt,hwd,hd⟩ aD Hq
  have Hq:d=b++l.flatMap f:=Hq
  exact he X aD bt (by rw [←Hq];exact hwd)
theorem sE {n:Int} (h:I64 n):(dF [n]).length≤10:=lX [n] (sQ h al0)
theorem aX7 (f:Bool):(Go.Pack.flag.put f).length≤10:=by rw [aKu];cases f<;>exact Go.Pack.numP_len ⟨by decide,by decide⟩
theorem aEi {d:Date} (h:aKv d):(kL.put d).length≤30:=by rw [aIm];exact lX _ (sQ h.1 (sQ h.2.1 (sQ h.2.2 al0)))
theorem aKx {r:Rate} (h:r.cat.length≤64∧aKv r.day∧I64 r.bp):(vS r).length≤114:=by
 have h1:=lL r.cat (by omega);have h2:=aEi h.2.1;have h3:=sE h.2.2
 simp only [vS,List.length_append];omega
theorem aQ1 {x:Ser} (h:x.name.length≤64∧I64 x.limit):(aF7 x).length≤94:=by
 have h1:=lL x.name (by omega);have h2:=sE h.2;have h3:=aX7 x.shut
 simp only [aF7,List.length_append];omega
theorem vB {α:Type} (f:α→List UInt8) {n:Nat}:∀ l:List α,(∀ a∈l,(f a).length≤n)→(l.flatMap f).length≤n*l.length
 | [],_=>Nat.zero_le _
 | x::l,h=>by
  have h1:=h x (List.mem_cons_self ..)
  have h2:=vB f l fun a ha=>h a (List.mem_cons_of_mem _ ha)
  simp only [List.flatMap_cons,List.length_append,List.length_cons,Nat.mul_add];omega
theorem aH2 {p:Posted} (h:PostI' p):(oZ p).length≤1326:=by
 have h1:=lL p.ref.ser (by have:=h.ser;omega);have h2:=aEi h.day;have h3:=lL p.of.ser (by have:=h.ofs;omega)
 have h4:=lX [p.of.num,(p.total.parts.length:Int)] (sQ h.num (sQ (aEf (by have:=h.len;omega)) al0))
 have h5:=vB zQ (n:=94) p.total.parts fun q hq=>aKw (h.parts q hq)
 have:=h.ser;have:=h.ofs;have:=h.len
 simp only [oZ,List.length_append,List.length_cons,List.length_nil] at *;omega
theorem aKy {x:Sess} (h:I64 x.id∧I64 x.last∧I64 x.reply.why∧I64 x.reply.number∧I64 x.reply.gross):(aEg x).length≤50:=lX _ (sQ h.1 (sQ h.2.1 (sQ h.2.2.1 (sQ h.2.2.2.1 (sQ h.2.2.2.2 al0)))))
theorem AM.But.rfl' {a:Nat} {S:St}:AM.But a S S:=⟨fun _ _ _ h=>h,Nat.le_refl _,fun h=>h⟩
theorem _root_.Go.AM.Sl.out {α:Type} {enc:α→List V} {S:St} {n:Nat} {v:V} {l:List α} (h:Sl S n v (l.map enc)) (hc:∀ x,cloVs (enc x)=true):cF jL (jU (gO S 3) S) v=.ok (.imm (l.map enc)):=by
 have he:=h.elems
 rcases h.is with ⟨rfl,e⟩ | rfl | ⟨a',ver',off,elems,rfl,h2,h3⟩
 ·rw [e];rfl
 ·rfl
 ·simp only [cF,jU,he,(gY (S:=S) (n:=2) (aO (enc:=enc) hc l)).1]
theorem g28 (s:State) (h:aV s=true→ImgOK s) (S:St) (K:KW):C 28 [.agg [.imm (s.table.map Rate.enc),.imm (s.ser.map Ser.enc),.imm (s.posted.map Posted.enc),.imm (s.book.map Bal.enc),.imm (s.sess.map Sess.enc),.int .i64 s.next]] S K=K (.imm ((lB s).map jP)) S:=by
 refine (v28 rfl ?_).eq S K
 delta Tryz.f28;simp only [↓cw,↓reduceIte,Nat.reduceLT,kk,eG,g24 s]
 cases c1:aV s
 ·have e:lB s=[]:=by unfold lB;rw [if_pos c1]
  simp only [↓cw,↓reduceIte,Nat.reduceLT,c1,kk,oo,if_true,Bool.not_false,e,List.map_nil]
 have ok:=h c1
 have e:lB s=aEh s:=by unfold lB;rw [if_neg (by rw [c1];decide),aZo]
 obtain ⟨R,hR⟩:∃ R,R=aEh s:=⟨_,rfl⟩
 rw [e,←hR]
 obtain ⟨S0,hS0⟩:∃ S0:St,S0=⟨1+1,(Tr.nil.put 0 (.row 0 6 [s.enc])).put 1 (.row 0 1 [[.nils]])⟩:=⟨_,rfl⟩
 have w0:WF S0:=by rw [hS0];exact jN (n:=1) (jN pF (by decide) (by decide)) (by decide) (by decide)
 have n0:S0.next=2:=by rw [hS0]
 have r0:aC S0 0 0=.ok (6,[s.enc]):=by rw [hS0];rfl
 have hw0:WB 1 [] S0:=⟨.nils,by rw [hS0];exact Tr.get_put_sameB _ _ _ trivial,Sl.nilv _ _,(by show (none:Option Nat)≠some 1;simp),by omega⟩
 have rr:∀ {X:St},AM.But 1 S0 X→aC X 0 0=.ok (6,[s.enc]):=fun {X} bt=>aI (bt.old _ _ (by decide) (aC1 r0))
 have wf:∀ {X:St},AM.But 1 S0 X→WF X:=fun {X} bt=>bt.wf w0
 simp only [State.enc] at hS0 rr r0
 simp only [↓cw,↓reduceIte,Nat.reduceLT,c1,kk,eG,Bool.not_true,Bool.false_eq_true,if_false,aDr,←hS0,r0]
 have o1:=ok.t1;have o2:=ok.s1;have o3:=ok.p1;have o4:=ok.e1
 have fl1:=vB vS (n:=114) s.table fun r hr=>aKx (ok.t2 r hr)
 have fl2:=vB aF7 (n:=94) s.ser fun r hr=>aQ1 (ok.s2 r hr)
 have fl3:=vB oZ (n:=1326) s.posted fun r hr=>aH2 (ok.p2 r hr)
 have fl4:=vB aEg (n:=50) s.sess fun r hr=>aKy (ok.e2 r hr)
 have l1:=sE (aEf (n:=s.table.length) (by omega))
 have l2:=sE (aEf (n:=s.ser.length) (by omega))
 have l3:=sE (aEf (n:=s.posted.length) (by omega))
 have l4:=sE (aEf (n:=s.sess.length) (by omega))
 refine nW w0 hw0 [(s.table.length:Int)] (by simp) (sQ (aEf (by omega)) al0) fun S1 b1 h1=>?_
 simp only [↓cw,↓reduceIte,Nat.reduceLT,kk,rr b1]
 refine aIo vS s.table (X0:=S0) (B:=114) (fun r hr=>aKx (ok.t2 r hr)) b1 h1 (fun i x d X hi bt hwd hd aD H=>?_) fun X aD bt hwd=>?_
 ·have hil:=(List.getElem?_eq_some_iff.1 hi).1
  have hx:=ok.t2 x (List.mem_of_getElem? hi)
  have wX:=wf bt
  have q1:=lL x.cat (by omega);have q2:=aEi hx.2.1
  have hd':d.length≤10000:=by simp only [List.nil_append] at hd;omega
  obtain ⟨X1,hX1⟩:∃ X1:St,X1=⟨X.next+1,(X.heap.put X.next (.row 0 5 [[.str [],.int .i64 0,.int .i64 0,.int .i64 0,.int .i64 0]])).put X.next (.row 0 5 [x.enc])⟩:=⟨_,rfl⟩
  have xX:Ext X X1:=by rw [hX1];exact Ext.var wX 5 _ _
  have rq:X1.heap.get X.next=some (.row 0 5 [x.enc]):=by rw [hX1];exact Tr.get_put_sameB _ _ _ trivial
  have hla:=hwd.lt
  have rr2:∀ {Y:St},AM.But 1 X1 Y→aC Y X.next 0=.ok (5,[x.enc]):=fun {Y} bt=>aI (bt.old _ _ (by omega) rq)
  simp only [Rate.enc] at hX1 rr2
  have r20:=rr2 (Y:=X1) AM.But.rfl'
  simp only [↓cw,↓reduceIte,Nat.reduceLT,kk,bO hi,if_true,xB hi,Rate.enc,←hX1,r20]
  refine g93 (xX.wf wX) (hwd.ext xX) (by omega) _ (by omega) fun Y1 c1' k1=>?_
  simp only [↓cw,↓reduceIte,Nat.reduceLT,kk,rr2 c1']
  refine g94 (c1'.wf (xX.wf wX)) k1 (by rw [List.length_append];omega) x.day hx.2.1 fun Y2 c2' k2=>?_
  have c2:=c1'.trans c2'
  simp only [↓cw,↓reduceIte,Nat.reduceLT,kk,rr2 c2,aDr,jO (show i<1000000000 by omega)]
  exact nW (c2.wf (xX.wf wX)) k2 [x.bp] (by simp only [List.length_append,List.length_cons,List.length_nil];omega) (sQ hx.2.2 al0) fun Y3 c3' k3=>H _ ((bt.trans (AM.But.of xX)).trans (c2.trans c3')) (by simpa [vS] using k3)
 simp only [↓cw,↓reduceIte,Nat.reduceLT,kk,Int.lt_irrefl,if_false,rr bt,aDr]
 have z1:([]++dF [(s.table.length:Int)]++s.table.flatMap vS).length≤2746:=by simp only [List.length_append,List.length_nil];omega
 generalize hB1:([]++dF [(s.table.length:Int)]++s.table.flatMap vS:List UInt8)=B1 at hwd z1
 refine nW (wf bt) hwd [(s.ser.length:Int)] (by simp;omega) (sQ (aEf (by omega)) al0) fun S2 b2' h2=>?_
 have b2:=bt.trans b2'
 clear hwd
 simp only [↓cw,↓reduceIte,Nat.reduceLT,kk,rr b2]
 refine aIo aF7 s.ser (X0:=S0) (B:=94) (fun r hr=>aQ1 (ok.s2 r hr)) b2 h2 (fun i x d X hi bt hwd hd aD H=>?_) fun X aD bt hwd=>?_
 ·have hil:=(List.getElem?_eq_some_iff.1 hi).1
  have hx:=ok.s2 x (List.mem_of_getElem? hi)
  have wX:=wf bt
  have q1:=lL x.name (by omega)
  have hd':d.length≤10000:=by rw [List.length_append] at hd;omega
  obtain ⟨X1,hX1⟩:∃ X1:St,X1=⟨X.next+1,(X.heap.put X.next (.row 0 4 [[.str [],.int .i64 0,.int .i64 0,.bool false]])).put X.next (.row 0 4 [x.enc])⟩:=⟨_,rfl⟩
  have xX:Ext X X1:=by rw [hX1];exact Ext.var wX 4 _ _
  have rq:X1.heap.get X.next=some (.row 0 4 [x.enc]):=by rw [hX1];exact Tr.get_put_sameB _ _ _ trivial
  have hla:=hwd.lt
  have rr2:∀ {Y:St},AM.But 1 X1 Y→aC Y X.next 0=.ok (4,[x.enc]):=fun {Y} bt=>aI (bt.old _ _ (by omega) rq)
  simp only [Ser.enc] at hX1 rr2
  have r20:=rr2 (Y:=X1) AM.But.rfl'
  simp only [↓cw,↓reduceIte,Nat.reduceLT,kk,bO hi,if_true,tV hi,Ser.enc,←hX1,r20]
  refine g93 (xX.wf wX) (hwd.ext xX) (by omega) _ (by omega) fun Y1 c1' k1=>?_
  simp only [↓cw,↓reduceIte,Nat.reduceLT,kk,rr2 c1',aDr]
  refine nW (c1'.wf (xX.wf wX)) k1 [x.limit] (by simp only [List.length_append,List.length_cons,List.length_nil];omega) (sQ hx.2 al0) fun Y2 c2' k2=>?_
  have c2:=c1'.trans c2'
  have q2:=sE hx.2
  simp only [↓cw,↓reduceIte,Nat.reduceLT,kk,rr2 c2,jO (show i<1000000000 by omega)]
  exact g95 (c2.wf (xX.wf wX)) k2 (by simp only [List.length_append];omega) x.shut fun Y3 c3' k3=>H _ ((bt.trans (AM.But.of xX)).trans (c2.trans c3')) (by simpa [aF7] using k3)
 simp only [↓cw,↓reduceIte,Nat.reduceLT,kk,Int.lt_irrefl,if_false,rr bt,aDr]
 have z2:(B1++dF [(s.ser.length:Int)]++s.ser.flatMap aF7).length≤3508:=by simp only [List.length_append];omega
 generalize hB2:(B1++dF [(s.ser.length:Int)]++s.ser.flatMap aF7:List UInt8)=B2 at hwd z2
 refine nW (wf bt) hwd [(s.posted.length:Int)] (by simp;omega) (sQ (aEf (by omega)) al0) fun S3 b3' h3=>?_
 have b3:=bt.trans b3'
 clear hwd
 simp only [↓cw,↓reduceIte,Nat.reduceLT,kk,rr b3]
 refine aIo oZ s.posted (X0:=S0) (B:=1326) (fun r hr=>aH2 (ok.p2 r hr)) b3 h3 (fun i x d X hi bt hwd hd aD H=>?_) fun X aD bt hwd=>?_
 ·have hil:=(List.getElem?_eq_some_iff.1 hi).1
  have hx:=ok.p2 x (List.mem_of_getElem? hi)
  have wX:=wf bt
  have hd':d.length≤70000:=by rw [List.length_append] at hd;omega
  obtain ⟨X1,hX1⟩:∃ X1:St,X1=⟨X.next+1,(X.heap.put X.next (.row 0 12 [aK2])).put X.next (.row 0 12 [x.enc])⟩:=⟨_,rfl⟩
  have xX:Ext X X1:=by rw [hX1];exact Ext.var wX 12 _ _
  have rq:X1.heap.get X.next=some (.row 0 12 [x.enc]):=by rw [hX1];exact Tr.get_put_sameB _ _ _ trivial
  have hla:=hwd.lt
  have rr2:∀ {Y:St},AM.But 1 X1 Y→aC Y X.next 0=.ok (12,[x.enc]):=fun {Y} bt=>aI (bt.old _ _ (by omega) rq)
  simp only [Posted.enc] at hX1 rr2
  have r20:=rr2 (Y:=X1) AM.But.rfl'
  simp only [aK2] at hX1
  simp only [↓cw,↓reduceIte,Nat.reduceLT,kk,bO hi,if_true,rZ hi,Posted.enc,←hX1,r20,jO (show i<1000000000 by omega)]
  exact g96 (xX.wf wX) (hwd.ext xX) (by omega) x hx fun Y3 c3' k3=>H _ ((bt.trans (AM.But.of xX)).trans c3') k3
 simp only [↓cw,↓reduceIte,Nat.reduceLT,kk,Int.lt_irrefl,if_false,rr bt,aDr]
 have z3:(B2++dF [(s.posted.length:Int)]++s.posted.flatMap oZ).length≤60000:=by simp only [List.length_append];omega
 generalize hB3:(B2++dF [(s.posted.length:Int)]++s.posted.flatMap oZ:List UInt8)=B3 at hwd z3
 refine nW (wf bt) hwd [(s.sess.length:Int)] (by simp;omega) (sQ (aEf (by omega)) al0) fun S4 b4' h4=>?_
 have b4:=bt.trans b4'
 clear hwd
 simp only [↓cw,↓reduceIte,Nat.reduceLT,kk,rr b4]
 refine aIo aEg s.sess (X0:=S0) (B:=50) (fun r hr=>aKy (ok.e2 r hr)) b4 h4 (fun i x d X hi bt hwd hd aD H=>?_) fun X aD bt hwd=>?_
 ·have hil:=(List.getElem?_eq_some_iff.1 hi).1
  have hx:=ok.e2 x (List.mem_of_getElem? hi)
  have wX:=wf bt
  have hd':d.length≤70000:=by rw [List.length_append] at hd;omega
  obtain ⟨X1,hX1⟩:∃ X1:St,X1=⟨X.next+1,(X.heap.put X.next (.row 0 5 [[.int .i64 0,.int .i64 0,.int .i64 0,.int .i64 0,.int .i64 0]])).put X.next (.row 0 5 [x.enc])⟩:=⟨_,rfl⟩
  have xX:Ext X X1:=by rw [hX1];exact Ext.var wX 5 _ _
  have rq:X1.heap.get X.next=some (.row 0 5 [x.enc]):=by rw [hX1];exact Tr.get_put_sameB _ _ _ trivial
  have hla:=hwd.lt
  have rr2:∀ {Y:St},AM.But 1 X1 Y→aC Y X.next 0=.ok (5,[x.enc]):=fun {Y} bt=>aI (bt.old _ _ (by omega) rq)
  simp only [Sess.enc] at hX1 rr2
  have r20:=rr2 (Y:=X1) AM.But.rfl'
  simp only [↓cw,↓reduceIte,Nat.reduceLT,kk,bO hi,if_true,tW hi,Sess.enc,←hX1,r20,bQi,jO (show i<1000000000 by omega)]
  exact nW (xX.wf wX) (hwd.ext xX) [x.id,x.last,x.reply.why,x.reply.number,x.reply.gross] (by simp;omega) (sQ hx.1 (sQ hx.2.1 (sQ hx.2.2.1 (sQ hx.2.2.2.1 (sQ hx.2.2.2.2 al0))))) fun Y3 c3' k3=>H _ ((bt.trans (AM.But.of xX)).trans c3') k3
 simp only [↓cw,↓reduceIte,Nat.reduceLT,kk,Int.lt_irrefl,if_false,rr bt,aDr]
 refine nW (wf bt) hwd [s.next] (by simp only [List.length_append,List.length_cons,List.length_nil];omega) (sQ ok.n al0) fun S5 b5' h5=>?_
 obtain ⟨v,hg,hv,hk,ha⟩:=h5
 have hfin:B3++dF [(s.sess.length:Int)]++s.sess.flatMap aEg++dF [s.next]=R:=by rw [hR,←hB3,←hB2,←hB1];simp [aEh]
 rw [hfin] at hv
 have r5:=aI hg
 simp only [↓cw,↓reduceIte,Nat.reduceLT,kk,r5,oo]
 exact hv.out fun _=>rfl
theorem bLc (t:Nat) (a b:Int):bQ prog .and t (.int .u64 a) (.int .u64 b)=.ok (.int .u64 (wr .u64 ((BitVec.toNat (BitVec.ofInt IntKind.u64.bits a &&& BitVec.ofInt IntKind.u64.bits b):Nat):Int))):=rfl
theorem aKz {u:Nat} (h:u<2 ^ 64):wr .u64 (u:Int)=(u:Int):=by
 unfold wr
 rw [if_pos ⟨by show (0:Int)≤_;omega,by show _≤(18446744073709551615:Int);omega⟩]
def iP (r:Cmd×Bool):V:=.tup [.agg [.int .i64 r.1.kind,.str r.1.series,.int .i64 r.1.limit,.str r.1.row.cat,.int .i64 r.1.row.day.y,.int .i64 r.1.row.day.m,.int .i64 r.1.row.day.d,.int .i64 r.1.row.bp,.int .i64 r.1.day.y,.int .i64 r.1.day.m,.int .i64 r.1.day.d,.imm (r.1.lines.map Line.enc),.str r.1.of.ser,.int .i64 r.1.of.num,.int .i64 r.1.session],.bool r.2]
theorem bDr {l:List Rep} {i:Nat} {a:Rep} (hi:l[i]?=some a) (k:IntKind):fI 3 (.imm (l.map Rep.enc)) (.int k (i:Int))=.ok (.iptr a.enc 0):=ixI (enc:=Rep.enc) hi rfl k
theorem Rate.same_iff (a b:Rate):(a=b)=(b.cat=a.cat∧b.day.y=a.day.y∧b.day.m=a.day.m∧b.day.d=a.day.d∧b.bp=a.bp):=by
 obtain ⟨_,⟨_,_,_⟩,_⟩:=a;obtain ⟨_,⟨_,_,_⟩,_⟩:=b;simp [and_assoc,eq_comm]
theorem Ser.same_iff (a b:Ser):(a=b)=(b.name=a.name∧b.next=a.next∧b.limit=a.limit∧b.shut=a.shut):=by
 obtain ⟨_,_,_,_⟩:=a;obtain ⟨_,_,_,_⟩:=b;simp [and_assoc,eq_comm]
theorem Bal.same_iff (a b:Bal):(a=b)=(b.acc=a.acc∧b.amount=a.amount):=by
 obtain ⟨_,_⟩:=a;obtain ⟨_,_⟩:=b;simp [and_assoc,eq_comm]
theorem Sess.same_iff (a b:Sess):(a=b)=(b.id=a.id∧b.last=a.last∧b.reply.why=a.reply.why∧b.reply.number=a.reply.number∧b.reply.gross=a.reply.gross):=by
 obtain ⟨_,_,⟨_,_,_⟩⟩:=a;obtain ⟨_,_,⟨_,_,_⟩⟩:=b;simp [and_assoc,eq_comm]
theorem Rep.same_iff (a b:Rep):(a=b)=(b.why=a.why∧b.number=a.number∧b.gross=a.gross):=by
 obtain ⟨_,_,_⟩:=a;obtain ⟨_,_,_⟩:=b;simp [and_assoc,eq_comm]
theorem Part.same_iff (a b:Part):(a=b)=(b.cat=a.cat∧b.bp=a.bp∧b.net=a.net∧b.tax=a.tax):=by
 obtain ⟨_,_,_,_⟩:=a;obtain ⟨_,_,_,_⟩:=b;simp [and_assoc,eq_comm]
theorem g80 (l r:List Rate) (hb:l.length<1000000) (S:St) (K:KW):C 80 [.imm (l.map Rate.enc),.imm (r.map Rate.enc)] S K=K (.bool (decide (l=r))) S:=by
 refine (v80 rfl ?_).eq S K
 delta Tryz.f80;simp only [↓cw,↓reduceIte,Nat.reduceLT,kk]
 by_cases h:l.length=r.length
 ·simp only [↓cw,↓reduceIte,Nat.reduceLT,show (l.length:Int)=(r.length:Int) by omega,kk,not_true_eq_false,if_false]
  refine aH l (step:=dZ r) (fin:=fun _=>true) (fun i n vs S=>n=i∧vs=[.bool false,.int .i64 (i:Int)]) (fun x=>x=decide (l=r)) ?_ ?_ (s:=0) ⟨rfl,rfl⟩ (eqL h)
  ·rintro i p n vs S hi ⟨rfl,rfl⟩ aD H
   have hil:=(List.getElem?_eq_some_iff.1 hi).1
   have hj:r[n]?=some r[n]:=List.getElem?_eq_getElem (by omega)
   have hlt:((n:Int)<(r.length:Int))=True:=bO hj
   simp only [dZ,hj,Option.some.injEq,Rate.same_iff] at H
   simp only [↓cw,↓reduceIte,Nat.reduceLT,kk,bO hi,hlt,xB hi,xB hj,Rate.enc,jO (show n<1000000000 by omega),oo]
   grind
  ·rintro n vs S ⟨rfl,rfl⟩ aD H
   simp only [↓cw,↓reduceIte,Nat.reduceLT,kk,h,Int.lt_irrefl,if_false,oo,←H]
 ·simp only [↓cw,↓reduceIte,Nat.reduceLT,show ¬ (l.length:Int)=(r.length:Int) by omega,kk,not_false_eq_true,if_true,oo]
  have:decide (l=r)=false:=by simpa using fun e=>h (by rw [e])
  rw [this]
theorem g81 (l r:List Ser) (hb:l.length<1000000) (S:St) (K:KW):C 81 [.imm (l.map Ser.enc),.imm (r.map Ser.enc)] S K=K (.bool (decide (l=r))) S:=by
 refine (v81 rfl ?_).eq S K
 delta Tryz.f81;simp only [↓cw,↓reduceIte,Nat.reduceLT,kk]
 by_cases h:l.length=r.length
 ·simp only [↓cw,↓reduceIte,Nat.reduceLT,show (l.length:Int)=(r.length:Int) by omega,kk,not_true_eq_false,if_false]
  refine aH l (step:=dZ r) (fin:=fun _=>true) (fun i n vs S=>n=i∧vs=[.bool false,.int .i64 (i:Int)]) (fun x=>x=decide (l=r)) ?_ ?_ (s:=0) ⟨rfl,rfl⟩ (eqL h)
  ·rintro i p n vs S hi ⟨rfl,rfl⟩ aD H
   have hil:=(List.getElem?_eq_some_iff.1 hi).1
   have hj:r[n]?=some r[n]:=List.getElem?_eq_getElem (by omega)
   have hlt:((n:Int)<(r.length:Int))=True:=bO hj
   simp only [dZ,hj,Option.some.injEq,Ser.same_iff] at H
   simp only [↓cw,↓reduceIte,Nat.reduceLT,kk,bO hi,hlt,tV hi,tV hj,Ser.enc,jO (show n<1000000000 by omega),oo]
   grind
  ·rintro n vs S ⟨rfl,rfl⟩ aD H
   simp only [↓cw,↓reduceIte,Nat.reduceLT,kk,h,Int.lt_irrefl,if_false,oo,←H]
 ·simp only [↓cw,↓reduceIte,Nat.reduceLT,show ¬ (l.length:Int)=(r.length:Int) by omega,kk,not_false_eq_true,if_true,oo]
  have:decide (l=r)=false:=by simpa using fun e=>h (by rw [e])
  rw [this]
theorem g83 (l r:List Bal) (hb:l.length<1000000) (S:St) (K:KW):C 83 [.imm (l.map Bal.enc),.imm (r.map Bal.enc)] S K=K (.bool (decide (l=r))) S:=by
 refine (v83 rfl ?_).eq S K
 delta Tryz.f83;simp only [↓cw,↓reduceIte,Nat.reduceLT,kk]
 by_cases h:l.length=r.length
 ·simp only [↓cw,↓reduceIte,Nat.reduceLT,show (l.length:Int)=(r.length:Int) by omega,kk,not_true_eq_false,if_false]
  refine aH l (step:=dZ r) (fin:=fun _=>true) (fun i n vs S=>n=i∧vs=[.bool false,.int .i64 (i:Int)]) (fun x=>x=decide (l=r)) ?_ ?_ (s:=0) ⟨rfl,rfl⟩ (eqL h)
  ·rintro i p n vs S hi ⟨rfl,rfl⟩ aD H
   have hil:=(List.getElem?_eq_some_iff.1 hi).1
   have hj:r[n]?=some r[n]:=List.getElem?_eq_getElem (by omega)
   have hlt:((n:Int)<(r.length:Int))=True:=bO hj
   simp only [dZ,hj,Option.some.injEq,Bal.same_iff] at H
   simp only [↓cw,↓reduceIte,Nat.reduceLT,kk,bO hi,hlt,aB5 hi,aB5 hj,Bal.enc,jO (show n<1000000000 by omega),oo]
   grind
  ·rintro n vs S ⟨rfl,rfl⟩ aD H
   simp only [↓cw,↓reduceIte,Nat.reduceLT,kk,h,Int.lt_irrefl,if_false,oo,←H]
 ·simp only [↓cw,↓reduceIte,Nat.reduceLT,show ¬ (l.length:Int)=(r.length:Int) by omega,kk,not_false_eq_true,if_true,oo]
  have:decide (l=r)=false:=by simpa using fun e=>h (by rw [e])
  rw [this]
theorem g84 (l r:List Sess) (hb:l.length<1000000) (S:St) (K:KW):C 84 [.imm (l.map Sess.enc),.imm (r.map Sess.enc)] S K=K (.bool (decide (l=r))) S:=by
 refine (v84 rfl ?_).eq S K
 delta Tryz.f84;simp only [↓cw,↓reduceIte,Nat.reduceLT,kk]
 by_cases h:l.length=r.length
 ·simp only [↓cw,↓reduceIte,Nat.reduceLT,show (l.length:Int)=(r.length:Int) by omega,kk,not_true_eq_false,if_false]
  refine aH l (step:=dZ r) (fin:=fun _=>true) (fun i n vs S=>n=i∧vs=[.bool false,.int .i64 (i:Int)]) (fun x=>x=decide (l=r)) ?_ ?_ (s:=0) ⟨rfl,rfl⟩ (eqL h)
  ·rintro i p n vs S hi ⟨rfl,rfl⟩ aD H
   have hil:=(List.getElem?_eq_some_iff.1 hi).1
   have hj:r[n]?=some r[n]:=List.getElem?_eq_getElem (by omega)
   have hlt:((n:Int)<(r.length:Int))=True:=bO hj
   simp only [dZ,hj,Option.some.injEq,Sess.same_iff] at H
   simp only [↓cw,↓reduceIte,Nat.reduceLT,kk,bO hi,hlt,tW hi,tW hj,Sess.enc,jO (show n<1000000000 by omega),oo]
   grind
  ·rintro n vs S ⟨rfl,rfl⟩ aD H
   simp only [↓cw,↓reduceIte,Nat.reduceLT,kk,h,Int.lt_irrefl,if_false,oo,←H]
 ·simp only [↓cw,↓reduceIte,Nat.reduceLT,show ¬ (l.length:Int)=(r.length:Int) by omega,kk,not_false_eq_true,if_true,oo]
  have:decide (l=r)=false:=by simpa using fun e=>h (by rw [e])
  rw [this]
theorem g53 (l r:List Rep) (hb:l.length<1000000) (S:St) (K:KW):C 53 [.imm (l.map Rep.enc),.imm (r.map Rep.enc)] S K=K (.bool (decide (l=r))) S:=by
 refine (v53 rfl ?_).eq S K
 delta Tryz.f53;simp only [↓cw,↓reduceIte,Nat.reduceLT,kk]
 by_cases h:l.length=r.length
 ·simp only [↓cw,↓reduceIte,Nat.reduceLT,show (l.length:Int)=(r.length:Int) by omega,kk,not_true_eq_false,if_false]
  refine aH l (step:=dZ r) (fin:=fun _=>true) (fun i n vs S=>n=i∧vs=[.bool false,.int .i64 (i:Int)]) (fun x=>x=decide (l=r)) ?_ ?_ (s:=0) ⟨rfl,rfl⟩ (eqL h)
  ·rintro i p n vs S hi ⟨rfl,rfl⟩ aD H
   have hil:=(List.getElem?_eq_some_iff.1 hi).1
   have hj:r[n]?=some r[n]:=List.getElem?_eq_getElem (by omega)
   have hlt:((n:Int)<(r.length:Int))=True:=bO hj
   simp only [dZ,hj,Option.some.injEq,Rep.same_iff] at H
   simp only [↓cw,↓reduceIte,Nat.reduceLT,kk,bO hi,hlt,bDr hi,bDr hj,Rep.enc,jO (show n<1000000000 by omega),oo]
   grind
  ·rintro n vs S ⟨rfl,rfl⟩ aD H
   simp only [↓cw,↓reduceIte,Nat.reduceLT,kk,h,Int.lt_irrefl,if_false,oo,←H]
 ·simp only [↓cw,↓reduceIte,Nat.reduceLT,show ¬ (l.length:Int)=(r.length:Int) by omega,kk,not_false_eq_true,if_true,oo]
  have:decide (l=r)=false:=by simpa using fun e=>h (by rw [e])
  rw [this]
theorem bQj (l r:List Part) (hb:l.length<1000000) (S:St) (K:KW):C 224 [.imm (l.map Part.enc),.imm (r.map Part.enc)] S K=K (.bool (decide (l=r))) S:=by
 refine (bNj rfl ?_).eq S K
 delta Tryz.f224;simp only [↓cw,↓reduceIte,Nat.reduceLT,kk]
 by_cases h:l.length=r.length
 ·simp only [↓cw,↓reduceIte,Nat.reduceLT,show (l.length:Int)=(r.length:Int) by omega,kk,not_true_eq_false,if_false]
  refine aH l (step:=dZ r) (fin:=fun _=>true) (fun i n vs S=>n=i∧vs=[.bool false,.int .i64 (i:Int)]) (fun x=>x=decide (l=r)) ?_ ?_ (s:=0) ⟨rfl,rfl⟩ (eqL h)
  ·rintro i p n vs S hi ⟨rfl,rfl⟩ aD H
   have hil:=(List.getElem?_eq_some_iff.1 hi).1
   have hj:r[n]?=some r[n]:=List.getElem?_eq_getElem (by omega)
   have hlt:((n:Int)<(r.length:Int))=True:=bO hj
   simp only [dZ,hj,Option.some.injEq,Part.same_iff] at H
   simp only [↓cw,↓reduceIte,Nat.reduceLT,kk,bO hi,hlt,rY hi,rY hj,Part.enc,jO (show n<1000000000 by omega),oo]
   grind
  ·rintro n vs S ⟨rfl,rfl⟩ aD H
   simp only [↓cw,↓reduceIte,Nat.reduceLT,kk,h,Int.lt_irrefl,if_false,oo,←H]
 ·simp only [↓cw,↓reduceIte,Nat.reduceLT,show ¬ (l.length:Int)=(r.length:Int) by omega,kk,not_false_eq_true,if_true,oo]
  have:decide (l=r)=false:=by simpa using fun e=>h (by rw [e])
  rw [this]
theorem bQk (a b:Total) (hb:a.parts.length<1000000) (S:St) (K:KW):C 162 [.agg [.int .i64 a.net,.int .i64 a.tax,.int .i64 a.gross,.imm (a.parts.map Part.enc)],.agg [.int .i64 b.net,.int .i64 b.tax,.int .i64 b.gross,.imm (b.parts.map Part.enc)]] S K=K (.bool (decide (a=b))) S:=by
 refine (bMq rfl ?_).eq S K
 delta Tryz.f162;simp only [↓cw,↓reduceIte,Nat.reduceLT,kk,eG,gm,bQj a.parts b.parts hb,Total.ext_iff,oo]
 grind
theorem Posted.same_iff (a b:Posted):(a=b)=(b.ref=a.ref∧b.day=a.day∧b.of=a.of∧b.back=a.back∧b.total=a.total):=by
 obtain ⟨_,_,_,_,_⟩:=a;obtain ⟨_,_,_,_,_⟩:=b;simp only [Posted.mk.injEq,eq_iff_iff]
 constructor
 ·rintro ⟨rfl,rfl,rfl,rfl,rfl⟩;exact ⟨rfl,rfl,rfl,rfl,rfl⟩
 ·rintro ⟨rfl,rfl,rfl,rfl,rfl⟩;exact ⟨rfl,rfl,rfl,rfl,rfl⟩
theorem Date.same_iff (a b:Date):(a=b)=(a.y=b.y∧a.m=b.m∧a.d=b.d):=by obtain ⟨_,_,_⟩:=a;obtain ⟨_,_,_⟩:=b;simp
theorem g82 (l r:List Posted) (hb:l.length<1000000) (hq:∀ p∈l,p.total.parts.length<1000000) (S:St) (K:KW):C 82 [.imm (l.map Posted.enc),.imm (r.map Posted.enc)] S K=K (.bool (decide (l=r))) S:=by
 refine (v82 rfl ?_).eq S K
 delta Tryz.f82;simp only [↓cw,↓reduceIte,Nat.reduceLT,kk]
 by_cases h:l.length=r.length
 ·simp only [↓cw,↓reduceIte,Nat.reduceLT,show (l.length:Int)=(r.length:Int) by omega,kk,not_true_eq_false,if_false]
  refine aH l (step:=dZ r) (fin:=fun _=>true) (fun i n vs S=>n=i∧vs=[.bool false,.int .i64 (i:Int)]) (fun x=>x=decide (l=r)) ?_ ?_ (s:=0) ⟨rfl,rfl⟩ (eqL h)
  ·rintro i p n vs S hi ⟨rfl,rfl⟩ aD H
   have hil:=(List.getElem?_eq_some_iff.1 hi).1
   have hj:r[n]?=some r[n]:=List.getElem?_eq_getElem (by omega)
   have hlt:((n:Int)<(r.length:Int))=True:=bO hj
   generalize r[n]=q at hj
   simp only [dZ,hj,Option.some.injEq,Posted.same_iff q p] at H
   simp only [↓cw,↓reduceIte,Nat.reduceLT,kk,gm,bO hi,hlt,if_true,rZ hi,rZ hj,Posted.enc,bQk p.total q.total (hq p (List.mem_of_getElem? hi)),jO (show n<1000000000 by omega),aGb]
   by_cases c1:p.ref=q.ref
   rotate_left
   ·have c':(!(p.ref.ser == q.ref.ser&&decide (p.ref.num=q.ref.num)))=true:=by rw [Ref.ext_iff] at c1;simp;exact Decidable.not_and_iff_or_not.1 c1
    rw [if_neg (fun h=>c1 h.1)] at H
    have H:false=decide (l=r):=H
    rw [if_pos c',←H]
   have c':¬ (!(p.ref.ser == q.ref.ser&&decide (p.ref.num=q.ref.num)))=true:=by rw [c1];simp
   rw [if_neg c']
   by_cases c2:p.day=q.day
   rotate_left
   ·rw [if_neg (fun h=>c2 h.2.1)] at H
    have H:false=decide (l=r):=H
    rw [Date.same_iff] at c2
    rw [if_pos (by simp;grind),←H]
   rw [if_neg (by rw [c2];simp)]
   by_cases c3:p.of=q.of
   rotate_left
   ·rw [if_neg (fun h=>c3 h.2.2.1)] at H
    have H:false=decide (l=r):=H
    rw [Ref.ext_iff] at c3
    rw [if_pos (by simp;grind),←H]
   rw [if_neg (by rw [c3];simp)]
   by_cases c4:p.back=q.back
   rotate_left
   ·rw [if_neg (fun h=>c4 h.2.2.2.1)] at H
    have H:false=decide (l=r):=H
    rw [if_pos (by simpa using c4),←H]
   rw [if_neg (by rw [c4];simp)]
   by_cases c5:p.total=q.total
   ·rw [if_pos ⟨c1,c2,c3,c4,c5⟩] at H
    rw [if_neg (by simp [c5])]
    exact H _ _ ⟨rfl,rfl⟩
   ·rw [if_neg (fun h=>c5 h.2.2.2.2)] at H
    have H:false=decide (l=r):=H
    rw [if_pos (by simpa using c5),←H]
  ·rintro n vs S ⟨rfl,rfl⟩ aD H
   simp only [↓cw,↓reduceIte,Nat.reduceLT,kk,h,Int.lt_irrefl,if_false,oo,←H]
 ·simp only [↓cw,↓reduceIte,Nat.reduceLT,show ¬ (l.length:Int)=(r.length:Int) by omega,kk,not_false_eq_true,if_true,oo]
  have:decide (l=r)=false:=by simpa using fun e=>h (by rw [e])
  rw [this]
theorem State.same_iff (a b:State):(a=b)=(a.table=b.table∧a.ser=b.ser∧a.posted=b.posted∧a.book=b.book∧a.sess=b.sess∧a.next=b.next):=by
 obtain ⟨_,_,_,_,_,_⟩:=a;obtain ⟨_,_,_,_,_,_⟩:=b;simp
def aQ2 (a b:State):Bool:=decide (a.table=b.table)&&(decide (a.ser=b.ser)&&(decide (a.posted=b.posted)&&(decide (a.book=b.book)&&(decide (a.sess=b.sess)&&decide (a.next=b.next)))))
theorem aH3 (a b:State):aQ2 a b=true↔a=b:=by
 rw [State.same_iff];unfold aQ2;simp
structure SmlS (s:State):Prop where
 tab:s.table.length<1000000
 ser:s.ser.length<1000000
 post:s.posted.length<1000000
 parts:∀ p∈s.posted,p.total.parts.length<1000000
 book:s.book.length<1000000
 sess:s.sess.length<1000000
theorem g22 (a b:State) (h:SmlS a) (S:St) (K:KW):C 22 [.agg [.imm (a.table.map Rate.enc),.imm (a.ser.map Ser.enc),.imm (a.posted.map Posted.enc),.imm (a.book.map Bal.enc),.imm (a.sess.map Sess.enc),.int .i64 a.next],.agg [.imm (b.table.map Rate.enc),.imm (b.ser.map Ser.enc),.imm (b.posted.map Posted.enc),.imm (b.book.map Bal.enc),.imm (b.sess.map Sess.enc),.int .i64 b.next]] S K=K (.bool (aQ2 a b)) S:=by
 refine (v22 rfl ?_).eq S K
 delta Tryz.f22;simp only [↓cw,↓reduceIte,Nat.reduceLT,kk,eG,gm,g80 a.table b.table h.tab,g81 a.ser b.ser h.ser,g82 a.posted b.posted h.post h.parts,g83 a.book b.book h.book,g84 a.sess b.sess h.sess,aQ2]
 by_cases c1:a.table=b.table
 rotate_left
 ·simp only [c1,if_false,decide_false,Bool.false_and,oo]
 by_cases c2:a.ser=b.ser
 rotate_left
 ·simp only [c1,c2,if_true,if_false,decide_false,decide_true,Bool.false_and,Bool.true_and,oo]
 by_cases c3:a.posted=b.posted
 rotate_left
 ·simp only [c1,c2,c3,if_true,if_false,decide_false,decide_true,Bool.false_and,Bool.true_and,oo]
 by_cases c4:a.book=b.book
 rotate_left
 ·simp only [c1,c2,c3,c4,if_true,if_false,decide_false,decide_true,Bool.false_and,Bool.true_and,oo]
 by_cases c5:a.sess=b.sess
 rotate_left
 ·simp only [c1,c2,c3,c4,c5,if_true,if_false,decide_false,decide_true,Bool.false_and,Bool.true_and,oo]
 simp only [c1,c2,c3,c4,c5,if_true,decide_true,Bool.true_and,oo]
structure Rd where
 pos:Nat
 err:Int
def Rd.cells (b:List UInt8) (r:Rd):List V:=[.imm (b.map jP),.int .i64 (r.pos:Int),.int .i64 r.err]
theorem Rd.clo (b:List UInt8) (r:Rd):[r.cells b].all cloVs=true:=by
 simp only [Rd.cells,List.all_cons,List.all_nil,cloVs,nY,aO (enc:=jP) (fun _=>rfl) b,Bool.and_self]
abbrev FRd (f:FuncId) (ws:List V) (b:List UInt8) (r:Rd) (v:V) (r':Rd):Prop:=Fr f (fun a=>.ptr a 0 0 0::ws) 3 (r.cells b) v (r'.cells b)
theorem bLd:nK 151=some (.val (dP [])):=by kernel_rfl
theorem bQl:VT 151 Tryz.f151 [] []:=vt (by kernel_rfl)
theorem bQm (b:List UInt8) (r:Rd) (n:Nat) (e:Int):FRd 151 [.int .i64 (n:Int),.int .i64 e] b r (.int .i64 0) ⟨n,e⟩:=by
 refine FnR.of bLd (lv:=fB []) (Pt.head rfl) (Rd.clo b r) ?_ rfl (Rd.clo b _)
 rw [bQl]
 delta Tryz.f151;simp only [↓cw,↓reduceIte,Nat.reduceLT,kk,Rd.cells,aA]
 trivial
theorem bLe:nK 139=some (.val (dP [])):=by kernel_rfl
theorem bQn:VT 139 Tryz.f139 [] []:=vt (by kernel_rfl)
theorem aX8 (b:List UInt8) (r:Rd):FRd 139 [] b r (.int .i64 r.err) r:=by
 refine FnR.of bLe (lv:=fB []) (Pt.head rfl) (Rd.clo b r) ?_ rfl (Rd.clo b _)
 rw [bQn]
 delta Tryz.f139;simp only [↓cw,↓reduceIte,Nat.reduceLT,kk,Rd.cells,aA]
 trivial
theorem bQo:nK 69=some (.val (dP [])):=by kernel_rfl
theorem t69:VT 69 Tryz.f69 [] [(6,[2,3,4])]:=vt (by kernel_rfl)
def bY (b:List UInt8) (r:Rd):Int×Rd:=if r.err=0 then (match Go.Pack.rdL 0 0 (b.drop r.pos) with
 | .ok (u,t)=>(Go.Pack.zag u,⟨b.length - t.length,0⟩)
 | .error e=>(0,⟨r.pos,e⟩)) else (0,r)
theorem aIp {l:List UInt8} {i:Nat} {a:UInt8} (hi:l[i]?=some a) (k:IntKind):fI 1 (.imm (l.map jP)) (.int k (i:Int))=.ok (.iptr (jP a) 0):=ixI (enc:=jP) hi rfl k
theorem bQp (t:Nat) (k:IntKind) (a:Int) (s:Nat):bQ prog .shl t (.int k a) (.int .u64 (s:Int))=.ok (.int k (wr k (a*2 ^ (min s k.bits)))):=by
 have h:¬ ((s:Int)<0):=by omega
 simp [bQ,aBr,h,wr]
theorem bLf (t:Nat) (a b:Int):bQ prog .and t (.int .u8 a) (.int .u8 b)=.ok (.int .u8 (wr .u8 ((BitVec.toNat (BitVec.ofInt IntKind.u8.bits a &&& BitVec.ofInt IntKind.u8.bits b):Nat):Int))):=rfl
theorem orK (t:Nat) (a b:Int):bQ prog .or t (.int .u64 a) (.int .u64 b)=.ok (.int .u64 (wr .u64 ((BitVec.toNat (BitVec.ofInt IntKind.u64.bits a ||| BitVec.ofInt IntKind.u64.bits b):Nat):Int))):=rfl
theorem bQq (x:Nat) (h:x<256):BitVec.toNat (BitVec.ofInt 8 (x:Int) &&& BitVec.ofInt 8 127)=x % 128:=
 (by decide +kernel:∀ x:Fin 256,BitVec.toNat (BitVec.ofInt 8 (x.val:Int) &&& BitVec.ofInt 8 127)=x.val % 128) ⟨x,h⟩
theorem aZp (c:UInt8):wr .u8 ((BitVec.toNat (BitVec.ofInt IntKind.u8.bits (c.toNat:Int) &&& BitVec.ofInt IntKind.u8.bits 127):Nat):Int)=((c.toNat % 128:Nat):Int):=by
 have hc:c.toNat<256:=c.toNat_lt
 have:=bQq c.toNat hc
 have e:BitVec.toNat (BitVec.ofInt IntKind.u8.bits (c.toNat:Int) &&& BitVec.ofInt IntKind.u8.bits 127)=c.toNat % 128:=this
 rw [e,wr8];congr 1;omega
theorem aX9 (i acc:Nat) (c:UInt8) (t:List UInt8):Go.Pack.rdL i acc (c::t)=if i=9∧1<c.toNat then .error 4 else if 128≤c.toNat then Go.Pack.rdL (i+1) (acc+c.toNat % 128*2 ^ (7*i)) t else if c.toNat=0∧0<i then .error 4 else .ok (acc+c.toNat % 128*2 ^ (7*i),t):=by rw [Go.Pack.rdL]
theorem bLg {u:Nat} (h:u<2 ^ 64):wr .u64 ((BitVec.toNat (BitVec.ofInt IntKind.u64.bits (u:Int) &&& BitVec.ofInt IntKind.u64.bits 1):Nat):Int)=((u % 2:Nat):Int):=by
 have e:BitVec.toNat (BitVec.ofInt IntKind.u64.bits (u:Int) &&& BitVec.ofInt IntKind.u64.bits 1)=u % 2:=by
  rw [BitVec.toNat_and]
  have e1:(BitVec.ofInt IntKind.u64.bits (u:Int)).toNat=u:=by rw [BitVec.toNat_ofInt];show ((u:Int) % ((2 ^ 64:Nat):Int)).toNat=u;omega
  have e2:(BitVec.ofInt IntKind.u64.bits 1).toNat=2 ^ 1 - 1:=by decide
  rw [e1,e2,Nat.and_two_pow_sub_one_eq_mod]
 rw [e,aKz (by omega)]
theorem bDs (t:Nat) (k:IntKind) (a:Int):bQ prog .shr t (.int k a) (.int .u64 1)=.ok (.int k (Int.fdiv a (2 ^ (min (Int.toNat 1) k.bits)))):=rfl
theorem bLh (u:Nat):Int.fdiv (u:Int) (2 ^ (min (Int.toNat 1) IntKind.u64.bits))=((u / 2:Nat):Int):=by
 rw [show (min (Int.toNat 1) IntKind.u64.bits)=1 from by decide,Int.fdiv_eq_ediv_of_nonneg _ (by decide)]
 omega
theorem bQr {m:Nat} (h:m<2 ^ 63):wr .i64 (aDi (m:Int))=-(m:Int) - 1:=by
 rw [aPy (by omega) (by omega)]
 simp [wr,lo,hi,IntKind.wrap,IntKind.min,IntKind.max,IntKind.bits,IntKind.signed];omega
theorem aF8 {b:List UInt8} {pos:Nat} {e0:Int} {S:St} {a:Nat} (hS:S.heap.get a=some (.row 0 3 [[.imm (b.map jP),.int .i64 (pos:Int),.int .i64 e0]])) (n:Nat) (e:Int) (K:KW):C 151 [.ptr a 0 0 0,.int .i64 (n:Int),.int .i64 e] S K=K (.int .i64 0) ⟨S.next,S.heap.put a (.row 0 3 [[.imm (b.map jP),.int .i64 (n:Int),.int .i64 e]])⟩:=(bQm b ⟨pos,e0⟩ n e).eq hS K
theorem bLi {i acc c:Nat} (hi:i≤9) (ha:acc<2 ^ (7*i)) (h9:¬ (i=9∧1<c)):c % 128*2 ^ (7*i)<2 ^ 64∧acc+c % 128*2 ^ (7*i)<2 ^ 64∧acc<2 ^ 64∧(i≤8→acc+c % 128*2 ^ (7*i)<2 ^ (7*(i+1)))∧7*i≤63:=by
 rcases Go.Pack.pow_step hi with rfl | rfl | rfl | rfl | rfl | rfl | rfl | rfl | rfl | rfl<;>simp only [Nat.reduceMul,Nat.reduceSub,Nat.reducePow,Nat.reduceAdd] at ha ⊢<;>omega
theorem bLj {acc m i:Nat} (ha:acc<2 ^ (7*i)) (h1:m*2 ^ (7*i)<2 ^ 64) (h2:acc+m*2 ^ (7*i)<2 ^ 64) (h3:acc<2 ^ 64):wr .u64 ((BitVec.toNat (BitVec.ofInt IntKind.u64.bits (acc:Int) ||| BitVec.ofInt IntKind.u64.bits ((m*2 ^ (7*i):Nat):Int)):Nat):Int)=((acc+m*2 ^ (7*i):Nat):Int):=by
 have k1:m <<< (7*i)=m*2 ^ (7*i):=Nat.shiftLeft_eq m (7*i)
 have k2:=Nat.shiftLeft_add_eq_or_of_lt ha m
 rw [k1] at k2
 generalize m*2 ^ (7*i)=w at h1 h2 k2 ⊢
 have e:BitVec.toNat (BitVec.ofInt IntKind.u64.bits (acc:Int) ||| BitVec.ofInt IntKind.u64.bits (w:Int))=acc+w:=by
  rw [BitVec.toNat_or]
  have e1:(BitVec.ofInt IntKind.u64.bits (acc:Int)).toNat=acc:=by rw [BitVec.toNat_ofInt];show ((acc:Int) % ((2 ^ 64:Nat):Int)).toNat=acc;omega
  have e2:(BitVec.ofInt IntKind.u64.bits (w:Int)).toNat=w:=by rw [BitVec.toNat_ofInt];show ((w:Int) % ((2 ^ 64:Nat):Int)).toNat=_;omega
  rw [e1,e2,Nat.or_comm,←k2,Nat.add_comm]
 rw [e,aKz h2]
theorem sh7 {i m:Nat} (h7:7*i≤63) (h:m*2 ^ (7*i)<2 ^ 64):wr .u64 ((m:Int)*2 ^ (min (7*i) IntKind.u64.bits))=((m*2 ^ (7*i):Nat):Int):=by
 rw [show min (7*i) IntKind.u64.bits=7*i by show min (7*i) 64=_;omega]
 have e:(m:Int)*2 ^ (7*i)=((m*2 ^ (7*i):Nat):Int):=by rw [Int.natCast_mul,Int.natCast_pow];rfl
 rw [e,aKz h]
theorem i7 {i:Nat} (h:7*i≤63):wr .u64 (wr .i64 (7*(i:Int)))=((7*i:Nat):Int):=by
 rw [kU (by omega) (by omega),show (7*(i:Int))=((7*i:Nat):Int) by omega,aKz (by omega)]
theorem r69 {b:List UInt8} (hb:b.length<1000000000) {r:Rd} (hr:r.pos≤b.length):FRd 69 [] b r (.int .i64 (bY b r).1) (bY b r).2:=by
 refine FnR.of bQo (lv:=fB [(6,[2,3,4])]) (Pt.head rfl) (Rd.clo b r) ?_ rfl (Rd.clo b _)
 rw [t69]
 delta Tryz.f69;simp only [↓cw,↓reduceIte,Nat.reduceLT,kk,Rd.cells,aA]
 by_cases he:r.err=0
 ·simp only [↓cw,↓reduceIte,Nat.reduceLT,kk,he,if_true,if_false,not_true_eq_false]
  refine jD (fun m vs X=>∃ i acc:Nat,m=10 - i∧i≤9∧vs=[.int .i64 0,.int .u64 (acc:Int),.int .i64 (i:Int)]∧X.heap=Tr.nil.put 0 (Blk.row 0 3 [[V.imm (b.map jP),V.int IntKind.i64 (r.pos:Int),V.int IntKind.i64 0]])∧acc<2 ^ (7*i)∧r.pos+i≤b.length∧Go.Pack.rdL i acc (b.drop (r.pos+i))=Go.Pack.rdL 0 0 (b.drop r.pos)) ?_ ⟨0,0,rfl,by omega,rfl,rfl,by decide,by omega,rfl⟩
  rintro m vs ⟨nx,hp⟩ ⟨i,acc,rfl,hi,rfl,hX,ha,hpi,hrd⟩ aD hag
  simp only at hX
  subst hX
  have hw:wr .i64 ((r.pos:Int)+(i:Int))=((r.pos+i:Nat):Int):=by rw [kU (by omega) (by omega)];omega
  simp only [↓cw,↓reduceIte,Nat.reduceLT,kk,aA,hw]
  by_cases hs:b.length≤r.pos+i
  ·simp only [↓cw,↓reduceIte,Nat.reduceLT,kk,show ((b.length:Int)≤((r.pos+i:Nat):Int))=True by simp;omega,if_true]
   refine Eq.mpr (aF8 (b:=b) (pos:=r.pos) (e0:=0) (Tr.get_put_sameB _ _ _ trivial) r.pos 3 _) ?_
   have hN:bY b r=(0,⟨r.pos,3⟩):=by unfold bY;rw [if_pos he,←hrd,List.drop_eq_nil_of_le hs];rfl
   rw [hN]
   exact ⟨rfl,Tr.get_put_sameB _ _ _ trivial⟩
  ·obtain ⟨c,hc⟩:∃ c,b[r.pos+i]?=some c:=⟨_,List.getElem?_eq_getElem (by omega)⟩
   have hd:b.drop (r.pos+i)=c::b.drop (r.pos+(i+1)):=by
    obtain ⟨hl,hcc⟩:=List.getElem?_eq_some_iff.1 hc
    rw [←hcc];exact (List.getElem_cons_drop hl).symm
   rw [hd,aX9] at hrd
   have hN:bY b r=(match Go.Pack.rdL 0 0 (b.drop r.pos) with
    | .ok (u,t)=>(Go.Pack.zag u,⟨b.length - t.length,0⟩)
    | .error e=>(0,⟨r.pos,e⟩)):=by unfold bY;rw [if_pos he]
   rw [←hrd] at hN
   have hu8:(jP c)[0]?=some (.int .u8 (c.toNat:Int)):=rfl
   by_cases h91:i=9∧1<c.toNat
   ·rw [if_pos h91] at hN
    simp only [↓cw,↓reduceIte,Nat.reduceLT,kk,show ((b.length:Int)≤((r.pos+i:Nat):Int))=False by simp;omega,if_false,aIp hc,hu8,show ((i:Int)=9)=True by simp;omega,if_true,show ((1:Int)<(c.toNat:Int))=True by simp;omega]
    refine Eq.mpr (aF8 (b:=b) (pos:=r.pos) (e0:=0) (Tr.get_put_sameB _ _ _ trivial) r.pos 4 _) ?_
    rw [hN]
    exact ⟨rfl,Tr.get_put_sameB _ _ _ trivial⟩
   rw [if_neg h91] at hN
   obtain ⟨q1,q2,q3,q4,q5⟩:=bLi hi ha h91
   have hlow:wr .u64 ((c.toNat % 128:Nat):Int)=((c.toNat % 128:Nat):Int):=aKz (by omega)
   have h99:∀ (A B:Prop),(if (i:Int)=9 then (if (1:Int)<(c.toNat:Int) then A else B) else B)=B:=by
    intro A B
    split
    ·rw [if_neg (by omega)]
    ·rfl
   simp only [↓cw,↓reduceIte,Nat.reduceLT,kk,show ((b.length:Int)≤((r.pos+i:Nat):Int))=False by simp;omega,if_false,aIp hc,hu8,h99,bLf,aZp,hlow,i7 q5,bQp,sh7 q5 q1,orK,bLj ha q1 q2 q3,jO (show i<1000000000 by omega)]
   by_cases h128:128≤c.toNat
   ·rw [if_pos h128] at hrd
    simp only [show ((128:Int)≤(c.toNat:Int))=True by simp;omega,if_true]
    exact hag (10 - (i+1)) _ _ (by omega) ⟨i+1,_,rfl,by omega,rfl,rfl,q4 (by omega),by omega,by rw [if_neg h91] at hrd;exact hrd⟩
   rw [if_neg h128] at hN
   simp only [show ((128:Int)≤(c.toNat:Int))=False by simp;omega,if_false]
   by_cases h0:c.toNat=0∧0<i
   ·rw [if_pos h0] at hN
    simp only [show ((c.toNat:Int)=0)=True by simp;omega,show ((0:Int)<(i:Int))=True by simp;omega,if_true]
    refine Eq.mpr (aF8 (b:=b) (pos:=r.pos) (e0:=0) (Tr.get_put_sameB _ _ _ trivial) r.pos 4 _) ?_
    rw [hN]
    exact ⟨rfl,Tr.get_put_sameB _ _ _ trivial⟩
   rw [if_neg h0] at hN
   have h00:∀ (A B:Prop),(if (c.toNat:Int)=0 then (if (0:Int)<(i:Int) then A else B) else B)=B:=by
    intro A B
    split
    ·rw [if_neg (by omega)]
    ·rfl
   have hv:wr .i64 ((r.pos:Int)+((i+1:Nat):Int))=((b.length - (b.drop (r.pos+(i+1))).length:Nat):Int):=by rw [kU (by omega) (by omega),List.length_drop];omega
   generalize acc+c.toNat % 128*2 ^ (7*i)=u at *
   by_cases hodd:u % 2=1
   ·have hz:Go.Pack.zag u=-((u / 2:Nat):Int) - 1:=by unfold Go.Pack.zag;rw [if_pos hodd]
    simp only [↓cw,↓reduceIte,Nat.reduceLT,kk,h00,hv,bLc,unK,bLg q2,hodd,bDs,bLh,bQr (show u / 2<2 ^ 63 by omega),Int.natCast_one,if_true]
    rw [hN]
    exact ⟨congrArg (V.int .i64) hz.symm,Tr.get_put_sameB _ _ _ trivial⟩
   ·have hz:Go.Pack.zag u=((u / 2:Nat):Int):=by unfold Go.Pack.zag;rw [if_neg hodd]
    simp only [↓cw,↓reduceIte,Nat.reduceLT,kk,h00,hv,bLc,unK,bLg q2,show (((u % 2:Nat):Int)=1)=False by simp;omega,bDs,bLh,if_false,kU (show -9223372036854775808≤((u / 2:Nat):Int) by omega) (show ((u / 2:Nat):Int)≤9223372036854775807 by omega)]
    rw [hN]
    exact ⟨congrArg (V.int .i64) hz.symm,Tr.get_put_sameB _ _ _ trivial⟩
 ·simp only [↓cw,↓reduceIte,Nat.reduceLT,kk,he,if_true,if_false,not_false_eq_true,bY]
  trivial
theorem aT {b:List UInt8} {r:Rd} (hr:r.pos≤b.length):(bY b r).2.pos≤b.length:=by
 unfold bY
 split
 ·split
  ·exact Nat.sub_le _ _
  ·exact hr
 ·exact hr
def eR (b:List UInt8) (lo hi:Int) (r:Rd):Int×Rd:=if (bY b r).2.err=0 then (if (bY b r).1<lo then (0,⟨r.pos,2⟩) else if hi<(bY b r).1 then (0,⟨r.pos,2⟩) else bY b r) else bY b r
theorem nX {b:List UInt8} {lo hi:Int} {r:Rd} (hr:r.pos≤b.length):(eR b lo hi r).2.pos≤b.length:=by
 unfold eR
 repeat' split
 all_goals first | exact hr | exact aT hr
theorem bLk:nK 216=some (.val (dP [])):=by kernel_rfl
theorem bQs:VT 216 Tryz.f216 [] []:=vt (by kernel_rfl)
theorem aZq {b:List UInt8} (hb:b.length<1000000000) {r:Rd} (hr:r.pos≤b.length) (lo hi:Int):FRd 216 [.int .i64 lo,.int .i64 hi] b r (.int .i64 (eR b lo hi r).1) (eR b lo hi r).2:=by
 refine FnR.of bLk (lv:=fB []) (Pt.head rfl) (Rd.clo b r) ?_ rfl (Rd.clo b _)
 rw [bQs]
 delta Tryz.f216;simp only [↓cw,↓reduceIte,Nat.reduceLT,kk,Rd.cells,aA]
 refine Eq.mpr ((r69 hb hr).eq (Tr.get_put_sameB _ _ _ trivial) _) ?_
 unfold eR
 generalize bY b r=x
 obtain ⟨n,p,e⟩:=x
 simp only [↓cw,↓reduceIte,Nat.reduceLT,kk,Rd.cells,aA]
 by_cases he:e=0
 ·by_cases h1:n<lo
  ·simp only [↓cw,↓reduceIte,Nat.reduceLT,kk,he,h1,if_true,aA]
   refine Eq.mpr (aF8 (b:=b) (pos:=p) (e0:=0) (Tr.get_put_sameB _ _ _ trivial) r.pos 2 _) ?_
   first | exact ⟨rfl,Tr.get_put_sameB _ _ _ trivial⟩ | exact Tr.get_put_sameB _ _ _ trivial
  ·by_cases h2:hi<n
   ·simp only [↓cw,↓reduceIte,Nat.reduceLT,kk,he,h1,h2,if_true,if_false,aA]
    refine Eq.mpr (aF8 (b:=b) (pos:=p) (e0:=0) (Tr.get_put_sameB _ _ _ trivial) r.pos 2 _) ?_
    first | exact ⟨rfl,Tr.get_put_sameB _ _ _ trivial⟩ | exact Tr.get_put_sameB _ _ _ trivial
   ·simp only [↓cw,↓reduceIte,Nat.reduceLT,kk,he,h1,h2,if_true,if_false,aA]
    first | exact ⟨rfl,Tr.get_put_sameB _ _ _ trivial⟩ | exact Tr.get_put_sameB _ _ _ trivial
 ·simp only [↓cw,↓reduceIte,Nat.reduceLT,kk,he,if_true,if_false,aA]
  first | exact ⟨rfl,Tr.get_put_sameB _ _ _ trivial⟩ | exact Tr.get_put_sameB _ _ _ trivial
def cI (b:List UInt8) (most:Int) (r:Rd):Int×Rd:=if (eR b 0 most r).2.err=0 then (if (b.length:Int) - (eR b 0 most r).2.pos<(eR b 0 most r).1 then (0,⟨r.pos,3⟩) else eR b 0 most r) else eR b 0 most r
theorem jK {b:List UInt8} {most:Int} {r:Rd} (hr:r.pos≤b.length):(cI b most r).2.pos≤b.length:=by
 unfold cI
 repeat' split
 all_goals first | exact hr | exact nX hr
theorem aXa:nK 145=some (.val (dP [])):=by kernel_rfl
theorem bEx:VT 145 Tryz.f145 [] []:=vt (by kernel_rfl)
theorem aZr {b:List UInt8} (hb:b.length<1000000000) {r:Rd} (hr:r.pos≤b.length) (most:Int):FRd 145 [.int .i64 most] b r (.int .i64 (cI b most r).1) (cI b most r).2:=by
 refine FnR.of aXa (lv:=fB []) (Pt.head rfl) (Rd.clo b r) ?_ rfl (Rd.clo b _)
 rw [bEx]
 delta Tryz.f145;simp only [↓cw,↓reduceIte,Nat.reduceLT,kk,Rd.cells,aA]
 refine Eq.mpr ((aZq hb hr 0 most).eq (Tr.get_put_sameB _ _ _ trivial) _) ?_
 have hp:=nX (lo:=0) (hi:=most) hr
 unfold cI
 generalize eR b 0 most r=x at hp ⊢
 obtain ⟨n,p,e⟩:=x
 simp only at hp
 have hw:wr .i64 ((b.length:Int) - (p:Int))=(b.length:Int) - (p:Int):=kU (by omega) (by omega)
 simp only [↓cw,↓reduceIte,Nat.reduceLT,kk,Rd.cells,aA,hw]
 by_cases he:e=0
 ·by_cases h1:(b.length:Int) - (p:Int)<n
  ·simp only [↓cw,↓reduceIte,Nat.reduceLT,kk,he,h1,if_true,aA,hw]
   refine Eq.mpr (aF8 (b:=b) (pos:=p) (e0:=0) (Tr.get_put_sameB _ _ _ trivial) r.pos 3 _) ?_
   first | exact ⟨rfl,Tr.get_put_sameB _ _ _ trivial⟩ | exact Tr.get_put_sameB _ _ _ trivial
  ·simp only [↓cw,↓reduceIte,Nat.reduceLT,kk,he,h1,if_true,if_false,aA,hw]
   first | exact ⟨rfl,Tr.get_put_sameB _ _ _ trivial⟩ | exact Tr.get_put_sameB _ _ _ trivial
 ·simp only [↓cw,↓reduceIte,Nat.reduceLT,kk,he,if_true,if_false,aA]
  first | exact ⟨rfl,Tr.get_put_sameB _ _ _ trivial⟩ | exact Tr.get_put_sameB _ _ _ trivial
def sL (b:List UInt8) (r:Rd):Bool×Rd:=if (bY b r).2.err=0 then (if (bY b r).1=0 then (false,(bY b r).2) else if (bY b r).1=1 then (true,(bY b r).2) else (false,⟨r.pos,4⟩)) else (false,(bY b r).2)
theorem aH4 {b:List UInt8} {r:Rd} (hr:r.pos≤b.length):(sL b r).2.pos≤b.length:=by
 unfold sL
 repeat' split
 all_goals first | exact hr | exact aT hr
theorem bLl:nK 148=some (.val (dP [])):=by kernel_rfl
theorem bQt:VT 148 Tryz.f148 [] []:=vt (by kernel_rfl)
theorem bQu {b:List UInt8} (hb:b.length<1000000000) {r:Rd} (hr:r.pos≤b.length):FRd 148 [] b r (.bool (sL b r).1) (sL b r).2:=by
 refine FnR.of bLl (lv:=fB []) (Pt.head rfl) (Rd.clo b r) ?_ rfl (Rd.clo b _)
 rw [bQt]
 delta Tryz.f148;simp only [↓cw,↓reduceIte,Nat.reduceLT,kk,Rd.cells,aA]
 refine Eq.mpr ((r69 hb hr).eq (Tr.get_put_sameB _ _ _ trivial) _) ?_
 unfold sL
 generalize bY b r=x
 obtain ⟨n,p,e⟩:=x
 simp only [↓cw,↓reduceIte,Nat.reduceLT,kk,Rd.cells,aA]
 by_cases he:e=0
 ·by_cases h1:n=0
  ·simp only [↓cw,↓reduceIte,Nat.reduceLT,kk,he,h1,if_true,if_false,not_true_eq_false,aA,show ((0:Int)=1)=False by simp,decide_false]
   first | exact ⟨rfl,Tr.get_put_sameB _ _ _ trivial⟩ | exact Tr.get_put_sameB _ _ _ trivial
  ·by_cases h2:n=1
   ·simp only [↓cw,↓reduceIte,Nat.reduceLT,kk,he,h2,if_true,if_false,not_true_eq_false,not_false_eq_true,aA,show ((1:Int)=0)=False by simp,decide_true]
    first | exact ⟨rfl,Tr.get_put_sameB _ _ _ trivial⟩ | exact Tr.get_put_sameB _ _ _ trivial
   ·simp only [↓cw,↓reduceIte,Nat.reduceLT,kk,he,h1,h2,if_true,if_false,not_true_eq_false,not_false_eq_true,aA]
    refine Eq.mpr (aF8 (b:=b) (pos:=p) (e0:=0) (Tr.get_put_sameB _ _ _ trivial) r.pos 4 _) ?_
    simp only [↓cw,↓reduceIte,Nat.reduceLT,kk,aA,show ((4:Int)=0)=False by simp,if_false]
    first | exact ⟨rfl,Tr.get_put_sameB _ _ _ trivial⟩ | exact Tr.get_put_sameB _ _ _ trivial
 ·simp only [↓cw,↓reduceIte,Nat.reduceLT,kk,he,if_true,if_false,aA]
  first | exact ⟨rfl,Tr.get_put_sameB _ _ _ trivial⟩ | exact Tr.get_put_sameB _ _ _ trivial
def zR (b:List UInt8) (r:Rd):Rd:=if r.err=0 then (if r.pos<b.length then ⟨r.pos,5⟩ else r) else r
theorem bQv:nK 70=some (.val (dP [])):=by kernel_rfl
theorem t70:VT 70 Tryz.f70 [] []:=vt (by kernel_rfl)
theorem r70 {b:List UInt8} {r:Rd}:FRd 70 [] b r (.int .i64 (zR b r).err) (zR b r):=by
 refine FnR.of bQv (lv:=fB []) (Pt.head rfl) (Rd.clo b r) ?_ rfl (Rd.clo b _)
 rw [t70]
 obtain ⟨p,e⟩:=r
 delta Tryz.f70;simp only [↓cw,↓reduceIte,Nat.reduceLT,kk,Rd.cells,aA,zR]
 by_cases he:e=0
 ·by_cases h1:p<b.length
  ·simp only [↓cw,↓reduceIte,Nat.reduceLT,kk,he,show ((p:Int)<(b.length:Int))=True by simp;exact h1,if_pos h1,if_true,aA]
   trivial
  ·simp only [↓cw,↓reduceIte,Nat.reduceLT,kk,he,show ((p:Int)<(b.length:Int))=False by simp;omega,if_neg h1,if_true,if_false,aA]
   trivial
 ·simp only [↓cw,↓reduceIte,Nat.reduceLT,kk,he,if_true,if_false,aA]
  trivial
theorem aCd {b:List UInt8} {lo hi:Int} {r:Rd} (he:(eR b lo hi r).2.err=0):lo≤(eR b lo hi r).1∧(eR b lo hi r).1≤hi:=by
 unfold eR at he ⊢
 split
 ·rename_i h
  rw [if_pos h] at he
  split
  ·rename_i h1;rw [if_pos h1] at he;cases he
  ·rename_i h1
   rw [if_neg h1] at he
   split
   ·rename_i h2;rw [if_pos h2] at he;cases he
   ·exact ⟨by omega,by omega⟩
 ·rename_i h
  rw [if_neg h] at he
  exact absurd he h
def kO (b:List UInt8) (most:Int) (r:Rd):List UInt8×Rd:=if (eR b 0 most r).2.err=0 then (if (b.length:Int) - (eR b 0 most r).2.pos<(eR b 0 most r).1 then ([],⟨r.pos,3⟩) else ((b.drop (eR b 0 most r).2.pos).take (eR b 0 most r).1.toNat,⟨(eR b 0 most r).2.pos+(eR b 0 most r).1.toNat,0⟩)) else ([],(eR b 0 most r).2)
theorem eI {b:List UInt8} {most:Int} {r:Rd} (hr:r.pos≤b.length):(kO b most r).2.pos≤b.length:=by
 unfold kO
 have:=nX (lo:=0) (hi:=most) hr
 repeat' split
 all_goals first | exact hr | exact this | (show _+_≤_;omega)
theorem bLm {b:List UInt8} {p m:Nat} (h:p+m≤b.length):iY prog 22 (.imm (b.map jP)) (some (.int .i64 (p:Int))) (some (.int .i64 ((p+m:Nat):Int)))=.ok (.imm (((b.drop p).take m).map jP)):=by
 have hb:fO (b.map jP).length (some (.int .i64 (p:Int))) (some (.int .i64 ((p+m:Nat):Int)))=.ok (p,p+m):=by
  have t1:(decide ((0:Int)≤((p+m:Nat):Int))&&decide (((p+m:Nat):Int)≤((b.map jP).length:Int)))=true:=by simp;omega
  have t2:(decide ((0:Int)≤(p:Int))&&decide ((p:Int)≤((p+m:Nat):Int)))=true:=by simp;omega
  simp only [fO,t1,t2,cond_true,Int.toNat_natCast]
 rw [bIn _ (dA (n:=1) (fun c hc=>by obtain ⟨x,_,rfl⟩:=List.mem_map.1 hc;exact u81 x)).1,hb]
 simp only [←List.map_take,←List.map_drop,List.drop_take,Nat.add_sub_cancel_left]
theorem aXb:∀ l:List UInt8,dH (l.map jP)=some l
 | []=>rfl
 | c::l=>by simp only [List.map_cons,jP,dH,aXb l];simp
theorem bQw (l:List UInt8) (fr:Option Nat) (S:St):dJ prog 22 9 (.imm (l.map jP)) fr S=.ok (.str l,S):=by
 have e1:prog.underlying 22=some (.slice 5):=by kernel_rfl
 have e2:prog.underlying 9=some .string:=by kernel_rfl
 have e3:prog.underlying 5=some (.int .u8):=by kernel_rfl
 have e4:aM S (.imm (l.map jP))=.ok (l.map jP):=rfl
 simp only [dJ,e1,e2,e3,e4,aXb]
theorem bLn:nK 146=some (.val (dP [])):=by kernel_rfl
theorem bQx:VT 146 Tryz.f146 [] []:=vt (by kernel_rfl)
theorem aXc {b:List UInt8} (hb:b.length<1000000000) {r:Rd} (hr:r.pos≤b.length) (most:Int):FRd 146 [.int .i64 most] b r (.str (kO b most r).1) (kO b most r).2:=by
 refine FnR.of bLn (lv:=fB []) (Pt.head rfl) (Rd.clo b r) ?_ rfl (Rd.clo b _)
 rw [bQx]
 delta Tryz.f146;simp only [↓cw,↓reduceIte,Nat.reduceLT,kk,Rd.cells,aA]
 refine Eq.mpr ((aZq hb hr 0 most).eq (Tr.get_put_sameB _ _ _ trivial) _) ?_
 have hp:=nX (lo:=0) (hi:=most) hr
 have hk:=aCd (b:=b) (lo:=0) (hi:=most) (r:=r)
 unfold kO
 generalize eR b 0 most r=x at hp hk ⊢
 obtain ⟨n,p,e⟩:=x
 simp only at hp hk
 have hw:wr .i64 ((b.length:Int) - (p:Int))=(b.length:Int) - (p:Int):=kU (by omega) (by omega)
 simp only [↓cw,↓reduceIte,Nat.reduceLT,kk,Rd.cells,aA,hw]
 by_cases he:e=0
 ·obtain ⟨k1,k2⟩:=hk he
  obtain ⟨m,rfl⟩:=Int.eq_ofNat_of_zero_le k1
  by_cases h1:(b.length:Int) - (p:Int)<(m:Int)
  ·simp only [↓cw,↓reduceIte,Nat.reduceLT,kk,he,h1,if_true,aA,hw,not_true_eq_false,if_false]
   refine Eq.mpr (aF8 (b:=b) (pos:=p) (e0:=0) (Tr.get_put_sameB _ _ _ trivial) r.pos 3 _) ?_
   first | exact ⟨rfl,Tr.get_put_sameB _ _ _ trivial⟩ | exact Tr.get_put_sameB _ _ _ trivial
  ·have hw2:wr .i64 ((p:Int)+(m:Int))=((p+m:Nat):Int):=by rw [kU (by omega) (by omega)];omega
   simp only [↓cw,↓reduceIte,Nat.reduceLT,kk,he,h1,if_true,if_false,not_true_eq_false,aA,hw,hw2]
   have hm:((m:Int)).toNat=m:=by omega
   simp only [↓cw,↓reduceIte,Nat.reduceLT,kk,bLm (show p+m≤b.length by omega),bQw,aA,hw2,hm]
   first | exact ⟨rfl,Tr.get_put_sameB _ _ _ trivial⟩ | exact Tr.get_put_sameB _ _ _ trivial
 ·simp only [↓cw,↓reduceIte,Nat.reduceLT,kk,he,if_true,if_false,not_false_eq_true,aA]
  first | exact ⟨rfl,Tr.get_put_sameB _ _ _ trivial⟩ | exact Tr.get_put_sameB _ _ _ trivial
theorem gS {α:Type} {t:Tr α} {n:Nat} {x:α}:(t.put n x).get n=some x:=Tr.get_put_sameB _ _ _ trivial
theorem gN {α:Type} {t:Tr α} {n m:Nat} {x:α} {y:Option α} (g:t.get m=y) (h:m≠n:=by omega):(t.put n x).get m=y:=(Tr.get_put_neB _ _ _ _ trivial h).trans g
theorem oF:type_of% (A2 (eG (show (2:Nat)≠0 by decide)) <| A2 (eG (show (1:Nat)≠0 by decide)) <| A2 (eG (show (1:Nat)≠2 by decide)) <| A2 (eG (show (2:Nat)≠1 by decide)) <| A2 (eG (show (0:Nat)≠1 by decide)) (eG (show (0:Nat)≠2 by decide))):=A2 (eG (show (2:Nat)≠0 by decide)) <| A2 (eG (show (1:Nat)≠0 by decide)) <| A2 (eG (show (1:Nat)≠2 by decide)) <| A2 (eG (show (2:Nat)≠1 by decide)) <| A2 (eG (show (0:Nat)≠1 by decide)) (eG (show (0:Nat)≠2 by decide))
def aH5 (b:List UInt8) (r:Rd):Date×Rd:=(⟨(bY b r).1,(bY b (bY b r).2).1,(bY b (bY b (bY b r).2).2).1⟩,(bY b (bY b (bY b r).2).2).2)
theorem aAj {b:List UInt8} {r:Rd} (hr:r.pos≤b.length):(aH5 b r).2.pos≤b.length:=aT (aT (aT hr))
theorem bLo:nK 147=some (.val (dP [])):=by kernel_rfl
theorem bQy:VT 147 Tryz.f147 [] []:=vt (by kernel_rfl)
theorem bLp {b:List UInt8} (hb:b.length<1000000000) {r:Rd} (hr:r.pos≤b.length):FRd 147 [] b r (.agg (aH5 b r).1.enc) (aH5 b r).2:=by
 refine FnR.of bLo (lv:=fB []) (Pt.head rfl) (Rd.clo b r) ?_ rfl (Rd.clo b _)
 rw [bQy]
 delta Tryz.f147;simp only [↓cw,↓reduceIte,Nat.reduceLT,Nat.reduceAdd,kk,Rd.cells,aA,oF]
 refine Eq.mpr ((r69 hb hr).eq (by repeat' first | exact gS | refine gN ?_) _) ?_
 simp only [↓cw,↓reduceIte,Nat.reduceLT,Nat.reduceAdd,kk,Rd.cells,aA,oF]
 refine Eq.mpr ((r69 hb (aT hr)).eq (by repeat' first | exact gS | refine gN ?_) _) ?_
 simp only [↓cw,↓reduceIte,Nat.reduceLT,Nat.reduceAdd,kk,Rd.cells,aA,oF]
 refine Eq.mpr ((r69 hb (aT (aT hr))).eq (by repeat' first | exact gS | refine gN ?_) _) ?_
 simp only [↓cw,↓reduceIte,Nat.reduceLT,Nat.reduceAdd,kk,Rd.cells,aA,oF]
 exact ⟨rfl,by repeat' first | exact gS | refine gN ?_⟩
def iL (b:List UInt8) (r:Rd):Rate×Rd:=
 let x:=kO b 64 r
 let y:=aH5 b x.2
 let z:=bY b y.2
 (⟨x.1,y.1,z.1⟩,z.2)
theorem aS2 {b:List UInt8} {r:Rd} (hr:r.pos≤b.length):(iL b r).2.pos≤b.length:=aT (aAj (eI hr))
theorem bQz:nK 62=some (.val (dP [])):=by kernel_rfl
theorem t62:VT 62 Tryz.f62 [] []:=vt (by kernel_rfl)
theorem r62 {b:List UInt8} (hb:b.length<1000000000) {r:Rd} (hr:r.pos≤b.length):FRd 62 [] b r (.agg (iL b r).1.enc) (iL b r).2:=by
 refine FnR.of bQz (lv:=fB []) (Pt.head rfl) (Rd.clo b r) ?_ rfl (Rd.clo b _)
 rw [t62]
 delta Tryz.f62;simp only [↓cw,↓reduceIte,Nat.reduceLT,Nat.reduceAdd,kk,Rd.cells,aA,oF]
 refine Eq.mpr ((aXc hb hr 64).eq (by repeat' first | exact gS | refine gN ?_) _) ?_
 simp only [↓cw,↓reduceIte,Nat.reduceLT,Nat.reduceAdd,kk,Rd.cells,aA,oF]
 refine Eq.mpr ((bLp hb (eI hr)).eq (by repeat' first | exact gS | refine gN ?_) _) ?_
 simp only [Date.enc]
 simp only [↓cw,↓reduceIte,Nat.reduceLT,Nat.reduceAdd,kk,Rd.cells,aA,oF]
 refine Eq.mpr ((r69 hb (aAj (eI hr))).eq (by repeat' first | exact gS | refine gN ?_) _) ?_
 simp only [↓cw,↓reduceIte,Nat.reduceLT,Nat.reduceAdd,kk,Rd.cells,aA,oF]
 exact ⟨rfl,by repeat' first | exact gS | refine gN ?_⟩
def hU (b:List UInt8) (r:Rd):Ser×Rd:=
 let x:=kO b 64 r
 let y:=bY b x.2
 let z:=sL b y.2
 (⟨x.1,1,y.1,z.1⟩,z.2)
theorem aS3 {b:List UInt8} {r:Rd} (hr:r.pos≤b.length):(hU b r).2.pos≤b.length:=aH4 (aT (eI hr))
theorem bR0:nK 64=some (.val (dP [])):=by kernel_rfl
theorem t64:VT 64 Tryz.f64 [] []:=vt (by kernel_rfl)
theorem r64 {b:List UInt8} (hb:b.length<1000000000) {r:Rd} (hr:r.pos≤b.length):FRd 64 [] b r (.agg (hU b r).1.enc) (hU b r).2:=by
 refine FnR.of bR0 (lv:=fB []) (Pt.head rfl) (Rd.clo b r) ?_ rfl (Rd.clo b _)
 rw [t64]
 delta Tryz.f64;simp only [↓cw,↓reduceIte,Nat.reduceLT,Nat.reduceAdd,kk,Rd.cells,aA,oF]
 refine Eq.mpr ((aXc hb hr 64).eq (by repeat' first | exact gS | refine gN ?_) _) ?_
 simp only [↓cw,↓reduceIte,Nat.reduceLT,Nat.reduceAdd,kk,Rd.cells,aA,oF]
 refine Eq.mpr ((r69 hb (eI hr)).eq (by repeat' first | exact gS | refine gN ?_) _) ?_
 simp only [↓cw,↓reduceIte,Nat.reduceLT,Nat.reduceAdd,kk,Rd.cells,aA,oF]
 refine Eq.mpr ((bQu hb (aT (eI hr))).eq (by repeat' first | exact gS | refine gN ?_) _) ?_
 simp only [↓cw,↓reduceIte,Nat.reduceLT,Nat.reduceAdd,kk,Rd.cells,aA,oF]
 exact ⟨rfl,by repeat' first | exact gS | refine gN ?_⟩
def iM (b:List UInt8) (r:Rd):Sess×Rd:=
 let x:=bY b r
 let y:=bY b x.2
 let z:=bY b y.2
 let u:=bY b z.2
 let v:=bY b u.2
 (⟨x.1,y.1,⟨z.1,u.1,v.1⟩⟩,v.2)
theorem aS4 {b:List UInt8} {r:Rd} (hr:r.pos≤b.length):(iM b r).2.pos≤b.length:=aT (aT (aT (aT (aT hr))))
theorem bR1:nK 68=some (.val (dP [])):=by kernel_rfl
theorem t68:VT 68 Tryz.f68 [] []:=vt (by kernel_rfl)
theorem r68 {b:List UInt8} (hb:b.length<1000000000) {r:Rd} (hr:r.pos≤b.length):FRd 68 [] b r (.agg (iM b r).1.enc) (iM b r).2:=by
 refine FnR.of bR1 (lv:=fB []) (Pt.head rfl) (Rd.clo b r) ?_ rfl (Rd.clo b _)
 rw [t68]
 delta Tryz.f68;simp only [↓cw,↓reduceIte,Nat.reduceLT,Nat.reduceAdd,kk,Rd.cells,aA,oF]
 refine Eq.mpr ((r69 hb hr).eq (by repeat' first | exact gS | refine gN ?_) _) ?_
 simp only [↓cw,↓reduceIte,Nat.reduceLT,Nat.reduceAdd,kk,Rd.cells,aA,oF]
 refine Eq.mpr ((r69 hb (aT hr)).eq (by repeat' first | exact gS | refine gN ?_) _) ?_
 simp only [↓cw,↓reduceIte,Nat.reduceLT,Nat.reduceAdd,kk,Rd.cells,aA,oF]
 refine Eq.mpr ((r69 hb (aT (aT hr))).eq (by repeat' first | exact gS | refine gN ?_) _) ?_
 simp only [↓cw,↓reduceIte,Nat.reduceLT,Nat.reduceAdd,kk,Rd.cells,aA,oF]
 refine Eq.mpr ((r69 hb (aT (aT (aT hr)))).eq (by repeat' first | exact gS | refine gN ?_) _) ?_
 simp only [↓cw,↓reduceIte,Nat.reduceLT,Nat.reduceAdd,kk,Rd.cells,aA,oF]
 refine Eq.mpr ((r69 hb (aT (aT (aT (aT hr))))).eq (by repeat' first | exact gS | refine gN ?_) _) ?_
 simp only [↓cw,↓reduceIte,Nat.reduceLT,Nat.reduceAdd,kk,Rd.cells,aA,oF]
 exact ⟨rfl,by repeat' first | exact gS | refine gN ?_⟩
def hZ (b:List UInt8) (r:Rd):Part×Rd:=
 let x:=kO b 64 r
 let y:=bY b x.2
 let z:=bY b y.2
 (⟨x.1,y.1,z.1,0⟩,z.2)
theorem aS5 {b:List UInt8} {r:Rd} (hr:r.pos≤b.length):(hZ b r).2.pos≤b.length:=aT (aT (eI hr))
theorem bLq:nK 150=some (.val (dP [])):=by kernel_rfl
theorem bR2:VT 150 Tryz.f150 [] []:=vt (by kernel_rfl)
theorem bR3 {b:List UInt8} (hb:b.length<1000000000) {r:Rd} (hr:r.pos≤b.length):FRd 150 [] b r (.agg (hZ b r).1.enc) (hZ b r).2:=by
 refine FnR.of bLq (lv:=fB []) (Pt.head rfl) (Rd.clo b r) ?_ rfl (Rd.clo b _)
 rw [bR2]
 delta Tryz.f150;simp only [↓cw,↓reduceIte,Nat.reduceLT,Nat.reduceAdd,kk,Rd.cells,aA,oF]
 refine Eq.mpr ((aXc hb hr 64).eq (by repeat' first | exact gS | refine gN ?_) _) ?_
 simp only [↓cw,↓reduceIte,Nat.reduceLT,Nat.reduceAdd,kk,Rd.cells,aA,oF]
 refine Eq.mpr ((r69 hb (eI hr)).eq (by repeat' first | exact gS | refine gN ?_) _) ?_
 simp only [↓cw,↓reduceIte,Nat.reduceLT,Nat.reduceAdd,kk,Rd.cells,aA,oF]
 refine Eq.mpr ((r69 hb (aT (eI hr))).eq (by repeat' first | exact gS | refine gN ?_) _) ?_
 simp only [↓cw,↓reduceIte,Nat.reduceLT,Nat.reduceAdd,kk,Rd.cells,aA,oF]
 exact ⟨rfl,by repeat' first | exact gS | refine gN ?_⟩
def St.at (S:St) (a:Nat) (c:List V):St:=⟨S.next,S.heap.put a (.row 0 3 [c])⟩
theorem St.at_get (S:St) (a:Nat) (c:List V):(St.at S a c).heap.get a=some (.row 0 3 [c]):=Tr.get_put_sameB _ _ _ trivial
theorem St.at_at (S:St) (a:Nat) (c d:List V) {x:Nat} (h:x≠a):(St.at S a c).heap.get x=(St.at S a d).heap.get x:=by
 unfold St.at
 rw [Tr.get_put_neB _ _ _ _ trivial h,Tr.get_put_neB _ _ _ _ trivial h]
theorem St.at_wf {S:St} {a:Nat} {c d:List V} (h:a<S.next) (w:WF (St.at S a c)):WF (St.at S a d):=by
 intro x bx hx
 by_cases e:x=a
 ·rw [e];exact h
 ·rw [St.at_at S a d c e] at hx
  exact w x bx hx
theorem St.wf_at {S:St} {a:Nat} {d:List V} (h:a<S.next) (w:WF S):WF (St.at S a d):=by
 intro x bx hx
 by_cases e:x=a
 ·rw [e];exact h
 ·unfold St.at at hx
  rw [Tr.get_put_neB _ _ _ _ trivial e] at hx
  exact w x bx hx
theorem Ext.at {S X:St} {a:Nat} {c d:List V} (h:a<S.next) (x:Ext (St.at S a c) X):Ext (St.at S a d) (St.at X a d):=by
 refine ⟨fun y b hy=>?_,x.next,fun w=>St.wf_at (Nat.lt_of_lt_of_le h x.next) (x.wf (St.at_wf h w))⟩
 by_cases e:y=a
 ·subst e;rw [St.at_get] at hy ⊢;exact hy
 ·rw [St.at_at S a d c e] at hy
  unfold St.at
  rw [Tr.get_put_neB _ _ _ _ trivial e]
  exact x.old y b hy
theorem Own.at {S X:St} {a n:Nat} {c d e:List V} {v:V} {es:List (List V)} (h:a<S.next) (o:Own (St.at S a c) X n v es):Own (St.at S a d) (St.at X a e) n v es:=by
 refine ⟨?_,o.len⟩
 rcases o.is with q | ⟨y,ver,tl,q1,q2,q3,q4⟩
 ·exact .inl q
 ·have q2':S.next≤y:=q2
  refine .inr ⟨y,ver,tl,q1,q2,q3,?_⟩
  unfold St.at
  rw [Tr.get_put_neB _ _ _ _ trivial (show y≠a by omega)]
  exact q4
def bD {α:Type} (f:Rd→α×Rd):Nat→Rd→List α×Rd
 | 0,r=>([],r)
 | n+1,r=>if r.err=0 then ((f r).1::(bD f n (f r).2).1,(bD f n (f r).2).2) else ([],r)
def bN {α:Type} (b:List UInt8) (f:Rd→α×Rd) (most:Int) (r:Rd):List α×Rd:=bD f (cI b most r).1.toNat (cI b most r).2
theorem mX {b:List UInt8} {most:Int} {r:Rd} (hm:0≤most) (hq:(cI b most r).2.err≠0→(cI b most r).1=0):0≤(cI b most r).1∧(cI b most r).1≤most:=by
 by_cases he:(cI b most r).2.err=0
 ·unfold cI at he ⊢
  split
  ·rename_i h1
   split
   ·exact ⟨Int.le_refl _,hm⟩
   ·exact aCd h1
  ·rename_i h1
   rw [if_neg h1] at he
   exact absurd he h1
 ·rw [hq he];exact ⟨Int.le_refl _,hm⟩
theorem aNd {b:List UInt8} {r:Rd} (h:(bY b r).2.err≠0):(bY b r).1=0:=by
 unfold bY at h ⊢
 split
 ·rename_i h1
  rw [if_pos h1] at h
  split
  ·rename_i e;rw [e] at h;exact absurd rfl h
  ·rfl
 ·rfl
theorem aAk {b:List UInt8} {lo hi:Int} {r:Rd} (h:(eR b lo hi r).2.err≠0):(eR b lo hi r).1=0:=by
 unfold eR at h ⊢
 split
 ·rename_i h1
  split
  ·rfl
  ·split
   ·rfl
   ·rename_i h2 h3
    rw [if_pos h1,if_neg h2,if_neg h3] at h
    exact absurd h1 h
 ·rename_i h1;exact aNd h1
theorem lC {b:List UInt8} {most:Int} {r:Rd} (h:(cI b most r).2.err≠0):(cI b most r).1=0:=by
 unfold cI at h ⊢
 split
 ·rename_i h1
  split
  ·rfl
  ·rename_i h2
   rw [if_pos h1,if_neg h2] at h
   exact absurd h1 h
 ·rename_i h1;exact aAk h1
theorem aVw (z:List V) (parts:List (Nat×V)) (fr:Option Nat) (S:St):type_of% (bsl 5 z parts fr S (by decide)):=bsl 5 z parts fr S (by decide)
theorem bR4:cG prog 62=some none:=by kernel_rfl
theorem aVv (z:List V) (parts:List (Nat×V)) (fr:Option Nat) (S:St):type_of% (bsl 4 z parts fr S (by decide)):=bsl 4 z parts fr S (by decide)
theorem bR5:cG prog 64=some none:=by kernel_rfl
theorem g63 {b:List UInt8} (hb:b.length<1000000000) {S:St} {a:Nat} (ha:a<S.next) {r:Rd} (hr:r.pos≤b.length) (w:WF S) (hS:S.heap.get a=some (.row 0 3 [r.cells b])) {K:KW}
  (H:∀ v X,Ext (St.at S a ((bN b (hU b) 8 r).2.cells b)) X→Own (St.at S a ((bN b (hU b) 8 r).2.cells b)) X 4 v ((bN b (hU b) 8 r).1.map Ser.enc)→(bN b (hU b) 8 r).2.pos≤b.length→K v X):
  C 63 [.ptr a 0 0 0,.int .i64 8,.func 64 [] []] S K:=by
 refine v63 ?_
 delta Tryz.f63;simp only [↓cw,↓reduceIte,Nat.reduceLT,kk]
 refine Eq.mpr ((aZr hb hr 8).eq hS _) ?_
 have hc:=jK (most:=8) hr
 obtain ⟨h0,h24⟩:=mX (b:=b) (r:=r) (show (0:Int)≤8 by decide) lC
 unfold bN at H
 generalize cI b 8 r=y at hc h0 h24 H ⊢
 obtain ⟨n,r0⟩:=y
 simp only at hc h0 h24 H ⊢
 obtain ⟨n,rfl⟩:=Int.eq_ofNat_of_zero_le h0
 rw [show ((n:Int)).toNat=n from by omega] at H
 refine jD (fun m vs X=>∃ (i:Nat) (r1:Rd) (v:V) (done:List Ser),i+m=n∧vs=[v,.int .i64 (i:Int)]∧Ext (St.at S a (r1.cells b)) X∧Own (St.at S a (r1.cells b)) X 4 v (done.map Ser.enc)∧done.length=i∧r1.pos≤b.length∧done++(bD (hU b) m r1).1=(bD (hU b) n r0).1∧(bD (hU b) m r1).2=(bD (hU b) n r0).2) ?_ (n:=n) ⟨0,r0,.nils,[],by omega,rfl,Ext.refl _,Own.nil _ _ _,rfl,hc,rfl,rfl⟩
 rintro m vs X ⟨i,r1,v,done,hi,rfl,x,o,hd,hp,e1,e2⟩ aD hag
 have hXa:=x.old a _ (St.at_get S a _)
 have hn:S.next≤X.next:=x.next
 by_cases hin:(i:Int)<(n:Int)
 ·obtain ⟨m,rfl⟩:∃ m',m=m'+1:=⟨m - 1,by omega⟩
  simp only [↓cw,↓reduceIte,Nat.reduceLT,kk,hin,if_true]
  refine Eq.mpr ((aX8 b r1).eq_same hXa _) ?_
  by_cases he:r1.err=0
  ·simp only [↓cw,↓reduceIte,Nat.reduceLT,kk,he,if_true,if_false,not_true_eq_false,↓oM prog C bR5,List.nil_append,List.cons_append]
   refine Eq.mpr ((r64 hb hp).eq hXa _) ?_
   have x':=Go.Proofs.YtoaibmbldmckaaaGreat.Ext.at ha x (d:=(hU b r1).2.cells b)
   have o':=Go.Proofs.YtoaibmbldmckaaaGreat.Own.at ha o (d:=(hU b r1).2.cells b) (e:=(hU b r1).2.cells b)
   have wS:=St.wf_at (d:=(hU b r1).2.cells b) ha w
   rw [show (⟨X.next,X.heap.put a (.row 0 3 [(hU b r1).2.cells b])⟩:St)=St.at X a ((hU b r1).2.cells b) from rfl]
   generalize St.at X a ((hU b r1).2.cells b)=Y at x' o' ⊢
   simp only [bD,he,if_true] at e1 e2
   have hq:=aS3 hp
   generalize hU b r1=z at x' o' e1 e2 wS hq ⊢
   obtain ⟨rt,r2⟩:=z
   simp only at x' o' e1 e2 wS hq ⊢
   have x2:Ext Y ⟨Y.next+1,Y.heap.put Y.next (.row 0 4 [rt.enc])⟩:=Ext.new (x'.wf wS) _
   obtain ⟨v2,X2,q1,x3,n3,o2⟩:=(o'.ext x2).push (b:=40) (x'.trans x2) wS (u:=.sl Y.next 0 4 0 1) (cs:=[rt.enc]) (by simp only [aM,aA];rfl) (fun c hc=>by rcases List.mem_singleton.1 hc with rfl;exact (Go.Proofs.YtoaibmbldmckaaaGreat.ser4) _) (by simp) (by simp;omega) (by simp [eD];omega)
   simp only [Ser.enc] at q1
   simp only [↓cw,↓reduceIte,Nat.reduceLT,kk,aVv,Ser.enc,q1,jO (show i<1000000000 by omega)]
   exact hag m _ _ (by omega) ⟨i+1,r2,v2,done++[rt],by omega,rfl,x3,by simpa using o2,by simp [hd],hq,by rw [←e1];simp,e2⟩
  ·simp only [↓cw,↓reduceIte,Nat.reduceLT,kk,he,if_true,if_false,not_false_eq_true]
   simp only [bD,he,if_false] at e1 e2
   rw [←e1,←e2] at H
   exact H v X x (by simpa using o) hp
 ·obtain rfl:m=0:=by omega
  simp only [↓cw,↓reduceIte,Nat.reduceLT,kk,hin,if_false]
  simp only [bD] at e1 e2
  rw [←e1,←e2] at H
  exact H v X x (by simpa using o) hp
theorem bR6:cG prog 68=some none:=by kernel_rfl
theorem g67 {b:List UInt8} (hb:b.length<1000000000) {S:St} {a:Nat} (ha:a<S.next) {r:Rd} (hr:r.pos≤b.length) (w:WF S) (hS:S.heap.get a=some (.row 0 3 [r.cells b])) {K:KW}
  (H:∀ v X,Ext (St.at S a ((bN b (iM b) 8 r).2.cells b)) X→Own (St.at S a ((bN b (iM b) 8 r).2.cells b)) X 5 v ((bN b (iM b) 8 r).1.map Sess.enc)→(bN b (iM b) 8 r).2.pos≤b.length→K v X):
  C 67 [.ptr a 0 0 0,.int .i64 8,.func 68 [] []] S K:=by
 refine v67 ?_
 delta Tryz.f67;simp only [↓cw,↓reduceIte,Nat.reduceLT,kk]
 refine Eq.mpr ((aZr hb hr 8).eq hS _) ?_
 have hc:=jK (most:=8) hr
 obtain ⟨h0,h24⟩:=mX (b:=b) (r:=r) (show (0:Int)≤8 by decide) lC
 unfold bN at H
 generalize cI b 8 r=y at hc h0 h24 H ⊢
 obtain ⟨n,r0⟩:=y
 simp only at hc h0 h24 H ⊢
 obtain ⟨n,rfl⟩:=Int.eq_ofNat_of_zero_le h0
 rw [show ((n:Int)).toNat=n from by omega] at H
 refine jD (fun m vs X=>∃ (i:Nat) (r1:Rd) (v:V) (done:List Sess),i+m=n∧vs=[v,.int .i64 (i:Int)]∧Ext (St.at S a (r1.cells b)) X∧Own (St.at S a (r1.cells b)) X 5 v (done.map Sess.enc)∧done.length=i∧r1.pos≤b.length∧done++(bD (iM b) m r1).1=(bD (iM b) n r0).1∧(bD (iM b) m r1).2=(bD (iM b) n r0).2) ?_ (n:=n) ⟨0,r0,.nils,[],by omega,rfl,Ext.refl _,Own.nil _ _ _,rfl,hc,rfl,rfl⟩
 rintro m vs X ⟨i,r1,v,done,hi,rfl,x,o,hd,hp,e1,e2⟩ aD hag
 have hXa:=x.old a _ (St.at_get S a _)
 have hn:S.next≤X.next:=x.next
 by_cases hin:(i:Int)<(n:Int)
 ·obtain ⟨m,rfl⟩:∃ m',m=m'+1:=⟨m - 1,by omega⟩
  simp only [↓cw,↓reduceIte,Nat.reduceLT,kk,hin,if_true]
  refine Eq.mpr ((aX8 b r1).eq_same hXa _) ?_
  by_cases he:r1.err=0
  ·simp only [↓cw,↓reduceIte,Nat.reduceLT,kk,he,if_true,if_false,not_true_eq_false,↓oM prog C bR6,List.nil_append,List.cons_append]
   refine Eq.mpr ((r68 hb hp).eq hXa _) ?_
   have x':=Go.Proofs.YtoaibmbldmckaaaGreat.Ext.at ha x (d:=(iM b r1).2.cells b)
   have o':=Go.Proofs.YtoaibmbldmckaaaGreat.Own.at ha o (d:=(iM b r1).2.cells b) (e:=(iM b r1).2.cells b)
   have wS:=St.wf_at (d:=(iM b r1).2.cells b) ha w
   rw [show (⟨X.next,X.heap.put a (.row 0 3 [(iM b r1).2.cells b])⟩:St)=St.at X a ((iM b r1).2.cells b) from rfl]
   generalize St.at X a ((iM b r1).2.cells b)=Y at x' o' ⊢
   simp only [bD,he,if_true] at e1 e2
   have hq:=aS4 hp
   generalize iM b r1=z at x' o' e1 e2 wS hq ⊢
   obtain ⟨rt,r2⟩:=z
   simp only at x' o' e1 e2 wS hq ⊢
   have x2:Ext Y ⟨Y.next+1,Y.heap.put Y.next (.row 0 5 [rt.enc])⟩:=Ext.new (x'.wf wS) _
   obtain ⟨v2,X2,q1,x3,n3,o2⟩:=(o'.ext x2).push (b:=40) (x'.trans x2) wS (u:=.sl Y.next 0 5 0 1) (cs:=[rt.enc]) (by simp only [aM,aA];rfl) (fun c hc=>by rcases List.mem_singleton.1 hc with rfl;exact (Go.Proofs.YtoaibmbldmckaaaGreat.sess5) _) (by simp) (by simp;omega) (by simp [eD];omega)
   simp only [Sess.enc] at q1
   simp only [↓cw,↓reduceIte,Nat.reduceLT,kk,aVw,Sess.enc,q1,jO (show i<1000000000 by omega)]
   exact hag m _ _ (by omega) ⟨i+1,r2,v2,done++[rt],by omega,rfl,x3,by simpa using o2,by simp [hd],hq,by rw [←e1];simp,e2⟩
  ·simp only [↓cw,↓reduceIte,Nat.reduceLT,kk,he,if_true,if_false,not_false_eq_true]
   simp only [bD,he,if_false] at e1 e2
   rw [←e1,←e2] at H
   exact H v X x (by simpa using o) hp
 ·obtain rfl:m=0:=by omega
  simp only [↓cw,↓reduceIte,Nat.reduceLT,kk,hin,if_false]
  simp only [bD] at e1 e2
  rw [←e1,←e2] at H
  exact H v X x (by simpa using o) hp
theorem bLr:cG prog 150=some none:=by kernel_rfl
theorem bR7 {b:List UInt8} (hb:b.length<1000000000) {S:St} {a:Nat} (ha:a<S.next) {r:Rd} (hr:r.pos≤b.length) (w:WF S) (hS:S.heap.get a=some (.row 0 3 [r.cells b])) {K:KW}
  (H:∀ v X,Ext (St.at S a ((bN b (hZ b) 12 r).2.cells b)) X→Own (St.at S a ((bN b (hZ b) 12 r).2.cells b)) X 4 v ((bN b (hZ b) 12 r).1.map Part.enc)→(bN b (hZ b) 12 r).2.pos≤b.length→K v X):
  C 149 [.ptr a 0 0 0,.int .i64 12,.func 150 [] []] S K:=by
 refine bMl ?_
 delta Tryz.f149;simp only [↓cw,↓reduceIte,Nat.reduceLT,kk]
 refine Eq.mpr ((aZr hb hr 12).eq hS _) ?_
 have hc:=jK (most:=12) hr
 obtain ⟨h0,h24⟩:=mX (b:=b) (r:=r) (show (0:Int)≤12 by decide) lC
 unfold bN at H
 generalize cI b 12 r=y at hc h0 h24 H ⊢
 obtain ⟨n,r0⟩:=y
 simp only at hc h0 h24 H ⊢
 obtain ⟨n,rfl⟩:=Int.eq_ofNat_of_zero_le h0
 rw [show ((n:Int)).toNat=n from by omega] at H
 refine jD (fun m vs X=>∃ (i:Nat) (r1:Rd) (v:V) (done:List Part),i+m=n∧vs=[v,.int .i64 (i:Int)]∧Ext (St.at S a (r1.cells b)) X∧Own (St.at S a (r1.cells b)) X 4 v (done.map Part.enc)∧done.length=i∧r1.pos≤b.length∧done++(bD (hZ b) m r1).1=(bD (hZ b) n r0).1∧(bD (hZ b) m r1).2=(bD (hZ b) n r0).2) ?_ (n:=n) ⟨0,r0,.nils,[],by omega,rfl,Ext.refl _,Own.nil _ _ _,rfl,hc,rfl,rfl⟩
 rintro m vs X ⟨i,r1,v,done,hi,rfl,x,o,hd,hp,e1,e2⟩ aD hag
 have hXa:=x.old a _ (St.at_get S a _)
 have hn:S.next≤X.next:=x.next
 by_cases hin:(i:Int)<(n:Int)
 ·obtain ⟨m,rfl⟩:∃ m',m=m'+1:=⟨m - 1,by omega⟩
  simp only [↓cw,↓reduceIte,Nat.reduceLT,kk,hin,if_true]
  refine Eq.mpr ((aX8 b r1).eq_same hXa _) ?_
  by_cases he:r1.err=0
  ·simp only [↓cw,↓reduceIte,Nat.reduceLT,kk,he,if_true,if_false,not_true_eq_false,↓oM prog C bLr,List.nil_append,List.cons_append]
   refine Eq.mpr ((bR3 hb hp).eq hXa _) ?_
   have x':=Go.Proofs.YtoaibmbldmckaaaGreat.Ext.at ha x (d:=(hZ b r1).2.cells b)
   have o':=Go.Proofs.YtoaibmbldmckaaaGreat.Own.at ha o (d:=(hZ b r1).2.cells b) (e:=(hZ b r1).2.cells b)
   have wS:=St.wf_at (d:=(hZ b r1).2.cells b) ha w
   rw [show (⟨X.next,X.heap.put a (.row 0 3 [(hZ b r1).2.cells b])⟩:St)=St.at X a ((hZ b r1).2.cells b) from rfl]
   generalize St.at X a ((hZ b r1).2.cells b)=Y at x' o' ⊢
   simp only [bD,he,if_true] at e1 e2
   have hq:=aS5 hp
   generalize hZ b r1=z at x' o' e1 e2 wS hq ⊢
   obtain ⟨rt,r2⟩:=z
   simp only at x' o' e1 e2 wS hq ⊢
   have x2:Ext Y ⟨Y.next+1,Y.heap.put Y.next (.row 0 4 [rt.enc])⟩:=Ext.new (x'.wf wS) _
   obtain ⟨v2,X2,q1,x3,n3,o2⟩:=(o'.ext x2).push (b:=40) (x'.trans x2) wS (u:=.sl Y.next 0 4 0 1) (cs:=[rt.enc]) (by simp only [aM,aA];rfl) (fun c hc=>by rcases List.mem_singleton.1 hc with rfl;exact aPc _) (by simp) (by simp;omega) (by simp [eD];omega)
   simp only [Part.enc] at q1
   simp only [↓cw,↓reduceIte,Nat.reduceLT,kk,aVv,Part.enc,q1,jO (show i<1000000000 by omega)]
   exact hag m _ _ (by omega) ⟨i+1,r2,v2,done++[rt],by omega,rfl,x3,by simpa using o2,by simp [hd],hq,by rw [←e1];simp,e2⟩
  ·simp only [↓cw,↓reduceIte,Nat.reduceLT,kk,he,if_true,if_false,not_false_eq_true]
   simp only [bD,he,if_false] at e1 e2
   rw [←e1,←e2] at H
   exact H v X x (by simpa using o) hp
 ·obtain rfl:m=0:=by omega
  simp only [↓cw,↓reduceIte,Nat.reduceLT,kk,hin,if_false]
  simp only [bD] at e1 e2
  rw [←e1,←e2] at H
  exact H v X x (by simpa using o) hp
def Posted.encW (u:V) (p:Posted):List V:=[.str p.ref.ser,.int .i64 p.ref.num,.int .i64 p.day.y,.int .i64 p.day.m,.int .i64 p.day.d,.int .i64 p.total.net,.int .i64 p.total.tax,.int .i64 p.total.gross,u,.str p.of.ser,.int .i64 p.of.num,.bool p.back]
def dW (b:List UInt8) (r:Rd):Posted×Rd:=
 let x:=kO b 64 r
 let y:=aH5 b x.2
 let z:=kO b 64 y.2
 let k:=bY b z.2
 let l:=bN b (hZ b) 12 k.2
 (⟨⟨x.1,0⟩,y.1,⟨0,0,0,l.1⟩,⟨z.1,k.1⟩,false⟩,l.2)
theorem Ext.lows {S X:St} (w:WF S) (hn:S.next≤X.next) (hx:WF X) (h:∀ y,y<S.next→X.heap.get y=S.heap.get y):Ext S X:=
 ⟨fun y b hy=>by rw [h y (w y b hy)];exact hy,hn,fun _=>hx⟩
theorem Own.ge {S0 S:St} {n:Nat} {v:V} {es:List (List V)} (h:Own S0 S n v es):∀ a ver m,v=.sl a ver n 0 m→S0.next≤a:=by
 intro a ver m hv
 rcases h.is with ⟨rfl,_⟩ | ⟨a',ver',tl,rfl,hl,_⟩
 ·cases hv
 ·cases hv;exact hl
theorem g66 {b:List UInt8} (hb:b.length<1000000000) {S:St} {a:Nat} (ha:a<S.next) {r:Rd} (hr:r.pos≤b.length) (w:WF S) (hS:S.heap.get a=some (.row 0 3 [r.cells b])) {K:KW}
  (H:∀ u X,Ext (St.at S a ((dW b r).2.cells b)) X→Own (St.at S a ((dW b r).2.cells b)) X 4 u ((dW b r).1.total.parts.map Part.enc)→(dW b r).2.pos≤b.length→K (.agg ((dW b r).1.encW u)) X):
  C 66 [.ptr a 0 0 0] S K:=by
 refine v66 ?_
 have w2:WF ⟨S.next+1+1,S.heap⟩:=fun y c hy=>by have:=w y c hy;show y<S.next+1+1;omega
 have n1:S.next≠a:=by omega
 have n2:S.next+1≠a:=by omega
 have n3:S.next≠S.next+1:=by omega
 have n4:S.next+1≠S.next:=by omega
 delta Tryz.f66;simp only [↓cw,↓reduceIte,Nat.reduceLT,kk]
 refine Eq.mpr ((aXc hb hr 64).eq (by repeat' first | exact gS | assumption | refine gN ?_) _) ?_
 have p1:=eI (most:=64) hr
 simp only [↓cw,↓reduceIte,Nat.reduceLT,kk,aA,eG n1,eG n2,eG n3,eG n4]
 refine Eq.mpr ((bLp hb p1).eq (by repeat' first | exact gS | assumption | refine gN ?_) _) ?_
 have p2:=aAj p1
 simp only [Date.enc]
 simp only [↓cw,↓reduceIte,Nat.reduceLT,kk,aA,eG n1,eG n2,eG n3,eG n4]
 refine Eq.mpr ((aXc hb p2 64).eq (by repeat' first | exact gS | assumption | refine gN ?_) _) ?_
 have p3:=eI (most:=64) p2
 simp only [↓cw,↓reduceIte,Nat.reduceLT,kk,aA,eG n1,eG n2,eG n3,eG n4]
 refine Eq.mpr ((r69 hb p3).eq (by repeat' first | exact gS | assumption | refine gN ?_) _) ?_
 have p4:=aT p3
 simp only [↓cw,↓reduceIte,Nat.reduceLT,kk,aA,eG n1,eG n2,eG n3,eG n4]
 refine bR7 hb (a:=a) (by show a<S.next+1+1;omega) p4 ?_ (by repeat' first | exact gS | assumption | refine gN ?_) fun v X x o p5=>?_
 ·repeat' first | exact w2 | (refine jN (n:=S.next+1+1) ?_ (by omega) (by omega))
 have g2:=aI (x.old (S.next+1) _ (by unfold St.at;repeat' first | exact gS | assumption | refine gN ?_))
 have g1:=aI (x.old S.next _ (by unfold St.at;repeat' first | exact gS | assumption | refine gN ?_))
 have hnX:S.next+1+1≤X.next:=x.next
 have ga:=x.old a _ (St.at_get _ _ _)
 have oc:=o.cells
 have o1:=o.one
 simp only [↓cw,↓reduceIte,Nat.reduceLT,kk,aA,eG n1,eG n2,eG n3,eG n4,g2,g1,oc,o1]
 have wA:∀ c,WF (St.at S a c):=fun c=>St.wf_at ha w
 have y0:Ext (St.at S a ((dW b r).2.cells b)) X:=by
  refine Ext.trans (Ext.lows (wA _) ?_ ?_ ?_) x
  ·show S.next≤S.next+1+1;omega
  ·exact St.wf_at (by show a<S.next+1+1;omega) (by repeat' first | exact w2 | (refine jN (n:=S.next+1+1) ?_ (by omega) (by omega)))
  ·intro y hy
   have hy':y<S.next:=hy
   by_cases e:y=a
   ·subst e;rw [St.at_get,St.at_get];rfl
   ·unfold St.at
    rw [Tr.get_put_neB _ _ _ _ trivial e,Tr.get_put_neB _ _ _ _ trivial e]
    repeat rw [Tr.get_put_neB _ _ _ _ trivial (by omega)]
 have y1:=Ext.put y0 (a:=S.next+1) (m:=X.next) (by show S.next≤S.next+1;omega) (by omega) (Nat.le_refl _) (wA _)
 refine H v _ (Ext.put (y1 _) (a:=S.next) (m:=X.next) (Nat.le_refl _) (by omega) (Nat.le_refl _) (wA _) _) ?_ p5
 refine Own.weaken (B:=St.at ⟨S.next+1+1,S.heap⟩ a ((dW b r).2.cells b)) ?_ (by show S.next≤S.next+1+1;omega)
 have o2:Own (St.at ⟨S.next+1+1,S.heap⟩ a ((dW b r).2.cells b)) X 4 v ((dW b r).1.total.parts.map Part.enc):=o.weaken (Nat.le_refl _)
 exact (o2.put (k:=S.next+1) (Nat.le_refl _) fun y ver m hv=>by have:=Own.ge o2 y ver m hv;have h3:S.next+1+1≤y:=this;omega).put (k:=S.next) (Nat.le_refl _) fun y ver m hv=>by have:=Own.ge o2 y ver m hv;have h3:S.next+1+1≤y:=this;omega
structure PL (S0 X:St) (us:List V) (l:List Posted):Prop where
 len:us.length=l.length
 own:∀ (i:Nat) (u:V) (p:Posted),us[i]?=some u→l[i]?=some p→Own S0 X 4 u (p.total.parts.map Part.enc)
 sep:∀ (i j:Nat) (u u':V) (y:Nat),us[i]?=some u→us[j]?=some u'→blkOf u=some y→blkOf u'=some y→i=j
theorem PL.nil (S0 X:St):PL S0 X [] []:=PL.mk rfl (by intro i u p h;simp at h) (by intro i j u u' y h;simp at h)
theorem PL.move {S0 S1 X Y:St} {us:List V} {l:List Posted} (h:PL S0 X us l) (hg:∀ (i:Nat) (u:V) (p:Posted),us[i]?=some u→l[i]?=some p→Own S0 X 4 u (p.total.parts.map Part.enc)→Own S1 Y 4 u (p.total.parts.map Part.enc)):PL S1 Y us l:=
 ⟨h.len,fun i u p h1 h2=>hg i u p h1 h2 (h.own i u p h1 h2),h.sep⟩
theorem PL.snoc {S0 X:St} {us:List V} {l:List Posted} (h:PL S0 X us l) {u:V} {p:Posted} (o:Own S0 X 4 u (p.total.parts.map Part.enc)) (hs:∀ (i:Nat) (u':V) (y:Nat),us[i]?=some u'→blkOf u'=some y→blkOf u≠some y):PL S0 X (us++[u]) (l++[p]):=by
 have one:∀ {k:Nat} {x:V},(us++[u])[k]?=some x→(us[k]?=some x∧k<us.length)∨(x=u∧k=us.length):=by
  intro k x hk
  by_cases c:k<us.length
  ·rw [List.getElem?_append_left c] at hk;exact .inl ⟨hk,c⟩
  ·rw [List.getElem?_append_right (by omega)] at hk
   have:=(List.getElem?_eq_some_iff.1 hk).1
   simp only [List.length_cons,List.length_nil] at this
   have hi:k - us.length=0:=by omega
   rw [hi] at hk
   cases hk
   exact .inr ⟨rfl,by omega⟩
 have hlen:=h.len
 refine PL.mk (by rw [List.length_append,List.length_append,hlen];rfl) ?_ ?_
 ·intro i u' p' h1 h2
  rcases one h1 with ⟨a1,a2⟩ | ⟨rfl,a2⟩
  ·rw [List.getElem?_append_left (by rw [←hlen];exact a2)] at h2
   exact h.own i u' p' a1 h2
  ·rw [List.getElem?_append_right (by rw [←hlen,a2];exact Nat.le_refl _),←hlen,a2,Nat.sub_self] at h2
   cases h2
   exact o
 ·intro i j v v' y h1 h2 h3 h4
  rcases one h1 with ⟨a1,a2⟩ | ⟨rfl,a2⟩<;>rcases one h2 with ⟨b1,b2⟩ | ⟨rfl,b2⟩
  ·exact h.sep i j v v' y a1 b1 h3 h4
  ·exact absurd h4 (hs i v y a1 h3)
  ·exact absurd h3 (hs j v' y b1 h4)
  ·omega
theorem aL0 {S0 X:St} {n:Nat} {u:V} {es:List (List V)} (o:Own S0 X n u es) (p:Posted):(p.encW u).length=12∧aF (p.encW u)=true:=by
 refine ⟨rfl,?_⟩
 rcases o.is with ⟨rfl,_⟩ | ⟨a,ver,tl,rfl,_⟩<;>rfl
theorem Own.apart {S0 S1 X:St} {m n:Nat} (hmn:m≠n) {u v:V} {es fs:List (List V)} (o:Own S0 X m u es) (q:Own S1 X n v fs) {y:Nat} (hu:blkOf u=some y):blkOf v≠some y:=by
 intro hv
 rcases o.is with ⟨rfl,_⟩ | ⟨a1,ver1,tl1,rfl,_,_,h1⟩
 ·cases hu
 ·cases hu
  rcases q.is with ⟨rfl,_⟩ | ⟨a2,ver2,tl2,rfl,_,_,h2⟩
  ·cases hv
  ·cases hv
   have e:=h1.symm.trans h2
   injection e with e
   injection e with _ e2
   exact hmn e2
theorem bR8:cG prog 66=some none:=by kernel_rfl
theorem bEy (z:List V) (parts:List (Nat×V)) (fr:Option Nat) (S:St):type_of% (bsl 12 z parts fr S (by decide)):=bsl 12 z parts fr S (by decide)
theorem g65 {b:List UInt8} (hb:b.length<1000000000) {S:St} {a:Nat} (ha:a<S.next) {r:Rd} (hr:r.pos≤b.length) (w:WF S) (hS:S.heap.get a=some (.row 0 3 [r.cells b])) {K:KW}
  (H:∀ v us X,Ext (St.at S a ((bN b (dW b) 40 r).2.cells b)) X→Own (St.at S a ((bN b (dW b) 40 r).2.cells b)) X 12 v (List.zipWith Posted.encW us (bN b (dW b) 40 r).1)→PL (St.at S a ((bN b (dW b) 40 r).2.cells b)) X us (bN b (dW b) 40 r).1→(bN b (dW b) 40 r).2.pos≤b.length→K v X):
  C 65 [.ptr a 0 0 0,.int .i64 40,.func 66 [] []] S K:=by
 refine v65 ?_
 delta Tryz.f65;simp only [↓cw,↓reduceIte,Nat.reduceLT,kk]
 refine Eq.mpr ((aZr hb hr 40).eq hS _) ?_
 have hc:=jK (most:=40) hr
 obtain ⟨h0,h24⟩:=mX (b:=b) (r:=r) (show (0:Int)≤40 by decide) lC
 unfold bN at H
 generalize cI b 40 r=y at hc h0 h24 H ⊢
 obtain ⟨n,r0⟩:=y
 simp only at hc h0 h24 H ⊢
 obtain ⟨n,rfl⟩:=Int.eq_ofNat_of_zero_le h0
 rw [show ((n:Int)).toNat=n from by omega] at H
 refine jD (fun m vs X=>∃ (i:Nat) (r1:Rd) (v:V) (us:List V) (done:List Posted),i+m=n∧vs=[v,.int .i64 (i:Int)]∧Ext (St.at S a (r1.cells b)) X∧Own (St.at S a (r1.cells b)) X 12 v (List.zipWith Posted.encW us done)∧PL (St.at S a (r1.cells b)) X us done∧done.length=i∧r1.pos≤b.length∧done++(bD (dW b) m r1).1=(bD (dW b) n r0).1∧(bD (dW b) m r1).2=(bD (dW b) n r0).2) ?_ (n:=n) ⟨0,r0,.nils,[],[],by omega,rfl,Ext.refl _,Own.nil _ _ _,PL.nil _ _,rfl,hc,rfl,rfl⟩
 rintro m vs X ⟨i,r1,v,us,done,hi,rfl,x,o,pl,hd,hp,e1,e2⟩ aD hag
 have hXa:=x.old a _ (St.at_get S a _)
 have hn:S.next≤X.next:=x.next
 by_cases hin:(i:Int)<(n:Int)
 ·obtain ⟨m,rfl⟩:∃ m',m=m'+1:=⟨m - 1,by omega⟩
  simp only [↓cw,↓reduceIte,Nat.reduceLT,kk,hin,if_true]
  refine Eq.mpr ((aX8 b r1).eq_same hXa _) ?_
  by_cases he:r1.err=0
  ·simp only [↓cw,↓reduceIte,Nat.reduceLT,kk,he,if_true,if_false,not_true_eq_false,↓oM prog C bR8,List.nil_append,List.cons_append]
   refine g66 hb (a:=a) (by omega) hp (x.wf (St.wf_at ha w)) hXa fun u Y xY oY hq=>?_
   have x':Ext (St.at S a ((dW b r1).2.cells b)) Y:=Ext.trans (Go.Proofs.YtoaibmbldmckaaaGreat.Ext.at ha x) xY
   have o':Own (St.at S a ((dW b r1).2.cells b)) Y 12 v (List.zipWith Posted.encW us done):=(Go.Proofs.YtoaibmbldmckaaaGreat.Own.at ha o).ext xY
   have pl':PL (St.at S a ((dW b r1).2.cells b)) Y us done:=pl.move fun i u p _ _ q=>(Go.Proofs.YtoaibmbldmckaaaGreat.Own.at ha q).ext xY
   have wS:=St.wf_at (d:=(dW b r1).2.cells b) ha w
   have hsep:∀ (i:Nat) (u':V) (y:Nat),us[i]?=some u'→blkOf u'=some y→blkOf u≠some y:=by
    intro k u' y h1 h2 h3
    have hk:=(List.getElem?_eq_some_iff.1 h1).1
    have q:=pl.own k u' _ h1 (List.getElem?_eq_getElem (by rw [←pl.len];exact hk))
    have t1:=(cN q h2).2
    have t2:X.next≤y:=(cN oY h3).1
    omega
   have oU:Own (St.at S a ((dW b r1).2.cells b)) Y 4 u ((dW b r1).1.total.parts.map Part.enc):=oY.weaken hn
   have pl2:=pl'.snoc oU hsep
   simp only [bD,he,if_true] at e1 e2
   clear hsep oY pl' pl xY x o
   generalize dW b r1=z at x' o' e1 e2 wS hq pl2 oU ⊢
   obtain ⟨rt,r2⟩:=z
   simp only at x' o' e1 e2 wS hq pl2 oU ⊢
   have x2:Ext Y ⟨Y.next+1,Y.heap.put Y.next (.row 0 12 [rt.encW u])⟩:=Ext.new (x'.wf wS) _
   obtain ⟨v2,X2,q1,x3,o2,_,st,n3⟩:=(o'.ext x2).pushG (b:=128) (x'.trans x2) wS (u:=.sl Y.next 0 12 0 1) (cs:=[rt.encW u]) (by simp only [aM,aA];rfl) (fun c hc=>by rcases List.mem_singleton.1 hc with rfl;exact aL0 oU _) (by simp) (by simp;omega) (by simp [eD];omega)
   have hz:List.zipWith Posted.encW us done++[rt.encW u]=List.zipWith Posted.encW (us++[u]) (done++[rt]):=by
    have hl:us.length=done.length:=by have:=pl2.len;simp at this;exact this
    rw [List.zipWith_append hl];rfl
   have pl3:PL (St.at S a (r2.cells b)) X2 (us++[u]) (done++[rt]):=pl2.move fun k u' p _ _ q=>by
    have q2:=q.ext x2
    exact q2.same n3 fun y hy=>st y (cN q2 hy).2 (Own.apart (by decide) q2 (o'.ext x2) hy)
   simp only [Posted.encW] at q1
   simp only [↓cw,↓reduceIte,Nat.reduceLT,kk,bEy,Posted.encW,oU.one,oU.cells,q1,jO (show i<1000000000 by omega)]
   exact hag m _ _ (by omega) ⟨i+1,r2,v2,us++[u],done++[rt],by omega,rfl,x3,hz▸o2,pl3,by simp [hd],hq,by rw [←e1];simp,e2⟩
  ·simp only [↓cw,↓reduceIte,Nat.reduceLT,kk,he,if_true,if_false,not_false_eq_true]
   simp only [bD,he,if_false] at e1 e2
   rw [←e1,←e2] at H
   exact H v us X x (by simpa using o) (by simpa using pl) hp
 ·obtain rfl:m=0:=by omega
  simp only [↓cw,↓reduceIte,Nat.reduceLT,kk,hin,if_false]
  simp only [bD] at e1 e2
  rw [←e1,←e2] at H
  exact H v us X x (by simpa using o) (by simpa using pl) hp
end Go.Proofs.YtoaibmbldmckaaaGreat
end
