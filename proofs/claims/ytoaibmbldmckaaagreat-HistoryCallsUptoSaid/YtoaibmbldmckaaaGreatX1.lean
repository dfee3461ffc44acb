import Derived.Below
import Derived.Laws.Externs
import Derived.Laws.IdiomCopy
import Derived.Lib.AppendZerosOnto
import Derived.Lib.JoinLaws
import Derived.Lib.Overlaps
import Derived.Lib.SliceRun
import Derived.Lib.Walk
import Derived.LoopN
import Derived.Shelf.RegionOpenPlain
import Derived.Shelf.Spec.SlicesInsert
import Derived.WalkKit
import Derived.Test.YtoaibmbldmckaaaGreatX0
set_option linter.unusedSimpArgs false
set_option linter.unusedVariables false
set_option linter.unusedSectionVars false
set_option maxRecDepth 100000
section
namespace Go.AM
section
structure Frm where
 i:Nat
 re:List Nat
 o:Oper
 recs:List kL
 e:aJ
 S:St
 e1:aJ
 S1:St
def kU (P:Program) (ops:Array Oper) (i:Nat) (o:Oper) (e e':aJ) (recs:List kL):List kL:=
 bif Nat.beq (cA P o.op) 1&&rP (wanted ops o e) then
  (match o.dst with
  | none=>recs
  | some d=>match e'.get d with
   | some v=>(i,e,v)::recs
   | none=>recs) else recs
inductive DR (P:Program) (call:Call) (n:Nat) (ops:Array Oper) (base:Nat):List bB→List kL→aJ→St→List Frm→aJ→St→Prop
 | nil (recs:List kL) (e:aJ) (S:St):DR P call n ops base [] recs e S [] e S
 | cons (i:Nat) (re:List Nat) (l:List bB) (recs:List kL) (e:aJ) (S:St) (e1:aJ) (S1:St) (o:Oper) (fs:List Frm) (e':aJ) (S':St)
   (ho:ops[i]?=some o) (hs:cM P call n ops o (some (base+i)) e S=.ok (e1,S1)) (ha:bF P ops recs S1 re=true)
   (t:DR P call n ops base l (kU P ops i o e e1 recs) e1 S1 fs e' S'):DR P call n ops base ((i,re)::l) recs e S (⟨i,re,o,recs,e,S,e1,S1⟩::fs) e' S'
section
variable {P:Program} {call:Call} {n:Nat} {ops:Array Oper} {base:Nat}
theorem uJ:∀ {l:List bB} {recs:List kL} {e e':aJ} {S S':St},jP P call n ops base l recs e S=.ok (e',S')→∃ fs,DR P call n ops base l recs e S fs e' S'
 | [],recs,e,e',S,S',h=>by simp [jP] at h;obtain ⟨rfl,rfl⟩:=h;exact ⟨[],.nil _ _ _⟩
 | (i,re)::l,recs,e,e',S,S',h=>by
  simp only [jP] at h
  split at h
  ·cases h
  ·rename_i o ho
   split at h
   ·cases h
   ·rename_i e1 S1 hs
    rw [cond_eq_ite] at h
    split at h
    ·rename_i ha
     obtain ⟨fs,hfs⟩:=uJ h
     exact ⟨_,.cons i re l recs e S e1 S1 o fs e' S' ho hs ha hfs⟩
    ·cases h
theorem aEy {o:Oper} {fr:Option Nat} {e e1:aJ} {S S1:St} (hn:n<fZ) (h:cM P call n ops o fr e S=.ok (e1,S1)) {t:Nat} (ht:o.dst≠some t):e1.get t=e.get t:=by
 have key:∀ v,cR n e o.dst v=.ok e1→e1.get t=e.get t:=by
  intro v hp
  unfold cR at hp
  split at hp
  ·cases hp;rfl
  ·rename_i d hd
   rw [cond_eq_ite] at hp
   split at hp
   ·rename_i hlt
    have hlt':d<n:=by simpa using hlt
    cases hp
    rw [Tr.get_put_ne _ _ _ _ (Nat.lt_trans hlt' hn) (fun e=>ht (by rw [e,hd]))]
   ·cases hp
 rcases jW h with ⟨_,hp,_⟩ | ⟨_,v,_,hp⟩
 ·exact key _ hp
 ·exact key _ hp
theorem aB2 {o:Oper} {e e1:aJ} {v:V} {d:Nat} (hn:n<fZ) (h:cR n e o.dst v=.ok e1) (hd:o.dst=some d):e1.get d=some v:=by
 unfold cR at h
 rw [hd] at h
 simp only [cond_eq_ite] at h
 split at h
 ·rename_i hlt
  have hlt':d<n:=by simpa using hlt
  cases h
  exact Tr.get_put_same _ _ _ (Nat.lt_trans hlt' hn)
 ·cases h
theorem aEz {o:Oper} {k:Nat} {e e1:aJ} {S S1:St} (h:cM P call n ops o (some k) e S=.ok (e1,S1)) (hc:cA P o.op≠3) (hc4:cA P o.op≤3):
  S1.next=S.next∧(∀ a,(cA P o.op=2→a≠k)→S1.heap.get a=S.heap.get a):=by
 rcases jW h with ⟨_,_,rfl⟩ | ⟨_,v,hr,_⟩
 ·exact ⟨rfl,fun _ _=>rfl⟩
 ·unfold fQ at hr
  cases hev:aI P (ev e) o (some k) S with
  | error w=>rw [hev] at hr;cases hr
  | ok r=>
   rw [hev] at hr
   have:cA P o.op=0∨cA P o.op=1∨cA P o.op=2:=by omega
   rcases this with c | c | c
   ·obtain ⟨v',h1,_⟩:=aOl c hev
    subst h1;cases hr
    exact ⟨rfl,fun _ _=>rfl⟩
   ·obtain ⟨v',h1,_⟩:=aIk c hev
    subst h1;cases hr
    exact ⟨rfl,fun _ _=>rfl⟩
   ·obtain ⟨v',b,hk,h1,_⟩:=aOm c hev
    subst h1;cases hr
    exact ⟨rfl,fun a ha=>Tr.get_put_neB _ _ _ _ hk (ha c)⟩
theorem zV (op:Op):cA P op≤3:=by
 unfold cA
 split<;>try omega
 all_goals (split<;>try omega)
 all_goals (split<;>omega)
def tF (E:Nat→Bool) (t:Nat):List Frm→Option V→Option V
 | [],acc=>acc
 | f::l,acc=>tF E t l (if E f.i=true∧f.o.dst=some t then f.e1.get t else acc)
def eF (P:Program) (base:Nat) (E:Nat→Bool) (a:Nat):List Frm→Option Blk→Option Blk
 | [],acc=>acc
 | f::l,acc=>eF P base E a l (if E f.i=true∧(cA P f.o.op=3∨(cA P f.o.op=2∧a=base+f.i)) then f.S1.heap.get a else acc)
def iV (P:Program) (E:Nat→Bool):List Frm→Nat→Nat
 | [],acc=>acc
 | f::l,acc=>iV P E l (if E f.i=true∧cA P f.o.op=3 then f.S1.next else acc)
theorem rW (E:Nat→Bool) (t:Nat) (l l':List Frm) (acc:Option V):tF E t (l++l') acc=tF E t l' (tF E t l acc):=by
 induction l generalizing acc with
 | nil=>rfl
 | cons f l ih=>simp only [List.cons_append,tF,ih]
theorem mI (E:Nat→Bool) (a:Nat) (l l':List Frm) (acc:Option Blk):eF P base E a (l++l') acc=eF P base E a l' (eF P base E a l acc):=by
 induction l generalizing acc with
 | nil=>rfl
 | cons f l ih=>simp only [List.cons_append,eF,ih]
theorem mJ (E:Nat→Bool) (l l':List Frm) (acc:Nat):iV P E (l++l') acc=iV P E l' (iV P E l acc):=by
 induction l generalizing acc with
 | nil=>rfl
 | cons f l ih=>simp only [List.cons_append,iV,ih]
theorem oV {E E':Nat→Bool} {t:Nat} {l:List Frm} (h:∀ f∈l,f.o.dst=some t→E f.i=E' f.i) (acc:Option V):tF E t l acc=tF E' t l acc:=by
 induction l generalizing acc with
 | nil=>rfl
 | cons f l ih=>
  simp only [tF]
  rw [ih (fun g hg=>h g (List.mem_cons_of_mem _ hg))]
  by_cases hd:f.o.dst=some t
  ·rw [h f (by simp) hd]
  ·simp [hd]
theorem rX {E:Nat→Bool} {t:Nat} {l:List Frm} (h:∀ f∈l,f.o.dst=some t→E f.i=false) (acc:Option V):tF E t l acc=acc:=by
 induction l generalizing acc with
 | nil=>rfl
 | cons f l ih=>
  simp only [tF]
  rw [ih (fun g hg=>h g (List.mem_cons_of_mem _ hg))]
  by_cases hd:f.o.dst=some t
  ·rw [if_neg];rw [h f (by simp) hd];simp
  ·simp [hd]
theorem uK {E E':Nat→Bool} {a:Nat} {l:List Frm} (h:∀ f∈l,2≤cA P f.o.op→E f.i=E' f.i) (acc:Option Blk):eF P base E a l acc=eF P base E' a l acc:=by
 induction l generalizing acc with
 | nil=>rfl
 | cons f l ih=>
  simp only [eF]
  rw [ih (fun g hg=>h g (List.mem_cons_of_mem _ hg))]
  by_cases hd:2≤cA P f.o.op
  ·rw [h f (by simp) hd]
  ·rw [if_neg (by omega),if_neg (by omega)]
theorem uL {E E':Nat→Bool} {l:List Frm} (h:∀ f∈l,cA P f.o.op=3→E f.i=E' f.i) (acc:Nat):iV P E l acc=iV P E' l acc:=by
 induction l generalizing acc with
 | nil=>rfl
 | cons f l ih=>
  simp only [iV]
  rw [ih (fun g hg=>h g (List.mem_cons_of_mem _ hg))]
  by_cases hd:cA P f.o.op=3
  ·rw [h f (by simp) hd]
  ·simp [hd]
theorem nL {E:Nat→Bool} {l:List Frm} (h:∀ f∈l,cA P f.o.op=3→E f.i=false) (acc:Nat):iV P E l acc=acc:=by
 induction l generalizing acc with
 | nil=>rfl
 | cons f l ih=>
  simp only [iV]
  rw [ih (fun g hg=>h g (List.mem_cons_of_mem _ hg))]
  by_cases hd:cA P f.o.op=3
  ·rw [if_neg];rw [h f (by simp) hd];simp
  ·simp [hd]
theorem nM {E:Nat→Bool} {a:Nat} {l:List Frm} (h:∀ f∈l,cA P f.o.op=3→E f.i=false):
  (∃ f∈l,E f.i=true∧cA P f.o.op=2∧a=base+f.i)∧(∀ acc acc',eF P base E a l acc=eF P base E a l acc') ∨
  (¬ (∃ f∈l,E f.i=true∧cA P f.o.op=2∧a=base+f.i))∧∀ acc,eF P base E a l acc=acc:=by
 induction l with
 | nil=>exact .inr ⟨by simp,fun _=>rfl⟩
 | cons f l ih=>
  rcases ih (fun g hg=>h g (List.mem_cons_of_mem _ hg)) with ⟨⟨g,hg,h1⟩,h2⟩ | ⟨h1,h2⟩
  ·exact .inl ⟨⟨g,List.mem_cons_of_mem _ hg,h1⟩,fun acc acc'=>by simp only [eF];exact h2 _ _⟩
  ·by_cases hf:E f.i=true∧cA P f.o.op=2∧a=base+f.i
   ·refine .inl ⟨⟨f,by simp,hf⟩,fun acc acc'=>?_⟩
    simp only [eF,h2]
    rw [if_pos ⟨hf.1,.inr hf.2⟩,if_pos ⟨hf.1,.inr hf.2⟩]
   ·refine .inr ⟨?_,fun acc=>?_⟩
    ·rintro ⟨g,hg,hh⟩
     rcases List.mem_cons.1 hg with rfl | hg
     ·exact hf hh
     ·exact h1 ⟨g,hg,hh⟩
    ·simp only [eF,h2]
     rw [if_neg]
     rintro ⟨q1,q2 | q2⟩
     ·rw [h f (by simp) q2] at q1;cases q1
     ·exact hf ⟨q1,q2⟩
theorem DR.upto (hn:n<fZ) {l:List bB} {recs:List kL} {e e':aJ} {S S':St} {fs:List Frm} (h:DR P call n ops base l recs e S fs e' S'):
  (∀ pre f post,fs=pre++f::post→ops[f.i]?=some f.o∧cM P call n ops f.o (some (base+f.i)) f.e f.S=.ok (f.e1,f.S1)∧bF P ops f.recs f.S1 f.re=true ∧
   (∀ t,tF (fun _=>true) t pre (e.get t)=f.e.get t) ∧
   (∀ E:Nat→Bool,(∀ g∈pre,2≤cA P g.o.op→E g.i=true)→(∀ a,eF P base E a pre (S.heap.get a)=f.S.heap.get a)∧iV P E pre S.next=f.S.next)) ∧
  (∀ t,tF (fun _=>true) t fs (e.get t)=e'.get t) ∧
  (∀ E:Nat→Bool,(∀ g∈fs,2≤cA P g.o.op→E g.i=true)→(∀ a,eF P base E a fs (S.heap.get a)=S'.heap.get a)∧iV P E fs S.next=S'.next) ∧
  (l=fs.map fun f=>(f.i,f.re)):=by
 induction h with
 | nil recs e S=>exact ⟨fun pre f post h=>by simp at h,fun _=>rfl,fun _ _=>⟨fun _=>rfl,rfl⟩,rfl⟩
 | cons i re l recs e S e1 S1 o fs e' S' ho hs ha t ih=>
  obtain ⟨ih1,ih2,ih3,ih4⟩:=ih
  have hsv:∀ t,(if o.dst=some t then e1.get t else e.get t)=e1.get t:=by
   intro t
   by_cases hd:o.dst=some t
   ·simp [hd]
   ·simp only [hd,if_false];exact (aEy hn hs hd).symm
  have hhp:∀ E:Nat→Bool,(2≤cA P o.op→E i=true)→
    (∀ a,(if E i=true∧(cA P o.op=3∨(cA P o.op=2∧a=base+i)) then S1.heap.get a else S.heap.get a)=S1.heap.get a) ∧
    (if E i=true∧cA P o.op=3 then S1.next else S.next)=S1.next:=by
   intro E hE
   by_cases h3:cA P o.op=3
   ·have:=hE (by omega)
    exact ⟨fun a=>by rw [if_pos ⟨this,.inl h3⟩],by rw [if_pos ⟨this,h3⟩]⟩
   ·obtain ⟨m1,m2⟩:=aEz hs h3 (zV _)
    refine ⟨fun a=>?_,by rw [if_neg (by simp [h3]),m1]⟩
    split
    ·rfl
    ·rename_i hne
     refine (m2 a fun h2 e0=>hne ⟨hE (by omega),.inr ⟨h2,e0⟩⟩).symm
  refine ⟨fun pre f post hsplit=>?_,fun t=>?_,fun E hE=>?_,by simp [ih4]⟩
  ·cases pre with
   | nil=>
    simp only [List.nil_append,List.cons.injEq] at hsplit
    obtain ⟨rfl,rfl⟩:=hsplit
    exact ⟨ho,hs,ha,fun _=>rfl,fun _ _=>⟨fun _=>rfl,rfl⟩⟩
   | cons g pre=>
    simp only [List.cons_append,List.cons.injEq] at hsplit
    obtain ⟨rfl,hsplit⟩:=hsplit
    obtain ⟨q1,q2,q3,q4,q5⟩:=ih1 pre f post hsplit
    refine ⟨q1,q2,q3,fun t=>?_,fun E hE=>?_⟩
    ·simp only [tF,true_and,hsv];exact q4 t
    ·obtain ⟨r1,r2⟩:=q5 E (fun g hg=>hE g (List.mem_cons_of_mem _ hg))
     obtain ⟨s1,s2⟩:=hhp E (fun h2=>hE _ (List.mem_cons_self ..) h2)
     refine ⟨fun a=>?_,?_⟩
     ·simp only [eF];rw [s1];exact r1 a
     ·simp only [iV];rw [s2];exact r2
  ·simp only [tF,true_and,hsv];exact ih2 t
  ·obtain ⟨r1,r2⟩:=ih3 E (fun g hg=>hE g (List.mem_cons_of_mem _ hg))
   obtain ⟨s1,s2⟩:=hhp E (fun h2=>hE _ (List.mem_cons_self ..) h2)
   refine ⟨fun a=>?_,?_⟩
   ·simp only [eF];rw [s1];exact r1 a
   ·simp only [iV];rw [s2];exact r2
theorem DR.reserved (hc:CallOK P call) (hn:n<fZ) {l:List bB} {recs:List kL} {e e':aJ} {S S':St} {fs:List Frm} (h:DR P call n ops base l recs e S fs e' S'):
  ∀ {F:Nat→Option Obj} {G:Gh} {W:World} {tmps:Array Value},cO F G S W.heap→EnvR G n e tmps→(fs.map (·.i)).Nodup→(∀ f∈fs,base+f.i<S.next∧G.loc (base+f.i)=none∧G.ml (base+f.i)=none)→
   (∀ pre f post,fs=pre++f::post→∀ g∈f::post,f.S.heap.get (base+g.i)=none∧(g∈post→f.S1.heap.get (base+g.i)=none)) ∧
   (∀ a,a<S.next→S.heap.get a=none→(∀ f∈fs,a≠base+f.i)→S'.heap.get a=none)∧S.next≤S'.next:=by
 induction h with
 | nil recs e S=>intro F G W tmps _ _ _ _;exact ⟨fun pre f post h=>by simp at h,fun _ _ h _=>h,Nat.le_refl _⟩
 | cons i re l recs e S e1 S1 o fs e' S' ho hs ha t ih=>
  intro F G W tmps R he hnd hres
  obtain ⟨hi,hnd'⟩:=List.nodup_cons.1 hnd
  obtain ⟨r1,r2,r3⟩:=hres _ (List.mem_cons_self ..)
  obtain ⟨G1,W1,tmps1,hsim,he1⟩:=xY hc ho hs R (fun k hk=>by cases hk;exact ⟨r1,r2,r3⟩) he hn
  have dead:∀ k,G.loc k=none→G.ml k=none→S.heap.get k=none:=by
   intro k h1 h2
   cases hk:S.heap.get k with
   | none=>rfl
   | some b=>
    obtain ⟨j,hj⟩:=(R.blk k b hk).next
    rcases hj with ⟨L,hL,_⟩ | hj
    ·rw [h1] at hL;cases hL
    ·rw [h2] at hj;cases hj
  have hne:∀ g∈fs,some (base+i)≠some (base+g.i):=by
   intro g hg e0
   have:i=g.i:=by have:=Option.some.inj e0;omega
   exact hi (by rw [this];exact List.mem_map.2 ⟨g,hg,rfl⟩)
  have hres1:∀ g∈fs,base+g.i<S1.next∧G1.loc (base+g.i)=none∧G1.ml (base+g.i)=none:=by
   intro g hg
   obtain ⟨s1,s2,s3⟩:=hres g (List.mem_cons_of_mem _ hg)
   obtain ⟨k1,k2⟩:=hsim.keep _ (dead _ s2 s3) s1 (hne g hg)
   exact ⟨Nat.lt_of_lt_of_le s1 hsim.next,k1.trans s2,k2.trans s3⟩
  obtain ⟨ih1,ih2,ih3⟩:=ih hsim.rel he1 hnd' hres1
  refine ⟨fun pre f post hsplit g hg=>?_,fun a h1 h2 h3=>?_,Nat.le_trans hsim.next ih3⟩
  ·cases pre with
   | nil=>
    simp only [List.nil_append,List.cons.injEq] at hsplit
    obtain ⟨rfl,rfl⟩:=hsplit
    obtain ⟨s1,s2,s3⟩:=hres g hg
    exact ⟨dead _ s2 s3,fun hg'=>hsim.dead _ (dead _ s2 s3) s1 (hne g hg')⟩
   | cons g' pre=>
    simp only [List.cons_append,List.cons.injEq] at hsplit
    obtain ⟨rfl,hsplit⟩:=hsplit
    exact ih1 pre f post hsplit g hg
  ·refine ih2 a (Nat.lt_of_lt_of_le h1 hsim.next) (hsim.dead a h2 h1 ?_) (fun f hf=>h3 f (List.mem_cons_of_mem _ hf))
   intro e0
   exact h3 _ (List.mem_cons_self ..) (Option.some.inj e0).symm
theorem DR.record {l:List bB} {recs:List kL} {e e':aJ} {S S':St} {fs:List Frm} (h:DR P call n ops base l recs e S fs e' S'):
  ∀ pre f post,fs=pre++f::post→∀ d v,cA P f.o.op=1→wanted ops f.o f.e=.ok true→f.o.dst=some d→f.e1.get d=some v→(∀ g∈post,g.i≠f.i)→
   ∀ p1 g p2,post=p1++g::p2→iI f.i g.recs=some (f.e,v):=by
 induction h with
 | nil recs e S=>intro pre f post h;simp at h
 | cons i re l recs e S e1 S1 o fs e' S' ho hs ha t ih=>
  intro pre f post hsplit d v hc hw hd hv hne p1 g p2 hp
  cases pre with
  | cons g' pre=>
   simp only [List.cons_append,List.cons.injEq] at hsplit
   exact ih pre f post hsplit.2 d v hc hw hd hv hne p1 g p2 hp
  | nil=>
   simp only [List.nil_append,List.cons.injEq] at hsplit
   obtain ⟨rfl,rfl⟩:=hsplit
   simp only at hc hw hd hv hne
   have hfirst:iI i (kU P ops i o e e1 recs)=some (e,v):=by
    unfold kU
    rw [hc,hw,hd]
    simp [rP,hv,iI]
   clear ih hv hc hw hd ho
   generalize kU P ops i o e e1 recs=rs at t hfirst
   clear hs ha
   subst hp
   generalize hq:p1++g::p2=q at t
   induction t generalizing p1 with
   | nil recs e S=>simp at hq
   | cons i' re' l' recs' e2 S2 e3 S3 o' fs' e4 S4 ho' hs' ha' t' ih'=>
    cases p1 with
    | nil=>
     simp only [List.nil_append,List.cons.injEq] at hq
     obtain ⟨rfl,_⟩:=hq
     exact hfirst
    | cons g' p1=>
     simp only [List.cons_append,List.cons.injEq] at hq
     obtain ⟨rfl,hq⟩:=hq
     have hne2:∀ x∈p1++g::p2,x.i≠i:=fun x hx=>hne x (by simp only [List.cons_append,List.mem_cons];exact .inr hx)
     refine ih' p1 ?_ hne2 hq
     have hne':i≠i':=fun e0=>hne _ (by simp only [List.cons_append,List.mem_cons];exact .inl rfl) e0.symm
     unfold kU
     rw [cond_eq_ite]
     split
     ·split
      ·exact hfirst
      ·split
       ·simp only [iI,cond_eq_ite]
        rw [if_neg (by simpa using hne')]
        exact hfirst
       ·exact hfirst
     ·exact hfirst
end
end
section
section
variable {P:Program} {call:Call} {n:Nat} {ops:Array Oper} {base:Nat}
structure PlanF (P:Program) (ops:Array Oper) (b:Array Nat) (fs:List Frm):Prop where
 nodup:(fs.map (·.i)).Nodup
 all:∀ j,j<ops.size→∃ f∈fs,f.i=j
 edge:∀ pre f post,fs=pre++f::post→∀ e∈f.o.after,Region.binds .any e=true→∃ g∈pre,g.i=e.on
 anc:∀ pre f post,fs=pre++f::post→∀ j,j<ops.size→oP (b.getD f.i 0) j=true→∃ e∈f.o.after,Region.binds .any e=true∧(e.on=j∨oP (b.getD e.on 0) j=true)
 pair:∀ pre f post,fs=pre++f::post→∀ g∈pre,oP (b.getD f.i 0) g.i=true ∨
  (rQ ops f.o g.o=true∧¬ (cA P g.o.op=3∧cA P f.o.op=3)∧¬ (cA P g.o.op=2∧cA P f.o.op=3)∧¬ (cA P g.o.op=3∧cA P f.o.op=1)∧¬ (cA P g.o.op=2∧cA P f.o.op=1) ∧
   (cA P g.o.op=1→cA P f.o.op=3→g.i∈f.re))
 rd:∀ f∈fs,cA P f.o.op=1→∃ d,f.o.dst=some d
theorem lW {b:Array Nat}:∀ {l1 l2:List bB} {done:List Nat} {i:Nat} {re:List Nat},lJ P ops b done (l1++(i,re)::l2)=true→vL P ops b ((l1.map (·.1)).reverse++done) i re=true
 | [],l2,done,i,re,h=>by
  simp only [List.nil_append,lJ,Bool.and_eq_true] at h
  simpa using h.1
 | (j,rj)::l1,l2,done,i,re,h=>by
  simp only [List.cons_append,lJ,Bool.and_eq_true] at h
  have:=lW h.2
  simpa using this
theorem aF0 {b:Array Nat} {fs:List Frm} (hops:∀ f∈fs,ops[f.i]?=some f.o) (hall:∀ j,j<ops.size→∃ f∈fs,f.i=j)
  (h:lJ P ops b [] (fs.map fun f=>(f.i,f.re))=true):PlanF P ops b fs:=by
 have key:∀ pre f post,fs=pre++f::post→vL P ops b ((pre.map (·.i)).reverse) f.i f.re=true:=by
  intro pre f post hs
  rw [hs] at h
  simp only [List.map_append,List.map_cons] at h
  have:=lW h
  simpa [List.map_map,Function.comp_def] using this
 have facts:∀ pre f post,fs=pre++f::post→
   (∀ g∈pre,g.i≠f.i)∧(cA P f.o.op=1→∃ d,f.o.dst=some d)∧(∀ e∈f.o.after,Region.binds .any e=true→∃ g∈pre,g.i=e.on) ∧
   (∀ j,j<ops.size→oP (b.getD f.i 0) j=true→∃ e∈f.o.after,Region.binds .any e=true∧(e.on=j∨oP (b.getD e.on 0) j=true)) ∧
   (∀ g∈pre,oP (b.getD f.i 0) g.i=true ∨
    (rQ ops f.o g.o=true∧¬ (cA P g.o.op=3∧cA P f.o.op=3)∧¬ (cA P g.o.op=2∧cA P f.o.op=3)∧¬ (cA P g.o.op=3∧cA P f.o.op=1)∧¬ (cA P g.o.op=2∧cA P f.o.op=1) ∧
     (cA P g.o.op=1→cA P f.o.op=3→g.i∈f.re))):=by
  intro pre f post hs
  have hk:=key pre f post hs
  unfold vL at hk
  rw [hops f (by rw [hs];simp)] at hk
  simp only [Bool.and_eq_true] at hk
  obtain ⟨⟨⟨⟨k1,k2⟩,k3⟩,k4⟩,k5⟩:=hk
  refine ⟨fun g hg e0=>?_,fun hc=>?_,fun e he hb=>?_,fun j hj hb=>?_,fun g hg=>?_⟩
  ·simp only [Bool.not_eq_true',List.contains_eq_mem,decide_eq_false_iff_not,List.mem_reverse,List.mem_map] at k1
   exact k1 ⟨g,hg,e0⟩
  ·rw [hc] at k2
   have:f.o.dst.isSome=true:=by simpa using k2
   exact Option.isSome_iff_exists.1 this
  ·have:=List.all_eq_true.1 k3 e (by simpa using he)
   rw [hb] at this
   simp at this
   exact this
  ·have:=List.all_eq_true.1 k4 j (List.mem_range.2 hj)
   rw [hb] at this
   simp only [Bool.not_true,Bool.false_or,Bool.and_eq_true,List.any_eq_true,Bool.or_eq_true,beq_iff_eq] at this
   obtain ⟨_,e,he,hbe,hor⟩:=this
   exact ⟨e,by simpa using he,hbe,hor⟩
  ·have:=List.all_eq_true.1 k5 g.i (by simp;exact ⟨g,hg,rfl⟩)
   rw [hops g (by rw [hs];simp [hg])] at this
   simp only [Bool.or_eq_true,Bool.and_eq_true] at this
   rcases this with h1 | ⟨h1,h2⟩
   ·exact .inl h1
   ·refine .inr ⟨h1,?_⟩
    clear h1 k1 k2 k3 k4 k5
    generalize cA P g.o.op=x at h2
    generalize cA P f.o.op=y at h2
    split at h2
    ·cases h2
    ·cases h2
    ·cases h2
    ·cases h2
    ·refine ⟨by omega,by omega,by omega,by omega,fun _ _=>by simpa using h2⟩
    ·rename_i q1 q2 q3 q4 q5
     refine ⟨fun q=>q1 q.1 q.2,fun q=>q2 q.1 q.2,fun q=>q3 q.1 q.2,fun q=>q4 q.1 q.2,fun h5 h6=>(q5 h5 h6).elim⟩
 refine ⟨?_,hall,fun pre f post hs=>(facts pre f post hs).2.2.1,fun pre f post hs=>(facts pre f post hs).2.2.2.1,fun pre f post hs=>(facts pre f post hs).2.2.2.2,fun f hf=>?_⟩
 ·have:∀ (l pre:List Frm),fs=pre++l→(l.map (·.i)).Nodup:=by
   intro l
   induction l with
   | nil=>intro pre _;simp
   | cons f l ih=>
    intro pre hs
    simp only [List.map_cons,List.nodup_cons]
    refine ⟨fun hm=>?_,ih (pre++[f]) (by simpa using hs)⟩
    obtain ⟨g,hg,e0⟩:=List.mem_map.1 hm
    obtain ⟨l1,l2,rfl⟩:=List.append_of_mem hg
    exact (facts (pre++f::l1) g l2 (by simpa using hs)).1 f (by simp) e0.symm
  exact this fs [] rfl
 ·obtain ⟨l1,l2,hs⟩:=List.append_of_mem hf
  exact (facts l1 f l2 hs).2.1
theorem kV {x y:Oper} (h:rQ ops x y=true):
  (∀ d,x.dst=some d→d ∉ y.looksAt ops)∧(∀ d,x.dst=some d→y.dst≠some d)∧(∀ d,y.dst=some d→d ∉ x.looksAt ops):=
 Oper.apart_spec (ops:=ops) h
theorem aB3 {E:Nat→Bool} {a:Nat} {b:Blk}:∀ {l:List Frm},eF P base E a l none=some b→∀ acc,eF P base E a l acc=some b
 | [],h,_=>by simp [eF] at h
 | f::l,h,acc=>by
  simp only [eF] at h ⊢
  split
  ·rename_i hq;rw [if_pos hq] at h;exact h
  ·rename_i hq;rw [if_neg hq] at h;exact aB3 h acc
theorem lX {G:Gh} {o:Oper} {e:aJ} {tmps:Array Value} {b:Bool} (h:wanted ops o e=.ok b)
  (he:∀ t∈o.looksAt ops,∀ v,e.get t=some v→∃ w,tmps[t]?=some w∧VR G v w):Region.wanted o (yielded ops tmps)=b:=by
 unfold wanted at h
 unfold Region.wanted
 split at h
 ·rename_i hg;cases h;simp [hg]
 ·rename_i j want hg
  simp only [hg]
  unfold yielded
  split at h
  ·rename_i hj;cases h;simp [hj]
  ·rename_i oj hj
   split at h
   ·rename_i hd;cases h;simp [hj,hd]
   ·rename_i d hd
    have hl:d∈o.looksAt ops:=by
     unfold Oper.looksAt
     refine List.mem_append_right _ ?_
     simp [hg,hj,hd]
    split at h
    ·rename_i b' hb
     cases h
     obtain ⟨w,w1,w2⟩:=he d hl _ hb
     cases w2
     simp only [hj,hd,Option.bind_some,w1]
     cases b'<;>cases want<;>rfl
    ·rename_i v hne hb
     cases h
     obtain ⟨w,w1,w2⟩:=he d hl _ hb
     simp only [hj,hd,Option.bind_some,w1]
     cases w2<;>first | rfl | (exact absurd rfl (hne _))
    ·cases h
def only (ops:Array Oper) (o:Oper) (e:aJ):Operand→Option V
 | .tmp t=>if t∈o.looksAt ops then e.get t else none
 | x=>ev e x
theorem zW (o:Oper) (e:aJ):∀ x∈o.op.operands,ev e x=only ops o e x:=by
 intro x hx
 cases x with
 | tmp t=>
  have:t∈o.looksAt ops:=by
   unfold Oper.looksAt
   refine List.mem_append_left _ (List.mem_filterMap.2 ⟨.tmp t,by simpa using hx,rfl⟩)
  simp [only,ev,this]
 | _=>rfl
theorem zX {G:Gh} {o:Oper} {e:aJ} {a:Act} (he:∀ t∈o.looksAt ops,∀ v,e.get t=some v→∃ w,a.tmps[t]?=some w∧VR G v w):
  ∀ x v,only ops o e x=some v→VR G v (a.eval x):=by
 intro x v hx
 cases x with
 | tmp t=>
  simp only [only] at hx
  split at hx
  ·rename_i ht
   obtain ⟨w,w1,w2⟩:=he t ht v hx
   simp only [Act.eval]
   rw [show a.tmps.getD t undef=w by simp [w1]]
   exact w2
  ·cases hx
 | const c=>exact cN G hx
 | global g=>cases hx
 | func f=>cases hx;exact .func f [] [] #[] #[] .nil .nil
mutual
theorem vX:∀ {a b:V},dC a b=true→a=b
 | .bool a,.bool b,h=>by simp [dC] at h;rw [h]
 | .int j a,.int k b,h=>by simp [dC] at h;rw [jV h.1,h.2]
 | .str a,.str b,h=>by simp only [dC,bR] at h;rw [eq_of_beq h]
 | .nilp,.nilp,_=>rfl
 | .ptr a b c d,.ptr a' b' c' d',h=>by simp [dC] at h;obtain ⟨⟨⟨rfl,rfl⟩,rfl⟩,rfl⟩:=h;rfl
 | .iptr a b,.iptr a' b',h=>by simp [dC] at h;rw [beqVs_eq h.1,h.2]
 | .nils,.nils,_=>rfl
 | .sl a b c d f,.sl a' b' c' d' f',h=>by simp [dC] at h;obtain ⟨⟨⟨⟨rfl,rfl⟩,rfl⟩,rfl⟩,rfl⟩:=h;rfl
 | .imm a,.imm b,h=>by simp only [dC] at h;rw [beqVss_eq h]
 | .agg a,.agg b,h=>by simp only [dC] at h;rw [beqVs_eq h]
 | .tup a,.tup b,h=>by simp only [dC] at h;rw [beqVs_eq h]
 | .nili,.nili,_=>rfl
 | .iface t a,.iface u b,h=>by simp [dC] at h;rw [h.1,vX h.2]
 | .nilf,.nilf,_=>rfl
 | .func f a b,.func g c d,h=>by simp [dC] at h;rw [h.1.1,beqVs_eq h.1.2,beqVs_eq h.2]
 | .nilm,.nilm,_=>rfl
 | .mp a,.mp b,h=>by simp [dC] at h;rw [h]
 | .res a b,.res c d,h=>by simp [dC] at h;rw [h.1,h.2]
theorem beqVs_eq:∀ {a b:List V},beqVs a b=true→a=b
 | [],[],_=>rfl
 | a::x,b::y,h=>by simp only [beqVs,Bool.and_eq_true] at h;rw [vX h.1,beqVs_eq h.2]
theorem beqVss_eq:∀ {a b:List (List V)},beqVss a b=true→a=b
 | [],[],_=>rfl
 | a::x,b::y,h=>by simp only [beqVss,Bool.and_eq_true] at h;rw [beqVs_eq h.1,beqVss_eq h.2]
end
theorem xZ {ρ ρ':Operand→Option V} {o:Oper} {fr:Option Nat} {S:St} (h:∀ x∈o.op.operands,ρ x=ρ' x):fQ P call ρ o fr S=fQ P call ρ' o fr S:=by
 unfold fQ
 rw [vW h]
end
end
section
section
variable {P:Program} {call:Call} {n:Nat} {ops:Array Oper}
structure Inv (P:Program) (n:Nat) (ops:Array Oper) (F:Nat→Option Obj) (G:Gh) (S:St) (W:World) (e:aJ) (fs:List Frm) (ds:List Deferred) (E:Nat→Bool) (a:Act) (W':World) (G':Gh):Prop where
 le:G.le G'
 rel:RelH F G' (iV P E fs (S.next+ops.size)) (fun x=>eF P S.next E x fs (S.heap.get x)) W'.heap
 same:Same W W'
 res:∀ f∈fs,E f.i=false→G'.loc (S.next+f.i)=none∧G'.ml (S.next+f.i)=none
 size:a.tmps.size=n
 env:∀ t v,tF E t fs (e.get t)=some v→∃ w,a.tmps[t]?=some w∧VR G' v w
 defers:a.defers=ds
 keep:∀ k,k<S.next→S.heap.get k=none→G'.loc k=G.loc k∧G'.ml k=G.ml k
 prn:∀ i o,G'.pr i=some o→G.pr i=some o∨F i=none
 big:S.next+ops.size≤iV P E fs (S.next+ops.size)
 dead:∀ k,k<S.next→S.heap.get k=none→eF P S.next E k fs (S.heap.get k)=none
set_option maxHeartbeats 2000000 in
theorem yA (hc:CallOK P call) (hn:n<fZ) {F:Nat→Option Obj} {G:Gh} {S:St} {W:World} {e:aJ} {tmps0:Array Value} (R0:cO F G S W.heap) (he0:EnvR G n e tmps0)
  {steps:List bB} {e':aJ} {S':St} {fs:List Frm} (hD:DR P call n ops S.next steps [] e ⟨S.next+ops.size,S.heap⟩ fs e' S') {b:Array Nat} (hp:PlanF P ops b fs) {ds:List Deferred}
  {E:Nat→Bool} {a:Act} {W':World} {G':Gh} (I:Inv P n ops F G S W e fs ds E a W' G') (_hE:∀ j,E j=true→j<ops.size)
  (hdown:∀ f∈fs,E f.i=true→∀ j,j<ops.size→oP (b.getD f.i 0) j=true→E j=true)
  {i:Nat} {o:Oper} (ho:ops[i]?=some o) (hi:E i=false) (hready:∀ x∈o.after,Region.binds .any x=true→E x.on=true)
  {Q:Exit→Act→World→Prop} {K:Act→World→Prop} (hK:∀ a2 W2 G2,Inv P n ops F G S W e fs ds (fun j=>if j=i then true else E j) a2 W2 G2→K a2 W2):
  wpOp P ops Q i K a W'∧∀ j,j<ops.size→oP (b.getD i 0) j=true→E j=true:=by
 obtain ⟨hup,_,_,_⟩:=hD.upto hn
 have hisz:i<ops.size:=(Array.getElem?_eq_some_iff.1 ho).1
 obtain ⟨f,hf,hfi⟩:=hp.all i hisz
 obtain ⟨pre,post,hs⟩:=List.append_of_mem hf
 subst hfi
 obtain ⟨u1,u2,u3,u4,u5⟩:=hup pre f post hs
 rw [ho] at u1;cases u1
 have hfsz:∀ g∈fs,g.i<ops.size:=by
  intro g hg
  obtain ⟨l1,l2,h12⟩:=List.append_of_mem hg
  exact (Array.getElem?_eq_some_iff.1 (hup l1 g l2 h12).1).1
 have hlt:∀ g∈fs,S.next+g.i<S.next+ops.size:=fun g hg=>by have:=hfsz g hg;omega
 have hfresh:∀ k,S.next≤k→G.loc k=none∧G.ml k=none:=R0.fresh
 have R0':cO F G ⟨S.next+ops.size,S.heap⟩ W.heap:=
  ⟨fun x hx=>R0.fresh x (by have:S.next+ops.size≤x:=hx;omega),R0.sep,R0.blk,R0.inj,R0.fr,R0.pr,R0.own,R0.lt,R0.small⟩
 obtain ⟨hres,_,_⟩:=hD.reserved hc hn R0' he0 hp.nodup (fun g hg=>⟨hlt g hg,(hfresh _ (by omega)).1,(hfresh _ (by omega)).2⟩)
 have hanc:∀ j,j<ops.size→oP (b.getD f.i 0) j=true→E j=true:=by
  intro j hj hb
  obtain ⟨x,hx,hbx,hor⟩:=hp.anc pre f post hs j hj hb
  have hEx:=hready x hx hbx
  rcases hor with rfl | hor
  ·exact hEx
  ·obtain ⟨g,hg,hge⟩:=hp.edge pre f post hs x hx hbx
   have hgf:g∈fs:=by rw [hs];exact List.mem_append_left _ hg
   exact hdown g hgf (by rw [hge];exact hEx) j hj (by rw [hge];exact hor)
 refine ⟨?_,hanc⟩
 have hnd:=hp.nodup
 have hpre_ne:∀ g∈pre,g.i≠f.i:=by
  intro g hg e0
  rw [hs] at hnd
  simp only [List.map_append,List.map_cons] at hnd
  exact (List.nodup_append.1 hnd).2.2 g.i (List.mem_map.2 ⟨g,hg,rfl⟩) f.i (by simp) e0
 have hpost_ne:∀ g∈post,g.i≠f.i:=by
  intro g hg e0
  rw [hs] at hnd
  simp only [List.map_append,List.map_cons] at hnd
  have:=(List.nodup_append.1 hnd).2.1
  exact (List.nodup_cons.1 this).1 (List.mem_map.2 ⟨g,hg,e0⟩)
 have hpost:∀ g∈post,E g.i=true→∃ p1 p2,post=p1++g::p2∧fs=(pre++f::p1)++g::p2 ∧
   rQ ops g.o f.o=true∧¬ (cA P f.o.op=3∧cA P g.o.op=3)∧¬ (cA P f.o.op=2∧cA P g.o.op=3)∧(cA P f.o.op=1→cA P g.o.op=3→f.i∈g.re):=by
  intro g hg hEg
  obtain ⟨p1,p2,rfl⟩:=List.append_of_mem hg
  have hsg:fs=(pre++f::p1)++g::p2:=by rw [hs];simp
  refine ⟨p1,p2,rfl,hsg,?_⟩
  rcases hp.pair _ g p2 hsg f (by simp) with h1 | ⟨h1,h2,h3,_,_,h6⟩
  ·have:=hdown g (by rw [hs];simp) hEg f.i hisz h1
   rw [hi] at this;cases this
  ·exact ⟨h1,h2,h3,h6⟩
 have hpre_w:∀ t∈f.o.looksAt ops,∀ g∈pre,g.o.dst=some t→E g.i=true:=by
  intro t ht g hg hd
  rcases hp.pair pre f post hs g hg with h1 | ⟨h1,_⟩
  ·exact hanc g.i (hfsz g (by rw [hs];exact List.mem_append_left _ hg)) h1
  ·exact absurd ht ((kV h1).2.2 t hd)
 have hpost_w:∀ t∈f.o.looksAt ops,∀ g∈post,g.o.dst=some t→E g.i=false:=by
  intro t ht g hg hd
  cases hEg:E g.i with
  | false=>rfl
  | true=>
   obtain ⟨_,_,_,_,h1,_⟩:=hpost g hg hEg
   exact absurd ht ((kV h1).1 t hd)
 have hslot:∀ t∈f.o.looksAt ops,tF E t fs (e.get t)=f.e.get t:=by
  intro t ht
  rw [hs,rW]
  simp only [tF,hi,Bool.false_eq_true,false_and,if_false]
  rw [rX (hpost_w t ht),oV (E':=fun _=>true) (fun g hg hd=>hpre_w t ht g hg hd)]
  exact u4 t
 have henv:∀ t∈f.o.looksAt ops,∀ v,f.e.get t=some v→∃ w,a.tmps[t]?=some w∧VR G' v w:=fun t ht v hv=>I.env t v (by rw [hslot t ht];exact hv)
 let E':Nat→Bool:=fun j=>if j=f.i then true else E j
 have hE'f:E' f.i=true:=by simp [E']
 have hE'ne:∀ g:Frm,g.i≠f.i→E' g.i=E g.i:=fun g hg=>by simp [E',hg]
 have hEpre:∀ x acc,eF P S.next E' x pre acc=eF P S.next E x pre acc:=fun x acc=>uK (fun g hg _=>hE'ne g (hpre_ne g hg)) acc
 have hEpost:∀ x acc,eF P S.next E' x post acc=eF P S.next E x post acc:=fun x acc=>uK (fun g hg _=>hE'ne g (hpost_ne g hg)) acc
 have hhp':∀ x,eF P S.next E' x fs (S.heap.get x)=
   eF P S.next E x post (if cA P f.o.op=3∨(cA P f.o.op=2∧x=S.next+f.i) then f.S1.heap.get x else eF P S.next E x pre (S.heap.get x)):=by
  intro x
  rw [hs,mI]
  simp only [eF,hE'f,true_and]
  rw [hEpost,hEpre]
 have hhp:∀ x,eF P S.next E x fs (S.heap.get x)=eF P S.next E x post (eF P S.next E x pre (S.heap.get x)):=by
  intro x
  rw [hs,mI]
  simp only [eF,hi,Bool.false_eq_true,false_and,if_false]
 have hnx':iV P E' fs (S.next+ops.size)=iV P E post (if cA P f.o.op=3 then f.S1.next else iV P E pre (S.next+ops.size)):=by
  rw [hs,mJ]
  simp only [iV,hE'f,true_and]
  rw [uL (E:=E') (E':=E) (fun g hg _=>hE'ne g (hpost_ne g hg)),uL (E:=E') (E':=E) (fun g hg _=>hE'ne g (hpre_ne g hg))]
 have hnx:iV P E fs (S.next+ops.size)=iV P E post (iV P E pre (S.next+ops.size)):=by
  rw [hs,mJ]
  simp only [iV,hi,Bool.false_eq_true,false_and,if_false]
 have hnewenv:∀ (v:V) (w:Value) (G2:Gh),G'.le G2→cR n f.e f.o.dst v=.ok f.e1→VR G2 v w→
   (a.put f.o.dst w).tmps.size=n∧∀ t u,tF E' t fs (e.get t)=some u→∃ w',(a.put f.o.dst w).tmps[t]?=some w'∧VR G2 u w':=by
  intro v w G2 hle hput hv
  refine ⟨by cases hd:f.o.dst<;>simp [Act.put,I.size],fun t u hu=>?_⟩
  by_cases hd:f.o.dst=some t
  ·have hpw:∀ g∈post,g.o.dst=some t→E' g.i=false:=by
    intro g hg hgd
    rw [hE'ne g (hpost_ne g hg)]
    cases hEg:E g.i with
    | false=>rfl
    | true=>
     obtain ⟨_,_,_,_,h1,_⟩:=hpost g hg hEg
     exact absurd hd ((kV h1).2.1 t hgd)
   rw [hs,rW] at hu
   simp only [tF,hE'f,hd,true_and,if_true] at hu
   rw [rX hpw,aB2 hn hput hd] at hu
   cases hu
   have htn:t<n:=by
    unfold cR at hput
    rw [hd] at hput
    simp only [cond_eq_ite] at hput
    split at hput
    ·rename_i hq;simpa using hq
    ·cases hput
   exact ⟨w,by simp only [Act.put,hd];rw [Array.getElem?_setIfInBounds_self_of_lt (by rw [I.size];exact htn)],hv⟩
  ·have:tF E' t fs (e.get t)=tF E t fs (e.get t):=oV (fun g hg hgd=>hE'ne g (fun e0=>by
    have:g=f:=by
     rw [hs] at hg
     rcases List.mem_append.1 hg with h1 | h1
     ·exact absurd e0 (hpre_ne g h1)
     ·rcases List.mem_cons.1 h1 with rfl | h1
      ·rfl
      ·exact absurd e0 (hpost_ne g h1)
    subst this
    exact hd hgd)) _
   rw [this] at hu
   obtain ⟨w',w1,w2⟩:=I.env t u hu
   refine ⟨w',?_,w2.mono hle⟩
   cases hfd:f.o.dst with
   | none=>simpa [Act.put,hfd] using w1
   | some d=>
    simp only [Act.put]
    rw [Array.getElem?_setIfInBounds_ne (fun e0=>hd (by rw [hfd,e0]))]
    exact w1
 have hdefers:∀ w,(a.put f.o.dst w).defers=ds:=by
  intro w
  cases hd:f.o.dst<;>simp [Act.put,I.defers]
 have hres':∀ G2:Gh,(∀ k,eF P S.next E k fs (S.heap.get k)=none→k<iV P E fs (S.next+ops.size)→some (S.next+f.i)≠some k→(G2.loc k=G'.loc k∧G2.ml k=G'.ml k))→
   (∀ g∈fs,E' g.i=false→G2.loc (S.next+g.i)=none∧G2.ml (S.next+g.i)=none)∧(∀ k,k<S.next→S.heap.get k=none→G2.loc k=G.loc k∧G2.ml k=G.ml k):=by
  intro G2 hkeep
  have hge:=I.big
  refine ⟨fun g hg hEg=>?_,fun k hk hk0=>?_⟩
  ·have hgf:g.i≠f.i:=fun e0=>by rw [e0,hE'f] at hEg;cases hEg
   rw [hE'ne g hgf] at hEg
   obtain ⟨r1,r2⟩:=I.res g hg hEg
   have hnone:eF P S.next E (S.next+g.i) fs (S.heap.get (S.next+g.i))=none:=by
    cases hq:eF P S.next E (S.next+g.i) fs (S.heap.get (S.next+g.i)) with
    | none=>rfl
    | some bl=>
     obtain ⟨j,hj⟩:=(I.rel.blk _ bl hq).next
     rcases hj with ⟨L,hL,_⟩ | hj
     ·rw [r1] at hL;cases hL
     ·rw [r2] at hj;cases hj
   obtain ⟨k1,k2⟩:=hkeep _ hnone (by have:=hlt g hg;omega) (by intro e0;have:=Option.some.inj e0;omega)
   exact ⟨k1.trans r1,k2.trans r2⟩
  ·obtain ⟨k1,k2⟩:=hkeep k (I.dead k hk hk0) (by omega) (by intro e0;have:=Option.some.inj e0;omega)
   obtain ⟨l1,l2⟩:=I.keep k hk hk0
   exact ⟨k1.trans l1,k2.trans l2⟩
 have hfree:eF P S.next E (S.next+f.i) fs (S.heap.get (S.next+f.i))=none:=by
  obtain ⟨r1,r2⟩:=I.res f hf hi
  cases hq:eF P S.next E (S.next+f.i) fs (S.heap.get (S.next+f.i)) with
  | none=>rfl
  | some bl=>
   obtain ⟨j,hj⟩:=(I.rel.blk _ bl hq).next
   rcases hj with ⟨L,hL,_⟩ | hj
   ·rw [r1] at hL;cases hL
   ·rw [r2] at hj;cases hj
 have finish:∀ (v:V) (Sr S1r:St),cR n f.e f.o.dst v=.ok f.e1→wanted ops f.o f.e=.ok true→fQ P call (ev f.e) f.o (some (S.next+f.i)) Sr=.ok (v,S1r)→
   Sr.next=iV P E fs (S.next+ops.size)→(∀ x bl,Sr.heap.get x=some bl→eF P S.next E x fs (S.heap.get x)=some bl)→S1r.next=iV P E' fs (S.next+ops.size)→
   (∀ x bl,eF P S.next E' x fs (S.heap.get x)=some bl→fY (fun x=>eF P S.next E x fs (S.heap.get x)) Sr S1r x=some bl)→wpOp P ops Q f.i K a W':=by
  intro v Sr S1r hput hw hrun hn1 hsub hn2 hj
  obtain ⟨r1,r2⟩:=I.res f hf hi
  refine zU hc ho (ρ:=only ops f.o f.e) (by rw [←xZ (zW f.o f.e)];exact hrun) I.rel hn1 hsub
   (fun k hk=>by cases hk;exact ⟨Nat.lt_of_lt_of_le (hlt f hf) I.big,r1,r2⟩) (lX hw henv) (zX henv) ?_
  intro G2 W2 w h1 h2 h3 h4 h5 h6 h7
  obtain ⟨e1,e2⟩:=hnewenv v w G2 h1 hput h7
  obtain ⟨q1,q2⟩:=hres' G2 (fun k hk1 hk2 hk3=>(h5 k hk1 hk2 hk3).1)
  rw [hn2] at h2 h4
  refine hK _ W2 G2 ⟨Gh.le_trans I.le h1,h2.drop hj,I.same.trans h3,q1,e1,e2,hdefers w,q2,fun i o ho=>(h6 i o ho).elim (I.prn i o) .inr,Nat.le_trans I.big h4,fun k hk hk0=>?_⟩
  cases hq:eF P S.next E' k fs (S.heap.get k) with
  | none=>rfl
  | some bl=>
   have:=(h5 k (I.dead k hk hk0) (by have:=I.big;omega) (by intro e0;have:=Option.some.inj e0;omega)).2
   rw [hj k bl hq] at this;cases this
 have hpre3:cA P f.o.op=3∨cA P f.o.op=1→∀ g∈pre,2≤cA P g.o.op→E g.i=true:=by
  intro hcl g hg h2
  have hle:=zV (P:=P) g.o.op
  rcases hp.pair pre f post hs g hg with h1 | ⟨_,h3,h4,h5,h6,_⟩
  ·exact hanc g.i (hfsz g (by rw [hs];exact List.mem_append_left _ hg)) h1
  ·omega
 have hpost3:cA P f.o.op=2∨cA P f.o.op=3→∀ g∈post,cA P g.o.op=3→E g.i=false:=by
  intro hcl g hg h3
  cases hEg:E g.i with
  | false=>rfl
  | true=>
   obtain ⟨_,_,_,_,_,h1,h2,_⟩:=hpost g hg hEg
   omega
 have hup3:cA P f.o.op=3∨cA P f.o.op=1→(∀ x,eF P S.next E x pre (S.heap.get x)=f.S.heap.get x)∧iV P E pre (S.next+ops.size)=f.S.next:=fun hcl=>u5 E (hpre3 hcl)
 have hpart:(cA P f.o.op=3∨cA P f.o.op=1)→(∀ g∈post,cA P g.o.op=3→E g.i=false)→
   f.S.next=iV P E fs (S.next+ops.size)∧∀ x bl,f.S.heap.get x=some bl→eF P S.next E x fs (S.heap.get x)=some bl:=by
  intro hcl hno
  obtain ⟨p1,p2⟩:=hup3 hcl
  refine ⟨by rw [hnx,p2,nL hno],fun x bl hx=>?_⟩
  rw [hhp,p1,hx]
  rcases nM (P:=P) (base:=S.next) (a:=x) hno with ⟨⟨g,hg,_,_,h3⟩,_⟩ | ⟨_,h2⟩
  ·have:=(hres pre f post hs g (List.mem_cons_of_mem _ hg)).1
   rw [←h3,hx] at this;cases this
  ·exact h2 _
 have hcle:=zV (P:=P) f.o.op
 rcases jW u2 with ⟨hw,hput,hS⟩ | ⟨hw,v,hrun,hput⟩
 ·
  unfold wpOp
  simp only [ho]
  rw [lX hw henv]
  simp only [Bool.false_eq_true,if_false]
  obtain ⟨e1,e2⟩:=hnewenv (.tup []) undef G' (Gh.le_refl _) hput (nI G')
  obtain ⟨q1,q2⟩:=hres' G' (fun _ _ _ _=>⟨rfl,rfl⟩)
  have hnxe:iV P E' fs (S.next+ops.size)=iV P E fs (S.next+ops.size):=by
   rw [hnx',hnx]
   split
   ·rename_i h3;rw [(hup3 (.inl h3)).2,hS]
   ·rfl
  have hsub:∀ x bl,eF P S.next E' x fs (S.heap.get x)=some bl→eF P S.next E x fs (S.heap.get x)=some bl:=by
   intro x bl hx
   rw [hhp'] at hx
   rw [hhp]
   split at hx
   ·rename_i h3
    rcases h3 with h3 | ⟨h3,rfl⟩
    ·rw [hS,←(hup3 (.inl h3)).1] at hx;exact hx
    ·have:=(hres pre f post hs f (List.mem_cons_self ..)).1
     rw [hS,this] at hx
     exact aB3 hx _
   ·exact hx
  refine hK _ W' G' ⟨I.le,?_,I.same,q1,e1,e2,hdefers undef,q2,I.prn,by rw [hnxe];exact I.big,fun k hk hk0=>?_⟩
  ·rw [hnxe];exact I.rel.drop hsub
  ·cases hq:eF P S.next E' k fs (S.heap.get k) with
   | none=>rfl
   | some bl=>rw [←hsub k bl hq];exact I.dead k hk hk0
 ·have h4:cA P f.o.op=0∨cA P f.o.op=1∨cA P f.o.op=2∨cA P f.o.op=3:=by omega
  have hsame:cA P f.o.op≤1→(∀ x,eF P S.next E' x fs (S.heap.get x)=eF P S.next E x fs (S.heap.get x))∧iV P E' fs (S.next+ops.size)=iV P E fs (S.next+ops.size):=by
   intro hcl
   refine ⟨fun x=>?_,?_⟩
   ·rw [hhp',hhp,if_neg (by omega)]
   ·rw [hnx',hnx,if_neg (by omega)]
  rcases h4 with h0 | h1 | h2 | h3
  ·
   have hev:aI P (ev f.e) f.o (some (S.next+f.i)) f.S=.ok (.val v f.S)∧∀ fr' S',aI P (ev f.e) f.o fr' S'=.ok (.val v S'):=by
    unfold fQ at hrun
    cases he:aI P (ev f.e) f.o (some (S.next+f.i)) f.S with
    | error w=>rw [he] at hrun;cases hrun
    | ok r=>
     rw [he] at hrun
     obtain ⟨v',h5,h6⟩:=aOl h0 he
     subst h5
     obtain ⟨e1,e2⟩:=Prod.mk.inj (Except.ok.inj hrun)
     subst e1
     exact ⟨rfl,h6⟩
   obtain ⟨s1,s2⟩:=hsame (by omega)
   refine finish v ⟨iV P E fs (S.next+ops.size),.nil⟩ ⟨iV P E fs (S.next+ops.size),.nil⟩ hput hw (by unfold fQ;rw [hev.2]) rfl (fun x bl hx=>by cases hx) s2.symm (fun x bl hx=>?_)
   rw [s1] at hx
   unfold fY
   rw [if_pos ⟨rfl,bl,hx⟩];exact hx
  ·
   obtain ⟨d,hd⟩:=hp.rd f hf h1
   have hev:aI P (ev f.e) f.o (some (S.next+f.i)) f.S=.ok (.val v f.S):=by
    unfold fQ at hrun
    cases he:aI P (ev f.e) f.o (some (S.next+f.i)) f.S with
    | error w=>rw [he] at hrun;cases hrun
    | ok r=>
     rw [he] at hrun
     obtain ⟨v',h5,h6⟩:=aIk h1 he
     subst h5
     obtain ⟨e1,e2⟩:=Prod.mk.inj (Except.ok.inj hrun)
     subst e1
     rfl
   obtain ⟨s1,s2⟩:=hsame (by omega)
   have go:∀ Sr:St,aI P (ev f.e) f.o (some (S.next+f.i)) Sr=.ok (.val v Sr)→Sr.next=iV P E fs (S.next+ops.size)→
     (∀ x bl,Sr.heap.get x=some bl→eF P S.next E x fs (S.heap.get x)=some bl)→wpOp P ops Q f.i K a W':=by
    intro Sr hevr hnr hsubr
    refine finish v Sr Sr hput hw (by unfold fQ;rw [hevr]) hnr hsubr (by rw [s2];exact hnr) (fun x bl hx=>?_)
    rw [s1] at hx
    unfold fY
    cases hq:Sr.heap.get x with
    | none=>rw [if_pos ⟨rfl,bl,hx⟩];exact hx
    | some c=>
     rw [if_neg (by simp)]
     rw [←hsubr x c hq,hx]
   by_cases hno:∀ g∈post,cA P g.o.op=3→E g.i=false
   ·obtain ⟨p1,p2⟩:=hpart (.inr h1) hno
    exact go f.S hev p1 p2
   ·obtain ⟨p1,g,p2,hpp,hEg,hg3,hlast⟩:∃ p1 g p2,post=p1++g::p2∧E g.i=true∧cA P g.o.op=3∧∀ k∈p2,cA P k.o.op=3→E k.i=false:=by
     clear hres hpost hpost_w hpost_ne hEpost hpost3 hpart hup hs hnx' hnx hhp hhp' hnewenv
     induction post with
     | nil=>exact absurd (fun g hg=>by cases hg) hno
     | cons g post ih=>
      by_cases hno2:∀ k∈post,cA P k.o.op=3→E k.i=false
      ·refine ⟨[],g,post,rfl,?_,?_,hno2⟩
       ·cases hq:E g.i with
        | true=>rfl
        | false=>exact absurd (fun k hk hk3=>by
          rcases List.mem_cons.1 hk with rfl | hk
          ·exact hq
          ·exact hno2 k hk hk3) hno
       ·refine Classical.byContradiction fun hq=>hno fun k hk hk3=>?_
        rcases List.mem_cons.1 hk with rfl | hk
        ·exact absurd hk3 hq
        ·exact hno2 k hk hk3
      ·obtain ⟨p1,g',p2,rfl,h⟩:=ih hno2
       exact ⟨g::p1,g',p2,rfl,h⟩
    have hgp:g∈post:=by rw [hpp];simp
    obtain ⟨_,_,_,_,_,_,_,hre⟩:=hpost g hgp hEg
    have hsg:fs=(pre++f::p1)++g::p2:=by rw [hs,hpp];simp
    obtain ⟨_,_,hag,_,_⟩:=hup _ g p2 hsg
    have hrec:=hD.record pre f post hs d v h1 hw hd (aB2 hn hput hd) hpost_ne p1 g p2 hpp
    have hagi:∀ (l:List Nat),f.i∈l→bF P ops g.recs g.S1 l=true→aI P (ev f.e) f.o (some (S.next+f.i)) g.S1=.ok (.val v g.S1):=by
     intro l
     induction l with
     | nil=>intro h;cases h
     | cons j l ih=>
      intro hm ha
      simp only [bF,Bool.and_eq_true] at ha
      rcases List.mem_cons.1 hm with e0 | hm
      ·subst e0
       have ha1:=ha.1
       rw [hrec] at ha1
       simp only [ho] at ha1
       split at ha1
       ·rename_i v' S2 hq
        have:=vX ha1
        subst this
        obtain ⟨v2,h5,h6⟩:=aIk h1 hq
        cases h5
        exact h6 _
       ·cases ha1
      ·exact ih hm ha.2
    refine go g.S1 (hagi g.re (hre h1 hg3) hag) ?_ (fun x bl hx=>?_)
    ·rw [hsg,mJ]
     simp only [iV,hEg,hg3,and_self,if_true]
     rw [nL hlast]
    ·rw [hsg,mI]
     simp only [eF,hEg,hg3,true_and,true_or,if_true]
     rcases nM (P:=P) (base:=S.next) (a:=x) hlast with ⟨⟨k,hk,_,_,h5⟩,_⟩ | ⟨_,h5⟩
     ·have:=(hres _ g p2 hsg k (List.mem_cons_of_mem _ hk)).2 hk
      rw [←h5,hx] at this;cases this
     ·rw [h5];exact hx
  ·
   have hev:∃ bl,S.next+f.i<jM (S.next+f.i)∧f.S1=⟨f.S.next,f.S.heap.put (S.next+f.i) bl⟩∧∀ S',aI P (ev f.e) f.o (some (S.next+f.i)) S'=.ok (.val v ⟨S'.next,S'.heap.put (S.next+f.i) bl⟩):=by
    unfold fQ at hrun
    cases he:aI P (ev f.e) f.o (some (S.next+f.i)) f.S with
    | error w=>rw [he] at hrun;cases hrun
    | ok r=>
     rw [he] at hrun
     obtain ⟨v',bl,h5,h6,h7⟩:=aOm h2 he
     subst h6
     obtain ⟨e1,e2⟩:=Prod.mk.inj (Except.ok.inj hrun)
     subst e1
     exact ⟨bl,h5,e2.symm,h7⟩
   obtain ⟨bl,hkl,hS1,hev⟩:=hev
   have hnxe:iV P E' fs (S.next+ops.size)=iV P E fs (S.next+ops.size):=by rw [hnx',hnx,if_neg (by omega)]
   refine finish v ⟨iV P E fs (S.next+ops.size),.nil⟩ ⟨iV P E fs (S.next+ops.size),Tr.nil.put (S.next+f.i) bl⟩ hput hw (by unfold fQ;rw [hev]) rfl (fun x bl hx=>by cases hx) hnxe.symm (fun x b' hx=>?_)
   rw [hhp'] at hx
   by_cases hxk:x=S.next+f.i
   ·subst hxk
    rw [if_pos (.inr ⟨h2,rfl⟩),hS1] at hx
    simp only [Tr.get_put_sameB _ _ _ hkl] at hx
    unfold fY
    rw [if_neg (by
     rintro ⟨_,b2,hb2⟩
     have hb3:eF P S.next E (S.next+f.i) fs (S.heap.get (S.next+f.i))=some b2:=hb2
     rw [hfree] at hb3;cases hb3)]
    simp only [Tr.get_put_sameB _ _ _ hkl]
    rcases nM (P:=P) (base:=S.next) (a:=S.next+f.i) (hpost3 (.inl h2)) with ⟨⟨g,hg,_,_,h5⟩,_⟩ | ⟨_,h5⟩
    ·exact absurd (by omega) (hpost_ne g hg)
    ·rw [h5] at hx;exact hx
   ·rw [if_neg (by rintro (q | ⟨_,q⟩);omega;exact hxk q),←hhp] at hx
    unfold fY
    rw [if_pos ⟨rfl,b',hx⟩];exact hx
  ·
   have hno:=hpost3 (.inr h3)
   obtain ⟨p1,p2⟩:=hpart (.inl h3) hno
   refine finish v f.S f.S1 hput hw hrun p1 p2 (by rw [hnx',if_pos h3,nL hno]) (fun x bl hx=>?_)
   rw [hhp',if_pos (.inl h3)] at hx
   have hpx:eF P S.next E x fs (S.heap.get x)=eF P S.next E x post (f.S.heap.get x):=by rw [hhp,(hup3 (.inl h3)).1]
   unfold fY
   rcases nM (P:=P) (base:=S.next) (a:=x) hno with ⟨⟨g,hg,_,_,h5⟩,h6⟩ | ⟨_,h6⟩
   ·have hd0:=(hres pre f post hs g (List.mem_cons_of_mem _ hg)).1
    rw [←h5] at hd0
    rw [h6 _ (f.S.heap.get x)] at hx
    rw [if_pos ⟨hd0,bl,hpx.trans hx⟩];exact hpx.trans hx
   ·rw [h6] at hx
    rw [if_neg (by
     rintro ⟨q,b2,q2⟩
     have q3:eF P S.next E x fs (S.heap.get x)=some b2:=q2
     rw [hpx,h6,q] at q3;cases q3)]
    exact hx
end
end
section
section
variable {P:Program} {call:Call} {n:Nat} {ops:Array Oper}
theorem aDg {p q:Nat→Bool}:∀ {l:List Nat},(∀ x∈l,q x=true→p x=true)→∀ {i:Nat},i∈l→p i=true→q i=false→(l.filter q).length<(l.filter p).length:=by
 have hle:∀ {l:List Nat},(∀ x∈l,q x=true→p x=true)→(l.filter q).length≤(l.filter p).length:=by
  intro l
  induction l with
  | nil=>intro _;simp
  | cons x l ih=>
   intro h
   have:=ih (fun y hy=>h y (List.mem_cons_of_mem _ hy))
   simp only [List.filter_cons]
   cases hq:q x with
   | true=>rw [h x (by simp) hq];simp;omega
   | false=>cases p x<;>simp<;>omega
 intro l
 induction l with
 | nil=>intro _ i hi;cases hi
 | cons x l ih=>
  intro h i hi hp hq
  have h':=fun y hy=>h y (List.mem_cons_of_mem _ hy)
  simp only [List.filter_cons]
  rcases List.mem_cons.1 hi with rfl | hi
  ·rw [hp,hq]
   have:=hle h'
   simp;omega
  ·have:=ih h' hi hp hq
   cases hqx:q x with
   | true=>rw [h x (by simp) hqx];simp;omega
   | false=>cases p x<;>simp<;>omega
theorem aF1 (hc:CallOK P call) (hn:n<fZ) {F:Nat→Option Obj} {G:Gh} {S:St} {W:World} {e:aJ} {tmps0:Array Value} (R0:cO F G S W.heap) (he0:EnvR G n e tmps0)
  {steps:List bB} {e':aJ} {S':St} {fs:List Frm} (hD:DR P call n ops S.next steps [] e ⟨S.next+ops.size,S.heap⟩ fs e' S') {b:Array Nat} (hp:PlanF P ops b fs) {ds:List Deferred}
  {Q:Exit→Act→World→Prop} (hQ:∀ G' W' a',Sim F none G S W G' S' W'→EnvR G' n e' a'.tmps→a'.defers=ds→Q .normal a' W'):
  ∀ (fuel:Nat) (listed:Array Bool) (a:Act) (W':World) (G':Gh),listed.size=ops.size→Inv P n ops F G S W e fs ds (fun j=>listed.getD j false) a W' G'→
   (∀ f∈fs,listed.getD f.i false=true→∀ j,j<ops.size→oP (b.getD f.i 0) j=true→listed.getD j false=true)→
   ((List.range ops.size).filter fun j=>!listed.getD j false).length≤fuel→wpAny P .any ops Q fuel listed a W':=by
 obtain ⟨hup,hsv,hhp,_⟩:=hD.upto hn
 have hfsz:∀ g∈fs,g.i<ops.size:=by
  intro g hg
  obtain ⟨l1,l2,h12⟩:=List.append_of_mem hg
  exact (Array.getElem?_eq_some_iff.1 (hup l1 g l2 h12).1).1
 have R0':cO F G ⟨S.next+ops.size,S.heap⟩ W.heap:=
  ⟨fun x hx=>R0.fresh x (by have:S.next+ops.size≤x:=hx;omega),R0.sep,R0.blk,R0.inj,R0.fr,R0.pr,R0.own,R0.lt,R0.small⟩
 obtain ⟨_,hdead,hnext⟩:=hD.reserved hc hn R0' he0 hp.nodup (fun g hg=>⟨by have:=hfsz g hg;show _<S.next+ops.size;omega,(R0.fresh _ (by omega)).1,(R0.fresh _ (by omega)).2⟩)
 have fin:∀ (listed:Array Bool) (a:Act) (W':World) (G':Gh),Inv P n ops F G S W e fs ds (fun j=>listed.getD j false) a W' G'→(∀ f∈fs,listed.getD f.i false=true)→Q .normal a W':=by
  intro listed a W' G' I hall
  obtain ⟨q1,q2⟩:=hhp (fun j=>listed.getD j false) (fun g hg _=>hall g hg)
  refine hQ G' W' a ⟨I.le,?_,I.same,?_,fun x hx hlt _=>I.keep x hlt hx,fun x hx hlt _=>?_,I.prn⟩ ⟨I.size,fun t v ht=>I.env t v ?_⟩ I.defers
  ·have:=I.rel
   rw [show iV P (fun j=>listed.getD j false) fs (S.next+ops.size)=S'.next from q2] at this
   exact this.drop (fun x bl hx=>by
    show eF P S.next (fun j=>listed.getD j false) x fs (S.heap.get x)=some bl
    rw [q1 x];exact hx)
  ·have:S.next+ops.size≤S'.next:=hnext
   omega
  ·exact hdead x (by show x<S.next+ops.size;omega) hx (fun f hf=>by omega)
  ·rw [oV (E':=fun _=>true) (fun g hg _=>hall g hg)]
   rw [hsv];exact ht
 have some_ready:∀ (listed:Array Bool),listed.size=ops.size→Region.ready .any ops listed=[]→∀ f∈fs,listed.getD f.i false=true:=by
  intro listed hsz hr
  have:∀ (l pre:List Frm),fs=pre++l→(∀ g∈pre,listed.getD g.i false=true)→∀ f∈l,listed.getD f.i false=true:=by
   intro l
   induction l with
   | nil=>intro _ _ _ f hf;cases hf
   | cons f l ih=>
    intro pre hs hpre
    have hf:listed.getD f.i false=true:=by
     cases hq:listed.getD f.i false with
     | true=>rfl
     | false=>
      exfalso
      have hisz:=hfsz f (by rw [hs];simp)
      have hmem:f.i∈Region.ready .any ops listed:=by
       rw [mem_ready]
       refine ⟨?_,f.o,(hup pre f l hs).1,fun x hx hb=>?_⟩
       ·simp [hsz,hisz] at hq ⊢;exact hq
       ·obtain ⟨g,hg,hge⟩:=hp.edge pre f l hs x hx hb
        rw [←hge];exact hpre g hg
      rw [hr] at hmem;cases hmem
    intro g hg
    rcases List.mem_cons.1 hg with rfl | hg
    ·exact hf
    ·refine ih (pre++[f]) (by simpa using hs) (fun g hg=>?_) g hg
     rcases List.mem_append.1 hg with hg | hg
     ·exact hpre g hg
     ·simp at hg;subst hg;exact hf
  exact this fs [] rfl (by simp)
 intro fuel
 induction fuel with
 | zero=>
  intro listed a W' G' hsz I hdown hcnt
  have hnone:∀ j,j<ops.size→listed.getD j false=true:=by
   intro j hj
   have:=List.eq_nil_of_length_eq_zero (Nat.le_zero.1 hcnt)
   cases hq:listed.getD j false with
   | true=>rfl
   | false=>
    have hm:j∈(List.range ops.size).filter fun j=>!listed.getD j false:=List.mem_filter.2 ⟨List.mem_range.2 hj,by simp only [hq];rfl⟩
    rw [this] at hm;cases hm
  refine ⟨?_,fin listed a W' G' I (fun f hf=>hnone _ (hfsz f hf))⟩
  refine List.eq_nil_iff_forall_not_mem.2 fun j hj=>?_
  obtain ⟨h0,o,ho,_⟩:=mem_ready.1 hj
  have hjs:=(Array.getElem?_eq_some_iff.1 ho).1
  have:=hnone j hjs
  simp [hsz,hjs] at this h0
  rw [this] at h0;cases h0
 | succ fuel ih=>
  intro listed a W' G' hsz I hdown hcnt
  refine ⟨fun hr=>fin listed a W' G' I (some_ready listed hsz hr),fun i hi=>?_⟩
  obtain ⟨h0,o,ho,hready⟩:=mem_ready.1 hi
  have hisz:=(Array.getElem?_eq_some_iff.1 ho).1
  have hif:listed.getD i false=false:=by
   simp [hsz,hisz] at h0 ⊢;exact h0
  have hset:∀ j,(listed.setIfInBounds i true).getD j false=if j=i then true else listed.getD j false:=by
   intro j
   by_cases hj:j=i
   ·subst hj;simp [hsz,hisz]
   ·rw [if_neg hj];exact getD_set_ne false (Ne.symm hj)
  have hlt:∀ j,listed.getD j false=true→j<ops.size:=fun j hj=>by
    rcases Nat.lt_or_ge j listed.size with q | q
    ·omega
    ·simp [Array.getElem?_eq_none q] at hj
  have hanc:=(yA hc hn R0 he0 hD hp I hlt hdown ho hif hready (Q:=Q) (K:=fun _ _=>True) (fun _ _ _ _=>trivial)).2
  refine (yA hc hn R0 he0 hD hp I hlt hdown ho hif hready (Q:=Q) (K:=wpAny P .any ops Q fuel (listed.setIfInBounds i true)) ?_).1
  intro a2 W2 G2 I2
  refine ih _ a2 W2 G2 (by simpa using hsz) ?_ ?_ ?_
  ·have:(fun j=>(listed.setIfInBounds i true).getD j false)=fun j=>if j=i then true else listed.getD j false:=funext hset
   rw [this];exact I2
  ·intro f hf hE j hj hb
   rw [hset] at hE ⊢
   split
   ·rfl
   ·split at hE
    ·rename_i hfi
     rw [hfi] at hb
     exact hanc j hj hb
    ·exact hdown f hf hE j hj hb
  ·have:((List.range ops.size).filter fun j=>!(listed.setIfInBounds i true).getD j false).length<((List.range ops.size).filter fun j=>!listed.getD j false).length:=by
    refine aDg (fun x _ hx=>?_) (List.mem_range.2 hisz) ?_ ?_
    ·simp only [hset] at hx
     split at hx
     ·simp at hx
     ·exact hx
    ·simp only [hif];rfl
    ·simp only [hset,if_true];rfl
   omega
end
end
section
section
variable {P:Program} {call:Call} {n:Nat}
def Ex.to:Ex→Exit
 | .normal=>.normal
 | .exit id=>.exit id
 | .ret=>.ret
theorem rY {base:Nat} {E:Nat→Bool} (hE:∀ j,E j=false) {a:Nat}:∀ (l:List Frm) (acc:Option Blk),eF P base E a l acc=acc
 | [],_=>rfl
 | f::l,acc=>by simp only [eF,hE];simp;exact rY hE l acc
theorem zY (hc:CallOK P call) (hm:P.follows .mixedOrders=true) (hn:n<fZ) {ops:Array Oper} {steps:List bB} (hp:zN P ops steps=true) {F:Nat→Option Obj} {e e':aJ} {S S':St}
  (h:aIj P call n ops steps e S=.ok (e',S')) {G:Gh} {W:World} (R:cO F G S W.heap) {a:Act} (he:EnvR G n e a.tmps) {id:Nat}
  {Q:Exit→Act→World→Prop} (hQ:∀ G' W' a',Sim F none G S W G' S' W'→EnvR G' n e' a'.tmps→a'.defers=a.defers→Q .normal a' W'):
  (Code.region id ops true).wp P Q a W:=by
 obtain ⟨fs,hD⟩:=uJ h
 obtain ⟨hup,_,_,hst⟩:=hD.upto hn
 simp only [zN,Bool.and_eq_true,List.all_eq_true,List.any_eq_true] at hp
 obtain ⟨hp1,hp2⟩:=hp
 have hops:∀ f∈fs,ops[f.i]?=some f.o:=by
  intro f hf
  obtain ⟨l1,l2,h12⟩:=List.append_of_mem hf
  exact (hup l1 f l2 h12).1
 have hall:∀ j,j<ops.size→∃ f∈fs,f.i=j:=by
  intro j hj
  obtain ⟨s,hs,hsj⟩:=hp1 j (List.mem_range.2 hj)
  rw [hst] at hs
  obtain ⟨f,hf,rfl⟩:=List.mem_map.1 hs
  exact ⟨f,hf,by simpa using hsj⟩
 have hpf:PlanF P ops (Region.before ops) fs:=aF0 hops hall (by rw [←hst];exact hp2)
 have hE:∀ j,(Array.replicate ops.size false).getD j false=false:=by
  intro j
  simp only [Array.getD_eq_getD_getElem?,Array.getElem?_replicate]
  split<;>rfl
 refine wp_region_any hm ?_
 refine aF1 hc hn R he hD hpf (ds:=a.defers) hQ ops.size (Array.replicate ops.size false) a W.drew G (by simp) ?_ ?_ ?_
 ·have hnx:iV P (fun j=>(Array.replicate ops.size false).getD j false) fs (S.next+ops.size)=S.next+ops.size:=nL (fun f _ _=>hE _) _
  have hhp:(fun x=>eF P S.next (fun j=>(Array.replicate ops.size false).getD j false) x fs (S.heap.get x))=S.heap.get:=funext fun x=>rY hE fs _
  refine ⟨G.le_refl,?_,Same.drew W,fun f _ _=>R.fresh _ (by omega),he.1,fun t v ht=>?_,rfl,fun _ _ _=>⟨rfl,rfl⟩,fun _ _ h=>.inl h,?_,fun k _ hk=>?_⟩
  ·rw [hnx,hhp]
   exact ⟨fun x hx=>R.fresh x (by omega),R.sep,R.blk,R.inj,R.fr,R.pr,R.own,R.lt,R.small⟩
  ·rw [rX (fun f _ _=>hE _)] at ht
   exact he.2 t v ht
  ·rw [hnx];omega
  ·rw [rY hE];exact hk
 ·intro f _ hf
  rw [hE] at hf;cases hf
 ·exact Nat.le_trans (List.length_filter_le _ _) (by simp)
theorem zZ (hc:CallOK P call) (hm:P.follows .mixedOrders=true) (hn:n<fZ) {pl:Nat→Option (List bB)} {k:Nat} {F:Nat→Option Obj}:
  ∀ (c:Code) (_:fJ P pl c=true) {e e':aJ} {S S':St} {x:Ex} (_:cK P pl call k n c e S=.ok (x,e',S')) {G:Gh} {W:World} (_:cO F G S W.heap) {a:Act} (_:EnvR G n e a.tmps)
   {Q:Exit→Act→World→Prop} (_:∀ G' W' a',Sim F none G S W G' S' W'→EnvR G' n e' a'.tmps→a'.defers=a.defers→Q x.to a' W'),c.wp P Q a W:=by
 intro c
 induction c with
 | skip=>
  intro _ e e' S S' x h G W R a he Q hQ
  simp [cK] at h
  obtain ⟨rfl,rfl,rfl⟩:=h
  exact wp_skip (hQ G W a (Sim.refl R) he rfl)
 | label l=>
  intro _ e e' S S' x h G W R a he Q hQ
  simp [cK] at h
  obtain ⟨rfl,rfl,rfl⟩:=h
  exact wp_label (hQ G W a (Sim.refl R) he rfl)
 | exit id=>
  intro _ e e' S S' x h G W R a he Q hQ
  simp [cK] at h
  obtain ⟨rfl,rfl,rfl⟩:=h
  exact wp_exit (hQ G W a (Sim.refl R) he rfl)
 | ret=>
  intro _ e e' S S' x h G W R a he Q hQ
  simp [cK] at h
  obtain ⟨rfl,rfl,rfl⟩:=h
  exact wp_ret (hQ G W a (Sim.refl R) he rfl)
 | region id ops d=>
  intro hk e e' S S' x h G W R a he Q hQ
  simp only [cK] at h
  split at h
  ·rename_i e1 S1 h1
   cases h
   cases d
   ·simp only [cond_false] at h1
    refine wp_region ?_
    rw [List.range_eq_range',←Array.length_toList]
    exact nK hc hn ops.toList 0 rfl h1 R he hQ
   ·simp only [cond_true] at h1
    simp only [fJ,Bool.not_true,Bool.false_or] at hk
    exact zY hc hm hn hk h1 R he hQ
  ·cases h
 | seq c1 c2 ih1 ih2=>
  intro hk e e' S S' x h G W R a he Q hQ
  simp only [fJ,Bool.and_eq_true] at hk
  simp only [cK] at h
  refine wp_seq ?_
  cases hx:cK P pl call k n c1 e S with
  | error w=>rw [hx] at h;cases h
  | ok r=>
   obtain ⟨y,e1,S1⟩:=r
   rw [hx] at h
   refine ih1 hk.1 hx R he fun G1 W1 a1 q1 q2 q3=>?_
   cases y with
   | normal=>
    refine ih2 hk.2 h q1.rel q2 fun G2 W2 a2 r1 r2 r3=>?_
    exact hQ G2 W2 a2 (q1.trans r1) r2 (r3.trans q3)
   | exit id=>cases h;exact hQ G1 W1 a1 q1 q2 q3
   | ret=>cases h;exact hQ G1 W1 a1 q1 q2 q3
 | cond c c1 c2 ih1 ih2=>
  intro hk e e' S S' x h G W R a he Q hQ
  simp only [fJ,Bool.and_eq_true] at hk
  simp only [cK] at h
  split at h
  ·rename_i hev
   have hv:=kT he c _ hev
   have hv':a.eval c=.bool true:=by generalize a.eval c=w at hv;cases hv;rfl
   exact wp_cond_true hv' (ih1 hk.1 h R he hQ)
  ·rename_i hev
   have hv:=kT he c _ hev
   have hv':a.eval c=.bool false:=by generalize a.eval c=w at hv;cases hv;rfl
   exact wp_cond_false hv' (ih2 hk.2 h R he hQ)
  ·cases h
 | block id c ih=>
  intro hk e e' S S' x h G W R a he Q hQ
  simp only [fJ] at hk
  simp only [cK] at h
  refine wp_block ?_
  cases hx:cK P pl call k n c e S with
  | error w=>rw [hx] at h;cases h
  | ok r=>
   obtain ⟨y,e1,S1⟩:=r
   rw [hx] at h
   refine ih hk hx R he fun G1 W1 a1 q1 q2 q3=>?_
   cases y with
   | normal=>cases h;exact hQ G1 W1 a1 q1 q2 q3
   | exit id'=>
    simp only [cond_eq_ite] at h
    show Exit.inBlock id Q (.exit id') a1 W1
    simp only [Exit.inBlock]
    by_cases hi:id'=id
    ·subst hi
     simp at h
     obtain ⟨rfl,rfl,rfl⟩:=h
     simp only [if_true]
     exact hQ G1 W1 a1 q1 q2 q3
    ·have:Nat.beq id' id=false:=by
      cases hb:Nat.beq id' id with
      | false=>rfl
      | true=>exact absurd (Nat.eq_of_beq_eq_true hb) hi
     rw [this] at h
     cases h
     simp only [hi,if_false]
     exact hQ G1 W1 a1 q1 q2 q3
   | ret=>cases h;exact hQ G1 W1 a1 q1 q2 q3
 | loop c ih=>
  intro hk e e' S S' x h G W R a he Q hQ
  simp only [fJ] at hk
  simp only [cK] at h
  refine wp_loop_rounds k ?_
  have key:∀ (m:Nat) {e:aJ} {S:St} (_:iter (cK P pl call k n c) m e S=.ok (x,e',S')) {G:Gh} {W:World} (_:cO F G S W.heap) {a:Act} (_:EnvR G n e a.tmps)
    (_:∀ G' W' a',Sim F none G S W G' S' W'→EnvR G' n e' a'.tmps→a'.defers=a.defers→Q x.to a' W'),Code.rounds P c Q m a W:=by
   intro m
   induction m with
   | zero=>intro e S h;cases h
   | succ m ihm=>
    intro e S h G W R a he hQ
    simp only [iter] at h
    rw [rounds_succ]
    cases hx:cK P pl call k n c e S with
    | error w=>rw [hx] at h;cases h
    | ok r=>
     obtain ⟨y,e1,S1⟩:=r
     rw [hx] at h
     refine ih hk hx R he fun G1 W1 a1 q1 q2 q3=>?_
     cases y with
     | normal=>
      refine ihm h q1.rel q2 fun G2 W2 a2 r1 r2 r3=>?_
      exact hQ G2 W2 a2 (q1.trans r1) r2 (r3.trans q3)
     | exit id'=>cases h;exact hQ G1 W1 a1 q1 q2 q3
     | ret=>cases h;exact hQ G1 W1 a1 q1 q2 q3
  exact key k h R he hQ
 | scope c _=>intro _ e e' S S' x h;cases h
 | rangeFunc f ps a b _ _=>intro _ e e' S S' x h;cases h
 | goto l=>intro _ e e' S S' x h;cases h
 | refuse w=>intro _ e e' S S' x h;cases h
end
end
def nN (T I B:TypeId) (ov rr:FuncId):Code:=
 ((Code.region 0 #[
  { dst:=some 6,op:=Op.assign (Operand.const (Value.slice none 0 0)),type:=T,pos := "slices.go:136",after:=#[],guard:=none }] false).seq ((Code.region 1 #[
  { dst:=some 10,op:=Op.move (Operand.tmp 0),type:=T,pos := "slices.go:137",after:=#[],guard:=none },
  { dst:=some 11,op:=Op.move (Operand.tmp 1),type:=I,pos := "slices.go:137",after:=#[],guard:=none },
  { dst:=some 12,op:=Op.slice T (Operand.tmp 10) (some (Operand.tmp 11)) none none,type:=T,pos := "slices.go:137",after:=#[{ on:=0,ground:=Ground.data },{ on:=1,ground:=Ground.data }],guard:=none }] false).seq ((Code.region 2 #[
  { dst:=some 13,op:=Op.move (Operand.tmp 2),type:=T,pos := "slices.go:139",after:=#[],guard:=none },
  { dst:=some 14,op:=Op.call { callee:=Callee.builtin Builtin.len,args:=#[Operand.tmp 13],argTypes:=#[T] },type:=I,pos := "slices.go:139",after:=#[{ on:=0,ground:=Ground.data }],guard:=none },
  { dst:=some 7,op:=Op.assign (Operand.tmp 14),type:=I,pos := "slices.go:139",after:=#[{ on:=1,ground:=Ground.data },{ on:=0,ground:=Ground.phase },{ on:=1,ground:=Ground.phase }],guard:=none }] false).seq (((Code.region 3 #[
  { dst:=some 15,op:=Op.move (Operand.tmp 7),type:=I,pos := "slices.go:140",after:=#[],guard:=none },
  { dst:=some 16,op:=Op.binOp BinOp.eql I (Operand.tmp 15) (Operand.const (Value.int IntKind.i64 0)) I,type:=B,pos := "slices.go:140",after:=#[{ on:=0,ground:=Ground.data }],guard:=none }] false).seq (Code.cond (Operand.tmp 16) ((Code.region 4 #[
  { dst:=some 17,op:=Op.move (Operand.tmp 0),type:=T,pos := "slices.go:141",after:=#[],guard:=none },
  { dst:=some 6,op:=Op.assign (Operand.tmp 17),type:=T,pos := "slices.go:141",after:=#[{ on:=0,ground:=Ground.data },{ on:=0,ground:=Ground.phase }],guard:=none }] false).seq Code.ret) Code.skip)).seq ((Code.region 5 #[
  { dst:=some 18,op:=Op.move (Operand.tmp 0),type:=T,pos := "slices.go:143",after:=#[],guard:=none },
  { dst:=some 19,op:=Op.call { callee:=Callee.builtin Builtin.len,args:=#[Operand.tmp 18],argTypes:=#[T] },type:=I,pos := "slices.go:143",after:=#[{ on:=0,ground:=Ground.data }],guard:=none },
  { dst:=some 8,op:=Op.assign (Operand.tmp 19),type:=I,pos := "slices.go:143",after:=#[{ on:=1,ground:=Ground.data },{ on:=0,ground:=Ground.phase },{ on:=1,ground:=Ground.phase }],guard:=none }] false).seq (((Code.region 6 #[
  { dst:=some 20,op:=Op.move (Operand.tmp 1),type:=I,pos := "slices.go:144",after:=#[],guard:=none },
  { dst:=some 21,op:=Op.move (Operand.tmp 8),type:=I,pos := "slices.go:144",after:=#[],guard:=none },
  { dst:=some 22,op:=Op.binOp BinOp.eql I (Operand.tmp 20) (Operand.tmp 21) I,type:=B,pos := "slices.go:144",after:=#[{ on:=0,ground:=Ground.data },{ on:=1,ground:=Ground.data }],guard:=none }] false).seq (Code.cond (Operand.tmp 22) ((Code.region 7 #[
  { dst:=some 23,op:=Op.move (Operand.tmp 0),type:=T,pos := "slices.go:145",after:=#[],guard:=none },
  { dst:=some 24,op:=Op.move (Operand.tmp 2),type:=T,pos := "slices.go:145",after:=#[],guard:=none },
  { dst:=some 25,op:=Op.call { callee:=Callee.builtin Builtin.append,args:=#[Operand.tmp 23,Operand.tmp 24],argTypes:=#[T,T] },type:=T,pos := "slices.go:145",after:=#[{ on:=0,ground:=Ground.data },{ on:=1,ground:=Ground.data }],guard:=none },
  { dst:=some 6,op:=Op.assign (Operand.tmp 25),type:=T,pos := "slices.go:145",after:=#[{ on:=2,ground:=Ground.data },{ on:=2,ground:=Ground.chain },{ on:=0,ground:=Ground.phase },{ on:=1,ground:=Ground.phase },{ on:=2,ground:=Ground.phase }],guard:=none }] false).seq Code.ret) Code.skip)).seq (((Code.region 8 #[
  { dst:=some 26,op:=Op.move (Operand.tmp 8),type:=I,pos := "slices.go:147",after:=#[],guard:=none },
  { dst:=some 27,op:=Op.move (Operand.tmp 7),type:=I,pos := "slices.go:147",after:=#[],guard:=none },
  { dst:=some 28,op:=Op.binOp BinOp.add I (Operand.tmp 26) (Operand.tmp 27) I,type:=I,pos := "slices.go:147",after:=#[{ on:=0,ground:=Ground.data },{ on:=1,ground:=Ground.data }],guard:=none },
  { dst:=some 29,op:=Op.move (Operand.tmp 0),type:=T,pos := "slices.go:147",after:=#[],guard:=none },
  { dst:=some 30,op:=Op.call { callee:=Callee.builtin Builtin.cap,args:=#[Operand.tmp 29],argTypes:=#[T] },type:=I,pos := "slices.go:147",after:=#[{ on:=3,ground:=Ground.data }],guard:=none },
  { dst:=some 31,op:=Op.binOp BinOp.gtr I (Operand.tmp 28) (Operand.tmp 30) I,type:=B,pos := "slices.go:147",after:=#[{ on:=2,ground:=Ground.data },{ on:=4,ground:=Ground.data }],guard:=none }] false).seq (Code.cond (Operand.tmp 31) ((Code.region 9 #[
  { dst:=some 32,op:=Op.move (Operand.tmp 0),type:=T,pos := "slices.go:152",after:=#[],guard:=none },
  { dst:=some 33,op:=Op.move (Operand.tmp 1),type:=I,pos := "slices.go:152",after:=#[],guard:=none },
  { dst:=some 34,op:=Op.slice T (Operand.tmp 32) none (some (Operand.tmp 33)) none,type:=T,pos := "slices.go:152",after:=#[{ on:=0,ground:=Ground.data },{ on:=1,ground:=Ground.data }],guard:=none },
  { dst:=some 35,op:=Op.move (Operand.tmp 8),type:=I,pos := "slices.go:152",after:=#[],guard:=none },
  { dst:=some 36,op:=Op.move (Operand.tmp 7),type:=I,pos := "slices.go:152",after:=#[],guard:=none },
  { dst:=some 37,op:=Op.binOp BinOp.add I (Operand.tmp 35) (Operand.tmp 36) I,type:=I,pos := "slices.go:152",after:=#[{ on:=3,ground:=Ground.data },{ on:=4,ground:=Ground.data }],guard:=none },
  { dst:=some 38,op:=Op.move (Operand.tmp 1),type:=I,pos := "slices.go:152",after:=#[],guard:=none },
  { dst:=some 39,op:=Op.binOp BinOp.sub I (Operand.tmp 37) (Operand.tmp 38) I,type:=I,pos := "slices.go:152",after:=#[{ on:=5,ground:=Ground.data },{ on:=6,ground:=Ground.data }],guard:=none },
  { dst:=some 40,op:=Op.call { callee:=Callee.builtin Builtin.append,args:=#[Operand.tmp 34,Operand.tmp 39],argTypes:=#[T,I] },type:=T,pos := "slices.go:152",after:=#[{ on:=2,ground:=Ground.data },{ on:=7,ground:=Ground.data }],guard:=none },
  { dst:=some 9,op:=Op.assign (Operand.tmp 40),type:=T,pos := "slices.go:152",after:=#[{ on:=8,ground:=Ground.data },{ on:=8,ground:=Ground.chain },{ on:=0,ground:=Ground.phase },{ on:=1,ground:=Ground.phase },{ on:=2,ground:=Ground.phase },{ on:=3,ground:=Ground.phase },{ on:=4,ground:=Ground.phase },{ on:=5,ground:=Ground.phase },{ on:=6,ground:=Ground.phase },{ on:=7,ground:=Ground.phase },{ on:=8,ground:=Ground.phase }],guard:=none }] false).seq ((Code.region 10 #[
  { dst:=some 41,op:=Op.move (Operand.tmp 9),type:=T,pos := "slices.go:153",after:=#[],guard:=none },
  { dst:=some 42,op:=Op.move (Operand.tmp 1),type:=I,pos := "slices.go:153",after:=#[],guard:=none },
  { dst:=some 43,op:=Op.slice T (Operand.tmp 41) (some (Operand.tmp 42)) none none,type:=T,pos := "slices.go:153",after:=#[{ on:=0,ground:=Ground.data },{ on:=1,ground:=Ground.data }],guard:=none },
  { dst:=some 44,op:=Op.move (Operand.tmp 2),type:=T,pos := "slices.go:153",after:=#[],guard:=none },
  { dst:=some 45,op:=Op.call { callee:=Callee.builtin Builtin.copy,args:=#[Operand.tmp 43,Operand.tmp 44],argTypes:=#[T,T] },type:=I,pos := "slices.go:153",after:=#[{ on:=2,ground:=Ground.data },{ on:=3,ground:=Ground.data }],guard:=none }] false).seq ((Code.region 11 #[
  { dst:=some 46,op:=Op.move (Operand.tmp 9),type:=T,pos := "slices.go:154",after:=#[],guard:=none },
  { dst:=some 47,op:=Op.move (Operand.tmp 1),type:=I,pos := "slices.go:154",after:=#[],guard:=none },
  { dst:=some 48,op:=Op.move (Operand.tmp 7),type:=I,pos := "slices.go:154",after:=#[],guard:=none },
  { dst:=some 49,op:=Op.binOp BinOp.add I (Operand.tmp 47) (Operand.tmp 48) I,type:=I,pos := "slices.go:154",after:=#[{ on:=1,ground:=Ground.data },{ on:=2,ground:=Ground.data }],guard:=none },
  { dst:=some 50,op:=Op.slice T (Operand.tmp 46) (some (Operand.tmp 49)) none none,type:=T,pos := "slices.go:154",after:=#[{ on:=0,ground:=Ground.data },{ on:=3,ground:=Ground.data }],guard:=none },
  { dst:=some 51,op:=Op.move (Operand.tmp 0),type:=T,pos := "slices.go:154",after:=#[],guard:=none },
  { dst:=some 52,op:=Op.move (Operand.tmp 1),type:=I,pos := "slices.go:154",after:=#[],guard:=none },
  { dst:=some 53,op:=Op.slice T (Operand.tmp 51) (some (Operand.tmp 52)) none none,type:=T,pos := "slices.go:154",after:=#[{ on:=5,ground:=Ground.data },{ on:=6,ground:=Ground.data }],guard:=none },
  { dst:=some 54,op:=Op.call { callee:=Callee.builtin Builtin.copy,args:=#[Operand.tmp 50,Operand.tmp 53],argTypes:=#[T,T] },type:=I,pos := "slices.go:154",after:=#[{ on:=4,ground:=Ground.data },{ on:=7,ground:=Ground.data }],guard:=none }] true).seq ((Code.region 12 #[
  { dst:=some 55,op:=Op.move (Operand.tmp 9),type:=T,pos := "slices.go:155",after:=#[],guard:=none },
  { dst:=some 6,op:=Op.assign (Operand.tmp 55),type:=T,pos := "slices.go:155",after:=#[{ on:=0,ground:=Ground.data },{ on:=0,ground:=Ground.phase }],guard:=none }] false).seq Code.ret)))) Code.skip)).seq ((Code.region 13 #[
  { dst:=some 56,op:=Op.move (Operand.tmp 0),type:=T,pos := "slices.go:157",after:=#[],guard:=none },
  { dst:=some 57,op:=Op.move (Operand.tmp 8),type:=I,pos := "slices.go:157",after:=#[],guard:=none },
  { dst:=some 58,op:=Op.move (Operand.tmp 7),type:=I,pos := "slices.go:157",after:=#[],guard:=none },
  { dst:=some 59,op:=Op.binOp BinOp.add I (Operand.tmp 57) (Operand.tmp 58) I,type:=I,pos := "slices.go:157",after:=#[{ on:=1,ground:=Ground.data },{ on:=2,ground:=Ground.data }],guard:=none },
  { dst:=some 60,op:=Op.slice T (Operand.tmp 56) none (some (Operand.tmp 59)) none,type:=T,pos := "slices.go:157",after:=#[{ on:=0,ground:=Ground.data },{ on:=3,ground:=Ground.data }],guard:=none },
  { dst:=some 0,op:=Op.assign (Operand.tmp 60),type:=T,pos := "slices.go:157",after:=#[{ on:=4,ground:=Ground.data },{ on:=0,ground:=Ground.phase },{ on:=1,ground:=Ground.phase },{ on:=2,ground:=Ground.phase },{ on:=3,ground:=Ground.phase },{ on:=4,ground:=Ground.phase }],guard:=none }] false).seq (((Code.region 14 #[
  { dst:=some 61,op:=Op.move (Operand.tmp 2),type:=T,pos := "slices.go:173",after:=#[],guard:=none },
  { dst:=some 62,op:=Op.move (Operand.tmp 0),type:=T,pos := "slices.go:173",after:=#[],guard:=none },
  { dst:=some 63,op:=Op.move (Operand.tmp 1),type:=I,pos := "slices.go:173",after:=#[],guard:=none },
  { dst:=some 64,op:=Op.move (Operand.tmp 7),type:=I,pos := "slices.go:173",after:=#[],guard:=none },
  { dst:=some 65,op:=Op.binOp BinOp.add I (Operand.tmp 63) (Operand.tmp 64) I,type:=I,pos := "slices.go:173",after:=#[{ on:=2,ground:=Ground.data },{ on:=3,ground:=Ground.data }],guard:=none },
  { dst:=some 66,op:=Op.slice T (Operand.tmp 62) (some (Operand.tmp 65)) none none,type:=T,pos := "slices.go:173",after:=#[{ on:=1,ground:=Ground.data },{ on:=4,ground:=Ground.data }],guard:=none },
  { dst:=some 67,op:=Op.call { callee:=Callee.value (Operand.func ov),args:=#[Operand.tmp 61,Operand.tmp 66],argTypes:=#[T,T] },type:=B,pos := "slices.go:173",after:=#[{ on:=0,ground:=Ground.data },{ on:=5,ground:=Ground.data }],guard:=none },
  { dst:=some 68,op:=Op.unOp UnOp.not B (Operand.tmp 67),type:=B,pos := "slices.go:173",after:=#[{ on:=6,ground:=Ground.data }],guard:=none }] false).seq (Code.cond (Operand.tmp 68) ((Code.region 15 #[
  { dst:=some 69,op:=Op.move (Operand.tmp 0),type:=T,pos := "slices.go:178",after:=#[],guard:=none },
  { dst:=some 70,op:=Op.move (Operand.tmp 1),type:=I,pos := "slices.go:178",after:=#[],guard:=none },
  { dst:=some 71,op:=Op.move (Operand.tmp 7),type:=I,pos := "slices.go:178",after:=#[],guard:=none },
  { dst:=some 72,op:=Op.binOp BinOp.add I (Operand.tmp 70) (Operand.tmp 71) I,type:=I,pos := "slices.go:178",after:=#[{ on:=1,ground:=Ground.data },{ on:=2,ground:=Ground.data }],guard:=none },
  { dst:=some 73,op:=Op.slice T (Operand.tmp 69) (some (Operand.tmp 72)) none none,type:=T,pos := "slices.go:178",after:=#[{ on:=0,ground:=Ground.data },{ on:=3,ground:=Ground.data }],guard:=none },
  { dst:=some 74,op:=Op.move (Operand.tmp 0),type:=T,pos := "slices.go:178",after:=#[],guard:=none },
  { dst:=some 75,op:=Op.move (Operand.tmp 1),type:=I,pos := "slices.go:178",after:=#[],guard:=none },
  { dst:=some 76,op:=Op.slice T (Operand.tmp 74) (some (Operand.tmp 75)) none none,type:=T,pos := "slices.go:178",after:=#[{ on:=5,ground:=Ground.data },{ on:=6,ground:=Ground.data }],guard:=none },
  { dst:=some 77,op:=Op.call { callee:=Callee.builtin Builtin.copy,args:=#[Operand.tmp 73,Operand.tmp 76],argTypes:=#[T,T] },type:=I,pos := "slices.go:178",after:=#[{ on:=4,ground:=Ground.data },{ on:=7,ground:=Ground.data }],guard:=none }] true).seq ((Code.region 16 #[
  { dst:=some 78,op:=Op.move (Operand.tmp 0),type:=T,pos := "slices.go:186",after:=#[],guard:=none },
  { dst:=some 79,op:=Op.move (Operand.tmp 1),type:=I,pos := "slices.go:186",after:=#[],guard:=none },
  { dst:=some 80,op:=Op.slice T (Operand.tmp 78) (some (Operand.tmp 79)) none none,type:=T,pos := "slices.go:186",after:=#[{ on:=0,ground:=Ground.data },{ on:=1,ground:=Ground.data }],guard:=none },
  { dst:=some 81,op:=Op.move (Operand.tmp 2),type:=T,pos := "slices.go:186",after:=#[],guard:=none },
  { dst:=some 82,op:=Op.call { callee:=Callee.builtin Builtin.copy,args:=#[Operand.tmp 80,Operand.tmp 81],argTypes:=#[T,T] },type:=I,pos := "slices.go:186",after:=#[{ on:=2,ground:=Ground.data },{ on:=3,ground:=Ground.data }],guard:=none }] false).seq ((Code.region 17 #[
  { dst:=some 83,op:=Op.move (Operand.tmp 0),type:=T,pos := "slices.go:193",after:=#[],guard:=none },
  { dst:=some 6,op:=Op.assign (Operand.tmp 83),type:=T,pos := "slices.go:193",after:=#[{ on:=0,ground:=Ground.data },{ on:=0,ground:=Ground.phase }],guard:=none }] false).seq Code.ret))) Code.skip)).seq ((Code.region 18 #[
  { dst:=some 84,op:=Op.move (Operand.tmp 0),type:=T,pos := "slices.go:200",after:=#[],guard:=none },
  { dst:=some 85,op:=Op.move (Operand.tmp 8),type:=I,pos := "slices.go:200",after:=#[],guard:=none },
  { dst:=some 86,op:=Op.slice T (Operand.tmp 84) (some (Operand.tmp 85)) none none,type:=T,pos := "slices.go:200",after:=#[{ on:=0,ground:=Ground.data },{ on:=1,ground:=Ground.data }],guard:=none },
  { dst:=some 87,op:=Op.move (Operand.tmp 2),type:=T,pos := "slices.go:200",after:=#[],guard:=none },
  { dst:=some 88,op:=Op.call { callee:=Callee.builtin Builtin.copy,args:=#[Operand.tmp 86,Operand.tmp 87],argTypes:=#[T,T] },type:=I,pos := "slices.go:200",after:=#[{ on:=2,ground:=Ground.data },{ on:=3,ground:=Ground.data }],guard:=none }] false).seq ((Code.region 19 #[
  { dst:=some 89,op:=Op.move (Operand.tmp 0),type:=T,pos := "slices.go:207",after:=#[],guard:=none },
  { dst:=some 90,op:=Op.move (Operand.tmp 1),type:=I,pos := "slices.go:207",after:=#[],guard:=none },
  { dst:=some 91,op:=Op.slice T (Operand.tmp 89) (some (Operand.tmp 90)) none none,type:=T,pos := "slices.go:207",after:=#[{ on:=0,ground:=Ground.data },{ on:=1,ground:=Ground.data }],guard:=none },
  { dst:=some 92,op:=Op.move (Operand.tmp 7),type:=I,pos := "slices.go:207",after:=#[],guard:=none },
  { dst:=some 93,op:=Op.call { callee:=Callee.value (Operand.func rr),args:=#[Operand.tmp 91,Operand.tmp 92],argTypes:=#[T,I] },type:=0,pos := "slices.go:207",after:=#[{ on:=2,ground:=Ground.data },{ on:=3,ground:=Ground.data }],guard:=none }] false).seq ((Code.region 20 #[
  { dst:=some 94,op:=Op.move (Operand.tmp 0),type:=T,pos := "slices.go:214",after:=#[],guard:=none },
  { dst:=some 6,op:=Op.assign (Operand.tmp 94),type:=T,pos := "slices.go:214",after:=#[{ on:=0,ground:=Ground.data },{ on:=0,ground:=Ground.phase }],guard:=none }] false).seq Code.ret))))))))))))
def mK (tmps:Array Value):ResultVar→Sem Value
 | .tmp t=>pure (tmps.getD t undef)
 | .cell a t=>do loadVar t (←asAddr (tmps.getD a undef))
def aF2 (ws:List Value):Value:=if h:ws.toArray.size=1 then ws.toArray[0] else .tuple ws.toArray
theorem lY {P:Program} {fn:Func} {tmps:Array Value} {W:World} {ws:List Value} (h:(fn.results.toList.mapM (mK tmps)).run P W=Result.ok ws W):
  (results fn tmps).run P W=.ok (aF2 ws) W:=by
 have:results fn tmps=fn.results.mapM (mK tmps) >>= fun vs=>pure (if h:vs.size=1 then vs[0] else .tuple vs):=by
  unfold results
  rfl
 rw [this,Array.mapM_eq_mapM_toList,Sem.run_bind]
 have h2:(List.toArray <$> fn.results.toList.mapM (mK tmps)).run P W=Result.ok ws.toArray W:=by
  rw [map_eq_pure_bind,Sem.run_bind,h];rfl
 rw [h2];rfl
theorem dK {P:Program} {fn:Func} {t:Tmp} (hr:fn.results=#[.tmp t]) {tmps:Array Value} {W:World} {v:Value} (h:tmps.getD t undef=v):(results fn tmps).run P W=.ok v W:=by
 have:=lY (P:=P) (fn:=fn) (tmps:=tmps) (W:=W) (ws:=[v]) (by rw [hr];simp [List.mapM_cons,mK,h])
 exact this
end Go.AM
end
section
namespace Go.AM
open Go.RowKit Go.Lib Go.Proofs Go.Shelf
section
variable {P:Program}
structure InsAt (P:Program) (f:FuncId) (T e I B:TypeId) (ov rr:FuncId) (fn:Func):Prop where
 mixed:P.follows .mixedOrders=true
 hf:P.funcs[f]?=some fn
 hb:fn.body=some (nN T I B ov rr)
 hn:fn.ntmps=95
 hr:fn.results=#[.tmp 6]
 tT:P.underlying T=some (.slice e)
 tI:P.underlying I=some (.int .i64)
 tB:P.underlying B=some .bool
 hov:∀ args w,(callFunc ov args).run P w=((Extern.SlicesOverlaps.overlaps #[T,T] #[B] args).run P w).andThen fun v w'=>.ok (.value v) w'
 zE:∀ w,(Go.sizeOf e).run P w=.ok (sz P e) w
 zT:∀ w,(Go.sizeOf T).run P w=.ok 1 w
 zI:∀ w,(Go.sizeOf I).run P w=.ok 1 w
 zB:∀ w,(Go.sizeOf B).run P w=.ok 1 w
set_option maxHeartbeats 4000000 in
set_option maxRecDepth 100000 in
theorem aDh {f : FuncId} {T e I B : TypeId} {ov rr : FuncId} {fn : Func} (L : InsAt P f T e I B ov rr fn) (b off sz n c i vb voff m vc : Nat) (w W1 W2 : World) (hi : i < n) (hm : 0 < m) (hroom : n + m ≤ c)
    (hc63 : n + m ≤ 9223372036854775807) (hsz : ∀ w, (Go.sizeOf e).run P w = .ok sz w)
    (hov : ∀ lb cb, (callFunc ov #[.slice (some ⟨vb, voff, none⟩) m vc, .slice (some ⟨b, off + (i + m) * sz, none⟩) lb cb]).run P w = .ok (.value (.bool false)) w)
    (hcp1 : ∀ ty dc sc, (Builtin.copy_ #[T, T] ty #[.slice (some ⟨b, off + (i + m) * sz, none⟩) (n + m - (i + m)) dc, .slice (some ⟨b, off + i * sz, none⟩) (n + m - i) sc]).run P w.drew = .ok (.int .i64 (n - i : Nat)) W1)
    (hcp2 : ∀ ty dc, (Builtin.copy_ #[T, T] ty #[.slice (some ⟨b, off + i * sz, none⟩) (n + m - i) dc, .slice (some ⟨vb, voff, none⟩) m vc]).run P W1 = .ok (.int .i64 m) W2) :
    Calls P f #[.slice (some ⟨b, off, none⟩) n c, .int .i64 i, .slice (some ⟨vb, voff, none⟩) m vc] w fun e w' => e = .returned (.slice (some ⟨b, off, none⟩) (n + m) c) ∧ w' = W2 := by
  have tT := L.tT; have tI := L.tI; have tB := L.tB
  have uT := run_underlying L.tT; have uI := run_underlying L.tI; have uB := run_underlying L.tB
  have zT := L.zT; have zI := L.zI; have zB := L.zB
  have mixed := L.mixed
  have hz1 : ¬ ((m : Int) = 0) := by omega
  have hz2 : ¬ ((i : Int) = (n : Int)) := by omega
  have hw1 : IntKind.i64.wrap ((i : Int) + (m : Int)) = (i : Int) + (m : Int) := by rw [IntKind.wrap_i64]; omega
  have hw2 : IntKind.i64.wrap ((n : Int) + (m : Int)) = (n : Int) + (m : Int) := by rw [IntKind.wrap_i64]; omega
  have hb1 : (0 : Int) ≤ (i : Int) + (m : Int) := by omega
  have hin : i ≤ n := by omega
  have htn : ((i : Int) + (m : Int)).toNat = i + m := by omega
  have hb2 : ¬ (c = i + m) := by omega
  have hb3 : (i : Int) ≤ (n : Int) + (m : Int) := by omega
  have hb4 : ¬ (c = i) := by omega
  refine calls_of_wp L.hf L.hb ?_
  have hr := L.hr
  simp only [L.hn, List.size_toArray, List.length_cons, List.length_nil, Nat.reduceAdd, Nat.reduceSub, Array.replicate_succ,
     Array.replicate_zero, List.push_toArray, List.append_toArray, List.nil_append, List.cons_append]
  unfold nN
  go_wp2_with (simp only [hov])
  go_region_law_o (refine step_copy_runI rfl _ _ T T rfl _ _ (by simp [Act.eval, Act.put]) (by simp [Act.eval, Act.put]) (hcp1 _ _ _) ?_)
  go_wp2_with (at_builtin; refine wpList_copy_runI _ rfl _ _ T T rfl _ _ rfl rfl (hcp2 _ _) ?_)
  refine ⟨rfl, .slice (some ⟨b, off, none⟩) (n + m) c, dK hr rfl, rfl, rfl⟩
set_option maxHeartbeats 4000000 in
set_option maxRecDepth 100000 in
theorem aF3 {f : FuncId} {T e I B : TypeId} {ov rr : FuncId} {fn : Func} (L : InsAt P f T e I B ov rr fn) (b off nb sz n c i vb voff m vc g : Nat) (w W1 W2 W3 : World) (hi : i < n) (hm : 0 < m) (hnc : n ≤ c) (hroom : c < n + m)
    (hg : n + m ≤ g) (hbig : n + m ≤ 9223372036854775807) (hsz : ∀ w, (Go.sizeOf e).run P w = .ok sz w)
    (hrz : ∀ ty, (Builtin.append_ #[T, I] ty #[.slice (some ⟨b, off, none⟩) i c, .int .i64 ((n : Int) + (m : Int) - (i : Int))]).run P w = .ok (.slice (some ⟨nb, 0, none⟩) (n + m) g) W1)
    (hcp1 : ∀ ty dc, (Builtin.copy_ #[T, T] ty #[.slice (some ⟨nb, i * sz, none⟩) (n + m - i) dc, .slice (some ⟨vb, voff, none⟩) m vc]).run P W1 = .ok (.int .i64 m) W2)
    (hcp2 : ∀ ty dc sc, (Builtin.copy_ #[T, T] ty #[.slice (some ⟨nb, (i + m) * sz, none⟩) (n + m - (i + m)) dc, .slice (some ⟨b, off + i * sz, none⟩) (n - i) sc]).run P W2.drew = .ok (.int .i64 (n - i : Nat)) W3) :
    Calls P f #[.slice (some ⟨b, off, none⟩) n c, .int .i64 i, .slice (some ⟨vb, voff, none⟩) m vc] w fun e w' => e = .returned (.slice (some ⟨nb, 0, none⟩) (n + m) g) ∧ w' = W3 := by
  have tT := L.tT; have tI := L.tI; have tB := L.tB
  have uT := run_underlying L.tT; have uI := run_underlying L.tI; have uB := run_underlying L.tB
  have zT := L.zT; have zI := L.zI; have zB := L.zB
  have mixed := L.mixed
  have hz1 : ¬ ((m : Int) = 0) := by omega
  have hz2 : ¬ ((i : Int) = (n : Int)) := by omega
  have hz3 : (c : Int) < (n : Int) + (m : Int) := by omega
  have hw1 : IntKind.i64.wrap ((i : Int) + (m : Int)) = (i : Int) + (m : Int) := by rw [IntKind.wrap_i64]; omega
  have hw2 : IntKind.i64.wrap ((n : Int) + (m : Int)) = (n : Int) + (m : Int) := by rw [IntKind.wrap_i64]; omega
  have hw3 : IntKind.i64.wrap ((n : Int) + (m : Int) - (i : Int)) = (n : Int) + (m : Int) - (i : Int) := by rw [IntKind.wrap_i64]; omega
  have hb1 : (0 : Int) ≤ (i : Int) + (m : Int) := by omega
  have hin : i ≤ n := by omega
  have htn : ((i : Int) + (m : Int)).toNat = i + m := by omega
  have hb3 : (i : Int) ≤ (n : Int) + (m : Int) := by omega
  have hGi : ¬ (g = i) := by omega
  have hGim : ¬ (g = i + m) := by omega
  have hci : ¬ (c = i) := by omega
  refine calls_of_wp L.hf L.hb ?_
  have hr := L.hr
  simp only [L.hn, List.size_toArray, List.length_cons, List.length_nil, Nat.reduceAdd, Nat.reduceSub, Array.replicate_succ,
     Array.replicate_zero, List.push_toArray, List.append_toArray, List.nil_append, List.cons_append]
  unfold nN
  go_wp2_with (at_builtin; first | refine Lib.wpList_append_run _ rfl _ _ _ _ rfl _ _ rfl rfl _ _ (hrz _) ?_ | refine wpList_copy_runI _ rfl _ _ T T rfl _ _ rfl rfl (hcp1 _ _) ?_)
  go_region_law_o (refine step_copy_runI rfl _ _ T T rfl _ _ (by simp [Act.eval, Act.put]) (by simp [Act.eval, Act.put]) (hcp2 _ _ _) ?_)
  go_wp2_with (at_builtin; skip)
  refine ⟨rfl, .slice (some ⟨nb, 0, none⟩) (n + m) g, dK hr rfl, rfl, rfl⟩
set_option maxHeartbeats 4000000 in
set_option maxRecDepth 100000 in
theorem aB4 {f : FuncId} {T e I B : TypeId} {ov rr : FuncId} {fn : Func} (L : InsAt P f T e I B ov rr fn) (base : Option Addr) (n c m : Nat) (v : Value) (hv : ∃ p vc, v = .slice p m vc) (w W1 : World) (hm : 0 < m) (r : Value)
    (hnil : base = none → c = 0) (hnc : n ≤ c) (sz : Nat) (hsz : ∀ w, (Go.sizeOf e).run P w = .ok sz w)
    (hrun : ∀ ty, (Builtin.append_ #[T, T] ty #[.slice base n c, v]).run P w = .ok r W1) :
    Calls P f #[.slice base n c, .int .i64 n, v] w fun e w' => e = .returned r ∧ w' = W1 := by
  obtain ⟨p, vc, rfl⟩ := hv
  have tT := L.tT; have tI := L.tI; have tB := L.tB
  have uT := run_underlying L.tT; have uI := run_underlying L.tI; have uB := run_underlying L.tB
  have zT := L.zT; have zI := L.zI; have zB := L.zB
  have mixed := L.mixed
  have hz1 : ¬ ((m : Int) = 0) := by omega
  refine calls_of_wp L.hf L.hb ?_
  have hr := L.hr
  simp only [L.hn, List.size_toArray, List.length_cons, List.length_nil, Nat.reduceAdd, Nat.reduceSub, Array.replicate_succ,
     Array.replicate_zero, List.push_toArray, List.append_toArray, List.nil_append, List.cons_append]
  unfold nN
  cases base with
  | none =>
    have h0 := hnil rfl
    subst h0
    have hn0 : n = 0 := by omega
    subst hn0
    go_wp2_with (at_builtin; refine Lib.wpList_append_run _ rfl _ _ _ _ rfl _ _ rfl rfl _ _ (hrun _) ?_)
    exact ⟨rfl, r, dK hr rfl, rfl, rfl⟩
  | some a =>
    obtain ⟨ab, ao, asp⟩ := a
    go_wp2_with (at_builtin; refine Lib.wpList_append_run _ rfl _ _ _ _ rfl _ _ rfl rfl _ _ (hrun _) ?_)
    all_goals exact ⟨rfl, r, dK hr rfl, rfl, rfl⟩
end
section
variable {P:Program}
theorem nO {T e:TypeId} (hT:P.underlying T=some (.slice e)) {sz:Nat} (hsz:∀ w,(Go.sizeOf e).run P w=.ok sz w) (W:World) (b o dLen:Nat) (src:Addr) (sLen k:Nat)
  (hk:Nat.min sLen dLen=k) (ws:List Value) (hws:ws.length=k*sz) (hcells:∀ (j:Nat) (w:Value),ws[j]?=some w→W.cell? (src.add j)=some w) {c:Array Value} {ct:TypeId} {fr:Nat×Nat}
  (hb:W.heap[b]?=some (.cells c ct fr)) (ones:∀ v∈ws,v.oneCell'=true) (hle:o+ws.length≤c.size) (hfz:∀ j,o≤j→j<o+ws.length→¬ (fr.1≤j∧j<fr.2)):
  ∃ W',(∀ ty dc sc,(Builtin.copy_ #[T,T] ty #[.slice (some ⟨b,o,none⟩) dLen dc,.slice (some src) sLen sc]).run P W=.ok (.int .i64 k) W')∧W'.heap[b]?=some (.cells (aM c o ws) ct fr) ∧
   (∀ k,k≠b→W'.heap[k]?=W.heap[k]?)∧W'.heap.size=W.heap.size∧Same W W':=by
 obtain ⟨W',s1,s2,s3,s4,s5⟩:=cE (P:=P) (b:=b) (o:=o) (ty:=ct) (fr:=fr) ws 0 W c hb ones (by simpa using hle) (by simpa using hfz)
 refine ⟨W',fun ty dc sc=>?_,by simpa using s2,s3,s4,s5⟩
 have hl:=run_loadCells_list (P:=P) W src ws hcells
 rw [hws] at hl
 unfold Builtin.copy_
 simp only [Sem.run_bind,run_underlying hT,Result.andThen_ok,hsz,Builtin.lenOf,Sem.run_pure,hk,Builtin.firstCells,hl,s1]
 simp [run_underlying hT,hsz,Builtin.lenOf,hk,Builtin.firstCells,hl,s1,goInt]
end
section
variable {P:Program}
theorem aB5 {G:Gh} {es n k m o:Nat} {old xs:List (List V)} {os ws:List Value} {c:Array Value} (hk:k≤n) (hol:old.length=n) (hold:∀ x∈old,x.length=es) (hxl:∀ x∈xs,x.length=es) (hm:xs.length=m)
  (ho:VRs G old.flatten os) (hw:VRs G xs.flatten ws)
  (h1:∀ j w,j<k*es→os[j]?=some w→c[o+j]?=some w) (h2:∀ j w,ws[j]?=some w→c[o+(k*es+j)]?=some w)
  (h3:∀ j w,k*es≤j→os[j]?=some w→c[o+(m*es+j)]?=some w):
  RowR G c o es (old.take k++(xs++old.drop k)):=by
 have hosl:os.length=n*es:=by rw [←ho.length,aX _ _ hold,hol]
 have hwl:ws.length=m*es:=by rw [←hw.length,aX _ _ hxl,hm]
 have hks:k*es≤n*es:=Nat.mul_le_mul_right es hk
 have hsplit:old.flatten=(old.take k).flatten++(old.drop k).flatten:=by rw [←List.flatten_append,List.take_append_drop]
 have htl:(old.take k).flatten.length=k*es:=by
  rw [aX es _ (fun x hx=>hold x (List.mem_of_mem_take hx)),List.length_take,Nat.min_eq_left (by omega)]
 have ht:VRs G (old.take k).flatten (os.take (k*es)):=by
  have:=ho.take (k*es)
  rw [hsplit,List.take_append_of_le_length (by omega),List.take_of_length_le (by omega)] at this
  exact this
 have hd:VRs G (old.drop k).flatten (os.drop (k*es)):=by
  refine VRs.of ?_ fun i v w hv hw=>?_
  ·rw [aX es _ (fun x hx=>hold x (List.mem_of_mem_drop hx)),List.length_drop,List.length_drop,hosl,hol,Nat.sub_mul]
  ·rw [List.getElem?_drop] at hw
   have:old.flatten[k*es+i]?=some v:=by
    rw [hsplit,List.getElem?_append_right (by omega),htl]
    rw [show k*es+i - k*es=i by omega];exact hv
   obtain ⟨w',e1,e2⟩:=ho.get this
   rw [e1] at hw;cases hw;exact e2
 refine fW (ws:=os.take (k*es)++(ws++os.drop (k*es))) ?_ ?_ ?_
 ·intro x hx
  rcases List.mem_append.1 hx with hx | hx
  ·exact hold x (List.mem_of_mem_take hx)
  ·rcases List.mem_append.1 hx with hx | hx
   ·exact hxl x hx
   ·exact hold x (List.mem_of_mem_drop hx)
 ·rw [List.flatten_append,List.flatten_append]
  exact ht.append (hw.append hd)
 ·intro j w hj
  have hlt:(os.take (k*es)).length=k*es:=by simp;omega
  rcases Nat.lt_or_ge j (k*es) with q | q
  ·rw [List.getElem?_append_left (by omega),List.getElem?_take,if_pos q] at hj
   exact h1 j w q hj
  ·rw [List.getElem?_append_right (by omega),hlt] at hj
   rcases Nat.lt_or_ge (j - k*es) ws.length with q2 | q2
   ·rw [List.getElem?_append_left q2] at hj
    have:=h2 (j - k*es) w hj
    rw [show k*es+(j - k*es)=j by omega] at this;exact this
   ·rw [List.getElem?_append_right q2,List.getElem?_drop,hwl] at hj
    have:=h3 (k*es+(j - k*es - m*es)) w (by omega) hj
    rw [show m*es+(k*es+(j - k*es - m*es))=j by omega] at this
    exact this
end
section
variable {P:Program}
theorem rC {a b k:Nat} (h1:k≤a∧k≤b) (h2:k=a∨k=b):Nat.min a b=k:=by
 show min a b=k
 omega
theorem aF4 {f:FuncId} {T e I B:TypeId} {ov rr:FuncId} {fn:Func} (L:InsAt P f T e I B ov rr fn) {W:World} {b o n c k vb vo m vc es:Nat} (hes:sz P e=es)
  (hk:k<n) (hm:0<m) (hroom:n+m≤c) (hlim:n+m<4294967296) (hvb:vb≠b)
  {ca:Array Value} {cty:TypeId} {cfr:Nat×Nat} (hcb:W.heap[b]?=some (.cells ca cty cfr)) (hin:o+c*es≤ca.size) (hfz:∀ j,o≤j→j<o+c*es→¬ (cfr.1≤j∧j<cfr.2))
  {cv:Array Value} {vty:TypeId} {vfr:Nat×Nat} (hcv:W.heap[vb]?=some (.cells cv vty vfr)) (hfv:¬ (vfr.1≤vo∧vo<vfr.2)) (hfe:¬ (vfr.1≤cv.size∧cv.size<vfr.2))
  {os ws:List Value} (hos:os.length=n*es) (hws:ws.length=m*es) (ho:∀ (j:Nat) (w:Value),os[j]?=some w→ca[o+j]?=some w) (hw:∀ (j:Nat) (w:Value),ws[j]?=some w→cv[vo+j]?=some w)
  (h1o:∀ v∈os,v.oneCell'=true) (h1w:∀ v∈ws,v.oneCell'=true) (hpos:0<es):
  ∃ W2,Calls P f #[.slice (some ⟨b,o,none⟩) n c,.int .i64 k,.slice (some ⟨vb,vo,none⟩) m vc] W (fun e w'=>e=.returned (.slice (some ⟨b,o,none⟩) (n+m) c)∧w'=W2) ∧
   W2.heap[b]?=some (.cells (aM (aM ca (o+(k+m)*es) (os.drop (k*es))) (o+k*es) ws) cty cfr)∧(∀ i,i≠b→W2.heap[i]?=W.heap[i]?)∧W2.heap.size=W.heap.size∧Same W W2:=by
 have m1:(n+m)*es≤c*es:=Nat.mul_le_mul_right es hroom
 have m2:k*es≤n*es:=Nat.mul_le_mul_right es (by omega)
 have e1:(n+m)*es=n*es+m*es:=Nat.add_mul ..
 have e2:(k+m)*es=k*es+m*es:=Nat.add_mul ..
 have hzE:∀ w,(Go.sizeOf e).run P w=.ok es w:=by intro w;rw [←hes];exact L.zE w
 have htl:(os.drop (k*es)).length=(n - k)*es:=by rw [List.length_drop,hos,Nat.sub_mul]
 have e3:(n - k)*es=n*es - k*es:=Nat.sub_mul ..
 obtain ⟨W1,r1,s1,s2,s3,s4⟩:=nO (P:=P) L.tT hzE W.drew b (o+(k+m)*es) (n+m - (k+m)) ⟨b,o+k*es,none⟩ (n+m - k) (n - k) (rC (by omega) (by omega)) (os.drop (k*es)) htl
  (fun j w hj=>by
   rw [Addr.add_lit,Nat.add_assoc]
   have:W.cell? ⟨b,o+(k*es+j),none⟩=some w:=by
    rw [bK hcb]
    exact ho _ w (by rw [List.getElem?_drop] at hj;exact hj)
   exact this) (c:=ca) (ct:=cty) (fr:=cfr) hcb (fun v hv=>h1o v (List.mem_of_mem_drop hv)) (by omega) (fun j hj1 hj2=>hfz j (by omega) (by omega))
 obtain ⟨W2,q1,t1,t2,t3,t4⟩:=nO (P:=P) L.tT hzE W1 b (o+k*es) (n+m - k) ⟨vb,vo,none⟩ m m (rC (by omega) (by omega)) ws hws
  (fun j w hj=>by
   rw [Addr.add_lit]
   have h0:W1.heap[vb]?=some (.cells cv vty vfr):=by rw [s2 vb hvb];exact hcv
   rw [bK h0]
   exact hw j w hj) (c:=_) (ct:=cty) (fr:=cfr) s1 h1w (by rw [aO];omega) (fun j hj1 hj2=>hfz j (by omega) (by omega))
 refine ⟨W2,?_,t1,fun i hi=>(t2 i hi).trans (s2 i hi),t3.trans s3,((Same.drew W).trans s4).trans t4⟩
 refine aDh L b o es n c k vb vo m vc W W1 W2 hk hm hroom (by omega) hzE (fun lb cb=>?_) (fun ty dc sc=>?_) (fun ty dc=>?_)
 ·rw [L.hov,run_overlaps_apart W T B e L.tT es hzE ⟨vb,vo,none⟩ ⟨b,o+(k+m)*es,none⟩ m vc lb cb hvb vty cty cv.size ca.size]
  ·rfl
  ·simp [World.shape?,hcv]
  ·simp [World.shape?,hcb]
  ·have:0<c*es:=Nat.mul_pos (by omega) hpos
   omega
  ·simp only [World.frozen?,hcv,Bool.and_eq_false_iff,decide_eq_false_iff_not];omega
  ·simp only [World.frozen?,hcv,Bool.and_eq_false_iff,decide_eq_false_iff_not];omega
 ·exact r1 ty dc sc
 ·exact q1 ty dc vc
end
section
variable {P:Program}
theorem aA0 {f:FuncId} {T e I B:TypeId} {ov rr:FuncId} {fn:Func} (L:InsAt P f T e I B ov rr fn) {W:World} {b o n c k vb vo m vc es:Nat} (hes:sz P e=es) {z:V} (hz:aF P e=some z) (hzl:z.cells.length=es)
  (hbig:(n+m)*P.bytesOf e≤35184372088832)
  (hk:k<n) (hm:0<m) (hnc:n≤c) (hroom:c<n+m) (hlim:n+m<4294967296)
  {ca:Array Value} {cty:TypeId} {cfr:Nat×Nat} (hcb:W.heap[b]?=some (.cells ca cty cfr))
  {cv:Array Value} {vty:TypeId} {vfr:Nat×Nat} (hcv:W.heap[vb]?=some (.cells cv vty vfr))
  {os ws:List Value} (hos:os.length=n*es) (hws:ws.length=m*es) (ho:∀ (j:Nat) (w:Value),os[j]?=some w→ca[o+j]?=some w) (hw:∀ (j:Nat) (w:Value),ws[j]?=some w→cv[vo+j]?=some w)
  (h1o:∀ v∈os,v.oneCell'=true) (h1w:∀ v∈ws,v.oneCell'=true) (hpos:0<es):
  ∃ W3 g row,n+m≤g∧Calls P f #[.slice (some ⟨b,o,none⟩) n c,.int .i64 k,.slice (some ⟨vb,vo,none⟩) m vc] W (fun e w'=>e=.returned (.slice (some ⟨W.heap.size,0,none⟩) (n+m) g)∧w'=W3) ∧
   row.size=g*es∧(∀ (j:Nat) (w:Value),j<k*es→os[j]?=some w→row[j]?=some w) ∧
   W3.heap[W.heap.size]?=some (.cells (aM (aM row (k*es) ws) ((k+m)*es) (os.drop (k*es))) e)∧(∀ i,i<W.heap.size→W3.heap[i]?=W.heap[i]?)∧W3.heap.size=W.heap.size+1∧Same W W3:=by
 have hzE:∀ w,(Go.sizeOf e).run P w=.ok es w:=by intro w;rw [←hes];exact L.zE w
 obtain ⟨i,zw,hi,hzw,hzv⟩:=cU hz
 have hisz:i.size=es:=by rw [←eC hi];exact hes
 have hib:P.bytesOf e=i.bytes:=iT hi
 have hzs:zw.cells.size=es:=by
  have:=(cN (⟨fun _=>none,fun _=>none,fun _=>none,fun _=>0⟩:Gh) hzv).cells.length
  simp at this;omega
 have e1:(n+m)*es=n*es+m*es:=Nat.add_mul ..
 have e2:(k+m)*es=k*es+m*es:=Nat.add_mul ..
 have e3:(n - k)*es=n*es - k*es:=Nat.sub_mul ..
 have m2:k*es≤n*es:=Nat.mul_le_mul_right es (by omega)
 have hge:=iL W (n+m) c e (by omega)
 have hgs:(n+m)*es≤grownCap W (n+m) c e*es:=Nat.mul_le_mul_right es hge
 rw [hib] at hbig
 have hkk:k+(n+m - k)=n+m:=by omega
 have htk:(os.take (k*es)).length=k*es:=by rw [List.length_take];omega
 have hold:(Builtin.firstCells i.size k (.slice (some ⟨b,o,none⟩) k c)).run P W.drew=.ok (os.take (k*es)).toArray W.drew:=by
  simp only [Builtin.firstCells]
  have:=run_loadCells_list (P:=P) W.drew ⟨b,o,none⟩ (os.take (k*es)) (fun j w hj=>by
   rw [Addr.add_lit]
   have:W.cell? ⟨b,o+j,none⟩=some w:=by
    rw [bK hcb]
    rw [List.getElem?_take] at hj
    split at hj
    ·exact ho j w hj
    ·cases hj
   exact this)
  rw [htk] at this
  rw [hisz];exact this
 have hfit:=growslice_fits (need:=n+m) (old:=c) (bytes:=i.bytes) (by omega) (by omega)
 have hrz:∀ ty,(Builtin.append_ #[T,I] ty #[.slice (some ⟨b,o,none⟩) k c,.int .i64 ((n:Int)+(m:Int) - (k:Int))]).run P W=
   .ok (.slice (some ⟨W.heap.size,0,none⟩) (n+m) (grownCap W (n+m) c e)) (W.drew.alloc (.cells ((os.take (k*es)).toArray++Builtin.zeroCells zw.cells (n+m - k)++Builtin.zeroCells zw.cells (grownCap W (n+m) c e - (n+m))) e)):=fun ty=>by
  have h48:(n+m - k)*i.bytes≤281474976710656:=by
   have:(n+m - k)*i.bytes≤(n+m)*i.bytes:=Nat.mul_le_mul_right _ (by omega)
   omega
  have h:=run_append_grow_zeros W T I ty e i zw .i64 .i64 L.tT L.tI hi hzw (some ⟨b,o,none⟩) k c (os.take (k*es)) hold (n+m - k) (by omega) (by omega) (by omega) (by omega) h48 (by rw [hkk];exact hfit)
  rw [hkk] at h
  rw [show (n:Int)+(m:Int) - (k:Int)=((n+m - k:Nat):Int) by omega]
  exact h
 have hrs:((os.take (k*es)).toArray++Builtin.zeroCells zw.cells (n+m - k)++Builtin.zeroCells zw.cells (grownCap W (n+m) c e - (n+m))).size=grownCap W (n+m) c e*es:=by
  simp only [Array.size_append,List.size_toArray,dJ,htk,hzs]
  rw [←Nat.add_mul,←Nat.add_mul];congr 1;omega
 have hrow:∀ (j:Nat) (w:Value),j<k*es→os[j]?=some w→((os.take (k*es)).toArray++Builtin.zeroCells zw.cells (n+m - k)++Builtin.zeroCells zw.cells (grownCap W (n+m) c e - (n+m)))[j]?=some w:=by
  intro j w hj hw
  rw [Array.append_assoc,Array.getElem?_append_left (by simp only [List.size_toArray,htk];exact hj)]
  simp only [List.getElem?_toArray,List.getElem?_take,if_pos hj];exact hw
 generalize hR:(os.take (k*es)).toArray++Builtin.zeroCells zw.cells (n+m - k)++Builtin.zeroCells zw.cells (grownCap W (n+m) c e - (n+m))=row at hrz hrs hrow
 generalize hG:grownCap W (n+m) c e=g at hge hgs hrz hrs hR
 have hnew:(W.drew.alloc (.cells row e)).heap[W.heap.size]?=some (.cells row e (0,0)):=heap_alloc_new W.drew (.cells row e)
 have hold1:∀ i,i<W.heap.size→(W.drew.alloc (.cells row e)).heap[i]?=W.heap[i]?:=fun i hi=>by
  show (W.heap.push (.cells row e))[i]?=_
  rw [Array.getElem?_push,if_neg (by omega)]
 have hbs:b<W.heap.size:=(Array.getElem?_eq_some_iff.1 hcb).1
 have hvs:vb<W.heap.size:=(Array.getElem?_eq_some_iff.1 hcv).1
 obtain ⟨W2,q1,t1,t2,t3,t4⟩:=nO (P:=P) L.tT hzE (W.drew.alloc (.cells row e)) W.heap.size (k*es) (n+m - k) ⟨vb,vo,none⟩ m m (rC (by omega) (by omega)) ws hws
  (fun j w hj=>by
   rw [Addr.add_lit]
   have h0:(W.drew.alloc (.cells row e)).heap[vb]?=some (.cells cv vty vfr):=by rw [hold1 vb hvs];exact hcv
   rw [bK h0]
   exact hw j w hj) (c:=row) (ct:=e) (fr:=(0,0)) hnew h1w (by omega) (fun j _ _=>by simp)
 have htl:(os.drop (k*es)).length=(n - k)*es:=by rw [List.length_drop,hos,Nat.sub_mul]
 obtain ⟨W3,r1,s1,s2,s3,s4⟩:=nO (P:=P) L.tT hzE W2.drew W.heap.size ((k+m)*es) (n+m - (k+m)) ⟨b,o+k*es,none⟩ (n - k) (n - k) (rC (by omega) (by omega)) (os.drop (k*es)) htl
  (fun j w hj=>by
   rw [Addr.add_lit,Nat.add_assoc]
   have h0:W2.drew.heap[b]?=some (.cells ca cty cfr):=by
    show W2.heap[b]?=_
    rw [t2 b (by omega),hold1 b hbs];exact hcb
   have:W2.drew.cell? ⟨b,o+(k*es+j),none⟩=some w:=by
    rw [bK h0]
    exact ho _ w (by rw [List.getElem?_drop] at hj;exact hj)
   exact this) (c:=_) (ct:=e) (fr:=(0,0)) t1 (fun v hv=>h1o v (List.mem_of_mem_drop hv)) (by rw [aO];omega) (fun j _ _=>by simp)
 refine ⟨W3,g,row,hge,?_,hrs,hrow,s1,fun i hi=>?_,?_,(((Same.drew W).trans (Same.alloc _ _)).trans t4).trans ((Same.drew W2).trans s4)⟩
 ·exact aF3 L b o W.heap.size es n c k vb vo m vc g W _ W2 W3 hk hm hnc hroom hge (by omega) hzE hrz (fun ty dc=>q1 ty dc vc) r1
 ·rw [s2 i (by omega)]
  show W2.heap[i]?=_
  rw [t2 i (by omega)];exact hold1 i hi
 ·rw [s3]
  show W2.heap.size=_
  rw [t3];simp
end
section
variable {P:Program}
theorem vY {f:FuncId} {T e I B:TypeId} {ov rr:FuncId} {fn:Func} (L:InsAt P f T e I B ov rr fn) {s i x v:V} {S S':St} (h:qU P T s i x S=.ok (v,S'))
  {F:Nat→Option Obj} {G:Gh} {W:World} (R:cO F G S W.heap) {a b c:Value} (ha:VR G s a) (hb:VR G i b) (hc:VR G x c):
  Calls P f #[a,b,c] W fun e W'=>∃ G' w,e=.returned w∧Sim F none G S W G' S' W'∧VR G' v w:=by
 unfold qU at h
 have het:gB P T=some e:=by unfold gB;rw [L.tT]
 rw [het] at h
 split at h
 ·rename_i e0 i0 bb bv bes boff blen he0
  cases he0
  cases hb
  split at h
  ·cases h
  ·rename_i xs hxs
   rw [cond_eq_ite] at h
   split at h
   ·cases h
   ·rename_i hsz0
    have hpos:0<blen:=by
     rcases Nat.eq_zero_or_pos blen with q | q
     ·subst q;simp at hsz0
     ·exact q
    have hend:∀ {s:V} {a:Value} {v:V} {S':St},VR G s a→cX P T s (.sl bb bv bes boff blen) none S=.ok (v,S')→∃ W' G' w,(∀ ty,(Builtin.append_ #[T,T] ty #[a,c]).run P W=.ok w W')∧Sim F none G S W G' S' W'∧VR G' v w:=by
     intro s a v S' ha hv
     obtain ⟨W',G',w,w1,w2,w3⟩:=jU (ty:=T) (t:=T) (u:=T) (ts:=#[T,T]) rfl rfl (.inl ⟨e,L.tT⟩) hv R (fun k hk=>by cases hk) ha hc
     exact ⟨W',G',w,fun ty=>w1,w2,w3⟩
    cases hc with
    | sl _ _ _ _ _ vp vn vc hvsl=>
     obtain ⟨rfl,hvc,LB,hLB,hvsl⟩:=hvsl
     split at h
     ·rw [cond_eq_ite] at h
      split at h
      ·rename_i hi0
       have hi0':i0=0:=by simpa using hi0
       subst hi0'
       cases ha
       obtain ⟨W',G',w,w1,w2,w3⟩:=hend .nils h
       refine (aB4 L none 0 0 vn _ ⟨some vp,vc,rfl⟩ W W' hpos w (fun _=>rfl) (Nat.le_refl _) _ L.zE w1).mono ?_
       rintro e W2 ⟨rfl,rfl⟩
       exact ⟨G',w,rfl,w2,w3⟩
      ·cases h
     ·rename_i a0 ver es0 off len
      have ha':=ha
      cases ha with
      | sl _ _ _ _ _ p n c hsl=>
       obtain ⟨rfl,hnc,L0,hL0,hsl⟩:=hsl
       rw [cond_eq_ite] at h
       split at h
       ·rename_i hi0
        have hi0':i0=(n:Int):=by simpa using hi0
        subst hi0'
        obtain ⟨W',G',w,w1,w2,w3⟩:=hend ha' h
        refine (aB4 L (some p) n c vn _ ⟨some vp,vc,rfl⟩ W W' hpos w (fun h=>by cases h) hnc _ L.zE w1).mono ?_
        rintro e W2 ⟨rfl,rfl⟩
        exact ⟨G',w,rfl,w2,w3⟩
       ·rename_i hin
        rw [cond_eq_ite] at h
        split at h
        ·cases h
        ·rename_i hck
         simp only [Bool.or_eq_true,Nat.beq_eq,decide_eq_true_eq,Bool.not_eq_true',not_or,Bool.not_eq_false,Bool.and_eq_true] at hck
         obtain ⟨⟨⟨hab,hi1⟩,hi2⟩,⟨hall,hones⟩,hzf⟩:=hck
         split at h
         ·cases h
         ·rename_i es elems hrow
          have hr:=dA hrow
          rw [cond_eq_ite] at h
          split at h
          ·rename_i hok
           simp only [Bool.and_eq_true,Nat.ble_eq,Nat.beq_eq,sY,Nat.blt_eq] at hok
           obtain ⟨⟨⟨hle,hes⟩,hroom,hlm⟩,hone0⟩:=hok
           have hi0:(i0.toNat:Int)=i0:=Int.toNat_of_nonneg (by omega)
           have hik:i0.toNat<n:=by
            have:i0≠(n:Int):=by simpa using hin
            omega
           generalize i0.toNat=k at hi0 hik h
           subst hi0
           cases h
           have hxl:∀ cs∈xs,cs.length=es:=by
            intro cs hcs
            have:=List.all_eq_true.1 hall cs hcs
            rw [hes];simpa using this
           have hes2:1<es:=by
            rcases Nat.lt_or_ge 1 es with q | q
            ·exact q
            ·rw [hes] at q
             exact absurd (by simp [q]) hsz0
           obtain ⟨z,hz,hzl⟩:∃ z,aF P e=some z∧z.cells.length=es:=by
            unfold hM at hzf
            split at hzf
            ·rename_i z hz;exact ⟨z,hz,by rw [hes];simpa using hzf⟩
            ·cases hzf
           unfold aN at hxs
           simp only at hxs
           split at hxs
           ·cases hxs
           ·rename_i bes' belems hrowb
            have hrb:=dA hrowb
            rw [cond_eq_ite] at hxs
            split at hxs
            ·rename_i hleb
             have hleb:boff+vn≤belems.length:=by simpa using hleb
             cases hxs
             have hxn:((belems.drop boff).take vn).length=vn:=by simp;omega
             rw [hxn] at hroom hlm ⊢
             generalize hX:(belems.drop boff).take vn=xs at hall hones hxl hxn
             obtain ⟨L',hL',r1,r2,r3,ca,cty,cfr,hcb,r4,r5,r6⟩:=R.blk a0 _ hr
             rw [hL0] at hL';cases hL'
             obtain ⟨L',hL',q1,q2,q3,cv,vty,vfr,hcv,q4,q5,q6⟩:=R.blk bb _ hrb
             rw [hLB] at hL';cases hL'
             rcases hsl with hsl | ⟨_,_,hc2,hp⟩
             ·omega
             rcases hvsl with hvsl | ⟨_,_,hvc2,hvp⟩
             ·omega
             have hpe:=hp (by omega)
             have hve:=hvp (by omega)
             have hbesE:bes'=es:=by
              have hin:boff<belems.length:=by omega
              have hmem:belems[boff]∈xs:=by
               rw [←hX,List.mem_iff_getElem?]
               exact ⟨0,by rw [List.getElem?_take,if_pos hpos];simp⟩
              rw [←hxl _ hmem]
              exact ((q6 boff belems[boff] (by simp)).1).symm
             subst hbesE
             rw [r2] at hpe
             rw [q2] at hve
             subst hpe hve
             have hne:LB.cb≠L0.cb:=by
              intro e0
              exact hab (R.inj a0 bb _ _ L0.cb hr hrb (.inl ⟨L0,hL0,rfl⟩) (.inl ⟨LB,hLB,e0⟩))
             obtain ⟨os,o1,o2⟩:=r6.flat off n hle
             obtain ⟨ws,w1,w2⟩:=q6.flat boff vn hleb
             rw [hX] at w1
             generalize hO:(elems.drop off).take n=old at o1 hone0 ⊢
             have hol:old.length=n:=by rw [←hO];simp;omega
             have holdl:∀ x∈old,x.length=bes':=by
              intro x hx
              rw [←hO] at hx
              exact r6.lens x (List.mem_of_mem_drop (List.mem_of_mem_take hx))
             have hosl:os.length=n*bes':=by rw [←o1.length,aX _ _ holdl,hol]
             have hwl:ws.length=vn*bes':=by rw [←w1.length,aX _ _ hxl,hxn]
             have h1o:∀ v∈os,v.oneCell'=true:=o1.ones (by
              refine List.all_eq_true.2 fun v hv=>?_
              obtain ⟨l,hl,hvl⟩:=List.mem_flatten.1 hv
              exact eB (List.all_eq_true.1 hone0 l hl) hvl)
             have h1w:∀ v∈ws,v.oneCell'=true:=w1.ones (by
              refine List.all_eq_true.2 fun v hv=>?_
              obtain ⟨l,hl,hvl⟩:=List.mem_flatten.1 hv
              exact eB (List.all_eq_true.1 hones l hl) hvl)
             have hnl:(old.take k++(xs++old.drop k)).length=n+vn:=by
              simp [hol,hxn];omega
             have hcap:(off+c)*bes'≤L0.cap*bes':=Nat.mul_le_mul_right _ hc2
             have hbc:(boff+vc)*bes'≤LB.cap*bes':=Nat.mul_le_mul_right _ hvc2
             have hb1:1*bes'≤vc*bes':=Nat.mul_le_mul_right _ (by omega)
             rw [Nat.add_mul] at hcap hbc
             have hkn:k*bes'≤n*bes':=Nat.mul_le_mul_right _ (by omega)
             have hkm:(k+vn)*bes'=k*bes'+vn*bes':=Nat.add_mul ..
             have hdl:(os.drop (k*bes')).length=n*bes' - k*bes':=by simp [hosl]
             unfold fZ at hlm
             rcases Nat.lt_or_ge c (n+vn) with hfit | hfit
             ·
              obtain ⟨W3,g,row,hg,hcall,hrs,hrow0,s1,s2,s3,s4⟩:=aA0 L (W:=W) (b:=L0.cb) (o:=L0.co+off*bes') (n:=n) (c:=c) (k:=k) (vb:=LB.cb) (vo:=LB.co+boff*bes') (m:=vn) (vc:=vc) (es:=bes') hes.symm hz hzl hroom hik hpos hnc hfit (by omega) hcb hcv hosl hwl o2 w2 h1o h1w (by omega)
              have hgs:(n+vn)*bes'≤g*bes':=Nat.mul_le_mul_right _ hg
              rw [Nat.add_mul] at hgs
              obtain ⟨g1,g2⟩:=R.setRow (H':=W3.heap) hr hL0 (L':=⟨ver+1,W.heap.size,0,g,bes'⟩) (.inr (by simp;omega)) (.inr rfl)
               (fun i hi _=>s2 i hi) (by omega) (by simp;omega) (ver:=ver+1) (es:=bes') (elems:=old.take k++(xs++old.drop k))
               ⟨rfl,rfl,by simp only [hnl];exact hg,_,e,(0,0),s1,by rw [aO,aO,hrs];simp,⟨fun o _ _=>by simp,fun _=>by simp⟩,by
                refine (aB5 (os:=os) (ws:=ws) (n:=n) (k:=k) (m:=vn) (Nat.le_of_lt hik) hol holdl hxl hxn o1 w1 (fun j w hj hw=>?_) (fun j w hw=>?_) (fun j w hj hw=>?_)).mono (G:=G) (Gh.le_set hL0 (.inr (by simp;omega)))
                ·show (aM (aM row (k*bes') ws) ((k+vn)*bes') (os.drop (k*bes')))[0+j]?=some w
                 rw [bE,if_neg (by omega),bE,if_neg (by omega),Nat.zero_add]
                 exact hrow0 j w hj hw
                ·have hjl:j<ws.length:=(List.getElem?_eq_some_iff.1 hw).1
                 show (aM (aM row (k*bes') ws) ((k+vn)*bes') (os.drop (k*bes')))[0+(k*bes'+j)]?=some w
                 rw [bE,if_neg (by omega),bE,if_pos (by omega)]
                 rw [show 0+(k*bes'+j) - k*bes'=j by omega];exact hw
                ·have hjl:j<os.length:=(List.getElem?_eq_some_iff.1 hw).1
                 show (aM (aM row (k*bes') ws) ((k+vn)*bes') (os.drop (k*bes')))[0+(vn*bes'+j)]?=some w
                 rw [bE,aO,if_pos (by omega)]
                 rw [List.getElem?_drop,show k*bes'+(0+(vn*bes'+j) - (k+vn)*bes')=j by omega];exact hw⟩
              refine hcall.mono ?_
              rintro e1 W' ⟨rfl,rfl⟩
              refine ⟨_,.slice (some ⟨W.heap.size,0,none⟩) (n+vn) g,rfl,⟨g1,g2,s4,Nat.le_refl _,fun y hy _ _=>⟨?_,rfl⟩,fun y hy _ _=>?_,fun _ _ h=>.inl h⟩,?_⟩
              ·have:y≠a0:=fun e=>by rw [e,hr] at hy;cases hy
               simp [this]
              ·show (S.heap.put a0 _).get y=none
               rw [Tr.get_put_neB _ _ _ _ (R.small a0 _ hr) (fun e=>by rw [e,hr] at hy;cases hy)];exact hy
              ·exact .sl _ _ _ _ _ _ _ _ ⟨rfl,hg,⟨ver+1,W.heap.size,0,g,bes'⟩,by simp,.inr ⟨rfl,rfl,by simp,fun _=>by simp⟩⟩
             ·
              have hfc:(n+vn)*bes'≤c*bes':=Nat.mul_le_mul_right _ hfit
              rw [Nat.add_mul] at hfc
              obtain ⟨W2,hcall,s1,s2,s3,s4⟩:=aF4 L (W:=W) (b:=L0.cb) (o:=L0.co+off*bes') (n:=n) (c:=c) (k:=k) (vb:=LB.cb) (vo:=LB.co+boff*bes') (m:=vn) (vc:=vc) (es:=bes') hes.symm hik hpos hfit (by omega) hne
               hcb (by omega) (fun j hj1 hj2=>r5.1 j (by omega) (by omega)) hcv (q5.1 _ (by omega) (by omega)) (q5.2 (by omega)) hosl hwl o2 w2 h1o h1w (by omega)
              obtain ⟨g1,g2⟩:=R.setRow (H':=W2.heap) hr hL0 (L':=⟨ver+1,L0.cb,L0.co+off*bes',c,bes'⟩) (.inr (by simp;omega)) (.inl rfl)
               (fun i _ hi=>s2 i hi) (by omega) (by have:=R.lt a0 L0.cb (.inl ⟨L0,hL0,rfl⟩);simp only;omega) (ver:=ver+1) (es:=bes') (elems:=old.take k++(xs++old.drop k))
               ⟨rfl,rfl,by simp only [hnl];exact hfit,_,cty,cfr,s1,by rw [aO,aO];simp only;omega,⟨fun o h1 h2=>r5.1 o (by simp only at h1;omega) (by simp only at h2;omega),fun h=>by rw [aO,aO];exact r5.2 h⟩,by
                refine (aB5 (os:=os) (ws:=ws) (n:=n) (k:=k) (m:=vn) (Nat.le_of_lt hik) hol holdl hxl hxn o1 w1 (fun j w hj hw=>?_) (fun j w hw=>?_) (fun j w hj hw=>?_)).mono (G:=G) (Gh.le_set hL0 (.inr (by simp;omega)))
                ·show (aM (aM ca (L0.co+off*bes'+(k+vn)*bes') (os.drop (k*bes'))) (L0.co+off*bes'+k*bes') ws)[L0.co+off*bes'+j]?=some w
                 rw [bE,if_neg (by omega),bE,if_neg (by omega)]
                 exact o2 j w hw
                ·have hjl:j<ws.length:=(List.getElem?_eq_some_iff.1 hw).1
                 show (aM (aM ca (L0.co+off*bes'+(k+vn)*bes') (os.drop (k*bes'))) (L0.co+off*bes'+k*bes') ws)[L0.co+off*bes'+(k*bes'+j)]?=some w
                 rw [bE,aO,if_pos (by omega)]
                 rw [show L0.co+off*bes'+(k*bes'+j) - (L0.co+off*bes'+k*bes')=j by omega];exact hw
                ·have hjl:j<os.length:=(List.getElem?_eq_some_iff.1 hw).1
                 show (aM (aM ca (L0.co+off*bes'+(k+vn)*bes') (os.drop (k*bes'))) (L0.co+off*bes'+k*bes') ws)[L0.co+off*bes'+(vn*bes'+j)]?=some w
                 rw [bE,if_neg (by omega),bE,if_pos (by omega)]
                 rw [List.getElem?_drop,show k*bes'+(L0.co+off*bes'+(vn*bes'+j) - (L0.co+off*bes'+(k+vn)*bes'))=j by omega];exact hw⟩
              refine hcall.mono ?_
              rintro e1 W' ⟨rfl,rfl⟩
              refine ⟨_,.slice (some ⟨L0.cb,L0.co+off*bes',none⟩) (n+vn) c,rfl,⟨g1,g2,s4,Nat.le_refl _,fun y hy _ _=>⟨?_,rfl⟩,fun y hy _ _=>?_,fun _ _ h=>.inl h⟩,?_⟩
              ·have:y≠a0:=fun e=>by rw [e,hr] at hy;cases hy
               simp [this]
              ·show (S.heap.put a0 _).get y=none
               rw [Tr.get_put_neB _ _ _ _ (R.small a0 _ hr) (fun e=>by rw [e,hr] at hy;cases hy)];exact hy
              ·exact .sl _ _ _ _ _ _ _ _ ⟨rfl,hfit,⟨ver+1,L0.cb,L0.co+off*bes',c,bes'⟩,by simp,.inr ⟨rfl,rfl,by simp,fun _=>by simp⟩⟩
            ·cases hxs
          ·cases h
     ·cases h
 ·cases h
end
end Go.AM
end
section
namespace Go.AM
def rD (T I B:TypeId):Code:=
 ((Code.region 0 #[
  { dst:=some 6,op:=Op.assign (Operand.const (Value.slice none 0 0)),type:=T,pos := "slices.go:224",after:=#[],guard:=none }] false).seq ((Code.region 1 #[
  { dst:=some 8,op:=Op.move (Operand.tmp 0),type:=T,pos := "slices.go:225",after:=#[],guard:=none },
  { dst:=some 9,op:=Op.move (Operand.tmp 1),type:=I,pos := "slices.go:225",after:=#[],guard:=none },
  { dst:=some 10,op:=Op.move (Operand.tmp 2),type:=I,pos := "slices.go:225",after:=#[],guard:=none },
  { dst:=some 11,op:=Op.move (Operand.tmp 0),type:=T,pos := "slices.go:225",after:=#[],guard:=none },
  { dst:=some 12,op:=Op.call { callee:=Callee.builtin Builtin.len,args:=#[Operand.tmp 11],argTypes:=#[T] },type:=I,pos := "slices.go:225",after:=#[{ on:=3,ground:=Ground.data }],guard:=none },
  { dst:=some 13,op:=Op.slice T (Operand.tmp 8) (some (Operand.tmp 9)) (some (Operand.tmp 10)) (some (Operand.tmp 12)),type:=T,pos := "slices.go:225",after:=#[{ on:=0,ground:=Ground.data },{ on:=1,ground:=Ground.data },{ on:=2,ground:=Ground.data },{ on:=4,ground:=Ground.data }],guard:=none }] false).seq (((Code.region 2 #[
  { dst:=some 14,op:=Op.move (Operand.tmp 1),type:=I,pos := "slices.go:227",after:=#[],guard:=none },
  { dst:=some 15,op:=Op.move (Operand.tmp 2),type:=I,pos := "slices.go:227",after:=#[],guard:=none },
  { dst:=some 16,op:=Op.binOp BinOp.eql I (Operand.tmp 14) (Operand.tmp 15) I,type:=B,pos := "slices.go:227",after:=#[{ on:=0,ground:=Ground.data },{ on:=1,ground:=Ground.data }],guard:=none }] false).seq (Code.cond (Operand.tmp 16) ((Code.region 3 #[
  { dst:=some 17,op:=Op.move (Operand.tmp 0),type:=T,pos := "slices.go:228",after:=#[],guard:=none },
  { dst:=some 6,op:=Op.assign (Operand.tmp 17),type:=T,pos := "slices.go:228",after:=#[{ on:=0,ground:=Ground.data },{ on:=0,ground:=Ground.phase }],guard:=none }] false).seq Code.ret) Code.skip)).seq ((Code.region 4 #[
  { dst:=some 18,op:=Op.move (Operand.tmp 0),type:=T,pos := "slices.go:231",after:=#[],guard:=none },
  { dst:=some 19,op:=Op.call { callee:=Callee.builtin Builtin.len,args:=#[Operand.tmp 18],argTypes:=#[T] },type:=I,pos := "slices.go:231",after:=#[{ on:=0,ground:=Ground.data }],guard:=none },
  { dst:=some 7,op:=Op.assign (Operand.tmp 19),type:=I,pos := "slices.go:231",after:=#[{ on:=1,ground:=Ground.data },{ on:=0,ground:=Ground.phase },{ on:=1,ground:=Ground.phase }],guard:=none }] false).seq ((Code.region 5 #[
  { dst:=some 20,op:=Op.move (Operand.tmp 0),type:=T,pos := "slices.go:232",after:=#[],guard:=none },
  { dst:=some 21,op:=Op.move (Operand.tmp 1),type:=I,pos := "slices.go:232",after:=#[],guard:=none },
  { dst:=some 22,op:=Op.slice T (Operand.tmp 20) none (some (Operand.tmp 21)) none,type:=T,pos := "slices.go:232",after:=#[{ on:=0,ground:=Ground.data },{ on:=1,ground:=Ground.data }],guard:=none },
  { dst:=some 23,op:=Op.move (Operand.tmp 0),type:=T,pos := "slices.go:232",after:=#[],guard:=none },
  { dst:=some 24,op:=Op.move (Operand.tmp 2),type:=I,pos := "slices.go:232",after:=#[],guard:=none },
  { dst:=some 25,op:=Op.slice T (Operand.tmp 23) (some (Operand.tmp 24)) none none,type:=T,pos := "slices.go:232",after:=#[{ on:=3,ground:=Ground.data },{ on:=4,ground:=Ground.data }],guard:=none },
  { dst:=some 26,op:=Op.call { callee:=Callee.builtin Builtin.append,args:=#[Operand.tmp 22,Operand.tmp 25],argTypes:=#[T,T] },type:=T,pos := "slices.go:232",after:=#[{ on:=2,ground:=Ground.data },{ on:=5,ground:=Ground.data }],guard:=none },
  { dst:=some 0,op:=Op.assign (Operand.tmp 26),type:=T,pos := "slices.go:232",after:=#[{ on:=6,ground:=Ground.data },{ on:=6,ground:=Ground.chain },{ on:=0,ground:=Ground.phase },{ on:=1,ground:=Ground.phase },{ on:=2,ground:=Ground.phase },{ on:=3,ground:=Ground.phase },{ on:=4,ground:=Ground.phase },{ on:=5,ground:=Ground.phase },{ on:=6,ground:=Ground.phase }],guard:=none }] true).seq ((Code.region 6 #[
  { dst:=some 27,op:=Op.move (Operand.tmp 0),type:=T,pos := "slices.go:233",after:=#[],guard:=none },
  { dst:=some 28,op:=Op.move (Operand.tmp 0),type:=T,pos := "slices.go:233",after:=#[],guard:=none },
  { dst:=some 29,op:=Op.call { callee:=Callee.builtin Builtin.len,args:=#[Operand.tmp 28],argTypes:=#[T] },type:=I,pos := "slices.go:233",after:=#[{ on:=1,ground:=Ground.data }],guard:=none },
  { dst:=some 30,op:=Op.move (Operand.tmp 7),type:=I,pos := "slices.go:233",after:=#[],guard:=none },
  { dst:=some 31,op:=Op.slice T (Operand.tmp 27) (some (Operand.tmp 29)) (some (Operand.tmp 30)) none,type:=T,pos := "slices.go:233",after:=#[{ on:=0,ground:=Ground.data },{ on:=2,ground:=Ground.data },{ on:=3,ground:=Ground.data }],guard:=none },
  { dst:=none,op:=Op.call { callee:=Callee.builtin Builtin.clear,args:=#[Operand.tmp 31],argTypes:=#[T] },type:=0,pos := "slices.go:233",after:=#[{ on:=4,ground:=Ground.data }],guard:=none }] false).seq ((Code.region 7 #[
  { dst:=some 32,op:=Op.move (Operand.tmp 0),type:=T,pos := "slices.go:234",after:=#[],guard:=none },
  { dst:=some 6,op:=Op.assign (Operand.tmp 32),type:=T,pos := "slices.go:234",after:=#[{ on:=0,ground:=Ground.data },{ on:=0,ground:=Ground.phase }],guard:=none }] false).seq Code.ret)))))))
end Go.AM
end
section
namespace Go.AM
open Go.RowKit Go.Lib Go.Proofs Go.Shelf
section
variable {P:Program}
structure DelAt (P:Program) (f:FuncId) (T e I B:TypeId) (fn:Func):Prop where
 mixed:P.follows .mixedOrders=true
 hf:P.funcs[f]?=some fn
 hb:fn.body=some (rD T I B)
 hn:fn.ntmps=33
 hr:fn.results=#[.tmp 6]
 tT:P.underlying T=some (.slice e)
 tI:P.underlying I=some (.int .i64)
 tB:P.underlying B=some .bool
 zE:∀ w,(Go.sizeOf e).run P w=.ok (sz P e) w
 zT:∀ w,(Go.sizeOf T).run P w=.ok 1 w
 zI:∀ w,(Go.sizeOf I).run P w=.ok 1 w
 zB:∀ w,(Go.sizeOf B).run P w=.ok 1 w
theorem tG (w:World) {o:Oper} {a:Act} {Q:Exit→Act→World→Prop} {K:Act→World→Prop} (x:Operand) (t:TypeId) (ho:o.op=.call { callee:=.builtin .clear,args:=#[x],argTypes:=#[t] }) (u:Value) (hx:a.eval x=u)
  {v':Value} {w':World} (hr:(Builtin.clear_ #[t] o.type #[u]).run P w=.ok v' w') (hK:K (a.put o.dst v') w'):Oper.wp P o a w K Q:=by
 unfold Oper.wp
 simp [execOp,ho,resolve,invoke,builtin,hx,hr,Result.andThen]
 exact hK
theorem nP (w:World) {ops:Array Oper} {rest:List Oper} {o:Oper} {a:Act} {Q:Exit→Act→World→Prop} (hgd:o.guard=none) (x:Operand) (t:TypeId)
  (ho:o.op=.call { callee:=.builtin .clear,args:=#[x],argTypes:=#[t] }) (u:Value) (hx:a.eval x=u) {v':Value} {w':World}
  (hr:(Builtin.clear_ #[t] o.type #[u]).run P w=.ok v' w') (h:wpList P ops Q rest (a.put o.dst v') w'):wpList P ops Q (o::rest) a w:=
 wpList_plain hgd fun _ hK=>tG w x t ho u hx hr (hK _ _ h)
set_option maxHeartbeats 4000000 in
set_option maxRecDepth 100000 in
theorem aF5 {f : FuncId} {T e I B : TypeId} {fn : Func} (L : DelAt P f T e I B fn) (b off n c i : Nat) (w : World) (hin : i ≤ n) (hnc : n ≤ c) (sz : Nat) (hsz : ∀ w, (Go.sizeOf e).run P w = .ok sz w) (p : Addr) (hp : p.spot = none) :
    Calls P f #[.slice (some p) n c, .int .i64 i, .int .i64 i] w fun e w' => e = .returned (.slice (some p) n c) ∧ w' = w := by
  obtain ⟨pb, po, ps⟩ := p
  simp only at hp
  subst hp
  have tT := L.tT; have tI := L.tI; have tB := L.tB
  have uT := run_underlying L.tT; have uI := run_underlying L.tI; have uB := run_underlying L.tB
  have zT := L.zT; have zI := L.zI; have zB := L.zB
  have mixed := L.mixed
  have hic : i ≤ c := by omega
  refine calls_of_wp L.hf L.hb ?_
  have hr := L.hr
  simp only [L.hn, List.size_toArray, List.length_cons, List.length_nil, Nat.reduceAdd, Nat.reduceSub, Array.replicate_succ,
     Array.replicate_zero, List.push_toArray, List.append_toArray, List.nil_append, List.cons_append]
  unfold rD
  go_wp2
  all_goals first | exact ⟨rfl, .slice (some ⟨pb, po, none⟩) n c, dK hr rfl, rfl, rfl⟩ | exact ⟨rfl, .slice (some ⟨pb, po, none⟩) i c, dK hr rfl, rfl, rfl⟩
set_option maxHeartbeats 4000000 in
set_option maxRecDepth 100000 in
theorem aF6 {f : FuncId} {T e I B : TypeId} {fn : Func} (L : DelAt P f T e I B fn) (b off sz n c i j : Nat) (w W1 W2 : World) (hij : i < j) (hjn : j ≤ n) (hnc : n ≤ c) (hsz : ∀ w, (Go.sizeOf e).run P w = .ok sz w) (A : Addr)
    (hA : (if c = j then some (⟨b, off, none⟩ : Addr) else some ⟨b, off + j * sz, none⟩) = some A) (hc63 : n ≤ 9223372036854775807)
    (hfit : i + (n - j) ≤ c) (cells : Array Value) (hld : (loadCellsFrom A 0 ((n - j) * sz) #[]).run P w.drew = .ok cells w.drew) (hst : (storeCells ⟨b, off + i * sz, none⟩ cells.toList).run P w.drew = .ok () W1)
    (hcl : ∀ ty cx, (Builtin.clear_ #[T] ty #[.slice (some ⟨b, off + (i + (n - j)) * sz, none⟩) (n - (i + (n - j))) cx]).run P W1 = .ok (.tuple #[]) W2) :
    Calls P f #[.slice (some ⟨b, off, none⟩) n c, .int .i64 i, .int .i64 j] w fun e w' => e = .returned (.slice (some ⟨b, off, none⟩) (i + (n - j)) c) ∧ w' = W2 := by
  have tT := L.tT; have tI := L.tI; have tB := L.tB
  have uT := run_underlying L.tT; have uI := run_underlying L.tI; have uB := run_underlying L.tB
  have zT := L.zT; have zI := L.zI; have zB := L.zB
  have mixed := L.mixed
  have hne : ¬ ((i : Int) = (j : Int)) := by omega
  have hic : i ≤ c := by omega
  have hjc : j ≤ c := by omega
  have hcn : ¬ (c = i + (n - j)) := by omega
  refine calls_of_wp L.hf L.hb ?_
  have hr := L.hr
  simp only [L.hn, List.size_toArray, List.length_cons, List.length_nil, Nat.reduceAdd, Nat.reduceSub, Array.replicate_succ,
     Array.replicate_zero, List.push_toArray, List.append_toArray, List.nil_append, List.cons_append]
  unfold rD
  go_wp2_with fail
  go_region_law_o fail
  go_wp2_with (at_builtin; refine nP _ rfl _ _ rfl _ rfl (hcl _ _) ?_)
  refine ⟨rfl, .slice (some ⟨b, off, none⟩) (i + (n - j)) c, dK hr rfl, rfl, rfl⟩
end
section
variable {P:Program}
theorem rZ (c:Array Value) (o:Nat) (a b:List Value):aM c o (a++b)=aM (aM c o a) (o+a.length) b:=by
 induction a generalizing c o with
 | nil=>simp [aM]
 | cons v a ih=>
  simp only [List.cons_append,aM,List.length_cons]
  rw [ih]
  congr 1;omega
theorem VRs.dropRows {G:Gh} {es:Nat} {old:List (List V)} {os:List Value} (hold:∀ x∈old,x.length=es) (ho:VRs G old.flatten os) (j:Nat) (hj:j≤old.length):VRs G (old.drop j).flatten (os.drop (j*es)):=by
 have hsplit:old.flatten=(old.take j).flatten++(old.drop j).flatten:=by rw [←List.flatten_append,List.take_append_drop]
 have htl:(old.take j).flatten.length=j*es:=by
  rw [aX es _ (fun x hx=>hold x (List.mem_of_mem_take hx)),List.length_take,Nat.min_eq_left hj]
 have:=ho.drop (j*es)
 rw [hsplit,←htl,List.drop_left,htl] at this
 exact this
theorem vZ {f:FuncId} {T e I B:TypeId} {fn:Func} (L:DelAt P f T e I B fn) {s i j v:V} {S S':St} (h:qW P T s i j S=.ok (v,S'))
  {F:Nat→Option Obj} {G:Gh} {W:World} (R:cO F G S W.heap) {a b c:Value} (ha:VR G s a) (hb:VR G i b) (hc:VR G j c):
  Calls P f #[a,b,c] W fun e W'=>∃ G' w,e=.returned w∧Sim F none G S W G' S' W'∧VR G' v w:=by
 unfold qW at h
 have het:gB P T=some e:=by unfold gB;rw [L.tT]
 rw [het] at h
 split at h
 ·rename_i e0 a0 ver es0 off len i0 j0 he0
  cases he0
  cases hb
  cases hc
  rw [cond_eq_ite] at h
  split at h
  ·cases h
  ·rename_i hck
   simp only [Bool.or_eq_true,decide_eq_true_eq,Bool.not_eq_true',not_or,Bool.not_eq_false,Nat.beq_eq,Nat.blt_eq] at hck
   obtain ⟨⟨⟨⟨hi0,hji⟩,hjn⟩,hlm⟩,hl0⟩:=hck
   have ha':=ha
   cases ha with
   | sl _ _ _ _ _ p n c hsl=>
    obtain ⟨rfl,hnc,L0,hL0,hsl⟩:=hsl
    have ei:((i0.toNat:Nat):Int)=i0:=Int.toNat_of_nonneg (by omega)
    have ej:((j0.toNat:Nat):Int)=j0:=Int.toNat_of_nonneg (by omega)
    generalize i0.toNat=i at ei h
    generalize j0.toNat=j at ej h
    subst ei ej
    have hij:i≤j:=by omega
    have hjn':j≤n:=by omega
    rw [cond_eq_ite] at h
    split at h
    ·rename_i heq
     have heq':(i:Int)=(j:Int):=by simpa using heq
     have heq2:i=j:=by omega
     clear heq heq'
     subst heq2
     split at h
     ·rename_i x hrow
      cases h
      obtain ⟨es,elems⟩:=x
      have hr:=dA hrow
      obtain ⟨L',hL',r1,r2,r3,ca,cty,cfr,hcb,r4,r5,r6⟩:=R.blk a0 _ hr
      rw [hL0] at hL';cases hL'
      rcases hsl with hsl | ⟨_,_,hc2,hp⟩
      ·omega
      ·have hp':=hp (by omega)
       refine (aF5 L 0 0 n c i W hjn' hnc _ L.zE p (by rw [hp'])).mono ?_
       rintro e1 W' ⟨rfl,rfl⟩
       exact ⟨G,_,rfl,Sim.refl R,ha'⟩
     ·cases h
    ·rename_i hne
     have hlt:i<j:=by
      have:¬ ((i:Int)=(j:Int)):=by simpa using hne
      omega
     split at h
     ·rename_i z es elems hz hrow
      have hr:=dA hrow
      rw [cond_eq_ite] at h
      split at h
      ·rename_i hok
       cases h
       simp only [Bool.and_eq_true,Nat.beq_eq,Nat.ble_eq] at hok
       obtain ⟨⟨hes,hle⟩,hone⟩:=hok
       obtain ⟨ti,zw,hti,hzw,his,hzl,hz1,hzs,hzv,hzr⟩:=nG hz
       obtain ⟨L',hL',r1,r2,r3,ca,cty,cfr,hcb,r4,r5,r6⟩:=R.blk a0 _ hr
       rw [hL0] at hL';cases hL'
       rcases hsl with hsl | ⟨_,_,hc2,hp⟩
       ·omega
       have hp':=hp (by omega)
       rw [r2] at hp'
       subst hp'
       obtain ⟨os,o1,o2⟩:=r6.flat off n hle
       generalize hO:(elems.drop off).take n=old at o1 hone ⊢
       have hol:old.length=n:=by rw [←hO];simp;omega
       have holdl:∀ x∈old,x.length=es:=by
        intro x hx
        rw [←hO] at hx
        exact r6.lens x (List.mem_of_mem_drop (List.mem_of_mem_take hx))
       have hosl:os.length=n*es:=by rw [←o1.length,aX _ _ holdl,hol]
       have h1o:∀ v∈os,v.oneCell'=true:=o1.ones (by
        refine List.all_eq_true.2 fun v hv=>?_
        obtain ⟨l,hl,hvl⟩:=List.mem_flatten.1 hv
        exact eB (List.all_eq_true.1 hone l hl) hvl)
       have hzE:∀ w,(Go.sizeOf e).run P w=.ok es w:=by intro w;rw [hes];exact L.zE w
       have hcap:(off+c)*es≤L0.cap*es:=Nat.mul_le_mul_right _ hc2
       have hncs:n*es≤c*es:=Nat.mul_le_mul_right _ hnc
       rw [Nat.add_mul] at hcap
       have hjs:j*es≤n*es:=Nat.mul_le_mul_right _ hjn'
       have his':i*es+(j - i)*es=j*es:=by rw [←Nat.add_mul];congr 1;omega
       have hnj:j*es+(n - j)*es=n*es:=by rw [←Nat.add_mul];congr 1;omega
       have hink:(i+(n - j))*es=i*es+(n - j)*es:=Nat.add_mul ..
       have hdl:(os.drop (j*es)).length=(n - j)*es:=by rw [List.length_drop,hosl];omega
       obtain ⟨W1,s1,s2,s3,s4,s5⟩:=cE (P:=P) (b:=L0.cb) (o:=L0.co+off*es+i*es) (ty:=cty) (fr:=cfr) (os.drop (j*es)) 0 W.drew ca hcb
        (fun v hv=>h1o v (List.mem_of_mem_drop hv)) (by rw [hdl];omega) (fun k hk1 hk2=>r5.1 k (by omega) (by rw [hdl] at hk2;omega))
       simp only [Nat.add_zero] at s2
       have hml:∀ x∈List.replicate (j - i) z,x.length=es:=fun x hx=>by rw [List.eq_of_mem_replicate hx,hzl,hes]
       have hzz:=iK (hzv G) (j - i)
       have hzc:(Builtin.zeroCells zw.cells (j - i)).toList.length=(j - i)*es:=by
        show (Builtin.zeroCells zw.cells (j - i)).size=(j - i)*es
        rw [dJ,hzs,hes]
       obtain ⟨W2,t1,t2,t3,t4,t5⟩:=cE (P:=P) (b:=L0.cb) (o:=L0.co+off*es+(i+(n - j))*es) (ty:=cty) (fr:=cfr) (Builtin.zeroCells zw.cells (j - i)).toList 0 W1 _ s2
        (hzz.ones (kS hz1 (j - i))) (by rw [aO,hzc];omega) (fun k hk1 hk2=>r5.1 k (by omega) (by rw [hzc] at hk2;omega))
       simp only [Nat.add_zero] at t2
       have hA:∃ A:Addr,(if c=j then some (⟨L0.cb,L0.co+off*es,none⟩:Addr) else some ⟨L0.cb,L0.co+off*es+j*es,none⟩)=some A ∧
         (loadCellsFrom A 0 ((n - j)*es) #[]).run P W.drew=.ok (os.drop (j*es)).toArray W.drew:=by
        by_cases hcj:c=j
        ·refine ⟨⟨L0.cb,L0.co+off*es,none⟩,by simp [hcj],?_⟩
         have h0:n - j=0:=by omega
         have:os.drop (j*es)=[]:=List.eq_nil_of_length_eq_zero (by rw [hdl,h0];simp)
         rw [this,h0]
         simp [loadCellsFrom]
        ·refine ⟨⟨L0.cb,L0.co+off*es+j*es,none⟩,by simp [hcj],?_⟩
         have:=run_loadCells_list (P:=P) W.drew ⟨L0.cb,L0.co+off*es+j*es,none⟩ (os.drop (j*es)) (fun q w hq=>by
          rw [Addr.add_lit,Nat.add_assoc]
          have:W.cell? ⟨L0.cb,L0.co+off*es+(j*es+q),none⟩=some w:=by
           rw [bK hcb]
           exact o2 _ w (by rw [List.getElem?_drop] at hq;exact hq)
          exact this)
         rw [hdl] at this
         exact this
       obtain ⟨A,hA,hld⟩:=hA
       have hcl:∀ ty cx,(Builtin.clear_ #[T] ty #[.slice (some ⟨L0.cb,L0.co+off*es+(i+(n - j))*es,none⟩) (n - (i+(n - j))) cx]).run P W1=.ok (.tuple #[]) W2:=by
        intro ty cx
        rw [show n - (i+(n - j))=j - i by omega]
        obtain ⟨m,hm⟩:∃ m,j - i=m+1:=⟨j - i - 1,by omega⟩
        rw [hm] at t1 ⊢
        simp [Builtin.clear_,run_underlying L.tT,hzr]
        rw [t1];rfl
       have hw:=aF6 L L0.cb (L0.co+off*es) es n c i j W W1 W2 hlt hjn' hnc hzE A hA (by unfold fZ at hlm;omega) (by omega) _ hld (by simpa using s1) hcl
       refine hw.mono ?_
       rintro e1 W' ⟨rfl,rfl⟩
       have hm2:∀ x∈old.drop j++List.replicate (j - i) z,x.length=es:=by
        intro x hx
        rcases List.mem_append.1 hx with hx | hx
        ·exact holdl x (List.mem_of_mem_drop hx)
        ·exact hml x hx
       have hmlen:(old.drop j++List.replicate (j - i) z).length=n - i:=by simp [hol];omega
       have hle':off+i+(old.drop j++List.replicate (j - i) z).length≤elems.length:=by rw [hmlen];omega
       have hcs:elems.length*es≤L0.cap*es:=Nat.mul_le_mul_right _ r3
       have hmem:W'.heap[L0.cb]?=some (.cells (aM ca (L0.co+(off+i)*es) (os.drop (j*es)++(Builtin.zeroCells zw.cells (j - i)).toList)) cty cfr):=by
        rw [t2,rZ,hdl]
        rw [show L0.co+(off+i)*es=L0.co+off*es+i*es by rw [Nat.add_mul];omega]
        rw [show L0.co+off*es+i*es+(n - j)*es=L0.co+off*es+(i+(n - j))*es by omega]
       refine ⟨G,_,rfl,⟨G.le_refl,?_,((Same.drew W).trans s5).trans t5,Nat.le_refl _,fun _ _ _ _=>⟨rfl,rfl⟩,fun x hx _ _=>?_,fun _ _ h=>.inl h⟩,?_⟩
       ·refine R.keepRow hr hL0 (fun k hk=>(t3 k hk).trans (s3 k hk)) (t4.trans s4) ⟨r1,r2,by rw [iC _ _ _ hle'];exact r3,_,cty,cfr,hmem,by rw [aO];exact r4,⟨r5.1,by rw [aO];exact r5.2⟩,?_⟩
        refine r6.over hm2 ?_ hle' (by omega)
        rw [List.flatten_append]
        exact (VRs.dropRows holdl o1 j (by omega)).append hzz
       ·show (S.heap.put a0 _).get x=none
        rw [Tr.get_put_neB _ _ _ _ (R.small a0 _ hr) (fun e=>by rw [e,hr] at hx;cases hx)];exact hx
       ·rw [show n - (j - i)=i+(n - j) by omega]
        refine .sl _ _ _ _ _ _ _ _ ⟨rfl,by omega,L0,hL0,.inr ⟨by omega,by omega,hc2,fun _=>by rw [r2]⟩⟩
      ·cases h
     ·cases h
 ·cases h
end
end Go.AM
end
section
namespace Go.AM
section
theorem Tr.get_cut {α:Type}:∀ (t:Tr α) (n m:Nat),(t.cut n).get m=if m=n then none else t.get m
 | .nil,n,m=>by simp only [Tr.cut,Tr.get_nil,ite_self]
 | .node l v r,n,m=>by
  have il:=fun a b=>Tr.get_cut l a b
  have ir:=fun a b=>Tr.get_cut r a b
  simp only [Tr.cut,cond_eq_ite,Nat.beq_eq]
  by_cases hn:n=0
  ·rw [if_pos hn,Tr.get_node,Tr.get_node]
   by_cases hm:m=0
   ·rw [if_pos hm,if_pos (by omega)]
   ·rw [if_neg hm,if_neg hm,if_neg (by omega:¬ m=n)]
  ·rw [if_neg hn]
   by_cases h2:n % 2=1
   ·rw [if_pos h2,Tr.get_node,Tr.get_node]
    by_cases hm:m=0
    ·simp only [hm,if_true];rw [if_neg (by omega)]
    ·simp only [hm,if_false]
     by_cases h3:m % 2=1
     ·simp only [h3,if_true,il]
      by_cases e:m=n
      ·subst e;simp
      ·rw [if_neg (by omega),if_neg e]
     ·simp only [h3,if_false];rw [if_neg (by omega)]
   ·rw [if_neg h2,Tr.get_node,Tr.get_node]
    by_cases hm:m=0
    ·simp only [hm,if_true];rw [if_neg (by omega)]
    ·simp only [hm,if_false]
     by_cases h3:m % 2=1
     ·simp only [h3,if_true];rw [if_neg (by omega)]
     ·simp only [h3,if_false,ir]
      by_cases e:m=n
      ·subst e;simp
      ·rw [if_neg (by omega),if_neg e]
theorem jC {a:Nat}:∀ {l:List Nat},fI a l=true↔a∈l
 | []=>by simp [fI]
 | b::l=>by simp only [fI,Bool.or_eq_true,Nat.beq_eq,jC (l:=l),List.mem_cons]
theorem sA {a:Nat} {l:List Nat} (h:fI a l=false):¬ a∈l:=fun c=>by rw [jC.2 c] at h;cases h
theorem pH:∀ l:List Nat,(dW l).Nodup∧∀ a,a∈dW l↔a∈l
 | []=>⟨List.nodup_nil,fun _=>Iff.rfl⟩
 | b::l=>by
  obtain ⟨h1,h2⟩:=pH l
  simp only [dW,cond_eq_ite]
  by_cases c:fI b l=true
  ·rw [if_pos c]
   refine ⟨h1,fun a=>?_⟩
   rw [h2,List.mem_cons]
   exact ⟨.inr,fun h=>h.elim (fun e=>e▸jC.1 c) id⟩
  ·rw [if_neg c]
   refine ⟨List.nodup_cons.2 ⟨fun h=>c (jC.2 ((h2 b).1 h)),h1⟩,fun a=>?_⟩
   rw [List.mem_cons,List.mem_cons,h2]
theorem aB6:∀ (l:List Nat) (i:Nat),vN l i=l[i]?
 | [],i=>by simp [vN]
 | a::l,0=>by simp [vN]
 | a::l,i+1=>by simp [vN,aB6 l i]
theorem lM {a:Nat}:∀ {l:List Nat} {i k:Nat},lP a i l=some k→i≤k∧l[k - i]?=some a
 | [],i,k,h=>by cases h
 | b::l,i,k,h=>by
  simp only [lP,cond_eq_ite,Nat.beq_eq] at h
  split at h
  ·rename_i e;cases h;subst e;simp
  ·obtain ⟨h1,h2⟩:=lM h
   refine ⟨by omega,?_⟩
   rw [show k - i=(k - (i+1))+1 by omega,List.getElem?_cons_succ];exact h2
theorem rE {a:Nat}:∀ {n i:Nat},a∈jR i n↔i≤a∧a<i+n
 | 0,i=>by simp [jR]
 | n+1,i=>by simp only [jR,List.mem_cons,rE (n:=n)];omega
theorem wA:∀ {n i k:Nat},(jR i n)[k]?=if k<n then some (i+k) else none
 | 0,i,k=>by simp [jR]
 | n+1,i,0=>by simp [jR]
 | n+1,i,k+1=>by
  simp only [jR,List.getElem?_cons_succ,wA (n:=n)]
  by_cases h:k<n
  ·rw [if_pos h,if_pos (by omega)];congr 1;omega
  ·rw [if_neg h,if_neg (by omega)]
theorem gY {α β:Type} {φ:α→R β}:∀ {l:List α} {r:List β},gD φ l=.ok r→r.length=l.length∧∀ (i:Nat) (x:α),l[i]?=some x→∃ y,r[i]?=some y∧φ x=.ok y
 | [],r,h=>by cases h;exact ⟨rfl,fun i x h=>by simp at h⟩
 | a::l,r,h=>by
  simp only [gD] at h
  split at h
  ·rename_i y hy
   split at h
   ·rename_i l' hl
    cases h
    obtain ⟨h1,h2⟩:=gY hl
    refine ⟨by simp [h1],fun i x hx=>?_⟩
    cases i with
    | zero=>simp at hx;subst hx;exact ⟨y,by simp,hy⟩
    | succ i=>simp at hx;simpa using h2 i x hx
   ·cases h
  ·cases h
theorem oW {α β:Type} {φ:α→R β} {l:List α} {r:List β} (h:gD φ l=.ok r) {i:Nat} {y:β} (hy:r[i]?=some y):∃ x,l[i]?=some x∧φ x=.ok y:=by
 obtain ⟨h1,h2⟩:=gY h
 have hi:i<l.length:=by rw [←h1];exact (List.getElem?_eq_some_iff.1 hy).1
 obtain ⟨y',e1,e2⟩:=h2 i l[i] (List.getElem?_eq_getElem hi)
 rw [hy] at e1;cases e1
 exact ⟨_,List.getElem?_eq_getElem hi,e2⟩
theorem nQ {ρ:Nat→Option Nat} {σ:V→R V}:∀ {l r:List V},frzVs ρ σ l=.ok r→r.length=l.length
 | [],r,h=>by cases h;rfl
 | a::l,r,h=>by
  simp only [frzVs] at h
  split at h
  ·split at h
   ·rename_i hl
    cases h
    simp [nQ hl]
   ·cases h
  ·cases h
section
variable {G Gt:Gh} {ρ:Nat→Option Nat} {σ:V→R V} {τ:V→List Nat} {A:Nat→Prop}
structure Over (G Gt:Gh) (ρ:Nat→Option Nat):Prop where
 pr:∀ i o,G.pr i=some o→Gt.pr i=some o
 sy:Gt.sy=G.sy
 loc:∀ a k,ρ a=some k→∀ L,G.loc a=some L→∃ L',Gt.loc k=some L'∧(L'=L∨L.ver<L'.ver)
theorem Over.shut (h:Over G Gt ρ):G.shut.le Gt.shut:=⟨fun _ _ h=>(by cases h),fun _ _ h=>(by cases h),h.pr,h.sy⟩
theorem Over.shutIn (h:Over G Gt ρ):Over G Gt.shut kD:=⟨h.pr,h.sy,fun _ _ h=>by cases h⟩
mutual
theorem wB (ho:Over G Gt ρ) (hσ:∀ v w v',VR G v w→σ v=.ok v'→(∀ a,a∈τ v→A a)→(∃ a ver es off len,v=.sl a ver es off len)→VR Gt v' w):∀ (v:V) {w:Value} {v':V},VR G v w→cC ρ σ v=.ok v'→(∀ a,a∈eL τ v→A a)→VR Gt v' w
 | .bool b,w,v',h,hf,_=>by cases hf;cases h;exact .bool b
 | .int k n,w,v',h,hf,_=>by cases hf;cases h;exact .int k n
 | .str s,w,v',h,hf,_=>by cases hf;cases h;exact .str s
 | .nilp,w,v',h,hf,_=>by cases hf;cases h;exact .nilp
 | .ptr a ver i j,w,v',h,hf,_=>by
  simp only [cC] at hf
  split at hf
  ·rename_i k hk
   cases hf
   cases h with
   | ptr _ _ _ _ p hp=>
    obtain ⟨L,hL,hp⟩:=hp
    obtain ⟨L',hL',e⟩:=ho.loc a k hk L hL
    refine .ptr _ _ _ _ p ⟨L',hL',?_⟩
    rcases e with rfl | e
    ·exact hp
    ·rcases hp with hp | ⟨hp,_⟩
     ·exact .inl (Nat.lt_trans hp e)
     ·exact .inl (hp▸e)
  ·cases hf
 | .iptr cs j,w,v',h,hf,_=>by
  cases hf
  cases h with
  | iptr _ _ b o c ty fr hb vs hv h=>exact .iptr cs j b o c ty fr (ho.pr _ _ hb) vs hv (h.mono ho.shut)
 | .nils,w,v',h,hf,_=>by cases hf;cases h;exact .imm0
 | .sl a ver es off len,w,v',h,hf,ha=>hσ _ _ _ h hf ha ⟨a,ver,es,off,len,rfl⟩
 | .imm es,w,v',h,hf,_=>by
  cases hf
  cases h with
  | imm0=>exact .imm0
  | imm _ p n c e hn hc vs h he hp=>
   refine .imm es p n c e hn hc vs (h.mono ho.shut) he (hp.imp id ?_)
   rintro ⟨ca,ty,fr,h1,h2,h3⟩
   exact ⟨ca,ty,fr,ho.pr _ _ h1,h2,h3⟩
 | .agg cs,w,v',h,hf,ha=>by
  simp only [cC] at hf
  split at hf
  ·rename_i cs' hc
   cases hf
   cases h with
   | agg _ vs h=>exact .agg _ vs (frzVs_ok ho hσ cs h hc ha)
  ·cases hf
 | .tup cs,w,v',h,hf,ha=>by
  simp only [cC] at hf
  split at hf
  ·rename_i cs' hc
   cases hf
   cases h with
   | tup _ vs h=>exact .tup _ vs (frzVs_ok ho hσ cs h hc ha)
  ·cases hf
 | .nili,w,v',h,hf,_=>by cases hf;cases h;exact .nili
 | .iface t v,w,v',h,hf,ha=>by
  simp only [cC] at hf
  split at hf
  ·rename_i u hu
   cases hf
   cases h with
   | iface _ _ _ h=>exact .iface _ _ _ (wB ho hσ v h hu ha)
  ·cases hf
 | .nilf,w,v',h,hf,_=>by cases hf;cases h;exact .nilf
 | .func f a b,w,v',h,hf,ha=>by
  simp only [cC] at hf
  split at hf
  ·rename_i a' h1
   split at hf
   ·rename_i b' h2
    cases hf
    cases h with
    | func _ _ _ x y hx hy=>
     exact .func _ _ _ x y (frzVs_ok ho hσ a hx h1 fun z hz=>ha z (List.mem_append_left _ hz)) (frzVs_ok ho hσ b hy h2 fun z hz=>ha z (List.mem_append_right _ hz))
   ·cases hf
  ·cases hf
 | .nilm,w,v',h,hf,_=>by cases hf;cases h;exact .nilm
 | .mp a,w,v',h,hf,_=>by cases hf
 | .res m r,w,v',h,hf,_=>by
  cases hf
  cases h with
  | res _ _ k n h=>exact .res m r k n (by rw [ho.sy];exact h)
theorem frzVs_ok (ho:Over G Gt ρ) (hσ:∀ v w v',VR G v w→σ v=.ok v'→(∀ a,a∈τ v→A a)→(∃ a ver es off len,v=.sl a ver es off len)→VR Gt v' w):∀ (l:List V) {ws:List Value} {l':List V},VRs G l ws→frzVs ρ σ l=.ok l'→(∀ a,a∈slsVs τ l→A a)→VRs Gt l' ws
 | [],ws,l',h,hf,_=>by cases hf;cases h;exact .nil
 | v::l,ws,l',h,hf,ha=>by
  simp only [frzVs] at hf
  split at hf
  ·rename_i v1 h1
   split at hf
   ·rename_i l1 h2
    cases hf
    cases h with
    | cons _ w _ ws h t=>exact .cons _ _ _ _ (wB ho hσ v h h1 fun z hz=>ha z (List.mem_append_left _ hz)) (frzVs_ok ho hσ l t h2 fun z hz=>ha z (List.mem_append_right _ hz))
   ·cases hf
  ·cases hf
end
end
theorem sB {φ:List V→List Nat} {a:Nat}:∀ {l:List (List V)} {i:Nat} {x:List V},l[i]?=some x→a∈φ x→a∈hZ φ l
 | [],i,x,h,_=>by simp at h
 | y::l,0,x,h,ha=>by simp at h;subst h;exact List.mem_append_left _ ha
 | y::l,i+1,x,h,ha=>by simp at h;exact List.mem_append_right _ (sB h ha)
theorem VRss.build {G:Gh} {f:Nat→List Value}:∀ {es:List (List V)} (i0:Nat),(∀ i cs,es[i]?=some cs→VRs G cs (f (i0+i)))→VRss G es ((List.range' i0 es.length).map f)
 | [],i0,_=>.nil
 | x::es,i0,h=>by
  rw [List.length_cons,List.range'_succ,List.map_cons]
  refine .cons _ _ _ _ (by simpa using h 0 x (by simp)) (VRss.build (i0+1) fun i cs hc=>?_)
  have:=h (i+1) cs (by simpa using hc)
  rwa [show i0+(i+1)=i0+1+i by omega] at this
theorem wC {F:Nat→Option Obj} {G Gt:Gh} {S:St} {H:Array Obj} (Rl:cO F G S H) {φ:List V→R (List V)} {β:List V→List Nat} {A:Nat→Prop}
  (hA:∀ a ver es els L,A a→S.heap.get a=some (.row ver es els)→G.loc a=some L→Gt.pr L.cb=H[L.cb]?)
  (hlen:∀ cs cs',φ cs=.ok cs'→cs'.length=cs.length)
  (hφ:∀ cs ws cs',VRs G cs ws→φ cs=.ok cs'→(∀ a,a∈β cs→A a)→VRs Gt.shut cs' ws):
  ∀ v w v',VR G v w→lK φ S v=.ok v'→(∀ a,a∈fV β S v→A a)→(∃ a ver es off len,v=.sl a ver es off len)→VR Gt v' w:=by
 rintro v w v' h hf ha ⟨a,ver,es0,off,len,rfl⟩
 unfold lK at hf
 split at hf
 ·rename_i es he
  split at hf
  ·rename_i es' hm
   cases hf
   cases h with
   | sl _ _ _ _ _ p n c hs=>
    obtain ⟨rfl,hnc,L,hL,hs⟩:=hs
    have ha0:A a:=ha a (by simp [fV])
    have hain:∀ z,z∈hZ β es→A z:=fun z hz=>ha z (by simp only [fV,he];exact List.mem_cons_of_mem _ hz)
    unfold aN at he
    simp only at he
    split at he
    ·cases he
    ·rename_i es1 elems hg
     rw [cond_eq_ite] at he
     split at he
     ·rename_i hble
      have hble:=Nat.le_of_ble_eq_true hble
      cases he
      unfold bA at hg
      split at hg
      ·rename_i v0 es2 elems2 hheap
       rw [cond_eq_ite] at hg
       split at hg
       ·rename_i hv
        have hv:=Nat.eq_of_beq_eq_true hv
        cases hg
        subst hv
        obtain ⟨L',hL',r1,r2,r3,ca,ty,fr,hc,r4,r5,r6⟩:=Rl.blk a _ hheap
        rw [hL] at hL';cases hL'
        rcases hs with hs | ⟨_,hse,hs1,hs2⟩
        ·omega
        have hpr:Gt.pr L.cb=some (.cells ca ty fr):=by rw [hA a _ _ _ L ha0 hheap hL];exact hc
        obtain ⟨hml,hmg⟩:=gY hm
        have hlen0:((elems.drop off).take n).length=n:=by simp only [List.length_take,List.length_drop];omega
        rw [hlen0] at hml
        have hget:∀ i cs,((elems.drop off).take n)[i]?=some cs→i<n∧elems[off+i]?=some cs:=by
         intro i cs hi
         rw [List.getElem?_take] at hi
         split at hi
         ·rename_i hlt
          rw [List.getElem?_drop] at hi
          exact ⟨hlt,hi⟩
         ·cases hi
        have hcell:∀ i cs,((elems.drop off).take n)[i]?=some cs→cs.length=es1∧VRs G cs ((List.range es1).map fun j=>ca.getD (L.co+(off+i)*es1+j) undef):=by
         intro i cs hi
         obtain ⟨hlt,hi'⟩:=hget i cs hi
         obtain ⟨q1,q2⟩:=r6 _ _ hi'
         refine ⟨q1,VRs.of (by simp [q1]) fun j v w hv hw=>?_⟩
         obtain ⟨w',e1,e2⟩:=q2 j v hv
         rw [List.getElem?_map] at hw
         have hj:j<es1:=by rw [←q1];exact (List.getElem?_eq_some_iff.1 hv).1
         rw [List.getElem?_range hj] at hw
         simp only [Option.map_some,Option.some.injEq] at hw
         rw [←hw,Array.getD_eq_getD_getElem?,e1];exact e2
        refine .imm es' p n c es1 hml.symm hnc ((List.range' 0 es'.length).map fun i=>(List.range es1).map fun j=>ca.getD (L.co+(off+i)*es1+j) undef) (VRss.build 0 fun i cs hi=>?_) (fun cs hcs=>?_) ?_
        ·obtain ⟨x,hx,hφx⟩:=oW hm hi
         rw [Nat.zero_add]
         exact hφ x _ cs (hcell i x hx).2 hφx (fun z hz=>hain z (sB hx hz))
        ·obtain ⟨i,hi⟩:=List.mem_iff_getElem?.1 hcs
         obtain ⟨x,hx,hφx⟩:=oW hm hi
         rw [hlen _ _ hφx];exact (hcell i x hx).1
        ·by_cases h0:n=0
         ·exact .inl h0
         ·right
          rw [hs2 (by omega)]
          refine ⟨ca,ty,fr,hpr,rfl,fun i l hl k v hk=>?_⟩
          rw [List.getElem?_map,hml] at hl
          have hin:i<n:=by
           by_cases hin:i<n
           ·exact hin
           ·rw [List.getElem?_eq_none (by simp;omega)] at hl;cases hl
          rw [List.getElem?_range' hin] at hl
          simp only [Option.map_some,Option.some.injEq] at hl
          subst hl
          rw [List.getElem?_map] at hk
          by_cases hke:k<es1
          ·rw [List.getElem?_range hke] at hk
           simp only [Option.map_some,Option.some.injEq] at hk
           have hi:((elems.drop off).take n)[i]?=some (((elems.drop off).take n)[i]'(by omega)):=List.getElem?_eq_getElem _
           obtain ⟨_,hi'⟩:=hget _ _ hi
           obtain ⟨q1,q2⟩:=r6 _ _ hi'
           obtain ⟨u,hu⟩:∃ u,(((elems.drop off).take n)[i]'(by omega))[k]?=some u:=⟨_,List.getElem?_eq_getElem (by rw [q1];exact hke)⟩
           obtain ⟨w',e1,e2⟩:=q2 k u hu
           rw [Array.getD_eq_getD_getElem?,Nat.zero_add,Nat.one_mul,e1] at hk
           rw [←hk]
           simp only [←r2]
           simp only [←r2] at e1
           rw [show L.co+off*L.es+i*L.es+k=L.co+(off+i)*L.es+k by rw [Nat.add_mul];omega]
           exact e1
          ·rw [List.getElem?_eq_none (by simp;omega)] at hk;cases hk
       ·cases hg
      ·cases hg
     ·cases he
  ·cases hf
 ·cases hf
theorem nR {S:St}:∀ (n:Nat) (cs cs':List V),iS S n cs=.ok cs'→cs'.length=cs.length
 | 0,cs,cs',h=>by cases h
 | n+1,cs,cs',h=>nQ h
section
variable {F:Nat→Option Obj} {G Gt:Gh} {S:St} {H:Array Obj} {A:Nat→Prop}
theorem wD (Rl:cO F G S H) {ρ:Nat→Option Nat} (ho:Over G Gt ρ) (hA:∀ a ver es els L,A a→S.heap.get a=some (.row ver es els)→G.loc a=some L→Gt.pr L.cb=H[L.cb]?):
  ∀ (n:Nat) (cs:List V) (ws:List Value) (cs':List V),VRs G cs ws→iS S n cs=.ok cs'→(∀ a,a∈eX S n cs→A a)→VRs Gt.shut cs' ws
 | 0,cs,ws,cs',_,h,_=>by cases h
 | n+1,cs,ws,cs',hv,h,ha=>frzVs_ok ho.shutIn (wC Rl (Gt:=Gt.shut) hA (nR n) (wD Rl ho hA n)) cs hv h ha
theorem aF7 (Rl:cO F G S H) {ρ:Nat→Option Nat} (ho:Over G Gt ρ) (hA:∀ a ver es els L,A a→S.heap.get a=some (.row ver es els)→G.loc a=some L→Gt.pr L.cb=H[L.cb]?)
  {v v':V} {w:Value} (hv:VR G v w) (h:cC ρ (lK (iS S 3) S) v=.ok v') (ha:∀ a,a∈eL (fV (eX S 3) S) v→A a):VR Gt v' w:=
 wB ho (wC Rl hA (nR 3) (wD Rl ho hA 3)) v hv h ha
theorem wE (Rl:cO F G S H) {ρ:Nat→Option Nat} (ho:Over G Gt ρ) (hA:∀ a ver es els L,A a→S.heap.get a=some (.row ver es els)→G.loc a=some L→Gt.pr L.cb=H[L.cb]?)
  {v v':List V} {w:List Value} (hv:VRs G v w) (h:frzVs ρ (lK (iS S 3) S) v=.ok v') (ha:∀ a,a∈slsVs (fV (eX S 3) S) v→A a):VRs Gt v' w:=
 frzVs_ok ho (wC Rl hA (nR 3) (wD Rl ho hA 3)) v hv h ha
theorem aA1 (Rl:cO F G S H) {ρ:Nat→Option Nat} (ho:Over G Gt ρ) (hA:∀ a ver es els L,A a→S.heap.get a=some (.row ver es els)→G.loc a=some L→Gt.pr L.cb=H[L.cb]?)
  {c:Array Value} {o es:Nat} {els els':List (List V)} (h:RowR G c o es els) (hm:gD (iS S 3) els=.ok els') (ha:∀ a,a∈hZ (eX S 3) els→A a):RowR Gt c o es els':=by
 intro i cs hi
 obtain ⟨x,hx,hφ⟩:=oW hm hi
 obtain ⟨q1,q2⟩:=h i x hx
 refine ⟨(nR 3 _ _ hφ).trans q1,fun j v hj=>?_⟩
 have hjl:j<es:=by
  have:=(List.getElem?_eq_some_iff.1 hj).1
  rw [nR 3 _ _ hφ,q1] at this;exact this
 have hv:VRs G x ((List.range es).map fun j=>c.getD (o+i*es+j) undef):=VRs.of (by simp [q1]) fun j v w hv hw=>by
  obtain ⟨w',e1,e2⟩:=q2 j v hv
  have hj:j<es:=by rw [←q1];exact (List.getElem?_eq_some_iff.1 hv).1
  rw [List.getElem?_map,List.getElem?_range hj] at hw
  simp only [Option.map_some,Option.some.injEq] at hw
  rw [←hw,Array.getD_eq_getD_getElem?,e1];exact e2
 have hz:=wD Rl ho hA 3 x _ cs hv hφ (fun z hz=>ha z (sB hx hz))
 obtain ⟨w,e1,e2⟩:=hz.get hj
 rw [List.getElem?_map,List.getElem?_range hjl] at e1
 simp only [Option.map_some,Option.some.injEq] at e1
 obtain ⟨u,hu⟩:∃ u,x[j]?=some u:=⟨_,List.getElem?_eq_getElem (by rw [q1];exact hjl)⟩
 obtain ⟨w',e3,_⟩:=q2 j u hu
 rw [Array.getD_eq_getD_getElem?,e3] at e1
 simp only [Option.getD_some] at e1
 exact ⟨w',e3,by rw [e1];exact e2.mono Gt.shut_le⟩
end
theorem jX {S:St}:∀ {l:List Nat} {rs:Rows},eM S l=.ok rs→rs.length=l.length∧∀ (k a:Nat),l[k]?=some a→∃ ver es els els',S.heap.get a=some (.row ver es els)∧gD (iS S 3) els=.ok els'∧rs[k]?=some (ver,es,els') ∧
  ∀ x,x∈hZ (eX S 3) els→x∈bS S l
 | [],rs,h=>by cases h;exact ⟨rfl,fun k a h=>by simp at h⟩
 | a::l,rs,h=>by
  simp only [eM] at h
  split at h
  ·rename_i ver es els hg
   split at h
   ·rename_i els' hm
    split at h
    ·rename_i rs' hr
     cases h
     obtain ⟨h1,h2⟩:=jX hr
     refine ⟨by simp [h1],fun k b hk=>?_⟩
     cases k with
     | zero=>
      simp at hk;subst hk
      exact ⟨ver,es,els,els',hg,hm,by simp,fun x hx=>by simp only [bS,hg];exact List.mem_append_left _ hx⟩
     | succ k=>
      simp at hk
      obtain ⟨a1,a2,a3,a4,b1,b2,b3,b4⟩:=h2 k b hk
      exact ⟨a1,a2,a3,a4,b1,b2,by simpa using b3,fun x hx=>by simp only [bS];exact List.mem_append_right _ (b4 x hx)⟩
    ·cases h
   ·cases h
  ·cases h
theorem yB:∀ (rs:Rows) (i:Nat) (h:Tr Blk) (k:Nat),(nA i rs h).get k=if i≤k∧k<i+rs.length then (rs[k - i]?).map fun r=>Blk.row r.1 r.2.1 r.2.2 else h.get k
 | [],i,h,k=>by simp [nA];intro h1 h2;omega
 | (ver,es,els)::rs,i,h,k=>by
  simp only [nA]
  rw [yB rs (i+1)]
  simp only [List.length_cons]
  by_cases e:k=i
  ·subst e
   rw [if_neg (by omega),if_pos (by omega),Tr.get_put_sameB _ _ _ trivial];simp
  ·rw [Tr.get_put_neB _ _ _ _ trivial e]
   by_cases c:i+1≤k∧k<i+1+rs.length
   ·rw [if_pos c,if_pos (by omega),show k - i=(k - (i+1))+1 by omega,List.getElem?_cons_succ]
   ·rw [if_neg c,if_neg (by omega)]
theorem jD:∀ (l:List Nat) (rs:Rows) (h:Tr Blk) (a:Nat),¬ a∈l→(iG l rs h).get a=h.get a
 | [],rs,h,a,_=>by cases rs<;>rfl
 | b::l,[],h,a,_=>rfl
 | b::l,(ver,es,els)::rs,h,a,hn=>by
  simp only [iG]
  rw [jD l rs _ a (fun c=>hn (List.mem_cons_of_mem _ c)),Tr.get_put_neB _ _ _ _ trivial (fun e=>hn (by rw [e];exact List.mem_cons_self ..))]
theorem oX:∀ (l:List Nat) (rs:Rows) (h:Tr Blk) (k a:Nat),l.Nodup→rs.length=l.length→l[k]?=some a→(iG l rs h).get a=(rs[k]?).map fun r=>Blk.row r.1 r.2.1 r.2.2
 | [],rs,h,k,a,_,_,hk=>by simp at hk
 | b::l,[],h,k,a,_,hl,hk=>by simp at hl
 | b::l,(ver,es,els)::rs,h,k,a,hn,hl,hk=>by
  simp only [iG]
  have hn':=List.nodup_cons.1 hn
  cases k with
  | zero=>
   simp at hk;subst hk
   rw [jD l rs _ _ hn'.1,Tr.get_put_sameB _ _ _ trivial];simp
  | succ k=>
   simp at hk
   rw [oX l rs _ k a hn'.2 (by simpa using hl) hk];simp
theorem nS:∀ (l:List Nat) (h:Tr Blk) (a:Nat),(jB l h).get a=if a∈l then none else h.get a
 | [],h,a=>by simp [jB]
 | b::l,h,a=>by
  simp only [jB]
  rw [nS l,Tr.get_cut]
  by_cases e:a=b
  ·subst e;simp
  ·simp [e]
theorem wF {p:Nat→Bool} {l:List Nat} (h:l.any p=false) {a:Nat} (ha:a∈l):p a=false:=by
 cases hp:p a with
 | false=>rfl
 | true=>rw [List.any_eq_true.2 ⟨a,ha,hp⟩] at h;cases h
mutual
theorem rF {G G':Gh} (hl:G.loc=G'.loc) (hm:G.ml=G'.ml) (hs:G'.sy=G.sy):∀ (v:V) {w:Value},eZ v=true→VR G v w→VR G' v w
 | .bool b,w,_,h=>by cases h;exact .bool b
 | .int k n,w,_,h=>by cases h;exact .int k n
 | .str s,w,_,h=>by cases h;exact .str s
 | .nilp,w,_,h=>by cases h;exact .nilp
 | .ptr a ver i j,w,_,h=>by
  cases h with
  | ptr _ _ _ _ p hp=>exact .ptr _ _ _ _ p (by unfold PtrAt at hp ⊢;rw [←hl];exact hp)
 | .iptr cs j,w,hb,h=>by cases hb
 | .nils,w,_,h=>by cases h;exact .nils
 | .sl a ver es off len,w,_,h=>by
  cases h with
  | sl _ _ _ _ _ p n c hp=>exact .sl _ _ _ _ _ p n c (by unfold SlAt at hp ⊢;rw [←hl];exact hp)
 | .imm es,w,hb,h=>by
  have:es=[]:=by simpa [eZ] using hb
  subst this
  cases h with
  | imm0=>exact .imm0
  | imm _ p n c e hn hc vs h he hp=>exact .imm [] p n c e hn hc [] .nil he (.inl (by simpa using hn))
 | .agg cs,w,hb,h=>by cases h with | agg _ vs h=>exact .agg _ vs (bare_VRs hl hm hs cs hb h)
 | .tup cs,w,hb,h=>by cases h with | tup _ vs h=>exact .tup _ vs (bare_VRs hl hm hs cs hb h)
 | .nili,w,_,h=>by cases h;exact .nili
 | .iface t v,w,hb,h=>by cases h with | iface _ _ _ h=>exact .iface _ _ _ (rF hl hm hs v hb h)
 | .nilf,w,_,h=>by cases h;exact .nilf
 | .func f a b,w,hb,h=>by
  simp only [eZ,Bool.and_eq_true] at hb
  cases h with | func _ _ _ x y hx hy=>exact .func _ _ _ x y (bare_VRs hl hm hs a hb.1 hx) (bare_VRs hl hm hs b hb.2 hy)
 | .nilm,w,_,h=>by cases h;exact .nilm
 | .mp a,w,_,h=>by cases h with | mp _ cb h=>exact .mp a cb (by rw [←hm];exact h)
 | .res m r,w,_,h=>by cases h with | res _ _ k n h=>exact .res m r k n (by rw [hs];exact h)
theorem bare_VRs {G G':Gh} (hl:G.loc=G'.loc) (hm:G.ml=G'.ml) (hs:G'.sy=G.sy):∀ (l:List V) {ws:List Value},bareVs l=true→VRs G l ws→VRs G' l ws
 | [],ws,_,h=>by cases h;exact .nil
 | v::l,ws,hb,h=>by
  simp only [bareVs,Bool.and_eq_true] at hb
  cases h with | cons _ w _ ws h t=>exact .cons _ _ _ _ (rF hl hm hs v hb.1 h) (bare_VRs hl hm hs l hb.2 t)
end
end
open Classical in
noncomputable def dF (G:Gh) (S:St) (H:Array Obj) (A:List Nat) (i:Nat):Option Obj:=
 if ∃ a L b,a∈A∧S.heap.get a=some b∧G.loc a=some L∧L.cb=i then H[i]? else G.pr i
open Classical in
noncomputable def sC (F:Nat→Option Obj) (G:Gh) (H:Array Obj) (R:List Nat) (i:Nat):Option Obj:=
 if ∃ a L,a∈R∧G.loc a=some L∧L.cb=i then none else H[i]?
theorem eR {F:Nat→Option Obj} {G:Gh} {S:St} {H:Array Obj} (Rl:cO F G S H) {A:List Nat}:∀ i o,G.pr i=some o→dF G S H A i=some o:=by
 intro i o h
 unfold dF
 rw [if_neg]
 ·exact h
 ·rintro ⟨a,L,b,_,hb,hL,rfl⟩
  rw [(Rl.own a b L.cb hb (.inl ⟨L,hL,rfl⟩)).2] at h;cases h
theorem oY {G:Gh} {S:St} {H:Array Obj} {A:List Nat}:∀ a ver es els L,a∈A→S.heap.get a=some (.row ver es els)→G.loc a=some L→dF G S H A L.cb=H[L.cb]?:=by
 intro a ver es els L ha hb hL
 unfold dF
 rw [if_pos ⟨a,L,_,ha,hb,hL,rfl⟩]
theorem sD {F:Nat→Option Obj} {G:Gh} {S:St} {H:Array Obj} (Rl:cO F G S H) {A:List Nat} {i:Nat} {o:Obj} (h:dF G S H A i=some o):H[i]?=some o:=by
 unfold dF at h
 split at h
 ·exact h
 ·exact Rl.pr i o h
theorem aDi {P:Program} {f:FuncId} {run:List V→St→Go.AM.R (V×St)}
  (hrun:∀ {bs:List V} {S1 S2:St} {v:V},run bs S1=.ok (v,S2)→∀ {F:Nat→Option Obj} {G:Gh} {W:World} {cs:List Value},cO F G S1 W.heap→VRs G bs cs→
   Calls P f cs.toArray W fun e W'=>∃ G' w,e=.returned w∧Sim F none G S1 W G' S2 W'∧VR G' v w)
  {args:List V} {S S':St} {v:V} (h:oQ run args S=.ok (v,S')) {F:Nat→Option Obj} {G:Gh} {W:World} {cs:List Value} (Rl:cO F G S W.heap) (hv:VRs G args cs):
  Calls P f cs.toArray W fun e W'=>∃ G' w,e=.returned w∧Sim F none G S W G' S' W'∧VR G' v w:=by
 unfold oQ at h
 obtain ⟨hnd,_⟩:=pH (ptrsVs args)
 generalize dW (ptrsVs args)=R at h hnd
 split at h
 ·cases h
 rename_i bs hbs
 split at h
 ·cases h
 rename_i rows hrows
 obtain ⟨hrl,hrw⟩:=jX hrows
 have hA1:∀ a,a∈slsVs (fV (eX S 3) S) args→a∈slsVs (fV (eX S 3) S) args++bS S R:=fun a ha=>List.mem_append_left _ ha
 have hA2:∀ a,a∈bS S R→a∈slsVs (fV (eX S 3) S) args++bS S R:=fun a ha=>List.mem_append_right _ ha
 generalize slsVs (fV (eX S 3) S) args++bS S R=A at h hA1 hA2
 rw [cond_eq_ite] at h
 split at h
 ·cases h
 rename_i hdis
 have hdis:∀ a,a∈A→¬ a∈R:=fun a ha=>sA (wF (by simpa using hdis) ha)
 split at h
 ·cases h
 rename_i v0 S2 hx
 split at h
 ·cases h
 rename_i v' hv'
 split at h
 ·cases h
 rename_i rows' hrows'
 obtain ⟨hrl',hrw'⟩:=jX hrows'
 have hB1:∀ a,a∈eL (fV (eX S2 3) S2) v0→a∈eL (fV (eX S2 3) S2) v0++bS S2 (jR 0 R.length):=fun a ha=>List.mem_append_left _ ha
 have hB2:∀ a,a∈bS S2 (jR 0 R.length)→a∈eL (fV (eX S2 3) S2) v0++bS S2 (jR 0 R.length):=fun a ha=>List.mem_append_right _ ha
 generalize eL (fV (eX S2 3) S2) v0++bS S2 (jR 0 R.length)=B at h hB1 hB2
 rw [cond_eq_ite] at h
 split at h
 ·cases h
 rename_i hBge
 have hBge:∀ a,a∈B→R.length≤a:=fun a ha=>by
  have:=wF (by simpa only [Bool.not_eq_true] using hBge) ha
  rcases Nat.lt_or_ge a R.length with c | c
  ·have c:Nat.blt a R.length=true:=by rw [Nat.blt_eq];exact c
   rw [c] at this;cases this
  ·exact c
 obtain ⟨rfl,rfl⟩:=Prod.mk.inj (Except.ok.inj h)
 clear h
 have hupl:(jR 0 R.length).length=R.length:=by
  have h1:∀ n i,(jR i n).length=n:=by
   intro n
   induction n with
   | zero=>intro i;rfl
   | succ n ih=>intro i;simp [jR,ih]
  exact h1 _ _
 rw [hupl] at hrl'
 have hrw2:∀ k,k<R.length→∃ ver es els els',S2.heap.get k=some (.row ver es els)∧gD (iS S2 3) els=.ok els'∧rows'[k]?=some (ver,es,els')∧∀ x,x∈hZ (eX S2 3) els→x∈B:=by
  intro k hk
  obtain ⟨ver,es,els,els',q1,q2,q3,q4⟩:=hrw' k k (by rw [wA,if_pos hk,Nat.zero_add])
  exact ⟨ver,es,els,els',q1,q2,q3,fun x hx=>hB2 x (q4 x hx)⟩
 clear hrw' hB2 hrows' hrows
 have hlive:∀ {k a:Nat},R[k]?=some a→∃ ver es els els' L,S.heap.get a=some (.row ver es els)∧gD (iS S 3) els=.ok els'∧rows[k]?=some (ver,es,els')∧(∀ x,x∈hZ (eX S 3) els→x∈A)∧G.loc a=some L∧G.ml a=none ∧
   xH G W.heap L ver es els:=by
  intro k a hk
  obtain ⟨ver,es,els,els',q1,q2,q3,q4⟩:=hrw k a hk
  obtain ⟨L,hL,hrow⟩:=Rl.blk a _ q1
  exact ⟨ver,es,els,els',L,q1,q2,q3,fun x hx=>hA2 x (q4 x hx),hL,Rl.sep a L hL,hrow⟩
 have hheld:∀ {a:Nat} {L:Loc},a∈R→G.loc a=some L→F L.cb=none∧G.pr L.cb=none∧L.cb<W.heap.size:=by
  intro a L ha hL
  obtain ⟨k,hk⟩:=List.mem_iff_getElem?.1 ha
  obtain ⟨ver,es,els,els',L',q1,_⟩:=hlive hk
  have:=Rl.own a _ L.cb q1 (.inl ⟨L,hL,rfl⟩)
  exact ⟨this.1,this.2,Rl.lt a _ (.inl ⟨L,hL,rfl⟩)⟩
 let G1:Gh:=⟨fun k=>(R[k]?).bind G.loc,fun _=>none,dF G S W.heap A,G.sy⟩
 have hG1loc:∀ k,G1.loc k=(R[k]?).bind G.loc:=fun _=>rfl
 have ho1:Over G G1 (fun a=>lP a 0 R):=by
  refine ⟨eR Rl,rfl,fun a k hk L hL=>⟨L,?_,.inl rfl⟩⟩
  obtain ⟨_,hk⟩:=lM hk
  rw [hG1loc,show R[k]?=some a by simpa using hk];exact hL
 have hA':∀ a ver es els L,a∈A→S.heap.get a=some (.row ver es els)→G.loc a=some L→G1.pr L.cb=W.heap[L.cb]?:=oY
 have hS1:∀ k,(nA 0 rows .nil).get k=(rows[k]?).map fun r=>Blk.row r.1 r.2.1 r.2.2:=by
  intro k
  rw [yB]
  by_cases c:k<rows.length
  ·rw [if_pos (by omega),Nat.sub_zero]
  ·rw [if_neg (by omega),Tr.get_nil,List.getElem?_eq_none (by omega)];rfl
 have hS1k:∀ {k:Nat} {b:Blk},(nA 0 rows .nil).get k=some b→∃ a ver es els els' L,R[k]?=some a∧b=.row ver es els'∧S.heap.get a=some (.row ver es els)∧gD (iS S 3) els=.ok els'∧(∀ x,x∈hZ (eX S 3) els→x∈A)∧G.loc a=some L∧G1.loc k=some L∧xH G W.heap L ver es els:=by
  intro k b hb
  rw [hS1] at hb
  have hkl:k<R.length:=by
   rw [←hrl]
   by_cases c:k<rows.length
   ·exact c
   ·rw [List.getElem?_eq_none (by omega)] at hb;cases hb
  have hk:R[k]?=some R[k]:=List.getElem?_eq_getElem hkl
  obtain ⟨ver,es,els,els',L,q1,q2,q3,q4,q5,q6,q7⟩:=hlive hk
  rw [q3] at hb
  cases hb
  exact ⟨_,ver,es,els,els',L,hk,rfl,q1,q2,q4,q5,by rw [hG1loc,hk];exact q5,q7⟩
 have hRinj:∀ {k k' a:Nat},R[k]?=some a→R[k']?=some a→k=k':=by
  intro k k' a h1 h2
  obtain ⟨i1,e1⟩:=List.getElem?_eq_some_iff.1 h1
  obtain ⟨i2,e2⟩:=List.getElem?_eq_some_iff.1 h2
  exact (List.getElem_inj hnd).1 (e1.trans e2.symm)
 have hold1:∀ {k i:Nat},bI G1 k i→∃ a L,R[k]?=some a∧G.loc a=some L∧L.cb=i:=by
  rintro k i (⟨L,hL,e⟩ | h)
  ·rw [hG1loc] at hL
   cases hk:R[k]? with
   | none=>rw [hk] at hL;cases hL
   | some a=>rw [hk] at hL;exact ⟨a,L,rfl,hL,e⟩
  ·cases h
 have hF1:∀ {k i:Nat},bI G1 k i→sC F G W.heap R i=none:=by
  intro k i hh
  obtain ⟨a,L,hk,hL,e⟩:=hold1 hh
  unfold sC
  rw [if_pos ⟨a,L,List.mem_iff_getElem?.2 ⟨k,hk⟩,hL,e⟩]
 have R1:cO (sC F G W.heap R) G1 ⟨R.length,nA 0 rows .nil⟩ W.heap:=by
  refine ⟨fun k hk=>⟨?_,rfl⟩,fun _ _ _=>rfl,fun k b hb=>?_,fun k k' b b' i hb hb' h1 h2=>?_,fun i o hi=>?_,fun i o hi=>sD Rl hi,fun k b i hb hh=>⟨hF1 hh,?_⟩,fun k i hh=>?_,fun a _ _=>Nat.lt_succ_self a⟩
  ·rw [hG1loc,List.getElem?_eq_none hk];rfl
  ·obtain ⟨a,ver,es,els,els',L,hk,rfl,q1,q2,q4,q5,q6,q7,q8,q9,ca,ty,fr,q10,q11,q12,q13⟩:=hS1k hb
   exact ⟨L,q6,q7,q8,by rw [(gY q2).1];exact q9,ca,ty,fr,q10,q11,q12,aA1 Rl ho1 hA' q13 q2 q4⟩
  ·obtain ⟨a,ver,es,els,els',L,hk,_,q1,_⟩:=hS1k hb
   obtain ⟨a',ver',es',els2,els2',L2,hk',_,q1',_⟩:=hS1k hb'
   obtain ⟨x,K,e1,e2,e3⟩:=hold1 h1
   obtain ⟨x',K',e1',e2',e3'⟩:=hold1 h2
   rw [hk] at e1;cases e1
   rw [hk'] at e1';cases e1'
   have:=Rl.inj a a' _ _ i q1 q1' (.inl ⟨K,e2,e3⟩) (.inl ⟨K',e2',e3'⟩)
   subst this
   exact hRinj hk hk'
  ·unfold sC at hi
   split at hi
   ·cases hi
   ·exact hi
  ·obtain ⟨a,L,hk,hL,rfl⟩:=hold1 hh
   show dF G S W.heap A L.cb=none
   unfold dF
   rw [if_neg]
   ·exact (hheld (List.mem_iff_getElem?.2 ⟨k,hk⟩) hL).2.1
   ·rintro ⟨a2,L2,b2,h1,h2,h3,h4⟩
    obtain ⟨_,_,_,_,_,q1,_⟩:=hlive hk
    have:=Rl.inj a a2 _ _ _ q1 h2 (.inl ⟨L,hL,rfl⟩) (.inl ⟨L2,h3,h4⟩)
    subst this
    exact hdis _ h1 (List.mem_iff_getElem?.2 ⟨k,hk⟩)
  ·obtain ⟨a,L,hk,hL,rfl⟩:=hold1 hh
   exact (hheld (List.mem_iff_getElem?.2 ⟨k,hk⟩) hL).2.2
 refine (hrun hx R1 (wE Rl ho1 hA' hv hbs hA1)).mono ?_
 rintro e W' ⟨G1',w,rfl,sim,hw⟩
 have hin:∀ {i:Nat} {o:Obj},sC F G W.heap R i=some o→W'.heap[i]?=some o:=fun hi=>sim.rel.fr _ _ hi
 have hF:∀ {i:Nat} {o:Obj},F i=some o→sC F G W.heap R i=some o:=by
  intro i o hi
  unfold sC
  rw [if_neg]
  ·exact Rl.fr i o hi
  ·rintro ⟨a,L,ha,hL,rfl⟩
   rw [(hheld ha hL).1] at hi;cases hi
 have hFn:∀ {i:Nat},sC F G W.heap R i=none→F i=none:=by
  intro i hi
  cases hq:F i with
  | none=>rfl
  | some o=>rw [hF hq] at hi;cases hi
 have hoth:∀ {a i:Nat} {b:Blk},S.heap.get a=some b→¬ a∈R→bI G a i→∃ o,W.heap[i]?=some o∧sC F G W.heap R i=some o:=by
  intro a i b hb ha hh
  refine ⟨_,Array.getElem?_eq_getElem (Rl.lt a i hh),?_⟩
  unfold sC
  rw [if_neg]
  ·exact Array.getElem?_eq_getElem (Rl.lt a i hh)
  ·rintro ⟨a2,L,ha2,hL,rfl⟩
   obtain ⟨k,hk⟩:=List.mem_iff_getElem?.1 ha2
   obtain ⟨_,_,_,_,_,q1,_⟩:=hlive hk
   have:=Rl.inj a a2 _ _ _ hb q1 hh (.inl ⟨L,hL,rfl⟩)
   exact ha (this▸ha2)
 have hkeepR:∀ k,k<R.length→∃ a L L',R[k]?=some a∧G.loc a=some L∧G1'.loc k=some L'∧(L'=L∨L.ver<L'.ver):=by
  intro k hk
  have hk':R[k]?=some R[k]:=List.getElem?_eq_getElem hk
  obtain ⟨_,_,_,_,L,_,_,_,_,q5,_⟩:=hlive hk'
  obtain ⟨L',h1,h2⟩:=sim.le.loc k L (by rw [hG1loc,hk'];exact q5)
  exact ⟨_,L,L',hk',q5,h1,h2⟩
 have hB':∀ a ver es els L,a∈B→S2.heap.get a=some (.row ver es els)→G1'.loc a=some L→dF G1' S2 W'.heap B L.cb=W'.heap[L.cb]?:=oY
 have hprX:∀ i o,G.pr i=some o→dF G1' S2 W'.heap B i=some o:=fun i o hi=>eR sim.rel i o (sim.le.pr i o (eR Rl i o hi))
 let loc2:Bool→Nat→Option Loc:=fun cut a=>match lP a 0 R with
  | some k=>G1'.loc k
  | none=>bif cut&&fI a A&&(S.heap.get a).isSome then (G.loc a).map fun L=>{ L with ver:=L.ver+1 } else G.loc a
 let pr2:Bool→Nat→Option Obj:=fun cut=>match cut with
  | true=>dF G1' S2 W'.heap B
  | false=>G.pr
 let G2:Bool→Gh:=fun cut=>⟨loc2 cut,G.ml,pr2 cut,G.sy⟩
 have hidx:∀ {a:Nat},a∈R→∃ k,lP a 0 R=some k∧k<R.length∧R[k]?=some a:=by
  intro a ha
  have:∀ (l:List Nat) (i:Nat),a∈l→∃ k,lP a i l=some k:=by
   intro l
   induction l with
   | nil=>intro i h;cases h
   | cons b l ih=>
    intro i h
    simp only [lP,cond_eq_ite,Nat.beq_eq]
    by_cases e:a=b
    ·exact ⟨i,by rw [if_pos e]⟩
    ·rw [if_neg e]
     exact ih (i+1) ((List.mem_cons.1 h).resolve_left e)
  obtain ⟨k,hk⟩:=this R 0 ha
  obtain ⟨_,h2⟩:=lM hk
  rw [Nat.sub_zero] at h2
  exact ⟨k,hk,(List.getElem?_eq_some_iff.1 h2).1,h2⟩
 have hidxn:∀ {a:Nat},¬ a∈R→lP a 0 R=none:=by
  intro a ha
  cases hq:lP a 0 R with
  | none=>rfl
  | some k=>
   obtain ⟨_,h2⟩:=lM hq
   exact absurd (List.mem_iff_getElem?.2 ⟨_,h2⟩) ha
 have hlocR:∀ cut {a k:Nat},R[k]?=some a→loc2 cut a=G1'.loc k:=by
  intro cut a k hk
  obtain ⟨k',h1,_,h3⟩:=hidx (List.mem_iff_getElem?.2 ⟨k,hk⟩)
  have:=hRinj hk h3
  subst this
  show (match lP a 0 R with | some k=>G1'.loc k | none=>_)=_
  rw [h1]
 have hlocN:∀ cut {a:Nat},¬ a∈R→loc2 cut a=bif cut&&fI a A&&(S.heap.get a).isSome then (G.loc a).map fun L=>{ L with ver:=L.ver+1 } else G.loc a:=by
  intro cut a ha
  show (match lP a 0 R with | some k=>G1'.loc k | none=>_)=_
  rw [hidxn ha]
 have hle:∀ cut,G.le (G2 cut):=by
  intro cut
  refine ⟨fun a L hL=>?_,fun _ _ h=>h,?_,rfl⟩
  ·by_cases ha:a∈R
   ·obtain ⟨k,_,hk,hk2⟩:=hidx ha
    obtain ⟨a',L0,L',e1,e2,e3,e4⟩:=hkeepR k hk
    rw [hk2] at e1;cases e1
    rw [hL] at e2;cases e2
    exact ⟨L',(hlocR cut hk2).trans e3,e4⟩
   ·show ∃ L',loc2 cut a=some L'∧_
    rw [hlocN cut ha,cond_eq_ite]
    split
    ·exact ⟨{ L with ver:=L.ver+1 },by rw [hL];rfl,.inr (Nat.lt_succ_self _)⟩
    ·exact ⟨L,hL,.inl rfl⟩
  ·cases cut with
   | true=>exact hprX
   | false=>exact fun _ _ h=>h
 have hsy:G1'.sy=G.sy:=sim.le.sy
 let Gm:Bool→Gh:=fun cut=>⟨loc2 cut,G.ml,dF G1' S2 W'.heap B,G.sy⟩
 have ho2:∀ cut,Over G1' (Gm cut) (vN R):=by
  intro cut
  refine ⟨eR sim.rel,hsy.symm,fun k a hk L hL=>⟨L,?_,.inl rfl⟩⟩
  rw [aB6] at hk
  exact (hlocR cut hk).trans hL
 have hvM:∀ cut,VR (Gm cut) v' w:=fun cut=>aF7 sim.rel (ho2 cut) hB' hw hv' hB1
 have hcase:∀ cut,(cut=false→eZ v'=true∧kE rows'=true)→Sim F none G S W (G2 cut) ⟨S.next,iG R rows' (bif cut then jB A S.heap else S.heap)⟩ W'∧VR (G2 cut) v' w:=by
  intro cut hcut
  have hprH:∀ {i:Nat} {o:Obj},(G2 cut).pr i=some o→W'.heap[i]?=some o:=by
   intro i o hi
   cases cut with
   | true=>exact sD sim.rel hi
   | false=>
    refine hin (o:=o) ?_
    unfold sC
    rw [if_neg]
    ·exact Rl.pr i o hi
    ·rintro ⟨a,L,ha,hL,rfl⟩
     have hi:G.pr L.cb=some o:=hi
     rw [(hheld ha hL).2.1] at hi;cases hi
  have hprN:∀ {i:Nat} {o:Obj},(G2 cut).pr i=some o→(cut=true∧∃ a L b,a∈B∧S2.heap.get a=some b∧G1'.loc a=some L∧L.cb=i)∨(cut=true∧G1'.pr i=some o)∨G.pr i=some o:=by
   intro i o hi
   cases cut with
   | false=>exact .inr (.inr hi)
   | true=>
    have hi:dF G1' S2 W'.heap B i=some o:=hi
    unfold dF at hi
    split at hi
    ·rename_i hq;exact .inl ⟨rfl,hq⟩
    ·exact .inr (.inl ⟨rfl,hi⟩)
  have hgetR:∀ {a k:Nat},R[k]?=some a→(iG R rows' (bif cut then jB A S.heap else S.heap)).get a=(rows'[k]?).map fun r=>Blk.row r.1 r.2.1 r.2.2:=fun hk=>oX R rows' _ _ _ hnd hrl' hk
  have hgetN:∀ {a:Nat},¬ a∈R→(iG R rows' (bif cut then jB A S.heap else S.heap)).get a=if cut=true∧a∈A then none else S.heap.get a:=by
   intro a ha
   rw [jD R rows' _ a ha]
   cases cut with
   | true=>simp only [cond_true,nS,true_and]
   | false=>simp
  have hmlR:∀ {a:Nat},a∈R→G.ml a=none:=by
   intro a ha
   obtain ⟨k,_,_,hk2⟩:=hidx ha
   obtain ⟨_,_,_,_,_,_,_,_,_,_,hml,_⟩:=hlive hk2
   exact hml
  have hRsome:∀ {a:Nat},a∈R→∃ b,S.heap.get a=some b:=by
   intro a ha
   obtain ⟨k,_,_,hk2⟩:=hidx ha
   obtain ⟨_,_,_,_,_,q1,_⟩:=hlive hk2
   exact ⟨_,q1⟩
  have hblk:∀ {a:Nat} {b:Blk},(iG R rows' (bif cut then jB A S.heap else S.heap)).get a=some b→
    (∃ k ver es els els',R[k]?=some a∧k<R.length∧b=.row ver es els'∧S2.heap.get k=some (.row ver es els)∧gD (iS S2 3) els=.ok els'∧rows'[k]?=some (ver,es,els')∧(∀ x,x∈hZ (eX S2 3) els→x∈B)∧∀ i,bI (G2 cut) a i↔bI G1' k i) ∨
    (¬ a∈R∧¬ (cut=true∧a∈A)∧S.heap.get a=some b∧(G2 cut).loc a=G.loc a∧∀ i,bI (G2 cut) a i↔bI G a i):=by
   intro a b hb
   by_cases ha:a∈R
   ·obtain ⟨k,_,hk,hk2⟩:=hidx ha
    obtain ⟨ver,es,els,els',q1,q2,q3,q4⟩:=hrw2 k hk
    rw [hgetR hk2,q3] at hb
    cases hb
    refine .inl ⟨k,ver,es,els,els',hk2,hk,rfl,q1,q2,q3,q4,fun i=>?_⟩
    obtain ⟨_,_,L',_,_,e3,_⟩:=hkeepR k hk
    have hml':=sim.rel.sep k L' e3
    unfold bI
    show (∃ L,loc2 cut a=some L∧L.cb=i)∨G.ml a=some i↔_
    rw [hlocR cut hk2,hmlR ha,hml']
   ·rw [hgetN ha] at hb
    split at hb
    ·cases hb
    ·rename_i hq
     have hloc:loc2 cut a=G.loc a:=by
      rw [hlocN cut ha,cond_eq_ite,if_neg]
      simp only [Bool.and_eq_true,jC]
      rintro ⟨⟨c1,c2⟩,_⟩
      exact hq ⟨c1,c2⟩
     refine .inr ⟨ha,hq,hb,hloc,fun i=>?_⟩
     unfold bI
     show (∃ L,loc2 cut a=some L∧L.cb=i)∨G.ml a=some i↔_
     rw [hloc]
  have hobj:∀ {a i:Nat} {b:Blk},S.heap.get a=some b→¬ a∈R→bI G a i→W'.heap[i]?=W.heap[i]?:=by
   intro a i b hb ha hh
   obtain ⟨o,h1,h2⟩:=hoth hb ha hh
   rw [h1];exact hin h2
  have hvc:VR (G2 cut) v' w:=by
   cases cut with
   | true=>exact hvM true
   | false=>exact rF (G:=Gm false) (G':=G2 false) rfl rfl rfl v' (hcut rfl).1 (hvM false)
  have hlocsome:∀ {a:Nat} {L:Loc},¬ a∈R→loc2 cut a=some L→∃ L0,G.loc a=some L0∧L.cb=L0.cb:=by
   intro a L ha hL
   rw [hlocN cut ha,cond_eq_ite] at hL
   split at hL
   ·cases hq:G.loc a with
    | none=>rw [hq] at hL;cases hL
    | some L0=>rw [hq] at hL;cases hL;exact ⟨L0,rfl,rfl⟩
   ·exact ⟨L,hL,rfl⟩
  refine ⟨⟨hle cut,?_,sim.same,Nat.le_refl _,fun a h1 h2 _=>⟨?_,rfl⟩,fun a h1 h2 _=>?_,fun i o hi=>?_⟩,hvc⟩
  ·constructor
   ·intro a ha
    have ha':S.next≤a:=ha
    have hnR:¬ a∈R:=fun hc=>by
     obtain ⟨b,hb⟩:=hRsome hc
     have:=Rl.alive hb;omega
    refine ⟨?_,(Rl.fresh a ha').2⟩
    show loc2 cut a=none
    rw [hlocN cut hnR,(Rl.fresh a ha').1,cond_eq_ite]
    split<;>rfl
   ·intro a L hL
    by_cases ha:a∈R
    ·exact hmlR ha
    ·obtain ⟨L0,h1,_⟩:=hlocsome ha hL
     exact Rl.sep a L0 h1
   ·intro a b hb
    rcases hblk hb with ⟨k,ver,es,els,els',hk2,hk,rfl,q1,q2,q3,q4,_⟩ | ⟨ha,hq,hb,hloc,_⟩
    ·obtain ⟨L,hL,r1,r2,r3,ca,ty,fr,r4,r5,r6,r7⟩:=sim.rel.blk k _ q1
     refine ⟨L,(hlocR cut hk2).trans hL,r1,r2,by rw [(gY q2).1];exact r3,ca,ty,fr,r4,r5,r6,?_⟩
     have hrm:RowR (Gm cut) ca L.co es els':=aA1 sim.rel (ho2 cut) hB' r7 q2 q4
     cases cut with
     | true=>exact hrm
     | false=>
      intro i cs hi
      refine ⟨(hrm i cs hi).1,fun j v hj=>?_⟩
      obtain ⟨u,u1,u2⟩:=(hrm i cs hi).2 j v hj
      refine ⟨u,u1,rF (G:=Gm false) (G':=G2 false) rfl rfl rfl v ?_ u2⟩
      have hb1:=(hcut rfl).2
      unfold kE at hb1
      have hb2:=List.all_eq_true.1 (List.all_eq_true.1 hb1 _ (List.mem_of_getElem? q3)) cs (List.mem_of_getElem? hi)
      have:∀ (l:List V),bareVs l=true→∀ u,u∈l→eZ u=true:=by
       intro l
       induction l with
       | nil=>intro _ u hu;cases hu
       | cons x l ih=>
        intro hl u hu
        simp only [bareVs,Bool.and_eq_true] at hl
        rcases List.mem_cons.1 hu with rfl | hu
        ·exact hl.1
        ·exact ih hl.2 u hu
      exact this cs hb2 v (List.mem_of_getElem? hj)
    ·have old:=Rl.blk a b hb
     cases b with
     | row ver es elems=>
      obtain ⟨L,hL,r1,r2,r3,c,ty,fz,hc,r4,r5,r6⟩:=old
      exact ⟨L,hloc.trans hL,r1,r2,r3,c,ty,fz,by rw [hobj hb ha (.inl ⟨L,hL,rfl⟩)];exact hc,r4,r5,r6.mono (hle cut)⟩
     | mp kvs=>
      obtain ⟨i,es,clock,hi,hH,r1,r2⟩:=old
      exact ⟨i,es,clock,hi,by rw [hobj hb ha (.inr hi)];exact hH,r1.mono (hle cut),r2⟩
     | iter s pos=>
      obtain ⟨L,hL,r1,r2,hH⟩:=old
      exact ⟨L,hloc.trans hL,r1,r2,by rw [hobj hb ha (.inl ⟨L,hL,rfl⟩)];exact hH⟩
   ·intro a a' b b' i hb hb' h1 h2
    rcases hblk hb with ⟨k,ver,es,els,els',hk2,hk,rfl,q1,q2,q3,q4,q5⟩ | ⟨ha,hq,hb,hloc,q5⟩
    ·rcases hblk hb' with ⟨k',ver',es',els2,els2',hk2',hk',rfl,q1',q2',q3',q4',q5'⟩ | ⟨ha',hq',hb',hloc',q5'⟩
     ·have:=sim.rel.inj k k' _ _ i q1 q1' ((q5 i).1 h1) ((q5' i).1 h2)
      subst this
      rw [hk2] at hk2';exact Option.some.inj hk2'
     ·have e1:=(sim.rel.own k _ i q1 ((q5 i).1 h1)).1
      obtain ⟨o,_,e2⟩:=hoth hb' ha' ((q5' i).1 h2)
      rw [e1] at e2;cases e2
    ·rcases hblk hb' with ⟨k',ver',es',els2,els2',hk2',hk',rfl,q1',q2',q3',q4',q5'⟩ | ⟨ha',hq',hb',hloc',q5'⟩
     ·have e1:=(sim.rel.own k' _ i q1' ((q5' i).1 h2)).1
      obtain ⟨o,_,e2⟩:=hoth hb ha ((q5 i).1 h1)
      rw [e1] at e2;cases e2
     ·exact Rl.inj a a' b b' i hb hb' ((q5 i).1 h1) ((q5' i).1 h2)
   ·exact fun i o hi=>hin (hF hi)
   ·exact fun i o hi=>hprH hi
   ·intro a b i hb hh
    rcases hblk hb with ⟨k,ver,es,els,els',hk2,hk,rfl,q1,q2,q3,q4,q5⟩ | ⟨ha,hq,hb,hloc,q5⟩
    ·have own:=sim.rel.own k _ i q1 ((q5 i).1 hh)
     refine ⟨hFn own.1,?_⟩
     cases hp:(G2 cut).pr i with
     | none=>rfl
     | some o=>
      exfalso
      rcases hprN hp with ⟨_,a2,L2,b2,h1,h2,h3,h4⟩ | ⟨_,h1⟩ | h1
      ·have:=sim.rel.inj k a2 _ _ i q1 h2 ((q5 i).1 hh) (.inl ⟨L2,h3,h4⟩)
       subst this
       have:=hBge _ h1;omega
      ·rw [own.2] at h1;cases h1
      ·have:=sim.le.pr i o (eR Rl i o h1)
       rw [own.2] at this;cases this
    ·have hG:=(q5 i).1 hh
     have own:=Rl.own a b i hb hG
     refine ⟨own.1,?_⟩
     obtain ⟨o1,_,hfr⟩:=hoth hb ha hG
     cases hp:(G2 cut).pr i with
     | none=>rfl
     | some o=>
      exfalso
      rcases hprN hp with ⟨_,a2,L2,b2,h1,h2,h3,h4⟩ | ⟨hc,h1⟩ | h1
      ·have:=(sim.rel.own a2 b2 i h2 (.inl ⟨L2,h3,h4⟩)).1
       rw [hfr] at this;cases this
      ·rcases sim.prn i o h1 with h1 | h1
       ·have h1:dF G S W.heap A i=some o:=h1
        unfold dF at h1
        split at h1
        ·rename_i hq2
         obtain ⟨a2,L2,b2,e1,e2,e3,e4⟩:=hq2
         have:=Rl.inj a a2 b b2 i hb e2 hG (.inl ⟨L2,e3,e4⟩)
         subst this
         exact hq ⟨hc,e1⟩
        ·rw [own.2] at h1;cases h1
       ·rw [hfr] at h1;cases h1
      ·rw [own.2] at h1;cases h1
   ·intro a i hh
    have hsz:=sim.same.size
    rcases hh with ⟨L,hL,rfl⟩ | hh
    ·by_cases ha:a∈R
     ·obtain ⟨k,_,hk,hk2⟩:=hidx ha
      exact sim.rel.lt k _ (.inl ⟨L,(hlocR cut hk2).symm.trans hL,rfl⟩)
     ·obtain ⟨L0,h1,h2⟩:=hlocsome ha hL
      have:=Rl.lt a L0.cb (.inl ⟨L0,h1,rfl⟩)
      rw [h2];omega
    ·have:=Rl.lt a i (.inr hh);omega
   ·exact fun a _ _=>Nat.lt_succ_self a
  ·have ha:¬ a∈R:=fun hc=>by
    obtain ⟨b,hb⟩:=hRsome hc
    rw [h1] at hb;cases hb
   show loc2 cut a=G.loc a
   rw [hlocN cut ha,h1]
   simp
  ·have ha:¬ a∈R:=fun hc=>by
    obtain ⟨b,hb⟩:=hRsome hc
    rw [h1] at hb;cases hb
   show (iG R rows' (bif cut then jB A S.heap else S.heap)).get a=none
   rw [hgetN ha,h1,ite_self]
  ·rcases hprN hi with ⟨_,a2,L2,b2,h1,h2,h3,h4⟩ | ⟨hc,h1⟩ | h1
   ·exact .inr (hFn (sim.rel.own a2 b2 i h2 (.inl ⟨L2,h3,h4⟩)).1)
   ·rcases sim.prn i o h1 with h1 | h1
    ·have h1:dF G S W.heap A i=some o:=h1
     unfold dF at h1
     split at h1
     ·rename_i hq2
      obtain ⟨a2,L2,b2,e1,e2,e3,e4⟩:=hq2
      exact .inr (Rl.own a2 b2 i e2 (.inl ⟨L2,e3,e4⟩)).1
     ·exact .inl h1
    ·exact .inr (hFn h1)
   ·exact .inl h1
 obtain ⟨s1,s2⟩:=hcase (!(eZ v'&&kE rows')) (fun hc=>by simpa using hc)
 refine ⟨_,w,rfl,?_,s2⟩
 cases hc:(eZ v'&&kE rows') with
 | true=>rw [hc] at s1;exact s1
 | false=>rw [hc] at s1;exact s1
theorem pI:∀ {l:List Nat},xE l=true→l.Nodup
 | [],_=>List.nodup_nil
 | a::l,h=>by
  simp only [xE,Bool.and_eq_true,Bool.not_eq_true'] at h
  exact List.nodup_cons.2 ⟨sA h.1,pI h.2⟩
theorem rG {F:Nat→Option Obj} {G Gt:Gh} {S:St} {H:Array Obj} {A:Nat→Prop} (Rl:cO F G S H) (ho:Over G Gt kD) (hA:∀ a ver es els L,A a→S.heap.get a=some (.row ver es els)→G.loc a=some L→Gt.pr L.cb=H[L.cb]?)
  {mask:List Nat}:∀ {l:List V} {i nx:Nat} {ws:List Value} {r:List V×List Nat},zO S mask i nx l=.ok r→VRs G l ws→(∀ a,a∈oR S mask i l→A a)→(∀ t j,r.2[t]?=some j→∀ L,G.loc j=some L→Gt.loc (nx+t)=some L)→VRs Gt r.1 ws
 | [],i,nx,ws,r,h,hv,_,_=>by cases h;cases hv;exact .nil
 | v::l,i,nx,ws,r,h,hv,hB,hl=>by
  cases hv with
  | cons _ w _ ws hv ht=>
   simp only [zO,cond_eq_ite] at h
   split at h
   ·rename_i hm
    have hB':∀ a,a∈oR S mask (i+1) l→A a:=fun a ha=>hB a (by simp only [oR];exact List.mem_append_right _ ha)
    split at h
    ·split at h
     ·rename_i r' hr
      cases h
      cases hv
      exact .cons _ _ _ _ .nils (rG Rl ho hA hr ht hB' hl)
     ·cases h
    ·rename_i j ver es off len
     split at h
     ·rename_i r' hr
      cases h
      refine .cons _ _ _ _ ?_ (rG Rl ho hA hr ht hB' fun t k hk L hL=>?_)
      ·cases hv with
       | sl _ _ _ _ _ p n c hs=>
        obtain ⟨q1,q2,L,hL,q3⟩:=hs
        exact .sl _ _ _ _ _ p n c ⟨q1,q2,L,by have:=hl 0 j (by simp) L hL;simpa using this,q3⟩
      ·have:=hl (t+1) k (by simpa using hk) L hL
       rwa [show nx+(t+1)=nx+1+t by omega] at this
     ·cases h
    ·cases h
   ·rename_i hm
    have hm:fI i mask=false:=by simpa using hm
    split at h
    ·rename_i v' hf
     split at h
     ·rename_i r' hr
      cases h
      refine .cons _ _ _ _ (aF7 Rl ho hA hv hf fun a ha=>hB a ?_) (rG Rl ho hA hr ht (fun a ha=>hB a ?_) hl)
      ·simp only [oR,hm,cond_false];exact List.mem_append_left _ ha
      ·simp only [oR];exact List.mem_append_right _ ha
     ·cases h
    ·cases h
theorem aA2 {G G':Gh} {v v':V} {cs:List V} (h:rB v cs=.ok v') {w:Value} (hv:VR G v w) (hc:VRs G' cs w.cells.toList):VR G' v' w:=by
 unfold rB at h
 split at h
 ·cases h
  cases hv with
  | agg _ vs _=>exact .agg _ vs hc
 ·cases h
  cases hv with
  | sl _ _ _ _ _ p n c _=>cases hc with | cons _ _ _ _ h _=>exact h
 ·cases h
  cases hv with
  | nils=>cases hc with | cons _ _ _ _ h _=>exact h
 ·cases h
theorem yC {G G':Gh}:∀ (v:V) {w:Value},jS v=true→VR G v w→VR G' v w
 | .bool b,_,_,h=>by cases h;exact .bool b
 | .int k n,_,_,h=>by cases h;exact .int k n
 | .str s,_,_,h=>by cases h;exact .str s
 | .nilp,_,_,h=>by cases h;exact .nilp
 | .nili,_,_,h=>by cases h;exact .nili
 | .nilf,_,_,h=>by cases h;exact .nilf
 | .nilm,_,_,h=>by cases h;exact .nilm
theorem uM {G G':Gh}:∀ (l:List V) {ws:List Value},l.all jS=true→VRs G l ws→VRs G' l ws
 | [],_,_,h=>by cases h;exact .nil
 | v::l,_,hl,h=>by
  simp only [List.all_cons,Bool.and_eq_true] at hl
  cases h with
  | cons _ w _ ws hv ht=>exact .cons _ _ _ _ (yC v hl.1 hv) (uM l hl.2 ht)
theorem uN {ρ:Nat→Option Nat} {σ:V→R V} (v:V) (h:jS v=true):cC ρ σ v=.ok v:=by
 cases v<;>first | rfl | cases h
theorem sE {ρ:Nat→Option Nat} {σ:V→R V}:∀ (l:List V),l.all jS=true→frzVs ρ σ l=.ok l
 | [],_=>rfl
 | v::l,hl=>by
  simp only [List.all_cons,Bool.and_eq_true] at hl
  simp only [frzVs,uN v hl.1,sE l hl.2]
theorem sF {φ:List V→R (List V)}:∀ {l:List (List V)},(∀ x,x∈l→φ x=.ok x)→gD φ l=.ok l
 | [],_=>rfl
 | x::l,h=>by simp only [gD,h x (List.mem_cons_self ..),sF fun y hy=>h y (List.mem_cons_of_mem _ hy)]
theorem uO:∀ l:List (List V),hZ (fun _=>[]) l=[]
 | []=>rfl
 | _::l=>by simp only [hZ,uO l,List.append_nil]
theorem aB7 {F:Nat→Option Obj} {G Gt:Gh} {S:St} {H:Array Obj} (Rl:cO F G S H) {A:Nat→Prop} (hA:∀ a ver es els L,A a→S.heap.get a=some (.row ver es els)→G.loc a=some L→Gt.pr L.cb=H[L.cb]?)
  {v v':V} {w:Value} (hv:VR G v w) (hn:aEr S v=true) (h:cC kD (lK (iS S 3) S) v=.ok v') (ha:∀ a,a∈eL (fV (eX S 3) S) v→A a):VR Gt v' w:=by
 unfold aEr at hn
 split at hn
 ·cases h;cases hv;exact .imm0
 ·rename_i a ver es off len
  split at hn
  ·rename_i els he
   have hp:∀ x,x∈els→x.all jS=true:=List.all_eq_true.1 hn
   have e1:lK (iS S 3) S (.sl a ver es off len)=.ok (.imm els):=by
    simp only [lK,he]
    rw [sF (φ:=iS S 3) fun x hx=>sE x (hp x hx)]
   have h:lK (iS S 3) S (.sl a ver es off len)=.ok v':=h
   have e2:lK (fun cs=>if cs.all jS=true then (.ok cs:R (List V)) else .error "") S (.sl a ver es off len)=.ok v':=by
    rw [←h,e1]
    simp only [lK,he]
    rw [sF (φ:=fun cs=>if cs.all jS=true then (.ok cs:R (List V)) else .error "") fun x hx=>by simp only [hp x hx,if_true]]
   refine wC Rl (β:=fun _=>[]) (A:=A) hA ?_ ?_ _ _ _ hv e2 ?_ ⟨a,ver,es,off,len,rfl⟩
   ·intro cs cs' hc
    split at hc
    ·cases hc;rfl
    ·cases hc
   ·intro cs ws cs' hc hf _
    split at hf
    ·rename_i hq;cases hf;exact uM _ hq hc
    ·cases hf
   ·intro x hx
    refine ha x ?_
    have hx:x∈fV (fun _=>[]) S (.sl a ver es off len):=hx
    show x∈fV (eX S 3) S (.sl a ver es off len)
    simp only [fV,he,uO,List.mem_singleton] at hx ⊢
    rw [hx];exact List.mem_cons_self ..
  ·cases hn
 ·rw [uN v hn] at h;cases h;exact yC _ hn hv
theorem yD {F:Nat→Option Obj} {G Gt:Gh} {S:St} {H:Array Obj} (Rl:cO F G S H) {A:Nat→Prop} (hA:∀ a ver es els L,A a→S.heap.get a=some (.row ver es els)→G.loc a=some L→Gt.pr L.cb=H[L.cb]?):
  ∀ {l l':List V} {ws:List Value},VRs G l ws→l.all (aEr S)=true→frzVs kD (lK (iS S 3) S) l=.ok l'→(∀ a,a∈slsVs (fV (eX S 3) S) l→A a)→VRs Gt l' ws
 | [],l',ws,hv,_,h,_=>by cases h;cases hv;exact .nil
 | v::l,l',ws,hv,hn,h,ha=>by
  simp only [List.all_cons,Bool.and_eq_true] at hn
  simp only [frzVs] at h
  split at h
  ·rename_i v1 h1
   split at h
   ·rename_i l1 h2
    cases h
    cases hv with
    | cons _ w _ ws h t=>exact .cons _ _ _ _ (aB7 Rl hA h hn.1 h1 fun z hz=>ha z (List.mem_append_left _ hz)) (yD Rl hA t hn.2 h2 fun z hz=>ha z (List.mem_append_right _ hz))
   ·cases h
  ·cases h
theorem aF8 {F:Nat→Option Obj} {G Gt:Gh} {S:St} {H:Array Obj} (Rl:cO F G S H) {A:Nat→Prop} (hA:∀ a ver es els L,A a→S.heap.get a=some (.row ver es els)→G.loc a=some L→Gt.pr L.cb=H[L.cb]?)
  {v v':V} {w:Value} (hv:VR G v w) (hn:aEs S v=true) (h:cC kD (lK (iS S 3) S) v=.ok v') (ha:∀ a,a∈eL (fV (eX S 3) S) v→A a):VR Gt v' w:=by
 unfold aEs at hn
 split at hn
 ·simp only [cC] at h
  split at h
  ·rename_i l1 h1
   cases h
   cases hv with
   | tup _ vs hv=>exact .tup _ vs (yD Rl hA hv hn h1 ha)
  ·cases h
 ·exact aB7 Rl hA hv hn h ha
theorem aA3 {P:Program} {f:FuncId} {run:List V→St→Go.AM.R (V×St)}
  (hrun:∀ {bs:List V} {S1 S2:St} {v:V},run bs S1=.ok (v,S2)→∀ {F:Nat→Option Obj} {G:Gh} {W:World} {cs:List Value},cO F G S1 W.heap→VRs G bs cs→
   Calls P f cs.toArray W fun e W'=>∃ G' w,e=.returned w∧Sim F none G S1 W G' S2 W'∧VR G' v w)
  {args:List V} {S S':St} {v:V} (h:aB0 run args S=.ok (v,S')) {F:Nat→Option Obj} {G:Gh} {W:World} {cs:List Value} (Rl:cO F G S W.heap) (hv:VRs G args cs):
  Calls P f cs.toArray W fun e W'=>∃ G' w,e=.returned w∧Sim F none G S W G' S' W'∧VR G' v w:=by
 unfold aB0 at h
 split at h
 ·cases h
 rename_i bs hbs
 split at h
 ·cases h
 rename_i v0 S2 hx
 split at h
 ·cases h
 rename_i v' hv'
 rw [cond_eq_ite] at h
 split at h
 rotate_left
 ·cases h
 rename_i hfr
 obtain ⟨rfl,rfl⟩:=Prod.mk.inj (Except.ok.inj h)
 let G1:Gh:=⟨fun _=>none,fun _=>none,dF G S W.heap (slsVs (fV (eX S 3) S) args),G.sy⟩
 have ho1:Over G G1 kD:=⟨eR Rl,rfl,fun _ _ h=>by cases h⟩
 have hA':∀ a ver es els L,a∈slsVs (fV (eX S 3) S) args→S.heap.get a=some (.row ver es els)→G.loc a=some L→G1.pr L.cb=W.heap[L.cb]?:=oY
 have R1:cO (fun i=>W.heap[i]?) G1 ⟨0,.nil⟩ W.heap:=
  ⟨fun _ _=>⟨rfl,rfl⟩,fun _ _ _=>rfl,fun a b h=>(by cases h),fun a a' b b' i h=>(by cases h),fun i o h=>h,fun i o h=>sD Rl h,fun a b i h=>(by cases h),fun a i h=>(by rcases h with ⟨L,h,_⟩ | h<;>cases h),fun a b h=>(by cases h)⟩
 refine (hrun hx R1 (wE Rl ho1 (A:=(·∈slsVs (fV (eX S 3) S) args)) hA' hv hbs fun a ha=>ha)).mono ?_
 rintro e W' ⟨G1',w,rfl,sim,hw⟩
 have hin:∀ {i:Nat} {o:Obj},W.heap[i]?=some o→W'.heap[i]?=some o:=fun hi=>sim.rel.fr _ _ hi
 have hF1:∀ {j i:Nat} {b:Blk},S2.heap.get j=some b→bI G1' j i→W.heap[i]?=none∧G1'.pr i=none:=fun hb hh=>sim.rel.own _ _ _ hb hh
 let Gq:Gh:=⟨G1'.loc,G1'.ml,G.pr,G.sy⟩
 let G2:Gh:=⟨G.loc,G.ml,dF Gq S2 W'.heap (eL (fV (eX S2 3) S2) v0),G.sy⟩
 have hprx:∀ i o,G.pr i=some o→G2.pr i=some o:=by
  intro i o h
  show dF Gq S2 W'.heap _ i=some o
  unfold dF
  rw [if_neg]
  ·exact h
  ·rintro ⟨a,L,b,_,hb,hL,rfl⟩
   have h1:=(hF1 hb (.inl ⟨L,hL,rfl⟩)).2
   rw [sim.le.pr _ o (eR Rl _ o h)] at h1;cases h1
 have hle:G.le G2:=⟨fun a L hL=>⟨L,hL,.inl rfl⟩,fun _ _ h=>h,hprx,rfl⟩
 have hprN:∀ {i:Nat} {o:Obj},G2.pr i=some o→(W.heap[i]?=none∧W'.heap[i]?=some o)∨G.pr i=some o:=by
  intro i o hi
  have hi:dF Gq S2 W'.heap (eL (fV (eX S2 3) S2) v0) i=some o:=hi
  unfold dF at hi
  split at hi
  ·rename_i hq
   obtain ⟨a,L,b,h1,h2,h3,h4⟩:=hq
   exact .inl ⟨(hF1 h2 (.inl ⟨L,h3,h4⟩)).1,hi⟩
  ·exact .inr hi
 have hold:∀ {a i:Nat},bI G a i→W'.heap[i]?=W.heap[i]?:=fun hh=>by
  have e:=Array.getElem?_eq_getElem (Rl.lt _ _ hh)
  rw [e,hin e]
 refine ⟨G2,w,rfl,⟨hle,?_,sim.same,Nat.le_refl _,fun a h1 h2 _=>⟨rfl,rfl⟩,fun a h1 h2 _=>h1,fun i o hi=>?_⟩,aF8 sim.rel (A:=(·∈eL (fV (eX S2 3) S2) v0)) (oY (G:=Gq)) hw hfr hv' fun a ha=>ha⟩
 ·constructor
  ·exact Rl.fresh
  ·exact Rl.sep
  ·intro a b hb
   have old:=Rl.blk a b hb
   cases b with
   | row ver es elems=>
    obtain ⟨L,hL,r1,r2,r3,c,ty,fz,hc,r4,r5,r6⟩:=old
    exact ⟨L,hL,r1,r2,r3,c,ty,fz,by rw [hold (.inl ⟨L,hL,rfl⟩)];exact hc,r4,r5,r6.mono hle⟩
   | mp kvs=>
    obtain ⟨i,es,clock,hi,hH,r1,r2⟩:=old
    exact ⟨i,es,clock,hi,by rw [hold (.inr hi)];exact hH,r1.mono hle,r2⟩
   | iter s pos=>
    obtain ⟨L,hL,r1,r2,hH⟩:=old
    exact ⟨L,hL,r1,r2,by rw [hold (.inl ⟨L,hL,rfl⟩)];exact hH⟩
  ·exact Rl.inj
  ·exact fun i o hi=>hin (Rl.fr i o hi)
  ·exact fun i o hi=>(hprN hi).elim (fun h=>h.2) fun h=>hin (Rl.pr i o h)
  ·intro a b i hb hh
   have own:=Rl.own a b i hb hh
   refine ⟨own.1,?_⟩
   cases hp:G2.pr i with
   | none=>rfl
   | some o=>
    exfalso
    rcases hprN hp with h1 | h1
    ·have:=Array.getElem?_eq_getElem (Rl.lt _ _ hh)
     rw [h1.1] at this;cases this
    ·rw [own.2] at h1;cases h1
  ·intro a i hh
   have:=Rl.lt a i hh
   have:=sim.same.size
   omega
  ·exact Rl.small
 ·rcases hprN hi with h1 | h1
  ·right
   cases hq:F i with
   | none=>rfl
   | some o'=>rw [Rl.fr i o' hq] at h1;cases h1.1
  ·exact .inl h1
theorem aA4 {P:Program} {f:FuncId} {mask:List Nat} {run:List V→St→Go.AM.R (V×St)}
  (hrun:∀ {bs:List V} {S1 S2:St} {v:V},run bs S1=.ok (v,S2)→∀ {F:Nat→Option Obj} {G:Gh} {W:World} {cs:List Value},cO F G S1 W.heap→VRs G bs cs→
   Calls P f cs.toArray W fun e W'=>∃ G' w,e=.returned w∧Sim F none G S1 W G' S2 W'∧VR G' v w)
  {args:List V} {S S':St} {v:V} (h:aEt mask run args S=.ok (v,S')) {F:Nat→Option Obj} {G:Gh} {W:World} {cs:List Value} (Rl:cO F G S W.heap) (hv:VRs G args cs):
  Calls P f cs.toArray W fun e W'=>∃ G' w,e=.returned w∧Sim F none G S W G' S' W'∧VR G' v w:=by
 unfold aEt at h
 split at h
 ·cases h
 rename_i bs hbs
 obtain ⟨A,hAe⟩:∃ A,A=slsVs (fV (eX S 3) S) args:=⟨_,rfl⟩
 have hA1:∀ a,a∈slsVs (fV (eX S 3) S) args→a∈A:=by rw [hAe];exact fun a ha=>ha
 rw [←hAe] at h
 clear hAe
 split at h
 ·cases h
 rename_i v0 S2 hx
 split at h
 ·cases h
 rename_i r hr
 obtain ⟨rc,js⟩:=r
 simp only at h
 split at h
 ·cases h
 rename_i rows hrows
 obtain ⟨hrl,hrw⟩:=jX hrows
 split at h
 ·cases h
 rename_i v' hv'
 rw [cond_eq_ite] at h
 split at h
 rotate_left
 ·cases h
 rename_i hc
 simp only [Bool.and_eq_true,Bool.not_eq_true'] at hc
 have hnd:=pI hc.1
 have hdis:∀ a,a∈oR S2 mask 0 v0.cells++bS S2 js→¬ a∈js:=fun a ha=>sA (wF hc.2 ha)
 have hB1:∀ a,a∈oR S2 mask 0 v0.cells→a∈oR S2 mask 0 v0.cells++bS S2 js:=fun a ha=>List.mem_append_left _ ha
 have hB2:∀ a,a∈bS S2 js→a∈oR S2 mask 0 v0.cells++bS S2 js:=fun a ha=>List.mem_append_right _ ha
 generalize oR S2 mask 0 v0.cells++bS S2 js=B at hdis hB1 hB2
 obtain ⟨rfl,rfl⟩:=Prod.mk.inj (Except.ok.inj h)
 clear h hc
 have hrw2:∀ k j:Nat,js[k]?=some j→∃ ver es els els',S2.heap.get j=some (.row ver es els)∧gD (iS S2 3) els=.ok els'∧rows[k]?=some (ver,es,els')∧∀ x,x∈hZ (eX S2 3) els→x∈B:=by
  intro k j hk
  obtain ⟨ver,es,els,els',q1,q2,q3,q4⟩:=hrw k j hk
  exact ⟨ver,es,els,els',q1,q2,q3,fun x hx=>hB2 x (q4 x hx)⟩
 clear hrw hB2 hrows
 let G1:Gh:=⟨fun _=>none,fun _=>none,dF G S W.heap A,G.sy⟩
 have ho1:Over G G1 kD:=⟨eR Rl,rfl,fun _ _ h=>by cases h⟩
 have hA':∀ a ver es els L,a∈A→S.heap.get a=some (.row ver es els)→G.loc a=some L→G1.pr L.cb=W.heap[L.cb]?:=oY
 have R1:cO (fun i=>W.heap[i]?) G1 ⟨0,.nil⟩ W.heap:=
  ⟨fun _ _=>⟨rfl,rfl⟩,fun _ _ _=>rfl,fun a b h=>(by cases h),fun a a' b b' i h=>(by cases h),fun i o h=>h,fun i o h=>sD Rl h,fun a b i h=>(by cases h),fun a i h=>(by rcases h with ⟨L,h,_⟩ | h<;>cases h),fun a b h=>(by cases h)⟩
 refine (hrun hx R1 (wE Rl ho1 hA' hv hbs hA1)).mono ?_
 rintro e W' ⟨G1',w,rfl,sim,hw⟩
 have hin:∀ {i:Nat} {o:Obj},W.heap[i]?=some o→W'.heap[i]?=some o:=fun hi=>sim.rel.fr _ _ hi
 have hF1:∀ {j i:Nat} {b:Blk},S2.heap.get j=some b→bI G1' j i→W.heap[i]?=none∧G1'.pr i=none:=fun hb hh=>sim.rel.own _ _ _ hb hh
 have hold:∀ {a i:Nat},bI G a i→∃ o,W.heap[i]?=some o∧W'.heap[i]?=some o:=fun hh=>⟨_,Array.getElem?_eq_getElem (Rl.lt _ _ hh),hin (Array.getElem?_eq_getElem (Rl.lt _ _ hh))⟩
 have hB':∀ a ver es els L,a∈B→S2.heap.get a=some (.row ver es els)→G1'.loc a=some L→dF G1' S2 W'.heap B L.cb=W'.heap[L.cb]?:=oY
 have hprX:∀ i o,G.pr i=some o→dF G1' S2 W'.heap B i=some o:=fun i o hi=>eR sim.rel i o (sim.le.pr i o (eR Rl i o hi))
 let loc2:Nat→Option Loc:=fun a=>if S.next≤a then (js[a - S.next]?).bind G1'.loc else
  bif fI a A&&(S.heap.get a).isSome then (G.loc a).map fun L=>{ L with ver:=L.ver+1 } else G.loc a
 let G2:Gh:=⟨loc2,G.ml,dF G1' S2 W'.heap B,G.sy⟩
 have hlocN:∀ {t j:Nat},js[t]?=some j→loc2 (S.next+t)=G1'.loc j:=by
  intro t j hj
  show (if S.next≤S.next+t then _ else _)=_
  rw [if_pos (by omega),show S.next+t - S.next=t by omega,hj];rfl
 have hlocO:∀ {a:Nat},a<S.next→loc2 a=bif fI a A&&(S.heap.get a).isSome then (G.loc a).map fun L=>{ L with ver:=L.ver+1 } else G.loc a:=by
  intro a ha
  show (if S.next≤a then _ else _)=_
  rw [if_neg (by omega)]
 have hlocs:∀ {a:Nat} {L:Loc},a<S.next→loc2 a=some L→∃ L0,G.loc a=some L0∧L.cb=L0.cb:=by
  intro a L ha hL
  rw [hlocO ha,cond_eq_ite] at hL
  split at hL
  ·cases hq:G.loc a with
   | none=>rw [hq] at hL;cases hL
   | some L0=>rw [hq] at hL;cases hL;exact ⟨L0,rfl,rfl⟩
  ·exact ⟨L,hL,rfl⟩
 have hlt:∀ {a:Nat} {L:Loc},G.loc a=some L→a<S.next:=by
  intro a L hL
  rcases Nat.lt_or_ge a S.next with c | c
  ·exact c
  ·rw [(Rl.fresh a c).1] at hL;cases hL
 have hle:G.le G2:=by
  refine ⟨fun a L hL=>?_,fun _ _ h=>h,hprX,rfl⟩
  show ∃ L',loc2 a=some L'∧_
  rw [hlocO (hlt hL),cond_eq_ite]
  split
  ·exact ⟨{ L with ver:=L.ver+1 },by rw [hL];rfl,.inr (Nat.lt_succ_self _)⟩
  ·exact ⟨L,hL,.inl rfl⟩
 have hsy:G1'.sy=G.sy:=sim.le.sy
 have ho2:Over G1' G2 kD:=⟨eR sim.rel,hsy.symm,fun _ _ h=>by cases h⟩
 have hvc:VR G2 v' w:=aA2 hv' hw (rG sim.rel ho2 (A:=(·∈B)) hB' hr hw.cells hB1 fun t j hj L hL=>(hlocN hj).trans hL)
 have hjl:∀ {j:Nat},j∈js→∃ t,t<js.length∧js[t]?=some j:=fun hj=>by
  obtain ⟨t,ht⟩:=List.mem_iff_getElem?.1 hj
  exact ⟨t,(List.getElem?_eq_some_iff.1 ht).1,ht⟩
 have hupn:∀ n i,(jR i n).length=n:=by
  intro n
  induction n with
  | zero=>intro i;rfl
  | succ n ih=>intro i;simp [jR,ih]
 have hund:∀ n i,(jR i n).Nodup:=by
  intro n
  induction n with
  | zero=>intro i;exact List.nodup_nil
  | succ n ih=>intro i;exact List.nodup_cons.2 ⟨fun h=>by have:=(rE.1 h).1;omega,ih (i+1)⟩
 have hblk:∀ {a:Nat} {b:Blk},(iG (jR S.next js.length) rows (jB A S.heap)).get a=some b→
   (∃ t j ver es els els',js[t]?=some j∧a=S.next+t∧b=.row ver es els'∧S2.heap.get j=some (.row ver es els)∧gD (iS S2 3) els=.ok els'∧(∀ x,x∈hZ (eX S2 3) els→x∈B)∧∀ i,bI G2 a i↔bI G1' j i) ∨
   (a<S.next∧¬ a∈A∧S.heap.get a=some b∧G2.loc a=G.loc a∧∀ i,bI G2 a i↔bI G a i):=by
  intro a b hb
  by_cases ha:a∈jR S.next js.length
  ·have hab:=rE.1 ha
   obtain ⟨t,rfl⟩:∃ t,a=S.next+t:=⟨a - S.next,by omega⟩
   have htl:t<js.length:=by omega
   have ht:js[t]?=some js[t]:=List.getElem?_eq_getElem htl
   obtain ⟨ver,es,els,els',q1,q2,q3,q4⟩:=hrw2 t _ ht
   rw [oX _ _ _ t _ (hund _ _) (by rw [hrl,hupn]) (by rw [wA,if_pos htl]),q3] at hb
   cases hb
   refine .inl ⟨t,_,ver,es,els,els',ht,rfl,rfl,q1,q2,q4,fun i=>?_⟩
   obtain ⟨L,hL,_⟩:=sim.rel.blk _ _ q1
   have hml:=sim.rel.sep _ L hL
   unfold bI
   show (∃ L,loc2 (S.next+t)=some L∧L.cb=i)∨G.ml (S.next+t)=some i↔_
   rw [hlocN ht,(Rl.fresh _ (by omega)).2,hml]
  ·rw [jD _ _ _ _ ha,nS] at hb
   split at hb
   ·cases hb
   ·rename_i hq
    have halt:=Rl.alive hb
    have hloc:loc2 a=G.loc a:=by
     rw [hlocO halt,cond_eq_ite,if_neg]
     simp only [Bool.and_eq_true,jC]
     exact fun h=>hq h.1
    refine .inr ⟨halt,hq,hb,hloc,fun i=>?_⟩
    unfold bI
    show (∃ L,loc2 a=some L∧L.cb=i)∨G.ml a=some i↔_
    rw [hloc]
 have hobj:∀ {a i:Nat},bI G a i→W'.heap[i]?=W.heap[i]?:=fun hh=>by
  obtain ⟨o,h1,h2⟩:=hold hh
  rw [h1,h2]
 have hprN:∀ {i:Nat} {o:Obj},dF G1' S2 W'.heap B i=some o→W.heap[i]?=none∨(∃ a L b,a∈A∧S.heap.get a=some b∧G.loc a=some L∧L.cb=i)∨G.pr i=some o:=by
  intro i o hi
  unfold dF at hi
  split at hi
  ·rename_i hq
   obtain ⟨a,L,b,h1,h2,h3,h4⟩:=hq
   exact .inl (hF1 h2 (.inl ⟨L,h3,h4⟩)).1
  ·rcases sim.prn i o hi with hi | hi
   ·have hi:dF G S W.heap A i=some o:=hi
    unfold dF at hi
    split at hi
    ·rename_i hq;exact .inr (.inl hq)
    ·exact .inr (.inr hi)
   ·exact .inl hi
 have hnone:∀ {i:Nat},W.heap[i]?=none→F i=none:=by
  intro i hi
  cases hq:F i with
  | none=>rfl
  | some o=>rw [Rl.fr i o hq] at hi;cases hi
 refine ⟨G2,w,rfl,⟨hle,?_,sim.same,Nat.le_add_right _ _,fun a h1 h2 _=>⟨?_,rfl⟩,fun a h1 h2 _=>?_,fun i o hi=>?_⟩,hvc⟩
 ·constructor
  ·intro a ha
   have ha':S.next+js.length≤a:=ha
   refine ⟨?_,(Rl.fresh a (by omega)).2⟩
   show (if S.next≤a then _ else _)=_
   rw [if_pos (by omega),List.getElem?_eq_none (by omega)];rfl
  ·intro a L hL
   rcases Nat.lt_or_ge a S.next with c | c
   ·obtain ⟨L0,h1,_⟩:=hlocs c hL
    exact Rl.sep a L0 h1
   ·exact (Rl.fresh a c).2
  ·intro a b hb
   rcases hblk hb with ⟨t,j,ver,es,els,els',hj,rfl,rfl,q1,q2,q4,_⟩ | ⟨halt,hq,hb,hloc,_⟩
   ·obtain ⟨L,hL,r1,r2,r3,ca,ty,fr,r4,r5,r6,r7⟩:=sim.rel.blk j _ q1
    exact ⟨L,(hlocN hj).trans hL,r1,r2,by rw [(gY q2).1];exact r3,ca,ty,fr,r4,r5,r6,aA1 sim.rel ho2 (A:=(·∈B)) hB' r7 q2 q4⟩
   ·have old:=Rl.blk a b hb
    cases b with
    | row ver es elems=>
     obtain ⟨L,hL,r1,r2,r3,c,ty,fz,hc,r4,r5,r6⟩:=old
     exact ⟨L,hloc.trans hL,r1,r2,r3,c,ty,fz,by rw [hobj (.inl ⟨L,hL,rfl⟩)];exact hc,r4,r5,r6.mono hle⟩
    | mp kvs=>
     obtain ⟨i,es,clock,hi,hH,r1,r2⟩:=old
     exact ⟨i,es,clock,hi,by rw [hobj (.inr hi)];exact hH,r1.mono hle,r2⟩
    | iter s pos=>
     obtain ⟨L,hL,r1,r2,hH⟩:=old
     exact ⟨L,hloc.trans hL,r1,r2,by rw [hobj (.inl ⟨L,hL,rfl⟩)];exact hH⟩
  ·intro a a' b b' i hb hb' h1 h2
   rcases hblk hb with ⟨t,j,ver,es,els,els',hj,rfl,rfl,q1,q2,q4,q5⟩ | ⟨halt,hq,hb,hloc,q5⟩
   ·rcases hblk hb' with ⟨t',j',ver',es',els2,els2',hj',rfl,rfl,q1',q2',q4',q5'⟩ | ⟨halt',hq',hb',hloc',q5'⟩
    ·have:=sim.rel.inj j j' _ _ i q1 q1' ((q5 i).1 h1) ((q5' i).1 h2)
     subst this
     obtain ⟨i1,e1⟩:=List.getElem?_eq_some_iff.1 hj
     obtain ⟨i2,e2⟩:=List.getElem?_eq_some_iff.1 hj'
     have:=(List.getElem_inj hnd).1 (e1.trans e2.symm)
     omega
    ·have e1:=(hF1 q1 ((q5 i).1 h1)).1
     obtain ⟨o,e2,_⟩:=hold ((q5' i).1 h2)
     rw [e1] at e2;cases e2
   ·rcases hblk hb' with ⟨t',j',ver',es',els2,els2',hj',rfl,rfl,q1',q2',q4',q5'⟩ | ⟨halt',hq',hb',hloc',q5'⟩
    ·have e1:=(hF1 q1' ((q5' i).1 h2)).1
     obtain ⟨o,e2,_⟩:=hold ((q5 i).1 h1)
     rw [e1] at e2;cases e2
    ·exact Rl.inj a a' b b' i hb hb' ((q5 i).1 h1) ((q5' i).1 h2)
  ·exact fun i o hi=>hin (Rl.fr i o hi)
  ·exact fun i o hi=>sD sim.rel hi
  ·intro a b i hb hh
   rcases hblk hb with ⟨t,j,ver,es,els,els',hj,rfl,rfl,q1,q2,q4,q5⟩ | ⟨halt,hq,hb,hloc,q5⟩
   ·have own:=hF1 q1 ((q5 i).1 hh)
    refine ⟨hnone own.1,?_⟩
    show dF G1' S2 W'.heap B i=none
    unfold dF
    rw [if_neg]
    ·exact own.2
    ·rintro ⟨a2,L2,b2,h1,h2,h3,h4⟩
     have:=sim.rel.inj j a2 _ _ i q1 h2 ((q5 i).1 hh) (.inl ⟨L2,h3,h4⟩)
     subst this
     exact hdis _ h1 (List.mem_iff_getElem?.2 ⟨t,hj⟩)
   ·have hG:=(q5 i).1 hh
    have own:=Rl.own a b i hb hG
    refine ⟨own.1,?_⟩
    obtain ⟨o1,ho,_⟩:=hold hG
    cases hp:dF G1' S2 W'.heap B i with
    | none=>exact hp
    | some o=>
     exfalso
     rcases hprN hp with h1 | ⟨a2,L2,b2,e1,e2,e3,e4⟩ | h1
     ·rw [ho] at h1;cases h1
     ·have:=Rl.inj a a2 b b2 i hb e2 hG (.inl ⟨L2,e3,e4⟩)
      subst this
      exact hq e1
     ·rw [own.2] at h1;cases h1
  ·intro a i hh
   have hsz:=sim.same.size
   rcases hh with ⟨L,hL,rfl⟩ | hh
   ·rcases Nat.lt_or_ge a S.next with c | c
    ·obtain ⟨L0,h1,h2⟩:=hlocs c hL
     have:=Rl.lt a L0.cb (.inl ⟨L0,h1,rfl⟩)
     rw [h2];omega
    ·have hL:loc2 a=some L:=hL
     have hL':(js[a - S.next]?).bind G1'.loc=some L:=by
      have:loc2 a=(js[a - S.next]?).bind G1'.loc:=if_pos c
      rw [this] at hL;exact hL
     cases hj:js[a - S.next]? with
     | none=>rw [hj] at hL';cases hL'
     | some j=>rw [hj] at hL';exact sim.rel.lt j _ (.inl ⟨L,hL',rfl⟩)
   ·have:=Rl.lt a i (.inr hh);omega
  ·exact fun a _ _=>Nat.lt_succ_self a
 ·show loc2 a=G.loc a
  rw [hlocO h2,h1]
  simp
 ·show (iG _ rows (jB A S.heap)).get a=none
  rw [jD _ _ _ _ (fun hc=>by have:=(rE.1 hc).1;omega),nS,h1,ite_self]
 ·rcases hprN hi with h1 | ⟨a2,L2,b2,e1,e2,e3,e4⟩ | h1
  ·exact .inr (hnone h1)
  ·exact .inr (Rl.own a2 b2 i e2 (.inl ⟨L2,e3,e4⟩)).1
  ·exact .inl h1
theorem aDj {P:Program} {f:FuncId} {mask:List Nat} {run:List V→St→Go.AM.R (V×St)}
  (hrun:∀ {bs:List V} {S1 S2:St} {v:V},run bs S1=.ok (v,S2)→∀ {F:Nat→Option Obj} {G:Gh} {W:World} {cs:List Value},cO F G S1 W.heap→VRs G bs cs→
   Calls P f cs.toArray W fun e W'=>∃ G' w,e=.returned w∧Sim F none G S1 W G' S2 W'∧VR G' v w)
  {args:List V} {S S':St} {v:V} (h:aD8 mask run args S=.ok (v,S')) {F:Nat→Option Obj} {G:Gh} {W:World} {cs:List Value} (Rl:cO F G S W.heap) (hv:VRs G args cs):
  Calls P f cs.toArray W fun e W'=>∃ G' w,e=.returned w∧Sim F none G S W G' S' W'∧VR G' v w:=by
 unfold aD8 at h
 rw [cond_eq_ite] at h
 split at h
 ·exact aA3 hrun h Rl hv
 ·exact aA4 hrun h Rl hv
theorem oZ {α:Type} {n:Nat} {x:α}:∀ {l:List (Nat×α)},dS n l=some x→(n,x)∈l
 | [],h=>by cases h
 | (m,y)::l,h=>by
  simp only [dS,cond_eq_ite] at h
  split at h
  ·rename_i hb
   have:=Nat.eq_of_beq_eq_true hb
   cases h;subst this
   exact List.mem_cons_self ..
  ·exact List.mem_cons_of_mem _ (oZ h)
structure SpecOK (P:Program) (f:FuncId) (g:List V→St→R (V×St)):Prop where
 enters:∃ fn c,P.funcs[f]?=some fn∧(fn.name == "runtime.NumGoroutine")=false∧fn.body=some c
 calls:∀ {args:List V} {S S':St} {v:V},g args S=.ok (v,S')→∀ {F:Nat→Option Obj} {G:Gh} {W:World} {cs:List Value},cO F G S W.heap→VRs G args cs→
  Calls P f cs.toArray W fun e W'=>∃ G' w,e=.returned w∧Sim F none G S W G' S' W'∧VR G' v w
structure PlansOK (P:Program) (pl:eE):Prop where
 mixed:P.follows .mixedOrders=true
 ok:∀ f p,pl f=some (.code p)∨pl f=some (.val p)∨(∃ m,pl f=some (.own p m))→oS P p f=true
 sp:∀ f g,pl f=some (.spec g)→SpecOK P f g
def SpAll (P:Program):tY→Prop
 | []=>True
 | (f,x)::l=>SpecOK P f (x.run P)∧SpAll P l
theorem SpAll.mem {P:Program} {f:FuncId} {x:Sp}:∀ {l:tY},SpAll P l→(f,x)∈l→SpecOK P f (x.run P)
 | (_,_)::_,h,hm=>by
  rcases List.mem_cons.1 hm with e | hm
  ·cases e;exact h.1
  ·exact SpAll.mem h.2 hm
theorem mL {P:Program} {sp:tY} {t:dT} {vl:List Nat} {ol:List (Nat×List Nat)} (hm:P.follows .mixedOrders=true) (hs:SpAll P sp) (h:dH P t=true):PlansOK P (iJ P sp t vl ol):=by
 have key:∀ f,(∃ x,dS f sp=some x∧iJ P sp t vl ol f=some (.spec (x.run P)))∨(dS f sp=none∧((∃ l,dS f t=some l∧∀ e,iJ P sp t vl ol f=some e→e=.val (fun id=>dS id l)∨e=.code (fun id=>dS id l)∨∃ m,e=.own (fun id=>dS id l) m)∨iJ P sp t vl ol f=none)):=by
  intro f
  unfold iJ
  cases h1:dS f sp with
  | some x=>exact .inl ⟨x,rfl,rfl⟩
  | none=>
   refine .inr ⟨rfl,?_⟩
   cases h2:dS f t with
   | none=>exact .inr rfl
   | some l=>
    refine .inl ⟨l,rfl,fun e he=>?_⟩
    cases h3:dS f ol with
    | some m=>simp only [h3] at he;exact .inr (.inr ⟨m,(Option.some.inj he).symm⟩)
    | none=>
     simp only [h3] at he
     cases h4:fI f vl with
     | true=>rw [h4] at he;exact .inl (Option.some.inj he).symm
     | false=>rw [h4] at he;exact .inr (.inl (Option.some.inj he).symm)
 refine ⟨hm,fun f p hp=>?_,fun f g hp=>?_⟩
 ·rcases key f with ⟨x,_,h2⟩ | ⟨_,⟨l,h1,h2⟩ | h2⟩
  ·rcases hp with hp | hp | ⟨m,hp⟩<;>(rw [h2] at hp;cases hp)
  ·have:=List.all_eq_true.1 h (f,l) (oZ h1)
   rcases hp with hp | hp | ⟨m,hp⟩<;>rcases h2 _ hp with h3 | h3 | ⟨m',h3⟩<;>cases h3<;>exact this
  ·rcases hp with hp | hp | ⟨m,hp⟩<;>(rw [h2] at hp;cases hp)
 ·rcases key f with ⟨x,h1,h2⟩ | ⟨_,⟨l,h1,h2⟩ | h2⟩
  ·rw [h2] at hp;cases hp
   exact hs.mem (oZ h1)
  ·rcases h2 _ hp with h3 | h3 | ⟨m',h3⟩<;>cases h3
  ·rw [h2] at hp;cases hp
theorem sp3 {P:Program} {f:FuncId} {args:List V} {S S':St} {v:V} {s i x:V} (he:args=[s,i,x])
  {F:Nat→Option Obj} {G:Gh} {W:World} {cs:List Value} (hvs:VRs G args cs)
  (K:∀ {a b c:Value},VR G s a→VR G i b→VR G x c→Calls P f #[a,b,c] W fun e W'=>∃ G' w,e=.returned w∧Sim F none G S W G' S' W'∧VR G' v w):
  Calls P f cs.toArray W fun e W'=>∃ G' w,e=.returned w∧Sim F none G S W G' S' W'∧VR G' v w:=by
 subst he
 cases hvs with
 | cons _ a1 _ _ h1 t=>cases t with
  | cons _ a2 _ _ h2 t=>cases t with
   | cons _ a3 _ _ h3 t=>cases t with
    | nil=>exact K h1 h2 h3
theorem eG {P:Program} {f:FuncId} {T e I B:TypeId} {ov rr:FuncId} {fn:Func} (L:InsAt P f T e I B ov rr fn) (hn:(fn.name == "runtime.NumGoroutine")=false):SpecOK P f ((Sp.ins T).run P):=by
 refine ⟨⟨fn,_,L.hf,hn,L.hb⟩,fun {args S S' v} h=>?_⟩
 intro F G W cs R hvs
 have hd:∃ s i x,args=[s,i,x]∧qU P T s i x S=.ok (v,S'):=by
  match args,h with
  | [s,i,x],h=>exact ⟨s,i,x,rfl,h⟩
 obtain ⟨s,i,x,he,h⟩:=hd
 exact sp3 he hvs fun h1 h2 h3=>vY L h R h1 h2 h3
theorem yE {P:Program} {f:FuncId} {T e I B:TypeId} {fn:Func} (L:DelAt P f T e I B fn) (hn:(fn.name == "runtime.NumGoroutine")=false):SpecOK P f ((Sp.del T).run P):=by
 refine ⟨⟨fn,_,L.hf,hn,L.hb⟩,fun {args S S' v} h=>?_⟩
 intro F G W cs R hvs
 have hd:∃ s i x,args=[s,i,x]∧qW P T s i x S=.ok (v,S'):=by
  match args,h with
  | [s,i,x],h=>exact ⟨s,i,x,rfl,h⟩
 obtain ⟨s,i,x,he,h⟩:=hd
 exact sp3 he hvs fun h1 h2 h3=>vZ L h R h1 h2 h3
theorem pJ:∀ (l:List V) (i:Nat) (e:aJ) (t:Nat),i+l.length≤fZ→(cI i l e).get t=if i≤t∧t<i+l.length then l[t - i]? else e.get t
 | [],i,e,t,_=>by simp [cI];intro h1 h2;omega
 | v::l,i,e,t,h=>by
  simp only [List.length_cons] at h
  simp only [cI,List.length_cons]
  rw [pJ l (i+1) _ t (by omega)]
  by_cases h1:t=i
  ·subst h1
   rw [if_neg (by omega),if_pos (by omega),Tr.get_put_same _ _ _ (by omega)];simp
  ·rw [Tr.get_put_ne _ _ _ _ (by omega) h1]
   by_cases h2:i+1≤t∧t<i+1+l.length
   ·rw [if_pos h2,if_pos (by omega),show t - i=(t - (i+1))+1 by omega];simp
   ·rw [if_neg h2,if_neg (by omega)]
theorem tH {P:Program} {t:TypeId} {p:V} {v:V} {G:Gh} {q w:Value} {W:World} {S:St} (hv:gA P t p S=.ok v) (hq:VR G p q) (h:(Instr.loadAt t q).run P W=.ok w W):
  (do loadVar t (←asAddr q):Sem Value).run P W=.ok w W:=by
 cases hq with
 | ptr _ _ _ _ ad hp=>exact h
 | iptr _ _ b o c ty fr hb vs hv hvs=>exact h
 | _=>cases hv
theorem mM {P:Program} {F:Nat→Option Obj} {G:Gh} {S:St} {W:World} (R:cO F G S W.heap) {n:Nat} {e:aJ} {tmps:Array Value} (he:EnvR G n e tmps):
  ∀ {l:List ResultVar} {vs:List V},vM P e S l=.ok vs→∃ ws:List Value,(l.mapM (mK tmps)).run P W=Result.ok ws W∧VRs G vs ws
 | [],vs,h=>by
  cases h
  exact ⟨[],rfl,.nil⟩
 | .tmp t::l,vs,h=>by
  simp only [vM] at h
  split at h
  ·rename_i v vs' hv hvs
   cases h
   obtain ⟨ws,w1,w2⟩:=mM R he hvs
   obtain ⟨w,h1,h2⟩:=he.2 t v hv
   refine ⟨w::ws,?_,.cons _ _ _ _ h2 w2⟩
   have hd:tmps.getD t undef=w:=by simp [h1]
   simp only [List.mapM_cons,Sem.run_bind,mK,hd,Sem.run_pure,Result.andThen_ok,w1]
  ·cases h
  ·cases h
 | .cell a t::l,vs,h=>by
  simp only [vM] at h
  split at h
  ·cases h
  ·rename_i p hp
   split at h
   ·rename_i v vs' hv hvs
    cases h
    obtain ⟨ws,w1,w2⟩:=mM R he hvs
    obtain ⟨w,h1,h2⟩:=he.2 a p hp
    have hd:tmps.getD a undef=w:=by simp [h1]
    obtain ⟨u,u1,u2⟩:=rS hv R h2
    refine ⟨u::ws,?_,.cons _ _ _ _ u2 w2⟩
    have:=tH hv h2 u1
    simp only [List.mapM_cons,Sem.run_bind (f:=fun _=>_),mK,hd]
    rw [Sem.run_bind,this]
    simp only [Result.andThen_ok,Sem.run_bind,w1,Sem.run_pure]
   ·cases h
   ·cases h
theorem aDk {G:Gh} {vs:List V} {ws:List Value} (h:VRs G vs ws):VR G (jQ vs) (aF2 ws):=by
 cases h with
 | nil=>exact .tup [] #[] .nil
 | cons v w vs ws h t=>
  cases t with
  | nil=>exact h
  | cons v2 w2 vs2 ws2 h2 t2=>exact .tup _ _ (.cons _ _ _ _ h (.cons _ _ _ _ h2 t2))
theorem kW {P:Program} {call:Call} {k:Nat} {p:Nat→Option (List bB)} {f:FuncId} (hok:oS P p f=true) {args:List V} {S:St} {r:V×St} (h:kF P call k p f args S=.ok r) (cs:Array Value) (W:World):
  (callFunc f cs).run P W=.ok (.enter f cs) W:=by
 unfold kF at h
 split at h
 ·cases h
 ·rename_i fn hf
  split at h
  ·cases h
  ·rename_i c hb
   unfold oS at hok
   rw [hf] at hok
   simp only [Bool.and_eq_true,Bool.not_eq_true'] at hok
   unfold callFunc
   rw [Sem.run_bind,show Sem.run P program W=.ok P W from rfl]
   simp only [Result.andThen_ok,hf,hok.1,hb]
   rfl
theorem mN {P:Program} {call:Call} (hc:CallOK P call) (hm:P.follows .mixedOrders=true) {k:Nat} {p:Nat→Option (List bB)} {f:FuncId} (hok:oS P p f=true) {args:List V} {S S':St} {v:V}
  (h:kF P call k p f args S=.ok (v,S')) {F:Nat→Option Obj} {G:Gh} {W:World} {cs:List Value} (R:cO F G S W.heap) (hvs:VRs G args cs):
  Calls P f cs.toArray W fun e W'=>∃ G' w,e=.returned w∧Sim F none G S W G' S' W'∧VR G' v w:=by
 unfold kF at h
 split at h
 ·cases h
 ·rename_i fn hf
  split at h
  ·cases h
  ·rename_i c hb
   unfold oS at hok
   rw [hf] at hok
   simp only [Bool.and_eq_true,hb] at hok
   rw [cond_eq_ite] at h
   split at h
   ·rename_i hsz
    simp only [Bool.and_eq_true,Nat.ble_eq,Nat.blt_eq] at hsz
    obtain ⟨hl,hn⟩:=hsz
    have hcl:=hvs.length
    refine calls_of_wp hf hb ?_
    have he:EnvR G fn.ntmps (cI 0 args .nil) (cs.toArray++Array.replicate (fn.ntmps - cs.toArray.size) undef):=by
     refine ⟨by simp;omega,fun t v ht=>?_⟩
     rw [pJ _ _ _ _ (by omega)] at ht
     split at ht
     ·rename_i hlt
      obtain ⟨w,w1,w2⟩:=hvs.get (i:=t) (by simpa using ht)
      refine ⟨w,?_,w2⟩
      rw [Array.getElem?_append_left (by simp;omega)]
      simpa using w1
     ·rw [Tr.get_nil] at ht;cases ht
    split at h
    ·cases h
    ·cases h
    ·rename_i x e1 S1 hne hx
     split at h
     ·rename_i vs hr
      cases h
      refine zZ hc hm hn c hok.2 hx R he fun G' W' a' q1 q2 q3=>?_
      obtain ⟨ws,w1,w2⟩:=mM q1.rel q2 hr
      have hres:=lY w1
      have:a'.defers=[]∧∃ v,(results fn a'.tmps).run P W'=.ok v W'∧∃ G' w,Ending.returned v=.returned w∧Sim F none G S W G' S' W'∧VR G' (jQ vs) w:=
       ⟨q3,_,hres,G',_,rfl,q1,aDk w2⟩
      cases x with
      | normal=>exact this
      | ret=>exact this
      | exit id=>exact (hne id rfl).elim
     ·cases h
   ·cases h
theorem aDl {run:List V→St→Go.AM.R (V×St)} {args:List V} {S:St} {r:V×St} (h:oQ run args S=.ok r):∃ bs S1 r1,run bs S1=.ok r1:=by
 unfold oQ at h
 split at h
 ·cases h
 split at h
 ·cases h
 rw [cond_eq_ite] at h
 split at h
 ·cases h
 split at h
 ·cases h
 ·rename_i hx
  exact ⟨_,_,_,hx⟩
theorem aDm {mask:List Nat} {run:List V→St→Go.AM.R (V×St)} {args:List V} {S:St} {r:V×St} (h:aD8 mask run args S=.ok r):∃ bs S1 r1,run bs S1=.ok r1:=by
 unfold aD8 aEt aB0 at h
 rw [cond_eq_ite] at h
 split at h
 all_goals
  split at h
  ·cases h
  split at h
  ·cases h
  ·rename_i hx
   exact ⟨_,_,_,hx⟩
theorem kY {P:Program} {pl:eE} (hp:PlansOK P pl):∀ k,CallOK P (cP P pl k)
 | 0=>by
  refine ⟨?_,?_⟩
  ·intro f args S r h;cases h
  ·intro f args S v S' h;cases h
 | k+1=>by
  have ih:=kY hp k
  refine ⟨?_,?_⟩
  ·intro f args S r h cs W
   simp only [cP] at h
   split at h
   ·cases h
   ·rename_i g hpl
    obtain ⟨fn,c,hf,hn,hb⟩:=(hp.sp f g hpl).enters
    unfold callFunc
    rw [Sem.run_bind,show Sem.run P program W=.ok P W from rfl]
    simp only [Result.andThen_ok,hf,hn,hb]
    rfl
   ·rename_i p hpl
    exact kW (hp.ok f p (.inl hpl)) h cs W
   ·rename_i p hpl
    obtain ⟨bs,S1,r1,h1⟩:=aDl h
    exact kW (hp.ok f p (.inr (.inl hpl))) h1 cs W
   ·rename_i p mask hpl
    obtain ⟨bs,S1,r1,h1⟩:=aDm h
    exact kW (hp.ok f p (.inr (.inr ⟨mask,hpl⟩))) h1 cs W
  ·intro f args S v S' h F G W cs R hvs
   simp only [cP] at h
   split at h
   ·cases h
   ·rename_i g hpl
    exact (hp.sp f g hpl).calls h R hvs
   ·rename_i p hpl
    exact mN ih hp.mixed (hp.ok f p (.inl hpl)) h R hvs
   ·rename_i p hpl
    refine aDi (run:=fun bs S=>kF P (cP P pl k) k p f bs S) ?_ h R hvs
    intro bs S1 S2 v h F G W cs R hv
    exact mN ih hp.mixed (hp.ok f p (.inr (.inl hpl))) h R hv
   ·rename_i p mask hpl
    refine aDj (run:=fun bs S=>kF P (cP P pl k) k p f bs S) ?_ h R hvs
    intro bs S1 S2 v h F G W cs R hv
    exact mN ih hp.mixed (hp.ok f p (.inr (.inr ⟨mask,hpl⟩))) h R hv
def Gh.none:Gh:=⟨fun _=>.none,fun _=>.none,fun _=>.none,fun _=>0⟩
def St.empty:St:=⟨0,.nil⟩
theorem aDn (W:World):cO (fun i=>W.heap[i]?) Gh.none St.empty W.heap:=
 ⟨fun _ _=>⟨rfl,rfl⟩,fun _ _ h=>(by cases h),fun a b h=>(by cases h),fun a a' b b' i h=>(by cases h),fun i o h=>h,fun i o h=>(by cases h),fun a b i h=>(by cases h),
  fun a i h=>(by rcases h with ⟨L,h,_⟩ | h<;>cases h),fun a b h=>(by cases h)⟩
theorem sG {P:Program} {pl:eE} (hp:PlansOK P pl) {k:Nat} {f:FuncId} (h:nB (cP P pl k f [] St.empty)=true) (W:World):
  Calls P f #[] W fun e W'=>e=.returned (.bool true)∧RowKit.Below W.heap.size W W':=by
 unfold nB at h
 split at h
 ·rename_i b S' hx
  subst h
  refine ((kY hp k).calls hx (aDn W) .nil).mono ?_
  rintro e W' ⟨G',w,rfl,q1,q2⟩
  cases q2
  refine ⟨rfl,q1.same.os,q1.same.tape,q1.same.output,q1.same.size,fun i hi=>?_⟩
  have:=Array.getElem?_eq_getElem hi
  rw [this]
  exact q1.rel.fr i _ this
 ·cases h
abbrev An:=Option (V×St)
def dIf (b:Bool) (x:An):An:=match b with
 | true=>x
 | false=>none
def aW2 (v:V) (x y:An):An:=match v with
 | .bool true=>x
 | .bool false=>y
 | _=>none
def yF (c a b:V):R V:=match c with
 | .bool true=>.ok a
 | .bool false=>.ok b
 | _=>.error "pick"
def aF9 (j:Nat):List Nat→Bool
 | []=>false
 | i::l=>match Nat.beq i j with
  | true=>true
  | false=>aF9 j l
def aFa:List Func→Nat→Option Func
 | [],_=>none
 | f::_,0=>some f
 | _::l,n+1=>aFa l n
def bV (P:Program) (g:FuncId):Option (Option Func):=match aFa P.funcs.toList g with
 | none=>none
 | some fn=>match fn.body with
  | some _=>some none
  | none=>some (some fn)
def wH (P:Program) (t:TypeId):Bool:=match P.underlying t with
 | some .string=>true
 | _=>false
def aA5 (v:V) (fr:Option Nat) (S:St):R (V×St):=match v with
 | .str s=>(match aV fr S (.iter s 0) with
  | .ok (a,S')=>.ok (.ptr a 0 0 0,S')
  | .error e=>.error e)
 | _=>.error "range"
def aFb (v:V) (S:St):R (V×St):=match v with
 | .ptr a 0 0 0=>(match S.heap.get a with
  | some (.iter s pos)=>(match Nat.blt pos s.length with
   | true=>(match s[pos]? with
    | some b=>(match Nat.blt b.toNat 128 with
     | true=>.ok (.tup [.bool true,.int .i64 pos,.int .i32 b.toNat],⟨S.next,S.heap.put a (.iter s (pos+1))⟩)
     | false=>.ok (.tup [.bool true,.int .i64 pos,.int .i32 (Utf8.decode ⟨⟨s⟩⟩ pos).1],⟨S.next,S.heap.put a (.iter s (pos+(Utf8.decode ⟨⟨s⟩⟩ pos).2))⟩))
    | none=>.error "next")
   | false=>.ok (.tup [.bool false],S))
  | _=>.error "next")
 | _=>.error "next"
def gZ (ops:Array Oper) (j:Nat):Option Tmp:=match ops[j]? with
 | none=>none
 | some o=>o.dst
def nU (ran:Bool) (i:Nat) (sk:List Nat):List Nat:=match ran with
 | true=>sk
 | false=>i::sk
def nV (P:Program) (o:Oper) (i:Nat) (e:aJ) (ran:Bool) (v:V) (recs:List kL):List kL:=
 match Nat.beq (cA P o.op) 1&&ran&&o.dst.isSome with
 | true=>(i,e,v)::recs
 | false=>recs
def aS:Code→Nat
 | .region id _ _=>id
 | .seq a _=>aS a
 | .block _ a=>aS a
 | .loop a=>aS a
 | _=>0
def sH:List Oper→Nat→Bool
 | [],_=>false
 | o::l,t=>(match o.dst with
  | some d=>Nat.beq d t
  | none=>false)||sH l t
def gF:Code→Nat→Bool
 | .region _ ops _,t=>sH ops.toList t
 | .seq a b,t=>gF a t||gF b t
 | .cond _ a b,t=>gF a t||gF b t
 | .block _ a,t=>gF a t
 | .loop a,t=>gF a t
 | _,_=>false
def Tr.filt {α:Type} (p:Nat→Bool):Tr α→Tr α
 | .nil=>.nil
 | .node l v r=>.node (l.filt (fun m=>p (2*m+1))) (match p 0 with
  | true=>v
  | false=>none) (r.filt (fun m=>p (2*m+2)))
def pK (e:aJ) (c:Operand) (b:Bool):aJ:=match c with
 | .tmp t=>e.put t (.bool b)
 | _=>e
def pM (P:Program) (f:FuncId):Option (Code×Nat×List ResultVar):=
 match aFa P.funcs.toList f with
 | none=>none
 | some fn=>match fn.body with
  | none=>none
  | some c=>match Nat.blt fn.ntmps fZ with
   | true=>some (c,fn.ntmps,fn.results.toList)
   | false=>none
abbrev aOn:=FuncId→Nat→List Nat
def tk (P:Program) (t:TypeId):Option (Option Nat):=
 match P.underlying t with
 | none=>none
 | some d=>bif aEm d then some (some (sz P t)) else some none
def fo (P:Program) (s:TypeId) (f:Nat):Option Nat:=
 match mX P s f with
 | none=>none
 | some fd=>bif Nat.beq (sz P fd.type) 0 then none else some fd.offset
def esT (P:Program) (t:TypeId):Option Nat:=
 match P.underlying t with
 | some (.slice e)=>bif (P.underlying e).isSome then some (sz P e) else none
 | _=>none
def aK2 (P:Program) (t:TypeId):Bool:=
 match P.underlying t with
 | some (.slice _)=>true
 | _=>false
def aK3 (P:Program) (t:TypeId):Bool:=
 match P.underlying t with
 | some .string=>true
 | _=>false
def apT (P:Program) (t:TypeId):Option (Nat×Nat):=
 match gB P t with
 | none=>none
 | some e=>bif hM P e then some (sz P e,P.bytesOf e) else none
theorem jE {ρ ρ':Operand→Option V} (hm:∀ x v,ρ x=some v→ρ' x=some v):∀ {l:List Operand} {vs:List V},jA ρ l=some vs→jA ρ' l=some vs
 | [],vs,h=>h
 | x::l,vs,h=>by
  simp only [jA] at h ⊢
  split at h
  ·rename_i v hv
   split at h
   ·rename_i ws hw
    rw [hm _ _ hv,jE hm hw];exact h
   ·cases h
  ·cases h
theorem pA {ρ ρ':Operand→Option V} (hm:∀ x v,ρ x=some v→ρ' x=some v):∀ {l:List (Nat×Operand)} {vs:List (Nat×V)},hU ρ l=some vs→hU ρ' l=some vs
 | [],vs,h=>h
 | (i,x)::l,vs,h=>by
  simp only [hU] at h ⊢
  split at h
  ·rename_i v hv
   split at h
   ·rename_i ws hw
    rw [hm _ _ hv,pA hm hw];exact h
   ·cases h
  ·cases h
theorem yG {ρ ρ':Operand→Option V} (hm:∀ x v,ρ x=some v→ρ' x=some v) {x:Option Operand} {v:Option V} (h:tX ρ x=some v):tX ρ' x=some v:=by
 cases x with
 | none=>exact h
 | some x=>
  simp only [tX] at h ⊢
  split at h
  ·rename_i w hw;rw [hm _ _ hw];exact h
  ·cases h
theorem pN {P:Program} {ρ ρ':Operand→Option V} (hm:∀ x v,ρ x=some v→ρ' x=some v) {o:Oper} {fr:Option Nat} {S:St} {r:Out} (h:aI P ρ o fr S=.ok r):aI P ρ' o fr S=.ok r:=by
 obtain ⟨dst,op,ty,pos,after,gd⟩:=o
 cases op<;>simp only [aI] at h ⊢<;>try exact h
 case move x=>(cases hx:ρ x with | none=>(simp only [hx] at h;cases h) | some v=>(rw [hm _ _ hx];simp only [hx] at h;exact h))
 case assign x=>(cases hx:ρ x with | none=>(simp only [hx] at h;cases h) | some v=>(rw [hm _ _ hx];simp only [hx] at h;exact h))
 case pick c a b=>
  cases hc:ρ c with
  | none=>simp only [hc] at h;cases h
  | some w=>
   rw [hm _ _ hc]
   simp only [hc] at h
   cases w with
   | bool t=>
    cases t with
    | true=>(cases hx:ρ a with | none=>(simp only [hx] at h;cases h) | some v=>(rw [hm _ _ hx];simp only [hx] at h;exact h))
    | false=>(cases hx:ρ b with | none=>(simp only [hx] at h;cases h) | some v=>(rw [hm _ _ hx];simp only [hx] at h;exact h))
   | _=>cases h
 case box t x=>(cases hx:ρ x with | none=>(simp only [hx] at h;cases h) | some v=>(rw [hm _ _ hx];simp only [hx] at h;exact h))
 case build t ps=>(cases hx:hU ρ ps.toList with | none=>(simp only [hx] at h;cases h) | some v=>(rw [pA hm hx];simp only [hx] at h;exact h))
 case buildSlice t n ps=>(cases hx:hU ρ ps.toList with | none=>(simp only [hx] at h;cases h) | some v=>(rw [pA hm hx];simp only [hx] at h;exact h))
 case load t x=>(cases hx:ρ x with | none=>(simp only [hx] at h;cases h) | some v=>(rw [hm _ _ hx];simp only [hx] at h;exact h))
 case store t a x=>(cases ha:ρ a with | none=>(simp only [ha] at h;cases h) | some w=>(cases hx:ρ x with | none=>(simp only [ha,hx] at h;cases h) | some v=>(rw [hm _ _ ha,hm _ _ hx];simp only [ha,hx] at h;exact h)))
 case nilCheck x=>(cases hx:ρ x with | none=>(simp only [hx] at h;cases h) | some v=>(rw [hm _ _ hx];simp only [hx] at h;exact h))
 case binOp op t a x _=>(cases ha:ρ a with | none=>(simp only [ha] at h;cases h) | some w=>(cases hx:ρ x with | none=>(simp only [ha,hx] at h;cases h) | some v=>(rw [hm _ _ ha,hm _ _ hx];simp only [ha,hx] at h;exact h)))
 case unOp op t x=>(cases hx:ρ x with | none=>(simp only [hx] at h;cases h) | some v=>(rw [hm _ _ hx];simp only [hx] at h;exact h))
 case convert s d x=>(cases hx:ρ x with | none=>(simp only [hx] at h;cases h) | some v=>(rw [hm _ _ hx];simp only [hx] at h;exact h))
 case makeSlice t a x=>(cases ha:ρ a with | none=>(simp only [ha] at h;cases h) | some w=>(cases hx:ρ x with | none=>(simp only [ha,hx] at h;cases h) | some v=>(rw [hm _ _ ha,hm _ _ hx];simp only [ha,hx] at h;exact h)))
 case slice t x lo hi mx=>
  cases mx with
  | some m=>simp only at h;cases h
  | none=>
   cases hx:ρ x with
   | none=>simp only [hx] at h;cases h
   | some v=>
    cases hl:tX ρ lo with
    | none=>simp only [hx,hl] at h;cases h
    | some l=>
     cases hh:tX ρ hi with
     | none=>simp only [hx,hl,hh] at h;cases h
     | some u=>rw [hm _ _ hx,yG hm hl,yG hm hh];simp only [hx,hl,hh] at h;exact h
 case fieldAddr s x f=>(cases hx:ρ x with | none=>(simp only [hx] at h;cases h) | some v=>(rw [hm _ _ hx];simp only [hx] at h;exact h))
 case field s x f=>(cases hx:ρ x with | none=>(simp only [hx] at h;cases h) | some v=>(rw [hm _ _ hx];simp only [hx] at h;exact h))
 case indexAddr t a x=>(cases ha:ρ a with | none=>(simp only [ha] at h;cases h) | some w=>(cases hx:ρ x with | none=>(simp only [ha,hx] at h;cases h) | some v=>(rw [hm _ _ ha,hm _ _ hx];simp only [ha,hx] at h;exact h)))
 case index t a x=>(cases ha:ρ a with | none=>(simp only [ha] at h;cases h) | some w=>(cases hx:ρ x with | none=>(simp only [ha,hx] at h;cases h) | some v=>(rw [hm _ _ ha,hm _ _ hx];simp only [ha,hx] at h;exact h)))
 case range t x=>(cases hx:ρ x with | none=>(simp only [hx] at h;cases h) | some v=>(rw [hm _ _ hx];simp only [hx] at h;exact h))
 case next it s=>(cases hx:ρ it with | none=>(simp only [hx] at h;cases h) | some v=>(rw [hm _ _ hx];simp only [hx] at h;exact h))
 case makeMap t m=>(cases m<;>exact h)
 case lookup t a x ok=>(cases ha:ρ a with | none=>(simp only [ha] at h;cases h) | some w=>(cases hx:ρ x with | none=>(simp only [ha,hx] at h;cases h) | some v=>(rw [hm _ _ ha,hm _ _ hx];simp only [ha,hx] at h;exact h)))
 case mapUpdate t m a x=>
  cases hb:ρ m with
  | none=>simp only [hb] at h;cases h
  | some u=>(cases ha:ρ a with | none=>(simp only [hb,ha] at h;cases h) | some w=>(cases hx:ρ x with | none=>(simp only [hb,ha,hx] at h;cases h) | some v=>(rw [hm _ _ hb,hm _ _ ha,hm _ _ hx];simp only [hb,ha,hx] at h;exact h)))
 case makeFunc fn a b=>
  cases fn with
  | func f=>
   cases ha:jA ρ a.toList with
   | none=>simp only [ha] at h;cases h
   | some w=>(cases hx:jA ρ b.toList with | none=>(simp only [ha,hx] at h;cases h) | some v=>(rw [jE hm ha,jE hm hx];simp only [ha,hx] at h;exact h))
  | _=>cases h
 case makeInterface t x=>(cases hx:ρ x with | none=>(simp only [hx] at h;cases h) | some v=>(rw [hm _ _ hx];simp only [hx] at h;exact h))
 case typeAssert x _ t ok=>(cases hx:ρ x with | none=>(simp only [hx] at h;cases h) | some v=>(rw [hm _ _ hx];simp only [hx] at h;exact h))
 case extract x i=>(cases hx:ρ x with | none=>(simp only [hx] at h;cases h) | some v=>(rw [hm _ _ hx];simp only [hx] at h;exact h))
 case call c=>
  obtain ⟨callee,args,ats⟩:=c
  cases callee with
  | value f=>
   simp only at h ⊢
   cases hf:ρ f with
   | none=>simp only [hf] at h;cases h
   | some w=>(cases hx:jA ρ args.toList with | none=>(simp only [hf,hx] at h;cases w<;>cases h) | some v=>(rw [hm _ _ hf,jE hm hx];simp only [hf,hx] at h;exact h))
  | builtin b=>
   simp only at h ⊢
   (cases hx:jA ρ args.toList with | none=>(simp only [hx] at h;cases h) | some v=>(rw [jE hm hx];simp only [hx] at h;exact h))
  | invoke r m=>
   simp only at h ⊢
   cases hf:ρ r with
   | none=>simp only [hf] at h;cases h
   | some w=>(cases hx:jA ρ args.toList with | none=>(simp only [hf,hx] at h;cases w<;>cases h) | some v=>(rw [hm _ _ hf,jE hm hx];simp only [hf,hx] at h;exact h))
theorem aB8:∀ (l:List Func) (i:Nat),aFa l i=l[i]?
 | [],0=>rfl
 | [],_+1=>rfl
 | _::_,0=>rfl
 | _::l,i+1=>by rw [List.getElem?_cons_succ];exact aB8 l i
theorem yH (P:Program) (i:Nat):aFa P.funcs.toList i=P.funcs[i]?:=by rw [aB8];simp
abbrev KW:=V→St→Prop
abbrev gG:=aJ→St→Prop
abbrev bJ:=FuncId→List V→St→KW→Prop
def wO {α:Type} (x:Option α) (K:α→Prop):Prop:=match x with
 | some a=>K a
 | none=>False
def wR {α:Type} (x:R α) (K:α→Prop):Prop:=match x with
 | .ok a=>K a
 | .error _=>False
def oN (b:Bool) (x:Prop):Prop:=match b with
 | true=>x
 | false=>False
def cV (v:V) (x y:Prop):Prop:=match v with
 | .bool true=>x
 | .bool false=>y
 | _=>False
def aDo (v:V) (x:Prop):Prop:=match v with
 | .tup _=>x
 | _=>False
def sI (v:V) (x:Prop):Prop:=match v with
 | .ptr _ _ _ _=>x
 | .iptr _ _=>x
 | _=>False
def aA6 (v:V) (i:Nat) (K:V→Prop):Prop:=match v with
 | .tup vs=>wO vs[i]? K
 | _=>False
def wUn (vs:List V) (K:V→List V→Prop):Prop:=match vs with
 | v::r=>K v r
 | []=>False
def yI:Nat→List V→St→(List V→St→(List V→St→Prop)→Prop)→Prop
 | 0,_,_,_=>False
 | k+1,vs,S,F=>F vs S (fun vs S=>yI k vs S F)
def pO (vs:List V) (S:St) (F:List V→St→(List V→St→Prop)→Prop):Prop:=∃ k,yI k vs S F
def eS (P:Program) (C:bJ) (g:FuncId) (args:List V) (S:St) (K:KW):Prop:=
 wO (bV P g) fun x=>match x with
  | none=>C g args S K
  | some fn=>wR (mZ fn args) fun v=>K v S
def aFc (P:Program) (C:bJ) (v:V) (args:List V) (S:St) (K:KW):Prop:=match v with
 | .func g first captured=>eS P C g (first++args++captured) S K
 | _=>False
def aIl (P:Program) (C:bJ) (v:V) (name:String) (args:List V) (S:St) (K:KW):Prop:=match v with
 | .iface t v=>wO (dQ P t name) fun g=>eS P C g (v::args) S K
 | _=>False
def pB (P:Program) (b:Builtin) (ts:Array TypeId) (args:List V) (fr:Option Nat) (S:St) (K:KW):Prop:=
 match b,args with
 | .len,[x]=>wO ts[0]? fun t=>wR (oO P t x S) fun v=>K v S
 | .min,args=>wR (aEp args) fun v=>K v S
 | .max,args=>wR (aEq args) fun v=>K v S
 | .append,[s,x]=>wO ts[0]? fun t=>wO ts[1]? fun u=>(match P.underlying u with
  | some (.slice _)=>wR (cX P t s x fr S) fun r=>K r.1 r.2
  | some .string=>wR (cX P t s x fr S) fun r=>K r.1 r.2
  | _=>False)
 | .clear,[x]=>wO ts[0]? fun t=>wR (rO P t x S) fun r=>K r.1 r.2
 | .copy,[d,x]=>wO ts[0]? fun t=>wR (xC P t d x S) fun r=>K r.1 r.2
 | _,_=>False
def dX (P:Program) (C:bJ) (o:Oper) (fr:Option Nat) (e:aJ) (S:St) (K:KW):Prop:=
 match o.op with
 | .move x=>wO (ev e x) fun v=>K v S
 | .assign x=>wO (ev e x) fun v=>K v S
 | .pick c a b=>wO (ev e c) fun c=>wO (ev e a) fun a=>wO (ev e b) fun b=>wR (yF c a b) fun v=>K v S
 | .alloc t=>wO (aF P t) fun z=>wR (aV fr S (.row 0 z.cells.length [z.cells])) fun r=>K (.ptr r.1 0 0 0) r.2
 | .box _ x=>wO (ev e x) fun v=>oN (aP v.cells) (wR (aV fr S (.row 0 v.cells.length [v.cells])) fun r=>K (.ptr r.1 0 0 0) r.2)
 | .build t ps=>wO (hU (ev e) ps.toList) fun vs=>wR (iR P t vs) fun v=>K v S
 | .buildSlice t n ps=>wO (hU (ev e) ps.toList) fun vs=>wR (bM P t n vs fr S) fun r=>K r.1 r.2
 | .load t a=>wO (ev e a) fun p=>wR (gA P t p S) fun v=>K v S
 | .store t a x=>wO (ev e a) fun p=>wO (ev e x) fun v=>wR (iQ P t p v S) fun S'=>K (.tup []) S'
 | .nilCheck x=>wO (ev e x) fun v=>sI v (K v S)
 | .binOp op t x y _=>wO (ev e x) fun a=>wO (ev e y) fun b=>oN (zM P op t x y a b) (wR (aZ P op t a b) fun v=>K v S)
 | .unOp op _ x=>wO (ev e x) fun v=>wR (unV op v) fun v=>K v S
 | .convert s d x=>wO (ev e x) fun v=>wR (bP P s d v fr S) fun r=>K r.1 r.2
 | .makeSlice t l c=>wO (ev e l) fun l=>wO (ev e c) fun c=>wR (dG P t l c fr S) fun r=>K r.1 r.2
 | .slice t x lo hi none=>wO (ev e x) fun v=>wO (tX (ev e) lo) fun l=>wO (tX (ev e) hi) fun h=>wR (eK P t v l h) fun v=>K v S
 | .fieldAddr s x f=>wO (ev e x) fun p=>wR (bX P s p f) fun v=>K v S
 | .field t x f=>wO (ev e x) fun v=>wR (rN P t v f) fun v=>K v S
 | .indexAddr t x i=>wO (ev e x) fun v=>wO (ev e i) fun k=>wR (cL P t v k) fun v=>K v S
 | .index t x i=>wO (ev e x) fun v=>wO (ev e i) fun k=>wR (rM P t v k) fun v=>K v S
 | .range t x=>wO (ev e x) fun v=>oN (wH P t) (wR (aA5 v fr S) fun r=>K r.1 r.2)
 | .next it isS=>wO (ev e it) fun v=>oN isS (wR (aFb v S) fun r=>K r.1 r.2)
 | .makeMap _ none=>wR (aV fr S (.mp [])) fun r=>K (.mp r.1) r.2
 | .lookup t m k ok=>wO (ev e m) fun m=>wO (ev e k) fun k=>wR (mY P t m k ok S) fun v=>K v S
 | .mapUpdate t m k v=>wO (ev e m) fun m=>wO (ev e k) fun k=>wO (ev e v) fun v=>wR (hP P t m k v S) fun S'=>K (.tup []) S'
 | .makeFunc fn first captured=>(match fn with
  | .func f=>wO (jA (ev e) first.toList) fun a=>wO (jA (ev e) captured.toList) fun b=>K (.func f a b) S
  | _=>False)
 | .makeInterface _ _=>wR (aI P (ev e) o fr S) fun out=>(match out with
  | .val v S'=>K v S'
  | _=>False)
 | .typeAssert x _ t ok=>wO (ev e x) fun v=>wR (gC P v t ok) fun v=>K v S
 | .extract t i=>wO (ev e t) fun v=>aA6 v i fun v=>K v S
 | .call c=>(match c.callee with
  | .value f=>wO (ev e f) fun v=>wO (jA (ev e) c.args.toList) fun args=>aFc P C v args S K
  | .builtin b=>wO (jA (ev e) c.args.toList) fun args=>pB P b c.argTypes args fr S K
  | .invoke r name=>wO (ev e r) fun v=>wO (jA (ev e) c.args.toList) fun args=>aIl P C v name args S K)
 | _=>False
def kJ (n:Nat) (d:Option Tmp) (e:aJ) (v:V) (K:aJ→Prop):Prop:=match d with
 | none=>K e
 | some d=>match Nat.blt d n with
  | true=>K (e.put d v)
  | false=>False
def doW (P:Program) (C:bJ) (n:Nat) (o:Oper) (fr:Option Nat) (e:aJ) (S:St) (K:Bool→V→aJ→St→Prop):Prop:=
 dX P C o fr e S fun v S'=>kJ n o.dst e v fun e'=>K true v e' S'
def uP (n:Nat) (o:Oper) (e:aJ) (S:St) (K:Bool→V→aJ→St→Prop):Prop:=kJ n o.dst e (.tup []) fun e'=>K false (.tup []) e' S
def fA (P:Program) (C:bJ) (n:Nat) (ops:Array Oper) (sk:List Nat) (o:Oper) (fr:Option Nat) (e:aJ) (S:St) (K:Bool→V→aJ→St→Prop):Prop:=
 match o.guard with
 | none=>doW P C n o fr e S K
 | some (j,want)=>wO (gZ ops j) fun d=>wO (e.get d) fun v=>
   match aF9 j sk with
   | true=>aDo v (uP n o e S K)
   | false=>cV v (match want with
    | true=>doW P C n o fr (e.put d (.bool true)) S K
    | false=>uP n o (e.put d (.bool true)) S K) (match want with
    | true=>uP n o (e.put d (.bool false)) S K
    | false=>doW P C n o fr (e.put d (.bool false)) S K)
def aA7 (P:Program) (C:bJ) (n:Nat) (ops:Array Oper):List Oper→Nat→List Nat→aJ→St→gG→Prop
 | [],_,_,e,S,K=>K e S
 | o::l,i,sk,e,S,K=>fA P C n ops sk o none e S fun ran _ e' S'=>aA7 P C n ops l (i+1) (nU ran i sk) e' S' K
def cB (P:Program) (C:bJ) (ops:Array Oper) (i:Nat) (S:St) (K:Prop):List kL→Prop
 | []=>K
 | (j,e,v)::l=>match Nat.beq i j with
  | true=>wO ops[i]? fun o=>dX P C o none e S fun v' _=>oN (dC v v') K
  | false=>cB P C ops i S K l
def jY (P:Program) (C:bJ) (ops:Array Oper) (recs:List kL) (S:St) (K:Prop):List Nat→Prop
 | []=>K
 | i::l=>cB P C ops i S (jY P C ops recs S K l) recs
def kH (P:Program) (C:bJ) (n:Nat) (ops:Array Oper) (base:Nat):List bB→List Nat→List kL→aJ→St→gG→Prop
 | [],_,_,e,S,K=>K e S
 | (i,re)::l,sk,recs,e,S,K=>wO ops[i]? fun o=>
   fA P C n ops sk o (some (base+i)) e S fun ran v e' S'=>jY P C ops recs S' (kH P C n ops base l (nU ran i sk) (nV P o i e ran v recs) e' S' K) re
def iD (e:aJ):List Nat→(List V→Prop)→Prop
 | [],K=>K []
 | t::l,K=>wO (e.get t) fun v=>iD e l fun vs=>K (v::vs)
def wJ:List Nat→List V→aJ→(aJ→Prop)→Prop
 | [],_,e,K=>K e
 | t::l,vs,e,K=>wUn vs fun v r=>wJ l r (e.put t v) K
abbrev tJ:=Nat→gG
def cF (P:Program) (C:bJ) (n:Nat) (p:Nat→Option (List bB)) (lv:Nat→List Nat):Code→aJ→St→gG→tJ→gG→Prop
 | .skip,e,S,Kn,_,_=>Kn e S
 | .label _,e,S,Kn,_,_=>Kn e S
 | .exit id,e,S,_,Kx,_=>Kx id e S
 | .ret,e,S,_,_,Kr=>Kr e S
 | .region id ops d,e,S,Kn,_,_=>(match d with
  | true=>kH P C n ops S.next (rA (p id) ops.size) [] [] e ⟨S.next+ops.size,S.heap⟩ Kn
  | false=>aA7 P C n ops ops.toList 0 [] e S Kn)
 | .seq a b,e,S,Kn,Kx,Kr=>cF P C n p lv a e S (fun e S=>cF P C n p lv b e S Kn Kx Kr) Kx Kr
 | .cond c a b,e,S,Kn,Kx,Kr=>wO (ev e c) fun v=>cV v (cF P C n p lv a (pK e c true) S Kn Kx Kr) (cF P C n p lv b (pK e c false) S Kn Kx Kr)
 | .block id a,e,S,Kn,Kx,Kr=>cF P C n p lv a e S Kn (fun j e S=>match Nat.beq j id with
  | true=>Kn e S
  | false=>Kx j e S) Kr
 | .loop a,e,S,Kn,Kx,Kr=>iD e (lv (aS a)) fun vs=>
   pO vs S fun vs S bF=>wJ (lv (aS a)) vs (e.filt fun t=>!gF a t) fun e=>
    cF P C n p lv a e S (fun e S=>iD e (lv (aS a)) fun vs=>bF vs S) Kx Kr
 | .scope _,_,_,_,_,_=>False
 | .rangeFunc ..,_,_,_,_,_=>False
 | .goto _,_,_,_,_,_=>False
 | .refuse _,_,_,_,_,_=>False
def tK (P:Program) (e:aJ) (S:St):List ResultVar→(List V→Prop)→Prop
 | [],K=>K []
 | .tmp t::l,K=>wO (e.get t) fun v=>tK P e S l fun vs=>K (v::vs)
 | .cell a t::l,K=>wO (e.get a) fun p=>wR (gA P t p S) fun v=>tK P e S l fun vs=>K (v::vs)
def aDp (P:Program) (rs:List ResultVar) (K:KW):gG:=fun e S=>tK P e S rs fun vs=>K (jQ vs) S
def aFd (P:Program) (C:bJ) (p:Nat→Option (List bB)) (lv:Nat→List Nat) (args:List V) (S:St) (K:KW) (c:Code) (n:Nat) (rs:List ResultVar):Prop:=
 oN (Nat.ble args.length n) (cF P C n p lv c (cI 0 args .nil) S (aDp P rs K) (fun _ _ _=>False) (aDp P rs K))
def fR (P:Program) (C:bJ) (p:Nat→Option (List bB)) (lv:Nat→List Nat) (f:FuncId) (args:List V) (S:St) (K:KW):Prop:=
 wO (pM P f) fun b=>aFd P C p lv args S K b.1 b.2.1 b.2.2
theorem aFe {P:Program} {ρ:Operand→Option V} {o:Oper} {fr:Option Nat} {S:St} {r:Out} (hc:cA P o.op=1) (h:aI P ρ o fr S=.ok r):∃ v S',r=.val v S':=by
 obtain ⟨v,e,_⟩:=aIk hc h
 exact ⟨v,_,e⟩
def SubE (E e:aJ):Prop:=∀ t v,E.get t=some v→e.get t=some v
theorem SubE.refl (e:aJ):SubE e e:=fun _ _ h=>h
theorem SubE.put {E e:aJ} (h:SubE E e) (d:Nat) (v:V):SubE (E.put d v) (e.put d v):=by
 intro t u hu
 rw [Tr.get_putB _ _ _ _ trivial] at hu ⊢
 split at hu
 ·rename_i e1;rw [if_pos e1];exact hu
 ·rename_i e1;rw [if_neg e1];exact h t u hu
theorem SubE.putl {E e:aJ} (h:SubE E e) {d:Nat} {v:V} (hv:e.get d=some v):SubE (E.put d v) e:=by
 intro t u hu
 rw [Tr.get_putB _ _ _ _ trivial] at hu
 split at hu
 ·rename_i e1;cases hu;rw [e1];exact hv
 ·exact h t u hu
theorem SubE.ev {E e:aJ} (h:SubE E e) (x:Operand) (v:V) (hv:ev E x=some v):ev e x=some v:=by
 cases x with
 | tmp t=>exact h t v hv
 | const c=>exact hv
 | global g=>cases hv
 | func f=>exact hv
inductive RecsD (P:Program) (ops:Array Oper):List kL→List kL→Prop
 | nil:RecsD P ops [] []
 | cons (i:Nat) (E e:aJ) (v:V) (a b:List kL) (hs:SubE E e) (hc:∀ o,ops[i]?=some o→cA P o.op=1) (t:RecsD P ops a b):RecsD P ops ((i,E,v)::a) ((i,e,v)::b)
theorem aDq {l:List Oper} {t:Nat} (h:sH l t=false):∀ o∈l,o.dst≠some t:=by
 induction l with
 | nil=>intro o ho;cases ho
 | cons x l ih=>
  intro o ho
  simp only [sH,Bool.or_eq_false_iff] at h
  rcases List.mem_cons.1 ho with rfl | ho
  ·intro hd
   rw [hd] at h
   simp only [Nat.beq_refl] at h
   cases h.1
  ·exact ih h.2 o ho
theorem yJ {n:Nat} {e e':aJ} {d:Option Tmp} {v:V} {t:Nat} (h:cR n e d v=.ok e') (hd:d≠some t):e'.get t=e.get t:=by
 unfold cR at h
 split at h
 ·cases h;rfl
 ·rename_i d
  rw [cond_eq_ite] at h
  split at h
  ·cases h
   exact Tr.get_put_neB _ _ _ _ trivial (fun e=>hd (by rw [e]))
  ·cases h
theorem pP {P:Program} {call:Call} {n:Nat} {ops:Array Oper} {o:Oper} {fr:Option Nat} {e e':aJ} {S S':St} {t:Nat} (h:cM P call n ops o fr e S=.ok (e',S')) (hd:o.dst≠some t):e'.get t=e.get t:=by
 have fin:∀ {v:V} {S1:St},(match cR n e o.dst v with
   | .ok e'=>Except.ok (e',S1)
   | .error w=>.error w:R (aJ×St))=.ok (e',S')→e'.get t=e.get t:=by
  intro v S1 h
  split at h
  ·rename_i e1 h1
   cases h
   exact yJ h1 hd
  ·cases h
 unfold cM at h
 split at h
 ·cases h
 ·exact fin h
 ·split at h
  ·cases h
  ·exact fin h
  ·exact fin h
  ·split at h
   ·cases h
   ·exact fin h
theorem pQ {P:Program} {call:Call} {n:Nat} {ops:Array Oper} {t:Nat}:∀ {l:List Oper} {e e':aJ} {S S':St},jO P call n ops l e S=.ok (e',S')→(∀ o∈l,o.dst≠some t)→e'.get t=e.get t
 | [],e,e',S,S',h,hd=>by cases h;rfl
 | o::l,e,e',S,S',h,hd=>by
  simp only [jO] at h
  split at h
  ·rename_i e1 S1 h1
   rw [pQ h (fun o ho=>hd o (List.mem_cons_of_mem _ ho)),pP h1 (hd o (List.mem_cons_self ..))]
  ·cases h
theorem pR {P:Program} {call:Call} {n:Nat} {ops:Array Oper} {base t:Nat} (hd:∀ o∈ops.toList,o.dst≠some t):∀ {l:List bB} {r:List kL} {e e':aJ} {S S':St},jP P call n ops base l r e S=.ok (e',S')→e'.get t=e.get t
 | [],r,e,e',S,S',h=>by cases h;rfl
 | (i,re)::l,r,e,e',S,S',h=>by
  simp only [jP] at h
  split at h
  ·cases h
  ·rename_i o ho
   split at h
   ·cases h
   ·rename_i e1 S1 h1
    rw [cond_eq_ite] at h
    split at h
    ·rw [pR hd h,pP h1 (hd o (by rw [Array.mem_toList_iff];exact Array.mem_of_getElem? ho))]
    ·cases h
theorem aDr {P:Program} {pl:Nat→Option (List bB)} {call:Call} {k n t:Nat}:∀ (c:Code) {e e':aJ} {S S':St} {x:Ex},gF c t=false→cK P pl call k n c e S=.ok (x,e',S')→e'.get t=e.get t:=by
 intro c
 induction c with
 | skip=>intro e e' S S' x hp h;cases h;rfl
 | label l=>intro e e' S S' x hp h;cases h;rfl
 | exit id=>intro e e' S S' x hp h;cases h;rfl
 | ret=>intro e e' S S' x hp h;cases h;rfl
 | region id ops d=>
  intro e e' S S' x hp h
  simp only [cK] at h
  have hd:=aDq hp
  split at h
  ·rename_i e1 S1 h1
   cases h
   cases d
   ·exact pQ (by simpa using h1) hd
   ·exact pR hd (by simpa [aIj] using h1)
  ·cases h
 | seq a b iha ihb=>
  intro e e' S S' x hp h
  simp only [gF,Bool.or_eq_false_iff] at hp
  simp only [cK] at h
  split at h
  ·rename_i e1 S1 h1
   rw [ihb hp.2 h,iha hp.1 h1]
  ·exact iha hp.1 h
 | cond c a b iha ihb=>
  intro e e' S S' x hp h
  simp only [gF,Bool.or_eq_false_iff] at hp
  simp only [cK] at h
  split at h
  ·exact iha hp.1 h
  ·exact ihb hp.2 h
  ·cases h
 | block id a iha=>
  intro e e' S S' x hp h
  simp only [gF] at hp
  simp only [cK] at h
  split at h
  ·rename_i j e1 S1 h1
   rw [cond_eq_ite] at h
   split at h
   ·cases h;exact iha hp h1
   ·cases h;exact iha hp h1
  ·exact iha hp h
 | loop a iha=>
  intro e e' S S' x hp h
  simp only [gF] at hp
  simp only [cK] at h
  have key:∀ (m:Nat) {e:aJ} {S:St},iter (cK P pl call k n a) m e S=.ok (x,e',S')→e'.get t=e.get t:=by
   intro m
   induction m with
   | zero=>intro e S h;cases h
   | succ m ihm=>
    intro e S h
    simp only [iter] at h
    split at h
    ·rename_i e1 S1 h1
     rw [ihm h,iha hp h1]
    ·exact iha hp h
  exact key k h
 | scope a _=>intro e e' S S' x hp h;cases h
 | rangeFunc f ps a b _ _=>intro e e' S S' x hp h;cases h
 | goto l=>intro e e' S S' x hp h;cases h
 | refuse w=>intro e e' S S' x hp h;cases h
theorem kZ {α:Type}:∀ (t:Tr α) (p:Nat→Bool) (n:Nat),(t.filt p).get n=if p n=true then t.get n else none
 | .nil,p,n=>by simp [Tr.filt,Tr.get_nil]
 | .node l v r,p,n=>by
  simp only [Tr.filt]
  rw [Tr.get_node,Tr.get_node]
  by_cases h0:n=0
  ·subst h0
   simp only [if_true]
   cases p 0<;>simp
  ·rw [if_neg h0,if_neg h0]
   by_cases h1:n % 2=1
   ·rw [if_pos h1,if_pos h1,kZ l]
    rw [show 2*(n / 2)+1=n by omega]
   ·rw [if_neg h1,if_neg h1,kZ r]
    rw [show 2*(n / 2 - 1)+2=n by omega]
inductive SlotsR (e:aJ):List Nat→List V→Prop
 | nil:SlotsR e [] []
 | cons {t:Nat} {v:V} {l:List Nat} {vs:List V} (h:e.get t=some v) (r:SlotsR e l vs):SlotsR e (t::l) (v::vs)
section
theorem aG {α:Type} {x:Option α} {K:α→Prop} (h:wO x K):∃ a,x=some a∧K a:=by
 cases x with
 | none=>cases h
 | some a=>exact ⟨a,rfl,h⟩
theorem bC {α:Type} {x:R α} {K:α→Prop} (h:wR x K):∃ a,x=.ok a∧K a:=by
 cases x with
 | error w=>cases h
 | ok a=>exact ⟨a,rfl,h⟩
theorem jF {b:Bool} {x:Prop} (h:oN b x):b=true∧x:=by
 cases b with
 | false=>cases h
 | true=>exact ⟨rfl,h⟩
theorem sJ {v:V} {x y:Prop} (h:cV v x y):(v=.bool true∧x)∨(v=.bool false∧y):=by
 unfold cV at h
 split at h
 ·exact .inl ⟨rfl,h⟩
 ·exact .inr ⟨rfl,h⟩
 ·cases h
theorem aDs {v:V} {x:Prop} (h:sI v x):((∃ a b c d,v=.ptr a b c d)∨∃ cs j,v=.iptr cs j)∧x:=by
 unfold sI at h
 split at h
 ·exact ⟨.inl ⟨_,_,_,_,rfl⟩,h⟩
 ·exact ⟨.inr ⟨_,_,rfl⟩,h⟩
 ·cases h
theorem aDt {v:V} {i:Nat} {K:V→Prop} (h:aA6 v i K):∃ vs x,v=.tup vs∧vs[i]?=some x∧K x:=by
 unfold aA6 at h
 split at h
 ·obtain ⟨x,h1,h2⟩:=aG h
  exact ⟨_,x,rfl,h1,h2⟩
 ·cases h
theorem aFf {vs:List V} {K:V→List V→Prop} (h:wUn vs K):∃ v r,vs=v::r∧K v r:=by
 cases vs with
 | nil=>cases h
 | cons v r=>exact ⟨v,r,rfl,h⟩
def aA8 (C:bJ) (K:KW) (S:St):Out→Prop
 | .val v S'=>K v S'
 | .skip S'=>K (.tup []) S'
 | .call f args=>C f args S K
theorem pS {P:Program} {C:bJ} {g:FuncId} {args:List V} {S:St} {K:KW} (H:eS P C g args S K):
  ∃ out,mC P S g args=.ok out∧aA8 C K S out:=by
 obtain ⟨x,h1,H⟩:=aG H
 unfold bV at h1
 rw [yH] at h1
 split at h1
 ·cases h1
 ·rename_i fn hfn
  split at h1
  ·rename_i c hc
   cases h1
   exact ⟨.call g args,by simp only [mC,hfn,hc],H⟩
  ·rename_i hc
   cases h1
   obtain ⟨v,h2,H⟩:=bC H
   exact ⟨.val v S,by simp only [mC,hfn,hc,h2,bN],H⟩
theorem yK {P:Program} {C:bJ} {b:Builtin} {ts:Array TypeId} {args:List V} {fr:Option Nat} {S:St} {K:KW} (H:pB P b ts args fr S K):
  ∃ out,cD P b ts args fr S=.ok out∧aA8 C K S out:=by
 unfold pB at H
 split at H
 ·obtain ⟨t,h1,H⟩:=aG H
  obtain ⟨v,h2,H⟩:=bC H
  exact ⟨.val v S,by simp only [cD,h1,h2,bN],H⟩
 ·obtain ⟨v,h2,H⟩:=bC H
  exact ⟨.val v S,by simp only [cD,h2,bN],H⟩
 ·obtain ⟨v,h2,H⟩:=bC H
  exact ⟨.val v S,by simp only [cD,h2,bN],H⟩
 ·obtain ⟨t,h1,H⟩:=aG H
  obtain ⟨u,h2,H⟩:=aG H
  split at H
  ·rename_i hu
   obtain ⟨r,h3,H⟩:=bC H
   exact ⟨.val r.1 r.2,by simp only [cD,h1,h2,hu,h3,bZ],H⟩
  ·rename_i hu
   obtain ⟨r,h3,H⟩:=bC H
   exact ⟨.val r.1 r.2,by simp only [cD,h1,h2,hu,h3,bZ],H⟩
  ·cases H
 ·obtain ⟨t,h1,H⟩:=aG H
  obtain ⟨r,h3,H⟩:=bC H
  exact ⟨.val r.1 r.2,by simp only [cD,h1,h3,bZ],H⟩
 ·obtain ⟨t,h1,H⟩:=aG H
  obtain ⟨r,h3,H⟩:=bC H
  exact ⟨.val r.1 r.2,by simp only [cD,h1,h3,bZ],H⟩
 ·cases H
theorem yL {P:Program} {C:bJ} {o:Oper} {fr:Option Nat} {e:aJ} {S:St} {K:KW} (H:dX P C o fr e S K):
  ∃ out,aI P (ev e) o fr S=.ok out∧aA8 C K S out:=by
 unfold dX at H
 split at H
 case h_1 ho | h_2 ho=>
  obtain ⟨v,h1,H⟩:=aG H
  exact ⟨.val v S,by simp only [aI,ho,h1],H⟩
 case h_3 ho=>
  obtain ⟨c,h1,H⟩:=aG H
  obtain ⟨a,h2,H⟩:=aG H
  obtain ⟨b,h3,H⟩:=aG H
  obtain ⟨v,h4,H⟩:=bC H
  refine ⟨.val v S,?_,H⟩
  unfold yF at h4
  split at h4
  ·cases h4;simp only [aI,ho,h1,h2]
  ·cases h4;simp only [aI,ho,h1,h3]
  ·cases h4
 case h_4 ho=>
  obtain ⟨v,h1,H⟩:=aG H
  obtain ⟨r,h2,H⟩:=bC H
  exact ⟨.val (.ptr r.1 0 0 0) r.2,by simp only [aI,ho,h1,h2],H⟩
 case h_5 ho=>
  obtain ⟨v,h1,H⟩:=aG H
  obtain ⟨h3,H⟩:=jF H
  obtain ⟨r,h2,H⟩:=bC H
  exact ⟨.val (.ptr r.1 0 0 0) r.2,by simp only [aI,ho,h1,h2,h3,cond_true],H⟩
 case h_6 ho=>
  obtain ⟨v,h1,H⟩:=aG H
  obtain ⟨r,h2,H⟩:=bC H
  exact ⟨.val r S,by simp only [aI,ho,h1,h2,bN],H⟩
 case h_7 ho=>
  obtain ⟨v,h1,H⟩:=aG H
  obtain ⟨r,h2,H⟩:=bC H
  exact ⟨.val r.1 r.2,by simp only [aI,ho,h1,h2,bZ],H⟩
 case h_8 ho=>
  obtain ⟨v,h1,H⟩:=aG H
  obtain ⟨r,h2,H⟩:=bC H
  exact ⟨.val r S,by simp only [aI,ho,h1,h2,bN],H⟩
 case h_9 ho=>
  obtain ⟨v,h1,H⟩:=aG H
  obtain ⟨u,h3,H⟩:=aG H
  obtain ⟨r,h2,H⟩:=bC H
  exact ⟨.skip r,by simp only [aI,ho,h1,h2,h3],H⟩
 case h_10 ho=>
  obtain ⟨v,h1,H⟩:=aG H
  obtain ⟨h2,H⟩:=aDs H
  rcases h2 with ⟨a,b,c,d,rfl⟩ | ⟨cs,j,rfl⟩
  ·exact ⟨.val (.ptr a b c d) S,by simp only [aI,ho,h1],H⟩
  ·exact ⟨.val (.iptr cs j) S,by simp only [aI,ho,h1],H⟩
 case h_11 ho=>
  obtain ⟨v,h1,H⟩:=aG H
  obtain ⟨u,h3,H⟩:=aG H
  obtain ⟨h4,H⟩:=jF H
  obtain ⟨r,h2,H⟩:=bC H
  exact ⟨.val r S,by simp only [aI,ho,h1,h2,h3,h4,cond_true,bN],H⟩
 case h_12 ho=>
  obtain ⟨v,h1,H⟩:=aG H
  obtain ⟨r,h2,H⟩:=bC H
  exact ⟨.val r S,by simp only [aI,ho,h1,h2,bN],H⟩
 case h_13 ho=>
  obtain ⟨v,h1,H⟩:=aG H
  obtain ⟨r,h2,H⟩:=bC H
  exact ⟨.val r.1 r.2,by simp only [aI,ho,h1,h2,bZ],H⟩
 case h_14 ho=>
  obtain ⟨v,h1,H⟩:=aG H
  obtain ⟨u,h3,H⟩:=aG H
  obtain ⟨r,h2,H⟩:=bC H
  exact ⟨.val r.1 r.2,by simp only [aI,ho,h1,h2,h3,bZ],H⟩
 case h_15 ho=>
  obtain ⟨v,h1,H⟩:=aG H
  obtain ⟨u,h3,H⟩:=aG H
  obtain ⟨w,h4,H⟩:=aG H
  obtain ⟨r,h2,H⟩:=bC H
  exact ⟨.val r S,by simp only [aI,ho,h1,h2,h3,h4,bN],H⟩
 case h_16 ho | h_17 ho=>
  obtain ⟨v,h1,H⟩:=aG H
  obtain ⟨r,h2,H⟩:=bC H
  exact ⟨.val r S,by simp only [aI,ho,h1,h2,bN],H⟩
 case h_18 ho | h_19 ho=>
  obtain ⟨v,h1,H⟩:=aG H
  obtain ⟨u,h3,H⟩:=aG H
  obtain ⟨r,h2,H⟩:=bC H
  exact ⟨.val r S,by simp only [aI,ho,h1,h2,h3,bN],H⟩
 case h_20 ho=>
  obtain ⟨v,h1,H⟩:=aG H
  obtain ⟨h3,H⟩:=jF H
  obtain ⟨r,h2,H⟩:=bC H
  unfold wH at h3
  split at h3
  ·rename_i ht
   unfold aA5 at h2
   split at h2
   ·split at h2
    ·rename_i hn
     cases h2
     exact ⟨.val _ _,by simp only [aI,ho,h1,ht,hn],H⟩
    ·cases h2
   ·cases h2
  ·cases h3
 case h_21 ho=>
  obtain ⟨v,h1,H⟩:=aG H
  obtain ⟨h3,H⟩:=jF H
  obtain ⟨r,h2,H⟩:=bC H
  subst h3
  unfold aFb at h2
  split at h2
  ·rename_i a
   split at h2
   ·rename_i s pos hb
    split at h2
    ·rename_i hl
     split at h2
     ·rename_i b hs
      split at h2
      ·rename_i ha
       cases h2
       exact ⟨.val _ _,by simp only [aI,ho,h1,cond_true,hb,hl,hs,ha],H⟩
      ·rename_i ha
       cases h2
       exact ⟨.val _ _,by simp only [aI,ho,h1,cond_true,cond_false,hb,hl,hs,ha],H⟩
     ·cases h2
    ·rename_i hl
     cases h2
     exact ⟨.val _ _,by simp only [aI,ho,h1,cond_true,hb,hl,cond_false],H⟩
   ·cases h2
  ·cases h2
 case h_22 ho=>
  obtain ⟨r,h2,H⟩:=bC H
  exact ⟨.val (.mp r.1) r.2,by simp only [aI,ho,h2],H⟩
 case h_23 ho=>
  obtain ⟨v,h1,H⟩:=aG H
  obtain ⟨u,h3,H⟩:=aG H
  obtain ⟨r,h2,H⟩:=bC H
  exact ⟨.val r S,by simp only [aI,ho,h1,h2,h3,bN],H⟩
 case h_24 ho=>
  obtain ⟨v,h1,H⟩:=aG H
  obtain ⟨u,h3,H⟩:=aG H
  obtain ⟨w,h4,H⟩:=aG H
  obtain ⟨r,h2,H⟩:=bC H
  exact ⟨.skip r,by simp only [aI,ho,h1,h2,h3,h4],H⟩
 case h_25 ho=>
  split at H
  ·obtain ⟨v,h1,H⟩:=aG H
   obtain ⟨u,h3,H⟩:=aG H
   exact ⟨.val (.func _ v u) S,by simp only [aI,ho,h1,h3],H⟩
  ·cases H
 case h_26 ho=>
  obtain ⟨out,h1,H⟩:=bC H
  cases out with
  | val v S'=>exact ⟨_,h1,H⟩
  | _=>cases H
 case h_27 ho=>
  obtain ⟨v,h1,H⟩:=aG H
  obtain ⟨r,h2,H⟩:=bC H
  exact ⟨.val r S,by simp only [aI,ho,h1,h2,bN],H⟩
 case h_28 ho=>
  obtain ⟨v,h1,H⟩:=aG H
  obtain ⟨vs,x,rfl,h2,H⟩:=aDt H
  exact ⟨.val x S,by simp only [aI,ho,h1,h2],H⟩
 case h_29 ho=>
  split at H
  ·rename_i hc
   obtain ⟨v,h1,H⟩:=aG H
   obtain ⟨args,h2,H⟩:=aG H
   unfold aFc at H
   split at H
   ·obtain ⟨out,h3,h4⟩:=pS H
    exact ⟨out,by simp only [aI,ho,hc,h1,h2,h3],h4⟩
   ·cases H
  ·rename_i hc
   obtain ⟨args,h2,H⟩:=aG H
   obtain ⟨out,h3,h4⟩:=yK (C:=C) H
   exact ⟨out,by simp only [aI,ho,hc,h2,h3],h4⟩
  ·rename_i hc
   obtain ⟨v,h1,H⟩:=aG H
   obtain ⟨args,h2,H⟩:=aG H
   unfold aIl at H
   split at H
   ·obtain ⟨g,h5,H⟩:=aG H
    obtain ⟨out,h3,h4⟩:=pS H
    exact ⟨out,by simp only [aI,ho,hc,h1,h2,h5,h3],h4⟩
   ·cases H
 case h_30 ho=>cases H
theorem aDu {v:V} {x:Prop} (h:aDo v x):(∃ l,v=.tup l)∧x:=by
 unfold aDo at h
 split at h
 ·exact ⟨⟨_,rfl⟩,h⟩
 ·cases h
theorem lN {n:Nat} {d:Option Tmp} {E e:aJ} {v:V} {K:aJ→Prop} (hs:SubE E e) (h:kJ n d E v K):∃ E' e',cR n e d v=.ok e'∧SubE E' e'∧K E'∧(∀ t,d=some t→e'.get t=some v):=by
 unfold kJ at h
 split at h
 ·exact ⟨E,e,rfl,hs,h,fun _ h=>by cases h⟩
 ·rename_i d
  split at h
  ·rename_i hb
   refine ⟨E.put d v,e.put d v,by simp only [cR,hb,cond_true],hs.put d v,h,fun t ht=>?_⟩
   cases ht
   exact Tr.get_put_sameB _ _ _ trivial
  ·cases h
def Evt {α:Type} (g:Nat→R α) (r:α):Prop:=∃ N,∀ k,N≤k→g k=.ok r
theorem Evt.of {α:Type} {g:Nat→R α} {r:α} (h:∀ k,g k=.ok r):Evt g r:=⟨0,fun k _=>h k⟩
theorem Evt.one {α β:Type} {g:Nat→R α} {r:α} {g':Nat→R β} {r':β} (h:Evt g r) (k:∀ k,g k=.ok r→g' k=.ok r'):Evt g' r':=by
 obtain ⟨N,h⟩:=h
 exact ⟨N,fun m hm=>k m (h m hm)⟩
theorem Evt.two {α β γ:Type} {g:Nat→R α} {r:α} {g1:Nat→R β} {r1:β} {g':Nat→R γ} {r':γ} (h:Evt g r) (h1:Evt g1 r1) (k:∀ k,g k=.ok r→g1 k=.ok r1→g' k=.ok r'):Evt g' r':=by
 obtain ⟨N,h⟩:=h
 obtain ⟨M,h1⟩:=h1
 exact ⟨max N M,fun m hm=>k m (h m (by omega)) (h1 m (by omega))⟩
theorem Evt.eq {α:Type} {g:Nat→R α} {r s:α} (h:Evt g r) (k:Evt g s):r=s:=by
 obtain ⟨N,h⟩:=h
 obtain ⟨M,k⟩:=k
 have h1:=h (max N M) (by omega)
 rw [k (max N M) (by omega)] at h1
 exact (Except.ok.inj h1).symm
def iN (cf:Nat→Call) (C:bJ):Prop:=∀ (f:FuncId) (args:List V) (S:St) (K:KW),C f args S K→∃ v S',Evt (fun k=>cf k f args S) (v,S')∧K v S'
section
variable {P:Program} {cf:Nat→Call} {C:bJ} {n:Nat} {ops:Array Oper}
theorem aIm (hc:iN cf C) {o:Oper} {fr:Option Nat} {E e:aJ} {S:St} {K:V→aJ→St→Prop} (hs:SubE E e) (hw:wanted ops o e=.ok true)
  (H:dX P C o fr E S (fun v S'=>kJ n o.dst E v fun e'=>K v e' S')):∃ E' e' S' v,Evt (fun k=>cM P (cf k) n ops o fr e S) (e',S')∧SubE E' e'∧K v E' S'∧(∀ t,o.dst=some t→e'.get t=some v):=by
 obtain ⟨out,h1,h2⟩:=yL H
 have h1:=pN hs.ev h1
 cases out with
 | val v S'=>
  have h2:kJ n o.dst E v (fun e'=>K v e' S'):=h2
  obtain ⟨E',e',h3,h4,h5,h6⟩:=lN hs h2
  exact ⟨E',e',S',v,.of fun k=>by simp only [cM,hw,h1,h3],h4,h5,h6⟩
 | skip S'=>
  have h2:kJ n o.dst E (.tup []) (fun e'=>K (.tup []) e' S'):=h2
  obtain ⟨E',e',h3,h4,h5,h6⟩:=lN hs h2
  exact ⟨E',e',S',.tup [],.of fun k=>by simp only [cM,hw,h1,h3],h4,h5,h6⟩
 | call f args=>
  have h2:C f args S (fun v S'=>kJ n o.dst E v fun e'=>K v e' S'):=h2
  obtain ⟨v,S',h7,h8⟩:=hc _ _ _ _ h2
  obtain ⟨E',e',h3,h4,h5,h6⟩:=lN hs h8
  exact ⟨E',e',S',v,h7.one fun k h7=>by simp only [cM,hw,h1,h7,h3],h4,h5,h6⟩
theorem mO {o:Oper} {fr:Option Nat} {E e:aJ} {S:St} {K:Bool→V→aJ→St→Prop} (hs:SubE E e) (hw:wanted ops o e=.ok false)
  (H:uP n o E S K):∃ E' e' S' ran v,Evt (fun k=>cM P (cf k) n ops o fr e S) (e',S')∧SubE E' e'∧K ran v E' S'∧wanted ops o e=.ok ran∧(∀ t,o.dst=some t→e'.get t=some v):=by
 obtain ⟨E',e',h3,h4,h5,h6⟩:=lN hs H
 exact ⟨E',e',S,false,.tup [],.of fun k=>by simp only [cM,hw,h3],h4,h5,hw,h6⟩
theorem sK (hc:iN cf C) {o:Oper} {fr:Option Nat} {E e:aJ} {S:St} {K:Bool→V→aJ→St→Prop} (hs:SubE E e) (hw:wanted ops o e=.ok true)
  (H:doW P C n o fr E S K):∃ E' e' S' ran v,Evt (fun k=>cM P (cf k) n ops o fr e S) (e',S')∧SubE E' e'∧K ran v E' S'∧wanted ops o e=.ok ran∧(∀ t,o.dst=some t→e'.get t=some v):=by
 obtain ⟨E',e',S',v,h1,h2,h3,h4⟩:=aIm (K:=fun v E S=>K true v E S) hc hs hw H
 exact ⟨E',e',S',true,v,h1,h2,h3,hw,h4⟩
theorem sL (hc:iN cf C) {sk:List Nat} {o:Oper} {fr:Option Nat} {E e:aJ} {S:St} {K:Bool→V→aJ→St→Prop} (hs:SubE E e)
  (H:fA P C n ops sk o fr E S K):∃ E' e' S' ran v,Evt (fun k=>cM P (cf k) n ops o fr e S) (e',S')∧SubE E' e'∧K ran v E' S'∧wanted ops o e=.ok ran∧(∀ t,o.dst=some t→e'.get t=some v):=by
 unfold fA at H
 split at H
 ·rename_i hg
  have hw:wanted ops o e=.ok true:=by simp only [wanted,hg]
  exact sK hc hs hw H
 ·rename_i j want hg
  obtain ⟨d,h1,H⟩:=aG H
  obtain ⟨v,h2,H⟩:=aG H
  have hv:=hs d v h2
  unfold gZ at h1
  split at h1
  ·cases h1
  ·rename_i oj hoj
   split at H
   ·obtain ⟨⟨l,hl⟩,H⟩:=aDu H
    rw [hl] at hv
    have hw:wanted ops o e=.ok false:=by simp only [wanted,hg,hoj,h1,hv]
    exact mO hs hw H
   ·rcases sJ H with ⟨hb,H⟩ | ⟨hb,H⟩
    ·rw [hb] at hv
     cases want with
     | true=>
      have hw:wanted ops o e=.ok true:=by simp only [wanted,hg,hoj,h1,hv];rfl
      exact sK hc (hs.putl hv) hw H
     | false=>
      have hw:wanted ops o e=.ok false:=by simp only [wanted,hg,hoj,h1,hv];rfl
      exact mO (hs.putl hv) hw H
    ·rw [hb] at hv
     cases want with
     | true=>
      have hw:wanted ops o e=.ok false:=by simp only [wanted,hg,hoj,h1,hv];rfl
      exact mO (hs.putl hv) hw H
     | false=>
      have hw:wanted ops o e=.ok true:=by simp only [wanted,hg,hoj,h1,hv];rfl
      exact sK hc (hs.putl hv) hw H
theorem uQ (hc:iN cf C) {K:gG}:∀ {l:List Oper} {i:Nat} {sk:List Nat} {E e:aJ} {S:St},SubE E e→aA7 P C n ops l i sk E S K→
  ∃ E' e' S',Evt (fun k=>jO P (cf k) n ops l e S) (e',S')∧SubE E' e'∧K E' S'
 | [],i,sk,E,e,S,hs,H=>⟨E,e,S,.of fun _=>rfl,hs,H⟩
 | o::l,i,sk,E,e,S,hs,H=>by
  obtain ⟨E1,e1,S1,ran,_,h1,h2,h3,_,_⟩:=sL (K:=fun ran _ e' S'=>aA7 P C n ops l (i+1) (nU ran i sk) e' S' K) hc hs H
  obtain ⟨E2,e2,S2,h4,h5,h6⟩:=uQ hc h2 h3
  exact ⟨E2,e2,S2,h1.two h4 fun k h1 h4=>by simp only [jO,h1,h4],h5,h6⟩
theorem nW {i:Nat} {S:St} {x:Prop}:∀ {a b:List kL},RecsD P ops a b→cB P C ops i S x a→
  (match iI i b with
   | none=>true
   | some (e,v)=>match ops[i]? with
    | none=>false
    | some o=>match aI P (ev e) o none S with
     | .ok (.val v' _)=>dC v v'
     | _=>false)=true∧x
 | _,_,.nil,H=>⟨rfl,H⟩
 | _,_,.cons j E e v a b hs hc t,H=>by
  simp only [cB] at H
  simp only [iI]
  split at H
  ·rename_i hb
   have hij:=Nat.eq_of_beq_eq_true hb
   subst hij
   obtain ⟨o,ho,H⟩:=aG H
   obtain ⟨out,h1,H⟩:=yL H
   have h1:=pN hs.ev h1
   obtain ⟨v',S',rfl⟩:=aFe (hc o ho) h1
   obtain ⟨h2,H⟩:=jF H
   exact ⟨by simp only [hb,cond_true,ho,h1,h2],H⟩
  ·rename_i hb
   obtain ⟨h1,h2⟩:=nW t H
   exact ⟨by simp only [hb,cond_false];exact h1,h2⟩
theorem pU {S:St} {x:Prop} {a b:List kL} (hr:RecsD P ops a b):∀ {re:List Nat},jY P C ops a S x re→bF P ops b S re=true∧x
 | [],H=>⟨rfl,H⟩
 | i::re,H=>by
  obtain ⟨h1,H⟩:=nW hr H
  obtain ⟨h2,H⟩:=pU hr H
  refine ⟨?_,H⟩
  simp only [bF]
  rw [h2,Bool.and_true]
  exact h1
theorem sM (hc : iN cf C) {base : Nat} {K : gG} : ∀ {l : List bB} {sk : List Nat} {a b : List kL} {E e : aJ} {S : St}, RecsD P ops a b → SubE E e →
    kH P C n ops base l sk a E S K → ∃ E' e' S', Evt (fun k => jP P (cf k) n ops base l b e S) (e', S') ∧ SubE E' e' ∧ K E' S'
  | [], sk, a, b, E, e, S, hr, hs, H => ⟨E, e, S, .of fun _ => rfl, hs, H⟩
  | (i, re) :: l, sk, a, b, E, e, S, hr, hs, H => by
    obtain ⟨o, ho, H⟩ := aG H
    obtain ⟨E1, e1, S1, ran, v, h1, h2, h3, hw, hv⟩ := sL hc hs H
    obtain ⟨h4, H⟩ := pU hr h3
    have hr' : RecsD P ops (nV P o i E ran v a) (bif Nat.beq (cA P o.op) 1 && rP (wanted ops o e) then
          (match o.dst with
          | none => b
          | some d => match e1.get d with
            | some v => (i, e, v) :: b
            | none => b) else b) := by
      rw [hw]
      unfold nV
      simp only [rP]
      cases hcl : Nat.beq (cA P o.op) 1 with
      | false => exact hr
      | true =>
        cases ran with
        | false => exact hr
        | true =>
          cases hd : o.dst with
          | none => exact hr
          | some d =>
            have := hv d hd
            simp only [this, Bool.and_self, Option.isSome, cond_true]
            exact .cons i E e v a b hs (fun o' ho2 => by rw [ho] at ho2; cases ho2; exact Nat.eq_of_beq_eq_true hcl) hr
    obtain ⟨E2, e2, S2, h5, h6, h7⟩ := sM hc hr' h2 H
    refine ⟨E2, e2, S2, h1.two h5 fun k h1 h5 => ?_, h6, h7⟩
    simp only [jP, ho, h1, h4, cond_true]
    exact h5
end
theorem lA {E e:aJ} (hs:SubE E e):∀ {l:List Nat} {K:List V→Prop},iD E l K→∃ vs,SlotsR e l vs∧K vs
 | [],K,H=>⟨[],.nil,H⟩
 | t::l,K,H=>by
  obtain ⟨v,h1,H⟩:=aG H
  obtain ⟨vs,h2,H⟩:=lA hs H
  exact ⟨v::vs,.cons (hs t v h1) h2,H⟩
theorem uR {e:aJ}:∀ {l:List Nat} {vs:List V} {E:aJ} {K:aJ→Prop},SubE E e→SlotsR e l vs→wJ l vs E K→∃ E',SubE E' e∧K E'
 | [],vs,E,K,hs,hf,H=>⟨E,hs,H⟩
 | t::l,vs,E,K,hs,hf,H=>by
  cases hf with
  | cons h1 h2=>
   obtain ⟨v,r,e1,H⟩:=aFf H
   cases e1
   exact uR (hs.putl h1) h2 H
def aB9 (Kn:gG) (Kx:tJ) (Kr:gG):Ex×aJ×St→Prop
 | (.normal,e,S)=>∃ E,SubE E e∧Kn E S
 | (.exit id,e,S)=>∃ E,SubE E e∧Kx id E S
 | (.ret,e,S)=>∃ E,SubE E e∧Kr E S
theorem aA9 {P:Program} {cf:Nat→Call} {C:bJ} (hc:iN cf C) {n:Nat} {p:Nat→Option (List bB)} {lv:Nat→List Nat}:∀ (c:Code) {E e:aJ} {S:St} {Kn:gG} {Kx:tJ} {Kr:gG},SubE E e→
  cF P C n p lv c E S Kn Kx Kr→∃ r,Evt (fun k=>cK P p (cf k) k n c e S) r∧aB9 Kn Kx Kr r:=by
 intro c
 induction c with
 | skip=>intro E e S Kn Kx Kr hs H;exact ⟨_,.of fun _=>rfl,E,hs,H⟩
 | label l=>intro E e S Kn Kx Kr hs H;exact ⟨_,.of fun _=>rfl,E,hs,H⟩
 | exit id=>intro E e S Kn Kx Kr hs H;exact ⟨_,.of fun _=>rfl,E,hs,H⟩
 | ret=>intro E e S Kn Kx Kr hs H;exact ⟨_,.of fun _=>rfl,E,hs,H⟩
 | region id ops d=>
  intro E e S Kn Kx Kr hs H
  simp only [cF] at H
  split at H
  ·obtain ⟨E',e',S',h1,h2,h3⟩:=sM hc .nil hs H
   have h1:Evt (fun k=>aIj P (cf k) n ops (rA (p id) ops.size) e S) (e',S'):=h1
   exact ⟨(.normal,e',S'),h1.one fun k h1=>by simp only [cK,cond_true,h1],E',h2,h3⟩
  ·obtain ⟨E',e',S',h1,h2,h3⟩:=uQ hc hs H
   exact ⟨(.normal,e',S'),h1.one fun k h1=>by simp only [cK,cond_false,h1],E',h2,h3⟩
 | seq a b iha ihb=>
  intro E e S Kn Kx Kr hs H
  obtain ⟨⟨x,e1,S1⟩,h1,h2⟩:=iha hs H
  cases x with
  | normal=>
   obtain ⟨E1,h3,h4⟩:=h2
   obtain ⟨r,h5,h6⟩:=ihb h3 h4
   exact ⟨r,h1.two h5 fun k h1 h5=>by simp only [cK,h1];exact h5,h6⟩
  | exit id=>exact ⟨(.exit id,e1,S1),h1.one fun k h1=>by simp only [cK,h1],h2⟩
  | ret=>exact ⟨(.ret,e1,S1),h1.one fun k h1=>by simp only [cK,h1],h2⟩
 | cond c a b iha ihb=>
  intro E e S Kn Kx Kr hs H
  simp only [cF] at H
  obtain ⟨v,h1,H⟩:=aG H
  have h1:=hs.ev _ _ h1
  have hk:∀ b,v=.bool b→SubE (pK E c b) e:=by
   intro b hb
   subst hb
   unfold pK
   split
   ·exact hs.putl h1
   ·exact hs
  rcases sJ H with ⟨hb,H⟩ | ⟨hb,H⟩
  ·obtain ⟨r,h2,h3⟩:=iha (hk _ hb) H
   subst hb
   exact ⟨r,h2.one fun k h2=>by simp only [cK,h1];exact h2,h3⟩
  ·obtain ⟨r,h2,h3⟩:=ihb (hk _ hb) H
   subst hb
   exact ⟨r,h2.one fun k h2=>by simp only [cK,h1];exact h2,h3⟩
 | block id a iha=>
  intro E e S Kn Kx Kr hs H
  obtain ⟨⟨x,e1,S1⟩,h1,h2⟩:=iha hs H
  cases x with
  | normal=>exact ⟨(.normal,e1,S1),h1.one fun k h1=>by simp only [cK,h1],h2⟩
  | ret=>exact ⟨(.ret,e1,S1),h1.one fun k h1=>by simp only [cK,h1],h2⟩
  | exit j=>
   obtain ⟨E1,h3,h4⟩:=h2
   split at h4
   ·rename_i hj
    exact ⟨(.normal,e1,S1),h1.one fun k h1=>by simp only [cK,h1,hj,cond_true],E1,h3,h4⟩
   ·rename_i hj
    exact ⟨(.exit j,e1,S1),h1.one fun k h1=>by simp only [cK,h1,hj,cond_false],E1,h3,h4⟩
 | loop a iha=>
  intro E e S Kn Kx Kr hs H
  simp only [cF] at H
  obtain ⟨vs,hf,m,H⟩:=lA hs H
  have hb:SubE (E.filt fun t=>!gF a t) e:=by
   intro t v hv
   rw [kZ] at hv
   split at hv
   ·exact hs t v hv
   ·cases hv
  have key:∀ (m:Nat) {vs:List V} {e:aJ} {S:St},SubE (E.filt fun t=>!gF a t) e→SlotsR e (lv (aS a)) vs→
    (yI m vs S fun vs S bF=>wJ (lv (aS a)) vs (E.filt fun t=>!gF a t) fun e=>
     cF P C n p lv a e S (fun e S=>iD e (lv (aS a)) fun vs=>bF vs S) Kx Kr)→∃ r,(∃ N,∀ k j,N≤k→N≤j→iter (cK P p (cf k) k n a) j e S=.ok r)∧aB9 Kn Kx Kr r:=by
   intro m
   induction m with
   | zero=>intro vs e S _ _ H;cases H
   | succ m ihm=>
    intro vs e S hb hf H
    simp only [yI] at H
    obtain ⟨E',h1,H⟩:=uR hb hf H
    obtain ⟨⟨x,e1,S1⟩,⟨N,h2⟩,h3⟩:=iha h1 H
    have stop:∀ {x:Ex},(∀ k,N≤k→cK P p (cf k) k n a e S=.ok (x,e1,S1))→x≠.normal→∃ N,∀ k j,N≤k→N≤j→iter (cK P p (cf k) k n a) j e S=.ok (x,e1,S1):=by
     intro x h2 hx
     refine ⟨N+1,fun k j hk hj=>?_⟩
     obtain ⟨j,rfl⟩:∃ i,j=i+1:=⟨j - 1,by omega⟩
     simp only [iter,h2 k (by omega)]
     cases x with
     | normal=>exact absurd rfl hx
     | ret=>rfl
     | exit id=>rfl
    cases x with
    | normal=>
     obtain ⟨E1,h4,h5⟩:=h3
     obtain ⟨vs1,h6,h7⟩:=lA h4 h5
     have hb1:SubE (E.filt fun t=>!gF a t) e1:=by
      intro t v hv
      have hv0:=hv
      rw [kZ] at hv
      split at hv
      ·rename_i hp
       have hp:gF a t=false:=by simpa using hp
       rw [aDr a hp (h2 N (Nat.le_refl _))]
       exact hb t v hv0
      ·cases hv
     obtain ⟨r,⟨M,h8⟩,h9⟩:=ihm hb1 h6 h7
     refine ⟨r,⟨max N M+1,fun k j hk hj=>?_⟩,h9⟩
     obtain ⟨j,rfl⟩:∃ i,j=i+1:=⟨j - 1,by omega⟩
     simp only [iter,h2 k (by omega)]
     exact h8 k j (by omega) (by omega)
    | exit id=>exact ⟨(.exit id,e1,S1),stop h2 (by intro h;cases h),h3⟩
    | ret=>exact ⟨(.ret,e1,S1),stop h2 (by intro h;cases h),h3⟩
  obtain ⟨r,⟨N,h1⟩,h2⟩:=key m hb hf H
  exact ⟨r,⟨N,fun k hk=>h1 k k hk hk⟩,h2⟩
 | scope a _=>intro E e S Kn Kx Kr hs H;cases H
 | rangeFunc f ps a b _ _=>intro E e S Kn Kx Kr hs H;cases H
 | goto l=>intro E e S Kn Kx Kr hs H;cases H
 | refuse w=>intro E e S Kn Kx Kr hs H;cases H
theorem pC {P:Program} {E e:aJ} (hs:SubE E e) {S:St}:∀ {l:List ResultVar} {K:List V→Prop},tK P E S l K→∃ vs,vM P e S l=.ok vs∧K vs
 | [],K,H=>⟨[],rfl,H⟩
 | .tmp t::l,K,H=>by
  obtain ⟨v,h1,H⟩:=aG H
  obtain ⟨vs,h2,H⟩:=pC hs H
  exact ⟨v::vs,by simp only [vM,hs t v h1,h2],H⟩
 | .cell a t::l,K,H=>by
  obtain ⟨p,h1,H⟩:=aG H
  obtain ⟨v,h3,H⟩:=bC H
  obtain ⟨vs,h2,H⟩:=pC hs H
  exact ⟨v::vs,by simp only [vM,hs a p h1,h3,h2],H⟩
theorem fL {P:Program} {cf:Nat→Call} {C:bJ} (hc:iN cf C) {p:Nat→Option (List bB)} {lv:Nat→List Nat} {f:FuncId} {args:List V} {S:St} {K:KW}
  (H:fR P C p lv f args S K):∃ v S',Evt (fun k=>kF P (cf k) k p f args S) (v,S')∧K v S':=by
 unfold fR at H
 obtain ⟨b,hb,H⟩:=aG H
 unfold pM at hb
 rw [yH] at hb
 split at hb
 ·cases hb
 ·rename_i fn hfn
  split at hb
  ·cases hb
  ·rename_i c hcb
   split at hb
   ·rename_i hlt
    cases hb
    obtain ⟨hle,H⟩:=jF H
    obtain ⟨⟨x,e1,S1⟩,h1,h2⟩:=aA9 hc c (SubE.refl _) H
    have hck:(Nat.ble args.length fn.ntmps&&Nat.blt fn.ntmps fZ)=true:=by rw [hlt];simpa using hle
    have fin:∀ {x:Ex},(∀ id,x≠.exit id)→Evt (fun k=>cK P p (cf k) k fn.ntmps c (cI 0 args .nil) S) (x,e1,S1)→(∃ E,SubE E e1∧aDp P fn.results.toList K E S1)→
      ∃ v S',Evt (fun k=>kF P (cf k) k p f args S) (v,S')∧K v S':=by
     rintro x hne h1 ⟨E,h3,h4⟩
     obtain ⟨vs,h5,h6⟩:=pC h3 h4
     refine ⟨jQ vs,S1,h1.one fun k h1=>?_,h6⟩
     simp only [kF,hfn,hcb,hck,cond_true,h1]
     cases x with
     | exit id=>exact absurd rfl (hne id)
     | normal=>simp only [h5]
     | ret=>simp only [h5]
    cases x with
    | normal=>exact fin (fun _=>Ex.noConfusion) h1 h2
    | ret=>exact fin (fun _=>Ex.noConfusion) h1 h2
    | exit id=>
     obtain ⟨E,_,h4⟩:=h2
     cases h4
   ·cases hb
end
section
def lB (k:Option Nat) (cs:List V) (j:Nat):R V:=match k with
 | none=>(match cs[j]? with
  | some v=>.ok v
  | none=>.error "part")
 | some n=>if j+n≤cs.length then .ok (.agg ((cs.drop j).take n)) else .error "part"
def uS (k:Option Nat) (p:V) (S:St):R V:=match p with
 | .ptr a ver i j=>(match bA S a ver with
  | .error e=>.error e
  | .ok (_,elems)=>match elems[i]? with
   | some cs=>lB k cs j
   | none=>.error "load")
 | .iptr cs j=>lB k cs j
 | _=>.error "load: a pointer expected"
theorem aFg {P:Program} {t:TypeId} {k:Option Nat} (h:tk P t=some k) (cs:List V) (j:Nat):kC P t cs j=lB k cs j:=by
 unfold tk at h
 unfold kC
 split at h
 ·cases h
 ·rename_i d hd
  simp only [hd]
  rw [cond_eq_ite] at h ⊢
  split at h
  ·rename_i ha
   cases h
   rw [if_pos ha,cond_eq_ite]
   simp only [lB,Nat.ble_eq]
  ·rename_i ha
   cases h
   rw [if_neg ha]
   rfl
theorem aL {P:Program} {t:TypeId} {k:Option Nat} (h:tk P t=some k) (p:V) (S:St):gA P t p S=uS k p S:=by
 unfold gA uS
 cases p<;>simp only [aFg h]<;>rfl
def stT (P:Program) (t:TypeId):Option Nat:=match P.underlying t with
 | some _=>some (sz P t)
 | none=>none
def lC (n:Nat) (p x:V) (S:St):R St:=match p with
 | .ptr a ver i j=>(match bA S a ver with
  | .error e=>.error e
  | .ok (es,elems)=>match elems[i]? with
   | some cs=>if x.cells.length=n∧aP x.cells=true∧j+x.cells.length≤cs.length then .ok ⟨S.next,S.heap.put a (.row ver es (elems.set i (splice cs j x.cells)))⟩ else .error "store: the size"
   | none=>.error "store")
 | _=>.error "store: a pointer expected"
theorem aH {P:Program} {t:TypeId} {n:Nat} (h:stT P t=some n) (p x:V) (S:St):iQ P t p x S=lC n p x S:=by
 unfold stT at h
 split at h
 ·rename_i d hd
  cases h
  unfold iQ lC
  rw [hd]
  cases p<;>try rfl
  rename_i a ver i j
  simp only
  cases bA S a ver with
  | error e=>rfl
  | ok r=>
   simp only
   cases r.2[i]? with
   | none=>rfl
   | some cs=>simp only [cond_eq_ite,Bool.and_eq_true,Nat.beq_eq,Nat.ble_eq,and_assoc]
 ·cases h
def aIn (off:Nat) (p:V):R V:=match p with
 | .ptr a ver i j=>.ok (.ptr a ver i (j+off))
 | .iptr cs j=>.ok (.iptr cs (j+off))
 | _=>.error "fieldAddr"
theorem aA {P:Program} {s:TypeId} {f off:Nat} (h:fo P s f=some off) (p:V):bX P s p f=aIn off p:=by
 unfold fo at h
 unfold bX
 split at h
 ·cases h
 ·rename_i fd hfd
  rw [cond_eq_ite] at h
  split at h
  ·cases h
  ·rename_i hz
   cases h
   have hz:Nat.beq (sz P fd.type) 0=false:=by
    cases hb:Nat.beq (sz P fd.type) 0 with
    | false=>rfl
    | true=>exact absurd hb hz
   simp only [hfd,hz,cond_false]
   cases p<;>rfl
def aFh (x:V):R V:=match x with
 | .nils=>.ok (.int .i64 0)
 | .sl _ _ _ _ len=>.ok (.int .i64 len)
 | .imm es=>.ok (.int .i64 es.length)
 | _=>.error "len"
theorem cJ {P:Program} {t:TypeId} (h:aK2 P t=true) (x:V) (S:St):oO P t x S=aFh x:=by
 unfold aK2 at h
 unfold oO
 split at h
 ·rename_i e he;rw [he];cases x<;>rfl
 ·cases h
theorem aDv {P:Program} {t:TypeId} (h:aK3 P t=true) (s:List UInt8) (S:St):oO P t (.str s) S=.ok (.int .i64 s.length):=by
 unfold aK3 at h
 unfold oO
 split at h
 ·rename_i he;rw [he]
 ·cases h
def tL (n:Nat) (x ix:V):R V:=match x with
 | .sl a ver es off len=>(match iZ ix len with
  | some k=>if es=n then .ok (.ptr a ver (off+k) 0) else .error "indexAddr: the size"
  | none=>.error "index out of range")
 | .imm es=>(match iZ ix es.length with
  | some k=>match es[k]? with
   | some cs=>if cs.length=n then .ok (.iptr cs 0) else .error "indexAddr: the size"
   | none=>.error "index"
  | none=>.error "index out of range")
 | _=>.error "indexAddr"
theorem aR {P:Program} {t:TypeId} {n:Nat} (h:esT P t=some n) (x ix:V):cL P t x ix=tL n x ix:=by
 unfold esT at h
 unfold cL tL
 split at h
 ·rename_i e he
  rw [cond_eq_ite] at h
  split at h
  ·rename_i hs
   cases h
   rw [he]
   simp only [hs,Bool.not_true,cond_false]
   cases x<;>try rfl
   ·rename_i a ver es off len
    simp only
    cases iZ ix len<;>simp only [cond_eq_ite,Nat.beq_eq]
   ·rename_i es
    simp only
    cases iZ ix es.length with
    | none=>rfl
    | some k=>simp only [cond_eq_ite,Nat.beq_eq];rfl
  ·cases h
 ·cases h
def bdS (P:Program) (t:TypeId):Option (List V×List (Nat×Nat)):=match aF P t,P.underlying t with
 | some z,some (.struct fs)=>(match fs.toList.all fun f=>(P.underlying f.type).isSome with
  | true=>some (z.cells,fs.toList.map fun f=>(f.offset,sz P f.type))
  | false=>none)
 | _,_=>none
theorem pV {p q:Nat→Option (Nat×Nat)} (h:∀ i,p i=q i):∀ (l:List (Nat×V)) (cs:List V),kO p cs l=kO q cs l
 | [],cs=>rfl
 | (i,v)::l,cs=>by simp only [kO,h,pV h l]
def mP (z:List V) (pl:List (Nat×Nat)) (parts:List (Nat×V)):R V:=match kO (fun i=>pl[i]?) z parts with
 | .ok cs=>.ok (.agg cs)
 | .error e=>.error e
theorem aK {P:Program} {t:TypeId} {z:List V} {pl:List (Nat×Nat)} (h:bdS P t=some (z,pl)) (parts:List (Nat×V)):iR P t parts=mP z pl parts:=by
 unfold bdS at h
 unfold iR mP
 split at h
 ·rename_i z' fs hz hu
  split at h
  ·rename_i ha
   cases h
   simp only [hz,hu,ha,Bool.not_true,cond_false]
   rw [pV (q:=fun i=>(fs.toList.map fun f=>(f.offset,sz P f.type))[i]?) (fun i=>by simp)]
   rfl
  ·cases h
 ·cases h
def bsT (P:Program) (t:TypeId):Option (Nat×List V):=match gB P t with
 | some e=>(match aF P e with
  | some z=>(match Nat.beq z.cells.length (sz P e) with
   | true=>some (sz P e,z.cells)
   | false=>none)
  | none=>none)
 | none=>none
def dM (n:Nat) (z:List V) (len:Nat) (parts:List (Nat×V)) (fr:Option Nat) (S:St):R (V×St):=if len*n≤16777216 then
  (match qI n (List.replicate len z) parts with
  | .error e=>.error e
  | .ok elems=>match aV fr S (.row 0 n elems) with
   | .error e=>.error e
   | .ok (a,S')=>.ok (.sl a 0 n 0 len,S')) else .error "buildSlice: the size"
theorem aQ {P:Program} {t:TypeId} {n:Nat} {z:List V} (h:bsT P t=some (n,z)) (len:Nat) (parts:List (Nat×V)) (fr:Option Nat) (S:St):bM P t len parts fr S=dM n z len parts fr S:=by
 unfold bsT at h
 unfold bM dM
 split at h
 ·rename_i e he
  split at h
  ·rename_i z' hz
   split at h
   ·rename_i hb
    cases h
    simp only [he,hz,hb,Bool.true_and,cond_eq_ite,Nat.ble_eq]
    rfl
   ·cases h
  ·cases h
 ·cases h
def iW (n b:Nat) (s x:V) (fr:Option Nat) (S:St):R (V×St):=
 match aN S x with
 | .error e=>.error e
 | .ok xs=>if fU n xs=true∧xs.all aP=true then
  (match s with
  | .nils=>(match xs with
   | []=>.ok (.nils,S)
   | _=>if xs.length*b≤35184372088832∧xs.length<fZ then (match aV fr S (.row 0 n xs) with
    | .error e=>.error e
    | .ok (a,S')=>.ok (.sl a 0 n 0 xs.length,S')) else .error "append: room")
  | .sl a ver _ off len=>(match bA S a ver with
   | .error e=>.error e
   | .ok (es,elems)=>
    if off+len≤elems.length∧es=n∧(len+xs.length)*b≤35184372088832∧len+xs.length<fZ then
     .ok (.sl a (ver+1) es 0 (len+xs.length),⟨S.next,S.heap.put a (.row (ver+1) es ((elems.drop off).take len++xs))⟩)
    else .error "append: room")
  | _=>.error "append") else .error "append: sizes"
theorem bQ {P:Program} {t:TypeId} {n b:Nat} (h:apT P t=some (n,b)) (s x:V) (fr:Option Nat) (S:St):cX P t s x fr S=iW n b s x fr S:=by
 unfold apT at h
 split at h
 ·cases h
 ·rename_i e he
  rw [cond_eq_ite] at h
  split at h
  ·rename_i hz
   cases h
   unfold cX iW
   simp only [he]
   cases aN S x with
   | error w=>rfl
   | ok xs=>
    simp only
    by_cases h12:fU (sz P e) xs=true∧xs.all aP=true
    ·have e1:(!(fU (sz P e) xs&&xs.all aP&&hM P e))=false:=by rw [h12.1,h12.2,hz];rfl
     rw [e1,if_pos h12]
     simp only [cond_false]
     cases s with
     | nils=>
      cases xs with
      | nil=>rfl
      | cons c xs=>simp only [sY,cond_eq_ite,Bool.and_eq_true,Nat.ble_eq,Nat.blt_eq];rfl
     | sl a ver es off len=>
      simp only
      cases bA S a ver with
      | error w=>rfl
      | ok r=>simp only [sY,cond_eq_ite,Bool.and_eq_true,Nat.ble_eq,Nat.blt_eq,Nat.beq_eq,and_assoc]
     | _=>rfl
    ·have e1:(!(fU (sz P e) xs&&xs.all aP&&hM P e))=true:=by
      cases h1:fU (sz P e) xs with
      | false=>rfl
      | true=>
       cases h2:xs.all aP with
       | false=>rfl
       | true=>exact absurd ⟨h1,h2⟩ h12
     rw [e1,if_neg h12]
     rfl
  ·cases h
def cvT (P:Program) (s d:TypeId):Option IntKind:=match P.underlying s,P.underlying d with
 | some _,some (.int k)=>some k
 | _,_=>none
theorem fS {P:Program} {s d:TypeId} {k:IntKind} (h:cvT P s d=some k) (j:IntKind) (n:Int) (fr:Option Nat) (S:St):bP P s d (.int j n) fr S=.ok (.int k (wr k n),S):=by
 unfold cvT at h
 split at h
 ·rename_i u k' hu hd
  cases h
  simp only [bP,hu,hd]
 ·cases h
theorem cS {P : Program} {t : TypeId} {n : Nat} (h : esT P t = some n) (a ver off len : Nat) (lo hi : Option V) : eK P t (.sl a ver n off len) lo hi = (match eA len lo hi with
      | .ok (l, h) => .ok (.sl a ver n (off + l) (h - l))
      | .error e => .error e) := by
  unfold esT at h
  unfold eK
  split at h
  · rename_i e he
    rw [cond_eq_ite] at h
    split at h
    · rename_i hs
      cases h
      rw [he]
      simp only [hs, Bool.not_true, cond_false, Nat.beq_refl, cond_true]
      rfl
    · cases h
  · cases h
theorem aAa {P : Program} {t : TypeId} {n : Nat} (h : esT P t = some n) (es : List (List V)) (hl : fU n es = true) (lo hi : Option V) : eK P t (.imm es) lo hi = (match eA es.length lo hi with
      | .ok (l, h) => .ok (.imm ((es.take h).drop l))
      | .error e => .error e) := by
  unfold esT at h
  unfold eK
  split at h
  · rename_i e he
    rw [cond_eq_ite] at h
    split at h
    · rename_i hs
      cases h
      rw [he]
      simp only [hs, Bool.not_true, cond_false, hl, cond_true]
      rfl
    · cases h
  · cases h
section
variable (P:Program) (t:TypeId) (k:IntKind) (a b:Int)
theorem bL (k:IntKind):fN k k=true:=by cases k<;>rfl
theorem aIo:aZ P .add t (.int k a) (.int k b)=.ok (.int k (wr k (a+b))):=by simp only [aZ,bL,cond_true,eY]
theorem aIp:aZ P .sub t (.int k a) (.int k b)=.ok (.int k (wr k (a - b))):=by simp only [aZ,bL,cond_true,eY]
theorem aIq:aZ P .mul t (.int k a) (.int k b)=.ok (.int k (wr k (a*b))):=by simp only [aZ,bL,cond_true,eY]
theorem aIr (h:b≠0):aZ P .quo t (.int k a) (.int k b)=.ok (.int k (wr k (a.tdiv b))):=by simp only [aZ,bL,cond_true,eY,h,decide_false,cond_false]
theorem aIs (h:b≠0):aZ P .rem t (.int k a) (.int k b)=.ok (.int k (a.tmod b)):=by simp only [aZ,bL,cond_true,eY,h,decide_false,cond_false]
theorem aIt:aZ P .lss t (.int k a) (.int k b)=.ok (.bool (decide (a<b))):=by simp only [aZ,bL,cond_true,eY]
theorem aIu:aZ P .leq t (.int k a) (.int k b)=.ok (.bool (decide (a≤b))):=by simp only [aZ,bL,cond_true,eY]
theorem aIv:aZ P .gtr t (.int k a) (.int k b)=.ok (.bool (decide (b<a))):=by simp only [aZ,bL,cond_true,eY]
theorem aIw:aZ P .geq t (.int k a) (.int k b)=.ok (.bool (decide (b≤a))):=by simp only [aZ,bL,cond_true,eY]
theorem aIx:aZ P .eql t (.int k a) (.int k b)=.ok (.bool (decide (a=b))):=by simp only [aZ,bL,cond_true,eY]
theorem aIy:aZ P .neq t (.int k a) (.int k b)=.ok (.bool (!decide (a=b))):=by simp only [aZ,bL,cond_true,eY]
theorem aIz (x y:List UInt8):aZ P .eql t (.str x) (.str y)=.ok (.bool (x == y)):=by simp only [aZ,rJ,bR]
theorem aJ0 (x y:List UInt8):aZ P .neq t (.str x) (.str y)=.ok (.bool (!(x == y))):=by simp only [aZ,rJ,bR]
theorem aJ1 (x y:List UInt8):aZ P .lss t (.str x) (.str y)=.ok (.bool (ltB x y)):=by simp only [aZ,rJ]
theorem aJ2 (x y:List UInt8):aZ P .geq t (.str x) (.str y)=.ok (.bool (!ltB x y)):=by simp only [aZ,rJ]
end
theorem iX {n:Int} (h1:-9223372036854775808≤n) (h2:n≤9223372036854775807):wr .i64 n=n:=by
 unfold wr lo hi
 simp only
 rw [if_pos ⟨h1,h2⟩]
def WF (S:St):Prop:=∀ a b,S.heap.get a=some b→a<S.next
structure Ext (S S':St):Prop where
 old:∀ a b,S.heap.get a=some b→S'.heap.get a=some b
 next:S.next≤S'.next
 wf:WF S→WF S'
theorem Ext.refl (S:St):Ext S S:=⟨fun _ _ h=>h,Nat.le_refl _,fun h=>h⟩
theorem Ext.trans {A B C:St} (h:Ext A B) (k:Ext B C):Ext A C:=⟨fun a b q=>k.old a b (h.old a b q),Nat.le_trans h.next k.next,fun w=>k.wf (h.wf w)⟩
theorem Ext.row {S S':St} (h:Ext S S') {a ver:Nat} {r:Nat×List (List V)} (hr:bA S a ver=.ok r):bA S' a ver=.ok r:=by
 unfold bA at hr ⊢
 split at hr
 ·rename_i v es el hb
  rw [h.old a _ hb]
  exact hr
 ·cases hr
theorem Ext.elems {S S':St} (h:Ext S S') {v:V} {es:List (List V)} (he:aN S v=.ok es):aN S' v=.ok es:=by
 unfold aN at he ⊢
 split at he<;>try exact he
 rename_i a ver x off len
 split at he
 ·cases he
 ·rename_i r hr
  rw [h.row hr]
  exact he
theorem Ext.new {S:St} (w:WF S) (b:Blk):Ext S ⟨S.next+1,S.heap.put S.next b⟩:=by
 refine ⟨fun a c h=>?_,Nat.le_succ _,fun _ a c h=>?_⟩
 ·have:=w a c h
  show (S.heap.put S.next b).get a=some c
  rw [Tr.get_put_neB _ _ _ _ trivial (by omega)];exact h
 ·have h':(S.heap.put S.next b).get a=some c:=h
  rw [Tr.get_putB _ _ _ _ trivial] at h'
  split at h'
  ·show a<S.next+1;omega
  ·have:=w a c h';show a<S.next+1;omega
theorem Ext.set {S S':St} (h:Ext S S') {a:Nat} (ha:S.next≤a) (hb:a<S'.next) (w:WF S) (b:Blk):Ext S ⟨S'.next,S'.heap.put a b⟩:=by
 refine ⟨fun x c hx=>?_,h.next,fun _ x c hx=>?_⟩
 ·have:=w x c hx
  show (S'.heap.put a b).get x=some c
  rw [Tr.get_put_neB _ _ _ _ trivial (by omega)];exact h.old x c hx
 ·have hx':(S'.heap.put a b).get x=some c:=hx
  rw [Tr.get_putB _ _ _ _ trivial] at hx'
  split at hx'
  ·show x<S'.next;omega
  ·exact h.wf w x c hx'
theorem aB (n:Nat) (h:Tr Blk) (a ver es:Nat) (el:List (List V)):bA ⟨n,h.put a (.row ver es el)⟩ a ver=.ok (es,el):=by
 simp only [bA,Tr.get_put_sameB _ _ _ trivial,Nat.beq_refl,cond_true]
theorem tM (n m:Nat) (h:Tr Blk) (a c ver:Nat) (b:Blk) (hc:c≠a):bA ⟨n,h.put a b⟩ c ver=bA ⟨m,h⟩ c ver:=by
 simp only [bA,Tr.get_put_neB _ _ _ _ trivial hc]
structure Sl (S:St) (n:Nat) (v:V) (es:List (List V)):Prop where
 is:(v=.nils∧es=[])∨v=.imm es∨∃ a ver off elems,v=.sl a ver n off es.length∧bA S a ver=.ok (n,elems)∧off+es.length≤elems.length∧(elems.drop off).take es.length=es
 len:∀ cs,cs∈es→cs.length=n∧aP cs=true
theorem Sl.elems {S:St} {n:Nat} {v:V} {es:List (List V)} (h:Sl S n v es):aN S v=.ok es:=by
 rcases h.is with ⟨rfl,rfl⟩ | rfl | ⟨a,ver,off,elems,rfl,h2,h3,h4⟩
 ·rfl
 ·rfl
 ·simp only [aN,h2,Nat.ble_eq_true_of_le h3,cond_true,h4]
theorem aFi {k:IntKind} {i:Nat} {n:Nat} (h:i<n):iZ (.int k (i:Int)) n=some i:=by
 have h1:(0:Int)≤(i:Int):=by omega
 have h2:(i:Int)<(n:Int):=by omega
 simp only [iZ,h1,h2,decide_true,Bool.and_self,cond_true,Int.toNat_natCast]
def St.var (S:St) (n:Nat) (zs cs:List V):St:=⟨S.next+1,(S.heap.put S.next (.row 0 n [zs])).put S.next (.row 0 n [cs])⟩
theorem Ext.var {S:St} (w:WF S) (n:Nat) (zs cs:List V):Ext S (S.var n zs cs):=(Ext.new w _).set (Nat.le_refl _) (Nat.lt_succ_self _) w _
theorem aJ3 (S:St) (n:Nat) (zs cs:List V):bA (S.var n zs cs) S.next 0=.ok (n,[cs]):=aB _ _ _ _ _ _
theorem aAb (zs cs:List V) (h:cs.length=zs.length):splice zs 0 cs=cs:=by simp [splice,h]
theorem aDw (S:St) (n:Nat) (zs:List V) (x:V) (hz:zs.length=n) (hx:x.cells.length=n) (ho:aP x.cells=true):
  lC n (.ptr S.next 0 0 0) x ⟨S.next+1,S.heap.put S.next (.row 0 n [zs])⟩=.ok (S.var n zs x.cells):=by
 simp only [lC,aB,List.getElem?_cons_zero,hx,ho,hz,Nat.zero_add,Nat.le_refl,and_self,if_true,List.set_cons_zero,St.var,aAb zs x.cells (by rw [hx,hz])]
def cT (x y:R Bool):R Bool:=match x with
 | .error e=>.error e
 | .ok r=>bif r then y else .ok false
theorem eT (a b:Bool):cT (.ok a) (.ok b)=.ok (a&&b):=by cases a<;>rfl
end
def tN {σ ρ α:Type} (step:σ→α→ρ⊕σ) (fin:σ→ρ):List α→σ→ρ
 | [],s=>fin s
 | a::l,s=>match step s a with
  | .inl r=>r
  | .inr s'=>tN step fin l s'
end Go.AM
end
