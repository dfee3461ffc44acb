import Derived.Below
import Derived.KernelRfl
import Derived.Laws.Externs
import Derived.Laws.IdiomCopy
import Derived.Lib.AppendZerosOnto
import Derived.Lib.JoinLaws
import Derived.Lib.Overlaps
import Derived.Lib.SliceRun
import Derived.Lib.Walk
import Derived.LoopN
import Derived.Shelf.RegionOpenPlain
import Derived.Shelf.Spec.SlicesInsert
import Derived.Test.YtjbicclbalagbaaGreatProg
import Derived.WalkKit
import Derived.Test.YtjbicclbalagbaaGreatX0
set_option linter.unusedSimpArgs false
set_option linter.unusedVariables false
set_option maxRecDepth 100000
section
namespace Go.AM
section
structure Frm where
 i : Nat
 re : List Nat
 o : Oper
 recs : List Rec
 e : Env
 S : St
 e1 : Env
 S1 : St
def nextRecs (P : Program) (ops : Array Oper) (i : Nat) (o : Oper) (e e' : Env) (recs : List Rec) : List Rec :=
 bif Nat.beq (cls P o.op) 1 && isTrue (wanted ops o e) then
  (match o.dst with
  | none => recs
  | some d => match e'.get d with
   | some v => (i, e, v) :: recs
   | none => recs) else recs
inductive DR (P : Program) (call : Call) (n : Nat) (ops : Array Oper) (base : Nat) : List Step → List Rec → Env → St → List Frm → Env → St → Prop
 | nil (recs : List Rec) (e : Env) (S : St) : DR P call n ops base [] recs e S [] e S
 | cons (i : Nat) (re : List Nat) (l : List Step) (recs : List Rec) (e : Env) (S : St) (e1 : Env) (S1 : St) (o : Oper) (fs : List Frm) (e' : Env) (S' : St)
   (ho : ops[i]? = some o) (hs : stepOp P call n ops o (some (base + i)) e S = .ok (e1, S1)) (ha : again P ops recs S1 re = true)
   (t : DR P call n ops base l (nextRecs P ops i o e e1 recs) e1 S1 fs e' S') : DR P call n ops base ((i, re) :: l) recs e S (⟨i, re, o, recs, e, S, e1, S1⟩ :: fs) e' S'
section
variable {P : Program} {call : Call} {n : Nat} {ops : Array Oper} {base : Nat}
theorem drawGo_DR : ∀ {l : List Step} {recs : List Rec} {e e' : Env} {S S' : St}, drawGo P call n ops base l recs e S = .ok (e', S') → ∃ fs, DR P call n ops base l recs e S fs e' S'
 | [], recs, e, e', S, S', h => by simp [drawGo] at h; obtain ⟨rfl, rfl⟩ := h; exact ⟨[], .nil _ _ _⟩
 | (i, re) :: l, recs, e, e', S, S', h => by
  simp only [drawGo] at h
  split at h
  ·cases h
  ·rename_i o ho
   split at h
   ·cases h
   ·rename_i e1 S1 hs
    rw [cond_eq_ite] at h
    split at h
    ·rename_i ha
     obtain ⟨fs, hfs⟩ := drawGo_DR h
     exact ⟨_, .cons i re l recs e S e1 S1 o fs e' S' ho hs ha hfs⟩
    ·cases h
theorem step_env {o : Oper} {fr : Option Nat} {e e1 : Env} {S S1 : St} (hn : n < lim) (h : stepOp P call n ops o fr e S = .ok (e1, S1)) {t : Nat} (ht : o.dst ≠ some t) : e1.get t = e.get t := by
 have key : ∀ v, putDst n e o.dst v = .ok e1 → e1.get t = e.get t := by
  intro v hp
  unfold putDst at hp
  split at hp
  ·cases hp; rfl
  ·rename_i d hd
   rw [cond_eq_ite] at hp
   split at hp
   ·rename_i hlt
    have hlt' : d < n := by simpa using hlt
    cases hp
    rw [Tr.get_put_ne _ _ _ _ (Nat.lt_trans hlt' hn) (fun e => ht (by rw [e, hd]))]
   ·cases hp
 rcases stepOp_cases h with ⟨_, hp, _⟩ | ⟨_, v, _, hp⟩
 ·exact key _ hp
 ·exact key _ hp
theorem put_get {o : Oper} {e e1 : Env} {v : V} {d : Nat} (hn : n < lim) (h : putDst n e o.dst v = .ok e1) (hd : o.dst = some d) : e1.get d = some v := by
 unfold putDst at h
 rw [hd] at h
 simp only [cond_eq_ite] at h
 split at h
 ·rename_i hlt
  have hlt' : d < n := by simpa using hlt
  cases h
  exact Tr.get_put_same _ _ _ (Nat.lt_trans hlt' hn)
 ·cases h
theorem step_mem {o : Oper} {k : Nat} {e e1 : Env} {S S1 : St} (h : stepOp P call n ops o (some k) e S = .ok (e1, S1)) (hc : cls P o.op ≠ 3) (hc4 : cls P o.op ≤ 3) :
  S1.next = S.next ∧ (∀ a, (cls P o.op = 2 → a ≠ k) → S1.heap.get a = S.heap.get a) := by
 rcases stepOp_cases h with ⟨_, _, rfl⟩ | ⟨_, v, hr, _⟩
 ·exact ⟨rfl, fun _ _ => rfl⟩
 ·unfold runOp at hr
  cases hev : evalOp P (ev e) o (some k) S with
  | error w => rw [hev] at hr; cases hr
  | ok r =>
   rw [hev] at hr
   have : cls P o.op = 0 ∨ cls P o.op = 1 ∨ cls P o.op = 2 := by omega
   rcases this with c | c | c
   ·obtain ⟨v', h1, _⟩ := cls0 c hev
    subst h1; cases hr
    exact ⟨rfl, fun _ _ => rfl⟩
   ·obtain ⟨v', h1, _⟩ := cls1 c hev
    subst h1; cases hr
    exact ⟨rfl, fun _ _ => rfl⟩
   ·obtain ⟨v', b, hk, h1, _⟩ := cls2 c hev
    subst h1; cases hr
    exact ⟨rfl, fun a ha => Tr.get_put_neB _ _ _ _ hk (ha c)⟩
theorem cls_le (op : Op) : cls P op ≤ 3 := by
 unfold cls
 split <;> try omega
 all_goals (split <;> try omega)
 all_goals (split <;> omega)
def svF (E : Nat → Bool) (t : Nat) : List Frm → Option V → Option V
 | [], acc => acc
 | f :: l, acc => svF E t l (if E f.i = true ∧ f.o.dst = some t then f.e1.get t else acc)
def hpF (P : Program) (base : Nat) (E : Nat → Bool) (a : Nat) : List Frm → Option Blk → Option Blk
 | [], acc => acc
 | f :: l, acc => hpF P base E a l (if E f.i = true ∧ (cls P f.o.op = 3 ∨ (cls P f.o.op = 2 ∧ a = base + f.i)) then f.S1.heap.get a else acc)
def nxF (P : Program) (E : Nat → Bool) : List Frm → Nat → Nat
 | [], acc => acc
 | f :: l, acc => nxF P E l (if E f.i = true ∧ cls P f.o.op = 3 then f.S1.next else acc)
theorem svF_append (E : Nat → Bool) (t : Nat) (l l' : List Frm) (acc : Option V) : svF E t (l ++ l') acc = svF E t l' (svF E t l acc) := by
 induction l generalizing acc with
 | nil => rfl
 | cons f l ih => simp only [List.cons_append, svF, ih]
theorem hpF_append (E : Nat → Bool) (a : Nat) (l l' : List Frm) (acc : Option Blk) : hpF P base E a (l ++ l') acc = hpF P base E a l' (hpF P base E a l acc) := by
 induction l generalizing acc with
 | nil => rfl
 | cons f l ih => simp only [List.cons_append, hpF, ih]
theorem nxF_append (E : Nat → Bool) (l l' : List Frm) (acc : Nat) : nxF P E (l ++ l') acc = nxF P E l' (nxF P E l acc) := by
 induction l generalizing acc with
 | nil => rfl
 | cons f l ih => simp only [List.cons_append, nxF, ih]
theorem svF_congr {E E' : Nat → Bool} {t : Nat} {l : List Frm} (h : ∀ f ∈ l, f.o.dst = some t → E f.i = E' f.i) (acc : Option V) : svF E t l acc = svF E' t l acc := by
 induction l generalizing acc with
 | nil => rfl
 | cons f l ih =>
  simp only [svF]
  rw [ih (fun g hg => h g (List.mem_cons_of_mem _ hg))]
  by_cases hd : f.o.dst = some t
  ·rw [h f (by simp) hd]
  ·simp [hd]
theorem svF_none {E : Nat → Bool} {t : Nat} {l : List Frm} (h : ∀ f ∈ l, f.o.dst = some t → E f.i = false) (acc : Option V) : svF E t l acc = acc := by
 induction l generalizing acc with
 | nil => rfl
 | cons f l ih =>
  simp only [svF]
  rw [ih (fun g hg => h g (List.mem_cons_of_mem _ hg))]
  by_cases hd : f.o.dst = some t
  ·rw [if_neg]; rw [h f (by simp) hd]; simp
  ·simp [hd]
theorem hpF_congr {E E' : Nat → Bool} {a : Nat} {l : List Frm} (h : ∀ f ∈ l, 2 ≤ cls P f.o.op → E f.i = E' f.i) (acc : Option Blk) : hpF P base E a l acc = hpF P base E' a l acc := by
 induction l generalizing acc with
 | nil => rfl
 | cons f l ih =>
  simp only [hpF]
  rw [ih (fun g hg => h g (List.mem_cons_of_mem _ hg))]
  by_cases hd : 2 ≤ cls P f.o.op
  ·rw [h f (by simp) hd]
  ·rw [if_neg (by omega), if_neg (by omega)]
theorem nxF_congr {E E' : Nat → Bool} {l : List Frm} (h : ∀ f ∈ l, cls P f.o.op = 3 → E f.i = E' f.i) (acc : Nat) : nxF P E l acc = nxF P E' l acc := by
 induction l generalizing acc with
 | nil => rfl
 | cons f l ih =>
  simp only [nxF]
  rw [ih (fun g hg => h g (List.mem_cons_of_mem _ hg))]
  by_cases hd : cls P f.o.op = 3
  ·rw [h f (by simp) hd]
  ·simp [hd]
theorem nxF_none {E : Nat → Bool} {l : List Frm} (h : ∀ f ∈ l, cls P f.o.op = 3 → E f.i = false) (acc : Nat) : nxF P E l acc = acc := by
 induction l generalizing acc with
 | nil => rfl
 | cons f l ih =>
  simp only [nxF]
  rw [ih (fun g hg => h g (List.mem_cons_of_mem _ hg))]
  by_cases hd : cls P f.o.op = 3
  ·rw [if_neg]; rw [h f (by simp) hd]; simp
  ·simp [hd]
theorem hpF_post {E : Nat → Bool} {a : Nat} {l : List Frm} (h : ∀ f ∈ l, cls P f.o.op = 3 → E f.i = false) :
  (∃ f ∈ l, E f.i = true ∧ cls P f.o.op = 2 ∧ a = base + f.i) ∧ (∀ acc acc', hpF P base E a l acc = hpF P base E a l acc') ∨
  (¬ (∃ f ∈ l, E f.i = true ∧ cls P f.o.op = 2 ∧ a = base + f.i)) ∧ ∀ acc, hpF P base E a l acc = acc := by
 induction l with
 | nil => exact .inr ⟨by simp, fun _ => rfl⟩
 | cons f l ih =>
  rcases ih (fun g hg => h g (List.mem_cons_of_mem _ hg)) with ⟨⟨g, hg, h1⟩, h2⟩ | ⟨h1, h2⟩
  ·exact .inl ⟨⟨g, List.mem_cons_of_mem _ hg, h1⟩, fun acc acc' => by simp only [hpF]; exact h2 _ _⟩
  ·by_cases hf : E f.i = true ∧ cls P f.o.op = 2 ∧ a = base + f.i
   ·refine .inl ⟨⟨f, by simp, hf⟩, fun acc acc' => ?_⟩
    simp only [hpF, h2]
    rw [if_pos ⟨hf.1, .inr hf.2⟩, if_pos ⟨hf.1, .inr hf.2⟩]
   ·refine .inr ⟨?_, fun acc => ?_⟩
    ·rintro ⟨g, hg, hh⟩
     rcases List.mem_cons.1 hg with rfl | hg
     ·exact hf hh
     ·exact h1 ⟨g, hg, hh⟩
    ·simp only [hpF, h2]
     rw [if_neg]
     rintro ⟨q1, q2 | q2⟩
     ·rw [h f (by simp) q2] at q1; cases q1
     ·exact hf ⟨q1, q2⟩
theorem DR.upto (hn : n < lim) {l : List Step} {recs : List Rec} {e e' : Env} {S S' : St} {fs : List Frm} (h : DR P call n ops base l recs e S fs e' S') :
  (∀ pre f post, fs = pre ++ f :: post → ops[f.i]? = some f.o ∧ stepOp P call n ops f.o (some (base + f.i)) f.e f.S = .ok (f.e1, f.S1) ∧ again P ops f.recs f.S1 f.re = true ∧
   (∀ t, svF (fun _ => true) t pre (e.get t) = f.e.get t) ∧
   (∀ E : Nat → Bool, (∀ g ∈ pre, 2 ≤ cls P g.o.op → E g.i = true) → (∀ a, hpF P base E a pre (S.heap.get a) = f.S.heap.get a) ∧ nxF P E pre S.next = f.S.next)) ∧
  (∀ t, svF (fun _ => true) t fs (e.get t) = e'.get t) ∧
  (∀ E : Nat → Bool, (∀ g ∈ fs, 2 ≤ cls P g.o.op → E g.i = true) → (∀ a, hpF P base E a fs (S.heap.get a) = S'.heap.get a) ∧ nxF P E fs S.next = S'.next) ∧
  (l = fs.map fun f => (f.i, f.re)) := by
 induction h with
 | nil recs e S => exact ⟨fun pre f post h => by simp at h, fun _ => rfl, fun _ _ => ⟨fun _ => rfl, rfl⟩, rfl⟩
 | cons i re l recs e S e1 S1 o fs e' S' ho hs ha t ih =>
  obtain ⟨ih1, ih2, ih3, ih4⟩ := ih
  have hsv : ∀ t, (if o.dst = some t then e1.get t else e.get t) = e1.get t := by
   intro t
   by_cases hd : o.dst = some t
   ·simp [hd]
   ·simp only [hd, if_false]; exact (step_env hn hs hd).symm
  have hhp : ∀ E : Nat → Bool, (2 ≤ cls P o.op → E i = true) →
    (∀ a, (if E i = true ∧ (cls P o.op = 3 ∨ (cls P o.op = 2 ∧ a = base + i)) then S1.heap.get a else S.heap.get a) = S1.heap.get a) ∧
    (if E i = true ∧ cls P o.op = 3 then S1.next else S.next) = S1.next := by
   intro E hE
   by_cases h3 : cls P o.op = 3
   ·have := hE (by omega)
    exact ⟨fun a => by rw [if_pos ⟨this, .inl h3⟩], by rw [if_pos ⟨this, h3⟩]⟩
   ·obtain ⟨m1, m2⟩ := step_mem hs h3 (cls_le _)
    refine ⟨fun a => ?_, by rw [if_neg (by simp [h3]), m1]⟩
    split
    ·rfl
    ·rename_i hne
     refine (m2 a fun h2 e0 => hne ⟨hE (by omega), .inr ⟨h2, e0⟩⟩).symm
  refine ⟨fun pre f post hsplit => ?_, fun t => ?_, fun E hE => ?_, by simp [ih4]⟩
  ·cases pre with
   | nil =>
    simp only [List.nil_append, List.cons.injEq] at hsplit
    obtain ⟨rfl, rfl⟩ := hsplit
    exact ⟨ho, hs, ha, fun _ => rfl, fun _ _ => ⟨fun _ => rfl, rfl⟩⟩
   | cons g pre =>
    simp only [List.cons_append, List.cons.injEq] at hsplit
    obtain ⟨rfl, hsplit⟩ := hsplit
    obtain ⟨q1, q2, q3, q4, q5⟩ := ih1 pre f post hsplit
    refine ⟨q1, q2, q3, fun t => ?_, fun E hE => ?_⟩
    ·simp only [svF, true_and, hsv]; exact q4 t
    ·obtain ⟨r1, r2⟩ := q5 E (fun g hg => hE g (List.mem_cons_of_mem _ hg))
     obtain ⟨s1, s2⟩ := hhp E (fun h2 => hE _ (List.mem_cons_self ..) h2)
     refine ⟨fun a => ?_, ?_⟩
     ·simp only [hpF]; rw [s1]; exact r1 a
     ·simp only [nxF]; rw [s2]; exact r2
  ·simp only [svF, true_and, hsv]; exact ih2 t
  ·obtain ⟨r1, r2⟩ := ih3 E (fun g hg => hE g (List.mem_cons_of_mem _ hg))
   obtain ⟨s1, s2⟩ := hhp E (fun h2 => hE _ (List.mem_cons_self ..) h2)
   refine ⟨fun a => ?_, ?_⟩
   ·simp only [hpF]; rw [s1]; exact r1 a
   ·simp only [nxF]; rw [s2]; exact r2
theorem DR.reserved (hc : CallOK P call) (hn : n < lim) {l : List Step} {recs : List Rec} {e e' : Env} {S S' : St} {fs : List Frm} (h : DR P call n ops base l recs e S fs e' S') :
  ∀ {F : Nat → Option Obj} {G : Gh} {W : World} {tmps : Array Value}, Rel F G S W.heap → EnvR G n e tmps → (fs.map (·.i)).Nodup → (∀ f ∈ fs, base + f.i < S.next ∧ G.loc (base + f.i) = none ∧ G.ml (base + f.i) = none) →
   (∀ pre f post, fs = pre ++ f :: post → ∀ g ∈ f :: post, f.S.heap.get (base + g.i) = none ∧ (g ∈ post → f.S1.heap.get (base + g.i) = none)) ∧
   (∀ a, a < S.next → S.heap.get a = none → (∀ f ∈ fs, a ≠ base + f.i) → S'.heap.get a = none) ∧ S.next ≤ S'.next := by
 induction h with
 | nil recs e S => intro F G W tmps _ _ _ _; exact ⟨fun pre f post h => by simp at h, fun _ _ h _ => h, Nat.le_refl _⟩
 | cons i re l recs e S e1 S1 o fs e' S' ho hs ha t ih =>
  intro F G W tmps R he hnd hres
  obtain ⟨hi, hnd'⟩ := List.nodup_cons.1 hnd
  obtain ⟨r1, r2, r3⟩ := hres _ (List.mem_cons_self ..)
  obtain ⟨G1, W1, tmps1, hsim, he1⟩ := step_exists hc ho hs R (fun k hk => by cases hk; exact ⟨r1, r2, r3⟩) he hn
  have dead : ∀ k, G.loc k = none → G.ml k = none → S.heap.get k = none := by
   intro k h1 h2
   cases hk : S.heap.get k with
   | none => rfl
   | some b =>
    obtain ⟨j, hj⟩ := (R.blk k b hk).next
    rcases hj with ⟨L, hL, _⟩ | hj
    ·rw [h1] at hL; cases hL
    ·rw [h2] at hj; cases hj
  have hne : ∀ g ∈ fs, some (base + i) ≠ some (base + g.i) := by
   intro g hg e0
   have : i = g.i := by have := Option.some.inj e0; omega
   exact hi (by rw [this]; exact List.mem_map.2 ⟨g, hg, rfl⟩)
  have hres1 : ∀ g ∈ fs, base + g.i < S1.next ∧ G1.loc (base + g.i) = none ∧ G1.ml (base + g.i) = none := by
   intro g hg
   obtain ⟨s1, s2, s3⟩ := hres g (List.mem_cons_of_mem _ hg)
   obtain ⟨k1, k2⟩ := hsim.keep _ (dead _ s2 s3) s1 (hne g hg)
   exact ⟨Nat.lt_of_lt_of_le s1 hsim.next, k1.trans s2, k2.trans s3⟩
  obtain ⟨ih1, ih2, ih3⟩ := ih hsim.rel he1 hnd' hres1
  refine ⟨fun pre f post hsplit g hg => ?_, fun a h1 h2 h3 => ?_, Nat.le_trans hsim.next ih3⟩
  ·cases pre with
   | nil =>
    simp only [List.nil_append, List.cons.injEq] at hsplit
    obtain ⟨rfl, rfl⟩ := hsplit
    obtain ⟨s1, s2, s3⟩ := hres g hg
    exact ⟨dead _ s2 s3, fun hg' => hsim.dead _ (dead _ s2 s3) s1 (hne g hg')⟩
   | cons g' pre =>
    simp only [List.cons_append, List.cons.injEq] at hsplit
    obtain ⟨rfl, hsplit⟩ := hsplit
    exact ih1 pre f post hsplit g hg
  ·refine ih2 a (Nat.lt_of_lt_of_le h1 hsim.next) (hsim.dead a h2 h1 ?_) (fun f hf => h3 f (List.mem_cons_of_mem _ hf))
   intro e0
   exact h3 _ (List.mem_cons_self ..) (Option.some.inj e0).symm
theorem DR.record {l : List Step} {recs : List Rec} {e e' : Env} {S S' : St} {fs : List Frm} (h : DR P call n ops base l recs e S fs e' S') :
  ∀ pre f post, fs = pre ++ f :: post → ∀ d v, cls P f.o.op = 1 → wanted ops f.o f.e = .ok true → f.o.dst = some d → f.e1.get d = some v → (∀ g ∈ post, g.i ≠ f.i) →
   ∀ p1 g p2, post = p1 ++ g :: p2 → findRec f.i g.recs = some (f.e, v) := by
 induction h with
 | nil recs e S => intro pre f post h; simp at h
 | cons i re l recs e S e1 S1 o fs e' S' ho hs ha t ih =>
  intro pre f post hsplit d v hc hw hd hv hne p1 g p2 hp
  cases pre with
  | cons g' pre =>
   simp only [List.cons_append, List.cons.injEq] at hsplit
   exact ih pre f post hsplit.2 d v hc hw hd hv hne p1 g p2 hp
  | nil =>
   simp only [List.nil_append, List.cons.injEq] at hsplit
   obtain ⟨rfl, rfl⟩ := hsplit
   simp only at hc hw hd hv hne
   have hfirst : findRec i (nextRecs P ops i o e e1 recs) = some (e, v) := by
    unfold nextRecs
    rw [hc, hw, hd]
    simp [isTrue, hv, findRec]
   clear ih hv hc hw hd ho
   generalize nextRecs P ops i o e e1 recs = rs at t hfirst
   clear hs ha
   subst hp
   generalize hq : p1 ++ g :: p2 = q at t
   induction t generalizing p1 with
   | nil recs e S => simp at hq
   | cons i' re' l' recs' e2 S2 e3 S3 o' fs' e4 S4 ho' hs' ha' t' ih' =>
    cases p1 with
    | nil =>
     simp only [List.nil_append, List.cons.injEq] at hq
     obtain ⟨rfl, _⟩ := hq
     exact hfirst
    | cons g' p1 =>
     simp only [List.cons_append, List.cons.injEq] at hq
     obtain ⟨rfl, hq⟩ := hq
     have hne2 : ∀ x ∈ p1 ++ g :: p2, x.i ≠ i := fun x hx => hne x (by simp only [List.cons_append, List.mem_cons]; exact .inr hx)
     refine ih' p1 ?_ hne2 hq
     have hne' : i ≠ i' := fun e0 => hne _ (by simp only [List.cons_append, List.mem_cons]; exact .inl rfl) e0.symm
     unfold nextRecs
     rw [cond_eq_ite]
     split
     ·split
      ·exact hfirst
      ·split
       ·simp only [findRec, cond_eq_ite]
        rw [if_neg (by simpa using hne')]
        exact hfirst
       ·exact hfirst
     ·exact hfirst
end
end
section
section
variable {P : Program} {call : Call} {n : Nat} {ops : Array Oper} {base : Nat}
structure PlanF (P : Program) (ops : Array Oper) (b : Array Nat) (fs : List Frm) : Prop where
 nodup : (fs.map (·.i)).Nodup
 all : ∀ j, j < ops.size → ∃ f ∈ fs, f.i = j
 edge : ∀ pre f post, fs = pre ++ f :: post → ∀ e ∈ f.o.after, Region.binds .any e = true → ∃ g ∈ pre, g.i = e.on
 anc : ∀ pre f post, fs = pre ++ f :: post → ∀ j, j < ops.size → bitB (b.getD f.i 0) j = true → ∃ e ∈ f.o.after, Region.binds .any e = true ∧ (e.on = j ∨ bitB (b.getD e.on 0) j = true)
 pair : ∀ pre f post, fs = pre ++ f :: post → ∀ g ∈ pre, bitB (b.getD f.i 0) g.i = true ∨
  (apartB ops f.o g.o = true ∧ ¬ (cls P g.o.op = 3 ∧ cls P f.o.op = 3) ∧ ¬ (cls P g.o.op = 2 ∧ cls P f.o.op = 3) ∧ ¬ (cls P g.o.op = 3 ∧ cls P f.o.op = 1) ∧ ¬ (cls P g.o.op = 2 ∧ cls P f.o.op = 1) ∧
   (cls P g.o.op = 1 → cls P f.o.op = 3 → g.i ∈ f.re))
 rd : ∀ f ∈ fs, cls P f.o.op = 1 → ∃ d, f.o.dst = some d
theorem stepsOK_split {b : Array Nat} : ∀ {l1 l2 : List Step} {done : List Nat} {i : Nat} {re : List Nat}, stepsOK P ops b done (l1 ++ (i, re) :: l2) = true → stepOK P ops b ((l1.map (·.1)).reverse ++ done) i re = true
 | [], l2, done, i, re, h => by
  simp only [List.nil_append, stepsOK, Bool.and_eq_true] at h
  simpa using h.1
 | (j, rj) :: l1, l2, done, i, re, h => by
  simp only [List.cons_append, stepsOK, Bool.and_eq_true] at h
  have := stepsOK_split h.2
  simpa using this
theorem planF_of {b : Array Nat} {fs : List Frm} (hops : ∀ f ∈ fs, ops[f.i]? = some f.o) (hall : ∀ j, j < ops.size → ∃ f ∈ fs, f.i = j)
  (h : stepsOK P ops b [] (fs.map fun f => (f.i, f.re)) = true) : PlanF P ops b fs := by
 have key : ∀ pre f post, fs = pre ++ f :: post → stepOK P ops b ((pre.map (·.i)).reverse) f.i f.re = true := by
  intro pre f post hs
  rw [hs] at h
  simp only [List.map_append, List.map_cons] at h
  have := stepsOK_split h
  simpa [List.map_map, Function.comp_def] using this
 have facts : ∀ pre f post, fs = pre ++ f :: post →
   (∀ g ∈ pre, g.i ≠ f.i) ∧ (cls P f.o.op = 1 → ∃ d, f.o.dst = some d) ∧ (∀ e ∈ f.o.after, Region.binds .any e = true → ∃ g ∈ pre, g.i = e.on) ∧
   (∀ j, j < ops.size → bitB (b.getD f.i 0) j = true → ∃ e ∈ f.o.after, Region.binds .any e = true ∧ (e.on = j ∨ bitB (b.getD e.on 0) j = true)) ∧
   (∀ g ∈ pre, bitB (b.getD f.i 0) g.i = true ∨
    (apartB ops f.o g.o = true ∧ ¬ (cls P g.o.op = 3 ∧ cls P f.o.op = 3) ∧ ¬ (cls P g.o.op = 2 ∧ cls P f.o.op = 3) ∧ ¬ (cls P g.o.op = 3 ∧ cls P f.o.op = 1) ∧ ¬ (cls P g.o.op = 2 ∧ cls P f.o.op = 1) ∧
     (cls P g.o.op = 1 → cls P f.o.op = 3 → g.i ∈ f.re))) := by
  intro pre f post hs
  have hk := key pre f post hs
  unfold stepOK at hk
  rw [hops f (by rw [hs]; simp)] at hk
  simp only [Bool.and_eq_true] at hk
  obtain ⟨⟨⟨⟨k1, k2⟩, k3⟩, k4⟩, k5⟩ := hk
  refine ⟨fun g hg e0 => ?_, fun hc => ?_, fun e he hb => ?_, fun j hj hb => ?_, fun g hg => ?_⟩
  ·simp only [Bool.not_eq_true', List.contains_eq_mem, decide_eq_false_iff_not, List.mem_reverse, List.mem_map] at k1
   exact k1 ⟨g, hg, e0⟩
  ·rw [hc] at k2
   have : f.o.dst.isSome = true := by simpa using k2
   exact Option.isSome_iff_exists.1 this
  ·have := List.all_eq_true.1 k3 e (by simpa using he)
   rw [hb] at this
   simp at this
   exact this
  ·have := List.all_eq_true.1 k4 j (List.mem_range.2 hj)
   rw [hb] at this
   simp only [Bool.not_true, Bool.false_or, Bool.and_eq_true, List.any_eq_true, Bool.or_eq_true, beq_iff_eq] at this
   obtain ⟨_, e, he, hbe, hor⟩ := this
   exact ⟨e, by simpa using he, hbe, hor⟩
  ·have := List.all_eq_true.1 k5 g.i (by simp; exact ⟨g, hg, rfl⟩)
   rw [hops g (by rw [hs]; simp [hg])] at this
   simp only [Bool.or_eq_true, Bool.and_eq_true] at this
   rcases this with h1 | ⟨h1, h2⟩
   ·exact .inl h1
   ·refine .inr ⟨h1, ?_⟩
    clear h1 k1 k2 k3 k4 k5
    generalize cls P g.o.op = x at h2
    generalize cls P f.o.op = y at h2
    split at h2
    ·cases h2
    ·cases h2
    ·cases h2
    ·cases h2
    ·refine ⟨by omega, by omega, by omega, by omega, fun _ _ => by simpa using h2⟩
    ·rename_i q1 q2 q3 q4 q5
     refine ⟨fun q => q1 q.1 q.2, fun q => q2 q.1 q.2, fun q => q3 q.1 q.2, fun q => q4 q.1 q.2, fun h5 h6 => (q5 h5 h6).elim⟩
 refine ⟨?_, hall, fun pre f post hs => (facts pre f post hs).2.2.1, fun pre f post hs => (facts pre f post hs).2.2.2.1, fun pre f post hs => (facts pre f post hs).2.2.2.2, fun f hf => ?_⟩
 ·have : ∀ (l pre : List Frm), fs = pre ++ l → (l.map (·.i)).Nodup := by
   intro l
   induction l with
   | nil => intro pre _; simp
   | cons f l ih =>
    intro pre hs
    simp only [List.map_cons, List.nodup_cons]
    refine ⟨fun hm => ?_, ih (pre ++ [f]) (by simpa using hs)⟩
    obtain ⟨g, hg, e0⟩ := List.mem_map.1 hm
    obtain ⟨l1, l2, rfl⟩ := List.append_of_mem hg
    exact (facts (pre ++ f :: l1) g l2 (by simpa using hs)).1 f (by simp) e0.symm
  exact this fs [] rfl
 ·obtain ⟨l1, l2, hs⟩ := List.append_of_mem hf
  exact (facts l1 f l2 hs).2.1
theorem apartB_spec {x y : Oper} (h : apartB ops x y = true) :
  (∀ d, x.dst = some d → d ∉ y.looksAt ops) ∧ (∀ d, x.dst = some d → y.dst ≠ some d) ∧ (∀ d, y.dst = some d → d ∉ x.looksAt ops) :=
 Oper.apart_spec (ops := ops) h
theorem hpF_ind {E : Nat → Bool} {a : Nat} {b : Blk} : ∀ {l : List Frm}, hpF P base E a l none = some b → ∀ acc, hpF P base E a l acc = some b
 | [], h, _ => by simp [hpF] at h
 | f :: l, h, acc => by
  simp only [hpF] at h ⊢
  split
  ·rename_i hq; rw [if_pos hq] at h; exact h
  ·rename_i hq; rw [if_neg hq] at h; exact hpF_ind h acc
theorem wanted_sound' {G : Gh} {o : Oper} {e : Env} {tmps : Array Value} {b : Bool} (h : wanted ops o e = .ok b)
  (he : ∀ t ∈ o.looksAt ops, ∀ v, e.get t = some v → ∃ w, tmps[t]? = some w ∧ VR G v w) : Region.wanted o (yielded ops tmps) = b := by
 unfold wanted at h
 unfold Region.wanted
 split at h
 ·rename_i hg; cases h; simp [hg]
 ·rename_i j want hg
  simp only [hg]
  unfold yielded
  split at h
  ·rename_i hj; cases h; simp [hj]
  ·rename_i oj hj
   split at h
   ·rename_i hd; cases h; simp [hj, hd]
   ·rename_i d hd
    have hl : d ∈ o.looksAt ops := by
     unfold Oper.looksAt
     refine List.mem_append_right _ ?_
     simp [hg, hj, hd]
    split at h
    ·rename_i b' hb
     cases h
     obtain ⟨w, w1, w2⟩ := he d hl _ hb
     cases w2
     simp only [hj, hd, Option.bind_some, w1]
     cases b' <;> cases want <;> rfl
    ·rename_i v hne hb
     cases h
     obtain ⟨w, w1, w2⟩ := he d hl _ hb
     simp only [hj, hd, Option.bind_some, w1]
     cases w2 <;> first | rfl | (exact absurd rfl (hne _))
    ·cases h
def only (ops : Array Oper) (o : Oper) (e : Env) : Operand → Option V
 | .tmp t => if t ∈ o.looksAt ops then e.get t else none
 | x => ev e x
theorem only_congr (o : Oper) (e : Env) : ∀ x ∈ o.op.operands, ev e x = only ops o e x := by
 intro x hx
 cases x with
 | tmp t =>
  have : t ∈ o.looksAt ops := by
   unfold Oper.looksAt
   refine List.mem_append_left _ (List.mem_filterMap.2 ⟨.tmp t, by simpa using hx, rfl⟩)
  simp [only, ev, this]
 | _ => rfl
theorem only_sound {G : Gh} {o : Oper} {e : Env} {a : Act} (he : ∀ t ∈ o.looksAt ops, ∀ v, e.get t = some v → ∃ w, a.tmps[t]? = some w ∧ VR G v w) :
  ∀ x v, only ops o e x = some v → VR G v (a.eval x) := by
 intro x v hx
 cases x with
 | tmp t =>
  simp only [only] at hx
  split at hx
  ·rename_i ht
   obtain ⟨w, w1, w2⟩ := he t ht v hx
   simp only [Act.eval]
   rw [show a.tmps.getD t undef = w by simp [w1]]
   exact w2
  ·cases hx
 | const c => exact ofValue_VR G hx
 | global g => cases hx
 | func f => cases hx; exact .func f [] [] #[] #[] .nil .nil
mutual
theorem beqV_eq : ∀ {a b : V}, beqV a b = true → a = b
 | .bool a, .bool b, h => by simp [beqV] at h; rw [h]
 | .int j a, .int k b, h => by simp [beqV] at h; rw [kindBeq_eq h.1, h.2]
 | .str a, .str b, h => by simp only [beqV, beqB_eq] at h; rw [eq_of_beq h]
 | .nilp, .nilp, _ => rfl
 | .ptr a b c d, .ptr a' b' c' d', h => by simp [beqV] at h; obtain ⟨⟨⟨rfl, rfl⟩, rfl⟩, rfl⟩ := h; rfl
 | .iptr a b, .iptr a' b', h => by simp [beqV] at h; rw [beqVs_eq h.1, h.2]
 | .nils, .nils, _ => rfl
 | .sl a b c d f, .sl a' b' c' d' f', h => by simp [beqV] at h; obtain ⟨⟨⟨⟨rfl, rfl⟩, rfl⟩, rfl⟩, rfl⟩ := h; rfl
 | .imm a, .imm b, h => by simp only [beqV] at h; rw [beqVss_eq h]
 | .agg a, .agg b, h => by simp only [beqV] at h; rw [beqVs_eq h]
 | .tup a, .tup b, h => by simp only [beqV] at h; rw [beqVs_eq h]
 | .nili, .nili, _ => rfl
 | .iface t a, .iface u b, h => by simp [beqV] at h; rw [h.1, beqV_eq h.2]
 | .nilf, .nilf, _ => rfl
 | .func f a b, .func g c d, h => by simp [beqV] at h; rw [h.1.1, beqVs_eq h.1.2, beqVs_eq h.2]
 | .nilm, .nilm, _ => rfl
 | .mp a, .mp b, h => by simp [beqV] at h; rw [h]
 | .res a b, .res c d, h => by simp [beqV] at h; rw [h.1, h.2]
theorem beqVs_eq : ∀ {a b : List V}, beqVs a b = true → a = b
 | [], [], _ => rfl
 | a :: x, b :: y, h => by simp only [beqVs, Bool.and_eq_true] at h; rw [beqV_eq h.1, beqVs_eq h.2]
theorem beqVss_eq : ∀ {a b : List (List V)}, beqVss a b = true → a = b
 | [], [], _ => rfl
 | a :: x, b :: y, h => by simp only [beqVss, Bool.and_eq_true] at h; rw [beqVs_eq h.1, beqVss_eq h.2]
end
theorem runOp_congr {ρ ρ' : Operand → Option V} {o : Oper} {fr : Option Nat} {S : St} (h : ∀ x ∈ o.op.operands, ρ x = ρ' x) : runOp P call ρ o fr S = runOp P call ρ' o fr S := by
 unfold runOp
 rw [evalOp_congr h]
end
end
section
section
variable {P : Program} {call : Call} {n : Nat} {ops : Array Oper}
structure Inv (P : Program) (n : Nat) (ops : Array Oper) (F : Nat → Option Obj) (G : Gh) (S : St) (W : World) (e : Env) (fs : List Frm) (ds : List Deferred) (E : Nat → Bool) (a : Act) (W' : World) (G' : Gh) : Prop where
 le : G.le G'
 rel : RelH F G' (nxF P E fs (S.next + ops.size)) (fun x => hpF P S.next E x fs (S.heap.get x)) W'.heap
 same : Same W W'
 res : ∀ f ∈ fs, E f.i = false → G'.loc (S.next + f.i) = none ∧ G'.ml (S.next + f.i) = none
 size : a.tmps.size = n
 env : ∀ t v, svF E t fs (e.get t) = some v → ∃ w, a.tmps[t]? = some w ∧ VR G' v w
 defers : a.defers = ds
 keep : ∀ k, k < S.next → S.heap.get k = none → G'.loc k = G.loc k ∧ G'.ml k = G.ml k
 prs : ∀ i, G'.pr i = G.pr i
 big : S.next + ops.size ≤ nxF P E fs (S.next + ops.size)
 dead : ∀ k, k < S.next → S.heap.get k = none → hpF P S.next E k fs (S.heap.get k) = none
set_option maxHeartbeats 2000000 in
theorem inv_step (hc : CallOK P call) (hn : n < lim) {F : Nat → Option Obj} {G : Gh} {S : St} {W : World} {e : Env} {tmps0 : Array Value} (R0 : Rel F G S W.heap) (he0 : EnvR G n e tmps0)
  {steps : List Step} {e' : Env} {S' : St} {fs : List Frm} (hD : DR P call n ops S.next steps [] e ⟨S.next + ops.size, S.heap⟩ fs e' S') {b : Array Nat} (hp : PlanF P ops b fs) {ds : List Deferred}
  {E : Nat → Bool} {a : Act} {W' : World} {G' : Gh} (I : Inv P n ops F G S W e fs ds E a W' G') (_hE : ∀ j, E j = true → j < ops.size)
  (hdown : ∀ f ∈ fs, E f.i = true → ∀ j, j < ops.size → bitB (b.getD f.i 0) j = true → E j = true)
  {i : Nat} {o : Oper} (ho : ops[i]? = some o) (hi : E i = false) (hready : ∀ x ∈ o.after, Region.binds .any x = true → E x.on = true)
  {Q : Exit → Act → World → Prop} {K : Act → World → Prop} (hK : ∀ a2 W2 G2, Inv P n ops F G S W e fs ds (fun j => if j = i then true else E j) a2 W2 G2 → K a2 W2) :
  wpOp P ops Q i K a W' ∧ ∀ j, j < ops.size → bitB (b.getD i 0) j = true → E j = true := by
 obtain ⟨hup, _, _, _⟩ := hD.upto hn
 have hisz : i < ops.size := (Array.getElem?_eq_some_iff.1 ho).1
 obtain ⟨f, hf, hfi⟩ := hp.all i hisz
 obtain ⟨pre, post, hs⟩ := List.append_of_mem hf
 subst hfi
 obtain ⟨u1, u2, u3, u4, u5⟩ := hup pre f post hs
 rw [ho] at u1; cases u1
 have hfsz : ∀ g ∈ fs, g.i < ops.size := by
  intro g hg
  obtain ⟨l1, l2, h12⟩ := List.append_of_mem hg
  exact (Array.getElem?_eq_some_iff.1 (hup l1 g l2 h12).1).1
 have hlt : ∀ g ∈ fs, S.next + g.i < S.next + ops.size := fun g hg => by have := hfsz g hg; omega
 have hfresh : ∀ k, S.next ≤ k → G.loc k = none ∧ G.ml k = none := R0.fresh
 have R0' : Rel F G ⟨S.next + ops.size, S.heap⟩ W.heap :=
  ⟨fun x hx => R0.fresh x (by have : S.next + ops.size ≤ x := hx; omega), R0.sep, R0.blk, R0.inj, R0.fr, R0.pr, R0.own, R0.lt, R0.small⟩
 obtain ⟨hres, _, _⟩ := hD.reserved hc hn R0' he0 hp.nodup (fun g hg => ⟨hlt g hg, (hfresh _ (by omega)).1, (hfresh _ (by omega)).2⟩)
 have hanc : ∀ j, j < ops.size → bitB (b.getD f.i 0) j = true → E j = true := by
  intro j hj hb
  obtain ⟨x, hx, hbx, hor⟩ := hp.anc pre f post hs j hj hb
  have hEx := hready x hx hbx
  rcases hor with rfl | hor
  ·exact hEx
  ·obtain ⟨g, hg, hge⟩ := hp.edge pre f post hs x hx hbx
   have hgf : g ∈ fs := by rw [hs]; exact List.mem_append_left _ hg
   exact hdown g hgf (by rw [hge]; exact hEx) j hj (by rw [hge]; exact hor)
 refine ⟨?_, hanc⟩
 have hnd := hp.nodup
 have hpre_ne : ∀ g ∈ pre, g.i ≠ f.i := by
  intro g hg e0
  rw [hs] at hnd
  simp only [List.map_append, List.map_cons] at hnd
  exact (List.nodup_append.1 hnd).2.2 g.i (List.mem_map.2 ⟨g, hg, rfl⟩) f.i (by simp) e0
 have hpost_ne : ∀ g ∈ post, g.i ≠ f.i := by
  intro g hg e0
  rw [hs] at hnd
  simp only [List.map_append, List.map_cons] at hnd
  have := (List.nodup_append.1 hnd).2.1
  exact (List.nodup_cons.1 this).1 (List.mem_map.2 ⟨g, hg, e0⟩)
 have hpost : ∀ g ∈ post, E g.i = true → ∃ p1 p2, post = p1 ++ g :: p2 ∧ fs = (pre ++ f :: p1) ++ g :: p2 ∧
   apartB ops g.o f.o = true ∧ ¬ (cls P f.o.op = 3 ∧ cls P g.o.op = 3) ∧ ¬ (cls P f.o.op = 2 ∧ cls P g.o.op = 3) ∧ (cls P f.o.op = 1 → cls P g.o.op = 3 → f.i ∈ g.re) := by
  intro g hg hEg
  obtain ⟨p1, p2, rfl⟩ := List.append_of_mem hg
  have hsg : fs = (pre ++ f :: p1) ++ g :: p2 := by rw [hs]; simp
  refine ⟨p1, p2, rfl, hsg, ?_⟩
  rcases hp.pair _ g p2 hsg f (by simp) with h1 | ⟨h1, h2, h3, _, _, h6⟩
  ·have := hdown g (by rw [hs]; simp) hEg f.i hisz h1
   rw [hi] at this; cases this
  ·exact ⟨h1, h2, h3, h6⟩
 have hpre_w : ∀ t ∈ f.o.looksAt ops, ∀ g ∈ pre, g.o.dst = some t → E g.i = true := by
  intro t ht g hg hd
  rcases hp.pair pre f post hs g hg with h1 | ⟨h1, _⟩
  ·exact hanc g.i (hfsz g (by rw [hs]; exact List.mem_append_left _ hg)) h1
  ·exact absurd ht ((apartB_spec h1).2.2 t hd)
 have hpost_w : ∀ t ∈ f.o.looksAt ops, ∀ g ∈ post, g.o.dst = some t → E g.i = false := by
  intro t ht g hg hd
  cases hEg : E g.i with
  | false => rfl
  | true =>
   obtain ⟨_, _, _, _, h1, _⟩ := hpost g hg hEg
   exact absurd ht ((apartB_spec h1).1 t hd)
 have hslot : ∀ t ∈ f.o.looksAt ops, svF E t fs (e.get t) = f.e.get t := by
  intro t ht
  rw [hs, svF_append]
  simp only [svF, hi, Bool.false_eq_true, false_and, if_false]
  rw [svF_none (hpost_w t ht), svF_congr (E' := fun _ => true) (fun g hg hd => hpre_w t ht g hg hd)]
  exact u4 t
 have henv : ∀ t ∈ f.o.looksAt ops, ∀ v, f.e.get t = some v → ∃ w, a.tmps[t]? = some w ∧ VR G' v w := fun t ht v hv => I.env t v (by rw [hslot t ht]; exact hv)
 let E' : Nat → Bool := fun j => if j = f.i then true else E j
 have hE'f : E' f.i = true := by simp [E']
 have hE'ne : ∀ g : Frm, g.i ≠ f.i → E' g.i = E g.i := fun g hg => by simp [E', hg]
 have hEpre : ∀ x acc, hpF P S.next E' x pre acc = hpF P S.next E x pre acc := fun x acc => hpF_congr (fun g hg _ => hE'ne g (hpre_ne g hg)) acc
 have hEpost : ∀ x acc, hpF P S.next E' x post acc = hpF P S.next E x post acc := fun x acc => hpF_congr (fun g hg _ => hE'ne g (hpost_ne g hg)) acc
 have hhp' : ∀ x, hpF P S.next E' x fs (S.heap.get x) =
   hpF P S.next E x post (if cls P f.o.op = 3 ∨ (cls P f.o.op = 2 ∧ x = S.next + f.i) then f.S1.heap.get x else hpF P S.next E x pre (S.heap.get x)) := by
  intro x
  rw [hs, hpF_append]
  simp only [hpF, hE'f, true_and]
  rw [hEpost, hEpre]
 have hhp : ∀ x, hpF P S.next E x fs (S.heap.get x) = hpF P S.next E x post (hpF P S.next E x pre (S.heap.get x)) := by
  intro x
  rw [hs, hpF_append]
  simp only [hpF, hi, Bool.false_eq_true, false_and, if_false]
 have hnx' : nxF P E' fs (S.next + ops.size) = nxF P E post (if cls P f.o.op = 3 then f.S1.next else nxF P E pre (S.next + ops.size)) := by
  rw [hs, nxF_append]
  simp only [nxF, hE'f, true_and]
  rw [nxF_congr (E := E') (E' := E) (fun g hg _ => hE'ne g (hpost_ne g hg)), nxF_congr (E := E') (E' := E) (fun g hg _ => hE'ne g (hpre_ne g hg))]
 have hnx : nxF P E fs (S.next + ops.size) = nxF P E post (nxF P E pre (S.next + ops.size)) := by
  rw [hs, nxF_append]
  simp only [nxF, hi, Bool.false_eq_true, false_and, if_false]
 have hnewenv : ∀ (v : V) (w : Value) (G2 : Gh), G'.le G2 → putDst n f.e f.o.dst v = .ok f.e1 → VR G2 v w →
   (a.put f.o.dst w).tmps.size = n ∧ ∀ t u, svF E' t fs (e.get t) = some u → ∃ w', (a.put f.o.dst w).tmps[t]? = some w' ∧ VR G2 u w' := by
  intro v w G2 hle hput hv
  refine ⟨by cases hd : f.o.dst <;> simp [Act.put, I.size], fun t u hu => ?_⟩
  by_cases hd : f.o.dst = some t
  ·have hpw : ∀ g ∈ post, g.o.dst = some t → E' g.i = false := by
    intro g hg hgd
    rw [hE'ne g (hpost_ne g hg)]
    cases hEg : E g.i with
    | false => rfl
    | true =>
     obtain ⟨_, _, _, _, h1, _⟩ := hpost g hg hEg
     exact absurd hd ((apartB_spec h1).2.1 t hgd)
   rw [hs, svF_append] at hu
   simp only [svF, hE'f, hd, true_and, if_true] at hu
   rw [svF_none hpw, put_get hn hput hd] at hu
   cases hu
   have htn : t < n := by
    unfold putDst at hput
    rw [hd] at hput
    simp only [cond_eq_ite] at hput
    split at hput
    ·rename_i hq; simpa using hq
    ·cases hput
   exact ⟨w, by simp only [Act.put, hd]; rw [Array.getElem?_setIfInBounds_self_of_lt (by rw [I.size]; exact htn)], hv⟩
  ·have : svF E' t fs (e.get t) = svF E t fs (e.get t) := svF_congr (fun g hg hgd => hE'ne g (fun e0 => by
    have : g = f := by
     rw [hs] at hg
     rcases List.mem_append.1 hg with h1 | h1
     ·exact absurd e0 (hpre_ne g h1)
     ·rcases List.mem_cons.1 h1 with rfl | h1
      ·rfl
      ·exact absurd e0 (hpost_ne g h1)
    subst this
    exact hd hgd)) _
   rw [this] at hu
   obtain ⟨w', w1, w2⟩ := I.env t u hu
   refine ⟨w', ?_, w2.mono hle⟩
   cases hfd : f.o.dst with
   | none => simpa [Act.put, hfd] using w1
   | some d =>
    simp only [Act.put]
    rw [Array.getElem?_setIfInBounds_ne (fun e0 => hd (by rw [hfd, e0]))]
    exact w1
 have hdefers : ∀ w, (a.put f.o.dst w).defers = ds := by
  intro w
  cases hd : f.o.dst <;> simp [Act.put, I.defers]
 have hres' : ∀ G2 : Gh, (∀ k, hpF P S.next E k fs (S.heap.get k) = none → k < nxF P E fs (S.next + ops.size) → some (S.next + f.i) ≠ some k → (G2.loc k = G'.loc k ∧ G2.ml k = G'.ml k)) →
   (∀ g ∈ fs, E' g.i = false → G2.loc (S.next + g.i) = none ∧ G2.ml (S.next + g.i) = none) ∧ (∀ k, k < S.next → S.heap.get k = none → G2.loc k = G.loc k ∧ G2.ml k = G.ml k) := by
  intro G2 hkeep
  have hge := I.big
  refine ⟨fun g hg hEg => ?_, fun k hk hk0 => ?_⟩
  ·have hgf : g.i ≠ f.i := fun e0 => by rw [e0, hE'f] at hEg; cases hEg
   rw [hE'ne g hgf] at hEg
   obtain ⟨r1, r2⟩ := I.res g hg hEg
   have hnone : hpF P S.next E (S.next + g.i) fs (S.heap.get (S.next + g.i)) = none := by
    cases hq : hpF P S.next E (S.next + g.i) fs (S.heap.get (S.next + g.i)) with
    | none => rfl
    | some bl =>
     obtain ⟨j, hj⟩ := (I.rel.blk _ bl hq).next
     rcases hj with ⟨L, hL, _⟩ | hj
     ·rw [r1] at hL; cases hL
     ·rw [r2] at hj; cases hj
   obtain ⟨k1, k2⟩ := hkeep _ hnone (by have := hlt g hg; omega) (by intro e0; have := Option.some.inj e0; omega)
   exact ⟨k1.trans r1, k2.trans r2⟩
  ·obtain ⟨k1, k2⟩ := hkeep k (I.dead k hk hk0) (by omega) (by intro e0; have := Option.some.inj e0; omega)
   obtain ⟨l1, l2⟩ := I.keep k hk hk0
   exact ⟨k1.trans l1, k2.trans l2⟩
 have hfree : hpF P S.next E (S.next + f.i) fs (S.heap.get (S.next + f.i)) = none := by
  obtain ⟨r1, r2⟩ := I.res f hf hi
  cases hq : hpF P S.next E (S.next + f.i) fs (S.heap.get (S.next + f.i)) with
  | none => rfl
  | some bl =>
   obtain ⟨j, hj⟩ := (I.rel.blk _ bl hq).next
   rcases hj with ⟨L, hL, _⟩ | hj
   ·rw [r1] at hL; cases hL
   ·rw [r2] at hj; cases hj
 have finish : ∀ (v : V) (Sr S1r : St), putDst n f.e f.o.dst v = .ok f.e1 → wanted ops f.o f.e = .ok true → runOp P call (ev f.e) f.o (some (S.next + f.i)) Sr = .ok (v, S1r) →
   Sr.next = nxF P E fs (S.next + ops.size) → (∀ x bl, Sr.heap.get x = some bl → hpF P S.next E x fs (S.heap.get x) = some bl) → S1r.next = nxF P E' fs (S.next + ops.size) →
   (∀ x bl, hpF P S.next E' x fs (S.heap.get x) = some bl → joined (fun x => hpF P S.next E x fs (S.heap.get x)) Sr S1r x = some bl) → wpOp P ops Q f.i K a W' := by
  intro v Sr S1r hput hw hrun hn1 hsub hn2 hj
  obtain ⟨r1, r2⟩ := I.res f hf hi
  refine run_framed hc ho (ρ := only ops f.o f.e) (by rw [← runOp_congr (only_congr f.o f.e)]; exact hrun) I.rel hn1 hsub
   (fun k hk => by cases hk; exact ⟨Nat.lt_of_lt_of_le (hlt f hf) I.big, r1, r2⟩) (wanted_sound' hw henv) (only_sound henv) ?_
  intro G2 W2 w h1 h2 h3 h4 h5 h6 h7
  obtain ⟨e1, e2⟩ := hnewenv v w G2 h1 hput h7
  obtain ⟨q1, q2⟩ := hres' G2 (fun k hk1 hk2 hk3 => (h5 k hk1 hk2 hk3).1)
  rw [hn2] at h2 h4
  refine hK _ W2 G2 ⟨Gh.le_trans I.le h1, h2.drop hj, I.same.trans h3, q1, e1, e2, hdefers w, q2, fun i => (h6 i).trans (I.prs i), Nat.le_trans I.big h4, fun k hk hk0 => ?_⟩
  cases hq : hpF P S.next E' k fs (S.heap.get k) with
  | none => rfl
  | some bl =>
   have := (h5 k (I.dead k hk hk0) (by have := I.big; omega) (by intro e0; have := Option.some.inj e0; omega)).2
   rw [hj k bl hq] at this; cases this
 have hpre3 : cls P f.o.op = 3 ∨ cls P f.o.op = 1 → ∀ g ∈ pre, 2 ≤ cls P g.o.op → E g.i = true := by
  intro hcl g hg h2
  have hle := cls_le (P := P) g.o.op
  rcases hp.pair pre f post hs g hg with h1 | ⟨_, h3, h4, h5, h6, _⟩
  ·exact hanc g.i (hfsz g (by rw [hs]; exact List.mem_append_left _ hg)) h1
  ·omega
 have hpost3 : cls P f.o.op = 2 ∨ cls P f.o.op = 3 → ∀ g ∈ post, cls P g.o.op = 3 → E g.i = false := by
  intro hcl g hg h3
  cases hEg : E g.i with
  | false => rfl
  | true =>
   obtain ⟨_, _, _, _, _, h1, h2, _⟩ := hpost g hg hEg
   omega
 have hup3 : cls P f.o.op = 3 ∨ cls P f.o.op = 1 → (∀ x, hpF P S.next E x pre (S.heap.get x) = f.S.heap.get x) ∧ nxF P E pre (S.next + ops.size) = f.S.next := fun hcl => u5 E (hpre3 hcl)
 have hpart : (cls P f.o.op = 3 ∨ cls P f.o.op = 1) → (∀ g ∈ post, cls P g.o.op = 3 → E g.i = false) →
   f.S.next = nxF P E fs (S.next + ops.size) ∧ ∀ x bl, f.S.heap.get x = some bl → hpF P S.next E x fs (S.heap.get x) = some bl := by
  intro hcl hno
  obtain ⟨p1, p2⟩ := hup3 hcl
  refine ⟨by rw [hnx, p2, nxF_none hno], fun x bl hx => ?_⟩
  rw [hhp, p1, hx]
  rcases hpF_post (P := P) (base := S.next) (a := x) hno with ⟨⟨g, hg, _, _, h3⟩, _⟩ | ⟨_, h2⟩
  ·have := (hres pre f post hs g (List.mem_cons_of_mem _ hg)).1
   rw [← h3, hx] at this; cases this
  ·exact h2 _
 have hcle := cls_le (P := P) f.o.op
 rcases stepOp_cases u2 with ⟨hw, hput, hS⟩ | ⟨hw, v, hrun, hput⟩
 ·
  unfold wpOp
  simp only [ho]
  rw [wanted_sound' hw henv]
  simp only [Bool.false_eq_true, if_false]
  obtain ⟨e1, e2⟩ := hnewenv (.tup []) undef G' (Gh.le_refl _) hput (undef_VR G')
  obtain ⟨q1, q2⟩ := hres' G' (fun _ _ _ _ => ⟨rfl, rfl⟩)
  have hnxe : nxF P E' fs (S.next + ops.size) = nxF P E fs (S.next + ops.size) := by
   rw [hnx', hnx]
   split
   ·rename_i h3; rw [(hup3 (.inl h3)).2, hS]
   ·rfl
  have hsub : ∀ x bl, hpF P S.next E' x fs (S.heap.get x) = some bl → hpF P S.next E x fs (S.heap.get x) = some bl := by
   intro x bl hx
   rw [hhp'] at hx
   rw [hhp]
   split at hx
   ·rename_i h3
    rcases h3 with h3 | ⟨h3, rfl⟩
    ·rw [hS, ← (hup3 (.inl h3)).1] at hx; exact hx
    ·have := (hres pre f post hs f (List.mem_cons_self ..)).1
     rw [hS, this] at hx
     exact hpF_ind hx _
   ·exact hx
  refine hK _ W' G' ⟨I.le, ?_, I.same, q1, e1, e2, hdefers undef, q2, I.prs, by rw [hnxe]; exact I.big, fun k hk hk0 => ?_⟩
  ·rw [hnxe]; exact I.rel.drop hsub
  ·cases hq : hpF P S.next E' k fs (S.heap.get k) with
   | none => rfl
   | some bl => rw [← hsub k bl hq]; exact I.dead k hk hk0
 ·have h4 : cls P f.o.op = 0 ∨ cls P f.o.op = 1 ∨ cls P f.o.op = 2 ∨ cls P f.o.op = 3 := by omega
  have hsame : cls P f.o.op ≤ 1 → (∀ x, hpF P S.next E' x fs (S.heap.get x) = hpF P S.next E x fs (S.heap.get x)) ∧ nxF P E' fs (S.next + ops.size) = nxF P E fs (S.next + ops.size) := by
   intro hcl
   refine ⟨fun x => ?_, ?_⟩
   ·rw [hhp', hhp, if_neg (by omega)]
   ·rw [hnx', hnx, if_neg (by omega)]
  rcases h4 with h0 | h1 | h2 | h3
  ·
   have hev : evalOp P (ev f.e) f.o (some (S.next + f.i)) f.S = .ok (.val v f.S) ∧ ∀ fr' S', evalOp P (ev f.e) f.o fr' S' = .ok (.val v S') := by
    unfold runOp at hrun
    cases he : evalOp P (ev f.e) f.o (some (S.next + f.i)) f.S with
    | error w => rw [he] at hrun; cases hrun
    | ok r =>
     rw [he] at hrun
     obtain ⟨v', h5, h6⟩ := cls0 h0 he
     subst h5
     obtain ⟨e1, e2⟩ := Prod.mk.inj (Except.ok.inj hrun)
     subst e1
     exact ⟨rfl, h6⟩
   obtain ⟨s1, s2⟩ := hsame (by omega)
   refine finish v ⟨nxF P E fs (S.next + ops.size), .nil⟩ ⟨nxF P E fs (S.next + ops.size), .nil⟩ hput hw (by unfold runOp; rw [hev.2]) rfl (fun x bl hx => by cases hx) s2.symm (fun x bl hx => ?_)
   rw [s1] at hx
   unfold joined
   rw [if_pos ⟨rfl, bl, hx⟩]; exact hx
  ·
   obtain ⟨d, hd⟩ := hp.rd f hf h1
   have hev : evalOp P (ev f.e) f.o (some (S.next + f.i)) f.S = .ok (.val v f.S) := by
    unfold runOp at hrun
    cases he : evalOp P (ev f.e) f.o (some (S.next + f.i)) f.S with
    | error w => rw [he] at hrun; cases hrun
    | ok r =>
     rw [he] at hrun
     obtain ⟨v', h5, h6⟩ := cls1 h1 he
     subst h5
     obtain ⟨e1, e2⟩ := Prod.mk.inj (Except.ok.inj hrun)
     subst e1
     rfl
   obtain ⟨s1, s2⟩ := hsame (by omega)
   have go : ∀ Sr : St, evalOp P (ev f.e) f.o (some (S.next + f.i)) Sr = .ok (.val v Sr) → Sr.next = nxF P E fs (S.next + ops.size) →
     (∀ x bl, Sr.heap.get x = some bl → hpF P S.next E x fs (S.heap.get x) = some bl) → wpOp P ops Q f.i K a W' := by
    intro Sr hevr hnr hsubr
    refine finish v Sr Sr hput hw (by unfold runOp; rw [hevr]) hnr hsubr (by rw [s2]; exact hnr) (fun x bl hx => ?_)
    rw [s1] at hx
    unfold joined
    cases hq : Sr.heap.get x with
    | none => rw [if_pos ⟨rfl, bl, hx⟩]; exact hx
    | some c =>
     rw [if_neg (by simp)]
     rw [← hsubr x c hq, hx]
   by_cases hno : ∀ g ∈ post, cls P g.o.op = 3 → E g.i = false
   ·obtain ⟨p1, p2⟩ := hpart (.inr h1) hno
    exact go f.S hev p1 p2
   ·obtain ⟨p1, g, p2, hpp, hEg, hg3, hlast⟩ : ∃ p1 g p2, post = p1 ++ g :: p2 ∧ E g.i = true ∧ cls P g.o.op = 3 ∧ ∀ k ∈ p2, cls P k.o.op = 3 → E k.i = false := by
     clear hres hpost hpost_w hpost_ne hEpost hpost3 hpart hup hs hnx' hnx hhp hhp' hnewenv
     induction post with
     | nil => exact absurd (fun g hg => by cases hg) hno
     | cons g post ih =>
      by_cases hno2 : ∀ k ∈ post, cls P k.o.op = 3 → E k.i = false
      ·refine ⟨[], g, post, rfl, ?_, ?_, hno2⟩
       ·cases hq : E g.i with
        | true => rfl
        | false => exact absurd (fun k hk hk3 => by
          rcases List.mem_cons.1 hk with rfl | hk
          ·exact hq
          ·exact hno2 k hk hk3) hno
       ·refine Classical.byContradiction fun hq => hno fun k hk hk3 => ?_
        rcases List.mem_cons.1 hk with rfl | hk
        ·exact absurd hk3 hq
        ·exact hno2 k hk hk3
      ·obtain ⟨p1, g', p2, rfl, h⟩ := ih hno2
       exact ⟨g :: p1, g', p2, rfl, h⟩
    have hgp : g ∈ post := by rw [hpp]; simp
    obtain ⟨_, _, _, _, _, _, _, hre⟩ := hpost g hgp hEg
    have hsg : fs = (pre ++ f :: p1) ++ g :: p2 := by rw [hs, hpp]; simp
    obtain ⟨_, _, hag, _, _⟩ := hup _ g p2 hsg
    have hrec := hD.record pre f post hs d v h1 hw hd (put_get hn hput hd) hpost_ne p1 g p2 hpp
    have hagi : ∀ (l : List Nat), f.i ∈ l → again P ops g.recs g.S1 l = true → evalOp P (ev f.e) f.o (some (S.next + f.i)) g.S1 = .ok (.val v g.S1) := by
     intro l
     induction l with
     | nil => intro h; cases h
     | cons j l ih =>
      intro hm ha
      simp only [again, Bool.and_eq_true] at ha
      rcases List.mem_cons.1 hm with e0 | hm
      ·subst e0
       have ha1 := ha.1
       rw [hrec] at ha1
       simp only [ho] at ha1
       split at ha1
       ·rename_i v' S2 hq
        have := beqV_eq ha1
        subst this
        obtain ⟨v2, h5, h6⟩ := cls1 h1 hq
        cases h5
        exact h6 _
       ·cases ha1
      ·exact ih hm ha.2
    refine go g.S1 (hagi g.re (hre h1 hg3) hag) ?_ (fun x bl hx => ?_)
    ·rw [hsg, nxF_append]
     simp only [nxF, hEg, hg3, and_self, if_true]
     rw [nxF_none hlast]
    ·rw [hsg, hpF_append]
     simp only [hpF, hEg, hg3, true_and, true_or, if_true]
     rcases hpF_post (P := P) (base := S.next) (a := x) hlast with ⟨⟨k, hk, _, _, h5⟩, _⟩ | ⟨_, h5⟩
     ·have := (hres _ g p2 hsg k (List.mem_cons_of_mem _ hk)).2 hk
      rw [← h5, hx] at this; cases this
     ·rw [h5]; exact hx
  ·
   have hev : ∃ bl, S.next + f.i < blim (S.next + f.i) ∧ f.S1 = ⟨f.S.next, f.S.heap.put (S.next + f.i) bl⟩ ∧ ∀ S', evalOp P (ev f.e) f.o (some (S.next + f.i)) S' = .ok (.val v ⟨S'.next, S'.heap.put (S.next + f.i) bl⟩) := by
    unfold runOp at hrun
    cases he : evalOp P (ev f.e) f.o (some (S.next + f.i)) f.S with
    | error w => rw [he] at hrun; cases hrun
    | ok r =>
     rw [he] at hrun
     obtain ⟨v', bl, h5, h6, h7⟩ := cls2 h2 he
     subst h6
     obtain ⟨e1, e2⟩ := Prod.mk.inj (Except.ok.inj hrun)
     subst e1
     exact ⟨bl, h5, e2.symm, h7⟩
   obtain ⟨bl, hkl, hS1, hev⟩ := hev
   have hnxe : nxF P E' fs (S.next + ops.size) = nxF P E fs (S.next + ops.size) := by rw [hnx', hnx, if_neg (by omega)]
   refine finish v ⟨nxF P E fs (S.next + ops.size), .nil⟩ ⟨nxF P E fs (S.next + ops.size), Tr.nil.put (S.next + f.i) bl⟩ hput hw (by unfold runOp; rw [hev]) rfl (fun x bl hx => by cases hx) hnxe.symm (fun x b' hx => ?_)
   rw [hhp'] at hx
   by_cases hxk : x = S.next + f.i
   ·subst hxk
    rw [if_pos (.inr ⟨h2, rfl⟩), hS1] at hx
    simp only [Tr.get_put_sameB _ _ _ hkl] at hx
    unfold joined
    rw [if_neg (by
     rintro ⟨_, b2, hb2⟩
     have hb3 : hpF P S.next E (S.next + f.i) fs (S.heap.get (S.next + f.i)) = some b2 := hb2
     rw [hfree] at hb3; cases hb3)]
    simp only [Tr.get_put_sameB _ _ _ hkl]
    rcases hpF_post (P := P) (base := S.next) (a := S.next + f.i) (hpost3 (.inl h2)) with ⟨⟨g, hg, _, _, h5⟩, _⟩ | ⟨_, h5⟩
    ·exact absurd (by omega) (hpost_ne g hg)
    ·rw [h5] at hx; exact hx
   ·rw [if_neg (by rintro (q | ⟨_, q⟩); omega; exact hxk q), ← hhp] at hx
    unfold joined
    rw [if_pos ⟨rfl, b', hx⟩]; exact hx
  ·
   have hno := hpost3 (.inr h3)
   obtain ⟨p1, p2⟩ := hpart (.inl h3) hno
   refine finish v f.S f.S1 hput hw hrun p1 p2 (by rw [hnx', if_pos h3, nxF_none hno]) (fun x bl hx => ?_)
   rw [hhp', if_pos (.inl h3)] at hx
   have hpx : hpF P S.next E x fs (S.heap.get x) = hpF P S.next E x post (f.S.heap.get x) := by rw [hhp, (hup3 (.inl h3)).1]
   unfold joined
   rcases hpF_post (P := P) (base := S.next) (a := x) hno with ⟨⟨g, hg, _, _, h5⟩, h6⟩ | ⟨_, h6⟩
   ·have hd0 := (hres pre f post hs g (List.mem_cons_of_mem _ hg)).1
    rw [← h5] at hd0
    rw [h6 _ (f.S.heap.get x)] at hx
    rw [if_pos ⟨hd0, bl, hpx.trans hx⟩]; exact hpx.trans hx
   ·rw [h6] at hx
    rw [if_neg (by
     rintro ⟨q, b2, q2⟩
     have q3 : hpF P S.next E x fs (S.heap.get x) = some b2 := q2
     rw [hpx, h6, q] at q3; cases q3)]
    exact hx
end
end
section
section
variable {P : Program} {call : Call} {n : Nat} {ops : Array Oper}
theorem filter_lt {p q : Nat → Bool} : ∀ {l : List Nat}, (∀ x ∈ l, q x = true → p x = true) → ∀ {i : Nat}, i ∈ l → p i = true → q i = false → (l.filter q).length < (l.filter p).length := by
 have hle : ∀ {l : List Nat}, (∀ x ∈ l, q x = true → p x = true) → (l.filter q).length ≤ (l.filter p).length := by
  intro l
  induction l with
  | nil => intro _; simp
  | cons x l ih =>
   intro h
   have := ih (fun y hy => h y (List.mem_cons_of_mem _ hy))
   simp only [List.filter_cons]
   cases hq : q x with
   | true => rw [h x (by simp) hq]; simp; omega
   | false => cases p x <;> simp <;> omega
 intro l
 induction l with
 | nil => intro _ i hi; cases hi
 | cons x l ih =>
  intro h i hi hp hq
  have h' := fun y hy => h y (List.mem_cons_of_mem _ hy)
  simp only [List.filter_cons]
  rcases List.mem_cons.1 hi with rfl | hi
  ·rw [hp, hq]
   have := hle h'
   simp; omega
  ·have := ih h' hi hp hq
   cases hqx : q x with
   | true => rw [h x (by simp) hqx]; simp; omega
   | false => cases p x <;> simp <;> omega
theorem draw_any (hc : CallOK P call) (hn : n < lim) {F : Nat → Option Obj} {G : Gh} {S : St} {W : World} {e : Env} {tmps0 : Array Value} (R0 : Rel F G S W.heap) (he0 : EnvR G n e tmps0)
  {steps : List Step} {e' : Env} {S' : St} {fs : List Frm} (hD : DR P call n ops S.next steps [] e ⟨S.next + ops.size, S.heap⟩ fs e' S') {b : Array Nat} (hp : PlanF P ops b fs) {ds : List Deferred}
  {Q : Exit → Act → World → Prop} (hQ : ∀ G' W' a', Sim F none G S W G' S' W' → EnvR G' n e' a'.tmps → a'.defers = ds → Q .normal a' W') :
  ∀ (fuel : Nat) (listed : Array Bool) (a : Act) (W' : World) (G' : Gh), listed.size = ops.size → Inv P n ops F G S W e fs ds (fun j => listed.getD j false) a W' G' →
   (∀ f ∈ fs, listed.getD f.i false = true → ∀ j, j < ops.size → bitB (b.getD f.i 0) j = true → listed.getD j false = true) →
   ((List.range ops.size).filter fun j => !listed.getD j false).length ≤ fuel → wpAny P .any ops Q fuel listed a W' := by
 obtain ⟨hup, hsv, hhp, _⟩ := hD.upto hn
 have hfsz : ∀ g ∈ fs, g.i < ops.size := by
  intro g hg
  obtain ⟨l1, l2, h12⟩ := List.append_of_mem hg
  exact (Array.getElem?_eq_some_iff.1 (hup l1 g l2 h12).1).1
 have R0' : Rel F G ⟨S.next + ops.size, S.heap⟩ W.heap :=
  ⟨fun x hx => R0.fresh x (by have : S.next + ops.size ≤ x := hx; omega), R0.sep, R0.blk, R0.inj, R0.fr, R0.pr, R0.own, R0.lt, R0.small⟩
 obtain ⟨_, hdead, hnext⟩ := hD.reserved hc hn R0' he0 hp.nodup (fun g hg => ⟨by have := hfsz g hg; show _ < S.next + ops.size; omega, (R0.fresh _ (by omega)).1, (R0.fresh _ (by omega)).2⟩)
 have fin : ∀ (listed : Array Bool) (a : Act) (W' : World) (G' : Gh), Inv P n ops F G S W e fs ds (fun j => listed.getD j false) a W' G' → (∀ f ∈ fs, listed.getD f.i false = true) → Q .normal a W' := by
  intro listed a W' G' I hall
  obtain ⟨q1, q2⟩ := hhp (fun j => listed.getD j false) (fun g hg _ => hall g hg)
  refine hQ G' W' a ⟨I.le, ?_, I.same, ?_, fun x hx hlt _ => I.keep x hlt hx, fun x hx hlt _ => ?_, I.prs⟩ ⟨I.size, fun t v ht => I.env t v ?_⟩ I.defers
  ·have := I.rel
   rw [show nxF P (fun j => listed.getD j false) fs (S.next + ops.size) = S'.next from q2] at this
   exact this.drop (fun x bl hx => by
    show hpF P S.next (fun j => listed.getD j false) x fs (S.heap.get x) = some bl
    rw [q1 x]; exact hx)
  ·have : S.next + ops.size ≤ S'.next := hnext
   omega
  ·exact hdead x (by show x < S.next + ops.size; omega) hx (fun f hf => by omega)
  ·rw [svF_congr (E' := fun _ => true) (fun g hg _ => hall g hg)]
   rw [hsv]; exact ht
 have some_ready : ∀ (listed : Array Bool), listed.size = ops.size → Region.ready .any ops listed = [] → ∀ f ∈ fs, listed.getD f.i false = true := by
  intro listed hsz hr
  have : ∀ (l pre : List Frm), fs = pre ++ l → (∀ g ∈ pre, listed.getD g.i false = true) → ∀ f ∈ l, listed.getD f.i false = true := by
   intro l
   induction l with
   | nil => intro _ _ _ f hf; cases hf
   | cons f l ih =>
    intro pre hs hpre
    have hf : listed.getD f.i false = true := by
     cases hq : listed.getD f.i false with
     | true => rfl
     | false =>
      exfalso
      have hisz := hfsz f (by rw [hs]; simp)
      have hmem : f.i ∈ Region.ready .any ops listed := by
       rw [mem_ready]
       refine ⟨?_, f.o, (hup pre f l hs).1, fun x hx hb => ?_⟩
       ·simp [hsz, hisz] at hq ⊢; exact hq
       ·obtain ⟨g, hg, hge⟩ := hp.edge pre f l hs x hx hb
        rw [← hge]; exact hpre g hg
      rw [hr] at hmem; cases hmem
    intro g hg
    rcases List.mem_cons.1 hg with rfl | hg
    ·exact hf
    ·refine ih (pre ++ [f]) (by simpa using hs) (fun g hg => ?_) g hg
     rcases List.mem_append.1 hg with hg | hg
     ·exact hpre g hg
     ·simp at hg; subst hg; exact hf
  exact this fs [] rfl (by simp)
 intro fuel
 induction fuel with
 | zero =>
  intro listed a W' G' hsz I hdown hcnt
  have hnone : ∀ j, j < ops.size → listed.getD j false = true := by
   intro j hj
   have := List.eq_nil_of_length_eq_zero (Nat.le_zero.1 hcnt)
   cases hq : listed.getD j false with
   | true => rfl
   | false =>
    have hm : j ∈ (List.range ops.size).filter fun j => !listed.getD j false := List.mem_filter.2 ⟨List.mem_range.2 hj, by simp only [hq]; rfl⟩
    rw [this] at hm; cases hm
  refine ⟨?_, fin listed a W' G' I (fun f hf => hnone _ (hfsz f hf))⟩
  refine List.eq_nil_iff_forall_not_mem.2 fun j hj => ?_
  obtain ⟨h0, o, ho, _⟩ := mem_ready.1 hj
  have hjs := (Array.getElem?_eq_some_iff.1 ho).1
  have := hnone j hjs
  simp [hsz, hjs] at this h0
  rw [this] at h0; cases h0
 | succ fuel ih =>
  intro listed a W' G' hsz I hdown hcnt
  refine ⟨fun hr => fin listed a W' G' I (some_ready listed hsz hr), fun i hi => ?_⟩
  obtain ⟨h0, o, ho, hready⟩ := mem_ready.1 hi
  have hisz := (Array.getElem?_eq_some_iff.1 ho).1
  have hif : listed.getD i false = false := by
   simp [hsz, hisz] at h0 ⊢; exact h0
  have hset : ∀ j, (listed.setIfInBounds i true).getD j false = if j = i then true else listed.getD j false := by
   intro j
   by_cases hj : j = i
   ·subst hj; simp [hsz, hisz]
   ·rw [if_neg hj]; exact getD_set_ne false (Ne.symm hj)
  have hlt : ∀ j, listed.getD j false = true → j < ops.size := fun j hj => by
    rcases Nat.lt_or_ge j listed.size with q | q
    ·omega
    ·simp [Array.getElem?_eq_none q] at hj
  have hanc := (inv_step hc hn R0 he0 hD hp I hlt hdown ho hif hready (Q := Q) (K := fun _ _ => True) (fun _ _ _ _ => trivial)).2
  refine (inv_step hc hn R0 he0 hD hp I hlt hdown ho hif hready (Q := Q) (K := wpAny P .any ops Q fuel (listed.setIfInBounds i true)) ?_).1
  intro a2 W2 G2 I2
  refine ih _ a2 W2 G2 (by simpa using hsz) ?_ ?_ ?_
  ·have : (fun j => (listed.setIfInBounds i true).getD j false) = fun j => if j = i then true else listed.getD j false := funext hset
   rw [this]; exact I2
  ·intro f hf hE j hj hb
   rw [hset] at hE ⊢
   split
   ·rfl
   ·split at hE
    ·rename_i hfi
     rw [hfi] at hb
     exact hanc j hj hb
    ·exact hdown f hf hE j hj hb
  ·have : ((List.range ops.size).filter fun j => !(listed.setIfInBounds i true).getD j false).length < ((List.range ops.size).filter fun j => !listed.getD j false).length := by
    refine filter_lt (fun x _ hx => ?_) (List.mem_range.2 hisz) ?_ ?_
    ·simp only [hset] at hx
     split at hx
     ·simp at hx
     ·exact hx
    ·simp only [hif]; rfl
    ·simp only [hset, if_true]; rfl
   omega
end
end
section
section
variable {P : Program} {call : Call} {n : Nat}
def Ex.to : Ex → Exit
 | .normal => .normal
 | .exit id => .exit id
 | .ret => .ret
theorem hpF_none {base : Nat} {E : Nat → Bool} (hE : ∀ j, E j = false) {a : Nat} : ∀ (l : List Frm) (acc : Option Blk), hpF P base E a l acc = acc
 | [], _ => rfl
 | f :: l, acc => by simp only [hpF, hE]; simp; exact hpF_none hE l acc
theorem draw_sound (hc : CallOK P call) (hm : P.follows .mixedOrders = true) (hn : n < lim) {ops : Array Oper} {steps : List Step} (hp : planOK P ops steps = true) {F : Nat → Option Obj} {e e' : Env} {S S' : St}
  (h : draw P call n ops steps e S = .ok (e', S')) {G : Gh} {W : World} (R : Rel F G S W.heap) {a : Act} (he : EnvR G n e a.tmps) {id : Nat}
  {Q : Exit → Act → World → Prop} (hQ : ∀ G' W' a', Sim F none G S W G' S' W' → EnvR G' n e' a'.tmps → a'.defers = a.defers → Q .normal a' W') :
  (Code.region id ops true).wp P Q a W := by
 obtain ⟨fs, hD⟩ := drawGo_DR h
 obtain ⟨hup, _, _, hst⟩ := hD.upto hn
 simp only [planOK, Bool.and_eq_true, List.all_eq_true, List.any_eq_true] at hp
 obtain ⟨hp1, hp2⟩ := hp
 have hops : ∀ f ∈ fs, ops[f.i]? = some f.o := by
  intro f hf
  obtain ⟨l1, l2, h12⟩ := List.append_of_mem hf
  exact (hup l1 f l2 h12).1
 have hall : ∀ j, j < ops.size → ∃ f ∈ fs, f.i = j := by
  intro j hj
  obtain ⟨s, hs, hsj⟩ := hp1 j (List.mem_range.2 hj)
  rw [hst] at hs
  obtain ⟨f, hf, rfl⟩ := List.mem_map.1 hs
  exact ⟨f, hf, by simpa using hsj⟩
 have hpf : PlanF P ops (Region.before ops) fs := planF_of hops hall (by rw [← hst]; exact hp2)
 have hE : ∀ j, (Array.replicate ops.size false).getD j false = false := by
  intro j
  simp only [Array.getD_eq_getD_getElem?, Array.getElem?_replicate]
  split <;> rfl
 refine wp_region_any hm ?_
 refine draw_any hc hn R he hD hpf (ds := a.defers) hQ ops.size (Array.replicate ops.size false) a W.drew G (by simp) ?_ ?_ ?_
 ·have hnx : nxF P (fun j => (Array.replicate ops.size false).getD j false) fs (S.next + ops.size) = S.next + ops.size := nxF_none (fun f _ _ => hE _) _
  have hhp : (fun x => hpF P S.next (fun j => (Array.replicate ops.size false).getD j false) x fs (S.heap.get x)) = S.heap.get := funext fun x => hpF_none hE fs _
  refine ⟨G.le_refl, ?_, Same.drew W, fun f _ _ => R.fresh _ (by omega), he.1, fun t v ht => ?_, rfl, fun _ _ _ => ⟨rfl, rfl⟩, fun _ => rfl, ?_, fun k _ hk => ?_⟩
  ·rw [hnx, hhp]
   exact ⟨fun x hx => R.fresh x (by omega), R.sep, R.blk, R.inj, R.fr, R.pr, R.own, R.lt, R.small⟩
  ·rw [svF_none (fun f _ _ => hE _)] at ht
   exact he.2 t v ht
  ·rw [hnx]; omega
  ·rw [hpF_none hE]; exact hk
 ·intro f _ hf
  rw [hE] at hf; cases hf
 ·exact Nat.le_trans (List.length_filter_le _ _) (by simp)
theorem exec_sound (hc : CallOK P call) (hm : P.follows .mixedOrders = true) (hn : n < lim) {pl : Nat → Option (List Step)} {k : Nat} {F : Nat → Option Obj} :
  ∀ (c : Code) (_ : codeOK P pl c = true) {e e' : Env} {S S' : St} {x : Ex} (_ : exec P pl call k n c e S = .ok (x, e', S')) {G : Gh} {W : World} (_ : Rel F G S W.heap) {a : Act} (_ : EnvR G n e a.tmps)
   {Q : Exit → Act → World → Prop} (_ : ∀ G' W' a', Sim F none G S W G' S' W' → EnvR G' n e' a'.tmps → a'.defers = a.defers → Q x.to a' W'), c.wp P Q a W := by
 intro c
 induction c with
 | skip =>
  intro _ e e' S S' x h G W R a he Q hQ
  simp [exec] at h
  obtain ⟨rfl, rfl, rfl⟩ := h
  exact wp_skip (hQ G W a (Sim.refl R) he rfl)
 | label l =>
  intro _ e e' S S' x h G W R a he Q hQ
  simp [exec] at h
  obtain ⟨rfl, rfl, rfl⟩ := h
  exact wp_label (hQ G W a (Sim.refl R) he rfl)
 | exit id =>
  intro _ e e' S S' x h G W R a he Q hQ
  simp [exec] at h
  obtain ⟨rfl, rfl, rfl⟩ := h
  exact wp_exit (hQ G W a (Sim.refl R) he rfl)
 | ret =>
  intro _ e e' S S' x h G W R a he Q hQ
  simp [exec] at h
  obtain ⟨rfl, rfl, rfl⟩ := h
  exact wp_ret (hQ G W a (Sim.refl R) he rfl)
 | region id ops d =>
  intro hk e e' S S' x h G W R a he Q hQ
  simp only [exec] at h
  split at h
  ·rename_i e1 S1 h1
   cases h
   cases d
   ·simp only [cond_false] at h1
    refine wp_region ?_
    rw [List.range_eq_range', ← Array.length_toList]
    exact runOps_sound hc hn ops.toList 0 rfl h1 R he hQ
   ·simp only [cond_true] at h1
    simp only [codeOK, Bool.not_true, Bool.false_or] at hk
    exact draw_sound hc hm hn hk h1 R he hQ
  ·cases h
 | seq c1 c2 ih1 ih2 =>
  intro hk e e' S S' x h G W R a he Q hQ
  simp only [codeOK, Bool.and_eq_true] at hk
  simp only [exec] at h
  refine wp_seq ?_
  cases hx : exec P pl call k n c1 e S with
  | error w => rw [hx] at h; cases h
  | ok r =>
   obtain ⟨y, e1, S1⟩ := r
   rw [hx] at h
   refine ih1 hk.1 hx R he fun G1 W1 a1 q1 q2 q3 => ?_
   cases y with
   | normal =>
    refine ih2 hk.2 h q1.rel q2 fun G2 W2 a2 r1 r2 r3 => ?_
    exact hQ G2 W2 a2 (q1.trans r1) r2 (r3.trans q3)
   | exit id => cases h; exact hQ G1 W1 a1 q1 q2 q3
   | ret => cases h; exact hQ G1 W1 a1 q1 q2 q3
 | cond c c1 c2 ih1 ih2 =>
  intro hk e e' S S' x h G W R a he Q hQ
  simp only [codeOK, Bool.and_eq_true] at hk
  simp only [exec] at h
  split at h
  ·rename_i hev
   have hv := ev_sound he c _ hev
   have hv' : a.eval c = .bool true := by generalize a.eval c = w at hv; cases hv; rfl
   exact wp_cond_true hv' (ih1 hk.1 h R he hQ)
  ·rename_i hev
   have hv := ev_sound he c _ hev
   have hv' : a.eval c = .bool false := by generalize a.eval c = w at hv; cases hv; rfl
   exact wp_cond_false hv' (ih2 hk.2 h R he hQ)
  ·cases h
 | block id c ih =>
  intro hk e e' S S' x h G W R a he Q hQ
  simp only [codeOK] at hk
  simp only [exec] at h
  refine wp_block ?_
  cases hx : exec P pl call k n c e S with
  | error w => rw [hx] at h; cases h
  | ok r =>
   obtain ⟨y, e1, S1⟩ := r
   rw [hx] at h
   refine ih hk hx R he fun G1 W1 a1 q1 q2 q3 => ?_
   cases y with
   | normal => cases h; exact hQ G1 W1 a1 q1 q2 q3
   | exit id' =>
    simp only [cond_eq_ite] at h
    show Exit.inBlock id Q (.exit id') a1 W1
    simp only [Exit.inBlock]
    by_cases hi : id' = id
    ·subst hi
     simp at h
     obtain ⟨rfl, rfl, rfl⟩ := h
     simp only [if_true]
     exact hQ G1 W1 a1 q1 q2 q3
    ·have : Nat.beq id' id = false := by
      cases hb : Nat.beq id' id with
      | false => rfl
      | true => exact absurd (Nat.eq_of_beq_eq_true hb) hi
     rw [this] at h
     cases h
     simp only [hi, if_false]
     exact hQ G1 W1 a1 q1 q2 q3
   | ret => cases h; exact hQ G1 W1 a1 q1 q2 q3
 | loop c ih =>
  intro hk e e' S S' x h G W R a he Q hQ
  simp only [codeOK] at hk
  simp only [exec] at h
  refine wp_loop_rounds k ?_
  have key : ∀ (m : Nat) {e : Env} {S : St} (_ : iter (exec P pl call k n c) m e S = .ok (x, e', S')) {G : Gh} {W : World} (_ : Rel F G S W.heap) {a : Act} (_ : EnvR G n e a.tmps)
    (_ : ∀ G' W' a', Sim F none G S W G' S' W' → EnvR G' n e' a'.tmps → a'.defers = a.defers → Q x.to a' W'), Code.rounds P c Q m a W := by
   intro m
   induction m with
   | zero => intro e S h; cases h
   | succ m ihm =>
    intro e S h G W R a he hQ
    simp only [iter] at h
    rw [rounds_succ]
    cases hx : exec P pl call k n c e S with
    | error w => rw [hx] at h; cases h
    | ok r =>
     obtain ⟨y, e1, S1⟩ := r
     rw [hx] at h
     refine ih hk hx R he fun G1 W1 a1 q1 q2 q3 => ?_
     cases y with
     | normal =>
      refine ihm h q1.rel q2 fun G2 W2 a2 r1 r2 r3 => ?_
      exact hQ G2 W2 a2 (q1.trans r1) r2 (r3.trans q3)
     | exit id' => cases h; exact hQ G1 W1 a1 q1 q2 q3
     | ret => cases h; exact hQ G1 W1 a1 q1 q2 q3
  exact key k h R he hQ
 | scope c _ => intro _ e e' S S' x h; cases h
 | rangeFunc f ps a b _ _ => intro _ e e' S S' x h; cases h
 | goto l => intro _ e e' S S' x h; cases h
 | refuse w => intro _ e e' S S' x h; cases h
end
end
def insCode (T I B : TypeId) (ov rr : FuncId) : Code :=
 ((Code.region 0 #[
  { dst := some 6, op := Op.assign (Operand.const (Value.slice none 0 0)), type := T, pos := "slices.go:136", after := #[], guard := none }] false).seq ((Code.region 1 #[
  { dst := some 10, op := Op.move (Operand.tmp 0), type := T, pos := "slices.go:137", after := #[], guard := none },
  { dst := some 11, op := Op.move (Operand.tmp 1), type := I, pos := "slices.go:137", after := #[], guard := none },
  { dst := some 12, op := Op.slice T (Operand.tmp 10) (some (Operand.tmp 11)) none none, type := T, pos := "slices.go:137", after := #[{ on := 0, ground := Ground.data }, { on := 1, ground := Ground.data }], guard := none }] false).seq ((Code.region 2 #[
  { dst := some 13, op := Op.move (Operand.tmp 2), type := T, pos := "slices.go:139", after := #[], guard := none },
  { dst := some 14, op := Op.call { callee := Callee.builtin Builtin.len, args := #[Operand.tmp 13], argTypes := #[T] }, type := I, pos := "slices.go:139", after := #[{ on := 0, ground := Ground.data }], guard := none },
  { dst := some 7, op := Op.assign (Operand.tmp 14), type := I, pos := "slices.go:139", after := #[{ on := 1, ground := Ground.data }, { on := 0, ground := Ground.phase }, { on := 1, ground := Ground.phase }], guard := none }] false).seq (((Code.region 3 #[
  { dst := some 15, op := Op.move (Operand.tmp 7), type := I, pos := "slices.go:140", after := #[], guard := none },
  { dst := some 16, op := Op.binOp BinOp.eql I (Operand.tmp 15) (Operand.const (Value.int IntKind.i64 0)) I, type := B, pos := "slices.go:140", after := #[{ on := 0, ground := Ground.data }], guard := none }] false).seq (Code.cond (Operand.tmp 16) ((Code.region 4 #[
  { dst := some 17, op := Op.move (Operand.tmp 0), type := T, pos := "slices.go:141", after := #[], guard := none },
  { dst := some 6, op := Op.assign (Operand.tmp 17), type := T, pos := "slices.go:141", after := #[{ on := 0, ground := Ground.data }, { on := 0, ground := Ground.phase }], guard := none }] false).seq Code.ret) Code.skip)).seq ((Code.region 5 #[
  { dst := some 18, op := Op.move (Operand.tmp 0), type := T, pos := "slices.go:143", after := #[], guard := none },
  { dst := some 19, op := Op.call { callee := Callee.builtin Builtin.len, args := #[Operand.tmp 18], argTypes := #[T] }, type := I, pos := "slices.go:143", after := #[{ on := 0, ground := Ground.data }], guard := none },
  { dst := some 8, op := Op.assign (Operand.tmp 19), type := I, pos := "slices.go:143", after := #[{ on := 1, ground := Ground.data }, { on := 0, ground := Ground.phase }, { on := 1, ground := Ground.phase }], guard := none }] false).seq (((Code.region 6 #[
  { dst := some 20, op := Op.move (Operand.tmp 1), type := I, pos := "slices.go:144", after := #[], guard := none },
  { dst := some 21, op := Op.move (Operand.tmp 8), type := I, pos := "slices.go:144", after := #[], guard := none },
  { dst := some 22, op := Op.binOp BinOp.eql I (Operand.tmp 20) (Operand.tmp 21) I, type := B, pos := "slices.go:144", after := #[{ on := 0, ground := Ground.data }, { on := 1, ground := Ground.data }], guard := none }] false).seq (Code.cond (Operand.tmp 22) ((Code.region 7 #[
  { dst := some 23, op := Op.move (Operand.tmp 0), type := T, pos := "slices.go:145", after := #[], guard := none },
  { dst := some 24, op := Op.move (Operand.tmp 2), type := T, pos := "slices.go:145", after := #[], guard := none },
  { dst := some 25, op := Op.call { callee := Callee.builtin Builtin.append, args := #[Operand.tmp 23, Operand.tmp 24], argTypes := #[T, T] }, type := T, pos := "slices.go:145", after := #[{ on := 0, ground := Ground.data }, { on := 1, ground := Ground.data }], guard := none },
  { dst := some 6, op := Op.assign (Operand.tmp 25), type := T, pos := "slices.go:145", after := #[{ on := 2, ground := Ground.data }, { on := 2, ground := Ground.chain }, { on := 0, ground := Ground.phase }, { on := 1, ground := Ground.phase }, { on := 2, ground := Ground.phase }], guard := none }] false).seq Code.ret) Code.skip)).seq (((Code.region 8 #[
  { dst := some 26, op := Op.move (Operand.tmp 8), type := I, pos := "slices.go:147", after := #[], guard := none },
  { dst := some 27, op := Op.move (Operand.tmp 7), type := I, pos := "slices.go:147", after := #[], guard := none },
  { dst := some 28, op := Op.binOp BinOp.add I (Operand.tmp 26) (Operand.tmp 27) I, type := I, pos := "slices.go:147", after := #[{ on := 0, ground := Ground.data }, { on := 1, ground := Ground.data }], guard := none },
  { dst := some 29, op := Op.move (Operand.tmp 0), type := T, pos := "slices.go:147", after := #[], guard := none },
  { dst := some 30, op := Op.call { callee := Callee.builtin Builtin.cap, args := #[Operand.tmp 29], argTypes := #[T] }, type := I, pos := "slices.go:147", after := #[{ on := 3, ground := Ground.data }], guard := none },
  { dst := some 31, op := Op.binOp BinOp.gtr I (Operand.tmp 28) (Operand.tmp 30) I, type := B, pos := "slices.go:147", after := #[{ on := 2, ground := Ground.data }, { on := 4, ground := Ground.data }], guard := none }] false).seq (Code.cond (Operand.tmp 31) ((Code.region 9 #[
  { dst := some 32, op := Op.move (Operand.tmp 0), type := T, pos := "slices.go:152", after := #[], guard := none },
  { dst := some 33, op := Op.move (Operand.tmp 1), type := I, pos := "slices.go:152", after := #[], guard := none },
  { dst := some 34, op := Op.slice T (Operand.tmp 32) none (some (Operand.tmp 33)) none, type := T, pos := "slices.go:152", after := #[{ on := 0, ground := Ground.data }, { on := 1, ground := Ground.data }], guard := none },
  { dst := some 35, op := Op.move (Operand.tmp 8), type := I, pos := "slices.go:152", after := #[], guard := none },
  { dst := some 36, op := Op.move (Operand.tmp 7), type := I, pos := "slices.go:152", after := #[], guard := none },
  { dst := some 37, op := Op.binOp BinOp.add I (Operand.tmp 35) (Operand.tmp 36) I, type := I, pos := "slices.go:152", after := #[{ on := 3, ground := Ground.data }, { on := 4, ground := Ground.data }], guard := none },
  { dst := some 38, op := Op.move (Operand.tmp 1), type := I, pos := "slices.go:152", after := #[], guard := none },
  { dst := some 39, op := Op.binOp BinOp.sub I (Operand.tmp 37) (Operand.tmp 38) I, type := I, pos := "slices.go:152", after := #[{ on := 5, ground := Ground.data }, { on := 6, ground := Ground.data }], guard := none },
  { dst := some 40, op := Op.call { callee := Callee.builtin Builtin.append, args := #[Operand.tmp 34, Operand.tmp 39], argTypes := #[T, I] }, type := T, pos := "slices.go:152", after := #[{ on := 2, ground := Ground.data }, { on := 7, ground := Ground.data }], guard := none },
  { dst := some 9, op := Op.assign (Operand.tmp 40), type := T, pos := "slices.go:152", after := #[{ on := 8, ground := Ground.data }, { on := 8, ground := Ground.chain }, { on := 0, ground := Ground.phase }, { on := 1, ground := Ground.phase }, { on := 2, ground := Ground.phase }, { on := 3, ground := Ground.phase }, { on := 4, ground := Ground.phase }, { on := 5, ground := Ground.phase }, { on := 6, ground := Ground.phase }, { on := 7, ground := Ground.phase }, { on := 8, ground := Ground.phase }], guard := none }] false).seq ((Code.region 10 #[
  { dst := some 41, op := Op.move (Operand.tmp 9), type := T, pos := "slices.go:153", after := #[], guard := none },
  { dst := some 42, op := Op.move (Operand.tmp 1), type := I, pos := "slices.go:153", after := #[], guard := none },
  { dst := some 43, op := Op.slice T (Operand.tmp 41) (some (Operand.tmp 42)) none none, type := T, pos := "slices.go:153", after := #[{ on := 0, ground := Ground.data }, { on := 1, ground := Ground.data }], guard := none },
  { dst := some 44, op := Op.move (Operand.tmp 2), type := T, pos := "slices.go:153", after := #[], guard := none },
  { dst := some 45, op := Op.call { callee := Callee.builtin Builtin.copy, args := #[Operand.tmp 43, Operand.tmp 44], argTypes := #[T, T] }, type := I, pos := "slices.go:153", after := #[{ on := 2, ground := Ground.data }, { on := 3, ground := Ground.data }], guard := none }] false).seq ((Code.region 11 #[
  { dst := some 46, op := Op.move (Operand.tmp 9), type := T, pos := "slices.go:154", after := #[], guard := none },
  { dst := some 47, op := Op.move (Operand.tmp 1), type := I, pos := "slices.go:154", after := #[], guard := none },
  { dst := some 48, op := Op.move (Operand.tmp 7), type := I, pos := "slices.go:154", after := #[], guard := none },
  { dst := some 49, op := Op.binOp BinOp.add I (Operand.tmp 47) (Operand.tmp 48) I, type := I, pos := "slices.go:154", after := #[{ on := 1, ground := Ground.data }, { on := 2, ground := Ground.data }], guard := none },
  { dst := some 50, op := Op.slice T (Operand.tmp 46) (some (Operand.tmp 49)) none none, type := T, pos := "slices.go:154", after := #[{ on := 0, ground := Ground.data }, { on := 3, ground := Ground.data }], guard := none },
  { dst := some 51, op := Op.move (Operand.tmp 0), type := T, pos := "slices.go:154", after := #[], guard := none },
  { dst := some 52, op := Op.move (Operand.tmp 1), type := I, pos := "slices.go:154", after := #[], guard := none },
  { dst := some 53, op := Op.slice T (Operand.tmp 51) (some (Operand.tmp 52)) none none, type := T, pos := "slices.go:154", after := #[{ on := 5, ground := Ground.data }, { on := 6, ground := Ground.data }], guard := none },
  { dst := some 54, op := Op.call { callee := Callee.builtin Builtin.copy, args := #[Operand.tmp 50, Operand.tmp 53], argTypes := #[T, T] }, type := I, pos := "slices.go:154", after := #[{ on := 4, ground := Ground.data }, { on := 7, ground := Ground.data }], guard := none }] true).seq ((Code.region 12 #[
  { dst := some 55, op := Op.move (Operand.tmp 9), type := T, pos := "slices.go:155", after := #[], guard := none },
  { dst := some 6, op := Op.assign (Operand.tmp 55), type := T, pos := "slices.go:155", after := #[{ on := 0, ground := Ground.data }, { on := 0, ground := Ground.phase }], guard := none }] false).seq Code.ret)))) Code.skip)).seq ((Code.region 13 #[
  { dst := some 56, op := Op.move (Operand.tmp 0), type := T, pos := "slices.go:157", after := #[], guard := none },
  { dst := some 57, op := Op.move (Operand.tmp 8), type := I, pos := "slices.go:157", after := #[], guard := none },
  { dst := some 58, op := Op.move (Operand.tmp 7), type := I, pos := "slices.go:157", after := #[], guard := none },
  { dst := some 59, op := Op.binOp BinOp.add I (Operand.tmp 57) (Operand.tmp 58) I, type := I, pos := "slices.go:157", after := #[{ on := 1, ground := Ground.data }, { on := 2, ground := Ground.data }], guard := none },
  { dst := some 60, op := Op.slice T (Operand.tmp 56) none (some (Operand.tmp 59)) none, type := T, pos := "slices.go:157", after := #[{ on := 0, ground := Ground.data }, { on := 3, ground := Ground.data }], guard := none },
  { dst := some 0, op := Op.assign (Operand.tmp 60), type := T, pos := "slices.go:157", after := #[{ on := 4, ground := Ground.data }, { on := 0, ground := Ground.phase }, { on := 1, ground := Ground.phase }, { on := 2, ground := Ground.phase }, { on := 3, ground := Ground.phase }, { on := 4, ground := Ground.phase }], guard := none }] false).seq (((Code.region 14 #[
  { dst := some 61, op := Op.move (Operand.tmp 2), type := T, pos := "slices.go:173", after := #[], guard := none },
  { dst := some 62, op := Op.move (Operand.tmp 0), type := T, pos := "slices.go:173", after := #[], guard := none },
  { dst := some 63, op := Op.move (Operand.tmp 1), type := I, pos := "slices.go:173", after := #[], guard := none },
  { dst := some 64, op := Op.move (Operand.tmp 7), type := I, pos := "slices.go:173", after := #[], guard := none },
  { dst := some 65, op := Op.binOp BinOp.add I (Operand.tmp 63) (Operand.tmp 64) I, type := I, pos := "slices.go:173", after := #[{ on := 2, ground := Ground.data }, { on := 3, ground := Ground.data }], guard := none },
  { dst := some 66, op := Op.slice T (Operand.tmp 62) (some (Operand.tmp 65)) none none, type := T, pos := "slices.go:173", after := #[{ on := 1, ground := Ground.data }, { on := 4, ground := Ground.data }], guard := none },
  { dst := some 67, op := Op.call { callee := Callee.value (Operand.func ov), args := #[Operand.tmp 61, Operand.tmp 66], argTypes := #[T, T] }, type := B, pos := "slices.go:173", after := #[{ on := 0, ground := Ground.data }, { on := 5, ground := Ground.data }], guard := none },
  { dst := some 68, op := Op.unOp UnOp.not B (Operand.tmp 67), type := B, pos := "slices.go:173", after := #[{ on := 6, ground := Ground.data }], guard := none }] false).seq (Code.cond (Operand.tmp 68) ((Code.region 15 #[
  { dst := some 69, op := Op.move (Operand.tmp 0), type := T, pos := "slices.go:178", after := #[], guard := none },
  { dst := some 70, op := Op.move (Operand.tmp 1), type := I, pos := "slices.go:178", after := #[], guard := none },
  { dst := some 71, op := Op.move (Operand.tmp 7), type := I, pos := "slices.go:178", after := #[], guard := none },
  { dst := some 72, op := Op.binOp BinOp.add I (Operand.tmp 70) (Operand.tmp 71) I, type := I, pos := "slices.go:178", after := #[{ on := 1, ground := Ground.data }, { on := 2, ground := Ground.data }], guard := none },
  { dst := some 73, op := Op.slice T (Operand.tmp 69) (some (Operand.tmp 72)) none none, type := T, pos := "slices.go:178", after := #[{ on := 0, ground := Ground.data }, { on := 3, ground := Ground.data }], guard := none },
  { dst := some 74, op := Op.move (Operand.tmp 0), type := T, pos := "slices.go:178", after := #[], guard := none },
  { dst := some 75, op := Op.move (Operand.tmp 1), type := I, pos := "slices.go:178", after := #[], guard := none },
  { dst := some 76, op := Op.slice T (Operand.tmp 74) (some (Operand.tmp 75)) none none, type := T, pos := "slices.go:178", after := #[{ on := 5, ground := Ground.data }, { on := 6, ground := Ground.data }], guard := none },
  { dst := some 77, op := Op.call { callee := Callee.builtin Builtin.copy, args := #[Operand.tmp 73, Operand.tmp 76], argTypes := #[T, T] }, type := I, pos := "slices.go:178", after := #[{ on := 4, ground := Ground.data }, { on := 7, ground := Ground.data }], guard := none }] true).seq ((Code.region 16 #[
  { dst := some 78, op := Op.move (Operand.tmp 0), type := T, pos := "slices.go:186", after := #[], guard := none },
  { dst := some 79, op := Op.move (Operand.tmp 1), type := I, pos := "slices.go:186", after := #[], guard := none },
  { dst := some 80, op := Op.slice T (Operand.tmp 78) (some (Operand.tmp 79)) none none, type := T, pos := "slices.go:186", after := #[{ on := 0, ground := Ground.data }, { on := 1, ground := Ground.data }], guard := none },
  { dst := some 81, op := Op.move (Operand.tmp 2), type := T, pos := "slices.go:186", after := #[], guard := none },
  { dst := some 82, op := Op.call { callee := Callee.builtin Builtin.copy, args := #[Operand.tmp 80, Operand.tmp 81], argTypes := #[T, T] }, type := I, pos := "slices.go:186", after := #[{ on := 2, ground := Ground.data }, { on := 3, ground := Ground.data }], guard := none }] false).seq ((Code.region 17 #[
  { dst := some 83, op := Op.move (Operand.tmp 0), type := T, pos := "slices.go:193", after := #[], guard := none },
  { dst := some 6, op := Op.assign (Operand.tmp 83), type := T, pos := "slices.go:193", after := #[{ on := 0, ground := Ground.data }, { on := 0, ground := Ground.phase }], guard := none }] false).seq Code.ret))) Code.skip)).seq ((Code.region 18 #[
  { dst := some 84, op := Op.move (Operand.tmp 0), type := T, pos := "slices.go:200", after := #[], guard := none },
  { dst := some 85, op := Op.move (Operand.tmp 8), type := I, pos := "slices.go:200", after := #[], guard := none },
  { dst := some 86, op := Op.slice T (Operand.tmp 84) (some (Operand.tmp 85)) none none, type := T, pos := "slices.go:200", after := #[{ on := 0, ground := Ground.data }, { on := 1, ground := Ground.data }], guard := none },
  { dst := some 87, op := Op.move (Operand.tmp 2), type := T, pos := "slices.go:200", after := #[], guard := none },
  { dst := some 88, op := Op.call { callee := Callee.builtin Builtin.copy, args := #[Operand.tmp 86, Operand.tmp 87], argTypes := #[T, T] }, type := I, pos := "slices.go:200", after := #[{ on := 2, ground := Ground.data }, { on := 3, ground := Ground.data }], guard := none }] false).seq ((Code.region 19 #[
  { dst := some 89, op := Op.move (Operand.tmp 0), type := T, pos := "slices.go:207", after := #[], guard := none },
  { dst := some 90, op := Op.move (Operand.tmp 1), type := I, pos := "slices.go:207", after := #[], guard := none },
  { dst := some 91, op := Op.slice T (Operand.tmp 89) (some (Operand.tmp 90)) none none, type := T, pos := "slices.go:207", after := #[{ on := 0, ground := Ground.data }, { on := 1, ground := Ground.data }], guard := none },
  { dst := some 92, op := Op.move (Operand.tmp 7), type := I, pos := "slices.go:207", after := #[], guard := none },
  { dst := some 93, op := Op.call { callee := Callee.value (Operand.func rr), args := #[Operand.tmp 91, Operand.tmp 92], argTypes := #[T, I] }, type := 0, pos := "slices.go:207", after := #[{ on := 2, ground := Ground.data }, { on := 3, ground := Ground.data }], guard := none }] false).seq ((Code.region 20 #[
  { dst := some 94, op := Op.move (Operand.tmp 0), type := T, pos := "slices.go:214", after := #[], guard := none },
  { dst := some 6, op := Op.assign (Operand.tmp 94), type := T, pos := "slices.go:214", after := #[{ on := 0, ground := Ground.data }, { on := 0, ground := Ground.phase }], guard := none }] false).seq Code.ret))))))))))))
def resSem (tmps : Array Value) : ResultVar → Sem Value
 | .tmp t => pure (tmps.getD t undef)
 | .cell a t => do loadVar t (← asAddr (tmps.getD a undef))
def resOut (ws : List Value) : Value := if h : ws.toArray.size = 1 then ws.toArray[0] else .tuple ws.toArray
theorem results_sound {P : Program} {fn : Func} {tmps : Array Value} {W : World} {ws : List Value} (h : (fn.results.toList.mapM (resSem tmps)).run P W = Result.ok ws W) :
  (results fn tmps).run P W = .ok (resOut ws) W := by
 have : results fn tmps = fn.results.mapM (resSem tmps) >>= fun vs => pure (if h : vs.size = 1 then vs[0] else .tuple vs) := by
  unfold results
  rfl
 rw [this, Array.mapM_eq_mapM_toList, Sem.run_bind]
 have h2 : (List.toArray <$> fn.results.toList.mapM (resSem tmps)).run P W = Result.ok ws.toArray W := by
  rw [map_eq_pure_bind, Sem.run_bind, h]; rfl
 rw [h2]; rfl
theorem results_one {P : Program} {fn : Func} {t : Tmp} (hr : fn.results = #[.tmp t]) {tmps : Array Value} {W : World} {v : Value} (h : tmps.getD t undef = v) : (results fn tmps).run P W = .ok v W := by
 have := results_sound (P := P) (fn := fn) (tmps := tmps) (W := W) (ws := [v]) (by rw [hr]; simp [List.mapM_cons, resSem, h])
 exact this
end Go.AM
end
section
namespace Go.AM
open Go.RowKit Go.Lib Go.Proofs Go.Shelf
section
variable {P : Program}
structure InsAt (P : Program) (f : FuncId) (T e I B : TypeId) (ov rr : FuncId) (fn : Func) : Prop where
 mixed : P.follows .mixedOrders = true
 hf : P.funcs[f]? = some fn
 hb : fn.body = some (insCode T I B ov rr)
 hn : fn.ntmps = 95
 hr : fn.results = #[.tmp 6]
 tT : P.underlying T = some (.slice e)
 tI : P.underlying I = some (.int .i64)
 tB : P.underlying B = some .bool
 hov : ∀ args w, (callFunc ov args).run P w = ((Extern.SlicesOverlaps.overlaps #[T, T] #[B] args).run P w).andThen fun v w' => .ok (.value v) w'
 zE : ∀ w, (Go.sizeOf e).run P w = .ok (sz P e) w
 zT : ∀ w, (Go.sizeOf T).run P w = .ok 1 w
 zI : ∀ w, (Go.sizeOf I).run P w = .ok 1 w
 zB : ∀ w, (Go.sizeOf B).run P w = .ok 1 w
set_option maxHeartbeats 4000000 in
set_option maxRecDepth 100000 in
theorem ins_shift {f : FuncId} {T e I B : TypeId} {ov rr : FuncId} {fn : Func} (L : InsAt P f T e I B ov rr fn) (b off sz n c i vb voff m vc : Nat) (w W1 W2 : World) (hi : i < n) (hm : 0 < m) (hroom : n + m ≤ c)
    (hc63 : n + m ≤ 9223372036854775807) (hsz : ∀ w, (Go.sizeOf e).run P w = .ok sz w)
    (hov : ∀ lb cb, (callFunc ov #[.slice (some ⟨vb, voff, none⟩) m vc, .slice (some ⟨b, off + (i + m) * sz, none⟩) lb cb]).run P w = .ok (.value (.bool false)) w)
    (hcp1 : ∀ ty dc sc, (Builtin.copy_ #[T, T] ty #[.slice (some ⟨b, off + (i + m) * sz, none⟩) (n + m - (i + m)) dc, .slice (some ⟨b, off + i * sz, none⟩) (n + m - i) sc]).run P w.drew = .ok (.int .i64 (n - i : Nat)) W1)
    (hcp2 : ∀ ty dc, (Builtin.copy_ #[T, T] ty #[.slice (some ⟨b, off + i * sz, none⟩) (n + m - i) dc, .slice (some ⟨vb, voff, none⟩) m vc]).run P W1 = .ok (.int .i64 m) W2) :
    Calls P f #[.slice (some ⟨b, off, none⟩) n c, .int .i64 i, .slice (some ⟨vb, voff, none⟩) m vc] w fun e w' => e = .returned (.slice (some ⟨b, off, none⟩) (n + m) c) ∧ w' = W2 := by
  have tT := L.tT; have tI := L.tI; have tB := L.tB
  have uT := run_underlying L.tT; have uI := run_underlying L.tI; have uB := run_underlying L.tB
  have zT := L.zT; have zI := L.zI; have zB := L.zB
  have mixed := L.mixed
  have hz1 : ¬ ((m : Int) = 0) := by omega
  have hz2 : ¬ ((i : Int) = (n : Int)) := by omega
  have hw1 : IntKind.i64.wrap ((i : Int) + (m : Int)) = (i : Int) + (m : Int) := by rw [IntKind.wrap_i64]; omega
  have hw2 : IntKind.i64.wrap ((n : Int) + (m : Int)) = (n : Int) + (m : Int) := by rw [IntKind.wrap_i64]; omega
  have hb1 : (0 : Int) ≤ (i : Int) + (m : Int) := by omega
  have hin : i ≤ n := by omega
  have htn : ((i : Int) + (m : Int)).toNat = i + m := by omega
  have hb2 : ¬ (c = i + m) := by omega
  have hb3 : (i : Int) ≤ (n : Int) + (m : Int) := by omega
  have hb4 : ¬ (c = i) := by omega
  refine calls_of_wp L.hf L.hb ?_
  have hr := L.hr
  simp only [L.hn, List.size_toArray, List.length_cons, List.length_nil, Nat.reduceAdd, Nat.reduceSub, Array.replicate_succ,
     Array.replicate_zero, List.push_toArray, List.append_toArray, List.nil_append, List.cons_append]
  unfold insCode
  go_wp2_with (simp only [hov])
  go_region_law_o (refine step_copy_runI rfl _ _ T T rfl _ _ (by simp [Act.eval, Act.put]) (by simp [Act.eval, Act.put]) (hcp1 _ _ _) ?_)
  go_wp2_with (at_builtin; refine wpList_copy_runI _ rfl _ _ T T rfl _ _ rfl rfl (hcp2 _ _) ?_)
  refine ⟨rfl, .slice (some ⟨b, off, none⟩) (n + m) c, results_one hr rfl, rfl, rfl⟩
set_option maxHeartbeats 4000000 in
set_option maxRecDepth 100000 in
theorem ins_grow {f : FuncId} {T e I B : TypeId} {ov rr : FuncId} {fn : Func} (L : InsAt P f T e I B ov rr fn) (b off nb sz n c i vb voff m vc g : Nat) (w W1 W2 W3 : World) (hi : i < n) (hm : 0 < m) (hnc : n ≤ c) (hroom : c < n + m)
    (hg : n + m ≤ g) (hbig : n + m ≤ 9223372036854775807) (hsz : ∀ w, (Go.sizeOf e).run P w = .ok sz w)
    (hrz : ∀ ty, (Builtin.append_ #[T, I] ty #[.slice (some ⟨b, off, none⟩) i c, .int .i64 ((n : Int) + (m : Int) - (i : Int))]).run P w = .ok (.slice (some ⟨nb, 0, none⟩) (n + m) g) W1)
    (hcp1 : ∀ ty dc, (Builtin.copy_ #[T, T] ty #[.slice (some ⟨nb, i * sz, none⟩) (n + m - i) dc, .slice (some ⟨vb, voff, none⟩) m vc]).run P W1 = .ok (.int .i64 m) W2)
    (hcp2 : ∀ ty dc sc, (Builtin.copy_ #[T, T] ty #[.slice (some ⟨nb, (i + m) * sz, none⟩) (n + m - (i + m)) dc, .slice (some ⟨b, off + i * sz, none⟩) (n - i) sc]).run P W2.drew = .ok (.int .i64 (n - i : Nat)) W3) :
    Calls P f #[.slice (some ⟨b, off, none⟩) n c, .int .i64 i, .slice (some ⟨vb, voff, none⟩) m vc] w fun e w' => e = .returned (.slice (some ⟨nb, 0, none⟩) (n + m) g) ∧ w' = W3 := by
  have tT := L.tT; have tI := L.tI; have tB := L.tB
  have uT := run_underlying L.tT; have uI := run_underlying L.tI; have uB := run_underlying L.tB
  have zT := L.zT; have zI := L.zI; have zB := L.zB
  have mixed := L.mixed
  have hz1 : ¬ ((m : Int) = 0) := by omega
  have hz2 : ¬ ((i : Int) = (n : Int)) := by omega
  have hz3 : (c : Int) < (n : Int) + (m : Int) := by omega
  have hw1 : IntKind.i64.wrap ((i : Int) + (m : Int)) = (i : Int) + (m : Int) := by rw [IntKind.wrap_i64]; omega
  have hw2 : IntKind.i64.wrap ((n : Int) + (m : Int)) = (n : Int) + (m : Int) := by rw [IntKind.wrap_i64]; omega
  have hw3 : IntKind.i64.wrap ((n : Int) + (m : Int) - (i : Int)) = (n : Int) + (m : Int) - (i : Int) := by rw [IntKind.wrap_i64]; omega
  have hb1 : (0 : Int) ≤ (i : Int) + (m : Int) := by omega
  have hin : i ≤ n := by omega
  have htn : ((i : Int) + (m : Int)).toNat = i + m := by omega
  have hb3 : (i : Int) ≤ (n : Int) + (m : Int) := by omega
  have hGi : ¬ (g = i) := by omega
  have hGim : ¬ (g = i + m) := by omega
  have hci : ¬ (c = i) := by omega
  refine calls_of_wp L.hf L.hb ?_
  have hr := L.hr
  simp only [L.hn, List.size_toArray, List.length_cons, List.length_nil, Nat.reduceAdd, Nat.reduceSub, Array.replicate_succ,
     Array.replicate_zero, List.push_toArray, List.append_toArray, List.nil_append, List.cons_append]
  unfold insCode
  go_wp2_with (at_builtin; first | refine Lib.wpList_append_run _ rfl _ _ _ _ rfl _ _ rfl rfl _ _ (hrz _) ?_ | refine wpList_copy_runI _ rfl _ _ T T rfl _ _ rfl rfl (hcp1 _ _) ?_)
  go_region_law_o (refine step_copy_runI rfl _ _ T T rfl _ _ (by simp [Act.eval, Act.put]) (by simp [Act.eval, Act.put]) (hcp2 _ _ _) ?_)
  go_wp2_with (at_builtin; skip)
  refine ⟨rfl, .slice (some ⟨nb, 0, none⟩) (n + m) g, results_one hr rfl, rfl, rfl⟩
set_option maxHeartbeats 4000000 in
set_option maxRecDepth 100000 in
theorem ins_end {f : FuncId} {T e I B : TypeId} {ov rr : FuncId} {fn : Func} (L : InsAt P f T e I B ov rr fn) (base : Option Addr) (n c m : Nat) (v : Value) (hv : ∃ p vc, v = .slice p m vc) (w W1 : World) (hm : 0 < m) (r : Value)
    (hnil : base = none → c = 0) (hnc : n ≤ c) (sz : Nat) (hsz : ∀ w, (Go.sizeOf e).run P w = .ok sz w)
    (hrun : ∀ ty, (Builtin.append_ #[T, T] ty #[.slice base n c, v]).run P w = .ok r W1) :
    Calls P f #[.slice base n c, .int .i64 n, v] w fun e w' => e = .returned r ∧ w' = W1 := by
  obtain ⟨p, vc, rfl⟩ := hv
  have tT := L.tT; have tI := L.tI; have tB := L.tB
  have uT := run_underlying L.tT; have uI := run_underlying L.tI; have uB := run_underlying L.tB
  have zT := L.zT; have zI := L.zI; have zB := L.zB
  have mixed := L.mixed
  have hz1 : ¬ ((m : Int) = 0) := by omega
  refine calls_of_wp L.hf L.hb ?_
  have hr := L.hr
  simp only [L.hn, List.size_toArray, List.length_cons, List.length_nil, Nat.reduceAdd, Nat.reduceSub, Array.replicate_succ,
     Array.replicate_zero, List.push_toArray, List.append_toArray, List.nil_append, List.cons_append]
  unfold insCode
  cases base with
  | none =>
    have h0 := hnil rfl
    subst h0
    have hn0 : n = 0 := by omega
    subst hn0
    go_wp2_with (at_builtin; refine Lib.wpList_append_run _ rfl _ _ _ _ rfl _ _ rfl rfl _ _ (hrun _) ?_)
    exact ⟨rfl, r, results_one hr rfl, rfl, rfl⟩
  | some a =>
    obtain ⟨ab, ao, asp⟩ := a
    go_wp2_with (at_builtin; refine Lib.wpList_append_run _ rfl _ _ _ _ rfl _ _ rfl rfl _ _ (hrun _) ?_)
    all_goals exact ⟨rfl, r, results_one hr rfl, rfl, rfl⟩
end
section
variable {P : Program}
theorem run_copy {T e : TypeId} (hT : P.underlying T = some (.slice e)) {sz : Nat} (hsz : ∀ w, (Go.sizeOf e).run P w = .ok sz w) (W : World) (b o dLen : Nat) (src : Addr) (sLen k : Nat)
  (hk : Nat.min sLen dLen = k) (ws : List Value) (hws : ws.length = k * sz) (hcells : ∀ (j : Nat) (w : Value), ws[j]? = some w → W.cell? (src.add j) = some w) {c : Array Value} {ct : TypeId} {fr : Nat × Nat}
  (hb : W.heap[b]? = some (.cells c ct fr)) (ones : ∀ v ∈ ws, v.oneCell' = true) (hle : o + ws.length ≤ c.size) (hfz : ∀ j, o ≤ j → j < o + ws.length → ¬ (fr.1 ≤ j ∧ j < fr.2)) :
  ∃ W', (∀ ty dc sc, (Builtin.copy_ #[T, T] ty #[.slice (some ⟨b, o, none⟩) dLen dc, .slice (some src) sLen sc]).run P W = .ok (.int .i64 k) W') ∧ W'.heap[b]? = some (.cells (writeAt c o ws) ct fr) ∧
   (∀ k, k ≠ b → W'.heap[k]? = W.heap[k]?) ∧ W'.heap.size = W.heap.size ∧ Same W W' := by
 obtain ⟨W', s1, s2, s3, s4, s5⟩ := run_storeCells (P := P) (b := b) (o := o) (ty := ct) (fr := fr) ws 0 W c hb ones (by simpa using hle) (by simpa using hfz)
 refine ⟨W', fun ty dc sc => ?_, by simpa using s2, s3, s4, s5⟩
 have hl := run_loadCells_list (P := P) W src ws hcells
 rw [hws] at hl
 unfold Builtin.copy_
 simp only [Sem.run_bind, run_underlying hT, Result.andThen_ok, hsz, Builtin.lenOf, Sem.run_pure, hk, Builtin.firstCells, hl, s1]
 simp [run_underlying hT, hsz, Builtin.lenOf, hk, Builtin.firstCells, hl, s1, goInt]
end
section
variable {P : Program}
theorem ins_row {G : Gh} {es n k m o : Nat} {old xs : List (List V)} {os ws : List Value} {c : Array Value} (hk : k ≤ n) (hol : old.length = n) (hold : ∀ x ∈ old, x.length = es) (hxl : ∀ x ∈ xs, x.length = es) (hm : xs.length = m)
  (ho : VRs G old.flatten os) (hw : VRs G xs.flatten ws)
  (h1 : ∀ j w, j < k * es → os[j]? = some w → c[o + j]? = some w) (h2 : ∀ j w, ws[j]? = some w → c[o + (k * es + j)]? = some w)
  (h3 : ∀ j w, k * es ≤ j → os[j]? = some w → c[o + (m * es + j)]? = some w) :
  RowR G c o es (old.take k ++ (xs ++ old.drop k)) := by
 have hosl : os.length = n * es := by rw [← ho.length, flat_length _ _ hold, hol]
 have hwl : ws.length = m * es := by rw [← hw.length, flat_length _ _ hxl, hm]
 have hks : k * es ≤ n * es := Nat.mul_le_mul_right es hk
 have hsplit : old.flatten = (old.take k).flatten ++ (old.drop k).flatten := by rw [← List.flatten_append, List.take_append_drop]
 have htl : (old.take k).flatten.length = k * es := by
  rw [flat_length es _ (fun x hx => hold x (List.mem_of_mem_take hx)), List.length_take, Nat.min_eq_left (by omega)]
 have ht : VRs G (old.take k).flatten (os.take (k * es)) := by
  have := ho.take (k * es)
  rw [hsplit, List.take_append_of_le_length (by omega), List.take_of_length_le (by omega)] at this
  exact this
 have hd : VRs G (old.drop k).flatten (os.drop (k * es)) := by
  refine VRs.of ?_ fun i v w hv hw => ?_
  ·rw [flat_length es _ (fun x hx => hold x (List.mem_of_mem_drop hx)), List.length_drop, List.length_drop, hosl, hol, Nat.sub_mul]
  ·rw [List.getElem?_drop] at hw
   have : old.flatten[k * es + i]? = some v := by
    rw [hsplit, List.getElem?_append_right (by omega), htl]
    rw [show k * es + i - k * es = i by omega]; exact hv
   obtain ⟨w', e1, e2⟩ := ho.get this
   rw [e1] at hw; cases hw; exact e2
 refine rowR_of_flat_at (ws := os.take (k * es) ++ (ws ++ os.drop (k * es))) ?_ ?_ ?_
 ·intro x hx
  rcases List.mem_append.1 hx with hx | hx
  ·exact hold x (List.mem_of_mem_take hx)
  ·rcases List.mem_append.1 hx with hx | hx
   ·exact hxl x hx
   ·exact hold x (List.mem_of_mem_drop hx)
 ·rw [List.flatten_append, List.flatten_append]
  exact ht.append (hw.append hd)
 ·intro j w hj
  have hlt : (os.take (k * es)).length = k * es := by simp; omega
  rcases Nat.lt_or_ge j (k * es) with q | q
  ·rw [List.getElem?_append_left (by omega), List.getElem?_take, if_pos q] at hj
   exact h1 j w q hj
  ·rw [List.getElem?_append_right (by omega), hlt] at hj
   rcases Nat.lt_or_ge (j - k * es) ws.length with q2 | q2
   ·rw [List.getElem?_append_left q2] at hj
    have := h2 (j - k * es) w hj
    rw [show k * es + (j - k * es) = j by omega] at this; exact this
   ·rw [List.getElem?_append_right q2, List.getElem?_drop, hwl] at hj
    have := h3 (k * es + (j - k * es - m * es)) w (by omega) hj
    rw [show m * es + (k * es + (j - k * es - m * es)) = j by omega] at this
    exact this
end
section
variable {P : Program}
theorem nat_min {a b k : Nat} (h1 : k ≤ a ∧ k ≤ b) (h2 : k = a ∨ k = b) : Nat.min a b = k := by
 show min a b = k
 omega
theorem ins_room {f : FuncId} {T e I B : TypeId} {ov rr : FuncId} {fn : Func} (L : InsAt P f T e I B ov rr fn) {W : World} {b o n c k vb vo m vc es : Nat} (hes : sz P e = es)
  (hk : k < n) (hm : 0 < m) (hroom : n + m ≤ c) (hlim : n + m < 4294967296) (hvb : vb ≠ b)
  {ca : Array Value} {cty : TypeId} {cfr : Nat × Nat} (hcb : W.heap[b]? = some (.cells ca cty cfr)) (hin : o + c * es ≤ ca.size) (hfz : ∀ j, o ≤ j → j < o + c * es → ¬ (cfr.1 ≤ j ∧ j < cfr.2))
  {cv : Array Value} {vty : TypeId} {vfr : Nat × Nat} (hcv : W.heap[vb]? = some (.cells cv vty vfr)) (hfv : ¬ (vfr.1 ≤ vo ∧ vo < vfr.2)) (hfe : ¬ (vfr.1 ≤ cv.size ∧ cv.size < vfr.2))
  {os ws : List Value} (hos : os.length = n * es) (hws : ws.length = m * es) (ho : ∀ (j : Nat) (w : Value), os[j]? = some w → ca[o + j]? = some w) (hw : ∀ (j : Nat) (w : Value), ws[j]? = some w → cv[vo + j]? = some w)
  (h1o : ∀ v ∈ os, v.oneCell' = true) (h1w : ∀ v ∈ ws, v.oneCell' = true) (hpos : 0 < es) :
  ∃ W2, Calls P f #[.slice (some ⟨b, o, none⟩) n c, .int .i64 k, .slice (some ⟨vb, vo, none⟩) m vc] W (fun e w' => e = .returned (.slice (some ⟨b, o, none⟩) (n + m) c) ∧ w' = W2) ∧
   W2.heap[b]? = some (.cells (writeAt (writeAt ca (o + (k + m) * es) (os.drop (k * es))) (o + k * es) ws) cty cfr) ∧ (∀ i, i ≠ b → W2.heap[i]? = W.heap[i]?) ∧ W2.heap.size = W.heap.size ∧ Same W W2 := by
 have m1 : (n + m) * es ≤ c * es := Nat.mul_le_mul_right es hroom
 have m2 : k * es ≤ n * es := Nat.mul_le_mul_right es (by omega)
 have e1 : (n + m) * es = n * es + m * es := Nat.add_mul ..
 have e2 : (k + m) * es = k * es + m * es := Nat.add_mul ..
 have hzE : ∀ w, (Go.sizeOf e).run P w = .ok es w := by intro w; rw [← hes]; exact L.zE w
 have htl : (os.drop (k * es)).length = (n - k) * es := by rw [List.length_drop, hos, Nat.sub_mul]
 have e3 : (n - k) * es = n * es - k * es := Nat.sub_mul ..
 obtain ⟨W1, r1, s1, s2, s3, s4⟩ := run_copy (P := P) L.tT hzE W.drew b (o + (k + m) * es) (n + m - (k + m)) ⟨b, o + k * es, none⟩ (n + m - k) (n - k) (nat_min (by omega) (by omega)) (os.drop (k * es)) htl
  (fun j w hj => by
   rw [Addr.add_lit, Nat.add_assoc]
   have : W.cell? ⟨b, o + (k * es + j), none⟩ = some w := by
    rw [cell_of_heap hcb]
    exact ho _ w (by rw [List.getElem?_drop] at hj; exact hj)
   exact this) (c := ca) (ct := cty) (fr := cfr) hcb (fun v hv => h1o v (List.mem_of_mem_drop hv)) (by omega) (fun j hj1 hj2 => hfz j (by omega) (by omega))
 obtain ⟨W2, q1, t1, t2, t3, t4⟩ := run_copy (P := P) L.tT hzE W1 b (o + k * es) (n + m - k) ⟨vb, vo, none⟩ m m (nat_min (by omega) (by omega)) ws hws
  (fun j w hj => by
   rw [Addr.add_lit]
   have h0 : W1.heap[vb]? = some (.cells cv vty vfr) := by rw [s2 vb hvb]; exact hcv
   rw [cell_of_heap h0]
   exact hw j w hj) (c := _) (ct := cty) (fr := cfr) s1 h1w (by rw [writeAt_size]; omega) (fun j hj1 hj2 => hfz j (by omega) (by omega))
 refine ⟨W2, ?_, t1, fun i hi => (t2 i hi).trans (s2 i hi), t3.trans s3, ((Same.drew W).trans s4).trans t4⟩
 refine ins_shift L b o es n c k vb vo m vc W W1 W2 hk hm hroom (by omega) hzE (fun lb cb => ?_) (fun ty dc sc => ?_) (fun ty dc => ?_)
 ·rw [L.hov, run_overlaps_apart W T B e L.tT es hzE ⟨vb, vo, none⟩ ⟨b, o + (k + m) * es, none⟩ m vc lb cb hvb vty cty cv.size ca.size]
  ·rfl
  ·simp [World.shape?, hcv]
  ·simp [World.shape?, hcb]
  ·have : 0 < c * es := Nat.mul_pos (by omega) hpos
   omega
  ·simp only [World.frozen?, hcv, Bool.and_eq_false_iff, decide_eq_false_iff_not]; omega
  ·simp only [World.frozen?, hcv, Bool.and_eq_false_iff, decide_eq_false_iff_not]; omega
 ·exact r1 ty dc sc
 ·exact q1 ty dc vc
end
section
variable {P : Program}
theorem ins_noroom {f : FuncId} {T e I B : TypeId} {ov rr : FuncId} {fn : Func} (L : InsAt P f T e I B ov rr fn) {W : World} {b o n c k vb vo m vc es : Nat} (hes : sz P e = es) {z : V} (hz : zeroOf P e = some z) (hzl : z.cells.length = es)
  (hbig : (n + m) * P.bytesOf e ≤ 35184372088832)
  (hk : k < n) (hm : 0 < m) (hnc : n ≤ c) (hroom : c < n + m) (hlim : n + m < 4294967296)
  {ca : Array Value} {cty : TypeId} {cfr : Nat × Nat} (hcb : W.heap[b]? = some (.cells ca cty cfr))
  {cv : Array Value} {vty : TypeId} {vfr : Nat × Nat} (hcv : W.heap[vb]? = some (.cells cv vty vfr))
  {os ws : List Value} (hos : os.length = n * es) (hws : ws.length = m * es) (ho : ∀ (j : Nat) (w : Value), os[j]? = some w → ca[o + j]? = some w) (hw : ∀ (j : Nat) (w : Value), ws[j]? = some w → cv[vo + j]? = some w)
  (h1o : ∀ v ∈ os, v.oneCell' = true) (h1w : ∀ v ∈ ws, v.oneCell' = true) (hpos : 0 < es) :
  ∃ W3 g row, n + m ≤ g ∧ Calls P f #[.slice (some ⟨b, o, none⟩) n c, .int .i64 k, .slice (some ⟨vb, vo, none⟩) m vc] W (fun e w' => e = .returned (.slice (some ⟨W.heap.size, 0, none⟩) (n + m) g) ∧ w' = W3) ∧
   row.size = g * es ∧ (∀ (j : Nat) (w : Value), j < k * es → os[j]? = some w → row[j]? = some w) ∧
   W3.heap[W.heap.size]? = some (.cells (writeAt (writeAt row (k * es) ws) ((k + m) * es) (os.drop (k * es))) e) ∧ (∀ i, i < W.heap.size → W3.heap[i]? = W.heap[i]?) ∧ W3.heap.size = W.heap.size + 1 ∧ Same W W3 := by
 have hzE : ∀ w, (Go.sizeOf e).run P w = .ok es w := by intro w; rw [← hes]; exact L.zE w
 obtain ⟨i, zw, hi, hzw, hzv⟩ := zeroOf_some hz
 have hisz : i.size = es := by rw [← sz_of_info hi]; exact hes
 have hib : P.bytesOf e = i.bytes := bytes_of_info hi
 have hzs : zw.cells.size = es := by
  have := (ofValue_VR (⟨fun _ => none, fun _ => none, fun _ => none, fun _ => 0⟩ : Gh) hzv).cells.length
  simp at this; omega
 have e1 : (n + m) * es = n * es + m * es := Nat.add_mul ..
 have e2 : (k + m) * es = k * es + m * es := Nat.add_mul ..
 have e3 : (n - k) * es = n * es - k * es := Nat.sub_mul ..
 have m2 : k * es ≤ n * es := Nat.mul_le_mul_right es (by omega)
 have hge := grownCap_ge W (n + m) c e (by omega)
 have hgs : (n + m) * es ≤ grownCap W (n + m) c e * es := Nat.mul_le_mul_right es hge
 rw [hib] at hbig
 have hkk : k + (n + m - k) = n + m := by omega
 have htk : (os.take (k * es)).length = k * es := by rw [List.length_take]; omega
 have hold : (Builtin.firstCells i.size k (.slice (some ⟨b, o, none⟩) k c)).run P W.drew = .ok (os.take (k * es)).toArray W.drew := by
  simp only [Builtin.firstCells]
  have := run_loadCells_list (P := P) W.drew ⟨b, o, none⟩ (os.take (k * es)) (fun j w hj => by
   rw [Addr.add_lit]
   have : W.cell? ⟨b, o + j, none⟩ = some w := by
    rw [cell_of_heap hcb]
    rw [List.getElem?_take] at hj
    split at hj
    ·exact ho j w hj
    ·cases hj
   exact this)
  rw [htk] at this
  rw [hisz]; exact this
 have hfit := growslice_fits (need := n + m) (old := c) (bytes := i.bytes) (by omega) (by omega)
 have hrz : ∀ ty, (Builtin.append_ #[T, I] ty #[.slice (some ⟨b, o, none⟩) k c, .int .i64 ((n : Int) + (m : Int) - (k : Int))]).run P W =
   .ok (.slice (some ⟨W.heap.size, 0, none⟩) (n + m) (grownCap W (n + m) c e)) (W.drew.alloc (.cells ((os.take (k * es)).toArray ++ Builtin.zeroCells zw.cells (n + m - k) ++ Builtin.zeroCells zw.cells (grownCap W (n + m) c e - (n + m))) e)) := fun ty => by
  have h48 : (n + m - k) * i.bytes ≤ 281474976710656 := by
   have : (n + m - k) * i.bytes ≤ (n + m) * i.bytes := Nat.mul_le_mul_right _ (by omega)
   omega
  have h := run_append_grow_zeros W T I ty e i zw .i64 .i64 L.tT L.tI hi hzw (some ⟨b, o, none⟩) k c (os.take (k * es)) hold (n + m - k) (by omega) (by omega) (by omega) (by omega) h48 (by rw [hkk]; exact hfit)
  rw [hkk] at h
  rw [show (n : Int) + (m : Int) - (k : Int) = ((n + m - k : Nat) : Int) by omega]
  exact h
 have hrs : ((os.take (k * es)).toArray ++ Builtin.zeroCells zw.cells (n + m - k) ++ Builtin.zeroCells zw.cells (grownCap W (n + m) c e - (n + m))).size = grownCap W (n + m) c e * es := by
  simp only [Array.size_append, List.size_toArray, zeroCells_size, htk, hzs]
  rw [← Nat.add_mul, ← Nat.add_mul]; congr 1; omega
 have hrow : ∀ (j : Nat) (w : Value), j < k * es → os[j]? = some w → ((os.take (k * es)).toArray ++ Builtin.zeroCells zw.cells (n + m - k) ++ Builtin.zeroCells zw.cells (grownCap W (n + m) c e - (n + m)))[j]? = some w := by
  intro j w hj hw
  rw [Array.append_assoc, Array.getElem?_append_left (by simp only [List.size_toArray, htk]; exact hj)]
  simp only [List.getElem?_toArray, List.getElem?_take, if_pos hj]; exact hw
 generalize hR : (os.take (k * es)).toArray ++ Builtin.zeroCells zw.cells (n + m - k) ++ Builtin.zeroCells zw.cells (grownCap W (n + m) c e - (n + m)) = row at hrz hrs hrow
 generalize hG : grownCap W (n + m) c e = g at hge hgs hrz hrs hR
 have hnew : (W.drew.alloc (.cells row e)).heap[W.heap.size]? = some (.cells row e (0, 0)) := heap_alloc_new W.drew (.cells row e)
 have hold1 : ∀ i, i < W.heap.size → (W.drew.alloc (.cells row e)).heap[i]? = W.heap[i]? := fun i hi => by
  show (W.heap.push (.cells row e))[i]? = _
  rw [Array.getElem?_push, if_neg (by omega)]
 have hbs : b < W.heap.size := (Array.getElem?_eq_some_iff.1 hcb).1
 have hvs : vb < W.heap.size := (Array.getElem?_eq_some_iff.1 hcv).1
 obtain ⟨W2, q1, t1, t2, t3, t4⟩ := run_copy (P := P) L.tT hzE (W.drew.alloc (.cells row e)) W.heap.size (k * es) (n + m - k) ⟨vb, vo, none⟩ m m (nat_min (by omega) (by omega)) ws hws
  (fun j w hj => by
   rw [Addr.add_lit]
   have h0 : (W.drew.alloc (.cells row e)).heap[vb]? = some (.cells cv vty vfr) := by rw [hold1 vb hvs]; exact hcv
   rw [cell_of_heap h0]
   exact hw j w hj) (c := row) (ct := e) (fr := (0, 0)) hnew h1w (by omega) (fun j _ _ => by simp)
 have htl : (os.drop (k * es)).length = (n - k) * es := by rw [List.length_drop, hos, Nat.sub_mul]
 obtain ⟨W3, r1, s1, s2, s3, s4⟩ := run_copy (P := P) L.tT hzE W2.drew W.heap.size ((k + m) * es) (n + m - (k + m)) ⟨b, o + k * es, none⟩ (n - k) (n - k) (nat_min (by omega) (by omega)) (os.drop (k * es)) htl
  (fun j w hj => by
   rw [Addr.add_lit, Nat.add_assoc]
   have h0 : W2.drew.heap[b]? = some (.cells ca cty cfr) := by
    show W2.heap[b]? = _
    rw [t2 b (by omega), hold1 b hbs]; exact hcb
   have : W2.drew.cell? ⟨b, o + (k * es + j), none⟩ = some w := by
    rw [cell_of_heap h0]
    exact ho _ w (by rw [List.getElem?_drop] at hj; exact hj)
   exact this) (c := _) (ct := e) (fr := (0, 0)) t1 (fun v hv => h1o v (List.mem_of_mem_drop hv)) (by rw [writeAt_size]; omega) (fun j _ _ => by simp)
 refine ⟨W3, g, row, hge, ?_, hrs, hrow, s1, fun i hi => ?_, ?_, (((Same.drew W).trans (Same.alloc _ _)).trans t4).trans ((Same.drew W2).trans s4)⟩
 ·exact ins_grow L b o W.heap.size es n c k vb vo m vc g W _ W2 W3 hk hm hnc hroom hge (by omega) hzE hrz (fun ty dc => q1 ty dc vc) r1
 ·rw [s2 i (by omega)]
  show W2.heap[i]? = _
  rw [t2 i (by omega)]; exact hold1 i hi
 ·rw [s3]
  show W2.heap.size = _
  rw [t3]; simp
end
section
variable {P : Program}
theorem insert_sound {f : FuncId} {T e I B : TypeId} {ov rr : FuncId} {fn : Func} (L : InsAt P f T e I B ov rr fn) {s i x v : V} {S S' : St} (h : insertV P T s i x S = .ok (v, S'))
  {F : Nat → Option Obj} {G : Gh} {W : World} (R : Rel F G S W.heap) {a b c : Value} (ha : VR G s a) (hb : VR G i b) (hc : VR G x c) :
  Calls P f #[a, b, c] W fun e W' => ∃ G' w, e = .returned w ∧ Sim F none G S W G' S' W' ∧ VR G' v w := by
 unfold insertV at h
 have het : elemT P T = some e := by unfold elemT; rw [L.tT]
 rw [het] at h
 split at h
 ·rename_i e0 i0 bb bv bes boff blen he0
  cases he0
  cases hb
  split at h
  ·cases h
  ·rename_i xs hxs
   rw [cond_eq_ite] at h
   split at h
   ·cases h
   ·rename_i hsz0
    have hpos : 0 < blen := by
     rcases Nat.eq_zero_or_pos blen with q | q
     ·subst q; simp at hsz0
     ·exact q
    have hend : ∀ {s : V} {a : Value} {v : V} {S' : St}, VR G s a → appendV P T s (.sl bb bv bes boff blen) none S = .ok (v, S') → ∃ W' G' w, (∀ ty, (Builtin.append_ #[T, T] ty #[a, c]).run P W = .ok w W') ∧ Sim F none G S W G' S' W' ∧ VR G' v w := by
     intro s a v S' ha hv
     obtain ⟨W', G', w, w1, w2, w3⟩ := append_sound (ty := T) (t := T) (u := T) (ts := #[T, T]) rfl rfl (.inl ⟨e, L.tT⟩) hv R (fun k hk => by cases hk) ha hc
     exact ⟨W', G', w, fun ty => w1, w2, w3⟩
    cases hc with
    | sl _ _ _ _ _ vp vn vc hvsl =>
     obtain ⟨rfl, hvc, LB, hLB, hvsl⟩ := hvsl
     split at h
     ·rw [cond_eq_ite] at h
      split at h
      ·rename_i hi0
       have hi0' : i0 = 0 := by simpa using hi0
       subst hi0'
       cases ha
       obtain ⟨W', G', w, w1, w2, w3⟩ := hend .nils h
       refine (ins_end L none 0 0 vn _ ⟨some vp, vc, rfl⟩ W W' hpos w (fun _ => rfl) (Nat.le_refl _) _ L.zE w1).mono ?_
       rintro e W2 ⟨rfl, rfl⟩
       exact ⟨G', w, rfl, w2, w3⟩
      ·cases h
     ·rename_i a0 ver es0 off len
      have ha' := ha
      cases ha with
      | sl _ _ _ _ _ p n c hsl =>
       obtain ⟨rfl, hnc, L0, hL0, hsl⟩ := hsl
       rw [cond_eq_ite] at h
       split at h
       ·rename_i hi0
        have hi0' : i0 = (n : Int) := by simpa using hi0
        subst hi0'
        obtain ⟨W', G', w, w1, w2, w3⟩ := hend ha' h
        refine (ins_end L (some p) n c vn _ ⟨some vp, vc, rfl⟩ W W' hpos w (fun h => by cases h) hnc _ L.zE w1).mono ?_
        rintro e W2 ⟨rfl, rfl⟩
        exact ⟨G', w, rfl, w2, w3⟩
       ·rename_i hin
        rw [cond_eq_ite] at h
        split at h
        ·cases h
        ·rename_i hck
         simp only [Bool.or_eq_true, Nat.beq_eq, decide_eq_true_eq, Bool.not_eq_true', not_or, Bool.not_eq_false, Bool.and_eq_true] at hck
         obtain ⟨⟨⟨hab, hi1⟩, hi2⟩, ⟨hall, hones⟩, hzf⟩ := hck
         split at h
         ·cases h
         ·rename_i es elems hrow
          have hr := getRow_ok hrow
          rw [cond_eq_ite] at h
          split at h
          ·rename_i hok
           simp only [Bool.and_eq_true, Nat.ble_eq, Nat.beq_eq, room, Nat.blt_eq] at hok
           obtain ⟨⟨⟨hle, hes⟩, hroom, hlm⟩, hone0⟩ := hok
           have hi0 : (i0.toNat : Int) = i0 := Int.toNat_of_nonneg (by omega)
           have hik : i0.toNat < n := by
            have : i0 ≠ (n : Int) := by simpa using hin
            omega
           generalize i0.toNat = k at hi0 hik h
           subst hi0
           cases h
           have hxl : ∀ cs ∈ xs, cs.length = es := by
            intro cs hcs
            have := List.all_eq_true.1 hall cs hcs
            rw [hes]; simpa using this
           have hes2 : 1 < es := by
            rcases Nat.lt_or_ge 1 es with q | q
            ·exact q
            ·rw [hes] at q
             exact absurd (by simp [q]) hsz0
           obtain ⟨z, hz, hzl⟩ : ∃ z, zeroOf P e = some z ∧ z.cells.length = es := by
            unfold zeroFits at hzf
            split at hzf
            ·rename_i z hz; exact ⟨z, hz, by rw [hes]; simpa using hzf⟩
            ·cases hzf
           unfold elemsOf at hxs
           simp only at hxs
           split at hxs
           ·cases hxs
           ·rename_i bes' belems hrowb
            have hrb := getRow_ok hrowb
            rw [cond_eq_ite] at hxs
            split at hxs
            ·rename_i hleb
             have hleb : boff + vn ≤ belems.length := by simpa using hleb
             cases hxs
             have hxn : ((belems.drop boff).take vn).length = vn := by simp; omega
             rw [hxn] at hroom hlm ⊢
             generalize hX : (belems.drop boff).take vn = xs at hall hones hxl hxn
             obtain ⟨L', hL', r1, r2, r3, ca, cty, cfr, hcb, r4, r5, r6⟩ := R.blk a0 _ hr
             rw [hL0] at hL'; cases hL'
             obtain ⟨L', hL', q1, q2, q3, cv, vty, vfr, hcv, q4, q5, q6⟩ := R.blk bb _ hrb
             rw [hLB] at hL'; cases hL'
             rcases hsl with hsl | ⟨_, _, hc2, hp⟩
             ·omega
             rcases hvsl with hvsl | ⟨_, _, hvc2, hvp⟩
             ·omega
             have hpe := hp (by omega)
             have hve := hvp (by omega)
             have hbesE : bes' = es := by
              have hin : boff < belems.length := by omega
              have hmem : belems[boff] ∈ xs := by
               rw [← hX, List.mem_iff_getElem?]
               exact ⟨0, by rw [List.getElem?_take, if_pos hpos]; simp⟩
              rw [← hxl _ hmem]
              exact ((q6 boff belems[boff] (by simp)).1).symm
             subst hbesE
             rw [r2] at hpe
             rw [q2] at hve
             subst hpe hve
             have hne : LB.cb ≠ L0.cb := by
              intro e0
              exact hab (R.inj a0 bb _ _ L0.cb hr hrb (.inl ⟨L0, hL0, rfl⟩) (.inl ⟨LB, hLB, e0⟩))
             obtain ⟨os, o1, o2⟩ := r6.flat off n hle
             obtain ⟨ws, w1, w2⟩ := q6.flat boff vn hleb
             rw [hX] at w1
             generalize hO : (elems.drop off).take n = old at o1 hone0 ⊢
             have hol : old.length = n := by rw [← hO]; simp; omega
             have holdl : ∀ x ∈ old, x.length = bes' := by
              intro x hx
              rw [← hO] at hx
              exact r6.lens x (List.mem_of_mem_drop (List.mem_of_mem_take hx))
             have hosl : os.length = n * bes' := by rw [← o1.length, flat_length _ _ holdl, hol]
             have hwl : ws.length = vn * bes' := by rw [← w1.length, flat_length _ _ hxl, hxn]
             have h1o : ∀ v ∈ os, v.oneCell' = true := o1.ones (by
              refine List.all_eq_true.2 fun v hv => ?_
              obtain ⟨l, hl, hvl⟩ := List.mem_flatten.1 hv
              exact allOne_mem (List.all_eq_true.1 hone0 l hl) hvl)
             have h1w : ∀ v ∈ ws, v.oneCell' = true := w1.ones (by
              refine List.all_eq_true.2 fun v hv => ?_
              obtain ⟨l, hl, hvl⟩ := List.mem_flatten.1 hv
              exact allOne_mem (List.all_eq_true.1 hones l hl) hvl)
             have hnl : (old.take k ++ (xs ++ old.drop k)).length = n + vn := by
              simp [hol, hxn]; omega
             have hcap : (off + c) * bes' ≤ L0.cap * bes' := Nat.mul_le_mul_right _ hc2
             have hbc : (boff + vc) * bes' ≤ LB.cap * bes' := Nat.mul_le_mul_right _ hvc2
             have hb1 : 1 * bes' ≤ vc * bes' := Nat.mul_le_mul_right _ (by omega)
             rw [Nat.add_mul] at hcap hbc
             have hkn : k * bes' ≤ n * bes' := Nat.mul_le_mul_right _ (by omega)
             have hkm : (k + vn) * bes' = k * bes' + vn * bes' := Nat.add_mul ..
             have hdl : (os.drop (k * bes')).length = n * bes' - k * bes' := by simp [hosl]
             unfold lim at hlm
             rcases Nat.lt_or_ge c (n + vn) with hfit | hfit
             ·
              obtain ⟨W3, g, row, hg, hcall, hrs, hrow0, s1, s2, s3, s4⟩ := ins_noroom L (W := W) (b := L0.cb) (o := L0.co + off * bes') (n := n) (c := c) (k := k) (vb := LB.cb) (vo := LB.co + boff * bes') (m := vn) (vc := vc) (es := bes') hes.symm hz hzl hroom hik hpos hnc hfit (by omega) hcb hcv hosl hwl o2 w2 h1o h1w (by omega)
              have hgs : (n + vn) * bes' ≤ g * bes' := Nat.mul_le_mul_right _ hg
              rw [Nat.add_mul] at hgs
              obtain ⟨g1, g2⟩ := R.setRow (H' := W3.heap) hr hL0 (L' := ⟨ver + 1, W.heap.size, 0, g, bes'⟩) (.inr (by simp; omega)) (.inr rfl)
               (fun i hi _ => s2 i hi) (by omega) (by simp; omega) (ver := ver + 1) (es := bes') (elems := old.take k ++ (xs ++ old.drop k))
               ⟨rfl, rfl, by simp only [hnl]; exact hg, _, e, (0, 0), s1, by rw [writeAt_size, writeAt_size, hrs]; simp, ⟨fun o _ _ => by simp, fun _ => by simp⟩, by
                refine (ins_row (os := os) (ws := ws) (n := n) (k := k) (m := vn) (Nat.le_of_lt hik) hol holdl hxl hxn o1 w1 (fun j w hj hw => ?_) (fun j w hw => ?_) (fun j w hj hw => ?_)).mono (G := G) (Gh.le_set hL0 (.inr (by simp; omega)))
                ·show (writeAt (writeAt row (k * bes') ws) ((k + vn) * bes') (os.drop (k * bes')))[0 + j]? = some w
                 rw [writeAt_get, if_neg (by omega), writeAt_get, if_neg (by omega), Nat.zero_add]
                 exact hrow0 j w hj hw
                ·have hjl : j < ws.length := (List.getElem?_eq_some_iff.1 hw).1
                 show (writeAt (writeAt row (k * bes') ws) ((k + vn) * bes') (os.drop (k * bes')))[0 + (k * bes' + j)]? = some w
                 rw [writeAt_get, if_neg (by omega), writeAt_get, if_pos (by omega)]
                 rw [show 0 + (k * bes' + j) - k * bes' = j by omega]; exact hw
                ·have hjl : j < os.length := (List.getElem?_eq_some_iff.1 hw).1
                 show (writeAt (writeAt row (k * bes') ws) ((k + vn) * bes') (os.drop (k * bes')))[0 + (vn * bes' + j)]? = some w
                 rw [writeAt_get, writeAt_size, if_pos (by omega)]
                 rw [List.getElem?_drop, show k * bes' + (0 + (vn * bes' + j) - (k + vn) * bes') = j by omega]; exact hw⟩
              refine hcall.mono ?_
              rintro e1 W' ⟨rfl, rfl⟩
              refine ⟨_, .slice (some ⟨W.heap.size, 0, none⟩) (n + vn) g, rfl, ⟨g1, g2, s4, Nat.le_refl _, fun y hy _ _ => ⟨?_, rfl⟩, fun y hy _ _ => ?_, fun _ => rfl⟩, ?_⟩
              ·have : y ≠ a0 := fun e => by rw [e, hr] at hy; cases hy
               simp [this]
              ·show (S.heap.put a0 _).get y = none
               rw [Tr.get_put_neB _ _ _ _ (R.small a0 _ hr) (fun e => by rw [e, hr] at hy; cases hy)]; exact hy
              ·exact .sl _ _ _ _ _ _ _ _ ⟨rfl, hg, ⟨ver + 1, W.heap.size, 0, g, bes'⟩, by simp, .inr ⟨rfl, rfl, by simp, fun _ => by simp⟩⟩
             ·
              have hfc : (n + vn) * bes' ≤ c * bes' := Nat.mul_le_mul_right _ hfit
              rw [Nat.add_mul] at hfc
              obtain ⟨W2, hcall, s1, s2, s3, s4⟩ := ins_room L (W := W) (b := L0.cb) (o := L0.co + off * bes') (n := n) (c := c) (k := k) (vb := LB.cb) (vo := LB.co + boff * bes') (m := vn) (vc := vc) (es := bes') hes.symm hik hpos hfit (by omega) hne
               hcb (by omega) (fun j hj1 hj2 => r5.1 j (by omega) (by omega)) hcv (q5.1 _ (by omega) (by omega)) (q5.2 (by omega)) hosl hwl o2 w2 h1o h1w (by omega)
              obtain ⟨g1, g2⟩ := R.setRow (H' := W2.heap) hr hL0 (L' := ⟨ver + 1, L0.cb, L0.co + off * bes', c, bes'⟩) (.inr (by simp; omega)) (.inl rfl)
               (fun i _ hi => s2 i hi) (by omega) (by have := R.lt a0 L0.cb (.inl ⟨L0, hL0, rfl⟩); simp only; omega) (ver := ver + 1) (es := bes') (elems := old.take k ++ (xs ++ old.drop k))
               ⟨rfl, rfl, by simp only [hnl]; exact hfit, _, cty, cfr, s1, by rw [writeAt_size, writeAt_size]; simp only; omega, ⟨fun o h1 h2 => r5.1 o (by simp only at h1; omega) (by simp only at h2; omega), fun h => by rw [writeAt_size, writeAt_size]; exact r5.2 h⟩, by
                refine (ins_row (os := os) (ws := ws) (n := n) (k := k) (m := vn) (Nat.le_of_lt hik) hol holdl hxl hxn o1 w1 (fun j w hj hw => ?_) (fun j w hw => ?_) (fun j w hj hw => ?_)).mono (G := G) (Gh.le_set hL0 (.inr (by simp; omega)))
                ·show (writeAt (writeAt ca (L0.co + off * bes' + (k + vn) * bes') (os.drop (k * bes'))) (L0.co + off * bes' + k * bes') ws)[L0.co + off * bes' + j]? = some w
                 rw [writeAt_get, if_neg (by omega), writeAt_get, if_neg (by omega)]
                 exact o2 j w hw
                ·have hjl : j < ws.length := (List.getElem?_eq_some_iff.1 hw).1
                 show (writeAt (writeAt ca (L0.co + off * bes' + (k + vn) * bes') (os.drop (k * bes'))) (L0.co + off * bes' + k * bes') ws)[L0.co + off * bes' + (k * bes' + j)]? = some w
                 rw [writeAt_get, writeAt_size, if_pos (by omega)]
                 rw [show L0.co + off * bes' + (k * bes' + j) - (L0.co + off * bes' + k * bes') = j by omega]; exact hw
                ·have hjl : j < os.length := (List.getElem?_eq_some_iff.1 hw).1
                 show (writeAt (writeAt ca (L0.co + off * bes' + (k + vn) * bes') (os.drop (k * bes'))) (L0.co + off * bes' + k * bes') ws)[L0.co + off * bes' + (vn * bes' + j)]? = some w
                 rw [writeAt_get, if_neg (by omega), writeAt_get, if_pos (by omega)]
                 rw [List.getElem?_drop, show k * bes' + (L0.co + off * bes' + (vn * bes' + j) - (L0.co + off * bes' + (k + vn) * bes')) = j by omega]; exact hw⟩
              refine hcall.mono ?_
              rintro e1 W' ⟨rfl, rfl⟩
              refine ⟨_, .slice (some ⟨L0.cb, L0.co + off * bes', none⟩) (n + vn) c, rfl, ⟨g1, g2, s4, Nat.le_refl _, fun y hy _ _ => ⟨?_, rfl⟩, fun y hy _ _ => ?_, fun _ => rfl⟩, ?_⟩
              ·have : y ≠ a0 := fun e => by rw [e, hr] at hy; cases hy
               simp [this]
              ·show (S.heap.put a0 _).get y = none
               rw [Tr.get_put_neB _ _ _ _ (R.small a0 _ hr) (fun e => by rw [e, hr] at hy; cases hy)]; exact hy
              ·exact .sl _ _ _ _ _ _ _ _ ⟨rfl, hfit, ⟨ver + 1, L0.cb, L0.co + off * bes', c, bes'⟩, by simp, .inr ⟨rfl, rfl, by simp, fun _ => by simp⟩⟩
            ·cases hxs
          ·cases h
     ·cases h
 ·cases h
end
end Go.AM
end
section
namespace Go.AM
def delCode (T I B : TypeId) : Code :=
 ((Code.region 0 #[
  { dst := some 6, op := Op.assign (Operand.const (Value.slice none 0 0)), type := T, pos := "slices.go:224", after := #[], guard := none }] false).seq ((Code.region 1 #[
  { dst := some 8, op := Op.move (Operand.tmp 0), type := T, pos := "slices.go:225", after := #[], guard := none },
  { dst := some 9, op := Op.move (Operand.tmp 1), type := I, pos := "slices.go:225", after := #[], guard := none },
  { dst := some 10, op := Op.move (Operand.tmp 2), type := I, pos := "slices.go:225", after := #[], guard := none },
  { dst := some 11, op := Op.move (Operand.tmp 0), type := T, pos := "slices.go:225", after := #[], guard := none },
  { dst := some 12, op := Op.call { callee := Callee.builtin Builtin.len, args := #[Operand.tmp 11], argTypes := #[T] }, type := I, pos := "slices.go:225", after := #[{ on := 3, ground := Ground.data }], guard := none },
  { dst := some 13, op := Op.slice T (Operand.tmp 8) (some (Operand.tmp 9)) (some (Operand.tmp 10)) (some (Operand.tmp 12)), type := T, pos := "slices.go:225", after := #[{ on := 0, ground := Ground.data }, { on := 1, ground := Ground.data }, { on := 2, ground := Ground.data }, { on := 4, ground := Ground.data }], guard := none }] false).seq (((Code.region 2 #[
  { dst := some 14, op := Op.move (Operand.tmp 1), type := I, pos := "slices.go:227", after := #[], guard := none },
  { dst := some 15, op := Op.move (Operand.tmp 2), type := I, pos := "slices.go:227", after := #[], guard := none },
  { dst := some 16, op := Op.binOp BinOp.eql I (Operand.tmp 14) (Operand.tmp 15) I, type := B, pos := "slices.go:227", after := #[{ on := 0, ground := Ground.data }, { on := 1, ground := Ground.data }], guard := none }] false).seq (Code.cond (Operand.tmp 16) ((Code.region 3 #[
  { dst := some 17, op := Op.move (Operand.tmp 0), type := T, pos := "slices.go:228", after := #[], guard := none },
  { dst := some 6, op := Op.assign (Operand.tmp 17), type := T, pos := "slices.go:228", after := #[{ on := 0, ground := Ground.data }, { on := 0, ground := Ground.phase }], guard := none }] false).seq Code.ret) Code.skip)).seq ((Code.region 4 #[
  { dst := some 18, op := Op.move (Operand.tmp 0), type := T, pos := "slices.go:231", after := #[], guard := none },
  { dst := some 19, op := Op.call { callee := Callee.builtin Builtin.len, args := #[Operand.tmp 18], argTypes := #[T] }, type := I, pos := "slices.go:231", after := #[{ on := 0, ground := Ground.data }], guard := none },
  { dst := some 7, op := Op.assign (Operand.tmp 19), type := I, pos := "slices.go:231", after := #[{ on := 1, ground := Ground.data }, { on := 0, ground := Ground.phase }, { on := 1, ground := Ground.phase }], guard := none }] false).seq ((Code.region 5 #[
  { dst := some 20, op := Op.move (Operand.tmp 0), type := T, pos := "slices.go:232", after := #[], guard := none },
  { dst := some 21, op := Op.move (Operand.tmp 1), type := I, pos := "slices.go:232", after := #[], guard := none },
  { dst := some 22, op := Op.slice T (Operand.tmp 20) none (some (Operand.tmp 21)) none, type := T, pos := "slices.go:232", after := #[{ on := 0, ground := Ground.data }, { on := 1, ground := Ground.data }], guard := none },
  { dst := some 23, op := Op.move (Operand.tmp 0), type := T, pos := "slices.go:232", after := #[], guard := none },
  { dst := some 24, op := Op.move (Operand.tmp 2), type := I, pos := "slices.go:232", after := #[], guard := none },
  { dst := some 25, op := Op.slice T (Operand.tmp 23) (some (Operand.tmp 24)) none none, type := T, pos := "slices.go:232", after := #[{ on := 3, ground := Ground.data }, { on := 4, ground := Ground.data }], guard := none },
  { dst := some 26, op := Op.call { callee := Callee.builtin Builtin.append, args := #[Operand.tmp 22, Operand.tmp 25], argTypes := #[T, T] }, type := T, pos := "slices.go:232", after := #[{ on := 2, ground := Ground.data }, { on := 5, ground := Ground.data }], guard := none },
  { dst := some 0, op := Op.assign (Operand.tmp 26), type := T, pos := "slices.go:232", after := #[{ on := 6, ground := Ground.data }, { on := 6, ground := Ground.chain }, { on := 0, ground := Ground.phase }, { on := 1, ground := Ground.phase }, { on := 2, ground := Ground.phase }, { on := 3, ground := Ground.phase }, { on := 4, ground := Ground.phase }, { on := 5, ground := Ground.phase }, { on := 6, ground := Ground.phase }], guard := none }] true).seq ((Code.region 6 #[
  { dst := some 27, op := Op.move (Operand.tmp 0), type := T, pos := "slices.go:233", after := #[], guard := none },
  { dst := some 28, op := Op.move (Operand.tmp 0), type := T, pos := "slices.go:233", after := #[], guard := none },
  { dst := some 29, op := Op.call { callee := Callee.builtin Builtin.len, args := #[Operand.tmp 28], argTypes := #[T] }, type := I, pos := "slices.go:233", after := #[{ on := 1, ground := Ground.data }], guard := none },
  { dst := some 30, op := Op.move (Operand.tmp 7), type := I, pos := "slices.go:233", after := #[], guard := none },
  { dst := some 31, op := Op.slice T (Operand.tmp 27) (some (Operand.tmp 29)) (some (Operand.tmp 30)) none, type := T, pos := "slices.go:233", after := #[{ on := 0, ground := Ground.data }, { on := 2, ground := Ground.data }, { on := 3, ground := Ground.data }], guard := none },
  { dst := none, op := Op.call { callee := Callee.builtin Builtin.clear, args := #[Operand.tmp 31], argTypes := #[T] }, type := 0, pos := "slices.go:233", after := #[{ on := 4, ground := Ground.data }], guard := none }] false).seq ((Code.region 7 #[
  { dst := some 32, op := Op.move (Operand.tmp 0), type := T, pos := "slices.go:234", after := #[], guard := none },
  { dst := some 6, op := Op.assign (Operand.tmp 32), type := T, pos := "slices.go:234", after := #[{ on := 0, ground := Ground.data }, { on := 0, ground := Ground.phase }], guard := none }] false).seq Code.ret)))))))
end Go.AM
end
section
namespace Go.AM
open Go.RowKit Go.Lib Go.Proofs Go.Shelf
section
variable {P : Program}
structure DelAt (P : Program) (f : FuncId) (T e I B : TypeId) (fn : Func) : Prop where
 mixed : P.follows .mixedOrders = true
 hf : P.funcs[f]? = some fn
 hb : fn.body = some (delCode T I B)
 hn : fn.ntmps = 33
 hr : fn.results = #[.tmp 6]
 tT : P.underlying T = some (.slice e)
 tI : P.underlying I = some (.int .i64)
 tB : P.underlying B = some .bool
 zE : ∀ w, (Go.sizeOf e).run P w = .ok (sz P e) w
 zT : ∀ w, (Go.sizeOf T).run P w = .ok 1 w
 zI : ∀ w, (Go.sizeOf I).run P w = .ok 1 w
 zB : ∀ w, (Go.sizeOf B).run P w = .ok 1 w
theorem wp_clear_runI (w : World) {o : Oper} {a : Act} {Q : Exit → Act → World → Prop} {K : Act → World → Prop} (x : Operand) (t : TypeId) (ho : o.op = .call { callee := .builtin .clear, args := #[x], argTypes := #[t] }) (u : Value) (hx : a.eval x = u)
  {v' : Value} {w' : World} (hr : (Builtin.clear_ #[t] o.type #[u]).run P w = .ok v' w') (hK : K (a.put o.dst v') w') : Oper.wp P o a w K Q := by
 unfold Oper.wp
 simp [execOp, ho, resolve, invoke, builtin, hx, hr, Result.andThen]
 exact hK
theorem wpList_clear_runI (w : World) {ops : Array Oper} {rest : List Oper} {o : Oper} {a : Act} {Q : Exit → Act → World → Prop} (hgd : o.guard = none) (x : Operand) (t : TypeId)
  (ho : o.op = .call { callee := .builtin .clear, args := #[x], argTypes := #[t] }) (u : Value) (hx : a.eval x = u) {v' : Value} {w' : World}
  (hr : (Builtin.clear_ #[t] o.type #[u]).run P w = .ok v' w') (h : wpList P ops Q rest (a.put o.dst v') w') : wpList P ops Q (o :: rest) a w :=
 wpList_plain hgd fun _ hK => wp_clear_runI w x t ho u hx hr (hK _ _ h)
set_option maxHeartbeats 4000000 in
set_option maxRecDepth 100000 in
theorem del_none {f : FuncId} {T e I B : TypeId} {fn : Func} (L : DelAt P f T e I B fn) (b off n c i : Nat) (w : World) (hin : i ≤ n) (hnc : n ≤ c) (sz : Nat) (hsz : ∀ w, (Go.sizeOf e).run P w = .ok sz w) (p : Addr) (hp : p.spot = none) :
    Calls P f #[.slice (some p) n c, .int .i64 i, .int .i64 i] w fun e w' => e = .returned (.slice (some p) n c) ∧ w' = w := by
  obtain ⟨pb, po, ps⟩ := p
  simp only at hp
  subst hp
  have tT := L.tT; have tI := L.tI; have tB := L.tB
  have uT := run_underlying L.tT; have uI := run_underlying L.tI; have uB := run_underlying L.tB
  have zT := L.zT; have zI := L.zI; have zB := L.zB
  have mixed := L.mixed
  have hic : i ≤ c := by omega
  refine calls_of_wp L.hf L.hb ?_
  have hr := L.hr
  simp only [L.hn, List.size_toArray, List.length_cons, List.length_nil, Nat.reduceAdd, Nat.reduceSub, Array.replicate_succ,
     Array.replicate_zero, List.push_toArray, List.append_toArray, List.nil_append, List.cons_append]
  unfold delCode
  go_wp2
  all_goals first | exact ⟨rfl, .slice (some ⟨pb, po, none⟩) n c, results_one hr rfl, rfl, rfl⟩ | exact ⟨rfl, .slice (some ⟨pb, po, none⟩) i c, results_one hr rfl, rfl, rfl⟩
set_option maxHeartbeats 4000000 in
set_option maxRecDepth 100000 in
theorem del_some {f : FuncId} {T e I B : TypeId} {fn : Func} (L : DelAt P f T e I B fn) (b off sz n c i j : Nat) (w W1 W2 : World) (hij : i < j) (hjn : j ≤ n) (hnc : n ≤ c) (hsz : ∀ w, (Go.sizeOf e).run P w = .ok sz w) (A : Addr)
    (hA : (if c = j then some (⟨b, off, none⟩ : Addr) else some ⟨b, off + j * sz, none⟩) = some A) (hc63 : n ≤ 9223372036854775807)
    (hfit : i + (n - j) ≤ c) (cells : Array Value) (hld : (loadCellsFrom A 0 ((n - j) * sz) #[]).run P w.drew = .ok cells w.drew) (hst : (storeCells ⟨b, off + i * sz, none⟩ cells.toList).run P w.drew = .ok () W1)
    (hcl : ∀ ty cx, (Builtin.clear_ #[T] ty #[.slice (some ⟨b, off + (i + (n - j)) * sz, none⟩) (n - (i + (n - j))) cx]).run P W1 = .ok (.tuple #[]) W2) :
    Calls P f #[.slice (some ⟨b, off, none⟩) n c, .int .i64 i, .int .i64 j] w fun e w' => e = .returned (.slice (some ⟨b, off, none⟩) (i + (n - j)) c) ∧ w' = W2 := by
  have tT := L.tT; have tI := L.tI; have tB := L.tB
  have uT := run_underlying L.tT; have uI := run_underlying L.tI; have uB := run_underlying L.tB
  have zT := L.zT; have zI := L.zI; have zB := L.zB
  have mixed := L.mixed
  have hne : ¬ ((i : Int) = (j : Int)) := by omega
  have hic : i ≤ c := by omega
  have hjc : j ≤ c := by omega
  have hcn : ¬ (c = i + (n - j)) := by omega
  refine calls_of_wp L.hf L.hb ?_
  have hr := L.hr
  simp only [L.hn, List.size_toArray, List.length_cons, List.length_nil, Nat.reduceAdd, Nat.reduceSub, Array.replicate_succ,
     Array.replicate_zero, List.push_toArray, List.append_toArray, List.nil_append, List.cons_append]
  unfold delCode
  go_wp2_with fail
  go_region_law_o fail
  go_wp2_with (at_builtin; refine wpList_clear_runI _ rfl _ _ rfl _ rfl (hcl _ _) ?_)
  refine ⟨rfl, .slice (some ⟨b, off, none⟩) (i + (n - j)) c, results_one hr rfl, rfl, rfl⟩
end
section
variable {P : Program}
theorem writeAt_append (c : Array Value) (o : Nat) (a b : List Value) : writeAt c o (a ++ b) = writeAt (writeAt c o a) (o + a.length) b := by
 induction a generalizing c o with
 | nil => simp [writeAt]
 | cons v a ih =>
  simp only [List.cons_append, writeAt, List.length_cons]
  rw [ih]
  congr 1; omega
theorem VRs.dropRows {G : Gh} {es : Nat} {old : List (List V)} {os : List Value} (hold : ∀ x ∈ old, x.length = es) (ho : VRs G old.flatten os) (j : Nat) (hj : j ≤ old.length) : VRs G (old.drop j).flatten (os.drop (j * es)) := by
 have hsplit : old.flatten = (old.take j).flatten ++ (old.drop j).flatten := by rw [← List.flatten_append, List.take_append_drop]
 have htl : (old.take j).flatten.length = j * es := by
  rw [flat_length es _ (fun x hx => hold x (List.mem_of_mem_take hx)), List.length_take, Nat.min_eq_left hj]
 have := ho.drop (j * es)
 rw [hsplit, ← htl, List.drop_left, htl] at this
 exact this
theorem delete_sound {f : FuncId} {T e I B : TypeId} {fn : Func} (L : DelAt P f T e I B fn) {s i j v : V} {S S' : St} (h : deleteV P T s i j S = .ok (v, S'))
  {F : Nat → Option Obj} {G : Gh} {W : World} (R : Rel F G S W.heap) {a b c : Value} (ha : VR G s a) (hb : VR G i b) (hc : VR G j c) :
  Calls P f #[a, b, c] W fun e W' => ∃ G' w, e = .returned w ∧ Sim F none G S W G' S' W' ∧ VR G' v w := by
 unfold deleteV at h
 have het : elemT P T = some e := by unfold elemT; rw [L.tT]
 rw [het] at h
 split at h
 ·rename_i e0 a0 ver es0 off len i0 j0 he0
  cases he0
  cases hb
  cases hc
  rw [cond_eq_ite] at h
  split at h
  ·cases h
  ·rename_i hck
   simp only [Bool.or_eq_true, decide_eq_true_eq, Bool.not_eq_true', not_or, Bool.not_eq_false, Nat.beq_eq, Nat.blt_eq] at hck
   obtain ⟨⟨⟨⟨hi0, hji⟩, hjn⟩, hlm⟩, hl0⟩ := hck
   have ha' := ha
   cases ha with
   | sl _ _ _ _ _ p n c hsl =>
    obtain ⟨rfl, hnc, L0, hL0, hsl⟩ := hsl
    have ei : ((i0.toNat : Nat) : Int) = i0 := Int.toNat_of_nonneg (by omega)
    have ej : ((j0.toNat : Nat) : Int) = j0 := Int.toNat_of_nonneg (by omega)
    generalize i0.toNat = i at ei h
    generalize j0.toNat = j at ej h
    subst ei ej
    have hij : i ≤ j := by omega
    have hjn' : j ≤ n := by omega
    rw [cond_eq_ite] at h
    split at h
    ·rename_i heq
     have heq' : (i : Int) = (j : Int) := by simpa using heq
     have heq2 : i = j := by omega
     clear heq heq'
     subst heq2
     split at h
     ·rename_i x hrow
      cases h
      obtain ⟨es, elems⟩ := x
      have hr := getRow_ok hrow
      obtain ⟨L', hL', r1, r2, r3, ca, cty, cfr, hcb, r4, r5, r6⟩ := R.blk a0 _ hr
      rw [hL0] at hL'; cases hL'
      rcases hsl with hsl | ⟨_, _, hc2, hp⟩
      ·omega
      ·have hp' := hp (by omega)
       refine (del_none L 0 0 n c i W hjn' hnc _ L.zE p (by rw [hp'])).mono ?_
       rintro e1 W' ⟨rfl, rfl⟩
       exact ⟨G, _, rfl, Sim.refl R, ha'⟩
     ·cases h
    ·rename_i hne
     have hlt : i < j := by
      have : ¬ ((i : Int) = (j : Int)) := by simpa using hne
      omega
     split at h
     ·rename_i z es elems hz hrow
      have hr := getRow_ok hrow
      rw [cond_eq_ite] at h
      split at h
      ·rename_i hok
       cases h
       simp only [Bool.and_eq_true, Nat.beq_eq, Nat.ble_eq] at hok
       obtain ⟨⟨hes, hle⟩, hone⟩ := hok
       obtain ⟨ti, zw, hti, hzw, his, hzl, hz1, hzs, hzv, hzr⟩ := zeroOne_some hz
       obtain ⟨L', hL', r1, r2, r3, ca, cty, cfr, hcb, r4, r5, r6⟩ := R.blk a0 _ hr
       rw [hL0] at hL'; cases hL'
       rcases hsl with hsl | ⟨_, _, hc2, hp⟩
       ·omega
       have hp' := hp (by omega)
       rw [r2] at hp'
       subst hp'
       obtain ⟨os, o1, o2⟩ := r6.flat off n hle
       generalize hO : (elems.drop off).take n = old at o1 hone ⊢
       have hol : old.length = n := by rw [← hO]; simp; omega
       have holdl : ∀ x ∈ old, x.length = es := by
        intro x hx
        rw [← hO] at hx
        exact r6.lens x (List.mem_of_mem_drop (List.mem_of_mem_take hx))
       have hosl : os.length = n * es := by rw [← o1.length, flat_length _ _ holdl, hol]
       have h1o : ∀ v ∈ os, v.oneCell' = true := o1.ones (by
        refine List.all_eq_true.2 fun v hv => ?_
        obtain ⟨l, hl, hvl⟩ := List.mem_flatten.1 hv
        exact allOne_mem (List.all_eq_true.1 hone l hl) hvl)
       have hzE : ∀ w, (Go.sizeOf e).run P w = .ok es w := by intro w; rw [hes]; exact L.zE w
       have hcap : (off + c) * es ≤ L0.cap * es := Nat.mul_le_mul_right _ hc2
       have hncs : n * es ≤ c * es := Nat.mul_le_mul_right _ hnc
       rw [Nat.add_mul] at hcap
       have hjs : j * es ≤ n * es := Nat.mul_le_mul_right _ hjn'
       have his' : i * es + (j - i) * es = j * es := by rw [← Nat.add_mul]; congr 1; omega
       have hnj : j * es + (n - j) * es = n * es := by rw [← Nat.add_mul]; congr 1; omega
       have hink : (i + (n - j)) * es = i * es + (n - j) * es := Nat.add_mul ..
       have hdl : (os.drop (j * es)).length = (n - j) * es := by rw [List.length_drop, hosl]; omega
       obtain ⟨W1, s1, s2, s3, s4, s5⟩ := run_storeCells (P := P) (b := L0.cb) (o := L0.co + off * es + i * es) (ty := cty) (fr := cfr) (os.drop (j * es)) 0 W.drew ca hcb
        (fun v hv => h1o v (List.mem_of_mem_drop hv)) (by rw [hdl]; omega) (fun k hk1 hk2 => r5.1 k (by omega) (by rw [hdl] at hk2; omega))
       simp only [Nat.add_zero] at s2
       have hml : ∀ x ∈ List.replicate (j - i) z, x.length = es := fun x hx => by rw [List.eq_of_mem_replicate hx, hzl, hes]
       have hzz := zeros_sound (hzv G) (j - i)
       have hzc : (Builtin.zeroCells zw.cells (j - i)).toList.length = (j - i) * es := by
        show (Builtin.zeroCells zw.cells (j - i)).size = (j - i) * es
        rw [zeroCells_size, hzs, hes]
       obtain ⟨W2, t1, t2, t3, t4, t5⟩ := run_storeCells (P := P) (b := L0.cb) (o := L0.co + off * es + (i + (n - j)) * es) (ty := cty) (fr := cfr) (Builtin.zeroCells zw.cells (j - i)).toList 0 W1 _ s2
        (hzz.ones (ones_replicate hz1 (j - i))) (by rw [writeAt_size, hzc]; omega) (fun k hk1 hk2 => r5.1 k (by omega) (by rw [hzc] at hk2; omega))
       simp only [Nat.add_zero] at t2
       have hA : ∃ A : Addr, (if c = j then some (⟨L0.cb, L0.co + off * es, none⟩ : Addr) else some ⟨L0.cb, L0.co + off * es + j * es, none⟩) = some A ∧
         (loadCellsFrom A 0 ((n - j) * es) #[]).run P W.drew = .ok (os.drop (j * es)).toArray W.drew := by
        by_cases hcj : c = j
        ·refine ⟨⟨L0.cb, L0.co + off * es, none⟩, by simp [hcj], ?_⟩
         have h0 : n - j = 0 := by omega
         have : os.drop (j * es) = [] := List.eq_nil_of_length_eq_zero (by rw [hdl, h0]; simp)
         rw [this, h0]
         simp [loadCellsFrom]
        ·refine ⟨⟨L0.cb, L0.co + off * es + j * es, none⟩, by simp [hcj], ?_⟩
         have := run_loadCells_list (P := P) W.drew ⟨L0.cb, L0.co + off * es + j * es, none⟩ (os.drop (j * es)) (fun q w hq => by
          rw [Addr.add_lit, Nat.add_assoc]
          have : W.cell? ⟨L0.cb, L0.co + off * es + (j * es + q), none⟩ = some w := by
           rw [cell_of_heap hcb]
           exact o2 _ w (by rw [List.getElem?_drop] at hq; exact hq)
          exact this)
         rw [hdl] at this
         exact this
       obtain ⟨A, hA, hld⟩ := hA
       have hcl : ∀ ty cx, (Builtin.clear_ #[T] ty #[.slice (some ⟨L0.cb, L0.co + off * es + (i + (n - j)) * es, none⟩) (n - (i + (n - j))) cx]).run P W1 = .ok (.tuple #[]) W2 := by
        intro ty cx
        rw [show n - (i + (n - j)) = j - i by omega]
        obtain ⟨m, hm⟩ : ∃ m, j - i = m + 1 := ⟨j - i - 1, by omega⟩
        rw [hm] at t1 ⊢
        simp [Builtin.clear_, run_underlying L.tT, hzr]
        rw [t1]; rfl
       have hw := del_some L L0.cb (L0.co + off * es) es n c i j W W1 W2 hlt hjn' hnc hzE A hA (by unfold lim at hlm; omega) (by omega) _ hld (by simpa using s1) hcl
       refine hw.mono ?_
       rintro e1 W' ⟨rfl, rfl⟩
       have hm2 : ∀ x ∈ old.drop j ++ List.replicate (j - i) z, x.length = es := by
        intro x hx
        rcases List.mem_append.1 hx with hx | hx
        ·exact holdl x (List.mem_of_mem_drop hx)
        ·exact hml x hx
       have hmlen : (old.drop j ++ List.replicate (j - i) z).length = n - i := by simp [hol]; omega
       have hle' : off + i + (old.drop j ++ List.replicate (j - i) z).length ≤ elems.length := by rw [hmlen]; omega
       have hcs : elems.length * es ≤ L0.cap * es := Nat.mul_le_mul_right _ r3
       have hmem : W'.heap[L0.cb]? = some (.cells (writeAt ca (L0.co + (off + i) * es) (os.drop (j * es) ++ (Builtin.zeroCells zw.cells (j - i)).toList)) cty cfr) := by
        rw [t2, writeAt_append, hdl]
        rw [show L0.co + (off + i) * es = L0.co + off * es + i * es by rw [Nat.add_mul]; omega]
        rw [show L0.co + off * es + i * es + (n - j) * es = L0.co + off * es + (i + (n - j)) * es by omega]
       refine ⟨G, _, rfl, ⟨G.le_refl, ?_, ((Same.drew W).trans s5).trans t5, Nat.le_refl _, fun _ _ _ _ => ⟨rfl, rfl⟩, fun x hx _ _ => ?_, fun _ => rfl⟩, ?_⟩
       ·refine R.keepRow hr hL0 (fun k hk => (t3 k hk).trans (s3 k hk)) (t4.trans s4) ⟨r1, r2, by rw [spliceL_length _ _ _ hle']; exact r3, _, cty, cfr, hmem, by rw [writeAt_size]; exact r4, ⟨r5.1, by rw [writeAt_size]; exact r5.2⟩, ?_⟩
        refine r6.over hm2 ?_ hle' (by omega)
        rw [List.flatten_append]
        exact (VRs.dropRows holdl o1 j (by omega)).append hzz
       ·show (S.heap.put a0 _).get x = none
        rw [Tr.get_put_neB _ _ _ _ (R.small a0 _ hr) (fun e => by rw [e, hr] at hx; cases hx)]; exact hx
       ·rw [show n - (j - i) = i + (n - j) by omega]
        refine .sl _ _ _ _ _ _ _ _ ⟨rfl, by omega, L0, hL0, .inr ⟨by omega, by omega, hc2, fun _ => by rw [r2]⟩⟩
      ·cases h
     ·cases h
 ·cases h
end
end Go.AM
end
section
namespace Go.AM
theorem lookN_mem {α : Type} {n : Nat} {x : α} : ∀ {l : List (Nat × α)}, lookN n l = some x → (n, x) ∈ l
 | [], h => by cases h
 | (m, y) :: l, h => by
  simp only [lookN, cond_eq_ite] at h
  split at h
  ·rename_i hb
   have := Nat.eq_of_beq_eq_true hb
   cases h; subst this
   exact List.mem_cons_self ..
  ·exact List.mem_cons_of_mem _ (lookN_mem h)
structure SpecOK (P : Program) (f : FuncId) (g : List V → St → R (V × St)) : Prop where
 enters : ∃ fn c, P.funcs[f]? = some fn ∧ (fn.name == "runtime.NumGoroutine") = false ∧ fn.body = some c
 calls : ∀ {args : List V} {S S' : St} {v : V}, g args S = .ok (v, S') → ∀ {F : Nat → Option Obj} {G : Gh} {W : World} {cs : List Value}, Rel F G S W.heap → VRs G args cs →
  Calls P f cs.toArray W fun e W' => ∃ G' w, e = .returned w ∧ Sim F none G S W G' S' W' ∧ VR G' v w
structure PlansOK (P : Program) (pl : Plans) : Prop where
 mixed : P.follows .mixedOrders = true
 ok : ∀ f p, pl f = some (.code p) → funcOK P p f = true
 sp : ∀ f g, pl f = some (.spec g) → SpecOK P f g
def SpAll (P : Program) : SpTab → Prop
 | [] => True
 | (f, x) :: l => SpecOK P f (x.run P) ∧ SpAll P l
theorem SpAll.mem {P : Program} {f : FuncId} {x : Sp} : ∀ {l : SpTab}, SpAll P l → (f, x) ∈ l → SpecOK P f (x.run P)
 | (_, _) :: _, h, hm => by
  rcases List.mem_cons.1 hm with e | hm
  ·cases e; exact h.1
  ·exact SpAll.mem h.2 hm
theorem plansOK_of {P : Program} {sp : SpTab} {t : PlTab} (hm : P.follows .mixedOrders = true) (hs : SpAll P sp) (h : tabOK P t = true) : PlansOK P (plansOf P sp t) := by
 refine ⟨hm, fun f p hp => ?_, fun f g hp => ?_⟩ <;> unfold plansOf at hp
 ·split at hp
  ·cases hp
  ·split at hp
   ·rename_i l hl
    cases hp
    exact List.all_eq_true.1 h (f, l) (lookN_mem hl)
   ·cases hp
 ·split at hp
  ·rename_i x hl
   cases hp
   exact hs.mem (lookN_mem hl)
  ·split at hp <;> cases hp
theorem sp3 {P : Program} {f : FuncId} {args : List V} {S S' : St} {v : V} {s i x : V} (he : args = [s, i, x])
  {F : Nat → Option Obj} {G : Gh} {W : World} {cs : List Value} (hvs : VRs G args cs)
  (K : ∀ {a b c : Value}, VR G s a → VR G i b → VR G x c → Calls P f #[a, b, c] W fun e W' => ∃ G' w, e = .returned w ∧ Sim F none G S W G' S' W' ∧ VR G' v w) :
  Calls P f cs.toArray W fun e W' => ∃ G' w, e = .returned w ∧ Sim F none G S W G' S' W' ∧ VR G' v w := by
 subst he
 cases hvs with
 | cons _ a1 _ _ h1 t => cases t with
  | cons _ a2 _ _ h2 t => cases t with
   | cons _ a3 _ _ h3 t => cases t with
    | nil => exact K h1 h2 h3
theorem spec_insert {P : Program} {f : FuncId} {T e I B : TypeId} {ov rr : FuncId} {fn : Func} (L : InsAt P f T e I B ov rr fn) (hn : (fn.name == "runtime.NumGoroutine") = false) : SpecOK P f ((Sp.ins T).run P) := by
 refine ⟨⟨fn, _, L.hf, hn, L.hb⟩, fun {args S S' v} h => ?_⟩
 intro F G W cs R hvs
 have hd : ∃ s i x, args = [s, i, x] ∧ insertV P T s i x S = .ok (v, S') := by
  match args, h with
  | [s, i, x], h => exact ⟨s, i, x, rfl, h⟩
 obtain ⟨s, i, x, he, h⟩ := hd
 exact sp3 he hvs fun h1 h2 h3 => insert_sound L h R h1 h2 h3
theorem spec_delete {P : Program} {f : FuncId} {T e I B : TypeId} {fn : Func} (L : DelAt P f T e I B fn) (hn : (fn.name == "runtime.NumGoroutine") = false) : SpecOK P f ((Sp.del T).run P) := by
 refine ⟨⟨fn, _, L.hf, hn, L.hb⟩, fun {args S S' v} h => ?_⟩
 intro F G W cs R hvs
 have hd : ∃ s i x, args = [s, i, x] ∧ deleteV P T s i x S = .ok (v, S') := by
  match args, h with
  | [s, i, x], h => exact ⟨s, i, x, rfl, h⟩
 obtain ⟨s, i, x, he, h⟩ := hd
 exact sp3 he hvs fun h1 h2 h3 => delete_sound L h R h1 h2 h3
theorem argsEnv_get : ∀ (l : List V) (i : Nat) (e : Env) (t : Nat), i + l.length ≤ lim → (argsEnv i l e).get t = if i ≤ t ∧ t < i + l.length then l[t - i]? else e.get t
 | [], i, e, t, _ => by simp [argsEnv]; intro h1 h2; omega
 | v :: l, i, e, t, h => by
  simp only [List.length_cons] at h
  simp only [argsEnv, List.length_cons]
  rw [argsEnv_get l (i + 1) _ t (by omega)]
  by_cases h1 : t = i
  ·subst h1
   rw [if_neg (by omega), if_pos (by omega), Tr.get_put_same _ _ _ (by omega)]; simp
  ·rw [Tr.get_put_ne _ _ _ _ (by omega) h1]
   by_cases h2 : i + 1 ≤ t ∧ t < i + 1 + l.length
   ·rw [if_pos h2, if_pos (by omega), show t - i = (t - (i + 1)) + 1 by omega]; simp
   ·rw [if_neg h2, if_neg (by omega)]
theorem loadAt_asAddr {P : Program} {t : TypeId} {p : V} {v : V} {G : Gh} {q w : Value} {W : World} {S : St} (hv : loadV P t p S = .ok v) (hq : VR G p q) (h : (Instr.loadAt t q).run P W = .ok w W) :
  (do loadVar t (← asAddr q) : Sem Value).run P W = .ok w W := by
 cases hq with
 | ptr _ _ _ _ ad hp => exact h
 | iptr _ _ b o c ty fr hb vs hv hvs => exact h
 | _ => cases hv
theorem resV_sound {P : Program} {F : Nat → Option Obj} {G : Gh} {S : St} {W : World} (R : Rel F G S W.heap) {n : Nat} {e : Env} {tmps : Array Value} (he : EnvR G n e tmps) :
  ∀ {l : List ResultVar} {vs : List V}, resV P e S l = .ok vs → ∃ ws : List Value, (l.mapM (resSem tmps)).run P W = Result.ok ws W ∧ VRs G vs ws
 | [], vs, h => by
  cases h
  exact ⟨[], rfl, .nil⟩
 | .tmp t :: l, vs, h => by
  simp only [resV] at h
  split at h
  ·rename_i v vs' hv hvs
   cases h
   obtain ⟨ws, w1, w2⟩ := resV_sound R he hvs
   obtain ⟨w, h1, h2⟩ := he.2 t v hv
   refine ⟨w :: ws, ?_, .cons _ _ _ _ h2 w2⟩
   have hd : tmps.getD t undef = w := by simp [h1]
   simp only [List.mapM_cons, Sem.run_bind, resSem, hd, Sem.run_pure, Result.andThen_ok, w1]
  ·cases h
  ·cases h
 | .cell a t :: l, vs, h => by
  simp only [resV] at h
  split at h
  ·cases h
  ·rename_i p hp
   split at h
   ·rename_i v vs' hv hvs
    cases h
    obtain ⟨ws, w1, w2⟩ := resV_sound R he hvs
    obtain ⟨w, h1, h2⟩ := he.2 a p hp
    have hd : tmps.getD a undef = w := by simp [h1]
    obtain ⟨u, u1, u2⟩ := load_sound hv R h2
    refine ⟨u :: ws, ?_, .cons _ _ _ _ u2 w2⟩
    have := loadAt_asAddr hv h2 u1
    simp only [List.mapM_cons, Sem.run_bind (f := fun _ => _) , resSem, hd]
    rw [Sem.run_bind, this]
    simp only [Result.andThen_ok, Sem.run_bind, w1, Sem.run_pure]
   ·cases h
   ·cases h
theorem resOut_VR {G : Gh} {vs : List V} {ws : List Value} (h : VRs G vs ws) : VR G (resOne vs) (resOut ws) := by
 cases h with
 | nil => exact .tup [] #[] .nil
 | cons v w vs ws h t =>
  cases t with
  | nil => exact h
  | cons v2 w2 vs2 ws2 h2 t2 => exact .tup _ _ (.cons _ _ _ _ h (.cons _ _ _ _ h2 t2))
theorem callF_sound {P : Program} {pl : Plans} (hp : PlansOK P pl) : ∀ k, CallOK P (callF P pl k)
 | 0 => by
  refine ⟨?_, ?_⟩
  ·intro f args S r h; cases h
  ·intro f args S v S' h; cases h
 | k + 1 => by
  have ih := callF_sound hp k
  refine ⟨?_, ?_⟩
  ·intro f args S r h cs W
   simp only [callF] at h
   split at h
   ·cases h
   ·rename_i g hpl
    obtain ⟨fn, c, hf, hn, hb⟩ := (hp.sp f g hpl).enters
    unfold callFunc
    rw [Sem.run_bind, show Sem.run P program W = .ok P W from rfl]
    simp only [Result.andThen_ok, hf, hn, hb]
    rfl
   ·rename_i p hpl
    split at h
    ·cases h
    ·rename_i fn hf
     split at h
     ·cases h
     ·rename_i c hb
      have hok := hp.ok f p hpl
      unfold funcOK at hok
      rw [hf] at hok
      simp only [Bool.and_eq_true, Bool.not_eq_true'] at hok
      unfold callFunc
      rw [Sem.run_bind, show Sem.run P program W = .ok P W from rfl]
      simp only [Result.andThen_ok, hf, hok.1, hb]
      rfl
  ·intro f args S v S' h F G W cs R hvs
   simp only [callF] at h
   split at h
   ·cases h
   ·rename_i g hpl
    exact (hp.sp f g hpl).calls h R hvs
   ·rename_i p hpl
    split at h
    ·cases h
    ·rename_i fn hf
     split at h
     ·cases h
     ·rename_i c hb
      have hok := hp.ok f p hpl
      unfold funcOK at hok
      rw [hf] at hok
      simp only [Bool.and_eq_true, hb] at hok
      rw [cond_eq_ite] at h
      split at h
      ·rename_i hsz
       simp only [Bool.and_eq_true, Nat.ble_eq, Nat.blt_eq] at hsz
       obtain ⟨hl, hn⟩ := hsz
       have hcl := hvs.length
       refine calls_of_wp hf hb ?_
       have he : EnvR G fn.ntmps (argsEnv 0 args .nil) (cs.toArray ++ Array.replicate (fn.ntmps - cs.toArray.size) undef) := by
        refine ⟨by simp; omega, fun t v ht => ?_⟩
        rw [argsEnv_get _ _ _ _ (by omega)] at ht
        split at ht
        ·rename_i hlt
         obtain ⟨w, w1, w2⟩ := hvs.get (i := t) (by simpa using ht)
         refine ⟨w, ?_, w2⟩
         rw [Array.getElem?_append_left (by simp; omega)]
         simpa using w1
        ·rw [Tr.get_nil] at ht; cases ht
       split at h
       ·cases h
       ·cases h
       ·rename_i x e1 S1 hne hx
        split at h
        ·rename_i vs hr
         cases h
         refine exec_sound ih hp.mixed hn c hok.2 hx R he fun G' W' a' q1 q2 q3 => ?_
         obtain ⟨ws, w1, w2⟩ := resV_sound q1.rel q2 hr
         have hres := results_sound w1
         have : a'.defers = [] ∧ ∃ v, (results fn a'.tmps).run P W' = .ok v W' ∧ ∃ G' w, Ending.returned v = .returned w ∧ Sim F none G S W G' S' W' ∧ VR G' (resOne vs) w :=
          ⟨q3, _, hres, G', _, rfl, q1, resOut_VR w2⟩
         cases x with
         | normal => exact this
         | ret => exact this
         | exit id => exact (hne id rfl).elim
        ·cases h
      ·cases h
def Gh.none : Gh := ⟨fun _ => .none, fun _ => .none, fun _ => .none, fun _ => 0⟩
def St.empty : St := ⟨0, .nil⟩
abbrev An := Option (V × St)
abbrev KS := V → St → An
abbrev KN := Env → St → An
abbrev CallD := FuncId → List V → St → KS → An
def dO {α : Type} (x : Option α) (K : α → An) : An := match x with
 | some a => K a
 | none => none
def dR {α : Type} (x : R α) (K : α → An) : An := match x with
 | .ok a => K a
 | .error _ => none
def dIf (b : Bool) (x : An) : An := match b with
 | true => x
 | false => none
def pickD (v : V) (x y : An) : An := match v with
 | .bool true => x
 | .bool false => y
 | _ => none
def pickR (c a b : V) : R V := match c with
 | .bool true => .ok a
 | .bool false => .ok b
 | _ => .error "pick"
def outD (v : V) (x : An) : An := match v with
 | .tup _ => x
 | _ => none
def memN (j : Nat) : List Nat → Bool
 | [] => false
 | i :: l => match Nat.beq i j with
  | true => true
  | false => memN j l
def nilD (v : V) (x : An) : An := match v with
 | .ptr _ _ _ _ => x
 | .iptr _ _ => x
 | _ => none
def tupD (v : V) (i : Nat) (K : V → An) : An := match v with
 | .tup vs => dO vs[i]? K
 | _ => none
def unD (vs : List V) (K : V → List V → An) : An := match vs with
 | v :: r => K v r
 | [] => none
def loopD : Nat → List V → St → (List V → St → (List V → St → An) → An) → An
 | 0, _, _, _ => none
 | k + 1, vs, S, F => F vs S (fun vs S => loopD k vs S F)
def nthF : List Func → Nat → Option Func
 | [], _ => none
 | f :: _, 0 => some f
 | _ :: l, n + 1 => nthF l n
def hasText (P : Program) (g : FuncId) : Option (Option Func) := match nthF P.funcs.toList g with
 | none => none
 | some fn => match fn.body with
  | some _ => some none
  | none => some (some fn)
def callOD (P : Program) (C : CallD) (g : FuncId) (args : List V) (S : St) (K : KS) : An :=
 dO (hasText P g) fun x => match x with
  | none => C g args S K
  | some fn => dR (externV fn args) fun v => K v S
def funD (P : Program) (C : CallD) (v : V) (args : List V) (S : St) (K : KS) : An := match v with
 | .func g first captured => callOD P C g (first ++ args ++ captured) S K
 | _ => none
def invD (P : Program) (C : CallD) (v : V) (name : String) (args : List V) (S : St) (K : KS) : An := match v with
 | .iface t v => dO (methodV P t name) fun g => callOD P C g (v :: args) S K
 | _ => none
def isText (P : Program) (t : TypeId) : Bool := match P.underlying t with
 | some .string => true
 | _ => false
def rangeV (v : V) (fr : Option Nat) (S : St) : R (V × St) := match v with
 | .str s => (match newBlk fr S (.iter s 0) with
  | .ok (a, S') => .ok (.ptr a 0 0 0, S')
  | .error e => .error e)
 | _ => .error "range"
def nextV (v : V) (S : St) : R (V × St) := match v with
 | .ptr a 0 0 0 => (match S.heap.get a with
  | some (.iter s pos) => (match Nat.blt pos s.length with
   | true => (match s[pos]? with
    | some b => (match Nat.blt b.toNat 128 with
     | true => .ok (.tup [.bool true, .int .i64 pos, .int .i32 b.toNat], ⟨S.next, S.heap.put a (.iter s (pos + 1))⟩)
     | false => .ok (.tup [.bool true, .int .i64 pos, .int .i32 (Utf8.decode ⟨⟨s⟩⟩ pos).1], ⟨S.next, S.heap.put a (.iter s (pos + (Utf8.decode ⟨⟨s⟩⟩ pos).2))⟩))
    | none => .error "next")
   | false => .ok (.tup [.bool false], S))
  | _ => .error "next")
 | _ => .error "next"
def builtD (P : Program) (b : Builtin) (ts : Array TypeId) (args : List V) (fr : Option Nat) (S : St) (K : KS) : An :=
 match b, args with
 | .len, [x] => dO ts[0]? fun t => dR (lenV P t x S) fun v => K v S
 | .min, args => dR (minV args) fun v => K v S
 | .max, args => dR (maxV args) fun v => K v S
 | .append, [s, x] => dO ts[0]? fun t => dO ts[1]? fun u => (match P.underlying u with
  | some (.slice _) => dR (appendV P t s x fr S) fun r => K r.1 r.2
  | some .string => dR (appendV P t s x fr S) fun r => K r.1 r.2
  | _ => none)
 | .clear, [x] => dO ts[0]? fun t => dR (clearV P t x S) fun r => K r.1 r.2
 | _, _ => none
def opD (P : Program) (C : CallD) (o : Oper) (fr : Option Nat) (e : Env) (S : St) (K : KS) : An :=
 match o.op with
 | .move x => dO (ev e x) fun v => K v S
 | .assign x => dO (ev e x) fun v => K v S
 | .pick c a b => dO (ev e c) fun c => dO (ev e a) fun a => dO (ev e b) fun b => dR (pickR c a b) fun v => K v S
 | .alloc t => dO (zeroOf P t) fun z => dR (newBlk fr S (.row 0 z.cells.length [z.cells])) fun r => K (.ptr r.1 0 0 0) r.2
 | .box _ x => dO (ev e x) fun v => dIf (allOne v.cells) (dR (newBlk fr S (.row 0 v.cells.length [v.cells])) fun r => K (.ptr r.1 0 0 0) r.2)
 | .build t ps => dO (evPs (ev e) ps.toList) fun vs => dR (buildV P t vs) fun v => K v S
 | .buildSlice t n ps => dO (evPs (ev e) ps.toList) fun vs => dR (buildSliceV P t n vs fr S) fun r => K r.1 r.2
 | .load t a => dO (ev e a) fun p => dR (loadV P t p S) fun v => K v S
 | .store t a x => dO (ev e a) fun p => dO (ev e x) fun v => dR (storeV P t p v S) fun S' => K (.tup []) S'
 | .nilCheck x => dO (ev e x) fun v => nilD v (K v S)
 | .binOp op t x y _ => dO (ev e x) fun a => dO (ev e y) fun b => dIf (guardV P op t a b) (dR (binV P op t a b) fun v => K v S)
 | .unOp op _ x => dO (ev e x) fun v => dR (unV op v) fun v => K v S
 | .convert s d x => dO (ev e x) fun v => dR (convertV P s d v fr S) fun r => K r.1 r.2
 | .makeSlice t l c => dO (ev e l) fun l => dO (ev e c) fun c => dR (makeSliceV P t l c fr S) fun r => K r.1 r.2
 | .slice t x lo hi none => dO (ev e x) fun v => dO (evO (ev e) lo) fun l => dO (evO (ev e) hi) fun h => dR (sliceV P t v l h) fun v => K v S
 | .fieldAddr s x f => dO (ev e x) fun p => dR (fieldAddrV P s p f) fun v => K v S
 | .field t x f => dO (ev e x) fun v => dR (fieldV P t v f) fun v => K v S
 | .indexAddr t x i => dO (ev e x) fun v => dO (ev e i) fun k => dR (indexAddrV P t v k) fun v => K v S
 | .index t x i => dO (ev e x) fun v => dO (ev e i) fun k => dR (indexV P t v k) fun v => K v S
 | .range t x => dO (ev e x) fun v => dIf (isText P t) (dR (rangeV v fr S) fun r => K r.1 r.2)
 | .next it isS => dO (ev e it) fun v => dIf isS (dR (nextV v S) fun r => K r.1 r.2)
 | .makeMap _ none => dR (newBlk fr S (.mp [])) fun r => K (.mp r.1) r.2
 | .lookup t m k ok => dO (ev e m) fun m => dO (ev e k) fun k => dR (lookupV P t m k ok S) fun v => K v S
 | .mapUpdate t m k v => dO (ev e m) fun m => dO (ev e k) fun k => dO (ev e v) fun v => dR (mapUpdateV P t m k v S) fun S' => K (.tup []) S'
 | .makeFunc fn first captured => (match fn with
  | .func f => dO (evs (ev e) first.toList) fun a => dO (evs (ev e) captured.toList) fun b => K (.func f a b) S
  | _ => none)
 | .makeInterface _ _ => dR (evalOp P (ev e) o fr S) fun out => (match out with
  | .val v S' => K v S'
  | _ => none)
 | .typeAssert x _ t ok => dO (ev e x) fun v => dR (assertV P v t ok) fun v => K v S
 | .extract t i => dO (ev e t) fun v => tupD v i fun v => K v S
 | .call c => (match c.callee with
  | .value f => dO (ev e f) fun v => dO (evs (ev e) c.args.toList) fun args => funD P C v args S K
  | .builtin b => dO (evs (ev e) c.args.toList) fun args => builtD P b c.argTypes args fr S K
  | .invoke r name => dO (ev e r) fun v => dO (evs (ev e) c.args.toList) fun args => invD P C v name args S K)
 | _ => none
def dstD (n : Nat) (d : Option Tmp) (e : Env) (v : V) (K : Env → An) : An := match d with
 | none => K e
 | some d => match Nat.blt d n with
  | true => K (e.put d v)
  | false => none
def guardSlot (ops : Array Oper) (j : Nat) : Option Tmp := match ops[j]? with
 | none => none
 | some o => o.dst
def doD (P : Program) (C : CallD) (n : Nat) (o : Oper) (fr : Option Nat) (e : Env) (S : St) (K : Bool → V → Env → St → An) : An :=
 opD P C o fr e S fun v S' => dstD n o.dst e v fun e' => K true v e' S'
def skipD (n : Nat) (o : Oper) (e : Env) (S : St) (K : Bool → V → Env → St → An) : An := dstD n o.dst e (.tup []) fun e' => K false (.tup []) e' S
def stepD (P : Program) (C : CallD) (n : Nat) (ops : Array Oper) (sk : List Nat) (o : Oper) (fr : Option Nat) (e : Env) (S : St) (K : Bool → V → Env → St → An) : An :=
 match o.guard with
 | none => doD P C n o fr e S K
 | some (j, want) => dO (guardSlot ops j) fun d => dO (e.get d) fun v =>
   match memN j sk with
   | true => outD v (skipD n o e S K)
   | false => pickD v (match want with
    | true => doD P C n o fr (e.put d (.bool true)) S K
    | false => skipD n o (e.put d (.bool true)) S K) (match want with
    | true => skipD n o (e.put d (.bool false)) S K
    | false => doD P C n o fr (e.put d (.bool false)) S K)
def skOf (ran : Bool) (i : Nat) (sk : List Nat) : List Nat := match ran with
 | true => sk
 | false => i :: sk
def runD (P : Program) (C : CallD) (n : Nat) (ops : Array Oper) : List Oper → Nat → List Nat → Env → St → KN → An
 | [], _, _, e, S, K => K e S
 | o :: l, i, sk, e, S, K => stepD P C n ops sk o none e S fun ran _ e' S' => runD P C n ops l (i + 1) (skOf ran i sk) e' S' K
def againD1 (P : Program) (C : CallD) (ops : Array Oper) (i : Nat) (S : St) (K : An) : List Rec → An
 | [] => K
 | (j, e, v) :: l => match Nat.beq i j with
  | true => dO ops[i]? fun o => opD P C o none e S fun v' _ => dIf (beqV v v') K
  | false => againD1 P C ops i S K l
def againD (P : Program) (C : CallD) (ops : Array Oper) (recs : List Rec) (S : St) (K : An) : List Nat → An
 | [] => K
 | i :: l => againD1 P C ops i S (againD P C ops recs S K l) recs
def recD (P : Program) (o : Oper) (i : Nat) (e : Env) (ran : Bool) (v : V) (recs : List Rec) : List Rec :=
 match Nat.beq (cls P o.op) 1 && ran && o.dst.isSome with
 | true => (i, e, v) :: recs
 | false => recs
def drawD (P : Program) (C : CallD) (n : Nat) (ops : Array Oper) (base : Nat) : List Step → List Nat → List Rec → Env → St → KN → An
 | [], _, _, e, S, K => K e S
 | (i, re) :: l, sk, recs, e, S, K => dO ops[i]? fun o =>
   stepD P C n ops sk o (some (base + i)) e S fun ran v e' S' => againD P C ops recs S' (drawD P C n ops base l (skOf ran i sk) (recD P o i e ran v recs) e' S' K) re
def firstRegion : Code → Nat
 | .region id _ _ => id
 | .seq a _ => firstRegion a
 | .block _ a => firstRegion a
 | .loop a => firstRegion a
 | _ => 0
def dstsL : List Oper → Nat → Bool
 | [], _ => false
 | o :: l, t => (match o.dst with
  | some d => Nat.beq d t
  | none => false) || dstsL l t
def puts : Code → Nat → Bool
 | .region _ ops _, t => dstsL ops.toList t
 | .seq a b, t => puts a t || puts b t
 | .cond _ a b, t => puts a t || puts b t
 | .block _ a, t => puts a t
 | .loop a, t => puts a t
 | _, _ => false
def Tr.filt {α : Type} (p : Nat → Bool) : Tr α → Tr α
 | .nil => .nil
 | .node l v r => .node (l.filt (fun m => p (2 * m + 1))) (match p 0 with
  | true => v
  | false => none) (r.filt (fun m => p (2 * m + 2)))
def slotsD (e : Env) : List Nat → (List V → An) → An
 | [], K => K []
 | t :: l, K => dO (e.get t) fun v => slotsD e l fun vs => K (v :: vs)
def layD : List Nat → List V → Env → (Env → An) → An
 | [], _, e, K => K e
 | t :: l, vs, e, K => unD vs fun v r => layD l r (e.put t v) K
def knowD (e : Env) (c : Operand) (b : Bool) : Env := match c with
 | .tmp t => e.put t (.bool b)
 | _ => e
abbrev KXD := Nat → KN
def codeD (P : Program) (C : CallD) (n : Nat) (p : Nat → Option (List Step)) (lv : Nat → List Nat) (k : Nat) : Code → Env → St → KN → KXD → KN → An
 | .skip, e, S, Kn, _, _ => Kn e S
 | .label _, e, S, Kn, _, _ => Kn e S
 | .exit id, e, S, _, Kx, _ => Kx id e S
 | .ret, e, S, _, _, Kr => Kr e S
 | .region id ops d, e, S, Kn, _, _ => (match d with
  | true => drawD P C n ops S.next (stepsOf (p id) ops.size) [] [] e ⟨S.next + ops.size, S.heap⟩ Kn
  | false => runD P C n ops ops.toList 0 [] e S Kn)
 | .seq a b, e, S, Kn, Kx, Kr => codeD P C n p lv k a e S (fun e S => codeD P C n p lv k b e S Kn Kx Kr) Kx Kr
 | .cond c a b, e, S, Kn, Kx, Kr => dO (ev e c) fun v => pickD v (codeD P C n p lv k a (knowD e c true) S Kn Kx Kr) (codeD P C n p lv k b (knowD e c false) S Kn Kx Kr)
 | .block id a, e, S, Kn, Kx, Kr => codeD P C n p lv k a e S Kn (fun j e S => match Nat.beq j id with
  | true => Kn e S
  | false => Kx j e S) Kr
 | .loop a, e, S, Kn, Kx, Kr => slotsD e (lv (firstRegion a)) fun vs =>
   loopD k vs S fun vs S again => layD (lv (firstRegion a)) vs (e.filt fun t => !puts a t) fun e =>
    codeD P C n p lv k a e S (fun e S => slotsD e (lv (firstRegion a)) fun vs => again vs S) Kx Kr
 | .scope _, _, _, _, _, _ => none
 | .rangeFunc .., _, _, _, _, _ => none
 | .goto _, _, _, _, _, _ => none
 | .refuse _, _, _, _, _, _ => none
def resD (P : Program) (e : Env) (S : St) : List ResultVar → (List V → An) → An
 | [], K => K []
 | .tmp t :: l, K => dO (e.get t) fun v => resD P e S l fun vs => K (v :: vs)
 | .cell a t :: l, K => dO (e.get a) fun p => dR (loadV P t p S) fun v => resD P e S l fun vs => K (v :: vs)
def retD (P : Program) (rs : List ResultVar) (K : KS) : KN := fun e S => resD P e S rs fun vs => K (resOne vs) S
def bodyD (P : Program) (f : FuncId) : Option (Code × Nat × List ResultVar) :=
 match nthF P.funcs.toList f with
 | none => none
 | some fn => match fn.body with
  | none => none
  | some c => match Nat.blt fn.ntmps lim with
   | true => some (c, fn.ntmps, fn.results.toList)
   | false => none
abbrev Lives := FuncId → Nat → List Nat
def enterD (P : Program) (C : CallD) (p : Nat → Option (List Step)) (lv : Nat → List Nat) (k : Nat) (args : List V) (S : St) (K : KS) (c : Code) (n : Nat) (rs : List ResultVar) : An :=
 dIf (Nat.ble args.length n) (codeD P C n p lv k c (argsEnv 0 args .nil) S (retD P rs K) (fun _ _ _ => none) (retD P rs K))
def callD (P : Program) (pl : Plans) (lv : Lives) : Nat → CallD
 | 0, _, _, _, _ => none
 | k + 1, f, args, S, K => dO (pl f) fun x => match x with
  | .spec g => dR (g args S) fun r => K r.1 r.2
  | .code p => dO (bodyD P f) fun b => enterD P (callD P pl lv k) p (lv f) k args S K b.1 b.2.1 b.2.2
abbrev Ans := Option (V × St)
inductive Lc where
 | nil
 | cons (d : Nat) (v : V) (r : Lc)
structure FE where
 l : Lc
 g : Tr V
abbrev KV := V → Ans
noncomputable def asBool (v : V) (K : (Bool → Ans)) (other : Ans) : Ans :=
 @V.rec (fun _ => (Bool → Ans) → Ans → Ans) (fun _ => Unit) (fun _ => Unit) (fun x0 K _ => K x0) (fun _ _ _ o => o) (fun _ _ o => o) (fun _ o => o) (fun _ _ _ _ _ o => o) (fun _ _ _ _ o => o) (fun _ o => o) (fun _ _ _ _ _ _ o => o) (fun _ _ _ o => o) (fun _ _ _ o => o) (fun _ _ _ o => o) (fun _ o => o) (fun _ _ _ _ o => o) (fun _ o => o) (fun _ _ _ _ _ _ o => o) (fun _ o => o) (fun _ _ o => o) (fun _ _ _ o => o) () (fun _ _ _ _ => ()) () (fun _ _ _ _ => ()) v K other
noncomputable def asAgg (v : V) (K : (List V → Ans)) : Ans :=
 @V.rec (fun _ => (List V → Ans) → Ans) (fun _ => Unit) (fun _ => Unit) (fun _ _ => none) (fun _ _ _ => none) (fun _ _ => none) (fun _ => none) (fun _ _ _ _ _ => none) (fun _ _ _ _ => none) (fun _ => none) (fun _ _ _ _ _ _ => none) (fun _ _ _ => none) (fun x0 _ K => K x0) (fun _ _ _ => none) (fun _ => none) (fun _ _ _ _ => none) (fun _ => none) (fun _ _ _ _ _ _ => none) (fun _ => none) (fun _ _ => none) (fun _ _ _ => none) () (fun _ _ _ _ => ()) () (fun _ _ _ _ => ()) v K
def tk (P : Program) (t : TypeId) : Option (Option Nat) :=
 match P.underlying t with
 | none => none
 | some d => bif aggD d then some (some (sz P t)) else some none
def fo (P : Program) (s : TypeId) (f : Nat) : Option Nat :=
 match fieldOf P s f with
 | none => none
 | some fd => bif Nat.beq (sz P fd.type) 0 then none else some fd.offset
def esT (P : Program) (t : TypeId) : Option Nat :=
 match P.underlying t with
 | some (.slice e) => bif (P.underlying e).isSome then some (sz P e) else none
 | _ => none
def isSlT (P : Program) (t : TypeId) : Bool :=
 match P.underlying t with
 | some (.slice _) => true
 | _ => false
def isStT (P : Program) (t : TypeId) : Bool :=
 match P.underlying t with
 | some .string => true
 | _ => false
def apT (P : Program) (t : TypeId) : Option (Nat × Nat) :=
 match elemT P t with
 | none => none
 | some e => bif zeroFits P e then some (sz P e, P.bytesOf e) else none
noncomputable def lcF (l : Lc) (t : Nat) : Option V := @Lc.rec (fun _ => Option V) none (fun d v _ ih => @Bool.rec (fun _ => Option V) ih (some v) (Nat.beq d t)) l
noncomputable def evF (G : Nat → Bool) (E : FE) (x : Operand) : Option V :=
 @Operand.rec (fun _ => Option V) (fun t => @Bool.rec (fun _ => Option V) (lcF E.l t) (Tr.get E.g t) (G t)) ofValue (fun _ => none) (fun f => some (.func f [] [])) x
def Sub (G : Nat → Bool) (E : FE) (e : Env) : Prop := ∀ t v, evF G E (.tmp t) = some v → e.get t = some v
theorem Sub.ev {G : Nat → Bool} {E : FE} {e : Env} (hs : Sub G E e) (x : Operand) (v : V) (h : evF G E x = some v) : ev e x = some v := by
 cases x with
 | tmp t => exact hs t v h
 | const w => exact h
 | global g => cases h
 | func f => exact h
theorem evs_mono {ρ ρ' : Operand → Option V} (hm : ∀ x v, ρ x = some v → ρ' x = some v) : ∀ {l : List Operand} {vs : List V}, evs ρ l = some vs → evs ρ' l = some vs
 | [], vs, h => h
 | x :: l, vs, h => by
  simp only [evs] at h ⊢
  split at h
  ·rename_i v hv
   split at h
   ·rename_i ws hw
    rw [hm _ _ hv, evs_mono hm hw]; exact h
   ·cases h
  ·cases h
theorem evPs_mono {ρ ρ' : Operand → Option V} (hm : ∀ x v, ρ x = some v → ρ' x = some v) : ∀ {l : List (Nat × Operand)} {vs : List (Nat × V)}, evPs ρ l = some vs → evPs ρ' l = some vs
 | [], vs, h => h
 | (i, x) :: l, vs, h => by
  simp only [evPs] at h ⊢
  split at h
  ·rename_i v hv
   split at h
   ·rename_i ws hw
    rw [hm _ _ hv, evPs_mono hm hw]; exact h
   ·cases h
  ·cases h
theorem evO_mono {ρ ρ' : Operand → Option V} (hm : ∀ x v, ρ x = some v → ρ' x = some v) {x : Option Operand} {v : Option V} (h : evO ρ x = some v) : evO ρ' x = some v := by
 cases x with
 | none => exact h
 | some x =>
  simp only [evO] at h ⊢
  split at h
  ·rename_i w hw; rw [hm _ _ hw]; exact h
  ·cases h
theorem evalOp_mono {P : Program} {ρ ρ' : Operand → Option V} (hm : ∀ x v, ρ x = some v → ρ' x = some v) {o : Oper} {fr : Option Nat} {S : St} {r : Out} (h : evalOp P ρ o fr S = .ok r) : evalOp P ρ' o fr S = .ok r := by
 obtain ⟨dst, op, ty, pos, after, gd⟩ := o
 cases op <;> simp only [evalOp] at h ⊢ <;> try exact h
 case move x => (cases hx : ρ x with | none => (simp only [hx] at h; cases h) | some v => (rw [hm _ _ hx]; simp only [hx] at h; exact h))
 case assign x => (cases hx : ρ x with | none => (simp only [hx] at h; cases h) | some v => (rw [hm _ _ hx]; simp only [hx] at h; exact h))
 case pick c a b =>
  cases hc : ρ c with
  | none => simp only [hc] at h; cases h
  | some w =>
   rw [hm _ _ hc]
   simp only [hc] at h
   cases w with
   | bool t =>
    cases t with
    | true => (cases hx : ρ a with | none => (simp only [hx] at h; cases h) | some v => (rw [hm _ _ hx]; simp only [hx] at h; exact h))
    | false => (cases hx : ρ b with | none => (simp only [hx] at h; cases h) | some v => (rw [hm _ _ hx]; simp only [hx] at h; exact h))
   | _ => cases h
 case box t x => (cases hx : ρ x with | none => (simp only [hx] at h; cases h) | some v => (rw [hm _ _ hx]; simp only [hx] at h; exact h))
 case build t ps => (cases hx : evPs ρ ps.toList with | none => (simp only [hx] at h; cases h) | some v => (rw [evPs_mono hm hx]; simp only [hx] at h; exact h))
 case buildSlice t n ps => (cases hx : evPs ρ ps.toList with | none => (simp only [hx] at h; cases h) | some v => (rw [evPs_mono hm hx]; simp only [hx] at h; exact h))
 case load t x => (cases hx : ρ x with | none => (simp only [hx] at h; cases h) | some v => (rw [hm _ _ hx]; simp only [hx] at h; exact h))
 case store t a x => (cases ha : ρ a with | none => (simp only [ha] at h; cases h) | some w => (cases hx : ρ x with | none => (simp only [ha, hx] at h; cases h) | some v => (rw [hm _ _ ha, hm _ _ hx]; simp only [ha, hx] at h; exact h)))
 case nilCheck x => (cases hx : ρ x with | none => (simp only [hx] at h; cases h) | some v => (rw [hm _ _ hx]; simp only [hx] at h; exact h))
 case binOp op t a x _ => (cases ha : ρ a with | none => (simp only [ha] at h; cases h) | some w => (cases hx : ρ x with | none => (simp only [ha, hx] at h; cases h) | some v => (rw [hm _ _ ha, hm _ _ hx]; simp only [ha, hx] at h; exact h)))
 case unOp op t x => (cases hx : ρ x with | none => (simp only [hx] at h; cases h) | some v => (rw [hm _ _ hx]; simp only [hx] at h; exact h))
 case convert s d x => (cases hx : ρ x with | none => (simp only [hx] at h; cases h) | some v => (rw [hm _ _ hx]; simp only [hx] at h; exact h))
 case makeSlice t a x => (cases ha : ρ a with | none => (simp only [ha] at h; cases h) | some w => (cases hx : ρ x with | none => (simp only [ha, hx] at h; cases h) | some v => (rw [hm _ _ ha, hm _ _ hx]; simp only [ha, hx] at h; exact h)))
 case slice t x lo hi mx =>
  cases mx with
  | some m => simp only at h; cases h
  | none =>
   cases hx : ρ x with
   | none => simp only [hx] at h; cases h
   | some v =>
    cases hl : evO ρ lo with
    | none => simp only [hx, hl] at h; cases h
    | some l =>
     cases hh : evO ρ hi with
     | none => simp only [hx, hl, hh] at h; cases h
     | some u => rw [hm _ _ hx, evO_mono hm hl, evO_mono hm hh]; simp only [hx, hl, hh] at h; exact h
 case fieldAddr s x f => (cases hx : ρ x with | none => (simp only [hx] at h; cases h) | some v => (rw [hm _ _ hx]; simp only [hx] at h; exact h))
 case field s x f => (cases hx : ρ x with | none => (simp only [hx] at h; cases h) | some v => (rw [hm _ _ hx]; simp only [hx] at h; exact h))
 case indexAddr t a x => (cases ha : ρ a with | none => (simp only [ha] at h; cases h) | some w => (cases hx : ρ x with | none => (simp only [ha, hx] at h; cases h) | some v => (rw [hm _ _ ha, hm _ _ hx]; simp only [ha, hx] at h; exact h)))
 case index t a x => (cases ha : ρ a with | none => (simp only [ha] at h; cases h) | some w => (cases hx : ρ x with | none => (simp only [ha, hx] at h; cases h) | some v => (rw [hm _ _ ha, hm _ _ hx]; simp only [ha, hx] at h; exact h)))
 case range t x => (cases hx : ρ x with | none => (simp only [hx] at h; cases h) | some v => (rw [hm _ _ hx]; simp only [hx] at h; exact h))
 case next it s => (cases hx : ρ it with | none => (simp only [hx] at h; cases h) | some v => (rw [hm _ _ hx]; simp only [hx] at h; exact h))
 case makeMap t m => (cases m <;> exact h)
 case lookup t a x ok => (cases ha : ρ a with | none => (simp only [ha] at h; cases h) | some w => (cases hx : ρ x with | none => (simp only [ha, hx] at h; cases h) | some v => (rw [hm _ _ ha, hm _ _ hx]; simp only [ha, hx] at h; exact h)))
 case mapUpdate t m a x =>
  cases hb : ρ m with
  | none => simp only [hb] at h; cases h
  | some u => (cases ha : ρ a with | none => (simp only [hb, ha] at h; cases h) | some w => (cases hx : ρ x with | none => (simp only [hb, ha, hx] at h; cases h) | some v => (rw [hm _ _ hb, hm _ _ ha, hm _ _ hx]; simp only [hb, ha, hx] at h; exact h)))
 case makeFunc fn a b =>
  cases fn with
  | func f =>
   cases ha : evs ρ a.toList with
   | none => simp only [ha] at h; cases h
   | some w => (cases hx : evs ρ b.toList with | none => (simp only [ha, hx] at h; cases h) | some v => (rw [evs_mono hm ha, evs_mono hm hx]; simp only [ha, hx] at h; exact h))
  | _ => cases h
 case makeInterface t x => (cases hx : ρ x with | none => (simp only [hx] at h; cases h) | some v => (rw [hm _ _ hx]; simp only [hx] at h; exact h))
 case typeAssert x _ t ok => (cases hx : ρ x with | none => (simp only [hx] at h; cases h) | some v => (rw [hm _ _ hx]; simp only [hx] at h; exact h))
 case extract x i => (cases hx : ρ x with | none => (simp only [hx] at h; cases h) | some v => (rw [hm _ _ hx]; simp only [hx] at h; exact h))
 case call c =>
  obtain ⟨callee, args, ats⟩ := c
  cases callee with
  | value f =>
   simp only at h ⊢
   cases hf : ρ f with
   | none => simp only [hf] at h; cases h
   | some w => (cases hx : evs ρ args.toList with | none => (simp only [hf, hx] at h; cases w <;> cases h) | some v => (rw [hm _ _ hf, evs_mono hm hx]; simp only [hf, hx] at h; exact h))
  | builtin b =>
   simp only at h ⊢
   (cases hx : evs ρ args.toList with | none => (simp only [hx] at h; cases h) | some v => (rw [evs_mono hm hx]; simp only [hx] at h; exact h))
  | invoke r m =>
   simp only at h ⊢
   cases hf : ρ r with
   | none => simp only [hf] at h; cases h
   | some w => (cases hx : evs ρ args.toList with | none => (simp only [hf, hx] at h; cases w <;> cases h) | some v => (rw [hm _ _ hf, evs_mono hm hx]; simp only [hf, hx] at h; exact h))
theorem dO_some {α : Type} {x : Option α} {K : α → An} {z : V × St} (h : dO x K = some z) : ∃ a, x = some a ∧ K a = some z := by
 cases x with
 | none => cases h
 | some a => exact ⟨a, rfl, h⟩
theorem dR_some {α : Type} {x : R α} {K : α → An} {z : V × St} (h : dR x K = some z) : ∃ a, x = .ok a ∧ K a = some z := by
 cases x with
 | error w => cases h
 | ok a => exact ⟨a, rfl, h⟩
theorem dIf_some {b : Bool} {x : An} {z : V × St} (h : dIf b x = some z) : b = true ∧ x = some z := by
 cases b with
 | false => cases h
 | true => exact ⟨rfl, h⟩
theorem pickD_some {v : V} {x y : An} {z : V × St} (h : pickD v x y = some z) : (v = .bool true ∧ x = some z) ∨ (v = .bool false ∧ y = some z) := by
 unfold pickD at h
 split at h
 ·exact .inl ⟨rfl, h⟩
 ·exact .inr ⟨rfl, h⟩
 ·cases h
theorem nilD_some {v : V} {x : An} {z : V × St} (h : nilD v x = some z) : ((∃ a b c d, v = .ptr a b c d) ∨ ∃ cs j, v = .iptr cs j) ∧ x = some z := by
 unfold nilD at h
 split at h
 ·exact ⟨.inl ⟨_, _, _, _, rfl⟩, h⟩
 ·exact ⟨.inr ⟨_, _, rfl⟩, h⟩
 ·cases h
theorem tupD_some {v : V} {i : Nat} {K : V → An} {z : V × St} (h : tupD v i K = some z) : ∃ vs x, v = .tup vs ∧ vs[i]? = some x ∧ K x = some z := by
 unfold tupD at h
 split at h
 ·obtain ⟨x, h1, h2⟩ := dO_some h
  exact ⟨_, x, rfl, h1, h2⟩
 ·cases h
theorem unD_some {vs : List V} {K : V → List V → An} {z : V × St} (h : unD vs K = some z) : ∃ v r, vs = v :: r ∧ K v r = some z := by
 cases vs with
 | nil => cases h
 | cons v r => exact ⟨v, r, rfl, h⟩
theorem nthF_eq : ∀ (l : List Func) (i : Nat), nthF l i = l[i]?
 | [], 0 => rfl
 | [], _ + 1 => rfl
 | _ :: _, 0 => rfl
 | _ :: l, i + 1 => by rw [List.getElem?_cons_succ]; exact nthF_eq l i
theorem nthF_arr (P : Program) (i : Nat) : nthF P.funcs.toList i = P.funcs[i]? := by rw [nthF_eq]; simp
def AfterD (C : CallD) (K : KS) (S : St) (z : V × St) : Out → Prop
 | .val v S' => K v S' = some z
 | .skip S' => K (.tup []) S' = some z
 | .call f args => C f args S K = some z
theorem callOD_some {P : Program} {C : CallD} {g : FuncId} {args : List V} {S : St} {K : KS} {z : V × St} (H : callOD P C g args S K = some z) :
  ∃ out, callOr P S g args = .ok out ∧ AfterD C K S z out := by
 obtain ⟨x, h1, H⟩ := dO_some H
 unfold hasText at h1
 rw [nthF_arr] at h1
 split at h1
 ·cases h1
 ·rename_i fn hfn
  split at h1
  ·rename_i c hc
   cases h1
   exact ⟨.call g args, by simp only [callOr, hfn, hc], H⟩
  ·rename_i hc
   cases h1
   obtain ⟨v, h2, H⟩ := dR_some H
   exact ⟨.val v S, by simp only [callOr, hfn, hc, h2, pureR], H⟩
theorem builtD_some {P : Program} {C : CallD} {b : Builtin} {ts : Array TypeId} {args : List V} {fr : Option Nat} {S : St} {K : KS} {z : V × St} (H : builtD P b ts args fr S K = some z) :
  ∃ out, builtinV P b ts args fr S = .ok out ∧ AfterD C K S z out := by
 unfold builtD at H
 split at H
 ·obtain ⟨t, h1, H⟩ := dO_some H
  obtain ⟨v, h2, H⟩ := dR_some H
  exact ⟨.val v S, by simp only [builtinV, h1, h2, pureR], H⟩
 ·obtain ⟨v, h2, H⟩ := dR_some H
  exact ⟨.val v S, by simp only [builtinV, h2, pureR], H⟩
 ·obtain ⟨v, h2, H⟩ := dR_some H
  exact ⟨.val v S, by simp only [builtinV, h2, pureR], H⟩
 ·obtain ⟨t, h1, H⟩ := dO_some H
  obtain ⟨u, h2, H⟩ := dO_some H
  split at H
  ·rename_i hu
   obtain ⟨r, h3, H⟩ := dR_some H
   exact ⟨.val r.1 r.2, by simp only [builtinV, h1, h2, hu, h3, pairR], H⟩
  ·rename_i hu
   obtain ⟨r, h3, H⟩ := dR_some H
   exact ⟨.val r.1 r.2, by simp only [builtinV, h1, h2, hu, h3, pairR], H⟩
  ·cases H
 ·obtain ⟨t, h1, H⟩ := dO_some H
  obtain ⟨r, h3, H⟩ := dR_some H
  exact ⟨.val r.1 r.2, by simp only [builtinV, h1, h3, pairR], H⟩
 ·cases H
theorem opD_some {P : Program} {C : CallD} {o : Oper} {fr : Option Nat} {e : Env} {S : St} {K : KS} {z : V × St} (H : opD P C o fr e S K = some z) :
  ∃ out, evalOp P (ev e) o fr S = .ok out ∧ AfterD C K S z out := by
 unfold opD at H
 split at H
 case h_1 ho | h_2 ho =>
  obtain ⟨v, h1, H⟩ := dO_some H
  exact ⟨.val v S, by simp only [evalOp, ho, h1], H⟩
 case h_3 ho =>
  obtain ⟨c, h1, H⟩ := dO_some H
  obtain ⟨a, h2, H⟩ := dO_some H
  obtain ⟨b, h3, H⟩ := dO_some H
  obtain ⟨v, h4, H⟩ := dR_some H
  refine ⟨.val v S, ?_, H⟩
  unfold pickR at h4
  split at h4
  ·cases h4; simp only [evalOp, ho, h1, h2]
  ·cases h4; simp only [evalOp, ho, h1, h3]
  ·cases h4
 case h_4 ho =>
  obtain ⟨v, h1, H⟩ := dO_some H
  obtain ⟨r, h2, H⟩ := dR_some H
  exact ⟨.val (.ptr r.1 0 0 0) r.2, by simp only [evalOp, ho, h1, h2], H⟩
 case h_5 ho =>
  obtain ⟨v, h1, H⟩ := dO_some H
  obtain ⟨h3, H⟩ := dIf_some H
  obtain ⟨r, h2, H⟩ := dR_some H
  exact ⟨.val (.ptr r.1 0 0 0) r.2, by simp only [evalOp, ho, h1, h2, h3, cond_true], H⟩
 case h_6 ho =>
  obtain ⟨v, h1, H⟩ := dO_some H
  obtain ⟨r, h2, H⟩ := dR_some H
  exact ⟨.val r S, by simp only [evalOp, ho, h1, h2, pureR], H⟩
 case h_7 ho =>
  obtain ⟨v, h1, H⟩ := dO_some H
  obtain ⟨r, h2, H⟩ := dR_some H
  exact ⟨.val r.1 r.2, by simp only [evalOp, ho, h1, h2, pairR], H⟩
 case h_8 ho =>
  obtain ⟨v, h1, H⟩ := dO_some H
  obtain ⟨r, h2, H⟩ := dR_some H
  exact ⟨.val r S, by simp only [evalOp, ho, h1, h2, pureR], H⟩
 case h_9 ho =>
  obtain ⟨v, h1, H⟩ := dO_some H
  obtain ⟨u, h3, H⟩ := dO_some H
  obtain ⟨r, h2, H⟩ := dR_some H
  exact ⟨.skip r, by simp only [evalOp, ho, h1, h2, h3], H⟩
 case h_10 ho =>
  obtain ⟨v, h1, H⟩ := dO_some H
  obtain ⟨h2, H⟩ := nilD_some H
  rcases h2 with ⟨a, b, c, d, rfl⟩ | ⟨cs, j, rfl⟩
  ·exact ⟨.val (.ptr a b c d) S, by simp only [evalOp, ho, h1], H⟩
  ·exact ⟨.val (.iptr cs j) S, by simp only [evalOp, ho, h1], H⟩
 case h_11 ho =>
  obtain ⟨v, h1, H⟩ := dO_some H
  obtain ⟨u, h3, H⟩ := dO_some H
  obtain ⟨h4, H⟩ := dIf_some H
  obtain ⟨r, h2, H⟩ := dR_some H
  exact ⟨.val r S, by simp only [evalOp, ho, h1, h2, h3, h4, cond_true, pureR], H⟩
 case h_12 ho =>
  obtain ⟨v, h1, H⟩ := dO_some H
  obtain ⟨r, h2, H⟩ := dR_some H
  exact ⟨.val r S, by simp only [evalOp, ho, h1, h2, pureR], H⟩
 case h_13 ho =>
  obtain ⟨v, h1, H⟩ := dO_some H
  obtain ⟨r, h2, H⟩ := dR_some H
  exact ⟨.val r.1 r.2, by simp only [evalOp, ho, h1, h2, pairR], H⟩
 case h_14 ho =>
  obtain ⟨v, h1, H⟩ := dO_some H
  obtain ⟨u, h3, H⟩ := dO_some H
  obtain ⟨r, h2, H⟩ := dR_some H
  exact ⟨.val r.1 r.2, by simp only [evalOp, ho, h1, h2, h3, pairR], H⟩
 case h_15 ho =>
  obtain ⟨v, h1, H⟩ := dO_some H
  obtain ⟨u, h3, H⟩ := dO_some H
  obtain ⟨w, h4, H⟩ := dO_some H
  obtain ⟨r, h2, H⟩ := dR_some H
  exact ⟨.val r S, by simp only [evalOp, ho, h1, h2, h3, h4, pureR], H⟩
 case h_16 ho | h_17 ho =>
  obtain ⟨v, h1, H⟩ := dO_some H
  obtain ⟨r, h2, H⟩ := dR_some H
  exact ⟨.val r S, by simp only [evalOp, ho, h1, h2, pureR], H⟩
 case h_18 ho | h_19 ho =>
  obtain ⟨v, h1, H⟩ := dO_some H
  obtain ⟨u, h3, H⟩ := dO_some H
  obtain ⟨r, h2, H⟩ := dR_some H
  exact ⟨.val r S, by simp only [evalOp, ho, h1, h2, h3, pureR], H⟩
 case h_20 ho =>
  obtain ⟨v, h1, H⟩ := dO_some H
  obtain ⟨h3, H⟩ := dIf_some H
  obtain ⟨r, h2, H⟩ := dR_some H
  unfold isText at h3
  split at h3
  ·rename_i ht
   unfold rangeV at h2
   split at h2
   ·split at h2
    ·rename_i hn
     cases h2
     exact ⟨.val _ _, by simp only [evalOp, ho, h1, ht, hn], H⟩
    ·cases h2
   ·cases h2
  ·cases h3
 case h_21 ho =>
  obtain ⟨v, h1, H⟩ := dO_some H
  obtain ⟨h3, H⟩ := dIf_some H
  obtain ⟨r, h2, H⟩ := dR_some H
  subst h3
  unfold nextV at h2
  split at h2
  ·rename_i a
   split at h2
   ·rename_i s pos hb
    split at h2
    ·rename_i hl
     split at h2
     ·rename_i b hs
      split at h2
      ·rename_i ha
       cases h2
       exact ⟨.val _ _, by simp only [evalOp, ho, h1, cond_true, hb, hl, hs, ha], H⟩
      ·rename_i ha
       cases h2
       exact ⟨.val _ _, by simp only [evalOp, ho, h1, cond_true, cond_false, hb, hl, hs, ha], H⟩
     ·cases h2
    ·rename_i hl
     cases h2
     exact ⟨.val _ _, by simp only [evalOp, ho, h1, cond_true, hb, hl, cond_false], H⟩
   ·cases h2
  ·cases h2
 case h_22 ho =>
  obtain ⟨r, h2, H⟩ := dR_some H
  exact ⟨.val (.mp r.1) r.2, by simp only [evalOp, ho, h2], H⟩
 case h_23 ho =>
  obtain ⟨v, h1, H⟩ := dO_some H
  obtain ⟨u, h3, H⟩ := dO_some H
  obtain ⟨r, h2, H⟩ := dR_some H
  exact ⟨.val r S, by simp only [evalOp, ho, h1, h2, h3, pureR], H⟩
 case h_24 ho =>
  obtain ⟨v, h1, H⟩ := dO_some H
  obtain ⟨u, h3, H⟩ := dO_some H
  obtain ⟨w, h4, H⟩ := dO_some H
  obtain ⟨r, h2, H⟩ := dR_some H
  exact ⟨.skip r, by simp only [evalOp, ho, h1, h2, h3, h4], H⟩
 case h_25 ho =>
  split at H
  ·obtain ⟨v, h1, H⟩ := dO_some H
   obtain ⟨u, h3, H⟩ := dO_some H
   exact ⟨.val (.func _ v u) S, by simp only [evalOp, ho, h1, h3], H⟩
  ·cases H
 case h_26 ho =>
  obtain ⟨out, h1, H⟩ := dR_some H
  cases out with
  | val v S' => exact ⟨_, h1, H⟩
  | _ => cases H
 case h_27 ho =>
  obtain ⟨v, h1, H⟩ := dO_some H
  obtain ⟨r, h2, H⟩ := dR_some H
  exact ⟨.val r S, by simp only [evalOp, ho, h1, h2, pureR], H⟩
 case h_28 ho =>
  obtain ⟨v, h1, H⟩ := dO_some H
  obtain ⟨vs, x, rfl, h2, H⟩ := tupD_some H
  exact ⟨.val x S, by simp only [evalOp, ho, h1, h2], H⟩
 case h_29 ho =>
  split at H
  ·rename_i hc
   obtain ⟨v, h1, H⟩ := dO_some H
   obtain ⟨args, h2, H⟩ := dO_some H
   unfold funD at H
   split at H
   ·obtain ⟨out, h3, h4⟩ := callOD_some H
    exact ⟨out, by simp only [evalOp, ho, hc, h1, h2, h3], h4⟩
   ·cases H
  ·rename_i hc
   obtain ⟨args, h2, H⟩ := dO_some H
   obtain ⟨out, h3, h4⟩ := builtD_some (C := C) H
   exact ⟨out, by simp only [evalOp, ho, hc, h2, h3], h4⟩
  ·rename_i hc
   obtain ⟨v, h1, H⟩ := dO_some H
   obtain ⟨args, h2, H⟩ := dO_some H
   unfold invD at H
   split at H
   ·obtain ⟨g, h5, H⟩ := dO_some H
    obtain ⟨out, h3, h4⟩ := callOD_some H
    exact ⟨out, by simp only [evalOp, ho, hc, h1, h2, h5, h3], h4⟩
   ·cases H
 case h_30 ho => cases H
theorem evF_tmp (G : Nat → Bool) (E : FE) (t : Nat) : evF G E (.tmp t) = if G t = true then E.g.get t else lcF E.l t := by
 show @Bool.rec (fun _ => Option V) (lcF E.l t) (Tr.get E.g t) (G t) = _
 cases G t <;> rfl
theorem lcF_cons (d : Nat) (v : V) (r : Lc) (t : Nat) : lcF (.cons d v r) t = if d = t then some v else lcF r t := by
 show @Bool.rec (fun _ => Option V) (lcF r t) (some v) (Nat.beq d t) = _
 by_cases h : d = t
 ·subst h; simp
 ·have h1 : Nat.beq d t = false := by
   cases hb : Nat.beq d t with
   | false => rfl
   | true => exact absurd (Nat.eq_of_beq_eq_true hb) h
  rw [h1, if_neg h]
theorem Sub.put {G : Nat → Bool} {E : FE} {e : Env} (hs : Sub G E e) {d : Nat} (hd : d < lim) (v : V) :
  Sub G (if G d = true then ⟨E.l, E.g.put d v⟩ else ⟨.cons d v E.l, E.g⟩) (e.put d v) := by
 intro t w hw
 rw [evF_tmp] at hw
 by_cases ht : t = d
 ·subst ht
  rw [Tr.get_put_same _ _ _ hd]
  by_cases hg : G t = true
  ·rw [if_pos hg, if_pos hg] at hw
   simp only at hw
   rw [Tr.get_put_same _ _ _ hd] at hw; exact hw
  ·rw [if_neg hg, if_neg hg] at hw
   simp only at hw
   rw [lcF_cons, if_pos rfl] at hw; exact hw
 ·rw [Tr.get_put_ne _ _ _ _ hd ht]
  refine hs t w ?_
  rw [evF_tmp]
  by_cases hgt : G t = true
  ·rw [if_pos hgt] at hw ⊢
   by_cases hg : G d = true
   ·rw [if_pos hg] at hw
    simp only at hw
    rw [Tr.get_put_ne _ _ _ _ hd ht] at hw; exact hw
   ·rw [if_neg hg] at hw; exact hw
  ·rw [if_neg hgt] at hw ⊢
   by_cases hg : G d = true
   ·rw [if_pos hg] at hw; exact hw
   ·rw [if_neg hg] at hw
    simp only at hw
    rw [lcF_cons, if_neg (Ne.symm ht)] at hw; exact hw
theorem Sub.nil {G : Nat → Bool} {E : FE} {e : Env} (hs : Sub G E e) : Sub G ⟨.nil, E.g⟩ e := by
 intro t w hw
 refine hs t w ?_
 rw [evF_tmp] at hw ⊢
 by_cases hg : G t = true
 ·rw [if_pos hg] at hw ⊢; exact hw
 ·rw [if_neg hg] at hw; cases hw
theorem cls1_val {P : Program} {ρ : Operand → Option V} {o : Oper} {fr : Option Nat} {S : St} {r : Out} (hc : cls P o.op = 1) (h : evalOp P ρ o fr S = .ok r) : ∃ v S', r = .val v S' := by
 obtain ⟨v, e, _⟩ := cls1 hc h
 exact ⟨v, _, e⟩
def SubE (E e : Env) : Prop := ∀ t v, E.get t = some v → e.get t = some v
theorem SubE.refl (e : Env) : SubE e e := fun _ _ h => h
theorem SubE.put {E e : Env} (h : SubE E e) (d : Nat) (v : V) : SubE (E.put d v) (e.put d v) := by
 intro t u hu
 rw [Tr.get_putB _ _ _ _ trivial] at hu ⊢
 split at hu
 ·rename_i e1; rw [if_pos e1]; exact hu
 ·rename_i e1; rw [if_neg e1]; exact h t u hu
theorem SubE.putl {E e : Env} (h : SubE E e) {d : Nat} {v : V} (hv : e.get d = some v) : SubE (E.put d v) e := by
 intro t u hu
 rw [Tr.get_putB _ _ _ _ trivial] at hu
 split at hu
 ·rename_i e1; cases hu; rw [e1]; exact hv
 ·exact h t u hu
theorem SubE.ev {E e : Env} (h : SubE E e) (x : Operand) (v : V) (hv : ev E x = some v) : ev e x = some v := by
 cases x with
 | tmp t => exact h t v hv
 | const c => exact hv
 | global g => cases hv
 | func f => exact hv
def CallDOK (call : Call) (C : CallD) : Prop := ∀ (f : FuncId) (args : List V) (S : St) (K : KS) (z : V × St), C f args S K = some z → ∃ v S', call f args S = .ok (v, S') ∧ K v S' = some z
theorem outD_some {v : V} {x : An} {z : V × St} (h : outD v x = some z) : (∃ l, v = .tup l) ∧ x = some z := by
 unfold outD at h
 split at h
 ·exact ⟨⟨_, rfl⟩, h⟩
 ·cases h
theorem dstD_some {n : Nat} {d : Option Tmp} {E e : Env} {v : V} {K : Env → An} {z : V × St} (hs : SubE E e) (h : dstD n d E v K = some z) : ∃ E' e', putDst n e d v = .ok e' ∧ SubE E' e' ∧ K E' = some z ∧ (∀ t, d = some t → e'.get t = some v) := by
 unfold dstD at h
 split at h
 ·exact ⟨E, e, rfl, hs, h, fun _ h => by cases h⟩
 ·rename_i d
  split at h
  ·rename_i hb
   refine ⟨E.put d v, e.put d v, by simp only [putDst, hb, cond_true], hs.put d v, h, fun t ht => ?_⟩
   cases ht
   exact Tr.get_put_sameB _ _ _ trivial
  ·cases h
theorem opStep {P : Program} {call : Call} {C : CallD} (hc : CallDOK call C) {n : Nat} {ops : Array Oper} {o : Oper} {fr : Option Nat} {E e : Env} {S : St} {K : V → Env → St → An} {z : V × St} (hs : SubE E e) (hw : wanted ops o e = .ok true)
  (H : opD P C o fr E S (fun v S' => dstD n o.dst E v fun e' => K v e' S') = some z) : ∃ E' e' S' v, stepOp P call n ops o fr e S = .ok (e', S') ∧ SubE E' e' ∧ K v E' S' = some z ∧ (∀ t, o.dst = some t → e'.get t = some v) := by
 obtain ⟨out, h1, h2⟩ := opD_some H
 have h1 := evalOp_mono hs.ev h1
 cases out with
 | val v S' =>
  obtain ⟨E', e', h3, h4, h5, h6⟩ := dstD_some hs h2
  exact ⟨E', e', S', v, by simp only [stepOp, hw, h1, h3], h4, h5, h6⟩
 | skip S' =>
  obtain ⟨E', e', h3, h4, h5, h6⟩ := dstD_some hs h2
  exact ⟨E', e', S', .tup [], by simp only [stepOp, hw, h1, h3], h4, h5, h6⟩
 | call f args =>
  obtain ⟨v, S', h7, h8⟩ := hc _ _ _ _ _ h2
  obtain ⟨E', e', h3, h4, h5, h6⟩ := dstD_some hs h8
  exact ⟨E', e', S', v, by simp only [stepOp, hw, h1, h7, h3], h4, h5, h6⟩
theorem skipD_some {P : Program} {call : Call} {n : Nat} {ops : Array Oper} {o : Oper} {fr : Option Nat} {E e : Env} {S : St} {K : Bool → V → Env → St → An} {z : V × St} (hs : SubE E e) (hw : wanted ops o e = .ok false)
  (H : skipD n o E S K = some z) : ∃ E' e' S' ran v, stepOp P call n ops o fr e S = .ok (e', S') ∧ SubE E' e' ∧ K ran v E' S' = some z ∧ wanted ops o e = .ok ran ∧ (∀ t, o.dst = some t → e'.get t = some v) := by
 obtain ⟨E', e', h3, h4, h5, h6⟩ := dstD_some hs H
 exact ⟨E', e', S, false, .tup [], by simp only [stepOp, hw, h3], h4, h5, hw, h6⟩
theorem doD_some {P : Program} {call : Call} {C : CallD} (hc : CallDOK call C) {n : Nat} {ops : Array Oper} {o : Oper} {fr : Option Nat} {E e : Env} {S : St} {K : Bool → V → Env → St → An} {z : V × St} (hs : SubE E e) (hw : wanted ops o e = .ok true)
  (H : doD P C n o fr E S K = some z) : ∃ E' e' S' ran v, stepOp P call n ops o fr e S = .ok (e', S') ∧ SubE E' e' ∧ K ran v E' S' = some z ∧ wanted ops o e = .ok ran ∧ (∀ t, o.dst = some t → e'.get t = some v) := by
 obtain ⟨E', e', S', v, h1, h2, h3, h4⟩ := opStep (K := fun v E S => K true v E S) hc hs hw H
 exact ⟨E', e', S', true, v, h1, h2, h3, hw, h4⟩
theorem stepD_some {P : Program} {call : Call} {C : CallD} (hc : CallDOK call C) {n : Nat} {ops : Array Oper} {sk : List Nat} {o : Oper} {fr : Option Nat} {E e : Env} {S : St} {K : Bool → V → Env → St → An} {z : V × St} (hs : SubE E e)
  (H : stepD P C n ops sk o fr E S K = some z) : ∃ E' e' S' ran v, stepOp P call n ops o fr e S = .ok (e', S') ∧ SubE E' e' ∧ K ran v E' S' = some z ∧ wanted ops o e = .ok ran ∧ (∀ t, o.dst = some t → e'.get t = some v) := by
 unfold stepD at H
 split at H
 ·rename_i hg
  have hw : wanted ops o e = .ok true := by simp only [wanted, hg]
  exact doD_some hc hs hw H
 ·rename_i j want hg
  obtain ⟨d, h1, H⟩ := dO_some H
  obtain ⟨v, h2, H⟩ := dO_some H
  have hv := hs d v h2
  unfold guardSlot at h1
  split at h1
  ·cases h1
  ·rename_i oj hoj
   split at H
   ·obtain ⟨⟨l, hl⟩, H⟩ := outD_some H
    rw [hl] at hv
    have hw : wanted ops o e = .ok false := by simp only [wanted, hg, hoj, h1, hv]
    exact skipD_some hs hw H
   ·rcases pickD_some H with ⟨hb, H⟩ | ⟨hb, H⟩
    ·rw [hb] at hv
     cases want with
     | true =>
      have hw : wanted ops o e = .ok true := by simp only [wanted, hg, hoj, h1, hv]; rfl
      exact doD_some hc (hs.putl hv) hw H
     | false =>
      have hw : wanted ops o e = .ok false := by simp only [wanted, hg, hoj, h1, hv]; rfl
      exact skipD_some (hs.putl hv) hw H
    ·rw [hb] at hv
     cases want with
     | true =>
      have hw : wanted ops o e = .ok false := by simp only [wanted, hg, hoj, h1, hv]; rfl
      exact skipD_some (hs.putl hv) hw H
     | false =>
      have hw : wanted ops o e = .ok true := by simp only [wanted, hg, hoj, h1, hv]; rfl
      exact doD_some hc (hs.putl hv) hw H
theorem runD_some {P : Program} {call : Call} {C : CallD} (hc : CallDOK call C) {n : Nat} {ops : Array Oper} {K : KN} {z : V × St} : ∀ {l : List Oper} {i : Nat} {sk : List Nat} {E e : Env} {S : St}, SubE E e → runD P C n ops l i sk E S K = some z →
  ∃ E' e' S', runOps P call n ops l e S = .ok (e', S') ∧ SubE E' e' ∧ K E' S' = some z
 | [], i, sk, E, e, S, hs, H => ⟨E, e, S, rfl, hs, H⟩
 | o :: l, i, sk, E, e, S, hs, H => by
  obtain ⟨E1, e1, S1, ran, _, h1, h2, h3, _, _⟩ := stepD_some (K := fun ran _ e' S' => runD P C n ops l (i + 1) (skOf ran i sk) e' S' K) hc hs H
  obtain ⟨E2, e2, S2, h4, h5, h6⟩ := runD_some hc h2 h3
  exact ⟨E2, e2, S2, by simp only [runOps, h1, h4], h5, h6⟩
inductive RecsD (P : Program) (ops : Array Oper) : List Rec → List Rec → Prop
 | nil : RecsD P ops [] []
 | cons (i : Nat) (E e : Env) (v : V) (a b : List Rec) (hs : SubE E e) (hc : ∀ o, ops[i]? = some o → cls P o.op = 1) (t : RecsD P ops a b) : RecsD P ops ((i, E, v) :: a) ((i, e, v) :: b)
theorem againD1_some {P : Program} {C : CallD} {ops : Array Oper} {i : Nat} {S : St} {x : An} {z : V × St} : ∀ {a b : List Rec}, RecsD P ops a b → againD1 P C ops i S x a = some z →
  (match findRec i b with
   | none => true
   | some (e, v) => match ops[i]? with
    | none => false
    | some o => match evalOp P (ev e) o none S with
     | .ok (.val v' _) => beqV v v'
     | _ => false) = true ∧ x = some z
 | _, _, .nil, H => ⟨rfl, H⟩
 | _, _, .cons j E e v a b hs hc t, H => by
  simp only [againD1] at H
  simp only [findRec]
  split at H
  ·rename_i hb
   have hij := Nat.eq_of_beq_eq_true hb
   subst hij
   obtain ⟨o, ho, H⟩ := dO_some H
   obtain ⟨out, h1, H⟩ := opD_some H
   have h1 := evalOp_mono hs.ev h1
   obtain ⟨v', S', rfl⟩ := cls1_val (hc o ho) h1
   obtain ⟨h2, H⟩ := dIf_some H
   exact ⟨by simp only [hb, cond_true, ho, h1, h2], H⟩
  ·rename_i hb
   obtain ⟨h1, h2⟩ := againD1_some t H
   exact ⟨by simp only [hb, cond_false]; exact h1, h2⟩
theorem againD_some {P : Program} {C : CallD} {ops : Array Oper} {S : St} {x : An} {z : V × St} {a b : List Rec} (hr : RecsD P ops a b) : ∀ {re : List Nat}, againD P C ops a S x re = some z → again P ops b S re = true ∧ x = some z
 | [], H => ⟨rfl, H⟩
 | i :: re, H => by
  obtain ⟨h1, H⟩ := againD1_some hr H
  obtain ⟨h2, H⟩ := againD_some hr H
  refine ⟨?_, H⟩
  simp only [again]
  rw [h2, Bool.and_true]
  exact h1
theorem drawD_some {P : Program} {call : Call} {C : CallD} (hc : CallDOK call C) {n : Nat} {ops : Array Oper} {base : Nat} {K : KN} {z : V × St} : ∀ {l : List Step} {sk : List Nat} {a b : List Rec} {E e : Env} {S : St}, RecsD P ops a b → SubE E e →
    drawD P C n ops base l sk a E S K = some z → ∃ E' e' S', drawGo P call n ops base l b e S = .ok (e', S') ∧ SubE E' e' ∧ K E' S' = some z
  | [], sk, a, b, E, e, S, hr, hs, H => ⟨E, e, S, rfl, hs, H⟩
  | (i, re) :: l, sk, a, b, E, e, S, hr, hs, H => by
    obtain ⟨o, ho, H⟩ := dO_some H
    obtain ⟨E1, e1, S1, ran, v, h1, h2, h3, hw, hv⟩ := stepD_some hc hs H
    obtain ⟨h4, H⟩ := againD_some hr h3
    have hr' : RecsD P ops (recD P o i E ran v a) (bif Nat.beq (cls P o.op) 1 && isTrue (wanted ops o e) then
          (match o.dst with
          | none => b
          | some d => match e1.get d with
            | some v => (i, e, v) :: b
            | none => b) else b) := by
      rw [hw]
      unfold recD
      simp only [isTrue]
      cases hcl : Nat.beq (cls P o.op) 1 with
      | false => exact hr
      | true =>
        cases ran with
        | false => exact hr
        | true =>
          cases hd : o.dst with
          | none => exact hr
          | some d =>
            have := hv d hd
            simp only [this, Bool.and_self, Option.isSome, cond_true]
            exact .cons i E e v a b hs (fun o' ho2 => by rw [ho] at ho2; cases ho2; exact Nat.eq_of_beq_eq_true hcl) hr
    obtain ⟨E2, e2, S2, h5, h6, h7⟩ := drawD_some hc hr' h2 H
    refine ⟨E2, e2, S2, ?_, h6, h7⟩
    simp only [drawGo, ho, h1, h4, cond_true]
    exact h5
theorem dstsL_not {l : List Oper} {t : Nat} (h : dstsL l t = false) : ∀ o ∈ l, o.dst ≠ some t := by
 induction l with
 | nil => intro o ho; cases ho
 | cons x l ih =>
  intro o ho
  simp only [dstsL, Bool.or_eq_false_iff] at h
  rcases List.mem_cons.1 ho with rfl | ho
  ·intro hd
   rw [hd] at h
   simp only [Nat.beq_refl] at h
   cases h.1
  ·exact ih h.2 o ho
theorem putDst_keep {n : Nat} {e e' : Env} {d : Option Tmp} {v : V} {t : Nat} (h : putDst n e d v = .ok e') (hd : d ≠ some t) : e'.get t = e.get t := by
 unfold putDst at h
 split at h
 ·cases h; rfl
 ·rename_i d
  rw [cond_eq_ite] at h
  split at h
  ·cases h
   exact Tr.get_put_neB _ _ _ _ trivial (fun e => hd (by rw [e]))
  ·cases h
theorem stepOp_keep {P : Program} {call : Call} {n : Nat} {ops : Array Oper} {o : Oper} {fr : Option Nat} {e e' : Env} {S S' : St} {t : Nat} (h : stepOp P call n ops o fr e S = .ok (e', S')) (hd : o.dst ≠ some t) : e'.get t = e.get t := by
 have fin : ∀ {v : V} {S1 : St}, (match putDst n e o.dst v with
   | .ok e' => Except.ok (e', S1)
   | .error w => .error w : R (Env × St)) = .ok (e', S') → e'.get t = e.get t := by
  intro v S1 h
  split at h
  ·rename_i e1 h1
   cases h
   exact putDst_keep h1 hd
  ·cases h
 unfold stepOp at h
 split at h
 ·cases h
 ·exact fin h
 ·split at h
  ·cases h
  ·exact fin h
  ·exact fin h
  ·split at h
   ·cases h
   ·exact fin h
theorem runOps_keep {P : Program} {call : Call} {n : Nat} {ops : Array Oper} {t : Nat} : ∀ {l : List Oper} {e e' : Env} {S S' : St}, runOps P call n ops l e S = .ok (e', S') → (∀ o ∈ l, o.dst ≠ some t) → e'.get t = e.get t
 | [], e, e', S, S', h, hd => by cases h; rfl
 | o :: l, e, e', S, S', h, hd => by
  simp only [runOps] at h
  split at h
  ·rename_i e1 S1 h1
   rw [runOps_keep h (fun o ho => hd o (List.mem_cons_of_mem _ ho)), stepOp_keep h1 (hd o (List.mem_cons_self ..))]
  ·cases h
theorem drawGo_keep {P : Program} {call : Call} {n : Nat} {ops : Array Oper} {base t : Nat} (hd : ∀ o ∈ ops.toList, o.dst ≠ some t) : ∀ {l : List Step} {r : List Rec} {e e' : Env} {S S' : St}, drawGo P call n ops base l r e S = .ok (e', S') → e'.get t = e.get t
 | [], r, e, e', S, S', h => by cases h; rfl
 | (i, re) :: l, r, e, e', S, S', h => by
  simp only [drawGo] at h
  split at h
  ·cases h
  ·rename_i o ho
   split at h
   ·cases h
   ·rename_i e1 S1 h1
    rw [cond_eq_ite] at h
    split at h
    ·rw [drawGo_keep hd h, stepOp_keep h1 (hd o (by rw [Array.mem_toList_iff]; exact Array.mem_of_getElem? ho))]
    ·cases h
theorem exec_keep {P : Program} {pl : Nat → Option (List Step)} {call : Call} {k n t : Nat} : ∀ (c : Code) {e e' : Env} {S S' : St} {x : Ex}, puts c t = false → exec P pl call k n c e S = .ok (x, e', S') → e'.get t = e.get t := by
 intro c
 induction c with
 | skip => intro e e' S S' x hp h; cases h; rfl
 | label l => intro e e' S S' x hp h; cases h; rfl
 | exit id => intro e e' S S' x hp h; cases h; rfl
 | ret => intro e e' S S' x hp h; cases h; rfl
 | region id ops d =>
  intro e e' S S' x hp h
  simp only [exec] at h
  have hd := dstsL_not hp
  split at h
  ·rename_i e1 S1 h1
   cases h
   cases d
   ·exact runOps_keep (by simpa using h1) hd
   ·exact drawGo_keep hd (by simpa [draw] using h1)
  ·cases h
 | seq a b iha ihb =>
  intro e e' S S' x hp h
  simp only [puts, Bool.or_eq_false_iff] at hp
  simp only [exec] at h
  split at h
  ·rename_i e1 S1 h1
   rw [ihb hp.2 h, iha hp.1 h1]
  ·exact iha hp.1 h
 | cond c a b iha ihb =>
  intro e e' S S' x hp h
  simp only [puts, Bool.or_eq_false_iff] at hp
  simp only [exec] at h
  split at h
  ·exact iha hp.1 h
  ·exact ihb hp.2 h
  ·cases h
 | block id a iha =>
  intro e e' S S' x hp h
  simp only [puts] at hp
  simp only [exec] at h
  split at h
  ·rename_i j e1 S1 h1
   rw [cond_eq_ite] at h
   split at h
   ·cases h; exact iha hp h1
   ·cases h; exact iha hp h1
  ·exact iha hp h
 | loop a iha =>
  intro e e' S S' x hp h
  simp only [puts] at hp
  simp only [exec] at h
  have key : ∀ (m : Nat) {e : Env} {S : St}, iter (exec P pl call k n a) m e S = .ok (x, e', S') → e'.get t = e.get t := by
   intro m
   induction m with
   | zero => intro e S h; cases h
   | succ m ihm =>
    intro e S h
    simp only [iter] at h
    split at h
    ·rename_i e1 S1 h1
     rw [ihm h, iha hp h1]
    ·exact iha hp h
  exact key k h
 | scope a _ => intro e e' S S' x hp h; cases h
 | rangeFunc f ps a b _ _ => intro e e' S S' x hp h; cases h
 | goto l => intro e e' S S' x hp h; cases h
 | refuse w => intro e e' S S' x hp h; cases h
theorem filt_get {α : Type} : ∀ (t : Tr α) (p : Nat → Bool) (n : Nat), (t.filt p).get n = if p n = true then t.get n else none
 | .nil, p, n => by simp [Tr.filt, Tr.get_nil]
 | .node l v r, p, n => by
  simp only [Tr.filt]
  rw [Tr.get_node, Tr.get_node]
  by_cases h0 : n = 0
  ·subst h0
   simp only [if_true]
   cases p 0 <;> simp
  ·rw [if_neg h0, if_neg h0]
   by_cases h1 : n % 2 = 1
   ·rw [if_pos h1, if_pos h1, filt_get l]
    rw [show 2 * (n / 2) + 1 = n by omega]
   ·rw [if_neg h1, if_neg h1, filt_get r]
    rw [show 2 * (n / 2 - 1) + 2 = n by omega]
inductive SlotsR (e : Env) : List Nat → List V → Prop
 | nil : SlotsR e [] []
 | cons {t : Nat} {v : V} {l : List Nat} {vs : List V} (h : e.get t = some v) (r : SlotsR e l vs) : SlotsR e (t :: l) (v :: vs)
theorem slotsD_some {E e : Env} (hs : SubE E e) : ∀ {l : List Nat} {K : List V → An} {z : V × St}, slotsD E l K = some z → ∃ vs, SlotsR e l vs ∧ K vs = some z
 | [], K, z, H => ⟨[], .nil, H⟩
 | t :: l, K, z, H => by
  obtain ⟨v, h1, H⟩ := dO_some H
  obtain ⟨vs, h2, H⟩ := slotsD_some hs H
  exact ⟨v :: vs, .cons (hs t v h1) h2, H⟩
theorem layD_some {e : Env} : ∀ {l : List Nat} {vs : List V} {E : Env} {K : Env → An} {z : V × St}, SubE E e → SlotsR e l vs → layD l vs E K = some z → ∃ E', SubE E' e ∧ K E' = some z
 | [], vs, E, K, z, hs, hf, H => ⟨E, hs, H⟩
 | t :: l, vs, E, K, z, hs, hf, H => by
  cases hf with
  | cons h1 h2 =>
   obtain ⟨v, r, e1, H⟩ := unD_some H
   cases e1
   exact layD_some (hs.putl h1) h2 H
def AfterC (Kn : KN) (Kx : KXD) (Kr : KN) (z : V × St) : Ex × Env × St → Prop
 | (.normal, e, S) => ∃ E, SubE E e ∧ Kn E S = some z
 | (.exit id, e, S) => ∃ E, SubE E e ∧ Kx id E S = some z
 | (.ret, e, S) => ∃ E, SubE E e ∧ Kr E S = some z
theorem codeD_some {P : Program} {call : Call} {C : CallD} (hc : CallDOK call C) {n : Nat} {p : Nat → Option (List Step)} {lv : Nat → List Nat} {k : Nat} : ∀ (c : Code) {E e : Env} {S : St} {Kn : KN} {Kx : KXD} {Kr : KN} {z : V × St}, SubE E e →
  codeD P C n p lv k c E S Kn Kx Kr = some z → ∃ r, exec P p call k n c e S = .ok r ∧ AfterC Kn Kx Kr z r := by
 intro c
 induction c with
 | skip => intro E e S Kn Kx Kr z hs H; exact ⟨_, rfl, E, hs, H⟩
 | label l => intro E e S Kn Kx Kr z hs H; exact ⟨_, rfl, E, hs, H⟩
 | exit id => intro E e S Kn Kx Kr z hs H; exact ⟨_, rfl, E, hs, H⟩
 | ret => intro E e S Kn Kx Kr z hs H; exact ⟨_, rfl, E, hs, H⟩
 | region id ops d =>
  intro E e S Kn Kx Kr z hs H
  simp only [codeD] at H
  split at H
  ·obtain ⟨E', e', S', h1, h2, h3⟩ := drawD_some hc .nil hs H
   have h1 : draw P call n ops (stepsOf (p id) ops.size) e S = .ok (e', S') := h1
   exact ⟨(.normal, e', S'), by simp only [exec, cond_true, h1], E', h2, h3⟩
  ·obtain ⟨E', e', S', h1, h2, h3⟩ := runD_some hc hs H
   exact ⟨(.normal, e', S'), by simp only [exec, cond_false, h1], E', h2, h3⟩
 | seq a b iha ihb =>
  intro E e S Kn Kx Kr z hs H
  obtain ⟨⟨x, e1, S1⟩, h1, h2⟩ := iha hs H
  cases x with
  | normal =>
   obtain ⟨E1, h3, h4⟩ := h2
   obtain ⟨r, h5, h6⟩ := ihb h3 h4
   exact ⟨r, by simp only [exec, h1]; exact h5, h6⟩
  | exit id => exact ⟨(.exit id, e1, S1), by simp only [exec, h1], h2⟩
  | ret => exact ⟨(.ret, e1, S1), by simp only [exec, h1], h2⟩
 | cond c a b iha ihb =>
  intro E e S Kn Kx Kr z hs H
  simp only [codeD] at H
  obtain ⟨v, h1, H⟩ := dO_some H
  have h1 := hs.ev _ _ h1
  have hk : ∀ b, v = .bool b → SubE (knowD E c b) e := by
   intro b hb
   subst hb
   unfold knowD
   split
   ·exact hs.putl h1
   ·exact hs
  rcases pickD_some H with ⟨hb, H⟩ | ⟨hb, H⟩
  ·obtain ⟨r, h2, h3⟩ := iha (hk _ hb) H
   subst hb
   exact ⟨r, by simp only [exec, h1]; exact h2, h3⟩
  ·obtain ⟨r, h2, h3⟩ := ihb (hk _ hb) H
   subst hb
   exact ⟨r, by simp only [exec, h1]; exact h2, h3⟩
 | block id a iha =>
  intro E e S Kn Kx Kr z hs H
  obtain ⟨⟨x, e1, S1⟩, h1, h2⟩ := iha hs H
  cases x with
  | normal => exact ⟨(.normal, e1, S1), by simp only [exec, h1], h2⟩
  | ret => exact ⟨(.ret, e1, S1), by simp only [exec, h1], h2⟩
  | exit j =>
   obtain ⟨E1, h3, h4⟩ := h2
   simp only at h4
   split at h4
   ·rename_i hj
    exact ⟨(.normal, e1, S1), by simp only [exec, h1, hj, cond_true], E1, h3, h4⟩
   ·rename_i hj
    exact ⟨(.exit j, e1, S1), by simp only [exec, h1, hj, cond_false], E1, h3, h4⟩
 | loop a iha =>
  intro E e S Kn Kx Kr z hs H
  simp only [codeD] at H
  obtain ⟨vs, hf, H⟩ := slotsD_some hs H
  have hb : SubE (E.filt fun t => !puts a t) e := by
   intro t v hv
   rw [filt_get] at hv
   split at hv
   ·exact hs t v hv
   ·cases hv
  have key : ∀ (m : Nat) {vs : List V} {e : Env} {S : St}, SubE (E.filt fun t => !puts a t) e → SlotsR e (lv (firstRegion a)) vs →
    (loopD m vs S fun vs S again => layD (lv (firstRegion a)) vs (E.filt fun t => !puts a t) fun e =>
     codeD P C n p lv k a e S (fun e S => slotsD e (lv (firstRegion a)) fun vs => again vs S) Kx Kr) = some z → ∃ r, iter (exec P p call k n a) m e S = .ok r ∧ AfterC Kn Kx Kr z r := by
   intro m
   induction m with
   | zero => intro vs e S _ _ H; cases H
   | succ m ihm =>
    intro vs e S hb hf H
    simp only [loopD] at H
    obtain ⟨E', h1, H⟩ := layD_some hb hf H
    obtain ⟨⟨x, e1, S1⟩, h2, h3⟩ := iha h1 H
    cases x with
    | normal =>
     obtain ⟨E1, h4, h5⟩ := h3
     obtain ⟨vs1, h6, h7⟩ := slotsD_some h4 h5
     have hb1 : SubE (E.filt fun t => !puts a t) e1 := by
      intro t v hv
      have hv0 := hv
      rw [filt_get] at hv
      split at hv
      ·rename_i hp
       have hp : puts a t = false := by simpa using hp
       rw [exec_keep a hp h2]
       exact hb t v hv0
      ·cases hv
     obtain ⟨r, h8, h9⟩ := ihm hb1 h6 h7
     exact ⟨r, by simp only [iter, h2]; exact h8, h9⟩
    | exit id => exact ⟨(.exit id, e1, S1), by simp only [iter, h2], h3⟩
    | ret => exact ⟨(.ret, e1, S1), by simp only [iter, h2], h3⟩
  obtain ⟨r, h1, h2⟩ := key k hb hf H
  exact ⟨r, h1, h2⟩
 | scope a _ => intro E e S Kn Kx Kr z hs H; cases H
 | rangeFunc f ps a b _ _ => intro E e S Kn Kx Kr z hs H; cases H
 | goto l => intro E e S Kn Kx Kr z hs H; cases H
 | refuse w => intro E e S Kn Kx Kr z hs H; cases H
theorem resD_some {P : Program} {E e : Env} (hs : SubE E e) {S : St} : ∀ {l : List ResultVar} {K : List V → An} {z : V × St}, resD P E S l K = some z → ∃ vs, resV P e S l = .ok vs ∧ K vs = some z
 | [], K, z, H => ⟨[], rfl, H⟩
 | .tmp t :: l, K, z, H => by
  obtain ⟨v, h1, H⟩ := dO_some H
  obtain ⟨vs, h2, H⟩ := resD_some hs H
  exact ⟨v :: vs, by simp only [resV, hs t v h1, h2], H⟩
 | .cell a t :: l, K, z, H => by
  obtain ⟨p, h1, H⟩ := dO_some H
  obtain ⟨v, h3, H⟩ := dR_some H
  obtain ⟨vs, h2, H⟩ := resD_some hs H
  exact ⟨v :: vs, by simp only [resV, hs a p h1, h3, h2], H⟩
theorem callD_some {P : Program} {pl : Plans} {lv : Lives} : ∀ k, CallDOK (callF P pl k) (callD P pl lv k)
 | 0 => fun _ _ _ _ _ H => by cases H
 | k + 1 => by
  intro f args S K z H
  obtain ⟨x, hx, H⟩ := dO_some H
  cases x with
  | spec g =>
   obtain ⟨r, h1, H⟩ := dR_some H
   exact ⟨r.1, r.2, by simp only [callF, hx, h1], H⟩
  | code p =>
   obtain ⟨b, hb, H⟩ := dO_some H
   unfold bodyD at hb
   rw [nthF_arr] at hb
   split at hb
   ·cases hb
   ·rename_i fn hfn
    split at hb
    ·cases hb
    ·rename_i c hcb
     split at hb
     ·rename_i hlt
      cases hb
      obtain ⟨hle, H⟩ := dIf_some H
      obtain ⟨⟨x, e1, S1⟩, h1, h2⟩ := codeD_some (callD_some k) c (SubE.refl _) H
      have hck : (Nat.ble args.length fn.ntmps && Nat.blt fn.ntmps lim) = true := by rw [hlt]; simpa using hle
      have fin : ∀ {x : Ex}, (∀ id, x ≠ .exit id) → exec P p (callF P pl k) k fn.ntmps c (argsEnv 0 args .nil) S = .ok (x, e1, S1) → (∃ E, SubE E e1 ∧ retD P fn.results.toList K E S1 = some z) →
        ∃ v S', callF P pl (k + 1) f args S = .ok (v, S') ∧ K v S' = some z := by
       rintro x hne h1 ⟨E, h3, h4⟩
       obtain ⟨vs, h5, h6⟩ := resD_some h3 h4
       refine ⟨resOne vs, S1, ?_, h6⟩
       simp only [callF, hx, hfn, hcb, hck, cond_true, h1]
       cases x with
       | exit id => exact absurd rfl (hne id)
       | normal => simp only [h5]
       | ret => simp only [h5]
      cases x with
      | normal => exact fin (fun _ => Ex.noConfusion) h1 h2
      | ret => exact fin (fun _ => Ex.noConfusion) h1 h2
      | exit id =>
       obtain ⟨E, _, h4⟩ := h2
       cases h4
     ·cases hb
section
def partW (k : Option Nat) (cs : List V) (j : Nat) : R V := match k with
 | none => (match cs[j]? with
  | some v => .ok v
  | none => .error "part")
 | some n => if j + n ≤ cs.length then .ok (.agg ((cs.drop j).take n)) else .error "part"
def loadW (k : Option Nat) (p : V) (S : St) : R V := match p with
 | .ptr a ver i j => (match getRow S a ver with
  | .error e => .error e
  | .ok (_, elems) => match elems[i]? with
   | some cs => partW k cs j
   | none => .error "load")
 | .iptr cs j => partW k cs j
 | _ => .error "load: a pointer expected"
theorem partV_of {P : Program} {t : TypeId} {k : Option Nat} (h : tk P t = some k) (cs : List V) (j : Nat) : partV P t cs j = partW k cs j := by
 unfold tk at h
 unfold partV
 split at h
 ·cases h
 ·rename_i d hd
  simp only [hd]
  rw [cond_eq_ite] at h ⊢
  split at h
  ·rename_i ha
   cases h
   rw [if_pos ha, cond_eq_ite]
   simp only [partW, Nat.ble_eq]
  ·rename_i ha
   cases h
   rw [if_neg ha]
   rfl
theorem loadV_of {P : Program} {t : TypeId} {k : Option Nat} (h : tk P t = some k) (p : V) (S : St) : loadV P t p S = loadW k p S := by
 unfold loadV loadW
 cases p <;> simp only [partV_of h] <;> rfl
def stT (P : Program) (t : TypeId) : Option Nat := match P.underlying t with
 | some _ => some (sz P t)
 | none => none
def storeW (n : Nat) (p x : V) (S : St) : R St := match p with
 | .ptr a ver i j => (match getRow S a ver with
  | .error e => .error e
  | .ok (es, elems) => match elems[i]? with
   | some cs => if x.cells.length = n ∧ allOne x.cells = true ∧ j + x.cells.length ≤ cs.length then .ok ⟨S.next, S.heap.put a (.row ver es (elems.set i (splice cs j x.cells)))⟩ else .error "store: the size"
   | none => .error "store")
 | _ => .error "store: a pointer expected"
theorem storeV_of {P : Program} {t : TypeId} {n : Nat} (h : stT P t = some n) (p x : V) (S : St) : storeV P t p x S = storeW n p x S := by
 unfold stT at h
 split at h
 ·rename_i d hd
  cases h
  unfold storeV storeW
  rw [hd]
  cases p <;> try rfl
  rename_i a ver i j
  simp only
  cases getRow S a ver with
  | error e => rfl
  | ok r =>
   simp only
   cases r.2[i]? with
   | none => rfl
   | some cs => simp only [cond_eq_ite, Bool.and_eq_true, Nat.beq_eq, Nat.ble_eq, and_assoc]
 ·cases h
def advW (off : Nat) (p : V) : R V := match p with
 | .ptr a ver i j => .ok (.ptr a ver i (j + off))
 | .iptr cs j => .ok (.iptr cs (j + off))
 | _ => .error "fieldAddr"
theorem fieldAddrV_of {P : Program} {s : TypeId} {f off : Nat} (h : fo P s f = some off) (p : V) : fieldAddrV P s p f = advW off p := by
 unfold fo at h
 unfold fieldAddrV
 split at h
 ·cases h
 ·rename_i fd hfd
  rw [cond_eq_ite] at h
  split at h
  ·cases h
  ·rename_i hz
   cases h
   have hz : Nat.beq (sz P fd.type) 0 = false := by
    cases hb : Nat.beq (sz P fd.type) 0 with
    | false => rfl
    | true => exact absurd hb hz
   simp only [hfd, hz, cond_false]
   cases p <;> rfl
def lenW (x : V) : R V := match x with
 | .nils => .ok (.int .i64 0)
 | .sl _ _ _ _ len => .ok (.int .i64 len)
 | .imm es => .ok (.int .i64 es.length)
 | _ => .error "len"
theorem lenV_of {P : Program} {t : TypeId} (h : isSlT P t = true) (x : V) (S : St) : lenV P t x S = lenW x := by
 unfold isSlT at h
 unfold lenV
 split at h
 ·rename_i e he; rw [he]; cases x <;> rfl
 ·cases h
theorem lenV_text {P : Program} {t : TypeId} (h : isStT P t = true) (s : List UInt8) (S : St) : lenV P t (.str s) S = .ok (.int .i64 s.length) := by
 unfold isStT at h
 unfold lenV
 split at h
 ·rename_i he; rw [he]
 ·cases h
def idxW (n : Nat) (x ix : V) : R V := match x with
 | .sl a ver es off len => (match idxIn ix len with
  | some k => if es = n then .ok (.ptr a ver (off + k) 0) else .error "indexAddr: the size"
  | none => .error "index out of range")
 | .imm es => (match idxIn ix es.length with
  | some k => match es[k]? with
   | some cs => if cs.length = n then .ok (.iptr cs 0) else .error "indexAddr: the size"
   | none => .error "index"
  | none => .error "index out of range")
 | _ => .error "indexAddr"
theorem indexAddrV_of {P : Program} {t : TypeId} {n : Nat} (h : esT P t = some n) (x ix : V) : indexAddrV P t x ix = idxW n x ix := by
 unfold esT at h
 unfold indexAddrV idxW
 split at h
 ·rename_i e he
  rw [cond_eq_ite] at h
  split at h
  ·rename_i hs
   cases h
   rw [he]
   simp only [hs, Bool.not_true, cond_false]
   cases x <;> try rfl
   ·rename_i a ver es off len
    simp only
    cases idxIn ix len <;> simp only [cond_eq_ite, Nat.beq_eq]
   ·rename_i es
    simp only
    cases idxIn ix es.length with
    | none => rfl
    | some k => simp only [cond_eq_ite, Nat.beq_eq]; rfl
  ·cases h
 ·cases h
def bdS (P : Program) (t : TypeId) : Option (List V × List (Nat × Nat)) := match zeroOf P t, P.underlying t with
 | some z, some (.struct fs) => (match fs.toList.all fun f => (P.underlying f.type).isSome with
  | true => some (z.cells, fs.toList.map fun f => (f.offset, sz P f.type))
  | false => none)
 | _, _ => none
theorem fillV_congr {p q : Nat → Option (Nat × Nat)} (h : ∀ i, p i = q i) : ∀ (l : List (Nat × V)) (cs : List V), fillV p cs l = fillV q cs l
 | [], cs => rfl
 | (i, v) :: l, cs => by simp only [fillV, h, fillV_congr h l]
def buildW (z : List V) (pl : List (Nat × Nat)) (parts : List (Nat × V)) : R V := match fillV (fun i => pl[i]?) z parts with
 | .ok cs => .ok (.agg cs)
 | .error e => .error e
theorem buildV_of {P : Program} {t : TypeId} {z : List V} {pl : List (Nat × Nat)} (h : bdS P t = some (z, pl)) (parts : List (Nat × V)) : buildV P t parts = buildW z pl parts := by
 unfold bdS at h
 unfold buildV buildW
 split at h
 ·rename_i z' fs hz hu
  split at h
  ·rename_i ha
   cases h
   simp only [hz, hu, ha, Bool.not_true, cond_false]
   rw [fillV_congr (q := fun i => (fs.toList.map fun f => (f.offset, sz P f.type))[i]?) (fun i => by simp)]
   rfl
  ·cases h
 ·cases h
def bsT (P : Program) (t : TypeId) : Option (Nat × List V) := match elemT P t with
 | some e => (match zeroOf P e with
  | some z => (match Nat.beq z.cells.length (sz P e) with
   | true => some (sz P e, z.cells)
   | false => none)
  | none => none)
 | none => none
def buildSliceW (n : Nat) (z : List V) (len : Nat) (parts : List (Nat × V)) (fr : Option Nat) (S : St) : R (V × St) := if len * n ≤ 16777216 then
  (match layV n (List.replicate len z) parts with
  | .error e => .error e
  | .ok elems => match newBlk fr S (.row 0 n elems) with
   | .error e => .error e
   | .ok (a, S') => .ok (.sl a 0 n 0 len, S')) else .error "buildSlice: the size"
theorem buildSliceV_of {P : Program} {t : TypeId} {n : Nat} {z : List V} (h : bsT P t = some (n, z)) (len : Nat) (parts : List (Nat × V)) (fr : Option Nat) (S : St) : buildSliceV P t len parts fr S = buildSliceW n z len parts fr S := by
 unfold bsT at h
 unfold buildSliceV buildSliceW
 split at h
 ·rename_i e he
  split at h
  ·rename_i z' hz
   split at h
   ·rename_i hb
    cases h
    simp only [he, hz, hb, Bool.true_and, cond_eq_ite, Nat.ble_eq]
    rfl
   ·cases h
  ·cases h
 ·cases h
def appW (n b : Nat) (s x : V) (fr : Option Nat) (S : St) : R (V × St) :=
 match elemsOf S x with
 | .error e => .error e
 | .ok xs => if allLen n xs = true ∧ xs.all allOne = true then
  (match s with
  | .nils => (match xs with
   | [] => .ok (.nils, S)
   | _ => if xs.length * b ≤ 35184372088832 ∧ xs.length < lim then (match newBlk fr S (.row 0 n xs) with
    | .error e => .error e
    | .ok (a, S') => .ok (.sl a 0 n 0 xs.length, S')) else .error "append: room")
  | .sl a ver _ off len => (match getRow S a ver with
   | .error e => .error e
   | .ok (es, elems) =>
    if off + len ≤ elems.length ∧ es = n ∧ (len + xs.length) * b ≤ 35184372088832 ∧ len + xs.length < lim then
     .ok (.sl a (ver + 1) es 0 (len + xs.length), ⟨S.next, S.heap.put a (.row (ver + 1) es ((elems.drop off).take len ++ xs))⟩)
    else .error "append: room")
  | _ => .error "append") else .error "append: sizes"
theorem appendV_of {P : Program} {t : TypeId} {n b : Nat} (h : apT P t = some (n, b)) (s x : V) (fr : Option Nat) (S : St) : appendV P t s x fr S = appW n b s x fr S := by
 unfold apT at h
 split at h
 ·cases h
 ·rename_i e he
  rw [cond_eq_ite] at h
  split at h
  ·rename_i hz
   cases h
   unfold appendV appW
   simp only [he]
   cases elemsOf S x with
   | error w => rfl
   | ok xs =>
    simp only
    by_cases h12 : allLen (sz P e) xs = true ∧ xs.all allOne = true
    ·have e1 : (!(allLen (sz P e) xs && xs.all allOne && zeroFits P e)) = false := by rw [h12.1, h12.2, hz]; rfl
     rw [e1, if_pos h12]
     simp only [cond_false]
     cases s with
     | nils =>
      cases xs with
      | nil => rfl
      | cons c xs => simp only [room, cond_eq_ite, Bool.and_eq_true, Nat.ble_eq, Nat.blt_eq]; rfl
     | sl a ver es off len =>
      simp only
      cases getRow S a ver with
      | error w => rfl
      | ok r => simp only [room, cond_eq_ite, Bool.and_eq_true, Nat.ble_eq, Nat.blt_eq, Nat.beq_eq, and_assoc]
     | _ => rfl
    ·have e1 : (!(allLen (sz P e) xs && xs.all allOne && zeroFits P e)) = true := by
      cases h1 : allLen (sz P e) xs with
      | false => rfl
      | true =>
       cases h2 : xs.all allOne with
       | false => rfl
       | true => exact absurd ⟨h1, h2⟩ h12
     rw [e1, if_neg h12]
     rfl
  ·cases h
def cvT (P : Program) (s d : TypeId) : Option IntKind := match P.underlying s, P.underlying d with
 | some _, some (.int k) => some k
 | _, _ => none
theorem convertV_of {P : Program} {s d : TypeId} {k : IntKind} (h : cvT P s d = some k) (j : IntKind) (n : Int) (fr : Option Nat) (S : St) : convertV P s d (.int j n) fr S = .ok (.int k (wr k n), S) := by
 unfold cvT at h
 split at h
 ·rename_i u k' hu hd
  cases h
  simp only [convertV, hu, hd]
 ·cases h
theorem sliceV_of {P : Program} {t : TypeId} {n : Nat} (h : esT P t = some n) (a ver off len : Nat) (lo hi : Option V) : sliceV P t (.sl a ver n off len) lo hi = (match bounds len lo hi with
      | .ok (l, h) => .ok (.sl a ver n (off + l) (h - l))
      | .error e => .error e) := by
  unfold esT at h
  unfold sliceV
  split at h
  · rename_i e he
    rw [cond_eq_ite] at h
    split at h
    · rename_i hs
      cases h
      rw [he]
      simp only [hs, Bool.not_true, cond_false, Nat.beq_refl, cond_true]
      rfl
    · cases h
  · cases h
theorem sliceV_imm {P : Program} {t : TypeId} {n : Nat} (h : esT P t = some n) (es : List (List V)) (hl : allLen n es = true) (lo hi : Option V) : sliceV P t (.imm es) lo hi = (match bounds es.length lo hi with
      | .ok (l, h) => .ok (.imm ((es.take h).drop l))
      | .error e => .error e) := by
  unfold esT at h
  unfold sliceV
  split at h
  · rename_i e he
    rw [cond_eq_ite] at h
    split at h
    · rename_i hs
      cases h
      rw [he]
      simp only [hs, Bool.not_true, cond_false, hl, cond_true]
      rfl
    · cases h
  · cases h
section
variable (P : Program) (t : TypeId) (k : IntKind) (a b : Int)
theorem kindBeq_refl (k : IntKind) : kindBeq k k = true := by cases k <;> rfl
theorem bin_add : binV P .add t (.int k a) (.int k b) = .ok (.int k (wr k (a + b))) := by simp only [binV, kindBeq_refl, cond_true, intOp]
theorem bin_sub : binV P .sub t (.int k a) (.int k b) = .ok (.int k (wr k (a - b))) := by simp only [binV, kindBeq_refl, cond_true, intOp]
theorem bin_mul : binV P .mul t (.int k a) (.int k b) = .ok (.int k (wr k (a * b))) := by simp only [binV, kindBeq_refl, cond_true, intOp]
theorem bin_quo (h : b ≠ 0) : binV P .quo t (.int k a) (.int k b) = .ok (.int k (wr k (a.tdiv b))) := by simp only [binV, kindBeq_refl, cond_true, intOp, h, decide_false, cond_false]
theorem bin_rem (h : b ≠ 0) : binV P .rem t (.int k a) (.int k b) = .ok (.int k (a.tmod b)) := by simp only [binV, kindBeq_refl, cond_true, intOp, h, decide_false, cond_false]
theorem bin_lss : binV P .lss t (.int k a) (.int k b) = .ok (.bool (decide (a < b))) := by simp only [binV, kindBeq_refl, cond_true, intOp]
theorem bin_leq : binV P .leq t (.int k a) (.int k b) = .ok (.bool (decide (a ≤ b))) := by simp only [binV, kindBeq_refl, cond_true, intOp]
theorem bin_gtr : binV P .gtr t (.int k a) (.int k b) = .ok (.bool (decide (b < a))) := by simp only [binV, kindBeq_refl, cond_true, intOp]
theorem bin_geq : binV P .geq t (.int k a) (.int k b) = .ok (.bool (decide (b ≤ a))) := by simp only [binV, kindBeq_refl, cond_true, intOp]
theorem bin_eql : binV P .eql t (.int k a) (.int k b) = .ok (.bool (decide (a = b))) := by simp only [binV, kindBeq_refl, cond_true, intOp]
theorem bin_neq : binV P .neq t (.int k a) (.int k b) = .ok (.bool (!decide (a = b))) := by simp only [binV, kindBeq_refl, cond_true, intOp]
theorem guard_int (j : IntKind) : guardP P t (.int j a) (.int k b) = true := rfl
theorem guard_str (x y : List UInt8) : guardP P t (.str x) (.str y) = true := rfl
theorem guard_bool (x y : Bool) : guardP P t (.bool x) (.bool y) = true := rfl
theorem str_eql (x y : List UInt8) : binV P .eql t (.str x) (.str y) = .ok (.bool (x == y)) := by simp only [binV, strOp, beqB_eq]
theorem str_neq (x y : List UInt8) : binV P .neq t (.str x) (.str y) = .ok (.bool (!(x == y))) := by simp only [binV, strOp, beqB_eq]
theorem str_lss (x y : List UInt8) : binV P .lss t (.str x) (.str y) = .ok (.bool (ltB x y)) := by simp only [binV, strOp]
theorem str_geq (x y : List UInt8) : binV P .geq t (.str x) (.str y) = .ok (.bool (!ltB x y)) := by simp only [binV, strOp]
theorem un_not (b : Bool) : unV .not (.bool b) = .ok (.bool !b) := rfl
end
theorem wr64 {n : Int} (h1 : -9223372036854775808 ≤ n) (h2 : n ≤ 9223372036854775807) : wr .i64 n = n := by
 unfold wr lo hi
 simp only
 rw [if_pos ⟨h1, h2⟩]
theorem dR_ok {α : Type} (a : α) (K : α → An) : dR (.ok a) K = K a := rfl
theorem dO_ok {α : Type} (a : α) (K : α → An) : dO (some a) K = K a := rfl
theorem dIf_true (x : An) : dIf true x = x := rfl
theorem pickD_true (x y : An) : pickD (.bool true) x y = x := rfl
theorem pickD_false (x y : An) : pickD (.bool false) x y = y := rfl
theorem pickD_bool (b : Bool) (x y : An) : pickD (.bool b) x y = if b = true then x else y := by cases b <;> rfl
theorem unD_cons (v : V) (r : List V) (K : V → List V → An) : unD (v :: r) K = K v r := rfl
theorem tupD_tup (vs : List V) (i : Nat) (K : V → An) : tupD (.tup vs) i K = dO vs[i]? K := rfl
theorem nilD_ptr (a b c d : Nat) (x : An) : nilD (.ptr a b c d) x = x := rfl
theorem loopD_succ (k : Nat) (vs : List V) (S : St) (F : List V → St → (List V → St → An) → An) : loopD (k + 1) vs S F = F vs S fun vs S => loopD k vs S F := rfl
theorem funD_func (P : Program) (C : CallD) (g : FuncId) (a b args : List V) (S : St) (K : KS) (h : hasText P g = some none) : funD P C (.func g a b) args S K = C g (a ++ args ++ b) S K := by simp only [funD, callOD, h, dO_ok]
def WF (S : St) : Prop := ∀ a b, S.heap.get a = some b → a < S.next
structure Ext (S S' : St) : Prop where
 old : ∀ a b, S.heap.get a = some b → S'.heap.get a = some b
 next : S.next ≤ S'.next
 wf : WF S → WF S'
theorem Ext.refl (S : St) : Ext S S := ⟨fun _ _ h => h, Nat.le_refl _, fun h => h⟩
theorem Ext.trans {A B C : St} (h : Ext A B) (k : Ext B C) : Ext A C := ⟨fun a b q => k.old a b (h.old a b q), Nat.le_trans h.next k.next, fun w => k.wf (h.wf w)⟩
theorem Ext.row {S S' : St} (h : Ext S S') {a ver : Nat} {r : Nat × List (List V)} (hr : getRow S a ver = .ok r) : getRow S' a ver = .ok r := by
 unfold getRow at hr ⊢
 split at hr
 ·rename_i v es el hb
  rw [h.old a _ hb]
  exact hr
 ·cases hr
theorem Ext.elems {S S' : St} (h : Ext S S') {v : V} {es : List (List V)} (he : elemsOf S v = .ok es) : elemsOf S' v = .ok es := by
 unfold elemsOf at he ⊢
 split at he <;> try exact he
 rename_i a ver x off len
 split at he
 ·cases he
 ·rename_i r hr
  rw [h.row hr]
  exact he
theorem Ext.new {S : St} (w : WF S) (b : Blk) : Ext S ⟨S.next + 1, S.heap.put S.next b⟩ := by
 refine ⟨fun a c h => ?_, Nat.le_succ _, fun _ a c h => ?_⟩
 ·have := w a c h
  show (S.heap.put S.next b).get a = some c
  rw [Tr.get_put_neB _ _ _ _ trivial (by omega)]; exact h
 ·have h' : (S.heap.put S.next b).get a = some c := h
  rw [Tr.get_putB _ _ _ _ trivial] at h'
  split at h'
  ·show a < S.next + 1; omega
  ·have := w a c h'; show a < S.next + 1; omega
theorem Ext.set {S S' : St} (h : Ext S S') {a : Nat} (ha : S.next ≤ a) (hb : a < S'.next) (w : WF S) (b : Blk) : Ext S ⟨S'.next, S'.heap.put a b⟩ := by
 refine ⟨fun x c hx => ?_, h.next, fun _ x c hx => ?_⟩
 ·have := w x c hx
  show (S'.heap.put a b).get x = some c
  rw [Tr.get_put_neB _ _ _ _ trivial (by omega)]; exact h.old x c hx
 ·have hx' : (S'.heap.put a b).get x = some c := hx
  rw [Tr.get_putB _ _ _ _ trivial] at hx'
  split at hx'
  ·show x < S'.next; omega
  ·exact h.wf w x c hx'
theorem getRow_put (n : Nat) (h : Tr Blk) (a ver es : Nat) (el : List (List V)) : getRow ⟨n, h.put a (.row ver es el)⟩ a ver = .ok (es, el) := by
 simp only [getRow, Tr.get_put_sameB _ _ _ trivial, Nat.beq_refl, cond_true]
structure Sl (S : St) (n : Nat) (v : V) (es : List (List V)) : Prop where
 is : (v = .nils ∧ es = []) ∨ v = .imm es ∨ ∃ a ver off elems, v = .sl a ver n off es.length ∧ getRow S a ver = .ok (n, elems) ∧ off + es.length ≤ elems.length ∧ (elems.drop off).take es.length = es
 len : ∀ cs, cs ∈ es → cs.length = n ∧ allOne cs = true
theorem Sl.ext {S S' : St} {n : Nat} {v : V} {es : List (List V)} (h : Sl S n v es) (x : Ext S S') : Sl S' n v es := by
 refine ⟨?_, h.len⟩
 rcases h.is with h1 | h1 | ⟨a, ver, off, elems, h1, h2, h3, h4⟩
 ·exact .inl h1
 ·exact .inr (.inl h1)
 ·exact .inr (.inr ⟨a, ver, off, elems, h1, x.row h2, h3, h4⟩)
theorem Sl.elems {S : St} {n : Nat} {v : V} {es : List (List V)} (h : Sl S n v es) : elemsOf S v = .ok es := by
 rcases h.is with ⟨rfl, rfl⟩ | rfl | ⟨a, ver, off, elems, rfl, h2, h3, h4⟩
 ·rfl
 ·rfl
 ·simp only [elemsOf, h2, Nat.ble_eq_true_of_le h3, cond_true, h4]
theorem Sl.lenW {S : St} {n : Nat} {v : V} {es : List (List V)} (h : Sl S n v es) : Go.AM.lenW v = .ok (.int .i64 es.length) := by
 rcases h.is with ⟨rfl, rfl⟩ | rfl | ⟨a, ver, off, elems, rfl, h2, h3, h4⟩ <;> rfl
def At (S : St) (p : V) (cs : List V) : Prop := (∃ a ver i es elems, p = .ptr a ver i 0 ∧ getRow S a ver = .ok (es, elems) ∧ elems[i]? = some cs) ∨ p = .iptr cs 0
theorem At.ext {S S' : St} {p : V} {cs : List V} (h : At S p cs) (x : Ext S S') : At S' p cs := by
 rcases h with ⟨a, ver, i, es, elems, h1, h2, h3⟩ | h
 ·exact .inl ⟨a, ver, i, es, elems, h1, x.row h2, h3⟩
 ·exact .inr h
def adv (j : Nat) (p : V) : V := match p with
 | .ptr a ver i x => .ptr a ver i (x + j)
 | .iptr cs x => .iptr cs (x + j)
 | p => p
theorem At.advW {S : St} {p : V} {cs : List V} (h : At S p cs) (j : Nat) : Go.AM.advW j p = .ok (adv j p) := by
 rcases h with ⟨a, ver, i, es, elems, rfl, h2, h3⟩ | rfl <;> rfl
theorem At.load {S : St} {p : V} {cs : List V} (h : At S p cs) (k : Option Nat) (j : Nat) : loadW k (adv j p) S = partW k cs j := by
 rcases h with ⟨a, ver, i, es, elems, rfl, h2, h3⟩ | rfl
 ·simp only [adv, loadW, h2, h3, Nat.zero_add]
 ·simp only [adv, loadW, Nat.zero_add]
theorem At.load0 {S : St} {p : V} {cs : List V} (h : At S p cs) (k : Option Nat) : loadW k p S = partW k cs 0 := by
 rcases h with ⟨a, ver, i, es, elems, rfl, h2, h3⟩ | rfl
 ·simp only [loadW, h2, h3]
 ·simp only [loadW]
theorem partW_all (cs : List V) (n : Nat) (h : cs.length = n) : partW (some n) cs 0 = .ok (.agg cs) := by
 subst h
 simp [partW]
theorem idxIn_of {k : IntKind} {i : Nat} {n : Nat} (h : i < n) : idxIn (.int k (i : Int)) n = some i := by
 have h1 : (0 : Int) ≤ (i : Int) := by omega
 have h2 : (i : Int) < (n : Int) := by omega
 simp only [idxIn, h1, h2, decide_true, Bool.and_self, cond_true, Int.toNat_natCast]
theorem Sl.idx {S : St} {n : Nat} {v : V} {es : List (List V)} (h : Sl S n v es) {i : Nat} {cs : List V} (hc : es[i]? = some cs) (k : IntKind) : ∃ p, idxW n v (.int k (i : Int)) = .ok p ∧ At S p cs := by
 have hi : i < es.length := (List.getElem?_eq_some_iff.1 hc).1
 have hl := (h.len cs (List.mem_of_getElem? hc)).1
 rcases h.is with ⟨rfl, rfl⟩ | rfl | ⟨a, ver, off, elems, rfl, h2, h3, h4⟩
 ·simp at hi
 ·exact ⟨.iptr cs 0, by simp only [idxW, idxIn_of hi, hc, hl, if_true], .inr rfl⟩
 ·refine ⟨.ptr a ver (off + i) 0, by simp only [idxW, idxIn_of hi, if_true], .inl ⟨a, ver, off + i, n, elems, rfl, h2, ?_⟩⟩
  rw [← h4, List.getElem?_take, if_pos hi, List.getElem?_drop] at hc
  exact hc
def St.var (S : St) (n : Nat) (zs cs : List V) : St := ⟨S.next + 1, (S.heap.put S.next (.row 0 n [zs])).put S.next (.row 0 n [cs])⟩
theorem Ext.var {S : St} (w : WF S) (n : Nat) (zs cs : List V) : Ext S (S.var n zs cs) := (Ext.new w _).set (Nat.le_refl _) (Nat.lt_succ_self _) w _
theorem row_var (S : St) (n : Nat) (zs cs : List V) : getRow (S.var n zs cs) S.next 0 = .ok (n, [cs]) := getRow_put _ _ _ _ _ _
theorem splice_all (zs cs : List V) (h : cs.length = zs.length) : splice zs 0 cs = cs := by simp [splice, h]
theorem store_var (S : St) (n : Nat) (zs : List V) (x : V) (hz : zs.length = n) (hx : x.cells.length = n) (ho : allOne x.cells = true) :
  storeW n (.ptr S.next 0 0 0) x ⟨S.next + 1, S.heap.put S.next (.row 0 n [zs])⟩ = .ok (S.var n zs x.cells) := by
 simp only [storeW, getRow_put, List.getElem?_cons_zero, hx, ho, hz, Nat.zero_add, Nat.le_refl, and_self, if_true, List.set_cons_zero, St.var, splice_all zs x.cells (by rw [hx, hz])]
theorem load_ptr (k : Option Nat) (a ver i j : Nat) (S : St) {es : Nat} {elems : List (List V)} {cs : List V} (h : getRow S a ver = .ok (es, elems)) (hc : elems[i]? = some cs) : loadW k (.ptr a ver i j) S = partW k cs j := by
 simp only [loadW, h, hc]
theorem load_one (k : Option Nat) (a ver j : Nat) (S : St) {es : Nat} {cs : List V} (h : getRow S a ver = .ok (es, [cs])) : loadW k (.ptr a ver 0 j) S = partW k cs j := load_ptr k a ver 0 j S h rfl
theorem adv_ptr (off a ver i j : Nat) : advW off (.ptr a ver i j) = .ok (.ptr a ver i (j + off)) := rfl
theorem part_one (cs : List V) (j : Nat) {v : V} (h : cs[j]? = some v) : partW none cs j = .ok v := by simp only [partW, h]
theorem agg_cells (cs : List V) : (V.agg cs).cells = cs := rfl
def andR (x y : R Bool) : R Bool := match x with
 | .error e => .error e
 | .ok r => bif r then y else .ok false
theorem andR_ok (a b : Bool) : andR (.ok a) (.ok b) = .ok (a && b) := by cases a <;> rfl
theorem load_put (k : Option Nat) (n : Nat) (h : Tr Blk) (a j m : Nat) (cs : List V) : loadW k (.ptr a 0 0 j) ⟨n, h.put a (.row 0 m [cs])⟩ = partW k cs j := load_one k a 0 j _ (getRow_put _ _ _ _ _ _)
theorem Ext.bump {S S' : St} (h : Ext S S') (c : Nat) : Ext S ⟨S'.next + c, S'.heap⟩ :=
 ⟨h.old, Nat.le_trans h.next (Nat.le_add_right _ _), fun w a b hb => Nat.lt_of_lt_of_le (h.wf w a b hb) (Nat.le_add_right _ _)⟩
theorem load_ext {S S' : St} (x : Ext S S') {k : Option Nat} {p v : V} (h : loadW k p S = .ok v) : loadW k p S' = .ok v := by
 cases p with
 | ptr a ver i j =>
  simp only [loadW] at h ⊢
  cases hr : getRow S a ver with
  | error w => rw [hr] at h; cases h
  | ok r =>
   rw [hr] at h
   rw [x.row hr]
   exact h
 | iptr cs j => exact h
 | _ => cases h
theorem beqV_int (k : IntKind) (n : Int) : beqV (.int k n) (.int k n) = true := by simp [beqV, kindBeq_refl]
theorem var_load (S : St) (n : Nat) (zs cs : List V) {S' : St} (x : Ext (S.var n zs cs) S') (k : Option Nat) (j : Nat) : loadW k (.ptr S.next 0 0 j) S' = partW k cs j := load_one k S.next 0 j S' (x.row (row_var S n zs cs))
theorem Sl.elem {α : Type} {S : St} {n : Nat} {v : V} {all : List α} {enc : α → List V} (hs : Sl S n v (all.map enc)) {i : Nat} {a : α} (hi : all[i]? = some a) :
  ∃ p, idxW n v (.int .i64 (i : Int)) = .ok p ∧ At S p (enc a) ∧ (enc a).length = n ∧ allOne (enc a) = true := by
 have hc : (all.map enc)[i]? = some (enc a) := by simp [hi]
 obtain ⟨p, hp, hat⟩ := hs.idx hc .i64
 have hl := hs.len (enc a) (List.mem_of_getElem? hc)
 exact ⟨p, hp, hat, hl.1, hl.2⟩
theorem Sl.var {α : Type} {S : St} {n : Nat} {v : V} {all : List α} {enc : α → List V} (hs : Sl S n v (all.map enc)) (w : WF S) {i : Nat} {a : α} (hi : all[i]? = some a) (zs : List V) (hz : zs.length = n) :
  ∃ p, idxW n v (.int .i64 (i : Int)) = .ok p ∧ loadW (some n) p S = .ok (.agg (enc a)) ∧ storeW n (.ptr S.next 0 0 0) (.agg (enc a)) ⟨S.next + 1, S.heap.put S.next (.row 0 n [zs])⟩ = .ok (S.var n zs (enc a)) ∧ Ext S (S.var n zs (enc a)) ∧
   ∀ S', Ext (S.var n zs (enc a)) S' → ∀ k j, loadW k (.ptr S.next 0 0 j) S' = partW k (enc a) j := by
 obtain ⟨p, hp, hat, h1, h2⟩ := hs.elem hi
 refine ⟨p, hp, ?_, ?_, Ext.var w _ _ _, fun S' x k j => var_load S n zs (enc a) x k j⟩
 ·rw [hat.load0, partW_all _ _ h1]
 ·have := store_var S n zs (.agg (enc a)) hz h1 h2
  exact this
theorem Sl.lenI {α : Type} {S : St} {n : Nat} {v : V} {all : List α} {enc : α → List V} (hs : Sl S n v (all.map enc)) : Go.AM.lenW v = .ok (.int .i64 all.length) := by
 have := hs.lenW
 rwa [List.length_map] at this
end
def Ok (g : Nat → KS → An) (Q : V → St → Prop) : Prop := ∃ v S N, Q v S ∧ ∀ k K, N ≤ k → g k K = K v S
theorem Ok.ret {Q : V → St → Prop} {v : V} {S : St} (h : Q v S) : Ok (fun _ K => K v S) Q := ⟨v, S, 0, h, fun _ _ _ => rfl⟩
theorem Ok.mono {g : Nat → KS → An} {Q R : V → St → Prop} (h : Ok g Q) (hq : ∀ v S, Q v S → R v S) : Ok g R := by
 obtain ⟨v, S, N, q, h⟩ := h
 exact ⟨v, S, N, hq v S q, h⟩
theorem Ok.bind {g : Nat → KS → An} {G : Nat → KS → V → St → An} {Q R : V → St → Prop} (h : Ok g Q) (k : ∀ v S, Q v S → Ok (fun k K => G k K v S) R) : Ok (fun k K => g k (fun v S => G k K v S)) R := by
 obtain ⟨v, S, N, q, h⟩ := h
 obtain ⟨v', S', N', q', h'⟩ := k v S q
 refine ⟨v', S', max N N', q', fun k K hk => ?_⟩
 show g k (fun v S => G k K v S) = K v' S'
 rw [h k _ (by omega)]
 exact h' k K (by omega)
theorem Ok.pick {b : Bool} {g g' : Nat → KS → An} {Q : V → St → Prop} (h : b = true → Ok g Q) (h' : b = false → Ok g' Q) : Ok (fun k K => pickD (.bool b) (g k K) (g' k K)) Q := by
 cases b with
 | true => exact h rfl
 | false => exact h' rfl
theorem Ok.pickP {p : Prop} [Decidable p] {g g' : Nat → KS → An} {Q : V → St → Prop} (h : p → Ok g Q) (h' : ¬ p → Ok g' Q) : Ok (fun k K => pickD (.bool (decide p)) (g k K) (g' k K)) Q :=
 Ok.pick (fun e => h (of_decide_eq_true e)) (fun e => h' (of_decide_eq_false e))
theorem Ok.pickN {p : Prop} [Decidable p] {g g' : Nat → KS → An} {Q : V → St → Prop} (h : ¬ p → Ok g Q) (h' : p → Ok g' Q) : Ok (fun k K => pickD (.bool (!decide p)) (g k K) (g' k K)) Q :=
 Ok.pick (fun e => h (by simpa using e)) (fun e => h' (by simpa using e))
def Does (P : Program) (pl : Plans) (lv : Lives) (f : FuncId) (args : List V) (S : St) (Q : V → St → Prop) : Prop := Ok (fun k K => callD P pl lv k f args S K) Q
theorem Does.enter {P : Program} {pl : Plans} {lv : Lives} {f : FuncId} {args : List V} {S : St} {Q : V → St → Prop} {m : CallD → Nat → KS → An} (he : ∀ k K, callD P pl lv (k + 1) f args S K = m (callD P pl lv k) k K)
  (h : Ok (fun k K => m (callD P pl lv k) k K) Q) : Does P pl lv f args S Q := by
 obtain ⟨v, S', N, q, h⟩ := h
 refine ⟨v, S', N + 1, q, fun k K hk => ?_⟩
 obtain ⟨k, rfl⟩ : ∃ m, k = m + 1 := ⟨k - 1, by omega⟩
 show callD P pl lv (k + 1) f args S K = _
 rw [he]
 exact h k K (by omega)
theorem Does.step {P : Program} {pl : Plans} {lv : Lives} {f : FuncId} {args : List V} {S : St} {g : List V → St → R (V × St)} (hf : pl f = some (.spec g)) {v : V} {S' : St} {Q : V → St → Prop} (h : g args S = .ok (v, S')) (q : Q v S') : Does P pl lv f args S Q := by
 refine ⟨v, S', 1, q, fun k K hk => ?_⟩
 obtain ⟨k, rfl⟩ : ∃ m, k = m + 1 := ⟨k - 1, by omega⟩
 simp only [callD, hf, dO_ok, h, dR_ok]
theorem Does.call {P : Program} {pl : Plans} {lv : Lives} {f : FuncId} {args : List V} {S : St} {Q R : V → St → Prop} (h : Does P pl lv f args S Q) {G : Nat → KS → V → St → An} (k : ∀ v S, Q v S → Ok (fun k K => G k K v S) R) :
  Ok (fun k K => callD P pl lv k f args S (fun v S => G k K v S)) R := Ok.bind h k
theorem Does.says {P : Program} {pl : Plans} {lv : Lives} {f : FuncId} {args : List V} {S : St} {Q : V → St → Prop} (h : Does P pl lv f args S Q) : ∃ k v S', Q v S' ∧ callF P pl k f args S = .ok (v, S') := by
 obtain ⟨v, S', N, q, h⟩ := h
 obtain ⟨v1, S1, h1, h2⟩ := callD_some N f args S (fun v S => some (v, S)) (v, S') (h N _ (Nat.le_refl _))
 cases h2
 exact ⟨N, v, S', q, h1⟩
def runL {σ ρ α : Type} (step : σ → α → ρ ⊕ σ) (fin : σ → ρ) : List α → σ → ρ
 | [], s => fin s
 | a :: l, s => match step s a with
  | .inl r => r
  | .inr s' => runL step fin l s'
theorem loop_rule {κ σ ρ α X : Type} {F : Nat → κ → List V → St → (List V → St → An) → An} {out : Nat → κ → X → St → An} (all : List α) {step : σ → α → ρ ⊕ σ} {fin : σ → ρ} (Inv : Nat → σ → List V → St → Prop) (Post : ρ → X → St → Prop)
  (hstep : ∀ i a s vs S, Inv i s vs S → all[i]? = some a →
   ∃ N, (∃ r x S', step s a = .inl r ∧ Post r x S' ∧ ∀ k K again, N ≤ k → F k K vs S again = out k K x S') ∨ (∃ s' vs' S', step s a = .inr s' ∧ Inv (i + 1) s' vs' S' ∧ ∀ k K again, N ≤ k → F k K vs S again = again vs' S'))
  (hend : ∀ s vs S, Inv all.length s vs S → ∃ N x S', Post (fin s) x S' ∧ ∀ k K again, N ≤ k → F k K vs S again = out k K x S') :
  ∀ (l : List α) (i : Nat) (s : σ) (vs : List V) (S : St), all.drop i = l → i ≤ all.length → Inv i s vs S → ∃ N x S', Post (runL step fin l s) x S' ∧ ∀ k m K, N ≤ k → l.length < m → loopD m vs S (F k K) = out k K x S' := by
 intro l
 induction l with
 | nil =>
  intro i s vs S hd hle hI
  have hi : i = all.length := by
   have : all.length ≤ i := by simpa using hd
   omega
  subst hi
  obtain ⟨N, x, S', hp, h⟩ := hend s vs S hI
  refine ⟨N, x, S', hp, fun k m K hk hm => ?_⟩
  obtain ⟨m, rfl⟩ : ∃ j, m = j + 1 := ⟨m - 1, by simp at hm; omega⟩
  rw [loopD_succ, h k K _ hk]
 | cons a l ih =>
  intro i s vs S hd hle hI
  have hi : all[i]? = some a := by
   have := congrArg (·[0]?) hd
   simpa using this
  have hil : i < all.length := (List.getElem?_eq_some_iff.1 hi).1
  have hd' : all.drop (i + 1) = l := by rw [← List.drop_drop, hd]; rfl
  obtain ⟨N, h⟩ := hstep i a s vs S hI hi
  rcases h with ⟨r, x, S', h1, h2, h3⟩ | ⟨s', vs', S', h1, h2, h3⟩
  ·refine ⟨N, x, S', by simp only [runL, h1]; exact h2, fun k m K hk hm => ?_⟩
   obtain ⟨m, rfl⟩ : ∃ j, m = j + 1 := ⟨m - 1, by simp at hm; omega⟩
   rw [loopD_succ, h3 k K _ hk]
  ·obtain ⟨N', x, S2, h4, h5⟩ := ih (i + 1) s' vs' S' hd' (by omega) h2
   refine ⟨max N N', x, S2, by simp only [runL, h1]; exact h4, fun k m K hk hm => ?_⟩
   obtain ⟨m, rfl⟩ : ∃ j, m = j + 1 := ⟨m - 1, by simp at hm; omega⟩
   rw [loopD_succ, h3 k K _ (by omega), h5 k m K (by omega) (by simp at hm; omega)]
theorem Ok.loop {σ ρ α X : Type} {F : Nat → KS → List V → St → (List V → St → An) → An} {out : Nat → KS → X → St → An} (all : List α) {step : σ → α → ρ ⊕ σ} {fin : σ → ρ} (Inv : Nat → σ → List V → St → Prop) (Post : ρ → X → St → Prop)
  (hstep : ∀ i a s vs S, Inv i s vs S → all[i]? = some a →
   ∃ N, (∃ r x S', step s a = .inl r ∧ Post r x S' ∧ ∀ k K again, N ≤ k → F k K vs S again = out k K x S') ∨ (∃ s' vs' S', step s a = .inr s' ∧ Inv (i + 1) s' vs' S' ∧ ∀ k K again, N ≤ k → F k K vs S again = again vs' S'))
  (hend : ∀ s vs S, Inv all.length s vs S → ∃ N x S', Post (fin s) x S' ∧ ∀ k K again, N ≤ k → F k K vs S again = out k K x S')
  {s : σ} {vs : List V} {S : St} (hI : Inv 0 s vs S) {Q : V → St → Prop} (hout : ∀ x S', Post (runL step fin all s) x S' → Ok (fun k K => out k K x S') Q) : Ok (fun k K => loopD k vs S (F k K)) Q := by
 obtain ⟨N, x, S', hp, h⟩ := loop_rule all Inv Post hstep hend all 0 s vs S rfl (Nat.zero_le _) hI
 obtain ⟨v, S2, N', hq, h'⟩ := hout x S' hp
 refine ⟨v, S2, max N (max N' (all.length + 1)), hq, fun k K hk => ?_⟩
 show loopD k vs S (F k K) = K v S2
 rw [h k k K (by omega) (by omega)]
 exact h' k K (by omega)
end Go.AM
end
section
set_option linter.unusedSimpArgs false
set_option linter.unusedVariables false
namespace Go.AM
structure Own (S0 S : St) (n : Nat) (v : V) (es : List (List V)) : Prop where
 is : (v = .nils ∧ es = []) ∨ ∃ a ver tl, v = .sl a ver n 0 es.length ∧ S0.next ≤ a ∧ a < S.next ∧ S.heap.get a = some (.row ver n (es ++ tl))
 len : ∀ cs, cs ∈ es → cs.length = n ∧ allOne cs = true
theorem row_get {S : St} {a ver n : Nat} {el : List (List V)} (h : S.heap.get a = some (.row ver n el)) : getRow S a ver = .ok (n, el) := by
 simp only [getRow, h, Nat.beq_refl, cond_true]
theorem Own.sl {S0 S : St} {n : Nat} {v : V} {es : List (List V)} (h : Own S0 S n v es) : Sl S n v es := by
 refine ⟨?_, h.len⟩
 rcases h.is with h1 | ⟨a, ver, tl, h1, h2, h3, h4⟩
 ·exact .inl h1
 ·exact .inr (.inr ⟨a, ver, 0, es ++ tl, h1, row_get h4, by simp, by simp⟩)
theorem Own.ext {S0 S S' : St} {n : Nat} {v : V} {es : List (List V)} (h : Own S0 S n v es) (x : Ext S S') : Own S0 S' n v es := by
 refine ⟨?_, h.len⟩
 rcases h.is with h1 | ⟨a, ver, tl, h1, h2, h3, h4⟩
 ·exact .inl h1
 ·exact .inr ⟨a, ver, tl, h1, h2, Nat.lt_of_lt_of_le h3 x.next, x.old _ _ h4⟩
theorem Own.nil (S0 S : St) (n : Nat) : Own S0 S n .nils [] := ⟨.inl ⟨rfl, rfl⟩, fun _ h => by cases h⟩
theorem Own.weaken {A B S : St} {n : Nat} {v : V} {es : List (List V)} (h : Own B S n v es) (x : A.next ≤ B.next) : Own A S n v es := by
 refine ⟨?_, h.len⟩
 rcases h.is with h1 | ⟨a, ver, tl, h1, h2, h3, h4⟩
 ·exact .inl h1
 ·exact .inr ⟨a, ver, tl, h1, Nat.le_trans x h2, h3, h4⟩
theorem allLen_of {n : Nat} {es : List (List V)} (h : ∀ cs, cs ∈ es → cs.length = n ∧ allOne cs = true) : allLen n es = true ∧ es.all allOne = true :=
 ⟨List.all_eq_true.2 fun cs hc => by simp [(h cs hc).1], List.all_eq_true.2 fun cs hc => (h cs hc).2⟩
theorem Sl.copy {S : St} {n b : Nat} {v : V} {es : List (List V)} (h : Sl S n v es) (w : WF S) (h1 : es.length * b ≤ 35184372088832) (h2 : es.length < lim) :
  ∃ v' S', appW n b .nils v none S = .ok (v', S') ∧ Ext S S' ∧ Own S S' n v' es := by
 obtain ⟨a1, a2⟩ := allLen_of h.len
 cases es with
 | nil => exact ⟨.nils, S, by simp only [appW, h.elems, a1, a2, and_self, if_true], Ext.refl S, Own.nil _ _ _⟩
 | cons c es =>
  refine ⟨.sl S.next 0 n 0 (c :: es).length, ⟨S.next + 1, S.heap.put S.next (.row 0 n (c :: es))⟩, ?_, Ext.new w _, ⟨.inr ⟨S.next, 0, [], rfl, Nat.le_refl _, Nat.lt_succ_self _, ?_⟩, h.len⟩⟩
  ·simp only [appW, h.elems, a1, a2, and_self, if_true, h1, h2, newBlk_none]
  ·rw [List.append_nil]; exact Tr.get_put_sameB _ _ _ trivial
theorem Own.pushK {S0 S : St} {n b : Nat} {v : V} {es : List (List V)} (h : Own S0 S n v es) (x : Ext S0 S) (w : WF S0) {u : V} {cs : List (List V)} (hu : elemsOf S u = .ok cs) (hc : ∀ c, c ∈ cs → c.length = n ∧ allOne c = true) (hne : cs ≠ [])
  (h1 : (es.length + cs.length) * b ≤ 35184372088832) (h2 : es.length + cs.length < lim) : ∃ v' S', appW n b v u none S = .ok (v', S') ∧ Ext S0 S' ∧ S'.next ≤ S.next + 1 ∧ Own S0 S' n v' (es ++ cs) ∧ ∀ y, y < S.next → (∀ a ver m, v = .sl a ver n 0 m → y ≠ a) → S'.heap.get y = S.heap.get y := by
 obtain ⟨a1, a2⟩ := allLen_of hc
 have hlen : ∀ c, c ∈ es ++ cs → c.length = n ∧ allOne c = true := fun c hm => (List.mem_append.1 hm).elim (h.len c) (hc c)
 rcases h.is with ⟨rfl, rfl⟩ | ⟨a, ver, tl, rfl, q1, q2, q3⟩
 ·cases cs with
  | nil => exact absurd rfl hne
  | cons c cs =>
   refine ⟨.sl S.next 0 n 0 (c :: cs).length, ⟨S.next + 1, S.heap.put S.next (.row 0 n (c :: cs))⟩, ?_, x.trans (Ext.new (x.wf w) _), Nat.le_refl _, ⟨.inr ⟨S.next, 0, [], rfl, x.next, Nat.lt_succ_self _, ?_⟩, hlen⟩, fun y hy _ => Tr.get_put_neB _ _ _ _ trivial (by omega)⟩
   ·simp only [List.length_nil, Nat.zero_add] at h1 h2
    simp only [appW, hu, a1, a2, and_self, if_true, h1, h2, newBlk_none]
   ·rw [List.append_nil]; exact Tr.get_put_sameB _ _ _ trivial
 ·have hb : 0 + es.length ≤ es.length + tl.length := by omega
  refine ⟨.sl a (ver + 1) n 0 (es ++ cs).length, ⟨S.next, S.heap.put a (.row (ver + 1) n (es ++ cs))⟩, ?_, x.set q1 q2 w _, Nat.le_succ _, ⟨.inr ⟨a, ver + 1, [], rfl, q1, q2, ?_⟩, hlen⟩, fun y _ hy => Tr.get_put_neB _ _ _ _ trivial (hy a ver _ rfl)⟩
  ·simp only [appW, hu, a1, a2, and_self, if_true, row_get q3, hb, h1, h2, List.drop_zero, List.take_left', List.length_append]
  ·rw [List.append_nil]; exact Tr.get_put_sameB _ _ _ trivial
theorem Own.push {S0 S : St} {n b : Nat} {v : V} {es : List (List V)} (h : Own S0 S n v es) (x : Ext S0 S) (w : WF S0) {u : V} {cs : List (List V)} (hu : elemsOf S u = .ok cs) (hc : ∀ c, c ∈ cs → c.length = n ∧ allOne c = true) (hne : cs ≠ [])
  (h1 : (es.length + cs.length) * b ≤ 35184372088832) (h2 : es.length + cs.length < lim) : ∃ v' S', appW n b v u none S = .ok (v', S') ∧ Ext S0 S' ∧ S'.next ≤ S.next + 1 ∧ Own S0 S' n v' (es ++ cs) := by
 obtain ⟨v', S', q1, q2, q3, q4, _⟩ := h.pushK x w hu hc hne h1 h2
 exact ⟨v', S', q1, q2, q3, q4⟩
theorem Own.set {S0 S : St} {n : Nat} {v : V} {es : List (List V)} (h : Own S0 S n v es) (x : Ext S0 S) (w : WF S0) {i : Nat} {cs : List V} (hi : es[i]? = some cs) (k : IntKind) :
  ∃ p, idxW n v (.int k (i : Int)) = .ok p ∧ At S p cs ∧ ∀ (j m : Nat) (u : V), u.cells.length = m → allOne u.cells = true → j + m ≤ n → ∃ S', storeW m (adv j p) u S = .ok S' ∧ Ext S0 S' ∧ S'.next = S.next ∧ Own S0 S' n v (es.set i (splice cs j u.cells)) ∧
   ∀ S1, Ext S1 S → (∀ a ver, v = .sl a ver n 0 es.length → S1.next ≤ a) → WF S1 → Ext S1 S' := by
 have hil : i < es.length := (List.getElem?_eq_some_iff.1 hi).1
 have hl := h.len cs (List.mem_of_getElem? hi)
 rcases h.is with ⟨rfl, rfl⟩ | ⟨a, ver, tl, rfl, q1, q2, q3⟩
 ·simp at hil
 ·have hg : (es ++ tl)[0 + i]? = some cs := by rw [Nat.zero_add, List.getElem?_append_left hil]; exact hi
  refine ⟨.ptr a ver (0 + i) 0, by simp only [idxW, idxIn_of hil, if_true], .inl ⟨a, ver, 0 + i, n, es ++ tl, rfl, row_get q3, hg⟩, fun j m u hu ho hj => ?_⟩
  have hsl : (splice cs j u.cells).length = n := by simp only [splice, List.length_append, List.length_take, List.length_drop]; omega
  have hso : allOne (splice cs j u.cells) = true := by
   have h1 := hl.2
   simp only [allOne, List.all_eq_true] at h1 ho ⊢
   intro y hy
   simp only [splice, List.mem_append] at hy
   rcases hy with hy | hy | hy
   ·exact h1 y (List.mem_of_mem_take hy)
   ·exact ho y hy
   ·exact h1 y (List.mem_of_mem_drop hy)
  have hst : storeW m (adv j (.ptr a ver (0 + i) 0)) u S = .ok ⟨S.next, S.heap.put a (.row ver n ((es ++ tl).set (0 + i) (splice cs j u.cells)))⟩ := by
   have hj' : 0 + j + u.cells.length ≤ cs.length := by omega
   simp only [adv, storeW, row_get q3, hg, hu, ho, true_and]
   rw [if_pos (by omega)]
   simp only [Nat.zero_add]
  have hset : (es ++ tl).set (0 + i) (splice cs j u.cells) = es.set i (splice cs j u.cells) ++ tl := by rw [Nat.zero_add, List.set_append_left _ _ hil]
  refine ⟨_, hst, x.set q1 q2 w _, rfl, ⟨.inr ⟨a, ver, tl, by rw [List.length_set], q1, q2, ?_⟩, fun c hc => ?_⟩, fun S1 x1 ha w1 => x1.set (ha a ver rfl) q2 w1 _⟩
  ·rw [hset]; exact Tr.get_put_sameB _ _ _ trivial
  ·rcases List.mem_or_eq_of_mem_set hc with hc | rfl
   ·exact h.len c hc
   ·exact ⟨hsl, hso⟩
theorem cell_out {S S1 : St} (w : WF S) {n : Nat} {zs : List V} (x : Ext ⟨S.next + 1, S.heap.put S.next (.row 0 n [zs])⟩ S1) (hz : zs.length = n) (cs : List V) (hc : cs.length = n) (ho : allOne cs = true) :
  ∃ S2, storeW n (.ptr S.next 0 0 0) (.agg cs) S1 = .ok S2 ∧ loadW (some n) (.ptr S.next 0 0 0) S2 = .ok (.agg cs) ∧ Ext S S2 := by
 have hr : getRow S1 S.next 0 = .ok (n, [zs]) := x.row (getRow_put _ _ _ _ _ _)
 have hg : S1.heap.get S.next = some (.row 0 n [zs]) := x.old _ _ (Tr.get_put_sameB _ _ _ trivial)
 refine ⟨⟨S1.next, S1.heap.put S.next (.row 0 n [cs])⟩, ?_, ?_, ((Ext.new w _).trans x).set (Nat.le_refl _) ?_ w _⟩
 ·simp only [storeW, hr, List.getElem?_cons_zero, agg_cells, hc, ho, hz, Nat.zero_add, Nat.le_refl, and_self, if_true, List.set_cons_zero, splice_all zs cs (by rw [hc, hz])]
 ·rw [load_put, partW_all _ _ hc]
 ·exact Nat.lt_of_lt_of_le (Nat.lt_succ_self _) x.next
theorem apT_elem {P : Program} {T : TypeId} {n b : Nat} (h : apT P T = some (n, b)) : ∃ e, elemT P T = some e ∧ zeroFits P e = true ∧ sz P e = n ∧ P.bytesOf e = b := by
 unfold apT at h
 split at h
 ·cases h
 ·rename_i e he
  rw [cond_eq_ite] at h
  split at h
  ·rename_i hz; cases h; exact ⟨e, he, hz, rfl, rfl⟩
  ·cases h
theorem Own.insertK {P : Program} {T : TypeId} {n b : Nat} (hT : apT P T = some (n, b)) (hn : 1 < n) {S0 S : St} {v : V} {es : List (List V)} (h : Own S0 S n v es) (x : Ext S0 S) (w : WF S0) {bx : Nat} {c : List V} (hb : getRow S bx 0 = .ok (n, [c]))
  (hne : ∀ a ver m, v = .sl a ver n 0 m → a ≠ bx) (hc : c.length = n ∧ allOne c = true) (h1 : (es.length + 1) * b ≤ 35184372088832) (h2 : es.length + 1 < lim) {i : Nat} (hi : i ≤ es.length) :
  ∃ v' S', insertV P T v (.int .i64 (i : Int)) (.sl bx 0 n 0 1) S = .ok (v', S') ∧ Ext S0 S' ∧ Own S0 S' n v' (es.take i ++ c :: es.drop i) ∧ ∀ y, y < S.next → (∀ a ver m, v = .sl a ver n 0 m → y ≠ a) → S'.heap.get y = S.heap.get y := by
 obtain ⟨e, he, hz, hsz, hby⟩ := apT_elem hT
 have hx : elemsOf S (.sl bx 0 n 0 1) = .ok [c] := by
  simp only [elemsOf, hb]
  rfl
 have h1n : Nat.ble n 1 = false := by
  cases hq : Nat.ble n 1 with
  | false => rfl
  | true => exact absurd (Nat.le_of_ble_eq_true hq) (by omega)
 have hcs : ∀ d, d ∈ [c] → d.length = n ∧ allOne d = true := fun d hd => by cases hd with
  | head => exact hc
  | tail _ hd => cases hd
 have hlen : ∀ d, d ∈ es.take i ++ c :: es.drop i → d.length = n ∧ allOne d = true := by
  intro d hd
  rcases List.mem_append.1 hd with hd | hd
  ·exact h.len d (List.mem_of_mem_take hd)
  ·rcases List.mem_cons.1 hd with rfl | hd
   ·exact hc
   ·exact h.len d (List.mem_of_mem_drop hd)
 have hlt : (es.take i ++ c :: es.drop i).length = es.length + 1 := by simp only [List.length_append, List.length_take, List.length_cons, List.length_drop]; omega
 by_cases hend : i = es.length
 ·subst hend
  obtain ⟨v', S', q1, q2, _, q3, q4⟩ := h.pushK (b := b) x w hx hcs (by simp) h1 h2
  refine ⟨v', S', ?_, q2, by simpa using q3, q4⟩
  rw [← appendV_of hT] at q1
  unfold insertV
  simp only [he, hx, hsz, h1n, Bool.false_or]
  rcases h.is with ⟨rfl, rfl⟩ | ⟨a, ver, tl, rfl, _⟩
  ·simp only [List.length_nil]
   show (bif Nat.beq 1 0 then _ else bif decide (((0 : Nat) : Int) = 0) then _ else _) = _
   simp only [Int.natCast_zero, decide_true, cond_true]
   exact q1
  ·simp only [decide_true, cond_true]
   exact q1
 ·rcases h.is with ⟨rfl, rfl⟩ | ⟨a, ver, tl, rfl, p1, p2, p3⟩
  ·simp at hi; exact absurd hi hend
  ·have hab : Nat.beq a bx = false := by
    cases hq : Nat.beq a bx with
    | false => rfl
    | true => exact absurd (Nat.eq_of_beq_eq_true hq) (hne a ver _ rfl)
   obtain ⟨a1, a2⟩ := allLen_of hcs
   obtain ⟨_, a3⟩ := allLen_of h.len
   have hb1 : Nat.ble (0 + es.length) (es ++ tl).length = true := Nat.ble_eq_true_of_le (by simp)
   have hroom : room P e (es.length + [c].length) = true := by
    simp only [room, hby, Bool.and_eq_true, Nat.ble_eq, Nat.blt_eq, List.length_cons, List.length_nil]
    exact ⟨h1, h2⟩
   have e1 : decide ((i : Int) = ((es.length : Nat) : Int)) = false := decide_eq_false (by omega)
   have e2 : decide ((i : Int) < 0) = false := decide_eq_false (by omega)
   have e3 : decide (((es.length : Nat) : Int) < (i : Int)) = false := decide_eq_false (by omega)
   refine ⟨.sl a (ver + 1) n 0 (es.take i ++ c :: es.drop i).length, ⟨S.next, S.heap.put a (.row (ver + 1) n (es.take i ++ c :: es.drop i))⟩, ?_, x.set p1 p2 w _, ⟨.inr ⟨a, ver + 1, [], rfl, p1, p2, ?_⟩, hlen⟩, fun y _ hy => Tr.get_put_neB _ _ _ _ trivial (hy a ver _ rfl)⟩
   ·unfold insertV
    simp only [he, hx, hsz, h1n, Bool.false_or, e1, cond_false, hab, e2, e3, a1, a2, hz, Bool.and_self, Bool.not_true, row_get p3, hb1, Nat.beq_refl, hroom, List.drop_zero, List.take_left', a3, cond_true, Int.toNat_natCast, hlt]
    rfl
   ·rw [List.append_nil]; exact Tr.get_put_sameB _ _ _ trivial
theorem Own.insert {P : Program} {T : TypeId} {n b : Nat} (hT : apT P T = some (n, b)) (hn : 1 < n) {S0 S : St} {v : V} {es : List (List V)} (h : Own S0 S n v es) (x : Ext S0 S) (w : WF S0) {bx : Nat} {c : List V} (hb : getRow S bx 0 = .ok (n, [c]))
  (hne : ∀ a ver m, v = .sl a ver n 0 m → a ≠ bx) (hc : c.length = n ∧ allOne c = true) (h1 : (es.length + 1) * b ≤ 35184372088832) (h2 : es.length + 1 < lim) {i : Nat} (hi : i ≤ es.length) :
  ∃ v' S', insertV P T v (.int .i64 (i : Int)) (.sl bx 0 n 0 1) S = .ok (v', S') ∧ Ext S0 S' ∧ Own S0 S' n v' (es.take i ++ c :: es.drop i) := by
 obtain ⟨v', S', q1, q2, q3, _⟩ := h.insertK hT hn x w hb hne hc h1 h2 hi
 exact ⟨v', S', q1, q2, q3⟩
theorem Own.delete {P : Program} {T e : TypeId} {n : Nat} {z : List V} (he : elemT P T = some e) (hz : zeroOne P e = some z) (hsz : sz P e = n) {S0 S : St} {v : V} {es : List (List V)} (h : Own S0 S n v es) (x : Ext S0 S) (w : WF S0)
  (h2 : es.length < lim) {i : Nat} (hi : i < es.length) :
  ∃ v' S', deleteV P T v (.int .i64 (i : Int)) (.int .i64 ((i : Int) + 1)) S = .ok (v', S') ∧ Ext S0 S' ∧ Own S0 S' n v' (es.take i ++ es.drop (i + 1)) := by
 have hlen : ∀ d, d ∈ es.take i ++ es.drop (i + 1) → d.length = n ∧ allOne d = true := by
  intro d hd
  rcases List.mem_append.1 hd with hd | hd
  ·exact h.len d (List.mem_of_mem_take hd)
  ·exact h.len d (List.mem_of_mem_drop hd)
 have hlt : (es.take i ++ es.drop (i + 1)).length = es.length - 1 := by simp only [List.length_append, List.length_take, List.length_drop]; omega
 rcases h.is with ⟨rfl, rfl⟩ | ⟨a, ver, tl, rfl, p1, p2, p3⟩
 ·simp at hi
 ·obtain ⟨_, a3⟩ := allLen_of h.len
  have e1 : decide ((i : Int) < 0) = false := decide_eq_false (by omega)
  have e2 : decide ((i : Int) + 1 < (i : Int)) = false := decide_eq_false (by omega)
  have e3 : decide (((es.length : Nat) : Int) < (i : Int) + 1) = false := decide_eq_false (by omega)
  have e4 : Nat.blt es.length lim = true := Nat.ble_eq_true_of_le h2
  have e5 : Nat.beq es.length 0 = false := by
   cases hq : Nat.beq es.length 0 with
   | false => rfl
   | true => have := Nat.eq_of_beq_eq_true hq; omega
  have e6 : decide ((i : Int) = (i : Int) + 1) = false := decide_eq_false (by omega)
  have hb1 : Nat.ble (0 + es.length) (es ++ tl).length = true := Nat.ble_eq_true_of_le (by simp)
  have hj : ((i : Int) + 1).toNat = i + 1 := by omega
  have hk : i + 1 - i = 1 := by omega
  have hrow : spliceL (es ++ tl) (0 + i) (es.drop (i + 1) ++ [z]) = (es.take i ++ es.drop (i + 1)) ++ (z :: tl) := by
   unfold spliceL
   rw [Nat.zero_add, List.take_append_of_le_length (by omega)]
   have : i + (es.drop (i + 1) ++ [z]).length = es.length + 0 := by simp only [List.length_append, List.length_drop, List.length_cons, List.length_nil]; omega
   rw [this, List.drop_length_add_append]
   simp
  refine ⟨.sl a ver n 0 (es.length - 1), ⟨S.next, S.heap.put a (.row ver n ((es.take i ++ es.drop (i + 1)) ++ (z :: tl)))⟩, ?_, x.set p1 p2 w _, ⟨.inr ⟨a, ver, z :: tl, by rw [hlt], p1, p2, Tr.get_put_sameB _ _ _ trivial⟩, hlen⟩⟩
  unfold deleteV
  simp only [he, e1, e2, e3, e4, e5, e6, Bool.or_false, Bool.not_true, cond_false, hz, hsz, row_get p3, Nat.beq_refl, hb1, Bool.true_and, List.drop_zero, List.take_left', a3, cond_true, Int.toNat_natCast, hj, hk, List.replicate_one, hrow]
end Go.AM
namespace Go.AM
theorem Ext.newAt {S : St} {k : Nat} (hk : S.heap.get k = none) (hk2 : k < S.next) (b : Blk) : Ext S ⟨S.next, S.heap.put k b⟩ := by
 refine ⟨fun a d hd => ?_, Nat.le_refl _, fun w a d hd => ?_⟩
 ·show (S.heap.put k _).get a = some d
  rw [Tr.get_put_neB _ _ _ _ trivial (fun e => by rw [e, hk] at hd; cases hd)]; exact hd
 ·have hd' : (S.heap.put k b).get a = some d := hd
  rw [Tr.get_putB _ _ _ _ trivial] at hd'
  split at hd'
  ·show a < S.next; omega
  ·exact w a d hd'
theorem row_same {S S' : St} {y ver : Nat} (h : S'.heap.get y = S.heap.get y) : getRow S' y ver = getRow S y ver := by
 unfold getRow
 rw [h]
theorem Sl.copyAt2 {S : St} {n b : Nat} {v : V} {es : List (List V)} (h : Sl S n v es) {S0 : St} (x : Ext S0 S) {k : Nat} (hk : S0.next ≤ k) (hk2 : k < S.next) (hk3 : S.heap.get k = none) (h1 : es.length * b ≤ 35184372088832) (h2 : es.length < lim) :
  ∃ v' S', appW n b .nils v (some k) S = .ok (v', S') ∧ Ext S S' ∧ Own S0 S' n v' es ∧ S'.next = S.next ∧ (∀ y, y ≠ k → S'.heap.get y = S.heap.get y) ∧ ∀ a ver m, v' = .sl a ver n 0 m → a = k := by
 obtain ⟨a1, a2⟩ := allLen_of h.len
 cases es with
 | nil => exact ⟨.nils, S, by simp only [appW, h.elems, a1, a2, and_self, if_true], Ext.refl S, Own.nil _ _ _, rfl, fun _ _ => rfl, fun _ _ _ h => by cases h⟩
 | cons c es =>
  refine ⟨.sl k 0 n 0 (c :: es).length, ⟨S.next, S.heap.put k (.row 0 n (c :: es))⟩, ?_, Ext.newAt hk3 hk2 _, ⟨.inr ⟨k, 0, [], rfl, hk, hk2, ?_⟩, h.len⟩, rfl, fun y hy => Tr.get_put_neB _ _ _ _ trivial hy, fun a ver m hv => by cases hv; rfl⟩
  ·simp only [appW, h.elems, a1, a2, and_self, if_true, h1, h2, newBlk_at]
  ·rw [List.append_nil]; exact Tr.get_put_sameB _ _ _ trivial
theorem one_block (S : St) (n : Nat) (c : List V) (hc : c.length = n) (ho : allOne c = true) (hn : n ≤ 16777216) (z : List V) : buildSliceW n z 1 [(0, .agg c)] none S = .ok (.sl S.next 0 n 0 1, ⟨S.next + 1, S.heap.put S.next (.row 0 n [c])⟩) := by
 unfold buildSliceW
 rw [if_pos (by omega)]
 have h1 : Nat.beq c.length n = true := by rw [hc]; exact Nat.beq_refl n
 have h2 : Nat.blt 0 (List.replicate 1 z).length = true := rfl
 simp only [layV, agg_cells, h1, h2, ho, Bool.and_self, cond_true, newBlk_none]
 rfl
theorem one_blockAt (S : St) (k n : Nat) (c : List V) (hc : c.length = n) (ho : allOne c = true) (hn : n ≤ 16777216) (z : List V) : buildSliceW n z 1 [(0, .agg c)] (some k) S = .ok (.sl k 0 n 0 1, ⟨S.next, S.heap.put k (.row 0 n [c])⟩) := by
 unfold buildSliceW
 rw [if_pos (by omega)]
 have h1 : Nat.beq c.length n = true := by rw [hc]; exact Nat.beq_refl n
 have h2 : Nat.blt 0 (List.replicate 1 z).length = true := rfl
 simp only [layV, agg_cells, h1, h2, ho, Bool.and_self, cond_true, newBlk_at]
 rfl
end Go.AM
namespace Go.AM
theorem Own.other {S0 S S' : St} {n : Nat} {v : V} {es : List (List V)} (h : Own S0 S n v es) (hn : S.next ≤ S'.next) (hg : ∀ a ver m, v = .sl a ver n 0 m → S'.heap.get a = S.heap.get a) : Own S0 S' n v es := by
 refine ⟨?_, h.len⟩
 rcases h.is with h1 | ⟨a, ver, tl, h1, h2, h3, h4⟩
 ·exact .inl h1
 ·exact .inr ⟨a, ver, tl, h1, h2, Nat.lt_of_lt_of_le h3 hn, by rw [hg a ver _ h1]; exact h4⟩
theorem Own.setK {S0 S : St} {n : Nat} {v : V} {es : List (List V)} (h : Own S0 S n v es) (x : Ext S0 S) (w : WF S0) {i : Nat} {cs : List V} (hi : es[i]? = some cs) (k : IntKind) :
  ∃ a ver, v = .sl a ver n 0 es.length ∧ S0.next ≤ a ∧ a < S.next ∧ idxW n v (.int k (i : Int)) = .ok (.ptr a ver i 0) ∧ At S (.ptr a ver i 0) cs ∧
   ∀ (j m : Nat) (u : V), u.cells.length = m → allOne u.cells = true → j + m ≤ n → ∃ S', storeW m (.ptr a ver i j) u S = .ok S' ∧ Ext S0 S' ∧ S'.next = S.next ∧ Own S0 S' n v (es.set i (splice cs j u.cells)) ∧ (∀ y, y ≠ a → S'.heap.get y = S.heap.get y) ∧ (WF S → WF S') := by
 have hil : i < es.length := (List.getElem?_eq_some_iff.1 hi).1
 rcases h.is with ⟨rfl, rfl⟩ | ⟨a, ver, tl, rfl, q1, q2, q3⟩
 ·simp at hil
 ·obtain ⟨p, hp, hat, hset⟩ := h.set x w hi k
  have hpe : p = .ptr a ver (0 + i) 0 := by
   simp only [idxW, idxIn_of hil, if_true] at hp
   cases hp; rfl
  subst hpe
  rw [Nat.zero_add] at hp hat hset
  refine ⟨a, ver, rfl, q1, q2, hp, hat, fun j m u hu ho hj => ?_⟩
  obtain ⟨S', t1, t2, t3, t4, _⟩ := hset j m u hu ho hj
  have t1' : storeW m (.ptr a ver i j) u S = .ok S' := by
   have : adv j (.ptr a ver i 0) = .ptr a ver i j := by simp only [adv, Nat.zero_add]
   rw [← this]; exact t1
  have hS' : ∃ b, S' = ⟨S.next, S.heap.put a b⟩ := by
   have hg : (es ++ tl)[i]? = some cs := by rw [List.getElem?_append_left hil]; exact hi
   simp only [storeW, row_get q3, hg] at t1'
   split at t1'
   ·cases t1'; exact ⟨_, rfl⟩
   ·cases t1'
  obtain ⟨b, rfl⟩ := hS'
  refine ⟨_, t1', t2, rfl, t4, fun y hy => Tr.get_put_neB _ _ _ _ trivial hy, fun ww y d hd => ?_⟩
  have hd' : (S.heap.put a b).get y = some d := hd
  rw [Tr.get_putB _ _ _ _ trivial] at hd'
  split at hd'
  ·show y < S.next; omega
  ·exact ww y d hd'
theorem var_set {S : St} {a n j m : Nat} {cs : List V} {x : V} (h : S.heap.get a = some (.row 0 n [cs])) (hx : x.cells.length = m) (ho : allOne x.cells = true) (hj : j + m ≤ cs.length) :
  storeW m (.ptr a 0 0 j) x S = .ok ⟨S.next, S.heap.put a (.row 0 n [splice cs j x.cells])⟩ := by
 have hr : getRow S a 0 = .ok (n, [cs]) := row_get h
 simp only [storeW, hr, List.getElem?_cons_zero, hx, ho, true_and]
 rw [if_pos hj]
 rfl
theorem row_has {S : St} {a ver n : Nat} {el : List (List V)} (h : getRow S a ver = .ok (n, el)) : S.heap.get a = some (.row ver n el) := by
 unfold getRow at h
 split at h
 ·rename_i v es elems hg
  rw [cond_eq_ite] at h
  split at h
  ·rename_i hb
   have := Nat.eq_of_beq_eq_true hb
   cases h
   subst this
   exact hg
  ·cases h
 ·cases h
end Go.AM
end
section
namespace Go.Proofs.YtjbicclbalagbaaGreat
open Go.AM Tryz
def dSp : SpTab := [(26, .within), (109, .ins 28), (113, .ins 25), (116, .ins 24), (136, .ins 27), (166, .ins 58), (121, .del 28)]
def dTab : PlTab := [
 (5, []),
 (6, []),
 (7, [(8, [(0,[]),(1,[]),(2,[]),(3,[]),(4,[1]),(5,[])])]),
 (8, []),
 (9, []),
 (10, [(8, [(0,[]),(1,[]),(2,[]),(3,[0]),(4,[]),(5,[]),(6,[]),(7,[]),(8,[]),(9,[]),(10,[]),(11,[])])]),
 (11, [(4, [(1,[]),(2,[]),(3,[]),(0,[]),(4,[]),(5,[]),(6,[]),(7,[]),(8,[]),(9,[]),(10,[])])]),
 (12, []),
 (13, []),
 (14, []),
 (16, [(3, [(0,[]),(1,[0]),(2,[]),(3,[])]), (5, [(0,[]),(1,[0]),(2,[]),(3,[])]), (10, [(0,[]),(1,[]),(2,[0]),(3,[]),(4,[])]), (12, [(0,[]),(1,[]),(2,[1]),(3,[])]), (17, [(0,[]),(1,[]),(2,[1]),(3,[])])]),
 (18, []),
 (19, []),
 (20, []),
 (23, []),
 (27, []),
 (28, []),
 (29, []),
 (30, []),
 (31, [(9, [(0,[]),(1,[]),(2,[]),(3,[]),(4,[]),(5,[]),(6,[]),(7,[]),(8,[]),(9,[]),(10,[1]),(11,[]),(12,[]),(13,[]),(14,[])])]),
 (32, []),
 (33, [(2, [(0,[]),(1,[0]),(2,[]),(3,[])]), (5, [(0,[]),(1,[]),(2,[0]),(3,[]),(4,[])]), (9, [(0,[]),(1,[]),(2,[1]),(3,[])])]),
 (34, []),
 (35, []),
 (36, [(8, [(0,[]),(1,[]),(2,[]),(3,[]),(4,[]),(5,[]),(6,[]),(7,[]),(8,[5]),(9,[]),(10,[]),(11,[])])]),
 (41, []),
 (42, []),
 (43, []),
 (44, []),
 (45, []),
 (46, []),
 (47, []),
 (48, []),
 (49, []),
 (50, []),
 (51, []),
 (52, []),
 (53, []),
 (63, []),
 (64, []),
 (65, []),
 (66, []),
 (67, []),
 (68, []),
 (69, []),
 (70, [(17, [(0,[]),(2,[]),(3,[]),(1,[3]),(4,[]),(5,[]),(6,[]),(7,[])])]),
 (71, []),
 (72, []),
 (73, []),
 (74, []),
 (75, []),
 (76, []),
 (85, []),
 (86, []),
 (87, []),
 (88, []),
 (89, [(1, [(0,[]),(1,[]),(2,[]),(3,[]),(4,[]),(5,[]),(6,[]),(7,[]),(8,[]),(9,[]),(10,[]),(11,[]),(12,[]),(13,[]),(14,[]),(15,[]),(16,[]),(17,[]),(18,[]),(19,[]),(20,[]),(21,[]),(22,[]),(23,[]),(24,[]),(25,[]),(26,[]),(27,[]),(28,[]),(29,[]),(30,[25]),(31,[]),(32,[]),(33,[])])]),
 (90, []),
 (91, []),
 (92, []),
 (93, []),
 (94, []),
 (95, []),
 (96, []),
 (110, []),
 (111, []),
 (112, []),
 (114, []),
 (115, []),
 (117, []),
 (118, []),
 (119, [(1, [(0,[]),(1,[]),(2,[]),(3,[]),(4,[]),(5,[]),(6,[]),(7,[]),(9,[]),(8,[9]),(10,[]),(11,[]),(12,[]),(13,[])])]),
 (120, []),
 (122, []),
 (126, []),
 (127, []),
 (128, []),
 (129, []),
 (130, [(5, [(0,[]),(1,[]),(2,[]),(5,[]),(6,[]),(7,[]),(3,[]),(4,[7]),(8,[]),(9,[]),(10,[]),(11,[])])]),
 (131, []),
 (132, []),
 (133, []),
 (134, []),
 (135, []),
 (137, []),
 (144, []),
 (149, []),
 (150, []),
 (151, []),
 (152, []),
 (153, []),
 (154, []),
 (155, []),
 (156, []),
 (157, []),
 (164, []),
 (165, []),
 (167, []),
 (172, []),
 (173, [])]
noncomputable def dPl : Plans := plansOf prog dSp dTab
def dLv : Lives := fun f => match f with
 | 5 => fun r => match r with
  | 19 => [12]
  | 16 => [2, 9, 10, 11]
  | 4 => [2, 4]
  | _ => []
 | 8 => fun r => match r with
  | 10 => [2, 8]
  | 5 => [2, 4, 5]
  | _ => []
 | 9 => fun r => match r with
  | 11 => [7, 8]
  | 3 => [2, 5]
  | _ => []
 | 10 => fun r => match r with
  | 6 => [4, 9]
  | _ => []
 | 12 => fun r => match r with
  | 4 => [2, 4]
  | _ => []
 | 13 => fun r => match r with
  | 3 => [5, 6]
  | _ => []
 | 19 => fun r => match r with
  | 4 => [6, 14]
  | _ => []
 | 29 => fun r => match r with
  | 4 => [4, 5]
  | _ => []
 | 30 => fun r => match r with
  | 3 => [3, 10]
  | _ => []
 | 31 => fun r => match r with
  | 7 => [27]
  | _ => []
 | 41 => fun r => match r with
  | 4 => [4, 5]
  | _ => []
 | 42 => fun r => match r with
  | 4 => [4, 5]
  | _ => []
 | 43 => fun r => match r with
  | 4 => [4, 5]
  | _ => []
 | 44 => fun r => match r with
  | 4 => [4, 5]
  | _ => []
 | 45 => fun r => match r with
  | 4 => [4, 5]
  | _ => []
 | 47 => fun r => match r with
  | 4 => [2, 10]
  | _ => []
 | 48 => fun r => match r with
  | 4 => [2, 10]
  | _ => []
 | 50 => fun r => match r with
  | 16 => [2, 58]
  | 5 => [2, 14]
  | _ => []
 | 51 => fun r => match r with
  | 13 => [2, 38]
  | 3 => [2, 12]
  | _ => []
 | 52 => fun r => match r with
  | 3 => [2, 3, 4, 11]
  | _ => []
 | 53 => fun r => match r with
  | 4 => [4, 13]
  | _ => []
 | 63 => fun r => match r with
  | 3 => [4, 5, 12]
  | _ => []
 | 64 => fun r => match r with
  | 8 => [6]
  | _ => []
 | 65 => fun r => match r with
  | 5 => [2, 3, 11]
  | _ => []
 | 67 => fun r => match r with
  | 12 => [8]
  | _ => []
 | 70 => fun r => match r with
  | 8 => [4, 5, 7, 20]
  | _ => []
 | 76 => fun r => match r with
  | 6 => [31]
  | _ => []
 | 88 => fun r => match r with
  | 4 => [2]
  | _ => []
 | 90 => fun r => match r with
  | 4 => [2, 20]
  | _ => []
 | 93 => fun r => match r with
  | 2 => [4, 8]
  | _ => []
 | 95 => fun r => match r with
  | 3 => [2, 3, 4, 18]
  | _ => []
 | 96 => fun r => match r with
  | 8 => [9]
  | 5 => [4, 5, 6, 19]
  | _ => []
 | 110 => fun r => match r with
  | 2 => [4, 8]
  | _ => []
 | 117 => fun r => match r with
  | 11 => [7, 8, 36]
  | _ => []
 | 120 => fun r => match r with
  | 6 => [3, 23]
  | _ => []
 | 126 => fun r => match r with
  | 4 => [4, 5]
  | _ => []
 | 130 => fun r => match r with
  | 3 => [3, 4, 16]
  | _ => []
 | 131 => fun r => match r with
  | 2 => [4, 8]
  | _ => []
 | 135 => fun r => match r with
  | 2 => [2, 3]
  | _ => []
 | 150 => fun r => match r with
  | 2 => [10]
  | _ => []
 | 151 => fun r => match r with
  | 3 => [3, 16]
  | _ => []
 | 153 => fun r => match r with
  | 5 => [3, 4]
  | _ => []
 | 154 => fun r => match r with
  | 2 => [2, 9]
  | _ => []
 | 157 => fun r => match r with
  | 4 => [4, 13]
  | _ => []
 | 164 => fun r => match r with
  | 5 => [8, 9, 22]
  | _ => []
 | _ => fun _ => []
end Go.Proofs.YtjbicclbalagbaaGreat
end
section
namespace Go.AM
open Go.RowKit Go.Lib Go.Proofs Go.Shelf
theorem sizeOf_run {P : Program} {t : TypeId} (h : (P.info? t).isSome = true) (w : World) : (Go.sizeOf t).run P w = .ok (sz P t) w := by
 obtain ⟨i, hi⟩ := Option.isSome_iff_exists.1 h
 simp [sizeOf, typeInfo, hi, sz_of_info hi]
theorem sizeOf_one {P : Program} {t : TypeId} (h : (P.info? t).map (·.size) = some 1) (w : World) : (Go.sizeOf t).run P w = .ok 1 w := by
 cases hi : P.info? t with
 | none => rw [hi] at h; cases h
 | some i => rw [hi] at h; simp [sizeOf, typeInfo, hi] at h ⊢; exact h
theorem insAt_of {P : Program} {f : FuncId} {T e I B : TypeId} {ov rr : FuncId} {fn fo : Func} (mixed : P.follows .mixedOrders = true) (hf : P.funcs[f]? = some fn) (hb : fn.body = some (insCode T I B ov rr)) (hn : fn.ntmps = 95) (hr : fn.results = #[.tmp 6])
  (tT : P.underlying T = some (.slice e)) (tI : P.underlying I = some (.int .i64)) (tB : P.underlying B = some .bool)
  (ho : P.funcs[ov]? = some fo) (o1 : (fo.name == "runtime.NumGoroutine") = false) (o2 : fo.body.isNone = true) (o3 : Extern.findNext fo = none) (o4 : Extern.find fo = some (Extern.SlicesOverlaps.overlaps #[T, T] #[B]))
  (zE : (P.info? e).isSome = true) (zT : (P.info? T).map (·.size) = some 1) (zI : (P.info? I).map (·.size) = some 1) (zB : (P.info? B).map (·.size) = some 1) : InsAt P f T e I B ov rr fn :=
 ⟨mixed, hf, hb, hn, hr, tT, tI, tB, run_callFunc_extern ho o1 o2 o3 o4, sizeOf_run zE, sizeOf_one zT, sizeOf_one zI, sizeOf_one zB⟩
theorem delAt_of {P : Program} {f : FuncId} {T e I B : TypeId} {fn : Func} (mixed : P.follows .mixedOrders = true) (hf : P.funcs[f]? = some fn) (hb : fn.body = some (delCode T I B)) (hn : fn.ntmps = 33) (hr : fn.results = #[.tmp 6])
  (tT : P.underlying T = some (.slice e)) (tI : P.underlying I = some (.int .i64)) (tB : P.underlying B = some .bool)
  (zE : (P.info? e).isSome = true) (zT : (P.info? T).map (·.size) = some 1) (zI : (P.info? I).map (·.size) = some 1) (zB : (P.info? B).map (·.size) = some 1) : DelAt P f T e I B fn :=
 ⟨mixed, hf, hb, hn, hr, tT, tI, tB, sizeOf_run zE, sizeOf_one zT, sizeOf_one zI, sizeOf_one zB⟩
end Go.AM
end
section
set_option linter.unusedSimpArgs false
set_option linter.unusedVariables false
namespace Go.AM
structure Lit where
 args : List V
 n : Nat
 blocks : List (Nat × Blk)
 v : V
 n' : Nat
 blocks' : List (Nat × Blk)
theorem RelH.part {F : Nat → Option Obj} {G : Gh} {S S1 : St} {H : Array Obj} (R : Rel F G S H) (hn : S1.next = S.next) (hs : ∀ a b, S1.heap.get a = some b → S.heap.get a = some b) : Rel F G S1 H := by
 constructor
 ·intro a ha; rw [hn] at ha; exact R.fresh a ha
 ·exact R.sep
 ·exact fun a b h => R.blk a b (hs a b h)
 ·exact fun a a' b b' i h h' => R.inj a a' b b' i (hs a b h) (hs a' b' h')
 ·exact R.fr
 ·exact R.pr
 ·exact fun a b i h => R.own a b i (hs a b h)
 ·exact R.lt
 ·exact fun a b h => R.small a b (hs a b h)
end Go.AM
namespace Go.AM
theorem body_get {fn : Func} (h : fn.body.isSome = true) : fn.body = some (fn.body.get h) := (Option.some_get h).symm
end Go.AM
end
section
set_option linter.unusedSimpArgs false
set_option linter.unusedVariables false
namespace Go.AM
open Go.RowKit
theorem RelH.grow {F : Nat → Option Obj} {G : Gh} {S : St} {H H' : Array Obj} (R : Rel F G S H) (hs : H.size ≤ H'.size) (old : ∀ i, i < H.size → H'[i]? = H[i]?) : Rel F G S H' := by
 have lt : ∀ {i : Nat} {o : Obj}, H[i]? = some o → i < H.size := fun h => (Array.getElem?_eq_some_iff.1 h).1
 constructor
 ·exact R.fresh
 ·exact R.sep
 ·intro a b hb
  have hold := R.blk a b hb
  cases b with
  | row ver' es' elems' =>
   obtain ⟨K, hK, r1, r2, r3, c', ty', fr', hc', r⟩ := hold
   exact ⟨K, hK, r1, r2, r3, c', ty', fr', by rw [old _ (lt hc')]; exact hc', r⟩
  | mp kvs =>
   obtain ⟨i, es', clock, hi, hH', r⟩ := hold
   exact ⟨i, es', clock, hi, by rw [old _ (lt hH')]; exact hH', r⟩
  | iter s pos =>
   obtain ⟨K, hK, r1, r2, hH'⟩ := hold
   exact ⟨K, hK, r1, r2, by rw [old _ (lt hH')]; exact hH'⟩
 ·exact R.inj
 ·intro i o h
  have := R.fr i o h
  rw [old i (lt this)]; exact this
 ·intro i o h
  have := R.pr i o h
  rw [old i (lt this)]; exact this
 ·exact R.own
 ·intro a i h
  have := R.lt a i h
  omega
 ·exact R.small
def WithinAt (P : Program) (f : FuncId) : Prop := ∀ (W : World) (n lo hi : Int), lo ≤ hi → hi ≤ 1000000 → -1000000 ≤ lo →
 Calls P f #[.int .i64 n, .int .i64 lo, .int .i64 hi] W fun e W' => e = .returned (.int .i64 (lo + n % (hi - lo + 1))) ∧ Below W.heap.size W W'
theorem spec_within {P : Program} {f : FuncId} {fn : Func} (hf : P.funcs[f]? = some fn) (hn : (fn.name == "runtime.NumGoroutine") = false) (hb : fn.body.isSome = true) (h : WithinAt P f) : SpecOK P f (Sp.within.run P) := by
 refine ⟨⟨fn, _, hf, hn, body_get hb⟩, fun {args S S' v} hr => ?_⟩
 intro F G W cs R hvs
 have hd : ∃ x lo hi, args = [x, .int .i64 lo, .int .i64 hi] := by
  match args, hr with
  | [x, .int .i64 lo, .int .i64 hi], hr => exact ⟨x, lo, hi, rfl⟩
 obtain ⟨x, lo, hi, rfl⟩ := hd
 have fin : ∀ {n : Int} {c : Value}, VR G x (.int .i64 n) → c = .int .i64 n → v = .int .i64 (lo + n % (hi - lo + 1)) → S' = S → lo ≤ hi → hi ≤ 1000000 → -1000000 ≤ lo →
   Calls P f #[c, .int .i64 lo, .int .i64 hi] W fun e W' => ∃ G' w, e = .returned w ∧ Sim F none G S W G' S' W' ∧ VR G' v w := by
  intro n c _ hc hv hS h1 h2 h3
  subst hc hv hS
  refine (h W n lo hi h1 h2 h3).mono ?_
  rintro e W' ⟨rfl, hw⟩
  obtain ⟨w1, w2, w3, w4, w5⟩ := hw
  exact ⟨G, _, rfl, ⟨G.le_refl, R.grow w4 w5, ⟨w1, w2, w3, w4⟩, Nat.le_refl _, fun _ _ _ _ => ⟨rfl, rfl⟩, fun _ h _ _ => h, fun _ => rfl⟩, .int _ _⟩
 unfold Sp.run at hr
 simp only at hr
 rw [cond_eq_ite] at hr
 split at hr
 ·rename_i hck
  simp only [Bool.and_eq_true, decide_eq_true_eq] at hck
  obtain ⟨⟨h1, h2⟩, h3⟩ := hck
  cases hvs with
  | cons _ a1 _ _ hx t => cases t with
   | cons _ a2 _ _ hlo t => cases t with
    | cons _ a3 _ _ hhi t => cases t with
     | nil =>
      cases hlo
      cases hhi
      split at hr
      ·rename_i m r
       rw [cond_eq_ite] at hr
       split at hr
       ·rename_i hm
        have hm : hi - lo + 1 = (m : Int) := by simpa using hm
        cases hr
        have hx' := hx
        cases hx with
        | res _ _ kk n hn =>
         rcases hn with ⟨_, rfl, hn⟩ | ⟨hb, _⟩
         ·exact fin hx' rfl (by rw [hm, hn]) rfl h1 h2 h3
         ·have : (tokBase : Int) ≤ (m : Int) := by exact_mod_cast hb
          unfold tokBase at this
          omega
       ·cases hr
      ·rename_i n
       cases hr
       have hx' := hx
       cases hx
       exact fin hx' rfl rfl rfl h1 h2 h3
      ·cases hr
 ·cases hr
end Go.AM
namespace Go.AM
open Go.RowKit
end Go.AM
end
