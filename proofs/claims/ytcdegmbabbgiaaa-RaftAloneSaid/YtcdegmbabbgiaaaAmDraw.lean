/-
  A region whose order is drawn: whatever order is picked, it comes to what the plan's order comes to.
-/
import Derived.Test.YtcdegmbabbgiaaaAmRunF
set_option linter.unusedSimpArgs false
namespace Go.AM

structure Frm where
  i : Nat
  re : List Nat
  o : Oper
  recs : List Rec
  e : Env
  S : St
  e1 : Env
  S1 : St

def nextRecs (P : Program) (ops : Array Oper) (i : Nat) (o : Oper) (e e' : Env) (recs : List Rec) : List Rec :=
  bif Nat.beq (cls P o.op) 1 && isTrue (wanted ops o e) then
    (match o.dst with
    | none => recs
    | some d => match e'.get d with
      | some v => (i, e, v) :: recs
      | none => recs) else recs
inductive DR (P : Program) (call : Call) (n : Nat) (ops : Array Oper) (base : Nat) : List Step → List Rec → Env → St → List Frm → Env → St → Prop
  | nil (recs : List Rec) (e : Env) (S : St) : DR P call n ops base [] recs e S [] e S
  | cons (i : Nat) (re : List Nat) (l : List Step) (recs : List Rec) (e : Env) (S : St) (e1 : Env) (S1 : St) (o : Oper) (fs : List Frm) (e' : Env) (S' : St)
      (ho : ops[i]? = some o) (hs : stepOp P call n ops o (some (base + i)) e S = .ok (e1, S1)) (ha : again P ops recs S1 re = true)
      (t : DR P call n ops base l (nextRecs P ops i o e e1 recs) e1 S1 fs e' S') : DR P call n ops base ((i, re) :: l) recs e S (⟨i, re, o, recs, e, S, e1, S1⟩ :: fs) e' S'

section
variable {P : Program} {call : Call} {n : Nat} {ops : Array Oper} {base : Nat}

theorem drawGo_DR : ∀ {l : List Step} {recs : List Rec} {e e' : Env} {S S' : St}, drawGo P call n ops base l recs e S = .ok (e', S') → ∃ fs, DR P call n ops base l recs e S fs e' S'
  | [], recs, e, e', S, S', h => by simp [drawGo] at h; obtain ⟨rfl, rfl⟩ := h; exact ⟨[], .nil _ _ _⟩
  | (i, re) :: l, recs, e, e', S, S', h => by
    simp only [drawGo] at h
    split at h
    · cases h
    · rename_i o ho
      split at h
      · cases h
      · rename_i e1 S1 hs
        rw [cond_eq_ite] at h
        split at h
        · rename_i ha
          obtain ⟨fs, hfs⟩ := drawGo_DR h
          exact ⟨_, .cons i re l recs e S e1 S1 o fs e' S' ho hs ha hfs⟩
        · cases h

theorem step_env {o : Oper} {fr : Option Nat} {e e1 : Env} {S S1 : St} (hn : n < lim) (h : stepOp P call n ops o fr e S = .ok (e1, S1)) {t : Nat} (ht : o.dst ≠ some t) : e1.get t = e.get t := by
  have key : ∀ v, putDst n e o.dst v = .ok e1 → e1.get t = e.get t := by
    intro v hp
    unfold putDst at hp
    split at hp
    · cases hp; rfl
    · rename_i d hd
      rw [cond_eq_ite] at hp
      split at hp
      · rename_i hlt
        have hlt' : d < n := by simpa using hlt
        cases hp
        rw [Tr.get_put_ne _ _ _ _ (Nat.lt_trans hlt' hn) (fun e => ht (by rw [e, hd]))]
      · cases hp
  rcases stepOp_cases h with ⟨_, hp, _⟩ | ⟨_, v, _, hp⟩
  · exact key _ hp
  · exact key _ hp
theorem put_get {o : Oper} {e e1 : Env} {v : V} {d : Nat} (hn : n < lim) (h : putDst n e o.dst v = .ok e1) (hd : o.dst = some d) : e1.get d = some v := by
  unfold putDst at h
  rw [hd] at h
  simp only [cond_eq_ite] at h
  split at h
  · rename_i hlt
    have hlt' : d < n := by simpa using hlt
    cases h
    exact Tr.get_put_same _ _ _ (Nat.lt_trans hlt' hn)
  · cases h
theorem step_mem {o : Oper} {k : Nat} {e e1 : Env} {S S1 : St} (h : stepOp P call n ops o (some k) e S = .ok (e1, S1)) (hc : cls P o.op ≠ 3) (hc4 : cls P o.op ≤ 3) :
    S1.next = S.next ∧ (∀ a, (cls P o.op = 2 → a ≠ k) → S1.heap.get a = S.heap.get a) := by
  rcases stepOp_cases h with ⟨_, _, rfl⟩ | ⟨_, v, hr, _⟩
  · exact ⟨rfl, fun _ _ => rfl⟩
  · unfold runOp at hr
    cases hev : evalOp P (ev e) o (some k) S with
    | error w => rw [hev] at hr; cases hr
    | ok r =>
      rw [hev] at hr
      have : cls P o.op = 0 ∨ cls P o.op = 1 ∨ cls P o.op = 2 := by omega
      rcases this with c | c | c
      · obtain ⟨v', h1, _⟩ := cls0 c hev
        subst h1; cases hr
        exact ⟨rfl, fun _ _ => rfl⟩
      · obtain ⟨v', h1, _⟩ := cls1 c hev
        subst h1; cases hr
        exact ⟨rfl, fun _ _ => rfl⟩
      · obtain ⟨v', b, hk, h1, _⟩ := cls2 c hev
        subst h1; cases hr
        exact ⟨rfl, fun a ha => Tr.get_put_ne _ _ _ _ hk (ha c)⟩
theorem cls_le (op : Op) : cls P op ≤ 3 := by
  unfold cls
  split <;> try omega
  all_goals (split <;> try omega)
  all_goals (split <;> omega)

/-! ### What has been written, by whom -/
def svF (E : Nat → Bool) (t : Nat) : List Frm → Option V → Option V
  | [], acc => acc
  | f :: l, acc => svF E t l (if E f.i = true ∧ f.o.dst = some t then f.e1.get t else acc)
def hpF (P : Program) (base : Nat) (E : Nat → Bool) (a : Nat) : List Frm → Option Blk → Option Blk
  | [], acc => acc
  | f :: l, acc => hpF P base E a l (if E f.i = true ∧ (cls P f.o.op = 3 ∨ (cls P f.o.op = 2 ∧ a = base + f.i)) then f.S1.heap.get a else acc)
def nxF (P : Program) (E : Nat → Bool) : List Frm → Nat → Nat
  | [], acc => acc
  | f :: l, acc => nxF P E l (if E f.i = true ∧ cls P f.o.op = 3 then f.S1.next else acc)

theorem svF_append (E : Nat → Bool) (t : Nat) (l l' : List Frm) (acc : Option V) : svF E t (l ++ l') acc = svF E t l' (svF E t l acc) := by
  induction l generalizing acc with
  | nil => rfl
  | cons f l ih => simp only [List.cons_append, svF, ih]
theorem hpF_append (E : Nat → Bool) (a : Nat) (l l' : List Frm) (acc : Option Blk) : hpF P base E a (l ++ l') acc = hpF P base E a l' (hpF P base E a l acc) := by
  induction l generalizing acc with
  | nil => rfl
  | cons f l ih => simp only [List.cons_append, hpF, ih]
theorem nxF_append (E : Nat → Bool) (l l' : List Frm) (acc : Nat) : nxF P E (l ++ l') acc = nxF P E l' (nxF P E l acc) := by
  induction l generalizing acc with
  | nil => rfl
  | cons f l ih => simp only [List.cons_append, nxF, ih]
theorem svF_congr {E E' : Nat → Bool} {t : Nat} {l : List Frm} (h : ∀ f ∈ l, f.o.dst = some t → E f.i = E' f.i) (acc : Option V) : svF E t l acc = svF E' t l acc := by
  induction l generalizing acc with
  | nil => rfl
  | cons f l ih =>
    simp only [svF]
    rw [ih (fun g hg => h g (List.mem_cons_of_mem _ hg))]
    by_cases hd : f.o.dst = some t
    · rw [h f (by simp) hd]
    · simp [hd]
theorem svF_none {E : Nat → Bool} {t : Nat} {l : List Frm} (h : ∀ f ∈ l, f.o.dst = some t → E f.i = false) (acc : Option V) : svF E t l acc = acc := by
  induction l generalizing acc with
  | nil => rfl
  | cons f l ih =>
    simp only [svF]
    rw [ih (fun g hg => h g (List.mem_cons_of_mem _ hg))]
    by_cases hd : f.o.dst = some t
    · rw [if_neg]; rw [h f (by simp) hd]; simp
    · simp [hd]
theorem hpF_congr {E E' : Nat → Bool} {a : Nat} {l : List Frm} (h : ∀ f ∈ l, 2 ≤ cls P f.o.op → E f.i = E' f.i) (acc : Option Blk) : hpF P base E a l acc = hpF P base E' a l acc := by
  induction l generalizing acc with
  | nil => rfl
  | cons f l ih =>
    simp only [hpF]
    rw [ih (fun g hg => h g (List.mem_cons_of_mem _ hg))]
    by_cases hd : 2 ≤ cls P f.o.op
    · rw [h f (by simp) hd]
    · rw [if_neg (by omega), if_neg (by omega)]
theorem nxF_congr {E E' : Nat → Bool} {l : List Frm} (h : ∀ f ∈ l, cls P f.o.op = 3 → E f.i = E' f.i) (acc : Nat) : nxF P E l acc = nxF P E' l acc := by
  induction l generalizing acc with
  | nil => rfl
  | cons f l ih =>
    simp only [nxF]
    rw [ih (fun g hg => h g (List.mem_cons_of_mem _ hg))]
    by_cases hd : cls P f.o.op = 3
    · rw [h f (by simp) hd]
    · simp [hd]
theorem nxF_none {E : Nat → Bool} {l : List Frm} (h : ∀ f ∈ l, cls P f.o.op = 3 → E f.i = false) (acc : Nat) : nxF P E l acc = acc := by
  induction l generalizing acc with
  | nil => rfl
  | cons f l ih =>
    simp only [nxF]
    rw [ih (fun g hg => h g (List.mem_cons_of_mem _ hg))]
    by_cases hd : cls P f.o.op = 3
    · rw [if_neg]; rw [h f (by simp) hd]; simp
    · simp [hd]
/-- Behind the last change only blocks are added. -/
theorem hpF_post {E : Nat → Bool} {a : Nat} {l : List Frm} (h : ∀ f ∈ l, cls P f.o.op = 3 → E f.i = false) :
    (∃ f ∈ l, E f.i = true ∧ cls P f.o.op = 2 ∧ a = base + f.i) ∧ (∀ acc acc', hpF P base E a l acc = hpF P base E a l acc') ∨
    (¬ (∃ f ∈ l, E f.i = true ∧ cls P f.o.op = 2 ∧ a = base + f.i)) ∧ ∀ acc, hpF P base E a l acc = acc := by
  induction l with
  | nil => exact .inr ⟨by simp, fun _ => rfl⟩
  | cons f l ih =>
    rcases ih (fun g hg => h g (List.mem_cons_of_mem _ hg)) with ⟨⟨g, hg, h1⟩, h2⟩ | ⟨h1, h2⟩
    · exact .inl ⟨⟨g, List.mem_cons_of_mem _ hg, h1⟩, fun acc acc' => by simp only [hpF]; exact h2 _ _⟩
    · by_cases hf : E f.i = true ∧ cls P f.o.op = 2 ∧ a = base + f.i
      · refine .inl ⟨⟨f, by simp, hf⟩, fun acc acc' => ?_⟩
        simp only [hpF, h2]
        rw [if_pos ⟨hf.1, .inr hf.2⟩, if_pos ⟨hf.1, .inr hf.2⟩]
      · refine .inr ⟨?_, fun acc => ?_⟩
        · rintro ⟨g, hg, hh⟩
          rcases List.mem_cons.1 hg with rfl | hg
          · exact hf hh
          · exact h1 ⟨g, hg, hh⟩
        · simp only [hpF, h2]
          rw [if_neg]
          rintro ⟨q1, q2 | q2⟩
          · rw [h f (by simp) q2] at q1; cases q1
          · exact hf ⟨q1, q2⟩

/-- Up to an operation the plan's slots, memory and next number are what all before it have left. -/
theorem DR.upto (hn : n < lim) {l : List Step} {recs : List Rec} {e e' : Env} {S S' : St} {fs : List Frm} (h : DR P call n ops base l recs e S fs e' S') :
    (∀ pre f post, fs = pre ++ f :: post → ops[f.i]? = some f.o ∧ stepOp P call n ops f.o (some (base + f.i)) f.e f.S = .ok (f.e1, f.S1) ∧ again P ops f.recs f.S1 f.re = true ∧
      (∀ t, svF (fun _ => true) t pre (e.get t) = f.e.get t) ∧
      (∀ E : Nat → Bool, (∀ g ∈ pre, 2 ≤ cls P g.o.op → E g.i = true) → (∀ a, hpF P base E a pre (S.heap.get a) = f.S.heap.get a) ∧ nxF P E pre S.next = f.S.next)) ∧
    (∀ t, svF (fun _ => true) t fs (e.get t) = e'.get t) ∧
    (∀ E : Nat → Bool, (∀ g ∈ fs, 2 ≤ cls P g.o.op → E g.i = true) → (∀ a, hpF P base E a fs (S.heap.get a) = S'.heap.get a) ∧ nxF P E fs S.next = S'.next) ∧
    (l = fs.map fun f => (f.i, f.re)) := by
  induction h with
  | nil recs e S => exact ⟨fun pre f post h => by simp at h, fun _ => rfl, fun _ _ => ⟨fun _ => rfl, rfl⟩, rfl⟩
  | cons i re l recs e S e1 S1 o fs e' S' ho hs ha t ih =>
    obtain ⟨ih1, ih2, ih3, ih4⟩ := ih
    have hsv : ∀ t, (if o.dst = some t then e1.get t else e.get t) = e1.get t := by
      intro t
      by_cases hd : o.dst = some t
      · simp [hd]
      · simp only [hd, if_false]; exact (step_env hn hs hd).symm
    have hhp : ∀ E : Nat → Bool, (2 ≤ cls P o.op → E i = true) →
        (∀ a, (if E i = true ∧ (cls P o.op = 3 ∨ (cls P o.op = 2 ∧ a = base + i)) then S1.heap.get a else S.heap.get a) = S1.heap.get a) ∧
        (if E i = true ∧ cls P o.op = 3 then S1.next else S.next) = S1.next := by
      intro E hE
      by_cases h3 : cls P o.op = 3
      · have := hE (by omega)
        exact ⟨fun a => by rw [if_pos ⟨this, .inl h3⟩], by rw [if_pos ⟨this, h3⟩]⟩
      · obtain ⟨m1, m2⟩ := step_mem hs h3 (cls_le _)
        refine ⟨fun a => ?_, by rw [if_neg (by simp [h3]), m1]⟩
        split
        · rfl
        · rename_i hne
          refine (m2 a fun h2 e0 => hne ⟨hE (by omega), .inr ⟨h2, e0⟩⟩).symm
    refine ⟨fun pre f post hsplit => ?_, fun t => ?_, fun E hE => ?_, by simp [ih4]⟩
    · cases pre with
      | nil =>
        simp only [List.nil_append, List.cons.injEq] at hsplit
        obtain ⟨rfl, rfl⟩ := hsplit
        exact ⟨ho, hs, ha, fun _ => rfl, fun _ _ => ⟨fun _ => rfl, rfl⟩⟩
      | cons g pre =>
        simp only [List.cons_append, List.cons.injEq] at hsplit
        obtain ⟨rfl, hsplit⟩ := hsplit
        obtain ⟨q1, q2, q3, q4, q5⟩ := ih1 pre f post hsplit
        refine ⟨q1, q2, q3, fun t => ?_, fun E hE => ?_⟩
        · simp only [svF, true_and, hsv]; exact q4 t
        · obtain ⟨r1, r2⟩ := q5 E (fun g hg => hE g (List.mem_cons_of_mem _ hg))
          obtain ⟨s1, s2⟩ := hhp E (fun h2 => hE _ (List.mem_cons_self ..) h2)
          refine ⟨fun a => ?_, ?_⟩
          · simp only [hpF]; rw [s1]; exact r1 a
          · simp only [nxF]; rw [s2]; exact r2
    · simp only [svF, true_and, hsv]; exact ih2 t
    · obtain ⟨r1, r2⟩ := ih3 E (fun g hg => hE g (List.mem_cons_of_mem _ hg))
      obtain ⟨s1, s2⟩ := hhp E (fun h2 => hE _ (List.mem_cons_self ..) h2)
      refine ⟨fun a => ?_, ?_⟩
      · simp only [hpF]; rw [s1]; exact r1 a
      · simp only [nxF]; rw [s2]; exact r2

/-- The numbers kept free are free until their operation's turn. -/
theorem DR.reserved (hc : CallOK P call) (hn : n < lim) {l : List Step} {recs : List Rec} {e e' : Env} {S S' : St} {fs : List Frm} (h : DR P call n ops base l recs e S fs e' S') :
    ∀ {F : Nat → Option Obj} {G : Gh} {W : World} {tmps : Array Value}, Rel F G S W.heap → EnvR G n e tmps → (fs.map (·.i)).Nodup → (∀ f ∈ fs, base + f.i < S.next ∧ G.loc (base + f.i) = none ∧ G.ml (base + f.i) = none) →
      (∀ pre f post, fs = pre ++ f :: post → ∀ g ∈ f :: post, f.S.heap.get (base + g.i) = none ∧ (g ∈ post → f.S1.heap.get (base + g.i) = none)) ∧
      (∀ a, a < S.next → S.heap.get a = none → (∀ f ∈ fs, a ≠ base + f.i) → S'.heap.get a = none) ∧ S.next ≤ S'.next := by
  induction h with
  | nil recs e S => intro F G W tmps _ _ _ _; exact ⟨fun pre f post h => by simp at h, fun _ _ h _ => h, Nat.le_refl _⟩
  | cons i re l recs e S e1 S1 o fs e' S' ho hs ha t ih =>
    intro F G W tmps R he hnd hres
    obtain ⟨hi, hnd'⟩ := List.nodup_cons.1 hnd
    obtain ⟨r1, r2, r3⟩ := hres _ (List.mem_cons_self ..)
    obtain ⟨G1, W1, tmps1, hsim, he1⟩ := step_exists hc ho hs R (fun k hk => by cases hk; exact ⟨r1, r2, r3⟩) he hn
    have dead : ∀ k, G.loc k = none → G.ml k = none → S.heap.get k = none := by
      intro k h1 h2
      cases hk : S.heap.get k with
      | none => rfl
      | some b =>
        obtain ⟨j, hj⟩ := (R.blk k b hk).next
        rcases hj with ⟨L, hL, _⟩ | hj
        · rw [h1] at hL; cases hL
        · rw [h2] at hj; cases hj
    have hne : ∀ g ∈ fs, some (base + i) ≠ some (base + g.i) := by
      intro g hg e0
      have : i = g.i := by have := Option.some.inj e0; omega
      exact hi (by rw [this]; exact List.mem_map.2 ⟨g, hg, rfl⟩)
    have hres1 : ∀ g ∈ fs, base + g.i < S1.next ∧ G1.loc (base + g.i) = none ∧ G1.ml (base + g.i) = none := by
      intro g hg
      obtain ⟨s1, s2, s3⟩ := hres g (List.mem_cons_of_mem _ hg)
      obtain ⟨k1, k2⟩ := hsim.keep _ (dead _ s2 s3) s1 (hne g hg)
      exact ⟨Nat.lt_of_lt_of_le s1 hsim.next, k1.trans s2, k2.trans s3⟩
    obtain ⟨ih1, ih2, ih3⟩ := ih hsim.rel he1 hnd' hres1
    refine ⟨fun pre f post hsplit g hg => ?_, fun a h1 h2 h3 => ?_, Nat.le_trans hsim.next ih3⟩
    · cases pre with
      | nil =>
        simp only [List.nil_append, List.cons.injEq] at hsplit
        obtain ⟨rfl, rfl⟩ := hsplit
        obtain ⟨s1, s2, s3⟩ := hres g hg
        exact ⟨dead _ s2 s3, fun hg' => hsim.dead _ (dead _ s2 s3) s1 (hne g hg')⟩
      | cons g' pre =>
        simp only [List.cons_append, List.cons.injEq] at hsplit
        obtain ⟨rfl, hsplit⟩ := hsplit
        exact ih1 pre f post hsplit g hg
    · refine ih2 a (Nat.lt_of_lt_of_le h1 hsim.next) (hsim.dead a h2 h1 ?_) (fun f hf => h3 f (List.mem_cons_of_mem _ hf))
      intro e0
      exact h3 _ (List.mem_cons_self ..) (Option.some.inj e0).symm

/-- What a reader read stays on record. -/
theorem DR.record {l : List Step} {recs : List Rec} {e e' : Env} {S S' : St} {fs : List Frm} (h : DR P call n ops base l recs e S fs e' S') :
    ∀ pre f post, fs = pre ++ f :: post → ∀ d v, cls P f.o.op = 1 → wanted ops f.o f.e = .ok true → f.o.dst = some d → f.e1.get d = some v → (∀ g ∈ post, g.i ≠ f.i) →
      ∀ p1 g p2, post = p1 ++ g :: p2 → findRec f.i g.recs = some (f.e, v) := by
  induction h with
  | nil recs e S => intro pre f post h; simp at h
  | cons i re l recs e S e1 S1 o fs e' S' ho hs ha t ih =>
    intro pre f post hsplit d v hc hw hd hv hne p1 g p2 hp
    cases pre with
    | cons g' pre =>
      simp only [List.cons_append, List.cons.injEq] at hsplit
      exact ih pre f post hsplit.2 d v hc hw hd hv hne p1 g p2 hp
    | nil =>
      simp only [List.nil_append, List.cons.injEq] at hsplit
      obtain ⟨rfl, rfl⟩ := hsplit
      simp only at hc hw hd hv hne
      have hfirst : findRec i (nextRecs P ops i o e e1 recs) = some (e, v) := by
        unfold nextRecs
        rw [hc, hw, hd]
        simp [isTrue, hv, findRec]
      -- behind it only others are put ahead
      clear ih hv hc hw hd ho
      generalize nextRecs P ops i o e e1 recs = rs at t hfirst
      clear hs ha
      subst hp
      generalize hq : p1 ++ g :: p2 = q at t
      induction t generalizing p1 with
      | nil recs e S => simp at hq
      | cons i' re' l' recs' e2 S2 e3 S3 o' fs' e4 S4 ho' hs' ha' t' ih' =>
        cases p1 with
        | nil =>
          simp only [List.nil_append, List.cons.injEq] at hq
          obtain ⟨rfl, _⟩ := hq
          exact hfirst
        | cons g' p1 =>
          simp only [List.cons_append, List.cons.injEq] at hq
          obtain ⟨rfl, hq⟩ := hq
          have hne2 : ∀ x ∈ p1 ++ g :: p2, x.i ≠ i := fun x hx => hne x (by simp only [List.cons_append, List.mem_cons]; exact .inr hx)
          refine ih' p1 ?_ hne2 hq
          have hne' : i ≠ i' := fun e0 => hne _ (by simp only [List.cons_append, List.mem_cons]; exact .inl rfl) e0.symm
          unfold nextRecs
          rw [cond_eq_ite]
          split
          · split
            · exact hfirst
            · split
              · simp only [findRec, cond_eq_ite]
                rw [if_neg (by simpa using hne')]
                exact hfirst
              · exact hfirst
          · exact hfirst
end
end Go.AM
