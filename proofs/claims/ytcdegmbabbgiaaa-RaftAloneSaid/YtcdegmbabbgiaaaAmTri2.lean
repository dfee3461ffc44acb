/-
  Walks with literal states: pieces of a code, and a loop whose end a token decides.
-/
import Derived.Test.YtcdegmbabbgiaaaAmTri
set_option linter.unusedSimpArgs false
set_option linter.unusedVariables false
namespace Go.AM
open Go.RowKit

def allG : Nat → Bool := fun _ => true
theorem sub_all {E : FE} {e : Env} (h : Sub allG E e) {t : Nat} {v : V} (hv : E.g.get t = some v) : e.get t = some v := h t v hv
theorem sub_of {g e : Env} (h : ∀ t v, g.get t = some v → e.get t = some v) : Sub allG ⟨.nil, g⟩ e := fun t v hv => h t v hv
theorem EnvR.sub {G : Gh} {n : Nat} {e g : Env} {tmps : Array Value} (he : EnvR G n e tmps) (h : ∀ t v, g.get t = some v → e.get t = some v) : EnvR G n g tmps :=
  ⟨he.1, fun t v hv => he.2 t v (h t v hv)⟩
theorem EnvR.put {G : Gh} {n : Nat} {e : Env} {tmps : Array Value} (he : EnvR G n e tmps) {s : Nat} (hs : s < lim) {v : V} {w : Value} (hw : tmps[s]? = some w) (hv : VR G v w) : EnvR G n (e.put s v) tmps :=
  ⟨he.1, fun t u hu => by
    rw [Tr.get_put _ _ _ _ hs] at hu
    split at hu
    · rename_i e1
      cases hu; subst e1
      exact ⟨w, hw, hv⟩
    · exact he.2 t u hu⟩
theorem EnvR.put_same {G : Gh} {n : Nat} {e : Env} {tmps : Array Value} (he : EnvR G n e tmps) {s : Nat} (hs : s < lim) {v : V} (hv : e.get s = some v) : EnvR G n (e.put s v) tmps := by
  obtain ⟨w, w1, w2⟩ := he.2 s v hv
  exact he.put hs w1 w2

/-- What a token's bounds are packed in. -/
def pack (a b : Nat) : Nat := Nat.add (Nat.mul a 4294967296) b
theorem tokLo_pack {a b : Nat} (h : b < tokBase) : tokLo (pack a b) = a := by
  have e : pack a b = tokBase * a + b := by unfold pack tokBase; simp only [Nat.add_eq, Nat.mul_eq]; omega
  unfold tokLo
  rw [e, Nat.mul_add_div (by decide), Nat.div_eq_of_lt h]; simp
theorem tokHi_pack {a b : Nat} (h : b < tokBase) : tokHi (pack a b) = b := by
  have e : pack a b = tokBase * a + b := by unfold pack tokBase; simp only [Nat.add_eq, Nat.mul_eq]; omega
  unfold tokHi
  rw [e, Nat.mul_add_mod, Nat.mod_eq_of_lt h]

section
variable (P : Program) (pl : Plans) (k : Nat) (p : Nat → Option (List Step)) (fn : Func) (F : Nat → Option Obj) (W0 : World)

def Good (Q : Exit → Act → World → Prop) (c : Code) (e : Env) (S : St) : Prop :=
  ∀ (G : Gh) (W : World) (a : Act), Rel F G S W.heap → EnvR G fn.ntmps e a.tmps → Same W0 W → a.defers = [] → c.wp P Q a W
/-- The end that is asked for. -/
def EndQ : Exit → Act → World → Prop := bodyPost P fn fun e W' => e = .returned (.bool true) ∧ ∃ G S, Rel F G S W'.heap ∧ Same W0 W'

noncomputable def topX : Cx := ⟨fn.ntmps, allG⟩
noncomputable def noE : KE := fun _ _ _ => none
noncomputable def noX : KX := fun _ _ _ _ => none
noncomputable def segQ (c : Code) (e : Env) (n : Nat) (h : Tr Blk) (K : KE) : Ans := execQ P (callQ P pl k) (topX fn) p k c ⟨.nil, e⟩ n h K noX noE
def dummy : V × St := (.nilp, ⟨0, .nil⟩)
noncomputable def fitK (ρ : Ren) (σ : Bnd) (le : List (Nat × V)) (lh : List (Nat × Blk)) : KE := fun E n h => ifQ (fitE ρ σ E.g le && fitH ρ σ h lh) (some dummy)
noncomputable def trueK : KM := fun v _ _ => asBool v (fun b => ifQ b (some dummy)) none
noncomputable def endQ (c : Code) (e : Env) (n : Nat) (h : Tr Blk) : Ans :=
  execQ P (callQ P pl k) (topX fn) p k c ⟨.nil, e⟩ n h (retK P allG fn.results.toList trueK) noX (retK P allG fn.results.toList trueK)
end

section
variable {P : Program} {pl : Plans} {k : Nat} {p : Nat → Option (List Step)} {fn : Func} {F : Nat → Option Obj} {W0 : World}

theorem asBool_true {v : V} {z : V × St} (h : asBool v (fun b => ifQ b (some dummy)) none = some z) : v = .bool true := by
  cases v with
  | bool b => cases b with
    | true => rfl
    | false => cases h
  | _ => cases h
theorem end_some (hp : PlansOK P pl) (hn : fn.ntmps < lim) {c : Code} (hk : codeOK P p c = true) {e g : Env} {n : Nat} {h : Tr Blk} (hs : ∀ t v, g.get t = some v → e.get t = some v)
    (H : (endQ P pl k p fn c g n h).isSome = true) : Good P fn F W0 (EndQ P fn F W0) c e ⟨n, h⟩ := by
  intro G W a R he hS hd
  obtain ⟨z, hz⟩ := Option.isSome_iff_exists.1 H
  obtain ⟨⟨x, e1, S1⟩, h1, h2⟩ := execQ_some (call := callF P pl k) (callQ_some k) hn c (sub_of hs) hz
  have fin : ∀ {x : Ex}, (x = .normal ∨ x = .ret) → exec P p (callF P pl k) k fn.ntmps c e ⟨n, h⟩ = .ok (x, e1, S1) → (∃ E, Sub allG E e1 ∧ retK P allG fn.results.toList trueK E S1.next S1.heap = some z) → c.wp P (EndQ P fn F W0) a W := by
    rintro x hx h1 ⟨E, h3, h4⟩
    obtain ⟨vs, h5, h6⟩ := retK_some h3 h4
    have ht := asBool_true h6
    refine exec_sound (callF_sound hp k) hp.mixed hn c hk h1 R he fun G' W' a' q1 q2 q3 => ?_
    obtain ⟨ws, w1, w2⟩ := resV_sound q1.rel q2 h5
    have hres := results_sound w1
    have hv := resOut_VR w2
    rw [ht] at hv
    have : a'.defers = [] ∧ ∃ v, (results fn a'.tmps).run P W' = .ok v W' ∧ Ending.returned v = .returned (.bool true) ∧ ∃ G S, Rel F G S W'.heap ∧ Same W0 W' := by
      refine ⟨q3.trans hd, _, hres, ?_, G', _, q1.rel, hS.trans q1.same⟩
      generalize resOut ws = w at hv
      cases hv; rfl
    rcases hx with rfl | rfl
    · exact this
    · exact this
  cases x with
  | normal => exact fin (.inl rfl) h1 h2
  | ret => exact fin (.inr rfl) h1 h2
  | exit j =>
    obtain ⟨E, _, h4⟩ := h2
    cases h4
theorem good_end (hp : PlansOK P pl) (hn : fn.ntmps < lim) {c : Code} (hk : codeOK P p c = true) {e : Env} {n : Nat} {h : Tr Blk}
    (H : (endQ P pl k p fn c e n h).isSome = true) : Good P fn F W0 (EndQ P fn F W0) c e ⟨n, h⟩ := end_some hp hn hk (fun _ _ h => h) H

theorem fitE_sub {ρ : Ren} {σ : Bnd} {g e : Env} (hs : ∀ t v, g.get t = some v → e.get t = some v) : ∀ {l : List (Nat × V)}, fitE ρ σ g l = true → fitE ρ σ e l = true
  | [], _ => rfl
  | (t, v) :: l, h => by
    simp only [fitE, Bool.and_eq_true] at h ⊢
    refine ⟨?_, fitE_sub hs h.2⟩
    have h1 := h.1
    split at h1
    · rename_i v' hv'
      rw [hs t v' hv']; exact h1
    · cases h1

/-- One piece of a code, from a literal state to another one. -/
theorem good_seg (hp : PlansOK P pl) (hn : fn.ntmps < lim) {c d : Code} (hk : codeOK P p c = true) {Q : Exit → Act → World → Prop} {e : Env} {n : Nat} {h : Tr Blk} {ρ : Ren} {σ : Bnd} {le : List (Nat × V)} {n' : Nat} {lh : List (Nat × Blk)}
    (hr : renOK ρ n' = true) (hs : slotsOK fn.ntmps le = true) (H : (segQ P pl k p fn c e n h (fitK ρ σ le lh)).isSome = true) (hd : Good P fn F W0 Q d (mkEnv le) ⟨n', mkHeap lh⟩) : Good P fn F W0 Q (c.seq d) e ⟨n, h⟩ := by
  intro G W a R he hS hdf
  obtain ⟨z, hz⟩ := Option.isSome_iff_exists.1 H
  obtain ⟨⟨x, e1, S1⟩, h1, h2⟩ := execQ_some (call := callF P pl k) (callQ_some k) hn c (sub_of fun _ _ h => h) hz
  refine wp_seq ?_
  refine exec_sound (callF_sound hp k) hp.mixed hn c hk h1 R he fun G' W' a' q1 q2 q3 => ?_
  cases x with
  | normal =>
    obtain ⟨E, h3, h4⟩ := h2
    obtain ⟨h5, _⟩ := ifQ_some h4
    simp only [Bool.and_eq_true] at h5
    exact hd _ W' a' (q1.rel.ren hr h5.2) (q2.ren (Nat.le_of_lt hn) hs (fitE_sub (fun t v => sub_all h3) h5.1)) (hS.trans q1.same) (q3.trans hdf)
  | exit j => obtain ⟨E, _, h4⟩ := h2; cases h4
  | ret => obtain ⟨E, _, h4⟩ := h2; cases h4

/-- A token is one of its numbers. -/
theorem good_cases {Q : Exit → Act → World → Prop} {c : Code} {e : Env} {S : St} {s tm a b : Nat} (hs : s < lim) (ht : tokBase ≤ tm) (hb : b < tokBase) (hg : e.get s = some (.res tm (pack a b)))
    (h : ∀ z : Nat, a ≤ z → z ≤ b → Good P fn F W0 Q c (e.put s (.int (tokKind tm) z)) S) : Good P fn F W0 Q c e S := by
  intro G W ac R he hS hd
  obtain ⟨w, w1, w2⟩ := he.2 s _ hg
  cases w2 with
  | res _ _ kk n hn =>
    rcases hn with ⟨hlt, _⟩ | ⟨_, rfl, e1, e2, e3⟩
    · omega
    · rw [tokLo_pack hb] at e2
      rw [tokHi_pack hb] at e3
      have hz : n = ((n.toNat : Nat) : Int) := by omega
      refine h n.toNat (by omega) (by omega) G W ac R (he.put hs w1 ?_) hS hd
      rw [← hz]; exact .int _ _

/-! ### A loop whose end a token decides -/
section
variable (P pl k p fn F W0)
variable (B R : Code) (blk s tm hi : Nat)
def LG (Q : Exit → Act → World → Prop) (i : Nat) (e : Env) (S : St) : Prop :=
  ∀ (G : Gh) (W : World) (a : Act), Rel F G S W.heap → EnvR G fn.ntmps (e.put s (.res tm (pack i hi))) a.tmps → Same W0 W → a.defers = [] →
    Code.rounds P B (Exit.inBlock blk (Exit.then (R.wp P Q) Q)) (hi + 1 - i) a W
noncomputable def exitQ (i : Nat) (E : FE) (n : Nat) (h : Tr Blk) : Ans :=
  setPV (.int (tokKind tm) (.ofNat i)) (pth 32 s) E.g (fun g => execQ P (callQ P pl k) (topX fn) p k B ⟨.nil, g⟩ n h noE (fun j E n h => ifQ (Nat.beq j blk) (endQ P pl k p fn R E.g n h)) noE)
noncomputable def chainQ (final : KE) (m : Nat) : Nat → KE :=
  @Nat.rec (fun _ => Nat → KE) (fun _ => final) (fun _ ih i E n h => bindO (exitQ P pl k p fn B R blk s tm i E n h) (fun _ => forceN (Nat.succ i) (fun i =>
    forceN (pack i hi) (fun r => setPV (.res tm r) (pth 32 s) E.g (fun g => execQ P (callQ P pl k) (topX fn) p k B ⟨.nil, g⟩ n h (fun E n h => getPV (pth 32 s) E.g (fun v => ifQ (beqV v (.res tm r)) (ih i E n h))) noX noE))))) m
end
section
variable {B R : Code} {blk s tm hi : Nat}
theorem good_loop {Q : Exit → Act → World → Prop} {e : Env} {S : St} {i : Nat} (hs : s < lim) (hg : e.get s = some (.res tm (pack i hi))) (h : LG P fn F W0 B R blk s tm hi Q i e S) : Good P fn F W0 Q ((Code.block blk (.loop B)).seq R) e S := by
  intro G W a Rl he hS hd
  exact wp_seq (wp_block (wp_loop_rounds _ (h G W a Rl (he.put_same hs hg) hS hd)))

theorem exit_some (hp : PlansOK P pl) (hn : fn.ntmps < lim) (hB : codeOK P p B = true) (hR : codeOK P p R = true) {i : Nat} {E : FE} {n : Nat} {h : Tr Blk} {z : V × St}
    (H : exitQ P pl k p fn B R blk s tm i E n h = some z) {G : Gh} {W : World} {a : Act} (Rl : Rel F G ⟨n, h⟩ W.heap) (he : EnvR G fn.ntmps (E.g.put s (.int (tokKind tm) i)) a.tmps) (hS : Same W0 W) (hd : a.defers = []) {m : Nat} :
    B.wp P (Exit.then (Code.rounds P B (Exit.inBlock blk (Exit.then (R.wp P (EndQ P fn F W0)) (EndQ P fn F W0))) m) (Exit.inBlock blk (Exit.then (R.wp P (EndQ P fn F W0)) (EndQ P fn F W0)))) a W := by
  unfold exitQ at H
  rw [setPV_eq] at H
  obtain ⟨⟨x, e1, S1⟩, h1, h2⟩ := execQ_some (call := callF P pl k) (callQ_some k) hn B (sub_of fun _ _ h => h) H
  refine exec_sound (callF_sound hp k) hp.mixed hn B hB h1 Rl he fun G' W' a' q1 q2 q3 => ?_
  cases x with
  | normal => obtain ⟨E, _, h4⟩ := h2; cases h4
  | ret => obtain ⟨E, _, h4⟩ := h2; cases h4
  | exit j =>
    obtain ⟨E1, h3, h4⟩ := h2
    obtain ⟨h5, h6⟩ := ifQ_some h4
    have hj := Nat.eq_of_beq_eq_true h5
    subst hj
    have hg := end_some (F := F) (W0 := W0) hp hn hR (e := e1) (fun t v => sub_all h3) (h := S1.heap) (n := S1.next) (by rw [h6]; rfl)
    show Exit.inBlock j _ (.exit j) a' W'
    simp only [Exit.inBlock, if_true]
    exact hg G' W' a' q1.rel q2 (hS.trans q1.same) (q3.trans hd)

theorem chain_some (hp : PlansOK P pl) (hn : fn.ntmps < lim) (hB : codeOK P p B = true) (hR : codeOK P p R = true) (hs : s < lim) (ht : tokBase ≤ tm) (hh : hi < tokBase) {final : KE} :
    ∀ (m i : Nat) {E : FE} {n : Nat} {h : Tr Blk} {z : V × St}, i + m ≤ hi → E.g.get s = some (.res tm (pack i hi)) → chainQ P pl k p fn B R blk s tm hi final m i E n h = some z →
      (∀ {E : FE} {n : Nat} {h : Tr Blk} {z : V × St}, E.g.get s = some (.res tm (pack (i + m) hi)) → final E n h = some z → LG P fn F W0 B R blk s tm hi (EndQ P fn F W0) (i + m) E.g ⟨n, h⟩) → LG P fn F W0 B R blk s tm hi (EndQ P fn F W0) i E.g ⟨n, h⟩ := by
  intro m
  induction m with
  | zero => intro i E n h z hi' hE H hf; exact hf hE H
  | succ m ih =>
    intro i E n h z hi' hE H hf
    obtain ⟨z1, hx, H⟩ := bindO_some H
    rw [forceN_eq, forceN_eq, setPV_eq] at H
    intro G W a Rl he hS hd
    rw [show hi + 1 - i = (hi + 1 - (i + 1)) + 1 by omega, rounds_succ]
    obtain ⟨w, w1, w2⟩ := he.2 s _ (Tr.get_put_same _ _ _ hs)
    have he' : EnvR G fn.ntmps (E.g.put s (.res tm (pack i hi))) a.tmps := he
    cases w2 with
    | res _ _ kk z' hz =>
      rcases hz with ⟨hlt, _⟩ | ⟨_, rfl, e1, e2, e3⟩
      · omega
      · rw [tokLo_pack hh] at e2
        rw [tokHi_pack hh] at e3
        have put2 : ∀ v, VR G v (.int (tokKind tm) z') → EnvR G fn.ntmps (E.g.put s v) a.tmps := by
          intro v hv
          refine ⟨he.1, fun t u hu => ?_⟩
          rw [Tr.get_put _ _ _ _ hs] at hu
          split at hu
          · rename_i e1
            cases hu; subst e1
            exact ⟨_, w1, hv⟩
          · rename_i hne
            exact he.2 t u (by rw [Tr.get_put_ne _ _ _ _ hs hne]; exact hu)
        by_cases hzi : z' = i
        · subst hzi
          exact exit_some hp hn hB hR hx Rl (put2 _ (.int _ _)) hS hd
        · have hv : VR G (.res tm (pack (i + 1) hi)) (.int (tokKind tm) z') := .res _ _ _ _ (.inr ⟨ht, rfl, e1, by rw [tokLo_pack hh]; omega, by rw [tokHi_pack hh]; omega⟩)
          have he2 := put2 _ hv
          obtain ⟨⟨x, e1, S1⟩, h1, h2⟩ := execQ_some (call := callF P pl k) (callQ_some k) hn B (sub_of fun _ _ h => h) H
          refine exec_sound (callF_sound hp k) hp.mixed hn B hB h1 Rl he2 fun G' W' a' q1 q2 q3 => ?_
          cases x with
          | exit j => obtain ⟨E, _, h4⟩ := h2; cases h4
          | ret => obtain ⟨E, _, h4⟩ := h2; cases h4
          | normal =>
            obtain ⟨E1, h3, h4⟩ := h2
            obtain ⟨v, hv1, h4⟩ := getPV_some h4
            obtain ⟨hb, h5⟩ := ifQ_some h4
            have hb := beqV_eq hb
            subst hb
            have h5 : chainQ P pl k p fn B R blk s tm hi final m (i + 1) E1 S1.next S1.heap = some z := h5
            have key := ih (i + 1) (by omega) hv1 h5 (fun hE hq => by rw [show i + 1 + m = i + (m + 1) by omega] at hE ⊢; exact hf hE hq)
            exact key G' W' a' q1.rel ((q2.sub fun t v => sub_all h3).put_same hs hv1) (hS.trans q1.same) (q3.trans hd)

/-- The loop's head in another state. -/
theorem lg_fit (hn : fn.ntmps < lim) {Q : Exit → Act → World → Prop} {ρ : Ren} {σ : Bnd} {le : List (Nat × V)} {n' : Nat} {lh : List (Nat × Blk)} {i : Nat} (hs : s < lim) (hr : renOK ρ n' = true) (hsl : slotsOK fn.ntmps le = true) (hg : (mkEnv le).get s = some (.res tm (pack i hi)))
    (h : LG P fn F W0 B R blk s tm hi Q i (mkEnv le) ⟨n', mkHeap lh⟩) {E : FE} {n : Nat} {hp : Tr Blk} {z : V × St} (H : fitK ρ σ le lh E n hp = some z) (hE : E.g.get s = some (.res tm (pack i hi))) : LG P fn F W0 B R blk s tm hi Q i E.g ⟨n, hp⟩ := by
  intro G W a Rl he hS hd
  obtain ⟨h5, _⟩ := ifQ_some H
  simp only [Bool.and_eq_true] at h5
  refine h _ W a (Rl.ren hr h5.2) ?_ hS hd
  have : EnvR G fn.ntmps E.g a.tmps := he.sub fun t v hv => by
    by_cases hts : t = s
    · subst hts; rw [hE] at hv; cases hv; exact Tr.get_put_same _ _ _ hs
    · rw [Tr.get_put_ne _ _ _ _ hs hts]; exact hv
  exact (this.ren (Nat.le_of_lt hn) hsl h5.1).put_same hs hg
theorem lg_last (hp : PlansOK P pl) (hn : fn.ntmps < lim) (hB : codeOK P p B = true) (hR : codeOK P p R = true) (hs : s < lim) (ht : tokBase ≤ tm) (hh : hi < tokBase) {E : FE} {n : Nat} {h : Tr Blk} {z : V × St}
    (H : exitQ P pl k p fn B R blk s tm hi E n h = some z) : LG P fn F W0 B R blk s tm hi (EndQ P fn F W0) hi E.g ⟨n, h⟩ := by
  intro G W a Rl he hS hd
  rw [show hi + 1 - hi = 0 + 1 by omega, rounds_succ]
  obtain ⟨w, w1, w2⟩ := he.2 s _ (Tr.get_put_same _ _ _ hs)
  cases w2 with
  | res _ _ kk z' hz =>
    rcases hz with ⟨hlt, _⟩ | ⟨_, rfl, e1, e2, e3⟩
    · omega
    · rw [tokLo_pack hh] at e2
      rw [tokHi_pack hh] at e3
      have hz : z' = (hi : Int) := by omega
      subst hz
      refine exit_some hp hn hB hR H Rl ?_ hS hd
      refine ⟨he.1, fun t u hu => ?_⟩
      rw [Tr.get_put _ _ _ _ hs] at hu
      split at hu
      · rename_i e1
        cases hu; subst e1
        exact ⟨_, w1, .int _ _⟩
      · rename_i hne
        exact he.2 t u (by rw [Tr.get_put_ne _ _ _ _ hs hne]; exact hu)
end
end
end Go.AM
namespace Go.AM
open Go.RowKit
/-- What stands ahead of the n-th statement, and what from there on. -/
def preOf : Nat → Code → Code
  | n + 1, .seq a b => .seq a (preOf n b)
  | _, _ => .skip
def tailOf : Nat → Code → Code
  | n + 1, .seq a b => tailOf n b
  | _, c => c
section
variable {P : Program} {pl : Plans} {k : Nat} {p : Nat → Option (List Step)} {fn : Func} {F : Nat → Option Obj} {W0 : World}
theorem pre_sound (hp : PlansOK P pl) (hn : fn.ntmps < lim) {Q : Exit → Act → World → Prop} {x : Ex} {e' : Env} {S' : St} : ∀ (n : Nat) (c : Code), codeOK P p (preOf n c) = true → ∀ {e : Env} {S : St} {G : Gh} {W : World} {a : Act},
    exec P p (callF P pl k) k fn.ntmps (preOf n c) e S = .ok (.normal, e', S') → Rel F G S W.heap → EnvR G fn.ntmps e a.tmps →
    (∀ G' W' a', Sim F none G S W G' S' W' → EnvR G' fn.ntmps e' a'.tmps → a'.defers = a.defers → (tailOf n c).wp P Q a' W') → c.wp P Q a W := by
  intro n
  induction n with
  | zero =>
    intro c hk e S G W a h R he hQ
    cases c <;> (simp only [preOf, exec, Except.ok.injEq, Prod.mk.injEq] at h; obtain ⟨_, rfl, rfl⟩ := h; exact hQ G W a (Sim.refl R) he rfl)
  | succ n ih =>
    intro c hk e S G W a h R he hQ
    cases c with
    | seq c1 c2 =>
      simp only [preOf, codeOK, Bool.and_eq_true] at hk
      simp only [preOf, exec] at h
      refine wp_seq ?_
      cases hx : exec P p (callF P pl k) k fn.ntmps c1 e S with
      | error w => rw [hx] at h; cases h
      | ok r =>
        obtain ⟨y, e1, S1⟩ := r
        rw [hx] at h
        refine exec_sound (callF_sound hp k) hp.mixed hn c1 hk.1 hx R he fun G1 W1 a1 q1 q2 q3 => ?_
        cases y with
        | normal => exact ih c2 hk.2 h q1.rel q2 fun G2 W2 a2 r1 r2 r3 => hQ G2 W2 a2 (q1.trans r1) r2 (r3.trans q3)
        | exit id => cases h
        | ret => cases h
    | _ => (simp only [preOf, exec, Except.ok.injEq, Prod.mk.injEq] at h; obtain ⟨_, rfl, rfl⟩ := h; exact hQ G W a (Sim.refl R) he rfl)
theorem good_pre (hp : PlansOK P pl) (hn : fn.ntmps < lim) {c : Code} (i : Nat) (hk : codeOK P p (preOf i c) = true) {Q : Exit → Act → World → Prop} {e : Env} {n : Nat} {h : Tr Blk} {ρ : Ren} {σ : Bnd} {le : List (Nat × V)} {n' : Nat} {lh : List (Nat × Blk)}
    (hr : renOK ρ n' = true) (hs : slotsOK fn.ntmps le = true) (H : (segQ P pl k p fn (preOf i c) e n h (fitK ρ σ le lh)).isSome = true) (hd : Good P fn F W0 Q (tailOf i c) (mkEnv le) ⟨n', mkHeap lh⟩) : Good P fn F W0 Q c e ⟨n, h⟩ := by
  intro G W a R he hS hdf
  obtain ⟨z, hz⟩ := Option.isSome_iff_exists.1 H
  obtain ⟨⟨x, e1, S1⟩, h1, h2⟩ := execQ_some (call := callF P pl k) (callQ_some k) hn (preOf i c) (sub_of fun _ _ h => h) hz
  cases x with
  | normal =>
    obtain ⟨E, h3, h4⟩ := h2
    obtain ⟨h5, _⟩ := ifQ_some h4
    simp only [Bool.and_eq_true] at h5
    exact pre_sound hp hn (x := .normal) i c hk h1 R he fun G' W' a' q1 q2 q3 => hd _ W' a' (q1.rel.ren hr h5.2) (q2.ren (Nat.le_of_lt hn) hs (fitE_sub (fun t v => sub_all h3) h5.1)) (hS.trans q1.same) (q3.trans hdf)
  | exit j => obtain ⟨E, _, h4⟩ := h2; cases h4
  | ret => obtain ⟨E, _, h4⟩ := h2; cases h4
/-- The loop, behind a piece in one statement with it. -/
theorem good_loop2 (hp : PlansOK P pl) (hn : fn.ntmps < lim) {A B R : Code} {blk s tm hi : Nat} (hk : codeOK P p A = true) {Q : Exit → Act → World → Prop} {e : Env} {n : Nat} {h : Tr Blk} {ρ : Ren} {σ : Bnd} {le : List (Nat × V)} {n' : Nat} {lh : List (Nat × Blk)} {i : Nat}
    (hr : renOK ρ n' = true) (hsl : slotsOK fn.ntmps le = true) (H : (segQ P pl k p fn A e n h (fitK ρ σ le lh)).isSome = true) (hs : s < lim) (hg : (mkEnv le).get s = some (.res tm (pack i hi)))
    (hd : LG P fn F W0 B R blk s tm hi Q i (mkEnv le) ⟨n', mkHeap lh⟩) : Good P fn F W0 Q ((A.seq (.block blk (.loop B))).seq R) e ⟨n, h⟩ := by
  intro G W a Rl he hS hdf
  obtain ⟨z, hz⟩ := Option.isSome_iff_exists.1 H
  obtain ⟨⟨x, e1, S1⟩, h1, h2⟩ := execQ_some (call := callF P pl k) (callQ_some k) hn A (sub_of fun _ _ h => h) hz
  refine wp_seq (wp_seq ?_)
  refine exec_sound (callF_sound hp k) hp.mixed hn A hk h1 Rl he fun G' W' a' q1 q2 q3 => ?_
  cases x with
  | normal =>
    obtain ⟨E, h3, h4⟩ := h2
    obtain ⟨h5, _⟩ := ifQ_some h4
    simp only [Bool.and_eq_true] at h5
    exact wp_block (wp_loop_rounds _ (hd _ W' a' (q1.rel.ren hr h5.2) ((q2.ren (Nat.le_of_lt hn) hsl (fitE_sub (fun t v => sub_all h3) h5.1)).put_same hs hg) (hS.trans q1.same) (q3.trans hdf)))
  | exit j => obtain ⟨E, _, h4⟩ := h2; cases h4
  | ret => obtain ⟨E, _, h4⟩ := h2; cases h4

/-- A chain's piece, and what stands behind it. -/
theorem lg_chain (hp : PlansOK P pl) (hn : fn.ntmps < lim) {B R : Code} {blk s tm hi : Nat} (hB : codeOK P p B = true) (hR : codeOK P p R = true) (hs : s < lim) (ht : tokBase ≤ tm) (hh : hi < tokBase) {m i j : Nat} (hj : i + m = j) (hi' : j ≤ hi)
    {e : Env} (he : e.get s = some (.res tm (pack i hi))) {n : Nat} {h : Tr Blk} {ρ : Ren} {σ : Bnd} {le : List (Nat × V)} {n' : Nat} {lh : List (Nat × Blk)} (hr : renOK ρ n' = true) (hsl : slotsOK fn.ntmps le = true)
    (hg : (mkEnv le).get s = some (.res tm (pack j hi))) (H : (chainQ P pl k p fn B R blk s tm hi (fitK ρ σ le lh) m i ⟨.nil, e⟩ n h).isSome = true)
    (hd : LG P fn F W0 B R blk s tm hi (EndQ P fn F W0) j (mkEnv le) ⟨n', mkHeap lh⟩) : LG P fn F W0 B R blk s tm hi (EndQ P fn F W0) i e ⟨n, h⟩ := by
  subst hj
  obtain ⟨z, hz⟩ := Option.isSome_iff_exists.1 H
  exact chain_some hp hn hB hR hs ht hh m i hi' he hz fun hE hq => lg_fit hn hs hr hsl hg hd hq hE
theorem lg_chain_last (hp : PlansOK P pl) (hn : fn.ntmps < lim) {B R : Code} {blk s tm hi : Nat} (hB : codeOK P p B = true) (hR : codeOK P p R = true) (hs : s < lim) (ht : tokBase ≤ tm) (hh : hi < tokBase) {m i : Nat} (hj : i + m = hi)
    {e : Env} (he : e.get s = some (.res tm (pack i hi))) {n : Nat} {h : Tr Blk} (H : (chainQ P pl k p fn B R blk s tm hi (exitQ P pl k p fn B R blk s tm hi) m i ⟨.nil, e⟩ n h).isSome = true) :
    LG P fn F W0 B R blk s tm hi (EndQ P fn F W0) i e ⟨n, h⟩ := by
  obtain ⟨z, hz⟩ := Option.isSome_iff_exists.1 H
  exact chain_some hp hn hB hR hs ht hh m i (by omega) he hz fun hE hq => by rw [hj]; exact lg_last hp hn hB hR hs ht hh hq
def headOf : Code → Code
  | .seq a _ => a
  | c => c
def loopIn : Code → Code
  | .seq _ (.block _ (.loop b)) => b
  | c => c
/-- A question at all numbers below a bound. -/
noncomputable def allUpto (q : Nat → Bool) (n : Nat) : Bool := @Nat.rec (fun _ => Bool) true (fun i ih => @Bool.rec (fun _ => Bool) false ih (q i)) n
theorem allUpto_at {q : Nat → Bool} : ∀ {n : Nat}, allUpto q n = true → ∀ i, i < n → q i = true
  | 0, _, i, hi => absurd hi (by omega)
  | n + 1, h, i, hi => by
    have h' : @Bool.rec (fun _ => Bool) false (allUpto q n) (q n) = true := h
    cases hq : q n with
    | false => rw [hq] at h'; cases h'
    | true =>
      rw [hq] at h'
      by_cases e : i = n
      · subst e; exact hq
      · exact allUpto_at h' i (by omega)

/-- A call, from its arguments on. -/
theorem calls_good {f : FuncId} {c : Code} (hf : P.funcs[f]? = some fn) (hb : fn.body = some c) (hn : fn.ntmps < lim) {args : List V} {cs : List Value} (hl : args.length ≤ fn.ntmps) (W : World) {sy : Nat → Int}
    (hv : VRs { Gh.none with sy := sy } args cs) (h : Good P fn (fun i => W.heap[i]?) W (EndQ P fn (fun i => W.heap[i]?) W) c (argsEnv 0 args .nil) ⟨0, .nil⟩) :
    Calls P f cs.toArray W fun e W' => e = .returned (.bool true) ∧ Below W.heap.size W W' := by
  refine calls_of_wp hf hb ?_
  have hcl := hv.length
  have he : EnvR { Gh.none with sy := sy } fn.ntmps (argsEnv 0 args .nil) (cs.toArray ++ Array.replicate (fn.ntmps - cs.toArray.size) undef) := by
    refine ⟨by simp; omega, fun t v ht => ?_⟩
    rw [argsEnv_get _ _ _ _ (by omega)] at ht
    split at ht
    · rename_i hlt
      obtain ⟨w, w1, w2⟩ := hv.get (i := t) (by simpa using ht)
      refine ⟨w, ?_, w2⟩
      rw [Array.getElem?_append_left (by simp; omega)]
      simpa using w1
    · rw [Tr.get_nil] at ht; cases ht
  have h0 := rel_empty W
  have hR : Rel (fun i => W.heap[i]?) { Gh.none with sy := sy } ⟨0, .nil⟩ W.heap := ⟨h0.fresh, h0.sep, fun a b h => (by cases h), fun a a' b b' i h => (by cases h), h0.fr, h0.pr, fun a b i h => (by cases h), h0.lt, fun a b h => (by cases h)⟩
  refine wp_mono (h _ W _ hR he (Same.refl W) rfl) ?_
  intro x a W' hq
  have fin : (a.defers = [] ∧ ∃ v, (results fn a.tmps).run P W' = .ok v W' ∧ Ending.returned v = .returned (.bool true) ∧ ∃ G S, Rel (fun i => W.heap[i]?) G S W'.heap ∧ Same W W') →
      a.defers = [] ∧ ∃ v, (results fn a.tmps).run P W' = .ok v W' ∧ Ending.returned v = .returned (.bool true) ∧ Below W.heap.size W W' := by
    rintro ⟨q1, v, q2, q3, G, S, q4, q5⟩
    refine ⟨q1, v, q2, q3, q5.os, q5.tape, q5.output, q5.size, fun i hi => ?_⟩
    have := Array.getElem?_eq_getElem hi
    rw [this]
    exact q4.fr i _ this
  cases x with
  | normal => exact fin hq
  | ret => exact fin hq
  | panic ch => obtain ⟨_, h1, _⟩ := hq; cases h1
  | outgrown => obtain ⟨h1, _⟩ := hq; cases h1
  | _ => exact hq.elim
end
end Go.AM
