/-
  A region whose order is drawn: the theorem.
-/
import Derived.Test.YtcdegmbabbgiaaaAmDraw
set_option linter.unusedSimpArgs false
namespace Go.AM
section
variable {P : Program} {call : Call} {n : Nat} {ops : Array Oper} {base : Nat}

structure PlanF (P : Program) (ops : Array Oper) (b : Array Nat) (fs : List Frm) : Prop where
  nodup : (fs.map (·.i)).Nodup
  all : ∀ j, j < ops.size → ∃ f ∈ fs, f.i = j
  edge : ∀ pre f post, fs = pre ++ f :: post → ∀ e ∈ f.o.after, Region.binds .any e = true → ∃ g ∈ pre, g.i = e.on
  anc : ∀ pre f post, fs = pre ++ f :: post → ∀ j, j < ops.size → bitB (b.getD f.i 0) j = true → ∃ e ∈ f.o.after, Region.binds .any e = true ∧ (e.on = j ∨ bitB (b.getD e.on 0) j = true)
  pair : ∀ pre f post, fs = pre ++ f :: post → ∀ g ∈ pre, bitB (b.getD f.i 0) g.i = true ∨
    (apartB ops f.o g.o = true ∧ ¬ (cls P g.o.op = 3 ∧ cls P f.o.op = 3) ∧ ¬ (cls P g.o.op = 2 ∧ cls P f.o.op = 3) ∧ ¬ (cls P g.o.op = 3 ∧ cls P f.o.op = 1) ∧ ¬ (cls P g.o.op = 2 ∧ cls P f.o.op = 1) ∧
      (cls P g.o.op = 1 → cls P f.o.op = 3 → g.i ∈ f.re))
  rd : ∀ f ∈ fs, cls P f.o.op = 1 → ∃ d, f.o.dst = some d

theorem stepsOK_split {b : Array Nat} : ∀ {l1 l2 : List Step} {done : List Nat} {i : Nat} {re : List Nat}, stepsOK P ops b done (l1 ++ (i, re) :: l2) = true → stepOK P ops b ((l1.map (·.1)).reverse ++ done) i re = true
  | [], l2, done, i, re, h => by
    simp only [List.nil_append, stepsOK, Bool.and_eq_true] at h
    simpa using h.1
  | (j, rj) :: l1, l2, done, i, re, h => by
    simp only [List.cons_append, stepsOK, Bool.and_eq_true] at h
    have := stepsOK_split h.2
    simpa using this
theorem planF_of {b : Array Nat} {fs : List Frm} (hops : ∀ f ∈ fs, ops[f.i]? = some f.o) (hall : ∀ j, j < ops.size → ∃ f ∈ fs, f.i = j)
    (h : stepsOK P ops b [] (fs.map fun f => (f.i, f.re)) = true) : PlanF P ops b fs := by
  have key : ∀ pre f post, fs = pre ++ f :: post → stepOK P ops b ((pre.map (·.i)).reverse) f.i f.re = true := by
    intro pre f post hs
    rw [hs] at h
    simp only [List.map_append, List.map_cons] at h
    have := stepsOK_split h
    simpa [List.map_map, Function.comp_def] using this
  have facts : ∀ pre f post, fs = pre ++ f :: post →
      (∀ g ∈ pre, g.i ≠ f.i) ∧ (cls P f.o.op = 1 → ∃ d, f.o.dst = some d) ∧ (∀ e ∈ f.o.after, Region.binds .any e = true → ∃ g ∈ pre, g.i = e.on) ∧
      (∀ j, j < ops.size → bitB (b.getD f.i 0) j = true → ∃ e ∈ f.o.after, Region.binds .any e = true ∧ (e.on = j ∨ bitB (b.getD e.on 0) j = true)) ∧
      (∀ g ∈ pre, bitB (b.getD f.i 0) g.i = true ∨
        (apartB ops f.o g.o = true ∧ ¬ (cls P g.o.op = 3 ∧ cls P f.o.op = 3) ∧ ¬ (cls P g.o.op = 2 ∧ cls P f.o.op = 3) ∧ ¬ (cls P g.o.op = 3 ∧ cls P f.o.op = 1) ∧ ¬ (cls P g.o.op = 2 ∧ cls P f.o.op = 1) ∧
          (cls P g.o.op = 1 → cls P f.o.op = 3 → g.i ∈ f.re))) := by
    intro pre f post hs
    have hk := key pre f post hs
    unfold stepOK at hk
    rw [hops f (by rw [hs]; simp)] at hk
    simp only [Bool.and_eq_true] at hk
    obtain ⟨⟨⟨⟨k1, k2⟩, k3⟩, k4⟩, k5⟩ := hk
    refine ⟨fun g hg e0 => ?_, fun hc => ?_, fun e he hb => ?_, fun j hj hb => ?_, fun g hg => ?_⟩
    · simp only [Bool.not_eq_true', List.contains_eq_mem, decide_eq_false_iff_not, List.mem_reverse, List.mem_map] at k1
      exact k1 ⟨g, hg, e0⟩
    · rw [hc] at k2
      have : f.o.dst.isSome = true := by simpa using k2
      exact Option.isSome_iff_exists.1 this
    · have := List.all_eq_true.1 k3 e (by simpa using he)
      rw [hb] at this
      simp at this
      exact this
    · have := List.all_eq_true.1 k4 j (List.mem_range.2 hj)
      rw [hb] at this
      simp only [Bool.not_true, Bool.false_or, Bool.and_eq_true, List.any_eq_true, Bool.or_eq_true, beq_iff_eq] at this
      obtain ⟨_, e, he, hbe, hor⟩ := this
      exact ⟨e, by simpa using he, hbe, hor⟩
    · have := List.all_eq_true.1 k5 g.i (by simp; exact ⟨g, hg, rfl⟩)
      rw [hops g (by rw [hs]; simp [hg])] at this
      simp only [Bool.or_eq_true, Bool.and_eq_true] at this
      rcases this with h1 | ⟨h1, h2⟩
      · exact .inl h1
      · refine .inr ⟨h1, ?_⟩
        clear h1 k1 k2 k3 k4 k5
        generalize cls P g.o.op = x at h2
        generalize cls P f.o.op = y at h2
        split at h2
        · cases h2
        · cases h2
        · cases h2
        · cases h2
        · refine ⟨by omega, by omega, by omega, by omega, fun _ _ => by simpa using h2⟩
        · rename_i q1 q2 q3 q4 q5
          refine ⟨fun q => q1 q.1 q.2, fun q => q2 q.1 q.2, fun q => q3 q.1 q.2, fun q => q4 q.1 q.2, fun h5 h6 => (q5 h5 h6).elim⟩
  refine ⟨?_, hall, fun pre f post hs => (facts pre f post hs).2.2.1, fun pre f post hs => (facts pre f post hs).2.2.2.1, fun pre f post hs => (facts pre f post hs).2.2.2.2, fun f hf => ?_⟩
  · have : ∀ (l pre : List Frm), fs = pre ++ l → (l.map (·.i)).Nodup := by
      intro l
      induction l with
      | nil => intro pre _; simp
      | cons f l ih =>
        intro pre hs
        simp only [List.map_cons, List.nodup_cons]
        refine ⟨fun hm => ?_, ih (pre ++ [f]) (by simpa using hs)⟩
        obtain ⟨g, hg, e0⟩ := List.mem_map.1 hm
        obtain ⟨l1, l2, rfl⟩ := List.append_of_mem hg
        exact (facts (pre ++ f :: l1) g l2 (by simpa using hs)).1 f (by simp) e0.symm
    exact this fs [] rfl
  · obtain ⟨l1, l2, hs⟩ := List.append_of_mem hf
    exact (facts l1 f l2 hs).2.1

theorem apartB_spec {x y : Oper} (h : apartB ops x y = true) :
    (∀ d, x.dst = some d → d ∉ y.looksAt ops) ∧ (∀ d, x.dst = some d → y.dst ≠ some d) ∧ (∀ d, y.dst = some d → d ∉ x.looksAt ops) :=
  Oper.apart_spec (ops := ops) h
theorem hpF_ind {E : Nat → Bool} {a : Nat} {b : Blk} : ∀ {l : List Frm}, hpF P base E a l none = some b → ∀ acc, hpF P base E a l acc = some b
  | [], h, _ => by simp [hpF] at h
  | f :: l, h, acc => by
    simp only [hpF] at h ⊢
    split
    · rename_i hq; rw [if_pos hq] at h; exact h
    · rename_i hq; rw [if_neg hq] at h; exact hpF_ind h acc
theorem wanted_sound' {G : Gh} {o : Oper} {e : Env} {tmps : Array Value} {b : Bool} (h : wanted ops o e = .ok b)
    (he : ∀ t ∈ o.looksAt ops, ∀ v, e.get t = some v → ∃ w, tmps[t]? = some w ∧ VR G v w) : Region.wanted o (yielded ops tmps) = b := by
  unfold wanted at h
  unfold Region.wanted
  split at h
  · rename_i hg; cases h; simp [hg]
  · rename_i j want hg
    simp only [hg]
    unfold yielded
    split at h
    · rename_i hj; cases h; simp [hj]
    · rename_i oj hj
      split at h
      · rename_i hd; cases h; simp [hj, hd]
      · rename_i d hd
        have hl : d ∈ o.looksAt ops := by
          unfold Oper.looksAt
          refine List.mem_append_right _ ?_
          simp [hg, hj, hd]
        split at h
        · rename_i b' hb
          cases h
          obtain ⟨w, w1, w2⟩ := he d hl _ hb
          cases w2
          simp only [hj, hd, Option.bind_some, w1]
          cases b' <;> cases want <;> rfl
        · rename_i v hne hb
          cases h
          obtain ⟨w, w1, w2⟩ := he d hl _ hb
          simp only [hj, hd, Option.bind_some, w1]
          cases w2 <;> first | rfl | (exact absurd rfl (hne _))
        · cases h
/-- The operands that an operation looks at. -/
def only (ops : Array Oper) (o : Oper) (e : Env) : Operand → Option V
  | .tmp t => if t ∈ o.looksAt ops then e.get t else none
  | x => ev e x
theorem only_congr (o : Oper) (e : Env) : ∀ x ∈ o.op.operands, ev e x = only ops o e x := by
  intro x hx
  cases x with
  | tmp t =>
    have : t ∈ o.looksAt ops := by
      unfold Oper.looksAt
      refine List.mem_append_left _ (List.mem_filterMap.2 ⟨.tmp t, by simpa using hx, rfl⟩)
    simp [only, ev, this]
  | _ => rfl
theorem only_sound {G : Gh} {o : Oper} {e : Env} {a : Act} (he : ∀ t ∈ o.looksAt ops, ∀ v, e.get t = some v → ∃ w, a.tmps[t]? = some w ∧ VR G v w) :
    ∀ x v, only ops o e x = some v → VR G v (a.eval x) := by
  intro x v hx
  cases x with
  | tmp t =>
    simp only [only] at hx
    split at hx
    · rename_i ht
      obtain ⟨w, w1, w2⟩ := he t ht v hx
      simp only [Act.eval]
      rw [show a.tmps.getD t undef = w by simp [w1]]
      exact w2
    · cases hx
  | const c => exact ofValue_VR G hx
  | global g => cases hx
  | func f => cases hx; exact .func f [] [] #[] #[] .nil .nil

mutual
theorem beqV_eq : ∀ {a b : V}, beqV a b = true → a = b
  | .bool a, .bool b, h => by simp [beqV] at h; rw [h]
  | .int j a, .int k b, h => by simp [beqV] at h; rw [kindBeq_eq h.1, h.2]
  | .str a, .str b, h => by simp only [beqV, beqB_eq] at h; rw [eq_of_beq h]
  | .nilp, .nilp, _ => rfl
  | .ptr a b c d, .ptr a' b' c' d', h => by simp [beqV] at h; obtain ⟨⟨⟨rfl, rfl⟩, rfl⟩, rfl⟩ := h; rfl
  | .iptr a b, .iptr a' b', h => by simp [beqV] at h; rw [beqVs_eq h.1, h.2]
  | .nils, .nils, _ => rfl
  | .sl a b c d f, .sl a' b' c' d' f', h => by simp [beqV] at h; obtain ⟨⟨⟨⟨rfl, rfl⟩, rfl⟩, rfl⟩, rfl⟩ := h; rfl
  | .imm a, .imm b, h => by simp only [beqV] at h; rw [beqVss_eq h]
  | .agg a, .agg b, h => by simp only [beqV] at h; rw [beqVs_eq h]
  | .tup a, .tup b, h => by simp only [beqV] at h; rw [beqVs_eq h]
  | .nili, .nili, _ => rfl
  | .iface t a, .iface u b, h => by simp [beqV] at h; rw [h.1, beqV_eq h.2]
  | .nilf, .nilf, _ => rfl
  | .func f a b, .func g c d, h => by simp [beqV] at h; rw [h.1.1, beqVs_eq h.1.2, beqVs_eq h.2]
  | .nilm, .nilm, _ => rfl
  | .mp a, .mp b, h => by simp [beqV] at h; rw [h]
  | .res a b, .res c d, h => by simp [beqV] at h; rw [h.1, h.2]
theorem beqVs_eq : ∀ {a b : List V}, beqVs a b = true → a = b
  | [], [], _ => rfl
  | a :: x, b :: y, h => by simp only [beqVs, Bool.and_eq_true] at h; rw [beqV_eq h.1, beqVs_eq h.2]
theorem beqVss_eq : ∀ {a b : List (List V)}, beqVss a b = true → a = b
  | [], [], _ => rfl
  | a :: x, b :: y, h => by simp only [beqVss, Bool.and_eq_true] at h; rw [beqVs_eq h.1, beqVss_eq h.2]
end
theorem runOp_congr {ρ ρ' : Operand → Option V} {o : Oper} {fr : Option Nat} {S : St} (h : ∀ x ∈ o.op.operands, ρ x = ρ' x) : runOp P call ρ o fr S = runOp P call ρ' o fr S := by
  unfold runOp
  rw [evalOp_congr h]
theorem split_lt {l1 l2 pre post : List Frm} {f g : Frm} (h : l1 ++ f :: l2 = pre ++ g :: post) (hne : f.i ≠ g.i) (_hnd : ((l1 ++ f :: l2).map (·.i)).Nodup) : f ∈ pre ∨ f ∈ post := by
  have : f ∈ pre ++ g :: post := by rw [← h]; simp
  rcases List.mem_append.1 this with h1 | h1
  · exact .inl h1
  · rcases List.mem_cons.1 h1 with rfl | h1
    · exact absurd rfl hne
    · exact .inr h1
end
end Go.AM
