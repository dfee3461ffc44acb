/-
  A step in a part of the memory, as a step of the model.
-/
import Derived.Test.YtcdegmbabbgiaaaAmCls
set_option linter.unusedSimpArgs false
namespace Go.AM

def runOp (P : Program) (call : Call) (ρ : Operand → Option V) (o : Oper) (fr : Option Nat) (S : St) : R (V × St) :=
  match evalOp P ρ o fr S with
  | .error w => .error w
  | .ok (.val v S') => .ok (v, S')
  | .ok (.skip S') => .ok (.tup [], S')
  | .ok (.call f args) => call f args S
theorem stepOp_cases {P : Program} {call : Call} {n : Nat} {ops : Array Oper} {o : Oper} {fr : Option Nat} {e e1 : Env} {S S1 : St} (h : stepOp P call n ops o fr e S = .ok (e1, S1)) :
    (wanted ops o e = .ok false ∧ putDst n e o.dst (.tup []) = .ok e1 ∧ S1 = S) ∨
    (wanted ops o e = .ok true ∧ ∃ v, runOp P call (ev e) o fr S = .ok (v, S1) ∧ putDst n e o.dst v = .ok e1) := by
  unfold stepOp at h
  split at h
  · cases h
  · rename_i hw
    split at h
    · rename_i e2 hp; cases h; exact .inl ⟨hw, hp, rfl⟩
    · cases h
  · rename_i hw
    refine .inr ⟨hw, ?_⟩
    split at h
    · cases h
    · rename_i v S2 hv
      split at h
      · rename_i e2 hp; cases h; exact ⟨v, by unfold runOp; rw [hv], hp⟩
      · cases h
    · rename_i S2 hv
      split at h
      · rename_i e2 hp; cases h; exact ⟨.tup [], by unfold runOp; rw [hv], hp⟩
      · cases h
    · rename_i f args hv
      split at h
      · cases h
      · rename_i v S2 hcall
        split at h
        · rename_i e2 hp; cases h; exact ⟨v, by unfold runOp; rw [hv]; exact hcall, hp⟩
        · cases h

theorem run_framed {P : Program} {call : Call} (hc : CallOK P call) {ops : Array Oper} {i : Nat} {o : Oper} (ho : ops[i]? = some o) {ρ : Operand → Option V} {fr : Option Nat} {S S1 : St} {v : V}
    (h : runOp P call ρ o fr S = .ok (v, S1)) {F : Nat → Option Obj} {G : Gh} {nx : Nat} {hp : Nat → Option Blk} {W : World} (R : RelH F G nx hp W.heap) (hn : S.next = nx)
    (hsub : ∀ a b, S.heap.get a = some b → hp a = some b) (hfr : ∀ k, fr = some k → k < nx ∧ G.loc k = none ∧ G.ml k = none) {a : Act} (hw : Region.wanted o (yielded ops a.tmps) = true)
    (hρ : ∀ x v, ρ x = some v → VR G v (a.eval x)) {Q : Exit → Act → World → Prop} {K : Act → World → Prop}
    (hK : ∀ G2 W2 w, G.le G2 → RelH F G2 S1.next (joined hp S S1) W2.heap → Same W W2 → nx ≤ S1.next →
      (∀ k, hp k = none → k < nx → fr ≠ some k → (G2.loc k = G.loc k ∧ G2.ml k = G.ml k) ∧ joined hp S S1 k = none) → (∀ i, G2.pr i = G.pr i) → VR G2 v w → K (a.put o.dst w) W2) :
    wpOp P ops Q i K a W := by
  have none_of : ∀ k, G.loc k = none → G.ml k = none → hp k = none := by
    intro k h1 h2
    cases hk : hp k with
    | none => rfl
    | some b =>
      obtain ⟨j, hj⟩ := (R.blk k b hk).next
      rcases hj with ⟨L, hL, _⟩ | hj
      · rw [h1] at hL; cases hL
      · rw [h2] at hj; cases hj
  have hfrn : ∀ k, fr = some k → hp k = none := fun k hk => none_of k (hfr k hk).2.1 (hfr k hk).2.2
  have hf : FrOK fr G S := fun k hk => ⟨by rw [hn]; exact (hfr k hk).1, (hfr k hk).2⟩
  have R' : Rel (framed F G hp S W.heap) G S W.heap := by
    have := R.frame hsub
    rw [← hn] at this
    exact this
  have fin : ∀ G2 W2 w, Sim (framed F G hp S W.heap) fr G S W G2 S1 W2 → VR G2 v w → K (a.put o.dst w) W2 := by
    intro G2 W2 w hs hv
    refine hK G2 W2 w hs.le (R.unframe hn hfrn hs) hs.same (by rw [← hn]; exact hs.next) (fun k h1 h2 h3 => ?_) hs.prs hv
    have hk0 : S.heap.get k = none := by
      cases hk : S.heap.get k with
      | none => rfl
      | some b => rw [hsub k b hk] at h1; cases h1
    refine ⟨hs.keep k hk0 (by rw [hn]; exact h2) h3, ?_⟩
    unfold joined
    rw [if_neg (by rintro ⟨_, b, hb⟩; rw [h1] at hb; cases hb)]
    exact hs.dead k hk0 (by rw [hn]; exact h2) h3
  unfold wpOp
  simp only [ho, hw, if_true]
  refine .inl ?_
  unfold Oper.wp
  unfold runOp at h
  split at h
  · cases h
  · rename_i v' S' hv
    cases h
    obtain ⟨W', G', w, w1, w2, w3⟩ := eval_sound hv R' hf hρ
    rw [w1, Oper.upon_value]
    exact fin G' W' w w2 w3
  · rename_i S' hv
    cases h
    obtain ⟨W', G', w1, w2⟩ := eval_sound hv R' hf hρ
    rw [w1, Oper.upon_skip]
    exact fin G' W' undef w2 (undef_VR G')
  · rename_i f args hv
    obtain ⟨cs, w1, w2⟩ := eval_sound hv R' hf hρ
    rw [w2, hc.enters h, Oper.upon_enter]
    refine (hc.calls h R' w1).mono ?_
    rintro e W' ⟨G', w, rfl, q1, q2⟩
    exact fin G' W' w q1.weaken q2

/-- A step that is said to be possible leads somewhere. -/
theorem wpOp_exists {P : Program} {ops : Array Oper} {i : Nat} {o : Oper} (ho : ops[i]? = some o) {K : Act → World → Prop} {a : Act} {w : World} (h : wpOp P ops (fun _ _ _ => False) i K a w) :
    ∃ a' w', K a' w' := by
  unfold wpOp at h
  simp only [ho] at h
  split at h
  · rcases h with h | ⟨_, _, _, h⟩
    · unfold Oper.wp at h
      generalize (execOp a.eval o).run P w = r at h
      cases r with
      | ok n w' =>
        cases n <;> simp only [Oper.upon] at h <;> try exact h.elim
        case value u => exact ⟨_, _, h⟩
        case skip => exact ⟨_, _, h⟩
        case defer d => exact ⟨_, _, h⟩
        case enter f args =>
          obtain ⟨e, w2, fr, h1, _⟩ := h []
          cases e with
          | returned u => exact ⟨_, _, h1⟩
          | panicked c => exact h1.elim
          | outgrown => obtain ⟨_, _, h⟩ := h1; exact h.elim
        case row row args =>
          obtain ⟨u, w2, h1, _⟩ := h default []
          exact ⟨_, _, h1⟩
      | halt x w' => cases x <;> simp only [Oper.upon] at h <;> exact h.elim
    · exact h.elim
  · exact ⟨_, _, h⟩
theorem step_exists {P : Program} {call : Call} (hc : CallOK P call) {n : Nat} {ops : Array Oper} {i : Nat} {o : Oper} (ho : ops[i]? = some o) {fr : Option Nat} {e e' : Env} {S S' : St}
    (h : stepOp P call n ops o fr e S = .ok (e', S')) {F : Nat → Option Obj} {G : Gh} {W : World} (R : Rel F G S W.heap) (hf : FrOK fr G S) {tmps : Array Value} (he : EnvR G n e tmps) (hn : n < lim) :
    ∃ G' W' tmps', Sim F fr G S W G' S' W' ∧ EnvR G' n e' tmps' := by
  obtain ⟨a', W', G', h1, h2⟩ := wpOp_exists (P := P) ho (step_sound hc ho h R hf (a := ⟨tmps, []⟩) he hn (Q := fun _ _ _ => False)
    (K := fun a' W' => ∃ G', Sim F fr G S W G' S' W' ∧ EnvR G' n e' a'.tmps) (fun G' W' a' q1 q2 _ => ⟨G', q1, q2⟩))
  exact ⟨G', W', a'.tmps, h1, h2⟩
end Go.AM
