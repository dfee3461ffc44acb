/-
  Steps of a region in the order of the text.
-/
import Derived.Test.YtcdegmbabbgiaaaAmEval
namespace Go.AM

def EnvR (G : Gh) (n : Nat) (e : Env) (tmps : Array Value) : Prop :=
  tmps.size = n ∧ ∀ t v, e.get t = some v → ∃ w, tmps[t]? = some w ∧ VR G v w
theorem EnvR.mono {G G' : Gh} (hg : G.le G') {n : Nat} {e : Env} {tmps : Array Value} (h : EnvR G n e tmps) : EnvR G' n e tmps :=
  ⟨h.1, fun t v ht => let ⟨w, a, b⟩ := h.2 t v ht; ⟨w, a, b.mono hg⟩⟩
theorem ev_sound {G : Gh} {n : Nat} {e : Env} {a : Act} (h : EnvR G n e a.tmps) : ∀ x v, ev e x = some v → VR G v (a.eval x) := by
  intro x v hx
  cases x with
  | tmp t =>
    obtain ⟨w, w1, w2⟩ := h.2 t v hx
    simp only [Act.eval]
    rw [show a.tmps.getD t undef = w by simp [w1]]
    exact w2
  | const c => exact ofValue_VR G hx
  | global g => cases hx
  | func f => cases hx; exact .func f [] [] #[] #[] .nil .nil
theorem undef_VR (G : Gh) : VR G (.tup []) undef := .tup [] #[] .nil
theorem put_sound {G : Gh} {n : Nat} {e e' : Env} {a : Act} {d : Option Tmp} {v : V} {w : Value} (hn : n < lim) (h : EnvR G n e a.tmps) (hp : putDst n e d v = .ok e') (hv : VR G v w) :
    EnvR G n e' (a.put d w).tmps ∧ (a.put d w).defers = a.defers := by
  unfold putDst at hp
  split at hp
  · cases hp; exact ⟨h, rfl⟩
  · rename_i d
    rw [cond_eq_ite] at hp
    split at hp
    · rename_i hd
      have hd' : d < n := by simpa using hd
      cases hp
      refine ⟨⟨by simp [Act.put, h.1], fun t u ht => ?_⟩, rfl⟩
      rw [Tr.get_put _ _ _ _ (Nat.lt_trans hd' hn)] at ht
      have hs : d < a.tmps.size := by rw [h.1]; exact hd'
      by_cases htd : t = d
      · subst htd
        simp at ht; subst ht
        exact ⟨w, by simp [Act.put, hs], hv⟩
      · rw [if_neg htd] at ht
        obtain ⟨w', w1, w2⟩ := h.2 t u ht
        exact ⟨w', by simp only [Act.put]; rw [Array.getElem?_setIfInBounds_ne (Ne.symm htd)]; exact w1, w2⟩
    · cases hp
theorem wanted_sound {G : Gh} {n : Nat} {ops : Array Oper} {o : Oper} {e : Env} {a : Act} {b : Bool} (h : wanted ops o e = .ok b) (he : EnvR G n e a.tmps) :
    Region.wanted o (yielded ops a.tmps) = b := by
  unfold wanted at h
  unfold Region.wanted
  split at h
  · rename_i hg; cases h; simp [hg]
  · rename_i j want hg
    simp only [hg]
    unfold yielded
    split at h
    · rename_i hj; cases h; simp [hj]
    · rename_i oj hj
      split at h
      · rename_i hd; cases h; simp [hj, hd]
      · rename_i d hd
        split at h
        · rename_i b' hb
          cases h
          obtain ⟨w, w1, w2⟩ := he.2 d _ hb
          cases w2
          simp only [hj, hd, Option.bind_some, w1]
          cases b' <;> cases want <;> rfl
        · rename_i v hne hb
          cases h
          obtain ⟨w, w1, w2⟩ := he.2 d _ hb
          simp only [hj, hd, Option.bind_some, w1]
          cases w2 <;> first | rfl | (exact absurd rfl (hne _))
        · cases h

/-- What is asked of the machine's calls. -/
structure CallOK (P : Program) (call : Call) : Prop where
  enters : ∀ {f args S r}, call f args S = .ok r → ∀ (cs : Array Value) (W : World), (callFunc f cs).run P W = .ok (.enter f cs) W
  calls : ∀ {f args S v S'}, call f args S = .ok (v, S') → ∀ {F : Nat → Option Obj} {G : Gh} {W : World} {cs : List Value}, Rel F G S W.heap → VRs G args cs →
    Calls P f cs.toArray W fun e W' => ∃ G' w, e = .returned w ∧ Sim F none G S W G' S' W' ∧ VR G' v w

theorem Sim.weaken {F : Nat → Option Obj} {fr : Option Nat} {G G' : Gh} {S S' : St} {W W' : World} (h : Sim F none G S W G' S' W') : Sim F fr G S W G' S' W' :=
  ⟨h.le, h.rel, h.same, h.next, fun a h1 h2 _ => h.keep a h1 h2 (by simp), fun a h1 h2 _ => h.dead a h1 h2 (by simp), h.prs⟩
theorem Sim.trans {F : Nat → Option Obj} {G G1 G2 : Gh} {S S1 S2 : St} {W W1 W2 : World} (h : Sim F none G S W G1 S1 W1) (k : Sim F none G1 S1 W1 G2 S2 W2) : Sim F none G S W G2 S2 W2 := by
  refine ⟨Gh.le_trans h.le k.le, k.rel, h.same.trans k.same, Nat.le_trans h.next k.next, fun a h1 h2 h3 => ?_, fun a h1 h2 h3 => ?_, fun i => (k.prs i).trans (h.prs i)⟩
  · obtain ⟨q1, q2⟩ := h.keep a h1 h2 h3
    obtain ⟨r1, r2⟩ := k.keep a (h.dead a h1 h2 h3) (Nat.lt_of_lt_of_le h2 h.next) h3
    exact ⟨r1.trans q1, r2.trans q2⟩
  · exact k.dead a (h.dead a h1 h2 h3) (Nat.lt_of_lt_of_le h2 h.next) h3

theorem step_sound {P : Program} {call : Call} (hc : CallOK P call) {n : Nat} {ops : Array Oper} {i : Nat} {o : Oper} (ho : ops[i]? = some o) {fr : Option Nat} {e e' : Env} {S S' : St}
    (h : stepOp P call n ops o fr e S = .ok (e', S')) {F : Nat → Option Obj} {G : Gh} {W : World} (R : Rel F G S W.heap) (hf : FrOK fr G S) {a : Act} (he : EnvR G n e a.tmps) (hn : n < lim)
    {Q : Exit → Act → World → Prop} {K : Act → World → Prop} (hK : ∀ G' W' a', Sim F fr G S W G' S' W' → EnvR G' n e' a'.tmps → a'.defers = a.defers → K a' W') :
    wpOp P ops Q i K a W := by
  unfold wpOp
  simp only [ho]
  unfold stepOp at h
  split at h
  · cases h
  · rename_i hw
    rw [wanted_sound hw he]
    simp only [Bool.false_eq_true, if_false]
    split at h
    · rename_i e1 hp
      cases h
      obtain ⟨p1, p2⟩ := put_sound hn he hp (undef_VR G)
      exact hK G W _ (Sim.refl R) p1 p2
    · cases h
  · rename_i hw
    rw [wanted_sound hw he]
    simp only [if_true]
    refine .inl ?_
    unfold Oper.wp
    split at h
    · cases h
    · rename_i v S1 hv
      have := eval_sound hv R hf (ev_sound he)
      obtain ⟨W', G', w, w1, w2, w3⟩ := this
      split at h
      · rename_i e1 hp
        cases h
        rw [w1, Oper.upon_value]
        obtain ⟨p1, p2⟩ := put_sound hn (he.mono w2.le) hp w3
        exact hK G' W' _ w2 p1 p2
      · cases h
    · rename_i S1 hv
      have := eval_sound hv R hf (ev_sound he)
      obtain ⟨W', G', w1, w2⟩ := this
      split at h
      · rename_i e1 hp
        cases h
        rw [w1, Oper.upon_skip]
        obtain ⟨p1, p2⟩ := put_sound hn (he.mono w2.le) hp (undef_VR G')
        exact hK G' W' _ w2 p1 p2
      · cases h
    · rename_i f args hv
      have := eval_sound hv R hf (ev_sound he)
      obtain ⟨cs, w1, w2⟩ := this
      split at h
      · cases h
      · rename_i v S1 hcall
        split at h
        · rename_i e1 hp
          cases h
          rw [w2, hc.enters hcall, Oper.upon_enter]
          refine (hc.calls hcall R w1).mono ?_
          rintro e W' ⟨G', w, rfl, q1, q2⟩
          obtain ⟨p1, p2⟩ := put_sound hn (he.mono q1.le) hp q2
          exact hK G' W' _ q1.weaken p1 p2
        · cases h

/-- Operations in the order of the text. -/
theorem runOps_sound {P : Program} {call : Call} (hc : CallOK P call) {n : Nat} {ops : Array Oper} (hn : n < lim) {F : Nat → Option Obj} {Q : Exit → Act → World → Prop} :
    ∀ (l : List Oper) (k : Nat) (_ : ops.toList.drop k = l) {e e' : Env} {S S' : St} (_ : runOps P call n ops l e S = .ok (e', S')) {G : Gh} {W : World} (_ : Rel F G S W.heap) {a : Act}
      (_ : EnvR G n e a.tmps) (_ : ∀ G' W' a', Sim F none G S W G' S' W' → EnvR G' n e' a'.tmps → a'.defers = a.defers → Q .normal a' W'),
      wpOps P ops Q (List.range' k l.length) a W
  | [], k, _, e, e', S, S', h, G, W, R, a, he, hQ => by
    simp [runOps] at h
    obtain ⟨rfl, rfl⟩ := h
    simp only [List.length_nil, List.range'_zero, wpOps]
    exact hQ G W a (Sim.refl R) he rfl
  | o :: l, k, hl, e, e', S, S', h, G, W, R, a, he, hQ => by
    simp only [runOps] at h
    split at h
    · rename_i e1 S1 hs
      have ho : ops[k]? = some o := by
        have : (ops.toList.drop k)[0]? = some o := by rw [hl]; rfl
        rw [List.getElem?_drop] at this
        simpa using this
      have hl' : ops.toList.drop (k + 1) = l := by
        rw [← List.drop_drop, hl]; rfl
      simp only [List.length_cons, List.range'_succ]
      rw [wpOps_cons]
      refine step_sound hc ho hs R (by intro k hk; cases hk) he hn fun G' W' a' q1 q2 q3 => ?_
      refine runOps_sound hc hn l (k + 1) hl' h q1.rel q2 fun G2 W2 a2 r1 r2 r3 => ?_
      exact hQ G2 W2 a2 (q1.trans r1) r2 (r3.trans q3)
    · cases h
end Go.AM
