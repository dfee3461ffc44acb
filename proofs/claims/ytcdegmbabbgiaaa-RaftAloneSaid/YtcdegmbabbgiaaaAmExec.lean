/-
  The machine is sound: code.
-/
import Derived.Test.YtcdegmbabbgiaaaAmSound
set_option linter.unusedSimpArgs false
namespace Go.AM
section
variable {P : Program} {call : Call} {n : Nat}

def Ex.to : Ex → Exit
  | .normal => .normal
  | .exit id => .exit id
  | .ret => .ret

theorem hpF_none {base : Nat} {E : Nat → Bool} (hE : ∀ j, E j = false) {a : Nat} : ∀ (l : List Frm) (acc : Option Blk), hpF P base E a l acc = acc
  | [], _ => rfl
  | f :: l, acc => by simp only [hpF, hE]; simp; exact hpF_none hE l acc

theorem draw_sound (hc : CallOK P call) (hm : P.follows .mixedOrders = true) (hn : n < lim) {ops : Array Oper} {steps : List Step} (hp : planOK P ops steps = true) {F : Nat → Option Obj} {e e' : Env} {S S' : St}
    (h : draw P call n ops steps e S = .ok (e', S')) {G : Gh} {W : World} (R : Rel F G S W.heap) {a : Act} (he : EnvR G n e a.tmps) {id : Nat}
    {Q : Exit → Act → World → Prop} (hQ : ∀ G' W' a', Sim F none G S W G' S' W' → EnvR G' n e' a'.tmps → a'.defers = a.defers → Q .normal a' W') :
    (Code.region id ops true).wp P Q a W := by
  obtain ⟨fs, hD⟩ := drawGo_DR h
  obtain ⟨hup, _, _, hst⟩ := hD.upto hn
  simp only [planOK, Bool.and_eq_true, List.all_eq_true, List.any_eq_true] at hp
  obtain ⟨hp1, hp2⟩ := hp
  have hops : ∀ f ∈ fs, ops[f.i]? = some f.o := by
    intro f hf
    obtain ⟨l1, l2, h12⟩ := List.append_of_mem hf
    exact (hup l1 f l2 h12).1
  have hall : ∀ j, j < ops.size → ∃ f ∈ fs, f.i = j := by
    intro j hj
    obtain ⟨s, hs, hsj⟩ := hp1 j (List.mem_range.2 hj)
    rw [hst] at hs
    obtain ⟨f, hf, rfl⟩ := List.mem_map.1 hs
    exact ⟨f, hf, by simpa using hsj⟩
  have hpf : PlanF P ops (Region.before ops) fs := planF_of hops hall (by rw [← hst]; exact hp2)
  have hE : ∀ j, (Array.replicate ops.size false).getD j false = false := by
    intro j
    simp only [Array.getD_eq_getD_getElem?, Array.getElem?_replicate]
    split <;> rfl
  refine wp_region_any hm ?_
  refine draw_any hc hn R he hD hpf (ds := a.defers) hQ ops.size (Array.replicate ops.size false) a W.drew G (by simp) ?_ ?_ ?_
  · have hnx : nxF P (fun j => (Array.replicate ops.size false).getD j false) fs (S.next + ops.size) = S.next + ops.size := nxF_none (fun f _ _ => hE _) _
    have hhp : (fun x => hpF P S.next (fun j => (Array.replicate ops.size false).getD j false) x fs (S.heap.get x)) = S.heap.get := funext fun x => hpF_none hE fs _
    refine ⟨G.le_refl, ?_, Same.drew W, fun f _ _ => R.fresh _ (by omega), he.1, fun t v ht => ?_, rfl, fun _ _ _ => ⟨rfl, rfl⟩, fun _ => rfl, ?_, fun k _ hk => ?_⟩
    · rw [hnx, hhp]
      exact ⟨fun x hx => R.fresh x (by omega), R.sep, R.blk, R.inj, R.fr, R.pr, R.own, R.lt, R.small⟩
    · rw [svF_none (fun f _ _ => hE _)] at ht
      exact he.2 t v ht
    · rw [hnx]; omega
    · rw [hpF_none hE]; exact hk
  · intro f _ hf
    rw [hE] at hf; cases hf
  · exact Nat.le_trans (List.length_filter_le _ _) (by simp)

theorem exec_sound (hc : CallOK P call) (hm : P.follows .mixedOrders = true) (hn : n < lim) {pl : Nat → Option (List Step)} {k : Nat} {F : Nat → Option Obj} :
    ∀ (c : Code) (_ : codeOK P pl c = true) {e e' : Env} {S S' : St} {x : Ex} (_ : exec P pl call k n c e S = .ok (x, e', S')) {G : Gh} {W : World} (_ : Rel F G S W.heap) {a : Act} (_ : EnvR G n e a.tmps)
      {Q : Exit → Act → World → Prop} (_ : ∀ G' W' a', Sim F none G S W G' S' W' → EnvR G' n e' a'.tmps → a'.defers = a.defers → Q x.to a' W'), c.wp P Q a W := by
  intro c
  induction c with
  | skip =>
    intro _ e e' S S' x h G W R a he Q hQ
    simp [exec] at h
    obtain ⟨rfl, rfl, rfl⟩ := h
    exact wp_skip (hQ G W a (Sim.refl R) he rfl)
  | label l =>
    intro _ e e' S S' x h G W R a he Q hQ
    simp [exec] at h
    obtain ⟨rfl, rfl, rfl⟩ := h
    exact wp_label (hQ G W a (Sim.refl R) he rfl)
  | exit id =>
    intro _ e e' S S' x h G W R a he Q hQ
    simp [exec] at h
    obtain ⟨rfl, rfl, rfl⟩ := h
    exact wp_exit (hQ G W a (Sim.refl R) he rfl)
  | ret =>
    intro _ e e' S S' x h G W R a he Q hQ
    simp [exec] at h
    obtain ⟨rfl, rfl, rfl⟩ := h
    exact wp_ret (hQ G W a (Sim.refl R) he rfl)
  | region id ops d =>
    intro hk e e' S S' x h G W R a he Q hQ
    simp only [exec] at h
    split at h
    · rename_i e1 S1 h1
      cases h
      cases d
      · simp only [cond_false] at h1
        refine wp_region ?_
        rw [List.range_eq_range', ← Array.length_toList]
        exact runOps_sound hc hn ops.toList 0 rfl h1 R he hQ
      · simp only [cond_true] at h1
        simp only [codeOK, Bool.not_true, Bool.false_or] at hk
        exact draw_sound hc hm hn hk h1 R he hQ
    · cases h
  | seq c1 c2 ih1 ih2 =>
    intro hk e e' S S' x h G W R a he Q hQ
    simp only [codeOK, Bool.and_eq_true] at hk
    simp only [exec] at h
    refine wp_seq ?_
    cases hx : exec P pl call k n c1 e S with
    | error w => rw [hx] at h; cases h
    | ok r =>
      obtain ⟨y, e1, S1⟩ := r
      rw [hx] at h
      refine ih1 hk.1 hx R he fun G1 W1 a1 q1 q2 q3 => ?_
      cases y with
      | normal =>
        refine ih2 hk.2 h q1.rel q2 fun G2 W2 a2 r1 r2 r3 => ?_
        exact hQ G2 W2 a2 (q1.trans r1) r2 (r3.trans q3)
      | exit id => cases h; exact hQ G1 W1 a1 q1 q2 q3
      | ret => cases h; exact hQ G1 W1 a1 q1 q2 q3
  | cond c c1 c2 ih1 ih2 =>
    intro hk e e' S S' x h G W R a he Q hQ
    simp only [codeOK, Bool.and_eq_true] at hk
    simp only [exec] at h
    split at h
    · rename_i hev
      have hv := ev_sound he c _ hev
      have hv' : a.eval c = .bool true := by generalize a.eval c = w at hv; cases hv; rfl
      exact wp_cond_true hv' (ih1 hk.1 h R he hQ)
    · rename_i hev
      have hv := ev_sound he c _ hev
      have hv' : a.eval c = .bool false := by generalize a.eval c = w at hv; cases hv; rfl
      exact wp_cond_false hv' (ih2 hk.2 h R he hQ)
    · cases h
  | block id c ih =>
    intro hk e e' S S' x h G W R a he Q hQ
    simp only [codeOK] at hk
    simp only [exec] at h
    refine wp_block ?_
    cases hx : exec P pl call k n c e S with
    | error w => rw [hx] at h; cases h
    | ok r =>
      obtain ⟨y, e1, S1⟩ := r
      rw [hx] at h
      refine ih hk hx R he fun G1 W1 a1 q1 q2 q3 => ?_
      cases y with
      | normal => cases h; exact hQ G1 W1 a1 q1 q2 q3
      | exit id' =>
        simp only [cond_eq_ite] at h
        show Exit.inBlock id Q (.exit id') a1 W1
        simp only [Exit.inBlock]
        by_cases hi : id' = id
        · subst hi
          simp at h
          obtain ⟨rfl, rfl, rfl⟩ := h
          simp only [if_true]
          exact hQ G1 W1 a1 q1 q2 q3
        · have : Nat.beq id' id = false := by
            cases hb : Nat.beq id' id with
            | false => rfl
            | true => exact absurd (Nat.eq_of_beq_eq_true hb) hi
          rw [this] at h
          cases h
          simp only [hi, if_false]
          exact hQ G1 W1 a1 q1 q2 q3
      | ret => cases h; exact hQ G1 W1 a1 q1 q2 q3
  | loop c ih =>
    intro hk e e' S S' x h G W R a he Q hQ
    simp only [codeOK] at hk
    simp only [exec] at h
    refine wp_loop_rounds k ?_
    have key : ∀ (m : Nat) {e : Env} {S : St} (_ : iter (exec P pl call k n c) m e S = .ok (x, e', S')) {G : Gh} {W : World} (_ : Rel F G S W.heap) {a : Act} (_ : EnvR G n e a.tmps)
        (_ : ∀ G' W' a', Sim F none G S W G' S' W' → EnvR G' n e' a'.tmps → a'.defers = a.defers → Q x.to a' W'), Code.rounds P c Q m a W := by
      intro m
      induction m with
      | zero => intro e S h; cases h
      | succ m ihm =>
        intro e S h G W R a he hQ
        simp only [iter] at h
        rw [rounds_succ]
        cases hx : exec P pl call k n c e S with
        | error w => rw [hx] at h; cases h
        | ok r =>
          obtain ⟨y, e1, S1⟩ := r
          rw [hx] at h
          refine ih hk hx R he fun G1 W1 a1 q1 q2 q3 => ?_
          cases y with
          | normal =>
            refine ihm h q1.rel q2 fun G2 W2 a2 r1 r2 r3 => ?_
            exact hQ G2 W2 a2 (q1.trans r1) r2 (r3.trans q3)
          | exit id' => cases h; exact hQ G1 W1 a1 q1 q2 q3
          | ret => cases h; exact hQ G1 W1 a1 q1 q2 q3
    exact key k h R he hQ
  | scope c _ => intro _ e e' S S' x h; cases h
  | rangeFunc f ps a b _ _ => intro _ e e' S S' x h; cases h
  | goto l => intro _ e e' S S' x h; cases h
  | refuse w => intro _ e e' S S' x h; cases h
end
end Go.AM
