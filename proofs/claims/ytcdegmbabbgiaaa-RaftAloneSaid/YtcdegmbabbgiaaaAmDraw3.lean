/-
  A region whose order is drawn: whatever is ready is taken.
-/
import Derived.Test.YtcdegmbabbgiaaaAmDraw2
set_option linter.unusedSimpArgs false
namespace Go.AM
section
variable {P : Program} {call : Call} {n : Nat} {ops : Array Oper}

/-- What holds when the operations of E are done. -/
structure Inv (P : Program) (n : Nat) (ops : Array Oper) (F : Nat → Option Obj) (G : Gh) (S : St) (W : World) (e : Env) (fs : List Frm) (ds : List Deferred) (E : Nat → Bool) (a : Act) (W' : World) (G' : Gh) : Prop where
  le : G.le G'
  rel : RelH F G' (nxF P E fs (S.next + ops.size)) (fun x => hpF P S.next E x fs (S.heap.get x)) W'.heap
  same : Same W W'
  res : ∀ f ∈ fs, E f.i = false → G'.loc (S.next + f.i) = none ∧ G'.ml (S.next + f.i) = none
  size : a.tmps.size = n
  env : ∀ t v, svF E t fs (e.get t) = some v → ∃ w, a.tmps[t]? = some w ∧ VR G' v w
  defers : a.defers = ds
  keep : ∀ k, k < S.next → S.heap.get k = none → G'.loc k = G.loc k ∧ G'.ml k = G.ml k
  prs : ∀ i, G'.pr i = G.pr i
  big : S.next + ops.size ≤ nxF P E fs (S.next + ops.size)
  dead : ∀ k, k < S.next → S.heap.get k = none → hpF P S.next E k fs (S.heap.get k) = none

set_option maxHeartbeats 2000000 in
theorem inv_step (hc : CallOK P call) (hn : n < lim) {F : Nat → Option Obj} {G : Gh} {S : St} {W : World} {e : Env} {tmps0 : Array Value} (R0 : Rel F G S W.heap) (he0 : EnvR G n e tmps0)
    {steps : List Step} {e' : Env} {S' : St} {fs : List Frm} (hD : DR P call n ops S.next steps [] e ⟨S.next + ops.size, S.heap⟩ fs e' S') {b : Array Nat} (hp : PlanF P ops b fs) {ds : List Deferred}
    {E : Nat → Bool} {a : Act} {W' : World} {G' : Gh} (I : Inv P n ops F G S W e fs ds E a W' G') (_hE : ∀ j, E j = true → j < ops.size)
    (hdown : ∀ f ∈ fs, E f.i = true → ∀ j, j < ops.size → bitB (b.getD f.i 0) j = true → E j = true)
    {i : Nat} {o : Oper} (ho : ops[i]? = some o) (hi : E i = false) (hready : ∀ x ∈ o.after, Region.binds .any x = true → E x.on = true)
    {Q : Exit → Act → World → Prop} {K : Act → World → Prop} (hK : ∀ a2 W2 G2, Inv P n ops F G S W e fs ds (fun j => if j = i then true else E j) a2 W2 G2 → K a2 W2) :
    wpOp P ops Q i K a W' ∧ ∀ j, j < ops.size → bitB (b.getD i 0) j = true → E j = true := by
  obtain ⟨hup, _, _, _⟩ := hD.upto hn
  have hisz : i < ops.size := (Array.getElem?_eq_some_iff.1 ho).1
  obtain ⟨f, hf, hfi⟩ := hp.all i hisz
  obtain ⟨pre, post, hs⟩ := List.append_of_mem hf
  subst hfi
  obtain ⟨u1, u2, u3, u4, u5⟩ := hup pre f post hs
  rw [ho] at u1; cases u1
  have hfsz : ∀ g ∈ fs, g.i < ops.size := by
    intro g hg
    obtain ⟨l1, l2, h12⟩ := List.append_of_mem hg
    exact (Array.getElem?_eq_some_iff.1 (hup l1 g l2 h12).1).1
  have hlt : ∀ g ∈ fs, S.next + g.i < S.next + ops.size := fun g hg => by have := hfsz g hg; omega
  have hfresh : ∀ k, S.next ≤ k → G.loc k = none ∧ G.ml k = none := R0.fresh
  have R0' : Rel F G ⟨S.next + ops.size, S.heap⟩ W.heap :=
    ⟨fun x hx => R0.fresh x (by have : S.next + ops.size ≤ x := hx; omega), R0.sep, R0.blk, R0.inj, R0.fr, R0.pr, R0.own, R0.lt, R0.small⟩
  obtain ⟨hres, _, _⟩ := hD.reserved hc hn R0' he0 hp.nodup (fun g hg => ⟨hlt g hg, (hfresh _ (by omega)).1, (hfresh _ (by omega)).2⟩)
  -- whoever must be ahead is done
  have hanc : ∀ j, j < ops.size → bitB (b.getD f.i 0) j = true → E j = true := by
    intro j hj hb
    obtain ⟨x, hx, hbx, hor⟩ := hp.anc pre f post hs j hj hb
    have hEx := hready x hx hbx
    rcases hor with rfl | hor
    · exact hEx
    · obtain ⟨g, hg, hge⟩ := hp.edge pre f post hs x hx hbx
      have hgf : g ∈ fs := by rw [hs]; exact List.mem_append_left _ hg
      exact hdown g hgf (by rw [hge]; exact hEx) j hj (by rw [hge]; exact hor)
  refine ⟨?_, hanc⟩
  have hnd := hp.nodup
  have hpre_ne : ∀ g ∈ pre, g.i ≠ f.i := by
    intro g hg e0
    rw [hs] at hnd
    simp only [List.map_append, List.map_cons] at hnd
    exact (List.nodup_append.1 hnd).2.2 g.i (List.mem_map.2 ⟨g, hg, rfl⟩) f.i (by simp) e0
  have hpost_ne : ∀ g ∈ post, g.i ≠ f.i := by
    intro g hg e0
    rw [hs] at hnd
    simp only [List.map_append, List.map_cons] at hnd
    have := (List.nodup_append.1 hnd).2.1
    exact (List.nodup_cons.1 this).1 (List.mem_map.2 ⟨g, hg, e0⟩)
  -- those behind it in the plan
  have hpost : ∀ g ∈ post, E g.i = true → ∃ p1 p2, post = p1 ++ g :: p2 ∧ fs = (pre ++ f :: p1) ++ g :: p2 ∧
      apartB ops g.o f.o = true ∧ ¬ (cls P f.o.op = 3 ∧ cls P g.o.op = 3) ∧ ¬ (cls P f.o.op = 2 ∧ cls P g.o.op = 3) ∧ (cls P f.o.op = 1 → cls P g.o.op = 3 → f.i ∈ g.re) := by
    intro g hg hEg
    obtain ⟨p1, p2, rfl⟩ := List.append_of_mem hg
    have hsg : fs = (pre ++ f :: p1) ++ g :: p2 := by rw [hs]; simp
    refine ⟨p1, p2, rfl, hsg, ?_⟩
    rcases hp.pair _ g p2 hsg f (by simp) with h1 | ⟨h1, h2, h3, _, _, h6⟩
    · have := hdown g (by rw [hs]; simp) hEg f.i hisz h1
      rw [hi] at this; cases this
    · exact ⟨h1, h2, h3, h6⟩
  -- slots
  have hpre_w : ∀ t ∈ f.o.looksAt ops, ∀ g ∈ pre, g.o.dst = some t → E g.i = true := by
    intro t ht g hg hd
    rcases hp.pair pre f post hs g hg with h1 | ⟨h1, _⟩
    · exact hanc g.i (hfsz g (by rw [hs]; exact List.mem_append_left _ hg)) h1
    · exact absurd ht ((apartB_spec h1).2.2 t hd)
  have hpost_w : ∀ t ∈ f.o.looksAt ops, ∀ g ∈ post, g.o.dst = some t → E g.i = false := by
    intro t ht g hg hd
    cases hEg : E g.i with
    | false => rfl
    | true =>
      obtain ⟨_, _, _, _, h1, _⟩ := hpost g hg hEg
      exact absurd ht ((apartB_spec h1).1 t hd)
  have hslot : ∀ t ∈ f.o.looksAt ops, svF E t fs (e.get t) = f.e.get t := by
    intro t ht
    rw [hs, svF_append]
    simp only [svF, hi, Bool.false_eq_true, false_and, if_false]
    rw [svF_none (hpost_w t ht), svF_congr (E' := fun _ => true) (fun g hg hd => hpre_w t ht g hg hd)]
    exact u4 t
  have henv : ∀ t ∈ f.o.looksAt ops, ∀ v, f.e.get t = some v → ∃ w, a.tmps[t]? = some w ∧ VR G' v w := fun t ht v hv => I.env t v (by rw [hslot t ht]; exact hv)
  -- the new set
  let E' : Nat → Bool := fun j => if j = f.i then true else E j
  have hE'f : E' f.i = true := by simp [E']
  have hE'ne : ∀ g : Frm, g.i ≠ f.i → E' g.i = E g.i := fun g hg => by simp [E', hg]
  have hEpre : ∀ x acc, hpF P S.next E' x pre acc = hpF P S.next E x pre acc := fun x acc => hpF_congr (fun g hg _ => hE'ne g (hpre_ne g hg)) acc
  have hEpost : ∀ x acc, hpF P S.next E' x post acc = hpF P S.next E x post acc := fun x acc => hpF_congr (fun g hg _ => hE'ne g (hpost_ne g hg)) acc
  have hhp' : ∀ x, hpF P S.next E' x fs (S.heap.get x) =
      hpF P S.next E x post (if cls P f.o.op = 3 ∨ (cls P f.o.op = 2 ∧ x = S.next + f.i) then f.S1.heap.get x else hpF P S.next E x pre (S.heap.get x)) := by
    intro x
    rw [hs, hpF_append]
    simp only [hpF, hE'f, true_and]
    rw [hEpost, hEpre]
  have hhp : ∀ x, hpF P S.next E x fs (S.heap.get x) = hpF P S.next E x post (hpF P S.next E x pre (S.heap.get x)) := by
    intro x
    rw [hs, hpF_append]
    simp only [hpF, hi, Bool.false_eq_true, false_and, if_false]
  have hnx' : nxF P E' fs (S.next + ops.size) = nxF P E post (if cls P f.o.op = 3 then f.S1.next else nxF P E pre (S.next + ops.size)) := by
    rw [hs, nxF_append]
    simp only [nxF, hE'f, true_and]
    rw [nxF_congr (E := E') (E' := E) (fun g hg _ => hE'ne g (hpost_ne g hg)), nxF_congr (E := E') (E' := E) (fun g hg _ => hE'ne g (hpre_ne g hg))]
  have hnx : nxF P E fs (S.next + ops.size) = nxF P E post (nxF P E pre (S.next + ops.size)) := by
    rw [hs, nxF_append]
    simp only [nxF, hi, Bool.false_eq_true, false_and, if_false]
  -- the new slots
  have hnewenv : ∀ (v : V) (w : Value) (G2 : Gh), G'.le G2 → putDst n f.e f.o.dst v = .ok f.e1 → VR G2 v w →
      (a.put f.o.dst w).tmps.size = n ∧ ∀ t u, svF E' t fs (e.get t) = some u → ∃ w', (a.put f.o.dst w).tmps[t]? = some w' ∧ VR G2 u w' := by
    intro v w G2 hle hput hv
    refine ⟨by cases hd : f.o.dst <;> simp [Act.put, I.size], fun t u hu => ?_⟩
    by_cases hd : f.o.dst = some t
    · have hpw : ∀ g ∈ post, g.o.dst = some t → E' g.i = false := by
        intro g hg hgd
        rw [hE'ne g (hpost_ne g hg)]
        cases hEg : E g.i with
        | false => rfl
        | true =>
          obtain ⟨_, _, _, _, h1, _⟩ := hpost g hg hEg
          exact absurd hd ((apartB_spec h1).2.1 t hgd)
      rw [hs, svF_append] at hu
      simp only [svF, hE'f, hd, true_and, if_true] at hu
      rw [svF_none hpw, put_get hn hput hd] at hu
      cases hu
      have htn : t < n := by
        unfold putDst at hput
        rw [hd] at hput
        simp only [cond_eq_ite] at hput
        split at hput
        · rename_i hq; simpa using hq
        · cases hput
      exact ⟨w, by simp only [Act.put, hd]; rw [Array.getElem?_setIfInBounds_self_of_lt (by rw [I.size]; exact htn)], hv⟩
    · have : svF E' t fs (e.get t) = svF E t fs (e.get t) := svF_congr (fun g hg hgd => hE'ne g (fun e0 => by
        have : g = f := by
          rw [hs] at hg
          rcases List.mem_append.1 hg with h1 | h1
          · exact absurd e0 (hpre_ne g h1)
          · rcases List.mem_cons.1 h1 with rfl | h1
            · rfl
            · exact absurd e0 (hpost_ne g h1)
        subst this
        exact hd hgd)) _
      rw [this] at hu
      obtain ⟨w', w1, w2⟩ := I.env t u hu
      refine ⟨w', ?_, w2.mono hle⟩
      cases hfd : f.o.dst with
      | none => simpa [Act.put, hfd] using w1
      | some d =>
        simp only [Act.put]
        rw [Array.getElem?_setIfInBounds_ne (fun e0 => hd (by rw [hfd, e0]))]
        exact w1
  have hdefers : ∀ w, (a.put f.o.dst w).defers = ds := by
    intro w
    cases hd : f.o.dst <;> simp [Act.put, I.defers]
  -- the numbers that are kept free
  have hres' : ∀ G2 : Gh, (∀ k, hpF P S.next E k fs (S.heap.get k) = none → k < nxF P E fs (S.next + ops.size) → some (S.next + f.i) ≠ some k → (G2.loc k = G'.loc k ∧ G2.ml k = G'.ml k)) →
      (∀ g ∈ fs, E' g.i = false → G2.loc (S.next + g.i) = none ∧ G2.ml (S.next + g.i) = none) ∧ (∀ k, k < S.next → S.heap.get k = none → G2.loc k = G.loc k ∧ G2.ml k = G.ml k) := by
    intro G2 hkeep
    have hge := I.big
    refine ⟨fun g hg hEg => ?_, fun k hk hk0 => ?_⟩
    · have hgf : g.i ≠ f.i := fun e0 => by rw [e0, hE'f] at hEg; cases hEg
      rw [hE'ne g hgf] at hEg
      obtain ⟨r1, r2⟩ := I.res g hg hEg
      have hnone : hpF P S.next E (S.next + g.i) fs (S.heap.get (S.next + g.i)) = none := by
        cases hq : hpF P S.next E (S.next + g.i) fs (S.heap.get (S.next + g.i)) with
        | none => rfl
        | some bl =>
          obtain ⟨j, hj⟩ := (I.rel.blk _ bl hq).next
          rcases hj with ⟨L, hL, _⟩ | hj
          · rw [r1] at hL; cases hL
          · rw [r2] at hj; cases hj
      obtain ⟨k1, k2⟩ := hkeep _ hnone (by have := hlt g hg; omega) (by intro e0; have := Option.some.inj e0; omega)
      exact ⟨k1.trans r1, k2.trans r2⟩
    · obtain ⟨k1, k2⟩ := hkeep k (I.dead k hk hk0) (by omega) (by intro e0; have := Option.some.inj e0; omega)
      obtain ⟨l1, l2⟩ := I.keep k hk hk0
      exact ⟨k1.trans l1, k2.trans l2⟩
  have hfree : hpF P S.next E (S.next + f.i) fs (S.heap.get (S.next + f.i)) = none := by
    obtain ⟨r1, r2⟩ := I.res f hf hi
    cases hq : hpF P S.next E (S.next + f.i) fs (S.heap.get (S.next + f.i)) with
    | none => rfl
    | some bl =>
      obtain ⟨j, hj⟩ := (I.rel.blk _ bl hq).next
      rcases hj with ⟨L, hL, _⟩ | hj
      · rw [r1] at hL; cases hL
      · rw [r2] at hj; cases hj
  -- a run in a part of the memory
  have finish : ∀ (v : V) (Sr S1r : St), putDst n f.e f.o.dst v = .ok f.e1 → wanted ops f.o f.e = .ok true → runOp P call (ev f.e) f.o (some (S.next + f.i)) Sr = .ok (v, S1r) →
      Sr.next = nxF P E fs (S.next + ops.size) → (∀ x bl, Sr.heap.get x = some bl → hpF P S.next E x fs (S.heap.get x) = some bl) → S1r.next = nxF P E' fs (S.next + ops.size) →
      (∀ x bl, hpF P S.next E' x fs (S.heap.get x) = some bl → joined (fun x => hpF P S.next E x fs (S.heap.get x)) Sr S1r x = some bl) → wpOp P ops Q f.i K a W' := by
    intro v Sr S1r hput hw hrun hn1 hsub hn2 hj
    obtain ⟨r1, r2⟩ := I.res f hf hi
    refine run_framed hc ho (ρ := only ops f.o f.e) (by rw [← runOp_congr (only_congr f.o f.e)]; exact hrun) I.rel hn1 hsub
      (fun k hk => by cases hk; exact ⟨Nat.lt_of_lt_of_le (hlt f hf) I.big, r1, r2⟩) (wanted_sound' hw henv) (only_sound henv) ?_
    intro G2 W2 w h1 h2 h3 h4 h5 h6 h7
    obtain ⟨e1, e2⟩ := hnewenv v w G2 h1 hput h7
    obtain ⟨q1, q2⟩ := hres' G2 (fun k hk1 hk2 hk3 => (h5 k hk1 hk2 hk3).1)
    rw [hn2] at h2 h4
    refine hK _ W2 G2 ⟨Gh.le_trans I.le h1, h2.drop hj, I.same.trans h3, q1, e1, e2, hdefers w, q2, fun i => (h6 i).trans (I.prs i), Nat.le_trans I.big h4, fun k hk hk0 => ?_⟩
    cases hq : hpF P S.next E' k fs (S.heap.get k) with
    | none => rfl
    | some bl =>
      have := (h5 k (I.dead k hk hk0) (by have := I.big; omega) (by intro e0; have := Option.some.inj e0; omega)).2
      rw [hj k bl hq] at this; cases this
  -- whoever changes memory ahead of it in the plan is done, if it does so too, or reads
  have hpre3 : cls P f.o.op = 3 ∨ cls P f.o.op = 1 → ∀ g ∈ pre, 2 ≤ cls P g.o.op → E g.i = true := by
    intro hcl g hg h2
    have hle := cls_le (P := P) g.o.op
    rcases hp.pair pre f post hs g hg with h1 | ⟨_, h3, h4, h5, h6, _⟩
    · exact hanc g.i (hfsz g (by rw [hs]; exact List.mem_append_left _ hg)) h1
    · omega
  have hpost3 : cls P f.o.op = 2 ∨ cls P f.o.op = 3 → ∀ g ∈ post, cls P g.o.op = 3 → E g.i = false := by
    intro hcl g hg h3
    cases hEg : E g.i with
    | false => rfl
    | true =>
      obtain ⟨_, _, _, _, _, h1, h2, _⟩ := hpost g hg hEg
      omega
  have hup3 : cls P f.o.op = 3 ∨ cls P f.o.op = 1 → (∀ x, hpF P S.next E x pre (S.heap.get x) = f.S.heap.get x) ∧ nxF P E pre (S.next + ops.size) = f.S.next := fun hcl => u5 E (hpre3 hcl)
  -- the memory at the plan's moment is part of the present one
  have hpart : (cls P f.o.op = 3 ∨ cls P f.o.op = 1) → (∀ g ∈ post, cls P g.o.op = 3 → E g.i = false) →
      f.S.next = nxF P E fs (S.next + ops.size) ∧ ∀ x bl, f.S.heap.get x = some bl → hpF P S.next E x fs (S.heap.get x) = some bl := by
    intro hcl hno
    obtain ⟨p1, p2⟩ := hup3 hcl
    refine ⟨by rw [hnx, p2, nxF_none hno], fun x bl hx => ?_⟩
    rw [hhp, p1, hx]
    rcases hpF_post (P := P) (base := S.next) (a := x) hno with ⟨⟨g, hg, _, _, h3⟩, _⟩ | ⟨_, h2⟩
    · have := (hres pre f post hs g (List.mem_cons_of_mem _ hg)).1
      rw [← h3, hx] at this; cases this
    · exact h2 _
  have hcle := cls_le (P := P) f.o.op
  rcases stepOp_cases u2 with ⟨hw, hput, hS⟩ | ⟨hw, v, hrun, hput⟩
  · -- it is passed by
    unfold wpOp
    simp only [ho]
    rw [wanted_sound' hw henv]
    simp only [Bool.false_eq_true, if_false]
    obtain ⟨e1, e2⟩ := hnewenv (.tup []) undef G' (Gh.le_refl _) hput (undef_VR G')
    obtain ⟨q1, q2⟩ := hres' G' (fun _ _ _ _ => ⟨rfl, rfl⟩)
    have hnxe : nxF P E' fs (S.next + ops.size) = nxF P E fs (S.next + ops.size) := by
      rw [hnx', hnx]
      split
      · rename_i h3; rw [(hup3 (.inl h3)).2, hS]
      · rfl
    have hsub : ∀ x bl, hpF P S.next E' x fs (S.heap.get x) = some bl → hpF P S.next E x fs (S.heap.get x) = some bl := by
      intro x bl hx
      rw [hhp'] at hx
      rw [hhp]
      split at hx
      · rename_i h3
        rcases h3 with h3 | ⟨h3, rfl⟩
        · rw [hS, ← (hup3 (.inl h3)).1] at hx; exact hx
        · have := (hres pre f post hs f (List.mem_cons_self ..)).1
          rw [hS, this] at hx
          exact hpF_ind hx _
      · exact hx
    refine hK _ W' G' ⟨I.le, ?_, I.same, q1, e1, e2, hdefers undef, q2, I.prs, by rw [hnxe]; exact I.big, fun k hk hk0 => ?_⟩
    · rw [hnxe]; exact I.rel.drop hsub
    · cases hq : hpF P S.next E' k fs (S.heap.get k) with
      | none => rfl
      | some bl => rw [← hsub k bl hq]; exact I.dead k hk hk0
  · have h4 : cls P f.o.op = 0 ∨ cls P f.o.op = 1 ∨ cls P f.o.op = 2 ∨ cls P f.o.op = 3 := by omega
    have hsame : cls P f.o.op ≤ 1 → (∀ x, hpF P S.next E' x fs (S.heap.get x) = hpF P S.next E x fs (S.heap.get x)) ∧ nxF P E' fs (S.next + ops.size) = nxF P E fs (S.next + ops.size) := by
      intro hcl
      refine ⟨fun x => ?_, ?_⟩
      · rw [hhp', hhp, if_neg (by omega)]
      · rw [hnx', hnx, if_neg (by omega)]
    rcases h4 with h0 | h1 | h2 | h3
    · -- it computes
      have hev : evalOp P (ev f.e) f.o (some (S.next + f.i)) f.S = .ok (.val v f.S) ∧ ∀ fr' S', evalOp P (ev f.e) f.o fr' S' = .ok (.val v S') := by
        unfold runOp at hrun
        cases he : evalOp P (ev f.e) f.o (some (S.next + f.i)) f.S with
        | error w => rw [he] at hrun; cases hrun
        | ok r =>
          rw [he] at hrun
          obtain ⟨v', h5, h6⟩ := cls0 h0 he
          subst h5
          obtain ⟨e1, e2⟩ := Prod.mk.inj (Except.ok.inj hrun)
          subst e1
          exact ⟨rfl, h6⟩
      obtain ⟨s1, s2⟩ := hsame (by omega)
      refine finish v ⟨nxF P E fs (S.next + ops.size), .nil⟩ ⟨nxF P E fs (S.next + ops.size), .nil⟩ hput hw (by unfold runOp; rw [hev.2]) rfl (fun x bl hx => by cases hx) s2.symm (fun x bl hx => ?_)
      rw [s1] at hx
      unfold joined
      rw [if_pos ⟨rfl, bl, hx⟩]; exact hx
    · -- it reads
      obtain ⟨d, hd⟩ := hp.rd f hf h1
      have hev : evalOp P (ev f.e) f.o (some (S.next + f.i)) f.S = .ok (.val v f.S) := by
        unfold runOp at hrun
        cases he : evalOp P (ev f.e) f.o (some (S.next + f.i)) f.S with
        | error w => rw [he] at hrun; cases hrun
        | ok r =>
          rw [he] at hrun
          obtain ⟨v', h5, h6⟩ := cls1 h1 he
          subst h5
          obtain ⟨e1, e2⟩ := Prod.mk.inj (Except.ok.inj hrun)
          subst e1
          rfl
      obtain ⟨s1, s2⟩ := hsame (by omega)
      have go : ∀ Sr : St, evalOp P (ev f.e) f.o (some (S.next + f.i)) Sr = .ok (.val v Sr) → Sr.next = nxF P E fs (S.next + ops.size) →
          (∀ x bl, Sr.heap.get x = some bl → hpF P S.next E x fs (S.heap.get x) = some bl) → wpOp P ops Q f.i K a W' := by
        intro Sr hevr hnr hsubr
        refine finish v Sr Sr hput hw (by unfold runOp; rw [hevr]) hnr hsubr (by rw [s2]; exact hnr) (fun x bl hx => ?_)
        rw [s1] at hx
        unfold joined
        cases hq : Sr.heap.get x with
        | none => rw [if_pos ⟨rfl, bl, hx⟩]; exact hx
        | some c =>
          rw [if_neg (by simp)]
          rw [← hsubr x c hq, hx]
      by_cases hno : ∀ g ∈ post, cls P g.o.op = 3 → E g.i = false
      · obtain ⟨p1, p2⟩ := hpart (.inr h1) hno
        exact go f.S hev p1 p2
      · obtain ⟨p1, g, p2, hpp, hEg, hg3, hlast⟩ : ∃ p1 g p2, post = p1 ++ g :: p2 ∧ E g.i = true ∧ cls P g.o.op = 3 ∧ ∀ k ∈ p2, cls P k.o.op = 3 → E k.i = false := by
          clear hres hpost hpost_w hpost_ne hEpost hpost3 hpart hup hs hnx' hnx hhp hhp' hnewenv
          induction post with
          | nil => exact absurd (fun g hg => by cases hg) hno
          | cons g post ih =>
            by_cases hno2 : ∀ k ∈ post, cls P k.o.op = 3 → E k.i = false
            · refine ⟨[], g, post, rfl, ?_, ?_, hno2⟩
              · cases hq : E g.i with
                | true => rfl
                | false => exact absurd (fun k hk hk3 => by
                    rcases List.mem_cons.1 hk with rfl | hk
                    · exact hq
                    · exact hno2 k hk hk3) hno
              · refine Classical.byContradiction fun hq => hno fun k hk hk3 => ?_
                rcases List.mem_cons.1 hk with rfl | hk
                · exact absurd hk3 hq
                · exact hno2 k hk hk3
            · obtain ⟨p1, g', p2, rfl, h⟩ := ih hno2
              exact ⟨g :: p1, g', p2, rfl, h⟩
        have hgp : g ∈ post := by rw [hpp]; simp
        obtain ⟨_, _, _, _, _, _, _, hre⟩ := hpost g hgp hEg
        have hsg : fs = (pre ++ f :: p1) ++ g :: p2 := by rw [hs, hpp]; simp
        obtain ⟨_, _, hag, _, _⟩ := hup _ g p2 hsg
        have hrec := hD.record pre f post hs d v h1 hw hd (put_get hn hput hd) hpost_ne p1 g p2 hpp
        have hagi : ∀ (l : List Nat), f.i ∈ l → again P ops g.recs g.S1 l = true → evalOp P (ev f.e) f.o (some (S.next + f.i)) g.S1 = .ok (.val v g.S1) := by
          intro l
          induction l with
          | nil => intro h; cases h
          | cons j l ih =>
            intro hm ha
            simp only [again, Bool.and_eq_true] at ha
            rcases List.mem_cons.1 hm with e0 | hm
            · subst e0
              have ha1 := ha.1
              rw [hrec] at ha1
              simp only [ho] at ha1
              split at ha1
              · rename_i v' S2 hq
                have := beqV_eq ha1
                subst this
                obtain ⟨v2, h5, h6⟩ := cls1 h1 hq
                cases h5
                exact h6 _
              · cases ha1
            · exact ih hm ha.2
        refine go g.S1 (hagi g.re (hre h1 hg3) hag) ?_ (fun x bl hx => ?_)
        · rw [hsg, nxF_append]
          simp only [nxF, hEg, hg3, and_self, if_true]
          rw [nxF_none hlast]
        · rw [hsg, hpF_append]
          simp only [hpF, hEg, hg3, true_and, true_or, if_true]
          rcases hpF_post (P := P) (base := S.next) (a := x) hlast with ⟨⟨k, hk, _, _, h5⟩, _⟩ | ⟨_, h5⟩
          · have := (hres _ g p2 hsg k (List.mem_cons_of_mem _ hk)).2 hk
            rw [← h5, hx] at this; cases this
          · rw [h5]; exact hx
    · -- it makes a block
      have hev : ∃ bl, S.next + f.i < lim ∧ f.S1 = ⟨f.S.next, f.S.heap.put (S.next + f.i) bl⟩ ∧ ∀ S', evalOp P (ev f.e) f.o (some (S.next + f.i)) S' = .ok (.val v ⟨S'.next, S'.heap.put (S.next + f.i) bl⟩) := by
        unfold runOp at hrun
        cases he : evalOp P (ev f.e) f.o (some (S.next + f.i)) f.S with
        | error w => rw [he] at hrun; cases hrun
        | ok r =>
          rw [he] at hrun
          obtain ⟨v', bl, h5, h6, h7⟩ := cls2 h2 he
          subst h6
          obtain ⟨e1, e2⟩ := Prod.mk.inj (Except.ok.inj hrun)
          subst e1
          exact ⟨bl, h5, e2.symm, h7⟩
      obtain ⟨bl, hkl, hS1, hev⟩ := hev
      have hnxe : nxF P E' fs (S.next + ops.size) = nxF P E fs (S.next + ops.size) := by rw [hnx', hnx, if_neg (by omega)]
      refine finish v ⟨nxF P E fs (S.next + ops.size), .nil⟩ ⟨nxF P E fs (S.next + ops.size), Tr.nil.put (S.next + f.i) bl⟩ hput hw (by unfold runOp; rw [hev]) rfl (fun x bl hx => by cases hx) hnxe.symm (fun x b' hx => ?_)
      rw [hhp'] at hx
      by_cases hxk : x = S.next + f.i
      · subst hxk
        rw [if_pos (.inr ⟨h2, rfl⟩), hS1] at hx
        simp only [Tr.get_put_same _ _ _ hkl] at hx
        unfold joined
        rw [if_neg (by
          rintro ⟨_, b2, hb2⟩
          have hb3 : hpF P S.next E (S.next + f.i) fs (S.heap.get (S.next + f.i)) = some b2 := hb2
          rw [hfree] at hb3; cases hb3)]
        simp only [Tr.get_put_same _ _ _ hkl]
        rcases hpF_post (P := P) (base := S.next) (a := S.next + f.i) (hpost3 (.inl h2)) with ⟨⟨g, hg, _, _, h5⟩, _⟩ | ⟨_, h5⟩
        · exact absurd (by omega) (hpost_ne g hg)
        · rw [h5] at hx; exact hx
      · rw [if_neg (by rintro (q | ⟨_, q⟩); omega; exact hxk q), ← hhp] at hx
        unfold joined
        rw [if_pos ⟨rfl, b', hx⟩]; exact hx
    · -- it may change what was there
      have hno := hpost3 (.inr h3)
      obtain ⟨p1, p2⟩ := hpart (.inl h3) hno
      refine finish v f.S f.S1 hput hw hrun p1 p2 (by rw [hnx', if_pos h3, nxF_none hno]) (fun x bl hx => ?_)
      rw [hhp', if_pos (.inl h3)] at hx
      have hpx : hpF P S.next E x fs (S.heap.get x) = hpF P S.next E x post (f.S.heap.get x) := by rw [hhp, (hup3 (.inl h3)).1]
      unfold joined
      rcases hpF_post (P := P) (base := S.next) (a := x) hno with ⟨⟨g, hg, _, _, h5⟩, h6⟩ | ⟨_, h6⟩
      · have hd0 := (hres pre f post hs g (List.mem_cons_of_mem _ hg)).1
        rw [← h5] at hd0
        rw [h6 _ (f.S.heap.get x)] at hx
        rw [if_pos ⟨hd0, bl, hpx.trans hx⟩]; exact hpx.trans hx
      · rw [h6] at hx
        rw [if_neg (by
          rintro ⟨q, b2, q2⟩
          have q3 : hpF P S.next E x fs (S.heap.get x) = some b2 := q2
          rw [hpx, h6, q] at q3; cases q3)]
        exact hx
end
end Go.AM
