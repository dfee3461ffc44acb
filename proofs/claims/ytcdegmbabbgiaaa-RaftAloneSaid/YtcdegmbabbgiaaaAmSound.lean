/-
  The machine is sound: regions, code, calls.
-/
import Derived.Test.YtcdegmbabbgiaaaAmDraw3
import Derived.LoopN
set_option linter.unusedSimpArgs false
namespace Go.AM
section
variable {P : Program} {call : Call} {n : Nat} {ops : Array Oper}

theorem filter_lt {p q : Nat → Bool} : ∀ {l : List Nat}, (∀ x ∈ l, q x = true → p x = true) → ∀ {i : Nat}, i ∈ l → p i = true → q i = false → (l.filter q).length < (l.filter p).length := by
  have hle : ∀ {l : List Nat}, (∀ x ∈ l, q x = true → p x = true) → (l.filter q).length ≤ (l.filter p).length := by
    intro l
    induction l with
    | nil => intro _; simp
    | cons x l ih =>
      intro h
      have := ih (fun y hy => h y (List.mem_cons_of_mem _ hy))
      simp only [List.filter_cons]
      cases hq : q x with
      | true => rw [h x (by simp) hq]; simp; omega
      | false => cases p x <;> simp <;> omega
  intro l
  induction l with
  | nil => intro _ i hi; cases hi
  | cons x l ih =>
    intro h i hi hp hq
    have h' := fun y hy => h y (List.mem_cons_of_mem _ hy)
    simp only [List.filter_cons]
    rcases List.mem_cons.1 hi with rfl | hi
    · rw [hp, hq]
      have := hle h'
      simp; omega
    · have := ih h' hi hp hq
      cases hqx : q x with
      | true => rw [h x (by simp) hqx]; simp; omega
      | false => cases p x <;> simp <;> omega

theorem draw_any (hc : CallOK P call) (hn : n < lim) {F : Nat → Option Obj} {G : Gh} {S : St} {W : World} {e : Env} {tmps0 : Array Value} (R0 : Rel F G S W.heap) (he0 : EnvR G n e tmps0)
    {steps : List Step} {e' : Env} {S' : St} {fs : List Frm} (hD : DR P call n ops S.next steps [] e ⟨S.next + ops.size, S.heap⟩ fs e' S') {b : Array Nat} (hp : PlanF P ops b fs) {ds : List Deferred}
    {Q : Exit → Act → World → Prop} (hQ : ∀ G' W' a', Sim F none G S W G' S' W' → EnvR G' n e' a'.tmps → a'.defers = ds → Q .normal a' W') :
    ∀ (fuel : Nat) (listed : Array Bool) (a : Act) (W' : World) (G' : Gh), listed.size = ops.size → Inv P n ops F G S W e fs ds (fun j => listed.getD j false) a W' G' →
      (∀ f ∈ fs, listed.getD f.i false = true → ∀ j, j < ops.size → bitB (b.getD f.i 0) j = true → listed.getD j false = true) →
      ((List.range ops.size).filter fun j => !listed.getD j false).length ≤ fuel → wpAny P .any ops Q fuel listed a W' := by
  obtain ⟨hup, hsv, hhp, _⟩ := hD.upto hn
  have hfsz : ∀ g ∈ fs, g.i < ops.size := by
    intro g hg
    obtain ⟨l1, l2, h12⟩ := List.append_of_mem hg
    exact (Array.getElem?_eq_some_iff.1 (hup l1 g l2 h12).1).1
  have R0' : Rel F G ⟨S.next + ops.size, S.heap⟩ W.heap :=
    ⟨fun x hx => R0.fresh x (by have : S.next + ops.size ≤ x := hx; omega), R0.sep, R0.blk, R0.inj, R0.fr, R0.pr, R0.own, R0.lt, R0.small⟩
  obtain ⟨_, hdead, hnext⟩ := hD.reserved hc hn R0' he0 hp.nodup (fun g hg => ⟨by have := hfsz g hg; show _ < S.next + ops.size; omega, (R0.fresh _ (by omega)).1, (R0.fresh _ (by omega)).2⟩)
  -- all are done
  have fin : ∀ (listed : Array Bool) (a : Act) (W' : World) (G' : Gh), Inv P n ops F G S W e fs ds (fun j => listed.getD j false) a W' G' → (∀ f ∈ fs, listed.getD f.i false = true) → Q .normal a W' := by
    intro listed a W' G' I hall
    obtain ⟨q1, q2⟩ := hhp (fun j => listed.getD j false) (fun g hg _ => hall g hg)
    refine hQ G' W' a ⟨I.le, ?_, I.same, ?_, fun x hx hlt _ => I.keep x hlt hx, fun x hx hlt _ => ?_, I.prs⟩ ⟨I.size, fun t v ht => I.env t v ?_⟩ I.defers
    · have := I.rel
      rw [show nxF P (fun j => listed.getD j false) fs (S.next + ops.size) = S'.next from q2] at this
      exact this.drop (fun x bl hx => by
        show hpF P S.next (fun j => listed.getD j false) x fs (S.heap.get x) = some bl
        rw [q1 x]; exact hx)
    · have : S.next + ops.size ≤ S'.next := hnext
      omega
    · exact hdead x (by show x < S.next + ops.size; omega) hx (fun f hf => by omega)
    · rw [svF_congr (E' := fun _ => true) (fun g hg _ => hall g hg)]
      rw [hsv]; exact ht
  -- somebody is ready, unless all are done
  have some_ready : ∀ (listed : Array Bool), listed.size = ops.size → Region.ready .any ops listed = [] → ∀ f ∈ fs, listed.getD f.i false = true := by
    intro listed hsz hr
    have : ∀ (l pre : List Frm), fs = pre ++ l → (∀ g ∈ pre, listed.getD g.i false = true) → ∀ f ∈ l, listed.getD f.i false = true := by
      intro l
      induction l with
      | nil => intro _ _ _ f hf; cases hf
      | cons f l ih =>
        intro pre hs hpre
        have hf : listed.getD f.i false = true := by
          cases hq : listed.getD f.i false with
          | true => rfl
          | false =>
            exfalso
            have hisz := hfsz f (by rw [hs]; simp)
            have hmem : f.i ∈ Region.ready .any ops listed := by
              rw [mem_ready]
              refine ⟨?_, f.o, (hup pre f l hs).1, fun x hx hb => ?_⟩
              · simp [hsz, hisz] at hq ⊢; exact hq
              · obtain ⟨g, hg, hge⟩ := hp.edge pre f l hs x hx hb
                rw [← hge]; exact hpre g hg
            rw [hr] at hmem; cases hmem
        intro g hg
        rcases List.mem_cons.1 hg with rfl | hg
        · exact hf
        · refine ih (pre ++ [f]) (by simpa using hs) (fun g hg => ?_) g hg
          rcases List.mem_append.1 hg with hg | hg
          · exact hpre g hg
          · simp at hg; subst hg; exact hf
    exact this fs [] rfl (by simp)
  intro fuel
  induction fuel with
  | zero =>
    intro listed a W' G' hsz I hdown hcnt
    have hnone : ∀ j, j < ops.size → listed.getD j false = true := by
      intro j hj
      have := List.eq_nil_of_length_eq_zero (Nat.le_zero.1 hcnt)
      cases hq : listed.getD j false with
      | true => rfl
      | false =>
        have hm : j ∈ (List.range ops.size).filter fun j => !listed.getD j false := List.mem_filter.2 ⟨List.mem_range.2 hj, by simp only [hq]; rfl⟩
        rw [this] at hm; cases hm
    refine ⟨?_, fin listed a W' G' I (fun f hf => hnone _ (hfsz f hf))⟩
    refine List.eq_nil_iff_forall_not_mem.2 fun j hj => ?_
    obtain ⟨h0, o, ho, _⟩ := mem_ready.1 hj
    have hjs := (Array.getElem?_eq_some_iff.1 ho).1
    have := hnone j hjs
    simp [hsz, hjs] at this h0
    rw [this] at h0; cases h0
  | succ fuel ih =>
    intro listed a W' G' hsz I hdown hcnt
    refine ⟨fun hr => fin listed a W' G' I (some_ready listed hsz hr), fun i hi => ?_⟩
    obtain ⟨h0, o, ho, hready⟩ := mem_ready.1 hi
    have hisz := (Array.getElem?_eq_some_iff.1 ho).1
    have hif : listed.getD i false = false := by
      simp [hsz, hisz] at h0 ⊢; exact h0
    have hset : ∀ j, (listed.setIfInBounds i true).getD j false = if j = i then true else listed.getD j false := by
      intro j
      by_cases hj : j = i
      · subst hj; simp [hsz, hisz]
      · rw [if_neg hj]; exact getD_set_ne false (Ne.symm hj)
    have hlt : ∀ j, listed.getD j false = true → j < ops.size := fun j hj => by
        rcases Nat.lt_or_ge j listed.size with q | q
        · omega
        · simp [Array.getElem?_eq_none q] at hj
    have hanc := (inv_step hc hn R0 he0 hD hp I hlt hdown ho hif hready (Q := Q) (K := fun _ _ => True) (fun _ _ _ _ => trivial)).2
    refine (inv_step hc hn R0 he0 hD hp I hlt hdown ho hif hready (Q := Q) (K := wpAny P .any ops Q fuel (listed.setIfInBounds i true)) ?_).1
    intro a2 W2 G2 I2
    refine ih _ a2 W2 G2 (by simpa using hsz) ?_ ?_ ?_
    · have : (fun j => (listed.setIfInBounds i true).getD j false) = fun j => if j = i then true else listed.getD j false := funext hset
      rw [this]; exact I2
    · intro f hf hE j hj hb
      rw [hset] at hE ⊢
      split
      · rfl
      · split at hE
        · rename_i hfi
          rw [hfi] at hb
          exact hanc j hj hb
        · exact hdown f hf hE j hj hb
    · have : ((List.range ops.size).filter fun j => !(listed.setIfInBounds i true).getD j false).length < ((List.range ops.size).filter fun j => !listed.getD j false).length := by
        refine filter_lt (fun x _ hx => ?_) (List.mem_range.2 hisz) ?_ ?_
        · simp only [hset] at hx
          split at hx
          · simp at hx
          · exact hx
        · simp only [hif]; rfl
        · simp only [hset, if_true]; rfl
      omega
end
end Go.AM
