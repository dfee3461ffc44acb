/-
  What an operation looks at: its operands; and, by its class, the memory.
-/
import Derived.Test.YtcdegmbabbgiaaaAmFrame
set_option linter.unusedSimpArgs false
namespace Go.AM

theorem evs_congr {ρ ρ' : Operand → Option V} : ∀ {l : List Operand}, (∀ x ∈ l, ρ x = ρ' x) → evs ρ l = evs ρ' l
  | [], _ => rfl
  | x :: l, h => by simp only [evs, h x (by simp), evs_congr (fun y hy => h y (List.mem_cons_of_mem _ hy))]
theorem evPs_congr {ρ ρ' : Operand → Option V} : ∀ {l : List (Nat × Operand)}, (∀ x ∈ l.map (·.2), ρ x = ρ' x) → evPs ρ l = evPs ρ' l
  | [], _ => rfl
  | (i, x) :: l, h => by simp only [evPs, h x (by simp), evPs_congr (fun y hy => h y (by simp at hy ⊢; exact .inr hy))]
theorem evO_congr {ρ ρ' : Operand → Option V} {o : Option Operand} (h : ∀ x, o = some x → ρ x = ρ' x) : evO ρ o = evO ρ' o := by
  cases o with
  | none => rfl
  | some x => simp only [evO, h x rfl]
theorem evalOp_congr {P : Program} {ρ ρ' : Operand → Option V} {o : Oper} {fr : Option Nat} {S : St} (h : ∀ x ∈ o.op.operands, ρ x = ρ' x) : evalOp P ρ o fr S = evalOp P ρ' o fr S := by
  obtain ⟨dst, op, ty, pos, after, gd⟩ := o
  cases op <;> simp only [Op.operands] at h <;> simp only [evalOp]
  case build t ps => rw [evPs_congr (fun x hx => h x (by simpa using hx))]
  case buildSlice t n ps => rw [evPs_congr (fun x hx => h x (by simpa using hx))]
  case slice t x lo hi mx =>
    rw [h x (by simp), evO_congr (fun y hy => h y (by subst hy; simp)), evO_congr (fun y hy => h y (by subst hy; simp))]
  case call c =>
    obtain ⟨callee, args, ats⟩ := c
    cases callee with
    | value f => simp only; rw [h f (by simp [Call.operands]), evs_congr (fun x hx => h x (by simp [Call.operands]; exact .inr (by simpa using hx)))]
    | builtin b => simp only; rw [evs_congr (fun x hx => h x (by simp [Call.operands]; simpa using hx))]
    | invoke r m => simp only; rw [h r (by simp [Call.operands]), evs_congr (fun x hx => h x (by simp [Call.operands]; exact .inr (by simpa using hx)))]
  case makeFunc fn first captured => rw [evs_congr (l := first.toList) (fun x hx => h x (by simp; exact .inl (by simpa using hx))), evs_congr (l := captured.toList) (fun x hx => h x (by simp; exact .inr (by simpa using hx)))]
  case makeMap t r => cases r <;> rfl
  all_goals (first | rfl | (simp_all; done))

/-- An operation that neither reads nor changes the memory. -/
theorem cls0 {P : Program} {ρ : Operand → Option V} {o : Oper} {fr : Option Nat} {S : St} {r : Out} (hc : cls P o.op = 0) (h : evalOp P ρ o fr S = .ok r) :
    ∃ v, r = .val v S ∧ ∀ fr' S', evalOp P ρ o fr' S' = .ok (.val v S') := by
  obtain ⟨dst, op, ty, pos, after, gd⟩ := o
  have pr : ∀ {x : AM.R V}, pureR S x = .ok r → ∃ v, r = .val v S ∧ ∀ S', pureR S' x = .ok (.val v S') := by
    intro x hx
    unfold pureR at hx
    split at hx
    · cases hx; exact ⟨_, rfl, fun _ => rfl⟩
    · cases hx
  cases op <;> simp only [cls] at hc <;> try (cases hc; done)
  all_goals simp only [evalOp] at h ⊢
  case move x => split at h <;> cases h; rename_i v hv; exact ⟨_, rfl, fun _ S' => by simp only [hv]⟩
  case assign x => split at h <;> cases h; rename_i v hv; exact ⟨_, rfl, fun _ S' => by simp only [hv]⟩
  case pick c a b =>
    split at h
    · rename_i hc'; split at h <;> cases h; rename_i v hv; exact ⟨_, rfl, fun _ S' => by simp only [hc', hv]⟩
    · rename_i hc'; split at h <;> cases h; rename_i v hv; exact ⟨_, rfl, fun _ S' => by simp only [hc', hv]⟩
    · cases h
  case build t ps =>
    split at h
    · rename_i vs hvs
      obtain ⟨v, h1, h2⟩ := pr h
      exact ⟨v, h1, fun _ S' => by first | exact h2 S' | (simp only [hvs]; exact h2 S')⟩
    · cases h
  case nilCheck x =>
    split at h
    · rename_i hv; cases h; exact ⟨_, rfl, fun _ S' => by simp only [hv]⟩
    · rename_i hv; cases h; exact ⟨_, rfl, fun _ S' => by simp only [hv]⟩
    · cases h
  case binOp op t x y yt =>
    split at h
    · rename_i a b hx hy
      rw [cond_eq_ite] at h
      split at h
      · rename_i hg
        obtain ⟨v, h1, h2⟩ := pr h
        exact ⟨v, h1, fun _ S' => by simp only [hx, hy, cond_eq_ite]; rw [if_pos hg]; exact h2 S'⟩
      · cases h
    · cases h
  case unOp op t x =>
    split at h
    · rename_i a hx
      obtain ⟨v, h1, h2⟩ := pr h
      exact ⟨v, h1, fun _ S' => by first | exact h2 S' | (simp only [hx]; exact h2 S')⟩
    · cases h
  case convert s d x =>
    split at h
    · rename_i a hx
      split at hc
      · rename_i k hd
        unfold pairR at h
        split at h
        · rename_i v S1 hv
          cases h
          unfold convertV at hv
          rw [hd] at hv
          split at hv <;> rename_i hs' hd'
          · cases hd'
            split at hv
            · rename_i n
              cases hv
              refine ⟨_, rfl, fun _ S' => ?_⟩
              simp only [hx, pairR, convertV, hs', hd]
            · cases hv
          · cases hd'
          · cases hd'
          · cases hv
        · cases h
      · cases hc
      · cases hc
    · cases h
  case slice t x lo hi mx =>
    split at h
    · rename_i v l hh hv hl hhi
      obtain ⟨v', h1, h2⟩ := pr h
      exact ⟨v', h1, fun _ S' => by first | exact h2 S' | (simp only [hv, hl, hhi]; exact h2 S')⟩
    · cases h
  case fieldAddr s x f =>
    split at h
    · rename_i a hx
      obtain ⟨v, h1, h2⟩ := pr h
      exact ⟨v, h1, fun _ S' => by first | exact h2 S' | (simp only [hx]; exact h2 S')⟩
    · cases h
  case field s x f =>
    split at h
    · rename_i a hx
      obtain ⟨v, h1, h2⟩ := pr h
      exact ⟨v, h1, fun _ S' => by first | exact h2 S' | (simp only [hx]; exact h2 S')⟩
    · cases h
  case indexAddr t x i =>
    split at h
    · rename_i a b hx hy
      obtain ⟨v, h1, h2⟩ := pr h
      exact ⟨v, h1, fun _ S' => by first | exact h2 S' | (simp only [hx, hy]; exact h2 S')⟩
    · cases h
  case index t x i =>
    split at h
    · rename_i a b hx hy
      obtain ⟨v, h1, h2⟩ := pr h
      exact ⟨v, h1, fun _ S' => by first | exact h2 S' | (simp only [hx, hy]; exact h2 S')⟩
    · cases h
  case extract t i =>
    split at h
    · rename_i vs hvs
      split at h
      · rename_i v hv
        cases h
        exact ⟨v, rfl, fun _ S' => by simp only [hvs, hv]⟩
      · cases h
    · cases h
  case call c =>
    obtain ⟨callee, args, ats⟩ := c
    cases callee with
    | value f => cases hc
    | invoke r m => cases hc
    | builtin b =>
      simp only at h ⊢
      split at h
      · rename_i as has
        cases b <;> simp only at hc <;> try (cases hc; done)
        all_goals
          simp only [builtinV] at h
          obtain ⟨v, h1, h2⟩ := pr h
          exact ⟨v, h1, fun _ S' => by first | exact h2 S' | (simp only [has, builtinV]; exact h2 S')⟩
      · cases h

/-- An operation that only reads. -/
theorem cls1 {P : Program} {ρ : Operand → Option V} {o : Oper} {fr : Option Nat} {S : St} {r : Out} (hc : cls P o.op = 1) (h : evalOp P ρ o fr S = .ok r) :
    ∃ v, r = .val v S ∧ ∀ fr', evalOp P ρ o fr' S = .ok (.val v S) := by
  obtain ⟨dst, op, ty, pos, after, gd⟩ := o
  have pr : ∀ {x : AM.R V}, pureR S x = .ok r → ∃ v, r = .val v S ∧ pureR S x = .ok (.val v S) := by
    intro x hx
    unfold pureR at hx
    split at hx
    · cases hx; exact ⟨_, rfl, rfl⟩
    · cases hx
  cases op <;> simp only [cls] at hc <;> try (cases hc; done)
  all_goals simp only [evalOp] at h ⊢
  case load t a =>
    split at h
    · rename_i p hp
      obtain ⟨v, h1, h2⟩ := pr h
      exact ⟨v, h1, fun _ => by first | exact h2 | (simp only [hp]; exact h2)⟩
    · cases h
  case convert s d x =>
    split at h
    · rename_i a hx
      split at hc
      · cases hc
      · rename_i hd
        unfold pairR at h
        split at h
        · rename_i v S1 hv
          cases h
          have : S1 = S ∧ ∀ fr', convertV P s d a fr' S = .ok (v, S) := by
            unfold convertV at hv ⊢
            rw [hd] at hv
            split at hv <;> rename_i hs' hd'
            · cases hd'
            · split at hv
              · cases hv; exact ⟨rfl, fun _ => by simp only [hs', hd]⟩
              · split at hv
                · rename_i e
                  split at hv
                  · rename_i he
                    split at hv
                    · split at hv
                      · cases hv
                      · rename_i l hl
                        split at hv
                        · rename_i b hb; cases hv; exact ⟨rfl, fun _ => by simp only [hs', hd, he, hl, hb]⟩
                        · cases hv
                    · split at hv
                      · cases hv
                      · rename_i l hl
                        split at hv
                        · rename_i b hb; cases hv; exact ⟨rfl, fun _ => by simp only [hs', hd, he, hl, hb]⟩
                        · cases hv
                    · split at hv
                      · cases hv
                      · rename_i l hl
                        split at hv
                        · rename_i b hb; cases hv; exact ⟨rfl, fun _ => by simp only [hs', hd, he, hl, hb]⟩
                        · cases hv
                    · cases hv
                  · cases hv
                · cases hv
            · cases hd'
            · cases hv
          obtain ⟨rfl, h2⟩ := this
          exact ⟨v, rfl, fun _ => by simp only [hx, pairR, h2]⟩
        · cases h
      · cases hc
    · cases h
  case call c =>
    obtain ⟨callee, args, ats⟩ := c
    cases callee with
    | value f => cases hc
    | invoke r m => cases hc
    | builtin b =>
      simp only at h ⊢
      split at h
      · rename_i as has
        cases b <;> simp only at hc <;> try (cases hc; done)
        all_goals
          simp only [builtinV] at h
          split at h
          · rename_i x
            split at h
            · rename_i t ht
              obtain ⟨v, h1, h2⟩ := pr h
              exact ⟨v, h1, fun _ => by first | exact h2 | (simp only [has, builtinV, ht]; exact h2)⟩
            · cases h
          all_goals (try (cases h; done))
          all_goals (simp_all; done)
      · cases h

theorem newBlk_some {k : Nat} {S : St} {b : Blk} {x : Nat × St} (h : newBlk (some k) S b = .ok x) : k < lim ∧ x = (k, ⟨S.next, S.heap.put k b⟩) ∧ ∀ S', newBlk (some k) S' b = .ok (k, ⟨S'.next, S'.heap.put k b⟩) := by
  unfold newBlk at h
  simp only [cond_eq_ite] at h
  split at h
  · rename_i hl
    cases h
    exact ⟨by simpa using hl, rfl, fun S' => by unfold newBlk; simp only [cond_eq_ite]; rw [if_pos hl]⟩
  · cases h
/-- An operation that makes one block, at a number kept free for it. -/
theorem cls2 {P : Program} {ρ : Operand → Option V} {o : Oper} {k : Nat} {S : St} {r : Out} (hc : cls P o.op = 2) (h : evalOp P ρ o (some k) S = .ok r) :
    ∃ v b, k < lim ∧ r = .val v ⟨S.next, S.heap.put k b⟩ ∧ ∀ S', evalOp P ρ o (some k) S' = .ok (.val v ⟨S'.next, S'.heap.put k b⟩) := by
  obtain ⟨dst, op, ty, pos, after, gd⟩ := o
  cases op <;> simp only [cls] at hc <;> try (cases hc; done)
  all_goals simp only [evalOp] at h ⊢
  case alloc t =>
    split at h
    · cases h
    · rename_i z hz
      split at h
      · rename_i a S1 hn
        cases h
        obtain ⟨h1, h2, h3⟩ := newBlk_some hn
        cases h2
        exact ⟨_, _, h1, rfl, fun S' => by simp only [h3]⟩
      · cases h
  case box t x =>
    split at h
    · rename_i v hv
      rw [cond_eq_ite] at h
      split at h
      · rename_i hone
        split at h
        · rename_i a S1 hn
          cases h
          obtain ⟨h1, h2, h3⟩ := newBlk_some hn
          cases h2
          exact ⟨_, _, h1, rfl, fun S' => by simp only [cond_eq_ite]; rw [if_pos hone]; simp only [h3]⟩
        · cases h
      · cases h
    · cases h
  case buildSlice t n ps =>
    split at h
    · rename_i vs hvs
      unfold pairR at h
      split at h
      · rename_i v S1 hv
        cases h
        have : ∃ v' b, k < lim ∧ v = v' ∧ S1 = ⟨S.next, S.heap.put k b⟩ ∧ ∀ S', buildSliceV P t n vs (some k) S' = .ok (v', ⟨S'.next, S'.heap.put k b⟩) := by
          unfold buildSliceV at hv
          split at hv
          · cases hv
          · rename_i e he
            split at hv
            · cases hv
            · rename_i z hz
              rw [cond_eq_ite] at hv
              split at hv
              · rename_i hok
                split at hv
                · cases hv
                · rename_i elems hl
                  split at hv
                  · cases hv
                  · rename_i a S2 hn
                    cases hv
                    obtain ⟨h1, h2, h3⟩ := newBlk_some hn
                    cases h2
                    refine ⟨_, _, h1, rfl, rfl, fun S' => ?_⟩
                    unfold buildSliceV
                    simp only [he, hz, cond_eq_ite]
                    rw [if_pos hok]
                    simp only [hl, h3]
              · cases hv
        obtain ⟨v', b, h1, rfl, rfl, h3⟩ := this
        exact ⟨v, b, h1, rfl, fun S' => by first | (simp only [pairR, h3]) | (simp only [hvs, pairR, h3])⟩
      · cases h
    · cases h
  case makeSlice t l c =>
    split at h
    · rename_i lv cv hl hc'
      unfold pairR at h
      split at h
      · rename_i v S1 hv
        cases h
        have : ∃ v' b, k < lim ∧ v = v' ∧ S1 = ⟨S.next, S.heap.put k b⟩ ∧ ∀ S', makeSliceV P t lv cv (some k) S' = .ok (v', ⟨S'.next, S'.heap.put k b⟩) := by
          unfold makeSliceV at hv
          split at hv
          · rename_i e kl l kc c he
            split at hv
            · cases hv
            · rename_i z hz
              rw [cond_eq_ite] at hv
              split at hv
              · rename_i hok
                split at hv
                · cases hv
                · rename_i a S2 hn
                  cases hv
                  obtain ⟨h1, h2, h3⟩ := newBlk_some hn
                  cases h2
                  refine ⟨_, _, h1, rfl, rfl, fun S' => ?_⟩
                  unfold makeSliceV
                  simp only [he, hz, cond_eq_ite]
                  rw [if_pos hok]
                  simp only [h3]
              · cases hv
          · cases hv
        obtain ⟨v', b, h1, rfl, rfl, h3⟩ := this
        exact ⟨v, b, h1, rfl, fun S' => by first | (simp only [pairR, h3]) | (simp only [hl, hc', pairR, h3])⟩
      · cases h
    · cases h
  case convert s d x =>
    split at h
    · rename_i a hx
      unfold pairR at h
      split at h
      · rename_i v S1 hv
        cases h
        have : ∃ v' b, k < lim ∧ v = v' ∧ S1 = ⟨S.next, S.heap.put k b⟩ ∧ ∀ S', convertV P s d a (some k) S' = .ok (v', ⟨S'.next, S'.heap.put k b⟩) := by
          unfold convertV at hv
          split at hv
          · rename_i hs' hd; rw [hd] at hc; cases hc
          · rename_i hs' hd; rw [hd] at hc; cases hc
          · rename_i u e hs' hd
            split at hv
            · rename_i s' he
              rw [cond_eq_ite] at hv
              split at hv
              · rename_i hok
                split at hv
                · cases hv
                · rename_i a' S2 hn
                  cases hv
                  obtain ⟨h1, h2, h3⟩ := newBlk_some hn
                  cases h2
                  refine ⟨_, _, h1, rfl, rfl, fun S' => ?_⟩
                  unfold convertV
                  simp only [hs', hd, he, cond_eq_ite]
                  rw [if_pos hok]
                  simp only [h3]
              · cases hv
            · cases hv
          · cases hv
        obtain ⟨v', b, h1, rfl, rfl, h3⟩ := this
        exact ⟨v, b, h1, rfl, fun S' => by first | (simp only [pairR, h3]) | (simp only [hx, pairR, h3])⟩
      · cases h
    · cases h
  case call c =>
    obtain ⟨callee, args, ats⟩ := c
    cases callee with
    | value f => cases hc
    | invoke r m => cases hc
    | builtin b => cases b <;> simp only at hc <;> cases hc
end Go.AM
