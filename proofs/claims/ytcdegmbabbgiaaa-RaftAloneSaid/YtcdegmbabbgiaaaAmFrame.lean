/-
  A step in a part of the memory: the rest stays as it is.
-/
import Derived.Test.YtcdegmbabbgiaaaAmStep
namespace Go.AM

theorem RelH.drop {F : Nat → Option Obj} {G : Gh} {nx : Nat} {hp hp' : Nat → Option Blk} {H : Array Obj} (R : RelH F G nx hp H) (h : ∀ a b, hp' a = some b → hp a = some b) : RelH F G nx hp' H :=
  ⟨R.fresh, R.sep, fun a b hb => R.blk a b (h a b hb), fun a a' b b' i h1 h2 => R.inj a a' b b' i (h a b h1) (h a' b' h2), R.fr, R.pr, fun a b i hb => R.own a b i (h a b hb), R.lt, fun a b hb => R.small a b (h a b hb)⟩

open Classical in
/-- The rest of the memory, as a frame. -/
noncomputable def framed (F : Nat → Option Obj) (G : Gh) (hp : Nat → Option Blk) (S : St) (H : Array Obj) (i : Nat) : Option Obj :=
  if ∃ a b, hp a = some b ∧ S.heap.get a = none ∧ Holds G a i then H[i]? else F i
theorem RelH.frame {F : Nat → Option Obj} {G : Gh} {nx : Nat} {hp : Nat → Option Blk} {H : Array Obj} (R : RelH F G nx hp H) {S : St} (hs : ∀ a b, S.heap.get a = some b → hp a = some b) :
    RelH (framed F G hp S H) G nx S.heap.get H := by
  have R' := R.drop hs
  refine ⟨R'.fresh, R'.sep, R'.blk, R'.inj, fun i o h => ?_, R'.pr, fun a b i hb h => ⟨?_, (R'.own a b i hb h).2⟩, R'.lt, R'.small⟩
  · unfold framed at h
    split at h
    · exact h
    · exact R.fr i o h
  · unfold framed
    rw [if_neg]
    · exact (R'.own a b i hb h).1
    · rintro ⟨a', b', h1, h2, h3⟩
      have := R.inj a a' b b' i (hs a b hb) h1 h h3
      subst this
      rw [hb] at h2; cases h2
open Classical in
/-- The memory behind a step: what the step has, and the rest. -/
noncomputable def joined (hp : Nat → Option Blk) (S S1 : St) (a : Nat) : Option Blk :=
  if S.heap.get a = none ∧ ∃ b, hp a = some b then hp a else S1.heap.get a

theorem RelH.unframe {F : Nat → Option Obj} {G : Gh} {nx : Nat} {hp : Nat → Option Blk} {W : World} (R : RelH F G nx hp W.heap) {S : St} (hn : S.next = nx)
    {fr : Option Nat} (hfr : ∀ k, fr = some k → hp k = none) {G2 : Gh} {S1 : St} {W2 : World} (h : Sim (framed F G hp S W.heap) fr G S W G2 S1 W2) :
    RelH F G2 S1.next (joined hp S S1) W2.heap := by
  have ext : ∀ a b, S.heap.get a = none → hp a = some b → a < S.next ∧ fr ≠ some a := by
    intro a b _ hb
    refine ⟨by rw [hn]; exact R.alive hb, fun e => ?_⟩
    rw [hfr a e] at hb; cases hb
  have hold : ∀ a b i, S.heap.get a = none → hp a = some b → (Holds G2 a i ↔ Holds G a i) := by
    intro a b i h1 h2
    obtain ⟨e1, e2⟩ := ext a b h1 h2
    obtain ⟨k1, k2⟩ := h.keep a h1 e1 e2
    unfold Holds
    rw [k1, k2]
  have obj : ∀ a b i, S.heap.get a = none → hp a = some b → Holds G a i → W2.heap[i]? = W.heap[i]? := by
    intro a b i h1 h2 h3
    have hi := R.lt a i h3
    obtain ⟨o, ho⟩ : ∃ o, W.heap[i]? = some o := ⟨_, Array.getElem?_eq_getElem hi⟩
    rw [ho]
    refine h.rel.fr i o ?_
    unfold framed
    rw [if_pos ⟨a, b, h2, h1, h3⟩]; exact ho
  have cases' : ∀ a b, joined hp S S1 a = some b → (S.heap.get a = none ∧ hp a = some b) ∨ (¬ (S.heap.get a = none ∧ ∃ b, hp a = some b) ∧ S1.heap.get a = some b) := by
    intro a b hb
    unfold joined at hb
    split at hb
    · rename_i hq; exact .inl ⟨hq.1, hb⟩
    · rename_i hq; exact .inr ⟨hq, hb⟩
  have F2 : ∀ i, framed F G hp S W.heap i = none → F i = none := by
    intro i hi
    unfold framed at hi
    split at hi
    · rename_i hq
      obtain ⟨a, b, h1, h2, h3⟩ := hq
      exact (R.own a b i h1 h3).1
    · exact hi
  constructor
  · exact h.rel.fresh
  · exact h.rel.sep
  · intro a b hb
    rcases cases' a b hb with ⟨h1, h2⟩ | ⟨_, h1⟩
    · obtain ⟨e1, e2⟩ := ext a b h1 h2
      obtain ⟨k1, k2⟩ := h.keep a h1 e1 e2
      have old := R.blk a b h2
      cases b with
      | row ver es elems =>
        obtain ⟨L, hL, r1, r2, r3, c, ty, fz, hc, r4, r5, r6⟩ := old
        exact ⟨L, k1.trans hL, r1, r2, r3, c, ty, fz, by rw [obj a _ _ h1 h2 (.inl ⟨L, hL, rfl⟩)]; exact hc, r4, r5, r6.mono h.le⟩
      | mp kvs =>
        obtain ⟨i, es, clock, hi, hH, r1, r2⟩ := old
        exact ⟨i, es, clock, k2.trans hi, by rw [obj a _ _ h1 h2 (.inr hi)]; exact hH, r1.mono h.le, r2⟩
      | iter s pos =>
        obtain ⟨L, hL, r1, r2, hH⟩ := old
        exact ⟨L, k1.trans hL, r1, r2, by rw [obj a _ _ h1 h2 (.inl ⟨L, hL, rfl⟩)]; exact hH⟩
    · exact h.rel.blk a b h1
  · intro a a' b b' i hb hb' h1 h2
    rcases cases' a b hb with ⟨q1, q2⟩ | ⟨_, q2⟩
    · rcases cases' a' b' hb' with ⟨p1, p2⟩ | ⟨_, p2⟩
      · exact R.inj a a' b b' i q2 p2 ((hold a b i q1 q2).1 h1) ((hold a' b' i p1 p2).1 h2)
      · have := (h.rel.own a' b' i p2 h2).1
        unfold framed at this
        rw [if_pos ⟨a, b, q2, q1, (hold a b i q1 q2).1 h1⟩] at this
        have hi := R.lt a i ((hold a b i q1 q2).1 h1)
        rw [Array.getElem?_eq_getElem hi] at this; cases this
    · rcases cases' a' b' hb' with ⟨p1, p2⟩ | ⟨_, p2⟩
      · have := (h.rel.own a b i q2 h1).1
        unfold framed at this
        rw [if_pos ⟨a', b', p2, p1, (hold a' b' i p1 p2).1 h2⟩] at this
        have hi := R.lt a' i ((hold a' b' i p1 p2).1 h2)
        rw [Array.getElem?_eq_getElem hi] at this; cases this
      · exact h.rel.inj a a' b b' i q2 p2 h1 h2
  · intro i o ho
    by_cases hq : ∃ a b, hp a = some b ∧ S.heap.get a = none ∧ Holds G a i
    · obtain ⟨a, b, h1, h2, h3⟩ := hq
      rw [(R.own a b i h1 h3).1] at ho; cases ho
    · refine h.rel.fr i o ?_
      unfold framed
      rw [if_neg hq]; exact ho
  · exact h.rel.pr
  · intro a b i hb h1
    rcases cases' a b hb with ⟨q1, q2⟩ | ⟨_, q2⟩
    · have hG := (hold a b i q1 q2).1 h1
      exact ⟨(R.own a b i q2 hG).1, (h.prs i).trans (R.own a b i q2 hG).2⟩
    · exact ⟨F2 i (h.rel.own a b i q2 h1).1, (h.rel.own a b i q2 h1).2⟩
  · exact h.rel.lt
  · intro a b hb
    rcases cases' a b hb with ⟨_, q2⟩ | ⟨_, q2⟩
    · exact R.small a b q2
    · exact h.rel.small a b q2
end Go.AM
