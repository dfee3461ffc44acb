/-
  Slices of slices and texts; numbers, texts, and what is equal.
-/
import Derived.Test.YtcdegmbabbgiaaaAmOps
namespace Go.AM

theorem bytes_extract (s : List UInt8) (l h : Nat) : (⟨⟨s⟩⟩ : ByteArray).extract l h = ⟨⟨(s.take h).drop l⟩⟩ := by
  apply ByteArray.ext
  apply Array.ext'
  simp [ByteArray.extract, ByteArray.copySlice, List.extract_eq_take_drop, List.drop_take]
theorem bounds_cases {len : Nat} {lo hi : Option V} {l h : Nat} (hb : bounds len lo hi = .ok (l, h)) :
    ((hi = none ∧ h = len) ∨ ∃ k n, hi = some (.int k n) ∧ 0 ≤ n ∧ n ≤ len ∧ h = n.toNat) ∧
    ((lo = none ∧ l = 0) ∨ ∃ k n, lo = some (.int k n) ∧ 0 ≤ n ∧ n ≤ h ∧ l = n.toNat) := by
  unfold bounds at hb
  split at hb
  · cases hb
  · rename_i H hH
    have hlow : h = H ∧ ((lo = none ∧ l = 0) ∨ ∃ k n, lo = some (.int k n) ∧ 0 ≤ n ∧ n ≤ H ∧ l = n.toNat) := by
      split at hb
      · cases hb; exact ⟨rfl, .inl ⟨rfl, rfl⟩⟩
      · rename_i kk ll
        rw [cond_eq_ite] at hb
        split at hb
        · rename_i hc
          simp only [Bool.and_eq_true, decide_eq_true_eq] at hc
          cases hb
          exact ⟨rfl, .inr ⟨kk, ll, rfl, hc.1, hc.2, rfl⟩⟩
        · cases hb
      · cases hb
    obtain ⟨rfl, hlow⟩ := hlow
    refine ⟨?_, hlow⟩
    split at hH
    · cases hH; exact .inl ⟨rfl, rfl⟩
    · rename_i kk hv
      rw [cond_eq_ite] at hH
      split at hH
      · rename_i hc'
        simp only [Bool.and_eq_true, decide_eq_true_eq] at hc'
        cases hH
        exact .inr ⟨kk, hv, rfl, hc'.1, hc'.2, rfl⟩
      · cases hH
    · cases hH
/-- What the bounds give, in the model too: within the length, so within any capacity. -/
theorem bounds_sound {P : Program} {len : Nat} {lo hi : Option V} {l h : Nat} (hb : bounds len lo hi = .ok (l, h)) {G : Gh} {lo' hi' : Option Value}
    (hlo : ∀ v, lo = some v → ∃ w, lo' = some w ∧ VR G v w) (hlo0 : lo = none → lo' = none) (hhi : ∀ v, hi = some v → ∃ w, hi' = some w ∧ VR G v w) (hhi0 : hi = none → hi' = none)
    (isSlice : Bool) (cap : Nat) (hc : len ≤ cap) (W : World) :
    (Instr.sliceBounds isSlice len cap lo' hi' none).run P W = .ok (l, h, cap) W ∧ l ≤ h ∧ h ≤ len := by
  obtain ⟨h1, h2⟩ := bounds_cases hb
  rcases h1 with ⟨e1, rfl⟩ | ⟨k, n, e1, a1, a2, rfl⟩ <;> rcases h2 with ⟨e2, rfl⟩ | ⟨k', n', e2, b1, b2, rfl⟩
  · have := hhi0 e1; subst this
    have := hlo0 e2; subst this
    exact ⟨by simp [Instr.sliceBounds], by omega, by omega⟩
  · have := hhi0 e1; subst this
    obtain ⟨w, rfl, hw⟩ := hlo _ e2
    cases hw
    have hq : 0 ≤ n' ∧ n' ≤ (h : Int) := ⟨b1, b2⟩
    exact ⟨by simp [Instr.sliceBounds, Instr.sliceBound, asIntOf, hq], by omega, by omega⟩
  · obtain ⟨w, rfl, hw⟩ := hhi _ e1
    cases hw
    have := hlo0 e2; subst this
    have hq : 0 ≤ n ∧ n ≤ (cap : Int) := ⟨a1, by omega⟩
    exact ⟨by simp [Instr.sliceBounds, Instr.sliceBound, asIntOf, hq], by omega, by omega⟩
  · obtain ⟨w, rfl, hw⟩ := hhi _ e1
    cases hw
    obtain ⟨w, rfl, hw⟩ := hlo _ e2
    cases hw
    have hq : 0 ≤ n ∧ n ≤ (cap : Int) := ⟨a1, by omega⟩
    have hq' : 0 ≤ n' ∧ n' ≤ n := ⟨b1, by omega⟩
    have hmax : max n 0 = n := by omega
    exact ⟨by simp [Instr.sliceBounds, Instr.sliceBound, asIntOf, hq, hq', hmax], by omega, by omega⟩

theorem slice_sound {P : Program} {t : TypeId} {x v : V} {lo hi : Option V} (h : sliceV P t x lo hi = .ok v) {G : Gh} {y : Value} (hy : VR G x y) {lo' hi' : Option Value}
    (hlo : ∀ v, lo = some v → ∃ w, lo' = some w ∧ VR G v w) (hlo0 : lo = none → lo' = none) (hhi : ∀ v, hi = some v → ∃ w, hi' = some w ∧ VR G v w) (hhi0 : hi = none → hi' = none)
    (W : World) : ∃ w, (Instr.sliceAt t y lo' hi' none).run P W = .ok w W ∧ VR G v w := by
  unfold sliceV at h
  split at h
  · rename_i hd
    split at h
    · rename_i s
      split at h
      · rename_i l hh hb
        cases h
        cases hy
        obtain ⟨b1, b2, b3⟩ := bounds_sound (P := P) hb hlo hlo0 hhi hhi0 false s.length (Nat.le_refl _) W
        have hs : (⟨⟨s⟩⟩ : ByteArray).size = s.length := rfl
        refine ⟨.string ((⟨⟨s⟩⟩ : ByteArray).extract l hh), ?_, by rw [bytes_extract]; exact .str _⟩
        simp only [Instr.sliceAt, Sem.run_bind, run_underlying hd, Result.andThen_ok, Instr.slice, hs]
        simp [b1]
      · cases h
    · cases h
  · rename_i elem hd
    rw [cond_eq_ite] at h
    split at h
    · cases h
    · rename_i hel
      obtain ⟨de, hde⟩ := some_of_not hel
      split at h
      · rename_i a ver es off len
        split at h
        · rename_i l hh hb
          rw [cond_eq_ite] at h
          split at h
          · rename_i hes
            have hes' : es = sz P elem := by simpa using hes
            cases h
            cases hy with
            | sl _ _ _ _ _ p n c hs =>
              obtain ⟨rfl, hnc, L, hL, hs⟩ := hs
              obtain ⟨b1, b2, b3⟩ := bounds_sound (P := P) hb hlo hlo0 hhi hhi0 true c hnc W
              refine ⟨.slice (some (if c = l then p else p.add (l * sz P elem))) (hh - l) (c - l), ?_, .sl _ _ _ _ _ _ _ _ ⟨rfl, by omega, L, hL, ?_⟩⟩
              · simp only [Instr.sliceAt, Sem.run_bind, run_underlying hd, Result.andThen_ok, Instr.slice, b1, run_sizeOf hde, Sem.run_pure]
                split <;> simp
              · rcases hs with hs | ⟨h1, h2, h4, h5⟩
                · exact .inl hs
                · refine .inr ⟨h1, h2, by omega, fun h0 => ?_⟩
                  rw [if_neg (by omega), h5 (by omega), addr_add, ← hes', h2]
                  congr 1
                  rw [Nat.add_mul]; omega
          · cases h
        · cases h
      · rename_i es
        split at h
        · rename_i l hh hb
          rw [cond_eq_ite] at h
          split at h
          · rename_i hes
            cases h
            cases hy with
            | imm _ p n c e hn hc vs hv he hp =>
              subst hn
              obtain ⟨b1, b2, b3⟩ := bounds_sound (P := P) hb hlo hlo0 hhi hhi0 true c hc W
              have htd : ∀ {es : List (List V)} {vs : List (List Value)}, VRss G es vs → ∀ l h, VRss G ((es.take h).drop l) ((vs.take h).drop l) := by
                intro es vs hv
                induction es generalizing vs with
                | nil => cases hv; intro l h; simpa using VRss.nil
                | cons x es ih =>
                  cases hv with
                  | cons _ w _ ws hx t =>
                    intro l h
                    cases h with
                    | zero => simpa using VRss.nil
                    | succ h =>
                      cases l with
                      | zero =>
                        have := ih t 0 h
                        simp at this ⊢
                        exact .cons _ _ _ _ hx this
                      | succ l => simpa using ih t l h
              refine ⟨.slice (some (if c = l then p else p.add (l * sz P elem))) (hh - l) (c - l), ?_, .imm _ _ _ _ e (by simp; omega) (by omega) _ (htd hv l hh)
                (fun cs hcs => he cs (List.mem_of_mem_take (List.mem_of_mem_drop hcs))) ?_⟩
              · simp only [Instr.sliceAt, Sem.run_bind, run_underlying hd, Result.andThen_ok, Instr.slice, b1, run_sizeOf hde, Sem.run_pure]
                split <;> simp
              · by_cases h0 : hh - l = 0
                · exact .inl h0
                · right
                  rcases hp with hp | ⟨ca, ty, fr, h1, h2, h3⟩
                  · omega
                  · rw [if_neg (by omega)]
                    have hse : sz P elem = e := by
                      cases es with
                      | nil => simp at b3; omega
                      | cons x es =>
                        have := List.all_eq_true.1 hes x (by simp)
                        rw [← he x (by simp)]; exact (show x.length = sz P elem by simpa using this).symm
                    obtain ⟨pb, po, ps⟩ := p
                    simp only at h1 h2 h3
                    subst h2
                    rw [addr_add]
                    refine ⟨ca, ty, fr, h1, rfl, fun i l' hl' k v hk => ?_⟩
                    rw [List.getElem?_drop, List.getElem?_take] at hl'
                    split at hl'
                    · have := h3 _ l' hl' k v hk
                      simp only
                      rw [hse, show po + l * e + i * e + k = po + (l + i) * e + k by rw [Nat.add_mul]; omega]
                      exact this
                    · cases hl'
          · cases h
        · cases h
      · split at h
        · rename_i x' hb
          obtain ⟨l, hh⟩ := x'
          cases h
          cases hy
          obtain ⟨b1, b2, b3⟩ := bounds_sound (P := P) hb hlo hlo0 hhi hhi0 true 0 (Nat.le_refl _) W
          have hl0 : l = 0 := by omega
          have hh0 : hh = 0 := by omega
          subst hl0; subst hh0
          refine ⟨.slice none 0 0, ?_, .nils⟩
          simp only [Instr.sliceAt, Sem.run_bind, run_underlying hd, Result.andThen_ok, Instr.slice, b1, run_sizeOf hde, Sem.run_pure]
          simp
        · cases h
      · cases h
  · cases h
end Go.AM
