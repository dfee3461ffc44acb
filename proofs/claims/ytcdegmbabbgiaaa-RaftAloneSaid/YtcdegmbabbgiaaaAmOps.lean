/-
  Operations that compute, and operations that read.
-/
import Derived.Test.YtcdegmbabbgiaaaAmAppend
namespace Go.AM

theorem run_sizeOf_pos {P : Program} {t : TypeId} (h : sz P t ≠ 0) (W : World) : (sizeOf t).run P W = .ok (sz P t) W := by
  unfold sz Program.cellsOf at h ⊢
  cases hi : P.info? t with
  | none => rw [hi] at h; exact absurd rfl h
  | some i => simp [sizeOf, typeInfo, hi]
theorem PtrAt.add {G : Gh} {a ver i j n : Nat} {p : Addr} (h : PtrAt G a ver i j p) : PtrAt G a ver i (j + n) (p.add n) := by
  obtain ⟨L, hL, h⟩ := h
  refine ⟨L, hL, h.imp id ?_⟩
  rintro ⟨h1, rfl⟩
  exact ⟨h1, by rw [addr_add, Nat.add_assoc]⟩
theorem VR.ptrAdd {G : Gh} {a ver i j n : Nat} {p : Addr} (h : VR G (.ptr a ver i j) (.pointer (some p))) : VR G (.ptr a ver i (j + n)) (.pointer (some (p.add n))) := by
  cases h with
  | ptr _ _ _ _ _ h => exact .ptr _ _ _ _ _ h.add
theorem VR.iptrAdd {G : Gh} {cs : List V} {j n : Nat} {p : Addr} (h : VR G (.iptr cs j) (.pointer (some p))) : VR G (.iptr cs (j + n)) (.pointer (some (p.add n))) := by
  cases h with
  | iptr _ _ b o c ty fr hb vs hv h =>
    rw [addr_add, Nat.add_assoc]
    exact .iptr _ _ _ _ _ _ _ hb vs hv h

theorem fieldOf_some {P : Program} {s : TypeId} {f : Nat} {fd : Field} (h : fieldOf P s f = some fd) : ∃ fs, P.underlying s = some (.struct fs) ∧ fs[f]? = some fd := by
  unfold fieldOf at h
  split at h
  · rename_i fs hd; exact ⟨fs, hd, h⟩
  · cases h
theorem fieldAddr_sound {P : Program} {s : TypeId} {p v : V} {f : Nat} (h : fieldAddrV P s p f = .ok v) {G : Gh} {q : Value} (hq : VR G p q) (W : World) :
    ∃ w, (Instr.fieldAt s q f).run P W = .ok w W ∧ VR G v w := by
  unfold fieldAddrV at h
  split at h
  · cases h
  · rename_i fd hfd
    obtain ⟨fs, hd, hf⟩ := fieldOf_some hfd
    rw [cond_eq_ite] at h
    split at h
    · cases h
    · rename_i h0
      have h0' : sz P fd.type ≠ 0 := by simpa using h0
      have key : ∀ a : Addr, (Instr.fieldAt s (.pointer (some a)) f).run P W = .ok (.pointer (some (a.add fd.offset))) W := by
        intro a
        simp [Instr.fieldAt, run_underlying hd, hf, Instr.sureAddr, fieldPlace, run_sizeOf_pos h0', h0']
      split at h
      · cases h
        cases hq with
        | ptr _ _ _ _ a hp => exact ⟨_, key a, (VR.ptr _ _ _ _ _ hp).ptrAdd⟩
      · cases h
        cases hq with
        | iptr _ _ b o c ty fr hb vs hv h => exact ⟨_, key _, (VR.iptr _ _ b o c ty fr hb vs hv h).iptrAdd⟩
      · cases h
theorem field_sound {P : Program} {t : TypeId} {x v : V} {f : Nat} (h : fieldV P t x f = .ok v) {G : Gh} {y : Value} (hy : VR G x y) (W : World) :
    ∃ w, (Instr.field t y f).run P W = .ok w W ∧ VR G v w := by
  unfold fieldV at h
  split at h
  · cases h
  · rename_i fd hfd
    obtain ⟨fs, hd, hf⟩ := fieldOf_some hfd
    split at h
    · cases hy with
      | agg _ vs hvs =>
        obtain ⟨w, h1, h2⟩ := part_sound h hvs W
        exact ⟨w, by simpa [Instr.field, run_underlying hd, hf, asAgg] using h1, h2⟩
    · cases h

theorem some_of_not {α : Type} {o : Option α} (h : ¬ (!o.isSome) = true) : ∃ d, o = some d := by
  cases o with
  | none => simp at h
  | some d => exact ⟨d, rfl⟩
theorem idxIn_some {x : V} {n k : Nat} (h : idxIn x n = some k) : ∃ kk i, x = .int kk i ∧ 0 ≤ i ∧ i < n ∧ k = i.toNat := by
  unfold idxIn at h
  split at h
  · rename_i kk i
    rw [cond_eq_ite] at h
    split at h
    · rename_i hc
      simp only [Bool.and_eq_true, decide_eq_true_eq] at hc
      cases h
      exact ⟨kk, i, rfl, hc.1, hc.2, rfl⟩
    · cases h
  · cases h
theorem indexAddr_sound {P : Program} {t : TypeId} {x ix v : V} (h : indexAddrV P t x ix = .ok v) {G : Gh} {y iy : Value} (hy : VR G x y) (hi : VR G ix iy) (W : World) :
    ∃ w, (Instr.indexAt t y iy).run P W = .ok w W ∧ VR G v w := by
  unfold indexAddrV at h
  split at h
  · rename_i n elem hd
    rw [cond_eq_ite] at h
    split at h
    · cases h
    · rename_i hel
      obtain ⟨de, hde⟩ := some_of_not hel
      split at h
      · cases h
      · rename_i k hk
        obtain ⟨kk, i, rfl, hi0, hin, rfl⟩ := idxIn_some hk
        cases hi
        have key : ∀ a : Addr, (Instr.indexAt t (.pointer (some a)) (.int kk i)).run P W = .ok (.pointer (some (a.add (i.toNat * sz P elem)))) W := by
          intro a
          simp [Instr.indexAt, asIntOf, run_underlying hd, Instr.sureAddr, hi0, hin, run_sizeOf hde]
        split at h
        · cases h
          cases hy with
          | ptr _ _ _ _ a hp => exact ⟨_, key a, (VR.ptr _ _ _ _ _ hp).ptrAdd⟩
        · cases h
          cases hy with
          | iptr _ _ b o c ty fr hb vs hv h => exact ⟨_, key _, (VR.iptr _ _ b o c ty fr hb vs hv h).iptrAdd⟩
        · cases h
  · rename_i elem hd
    rw [cond_eq_ite] at h
    split at h
    · cases h
    · rename_i hel
      obtain ⟨de, hde⟩ := some_of_not hel
      have key : ∀ (a : Addr) (n c : Nat) (kk : IntKind) (i : Int), 0 ≤ i → i < n →
          (Instr.indexAt t (.slice (some a) n c) (.int kk i)).run P W = .ok (.pointer (some (a.add (i.toNat * sz P elem)))) W := by
        intro a n c kk i h0 hn
        simp [Instr.indexAt, asIntOf, run_underlying hd, h0, hn, run_sizeOf hde]
      split at h
      · rename_i a ver es off len
        split at h
        · rename_i k hk
          rw [cond_eq_ite] at h
          split at h
          · rename_i hes
            have hes' : es = sz P elem := by simpa using hes
            cases h
            obtain ⟨kk, i, rfl, hi0, hin, rfl⟩ := idxIn_some hk
            cases hi
            cases hy with
            | sl _ _ _ _ _ p n c hs =>
              obtain ⟨rfl, h3, L, hL, hs⟩ := hs
              refine ⟨_, key p n c kk i hi0 hin, .ptr _ _ _ _ _ ⟨L, hL, ?_⟩⟩
              rcases hs with hs | ⟨h1, h2, h4, h5⟩
              · exact .inl hs
              · refine .inr ⟨h1, ?_⟩
                have hc : c ≠ 0 := by omega
                rw [h5 hc, addr_add, ← hes', h2]
                congr 1
                rw [Nat.add_mul]; omega
          · cases h
        · cases h
      · rename_i es
        split at h
        · rename_i k hk
          split at h
          · rename_i cs hcs
            rw [cond_eq_ite] at h
            split at h
            · rename_i hes
              have hes' : cs.length = sz P elem := by simpa using hes
              cases h
              obtain ⟨kk, i, rfl, hi0, hin, rfl⟩ := idxIn_some hk
              cases hi
              cases hy with
              | imm _ p n c e hn hc vs hv he hp =>
                subst hn
                refine ⟨_, key p es.length c kk i hi0 hin, ?_⟩
                have hne : cs.length = e := he cs (List.mem_of_getElem? hcs)
                rcases hp with hp | ⟨ca, ty, fr, h1, h2, h3⟩
                · omega
                · have get : ∀ {es : List (List V)} {vs : List (List Value)}, VRss G es vs → ∀ {k : Nat} {cs : List V}, es[k]? = some cs → ∃ l, vs[k]? = some l ∧ VRs G cs l := by
                    intro es vs h
                    induction es generalizing vs with
                    | nil => intro k cs hk; simp at hk
                    | cons x es ih =>
                      cases h with
                      | cons _ w _ ws h t =>
                        intro k cs hk
                        cases k with
                        | zero => simp at hk; subst hk; exact ⟨w, by simp, h⟩
                        | succ k => simp at hk; simpa using ih t hk
                  obtain ⟨l, l1, l2⟩ := get hv hcs
                  obtain ⟨pb, po, ps⟩ := p
                  simp only at h1 h2 h3
                  subst h2
                  rw [addr_add, ← hes', hne]
                  exact .iptr cs 0 pb (po + i.toNat * e) ca ty fr h1 l (fun q w hq => h3 _ l l1 q w hq) l2
            · cases h
          · cases h
        · cases h
      · cases h
  · cases h

theorem index_sound {P : Program} {t : TypeId} {x ix v : V} (h : indexV P t x ix = .ok v) {G : Gh} {y iy : Value} (hy : VR G x y) (hi : VR G ix iy) (W : World) :
    ∃ w, (Instr.index t y iy).run P W = .ok w W ∧ VR G v w := by
  unfold indexV at h
  split at h
  · rename_i n elem hd
    rw [cond_eq_ite] at h
    split at h
    · cases h
    · rename_i hel
      obtain ⟨de, hde⟩ := some_of_not hel
      split at h
      · split at h
        · rename_i k hk
          obtain ⟨kk, i, rfl, hi0, hin, rfl⟩ := idxIn_some hk
          cases hi
          cases hy with
          | agg _ vs hvs =>
            obtain ⟨w, h1, h2⟩ := part_sound h hvs W
            exact ⟨w, by simpa [Instr.index, asIntOf, run_underlying hd, hi0, hin, run_sizeOf hde] using h1, h2⟩
        · cases h
      · cases h
  · rename_i hd
    split at h
    · rename_i s
      split at h
      · rename_i k hk
        obtain ⟨kk, i, rfl, hi0, hin, rfl⟩ := idxIn_some hk
        cases hi
        split at h
        · rename_i b hb
          cases h
          cases hy
          have : (⟨⟨s⟩⟩ : ByteArray)[i.toNat]? = some b := by
            have h1 := (List.getElem?_eq_some_iff.1 hb)
            obtain ⟨h1, h2⟩ := h1
            have hsz : i.toNat < (⟨⟨s⟩⟩ : ByteArray).size := h1
            rw [getElem?_pos (⟨⟨s⟩⟩ : ByteArray) i.toNat hsz]
            exact congrArg some h2
          exact ⟨_, by simp [Instr.index, asIntOf, run_underlying hd, hi0, this], .int _ _⟩
        · cases h
      · cases h
    · cases h
  · cases h
end Go.AM
