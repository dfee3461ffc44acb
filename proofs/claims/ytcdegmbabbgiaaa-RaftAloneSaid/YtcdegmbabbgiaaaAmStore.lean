/-
  Stores into rows, and rows that come.
-/
import Derived.Test.YtcdegmbabbgiaaaAmMem
namespace Go.AM

def writeAt (c : Array Value) (o : Nat) : List Value → Array Value
  | [] => c
  | v :: l => writeAt (c.setIfInBounds o v) (o + 1) l
theorem writeAt_size (c : Array Value) (o : Nat) (l : List Value) : (writeAt c o l).size = c.size := by
  induction l generalizing c o with
  | nil => rfl
  | cons v l ih => simp [writeAt, ih]
theorem writeAt_get (c : Array Value) (o : Nat) (l : List Value) (k : Nat) :
    (writeAt c o l)[k]? = if o ≤ k ∧ k < o + l.length ∧ k < c.size then l[k - o]? else c[k]? := by
  induction l generalizing c o with
  | nil => simp only [writeAt, List.length_nil]; rw [if_neg (by omega)]
  | cons v l ih =>
    simp only [writeAt, ih, Array.size_setIfInBounds, List.length_cons]
    by_cases h1 : k = o
    · subst h1
      rw [if_neg (by omega)]
      by_cases h2 : k < c.size
      · rw [if_pos (by omega)]; simp [h2]
      · rw [if_neg (by omega)]; simp [h2]
    · rw [Array.getElem?_setIfInBounds_ne (by omega)]
      by_cases h2 : o + 1 ≤ k ∧ k < o + 1 + l.length ∧ k < c.size
      · rw [if_pos h2, if_pos (by omega)]
        obtain ⟨m, rfl⟩ : ∃ m, k = o + 1 + m := ⟨k - (o + 1), by omega⟩
        rw [show o + 1 + m - (o + 1) = m by omega, show o + 1 + m - o = m + 1 by omega]
        simp
      · rw [if_neg h2, if_neg (by omega)]

theorem setCell_heap {W : World} {b o : Nat} {v : Value} {c : Array Value} {ty : TypeId} {fr : Nat × Nat} (h : W.heap[b]? = some (.cells c ty fr)) :
    (W.setCell ⟨b, o, none⟩ v).heap[b]? = some (.cells (c.setIfInBounds o v) ty fr) ∧ (∀ k, k ≠ b → (W.setCell ⟨b, o, none⟩ v).heap[k]? = W.heap[k]?) ∧
    (W.setCell ⟨b, o, none⟩ v).heap.size = W.heap.size ∧ Same W (W.setCell ⟨b, o, none⟩ v) := by
  refine ⟨?_, ?_, by simp, ⟨rfl, rfl, rfl, by simp⟩⟩
  · simp [World.setCell, Array.getElem?_modify, h]
  · intro k hk
    simp only [World.setCell, Array.getElem?_modify]
    rw [if_neg (by omega)]
theorem run_storeCells {P : Program} {b o : Nat} {ty : TypeId} {fr : Nat × Nat} : ∀ (l : List Value) (i : Nat) (W : World) (c : Array Value),
    W.heap[b]? = some (.cells c ty fr) → (∀ v ∈ l, v.oneCell' = true) → o + i + l.length ≤ c.size → (∀ k, o + i ≤ k → k < o + i + l.length → ¬ (fr.1 ≤ k ∧ k < fr.2)) →
    ∃ W', (storeCells ⟨b, o, none⟩ l i).run P W = .ok () W' ∧ W'.heap[b]? = some (.cells (writeAt c (o + i) l) ty fr) ∧ (∀ k, k ≠ b → W'.heap[k]? = W.heap[k]?) ∧
      W'.heap.size = W.heap.size ∧ Same W W' := by
  intro l
  induction l with
  | nil =>
    intro i W c hb _ _ _
    exact ⟨W, by simp [storeCells], by simpa [writeAt] using hb, fun _ _ => rfl, rfl, Same.refl W⟩
  | cons v l ih =>
    intro i W c hb ho hs hf
    have hcell : W.cell? ⟨b, o + i, none⟩ = some (c[o + i]'(by simp at hs; omega)) := by
      rw [cell_of_heap hb]; exact Array.getElem?_eq_getElem _
    have hfz : W.frozen? ⟨b, o + i, none⟩ = false := by
      have := hf (o + i) (by omega) (by simp)
      simp only [World.frozen?, hb]
      simp only [Bool.and_eq_false_iff, decide_eq_false_iff_not]
      omega
    obtain ⟨h1, h2, h3, h4⟩ := setCell_heap (o := o + i) (v := v) hb
    obtain ⟨W', r1, r2, r3, r4, r5⟩ := ih (i + 1) (W.setCell ⟨b, o + i, none⟩ v) (c.setIfInBounds (o + i) v) h1 (fun x hx => ho x (List.mem_cons_of_mem _ hx))
      (by simp at hs ⊢; omega) (fun k hk1 hk2 => hf k (by omega) (by simp; omega))
    refine ⟨W', ?_, ?_, fun k hk => (r3 k hk).trans (h2 k hk), r4.trans h3, h4.trans r5⟩
    · simp only [storeCells, Sem.run_bind, addr_add, run_store P W _ v _ (ho v (by simp)), hcell, hfz, Bool.false_eq_true, if_false, Result.andThen_ok]
      exact r1
    · simpa [writeAt, Nat.add_assoc] using r2

theorem allOne_mem {l : List V} (h : allOne l = true) {v : V} (hv : v ∈ l) : v.one = true := List.all_eq_true.1 h v hv
theorem VRs.ones {G : Gh} {vs : List V} {ws : List Value} (h : VRs G vs ws) (ho : allOne vs = true) : ∀ w ∈ ws, w.oneCell' = true := by
  intro w hw
  obtain ⟨i, hi, e⟩ := List.getElem_of_mem hw
  have hi' : i < vs.length := by rw [h.length]; exact hi
  obtain ⟨w', hw', r⟩ := h.get (i := i) (v := vs[i]) (by simp)
  have : w' = w := by
    rw [List.getElem?_eq_getElem hi] at hw'
    exact (Option.some.inj hw').symm.trans e
  subst this
  exact r.one (allOne_mem ho (List.getElem_mem _))
theorem splice_length (cs : List V) (j : Nat) (xs : List V) (h : j + xs.length ≤ cs.length) : (splice cs j xs).length = cs.length := by
  simp [splice]; omega
theorem splice_get (cs : List V) (j : Nat) (xs : List V) (h : j + xs.length ≤ cs.length) (k : Nat) :
    (splice cs j xs)[k]? = if j ≤ k ∧ k < j + xs.length then xs[k - j]? else cs[k]? := by
  unfold splice
  by_cases h1 : k < j
  · rw [if_neg (by omega), List.getElem?_append_left (by simp; omega), List.getElem?_take, if_pos h1]
  · rw [List.getElem?_append_right (by simp; omega)]
    have e : (cs.take j).length = j := by simp; omega
    rw [e]
    by_cases h2 : k < j + xs.length
    · rw [if_pos (by omega), List.getElem?_append_left (by omega)]
    · rw [if_neg (by omega), List.getElem?_append_right (by omega), List.getElem?_drop]
      congr 1; omega

/-- A store into one element of a row. -/
theorem store_sound {P : Program} {t : TypeId} {p x : V} {S S' : St} (h : storeV P t p x S = .ok S') {F : Nat → Option Obj} {G : Gh} {W : World} (R : Rel F G S W.heap)
    {q y : Value} (hq : VR G p q) (hy : VR G x y) : ∃ W', (Instr.storeAt t q y).run P W = .ok () W' ∧ Rel F G S' W'.heap ∧ Same W W' ∧ S'.next = S.next ∧ (∀ a, S.heap.get a = none → S'.heap.get a = none) := by
  unfold storeV at h
  split at h
  · rename_i a ver i j d hd
    split at h
    · cases h
    · rename_i es elems hrow
      have hr := getRow_ok hrow
      split at h
      · rename_i cs hcs
        rw [cond_eq_ite] at h
        split at h
        · rename_i hc
          cases h
          simp only [Bool.and_eq_true, Nat.beq_eq, Nat.ble_eq] at hc
          obtain ⟨⟨hsz, hone⟩, hle⟩ := hc
          cases hq with
          | ptr _ _ _ _ ad hp =>
            obtain ⟨L, hL, hp⟩ := hp
            obtain ⟨L', hL', r1, r2, r3, c, ty, fr, hcb, r4, r5, r6⟩ := R.blk a _ hr
            rw [hL] at hL'; cases hL'
            rcases hp with hp | ⟨_, rfl⟩
            · omega
            · have hxy := hy.cells
              have hlen := hxy.length
              have hi : i < elems.length := (List.getElem?_eq_some_iff.1 hcs).1
              have hcl := (r6 i cs hcs).1
              have hin : (i + 1) * es ≤ L.cap * es := Nat.mul_le_mul_right es (by omega)
              have hin' : i * es + es ≤ L.cap * es := by rw [Nat.succ_mul] at hin; exact hin
              obtain ⟨W', s1, s2, s3, s4, s5⟩ := run_storeCells (P := P) (b := L.cb) (o := L.co + i * L.es + j) (ty := ty) (fr := fr) y.cells.toList 0 W c hcb (hxy.ones hone)
                (by rw [r2]; omega) (fun k hk1 hk2 => r5.1 k (by rw [r2] at hk1; omega) (by rw [r2] at hk2; omega))
              simp only [Nat.add_zero] at s2
              refine ⟨W', ?_, ?_, s5, rfl, fun x hx => by
                show (S.heap.put a _).get x = none
                rw [Tr.get_put_ne _ _ _ _ (R.small a _ hr) (fun e => by rw [e, hr] at hx; cases hx)]; exact hx⟩
              · simp only [Instr.storeAt, Instr.sureAddr, Sem.run_bind, Sem.run_pure, Result.andThen_ok, storeVar, run_sizeOf hd]
                rw [if_neg (by rw [← hsz, hlen]; simp)]
                exact s1
              · refine R.keepRow hr hL s3 s4 ⟨r1, r2, by simpa using r3, _, ty, fr, s2, by rw [writeAt_size]; exact r4, ⟨r5.1, by rw [writeAt_size]; exact r5.2⟩, ?_⟩
                have hset : ∀ (k : Nat) (w : Value), c[k]? = some w → ¬ (L.co + i * L.es + j ≤ k ∧ k < L.co + i * L.es + j + x.cells.length) →
                    (writeAt c (L.co + i * L.es + j) y.cells.toList)[k]? = some w := by
                  intro k w hk hn
                  rw [writeAt_get, if_neg (by omega)]; exact hk
                intro i' cs' hcs'
                rw [List.getElem?_set] at hcs'
                by_cases hii : i = i'
                · subst hii
                  rw [if_pos rfl, if_pos hi] at hcs'
                  cases hcs'
                  refine ⟨by rw [splice_length _ _ _ hle]; exact hcl, fun q v hv => ?_⟩
                  rw [splice_get _ _ _ hle] at hv
                  split at hv
                  · rename_i hq
                    obtain ⟨w, w1, w2⟩ := hxy.get hv
                    refine ⟨w, ?_, w2⟩
                    rw [writeAt_get, if_pos ⟨by rw [r2]; omega, by rw [r2]; omega, by omega⟩]
                    rw [r2, show L.co + i * es + q - (L.co + i * es + j) = q - j by omega]; exact w1
                  · obtain ⟨w, w1, w2⟩ := (r6 i cs hcs).2 q v hv
                    exact ⟨w, hset _ w w1 (by rw [r2]; omega), w2⟩
                · rw [if_neg hii] at hcs'
                  refine ⟨(r6 i' cs' hcs').1, fun q v hv => ?_⟩
                  obtain ⟨w, w1, w2⟩ := (r6 i' cs' hcs').2 q v hv
                  have hq : q < es := by
                    have := (List.getElem?_eq_some_iff.1 hv).1
                    rw [(r6 i' cs' hcs').1] at this; exact this
                  refine ⟨w, hset _ w w1 ?_, w2⟩
                  rw [r2]
                  rcases Nat.lt_or_ge i' i with hlt | hge
                  · have : (i' + 1) * es ≤ i * es := Nat.mul_le_mul_right es (by omega)
                    rw [Nat.succ_mul] at this; omega
                  · have : (i + 1) * es ≤ i' * es := Nat.mul_le_mul_right es (by omega)
                    rw [Nat.succ_mul] at this; omega
        · cases h
      · cases h
  · cases h
end Go.AM
