/-
  clear, and elements laid over a row's.
-/
import Derived.Test.YtcdegmbabbgiaaaAmMap
import Derived.Test.YtcdegmbabbgiaaaAmAppend
set_option linter.unusedSimpArgs false
set_option linter.unusedVariables false
namespace Go.AM

theorem spliceL_length (l : List (List V)) (a : Nat) (mid : List (List V)) (h : a + mid.length ≤ l.length) : (spliceL l a mid).length = l.length := by
  simp [spliceL]; omega
theorem spliceL_get (l : List (List V)) (a : Nat) (mid : List (List V)) (h : a + mid.length ≤ l.length) (i : Nat) :
    (spliceL l a mid)[i]? = if a ≤ i ∧ i < a + mid.length then mid[i - a]? else l[i]? := by
  unfold spliceL
  have hl : (l.take a).length = a := by simp; omega
  rcases Nat.lt_or_ge i a with q | q
  · rw [if_neg (by omega), List.getElem?_append_left (by omega), List.getElem?_take, if_pos q]
  · rw [List.getElem?_append_right (by omega), hl]
    rcases Nat.lt_or_ge i (a + mid.length) with q2 | q2
    · rw [if_pos ⟨q, q2⟩, List.getElem?_append_left (by omega)]
    · rw [if_neg (by omega), List.getElem?_append_right (by omega), List.getElem?_drop]
      congr 1; omega
theorem RowR.over {G : Gh} {c : Array Value} {co es : Nat} {elems : List (List V)} (h : RowR G c co es elems) {a : Nat} {mid : List (List V)} {ws : List Value} (hm : ∀ x ∈ mid, x.length = es) (hw : VRs G mid.flatten ws)
    (hle : a + mid.length ≤ elems.length) (hsz : co + elems.length * es ≤ c.size) : RowR G (writeAt c (co + a * es) ws) co es (spliceL elems a mid) := by
  have hwl : ws.length = mid.length * es := by rw [← hw.length, flat_length _ _ hm]
  have hb : (a + mid.length) * es ≤ elems.length * es := Nat.mul_le_mul_right _ hle
  rw [Nat.add_mul] at hb
  intro i cs hi
  rw [spliceL_get _ _ _ hle] at hi
  split at hi
  · rename_i hin
    have hmem : cs ∈ mid := List.mem_of_getElem? hi
    refine ⟨hm cs hmem, fun j v hj => ?_⟩
    have hj' : j < es := by rw [← hm cs hmem]; exact (List.getElem?_eq_some_iff.1 hj).1
    have : mid.flatten[(i - a) * es + j]? = some v := by rw [flat_get es mid hm (i - a) j hj', hi]; exact hj
    obtain ⟨w, w1, w2⟩ := hw.get this
    refine ⟨w, ?_, w2⟩
    have hlt : (i - a + 1) * es ≤ mid.length * es := Nat.mul_le_mul_right _ (by omega)
    rw [Nat.succ_mul] at hlt
    have he : i * es = a * es + (i - a) * es := by rw [← Nat.add_mul]; congr 1; omega
    rw [writeAt_get, if_pos ⟨by omega, by omega, by omega⟩]
    rw [show co + i * es + j - (co + a * es) = (i - a) * es + j by omega]; exact w1
  · rename_i hout
    refine ⟨(h i cs hi).1, fun j v hj => ?_⟩
    have hj' : j < es := by rw [← (h i cs hi).1]; exact (List.getElem?_eq_some_iff.1 hj).1
    obtain ⟨w, w1, w2⟩ := (h i cs hi).2 j v hj
    refine ⟨w, ?_, w2⟩
    rw [writeAt_get, if_neg]
    · exact w1
    · intro hc
      rcases Nat.lt_or_ge i a with q | q
      · have : (i + 1) * es ≤ a * es := Nat.mul_le_mul_right _ q
        rw [Nat.succ_mul] at this; omega
      · have : (a + mid.length) * es ≤ i * es := Nat.mul_le_mul_right _ (by omega)
        rw [Nat.add_mul] at this; omega

theorem zeroOne_some {P : Program} {e : TypeId} {z : List V} (h : zeroOne P e = some z) :
    ∃ i zw, P.info? e = some i ∧ i.zero = some zw ∧ i.size = sz P e ∧ z.length = sz P e ∧ allOne z = true ∧ zw.cells.size = sz P e ∧ (∀ G : Gh, VRs G z zw.cells.toList) ∧ (∀ W, (zeroValue e).run P W = .ok zw W) := by
  unfold zeroOne at h
  split at h
  · rename_i z0 hz
    rw [cond_eq_ite] at h
    split at h
    · rename_i hb
      cases h
      simp only [Bool.and_eq_true, Nat.beq_eq] at hb
      obtain ⟨i, zw, hi, hzw, ho⟩ := zeroOf_some hz
      have hv := fun G : Gh => (ofValue_VR G ho).cells
      refine ⟨i, zw, hi, hzw, (sz_of_info hi).symm, hb.1, hb.2, ?_, hv, fun W => by simp [zeroValue, typeInfo, hi, hzw]⟩
      have := (hv ⟨fun _ => none, fun _ => none, fun _ => none, fun _ => 0⟩).length
      simp at this; omega
    · cases h
  · cases h
theorem ones_replicate {z : List V} (h : allOne z = true) (n : Nat) : allOne (List.replicate n z).flatten = true := by
  refine List.all_eq_true.2 fun v hv => ?_
  obtain ⟨l, hl, hvl⟩ := List.mem_flatten.1 hv
  rw [List.eq_of_mem_replicate hl] at hvl
  exact allOne_mem h hvl
theorem clear_sound {P : Program} {ts : Array TypeId} {t ty : TypeId} (ht : ts[0]? = some t) {x v : V} {S S' : St} (h : clearV P t x S = .ok (v, S'))
    {F : Nat → Option Obj} {G : Gh} {W : World} (R : Rel F G S W.heap) {xc : Value} (hx : VR G x xc) {fr : Option Nat} :
    ∃ W' G' w, (Builtin.clear_ ts ty #[xc]).run P W = .ok w W' ∧ Sim F fr G S W G' S' W' ∧ VR G' v w := by
  unfold clearV at h
  split at h
  · rename_i e he
    cases h
    cases hx
    exact ⟨W, G, .tuple #[], by simp [Builtin.clear_, ht, run_underlying (elemT_some he)], Sim.refl R, .tup _ _ .nil⟩
  · rename_i e a ver es0 off len he
    have hd := elemT_some he
    cases hx with
    | sl _ _ _ _ _ p n c hsl =>
      obtain ⟨rfl, hnc, L, hL, hsl⟩ := hsl
      rw [cond_eq_ite] at h
      split at h
      · rename_i h0
        cases h
        have h0' : n = 0 := by simpa using h0
        subst h0'
        exact ⟨W, G, .tuple #[], by simp [Builtin.clear_, ht, run_underlying hd], Sim.refl R, .tup _ _ .nil⟩
      · rename_i h0
        have hn0 : n ≠ 0 := by simpa using h0
        split at h
        · rename_i z es elems hz hrow
          have hr := getRow_ok hrow
          rw [cond_eq_ite] at h
          split at h
          · rename_i hok
            cases h
            simp only [Bool.and_eq_true, Nat.beq_eq, Nat.ble_eq] at hok
            obtain ⟨hes, hle⟩ := hok
            obtain ⟨i, zw, hi, hzw, his, hzl, hz1, hzs, hzv, hzr⟩ := zeroOne_some hz
            obtain ⟨L', hL', r1, r2, r3, ca, cty, cfr, hcb, r4, r5, r6⟩ := R.blk a _ hr
            rw [hL] at hL'; cases hL'
            rcases hsl with hsl | ⟨_, _, hc2, hp⟩
            · omega
            · have hp' := hp (by omega)
              subst hp'
              have hml : ∀ x ∈ List.replicate n z, x.length = es := fun x hx => by rw [List.eq_of_mem_replicate hx, hzl, hes]
              have hzz := zeros_sound (hzv G) n
              have hwl : (Builtin.zeroCells zw.cells n).toList.length = n * es := by
                show (Builtin.zeroCells zw.cells n).size = n * es
                rw [zeroCells_size, hzs, hes]
              have hcap : (off + n) * es ≤ L.cap * es := Nat.mul_le_mul_right _ (by omega)
              rw [Nat.add_mul] at hcap
              obtain ⟨W', s1, s2, s3, s4, s5⟩ := run_storeCells (P := P) (b := L.cb) (o := L.co + off * L.es) (ty := cty) (fr := cfr) (Builtin.zeroCells zw.cells n).toList 0 W ca hcb
                (hzz.ones (ones_replicate hz1 n)) (by rw [r2, hwl]; omega) (fun k hk1 hk2 => r5.1 k (by rw [r2] at hk1; omega) (by rw [r2, hwl] at hk2; omega))
              simp only [Nat.add_zero] at s2
              refine ⟨W', G, .tuple #[], ?_, ⟨G.le_refl, ?_, s5, Nat.le_refl _, fun _ _ _ _ => ⟨rfl, rfl⟩, fun x hx _ _ => ?_, fun _ => rfl⟩, .tup _ _ .nil⟩
              · have : n ≠ 0 := hn0
                obtain ⟨m, rfl⟩ : ∃ m, n = m + 1 := ⟨n - 1, by omega⟩
                simp [Builtin.clear_, ht, run_underlying hd, hzr]
                rw [s1]; rfl
              · have hle' : off + (List.replicate n z).length ≤ elems.length := by simpa using hle
                have hcs : elems.length * es ≤ L.cap * es := Nat.mul_le_mul_right _ r3
                refine R.keepRow hr hL s3 s4 ⟨r1, r2, by rw [spliceL_length _ _ _ hle']; exact r3, _, cty, cfr, s2, by rw [writeAt_size]; exact r4, ⟨r5.1, by rw [writeAt_size]; exact r5.2⟩, ?_⟩
                rw [r2]
                exact r6.over hml hzz hle' (by omega)
              · show (S.heap.put a _).get x = none
                rw [Tr.get_put_ne _ _ _ _ (R.small a _ hr) (fun e => by rw [e, hr] at hx; cases hx)]; exact hx
          · cases h
        · cases h
  · cases h
end Go.AM
