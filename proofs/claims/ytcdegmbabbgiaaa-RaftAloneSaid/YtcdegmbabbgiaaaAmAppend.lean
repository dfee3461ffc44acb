/-
  append, and conversions that read or make bytes.
-/
import Derived.Test.YtcdegmbabbgiaaaAmNew
namespace Go.AM

theorem rowR_of_flat_at {G : Gh} {c : Array Value} {o es : Nat} {elems : List (List V)} {ws : List Value} (hl : ∀ x ∈ elems, x.length = es) (hv : VRs G elems.flatten ws)
    (hc : ∀ (k : Nat) (w : Value), ws[k]? = some w → c[o + k]? = some w) : RowR G c o es elems := by
  intro i cs hi
  have hcs : cs ∈ elems := List.mem_of_getElem? hi
  refine ⟨hl cs hcs, fun j v hj => ?_⟩
  have hj' : j < es := by rw [← hl cs hcs]; exact (List.getElem?_eq_some_iff.1 hj).1
  have : elems.flatten[i * es + j]? = some v := by rw [flat_get es elems hl i j hj', hi]; exact hj
  obtain ⟨w, w1, w2⟩ := hv.get this
  exact ⟨w, by rw [Nat.add_assoc]; exact hc _ _ w1, w2⟩
theorem RowR.lens {G : Gh} {c : Array Value} {o es : Nat} {elems : List (List V)} (h : RowR G c o es elems) : ∀ x ∈ elems, x.length = es := by
  intro x hx
  obtain ⟨i, hi⟩ := List.mem_iff_getElem?.1 hx
  exact (h i x hi).1
/-- Some elements of a row, side by side. -/
theorem RowR.flat {G : Gh} {ca : Array Value} {co es : Nat} {elems : List (List V)} (h : RowR G ca co es elems) (off len : Nat) (hle : off + len ≤ elems.length) :
    ∃ ws, VRs G ((elems.drop off).take len).flatten ws ∧ ∀ (k : Nat) (w : Value), ws[k]? = some w → ca[co + off * es + k]? = some w := by
  induction len generalizing off with
  | zero => exact ⟨[], by simp; exact .nil, by simp⟩
  | succ len ih =>
    have hin : off < elems.length := by omega
    obtain ⟨ws, h1, h2⟩ := ih (off + 1) (by omega)
    have hcs := h off elems[off] (by simp)
    have hc : ∀ cs : List V, (∀ j v, cs[j]? = some v → ∃ w, ca[co + off * es + j]? = some w ∧ VR G v w) → ∃ us, VRs G cs us ∧ ∀ (k : Nat) (w : Value), us[k]? = some w → ca[co + off * es + k]? = some w := by
      intro cs hcs
      generalize co + off * es = o at hcs
      induction cs generalizing o with
      | nil => exact ⟨[], .nil, by simp⟩
      | cons v cs ih2 =>
        obtain ⟨w, a, b⟩ := hcs 0 v (by simp)
        obtain ⟨us, u1, u2⟩ := ih2 (o + 1) (fun j v hv => by
          obtain ⟨w, a, b⟩ := hcs (j + 1) v (by simpa using hv)
          exact ⟨w, by rw [show o + 1 + j = o + (j + 1) by omega]; exact a, b⟩)
        refine ⟨w :: us, .cons _ _ _ _ b u1, fun k w' hk => ?_⟩
        cases k with
        | zero => simp at hk; subst hk; exact a
        | succ k => have := u2 k w' (by simpa using hk); rw [show o + (k + 1) = o + 1 + k by omega]; exact this
    obtain ⟨us, u1, u2⟩ := hc elems[off] hcs.2
    have hul : us.length = es := by rw [← u1.length]; exact hcs.1
    have e : (elems.drop off).take (len + 1) = elems[off] :: (elems.drop (off + 1)).take len := by
      rw [List.drop_eq_getElem_cons hin, List.take_succ_cons]
    refine ⟨us ++ ws, by rw [e, List.flatten_cons]; exact u1.append h1, fun k w hk => ?_⟩
    rcases Nat.lt_or_ge k us.length with hlt | hge
    · rw [List.getElem?_append_left hlt] at hk; exact u2 k w hk
    · rw [List.getElem?_append_right hge] at hk
      have := h2 _ w hk
      rw [show co + off * es + k = co + (off + 1) * es + (k - us.length) by rw [Nat.add_mul]; omega]; exact this

theorem zeroCells_size (z : Array Value) (n : Nat) : (Builtin.zeroCells z n).size = n * z.size := by simp [Builtin.zeroCells]
theorem grownCap_ge (W : World) (need old : Nat) (e : TypeId) (_h : need < 2 ^ 63) : need ≤ grownCap W need old e := by
  unfold grownCap Question.cut
  exact Nat.le_add_right _ _

theorem append_sound {P : Program} {ts : Array TypeId} {t u ty : TypeId} (ht0 : ts[0]? = some t) (ht1 : ts[1]? = some u)
    (hu : (∃ e, P.underlying u = some (.slice e)) ∨ P.underlying u = some .string) {s x : V} {fr : Option Nat} {S S' : St} {v : V} (h : appendV P t s x fr S = .ok (v, S'))
    {F : Nat → Option Obj} {G : Gh} {W : World} (R : Rel F G S W.heap) (hf : FrOK fr G S) {sc xc : Value} (hs : VR G s sc) (hx : VR G x xc) :
    ∃ W' G' w, (Builtin.append_ ts ty #[sc, xc]).run P W = .ok w W' ∧ Sim F fr G S W G' S' W' ∧ VR G' v w := by
  unfold appendV at h
  split at h
  · cases h
  · rename_i e he
    have hd := elemT_some he
    split at h
    · cases h
    · rename_i xs hxs
      rw [cond_eq_ite] at h
      split at h
      · cases h
      · rename_i hok
        simp only [Bool.not_eq_true, Bool.not_eq_false', Bool.and_eq_true] at hok
        obtain ⟨⟨hall, hones⟩, hzf⟩ := hok
        have hxl : ∀ cs ∈ xs, cs.length = sz P e := by
          intro cs hcs
          have := List.all_eq_true.1 hall cs hcs
          simpa using this
        obtain ⟨z, hz, hzl⟩ : ∃ z, zeroOf P e = some z ∧ z.cells.length = sz P e := by
          unfold zeroFits at hzf
          split at hzf
          · rename_i z hz; exact ⟨z, hz, by simpa using hzf⟩
          · cases hzf
        obtain ⟨i, zw, hi, hzw, ho⟩ := zeroOf_some hz
        have hzs : zw.cells.size = i.size := by
          have := ((ofValue_VR G ho).cells).length
          rw [← sz_of_info hi]
          simp at this; omega
        have hszi : sz P e = i.size := sz_of_info hi
        have hby : P.bytesOf e = i.bytes := bytes_of_info hi
        rw [hszi] at hxl h
        obtain ⟨hlen, ws, hws, hfirst⟩ := elemsOf_sound (P := P) hxs hxl R hx
        have hwl : ws.length = xs.length * i.size := by rw [← hws.length, flat_length _ _ hxl]
        split at h
        · -- nil
          cases hs
          split at h
          · -- nothing
            cases h
            have hws0 : ws = [] := List.eq_nil_of_length_eq_zero (by rw [hwl]; simp)
            subst hws0
            have hlen0 := hlen W
            have hf0 := hfirst W rfl
            simp only [List.length_nil] at hlen0 hf0
            refine ⟨W, G, .slice none 0 0, ?_, Sim.refl R, .nils⟩
            rcases hu with ⟨e', hu⟩ | hu <;>
              simp [Builtin.append_, ht0, ht1, run_underlying hd, run_underlying hu, sizeOf, typeInfo, hi, hlen0, hf0]
          · rename_i hne
            rw [cond_eq_ite] at h
            split at h
            · rename_i hroom
              simp only [room, Bool.and_eq_true, Nat.ble_eq, Nat.blt_eq] at hroom
              obtain ⟨hroom, hlm⟩ := hroom
              rw [hby] at hroom
              unfold lim at hlm
              split at h
              · cases h
              · rename_i a S1 hnew
                cases h
                have hpos : 0 < xs.length := by
                  rcases Nat.eq_zero_or_pos xs.length with q | q
                  · exact absurd (List.eq_nil_of_length_eq_zero q) (by simpa using hne)
                  · exact q
                have hge := grownCap_ge W xs.length 0 e (by omega)
                have hn0 : xs.length ≠ 0 := by omega
                have h63 : ¬ (9223372036854775807 < (xs.length : Int)) := by omega
                have h48 : ¬ (281474976710656 < Builtin.nextslicecap xs.length 0 * i.bytes) := by rw [nextslicecap_zero hpos]; omega
                have hf0 := hfirst W.drew rfl
                have hsize : (ws.toArray ++ Builtin.zeroCells zw.cells (grownCap W xs.length 0 e - xs.length)).size = grownCap W xs.length 0 e * i.size := by
                  simp only [Array.size_append, List.size_toArray, zeroCells_size, hwl, hzs]
                  rw [← Nat.add_mul]; congr 1; omega
                obtain ⟨G', h1, h2⟩ := newBlk_sound (W' := W.drew.alloc (.cells (ws.toArray ++ Builtin.zeroCells zw.cells (grownCap W xs.length 0 e - xs.length)) e)) hnew R hf rfl
                  ((Same.drew W).trans (Same.alloc _ _)) hge (by rw [hsize]; exact Nat.le_refl _)
                  (rowR_of_flat hxl hws (fun k w hk => by
                    have : k < ws.length := (List.getElem?_eq_some_iff.1 hk).1
                    rw [Array.getElem?_append_left (by simpa using this)]; simpa using hk))
                refine ⟨_, G', .slice (some ⟨W.heap.size, 0, none⟩) xs.length (grownCap W xs.length 0 e), ?_, h1, .sl _ _ _ _ _ _ _ _ ⟨rfl, hge, _, h2, .inr ⟨rfl, rfl, by simp, fun _ => by simp⟩⟩⟩
                rcases hu with ⟨e', hu⟩ | hu <;>
                  simp [Builtin.append_, ht0, ht1, run_underlying hd, run_underlying hu, sizeOf, typeInfo, zeroValue, hi, hzw, hlen W, hn0, h63, h48, Question.forced, run_firstCells_none, hf0, newRow, grownCap]
            · cases h
        · -- a row
          rename_i a ver es0 off len
          split at h
          · cases h
          · rename_i es elems hrow
            have hr := getRow_ok hrow
            rw [cond_eq_ite] at h
            split at h
            · rename_i hok
              simp only [Bool.and_eq_true, Nat.ble_eq, Nat.beq_eq, room, Nat.blt_eq] at hok
              obtain ⟨⟨hle, hes⟩, hroom, hlm⟩ := hok
              subst hes
              cases h
              rw [hby] at hroom
              unfold lim at hlm
              cases hs with
              | sl _ _ _ _ _ p n c hsl =>
                obtain ⟨rfl, hc1, L, hL, hsl⟩ := hsl
                obtain ⟨L', hL', r1, r2, r3, ca, cty, cfr, hcb, r4, r5, r6⟩ := R.blk a _ hr
                rw [hL] at hL'; cases hL'
                rcases hsl with hsl | ⟨_, _, hc2, hp⟩
                · omega
                · have hlens := r6.lens
                  have holdl : ∀ x ∈ (elems.drop off).take n, x.length = i.size := fun x hx => hlens x (List.mem_of_mem_drop (List.mem_of_mem_take hx))
                  have hol : ((elems.drop off).take n).length = n := by simp; omega
                  have hnewl : ∀ x ∈ (elems.drop off).take n ++ xs, x.length = i.size := by
                    intro x hx
                    rcases List.mem_append.1 hx with hx | hx
                    · exact holdl x hx
                    · exact hxl x hx
                  obtain ⟨os, o1, o2⟩ := r6.flat off n hle
                  have hosl : os.length = n * i.size := by rw [← o1.length, flat_length _ _ holdl, hol]
                  by_cases hfit : n + xs.length ≤ c
                  · -- in place
                    have hcap : (off + c) * i.size ≤ L.cap * i.size := Nat.mul_le_mul_right _ hc2
                    rw [Nat.add_mul] at hcap
                    have hfc : (n + xs.length) * i.size ≤ c * i.size := Nat.mul_le_mul_right _ hfit
                    rw [Nat.add_mul] at hfc
                    have hstore : ∃ W', (storeCells (p.add (n * i.size)) ws).run P W = .ok () W' ∧ W'.heap[L.cb]? = some (.cells (writeAt ca (L.co + off * i.size + n * i.size) ws) cty cfr) ∧
                        (∀ k, k ≠ L.cb → W'.heap[k]? = W.heap[k]?) ∧ W'.heap.size = W.heap.size ∧ Same W W' := by
                      rcases Nat.eq_zero_or_pos c with h0 | h0
                      · have hws0 : ws = [] := List.eq_nil_of_length_eq_zero (by rw [hwl, show xs.length = 0 by omega]; simp)
                        subst hws0
                        exact ⟨W, by simp [storeCells], by simpa [writeAt] using hcb, fun _ _ => rfl, rfl, Same.refl W⟩
                      · have hp' := hp (by omega)
                        subst hp'
                        rw [addr_add, r2]
                        obtain ⟨W', s1, s2, s3, s4, s5⟩ := run_storeCells (P := P) (b := L.cb) (o := L.co + off * i.size + n * i.size) (ty := cty) (fr := cfr) ws 0 W ca hcb
                          (hws.ones (by
                            refine List.all_eq_true.2 fun v hv => ?_
                            obtain ⟨l, hl, hvl⟩ := List.mem_flatten.1 hv
                            exact allOne_mem (List.all_eq_true.1 hones l hl) hvl))
                          (by omega) (fun k hk1 hk2 => r5.1 k (by omega) (by omega))
                        simp only [Nat.add_zero] at s2
                        exact ⟨W', s1, s2, s3, s4, s5⟩
                    obtain ⟨W', s1, s2, s3, s4, s5⟩ := hstore
                    have hsz : (writeAt ca (L.co + off * i.size + n * i.size) ws).size = ca.size := writeAt_size _ _ _
                    obtain ⟨g1, g2⟩ := R.setRow (H' := W'.heap) hr hL (L' := ⟨ver + 1, L.cb, L.co + off * i.size, c, i.size⟩) (.inr (by simp; omega)) (.inl rfl) (fun k _ hk => s3 k hk) (by omega)
                      (by rw [s4]; exact R.lt a _ (.inl ⟨L, hL, rfl⟩)) (ver := ver + 1) (es := i.size) (elems := (elems.drop off).take n ++ xs)
                      ⟨rfl, rfl, by simp; omega, _, cty, cfr, s2, by rw [hsz]; simp; omega, ⟨fun o ho1 ho2 => r5.1 o (by simp at ho1; omega) (by simp at ho2; omega), fun hne => by rw [hsz]; exact r5.2 hne⟩, by
                        refine (rowR_of_flat_at (ws := os ++ ws) hnewl (by rw [List.flatten_append]; exact o1.append hws) (fun k w hk => ?_)).mono (G := G) ?_
                        · show (writeAt ca (L.co + off * i.size + n * i.size) ws)[L.co + off * i.size + k]? = some w
                          rw [writeAt_get]
                          rcases Nat.lt_or_ge k os.length with q | q
                          · rw [if_neg (by omega)]
                            rw [List.getElem?_append_left q] at hk
                            exact o2 k w hk
                          · rw [List.getElem?_append_right q] at hk
                            have hkl : k - os.length < ws.length := (List.getElem?_eq_some_iff.1 hk).1
                            rw [if_pos ⟨by omega, by omega, by omega⟩]
                            rw [show L.co + off * i.size + k - (L.co + off * i.size + n * i.size) = k - os.length by omega]
                            exact hk
                        · exact Gh.le_set hL (.inr (by simp; omega))⟩
                    refine ⟨W', _, .slice (some p) (n + xs.length) c, ?_, ⟨g1, g2, s5, Nat.le_refl _, fun y hy _ _ => ⟨?_, rfl⟩, fun y hy _ _ => ?_, fun _ => rfl⟩, ?_⟩
                    · have hf0 := hfirst W rfl
                      rcases hu with ⟨e', hu⟩ | hu <;>
                        simp [Builtin.append_, ht0, ht1, run_underlying hd, run_underlying hu, sizeOf, typeInfo, hi, hlen W, hfit, hf0, s1]
                    · have : y ≠ a := fun e => by rw [e, hr] at hy; cases hy
                      simp [this]
                    · show (S.heap.put a _).get y = none
                      rw [Tr.get_put_ne _ _ _ _ (R.small a _ hr) (fun e => by rw [e, hr] at hy; cases hy)]; exact hy
                    · refine .sl _ _ _ _ _ _ _ _ ⟨rfl, hfit, ⟨ver + 1, L.cb, L.co + off * i.size, c, i.size⟩, by simp, .inr ⟨rfl, rfl, by simp, fun h0 => ?_⟩⟩
                      simp only [Nat.zero_mul, Nat.add_zero]
                      rw [← r2]; exact hp h0
                  · -- a new row
                    have hge := grownCap_ge W (n + xs.length) c e (by omega)
                    have hn : ¬ (n + xs.length ≤ c) := hfit
                    have h63 : ¬ (9223372036854775807 < ((n : Int) + (xs.length : Int))) := by omega
                    have h48 : ¬ (281474976710656 < Builtin.nextslicecap (n + xs.length) c * i.bytes) := by
                      have := growslice_fits (need := n + xs.length) (old := c) (bytes := i.bytes) (by omega) (by omega)
                      omega
                    have hf0 := hfirst W.drew rfl
                    have hfo : (Builtin.firstCells i.size n (.slice (some p) n c)).run P W.drew = .ok os.toArray W.drew := by
                      simp only [Builtin.firstCells]
                      have := run_loadCells_list (P := P) W.drew p os (fun j w hj => by
                        have hjl : j < os.length := (List.getElem?_eq_some_iff.1 hj).1
                        have hc0 : c ≠ 0 := by
                          intro e0
                          have : n = 0 := by omega
                          rw [this, Nat.zero_mul] at hosl; omega
                        rw [hp hc0, addr_add]
                        have : W.cell? ⟨L.cb, L.co + off * L.es + j, none⟩ = some w := by rw [cell_of_heap hcb, r2]; exact o2 j w hj
                        exact this)
                      rw [hosl] at this; exact this
                    have hsize : (os.toArray ++ ws.toArray ++ Builtin.zeroCells zw.cells (grownCap W (n + xs.length) c e - (n + xs.length))).size = grownCap W (n + xs.length) c e * i.size := by
                      simp only [Array.size_append, List.size_toArray, zeroCells_size, hwl, hosl, hzs]
                      rw [← Nat.add_mul, ← Nat.add_mul]; congr 1; omega
                    obtain ⟨g1, g2⟩ := R.setRow (H' := W.heap.push (.cells (os.toArray ++ ws.toArray ++ Builtin.zeroCells zw.cells (grownCap W (n + xs.length) c e - (n + xs.length))) e)) hr hL
                      (L' := ⟨ver + 1, W.heap.size, 0, grownCap W (n + xs.length) c e, i.size⟩) (.inr (by simp; omega)) (.inr rfl)
                      (fun k hk _ => by rw [Array.getElem?_push, if_neg (by omega)]) (by simp) (by simp) (ver := ver + 1) (es := i.size) (elems := (elems.drop off).take n ++ xs)
                      ⟨rfl, rfl, by simp; omega, os.toArray ++ ws.toArray ++ Builtin.zeroCells zw.cells (grownCap W (n + xs.length) c e - (n + xs.length)), e, (0, 0), by simp, by simp only [Nat.zero_add]; rw [hsize]; exact Nat.le_refl _, ⟨fun o _ _ => by simp, fun _ => by simp⟩, by
                        refine (rowR_of_flat_at (ws := os ++ ws) hnewl (by rw [List.flatten_append]; exact o1.append hws) (fun k w hk => ?_)).mono (G := G) (Gh.le_set hL (.inr (by simp; omega)))
                        simp only [Nat.zero_add]
                        have hkl : k < (os ++ ws).length := (List.getElem?_eq_some_iff.1 hk).1
                        rw [Array.getElem?_append_left (by simpa using hkl)]
                        simpa using hk⟩
                    refine ⟨W.drew.alloc (.cells (os.toArray ++ ws.toArray ++ Builtin.zeroCells zw.cells (grownCap W (n + xs.length) c e - (n + xs.length))) e), _,
                      .slice (some ⟨W.heap.size, 0, none⟩) (n + xs.length) (grownCap W (n + xs.length) c e), ?_, ⟨g1, g2, (Same.drew W).trans (Same.alloc _ _), Nat.le_refl _, fun y hy _ _ => ⟨?_, rfl⟩, fun y hy _ _ => ?_, fun _ => rfl⟩, ?_⟩
                    · rcases hu with ⟨e', hu⟩ | hu <;>
                        (simp [Builtin.append_, ht0, ht1, run_underlying hd, run_underlying hu, sizeOf, typeInfo, zeroValue, hi, hzw, hlen W, hn, h63, h48, Question.forced, hf0, hfo, newRow, grownCap]
                         congr 2
                         apply Array.ext'
                         simp [List.append_assoc])
                    · have : y ≠ a := fun e => by rw [e, hr] at hy; cases hy
                      simp [this]
                    · show (S.heap.put a _).get y = none
                      rw [Tr.get_put_ne _ _ _ _ (R.small a _ hr) (fun e => by rw [e, hr] at hy; cases hy)]; exact hy
                    · exact .sl _ _ _ _ _ _ _ _ ⟨rfl, hge, ⟨ver + 1, W.heap.size, 0, grownCap W (n + xs.length) c e, i.size⟩, by simp, .inr ⟨rfl, rfl, by simp, fun _ => by simp⟩⟩
            · cases h
        · cases h

/-! ### Integers -/
theorem wr_eq (k : IntKind) (n : Int) : wr k n = k.wrap n := by
  unfold wr
  split
  · rename_i h
    obtain ⟨h1, h2⟩ := h
    cases k <;> simp only [lo, hi] at h1 h2 <;> simp [IntKind.wrap, IntKind.bits, IntKind.signed] <;> omega
  · rfl

theorem bytesOf_lens : ∀ {l : List (List V)} {b : List UInt8}, bytesOfElems l = some b → (∀ cs ∈ l, cs.length = 1) ∧ ∃ ns : List Int, l.flatten = ns.map (V.int .u8) ∧ b = ns.map fun n => UInt8.ofNat n.toNat
  | [], b, h => by simp [bytesOfElems] at h; subst h; exact ⟨by simp, [], rfl, rfl⟩
  | x :: l, b, h => by
    unfold bytesOfElems at h
    split at h
    · cases ‹x :: l = []›
    · rename_i n r he
      cases he
      split at h
      · rename_i l' hl'
        cases h
        obtain ⟨h1, ns, h2, h3⟩ := bytesOf_lens hl'
        refine ⟨?_, n :: ns, by simp [h2], by simp [h3]⟩
        intro cs hcs
        rcases List.mem_cons.1 hcs with rfl | hcs
        · rfl
        · exact h1 cs hcs
      · cases h
    · cases h
theorem fold_push (ns : List Int) (b : List UInt8) : ns.foldl (fun r n => r.push (UInt8.ofNat n.toNat)) (ByteArray.mk ⟨b⟩) = ⟨⟨b ++ ns.map fun n => UInt8.ofNat n.toNat⟩⟩ := by
  induction ns generalizing b with
  | nil => simp
  | cons n ns ih =>
    simp only [List.foldl_cons]
    have : (ByteArray.mk ⟨b⟩).push (UInt8.ofNat n.toNat) = ByteArray.mk ⟨b ++ [UInt8.ofNat n.toNat]⟩ := by
      simp [ByteArray.push]
    rw [this, ih]
    simp

theorem ints_of {G : Gh} : ∀ {ns : List Int} {ws : List Value}, VRs G (ns.map (V.int .u8)) ws → ws = ns.map (Value.int .u8)
  | [], _, .nil => rfl
  | _ :: _, _, .cons _ _ _ _ hv t => by cases hv; rw [ints_of t]; rfl
theorem convert_sound {P : Program} {src dst : TypeId} {x : V} {fr : Option Nat} {S S' : St} {v : V} (h : convertV P src dst x fr S = .ok (v, S'))
    {F : Nat → Option Obj} {G : Gh} {W : World} (R : Rel F G S W.heap) (hf : FrOK fr G S) {y : Value} (hx : VR G x y) :
    ∃ W' G' w, (convert src dst y).run P W = .ok w W' ∧ Sim F fr G S W G' S' W' ∧ VR G' v w := by
  unfold convertV at h
  split at h
  · rename_i u k hs hd
    split at h
    · cases h
      cases hx
      rename_i n
      exact ⟨W, G, .int k (k.wrap n), by simp [convert, run_underlying hs, run_underlying hd, Conv.intToInt], Sim.refl R, by rw [wr_eq]; exact .int _ _⟩
    · cases h
  · rename_i u hs hd
    split at h
    · cases h
      cases hx
      exact ⟨W, G, _, by simp [convert, run_underlying hs, run_underlying hd], Sim.refl R, .str _⟩
    · split at h
      · rename_i e
        split at h
        · rename_i he
          have key : ∀ l b, elemsOf S x = .ok l → bytesOfElems l = some b → (∃ p n c, y = .slice (some p) n c) →
              ∃ W' G' w, (convert src dst y).run P W = .ok w W' ∧ Sim F fr G S W G' S W' ∧ VR G' (.str b) w := by
            rintro l b hl hb ⟨p, n, c, rfl⟩
            obtain ⟨h1, ns, h2, h3⟩ := bytesOf_lens hb
            obtain ⟨e1, ws, e2, e3⟩ := elemsOf_sound (P := P) hl h1 R hx
            have e3' := e3 W rfl
            have hn : l.length = n := by
              have := e1 W
              simp [Builtin.lenOf] at this
              exact this.symm
            have hws : ws = ns.map (Value.int .u8) := by
              rw [h2] at e2
              exact ints_of e2
            subst hws
            have hload : (loadCells p n).run P W = .ok (ns.map (Value.int .u8)).toArray W := by
              rw [hn] at e3'
              simpa [Builtin.firstCells] using e3'
            refine ⟨W, G, .string ⟨⟨b⟩⟩, ?_, Sim.refl R, .str _⟩
            rw [run_convert_bytes_string W src dst e (some p) n c hs he hd, run_bytesToString W p n c ns hload]
            have := fold_push ns []
            rw [h3]
            refine congrArg (fun s => Result.ok (Value.string s) W) (Eq.trans ?_ (Eq.trans this (by simp)))
            rfl
          split at h
          · -- nil
            split at h
            · cases h
            · rename_i l hl
              split at h
              · rename_i b hb
                cases h
                simp [elemsOf] at hl; subst hl
                simp [bytesOfElems] at hb; subst hb
                cases hx
                refine ⟨W, G, .string ⟨⟨[]⟩⟩, ?_, Sim.refl R, .str _⟩
                rw [run_convert_bytes_string W src dst e none 0 0 hs he hd]
                rfl
              · cases h
          · split at h
            · cases h
            · rename_i l hl
              split at h
              · rename_i b hb
                cases h
                refine key l b hl hb ?_
                cases hx; exact ⟨_, _, _, rfl⟩
              · cases h
          · split at h
            · cases h
            · rename_i l hl
              split at h
              · rename_i b hb
                cases h
                refine key l b hl hb ?_
                cases hx; exact ⟨_, _, _, rfl⟩
              · cases h
          · cases h
        · cases h
      · cases h
  · rename_i u e hs hd
    split at h
    · rename_i s he
      rw [cond_eq_ite] at h
      split at h
      · rename_i hok
        simp only [Bool.and_eq_true, Nat.blt_eq, Nat.beq_eq] at hok
        obtain ⟨hl, hsz⟩ := hok
        unfold lim at hl
        split at h
        · cases h
        · rename_i a S1 hnew
          cases h
          cases hx
          have hge : s.length ≤ grownCap W s.length 0 e := grownCap_ge W _ _ _ (by omega)
          let cells : Array Value := (s.map fun b => Value.int .u8 b.toNat).toArray ++ Array.replicate (grownCap W s.length 0 e - s.length) (.int .u8 0)
          have hcs : cells.size = grownCap W s.length 0 e := by simp [cells]; omega
          have hlens : ∀ x ∈ s.map (fun b => [V.int .u8 (b.toNat : Int)]), x.length = 1 := by
            intro x hx
            obtain ⟨b, _, rfl⟩ := List.mem_map.1 hx
            rfl
          have hw' : ((W.drew.alloc (.cells cells e)).freeze { block := W.heap.size, off := cells.size } 1).heap = W.heap.push (.cells cells e (cells.size, cells.size + 1)) := by
            unfold World.freeze
            rw [if_neg (by decide)]
            apply Array.ext_getElem?
            intro k
            simp only [World.alloc, World.drew, Array.getElem?_modify, Array.getElem?_push]
            by_cases hk : k = W.heap.size
            · subst hk; simp
            · simp [hk, Ne.symm hk]
          obtain ⟨G', h1, h2⟩ := newBlk_sound' (W' := (W.drew.alloc (.cells cells e)).freeze { block := W.heap.size, off := cells.size } 1) hnew R hf hw'
            ⟨rfl, rfl, rfl, by rw [hw']; simp⟩ (cap := grownCap W s.length 0 e) (by simpa using hge) (by rw [hcs]; omega) (fun o ho => by simp only; omega) (fun h => absurd rfl h)
            (rowR_of_flat (ws := s.map fun b => Value.int .u8 b.toNat) hlens (by
              rw [flat_bytes]
              refine VRs.of (by simp) fun i v w hv hw => ?_
              simp at hv hw
              obtain ⟨b, hb, rfl⟩ := hv
              obtain ⟨b', hb', rfl⟩ := hw
              rw [hb] at hb'; cases hb'
              exact .int _ _) (fun k w hk => by
              have hkl := (List.getElem?_eq_some_iff.1 hk).1
              show cells[k]? = some w
              rw [Array.getElem?_append_left (by simpa using hkl)]
              simpa using hk))
          refine ⟨_, G', .slice (some ⟨W.heap.size, 0, none⟩) s.length (grownCap W s.length 0 e), ?_, h1, .sl _ _ _ _ _ _ _ _ ⟨rfl, hge, _, h2, .inr ⟨rfl, rfl, by simp, fun _ => by simp⟩⟩⟩
          have hb : (⟨⟨s⟩⟩ : ByteArray).size = s.length := rfl
          simp only [convert, Sem.run_bind, run_underlying hs, run_underlying hd, Result.andThen_ok, run_underlying he, Conv.stringToBytes, run_choose, hb, Question.forced, Bool.false_eq_true, if_false]
          have hm : Array.map (fun b : UInt8 => Value.int IntKind.u8 (b.toNat : Int)) (⟨s⟩ : Array UInt8) = (s.map fun b => Value.int .u8 b.toNat).toArray := by simp
          have hshape : (W.drew.alloc (.cells cells e)).shape? W.heap.size = some (e, cells.size) := by
            unfold World.shape?
            rw [show (W.drew.alloc (.cells cells e)).heap[W.heap.size]? = some (.cells cells e) from heap_alloc_new W.drew (.cells cells e)]
          show _ = Result.ok (Value.slice (some ⟨W.heap.size, 0, none⟩) s.length (grownCap W s.length 0 e)) ((W.drew.alloc (.cells cells e)).freeze { block := W.heap.size, off := cells.size } 1)
          simp only [hm, newRow, Sem.run_bind, run_newObj, Result.andThen_ok, Sem.run_pure, markStringish, run_shape]
          change ((Sem.run P (match (W.drew.alloc (.cells cells e)).shape? W.heap.size with | some (_, n) => freeze { block := W.heap.size, off := n } 1 | _ => pure ()) (W.drew.alloc (.cells cells e))).andThen
            fun a w' => Result.ok (Value.slice (some ⟨W.heap.size, 0, none⟩) s.length (grownCap W s.length 0 e)) w') = _
          rw [hshape]
          rfl
      · cases h
    · cases h
  · cases h
end Go.AM
