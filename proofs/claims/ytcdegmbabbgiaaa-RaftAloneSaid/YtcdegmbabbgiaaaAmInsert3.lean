/-
  slices.Insert, as one step of the machine.
-/
import Derived.Test.YtcdegmbabbgiaaaAmInsert2d
set_option linter.unusedSimpArgs false
namespace Go.AM
open Go.RowKit Go.Lib Go.Proofs Go.Shelf
variable {P : Program}

theorem insert_sound {f : FuncId} {T e I B : TypeId} {ov rr : FuncId} {fn : Func} (L : InsAt P f T e I B ov rr fn) {s i x v : V} {S S' : St} (h : insertV P T s i x S = .ok (v, S'))
    {F : Nat → Option Obj} {G : Gh} {W : World} (R : Rel F G S W.heap) {a b c : Value} (ha : VR G s a) (hb : VR G i b) (hc : VR G x c) :
    Calls P f #[a, b, c] W fun e W' => ∃ G' w, e = .returned w ∧ Sim F none G S W G' S' W' ∧ VR G' v w := by
  unfold insertV at h
  have het : elemT P T = some e := by unfold elemT; rw [L.tT]
  rw [het] at h
  split at h
  · rename_i e0 i0 bb bv bes boff blen he0
    cases he0
    cases hb
    split at h
    · cases h
    · rename_i xs hxs
      rw [cond_eq_ite] at h
      split at h
      · cases h
      · rename_i hsz0
        have hpos : 0 < blen := by
          rcases Nat.eq_zero_or_pos blen with q | q
          · subst q; simp at hsz0
          · exact q
        have hend : ∀ {s : V} {a : Value} {v : V} {S' : St}, VR G s a → appendV P T s (.sl bb bv bes boff blen) none S = .ok (v, S') → ∃ W' G' w, (∀ ty, (Builtin.append_ #[T, T] ty #[a, c]).run P W = .ok w W') ∧ Sim F none G S W G' S' W' ∧ VR G' v w := by
          intro s a v S' ha hv
          obtain ⟨W', G', w, w1, w2, w3⟩ := append_sound (ty := T) (t := T) (u := T) (ts := #[T, T]) rfl rfl (.inl ⟨e, L.tT⟩) hv R (fun k hk => by cases hk) ha hc
          exact ⟨W', G', w, fun ty => w1, w2, w3⟩
        cases hc with
        | sl _ _ _ _ _ vp vn vc hvsl =>
          obtain ⟨rfl, hvc, LB, hLB, hvsl⟩ := hvsl
          split at h
          · rw [cond_eq_ite] at h
            split at h
            · rename_i hi0
              have hi0' : i0 = 0 := by simpa using hi0
              subst hi0'
              cases ha
              obtain ⟨W', G', w, w1, w2, w3⟩ := hend .nils h
              refine (ins_end L none 0 0 vn _ ⟨some vp, vc, rfl⟩ W W' hpos w (fun _ => rfl) (Nat.le_refl _) _ L.zE w1).mono ?_
              rintro e W2 ⟨rfl, rfl⟩
              exact ⟨G', w, rfl, w2, w3⟩
            · cases h
          · rename_i a0 ver es0 off len
            have ha' := ha
            cases ha with
            | sl _ _ _ _ _ p n c hsl =>
              obtain ⟨rfl, hnc, L0, hL0, hsl⟩ := hsl
              rw [cond_eq_ite] at h
              split at h
              · rename_i hi0
                have hi0' : i0 = (n : Int) := by simpa using hi0
                subst hi0'
                obtain ⟨W', G', w, w1, w2, w3⟩ := hend ha' h
                refine (ins_end L (some p) n c vn _ ⟨some vp, vc, rfl⟩ W W' hpos w (fun h => by cases h) hnc _ L.zE w1).mono ?_
                rintro e W2 ⟨rfl, rfl⟩
                exact ⟨G', w, rfl, w2, w3⟩
              · rename_i hin
                rw [cond_eq_ite] at h
                split at h
                · cases h
                · rename_i hck
                  simp only [Bool.or_eq_true, Nat.beq_eq, decide_eq_true_eq, Bool.not_eq_true', not_or, Bool.not_eq_false, Bool.and_eq_true] at hck
                  obtain ⟨⟨⟨hab, hi1⟩, hi2⟩, ⟨hall, hones⟩, hzf⟩ := hck
                  split at h
                  · cases h
                  · rename_i es elems hrow
                    have hr := getRow_ok hrow
                    rw [cond_eq_ite] at h
                    split at h
                    · rename_i hok
                      simp only [Bool.and_eq_true, Nat.ble_eq, Nat.beq_eq, room, Nat.blt_eq] at hok
                      obtain ⟨⟨⟨hle, hes⟩, hroom, hlm⟩, hone0⟩ := hok
                      have hi0 : (i0.toNat : Int) = i0 := Int.toNat_of_nonneg (by omega)
                      have hik : i0.toNat < n := by
                        have : i0 ≠ (n : Int) := by simpa using hin
                        omega
                      generalize i0.toNat = k at hi0 hik h
                      subst hi0
                      cases h
                      have hxl : ∀ cs ∈ xs, cs.length = es := by
                        intro cs hcs
                        have := List.all_eq_true.1 hall cs hcs
                        rw [hes]; simpa using this
                      have hes2 : 1 < es := by
                        rcases Nat.lt_or_ge 1 es with q | q
                        · exact q
                        · rw [hes] at q
                          exact absurd (by simp [q]) hsz0
                      obtain ⟨z, hz, hzl⟩ : ∃ z, zeroOf P e = some z ∧ z.cells.length = es := by
                        unfold zeroFits at hzf
                        split at hzf
                        · rename_i z hz; exact ⟨z, hz, by rw [hes]; simpa using hzf⟩
                        · cases hzf
                      unfold elemsOf at hxs
                      simp only at hxs
                      split at hxs
                      · cases hxs
                      · rename_i bes' belems hrowb
                        have hrb := getRow_ok hrowb
                        rw [cond_eq_ite] at hxs
                        split at hxs
                        · rename_i hleb
                          have hleb : boff + vn ≤ belems.length := by simpa using hleb
                          cases hxs
                          have hxn : ((belems.drop boff).take vn).length = vn := by simp; omega
                          rw [hxn] at hroom hlm ⊢
                          generalize hX : (belems.drop boff).take vn = xs at hall hones hxl hxn
                          obtain ⟨L', hL', r1, r2, r3, ca, cty, cfr, hcb, r4, r5, r6⟩ := R.blk a0 _ hr
                          rw [hL0] at hL'; cases hL'
                          obtain ⟨L', hL', q1, q2, q3, cv, vty, vfr, hcv, q4, q5, q6⟩ := R.blk bb _ hrb
                          rw [hLB] at hL'; cases hL'
                          rcases hsl with hsl | ⟨_, _, hc2, hp⟩
                          · omega
                          rcases hvsl with hvsl | ⟨_, _, hvc2, hvp⟩
                          · omega
                          have hpe := hp (by omega)
                          have hve := hvp (by omega)
                          have hbesE : bes' = es := by
                            have hin : boff < belems.length := by omega
                            have hmem : belems[boff] ∈ xs := by
                              rw [← hX, List.mem_iff_getElem?]
                              exact ⟨0, by rw [List.getElem?_take, if_pos hpos]; simp⟩
                            rw [← hxl _ hmem]
                            exact ((q6 boff belems[boff] (by simp)).1).symm
                          subst hbesE
                          rw [r2] at hpe
                          rw [q2] at hve
                          subst hpe hve
                          have hne : LB.cb ≠ L0.cb := by
                            intro e0
                            exact hab (R.inj a0 bb _ _ L0.cb hr hrb (.inl ⟨L0, hL0, rfl⟩) (.inl ⟨LB, hLB, e0⟩))
                          obtain ⟨os, o1, o2⟩ := r6.flat off n hle
                          obtain ⟨ws, w1, w2⟩ := q6.flat boff vn hleb
                          rw [hX] at w1
                          generalize hO : (elems.drop off).take n = old at o1 hone0 ⊢
                          have hol : old.length = n := by rw [← hO]; simp; omega
                          have holdl : ∀ x ∈ old, x.length = bes' := by
                            intro x hx
                            rw [← hO] at hx
                            exact r6.lens x (List.mem_of_mem_drop (List.mem_of_mem_take hx))
                          have hosl : os.length = n * bes' := by rw [← o1.length, flat_length _ _ holdl, hol]
                          have hwl : ws.length = vn * bes' := by rw [← w1.length, flat_length _ _ hxl, hxn]
                          have h1o : ∀ v ∈ os, v.oneCell' = true := o1.ones (by
                            refine List.all_eq_true.2 fun v hv => ?_
                            obtain ⟨l, hl, hvl⟩ := List.mem_flatten.1 hv
                            exact allOne_mem (List.all_eq_true.1 hone0 l hl) hvl)
                          have h1w : ∀ v ∈ ws, v.oneCell' = true := w1.ones (by
                            refine List.all_eq_true.2 fun v hv => ?_
                            obtain ⟨l, hl, hvl⟩ := List.mem_flatten.1 hv
                            exact allOne_mem (List.all_eq_true.1 hones l hl) hvl)
                          have hnl : (old.take k ++ (xs ++ old.drop k)).length = n + vn := by
                            simp [hol, hxn]; omega
                          have hcap : (off + c) * bes' ≤ L0.cap * bes' := Nat.mul_le_mul_right _ hc2
                          have hbc : (boff + vc) * bes' ≤ LB.cap * bes' := Nat.mul_le_mul_right _ hvc2
                          have hb1 : 1 * bes' ≤ vc * bes' := Nat.mul_le_mul_right _ (by omega)
                          rw [Nat.add_mul] at hcap hbc
                          have hkn : k * bes' ≤ n * bes' := Nat.mul_le_mul_right _ (by omega)
                          have hkm : (k + vn) * bes' = k * bes' + vn * bes' := Nat.add_mul ..
                          have hdl : (os.drop (k * bes')).length = n * bes' - k * bes' := by simp [hosl]
                          unfold lim at hlm
                          rcases Nat.lt_or_ge c (n + vn) with hfit | hfit
                          · -- a new row
                            obtain ⟨W3, g, row, hg, hcall, hrs, hrow0, s1, s2, s3, s4⟩ := ins_noroom L (W := W) (b := L0.cb) (o := L0.co + off * bes') (n := n) (c := c) (k := k) (vb := LB.cb) (vo := LB.co + boff * bes') (m := vn) (vc := vc) (es := bes') hes.symm hz hzl hroom hik hpos hnc hfit (by omega) hcb hcv hosl hwl o2 w2 h1o h1w (by omega)
                            have hgs : (n + vn) * bes' ≤ g * bes' := Nat.mul_le_mul_right _ hg
                            rw [Nat.add_mul] at hgs
                            obtain ⟨g1, g2⟩ := R.setRow (H' := W3.heap) hr hL0 (L' := ⟨ver + 1, W.heap.size, 0, g, bes'⟩) (.inr (by simp; omega)) (.inr rfl)
                              (fun i hi _ => s2 i hi) (by omega) (by simp; omega) (ver := ver + 1) (es := bes') (elems := old.take k ++ (xs ++ old.drop k))
                              ⟨rfl, rfl, by simp only [hnl]; exact hg, _, e, (0, 0), s1, by rw [writeAt_size, writeAt_size, hrs]; simp, ⟨fun o _ _ => by simp, fun _ => by simp⟩, by
                                refine (ins_row (os := os) (ws := ws) (n := n) (k := k) (m := vn) (Nat.le_of_lt hik) hol holdl hxl hxn o1 w1 (fun j w hj hw => ?_) (fun j w hw => ?_) (fun j w hj hw => ?_)).mono (G := G) (Gh.le_set hL0 (.inr (by simp; omega)))
                                · show (writeAt (writeAt row (k * bes') ws) ((k + vn) * bes') (os.drop (k * bes')))[0 + j]? = some w
                                  rw [writeAt_get, if_neg (by omega), writeAt_get, if_neg (by omega), Nat.zero_add]
                                  exact hrow0 j w hj hw
                                · have hjl : j < ws.length := (List.getElem?_eq_some_iff.1 hw).1
                                  show (writeAt (writeAt row (k * bes') ws) ((k + vn) * bes') (os.drop (k * bes')))[0 + (k * bes' + j)]? = some w
                                  rw [writeAt_get, if_neg (by omega), writeAt_get, if_pos (by omega)]
                                  rw [show 0 + (k * bes' + j) - k * bes' = j by omega]; exact hw
                                · have hjl : j < os.length := (List.getElem?_eq_some_iff.1 hw).1
                                  show (writeAt (writeAt row (k * bes') ws) ((k + vn) * bes') (os.drop (k * bes')))[0 + (vn * bes' + j)]? = some w
                                  rw [writeAt_get, writeAt_size, if_pos (by omega)]
                                  rw [List.getElem?_drop, show k * bes' + (0 + (vn * bes' + j) - (k + vn) * bes') = j by omega]; exact hw⟩
                            refine hcall.mono ?_
                            rintro e1 W' ⟨rfl, rfl⟩
                            refine ⟨_, .slice (some ⟨W.heap.size, 0, none⟩) (n + vn) g, rfl, ⟨g1, g2, s4, Nat.le_refl _, fun y hy _ _ => ⟨?_, rfl⟩, fun y hy _ _ => ?_, fun _ => rfl⟩, ?_⟩
                            · have : y ≠ a0 := fun e => by rw [e, hr] at hy; cases hy
                              simp [this]
                            · show (S.heap.put a0 _).get y = none
                              rw [Tr.get_put_ne _ _ _ _ (R.small a0 _ hr) (fun e => by rw [e, hr] at hy; cases hy)]; exact hy
                            · exact .sl _ _ _ _ _ _ _ _ ⟨rfl, hg, ⟨ver + 1, W.heap.size, 0, g, bes'⟩, by simp, .inr ⟨rfl, rfl, by simp, fun _ => by simp⟩⟩
                          · -- in place
                            have hfc : (n + vn) * bes' ≤ c * bes' := Nat.mul_le_mul_right _ hfit
                            rw [Nat.add_mul] at hfc
                            obtain ⟨W2, hcall, s1, s2, s3, s4⟩ := ins_room L (W := W) (b := L0.cb) (o := L0.co + off * bes') (n := n) (c := c) (k := k) (vb := LB.cb) (vo := LB.co + boff * bes') (m := vn) (vc := vc) (es := bes') hes.symm hik hpos hfit (by omega) hne
                              hcb (by omega) (fun j hj1 hj2 => r5.1 j (by omega) (by omega)) hcv (q5.1 _ (by omega) (by omega)) (q5.2 (by omega)) hosl hwl o2 w2 h1o h1w (by omega)
                            obtain ⟨g1, g2⟩ := R.setRow (H' := W2.heap) hr hL0 (L' := ⟨ver + 1, L0.cb, L0.co + off * bes', c, bes'⟩) (.inr (by simp; omega)) (.inl rfl)
                              (fun i _ hi => s2 i hi) (by omega) (by have := R.lt a0 L0.cb (.inl ⟨L0, hL0, rfl⟩); simp only; omega) (ver := ver + 1) (es := bes') (elems := old.take k ++ (xs ++ old.drop k))
                              ⟨rfl, rfl, by simp only [hnl]; exact hfit, _, cty, cfr, s1, by rw [writeAt_size, writeAt_size]; simp only; omega, ⟨fun o h1 h2 => r5.1 o (by simp only at h1; omega) (by simp only at h2; omega), fun h => by rw [writeAt_size, writeAt_size]; exact r5.2 h⟩, by
                                refine (ins_row (os := os) (ws := ws) (n := n) (k := k) (m := vn) (Nat.le_of_lt hik) hol holdl hxl hxn o1 w1 (fun j w hj hw => ?_) (fun j w hw => ?_) (fun j w hj hw => ?_)).mono (G := G) (Gh.le_set hL0 (.inr (by simp; omega)))
                                · show (writeAt (writeAt ca (L0.co + off * bes' + (k + vn) * bes') (os.drop (k * bes'))) (L0.co + off * bes' + k * bes') ws)[L0.co + off * bes' + j]? = some w
                                  rw [writeAt_get, if_neg (by omega), writeAt_get, if_neg (by omega)]
                                  exact o2 j w hw
                                · have hjl : j < ws.length := (List.getElem?_eq_some_iff.1 hw).1
                                  show (writeAt (writeAt ca (L0.co + off * bes' + (k + vn) * bes') (os.drop (k * bes'))) (L0.co + off * bes' + k * bes') ws)[L0.co + off * bes' + (k * bes' + j)]? = some w
                                  rw [writeAt_get, writeAt_size, if_pos (by omega)]
                                  rw [show L0.co + off * bes' + (k * bes' + j) - (L0.co + off * bes' + k * bes') = j by omega]; exact hw
                                · have hjl : j < os.length := (List.getElem?_eq_some_iff.1 hw).1
                                  show (writeAt (writeAt ca (L0.co + off * bes' + (k + vn) * bes') (os.drop (k * bes'))) (L0.co + off * bes' + k * bes') ws)[L0.co + off * bes' + (vn * bes' + j)]? = some w
                                  rw [writeAt_get, if_neg (by omega), writeAt_get, if_pos (by omega)]
                                  rw [List.getElem?_drop, show k * bes' + (L0.co + off * bes' + (vn * bes' + j) - (L0.co + off * bes' + (k + vn) * bes')) = j by omega]; exact hw⟩
                            refine hcall.mono ?_
                            rintro e1 W' ⟨rfl, rfl⟩
                            refine ⟨_, .slice (some ⟨L0.cb, L0.co + off * bes', none⟩) (n + vn) c, rfl, ⟨g1, g2, s4, Nat.le_refl _, fun y hy _ _ => ⟨?_, rfl⟩, fun y hy _ _ => ?_, fun _ => rfl⟩, ?_⟩
                            · have : y ≠ a0 := fun e => by rw [e, hr] at hy; cases hy
                              simp [this]
                            · show (S.heap.put a0 _).get y = none
                              rw [Tr.get_put_ne _ _ _ _ (R.small a0 _ hr) (fun e => by rw [e, hr] at hy; cases hy)]; exact hy
                            · exact .sl _ _ _ _ _ _ _ _ ⟨rfl, hfit, ⟨ver + 1, L0.cb, L0.co + off * bes', c, bes'⟩, by simp, .inr ⟨rfl, rfl, by simp, fun _ => by simp⟩⟩
                        · cases hxs
                    · cases h
          · cases h
  · cases h
end Go.AM
