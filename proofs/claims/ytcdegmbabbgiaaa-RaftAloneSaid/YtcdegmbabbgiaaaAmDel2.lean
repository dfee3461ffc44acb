/-
  slices.Delete, as one step of the machine.
-/
import Derived.Test.YtcdegmbabbgiaaaAmDel
import Derived.Test.YtcdegmbabbgiaaaAmClear
import Derived.Test.YtcdegmbabbgiaaaAmInsert2
set_option linter.unusedSimpArgs false
set_option linter.unusedVariables false
namespace Go.AM
open Go.RowKit Go.Lib Go.Proofs Go.Shelf
variable {P : Program}

theorem writeAt_append (c : Array Value) (o : Nat) (a b : List Value) : writeAt c o (a ++ b) = writeAt (writeAt c o a) (o + a.length) b := by
  induction a generalizing c o with
  | nil => simp [writeAt]
  | cons v a ih =>
    simp only [List.cons_append, writeAt, List.length_cons]
    rw [ih]
    congr 1; omega
theorem VRs.dropRows {G : Gh} {es : Nat} {old : List (List V)} {os : List Value} (hold : ∀ x ∈ old, x.length = es) (ho : VRs G old.flatten os) (j : Nat) (hj : j ≤ old.length) : VRs G (old.drop j).flatten (os.drop (j * es)) := by
  have hsplit : old.flatten = (old.take j).flatten ++ (old.drop j).flatten := by rw [← List.flatten_append, List.take_append_drop]
  have htl : (old.take j).flatten.length = j * es := by
    rw [flat_length es _ (fun x hx => hold x (List.mem_of_mem_take hx)), List.length_take, Nat.min_eq_left hj]
  have := ho.drop (j * es)
  rw [hsplit, ← htl, List.drop_left, htl] at this
  exact this

theorem delete_sound {f : FuncId} {T e I B : TypeId} {fn : Func} (L : DelAt P f T e I B fn) {s i j v : V} {S S' : St} (h : deleteV P T s i j S = .ok (v, S'))
    {F : Nat → Option Obj} {G : Gh} {W : World} (R : Rel F G S W.heap) {a b c : Value} (ha : VR G s a) (hb : VR G i b) (hc : VR G j c) :
    Calls P f #[a, b, c] W fun e W' => ∃ G' w, e = .returned w ∧ Sim F none G S W G' S' W' ∧ VR G' v w := by
  unfold deleteV at h
  have het : elemT P T = some e := by unfold elemT; rw [L.tT]
  rw [het] at h
  split at h
  · rename_i e0 a0 ver es0 off len i0 j0 he0
    cases he0
    cases hb
    cases hc
    rw [cond_eq_ite] at h
    split at h
    · cases h
    · rename_i hck
      simp only [Bool.or_eq_true, decide_eq_true_eq, Bool.not_eq_true', not_or, Bool.not_eq_false, Nat.beq_eq, Nat.blt_eq] at hck
      obtain ⟨⟨⟨⟨hi0, hji⟩, hjn⟩, hlm⟩, hl0⟩ := hck
      have ha' := ha
      cases ha with
      | sl _ _ _ _ _ p n c hsl =>
        obtain ⟨rfl, hnc, L0, hL0, hsl⟩ := hsl
        have ei : ((i0.toNat : Nat) : Int) = i0 := Int.toNat_of_nonneg (by omega)
        have ej : ((j0.toNat : Nat) : Int) = j0 := Int.toNat_of_nonneg (by omega)
        generalize i0.toNat = i at ei h
        generalize j0.toNat = j at ej h
        subst ei ej
        have hij : i ≤ j := by omega
        have hjn' : j ≤ n := by omega
        rw [cond_eq_ite] at h
        split at h
        · rename_i heq
          have heq' : (i : Int) = (j : Int) := by simpa using heq
          have heq2 : i = j := by omega
          clear heq heq'
          subst heq2
          split at h
          · rename_i x hrow
            cases h
            obtain ⟨es, elems⟩ := x
            have hr := getRow_ok hrow
            obtain ⟨L', hL', r1, r2, r3, ca, cty, cfr, hcb, r4, r5, r6⟩ := R.blk a0 _ hr
            rw [hL0] at hL'; cases hL'
            rcases hsl with hsl | ⟨_, _, hc2, hp⟩
            · omega
            · have hp' := hp (by omega)
              refine (del_none L 0 0 n c i W hjn' hnc _ L.zE p (by rw [hp'])).mono ?_
              rintro e1 W' ⟨rfl, rfl⟩
              exact ⟨G, _, rfl, Sim.refl R, ha'⟩
          · cases h
        · rename_i hne
          have hlt : i < j := by
            have : ¬ ((i : Int) = (j : Int)) := by simpa using hne
            omega
          split at h
          · rename_i z es elems hz hrow
            have hr := getRow_ok hrow
            rw [cond_eq_ite] at h
            split at h
            · rename_i hok
              cases h
              simp only [Bool.and_eq_true, Nat.beq_eq, Nat.ble_eq] at hok
              obtain ⟨⟨hes, hle⟩, hone⟩ := hok
              obtain ⟨ti, zw, hti, hzw, his, hzl, hz1, hzs, hzv, hzr⟩ := zeroOne_some hz
              obtain ⟨L', hL', r1, r2, r3, ca, cty, cfr, hcb, r4, r5, r6⟩ := R.blk a0 _ hr
              rw [hL0] at hL'; cases hL'
              rcases hsl with hsl | ⟨_, _, hc2, hp⟩
              · omega
              have hp' := hp (by omega)
              rw [r2] at hp'
              subst hp'
              obtain ⟨os, o1, o2⟩ := r6.flat off n hle
              generalize hO : (elems.drop off).take n = old at o1 hone ⊢
              have hol : old.length = n := by rw [← hO]; simp; omega
              have holdl : ∀ x ∈ old, x.length = es := by
                intro x hx
                rw [← hO] at hx
                exact r6.lens x (List.mem_of_mem_drop (List.mem_of_mem_take hx))
              have hosl : os.length = n * es := by rw [← o1.length, flat_length _ _ holdl, hol]
              have h1o : ∀ v ∈ os, v.oneCell' = true := o1.ones (by
                refine List.all_eq_true.2 fun v hv => ?_
                obtain ⟨l, hl, hvl⟩ := List.mem_flatten.1 hv
                exact allOne_mem (List.all_eq_true.1 hone l hl) hvl)
              have hzE : ∀ w, (Go.sizeOf e).run P w = .ok es w := by intro w; rw [hes]; exact L.zE w
              have hcap : (off + c) * es ≤ L0.cap * es := Nat.mul_le_mul_right _ hc2
              have hncs : n * es ≤ c * es := Nat.mul_le_mul_right _ hnc
              rw [Nat.add_mul] at hcap
              have hjs : j * es ≤ n * es := Nat.mul_le_mul_right _ hjn'
              have his' : i * es + (j - i) * es = j * es := by rw [← Nat.add_mul]; congr 1; omega
              have hnj : j * es + (n - j) * es = n * es := by rw [← Nat.add_mul]; congr 1; omega
              have hink : (i + (n - j)) * es = i * es + (n - j) * es := Nat.add_mul ..
              have hdl : (os.drop (j * es)).length = (n - j) * es := by rw [List.length_drop, hosl]; omega
              -- the append
              obtain ⟨W1, s1, s2, s3, s4, s5⟩ := run_storeCells (P := P) (b := L0.cb) (o := L0.co + off * es + i * es) (ty := cty) (fr := cfr) (os.drop (j * es)) 0 W.drew ca hcb
                (fun v hv => h1o v (List.mem_of_mem_drop hv)) (by rw [hdl]; omega) (fun k hk1 hk2 => r5.1 k (by omega) (by rw [hdl] at hk2; omega))
              simp only [Nat.add_zero] at s2
              -- the zeros
              have hml : ∀ x ∈ List.replicate (j - i) z, x.length = es := fun x hx => by rw [List.eq_of_mem_replicate hx, hzl, hes]
              have hzz := zeros_sound (hzv G) (j - i)
              have hzc : (Builtin.zeroCells zw.cells (j - i)).toList.length = (j - i) * es := by
                show (Builtin.zeroCells zw.cells (j - i)).size = (j - i) * es
                rw [zeroCells_size, hzs, hes]
              obtain ⟨W2, t1, t2, t3, t4, t5⟩ := run_storeCells (P := P) (b := L0.cb) (o := L0.co + off * es + (i + (n - j)) * es) (ty := cty) (fr := cfr) (Builtin.zeroCells zw.cells (j - i)).toList 0 W1 _ s2
                (hzz.ones (ones_replicate hz1 (j - i))) (by rw [writeAt_size, hzc]; omega) (fun k hk1 hk2 => r5.1 k (by omega) (by rw [hzc] at hk2; omega))
              simp only [Nat.add_zero] at t2
              -- what is loaded
              have hA : ∃ A : Addr, (if c = j then some (⟨L0.cb, L0.co + off * es, none⟩ : Addr) else some ⟨L0.cb, L0.co + off * es + j * es, none⟩) = some A ∧
                  (loadCellsFrom A 0 ((n - j) * es) #[]).run P W.drew = .ok (os.drop (j * es)).toArray W.drew := by
                by_cases hcj : c = j
                · refine ⟨⟨L0.cb, L0.co + off * es, none⟩, by simp [hcj], ?_⟩
                  have h0 : n - j = 0 := by omega
                  have : os.drop (j * es) = [] := List.eq_nil_of_length_eq_zero (by rw [hdl, h0]; simp)
                  rw [this, h0]
                  simp [loadCellsFrom]
                · refine ⟨⟨L0.cb, L0.co + off * es + j * es, none⟩, by simp [hcj], ?_⟩
                  have := run_loadCells_list (P := P) W.drew ⟨L0.cb, L0.co + off * es + j * es, none⟩ (os.drop (j * es)) (fun q w hq => by
                    rw [Addr.add_lit, Nat.add_assoc]
                    have : W.cell? ⟨L0.cb, L0.co + off * es + (j * es + q), none⟩ = some w := by
                      rw [cell_of_heap hcb]
                      exact o2 _ w (by rw [List.getElem?_drop] at hq; exact hq)
                    exact this)
                  rw [hdl] at this
                  exact this
              obtain ⟨A, hA, hld⟩ := hA
              have hcl : ∀ ty cx, (Builtin.clear_ #[T] ty #[.slice (some ⟨L0.cb, L0.co + off * es + (i + (n - j)) * es, none⟩) (n - (i + (n - j))) cx]).run P W1 = .ok (.tuple #[]) W2 := by
                intro ty cx
                rw [show n - (i + (n - j)) = j - i by omega]
                obtain ⟨m, hm⟩ : ∃ m, j - i = m + 1 := ⟨j - i - 1, by omega⟩
                rw [hm] at t1 ⊢
                simp [Builtin.clear_, run_underlying L.tT, hzr]
                rw [t1]; rfl
              have hw := del_some L L0.cb (L0.co + off * es) es n c i j W W1 W2 hlt hjn' hnc hzE A hA (by unfold lim at hlm; omega) (by omega) _ hld (by simpa using s1) hcl
              refine hw.mono ?_
              rintro e1 W' ⟨rfl, rfl⟩
              have hm2 : ∀ x ∈ old.drop j ++ List.replicate (j - i) z, x.length = es := by
                intro x hx
                rcases List.mem_append.1 hx with hx | hx
                · exact holdl x (List.mem_of_mem_drop hx)
                · exact hml x hx
              have hmlen : (old.drop j ++ List.replicate (j - i) z).length = n - i := by simp [hol]; omega
              have hle' : off + i + (old.drop j ++ List.replicate (j - i) z).length ≤ elems.length := by rw [hmlen]; omega
              have hcs : elems.length * es ≤ L0.cap * es := Nat.mul_le_mul_right _ r3
              have hmem : W'.heap[L0.cb]? = some (.cells (writeAt ca (L0.co + (off + i) * es) (os.drop (j * es) ++ (Builtin.zeroCells zw.cells (j - i)).toList)) cty cfr) := by
                rw [t2, writeAt_append, hdl]
                rw [show L0.co + (off + i) * es = L0.co + off * es + i * es by rw [Nat.add_mul]; omega]
                rw [show L0.co + off * es + i * es + (n - j) * es = L0.co + off * es + (i + (n - j)) * es by omega]
              refine ⟨G, _, rfl, ⟨G.le_refl, ?_, ((Same.drew W).trans s5).trans t5, Nat.le_refl _, fun _ _ _ _ => ⟨rfl, rfl⟩, fun x hx _ _ => ?_, fun _ => rfl⟩, ?_⟩
              · refine R.keepRow hr hL0 (fun k hk => (t3 k hk).trans (s3 k hk)) (t4.trans s4) ⟨r1, r2, by rw [spliceL_length _ _ _ hle']; exact r3, _, cty, cfr, hmem, by rw [writeAt_size]; exact r4, ⟨r5.1, by rw [writeAt_size]; exact r5.2⟩, ?_⟩
                refine r6.over hm2 ?_ hle' (by omega)
                rw [List.flatten_append]
                exact (VRs.dropRows holdl o1 j (by omega)).append hzz
              · show (S.heap.put a0 _).get x = none
                rw [Tr.get_put_ne _ _ _ _ (R.small a0 _ hr) (fun e => by rw [e, hr] at hx; cases hx)]; exact hx
              · rw [show n - (j - i) = i + (n - j) by omega]
                refine .sl _ _ _ _ _ _ _ _ ⟨rfl, by omega, L0, hL0, .inr ⟨by omega, by omega, hc2, fun _ => by rw [r2]⟩⟩
            · cases h
          · cases h
  · cases h
end Go.AM
