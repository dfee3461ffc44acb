/-
  slices.Insert in the middle of a row: there is no room.
-/
import Derived.Test.YtcdegmbabbgiaaaAmInsert2c
set_option linter.unusedSimpArgs false
namespace Go.AM
open Go.RowKit Go.Lib Go.Proofs Go.Shelf
variable {P : Program}

theorem ins_noroom {f : FuncId} {T e I B : TypeId} {ov rr : FuncId} {fn : Func} (L : InsAt P f T e I B ov rr fn) {W : World} {b o n c k vb vo m vc es : Nat} (hes : sz P e = es) {z : V} (hz : zeroOf P e = some z) (hzl : z.cells.length = es)
    (hbig : (n + m) * P.bytesOf e ≤ 35184372088832)
    (hk : k < n) (hm : 0 < m) (hnc : n ≤ c) (hroom : c < n + m) (hlim : n + m < 4294967296)
    {ca : Array Value} {cty : TypeId} {cfr : Nat × Nat} (hcb : W.heap[b]? = some (.cells ca cty cfr))
    {cv : Array Value} {vty : TypeId} {vfr : Nat × Nat} (hcv : W.heap[vb]? = some (.cells cv vty vfr))
    {os ws : List Value} (hos : os.length = n * es) (hws : ws.length = m * es) (ho : ∀ (j : Nat) (w : Value), os[j]? = some w → ca[o + j]? = some w) (hw : ∀ (j : Nat) (w : Value), ws[j]? = some w → cv[vo + j]? = some w)
    (h1o : ∀ v ∈ os, v.oneCell' = true) (h1w : ∀ v ∈ ws, v.oneCell' = true) (hpos : 0 < es) :
    ∃ W3 g row, n + m ≤ g ∧ Calls P f #[.slice (some ⟨b, o, none⟩) n c, .int .i64 k, .slice (some ⟨vb, vo, none⟩) m vc] W (fun e w' => e = .returned (.slice (some ⟨W.heap.size, 0, none⟩) (n + m) g) ∧ w' = W3) ∧
      row.size = g * es ∧ (∀ (j : Nat) (w : Value), j < k * es → os[j]? = some w → row[j]? = some w) ∧
      W3.heap[W.heap.size]? = some (.cells (writeAt (writeAt row (k * es) ws) ((k + m) * es) (os.drop (k * es))) e) ∧ (∀ i, i < W.heap.size → W3.heap[i]? = W.heap[i]?) ∧ W3.heap.size = W.heap.size + 1 ∧ Same W W3 := by
  have hzE : ∀ w, (Go.sizeOf e).run P w = .ok es w := by intro w; rw [← hes]; exact L.zE w
  obtain ⟨i, zw, hi, hzw, hzv⟩ := zeroOf_some hz
  have hisz : i.size = es := by rw [← sz_of_info hi]; exact hes
  have hib : P.bytesOf e = i.bytes := bytes_of_info hi
  have hzs : zw.cells.size = es := by
    have := (ofValue_VR (⟨fun _ => none, fun _ => none, fun _ => none, fun _ => 0⟩ : Gh) hzv).cells.length
    simp at this; omega
  have e1 : (n + m) * es = n * es + m * es := Nat.add_mul ..
  have e2 : (k + m) * es = k * es + m * es := Nat.add_mul ..
  have e3 : (n - k) * es = n * es - k * es := Nat.sub_mul ..
  have m2 : k * es ≤ n * es := Nat.mul_le_mul_right es (by omega)
  have hge := grownCap_ge W (n + m) c e (by omega)
  have hgs : (n + m) * es ≤ grownCap W (n + m) c e * es := Nat.mul_le_mul_right es hge
  rw [hib] at hbig
  have hkk : k + (n + m - k) = n + m := by omega
  have htk : (os.take (k * es)).length = k * es := by rw [List.length_take]; omega
  have hold : (Builtin.firstCells i.size k (.slice (some ⟨b, o, none⟩) k c)).run P W.drew = .ok (os.take (k * es)).toArray W.drew := by
    simp only [Builtin.firstCells]
    have := run_loadCells_list (P := P) W.drew ⟨b, o, none⟩ (os.take (k * es)) (fun j w hj => by
      rw [Addr.add_lit]
      have : W.cell? ⟨b, o + j, none⟩ = some w := by
        rw [cell_of_heap hcb]
        rw [List.getElem?_take] at hj
        split at hj
        · exact ho j w hj
        · cases hj
      exact this)
    rw [htk] at this
    rw [hisz]; exact this
  have hfit := growslice_fits (need := n + m) (old := c) (bytes := i.bytes) (by omega) (by omega)
  have hrz : ∀ ty, (Builtin.append_ #[T, I] ty #[.slice (some ⟨b, o, none⟩) k c, .int .i64 ((n : Int) + (m : Int) - (k : Int))]).run P W =
      .ok (.slice (some ⟨W.heap.size, 0, none⟩) (n + m) (grownCap W (n + m) c e)) (W.drew.alloc (.cells ((os.take (k * es)).toArray ++ Builtin.zeroCells zw.cells (n + m - k) ++ Builtin.zeroCells zw.cells (grownCap W (n + m) c e - (n + m))) e)) := fun ty => by
    have h48 : (n + m - k) * i.bytes ≤ 281474976710656 := by
      have : (n + m - k) * i.bytes ≤ (n + m) * i.bytes := Nat.mul_le_mul_right _ (by omega)
      omega
    have h := run_append_grow_zeros W T I ty e i zw .i64 .i64 L.tT L.tI hi hzw (some ⟨b, o, none⟩) k c (os.take (k * es)) hold (n + m - k) (by omega) (by omega) (by omega) (by omega) h48 (by rw [hkk]; exact hfit)
    rw [hkk] at h
    rw [show (n : Int) + (m : Int) - (k : Int) = ((n + m - k : Nat) : Int) by omega]
    exact h
  have hrs : ((os.take (k * es)).toArray ++ Builtin.zeroCells zw.cells (n + m - k) ++ Builtin.zeroCells zw.cells (grownCap W (n + m) c e - (n + m))).size = grownCap W (n + m) c e * es := by
    simp only [Array.size_append, List.size_toArray, zeroCells_size, htk, hzs]
    rw [← Nat.add_mul, ← Nat.add_mul]; congr 1; omega
  have hrow : ∀ (j : Nat) (w : Value), j < k * es → os[j]? = some w → ((os.take (k * es)).toArray ++ Builtin.zeroCells zw.cells (n + m - k) ++ Builtin.zeroCells zw.cells (grownCap W (n + m) c e - (n + m)))[j]? = some w := by
    intro j w hj hw
    rw [Array.append_assoc, Array.getElem?_append_left (by simp only [List.size_toArray, htk]; exact hj)]
    simp only [List.getElem?_toArray, List.getElem?_take, if_pos hj]; exact hw
  generalize hR : (os.take (k * es)).toArray ++ Builtin.zeroCells zw.cells (n + m - k) ++ Builtin.zeroCells zw.cells (grownCap W (n + m) c e - (n + m)) = row at hrz hrs hrow
  generalize hG : grownCap W (n + m) c e = g at hge hgs hrz hrs hR
  have hnew : (W.drew.alloc (.cells row e)).heap[W.heap.size]? = some (.cells row e (0, 0)) := heap_alloc_new W.drew (.cells row e)
  have hold1 : ∀ i, i < W.heap.size → (W.drew.alloc (.cells row e)).heap[i]? = W.heap[i]? := fun i hi => by
    show (W.heap.push (.cells row e))[i]? = _
    rw [Array.getElem?_push, if_neg (by omega)]
  have hbs : b < W.heap.size := (Array.getElem?_eq_some_iff.1 hcb).1
  have hvs : vb < W.heap.size := (Array.getElem?_eq_some_iff.1 hcv).1
  obtain ⟨W2, q1, t1, t2, t3, t4⟩ := run_copy (P := P) L.tT hzE (W.drew.alloc (.cells row e)) W.heap.size (k * es) (n + m - k) ⟨vb, vo, none⟩ m m (nat_min (by omega) (by omega)) ws hws
    (fun j w hj => by
      rw [Addr.add_lit]
      have h0 : (W.drew.alloc (.cells row e)).heap[vb]? = some (.cells cv vty vfr) := by rw [hold1 vb hvs]; exact hcv
      rw [cell_of_heap h0]
      exact hw j w hj) (c := row) (ct := e) (fr := (0, 0)) hnew h1w (by omega) (fun j _ _ => by simp)
  have htl : (os.drop (k * es)).length = (n - k) * es := by rw [List.length_drop, hos, Nat.sub_mul]
  obtain ⟨W3, r1, s1, s2, s3, s4⟩ := run_copy (P := P) L.tT hzE W2.drew W.heap.size ((k + m) * es) (n + m - (k + m)) ⟨b, o + k * es, none⟩ (n - k) (n - k) (nat_min (by omega) (by omega)) (os.drop (k * es)) htl
    (fun j w hj => by
      rw [Addr.add_lit, Nat.add_assoc]
      have h0 : W2.drew.heap[b]? = some (.cells ca cty cfr) := by
        show W2.heap[b]? = _
        rw [t2 b (by omega), hold1 b hbs]; exact hcb
      have : W2.drew.cell? ⟨b, o + (k * es + j), none⟩ = some w := by
        rw [cell_of_heap h0]
        exact ho _ w (by rw [List.getElem?_drop] at hj; exact hj)
      exact this) (c := _) (ct := e) (fr := (0, 0)) t1 (fun v hv => h1o v (List.mem_of_mem_drop hv)) (by rw [writeAt_size]; omega) (fun j _ _ => by simp)
  refine ⟨W3, g, row, hge, ?_, hrs, hrow, s1, fun i hi => ?_, ?_, (((Same.drew W).trans (Same.alloc _ _)).trans t4).trans ((Same.drew W2).trans s4)⟩
  · exact ins_grow L b o W.heap.size es n c k vb vo m vc g W _ W2 W3 hk hm hnc hroom hge (by omega) hzE hrz (fun ty dc => q1 ty dc vc) r1
  · rw [s2 i (by omega)]
    show W2.heap[i]? = _
    rw [t2 i (by omega)]; exact hold1 i hi
  · rw [s3]
    show W2.heap.size = _
    rw [t3]; simp
end Go.AM
