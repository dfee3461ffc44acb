/-
  slices.Insert in the middle of a row: there is room.
-/
import Derived.Test.YtcdegmbabbgiaaaAmInsert2b
set_option linter.unusedSimpArgs false
namespace Go.AM
open Go.RowKit Go.Lib Go.Proofs Go.Shelf
variable {P : Program}

theorem nat_min {a b k : Nat} (h1 : k ≤ a ∧ k ≤ b) (h2 : k = a ∨ k = b) : Nat.min a b = k := by
  show min a b = k
  omega

theorem ins_room {f : FuncId} {T e I B : TypeId} {ov rr : FuncId} {fn : Func} (L : InsAt P f T e I B ov rr fn) {W : World} {b o n c k vb vo m vc es : Nat} (hes : sz P e = es)
    (hk : k < n) (hm : 0 < m) (hroom : n + m ≤ c) (hlim : n + m < 4294967296) (hvb : vb ≠ b)
    {ca : Array Value} {cty : TypeId} {cfr : Nat × Nat} (hcb : W.heap[b]? = some (.cells ca cty cfr)) (hin : o + c * es ≤ ca.size) (hfz : ∀ j, o ≤ j → j < o + c * es → ¬ (cfr.1 ≤ j ∧ j < cfr.2))
    {cv : Array Value} {vty : TypeId} {vfr : Nat × Nat} (hcv : W.heap[vb]? = some (.cells cv vty vfr)) (hfv : ¬ (vfr.1 ≤ vo ∧ vo < vfr.2)) (hfe : ¬ (vfr.1 ≤ cv.size ∧ cv.size < vfr.2))
    {os ws : List Value} (hos : os.length = n * es) (hws : ws.length = m * es) (ho : ∀ (j : Nat) (w : Value), os[j]? = some w → ca[o + j]? = some w) (hw : ∀ (j : Nat) (w : Value), ws[j]? = some w → cv[vo + j]? = some w)
    (h1o : ∀ v ∈ os, v.oneCell' = true) (h1w : ∀ v ∈ ws, v.oneCell' = true) (hpos : 0 < es) :
    ∃ W2, Calls P f #[.slice (some ⟨b, o, none⟩) n c, .int .i64 k, .slice (some ⟨vb, vo, none⟩) m vc] W (fun e w' => e = .returned (.slice (some ⟨b, o, none⟩) (n + m) c) ∧ w' = W2) ∧
      W2.heap[b]? = some (.cells (writeAt (writeAt ca (o + (k + m) * es) (os.drop (k * es))) (o + k * es) ws) cty cfr) ∧ (∀ i, i ≠ b → W2.heap[i]? = W.heap[i]?) ∧ W2.heap.size = W.heap.size ∧ Same W W2 := by
  have m1 : (n + m) * es ≤ c * es := Nat.mul_le_mul_right es hroom
  have m2 : k * es ≤ n * es := Nat.mul_le_mul_right es (by omega)
  have e1 : (n + m) * es = n * es + m * es := Nat.add_mul ..
  have e2 : (k + m) * es = k * es + m * es := Nat.add_mul ..
  have hzE : ∀ w, (Go.sizeOf e).run P w = .ok es w := by intro w; rw [← hes]; exact L.zE w
  have htl : (os.drop (k * es)).length = (n - k) * es := by rw [List.length_drop, hos, Nat.sub_mul]
  have e3 : (n - k) * es = n * es - k * es := Nat.sub_mul ..
  obtain ⟨W1, r1, s1, s2, s3, s4⟩ := run_copy (P := P) L.tT hzE W.drew b (o + (k + m) * es) (n + m - (k + m)) ⟨b, o + k * es, none⟩ (n + m - k) (n - k) (nat_min (by omega) (by omega)) (os.drop (k * es)) htl
    (fun j w hj => by
      rw [Addr.add_lit, Nat.add_assoc]
      have : W.cell? ⟨b, o + (k * es + j), none⟩ = some w := by
        rw [cell_of_heap hcb]
        exact ho _ w (by rw [List.getElem?_drop] at hj; exact hj)
      exact this) (c := ca) (ct := cty) (fr := cfr) hcb (fun v hv => h1o v (List.mem_of_mem_drop hv)) (by omega) (fun j hj1 hj2 => hfz j (by omega) (by omega))
  obtain ⟨W2, q1, t1, t2, t3, t4⟩ := run_copy (P := P) L.tT hzE W1 b (o + k * es) (n + m - k) ⟨vb, vo, none⟩ m m (nat_min (by omega) (by omega)) ws hws
    (fun j w hj => by
      rw [Addr.add_lit]
      have h0 : W1.heap[vb]? = some (.cells cv vty vfr) := by rw [s2 vb hvb]; exact hcv
      rw [cell_of_heap h0]
      exact hw j w hj) (c := _) (ct := cty) (fr := cfr) s1 h1w (by rw [writeAt_size]; omega) (fun j hj1 hj2 => hfz j (by omega) (by omega))
  refine ⟨W2, ?_, t1, fun i hi => (t2 i hi).trans (s2 i hi), t3.trans s3, ((Same.drew W).trans s4).trans t4⟩
  refine ins_shift L b o es n c k vb vo m vc W W1 W2 hk hm hroom (by omega) hzE (fun lb cb => ?_) (fun ty dc sc => ?_) (fun ty dc => ?_)
  · rw [L.hov, run_overlaps_apart W T B e L.tT es hzE ⟨vb, vo, none⟩ ⟨b, o + (k + m) * es, none⟩ m vc lb cb hvb vty cty cv.size ca.size]
    · rfl
    · simp [World.shape?, hcv]
    · simp [World.shape?, hcb]
    · have : 0 < c * es := Nat.mul_pos (by omega) hpos
      omega
    · simp only [World.frozen?, hcv, Bool.and_eq_false_iff, decide_eq_false_iff_not]; omega
    · simp only [World.frozen?, hcv, Bool.and_eq_false_iff, decide_eq_false_iff_not]; omega
  · exact r1 ty dc sc
  · exact q1 ty dc vc
end Go.AM
