/-
  slices.Insert in the middle of a row.
-/
import Derived.Test.YtcdegmbabbgiaaaAmInsert2
set_option linter.unusedSimpArgs false
namespace Go.AM
open Go.RowKit Go.Lib Go.Proofs Go.Shelf
variable {P : Program}

/-- The row that comes of it, cell by cell. -/
theorem ins_row {G : Gh} {es n k m o : Nat} {old xs : List (List V)} {os ws : List Value} {c : Array Value} (hk : k ≤ n) (hol : old.length = n) (hold : ∀ x ∈ old, x.length = es) (hxl : ∀ x ∈ xs, x.length = es) (hm : xs.length = m)
    (ho : VRs G old.flatten os) (hw : VRs G xs.flatten ws)
    (h1 : ∀ j w, j < k * es → os[j]? = some w → c[o + j]? = some w) (h2 : ∀ j w, ws[j]? = some w → c[o + (k * es + j)]? = some w)
    (h3 : ∀ j w, k * es ≤ j → os[j]? = some w → c[o + (m * es + j)]? = some w) :
    RowR G c o es (old.take k ++ (xs ++ old.drop k)) := by
  have hosl : os.length = n * es := by rw [← ho.length, flat_length _ _ hold, hol]
  have hwl : ws.length = m * es := by rw [← hw.length, flat_length _ _ hxl, hm]
  have hks : k * es ≤ n * es := Nat.mul_le_mul_right es hk
  have hsplit : old.flatten = (old.take k).flatten ++ (old.drop k).flatten := by rw [← List.flatten_append, List.take_append_drop]
  have htl : (old.take k).flatten.length = k * es := by
    rw [flat_length es _ (fun x hx => hold x (List.mem_of_mem_take hx)), List.length_take, Nat.min_eq_left (by omega)]
  have ht : VRs G (old.take k).flatten (os.take (k * es)) := by
    have := ho.take (k * es)
    rw [hsplit, List.take_append_of_le_length (by omega), List.take_of_length_le (by omega)] at this
    exact this
  have hd : VRs G (old.drop k).flatten (os.drop (k * es)) := by
    refine VRs.of ?_ fun i v w hv hw => ?_
    · rw [flat_length es _ (fun x hx => hold x (List.mem_of_mem_drop hx)), List.length_drop, List.length_drop, hosl, hol, Nat.sub_mul]
    · rw [List.getElem?_drop] at hw
      have : old.flatten[k * es + i]? = some v := by
        rw [hsplit, List.getElem?_append_right (by omega), htl]
        rw [show k * es + i - k * es = i by omega]; exact hv
      obtain ⟨w', e1, e2⟩ := ho.get this
      rw [e1] at hw; cases hw; exact e2
  refine rowR_of_flat_at (ws := os.take (k * es) ++ (ws ++ os.drop (k * es))) ?_ ?_ ?_
  · intro x hx
    rcases List.mem_append.1 hx with hx | hx
    · exact hold x (List.mem_of_mem_take hx)
    · rcases List.mem_append.1 hx with hx | hx
      · exact hxl x hx
      · exact hold x (List.mem_of_mem_drop hx)
  · rw [List.flatten_append, List.flatten_append]
    exact ht.append (hw.append hd)
  · intro j w hj
    have hlt : (os.take (k * es)).length = k * es := by simp; omega
    rcases Nat.lt_or_ge j (k * es) with q | q
    · rw [List.getElem?_append_left (by omega), List.getElem?_take, if_pos q] at hj
      exact h1 j w q hj
    · rw [List.getElem?_append_right (by omega), hlt] at hj
      rcases Nat.lt_or_ge (j - k * es) ws.length with q2 | q2
      · rw [List.getElem?_append_left q2] at hj
        have := h2 (j - k * es) w hj
        rw [show k * es + (j - k * es) = j by omega] at this; exact this
      · rw [List.getElem?_append_right q2, List.getElem?_drop, hwl] at hj
        have := h3 (k * es + (j - k * es - m * es)) w (by omega) hj
        rw [show m * es + (k * es + (j - k * es - m * es)) = j by omega] at this
        exact this
end Go.AM
