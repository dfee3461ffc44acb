/-
  What RaftAlone reaches: its plans; Within and the wait, for every argument; RaftRuns says true, whatever the order. No condition.
-/
import Derived.Test.YtcdegmbabbgiaaaProg
import Derived.KernelRfl
import Derived.WalkKit
import Derived.Tactics2
import Derived.StillTactics
import Derived.Test.YtcdegmbabbgiaaaAmTri2
namespace Go.Proofs.Ytcdegmbabbgiaaa
open Go.RowKit Go.AM

set_option maxRecDepth 100000
def raftAloneTab0 : PlTab := [
  (3, []),
  (6, []),
  (7, [(4, [(0,[]),(1,[]),(3,[]),(4,[]),(5,[]),(6,[]),(2,[4]),(7,[]),(8,[]),(9,[]),(10,[])])]),
  (8, [(1, [(0,[]),(1,[]),(2,[]),(3,[]),(4,[]),(5,[]),(6,[]),(7,[]),(8,[]),(9,[]),(10,[]),(11,[]),(12,[]),(14,[]),(15,[]),(16,[]),(17,[]),(18,[]),(13,[17,11,7,3]),(19,[17,11,7,3]),(20,[]),(21,[])])]),
  (9, []),
  (10, []),
  (11, []),
  (12, [(30, [(0,[]),(1,[]),(2,[]),(3,[]),(4,[]),(5,[]),(6,[]),(7,[]),(9,[]),(12,[]),(13,[]),(8,[13,12,9]),(10,[]),(11,[]),(14,[]),(15,[]),(16,[]),(17,[]),(18,[]),(19,[])])]),
  (19, []),
  (20, []),
  (21, []),
  (22, []),
  (23, []),
  (24, []),
  (25, []),
  (26, []),
  (27, [(2, [(0,[]),(2,[]),(3,[]),(4,[]),(5,[]),(1,[5]),(6,[])])]),
  (28, [(0, [(0,[]),(1,[]),(2,[]),(3,[]),(4,[]),(5,[]),(7,[]),(8,[]),(6,[4]),(9,[]),(10,[]),(11,[])])]),
  (29, []),
  (30, [(6, [(0,[]),(1,[]),(2,[]),(3,[]),(4,[]),(5,[]),(6,[]),(7,[]),(8,[]),(9,[]),(10,[7]),(11,[])])]),
  (31, []),
  (32, [(2, [(0,[]),(1,[]),(2,[]),(3,[]),(4,[]),(5,[]),(6,[]),(7,[]),(8,[]),(9,[]),(10,[]),(11,[]),(12,[]),(13,[]),(14,[]),(15,[]),(16,[]),(17,[]),(18,[]),(19,[]),(20,[]),(21,[]),(22,[]),(23,[]),(24,[]),(26,[]),(27,[]),(28,[]),(29,[]),(30,[]),(25,[30]),(31,[]),(32,[]),(33,[]),(34,[]),(35,[]),(36,[]),(37,[]),(38,[]),(39,[]),(40,[]),(41,[]),(42,[]),(43,[]),(44,[]),(45,[]),(46,[])])]),
  (33, [(8, [(0,[]),(1,[]),(2,[]),(3,[]),(4,[]),(5,[]),(6,[]),(7,[]),(8,[]),(9,[]),(10,[]),(11,[]),(12,[]),(13,[]),(14,[]),(15,[]),(16,[]),(17,[]),(18,[]),(19,[]),(20,[]),(21,[]),(22,[10,5]),(23,[]),(24,[]),(25,[]),(26,[])])]),
  (36, []),
  (37, [])]
def raftAloneTab1 : PlTab := [
  (38, [(6, [(0,[]),(1,[]),(2,[]),(3,[]),(4,[]),(5,[]),(6,[]),(7,[]),(8,[]),(10,[]),(11,[]),(12,[]),(13,[]),(14,[]),(9,[14,3]),(15,[]),(16,[])])]),
  (39, []),
  (40, [(4, [(0,[]),(1,[]),(2,[]),(6,[]),(7,[]),(3,[]),(4,[]),(5,[]),(8,[]),(9,[])])]),
  (41, [(1, [(0,[]),(1,[]),(2,[]),(3,[]),(4,[]),(5,[]),(6,[]),(7,[]),(8,[]),(9,[]),(10,[8]),(11,[]),(12,[])])]),
  (42, []),
  (43, [(11, [(0,[]),(1,[]),(3,[]),(4,[]),(5,[]),(6,[]),(7,[]),(2,[7]),(8,[]),(9,[]),(10,[]),(11,[]),(12,[]),(13,[])])]),
  (44, []),
  (45, []),
  (46, [(6, [(0,[]),(1,[]),(2,[]),(3,[]),(4,[2]),(5,[]),(6,[])])]),
  (47, [(2, [(0,[]),(1,[]),(2,[]),(3,[]),(4,[]),(5,[]),(6,[]),(7,[]),(8,[]),(9,[]),(10,[]),(11,[]),(12,[]),(13,[]),(14,[]),(15,[]),(16,[]),(17,[]),(18,[]),(19,[]),(20,[]),(21,[]),(22,[]),(23,[]),(24,[]),(25,[]),(26,[]),(27,[]),(28,[]),(29,[]),(30,[28]),(31,[]),(32,[]),(33,[]),(34,[]),(35,[])])]),
  (48, [(3, [(0,[]),(2,[]),(3,[]),(4,[]),(5,[]),(1,[5]),(6,[])])]),
  (49, [(3, [(0,[]),(1,[]),(2,[]),(3,[1]),(4,[])]), (4, [(0,[]),(1,[]),(2,[]),(3,[]),(4,[2]),(5,[]),(6,[])]), (5, [(0,[]),(1,[]),(2,[]),(3,[]),(4,[]),(5,[]),(6,[]),(7,[]),(8,[]),(9,[]),(10,[]),(11,[]),(13,[]),(14,[]),(12,[14]),(15,[]),(16,[])]), (12, [(0,[]),(1,[]),(2,[]),(3,[]),(4,[]),(5,[]),(6,[]),(7,[]),(8,[]),(9,[]),(10,[]),(11,[]),(12,[]),(13,[]),(14,[]),(16,[]),(17,[]),(15,[17]),(18,[]),(19,[]),(20,[])])]),
  (50, [(1, [(0,[]),(1,[]),(2,[]),(3,[]),(4,[]),(5,[]),(6,[]),(7,[]),(8,[]),(9,[7]),(10,[]),(11,[])]), (9, [(0,[]),(1,[]),(2,[]),(3,[]),(4,[]),(5,[]),(6,[]),(7,[]),(8,[]),(9,[]),(10,[]),(11,[9]),(12,[]),(13,[])])]),
  (51, []),
  (52, []),
  (53, []),
  (55, []),
  (56, []),
  (57, []),
  (58, []),
  (59, []),
  (60, []),
  (61, [(5, [(0,[]),(1,[]),(2,[]),(3,[]),(4,[]),(5,[]),(6,[]),(7,[]),(8,[]),(9,[]),(10,[]),(11,[]),(12,[]),(13,[]),(14,[]),(15,[]),(16,[]),(17,[]),(19,[]),(20,[]),(18,[20]),(21,[]),(22,[])])]),
  (62, []),
  (63, [(2, [(0,[]),(1,[]),(2,[]),(3,[1]),(4,[]),(5,[]),(6,[]),(7,[]),(8,[]),(10,[]),(11,[]),(9,[11]),(12,[]),(13,[])]), (4, [(0,[]),(1,[]),(2,[]),(3,[]),(4,[]),(5,[]),(6,[]),(7,[]),(8,[]),(9,[]),(10,[]),(11,[]),(12,[]),(13,[]),(14,[]),(15,[]),(16,[10,8]),(17,[]),(18,[]),(19,[]),(20,[10]),(21,[]),(22,[]),(23,[]),(24,[]),(25,[]),(26,[]),(27,[]),(28,[]),(29,[]),(30,[]),(31,[]),(32,[])])])]
def raftAloneTab2 : PlTab := [
  (64, []),
  (65, []),
  (66, []),
  (67, []),
  (68, [])]
def raftAloneTab : PlTab := raftAloneTab0 ++ (raftAloneTab1 ++ (raftAloneTab2))
def raftAloneTabSp : SpTab := []
theorem raftAloneTabSp_ok : SpAll Try.prog raftAloneTabSp := trivial

theorem raftAloneTab0_ok : tabOK Try.prog raftAloneTab0 = true := by kernel_rfl
theorem raftAloneTab1_ok : tabOK Try.prog raftAloneTab1 = true := by kernel_rfl
theorem raftAloneTab2_ok : tabOK Try.prog raftAloneTab2 = true := by kernel_rfl
theorem raftAloneTab_ok : tabOK Try.prog raftAloneTab = true := tabOK_append raftAloneTab0_ok (tabOK_append raftAloneTab1_ok (raftAloneTab2_ok))
theorem raftRuns_says : saysQ Try.prog (plansOf Try.prog raftAloneTabSp raftAloneTab) 1000 12 = true := by kernel_rfl
theorem raftRuns_any (W : World) : Calls Try.prog 12 #[] W fun e W' => e = .returned (.bool true) ∧ Below W.heap.size W W' :=
  callsQ_true (plansOK_of (by kernel_rfl) raftAloneTabSp_ok raftAloneTab_ok) raftRuns_says W

theorem wrap64_small {x : Int} (h1 : -9000000000 ≤ x) (h2 : x ≤ 9000000000) : wrap64 x = x := by unfold wrap64; omega
theorem within_at : WithinAt Try.prog 6 := by
  intro W n lo hi h1 h2 h3
  have hd0 : ¬ (hi - lo + 1 = 0) := by omega
  have hm := Int.emod_lt_of_pos n (b := hi - lo + 1) (by omega)
  have hm0 := Int.emod_nonneg n hd0
  have hr1 : n.tmod (hi - lo + 1) < hi - lo + 1 ∧ -(hi - lo + 1) < n.tmod (hi - lo + 1) ∧ (n % (hi - lo + 1) = n.tmod (hi - lo + 1) ∨ n.tmod (hi - lo + 1) < 0 ∧ n % (hi - lo + 1) = n.tmod (hi - lo + 1) + (hi - lo + 1)) ∧ (0 ≤ n.tmod (hi - lo + 1) → n % (hi - lo + 1) = n.tmod (hi - lo + 1)) := by
    rw [Int.tmod_eq_emod]
    split <;> omega
  have hB : Below W.heap.size W W := ⟨rfl, rfl, rfl, Nat.le_refl _, fun _ _ => rfl⟩
  go_enter Try.func6, Try.ntmps6
  go_wp2
  all_goals
    go_ret
    refine ⟨?_, hB⟩
    generalize n.tmod (hi - lo + 1) = r at *
    generalize n % (hi - lo + 1) = q at *
  · show Ending.returned (Value.int .i64 (lo + (r + hi - lo + 1))) = _
    congr 2
    omega
  · show Ending.returned (Value.int .i64 (lo + r)) = _
    congr 2
    omega
theorem wait_at : EmodAt Try.prog 20 11 10 := by
  intro W n
  have hm := Int.emod_lt_of_pos n (b := 11) (by omega)
  have hm0 := Int.emod_nonneg n (b := 11) (by omega)
  have hr1 : n.tmod 11 < 11 ∧ -11 < n.tmod 11 ∧ (n % 11 = n.tmod 11 ∨ n.tmod 11 < 0 ∧ n % 11 = n.tmod 11 + 11) ∧ (0 ≤ n.tmod 11 → n % 11 = n.tmod 11) := by
    rw [Int.tmod_eq_emod]
    split <;> omega
  have hB : Below W.heap.size W W := ⟨rfl, rfl, rfl, Nat.le_refl _, fun _ _ => rfl⟩
  show Calls _ _ #[.int .i64 n] W fun e W' => e = .returned (.int .i64 (10 + n % 11)) ∧ Below W.heap.size W W'
  go_enter Try.func20, Try.ntmps20
  go_wp2
  all_goals
    go_ret
    refine ⟨?_, hB⟩
    generalize n.tmod 11 = r at *
    generalize n % 11 = q at *
  · show Ending.returned (Value.int .i64 (10 + (r + 11))) = _
    congr 2
    omega
  · show Ending.returned (Value.int .i64 (10 + r)) = _
    congr 2
    omega
def aloneSp : SpTab := (6, .within) :: (12, .told) :: (20, .emod 11 10) :: raftAloneTabSp
theorem aloneSp_ok : SpAll Try.prog aloneSp :=
  ⟨spec_within Try.func6 (by kernel_rfl) (by kernel_rfl) within_at, spec_told Try.func12 (by kernel_rfl) (by kernel_rfl) raftRuns_any, spec_emod Try.func20 (by kernel_rfl) (by kernel_rfl) wait_at, raftAloneTabSp_ok⟩
noncomputable def alonePl : Plans := plansOf Try.prog aloneSp raftAloneTab
theorem alonePl_ok : PlansOK Try.prog alonePl := plansOK_of (by kernel_rfl) aloneSp_ok raftAloneTab_ok
def aloneP : Nat → Option (List Step) := fun _ => none
noncomputable def aloneC : Code := match Try.f3.body with
  | some c => c
  | none => .skip
noncomputable def aloneI : Code := headOf (headOf (tailOf 7 aloneC))
noncomputable def aloneB : Code := loopIn (headOf (tailOf 7 aloneC))
noncomputable def aloneR : Code := tailOf 8 aloneC
theorem alone_body : Try.f3.body = some aloneC := by kernel_rfl
theorem alone_slots : Try.f3.ntmps < lim := Nat.le_of_ble_eq_true (by kernel_rfl)
theorem alone_tail6 : tailOf 6 aloneC = (headOf (tailOf 6 aloneC)).seq (tailOf 7 aloneC) := by kernel_rfl
theorem alone_tail7 : tailOf 7 aloneC = (aloneI.seq (.block 2 (.loop aloneB))).seq aloneR := by kernel_rfl
theorem alone_ok6 : codeOK Try.prog aloneP (preOf 6 aloneC) = true := by kernel_rfl
theorem alone_okH : codeOK Try.prog aloneP (headOf (tailOf 6 aloneC)) = true := by kernel_rfl
theorem alone_okI : codeOK Try.prog aloneP aloneI = true := by kernel_rfl
theorem alone_okB : codeOK Try.prog aloneP aloneB = true := by kernel_rfl
theorem alone_okR : codeOK Try.prog aloneP aloneR = true := by kernel_rfl
end Go.Proofs.Ytcdegmbabbgiaaa
