/-
  BillingRuns: whatever the order, the call returns true and turns nothing. The code is run over the abstract machine of the Am texts, by the kernel; no condition.
-/
import Derived.Test.YtdjgnfkoilaejaaGreatRows
import Derived.Test.YtdjgnfkoilaejaaGreatAmRow
namespace Go.Proofs.YtdjgnfkoilaejaaGreat
open Go.ChangeShapes Go.WideShapes Go.ChangeAt Go.RowKit Go.AM

theorem Tryz.own : ownKnob Tryz.prog.godebug = none := by kernel_rfl
theorem Tryz.laidOut : laidOutB Tryz.prog = true := by kernel_rfl

set_option maxRecDepth 100000
def billingRunsTab0 : PlTab := [
  (3, []),
  (6, []),
  (7, []),
  (8, []),
  (9, []),
  (10, []),
  (11, []),
  (19, [(9, [(0,[]),(1,[]),(2,[]),(3,[]),(4,[]),(5,[]),(6,[]),(7,[]),(8,[]),(9,[]),(10,[1]),(11,[]),(12,[]),(13,[]),(14,[])])]),
  (20, [(3, [(0,[]),(1,[0]),(2,[]),(3,[])]), (5, [(0,[]),(1,[0]),(2,[]),(3,[])]), (10, [(0,[]),(1,[]),(2,[0]),(3,[]),(4,[])]), (12, [(0,[]),(1,[]),(2,[1]),(3,[])]), (17, [(0,[]),(1,[]),(2,[1]),(3,[])])]),
  (21, []),
  (22, []),
  (23, []),
  (24, []),
  (25, []),
  (26, []),
  (27, []),
  (28, [(1, [(0,[]),(1,[]),(2,[]),(3,[]),(4,[]),(5,[]),(6,[]),(7,[]),(8,[]),(9,[]),(10,[]),(11,[]),(12,[]),(13,[]),(14,[]),(15,[]),(16,[]),(17,[]),(18,[]),(19,[]),(20,[]),(21,[]),(22,[]),(23,[]),(24,[]),(25,[]),(26,[]),(27,[]),(28,[]),(29,[]),(30,[25]),(31,[]),(32,[]),(33,[])])]),
  (29, [(1, [(0,[]),(1,[]),(2,[]),(3,[]),(4,[]),(5,[]),(6,[]),(7,[]),(9,[]),(8,[9]),(10,[]),(11,[]),(12,[]),(13,[])])]),
  (33, []),
  (34, [(2, [(0,[]),(1,[0]),(2,[]),(3,[])]), (5, [(0,[]),(1,[]),(2,[0]),(3,[]),(4,[])]), (9, [(0,[]),(1,[]),(2,[1]),(3,[])])]),
  (35, []),
  (36, []),
  (37, [(8, [(0,[]),(1,[]),(2,[]),(3,[]),(4,[]),(5,[]),(6,[]),(7,[]),(8,[5]),(9,[]),(10,[]),(11,[])])]),
  (38, []),
  (39, [])]
def billingRunsTab1 : PlTab := [
  (40, []),
  (41, []),
  (42, []),
  (43, []),
  (44, []),
  (45, []),
  (46, []),
  (47, []),
  (48, []),
  (49, []),
  (50, []),
  (53, []),
  (56, []),
  (57, []),
  (58, []),
  (59, []),
  (60, []),
  (61, [(17, [(0,[]),(2,[]),(3,[]),(1,[3]),(4,[]),(5,[]),(6,[]),(7,[])])]),
  (62, []),
  (63, []),
  (64, []),
  (65, []),
  (66, []),
  (67, []),
  (68, [])]
def billingRunsTab2 : PlTab := [
  (69, []),
  (70, [(5, [(0,[]),(1,[]),(2,[]),(5,[]),(6,[]),(7,[]),(3,[]),(4,[7]),(8,[]),(9,[]),(10,[]),(11,[])])]),
  (71, []),
  (72, []),
  (73, []),
  (74, []),
  (75, []),
  (76, []),
  (78, []),
  (79, []),
  (84, []),
  (85, []),
  (86, []),
  (88, []),
  (89, []),
  (91, []),
  (92, []),
  (93, []),
  (94, []),
  (95, []),
  (96, []),
  (97, []),
  (98, []),
  (107, []),
  (112, [])]
def billingRunsTab3 : PlTab := [
  (113, []),
  (114, []),
  (115, []),
  (127, []),
  (128, []),
  (139, []),
  (140, [])]
def billingRunsTab : PlTab := billingRunsTab0 ++ (billingRunsTab1 ++ (billingRunsTab2 ++ (billingRunsTab3)))
def billingRunsTabSp : SpTab := [(77, .ins 39), (83, .ins 40), (87, .ins 37), (90, .ins 36), (129, .ins 60)]
theorem billingRunsTabSp77 : SpecOK Tryz.prog 77 ((Sp.ins 39).run Tryz.prog) :=
  spec_insert (e := 84) (I := 3) (B := 4) (ov := 99) (rr := 100) (fn := Tryz.f77) (insAt_of (fo := Tryz.f99) (by kernel_rfl) (by kernel_rfl) (by kernel_rfl) (by kernel_rfl) (by kernel_rfl)
    (by kernel_rfl) (by kernel_rfl) (by kernel_rfl) (by kernel_rfl) (by kernel_rfl) (by kernel_rfl) (by kernel_rfl) (by kernel_rfl) (by kernel_rfl) (by kernel_rfl) (by kernel_rfl) (by kernel_rfl)) (by kernel_rfl)
theorem billingRunsTabSp83 : SpecOK Tryz.prog 83 ((Sp.ins 40).run Tryz.prog) :=
  spec_insert (e := 107) (I := 3) (B := 4) (ov := 105) (rr := 106) (fn := Tryz.f83) (insAt_of (fo := Tryz.f105) (by kernel_rfl) (by kernel_rfl) (by kernel_rfl) (by kernel_rfl) (by kernel_rfl)
    (by kernel_rfl) (by kernel_rfl) (by kernel_rfl) (by kernel_rfl) (by kernel_rfl) (by kernel_rfl) (by kernel_rfl) (by kernel_rfl) (by kernel_rfl) (by kernel_rfl) (by kernel_rfl) (by kernel_rfl)) (by kernel_rfl)
theorem billingRunsTabSp87 : SpecOK Tryz.prog 87 ((Sp.ins 37).run Tryz.prog) :=
  spec_insert (e := 103) (I := 3) (B := 4) (ov := 108) (rr := 109) (fn := Tryz.f87) (insAt_of (fo := Tryz.f108) (by kernel_rfl) (by kernel_rfl) (by kernel_rfl) (by kernel_rfl) (by kernel_rfl)
    (by kernel_rfl) (by kernel_rfl) (by kernel_rfl) (by kernel_rfl) (by kernel_rfl) (by kernel_rfl) (by kernel_rfl) (by kernel_rfl) (by kernel_rfl) (by kernel_rfl) (by kernel_rfl) (by kernel_rfl)) (by kernel_rfl)
theorem billingRunsTabSp90 : SpecOK Tryz.prog 90 ((Sp.ins 36).run Tryz.prog) :=
  spec_insert (e := 25) (I := 3) (B := 4) (ov := 110) (rr := 111) (fn := Tryz.f90) (insAt_of (fo := Tryz.f110) (by kernel_rfl) (by kernel_rfl) (by kernel_rfl) (by kernel_rfl) (by kernel_rfl)
    (by kernel_rfl) (by kernel_rfl) (by kernel_rfl) (by kernel_rfl) (by kernel_rfl) (by kernel_rfl) (by kernel_rfl) (by kernel_rfl) (by kernel_rfl) (by kernel_rfl) (by kernel_rfl) (by kernel_rfl)) (by kernel_rfl)
theorem billingRunsTabSp129 : SpecOK Tryz.prog 129 ((Sp.ins 60).run Tryz.prog) :=
  spec_insert (e := 87) (I := 3) (B := 4) (ov := 141) (rr := 142) (fn := Tryz.f129) (insAt_of (fo := Tryz.f141) (by kernel_rfl) (by kernel_rfl) (by kernel_rfl) (by kernel_rfl) (by kernel_rfl)
    (by kernel_rfl) (by kernel_rfl) (by kernel_rfl) (by kernel_rfl) (by kernel_rfl) (by kernel_rfl) (by kernel_rfl) (by kernel_rfl) (by kernel_rfl) (by kernel_rfl) (by kernel_rfl) (by kernel_rfl)) (by kernel_rfl)
theorem billingRunsTabSp_ok : SpAll Tryz.prog billingRunsTabSp := ⟨billingRunsTabSp77, billingRunsTabSp83, billingRunsTabSp87, billingRunsTabSp90, billingRunsTabSp129, trivial⟩

theorem billingRunsTab0_ok : tabOK Tryz.prog billingRunsTab0 = true := by kernel_rfl
theorem billingRunsTab1_ok : tabOK Tryz.prog billingRunsTab1 = true := by kernel_rfl
theorem billingRunsTab2_ok : tabOK Tryz.prog billingRunsTab2 = true := by kernel_rfl
theorem billingRunsTab3_ok : tabOK Tryz.prog billingRunsTab3 = true := by kernel_rfl
theorem billingRunsTab_ok : tabOK Tryz.prog billingRunsTab = true := tabOK_append billingRunsTab0_ok (tabOK_append billingRunsTab1_ok (tabOK_append billingRunsTab2_ok (billingRunsTab3_ok)))
theorem billingRuns_true : saysQ Tryz.prog (plansOf Tryz.prog billingRunsTabSp billingRunsTab) 1000 3 = true := by kernel_rfl
theorem billingRuns_any (W : World) : Calls Tryz.prog 3 #[] W fun e W' => e = .returned (.bool true) ∧ Below W.heap.size W W' :=
  callsQ_true (plansOK_of (by kernel_rfl) billingRunsTabSp_ok billingRunsTab_ok) billingRuns_true W

theorem billingRuns_lifted (os : Os) (started : os.Started) (H : Type) (enc : TypeId × Value → H) :
    ReturnsInHanded {} Tryz.checked os 3 .any (Rows.billingRunsSpec.pre6 enc Tryz.prog Tryz.f3 Rows.billingRunsRow.domain false) (Rows.billingRunsSpec.post enc Tryz.prog Tryz.f3 false true false false) := by
  refine returnsInHanded_of_change (C := Tryz.checked) Tryz.own started (by kernel_rfl) Tryz.func3
    (ChangeSpec.witness6 (enc := enc) (C := Tryz.checked) false ⟨#[], #[], []⟩ 8 (by kernel_rfl) (by kernel_rfl) (by kernel_rfl) (by kernel_rfl)) ?_
  intro W base args ds gs before _ hW _ _
  have hW' := hW
  obtain ⟨p, q, hA0, hV, rfl, _, _⟩ := hW
  have hA : DataW.TrodAll enc Tryz.prog W 0 (fun _ => true) true Tryz.f3.params.toList args.toList ds p := hA0
  rw [Tryz.params3] at hA
  obtain ⟨rfl, rfl, rfl⟩ := trodAll_none hA
  obtain ⟨rfl, rfl⟩ := trodVars_none hV
  simp only [List.append_nil] at hW'
  refine (billingRuns_any W).mono fun e W' ⟨he, hw⟩ => ?_
  subst he
  exact ⟨_, rfl, post_of_below (pa := []) (pv := []) hW' (fun b sp hd => true_trod Tryz.underlying4 b sp hd) (fun _ _ => trodAll_mk0) (fun _ _ => rfl) rfl (kept_of_below hw _)⟩

theorem billingRuns_holds : Rows.BillingRunsSaid :=
  OpenClaim.holds_of_wide 3 Tryz.f3 rfl rfl rfl rfl rfl rfl rfl ⟨rfl, rfl, rfl, rfl, rfl⟩ rfl rfl rfl rfl rfl (by kernel_rfl) Tryz.func3 (by kernel_rfl)
    (of_decide_eq_true (by kernel_rfl)) (by unfold Func.isWrapper; first | (rw [if_pos (by decide +kernel)]; kernel_rfl) | (rw [if_neg (by decide +kernel)]; exact ⟨rfl, rfl⟩))
    (fun os started H enc _ => billingRuns_lifted os started H enc)
end Go.Proofs.YtdjgnfkoilaejaaGreat
