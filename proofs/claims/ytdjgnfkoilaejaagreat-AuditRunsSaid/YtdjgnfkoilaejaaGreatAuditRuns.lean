/-
  AuditRuns: whatever the order, the call returns true and turns nothing. The code is run over the abstract machine of the Am texts, by the kernel; no condition.
-/
import Derived.Test.YtdjgnfkoilaejaaGreatRows
import Derived.Test.YtdjgnfkoilaejaaGreatAmRow
namespace Go.Proofs.YtdjgnfkoilaejaaGreat
open Go.ChangeShapes Go.WideShapes Go.ChangeAt Go.RowKit Go.AM

theorem Tryz.own : ownKnob Tryz.prog.godebug = none := by kernel_rfl
theorem Tryz.laidOut : laidOutB Tryz.prog = true := by kernel_rfl

set_option maxRecDepth 100000
def auditRunsTab0 : PlTab := [
  (4, [(3, [(0,[]),(1,[0]),(2,[0]),(3,[]),(4,[]),(5,[]),(6,[]),(7,[]),(8,[])]), (4, [(0,[]),(1,[0]),(2,[0]),(3,[]),(4,[]),(5,[]),(6,[]),(7,[]),(8,[])])]),
  (8, []),
  (9, []),
  (11, []),
  (12, []),
  (13, []),
  (14, []),
  (15, []),
  (16, []),
  (17, []),
  (19, [(9, [(0,[]),(1,[]),(2,[]),(3,[]),(4,[]),(5,[]),(6,[]),(7,[]),(8,[]),(9,[]),(10,[1]),(11,[]),(12,[]),(13,[]),(14,[])])]),
  (20, [(3, [(0,[]),(1,[0]),(2,[]),(3,[])]), (5, [(0,[]),(1,[0]),(2,[]),(3,[])]), (10, [(0,[]),(1,[]),(2,[0]),(3,[]),(4,[])]), (12, [(0,[]),(1,[]),(2,[1]),(3,[])]), (17, [(0,[]),(1,[]),(2,[1]),(3,[])])]),
  (21, []),
  (22, []),
  (23, []),
  (24, []),
  (25, []),
  (26, []),
  (27, []),
  (28, [(1, [(0,[]),(1,[]),(2,[]),(3,[]),(4,[]),(5,[]),(6,[]),(7,[]),(8,[]),(9,[]),(10,[]),(11,[]),(12,[]),(13,[]),(14,[]),(15,[]),(16,[]),(17,[]),(18,[]),(19,[]),(20,[]),(21,[]),(22,[]),(23,[]),(24,[]),(25,[]),(26,[]),(27,[]),(28,[]),(29,[]),(30,[25]),(31,[]),(32,[]),(33,[])])]),
  (29, [(1, [(0,[]),(1,[]),(2,[]),(3,[]),(4,[]),(5,[]),(6,[]),(7,[]),(9,[]),(8,[9]),(10,[]),(11,[]),(12,[]),(13,[])])]),
  (30, []),
  (33, []),
  (34, [(2, [(0,[]),(1,[0]),(2,[]),(3,[])]), (5, [(0,[]),(1,[]),(2,[0]),(3,[]),(4,[])]), (9, [(0,[]),(1,[]),(2,[1]),(3,[])])]),
  (35, [])]
def auditRunsTab1 : PlTab := [
  (36, []),
  (37, [(8, [(0,[]),(1,[]),(2,[]),(3,[]),(4,[]),(5,[]),(6,[]),(7,[]),(8,[5]),(9,[]),(10,[]),(11,[])])]),
  (38, []),
  (39, []),
  (40, []),
  (41, []),
  (42, []),
  (43, []),
  (44, []),
  (45, []),
  (46, []),
  (47, []),
  (48, []),
  (49, []),
  (50, []),
  (51, []),
  (53, []),
  (56, []),
  (57, []),
  (58, []),
  (59, []),
  (60, []),
  (61, [(17, [(0,[]),(2,[]),(3,[]),(1,[3]),(4,[]),(5,[]),(6,[]),(7,[])])]),
  (62, []),
  (63, [])]
def auditRunsTab2 : PlTab := [
  (64, []),
  (65, []),
  (66, []),
  (67, []),
  (68, []),
  (69, []),
  (70, [(5, [(0,[]),(1,[]),(2,[]),(5,[]),(6,[]),(7,[]),(3,[]),(4,[7]),(8,[]),(9,[]),(10,[]),(11,[])])]),
  (71, []),
  (72, []),
  (73, []),
  (74, []),
  (75, []),
  (76, []),
  (78, []),
  (79, []),
  (84, []),
  (85, []),
  (86, []),
  (88, []),
  (89, []),
  (91, []),
  (92, []),
  (93, []),
  (94, []),
  (95, [])]
def auditRunsTab3 : PlTab := [
  (96, []),
  (97, []),
  (98, []),
  (107, []),
  (112, []),
  (113, []),
  (114, []),
  (115, []),
  (127, []),
  (128, []),
  (139, []),
  (140, [])]
def auditRunsTab : PlTab := auditRunsTab0 ++ (auditRunsTab1 ++ (auditRunsTab2 ++ (auditRunsTab3)))
def auditRunsTabSp : SpTab := [(52, .ins 56), (77, .ins 39), (83, .ins 40), (87, .ins 37), (90, .ins 36), (129, .ins 60)]
theorem auditRunsTabSp52 : SpecOK Tryz.prog 52 ((Sp.ins 56).run Tryz.prog) :=
  spec_insert (e := 68) (I := 3) (B := 4) (ov := 80) (rr := 81) (fn := Tryz.f52) (insAt_of (fo := Tryz.f80) (by kernel_rfl) (by kernel_rfl) (by kernel_rfl) (by kernel_rfl) (by kernel_rfl)
    (by kernel_rfl) (by kernel_rfl) (by kernel_rfl) (by kernel_rfl) (by kernel_rfl) (by kernel_rfl) (by kernel_rfl) (by kernel_rfl) (by kernel_rfl) (by kernel_rfl) (by kernel_rfl) (by kernel_rfl)) (by kernel_rfl)
theorem auditRunsTabSp77 : SpecOK Tryz.prog 77 ((Sp.ins 39).run Tryz.prog) :=
  spec_insert (e := 84) (I := 3) (B := 4) (ov := 99) (rr := 100) (fn := Tryz.f77) (insAt_of (fo := Tryz.f99) (by kernel_rfl) (by kernel_rfl) (by kernel_rfl) (by kernel_rfl) (by kernel_rfl)
    (by kernel_rfl) (by kernel_rfl) (by kernel_rfl) (by kernel_rfl) (by kernel_rfl) (by kernel_rfl) (by kernel_rfl) (by kernel_rfl) (by kernel_rfl) (by kernel_rfl) (by kernel_rfl) (by kernel_rfl)) (by kernel_rfl)
theorem auditRunsTabSp83 : SpecOK Tryz.prog 83 ((Sp.ins 40).run Tryz.prog) :=
  spec_insert (e := 107) (I := 3) (B := 4) (ov := 105) (rr := 106) (fn := Tryz.f83) (insAt_of (fo := Tryz.f105) (by kernel_rfl) (by kernel_rfl) (by kernel_rfl) (by kernel_rfl) (by kernel_rfl)
    (by kernel_rfl) (by kernel_rfl) (by kernel_rfl) (by kernel_rfl) (by kernel_rfl) (by kernel_rfl) (by kernel_rfl) (by kernel_rfl) (by kernel_rfl) (by kernel_rfl) (by kernel_rfl) (by kernel_rfl)) (by kernel_rfl)
theorem auditRunsTabSp87 : SpecOK Tryz.prog 87 ((Sp.ins 37).run Tryz.prog) :=
  spec_insert (e := 103) (I := 3) (B := 4) (ov := 108) (rr := 109) (fn := Tryz.f87) (insAt_of (fo := Tryz.f108) (by kernel_rfl) (by kernel_rfl) (by kernel_rfl) (by kernel_rfl) (by kernel_rfl)
    (by kernel_rfl) (by kernel_rfl) (by kernel_rfl) (by kernel_rfl) (by kernel_rfl) (by kernel_rfl) (by kernel_rfl) (by kernel_rfl) (by kernel_rfl) (by kernel_rfl) (by kernel_rfl) (by kernel_rfl)) (by kernel_rfl)
theorem auditRunsTabSp90 : SpecOK Tryz.prog 90 ((Sp.ins 36).run Tryz.prog) :=
  spec_insert (e := 25) (I := 3) (B := 4) (ov := 110) (rr := 111) (fn := Tryz.f90) (insAt_of (fo := Tryz.f110) (by kernel_rfl) (by kernel_rfl) (by kernel_rfl) (by kernel_rfl) (by kernel_rfl)
    (by kernel_rfl) (by kernel_rfl) (by kernel_rfl) (by kernel_rfl) (by kernel_rfl) (by kernel_rfl) (by kernel_rfl) (by kernel_rfl) (by kernel_rfl) (by kernel_rfl) (by kernel_rfl) (by kernel_rfl)) (by kernel_rfl)
theorem auditRunsTabSp129 : SpecOK Tryz.prog 129 ((Sp.ins 60).run Tryz.prog) :=
  spec_insert (e := 87) (I := 3) (B := 4) (ov := 141) (rr := 142) (fn := Tryz.f129) (insAt_of (fo := Tryz.f141) (by kernel_rfl) (by kernel_rfl) (by kernel_rfl) (by kernel_rfl) (by kernel_rfl)
    (by kernel_rfl) (by kernel_rfl) (by kernel_rfl) (by kernel_rfl) (by kernel_rfl) (by kernel_rfl) (by kernel_rfl) (by kernel_rfl) (by kernel_rfl) (by kernel_rfl) (by kernel_rfl) (by kernel_rfl)) (by kernel_rfl)
theorem auditRunsTabSp_ok : SpAll Tryz.prog auditRunsTabSp := ⟨auditRunsTabSp52, auditRunsTabSp77, auditRunsTabSp83, auditRunsTabSp87, auditRunsTabSp90, auditRunsTabSp129, trivial⟩

theorem auditRunsTab0_ok : tabOK Tryz.prog auditRunsTab0 = true := by kernel_rfl
theorem auditRunsTab1_ok : tabOK Tryz.prog auditRunsTab1 = true := by kernel_rfl
theorem auditRunsTab2_ok : tabOK Tryz.prog auditRunsTab2 = true := by kernel_rfl
theorem auditRunsTab3_ok : tabOK Tryz.prog auditRunsTab3 = true := by kernel_rfl
theorem auditRunsTab_ok : tabOK Tryz.prog auditRunsTab = true := tabOK_append auditRunsTab0_ok (tabOK_append auditRunsTab1_ok (tabOK_append auditRunsTab2_ok (auditRunsTab3_ok)))
theorem auditRuns_true : saysQ Tryz.prog (plansOf Tryz.prog auditRunsTabSp auditRunsTab) 1000 4 = true := by kernel_rfl
theorem auditRuns_any (W : World) : Calls Tryz.prog 4 #[] W fun e W' => e = .returned (.bool true) ∧ Below W.heap.size W W' :=
  callsQ_true (plansOK_of (by kernel_rfl) auditRunsTabSp_ok auditRunsTab_ok) auditRuns_true W

theorem auditRuns_lifted (os : Os) (started : os.Started) (H : Type) (enc : TypeId × Value → H) :
    ReturnsInHanded {} Tryz.checked os 4 .any (Rows.auditRunsSpec.pre6 enc Tryz.prog Tryz.f4 Rows.auditRunsRow.domain false) (Rows.auditRunsSpec.post enc Tryz.prog Tryz.f4 false true false false) := by
  refine returnsInHanded_of_change (C := Tryz.checked) Tryz.own started (by kernel_rfl) Tryz.func4
    (ChangeSpec.witness6 (enc := enc) (C := Tryz.checked) false ⟨#[], #[], []⟩ 8 (by kernel_rfl) (by kernel_rfl) (by kernel_rfl) (by kernel_rfl)) ?_
  intro W base args ds gs before _ hW _ _
  have hW' := hW
  obtain ⟨p, q, hA0, hV, rfl, _, _⟩ := hW
  have hA : DataW.TrodAll enc Tryz.prog W 0 (fun _ => true) true Tryz.f4.params.toList args.toList ds p := hA0
  rw [Tryz.params4] at hA
  obtain ⟨rfl, rfl, rfl⟩ := trodAll_none hA
  obtain ⟨rfl, rfl⟩ := trodVars_none hV
  simp only [List.append_nil] at hW'
  refine (auditRuns_any W).mono fun e W' ⟨he, hw⟩ => ?_
  subst he
  exact ⟨_, rfl, post_of_below (pa := []) (pv := []) hW' (fun b sp hd => true_trod Tryz.underlying4 b sp hd) (fun _ _ => trodAll_mk0) (fun _ _ => rfl) rfl (kept_of_below hw _)⟩

theorem auditRuns_holds : Rows.AuditRunsSaid :=
  OpenClaim.holds_of_wide 4 Tryz.f4 rfl rfl rfl rfl rfl rfl rfl ⟨rfl, rfl, rfl, rfl, rfl⟩ rfl rfl rfl rfl rfl (by kernel_rfl) Tryz.func4 (by kernel_rfl)
    (of_decide_eq_true (by kernel_rfl)) (by unfold Func.isWrapper; first | (rw [if_pos (by decide +kernel)]; kernel_rfl) | (rw [if_neg (by decide +kernel)]; exact ⟨rfl, rfl⟩))
    (fun os started H enc _ => auditRuns_lifted os started H enc)
end Go.Proofs.YtdjgnfkoilaejaaGreat
