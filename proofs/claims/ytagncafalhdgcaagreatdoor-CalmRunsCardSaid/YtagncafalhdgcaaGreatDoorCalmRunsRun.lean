/-
  CalmRuns: whatever the order, the call returns true and turns nothing that was there: the code is run over the abstract machine of the Am texts, by the kernel; no condition.
-/
import Derived.Test.YtagncafalhdgcaaGreatDoorProg
import Derived.Test.YtagncafalhdgcaaGreatDoorAmRow
import Derived.KernelRfl
import Derived.Test.YtagncafalhdgcaaGreatDoorCalmRunsLit
namespace Go.Proofs.YtagncafalhdgcaaGreatDoor
open Go.RowKit Go.AM

set_option maxRecDepth 100000
def calmRunsTab0 : PlTab := [
  (5, []),
  (7, []),
  (8, []),
  (9, []),
  (10, []),
  (11, []),
  (12, [(9, [(0,[]),(1,[]),(2,[]),(3,[]),(4,[]),(5,[]),(6,[]),(7,[]),(8,[]),(9,[]),(10,[4]),(11,[]),(12,[]),(13,[]),(14,[]),(15,[]),(16,[]),(17,[])])]),
  (14, []),
  (16, []),
  (18, [(1, [(0,[]),(1,[]),(2,[]),(3,[]),(4,[]),(5,[]),(6,[]),(7,[]),(8,[]),(9,[]),(10,[]),(11,[]),(12,[]),(13,[8]),(14,[]),(15,[]),(16,[])]), (3, [(0,[]),(1,[]),(2,[]),(3,[]),(4,[]),(5,[]),(6,[]),(7,[]),(8,[]),(9,[]),(10,[]),(11,[]),(12,[7,3]),(13,[]),(14,[]),(15,[])])]),
  (19, [(7, [(0,[]),(1,[]),(2,[]),(3,[]),(4,[]),(5,[]),(6,[]),(7,[]),(8,[]),(9,[]),(10,[]),(11,[]),(12,[]),(13,[3]),(14,[]),(15,[])])]),
  (21, [(10, [(0,[]),(1,[]),(3,[]),(4,[]),(2,[]),(5,[]),(6,[])])]),
  (22, [(5, [(0,[]),(1,[]),(2,[]),(3,[]),(4,[]),(5,[3]),(6,[])]), (6, [(0,[]),(1,[]),(2,[]),(3,[1]),(4,[]),(5,[]),(6,[])])]),
  (23, []),
  (24, []),
  (25, []),
  (26, []),
  (28, []),
  (29, []),
  (30, []),
  (31, []),
  (35, []),
  (36, []),
  (37, [(4, [(0,[]),(1,[]),(3,[]),(4,[]),(5,[]),(6,[]),(2,[4]),(7,[]),(8,[]),(9,[]),(10,[])])]),
  (38, [])]
def calmRunsTab1 : PlTab := [
  (39, []),
  (40, []),
  (41, [(1, [(0,[]),(1,[]),(2,[]),(3,[]),(4,[]),(5,[0]),(6,[]),(7,[])]), (9, [(0,[]),(1,[]),(2,[]),(3,[]),(4,[]),(5,[]),(6,[]),(7,[]),(8,[5]),(9,[]),(10,[]),(11,[]),(12,[]),(13,[]),(14,[])]), (14, [(0,[]),(1,[]),(2,[]),(3,[]),(4,[]),(5,[]),(6,[]),(7,[]),(8,[]),(9,[4]),(10,[]),(11,[]),(12,[]),(13,[])])]),
  (42, []),
  (43, [(7, [(0,[]),(1,[]),(3,[]),(4,[]),(6,[]),(2,[4]),(5,[]),(7,[]),(8,[]),(9,[]),(10,[])])]),
  (44, []),
  (45, [(1, [(0,[]),(1,[]),(2,[]),(3,[]),(4,[]),(5,[]),(6,[]),(7,[]),(8,[]),(9,[]),(10,[]),(11,[]),(12,[]),(14,[]),(15,[]),(16,[]),(17,[]),(18,[]),(13,[17,11,7,3]),(19,[17,11,7,3]),(20,[]),(21,[])])]),
  (46, []),
  (47, [(8, [(0,[]),(1,[]),(2,[]),(3,[]),(4,[]),(5,[]),(6,[]),(7,[]),(8,[]),(9,[]),(10,[]),(11,[]),(12,[]),(13,[]),(14,[]),(15,[]),(16,[]),(17,[]),(18,[]),(19,[]),(20,[]),(21,[]),(22,[10,5]),(23,[]),(24,[]),(25,[]),(26,[])])]),
  (48, []),
  (49, []),
  (51, []),
  (52, []),
  (53, []),
  (54, []),
  (55, []),
  (56, [(1, [(0,[]),(1,[]),(2,[]),(3,[0]),(4,[]),(5,[]),(6,[])])]),
  (57, []),
  (58, []),
  (68, []),
  (69, []),
  (70, []),
  (71, []),
  (72, []),
  (73, [])]
def calmRunsTab2 : PlTab := [
  (74, []),
  (75, []),
  (76, []),
  (77, []),
  (78, []),
  (79, []),
  (80, []),
  (81, []),
  (82, []),
  (83, []),
  (84, []),
  (85, []),
  (86, []),
  (87, []),
  (88, []),
  (89, []),
  (90, [(2, [(0,[]),(2,[]),(3,[]),(4,[]),(5,[]),(1,[5]),(6,[])])]),
  (91, []),
  (92, []),
  (93, []),
  (94, []),
  (95, []),
  (96, [(6, [(0,[]),(1,[]),(2,[]),(3,[]),(4,[2]),(5,[]),(6,[])])]),
  (97, [(2, [(0,[]),(1,[]),(2,[]),(3,[]),(4,[]),(5,[]),(6,[]),(7,[]),(8,[]),(9,[]),(10,[]),(11,[]),(12,[]),(13,[]),(14,[]),(15,[]),(16,[]),(17,[]),(18,[]),(19,[]),(20,[]),(21,[]),(22,[]),(23,[]),(24,[]),(25,[]),(26,[]),(27,[]),(28,[]),(29,[]),(30,[28]),(31,[]),(32,[]),(33,[]),(34,[]),(35,[])])]),
  (98, [(3, [(0,[]),(2,[]),(3,[]),(4,[]),(5,[]),(1,[5]),(6,[])])])]
def calmRunsTab3 : PlTab := [
  (99, [(3, [(0,[]),(1,[]),(2,[]),(3,[1]),(4,[])]), (4, [(0,[]),(1,[]),(2,[]),(3,[]),(4,[2]),(5,[]),(6,[])]), (5, [(0,[]),(1,[]),(2,[]),(3,[]),(4,[]),(5,[]),(6,[]),(7,[]),(8,[]),(9,[]),(10,[]),(11,[]),(13,[]),(14,[]),(12,[14]),(15,[]),(16,[])]), (12, [(0,[]),(1,[]),(2,[]),(3,[]),(4,[]),(5,[]),(6,[]),(7,[]),(8,[]),(9,[]),(10,[]),(11,[]),(12,[]),(13,[]),(14,[]),(16,[]),(17,[]),(15,[17]),(18,[]),(19,[]),(20,[])])]),
  (100, [(1, [(0,[]),(1,[]),(2,[]),(3,[]),(4,[]),(5,[]),(6,[]),(7,[]),(8,[]),(9,[7]),(10,[]),(11,[])]), (9, [(0,[]),(1,[]),(2,[]),(3,[]),(4,[]),(5,[]),(6,[]),(7,[]),(8,[]),(9,[]),(10,[]),(11,[9]),(12,[]),(13,[])])]),
  (101, []),
  (102, []),
  (103, []),
  (104, []),
  (105, []),
  (106, []),
  (107, [(0, [(0,[]),(1,[]),(2,[]),(3,[]),(4,[]),(5,[]),(7,[]),(8,[]),(6,[4]),(9,[]),(10,[]),(11,[])])]),
  (108, []),
  (109, []),
  (110, []),
  (111, []),
  (112, []),
  (113, []),
  (114, []),
  (115, [(9, [(0,[]),(1,[]),(2,[]),(3,[]),(4,[]),(5,[]),(6,[]),(7,[]),(8,[]),(9,[]),(10,[1]),(11,[]),(12,[]),(13,[]),(14,[])])]),
  (116, [(3, [(0,[]),(1,[0]),(2,[]),(3,[])]), (5, [(0,[]),(1,[0]),(2,[]),(3,[])]), (10, [(0,[]),(1,[]),(2,[0]),(3,[]),(4,[])]), (12, [(0,[]),(1,[]),(2,[1]),(3,[])]), (17, [(0,[]),(1,[]),(2,[1]),(3,[])])]),
  (117, []),
  (118, []),
  (119, []),
  (120, []),
  (121, []),
  (122, []),
  (123, [(9, [(0,[]),(1,[]),(2,[]),(4,[]),(5,[]),(7,[]),(8,[]),(9,[]),(3,[9,8,5]),(6,[9,8]),(10,[]),(11,[])]), (13, [(0,[]),(1,[]),(2,[]),(4,[]),(5,[]),(7,[]),(8,[]),(3,[8,5]),(6,[8]),(9,[]),(10,[])])])]
def calmRunsTab4 : PlTab := [
  (137, [(12, [(0,[]),(1,[]),(2,[]),(3,[]),(4,[]),(5,[]),(6,[]),(7,[]),(8,[]),(9,[]),(10,[]),(11,[8,7]),(12,[]),(13,[]),(14,[8]),(15,[])])]),
  (138, []),
  (139, []),
  (140, []),
  (141, []),
  (142, []),
  (143, []),
  (144, []),
  (145, []),
  (146, []),
  (147, []),
  (148, []),
  (149, []),
  (150, []),
  (151, []),
  (152, []),
  (153, []),
  (154, []),
  (155, [(10, [(0,[]),(1,[]),(2,[]),(3,[]),(4,[]),(7,[]),(8,[]),(9,[]),(10,[]),(11,[]),(5,[]),(6,[11]),(12,[]),(13,[]),(14,[]),(15,[])])]),
  (156, []),
  (157, []),
  (158, []),
  (159, []),
  (160, []),
  (161, [])]
def calmRunsTab5 : PlTab := [
  (162, []),
  (163, []),
  (164, []),
  (165, []),
  (166, []),
  (167, []),
  (168, [(6, [(0,[]),(1,[]),(2,[]),(3,[]),(4,[]),(5,[]),(6,[]),(7,[]),(8,[]),(10,[]),(11,[]),(12,[]),(13,[]),(14,[]),(9,[14,3]),(15,[]),(16,[])])]),
  (169, []),
  (170, [(4, [(0,[]),(1,[]),(2,[]),(6,[]),(7,[]),(3,[]),(4,[]),(5,[]),(8,[]),(9,[])])]),
  (171, [(1, [(0,[]),(1,[]),(2,[]),(3,[]),(4,[]),(5,[]),(6,[]),(7,[]),(8,[]),(9,[]),(10,[8]),(11,[]),(12,[])])]),
  (172, []),
  (173, []),
  (174, []),
  (175, []),
  (176, []),
  (177, []),
  (178, [(5, [(0,[]),(1,[]),(2,[]),(3,[]),(4,[]),(5,[]),(6,[]),(7,[]),(8,[]),(9,[]),(10,[]),(11,[]),(12,[]),(13,[]),(14,[]),(15,[]),(16,[]),(17,[]),(19,[]),(20,[]),(18,[20]),(21,[]),(22,[])])]),
  (179, []),
  (180, [(11, [(0,[]),(1,[]),(3,[]),(4,[]),(5,[]),(6,[]),(7,[]),(2,[7]),(8,[]),(9,[]),(10,[]),(11,[]),(12,[]),(13,[])])]),
  (181, [(2, [(0,[]),(1,[]),(2,[]),(3,[1]),(4,[]),(5,[]),(6,[]),(7,[]),(8,[]),(10,[]),(11,[]),(9,[11]),(12,[]),(13,[])]), (4, [(0,[]),(1,[]),(2,[]),(3,[]),(4,[]),(5,[]),(6,[]),(7,[]),(8,[]),(9,[]),(10,[]),(11,[]),(12,[]),(13,[]),(14,[]),(15,[]),(16,[10,8]),(17,[]),(18,[]),(19,[]),(20,[10]),(21,[]),(22,[]),(23,[]),(24,[]),(25,[]),(26,[]),(27,[]),(28,[]),(29,[]),(30,[]),(31,[]),(32,[])])]),
  (182, [(9, [(0,[]),(1,[]),(2,[]),(3,[]),(4,[]),(5,[]),(6,[3,1]),(7,[]),(8,[]),(9,[]),(10,[])])]),
  (183, [(5, [(0,[]),(1,[]),(2,[]),(3,[]),(4,[]),(5,[3]),(6,[]),(7,[])]), (14, [(0,[]),(1,[]),(2,[]),(3,[]),(4,[]),(5,[]),(6,[]),(7,[]),(8,[]),(10,[]),(9,[5,2]),(11,[5]),(12,[]),(13,[]),(14,[]),(15,[])]), (17, [(0,[]),(1,[]),(2,[]),(3,[]),(4,[]),(5,[]),(6,[]),(7,[5,3]),(8,[]),(9,[5]),(10,[]),(11,[])]), (24, [(0,[]),(1,[]),(2,[]),(3,[]),(4,[2]),(5,[])])]),
  (184, []),
  (185, []),
  (186, [])]
def calmRunsTab6 : PlTab := [
  (187, []),
  (188, []),
  (189, []),
  (190, [(2, [(0,[]),(1,[0]),(2,[]),(3,[])]), (5, [(0,[]),(1,[]),(2,[0]),(3,[]),(4,[])]), (9, [(0,[]),(1,[]),(2,[1]),(3,[])])]),
  (191, []),
  (192, []),
  (193, [(8, [(0,[]),(1,[]),(2,[]),(3,[]),(4,[]),(5,[]),(6,[]),(7,[]),(8,[5]),(9,[]),(10,[]),(11,[])])]),
  (194, []),
  (195, []),
  (197, []),
  (198, []),
  (199, []),
  (202, []),
  (209, []),
  (211, [(10, [(0,[]),(1,[]),(2,[]),(3,[]),(5,[]),(6,[]),(7,[]),(4,[]),(8,[]),(9,[]),(10,[])])]),
  (212, []),
  (213, []),
  (214, [(4, [(0,[]),(1,[]),(3,[]),(4,[]),(2,[4]),(5,[]),(6,[])])]),
  (215, []),
  (216, [(12, [(0,[]),(1,[]),(2,[]),(5,[]),(6,[]),(7,[]),(3,[]),(4,[]),(8,[]),(9,[])])]),
  (217, []),
  (218, []),
  (219, []),
  (220, [(6, [(0,[]),(1,[]),(2,[]),(3,[]),(4,[]),(5,[3]),(6,[]),(7,[])]), (12, [(0,[]),(1,[]),(2,[]),(3,[]),(4,[]),(5,[]),(6,[3]),(7,[]),(8,[])])]),
  (221, [])]
def calmRunsTab7 : PlTab := [
  (222, []),
  (223, []),
  (224, []),
  (225, []),
  (226, []),
  (227, []),
  (229, []),
  (230, []),
  (231, []),
  (232, []),
  (233, []),
  (234, [(1, [(0,[]),(1,[]),(2,[]),(3,[]),(4,[]),(5,[]),(6,[]),(7,[]),(8,[]),(9,[]),(10,[]),(11,[]),(12,[]),(13,[]),(14,[]),(15,[]),(16,[]),(17,[]),(18,[]),(19,[]),(20,[]),(21,[]),(22,[]),(23,[]),(24,[]),(25,[]),(26,[]),(27,[]),(28,[]),(29,[]),(30,[25]),(31,[]),(32,[]),(33,[])])]),
  (235, []),
  (236, []),
  (237, []),
  (238, []),
  (239, []),
  (240, []),
  (241, []),
  (242, []),
  (243, []),
  (244, []),
  (245, []),
  (246, []),
  (247, [])]
def calmRunsTab8 : PlTab := [
  (248, []),
  (249, []),
  (250, []),
  (251, []),
  (252, []),
  (253, []),
  (254, []),
  (255, []),
  (256, []),
  (257, []),
  (258, []),
  (259, []),
  (260, [(17, [(0,[]),(2,[]),(3,[]),(1,[3]),(4,[]),(5,[]),(6,[]),(7,[])])]),
  (261, []),
  (262, []),
  (263, []),
  (264, []),
  (265, []),
  (266, []),
  (267, []),
  (268, [(2, [(0,[]),(1,[]),(2,[]),(3,[]),(4,[]),(5,[]),(6,[]),(7,[]),(8,[]),(9,[]),(10,[]),(11,[]),(12,[]),(13,[]),(14,[]),(15,[]),(16,[]),(17,[]),(18,[]),(19,[]),(20,[]),(21,[]),(22,[]),(23,[]),(24,[]),(26,[]),(27,[]),(28,[]),(29,[]),(30,[]),(25,[30]),(31,[]),(32,[]),(33,[]),(34,[]),(35,[]),(36,[]),(37,[]),(38,[]),(39,[]),(40,[]),(41,[]),(42,[]),(43,[]),(44,[]),(45,[]),(46,[])])]),
  (274, []),
  (283, []),
  (284, []),
  (285, [])]
def calmRunsTab9 : PlTab := [
  (286, []),
  (287, []),
  (288, []),
  (289, []),
  (290, []),
  (291, []),
  (292, []),
  (294, [(12, [(0,[]),(1,[]),(2,[]),(3,[]),(4,[]),(5,[]),(6,[3]),(7,[]),(8,[])])]),
  (295, [(1, [(0,[]),(1,[]),(3,[]),(4,[]),(6,[]),(7,[]),(2,[7,4]),(5,[7]),(8,[]),(9,[])])]),
  (296, []),
  (297, [(4, [(0,[]),(1,[]),(2,[]),(3,[]),(4,[]),(5,[]),(6,[]),(7,[]),(8,[]),(9,[]),(10,[]),(11,[]),(13,[]),(14,[]),(15,[]),(12,[15,14]),(16,[]),(17,[]),(18,[])])]),
  (298, [(1, [(0,[]),(1,[]),(2,[]),(3,[]),(4,[]),(5,[]),(6,[]),(7,[]),(8,[3]),(9,[]),(10,[]),(11,[]),(12,[]),(13,[]),(14,[])])]),
  (299, [(7, [(0,[]),(1,[]),(2,[]),(3,[]),(4,[]),(5,[]),(6,[]),(7,[]),(8,[]),(9,[]),(10,[4]),(11,[]),(12,[])])]),
  (300, [(9, [(0,[]),(1,[]),(2,[]),(3,[]),(4,[]),(5,[]),(6,[]),(7,[]),(8,[]),(9,[3]),(10,[]),(11,[])])]),
  (301, []),
  (305, [(1, [(0,[]),(1,[]),(2,[]),(3,[]),(4,[]),(5,[]),(6,[]),(7,[]),(9,[]),(8,[9]),(10,[]),(11,[]),(12,[]),(13,[])])]),
  (306, []),
  (307, []),
  (308, [(5, [(0,[]),(1,[]),(2,[]),(5,[]),(6,[]),(7,[]),(3,[]),(4,[7]),(8,[]),(9,[]),(10,[]),(11,[])])]),
  (309, []),
  (310, []),
  (311, []),
  (312, []),
  (313, []),
  (315, [])]
def calmRunsTab10 : PlTab := [
  (316, []),
  (317, []),
  (319, []),
  (320, []),
  (322, []),
  (323, []),
  (325, []),
  (326, []),
  (335, []),
  (337, []),
  (340, []),
  (341, []),
  (342, []),
  (343, []),
  (344, []),
  (345, []),
  (346, []),
  (347, []),
  (348, []),
  (349, []),
  (350, []),
  (351, []),
  (352, []),
  (353, []),
  (354, [])]
def calmRunsTab11 : PlTab := [
  (355, []),
  (356, []),
  (357, [(1, [(0,[]),(1,[]),(2,[]),(3,[]),(4,[]),(6,[]),(5,[3]),(7,[]),(8,[])]), (4, [(0,[]),(1,[]),(2,[]),(3,[]),(4,[]),(5,[3]),(6,[]),(7,[])])]),
  (358, [(4, [(0,[]),(1,[]),(2,[]),(3,[]),(4,[]),(7,[]),(8,[]),(5,[]),(6,[8]),(9,[]),(10,[]),(11,[])])]),
  (360, []),
  (361, []),
  (362, []),
  (363, []),
  (364, []),
  (367, []),
  (372, []),
  (373, []),
  (374, []),
  (375, []),
  (380, []),
  (381, []),
  (382, []),
  (383, []),
  (384, []),
  (386, []),
  (388, []),
  (392, []),
  (393, []),
  (397, []),
  (398, [])]
def calmRunsTab12 : PlTab := [
  (426, []),
  (427, []),
  (428, []),
  (429, []),
  (430, []),
  (431, []),
  (432, []),
  (433, [])]
def calmRunsTab : PlTab := calmRunsTab0 ++ (calmRunsTab1 ++ (calmRunsTab2 ++ (calmRunsTab3 ++ (calmRunsTab4 ++ (calmRunsTab5 ++ (calmRunsTab6 ++ (calmRunsTab7 ++ (calmRunsTab8 ++ (calmRunsTab9 ++ (calmRunsTab10 ++ (calmRunsTab11 ++ (calmRunsTab12))))))))))))
def calmRunsTabSp : SpTab := [(228, .ins 65), (314, .ins 66), (318, .ins 63), (321, .ins 62), (385, .ins 97), (394, .ins 180), (196, .del 131), (293, .del 97), (324, .del 66)]
theorem calmRunsTabSp228 : SpecOK Tryz.prog 228 ((Sp.ins 65).run Tryz.prog) :=
  spec_insert (e := 270) (I := 3) (B := 4) (ov := 303) (rr := 304) (fn := Tryz.f228) (insAt_of (fo := Tryz.f303) (by kernel_rfl) (by kernel_rfl) (by kernel_rfl) (by kernel_rfl) (by kernel_rfl)
    (by kernel_rfl) (by kernel_rfl) (by kernel_rfl) (by kernel_rfl) (by kernel_rfl) (by kernel_rfl) (by kernel_rfl) (by kernel_rfl) (by kernel_rfl) (by kernel_rfl) (by kernel_rfl) (by kernel_rfl)) (by kernel_rfl)
theorem calmRunsTabSp314 : SpecOK Tryz.prog 314 ((Sp.ins 66).run Tryz.prog) :=
  spec_insert (e := 188) (I := 3) (B := 4) (ov := 365) (rr := 366) (fn := Tryz.f314) (insAt_of (fo := Tryz.f365) (by kernel_rfl) (by kernel_rfl) (by kernel_rfl) (by kernel_rfl) (by kernel_rfl)
    (by kernel_rfl) (by kernel_rfl) (by kernel_rfl) (by kernel_rfl) (by kernel_rfl) (by kernel_rfl) (by kernel_rfl) (by kernel_rfl) (by kernel_rfl) (by kernel_rfl) (by kernel_rfl) (by kernel_rfl)) (by kernel_rfl)
theorem calmRunsTabSp318 : SpecOK Tryz.prog 318 ((Sp.ins 63).run Tryz.prog) :=
  spec_insert (e := 177) (I := 3) (B := 4) (ov := 368) (rr := 369) (fn := Tryz.f318) (insAt_of (fo := Tryz.f368) (by kernel_rfl) (by kernel_rfl) (by kernel_rfl) (by kernel_rfl) (by kernel_rfl)
    (by kernel_rfl) (by kernel_rfl) (by kernel_rfl) (by kernel_rfl) (by kernel_rfl) (by kernel_rfl) (by kernel_rfl) (by kernel_rfl) (by kernel_rfl) (by kernel_rfl) (by kernel_rfl) (by kernel_rfl)) (by kernel_rfl)
theorem calmRunsTabSp321 : SpecOK Tryz.prog 321 ((Sp.ins 62).run Tryz.prog) :=
  spec_insert (e := 40) (I := 3) (B := 4) (ov := 370) (rr := 371) (fn := Tryz.f321) (insAt_of (fo := Tryz.f370) (by kernel_rfl) (by kernel_rfl) (by kernel_rfl) (by kernel_rfl) (by kernel_rfl)
    (by kernel_rfl) (by kernel_rfl) (by kernel_rfl) (by kernel_rfl) (by kernel_rfl) (by kernel_rfl) (by kernel_rfl) (by kernel_rfl) (by kernel_rfl) (by kernel_rfl) (by kernel_rfl) (by kernel_rfl)) (by kernel_rfl)
theorem calmRunsTabSp385 : SpecOK Tryz.prog 385 ((Sp.ins 97).run Tryz.prog) :=
  spec_insert (e := 120) (I := 3) (B := 4) (ov := 399) (rr := 400) (fn := Tryz.f385) (insAt_of (fo := Tryz.f399) (by kernel_rfl) (by kernel_rfl) (by kernel_rfl) (by kernel_rfl) (by kernel_rfl)
    (by kernel_rfl) (by kernel_rfl) (by kernel_rfl) (by kernel_rfl) (by kernel_rfl) (by kernel_rfl) (by kernel_rfl) (by kernel_rfl) (by kernel_rfl) (by kernel_rfl) (by kernel_rfl) (by kernel_rfl)) (by kernel_rfl)
theorem calmRunsTabSp394 : SpecOK Tryz.prog 394 ((Sp.ins 180).run Tryz.prog) :=
  spec_insert (e := 249) (I := 3) (B := 4) (ov := 404) (rr := 405) (fn := Tryz.f394) (insAt_of (fo := Tryz.f404) (by kernel_rfl) (by kernel_rfl) (by kernel_rfl) (by kernel_rfl) (by kernel_rfl)
    (by kernel_rfl) (by kernel_rfl) (by kernel_rfl) (by kernel_rfl) (by kernel_rfl) (by kernel_rfl) (by kernel_rfl) (by kernel_rfl) (by kernel_rfl) (by kernel_rfl) (by kernel_rfl) (by kernel_rfl)) (by kernel_rfl)
theorem calmRunsTabSp196 : SpecOK Tryz.prog 196 ((Sp.del 131).run Tryz.prog) :=
  spec_delete (e := 111) (I := 3) (B := 4) (fn := Tryz.f196) (delAt_of (by kernel_rfl) (by kernel_rfl) (by kernel_rfl) (by kernel_rfl) (by kernel_rfl)
    (by kernel_rfl) (by kernel_rfl) (by kernel_rfl) (by kernel_rfl) (by kernel_rfl) (by kernel_rfl) (by kernel_rfl)) (by kernel_rfl)
theorem calmRunsTabSp293 : SpecOK Tryz.prog 293 ((Sp.del 97).run Tryz.prog) :=
  spec_delete (e := 120) (I := 3) (B := 4) (fn := Tryz.f293) (delAt_of (by kernel_rfl) (by kernel_rfl) (by kernel_rfl) (by kernel_rfl) (by kernel_rfl)
    (by kernel_rfl) (by kernel_rfl) (by kernel_rfl) (by kernel_rfl) (by kernel_rfl) (by kernel_rfl) (by kernel_rfl)) (by kernel_rfl)
theorem calmRunsTabSp324 : SpecOK Tryz.prog 324 ((Sp.del 66).run Tryz.prog) :=
  spec_delete (e := 188) (I := 3) (B := 4) (fn := Tryz.f324) (delAt_of (by kernel_rfl) (by kernel_rfl) (by kernel_rfl) (by kernel_rfl) (by kernel_rfl)
    (by kernel_rfl) (by kernel_rfl) (by kernel_rfl) (by kernel_rfl) (by kernel_rfl) (by kernel_rfl) (by kernel_rfl)) (by kernel_rfl)
theorem calmRunsTabSp_ok : SpAll Tryz.prog calmRunsTabSp := ⟨calmRunsTabSp228, calmRunsTabSp314, calmRunsTabSp318, calmRunsTabSp321, calmRunsTabSp385, calmRunsTabSp394, calmRunsTabSp196, calmRunsTabSp293, calmRunsTabSp324, trivial⟩

theorem calmRunsTab0_ok : tabOK Tryz.prog calmRunsTab0 = true := by kernel_rfl
theorem calmRunsTab1_ok : tabOK Tryz.prog calmRunsTab1 = true := by kernel_rfl
theorem calmRunsTab2_ok : tabOK Tryz.prog calmRunsTab2 = true := by kernel_rfl
theorem calmRunsTab3_ok : tabOK Tryz.prog calmRunsTab3 = true := by kernel_rfl
theorem calmRunsTab4_ok : tabOK Tryz.prog calmRunsTab4 = true := by kernel_rfl
theorem calmRunsTab5_ok : tabOK Tryz.prog calmRunsTab5 = true := by kernel_rfl
theorem calmRunsTab6_ok : tabOK Tryz.prog calmRunsTab6 = true := by kernel_rfl
theorem calmRunsTab7_ok : tabOK Tryz.prog calmRunsTab7 = true := by kernel_rfl
theorem calmRunsTab8_ok : tabOK Tryz.prog calmRunsTab8 = true := by kernel_rfl
theorem calmRunsTab9_ok : tabOK Tryz.prog calmRunsTab9 = true := by kernel_rfl
theorem calmRunsTab10_ok : tabOK Tryz.prog calmRunsTab10 = true := by kernel_rfl
theorem calmRunsTab11_ok : tabOK Tryz.prog calmRunsTab11 = true := by kernel_rfl
theorem calmRunsTab12_ok : tabOK Tryz.prog calmRunsTab12 = true := by kernel_rfl
theorem calmRunsTab_ok : tabOK Tryz.prog calmRunsTab = true := tabOK_append calmRunsTab0_ok (tabOK_append calmRunsTab1_ok (tabOK_append calmRunsTab2_ok (tabOK_append calmRunsTab3_ok (tabOK_append calmRunsTab4_ok (tabOK_append calmRunsTab5_ok (tabOK_append calmRunsTab6_ok (tabOK_append calmRunsTab7_ok (tabOK_append calmRunsTab8_ok (tabOK_append calmRunsTab9_ok (tabOK_append calmRunsTab10_ok (tabOK_append calmRunsTab11_ok (calmRunsTab12_ok))))))))))))
noncomputable def calmRunsPlans : Plans := plansOf Tryz.prog calmRunsTabSp calmRunsTab
theorem calmRunsPlans_ok : PlansOK Tryz.prog calmRunsPlans := (plansOK_of (by kernel_rfl) calmRunsTabSp_ok calmRunsTab_ok)
theorem calmRunsLit0_ok : litQ Tryz.prog calmRunsPlans 1000 21 calmRunsLit0 = true := by kernel_rfl
theorem calmRunsLit1_ok : litQ Tryz.prog calmRunsPlans 1000 28 calmRunsLit1 = true := by kernel_rfl
theorem calmRunsLit2_ok : litQ Tryz.prog calmRunsPlans 1000 28 calmRunsLit2 = true := by kernel_rfl
theorem calmRunsLit3_ok : litQ Tryz.prog calmRunsPlans 1000 28 calmRunsLit3 = true := by kernel_rfl
theorem calmRunsLit4_ok : litQ Tryz.prog calmRunsPlans 1000 28 calmRunsLit4 = true := by kernel_rfl
theorem calmRunsLit5_ok : litQ Tryz.prog calmRunsPlans 1000 28 calmRunsLit5 = true := by kernel_rfl
theorem calmRunsLit6_ok : litQ Tryz.prog calmRunsPlans 1000 28 calmRunsLit6 = true := by kernel_rfl
theorem calmRunsLit7_ok : litQ Tryz.prog calmRunsPlans 1000 28 calmRunsLit7 = true := by kernel_rfl
theorem calmRunsLit8_ok : litQ Tryz.prog calmRunsPlans 1000 28 calmRunsLit8 = true := by kernel_rfl
theorem calmRunsLit9_ok : litQ Tryz.prog calmRunsPlans 1000 28 calmRunsLit9 = true := by kernel_rfl
theorem calmRunsLit10_ok : litQ Tryz.prog calmRunsPlans 1000 28 calmRunsLit10 = true := by kernel_rfl
theorem calmRunsLit11_ok : litQ Tryz.prog calmRunsPlans 1000 28 calmRunsLit11 = true := by kernel_rfl
theorem calmRunsLit12_ok : litQ Tryz.prog calmRunsPlans 1000 28 calmRunsLit12 = true := by kernel_rfl
theorem calmRunsLit13_ok : litQ Tryz.prog calmRunsPlans 1000 28 calmRunsLit13 = true := by kernel_rfl
theorem calmRunsLit14_ok : litQ Tryz.prog calmRunsPlans 1000 28 calmRunsLit14 = true := by kernel_rfl
theorem calmRunsLit15_ok : litQ Tryz.prog calmRunsPlans 1000 28 calmRunsLit15 = true := by kernel_rfl
theorem calmRunsLit16_ok : litQ Tryz.prog calmRunsPlans 1000 28 calmRunsLit16 = true := by kernel_rfl
theorem calmRunsLit17_ok : litQ Tryz.prog calmRunsPlans 1000 28 calmRunsLit17 = true := by kernel_rfl
theorem calmRunsLit18_ok : litQ Tryz.prog calmRunsPlans 1000 28 calmRunsLit18 = true := by kernel_rfl
theorem calmRunsLit19_ok : litQ Tryz.prog calmRunsPlans 1000 28 calmRunsLit19 = true := by kernel_rfl
theorem calmRunsLit20_ok : litQ Tryz.prog calmRunsPlans 1000 28 calmRunsLit20 = true := by kernel_rfl
theorem calmRunsLit21_ok : litQ Tryz.prog calmRunsPlans 1000 22 calmRunsLit21 = true := by kernel_rfl
theorem calmRunsLit22_ok : litQ Tryz.prog calmRunsPlans 1000 28 calmRunsLit22 = true := by kernel_rfl
def calmRunsTab21 : List Go.AM.Lit := [calmRunsLit0]
theorem calmRunsTab21_ok : SpecOK Tryz.prog 21 (litRun calmRunsTab21) := spec_lit calmRunsPlans_ok Tryz.func21 (by kernel_rfl) (body_get (by kernel_rfl)) (litAll_cons calmRunsLit0_ok litAll_nil)
def calmRunsTab28 : List Go.AM.Lit := [calmRunsLit1, calmRunsLit2, calmRunsLit3, calmRunsLit4, calmRunsLit5, calmRunsLit6, calmRunsLit7, calmRunsLit8, calmRunsLit9, calmRunsLit10, calmRunsLit11, calmRunsLit12, calmRunsLit13, calmRunsLit14, calmRunsLit15, calmRunsLit16, calmRunsLit17, calmRunsLit18, calmRunsLit19, calmRunsLit20, calmRunsLit22]
theorem calmRunsTab28_ok : SpecOK Tryz.prog 28 (litRun calmRunsTab28) := spec_lit calmRunsPlans_ok Tryz.func28 (by kernel_rfl) (body_get (by kernel_rfl)) (litAll_cons calmRunsLit1_ok (litAll_cons calmRunsLit2_ok (litAll_cons calmRunsLit3_ok (litAll_cons calmRunsLit4_ok (litAll_cons calmRunsLit5_ok (litAll_cons calmRunsLit6_ok (litAll_cons calmRunsLit7_ok (litAll_cons calmRunsLit8_ok (litAll_cons calmRunsLit9_ok (litAll_cons calmRunsLit10_ok (litAll_cons calmRunsLit11_ok (litAll_cons calmRunsLit12_ok (litAll_cons calmRunsLit13_ok (litAll_cons calmRunsLit14_ok (litAll_cons calmRunsLit15_ok (litAll_cons calmRunsLit16_ok (litAll_cons calmRunsLit17_ok (litAll_cons calmRunsLit18_ok (litAll_cons calmRunsLit19_ok (litAll_cons calmRunsLit20_ok (litAll_cons calmRunsLit22_ok litAll_nil)))))))))))))))))))))
def calmRunsTab22 : List Go.AM.Lit := [calmRunsLit21]
theorem calmRunsTab22_ok : SpecOK Tryz.prog 22 (litRun calmRunsTab22) := spec_lit calmRunsPlans_ok Tryz.func22 (by kernel_rfl) (body_get (by kernel_rfl)) (litAll_cons calmRunsLit21_ok litAll_nil)
theorem calmRuns_true : saysQ Tryz.prog (plansLit 22 calmRunsTab22 (plansLit 28 calmRunsTab28 (plansLit 21 calmRunsTab21 calmRunsPlans))) 1000 5 = true := by kernel_rfl
theorem calmRuns_any (W : World) : Calls Tryz.prog 5 #[] W fun e W' => e = .returned (.bool true) ∧ Below W.heap.size W W' :=
  callsQ_true (plansLit_ok (plansLit_ok (plansLit_ok calmRunsPlans_ok calmRunsTab21_ok) calmRunsTab28_ok) calmRunsTab22_ok) calmRuns_true W
end Go.Proofs.YtagncafalhdgcaaGreatDoor
