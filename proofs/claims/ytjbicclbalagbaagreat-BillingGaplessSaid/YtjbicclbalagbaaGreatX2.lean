import Derived.KernelRfl
import Derived.StillTactics
import Derived.Tactics2
import Derived.Test.YtjbicclbalagbaaGreatProg
import Derived.WalkKit
import Derived.Test.YtjbicclbalagbaaGreatX1
set_option linter.unusedSimpArgs false
set_option linter.unusedVariables false
set_option maxRecDepth 100000
section
namespace Go.Proofs.YtjbicclbalagbaaGreat
open Go.RowKit Go.AM Tryz
theorem billRunsTabSp109 : SpecOK prog 109 ((Sp.ins 28).run prog) :=
 spec_insert (e := 84) (I := 3) (B := 4) (ov := 142) (rr := 143) (fn := Tryz.f109) (insAt_of (fo := Tryz.f142) (by kernel_rfl) (by kernel_rfl) (by kernel_rfl) (by kernel_rfl) (by kernel_rfl) (by kernel_rfl) (by kernel_rfl) (by kernel_rfl) (by kernel_rfl) (by kernel_rfl) (by kernel_rfl) (by kernel_rfl) (by kernel_rfl) (by kernel_rfl) (by kernel_rfl) (by kernel_rfl) (by kernel_rfl)) (by kernel_rfl)
theorem billRunsTabSp113 : SpecOK prog 113 ((Sp.ins 25).run prog) :=
 spec_insert (e := 92) (I := 3) (B := 4) (ov := 145) (rr := 146) (fn := Tryz.f113) (insAt_of (fo := Tryz.f145) (by kernel_rfl) (by kernel_rfl) (by kernel_rfl) (by kernel_rfl) (by kernel_rfl) (by kernel_rfl) (by kernel_rfl) (by kernel_rfl) (by kernel_rfl) (by kernel_rfl) (by kernel_rfl) (by kernel_rfl) (by kernel_rfl) (by kernel_rfl) (by kernel_rfl) (by kernel_rfl) (by kernel_rfl)) (by kernel_rfl)
theorem billRunsTabSp116 : SpecOK prog 116 ((Sp.ins 24).run prog) :=
 spec_insert (e := 40) (I := 3) (B := 4) (ov := 147) (rr := 148) (fn := Tryz.f116) (insAt_of (fo := Tryz.f147) (by kernel_rfl) (by kernel_rfl) (by kernel_rfl) (by kernel_rfl) (by kernel_rfl) (by kernel_rfl) (by kernel_rfl) (by kernel_rfl) (by kernel_rfl) (by kernel_rfl) (by kernel_rfl) (by kernel_rfl) (by kernel_rfl) (by kernel_rfl) (by kernel_rfl) (by kernel_rfl) (by kernel_rfl)) (by kernel_rfl)
theorem billRunsTabSp136 : SpecOK prog 136 ((Sp.ins 27).run prog) :=
 spec_insert (e := 96) (I := 3) (B := 4) (ov := 158) (rr := 159) (fn := Tryz.f136) (insAt_of (fo := Tryz.f158) (by kernel_rfl) (by kernel_rfl) (by kernel_rfl) (by kernel_rfl) (by kernel_rfl) (by kernel_rfl) (by kernel_rfl) (by kernel_rfl) (by kernel_rfl) (by kernel_rfl) (by kernel_rfl) (by kernel_rfl) (by kernel_rfl) (by kernel_rfl) (by kernel_rfl) (by kernel_rfl) (by kernel_rfl)) (by kernel_rfl)
theorem billRunsTabSp166 : SpecOK prog 166 ((Sp.ins 58).run prog) :=
 spec_insert (e := 113) (I := 3) (B := 4) (ov := 174) (rr := 175) (fn := Tryz.f166) (insAt_of (fo := Tryz.f174) (by kernel_rfl) (by kernel_rfl) (by kernel_rfl) (by kernel_rfl) (by kernel_rfl) (by kernel_rfl) (by kernel_rfl) (by kernel_rfl) (by kernel_rfl) (by kernel_rfl) (by kernel_rfl) (by kernel_rfl) (by kernel_rfl) (by kernel_rfl) (by kernel_rfl) (by kernel_rfl) (by kernel_rfl)) (by kernel_rfl)
theorem billRunsTabSp121 : SpecOK prog 121 ((Sp.del 28).run prog) :=
 spec_delete (e := 84) (I := 3) (B := 4) (fn := Tryz.f121) (delAt_of (by kernel_rfl) (by kernel_rfl) (by kernel_rfl) (by kernel_rfl) (by kernel_rfl) (by kernel_rfl) (by kernel_rfl) (by kernel_rfl) (by kernel_rfl) (by kernel_rfl) (by kernel_rfl) (by kernel_rfl)) (by kernel_rfl)
theorem within_at : WithinAt prog 26 := by
 intro W n lo hi h1 h2 h3
 have hd0 : ¬ (hi - lo + 1 = 0) := by omega
 have hm := Int.emod_lt_of_pos n (b := hi - lo + 1) (by omega)
 have hm0 := Int.emod_nonneg n hd0
 have hr1 : n.tmod (hi - lo + 1) < hi - lo + 1 ∧ -(hi - lo + 1) < n.tmod (hi - lo + 1) ∧ (n % (hi - lo + 1) = n.tmod (hi - lo + 1) ∨ n.tmod (hi - lo + 1) < 0 ∧ n % (hi - lo + 1) = n.tmod (hi - lo + 1) + (hi - lo + 1)) ∧ (0 ≤ n.tmod (hi - lo + 1) → n % (hi - lo + 1) = n.tmod (hi - lo + 1)) := by
  rw [Int.tmod_eq_emod]
  split <;> omega
 have hB : Below W.heap.size W W := ⟨rfl, rfl, rfl, Nat.le_refl _, fun _ _ => rfl⟩
 go_enter Tryz.func26, Tryz.ntmps26
 go_wp2
 all_goals
  go_ret
  refine ⟨?_, hB⟩
  generalize n.tmod (hi - lo + 1) = r at *
  generalize n % (hi - lo + 1) = q at *
 ·show Ending.returned (Value.int .i64 (lo + (r + hi - lo + 1))) = _
  congr 2
  omega
 ·show Ending.returned (Value.int .i64 (lo + r)) = _
  congr 2
  omega
theorem dSp_ok : SpAll prog dSp :=
 ⟨spec_within Tryz.func26 (by kernel_rfl) (by kernel_rfl) within_at, billRunsTabSp109, billRunsTabSp113, billRunsTabSp116, billRunsTabSp136, billRunsTabSp166, billRunsTabSp121, trivial⟩
theorem dTab_ok : tabOK prog dTab = true := by kernel_rfl
theorem dPlans_ok : PlansOK prog dPl := plansOK_of (by kernel_rfl) dSp_ok dTab_ok
end Go.Proofs.YtjbicclbalagbaaGreat
end
section
namespace Go.Proofs.YtjbicclbalagbaaGreat
open Go.AM Tryz
noncomputable def m5_j1 (C : CallD) (k : Nat) (K : KS) (again1 : List V → St → An) (p2 p3 p9 p10 p11 p12 : V) (S : St) : An :=
dR (fieldAddrV prog 30 p3 2) fun t70 =>
dR (loadV prog 26 t70 (⟨S.next + 13, S.heap⟩ : St)) fun t71 =>
dR (indexAddrV prog 26 t71 p11) fun t72 =>
dR (fieldAddrV prog 62 t72 0) fun t73 =>
dR (fieldAddrV prog 43 t73 1) fun t74 =>
dR (loadV prog 3 t74 (⟨S.next + 13, S.heap⟩ : St)) fun t75 =>
dR (indexAddrV prog 64 p10 p12) fun t76 =>
dR (loadV prog 3 t76 (⟨S.next + 13, S.heap⟩ : St)) fun t77 =>
dR (binV prog .add 3 t77 (.int .i64 1)) fun t78 =>
dIf (guardP prog 3 t75 t78) (dR (binV prog .neq 3 t75 t78) fun t79 =>
pickD t79 (K (.bool false) (⟨S.next + 13, S.heap⟩ : St)) (dR (indexAddrV prog 64 p10 p12) fun t80 =>
dR (loadV prog 3 t80 (⟨S.next + 13, S.heap⟩ : St)) fun t81 =>
dR (binV prog .add 3 t81 (.int .i64 1)) fun t82 =>
dR (indexAddrV prog 64 p10 p12) fun t83 =>
dR (storeV prog 3 t83 t82 (⟨S.next + 13, S.heap⟩ : St)) fun S84 =>
dR (binV prog .add 3 p11 (.int .i64 1)) fun t85 =>
again1 [p2, p9, p10, t85] S84))
noncomputable def m5_j0 (C : CallD) (k : Nat) (K : KS) (again1 : List V → St → An) (p2 p3 p9 p10 p11 p12 : V) (S : St) : An :=
dR (lenV prog 63 p9 S) fun t86 =>
dIf (guardP prog 3 p12 t86) (dR (binV prog .eql 3 p12 t86) fun t87 =>
pickD t87 (dR (fieldAddrV prog 30 p3 2) fun t88 =>
dR (loadV prog 26 t88 S) fun t89 =>
dR (indexAddrV prog 26 t89 p11) fun t90 =>
dR (fieldAddrV prog 62 t90 0) fun t91 =>
dR (fieldAddrV prog 43 t91 0) fun t92 =>
dR (loadV prog 9 t92 S) fun t93 =>
dR (buildSliceV prog 63 1 [(0, t93)] none S) fun r94 =>
dR (appendV prog 63 p9 r94.1 none r94.2) fun r95 =>
dR (buildSliceV prog 64 1 [(0, (.int .i64 0))] none r95.2) fun r96 =>
dR (appendV prog 64 p10 r96.1 none r96.2) fun r97 =>
m5_j1 C k K again1 p2 p3 r95.1 r97.1 p11 p12 r97.2) (m5_j1 C k K again1 p2 p3 p9 p10 p11 p12 S))
noncomputable def m5_l2 (C : CallD) (k : Nat) (K : KS) (again1 : List V → St → An) (p2 p3 p9 p10 p11 : V) (vs : List V) (S : St) (again2 : List V → St → An) : An :=
unD vs fun x12 vs =>
dR (lenV prog 63 p9 (⟨S.next + 18, S.heap⟩ : St)) fun t98 =>
dR (binV prog .lss 3 x12 t98) fun t99 =>
pickD t99 (dR (indexAddrV prog 63 p9 x12) fun t100 =>
dR (loadV prog 9 t100 (⟨S.next + 18, S.heap⟩ : St)) fun t101 =>
dR (fieldAddrV prog 30 p3 2) fun t102 =>
dR (loadV prog 26 t102 (⟨S.next + 18, S.heap⟩ : St)) fun t103 =>
dR (indexAddrV prog 26 t103 p11) fun t104 =>
dR (fieldAddrV prog 62 t104 0) fun t105 =>
dR (fieldAddrV prog 43 t105 0) fun t106 =>
dR (loadV prog 9 t106 (⟨S.next + 18, S.heap⟩ : St)) fun t107 =>
dIf (guardP prog 9 t101 t107) (dR (binV prog .neq 9 t101 t107) fun t108 =>
pickD t108 (dR (binV prog .add 3 x12 (.int .i64 1)) fun t109 =>
again2 [t109] (⟨S.next + 18, S.heap⟩ : St)) (m5_j0 C k K again1 p2 p3 p9 p10 p11 x12 (⟨S.next + 18, S.heap⟩ : St)))) (m5_j0 C k K again1 p2 p3 p9 p10 p11 x12 (⟨S.next + 18, S.heap⟩ : St))
noncomputable def m5_l1 (C : CallD) (k : Nat) (K : KS) (p3 : V) (vs : List V) (S : St) (again1 : List V → St → An) : An :=
unD vs fun x2 vs =>
unD vs fun x9 vs =>
unD vs fun x10 vs =>
unD vs fun x11 vs =>
dR (fieldAddrV prog 30 p3 2) fun t66 =>
dR (loadV prog 26 t66 S) fun t67 =>
dR (lenV prog 26 t67 S) fun t68 =>
dR (binV prog .lss 3 x11 t68) fun t69 =>
pickD t69 (loopD k [(.int .i64 0)] S (m5_l2 C k K again1 x2 p3 x9 x10 x11)) (C 20 [] S fun t110 S111 =>
K t110 S111)
noncomputable def m5_l0 (C : CallD) (k : Nat) (K : KS) (p0 p3 : V) (vs : List V) (S : St) (again0 : List V → St → An) : An :=
unD vs fun x2 vs =>
unD vs fun x4 vs =>
dR (lenV prog 22 p0 S) fun t6 =>
dR (binV prog .lss 3 x4 t6) fun t7 =>
pickD t7 (dR (fieldAddrV prog 30 p3 2) fun t8 =>
dR (loadV prog 26 t8 S) fun t9 =>
dR (lenV prog 26 t9 S) fun t10 =>
dR (loadV prog 30 p3 (⟨S.next + 13, S.heap⟩ : St)) fun t11 =>
dR (indexAddrV prog 22 p0 x4) fun t12 =>
dR (loadV prog 47 t12 (⟨S.next + 13, S.heap⟩ : St)) fun t13 =>
C 16 [t11, t13] (⟨S.next + 13, S.heap⟩ : St) fun t14 S15 =>
tupD t14 0 fun t16 =>
tupD t14 1 fun t17 =>
dR (newBlk (some (S.next + 9)) S15 (.row 0 6 [[.nils,.nils,.nils,.nils,.nils,.int .i64 0]])) fun r18 =>
dR (newBlk (some (S.next + 10)) r18.2 (.row 0 3 [[.int .i64 0,.int .i64 0,.int .i64 0]])) fun r19 =>
dR (storeV prog 30 (.ptr r18.1 0 0 0) t16 r19.2) fun S20 =>
dR (storeV prog 34 (.ptr r19.1 0 0 0) t17 S20) fun S21 =>
dR (fieldAddrV prog 30 (.ptr r18.1 0 0 0) 2) fun t22 =>
dR (loadV prog 26 t22 S21) fun t23 =>
dR (lenV prog 26 t23 S21) fun t24 =>
dR (binV prog .gtr 3 t24 t10) fun t25 =>
pickD t25 (dR (fieldAddrV prog 30 (.ptr r18.1 0 0 0) 2) fun t26 =>
dR (loadV prog 26 t26 S21) fun t27 =>
dR (indexAddrV prog 26 t27 t10) fun t28 =>
dR (loadV prog 62 t28 S21) fun t29 =>
dR (newBlk none S21 (.row 0 12 [[.str [],.int .i64 0,.int .i64 0,.int .i64 0,.int .i64 0,.int .i64 0,.int .i64 0,.int .i64 0,.nils,.str [],.int .i64 0,.bool false]])) fun r30 =>
dR (storeV prog 62 (.ptr r30.1 0 0 0) t29 r30.2) fun S31 =>
dR (fieldAddrV prog 30 (.ptr r18.1 0 0 0) 2) fun t32 =>
dR (loadV prog 26 t32 (⟨S31.next + 39, S31.heap⟩ : St)) fun t33 =>
dR (lenV prog 26 t33 (⟨S31.next + 39, S31.heap⟩ : St)) fun t34 =>
dR (binV prog .add 3 t10 (.int .i64 1)) fun t35 =>
dIf (guardP prog 3 t34 t35) (dR (binV prog .neq 3 t34 t35) fun t36 =>
pickD t36 (K (.bool false) (⟨S31.next + 39, S31.heap⟩ : St)) (dR (fieldAddrV prog 34 (.ptr r19.1 0 0 0) 0) fun t37 =>
dR (loadV prog 32 t37 (⟨S31.next + 39, S31.heap⟩ : St)) fun t38 =>
dIf (guardP prog 32 t38 (.int .i64 0)) (dR (binV prog .neq 32 t38 (.int .i64 0)) fun t39 =>
pickD t39 (K (.bool false) (⟨S31.next + 39, S31.heap⟩ : St)) (dR (fieldAddrV prog 34 (.ptr r19.1 0 0 0) 1) fun t40 =>
dR (loadV prog 3 t40 (⟨S31.next + 39, S31.heap⟩ : St)) fun t41 =>
dR (fieldAddrV prog 62 (.ptr r30.1 0 0 0) 0) fun t42 =>
dR (fieldAddrV prog 43 t42 1) fun t43 =>
dR (loadV prog 3 t43 (⟨S31.next + 39, S31.heap⟩ : St)) fun t44 =>
dIf (guardP prog 3 t41 t44) (dR (binV prog .neq 3 t41 t44) fun t45 =>
pickD t45 (K (.bool false) (⟨S31.next + 39, S31.heap⟩ : St)) (dR (fieldAddrV prog 34 (.ptr r19.1 0 0 0) 2) fun t46 =>
dR (loadV prog 3 t46 (⟨S31.next + 39, S31.heap⟩ : St)) fun t47 =>
dR (fieldAddrV prog 62 (.ptr r30.1 0 0 0) 2) fun t48 =>
dR (fieldAddrV prog 60 t48 2) fun t49 =>
dR (loadV prog 3 t49 (⟨S31.next + 39, S31.heap⟩ : St)) fun t50 =>
dIf (guardP prog 3 t47 t50) (dR (binV prog .neq 3 t47 t50) fun t51 =>
pickD t51 (K (.bool false) (⟨S31.next + 39, S31.heap⟩ : St)) (dR (fieldAddrV prog 62 (.ptr r30.1 0 0 0) 0) fun t52 =>
dR (fieldAddrV prog 43 t52 0) fun t53 =>
dR (loadV prog 9 t53 (⟨S31.next + 39, S31.heap⟩ : St)) fun t54 =>
dR (indexAddrV prog 22 p0 x4) fun t55 =>
dR (fieldAddrV prog 47 t55 2) fun t56 =>
dR (fieldAddrV prog 45 t56 1) fun t57 =>
dR (loadV prog 9 t57 (⟨S31.next + 39, S31.heap⟩ : St)) fun t58 =>
dIf (guardP prog 9 t54 t58) (dR (binV prog .neq 9 t54 t58) fun t59 =>
pickD t59 (K (.bool false) (⟨S31.next + 39, S31.heap⟩ : St)) (dR (loadV prog 30 (.ptr r18.1 0 0 0) (⟨S31.next + 39, S31.heap⟩ : St)) fun t60 =>
dR (storeV prog 30 p3 t60 (⟨S31.next + 39, S31.heap⟩ : St)) fun S61 =>
dR (binV prog .add 3 x4 (.int .i64 1)) fun t62 =>
again0 [x2, t62] S61))))))))))) (dR (loadV prog 30 (.ptr r18.1 0 0 0) S21) fun t63 =>
dR (storeV prog 30 p3 t63 S21) fun S64 =>
dR (binV prog .add 3 x4 (.int .i64 1)) fun t65 =>
again0 [x2, t65] S64)) (loopD k [x2, (.nils), (.nils), (.int .i64 0)] S (m5_l1 C k K p3))
noncomputable def m5 (C : CallD) (k : Nat) (a0 : V) (S : St) (K : KS) : An :=
C 14 [] S fun t0 S1 =>
dR (newBlk none S1 (.row 0 6 [[.nils,.nils,.nils,.nils,.nils,.int .i64 0]])) fun r2 =>
dR (storeV prog 30 (.ptr r2.1 0 0 0) t0 r2.2) fun S3 =>
C 13 [a0, (.int .i64 60)] S3 fun t4 S5 =>
loopD k [(.bool false), (.int .i64 0)] S5 (m5_l0 C k K t4 (.ptr r2.1 0 0 0))
theorem m5_eq : (fun (k : Nat) (a0 : V) (S : St) (K : KS) => callD prog dPl dLv (k + 1) 5 [a0] S K) = fun k a0 S K => m5 (callD prog dPl dLv k) k a0 S K := by kernel_rfl
noncomputable def m8_l1 (C : CallD) (k : Nat) (K : KS) (again0 : List V → St → An) (p0 p3 p4 p5 p6 : V) (vs : List V) (S : St) (again1 : List V → St → An) : An :=
unD vs fun x2 vs =>
unD vs fun x8 vs =>
dR (lenV prog 22 p4 S) fun t26 =>
dR (binV prog .lss 3 x8 t26) fun t27 =>
pickD t27 (dR (indexAddrV prog 22 p4 x8) fun t28 =>
dR (fieldAddrV prog 47 t28 0) fun t29 =>
dR (loadV prog 3 t29 (⟨S.next + 24, S.heap⟩ : St)) fun t30 =>
dR (indexAddrV prog 22 p0 p5) fun t31 =>
dR (fieldAddrV prog 47 t31 0) fun t32 =>
dR (loadV prog 3 t32 (⟨S.next + 24, S.heap⟩ : St)) fun t33 =>
dIf (guardP prog 3 t30 t33) (dR (binV prog .eql 3 t30 t33) fun t34 =>
pickD t34 (dR (indexAddrV prog 22 p4 x8) fun t35 =>
dR (fieldAddrV prog 47 t35 1) fun t36 =>
dR (loadV prog 3 t36 (⟨S.next + 24, S.heap⟩ : St)) fun t37 =>
dR (indexAddrV prog 22 p0 p5) fun t38 =>
dR (fieldAddrV prog 47 t38 1) fun t39 =>
dR (loadV prog 3 t39 (⟨S.next + 24, S.heap⟩ : St)) fun t40 =>
dIf (guardP prog 3 t37 t40) (dR (binV prog .eql 3 t37 t40) fun t41 =>
pickD t41 (K (.bool false) (⟨S.next + 24, S.heap⟩ : St)) (dR (binV prog .add 3 x8 (.int .i64 1)) fun t42 =>
again1 [x2, t42] (⟨S.next + 24, S.heap⟩ : St)))) (dR (binV prog .add 3 x8 (.int .i64 1)) fun t43 =>
again1 [x2, t43] (⟨S.next + 24, S.heap⟩ : St)))) (dR (indexAddrV prog 22 p0 p5) fun t44 =>
dR (loadV prog 47 t44 S) fun t45 =>
dR (buildSliceV prog 22 1 [(0, t45)] none S) fun r46 =>
dR (appendV prog 22 p4 r46.1 none r46.2) fun r47 =>
dR (loadV prog 30 p6 r47.2) fun t48 =>
dR (storeV prog 30 p3 t48 r47.2) fun S49 =>
dR (binV prog .add 3 p5 (.int .i64 1)) fun t50 =>
again0 [x2, r47.1, t50] S49)
noncomputable def m8_l0 (C : CallD) (k : Nat) (K : KS) (p0 p3 : V) (vs : List V) (S : St) (again0 : List V → St → An) : An :=
unD vs fun x2 vs =>
unD vs fun x4 vs =>
unD vs fun x5 vs =>
dR (lenV prog 22 p0 S) fun t6 =>
dR (binV prog .lss 3 x5 t6) fun t7 =>
pickD t7 (dR (loadV prog 30 p3 (⟨S.next + 13, S.heap⟩ : St)) fun t8 =>
dR (indexAddrV prog 22 p0 x5) fun t9 =>
dR (loadV prog 47 t9 (⟨S.next + 13, S.heap⟩ : St)) fun t10 =>
C 16 [t8, t10] (⟨S.next + 13, S.heap⟩ : St) fun t11 S12 =>
tupD t11 0 fun t13 =>
tupD t11 1 fun t14 =>
dR (newBlk (some (S.next + 9)) S12 (.row 0 6 [[.nils,.nils,.nils,.nils,.nils,.int .i64 0]])) fun r15 =>
dR (newBlk (some (S.next + 10)) r15.2 (.row 0 3 [[.int .i64 0,.int .i64 0,.int .i64 0]])) fun r16 =>
dR (storeV prog 30 (.ptr r15.1 0 0 0) t13 r16.2) fun S17 =>
dR (storeV prog 34 (.ptr r16.1 0 0 0) t14 S17) fun S18 =>
dR (fieldAddrV prog 30 (.ptr r15.1 0 0 0) 2) fun t19 =>
dR (loadV prog 26 t19 S18) fun t20 =>
dR (lenV prog 26 t20 S18) fun t21 =>
dR (fieldAddrV prog 30 p3 2) fun t22 =>
dR (loadV prog 26 t22 S18) fun t23 =>
dR (lenV prog 26 t23 S18) fun t24 =>
dR (binV prog .gtr 3 t21 t24) fun t25 =>
pickD t25 (loopD k [x2, (.int .i64 0)] S18 (m8_l1 C k K again0 p0 p3 x4 x5 (.ptr r15.1 0 0 0))) (dR (loadV prog 30 (.ptr r15.1 0 0 0) S18) fun t51 =>
dR (storeV prog 30 p3 t51 S18) fun S52 =>
dR (binV prog .add 3 x5 (.int .i64 1)) fun t53 =>
again0 [x2, x4, t53] S52)) (dR (lenV prog 22 x4 S) fun t54 =>
dR (fieldAddrV prog 30 p3 2) fun t55 =>
dR (loadV prog 26 t55 S) fun t56 =>
dR (lenV prog 26 t56 S) fun t57 =>
dIf (guardP prog 3 t54 t57) (dR (binV prog .eql 3 t54 t57) fun t58 =>
pickD t58 (C 20 [] S fun t59 S60 =>
K t59 S60) (K (.bool false) S)))
noncomputable def m8 (C : CallD) (k : Nat) (a0 : V) (S : St) (K : KS) : An :=
C 14 [] S fun t0 S1 =>
dR (newBlk none S1 (.row 0 6 [[.nils,.nils,.nils,.nils,.nils,.int .i64 0]])) fun r2 =>
dR (storeV prog 30 (.ptr r2.1 0 0 0) t0 r2.2) fun S3 =>
C 13 [a0, (.int .i64 60)] S3 fun t4 S5 =>
loopD k [(.bool false), (.nils), (.int .i64 0)] S5 (m8_l0 C k K t4 (.ptr r2.1 0 0 0))
theorem m8_eq : (fun (k : Nat) (a0 : V) (S : St) (K : KS) => callD prog dPl dLv (k + 1) 8 [a0] S K) = fun k a0 S K => m8 (callD prog dPl dLv k) k a0 S K := by kernel_rfl
noncomputable def m9_l1 (C : CallD) (k : Nat) (K : KS) (again0 : List V → St → An) (p2 p3 p5 p6 : V) (vs : List V) (S : St) (again1 : List V → St → An) : An :=
unD vs fun x7 vs =>
unD vs fun x8 vs =>
dR (binV prog .lss 3 x8 p5) fun t27 =>
pickD t27 (dR (fieldAddrV prog 30 p3 2) fun t28 =>
dR (loadV prog 26 t28 S) fun t29 =>
dR (indexAddrV prog 26 t29 x8) fun t30 =>
dR (loadV prog 62 t30 S) fun t31 =>
dR (newBlk none S (.row 0 12 [[.str [],.int .i64 0,.int .i64 0,.int .i64 0,.int .i64 0,.int .i64 0,.int .i64 0,.int .i64 0,.nils,.str [],.int .i64 0,.bool false]])) fun r32 =>
dR (storeV prog 62 (.ptr r32.1 0 0 0) t31 r32.2) fun S33 =>
dR (fieldAddrV prog 62 (.ptr r32.1 0 0 0) 0) fun t34 =>
dR (loadV prog 43 t34 S33) fun t35 =>
dR (fieldAddrV prog 62 p6 3) fun t36 =>
dR (loadV prog 43 t36 S33) fun t37 =>
dIf (guardP prog 43 t35 t37) (dR (binV prog .eql 43 t35 t37) fun t38 =>
pickD t38 (dR (fieldAddrV prog 62 (.ptr r32.1 0 0 0) 4) fun t39 =>
dR (loadV prog 4 t39 S33) fun t40 =>
pickD t40 (dR (fieldAddrV prog 62 (.ptr r32.1 0 0 0) 2) fun t41 =>
dR (fieldAddrV prog 60 t41 2) fun t42 =>
dR (loadV prog 3 t42 S33) fun t43 =>
dR (fieldAddrV prog 62 p6 2) fun t44 =>
dR (fieldAddrV prog 60 t44 2) fun t45 =>
dR (loadV prog 3 t45 S33) fun t46 =>
dR (unV .neg t46) fun t47 =>
dIf (guardP prog 3 t43 t47) (dR (binV prog .eql 3 t43 t47) fun t48 =>
pickD t48 (dR (fieldAddrV prog 62 (.ptr r32.1 0 0 0) 2) fun t49 =>
dR (fieldAddrV prog 60 t49 0) fun t50 =>
dR (loadV prog 3 t50 S33) fun t51 =>
dR (fieldAddrV prog 62 p6 2) fun t52 =>
dR (fieldAddrV prog 60 t52 0) fun t53 =>
dR (loadV prog 3 t53 S33) fun t54 =>
dR (unV .neg t54) fun t55 =>
dIf (guardP prog 3 t51 t55) (dR (binV prog .eql 3 t51 t55) fun t56 =>
pickD t56 (dR (fieldAddrV prog 62 (.ptr r32.1 0 0 0) 2) fun t57 =>
dR (fieldAddrV prog 60 t57 1) fun t58 =>
dR (loadV prog 3 t58 S33) fun t59 =>
dR (fieldAddrV prog 62 p6 2) fun t60 =>
dR (fieldAddrV prog 60 t60 1) fun t61 =>
dR (loadV prog 3 t61 S33) fun t62 =>
dR (unV .neg t62) fun t63 =>
dIf (guardP prog 3 t59 t63) (dR (binV prog .eql 3 t59 t63) fun t64 =>
pickD t64 (dR (fieldAddrV prog 62 (.ptr r32.1 0 0 0) 3) fun t65 =>
dR (loadV prog 43 t65 S33) fun t66 =>
dR (buildV prog 43 []) fun t67 =>
dIf (guardP prog 43 t66 t67) (dR (binV prog .eql 43 t66 t67) fun t68 =>
dR (binV prog .add 3 x8 (.int .i64 1)) fun t69 =>
again1 [t68, t69] S33)) (dR (binV prog .add 3 x8 (.int .i64 1)) fun t70 =>
again1 [(.bool false), t70] S33))) (dR (binV prog .add 3 x8 (.int .i64 1)) fun t71 =>
again1 [(.bool false), t71] S33))) (dR (binV prog .add 3 x8 (.int .i64 1)) fun t72 =>
again1 [(.bool false), t72] S33))) (dR (binV prog .add 3 x8 (.int .i64 1)) fun t73 =>
again1 [(.bool false), t73] S33)) (dR (binV prog .add 3 x8 (.int .i64 1)) fun t74 =>
again1 [x7, t74] S33))) (dR (unV .not x7) fun t75 =>
pickD t75 (K (.bool false) S) (dR (binV prog .add 3 p5 (.int .i64 1)) fun t76 =>
again0 [p2, t76] S))
noncomputable def m9_l0 (C : CallD) (k : Nat) (K : KS) (p3 : V) (vs : List V) (S : St) (again0 : List V → St → An) : An :=
unD vs fun x2 vs =>
unD vs fun x5 vs =>
dR (fieldAddrV prog 30 p3 2) fun t10 =>
dR (loadV prog 26 t10 S) fun t11 =>
dR (lenV prog 26 t11 S) fun t12 =>
dR (binV prog .lss 3 x5 t12) fun t13 =>
pickD t13 (dR (fieldAddrV prog 30 p3 2) fun t14 =>
dR (loadV prog 26 t14 S) fun t15 =>
dR (indexAddrV prog 26 t15 x5) fun t16 =>
dR (loadV prog 62 t16 S) fun t17 =>
dR (newBlk none S (.row 0 12 [[.str [],.int .i64 0,.int .i64 0,.int .i64 0,.int .i64 0,.int .i64 0,.int .i64 0,.int .i64 0,.nils,.str [],.int .i64 0,.bool false]])) fun r18 =>
dR (storeV prog 62 (.ptr r18.1 0 0 0) t17 r18.2) fun S19 =>
dR (fieldAddrV prog 62 (.ptr r18.1 0 0 0) 3) fun t20 =>
dR (loadV prog 43 t20 S19) fun t21 =>
dR (buildV prog 43 []) fun t22 =>
dIf (guardP prog 43 t21 t22) (dR (binV prog .eql 43 t21 t22) fun t23 =>
pickD t23 (dR (binV prog .add 3 x5 (.int .i64 1)) fun t24 =>
again0 [x2, t24] S19) (dR (fieldAddrV prog 62 (.ptr r18.1 0 0 0) 4) fun t25 =>
dR (loadV prog 4 t25 S19) fun t26 =>
pickD t26 (K (.bool false) S19) (loopD k [(.bool false), (.int .i64 0)] S19 (m9_l1 C k K again0 x2 p3 x5 (.ptr r18.1 0 0 0)))))) (C 20 [] S fun t77 S78 =>
K t77 S78)
noncomputable def m9 (C : CallD) (k : Nat) (a0 : V) (S : St) (K : KS) : An :=
C 14 [] S fun t0 S1 =>
C 13 [a0, (.int .i64 60)] S1 fun t2 S3 =>
C 19 [t0, t2] S3 fun t4 S5 =>
tupD t4 0 fun t6 =>
tupD t4 1 fun t7 =>
dR (newBlk none S5 (.row 0 6 [[.nils,.nils,.nils,.nils,.nils,.int .i64 0]])) fun r8 =>
dR (storeV prog 30 (.ptr r8.1 0 0 0) t6 r8.2) fun S9 =>
loopD k [(.bool false), (.int .i64 0)] S9 (m9_l0 C k K (.ptr r8.1 0 0 0))
theorem m9_eq : (fun (k : Nat) (a0 : V) (S : St) (K : KS) => callD prog dPl dLv (k + 1) 9 [a0] S K) = fun k a0 S K => m9 (callD prog dPl dLv k) k a0 S K := by kernel_rfl
noncomputable def m10_l0 (C : CallD) (k : Nat) (K : KS) (p6 p7 p8 : V) (vs : List V) (S : St) (again0 : List V → St → An) : An :=
unD vs fun x4 vs =>
unD vs fun x9 vs =>
dR (binV prog .leq 3 x9 p8) fun t9 =>
pickD t9 (dR (loadV prog 30 p6 (⟨S.next + 12, S.heap⟩ : St)) fun t10 =>
dR (binV prog .add 3 (.int .i64 2) x9) fun t11 =>
C 28 [t11] (⟨S.next + 12, S.heap⟩ : St) fun t12 S13 =>
dR (loadV prog 30 p6 S13) fun t14 =>
dIf (beqV t10 t14) (C 16 [t10, t12] S13 fun t15 S16 =>
tupD t15 0 fun t17 =>
tupD t15 1 fun t18 =>
dR (newBlk (some (S.next + 8)) S16 (.row 0 6 [[.nils,.nils,.nils,.nils,.nils,.int .i64 0]])) fun r19 =>
dR (newBlk (some (S.next + 9)) r19.2 (.row 0 3 [[.int .i64 0,.int .i64 0,.int .i64 0]])) fun r20 =>
dR (storeV prog 30 (.ptr r19.1 0 0 0) t17 r20.2) fun S21 =>
dR (storeV prog 34 (.ptr r20.1 0 0 0) t18 S21) fun S22 =>
dR (binV prog .leq 3 x9 p7) fun t23 =>
pickD t23 (dR (loadV prog 34 (.ptr r20.1 0 0 0) S22) fun t24 =>
dR (buildV prog 34 [(1, x9), (2, (.int .i64 119))]) fun t25 =>
dIf (guardP prog 34 t24 t25) (dR (binV prog .neq 34 t24 t25) fun t26 =>
pickD t26 (K (.bool false) S22) (dR (binV prog .gtr 3 x9 p7) fun t27 =>
pickD t27 (dR (loadV prog 34 (.ptr r20.1 0 0 0) S22) fun t28 =>
dR (buildV prog 34 [(0, (.int .i64 14))]) fun t29 =>
dIf (guardP prog 34 t28 t29) (dR (binV prog .neq 34 t28 t29) fun t30 =>
pickD t30 (K (.bool false) S22) (dR (loadV prog 30 (.ptr r19.1 0 0 0) S22) fun t31 =>
dR (storeV prog 30 p6 t31 S22) fun S32 =>
dR (binV prog .add 3 x9 (.int .i64 1)) fun t33 =>
again0 [x4, t33] S32))) (dR (loadV prog 30 (.ptr r19.1 0 0 0) S22) fun t34 =>
dR (storeV prog 30 p6 t34 S22) fun S35 =>
dR (binV prog .add 3 x9 (.int .i64 1)) fun t36 =>
again0 [x4, t36] S35)))) (dR (binV prog .gtr 3 x9 p7) fun t37 =>
pickD t37 (dR (loadV prog 34 (.ptr r20.1 0 0 0) S22) fun t38 =>
dR (buildV prog 34 [(0, (.int .i64 14))]) fun t39 =>
dIf (guardP prog 34 t38 t39) (dR (binV prog .neq 34 t38 t39) fun t40 =>
pickD t40 (K (.bool false) S22) (dR (loadV prog 30 (.ptr r19.1 0 0 0) S22) fun t41 =>
dR (storeV prog 30 p6 t41 S22) fun S42 =>
dR (binV prog .add 3 x9 (.int .i64 1)) fun t43 =>
again0 [x4, t43] S42))) (dR (loadV prog 30 (.ptr r19.1 0 0 0) S22) fun t44 =>
dR (storeV prog 30 p6 t44 S22) fun S45 =>
dR (binV prog .add 3 x9 (.int .i64 1)) fun t46 =>
again0 [x4, t46] S45)))) (dR (fieldAddrV prog 30 p6 2) fun t47 =>
dR (loadV prog 26 t47 S) fun t48 =>
dR (lenV prog 26 t48 S) fun t49 =>
dR (minV [p8, p7]) fun t50 =>
dIf (guardP prog 3 t49 t50) (dR (binV prog .eql 3 t49 t50) fun t51 =>
pickD t51 (C 20 [] S fun t52 S53 =>
K t52 S53) (K (.bool false) S)))
noncomputable def m10 (C : CallD) (k : Nat) (a0 a1 : V) (S : St) (K : KS) : An :=
C 26 [a0, (.int .i64 1), (.int .i64 60)] S fun t0 S1 =>
C 27 [t0] S1 fun t2 S3 =>
dR (newBlk none S3 (.row 0 6 [[.nils,.nils,.nils,.nils,.nils,.int .i64 0]])) fun r4 =>
dR (storeV prog 30 (.ptr r4.1 0 0 0) t2 r4.2) fun S5 =>
dR (minV [t0, (.int .i64 40)]) fun t6 =>
C 26 [a1, (.int .i64 0), (.int .i64 60)] S5 fun t7 S8 =>
loopD k [(.bool false), (.int .i64 1)] S8 (m10_l0 C k K (.ptr r4.1 0 0 0) t6 t7)
theorem m10_eq : (fun (k : Nat) (a0 a1 : V) (S : St) (K : KS) => callD prog dPl dLv (k + 1) 10 [a0, a1] S K) = fun k a0 a1 S K => m10 (callD prog dPl dLv k) k a0 a1 S K := by kernel_rfl
noncomputable def m12_l0 (C : CallD) (k : Nat) (K : KS) (p0 p3 : V) (vs : List V) (S : St) (again0 : List V → St → An) : An :=
unD vs fun x2 vs =>
unD vs fun x4 vs =>
dR (lenV prog 22 p0 S) fun t6 =>
dR (binV prog .lss 3 x4 t6) fun t7 =>
pickD t7 (dR (loadV prog 30 p3 (⟨S.next + 10, S.heap⟩ : St)) fun t8 =>
dR (indexAddrV prog 22 p0 x4) fun t9 =>
dR (loadV prog 47 t9 (⟨S.next + 10, S.heap⟩ : St)) fun t10 =>
C 16 [t8, t10] (⟨S.next + 10, S.heap⟩ : St) fun t11 S12 =>
tupD t11 0 fun t13 =>
tupD t11 1 fun t14 =>
dR (storeV prog 30 p3 t13 S12) fun S15 =>
dR (loadV prog 30 p3 S15) fun t16 =>
C 23 [t16] S15 fun t17 S18 =>
dR (unV .not t17) fun t19 =>
pickD t19 (K (.bool false) S18) (dR (fieldAddrV prog 30 p3 3) fun t20 =>
dR (loadV prog 27 t20 S18) fun t21 =>
C 30 [t21] S18 fun t22 S23 =>
dR (unV .not t22) fun t24 =>
pickD t24 (K (.bool false) S23) (dR (binV prog .add 3 x4 (.int .i64 1)) fun t25 =>
again0 [x2, t25] S23))) (dR (loadV prog 30 p3 S) fun t26 =>
C 23 [t26] S fun t27 S28 =>
pickD t27 (C 20 [] S28 fun t29 S30 =>
K t29 S30) (K (.bool false) S28))
noncomputable def m12 (C : CallD) (k : Nat) (a0 : V) (S : St) (K : KS) : An :=
C 14 [] S fun t0 S1 =>
dR (newBlk none S1 (.row 0 6 [[.nils,.nils,.nils,.nils,.nils,.int .i64 0]])) fun r2 =>
dR (storeV prog 30 (.ptr r2.1 0 0 0) t0 r2.2) fun S3 =>
C 13 [a0, (.int .i64 60)] S3 fun t4 S5 =>
loopD k [(.bool false), (.int .i64 0)] S5 (m12_l0 C k K t4 (.ptr r2.1 0 0 0))
theorem m12_eq : (fun (k : Nat) (a0 : V) (S : St) (K : KS) => callD prog dPl dLv (k + 1) 12 [a0] S K) = fun k a0 S K => m12 (callD prog dPl dLv k) k a0 S K := by kernel_rfl
noncomputable def m13_j0 (C : CallD) (k : Nat) (K : KS) (again0 : List V → St → An) (p0 p1 p5 p6 p7 : V) (S : St) : An :=
dR (loadV prog 47 p7 S) fun t7 =>
dR (buildSliceV prog 22 1 [(0, t7)] none S) fun r8 =>
dR (appendV prog 22 p5 r8.1 none r8.2) fun r9 =>
dR (binV prog .add 3 p6 (.int .i64 1)) fun t10 =>
again0 [r9.1, t10] r9.2
noncomputable def m13_l0 (C : CallD) (k : Nat) (K : KS) (p0 p1 : V) (vs : List V) (S : St) (again0 : List V → St → An) : An :=
unD vs fun x5 vs =>
unD vs fun x6 vs =>
dR (lenV prog 22 p0 S) fun t0 =>
dR (binV prog .lss 3 x6 t0) fun t1 =>
pickD t1 (dR (binV prog .lss 3 x6 p1) fun t2 =>
pickD t2 (dR (indexAddrV prog 22 p0 x6) fun t3 =>
dR (loadV prog 47 t3 S) fun t4 =>
dR (newBlk none S (.row 0 17 [[.int .i64 0,.int .i64 0,.int .i64 0,.str [],.int .i64 0,.str [],.int .i64 0,.int .i64 0,.int .i64 0,.int .i64 0,.int .i64 0,.int .i64 0,.int .i64 0,.nils,.str [],.int .i64 0,.int .i64 0]])) fun r5 =>
dR (storeV prog 47 (.ptr r5.1 0 0 0) t4 r5.2) fun S6 =>
dR (fieldAddrV prog 47 (.ptr r5.1 0 0 0) 2) fun t11 =>
dR (fieldAddrV prog 45 t11 5) fun t12 =>
dR (loadV prog 41 t12 S6) fun t13 =>
dR (lenV prog 41 t13 S6) fun t14 =>
dR (binV prog .gtr 3 t14 (.int .i64 15)) fun t15 =>
pickD t15 (dR (fieldAddrV prog 47 (.ptr r5.1 0 0 0) 2) fun t16 =>
dR (fieldAddrV prog 45 t16 5) fun t17 =>
dR (loadV prog 41 t17 S6) fun t18 =>
dR (sliceV prog 41 t18 none (some (.int .i64 15))) fun t19 =>
dR (fieldAddrV prog 47 (.ptr r5.1 0 0 0) 2) fun t20 =>
dR (fieldAddrV prog 45 t20 5) fun t21 =>
dR (storeV prog 41 t21 t19 S6) fun S22 =>
m13_j0 C k K again0 p0 p1 x5 x6 (.ptr r5.1 0 0 0) S22) (m13_j0 C k K again0 p0 p1 x5 x6 (.ptr r5.1 0 0 0) S6)) (K x5 S)) (K x5 S)
noncomputable def m13 (C : CallD) (k : Nat) (a0 a1 : V) (S : St) (K : KS) : An :=
loopD k [(.nils), (.int .i64 0)] S (m13_l0 C k K a0 a1)
theorem m13_eq : (fun (k : Nat) (a0 a1 : V) (S : St) (K : KS) => callD prog dPl dLv (k + 1) 13 [a0, a1] S K) = fun k a0 a1 S K => m13 (callD prog dPl dLv k) k a0 a1 S K := by kernel_rfl
noncomputable def m14 (C : CallD) (k : Nat) (S : St) (K : KS) : An :=
dR (newBlk none S (.row 0 6 [[.nils,.nils,.nils,.nils,.nils,.int .i64 0]])) fun r0 =>
dR (buildV prog 30 [(5, (.int .i64 1))]) fun t1 =>
dR (storeV prog 30 (.ptr r0.1 0 0 0) t1 r0.2) fun S2 =>
dR (loadV prog 30 (.ptr r0.1 0 0 0) S2) fun t3 =>
K t3 S2
theorem m14_eq : (fun (k : Nat) (S : St) (K : KS) => callD prog dPl dLv (k + 1) 14 [] S K) = fun k S K => m14 (callD prog dPl dLv k) k S K := by kernel_rfl
noncomputable def m16_j1 (C : CallD) (k : Nat) (K : KS) (p2 p4 p5 p9 : V) (S : St) : An :=
dR (loadV prog 30 p2 (⟨S.next + 4, S.heap⟩ : St)) fun t76 =>
dR (loadV prog 34 p9 (⟨S.next + 4, S.heap⟩ : St)) fun t77 =>
dR (storeV prog 30 p4 t76 (⟨S.next + 4, S.heap⟩ : St)) fun S78 =>
dR (loadV prog 34 p9 S78) fun t79 =>
dIf (beqV t77 t79) (dR (storeV prog 34 p5 t77 S78) fun S80 =>
dR (loadV prog 30 p4 S80) fun t81 =>
dR (loadV prog 34 p5 S80) fun t82 =>
K (.tup [t81, t82]) S80)
noncomputable def m16_j0 (C : CallD) (k : Nat) (K : KS) (p2 p3 p4 p5 p28 : V) (S : St) : An :=
pickD p28 (dR (loadV prog 30 p2 (⟨S.next + 4, S.heap⟩ : St)) fun t20 =>
C 32 [(.int .i64 17)] (⟨S.next + 4, S.heap⟩ : St) fun t21 S22 =>
dR (loadV prog 30 p2 S22) fun t23 =>
dIf (beqV t20 t23) (dR (storeV prog 30 p4 t20 S22) fun S24 =>
dR (storeV prog 34 p5 t21 S24) fun S25 =>
dR (loadV prog 30 p4 S25) fun t26 =>
dR (loadV prog 34 p5 S25) fun t27 =>
K (.tup [t26, t27]) S25)) (dR (fieldAddrV prog 47 p3 2) fun t28 =>
dR (fieldAddrV prog 45 t28 0) fun t29 =>
dR (loadV prog 3 t29 S) fun t30 =>
dIf (guardP prog 3 t30 (.int .i64 6)) (dR (binV prog .eql 3 t30 (.int .i64 6)) fun t31 =>
pickD t31 (dR (loadV prog 30 p2 S) fun t32 =>
C 33 [t32] S fun t33 S34 =>
tupD t33 0 fun t35 =>
tupD t33 1 fun t36 =>
dR (storeV prog 30 p4 t35 S34) fun S37 =>
dR (storeV prog 34 p5 t36 S37) fun S38 =>
dR (loadV prog 30 p4 S38) fun t39 =>
dR (loadV prog 34 p5 S38) fun t40 =>
K (.tup [t39, t40]) S38) (dR (fieldAddrV prog 30 p2 4) fun t41 =>
dR (loadV prog 28 t41 S) fun t42 =>
dR (fieldAddrV prog 47 p3 0) fun t43 =>
dR (loadV prog 3 t43 S) fun t44 =>
dR (fieldAddrV prog 47 p3 1) fun t45 =>
dR (loadV prog 3 t45 S) fun t46 =>
C 34 [t42, t44, t46] S fun t47 S48 =>
tupD t47 0 fun t49 =>
tupD t47 1 fun t50 =>
tupD t47 2 fun t51 =>
dR (newBlk none S48 (.row 0 3 [[.int .i64 0,.int .i64 0,.int .i64 0]])) fun r52 =>
dR (storeV prog 34 (.ptr r52.1 0 0 0) t49 r52.2) fun S53 =>
dIf (guardP prog 32 t51 (.int .i64 0)) (dR (binV prog .neq 32 t51 (.int .i64 0)) fun t54 =>
pickD t54 (dR (loadV prog 30 p2 (⟨S53.next + 5, S53.heap⟩ : St)) fun t55 =>
C 32 [t51] (⟨S53.next + 5, S53.heap⟩ : St) fun t56 S57 =>
dR (loadV prog 30 p2 S57) fun t58 =>
dIf (beqV t55 t58) (dR (storeV prog 30 p4 t55 S57) fun S59 =>
dR (storeV prog 34 p5 t56 S59) fun S60 =>
dR (loadV prog 30 p4 S60) fun t61 =>
dR (loadV prog 34 p5 S60) fun t62 =>
K (.tup [t61, t62]) S60)) (pickD t50 (dR (loadV prog 30 p2 (⟨S53.next + 4, S53.heap⟩ : St)) fun t63 =>
dR (loadV prog 34 (.ptr r52.1 0 0 0) (⟨S53.next + 4, S53.heap⟩ : St)) fun t64 =>
dR (storeV prog 30 p4 t63 (⟨S53.next + 4, S53.heap⟩ : St)) fun S65 =>
dR (loadV prog 34 (.ptr r52.1 0 0 0) S65) fun t66 =>
dIf (beqV t64 t66) (dR (storeV prog 34 p5 t64 S65) fun S67 =>
dR (loadV prog 30 p4 S67) fun t68 =>
dR (loadV prog 34 p5 S67) fun t69 =>
K (.tup [t68, t69]) S67)) (dR (fieldAddrV prog 47 p3 2) fun t70 =>
dR (loadV prog 45 t70 S53) fun t71 =>
C 35 [p2, t71] S53 fun t72 S73 =>
dR (newBlk none S73 (.row 0 3 [[.int .i64 0,.int .i64 0,.int .i64 0]])) fun r74 =>
dR (storeV prog 34 (.ptr r74.1 0 0 0) t72 r74.2) fun S75 =>
dR (fieldAddrV prog 30 p2 4) fun t83 =>
dR (loadV prog 28 t83 S75) fun t84 =>
dR (fieldAddrV prog 47 p3 0) fun t85 =>
dR (loadV prog 3 t85 S75) fun t86 =>
dR (fieldAddrV prog 47 p3 1) fun t87 =>
dR (loadV prog 3 t87 S75) fun t88 =>
dR (loadV prog 34 (.ptr r74.1 0 0 0) S75) fun t89 =>
C 36 [t84, t86, t88, t89] S75 fun t90 S91 =>
tupD t90 0 fun t92 =>
tupD t90 1 fun t93 =>
dIf (guardP prog 32 t93 (.int .i64 0)) (dR (binV prog .eql 32 t93 (.int .i64 0)) fun t94 =>
pickD t94 (dR (fieldAddrV prog 30 p2 4) fun t95 =>
dR (storeV prog 28 t95 t92 S91) fun S96 =>
m16_j1 C k K p2 p4 p5 (.ptr r74.1 0 0 0) S96) (m16_j1 C k K p2 p4 p5 (.ptr r74.1 0 0 0) S91))))))))
noncomputable def m16 (C : CallD) (k : Nat) (a0 a1 : V) (S : St) (K : KS) : An :=
dIf (allOne (a0 : V).cells) (dR (newBlk none S (.row 0 (a0 : V).cells.length [(a0 : V).cells])) fun r0 =>
dIf (allOne (a1 : V).cells) (dR (newBlk none r0.2 (.row 0 (a1 : V).cells.length [(a1 : V).cells])) fun r1 =>
dR (newBlk none r1.2 (.row 0 6 [[.nils,.nils,.nils,.nils,.nils,.int .i64 0]])) fun r2 =>
dR (newBlk none r2.2 (.row 0 3 [[.int .i64 0,.int .i64 0,.int .i64 0]])) fun r3 =>
dR (loadV prog 30 (.ptr r0.1 0 0 0) r3.2) fun t4 =>
C 31 [t4] r3.2 fun t5 S6 =>
dR (storeV prog 30 (.ptr r0.1 0 0 0) t5 S6) fun S7 =>
dR (loadV prog 30 (.ptr r0.1 0 0 0) S7) fun t8 =>
C 23 [t8] S7 fun t9 S10 =>
dR (unV .not t9) fun t11 =>
pickD t11 (dR (loadV prog 30 (.ptr r0.1 0 0 0) (⟨S10.next + 4, S10.heap⟩ : St)) fun t12 =>
C 32 [(.int .i64 1)] (⟨S10.next + 4, S10.heap⟩ : St) fun t13 S14 =>
dR (loadV prog 30 (.ptr r0.1 0 0 0) S14) fun t15 =>
dIf (beqV t12 t15) (dR (storeV prog 30 (.ptr r2.1 0 0 0) t12 S14) fun S16 =>
dR (storeV prog 34 (.ptr r3.1 0 0 0) t13 S16) fun S17 =>
dR (loadV prog 30 (.ptr r2.1 0 0 0) S17) fun t18 =>
dR (loadV prog 34 (.ptr r3.1 0 0 0) S17) fun t19 =>
K (.tup [t18, t19]) S17)) (dR (fieldAddrV prog 47 (.ptr r1.1 0 0 0) 2) fun t97 =>
dR (fieldAddrV prog 45 t97 0) fun t98 =>
dR (loadV prog 3 t98 S10) fun t99 =>
dR (binV prog .lss 3 t99 (.int .i64 1)) fun t100 =>
pickD t100 (m16_j0 C k K (.ptr r0.1 0 0 0) (.ptr r1.1 0 0 0) (.ptr r2.1 0 0 0) (.ptr r3.1 0 0 0) (.bool true) S10) (dR (fieldAddrV prog 47 (.ptr r1.1 0 0 0) 2) fun t101 =>
dR (fieldAddrV prog 45 t101 0) fun t102 =>
dR (loadV prog 3 t102 S10) fun t103 =>
dR (binV prog .gtr 3 t103 (.int .i64 8)) fun t104 =>
m16_j0 C k K (.ptr r0.1 0 0 0) (.ptr r1.1 0 0 0) (.ptr r2.1 0 0 0) (.ptr r3.1 0 0 0) t104 S10))))
theorem m16_eq : (fun (k : Nat) (a0 a1 : V) (S : St) (K : KS) => callD prog dPl dLv (k + 1) 16 [a0, a1] S K) = fun k a0 a1 S K => m16 (callD prog dPl dLv k) k a0 a1 S K := by kernel_rfl
noncomputable def m19_l0 (C : CallD) (k : Nat) (K : KS) (p2 p4 p12 p13 : V) (vs : List V) (S : St) (again0 : List V → St → An) : An :=
unD vs fun x6 vs =>
unD vs fun x14 vs =>
dR (binV prog .lss 3 x14 p13) fun t7 =>
pickD t7 (dR (indexAddrV prog 22 p12 x14) fun t8 =>
dR (loadV prog 47 t8 S) fun t9 =>
dR (newBlk none S (.row 0 17 [[.int .i64 0,.int .i64 0,.int .i64 0,.str [],.int .i64 0,.str [],.int .i64 0,.int .i64 0,.int .i64 0,.int .i64 0,.int .i64 0,.int .i64 0,.int .i64 0,.nils,.str [],.int .i64 0,.int .i64 0]])) fun r10 =>
dR (storeV prog 47 (.ptr r10.1 0 0 0) t9 r10.2) fun S11 =>
dR (newBlk none S11 (.row 0 3 [[.int .i64 0,.int .i64 0,.int .i64 0]])) fun r12 =>
dR (loadV prog 30 p2 r12.2) fun t13 =>
dR (loadV prog 47 (.ptr r10.1 0 0 0) r12.2) fun t14 =>
C 16 [t13, t14] r12.2 fun t15 S16 =>
tupD t15 0 fun t17 =>
tupD t15 1 fun t18 =>
dR (storeV prog 30 p2 t17 S16) fun S19 =>
dR (storeV prog 34 (.ptr r12.1 0 0 0) t18 S19) fun S20 =>
dR (loadV prog 34 (.ptr r12.1 0 0 0) S20) fun t21 =>
dR (buildSliceV prog 49 1 [(0, t21)] none S20) fun r22 =>
dR (appendV prog 49 x6 r22.1 none r22.2) fun r23 =>
dR (binV prog .add 3 x14 (.int .i64 1)) fun t24 =>
again0 [r23.1, t24] r23.2) (dR (loadV prog 30 p2 S) fun t25 =>
dR (storeV prog 30 p4 t25 S) fun S26 =>
dR (loadV prog 30 p4 S26) fun t27 =>
K (.tup [t27, x6]) S26)
noncomputable def m19 (C : CallD) (k : Nat) (a0 a1 : V) (S : St) (K : KS) : An :=
dIf (allOne (a0 : V).cells) (dR (newBlk none S (.row 0 (a0 : V).cells.length [(a0 : V).cells])) fun r0 =>
dR (newBlk none r0.2 (.row 0 6 [[.nils,.nils,.nils,.nils,.nils,.int .i64 0]])) fun r1 =>
dR (loadV prog 30 (.ptr r0.1 0 0 0) r1.2) fun t2 =>
C 31 [t2] r1.2 fun t3 S4 =>
dR (storeV prog 30 (.ptr r0.1 0 0 0) t3 S4) fun S5 =>
dR (lenV prog 22 a1 S5) fun t6 =>
loopD k [(.nils), (.int .i64 0)] S5 (m19_l0 C k K (.ptr r0.1 0 0 0) (.ptr r1.1 0 0 0) a1 t6))
theorem m19_eq : (fun (k : Nat) (a0 a1 : V) (S : St) (K : KS) => callD prog dPl dLv (k + 1) 19 [a0, a1] S K) = fun k a0 a1 S K => m19 (callD prog dPl dLv k) k a0 a1 S K := by kernel_rfl
noncomputable def m20 (C : CallD) (k : Nat) (S : St) (K : KS) : An :=
dR (buildV prog 45 [(0, (.int .i64 6))]) fun t0 =>
dR (buildV prog 47 [(2, t0)]) fun t1 =>
dR (buildV prog 38 [(0, (.int .i64 2000)), (1, (.int .i64 1)), (2, (.int .i64 1))]) fun t2 =>
dR (buildV prog 40 [(0, (.str [115,116,100])), (1, t2), (2, (.int .i64 1900))]) fun t3 =>
dR (buildV prog 45 [(0, (.int .i64 3)), (3, t3)]) fun t4 =>
dR (buildV prog 47 [(0, (.int .i64 1)), (1, (.int .i64 1)), (2, t4)]) fun t5 =>
dR (buildV prog 45 [(0, (.int .i64 1)), (1, (.str [97])), (2, (.int .i64 2))]) fun t6 =>
dR (buildV prog 47 [(0, (.int .i64 1)), (1, (.int .i64 2)), (2, t6)]) fun t7 =>
C 28 [(.int .i64 3)] S fun t8 S9 =>
C 28 [(.int .i64 3)] S9 fun t10 S11 =>
C 28 [(.int .i64 4)] S11 fun t12 S13 =>
C 28 [(.int .i64 5)] S13 fun t14 S15 =>
dR (buildV prog 45 [(0, (.int .i64 1)), (1, (.str [98])), (2, (.int .i64 9))]) fun t16 =>
dR (buildV prog 47 [(0, (.int .i64 1)), (1, (.int .i64 6)), (2, t16)]) fun t17 =>
C 46 [] S15 fun t18 S19 =>
dR (buildV prog 43 [(0, (.str [97])), (1, (.int .i64 1))]) fun t20 =>
dR (buildV prog 45 [(0, (.int .i64 5)), (1, (.str [98])), (4, t18), (6, t20)]) fun t21 =>
dR (buildV prog 47 [(0, (.int .i64 1)), (1, (.int .i64 7)), (2, t21)]) fun t22 =>
C 46 [] S19 fun t23 S24 =>
dR (buildV prog 43 [(0, (.str [97])), (1, (.int .i64 1))]) fun t25 =>
dR (buildV prog 45 [(0, (.int .i64 5)), (1, (.str [98])), (4, t23), (6, t25)]) fun t26 =>
dR (buildV prog 47 [(0, (.int .i64 1)), (1, (.int .i64 8)), (2, t26)]) fun t27 =>
dR (buildV prog 45 [(0, (.int .i64 8)), (1, (.str [98]))]) fun t28 =>
dR (buildV prog 47 [(0, (.int .i64 1)), (1, (.int .i64 9)), (2, t28)]) fun t29 =>
dR (buildSliceV prog 22 11 [(0, t1), (1, t5), (2, t7), (3, t8), (4, t10), (5, t12), (6, t14), (7, t17), (8, t22), (9, t27), (10, t29)] none S24) fun r30 =>
C 14 [] r30.2 fun t31 S32 =>
C 19 [t31, r30.1] S32 fun t33 S34 =>
tupD t33 0 fun t35 =>
tupD t33 1 fun t36 =>
dR (newBlk none S34 (.row 0 6 [[.nils,.nils,.nils,.nils,.nils,.int .i64 0]])) fun r37 =>
dR (storeV prog 30 (.ptr r37.1 0 0 0) t35 r37.2) fun S38 =>
dR (buildV prog 34 [(1, (.int .i64 1))]) fun t39 =>
dR (buildV prog 34 []) fun t40 =>
dR (buildV prog 34 []) fun t41 =>
dR (buildV prog 34 [(1, (.int .i64 1)), (2, (.int .i64 119))]) fun t42 =>
dR (buildV prog 34 [(1, (.int .i64 1)), (2, (.int .i64 119))]) fun t43 =>
dR (buildV prog 34 [(1, (.int .i64 2)), (2, (.int .i64 119))]) fun t44 =>
dR (buildV prog 34 [(0, (.int .i64 14))]) fun t45 =>
dR (buildV prog 34 []) fun t46 =>
dR (buildV prog 34 [(1, (.int .i64 1)), (2, (.int .i64 (-119)))]) fun t47 =>
dR (buildV prog 34 [(0, (.int .i64 12))]) fun t48 =>
dR (buildV prog 34 [(1, (.int .i64 1)), (2, (.int .i64 119))]) fun t49 =>
dR (buildSliceV prog 49 11 [(0, t39), (1, t40), (2, t41), (3, t42), (4, t43), (5, t44), (6, t45), (7, t46), (8, t47), (9, t48), (10, t49)] none S38) fun r50 =>
C 29 [t36, r50.1] r50.2 fun t51 S52 =>
pickD t51 (dR (loadV prog 30 (.ptr r37.1 0 0 0) S52) fun t53 =>
C 23 [t53] S52 fun t54 S55 =>
pickD t54 (dR (fieldAddrV prog 30 (.ptr r37.1 0 0 0) 2) fun t56 =>
dR (loadV prog 26 t56 S55) fun t57 =>
dR (lenV prog 26 t57 S55) fun t58 =>
dIf (guardP prog 3 t58 (.int .i64 3)) (dR (binV prog .eql 3 t58 (.int .i64 3)) fun t59 =>
K t59 S55)) (K (.bool false) S55)) (K (.bool false) S52)
theorem m20_eq : (fun (k : Nat) (S : St) (K : KS) => callD prog dPl dLv (k + 1) 20 [] S K) = fun k S K => m20 (callD prog dPl dLv k) k S K := by kernel_rfl
noncomputable def m23 (C : CallD) (k : Nat) (a0 : V) (S : St) (K : KS) : An :=
dIf (allOne (a0 : V).cells) (dR (newBlk none S (.row 0 (a0 : V).cells.length [(a0 : V).cells])) fun r0 =>
dR (fieldAddrV prog 30 (.ptr r0.1 0 0 0) 0) fun t1 =>
dR (loadV prog 24 t1 r0.2) fun t2 =>
C 47 [t2] r0.2 fun t3 S4 =>
dR (unV .not t3) fun t5 =>
pickD t5 (K (.bool false) S4) (dR (fieldAddrV prog 30 (.ptr r0.1 0 0 0) 1) fun t6 =>
dR (loadV prog 25 t6 S4) fun t7 =>
C 48 [t7] S4 fun t8 S9 =>
dR (unV .not t8) fun t10 =>
pickD t10 (K (.bool false) S9) (dR (loadV prog 30 (.ptr r0.1 0 0 0) S9) fun t11 =>
C 49 [t11] S9 fun t12 S13 =>
dR (unV .not t12) fun t14 =>
pickD t14 (K (.bool false) S13) (dR (fieldAddrV prog 30 (.ptr r0.1 0 0 0) 2) fun t15 =>
dR (loadV prog 26 t15 S13) fun t16 =>
C 50 [t16] S13 fun t17 S18 =>
dR (unV .not t17) fun t19 =>
pickD t19 (K (.bool false) S18) (dR (loadV prog 30 (.ptr r0.1 0 0 0) S18) fun t20 =>
C 51 [t20] S18 fun t21 S22 =>
dR (unV .not t21) fun t23 =>
pickD t23 (K (.bool false) S22) (dR (fieldAddrV prog 30 (.ptr r0.1 0 0 0) 2) fun t24 =>
dR (loadV prog 26 t24 S22) fun t25 =>
C 52 [t25] S22 fun t26 S27 =>
tupD t26 0 fun t28 =>
tupD t26 1 fun t29 =>
dIf (guardP prog 32 t29 (.int .i64 0)) (dR (binV prog .eql 32 t29 (.int .i64 0)) fun t30 =>
pickD t30 (dR (fieldAddrV prog 30 (.ptr r0.1 0 0 0) 3) fun t31 =>
dR (loadV prog 27 t31 S27) fun t32 =>
C 53 [t28, t32] S27 fun t33 S34 =>
K t33 S34) (K (.bool false) S27))))))))
theorem m23_eq : (fun (k : Nat) (a0 : V) (S : St) (K : KS) => callD prog dPl dLv (k + 1) 23 [a0] S K) = fun k a0 S K => m23 (callD prog dPl dLv k) k a0 S K := by kernel_rfl
noncomputable def m27 (C : CallD) (k : Nat) (a0 : V) (S : St) (K : KS) : An :=
dR (newBlk none S (.row 0 6 [[.nils,.nils,.nils,.nils,.nils,.int .i64 0]])) fun r0 =>
C 14 [] r0.2 fun t1 S2 =>
dR (buildV prog 45 [(0, (.int .i64 6))]) fun t3 =>
dR (buildV prog 47 [(2, t3)]) fun t4 =>
dR (buildV prog 38 [(0, (.int .i64 2000)), (1, (.int .i64 1)), (2, (.int .i64 1))]) fun t5 =>
dR (buildV prog 40 [(0, (.str [115,116,100])), (1, t5), (2, (.int .i64 1900))]) fun t6 =>
dR (buildV prog 45 [(0, (.int .i64 3)), (3, t6)]) fun t7 =>
dR (buildV prog 47 [(0, (.int .i64 1)), (1, (.int .i64 1)), (2, t7)]) fun t8 =>
dR (buildV prog 45 [(0, (.int .i64 1)), (1, (.str [97])), (2, a0)]) fun t9 =>
dR (buildV prog 47 [(0, (.int .i64 1)), (1, (.int .i64 2)), (2, t9)]) fun t10 =>
dR (buildSliceV prog 22 3 [(0, t4), (1, t8), (2, t10)] none S2) fun r11 =>
C 19 [t1, r11.1] r11.2 fun t12 S13 =>
tupD t12 0 fun t14 =>
tupD t12 1 fun t15 =>
dR (newBlk none S13 (.row 0 6 [[.nils,.nils,.nils,.nils,.nils,.int .i64 0]])) fun r16 =>
dR (storeV prog 30 (.ptr r16.1 0 0 0) t14 r16.2) fun S17 =>
dR (loadV prog 30 (.ptr r16.1 0 0 0) S17) fun t18 =>
dR (storeV prog 30 (.ptr r0.1 0 0 0) t18 S17) fun S19 =>
dR (loadV prog 30 (.ptr r0.1 0 0 0) S19) fun t20 =>
K t20 S19
theorem m27_eq : (fun (k : Nat) (a0 : V) (S : St) (K : KS) => callD prog dPl dLv (k + 1) 27 [a0] S K) = fun k a0 S K => m27 (callD prog dPl dLv k) k a0 S K := by kernel_rfl
noncomputable def m28 (C : CallD) (k : Nat) (a0 : V) (S : St) (K : KS) : An :=
dR (newBlk none S (.row 0 17 [[.int .i64 0,.int .i64 0,.int .i64 0,.str [],.int .i64 0,.str [],.int .i64 0,.int .i64 0,.int .i64 0,.int .i64 0,.int .i64 0,.int .i64 0,.int .i64 0,.nils,.str [],.int .i64 0,.int .i64 0]])) fun r0 =>
C 46 [] r0.2 fun t1 S2 =>
dR (buildV prog 115 [(1, (.str [115,116,100])), (2, (.int .i64 1)), (3, (.int .i64 100))]) fun t3 =>
dR (buildSliceV prog 41 1 [(0, t3)] none S2) fun r4 =>
dR (buildV prog 45 [(0, (.int .i64 4)), (1, (.str [97])), (4, t1), (5, r4.1)]) fun t5 =>
dR (buildV prog 47 [(0, (.int .i64 1)), (1, a0), (2, t5)]) fun t6 =>
dR (storeV prog 47 (.ptr r0.1 0 0 0) t6 r4.2) fun S7 =>
dR (loadV prog 47 (.ptr r0.1 0 0 0) S7) fun t8 =>
K t8 S7
theorem m28_eq : (fun (k : Nat) (a0 : V) (S : St) (K : KS) => callD prog dPl dLv (k + 1) 28 [a0] S K) = fun k a0 S K => m28 (callD prog dPl dLv k) k a0 S K := by kernel_rfl
noncomputable def m29_l0 (C : CallD) (k : Nat) (K : KS) (p0 p1 : V) (vs : List V) (S : St) (again0 : List V → St → An) : An :=
unD vs fun x4 vs =>
unD vs fun x5 vs =>
dR (lenV prog 49 p0 S) fun t3 =>
dR (binV prog .lss 3 x5 t3) fun t4 =>
pickD t4 (dR (indexAddrV prog 49 p0 x5) fun t5 =>
dR (loadV prog 34 t5 (⟨S.next + 9, S.heap⟩ : St)) fun t6 =>
dR (indexAddrV prog 49 p1 x5) fun t7 =>
dR (loadV prog 34 t7 (⟨S.next + 9, S.heap⟩ : St)) fun t8 =>
dIf (guardP prog 34 t6 t8) (dR (binV prog .neq 34 t6 t8) fun t9 =>
pickD t9 (K (.bool false) (⟨S.next + 9, S.heap⟩ : St)) (dR (binV prog .add 3 x5 (.int .i64 1)) fun t10 =>
again0 [x4, t10] (⟨S.next + 9, S.heap⟩ : St)))) (K (.bool true) S)
noncomputable def m29 (C : CallD) (k : Nat) (a0 a1 : V) (S : St) (K : KS) : An :=
dR (lenV prog 49 a0 S) fun t0 =>
dR (lenV prog 49 a1 S) fun t1 =>
dIf (guardP prog 3 t0 t1) (dR (binV prog .neq 3 t0 t1) fun t2 =>
pickD t2 (K (.bool false) S) (loopD k [(.bool false), (.int .i64 0)] S (m29_l0 C k K a0 a1)))
theorem m29_eq : (fun (k : Nat) (a0 a1 : V) (S : St) (K : KS) => callD prog dPl dLv (k + 1) 29 [a0, a1] S K) = fun k a0 a1 S K => m29 (callD prog dPl dLv k) k a0 a1 S K := by kernel_rfl
noncomputable def m30_l0 (C : CallD) (k : Nat) (K : KS) (p8 p9 : V) (vs : List V) (S : St) (again0 : List V → St → An) : An :=
unD vs fun x3 vs =>
unD vs fun x10 vs =>
dR (binV prog .lss 3 x10 p9) fun t1 =>
pickD t1 (dR (indexAddrV prog 27 p8 x10) fun t2 =>
dR (loadV prog 96 t2 S) fun t3 =>
dR (newBlk none S (.row 0 2 [[.str [],.int .i64 0]])) fun r4 =>
dR (storeV prog 96 (.ptr r4.1 0 0 0) t3 r4.2) fun S5 =>
dR (fieldAddrV prog 96 (.ptr r4.1 0 0 0) 1) fun t6 =>
dR (loadV prog 3 t6 S5) fun t7 =>
dR (buildSliceV prog 64 1 [(0, t7)] none S5) fun r8 =>
dR (appendV prog 64 x3 r8.1 none r8.2) fun r9 =>
dR (binV prog .add 3 x10 (.int .i64 1)) fun t10 =>
again0 [r9.1, t10] r9.2) (C 63 [x3] S fun t11 S12 =>
tupD t11 0 fun t13 =>
tupD t11 1 fun t14 =>
dIf (guardP prog 3 t13 (.int .i64 0)) (dR (binV prog .eql 3 t13 (.int .i64 0)) fun t15 =>
pickD t15 (K t14 S12) (K (.bool false) S12)))
noncomputable def m30 (C : CallD) (k : Nat) (a0 : V) (S : St) (K : KS) : An :=
dR (lenV prog 27 a0 S) fun t0 =>
loopD k [(.nils), (.int .i64 0)] S (m30_l0 C k K a0 t0)
theorem m30_eq : (fun (k : Nat) (a0 : V) (S : St) (K : KS) => callD prog dPl dLv (k + 1) 30 [a0] S K) = fun k a0 S K => m30 (callD prog dPl dLv k) k a0 S K := by kernel_rfl
noncomputable def m31_l0 (C : CallD) (k : Nat) (K : KS) (p1 p2 p26 : V) (vs : List V) (S : St) (again0 : List V → St → An) : An :=
unD vs fun x27 vs =>
dR (binV prog .lss 3 x27 p26) fun t30 =>
pickD t30 (dR (fieldAddrV prog 30 p1 2) fun t31 =>
dR (loadV prog 26 t31 (⟨S.next + 15, S.heap⟩ : St)) fun t32 =>
dR (fieldAddrV prog 30 p1 2) fun t33 =>
dR (loadV prog 26 t33 (⟨S.next + 15, S.heap⟩ : St)) fun t34 =>
dR (indexAddrV prog 26 t34 x27) fun t35 =>
dR (fieldAddrV prog 62 t35 2) fun t36 =>
dR (fieldAddrV prog 60 t36 3) fun t37 =>
dR (loadV prog 58 t37 (⟨S.next + 15, S.heap⟩ : St)) fun t38 =>
dR (appendV prog 58 (.nils) t38 (some (S.next + 10)) (⟨S.next + 15, S.heap⟩ : St)) fun r39 =>
dR (loadV prog 26 t31 r39.2) fun t40 =>
dIf (beqV t32 t40) (dR (indexAddrV prog 26 t32 x27) fun t41 =>
dR (fieldAddrV prog 62 t41 2) fun t42 =>
dR (fieldAddrV prog 60 t42 3) fun t43 =>
dR (storeV prog 58 t43 r39.1 r39.2) fun S44 =>
dR (binV prog .add 3 x27 (.int .i64 1)) fun t45 =>
again0 [t45] S44)) (dR (loadV prog 30 p1 S) fun t46 =>
dR (storeV prog 30 p2 t46 S) fun S47 =>
dR (loadV prog 30 p2 S47) fun t48 =>
K t48 S47)
noncomputable def m31 (C : CallD) (k : Nat) (a0 : V) (S : St) (K : KS) : An :=
dIf (allOne (a0 : V).cells) (dR (newBlk none S (.row 0 (a0 : V).cells.length [(a0 : V).cells])) fun r0 =>
dR (newBlk none r0.2 (.row 0 6 [[.nils,.nils,.nils,.nils,.nils,.int .i64 0]])) fun r1 =>
dR (fieldAddrV prog 30 (.ptr r0.1 0 0 0) 0) fun t2 =>
dR (loadV prog 24 t2 r1.2) fun t3 =>
dR (appendV prog 24 (.nils) t3 none r1.2) fun r4 =>
dR (fieldAddrV prog 30 (.ptr r0.1 0 0 0) 0) fun t5 =>
dR (storeV prog 24 t5 r4.1 r4.2) fun S6 =>
dR (fieldAddrV prog 30 (.ptr r0.1 0 0 0) 1) fun t7 =>
dR (loadV prog 25 t7 S6) fun t8 =>
dR (appendV prog 25 (.nils) t8 none S6) fun r9 =>
dR (fieldAddrV prog 30 (.ptr r0.1 0 0 0) 1) fun t10 =>
dR (storeV prog 25 t10 r9.1 r9.2) fun S11 =>
dR (fieldAddrV prog 30 (.ptr r0.1 0 0 0) 3) fun t12 =>
dR (loadV prog 27 t12 S11) fun t13 =>
dR (appendV prog 27 (.nils) t13 none S11) fun r14 =>
dR (fieldAddrV prog 30 (.ptr r0.1 0 0 0) 3) fun t15 =>
dR (storeV prog 27 t15 r14.1 r14.2) fun S16 =>
dR (fieldAddrV prog 30 (.ptr r0.1 0 0 0) 4) fun t17 =>
dR (loadV prog 28 t17 S16) fun t18 =>
dR (appendV prog 28 (.nils) t18 none S16) fun r19 =>
dR (fieldAddrV prog 30 (.ptr r0.1 0 0 0) 4) fun t20 =>
dR (storeV prog 28 t20 r19.1 r19.2) fun S21 =>
dR (fieldAddrV prog 30 (.ptr r0.1 0 0 0) 2) fun t22 =>
dR (loadV prog 26 t22 S21) fun t23 =>
dR (appendV prog 26 (.nils) t23 none S21) fun r24 =>
dR (fieldAddrV prog 30 (.ptr r0.1 0 0 0) 2) fun t25 =>
dR (storeV prog 26 t25 r24.1 r24.2) fun S26 =>
dR (fieldAddrV prog 30 (.ptr r0.1 0 0 0) 2) fun t27 =>
dR (loadV prog 26 t27 S26) fun t28 =>
dR (lenV prog 26 t28 S26) fun t29 =>
loopD k [(.int .i64 0)] S26 (m31_l0 C k K (.ptr r0.1 0 0 0) (.ptr r1.1 0 0 0) t29))
theorem m31_eq : (fun (k : Nat) (a0 : V) (S : St) (K : KS) => callD prog dPl dLv (k + 1) 31 [a0] S K) = fun k a0 S K => m31 (callD prog dPl dLv k) k a0 S K := by kernel_rfl
noncomputable def m32 (C : CallD) (k : Nat) (a0 : V) (S : St) (K : KS) : An :=
dR (newBlk none S (.row 0 3 [[.int .i64 0,.int .i64 0,.int .i64 0]])) fun r0 =>
dR (buildV prog 34 [(0, a0)]) fun t1 =>
dR (storeV prog 34 (.ptr r0.1 0 0 0) t1 r0.2) fun S2 =>
dR (loadV prog 34 (.ptr r0.1 0 0 0) S2) fun t3 =>
K t3 S2
theorem m32_eq : (fun (k : Nat) (a0 : V) (S : St) (K : KS) => callD prog dPl dLv (k + 1) 32 [a0] S K) = fun k a0 S K => m32 (callD prog dPl dLv k) k a0 S K := by kernel_rfl
noncomputable def m33_j0 (C : CallD) (k : Nat) (K : KS) (p1 p2 p3 p15 : V) (S : St) : An :=
pickD p15 (dR (loadV prog 30 p1 (⟨S.next + 4, S.heap⟩ : St)) fun t3 =>
C 32 [(.int .i64 14)] (⟨S.next + 4, S.heap⟩ : St) fun t4 S5 =>
dR (loadV prog 30 p1 S5) fun t6 =>
dIf (beqV t3 t6) (dR (storeV prog 30 p2 t3 S5) fun S7 =>
dR (storeV prog 34 p3 t4 S7) fun S8 =>
dR (loadV prog 30 p2 S8) fun t9 =>
dR (loadV prog 34 p3 S8) fun t10 =>
K (.tup [t9, t10]) S8)) (dR (fieldAddrV prog 30 p1 4) fun t11 =>
dR (loadV prog 28 t11 S) fun t12 =>
dR (fieldAddrV prog 30 p1 5) fun t13 =>
dR (loadV prog 3 t13 S) fun t14 =>
C 64 [t12, t14] S fun t15 S16 =>
tupD t15 0 fun t17 =>
tupD t15 1 fun t18 =>
dIf (guardP prog 32 t18 (.int .i64 0)) (dR (binV prog .neq 32 t18 (.int .i64 0)) fun t19 =>
pickD t19 (dR (loadV prog 30 p1 (⟨S16.next + 5, S16.heap⟩ : St)) fun t20 =>
C 32 [t18] (⟨S16.next + 5, S16.heap⟩ : St) fun t21 S22 =>
dR (loadV prog 30 p1 S22) fun t23 =>
dIf (beqV t20 t23) (dR (storeV prog 30 p2 t20 S22) fun S24 =>
dR (storeV prog 34 p3 t21 S24) fun S25 =>
dR (loadV prog 30 p2 S25) fun t26 =>
dR (loadV prog 34 p3 S25) fun t27 =>
K (.tup [t26, t27]) S25)) (dR (fieldAddrV prog 30 p1 5) fun t28 =>
dR (loadV prog 3 t28 S16) fun t29 =>
dR (buildV prog 34 [(1, t29)]) fun t30 =>
dR (newBlk none S16 (.row 0 3 [[.int .i64 0,.int .i64 0,.int .i64 0]])) fun r31 =>
dR (storeV prog 34 (.ptr r31.1 0 0 0) t30 r31.2) fun S32 =>
dR (fieldAddrV prog 30 p1 4) fun t33 =>
dR (storeV prog 28 t33 t17 S32) fun S34 =>
dR (fieldAddrV prog 30 p1 5) fun t35 =>
dR (loadV prog 3 t35 S34) fun t36 =>
dR (binV prog .add 3 t36 (.int .i64 1)) fun t37 =>
dR (fieldAddrV prog 30 p1 5) fun t38 =>
dR (storeV prog 3 t38 t37 S34) fun S39 =>
dR (loadV prog 30 p1 (⟨S39.next + 4, S39.heap⟩ : St)) fun t40 =>
dR (loadV prog 34 (.ptr r31.1 0 0 0) (⟨S39.next + 4, S39.heap⟩ : St)) fun t41 =>
dR (storeV prog 30 p2 t40 (⟨S39.next + 4, S39.heap⟩ : St)) fun S42 =>
dR (loadV prog 34 (.ptr r31.1 0 0 0) S42) fun t43 =>
dIf (beqV t41 t43) (dR (storeV prog 34 p3 t41 S42) fun S44 =>
dR (loadV prog 30 p2 S44) fun t45 =>
dR (loadV prog 34 p3 S44) fun t46 =>
K (.tup [t45, t46]) S44))))
noncomputable def m33 (C : CallD) (k : Nat) (a0 : V) (S : St) (K : KS) : An :=
dIf (allOne (a0 : V).cells) (dR (newBlk none S (.row 0 (a0 : V).cells.length [(a0 : V).cells])) fun r0 =>
dR (newBlk none r0.2 (.row 0 6 [[.nils,.nils,.nils,.nils,.nils,.int .i64 0]])) fun r1 =>
dR (newBlk none r1.2 (.row 0 3 [[.int .i64 0,.int .i64 0,.int .i64 0]])) fun r2 =>
dR (fieldAddrV prog 30 (.ptr r0.1 0 0 0) 4) fun t47 =>
dR (loadV prog 28 t47 r2.2) fun t48 =>
dR (lenV prog 28 t48 r2.2) fun t49 =>
dR (binV prog .geq 3 t49 (.int .i64 8)) fun t50 =>
pickD t50 (m33_j0 C k K (.ptr r0.1 0 0 0) (.ptr r1.1 0 0 0) (.ptr r2.1 0 0 0) (.bool true) r2.2) (dR (fieldAddrV prog 30 (.ptr r0.1 0 0 0) 5) fun t51 =>
dR (loadV prog 3 t51 r2.2) fun t52 =>
dR (binV prog .geq 3 t52 (.int .i64 1099511627776)) fun t53 =>
m33_j0 C k K (.ptr r0.1 0 0 0) (.ptr r1.1 0 0 0) (.ptr r2.1 0 0 0) t53 r2.2))
theorem m33_eq : (fun (k : Nat) (a0 : V) (S : St) (K : KS) => callD prog dPl dLv (k + 1) 33 [a0] S K) = fun k a0 S K => m33 (callD prog dPl dLv k) k a0 S K := by kernel_rfl
noncomputable def m34_j0 (C : CallD) (k : Nat) (K : KS) (p0 p2 p6 p9 p21 : V) (S : St) : An :=
pickD p21 (dR (buildV prog 34 []) fun t13 =>
dR (storeV prog 34 p6 t13 S) fun S14 =>
dR (loadV prog 34 p6 S14) fun t15 =>
K (.tup [t15, (.bool false), (.int .i64 1)]) S14) (dR (indexAddrV prog 28 p0 p9) fun t16 =>
dR (fieldAddrV prog 84 t16 1) fun t17 =>
dR (loadV prog 3 t17 S) fun t18 =>
dIf (guardP prog 3 p2 t18) (dR (binV prog .eql 3 p2 t18) fun t19 =>
pickD t19 (dR (indexAddrV prog 28 p0 p9) fun t20 =>
dR (fieldAddrV prog 84 t20 2) fun t21 =>
dR (loadV prog 34 t21 S) fun t22 =>
dR (storeV prog 34 p6 t22 S) fun S23 =>
dR (loadV prog 34 p6 S23) fun t24 =>
K (.tup [t24, (.bool true), (.int .i64 0)]) S23) (dR (indexAddrV prog 28 p0 p9) fun t25 =>
dR (fieldAddrV prog 84 t25 1) fun t26 =>
dR (loadV prog 3 t26 S) fun t27 =>
dR (binV prog .lss 3 p2 t27) fun t28 =>
pickD t28 (dR (buildV prog 34 []) fun t29 =>
dR (storeV prog 34 p6 t29 S) fun S30 =>
dR (loadV prog 34 p6 S30) fun t31 =>
K (.tup [t31, (.bool false), (.int .i64 16)]) S30) (dR (buildV prog 34 []) fun t32 =>
dR (storeV prog 34 p6 t32 S) fun S33 =>
dR (loadV prog 34 p6 S33) fun t34 =>
K (.tup [t34, (.bool false), (.int .i64 0)]) S33))))
noncomputable def m34 (C : CallD) (k : Nat) (a0 a1 a2 : V) (S : St) (K : KS) : An :=
dR (newBlk none S (.row 0 3 [[.int .i64 0,.int .i64 0,.int .i64 0]])) fun r0 =>
C 65 [a0] r0.2 fun t1 S2 =>
dR (unV .not t1) fun t3 =>
pickD t3 (dR (buildV prog 34 []) fun t4 =>
dR (storeV prog 34 (.ptr r0.1 0 0 0) t4 S2) fun S5 =>
dR (loadV prog 34 (.ptr r0.1 0 0 0) S5) fun t6 =>
K (.tup [t6, (.bool false), (.int .i64 1)]) S5) (C 66 [a0, a1] S2 fun t7 S8 =>
dR (binV prog .lss 3 t7 (.int .i64 0)) fun t9 =>
pickD t9 (dR (buildV prog 34 []) fun t10 =>
dR (storeV prog 34 (.ptr r0.1 0 0 0) t10 S8) fun S11 =>
dR (loadV prog 34 (.ptr r0.1 0 0 0) S11) fun t12 =>
K (.tup [t12, (.bool false), (.int .i64 15)]) S11) (dR (binV prog .lss 3 a2 (.int .i64 1)) fun t35 =>
pickD t35 (m34_j0 C k K a0 a2 (.ptr r0.1 0 0 0) t7 (.bool true) S8) (dR (binV prog .gtr 3 a2 (.int .i64 1099511627776)) fun t36 =>
m34_j0 C k K a0 a2 (.ptr r0.1 0 0 0) t7 t36 S8)))
theorem m34_eq : (fun (k : Nat) (a0 a1 a2 : V) (S : St) (K : KS) => callD prog dPl dLv (k + 1) 34 [a0, a1, a2] S K) = fun k a0 a1 a2 S K => m34 (callD prog dPl dLv k) k a0 a1 a2 S K := by kernel_rfl
noncomputable def m35 (C : CallD) (k : Nat) (a0 a1 : V) (S : St) (K : KS) : An :=
dIf (allOne (a1 : V).cells) (dR (newBlk none S (.row 0 (a1 : V).cells.length [(a1 : V).cells])) fun r0 =>
dR (newBlk none r0.2 (.row 0 3 [[.int .i64 0,.int .i64 0,.int .i64 0]])) fun r1 =>
dR (fieldAddrV prog 45 (.ptr r0.1 0 0 0) 0) fun t2 =>
dR (loadV prog 3 t2 r1.2) fun t3 =>
dIf (guardP prog 3 t3 (.int .i64 1)) (dR (binV prog .eql 3 t3 (.int .i64 1)) fun t4 =>
pickD t4 (nilD a0 (dR (fieldAddrV prog 30 a0 1) fun t5 =>
dR (loadV prog 25 t5 (⟨r1.2.next + 14, r1.2.heap⟩ : St)) fun t6 =>
dR (fieldAddrV prog 45 (.ptr r0.1 0 0 0) 1) fun t7 =>
dR (loadV prog 9 t7 (⟨r1.2.next + 14, r1.2.heap⟩ : St)) fun t8 =>
dR (fieldAddrV prog 45 (.ptr r0.1 0 0 0) 2) fun t9 =>
dR (loadV prog 3 t9 (⟨r1.2.next + 14, r1.2.heap⟩ : St)) fun t10 =>
C 67 [t6, t8, t10] (⟨r1.2.next + 14, r1.2.heap⟩ : St) fun t11 S12 =>
tupD t11 0 fun t13 =>
tupD t11 1 fun t14 =>
nilD a0 (dR (fieldAddrV prog 30 a0 1) fun t15 =>
C 68 [t15, t13, t14] S12 fun t16 S17 =>
dR (storeV prog 34 (.ptr r1.1 0 0 0) t16 S17) fun S18 =>
dR (loadV prog 34 (.ptr r1.1 0 0 0) S18) fun t19 =>
K t19 S18))) (dIf (guardP prog 3 t3 (.int .i64 2)) (dR (binV prog .eql 3 t3 (.int .i64 2)) fun t20 =>
pickD t20 (nilD a0 (dR (fieldAddrV prog 30 a0 1) fun t21 =>
dR (loadV prog 25 t21 (⟨r1.2.next + 12, r1.2.heap⟩ : St)) fun t22 =>
dR (fieldAddrV prog 45 (.ptr r0.1 0 0 0) 1) fun t23 =>
dR (loadV prog 9 t23 (⟨r1.2.next + 12, r1.2.heap⟩ : St)) fun t24 =>
C 69 [t22, t24] (⟨r1.2.next + 12, r1.2.heap⟩ : St) fun t25 S26 =>
tupD t25 0 fun t27 =>
tupD t25 1 fun t28 =>
nilD a0 (dR (fieldAddrV prog 30 a0 1) fun t29 =>
C 68 [t29, t27, t28] S26 fun t30 S31 =>
dR (storeV prog 34 (.ptr r1.1 0 0 0) t30 S31) fun S32 =>
dR (loadV prog 34 (.ptr r1.1 0 0 0) S32) fun t33 =>
K t33 S32))) (dIf (guardP prog 3 t3 (.int .i64 3)) (dR (binV prog .eql 3 t3 (.int .i64 3)) fun t34 =>
pickD t34 (nilD a0 (dR (fieldAddrV prog 30 a0 0) fun t35 =>
dR (loadV prog 24 t35 (⟨r1.2.next + 12, r1.2.heap⟩ : St)) fun t36 =>
dR (fieldAddrV prog 45 (.ptr r0.1 0 0 0) 3) fun t37 =>
dR (loadV prog 40 t37 (⟨r1.2.next + 12, r1.2.heap⟩ : St)) fun t38 =>
C 70 [t36, t38] (⟨r1.2.next + 12, r1.2.heap⟩ : St) fun t39 S40 =>
tupD t39 0 fun t41 =>
tupD t39 1 fun t42 =>
nilD a0 (dR (fieldAddrV prog 30 a0 0) fun t43 =>
C 71 [t43, t41, t42] S40 fun t44 S45 =>
dR (storeV prog 34 (.ptr r1.1 0 0 0) t44 S45) fun S46 =>
dR (loadV prog 34 (.ptr r1.1 0 0 0) S46) fun t47 =>
K t47 S46))) (dIf (guardP prog 3 t3 (.int .i64 4)) (dR (binV prog .eql 3 t3 (.int .i64 4)) fun t48 =>
pickD t48 (dR (loadV prog 45 (.ptr r0.1 0 0 0) r1.2) fun t49 =>
C 72 [a0, t49] r1.2 fun t50 S51 =>
dR (storeV prog 34 (.ptr r1.1 0 0 0) t50 S51) fun S52 =>
dR (loadV prog 34 (.ptr r1.1 0 0 0) S52) fun t53 =>
K t53 S52) (dIf (guardP prog 3 t3 (.int .i64 5)) (dR (binV prog .eql 3 t3 (.int .i64 5)) fun t54 =>
pickD t54 (dR (loadV prog 45 (.ptr r0.1 0 0 0) r1.2) fun t55 =>
C 73 [a0, t55] r1.2 fun t56 S57 =>
dR (storeV prog 34 (.ptr r1.1 0 0 0) t56 S57) fun S58 =>
dR (loadV prog 34 (.ptr r1.1 0 0 0) S58) fun t59 =>
K t59 S58) (dIf (guardP prog 3 t3 (.int .i64 7)) (dR (binV prog .eql 3 t3 (.int .i64 7)) fun t60 =>
pickD t60 (nilD a0 (dR (fieldAddrV prog 30 a0 4) fun t61 =>
dR (loadV prog 28 t61 (⟨r1.2.next + 12, r1.2.heap⟩ : St)) fun t62 =>
dR (fieldAddrV prog 45 (.ptr r0.1 0 0 0) 7) fun t63 =>
dR (loadV prog 3 t63 (⟨r1.2.next + 12, r1.2.heap⟩ : St)) fun t64 =>
C 74 [t62, t64] (⟨r1.2.next + 12, r1.2.heap⟩ : St) fun t65 S66 =>
tupD t65 0 fun t67 =>
tupD t65 1 fun t68 =>
nilD a0 (dR (fieldAddrV prog 30 a0 4) fun t69 =>
C 75 [t69, t67, t68] S66 fun t70 S71 =>
dR (storeV prog 34 (.ptr r1.1 0 0 0) t70 S71) fun S72 =>
dR (loadV prog 34 (.ptr r1.1 0 0 0) S72) fun t73 =>
K t73 S72))) (dR (fieldAddrV prog 45 (.ptr r0.1 0 0 0) 1) fun t74 =>
dR (loadV prog 9 t74 r1.2) fun t75 =>
C 76 [a0, t75] r1.2 fun t76 S77 =>
dR (storeV prog 34 (.ptr r1.1 0 0 0) t76 S77) fun S78 =>
dR (loadV prog 34 (.ptr r1.1 0 0 0) S78) fun t79 =>
K t79 S78)))))))))))))
theorem m35_eq : (fun (k : Nat) (a0 a1 : V) (S : St) (K : KS) => callD prog dPl dLv (k + 1) 35 [a0, a1] S K) = fun k a0 a1 S K => m35 (callD prog dPl dLv k) k a0 a1 S K := by kernel_rfl
noncomputable def m36 (C : CallD) (k : Nat) (a0 a1 a2 a3 : V) (S : St) (K : KS) : An :=
dIf (allOne (a3 : V).cells) (dR (newBlk none S (.row 0 (a3 : V).cells.length [(a3 : V).cells])) fun r0 =>
C 34 [a0, a1, a2] r0.2 fun t1 S2 =>
tupD t1 0 fun t3 =>
tupD t1 1 fun t4 =>
tupD t1 2 fun t5 =>
dR (newBlk none S2 (.row 0 3 [[.int .i64 0,.int .i64 0,.int .i64 0]])) fun r6 =>
dR (storeV prog 34 (.ptr r6.1 0 0 0) t3 r6.2) fun S7 =>
dIf (guardP prog 32 t5 (.int .i64 0)) (dR (binV prog .neq 32 t5 (.int .i64 0)) fun t8 =>
pickD t8 (K (.tup [(.nils), t5]) S7) (pickD t4 (K (.tup [(.nils), (.int .i64 12)]) S7) (dR (appendV prog 28 (.nils) a0 none S7) fun r9 =>
C 66 [r9.1, a1] r9.2 fun t10 S11 =>
dR (loadV prog 34 (.ptr r0.1 0 0 0) (⟨S11.next + 12, S11.heap⟩ : St)) fun t12 =>
dR (indexAddrV prog 28 r9.1 t10) fun t13 =>
dR (fieldAddrV prog 84 t13 1) fun t14 =>
dR (storeV prog 3 t14 a2 (⟨S11.next + 12, S11.heap⟩ : St)) fun S15 =>
dR (loadV prog 34 (.ptr r0.1 0 0 0) S15) fun t16 =>
dIf (beqV t12 t16) (dR (indexAddrV prog 28 r9.1 t10) fun t17 =>
dR (fieldAddrV prog 84 t17 2) fun t18 =>
dR (storeV prog 34 t18 t12 S15) fun S19 =>
K (.tup [r9.1, (.int .i64 0)]) S19)))))
theorem m36_eq : (fun (k : Nat) (a0 a1 a2 a3 : V) (S : St) (K : KS) => callD prog dPl dLv (k + 1) 36 [a0, a1, a2, a3] S K) = fun k a0 a1 a2 a3 S K => m36 (callD prog dPl dLv k) k a0 a1 a2 a3 S K := by kernel_rfl
noncomputable def m46 (C : CallD) (k : Nat) (S : St) (K : KS) : An :=
dR (newBlk none S (.row 0 3 [[.int .i64 0,.int .i64 0,.int .i64 0]])) fun r0 =>
dR (buildV prog 38 [(0, (.int .i64 2026)), (1, (.int .i64 11)), (2, (.int .i64 15))]) fun t1 =>
dR (storeV prog 38 (.ptr r0.1 0 0 0) t1 r0.2) fun S2 =>
dR (loadV prog 38 (.ptr r0.1 0 0 0) S2) fun t3 =>
K t3 S2
theorem m46_eq : (fun (k : Nat) (S : St) (K : KS) => callD prog dPl dLv (k + 1) 46 [] S K) = fun k S K => m46 (callD prog dPl dLv k) k S K := by kernel_rfl
noncomputable def m47_l0 (C : CallD) (k : Nat) (K : KS) (p0 p8 p9 : V) (vs : List V) (S : St) (again0 : List V → St → An) : An :=
unD vs fun x2 vs =>
unD vs fun x10 vs =>
dR (binV prog .lss 3 x10 p9) fun t3 =>
pickD t3 (dR (indexAddrV prog 24 p8 x10) fun t4 =>
dR (loadV prog 40 t4 S) fun t5 =>
dR (newBlk none S (.row 0 5 [[.str [],.int .i64 0,.int .i64 0,.int .i64 0,.int .i64 0]])) fun r6 =>
dR (storeV prog 40 (.ptr r6.1 0 0 0) t5 r6.2) fun S7 =>
dR (loadV prog 40 (.ptr r6.1 0 0 0) (⟨S7.next + 17, S7.heap⟩ : St)) fun t8 =>
C 86 [t8] (⟨S7.next + 17, S7.heap⟩ : St) fun t9 S10 =>
dIf (guardP prog 32 t9 (.int .i64 0)) (dR (binV prog .neq 32 t9 (.int .i64 0)) fun t11 =>
pickD t11 (K (.bool false) S10) (dR (binV prog .gtr 3 x10 (.int .i64 0)) fun t12 =>
pickD t12 (dR (binV prog .sub 3 x10 (.int .i64 1)) fun t13 =>
dR (indexAddrV prog 24 p0 t13) fun t14 =>
dR (loadV prog 40 t14 S10) fun t15 =>
dR (loadV prog 40 (.ptr r6.1 0 0 0) S10) fun t16 =>
C 87 [t15, t16] S10 fun t17 S18 =>
dR (unV .not t17) fun t19 =>
pickD t19 (K (.bool false) S18) (dR (binV prog .add 3 x10 (.int .i64 1)) fun t20 =>
again0 [x2, t20] S18)) (dR (binV prog .add 3 x10 (.int .i64 1)) fun t21 =>
again0 [x2, t21] S10)))) (K (.bool true) S)
noncomputable def m47 (C : CallD) (k : Nat) (a0 : V) (S : St) (K : KS) : An :=
dR (lenV prog 24 a0 S) fun t0 =>
dR (binV prog .gtr 3 t0 (.int .i64 24)) fun t1 =>
pickD t1 (K (.bool false) S) (dR (lenV prog 24 a0 S) fun t2 =>
loopD k [(.bool false), (.int .i64 0)] S (m47_l0 C k K a0 a0 t2))
theorem m47_eq : (fun (k : Nat) (a0 : V) (S : St) (K : KS) => callD prog dPl dLv (k + 1) 47 [a0] S K) = fun k a0 S K => m47 (callD prog dPl dLv k) k a0 S K := by kernel_rfl
noncomputable def m48_j0 (C : CallD) (k : Nat) (K : KS) (again0 : List V → St → An) (p0 p2 p4 p8 p9 p10 : V) (S : St) : An :=
dR (fieldAddrV prog 92 p4 2) fun t8 =>
dR (loadV prog 3 t8 S) fun t9 =>
dR (binV prog .lss 3 t9 (.int .i64 1)) fun t10 =>
pickD t10 (K (.bool false) S) (dR (fieldAddrV prog 92 p4 2) fun t11 =>
dR (loadV prog 3 t11 S) fun t12 =>
dR (binV prog .gtr 3 t12 (.int .i64 1099511627776)) fun t13 =>
pickD t13 (K (.bool false) S) (dR (fieldAddrV prog 92 p4 1) fun t14 =>
dR (loadV prog 3 t14 S) fun t15 =>
dR (binV prog .lss 3 t15 (.int .i64 1)) fun t16 =>
pickD t16 (K (.bool false) S) (dR (fieldAddrV prog 92 p4 1) fun t17 =>
dR (loadV prog 3 t17 S) fun t18 =>
dR (fieldAddrV prog 92 p4 2) fun t19 =>
dR (loadV prog 3 t19 S) fun t20 =>
dR (binV prog .add 3 t20 (.int .i64 1)) fun t21 =>
dR (binV prog .gtr 3 t18 t21) fun t22 =>
pickD t22 (K (.bool false) S) (dR (binV prog .add 3 p10 (.int .i64 1)) fun t23 =>
again0 [p2, t23] S))))
noncomputable def m48_l0 (C : CallD) (k : Nat) (K : KS) (p0 p8 p9 : V) (vs : List V) (S : St) (again0 : List V → St → An) : An :=
unD vs fun x2 vs =>
unD vs fun x10 vs =>
dR (binV prog .lss 3 x10 p9) fun t3 =>
pickD t3 (dR (indexAddrV prog 25 p8 x10) fun t4 =>
dR (loadV prog 92 t4 S) fun t5 =>
dR (newBlk none S (.row 0 4 [[.str [],.int .i64 0,.int .i64 0,.bool false]])) fun r6 =>
dR (storeV prog 92 (.ptr r6.1 0 0 0) t5 r6.2) fun S7 =>
dR (fieldAddrV prog 92 (.ptr r6.1 0 0 0) 0) fun t24 =>
dR (loadV prog 9 t24 (⟨S7.next + 19, S7.heap⟩ : St)) fun t25 =>
C 88 [t25] (⟨S7.next + 19, S7.heap⟩ : St) fun t26 S27 =>
dR (unV .not t26) fun t28 =>
pickD t28 (K (.bool false) S27) (dR (binV prog .gtr 3 x10 (.int .i64 0)) fun t29 =>
pickD t29 (dR (binV prog .sub 3 x10 (.int .i64 1)) fun t30 =>
dR (indexAddrV prog 25 p0 t30) fun t31 =>
dR (fieldAddrV prog 92 t31 0) fun t32 =>
dR (loadV prog 9 t32 S27) fun t33 =>
dR (fieldAddrV prog 92 (.ptr r6.1 0 0 0) 0) fun t34 =>
dR (loadV prog 9 t34 S27) fun t35 =>
dR (binV prog .geq 9 t33 t35) fun t36 =>
pickD t36 (K (.bool false) S27) (m48_j0 C k K again0 p0 x2 (.ptr r6.1 0 0 0) p8 p9 x10 S27)) (m48_j0 C k K again0 p0 x2 (.ptr r6.1 0 0 0) p8 p9 x10 S27))) (K (.bool true) S)
noncomputable def m48 (C : CallD) (k : Nat) (a0 : V) (S : St) (K : KS) : An :=
dR (lenV prog 25 a0 S) fun t0 =>
dR (binV prog .gtr 3 t0 (.int .i64 8)) fun t1 =>
pickD t1 (K (.bool false) S) (dR (lenV prog 25 a0 S) fun t2 =>
loopD k [(.bool false), (.int .i64 0)] S (m48_l0 C k K a0 a0 t2))
theorem m48_eq : (fun (k : Nat) (a0 : V) (S : St) (K : KS) => callD prog dPl dLv (k + 1) 48 [a0] S K) = fun k a0 S K => m48 (callD prog dPl dLv k) k a0 S K := by kernel_rfl
noncomputable def m49 (C : CallD) (k : Nat) (a0 : V) (S : St) (K : KS) : An :=
dIf (allOne (a0 : V).cells) (dR (newBlk none S (.row 0 (a0 : V).cells.length [(a0 : V).cells])) fun r0 =>
dR (fieldAddrV prog 30 (.ptr r0.1 0 0 0) 4) fun t1 =>
dR (loadV prog 28 t1 r0.2) fun t2 =>
dR (lenV prog 28 t2 r0.2) fun t3 =>
dR (fieldAddrV prog 30 (.ptr r0.1 0 0 0) 4) fun t4 =>
dR (loadV prog 28 t4 (⟨r0.2.next + 30, r0.2.heap⟩ : St)) fun t5 =>
C 65 [t5] (⟨r0.2.next + 30, r0.2.heap⟩ : St) fun t6 S7 =>
pickD t6 (dR (fieldAddrV prog 30 (.ptr r0.1 0 0 0) 5) fun t8 =>
dR (loadV prog 3 t8 S7) fun t9 =>
dR (binV prog .geq 3 t9 (.int .i64 1)) fun t10 =>
pickD t10 (dR (fieldAddrV prog 30 (.ptr r0.1 0 0 0) 5) fun t11 =>
dR (loadV prog 3 t11 S7) fun t12 =>
dR (binV prog .leq 3 t12 (.int .i64 1099511627776)) fun t13 =>
pickD t13 (dIf (guardP prog 3 t3 (.int .i64 0)) (dR (binV prog .eql 3 t3 (.int .i64 0)) fun t14 =>
pickD t14 (K (.bool true) S7) (dR (fieldAddrV prog 30 (.ptr r0.1 0 0 0) 4) fun t15 =>
dR (loadV prog 28 t15 S7) fun t16 =>
dR (binV prog .sub 3 t3 (.int .i64 1)) fun t17 =>
dR (indexAddrV prog 28 t16 t17) fun t18 =>
dR (fieldAddrV prog 84 t18 0) fun t19 =>
dR (loadV prog 3 t19 S7) fun t20 =>
dR (fieldAddrV prog 30 (.ptr r0.1 0 0 0) 5) fun t21 =>
dR (loadV prog 3 t21 S7) fun t22 =>
dR (binV prog .lss 3 t20 t22) fun t23 =>
K t23 S7))) (K (.bool false) S7)) (K (.bool false) S7)) (K (.bool false) S7))
theorem m49_eq : (fun (k : Nat) (a0 : V) (S : St) (K : KS) => callD prog dPl dLv (k + 1) 49 [a0] S K) = fun k a0 S K => m49 (callD prog dPl dLv k) k a0 S K := by kernel_rfl
noncomputable def m50_l1 (C : CallD) (k : Nat) (K : KS) (p3 p56 p57 : V) (vs : List V) (S : St) (again1 : List V → St → An) : An :=
unD vs fun x2 vs =>
unD vs fun x58 vs =>
dR (binV prog .lss 3 x58 p57) fun t43 =>
pickD t43 (dR (indexAddrV prog 26 p56 x58) fun t44 =>
dR (loadV prog 62 t44 S) fun t45 =>
dR (newBlk none S (.row 0 12 [[.str [],.int .i64 0,.int .i64 0,.int .i64 0,.int .i64 0,.int .i64 0,.int .i64 0,.int .i64 0,.nils,.str [],.int .i64 0,.bool false]])) fun r46 =>
dR (storeV prog 62 (.ptr r46.1 0 0 0) t45 r46.2) fun S47 =>
dR (indexAddrV prog 145 p3 x58) fun t48 =>
dR (loadV prog 3 t48 (⟨S47.next + 13, S47.heap⟩ : St)) fun t49 =>
dR (binV prog .gtr 3 t49 (.int .i64 1)) fun t50 =>
pickD t50 (K (.bool false) (⟨S47.next + 13, S47.heap⟩ : St)) (dR (fieldAddrV prog 62 (.ptr r46.1 0 0 0) 4) fun t51 =>
dR (loadV prog 4 t51 (⟨S47.next + 13, S47.heap⟩ : St)) fun t52 =>
dR (indexAddrV prog 145 p3 x58) fun t53 =>
dR (loadV prog 3 t53 (⟨S47.next + 13, S47.heap⟩ : St)) fun t54 =>
dIf (guardP prog 3 t54 (.int .i64 1)) (dR (binV prog .eql 3 t54 (.int .i64 1)) fun t55 =>
dIf (guardP prog 4 t52 t55) (dR (binV prog .neq 4 t52 t55) fun t56 =>
pickD t56 (K (.bool false) (⟨S47.next + 13, S47.heap⟩ : St)) (dR (binV prog .add 3 x58 (.int .i64 1)) fun t57 =>
again1 [x2, t57] (⟨S47.next + 13, S47.heap⟩ : St)))))) (K (.bool true) S)
noncomputable def m50_l0 (C : CallD) (k : Nat) (K : KS) (p0 p3 p12 p13 : V) (vs : List V) (S : St) (again0 : List V → St → An) : An :=
unD vs fun x2 vs =>
unD vs fun x14 vs =>
dR (binV prog .lss 3 x14 p13) fun t4 =>
pickD t4 (dR (indexAddrV prog 26 p12 x14) fun t5 =>
dR (loadV prog 62 t5 S) fun t6 =>
dR (newBlk none S (.row 0 12 [[.str [],.int .i64 0,.int .i64 0,.int .i64 0,.int .i64 0,.int .i64 0,.int .i64 0,.int .i64 0,.nils,.str [],.int .i64 0,.bool false]])) fun r7 =>
dR (storeV prog 62 (.ptr r7.1 0 0 0) t6 r7.2) fun S8 =>
dR (fieldAddrV prog 62 (.ptr r7.1 0 0 0) 1) fun t9 =>
dR (loadV prog 38 t9 S8) fun t10 =>
C 89 [t10] S8 fun t11 S12 =>
dR (unV .not t11) fun t13 =>
pickD t13 (K (.bool false) S12) (dR (fieldAddrV prog 62 (.ptr r7.1 0 0 0) 2) fun t14 =>
dR (loadV prog 60 t14 S12) fun t15 =>
C 90 [t15] S12 fun t16 S17 =>
dR (unV .not t16) fun t18 =>
pickD t18 (K (.bool false) S17) (dR (fieldAddrV prog 62 (.ptr r7.1 0 0 0) 3) fun t19 =>
dR (loadV prog 43 t19 S17) fun t20 =>
dR (buildV prog 43 []) fun t21 =>
dIf (guardP prog 43 t20 t21) (dR (binV prog .eql 43 t20 t21) fun t22 =>
pickD t22 (dR (binV prog .add 3 x14 (.int .i64 1)) fun t23 =>
again0 [x2, t23] S17) (dR (sliceV prog 26 p0 none (some x14)) fun t24 =>
dR (fieldAddrV prog 62 (.ptr r7.1 0 0 0) 3) fun t25 =>
dR (loadV prog 43 t25 (⟨S17.next + 7, S17.heap⟩ : St)) fun t26 =>
C 91 [t24, t26] (⟨S17.next + 7, S17.heap⟩ : St) fun t27 S28 =>
dR (binV prog .lss 3 t27 (.int .i64 0)) fun t29 =>
pickD t29 (K (.bool false) (⟨S28.next + 11, S28.heap⟩ : St)) (dR (loadV prog 62 (.ptr r7.1 0 0 0) (⟨S28.next + 11, S28.heap⟩ : St)) fun t30 =>
dR (indexAddrV prog 26 p0 t27) fun t31 =>
dR (loadV prog 62 t31 (⟨S28.next + 11, S28.heap⟩ : St)) fun t32 =>
C 92 [t30, t32] (⟨S28.next + 11, S28.heap⟩ : St) fun t33 S34 =>
dR (unV .not t33) fun t35 =>
pickD t35 (K (.bool false) S34) (dR (indexAddrV prog 145 p3 t27) fun t36 =>
dR (loadV prog 3 t36 S34) fun t37 =>
dR (binV prog .add 3 t37 (.int .i64 1)) fun t38 =>
dR (indexAddrV prog 145 p3 t27) fun t39 =>
dR (storeV prog 3 t39 t38 S34) fun S40 =>
dR (binV prog .add 3 x14 (.int .i64 1)) fun t41 =>
again0 [x2, t41] S40))))))) (dR (lenV prog 26 p0 S) fun t42 =>
loopD k [x2, (.int .i64 0)] S (m50_l1 C k K p3 p0 t42))
noncomputable def m50 (C : CallD) (k : Nat) (a0 : V) (S : St) (K : KS) : An :=
dR (lenV prog 26 a0 S) fun t0 =>
dR (binV prog .gtr 3 t0 (.int .i64 40)) fun t1 =>
pickD t1 (K (.bool false) S) (dR (newBlk none S (.row 0 40 [[.int .i64 0,.int .i64 0,.int .i64 0,.int .i64 0,.int .i64 0,.int .i64 0,.int .i64 0,.int .i64 0,.int .i64 0,.int .i64 0,.int .i64 0,.int .i64 0,.int .i64 0,.int .i64 0,.int .i64 0,.int .i64 0,.int .i64 0,.int .i64 0,.int .i64 0,.int .i64 0,.int .i64 0,.int .i64 0,.int .i64 0,.int .i64 0,.int .i64 0,.int .i64 0,.int .i64 0,.int .i64 0,.int .i64 0,.int .i64 0,.int .i64 0,.int .i64 0,.int .i64 0,.int .i64 0,.int .i64 0,.int .i64 0,.int .i64 0,.int .i64 0,.int .i64 0,.int .i64 0]])) fun r2 =>
dR (lenV prog 26 a0 r2.2) fun t3 =>
loopD k [(.bool false), (.int .i64 0)] r2.2 (m50_l0 C k K a0 (.ptr r2.1 0 0 0) a0 t3))
theorem m50_eq : (fun (k : Nat) (a0 : V) (S : St) (K : KS) => callD prog dPl dLv (k + 1) 50 [a0] S K) = fun k a0 S K => m50 (callD prog dPl dLv k) k a0 S K := by kernel_rfl
noncomputable def m51_l1 (C : CallD) (k : Nat) (K : KS) (p3 p36 p37 : V) (vs : List V) (S : St) (again1 : List V → St → An) : An :=
unD vs fun x2 vs =>
unD vs fun x38 vs =>
dR (binV prog .lss 3 x38 p37) fun t30 =>
pickD t30 (dR (indexAddrV prog 25 p36 x38) fun t31 =>
dR (loadV prog 92 t31 S) fun t32 =>
dR (newBlk none S (.row 0 4 [[.str [],.int .i64 0,.int .i64 0,.bool false]])) fun r33 =>
dR (storeV prog 92 (.ptr r33.1 0 0 0) t32 r33.2) fun S34 =>
dR (fieldAddrV prog 92 (.ptr r33.1 0 0 0) 1) fun t35 =>
dR (loadV prog 3 t35 (⟨S34.next + 7, S34.heap⟩ : St)) fun t36 =>
dR (indexAddrV prog 148 p3 x38) fun t37 =>
dR (loadV prog 3 t37 (⟨S34.next + 7, S34.heap⟩ : St)) fun t38 =>
dR (binV prog .add 3 t38 (.int .i64 1)) fun t39 =>
dIf (guardP prog 3 t36 t39) (dR (binV prog .neq 3 t36 t39) fun t40 =>
pickD t40 (K (.bool false) (⟨S34.next + 7, S34.heap⟩ : St)) (dR (binV prog .add 3 x38 (.int .i64 1)) fun t41 =>
again1 [x2, t41] (⟨S34.next + 7, S34.heap⟩ : St)))) (K (.bool true) S)
noncomputable def m51_l0 (C : CallD) (k : Nat) (K : KS) (p1 p3 p10 p11 : V) (vs : List V) (S : St) (again0 : List V → St → An) : An :=
unD vs fun x2 vs =>
unD vs fun x12 vs =>
dR (binV prog .lss 3 x12 p11) fun t5 =>
pickD t5 (dR (indexAddrV prog 26 p10 x12) fun t6 =>
dR (loadV prog 62 t6 S) fun t7 =>
dR (newBlk none S (.row 0 12 [[.str [],.int .i64 0,.int .i64 0,.int .i64 0,.int .i64 0,.int .i64 0,.int .i64 0,.int .i64 0,.nils,.str [],.int .i64 0,.bool false]])) fun r8 =>
dR (storeV prog 62 (.ptr r8.1 0 0 0) t7 r8.2) fun S9 =>
dR (fieldAddrV prog 30 p1 1) fun t10 =>
dR (loadV prog 25 t10 S9) fun t11 =>
C 93 [t11, (.func 94 [] [(.ptr r8.1 0 0 0)])] S9 fun t12 S13 =>
dR (binV prog .lss 3 t12 (.int .i64 0)) fun t14 =>
pickD t14 (K (.bool false) S13) (dR (indexAddrV prog 148 p3 t12) fun t15 =>
dR (loadV prog 3 t15 S13) fun t16 =>
dR (binV prog .add 3 t16 (.int .i64 1)) fun t17 =>
dR (indexAddrV prog 148 p3 t12) fun t18 =>
dR (storeV prog 3 t18 t17 S13) fun S19 =>
dR (fieldAddrV prog 62 (.ptr r8.1 0 0 0) 0) fun t20 =>
dR (fieldAddrV prog 43 t20 1) fun t21 =>
dR (loadV prog 3 t21 (⟨S19.next + 7, S19.heap⟩ : St)) fun t22 =>
dR (indexAddrV prog 148 p3 t12) fun t23 =>
dR (loadV prog 3 t23 (⟨S19.next + 7, S19.heap⟩ : St)) fun t24 =>
dIf (guardP prog 3 t22 t24) (dR (binV prog .neq 3 t22 t24) fun t25 =>
pickD t25 (K (.bool false) (⟨S19.next + 7, S19.heap⟩ : St)) (dR (binV prog .add 3 x12 (.int .i64 1)) fun t26 =>
again0 [x2, t26] (⟨S19.next + 7, S19.heap⟩ : St))))) (dR (fieldAddrV prog 30 p1 1) fun t27 =>
dR (loadV prog 25 t27 S) fun t28 =>
dR (lenV prog 25 t28 S) fun t29 =>
loopD k [x2, (.int .i64 0)] S (m51_l1 C k K p3 t28 t29))
noncomputable def m51 (C : CallD) (k : Nat) (a0 : V) (S : St) (K : KS) : An :=
dIf (allOne (a0 : V).cells) (dR (newBlk none S (.row 0 (a0 : V).cells.length [(a0 : V).cells])) fun r0 =>
dR (newBlk none r0.2 (.row 0 8 [[.int .i64 0,.int .i64 0,.int .i64 0,.int .i64 0,.int .i64 0,.int .i64 0,.int .i64 0,.int .i64 0]])) fun r1 =>
dR (fieldAddrV prog 30 (.ptr r0.1 0 0 0) 2) fun t2 =>
dR (loadV prog 26 t2 r1.2) fun t3 =>
dR (lenV prog 26 t3 r1.2) fun t4 =>
loopD k [(.bool false), (.int .i64 0)] r1.2 (m51_l0 C k K (.ptr r0.1 0 0 0) (.ptr r1.1 0 0 0) t3 t4))
theorem m51_eq : (fun (k : Nat) (a0 : V) (S : St) (K : KS) => callD prog dPl dLv (k + 1) 51 [a0] S K) = fun k a0 S K => m51 (callD prog dPl dLv k) k a0 S K := by kernel_rfl
noncomputable def m52_l0 (C : CallD) (k : Nat) (K : KS) (p9 p10 : V) (vs : List V) (S : St) (again0 : List V → St → An) : An :=
unD vs fun x2 vs =>
unD vs fun x3 vs =>
unD vs fun x4 vs =>
unD vs fun x11 vs =>
dR (binV prog .lss 3 x11 p10) fun t1 =>
pickD t1 (dR (indexAddrV prog 26 p9 x11) fun t2 =>
dR (loadV prog 62 t2 S) fun t3 =>
dR (newBlk none S (.row 0 12 [[.str [],.int .i64 0,.int .i64 0,.int .i64 0,.int .i64 0,.int .i64 0,.int .i64 0,.int .i64 0,.nils,.str [],.int .i64 0,.bool false]])) fun r4 =>
dR (storeV prog 62 (.ptr r4.1 0 0 0) t3 r4.2) fun S5 =>
dR (fieldAddrV prog 62 (.ptr r4.1 0 0 0) 2) fun t6 =>
dR (loadV prog 60 t6 S5) fun t7 =>
C 95 [t7] S5 fun t8 S9 =>
tupD t8 0 fun t10 =>
tupD t8 1 fun t11 =>
dIf (guardP prog 32 t11 (.int .i64 0)) (dR (binV prog .neq 32 t11 (.int .i64 0)) fun t12 =>
pickD t12 (K (.tup [(.nils), t11]) S9) (C 96 [x4, t10] S9 fun t13 S14 =>
tupD t13 0 fun t15 =>
tupD t13 1 fun t16 =>
dIf (guardP prog 32 t16 (.int .i64 0)) (dR (binV prog .neq 32 t16 (.int .i64 0)) fun t17 =>
pickD t17 (K (.tup [(.nils), t16]) S14) (dR (binV prog .add 3 x11 (.int .i64 1)) fun t18 =>
again0 [x2, x3, t15, t18] S14))))) (K (.tup [x4, (.int .i64 0)]) S)
noncomputable def m52 (C : CallD) (k : Nat) (a0 : V) (S : St) (K : KS) : An :=
dR (lenV prog 26 a0 S) fun t0 =>
loopD k [(.nils), (.int .i64 0), (.nils), (.int .i64 0)] S (m52_l0 C k K a0 t0)
theorem m52_eq : (fun (k : Nat) (a0 : V) (S : St) (K : KS) => callD prog dPl dLv (k + 1) 52 [a0] S K) = fun k a0 S K => m52 (callD prog dPl dLv k) k a0 S K := by kernel_rfl
noncomputable def m53_l0 (C : CallD) (k : Nat) (K : KS) (p0 p1 p12 : V) (vs : List V) (S : St) (again0 : List V → St → An) : An :=
unD vs fun x4 vs =>
unD vs fun x13 vs =>
dR (binV prog .lss 3 x13 p12) fun t4 =>
pickD t4 (dR (indexAddrV prog 27 p0 x13) fun t5 =>
dR (loadV prog 96 t5 (⟨S.next + 9, S.heap⟩ : St)) fun t6 =>
dR (indexAddrV prog 27 p1 x13) fun t7 =>
dR (loadV prog 96 t7 (⟨S.next + 9, S.heap⟩ : St)) fun t8 =>
dIf (guardP prog 96 t6 t8) (dR (binV prog .neq 96 t6 t8) fun t9 =>
pickD t9 (K (.bool false) (⟨S.next + 9, S.heap⟩ : St)) (dR (binV prog .add 3 x13 (.int .i64 1)) fun t10 =>
again0 [x4, t10] (⟨S.next + 9, S.heap⟩ : St)))) (K (.bool true) S)
noncomputable def m53 (C : CallD) (k : Nat) (a0 a1 : V) (S : St) (K : KS) : An :=
dR (lenV prog 27 a0 S) fun t0 =>
dR (lenV prog 27 a1 S) fun t1 =>
dIf (guardP prog 3 t0 t1) (dR (binV prog .neq 3 t0 t1) fun t2 =>
pickD t2 (K (.bool false) S) (dR (lenV prog 27 a0 S) fun t3 =>
loopD k [(.bool false), (.int .i64 0)] S (m53_l0 C k K a0 a1 t3)))
theorem m53_eq : (fun (k : Nat) (a0 a1 : V) (S : St) (K : KS) => callD prog dPl dLv (k + 1) 53 [a0, a1] S K) = fun k a0 a1 S K => m53 (callD prog dPl dLv k) k a0 a1 S K := by kernel_rfl
noncomputable def m63_j0 (C : CallD) (k : Nat) (K : KS) (again0 : List V → St → An) (p4 p5 p7 p8 p10 p11 p12 : V) (S : St) : An :=
dR (convertV prog 3 161 p7 none S) fun r4 =>
dR (externV Tryz.f108 [p5, r4.1, (.int .u64 0)]) fun t5 =>
tupD t5 0 fun t7 =>
tupD t5 1 fun t8 =>
dR (externV Tryz.f108 [p4, p8, t8]) fun t9 =>
tupD t9 0 fun t11 =>
tupD t9 1 fun t12 =>
dR (binV prog .add 3 p12 (.int .i64 1)) fun t13 =>
again0 [t11, t7, t13] r4.2
noncomputable def m63_l0 (C : CallD) (k : Nat) (K : KS) (p10 p11 : V) (vs : List V) (S : St) (again0 : List V → St → An) : An :=
unD vs fun x4 vs =>
unD vs fun x5 vs =>
unD vs fun x12 vs =>
dR (binV prog .lss 3 x12 p11) fun t1 =>
pickD t1 (dR (indexAddrV prog 64 p10 x12) fun t2 =>
dR (loadV prog 3 t2 S) fun t3 =>
dR (binV prog .lss 3 t3 (.int .i64 0)) fun t14 =>
pickD t14 (dR (unV .xor (.int .u64 0)) fun t15 =>
m63_j0 C k K again0 x4 x5 t3 t15 p10 p11 x12 S) (m63_j0 C k K again0 x4 x5 t3 (.int .u64 0) p10 p11 x12 S)) (dR (binV prog .shr 161 x5 (.int .u64 63)) fun t16 =>
dIf (guardP prog 161 t16 (.int .u64 0)) (dR (binV prog .eql 161 t16 (.int .u64 0)) fun t17 =>
pickD t17 (dR (convertV prog 161 3 x5 none S) fun r18 =>
dIf (guardP prog 161 x4 (.int .u64 0)) (dR (binV prog .eql 161 x4 (.int .u64 0)) fun t19 =>
K (.tup [r18.1, t19]) r18.2)) (dR (convertV prog 161 3 x5 none S) fun r20 =>
dIf (guardP prog 161 x4 (.int .u64 18446744073709551615)) (dR (binV prog .eql 161 x4 (.int .u64 18446744073709551615)) fun t21 =>
K (.tup [r20.1, t21]) r20.2))))
noncomputable def m63 (C : CallD) (k : Nat) (a0 : V) (S : St) (K : KS) : An :=
dR (lenV prog 64 a0 S) fun t0 =>
loopD k [(.int .u64 0), (.int .u64 0), (.int .i64 0)] S (m63_l0 C k K a0 t0)
theorem m63_eq : (fun (k : Nat) (a0 : V) (S : St) (K : KS) => callD prog dPl dLv (k + 1) 63 [a0] S K) = fun k a0 S K => m63 (callD prog dPl dLv k) k a0 S K := by kernel_rfl
noncomputable def m64_j1 (C : CallD) (k : Nat) (K : KS) (p0 p1 p6 : V) (S : St) : An :=
dR (appendV prog 28 (.nils) p0 none S) fun r5 =>
dR (buildV prog 84 [(0, p1)]) fun t6 =>
dR (buildSliceV prog 28 1 [(0, t6)] none r5.2) fun r7 =>
C 109 [r5.1, p6, r7.1] r7.2 fun t8 S9 =>
K (.tup [t8, (.int .i64 0)]) S9
noncomputable def m64_l0 (C : CallD) (k : Nat) (K : KS) (p0 p1 : V) (vs : List V) (S : St) (again0 : List V → St → An) : An :=
unD vs fun x6 vs =>
dR (lenV prog 28 p0 S) fun t10 =>
dR (binV prog .lss 3 x6 t10) fun t11 =>
pickD t11 (dR (indexAddrV prog 28 p0 x6) fun t12 =>
dR (fieldAddrV prog 84 t12 0) fun t13 =>
dR (loadV prog 3 t13 S) fun t14 =>
dR (binV prog .lss 3 t14 p1) fun t15 =>
pickD t15 (dR (binV prog .add 3 x6 (.int .i64 1)) fun t16 =>
again0 [t16] S) (m64_j1 C k K p0 p1 x6 S)) (m64_j1 C k K p0 p1 x6 S)
noncomputable def m64_j0 (C : CallD) (k : Nat) (K : KS) (p0 p1 p7 : V) (S : St) : An :=
pickD p7 (K (.tup [(.nils), (.int .i64 1)]) S) (C 66 [p0, p1] S fun t0 S1 =>
dR (binV prog .geq 3 t0 (.int .i64 0)) fun t2 =>
pickD t2 (K (.tup [(.nils), (.int .i64 12)]) S1) (dR (lenV prog 28 p0 S1) fun t3 =>
dR (binV prog .geq 3 t3 (.int .i64 8)) fun t4 =>
pickD t4 (K (.tup [(.nils), (.int .i64 14)]) S1) (loopD k [(.int .i64 0)] S1 (m64_l0 C k K p0 p1))))
noncomputable def m64 (C : CallD) (k : Nat) (a0 a1 : V) (S : St) (K : KS) : An :=
C 65 [a0] S fun t17 S18 =>
dR (unV .not t17) fun t19 =>
pickD t19 (m64_j0 C k K a0 a1 (.bool true) S18) (dR (binV prog .lss 3 a1 (.int .i64 1)) fun t20 =>
m64_j0 C k K a0 a1 t20 S18)
theorem m64_eq : (fun (k : Nat) (a0 a1 : V) (S : St) (K : KS) => callD prog dPl dLv (k + 1) 64 [a0, a1] S K) = fun k a0 a1 S K => m64 (callD prog dPl dLv k) k a0 a1 S K := by kernel_rfl
noncomputable def m65_l0 (C : CallD) (k : Nat) (K : KS) (p9 p10 : V) (vs : List V) (S : St) (again0 : List V → St → An) : An :=
unD vs fun x2 vs =>
unD vs fun x3 vs =>
unD vs fun x11 vs =>
dR (binV prog .lss 3 x11 p10) fun t3 =>
pickD t3 (dR (indexAddrV prog 28 p9 x11) fun t4 =>
dR (loadV prog 84 t4 S) fun t5 =>
dR (newBlk none S (.row 0 5 [[.int .i64 0,.int .i64 0,.int .i64 0,.int .i64 0,.int .i64 0]])) fun r6 =>
dR (storeV prog 84 (.ptr r6.1 0 0 0) t5 r6.2) fun S7 =>
dR (fieldAddrV prog 84 (.ptr r6.1 0 0 0) 0) fun t8 =>
dR (loadV prog 3 t8 S7) fun t9 =>
dR (binV prog .leq 3 t9 x3) fun t10 =>
pickD t10 (K (.bool false) S7) (dR (fieldAddrV prog 84 (.ptr r6.1 0 0 0) 1) fun t11 =>
dR (loadV prog 3 t11 S7) fun t12 =>
dR (binV prog .lss 3 t12 (.int .i64 0)) fun t13 =>
pickD t13 (K (.bool false) S7) (dR (fieldAddrV prog 84 (.ptr r6.1 0 0 0) 1) fun t14 =>
dR (loadV prog 3 t14 S7) fun t15 =>
dR (binV prog .gtr 3 t15 (.int .i64 1099511627776)) fun t16 =>
pickD t16 (K (.bool false) S7) (dR (fieldAddrV prog 84 (.ptr r6.1 0 0 0) 1) fun t17 =>
dR (loadV prog 3 t17 S7) fun t18 =>
dIf (guardP prog 3 t18 (.int .i64 0)) (dR (binV prog .eql 3 t18 (.int .i64 0)) fun t19 =>
pickD t19 (dR (fieldAddrV prog 84 (.ptr r6.1 0 0 0) 2) fun t20 =>
dR (loadV prog 34 t20 S7) fun t21 =>
dR (buildV prog 34 []) fun t22 =>
dIf (guardP prog 34 t21 t22) (dR (binV prog .neq 34 t21 t22) fun t23 =>
pickD t23 (K (.bool false) S7) (dR (fieldAddrV prog 84 (.ptr r6.1 0 0 0) 0) fun t24 =>
dR (loadV prog 3 t24 S7) fun t25 =>
dR (binV prog .add 3 x11 (.int .i64 1)) fun t26 =>
again0 [x2, t25, t26] S7))) (dR (fieldAddrV prog 84 (.ptr r6.1 0 0 0) 0) fun t27 =>
dR (loadV prog 3 t27 S7) fun t28 =>
dR (binV prog .add 3 x11 (.int .i64 1)) fun t29 =>
again0 [x2, t28, t29] S7)))))) (K (.bool true) S)
noncomputable def m65 (C : CallD) (k : Nat) (a0 : V) (S : St) (K : KS) : An :=
dR (lenV prog 28 a0 S) fun t0 =>
dR (binV prog .gtr 3 t0 (.int .i64 8)) fun t1 =>
pickD t1 (K (.bool false) S) (dR (lenV prog 28 a0 S) fun t2 =>
loopD k [(.bool false), (.int .i64 0), (.int .i64 0)] S (m65_l0 C k K a0 t2))
theorem m65_eq : (fun (k : Nat) (a0 : V) (S : St) (K : KS) => callD prog dPl dLv (k + 1) 65 [a0] S K) = fun k a0 S K => m65 (callD prog dPl dLv k) k a0 S K := by kernel_rfl
noncomputable def m66 (C : CallD) (k : Nat) (a0 a1 : V) (S : St) (K : KS) : An :=
dIf (allOne (a1 : V).cells) (dR (newBlk none S (.row 0 (a1 : V).cells.length [(a1 : V).cells])) fun r0 =>
C 110 [a0, (.func 111 [] [(.ptr r0.1 0 0 0)])] r0.2 fun t1 S2 =>
K t1 S2)
theorem m66_eq : (fun (k : Nat) (a0 a1 : V) (S : St) (K : KS) => callD prog dPl dLv (k + 1) 66 [a0, a1] S K) = fun k a0 a1 S K => m66 (callD prog dPl dLv k) k a0 a1 S K := by kernel_rfl
noncomputable def m67_j1 (C : CallD) (k : Nat) (K : KS) (p0 p1 p2 p8 : V) (S : St) : An :=
C 114 [p0] S fun t11 S12 =>
dR (buildV prog 92 [(0, p1), (1, (.int .i64 1)), (2, p2)]) fun t13 =>
dR (buildSliceV prog 25 1 [(0, t13)] none S12) fun r14 =>
C 113 [t11, p8, r14.1] r14.2 fun t15 S16 =>
K (.tup [t15, (.int .i64 0)]) S16
noncomputable def m67_l0 (C : CallD) (k : Nat) (K : KS) (p0 p1 p2 : V) (vs : List V) (S : St) (again0 : List V → St → An) : An :=
unD vs fun x8 vs =>
dR (lenV prog 25 p0 S) fun t17 =>
dR (binV prog .lss 3 x8 t17) fun t18 =>
pickD t18 (dR (indexAddrV prog 25 p0 x8) fun t19 =>
dR (fieldAddrV prog 92 t19 0) fun t20 =>
dR (loadV prog 9 t20 S) fun t21 =>
dR (binV prog .lss 9 t21 p1) fun t22 =>
pickD t22 (dR (binV prog .add 3 x8 (.int .i64 1)) fun t23 =>
again0 [t23] S) (m67_j1 C k K p0 p1 p2 x8 S)) (m67_j1 C k K p0 p1 p2 x8 S)
noncomputable def m67_j0 (C : CallD) (k : Nat) (K : KS) (p0 p1 p2 p17 : V) (S : St) : An :=
pickD p17 (K (.tup [(.nils), (.int .i64 1)]) S) (C 112 [p0, p1] S fun t6 S7 =>
dR (binV prog .geq 3 t6 (.int .i64 0)) fun t8 =>
pickD t8 (K (.tup [(.nils), (.int .i64 12)]) S7) (dR (lenV prog 25 p0 S7) fun t9 =>
dR (binV prog .geq 3 t9 (.int .i64 8)) fun t10 =>
pickD t10 (K (.tup [(.nils), (.int .i64 14)]) S7) (loopD k [(.int .i64 0)] S7 (m67_l0 C k K p0 p1 p2))))
noncomputable def m67 (C : CallD) (k : Nat) (a0 a1 a2 : V) (S : St) (K : KS) : An :=
C 48 [a0] S fun t0 S1 =>
dR (unV .not t0) fun t2 =>
pickD t2 (K (.tup [(.nils), (.int .i64 1)]) S1) (C 88 [a1] S1 fun t3 S4 =>
dR (unV .not t3) fun t5 =>
pickD t5 (K (.tup [(.nils), (.int .i64 8)]) S4) (dR (binV prog .lss 3 a2 (.int .i64 1)) fun t24 =>
pickD t24 (m67_j0 C k K a0 a1 a2 (.bool true) S4) (dR (binV prog .gtr 3 a2 (.int .i64 1099511627776)) fun t25 =>
m67_j0 C k K a0 a1 a2 t25 S4)))
theorem m67_eq : (fun (k : Nat) (a0 a1 a2 : V) (S : St) (K : KS) => callD prog dPl dLv (k + 1) 67 [a0, a1, a2] S K) = fun k a0 a1 a2 S K => m67 (callD prog dPl dLv k) k a0 a1 a2 S K := by kernel_rfl
noncomputable def m68 (C : CallD) (k : Nat) (a0 a1 a2 : V) (S : St) (K : KS) : An :=
dR (newBlk none S (.row 0 3 [[.int .i64 0,.int .i64 0,.int .i64 0]])) fun r0 =>
dIf (guardP prog 32 a2 (.int .i64 0)) (dR (binV prog .eql 32 a2 (.int .i64 0)) fun t1 =>
pickD t1 (nilD a0 (dR (storeV prog 25 a0 a1 r0.2) fun S2 =>
C 32 [a2] S2 fun t3 S4 =>
dR (storeV prog 34 (.ptr r0.1 0 0 0) t3 S4) fun S5 =>
dR (loadV prog 34 (.ptr r0.1 0 0 0) S5) fun t6 =>
K t6 S5)) (C 32 [a2] r0.2 fun t7 S8 =>
dR (storeV prog 34 (.ptr r0.1 0 0 0) t7 S8) fun S9 =>
dR (loadV prog 34 (.ptr r0.1 0 0 0) S9) fun t10 =>
K t10 S9))
theorem m68_eq : (fun (k : Nat) (a0 a1 a2 : V) (S : St) (K : KS) => callD prog dPl dLv (k + 1) 68 [a0, a1, a2] S K) = fun k a0 a1 a2 S K => m68 (callD prog dPl dLv k) k a0 a1 a2 S K := by kernel_rfl
noncomputable def m69 (C : CallD) (k : Nat) (a0 a1 : V) (S : St) (K : KS) : An :=
C 115 [a0, a1] S fun t0 S1 =>
tupD t0 0 fun t2 =>
tupD t0 1 fun t3 =>
dIf (guardP prog 32 t3 (.int .i64 0)) (dR (binV prog .neq 32 t3 (.int .i64 0)) fun t4 =>
pickD t4 (K (.tup [(.nils), t3]) S1) (C 114 [a0] S1 fun t5 S6 =>
dR (indexAddrV prog 25 t5 t2) fun t7 =>
dR (fieldAddrV prog 92 t7 3) fun t8 =>
dR (storeV prog 4 t8 (.bool true) S6) fun S9 =>
K (.tup [t5, (.int .i64 0)]) S9))
theorem m69_eq : (fun (k : Nat) (a0 a1 : V) (S : St) (K : KS) => callD prog dPl dLv (k + 1) 69 [a0, a1] S K) = fun k a0 a1 S K => m69 (callD prog dPl dLv k) k a0 a1 S K := by kernel_rfl
noncomputable def m70_j0 (C : CallD) (k : Nat) (K : KS) (again0 : List V → St → An) (p0 p3 p4 p5 p7 p9 p18 p19 p20 : V) (S : St) : An :=
dR (loadV prog 40 p9 S) fun t14 =>
dR (loadV prog 40 p3 S) fun t15 =>
C 87 [t14, t15] S fun t16 S17 =>
pickD t16 (dR (binV prog .add 3 p7 (.int .i64 1)) fun t18 =>
dR (binV prog .add 3 p20 (.int .i64 1)) fun t19 =>
again0 [p4, p5, t18, t19] S17) (dR (binV prog .add 3 p20 (.int .i64 1)) fun t20 =>
again0 [p4, p5, p7, t20] S17)
noncomputable def m70_l0 (C : CallD) (k : Nat) (K : KS) (p0 p3 p18 p19 : V) (vs : List V) (S : St) (again0 : List V → St → An) : An :=
unD vs fun x4 vs =>
unD vs fun x5 vs =>
unD vs fun x7 vs =>
unD vs fun x20 vs =>
dR (binV prog .lss 3 x20 p19) fun t9 =>
pickD t9 (dR (indexAddrV prog 24 p18 x20) fun t10 =>
dR (loadV prog 40 t10 S) fun t11 =>
dR (newBlk none S (.row 0 5 [[.str [],.int .i64 0,.int .i64 0,.int .i64 0,.int .i64 0]])) fun r12 =>
dR (storeV prog 40 (.ptr r12.1 0 0 0) t11 r12.2) fun S13 =>
dR (fieldAddrV prog 40 (.ptr r12.1 0 0 0) 0) fun t21 =>
dR (loadV prog 9 t21 S13) fun t22 =>
dR (fieldAddrV prog 40 p3 0) fun t23 =>
dR (loadV prog 9 t23 S13) fun t24 =>
dIf (guardP prog 9 t22 t24) (dR (binV prog .eql 9 t22 t24) fun t25 =>
pickD t25 (dR (fieldAddrV prog 40 (.ptr r12.1 0 0 0) 1) fun t26 =>
dR (loadV prog 38 t26 S13) fun t27 =>
dR (fieldAddrV prog 40 p3 1) fun t28 =>
dR (loadV prog 38 t28 S13) fun t29 =>
dIf (guardP prog 38 t27 t29) (dR (binV prog .eql 38 t27 t29) fun t30 =>
pickD t30 (K (.tup [(.nils), (.int .i64 12)]) S13) (m70_j0 C k K again0 p0 p3 x4 x5 x7 (.ptr r12.1 0 0 0) p18 p19 x20 S13))) (m70_j0 C k K again0 p0 p3 x4 x5 x7 (.ptr r12.1 0 0 0) p18 p19 x20 S13))) (dR (lenV prog 24 p0 S) fun t31 =>
dR (binV prog .geq 3 t31 (.int .i64 24)) fun t32 =>
pickD t32 (K (.tup [(.nils), (.int .i64 2)]) S) (dR (loadV prog 40 p3 (⟨S.next + 8, S.heap⟩ : St)) fun t33 =>
dR (appendV prog 24 (.nils) p0 (some (S.next + 1)) (⟨S.next + 8, S.heap⟩ : St)) fun r34 =>
dR (loadV prog 40 p3 r34.2) fun t35 =>
dIf (beqV t33 t35) (dR (buildSliceV prog 24 1 [(0, t33)] (some (S.next + 4)) r34.2) fun r36 =>
C 116 [r34.1, x7, r36.1] r36.2 fun t37 S38 =>
K (.tup [t37, (.int .i64 0)]) S38)))
noncomputable def m70 (C : CallD) (k : Nat) (a0 a1 : V) (S : St) (K : KS) : An :=
dIf (allOne (a1 : V).cells) (dR (newBlk none S (.row 0 (a1 : V).cells.length [(a1 : V).cells])) fun r0 =>
C 47 [a0] r0.2 fun t1 S2 =>
dR (unV .not t1) fun t3 =>
pickD t3 (K (.tup [(.nils), (.int .i64 1)]) S2) (dR (loadV prog 40 (.ptr r0.1 0 0 0) S2) fun t4 =>
C 86 [t4] S2 fun t5 S6 =>
dIf (guardP prog 32 t5 (.int .i64 0)) (dR (binV prog .neq 32 t5 (.int .i64 0)) fun t7 =>
pickD t7 (K (.tup [(.nils), t5]) S6) (dR (lenV prog 24 a0 S6) fun t8 =>
loopD k [(.nils), (.int .i64 0), (.int .i64 0), (.int .i64 0)] S6 (m70_l0 C k K a0 (.ptr r0.1 0 0 0) a0 t8)))))
theorem m70_eq : (fun (k : Nat) (a0 a1 : V) (S : St) (K : KS) => callD prog dPl dLv (k + 1) 70 [a0, a1] S K) = fun k a0 a1 S K => m70 (callD prog dPl dLv k) k a0 a1 S K := by kernel_rfl
noncomputable def m71 (C : CallD) (k : Nat) (a0 a1 a2 : V) (S : St) (K : KS) : An :=
dR (newBlk none S (.row 0 3 [[.int .i64 0,.int .i64 0,.int .i64 0]])) fun r0 =>
dIf (guardP prog 32 a2 (.int .i64 0)) (dR (binV prog .eql 32 a2 (.int .i64 0)) fun t1 =>
pickD t1 (nilD a0 (dR (storeV prog 24 a0 a1 r0.2) fun S2 =>
C 32 [a2] S2 fun t3 S4 =>
dR (storeV prog 34 (.ptr r0.1 0 0 0) t3 S4) fun S5 =>
dR (loadV prog 34 (.ptr r0.1 0 0 0) S5) fun t6 =>
K t6 S5)) (C 32 [a2] r0.2 fun t7 S8 =>
dR (storeV prog 34 (.ptr r0.1 0 0 0) t7 S8) fun S9 =>
dR (loadV prog 34 (.ptr r0.1 0 0 0) S9) fun t10 =>
K t10 S9))
theorem m71_eq : (fun (k : Nat) (a0 a1 a2 : V) (S : St) (K : KS) => callD prog dPl dLv (k + 1) 71 [a0, a1, a2] S K) = fun k a0 a1 a2 S K => m71 (callD prog dPl dLv k) k a0 a1 a2 S K := by kernel_rfl
noncomputable def m72 (C : CallD) (k : Nat) (a0 a1 : V) (S : St) (K : KS) : An :=
dIf (allOne (a1 : V).cells) (dR (newBlk none S (.row 0 (a1 : V).cells.length [(a1 : V).cells])) fun r0 =>
dR (newBlk none r0.2 (.row 0 3 [[.int .i64 0,.int .i64 0,.int .i64 0]])) fun r1 =>
nilD a0 (dR (fieldAddrV prog 30 a0 0) fun t2 =>
dR (loadV prog 24 t2 (⟨r1.2.next + 15, r1.2.heap⟩ : St)) fun t3 =>
dR (fieldAddrV prog 45 (.ptr r0.1 0 0 0) 4) fun t4 =>
dR (loadV prog 38 t4 (⟨r1.2.next + 15, r1.2.heap⟩ : St)) fun t5 =>
dR (fieldAddrV prog 45 (.ptr r0.1 0 0 0) 5) fun t6 =>
dR (loadV prog 41 t6 (⟨r1.2.next + 15, r1.2.heap⟩ : St)) fun t7 =>
C 117 [t3, t5, t7] (⟨r1.2.next + 15, r1.2.heap⟩ : St) fun t8 S9 =>
tupD t8 0 fun t10 =>
tupD t8 1 fun t11 =>
dR (newBlk (some (r1.2.next + 12)) S9 (.row 0 4 [[.int .i64 0,.int .i64 0,.int .i64 0,.nils]])) fun r12 =>
dR (storeV prog 60 (.ptr r12.1 0 0 0) t10 r12.2) fun S13 =>
dIf (guardP prog 32 t11 (.int .i64 0)) (dR (binV prog .neq 32 t11 (.int .i64 0)) fun t14 =>
pickD t14 (C 32 [t11] S13 fun t15 S16 =>
dR (storeV prog 34 (.ptr r1.1 0 0 0) t15 S16) fun S17 =>
dR (loadV prog 34 (.ptr r1.1 0 0 0) S17) fun t18 =>
K t18 S17) (dR (fieldAddrV prog 45 (.ptr r0.1 0 0 0) 1) fun t19 =>
dR (loadV prog 9 t19 S13) fun t20 =>
dR (fieldAddrV prog 45 (.ptr r0.1 0 0 0) 4) fun t21 =>
dR (loadV prog 38 t21 S13) fun t22 =>
dR (loadV prog 60 (.ptr r12.1 0 0 0) S13) fun t23 =>
dR (buildV prog 62 [(1, t22), (2, t23)]) fun t24 =>
C 118 [a0, t20, t24] S13 fun t25 S26 =>
dR (storeV prog 34 (.ptr r1.1 0 0 0) t25 S26) fun S27 =>
dR (loadV prog 34 (.ptr r1.1 0 0 0) S27) fun t28 =>
K t28 S27))))
theorem m72_eq : (fun (k : Nat) (a0 a1 : V) (S : St) (K : KS) => callD prog dPl dLv (k + 1) 72 [a0, a1] S K) = fun k a0 a1 S K => m72 (callD prog dPl dLv k) k a0 a1 S K := by kernel_rfl
noncomputable def m73 (C : CallD) (k : Nat) (a0 a1 : V) (S : St) (K : KS) : An :=
dIf (allOne (a1 : V).cells) (dR (newBlk none S (.row 0 (a1 : V).cells.length [(a1 : V).cells])) fun r0 =>
dR (newBlk none r0.2 (.row 0 3 [[.int .i64 0,.int .i64 0,.int .i64 0]])) fun r1 =>
nilD a0 (dR (fieldAddrV prog 30 a0 2) fun t2 =>
dR (loadV prog 26 t2 (⟨r1.2.next + 8, r1.2.heap⟩ : St)) fun t3 =>
dR (fieldAddrV prog 45 (.ptr r0.1 0 0 0) 6) fun t4 =>
dR (loadV prog 43 t4 (⟨r1.2.next + 8, r1.2.heap⟩ : St)) fun t5 =>
C 91 [t3, t5] (⟨r1.2.next + 8, r1.2.heap⟩ : St) fun t6 S7 =>
dR (binV prog .lss 3 t6 (.int .i64 0)) fun t8 =>
pickD t8 (C 32 [(.int .i64 11)] S7 fun t9 S10 =>
dR (storeV prog 34 (.ptr r1.1 0 0 0) t9 S10) fun S11 =>
dR (loadV prog 34 (.ptr r1.1 0 0 0) S11) fun t12 =>
K t12 S11) (nilD a0 (dR (fieldAddrV prog 30 a0 2) fun t13 =>
dR (loadV prog 26 t13 S7) fun t14 =>
dR (indexAddrV prog 26 t14 t6) fun t15 =>
dR (loadV prog 62 t15 S7) fun t16 =>
dR (newBlk none S7 (.row 0 12 [[.str [],.int .i64 0,.int .i64 0,.int .i64 0,.int .i64 0,.int .i64 0,.int .i64 0,.int .i64 0,.nils,.str [],.int .i64 0,.bool false]])) fun r17 =>
dR (storeV prog 62 (.ptr r17.1 0 0 0) t16 r17.2) fun S18 =>
dR (fieldAddrV prog 62 (.ptr r17.1 0 0 0) 4) fun t19 =>
dR (loadV prog 4 t19 S18) fun t20 =>
pickD t20 (C 32 [(.int .i64 12)] S18 fun t21 S22 =>
dR (storeV prog 34 (.ptr r1.1 0 0 0) t21 S22) fun S23 =>
dR (loadV prog 34 (.ptr r1.1 0 0 0) S23) fun t24 =>
K t24 S23) (dR (fieldAddrV prog 62 (.ptr r17.1 0 0 0) 3) fun t25 =>
dR (loadV prog 43 t25 S18) fun t26 =>
dR (buildV prog 43 []) fun t27 =>
dIf (guardP prog 43 t26 t27) (dR (binV prog .neq 43 t26 t27) fun t28 =>
pickD t28 (C 32 [(.int .i64 12)] S18 fun t29 S30 =>
dR (storeV prog 34 (.ptr r1.1 0 0 0) t29 S30) fun S31 =>
dR (loadV prog 34 (.ptr r1.1 0 0 0) S31) fun t32 =>
K t32 S31) (dR (fieldAddrV prog 45 (.ptr r0.1 0 0 0) 4) fun t33 =>
dR (loadV prog 38 t33 S18) fun t34 =>
C 89 [t34] S18 fun t35 S36 =>
dR (unV .not t35) fun t37 =>
pickD t37 (C 32 [(.int .i64 9)] S36 fun t38 S39 =>
dR (storeV prog 34 (.ptr r1.1 0 0 0) t38 S39) fun S40 =>
dR (loadV prog 34 (.ptr r1.1 0 0 0) S40) fun t41 =>
K t41 S40) (dR (fieldAddrV prog 45 (.ptr r0.1 0 0 0) 4) fun t42 =>
dR (loadV prog 38 t42 S36) fun t43 =>
dR (fieldAddrV prog 62 (.ptr r17.1 0 0 0) 1) fun t44 =>
dR (loadV prog 38 t44 S36) fun t45 =>
C 119 [t43, t45] S36 fun t46 S47 =>
pickD t46 (C 32 [(.int .i64 9)] S47 fun t48 S49 =>
dR (storeV prog 34 (.ptr r1.1 0 0 0) t48 S49) fun S50 =>
dR (loadV prog 34 (.ptr r1.1 0 0 0) S50) fun t51 =>
K t51 S50) (dR (fieldAddrV prog 62 (.ptr r17.1 0 0 0) 2) fun t52 =>
dR (loadV prog 60 t52 S47) fun t53 =>
C 120 [t53] S47 fun t54 S55 =>
tupD t54 0 fun t56 =>
tupD t54 1 fun t57 =>
dR (newBlk none S55 (.row 0 4 [[.int .i64 0,.int .i64 0,.int .i64 0,.nils]])) fun r58 =>
dR (storeV prog 60 (.ptr r58.1 0 0 0) t56 r58.2) fun S59 =>
dIf (guardP prog 32 t57 (.int .i64 0)) (dR (binV prog .neq 32 t57 (.int .i64 0)) fun t60 =>
pickD t60 (C 32 [t57] S59 fun t61 S62 =>
dR (storeV prog 34 (.ptr r1.1 0 0 0) t61 S62) fun S63 =>
dR (loadV prog 34 (.ptr r1.1 0 0 0) S63) fun t64 =>
K t64 S63) (dR (fieldAddrV prog 45 (.ptr r0.1 0 0 0) 1) fun t65 =>
dR (loadV prog 9 t65 S59) fun t66 =>
dR (fieldAddrV prog 45 (.ptr r0.1 0 0 0) 4) fun t67 =>
dR (loadV prog 38 t67 S59) fun t68 =>
dR (loadV prog 60 (.ptr r58.1 0 0 0) S59) fun t69 =>
dR (fieldAddrV prog 45 (.ptr r0.1 0 0 0) 6) fun t70 =>
dR (loadV prog 43 t70 S59) fun t71 =>
dR (buildV prog 62 [(1, t68), (2, t69), (3, t71)]) fun t72 =>
C 118 [a0, t66, t72] S59 fun t73 S74 =>
dR (newBlk none S74 (.row 0 3 [[.int .i64 0,.int .i64 0,.int .i64 0]])) fun r75 =>
dR (storeV prog 34 (.ptr r75.1 0 0 0) t73 r75.2) fun S76 =>
dR (fieldAddrV prog 34 (.ptr r75.1 0 0 0) 0) fun t77 =>
dR (loadV prog 32 t77 S76) fun t78 =>
dIf (guardP prog 32 t78 (.int .i64 0)) (dR (binV prog .eql 32 t78 (.int .i64 0)) fun t79 =>
pickD t79 (nilD a0 (dR (fieldAddrV prog 30 a0 2) fun t80 =>
dR (loadV prog 26 t80 S76) fun t81 =>
dR (indexAddrV prog 26 t81 t6) fun t82 =>
dR (fieldAddrV prog 62 t82 4) fun t83 =>
dR (storeV prog 4 t83 (.bool true) S76) fun S84 =>
dR (loadV prog 34 (.ptr r75.1 0 0 0) S84) fun t85 =>
dR (storeV prog 34 (.ptr r1.1 0 0 0) t85 S84) fun S86 =>
dR (loadV prog 34 (.ptr r1.1 0 0 0) S86) fun t87 =>
K t87 S86)) (dR (loadV prog 34 (.ptr r75.1 0 0 0) S76) fun t88 =>
dR (storeV prog 34 (.ptr r1.1 0 0 0) t88 S76) fun S89 =>
dR (loadV prog 34 (.ptr r1.1 0 0 0) S89) fun t90 =>
K t90 S89)))))))))))))
theorem m73_eq : (fun (k : Nat) (a0 a1 : V) (S : St) (K : KS) => callD prog dPl dLv (k + 1) 73 [a0, a1] S K) = fun k a0 a1 S K => m73 (callD prog dPl dLv k) k a0 a1 S K := by kernel_rfl
noncomputable def m74 (C : CallD) (k : Nat) (a0 a1 : V) (S : St) (K : KS) : An :=
C 65 [a0] S fun t0 S1 =>
dR (unV .not t0) fun t2 =>
pickD t2 (K (.tup [(.nils), (.int .i64 1)]) S1) (C 66 [a0, a1] S1 fun t3 S4 =>
dR (binV prog .lss 3 t3 (.int .i64 0)) fun t5 =>
pickD t5 (K (.tup [(.nils), (.int .i64 11)]) S4) (dR (appendV prog 28 (.nils) a0 none S4) fun r6 =>
dR (binV prog .add 3 t3 (.int .i64 1)) fun t7 =>
C 121 [r6.1, t3, t7] r6.2 fun t8 S9 =>
K (.tup [t8, (.int .i64 0)]) S9))
theorem m74_eq : (fun (k : Nat) (a0 a1 : V) (S : St) (K : KS) => callD prog dPl dLv (k + 1) 74 [a0, a1] S K) = fun k a0 a1 S K => m74 (callD prog dPl dLv k) k a0 a1 S K := by kernel_rfl
noncomputable def m75 (C : CallD) (k : Nat) (a0 a1 a2 : V) (S : St) (K : KS) : An :=
dR (newBlk none S (.row 0 3 [[.int .i64 0,.int .i64 0,.int .i64 0]])) fun r0 =>
dIf (guardP prog 32 a2 (.int .i64 0)) (dR (binV prog .eql 32 a2 (.int .i64 0)) fun t1 =>
pickD t1 (nilD a0 (dR (storeV prog 28 a0 a1 r0.2) fun S2 =>
C 32 [a2] S2 fun t3 S4 =>
dR (storeV prog 34 (.ptr r0.1 0 0 0) t3 S4) fun S5 =>
dR (loadV prog 34 (.ptr r0.1 0 0 0) S5) fun t6 =>
K t6 S5)) (C 32 [a2] r0.2 fun t7 S8 =>
dR (storeV prog 34 (.ptr r0.1 0 0 0) t7 S8) fun S9 =>
dR (loadV prog 34 (.ptr r0.1 0 0 0) S9) fun t10 =>
K t10 S9))
theorem m75_eq : (fun (k : Nat) (a0 a1 a2 : V) (S : St) (K : KS) => callD prog dPl dLv (k + 1) 75 [a0, a1, a2] S K) = fun k a0 a1 a2 S K => m75 (callD prog dPl dLv k) k a0 a1 a2 S K := by kernel_rfl
noncomputable def m76_l0 (C : CallD) (k : Nat) (K : KS) (p4 p7 p29 p30 : V) (vs : List V) (S : St) (again0 : List V → St → An) : An :=
unD vs fun x31 vs =>
dR (binV prog .lss 3 x31 p30) fun t23 =>
pickD t23 (dR (indexAddrV prog 27 p29 x31) fun t24 =>
dR (loadV prog 96 t24 S) fun t25 =>
dR (newBlk none S (.row 0 2 [[.str [],.int .i64 0]])) fun r26 =>
dR (storeV prog 96 (.ptr r26.1 0 0 0) t25 r26.2) fun S27 =>
dR (fieldAddrV prog 96 (.ptr r26.1 0 0 0) 0) fun t28 =>
dR (loadV prog 9 t28 S27) fun t29 =>
dIf (guardP prog 9 t29 (.str [111,119,101,100])) (dR (binV prog .eql 9 t29 (.str [111,119,101,100])) fun t30 =>
pickD t30 (dR (fieldAddrV prog 96 (.ptr r26.1 0 0 0) 1) fun t31 =>
dR (loadV prog 3 t31 S27) fun t32 =>
dR (fieldAddrV prog 34 p7 2) fun t33 =>
dR (storeV prog 3 t33 t32 S27) fun S34 =>
dR (binV prog .add 3 x31 (.int .i64 1)) fun t35 =>
again0 [t35] S34) (dR (binV prog .add 3 x31 (.int .i64 1)) fun t36 =>
again0 [t36] S27))) (dR (loadV prog 34 p7 S) fun t37 =>
dR (storeV prog 34 p4 t37 S) fun S38 =>
dR (loadV prog 34 p4 S38) fun t39 =>
K t39 S38)
noncomputable def m76 (C : CallD) (k : Nat) (a0 a1 : V) (S : St) (K : KS) : An :=
dR (newBlk none S (.row 0 3 [[.int .i64 0,.int .i64 0,.int .i64 0]])) fun r0 =>
nilD a0 (dR (fieldAddrV prog 30 a0 1) fun t1 =>
dR (loadV prog 25 t1 r0.2) fun t2 =>
C 122 [t2, a1] r0.2 fun t3 S4 =>
tupD t3 0 fun t5 =>
tupD t3 1 fun t6 =>
dR (newBlk none S4 (.row 0 4 [[.str [],.int .i64 0,.int .i64 0,.bool false]])) fun r7 =>
dR (storeV prog 92 (.ptr r7.1 0 0 0) t5 r7.2) fun S8 =>
dR (unV .not t6) fun t9 =>
pickD t9 (C 32 [(.int .i64 11)] S8 fun t10 S11 =>
dR (storeV prog 34 (.ptr r0.1 0 0 0) t10 S11) fun S12 =>
dR (loadV prog 34 (.ptr r0.1 0 0 0) S12) fun t13 =>
K t13 S12) (dR (fieldAddrV prog 92 (.ptr r7.1 0 0 0) 1) fun t14 =>
dR (loadV prog 3 t14 S8) fun t15 =>
dR (binV prog .sub 3 t15 (.int .i64 1)) fun t16 =>
dR (buildV prog 34 [(1, t16)]) fun t17 =>
dR (newBlk none S8 (.row 0 3 [[.int .i64 0,.int .i64 0,.int .i64 0]])) fun r18 =>
dR (storeV prog 34 (.ptr r18.1 0 0 0) t17 r18.2) fun S19 =>
nilD a0 (dR (fieldAddrV prog 30 a0 3) fun t20 =>
dR (loadV prog 27 t20 S19) fun t21 =>
dR (lenV prog 27 t21 S19) fun t22 =>
loopD k [(.int .i64 0)] S19 (m76_l0 C k K (.ptr r0.1 0 0 0) (.ptr r18.1 0 0 0) t21 t22))))
theorem m76_eq : (fun (k : Nat) (a0 a1 : V) (S : St) (K : KS) => callD prog dPl dLv (k + 1) 76 [a0, a1] S K) = fun k a0 a1 S K => m76 (callD prog dPl dLv k) k a0 a1 S K := by kernel_rfl
noncomputable def m86 (C : CallD) (k : Nat) (a0 : V) (S : St) (K : KS) : An :=
dIf (allOne (a0 : V).cells) (dR (newBlk none S (.row 0 (a0 : V).cells.length [(a0 : V).cells])) fun r0 =>
dR (fieldAddrV prog 40 (.ptr r0.1 0 0 0) 0) fun t1 =>
dR (loadV prog 9 t1 r0.2) fun t2 =>
C 88 [t2] r0.2 fun t3 S4 =>
dR (unV .not t3) fun t5 =>
pickD t5 (K (.int .i64 8) S4) (dR (fieldAddrV prog 40 (.ptr r0.1 0 0 0) 1) fun t6 =>
dR (loadV prog 38 t6 S4) fun t7 =>
C 89 [t7] S4 fun t8 S9 =>
dR (unV .not t8) fun t10 =>
pickD t10 (K (.int .i64 9) S9) (dR (fieldAddrV prog 40 (.ptr r0.1 0 0 0) 2) fun t11 =>
dR (loadV prog 3 t11 S9) fun t12 =>
dR (binV prog .lss 3 t12 (.int .i64 0)) fun t13 =>
pickD t13 (K (.int .i64 10) S9) (dR (fieldAddrV prog 40 (.ptr r0.1 0 0 0) 2) fun t14 =>
dR (loadV prog 3 t14 S9) fun t15 =>
dR (binV prog .gtr 3 t15 (.int .i64 100000)) fun t16 =>
pickD t16 (K (.int .i64 10) S9) (K (.int .i64 0) S9)))))
theorem m86_eq : (fun (k : Nat) (a0 : V) (S : St) (K : KS) => callD prog dPl dLv (k + 1) 86 [a0] S K) = fun k a0 S K => m86 (callD prog dPl dLv k) k a0 S K := by kernel_rfl
noncomputable def m87 (C : CallD) (k : Nat) (a0 a1 : V) (S : St) (K : KS) : An :=
dIf (allOne (a0 : V).cells) (dR (newBlk none S (.row 0 (a0 : V).cells.length [(a0 : V).cells])) fun r0 =>
dIf (allOne (a1 : V).cells) (dR (newBlk none r0.2 (.row 0 (a1 : V).cells.length [(a1 : V).cells])) fun r1 =>
dR (fieldAddrV prog 40 (.ptr r0.1 0 0 0) 0) fun t2 =>
dR (loadV prog 9 t2 r1.2) fun t3 =>
dR (fieldAddrV prog 40 (.ptr r1.1 0 0 0) 0) fun t4 =>
dR (loadV prog 9 t4 r1.2) fun t5 =>
dR (binV prog .lss 9 t3 t5) fun t6 =>
pickD t6 (K (.bool true) r1.2) (dR (fieldAddrV prog 40 (.ptr r0.1 0 0 0) 0) fun t7 =>
dR (loadV prog 9 t7 r1.2) fun t8 =>
dR (fieldAddrV prog 40 (.ptr r1.1 0 0 0) 0) fun t9 =>
dR (loadV prog 9 t9 r1.2) fun t10 =>
dIf (guardP prog 9 t8 t10) (dR (binV prog .eql 9 t8 t10) fun t11 =>
pickD t11 (dR (fieldAddrV prog 40 (.ptr r0.1 0 0 0) 1) fun t12 =>
dR (loadV prog 38 t12 r1.2) fun t13 =>
dR (fieldAddrV prog 40 (.ptr r1.1 0 0 0) 1) fun t14 =>
dR (loadV prog 38 t14 r1.2) fun t15 =>
C 119 [t13, t15] r1.2 fun t16 S17 =>
K t16 S17) (K (.bool false) r1.2)))))
theorem m87_eq : (fun (k : Nat) (a0 a1 : V) (S : St) (K : KS) => callD prog dPl dLv (k + 1) 87 [a0, a1] S K) = fun k a0 a1 S K => m87 (callD prog dPl dLv k) k a0 a1 S K := by kernel_rfl
noncomputable def m88_l0 (C : CallD) (k : Nat) (K : KS) (p14 : V) (vs : List V) (S : St) (again0 : List V → St → An) : An :=
unD vs fun x2 vs =>
dR (nextV p14 S) fun r5 =>
tupD r5.1 0 fun t6 =>
pickD t6 (tupD r5.1 1 fun t7 =>
tupD r5.1 2 fun t8 =>
C 127 [t8] r5.2 fun t9 S10 =>
pickD t9 (again0 [x2] S10) (dIf (guardP prog 3 t7 (.int .i64 0)) (dR (binV prog .eql 3 t7 (.int .i64 0)) fun t11 =>
pickD t11 (K (.bool false) S10) (dR (binV prog .geq 21 t8 (.int .i32 48)) fun t12 =>
pickD t12 (dR (binV prog .leq 21 t8 (.int .i32 57)) fun t13 =>
pickD t13 (dR (unV .not (.bool true)) fun t14 =>
pickD t14 (K (.bool false) S10) (again0 [x2] S10)) (dIf (guardP prog 21 t8 (.int .i32 45)) (dR (binV prog .eql 21 t8 (.int .i32 45)) fun t15 =>
pickD t15 (dR (unV .not (.bool true)) fun t16 =>
pickD t16 (K (.bool false) S10) (again0 [x2] S10)) (dIf (guardP prog 21 t8 (.int .i32 95)) (dR (binV prog .eql 21 t8 (.int .i32 95)) fun t17 =>
pickD t17 (dR (unV .not (.bool true)) fun t18 =>
pickD t18 (K (.bool false) S10) (again0 [x2] S10)) (dIf (guardP prog 21 t8 (.int .i32 46)) (dR (binV prog .eql 21 t8 (.int .i32 46)) fun t19 =>
dR (unV .not t19) fun t20 =>
pickD t20 (K (.bool false) S10) (again0 [x2] S10)))))))) (dIf (guardP prog 21 t8 (.int .i32 45)) (dR (binV prog .eql 21 t8 (.int .i32 45)) fun t21 =>
pickD t21 (dR (unV .not (.bool true)) fun t22 =>
pickD t22 (K (.bool false) S10) (again0 [x2] S10)) (dIf (guardP prog 21 t8 (.int .i32 95)) (dR (binV prog .eql 21 t8 (.int .i32 95)) fun t23 =>
pickD t23 (dR (unV .not (.bool true)) fun t24 =>
pickD t24 (K (.bool false) S10) (again0 [x2] S10)) (dIf (guardP prog 21 t8 (.int .i32 46)) (dR (binV prog .eql 21 t8 (.int .i32 46)) fun t25 =>
dR (unV .not t25) fun t26 =>
pickD t26 (K (.bool false) S10) (again0 [x2] S10))))))))))) (K (.bool true) r5.2)
noncomputable def m88 (C : CallD) (k : Nat) (a0 : V) (S : St) (K : KS) : An :=
dR (lenV prog 9 a0 S) fun t0 =>
dR (binV prog .lss 3 t0 (.int .i64 1)) fun t1 =>
pickD t1 (K (.bool false) S) (dR (lenV prog 9 a0 S) fun t2 =>
dR (binV prog .gtr 3 t2 (.int .i64 24)) fun t3 =>
pickD t3 (K (.bool false) S) (dR (rangeV a0 none S) fun r4 =>
loopD k [(.bool false)] r4.2 (m88_l0 C k K r4.1)))
theorem m88_eq : (fun (k : Nat) (a0 : V) (S : St) (K : KS) => callD prog dPl dLv (k + 1) 88 [a0] S K) = fun k a0 S K => m88 (callD prog dPl dLv k) k a0 S K := by kernel_rfl
noncomputable def m89 (C : CallD) (k : Nat) (a0 : V) (S : St) (K : KS) : An :=
dIf (allOne (a0 : V).cells) (dR (newBlk none S (.row 0 (a0 : V).cells.length [(a0 : V).cells])) fun r0 =>
dR (fieldAddrV prog 38 (.ptr r0.1 0 0 0) 0) fun t1 =>
dR (loadV prog 3 t1 (⟨r0.2.next + 34, r0.2.heap⟩ : St)) fun t2 =>
dR (binV prog .geq 3 t2 (.int .i64 1)) fun t3 =>
pickD t3 (dR (fieldAddrV prog 38 (.ptr r0.1 0 0 0) 0) fun t4 =>
dR (loadV prog 3 t4 (⟨r0.2.next + 34, r0.2.heap⟩ : St)) fun t5 =>
dR (binV prog .leq 3 t5 (.int .i64 9999)) fun t6 =>
pickD t6 (dR (fieldAddrV prog 38 (.ptr r0.1 0 0 0) 1) fun t7 =>
dR (loadV prog 3 t7 (⟨r0.2.next + 34, r0.2.heap⟩ : St)) fun t8 =>
dR (binV prog .geq 3 t8 (.int .i64 1)) fun t9 =>
pickD t9 (dR (fieldAddrV prog 38 (.ptr r0.1 0 0 0) 1) fun t10 =>
dR (loadV prog 3 t10 (⟨r0.2.next + 34, r0.2.heap⟩ : St)) fun t11 =>
dR (binV prog .leq 3 t11 (.int .i64 12)) fun t12 =>
pickD t12 (dR (fieldAddrV prog 38 (.ptr r0.1 0 0 0) 2) fun t13 =>
dR (loadV prog 3 t13 (⟨r0.2.next + 34, r0.2.heap⟩ : St)) fun t14 =>
dR (binV prog .geq 3 t14 (.int .i64 1)) fun t15 =>
pickD t15 (dR (fieldAddrV prog 38 (.ptr r0.1 0 0 0) 2) fun t16 =>
dR (loadV prog 3 t16 (⟨r0.2.next + 34, r0.2.heap⟩ : St)) fun t17 =>
dR (fieldAddrV prog 38 (.ptr r0.1 0 0 0) 0) fun t18 =>
dR (loadV prog 3 t18 (⟨r0.2.next + 34, r0.2.heap⟩ : St)) fun t19 =>
dR (fieldAddrV prog 38 (.ptr r0.1 0 0 0) 1) fun t20 =>
dR (loadV prog 3 t20 (⟨r0.2.next + 34, r0.2.heap⟩ : St)) fun t21 =>
C 128 [t19, t21] (⟨r0.2.next + 34, r0.2.heap⟩ : St) fun t22 S23 =>
dR (loadV prog 3 t16 S23) fun t24 =>
dIf (beqV t17 t24) (dR (binV prog .leq 3 t17 t22) fun t25 =>
K t25 S23)) (K (.bool false) (⟨r0.2.next + 34, r0.2.heap⟩ : St))) (K (.bool false) (⟨r0.2.next + 34, r0.2.heap⟩ : St))) (K (.bool false) (⟨r0.2.next + 34, r0.2.heap⟩ : St))) (K (.bool false) (⟨r0.2.next + 34, r0.2.heap⟩ : St))) (K (.bool false) (⟨r0.2.next + 34, r0.2.heap⟩ : St)))
theorem m89_eq : (fun (k : Nat) (a0 : V) (S : St) (K : KS) => callD prog dPl dLv (k + 1) 89 [a0] S K) = fun k a0 S K => m89 (callD prog dPl dLv k) k a0 S K := by kernel_rfl
noncomputable def m90_j0 (C : CallD) (k : Nat) (K : KS) (again0 : List V → St → An) (p1 p2 p4 p18 p19 p20 : V) (S : St) : An :=
dR (fieldAddrV prog 113 p4 2) fun t17 =>
dR (loadV prog 3 t17 S) fun t18 =>
dR (fieldAddrV prog 113 p4 1) fun t19 =>
dR (loadV prog 3 t19 S) fun t20 =>
C 129 [t18, t20] S fun t21 S22 =>
tupD t21 0 fun t23 =>
tupD t21 1 fun t24 =>
dIf (guardP prog 32 t24 (.int .i64 0)) (dR (binV prog .neq 32 t24 (.int .i64 0)) fun t25 =>
pickD t25 (K (.bool false) S22) (dR (fieldAddrV prog 113 p4 3) fun t26 =>
dR (loadV prog 3 t26 S22) fun t27 =>
dIf (guardP prog 3 t23 t27) (dR (binV prog .neq 3 t23 t27) fun t28 =>
pickD t28 (K (.bool false) S22) (dR (binV prog .add 3 p20 (.int .i64 1)) fun t29 =>
again0 [p2, t29] S22))))
noncomputable def m90_l0 (C : CallD) (k : Nat) (K : KS) (p1 p18 p19 : V) (vs : List V) (S : St) (again0 : List V → St → An) : An :=
unD vs fun x2 vs =>
unD vs fun x20 vs =>
dR (binV prog .lss 3 x20 p19) fun t12 =>
pickD t12 (dR (indexAddrV prog 58 p18 x20) fun t13 =>
dR (loadV prog 113 t13 S) fun t14 =>
dR (newBlk none S (.row 0 4 [[.str [],.int .i64 0,.int .i64 0,.int .i64 0]])) fun r15 =>
dR (storeV prog 113 (.ptr r15.1 0 0 0) t14 r15.2) fun S16 =>
dR (fieldAddrV prog 113 (.ptr r15.1 0 0 0) 0) fun t30 =>
dR (loadV prog 9 t30 (⟨S16.next + 30, S16.heap⟩ : St)) fun t31 =>
C 88 [t31] (⟨S16.next + 30, S16.heap⟩ : St) fun t32 S33 =>
dR (unV .not t32) fun t34 =>
pickD t34 (K (.bool false) S33) (dR (binV prog .gtr 3 x20 (.int .i64 0)) fun t35 =>
pickD t35 (dR (fieldAddrV prog 60 p1 3) fun t36 =>
dR (loadV prog 58 t36 S33) fun t37 =>
dR (binV prog .sub 3 x20 (.int .i64 1)) fun t38 =>
dR (indexAddrV prog 58 t37 t38) fun t39 =>
dR (fieldAddrV prog 113 t39 0) fun t40 =>
dR (loadV prog 9 t40 S33) fun t41 =>
dR (fieldAddrV prog 113 (.ptr r15.1 0 0 0) 0) fun t42 =>
dR (loadV prog 9 t42 S33) fun t43 =>
dR (binV prog .geq 9 t41 t43) fun t44 =>
pickD t44 (K (.bool false) S33) (dR (fieldAddrV prog 113 (.ptr r15.1 0 0 0) 1) fun t45 =>
dR (loadV prog 3 t45 S33) fun t46 =>
dR (binV prog .lss 3 t46 (.int .i64 0)) fun t47 =>
pickD t47 (K (.bool false) S33) (dR (fieldAddrV prog 113 (.ptr r15.1 0 0 0) 1) fun t48 =>
dR (loadV prog 3 t48 S33) fun t49 =>
dR (binV prog .gtr 3 t49 (.int .i64 100000)) fun t50 =>
pickD t50 (K (.bool false) S33) (m90_j0 C k K again0 p1 x2 (.ptr r15.1 0 0 0) p18 p19 x20 S33)))) (dR (fieldAddrV prog 113 (.ptr r15.1 0 0 0) 1) fun t51 =>
dR (loadV prog 3 t51 S33) fun t52 =>
dR (binV prog .lss 3 t52 (.int .i64 0)) fun t53 =>
pickD t53 (K (.bool false) S33) (dR (fieldAddrV prog 113 (.ptr r15.1 0 0 0) 1) fun t54 =>
dR (loadV prog 3 t54 S33) fun t55 =>
dR (binV prog .gtr 3 t55 (.int .i64 100000)) fun t56 =>
pickD t56 (K (.bool false) S33) (m90_j0 C k K again0 p1 x2 (.ptr r15.1 0 0 0) p18 p19 x20 S33))))) (dR (loadV prog 60 p1 S) fun t57 =>
C 130 [t57] S fun t58 S59 =>
K t58 S59)
noncomputable def m90 (C : CallD) (k : Nat) (a0 : V) (S : St) (K : KS) : An :=
dIf (allOne (a0 : V).cells) (dR (newBlk none S (.row 0 (a0 : V).cells.length [(a0 : V).cells])) fun r0 =>
dR (fieldAddrV prog 60 (.ptr r0.1 0 0 0) 3) fun t1 =>
dR (loadV prog 58 t1 r0.2) fun t2 =>
dR (lenV prog 58 t2 r0.2) fun t3 =>
dR (binV prog .lss 3 t3 (.int .i64 1)) fun t4 =>
pickD t4 (K (.bool false) r0.2) (dR (fieldAddrV prog 60 (.ptr r0.1 0 0 0) 3) fun t5 =>
dR (loadV prog 58 t5 r0.2) fun t6 =>
dR (lenV prog 58 t6 r0.2) fun t7 =>
dR (binV prog .gtr 3 t7 (.int .i64 12)) fun t8 =>
pickD t8 (K (.bool false) r0.2) (dR (fieldAddrV prog 60 (.ptr r0.1 0 0 0) 3) fun t9 =>
dR (loadV prog 58 t9 r0.2) fun t10 =>
dR (lenV prog 58 t10 r0.2) fun t11 =>
loopD k [(.bool false), (.int .i64 0)] r0.2 (m90_l0 C k K (.ptr r0.1 0 0 0) t10 t11))))
theorem m90_eq : (fun (k : Nat) (a0 : V) (S : St) (K : KS) => callD prog dPl dLv (k + 1) 90 [a0] S K) = fun k a0 S K => m90 (callD prog dPl dLv k) k a0 S K := by kernel_rfl
noncomputable def m91 (C : CallD) (k : Nat) (a0 a1 : V) (S : St) (K : KS) : An :=
dIf (allOne (a1 : V).cells) (dR (newBlk none S (.row 0 (a1 : V).cells.length [(a1 : V).cells])) fun r0 =>
C 131 [a0, (.func 132 [] [(.ptr r0.1 0 0 0)])] r0.2 fun t1 S2 =>
K t1 S2)
theorem m91_eq : (fun (k : Nat) (a0 a1 : V) (S : St) (K : KS) => callD prog dPl dLv (k + 1) 91 [a0, a1] S K) = fun k a0 a1 S K => m91 (callD prog dPl dLv k) k a0 a1 S K := by kernel_rfl
noncomputable def m92 (C : CallD) (k : Nat) (a0 a1 : V) (S : St) (K : KS) : An :=
dIf (allOne (a0 : V).cells) (dR (newBlk none S (.row 0 (a0 : V).cells.length [(a0 : V).cells])) fun r0 =>
dIf (allOne (a1 : V).cells) (dR (newBlk none r0.2 (.row 0 (a1 : V).cells.length [(a1 : V).cells])) fun r1 =>
dR (fieldAddrV prog 62 (.ptr r1.1 0 0 0) 2) fun t2 =>
dR (loadV prog 60 t2 r1.2) fun t3 =>
C 120 [t3] r1.2 fun t4 S5 =>
tupD t4 0 fun t6 =>
tupD t4 1 fun t7 =>
dR (newBlk none S5 (.row 0 4 [[.int .i64 0,.int .i64 0,.int .i64 0,.nils]])) fun r8 =>
dR (storeV prog 60 (.ptr r8.1 0 0 0) t6 r8.2) fun S9 =>
dR (fieldAddrV prog 62 (.ptr r1.1 0 0 0) 3) fun t10 =>
dR (loadV prog 43 t10 S9) fun t11 =>
dR (buildV prog 43 []) fun t12 =>
dIf (guardP prog 43 t11 t12) (dR (binV prog .eql 43 t11 t12) fun t13 =>
pickD t13 (dR (fieldAddrV prog 62 (.ptr r0.1 0 0 0) 1) fun t14 =>
dR (loadV prog 38 t14 S9) fun t15 =>
dR (fieldAddrV prog 62 (.ptr r1.1 0 0 0) 1) fun t16 =>
dR (loadV prog 38 t16 S9) fun t17 =>
C 119 [t15, t17] S9 fun t18 S19 =>
dR (unV .not t18) fun t20 =>
pickD t20 (dIf (guardP prog 32 t7 (.int .i64 0)) (dR (binV prog .eql 32 t7 (.int .i64 0)) fun t21 =>
pickD t21 (dR (loadV prog 60 (.ptr r8.1 0 0 0) S19) fun t22 =>
dR (fieldAddrV prog 62 (.ptr r0.1 0 0 0) 2) fun t23 =>
dR (loadV prog 60 t23 S19) fun t24 =>
C 133 [t22, t24] S19 fun t25 S26 =>
K t25 S26) (K (.bool false) S19))) (K (.bool false) S19)) (K (.bool false) S9))))
theorem m92_eq : (fun (k : Nat) (a0 a1 : V) (S : St) (K : KS) => callD prog dPl dLv (k + 1) 92 [a0, a1] S K) = fun k a0 a1 S K => m92 (callD prog dPl dLv k) k a0 a1 S K := by kernel_rfl
noncomputable def m93_l0 (C : CallD) (k : Nat) (K : KS) (p0 p1 p7 : V) (vs : List V) (S : St) (again0 : List V → St → An) : An :=
unD vs fun x4 vs =>
unD vs fun x8 vs =>
dR (binV prog .lss 3 x8 p7) fun t1 =>
pickD t1 (dR (indexAddrV prog 25 p0 x8) fun t2 =>
dR (loadV prog 92 t2 S) fun t3 =>
funD prog C p1 [t3] S fun t4 S5 =>
pickD t4 (K x8 S5) (dR (binV prog .add 3 x8 (.int .i64 1)) fun t6 =>
again0 [x4, t6] S5)) (K (.int .i64 (-1)) S)
noncomputable def m93 (C : CallD) (k : Nat) (a0 a1 : V) (S : St) (K : KS) : An :=
dR (lenV prog 25 a0 S) fun t0 =>
loopD k [(.int .i64 0), (.int .i64 0)] S (m93_l0 C k K a0 a1 t0)
theorem m93_eq : (fun (k : Nat) (a0 a1 : V) (S : St) (K : KS) => callD prog dPl dLv (k + 1) 93 [a0, a1] S K) = fun k a0 a1 S K => m93 (callD prog dPl dLv k) k a0 a1 S K := by kernel_rfl
noncomputable def m94 (C : CallD) (k : Nat) (a0 a1 : V) (S : St) (K : KS) : An :=
dIf (allOne (a0 : V).cells) (dR (newBlk none S (.row 0 (a0 : V).cells.length [(a0 : V).cells])) fun r0 =>
dR (fieldAddrV prog 92 (.ptr r0.1 0 0 0) 0) fun t1 =>
dR (loadV prog 9 t1 r0.2) fun t2 =>
dR (fieldAddrV prog 62 a1 0) fun t3 =>
dR (fieldAddrV prog 43 t3 0) fun t4 =>
dR (loadV prog 9 t4 r0.2) fun t5 =>
dIf (guardP prog 9 t2 t5) (dR (binV prog .eql 9 t2 t5) fun t6 =>
K t6 r0.2))
theorem m94_eq : (fun (k : Nat) (a0 a1 : V) (S : St) (K : KS) => callD prog dPl dLv (k + 1) 94 [a0, a1] S K) = fun k a0 a1 S K => m94 (callD prog dPl dLv k) k a0 a1 S K := by kernel_rfl
noncomputable def m95_l0 (C : CallD) (k : Nat) (K : KS) (p16 p17 : V) (vs : List V) (S : St) (again0 : List V → St → An) : An :=
unD vs fun x2 vs =>
unD vs fun x3 vs =>
unD vs fun x4 vs =>
unD vs fun x18 vs =>
dR (binV prog .lss 3 x18 p17) fun t8 =>
pickD t8 (dR (indexAddrV prog 58 p16 x18) fun t9 =>
dR (loadV prog 113 t9 S) fun t10 =>
dR (newBlk none S (.row 0 4 [[.str [],.int .i64 0,.int .i64 0,.int .i64 0]])) fun r11 =>
dR (storeV prog 113 (.ptr r11.1 0 0 0) t10 r11.2) fun S12 =>
dR (fieldAddrV prog 113 (.ptr r11.1 0 0 0) 2) fun t13 =>
dR (loadV prog 3 t13 S12) fun t14 =>
C 134 [(.int .i64 0), t14] S12 fun t15 S16 =>
tupD t15 0 fun t17 =>
tupD t15 1 fun t18 =>
dR (fieldAddrV prog 113 (.ptr r11.1 0 0 0) 3) fun t19 =>
dR (loadV prog 3 t19 S16) fun t20 =>
C 134 [(.int .i64 0), t20] S16 fun t21 S22 =>
tupD t21 0 fun t23 =>
tupD t21 1 fun t24 =>
dIf (guardP prog 32 t18 (.int .i64 0)) (dR (binV prog .neq 32 t18 (.int .i64 0)) fun t25 =>
pickD t25 (K (.tup [(.nils), (.int .i64 7)]) S22) (dIf (guardP prog 32 t24 (.int .i64 0)) (dR (binV prog .neq 32 t24 (.int .i64 0)) fun t26 =>
pickD t26 (K (.tup [(.nils), (.int .i64 7)]) S22) (dR (fieldAddrV prog 113 (.ptr r11.1 0 0 0) 0) fun t27 =>
dR (loadV prog 9 t27 S22) fun t28 =>
dR (binV prog .add 9 (.str [110,101,116,47]) t28) fun t29 =>
dR (buildV prog 96 [(0, t29), (1, t17)]) fun t30 =>
dR (fieldAddrV prog 113 (.ptr r11.1 0 0 0) 0) fun t31 =>
dR (loadV prog 9 t31 S22) fun t32 =>
dR (binV prog .add 9 (.str [116,97,120,47]) t32) fun t33 =>
dR (buildV prog 96 [(0, t33), (1, t23)]) fun t34 =>
dR (buildSliceV prog 27 2 [(0, t30), (1, t34)] none S22) fun r35 =>
dR (appendV prog 27 x4 r35.1 none r35.2) fun r36 =>
dR (binV prog .add 3 x18 (.int .i64 1)) fun t37 =>
again0 [x2, x3, r36.1, t37] r36.2))))) (K (.tup [x4, (.int .i64 0)]) S)
noncomputable def m95 (C : CallD) (k : Nat) (a0 : V) (S : St) (K : KS) : An :=
dIf (allOne (a0 : V).cells) (dR (newBlk none S (.row 0 (a0 : V).cells.length [(a0 : V).cells])) fun r0 =>
dR (fieldAddrV prog 60 (.ptr r0.1 0 0 0) 2) fun t1 =>
dR (loadV prog 3 t1 r0.2) fun t2 =>
dR (buildV prog 96 [(0, (.str [111,119,101,100])), (1, t2)]) fun t3 =>
dR (buildSliceV prog 27 1 [(0, t3)] none r0.2) fun r4 =>
dR (fieldAddrV prog 60 (.ptr r0.1 0 0 0) 3) fun t5 =>
dR (loadV prog 58 t5 r4.2) fun t6 =>
dR (lenV prog 58 t6 r4.2) fun t7 =>
loopD k [(.nils), (.int .i64 0), r4.1, (.int .i64 0)] r4.2 (m95_l0 C k K t6 t7))
theorem m95_eq : (fun (k : Nat) (a0 : V) (S : St) (K : KS) => callD prog dPl dLv (k + 1) 95 [a0] S K) = fun k a0 S K => m95 (callD prog dPl dLv k) k a0 S K := by kernel_rfl
noncomputable def m96_j1 (C : CallD) (k : Nat) (K : KS) (again0 : List V → St → An) (p4 p5 p6 p8 p9 p17 p18 p19 : V) (S : St) : An :=
dR (indexAddrV prog 27 p6 p9) fun t10 =>
dR (fieldAddrV prog 96 t10 1) fun t11 =>
dR (loadV prog 3 t11 (⟨S.next + 13, S.heap⟩ : St)) fun t12 =>
dR (fieldAddrV prog 96 p8 1) fun t13 =>
dR (loadV prog 3 t13 (⟨S.next + 13, S.heap⟩ : St)) fun t14 =>
C 137 [t12, t14] (⟨S.next + 13, S.heap⟩ : St) fun t15 S16 =>
tupD t15 0 fun t17 =>
tupD t15 1 fun t18 =>
dIf (guardP prog 32 t18 (.int .i64 0)) (dR (binV prog .neq 32 t18 (.int .i64 0)) fun t19 =>
pickD t19 (K (.tup [(.nils), t18]) S16) (dR (indexAddrV prog 27 p6 p9) fun t20 =>
dR (fieldAddrV prog 96 t20 1) fun t21 =>
dR (storeV prog 3 t21 t17 S16) fun S22 =>
dR (binV prog .add 3 p19 (.int .i64 1)) fun t23 =>
again0 [p4, p5, p6, t23] S22))
noncomputable def m96_j2 (C : CallD) (k : Nat) (K : KS) (again0 : List V → St → An) (p4 p5 p6 p8 p9 p17 p18 p19 p52 : V) (S : St) : An :=
pickD p52 (dR (fieldAddrV prog 96 p8 0) fun t24 =>
dR (loadV prog 9 t24 S) fun t25 =>
dR (buildV prog 96 [(0, t25)]) fun t26 =>
dR (buildSliceV prog 27 1 [(0, t26)] none S) fun r27 =>
C 136 [p6, p9, r27.1] r27.2 fun t28 S29 =>
m96_j1 C k K again0 p4 p5 t28 p8 p9 p17 p18 p19 S29) (m96_j1 C k K again0 p4 p5 p6 p8 p9 p17 p18 p19 S)
noncomputable def m96_j0 (C : CallD) (k : Nat) (K : KS) (again0 : List V → St → An) (p4 p5 p6 p8 p9 p17 p18 p19 : V) (S : St) : An :=
dR (lenV prog 27 p6 (⟨S.next + 14, S.heap⟩ : St)) fun t30 =>
dIf (guardP prog 3 p9 t30) (dR (binV prog .eql 3 p9 t30) fun t31 =>
pickD t31 (m96_j2 C k K again0 p4 p5 p6 p8 p9 p17 p18 p19 (.bool true) (⟨S.next + 14, S.heap⟩ : St)) (dR (indexAddrV prog 27 p6 p9) fun t32 =>
dR (fieldAddrV prog 96 t32 0) fun t33 =>
dR (loadV prog 9 t33 (⟨S.next + 14, S.heap⟩ : St)) fun t34 =>
dR (fieldAddrV prog 96 p8 0) fun t35 =>
dR (loadV prog 9 t35 (⟨S.next + 14, S.heap⟩ : St)) fun t36 =>
dIf (guardP prog 9 t34 t36) (dR (binV prog .neq 9 t34 t36) fun t37 =>
m96_j2 C k K again0 p4 p5 p6 p8 p9 p17 p18 p19 t37 (⟨S.next + 14, S.heap⟩ : St))))
noncomputable def m96_l1 (C : CallD) (k : Nat) (K : KS) (again0 : List V → St → An) (p4 p5 p6 p8 p17 p18 p19 : V) (vs : List V) (S : St) (again1 : List V → St → An) : An :=
unD vs fun x9 vs =>
dR (lenV prog 27 p6 (⟨S.next + 14, S.heap⟩ : St)) fun t38 =>
dR (binV prog .lss 3 x9 t38) fun t39 =>
pickD t39 (dR (indexAddrV prog 27 p6 x9) fun t40 =>
dR (fieldAddrV prog 96 t40 0) fun t41 =>
dR (loadV prog 9 t41 (⟨S.next + 14, S.heap⟩ : St)) fun t42 =>
dR (fieldAddrV prog 96 p8 0) fun t43 =>
dR (loadV prog 9 t43 (⟨S.next + 14, S.heap⟩ : St)) fun t44 =>
dR (binV prog .lss 9 t42 t44) fun t45 =>
pickD t45 (dR (binV prog .add 3 x9 (.int .i64 1)) fun t46 =>
again1 [t46] (⟨S.next + 14, S.heap⟩ : St)) (m96_j0 C k K again0 p4 p5 p6 p8 x9 p17 p18 p19 (⟨S.next + 14, S.heap⟩ : St))) (m96_j0 C k K again0 p4 p5 p6 p8 x9 p17 p18 p19 (⟨S.next + 14, S.heap⟩ : St))
noncomputable def m96_l0 (C : CallD) (k : Nat) (K : KS) (p17 p18 : V) (vs : List V) (S : St) (again0 : List V → St → An) : An :=
unD vs fun x4 vs =>
unD vs fun x5 vs =>
unD vs fun x6 vs =>
unD vs fun x19 vs =>
dR (binV prog .lss 3 x19 p18) fun t5 =>
pickD t5 (dR (indexAddrV prog 27 p17 x19) fun t6 =>
dR (loadV prog 96 t6 S) fun t7 =>
dR (newBlk none S (.row 0 2 [[.str [],.int .i64 0]])) fun r8 =>
dR (storeV prog 96 (.ptr r8.1 0 0 0) t7 r8.2) fun S9 =>
loopD k [(.int .i64 0)] S9 (m96_l1 C k K again0 x4 x5 x6 (.ptr r8.1 0 0 0) p17 p18 x19)) (K (.tup [x6, (.int .i64 0)]) S)
noncomputable def m96 (C : CallD) (k : Nat) (a0 a1 : V) (S : St) (K : KS) : An :=
C 135 [a0] S fun t0 S1 =>
dR (unV .not t0) fun t2 =>
pickD t2 (K (.tup [(.nils), (.int .i64 1)]) S1) (dR (appendV prog 27 (.nils) a0 none S1) fun r3 =>
dR (lenV prog 27 a1 r3.2) fun t4 =>
loopD k [(.nils), (.int .i64 0), r3.1, (.int .i64 0)] r3.2 (m96_l0 C k K a1 t4))
theorem m96_eq : (fun (k : Nat) (a0 a1 : V) (S : St) (K : KS) => callD prog dPl dLv (k + 1) 96 [a0, a1] S K) = fun k a0 a1 S K => m96 (callD prog dPl dLv k) k a0 a1 S K := by kernel_rfl
noncomputable def m110_l0 (C : CallD) (k : Nat) (K : KS) (p0 p1 p7 : V) (vs : List V) (S : St) (again0 : List V → St → An) : An :=
unD vs fun x4 vs =>
unD vs fun x8 vs =>
dR (binV prog .lss 3 x8 p7) fun t1 =>
pickD t1 (dR (indexAddrV prog 28 p0 x8) fun t2 =>
dR (loadV prog 84 t2 S) fun t3 =>
funD prog C p1 [t3] S fun t4 S5 =>
pickD t4 (K x8 S5) (dR (binV prog .add 3 x8 (.int .i64 1)) fun t6 =>
again0 [x4, t6] S5)) (K (.int .i64 (-1)) S)
noncomputable def m110 (C : CallD) (k : Nat) (a0 a1 : V) (S : St) (K : KS) : An :=
dR (lenV prog 28 a0 S) fun t0 =>
loopD k [(.int .i64 0), (.int .i64 0)] S (m110_l0 C k K a0 a1 t0)
theorem m110_eq : (fun (k : Nat) (a0 a1 : V) (S : St) (K : KS) => callD prog dPl dLv (k + 1) 110 [a0, a1] S K) = fun k a0 a1 S K => m110 (callD prog dPl dLv k) k a0 a1 S K := by kernel_rfl
noncomputable def m111 (C : CallD) (k : Nat) (a0 a1 : V) (S : St) (K : KS) : An :=
dIf (allOne (a0 : V).cells) (dR (newBlk none S (.row 0 (a0 : V).cells.length [(a0 : V).cells])) fun r0 =>
dR (fieldAddrV prog 84 (.ptr r0.1 0 0 0) 0) fun t1 =>
dR (loadV prog 3 t1 r0.2) fun t2 =>
dR (loadV prog 3 a1 r0.2) fun t3 =>
dIf (guardP prog 3 t2 t3) (dR (binV prog .eql 3 t2 t3) fun t4 =>
K t4 r0.2))
theorem m111_eq : (fun (k : Nat) (a0 a1 : V) (S : St) (K : KS) => callD prog dPl dLv (k + 1) 111 [a0, a1] S K) = fun k a0 a1 S K => m111 (callD prog dPl dLv k) k a0 a1 S K := by kernel_rfl
noncomputable def m112 (C : CallD) (k : Nat) (a0 a1 : V) (S : St) (K : KS) : An :=
dIf (allOne (a1 : V).cells) (dR (newBlk none S (.row 0 (a1 : V).cells.length [(a1 : V).cells])) fun r0 =>
C 93 [a0, (.func 144 [] [(.ptr r0.1 0 0 0)])] r0.2 fun t1 S2 =>
K t1 S2)
theorem m112_eq : (fun (k : Nat) (a0 a1 : V) (S : St) (K : KS) => callD prog dPl dLv (k + 1) 112 [a0, a1] S K) = fun k a0 a1 S K => m112 (callD prog dPl dLv k) k a0 a1 S K := by kernel_rfl
noncomputable def m114 (C : CallD) (k : Nat) (a0 : V) (S : St) (K : KS) : An :=
dR (appendV prog 25 (.nils) a0 none S) fun r0 =>
K r0.1 r0.2
theorem m114_eq : (fun (k : Nat) (a0 : V) (S : St) (K : KS) => callD prog dPl dLv (k + 1) 114 [a0] S K) = fun k a0 S K => m114 (callD prog dPl dLv k) k a0 S K := by kernel_rfl
noncomputable def m115 (C : CallD) (k : Nat) (a0 a1 : V) (S : St) (K : KS) : An :=
C 48 [a0] S fun t0 S1 =>
dR (unV .not t0) fun t2 =>
pickD t2 (K (.tup [(.int .i64 0), (.int .i64 1)]) S1) (C 112 [a0, a1] S1 fun t3 S4 =>
dR (binV prog .lss 3 t3 (.int .i64 0)) fun t5 =>
pickD t5 (K (.tup [(.int .i64 0), (.int .i64 11)]) S4) (dR (indexAddrV prog 25 a0 t3) fun t6 =>
dR (fieldAddrV prog 92 t6 3) fun t7 =>
dR (loadV prog 4 t7 S4) fun t8 =>
pickD t8 (K (.tup [(.int .i64 0), (.int .i64 13)]) S4) (K (.tup [t3, (.int .i64 0)]) S4)))
theorem m115_eq : (fun (k : Nat) (a0 a1 : V) (S : St) (K : KS) => callD prog dPl dLv (k + 1) 115 [a0, a1] S K) = fun k a0 a1 S K => m115 (callD prog dPl dLv k) k a0 a1 S K := by kernel_rfl
noncomputable def m117_l0 (C : CallD) (k : Nat) (K : KS) (p0 p4 p6 p34 p35 : V) (vs : List V) (S : St) (again0 : List V → St → An) : An :=
unD vs fun x7 vs =>
unD vs fun x8 vs =>
unD vs fun x36 vs =>
dR (binV prog .lss 3 x36 p35) fun t26 =>
pickD t26 (dR (indexAddrV prog 41 p34 x36) fun t27 =>
dR (loadV prog 115 t27 S) fun t28 =>
dR (newBlk none S (.row 0 4 [[.str [],.str [],.int .i64 0,.int .i64 0]])) fun r29 =>
dR (storeV prog 115 (.ptr r29.1 0 0 0) t28 r29.2) fun S30 =>
dR (loadV prog 38 p4 S30) fun t31 =>
dR (loadV prog 115 (.ptr r29.1 0 0 0) S30) fun t32 =>
C 149 [p0, t31, t32] S30 fun t33 S34 =>
tupD t33 0 fun t35 =>
tupD t33 1 fun t36 =>
tupD t33 2 fun t37 =>
dIf (guardP prog 32 t37 (.int .i64 0)) (dR (binV prog .neq 32 t37 (.int .i64 0)) fun t38 =>
pickD t38 (dR (buildV prog 60 []) fun t39 =>
dR (storeV prog 60 p6 t39 S34) fun S40 =>
dR (loadV prog 60 p6 S40) fun t41 =>
K (.tup [t41, t37]) S40) (dR (fieldAddrV prog 115 (.ptr r29.1 0 0 0) 1) fun t42 =>
dR (loadV prog 9 t42 S34) fun t43 =>
C 150 [x8, t43, t35, t36] S34 fun t44 S45 =>
tupD t44 0 fun t46 =>
tupD t44 1 fun t47 =>
dIf (guardP prog 32 t47 (.int .i64 0)) (dR (binV prog .neq 32 t47 (.int .i64 0)) fun t48 =>
pickD t48 (dR (buildV prog 60 []) fun t49 =>
dR (storeV prog 60 p6 t49 S45) fun S50 =>
dR (loadV prog 60 p6 S50) fun t51 =>
K (.tup [t51, t47]) S50) (dR (binV prog .add 3 x36 (.int .i64 1)) fun t52 =>
again0 [x7, t46, t52] S45))))) (C 151 [x8] S fun t53 S54 =>
tupD t53 0 fun t55 =>
tupD t53 1 fun t56 =>
dR (storeV prog 60 p6 t55 S54) fun S57 =>
dR (loadV prog 60 p6 S57) fun t58 =>
K (.tup [t58, t56]) S57)
noncomputable def m117 (C : CallD) (k : Nat) (a0 a1 a2 : V) (S : St) (K : KS) : An :=
dIf (allOne (a1 : V).cells) (dR (newBlk none S (.row 0 (a1 : V).cells.length [(a1 : V).cells])) fun r0 =>
dR (newBlk none r0.2 (.row 0 4 [[.int .i64 0,.int .i64 0,.int .i64 0,.nils]])) fun r1 =>
C 47 [a0] r1.2 fun t2 S3 =>
dR (unV .not t2) fun t4 =>
pickD t4 (dR (buildV prog 60 []) fun t5 =>
dR (storeV prog 60 (.ptr r1.1 0 0 0) t5 S3) fun S6 =>
dR (loadV prog 60 (.ptr r1.1 0 0 0) S6) fun t7 =>
K (.tup [t7, (.int .i64 1)]) S6) (dR (loadV prog 38 (.ptr r0.1 0 0 0) S3) fun t8 =>
C 89 [t8] S3 fun t9 S10 =>
dR (unV .not t9) fun t11 =>
pickD t11 (dR (buildV prog 60 []) fun t12 =>
dR (storeV prog 60 (.ptr r1.1 0 0 0) t12 S10) fun S13 =>
dR (loadV prog 60 (.ptr r1.1 0 0 0) S13) fun t14 =>
K (.tup [t14, (.int .i64 9)]) S13) (dR (lenV prog 41 a2 S10) fun t15 =>
dIf (guardP prog 3 t15 (.int .i64 0)) (dR (binV prog .eql 3 t15 (.int .i64 0)) fun t16 =>
pickD t16 (dR (buildV prog 60 []) fun t17 =>
dR (storeV prog 60 (.ptr r1.1 0 0 0) t17 S10) fun S18 =>
dR (loadV prog 60 (.ptr r1.1 0 0 0) S18) fun t19 =>
K (.tup [t19, (.int .i64 1)]) S18) (dR (lenV prog 41 a2 S10) fun t20 =>
dR (binV prog .gtr 3 t20 (.int .i64 12)) fun t21 =>
pickD t21 (dR (buildV prog 60 []) fun t22 =>
dR (storeV prog 60 (.ptr r1.1 0 0 0) t22 S10) fun S23 =>
dR (loadV prog 60 (.ptr r1.1 0 0 0) S23) fun t24 =>
K (.tup [t24, (.int .i64 2)]) S23) (dR (lenV prog 41 a2 S10) fun t25 =>
loopD k [(.int .i64 0), (.nils), (.int .i64 0)] S10 (m117_l0 C k K a0 (.ptr r0.1 0 0 0) (.ptr r1.1 0 0 0) a2 t25)))))))
theorem m117_eq : (fun (k : Nat) (a0 a1 a2 : V) (S : St) (K : KS) => callD prog dPl dLv (k + 1) 117 [a0, a1, a2] S K) = fun k a0 a1 a2 S K => m117 (callD prog dPl dLv k) k a0 a1 a2 S K := by kernel_rfl
noncomputable def m118 (C : CallD) (k : Nat) (a0 a1 a2 : V) (S : St) (K : KS) : An :=
dIf (allOne (a2 : V).cells) (dR (newBlk none S (.row 0 (a2 : V).cells.length [(a2 : V).cells])) fun r0 =>
dR (newBlk none r0.2 (.row 0 3 [[.int .i64 0,.int .i64 0,.int .i64 0]])) fun r1 =>
nilD a0 (dR (fieldAddrV prog 30 a0 1) fun t2 =>
dR (loadV prog 25 t2 r1.2) fun t3 =>
C 152 [t3, a1] r1.2 fun t4 S5 =>
tupD t4 0 fun t6 =>
tupD t4 1 fun t7 =>
tupD t4 2 fun t8 =>
dIf (guardP prog 32 t8 (.int .i64 0)) (dR (binV prog .neq 32 t8 (.int .i64 0)) fun t9 =>
pickD t9 (C 32 [t8] S5 fun t10 S11 =>
dR (storeV prog 34 (.ptr r1.1 0 0 0) t10 S11) fun S12 =>
dR (loadV prog 34 (.ptr r1.1 0 0 0) S12) fun t13 =>
K t13 S12) (nilD a0 (dR (fieldAddrV prog 30 a0 2) fun t14 =>
dR (loadV prog 26 t14 S5) fun t15 =>
dR (lenV prog 26 t15 S5) fun t16 =>
dR (binV prog .geq 3 t16 (.int .i64 40)) fun t17 =>
pickD t17 (C 32 [(.int .i64 14)] S5 fun t18 S19 =>
dR (storeV prog 34 (.ptr r1.1 0 0 0) t18 S19) fun S20 =>
dR (loadV prog 34 (.ptr r1.1 0 0 0) S20) fun t21 =>
K t21 S20) (dR (fieldAddrV prog 62 (.ptr r0.1 0 0 0) 2) fun t22 =>
dR (loadV prog 60 t22 S5) fun t23 =>
C 95 [t23] S5 fun t24 S25 =>
tupD t24 0 fun t26 =>
tupD t24 1 fun t27 =>
dIf (guardP prog 32 t27 (.int .i64 0)) (dR (binV prog .neq 32 t27 (.int .i64 0)) fun t28 =>
pickD t28 (C 32 [t27] S25 fun t29 S30 =>
dR (storeV prog 34 (.ptr r1.1 0 0 0) t29 S30) fun S31 =>
dR (loadV prog 34 (.ptr r1.1 0 0 0) S31) fun t32 =>
K t32 S31) (nilD a0 (dR (fieldAddrV prog 30 a0 3) fun t33 =>
dR (loadV prog 27 t33 S25) fun t34 =>
C 96 [t34, t26] S25 fun t35 S36 =>
tupD t35 0 fun t37 =>
tupD t35 1 fun t38 =>
dIf (guardP prog 32 t38 (.int .i64 0)) (dR (binV prog .neq 32 t38 (.int .i64 0)) fun t39 =>
pickD t39 (C 32 [t38] S36 fun t40 S41 =>
dR (storeV prog 34 (.ptr r1.1 0 0 0) t40 S41) fun S42 =>
dR (loadV prog 34 (.ptr r1.1 0 0 0) S42) fun t43 =>
K t43 S42) (dR (buildV prog 43 [(0, a1), (1, t7)]) fun t44 =>
dR (fieldAddrV prog 62 (.ptr r0.1 0 0 0) 0) fun t45 =>
dR (storeV prog 43 t45 t44 S36) fun S46 =>
nilD a0 (dR (fieldAddrV prog 30 a0 2) fun t47 =>
dR (loadV prog 26 t47 (⟨S46.next + 21, S46.heap⟩ : St)) fun t48 =>
dR (loadV prog 62 (.ptr r0.1 0 0 0) (⟨S46.next + 21, S46.heap⟩ : St)) fun t49 =>
dR (buildSliceV prog 26 1 [(0, t49)] (some (S46.next + 10)) (⟨S46.next + 21, S46.heap⟩ : St)) fun r50 =>
dR (appendV prog 26 t48 r50.1 (some (S46.next + 11)) r50.2) fun r51 =>
nilD a0 (dR (fieldAddrV prog 30 a0 1) fun t52 =>
dR (storeV prog 25 t52 t6 r51.2) fun S53 =>
nilD a0 (dR (fieldAddrV prog 30 a0 3) fun t54 =>
dR (storeV prog 27 t54 t37 S53) fun S55 =>
nilD a0 (dR (fieldAddrV prog 30 a0 2) fun t56 =>
dR (storeV prog 26 t56 r51.1 S55) fun S57 =>
dR (fieldAddrV prog 62 (.ptr r0.1 0 0 0) 2) fun t58 =>
dR (fieldAddrV prog 60 t58 2) fun t59 =>
dR (loadV prog 3 t59 S57) fun t60 =>
dR (buildV prog 34 [(1, t7), (2, t60)]) fun t61 =>
dR (storeV prog 34 (.ptr r1.1 0 0 0) t61 S57) fun S62 =>
dR (loadV prog 34 (.ptr r1.1 0 0 0) S62) fun t63 =>
K t63 S62)))))))))))))))
theorem m118_eq : (fun (k : Nat) (a0 a1 a2 : V) (S : St) (K : KS) => callD prog dPl dLv (k + 1) 118 [a0, a1, a2] S K) = fun k a0 a1 a2 S K => m118 (callD prog dPl dLv k) k a0 a1 a2 S K := by kernel_rfl
noncomputable def m119 (C : CallD) (k : Nat) (a0 a1 : V) (S : St) (K : KS) : An :=
dIf (allOne (a0 : V).cells) (dR (newBlk none S (.row 0 (a0 : V).cells.length [(a0 : V).cells])) fun r0 =>
dIf (allOne (a1 : V).cells) (dR (newBlk none r0.2 (.row 0 (a1 : V).cells.length [(a1 : V).cells])) fun r1 =>
dR (loadV prog 38 (.ptr r0.1 0 0 0) (⟨r1.2.next + 14, r1.2.heap⟩ : St)) fun t2 =>
C 89 [t2] (⟨r1.2.next + 14, r1.2.heap⟩ : St) fun t3 S4 =>
pickD t3 (dR (loadV prog 38 (.ptr r1.1 0 0 0) S4) fun t5 =>
C 89 [t5] S4 fun t6 S7 =>
pickD t6 (dR (loadV prog 38 (.ptr r0.1 0 0 0) S7) fun t8 =>
dR (loadV prog 38 (.ptr r1.1 0 0 0) S7) fun t9 =>
C 153 [t8] S7 fun t10 S11 =>
dR (loadV prog 38 (.ptr r1.1 0 0 0) S11) fun t12 =>
dIf (beqV t9 t12) (C 153 [t9] S11 fun t13 S14 =>
dR (binV prog .lss 3 t10 t13) fun t15 =>
K t15 S14)) (K (.bool false) S7)) (K (.bool false) S4)))
theorem m119_eq : (fun (k : Nat) (a0 a1 : V) (S : St) (K : KS) => callD prog dPl dLv (k + 1) 119 [a0, a1] S K) = fun k a0 a1 S K => m119 (callD prog dPl dLv k) k a0 a1 S K := by kernel_rfl
noncomputable def m120_l0 (C : CallD) (k : Nat) (K : KS) (p1 p2 p22 : V) (vs : List V) (S : St) (again0 : List V → St → An) : An :=
unD vs fun x3 vs =>
unD vs fun x23 vs =>
dR (binV prog .lss 3 x23 p22) fun t20 =>
pickD t20 (dR (fieldAddrV prog 60 p1 3) fun t21 =>
dR (loadV prog 58 t21 (⟨S.next + 13, S.heap⟩ : St)) fun t22 =>
dR (indexAddrV prog 58 t22 x23) fun t23 =>
dR (fieldAddrV prog 113 t23 2) fun t24 =>
dR (fieldAddrV prog 60 p1 3) fun t25 =>
dR (loadV prog 58 t25 (⟨S.next + 13, S.heap⟩ : St)) fun t26 =>
dR (indexAddrV prog 58 t26 x23) fun t27 =>
dR (fieldAddrV prog 113 t27 3) fun t28 =>
dR (buildSliceV prog 213 2 [(0, t24), (1, t28)] (some (S.next + 10)) (⟨S.next + 13, S.heap⟩ : St)) fun r29 =>
C 154 [r29.1] r29.2 fun t30 S31 =>
dIf (guardP prog 32 t30 (.int .i64 0)) (dR (binV prog .neq 32 t30 (.int .i64 0)) fun t32 =>
pickD t32 (dR (buildV prog 60 []) fun t33 =>
dR (storeV prog 60 p2 t33 S31) fun S34 =>
dR (loadV prog 60 p2 S34) fun t35 =>
K (.tup [t35, t30]) S34) (dR (binV prog .add 3 x23 (.int .i64 1)) fun t36 =>
again0 [x3, t36] S31))) (dR (loadV prog 60 p1 S) fun t37 =>
dR (storeV prog 60 p2 t37 S) fun S38 =>
dR (loadV prog 60 p2 S38) fun t39 =>
K (.tup [t39, (.int .i64 0)]) S38)
noncomputable def m120 (C : CallD) (k : Nat) (a0 : V) (S : St) (K : KS) : An :=
dIf (allOne (a0 : V).cells) (dR (newBlk none S (.row 0 (a0 : V).cells.length [(a0 : V).cells])) fun r0 =>
dR (newBlk none r0.2 (.row 0 4 [[.int .i64 0,.int .i64 0,.int .i64 0,.nils]])) fun r1 =>
dR (fieldAddrV prog 60 (.ptr r0.1 0 0 0) 3) fun t2 =>
dR (loadV prog 58 t2 r1.2) fun t3 =>
dR (appendV prog 58 (.nils) t3 none r1.2) fun r4 =>
dR (fieldAddrV prog 60 (.ptr r0.1 0 0 0) 3) fun t5 =>
dR (storeV prog 58 t5 r4.1 r4.2) fun S6 =>
dR (fieldAddrV prog 60 (.ptr r0.1 0 0 0) 0) fun t7 =>
dR (fieldAddrV prog 60 (.ptr r0.1 0 0 0) 1) fun t8 =>
dR (fieldAddrV prog 60 (.ptr r0.1 0 0 0) 2) fun t9 =>
dR (buildSliceV prog 213 3 [(0, t7), (1, t8), (2, t9)] none S6) fun r10 =>
C 154 [r10.1] r10.2 fun t11 S12 =>
dIf (guardP prog 32 t11 (.int .i64 0)) (dR (binV prog .neq 32 t11 (.int .i64 0)) fun t13 =>
pickD t13 (dR (buildV prog 60 []) fun t14 =>
dR (storeV prog 60 (.ptr r1.1 0 0 0) t14 S12) fun S15 =>
dR (loadV prog 60 (.ptr r1.1 0 0 0) S15) fun t16 =>
K (.tup [t16, t11]) S15) (dR (fieldAddrV prog 60 (.ptr r0.1 0 0 0) 3) fun t17 =>
dR (loadV prog 58 t17 S12) fun t18 =>
dR (lenV prog 58 t18 S12) fun t19 =>
loopD k [(.int .i64 0), (.int .i64 0)] S12 (m120_l0 C k K (.ptr r0.1 0 0 0) (.ptr r1.1 0 0 0) t19))))
theorem m120_eq : (fun (k : Nat) (a0 : V) (S : St) (K : KS) => callD prog dPl dLv (k + 1) 120 [a0] S K) = fun k a0 S K => m120 (callD prog dPl dLv k) k a0 S K := by kernel_rfl
noncomputable def m122 (C : CallD) (k : Nat) (a0 a1 : V) (S : St) (K : KS) : An :=
dR (newBlk none S (.row 0 4 [[.str [],.int .i64 0,.int .i64 0,.bool false]])) fun r0 =>
C 112 [a0, a1] r0.2 fun t1 S2 =>
dR (binV prog .lss 3 t1 (.int .i64 0)) fun t3 =>
pickD t3 (dR (buildV prog 92 []) fun t4 =>
dR (storeV prog 92 (.ptr r0.1 0 0 0) t4 S2) fun S5 =>
dR (loadV prog 92 (.ptr r0.1 0 0 0) S5) fun t6 =>
K (.tup [t6, (.bool false)]) S5) (dR (indexAddrV prog 25 a0 t1) fun t7 =>
dR (loadV prog 92 t7 S2) fun t8 =>
dR (storeV prog 92 (.ptr r0.1 0 0 0) t8 S2) fun S9 =>
dR (loadV prog 92 (.ptr r0.1 0 0 0) S9) fun t10 =>
K (.tup [t10, (.bool true)]) S9)
theorem m122_eq : (fun (k : Nat) (a0 a1 : V) (S : St) (K : KS) => callD prog dPl dLv (k + 1) 122 [a0, a1] S K) = fun k a0 a1 S K => m122 (callD prog dPl dLv k) k a0 a1 S K := by kernel_rfl
noncomputable def m127_j0 (C : CallD) (k : Nat) (K : KS) (p0 p3 : V) (S : St) : An :=
pickD p3 (K (.bool true) S) (dIf (guardP prog 21 p0 (.int .i32 215)) (dR (binV prog .eql 21 p0 (.int .i32 215)) fun t0 =>
pickD t0 (K (.bool false) S) (dIf (guardP prog 21 p0 (.int .i32 247)) (dR (binV prog .eql 21 p0 (.int .i32 247)) fun t1 =>
pickD t1 (K (.bool false) S) (dR (binV prog .geq 21 p0 (.int .i32 192)) fun t2 =>
pickD t2 (dR (binV prog .leq 21 p0 (.int .i32 591)) fun t3 =>
K t3 S) (K (.bool false) S))))))
noncomputable def m127_j1 (C : CallD) (k : Nat) (K : KS) (p0 p3 : V) (S : St) : An :=
pickD p3 (m127_j0 C k K p0 (.bool true) S) (dR (binV prog .geq 21 p0 (.int .i32 65)) fun t4 =>
pickD t4 (dR (binV prog .leq 21 p0 (.int .i32 90)) fun t5 =>
m127_j0 C k K p0 t5 S) (m127_j0 C k K p0 (.bool false) S))
noncomputable def m127 (C : CallD) (k : Nat) (a0 : V) (S : St) (K : KS) : An :=
dR (binV prog .geq 21 a0 (.int .i32 97)) fun t6 =>
pickD t6 (dR (binV prog .leq 21 a0 (.int .i32 122)) fun t7 =>
m127_j1 C k K a0 t7 S) (m127_j1 C k K a0 (.bool false) S)
theorem m127_eq : (fun (k : Nat) (a0 : V) (S : St) (K : KS) => callD prog dPl dLv (k + 1) 127 [a0] S K) = fun k a0 S K => m127 (callD prog dPl dLv k) k a0 S K := by kernel_rfl
noncomputable def m128 (C : CallD) (k : Nat) (a0 a1 : V) (S : St) (K : KS) : An :=
dIf (guardP prog 3 a1 (.int .i64 2)) (dR (binV prog .eql 3 a1 (.int .i64 2)) fun t0 =>
pickD t0 (C 155 [a0] S fun t1 S2 =>
pickD t1 (K (.int .i64 29) S2) (K (.int .i64 28) S2)) (dIf (guardP prog 3 a1 (.int .i64 4)) (dR (binV prog .eql 3 a1 (.int .i64 4)) fun t3 =>
pickD t3 (K (.int .i64 30) S) (dIf (guardP prog 3 a1 (.int .i64 6)) (dR (binV prog .eql 3 a1 (.int .i64 6)) fun t4 =>
pickD t4 (K (.int .i64 30) S) (dIf (guardP prog 3 a1 (.int .i64 9)) (dR (binV prog .eql 3 a1 (.int .i64 9)) fun t5 =>
pickD t5 (K (.int .i64 30) S) (dIf (guardP prog 3 a1 (.int .i64 11)) (dR (binV prog .eql 3 a1 (.int .i64 11)) fun t6 =>
pickD t6 (K (.int .i64 30) S) (K (.int .i64 31) S))))))))))
theorem m128_eq : (fun (k : Nat) (a0 a1 : V) (S : St) (K : KS) => callD prog dPl dLv (k + 1) 128 [a0, a1] S K) = fun k a0 a1 S K => m128 (callD prog dPl dLv k) k a0 a1 S K := by kernel_rfl
noncomputable def m129 (C : CallD) (k : Nat) (a0 a1 : V) (S : St) (K : KS) : An :=
C 156 [a0, a1, (.int .i64 10000)] S fun t0 S1 =>
tupD t0 0 fun t2 =>
tupD t0 1 fun t3 =>
K (.tup [t2, t3]) S1
theorem m129_eq : (fun (k : Nat) (a0 a1 : V) (S : St) (K : KS) => callD prog dPl dLv (k + 1) 129 [a0, a1] S K) = fun k a0 a1 S K => m129 (callD prog dPl dLv k) k a0 a1 S K := by kernel_rfl
noncomputable def m130_l0 (C : CallD) (k : Nat) (K : KS) (p1 p14 p15 : V) (vs : List V) (S : St) (again0 : List V → St → An) : An :=
unD vs fun x3 vs =>
unD vs fun x4 vs =>
unD vs fun x16 vs =>
dR (binV prog .lss 3 x16 p15) fun t4 =>
pickD t4 (dR (indexAddrV prog 58 p14 x16) fun t5 =>
dR (loadV prog 113 t5 S) fun t6 =>
dR (newBlk none S (.row 0 4 [[.str [],.int .i64 0,.int .i64 0,.int .i64 0]])) fun r7 =>
dR (storeV prog 113 (.ptr r7.1 0 0 0) t6 r7.2) fun S8 =>
dR (fieldAddrV prog 113 (.ptr r7.1 0 0 0) 2) fun t9 =>
dR (loadV prog 3 t9 (⟨S8.next + 12, S8.heap⟩ : St)) fun t10 =>
dR (fieldAddrV prog 113 (.ptr r7.1 0 0 0) 3) fun t11 =>
dR (loadV prog 3 t11 (⟨S8.next + 12, S8.heap⟩ : St)) fun t12 =>
dR (buildSliceV prog 64 1 [(0, t10)] (some (S8.next + 3)) (⟨S8.next + 12, S8.heap⟩ : St)) fun r13 =>
dR (appendV prog 64 x3 r13.1 (some (S8.next + 4)) r13.2) fun r14 =>
dR (loadV prog 3 t11 r14.2) fun t15 =>
dIf (beqV t12 t15) (dR (buildSliceV prog 64 1 [(0, t12)] (some (S8.next + 8)) r14.2) fun r16 =>
dR (appendV prog 64 x4 r16.1 (some (S8.next + 9)) r16.2) fun r17 =>
dR (binV prog .add 3 x16 (.int .i64 1)) fun t18 =>
again0 [r14.1, r17.1, t18] r17.2)) (C 63 [x3] S fun t19 S20 =>
tupD t19 0 fun t21 =>
tupD t19 1 fun t22 =>
C 63 [x4] S20 fun t23 S24 =>
tupD t23 0 fun t25 =>
tupD t23 1 fun t26 =>
dR (fieldAddrV prog 60 p1 0) fun t27 =>
dR (loadV prog 3 t27 S24) fun t28 =>
dR (fieldAddrV prog 60 p1 1) fun t29 =>
dR (loadV prog 3 t29 S24) fun t30 =>
dR (buildSliceV prog 64 2 [(0, t28), (1, t30)] none S24) fun r31 =>
C 63 [r31.1] r31.2 fun t32 S33 =>
tupD t32 0 fun t34 =>
tupD t32 1 fun t35 =>
pickD t22 (pickD t26 (pickD t35 (dR (fieldAddrV prog 60 p1 0) fun t36 =>
dR (loadV prog 3 t36 S33) fun t37 =>
dIf (guardP prog 3 t21 t37) (dR (binV prog .eql 3 t21 t37) fun t38 =>
pickD t38 (dR (fieldAddrV prog 60 p1 1) fun t39 =>
dR (loadV prog 3 t39 S33) fun t40 =>
dIf (guardP prog 3 t25 t40) (dR (binV prog .eql 3 t25 t40) fun t41 =>
pickD t41 (dR (fieldAddrV prog 60 p1 2) fun t42 =>
dR (loadV prog 3 t42 S33) fun t43 =>
dIf (guardP prog 3 t34 t43) (dR (binV prog .eql 3 t34 t43) fun t44 =>
K t44 S33)) (K (.bool false) S33))) (K (.bool false) S33))) (K (.bool false) S33)) (K (.bool false) S33)) (K (.bool false) S33))
noncomputable def m130 (C : CallD) (k : Nat) (a0 : V) (S : St) (K : KS) : An :=
dIf (allOne (a0 : V).cells) (dR (newBlk none S (.row 0 (a0 : V).cells.length [(a0 : V).cells])) fun r0 =>
dR (fieldAddrV prog 60 (.ptr r0.1 0 0 0) 3) fun t1 =>
dR (loadV prog 58 t1 r0.2) fun t2 =>
dR (lenV prog 58 t2 r0.2) fun t3 =>
loopD k [(.nils), (.nils), (.int .i64 0)] r0.2 (m130_l0 C k K (.ptr r0.1 0 0 0) t2 t3))
theorem m130_eq : (fun (k : Nat) (a0 : V) (S : St) (K : KS) => callD prog dPl dLv (k + 1) 130 [a0] S K) = fun k a0 S K => m130 (callD prog dPl dLv k) k a0 S K := by kernel_rfl
noncomputable def m131_l0 (C : CallD) (k : Nat) (K : KS) (p0 p1 p7 : V) (vs : List V) (S : St) (again0 : List V → St → An) : An :=
unD vs fun x4 vs =>
unD vs fun x8 vs =>
dR (binV prog .lss 3 x8 p7) fun t1 =>
pickD t1 (dR (indexAddrV prog 26 p0 x8) fun t2 =>
dR (loadV prog 62 t2 S) fun t3 =>
funD prog C p1 [t3] S fun t4 S5 =>
pickD t4 (K x8 S5) (dR (binV prog .add 3 x8 (.int .i64 1)) fun t6 =>
again0 [x4, t6] S5)) (K (.int .i64 (-1)) S)
noncomputable def m131 (C : CallD) (k : Nat) (a0 a1 : V) (S : St) (K : KS) : An :=
dR (lenV prog 26 a0 S) fun t0 =>
loopD k [(.int .i64 0), (.int .i64 0)] S (m131_l0 C k K a0 a1 t0)
theorem m131_eq : (fun (k : Nat) (a0 a1 : V) (S : St) (K : KS) => callD prog dPl dLv (k + 1) 131 [a0, a1] S K) = fun k a0 a1 S K => m131 (callD prog dPl dLv k) k a0 a1 S K := by kernel_rfl
noncomputable def m132 (C : CallD) (k : Nat) (a0 a1 : V) (S : St) (K : KS) : An :=
dIf (allOne (a0 : V).cells) (dR (newBlk none S (.row 0 (a0 : V).cells.length [(a0 : V).cells])) fun r0 =>
dR (fieldAddrV prog 62 (.ptr r0.1 0 0 0) 0) fun t1 =>
dR (loadV prog 43 t1 r0.2) fun t2 =>
dR (loadV prog 43 a1 r0.2) fun t3 =>
dIf (guardP prog 43 t2 t3) (dR (binV prog .eql 43 t2 t3) fun t4 =>
K t4 r0.2))
theorem m132_eq : (fun (k : Nat) (a0 a1 : V) (S : St) (K : KS) => callD prog dPl dLv (k + 1) 132 [a0, a1] S K) = fun k a0 a1 S K => m132 (callD prog dPl dLv k) k a0 a1 S K := by kernel_rfl
noncomputable def m133 (C : CallD) (k : Nat) (a0 a1 : V) (S : St) (K : KS) : An :=
dIf (allOne (a0 : V).cells) (dR (newBlk none S (.row 0 (a0 : V).cells.length [(a0 : V).cells])) fun r0 =>
dIf (allOne (a1 : V).cells) (dR (newBlk none r0.2 (.row 0 (a1 : V).cells.length [(a1 : V).cells])) fun r1 =>
dR (fieldAddrV prog 60 (.ptr r0.1 0 0 0) 0) fun t2 =>
dR (loadV prog 3 t2 r1.2) fun t3 =>
dR (fieldAddrV prog 60 (.ptr r1.1 0 0 0) 0) fun t4 =>
dR (loadV prog 3 t4 r1.2) fun t5 =>
dIf (guardP prog 3 t3 t5) (dR (binV prog .eql 3 t3 t5) fun t6 =>
pickD t6 (dR (fieldAddrV prog 60 (.ptr r0.1 0 0 0) 1) fun t7 =>
dR (loadV prog 3 t7 r1.2) fun t8 =>
dR (fieldAddrV prog 60 (.ptr r1.1 0 0 0) 1) fun t9 =>
dR (loadV prog 3 t9 r1.2) fun t10 =>
dIf (guardP prog 3 t8 t10) (dR (binV prog .eql 3 t8 t10) fun t11 =>
pickD t11 (dR (fieldAddrV prog 60 (.ptr r0.1 0 0 0) 2) fun t12 =>
dR (loadV prog 3 t12 r1.2) fun t13 =>
dR (fieldAddrV prog 60 (.ptr r1.1 0 0 0) 2) fun t14 =>
dR (loadV prog 3 t14 r1.2) fun t15 =>
dIf (guardP prog 3 t13 t15) (dR (binV prog .eql 3 t13 t15) fun t16 =>
pickD t16 (dR (fieldAddrV prog 60 (.ptr r0.1 0 0 0) 3) fun t17 =>
dR (loadV prog 58 t17 r1.2) fun t18 =>
dR (fieldAddrV prog 60 (.ptr r1.1 0 0 0) 3) fun t19 =>
dR (loadV prog 58 t19 r1.2) fun t20 =>
C 157 [t18, t20] r1.2 fun t21 S22 =>
K t21 S22) (K (.bool false) r1.2))) (K (.bool false) r1.2))) (K (.bool false) r1.2))))
theorem m133_eq : (fun (k : Nat) (a0 a1 : V) (S : St) (K : KS) => callD prog dPl dLv (k + 1) 133 [a0, a1] S K) = fun k a0 a1 S K => m133 (callD prog dPl dLv k) k a0 a1 S K := by kernel_rfl
noncomputable def m134_j0 (C : CallD) (k : Nat) (K : KS) (p0 p1 : V) (S : St) : An :=
dR (binV prog .sub 3 p0 p1) fun t0 =>
K (.tup [t0, (.int .i64 0)]) S
noncomputable def m134 (C : CallD) (k : Nat) (a0 a1 : V) (S : St) (K : KS) : An :=
dR (binV prog .lss 3 a1 (.int .i64 0)) fun t1 =>
pickD t1 (dR (binV prog .add 3 (.int .i64 9223372036854775807) a1) fun t2 =>
dR (binV prog .gtr 3 a0 t2) fun t3 =>
pickD t3 (K (.tup [(.int .i64 0), (.int .i64 7)]) S) (dR (binV prog .gtr 3 a1 (.int .i64 0)) fun t4 =>
pickD t4 (dR (binV prog .add 3 (.int .i64 (-9223372036854775808)) a1) fun t5 =>
dR (binV prog .lss 3 a0 t5) fun t6 =>
pickD t6 (K (.tup [(.int .i64 0), (.int .i64 7)]) S) (m134_j0 C k K a0 a1 S)) (m134_j0 C k K a0 a1 S))) (dR (binV prog .gtr 3 a1 (.int .i64 0)) fun t7 =>
pickD t7 (dR (binV prog .add 3 (.int .i64 (-9223372036854775808)) a1) fun t8 =>
dR (binV prog .lss 3 a0 t8) fun t9 =>
pickD t9 (K (.tup [(.int .i64 0), (.int .i64 7)]) S) (m134_j0 C k K a0 a1 S)) (m134_j0 C k K a0 a1 S))
theorem m134_eq : (fun (k : Nat) (a0 a1 : V) (S : St) (K : KS) => callD prog dPl dLv (k + 1) 134 [a0, a1] S K) = fun k a0 a1 S K => m134 (callD prog dPl dLv k) k a0 a1 S K := by kernel_rfl
noncomputable def m135_l0 (C : CallD) (k : Nat) (K : KS) (p0 : V) (vs : List V) (S : St) (again0 : List V → St → An) : An :=
unD vs fun x2 vs =>
unD vs fun x3 vs =>
dR (lenV prog 27 p0 S) fun t0 =>
dR (binV prog .lss 3 x3 t0) fun t1 =>
pickD t1 (dR (binV prog .sub 3 x3 (.int .i64 1)) fun t2 =>
dR (indexAddrV prog 27 p0 t2) fun t3 =>
dR (fieldAddrV prog 96 t3 0) fun t4 =>
dR (loadV prog 9 t4 (⟨S.next + 12, S.heap⟩ : St)) fun t5 =>
dR (indexAddrV prog 27 p0 x3) fun t6 =>
dR (fieldAddrV prog 96 t6 0) fun t7 =>
dR (loadV prog 9 t7 (⟨S.next + 12, S.heap⟩ : St)) fun t8 =>
dR (binV prog .geq 9 t5 t8) fun t9 =>
pickD t9 (K (.bool false) (⟨S.next + 12, S.heap⟩ : St)) (dR (binV prog .add 3 x3 (.int .i64 1)) fun t10 =>
again0 [x2, t10] (⟨S.next + 12, S.heap⟩ : St))) (K (.bool true) S)
noncomputable def m135 (C : CallD) (k : Nat) (a0 : V) (S : St) (K : KS) : An :=
loopD k [(.bool false), (.int .i64 1)] S (m135_l0 C k K a0)
theorem m135_eq : (fun (k : Nat) (a0 : V) (S : St) (K : KS) => callD prog dPl dLv (k + 1) 135 [a0] S K) = fun k a0 S K => m135 (callD prog dPl dLv k) k a0 S K := by kernel_rfl
noncomputable def m137_j0 (C : CallD) (k : Nat) (K : KS) (p0 p1 : V) (S : St) : An :=
dR (binV prog .add 3 p0 p1) fun t0 =>
K (.tup [t0, (.int .i64 0)]) S
noncomputable def m137 (C : CallD) (k : Nat) (a0 a1 : V) (S : St) (K : KS) : An :=
dR (binV prog .gtr 3 a1 (.int .i64 0)) fun t1 =>
pickD t1 (dR (binV prog .sub 3 (.int .i64 9223372036854775807) a1) fun t2 =>
dR (binV prog .gtr 3 a0 t2) fun t3 =>
pickD t3 (K (.tup [(.int .i64 0), (.int .i64 7)]) S) (dR (binV prog .lss 3 a1 (.int .i64 0)) fun t4 =>
pickD t4 (dR (binV prog .sub 3 (.int .i64 (-9223372036854775808)) a1) fun t5 =>
dR (binV prog .lss 3 a0 t5) fun t6 =>
pickD t6 (K (.tup [(.int .i64 0), (.int .i64 7)]) S) (m137_j0 C k K a0 a1 S)) (m137_j0 C k K a0 a1 S))) (dR (binV prog .lss 3 a1 (.int .i64 0)) fun t7 =>
pickD t7 (dR (binV prog .sub 3 (.int .i64 (-9223372036854775808)) a1) fun t8 =>
dR (binV prog .lss 3 a0 t8) fun t9 =>
pickD t9 (K (.tup [(.int .i64 0), (.int .i64 7)]) S) (m137_j0 C k K a0 a1 S)) (m137_j0 C k K a0 a1 S))
theorem m137_eq : (fun (k : Nat) (a0 a1 : V) (S : St) (K : KS) => callD prog dPl dLv (k + 1) 137 [a0, a1] S K) = fun k a0 a1 S K => m137 (callD prog dPl dLv k) k a0 a1 S K := by kernel_rfl
noncomputable def m144 (C : CallD) (k : Nat) (a0 a1 : V) (S : St) (K : KS) : An :=
dIf (allOne (a0 : V).cells) (dR (newBlk none S (.row 0 (a0 : V).cells.length [(a0 : V).cells])) fun r0 =>
dR (fieldAddrV prog 92 (.ptr r0.1 0 0 0) 0) fun t1 =>
dR (loadV prog 9 t1 r0.2) fun t2 =>
dR (loadV prog 9 a1 r0.2) fun t3 =>
dIf (guardP prog 9 t2 t3) (dR (binV prog .eql 9 t2 t3) fun t4 =>
K t4 r0.2))
theorem m144_eq : (fun (k : Nat) (a0 a1 : V) (S : St) (K : KS) => callD prog dPl dLv (k + 1) 144 [a0, a1] S K) = fun k a0 a1 S K => m144 (callD prog dPl dLv k) k a0 a1 S K := by kernel_rfl
noncomputable def m149_j0 (C : CallD) (k : Nat) (K : KS) (p0 p4 p5 p23 : V) (S : St) : An :=
pickD p23 (K (.tup [(.int .i64 0), (.int .i64 0), (.int .i64 1)]) S) (dR (fieldAddrV prog 115 p5 1) fun t11 =>
dR (loadV prog 9 t11 S) fun t12 =>
dR (loadV prog 38 p4 S) fun t13 =>
C 164 [p0, t12, t13] S fun t14 S15 =>
tupD t14 0 fun t16 =>
tupD t14 1 fun t17 =>
dR (unV .not t17) fun t18 =>
pickD t18 (K (.tup [(.int .i64 0), (.int .i64 0), (.int .i64 10)]) S15) (dR (fieldAddrV prog 115 p5 2) fun t19 =>
dR (loadV prog 3 t19 S15) fun t20 =>
dR (fieldAddrV prog 115 p5 3) fun t21 =>
dR (loadV prog 3 t21 S15) fun t22 =>
C 165 [t20, t22] S15 fun t23 S24 =>
tupD t23 0 fun t25 =>
tupD t23 1 fun t26 =>
K (.tup [t16, t25, t26]) S24))
noncomputable def m149 (C : CallD) (k : Nat) (a0 a1 a2 : V) (S : St) (K : KS) : An :=
dIf (allOne (a1 : V).cells) (dR (newBlk none S (.row 0 (a1 : V).cells.length [(a1 : V).cells])) fun r0 =>
dIf (allOne (a2 : V).cells) (dR (newBlk none r0.2 (.row 0 (a2 : V).cells.length [(a2 : V).cells])) fun r1 =>
dR (fieldAddrV prog 115 (.ptr r1.1 0 0 0) 0) fun t2 =>
dR (loadV prog 9 t2 r1.2) fun t3 =>
dR (lenV prog 9 t3 r1.2) fun t4 =>
dR (binV prog .gtr 3 t4 (.int .i64 64)) fun t5 =>
pickD t5 (K (.tup [(.int .i64 0), (.int .i64 0), (.int .i64 2)]) r1.2) (dR (fieldAddrV prog 115 (.ptr r1.1 0 0 0) 1) fun t6 =>
dR (loadV prog 9 t6 r1.2) fun t7 =>
C 88 [t7] r1.2 fun t8 S9 =>
dR (unV .not t8) fun t10 =>
pickD t10 (K (.tup [(.int .i64 0), (.int .i64 0), (.int .i64 8)]) S9) (dR (fieldAddrV prog 115 (.ptr r1.1 0 0 0) 2) fun t27 =>
dR (loadV prog 3 t27 S9) fun t28 =>
dR (binV prog .lss 3 t28 (.int .i64 1)) fun t29 =>
pickD t29 (m149_j0 C k K a0 (.ptr r0.1 0 0 0) (.ptr r1.1 0 0 0) (.bool true) S9) (dR (fieldAddrV prog 115 (.ptr r1.1 0 0 0) 2) fun t30 =>
dR (loadV prog 3 t30 S9) fun t31 =>
dR (binV prog .gtr 3 t31 (.int .i64 1048576)) fun t32 =>
m149_j0 C k K a0 (.ptr r0.1 0 0 0) (.ptr r1.1 0 0 0) t32 S9)))))
theorem m149_eq : (fun (k : Nat) (a0 a1 a2 : V) (S : St) (K : KS) => callD prog dPl dLv (k + 1) 149 [a0, a1, a2] S K) = fun k a0 a1 a2 S K => m149 (callD prog dPl dLv k) k a0 a1 a2 S K := by kernel_rfl
noncomputable def m150_j1 (C : CallD) (k : Nat) (K : KS) (p0 p3 p10 : V) (S : St) : An :=
dR (indexAddrV prog 58 p0 p10) fun t0 =>
dR (fieldAddrV prog 113 t0 2) fun t1 =>
dR (loadV prog 3 t1 S) fun t2 =>
C 137 [t2, p3] S fun t3 S4 =>
tupD t3 0 fun t5 =>
tupD t3 1 fun t6 =>
dR (indexAddrV prog 58 p0 p10) fun t7 =>
dR (fieldAddrV prog 113 t7 2) fun t8 =>
dR (storeV prog 3 t8 t5 S4) fun S9 =>
K (.tup [p0, t6]) S9
noncomputable def m150_j2 (C : CallD) (k : Nat) (K : KS) (p0 p1 p2 p3 p10 p40 : V) (S : St) : An :=
pickD p40 (dR (buildV prog 113 [(0, p1), (1, p2)]) fun t10 =>
dR (buildSliceV prog 58 1 [(0, t10)] none S) fun r11 =>
C 166 [p0, p10, r11.1] r11.2 fun t12 S13 =>
m150_j1 C k K t12 p3 p10 S13) (m150_j1 C k K p0 p3 p10 S)
noncomputable def m150_j0 (C : CallD) (k : Nat) (K : KS) (p0 p1 p2 p3 p10 : V) (S : St) : An :=
dR (lenV prog 58 p0 S) fun t14 =>
dIf (guardP prog 3 p10 t14) (dR (binV prog .eql 3 p10 t14) fun t15 =>
pickD t15 (m150_j2 C k K p0 p1 p2 p3 p10 (.bool true) S) (dR (indexAddrV prog 58 p0 p10) fun t16 =>
dR (fieldAddrV prog 113 t16 0) fun t17 =>
dR (loadV prog 9 t17 S) fun t18 =>
dIf (guardP prog 9 t18 p1) (dR (binV prog .neq 9 t18 p1) fun t19 =>
m150_j2 C k K p0 p1 p2 p3 p10 t19 S)))
noncomputable def m150_l0 (C : CallD) (k : Nat) (K : KS) (p0 p1 p2 p3 : V) (vs : List V) (S : St) (again0 : List V → St → An) : An :=
unD vs fun x10 vs =>
dR (lenV prog 58 p0 S) fun t20 =>
dR (binV prog .lss 3 x10 t20) fun t21 =>
pickD t21 (dR (indexAddrV prog 58 p0 x10) fun t22 =>
dR (fieldAddrV prog 113 t22 0) fun t23 =>
dR (loadV prog 9 t23 S) fun t24 =>
dR (binV prog .lss 9 t24 p1) fun t25 =>
pickD t25 (dR (binV prog .add 3 x10 (.int .i64 1)) fun t26 =>
again0 [t26] S) (m150_j0 C k K p0 p1 p2 p3 x10 S)) (m150_j0 C k K p0 p1 p2 p3 x10 S)
noncomputable def m150 (C : CallD) (k : Nat) (a0 a1 a2 a3 : V) (S : St) (K : KS) : An :=
loopD k [(.int .i64 0)] S (m150_l0 C k K a0 a1 a2 a3)
theorem m150_eq : (fun (k : Nat) (a0 a1 a2 a3 : V) (S : St) (K : KS) => callD prog dPl dLv (k + 1) 150 [a0, a1, a2, a3] S K) = fun k a0 a1 a2 a3 S K => m150 (callD prog dPl dLv k) k a0 a1 a2 a3 S K := by kernel_rfl
noncomputable def m151_j0 (C : CallD) (k : Nat) (K : KS) (again0 : List V → St → An) (p0 p2 p3 p4 p15 p16 p68 : V) (S : St) : An :=
pickD p68 (dR (buildV prog 60 []) fun t37 =>
dR (storeV prog 60 p2 t37 S) fun S38 =>
dR (loadV prog 60 p2 S38) fun t39 =>
K (.tup [t39, (.int .i64 7)]) S38) (dR (binV prog .add 3 p16 (.int .i64 1)) fun t40 =>
again0 [p3, t40] S)
noncomputable def m151_l0 (C : CallD) (k : Nat) (K : KS) (p0 p2 p4 p15 : V) (vs : List V) (S : St) (again0 : List V → St → An) : An :=
unD vs fun x3 vs =>
unD vs fun x16 vs =>
dR (binV prog .lss 3 x16 p15) fun t5 =>
pickD t5 (dR (indexAddrV prog 58 p0 x16) fun t6 =>
nilD t6 (dR (fieldAddrV prog 113 t6 2) fun t7 =>
dR (loadV prog 3 t7 (⟨S.next + 17, S.heap⟩ : St)) fun t8 =>
nilD t6 (dR (fieldAddrV prog 113 t6 1) fun t9 =>
dR (loadV prog 3 t9 (⟨S.next + 17, S.heap⟩ : St)) fun t10 =>
C 129 [t8, t10] (⟨S.next + 17, S.heap⟩ : St) fun t11 S12 =>
tupD t11 0 fun t13 =>
tupD t11 1 fun t14 =>
nilD t6 (dR (fieldAddrV prog 113 t6 3) fun t15 =>
dR (storeV prog 3 t15 t13 S12) fun S16 =>
dR (fieldAddrV prog 60 p4 0) fun t17 =>
dR (loadV prog 3 t17 (⟨S16.next + 13, S16.heap⟩ : St)) fun t18 =>
nilD t6 (dR (fieldAddrV prog 113 t6 2) fun t19 =>
dR (loadV prog 3 t19 (⟨S16.next + 13, S16.heap⟩ : St)) fun t20 =>
C 137 [t18, t20] (⟨S16.next + 13, S16.heap⟩ : St) fun t21 S22 =>
tupD t21 0 fun t23 =>
tupD t21 1 fun t24 =>
dR (fieldAddrV prog 60 p4 0) fun t25 =>
dR (storeV prog 3 t25 t23 S22) fun S26 =>
dR (fieldAddrV prog 60 p4 1) fun t27 =>
dR (loadV prog 3 t27 (⟨S26.next + 13, S26.heap⟩ : St)) fun t28 =>
nilD t6 (dR (fieldAddrV prog 113 t6 3) fun t29 =>
dR (loadV prog 3 t29 (⟨S26.next + 13, S26.heap⟩ : St)) fun t30 =>
C 137 [t28, t30] (⟨S26.next + 13, S26.heap⟩ : St) fun t31 S32 =>
tupD t31 0 fun t33 =>
tupD t31 1 fun t34 =>
dR (fieldAddrV prog 60 p4 1) fun t35 =>
dR (storeV prog 3 t35 t33 S32) fun S36 =>
dIf (guardP prog 32 t14 (.int .i64 0)) (dR (binV prog .neq 32 t14 (.int .i64 0)) fun t41 =>
pickD t41 (m151_j0 C k K again0 p0 p2 x3 p4 p15 x16 (.bool true) S36) (dIf (guardP prog 32 t24 (.int .i64 0)) (dR (binV prog .neq 32 t24 (.int .i64 0)) fun t42 =>
pickD t42 (m151_j0 C k K again0 p0 p2 x3 p4 p15 x16 (.bool true) S36) (dIf (guardP prog 32 t34 (.int .i64 0)) (dR (binV prog .neq 32 t34 (.int .i64 0)) fun t43 =>
m151_j0 C k K again0 p0 p2 x3 p4 p15 x16 t43 S36))))))))))) (dR (fieldAddrV prog 60 p4 0) fun t44 =>
dR (loadV prog 3 t44 S) fun t45 =>
dR (fieldAddrV prog 60 p4 1) fun t46 =>
dR (loadV prog 3 t46 S) fun t47 =>
C 137 [t45, t47] S fun t48 S49 =>
tupD t48 0 fun t50 =>
tupD t48 1 fun t51 =>
dIf (guardP prog 32 t51 (.int .i64 0)) (dR (binV prog .neq 32 t51 (.int .i64 0)) fun t52 =>
pickD t52 (dR (buildV prog 60 []) fun t53 =>
dR (storeV prog 60 p2 t53 S49) fun S54 =>
dR (loadV prog 60 p2 S54) fun t55 =>
K (.tup [t55, t51]) S54) (dR (fieldAddrV prog 60 p4 2) fun t56 =>
dR (storeV prog 3 t56 t50 S49) fun S57 =>
dR (loadV prog 60 p4 S57) fun t58 =>
dR (storeV prog 60 p2 t58 S57) fun S59 =>
dR (loadV prog 60 p2 S59) fun t60 =>
K (.tup [t60, (.int .i64 0)]) S59)))
noncomputable def m151 (C : CallD) (k : Nat) (a0 : V) (S : St) (K : KS) : An :=
dR (newBlk none S (.row 0 4 [[.int .i64 0,.int .i64 0,.int .i64 0,.nils]])) fun r0 =>
dR (buildV prog 60 [(3, a0)]) fun t1 =>
dR (newBlk none r0.2 (.row 0 4 [[.int .i64 0,.int .i64 0,.int .i64 0,.nils]])) fun r2 =>
dR (storeV prog 60 (.ptr r2.1 0 0 0) t1 r2.2) fun S3 =>
dR (lenV prog 58 a0 S3) fun t4 =>
loopD k [(.int .i64 0), (.int .i64 0)] S3 (m151_l0 C k K a0 (.ptr r0.1 0 0 0) (.ptr r2.1 0 0 0) t4)
theorem m151_eq : (fun (k : Nat) (a0 : V) (S : St) (K : KS) => callD prog dPl dLv (k + 1) 151 [a0] S K) = fun k a0 S K => m151 (callD prog dPl dLv k) k a0 S K := by kernel_rfl
noncomputable def m152 (C : CallD) (k : Nat) (a0 a1 : V) (S : St) (K : KS) : An :=
C 115 [a0, a1] S fun t0 S1 =>
tupD t0 0 fun t2 =>
tupD t0 1 fun t3 =>
dIf (guardP prog 32 t3 (.int .i64 0)) (dR (binV prog .neq 32 t3 (.int .i64 0)) fun t4 =>
pickD t4 (K (.tup [(.nils), (.int .i64 0), t3]) S1) (dR (indexAddrV prog 25 a0 t2) fun t5 =>
dR (fieldAddrV prog 92 t5 1) fun t6 =>
dR (loadV prog 3 t6 S1) fun t7 =>
dR (indexAddrV prog 25 a0 t2) fun t8 =>
dR (fieldAddrV prog 92 t8 2) fun t9 =>
dR (loadV prog 3 t9 S1) fun t10 =>
dR (binV prog .gtr 3 t7 t10) fun t11 =>
pickD t11 (K (.tup [(.nils), (.int .i64 0), (.int .i64 14)]) S1) (C 114 [a0] S1 fun t12 S13 =>
dR (indexAddrV prog 25 t12 t2) fun t14 =>
dR (fieldAddrV prog 92 t14 1) fun t15 =>
dR (loadV prog 3 t15 S13) fun t16 =>
dR (binV prog .add 3 t16 (.int .i64 1)) fun t17 =>
dR (indexAddrV prog 25 t12 t2) fun t18 =>
dR (fieldAddrV prog 92 t18 1) fun t19 =>
dR (storeV prog 3 t19 t17 S13) fun S20 =>
K (.tup [t12, t7, (.int .i64 0)]) S20)))
theorem m152_eq : (fun (k : Nat) (a0 a1 : V) (S : St) (K : KS) => callD prog dPl dLv (k + 1) 152 [a0, a1] S K) = fun k a0 a1 S K => m152 (callD prog dPl dLv k) k a0 a1 S K := by kernel_rfl
noncomputable def m153_l0 (C : CallD) (k : Nat) (K : KS) (p1 : V) (vs : List V) (S : St) (again0 : List V → St → An) : An :=
unD vs fun x3 vs =>
unD vs fun x4 vs =>
dR (fieldAddrV prog 38 p1 1) fun t9 =>
dR (loadV prog 3 t9 S) fun t10 =>
dR (binV prog .lss 3 x4 t10) fun t11 =>
pickD t11 (dR (fieldAddrV prog 38 p1 0) fun t12 =>
dR (loadV prog 3 t12 S) fun t13 =>
C 128 [t13, x4] S fun t14 S15 =>
dR (binV prog .add 3 x3 t14) fun t16 =>
dR (binV prog .add 3 x4 (.int .i64 1)) fun t17 =>
again0 [t16, t17] S15) (dR (fieldAddrV prog 38 p1 2) fun t18 =>
dR (loadV prog 3 t18 S) fun t19 =>
dR (binV prog .add 3 x3 t19) fun t20 =>
dR (binV prog .sub 3 t20 (.int .i64 1)) fun t21 =>
K t21 S)
noncomputable def m153 (C : CallD) (k : Nat) (a0 : V) (S : St) (K : KS) : An :=
dIf (allOne (a0 : V).cells) (dR (newBlk none S (.row 0 (a0 : V).cells.length [(a0 : V).cells])) fun r0 =>
dR (loadV prog 38 (.ptr r0.1 0 0 0) r0.2) fun t1 =>
C 89 [t1] r0.2 fun t2 S3 =>
dR (unV .not t2) fun t4 =>
pickD t4 (K (.int .i64 (-1)) S3) (dR (fieldAddrV prog 38 (.ptr r0.1 0 0 0) 0) fun t5 =>
dR (loadV prog 3 t5 S3) fun t6 =>
C 167 [t6] S3 fun t7 S8 =>
loopD k [t7, (.int .i64 1)] S8 (m153_l0 C k K (.ptr r0.1 0 0 0))))
theorem m153_eq : (fun (k : Nat) (a0 : V) (S : St) (K : KS) => callD prog dPl dLv (k + 1) 153 [a0] S K) = fun k a0 S K => m153 (callD prog dPl dLv k) k a0 S K := by kernel_rfl
noncomputable def m154_l0 (C : CallD) (k : Nat) (K : KS) (p7 p8 : V) (vs : List V) (S : St) (again0 : List V → St → An) : An :=
unD vs fun x2 vs =>
unD vs fun x9 vs =>
dR (binV prog .lss 3 x9 p8) fun t1 =>
pickD t1 (dR (indexAddrV prog 213 p7 x9) fun t2 =>
dR (loadV prog 204 t2 S) fun t3 =>
nilD t3 (dR (loadV prog 3 t3 S) fun t4 =>
C 134 [(.int .i64 0), t4] S fun t5 S6 =>
tupD t5 0 fun t7 =>
tupD t5 1 fun t8 =>
dIf (guardP prog 32 t8 (.int .i64 0)) (dR (binV prog .neq 32 t8 (.int .i64 0)) fun t9 =>
pickD t9 (K t8 S6) (nilD t3 (dR (storeV prog 3 t3 t7 S6) fun S10 =>
dR (binV prog .add 3 x9 (.int .i64 1)) fun t11 =>
again0 [x2, t11] S10))))) (K (.int .i64 0) S)
noncomputable def m154 (C : CallD) (k : Nat) (a0 : V) (S : St) (K : KS) : An :=
dR (lenV prog 213 a0 S) fun t0 =>
loopD k [(.int .i64 0), (.int .i64 0)] S (m154_l0 C k K a0 t0)
theorem m154_eq : (fun (k : Nat) (a0 : V) (S : St) (K : KS) => callD prog dPl dLv (k + 1) 154 [a0] S K) = fun k a0 S K => m154 (callD prog dPl dLv k) k a0 S K := by kernel_rfl
noncomputable def m155 (C : CallD) (k : Nat) (a0 : V) (S : St) (K : KS) : An :=
dR (binV prog .rem 3 a0 (.int .i64 4)) fun t0 =>
dIf (guardP prog 3 t0 (.int .i64 0)) (dR (binV prog .eql 3 t0 (.int .i64 0)) fun t1 =>
pickD t1 (dR (binV prog .rem 3 a0 (.int .i64 100)) fun t2 =>
dIf (guardP prog 3 t2 (.int .i64 0)) (dR (binV prog .neq 3 t2 (.int .i64 0)) fun t3 =>
pickD t3 (K (.bool true) S) (dR (binV prog .rem 3 a0 (.int .i64 400)) fun t4 =>
dIf (guardP prog 3 t4 (.int .i64 0)) (dR (binV prog .eql 3 t4 (.int .i64 0)) fun t5 =>
K t5 S)))) (K (.bool false) S))
theorem m155_eq : (fun (k : Nat) (a0 : V) (S : St) (K : KS) => callD prog dPl dLv (k + 1) 155 [a0] S K) = fun k a0 S K => m155 (callD prog dPl dLv k) k a0 S K := by kernel_rfl
noncomputable def m156_j1 (C : CallD) (k : Nat) (K : KS) (p0 p9 p10 p11 p12 : V) (S : St) : An :=
dR (binV prog .mul 161 p11 p9) fun t7 =>
dR (binV prog .mul 161 (.int .u64 2) p12) fun t8 =>
dR (binV prog .mul 161 t8 p9) fun t9 =>
dR (binV prog .add 161 t9 p10) fun t10 =>
dR (binV prog .mul 161 (.int .u64 2) p10) fun t11 =>
dR (binV prog .quo 161 t10 t11) fun t12 =>
dR (binV prog .add 161 t7 t12) fun t13 =>
dR (binV prog .gtr 161 t13 (.int .u64 9223372036854775807)) fun t14 =>
pickD t14 (K (.tup [(.int .i64 0), (.int .i64 7)]) S) (dR (binV prog .lss 3 p0 (.int .i64 0)) fun t15 =>
pickD t15 (dR (convertV prog 161 3 t13 none S) fun r16 =>
dR (unV .neg r16.1) fun t17 =>
K (.tup [t17, (.int .i64 0)]) r16.2) (dR (convertV prog 161 3 t13 none S) fun r18 =>
K (.tup [r18.1, (.int .i64 0)]) r18.2))
noncomputable def m156_j0 (C : CallD) (k : Nat) (K : KS) (p0 p1 p2 p8 : V) (S : St) : An :=
dR (convertV prog 3 161 p1 none S) fun r3 =>
dR (convertV prog 3 161 p2 none r3.2) fun r4 =>
dR (binV prog .quo 161 p8 r4.1) fun t5 =>
dR (binV prog .rem 161 p8 r4.1) fun t6 =>
dR (binV prog .gtr 161 r3.1 (.int .u64 0)) fun t19 =>
pickD t19 (dR (binV prog .quo 161 (.int .u64 9223372036854775807) r3.1) fun t20 =>
dR (binV prog .gtr 161 t5 t20) fun t21 =>
pickD t21 (K (.tup [(.int .i64 0), (.int .i64 7)]) (⟨r4.2.next + 8, r4.2.heap⟩ : St)) (m156_j1 C k K p0 r3.1 r4.1 t5 t6 (⟨r4.2.next + 8, r4.2.heap⟩ : St))) (m156_j1 C k K p0 r3.1 r4.1 t5 t6 (⟨r4.2.next + 8, r4.2.heap⟩ : St))
noncomputable def m156 (C : CallD) (k : Nat) (a0 a1 a2 : V) (S : St) (K : KS) : An :=
dR (binV prog .lss 3 a1 (.int .i64 0)) fun t0 =>
pickD t0 (K (.tup [(.int .i64 0), (.int .i64 1)]) S) (dR (binV prog .gtr 3 a1 (.int .i64 100000)) fun t1 =>
pickD t1 (K (.tup [(.int .i64 0), (.int .i64 1)]) S) (dR (convertV prog 3 161 a0 none S) fun r2 =>
dR (binV prog .lss 3 a0 (.int .i64 0)) fun t22 =>
pickD t22 (dR (unV .xor r2.1) fun t23 =>
dR (binV prog .add 161 t23 (.int .u64 1)) fun t24 =>
m156_j0 C k K a0 a1 a2 t24 r2.2) (m156_j0 C k K a0 a1 a2 r2.1 r2.2)))
theorem m156_eq : (fun (k : Nat) (a0 a1 a2 : V) (S : St) (K : KS) => callD prog dPl dLv (k + 1) 156 [a0, a1, a2] S K) = fun k a0 a1 a2 S K => m156 (callD prog dPl dLv k) k a0 a1 a2 S K := by kernel_rfl
noncomputable def m157_l0 (C : CallD) (k : Nat) (K : KS) (p0 p1 p12 : V) (vs : List V) (S : St) (again0 : List V → St → An) : An :=
unD vs fun x4 vs =>
unD vs fun x13 vs =>
dR (binV prog .lss 3 x13 p12) fun t4 =>
pickD t4 (dR (indexAddrV prog 58 p0 x13) fun t5 =>
dR (loadV prog 113 t5 (⟨S.next + 9, S.heap⟩ : St)) fun t6 =>
dR (indexAddrV prog 58 p1 x13) fun t7 =>
dR (loadV prog 113 t7 (⟨S.next + 9, S.heap⟩ : St)) fun t8 =>
dIf (guardP prog 113 t6 t8) (dR (binV prog .neq 113 t6 t8) fun t9 =>
pickD t9 (K (.bool false) (⟨S.next + 9, S.heap⟩ : St)) (dR (binV prog .add 3 x13 (.int .i64 1)) fun t10 =>
again0 [x4, t10] (⟨S.next + 9, S.heap⟩ : St)))) (K (.bool true) S)
noncomputable def m157 (C : CallD) (k : Nat) (a0 a1 : V) (S : St) (K : KS) : An :=
dR (lenV prog 58 a0 S) fun t0 =>
dR (lenV prog 58 a1 S) fun t1 =>
dIf (guardP prog 3 t0 t1) (dR (binV prog .neq 3 t0 t1) fun t2 =>
pickD t2 (K (.bool false) S) (dR (lenV prog 58 a0 S) fun t3 =>
loopD k [(.bool false), (.int .i64 0)] S (m157_l0 C k K a0 a1 t3)))
theorem m157_eq : (fun (k : Nat) (a0 a1 : V) (S : St) (K : KS) => callD prog dPl dLv (k + 1) 157 [a0, a1] S K) = fun k a0 a1 S K => m157 (callD prog dPl dLv k) k a0 a1 S K := by kernel_rfl
noncomputable def m164_j0 (C : CallD) (k : Nat) (K : KS) (again0 : List V → St → An) (p1 p5 p8 p9 p11 p20 p21 p22 p36 : V) (S : St) : An :=
pickD p36 (dR (fieldAddrV prog 40 p11 2) fun t14 =>
dR (loadV prog 3 t14 S) fun t15 =>
dR (binV prog .add 3 p22 (.int .i64 1)) fun t16 =>
again0 [t15, (.bool true), t16] S) (dR (binV prog .add 3 p22 (.int .i64 1)) fun t17 =>
again0 [p8, p9, t17] S)
noncomputable def m164_l0 (C : CallD) (k : Nat) (K : KS) (p1 p5 p20 p21 : V) (vs : List V) (S : St) (again0 : List V → St → An) : An :=
unD vs fun x8 vs =>
unD vs fun x9 vs =>
unD vs fun x22 vs =>
dR (binV prog .lss 3 x22 p21) fun t9 =>
pickD t9 (dR (indexAddrV prog 24 p20 x22) fun t10 =>
dR (loadV prog 40 t10 S) fun t11 =>
dR (newBlk none S (.row 0 5 [[.str [],.int .i64 0,.int .i64 0,.int .i64 0,.int .i64 0]])) fun r12 =>
dR (storeV prog 40 (.ptr r12.1 0 0 0) t11 r12.2) fun S13 =>
dR (fieldAddrV prog 40 (.ptr r12.1 0 0 0) 0) fun t18 =>
dR (loadV prog 9 t18 S13) fun t19 =>
dIf (guardP prog 9 t19 p1) (dR (binV prog .eql 9 t19 p1) fun t20 =>
pickD t20 (dR (loadV prog 38 p5 S13) fun t21 =>
dR (fieldAddrV prog 40 (.ptr r12.1 0 0 0) 1) fun t22 =>
dR (loadV prog 38 t22 S13) fun t23 =>
C 119 [t21, t23] S13 fun t24 S25 =>
dR (unV .not t24) fun t26 =>
m164_j0 C k K again0 p1 p5 x8 x9 (.ptr r12.1 0 0 0) p20 p21 x22 t26 S25) (m164_j0 C k K again0 p1 p5 x8 x9 (.ptr r12.1 0 0 0) p20 p21 x22 (.bool false) S13))) (K (.tup [x8, x9]) S)
noncomputable def m164 (C : CallD) (k : Nat) (a0 a1 a2 : V) (S : St) (K : KS) : An :=
dIf (allOne (a2 : V).cells) (dR (newBlk none S (.row 0 (a2 : V).cells.length [(a2 : V).cells])) fun r0 =>
C 47 [a0] r0.2 fun t1 S2 =>
dR (unV .not t1) fun t3 =>
pickD t3 (K (.tup [(.int .i64 0), (.bool false)]) S2) (dR (loadV prog 38 (.ptr r0.1 0 0 0) S2) fun t4 =>
C 89 [t4] S2 fun t5 S6 =>
dR (unV .not t5) fun t7 =>
pickD t7 (K (.tup [(.int .i64 0), (.bool false)]) S6) (dR (lenV prog 24 a0 S6) fun t8 =>
loopD k [(.int .i64 0), (.bool false), (.int .i64 0)] S6 (m164_l0 C k K a1 (.ptr r0.1 0 0 0) a0 t8))))
theorem m164_eq : (fun (k : Nat) (a0 a1 a2 : V) (S : St) (K : KS) => callD prog dPl dLv (k + 1) 164 [a0, a1, a2] S K) = fun k a0 a1 a2 S K => m164 (callD prog dPl dLv k) k a0 a1 a2 S K := by kernel_rfl
noncomputable def m165_j0 (C : CallD) (k : Nat) (K : KS) (p0 p1 p6 p7 : V) (S : St) : An :=
dR (binV prog .mul 161 p6 p7) fun t4 =>
dR (binV prog .lss 3 p0 (.int .i64 0)) fun t5 =>
dR (binV prog .lss 3 p1 (.int .i64 0)) fun t6 =>
dIf (guardP prog 4 t5 t6) (dR (binV prog .neq 4 t5 t6) fun t7 =>
C 173 [t4, t7] S fun t8 S9 =>
tupD t8 0 fun t10 =>
tupD t8 1 fun t11 =>
dR (unV .not t11) fun t12 =>
pickD t12 (K (.tup [(.int .i64 0), (.int .i64 7)]) S9) (K (.tup [t10, (.int .i64 0)]) S9))
noncomputable def m165 (C : CallD) (k : Nat) (a0 a1 : V) (S : St) (K : KS) : An :=
C 172 [a0] S fun t0 S1 =>
C 172 [a1] S1 fun t2 S3 =>
dR (binV prog .gtr 161 t2 (.int .u64 0)) fun t13 =>
pickD t13 (dR (binV prog .quo 161 (.int .u64 9223372036854775808) t2) fun t14 =>
dR (binV prog .gtr 161 t0 t14) fun t15 =>
pickD t15 (K (.tup [(.int .i64 0), (.int .i64 7)]) S3) (m165_j0 C k K a0 a1 t0 t2 S3)) (m165_j0 C k K a0 a1 t0 t2 S3)
theorem m165_eq : (fun (k : Nat) (a0 a1 : V) (S : St) (K : KS) => callD prog dPl dLv (k + 1) 165 [a0, a1] S K) = fun k a0 a1 S K => m165 (callD prog dPl dLv k) k a0 a1 S K := by kernel_rfl
noncomputable def m167 (C : CallD) (k : Nat) (a0 : V) (S : St) (K : KS) : An :=
dR (binV prog .sub 3 a0 (.int .i64 1)) fun t0 =>
dR (binV prog .mul 3 (.int .i64 365) t0) fun t1 =>
dR (binV prog .quo 3 t0 (.int .i64 4)) fun t2 =>
dR (binV prog .add 3 t1 t2) fun t3 =>
dR (binV prog .quo 3 t0 (.int .i64 100)) fun t4 =>
dR (binV prog .sub 3 t3 t4) fun t5 =>
dR (binV prog .quo 3 t0 (.int .i64 400)) fun t6 =>
dR (binV prog .add 3 t5 t6) fun t7 =>
K t7 S
theorem m167_eq : (fun (k : Nat) (a0 : V) (S : St) (K : KS) => callD prog dPl dLv (k + 1) 167 [a0] S K) = fun k a0 S K => m167 (callD prog dPl dLv k) k a0 S K := by kernel_rfl
noncomputable def m172 (C : CallD) (k : Nat) (a0 : V) (S : St) (K : KS) : An :=
dR (binV prog .lss 3 a0 (.int .i64 0)) fun t0 =>
pickD t0 (dR (convertV prog 3 161 a0 none S) fun r1 =>
dR (unV .xor r1.1) fun t2 =>
dR (binV prog .add 161 t2 (.int .u64 1)) fun t3 =>
K t3 r1.2) (dR (convertV prog 3 161 a0 none S) fun r4 =>
K r4.1 r4.2)
theorem m172_eq : (fun (k : Nat) (a0 : V) (S : St) (K : KS) => callD prog dPl dLv (k + 1) 172 [a0] S K) = fun k a0 S K => m172 (callD prog dPl dLv k) k a0 S K := by kernel_rfl
noncomputable def m173 (C : CallD) (k : Nat) (a0 a1 : V) (S : St) (K : KS) : An :=
pickD a1 (dR (unV .xor a0) fun t0 =>
dR (binV prog .add 161 t0 (.int .u64 1)) fun t1 =>
dR (convertV prog 161 3 t1 none S) fun r2 =>
dR (binV prog .leq 161 a0 (.int .u64 9223372036854775808)) fun t3 =>
K (.tup [r2.1, t3]) r2.2) (dR (convertV prog 161 3 a0 none S) fun r4 =>
dR (binV prog .leq 161 a0 (.int .u64 9223372036854775807)) fun t5 =>
K (.tup [r4.1, t5]) r4.2)
theorem m173_eq : (fun (k : Nat) (a0 a1 : V) (S : St) (K : KS) => callD prog dPl dLv (k + 1) 173 [a0, a1] S K) = fun k a0 a1 S K => m173 (callD prog dPl dLv k) k a0 a1 S K := by kernel_rfl
theorem app22 (s x : V) (fr : Option Nat) (S : St) : appendV prog 22 s x fr S = appW 17 176 s x fr S := appendV_of (by kernel_rfl) s x fr S
theorem app24 (s x : V) (fr : Option Nat) (S : St) : appendV prog 24 s x fr S = appW 5 48 s x fr S := appendV_of (by kernel_rfl) s x fr S
theorem app25 (s x : V) (fr : Option Nat) (S : St) : appendV prog 25 s x fr S = appW 4 40 s x fr S := appendV_of (by kernel_rfl) s x fr S
theorem app26 (s x : V) (fr : Option Nat) (S : St) : appendV prog 26 s x fr S = appW 12 128 s x fr S := appendV_of (by kernel_rfl) s x fr S
theorem app27 (s x : V) (fr : Option Nat) (S : St) : appendV prog 27 s x fr S = appW 2 24 s x fr S := appendV_of (by kernel_rfl) s x fr S
theorem app28 (s x : V) (fr : Option Nat) (S : St) : appendV prog 28 s x fr S = appW 5 40 s x fr S := appendV_of (by kernel_rfl) s x fr S
theorem app49 (s x : V) (fr : Option Nat) (S : St) : appendV prog 49 s x fr S = appW 3 24 s x fr S := appendV_of (by kernel_rfl) s x fr S
theorem app58 (s x : V) (fr : Option Nat) (S : St) : appendV prog 58 s x fr S = appW 4 40 s x fr S := appendV_of (by kernel_rfl) s x fr S
theorem app63 (s x : V) (fr : Option Nat) (S : St) : appendV prog 63 s x fr S = appW 1 16 s x fr S := appendV_of (by kernel_rfl) s x fr S
theorem app64 (s x : V) (fr : Option Nat) (S : St) : appendV prog 64 s x fr S = appW 1 8 s x fr S := appendV_of (by kernel_rfl) s x fr S
theorem bd113 (parts : List (Nat × V)) : buildV prog 113 parts = buildW [.str [],.int .i64 0,.int .i64 0,.int .i64 0] [(0, 1), (1, 1), (2, 1), (3, 1)] parts := buildV_of (by kernel_rfl) parts
theorem bd115 (parts : List (Nat × V)) : buildV prog 115 parts = buildW [.str [],.str [],.int .i64 0,.int .i64 0] [(0, 1), (1, 1), (2, 1), (3, 1)] parts := buildV_of (by kernel_rfl) parts
theorem bd30 (parts : List (Nat × V)) : buildV prog 30 parts = buildW [.nils,.nils,.nils,.nils,.nils,.int .i64 0] [(0, 1), (1, 1), (2, 1), (3, 1), (4, 1), (5, 1)] parts := buildV_of (by kernel_rfl) parts
theorem bd34 (parts : List (Nat × V)) : buildV prog 34 parts = buildW [.int .i64 0,.int .i64 0,.int .i64 0] [(0, 1), (1, 1), (2, 1)] parts := buildV_of (by kernel_rfl) parts
theorem bd38 (parts : List (Nat × V)) : buildV prog 38 parts = buildW [.int .i64 0,.int .i64 0,.int .i64 0] [(0, 1), (1, 1), (2, 1)] parts := buildV_of (by kernel_rfl) parts
theorem bd40 (parts : List (Nat × V)) : buildV prog 40 parts = buildW [.str [],.int .i64 0,.int .i64 0,.int .i64 0,.int .i64 0] [(0, 1), (1, 3), (4, 1)] parts := buildV_of (by kernel_rfl) parts
theorem bd43 (parts : List (Nat × V)) : buildV prog 43 parts = buildW [.str [],.int .i64 0] [(0, 1), (1, 1)] parts := buildV_of (by kernel_rfl) parts
theorem bd45 (parts : List (Nat × V)) : buildV prog 45 parts = buildW [.int .i64 0,.str [],.int .i64 0,.str [],.int .i64 0,.int .i64 0,.int .i64 0,.int .i64 0,.int .i64 0,.int .i64 0,.int .i64 0,.nils,.str [],.int .i64 0,.int .i64 0] [(0, 1), (1, 1), (2, 1), (3, 5), (8, 3), (11, 1), (12, 2), (14, 1)] parts := buildV_of (by kernel_rfl) parts
theorem bd47 (parts : List (Nat × V)) : buildV prog 47 parts = buildW [.int .i64 0,.int .i64 0,.int .i64 0,.str [],.int .i64 0,.str [],.int .i64 0,.int .i64 0,.int .i64 0,.int .i64 0,.int .i64 0,.int .i64 0,.int .i64 0,.nils,.str [],.int .i64 0,.int .i64 0] [(0, 1), (1, 1), (2, 15)] parts := buildV_of (by kernel_rfl) parts
theorem bd60 (parts : List (Nat × V)) : buildV prog 60 parts = buildW [.int .i64 0,.int .i64 0,.int .i64 0,.nils] [(0, 1), (1, 1), (2, 1), (3, 1)] parts := buildV_of (by kernel_rfl) parts
theorem bd62 (parts : List (Nat × V)) : buildV prog 62 parts = buildW [.str [],.int .i64 0,.int .i64 0,.int .i64 0,.int .i64 0,.int .i64 0,.int .i64 0,.int .i64 0,.nils,.str [],.int .i64 0,.bool false] [(0, 2), (2, 3), (5, 4), (9, 2), (11, 1)] parts := buildV_of (by kernel_rfl) parts
theorem bd84 (parts : List (Nat × V)) : buildV prog 84 parts = buildW [.int .i64 0,.int .i64 0,.int .i64 0,.int .i64 0,.int .i64 0] [(0, 1), (1, 1), (2, 3)] parts := buildV_of (by kernel_rfl) parts
theorem bd92 (parts : List (Nat × V)) : buildV prog 92 parts = buildW [.str [],.int .i64 0,.int .i64 0,.bool false] [(0, 1), (1, 1), (2, 1), (3, 1)] parts := buildV_of (by kernel_rfl) parts
theorem bd96 (parts : List (Nat × V)) : buildV prog 96 parts = buildW [.str [],.int .i64 0] [(0, 1), (1, 1)] parts := buildV_of (by kernel_rfl) parts
theorem bs213 (len : Nat) (parts : List (Nat × V)) (fr : Option Nat) (S : St) : buildSliceV prog 213 len parts fr S = buildSliceW 1 [.nilp] len parts fr S := buildSliceV_of (by kernel_rfl) len parts fr S
theorem bs22 (len : Nat) (parts : List (Nat × V)) (fr : Option Nat) (S : St) : buildSliceV prog 22 len parts fr S = buildSliceW 17 [.int .i64 0,.int .i64 0,.int .i64 0,.str [],.int .i64 0,.str [],.int .i64 0,.int .i64 0,.int .i64 0,.int .i64 0,.int .i64 0,.int .i64 0,.int .i64 0,.nils,.str [],.int .i64 0,.int .i64 0] len parts fr S := buildSliceV_of (by kernel_rfl) len parts fr S
theorem bs24 (len : Nat) (parts : List (Nat × V)) (fr : Option Nat) (S : St) : buildSliceV prog 24 len parts fr S = buildSliceW 5 [.str [],.int .i64 0,.int .i64 0,.int .i64 0,.int .i64 0] len parts fr S := buildSliceV_of (by kernel_rfl) len parts fr S
theorem bs25 (len : Nat) (parts : List (Nat × V)) (fr : Option Nat) (S : St) : buildSliceV prog 25 len parts fr S = buildSliceW 4 [.str [],.int .i64 0,.int .i64 0,.bool false] len parts fr S := buildSliceV_of (by kernel_rfl) len parts fr S
theorem bs26 (len : Nat) (parts : List (Nat × V)) (fr : Option Nat) (S : St) : buildSliceV prog 26 len parts fr S = buildSliceW 12 [.str [],.int .i64 0,.int .i64 0,.int .i64 0,.int .i64 0,.int .i64 0,.int .i64 0,.int .i64 0,.nils,.str [],.int .i64 0,.bool false] len parts fr S := buildSliceV_of (by kernel_rfl) len parts fr S
theorem bs27 (len : Nat) (parts : List (Nat × V)) (fr : Option Nat) (S : St) : buildSliceV prog 27 len parts fr S = buildSliceW 2 [.str [],.int .i64 0] len parts fr S := buildSliceV_of (by kernel_rfl) len parts fr S
theorem bs28 (len : Nat) (parts : List (Nat × V)) (fr : Option Nat) (S : St) : buildSliceV prog 28 len parts fr S = buildSliceW 5 [.int .i64 0,.int .i64 0,.int .i64 0,.int .i64 0,.int .i64 0] len parts fr S := buildSliceV_of (by kernel_rfl) len parts fr S
theorem bs41 (len : Nat) (parts : List (Nat × V)) (fr : Option Nat) (S : St) : buildSliceV prog 41 len parts fr S = buildSliceW 4 [.str [],.str [],.int .i64 0,.int .i64 0] len parts fr S := buildSliceV_of (by kernel_rfl) len parts fr S
theorem bs49 (len : Nat) (parts : List (Nat × V)) (fr : Option Nat) (S : St) : buildSliceV prog 49 len parts fr S = buildSliceW 3 [.int .i64 0,.int .i64 0,.int .i64 0] len parts fr S := buildSliceV_of (by kernel_rfl) len parts fr S
theorem bs58 (len : Nat) (parts : List (Nat × V)) (fr : Option Nat) (S : St) : buildSliceV prog 58 len parts fr S = buildSliceW 4 [.str [],.int .i64 0,.int .i64 0,.int .i64 0] len parts fr S := buildSliceV_of (by kernel_rfl) len parts fr S
theorem bs63 (len : Nat) (parts : List (Nat × V)) (fr : Option Nat) (S : St) : buildSliceV prog 63 len parts fr S = buildSliceW 1 [.str []] len parts fr S := buildSliceV_of (by kernel_rfl) len parts fr S
theorem bs64 (len : Nat) (parts : List (Nat × V)) (fr : Option Nat) (S : St) : buildSliceV prog 64 len parts fr S = buildSliceW 1 [.int .i64 0] len parts fr S := buildSliceV_of (by kernel_rfl) len parts fr S
theorem cv161_3 (j : IntKind) (n : Int) (fr : Option Nat) (S : St) : convertV prog 161 3 (.int j n) fr S = .ok (.int .i64 (wr .i64 n), S) := convertV_of (by kernel_rfl) j n fr S
theorem cv3_161 (j : IntKind) (n : Int) (fr : Option Nat) (S : St) : convertV prog 3 161 (.int j n) fr S = .ok (.int .u64 (wr .u64 n), S) := convertV_of (by kernel_rfl) j n fr S
theorem eqt113 : (fun (a_0 : List UInt8) (a_1 : Int) (a_2 : Int) (a_3 : Int) (b_0 : List UInt8) (b_1 : Int) (b_2 : Int) (b_3 : Int) => eqT prog 100 113 (.agg [.str a_0, .int .i64 a_1, .int .i64 a_2, .int .i64 a_3]) (.agg [.str b_0, .int .i64 b_1, .int .i64 b_2, .int .i64 b_3])) = fun a_0 a_1 a_2 a_3 b_0 b_1 b_2 b_3 => (andR (.ok (beqB a_0 b_0)) (andR (.ok (decide (a_1 = b_1))) (andR (.ok (decide (a_2 = b_2))) (andR (.ok (decide (a_3 = b_3))) (.ok true))))) := by kernel_rfl
theorem eq113 (a_0 : List UInt8) (a_1 : Int) (a_2 : Int) (a_3 : Int) (b_0 : List UInt8) (b_1 : Int) (b_2 : Int) (b_3 : Int) : eqT prog 100 113 (.agg [.str a_0, .int .i64 a_1, .int .i64 a_2, .int .i64 a_3]) (.agg [.str b_0, .int .i64 b_1, .int .i64 b_2, .int .i64 b_3]) = .ok ((a_0 == b_0) && decide (a_1 = b_1) && decide (a_2 = b_2) && decide (a_3 = b_3)) := by
 refine (congrFun (congrFun (congrFun (congrFun (congrFun (congrFun (congrFun (congrFun eqt113 a_0) a_1) a_2) a_3) b_0) b_1) b_2) b_3).trans ?_
 simp only [andR_ok, beqB_eq, Bool.and_true, Bool.and_assoc]
theorem gd113 : (fun a b => guardP prog 113 (.agg a) (.agg b)) = fun _ _ => true := by kernel_rfl
theorem eqt34 : (fun (a_0 : Int) (a_1 : Int) (a_2 : Int) (b_0 : Int) (b_1 : Int) (b_2 : Int) => eqT prog 100 34 (.agg [.int .i64 a_0, .int .i64 a_1, .int .i64 a_2]) (.agg [.int .i64 b_0, .int .i64 b_1, .int .i64 b_2])) = fun a_0 a_1 a_2 b_0 b_1 b_2 => (andR (.ok (decide (a_0 = b_0))) (andR (.ok (decide (a_1 = b_1))) (andR (.ok (decide (a_2 = b_2))) (.ok true)))) := by kernel_rfl
theorem eq34 (a_0 : Int) (a_1 : Int) (a_2 : Int) (b_0 : Int) (b_1 : Int) (b_2 : Int) : eqT prog 100 34 (.agg [.int .i64 a_0, .int .i64 a_1, .int .i64 a_2]) (.agg [.int .i64 b_0, .int .i64 b_1, .int .i64 b_2]) = .ok (decide (a_0 = b_0) && decide (a_1 = b_1) && decide (a_2 = b_2)) := by
 refine (congrFun (congrFun (congrFun (congrFun (congrFun (congrFun eqt34 a_0) a_1) a_2) b_0) b_1) b_2).trans ?_
 simp only [andR_ok, beqB_eq, Bool.and_true, Bool.and_assoc]
theorem gd34 : (fun a b => guardP prog 34 (.agg a) (.agg b)) = fun _ _ => true := by kernel_rfl
theorem eqt38 : (fun (a_0 : Int) (a_1 : Int) (a_2 : Int) (b_0 : Int) (b_1 : Int) (b_2 : Int) => eqT prog 100 38 (.agg [.int .i64 a_0, .int .i64 a_1, .int .i64 a_2]) (.agg [.int .i64 b_0, .int .i64 b_1, .int .i64 b_2])) = fun a_0 a_1 a_2 b_0 b_1 b_2 => (andR (.ok (decide (a_0 = b_0))) (andR (.ok (decide (a_1 = b_1))) (andR (.ok (decide (a_2 = b_2))) (.ok true)))) := by kernel_rfl
theorem eq38 (a_0 : Int) (a_1 : Int) (a_2 : Int) (b_0 : Int) (b_1 : Int) (b_2 : Int) : eqT prog 100 38 (.agg [.int .i64 a_0, .int .i64 a_1, .int .i64 a_2]) (.agg [.int .i64 b_0, .int .i64 b_1, .int .i64 b_2]) = .ok (decide (a_0 = b_0) && decide (a_1 = b_1) && decide (a_2 = b_2)) := by
 refine (congrFun (congrFun (congrFun (congrFun (congrFun (congrFun eqt38 a_0) a_1) a_2) b_0) b_1) b_2).trans ?_
 simp only [andR_ok, beqB_eq, Bool.and_true, Bool.and_assoc]
theorem gd38 : (fun a b => guardP prog 38 (.agg a) (.agg b)) = fun _ _ => true := by kernel_rfl
theorem eqt43 : (fun (a_0 : List UInt8) (a_1 : Int) (b_0 : List UInt8) (b_1 : Int) => eqT prog 100 43 (.agg [.str a_0, .int .i64 a_1]) (.agg [.str b_0, .int .i64 b_1])) = fun a_0 a_1 b_0 b_1 => (andR (.ok (beqB a_0 b_0)) (andR (.ok (decide (a_1 = b_1))) (.ok true))) := by kernel_rfl
theorem eq43 (a_0 : List UInt8) (a_1 : Int) (b_0 : List UInt8) (b_1 : Int) : eqT prog 100 43 (.agg [.str a_0, .int .i64 a_1]) (.agg [.str b_0, .int .i64 b_1]) = .ok ((a_0 == b_0) && decide (a_1 = b_1)) := by
 refine (congrFun (congrFun (congrFun (congrFun eqt43 a_0) a_1) b_0) b_1).trans ?_
 simp only [andR_ok, beqB_eq, Bool.and_true, Bool.and_assoc]
theorem gd43 : (fun a b => guardP prog 43 (.agg a) (.agg b)) = fun _ _ => true := by kernel_rfl
theorem eqt96 : (fun (a_0 : List UInt8) (a_1 : Int) (b_0 : List UInt8) (b_1 : Int) => eqT prog 100 96 (.agg [.str a_0, .int .i64 a_1]) (.agg [.str b_0, .int .i64 b_1])) = fun a_0 a_1 b_0 b_1 => (andR (.ok (beqB a_0 b_0)) (andR (.ok (decide (a_1 = b_1))) (.ok true))) := by kernel_rfl
theorem eq96 (a_0 : List UInt8) (a_1 : Int) (b_0 : List UInt8) (b_1 : Int) : eqT prog 100 96 (.agg [.str a_0, .int .i64 a_1]) (.agg [.str b_0, .int .i64 b_1]) = .ok ((a_0 == b_0) && decide (a_1 = b_1)) := by
 refine (congrFun (congrFun (congrFun (congrFun eqt96 a_0) a_1) b_0) b_1).trans ?_
 simp only [andR_ok, beqB_eq, Bool.and_true, Bool.and_assoc]
theorem gd96 : (fun a b => guardP prog 96 (.agg a) (.agg b)) = fun _ _ => true := by kernel_rfl
theorem fa113_0 (p : V) : fieldAddrV prog 113 p 0 = advW 0 p := fieldAddrV_of (by kernel_rfl) p
theorem fa113_1 (p : V) : fieldAddrV prog 113 p 1 = advW 1 p := fieldAddrV_of (by kernel_rfl) p
theorem fa113_2 (p : V) : fieldAddrV prog 113 p 2 = advW 2 p := fieldAddrV_of (by kernel_rfl) p
theorem fa113_3 (p : V) : fieldAddrV prog 113 p 3 = advW 3 p := fieldAddrV_of (by kernel_rfl) p
theorem fa115_0 (p : V) : fieldAddrV prog 115 p 0 = advW 0 p := fieldAddrV_of (by kernel_rfl) p
theorem fa115_1 (p : V) : fieldAddrV prog 115 p 1 = advW 1 p := fieldAddrV_of (by kernel_rfl) p
theorem fa115_2 (p : V) : fieldAddrV prog 115 p 2 = advW 2 p := fieldAddrV_of (by kernel_rfl) p
theorem fa115_3 (p : V) : fieldAddrV prog 115 p 3 = advW 3 p := fieldAddrV_of (by kernel_rfl) p
theorem fa30_0 (p : V) : fieldAddrV prog 30 p 0 = advW 0 p := fieldAddrV_of (by kernel_rfl) p
theorem fa30_1 (p : V) : fieldAddrV prog 30 p 1 = advW 1 p := fieldAddrV_of (by kernel_rfl) p
theorem fa30_2 (p : V) : fieldAddrV prog 30 p 2 = advW 2 p := fieldAddrV_of (by kernel_rfl) p
theorem fa30_3 (p : V) : fieldAddrV prog 30 p 3 = advW 3 p := fieldAddrV_of (by kernel_rfl) p
theorem fa30_4 (p : V) : fieldAddrV prog 30 p 4 = advW 4 p := fieldAddrV_of (by kernel_rfl) p
theorem fa30_5 (p : V) : fieldAddrV prog 30 p 5 = advW 5 p := fieldAddrV_of (by kernel_rfl) p
theorem fa34_0 (p : V) : fieldAddrV prog 34 p 0 = advW 0 p := fieldAddrV_of (by kernel_rfl) p
theorem fa34_1 (p : V) : fieldAddrV prog 34 p 1 = advW 1 p := fieldAddrV_of (by kernel_rfl) p
theorem fa34_2 (p : V) : fieldAddrV prog 34 p 2 = advW 2 p := fieldAddrV_of (by kernel_rfl) p
theorem fa38_0 (p : V) : fieldAddrV prog 38 p 0 = advW 0 p := fieldAddrV_of (by kernel_rfl) p
theorem fa38_1 (p : V) : fieldAddrV prog 38 p 1 = advW 1 p := fieldAddrV_of (by kernel_rfl) p
theorem fa38_2 (p : V) : fieldAddrV prog 38 p 2 = advW 2 p := fieldAddrV_of (by kernel_rfl) p
theorem fa40_0 (p : V) : fieldAddrV prog 40 p 0 = advW 0 p := fieldAddrV_of (by kernel_rfl) p
theorem fa40_1 (p : V) : fieldAddrV prog 40 p 1 = advW 1 p := fieldAddrV_of (by kernel_rfl) p
theorem fa40_2 (p : V) : fieldAddrV prog 40 p 2 = advW 4 p := fieldAddrV_of (by kernel_rfl) p
theorem fa43_0 (p : V) : fieldAddrV prog 43 p 0 = advW 0 p := fieldAddrV_of (by kernel_rfl) p
theorem fa43_1 (p : V) : fieldAddrV prog 43 p 1 = advW 1 p := fieldAddrV_of (by kernel_rfl) p
theorem fa45_0 (p : V) : fieldAddrV prog 45 p 0 = advW 0 p := fieldAddrV_of (by kernel_rfl) p
theorem fa45_1 (p : V) : fieldAddrV prog 45 p 1 = advW 1 p := fieldAddrV_of (by kernel_rfl) p
theorem fa45_2 (p : V) : fieldAddrV prog 45 p 2 = advW 2 p := fieldAddrV_of (by kernel_rfl) p
theorem fa45_3 (p : V) : fieldAddrV prog 45 p 3 = advW 3 p := fieldAddrV_of (by kernel_rfl) p
theorem fa45_4 (p : V) : fieldAddrV prog 45 p 4 = advW 8 p := fieldAddrV_of (by kernel_rfl) p
theorem fa45_5 (p : V) : fieldAddrV prog 45 p 5 = advW 11 p := fieldAddrV_of (by kernel_rfl) p
theorem fa45_6 (p : V) : fieldAddrV prog 45 p 6 = advW 12 p := fieldAddrV_of (by kernel_rfl) p
theorem fa45_7 (p : V) : fieldAddrV prog 45 p 7 = advW 14 p := fieldAddrV_of (by kernel_rfl) p
theorem fa47_0 (p : V) : fieldAddrV prog 47 p 0 = advW 0 p := fieldAddrV_of (by kernel_rfl) p
theorem fa47_1 (p : V) : fieldAddrV prog 47 p 1 = advW 1 p := fieldAddrV_of (by kernel_rfl) p
theorem fa47_2 (p : V) : fieldAddrV prog 47 p 2 = advW 2 p := fieldAddrV_of (by kernel_rfl) p
theorem fa60_0 (p : V) : fieldAddrV prog 60 p 0 = advW 0 p := fieldAddrV_of (by kernel_rfl) p
theorem fa60_1 (p : V) : fieldAddrV prog 60 p 1 = advW 1 p := fieldAddrV_of (by kernel_rfl) p
theorem fa60_2 (p : V) : fieldAddrV prog 60 p 2 = advW 2 p := fieldAddrV_of (by kernel_rfl) p
theorem fa60_3 (p : V) : fieldAddrV prog 60 p 3 = advW 3 p := fieldAddrV_of (by kernel_rfl) p
theorem fa62_0 (p : V) : fieldAddrV prog 62 p 0 = advW 0 p := fieldAddrV_of (by kernel_rfl) p
theorem fa62_1 (p : V) : fieldAddrV prog 62 p 1 = advW 2 p := fieldAddrV_of (by kernel_rfl) p
theorem fa62_2 (p : V) : fieldAddrV prog 62 p 2 = advW 5 p := fieldAddrV_of (by kernel_rfl) p
theorem fa62_3 (p : V) : fieldAddrV prog 62 p 3 = advW 9 p := fieldAddrV_of (by kernel_rfl) p
theorem fa62_4 (p : V) : fieldAddrV prog 62 p 4 = advW 11 p := fieldAddrV_of (by kernel_rfl) p
theorem fa84_0 (p : V) : fieldAddrV prog 84 p 0 = advW 0 p := fieldAddrV_of (by kernel_rfl) p
theorem fa84_1 (p : V) : fieldAddrV prog 84 p 1 = advW 1 p := fieldAddrV_of (by kernel_rfl) p
theorem fa84_2 (p : V) : fieldAddrV prog 84 p 2 = advW 2 p := fieldAddrV_of (by kernel_rfl) p
theorem fa92_0 (p : V) : fieldAddrV prog 92 p 0 = advW 0 p := fieldAddrV_of (by kernel_rfl) p
theorem fa92_1 (p : V) : fieldAddrV prog 92 p 1 = advW 1 p := fieldAddrV_of (by kernel_rfl) p
theorem fa92_2 (p : V) : fieldAddrV prog 92 p 2 = advW 2 p := fieldAddrV_of (by kernel_rfl) p
theorem fa92_3 (p : V) : fieldAddrV prog 92 p 3 = advW 3 p := fieldAddrV_of (by kernel_rfl) p
theorem fa96_0 (p : V) : fieldAddrV prog 96 p 0 = advW 0 p := fieldAddrV_of (by kernel_rfl) p
theorem fa96_1 (p : V) : fieldAddrV prog 96 p 1 = advW 1 p := fieldAddrV_of (by kernel_rfl) p
theorem ix213 (x i : V) : indexAddrV prog 213 x i = idxW 1 x i := indexAddrV_of (by kernel_rfl) x i
theorem ix22 (x i : V) : indexAddrV prog 22 x i = idxW 17 x i := indexAddrV_of (by kernel_rfl) x i
theorem ix24 (x i : V) : indexAddrV prog 24 x i = idxW 5 x i := indexAddrV_of (by kernel_rfl) x i
theorem ix25 (x i : V) : indexAddrV prog 25 x i = idxW 4 x i := indexAddrV_of (by kernel_rfl) x i
theorem ix26 (x i : V) : indexAddrV prog 26 x i = idxW 12 x i := indexAddrV_of (by kernel_rfl) x i
theorem ix27 (x i : V) : indexAddrV prog 27 x i = idxW 2 x i := indexAddrV_of (by kernel_rfl) x i
theorem ix28 (x i : V) : indexAddrV prog 28 x i = idxW 5 x i := indexAddrV_of (by kernel_rfl) x i
theorem ix41 (x i : V) : indexAddrV prog 41 x i = idxW 4 x i := indexAddrV_of (by kernel_rfl) x i
theorem ix49 (x i : V) : indexAddrV prog 49 x i = idxW 3 x i := indexAddrV_of (by kernel_rfl) x i
theorem ix58 (x i : V) : indexAddrV prog 58 x i = idxW 4 x i := indexAddrV_of (by kernel_rfl) x i
theorem ix63 (x i : V) : indexAddrV prog 63 x i = idxW 1 x i := indexAddrV_of (by kernel_rfl) x i
theorem ix64 (x i : V) : indexAddrV prog 64 x i = idxW 1 x i := indexAddrV_of (by kernel_rfl) x i
theorem ld113 (p : V) (S : St) : loadV prog 113 p S = loadW (some 4) p S := loadV_of (by kernel_rfl) p S
theorem ld115 (p : V) (S : St) : loadV prog 115 p S = loadW (some 4) p S := loadV_of (by kernel_rfl) p S
theorem ld204 (p : V) (S : St) : loadV prog 204 p S = loadW none p S := loadV_of (by kernel_rfl) p S
theorem ld24 (p : V) (S : St) : loadV prog 24 p S = loadW none p S := loadV_of (by kernel_rfl) p S
theorem ld25 (p : V) (S : St) : loadV prog 25 p S = loadW none p S := loadV_of (by kernel_rfl) p S
theorem ld26 (p : V) (S : St) : loadV prog 26 p S = loadW none p S := loadV_of (by kernel_rfl) p S
theorem ld27 (p : V) (S : St) : loadV prog 27 p S = loadW none p S := loadV_of (by kernel_rfl) p S
theorem ld28 (p : V) (S : St) : loadV prog 28 p S = loadW none p S := loadV_of (by kernel_rfl) p S
theorem ld3 (p : V) (S : St) : loadV prog 3 p S = loadW none p S := loadV_of (by kernel_rfl) p S
theorem ld30 (p : V) (S : St) : loadV prog 30 p S = loadW (some 6) p S := loadV_of (by kernel_rfl) p S
theorem ld32 (p : V) (S : St) : loadV prog 32 p S = loadW none p S := loadV_of (by kernel_rfl) p S
theorem ld34 (p : V) (S : St) : loadV prog 34 p S = loadW (some 3) p S := loadV_of (by kernel_rfl) p S
theorem ld38 (p : V) (S : St) : loadV prog 38 p S = loadW (some 3) p S := loadV_of (by kernel_rfl) p S
theorem ld4 (p : V) (S : St) : loadV prog 4 p S = loadW none p S := loadV_of (by kernel_rfl) p S
theorem ld40 (p : V) (S : St) : loadV prog 40 p S = loadW (some 5) p S := loadV_of (by kernel_rfl) p S
theorem ld41 (p : V) (S : St) : loadV prog 41 p S = loadW none p S := loadV_of (by kernel_rfl) p S
theorem ld43 (p : V) (S : St) : loadV prog 43 p S = loadW (some 2) p S := loadV_of (by kernel_rfl) p S
theorem ld45 (p : V) (S : St) : loadV prog 45 p S = loadW (some 15) p S := loadV_of (by kernel_rfl) p S
theorem ld47 (p : V) (S : St) : loadV prog 47 p S = loadW (some 17) p S := loadV_of (by kernel_rfl) p S
theorem ld58 (p : V) (S : St) : loadV prog 58 p S = loadW none p S := loadV_of (by kernel_rfl) p S
theorem ld60 (p : V) (S : St) : loadV prog 60 p S = loadW (some 4) p S := loadV_of (by kernel_rfl) p S
theorem ld62 (p : V) (S : St) : loadV prog 62 p S = loadW (some 12) p S := loadV_of (by kernel_rfl) p S
theorem ld84 (p : V) (S : St) : loadV prog 84 p S = loadW (some 5) p S := loadV_of (by kernel_rfl) p S
theorem ld9 (p : V) (S : St) : loadV prog 9 p S = loadW none p S := loadV_of (by kernel_rfl) p S
theorem ld92 (p : V) (S : St) : loadV prog 92 p S = loadW (some 4) p S := loadV_of (by kernel_rfl) p S
theorem ld96 (p : V) (S : St) : loadV prog 96 p S = loadW (some 2) p S := loadV_of (by kernel_rfl) p S
theorem len213 (x : V) (S : St) : lenV prog 213 x S = lenW x := lenV_of (by kernel_rfl) x S
theorem len22 (x : V) (S : St) : lenV prog 22 x S = lenW x := lenV_of (by kernel_rfl) x S
theorem len24 (x : V) (S : St) : lenV prog 24 x S = lenW x := lenV_of (by kernel_rfl) x S
theorem len25 (x : V) (S : St) : lenV prog 25 x S = lenW x := lenV_of (by kernel_rfl) x S
theorem len26 (x : V) (S : St) : lenV prog 26 x S = lenW x := lenV_of (by kernel_rfl) x S
theorem len27 (x : V) (S : St) : lenV prog 27 x S = lenW x := lenV_of (by kernel_rfl) x S
theorem len28 (x : V) (S : St) : lenV prog 28 x S = lenW x := lenV_of (by kernel_rfl) x S
theorem len41 (x : V) (S : St) : lenV prog 41 x S = lenW x := lenV_of (by kernel_rfl) x S
theorem len49 (x : V) (S : St) : lenV prog 49 x S = lenW x := lenV_of (by kernel_rfl) x S
theorem len58 (x : V) (S : St) : lenV prog 58 x S = lenW x := lenV_of (by kernel_rfl) x S
theorem len63 (x : V) (S : St) : lenV prog 63 x S = lenW x := lenV_of (by kernel_rfl) x S
theorem len64 (x : V) (S : St) : lenV prog 64 x S = lenW x := lenV_of (by kernel_rfl) x S
theorem len9 (s : List UInt8) (S : St) : lenV prog 9 (.str s) S = .ok (.int .i64 s.length) := lenV_text (by kernel_rfl) s S
theorem sl22 (a ver off len : Nat) (lo hi : Option V) : sliceV prog 22 (.sl a ver 17 off len) lo hi = (match bounds len lo hi with
      | .ok (l, h) => .ok (.sl a ver 17 (off + l) (h - l))
      | .error e => .error e) := sliceV_of (by kernel_rfl) a ver off len lo hi
theorem sl26 (a ver off len : Nat) (lo hi : Option V) : sliceV prog 26 (.sl a ver 12 off len) lo hi = (match bounds len lo hi with
      | .ok (l, h) => .ok (.sl a ver 12 (off + l) (h - l))
      | .error e => .error e) := sliceV_of (by kernel_rfl) a ver off len lo hi
theorem sli26 (es : List (List V)) (hl : allLen 12 es = true) (lo hi : Option V) : sliceV prog 26 (.imm es) lo hi = (match bounds es.length lo hi with
      | .ok (l, h) => .ok (.imm ((es.take h).drop l))
      | .error e => .error e) := sliceV_imm (by kernel_rfl) es hl lo hi
theorem sl41 (a ver off len : Nat) (lo hi : Option V) : sliceV prog 41 (.sl a ver 4 off len) lo hi = (match bounds len lo hi with
      | .ok (l, h) => .ok (.sl a ver 4 (off + l) (h - l))
      | .error e => .error e) := sliceV_of (by kernel_rfl) a ver off len lo hi
theorem sli41 (es : List (List V)) (hl : allLen 4 es = true) (lo hi : Option V) : sliceV prog 41 (.imm es) lo hi = (match bounds es.length lo hi with
      | .ok (l, h) => .ok (.imm ((es.take h).drop l))
      | .error e => .error e) := sliceV_imm (by kernel_rfl) es hl lo hi
theorem st113 (p x : V) (S : St) : storeV prog 113 p x S = storeW 4 p x S := storeV_of (by kernel_rfl) p x S
theorem st115 (p x : V) (S : St) : storeV prog 115 p x S = storeW 4 p x S := storeV_of (by kernel_rfl) p x S
theorem st24 (p x : V) (S : St) : storeV prog 24 p x S = storeW 1 p x S := storeV_of (by kernel_rfl) p x S
theorem st25 (p x : V) (S : St) : storeV prog 25 p x S = storeW 1 p x S := storeV_of (by kernel_rfl) p x S
theorem st26 (p x : V) (S : St) : storeV prog 26 p x S = storeW 1 p x S := storeV_of (by kernel_rfl) p x S
theorem st27 (p x : V) (S : St) : storeV prog 27 p x S = storeW 1 p x S := storeV_of (by kernel_rfl) p x S
theorem st28 (p x : V) (S : St) : storeV prog 28 p x S = storeW 1 p x S := storeV_of (by kernel_rfl) p x S
theorem st3 (p x : V) (S : St) : storeV prog 3 p x S = storeW 1 p x S := storeV_of (by kernel_rfl) p x S
theorem st30 (p x : V) (S : St) : storeV prog 30 p x S = storeW 6 p x S := storeV_of (by kernel_rfl) p x S
theorem st34 (p x : V) (S : St) : storeV prog 34 p x S = storeW 3 p x S := storeV_of (by kernel_rfl) p x S
theorem st38 (p x : V) (S : St) : storeV prog 38 p x S = storeW 3 p x S := storeV_of (by kernel_rfl) p x S
theorem st4 (p x : V) (S : St) : storeV prog 4 p x S = storeW 1 p x S := storeV_of (by kernel_rfl) p x S
theorem st40 (p x : V) (S : St) : storeV prog 40 p x S = storeW 5 p x S := storeV_of (by kernel_rfl) p x S
theorem st41 (p x : V) (S : St) : storeV prog 41 p x S = storeW 1 p x S := storeV_of (by kernel_rfl) p x S
theorem st43 (p x : V) (S : St) : storeV prog 43 p x S = storeW 2 p x S := storeV_of (by kernel_rfl) p x S
theorem st47 (p x : V) (S : St) : storeV prog 47 p x S = storeW 17 p x S := storeV_of (by kernel_rfl) p x S
theorem st58 (p x : V) (S : St) : storeV prog 58 p x S = storeW 1 p x S := storeV_of (by kernel_rfl) p x S
theorem st60 (p x : V) (S : St) : storeV prog 60 p x S = storeW 4 p x S := storeV_of (by kernel_rfl) p x S
theorem st62 (p x : V) (S : St) : storeV prog 62 p x S = storeW 12 p x S := storeV_of (by kernel_rfl) p x S
theorem st84 (p x : V) (S : St) : storeV prog 84 p x S = storeW 5 p x S := storeV_of (by kernel_rfl) p x S
theorem st92 (p x : V) (S : St) : storeV prog 92 p x S = storeW 4 p x S := storeV_of (by kernel_rfl) p x S
theorem st96 (p x : V) (S : St) : storeV prog 96 p x S = storeW 2 p x S := storeV_of (by kernel_rfl) p x S
theorem e5 {a0 : V} {S : St} {Q : V → St → Prop} (h : Ok (fun k K => m5 (callD prog dPl dLv k) k a0 S K) Q) : Does prog dPl dLv 5 [a0] S Q :=
 Does.enter (m := fun C k K => m5 C k a0 S K) (fun k K => congrFun (congrFun (congrFun (congrFun m5_eq k) a0) S) K) h
theorem e8 {a0 : V} {S : St} {Q : V → St → Prop} (h : Ok (fun k K => m8 (callD prog dPl dLv k) k a0 S K) Q) : Does prog dPl dLv 8 [a0] S Q :=
 Does.enter (m := fun C k K => m8 C k a0 S K) (fun k K => congrFun (congrFun (congrFun (congrFun m8_eq k) a0) S) K) h
theorem e9 {a0 : V} {S : St} {Q : V → St → Prop} (h : Ok (fun k K => m9 (callD prog dPl dLv k) k a0 S K) Q) : Does prog dPl dLv 9 [a0] S Q :=
 Does.enter (m := fun C k K => m9 C k a0 S K) (fun k K => congrFun (congrFun (congrFun (congrFun m9_eq k) a0) S) K) h
theorem e10 {a0 a1 : V} {S : St} {Q : V → St → Prop} (h : Ok (fun k K => m10 (callD prog dPl dLv k) k a0 a1 S K) Q) : Does prog dPl dLv 10 [a0, a1] S Q :=
 Does.enter (m := fun C k K => m10 C k a0 a1 S K) (fun k K => congrFun (congrFun (congrFun (congrFun (congrFun m10_eq k) a0) a1) S) K) h
theorem e12 {a0 : V} {S : St} {Q : V → St → Prop} (h : Ok (fun k K => m12 (callD prog dPl dLv k) k a0 S K) Q) : Does prog dPl dLv 12 [a0] S Q :=
 Does.enter (m := fun C k K => m12 C k a0 S K) (fun k K => congrFun (congrFun (congrFun (congrFun m12_eq k) a0) S) K) h
theorem e13 {a0 a1 : V} {S : St} {Q : V → St → Prop} (h : Ok (fun k K => m13 (callD prog dPl dLv k) k a0 a1 S K) Q) : Does prog dPl dLv 13 [a0, a1] S Q :=
 Does.enter (m := fun C k K => m13 C k a0 a1 S K) (fun k K => congrFun (congrFun (congrFun (congrFun (congrFun m13_eq k) a0) a1) S) K) h
theorem e14 {S : St} {Q : V → St → Prop} (h : Ok (fun k K => m14 (callD prog dPl dLv k) k S K) Q) : Does prog dPl dLv 14 [] S Q :=
 Does.enter (m := fun C k K => m14 C k S K) (fun k K => congrFun (congrFun (congrFun m14_eq k) S) K) h
theorem e16 {a0 a1 : V} {S : St} {Q : V → St → Prop} (h : Ok (fun k K => m16 (callD prog dPl dLv k) k a0 a1 S K) Q) : Does prog dPl dLv 16 [a0, a1] S Q :=
 Does.enter (m := fun C k K => m16 C k a0 a1 S K) (fun k K => congrFun (congrFun (congrFun (congrFun (congrFun m16_eq k) a0) a1) S) K) h
theorem e19 {a0 a1 : V} {S : St} {Q : V → St → Prop} (h : Ok (fun k K => m19 (callD prog dPl dLv k) k a0 a1 S K) Q) : Does prog dPl dLv 19 [a0, a1] S Q :=
 Does.enter (m := fun C k K => m19 C k a0 a1 S K) (fun k K => congrFun (congrFun (congrFun (congrFun (congrFun m19_eq k) a0) a1) S) K) h
theorem e20 {S : St} {Q : V → St → Prop} (h : Ok (fun k K => m20 (callD prog dPl dLv k) k S K) Q) : Does prog dPl dLv 20 [] S Q :=
 Does.enter (m := fun C k K => m20 C k S K) (fun k K => congrFun (congrFun (congrFun m20_eq k) S) K) h
theorem e23 {a0 : V} {S : St} {Q : V → St → Prop} (h : Ok (fun k K => m23 (callD prog dPl dLv k) k a0 S K) Q) : Does prog dPl dLv 23 [a0] S Q :=
 Does.enter (m := fun C k K => m23 C k a0 S K) (fun k K => congrFun (congrFun (congrFun (congrFun m23_eq k) a0) S) K) h
theorem e27 {a0 : V} {S : St} {Q : V → St → Prop} (h : Ok (fun k K => m27 (callD prog dPl dLv k) k a0 S K) Q) : Does prog dPl dLv 27 [a0] S Q :=
 Does.enter (m := fun C k K => m27 C k a0 S K) (fun k K => congrFun (congrFun (congrFun (congrFun m27_eq k) a0) S) K) h
theorem e28 {a0 : V} {S : St} {Q : V → St → Prop} (h : Ok (fun k K => m28 (callD prog dPl dLv k) k a0 S K) Q) : Does prog dPl dLv 28 [a0] S Q :=
 Does.enter (m := fun C k K => m28 C k a0 S K) (fun k K => congrFun (congrFun (congrFun (congrFun m28_eq k) a0) S) K) h
theorem e29 {a0 a1 : V} {S : St} {Q : V → St → Prop} (h : Ok (fun k K => m29 (callD prog dPl dLv k) k a0 a1 S K) Q) : Does prog dPl dLv 29 [a0, a1] S Q :=
 Does.enter (m := fun C k K => m29 C k a0 a1 S K) (fun k K => congrFun (congrFun (congrFun (congrFun (congrFun m29_eq k) a0) a1) S) K) h
theorem e30 {a0 : V} {S : St} {Q : V → St → Prop} (h : Ok (fun k K => m30 (callD prog dPl dLv k) k a0 S K) Q) : Does prog dPl dLv 30 [a0] S Q :=
 Does.enter (m := fun C k K => m30 C k a0 S K) (fun k K => congrFun (congrFun (congrFun (congrFun m30_eq k) a0) S) K) h
theorem e31 {a0 : V} {S : St} {Q : V → St → Prop} (h : Ok (fun k K => m31 (callD prog dPl dLv k) k a0 S K) Q) : Does prog dPl dLv 31 [a0] S Q :=
 Does.enter (m := fun C k K => m31 C k a0 S K) (fun k K => congrFun (congrFun (congrFun (congrFun m31_eq k) a0) S) K) h
theorem e32 {a0 : V} {S : St} {Q : V → St → Prop} (h : Ok (fun k K => m32 (callD prog dPl dLv k) k a0 S K) Q) : Does prog dPl dLv 32 [a0] S Q :=
 Does.enter (m := fun C k K => m32 C k a0 S K) (fun k K => congrFun (congrFun (congrFun (congrFun m32_eq k) a0) S) K) h
theorem e33 {a0 : V} {S : St} {Q : V → St → Prop} (h : Ok (fun k K => m33 (callD prog dPl dLv k) k a0 S K) Q) : Does prog dPl dLv 33 [a0] S Q :=
 Does.enter (m := fun C k K => m33 C k a0 S K) (fun k K => congrFun (congrFun (congrFun (congrFun m33_eq k) a0) S) K) h
theorem e34 {a0 a1 a2 : V} {S : St} {Q : V → St → Prop} (h : Ok (fun k K => m34 (callD prog dPl dLv k) k a0 a1 a2 S K) Q) : Does prog dPl dLv 34 [a0, a1, a2] S Q :=
 Does.enter (m := fun C k K => m34 C k a0 a1 a2 S K) (fun k K => congrFun (congrFun (congrFun (congrFun (congrFun (congrFun m34_eq k) a0) a1) a2) S) K) h
theorem e35 {a0 a1 : V} {S : St} {Q : V → St → Prop} (h : Ok (fun k K => m35 (callD prog dPl dLv k) k a0 a1 S K) Q) : Does prog dPl dLv 35 [a0, a1] S Q :=
 Does.enter (m := fun C k K => m35 C k a0 a1 S K) (fun k K => congrFun (congrFun (congrFun (congrFun (congrFun m35_eq k) a0) a1) S) K) h
theorem e36 {a0 a1 a2 a3 : V} {S : St} {Q : V → St → Prop} (h : Ok (fun k K => m36 (callD prog dPl dLv k) k a0 a1 a2 a3 S K) Q) : Does prog dPl dLv 36 [a0, a1, a2, a3] S Q :=
 Does.enter (m := fun C k K => m36 C k a0 a1 a2 a3 S K) (fun k K => congrFun (congrFun (congrFun (congrFun (congrFun (congrFun (congrFun m36_eq k) a0) a1) a2) a3) S) K) h
theorem e46 {S : St} {Q : V → St → Prop} (h : Ok (fun k K => m46 (callD prog dPl dLv k) k S K) Q) : Does prog dPl dLv 46 [] S Q :=
 Does.enter (m := fun C k K => m46 C k S K) (fun k K => congrFun (congrFun (congrFun m46_eq k) S) K) h
theorem e47 {a0 : V} {S : St} {Q : V → St → Prop} (h : Ok (fun k K => m47 (callD prog dPl dLv k) k a0 S K) Q) : Does prog dPl dLv 47 [a0] S Q :=
 Does.enter (m := fun C k K => m47 C k a0 S K) (fun k K => congrFun (congrFun (congrFun (congrFun m47_eq k) a0) S) K) h
theorem e48 {a0 : V} {S : St} {Q : V → St → Prop} (h : Ok (fun k K => m48 (callD prog dPl dLv k) k a0 S K) Q) : Does prog dPl dLv 48 [a0] S Q :=
 Does.enter (m := fun C k K => m48 C k a0 S K) (fun k K => congrFun (congrFun (congrFun (congrFun m48_eq k) a0) S) K) h
theorem e49 {a0 : V} {S : St} {Q : V → St → Prop} (h : Ok (fun k K => m49 (callD prog dPl dLv k) k a0 S K) Q) : Does prog dPl dLv 49 [a0] S Q :=
 Does.enter (m := fun C k K => m49 C k a0 S K) (fun k K => congrFun (congrFun (congrFun (congrFun m49_eq k) a0) S) K) h
theorem e50 {a0 : V} {S : St} {Q : V → St → Prop} (h : Ok (fun k K => m50 (callD prog dPl dLv k) k a0 S K) Q) : Does prog dPl dLv 50 [a0] S Q :=
 Does.enter (m := fun C k K => m50 C k a0 S K) (fun k K => congrFun (congrFun (congrFun (congrFun m50_eq k) a0) S) K) h
theorem e51 {a0 : V} {S : St} {Q : V → St → Prop} (h : Ok (fun k K => m51 (callD prog dPl dLv k) k a0 S K) Q) : Does prog dPl dLv 51 [a0] S Q :=
 Does.enter (m := fun C k K => m51 C k a0 S K) (fun k K => congrFun (congrFun (congrFun (congrFun m51_eq k) a0) S) K) h
theorem e52 {a0 : V} {S : St} {Q : V → St → Prop} (h : Ok (fun k K => m52 (callD prog dPl dLv k) k a0 S K) Q) : Does prog dPl dLv 52 [a0] S Q :=
 Does.enter (m := fun C k K => m52 C k a0 S K) (fun k K => congrFun (congrFun (congrFun (congrFun m52_eq k) a0) S) K) h
theorem e53 {a0 a1 : V} {S : St} {Q : V → St → Prop} (h : Ok (fun k K => m53 (callD prog dPl dLv k) k a0 a1 S K) Q) : Does prog dPl dLv 53 [a0, a1] S Q :=
 Does.enter (m := fun C k K => m53 C k a0 a1 S K) (fun k K => congrFun (congrFun (congrFun (congrFun (congrFun m53_eq k) a0) a1) S) K) h
theorem e63 {a0 : V} {S : St} {Q : V → St → Prop} (h : Ok (fun k K => m63 (callD prog dPl dLv k) k a0 S K) Q) : Does prog dPl dLv 63 [a0] S Q :=
 Does.enter (m := fun C k K => m63 C k a0 S K) (fun k K => congrFun (congrFun (congrFun (congrFun m63_eq k) a0) S) K) h
theorem e64 {a0 a1 : V} {S : St} {Q : V → St → Prop} (h : Ok (fun k K => m64 (callD prog dPl dLv k) k a0 a1 S K) Q) : Does prog dPl dLv 64 [a0, a1] S Q :=
 Does.enter (m := fun C k K => m64 C k a0 a1 S K) (fun k K => congrFun (congrFun (congrFun (congrFun (congrFun m64_eq k) a0) a1) S) K) h
theorem e65 {a0 : V} {S : St} {Q : V → St → Prop} (h : Ok (fun k K => m65 (callD prog dPl dLv k) k a0 S K) Q) : Does prog dPl dLv 65 [a0] S Q :=
 Does.enter (m := fun C k K => m65 C k a0 S K) (fun k K => congrFun (congrFun (congrFun (congrFun m65_eq k) a0) S) K) h
theorem e66 {a0 a1 : V} {S : St} {Q : V → St → Prop} (h : Ok (fun k K => m66 (callD prog dPl dLv k) k a0 a1 S K) Q) : Does prog dPl dLv 66 [a0, a1] S Q :=
 Does.enter (m := fun C k K => m66 C k a0 a1 S K) (fun k K => congrFun (congrFun (congrFun (congrFun (congrFun m66_eq k) a0) a1) S) K) h
theorem e67 {a0 a1 a2 : V} {S : St} {Q : V → St → Prop} (h : Ok (fun k K => m67 (callD prog dPl dLv k) k a0 a1 a2 S K) Q) : Does prog dPl dLv 67 [a0, a1, a2] S Q :=
 Does.enter (m := fun C k K => m67 C k a0 a1 a2 S K) (fun k K => congrFun (congrFun (congrFun (congrFun (congrFun (congrFun m67_eq k) a0) a1) a2) S) K) h
theorem e68 {a0 a1 a2 : V} {S : St} {Q : V → St → Prop} (h : Ok (fun k K => m68 (callD prog dPl dLv k) k a0 a1 a2 S K) Q) : Does prog dPl dLv 68 [a0, a1, a2] S Q :=
 Does.enter (m := fun C k K => m68 C k a0 a1 a2 S K) (fun k K => congrFun (congrFun (congrFun (congrFun (congrFun (congrFun m68_eq k) a0) a1) a2) S) K) h
theorem e69 {a0 a1 : V} {S : St} {Q : V → St → Prop} (h : Ok (fun k K => m69 (callD prog dPl dLv k) k a0 a1 S K) Q) : Does prog dPl dLv 69 [a0, a1] S Q :=
 Does.enter (m := fun C k K => m69 C k a0 a1 S K) (fun k K => congrFun (congrFun (congrFun (congrFun (congrFun m69_eq k) a0) a1) S) K) h
theorem e70 {a0 a1 : V} {S : St} {Q : V → St → Prop} (h : Ok (fun k K => m70 (callD prog dPl dLv k) k a0 a1 S K) Q) : Does prog dPl dLv 70 [a0, a1] S Q :=
 Does.enter (m := fun C k K => m70 C k a0 a1 S K) (fun k K => congrFun (congrFun (congrFun (congrFun (congrFun m70_eq k) a0) a1) S) K) h
theorem e71 {a0 a1 a2 : V} {S : St} {Q : V → St → Prop} (h : Ok (fun k K => m71 (callD prog dPl dLv k) k a0 a1 a2 S K) Q) : Does prog dPl dLv 71 [a0, a1, a2] S Q :=
 Does.enter (m := fun C k K => m71 C k a0 a1 a2 S K) (fun k K => congrFun (congrFun (congrFun (congrFun (congrFun (congrFun m71_eq k) a0) a1) a2) S) K) h
theorem e72 {a0 a1 : V} {S : St} {Q : V → St → Prop} (h : Ok (fun k K => m72 (callD prog dPl dLv k) k a0 a1 S K) Q) : Does prog dPl dLv 72 [a0, a1] S Q :=
 Does.enter (m := fun C k K => m72 C k a0 a1 S K) (fun k K => congrFun (congrFun (congrFun (congrFun (congrFun m72_eq k) a0) a1) S) K) h
theorem e73 {a0 a1 : V} {S : St} {Q : V → St → Prop} (h : Ok (fun k K => m73 (callD prog dPl dLv k) k a0 a1 S K) Q) : Does prog dPl dLv 73 [a0, a1] S Q :=
 Does.enter (m := fun C k K => m73 C k a0 a1 S K) (fun k K => congrFun (congrFun (congrFun (congrFun (congrFun m73_eq k) a0) a1) S) K) h
theorem e74 {a0 a1 : V} {S : St} {Q : V → St → Prop} (h : Ok (fun k K => m74 (callD prog dPl dLv k) k a0 a1 S K) Q) : Does prog dPl dLv 74 [a0, a1] S Q :=
 Does.enter (m := fun C k K => m74 C k a0 a1 S K) (fun k K => congrFun (congrFun (congrFun (congrFun (congrFun m74_eq k) a0) a1) S) K) h
theorem e75 {a0 a1 a2 : V} {S : St} {Q : V → St → Prop} (h : Ok (fun k K => m75 (callD prog dPl dLv k) k a0 a1 a2 S K) Q) : Does prog dPl dLv 75 [a0, a1, a2] S Q :=
 Does.enter (m := fun C k K => m75 C k a0 a1 a2 S K) (fun k K => congrFun (congrFun (congrFun (congrFun (congrFun (congrFun m75_eq k) a0) a1) a2) S) K) h
theorem e76 {a0 a1 : V} {S : St} {Q : V → St → Prop} (h : Ok (fun k K => m76 (callD prog dPl dLv k) k a0 a1 S K) Q) : Does prog dPl dLv 76 [a0, a1] S Q :=
 Does.enter (m := fun C k K => m76 C k a0 a1 S K) (fun k K => congrFun (congrFun (congrFun (congrFun (congrFun m76_eq k) a0) a1) S) K) h
theorem e86 {a0 : V} {S : St} {Q : V → St → Prop} (h : Ok (fun k K => m86 (callD prog dPl dLv k) k a0 S K) Q) : Does prog dPl dLv 86 [a0] S Q :=
 Does.enter (m := fun C k K => m86 C k a0 S K) (fun k K => congrFun (congrFun (congrFun (congrFun m86_eq k) a0) S) K) h
theorem e87 {a0 a1 : V} {S : St} {Q : V → St → Prop} (h : Ok (fun k K => m87 (callD prog dPl dLv k) k a0 a1 S K) Q) : Does prog dPl dLv 87 [a0, a1] S Q :=
 Does.enter (m := fun C k K => m87 C k a0 a1 S K) (fun k K => congrFun (congrFun (congrFun (congrFun (congrFun m87_eq k) a0) a1) S) K) h
theorem e88 {a0 : V} {S : St} {Q : V → St → Prop} (h : Ok (fun k K => m88 (callD prog dPl dLv k) k a0 S K) Q) : Does prog dPl dLv 88 [a0] S Q :=
 Does.enter (m := fun C k K => m88 C k a0 S K) (fun k K => congrFun (congrFun (congrFun (congrFun m88_eq k) a0) S) K) h
theorem e89 {a0 : V} {S : St} {Q : V → St → Prop} (h : Ok (fun k K => m89 (callD prog dPl dLv k) k a0 S K) Q) : Does prog dPl dLv 89 [a0] S Q :=
 Does.enter (m := fun C k K => m89 C k a0 S K) (fun k K => congrFun (congrFun (congrFun (congrFun m89_eq k) a0) S) K) h
theorem e90 {a0 : V} {S : St} {Q : V → St → Prop} (h : Ok (fun k K => m90 (callD prog dPl dLv k) k a0 S K) Q) : Does prog dPl dLv 90 [a0] S Q :=
 Does.enter (m := fun C k K => m90 C k a0 S K) (fun k K => congrFun (congrFun (congrFun (congrFun m90_eq k) a0) S) K) h
theorem e91 {a0 a1 : V} {S : St} {Q : V → St → Prop} (h : Ok (fun k K => m91 (callD prog dPl dLv k) k a0 a1 S K) Q) : Does prog dPl dLv 91 [a0, a1] S Q :=
 Does.enter (m := fun C k K => m91 C k a0 a1 S K) (fun k K => congrFun (congrFun (congrFun (congrFun (congrFun m91_eq k) a0) a1) S) K) h
theorem e92 {a0 a1 : V} {S : St} {Q : V → St → Prop} (h : Ok (fun k K => m92 (callD prog dPl dLv k) k a0 a1 S K) Q) : Does prog dPl dLv 92 [a0, a1] S Q :=
 Does.enter (m := fun C k K => m92 C k a0 a1 S K) (fun k K => congrFun (congrFun (congrFun (congrFun (congrFun m92_eq k) a0) a1) S) K) h
theorem e93 {a0 a1 : V} {S : St} {Q : V → St → Prop} (h : Ok (fun k K => m93 (callD prog dPl dLv k) k a0 a1 S K) Q) : Does prog dPl dLv 93 [a0, a1] S Q :=
 Does.enter (m := fun C k K => m93 C k a0 a1 S K) (fun k K => congrFun (congrFun (congrFun (congrFun (congrFun m93_eq k) a0) a1) S) K) h
theorem e94 {a0 a1 : V} {S : St} {Q : V → St → Prop} (h : Ok (fun k K => m94 (callD prog dPl dLv k) k a0 a1 S K) Q) : Does prog dPl dLv 94 [a0, a1] S Q :=
 Does.enter (m := fun C k K => m94 C k a0 a1 S K) (fun k K => congrFun (congrFun (congrFun (congrFun (congrFun m94_eq k) a0) a1) S) K) h
theorem e95 {a0 : V} {S : St} {Q : V → St → Prop} (h : Ok (fun k K => m95 (callD prog dPl dLv k) k a0 S K) Q) : Does prog dPl dLv 95 [a0] S Q :=
 Does.enter (m := fun C k K => m95 C k a0 S K) (fun k K => congrFun (congrFun (congrFun (congrFun m95_eq k) a0) S) K) h
theorem e96 {a0 a1 : V} {S : St} {Q : V → St → Prop} (h : Ok (fun k K => m96 (callD prog dPl dLv k) k a0 a1 S K) Q) : Does prog dPl dLv 96 [a0, a1] S Q :=
 Does.enter (m := fun C k K => m96 C k a0 a1 S K) (fun k K => congrFun (congrFun (congrFun (congrFun (congrFun m96_eq k) a0) a1) S) K) h
theorem e110 {a0 a1 : V} {S : St} {Q : V → St → Prop} (h : Ok (fun k K => m110 (callD prog dPl dLv k) k a0 a1 S K) Q) : Does prog dPl dLv 110 [a0, a1] S Q :=
 Does.enter (m := fun C k K => m110 C k a0 a1 S K) (fun k K => congrFun (congrFun (congrFun (congrFun (congrFun m110_eq k) a0) a1) S) K) h
theorem e111 {a0 a1 : V} {S : St} {Q : V → St → Prop} (h : Ok (fun k K => m111 (callD prog dPl dLv k) k a0 a1 S K) Q) : Does prog dPl dLv 111 [a0, a1] S Q :=
 Does.enter (m := fun C k K => m111 C k a0 a1 S K) (fun k K => congrFun (congrFun (congrFun (congrFun (congrFun m111_eq k) a0) a1) S) K) h
theorem e112 {a0 a1 : V} {S : St} {Q : V → St → Prop} (h : Ok (fun k K => m112 (callD prog dPl dLv k) k a0 a1 S K) Q) : Does prog dPl dLv 112 [a0, a1] S Q :=
 Does.enter (m := fun C k K => m112 C k a0 a1 S K) (fun k K => congrFun (congrFun (congrFun (congrFun (congrFun m112_eq k) a0) a1) S) K) h
theorem e114 {a0 : V} {S : St} {Q : V → St → Prop} (h : Ok (fun k K => m114 (callD prog dPl dLv k) k a0 S K) Q) : Does prog dPl dLv 114 [a0] S Q :=
 Does.enter (m := fun C k K => m114 C k a0 S K) (fun k K => congrFun (congrFun (congrFun (congrFun m114_eq k) a0) S) K) h
theorem e115 {a0 a1 : V} {S : St} {Q : V → St → Prop} (h : Ok (fun k K => m115 (callD prog dPl dLv k) k a0 a1 S K) Q) : Does prog dPl dLv 115 [a0, a1] S Q :=
 Does.enter (m := fun C k K => m115 C k a0 a1 S K) (fun k K => congrFun (congrFun (congrFun (congrFun (congrFun m115_eq k) a0) a1) S) K) h
theorem e117 {a0 a1 a2 : V} {S : St} {Q : V → St → Prop} (h : Ok (fun k K => m117 (callD prog dPl dLv k) k a0 a1 a2 S K) Q) : Does prog dPl dLv 117 [a0, a1, a2] S Q :=
 Does.enter (m := fun C k K => m117 C k a0 a1 a2 S K) (fun k K => congrFun (congrFun (congrFun (congrFun (congrFun (congrFun m117_eq k) a0) a1) a2) S) K) h
theorem e118 {a0 a1 a2 : V} {S : St} {Q : V → St → Prop} (h : Ok (fun k K => m118 (callD prog dPl dLv k) k a0 a1 a2 S K) Q) : Does prog dPl dLv 118 [a0, a1, a2] S Q :=
 Does.enter (m := fun C k K => m118 C k a0 a1 a2 S K) (fun k K => congrFun (congrFun (congrFun (congrFun (congrFun (congrFun m118_eq k) a0) a1) a2) S) K) h
theorem e119 {a0 a1 : V} {S : St} {Q : V → St → Prop} (h : Ok (fun k K => m119 (callD prog dPl dLv k) k a0 a1 S K) Q) : Does prog dPl dLv 119 [a0, a1] S Q :=
 Does.enter (m := fun C k K => m119 C k a0 a1 S K) (fun k K => congrFun (congrFun (congrFun (congrFun (congrFun m119_eq k) a0) a1) S) K) h
theorem e120 {a0 : V} {S : St} {Q : V → St → Prop} (h : Ok (fun k K => m120 (callD prog dPl dLv k) k a0 S K) Q) : Does prog dPl dLv 120 [a0] S Q :=
 Does.enter (m := fun C k K => m120 C k a0 S K) (fun k K => congrFun (congrFun (congrFun (congrFun m120_eq k) a0) S) K) h
theorem e122 {a0 a1 : V} {S : St} {Q : V → St → Prop} (h : Ok (fun k K => m122 (callD prog dPl dLv k) k a0 a1 S K) Q) : Does prog dPl dLv 122 [a0, a1] S Q :=
 Does.enter (m := fun C k K => m122 C k a0 a1 S K) (fun k K => congrFun (congrFun (congrFun (congrFun (congrFun m122_eq k) a0) a1) S) K) h
theorem e127 {a0 : V} {S : St} {Q : V → St → Prop} (h : Ok (fun k K => m127 (callD prog dPl dLv k) k a0 S K) Q) : Does prog dPl dLv 127 [a0] S Q :=
 Does.enter (m := fun C k K => m127 C k a0 S K) (fun k K => congrFun (congrFun (congrFun (congrFun m127_eq k) a0) S) K) h
theorem e128 {a0 a1 : V} {S : St} {Q : V → St → Prop} (h : Ok (fun k K => m128 (callD prog dPl dLv k) k a0 a1 S K) Q) : Does prog dPl dLv 128 [a0, a1] S Q :=
 Does.enter (m := fun C k K => m128 C k a0 a1 S K) (fun k K => congrFun (congrFun (congrFun (congrFun (congrFun m128_eq k) a0) a1) S) K) h
theorem e129 {a0 a1 : V} {S : St} {Q : V → St → Prop} (h : Ok (fun k K => m129 (callD prog dPl dLv k) k a0 a1 S K) Q) : Does prog dPl dLv 129 [a0, a1] S Q :=
 Does.enter (m := fun C k K => m129 C k a0 a1 S K) (fun k K => congrFun (congrFun (congrFun (congrFun (congrFun m129_eq k) a0) a1) S) K) h
theorem e130 {a0 : V} {S : St} {Q : V → St → Prop} (h : Ok (fun k K => m130 (callD prog dPl dLv k) k a0 S K) Q) : Does prog dPl dLv 130 [a0] S Q :=
 Does.enter (m := fun C k K => m130 C k a0 S K) (fun k K => congrFun (congrFun (congrFun (congrFun m130_eq k) a0) S) K) h
theorem e131 {a0 a1 : V} {S : St} {Q : V → St → Prop} (h : Ok (fun k K => m131 (callD prog dPl dLv k) k a0 a1 S K) Q) : Does prog dPl dLv 131 [a0, a1] S Q :=
 Does.enter (m := fun C k K => m131 C k a0 a1 S K) (fun k K => congrFun (congrFun (congrFun (congrFun (congrFun m131_eq k) a0) a1) S) K) h
theorem e132 {a0 a1 : V} {S : St} {Q : V → St → Prop} (h : Ok (fun k K => m132 (callD prog dPl dLv k) k a0 a1 S K) Q) : Does prog dPl dLv 132 [a0, a1] S Q :=
 Does.enter (m := fun C k K => m132 C k a0 a1 S K) (fun k K => congrFun (congrFun (congrFun (congrFun (congrFun m132_eq k) a0) a1) S) K) h
theorem e133 {a0 a1 : V} {S : St} {Q : V → St → Prop} (h : Ok (fun k K => m133 (callD prog dPl dLv k) k a0 a1 S K) Q) : Does prog dPl dLv 133 [a0, a1] S Q :=
 Does.enter (m := fun C k K => m133 C k a0 a1 S K) (fun k K => congrFun (congrFun (congrFun (congrFun (congrFun m133_eq k) a0) a1) S) K) h
theorem e134 {a0 a1 : V} {S : St} {Q : V → St → Prop} (h : Ok (fun k K => m134 (callD prog dPl dLv k) k a0 a1 S K) Q) : Does prog dPl dLv 134 [a0, a1] S Q :=
 Does.enter (m := fun C k K => m134 C k a0 a1 S K) (fun k K => congrFun (congrFun (congrFun (congrFun (congrFun m134_eq k) a0) a1) S) K) h
theorem e135 {a0 : V} {S : St} {Q : V → St → Prop} (h : Ok (fun k K => m135 (callD prog dPl dLv k) k a0 S K) Q) : Does prog dPl dLv 135 [a0] S Q :=
 Does.enter (m := fun C k K => m135 C k a0 S K) (fun k K => congrFun (congrFun (congrFun (congrFun m135_eq k) a0) S) K) h
theorem e137 {a0 a1 : V} {S : St} {Q : V → St → Prop} (h : Ok (fun k K => m137 (callD prog dPl dLv k) k a0 a1 S K) Q) : Does prog dPl dLv 137 [a0, a1] S Q :=
 Does.enter (m := fun C k K => m137 C k a0 a1 S K) (fun k K => congrFun (congrFun (congrFun (congrFun (congrFun m137_eq k) a0) a1) S) K) h
theorem e144 {a0 a1 : V} {S : St} {Q : V → St → Prop} (h : Ok (fun k K => m144 (callD prog dPl dLv k) k a0 a1 S K) Q) : Does prog dPl dLv 144 [a0, a1] S Q :=
 Does.enter (m := fun C k K => m144 C k a0 a1 S K) (fun k K => congrFun (congrFun (congrFun (congrFun (congrFun m144_eq k) a0) a1) S) K) h
theorem e149 {a0 a1 a2 : V} {S : St} {Q : V → St → Prop} (h : Ok (fun k K => m149 (callD prog dPl dLv k) k a0 a1 a2 S K) Q) : Does prog dPl dLv 149 [a0, a1, a2] S Q :=
 Does.enter (m := fun C k K => m149 C k a0 a1 a2 S K) (fun k K => congrFun (congrFun (congrFun (congrFun (congrFun (congrFun m149_eq k) a0) a1) a2) S) K) h
theorem e150 {a0 a1 a2 a3 : V} {S : St} {Q : V → St → Prop} (h : Ok (fun k K => m150 (callD prog dPl dLv k) k a0 a1 a2 a3 S K) Q) : Does prog dPl dLv 150 [a0, a1, a2, a3] S Q :=
 Does.enter (m := fun C k K => m150 C k a0 a1 a2 a3 S K) (fun k K => congrFun (congrFun (congrFun (congrFun (congrFun (congrFun (congrFun m150_eq k) a0) a1) a2) a3) S) K) h
theorem e151 {a0 : V} {S : St} {Q : V → St → Prop} (h : Ok (fun k K => m151 (callD prog dPl dLv k) k a0 S K) Q) : Does prog dPl dLv 151 [a0] S Q :=
 Does.enter (m := fun C k K => m151 C k a0 S K) (fun k K => congrFun (congrFun (congrFun (congrFun m151_eq k) a0) S) K) h
theorem e152 {a0 a1 : V} {S : St} {Q : V → St → Prop} (h : Ok (fun k K => m152 (callD prog dPl dLv k) k a0 a1 S K) Q) : Does prog dPl dLv 152 [a0, a1] S Q :=
 Does.enter (m := fun C k K => m152 C k a0 a1 S K) (fun k K => congrFun (congrFun (congrFun (congrFun (congrFun m152_eq k) a0) a1) S) K) h
theorem e153 {a0 : V} {S : St} {Q : V → St → Prop} (h : Ok (fun k K => m153 (callD prog dPl dLv k) k a0 S K) Q) : Does prog dPl dLv 153 [a0] S Q :=
 Does.enter (m := fun C k K => m153 C k a0 S K) (fun k K => congrFun (congrFun (congrFun (congrFun m153_eq k) a0) S) K) h
theorem e154 {a0 : V} {S : St} {Q : V → St → Prop} (h : Ok (fun k K => m154 (callD prog dPl dLv k) k a0 S K) Q) : Does prog dPl dLv 154 [a0] S Q :=
 Does.enter (m := fun C k K => m154 C k a0 S K) (fun k K => congrFun (congrFun (congrFun (congrFun m154_eq k) a0) S) K) h
theorem e155 {a0 : V} {S : St} {Q : V → St → Prop} (h : Ok (fun k K => m155 (callD prog dPl dLv k) k a0 S K) Q) : Does prog dPl dLv 155 [a0] S Q :=
 Does.enter (m := fun C k K => m155 C k a0 S K) (fun k K => congrFun (congrFun (congrFun (congrFun m155_eq k) a0) S) K) h
theorem e156 {a0 a1 a2 : V} {S : St} {Q : V → St → Prop} (h : Ok (fun k K => m156 (callD prog dPl dLv k) k a0 a1 a2 S K) Q) : Does prog dPl dLv 156 [a0, a1, a2] S Q :=
 Does.enter (m := fun C k K => m156 C k a0 a1 a2 S K) (fun k K => congrFun (congrFun (congrFun (congrFun (congrFun (congrFun m156_eq k) a0) a1) a2) S) K) h
theorem e157 {a0 a1 : V} {S : St} {Q : V → St → Prop} (h : Ok (fun k K => m157 (callD prog dPl dLv k) k a0 a1 S K) Q) : Does prog dPl dLv 157 [a0, a1] S Q :=
 Does.enter (m := fun C k K => m157 C k a0 a1 S K) (fun k K => congrFun (congrFun (congrFun (congrFun (congrFun m157_eq k) a0) a1) S) K) h
theorem e164 {a0 a1 a2 : V} {S : St} {Q : V → St → Prop} (h : Ok (fun k K => m164 (callD prog dPl dLv k) k a0 a1 a2 S K) Q) : Does prog dPl dLv 164 [a0, a1, a2] S Q :=
 Does.enter (m := fun C k K => m164 C k a0 a1 a2 S K) (fun k K => congrFun (congrFun (congrFun (congrFun (congrFun (congrFun m164_eq k) a0) a1) a2) S) K) h
theorem e165 {a0 a1 : V} {S : St} {Q : V → St → Prop} (h : Ok (fun k K => m165 (callD prog dPl dLv k) k a0 a1 S K) Q) : Does prog dPl dLv 165 [a0, a1] S Q :=
 Does.enter (m := fun C k K => m165 C k a0 a1 S K) (fun k K => congrFun (congrFun (congrFun (congrFun (congrFun m165_eq k) a0) a1) S) K) h
theorem e167 {a0 : V} {S : St} {Q : V → St → Prop} (h : Ok (fun k K => m167 (callD prog dPl dLv k) k a0 S K) Q) : Does prog dPl dLv 167 [a0] S Q :=
 Does.enter (m := fun C k K => m167 C k a0 S K) (fun k K => congrFun (congrFun (congrFun (congrFun m167_eq k) a0) S) K) h
theorem e172 {a0 : V} {S : St} {Q : V → St → Prop} (h : Ok (fun k K => m172 (callD prog dPl dLv k) k a0 S K) Q) : Does prog dPl dLv 172 [a0] S Q :=
 Does.enter (m := fun C k K => m172 C k a0 S K) (fun k K => congrFun (congrFun (congrFun (congrFun m172_eq k) a0) S) K) h
theorem e173 {a0 a1 : V} {S : St} {Q : V → St → Prop} (h : Ok (fun k K => m173 (callD prog dPl dLv k) k a0 a1 S K) Q) : Does prog dPl dLv 173 [a0, a1] S Q :=
 Does.enter (m := fun C k K => m173 C k a0 a1 S K) (fun k K => congrFun (congrFun (congrFun (congrFun (congrFun m173_eq k) a0) a1) S) K) h
def Gives (f : FuncId) (args : List V) (S : St) (v : V) : Prop := Does prog dPl dLv f args S fun w S' => w = v ∧ Ext S S'
theorem Gives.call {f : FuncId} {args : List V} {S : St} {v : V} (h : Gives f args S v) {G : Nat → KS → V → St → An} {R : V → St → Prop} (k : ∀ S', Ext S S' → Ok (fun k K => G k K v S') R) :
  Ok (fun k K => callD prog dPl dLv k f args S (fun v S => G k K v S)) R := Does.call h fun w S' ⟨e, x⟩ => by subst e; exact k S' x
theorem Gives.get {f : FuncId} {args : List V} {S : St} {v : V} (h : Gives f args S v) : ∃ N S', Ext S S' ∧ ∀ k K, N ≤ k → callD prog dPl dLv k f args S K = K v S' := by
 obtain ⟨w, S', N, ⟨rfl, x⟩, h⟩ := h
 exact ⟨N, S', x, h⟩
def leap (y : Int) : Bool := if y.tmod 4 = 0 then (if y.tmod 100 = 0 then decide (y.tmod 400 = 0) else true) else false
theorem g155 (y : Int) (S : St) : Gives 155 [.int .i64 y] S (.bool (leap y)) := by
 refine e155 ?_
 by_cases h1 : y.tmod 4 = 0 <;> by_cases h2 : y.tmod 100 = 0 <;>
  simp only [m155, dR_ok, dIf_true, bin_rem _ _ _ _ _ (by decide : (4 : Int) ≠ 0), bin_rem _ _ _ _ _ (by decide : (100 : Int) ≠ 0), bin_rem _ _ _ _ _ (by decide : (400 : Int) ≠ 0), guard_int, bin_eql, bin_neq, h1, h2, decide_true, decide_false, pickD_true, pickD_false, Bool.not_true, Bool.not_false] <;>
  exact Ok.ret ⟨by simp only [leap, h1, h2, if_true, if_false], Ext.refl S⟩
def monthLen (y m : Int) : Int := if m = 2 then (if leap y = true then 29 else 28) else if m = 4 ∨ m = 6 ∨ m = 9 ∨ m = 11 then 30 else 31
theorem g128 (y m : Int) (S : St) : Gives 128 [.int .i64 y, .int .i64 m] S (.int .i64 (monthLen y m)) := by
 refine e128 ?_
 by_cases h1 : m = 2
 ·subst h1
  simp only [m128, dR_ok, dIf_true, guard_int, bin_eql, decide_true, pickD_true]
  refine (g155 y S).call fun S' x => ?_
  refine Ok.pick (fun h => ?_) (fun h => ?_) <;> exact Ok.ret ⟨by simp [monthLen, h], x⟩
 ·by_cases h4 : m = 4
  ·subst h4
   simp only [m128, dR_ok, dIf_true, guard_int, bin_eql, h1, decide_true, decide_false, pickD_true, pickD_false]
   exact Ok.ret ⟨by simp [monthLen], Ext.refl S⟩
  ·by_cases h6 : m = 6
   ·subst h6
    simp only [m128, dR_ok, dIf_true, guard_int, bin_eql, h1, h4, decide_true, decide_false, pickD_true, pickD_false]
    exact Ok.ret ⟨by simp [monthLen], Ext.refl S⟩
   ·by_cases h9 : m = 9
    ·subst h9
     simp only [m128, dR_ok, dIf_true, guard_int, bin_eql, h1, h4, h6, decide_true, decide_false, pickD_true, pickD_false]
     exact Ok.ret ⟨by simp [monthLen], Ext.refl S⟩
    ·by_cases h11 : m = 11
     ·subst h11
      simp only [m128, dR_ok, dIf_true, guard_int, bin_eql, h1, h4, h6, h9, decide_true, decide_false, pickD_true, pickD_false]
      exact Ok.ret ⟨by simp [monthLen], Ext.refl S⟩
     ·simp only [m128, dR_ok, dIf_true, guard_int, bin_eql, h1, h4, h6, h9, h11, decide_true, decide_false, pickD_true, pickD_false]
      exact Ok.ret ⟨by simp [monthLen, h1, h4, h6, h9, h11], Ext.refl S⟩
structure Date where
 y : Int
 m : Int
 d : Int
deriving DecidableEq
def Date.enc (d : Date) : List V := [.int .i64 d.y, .int .i64 d.m, .int .i64 d.d]
def Date.right (d : Date) : Bool := decide (1 ≤ d.y) && (decide (d.y ≤ 9999) && (decide (1 ≤ d.m) && (decide (d.m ≤ 12) && (decide (1 ≤ d.d) && decide (d.d ≤ monthLen d.y d.m)))))
theorem g89 (d : Date) (S : St) (w : WF S) : Gives 89 [.agg d.enc] S (.bool d.right) := by
 refine e89 ?_
 have ho : allOne (V.agg d.enc).cells = true := rfl
 have hl : (V.agg d.enc).cells.length = 3 := rfl
 have hc : (V.agg d.enc).cells = d.enc := rfl
 have hp0 : partW none d.enc (0 + 0) = .ok (.int .i64 d.y) := rfl
 have hp1 : partW none d.enc (0 + 1) = .ok (.int .i64 d.m) := rfl
 have hp2 : partW none d.enc (0 + 2) = .ok (.int .i64 d.d) := rfl
 have hx : Ext S (⟨S.next + 1 + 34, S.heap.put S.next (.row 0 3 [d.enc])⟩ : St) := (Ext.new w _).bump 34
 have hld : loadW none (.ptr S.next 0 0 (0 + 2)) (⟨S.next + 1 + 34, S.heap.put S.next (.row 0 3 [d.enc])⟩ : St) = .ok (.int .i64 d.d) := by rw [load_put, hp2]
 simp only [m89, ho, dIf_true, newBlk_none, dR_ok, hl, hc, fa38_0, fa38_1, fa38_2, adv_ptr, ld3, load_put, hp0, hp1, hp2, bin_geq, bin_leq]
 refine Ok.pickP (fun h1 => ?_) (fun h1 => Ok.ret ⟨by simp [Date.right, h1], hx⟩)
 refine Ok.pickP (fun h2 => ?_) (fun h2 => Ok.ret ⟨by simp [Date.right, h2], hx⟩)
 refine Ok.pickP (fun h3 => ?_) (fun h3 => Ok.ret ⟨by simp [Date.right, h3], hx⟩)
 refine Ok.pickP (fun h4 => ?_) (fun h4 => Ok.ret ⟨by simp [Date.right, h4], hx⟩)
 refine Ok.pickP (fun h5 => ?_) (fun h5 => Ok.ret ⟨by simp [Date.right, h5], hx⟩)
 refine (g128 d.y d.m _).call fun S' x => ?_
 simp only [load_ext x hld, dR_ok, beqV_int, dIf_true, bin_leq]
 exact Ok.ret ⟨by simp [Date.right, h1, h2, h3, h4, h5], hx.trans x⟩
def ahead (y : Int) : Int :=
 wr .i64 (wr .i64 (wr .i64 (wr .i64 (365 * wr .i64 (y - 1)) + wr .i64 ((wr .i64 (y - 1)).tdiv 4)) - wr .i64 ((wr .i64 (y - 1)).tdiv 100)) + wr .i64 ((wr .i64 (y - 1)).tdiv 400))
theorem g167 (y : Int) (S : St) : Gives 167 [.int .i64 y] S (.int .i64 (ahead y)) := by
 refine e167 ?_
 simp only [m167, dR_ok, bin_sub, bin_mul, bin_add, bin_quo _ _ _ _ _ (by decide : (4 : Int) ≠ 0), bin_quo _ _ _ _ _ (by decide : (100 : Int) ≠ 0), bin_quo _ _ _ _ _ (by decide : (400 : Int) ≠ 0)]
 exact Ok.ret ⟨rfl, Ext.refl S⟩
def monthStep (y : Int) (n : Int) (i : Nat) : Int ⊕ Int := .inr (wr .i64 (n + monthLen y ((i : Int) + 1)))
def Date.days (d : Date) : Int := if d.right = true then wr .i64 (wr .i64 (runL (monthStep d.y) id (List.range (d.m - 1).toNat) (ahead d.y) + d.d) - 1) else -1
theorem g153 (d : Date) (S : St) (w : WF S) : Gives 153 [.agg d.enc] S (.int .i64 d.days) := by
 refine e153 ?_
 have ho : allOne (V.agg d.enc).cells = true := rfl
 have hl : (V.agg d.enc).cells.length = 3 := rfl
 have hc : (V.agg d.enc).cells = d.enc := rfl
 have hp0 : partW none d.enc (0 + 0) = .ok (.int .i64 d.y) := rfl
 have hp1 : partW none d.enc (0 + 1) = .ok (.int .i64 d.m) := rfl
 have hp2 : partW none d.enc (0 + 2) = .ok (.int .i64 d.d) := rfl
 have hpa : partW (some 3) d.enc 0 = .ok (.agg d.enc) := rfl
 have hx := Ext.new w (.row 0 3 [d.enc])
 have h0 : loadW none (.ptr S.next 0 0 (0 + 0)) (⟨S.next + 1, S.heap.put S.next (.row 0 3 [d.enc])⟩ : St) = .ok (.int .i64 d.y) := by rw [load_put, hp0]
 have h1 : loadW none (.ptr S.next 0 0 (0 + 1)) (⟨S.next + 1, S.heap.put S.next (.row 0 3 [d.enc])⟩ : St) = .ok (.int .i64 d.m) := by rw [load_put, hp1]
 have h2 : loadW none (.ptr S.next 0 0 (0 + 2)) (⟨S.next + 1, S.heap.put S.next (.row 0 3 [d.enc])⟩ : St) = .ok (.int .i64 d.d) := by rw [load_put, hp2]
 simp only [m153, ho, dIf_true, newBlk_none, dR_ok, hl, hc, ld38, load_put, hpa]
 refine (g89 d _ (hx.wf w)).call fun S1 x1 => ?_
 simp only [un_not, dR_ok]
 cases hr : d.right with
 | false =>
  simp only [Bool.not_false, pickD_true]
  exact Ok.ret ⟨by simp [Date.days, hr], hx.trans x1⟩
 | true =>
  simp only [Bool.not_true, pickD_false, fa38_0, adv_ptr, dR_ok, ld3, load_ext x1 h0]
  refine (g167 d.y S1).call fun S2 x2 => ?_
  have hm : 1 ≤ d.m ∧ d.m ≤ 12 := by
   simp only [Date.right, Bool.and_eq_true, decide_eq_true_eq] at hr
   exact ⟨hr.2.2.1, hr.2.2.2.1⟩
  refine Ok.loop (F := fun k K => m153_l0 (callD prog dPl dLv k) k K (.ptr S.next 0 0 0)) (ρ := Int) (α := Nat) (X := Int) (List.range (d.m - 1).toNat)
   (step := monthStep d.y) (fin := id) (out := fun k K x S' => K (.int .i64 (wr .i64 (wr .i64 (x + d.d) - 1))) S')
   (fun i n vs S' => vs = [.int .i64 n, .int .i64 ((i : Int) + 1)] ∧ Ext S2 S') (fun r x S' => r = x ∧ Ext S2 S') ?_ ?_ ⟨rfl, Ext.refl S2⟩ ?_
  ·rintro i j n vs S3 ⟨rfl, x3⟩ hj
   have hi : i < (d.m - 1).toNat := by
    have := (List.getElem?_eq_some_iff.1 hj).1
    simpa using this
   have hj : j = i := by
    have := hj
    simp only [List.getElem?_range hi, Option.some.injEq] at this
    exact this.symm
   subst hj
   have xx := (x1.trans x2).trans x3
   have hlt : ((j : Int) + 1) < d.m := by omega
   have hw : wr .i64 ((j : Int) + 1 + 1) = ((j + 1 : Nat) : Int) + 1 := by rw [wr64 (by omega) (by omega)]; omega
   obtain ⟨N, S4, x4, h⟩ := (g128 d.y ((j : Int) + 1) S3).get
   refine ⟨N, .inr ⟨_, [.int .i64 (wr .i64 (n + monthLen d.y ((j : Int) + 1))), .int .i64 (((j + 1 : Nat) : Int) + 1)], S4, rfl, ⟨rfl, x3.trans x4⟩, fun k K again hk => ?_⟩⟩
   simp only [m153_l0, unD_cons, fa38_0, fa38_1, adv_ptr, dR_ok, ld3, load_ext xx h1, load_ext xx h0, bin_lss, hlt, decide_true, pickD_true]
   rw [h k _ hk]
   simp only [bin_add, dR_ok, hw]
  ·rintro n vs S3 ⟨rfl, x3⟩
   have xx := (x1.trans x2).trans x3
   have hlt : ¬ (((List.range (d.m - 1).toNat).length : Int) + 1 < d.m) := by simp only [List.length_range]; omega
   refine ⟨0, n, S3, ⟨rfl, x3⟩, fun k K again _ => ?_⟩
   simp only [m153_l0, unD_cons, fa38_1, fa38_2, adv_ptr, dR_ok, ld3, load_ext xx h1, load_ext xx h2, bin_lss, hlt, decide_false, pickD_false, bin_add, bin_sub]
  ·rintro x S3 ⟨rfl, x3⟩
   exact Ok.ret ⟨by simp only [Date.days, hr, if_true], ((hx.trans x1).trans x2).trans x3⟩
def Date.before (a b : Date) : Bool := a.right && (b.right && decide (a.days < b.days))
theorem beqV_date (d : Date) : beqV (.agg d.enc) (.agg d.enc) = true := by simp [beqV, beqVs, Date.enc, kindBeq_refl]
theorem g119 (a b : Date) (S : St) (w : WF S) : Gives 119 [.agg a.enc, .agg b.enc] S (.bool (a.before b)) := by
 refine e119 ?_
 have ho : ∀ d : Date, allOne d.enc = true := fun _ => rfl
 have hl : ∀ d : Date, d.enc.length = 3 := fun _ => rfl
 have hc : ∀ d : Date, (V.agg d.enc).cells = d.enc := fun _ => rfl
 have hpa : ∀ d : Date, partW (some 3) d.enc 0 = .ok (.agg d.enc) := fun _ => rfl
 have hx1 := Ext.new w (.row 0 3 [a.enc])
 have hx2 := (Ext.new (hx1.wf w) (.row 0 3 [b.enc])).bump 14
 have hx := hx1.trans hx2
 have ha : loadW (some 3) (.ptr S.next 0 0 0) (⟨S.next + 1 + 1 + 14, (S.heap.put S.next (.row 0 3 [a.enc])).put (S.next + 1) (.row 0 3 [b.enc])⟩ : St) = .ok (.agg a.enc) :=
  load_ext hx2 (by rw [load_put, hpa])
 have hb : loadW (some 3) (.ptr (S.next + 1) 0 0 0) (⟨S.next + 1 + 1 + 14, (S.heap.put S.next (.row 0 3 [a.enc])).put (S.next + 1) (.row 0 3 [b.enc])⟩ : St) = .ok (.agg b.enc) := by rw [load_put, hpa]
 simp only [m119, ho, dIf_true, newBlk_none, dR_ok, hl, hc, ld38, ha]
 refine (g89 a _ (hx.wf w)).call fun S1 x1 => ?_
 refine Ok.pick (fun h1 => ?_) (fun h1 => Ok.ret ⟨by simp [Date.before, h1], hx.trans x1⟩)
 simp only [load_ext x1 hb, dR_ok]
 refine (g89 b _ ((hx.trans x1).wf w)).call fun S2 x2 => ?_
 refine Ok.pick (fun h2 => ?_) (fun h2 => Ok.ret ⟨by simp [Date.before, h1, h2], (hx.trans x1).trans x2⟩)
 simp only [load_ext (x1.trans x2) hb, load_ext (x1.trans x2) ha, dR_ok]
 refine (g153 a _ (((hx.trans x1).trans x2).wf w)).call fun S3 x3 => ?_
 simp only [load_ext ((x1.trans x2).trans x3) hb, dR_ok, beqV_date, dIf_true]
 refine (g153 b _ ((((hx.trans x1).trans x2).trans x3).wf w)).call fun S4 x4 => ?_
 simp only [bin_lss, dR_ok]
 exact Ok.ret ⟨by simp [Date.before, h1, h2], (((hx.trans x1).trans x2).trans x3).trans x4⟩
def addM (a b : Int) : Int × Int :=
 if (0 < b ∧ wr .i64 (9223372036854775807 - b) < a) ∨ (b < 0 ∧ a < wr .i64 (-9223372036854775808 - b)) then (0, 7) else (wr .i64 (a + b), 0)
def subM (a b : Int) : Int × Int :=
 if (b < 0 ∧ wr .i64 (9223372036854775807 + b) < a) ∨ (0 < b ∧ a < wr .i64 (-9223372036854775808 + b)) then (0, 7) else (wr .i64 (a - b), 0)
def pairV (r : Int × Int) : V := .tup [.int .i64 r.1, .int .i64 r.2]
theorem g137 (a b : Int) (S : St) : Gives 137 [.int .i64 a, .int .i64 b] S (pairV (addM a b)) := by
 refine e137 ?_
 simp only [m137, m137_j0, dR_ok, bin_gtr, bin_lss, bin_sub, bin_add]
 refine Ok.pickP (fun h1 => ?_) (fun h1 => ?_)
 ·refine Ok.pickP (fun h2 => Ok.ret ⟨by simp [addM, h1, h2, pairV], Ext.refl S⟩) (fun h2 => ?_)
  have h3 : ¬ b < 0 := by omega
  simp only [h3, decide_false, pickD_false]
  exact Ok.ret ⟨by simp [addM, h2, h3, pairV], Ext.refl S⟩
 ·refine Ok.pickP (fun h2 => ?_) (fun h2 => Ok.ret ⟨by simp [addM, h1, h2, pairV], Ext.refl S⟩)
  refine Ok.pickP (fun h3 => Ok.ret ⟨by simp [addM, h2, h3, pairV], Ext.refl S⟩) (fun h3 => Ok.ret ⟨by simp [addM, h1, h3, pairV], Ext.refl S⟩)
theorem g134 (a b : Int) (S : St) : Gives 134 [.int .i64 a, .int .i64 b] S (pairV (subM a b)) := by
 refine e134 ?_
 simp only [m134, m134_j0, dR_ok, bin_gtr, bin_lss, bin_sub, bin_add]
 refine Ok.pickP (fun h1 => ?_) (fun h1 => ?_)
 ·refine Ok.pickP (fun h2 => Ok.ret ⟨by simp [subM, h1, h2, pairV], Ext.refl S⟩) (fun h2 => ?_)
  have h3 : ¬ 0 < b := by omega
  simp only [h3, decide_false, pickD_false]
  exact Ok.ret ⟨by simp [subM, h2, h3, pairV], Ext.refl S⟩
 ·refine Ok.pickP (fun h2 => ?_) (fun h2 => Ok.ret ⟨by simp [subM, h1, h2, pairV], Ext.refl S⟩)
  refine Ok.pickP (fun h3 => Ok.ret ⟨by simp [subM, h2, h3, pairV], Ext.refl S⟩) (fun h3 => Ok.ret ⟨by simp [subM, h1, h3, pairV], Ext.refl S⟩)
def notU (n : Int) : Int := wr .u64 ((BitVec.ofInt IntKind.u64.bits (if IntKind.u64.signed then -1 else IntKind.u64.max) ^^^ BitVec.ofInt IntKind.u64.bits n).toNat)
theorem un_xorU (n : Int) : unV .xor (.int .u64 n) = .ok (.int .u64 (notU n)) := rfl
def sizeM (n : Int) : Int := if n < 0 then wr .u64 (notU (wr .u64 n) + 1) else wr .u64 n
theorem g172 (n : Int) (S : St) : Gives 172 [.int .i64 n] S (.int .u64 (sizeM n)) := by
 refine e172 ?_
 simp only [m172, dR_ok, bin_lss, bin_add, cv3_161, un_xorU]
 refine Ok.pickP (fun h => Ok.ret ⟨by simp [sizeM, h], Ext.refl S⟩) (fun h => Ok.ret ⟨by simp [sizeM, h], Ext.refl S⟩)
def signedM (n : Int) (neg : Bool) : Int × Bool :=
 if neg = true then (wr .i64 (wr .u64 (notU n + 1)), decide (n ≤ 9223372036854775808)) else (wr .i64 n, decide (n ≤ 9223372036854775807))
theorem g173 (n : Int) (b : Bool) (S : St) : Gives 173 [.int .u64 n, .bool b] S (.tup [.int .i64 (signedM n b).1, .bool (signedM n b).2]) := by
 refine e173 ?_
 simp only [m173, dR_ok, bin_leq, bin_add, cv161_3, un_xorU]
 refine Ok.pick (fun h => Ok.ret ⟨by simp [signedM, h], Ext.refl S⟩) (fun h => Ok.ret ⟨by simp [signedM, h], Ext.refl S⟩)
theorem bool_neq (a b : Bool) : binV prog .neq 4 (.bool a) (.bool b) = .ok (.bool (!(a == b))) := by
 have h : (fun a b => eqT prog 100 4 (.bool a) (.bool b)) = fun a b => .ok (a == b) := by kernel_rfl
 have := congrFun (congrFun h a) b
 simp only [binV, this]
def mulM (a b : Int) : Int × Int :=
 if 0 < sizeM b ∧ wr .u64 ((9223372036854775808 : Int).tdiv (sizeM b)) < sizeM a then (0, 7) else
  let r := signedM (wr .u64 (sizeM a * sizeM b)) (!(decide (a < 0) == decide (b < 0)))
  if r.2 = true then (r.1, 0) else (0, 7)
theorem g165 (a b : Int) (S : St) : Gives 165 [.int .i64 a, .int .i64 b] S (pairV (mulM a b)) := by
 refine e165 ?_
 have hj : ∀ S2, Ext S S2 → ¬ (0 < sizeM b ∧ wr .u64 ((9223372036854775808 : Int).tdiv (sizeM b)) < sizeM a) →
   Ok (fun k K => m165_j0 (callD prog dPl dLv k) k K (.int .i64 a) (.int .i64 b) (.int .u64 (sizeM a)) (.int .u64 (sizeM b)) S2) (fun w S' => w = pairV (mulM a b) ∧ Ext S S') := by
  intro S2 x hn
  simp only [m165_j0, dR_ok, bin_mul, bin_lss, guard_bool, dIf_true, bool_neq]
  refine (g173 _ _ S2).call fun S3 x3 => ?_
  simp only [tupD_tup, List.getElem?_cons_zero, List.getElem?_cons_succ, dO_ok, un_not, dR_ok]
  refine Ok.pick (fun h => Ok.ret ⟨?_, x.trans x3⟩) (fun h => Ok.ret ⟨?_, x.trans x3⟩)
  ·have h' : (signedM (wr .u64 (sizeM a * sizeM b)) (!(decide (a < 0) == decide (b < 0)))).2 = false := by simpa using h
   unfold mulM
   rw [if_neg hn]
   simp only [h', pairV]
   rfl
  ·have h' : (signedM (wr .u64 (sizeM a * sizeM b)) (!(decide (a < 0) == decide (b < 0)))).2 = true := by simpa using h
   unfold mulM
   rw [if_neg hn]
   simp only [h', if_true, pairV]
 simp only [m165]
 refine (g172 a S).call fun S1 x1 => ?_
 refine (g172 b S1).call fun S2 x2 => ?_
 simp only [bin_gtr, dR_ok]
 refine Ok.pickP (fun h => ?_) (fun h => hj S2 (x1.trans x2) (fun h' => h h'.1))
 have h0 : sizeM b ≠ 0 := by omega
 simp only [bin_quo _ _ _ _ _ h0, dR_ok]
 refine Ok.pickP (fun h2 => Ok.ret ⟨by simp [mulM, h, h2, pairV], x1.trans x2⟩) (fun h2 => hj S2 (x1.trans x2) (fun h' => h2 h'.2))
def shareM (n bp : Int) : Int × Int :=
 if bp < 0 ∨ 100000 < bp then (0, 1) else
  let u := sizeM n
  let p := wr .u64 bp
  let many := wr .u64 (u.tdiv 10000)
  let rest := u.tmod 10000
  if 0 < p ∧ wr .u64 ((9223372036854775807 : Int).tdiv p) < many then (0, 7) else
   let out := wr .u64 (wr .u64 (many * p) + wr .u64 ((wr .u64 (wr .u64 (wr .u64 (2 * rest) * p) + 10000)).tdiv (wr .u64 (2 * 10000))))
   if 9223372036854775807 < out then (0, 7) else if n < 0 then (wr .i64 (0 - wr .i64 out), 0) else (wr .i64 out, 0)
theorem w20000 : wr .u64 (2 * 10000) = 20000 := by decide
theorem w10000 : wr .u64 10000 = 10000 := by decide
theorem un_neg (n : Int) : unV .neg (.int .i64 n) = .ok (.int .i64 (wr .i64 (0 - n))) := rfl
theorem g156 (n bp : Int) (S : St) (w : WF S) : Gives 156 [.int .i64 n, .int .i64 bp, .int .i64 10000] S (pairV (shareM n bp)) := by
 refine e156 ?_
 have hj1 : ∀ (S2 : St), Ext S S2 → ¬ (bp < 0 ∨ 100000 < bp) → ¬ (0 < wr .u64 bp ∧ wr .u64 ((9223372036854775807 : Int).tdiv (wr .u64 bp)) < wr .u64 ((sizeM n).tdiv 10000)) →
   Ok (fun k K => m156_j1 (callD prog dPl dLv k) k K (.int .i64 n) (.int .u64 (wr .u64 bp)) (.int .u64 10000) (.int .u64 (wr .u64 ((sizeM n).tdiv 10000))) (.int .u64 ((sizeM n).tmod 10000)) S2) (fun w S' => w = pairV (shareM n bp) ∧ Ext S S') := by
  intro S2 x hb hn
  simp only [m156_j1, dR_ok, bin_mul, bin_add, w20000, bin_quo _ _ _ _ _ (by decide : (20000 : Int) ≠ 0), bin_gtr, bin_lss, cv161_3, un_neg]
  refine Ok.pickP (fun h => Ok.ret ⟨?_, x⟩) (fun h => ?_)
  ·unfold shareM
   rw [if_neg hb]
   simp only [w20000]
   rw [if_neg hn, if_pos h]
   rfl
  ·refine Ok.pickP (fun h2 => Ok.ret ⟨?_, x⟩) (fun h2 => Ok.ret ⟨?_, x⟩)
   ·unfold shareM
    rw [if_neg hb]
    simp only [w20000]
    rw [if_neg hn, if_neg h, if_pos h2]
    rfl
   ·unfold shareM
    rw [if_neg hb]
    simp only [w20000]
    rw [if_neg hn, if_neg h, if_neg h2]
    rfl
 have hj0 : ∀ (S2 : St), Ext S S2 → ¬ (bp < 0 ∨ 100000 < bp) →
   Ok (fun k K => m156_j0 (callD prog dPl dLv k) k K (.int .i64 n) (.int .i64 bp) (.int .i64 10000) (.int .u64 (sizeM n)) S2) (fun w S' => w = pairV (shareM n bp) ∧ Ext S S') := by
  intro S2 x hb
  simp only [m156_j0, dR_ok, cv3_161, w10000, bin_quo _ _ _ _ _ (by decide : (10000 : Int) ≠ 0), bin_rem _ _ _ _ _ (by decide : (10000 : Int) ≠ 0), bin_gtr]
  refine Ok.pickP (fun h => ?_) (fun h => hj1 _ (x.bump 8) hb (fun h' => h h'.1))
  have h0 : wr .u64 bp ≠ 0 := by omega
  simp only [bin_quo _ _ _ _ _ h0, bin_gtr, dR_ok]
  refine Ok.pickP (fun h2 => Ok.ret ⟨?_, x.bump 8⟩) (fun h2 => hj1 _ (x.bump 8) hb (fun h' => h2 h'.2))
  unfold shareM
  rw [if_neg hb]
  simp only
  rw [if_pos ⟨h, h2⟩]
  rfl
 simp only [m156, dR_ok, bin_lss, bin_gtr, cv3_161, un_xorU, bin_add]
 refine Ok.pickP (fun h => Ok.ret ⟨by simp [shareM, h, pairV], Ext.refl S⟩) (fun h => ?_)
 refine Ok.pickP (fun h2 => Ok.ret ⟨by simp [shareM, h2, pairV], Ext.refl S⟩) (fun h2 => ?_)
 refine Ok.pickP (fun h3 => ?_) (fun h3 => ?_)
 ·have := hj0 S (Ext.refl S) (by omega)
  simp only [sizeM, h3, if_true] at this
  exact this
 ·have := hj0 S (Ext.refl S) (by omega)
  simp only [sizeM, h3, if_false] at this
  exact this
theorem g129 (n bp : Int) (S : St) (w : WF S) : Gives 129 [.int .i64 n, .int .i64 bp] S (pairV (shareM n bp)) := by
 refine e129 ?_
 simp only [m129]
 refine (g156 n bp S w).call fun S1 x => ?_
 simp only [pairV, tupD_tup, List.getElem?_cons_zero, List.getElem?_cons_succ, dO_ok]
 exact Ok.ret ⟨rfl, x⟩
def letterM (r : Int) : Bool :=
 if (97 ≤ r ∧ r ≤ 122) ∨ (65 ≤ r ∧ r ≤ 90) then true else if r = 215 then false else if r = 247 then false else decide (192 ≤ r) && decide (r ≤ 591)
theorem g127 (r : Int) (S : St) : Gives 127 [.int .i32 r] S (.bool (letterM r)) := by
 refine e127 ?_
 have hj0 : ∀ b : Bool, (b = true → (97 ≤ r ∧ r ≤ 122) ∨ (65 ≤ r ∧ r ≤ 90)) → (b = false → ¬ ((97 ≤ r ∧ r ≤ 122) ∨ (65 ≤ r ∧ r ≤ 90))) →
   Ok (fun k K => m127_j0 (callD prog dPl dLv k) k K (.int .i32 r) (.bool b) S) (fun w S' => w = .bool (letterM r) ∧ Ext S S') := by
  intro b h1 h2
  simp only [m127_j0, guard_int, dIf_true, bin_eql, bin_geq, bin_leq, dR_ok]
  refine Ok.pick (fun h => Ok.ret ⟨by simp only [letterM, h1 h, if_true], Ext.refl S⟩) (fun h => ?_)
  have h3 := h2 h
  refine Ok.pickP (fun h => Ok.ret ⟨by unfold letterM; rw [if_neg h3, if_pos h], Ext.refl S⟩) (fun h4 => ?_)
  refine Ok.pickP (fun h => Ok.ret ⟨by unfold letterM; rw [if_neg h3, if_neg h4, if_pos h], Ext.refl S⟩) (fun h5 => ?_)
  refine Ok.pickP (fun h => Ok.ret ⟨by simp only [letterM, h3, h, h4, h5, if_false, decide_true, Bool.true_and], Ext.refl S⟩) (fun h => Ok.ret ⟨by simp only [letterM, h3, h, h4, h5, if_false, decide_false, Bool.false_and], Ext.refl S⟩)
 have hj1 : ∀ b : Bool, (b = true → 97 ≤ r ∧ r ≤ 122) → (b = false → ¬ (97 ≤ r ∧ r ≤ 122)) →
   Ok (fun k K => m127_j1 (callD prog dPl dLv k) k K (.int .i32 r) (.bool b) S) (fun w S' => w = .bool (letterM r) ∧ Ext S S') := by
  intro b h1 h2
  simp only [m127_j1, bin_geq, bin_leq, dR_ok]
  refine Ok.pick (fun h => hj0 true (fun _ => .inl (h1 h)) (fun h => by cases h)) (fun h => ?_)
  have h3 := h2 h
  refine Ok.pickP (fun h => ?_) (fun h => hj0 false (fun h => by cases h) (fun _ => by omega))
  by_cases h9 : r ≤ 90
  ·simp only [h9, decide_true]
   exact hj0 true (fun _ => .inr ⟨h, h9⟩) (fun h => by cases h)
  ·simp only [h9, decide_false]
   exact hj0 false (fun h => by cases h) (fun _ => by omega)
 simp only [m127, bin_geq, bin_leq, dR_ok]
 refine Ok.pickP (fun h => ?_) (fun h => hj1 false (fun h => by cases h) (fun _ => by omega))
 by_cases h9 : r ≤ 122
 ·simp only [h9, decide_true]
  exact hj1 true (fun _ => ⟨h, h9⟩) (fun h => by cases h)
 ·simp only [h9, decide_false]
  exact hj1 false (fun h => by cases h) (fun _ => by omega)
def runes (s : List UInt8) : Nat → Nat → List (Nat × Nat)
 | 0, _ => []
 | f + 1, pos => if pos < s.length then (pos, (Utf8.decode ⟨⟨s⟩⟩ pos).1) :: runes s f (pos + (Utf8.decode ⟨⟨s⟩⟩ pos).2) else []
theorem decode_wide (s : ByteArray) (i : Nat) : 1 ≤ (Utf8.decode s i).2 := by
 unfold Utf8.decode
 simp only
 repeat' split
 all_goals simp
def nameStep (_ : Unit) (x : Nat × Nat) : Bool ⊕ Unit :=
 if letterM x.2 = true then .inr () else if x.1 = 0 then .inl false else if (48 ≤ x.2 ∧ x.2 ≤ 57) ∨ x.2 = 45 ∨ x.2 = 95 ∨ x.2 = 46 then .inr () else .inl false
def nameM (s : List UInt8) : Bool := if s.length < 1 then false else if 24 < s.length then false else runL nameStep (fun _ => true) (runes s s.length 0) ()
theorem next_at (s : List UInt8) (a pos : Nat) (S : St) (hg : S.heap.get a = some (.iter s pos)) (hl : pos < s.length) :
  nextV (.ptr a 0 0 0) S = .ok (.tup [.bool true, .int .i64 pos, .int .i32 (Utf8.decode ⟨⟨s⟩⟩ pos).1], ⟨S.next, S.heap.put a (.iter s (pos + (Utf8.decode ⟨⟨s⟩⟩ pos).2))⟩) := by
 have hb : Nat.blt pos s.length = true := Nat.ble_eq_true_of_le hl
 have hs : s[pos]? = some s[pos] := List.getElem?_eq_getElem hl
 simp only [nextV, hg, hb, hs]
 split
 ·rename_i h
  rw [Go.AM.decode_ascii hs (by simpa using h)]
 ·rfl
theorem next_end (s : List UInt8) (a pos : Nat) (S : St) (hg : S.heap.get a = some (.iter s pos)) (hl : s.length ≤ pos) : nextV (.ptr a 0 0 0) S = .ok (.tup [.bool false], S) := by
 have hb : Nat.blt pos s.length = false := by
  cases h : Nat.blt pos s.length with
  | false => rfl
  | true => exact absurd (Nat.le_of_ble_eq_true h) (by omega)
 simp only [nextV, hg, hb]
theorem g88 (s : List UInt8) (S : St) (w : WF S) : Gives 88 [.str s] S (.bool (nameM s)) := by
 refine e88 ?_
 simp only [m88, len9, dR_ok, bin_lss, bin_gtr]
 refine Ok.pickP (fun h => Ok.ret ⟨by simp [nameM, show s.length < 1 by omega], Ext.refl S⟩) (fun h1 => ?_)
 have h1' : ¬ s.length < 1 := by omega
 refine Ok.pickP (fun h => Ok.ret ⟨by simp [nameM, h1', show 24 < s.length by omega], Ext.refl S⟩) (fun h2 => ?_)
 have h2' : ¬ 24 < s.length := by omega
 simp only [rangeV, newBlk_none, dR_ok]
 have hx := Ext.new w (.iter s 0)
 refine Ok.loop (F := fun k K => m88_l0 (callD prog dPl dLv k) k K (.ptr S.next 0 0 0)) (ρ := Bool) (α := Nat × Nat) (X := Bool) (runes s s.length 0) (step := nameStep) (s := ()) (fin := fun _ => true) (out := fun k K x S' => K (.bool x) S')
  (fun i _ vs S' => vs = [.bool false] ∧ Ext S S' ∧ S.next < S'.next ∧ ∃ pos f, S'.heap.get S.next = some (.iter s pos) ∧ (runes s s.length 0).drop i = runes s f pos ∧ s.length ≤ f + pos) (fun r x S' => r = x ∧ Ext S S') ?_ ?_
  ⟨rfl, hx, Nat.lt_succ_self _, 0, s.length, Tr.get_put_sameB _ _ _ trivial, rfl, by omega⟩ ?_
 ·rintro i ⟨q, r⟩ _ vs S1 ⟨rfl, x1, hn, pos, f, hg, hd, hf⟩ hi
  have hd0 := congrArg (·[0]?) hd
  simp only [List.getElem?_drop, Nat.add_zero, hi] at hd0
  cases f with
  | zero => simp [runes] at hd0
  | succ f =>
   have hl : pos < s.length := by
    by_cases hl : pos < s.length
    ·exact hl
    ·simp [runes, hl] at hd0
   have hd2 : runes s (f + 1) pos = (pos, (Utf8.decode ⟨⟨s⟩⟩ pos).1) :: runes s f (pos + (Utf8.decode ⟨⟨s⟩⟩ pos).2) := by simp only [runes, hl, if_true]
   rw [hd2] at hd0 hd
   simp only [List.getElem?_cons_zero, Option.some.injEq, Prod.mk.injEq] at hd0
   obtain ⟨rfl, hr⟩ := hd0
   have hw := decode_wide ⟨⟨s⟩⟩ q
   have hd' : (runes s s.length 0).drop (i + 1) = runes s f (q + (Utf8.decode ⟨⟨s⟩⟩ q).2) := by rw [← List.drop_drop, hd]; rfl
   have hnx := next_at s S.next q S1 hg hl
   rw [← hr] at hnx
   generalize hS2 : (⟨S1.next, S1.heap.put S.next (.iter s (q + (Utf8.decode ⟨⟨s⟩⟩ q).2))⟩ : St) = S2 at hnx
   have hx2 : Ext S S2 := by rw [← hS2]; exact x1.set (Nat.le_refl _) hn w _
   have hg2 : S2.heap.get S.next = some (.iter s (q + (Utf8.decode ⟨⟨s⟩⟩ q).2)) := by rw [← hS2]; exact Tr.get_put_sameB _ _ _ trivial
   have hn2 : S.next < S2.next := by rw [← hS2]; exact hn
   obtain ⟨N, S3, x3, h⟩ := (g127 (r : Int) S2).get
   have hI : ([V.bool false] : List V) = [.bool false] ∧ Ext S S3 ∧ S.next < S3.next ∧ ∃ pos f, S3.heap.get S.next = some (.iter s pos) ∧ (runes s s.length 0).drop (i + 1) = runes s f pos ∧ s.length ≤ f + pos :=
    ⟨rfl, hx2.trans x3, Nat.lt_of_lt_of_le hn2 x3.next, _, f, x3.old _ _ hg2, hd', by omega⟩
   have e1 : ∀ c : Int, ((r : Int) = c) ↔ ((r : Int) = c) := fun _ => Iff.rfl
   by_cases hlet : letterM (r : Int) = true
   ·refine ⟨N, .inr ⟨(), _, S3, by simp only [nameStep, hlet, if_true], hI, fun k K again hk => ?_⟩⟩
    simp only [m88_l0, unD_cons, hnx, dR_ok, tupD_tup, List.getElem?_cons_zero, List.getElem?_cons_succ, dO_ok, pickD_true]
    rw [h k _ hk]
    simp only [hlet, pickD_true]
   ·have hlet' : letterM (r : Int) = false := by simpa using hlet
    by_cases hq : q = 0
    ·refine ⟨N, .inl ⟨false, false, S3, by simp only [nameStep, hlet', hq, if_true]; rfl, ⟨rfl, hx2.trans x3⟩, fun k K again hk => ?_⟩⟩
     have hq' : (q : Int) = 0 := by omega
     simp only [m88_l0, unD_cons, hnx, dR_ok, tupD_tup, List.getElem?_cons_zero, List.getElem?_cons_succ, dO_ok, pickD_true]
     rw [h k _ hk]
     simp only [hlet', pickD_false, guard_int, dIf_true, bin_eql, dR_ok, hq', decide_true, pickD_true]
    ·have hq' : ¬ (q : Int) = 0 := by omega
     have key : ∀ (K : KS) (again : List V → St → An) (k : Nat), N ≤ k → m88_l0 (callD prog dPl dLv k) k K (.ptr S.next 0 0 0) [.bool false] S1 again =
       if (48 ≤ r ∧ r ≤ 57) ∨ r = 45 ∨ r = 95 ∨ r = 46 then again [.bool false] S3 else K (.bool false) S3 := by
      intro K again k hk
      simp only [m88_l0, unD_cons, hnx, dR_ok, tupD_tup, List.getElem?_cons_zero, List.getElem?_cons_succ, dO_ok, pickD_true]
      rw [h k _ hk]
      simp only [hlet', pickD_false, guard_int, dIf_true, bin_eql, bin_geq, bin_leq, dR_ok, hq', decide_false, un_not, Bool.not_true, pickD_bool, decide_eq_true_eq, Bool.false_eq_true, if_false]
      by_cases c1 : (48 : Int) ≤ (r : Int)
      ·rw [if_pos c1]
       by_cases c2 : (r : Int) ≤ 57
       ·rw [if_pos c2, if_pos (.inl ⟨by omega, by omega⟩)]
       ·rw [if_neg c2]
        by_cases c3 : (r : Int) = 45
        ·omega
        ·rw [if_neg c3]
         by_cases c4 : (r : Int) = 95
         ·rw [if_pos c4, if_pos (by omega)]
         ·rw [if_neg c4]
          by_cases c5 : (r : Int) = 46
          ·omega
          ·simp only [c5, decide_false, Bool.not_false, if_true]
           rw [if_neg (by omega)]
      ·rw [if_neg c1]
       by_cases c3 : (r : Int) = 45
       ·rw [if_pos c3, if_pos (by omega)]
       ·rw [if_neg c3]
        by_cases c4 : (r : Int) = 95
        ·omega
        ·rw [if_neg c4]
         by_cases c5 : (r : Int) = 46
         ·simp only [c5, decide_true, Bool.not_true, Bool.false_eq_true, if_false]
          rw [if_pos (by omega)]
         ·simp only [c5, decide_false, Bool.not_false, if_true]
          rw [if_neg (by omega)]
     by_cases hc : (48 ≤ r ∧ r ≤ 57) ∨ r = 45 ∨ r = 95 ∨ r = 46
     ·exact ⟨N, .inr ⟨(), _, S3, by simp only [nameStep, hlet', hq, hc, if_true, if_false]; rfl, hI, fun k K again hk => by rw [key K again k hk, if_pos hc]⟩⟩
     ·exact ⟨N, .inl ⟨false, false, S3, by simp only [nameStep, hlet', hq, hc, if_false]; rfl, ⟨rfl, hx2.trans x3⟩, fun k K again hk => by rw [key K again k hk, if_neg hc]⟩⟩
 ·rintro _ vs S1 ⟨rfl, x1, hn, pos, f, hg, hd, hf⟩
  have hl : s.length ≤ pos := by
   rw [List.drop_length] at hd
   cases f with
   | zero => omega
   | succ f =>
    by_cases hl : pos < s.length
    ·simp [runes, hl] at hd
    ·omega
  refine ⟨0, true, S1, ⟨rfl, x1⟩, fun k K again _ => ?_⟩
  simp only [m88_l0, unD_cons, next_end s S.next pos S1 hg hl, dR_ok, tupD_tup, List.getElem?_cons_zero, dO_ok, pickD_false]
 ·rintro x S1 ⟨rfl, x1⟩
  exact Ok.ret ⟨by simp only [nameM, h1', h2', if_false], x1⟩
structure Rate where
 cat : List UInt8
 day : Date
 bp : Int
deriving DecidableEq
def Rate.enc (r : Rate) : List V := [.str r.cat, .int .i64 r.day.y, .int .i64 r.day.m, .int .i64 r.day.d, .int .i64 r.bp]
def rowM (r : Rate) : Int := if nameM r.cat = false then 8 else if r.day.right = false then 9 else if r.bp < 0 then 10 else if 100000 < r.bp then 10 else 0
theorem g86 (r : Rate) (S : St) (w : WF S) : Gives 86 [.agg r.enc] S (.int .i64 (rowM r)) := by
 refine e86 ?_
 have ho : allOne r.enc = true := rfl
 have hl : r.enc.length = 5 := rfl
 have hc : (V.agg r.enc).cells = r.enc := rfl
 have hx := Ext.new w (.row 0 5 [r.enc])
 have h0 : loadW none (.ptr S.next 0 0 (0 + 0)) (⟨S.next + 1, S.heap.put S.next (.row 0 5 [r.enc])⟩ : St) = .ok (.str r.cat) := by rw [load_put]; rfl
 have h1 : loadW (some 3) (.ptr S.next 0 0 (0 + 1)) (⟨S.next + 1, S.heap.put S.next (.row 0 5 [r.enc])⟩ : St) = .ok (.agg r.day.enc) := by rw [load_put]; rfl
 have h4 : loadW none (.ptr S.next 0 0 (0 + 4)) (⟨S.next + 1, S.heap.put S.next (.row 0 5 [r.enc])⟩ : St) = .ok (.int .i64 r.bp) := by rw [load_put]; rfl
 simp only [m86, ho, dIf_true, newBlk_none, dR_ok, hl, hc, fa40_0, adv_ptr, ld9, h0]
 refine (g88 r.cat _ (hx.wf w)).call fun S1 x1 => ?_
 simp only [un_not, dR_ok]
 refine Ok.pick (fun h => Ok.ret ⟨?_, hx.trans x1⟩) (fun h => ?_)
 ·have : nameM r.cat = false := by simpa using h
  simp [rowM, this]
 ·have hn : nameM r.cat = true := by simpa using h
  simp only [fa40_1, adv_ptr, dR_ok, ld38, load_ext x1 h1]
  refine (g89 r.day _ ((hx.trans x1).wf w)).call fun S2 x2 => ?_
  simp only [un_not, dR_ok]
  refine Ok.pick (fun h => Ok.ret ⟨?_, (hx.trans x1).trans x2⟩) (fun h => ?_)
  ·have : r.day.right = false := by simpa using h
   simp [rowM, hn, this]
  ·have hd : r.day.right = true := by simpa using h
   simp only [fa40_2, adv_ptr, dR_ok, ld3, load_ext (x1.trans x2) h4, bin_lss, bin_gtr]
   refine Ok.pickP (fun h => Ok.ret ⟨by simp [rowM, hn, hd, h], (hx.trans x1).trans x2⟩) (fun h => ?_)
   refine Ok.pickP (fun h' => Ok.ret ⟨by simp [rowM, hn, hd, h'], (hx.trans x1).trans x2⟩) (fun h' => Ok.ret ⟨by simp [rowM, hn, hd, h, h'], (hx.trans x1).trans x2⟩)
def aheadR (a b : Rate) : Bool := if ltB a.cat b.cat = true then true else if (a.cat == b.cat) = true then a.day.before b.day else false
theorem g87 (a b : Rate) (S : St) (w : WF S) : Gives 87 [.agg a.enc, .agg b.enc] S (.bool (aheadR a b)) := by
 refine e87 ?_
 have ho : ∀ r : Rate, allOne r.enc = true := fun _ => rfl
 have hl : ∀ r : Rate, r.enc.length = 5 := fun _ => rfl
 have hx1 := Ext.new w (.row 0 5 [a.enc])
 have hx2 := Ext.new (hx1.wf w) (.row 0 5 [b.enc])
 have hx := hx1.trans hx2
 have la : ∀ k j v, partW k a.enc j = .ok v → loadW k (.ptr S.next 0 0 j) (⟨S.next + 1 + 1, (S.heap.put S.next (.row 0 5 [a.enc])).put (S.next + 1) (.row 0 5 [b.enc])⟩ : St) = .ok v :=
  fun k j v h => load_ext hx2 (by rw [load_put]; exact h)
 have lb : ∀ k j v, partW k b.enc j = .ok v → loadW k (.ptr (S.next + 1) 0 0 j) (⟨S.next + 1 + 1, (S.heap.put S.next (.row 0 5 [a.enc])).put (S.next + 1) (.row 0 5 [b.enc])⟩ : St) = .ok v :=
  fun k j v h => by rw [load_put]; exact h
 simp only [m87, agg_cells, ho, dIf_true, newBlk_none, dR_ok, hl, fa40_0, fa40_1, adv_ptr, ld9, ld38, la none (0 + 0) (.str a.cat) rfl, lb none (0 + 0) (.str b.cat) rfl, la (some 3) (0 + 1) (.agg a.day.enc) rfl, lb (some 3) (0 + 1) (.agg b.day.enc) rfl, str_lss, str_eql, guard_str]
 refine Ok.pick (fun h => Ok.ret ⟨by simp [aheadR, h], hx⟩) (fun h => ?_)
 refine Ok.pick (fun h' => ?_) (fun h' => Ok.ret ⟨by simp only [aheadR, h, h', if_false, Bool.false_eq_true], hx⟩)
 refine (g119 a.day b.day _ (hx.wf w)).call fun S1 x1 => ?_
 exact Ok.ret ⟨by simp only [aheadR, h, h', if_false, if_true, Bool.false_eq_true], hx.trans x1⟩
def tableStep (prev : Option Rate) (r : Rate) : Bool ⊕ Option Rate :=
 if rowM r ≠ 0 then .inl false else match prev with
  | none => .inr (some r)
  | some p => if aheadR p r = true then .inr (some r) else .inl false
def tableM (l : List Rate) : Bool := if 24 < l.length then false else runL tableStep (fun _ => true) l none
def prevAt {α : Type} (l : List α) (i : Nat) : Option α := if i = 0 then none else l[i - 1]?
theorem g47 (v : V) (l : List Rate) (S : St) (w : WF S) (hs : Sl S 5 v (l.map Rate.enc)) : Gives 47 [v] S (.bool (tableM l)) := by
 refine e47 ?_
 simp only [m47, len24, hs.lenI, dR_ok, bin_gtr]
 refine Ok.pickP (fun h => Ok.ret ⟨by simp [tableM, show 24 < l.length by omega], Ext.refl S⟩) (fun h24 => ?_)
 have h24' : ¬ 24 < l.length := by omega
 refine Ok.loop (F := fun k K => m47_l0 (callD prog dPl dLv k) k K v v (.int .i64 l.length)) (ρ := Bool) (α := Rate) (X := Bool) l (step := tableStep) (fin := fun _ => true) (out := fun k K x S' => K (.bool x) S') (s := none)
  (fun i prev vs S' => vs = [.bool false, .int .i64 (i : Int)] ∧ Ext S S' ∧ prev = prevAt l i) (fun r x S' => r = x ∧ Ext S S') ?_ ?_ ⟨rfl, Ext.refl S, rfl⟩ ?_
 ·rintro i r prev vs S1 ⟨rfl, x1, hprev⟩ hi
  have hil : i < l.length := (List.getElem?_eq_some_iff.1 hi).1
  have hlt : (i : Int) < (l.length : Int) := by omega
  have hw : wr .i64 ((i : Int) + 1) = ((i + 1 : Nat) : Int) := by rw [wr64 (by omega) (by omega)]; omega
  obtain ⟨p, hp, hld, hst, hxv, hv⟩ := (hs.ext x1).var (x1.wf w) hi [.str [],.int .i64 0,.int .i64 0,.int .i64 0,.int .i64 0] rfl
  generalize S1.var 5 [.str [],.int .i64 0,.int .i64 0,.int .i64 0,.int .i64 0] r.enc = S2 at hst hxv hv
  have hb : Ext S2 ⟨S2.next + 17, S2.heap⟩ := (Ext.refl S2).bump 17
  have hall : partW (some 5) r.enc 0 = .ok (.agg r.enc) := rfl
  obtain ⟨N1, S3, x3, h3⟩ := (g86 r (⟨S2.next + 17, S2.heap⟩ : St) ((x1.trans (hxv.trans hb)).wf w)).get
  have x13 := x1.trans (hxv.trans (hb.trans x3))
  have pre : ∀ (K : KS) (again : List V → St → An) (k : Nat), N1 ≤ k → m47_l0 (callD prog dPl dLv k) k K v v (.int .i64 l.length) [.bool false, .int .i64 (i : Int)] S1 again =
    pickD (.bool (!decide (rowM r = 0))) (K (.bool false) S3) (pickD (.bool (decide (0 < (i : Int))))
     (dR (idxW 5 v (.int .i64 (wr .i64 ((i : Int) - 1)))) fun t14 => dR (loadW (some 5) t14 S3) fun t15 => callD prog dPl dLv k 87 [t15, .agg r.enc] S3 fun t17 S18 =>
      dR (unV .not t17) fun t19 => pickD t19 (K (.bool false) S18) (again [.bool false, .int .i64 ((i + 1 : Nat) : Int)] S18))
     (again [.bool false, .int .i64 ((i + 1 : Nat) : Int)] S3)) := by
   intro K again k hk
   simp only [m47_l0, unD_cons, bin_lss, dR_ok, hlt, decide_true, pickD_true, ix24, hp, ld40, hld, newBlk_none, st40, hst, hv _ hb, hall]
   rw [h3 k _ hk]
   simp only [guard_int, dIf_true, bin_neq, bin_gtr, bin_sub, bin_add, dR_ok, hw, hv _ (hb.trans x3), hall]
  by_cases hr : rowM r = 0
  ·by_cases h0 : i = 0
   ·subst h0
    refine ⟨N1, .inr ⟨some r, _, S3, ?_, ⟨rfl, x13, ?_⟩, fun k K again hk => ?_⟩⟩
    ·rw [hprev]; simp [tableStep, hr, prevAt]
    ·simp [prevAt, hi]
    ·rw [pre K again k hk]
     simp only [hr, decide_true, Bool.not_true, pickD_false]
     rfl
   ·have hpos : 0 < (i : Int) := by omega
    have hm1 : wr .i64 ((i : Int) - 1) = ((i - 1 : Nat) : Int) := by rw [wr64 (by omega) (by omega)]; omega
    have hi1 : i - 1 < l.length := by omega
    have hq : l[i - 1]? = some l[i - 1] := List.getElem?_eq_getElem hi1
    obtain ⟨p2, hp2, hat2, hl2, _⟩ := (hs.ext x13).elem hq
    obtain ⟨N2, S4, x4, h4⟩ := (g87 l[i - 1] r S3 (x13.wf w)).get
    have fin : ∀ (K : KS) (again : List V → St → An) (k : Nat), max N1 N2 ≤ k → m47_l0 (callD prog dPl dLv k) k K v v (.int .i64 l.length) [.bool false, .int .i64 (i : Int)] S1 again =
      pickD (.bool (!aheadR l[i - 1] r)) (K (.bool false) S4) (again [.bool false, .int .i64 ((i + 1 : Nat) : Int)] S4) := by
     intro K again k hk
     rw [pre K again k (by omega)]
     simp only [hr, decide_true, Bool.not_true, pickD_false, hpos, pickD_true, hm1, hp2, dR_ok, hat2.load0, partW_all _ _ hl2]
     rw [h4 k _ (by omega)]
     simp only [un_not, dR_ok]
    by_cases ha : aheadR l[i - 1] r = true
    ·refine ⟨max N1 N2, .inr ⟨some r, _, S4, ?_, ⟨rfl, x13.trans x4, ?_⟩, fun k K again hk => ?_⟩⟩
     ·rw [hprev]; simp [tableStep, hr, prevAt, h0, hq, ha]
     ·simp [prevAt, hi]
     ·rw [fin K again k hk, ha]; rfl
    ·have ha' : aheadR l[i - 1] r = false := by simpa using ha
     refine ⟨max N1 N2, .inl ⟨false, false, S4, ?_, ⟨rfl, x13.trans x4⟩, fun k K again hk => ?_⟩⟩
     ·rw [hprev]; simp [tableStep, hr, prevAt, h0, hq, ha']
     ·rw [fin K again k hk, ha']; rfl
  ·refine ⟨N1, .inl ⟨false, false, S3, by simp [tableStep, hr], ⟨rfl, x13⟩, fun k K again hk => ?_⟩⟩
   rw [pre K again k hk]
   simp only [hr, decide_false, Bool.not_false, pickD_true]
 ·rintro prev vs S1 ⟨rfl, x1, _⟩
  have hlt : ¬ (l.length : Int) < (l.length : Int) := by omega
  refine ⟨0, true, S1, ⟨rfl, x1⟩, fun k K again _ => ?_⟩
  simp only [m47_l0, unD_cons, bin_lss, dR_ok, hlt, decide_false, pickD_false]
 ·rintro x S1 ⟨rfl, x1⟩
  exact Ok.ret ⟨by simp only [tableM, h24', if_false], x1⟩
structure Rep where
 why : Int
 number : Int
 gross : Int
deriving DecidableEq
structure Sess where
 id : Int
 last : Int
 reply : Rep
deriving DecidableEq
def Rep.enc (r : Rep) : List V := [.int .i64 r.why, .int .i64 r.number, .int .i64 r.gross]
def Sess.enc (s : Sess) : List V := [.int .i64 s.id, .int .i64 s.last, .int .i64 s.reply.why, .int .i64 s.reply.number, .int .i64 s.reply.gross]
def Rep.zero : Rep := ⟨0, 0, 0⟩
theorem rep_neq (a b : Rep) : binV prog .neq 34 (.agg a.enc) (.agg b.enc) = .ok (.bool (!decide (a = b))) := by
 have h := eq34 a.why a.number a.gross b.why b.number b.gross
 simp only [binV, Rep.enc, h]
 congr 3
 obtain ⟨x, y, z⟩ := a
 obtain ⟨x', y', z'⟩ := b
 simp only [Rep.mk.injEq]
 by_cases h1 : x = x' <;> by_cases h2 : y = y' <;> by_cases h3 : z = z' <;> simp [h1, h2, h3]
theorem gd34' (a b : Rep) : guardP prog 34 (.agg a.enc) (.agg b.enc) = true := congrFun (congrFun gd34 a.enc) b.enc
theorem bd34z : buildW [.int .i64 0,.int .i64 0,.int .i64 0] [(0, 1), (1, 1), (2, 1)] [] = .ok (.agg Rep.zero.enc) := rfl
def sessStep (last : Int) (s : Sess) : Bool ⊕ Int :=
 if s.id ≤ last then .inl false else if s.last < 0 then .inl false else if 1099511627776 < s.last then .inl false else if s.last = 0 ∧ s.reply ≠ Rep.zero then .inl false else .inr s.id
def sessM (l : List Sess) : Bool := if 8 < l.length then false else runL sessStep (fun _ => true) l 0
theorem g65 (v : V) (l : List Sess) (S : St) (w : WF S) (hs : Sl S 5 v (l.map Sess.enc)) : Gives 65 [v] S (.bool (sessM l)) := by
 refine e65 ?_
 simp only [m65, len28, hs.lenI, dR_ok, bin_gtr]
 refine Ok.pickP (fun h => Ok.ret ⟨by simp [sessM, show 8 < l.length by omega], Ext.refl S⟩) (fun h8 => ?_)
 have h8' : ¬ 8 < l.length := by omega
 refine Ok.loop (F := fun k K => m65_l0 (callD prog dPl dLv k) k K v (.int .i64 l.length)) (ρ := Bool) (α := Sess) (X := Bool) l (step := sessStep) (fin := fun _ => true) (out := fun k K x S' => K (.bool x) S') (s := 0)
  (fun i last vs S' => vs = [.bool false, .int .i64 last, .int .i64 (i : Int)] ∧ Ext S S') (fun r x S' => r = x ∧ Ext S S') ?_ ?_ ⟨rfl, Ext.refl S⟩ ?_
 ·rintro i s last vs S1 ⟨rfl, x1⟩ hi
  have hil : i < l.length := (List.getElem?_eq_some_iff.1 hi).1
  have hlt : (i : Int) < (l.length : Int) := by omega
  have hw : wr .i64 ((i : Int) + 1) = ((i + 1 : Nat) : Int) := by rw [wr64 (by omega) (by omega)]; omega
  obtain ⟨p, hp, hld, hst, hxv, hv⟩ := (hs.ext x1).var (x1.wf w) hi [.int .i64 0,.int .i64 0,.int .i64 0,.int .i64 0,.int .i64 0] rfl
  generalize S1.var 5 [.int .i64 0,.int .i64 0,.int .i64 0,.int .i64 0,.int .i64 0] s.enc = S2 at hst hxv hv
  have v0 : loadW none (.ptr S1.next 0 0 (0 + 0)) S2 = .ok (.int .i64 s.id) := by rw [hv S2 (Ext.refl _)]; rfl
  have v1 : loadW none (.ptr S1.next 0 0 (0 + 1)) S2 = .ok (.int .i64 s.last) := by rw [hv S2 (Ext.refl _)]; rfl
  have v2 : loadW (some 3) (.ptr S1.next 0 0 (0 + 2)) S2 = .ok (.agg s.reply.enc) := by rw [hv S2 (Ext.refl _)]; rfl
  have pre : ∀ (K : KS) (again : List V → St → An) (k : Nat), m65_l0 (callD prog dPl dLv k) k K v (.int .i64 l.length) [.bool false, .int .i64 last, .int .i64 (i : Int)] S1 again =
    if s.id ≤ last then K (.bool false) S2 else if s.last < 0 then K (.bool false) S2 else if 1099511627776 < s.last then K (.bool false) S2 else if s.last = 0 then (if s.reply = Rep.zero then again [.bool false, .int .i64 s.id, .int .i64 ((i + 1 : Nat) : Int)] S2 else K (.bool false) S2)
     else again [.bool false, .int .i64 s.id, .int .i64 ((i + 1 : Nat) : Int)] S2 := by
   intro K again k
   simp only [m65_l0, unD_cons, bin_lss, bin_leq, bin_gtr, bin_eql, bin_add, guard_int, dIf_true, dR_ok, hlt, decide_true, pickD_true, ix28, hp, ld84, hld, newBlk_none, st84, hst, fa84_0, fa84_1, fa84_2, adv_ptr, ld3, ld34, v0, v1, v2, bd34, bd34z, gd34', rep_neq, hw, pickD_bool, decide_eq_true_eq, Bool.not_eq_true', decide_eq_false_iff_not, ite_not, if_true]
  by_cases c1 : s.id ≤ last
  ·exact ⟨0, .inl ⟨false, false, S2, by simp only [sessStep, c1, if_true], ⟨rfl, x1.trans hxv⟩, fun k K again _ => by rw [pre, if_pos c1]⟩⟩
  ·by_cases c2 : s.last < 0
   ·exact ⟨0, .inl ⟨false, false, S2, by simp only [sessStep, c1, c2, if_true, if_false], ⟨rfl, x1.trans hxv⟩, fun k K again _ => by rw [pre, if_neg c1, if_pos c2]⟩⟩
   ·by_cases c3 : 1099511627776 < s.last
    ·exact ⟨0, .inl ⟨false, false, S2, by simp only [sessStep, c1, c2, c3, if_true, if_false], ⟨rfl, x1.trans hxv⟩, fun k K again _ => by rw [pre, if_neg c1, if_neg c2, if_pos c3]⟩⟩
    ·by_cases c4 : s.last = 0
     ·by_cases c5 : s.reply = Rep.zero
      ·exact ⟨0, .inr ⟨s.id, _, S2, by simp [sessStep, c1, c2, c3, c4, c5], ⟨rfl, x1.trans hxv⟩, fun k K again _ => by rw [pre, if_neg c1, if_neg c2, if_neg c3, if_pos c4, if_pos c5]⟩⟩
      ·refine ⟨0, .inl ⟨false, false, S2, ?_, ⟨rfl, x1.trans hxv⟩, fun k K again _ => by rw [pre, if_neg c1, if_neg c2, if_neg c3, if_pos c4, if_neg c5]⟩⟩
       unfold sessStep
       rw [if_neg c1, if_neg c2, if_neg c3, if_pos ⟨c4, c5⟩]
     ·refine ⟨0, .inr ⟨s.id, _, S2, ?_, ⟨rfl, x1.trans hxv⟩, fun k K again _ => by rw [pre, if_neg c1, if_neg c2, if_neg c3, if_neg c4]⟩⟩
      unfold sessStep
      rw [if_neg c1, if_neg c2, if_neg c3, if_neg (fun h => c4 h.1)]
 ·rintro last vs S1 ⟨rfl, x1⟩
  have hlt : ¬ (l.length : Int) < (l.length : Int) := by omega
  refine ⟨0, true, S1, ⟨rfl, x1⟩, fun k K again _ => ?_⟩
  simp only [m65_l0, unD_cons, bin_lss, dR_ok, hlt, decide_false, pickD_false]
 ·rintro x S1 ⟨rfl, x1⟩
  exact Ok.ret ⟨by simp only [sessM, h8', if_false], x1⟩
def ixStep {α : Type} (p : α → Bool) (n : Nat) (a : α) : Int ⊕ Nat := if p a = true then .inl (n : Int) else .inr (n + 1)
def ixM {α : Type} (p : α → Bool) (l : List α) : Int := runL (ixStep p) (fun _ => -1) l 0
theorem ixM_range {α : Type} (p : α → Bool) : ∀ (l : List α) (n : Nat), (runL (ixStep p) (fun _ => -1) l n = -1) ∨ ∃ (i : Nat) (a : α), runL (ixStep p) (fun _ => -1) l n = ((n + i : Nat) : Int) ∧ l[i]? = some a ∧ p a = true
 | [], n => .inl rfl
 | a :: l, n => by
  by_cases h : p a = true
  ·refine .inr ⟨0, a, ?_, rfl, h⟩
   simp [runL, ixStep, h]
  ·rcases ixM_range p l (n + 1) with h1 | ⟨i, b, h1, h2, h3⟩
   ·left; simp [runL, ixStep, h, h1]
   ·right
    refine ⟨i + 1, b, ?_, by simpa using h2, h3⟩
    simp only [runL, ixStep, h, if_false]
    simp only [h1, Bool.false_eq_true, if_false]
    omega
theorem ixM_cases {α : Type} (p : α → Bool) (l : List α) : (ixM p l = -1) ∨ ∃ (i : Nat) (a : α), ixM p l = (i : Int) ∧ l[i]? = some a ∧ p a = true := by
 rcases ixM_range p l 0 with h | ⟨i, a, h1, h2, h3⟩
 ·exact .inl h
 ·exact .inr ⟨i, a, by rw [ixM, h1]; simp, h2, h3⟩
theorem ht111 : hasText prog 111 = some none := by kernel_rfl
theorem g111 (s : Sess) (id : Int) (q : Nat) (S : St) (w : WF S) (hq : getRow S q 0 = .ok (1, [[.int .i64 id]])) : Gives 111 [.agg s.enc, .ptr q 0 0 0] S (.bool (decide (s.id = id))) := by
 refine e111 ?_
 have ho : allOne s.enc = true := rfl
 have hl : s.enc.length = 5 := rfl
 have hx := Ext.new w (.row 0 5 [s.enc])
 have h0 : loadW none (.ptr S.next 0 0 (0 + 0)) (⟨S.next + 1, S.heap.put S.next (.row 0 5 [s.enc])⟩ : St) = .ok (.int .i64 s.id) := by rw [load_put]; rfl
 have h1 : loadW none (.ptr q 0 0 0) (⟨S.next + 1, S.heap.put S.next (.row 0 5 [s.enc])⟩ : St) = .ok (.int .i64 id) := by rw [load_one _ _ _ _ _ (hx.row hq)]; rfl
 simp only [m111, agg_cells, ho, dIf_true, newBlk_none, dR_ok, hl, fa84_0, adv_ptr, ld3, h0, h1, guard_int, bin_eql]
 exact Ok.ret ⟨rfl, hx⟩
theorem g110 (v : V) (l : List Sess) (id : Int) (q : Nat) (S : St) (w : WF S) (hs : Sl S 5 v (l.map Sess.enc)) (hb : l.length < 1000000) (hq : getRow S q 0 = .ok (1, [[.int .i64 id]])) :
  Gives 110 [v, .func 111 [] [.ptr q 0 0 0]] S (.int .i64 (ixM (fun s : Sess => decide (s.id = id)) l)) := by
 refine e110 ?_
 simp only [m110, len28, hs.lenI, dR_ok]
 refine Ok.loop (F := fun k K => m110_l0 (callD prog dPl dLv k) k K v (.func 111 [] [.ptr q 0 0 0]) (.int .i64 l.length)) (ρ := Int) (α := Sess) (X := Int) l (step := ixStep fun s : Sess => decide (s.id = id)) (fin := fun _ => -1) (out := fun k K x S' => K (.int .i64 x) S') (s := 0)
  (fun i n vs S' => n = i ∧ vs = [.int .i64 0, .int .i64 (i : Int)] ∧ Ext S S') (fun r x S' => r = x ∧ Ext S S') ?_ ?_ ⟨rfl, rfl, Ext.refl S⟩ ?_
 ·rintro i s n vs S1 ⟨rfl, rfl, x1⟩ hi
  have hil : n < l.length := (List.getElem?_eq_some_iff.1 hi).1
  have hlt : (n : Int) < (l.length : Int) := by omega
  have hw : wr .i64 ((n : Int) + 1) = ((n + 1 : Nat) : Int) := by rw [wr64 (by omega) (by omega)]; omega
  obtain ⟨p, hp, hat, hl5, _⟩ := (hs.ext x1).elem hi
  obtain ⟨N, S2, x2, h⟩ := (g111 s id q S1 (x1.wf w) (x1.row hq)).get
  have pre : ∀ (K : KS) (again : List V → St → An) (k : Nat), N ≤ k → m110_l0 (callD prog dPl dLv k) k K v (.func 111 [] [.ptr q 0 0 0]) (.int .i64 l.length) [.int .i64 0, .int .i64 (n : Int)] S1 again =
    if s.id = id then K (.int .i64 n) S2 else again [.int .i64 0, .int .i64 ((n + 1 : Nat) : Int)] S2 := by
   intro K again k hk
   simp only [m110_l0, unD_cons, bin_lss, dR_ok, hlt, decide_true, pickD_true, ix28, hp, ld84, hat.load0, partW_all _ _ hl5, funD_func _ _ _ _ _ _ _ _ ht111, List.nil_append, List.cons_append]
   rw [h k _ hk]
   simp only [bin_add, dR_ok, hw, pickD_bool, decide_eq_true_eq]
  by_cases c : s.id = id
  ·exact ⟨N, .inl ⟨(n : Int), (n : Int), S2, by simp [ixStep, c], ⟨rfl, x1.trans x2⟩, fun k K again hk => by rw [pre K again k hk, if_pos c]⟩⟩
  ·exact ⟨N, .inr ⟨n + 1, _, S2, by simp [ixStep, c], ⟨rfl, rfl, x1.trans x2⟩, fun k K again hk => by rw [pre K again k hk, if_neg c]⟩⟩
 ·rintro n vs S1 ⟨rfl, rfl, x1⟩
  have hlt : ¬ (l.length : Int) < (l.length : Int) := by omega
  refine ⟨0, -1, S1, ⟨rfl, x1⟩, fun k K again _ => ?_⟩
  simp only [m110_l0, unD_cons, bin_lss, dR_ok, hlt, decide_false, pickD_false]
 ·rintro x S1 ⟨rfl, x1⟩
  exact Ok.ret ⟨rfl, x1⟩
def sessAt (l : List Sess) (id : Int) : Int := ixM (fun s : Sess => decide (s.id = id)) l
theorem g66 (v : V) (l : List Sess) (id : Int) (S : St) (w : WF S) (hs : Sl S 5 v (l.map Sess.enc)) (hb : l.length < 1000000) : Gives 66 [v, .int .i64 id] S (.int .i64 (sessAt l id)) := by
 refine e66 ?_
 have hx := Ext.new w (.row 0 1 [[.int .i64 id]])
 have ho : allOne (V.int .i64 id).cells = true := rfl
 have hl : (V.int .i64 id).cells.length = 1 := rfl
 have hc : (V.int .i64 id).cells = [.int .i64 id] := rfl
 have hq : getRow (⟨S.next + 1, S.heap.put S.next (.row 0 1 [[.int .i64 id]])⟩ : St) S.next 0 = .ok (1, [[.int .i64 id]]) := getRow_put _ _ _ _ _ _
 simp only [m66, ho, hl, hc, dIf_true, newBlk_none, dR_ok]
 refine (g110 v l id S.next _ (hx.wf w) (hs.ext hx) hb hq).call fun S1 x1 => ?_
 exact Ok.ret ⟨rfl, hx.trans x1⟩
end Go.Proofs.YtjbicclbalagbaaGreat
end
