import Derived.KernelRfl
import Derived.Test.YtbiidlmhadihlaaProg
import Derived.Test.YtbiidlmhadihlaaX1
set_option linter.unusedSimpArgs false
set_option linter.unusedVariables false
set_option linter.unusedSectionVars false
set_option maxRecDepth 100000
section
namespace Go.Proofs.Ytbiidlmhadihlaa
open Go.AM Try
noncomputable def aK5 (C:aT) (k:Nat) (K:KS) (again0:List V→St→An) (p0 p3 p8 p9 p11 p13:V) (S:St):An:=
dR (aP prog 25 p3 p13) fun t31=>
dR (aB prog 40 t31 S) fun t32=>
C 15 [p9,p11,t32] S fun t33 S34=>
dR (oT .not t33) fun t35=>
aC t35 (K (.bool false) S34) (C 16 [p9,p11] S34 fun t36 S37=>
dR (oT .not t36) fun t38=>
aC t38 (K (.bool false) S37) (dR (aD prog .add 3 p13 (.int .i64 1)) fun t39=>
again0 [p8,p9,p11,t39] S37))
noncomputable def rP (C:aT) (k:Nat) (K:KS) (p0 p3:V) (vs:List V) (S:St) (again0:List V→St→An):An:=
gS vs fun x8 vs=>
gS vs fun x9 vs=>
gS vs fun x11 vs=>
gS vs fun x13 vs=>
dR (bZ prog 25 p3 S) fun t21=>
dR (aD prog .lss 3 x13 t21) fun t22=>
aC t22 (dR (aD prog .lss 3 x13 (.int .i64 60)) fun t23=>
aC t23 (bG (aH prog 28 x9 (.nilp)) (dR (aD prog .neq 28 x9 (.nilp)) fun t24=>
aC t24 (dR (aP prog 25 p3 x13) fun t25=>
dR (aB prog 40 t25 S) fun t26=>
C 13 [t26] S fun t27 S28=>
dR (oT .not t27) fun t29=>
aC t29 (dR (aD prog .add 3 x13 (.int .i64 1)) fun t30=>
again0 [x8,x9,x11,t30] S28) (dR (aP prog 25 p3 x13) fun t40=>
dR (aA prog 40 t40 0) fun t41=>
dR (aB prog 3 t41 S28) fun t42=>
bG (aH prog 3 t42 (.int .i64 6)) (dR (aD prog .eql 3 t42 (.int .i64 6)) fun t43=>
aC t43 (dR (aP prog 25 p3 x13) fun t44=>
dR (aA prog 40 t44 1) fun t45=>
dR (aB prog 3 t45 (⟨S28.next+14,S28.heap⟩:St)) fun t46=>
C 14 [x9] (⟨S28.next+14,S28.heap⟩:St) fun t47 S48=>
dR (aB prog 3 t45 S48) fun t49=>
bG (bN t46 t49) (C 11 [p0,t47,t46] S48 fun t50 S51=>
fT t50 0 fun t52=>
fT t50 1 fun t53=>
aN x11 (dR (aA prog 45 x11 0) fun t54=>
dR (aB prog 24 t54 (⟨S51.next+16,S51.heap⟩:St)) fun t55=>
dR (aP prog 25 p3 x13) fun t56=>
dR (aA prog 40 t56 1) fun t57=>
dR (aB prog 3 t57 (⟨S51.next+16,S51.heap⟩:St)) fun t58=>
C 12 [p0,t55,t58] (⟨S51.next+16,S51.heap⟩:St) fun t59 S60=>
fT t59 0 fun t61=>
fT t59 1 fun t62=>
bG (aH prog 28 t52 (.nilp)) (dR (aD prog .eql 28 t52 (.nilp)) fun t63=>
aC t63 (K (.bool false) S60) (bG (aH prog 32 t61 (.nilp)) (dR (aD prog .eql 32 t61 (.nilp)) fun t64=>
aC t64 (K (.bool false) S60) (bG (aH prog 29 t53 (.int .i64 0)) (dR (aD prog .neq 29 t53 (.int .i64 0)) fun t65=>
aC t65 (K (.bool false) S60) (bG (aH prog 3 t62 (.int .i64 0)) (dR (aD prog .neq 3 t62 (.int .i64 0)) fun t66=>
aC t66 (K (.bool false) S60) (aK5 C k K again0 p0 p3 x8 t52 t61 x13 S60))))))))))) (aK5 C k K again0 p0 p3 x8 x9 x11 x13 S28)))) (C 10 [] S fun t67 S68=>
K t67 S68))) (C 10 [] S fun t69 S70=>
K t69 S70)) (C 10 [] S fun t71 S72=>
K t71 S72)
noncomputable def m3 (C:aT) (k:Nat) (a0 a1 a2 a3:V) (S:St) (K:KS):An:=
bG (aU (a1:V).cells) (dR (bF none S (.row 0 (a1:V).cells.length [(a1:V).cells])) fun r0=>
dR (aB prog 24 (.ptr r0.1 0 0 0) r0.2) fun t1=>
C 9 [t1] r0.2 fun t2 S3=>
dR (oT .not t2) fun t4=>
aC t4 (C 10 [] S3 fun t5 S6=>
K t5 S6) (dR (aB prog 24 (.ptr r0.1 0 0 0) S3) fun t7=>
C 11 [a0,t7,a2] S3 fun t8 S9=>
fT t8 0 fun t10=>
fT t8 1 fun t11=>
dR (aB prog 24 (.ptr r0.1 0 0 0) S9) fun t12=>
C 12 [a0,t12,a2] S9 fun t13 S14=>
fT t13 0 fun t15=>
fT t13 1 fun t16=>
bG (aH prog 3 t11 t16) (dR (aD prog .neq 3 t11 t16) fun t17=>
aC t17 (K (.bool false) S14) (bG (aH prog 28 t10 (.nilp)) (dR (aD prog .eql 28 t10 (.nilp)) fun t18=>
bG (aH prog 32 t15 (.nilp)) (dR (aD prog .eql 32 t15 (.nilp)) fun t19=>
bG (aH prog 4 t18 t19) (dR (aD prog .neq 4 t18 t19) fun t20=>
aC t20 (K (.bool false) S14) (cQ k [(.bool false),t10,t15,(.int .i64 0)] S14 (rP C k K a0 a3)))))))))
theorem aVu:(fun (k:Nat) (a0 a1 a2 a3:V) (S:St) (K:KS)=>aE prog aW aX (k+1) 3 [a0,a1,a2,a3] S K)=fun k a0 a1 a2 a3 S K=>m3 (aE prog aW aX k) k a0 a1 a2 a3 S K:=by kernel_rfl
noncomputable def aK6 (C:aT) (k:Nat) (K:KS) (p1:V) (vs:List V) (S:St) (again0:List V→St→An):An:=
gS vs fun x2 vs=>
gS vs fun x3 vs=>
gS vs fun x4 vs=>
dR (aA prog 24 p1 6) fun t8=>
dR (aB prog 22 t8 S) fun t9=>
dR (bZ prog 22 t9 S) fun t10=>
dR (aD prog .lss 3 x4 t10) fun t11=>
aC t11 (dR (aA prog 24 p1 6) fun t12=>
dR (aB prog 22 t12 S) fun t13=>
dR (aP prog 22 t13 x4) fun t14=>
dR (aA prog 59 t14 2) fun t15=>
dR (aB prog 9 t15 S) fun t16=>
dR (bZ prog 9 t16 S) fun t17=>
dR (aD prog .add 3 x3 t17) fun t18=>
dR (aD prog .gtr 3 t18 (.int .i64 9000)) fun t19=>
aC t19 (K (.bool false) S) (dR (aD prog .add 3 x4 (.int .i64 1)) fun t20=>
again0 [x2,t18,t20] S)) (dR (aD prog .leq 3 x3 (.int .i64 9000)) fun t21=>
K t21 S)
noncomputable def m9 (C:aT) (k:Nat) (a0:V) (S:St) (K:KS):An:=
bG (aU (a0:V).cells) (dR (bF none S (.row 0 (a0:V).cells.length [(a0:V).cells])) fun r0=>
dR (aA prog 24 (.ptr r0.1 0 0 0) 5) fun t1=>
dR (aB prog 9 t1 r0.2) fun t2=>
dR (bZ prog 9 t2 r0.2) fun t3=>
dR (aA prog 24 (.ptr r0.1 0 0 0) 6) fun t4=>
dR (aB prog 22 t4 r0.2) fun t5=>
dR (bZ prog 22 t5 r0.2) fun t6=>
dR (aD prog .gtr 3 t6 (.int .i64 40)) fun t7=>
aC t7 (K (.bool false) r0.2) (cQ k [(.bool false),t3,(.int .i64 0)] r0.2 (aK6 C k K (.ptr r0.1 0 0 0))))
theorem aVv:(fun (k:Nat) (a0:V) (S:St) (K:KS)=>aE prog aW aX (k+1) 9 [a0] S K)=fun k a0 S K=>m9 (aE prog aW aX k) k a0 S K:=by kernel_rfl
noncomputable def m11 (C:aT) (k:Nat) (a0 a1 a2:V) (S:St) (K:KS):An:=
bG (aU (a1:V).cells) (dR (bF none S (.row 0 (a1:V).cells.length [(a1:V).cells])) fun r0=>
dR (aD prog .lss 3 a0 (.int .i64 0)) fun t1=>
aC t1 (K (.tup [(.nilp),(.int .i64 1)]) r0.2) (dR (aD prog .geq 3 a0 (.int .i64 7)) fun t2=>
aC t2 (K (.tup [(.nilp),(.int .i64 1)]) r0.2) (dR (aB prog 24 (.ptr r0.1 0 0 0) r0.2) fun t3=>
C 33 [t3] r0.2 fun t4 S5=>
dR (oT .not t4) fun t6=>
aC t6 (K (.tup [(.nilp),(.int .i64 1)]) S5) (C 34 [a2] S5 fun t7 S8=>
dR (aB prog 24 (.ptr r0.1 0 0 0) (⟨S8.next+11,S8.heap⟩:St)) fun t9=>
dR (aA prog 24 (.ptr r0.1 0 0 0) 2) fun t10=>
dR (aB prog 3 t10 (⟨S8.next+11,S8.heap⟩:St)) fun t11=>
C 35 [t9] (⟨S8.next+11,S8.heap⟩:St) fun t12 S13=>
dR (aB prog 3 t10 S13) fun t14=>
bG (bN t11 t14) (dR (bQ prog 88 [(0,a0),(1,t12),(2,(.int .i64 1)),(3,(.int .i64 (-1))),(4,t11),(5,t7),(6,t7)]) fun t15=>
bG (aU (t15:V).cells) (dR (bF (some (S8.next+8)) S13 (.row 0 (t15:V).cells.length [(t15:V).cells])) fun r16=>
K (.tup [(.ptr r16.1 0 0 0),(.int .i64 0)]) r16.2))))))
theorem aS4:(fun (k:Nat) (a0 a1 a2:V) (S:St) (K:KS)=>aE prog aW aX (k+1) 11 [a0,a1,a2] S K)=fun k a0 a1 a2 S K=>m11 (aE prog aW aX k) k a0 a1 a2 S K:=by kernel_rfl
noncomputable def m12 (C:aT) (k:Nat) (a0 a1 a2:V) (S:St) (K:KS):An:=
bG (aU (a1:V).cells) (dR (bF none S (.row 0 (a1:V).cells.length [(a1:V).cells])) fun r0=>
dR (aD prog .lss 3 a0 (.int .i64 0)) fun t1=>
aC t1 (K (.tup [(.nilp),(.int .i64 1)]) r0.2) (dR (aD prog .geq 3 a0 (.int .i64 7)) fun t2=>
aC t2 (K (.tup [(.nilp),(.int .i64 1)]) r0.2) (dR (aB prog 24 (.ptr r0.1 0 0 0) r0.2) fun t3=>
C 23 [t3] r0.2 fun t4 S5=>
dR (oT .not t4) fun t6=>
aC t6 (K (.tup [(.nilp),(.int .i64 1)]) S5) (dR (bT prog 22 0 [] none S5) fun r7=>
dR (aA prog 24 (.ptr r0.1 0 0 0) 6) fun t8=>
dR (aB prog 22 t8 r7.2) fun t9=>
dR (cD prog 22 r7.1 t9 none r7.2) fun r10=>
dR (aA prog 24 (.ptr r0.1 0 0 0) 6) fun t11=>
dR (aM prog 22 t11 r10.1 r10.2) fun S12=>
dR (aB prog 24 (.ptr r0.1 0 0 0) (⟨S12.next+12,S12.heap⟩:St)) fun t13=>
dR (aA prog 24 (.ptr r0.1 0 0 0) 2) fun t14=>
dR (aB prog 3 t14 (⟨S12.next+12,S12.heap⟩:St)) fun t15=>
C 36 [a2] (⟨S12.next+12,S12.heap⟩:St) fun t16 S17=>
dR (aB prog 3 t14 S17) fun t18=>
bG (bN t15 t18) (dR (aB prog 24 (.ptr r0.1 0 0 0) S17) fun t19=>
bG (bN t13 t19) (C 36 [a2] S17 fun t20 S21=>
dR (aB prog 3 t14 S21) fun t22=>
bG (bN t15 t22) (dR (aB prog 24 (.ptr r0.1 0 0 0) S21) fun t23=>
bG (bN t13 t23) (dR (bQ prog 45 [(0,t13),(1,a0),(2,(.int .i64 1)),(3,(.int .i64 (-1))),(4,t15),(5,t16),(6,t20)]) fun t24=>
bG (aU (t24:V).cells) (dR (bF (some (S12.next+9)) S21 (.row 0 (t24:V).cells.length [(t24:V).cells])) fun r25=>
K (.tup [(.ptr r25.1 0 0 0),(.int .i64 0)]) r25.2)))))))))
theorem aS5:(fun (k:Nat) (a0 a1 a2:V) (S:St) (K:KS)=>aE prog aW aX (k+1) 12 [a0,a1,a2] S K)=fun k a0 a1 a2 S K=>m12 (aE prog aW aX k) k a0 a1 a2 S K:=by kernel_rfl
noncomputable def zJ (C:aT) (k:Nat) (K:KS) (p1:V) (vs:List V) (S:St) (again1:List V→St→An):An:=
gS vs fun x3 vs=>
gS vs fun x5 vs=>
dR (aA prog 40 p1 2) fun t26=>
dR (aA prog 37 t26 12) fun t27=>
dR (aB prog 22 t27 S) fun t28=>
dR (bZ prog 22 t28 S) fun t29=>
dR (aD prog .lss 3 x5 t29) fun t30=>
aC t30 (dR (aA prog 40 p1 2) fun t31=>
dR (aA prog 37 t31 12) fun t32=>
dR (aB prog 22 t32 S) fun t33=>
dR (aP prog 22 t33 x5) fun t34=>
dR (aA prog 59 t34 2) fun t35=>
dR (aB prog 9 t35 S) fun t36=>
dR (bZ prog 9 t36 S) fun t37=>
dR (aD prog .add 3 x3 t37) fun t38=>
dR (aD prog .add 3 x5 (.int .i64 1)) fun t39=>
again1 [t38,t39] S) (dR (aD prog .lss 3 x3 (.int .i64 5000)) fun t40=>
K t40 S)
noncomputable def aDw (C:aT) (k:Nat) (K:KS) (p1:V) (vs:List V) (S:St) (again0:List V→St→An):An:=
gS vs fun x3 vs=>
gS vs fun x4 vs=>
dR (aA prog 40 p1 3) fun t15=>
dR (aB prog 38 t15 S) fun t16=>
dR (bZ prog 38 t16 S) fun t17=>
dR (aD prog .lss 3 x4 t17) fun t18=>
aC t18 (dR (aA prog 40 p1 3) fun t19=>
dR (aB prog 38 t19 S) fun t20=>
dR (aP prog 38 t20 x4) fun t21=>
dR (aB prog 9 t21 S) fun t22=>
dR (bZ prog 9 t22 S) fun t23=>
dR (aD prog .add 3 x3 t23) fun t24=>
dR (aD prog .add 3 x4 (.int .i64 1)) fun t25=>
again0 [t24,t25] S) (cQ k [x3,(.int .i64 0)] S (zJ C k K p1))
noncomputable def m13 (C:aT) (k:Nat) (a0:V) (S:St) (K:KS):An:=
bG (aU (a0:V).cells) (dR (bF none S (.row 0 (a0:V).cells.length [(a0:V).cells])) fun r0=>
dR (aA prog 40 (.ptr r0.1 0 0 0) 2) fun t1=>
dR (aA prog 37 t1 12) fun t2=>
dR (aB prog 22 t2 r0.2) fun t3=>
dR (bZ prog 22 t3 r0.2) fun t4=>
dR (aD prog .gtr 3 t4 (.int .i64 20)) fun t5=>
aC t5 (K (.bool false) r0.2) (dR (aA prog 40 (.ptr r0.1 0 0 0) 3) fun t6=>
dR (aB prog 38 t6 r0.2) fun t7=>
dR (bZ prog 38 t7 r0.2) fun t8=>
dR (aD prog .gtr 3 t8 (.int .i64 130)) fun t9=>
aC t9 (K (.bool false) r0.2) (dR (aA prog 40 (.ptr r0.1 0 0 0) 2) fun t10=>
dR (aA prog 37 t10 11) fun t11=>
dR (aB prog 9 t11 r0.2) fun t12=>
dR (bZ prog 9 t12 r0.2) fun t13=>
dR (aD prog .gtr 3 t13 (.int .i64 700)) fun t14=>
aC t14 (K (.bool false) r0.2) (cQ k [(.int .i64 0),(.int .i64 0)] r0.2 (aDw C k K (.ptr r0.1 0 0 0))))))
theorem aS6:(fun (k:Nat) (a0:V) (S:St) (K:KS)=>aE prog aW aX (k+1) 13 [a0] S K)=fun k a0 S K=>m13 (aE prog aW aX k) k a0 S K:=by kernel_rfl
noncomputable def m14 (C:aT) (k:Nat) (a0:V) (S:St) (K:KS):An:=
dR (bF none S (.row 0 7 [[.int .i64 0,.int .i64 0,.int .i64 0,.int .i64 0,.int .i64 0,.str [],.nils]])) fun r0=>
aN a0 (dR (aA prog 88 a0 1) fun t1=>
dR (aB prog 24 t1 r0.2) fun t2=>
C 35 [t2] r0.2 fun t3 S4=>
dR (aM prog 24 (.ptr r0.1 0 0 0) t3 S4) fun S5=>
dR (aB prog 24 (.ptr r0.1 0 0 0) S5) fun t6=>
K t6 S5)
theorem aS7:(fun (k:Nat) (a0:V) (S:St) (K:KS)=>aE prog aW aX (k+1) 14 [a0] S K)=fun k a0 S K=>m14 (aE prog aW aX k) k a0 S K:=by kernel_rfl
noncomputable def aDx (C:aT) (k:Nat) (K:KS) (p0 p1 p5 p15:V) (S:St):An:=
dR (aA prog 40 p5 1) fun t52=>
dR (aB prog 3 t52 (⟨S.next+12,S.heap⟩:St)) fun t53=>
dR (aA prog 40 p5 1) fun t54=>
dR (aB prog 3 t54 (⟨S.next+12,S.heap⟩:St)) fun t55=>
C 22 [p0,t53,p15] (⟨S.next+12,S.heap⟩:St) fun t56 S57=>
dR (aB prog 3 t54 S57) fun t58=>
bG (bN t55 t58) (C 41 [p1,t55,p15] S57 fun t59 S60=>
bG (aH prog 3 t56 t59) (dR (aD prog .eql 3 t56 t59) fun t61=>
K t61 S60))
noncomputable def m15 (C:aT) (k:Nat) (a0 a1 a2:V) (S:St) (K:KS):An:=
bG (aU (a2:V).cells) (dR (bF none S (.row 0 (a2:V).cells.length [(a2:V).cells])) fun r0=>
dR (aA prog 40 (.ptr r0.1 0 0 0) 0) fun t1=>
dR (aB prog 3 t1 r0.2) fun t2=>
bG (aH prog 3 t2 (.int .i64 1)) (dR (aD prog .eql 3 t2 (.int .i64 1)) fun t3=>
aC t3 (dR (aA prog 40 (.ptr r0.1 0 0 0) 1) fun t4=>
dR (aB prog 3 t4 r0.2) fun t5=>
C 18 [a0,t5] r0.2 fun t6 S7=>
dR (aA prog 40 (.ptr r0.1 0 0 0) 1) fun t8=>
dR (aB prog 3 t8 S7) fun t9=>
C 37 [a1,t9] S7 fun t10 S11=>
K (.bool true) S11) (bG (aH prog 3 t2 (.int .i64 2)) (dR (aD prog .eql 3 t2 (.int .i64 2)) fun t12=>
aC t12 (dR (aA prog 40 (.ptr r0.1 0 0 0) 2) fun t13=>
dR (aB prog 37 t13 r0.2) fun t14=>
C 19 [a0,t14] r0.2 fun t15 S16=>
dR (aA prog 40 (.ptr r0.1 0 0 0) 2) fun t17=>
dR (aB prog 37 t17 S16) fun t18=>
C 38 [a1,t18] S16 fun t19 S20=>
K (.bool true) S20) (bG (aH prog 3 t2 (.int .i64 3)) (dR (aD prog .eql 3 t2 (.int .i64 3)) fun t21=>
aC t21 (dR (aA prog 40 (.ptr r0.1 0 0 0) 3) fun t22=>
dR (aB prog 38 t22 r0.2) fun t23=>
C 20 [a0,t23] r0.2 fun t24 S25=>
fT t24 0 fun t26=>
fT t24 1 fun t27=>
dR (aA prog 40 (.ptr r0.1 0 0 0) 3) fun t28=>
dR (aB prog 38 t28 S25) fun t29=>
C 39 [a1,t29] S25 fun t30 S31=>
fT t30 0 fun t32=>
fT t30 1 fun t33=>
bG (aH prog 3 t26 t32) (dR (aD prog .eql 3 t26 t32) fun t34=>
aC t34 (bG (aH prog 4 t27 t33) (dR (aD prog .eql 4 t27 t33) fun t35=>
K t35 S31)) (K (.bool false) S31))) (bG (aH prog 3 t2 (.int .i64 4)) (dR (aD prog .eql 3 t2 (.int .i64 4)) fun t36=>
aC t36 (dR (aA prog 40 (.ptr r0.1 0 0 0) 1) fun t37=>
dR (aB prog 3 t37 r0.2) fun t38=>
C 21 [a0,t38] r0.2 fun t39 S40=>
fT t39 0 fun t41=>
fT t39 1 fun t42=>
dR (aA prog 40 (.ptr r0.1 0 0 0) 1) fun t43=>
dR (aB prog 3 t43 S40) fun t44=>
C 40 [a1,t44] S40 fun t45 S46=>
fT t45 0 fun t47=>
fT t45 1 fun t48=>
bG (aH prog 3 t41 t47) (dR (aD prog .eql 3 t41 t47) fun t49=>
aC t49 (bG (aH prog 4 t42 t48) (dR (aD prog .eql 4 t42 t48) fun t50=>
K t50 S46)) (K (.bool false) S46))) (bG (aH prog 3 t2 (.int .i64 5)) (dR (aD prog .eql 3 t2 (.int .i64 5)) fun t51=>
aC t51 (dR (aA prog 40 (.ptr r0.1 0 0 0) 3) fun t62=>
dR (aB prog 38 t62 r0.2) fun t63=>
dR (bZ prog 38 t63 r0.2) fun t64=>
dR (aD prog .gtr 3 t64 (.int .i64 0)) fun t65=>
aC t65 (dR (aA prog 40 (.ptr r0.1 0 0 0) 3) fun t66=>
dR (aB prog 38 t66 r0.2) fun t67=>
dR (aP prog 38 t67 (.int .i64 0)) fun t68=>
dR (aB prog 9 t68 r0.2) fun t69=>
aDx C k K a0 a1 (.ptr r0.1 0 0 0) t69 r0.2) (aDx C k K a0 a1 (.ptr r0.1 0 0 0) (.str [115]) r0.2)) (K (.bool true) r0.2)))))))))))
theorem aS8:(fun (k:Nat) (a0 a1 a2:V) (S:St) (K:KS)=>aE prog aW aX (k+1) 15 [a0,a1,a2] S K)=fun k a0 a1 a2 S K=>m15 (aE prog aW aX k) k a0 a1 a2 S K:=by kernel_rfl
noncomputable def m16 (C:aT) (k:Nat) (a0 a1:V) (S:St) (K:KS):An:=
aN a1 (dR (aA prog 45 a1 0) fun t0=>
dR (aB prog 24 t0 S) fun t1=>
C 42 [t1] S fun t2 S3=>
fT t2 0 fun t4=>
fT t2 1 fun t5=>
aN a1 (dR (aA prog 45 a1 2) fun t6=>
dR (aB prog 3 t6 (⟨S3.next+40,S3.heap⟩:St)) fun t7=>
aN a1 (dR (aA prog 45 a1 3) fun t8=>
dR (aB prog 3 t8 (⟨S3.next+40,S3.heap⟩:St)) fun t9=>
aN a1 (dR (aA prog 45 a1 4) fun t10=>
dR (aB prog 3 t10 (⟨S3.next+40,S3.heap⟩:St)) fun t11=>
aN a1 (dR (aA prog 45 a1 6) fun t12=>
dR (aB prog 3 t12 (⟨S3.next+40,S3.heap⟩:St)) fun t13=>
C 17 [a0] (⟨S3.next+40,S3.heap⟩:St) fun t14 S15=>
dR (aB prog 3 t12 S15) fun t16=>
bG (bN t13 t16) (dR (aB prog 3 t10 S15) fun t17=>
bG (bN t11 t17) (dR (aB prog 3 t8 S15) fun t18=>
bG (bN t9 t18) (dR (aB prog 3 t6 S15) fun t19=>
bG (bN t7 t19) (C 43 [a1] S15 fun t20 S21=>
dR (aB prog 3 t12 S21) fun t22=>
bG (bN t13 t22) (dR (aB prog 3 t10 S21) fun t23=>
bG (bN t11 t23) (dR (aB prog 3 t8 S21) fun t24=>
bG (bN t9 t24) (dR (aB prog 3 t6 S21) fun t25=>
bG (bN t7 t25) (dR (bQ prog 50 [(0,t7),(1,t9),(2,t11),(3,t20),(4,t13),(5,t4)]) fun t26=>
bG (aH prog 50 t14 t26) (dR (aD prog .eql 50 t14 t26) fun t27=>
aC t27 (aN a1 (dR (aA prog 45 a1 0) fun t28=>
dR (aB prog 24 t28 S21) fun t29=>
C 14 [a0] S21 fun t30 S31=>
dR (aB prog 24 t28 S31) fun t32=>
bG (bN t29 t32) (C 44 [t30,t29] S31 fun t33 S34=>
aC t33 (C 27 [a0] S34 fun t35 S36=>
C 45 [a1] S36 fun t37 S38=>
C 32 [t35,t37] S38 fun t39 S40=>
K t39 S40) (K (.bool false) S34)))) (K (.bool false) S21)))))))))))))))
theorem aS9:(fun (k:Nat) (a0 a1:V) (S:St) (K:KS)=>aE prog aW aX (k+1) 16 [a0,a1] S K)=fun k a0 a1 S K=>m16 (aE prog aW aX k) k a0 a1 S K:=by kernel_rfl
noncomputable def m17 (C:aT) (k:Nat) (a0:V) (S:St) (K:KS):An:=
dR (bF none S (.row 0 6 [[.int .i64 0,.int .i64 0,.int .i64 0,.int .i64 0,.int .i64 0,.int .i64 0]])) fun r0=>
aN a0 (dR (aA prog 88 a0 2) fun t1=>
dR (aB prog 3 t1 (⟨r0.2.next+22,r0.2.heap⟩:St)) fun t2=>
aN a0 (dR (aA prog 88 a0 3) fun t3=>
dR (aB prog 3 t3 (⟨r0.2.next+22,r0.2.heap⟩:St)) fun t4=>
aN a0 (dR (aA prog 88 a0 4) fun t5=>
dR (aB prog 3 t5 (⟨r0.2.next+22,r0.2.heap⟩:St)) fun t6=>
aN a0 (dR (aA prog 88 a0 6) fun t7=>
dR (aB prog 3 t7 (⟨r0.2.next+22,r0.2.heap⟩:St)) fun t8=>
C 46 [a0] (⟨r0.2.next+22,r0.2.heap⟩:St) fun t9 S10=>
dR (aB prog 3 t7 S10) fun t11=>
bG (bN t8 t11) (dR (aB prog 3 t5 S10) fun t12=>
bG (bN t6 t12) (dR (aB prog 3 t3 S10) fun t13=>
bG (bN t4 t13) (dR (aB prog 3 t1 S10) fun t14=>
bG (bN t2 t14) (C 47 [a0] S10 fun t15 S16=>
dR (aB prog 3 t7 S16) fun t17=>
bG (bN t8 t17) (dR (aB prog 3 t5 S16) fun t18=>
bG (bN t6 t18) (dR (aB prog 3 t3 S16) fun t19=>
bG (bN t4 t19) (dR (aB prog 3 t1 S16) fun t20=>
bG (bN t2 t20) (dR (bQ prog 50 [(0,t2),(1,t4),(2,t6),(3,t9),(4,t8),(5,t15)]) fun t21=>
dR (aM prog 50 (.ptr r0.1 0 0 0) t21 S16) fun S22=>
dR (aB prog 50 (.ptr r0.1 0 0 0) S22) fun t23=>
K t23 S22))))))))))))
theorem aSa:(fun (k:Nat) (a0:V) (S:St) (K:KS)=>aE prog aW aX (k+1) 17 [a0] S K)=fun k a0 S K=>m17 (aE prog aW aX k) k a0 S K:=by kernel_rfl
noncomputable def m18 (C:aT) (k:Nat) (a0 a1:V) (S:St) (K:KS):An:=
aN a0 (dR (aA prog 88 a0 6) fun t0=>
dR (aB prog 3 t0 S) fun t1=>
dR (aD prog .sub 3 t1 (.int .i64 1)) fun t2=>
aN a0 (dR (aA prog 88 a0 6) fun t3=>
dR (aM prog 3 t3 t2 S) fun S4=>
aN a0 (dR (aA prog 88 a0 6) fun t5=>
dR (aB prog 3 t5 S4) fun t6=>
dR (aD prog .gtr 3 t6 (.int .i64 0)) fun t7=>
aC t7 (K (.tup []) S4) (aN a0 (dR (aA prog 88 a0 2) fun t8=>
dR (aB prog 3 t8 S4) fun t9=>
bG (aH prog 3 t9 (.int .i64 3)) (dR (aD prog .eql 3 t9 (.int .i64 3)) fun t10=>
aC t10 (aN a0 (dR (aA prog 88 a0 6) fun t11=>
dR (aM prog 3 t11 (.int .i64 3) S4) fun S12=>
C 48 [a0] S12 fun t13 S14=>
K (.tup []) S14)) (C 34 [a1] S4 fun t15 S16=>
aN a0 (dR (aA prog 88 a0 5) fun t17=>
dR (aM prog 3 t17 t15 S16) fun S18=>
aN a0 (dR (aA prog 88 a0 5) fun t19=>
dR (aB prog 3 t19 S18) fun t20=>
aN a0 (dR (aA prog 88 a0 6) fun t21=>
dR (aM prog 3 t21 t20 S18) fun S22=>
aN a0 (dR (aA prog 88 a0 1) fun t23=>
dR (aB prog 24 t23 S22) fun t24=>
C 49 [t24] S22 fun t25 S26=>
fT t25 0 fun t27=>
fT t25 1 fun t28=>
aN a0 (dR (aA prog 88 a0 1) fun t29=>
dR (aA prog 24 t29 0) fun t30=>
dR (aB prog 3 t30 S26) fun t31=>
dR (aD prog .lss 3 t31 (.int .i64 1099511627776)) fun t32=>
aC t32 (aN a0 (dR (aA prog 88 a0 0) fun t33=>
dR (aB prog 3 t33 S26) fun t34=>
C 50 [t27,t34] S26 fun t35 S36=>
aC t35 (C 51 [a0] S36 fun t37 S38=>
K (.tup []) S38) (aN a0 (dR (aA prog 88 a0 4) fun t39=>
dR (aB prog 3 t39 S36) fun t40=>
dR (aD prog .gtr 3 t28 t40) fun t41=>
aC t41 (C 51 [a0] S36 fun t42 S43=>
K (.tup []) S43) (K (.tup []) S36))))) (K (.tup []) S26)))))))))))))
theorem aSb:(fun (k:Nat) (a0 a1:V) (S:St) (K:KS)=>aE prog aW aX (k+1) 18 [a0,a1] S K)=fun k a0 a1 S K=>m18 (aE prog aW aX k) k a0 a1 S K:=by kernel_rfl
noncomputable def aDy (C:aT) (k:Nat) (K:KS) (p0 p3:V) (S:St):An:=
dR (aA prog 37 p3 3) fun t4=>
dR (aB prog 3 t4 (⟨S.next+8,S.heap⟩:St)) fun t5=>
aN p0 (dR (aA prog 88 p0 1) fun t6=>
dR (aA prog 24 t6 0) fun t7=>
dR (aB prog 3 t7 (⟨S.next+8,S.heap⟩:St)) fun t8=>
dR (aD prog .lss 3 t5 t8) fun t9=>
aC t9 (dR (aB prog 37 p3 (⟨S.next+8,S.heap⟩:St)) fun t10=>
C 53 [p0,t10] (⟨S.next+8,S.heap⟩:St) fun t11 S12=>
K (.tup []) S12) (dR (aA prog 37 p3 0) fun t13=>
dR (aB prog 3 t13 (⟨S.next+8,S.heap⟩:St)) fun t14=>
bG (aH prog 3 t14 (.int .i64 1)) (dR (aD prog .eql 3 t14 (.int .i64 1)) fun t15=>
aC t15 (dR (aB prog 37 p3 (⟨S.next+8,S.heap⟩:St)) fun t16=>
C 54 [p0,t16] (⟨S.next+8,S.heap⟩:St) fun t17 S18=>
K (.tup []) S18) (bG (aH prog 3 t14 (.int .i64 2)) (dR (aD prog .eql 3 t14 (.int .i64 2)) fun t19=>
aC t19 (dR (aB prog 37 p3 (⟨S.next+8,S.heap⟩:St)) fun t20=>
C 55 [p0,t20] (⟨S.next+8,S.heap⟩:St) fun t21 S22=>
K (.tup []) S22) (bG (aH prog 3 t14 (.int .i64 3)) (dR (aD prog .eql 3 t14 (.int .i64 3)) fun t23=>
aC t23 (dR (aB prog 37 p3 (⟨S.next+8,S.heap⟩:St)) fun t24=>
C 56 [p0,t24] (⟨S.next+8,S.heap⟩:St) fun t25 S26=>
K (.tup []) S26) (bG (aH prog 3 t14 (.int .i64 4)) (dR (aD prog .eql 3 t14 (.int .i64 4)) fun t27=>
aC t27 (dR (aB prog 37 p3 (⟨S.next+8,S.heap⟩:St)) fun t28=>
C 57 [p0,t28] (⟨S.next+8,S.heap⟩:St) fun t29 S30=>
K (.tup []) S30) (bG (aH prog 3 t14 (.int .i64 5)) (dR (aD prog .eql 3 t14 (.int .i64 5)) fun t31=>
aC t31 (dR (aB prog 37 p3 (⟨S.next+8,S.heap⟩:St)) fun t32=>
C 58 [p0,t32] (⟨S.next+8,S.heap⟩:St) fun t33 S34=>
K (.tup []) S34) (bG (aH prog 3 t14 (.int .i64 6)) (dR (aD prog .eql 3 t14 (.int .i64 6)) fun t35=>
aC t35 (dR (aB prog 37 p3 (⟨S.next+8,S.heap⟩:St)) fun t36=>
C 59 [p0,t36] (⟨S.next+8,S.heap⟩:St) fun t37 S38=>
K (.tup []) S38) (K (.tup []) (⟨S.next+8,S.heap⟩:St)))))))))))))))
noncomputable def m19 (C:aT) (k:Nat) (a0 a1:V) (S:St) (K:KS):An:=
bG (aU (a1:V).cells) (dR (bF none S (.row 0 (a1:V).cells.length [(a1:V).cells])) fun r0=>
dR (aB prog 37 (.ptr r0.1 0 0 0) r0.2) fun t1=>
C 52 [a0,t1] r0.2 fun t2 S3=>
aC t2 (K (.tup []) S3) (dR (aA prog 37 (.ptr r0.1 0 0 0) 3) fun t39=>
dR (aB prog 3 t39 (⟨S3.next+8,S3.heap⟩:St)) fun t40=>
aN a0 (dR (aA prog 88 a0 1) fun t41=>
dR (aA prog 24 t41 0) fun t42=>
dR (aB prog 3 t42 (⟨S3.next+8,S3.heap⟩:St)) fun t43=>
dR (aD prog .gtr 3 t40 t43) fun t44=>
aC t44 (dR (aA prog 37 (.ptr r0.1 0 0 0) 3) fun t45=>
dR (aB prog 3 t45 (⟨S3.next+8,S3.heap⟩:St)) fun t46=>
aN a0 (dR (aA prog 88 a0 1) fun t47=>
dR (aA prog 24 t47 0) fun t48=>
dR (aM prog 3 t48 t46 (⟨S3.next+8,S3.heap⟩:St)) fun S49=>
aN a0 (dR (aA prog 88 a0 1) fun t50=>
dR (aA prog 24 t50 1) fun t51=>
dR (aM prog 3 t51 (.int .i64 (-1)) S49) fun S52=>
aN a0 (dR (aA prog 88 a0 2) fun t53=>
dR (aM prog 3 t53 (.int .i64 1) S52) fun S54=>
aN a0 (dR (aA prog 88 a0 3) fun t55=>
dR (aM prog 3 t55 (.int .i64 (-1)) S54) fun S56=>
aDy C k K a0 (.ptr r0.1 0 0 0) S56))))) (aDy C k K a0 (.ptr r0.1 0 0 0) (⟨S3.next+8,S3.heap⟩:St)))))
theorem aSc:(fun (k:Nat) (a0 a1:V) (S:St) (K:KS)=>aE prog aW aX (k+1) 19 [a0,a1] S K)=fun k a0 a1 S K=>m19 (aE prog aW aX k) k a0 a1 S K:=by kernel_rfl
noncomputable def zK (C:aT) (k:Nat) (K:KS) (p0 p4 p5 p8 p54 p55:V) (vs:List V) (S:St) (again1:List V→St→An):An:=
gS vs fun x56 vs=>
dR (aD prog .lss 3 x56 p55) fun t28=>
aC t28 (dR (aP prog 38 p54 x56) fun t29=>
dR (aB prog 9 t29 S) fun t30=>
aN p0 (dR (aA prog 88 p0 1) fun t31=>
dR (aA prog 24 t31 6) fun t32=>
dR (aB prog 22 t32 (⟨S.next+19,S.heap⟩:St)) fun t33=>
aN p0 (dR (aA prog 88 p0 1) fun t34=>
dR (aA prog 24 t34 0) fun t35=>
dR (aB prog 3 t35 (⟨S.next+19,S.heap⟩:St)) fun t36=>
dR (bQ prog 59 [(0,t36),(2,t30)]) fun t37=>
dR (bT prog 22 1 [(0,t37)] (some (S.next+13)) (⟨S.next+19,S.heap⟩:St)) fun r38=>
dR (cD prog 22 t33 r38.1 (some (S.next+14)) r38.2) fun r39=>
aN p0 (dR (aA prog 88 p0 1) fun t40=>
dR (aA prog 24 t40 6) fun t41=>
dR (aM prog 22 t41 r39.1 r39.2) fun S42=>
dR (aD prog .add 3 x56 (.int .i64 1)) fun t43=>
again1 [t43] S42)))) (C 60 [p0] S fun t44 S45=>
K (.tup [p8,(.bool true)]) S45)
noncomputable def vD (C:aT) (k:Nat) (K:KS) (p0 p1 p41 p42:V) (vs:List V) (S:St) (again0:List V→St→An):An:=
gS vs fun x4 vs=>
gS vs fun x5 vs=>
gS vs fun x43 vs=>
dR (aD prog .lss 3 x43 p42) fun t18=>
aC t18 (dR (aP prog 38 p41 x43) fun t19=>
dR (aB prog 9 t19 S) fun t20=>
dR (bZ prog 9 t20 S) fun t21=>
dR (aD prog .gtr 3 t21 (.int .i64 1100)) fun t22=>
aC t22 (K (.tup [(.int .i64 0),(.bool false)]) S) (dR (aD prog .add 3 x43 (.int .i64 1)) fun t23=>
again0 [x4,x5,t23] S)) (C 46 [p0] S fun t24 S25=>
dR (aD prog .add 3 t24 (.int .i64 1)) fun t26=>
dR (bZ prog 38 p1 S25) fun t27=>
cQ k [(.int .i64 0)] S25 (zK C k K p0 x4 x5 t26 p1 t27))
noncomputable def m20 (C:aT) (k:Nat) (a0 a1:V) (S:St) (K:KS):An:=
aN a0 (dR (aA prog 88 a0 2) fun t0=>
dR (aB prog 3 t0 S) fun t1=>
bG (aH prog 3 t1 (.int .i64 3)) (dR (aD prog .neq 3 t1 (.int .i64 3)) fun t2=>
aC t2 (K (.tup [(.int .i64 0),(.bool false)]) S) (dR (bZ prog 38 a1 S) fun t3=>
bG (aH prog 3 t3 (.int .i64 0)) (dR (aD prog .eql 3 t3 (.int .i64 0)) fun t4=>
aC t4 (K (.tup [(.int .i64 0),(.bool false)]) S) (dR (bZ prog 38 a1 S) fun t5=>
aN a0 (dR (aA prog 88 a0 1) fun t6=>
dR (aA prog 24 t6 6) fun t7=>
dR (aB prog 22 t7 S) fun t8=>
dR (bZ prog 22 t8 S) fun t9=>
dR (aD prog .sub 3 (.int .i64 120) t9) fun t10=>
dR (aD prog .gtr 3 t5 t10) fun t11=>
aC t11 (K (.tup [(.int .i64 0),(.bool false)]) S) (dR (bZ prog 38 a1 S) fun t12=>
C 46 [a0] S fun t13 S14=>
dR (aD prog .sub 3 (.int .i64 1099511627776) t13) fun t15=>
dR (aD prog .gtr 3 t12 t15) fun t16=>
aC t16 (K (.tup [(.int .i64 0),(.bool false)]) S14) (dR (bZ prog 38 a1 S14) fun t17=>
cQ k [(.int .i64 0),(.bool false),(.int .i64 0)] S14 (vD C k K a0 a1 a1 t17)))))))))
theorem aSd:(fun (k:Nat) (a0 a1:V) (S:St) (K:KS)=>aE prog aW aX (k+1) 20 [a0,a1] S K)=fun k a0 a1 S K=>m20 (aE prog aW aX k) k a0 a1 S K:=by kernel_rfl
noncomputable def vE (C:aT) (k:Nat) (K:KS) (again0:List V→St→An) (p0 p1 p6 p8 p9 p85 p104:V) (S:St):An:=
aC p104 (dR (bQ prog 84 [(0,p8)]) fun t47=>
aN p0 (dR (aA prog 88 p0 8) fun t48=>
dR (aP prog 85 t48 p9) fun t49=>
dR (aM prog 84 t49 t47 S) fun S50=>
dR (aD prog .add 3 p85 (.int .i64 1)) fun t51=>
again0 [t51] S50)) (dR (aD prog .add 3 p85 (.int .i64 1)) fun t52=>
again0 [t52] S)
noncomputable def aDz (C:aT) (k:Nat) (K:KS) (p0 p1 p6 p8:V) (vs:List V) (S:St) (again0:List V→St→An):An:=
gS vs fun x85 vs=>
dR (aD prog .lss 3 x85 (.int .i64 7)) fun t46=>
aC t46 (aN p0 (dR (aA prog 88 p0 0) fun t53=>
dR (aB prog 3 t53 S) fun t54=>
bG (aH prog 3 x85 t54) (dR (aD prog .neq 3 x85 t54) fun t55=>
aC t55 (C 50 [p1,x85] S fun t56 S57=>
aC t56 (C 50 [p6,x85] S57 fun t58 S59=>
dR (oT .not t58) fun t60=>
vE C k K again0 p0 p1 p6 p8 x85 x85 t60 S59) (vE C k K again0 p0 p1 p6 p8 x85 x85 (.bool false) S57)) (vE C k K again0 p0 p1 p6 p8 x85 x85 (.bool false) S)))) (C 60 [p0] S fun t61 S62=>
K (.tup [p8,(.bool true)]) S62)
noncomputable def m21 (C:aT) (k:Nat) (a0 a1:V) (S:St) (K:KS):An:=
aN a0 (dR (aA prog 88 a0 1) fun t0=>
dR (aB prog 24 t0 S) fun t1=>
C 49 [t1] S fun t2 S3=>
fT t2 0 fun t4=>
fT t2 1 fun t5=>
aN a0 (dR (aA prog 88 a0 2) fun t6=>
dR (aB prog 3 t6 (⟨S3.next+47,S3.heap⟩:St)) fun t7=>
bG (aH prog 3 t7 (.int .i64 3)) (dR (aD prog .neq 3 t7 (.int .i64 3)) fun t8=>
aC t8 (K (.tup [(.int .i64 0),(.bool false)]) (⟨S3.next+47,S3.heap⟩:St)) (C 61 [t4,a1] (⟨S3.next+47,S3.heap⟩:St) fun t9 S10=>
dR (oT .not t9) fun t11=>
aC t11 (K (.tup [(.int .i64 0),(.bool false)]) S10) (aN a0 (dR (aA prog 88 a0 4) fun t12=>
dR (aB prog 3 t12 S10) fun t13=>
dR (aD prog .gtr 3 t5 t13) fun t14=>
aC t14 (K (.tup [(.int .i64 0),(.bool false)]) S10) (aN a0 (dR (aA prog 88 a0 4) fun t15=>
dR (aB prog 3 t15 S10) fun t16=>
aN a0 (dR (aA prog 88 a0 1) fun t17=>
dR (aA prog 24 t17 0) fun t18=>
dR (aB prog 3 t18 S10) fun t19=>
C 62 [a0,t16] S10 fun t20 S21=>
dR (aB prog 3 t18 S21) fun t22=>
bG (bN t19 t22) (bG (aH prog 3 t20 t19) (dR (aD prog .neq 3 t20 t19) fun t23=>
aC t23 (K (.tup [(.int .i64 0),(.bool false)]) S21) (aN a0 (dR (aA prog 88 a0 1) fun t24=>
dR (aA prog 24 t24 6) fun t25=>
dR (aB prog 22 t25 S21) fun t26=>
dR (bZ prog 22 t26 S21) fun t27=>
dR (aD prog .geq 3 t27 (.int .i64 120)) fun t28=>
aC t28 (K (.tup [(.int .i64 0),(.bool false)]) S21) (C 46 [a0] S21 fun t29 S30=>
dR (aD prog .geq 3 t29 (.int .i64 1099511627776)) fun t31=>
aC t31 (K (.tup [(.int .i64 0),(.bool false)]) S30) (aN a0 (dR (aA prog 88 a0 1) fun t32=>
dR (aA prog 24 t32 6) fun t33=>
dR (aB prog 22 t33 (⟨S30.next+19,S30.heap⟩:St)) fun t34=>
aN a0 (dR (aA prog 88 a0 1) fun t35=>
dR (aA prog 24 t35 0) fun t36=>
dR (aB prog 3 t36 (⟨S30.next+19,S30.heap⟩:St)) fun t37=>
dR (bQ prog 59 [(0,t37),(1,a1)]) fun t38=>
dR (bT prog 22 1 [(0,t38)] (some (S30.next+13)) (⟨S30.next+19,S30.heap⟩:St)) fun r39=>
dR (cD prog 22 t34 r39.1 (some (S30.next+14)) r39.2) fun r40=>
aN a0 (dR (aA prog 88 a0 1) fun t41=>
dR (aA prog 24 t41 6) fun t42=>
dR (aM prog 22 t42 r40.1 r40.2) fun S43=>
C 46 [a0] S43 fun t44 S45=>
cQ k [(.int .i64 0)] S45 (aDz C k K a0 a1 t4 t44)))))))))))))))))))
theorem aSe:(fun (k:Nat) (a0 a1:V) (S:St) (K:KS)=>aE prog aW aX (k+1) 21 [a0,a1] S K)=fun k a0 a1 S K=>m21 (aE prog aW aX k) k a0 a1 S K:=by kernel_rfl
noncomputable def aE0 (C:aT) (k:Nat) (K:KS) (p0:V) (vs:List V) (S:St) (again0:List V→St→An):An:=
gS vs fun x87 vs=>
dR (aD prog .lss 3 x87 (.int .i64 7)) fun t46=>
aC t46 (aN p0 (dR (aA prog 88 p0 8) fun t47=>
dR (aP prog 85 t47 x87) fun t48=>
dR (aA prog 84 t48 2) fun t49=>
dR (aM prog 3 t49 (.int .i64 0) S) fun S50=>
dR (aD prog .add 3 x87 (.int .i64 1)) fun t51=>
again0 [t51] S50)) (K (.int .i64 0) S)
noncomputable def m22 (C:aT) (k:Nat) (a0 a1 a2:V) (S:St) (K:KS):An:=
aN a0 (dR (aA prog 88 a0 1) fun t0=>
dR (aA prog 24 t0 2) fun t1=>
dR (aB prog 3 t1 S) fun t2=>
dR (aD prog .leq 3 a1 t2) fun t3=>
aC t3 (K (.int .i64 1) S) (aN a0 (dR (aA prog 88 a0 4) fun t4=>
dR (aB prog 3 t4 S) fun t5=>
dR (aD prog .gtr 3 a1 t5) fun t6=>
aC t6 (K (.int .i64 1) S) (bG (aH prog 9 a2 (.str [])) (dR (aD prog .eql 9 a2 (.str [])) fun t7=>
aC t7 (K (.int .i64 1) S) (dR (bZ prog 9 a2 S) fun t8=>
dR (aD prog .gtr 3 t8 (.int .i64 65536)) fun t9=>
aC t9 (K (.int .i64 1) S) (aN a0 (dR (aA prog 88 a0 1) fun t10=>
dR (aA prog 24 t10 2) fun t11=>
dR (aB prog 3 t11 S) fun t12=>
dR (aD prog .sub 3 a1 t12) fun t13=>
C 62 [a0,a1] S fun t14 S15=>
aN a0 (dR (aA prog 88 a0 1) fun t16=>
dR (aB prog 24 t16 S15) fun t17=>
dR (bF none S15 (.row 0 7 [[.int .i64 0,.int .i64 0,.int .i64 0,.int .i64 0,.int .i64 0,.str [],.nils]])) fun r18=>
dR (aM prog 24 (.ptr r18.1 0 0 0) t17 r18.2) fun S19=>
dR (aA prog 24 (.ptr r18.1 0 0 0) 6) fun t20=>
dR (aB prog 22 t20 S19) fun t21=>
dR (eF prog 22 t21 none (some t13)) fun t22=>
dR (aA prog 24 (.ptr r18.1 0 0 0) 6) fun t23=>
dR (aM prog 22 t23 t22 S19) fun S24=>
dR (aB prog 24 (.ptr r18.1 0 0 0) S24) fun t25=>
C 49 [t25] S24 fun t26 S27=>
fT t26 0 fun t28=>
fT t26 1 fun t29=>
aN a0 (dR (aA prog 88 a0 1) fun t30=>
dR (aA prog 24 t30 0) fun t31=>
dR (aB prog 3 t31 (⟨S27.next+27,S27.heap⟩:St)) fun t32=>
aN a0 (dR (aA prog 88 a0 1) fun t33=>
dR (aA prog 24 t33 1) fun t34=>
dR (aB prog 3 t34 (⟨S27.next+27,S27.heap⟩:St)) fun t35=>
aN a0 (dR (aA prog 88 a0 1) fun t36=>
dR (aA prog 24 t36 6) fun t37=>
dR (aB prog 22 t37 (⟨S27.next+27,S27.heap⟩:St)) fun t38=>
dR (eF prog 22 t38 (some t13) none) fun t39=>
dR (cD prog 22 (.nils) t39 (some (S27.next+22)) (⟨S27.next+27,S27.heap⟩:St)) fun r40=>
dR (aB prog 3 t34 r40.2) fun t41=>
bG (bN t35 t41) (dR (aB prog 3 t31 r40.2) fun t42=>
bG (bN t32 t42) (dR (bQ prog 24 [(0,t32),(1,t35),(2,a1),(3,t14),(4,t28),(5,a2),(6,r40.1)]) fun t43=>
aN a0 (dR (aA prog 88 a0 1) fun t44=>
dR (aM prog 24 t44 t43 r40.2) fun S45=>
cQ k [(.int .i64 0)] S45 (aE0 C k K a0))))))))))))))))
theorem aSf:(fun (k:Nat) (a0 a1 a2:V) (S:St) (K:KS)=>aE prog aW aX (k+1) 22 [a0,a1,a2] S K)=fun k a0 a1 a2 S K=>m22 (aE prog aW aX k) k a0 a1 a2 S K:=by kernel_rfl
noncomputable def aE1 (C:aT) (k:Nat) (K:KS) (p1:V) (vs:List V) (S:St) (again0:List V→St→An):An:=
gS vs fun x2 vs=>
gS vs fun x3 vs=>
gS vs fun x4 vs=>
dR (aA prog 24 p1 6) fun t64=>
dR (aB prog 22 t64 S) fun t65=>
dR (bZ prog 22 t65 S) fun t66=>
dR (aD prog .lss 3 x4 t66) fun t67=>
aC t67 (dR (aA prog 24 p1 6) fun t68=>
dR (aB prog 22 t68 (⟨S.next+10,S.heap⟩:St)) fun t69=>
dR (aP prog 22 t69 x4) fun t70=>
dR (aB prog 59 t70 (⟨S.next+10,S.heap⟩:St)) fun t71=>
dR (aA prog 24 p1 0) fun t72=>
dR (aB prog 3 t72 (⟨S.next+10,S.heap⟩:St)) fun t73=>
C 63 [t71,x3,t73] (⟨S.next+10,S.heap⟩:St) fun t74 S75=>
dR (oT .not t74) fun t76=>
aC t76 (K (.bool false) S75) (dR (aA prog 24 p1 6) fun t77=>
dR (aB prog 22 t77 S75) fun t78=>
dR (aP prog 22 t78 x4) fun t79=>
dR (aA prog 59 t79 0) fun t80=>
dR (aB prog 3 t80 S75) fun t81=>
dR (aD prog .add 3 x4 (.int .i64 1)) fun t82=>
again0 [x2,t81,t82] S75)) (K (.bool true) S)
noncomputable def m23 (C:aT) (k:Nat) (a0:V) (S:St) (K:KS):An:=
bG (aU (a0:V).cells) (dR (bF none S (.row 0 (a0:V).cells.length [(a0:V).cells])) fun r0=>
dR (aA prog 24 (.ptr r0.1 0 0 0) 0) fun t1=>
dR (aB prog 3 t1 r0.2) fun t2=>
dR (aD prog .lss 3 t2 (.int .i64 0)) fun t3=>
aC t3 (K (.bool false) r0.2) (dR (aA prog 24 (.ptr r0.1 0 0 0) 0) fun t4=>
dR (aB prog 3 t4 r0.2) fun t5=>
dR (aD prog .gtr 3 t5 (.int .i64 1099511627776)) fun t6=>
aC t6 (K (.bool false) r0.2) (dR (aA prog 24 (.ptr r0.1 0 0 0) 1) fun t7=>
dR (aB prog 3 t7 r0.2) fun t8=>
dR (aD prog .lss 3 t8 (.int .i64 (-1))) fun t9=>
aC t9 (K (.bool false) r0.2) (dR (aA prog 24 (.ptr r0.1 0 0 0) 1) fun t10=>
dR (aB prog 3 t10 r0.2) fun t11=>
dR (aD prog .geq 3 t11 (.int .i64 7)) fun t12=>
aC t12 (K (.bool false) r0.2) (dR (aA prog 24 (.ptr r0.1 0 0 0) 2) fun t13=>
dR (aB prog 3 t13 r0.2) fun t14=>
dR (aD prog .lss 3 t14 (.int .i64 0)) fun t15=>
aC t15 (K (.bool false) r0.2) (dR (aA prog 24 (.ptr r0.1 0 0 0) 2) fun t16=>
dR (aB prog 3 t16 r0.2) fun t17=>
dR (aD prog .gtr 3 t17 (.int .i64 1099511627776)) fun t18=>
aC t18 (K (.bool false) r0.2) (dR (aA prog 24 (.ptr r0.1 0 0 0) 3) fun t19=>
dR (aB prog 3 t19 r0.2) fun t20=>
dR (aD prog .lss 3 t20 (.int .i64 0)) fun t21=>
aC t21 (K (.bool false) r0.2) (dR (aA prog 24 (.ptr r0.1 0 0 0) 3) fun t22=>
dR (aB prog 3 t22 r0.2) fun t23=>
dR (aA prog 24 (.ptr r0.1 0 0 0) 0) fun t24=>
dR (aB prog 3 t24 r0.2) fun t25=>
dR (aD prog .gtr 3 t23 t25) fun t26=>
aC t26 (K (.bool false) r0.2) (dR (aA prog 24 (.ptr r0.1 0 0 0) 2) fun t27=>
dR (aB prog 3 t27 r0.2) fun t28=>
bG (aH prog 3 t28 (.int .i64 0)) (dR (aD prog .eql 3 t28 (.int .i64 0)) fun t29=>
dR (aA prog 24 (.ptr r0.1 0 0 0) 3) fun t30=>
dR (aB prog 3 t30 r0.2) fun t31=>
bG (aH prog 3 t31 (.int .i64 0)) (dR (aD prog .eql 3 t31 (.int .i64 0)) fun t32=>
bG (aH prog 4 t29 t32) (dR (aD prog .neq 4 t29 t32) fun t33=>
aC t33 (K (.bool false) r0.2) (dR (aA prog 24 (.ptr r0.1 0 0 0) 4) fun t34=>
dR (aB prog 3 t34 r0.2) fun t35=>
dR (aD prog .lss 3 t35 (.int .i64 1)) fun t36=>
aC t36 (K (.bool false) r0.2) (dR (aA prog 24 (.ptr r0.1 0 0 0) 4) fun t37=>
dR (aB prog 3 t37 r0.2) fun t38=>
dR (aD prog .geq 3 t38 (.int .i64 128)) fun t39=>
aC t39 (K (.bool false) r0.2) (dR (aA prog 24 (.ptr r0.1 0 0 0) 2) fun t40=>
dR (aB prog 3 t40 r0.2) fun t41=>
bG (aH prog 3 t41 (.int .i64 0)) (dR (aD prog .eql 3 t41 (.int .i64 0)) fun t42=>
dR (aA prog 24 (.ptr r0.1 0 0 0) 5) fun t43=>
dR (aB prog 9 t43 r0.2) fun t44=>
bG (aH prog 9 t44 (.str [])) (dR (aD prog .eql 9 t44 (.str [])) fun t45=>
bG (aH prog 4 t42 t45) (dR (aD prog .neq 4 t42 t45) fun t46=>
aC t46 (K (.bool false) r0.2) (dR (aA prog 24 (.ptr r0.1 0 0 0) 5) fun t47=>
dR (aB prog 9 t47 r0.2) fun t48=>
dR (bZ prog 9 t48 r0.2) fun t49=>
dR (aD prog .gtr 3 t49 (.int .i64 65536)) fun t50=>
aC t50 (K (.bool false) r0.2) (dR (aA prog 24 (.ptr r0.1 0 0 0) 6) fun t51=>
dR (aB prog 22 t51 r0.2) fun t52=>
dR (bZ prog 22 t52 r0.2) fun t53=>
dR (aD prog .gtr 3 t53 (.int .i64 200)) fun t54=>
aC t54 (K (.bool false) r0.2) (dR (aA prog 24 (.ptr r0.1 0 0 0) 2) fun t55=>
dR (aB prog 3 t55 r0.2) fun t56=>
dR (aA prog 24 (.ptr r0.1 0 0 0) 6) fun t57=>
dR (aB prog 22 t57 r0.2) fun t58=>
dR (bZ prog 22 t58 r0.2) fun t59=>
dR (aD prog .sub 3 (.int .i64 1099511627776) t59) fun t60=>
dR (aD prog .gtr 3 t56 t60) fun t61=>
aC t61 (K (.bool false) r0.2) (dR (aA prog 24 (.ptr r0.1 0 0 0) 3) fun t62=>
dR (aB prog 3 t62 r0.2) fun t63=>
cQ k [(.bool false),t63,(.int .i64 0)] r0.2 (aE1 C k K (.ptr r0.1 0 0 0))))))))))))))))))))))))
theorem aSg:(fun (k:Nat) (a0:V) (S:St) (K:KS)=>aE prog aW aX (k+1) 23 [a0] S K)=fun k a0 S K=>m23 (aE prog aW aX k) k a0 S K:=by kernel_rfl
noncomputable def m27 (C:aT) (k:Nat) (a0:V) (S:St) (K:KS):An:=
aN a0 (dR (aA prog 88 a0 10) fun t0=>
dR (aB prog 43 t0 S) fun t1=>
aN a0 (dR (aA prog 88 a0 10) fun t2=>
dR (aM prog 43 t2 (.nils) S) fun S3=>
K t1 S3))
theorem aSh:(fun (k:Nat) (a0:V) (S:St) (K:KS)=>aE prog aW aX (k+1) 27 [a0] S K)=fun k a0 S K=>m27 (aE prog aW aX k) k a0 S K:=by kernel_rfl
noncomputable def m30 (C:aT) (k:Nat) (a0 a1:V) (S:St) (K:KS):An:=
dR (aD prog .geq 3 a1 (.int .i64 0)) fun t0=>
aC t0 (dR (aD prog .lss 3 a1 (.int .i64 7)) fun t1=>
aC t1 (dR (aD prog .shr 3 a0 a1) fun t2=>
dR (aD prog .and 3 t2 (.int .i64 1)) fun t3=>
bG (aH prog 3 t3 (.int .i64 1)) (dR (aD prog .eql 3 t3 (.int .i64 1)) fun t4=>
K t4 S)) (K (.bool false) S)) (K (.bool false) S)
theorem aSi:(fun (k:Nat) (a0 a1:V) (S:St) (K:KS)=>aE prog aW aX (k+1) 30 [a0,a1] S K)=fun k a0 a1 S K=>m30 (aE prog aW aX k) k a0 a1 S K:=by kernel_rfl
noncomputable def aE2 (C:aT) (k:Nat) (K:KS) (p0 p1:V) (vs:List V) (S:St) (again0:List V→St→An):An:=
gS vs fun x4 vs=>
gS vs fun x5 vs=>
dR (bZ prog 43 p0 S) fun t3=>
dR (aD prog .lss 3 x5 t3) fun t4=>
aC t4 (dR (aP prog 43 p0 x5) fun t5=>
dR (aB prog 37 t5 (⟨S.next+12,S.heap⟩:St)) fun t6=>
dR (aP prog 43 p1 x5) fun t7=>
dR (aB prog 37 t7 (⟨S.next+12,S.heap⟩:St)) fun t8=>
dR (bF (some (S.next+8)) (⟨S.next+12,S.heap⟩:St) (.row 0 13 [[.int .i64 0,.int .i64 0,.int .i64 0,.int .i64 0,.int .i64 0,.int .i64 0,.int .i64 0,.int .i64 0,.int .i64 0,.int .i64 0,.bool false,.str [],.nils]])) fun r9=>
dR (bF (some (S.next+9)) r9.2 (.row 0 13 [[.int .i64 0,.int .i64 0,.int .i64 0,.int .i64 0,.int .i64 0,.int .i64 0,.int .i64 0,.int .i64 0,.int .i64 0,.int .i64 0,.bool false,.str [],.nils]])) fun r10=>
dR (aM prog 37 (.ptr r9.1 0 0 0) t6 r10.2) fun S11=>
dR (aB prog 37 t7 S11) fun t12=>
bG (bN t8 t12) (dR (aM prog 37 (.ptr r10.1 0 0 0) t8 S11) fun S13=>
dR (aA prog 37 (.ptr r9.1 0 0 0) 0) fun t14=>
dR (aB prog 3 t14 S13) fun t15=>
dR (aA prog 37 (.ptr r10.1 0 0 0) 0) fun t16=>
dR (aB prog 3 t16 S13) fun t17=>
bG (aH prog 3 t15 t17) (dR (aD prog .neq 3 t15 t17) fun t18=>
aC t18 (K (.bool false) S13) (dR (aA prog 37 (.ptr r9.1 0 0 0) 1) fun t19=>
dR (aB prog 3 t19 S13) fun t20=>
dR (aA prog 37 (.ptr r10.1 0 0 0) 1) fun t21=>
dR (aB prog 3 t21 S13) fun t22=>
bG (aH prog 3 t20 t22) (dR (aD prog .neq 3 t20 t22) fun t23=>
aC t23 (K (.bool false) S13) (dR (aA prog 37 (.ptr r9.1 0 0 0) 2) fun t24=>
dR (aB prog 3 t24 S13) fun t25=>
dR (aA prog 37 (.ptr r10.1 0 0 0) 2) fun t26=>
dR (aB prog 3 t26 S13) fun t27=>
bG (aH prog 3 t25 t27) (dR (aD prog .neq 3 t25 t27) fun t28=>
aC t28 (K (.bool false) S13) (dR (aA prog 37 (.ptr r9.1 0 0 0) 3) fun t29=>
dR (aB prog 3 t29 S13) fun t30=>
dR (aA prog 37 (.ptr r10.1 0 0 0) 3) fun t31=>
dR (aB prog 3 t31 S13) fun t32=>
bG (aH prog 3 t30 t32) (dR (aD prog .neq 3 t30 t32) fun t33=>
aC t33 (K (.bool false) S13) (dR (aA prog 37 (.ptr r9.1 0 0 0) 4) fun t34=>
dR (aB prog 3 t34 S13) fun t35=>
dR (aA prog 37 (.ptr r10.1 0 0 0) 4) fun t36=>
dR (aB prog 3 t36 S13) fun t37=>
bG (aH prog 3 t35 t37) (dR (aD prog .neq 3 t35 t37) fun t38=>
aC t38 (K (.bool false) S13) (dR (aA prog 37 (.ptr r9.1 0 0 0) 5) fun t39=>
dR (aB prog 3 t39 S13) fun t40=>
dR (aA prog 37 (.ptr r10.1 0 0 0) 5) fun t41=>
dR (aB prog 3 t41 S13) fun t42=>
bG (aH prog 3 t40 t42) (dR (aD prog .neq 3 t40 t42) fun t43=>
aC t43 (K (.bool false) S13) (dR (aA prog 37 (.ptr r9.1 0 0 0) 6) fun t44=>
dR (aB prog 3 t44 S13) fun t45=>
dR (aA prog 37 (.ptr r10.1 0 0 0) 6) fun t46=>
dR (aB prog 3 t46 S13) fun t47=>
bG (aH prog 3 t45 t47) (dR (aD prog .neq 3 t45 t47) fun t48=>
aC t48 (K (.bool false) S13) (dR (aA prog 37 (.ptr r9.1 0 0 0) 7) fun t49=>
dR (aB prog 3 t49 S13) fun t50=>
dR (aA prog 37 (.ptr r10.1 0 0 0) 7) fun t51=>
dR (aB prog 3 t51 S13) fun t52=>
bG (aH prog 3 t50 t52) (dR (aD prog .neq 3 t50 t52) fun t53=>
aC t53 (K (.bool false) S13) (dR (aA prog 37 (.ptr r9.1 0 0 0) 8) fun t54=>
dR (aB prog 3 t54 S13) fun t55=>
dR (aA prog 37 (.ptr r10.1 0 0 0) 8) fun t56=>
dR (aB prog 3 t56 S13) fun t57=>
bG (aH prog 3 t55 t57) (dR (aD prog .neq 3 t55 t57) fun t58=>
aC t58 (K (.bool false) S13) (dR (aA prog 37 (.ptr r9.1 0 0 0) 9) fun t59=>
dR (aB prog 3 t59 S13) fun t60=>
dR (aA prog 37 (.ptr r10.1 0 0 0) 9) fun t61=>
dR (aB prog 3 t61 S13) fun t62=>
bG (aH prog 3 t60 t62) (dR (aD prog .neq 3 t60 t62) fun t63=>
aC t63 (K (.bool false) S13) (dR (aA prog 37 (.ptr r9.1 0 0 0) 10) fun t64=>
dR (aB prog 4 t64 S13) fun t65=>
dR (aA prog 37 (.ptr r10.1 0 0 0) 10) fun t66=>
dR (aB prog 4 t66 S13) fun t67=>
bG (aH prog 4 t65 t67) (dR (aD prog .neq 4 t65 t67) fun t68=>
aC t68 (K (.bool false) S13) (dR (aA prog 37 (.ptr r9.1 0 0 0) 11) fun t69=>
dR (aB prog 9 t69 S13) fun t70=>
dR (aA prog 37 (.ptr r10.1 0 0 0) 11) fun t71=>
dR (aB prog 9 t71 S13) fun t72=>
bG (aH prog 9 t70 t72) (dR (aD prog .neq 9 t70 t72) fun t73=>
aC t73 (K (.bool false) S13) (dR (aA prog 37 (.ptr r9.1 0 0 0) 12) fun t74=>
dR (aB prog 22 t74 S13) fun t75=>
dR (aA prog 37 (.ptr r10.1 0 0 0) 12) fun t76=>
dR (aB prog 22 t76 S13) fun t77=>
C 66 [t75,t77] S13 fun t78 S79=>
dR (oT .not t78) fun t80=>
aC t80 (K (.bool false) S79) (dR (aD prog .add 3 x5 (.int .i64 1)) fun t81=>
again0 [x4,t81] S79))))))))))))))))))))))))))) (K (.bool true) S)
noncomputable def m32 (C:aT) (k:Nat) (a0 a1:V) (S:St) (K:KS):An:=
dR (bZ prog 43 a0 S) fun t0=>
dR (bZ prog 43 a1 S) fun t1=>
bG (aH prog 3 t0 t1) (dR (aD prog .neq 3 t0 t1) fun t2=>
aC t2 (K (.bool false) S) (cQ k [(.bool false),(.int .i64 0)] S (aE2 C k K a0 a1)))
theorem aSj:(fun (k:Nat) (a0 a1:V) (S:St) (K:KS)=>aE prog aW aX (k+1) 32 [a0,a1] S K)=fun k a0 a1 S K=>m32 (aE prog aW aX k) k a0 a1 S K:=by kernel_rfl
noncomputable def m33 (C:aT) (k:Nat) (a0:V) (S:St) (K:KS):An:=
bG (aU (a0:V).cells) (dR (bF none S (.row 0 (a0:V).cells.length [(a0:V).cells])) fun r0=>
dR (aB prog 24 (.ptr r0.1 0 0 0) r0.2) fun t1=>
C 67 [t1] r0.2 fun t2 S3=>
aC t2 (dR (aA prog 24 (.ptr r0.1 0 0 0) 5) fun t4=>
dR (aB prog 9 t4 S3) fun t5=>
bG (aH prog 9 t5 (.str [])) (dR (aD prog .eql 9 t5 (.str [])) fun t6=>
dR (aA prog 24 (.ptr r0.1 0 0 0) 2) fun t7=>
dR (aB prog 3 t7 S3) fun t8=>
bG (aH prog 3 t8 (.int .i64 0)) (dR (aD prog .eql 3 t8 (.int .i64 0)) fun t9=>
bG (aH prog 4 t6 t9) (dR (aD prog .eql 4 t6 t9) fun t10=>
aC t10 (dR (aA prog 24 (.ptr r0.1 0 0 0) 5) fun t11=>
dR (aB prog 9 t11 S3) fun t12=>
dR (bZ prog 9 t12 S3) fun t13=>
dR (aD prog .leq 3 t13 (.int .i64 65536)) fun t14=>
K t14 S3) (K (.bool false) S3))))) (K (.bool false) S3))
theorem aSk:(fun (k:Nat) (a0:V) (S:St) (K:KS)=>aE prog aW aX (k+1) 33 [a0] S K)=fun k a0 S K=>m33 (aE prog aW aX k) k a0 S K:=by kernel_rfl
noncomputable def m34 (C:aT) (k:Nat) (a0:V) (S:St) (K:KS):An:=
dR (aD prog .rem 3 a0 (.int .i64 11)) fun t0=>
dR (aD prog .lss 3 t0 (.int .i64 0)) fun t1=>
aC t1 (dR (aD prog .add 3 t0 (.int .i64 11)) fun t2=>
dR (aD prog .add 3 (.int .i64 10) t2) fun t3=>
K t3 S) (dR (aD prog .add 3 (.int .i64 10) t0) fun t4=>
K t4 S)
theorem aSl:(fun (k:Nat) (a0:V) (S:St) (K:KS)=>aE prog aW aX (k+1) 34 [a0] S K)=fun k a0 S K=>m34 (aE prog aW aX k) k a0 S K:=by kernel_rfl
noncomputable def m35 (C:aT) (k:Nat) (a0:V) (S:St) (K:KS):An:=
bG (aU (a0:V).cells) (dR (bF none S (.row 0 (a0:V).cells.length [(a0:V).cells])) fun r0=>
dR (bF none r0.2 (.row 0 7 [[.int .i64 0,.int .i64 0,.int .i64 0,.int .i64 0,.int .i64 0,.str [],.nils]])) fun r1=>
dR (aA prog 24 (.ptr r0.1 0 0 0) 6) fun t2=>
dR (aB prog 22 t2 r1.2) fun t3=>
dR (cD prog 22 (.nils) t3 none r1.2) fun r4=>
dR (aA prog 24 (.ptr r0.1 0 0 0) 6) fun t5=>
dR (aM prog 22 t5 r4.1 r4.2) fun S6=>
dR (aB prog 24 (.ptr r0.1 0 0 0) S6) fun t7=>
dR (aM prog 24 (.ptr r1.1 0 0 0) t7 S6) fun S8=>
dR (aB prog 24 (.ptr r1.1 0 0 0) S8) fun t9=>
K t9 S8)
theorem aSm:(fun (k:Nat) (a0:V) (S:St) (K:KS)=>aE prog aW aX (k+1) 35 [a0] S K)=fun k a0 S K=>m35 (aE prog aW aX k) k a0 S K:=by kernel_rfl
noncomputable def m36 (C:aT) (k:Nat) (a0:V) (S:St) (K:KS):An:=
dR (aD prog .rem 3 a0 (.int .i64 11)) fun t0=>
dR (aD prog .lss 3 t0 (.int .i64 0)) fun t1=>
aC t1 (dR (aD prog .add 3 t0 (.int .i64 10)) fun t2=>
dR (aD prog .add 3 t2 (.int .i64 1)) fun t3=>
dR (aD prog .add 3 (.int .i64 10) t3) fun t4=>
K t4 S) (dR (aD prog .add 3 (.int .i64 10) t0) fun t5=>
K t5 S)
theorem aSn:(fun (k:Nat) (a0:V) (S:St) (K:KS)=>aE prog aW aX (k+1) 36 [a0] S K)=fun k a0 S K=>m36 (aE prog aW aX k) k a0 S K:=by kernel_rfl
noncomputable def aE3 (C:aT) (k:Nat) (K:KS) (again0:List V→St→An) (p0 p4 p6 p125:V) (S:St):An:=
aC p125 (C 43 [p0] S fun t57 S58=>
C 43 [p0] S58 fun t59 S60=>
C 72 [p0,t59] S60 fun t61 S62=>
dR (bQ prog 37 [(0,(.int .i64 1)),(2,p6),(4,t57),(5,t61)]) fun t63=>
C 71 [p0,t63] S62 fun t64 S65=>
dR (aD prog .add 3 p6 (.int .i64 1)) fun t66=>
again0 [t66] S65) (dR (aD prog .add 3 p6 (.int .i64 1)) fun t67=>
again0 [t67] S)
noncomputable def zM (C:aT) (k:Nat) (K:KS) (p0 p4:V) (vs:List V) (S:St) (again0:List V→St→An):An:=
gS vs fun x6 vs=>
dR (aD prog .lss 3 x6 (.int .i64 7)) fun t56=>
aC t56 (aN p0 (dR (aA prog 45 p0 1) fun t68=>
dR (aB prog 3 t68 S) fun t69=>
bG (aH prog 3 x6 t69) (dR (aD prog .neq 3 x6 t69) fun t70=>
aC t70 (C 30 [p4,x6] S fun t71 S72=>
aE3 C k K again0 p0 p4 x6 t71 S72) (aE3 C k K again0 p0 p4 x6 (.bool false) S)))) (K (.tup []) S)
noncomputable def zN (C:aT) (k:Nat) (K:KS) (p0 p4:V) (S:St):An:=
aN p0 (dR (aA prog 45 p0 0) fun t29=>
dR (aA prog 24 t29 0) fun t30=>
dR (aB prog 3 t30 S) fun t31=>
dR (aD prog .add 3 t31 (.int .i64 1)) fun t32=>
aN p0 (dR (aA prog 45 p0 0) fun t33=>
dR (aA prog 24 t33 0) fun t34=>
dR (aM prog 3 t34 t32 S) fun S35=>
aN p0 (dR (aA prog 45 p0 1) fun t36=>
dR (aB prog 3 t36 S35) fun t37=>
aN p0 (dR (aA prog 45 p0 0) fun t38=>
dR (aA prog 24 t38 1) fun t39=>
dR (aM prog 3 t39 t37 S35) fun S40=>
aN p0 (dR (aA prog 45 p0 2) fun t41=>
dR (aM prog 3 t41 (.int .i64 2) S40) fun S42=>
aN p0 (dR (aA prog 45 p0 3) fun t43=>
dR (aM prog 3 t43 (.int .i64 (-1)) S42) fun S44=>
aN p0 (dR (aA prog 45 p0 1) fun t45=>
dR (aB prog 3 t45 S44) fun t46=>
dR (aD prog .shl 3 (.int .i64 1) t46) fun t47=>
aN p0 (dR (aA prog 45 p0 7) fun t48=>
dR (aM prog 3 t48 t47 S44) fun S49=>
aN p0 (dR (aA prog 45 p0 7) fun t50=>
dR (aB prog 3 t50 S49) fun t51=>
C 69 [p4,t51] S49 fun t52 S53=>
aC t52 (C 70 [p0] S53 fun t54 S55=>
K (.tup []) S55) (cQ k [(.int .i64 0)] S53 (zM C k K p0 p4)))))))))))
noncomputable def m37 (C:aT) (k:Nat) (a0 a1:V) (S:St) (K:KS):An:=
aN a0 (dR (aA prog 45 a0 6) fun t0=>
dR (aB prog 3 t0 S) fun t1=>
dR (aD prog .sub 3 t1 (.int .i64 1)) fun t2=>
aN a0 (dR (aA prog 45 a0 6) fun t3=>
dR (aM prog 3 t3 t2 S) fun S4=>
aN a0 (dR (aA prog 45 a0 6) fun t5=>
dR (aB prog 3 t5 S4) fun t6=>
dR (aD prog .gtr 3 t6 (.int .i64 0)) fun t7=>
aC t7 (K (.tup []) S4) (aN a0 (dR (aA prog 45 a0 2) fun t8=>
dR (aB prog 3 t8 S4) fun t9=>
bG (aH prog 3 t9 (.int .i64 3)) (dR (aD prog .eql 3 t9 (.int .i64 3)) fun t10=>
aC t10 (aN a0 (dR (aA prog 45 a0 6) fun t11=>
dR (aM prog 3 t11 (.int .i64 3) S4) fun S12=>
C 68 [a0] S12 fun t13 S14=>
K (.tup []) S14)) (C 36 [a1] S4 fun t15 S16=>
aN a0 (dR (aA prog 45 a0 5) fun t17=>
dR (aM prog 3 t17 t15 S16) fun S18=>
aN a0 (dR (aA prog 45 a0 5) fun t19=>
dR (aB prog 3 t19 S18) fun t20=>
aN a0 (dR (aA prog 45 a0 6) fun t21=>
dR (aM prog 3 t21 t20 S18) fun S22=>
aN a0 (dR (aA prog 45 a0 0) fun t23=>
dR (aB prog 24 t23 S22) fun t24=>
C 42 [t24] S22 fun t25 S26=>
fT t25 0 fun t27=>
fT t25 1 fun t28=>
aN a0 (dR (aA prog 45 a0 0) fun t73=>
dR (aA prog 24 t73 0) fun t74=>
dR (aB prog 3 t74 S26) fun t75=>
bG (aH prog 3 t75 (.int .i64 1099511627776)) (dR (aD prog .eql 3 t75 (.int .i64 1099511627776)) fun t76=>
aC t76 (K (.tup []) S26) (aN a0 (dR (aA prog 45 a0 1) fun t77=>
dR (aB prog 3 t77 S26) fun t78=>
C 30 [t27,t78] S26 fun t79 S80=>
dR (oT .not t79) fun t81=>
aC t81 (aN a0 (dR (aA prog 45 a0 4) fun t82=>
dR (aB prog 3 t82 S80) fun t83=>
dR (aD prog .leq 3 t28 t83) fun t84=>
aC t84 (K (.tup []) S80) (zN C k K a0 t27 S80))) (zN C k K a0 t27 S80))))))))))))))))
theorem aSo:(fun (k:Nat) (a0 a1:V) (S:St) (K:KS)=>aE prog aW aX (k+1) 37 [a0,a1] S K)=fun k a0 a1 S K=>m37 (aE prog aW aX k) k a0 a1 S K:=by kernel_rfl
noncomputable def vF (C:aT) (k:Nat) (K:KS) (p0 p3 p86:V) (S:St):An:=
aC p86 (dR (aA prog 37 p3 1) fun t24=>
dR (aB prog 3 t24 (⟨S.next+7,S.heap⟩:St)) fun t25=>
C 43 [p0] (⟨S.next+7,S.heap⟩:St) fun t26 S27=>
dR (aB prog 3 t24 S27) fun t28=>
bG (bN t25 t28) (dR (bQ prog 37 [(0,(.int .i64 4)),(2,t25),(4,t26)]) fun t29=>
C 71 [p0,t29] S27 fun t30 S31=>
K (.tup []) S31)) (K (.tup []) S)
noncomputable def vG (C:aT) (k:Nat) (K:KS) (p0 p3 p113:V) (S:St):An:=
aC p113 (aN p0 (dR (aA prog 45 p0 7) fun t41=>
dR (aB prog 3 t41 (⟨S.next+12,S.heap⟩:St)) fun t42=>
dR (aA prog 37 p3 1) fun t43=>
dR (aB prog 3 t43 (⟨S.next+12,S.heap⟩:St)) fun t44=>
dR (aD prog .shl 3 (.int .i64 1) t44) fun t45=>
dR (aD prog .or 3 t42 t45) fun t46=>
aN p0 (dR (aA prog 45 p0 7) fun t47=>
dR (aM prog 3 t47 t46 (⟨S.next+12,S.heap⟩:St)) fun S48=>
aN p0 (dR (aA prog 45 p0 7) fun t49=>
dR (aB prog 3 t49 (⟨S48.next+7,S48.heap⟩:St)) fun t50=>
C 75 [p0] (⟨S48.next+7,S48.heap⟩:St) fun t51 S52=>
dR (aB prog 3 t49 S52) fun t53=>
bG (bN t50 t53) (C 69 [t51,t50] S52 fun t54 S55=>
aC t54 (C 70 [p0] S55 fun t56 S57=>
K (.tup []) S57) (K (.tup []) S55)))))) (K (.tup []) S)
noncomputable def mW (C:aT) (k:Nat) (K:KS) (p0 p3 p203:V) (S:St):An:=
aC p203 (dR (aA prog 37 p3 1) fun t76=>
dR (aB prog 3 t76 (⟨S.next+9,S.heap⟩:St)) fun t77=>
dR (aA prog 37 p3 8) fun t78=>
dR (aB prog 3 t78 (⟨S.next+9,S.heap⟩:St)) fun t79=>
aN p0 (dR (aA prog 45 p0 10) fun t80=>
dR (aP prog 42 t80 t77) fun t81=>
dR (aM prog 3 t81 t79 (⟨S.next+9,S.heap⟩:St)) fun S82=>
dR (aA prog 37 p3 1) fun t83=>
dR (aB prog 3 t83 S82) fun t84=>
C 79 [p0,t84] S82 fun t85 S86=>
K (.tup []) S86)) (K (.tup []) S)
noncomputable def aE4 (C:aT) (k:Nat) (K:KS) (p0 p3:V) (S:St):An:=
dR (aA prog 37 p3 3) fun t10=>
dR (aB prog 3 t10 (⟨S.next+8,S.heap⟩:St)) fun t11=>
aN p0 (dR (aA prog 45 p0 0) fun t12=>
dR (aA prog 24 t12 0) fun t13=>
dR (aB prog 3 t13 (⟨S.next+8,S.heap⟩:St)) fun t14=>
dR (aD prog .lss 3 t11 t14) fun t15=>
aC t15 (dR (aA prog 37 p3 0) fun t16=>
dR (aB prog 3 t16 (⟨S.next+8,S.heap⟩:St)) fun t17=>
bG (aH prog 3 t17 (.int .i64 1)) (dR (aD prog .eql 3 t17 (.int .i64 1)) fun t18=>
aC t18 (dR (aA prog 37 p3 1) fun t19=>
dR (aB prog 3 t19 (⟨S.next+8,S.heap⟩:St)) fun t20=>
dR (bQ prog 37 [(0,(.int .i64 2)),(2,t20)]) fun t21=>
C 71 [p0,t21] (⟨S.next+8,S.heap⟩:St) fun t22 S23=>
K (.tup []) S23) (bG (aH prog 3 t17 (.int .i64 3)) (dR (aD prog .eql 3 t17 (.int .i64 3)) fun t32=>
aC t32 (vF C k K p0 p3 (.bool true) (⟨S.next+8,S.heap⟩:St)) (bG (aH prog 3 t17 (.int .i64 5)) (dR (aD prog .eql 3 t17 (.int .i64 5)) fun t33=>
vF C k K p0 p3 t33 (⟨S.next+8,S.heap⟩:St))))))) (dR (aA prog 37 p3 0) fun t34=>
dR (aB prog 3 t34 (⟨S.next+8,S.heap⟩:St)) fun t35=>
bG (aH prog 3 t35 (.int .i64 1)) (dR (aD prog .eql 3 t35 (.int .i64 1)) fun t36=>
aC t36 (dR (aB prog 37 p3 (⟨S.next+8,S.heap⟩:St)) fun t37=>
C 74 [p0,t37] (⟨S.next+8,S.heap⟩:St) fun t38 S39=>
K (.tup []) S39) (bG (aH prog 3 t35 (.int .i64 2)) (dR (aD prog .eql 3 t35 (.int .i64 2)) fun t40=>
aC t40 (aN p0 (dR (aA prog 45 p0 2) fun t58=>
dR (aB prog 3 t58 (⟨S.next+8,S.heap⟩:St)) fun t59=>
bG (aH prog 3 t59 (.int .i64 2)) (dR (aD prog .eql 3 t59 (.int .i64 2)) fun t60=>
aC t60 (dR (aA prog 37 p3 10) fun t61=>
dR (aB prog 4 t61 (⟨S.next+8,S.heap⟩:St)) fun t62=>
vG C k K p0 p3 t62 (⟨S.next+8,S.heap⟩:St)) (vG C k K p0 p3 (.bool false) (⟨S.next+8,S.heap⟩:St))))) (bG (aH prog 3 t35 (.int .i64 3)) (dR (aD prog .eql 3 t35 (.int .i64 3)) fun t63=>
aC t63 (dR (aB prog 37 p3 (⟨S.next+8,S.heap⟩:St)) fun t64=>
C 76 [p0,t64] (⟨S.next+8,S.heap⟩:St) fun t65 S66=>
K (.tup []) S66) (bG (aH prog 3 t35 (.int .i64 4)) (dR (aD prog .eql 3 t35 (.int .i64 4)) fun t67=>
aC t67 (dR (aB prog 37 p3 (⟨S.next+8,S.heap⟩:St)) fun t68=>
C 77 [p0,t68] (⟨S.next+8,S.heap⟩:St) fun t69 S70=>
K (.tup []) S70) (bG (aH prog 3 t35 (.int .i64 5)) (dR (aD prog .eql 3 t35 (.int .i64 5)) fun t71=>
aC t71 (dR (aB prog 37 p3 (⟨S.next+8,S.heap⟩:St)) fun t72=>
C 78 [p0,t72] (⟨S.next+8,S.heap⟩:St) fun t73 S74=>
K (.tup []) S74) (bG (aH prog 3 t35 (.int .i64 6)) (dR (aD prog .eql 3 t35 (.int .i64 6)) fun t75=>
aC t75 (aN p0 (dR (aA prog 45 p0 2) fun t87=>
dR (aB prog 3 t87 (⟨S.next+61,S.heap⟩:St)) fun t88=>
bG (aH prog 3 t88 (.int .i64 3)) (dR (aD prog .eql 3 t88 (.int .i64 3)) fun t89=>
aC t89 (dR (aA prog 37 p3 4) fun t90=>
dR (aB prog 3 t90 (⟨S.next+61,S.heap⟩:St)) fun t91=>
aN p0 (dR (aA prog 45 p0 0) fun t92=>
dR (aA prog 24 t92 2) fun t93=>
dR (aB prog 3 t93 (⟨S.next+61,S.heap⟩:St)) fun t94=>
bG (aH prog 3 t91 t94) (dR (aD prog .eql 3 t91 t94) fun t95=>
aC t95 (dR (aA prog 37 p3 1) fun t96=>
dR (aB prog 3 t96 (⟨S.next+61,S.heap⟩:St)) fun t97=>
aN p0 (dR (aA prog 45 p0 8) fun t98=>
dR (aP prog 42 t98 t97) fun t99=>
dR (aB prog 3 t99 (⟨S.next+61,S.heap⟩:St)) fun t100=>
aN p0 (dR (aA prog 45 p0 0) fun t101=>
dR (aA prog 24 t101 2) fun t102=>
dR (aB prog 3 t102 (⟨S.next+61,S.heap⟩:St)) fun t103=>
dR (aD prog .leq 3 t100 t103) fun t104=>
aC t104 (dR (aA prog 37 p3 8) fun t105=>
dR (aB prog 3 t105 (⟨S.next+61,S.heap⟩:St)) fun t106=>
aN p0 (dR (aA prog 45 p0 0) fun t107=>
dR (aA prog 24 t107 5) fun t108=>
dR (aB prog 9 t108 (⟨S.next+61,S.heap⟩:St)) fun t109=>
dR (bZ prog 9 t109 (⟨S.next+61,S.heap⟩:St)) fun t110=>
dR (aD prog .lss 3 t106 t110) fun t111=>
aC t111 (dR (aA prog 37 p3 8) fun t112=>
dR (aB prog 3 t112 (⟨S.next+61,S.heap⟩:St)) fun t113=>
dR (aA prog 37 p3 1) fun t114=>
dR (aB prog 3 t114 (⟨S.next+61,S.heap⟩:St)) fun t115=>
aN p0 (dR (aA prog 45 p0 10) fun t116=>
dR (aP prog 42 t116 t115) fun t117=>
dR (aB prog 3 t117 (⟨S.next+61,S.heap⟩:St)) fun t118=>
bG (aH prog 3 t113 t118) (dR (aD prog .neq 3 t113 t118) fun t119=>
mW C k K p0 p3 t119 (⟨S.next+61,S.heap⟩:St)))) (mW C k K p0 p3 (.bool false) (⟨S.next+61,S.heap⟩:St)))) (mW C k K p0 p3 (.bool false) (⟨S.next+61,S.heap⟩:St))))) (mW C k K p0 p3 (.bool false) (⟨S.next+61,S.heap⟩:St))))) (mW C k K p0 p3 (.bool false) (⟨S.next+61,S.heap⟩:St))))) (K (.tup []) (⟨S.next+8,S.heap⟩:St)))))))))))))))
noncomputable def zO (C:aT) (k:Nat) (K:KS) (p0 p3:V) (S:St):An:=
dR (aA prog 37 p3 3) fun t120=>
dR (aB prog 3 t120 (⟨S.next+8,S.heap⟩:St)) fun t121=>
aN p0 (dR (aA prog 45 p0 0) fun t122=>
dR (aA prog 24 t122 0) fun t123=>
dR (aB prog 3 t123 (⟨S.next+8,S.heap⟩:St)) fun t124=>
dR (aD prog .gtr 3 t121 t124) fun t125=>
aC t125 (dR (aA prog 37 p3 3) fun t126=>
dR (aB prog 3 t126 (⟨S.next+8,S.heap⟩:St)) fun t127=>
aN p0 (dR (aA prog 45 p0 0) fun t128=>
dR (aA prog 24 t128 0) fun t129=>
dR (aM prog 3 t129 t127 (⟨S.next+8,S.heap⟩:St)) fun S130=>
aN p0 (dR (aA prog 45 p0 0) fun t131=>
dR (aA prog 24 t131 1) fun t132=>
dR (aM prog 3 t132 (.int .i64 (-1)) S130) fun S133=>
aN p0 (dR (aA prog 45 p0 2) fun t134=>
dR (aM prog 3 t134 (.int .i64 1) S133) fun S135=>
aN p0 (dR (aA prog 45 p0 3) fun t136=>
dR (aM prog 3 t136 (.int .i64 (-1)) S135) fun S137=>
aE4 C k K p0 p3 S137))))) (aE4 C k K p0 p3 (⟨S.next+8,S.heap⟩:St)))
noncomputable def m38 (C:aT) (k:Nat) (a0 a1:V) (S:St) (K:KS):An:=
bG (aU (a1:V).cells) (dR (bF none S (.row 0 (a1:V).cells.length [(a1:V).cells])) fun r0=>
dR (aB prog 37 (.ptr r0.1 0 0 0) (⟨r0.2.next+12,r0.2.heap⟩:St)) fun t1=>
C 73 [t1] (⟨r0.2.next+12,r0.2.heap⟩:St) fun t2 S3=>
dR (oT .not t2) fun t4=>
aC t4 (K (.tup []) S3) (dR (aA prog 37 (.ptr r0.1 0 0 0) 2) fun t5=>
dR (aB prog 3 t5 S3) fun t6=>
aN a0 (dR (aA prog 45 a0 1) fun t7=>
dR (aB prog 3 t7 S3) fun t8=>
bG (aH prog 3 t6 t8) (dR (aD prog .neq 3 t6 t8) fun t9=>
aC t9 (K (.tup []) S3) (dR (aA prog 37 (.ptr r0.1 0 0 0) 0) fun t138=>
dR (aB prog 3 t138 (⟨S3.next+29,S3.heap⟩:St)) fun t139=>
bG (aH prog 3 t139 (.int .i64 1)) (dR (aD prog .eql 3 t139 (.int .i64 1)) fun t140=>
aC t140 (aN a0 (dR (aA prog 45 a0 2) fun t141=>
dR (aB prog 3 t141 (⟨S3.next+29,S3.heap⟩:St)) fun t142=>
bG (aH prog 3 t142 (.int .i64 3)) (dR (aD prog .eql 3 t142 (.int .i64 3)) fun t143=>
aC t143 (K (.tup []) (⟨S3.next+29,S3.heap⟩:St)) (aN a0 (dR (aA prog 45 a0 3) fun t144=>
dR (aB prog 3 t144 (⟨S3.next+29,S3.heap⟩:St)) fun t145=>
bG (aH prog 3 t145 (.int .i64 (-1))) (dR (aD prog .neq 3 t145 (.int .i64 (-1))) fun t146=>
aC t146 (aN a0 (dR (aA prog 45 a0 5) fun t147=>
dR (aB prog 3 t147 (⟨S3.next+29,S3.heap⟩:St)) fun t148=>
aN a0 (dR (aA prog 45 a0 6) fun t149=>
dR (aB prog 3 t149 (⟨S3.next+29,S3.heap⟩:St)) fun t150=>
dR (aD prog .sub 3 t148 t150) fun t151=>
dR (aD prog .lss 3 t151 (.int .i64 10)) fun t152=>
aC t152 (K (.tup []) (⟨S3.next+29,S3.heap⟩:St)) (zO C k K a0 (.ptr r0.1 0 0 0) (⟨S3.next+29,S3.heap⟩:St))))) (zO C k K a0 (.ptr r0.1 0 0 0) (⟨S3.next+29,S3.heap⟩:St)))))))) (zO C k K a0 (.ptr r0.1 0 0 0) (⟨S3.next+29,S3.heap⟩:St))))))))
theorem aSp:(fun (k:Nat) (a0 a1:V) (S:St) (K:KS)=>aE prog aW aX (k+1) 38 [a0,a1] S K)=fun k a0 a1 S K=>m38 (aE prog aW aX k) k a0 a1 S K:=by kernel_rfl
noncomputable def zP (C:aT) (k:Nat) (K:KS) (p0 p1 p4 p5 p7:V) (vs:List V) (S:St) (again1:List V→St→An):An:=
gS vs fun x8 vs=>
dR (bZ prog 38 p1 S) fun t29=>
dR (aD prog .lss 3 x8 t29) fun t30=>
aC t30 (aN p0 (dR (aA prog 45 p0 0) fun t31=>
dR (aA prog 24 t31 6) fun t32=>
dR (aB prog 22 t32 (⟨S.next+22,S.heap⟩:St)) fun t33=>
aN p0 (dR (aA prog 45 p0 0) fun t34=>
dR (aA prog 24 t34 0) fun t35=>
dR (aB prog 3 t35 (⟨S.next+22,S.heap⟩:St)) fun t36=>
dR (aP prog 38 p1 x8) fun t37=>
dR (aB prog 9 t37 (⟨S.next+22,S.heap⟩:St)) fun t38=>
dR (bQ prog 59 [(0,t36),(2,t38)]) fun t39=>
dR (bT prog 22 1 [(0,t39)] (some (S.next+16)) (⟨S.next+22,S.heap⟩:St)) fun r40=>
dR (cD prog 22 t33 r40.1 (some (S.next+17)) r40.2) fun r41=>
aN p0 (dR (aA prog 45 p0 0) fun t42=>
dR (aA prog 24 t42 6) fun t43=>
dR (aM prog 22 t43 r41.1 r41.2) fun S44=>
dR (aD prog .add 3 x8 (.int .i64 1)) fun t45=>
again1 [t45] S44)))) (C 80 [p0] S fun t46 S47=>
K (.tup [p7,(.bool true)]) S47)
noncomputable def vH (C:aT) (k:Nat) (K:KS) (p0 p1:V) (vs:List V) (S:St) (again0:List V→St→An):An:=
gS vs fun x4 vs=>
gS vs fun x5 vs=>
gS vs fun x6 vs=>
dR (bZ prog 38 p1 S) fun t19=>
dR (aD prog .lss 3 x6 t19) fun t20=>
aC t20 (dR (aP prog 38 p1 x6) fun t21=>
dR (aB prog 9 t21 S) fun t22=>
dR (bZ prog 9 t22 S) fun t23=>
dR (aD prog .gtr 3 t23 (.int .i64 1100)) fun t24=>
aC t24 (K (.tup [(.int .i64 0),(.bool false)]) S) (dR (aD prog .add 3 x6 (.int .i64 1)) fun t25=>
again0 [x4,x5,t25] S)) (C 43 [p0] S fun t26 S27=>
dR (aD prog .add 3 t26 (.int .i64 1)) fun t28=>
cQ k [(.int .i64 0)] S27 (zP C k K p0 p1 x4 x5 t28))
noncomputable def m39 (C:aT) (k:Nat) (a0 a1:V) (S:St) (K:KS):An:=
aN a0 (dR (aA prog 45 a0 2) fun t0=>
dR (aB prog 3 t0 S) fun t1=>
bG (aH prog 3 t1 (.int .i64 3)) (dR (aD prog .neq 3 t1 (.int .i64 3)) fun t2=>
aC t2 (K (.tup [(.int .i64 0),(.bool false)]) S) (dR (bZ prog 38 a1 S) fun t3=>
bG (aH prog 3 t3 (.int .i64 0)) (dR (aD prog .eql 3 t3 (.int .i64 0)) fun t4=>
aC t4 (K (.tup [(.int .i64 0),(.bool false)]) S) (dR (bZ prog 38 a1 S) fun t5=>
dR (aD prog .gtr 3 t5 (.int .i64 120)) fun t6=>
aC t6 (K (.tup [(.int .i64 0),(.bool false)]) S) (aN a0 (dR (aA prog 45 a0 0) fun t7=>
dR (aA prog 24 t7 6) fun t8=>
dR (aB prog 22 t8 S) fun t9=>
dR (bZ prog 22 t9 S) fun t10=>
dR (bZ prog 38 a1 S) fun t11=>
dR (aD prog .sub 3 (.int .i64 120) t11) fun t12=>
dR (aD prog .gtr 3 t10 t12) fun t13=>
aC t13 (K (.tup [(.int .i64 0),(.bool false)]) S) (C 43 [a0] S fun t14 S15=>
dR (bZ prog 38 a1 S15) fun t16=>
dR (aD prog .sub 3 (.int .i64 1099511627776) t16) fun t17=>
dR (aD prog .gtr 3 t14 t17) fun t18=>
aC t18 (K (.tup [(.int .i64 0),(.bool false)]) S15) (cQ k [(.int .i64 0),(.bool false),(.int .i64 0)] S15 (vH C k K a0 a1))))))))))
theorem aSq:(fun (k:Nat) (a0 a1:V) (S:St) (K:KS)=>aE prog aW aX (k+1) 39 [a0,a1] S K)=fun k a0 a1 S K=>m39 (aE prog aW aX k) k a0 a1 S K:=by kernel_rfl
noncomputable def vI (C:aT) (k:Nat) (K:KS) (again0:List V→St→An) (p0 p1 p6 p8 p103:V) (S:St):An:=
aC p103 (aN p0 (dR (aA prog 45 p0 8) fun t45=>
aN p0 (dR (aA prog 45 p0 9) fun t46=>
aN p0 (dR (aA prog 45 p0 10) fun t47=>
C 43 [p0] (⟨S.next+20,S.heap⟩:St) fun t48 S49=>
dR (aP prog 42 t45 p8) fun t50=>
dR (aM prog 3 t50 t48 S49) fun S51=>
dR (aP prog 42 t46 p8) fun t52=>
dR (aM prog 3 t52 (.int .i64 0) S51) fun S53=>
dR (aP prog 42 t47 p8) fun t54=>
dR (aM prog 3 t54 (.int .i64 0) S53) fun S55=>
dR (aD prog .add 3 p8 (.int .i64 1)) fun t56=>
again0 [t56] S55)))) (dR (aD prog .add 3 p8 (.int .i64 1)) fun t57=>
again0 [t57] S)
noncomputable def aE5 (C:aT) (k:Nat) (K:KS) (p0 p1 p6:V) (vs:List V) (S:St) (again0:List V→St→An):An:=
gS vs fun x8 vs=>
dR (aD prog .lss 3 x8 (.int .i64 7)) fun t44=>
aC t44 (C 30 [p1,x8] S fun t58 S59=>
aC t58 (C 30 [p6,x8] S59 fun t60 S61=>
dR (oT .not t60) fun t62=>
aC t62 (aN p0 (dR (aA prog 45 p0 1) fun t63=>
dR (aB prog 3 t63 S61) fun t64=>
bG (aH prog 3 x8 t64) (dR (aD prog .neq 3 x8 t64) fun t65=>
vI C k K again0 p0 p1 p6 x8 t65 S61))) (vI C k K again0 p0 p1 p6 x8 (.bool false) S61)) (vI C k K again0 p0 p1 p6 x8 (.bool false) S59)) (C 43 [p0] S fun t66 S67=>
C 80 [p0] S67 fun t68 S69=>
K (.tup [t66,(.bool true)]) S69)
noncomputable def m40 (C:aT) (k:Nat) (a0 a1:V) (S:St) (K:KS):An:=
aN a0 (dR (aA prog 45 a0 0) fun t0=>
dR (aB prog 24 t0 S) fun t1=>
C 42 [t1] S fun t2 S3=>
fT t2 0 fun t4=>
fT t2 1 fun t5=>
aN a0 (dR (aA prog 45 a0 2) fun t6=>
dR (aB prog 3 t6 (⟨S3.next+47,S3.heap⟩:St)) fun t7=>
bG (aH prog 3 t7 (.int .i64 3)) (dR (aD prog .neq 3 t7 (.int .i64 3)) fun t8=>
aC t8 (K (.tup [(.int .i64 0),(.bool false)]) (⟨S3.next+47,S3.heap⟩:St)) (C 81 [t4,a1] (⟨S3.next+47,S3.heap⟩:St) fun t9 S10=>
dR (oT .not t9) fun t11=>
aC t11 (K (.tup [(.int .i64 0),(.bool false)]) S10) (aN a0 (dR (aA prog 45 a0 4) fun t12=>
dR (aB prog 3 t12 S10) fun t13=>
dR (aD prog .gtr 3 t5 t13) fun t14=>
aC t14 (K (.tup [(.int .i64 0),(.bool false)]) S10) (aN a0 (dR (aA prog 45 a0 4) fun t15=>
dR (aB prog 3 t15 S10) fun t16=>
aN a0 (dR (aA prog 45 a0 0) fun t17=>
dR (aA prog 24 t17 0) fun t18=>
dR (aB prog 3 t18 S10) fun t19=>
C 72 [a0,t16] S10 fun t20 S21=>
dR (aB prog 3 t18 S21) fun t22=>
bG (bN t19 t22) (bG (aH prog 3 t20 t19) (dR (aD prog .neq 3 t20 t19) fun t23=>
aC t23 (K (.tup [(.int .i64 0),(.bool false)]) S21) (aN a0 (dR (aA prog 45 a0 0) fun t24=>
dR (aA prog 24 t24 6) fun t25=>
dR (aB prog 22 t25 S21) fun t26=>
dR (bZ prog 22 t26 S21) fun t27=>
dR (aD prog .geq 3 t27 (.int .i64 120)) fun t28=>
aC t28 (K (.tup [(.int .i64 0),(.bool false)]) S21) (C 43 [a0] S21 fun t29 S30=>
dR (aD prog .geq 3 t29 (.int .i64 1099511627776)) fun t31=>
aC t31 (K (.tup [(.int .i64 0),(.bool false)]) S30) (aN a0 (dR (aA prog 45 a0 0) fun t32=>
dR (aA prog 24 t32 6) fun t33=>
dR (aB prog 22 t33 (⟨S30.next+19,S30.heap⟩:St)) fun t34=>
aN a0 (dR (aA prog 45 a0 0) fun t35=>
dR (aA prog 24 t35 0) fun t36=>
dR (aB prog 3 t36 (⟨S30.next+19,S30.heap⟩:St)) fun t37=>
dR (bQ prog 59 [(0,t37),(1,a1)]) fun t38=>
dR (bT prog 22 1 [(0,t38)] (some (S30.next+13)) (⟨S30.next+19,S30.heap⟩:St)) fun r39=>
dR (cD prog 22 t34 r39.1 (some (S30.next+14)) r39.2) fun r40=>
aN a0 (dR (aA prog 45 a0 0) fun t41=>
dR (aA prog 24 t41 6) fun t42=>
dR (aM prog 22 t42 r40.1 r40.2) fun S43=>
cQ k [(.int .i64 0)] S43 (aE5 C k K a0 a1 t4)))))))))))))))))))
theorem aSr:(fun (k:Nat) (a0 a1:V) (S:St) (K:KS)=>aE prog aW aX (k+1) 40 [a0,a1] S K)=fun k a0 a1 S K=>m40 (aE prog aW aX k) k a0 a1 S K:=by kernel_rfl
noncomputable def m41 (C:aT) (k:Nat) (a0 a1 a2:V) (S:St) (K:KS):An:=
aN a0 (dR (aA prog 45 a0 0) fun t0=>
dR (aA prog 24 t0 2) fun t1=>
dR (aB prog 3 t1 S) fun t2=>
dR (aD prog .leq 3 a1 t2) fun t3=>
aC t3 (K (.int .i64 1) S) (aN a0 (dR (aA prog 45 a0 4) fun t4=>
dR (aB prog 3 t4 S) fun t5=>
dR (aD prog .gtr 3 a1 t5) fun t6=>
aC t6 (K (.int .i64 1) S) (bG (aH prog 9 a2 (.str [])) (dR (aD prog .eql 9 a2 (.str [])) fun t7=>
aC t7 (K (.int .i64 1) S) (dR (bZ prog 9 a2 S) fun t8=>
dR (aD prog .gtr 3 t8 (.int .i64 65536)) fun t9=>
aC t9 (K (.int .i64 1) S) (aN a0 (dR (aA prog 45 a0 0) fun t10=>
dR (aB prog 24 t10 S) fun t11=>
dR (bF none S (.row 0 7 [[.int .i64 0,.int .i64 0,.int .i64 0,.int .i64 0,.int .i64 0,.str [],.nils]])) fun r12=>
dR (aM prog 24 (.ptr r12.1 0 0 0) t11 r12.2) fun S13=>
aN a0 (dR (aA prog 45 a0 0) fun t14=>
dR (aA prog 24 t14 6) fun t15=>
dR (aB prog 22 t15 (⟨S13.next+15,S13.heap⟩:St)) fun t16=>
aN a0 (dR (aA prog 45 a0 0) fun t17=>
dR (aA prog 24 t17 2) fun t18=>
dR (aB prog 3 t18 (⟨S13.next+15,S13.heap⟩:St)) fun t19=>
dR (aD prog .sub 3 a1 t19) fun t20=>
dR (eF prog 22 t16 none (some t20)) fun t21=>
dR (aA prog 24 (.ptr r12.1 0 0 0) 6) fun t22=>
dR (aM prog 22 t22 t21 (⟨S13.next+15,S13.heap⟩:St)) fun S23=>
dR (aB prog 24 (.ptr r12.1 0 0 0) S23) fun t24=>
C 42 [t24] S23 fun t25 S26=>
fT t25 0 fun t27=>
fT t25 1 fun t28=>
C 72 [a0,a1] S26 fun t29 S30=>
aN a0 (dR (aA prog 45 a0 0) fun t31=>
dR (aA prog 24 t31 6) fun t32=>
dR (aB prog 22 t32 (⟨S30.next+16,S30.heap⟩:St)) fun t33=>
aN a0 (dR (aA prog 45 a0 0) fun t34=>
dR (aA prog 24 t34 2) fun t35=>
dR (aB prog 3 t35 (⟨S30.next+16,S30.heap⟩:St)) fun t36=>
dR (aD prog .sub 3 a1 t36) fun t37=>
dR (eF prog 22 t33 (some t37) none) fun t38=>
dR (bT prog 22 0 [] (some (S30.next+0)) (⟨S30.next+16,S30.heap⟩:St)) fun r39=>
dR (cD prog 22 r39.1 t38 (some (S30.next+14)) r39.2) fun r40=>
aN a0 (dR (aA prog 45 a0 0) fun t41=>
dR (aA prog 24 t41 2) fun t42=>
dR (aM prog 3 t42 a1 r40.2) fun S43=>
aN a0 (dR (aA prog 45 a0 0) fun t44=>
dR (aA prog 24 t44 3) fun t45=>
dR (aM prog 3 t45 t29 S43) fun S46=>
aN a0 (dR (aA prog 45 a0 0) fun t47=>
dR (aA prog 24 t47 4) fun t48=>
dR (aM prog 3 t48 t27 S46) fun S49=>
aN a0 (dR (aA prog 45 a0 0) fun t50=>
dR (aA prog 24 t50 5) fun t51=>
dR (aM prog 9 t51 a2 S49) fun S52=>
aN a0 (dR (aA prog 45 a0 0) fun t53=>
dR (aA prog 24 t53 6) fun t54=>
dR (aM prog 22 t54 r40.1 S52) fun S55=>
dR (bQ prog 42 []) fun t56=>
aN a0 (dR (aA prog 45 a0 10) fun t57=>
dR (aM prog 42 t57 t56 S55) fun S58=>
K (.int .i64 0) S58))))))))))))))))))
theorem aSs:(fun (k:Nat) (a0 a1 a2:V) (S:St) (K:KS)=>aE prog aW aX (k+1) 41 [a0,a1,a2] S K)=fun k a0 a1 a2 S K=>m41 (aE prog aW aX k) k a0 a1 a2 S K:=by kernel_rfl
noncomputable def aE6 (C:aT) (k:Nat) (K:KS) (p1:V) (vs:List V) (S:St) (again0:List V→St→An):An:=
gS vs fun x2 vs=>
gS vs fun x3 vs=>
gS vs fun x4 vs=>
dR (aD prog .geq 3 x4 (.int .i64 0)) fun t5=>
aC t5 (dR (aA prog 24 p1 6) fun t6=>
dR (aB prog 22 t6 S) fun t7=>
dR (aP prog 22 t7 x4) fun t8=>
dR (aA prog 59 t8 1) fun t9=>
dR (aB prog 3 t9 S) fun t10=>
bG (aH prog 3 t10 (.int .i64 0)) (dR (aD prog .neq 3 t10 (.int .i64 0)) fun t11=>
aC t11 (dR (aA prog 24 p1 6) fun t12=>
dR (aB prog 22 t12 (⟨S.next+13,S.heap⟩:St)) fun t13=>
dR (aP prog 22 t13 x4) fun t14=>
dR (aA prog 59 t14 1) fun t15=>
dR (aB prog 3 t15 (⟨S.next+13,S.heap⟩:St)) fun t16=>
dR (aA prog 24 p1 2) fun t17=>
dR (aB prog 3 t17 (⟨S.next+13,S.heap⟩:St)) fun t18=>
dR (aD prog .add 3 t18 (.int .i64 1)) fun t19=>
dR (aD prog .add 3 t19 x4) fun t20=>
K (.tup [t16,t20]) (⟨S.next+13,S.heap⟩:St)) (dR (aD prog .sub 3 x4 (.int .i64 1)) fun t21=>
again0 [x2,x3,t21] S))) (dR (aA prog 24 p1 4) fun t22=>
dR (aB prog 3 t22 (⟨S.next+6,S.heap⟩:St)) fun t23=>
dR (aA prog 24 p1 2) fun t24=>
dR (aB prog 3 t24 (⟨S.next+6,S.heap⟩:St)) fun t25=>
K (.tup [t23,t25]) (⟨S.next+6,S.heap⟩:St))
noncomputable def m42 (C:aT) (k:Nat) (a0:V) (S:St) (K:KS):An:=
bG (aU (a0:V).cells) (dR (bF none S (.row 0 (a0:V).cells.length [(a0:V).cells])) fun r0=>
dR (aA prog 24 (.ptr r0.1 0 0 0) 6) fun t1=>
dR (aB prog 22 t1 r0.2) fun t2=>
dR (bZ prog 22 t2 r0.2) fun t3=>
dR (aD prog .sub 3 t3 (.int .i64 1)) fun t4=>
cQ k [(.int .i64 0),(.int .i64 0),t4] r0.2 (aE6 C k K (.ptr r0.1 0 0 0)))
theorem aSt:(fun (k:Nat) (a0:V) (S:St) (K:KS)=>aE prog aW aX (k+1) 42 [a0] S K)=fun k a0 S K=>m42 (aE prog aW aX k) k a0 S K:=by kernel_rfl
noncomputable def m43 (C:aT) (k:Nat) (a0:V) (S:St) (K:KS):An:=
aN a0 (dR (aA prog 45 a0 0) fun t0=>
dR (aA prog 24 t0 2) fun t1=>
dR (aB prog 3 t1 (⟨S.next+13,S.heap⟩:St)) fun t2=>
aN a0 (dR (aA prog 45 a0 0) fun t3=>
dR (aA prog 24 t3 6) fun t4=>
dR (aB prog 22 t4 (⟨S.next+13,S.heap⟩:St)) fun t5=>
dR (bZ prog 22 t5 (⟨S.next+13,S.heap⟩:St)) fun t6=>
dR (aD prog .add 3 t2 t6) fun t7=>
K t7 (⟨S.next+13,S.heap⟩:St)))
theorem aSu:(fun (k:Nat) (a0:V) (S:St) (K:KS)=>aE prog aW aX (k+1) 43 [a0] S K)=fun k a0 S K=>m43 (aE prog aW aX k) k a0 S K:=by kernel_rfl
noncomputable def aE7 (C:aT) (k:Nat) (K:KS) (p2 p3:V) (vs:List V) (S:St) (again0:List V→St→An):An:=
gS vs fun x4 vs=>
gS vs fun x5 vs=>
dR (aA prog 24 p2 6) fun t39=>
dR (aB prog 22 t39 S) fun t40=>
dR (bZ prog 22 t40 S) fun t41=>
dR (aD prog .lss 3 x5 t41) fun t42=>
aC t42 (dR (aA prog 24 p2 6) fun t43=>
dR (aB prog 22 t43 (⟨S.next+11,S.heap⟩:St)) fun t44=>
dR (aP prog 22 t44 x5) fun t45=>
dR (aB prog 59 t45 (⟨S.next+11,S.heap⟩:St)) fun t46=>
dR (aA prog 24 p3 6) fun t47=>
dR (aB prog 22 t47 (⟨S.next+11,S.heap⟩:St)) fun t48=>
dR (aP prog 22 t48 x5) fun t49=>
dR (aB prog 59 t49 (⟨S.next+11,S.heap⟩:St)) fun t50=>
bG (aH prog 59 t46 t50) (dR (aD prog .neq 59 t46 t50) fun t51=>
aC t51 (K (.bool false) (⟨S.next+11,S.heap⟩:St)) (dR (aD prog .add 3 x5 (.int .i64 1)) fun t52=>
again0 [x4,t52] (⟨S.next+11,S.heap⟩:St)))) (K (.bool true) S)
noncomputable def m44 (C:aT) (k:Nat) (a0 a1:V) (S:St) (K:KS):An:=
bG (aU (a0:V).cells) (dR (bF none S (.row 0 (a0:V).cells.length [(a0:V).cells])) fun r0=>
bG (aU (a1:V).cells) (dR (bF none r0.2 (.row 0 (a1:V).cells.length [(a1:V).cells])) fun r1=>
dR (aA prog 24 (.ptr r0.1 0 0 0) 0) fun t2=>
dR (aB prog 3 t2 r1.2) fun t3=>
dR (aA prog 24 (.ptr r1.1 0 0 0) 0) fun t4=>
dR (aB prog 3 t4 r1.2) fun t5=>
bG (aH prog 3 t3 t5) (dR (aD prog .neq 3 t3 t5) fun t6=>
aC t6 (K (.bool false) r1.2) (dR (aA prog 24 (.ptr r0.1 0 0 0) 1) fun t7=>
dR (aB prog 3 t7 r1.2) fun t8=>
dR (aA prog 24 (.ptr r1.1 0 0 0) 1) fun t9=>
dR (aB prog 3 t9 r1.2) fun t10=>
bG (aH prog 3 t8 t10) (dR (aD prog .neq 3 t8 t10) fun t11=>
aC t11 (K (.bool false) r1.2) (dR (aA prog 24 (.ptr r0.1 0 0 0) 2) fun t12=>
dR (aB prog 3 t12 r1.2) fun t13=>
dR (aA prog 24 (.ptr r1.1 0 0 0) 2) fun t14=>
dR (aB prog 3 t14 r1.2) fun t15=>
bG (aH prog 3 t13 t15) (dR (aD prog .neq 3 t13 t15) fun t16=>
aC t16 (K (.bool false) r1.2) (dR (aA prog 24 (.ptr r0.1 0 0 0) 3) fun t17=>
dR (aB prog 3 t17 r1.2) fun t18=>
dR (aA prog 24 (.ptr r1.1 0 0 0) 3) fun t19=>
dR (aB prog 3 t19 r1.2) fun t20=>
bG (aH prog 3 t18 t20) (dR (aD prog .neq 3 t18 t20) fun t21=>
aC t21 (K (.bool false) r1.2) (dR (aA prog 24 (.ptr r0.1 0 0 0) 4) fun t22=>
dR (aB prog 3 t22 r1.2) fun t23=>
dR (aA prog 24 (.ptr r1.1 0 0 0) 4) fun t24=>
dR (aB prog 3 t24 r1.2) fun t25=>
bG (aH prog 3 t23 t25) (dR (aD prog .neq 3 t23 t25) fun t26=>
aC t26 (K (.bool false) r1.2) (dR (aA prog 24 (.ptr r0.1 0 0 0) 5) fun t27=>
dR (aB prog 9 t27 r1.2) fun t28=>
dR (aA prog 24 (.ptr r1.1 0 0 0) 5) fun t29=>
dR (aB prog 9 t29 r1.2) fun t30=>
bG (aH prog 9 t28 t30) (dR (aD prog .neq 9 t28 t30) fun t31=>
aC t31 (K (.bool false) r1.2) (dR (aA prog 24 (.ptr r0.1 0 0 0) 6) fun t32=>
dR (aB prog 22 t32 r1.2) fun t33=>
dR (bZ prog 22 t33 r1.2) fun t34=>
dR (aA prog 24 (.ptr r1.1 0 0 0) 6) fun t35=>
dR (aB prog 22 t35 r1.2) fun t36=>
dR (bZ prog 22 t36 r1.2) fun t37=>
bG (aH prog 3 t34 t37) (dR (aD prog .neq 3 t34 t37) fun t38=>
aC t38 (K (.bool false) r1.2) (cQ k [(.bool false),(.int .i64 0)] r1.2 (aE7 C k K (.ptr r0.1 0 0 0) (.ptr r1.1 0 0 0))))))))))))))))))
theorem aSv:(fun (k:Nat) (a0 a1:V) (S:St) (K:KS)=>aE prog aW aX (k+1) 44 [a0,a1] S K)=fun k a0 a1 S K=>m44 (aE prog aW aX k) k a0 a1 S K:=by kernel_rfl
noncomputable def m45 (C:aT) (k:Nat) (a0:V) (S:St) (K:KS):An:=
aN a0 (dR (aA prog 45 a0 15) fun t0=>
dR (aB prog 43 t0 S) fun t1=>
aN a0 (dR (aA prog 45 a0 15) fun t2=>
dR (aM prog 43 t2 (.nils) S) fun S3=>
K t1 S3))
theorem aSw:(fun (k:Nat) (a0:V) (S:St) (K:KS)=>aE prog aW aX (k+1) 45 [a0] S K)=fun k a0 S K=>m45 (aE prog aW aX k) k a0 S K:=by kernel_rfl
noncomputable def m46 (C:aT) (k:Nat) (a0:V) (S:St) (K:KS):An:=
aN a0 (dR (aA prog 88 a0 1) fun t0=>
dR (aA prog 24 t0 2) fun t1=>
dR (aB prog 3 t1 (⟨S.next+13,S.heap⟩:St)) fun t2=>
aN a0 (dR (aA prog 88 a0 1) fun t3=>
dR (aA prog 24 t3 6) fun t4=>
dR (aB prog 22 t4 (⟨S.next+13,S.heap⟩:St)) fun t5=>
dR (bZ prog 22 t5 (⟨S.next+13,S.heap⟩:St)) fun t6=>
dR (aD prog .add 3 t2 t6) fun t7=>
K t7 (⟨S.next+13,S.heap⟩:St)))
theorem aSx:(fun (k:Nat) (a0:V) (S:St) (K:KS)=>aE prog aW aX (k+1) 46 [a0] S K)=fun k a0 S K=>m46 (aE prog aW aX k) k a0 S K:=by kernel_rfl
noncomputable def m47 (C:aT) (k:Nat) (a0:V) (S:St) (K:KS):An:=
aN a0 (dR (aA prog 88 a0 1) fun t0=>
dR (aB prog 24 t0 S) fun t1=>
C 49 [t1] S fun t2 S3=>
fT t2 0 fun t4=>
fT t2 1 fun t5=>
K t4 S3)
theorem aSy:(fun (k:Nat) (a0:V) (S:St) (K:KS)=>aE prog aW aX (k+1) 47 [a0] S K)=fun k a0 S K=>m47 (aE prog aW aX k) k a0 S K:=by kernel_rfl
noncomputable def aE8 (C:aT) (k:Nat) (K:KS) (p0 p10 p11:V) (vs:List V) (S:St) (again0:List V→St→An):An:=
gS vs fun x12 vs=>
dR (aD prog .lss 3 x12 p11) fun t6=>
aC t6 (dR (aP prog 68 p10 x12) fun t7=>
dR (aB prog 3 t7 S) fun t8=>
C 83 [p0,t8] S fun t9 S10=>
dR (aD prog .add 3 x12 (.int .i64 1)) fun t11=>
again0 [t11] S10) (K (.tup []) S)
noncomputable def m48 (C:aT) (k:Nat) (a0:V) (S:St) (K:KS):An:=
aN a0 (dR (aA prog 88 a0 2) fun t0=>
dR (aB prog 3 t0 S) fun t1=>
bG (aH prog 3 t1 (.int .i64 3)) (dR (aD prog .neq 3 t1 (.int .i64 3)) fun t2=>
aC t2 (K (.tup []) S) (C 82 [a0] S fun t3 S4=>
dR (bZ prog 68 t3 S4) fun t5=>
cQ k [(.int .i64 0)] S4 (aE8 C k K a0 t3 t5))))
theorem aSz:(fun (k:Nat) (a0:V) (S:St) (K:KS)=>aE prog aW aX (k+1) 48 [a0] S K)=fun k a0 S K=>m48 (aE prog aW aX k) k a0 S K:=by kernel_rfl
noncomputable def zQ (C:aT) (k:Nat) (K:KS) (p1:V) (vs:List V) (S:St) (again0:List V→St→An):An:=
gS vs fun x2 vs=>
gS vs fun x3 vs=>
gS vs fun x4 vs=>
dR (aD prog .geq 3 x4 (.int .i64 0)) fun t5=>
aC t5 (dR (aA prog 24 p1 6) fun t6=>
dR (aB prog 22 t6 S) fun t7=>
dR (aP prog 22 t7 x4) fun t8=>
dR (aA prog 59 t8 1) fun t9=>
dR (aB prog 3 t9 S) fun t10=>
bG (aH prog 3 t10 (.int .i64 0)) (dR (aD prog .neq 3 t10 (.int .i64 0)) fun t11=>
aC t11 (dR (aA prog 24 p1 6) fun t12=>
dR (aB prog 22 t12 (⟨S.next+13,S.heap⟩:St)) fun t13=>
dR (aP prog 22 t13 x4) fun t14=>
dR (aA prog 59 t14 1) fun t15=>
dR (aB prog 3 t15 (⟨S.next+13,S.heap⟩:St)) fun t16=>
dR (aA prog 24 p1 2) fun t17=>
dR (aB prog 3 t17 (⟨S.next+13,S.heap⟩:St)) fun t18=>
dR (aD prog .add 3 t18 x4) fun t19=>
dR (aD prog .add 3 t19 (.int .i64 1)) fun t20=>
K (.tup [t16,t20]) (⟨S.next+13,S.heap⟩:St)) (dR (aD prog .sub 3 x4 (.int .i64 1)) fun t21=>
again0 [x2,x3,t21] S))) (dR (aA prog 24 p1 4) fun t22=>
dR (aB prog 3 t22 (⟨S.next+6,S.heap⟩:St)) fun t23=>
dR (aA prog 24 p1 2) fun t24=>
dR (aB prog 3 t24 (⟨S.next+6,S.heap⟩:St)) fun t25=>
K (.tup [t23,t25]) (⟨S.next+6,S.heap⟩:St))
noncomputable def m49 (C:aT) (k:Nat) (a0:V) (S:St) (K:KS):An:=
bG (aU (a0:V).cells) (dR (bF none S (.row 0 (a0:V).cells.length [(a0:V).cells])) fun r0=>
dR (aA prog 24 (.ptr r0.1 0 0 0) 6) fun t1=>
dR (aB prog 22 t1 r0.2) fun t2=>
dR (bZ prog 22 t2 r0.2) fun t3=>
dR (aD prog .sub 3 t3 (.int .i64 1)) fun t4=>
cQ k [(.int .i64 0),(.int .i64 0),t4] r0.2 (zQ C k K (.ptr r0.1 0 0 0)))
theorem aT0:(fun (k:Nat) (a0:V) (S:St) (K:KS)=>aE prog aW aX (k+1) 49 [a0] S K)=fun k a0 S K=>m49 (aE prog aW aX k) k a0 S K:=by kernel_rfl
noncomputable def m50 (C:aT) (k:Nat) (a0 a1:V) (S:St) (K:KS):An:=
dR (aD prog .geq 3 a1 (.int .i64 0)) fun t0=>
aC t0 (dR (aD prog .lss 3 a1 (.int .i64 7)) fun t1=>
aC t1 (dR (cX prog 3 96 a1 none S) fun r2=>
dR (aD prog .shr 3 a0 r2.1) fun t3=>
dR (aD prog .and 3 t3 (.int .i64 1)) fun t4=>
bG (aH prog 3 t4 (.int .i64 1)) (dR (aD prog .eql 3 t4 (.int .i64 1)) fun t5=>
K t5 r2.2)) (K (.bool false) S)) (K (.bool false) S)
theorem aT1:(fun (k:Nat) (a0 a1:V) (S:St) (K:KS)=>aE prog aW aX (k+1) 50 [a0,a1] S K)=fun k a0 a1 S K=>m50 (aE prog aW aX k) k a0 a1 S K:=by kernel_rfl
noncomputable def aE9 (C:aT) (k:Nat) (K:KS) (p0 p46 p47:V) (vs:List V) (S:St) (again0:List V→St→An):An:=
gS vs fun x48 vs=>
dR (aD prog .lss 3 x48 p47) fun t34=>
aC t34 (dR (aP prog 68 p46 x48) fun t35=>
dR (aB prog 3 t35 S) fun t36=>
C 46 [p0] S fun t37 S38=>
C 46 [p0] S38 fun t39 S40=>
C 62 [p0,t39] S40 fun t41 S42=>
dR (bQ prog 37 [(0,(.int .i64 1)),(2,t36),(4,t37),(5,t41)]) fun t43=>
C 86 [p0,t43] S42 fun t44 S45=>
dR (aD prog .add 3 x48 (.int .i64 1)) fun t46=>
again0 [t46] S45) (K (.tup []) S)
noncomputable def m51 (C:aT) (k:Nat) (a0:V) (S:St) (K:KS):An:=
aN a0 (dR (aA prog 88 a0 1) fun t0=>
dR (aA prog 24 t0 0) fun t1=>
dR (aB prog 3 t1 S) fun t2=>
dR (aD prog .add 3 t2 (.int .i64 1)) fun t3=>
aN a0 (dR (aA prog 88 a0 1) fun t4=>
dR (aA prog 24 t4 0) fun t5=>
dR (aM prog 3 t5 t3 S) fun S6=>
aN a0 (dR (aA prog 88 a0 0) fun t7=>
dR (aB prog 3 t7 (⟨S6.next+27,S6.heap⟩:St)) fun t8=>
aN a0 (dR (aA prog 88 a0 0) fun t9=>
dR (aB prog 3 t9 (⟨S6.next+27,S6.heap⟩:St)) fun t10=>
dR (cX prog 3 96 t10 (some (S6.next+12)) (⟨S6.next+27,S6.heap⟩:St)) fun r11=>
dR (aD prog .shl 3 (.int .i64 1) r11.1) fun t12=>
aN a0 (dR (aA prog 88 a0 1) fun t13=>
dR (aA prog 24 t13 1) fun t14=>
dR (aM prog 3 t14 t8 r11.2) fun S15=>
aN a0 (dR (aA prog 88 a0 2) fun t16=>
dR (aM prog 3 t16 (.int .i64 2) S15) fun S17=>
aN a0 (dR (aA prog 88 a0 3) fun t18=>
dR (aM prog 3 t18 (.int .i64 (-1)) S17) fun S19=>
aN a0 (dR (aA prog 88 a0 7) fun t20=>
dR (aM prog 3 t20 t12 S19) fun S21=>
aN a0 (dR (aA prog 88 a0 7) fun t22=>
dR (aB prog 3 t22 (⟨S21.next+7,S21.heap⟩:St)) fun t23=>
C 47 [a0] (⟨S21.next+7,S21.heap⟩:St) fun t24 S25=>
dR (aB prog 3 t22 S25) fun t26=>
bG (bN t23 t26) (C 84 [t24,t23] S25 fun t27 S28=>
aC t27 (C 85 [a0] S28 fun t29 S30=>
K (.tup []) S30) (C 82 [a0] S28 fun t31 S32=>
dR (bZ prog 68 t31 S32) fun t33=>
cQ k [(.int .i64 0)] S32 (aE9 C k K a0 t31 t33))))))))))))
theorem aT2:(fun (k:Nat) (a0:V) (S:St) (K:KS)=>aE prog aW aX (k+1) 51 [a0] S K)=fun k a0 S K=>m51 (aE prog aW aX k) k a0 S K:=by kernel_rfl
noncomputable def m52 (C:aT) (k:Nat) (a0 a1:V) (S:St) (K:KS):An:=
bG (aU (a1:V).cells) (dR (bF none S (.row 0 (a1:V).cells.length [(a1:V).cells])) fun r0=>
dR (aB prog 37 (.ptr r0.1 0 0 0) (⟨r0.2.next+12,r0.2.heap⟩:St)) fun t1=>
C 87 [t1] (⟨r0.2.next+12,r0.2.heap⟩:St) fun t2 S3=>
dR (oT .not t2) fun t4=>
aC t4 (K (.bool true) S3) (dR (aA prog 37 (.ptr r0.1 0 0 0) 2) fun t5=>
dR (aB prog 3 t5 S3) fun t6=>
aN a0 (dR (aA prog 88 a0 0) fun t7=>
dR (aB prog 3 t7 S3) fun t8=>
bG (aH prog 3 t6 t8) (dR (aD prog .neq 3 t6 t8) fun t9=>
aC t9 (K (.bool true) S3) (dR (aA prog 37 (.ptr r0.1 0 0 0) 0) fun t10=>
dR (aB prog 3 t10 (⟨S3.next+30,S3.heap⟩:St)) fun t11=>
bG (aH prog 3 t11 (.int .i64 1)) (dR (aD prog .eql 3 t11 (.int .i64 1)) fun t12=>
aC t12 (aN a0 (dR (aA prog 88 a0 2) fun t13=>
dR (aB prog 3 t13 (⟨S3.next+30,S3.heap⟩:St)) fun t14=>
bG (aH prog 3 t14 (.int .i64 3)) (dR (aD prog .eql 3 t14 (.int .i64 3)) fun t15=>
aC t15 (K (.bool true) (⟨S3.next+30,S3.heap⟩:St)) (aN a0 (dR (aA prog 88 a0 3) fun t16=>
dR (aB prog 3 t16 (⟨S3.next+30,S3.heap⟩:St)) fun t17=>
bG (aH prog 3 t17 (.int .i64 (-1))) (dR (aD prog .neq 3 t17 (.int .i64 (-1))) fun t18=>
aC t18 (aN a0 (dR (aA prog 88 a0 5) fun t19=>
dR (aB prog 3 t19 (⟨S3.next+30,S3.heap⟩:St)) fun t20=>
aN a0 (dR (aA prog 88 a0 6) fun t21=>
dR (aB prog 3 t21 (⟨S3.next+30,S3.heap⟩:St)) fun t22=>
dR (aD prog .sub 3 t20 t22) fun t23=>
dR (aD prog .lss 3 t23 (.int .i64 10)) fun t24=>
K t24 (⟨S3.next+30,S3.heap⟩:St)))) (K (.bool false) (⟨S3.next+30,S3.heap⟩:St)))))))) (K (.bool false) (⟨S3.next+30,S3.heap⟩:St))))))))
theorem aT3:(fun (k:Nat) (a0 a1:V) (S:St) (K:KS)=>aE prog aW aX (k+1) 52 [a0,a1] S K)=fun k a0 a1 S K=>m52 (aE prog aW aX k) k a0 a1 S K:=by kernel_rfl
noncomputable def zR (C:aT) (k:Nat) (K:KS) (p0 p3 p13:V) (S:St):An:=
aC p13 (dR (aA prog 37 p3 1) fun t9=>
dR (aB prog 3 t9 (⟨S.next+7,S.heap⟩:St)) fun t10=>
C 46 [p0] (⟨S.next+7,S.heap⟩:St) fun t11 S12=>
dR (aB prog 3 t9 S12) fun t13=>
bG (bN t10 t13) (dR (bQ prog 37 [(0,(.int .i64 4)),(2,t10),(4,t11)]) fun t14=>
C 86 [p0,t14] S12 fun t15 S16=>
K (.tup []) S16)) (K (.tup []) S)
noncomputable def m53 (C:aT) (k:Nat) (a0 a1:V) (S:St) (K:KS):An:=
bG (aU (a1:V).cells) (dR (bF none S (.row 0 (a1:V).cells.length [(a1:V).cells])) fun r0=>
dR (aA prog 37 (.ptr r0.1 0 0 0) 0) fun t1=>
dR (aB prog 3 t1 r0.2) fun t2=>
bG (aH prog 3 t2 (.int .i64 1)) (dR (aD prog .eql 3 t2 (.int .i64 1)) fun t3=>
aC t3 (dR (aA prog 37 (.ptr r0.1 0 0 0) 1) fun t4=>
dR (aB prog 3 t4 r0.2) fun t5=>
dR (bQ prog 37 [(0,(.int .i64 2)),(2,t5)]) fun t6=>
C 86 [a0,t6] r0.2 fun t7 S8=>
K (.tup []) S8) (bG (aH prog 3 t2 (.int .i64 3)) (dR (aD prog .eql 3 t2 (.int .i64 3)) fun t17=>
aC t17 (zR C k K a0 (.ptr r0.1 0 0 0) (.bool true) r0.2) (bG (aH prog 3 t2 (.int .i64 5)) (dR (aD prog .eql 3 t2 (.int .i64 5)) fun t18=>
zR C k K a0 (.ptr r0.1 0 0 0) t18 r0.2))))))
theorem aT4:(fun (k:Nat) (a0 a1:V) (S:St) (K:KS)=>aE prog aW aX (k+1) 53 [a0,a1] S K)=fun k a0 a1 S K=>m53 (aE prog aW aX k) k a0 a1 S K:=by kernel_rfl
noncomputable def aEa (C:aT) (k:Nat) (K:KS) (p0 p3 p5:V) (S:St):An:=
dR (aA prog 37 p3 1) fun t5=>
dR (aB prog 3 t5 S) fun t6=>
dR (bQ prog 37 [(0,(.int .i64 2)),(2,t6),(10,p5)]) fun t7=>
C 86 [p0,t7] S fun t8 S9=>
K (.tup []) S9
noncomputable def iZ (C:aT) (k:Nat) (K:KS) (p0 p3 p5:V) (S:St):An:=
aC p5 (dR (aA prog 37 p3 1) fun t10=>
dR (aB prog 3 t10 (⟨S.next+15,S.heap⟩:St)) fun t11=>
aN p0 (dR (aA prog 88 p0 5) fun t12=>
dR (aB prog 3 t12 (⟨S.next+15,S.heap⟩:St)) fun t13=>
aN p0 (dR (aA prog 88 p0 1) fun t14=>
dR (aA prog 24 t14 1) fun t15=>
dR (aM prog 3 t15 t11 (⟨S.next+15,S.heap⟩:St)) fun S16=>
aN p0 (dR (aA prog 88 p0 6) fun t17=>
dR (aM prog 3 t17 t13 S16) fun S18=>
aEa C k K p0 p3 p5 S18)))) (aEa C k K p0 p3 p5 S)
noncomputable def m54 (C:aT) (k:Nat) (a0 a1:V) (S:St) (K:KS):An:=
bG (aU (a1:V).cells) (dR (bF none S (.row 0 (a1:V).cells.length [(a1:V).cells])) fun r0=>
C 46 [a0] r0.2 fun t1 S2=>
C 62 [a0,t1] S2 fun t3 S4=>
aN a0 (dR (aA prog 88 a0 1) fun t19=>
dR (aA prog 24 t19 1) fun t20=>
dR (aB prog 3 t20 (⟨S4.next+36,S4.heap⟩:St)) fun t21=>
bG (aH prog 3 t21 (.int .i64 (-1))) (dR (aD prog .eql 3 t21 (.int .i64 (-1))) fun t22=>
aC t22 (dR (aA prog 37 (.ptr r0.1 0 0 0) 5) fun t23=>
dR (aB prog 3 t23 (⟨S4.next+36,S4.heap⟩:St)) fun t24=>
dR (aD prog .gtr 3 t24 t3) fun t25=>
aC t25 (iZ C k K a0 (.ptr r0.1 0 0 0) (.bool true) (⟨S4.next+36,S4.heap⟩:St)) (dR (aA prog 37 (.ptr r0.1 0 0 0) 5) fun t26=>
dR (aB prog 3 t26 (⟨S4.next+36,S4.heap⟩:St)) fun t27=>
bG (aH prog 3 t27 t3) (dR (aD prog .eql 3 t27 t3) fun t28=>
aC t28 (dR (aA prog 37 (.ptr r0.1 0 0 0) 4) fun t29=>
dR (aB prog 3 t29 (⟨S4.next+36,S4.heap⟩:St)) fun t30=>
C 46 [a0] (⟨S4.next+36,S4.heap⟩:St) fun t31 S32=>
dR (aB prog 3 t29 S32) fun t33=>
bG (bN t30 t33) (dR (aD prog .geq 3 t30 t31) fun t34=>
iZ C k K a0 (.ptr r0.1 0 0 0) t34 S32)) (iZ C k K a0 (.ptr r0.1 0 0 0) (.bool false) (⟨S4.next+36,S4.heap⟩:St))))) (aN a0 (dR (aA prog 88 a0 1) fun t35=>
dR (aA prog 24 t35 1) fun t36=>
dR (aB prog 3 t36 (⟨S4.next+36,S4.heap⟩:St)) fun t37=>
dR (aA prog 37 (.ptr r0.1 0 0 0) 1) fun t38=>
dR (aB prog 3 t38 (⟨S4.next+36,S4.heap⟩:St)) fun t39=>
bG (aH prog 3 t37 t39) (dR (aD prog .eql 3 t37 t39) fun t40=>
aC t40 (dR (aA prog 37 (.ptr r0.1 0 0 0) 5) fun t41=>
dR (aB prog 3 t41 (⟨S4.next+36,S4.heap⟩:St)) fun t42=>
dR (aD prog .gtr 3 t42 t3) fun t43=>
aC t43 (iZ C k K a0 (.ptr r0.1 0 0 0) (.bool true) (⟨S4.next+36,S4.heap⟩:St)) (dR (aA prog 37 (.ptr r0.1 0 0 0) 5) fun t44=>
dR (aB prog 3 t44 (⟨S4.next+36,S4.heap⟩:St)) fun t45=>
bG (aH prog 3 t45 t3) (dR (aD prog .eql 3 t45 t3) fun t46=>
aC t46 (dR (aA prog 37 (.ptr r0.1 0 0 0) 4) fun t47=>
dR (aB prog 3 t47 (⟨S4.next+36,S4.heap⟩:St)) fun t48=>
C 46 [a0] (⟨S4.next+36,S4.heap⟩:St) fun t49 S50=>
dR (aB prog 3 t47 S50) fun t51=>
bG (bN t48 t51) (dR (aD prog .geq 3 t48 t49) fun t52=>
iZ C k K a0 (.ptr r0.1 0 0 0) t52 S50)) (iZ C k K a0 (.ptr r0.1 0 0 0) (.bool false) (⟨S4.next+36,S4.heap⟩:St))))) (iZ C k K a0 (.ptr r0.1 0 0 0) (.bool false) (⟨S4.next+36,S4.heap⟩:St))))))))
theorem aT5:(fun (k:Nat) (a0 a1:V) (S:St) (K:KS)=>aE prog aW aX (k+1) 54 [a0,a1] S K)=fun k a0 a1 S K=>m54 (aE prog aW aX k) k a0 a1 S K:=by kernel_rfl
noncomputable def m55 (C:aT) (k:Nat) (a0 a1:V) (S:St) (K:KS):An:=
bG (aU (a1:V).cells) (dR (bF none S (.row 0 (a1:V).cells.length [(a1:V).cells])) fun r0=>
aN a0 (dR (aA prog 88 a0 2) fun t1=>
dR (aB prog 3 t1 r0.2) fun t2=>
bG (aH prog 3 t2 (.int .i64 2)) (dR (aD prog .neq 3 t2 (.int .i64 2)) fun t3=>
aC t3 (K (.tup []) r0.2) (dR (aA prog 37 (.ptr r0.1 0 0 0) 10) fun t4=>
dR (aB prog 4 t4 r0.2) fun t5=>
dR (oT .not t5) fun t6=>
aC t6 (K (.tup []) r0.2) (aN a0 (dR (aA prog 88 a0 7) fun t7=>
dR (aB prog 3 t7 (⟨r0.2.next+12,r0.2.heap⟩:St)) fun t8=>
dR (aA prog 37 (.ptr r0.1 0 0 0) 1) fun t9=>
dR (aB prog 3 t9 (⟨r0.2.next+12,r0.2.heap⟩:St)) fun t10=>
dR (cX prog 3 96 t10 (some (r0.2.next+6)) (⟨r0.2.next+12,r0.2.heap⟩:St)) fun r11=>
dR (aD prog .shl 3 (.int .i64 1) r11.1) fun t12=>
dR (aD prog .or 3 t8 t12) fun t13=>
aN a0 (dR (aA prog 88 a0 7) fun t14=>
dR (aM prog 3 t14 t13 r11.2) fun S15=>
aN a0 (dR (aA prog 88 a0 7) fun t16=>
dR (aB prog 3 t16 (⟨S15.next+7,S15.heap⟩:St)) fun t17=>
C 47 [a0] (⟨S15.next+7,S15.heap⟩:St) fun t18 S19=>
dR (aB prog 3 t16 S19) fun t20=>
bG (bN t17 t20) (C 84 [t18,t17] S19 fun t21 S22=>
aC t21 (C 85 [a0] S22 fun t23 S24=>
K (.tup []) S24) (K (.tup []) S22))))))))))
theorem aT6:(fun (k:Nat) (a0 a1:V) (S:St) (K:KS)=>aE prog aW aX (k+1) 55 [a0,a1] S K)=fun k a0 a1 S K=>m55 (aE prog aW aX k) k a0 a1 S K:=by kernel_rfl
noncomputable def vJ (C:aT) (k:Nat) (K:KS) (p0 p3 p4:V) (S:St):An:=
aN p0 (dR (aA prog 88 p0 4) fun t35=>
dR (aB prog 3 t35 (⟨S.next+13,S.heap⟩:St)) fun t36=>
dR (aA prog 37 p3 6) fun t37=>
dR (aB prog 3 t37 (⟨S.next+13,S.heap⟩:St)) fun t38=>
dR (uP [t38,p4]) fun t39=>
dR (aB5 [t36,t39]) fun t40=>
aN p0 (dR (aA prog 88 p0 4) fun t41=>
dR (aM prog 3 t41 t40 (⟨S.next+13,S.heap⟩:St)) fun S42=>
dR (aA prog 37 p3 1) fun t43=>
dR (aB prog 3 t43 S42) fun t44=>
dR (bQ prog 37 [(0,(.int .i64 4)),(2,t44),(10,(.bool true)),(4,p4)]) fun t45=>
C 86 [p0,t45] S42 fun t46 S47=>
K (.tup []) S47))
noncomputable def vK (C:aT) (k:Nat) (K:KS) (again0:List V→St→An) (p0 p3 p4 p6 p7 p62 p63 p64 p94:V) (S:St):An:=
aC p94 (aN p0 (dR (aA prog 88 p0 1) fun t60=>
dR (aA prog 24 t60 2) fun t61=>
dR (aB prog 3 t61 S) fun t62=>
dR (aD prog .sub 3 p7 t62) fun t63=>
dR (aD prog .gtr 3 t63 (.int .i64 200)) fun t64=>
aC t64 (vJ C k K p0 p3 p4 S) (aN p0 (dR (aA prog 88 p0 1) fun t65=>
dR (aA prog 24 t65 6) fun t66=>
dR (aB prog 22 t66 (⟨S.next+22,S.heap⟩:St)) fun t67=>
aN p0 (dR (aA prog 88 p0 1) fun t68=>
dR (aA prog 24 t68 2) fun t69=>
dR (aB prog 3 t69 (⟨S.next+22,S.heap⟩:St)) fun t70=>
dR (aD prog .sub 3 p7 t70) fun t71=>
dR (aD prog .sub 3 t71 (.int .i64 1)) fun t72=>
dR (eF prog 22 t67 none (some t72)) fun t73=>
dR (aB prog 59 p6 (⟨S.next+22,S.heap⟩:St)) fun t74=>
dR (bT prog 22 1 [(0,t74)] (some (S.next+16)) (⟨S.next+22,S.heap⟩:St)) fun r75=>
dR (cD prog 22 t73 r75.1 (some (S.next+17)) r75.2) fun r76=>
aN p0 (dR (aA prog 88 p0 1) fun t77=>
dR (aA prog 24 t77 6) fun t78=>
dR (aM prog 22 t78 r76.1 r76.2) fun S79=>
dR (aD prog .add 3 p64 (.int .i64 1)) fun t80=>
again0 [p7,t80] S79)))))) (dR (aD prog .add 3 p64 (.int .i64 1)) fun t81=>
again0 [p7,t81] S)
noncomputable def zS (C:aT) (k:Nat) (K:KS) (p0 p3 p62 p63:V) (vs:List V) (S:St) (again0:List V→St→An):An:=
gS vs fun x4 vs=>
gS vs fun x64 vs=>
dR (aD prog .lss 3 x64 p63) fun t51=>
aC t51 (dR (aP prog 22 p62 x64) fun t52=>
dR (aB prog 59 t52 S) fun t53=>
dR (bF none S (.row 0 3 [[.int .i64 0,.int .i64 0,.str []]])) fun r54=>
dR (aM prog 59 (.ptr r54.1 0 0 0) t53 r54.2) fun S55=>
dR (aA prog 37 p3 4) fun t56=>
dR (aB prog 3 t56 S55) fun t57=>
dR (aD prog .add 3 t57 (.int .i64 1)) fun t58=>
dR (aD prog .add 3 t58 x64) fun t59=>
aN p0 (dR (aA prog 88 p0 1) fun t82=>
dR (aA prog 24 t82 2) fun t83=>
dR (aB prog 3 t83 (⟨S55.next+21,S55.heap⟩:St)) fun t84=>
dR (aD prog .gtr 3 t59 t84) fun t85=>
aC t85 (C 46 [p0] (⟨S55.next+21,S55.heap⟩:St) fun t86 S87=>
dR (aD prog .gtr 3 t59 t86) fun t88=>
aC t88 (vK C k K again0 p0 p3 x4 (.ptr r54.1 0 0 0) t59 p62 p63 x64 (.bool true) S87) (dR (aA prog 59 (.ptr r54.1 0 0 0) 0) fun t89=>
dR (aB prog 3 t89 S87) fun t90=>
C 62 [p0,t59] S87 fun t91 S92=>
dR (aB prog 3 t89 S92) fun t93=>
bG (bN t90 t93) (bG (aH prog 3 t91 t90) (dR (aD prog .neq 3 t91 t90) fun t94=>
vK C k K again0 p0 p3 x4 (.ptr r54.1 0 0 0) t59 p62 p63 x64 t94 S92)))) (vK C k K again0 p0 p3 x4 (.ptr r54.1 0 0 0) t59 p62 p63 x64 (.bool false) (⟨S55.next+21,S55.heap⟩:St)))) (vJ C k K p0 p3 x4 S)
noncomputable def vL (C:aT) (k:Nat) (K:KS) (p0 p3 p50:V) (S:St):An:=
aC p50 (dR (aA prog 37 p3 1) fun t25=>
dR (aB prog 3 t25 S) fun t26=>
dR (aA prog 37 p3 4) fun t27=>
dR (aB prog 3 t27 S) fun t28=>
dR (aD prog .sub 3 t28 (.int .i64 1)) fun t29=>
dR (bQ prog 37 [(0,(.int .i64 4)),(2,t26),(4,t29)]) fun t30=>
C 86 [p0,t30] S fun t31 S32=>
K (.tup []) S32) (dR (aA prog 37 p3 4) fun t33=>
dR (aB prog 3 t33 S) fun t34=>
dR (aA prog 37 p3 12) fun t48=>
dR (aB prog 22 t48 S) fun t49=>
dR (bZ prog 22 t49 S) fun t50=>
cQ k [t34,(.int .i64 0)] S (zS C k K p0 p3 t49 t50))
noncomputable def m56 (C:aT) (k:Nat) (a0 a1:V) (S:St) (K:KS):An:=
bG (aU (a1:V).cells) (dR (bF none S (.row 0 (a1:V).cells.length [(a1:V).cells])) fun r0=>
aN a0 (dR (aA prog 88 a0 2) fun t1=>
dR (aB prog 3 t1 r0.2) fun t2=>
bG (aH prog 3 t2 (.int .i64 3)) (dR (aD prog .eql 3 t2 (.int .i64 3)) fun t3=>
aC t3 (K (.tup []) r0.2) (dR (aB prog 37 (.ptr r0.1 0 0 0) r0.2) fun t4=>
C 88 [a0,t4] r0.2 fun t5 S6=>
aC t5 (K (.tup []) S6) (dR (aA prog 37 (.ptr r0.1 0 0 0) 1) fun t7=>
dR (aB prog 3 t7 S6) fun t8=>
C 89 [a0,t8] S6 fun t9 S10=>
dR (aA prog 37 (.ptr r0.1 0 0 0) 4) fun t11=>
dR (aB prog 3 t11 (⟨S10.next+5,S10.heap⟩:St)) fun t12=>
C 46 [a0] (⟨S10.next+5,S10.heap⟩:St) fun t13 S14=>
dR (aB prog 3 t11 S14) fun t15=>
bG (bN t12 t15) (dR (aD prog .gtr 3 t12 t13) fun t16=>
aC t16 (dR (aA prog 37 (.ptr r0.1 0 0 0) 1) fun t17=>
dR (aB prog 3 t17 (⟨S14.next+7,S14.heap⟩:St)) fun t18=>
C 46 [a0] (⟨S14.next+7,S14.heap⟩:St) fun t19 S20=>
dR (aB prog 3 t17 S20) fun t21=>
bG (bN t18 t21) (dR (bQ prog 37 [(0,(.int .i64 4)),(2,t18),(4,t19)]) fun t22=>
C 86 [a0,t22] S20 fun t23 S24=>
K (.tup []) S24)) (dR (aA prog 37 (.ptr r0.1 0 0 0) 4) fun t95=>
dR (aB prog 3 t95 (⟨S14.next+17,S14.heap⟩:St)) fun t96=>
aN a0 (dR (aA prog 88 a0 1) fun t97=>
dR (aA prog 24 t97 2) fun t98=>
dR (aB prog 3 t98 (⟨S14.next+17,S14.heap⟩:St)) fun t99=>
dR (aD prog .geq 3 t96 t99) fun t100=>
aC t100 (dR (aA prog 37 (.ptr r0.1 0 0 0) 4) fun t101=>
dR (aB prog 3 t101 (⟨S14.next+17,S14.heap⟩:St)) fun t102=>
dR (aA prog 37 (.ptr r0.1 0 0 0) 5) fun t103=>
dR (aB prog 3 t103 (⟨S14.next+17,S14.heap⟩:St)) fun t104=>
C 62 [a0,t102] (⟨S14.next+17,S14.heap⟩:St) fun t105 S106=>
dR (aB prog 3 t103 S106) fun t107=>
bG (bN t104 t107) (bG (aH prog 3 t105 t104) (dR (aD prog .neq 3 t105 t104) fun t108=>
vL C k K a0 (.ptr r0.1 0 0 0) t108 S106))) (vL C k K a0 (.ptr r0.1 0 0 0) (.bool false) (⟨S14.next+17,S14.heap⟩:St))))))))))
theorem aT7:(fun (k:Nat) (a0 a1:V) (S:St) (K:KS)=>aE prog aW aX (k+1) 56 [a0,a1] S K)=fun k a0 a1 S K=>m56 (aE prog aW aX k) k a0 a1 S K:=by kernel_rfl
noncomputable def vM (C:aT) (k:Nat) (K:KS) (p0 p3 p78:V) (S:St):An:=
aC p78 (dR (aA prog 37 p3 1) fun t48=>
dR (aB prog 3 t48 S) fun t49=>
C 83 [p0,t49] S fun t50 S51=>
K (.tup []) S51) (K (.tup []) S)
noncomputable def m57 (C:aT) (k:Nat) (a0 a1:V) (S:St) (K:KS):An:=
bG (aU (a1:V).cells) (dR (bF none S (.row 0 (a1:V).cells.length [(a1:V).cells])) fun r0=>
aN a0 (dR (aA prog 88 a0 2) fun t1=>
dR (aB prog 3 t1 (⟨r0.2.next+12,r0.2.heap⟩:St)) fun t2=>
bG (aH prog 3 t2 (.int .i64 3)) (dR (aD prog .neq 3 t2 (.int .i64 3)) fun t3=>
aC t3 (K (.tup []) (⟨r0.2.next+12,r0.2.heap⟩:St)) (dR (aA prog 37 (.ptr r0.1 0 0 0) 4) fun t4=>
dR (aB prog 3 t4 (⟨r0.2.next+12,r0.2.heap⟩:St)) fun t5=>
C 46 [a0] (⟨r0.2.next+12,r0.2.heap⟩:St) fun t6 S7=>
dR (aB prog 3 t4 S7) fun t8=>
bG (bN t5 t8) (dR (aD prog .gtr 3 t5 t6) fun t9=>
aC t9 (K (.tup []) S7) (dR (aA prog 37 (.ptr r0.1 0 0 0) 1) fun t10=>
dR (aB prog 3 t10 (⟨S7.next+7,S7.heap⟩:St)) fun t11=>
aN a0 (dR (aA prog 88 a0 8) fun t12=>
dR (aP prog 85 t12 t11) fun t13=>
dR (aA prog 37 (.ptr r0.1 0 0 0) 10) fun t14=>
dR (aB prog 4 t14 (⟨S7.next+7,S7.heap⟩:St)) fun t15=>
dR (oT .not t15) fun t16=>
aC t16 (aN t13 (dR (aA prog 84 t13 0) fun t17=>
dR (aB prog 3 t17 (⟨S7.next+26,S7.heap⟩:St)) fun t18=>
dR (aD prog .sub 3 t18 (.int .i64 1)) fun t19=>
dR (aA prog 37 (.ptr r0.1 0 0 0) 4) fun t20=>
dR (aB prog 3 t20 (⟨S7.next+26,S7.heap⟩:St)) fun t21=>
dR (aD prog .add 3 t21 (.int .i64 1)) fun t22=>
dR (uP [t19,t22]) fun t23=>
aN t13 (dR (aA prog 84 t13 1) fun t24=>
dR (aB prog 3 t24 (⟨S7.next+26,S7.heap⟩:St)) fun t25=>
dR (aD prog .add 3 t25 (.int .i64 1)) fun t26=>
dR (aB5 [t23,t26]) fun t27=>
aN t13 (dR (aA prog 84 t13 0) fun t28=>
dR (aM prog 3 t28 t27 (⟨S7.next+26,S7.heap⟩:St)) fun S29=>
dR (aA prog 37 (.ptr r0.1 0 0 0) 1) fun t30=>
dR (aB prog 3 t30 S29) fun t31=>
C 83 [a0,t31] S29 fun t32 S33=>
K (.tup []) S33)))) (dR (aA prog 37 (.ptr r0.1 0 0 0) 4) fun t34=>
dR (aB prog 3 t34 (⟨S7.next+14,S7.heap⟩:St)) fun t35=>
aN t13 (dR (aA prog 84 t13 1) fun t36=>
dR (aB prog 3 t36 (⟨S7.next+14,S7.heap⟩:St)) fun t37=>
dR (aD prog .leq 3 t35 t37) fun t38=>
aC t38 (K (.tup []) (⟨S7.next+14,S7.heap⟩:St)) (dR (aA prog 37 (.ptr r0.1 0 0 0) 4) fun t39=>
dR (aB prog 3 t39 (⟨S7.next+14,S7.heap⟩:St)) fun t40=>
dR (aD prog .add 3 t40 (.int .i64 1)) fun t41=>
dR (aA prog 37 (.ptr r0.1 0 0 0) 4) fun t42=>
dR (aB prog 3 t42 (⟨S7.next+14,S7.heap⟩:St)) fun t43=>
dR (bQ prog 84 [(0,t41),(1,t43)]) fun t44=>
aN t13 (dR (aM prog 84 t13 t44 (⟨S7.next+14,S7.heap⟩:St)) fun S45=>
C 90 [a0] S45 fun t46 S47=>
aN a0 (dR (aA prog 88 a0 2) fun t52=>
dR (aB prog 3 t52 (⟨S47.next+14,S47.heap⟩:St)) fun t53=>
bG (aH prog 3 t53 (.int .i64 3)) (dR (aD prog .eql 3 t53 (.int .i64 3)) fun t54=>
aC t54 (aN t13 (dR (aA prog 84 t13 0) fun t55=>
dR (aB prog 3 t55 (⟨S47.next+14,S47.heap⟩:St)) fun t56=>
C 46 [a0] (⟨S47.next+14,S47.heap⟩:St) fun t57 S58=>
dR (aB prog 3 t55 S58) fun t59=>
bG (bN t56 t59) (dR (aD prog .leq 3 t56 t57) fun t60=>
vM C k K a0 (.ptr r0.1 0 0 0) t60 S58))) (vM C k K a0 (.ptr r0.1 0 0 0) (.bool false) (⟨S47.next+14,S47.heap⟩:St)))))))))))))))
theorem aT8:(fun (k:Nat) (a0 a1:V) (S:St) (K:KS)=>aE prog aW aX (k+1) 57 [a0,a1] S K)=fun k a0 a1 S K=>m57 (aE prog aW aX k) k a0 a1 S K:=by kernel_rfl
noncomputable def aEb (C:aT) (k:Nat) (K:KS) (p0 p3 p4:V) (S:St):An:=
aN p4 (dR (aA prog 102 p4 3) fun t29=>
dR (aB prog 74 t29 (⟨S.next+10,S.heap⟩:St)) fun t30=>
dR (bZ prog 74 t30 (⟨S.next+10,S.heap⟩:St)) fun t31=>
aN p4 (dR (aA prog 102 p4 2) fun t32=>
dR (aB prog 3 t32 (⟨S.next+10,S.heap⟩:St)) fun t33=>
dR (aD prog .lss 3 t31 t33) fun t34=>
aC t34 (dR (aA prog 37 p3 1) fun t35=>
dR (aB prog 3 t35 (⟨S.next+22,S.heap⟩:St)) fun t36=>
dR (aA prog 37 p3 4) fun t37=>
dR (aB prog 3 t37 (⟨S.next+22,S.heap⟩:St)) fun t38=>
aN p4 (dR (aA prog 102 p4 3) fun t39=>
dR (aB prog 74 t39 (⟨S.next+22,S.heap⟩:St)) fun t40=>
dR (bZ prog 74 t40 (⟨S.next+22,S.heap⟩:St)) fun t41=>
dR (bQ prog 37 [(0,(.int .i64 6)),(2,t36),(4,t38),(8,t41)]) fun t42=>
C 86 [p0,t42] (⟨S.next+22,S.heap⟩:St) fun t43 S44=>
K (.tup []) S44)) (dR (aB prog 37 p3 (⟨S.next+18,S.heap⟩:St)) fun t45=>
aN p4 (dR (aA prog 102 p4 3) fun t46=>
dR (aB prog 74 t46 (⟨S.next+18,S.heap⟩:St)) fun t47=>
dR (cX prog 74 9 t47 (some ((⟨S.next+10,S.heap⟩:St).next+6)) (⟨S.next+18,S.heap⟩:St)) fun r48=>
C 91 [p0,t45,r48.1] r48.2 fun t49 S50=>
dR (aA prog 37 p3 1) fun t51=>
dR (aB prog 3 t51 S50) fun t52=>
dR (aA prog 37 p3 4) fun t53=>
dR (aB prog 3 t53 S50) fun t54=>
dR (bQ prog 37 [(0,(.int .i64 4)),(2,t52),(10,(.bool true)),(4,t54)]) fun t55=>
C 86 [p0,t55] S50 fun t56 S57=>
K (.tup []) S57))))
noncomputable def oD (C:aT) (k:Nat) (K:KS) (p0 p3 p4 p74:V) (S:St):An:=
aC p74 (dR (aA prog 37 p3 1) fun t22=>
dR (aB prog 3 t22 S) fun t23=>
dR (aA prog 37 p3 4) fun t24=>
dR (aB prog 3 t24 S) fun t25=>
dR (bQ prog 37 [(0,(.int .i64 6)),(2,t23),(4,t25)]) fun t26=>
C 86 [p0,t26] S fun t27 S28=>
K (.tup []) S28) (dR (aA prog 37 p3 8) fun t58=>
dR (aB prog 3 t58 (⟨S.next+8,S.heap⟩:St)) fun t59=>
aN p4 (dR (aA prog 102 p4 3) fun t60=>
dR (aB prog 74 t60 (⟨S.next+8,S.heap⟩:St)) fun t61=>
dR (bZ prog 74 t61 (⟨S.next+8,S.heap⟩:St)) fun t62=>
bG (aH prog 3 t59 t62) (dR (aD prog .eql 3 t59 t62) fun t63=>
aC t63 (aN p4 (dR (aA prog 102 p4 3) fun t64=>
dR (aB prog 74 t64 (⟨S.next+19,S.heap⟩:St)) fun t65=>
dR (aA prog 37 p3 11) fun t66=>
dR (aB prog 9 t66 (⟨S.next+19,S.heap⟩:St)) fun t67=>
dR (cD prog 74 t65 t67 (some ((⟨S.next+8,S.heap⟩:St).next+7)) (⟨S.next+19,S.heap⟩:St)) fun r68=>
aN p4 (dR (aA prog 102 p4 3) fun t69=>
dR (aM prog 74 t69 r68.1 r68.2) fun S70=>
aEb C k K p0 p3 p4 S70))) (aEb C k K p0 p3 p4 (⟨S.next+8,S.heap⟩:St)))))
noncomputable def zT (C:aT) (k:Nat) (K:KS) (p0 p3:V) (S:St):An:=
aN p0 (dR (aA prog 88 p0 9) fun t20=>
dR (aB prog 86 t20 S) fun t21=>
bG (aH prog 86 t21 (.nilp)) (dR (aD prog .eql 86 t21 (.nilp)) fun t71=>
aC t71 (oD C k K p0 p3 t21 (.bool true) (⟨S.next+29,S.heap⟩:St)) (aN t21 (dR (aA prog 102 t21 0) fun t72=>
dR (aB prog 3 t72 (⟨S.next+29,S.heap⟩:St)) fun t73=>
dR (aA prog 37 p3 4) fun t74=>
dR (aB prog 3 t74 (⟨S.next+29,S.heap⟩:St)) fun t75=>
bG (aH prog 3 t73 t75) (dR (aD prog .neq 3 t73 t75) fun t76=>
aC t76 (oD C k K p0 p3 t21 (.bool true) (⟨S.next+29,S.heap⟩:St)) (aN t21 (dR (aA prog 102 t21 1) fun t77=>
dR (aB prog 3 t77 (⟨S.next+29,S.heap⟩:St)) fun t78=>
dR (aA prog 37 p3 5) fun t79=>
dR (aB prog 3 t79 (⟨S.next+29,S.heap⟩:St)) fun t80=>
bG (aH prog 3 t78 t80) (dR (aD prog .neq 3 t78 t80) fun t81=>
aC t81 (oD C k K p0 p3 t21 (.bool true) (⟨S.next+29,S.heap⟩:St)) (aN t21 (dR (aA prog 102 t21 2) fun t82=>
dR (aB prog 3 t82 (⟨S.next+29,S.heap⟩:St)) fun t83=>
dR (aA prog 37 p3 9) fun t84=>
dR (aB prog 3 t84 (⟨S.next+29,S.heap⟩:St)) fun t85=>
bG (aH prog 3 t83 t85) (dR (aD prog .neq 3 t83 t85) fun t86=>
oD C k K p0 p3 t21 t86 (⟨S.next+29,S.heap⟩:St))))))))))))
noncomputable def m58 (C:aT) (k:Nat) (a0 a1:V) (S:St) (K:KS):An:=
bG (aU (a1:V).cells) (dR (bF none S (.row 0 (a1:V).cells.length [(a1:V).cells])) fun r0=>
aN a0 (dR (aA prog 88 a0 2) fun t1=>
dR (aB prog 3 t1 r0.2) fun t2=>
bG (aH prog 3 t2 (.int .i64 3)) (dR (aD prog .eql 3 t2 (.int .i64 3)) fun t3=>
aC t3 (K (.tup []) r0.2) (dR (aA prog 37 (.ptr r0.1 0 0 0) 1) fun t4=>
dR (aB prog 3 t4 r0.2) fun t5=>
C 89 [a0,t5] r0.2 fun t6 S7=>
dR (aA prog 37 (.ptr r0.1 0 0 0) 4) fun t8=>
dR (aB prog 3 t8 (⟨S7.next+7,S7.heap⟩:St)) fun t9=>
aN a0 (dR (aA prog 88 a0 4) fun t10=>
dR (aB prog 3 t10 (⟨S7.next+7,S7.heap⟩:St)) fun t11=>
dR (aD prog .leq 3 t9 t11) fun t12=>
aC t12 (dR (aA prog 37 (.ptr r0.1 0 0 0) 1) fun t13=>
dR (aB prog 3 t13 (⟨S7.next+7,S7.heap⟩:St)) fun t14=>
dR (aA prog 37 (.ptr r0.1 0 0 0) 4) fun t15=>
dR (aB prog 3 t15 (⟨S7.next+7,S7.heap⟩:St)) fun t16=>
dR (bQ prog 37 [(0,(.int .i64 4)),(2,t14),(10,(.bool true)),(4,t16)]) fun t17=>
C 86 [a0,t17] (⟨S7.next+7,S7.heap⟩:St) fun t18 S19=>
K (.tup []) S19) (dR (aA prog 37 (.ptr r0.1 0 0 0) 8) fun t87=>
dR (aB prog 3 t87 (⟨S7.next+7,S7.heap⟩:St)) fun t88=>
bG (aH prog 3 t88 (.int .i64 0)) (dR (aD prog .eql 3 t88 (.int .i64 0)) fun t89=>
aC t89 (dR (aA prog 37 (.ptr r0.1 0 0 0) 4) fun t90=>
dR (aB prog 3 t90 (⟨S7.next+7,S7.heap⟩:St)) fun t91=>
dR (aA prog 37 (.ptr r0.1 0 0 0) 5) fun t92=>
dR (aB prog 3 t92 (⟨S7.next+7,S7.heap⟩:St)) fun t93=>
dR (aA prog 37 (.ptr r0.1 0 0 0) 9) fun t94=>
dR (aB prog 3 t94 (⟨S7.next+7,S7.heap⟩:St)) fun t95=>
dR (bQ prog 102 [(0,t91),(1,t93),(2,t95)]) fun t96=>
bG (aU (t96:V).cells) (dR (bF none (⟨S7.next+7,S7.heap⟩:St) (.row 0 (t96:V).cells.length [(t96:V).cells])) fun r97=>
aN a0 (dR (aA prog 88 a0 9) fun t98=>
dR (aM prog 86 t98 (.ptr r97.1 0 0 0) r97.2) fun S99=>
zT C k K a0 (.ptr r0.1 0 0 0) S99))) (zT C k K a0 (.ptr r0.1 0 0 0) (⟨S7.next+7,S7.heap⟩:St)))))))))
theorem aT9:(fun (k:Nat) (a0 a1:V) (S:St) (K:KS)=>aE prog aW aX (k+1) 58 [a0,a1] S K)=fun k a0 a1 S K=>m58 (aE prog aW aX k) k a0 a1 S K:=by kernel_rfl
noncomputable def m59 (C:aT) (k:Nat) (a0 a1:V) (S:St) (K:KS):An:=
bG (aU (a1:V).cells) (dR (bF none S (.row 0 (a1:V).cells.length [(a1:V).cells])) fun r0=>
dR (aA prog 37 (.ptr r0.1 0 0 0) 1) fun t1=>
dR (aB prog 3 t1 (⟨r0.2.next+7,r0.2.heap⟩:St)) fun t2=>
aN a0 (dR (aA prog 88 a0 8) fun t3=>
dR (aP prog 85 t3 t2) fun t4=>
aN a0 (dR (aA prog 88 a0 2) fun t5=>
dR (aB prog 3 t5 (⟨r0.2.next+54,r0.2.heap⟩:St)) fun t6=>
bG (aH prog 3 t6 (.int .i64 3)) (dR (aD prog .neq 3 t6 (.int .i64 3)) fun t7=>
aC t7 (K (.tup []) (⟨r0.2.next+54,r0.2.heap⟩:St)) (dR (aA prog 37 (.ptr r0.1 0 0 0) 4) fun t8=>
dR (aB prog 3 t8 (⟨r0.2.next+54,r0.2.heap⟩:St)) fun t9=>
aN a0 (dR (aA prog 88 a0 1) fun t10=>
dR (aA prog 24 t10 2) fun t11=>
dR (aB prog 3 t11 (⟨r0.2.next+54,r0.2.heap⟩:St)) fun t12=>
bG (aH prog 3 t9 t12) (dR (aD prog .neq 3 t9 t12) fun t13=>
aC t13 (K (.tup []) (⟨r0.2.next+54,r0.2.heap⟩:St)) (aN t4 (dR (aA prog 84 t4 0) fun t14=>
dR (aB prog 3 t14 (⟨r0.2.next+54,r0.2.heap⟩:St)) fun t15=>
aN a0 (dR (aA prog 88 a0 1) fun t16=>
dR (aA prog 24 t16 2) fun t17=>
dR (aB prog 3 t17 (⟨r0.2.next+54,r0.2.heap⟩:St)) fun t18=>
dR (aD prog .gtr 3 t15 t18) fun t19=>
aC t19 (K (.tup []) (⟨r0.2.next+54,r0.2.heap⟩:St)) (dR (aA prog 37 (.ptr r0.1 0 0 0) 8) fun t20=>
dR (aB prog 3 t20 (⟨r0.2.next+54,r0.2.heap⟩:St)) fun t21=>
aN a0 (dR (aA prog 88 a0 1) fun t22=>
dR (aA prog 24 t22 5) fun t23=>
dR (aB prog 9 t23 (⟨r0.2.next+54,r0.2.heap⟩:St)) fun t24=>
dR (bZ prog 9 t24 (⟨r0.2.next+54,r0.2.heap⟩:St)) fun t25=>
dR (aD prog .geq 3 t21 t25) fun t26=>
aC t26 (K (.tup []) (⟨r0.2.next+54,r0.2.heap⟩:St)) (dR (aA prog 37 (.ptr r0.1 0 0 0) 8) fun t27=>
dR (aB prog 3 t27 (⟨r0.2.next+54,r0.2.heap⟩:St)) fun t28=>
aN t4 (dR (aA prog 84 t4 2) fun t29=>
dR (aB prog 3 t29 (⟨r0.2.next+54,r0.2.heap⟩:St)) fun t30=>
bG (aH prog 3 t28 t30) (dR (aD prog .eql 3 t28 t30) fun t31=>
aC t31 (K (.tup []) (⟨r0.2.next+54,r0.2.heap⟩:St)) (dR (aA prog 37 (.ptr r0.1 0 0 0) 8) fun t32=>
dR (aB prog 3 t32 (⟨r0.2.next+54,r0.2.heap⟩:St)) fun t33=>
aN t4 (dR (aA prog 84 t4 2) fun t34=>
dR (aM prog 3 t34 t33 (⟨r0.2.next+54,r0.2.heap⟩:St)) fun S35=>
dR (aA prog 37 (.ptr r0.1 0 0 0) 1) fun t36=>
dR (aB prog 3 t36 S35) fun t37=>
C 83 [a0,t37] S35 fun t38 S39=>
K (.tup []) S39)))))))))))))))))
theorem aTa:(fun (k:Nat) (a0 a1:V) (S:St) (K:KS)=>aE prog aW aX (k+1) 59 [a0,a1] S K)=fun k a0 a1 S K=>m59 (aE prog aW aX k) k a0 a1 S K:=by kernel_rfl
noncomputable def m60 (C:aT) (k:Nat) (a0:V) (S:St) (K:KS):An:=
aN a0 (dR (aA prog 88 a0 0) fun t0=>
dR (aB prog 3 t0 (⟨S.next+12,S.heap⟩:St)) fun t1=>
aN a0 (dR (aA prog 88 a0 8) fun t2=>
C 46 [a0] (⟨S.next+12,S.heap⟩:St) fun t3 S4=>
dR (aB prog 3 t0 S4) fun t5=>
bG (bN t1 t5) (dR (aP prog 85 t2 t1) fun t6=>
dR (aA prog 84 t6 1) fun t7=>
dR (aM prog 3 t7 t3 S4) fun S8=>
C 90 [a0] S8 fun t9 S10=>
C 48 [a0] S10 fun t11 S12=>
K (.tup []) S12)))
theorem aTb:(fun (k:Nat) (a0:V) (S:St) (K:KS)=>aE prog aW aX (k+1) 60 [a0] S K)=fun k a0 S K=>m60 (aE prog aW aX k) k a0 S K:=by kernel_rfl
noncomputable def m61 (C:aT) (k:Nat) (a0 a1:V) (S:St) (K:KS):An:=
C 92 [a0] S fun t0 S1=>
aC t0 (C 92 [a1] S1 fun t2 S3=>
aC t2 (dR (aD prog .xor 3 a0 a1) fun t4=>
C 93 [t4] S3 fun t5 S6=>
bG (aH prog 3 t5 (.int .i64 1)) (dR (aD prog .eql 3 t5 (.int .i64 1)) fun t7=>
K t7 S6)) (K (.bool false) S3)) (K (.bool false) S1)
theorem aTc:(fun (k:Nat) (a0 a1:V) (S:St) (K:KS)=>aE prog aW aX (k+1) 61 [a0,a1] S K)=fun k a0 a1 S K=>m61 (aE prog aW aX k) k a0 a1 S K:=by kernel_rfl
noncomputable def m62 (C:aT) (k:Nat) (a0 a1:V) (S:St) (K:KS):An:=
aN a0 (dR (aA prog 88 a0 1) fun t0=>
dR (aA prog 24 t0 2) fun t1=>
dR (aB prog 3 t1 S) fun t2=>
bG (aH prog 3 a1 t2) (dR (aD prog .eql 3 a1 t2) fun t3=>
aC t3 (aN a0 (dR (aA prog 88 a0 1) fun t4=>
dR (aA prog 24 t4 3) fun t5=>
dR (aB prog 3 t5 S) fun t6=>
K t6 S)) (aN a0 (dR (aA prog 88 a0 1) fun t7=>
dR (aA prog 24 t7 6) fun t8=>
dR (aB prog 22 t8 (⟨S.next+17,S.heap⟩:St)) fun t9=>
aN a0 (dR (aA prog 88 a0 1) fun t10=>
dR (aA prog 24 t10 2) fun t11=>
dR (aB prog 3 t11 (⟨S.next+17,S.heap⟩:St)) fun t12=>
dR (aD prog .sub 3 a1 t12) fun t13=>
dR (aD prog .sub 3 t13 (.int .i64 1)) fun t14=>
dR (aP prog 22 t9 t14) fun t15=>
dR (aA prog 59 t15 0) fun t16=>
dR (aB prog 3 t16 (⟨S.next+17,S.heap⟩:St)) fun t17=>
K t17 (⟨S.next+17,S.heap⟩:St))))))
theorem aTd:(fun (k:Nat) (a0 a1:V) (S:St) (K:KS)=>aE prog aW aX (k+1) 62 [a0,a1] S K)=fun k a0 a1 S K=>m62 (aE prog aW aX k) k a0 a1 S K:=by kernel_rfl
noncomputable def m63 (C:aT) (k:Nat) (a0 a1 a2:V) (S:St) (K:KS):An:=
bG (aU (a0:V).cells) (dR (bF none S (.row 0 (a0:V).cells.length [(a0:V).cells])) fun r0=>
dR (aA prog 59 (.ptr r0.1 0 0 0) 0) fun t1=>
dR (aB prog 3 t1 r0.2) fun t2=>
dR (aD prog .geq 3 t2 (.int .i64 1)) fun t3=>
aC t3 (dR (aA prog 59 (.ptr r0.1 0 0 0) 0) fun t4=>
dR (aB prog 3 t4 r0.2) fun t5=>
dR (aD prog .geq 3 t5 a1) fun t6=>
aC t6 (dR (aA prog 59 (.ptr r0.1 0 0 0) 0) fun t7=>
dR (aB prog 3 t7 r0.2) fun t8=>
dR (aD prog .leq 3 t8 a2) fun t9=>
aC t9 (dR (aA prog 59 (.ptr r0.1 0 0 0) 1) fun t10=>
dR (aB prog 3 t10 r0.2) fun t11=>
dR (aD prog .geq 3 t11 (.int .i64 0)) fun t12=>
aC t12 (dR (aA prog 59 (.ptr r0.1 0 0 0) 1) fun t13=>
dR (aB prog 3 t13 r0.2) fun t14=>
dR (aD prog .lss 3 t14 (.int .i64 128)) fun t15=>
aC t15 (dR (aA prog 59 (.ptr r0.1 0 0 0) 2) fun t16=>
dR (aB prog 9 t16 r0.2) fun t17=>
dR (bZ prog 9 t17 r0.2) fun t18=>
dR (aD prog .leq 3 t18 (.int .i64 1100)) fun t19=>
aC t19 (dR (aA prog 59 (.ptr r0.1 0 0 0) 1) fun t20=>
dR (aB prog 3 t20 r0.2) fun t21=>
bG (aH prog 3 t21 (.int .i64 0)) (dR (aD prog .eql 3 t21 (.int .i64 0)) fun t22=>
aC t22 (K (.bool true) r0.2) (dR (aA prog 59 (.ptr r0.1 0 0 0) 2) fun t23=>
dR (aB prog 9 t23 r0.2) fun t24=>
bG (aH prog 9 t24 (.str [])) (dR (aD prog .eql 9 t24 (.str [])) fun t25=>
K t25 r0.2)))) (K (.bool false) r0.2)) (K (.bool false) r0.2)) (K (.bool false) r0.2)) (K (.bool false) r0.2)) (K (.bool false) r0.2)) (K (.bool false) r0.2))
theorem aTe:(fun (k:Nat) (a0 a1 a2:V) (S:St) (K:KS)=>aE prog aW aX (k+1) 63 [a0,a1,a2] S K)=fun k a0 a1 a2 S K=>m63 (aE prog aW aX k) k a0 a1 a2 S K:=by kernel_rfl
noncomputable def aEc (C:aT) (k:Nat) (K:KS) (p0 p1:V) (vs:List V) (S:St) (again0:List V→St→An):An:=
gS vs fun x4 vs=>
gS vs fun x5 vs=>
dR (bZ prog 22 p0 S) fun t3=>
dR (aD prog .lss 3 x5 t3) fun t4=>
aC t4 (dR (aP prog 22 p0 x5) fun t5=>
dR (aB prog 59 t5 (⟨S.next+9,S.heap⟩:St)) fun t6=>
dR (aP prog 22 p1 x5) fun t7=>
dR (aB prog 59 t7 (⟨S.next+9,S.heap⟩:St)) fun t8=>
bG (aH prog 59 t6 t8) (dR (aD prog .neq 59 t6 t8) fun t9=>
aC t9 (K (.bool false) (⟨S.next+9,S.heap⟩:St)) (dR (aD prog .add 3 x5 (.int .i64 1)) fun t10=>
again0 [x4,t10] (⟨S.next+9,S.heap⟩:St)))) (K (.bool true) S)
noncomputable def m66 (C:aT) (k:Nat) (a0 a1:V) (S:St) (K:KS):An:=
dR (bZ prog 22 a0 S) fun t0=>
dR (bZ prog 22 a1 S) fun t1=>
bG (aH prog 3 t0 t1) (dR (aD prog .neq 3 t0 t1) fun t2=>
aC t2 (K (.bool false) S) (cQ k [(.bool false),(.int .i64 0)] S (aEc C k K a0 a1)))
theorem aTf:(fun (k:Nat) (a0 a1:V) (S:St) (K:KS)=>aE prog aW aX (k+1) 66 [a0,a1] S K)=fun k a0 a1 S K=>m66 (aE prog aW aX k) k a0 a1 S K:=by kernel_rfl
noncomputable def aEd (C:aT) (k:Nat) (K:KS) (p1 p79 p80:V) (vs:List V) (S:St) (again0:List V→St→An):An:=
gS vs fun x2 vs=>
gS vs fun x3 vs=>
gS vs fun x81 vs=>
dR (aD prog .lss 3 x81 p80) fun t56=>
aC t56 (dR (aP prog 22 p79 x81) fun t57=>
dR (aB prog 59 t57 S) fun t58=>
dR (bF none S (.row 0 3 [[.int .i64 0,.int .i64 0,.str []]])) fun r59=>
dR (aM prog 59 (.ptr r59.1 0 0 0) t58 r59.2) fun S60=>
dR (aB prog 59 (.ptr r59.1 0 0 0) S60) fun t61=>
dR (aA prog 24 p1 0) fun t62=>
dR (aB prog 3 t62 S60) fun t63=>
C 95 [t61,x3,t63] S60 fun t64 S65=>
dR (oT .not t64) fun t66=>
aC t66 (K (.bool false) S65) (dR (aA prog 59 (.ptr r59.1 0 0 0) 0) fun t67=>
dR (aB prog 3 t67 S65) fun t68=>
dR (aD prog .add 3 x81 (.int .i64 1)) fun t69=>
again0 [x2,t68,t69] S65)) (K (.bool true) S)
noncomputable def m67 (C:aT) (k:Nat) (a0:V) (S:St) (K:KS):An:=
bG (aU (a0:V).cells) (dR (bF none S (.row 0 (a0:V).cells.length [(a0:V).cells])) fun r0=>
dR (aA prog 24 (.ptr r0.1 0 0 0) 0) fun t1=>
dR (aB prog 3 t1 r0.2) fun t2=>
dR (aD prog .lss 3 t2 (.int .i64 0)) fun t3=>
aC t3 (K (.bool false) r0.2) (dR (aA prog 24 (.ptr r0.1 0 0 0) 0) fun t4=>
dR (aB prog 3 t4 r0.2) fun t5=>
dR (aD prog .gtr 3 t5 (.int .i64 1099511627776)) fun t6=>
aC t6 (K (.bool false) r0.2) (dR (aA prog 24 (.ptr r0.1 0 0 0) 1) fun t7=>
dR (aB prog 3 t7 r0.2) fun t8=>
dR (aD prog .lss 3 t8 (.int .i64 (-1))) fun t9=>
aC t9 (K (.bool false) r0.2) (dR (aA prog 24 (.ptr r0.1 0 0 0) 1) fun t10=>
dR (aB prog 3 t10 r0.2) fun t11=>
dR (aD prog .geq 3 t11 (.int .i64 7)) fun t12=>
aC t12 (K (.bool false) r0.2) (dR (aA prog 24 (.ptr r0.1 0 0 0) 4) fun t13=>
dR (aB prog 3 t13 r0.2) fun t14=>
dR (aD prog .lss 3 t14 (.int .i64 1)) fun t15=>
aC t15 (K (.bool false) r0.2) (dR (aA prog 24 (.ptr r0.1 0 0 0) 4) fun t16=>
dR (aB prog 3 t16 r0.2) fun t17=>
dR (aD prog .gtr 3 t17 (.int .i64 127)) fun t18=>
aC t18 (K (.bool false) r0.2) (dR (aA prog 24 (.ptr r0.1 0 0 0) 2) fun t19=>
dR (aB prog 3 t19 r0.2) fun t20=>
dR (aD prog .lss 3 t20 (.int .i64 0)) fun t21=>
aC t21 (K (.bool false) r0.2) (dR (aA prog 24 (.ptr r0.1 0 0 0) 2) fun t22=>
dR (aB prog 3 t22 r0.2) fun t23=>
dR (aD prog .gtr 3 t23 (.int .i64 1099511627776)) fun t24=>
aC t24 (K (.bool false) r0.2) (dR (aA prog 24 (.ptr r0.1 0 0 0) 3) fun t25=>
dR (aB prog 3 t25 r0.2) fun t26=>
dR (aD prog .lss 3 t26 (.int .i64 0)) fun t27=>
aC t27 (K (.bool false) r0.2) (dR (aA prog 24 (.ptr r0.1 0 0 0) 3) fun t28=>
dR (aB prog 3 t28 r0.2) fun t29=>
dR (aA prog 24 (.ptr r0.1 0 0 0) 0) fun t30=>
dR (aB prog 3 t30 r0.2) fun t31=>
dR (aD prog .gtr 3 t29 t31) fun t32=>
aC t32 (K (.bool false) r0.2) (dR (aA prog 24 (.ptr r0.1 0 0 0) 3) fun t33=>
dR (aB prog 3 t33 r0.2) fun t34=>
bG (aH prog 3 t34 (.int .i64 0)) (dR (aD prog .eql 3 t34 (.int .i64 0)) fun t35=>
dR (aA prog 24 (.ptr r0.1 0 0 0) 2) fun t36=>
dR (aB prog 3 t36 r0.2) fun t37=>
bG (aH prog 3 t37 (.int .i64 0)) (dR (aD prog .eql 3 t37 (.int .i64 0)) fun t38=>
bG (aH prog 4 t35 t38) (dR (aD prog .neq 4 t35 t38) fun t39=>
aC t39 (K (.bool false) r0.2) (dR (aA prog 24 (.ptr r0.1 0 0 0) 6) fun t40=>
dR (aB prog 22 t40 r0.2) fun t41=>
dR (bZ prog 22 t41 r0.2) fun t42=>
dR (aD prog .gtr 3 t42 (.int .i64 200)) fun t43=>
aC t43 (K (.bool false) r0.2) (dR (aA prog 24 (.ptr r0.1 0 0 0) 6) fun t44=>
dR (aB prog 22 t44 r0.2) fun t45=>
dR (bZ prog 22 t45 r0.2) fun t46=>
dR (aA prog 24 (.ptr r0.1 0 0 0) 2) fun t47=>
dR (aB prog 3 t47 r0.2) fun t48=>
dR (aD prog .sub 3 (.int .i64 1099511627776) t48) fun t49=>
dR (aD prog .gtr 3 t46 t49) fun t50=>
aC t50 (K (.bool false) r0.2) (dR (aA prog 24 (.ptr r0.1 0 0 0) 3) fun t51=>
dR (aB prog 3 t51 r0.2) fun t52=>
dR (aA prog 24 (.ptr r0.1 0 0 0) 6) fun t53=>
dR (aB prog 22 t53 r0.2) fun t54=>
dR (bZ prog 22 t54 r0.2) fun t55=>
cQ k [(.bool false),t52,(.int .i64 0)] r0.2 (aEd C k K (.ptr r0.1 0 0 0) t54 t55))))))))))))))))))
theorem aTg:(fun (k:Nat) (a0:V) (S:St) (K:KS)=>aE prog aW aX (k+1) 67 [a0] S K)=fun k a0 S K=>m67 (aE prog aW aX k) k a0 S K:=by kernel_rfl
noncomputable def aEe (C:aT) (k:Nat) (K:KS) (again0:List V→St→An) (p0 p2 p3 p20:V) (S:St):An:=
aC p20 (C 79 [p0,p3] S fun t3 S4=>
dR (aD prog .add 3 p3 (.int .i64 1)) fun t5=>
again0 [t5] S4) (dR (aD prog .add 3 p3 (.int .i64 1)) fun t6=>
again0 [t6] S)
noncomputable def aEf (C:aT) (k:Nat) (K:KS) (p0 p2:V) (vs:List V) (S:St) (again0:List V→St→An):An:=
gS vs fun x3 vs=>
dR (aD prog .lss 3 x3 (.int .i64 7)) fun t2=>
aC t2 (aN p0 (dR (aA prog 45 p0 1) fun t7=>
dR (aB prog 3 t7 S) fun t8=>
bG (aH prog 3 x3 t8) (dR (aD prog .neq 3 x3 t8) fun t9=>
aC t9 (C 30 [p2,x3] S fun t10 S11=>
aEe C k K again0 p0 p2 x3 t10 S11) (aEe C k K again0 p0 p2 x3 (.bool false) S)))) (K (.tup []) S)
noncomputable def m68 (C:aT) (k:Nat) (a0:V) (S:St) (K:KS):An:=
C 75 [a0] S fun t0 S1=>
cQ k [(.int .i64 0)] S1 (aEf C k K a0 t0)
theorem aTh:(fun (k:Nat) (a0:V) (S:St) (K:KS)=>aE prog aW aX (k+1) 68 [a0] S K)=fun k a0 S K=>m68 (aE prog aW aX k) k a0 S K:=by kernel_rfl
noncomputable def m69 (C:aT) (k:Nat) (a0 a1:V) (S:St) (K:KS):An:=
C 96 [a0] S fun t0 S1=>
aC t0 (dR (aD prog .and 3 a0 a1) fun t2=>
C 97 [t2] S1 fun t3 S4=>
dR (aD prog .mul 3 (.int .i64 2) t3) fun t5=>
C 97 [a0] S4 fun t6 S7=>
dR (aD prog .gtr 3 t5 t6) fun t8=>
K t8 S7) (K (.bool false) S1)
theorem aTi:(fun (k:Nat) (a0 a1:V) (S:St) (K:KS)=>aE prog aW aX (k+1) 69 [a0,a1] S K)=fun k a0 a1 S K=>m69 (aE prog aW aX k) k a0 a1 S K:=by kernel_rfl
noncomputable def zU (C:aT) (k:Nat) (K:KS) (p0:V) (S:St):An:=
aN p0 (dR (aA prog 45 p0 1) fun t22=>
dR (aB prog 3 t22 (⟨S.next+11,S.heap⟩:St)) fun t23=>
aN p0 (dR (aA prog 45 p0 9) fun t24=>
C 43 [p0] (⟨S.next+11,S.heap⟩:St) fun t25 S26=>
dR (aB prog 3 t22 S26) fun t27=>
bG (bN t23 t27) (dR (aP prog 42 t24 t23) fun t28=>
dR (aM prog 3 t28 t25 S26) fun S29=>
C 98 [p0] S29 fun t30 S31=>
aN p0 (dR (aA prog 45 p0 2) fun t32=>
dR (aB prog 3 t32 S31) fun t33=>
bG (aH prog 3 t33 (.int .i64 3)) (dR (aD prog .eql 3 t33 (.int .i64 3)) fun t34=>
aC t34 (C 68 [p0] S31 fun t35 S36=>
K (.tup []) S36) (K (.tup []) S31))))))
noncomputable def zV (C:aT) (k:Nat) (K:KS) (p0 p49:V) (S:St):An:=
aC p49 (aN p0 (dR (aA prog 45 p0 0) fun t37=>
dR (aA prog 24 t37 6) fun t38=>
dR (aB prog 22 t38 (⟨S.next+18,S.heap⟩:St)) fun t39=>
aN p0 (dR (aA prog 45 p0 0) fun t40=>
dR (aA prog 24 t40 0) fun t41=>
dR (aB prog 3 t41 (⟨S.next+18,S.heap⟩:St)) fun t42=>
dR (bQ prog 59 [(0,t42)]) fun t43=>
dR (bT prog 22 1 [(0,t43)] (some (S.next+12)) (⟨S.next+18,S.heap⟩:St)) fun r44=>
dR (cD prog 22 t39 r44.1 (some (S.next+13)) r44.2) fun r45=>
aN p0 (dR (aA prog 45 p0 0) fun t46=>
dR (aA prog 24 t46 6) fun t47=>
dR (aM prog 22 t47 r45.1 r45.2) fun S48=>
zU C k K p0 S48)))) (zU C k K p0 S)
noncomputable def vN (C:aT) (k:Nat) (K:KS) (p0:V) (vs:List V) (S:St) (again0:List V→St→An):An:=
gS vs fun x2 vs=>
dR (aD prog .lss 3 x2 (.int .i64 7)) fun t8=>
aC t8 (aN p0 (dR (aA prog 45 p0 8) fun t9=>
C 43 [p0] (⟨S.next+9,S.heap⟩:St) fun t10 S11=>
dR (aD prog .add 3 t10 (.int .i64 1)) fun t12=>
dR (aP prog 42 t9 x2) fun t13=>
dR (aM prog 3 t13 t12 S11) fun S14=>
aN p0 (dR (aA prog 45 p0 9) fun t15=>
dR (aP prog 42 t15 x2) fun t16=>
dR (aM prog 3 t16 (.int .i64 0) S14) fun S17=>
aN p0 (dR (aA prog 45 p0 10) fun t18=>
dR (aP prog 42 t18 x2) fun t19=>
dR (aM prog 3 t19 (.int .i64 0) S17) fun S20=>
dR (aD prog .add 3 x2 (.int .i64 1)) fun t21=>
again0 [t21] S20)))) (C 43 [p0] S fun t49 S50=>
dR (aD prog .lss 3 t49 (.int .i64 1099511627776)) fun t51=>
aC t51 (aN p0 (dR (aA prog 45 p0 0) fun t52=>
dR (aA prog 24 t52 6) fun t53=>
dR (aB prog 22 t53 S50) fun t54=>
dR (bZ prog 22 t54 S50) fun t55=>
dR (aD prog .lss 3 t55 (.int .i64 200)) fun t56=>
zV C k K p0 t56 S50)) (zV C k K p0 (.bool false) S50))
noncomputable def m70 (C:aT) (k:Nat) (a0:V) (S:St) (K:KS):An:=
aN a0 (dR (aA prog 45 a0 2) fun t0=>
dR (aM prog 3 t0 (.int .i64 3) S) fun S1=>
aN a0 (dR (aA prog 45 a0 1) fun t2=>
dR (aB prog 3 t2 S1) fun t3=>
aN a0 (dR (aA prog 45 a0 3) fun t4=>
dR (aM prog 3 t4 t3 S1) fun S5=>
aN a0 (dR (aA prog 45 a0 6) fun t6=>
dR (aM prog 3 t6 (.int .i64 3) S5) fun S7=>
cQ k [(.int .i64 0)] S7 (vN C k K a0)))))
theorem aTj:(fun (k:Nat) (a0:V) (S:St) (K:KS)=>aE prog aW aX (k+1) 70 [a0] S K)=fun k a0 S K=>m70 (aE prog aW aX k) k a0 S K:=by kernel_rfl
noncomputable def m71 (C:aT) (k:Nat) (a0 a1:V) (S:St) (K:KS):An:=
bG (aU (a1:V).cells) (dR (bF none S (.row 0 (a1:V).cells.length [(a1:V).cells])) fun r0=>
aN a0 (dR (aA prog 45 a0 1) fun t1=>
dR (aB prog 3 t1 r0.2) fun t2=>
dR (aA prog 37 (.ptr r0.1 0 0 0) 1) fun t3=>
dR (aM prog 3 t3 t2 r0.2) fun S4=>
aN a0 (dR (aA prog 45 a0 0) fun t5=>
dR (aA prog 24 t5 0) fun t6=>
dR (aB prog 3 t6 S4) fun t7=>
dR (aA prog 37 (.ptr r0.1 0 0 0) 3) fun t8=>
dR (aM prog 3 t8 t7 S4) fun S9=>
aN a0 (dR (aA prog 45 a0 15) fun t10=>
dR (aB prog 43 t10 (⟨S9.next+11,S9.heap⟩:St)) fun t11=>
dR (aB prog 37 (.ptr r0.1 0 0 0) (⟨S9.next+11,S9.heap⟩:St)) fun t12=>
dR (bT prog 43 1 [(0,t12)] (some (S9.next+6)) (⟨S9.next+11,S9.heap⟩:St)) fun r13=>
dR (cD prog 43 t11 r13.1 (some (S9.next+7)) r13.2) fun r14=>
aN a0 (dR (aA prog 45 a0 15) fun t15=>
dR (aM prog 43 t15 r14.1 r14.2) fun S16=>
K (.tup []) S16)))))
theorem aTk:(fun (k:Nat) (a0 a1:V) (S:St) (K:KS)=>aE prog aW aX (k+1) 71 [a0,a1] S K)=fun k a0 a1 S K=>m71 (aE prog aW aX k) k a0 a1 S K:=by kernel_rfl
noncomputable def m72 (C:aT) (k:Nat) (a0 a1:V) (S:St) (K:KS):An:=
aN a0 (dR (aA prog 45 a0 0) fun t0=>
dR (aA prog 24 t0 2) fun t1=>
dR (aB prog 3 t1 S) fun t2=>
bG (aH prog 3 a1 t2) (dR (aD prog .eql 3 a1 t2) fun t3=>
aC t3 (aN a0 (dR (aA prog 45 a0 0) fun t4=>
dR (aA prog 24 t4 3) fun t5=>
dR (aB prog 3 t5 S) fun t6=>
K t6 S)) (aN a0 (dR (aA prog 45 a0 0) fun t7=>
dR (aA prog 24 t7 6) fun t8=>
dR (aB prog 22 t8 (⟨S.next+17,S.heap⟩:St)) fun t9=>
aN a0 (dR (aA prog 45 a0 0) fun t10=>
dR (aA prog 24 t10 2) fun t11=>
dR (aB prog 3 t11 (⟨S.next+17,S.heap⟩:St)) fun t12=>
dR (aD prog .sub 3 a1 t12) fun t13=>
dR (aD prog .sub 3 t13 (.int .i64 1)) fun t14=>
dR (aP prog 22 t9 t14) fun t15=>
dR (aA prog 59 t15 0) fun t16=>
dR (aB prog 3 t16 (⟨S.next+17,S.heap⟩:St)) fun t17=>
K t17 (⟨S.next+17,S.heap⟩:St))))))
theorem aTl:(fun (k:Nat) (a0 a1:V) (S:St) (K:KS)=>aE prog aW aX (k+1) 72 [a0,a1] S K)=fun k a0 a1 S K=>m72 (aE prog aW aX k) k a0 a1 S K:=by kernel_rfl
noncomputable def aEg (C:aT) (k:Nat) (K:KS) (p1 p2 p3:V) (S:St):An:=
dR (aA prog 37 p1 4) fun t61=>
dR (aB prog 3 t61 S) fun t62=>
dR (aA prog 37 p3 4) fun t63=>
dR (aB prog 3 t63 S) fun t64=>
bG (aH prog 3 t62 t64) (dR (aD prog .eql 3 t62 t64) fun t65=>
aC t65 (dR (aA prog 37 p1 5) fun t66=>
dR (aB prog 3 t66 S) fun t67=>
dR (aA prog 37 p3 5) fun t68=>
dR (aB prog 3 t68 S) fun t69=>
bG (aH prog 3 t67 t69) (dR (aD prog .eql 3 t67 t69) fun t70=>
aC t70 (dR (aA prog 37 p1 6) fun t71=>
dR (aB prog 3 t71 S) fun t72=>
dR (aA prog 37 p3 6) fun t73=>
dR (aB prog 3 t73 S) fun t74=>
bG (aH prog 3 t72 t74) (dR (aD prog .eql 3 t72 t74) fun t75=>
aC t75 (dR (aA prog 37 p1 7) fun t76=>
dR (aB prog 3 t76 S) fun t77=>
dR (aA prog 37 p3 7) fun t78=>
dR (aB prog 3 t78 S) fun t79=>
bG (aH prog 3 t77 t79) (dR (aD prog .eql 3 t77 t79) fun t80=>
aC t80 (dR (aA prog 37 p1 8) fun t81=>
dR (aB prog 3 t81 S) fun t82=>
dR (aA prog 37 p3 8) fun t83=>
dR (aB prog 3 t83 S) fun t84=>
bG (aH prog 3 t82 t84) (dR (aD prog .eql 3 t82 t84) fun t85=>
aC t85 (dR (aA prog 37 p1 9) fun t86=>
dR (aB prog 3 t86 S) fun t87=>
dR (aA prog 37 p3 9) fun t88=>
dR (aB prog 3 t88 S) fun t89=>
bG (aH prog 3 t87 t89) (dR (aD prog .eql 3 t87 t89) fun t90=>
aC t90 (dR (aA prog 37 p1 10) fun t91=>
dR (aB prog 4 t91 S) fun t92=>
dR (aA prog 37 p3 10) fun t93=>
dR (aB prog 4 t93 S) fun t94=>
bG (aH prog 4 t92 t94) (dR (aD prog .eql 4 t92 t94) fun t95=>
aC t95 (dR (aA prog 37 p1 11) fun t96=>
dR (aB prog 9 t96 S) fun t97=>
dR (aA prog 37 p3 11) fun t98=>
dR (aB prog 9 t98 S) fun t99=>
bG (aH prog 9 t97 t99) (dR (aD prog .eql 9 t97 t99) fun t100=>
K t100 S)) (K (.bool false) S))) (K (.bool false) S))) (K (.bool false) S))) (K (.bool false) S))) (K (.bool false) S))) (K (.bool false) S))) (K (.bool false) S))
noncomputable def fP (C:aT) (k:Nat) (K:KS) (p1 p2 p3:V) (S:St):An:=
dR (aA prog 37 p1 0) fun t101=>
dR (aB prog 3 t101 S) fun t102=>
bG (aH prog 3 t102 (.int .i64 3)) (dR (aD prog .neq 3 t102 (.int .i64 3)) fun t103=>
aC t103 (dR (aA prog 37 p1 12) fun t104=>
dR (aB prog 22 t104 S) fun t105=>
dR (bZ prog 22 t105 S) fun t106=>
dR (aD prog .gtr 3 t106 (.int .i64 0)) fun t107=>
aC t107 (K (.bool false) S) (aEg C k K p1 p2 p3 S)) (aEg C k K p1 p2 p3 S))
noncomputable def vO (C:aT) (k:Nat) (K:KS) (p1 p3:V) (vs:List V) (S:St) (again0:List V→St→An):An:=
gS vs fun x2 vs=>
gS vs fun x4 vs=>
gS vs fun x5 vs=>
dR (aA prog 37 p1 12) fun t168=>
dR (aB prog 22 t168 S) fun t169=>
dR (bZ prog 22 t169 S) fun t170=>
dR (aD prog .lss 3 x5 t170) fun t171=>
aC t171 (dR (aA prog 37 p1 12) fun t172=>
dR (aB prog 22 t172 (⟨S.next+10,S.heap⟩:St)) fun t173=>
dR (aP prog 22 t173 x5) fun t174=>
dR (aB prog 59 t174 (⟨S.next+10,S.heap⟩:St)) fun t175=>
dR (aA prog 37 p1 3) fun t176=>
dR (aB prog 3 t176 (⟨S.next+10,S.heap⟩:St)) fun t177=>
C 63 [t175,x4,t177] (⟨S.next+10,S.heap⟩:St) fun t178 S179=>
dR (oT .not t178) fun t180=>
aC t180 (K (.bool false) S179) (dR (aA prog 37 p1 12) fun t181=>
dR (aB prog 22 t181 S179) fun t182=>
dR (aP prog 22 t182 x5) fun t183=>
dR (aA prog 59 t183 0) fun t184=>
dR (aB prog 3 t184 S179) fun t185=>
dR (aD prog .add 3 x5 (.int .i64 1)) fun t186=>
again0 [x2,t185,t186] S179)) (fP C k K p1 x2 p3 S)
noncomputable def m73 (C:aT) (k:Nat) (a0:V) (S:St) (K:KS):An:=
bG (aU (a0:V).cells) (dR (bF none S (.row 0 (a0:V).cells.length [(a0:V).cells])) fun r0=>
dR (aA prog 37 (.ptr r0.1 0 0 0) 0) fun t1=>
dR (aB prog 3 t1 r0.2) fun t2=>
dR (aD prog .lss 3 t2 (.int .i64 1)) fun t3=>
aC t3 (K (.bool false) r0.2) (dR (aA prog 37 (.ptr r0.1 0 0 0) 0) fun t4=>
dR (aB prog 3 t4 r0.2) fun t5=>
dR (aD prog .gtr 3 t5 (.int .i64 6)) fun t6=>
aC t6 (K (.bool false) r0.2) (dR (aA prog 37 (.ptr r0.1 0 0 0) 1) fun t7=>
dR (aB prog 3 t7 r0.2) fun t8=>
dR (aD prog .lss 3 t8 (.int .i64 0)) fun t9=>
aC t9 (K (.bool false) r0.2) (dR (aA prog 37 (.ptr r0.1 0 0 0) 1) fun t10=>
dR (aB prog 3 t10 r0.2) fun t11=>
dR (aD prog .geq 3 t11 (.int .i64 7)) fun t12=>
aC t12 (K (.bool false) r0.2) (dR (aA prog 37 (.ptr r0.1 0 0 0) 2) fun t13=>
dR (aB prog 3 t13 r0.2) fun t14=>
dR (aD prog .lss 3 t14 (.int .i64 0)) fun t15=>
aC t15 (K (.bool false) r0.2) (dR (aA prog 37 (.ptr r0.1 0 0 0) 2) fun t16=>
dR (aB prog 3 t16 r0.2) fun t17=>
dR (aD prog .geq 3 t17 (.int .i64 7)) fun t18=>
aC t18 (K (.bool false) r0.2) (dR (aA prog 37 (.ptr r0.1 0 0 0) 1) fun t19=>
dR (aB prog 3 t19 r0.2) fun t20=>
dR (aA prog 37 (.ptr r0.1 0 0 0) 2) fun t21=>
dR (aB prog 3 t21 r0.2) fun t22=>
bG (aH prog 3 t20 t22) (dR (aD prog .eql 3 t20 t22) fun t23=>
aC t23 (K (.bool false) r0.2) (dR (aA prog 37 (.ptr r0.1 0 0 0) 3) fun t24=>
dR (aB prog 3 t24 r0.2) fun t25=>
dR (aD prog .lss 3 t25 (.int .i64 1)) fun t26=>
aC t26 (K (.bool false) r0.2) (dR (aA prog 37 (.ptr r0.1 0 0 0) 3) fun t27=>
dR (aB prog 3 t27 r0.2) fun t28=>
dR (aD prog .gtr 3 t28 (.int .i64 1099511627776)) fun t29=>
aC t29 (K (.bool false) r0.2) (dR (aA prog 37 (.ptr r0.1 0 0 0) 4) fun t30=>
dR (aB prog 3 t30 r0.2) fun t31=>
dR (aD prog .lss 3 t31 (.int .i64 0)) fun t32=>
aC t32 (K (.bool false) r0.2) (dR (aA prog 37 (.ptr r0.1 0 0 0) 4) fun t33=>
dR (aB prog 3 t33 r0.2) fun t34=>
dR (aD prog .gtr 3 t34 (.int .i64 1099511627776)) fun t35=>
aC t35 (K (.bool false) r0.2) (dR (aA prog 37 (.ptr r0.1 0 0 0) 5) fun t36=>
dR (aB prog 3 t36 r0.2) fun t37=>
dR (aD prog .lss 3 t37 (.int .i64 0)) fun t38=>
aC t38 (K (.bool false) r0.2) (dR (aA prog 37 (.ptr r0.1 0 0 0) 5) fun t39=>
dR (aB prog 3 t39 r0.2) fun t40=>
dR (aA prog 37 (.ptr r0.1 0 0 0) 3) fun t41=>
dR (aB prog 3 t41 r0.2) fun t42=>
dR (aD prog .gtr 3 t40 t42) fun t43=>
aC t43 (K (.bool false) r0.2) (dR (aA prog 37 (.ptr r0.1 0 0 0) 6) fun t44=>
dR (aB prog 3 t44 r0.2) fun t45=>
dR (aD prog .lss 3 t45 (.int .i64 0)) fun t46=>
aC t46 (K (.bool false) r0.2) (dR (aA prog 37 (.ptr r0.1 0 0 0) 6) fun t47=>
dR (aB prog 3 t47 r0.2) fun t48=>
dR (aD prog .gtr 3 t48 (.int .i64 1099511627776)) fun t49=>
aC t49 (K (.bool false) r0.2) (dR (aA prog 37 (.ptr r0.1 0 0 0) 0) fun t50=>
dR (aB prog 3 t50 r0.2) fun t51=>
dR (aA prog 37 (.ptr r0.1 0 0 0) 1) fun t52=>
dR (aB prog 3 t52 r0.2) fun t53=>
dR (aA prog 37 (.ptr r0.1 0 0 0) 2) fun t54=>
dR (aB prog 3 t54 r0.2) fun t55=>
dR (aA prog 37 (.ptr r0.1 0 0 0) 3) fun t56=>
dR (aB prog 3 t56 r0.2) fun t57=>
dR (bQ prog 37 [(0,t51),(1,t53),(2,t55),(3,t57)]) fun t58=>
dR (bF none r0.2 (.row 0 13 [[.int .i64 0,.int .i64 0,.int .i64 0,.int .i64 0,.int .i64 0,.int .i64 0,.int .i64 0,.int .i64 0,.int .i64 0,.int .i64 0,.bool false,.str [],.nils]])) fun r59=>
dR (aM prog 37 (.ptr r59.1 0 0 0) t58 r59.2) fun S60=>
dR (aA prog 37 (.ptr r0.1 0 0 0) 0) fun t108=>
dR (aB prog 3 t108 S60) fun t109=>
bG (aH prog 3 t109 (.int .i64 1)) (dR (aD prog .eql 3 t109 (.int .i64 1)) fun t110=>
aC t110 (dR (aA prog 37 (.ptr r0.1 0 0 0) 4) fun t111=>
dR (aB prog 3 t111 (⟨S60.next+8,S60.heap⟩:St)) fun t112=>
dR (aA prog 37 (.ptr r0.1 0 0 0) 5) fun t113=>
dR (aB prog 3 t113 (⟨S60.next+8,S60.heap⟩:St)) fun t114=>
dR (aA prog 37 (.ptr r59.1 0 0 0) 4) fun t115=>
dR (aM prog 3 t115 t112 (⟨S60.next+8,S60.heap⟩:St)) fun S116=>
dR (aB prog 3 t113 S116) fun t117=>
bG (bN t114 t117) (dR (aA prog 37 (.ptr r59.1 0 0 0) 5) fun t118=>
dR (aM prog 3 t118 t114 S116) fun S119=>
dR (aA prog 37 (.ptr r0.1 0 0 0) 4) fun t120=>
dR (aB prog 3 t120 S119) fun t121=>
bG (aH prog 3 t121 (.int .i64 0)) (dR (aD prog .eql 3 t121 (.int .i64 0)) fun t122=>
dR (aA prog 37 (.ptr r0.1 0 0 0) 5) fun t123=>
dR (aB prog 3 t123 S119) fun t124=>
bG (aH prog 3 t124 (.int .i64 0)) (dR (aD prog .eql 3 t124 (.int .i64 0)) fun t125=>
bG (aH prog 4 t122 t125) (dR (aD prog .neq 4 t122 t125) fun t126=>
aC t126 (K (.bool false) S119) (fP C k K (.ptr r0.1 0 0 0) (.bool false) (.ptr r59.1 0 0 0) S119)))))) (bG (aH prog 3 t109 (.int .i64 2)) (dR (aD prog .eql 3 t109 (.int .i64 2)) fun t127=>
aC t127 (dR (aA prog 37 (.ptr r0.1 0 0 0) 10) fun t128=>
dR (aB prog 4 t128 S60) fun t129=>
dR (aA prog 37 (.ptr r59.1 0 0 0) 10) fun t130=>
dR (aM prog 4 t130 t129 S60) fun S131=>
fP C k K (.ptr r0.1 0 0 0) (.bool false) (.ptr r59.1 0 0 0) S131) (bG (aH prog 3 t109 (.int .i64 3)) (dR (aD prog .eql 3 t109 (.int .i64 3)) fun t132=>
aC t132 (dR (aA prog 37 (.ptr r0.1 0 0 0) 4) fun t133=>
dR (aB prog 3 t133 (⟨S60.next+12,S60.heap⟩:St)) fun t134=>
dR (aA prog 37 (.ptr r0.1 0 0 0) 5) fun t135=>
dR (aB prog 3 t135 (⟨S60.next+12,S60.heap⟩:St)) fun t136=>
dR (aA prog 37 (.ptr r0.1 0 0 0) 6) fun t137=>
dR (aB prog 3 t137 (⟨S60.next+12,S60.heap⟩:St)) fun t138=>
dR (aA prog 37 (.ptr r59.1 0 0 0) 4) fun t139=>
dR (aM prog 3 t139 t134 (⟨S60.next+12,S60.heap⟩:St)) fun S140=>
dR (aB prog 3 t137 S140) fun t141=>
bG (bN t138 t141) (dR (aB prog 3 t135 S140) fun t142=>
bG (bN t136 t142) (dR (aA prog 37 (.ptr r59.1 0 0 0) 5) fun t143=>
dR (aM prog 3 t143 t136 S140) fun S144=>
dR (aB prog 3 t137 S144) fun t145=>
bG (bN t138 t145) (dR (aA prog 37 (.ptr r59.1 0 0 0) 6) fun t146=>
dR (aM prog 3 t146 t138 S144) fun S147=>
dR (aA prog 37 (.ptr r0.1 0 0 0) 4) fun t148=>
dR (aB prog 3 t148 S147) fun t149=>
bG (aH prog 3 t149 (.int .i64 0)) (dR (aD prog .eql 3 t149 (.int .i64 0)) fun t150=>
dR (aA prog 37 (.ptr r0.1 0 0 0) 5) fun t151=>
dR (aB prog 3 t151 S147) fun t152=>
bG (aH prog 3 t152 (.int .i64 0)) (dR (aD prog .eql 3 t152 (.int .i64 0)) fun t153=>
bG (aH prog 4 t150 t153) (dR (aD prog .neq 4 t150 t153) fun t154=>
aC t154 (K (.bool false) S147) (dR (aA prog 37 (.ptr r0.1 0 0 0) 12) fun t155=>
dR (aB prog 22 t155 S147) fun t156=>
dR (bZ prog 22 t156 S147) fun t157=>
dR (aD prog .gtr 3 t157 (.int .i64 8)) fun t158=>
aC t158 (K (.bool false) S147) (dR (aA prog 37 (.ptr r0.1 0 0 0) 4) fun t159=>
dR (aB prog 3 t159 S147) fun t160=>
dR (aA prog 37 (.ptr r0.1 0 0 0) 12) fun t161=>
dR (aB prog 22 t161 S147) fun t162=>
dR (bZ prog 22 t162 S147) fun t163=>
dR (aD prog .sub 3 (.int .i64 1099511627776) t163) fun t164=>
dR (aD prog .gtr 3 t160 t164) fun t165=>
aC t165 (K (.bool false) S147) (dR (aA prog 37 (.ptr r0.1 0 0 0) 5) fun t166=>
dR (aB prog 3 t166 S147) fun t167=>
cQ k [(.bool false),t167,(.int .i64 0)] S147 (vO C k K (.ptr r0.1 0 0 0) (.ptr r59.1 0 0 0)))))))))))) (bG (aH prog 3 t109 (.int .i64 4)) (dR (aD prog .eql 3 t109 (.int .i64 4)) fun t187=>
aC t187 (dR (aA prog 37 (.ptr r0.1 0 0 0) 4) fun t188=>
dR (aB prog 3 t188 (⟨S60.next+8,S60.heap⟩:St)) fun t189=>
dR (aA prog 37 (.ptr r0.1 0 0 0) 10) fun t190=>
dR (aB prog 4 t190 (⟨S60.next+8,S60.heap⟩:St)) fun t191=>
dR (aA prog 37 (.ptr r59.1 0 0 0) 4) fun t192=>
dR (aM prog 3 t192 t189 (⟨S60.next+8,S60.heap⟩:St)) fun S193=>
dR (aB prog 4 t190 S193) fun t194=>
bG (bN t191 t194) (dR (aA prog 37 (.ptr r59.1 0 0 0) 10) fun t195=>
dR (aM prog 4 t195 t191 S193) fun S196=>
fP C k K (.ptr r0.1 0 0 0) (.bool false) (.ptr r59.1 0 0 0) S196)) (bG (aH prog 3 t109 (.int .i64 5)) (dR (aD prog .eql 3 t109 (.int .i64 5)) fun t197=>
aC t197 (dR (aA prog 37 (.ptr r0.1 0 0 0) 4) fun t198=>
dR (aB prog 3 t198 (⟨S60.next+24,S60.heap⟩:St)) fun t199=>
dR (aA prog 37 (.ptr r0.1 0 0 0) 5) fun t200=>
dR (aB prog 3 t200 (⟨S60.next+24,S60.heap⟩:St)) fun t201=>
dR (aA prog 37 (.ptr r0.1 0 0 0) 7) fun t202=>
dR (aB prog 3 t202 (⟨S60.next+24,S60.heap⟩:St)) fun t203=>
dR (aA prog 37 (.ptr r0.1 0 0 0) 8) fun t204=>
dR (aB prog 3 t204 (⟨S60.next+24,S60.heap⟩:St)) fun t205=>
dR (aA prog 37 (.ptr r0.1 0 0 0) 9) fun t206=>
dR (aB prog 3 t206 (⟨S60.next+24,S60.heap⟩:St)) fun t207=>
dR (aA prog 37 (.ptr r0.1 0 0 0) 11) fun t208=>
dR (aB prog 9 t208 (⟨S60.next+24,S60.heap⟩:St)) fun t209=>
dR (aA prog 37 (.ptr r59.1 0 0 0) 4) fun t210=>
dR (aM prog 3 t210 t199 (⟨S60.next+24,S60.heap⟩:St)) fun S211=>
dR (aB prog 9 t208 S211) fun t212=>
bG (bN t209 t212) (dR (aB prog 3 t206 S211) fun t213=>
bG (bN t207 t213) (dR (aB prog 3 t204 S211) fun t214=>
bG (bN t205 t214) (dR (aB prog 3 t202 S211) fun t215=>
bG (bN t203 t215) (dR (aB prog 3 t200 S211) fun t216=>
bG (bN t201 t216) (dR (aA prog 37 (.ptr r59.1 0 0 0) 5) fun t217=>
dR (aM prog 3 t217 t201 S211) fun S218=>
dR (aB prog 9 t208 S218) fun t219=>
bG (bN t209 t219) (dR (aB prog 3 t206 S218) fun t220=>
bG (bN t207 t220) (dR (aB prog 3 t204 S218) fun t221=>
bG (bN t205 t221) (dR (aB prog 3 t202 S218) fun t222=>
bG (bN t203 t222) (dR (aA prog 37 (.ptr r59.1 0 0 0) 7) fun t223=>
dR (aM prog 3 t223 t203 S218) fun S224=>
dR (aB prog 9 t208 S224) fun t225=>
bG (bN t209 t225) (dR (aB prog 3 t206 S224) fun t226=>
bG (bN t207 t226) (dR (aB prog 3 t204 S224) fun t227=>
bG (bN t205 t227) (dR (aA prog 37 (.ptr r59.1 0 0 0) 8) fun t228=>
dR (aM prog 3 t228 t205 S224) fun S229=>
dR (aB prog 9 t208 S229) fun t230=>
bG (bN t209 t230) (dR (aB prog 3 t206 S229) fun t231=>
bG (bN t207 t231) (dR (aA prog 37 (.ptr r59.1 0 0 0) 9) fun t232=>
dR (aM prog 3 t232 t207 S229) fun S233=>
dR (aB prog 9 t208 S233) fun t234=>
bG (bN t209 t234) (dR (aA prog 37 (.ptr r59.1 0 0 0) 11) fun t235=>
dR (aM prog 9 t235 t209 S233) fun S236=>
dR (aA prog 37 (.ptr r0.1 0 0 0) 4) fun t237=>
dR (aB prog 3 t237 S236) fun t238=>
bG (aH prog 3 t238 (.int .i64 0)) (dR (aD prog .eql 3 t238 (.int .i64 0)) fun t239=>
aC t239 (K (.bool false) S236) (dR (aA prog 37 (.ptr r0.1 0 0 0) 5) fun t240=>
dR (aB prog 3 t240 S236) fun t241=>
bG (aH prog 3 t241 (.int .i64 0)) (dR (aD prog .eql 3 t241 (.int .i64 0)) fun t242=>
aC t242 (K (.bool false) S236) (dR (aA prog 37 (.ptr r0.1 0 0 0) 7) fun t243=>
dR (aB prog 3 t243 S236) fun t244=>
dR (aD prog .lss 3 t244 (.int .i64 1)) fun t245=>
aC t245 (K (.bool false) S236) (dR (aA prog 37 (.ptr r0.1 0 0 0) 7) fun t246=>
dR (aB prog 3 t246 S236) fun t247=>
dR (aD prog .geq 3 t247 (.int .i64 128)) fun t248=>
aC t248 (K (.bool false) S236) (dR (aA prog 37 (.ptr r0.1 0 0 0) 9) fun t249=>
dR (aB prog 3 t249 S236) fun t250=>
dR (aD prog .lss 3 t250 (.int .i64 1)) fun t251=>
aC t251 (K (.bool false) S236) (dR (aA prog 37 (.ptr r0.1 0 0 0) 9) fun t252=>
dR (aB prog 3 t252 S236) fun t253=>
dR (aD prog .gtr 3 t253 (.int .i64 65536)) fun t254=>
aC t254 (K (.bool false) S236) (dR (aA prog 37 (.ptr r0.1 0 0 0) 8) fun t255=>
dR (aB prog 3 t255 S236) fun t256=>
dR (aD prog .lss 3 t256 (.int .i64 0)) fun t257=>
aC t257 (K (.bool false) S236) (dR (aA prog 37 (.ptr r0.1 0 0 0) 8) fun t258=>
dR (aB prog 3 t258 S236) fun t259=>
dR (aA prog 37 (.ptr r0.1 0 0 0) 9) fun t260=>
dR (aB prog 3 t260 S236) fun t261=>
dR (aD prog .geq 3 t259 t261) fun t262=>
aC t262 (K (.bool false) S236) (dR (aA prog 37 (.ptr r0.1 0 0 0) 11) fun t263=>
dR (aB prog 9 t263 S236) fun t264=>
dR (bZ prog 9 t264 S236) fun t265=>
dR (aD prog .lss 3 t265 (.int .i64 1)) fun t266=>
aC t266 (K (.bool false) S236) (dR (aA prog 37 (.ptr r0.1 0 0 0) 11) fun t267=>
dR (aB prog 9 t267 S236) fun t268=>
dR (bZ prog 9 t268 S236) fun t269=>
dR (aD prog .gtr 3 t269 (.int .i64 600)) fun t270=>
aC t270 (K (.bool false) S236) (dR (aA prog 37 (.ptr r0.1 0 0 0) 11) fun t271=>
dR (aB prog 9 t271 S236) fun t272=>
dR (bZ prog 9 t272 S236) fun t273=>
dR (aA prog 37 (.ptr r0.1 0 0 0) 9) fun t274=>
dR (aB prog 3 t274 S236) fun t275=>
dR (aA prog 37 (.ptr r0.1 0 0 0) 8) fun t276=>
dR (aB prog 3 t276 S236) fun t277=>
dR (aD prog .sub 3 t275 t277) fun t278=>
dR (aD prog .gtr 3 t273 t278) fun t279=>
aC t279 (K (.bool false) S236) (fP C k K (.ptr r0.1 0 0 0) (.bool false) (.ptr r59.1 0 0 0) S236))))))))))))))))))))))))))))) (bG (aH prog 3 t109 (.int .i64 6)) (dR (aD prog .eql 3 t109 (.int .i64 6)) fun t280=>
aC t280 (dR (aA prog 37 (.ptr r0.1 0 0 0) 4) fun t281=>
dR (aB prog 3 t281 (⟨S60.next+8,S60.heap⟩:St)) fun t282=>
dR (aA prog 37 (.ptr r0.1 0 0 0) 8) fun t283=>
dR (aB prog 3 t283 (⟨S60.next+8,S60.heap⟩:St)) fun t284=>
dR (aA prog 37 (.ptr r59.1 0 0 0) 4) fun t285=>
dR (aM prog 3 t285 t282 (⟨S60.next+8,S60.heap⟩:St)) fun S286=>
dR (aB prog 3 t283 S286) fun t287=>
bG (bN t284 t287) (dR (aA prog 37 (.ptr r59.1 0 0 0) 8) fun t288=>
dR (aM prog 3 t288 t284 S286) fun S289=>
dR (aA prog 37 (.ptr r0.1 0 0 0) 4) fun t290=>
dR (aB prog 3 t290 S289) fun t291=>
bG (aH prog 3 t291 (.int .i64 0)) (dR (aD prog .eql 3 t291 (.int .i64 0)) fun t292=>
aC t292 (K (.bool false) S289) (dR (aA prog 37 (.ptr r0.1 0 0 0) 8) fun t293=>
dR (aB prog 3 t293 S289) fun t294=>
dR (aD prog .lss 3 t294 (.int .i64 0)) fun t295=>
aC t295 (K (.bool false) S289) (dR (aA prog 37 (.ptr r0.1 0 0 0) 8) fun t296=>
dR (aB prog 3 t296 S289) fun t297=>
dR (aD prog .gtr 3 t297 (.int .i64 65536)) fun t298=>
aC t298 (K (.bool false) S289) (fP C k K (.ptr r0.1 0 0 0) (.bool false) (.ptr r59.1 0 0 0) S289)))))) (fP C k K (.ptr r0.1 0 0 0) (.bool false) (.ptr r59.1 0 0 0) S60)))))))))))))))))))))))))))))
theorem aTm:(fun (k:Nat) (a0:V) (S:St) (K:KS)=>aE prog aW aX (k+1) 73 [a0] S K)=fun k a0 S K=>m73 (aE prog aW aX k) k a0 S K:=by kernel_rfl
noncomputable def aEh (C:aT) (k:Nat) (K:KS) (p0 p3 p5:V) (S:St):An:=
dR (aA prog 37 p3 1) fun t5=>
dR (aB prog 3 t5 S) fun t6=>
dR (bQ prog 37 [(0,(.int .i64 2)),(2,t6),(10,p5)]) fun t7=>
C 71 [p0,t7] S fun t8 S9=>
K (.tup []) S9
noncomputable def jA (C:aT) (k:Nat) (K:KS) (p0 p3 p5:V) (S:St):An:=
aC p5 (dR (aA prog 37 p3 1) fun t10=>
dR (aB prog 3 t10 S) fun t11=>
aN p0 (dR (aA prog 45 p0 0) fun t12=>
dR (aA prog 24 t12 1) fun t13=>
dR (aM prog 3 t13 t11 S) fun S14=>
aN p0 (dR (aA prog 45 p0 5) fun t15=>
dR (aB prog 3 t15 S14) fun t16=>
aN p0 (dR (aA prog 45 p0 6) fun t17=>
dR (aM prog 3 t17 t16 S14) fun S18=>
aEh C k K p0 p3 p5 S18)))) (aEh C k K p0 p3 p5 S)
noncomputable def m74 (C:aT) (k:Nat) (a0 a1:V) (S:St) (K:KS):An:=
bG (aU (a1:V).cells) (dR (bF none S (.row 0 (a1:V).cells.length [(a1:V).cells])) fun r0=>
C 43 [a0] r0.2 fun t1 S2=>
C 72 [a0,t1] S2 fun t3 S4=>
aN a0 (dR (aA prog 45 a0 0) fun t19=>
dR (aA prog 24 t19 1) fun t20=>
dR (aB prog 3 t20 (⟨S4.next+36,S4.heap⟩:St)) fun t21=>
bG (aH prog 3 t21 (.int .i64 (-1))) (dR (aD prog .eql 3 t21 (.int .i64 (-1))) fun t22=>
aC t22 (dR (aA prog 37 (.ptr r0.1 0 0 0) 5) fun t23=>
dR (aB prog 3 t23 (⟨S4.next+36,S4.heap⟩:St)) fun t24=>
dR (aD prog .gtr 3 t24 t3) fun t25=>
aC t25 (jA C k K a0 (.ptr r0.1 0 0 0) (.bool true) (⟨S4.next+36,S4.heap⟩:St)) (dR (aA prog 37 (.ptr r0.1 0 0 0) 5) fun t26=>
dR (aB prog 3 t26 (⟨S4.next+36,S4.heap⟩:St)) fun t27=>
bG (aH prog 3 t27 t3) (dR (aD prog .eql 3 t27 t3) fun t28=>
aC t28 (dR (aA prog 37 (.ptr r0.1 0 0 0) 4) fun t29=>
dR (aB prog 3 t29 (⟨S4.next+36,S4.heap⟩:St)) fun t30=>
C 43 [a0] (⟨S4.next+36,S4.heap⟩:St) fun t31 S32=>
dR (aB prog 3 t29 S32) fun t33=>
bG (bN t30 t33) (dR (aD prog .geq 3 t30 t31) fun t34=>
jA C k K a0 (.ptr r0.1 0 0 0) t34 S32)) (jA C k K a0 (.ptr r0.1 0 0 0) (.bool false) (⟨S4.next+36,S4.heap⟩:St))))) (aN a0 (dR (aA prog 45 a0 0) fun t35=>
dR (aA prog 24 t35 1) fun t36=>
dR (aB prog 3 t36 (⟨S4.next+36,S4.heap⟩:St)) fun t37=>
dR (aA prog 37 (.ptr r0.1 0 0 0) 1) fun t38=>
dR (aB prog 3 t38 (⟨S4.next+36,S4.heap⟩:St)) fun t39=>
bG (aH prog 3 t37 t39) (dR (aD prog .eql 3 t37 t39) fun t40=>
aC t40 (dR (aA prog 37 (.ptr r0.1 0 0 0) 5) fun t41=>
dR (aB prog 3 t41 (⟨S4.next+36,S4.heap⟩:St)) fun t42=>
dR (aD prog .gtr 3 t42 t3) fun t43=>
aC t43 (jA C k K a0 (.ptr r0.1 0 0 0) (.bool true) (⟨S4.next+36,S4.heap⟩:St)) (dR (aA prog 37 (.ptr r0.1 0 0 0) 5) fun t44=>
dR (aB prog 3 t44 (⟨S4.next+36,S4.heap⟩:St)) fun t45=>
bG (aH prog 3 t45 t3) (dR (aD prog .eql 3 t45 t3) fun t46=>
aC t46 (dR (aA prog 37 (.ptr r0.1 0 0 0) 4) fun t47=>
dR (aB prog 3 t47 (⟨S4.next+36,S4.heap⟩:St)) fun t48=>
C 43 [a0] (⟨S4.next+36,S4.heap⟩:St) fun t49 S50=>
dR (aB prog 3 t47 S50) fun t51=>
bG (bN t48 t51) (dR (aD prog .geq 3 t48 t49) fun t52=>
jA C k K a0 (.ptr r0.1 0 0 0) t52 S50)) (jA C k K a0 (.ptr r0.1 0 0 0) (.bool false) (⟨S4.next+36,S4.heap⟩:St))))) (jA C k K a0 (.ptr r0.1 0 0 0) (.bool false) (⟨S4.next+36,S4.heap⟩:St))))))))
theorem aTn:(fun (k:Nat) (a0 a1:V) (S:St) (K:KS)=>aE prog aW aX (k+1) 74 [a0,a1] S K)=fun k a0 a1 S K=>m74 (aE prog aW aX k) k a0 a1 S K:=by kernel_rfl
noncomputable def m75 (C:aT) (k:Nat) (a0:V) (S:St) (K:KS):An:=
aN a0 (dR (aA prog 45 a0 0) fun t0=>
dR (aB prog 24 t0 S) fun t1=>
C 42 [t1] S fun t2 S3=>
fT t2 0 fun t4=>
fT t2 1 fun t5=>
K t4 S3)
theorem aTo:(fun (k:Nat) (a0:V) (S:St) (K:KS)=>aE prog aW aX (k+1) 75 [a0] S K)=fun k a0 S K=>m75 (aE prog aW aX k) k a0 S K:=by kernel_rfl
noncomputable def vP (C:aT) (k:Nat) (K:KS) (p0 p3 p4:V) (S:St):An:=
aN p0 (dR (aA prog 45 p0 4) fun t35=>
dR (aB prog 3 t35 (⟨S.next+13,S.heap⟩:St)) fun t36=>
dR (aA prog 37 p3 6) fun t37=>
dR (aB prog 3 t37 (⟨S.next+13,S.heap⟩:St)) fun t38=>
dR (uP [t38,p4]) fun t39=>
dR (aB5 [t36,t39]) fun t40=>
aN p0 (dR (aA prog 45 p0 4) fun t41=>
dR (aM prog 3 t41 t40 (⟨S.next+13,S.heap⟩:St)) fun S42=>
dR (aA prog 37 p3 1) fun t43=>
dR (aB prog 3 t43 S42) fun t44=>
dR (bQ prog 37 [(0,(.int .i64 4)),(2,t44),(10,(.bool true)),(4,p4)]) fun t45=>
C 71 [p0,t45] S42 fun t46 S47=>
K (.tup []) S47))
noncomputable def aEi (C:aT) (k:Nat) (K:KS) (again0:List V→St→An) (p0 p3 p4 p5 p6:V) (S:St):An:=
aN p0 (dR (aA prog 45 p0 0) fun t56=>
dR (aA prog 24 t56 2) fun t57=>
dR (aB prog 3 t57 S) fun t58=>
dR (aD prog .sub 3 p6 t58) fun t59=>
dR (aD prog .gtr 3 t59 (.int .i64 200)) fun t60=>
aC t60 (vP C k K p0 p3 p4 S) (aN p0 (dR (aA prog 45 p0 0) fun t61=>
dR (aA prog 24 t61 6) fun t62=>
dR (aB prog 22 t62 (⟨S.next+28,S.heap⟩:St)) fun t63=>
aN p0 (dR (aA prog 45 p0 0) fun t64=>
dR (aA prog 24 t64 2) fun t65=>
dR (aB prog 3 t65 (⟨S.next+28,S.heap⟩:St)) fun t66=>
dR (aD prog .sub 3 p6 t66) fun t67=>
dR (aD prog .sub 3 t67 (.int .i64 1)) fun t68=>
dR (eF prog 22 t63 none (some t68)) fun t69=>
dR (aA prog 37 p3 12) fun t70=>
dR (aB prog 22 t70 (⟨S.next+28,S.heap⟩:St)) fun t71=>
dR (aP prog 22 t71 p5) fun t72=>
dR (aB prog 59 t72 (⟨S.next+28,S.heap⟩:St)) fun t73=>
dR (bT prog 22 0 [] (some (S.next+1)) (⟨S.next+28,S.heap⟩:St)) fun r74=>
dR (cD prog 22 r74.1 t69 (some (S.next+16)) r74.2) fun r75=>
dR (aB prog 59 t72 r75.2) fun t76=>
bG (bN t73 t76) (dR (aB prog 22 t70 r75.2) fun t77=>
bG (bN t71 t77) (dR (bT prog 22 1 [(0,t73)] (some (S.next+22)) r75.2) fun r78=>
dR (cD prog 22 r75.1 r78.1 (some (S.next+23)) r78.2) fun r79=>
aN p0 (dR (aA prog 45 p0 0) fun t80=>
dR (aA prog 24 t80 6) fun t81=>
dR (aM prog 22 t81 r79.1 r79.2) fun S82=>
dR (aD prog .add 3 p5 (.int .i64 1)) fun t83=>
again0 [p6,t83] S82)))))))
noncomputable def zW (C:aT) (k:Nat) (K:KS) (p0 p3:V) (vs:List V) (S:St) (again0:List V→St→An):An:=
gS vs fun x4 vs=>
gS vs fun x5 vs=>
dR (aA prog 37 p3 12) fun t48=>
dR (aB prog 22 t48 S) fun t49=>
dR (bZ prog 22 t49 S) fun t50=>
dR (aD prog .lss 3 x5 t50) fun t51=>
aC t51 (dR (aA prog 37 p3 4) fun t52=>
dR (aB prog 3 t52 S) fun t53=>
dR (aD prog .add 3 t53 (.int .i64 1)) fun t54=>
dR (aD prog .add 3 t54 x5) fun t55=>
aN p0 (dR (aA prog 45 p0 0) fun t84=>
dR (aA prog 24 t84 2) fun t85=>
dR (aB prog 3 t85 (⟨S.next+25,S.heap⟩:St)) fun t86=>
dR (aD prog .leq 3 t55 t86) fun t87=>
aC t87 (dR (aD prog .add 3 x5 (.int .i64 1)) fun t88=>
again0 [t55,t88] (⟨S.next+25,S.heap⟩:St)) (C 43 [p0] (⟨S.next+25,S.heap⟩:St) fun t89 S90=>
dR (aD prog .leq 3 t55 t89) fun t91=>
aC t91 (dR (aA prog 37 p3 12) fun t92=>
dR (aB prog 22 t92 S90) fun t93=>
dR (aP prog 22 t93 x5) fun t94=>
dR (aA prog 59 t94 0) fun t95=>
dR (aB prog 3 t95 S90) fun t96=>
C 72 [p0,t55] S90 fun t97 S98=>
dR (aB prog 3 t95 S98) fun t99=>
bG (bN t96 t99) (dR (aB prog 22 t92 S98) fun t100=>
bG (bN t93 t100) (bG (aH prog 3 t97 t96) (dR (aD prog .eql 3 t97 t96) fun t101=>
aC t101 (dR (aD prog .add 3 x5 (.int .i64 1)) fun t102=>
again0 [t55,t102] S98) (aEi C k K again0 p0 p3 x4 x5 t55 S98))))) (aEi C k K again0 p0 p3 x4 x5 t55 S90)))) (vP C k K p0 p3 x4 S)
noncomputable def vQ (C:aT) (k:Nat) (K:KS) (p0 p3 p49:V) (S:St):An:=
aC p49 (dR (aA prog 37 p3 1) fun t25=>
dR (aB prog 3 t25 S) fun t26=>
dR (aA prog 37 p3 4) fun t27=>
dR (aB prog 3 t27 S) fun t28=>
dR (aD prog .sub 3 t28 (.int .i64 1)) fun t29=>
dR (bQ prog 37 [(0,(.int .i64 4)),(2,t26),(4,t29)]) fun t30=>
C 71 [p0,t30] S fun t31 S32=>
K (.tup []) S32) (dR (aA prog 37 p3 4) fun t33=>
dR (aB prog 3 t33 S) fun t34=>
cQ k [t34,(.int .i64 0)] S (zW C k K p0 p3))
noncomputable def m76 (C:aT) (k:Nat) (a0 a1:V) (S:St) (K:KS):An:=
bG (aU (a1:V).cells) (dR (bF none S (.row 0 (a1:V).cells.length [(a1:V).cells])) fun r0=>
aN a0 (dR (aA prog 45 a0 2) fun t1=>
dR (aB prog 3 t1 r0.2) fun t2=>
bG (aH prog 3 t2 (.int .i64 3)) (dR (aD prog .eql 3 t2 (.int .i64 3)) fun t3=>
aC t3 (K (.tup []) r0.2) (dR (aB prog 37 (.ptr r0.1 0 0 0) r0.2) fun t4=>
C 99 [a0,t4] r0.2 fun t5 S6=>
aC t5 (K (.tup []) S6) (dR (aA prog 37 (.ptr r0.1 0 0 0) 1) fun t7=>
dR (aB prog 3 t7 S6) fun t8=>
C 100 [a0,t8] S6 fun t9 S10=>
dR (aA prog 37 (.ptr r0.1 0 0 0) 4) fun t11=>
dR (aB prog 3 t11 (⟨S10.next+5,S10.heap⟩:St)) fun t12=>
C 43 [a0] (⟨S10.next+5,S10.heap⟩:St) fun t13 S14=>
dR (aB prog 3 t11 S14) fun t15=>
bG (bN t12 t15) (dR (aD prog .gtr 3 t12 t13) fun t16=>
aC t16 (dR (aA prog 37 (.ptr r0.1 0 0 0) 1) fun t17=>
dR (aB prog 3 t17 (⟨S14.next+7,S14.heap⟩:St)) fun t18=>
C 43 [a0] (⟨S14.next+7,S14.heap⟩:St) fun t19 S20=>
dR (aB prog 3 t17 S20) fun t21=>
bG (bN t18 t21) (dR (bQ prog 37 [(0,(.int .i64 4)),(2,t18),(4,t19)]) fun t22=>
C 71 [a0,t22] S20 fun t23 S24=>
K (.tup []) S24)) (dR (aA prog 37 (.ptr r0.1 0 0 0) 4) fun t103=>
dR (aB prog 3 t103 (⟨S14.next+17,S14.heap⟩:St)) fun t104=>
aN a0 (dR (aA prog 45 a0 0) fun t105=>
dR (aA prog 24 t105 2) fun t106=>
dR (aB prog 3 t106 (⟨S14.next+17,S14.heap⟩:St)) fun t107=>
dR (aD prog .geq 3 t104 t107) fun t108=>
aC t108 (dR (aA prog 37 (.ptr r0.1 0 0 0) 4) fun t109=>
dR (aB prog 3 t109 (⟨S14.next+17,S14.heap⟩:St)) fun t110=>
dR (aA prog 37 (.ptr r0.1 0 0 0) 5) fun t111=>
dR (aB prog 3 t111 (⟨S14.next+17,S14.heap⟩:St)) fun t112=>
C 72 [a0,t110] (⟨S14.next+17,S14.heap⟩:St) fun t113 S114=>
dR (aB prog 3 t111 S114) fun t115=>
bG (bN t112 t115) (bG (aH prog 3 t113 t112) (dR (aD prog .neq 3 t113 t112) fun t116=>
vQ C k K a0 (.ptr r0.1 0 0 0) t116 S114))) (vQ C k K a0 (.ptr r0.1 0 0 0) (.bool false) (⟨S14.next+17,S14.heap⟩:St))))))))))
theorem aTp:(fun (k:Nat) (a0 a1:V) (S:St) (K:KS)=>aE prog aW aX (k+1) 76 [a0,a1] S K)=fun k a0 a1 S K=>m76 (aE prog aW aX k) k a0 a1 S K:=by kernel_rfl
noncomputable def vR (C:aT) (k:Nat) (K:KS) (p0 p4 p97:V) (S:St):An:=
aC p97 (C 79 [p0,p4] S fun t55 S56=>
K (.tup []) S56) (K (.tup []) S)
noncomputable def m77 (C:aT) (k:Nat) (a0 a1:V) (S:St) (K:KS):An:=
bG (aU (a1:V).cells) (dR (bF none S (.row 0 (a1:V).cells.length [(a1:V).cells])) fun r0=>
aN a0 (dR (aA prog 45 a0 2) fun t1=>
dR (aB prog 3 t1 (⟨r0.2.next+12,r0.2.heap⟩:St)) fun t2=>
bG (aH prog 3 t2 (.int .i64 3)) (dR (aD prog .neq 3 t2 (.int .i64 3)) fun t3=>
aC t3 (K (.tup []) (⟨r0.2.next+12,r0.2.heap⟩:St)) (dR (aA prog 37 (.ptr r0.1 0 0 0) 4) fun t4=>
dR (aB prog 3 t4 (⟨r0.2.next+12,r0.2.heap⟩:St)) fun t5=>
C 43 [a0] (⟨r0.2.next+12,r0.2.heap⟩:St) fun t6 S7=>
dR (aB prog 3 t4 S7) fun t8=>
bG (bN t5 t8) (dR (aD prog .gtr 3 t5 t6) fun t9=>
aC t9 (K (.tup []) S7) (dR (aA prog 37 (.ptr r0.1 0 0 0) 1) fun t10=>
dR (aB prog 3 t10 S7) fun t11=>
dR (aA prog 37 (.ptr r0.1 0 0 0) 10) fun t12=>
dR (aB prog 4 t12 S7) fun t13=>
dR (oT .not t13) fun t14=>
aC t14 (aN a0 (dR (aA prog 45 a0 8) fun t15=>
dR (aP prog 42 t15 t11) fun t16=>
dR (aB prog 3 t16 (⟨S7.next+12,S7.heap⟩:St)) fun t17=>
dR (aD prog .sub 3 t17 (.int .i64 1)) fun t18=>
dR (aA prog 37 (.ptr r0.1 0 0 0) 4) fun t19=>
dR (aB prog 3 t19 (⟨S7.next+12,S7.heap⟩:St)) fun t20=>
dR (aD prog .add 3 t20 (.int .i64 1)) fun t21=>
dR (uP [t18,t21]) fun t22=>
aN a0 (dR (aA prog 45 a0 9) fun t23=>
dR (aP prog 42 t23 t11) fun t24=>
dR (aB prog 3 t24 (⟨S7.next+27,S7.heap⟩:St)) fun t25=>
dR (aD prog .add 3 t25 (.int .i64 1)) fun t26=>
dR (aB5 [t22,t26]) fun t27=>
aN a0 (dR (aA prog 45 a0 8) fun t28=>
dR (aP prog 42 t28 t11) fun t29=>
dR (aM prog 3 t29 t27 (⟨S7.next+27,S7.heap⟩:St)) fun S30=>
C 79 [a0,t11] S30 fun t31 S32=>
K (.tup []) S32)))) (dR (aA prog 37 (.ptr r0.1 0 0 0) 4) fun t33=>
dR (aB prog 3 t33 (⟨S7.next+9,S7.heap⟩:St)) fun t34=>
aN a0 (dR (aA prog 45 a0 9) fun t35=>
dR (aP prog 42 t35 t11) fun t36=>
dR (aB prog 3 t36 (⟨S7.next+9,S7.heap⟩:St)) fun t37=>
dR (aD prog .leq 3 t34 t37) fun t38=>
aC t38 (K (.tup []) (⟨S7.next+9,S7.heap⟩:St)) (dR (aA prog 37 (.ptr r0.1 0 0 0) 4) fun t39=>
dR (aB prog 3 t39 (⟨S7.next+17,S7.heap⟩:St)) fun t40=>
aN a0 (dR (aA prog 45 a0 9) fun t41=>
dR (aP prog 42 t41 t11) fun t42=>
dR (aM prog 3 t42 t40 (⟨S7.next+17,S7.heap⟩:St)) fun S43=>
dR (aA prog 37 (.ptr r0.1 0 0 0) 4) fun t44=>
dR (aB prog 3 t44 (⟨S43.next+9,S43.heap⟩:St)) fun t45=>
dR (aD prog .add 3 t45 (.int .i64 1)) fun t46=>
aN a0 (dR (aA prog 45 a0 8) fun t47=>
dR (aP prog 42 t47 t11) fun t48=>
dR (aM prog 3 t48 t46 (⟨S43.next+9,S43.heap⟩:St)) fun S49=>
aN a0 (dR (aA prog 45 a0 10) fun t50=>
dR (aP prog 42 t50 t11) fun t51=>
dR (aM prog 3 t51 (.int .i64 0) S49) fun S52=>
C 98 [a0] S52 fun t53 S54=>
aN a0 (dR (aA prog 45 a0 2) fun t57=>
dR (aB prog 3 t57 (⟨S54.next+16,S54.heap⟩:St)) fun t58=>
bG (aH prog 3 t58 (.int .i64 3)) (dR (aD prog .eql 3 t58 (.int .i64 3)) fun t59=>
aC t59 (aN a0 (dR (aA prog 45 a0 8) fun t60=>
dR (aP prog 42 t60 t11) fun t61=>
dR (aB prog 3 t61 (⟨S54.next+16,S54.heap⟩:St)) fun t62=>
C 43 [a0] (⟨S54.next+16,S54.heap⟩:St) fun t63 S64=>
dR (aB prog 3 t61 S64) fun t65=>
bG (bN t62 t65) (dR (aD prog .leq 3 t62 t63) fun t66=>
vR C k K a0 t11 t66 S64))) (vR C k K a0 t11 (.bool false) (⟨S54.next+16,S54.heap⟩:St))))))))))))))))
theorem aTq:(fun (k:Nat) (a0 a1:V) (S:St) (K:KS)=>aE prog aW aX (k+1) 77 [a0,a1] S K)=fun k a0 a1 S K=>m77 (aE prog aW aX k) k a0 a1 S K:=by kernel_rfl
noncomputable def oE (C:aT) (k:Nat) (K:KS) (p0 p3 p4:V) (S:St):An:=
dR (aA prog 37 p3 4) fun t43=>
dR (aB prog 3 t43 (⟨S.next+36,S.heap⟩:St)) fun t44=>
dR (aA prog 37 p3 5) fun t45=>
dR (aB prog 3 t45 (⟨S.next+36,S.heap⟩:St)) fun t46=>
dR (aA prog 37 p3 7) fun t47=>
dR (aB prog 3 t47 (⟨S.next+36,S.heap⟩:St)) fun t48=>
aN p0 (dR (aA prog 45 p0 14) fun t49=>
dR (aB prog 9 t49 (⟨S.next+36,S.heap⟩:St)) fun t50=>
aN p0 (dR (aA prog 45 p0 0) fun t51=>
dR (aA prog 24 t51 2) fun t52=>
dR (aM prog 3 t52 t44 (⟨S.next+36,S.heap⟩:St)) fun S53=>
dR (aB prog 3 t47 S53) fun t54=>
bG (bN t48 t54) (dR (aB prog 3 t45 S53) fun t55=>
bG (bN t46 t55) (aN p0 (dR (aA prog 45 p0 0) fun t56=>
dR (aA prog 24 t56 3) fun t57=>
dR (aM prog 3 t57 t46 S53) fun S58=>
dR (aB prog 3 t47 S58) fun t59=>
bG (bN t48 t59) (aN p0 (dR (aA prog 45 p0 0) fun t60=>
dR (aA prog 24 t60 4) fun t61=>
dR (aM prog 3 t61 t48 S58) fun S62=>
aN p0 (dR (aA prog 45 p0 0) fun t63=>
dR (aA prog 24 t63 5) fun t64=>
dR (aM prog 9 t64 t50 S62) fun S65=>
aN p0 (dR (aA prog 45 p0 0) fun t66=>
dR (aA prog 24 t66 6) fun t67=>
dR (aM prog 22 t67 p4 S65) fun S68=>
dR (aA prog 37 p3 4) fun t69=>
dR (aB prog 3 t69 S68) fun t70=>
aN p0 (dR (aA prog 45 p0 4) fun t71=>
dR (aM prog 3 t71 t70 S68) fun S72=>
aN p0 (dR (aA prog 45 p0 11) fun t73=>
dR (aM prog 3 t73 (.int .i64 0) S72) fun S74=>
aN p0 (dR (aA prog 45 p0 12) fun t75=>
dR (aM prog 3 t75 (.int .i64 0) S74) fun S76=>
aN p0 (dR (aA prog 45 p0 13) fun t77=>
dR (aM prog 3 t77 (.int .i64 0) S76) fun S78=>
aN p0 (dR (aA prog 45 p0 14) fun t79=>
dR (aM prog 9 t79 (.str []) S78) fun S80=>
dR (aA prog 37 p3 1) fun t81=>
dR (aB prog 3 t81 S80) fun t82=>
dR (aA prog 37 p3 4) fun t83=>
dR (aB prog 3 t83 S80) fun t84=>
dR (bQ prog 37 [(0,(.int .i64 4)),(2,t82),(10,(.bool true)),(4,t84)]) fun t85=>
C 71 [p0,t85] S80 fun t86 S87=>
K (.tup []) S87))))))))))))))
noncomputable def oF (C:aT) (k:Nat) (K:KS) (p0 p3 p134:V) (S:St):An:=
aC p134 (aN p0 (dR (aA prog 45 p0 0) fun t88=>
dR (aA prog 24 t88 6) fun t89=>
dR (aB prog 22 t89 (⟨S.next+17,S.heap⟩:St)) fun t90=>
dR (aA prog 37 p3 4) fun t91=>
dR (aB prog 3 t91 (⟨S.next+17,S.heap⟩:St)) fun t92=>
aN p0 (dR (aA prog 45 p0 0) fun t93=>
dR (aA prog 24 t93 2) fun t94=>
dR (aB prog 3 t94 (⟨S.next+17,S.heap⟩:St)) fun t95=>
dR (aD prog .sub 3 t92 t95) fun t96=>
dR (eF prog 22 t90 (some t96) none) fun t97=>
dR (cD prog 22 (.nils) t97 (some (S.next+15)) (⟨S.next+17,S.heap⟩:St)) fun r98=>
oE C k K p0 p3 r98.1 r98.2))) (oE C k K p0 p3 (.nils) S)
noncomputable def aEj (C:aT) (k:Nat) (K:KS) (p0 p3:V) (S:St):An:=
aN p0 (dR (aA prog 45 p0 14) fun t27=>
dR (aB prog 9 t27 (⟨S.next+10,S.heap⟩:St)) fun t28=>
dR (bZ prog 9 t28 (⟨S.next+10,S.heap⟩:St)) fun t29=>
aN p0 (dR (aA prog 45 p0 13) fun t30=>
dR (aB prog 3 t30 (⟨S.next+10,S.heap⟩:St)) fun t31=>
dR (aD prog .lss 3 t29 t31) fun t32=>
aC t32 (dR (aA prog 37 p3 1) fun t33=>
dR (aB prog 3 t33 (⟨S.next+22,S.heap⟩:St)) fun t34=>
dR (aA prog 37 p3 4) fun t35=>
dR (aB prog 3 t35 (⟨S.next+22,S.heap⟩:St)) fun t36=>
aN p0 (dR (aA prog 45 p0 14) fun t37=>
dR (aB prog 9 t37 (⟨S.next+22,S.heap⟩:St)) fun t38=>
dR (bZ prog 9 t38 (⟨S.next+22,S.heap⟩:St)) fun t39=>
dR (bQ prog 37 [(0,(.int .i64 6)),(2,t34),(4,t36),(8,t39)]) fun t40=>
C 71 [p0,t40] (⟨S.next+22,S.heap⟩:St) fun t41 S42=>
K (.tup []) S42)) (dR (aA prog 37 p3 4) fun t99=>
dR (aB prog 3 t99 (⟨S.next+24,S.heap⟩:St)) fun t100=>
C 43 [p0] (⟨S.next+24,S.heap⟩:St) fun t101 S102=>
dR (aB prog 3 t99 S102) fun t103=>
bG (bN t100 t103) (dR (aD prog .leq 3 t100 t101) fun t104=>
aC t104 (dR (aA prog 37 p3 4) fun t105=>
dR (aB prog 3 t105 S102) fun t106=>
dR (aA prog 37 p3 5) fun t107=>
dR (aB prog 3 t107 S102) fun t108=>
C 72 [p0,t106] S102 fun t109 S110=>
dR (aB prog 3 t107 S110) fun t111=>
bG (bN t108 t111) (bG (aH prog 3 t109 t108) (dR (aD prog .eql 3 t109 t108) fun t112=>
oF C k K p0 p3 t112 S110))) (oF C k K p0 p3 (.bool false) S102)))))
noncomputable def pW (C:aT) (k:Nat) (K:KS) (p0 p3 p73:V) (S:St):An:=
aC p73 (dR (aA prog 37 p3 1) fun t20=>
dR (aB prog 3 t20 S) fun t21=>
dR (aA prog 37 p3 4) fun t22=>
dR (aB prog 3 t22 S) fun t23=>
dR (bQ prog 37 [(0,(.int .i64 6)),(2,t21),(4,t23)]) fun t24=>
C 71 [p0,t24] S fun t25 S26=>
K (.tup []) S26) (dR (aA prog 37 p3 8) fun t113=>
dR (aB prog 3 t113 (⟨S.next+8,S.heap⟩:St)) fun t114=>
aN p0 (dR (aA prog 45 p0 14) fun t115=>
dR (aB prog 9 t115 (⟨S.next+8,S.heap⟩:St)) fun t116=>
dR (bZ prog 9 t116 (⟨S.next+8,S.heap⟩:St)) fun t117=>
bG (aH prog 3 t114 t117) (dR (aD prog .eql 3 t114 t117) fun t118=>
aC t118 (aN p0 (dR (aA prog 45 p0 14) fun t119=>
dR (aB prog 9 t119 (⟨S.next+19,S.heap⟩:St)) fun t120=>
dR (aA prog 37 p3 11) fun t121=>
dR (aB prog 9 t121 (⟨S.next+19,S.heap⟩:St)) fun t122=>
dR (aD prog .add 9 t120 t122) fun t123=>
aN p0 (dR (aA prog 45 p0 14) fun t124=>
dR (aM prog 9 t124 t123 (⟨S.next+19,S.heap⟩:St)) fun S125=>
aEj C k K p0 p3 S125))) (aEj C k K p0 p3 (⟨S.next+8,S.heap⟩:St)))))
noncomputable def aEk (C:aT) (k:Nat) (K:KS) (p0 p3:V) (S:St):An:=
aN p0 (dR (aA prog 45 p0 11) fun t126=>
dR (aB prog 3 t126 (⟨S.next+25,S.heap⟩:St)) fun t127=>
dR (aA prog 37 p3 4) fun t128=>
dR (aB prog 3 t128 (⟨S.next+25,S.heap⟩:St)) fun t129=>
bG (aH prog 3 t127 t129) (dR (aD prog .neq 3 t127 t129) fun t130=>
aC t130 (pW C k K p0 p3 (.bool true) (⟨S.next+25,S.heap⟩:St)) (aN p0 (dR (aA prog 45 p0 12) fun t131=>
dR (aB prog 3 t131 (⟨S.next+25,S.heap⟩:St)) fun t132=>
dR (aA prog 37 p3 5) fun t133=>
dR (aB prog 3 t133 (⟨S.next+25,S.heap⟩:St)) fun t134=>
bG (aH prog 3 t132 t134) (dR (aD prog .neq 3 t132 t134) fun t135=>
aC t135 (pW C k K p0 p3 (.bool true) (⟨S.next+25,S.heap⟩:St)) (aN p0 (dR (aA prog 45 p0 13) fun t136=>
dR (aB prog 3 t136 (⟨S.next+25,S.heap⟩:St)) fun t137=>
dR (aA prog 37 p3 9) fun t138=>
dR (aB prog 3 t138 (⟨S.next+25,S.heap⟩:St)) fun t139=>
bG (aH prog 3 t137 t139) (dR (aD prog .neq 3 t137 t139) fun t140=>
pW C k K p0 p3 t140 (⟨S.next+25,S.heap⟩:St)))))))))
noncomputable def m78 (C:aT) (k:Nat) (a0 a1:V) (S:St) (K:KS):An:=
bG (aU (a1:V).cells) (dR (bF none S (.row 0 (a1:V).cells.length [(a1:V).cells])) fun r0=>
aN a0 (dR (aA prog 45 a0 2) fun t1=>
dR (aB prog 3 t1 r0.2) fun t2=>
bG (aH prog 3 t2 (.int .i64 3)) (dR (aD prog .eql 3 t2 (.int .i64 3)) fun t3=>
aC t3 (K (.tup []) r0.2) (dR (aA prog 37 (.ptr r0.1 0 0 0) 1) fun t4=>
dR (aB prog 3 t4 r0.2) fun t5=>
C 100 [a0,t5] r0.2 fun t6 S7=>
dR (aA prog 37 (.ptr r0.1 0 0 0) 4) fun t8=>
dR (aB prog 3 t8 (⟨S7.next+7,S7.heap⟩:St)) fun t9=>
aN a0 (dR (aA prog 45 a0 4) fun t10=>
dR (aB prog 3 t10 (⟨S7.next+7,S7.heap⟩:St)) fun t11=>
dR (aD prog .leq 3 t9 t11) fun t12=>
aC t12 (dR (aA prog 37 (.ptr r0.1 0 0 0) 1) fun t13=>
dR (aB prog 3 t13 (⟨S7.next+7,S7.heap⟩:St)) fun t14=>
dR (aA prog 37 (.ptr r0.1 0 0 0) 4) fun t15=>
dR (aB prog 3 t15 (⟨S7.next+7,S7.heap⟩:St)) fun t16=>
dR (bQ prog 37 [(0,(.int .i64 4)),(2,t14),(10,(.bool true)),(4,t16)]) fun t17=>
C 71 [a0,t17] (⟨S7.next+7,S7.heap⟩:St) fun t18 S19=>
K (.tup []) S19) (dR (aA prog 37 (.ptr r0.1 0 0 0) 8) fun t141=>
dR (aB prog 3 t141 (⟨S7.next+7,S7.heap⟩:St)) fun t142=>
bG (aH prog 3 t142 (.int .i64 0)) (dR (aD prog .eql 3 t142 (.int .i64 0)) fun t143=>
aC t143 (dR (aA prog 37 (.ptr r0.1 0 0 0) 4) fun t144=>
dR (aB prog 3 t144 (⟨S7.next+29,S7.heap⟩:St)) fun t145=>
dR (aA prog 37 (.ptr r0.1 0 0 0) 5) fun t146=>
dR (aB prog 3 t146 (⟨S7.next+29,S7.heap⟩:St)) fun t147=>
dR (aA prog 37 (.ptr r0.1 0 0 0) 9) fun t148=>
dR (aB prog 3 t148 (⟨S7.next+29,S7.heap⟩:St)) fun t149=>
aN a0 (dR (aA prog 45 a0 11) fun t150=>
dR (aM prog 3 t150 t145 (⟨S7.next+29,S7.heap⟩:St)) fun S151=>
dR (aB prog 3 t148 S151) fun t152=>
bG (bN t149 t152) (dR (aB prog 3 t146 S151) fun t153=>
bG (bN t147 t153) (aN a0 (dR (aA prog 45 a0 12) fun t154=>
dR (aM prog 3 t154 t147 S151) fun S155=>
dR (aB prog 3 t148 S155) fun t156=>
bG (bN t149 t156) (aN a0 (dR (aA prog 45 a0 13) fun t157=>
dR (aM prog 3 t157 t149 S155) fun S158=>
aN a0 (dR (aA prog 45 a0 14) fun t159=>
dR (aM prog 9 t159 (.str []) S158) fun S160=>
aEk C k K a0 (.ptr r0.1 0 0 0) S160)))))))) (aEk C k K a0 (.ptr r0.1 0 0 0) (⟨S7.next+7,S7.heap⟩:St)))))))))
theorem aTr:(fun (k:Nat) (a0 a1:V) (S:St) (K:KS)=>aE prog aW aX (k+1) 78 [a0,a1] S K)=fun k a0 a1 S K=>m78 (aE prog aW aX k) k a0 a1 S K:=by kernel_rfl
noncomputable def aEl (C:aT) (k:Nat) (K:KS) (p0 p1 p5 p6:V) (S:St):An:=
aN p0 (dR (aA prog 45 p0 4) fun t46=>
dR (aB prog 3 t46 (⟨S.next+13,S.heap⟩:St)) fun t47=>
C 72 [p0,p5] (⟨S.next+13,S.heap⟩:St) fun t48 S49=>
dR (aB prog 3 t46 S49) fun t50=>
bG (bN t47 t50) (dR (bQ prog 37 [(0,(.int .i64 3)),(2,p1),(4,p5),(5,t48),(12,p6),(6,t47)]) fun t51=>
C 71 [p0,t51] S49 fun t52 S53=>
K (.tup []) S53))
noncomputable def aEm (C:aT) (k:Nat) (K:KS) (p0 p1 p5:V) (vs:List V) (S:St) (again0:List V→St→An):An:=
gS vs fun x6 vs=>
gS vs fun x7 vs=>
C 43 [p0] S fun t55 S56=>
dR (aD prog .leq 3 x7 t55) fun t57=>
aC t57 (dR (bZ prog 22 x6 S56) fun t58=>
dR (aD prog .lss 3 t58 (.int .i64 8)) fun t59=>
aC t59 (aN p0 (dR (aA prog 45 p0 0) fun t60=>
dR (aA prog 24 t60 6) fun t61=>
dR (aB prog 22 t61 (⟨S56.next+19,S56.heap⟩:St)) fun t62=>
aN p0 (dR (aA prog 45 p0 0) fun t63=>
dR (aA prog 24 t63 2) fun t64=>
dR (aB prog 3 t64 (⟨S56.next+19,S56.heap⟩:St)) fun t65=>
dR (aD prog .sub 3 x7 t65) fun t66=>
dR (aD prog .sub 3 t66 (.int .i64 1)) fun t67=>
dR (aP prog 22 t62 t67) fun t68=>
dR (aB prog 59 t68 (⟨S56.next+19,S56.heap⟩:St)) fun t69=>
dR (bT prog 22 1 [(0,t69)] (some (S56.next+16)) (⟨S56.next+19,S56.heap⟩:St)) fun r70=>
dR (cD prog 22 x6 r70.1 (some (S56.next+17)) r70.2) fun r71=>
dR (aD prog .add 3 x7 (.int .i64 1)) fun t72=>
again0 [r71.1,t72] r71.2))) (aEl C k K p0 p1 p5 x6 S56)) (aEl C k K p0 p1 p5 x6 S56)
noncomputable def m79 (C:aT) (k:Nat) (a0 a1:V) (S:St) (K:KS):An:=
aN a0 (dR (aA prog 45 a0 8) fun t0=>
dR (aP prog 42 t0 a1) fun t1=>
dR (aB prog 3 t1 (⟨S.next+12,S.heap⟩:St)) fun t2=>
aN a0 (dR (aA prog 45 a0 0) fun t3=>
dR (aA prog 24 t3 2) fun t4=>
dR (aB prog 3 t4 (⟨S.next+12,S.heap⟩:St)) fun t5=>
dR (aD prog .leq 3 t2 t5) fun t6=>
aC t6 (aN a0 (dR (aA prog 45 a0 10) fun t7=>
dR (aP prog 42 t7 a1) fun t8=>
dR (aB prog 3 t8 (⟨S.next+27,S.heap⟩:St)) fun t9=>
dR (aD prog .add 3 t9 (.int .i64 600)) fun t10=>
aN a0 (dR (aA prog 45 a0 0) fun t11=>
dR (aA prog 24 t11 5) fun t12=>
dR (aB prog 9 t12 (⟨S.next+27,S.heap⟩:St)) fun t13=>
dR (bZ prog 9 t13 (⟨S.next+27,S.heap⟩:St)) fun t14=>
dR (uP [t10,t14]) fun t15=>
aN a0 (dR (aA prog 45 a0 0) fun t16=>
dR (aA prog 24 t16 2) fun t17=>
dR (aB prog 3 t17 (⟨S.next+71,S.heap⟩:St)) fun t18=>
aN a0 (dR (aA prog 45 a0 0) fun t19=>
dR (aA prog 24 t19 3) fun t20=>
dR (aB prog 3 t20 (⟨S.next+71,S.heap⟩:St)) fun t21=>
aN a0 (dR (aA prog 45 a0 0) fun t22=>
dR (aA prog 24 t22 4) fun t23=>
dR (aB prog 3 t23 (⟨S.next+71,S.heap⟩:St)) fun t24=>
aN a0 (dR (aA prog 45 a0 10) fun t25=>
dR (aP prog 42 t25 a1) fun t26=>
dR (aB prog 3 t26 (⟨S.next+71,S.heap⟩:St)) fun t27=>
aN a0 (dR (aA prog 45 a0 0) fun t28=>
dR (aA prog 24 t28 5) fun t29=>
dR (aB prog 9 t29 (⟨S.next+71,S.heap⟩:St)) fun t30=>
dR (bZ prog 9 t30 (⟨S.next+71,S.heap⟩:St)) fun t31=>
aN a0 (dR (aA prog 45 a0 0) fun t32=>
dR (aA prog 24 t32 5) fun t33=>
dR (aB prog 9 t33 (⟨S.next+71,S.heap⟩:St)) fun t34=>
aN a0 (dR (aA prog 45 a0 10) fun t35=>
dR (aP prog 42 t35 a1) fun t36=>
dR (aB prog 3 t36 (⟨S.next+71,S.heap⟩:St)) fun t37=>
dR (eF prog 9 t34 (some t37) (some t15)) fun t38=>
dR (bQ prog 37 [(0,(.int .i64 5)),(2,a1),(4,t18),(5,t21),(7,t24),(8,t27),(9,t31),(11,t38)]) fun t39=>
C 71 [a0,t39] (⟨S.next+71,S.heap⟩:St) fun t40 S41=>
K (.tup []) S41)))))))))) (aN a0 (dR (aA prog 45 a0 8) fun t42=>
dR (aP prog 42 t42 a1) fun t43=>
dR (aB prog 3 t43 (⟨S.next+12,S.heap⟩:St)) fun t44=>
dR (aD prog .sub 3 t44 (.int .i64 1)) fun t45=>
dR (aD prog .add 3 t45 (.int .i64 1)) fun t54=>
cQ k [(.nils),t54] (⟨S.next+12,S.heap⟩:St) (aEm C k K a0 a1 t45)))))
theorem aTs:(fun (k:Nat) (a0 a1:V) (S:St) (K:KS)=>aE prog aW aX (k+1) 79 [a0,a1] S K)=fun k a0 a1 S K=>m79 (aE prog aW aX k) k a0 a1 S K:=by kernel_rfl
noncomputable def m80 (C:aT) (k:Nat) (a0:V) (S:St) (K:KS):An:=
aN a0 (dR (aA prog 45 a0 1) fun t0=>
dR (aB prog 3 t0 (⟨S.next+11,S.heap⟩:St)) fun t1=>
aN a0 (dR (aA prog 45 a0 9) fun t2=>
C 43 [a0] (⟨S.next+11,S.heap⟩:St) fun t3 S4=>
dR (aB prog 3 t0 S4) fun t5=>
bG (bN t1 t5) (dR (aP prog 42 t2 t1) fun t6=>
dR (aM prog 3 t6 t3 S4) fun S7=>
C 98 [a0] S7 fun t8 S9=>
aN a0 (dR (aA prog 45 a0 2) fun t10=>
dR (aB prog 3 t10 S9) fun t11=>
bG (aH prog 3 t11 (.int .i64 3)) (dR (aD prog .eql 3 t11 (.int .i64 3)) fun t12=>
aC t12 (C 68 [a0] S9 fun t13 S14=>
K (.tup []) S14) (K (.tup []) S9))))))
theorem aTt:(fun (k:Nat) (a0:V) (S:St) (K:KS)=>aE prog aW aX (k+1) 80 [a0] S K)=fun k a0 S K=>m80 (aE prog aW aX k) k a0 S K:=by kernel_rfl
noncomputable def m81 (C:aT) (k:Nat) (a0 a1:V) (S:St) (K:KS):An:=
C 96 [a0] S fun t0 S1=>
aC t0 (C 96 [a1] S1 fun t2 S3=>
aC t2 (dR (aD prog .xor 3 a0 a1) fun t4=>
C 97 [t4] S3 fun t5 S6=>
bG (aH prog 3 t5 (.int .i64 1)) (dR (aD prog .eql 3 t5 (.int .i64 1)) fun t7=>
K t7 S6)) (K (.bool false) S3)) (K (.bool false) S1)
theorem aTu:(fun (k:Nat) (a0 a1:V) (S:St) (K:KS)=>aE prog aW aX (k+1) 81 [a0,a1] S K)=fun k a0 a1 S K=>m81 (aE prog aW aX k) k a0 a1 S K:=by kernel_rfl
noncomputable def aEn (C:aT) (k:Nat) (K:KS) (p0 p8 p9:V) (vs:List V) (S:St) (again0:List V→St→An):An:=
gS vs fun x3 vs=>
gS vs fun x10 vs=>
dR (aD prog .lss 3 x10 p9) fun t5=>
aC t5 (dR (aP prog 68 p8 x10) fun t6=>
dR (aB prog 3 t6 S) fun t7=>
aN p0 (dR (aA prog 88 p0 0) fun t8=>
dR (aB prog 3 t8 S) fun t9=>
bG (aH prog 3 t7 t9) (dR (aD prog .neq 3 t7 t9) fun t10=>
aC t10 (dR (bT prog 68 1 [(0,t7)] none S) fun r11=>
dR (cD prog 68 x3 r11.1 none r11.2) fun r12=>
dR (aD prog .add 3 x10 (.int .i64 1)) fun t13=>
again0 [r12.1,t13] r12.2) (dR (aD prog .add 3 x10 (.int .i64 1)) fun t14=>
again0 [x3,t14] S)))) (K x3 S)
noncomputable def m82 (C:aT) (k:Nat) (a0:V) (S:St) (K:KS):An:=
C 47 [a0] S fun t0 S1=>
C 101 [t0] S1 fun t2 S3=>
dR (bZ prog 68 t2 S3) fun t4=>
cQ k [(.nils),(.int .i64 0)] S3 (aEn C k K a0 t2 t4)
theorem aTv:(fun (k:Nat) (a0:V) (S:St) (K:KS)=>aE prog aW aX (k+1) 82 [a0] S K)=fun k a0 S K=>m82 (aE prog aW aX k) k a0 S K:=by kernel_rfl
noncomputable def m83 (C:aT) (k:Nat) (a0 a1:V) (S:St) (K:KS):An:=
aN a0 (dR (aA prog 88 a0 8) fun t0=>
dR (aP prog 85 t0 a1) fun t1=>
dR (aB prog 84 t1 S) fun t2=>
dR (bF none S (.row 0 3 [[.int .i64 0,.int .i64 0,.int .i64 0]])) fun r3=>
dR (aM prog 84 (.ptr r3.1 0 0 0) t2 r3.2) fun S4=>
dR (aA prog 84 (.ptr r3.1 0 0 0) 0) fun t5=>
dR (aB prog 3 t5 (⟨S4.next+8,S4.heap⟩:St)) fun t6=>
aN a0 (dR (aA prog 88 a0 1) fun t7=>
dR (aA prog 24 t7 2) fun t8=>
dR (aB prog 3 t8 (⟨S4.next+8,S4.heap⟩:St)) fun t9=>
dR (aD prog .leq 3 t6 t9) fun t10=>
aC t10 (aN a0 (dR (aA prog 88 a0 1) fun t11=>
dR (aA prog 24 t11 5) fun t12=>
dR (aB prog 9 t12 (⟨S4.next+17,S4.heap⟩:St)) fun t13=>
dR (aA prog 84 (.ptr r3.1 0 0 0) 2) fun t14=>
dR (aB prog 3 t14 (⟨S4.next+17,S4.heap⟩:St)) fun t15=>
dR (eF prog 9 t13 (some t15) none) fun t16=>
aN a0 (dR (aA prog 88 a0 1) fun t17=>
dR (aA prog 24 t17 2) fun t18=>
dR (aB prog 3 t18 (⟨S4.next+49,S4.heap⟩:St)) fun t19=>
aN a0 (dR (aA prog 88 a0 1) fun t20=>
dR (aA prog 24 t20 3) fun t21=>
dR (aB prog 3 t21 (⟨S4.next+49,S4.heap⟩:St)) fun t22=>
aN a0 (dR (aA prog 88 a0 1) fun t23=>
dR (aA prog 24 t23 4) fun t24=>
dR (aB prog 3 t24 (⟨S4.next+49,S4.heap⟩:St)) fun t25=>
dR (aA prog 84 (.ptr r3.1 0 0 0) 2) fun t26=>
dR (aB prog 3 t26 (⟨S4.next+49,S4.heap⟩:St)) fun t27=>
aN a0 (dR (aA prog 88 a0 1) fun t28=>
dR (aA prog 24 t28 5) fun t29=>
dR (aB prog 9 t29 (⟨S4.next+49,S4.heap⟩:St)) fun t30=>
dR (bZ prog 9 t30 (⟨S4.next+49,S4.heap⟩:St)) fun t31=>
dR (bZ prog 9 t16 (⟨S4.next+49,S4.heap⟩:St)) fun t32=>
dR (uP [t32,(.int .i64 600)]) fun t33=>
dR (eF prog 9 t16 none (some t33)) fun t34=>
dR (bQ prog 37 [(0,(.int .i64 5)),(2,a1),(4,t19),(5,t22),(7,t25),(8,t27),(9,t31),(11,t34)]) fun t35=>
C 86 [a0,t35] (⟨S4.next+49,S4.heap⟩:St) fun t36 S37=>
K (.tup []) S37)))))) (aN a0 (dR (aA prog 88 a0 1) fun t38=>
dR (aA prog 24 t38 6) fun t39=>
dR (aB prog 22 t39 (⟨S4.next+24,S4.heap⟩:St)) fun t40=>
dR (aA prog 84 (.ptr r3.1 0 0 0) 0) fun t41=>
dR (aB prog 3 t41 (⟨S4.next+24,S4.heap⟩:St)) fun t42=>
aN a0 (dR (aA prog 88 a0 1) fun t43=>
dR (aA prog 24 t43 2) fun t44=>
dR (aB prog 3 t44 (⟨S4.next+24,S4.heap⟩:St)) fun t45=>
dR (aD prog .sub 3 t42 t45) fun t46=>
dR (aD prog .sub 3 t46 (.int .i64 1)) fun t47=>
dR (eF prog 22 t40 (some t47) none) fun t48=>
dR (bZ prog 22 t48 (⟨S4.next+24,S4.heap⟩:St)) fun t49=>
dR (uP [t49,(.int .i64 8)]) fun t50=>
dR (eF prog 22 t48 none (some t50)) fun t51=>
dR (cD prog 22 (.nils) t51 none (⟨S4.next+24,S4.heap⟩:St)) fun r52=>
dR (aA prog 84 (.ptr r3.1 0 0 0) 0) fun t53=>
dR (aB prog 3 t53 (⟨r52.2.next+17,r52.2.heap⟩:St)) fun t54=>
dR (aD prog .sub 3 t54 (.int .i64 1)) fun t55=>
dR (aA prog 84 (.ptr r3.1 0 0 0) 0) fun t56=>
dR (aB prog 3 t56 (⟨r52.2.next+17,r52.2.heap⟩:St)) fun t57=>
dR (aD prog .sub 3 t57 (.int .i64 1)) fun t58=>
aN a0 (dR (aA prog 88 a0 4) fun t59=>
dR (aB prog 3 t59 (⟨r52.2.next+17,r52.2.heap⟩:St)) fun t60=>
C 62 [a0,t58] (⟨r52.2.next+17,r52.2.heap⟩:St) fun t61 S62=>
dR (aB prog 3 t59 S62) fun t63=>
bG (bN t60 t63) (dR (aB prog 3 t53 S62) fun t64=>
bG (bN t54 t64) (dR (bQ prog 37 [(0,(.int .i64 3)),(2,a1),(4,t55),(5,t61),(12,r52.1),(6,t60)]) fun t65=>
C 86 [a0,t65] S62 fun t66 S67=>
K (.tup []) S67))))))))
theorem aTw:(fun (k:Nat) (a0 a1:V) (S:St) (K:KS)=>aE prog aW aX (k+1) 83 [a0,a1] S K)=fun k a0 a1 S K=>m83 (aE prog aW aX k) k a0 a1 S K:=by kernel_rfl
noncomputable def m84 (C:aT) (k:Nat) (a0 a1:V) (S:St) (K:KS):An:=
C 92 [a0] S fun t0 S1=>
aC t0 (dR (aD prog .and 3 a0 a1) fun t2=>
C 93 [t2] S1 fun t3 S4=>
dR (aD prog .mul 3 (.int .i64 2) t3) fun t5=>
C 93 [a0] S4 fun t6 S7=>
dR (aD prog .gtr 3 t5 t6) fun t8=>
K t8 S7) (K (.bool false) S1)
theorem aTx:(fun (k:Nat) (a0 a1:V) (S:St) (K:KS)=>aE prog aW aX (k+1) 84 [a0,a1] S K)=fun k a0 a1 S K=>m84 (aE prog aW aX k) k a0 a1 S K:=by kernel_rfl
noncomputable def zX (C:aT) (k:Nat) (K:KS) (p0 p40:V) (S:St):An:=
aC p40 (aN p0 (dR (aA prog 88 p0 1) fun t17=>
dR (aA prog 24 t17 6) fun t18=>
dR (aB prog 22 t18 (⟨S.next+18,S.heap⟩:St)) fun t19=>
aN p0 (dR (aA prog 88 p0 1) fun t20=>
dR (aA prog 24 t20 0) fun t21=>
dR (aB prog 3 t21 (⟨S.next+18,S.heap⟩:St)) fun t22=>
dR (bQ prog 59 [(0,t22)]) fun t23=>
dR (bT prog 22 1 [(0,t23)] (some (S.next+12)) (⟨S.next+18,S.heap⟩:St)) fun r24=>
dR (cD prog 22 t19 r24.1 (some (S.next+13)) r24.2) fun r25=>
aN p0 (dR (aA prog 88 p0 1) fun t26=>
dR (aA prog 24 t26 6) fun t27=>
dR (aM prog 22 t27 r25.1 r25.2) fun S28=>
C 60 [p0] S28 fun t29 S30=>
K (.tup []) S30)))) (C 60 [p0] S fun t31 S32=>
K (.tup []) S32)
noncomputable def vS (C:aT) (k:Nat) (K:KS) (p0:V) (vs:List V) (S:St) (again0:List V→St→An):An:=
gS vs fun x16 vs=>
dR (aD prog .lss 3 x16 (.int .i64 7)) fun t8=>
aC t8 (aN p0 (dR (aA prog 88 p0 8) fun t9=>
C 46 [p0] (⟨S.next+10,S.heap⟩:St) fun t10 S11=>
dR (aD prog .add 3 t10 (.int .i64 1)) fun t12=>
dR (bQ prog 84 [(0,t12)]) fun t13=>
dR (aP prog 85 t9 x16) fun t14=>
dR (aM prog 84 t14 t13 S11) fun S15=>
dR (aD prog .add 3 x16 (.int .i64 1)) fun t16=>
again0 [t16] S15)) (C 46 [p0] S fun t33 S34=>
dR (aD prog .lss 3 t33 (.int .i64 1099511627776)) fun t35=>
aC t35 (aN p0 (dR (aA prog 88 p0 1) fun t36=>
dR (aA prog 24 t36 6) fun t37=>
dR (aB prog 22 t37 S34) fun t38=>
dR (bZ prog 22 t38 S34) fun t39=>
dR (aD prog .lss 3 t39 (.int .i64 200)) fun t40=>
zX C k K p0 t40 S34)) (zX C k K p0 (.bool false) S34))
noncomputable def m85 (C:aT) (k:Nat) (a0:V) (S:St) (K:KS):An:=
aN a0 (dR (aA prog 88 a0 0) fun t0=>
dR (aB prog 3 t0 S) fun t1=>
aN a0 (dR (aA prog 88 a0 2) fun t2=>
dR (aM prog 3 t2 (.int .i64 3) S) fun S3=>
aN a0 (dR (aA prog 88 a0 3) fun t4=>
dR (aM prog 3 t4 t1 S3) fun S5=>
aN a0 (dR (aA prog 88 a0 6) fun t6=>
dR (aM prog 3 t6 (.int .i64 3) S5) fun S7=>
cQ k [(.int .i64 0)] S7 (vS C k K a0)))))
theorem aTy:(fun (k:Nat) (a0:V) (S:St) (K:KS)=>aE prog aW aX (k+1) 85 [a0] S K)=fun k a0 S K=>m85 (aE prog aW aX k) k a0 S K:=by kernel_rfl
noncomputable def m86 (C:aT) (k:Nat) (a0 a1:V) (S:St) (K:KS):An:=
bG (aU (a1:V).cells) (dR (bF none S (.row 0 (a1:V).cells.length [(a1:V).cells])) fun r0=>
aN a0 (dR (aA prog 88 a0 0) fun t1=>
dR (aB prog 3 t1 (⟨r0.2.next+13,r0.2.heap⟩:St)) fun t2=>
aN a0 (dR (aA prog 88 a0 1) fun t3=>
dR (aA prog 24 t3 0) fun t4=>
dR (aB prog 3 t4 (⟨r0.2.next+13,r0.2.heap⟩:St)) fun t5=>
dR (aA prog 37 (.ptr r0.1 0 0 0) 1) fun t6=>
dR (aM prog 3 t6 t2 (⟨r0.2.next+13,r0.2.heap⟩:St)) fun S7=>
dR (aB prog 3 t4 S7) fun t8=>
bG (bN t5 t8) (dR (aA prog 37 (.ptr r0.1 0 0 0) 3) fun t9=>
dR (aM prog 3 t9 t5 S7) fun S10=>
aN a0 (dR (aA prog 88 a0 10) fun t11=>
dR (aB prog 43 t11 (⟨S10.next+11,S10.heap⟩:St)) fun t12=>
dR (aB prog 37 (.ptr r0.1 0 0 0) (⟨S10.next+11,S10.heap⟩:St)) fun t13=>
dR (bT prog 43 1 [(0,t13)] (some (S10.next+6)) (⟨S10.next+11,S10.heap⟩:St)) fun r14=>
dR (cD prog 43 t12 r14.1 (some (S10.next+7)) r14.2) fun r15=>
aN a0 (dR (aA prog 88 a0 10) fun t16=>
dR (aM prog 43 t16 r15.1 r15.2) fun S17=>
K (.tup []) S17))))))
theorem aTz:(fun (k:Nat) (a0 a1:V) (S:St) (K:KS)=>aE prog aW aX (k+1) 86 [a0,a1] S K)=fun k a0 a1 S K=>m86 (aE prog aW aX k) k a0 a1 S K:=by kernel_rfl
noncomputable def m87 (C:aT) (k:Nat) (a0:V) (S:St) (K:KS):An:=
bG (aU (a0:V).cells) (dR (bF none S (.row 0 (a0:V).cells.length [(a0:V).cells])) fun r0=>
dR (aB prog 37 (.ptr r0.1 0 0 0) r0.2) fun t1=>
C 102 [t1] r0.2 fun t2 S3=>
dR (oT .not t2) fun t4=>
aC t4 (K (.bool false) S3) (dR (aA prog 37 (.ptr r0.1 0 0 0) 1) fun t5=>
dR (aB prog 3 t5 S3) fun t6=>
C 103 [t6,(.int .i64 0),(.int .i64 6)] S3 fun t7 S8=>
dR (oT .not t7) fun t9=>
aC t9 (K (.bool false) S8) (dR (aA prog 37 (.ptr r0.1 0 0 0) 2) fun t10=>
dR (aB prog 3 t10 S8) fun t11=>
C 103 [t11,(.int .i64 0),(.int .i64 6)] S8 fun t12 S13=>
dR (oT .not t12) fun t14=>
aC t14 (K (.bool false) S13) (dR (aA prog 37 (.ptr r0.1 0 0 0) 1) fun t15=>
dR (aB prog 3 t15 S13) fun t16=>
dR (aA prog 37 (.ptr r0.1 0 0 0) 2) fun t17=>
dR (aB prog 3 t17 S13) fun t18=>
bG (aH prog 3 t16 t18) (dR (aD prog .eql 3 t16 t18) fun t19=>
aC t19 (K (.bool false) S13) (dR (aA prog 37 (.ptr r0.1 0 0 0) 3) fun t20=>
dR (aB prog 3 t20 S13) fun t21=>
C 103 [t21,(.int .i64 1),(.int .i64 1099511627776)] S13 fun t22 S23=>
dR (oT .not t22) fun t24=>
aC t24 (K (.bool false) S23) (dR (aA prog 37 (.ptr r0.1 0 0 0) 4) fun t25=>
dR (aB prog 3 t25 S23) fun t26=>
C 103 [t26,(.int .i64 0),(.int .i64 1099511627776)] S23 fun t27 S28=>
dR (oT .not t27) fun t29=>
aC t29 (K (.bool false) S28) (dR (aA prog 37 (.ptr r0.1 0 0 0) 5) fun t30=>
dR (aB prog 3 t30 S28) fun t31=>
dR (aA prog 37 (.ptr r0.1 0 0 0) 3) fun t32=>
dR (aB prog 3 t32 S28) fun t33=>
C 103 [t31,(.int .i64 0),t33] S28 fun t34 S35=>
dR (oT .not t34) fun t36=>
aC t36 (K (.bool false) S35) (dR (aA prog 37 (.ptr r0.1 0 0 0) 6) fun t37=>
dR (aB prog 3 t37 S35) fun t38=>
C 103 [t38,(.int .i64 0),(.int .i64 1099511627776)] S35 fun t39 S40=>
dR (oT .not t39) fun t41=>
aC t41 (K (.bool false) S40) (dR (aA prog 37 (.ptr r0.1 0 0 0) 0) fun t42=>
dR (aB prog 3 t42 S40) fun t43=>
bG (aH prog 3 t43 (.int .i64 1)) (dR (aD prog .eql 3 t43 (.int .i64 1)) fun t44=>
aC t44 (dR (aA prog 37 (.ptr r0.1 0 0 0) 5) fun t45=>
dR (aB prog 3 t45 S40) fun t46=>
bG (aH prog 3 t46 (.int .i64 0)) (dR (aD prog .eql 3 t46 (.int .i64 0)) fun t47=>
dR (aA prog 37 (.ptr r0.1 0 0 0) 4) fun t48=>
dR (aB prog 3 t48 S40) fun t49=>
bG (aH prog 3 t49 (.int .i64 0)) (dR (aD prog .eql 3 t49 (.int .i64 0)) fun t50=>
bG (aH prog 4 t47 t50) (dR (aD prog .eql 4 t47 t50) fun t51=>
K t51 S40)))) (bG (aH prog 3 t43 (.int .i64 3)) (dR (aD prog .eql 3 t43 (.int .i64 3)) fun t52=>
aC t52 (dR (aA prog 37 (.ptr r0.1 0 0 0) 5) fun t53=>
dR (aB prog 3 t53 S40) fun t54=>
bG (aH prog 3 t54 (.int .i64 0)) (dR (aD prog .eql 3 t54 (.int .i64 0)) fun t55=>
dR (aA prog 37 (.ptr r0.1 0 0 0) 4) fun t56=>
dR (aB prog 3 t56 S40) fun t57=>
bG (aH prog 3 t57 (.int .i64 0)) (dR (aD prog .eql 3 t57 (.int .i64 0)) fun t58=>
bG (aH prog 4 t55 t58) (dR (aD prog .eql 4 t55 t58) fun t59=>
aC t59 (dR (aB prog 37 (.ptr r0.1 0 0 0) S40) fun t60=>
C 104 [t60] S40 fun t61 S62=>
K t61 S62) (K (.bool false) S40))))) (bG (aH prog 3 t43 (.int .i64 5)) (dR (aD prog .eql 3 t43 (.int .i64 5)) fun t63=>
aC t63 (dR (aB prog 37 (.ptr r0.1 0 0 0) S40) fun t64=>
C 105 [t64] S40 fun t65 S66=>
K t65 S66) (bG (aH prog 3 t43 (.int .i64 6)) (dR (aD prog .eql 3 t43 (.int .i64 6)) fun t67=>
aC t67 (dR (aA prog 37 (.ptr r0.1 0 0 0) 4) fun t68=>
dR (aB prog 3 t68 S40) fun t69=>
bG (aH prog 3 t69 (.int .i64 0)) (dR (aD prog .neq 3 t69 (.int .i64 0)) fun t70=>
aC t70 (dR (aA prog 37 (.ptr r0.1 0 0 0) 8) fun t71=>
dR (aB prog 3 t71 S40) fun t72=>
C 103 [t72,(.int .i64 0),(.int .i64 65536)] S40 fun t73 S74=>
K t73 S74) (K (.bool false) S40))) (K (.bool true) S40))))))))))))))))))
theorem aU0:(fun (k:Nat) (a0:V) (S:St) (K:KS)=>aE prog aW aX (k+1) 87 [a0] S K)=fun k a0 S K=>m87 (aE prog aW aX k) k a0 S K:=by kernel_rfl
noncomputable def aEo (C:aT) (k:Nat) (K:KS) (p0 p3 p9 p10:V) (vs:List V) (S:St) (again0:List V→St→An):An:=
gS vs fun x4 vs=>
gS vs fun x11 vs=>
dR (aD prog .lss 3 x11 p10) fun t4=>
aC t4 (dR (aP prog 22 p9 x11) fun t5=>
dR (aB prog 59 t5 S) fun t6=>
dR (bF none S (.row 0 3 [[.int .i64 0,.int .i64 0,.str []]])) fun r7=>
dR (aM prog 59 (.ptr r7.1 0 0 0) t6 r7.2) fun S8=>
dR (aA prog 37 p3 4) fun t9=>
dR (aB prog 3 t9 S8) fun t10=>
dR (aD prog .add 3 t10 (.int .i64 1)) fun t11=>
dR (aD prog .add 3 t11 x11) fun t12=>
aN p0 (dR (aA prog 88 p0 1) fun t13=>
dR (aA prog 24 t13 2) fun t14=>
dR (aB prog 3 t14 (⟨S8.next+23,S8.heap⟩:St)) fun t15=>
dR (aD prog .geq 3 t12 t15) fun t16=>
aC t16 (aN p0 (dR (aA prog 88 p0 4) fun t17=>
dR (aB prog 3 t17 (⟨S8.next+23,S8.heap⟩:St)) fun t18=>
dR (aD prog .leq 3 t12 t18) fun t19=>
aC t19 (dR (aA prog 59 (.ptr r7.1 0 0 0) 0) fun t20=>
dR (aB prog 3 t20 (⟨S8.next+23,S8.heap⟩:St)) fun t21=>
C 62 [p0,t12] (⟨S8.next+23,S8.heap⟩:St) fun t22 S23=>
dR (aB prog 3 t20 S23) fun t24=>
bG (bN t21 t24) (bG (aH prog 3 t22 t21) (dR (aD prog .neq 3 t22 t21) fun t25=>
aC t25 (K (.bool true) S23) (dR (aD prog .add 3 x11 (.int .i64 1)) fun t26=>
again0 [x4,t26] S23)))) (dR (aD prog .add 3 x11 (.int .i64 1)) fun t27=>
again0 [x4,t27] (⟨S8.next+23,S8.heap⟩:St)))) (dR (aD prog .add 3 x11 (.int .i64 1)) fun t28=>
again0 [x4,t28] (⟨S8.next+23,S8.heap⟩:St)))) (K (.bool false) S)
noncomputable def m88 (C:aT) (k:Nat) (a0 a1:V) (S:St) (K:KS):An:=
bG (aU (a1:V).cells) (dR (bF none S (.row 0 (a1:V).cells.length [(a1:V).cells])) fun r0=>
dR (aA prog 37 (.ptr r0.1 0 0 0) 12) fun t1=>
dR (aB prog 22 t1 r0.2) fun t2=>
dR (bZ prog 22 t2 r0.2) fun t3=>
cQ k [(.bool false),(.int .i64 0)] r0.2 (aEo C k K a0 (.ptr r0.1 0 0 0) t2 t3))
theorem aU1:(fun (k:Nat) (a0 a1:V) (S:St) (K:KS)=>aE prog aW aX (k+1) 88 [a0,a1] S K)=fun k a0 a1 S K=>m88 (aE prog aW aX k) k a0 a1 S K:=by kernel_rfl
noncomputable def m89 (C:aT) (k:Nat) (a0 a1:V) (S:St) (K:KS):An:=
aN a0 (dR (aA prog 88 a0 5) fun t0=>
dR (aB prog 3 t0 S) fun t1=>
aN a0 (dR (aA prog 88 a0 2) fun t2=>
dR (aM prog 3 t2 (.int .i64 1) S) fun S3=>
aN a0 (dR (aA prog 88 a0 3) fun t4=>
dR (aM prog 3 t4 a1 S3) fun S5=>
aN a0 (dR (aA prog 88 a0 6) fun t6=>
dR (aM prog 3 t6 t1 S5) fun S7=>
K (.tup []) S7))))
theorem aU2:(fun (k:Nat) (a0 a1:V) (S:St) (K:KS)=>aE prog aW aX (k+1) 89 [a0,a1] S K)=fun k a0 a1 S K=>m89 (aE prog aW aX k) k a0 a1 S K:=by kernel_rfl
noncomputable def aIm (C:aT) (k:Nat) (K:KS) (again0:List V→St→An) (p0 p2 p3 p4 p57:V) (S:St):An:=
aC p57 (aN p0 (dR (aA prog 88 p0 4) fun t25=>
dR (aM prog 3 t25 p4 S) fun S26=>
dR (aD prog .sub 3 p4 (.int .i64 1)) fun t27=>
again0 [t27] S26)) (dR (aD prog .sub 3 p4 (.int .i64 1)) fun t28=>
again0 [t28] S)
noncomputable def sP (C:aT) (k:Nat) (K:KS) (again0:List V→St→An) (p0 p2 p3 p4 p29:V) (vs:List V) (S:St) (again1:List V→St→An):An:=
gS vs fun x5 vs=>
gS vs fun x30 vs=>
dR (aD prog .lss 3 x30 (.int .i64 7)) fun t13=>
aC t13 (dR (oZ prog 85 p29 x30) fun t14=>
dR (bF none S (.row 0 3 [[.int .i64 0,.int .i64 0,.int .i64 0]])) fun r15=>
dR (aM prog 84 (.ptr r15.1 0 0 0) t14 r15.2) fun S16=>
dR (aA prog 84 (.ptr r15.1 0 0 0) 1) fun t17=>
dR (aB prog 3 t17 S16) fun t18=>
dR (aD prog .geq 3 t18 p4) fun t19=>
aC t19 (dR (cX prog 3 96 x30 none S16) fun r20=>
dR (aD prog .shl 3 (.int .i64 1) r20.1) fun t21=>
dR (aD prog .or 3 x5 t21) fun t22=>
dR (aD prog .add 3 x30 (.int .i64 1)) fun t23=>
again1 [t22,t23] r20.2) (dR (aD prog .add 3 x30 (.int .i64 1)) fun t24=>
again1 [x5,t24] S16)) (aN p0 (dR (aA prog 88 p0 1) fun t29=>
dR (aA prog 24 t29 0) fun t30=>
dR (aB prog 3 t30 (⟨S.next+14,S.heap⟩:St)) fun t31=>
C 62 [p0,p4] (⟨S.next+14,S.heap⟩:St) fun t32 S33=>
dR (aB prog 3 t30 S33) fun t34=>
bG (bN t31 t34) (bG (aH prog 3 t32 t31) (dR (aD prog .eql 3 t32 t31) fun t35=>
aC t35 (C 84 [p2,x5] S33 fun t36 S37=>
aIm C k K again0 p0 p2 p3 p4 t36 S37) (aIm C k K again0 p0 p2 p3 p4 (.bool false) S33)))))
noncomputable def sQ (C:aT) (k:Nat) (K:KS) (p0 p2 p3:V) (vs:List V) (S:St) (again0:List V→St→An):An:=
gS vs fun x4 vs=>
aN p0 (dR (aA prog 88 p0 4) fun t8=>
dR (aB prog 3 t8 S) fun t9=>
dR (aD prog .gtr 3 x4 t9) fun t10=>
aC t10 (aN p0 (dR (aA prog 88 p0 8) fun t11=>
dR (aB prog 85 t11 S) fun t12=>
cQ k [(.int .i64 0),(.int .i64 0)] S (sP C k K again0 p0 p2 p3 x4 t12))) (aN p0 (dR (aA prog 88 p0 0) fun t38=>
dR (aB prog 3 t38 S) fun t39=>
C 50 [p2,t39] S fun t40 S41=>
dR (oT .not t40) fun t42=>
aC t42 (aN p0 (dR (aA prog 88 p0 4) fun t43=>
dR (aB prog 3 t43 S41) fun t44=>
dR (aD prog .leq 3 p3 t44) fun t45=>
aC t45 (C 106 [p0] S41 fun t46 S47=>
K (.tup []) S47) (K (.tup []) S41))) (K (.tup []) S41))))
noncomputable def m90 (C:aT) (k:Nat) (a0:V) (S:St) (K:KS):An:=
aN a0 (dR (aA prog 88 a0 1) fun t0=>
dR (aB prog 24 t0 S) fun t1=>
C 49 [t1] S fun t2 S3=>
fT t2 0 fun t4=>
fT t2 1 fun t5=>
C 46 [a0] S3 fun t6 S7=>
cQ k [t6] S7 (sQ C k K a0 t4 t5))
theorem aU3:(fun (k:Nat) (a0:V) (S:St) (K:KS)=>aE prog aW aX (k+1) 90 [a0] S K)=fun k a0 S K=>m90 (aE prog aW aX k) k a0 S K:=by kernel_rfl
noncomputable def aEp (C:aT) (k:Nat) (K:KS) (p0 p2 p4 p6:V) (S:St):An:=
dR (aA prog 37 p4 4) fun t1=>
dR (aB prog 3 t1 (⟨S.next+33,S.heap⟩:St)) fun t2=>
dR (aA prog 37 p4 5) fun t3=>
dR (aB prog 3 t3 (⟨S.next+33,S.heap⟩:St)) fun t4=>
dR (aA prog 37 p4 7) fun t5=>
dR (aB prog 3 t5 (⟨S.next+33,S.heap⟩:St)) fun t6=>
aN p0 (dR (aA prog 88 p0 1) fun t7=>
dR (aA prog 24 t7 2) fun t8=>
dR (aM prog 3 t8 t2 (⟨S.next+33,S.heap⟩:St)) fun S9=>
dR (aB prog 3 t5 S9) fun t10=>
bG (bN t6 t10) (dR (aB prog 3 t3 S9) fun t11=>
bG (bN t4 t11) (aN p0 (dR (aA prog 88 p0 1) fun t12=>
dR (aA prog 24 t12 3) fun t13=>
dR (aM prog 3 t13 t4 S9) fun S14=>
dR (aB prog 3 t5 S14) fun t15=>
bG (bN t6 t15) (aN p0 (dR (aA prog 88 p0 1) fun t16=>
dR (aA prog 24 t16 4) fun t17=>
dR (aM prog 3 t17 t6 S14) fun S18=>
aN p0 (dR (aA prog 88 p0 1) fun t19=>
dR (aA prog 24 t19 5) fun t20=>
dR (aM prog 9 t20 p2 S18) fun S21=>
aN p0 (dR (aA prog 88 p0 1) fun t22=>
dR (aA prog 24 t22 6) fun t23=>
dR (aM prog 22 t23 p6 S21) fun S24=>
dR (aA prog 37 p4 4) fun t25=>
dR (aB prog 3 t25 S24) fun t26=>
aN p0 (dR (aA prog 88 p0 4) fun t27=>
dR (aM prog 3 t27 t26 S24) fun S28=>
aN p0 (dR (aA prog 88 p0 9) fun t29=>
dR (aM prog 86 t29 (.nilp) S28) fun S30=>
K (.tup []) S30))))))))))
noncomputable def zY (C:aT) (k:Nat) (K:KS) (p0 p2 p4 p20:V) (S:St):An:=
aC p20 (aN p0 (dR (aA prog 88 p0 1) fun t31=>
dR (aA prog 24 t31 6) fun t32=>
dR (aB prog 22 t32 (⟨S.next+17,S.heap⟩:St)) fun t33=>
dR (aA prog 37 p4 4) fun t34=>
dR (aB prog 3 t34 (⟨S.next+17,S.heap⟩:St)) fun t35=>
aN p0 (dR (aA prog 88 p0 1) fun t36=>
dR (aA prog 24 t36 2) fun t37=>
dR (aB prog 3 t37 (⟨S.next+17,S.heap⟩:St)) fun t38=>
dR (aD prog .sub 3 t35 t38) fun t39=>
dR (eF prog 22 t33 (some t39) none) fun t40=>
dR (cD prog 22 (.nils) t40 (some (S.next+15)) (⟨S.next+17,S.heap⟩:St)) fun r41=>
aEp C k K p0 p2 p4 r41.1 r41.2))) (aEp C k K p0 p2 p4 (.nils) S)
noncomputable def m91 (C:aT) (k:Nat) (a0 a1 a2:V) (S:St) (K:KS):An:=
bG (aU (a1:V).cells) (dR (bF none S (.row 0 (a1:V).cells.length [(a1:V).cells])) fun r0=>
dR (aA prog 37 (.ptr r0.1 0 0 0) 4) fun t42=>
dR (aB prog 3 t42 (⟨r0.2.next+14,r0.2.heap⟩:St)) fun t43=>
C 46 [a0] (⟨r0.2.next+14,r0.2.heap⟩:St) fun t44 S45=>
dR (aB prog 3 t42 S45) fun t46=>
bG (bN t43 t46) (dR (aD prog .leq 3 t43 t44) fun t47=>
aC t47 (dR (aA prog 37 (.ptr r0.1 0 0 0) 4) fun t48=>
dR (aB prog 3 t48 S45) fun t49=>
dR (aA prog 37 (.ptr r0.1 0 0 0) 5) fun t50=>
dR (aB prog 3 t50 S45) fun t51=>
C 62 [a0,t49] S45 fun t52 S53=>
dR (aB prog 3 t50 S53) fun t54=>
bG (bN t51 t54) (bG (aH prog 3 t52 t51) (dR (aD prog .eql 3 t52 t51) fun t55=>
zY C k K a0 a2 (.ptr r0.1 0 0 0) t55 S53))) (zY C k K a0 a2 (.ptr r0.1 0 0 0) (.bool false) S45)))
theorem aU4:(fun (k:Nat) (a0 a1 a2:V) (S:St) (K:KS)=>aE prog aW aX (k+1) 91 [a0,a1,a2] S K)=fun k a0 a1 a2 S K=>m91 (aE prog aW aX k) k a0 a1 a2 S K:=by kernel_rfl
noncomputable def m92 (C:aT) (k:Nat) (a0:V) (S:St) (K:KS):An:=
dR (aD prog .geq 3 a0 (.int .i64 1)) fun t0=>
aC t0 (dR (aD prog .leq 3 a0 (.int .i64 127)) fun t1=>
K t1 S) (K (.bool false) S)
theorem aU5:(fun (k:Nat) (a0:V) (S:St) (K:KS)=>aE prog aW aX (k+1) 92 [a0] S K)=fun k a0 S K=>m92 (aE prog aW aX k) k a0 S K:=by kernel_rfl
noncomputable def m93 (C:aT) (k:Nat) (a0:V) (S:St) (K:KS):An:=
C 101 [a0] S fun t0 S1=>
dR (bZ prog 68 t0 S1) fun t2=>
K t2 S1
theorem aU6:(fun (k:Nat) (a0:V) (S:St) (K:KS)=>aE prog aW aX (k+1) 93 [a0] S K)=fun k a0 S K=>m93 (aE prog aW aX k) k a0 S K:=by kernel_rfl
noncomputable def m95 (C:aT) (k:Nat) (a0 a1 a2:V) (S:St) (K:KS):An:=
bG (aU (a0:V).cells) (dR (bF none S (.row 0 (a0:V).cells.length [(a0:V).cells])) fun r0=>
dR (aA prog 59 (.ptr r0.1 0 0 0) 0) fun t1=>
dR (aB prog 3 t1 r0.2) fun t2=>
dR (aD prog .lss 3 t2 (.int .i64 1)) fun t3=>
aC t3 (K (.bool false) r0.2) (dR (aA prog 59 (.ptr r0.1 0 0 0) 0) fun t4=>
dR (aB prog 3 t4 r0.2) fun t5=>
dR (aD prog .lss 3 t5 a1) fun t6=>
aC t6 (K (.bool false) r0.2) (dR (aA prog 59 (.ptr r0.1 0 0 0) 0) fun t7=>
dR (aB prog 3 t7 r0.2) fun t8=>
dR (aD prog .gtr 3 t8 a2) fun t9=>
aC t9 (K (.bool false) r0.2) (dR (aA prog 59 (.ptr r0.1 0 0 0) 1) fun t10=>
dR (aB prog 3 t10 r0.2) fun t11=>
dR (aD prog .lss 3 t11 (.int .i64 0)) fun t12=>
aC t12 (K (.bool false) r0.2) (dR (aA prog 59 (.ptr r0.1 0 0 0) 1) fun t13=>
dR (aB prog 3 t13 r0.2) fun t14=>
dR (aD prog .gtr 3 t14 (.int .i64 127)) fun t15=>
aC t15 (K (.bool false) r0.2) (dR (aA prog 59 (.ptr r0.1 0 0 0) 2) fun t16=>
dR (aB prog 9 t16 r0.2) fun t17=>
dR (bZ prog 9 t17 r0.2) fun t18=>
dR (aD prog .leq 3 t18 (.int .i64 1100)) fun t19=>
aC t19 (dR (aA prog 59 (.ptr r0.1 0 0 0) 1) fun t20=>
dR (aB prog 3 t20 r0.2) fun t21=>
bG (aH prog 3 t21 (.int .i64 0)) (dR (aD prog .eql 3 t21 (.int .i64 0)) fun t22=>
aC t22 (K (.bool true) r0.2) (dR (aA prog 59 (.ptr r0.1 0 0 0) 2) fun t23=>
dR (aB prog 9 t23 r0.2) fun t24=>
bG (aH prog 9 t24 (.str [])) (dR (aD prog .eql 9 t24 (.str [])) fun t25=>
K t25 r0.2)))) (K (.bool false) r0.2)))))))
theorem aU7:(fun (k:Nat) (a0 a1 a2:V) (S:St) (K:KS)=>aE prog aW aX (k+1) 95 [a0,a1,a2] S K)=fun k a0 a1 a2 S K=>m95 (aE prog aW aX k) k a0 a1 a2 S K:=by kernel_rfl
noncomputable def m96 (C:aT) (k:Nat) (a0:V) (S:St) (K:KS):An:=
dR (aD prog .geq 3 a0 (.int .i64 1)) fun t0=>
aC t0 (dR (aD prog .lss 3 a0 (.int .i64 128)) fun t1=>
K t1 S) (K (.bool false) S)
theorem aU8:(fun (k:Nat) (a0:V) (S:St) (K:KS)=>aE prog aW aX (k+1) 96 [a0] S K)=fun k a0 S K=>m96 (aE prog aW aX k) k a0 S K:=by kernel_rfl
noncomputable def aEq (C:aT) (k:Nat) (K:KS) (p0:V) (vs:List V) (S:St) (again0:List V→St→An):An:=
gS vs fun x3 vs=>
gS vs fun x4 vs=>
dR (aD prog .lss 3 x4 (.int .i64 7)) fun t0=>
aC t0 (C 30 [p0,x4] S fun t1 S2=>
aC t1 (dR (aD prog .add 3 x3 (.int .i64 1)) fun t3=>
dR (aD prog .add 3 x4 (.int .i64 1)) fun t4=>
again0 [t3,t4] S2) (dR (aD prog .add 3 x4 (.int .i64 1)) fun t5=>
again0 [x3,t5] S2)) (K x3 S)
noncomputable def m97 (C:aT) (k:Nat) (a0:V) (S:St) (K:KS):An:=
cQ k [(.int .i64 0),(.int .i64 0)] S (aEq C k K a0)
theorem aU9:(fun (k:Nat) (a0:V) (S:St) (K:KS)=>aE prog aW aX (k+1) 97 [a0] S K)=fun k a0 S K=>m97 (aE prog aW aX k) k a0 S K:=by kernel_rfl
noncomputable def zZ (C:aT) (k:Nat) (K:KS) (p0 p73:V) (S:St):An:=
aC p73 (aN p0 (dR (aA prog 45 p0 2) fun t6=>
dR (aM prog 3 t6 (.int .i64 1) S) fun S7=>
aN p0 (dR (aA prog 45 p0 3) fun t8=>
dR (aM prog 3 t8 (.int .i64 (-1)) S7) fun S9=>
aN p0 (dR (aA prog 45 p0 5) fun t10=>
dR (aB prog 3 t10 S9) fun t11=>
aN p0 (dR (aA prog 45 p0 6) fun t12=>
dR (aM prog 3 t12 t11 S9) fun S13=>
K (.tup []) S13))))) (K (.tup []) S)
noncomputable def vT (C:aT) (k:Nat) (K:KS) (p0 p2 p3:V) (S:St):An:=
aN p0 (dR (aA prog 45 p0 1) fun t14=>
dR (aB prog 3 t14 S) fun t15=>
C 30 [p2,t15] S fun t16 S17=>
dR (oT .not t16) fun t18=>
aC t18 (aN p0 (dR (aA prog 45 p0 4) fun t19=>
dR (aB prog 3 t19 S17) fun t20=>
dR (aD prog .leq 3 p3 t20) fun t21=>
zZ C k K p0 t21 S17)) (zZ C k K p0 (.bool false) S17))
noncomputable def sR (C:aT) (k:Nat) (K:KS) (again0:List V→St→An) (p0 p2 p3 p4:V) (vs:List V) (S:St) (again1:List V→St→An):An:=
gS vs fun x5 vs=>
gS vs fun x6 vs=>
dR (aD prog .lss 3 x6 (.int .i64 7)) fun t34=>
aC t34 (aN p0 (dR (aA prog 45 p0 9) fun t35=>
dR (aP prog 42 t35 x6) fun t36=>
dR (aB prog 3 t36 S) fun t37=>
dR (aD prog .geq 3 t37 p4) fun t38=>
aC t38 (dR (aD prog .shl 3 (.int .i64 1) x6) fun t39=>
dR (aD prog .or 3 x5 t39) fun t40=>
dR (aD prog .add 3 x6 (.int .i64 1)) fun t41=>
again1 [t40,t41] S) (dR (aD prog .add 3 x6 (.int .i64 1)) fun t42=>
again1 [x5,t42] S))) (C 69 [p2,x5] S fun t43 S44=>
aC t43 (aN p0 (dR (aA prog 45 p0 4) fun t45=>
dR (aM prog 3 t45 p4 S44) fun S46=>
vT C k K p0 p2 p3 S46)) (dR (aD prog .sub 3 p4 (.int .i64 1)) fun t47=>
again0 [t47] S44))
noncomputable def aEr (C:aT) (k:Nat) (K:KS) (p0 p2 p3:V) (vs:List V) (S:St) (again0:List V→St→An):An:=
gS vs fun x4 vs=>
aN p0 (dR (aA prog 45 p0 4) fun t24=>
dR (aB prog 3 t24 (⟨S.next+17,S.heap⟩:St)) fun t25=>
dR (aD prog .gtr 3 x4 t25) fun t26=>
aC t26 (aN p0 (dR (aA prog 45 p0 0) fun t27=>
dR (aA prog 24 t27 0) fun t28=>
dR (aB prog 3 t28 (⟨S.next+17,S.heap⟩:St)) fun t29=>
C 72 [p0,x4] (⟨S.next+17,S.heap⟩:St) fun t30 S31=>
dR (aB prog 3 t28 S31) fun t32=>
bG (bN t29 t32) (bG (aH prog 3 t30 t29) (dR (aD prog .eql 3 t30 t29) fun t33=>
aC t33 (cQ k [(.int .i64 0),(.int .i64 0)] S31 (sR C k K again0 p0 p2 p3 x4)) (vT C k K p0 p2 p3 S31))))) (vT C k K p0 p2 p3 (⟨S.next+17,S.heap⟩:St)))
noncomputable def m98 (C:aT) (k:Nat) (a0:V) (S:St) (K:KS):An:=
aN a0 (dR (aA prog 45 a0 0) fun t0=>
dR (aB prog 24 t0 S) fun t1=>
C 42 [t1] S fun t2 S3=>
fT t2 0 fun t4=>
fT t2 1 fun t5=>
C 43 [a0] S3 fun t22 S23=>
cQ k [t22] S23 (aEr C k K a0 t4 t5))
theorem aUa:(fun (k:Nat) (a0:V) (S:St) (K:KS)=>aE prog aW aX (k+1) 98 [a0] S K)=fun k a0 S K=>m98 (aE prog aW aX k) k a0 S K:=by kernel_rfl
noncomputable def aEs (C:aT) (k:Nat) (K:KS) (p0 p3:V) (vs:List V) (S:St) (again0:List V→St→An):An:=
gS vs fun x4 vs=>
gS vs fun x5 vs=>
dR (aA prog 37 p3 12) fun t1=>
dR (aB prog 22 t1 S) fun t2=>
dR (bZ prog 22 t2 S) fun t3=>
dR (aD prog .lss 3 x5 t3) fun t4=>
aC t4 (dR (aA prog 37 p3 4) fun t5=>
dR (aB prog 3 t5 S) fun t6=>
dR (aD prog .add 3 t6 (.int .i64 1)) fun t7=>
dR (aD prog .add 3 t7 x5) fun t8=>
aN p0 (dR (aA prog 45 p0 0) fun t9=>
dR (aA prog 24 t9 2) fun t10=>
dR (aB prog 3 t10 (⟨S.next+27,S.heap⟩:St)) fun t11=>
dR (aD prog .geq 3 t8 t11) fun t12=>
aC t12 (aN p0 (dR (aA prog 45 p0 4) fun t13=>
dR (aB prog 3 t13 (⟨S.next+27,S.heap⟩:St)) fun t14=>
dR (aD prog .leq 3 t8 t14) fun t15=>
aC t15 (dR (aA prog 37 p3 12) fun t16=>
dR (aB prog 22 t16 (⟨S.next+27,S.heap⟩:St)) fun t17=>
dR (aP prog 22 t17 x5) fun t18=>
dR (aA prog 59 t18 0) fun t19=>
dR (aB prog 3 t19 (⟨S.next+27,S.heap⟩:St)) fun t20=>
C 72 [p0,t8] (⟨S.next+27,S.heap⟩:St) fun t21 S22=>
dR (aB prog 3 t19 S22) fun t23=>
bG (bN t20 t23) (dR (aB prog 22 t16 S22) fun t24=>
bG (bN t17 t24) (bG (aH prog 3 t21 t20) (dR (aD prog .neq 3 t21 t20) fun t25=>
aC t25 (K (.bool true) S22) (dR (aD prog .add 3 x5 (.int .i64 1)) fun t26=>
again0 [x4,t26] S22))))) (dR (aD prog .add 3 x5 (.int .i64 1)) fun t27=>
again0 [x4,t27] (⟨S.next+27,S.heap⟩:St)))) (dR (aD prog .add 3 x5 (.int .i64 1)) fun t28=>
again0 [x4,t28] (⟨S.next+27,S.heap⟩:St)))) (K (.bool false) S)
noncomputable def m99 (C:aT) (k:Nat) (a0 a1:V) (S:St) (K:KS):An:=
bG (aU (a1:V).cells) (dR (bF none S (.row 0 (a1:V).cells.length [(a1:V).cells])) fun r0=>
cQ k [(.bool false),(.int .i64 0)] r0.2 (aEs C k K a0 (.ptr r0.1 0 0 0)))
theorem aUb:(fun (k:Nat) (a0 a1:V) (S:St) (K:KS)=>aE prog aW aX (k+1) 99 [a0,a1] S K)=fun k a0 a1 S K=>m99 (aE prog aW aX k) k a0 a1 S K:=by kernel_rfl
noncomputable def aPe (C:aT) (k:Nat) (a0 a1:V) (S:St) (K:KS):An:=
aN a0 (dR (aA prog 45 a0 2) fun t0=>
dR (aM prog 3 t0 (.int .i64 1) S) fun S1=>
aN a0 (dR (aA prog 45 a0 3) fun t2=>
dR (aM prog 3 t2 a1 S1) fun S3=>
aN a0 (dR (aA prog 45 a0 5) fun t4=>
dR (aB prog 3 t4 S3) fun t5=>
aN a0 (dR (aA prog 45 a0 6) fun t6=>
dR (aM prog 3 t6 t5 S3) fun S7=>
K (.tup []) S7))))
theorem aPf:(fun (k:Nat) (a0 a1:V) (S:St) (K:KS)=>aE prog aW aX (k+1) 100 [a0,a1] S K)=fun k a0 a1 S K=>aPe (aE prog aW aX k) k a0 a1 S K:=by kernel_rfl
noncomputable def xL (C:aT) (k:Nat) (K:KS) (p0:V) (vs:List V) (S:St) (again0:List V→St→An):An:=
gS vs fun x3 vs=>
gS vs fun x5 vs=>
dR (aD prog .lss 3 x5 (.int .i64 7)) fun t0=>
aC t0 (C 50 [p0,x5] S fun t1 S2=>
aC t1 (dR (bT prog 68 1 [(0,x5)] none S2) fun r3=>
dR (cD prog 68 x3 r3.1 none r3.2) fun r4=>
dR (aD prog .add 3 x5 (.int .i64 1)) fun t5=>
again0 [r4.1,t5] r4.2) (dR (aD prog .add 3 x5 (.int .i64 1)) fun t6=>
again0 [x3,t6] S2)) (K x3 S)
noncomputable def aPg (C:aT) (k:Nat) (a0:V) (S:St) (K:KS):An:=
cQ k [(.nils),(.int .i64 0)] S (xL C k K a0)
theorem aPh:(fun (k:Nat) (a0:V) (S:St) (K:KS)=>aE prog aW aX (k+1) 101 [a0] S K)=fun k a0 S K=>aPg (aE prog aW aX k) k a0 S K:=by kernel_rfl
noncomputable def aPi (C:aT) (k:Nat) (a0:V) (S:St) (K:KS):An:=
bG (aU (a0:V).cells) (dR (bF none S (.row 0 (a0:V).cells.length [(a0:V).cells])) fun r0=>
dR (aA prog 37 (.ptr r0.1 0 0 0) 0) fun t1=>
dR (aB prog 3 t1 r0.2) fun t2=>
bG (aH prog 3 t2 (.int .i64 1)) (dR (aD prog .eql 3 t2 (.int .i64 1)) fun t3=>
aC t3 (dR (aB prog 37 (.ptr r0.1 0 0 0) r0.2) fun t4=>
dR (aA prog 37 (.ptr r0.1 0 0 0) 4) fun t5=>
dR (aB prog 3 t5 r0.2) fun t6=>
dR (aA prog 37 (.ptr r0.1 0 0 0) 5) fun t7=>
dR (aB prog 3 t7 r0.2) fun t8=>
dR (bQ prog 37 [(4,t6),(5,t8)]) fun t9=>
C 107 [t4,t9] r0.2 fun t10 S11=>
K t10 S11) (bG (aH prog 3 t2 (.int .i64 2)) (dR (aD prog .eql 3 t2 (.int .i64 2)) fun t12=>
aC t12 (dR (aB prog 37 (.ptr r0.1 0 0 0) r0.2) fun t13=>
dR (aA prog 37 (.ptr r0.1 0 0 0) 10) fun t14=>
dR (aB prog 4 t14 r0.2) fun t15=>
dR (bQ prog 37 [(10,t15)]) fun t16=>
C 107 [t13,t16] r0.2 fun t17 S18=>
K t17 S18) (bG (aH prog 3 t2 (.int .i64 3)) (dR (aD prog .eql 3 t2 (.int .i64 3)) fun t19=>
aC t19 (dR (aB prog 37 (.ptr r0.1 0 0 0) r0.2) fun t20=>
dR (aA prog 37 (.ptr r0.1 0 0 0) 4) fun t21=>
dR (aB prog 3 t21 r0.2) fun t22=>
dR (aA prog 37 (.ptr r0.1 0 0 0) 5) fun t23=>
dR (aB prog 3 t23 r0.2) fun t24=>
dR (aA prog 37 (.ptr r0.1 0 0 0) 12) fun t25=>
dR (aB prog 22 t25 r0.2) fun t26=>
dR (aA prog 37 (.ptr r0.1 0 0 0) 6) fun t27=>
dR (aB prog 3 t27 r0.2) fun t28=>
dR (bQ prog 37 [(4,t22),(5,t24),(12,t26),(6,t28)]) fun t29=>
C 107 [t20,t29] r0.2 fun t30 S31=>
K t30 S31) (bG (aH prog 3 t2 (.int .i64 4)) (dR (aD prog .eql 3 t2 (.int .i64 4)) fun t32=>
aC t32 (dR (aB prog 37 (.ptr r0.1 0 0 0) r0.2) fun t33=>
dR (aA prog 37 (.ptr r0.1 0 0 0) 10) fun t34=>
dR (aB prog 4 t34 r0.2) fun t35=>
dR (aA prog 37 (.ptr r0.1 0 0 0) 4) fun t36=>
dR (aB prog 3 t36 r0.2) fun t37=>
dR (bQ prog 37 [(10,t35),(4,t37)]) fun t38=>
C 107 [t33,t38] r0.2 fun t39 S40=>
K t39 S40) (bG (aH prog 3 t2 (.int .i64 5)) (dR (aD prog .eql 3 t2 (.int .i64 5)) fun t41=>
aC t41 (dR (aB prog 37 (.ptr r0.1 0 0 0) r0.2) fun t42=>
dR (aA prog 37 (.ptr r0.1 0 0 0) 4) fun t43=>
dR (aB prog 3 t43 r0.2) fun t44=>
dR (aA prog 37 (.ptr r0.1 0 0 0) 5) fun t45=>
dR (aB prog 3 t45 r0.2) fun t46=>
dR (aA prog 37 (.ptr r0.1 0 0 0) 7) fun t47=>
dR (aB prog 3 t47 r0.2) fun t48=>
dR (aA prog 37 (.ptr r0.1 0 0 0) 8) fun t49=>
dR (aB prog 3 t49 r0.2) fun t50=>
dR (aA prog 37 (.ptr r0.1 0 0 0) 9) fun t51=>
dR (aB prog 3 t51 r0.2) fun t52=>
dR (aA prog 37 (.ptr r0.1 0 0 0) 11) fun t53=>
dR (aB prog 9 t53 r0.2) fun t54=>
dR (bQ prog 37 [(4,t44),(5,t46),(7,t48),(8,t50),(9,t52),(11,t54)]) fun t55=>
C 107 [t42,t55] r0.2 fun t56 S57=>
K t56 S57) (bG (aH prog 3 t2 (.int .i64 6)) (dR (aD prog .eql 3 t2 (.int .i64 6)) fun t58=>
aC t58 (dR (aB prog 37 (.ptr r0.1 0 0 0) r0.2) fun t59=>
dR (aA prog 37 (.ptr r0.1 0 0 0) 4) fun t60=>
dR (aB prog 3 t60 r0.2) fun t61=>
dR (aA prog 37 (.ptr r0.1 0 0 0) 8) fun t62=>
dR (aB prog 3 t62 r0.2) fun t63=>
dR (bQ prog 37 [(4,t61),(8,t63)]) fun t64=>
C 107 [t59,t64] r0.2 fun t65 S66=>
K t65 S66) (K (.bool false) r0.2)))))))))))))
theorem aPj:(fun (k:Nat) (a0:V) (S:St) (K:KS)=>aE prog aW aX (k+1) 102 [a0] S K)=fun k a0 S K=>aPi (aE prog aW aX k) k a0 S K:=by kernel_rfl
noncomputable def aPk (C:aT) (k:Nat) (a0 a1 a2:V) (S:St) (K:KS):An:=
dR (aD prog .geq 3 a0 a1) fun t0=>
aC t0 (dR (aD prog .leq 3 a0 a2) fun t1=>
K t1 S) (K (.bool false) S)
theorem aPl:(fun (k:Nat) (a0 a1 a2:V) (S:St) (K:KS)=>aE prog aW aX (k+1) 103 [a0,a1,a2] S K)=fun k a0 a1 a2 S K=>aPk (aE prog aW aX k) k a0 a1 a2 S K:=by kernel_rfl
noncomputable def aPm (C:aT) (k:Nat) (a0:V) (S:St) (K:KS):An:=
bG (aU (a0:V).cells) (dR (bF none S (.row 0 (a0:V).cells.length [(a0:V).cells])) fun r0=>
dR (aA prog 37 (.ptr r0.1 0 0 0) 12) fun t1=>
dR (aB prog 22 t1 r0.2) fun t2=>
dR (bZ prog 22 t2 r0.2) fun t3=>
dR (aD prog .gtr 3 t3 (.int .i64 8)) fun t4=>
aC t4 (K (.bool false) r0.2) (dR (aA prog 37 (.ptr r0.1 0 0 0) 12) fun t5=>
dR (aB prog 22 t5 r0.2) fun t6=>
dR (bZ prog 22 t6 r0.2) fun t7=>
dR (aA prog 37 (.ptr r0.1 0 0 0) 4) fun t8=>
dR (aB prog 3 t8 r0.2) fun t9=>
dR (aD prog .sub 3 (.int .i64 1099511627776) t9) fun t10=>
dR (aD prog .gtr 3 t7 t10) fun t11=>
aC t11 (K (.bool false) r0.2) (dR (aA prog 37 (.ptr r0.1 0 0 0) 3) fun t12=>
dR (aB prog 3 t12 r0.2) fun t13=>
dR (aA prog 37 (.ptr r0.1 0 0 0) 4) fun t14=>
dR (aB prog 3 t14 r0.2) fun t15=>
dR (aA prog 37 (.ptr r0.1 0 0 0) 5) fun t16=>
dR (aB prog 3 t16 r0.2) fun t17=>
dR (aA prog 37 (.ptr r0.1 0 0 0) 12) fun t18=>
dR (aB prog 22 t18 r0.2) fun t19=>
dR (bQ prog 24 [(0,t13),(1,(.int .i64 (-1))),(2,t15),(3,t17),(4,(.int .i64 1)),(6,t19)]) fun t20=>
dR (bF none r0.2 (.row 0 7 [[.int .i64 0,.int .i64 0,.int .i64 0,.int .i64 0,.int .i64 0,.str [],.nils]])) fun r21=>
dR (aM prog 24 (.ptr r21.1 0 0 0) t20 r21.2) fun S22=>
dR (aA prog 37 (.ptr r0.1 0 0 0) 4) fun t23=>
dR (aB prog 3 t23 S22) fun t24=>
dR (aD prog .gtr 3 t24 (.int .i64 0)) fun t25=>
aC t25 (dR (aA prog 24 (.ptr r21.1 0 0 0) 5) fun t26=>
dR (aM prog 9 t26 (.str [115]) S22) fun S27=>
dR (aB prog 24 (.ptr r21.1 0 0 0) S27) fun t28=>
C 33 [t28] S27 fun t29 S30=>
K t29 S30) (dR (aB prog 24 (.ptr r21.1 0 0 0) S22) fun t31=>
C 33 [t31] S22 fun t32 S33=>
K t32 S33))))
theorem aPn:(fun (k:Nat) (a0:V) (S:St) (K:KS)=>aE prog aW aX (k+1) 104 [a0] S K)=fun k a0 S K=>aPm (aE prog aW aX k) k a0 S K:=by kernel_rfl
noncomputable def aPo (C:aT) (k:Nat) (a0:V) (S:St) (K:KS):An:=
bG (aU (a0:V).cells) (dR (bF none S (.row 0 (a0:V).cells.length [(a0:V).cells])) fun r0=>
dR (aA prog 37 (.ptr r0.1 0 0 0) 4) fun t1=>
dR (aB prog 3 t1 r0.2) fun t2=>
bG (aH prog 3 t2 (.int .i64 0)) (dR (aD prog .eql 3 t2 (.int .i64 0)) fun t3=>
aC t3 (K (.bool false) r0.2) (dR (aA prog 37 (.ptr r0.1 0 0 0) 5) fun t4=>
dR (aB prog 3 t4 r0.2) fun t5=>
bG (aH prog 3 t5 (.int .i64 0)) (dR (aD prog .eql 3 t5 (.int .i64 0)) fun t6=>
aC t6 (K (.bool false) r0.2) (dR (aA prog 37 (.ptr r0.1 0 0 0) 7) fun t7=>
dR (aB prog 3 t7 r0.2) fun t8=>
C 103 [t8,(.int .i64 1),(.int .i64 127)] r0.2 fun t9 S10=>
dR (oT .not t9) fun t11=>
aC t11 (K (.bool false) S10) (dR (aA prog 37 (.ptr r0.1 0 0 0) 9) fun t12=>
dR (aB prog 3 t12 S10) fun t13=>
C 103 [t13,(.int .i64 1),(.int .i64 65536)] S10 fun t14 S15=>
dR (oT .not t14) fun t16=>
aC t16 (K (.bool false) S15) (dR (aA prog 37 (.ptr r0.1 0 0 0) 8) fun t17=>
dR (aB prog 3 t17 S15) fun t18=>
dR (aA prog 37 (.ptr r0.1 0 0 0) 9) fun t19=>
dR (aB prog 3 t19 S15) fun t20=>
dR (aD prog .sub 3 t20 (.int .i64 1)) fun t21=>
C 103 [t18,(.int .i64 0),t21] S15 fun t22 S23=>
dR (oT .not t22) fun t24=>
aC t24 (K (.bool false) S23) (dR (aA prog 37 (.ptr r0.1 0 0 0) 11) fun t25=>
dR (aB prog 9 t25 S23) fun t26=>
dR (bZ prog 9 t26 S23) fun t27=>
dR (aD prog .geq 3 t27 (.int .i64 1)) fun t28=>
aC t28 (dR (aA prog 37 (.ptr r0.1 0 0 0) 11) fun t29=>
dR (aB prog 9 t29 S23) fun t30=>
dR (bZ prog 9 t30 S23) fun t31=>
dR (aD prog .leq 3 t31 (.int .i64 600)) fun t32=>
aC t32 (dR (aA prog 37 (.ptr r0.1 0 0 0) 11) fun t33=>
dR (aB prog 9 t33 S23) fun t34=>
dR (bZ prog 9 t34 S23) fun t35=>
dR (aA prog 37 (.ptr r0.1 0 0 0) 9) fun t36=>
dR (aB prog 3 t36 S23) fun t37=>
dR (aA prog 37 (.ptr r0.1 0 0 0) 8) fun t38=>
dR (aB prog 3 t38 S23) fun t39=>
dR (aD prog .sub 3 t37 t39) fun t40=>
dR (aD prog .leq 3 t35 t40) fun t41=>
K t41 S23) (K (.bool false) S23)) (K (.bool false) S23)))))))))
theorem aPp:(fun (k:Nat) (a0:V) (S:St) (K:KS)=>aE prog aW aX (k+1) 105 [a0] S K)=fun k a0 S K=>aPo (aE prog aW aX k) k a0 S K:=by kernel_rfl
noncomputable def aPq (C:aT) (k:Nat) (a0:V) (S:St) (K:KS):An:=
aN a0 (dR (aA prog 88 a0 5) fun t0=>
dR (aB prog 3 t0 S) fun t1=>
aN a0 (dR (aA prog 88 a0 2) fun t2=>
dR (aM prog 3 t2 (.int .i64 1) S) fun S3=>
aN a0 (dR (aA prog 88 a0 3) fun t4=>
dR (aM prog 3 t4 (.int .i64 (-1)) S3) fun S5=>
aN a0 (dR (aA prog 88 a0 6) fun t6=>
dR (aM prog 3 t6 t1 S5) fun S7=>
K (.tup []) S7))))
theorem aPr:(fun (k:Nat) (a0:V) (S:St) (K:KS)=>aE prog aW aX (k+1) 106 [a0] S K)=fun k a0 S K=>aPq (aE prog aW aX k) k a0 S K:=by kernel_rfl
noncomputable def aPs (C:aT) (k:Nat) (a0 a1:V) (S:St) (K:KS):An:=
bG (aU (a0:V).cells) (dR (bF none S (.row 0 (a0:V).cells.length [(a0:V).cells])) fun r0=>
bG (aU (a1:V).cells) (dR (bF none r0.2 (.row 0 (a1:V).cells.length [(a1:V).cells])) fun r1=>
dR (aA prog 37 (.ptr r0.1 0 0 0) 12) fun t2=>
dR (aB prog 22 t2 r1.2) fun t3=>
dR (bZ prog 22 t3 r1.2) fun t4=>
dR (aA prog 37 (.ptr r1.1 0 0 0) 12) fun t5=>
dR (aB prog 22 t5 r1.2) fun t6=>
dR (bZ prog 22 t6 r1.2) fun t7=>
bG (aH prog 3 t4 t7) (dR (aD prog .neq 3 t4 t7) fun t8=>
aC t8 (K (.bool false) r1.2) (dR (aA prog 37 (.ptr r0.1 0 0 0) 4) fun t9=>
dR (aB prog 3 t9 r1.2) fun t10=>
dR (aA prog 37 (.ptr r1.1 0 0 0) 4) fun t11=>
dR (aB prog 3 t11 r1.2) fun t12=>
bG (aH prog 3 t10 t12) (dR (aD prog .eql 3 t10 t12) fun t13=>
aC t13 (dR (aA prog 37 (.ptr r0.1 0 0 0) 5) fun t14=>
dR (aB prog 3 t14 r1.2) fun t15=>
dR (aA prog 37 (.ptr r1.1 0 0 0) 5) fun t16=>
dR (aB prog 3 t16 r1.2) fun t17=>
bG (aH prog 3 t15 t17) (dR (aD prog .eql 3 t15 t17) fun t18=>
aC t18 (dR (aA prog 37 (.ptr r0.1 0 0 0) 6) fun t19=>
dR (aB prog 3 t19 r1.2) fun t20=>
dR (aA prog 37 (.ptr r1.1 0 0 0) 6) fun t21=>
dR (aB prog 3 t21 r1.2) fun t22=>
bG (aH prog 3 t20 t22) (dR (aD prog .eql 3 t20 t22) fun t23=>
aC t23 (dR (aA prog 37 (.ptr r0.1 0 0 0) 7) fun t24=>
dR (aB prog 3 t24 r1.2) fun t25=>
dR (aA prog 37 (.ptr r1.1 0 0 0) 7) fun t26=>
dR (aB prog 3 t26 r1.2) fun t27=>
bG (aH prog 3 t25 t27) (dR (aD prog .eql 3 t25 t27) fun t28=>
aC t28 (dR (aA prog 37 (.ptr r0.1 0 0 0) 8) fun t29=>
dR (aB prog 3 t29 r1.2) fun t30=>
dR (aA prog 37 (.ptr r1.1 0 0 0) 8) fun t31=>
dR (aB prog 3 t31 r1.2) fun t32=>
bG (aH prog 3 t30 t32) (dR (aD prog .eql 3 t30 t32) fun t33=>
aC t33 (dR (aA prog 37 (.ptr r0.1 0 0 0) 9) fun t34=>
dR (aB prog 3 t34 r1.2) fun t35=>
dR (aA prog 37 (.ptr r1.1 0 0 0) 9) fun t36=>
dR (aB prog 3 t36 r1.2) fun t37=>
bG (aH prog 3 t35 t37) (dR (aD prog .eql 3 t35 t37) fun t38=>
aC t38 (dR (aA prog 37 (.ptr r0.1 0 0 0) 10) fun t39=>
dR (aB prog 4 t39 r1.2) fun t40=>
dR (aA prog 37 (.ptr r1.1 0 0 0) 10) fun t41=>
dR (aB prog 4 t41 r1.2) fun t42=>
bG (aH prog 4 t40 t42) (dR (aD prog .eql 4 t40 t42) fun t43=>
aC t43 (dR (aA prog 37 (.ptr r0.1 0 0 0) 11) fun t44=>
dR (aB prog 9 t44 r1.2) fun t45=>
dR (aA prog 37 (.ptr r1.1 0 0 0) 11) fun t46=>
dR (aB prog 9 t46 r1.2) fun t47=>
bG (aH prog 9 t45 t47) (dR (aD prog .eql 9 t45 t47) fun t48=>
K t48 r1.2)) (K (.bool false) r1.2))) (K (.bool false) r1.2))) (K (.bool false) r1.2))) (K (.bool false) r1.2))) (K (.bool false) r1.2))) (K (.bool false) r1.2))) (K (.bool false) r1.2))))))
theorem aPt:(fun (k:Nat) (a0 a1:V) (S:St) (K:KS)=>aE prog aW aX (k+1) 107 [a0,a1] S K)=fun k a0 a1 S K=>aPs (aE prog aW aX k) k a0 a1 S K:=by kernel_rfl
theorem kR (s x:V) (fr:Option Nat) (S:St):cD prog 22 s x fr S=gP 3 32 s x fr S:=lS (by kernel_rfl) s x fr S
theorem aR7 (s x:V) (fr:Option Nat) (S:St):cD prog 43 s x fr S=gP 13 128 s x fr S:=lS (by kernel_rfl) s x fr S
theorem aR8 (s x:V) (fr:Option Nat) (S:St):cD prog 68 s x fr S=gP 1 8 s x fr S:=lS (by kernel_rfl) s x fr S
theorem aVx (s x:V) (fr:Option Nat) (S:St):cD prog 74 s x fr S=gP 1 1 s x fr S:=lS (by kernel_rfl) s x fr S
theorem aVy (parts:List (Nat×V)):bQ prog 102 parts=dX [.int .i64 0,.int .i64 0,.int .i64 0,.nils] [(0,1),(1,1),(2,1),(3,1)] parts:=iO (by kernel_rfl) parts
theorem aVz (parts:List (Nat×V)):bQ prog 24 parts=dX [.int .i64 0,.int .i64 0,.int .i64 0,.int .i64 0,.int .i64 0,.str [],.nils] [(0,1),(1,1),(2,1),(3,1),(4,1),(5,1),(6,1)] parts:=iO (by kernel_rfl) parts
theorem jB (parts:List (Nat×V)):bQ prog 37 parts=dX [.int .i64 0,.int .i64 0,.int .i64 0,.int .i64 0,.int .i64 0,.int .i64 0,.int .i64 0,.int .i64 0,.int .i64 0,.int .i64 0,.bool false,.str [],.nils] [(0,1),(1,1),(2,1),(3,1),(4,1),(5,1),(6,1),(7,1),(8,1),(9,1),(10,1),(11,1),(12,1)] parts:=iO (by kernel_rfl) parts
theorem aZp (parts:List (Nat×V)):bQ prog 45 parts=dX [.int .i64 0,.int .i64 0,.int .i64 0,.int .i64 0,.int .i64 0,.str [],.nils,.int .i64 0,.int .i64 0,.int .i64 0,.int .i64 0,.int .i64 0,.int .i64 0,.int .i64 0,.int .i64 0,.int .i64 0,.int .i64 0,.int .i64 0,.int .i64 0,.int .i64 0,.int .i64 0,.int .i64 0,.int .i64 0,.int .i64 0,.int .i64 0,.int .i64 0,.int .i64 0,.int .i64 0,.int .i64 0,.int .i64 0,.int .i64 0,.int .i64 0,.int .i64 0,.int .i64 0,.int .i64 0,.int .i64 0,.int .i64 0,.int .i64 0,.str [],.nils] [(0,7),(7,1),(8,1),(9,1),(10,1),(11,1),(12,1),(13,1),(14,7),(21,7),(28,7),(35,1),(36,1),(37,1),(38,1),(39,1)] parts:=iO (by kernel_rfl) parts
theorem aZq (parts:List (Nat×V)):bQ prog 50 parts=dX [.int .i64 0,.int .i64 0,.int .i64 0,.int .i64 0,.int .i64 0,.int .i64 0] [(0,1),(1,1),(2,1),(3,1),(4,1),(5,1)] parts:=iO (by kernel_rfl) parts
theorem aLp (parts:List (Nat×V)):bQ prog 59 parts=dX [.int .i64 0,.int .i64 0,.str []] [(0,1),(1,1),(2,1)] parts:=iO (by kernel_rfl) parts
theorem aUc (parts:List (Nat×V)):bQ prog 84 parts=dX [.int .i64 0,.int .i64 0,.int .i64 0] [(0,1),(1,1),(2,1)] parts:=iO (by kernel_rfl) parts
theorem aZr (parts:List (Nat×V)):bQ prog 88 parts=dX [.int .i64 0,.int .i64 0,.int .i64 0,.int .i64 0,.int .i64 0,.int .i64 0,.str [],.nils,.int .i64 0,.int .i64 0,.int .i64 0,.int .i64 0,.int .i64 0,.int .i64 0,.int .i64 0,.int .i64 0,.int .i64 0,.int .i64 0,.int .i64 0,.int .i64 0,.int .i64 0,.int .i64 0,.int .i64 0,.int .i64 0,.int .i64 0,.int .i64 0,.int .i64 0,.int .i64 0,.int .i64 0,.int .i64 0,.int .i64 0,.int .i64 0,.int .i64 0,.int .i64 0,.int .i64 0,.nilp,.nils] [(0,1),(1,7),(8,1),(9,1),(10,1),(11,1),(12,1),(13,1),(14,21),(35,1),(36,1)] parts:=iO (by kernel_rfl) parts
theorem aA0 (len:Nat) (parts:List (Nat×V)) (fr:Option Nat) (S:St):bT prog 22 len parts fr S=cK 3 [.int .i64 0,.int .i64 0,.str []] len parts fr S:=lR (by kernel_rfl) len parts fr S
theorem aW0 (len:Nat) (parts:List (Nat×V)) (fr:Option Nat) (S:St):bT prog 43 len parts fr S=cK 13 [.int .i64 0,.int .i64 0,.int .i64 0,.int .i64 0,.int .i64 0,.int .i64 0,.int .i64 0,.int .i64 0,.int .i64 0,.int .i64 0,.bool false,.str [],.nils] len parts fr S:=lR (by kernel_rfl) len parts fr S
theorem aW1 (len:Nat) (parts:List (Nat×V)) (fr:Option Nat) (S:St):bT prog 68 len parts fr S=cK 1 [.int .i64 0] len parts fr S:=lR (by kernel_rfl) len parts fr S
theorem aEt (j:IntKind) (n:Int) (fr:Option Nat) (S:St):cX prog 3 96 (.int j n) fr S=.ok (.int .u64 (wr .u64 n),S):=aGo (by kernel_rfl) j n fr S
theorem aW2:(fun (a_0:Int) (a_1:Int) (a_2:Int) (a_3:Int) (a_4:Int) (a_5:Int) (b_0:Int) (b_1:Int) (b_2:Int) (b_3:Int) (b_4:Int) (b_5:Int)=>eqT prog 100 50 (.agg [.int .i64 a_0,.int .i64 a_1,.int .i64 a_2,.int .i64 a_3,.int .i64 a_4,.int .i64 a_5]) (.agg [.int .i64 b_0,.int .i64 b_1,.int .i64 b_2,.int .i64 b_3,.int .i64 b_4,.int .i64 b_5]))=fun a_0 a_1 a_2 a_3 a_4 a_5 b_0 b_1 b_2 b_3 b_4 b_5=>(aBf (.ok (decide (a_0=b_0))) (aBf (.ok (decide (a_1=b_1))) (aBf (.ok (decide (a_2=b_2))) (aBf (.ok (decide (a_3=b_3))) (aBf (.ok (decide (a_4=b_4))) (aBf (.ok (decide (a_5=b_5))) (.ok true))))))):=by kernel_rfl
theorem aZs (a_0:Int) (a_1:Int) (a_2:Int) (a_3:Int) (a_4:Int) (a_5:Int) (b_0:Int) (b_1:Int) (b_2:Int) (b_3:Int) (b_4:Int) (b_5:Int):eqT prog 100 50 (.agg [.int .i64 a_0,.int .i64 a_1,.int .i64 a_2,.int .i64 a_3,.int .i64 a_4,.int .i64 a_5]) (.agg [.int .i64 b_0,.int .i64 b_1,.int .i64 b_2,.int .i64 b_3,.int .i64 b_4,.int .i64 b_5])=.ok (decide (a_0=b_0)&&decide (a_1=b_1)&&decide (a_2=b_2)&&decide (a_3=b_3)&&decide (a_4=b_4)&&decide (a_5=b_5)):=by
 refine (congrFun (congrFun (congrFun (congrFun (congrFun (congrFun (congrFun (congrFun (congrFun (congrFun (congrFun (congrFun aW2 a_0) a_1) a_2) a_3) a_4) a_5) b_0) b_1) b_2) b_3) b_4) b_5).trans ?_
 simp only [aK4,hZ,Bool.and_true,Bool.and_assoc]
theorem aZt:(fun a b=>aH prog 50 (.agg a) (.agg b))=fun _ _=>true:=by kernel_rfl
theorem aW3:(fun (a_0:Int) (a_1:Int) (a_2:List UInt8) (b_0:Int) (b_1:Int) (b_2:List UInt8)=>eqT prog 100 59 (.agg [.int .i64 a_0,.int .i64 a_1,.str a_2]) (.agg [.int .i64 b_0,.int .i64 b_1,.str b_2]))=fun a_0 a_1 a_2 b_0 b_1 b_2=>(aBf (.ok (decide (a_0=b_0))) (aBf (.ok (decide (a_1=b_1))) (aBf (.ok (wU a_2 b_2)) (.ok true)))):=by kernel_rfl
theorem aZu (a_0:Int) (a_1:Int) (a_2:List UInt8) (b_0:Int) (b_1:Int) (b_2:List UInt8):eqT prog 100 59 (.agg [.int .i64 a_0,.int .i64 a_1,.str a_2]) (.agg [.int .i64 b_0,.int .i64 b_1,.str b_2])=.ok (decide (a_0=b_0)&&decide (a_1=b_1)&&(a_2 == b_2)):=by
 refine (congrFun (congrFun (congrFun (congrFun (congrFun (congrFun aW3 a_0) a_1) a_2) b_0) b_1) b_2).trans ?_
 simp only [aK4,hZ,Bool.and_true,Bool.and_assoc]
theorem aZv:(fun a b=>aH prog 59 (.agg a) (.agg b))=fun _ _=>true:=by kernel_rfl
theorem aPu (p:V):aA prog 102 p 0=advW 0 p:=aQ (by kernel_rfl) p
theorem aPv (p:V):aA prog 102 p 1=advW 1 p:=aQ (by kernel_rfl) p
theorem aK7 (p:V):aA prog 102 p 2=advW 2 p:=aQ (by kernel_rfl) p
theorem aK8 (p:V):aA prog 102 p 3=advW 3 p:=aQ (by kernel_rfl) p
theorem eO (p:V):aA prog 24 p 0=advW 0 p:=aQ (by kernel_rfl) p
theorem kM (p:V):aA prog 24 p 1=advW 1 p:=aQ (by kernel_rfl) p
theorem dM (p:V):aA prog 24 p 2=advW 2 p:=aQ (by kernel_rfl) p
theorem mX (p:V):aA prog 24 p 3=advW 3 p:=aQ (by kernel_rfl) p
theorem mY (p:V):aA prog 24 p 4=advW 4 p:=aQ (by kernel_rfl) p
theorem kN (p:V):aA prog 24 p 5=advW 5 p:=aQ (by kernel_rfl) p
theorem cO (p:V):aA prog 24 p 6=advW 6 p:=aQ (by kernel_rfl) p
theorem lT (p:V):aA prog 37 p 0=advW 0 p:=aQ (by kernel_rfl) p
theorem cW (p:V):aA prog 37 p 1=advW 1 p:=aQ (by kernel_rfl) p
theorem jY (p:V):aA prog 37 p 10=advW 10 p:=aQ (by kernel_rfl) p
theorem kY (p:V):aA prog 37 p 11=advW 11 p:=aQ (by kernel_rfl) p
theorem eV (p:V):aA prog 37 p 12=advW 12 p:=aQ (by kernel_rfl) p
theorem vU (p:V):aA prog 37 p 2=advW 2 p:=aQ (by kernel_rfl) p
theorem kO (p:V):aA prog 37 p 3=advW 3 p:=aQ (by kernel_rfl) p
theorem cI (p:V):aA prog 37 p 4=advW 4 p:=aQ (by kernel_rfl) p
theorem fE (p:V):aA prog 37 p 5=advW 5 p:=aQ (by kernel_rfl) p
theorem oG (p:V):aA prog 37 p 6=advW 6 p:=aQ (by kernel_rfl) p
theorem pX (p:V):aA prog 37 p 7=advW 7 p:=aQ (by kernel_rfl) p
theorem iK (p:V):aA prog 37 p 8=advW 8 p:=aQ (by kernel_rfl) p
theorem mZ (p:V):aA prog 37 p 9=advW 9 p:=aQ (by kernel_rfl) p
theorem aNo (p:V):aA prog 40 p 0=advW 0 p:=aQ (by kernel_rfl) p
theorem aIn (p:V):aA prog 40 p 1=advW 1 p:=aQ (by kernel_rfl) p
theorem aEu (p:V):aA prog 40 p 2=advW 2 p:=aQ (by kernel_rfl) p
theorem aEv (p:V):aA prog 40 p 3=advW 15 p:=aQ (by kernel_rfl) p
theorem dI (p:V):aA prog 45 p 0=advW 0 p:=aQ (by kernel_rfl) p
theorem lU (p:V):aA prog 45 p 1=advW 7 p:=aQ (by kernel_rfl) p
theorem oH (p:V):aA prog 45 p 10=advW 28 p:=aQ (by kernel_rfl) p
theorem aEw (p:V):aA prog 45 p 11=advW 35 p:=aQ (by kernel_rfl) p
theorem aEx (p:V):aA prog 45 p 12=advW 36 p:=aQ (by kernel_rfl) p
theorem xM (p:V):aA prog 45 p 13=advW 37 p:=aQ (by kernel_rfl) p
theorem xN (p:V):aA prog 45 p 14=advW 38 p:=aQ (by kernel_rfl) p
theorem aK9 (p:V):aA prog 45 p 15=advW 39 p:=aQ (by kernel_rfl) p
theorem gQ (p:V):aA prog 45 p 2=advW 8 p:=aQ (by kernel_rfl) p
theorem sS (p:V):aA prog 45 p 3=advW 9 p:=aQ (by kernel_rfl) p
theorem jP (p:V):aA prog 45 p 4=advW 10 p:=aQ (by kernel_rfl) p
theorem aA1 (p:V):aA prog 45 p 5=advW 11 p:=aQ (by kernel_rfl) p
theorem oI (p:V):aA prog 45 p 6=advW 12 p:=aQ (by kernel_rfl) p
theorem aNp (p:V):aA prog 45 p 7=advW 13 p:=aQ (by kernel_rfl) p
theorem vV (p:V):aA prog 45 p 8=advW 14 p:=aQ (by kernel_rfl) p
theorem sT (p:V):aA prog 45 p 9=advW 21 p:=aQ (by kernel_rfl) p
theorem jQ (p:V):aA prog 59 p 0=advW 0 p:=aQ (by kernel_rfl) p
theorem aEy (p:V):aA prog 59 p 1=advW 1 p:=aQ (by kernel_rfl) p
theorem aEz (p:V):aA prog 59 p 2=advW 2 p:=aQ (by kernel_rfl) p
theorem aF0 (p:V):aA prog 84 p 0=advW 0 p:=aQ (by kernel_rfl) p
theorem aA2 (p:V):aA prog 84 p 1=advW 1 p:=aQ (by kernel_rfl) p
theorem aIo (p:V):aA prog 84 p 2=advW 2 p:=aQ (by kernel_rfl) p
theorem oJ (p:V):aA prog 88 p 0=advW 0 p:=aQ (by kernel_rfl) p
theorem dV (p:V):aA prog 88 p 1=advW 1 p:=aQ (by kernel_rfl) p
theorem aKa (p:V):aA prog 88 p 10=advW 36 p:=aQ (by kernel_rfl) p
theorem hJ (p:V):aA prog 88 p 2=advW 8 p:=aQ (by kernel_rfl) p
theorem sU (p:V):aA prog 88 p 3=advW 9 p:=aQ (by kernel_rfl) p
theorem jC (p:V):aA prog 88 p 4=advW 10 p:=aQ (by kernel_rfl) p
theorem aA3 (p:V):aA prog 88 p 5=advW 11 p:=aQ (by kernel_rfl) p
theorem oK (p:V):aA prog 88 p 6=advW 12 p:=aQ (by kernel_rfl) p
theorem aNq (p:V):aA prog 88 p 7=advW 13 p:=aQ (by kernel_rfl) p
theorem pY (p:V):aA prog 88 p 8=advW 14 p:=aQ (by kernel_rfl) p
theorem aF1 (p:V):aA prog 88 p 9=advW 35 p:=aQ (by kernel_rfl) p
theorem oL (x i:V):aP prog 22 x i=sN 3 x i:=iG (by kernel_rfl) x i
theorem aUd (x i:V):aP prog 25 x i=sN 16 x i:=iG (by kernel_rfl) x i
theorem aLq (x i:V):aP prog 38 x i=sN 1 x i:=iG (by kernel_rfl) x i
theorem aZw (x i:V):aP prog 43 x i=sN 13 x i:=iG (by kernel_rfl) x i
theorem aUe (x i:V):aP prog 68 x i=sN 1 x i:=iG (by kernel_rfl) x i
theorem eC (p:V) (S:St):aB prog 22 p S=aR none p S:=fD (by kernel_rfl) p S
theorem mE (p:V) (S:St):aB prog 24 p S=aR (some 7) p S:=fD (by kernel_rfl) p S
theorem cR (p:V) (S:St):aB prog 3 p S=aR none p S:=fD (by kernel_rfl) p S
theorem uD (p:V) (S:St):aB prog 37 p S=aR (some 13) p S:=fD (by kernel_rfl) p S
theorem aPw (p:V) (S:St):aB prog 38 p S=aR none p S:=fD (by kernel_rfl) p S
theorem ld4 (p:V) (S:St):aB prog 4 p S=aR none p S:=fD (by kernel_rfl) p S
theorem aW4 (p:V) (S:St):aB prog 40 p S=aR (some 16) p S:=fD (by kernel_rfl) p S
theorem aPx (p:V) (S:St):aB prog 43 p S=aR none p S:=fD (by kernel_rfl) p S
theorem aZx (p:V) (S:St):aB prog 50 p S=aR (some 6) p S:=fD (by kernel_rfl) p S
theorem aBh (p:V) (S:St):aB prog 59 p S=aR (some 3) p S:=fD (by kernel_rfl) p S
theorem aW5 (p:V) (S:St):aB prog 74 p S=aR none p S:=fD (by kernel_rfl) p S
theorem aZy (p:V) (S:St):aB prog 84 p S=aR (some 3) p S:=fD (by kernel_rfl) p S
theorem aZz (p:V) (S:St):aB prog 85 p S=aR (some 21) p S:=fD (by kernel_rfl) p S
theorem aW6 (p:V) (S:St):aB prog 86 p S=aR none p S:=fD (by kernel_rfl) p S
theorem uE (p:V) (S:St):aB prog 9 p S=aR none p S:=fD (by kernel_rfl) p S
theorem eA (x:V) (S:St):bZ prog 22 x S=lenW x:=qR (by kernel_rfl) x S
theorem aGu (x:V) (S:St):bZ prog 25 x S=lenW x:=qR (by kernel_rfl) x S
theorem kS (x:V) (S:St):bZ prog 38 x S=lenW x:=qR (by kernel_rfl) x S
theorem aNr (x:V) (S:St):bZ prog 43 x S=lenW x:=qR (by kernel_rfl) x S
theorem aKb (x:V) (S:St):bZ prog 68 x S=lenW x:=qR (by kernel_rfl) x S
theorem aR9 (x:V) (S:St):bZ prog 74 x S=lenW x:=qR (by kernel_rfl) x S
theorem aW7 (s:List UInt8) (S:St):bZ prog 9 (.str s) S=.ok (.int .i64 s.length):=qS (by kernel_rfl) s S
theorem sV (p x:V) (S:St):aM prog 22 p x S=bV 1 p x S:=eZ (by kernel_rfl) p x S
theorem aLr (p x:V) (S:St):aM prog 24 p x S=bV 7 p x S:=eZ (by kernel_rfl) p x S
theorem mD (p x:V) (S:St):aM prog 3 p x S=bV 1 p x S:=eZ (by kernel_rfl) p x S
theorem aW8 (p x:V) (S:St):aM prog 37 p x S=bV 13 p x S:=eZ (by kernel_rfl) p x S
theorem st4 (p x:V) (S:St):aM prog 4 p x S=bV 1 p x S:=eZ (by kernel_rfl) p x S
theorem bA0 (p x:V) (S:St):aM prog 42 p x S=bV 7 p x S:=eZ (by kernel_rfl) p x S
theorem aPy (p x:V) (S:St):aM prog 43 p x S=bV 1 p x S:=eZ (by kernel_rfl) p x S
theorem bA1 (p x:V) (S:St):aM prog 50 p x S=bV 6 p x S:=eZ (by kernel_rfl) p x S
theorem aUf (p x:V) (S:St):aM prog 59 p x S=bV 3 p x S:=eZ (by kernel_rfl) p x S
theorem bA2 (p x:V) (S:St):aM prog 74 p x S=bV 1 p x S:=eZ (by kernel_rfl) p x S
theorem aLs (p x:V) (S:St):aM prog 84 p x S=bV 3 p x S:=eZ (by kernel_rfl) p x S
theorem aW9 (p x:V) (S:St):aM prog 86 p x S=bV 1 p x S:=eZ (by kernel_rfl) p x S
theorem st9 (p x:V) (S:St):aM prog 9 p x S=bV 1 p x S:=eZ (by kernel_rfl) p x S
theorem e3 {a0 a1 a2 a3:V} {S:St} {Q:V→St→Prop} (h:Ok (fun k K=>m3 (aE prog aW aX k) k a0 a1 a2 a3 S K) Q):Does prog aW aX 3 [a0,a1,a2,a3] S Q:=
 Does.enter (m:=fun C k K=>m3 C k a0 a1 a2 a3 S K) (fun k K=>congrFun (congrFun (congrFun (congrFun (congrFun (congrFun (congrFun aVu k) a0) a1) a2) a3) S) K) h
theorem e9 {a0:V} {S:St} {Q:V→St→Prop} (h:Ok (fun k K=>m9 (aE prog aW aX k) k a0 S K) Q):Does prog aW aX 9 [a0] S Q:=
 Does.enter (m:=fun C k K=>m9 C k a0 S K) (fun k K=>congrFun (congrFun (congrFun (congrFun aVv k) a0) S) K) h
theorem e11 {a0 a1 a2:V} {S:St} {Q:V→St→Prop} (h:Ok (fun k K=>m11 (aE prog aW aX k) k a0 a1 a2 S K) Q):Does prog aW aX 11 [a0,a1,a2] S Q:=
 Does.enter (m:=fun C k K=>m11 C k a0 a1 a2 S K) (fun k K=>congrFun (congrFun (congrFun (congrFun (congrFun (congrFun aS4 k) a0) a1) a2) S) K) h
theorem e12 {a0 a1 a2:V} {S:St} {Q:V→St→Prop} (h:Ok (fun k K=>m12 (aE prog aW aX k) k a0 a1 a2 S K) Q):Does prog aW aX 12 [a0,a1,a2] S Q:=
 Does.enter (m:=fun C k K=>m12 C k a0 a1 a2 S K) (fun k K=>congrFun (congrFun (congrFun (congrFun (congrFun (congrFun aS5 k) a0) a1) a2) S) K) h
theorem e13 {a0:V} {S:St} {Q:V→St→Prop} (h:Ok (fun k K=>m13 (aE prog aW aX k) k a0 S K) Q):Does prog aW aX 13 [a0] S Q:=
 Does.enter (m:=fun C k K=>m13 C k a0 S K) (fun k K=>congrFun (congrFun (congrFun (congrFun aS6 k) a0) S) K) h
theorem e14 {a0:V} {S:St} {Q:V→St→Prop} (h:Ok (fun k K=>m14 (aE prog aW aX k) k a0 S K) Q):Does prog aW aX 14 [a0] S Q:=
 Does.enter (m:=fun C k K=>m14 C k a0 S K) (fun k K=>congrFun (congrFun (congrFun (congrFun aS7 k) a0) S) K) h
theorem e15 {a0 a1 a2:V} {S:St} {Q:V→St→Prop} (h:Ok (fun k K=>m15 (aE prog aW aX k) k a0 a1 a2 S K) Q):Does prog aW aX 15 [a0,a1,a2] S Q:=
 Does.enter (m:=fun C k K=>m15 C k a0 a1 a2 S K) (fun k K=>congrFun (congrFun (congrFun (congrFun (congrFun (congrFun aS8 k) a0) a1) a2) S) K) h
theorem e16 {a0 a1:V} {S:St} {Q:V→St→Prop} (h:Ok (fun k K=>m16 (aE prog aW aX k) k a0 a1 S K) Q):Does prog aW aX 16 [a0,a1] S Q:=
 Does.enter (m:=fun C k K=>m16 C k a0 a1 S K) (fun k K=>congrFun (congrFun (congrFun (congrFun (congrFun aS9 k) a0) a1) S) K) h
theorem e17 {a0:V} {S:St} {Q:V→St→Prop} (h:Ok (fun k K=>m17 (aE prog aW aX k) k a0 S K) Q):Does prog aW aX 17 [a0] S Q:=
 Does.enter (m:=fun C k K=>m17 C k a0 S K) (fun k K=>congrFun (congrFun (congrFun (congrFun aSa k) a0) S) K) h
theorem e18 {a0 a1:V} {S:St} {Q:V→St→Prop} (h:Ok (fun k K=>m18 (aE prog aW aX k) k a0 a1 S K) Q):Does prog aW aX 18 [a0,a1] S Q:=
 Does.enter (m:=fun C k K=>m18 C k a0 a1 S K) (fun k K=>congrFun (congrFun (congrFun (congrFun (congrFun aSb k) a0) a1) S) K) h
theorem e19 {a0 a1:V} {S:St} {Q:V→St→Prop} (h:Ok (fun k K=>m19 (aE prog aW aX k) k a0 a1 S K) Q):Does prog aW aX 19 [a0,a1] S Q:=
 Does.enter (m:=fun C k K=>m19 C k a0 a1 S K) (fun k K=>congrFun (congrFun (congrFun (congrFun (congrFun aSc k) a0) a1) S) K) h
theorem e20 {a0 a1:V} {S:St} {Q:V→St→Prop} (h:Ok (fun k K=>m20 (aE prog aW aX k) k a0 a1 S K) Q):Does prog aW aX 20 [a0,a1] S Q:=
 Does.enter (m:=fun C k K=>m20 C k a0 a1 S K) (fun k K=>congrFun (congrFun (congrFun (congrFun (congrFun aSd k) a0) a1) S) K) h
theorem e21 {a0 a1:V} {S:St} {Q:V→St→Prop} (h:Ok (fun k K=>m21 (aE prog aW aX k) k a0 a1 S K) Q):Does prog aW aX 21 [a0,a1] S Q:=
 Does.enter (m:=fun C k K=>m21 C k a0 a1 S K) (fun k K=>congrFun (congrFun (congrFun (congrFun (congrFun aSe k) a0) a1) S) K) h
theorem e22 {a0 a1 a2:V} {S:St} {Q:V→St→Prop} (h:Ok (fun k K=>m22 (aE prog aW aX k) k a0 a1 a2 S K) Q):Does prog aW aX 22 [a0,a1,a2] S Q:=
 Does.enter (m:=fun C k K=>m22 C k a0 a1 a2 S K) (fun k K=>congrFun (congrFun (congrFun (congrFun (congrFun (congrFun aSf k) a0) a1) a2) S) K) h
theorem e23 {a0:V} {S:St} {Q:V→St→Prop} (h:Ok (fun k K=>m23 (aE prog aW aX k) k a0 S K) Q):Does prog aW aX 23 [a0] S Q:=
 Does.enter (m:=fun C k K=>m23 C k a0 S K) (fun k K=>congrFun (congrFun (congrFun (congrFun aSg k) a0) S) K) h
theorem e27 {a0:V} {S:St} {Q:V→St→Prop} (h:Ok (fun k K=>m27 (aE prog aW aX k) k a0 S K) Q):Does prog aW aX 27 [a0] S Q:=
 Does.enter (m:=fun C k K=>m27 C k a0 S K) (fun k K=>congrFun (congrFun (congrFun (congrFun aSh k) a0) S) K) h
theorem e30 {a0 a1:V} {S:St} {Q:V→St→Prop} (h:Ok (fun k K=>m30 (aE prog aW aX k) k a0 a1 S K) Q):Does prog aW aX 30 [a0,a1] S Q:=
 Does.enter (m:=fun C k K=>m30 C k a0 a1 S K) (fun k K=>congrFun (congrFun (congrFun (congrFun (congrFun aSi k) a0) a1) S) K) h
theorem e32 {a0 a1:V} {S:St} {Q:V→St→Prop} (h:Ok (fun k K=>m32 (aE prog aW aX k) k a0 a1 S K) Q):Does prog aW aX 32 [a0,a1] S Q:=
 Does.enter (m:=fun C k K=>m32 C k a0 a1 S K) (fun k K=>congrFun (congrFun (congrFun (congrFun (congrFun aSj k) a0) a1) S) K) h
theorem e33 {a0:V} {S:St} {Q:V→St→Prop} (h:Ok (fun k K=>m33 (aE prog aW aX k) k a0 S K) Q):Does prog aW aX 33 [a0] S Q:=
 Does.enter (m:=fun C k K=>m33 C k a0 S K) (fun k K=>congrFun (congrFun (congrFun (congrFun aSk k) a0) S) K) h
theorem e34 {a0:V} {S:St} {Q:V→St→Prop} (h:Ok (fun k K=>m34 (aE prog aW aX k) k a0 S K) Q):Does prog aW aX 34 [a0] S Q:=
 Does.enter (m:=fun C k K=>m34 C k a0 S K) (fun k K=>congrFun (congrFun (congrFun (congrFun aSl k) a0) S) K) h
theorem e35 {a0:V} {S:St} {Q:V→St→Prop} (h:Ok (fun k K=>m35 (aE prog aW aX k) k a0 S K) Q):Does prog aW aX 35 [a0] S Q:=
 Does.enter (m:=fun C k K=>m35 C k a0 S K) (fun k K=>congrFun (congrFun (congrFun (congrFun aSm k) a0) S) K) h
theorem e36 {a0:V} {S:St} {Q:V→St→Prop} (h:Ok (fun k K=>m36 (aE prog aW aX k) k a0 S K) Q):Does prog aW aX 36 [a0] S Q:=
 Does.enter (m:=fun C k K=>m36 C k a0 S K) (fun k K=>congrFun (congrFun (congrFun (congrFun aSn k) a0) S) K) h
theorem e37 {a0 a1:V} {S:St} {Q:V→St→Prop} (h:Ok (fun k K=>m37 (aE prog aW aX k) k a0 a1 S K) Q):Does prog aW aX 37 [a0,a1] S Q:=
 Does.enter (m:=fun C k K=>m37 C k a0 a1 S K) (fun k K=>congrFun (congrFun (congrFun (congrFun (congrFun aSo k) a0) a1) S) K) h
theorem e38 {a0 a1:V} {S:St} {Q:V→St→Prop} (h:Ok (fun k K=>m38 (aE prog aW aX k) k a0 a1 S K) Q):Does prog aW aX 38 [a0,a1] S Q:=
 Does.enter (m:=fun C k K=>m38 C k a0 a1 S K) (fun k K=>congrFun (congrFun (congrFun (congrFun (congrFun aSp k) a0) a1) S) K) h
theorem e39 {a0 a1:V} {S:St} {Q:V→St→Prop} (h:Ok (fun k K=>m39 (aE prog aW aX k) k a0 a1 S K) Q):Does prog aW aX 39 [a0,a1] S Q:=
 Does.enter (m:=fun C k K=>m39 C k a0 a1 S K) (fun k K=>congrFun (congrFun (congrFun (congrFun (congrFun aSq k) a0) a1) S) K) h
theorem e40 {a0 a1:V} {S:St} {Q:V→St→Prop} (h:Ok (fun k K=>m40 (aE prog aW aX k) k a0 a1 S K) Q):Does prog aW aX 40 [a0,a1] S Q:=
 Does.enter (m:=fun C k K=>m40 C k a0 a1 S K) (fun k K=>congrFun (congrFun (congrFun (congrFun (congrFun aSr k) a0) a1) S) K) h
theorem e41 {a0 a1 a2:V} {S:St} {Q:V→St→Prop} (h:Ok (fun k K=>m41 (aE prog aW aX k) k a0 a1 a2 S K) Q):Does prog aW aX 41 [a0,a1,a2] S Q:=
 Does.enter (m:=fun C k K=>m41 C k a0 a1 a2 S K) (fun k K=>congrFun (congrFun (congrFun (congrFun (congrFun (congrFun aSs k) a0) a1) a2) S) K) h
theorem e42 {a0:V} {S:St} {Q:V→St→Prop} (h:Ok (fun k K=>m42 (aE prog aW aX k) k a0 S K) Q):Does prog aW aX 42 [a0] S Q:=
 Does.enter (m:=fun C k K=>m42 C k a0 S K) (fun k K=>congrFun (congrFun (congrFun (congrFun aSt k) a0) S) K) h
theorem e43 {a0:V} {S:St} {Q:V→St→Prop} (h:Ok (fun k K=>m43 (aE prog aW aX k) k a0 S K) Q):Does prog aW aX 43 [a0] S Q:=
 Does.enter (m:=fun C k K=>m43 C k a0 S K) (fun k K=>congrFun (congrFun (congrFun (congrFun aSu k) a0) S) K) h
theorem e44 {a0 a1:V} {S:St} {Q:V→St→Prop} (h:Ok (fun k K=>m44 (aE prog aW aX k) k a0 a1 S K) Q):Does prog aW aX 44 [a0,a1] S Q:=
 Does.enter (m:=fun C k K=>m44 C k a0 a1 S K) (fun k K=>congrFun (congrFun (congrFun (congrFun (congrFun aSv k) a0) a1) S) K) h
theorem e45 {a0:V} {S:St} {Q:V→St→Prop} (h:Ok (fun k K=>m45 (aE prog aW aX k) k a0 S K) Q):Does prog aW aX 45 [a0] S Q:=
 Does.enter (m:=fun C k K=>m45 C k a0 S K) (fun k K=>congrFun (congrFun (congrFun (congrFun aSw k) a0) S) K) h
theorem e46 {a0:V} {S:St} {Q:V→St→Prop} (h:Ok (fun k K=>m46 (aE prog aW aX k) k a0 S K) Q):Does prog aW aX 46 [a0] S Q:=
 Does.enter (m:=fun C k K=>m46 C k a0 S K) (fun k K=>congrFun (congrFun (congrFun (congrFun aSx k) a0) S) K) h
theorem e47 {a0:V} {S:St} {Q:V→St→Prop} (h:Ok (fun k K=>m47 (aE prog aW aX k) k a0 S K) Q):Does prog aW aX 47 [a0] S Q:=
 Does.enter (m:=fun C k K=>m47 C k a0 S K) (fun k K=>congrFun (congrFun (congrFun (congrFun aSy k) a0) S) K) h
theorem e48 {a0:V} {S:St} {Q:V→St→Prop} (h:Ok (fun k K=>m48 (aE prog aW aX k) k a0 S K) Q):Does prog aW aX 48 [a0] S Q:=
 Does.enter (m:=fun C k K=>m48 C k a0 S K) (fun k K=>congrFun (congrFun (congrFun (congrFun aSz k) a0) S) K) h
theorem e49 {a0:V} {S:St} {Q:V→St→Prop} (h:Ok (fun k K=>m49 (aE prog aW aX k) k a0 S K) Q):Does prog aW aX 49 [a0] S Q:=
 Does.enter (m:=fun C k K=>m49 C k a0 S K) (fun k K=>congrFun (congrFun (congrFun (congrFun aT0 k) a0) S) K) h
theorem e50 {a0 a1:V} {S:St} {Q:V→St→Prop} (h:Ok (fun k K=>m50 (aE prog aW aX k) k a0 a1 S K) Q):Does prog aW aX 50 [a0,a1] S Q:=
 Does.enter (m:=fun C k K=>m50 C k a0 a1 S K) (fun k K=>congrFun (congrFun (congrFun (congrFun (congrFun aT1 k) a0) a1) S) K) h
theorem e51 {a0:V} {S:St} {Q:V→St→Prop} (h:Ok (fun k K=>m51 (aE prog aW aX k) k a0 S K) Q):Does prog aW aX 51 [a0] S Q:=
 Does.enter (m:=fun C k K=>m51 C k a0 S K) (fun k K=>congrFun (congrFun (congrFun (congrFun aT2 k) a0) S) K) h
theorem e52 {a0 a1:V} {S:St} {Q:V→St→Prop} (h:Ok (fun k K=>m52 (aE prog aW aX k) k a0 a1 S K) Q):Does prog aW aX 52 [a0,a1] S Q:=
 Does.enter (m:=fun C k K=>m52 C k a0 a1 S K) (fun k K=>congrFun (congrFun (congrFun (congrFun (congrFun aT3 k) a0) a1) S) K) h
theorem e53 {a0 a1:V} {S:St} {Q:V→St→Prop} (h:Ok (fun k K=>m53 (aE prog aW aX k) k a0 a1 S K) Q):Does prog aW aX 53 [a0,a1] S Q:=
 Does.enter (m:=fun C k K=>m53 C k a0 a1 S K) (fun k K=>congrFun (congrFun (congrFun (congrFun (congrFun aT4 k) a0) a1) S) K) h
theorem e54 {a0 a1:V} {S:St} {Q:V→St→Prop} (h:Ok (fun k K=>m54 (aE prog aW aX k) k a0 a1 S K) Q):Does prog aW aX 54 [a0,a1] S Q:=
 Does.enter (m:=fun C k K=>m54 C k a0 a1 S K) (fun k K=>congrFun (congrFun (congrFun (congrFun (congrFun aT5 k) a0) a1) S) K) h
theorem e55 {a0 a1:V} {S:St} {Q:V→St→Prop} (h:Ok (fun k K=>m55 (aE prog aW aX k) k a0 a1 S K) Q):Does prog aW aX 55 [a0,a1] S Q:=
 Does.enter (m:=fun C k K=>m55 C k a0 a1 S K) (fun k K=>congrFun (congrFun (congrFun (congrFun (congrFun aT6 k) a0) a1) S) K) h
theorem e56 {a0 a1:V} {S:St} {Q:V→St→Prop} (h:Ok (fun k K=>m56 (aE prog aW aX k) k a0 a1 S K) Q):Does prog aW aX 56 [a0,a1] S Q:=
 Does.enter (m:=fun C k K=>m56 C k a0 a1 S K) (fun k K=>congrFun (congrFun (congrFun (congrFun (congrFun aT7 k) a0) a1) S) K) h
theorem e57 {a0 a1:V} {S:St} {Q:V→St→Prop} (h:Ok (fun k K=>m57 (aE prog aW aX k) k a0 a1 S K) Q):Does prog aW aX 57 [a0,a1] S Q:=
 Does.enter (m:=fun C k K=>m57 C k a0 a1 S K) (fun k K=>congrFun (congrFun (congrFun (congrFun (congrFun aT8 k) a0) a1) S) K) h
theorem e58 {a0 a1:V} {S:St} {Q:V→St→Prop} (h:Ok (fun k K=>m58 (aE prog aW aX k) k a0 a1 S K) Q):Does prog aW aX 58 [a0,a1] S Q:=
 Does.enter (m:=fun C k K=>m58 C k a0 a1 S K) (fun k K=>congrFun (congrFun (congrFun (congrFun (congrFun aT9 k) a0) a1) S) K) h
theorem e59 {a0 a1:V} {S:St} {Q:V→St→Prop} (h:Ok (fun k K=>m59 (aE prog aW aX k) k a0 a1 S K) Q):Does prog aW aX 59 [a0,a1] S Q:=
 Does.enter (m:=fun C k K=>m59 C k a0 a1 S K) (fun k K=>congrFun (congrFun (congrFun (congrFun (congrFun aTa k) a0) a1) S) K) h
theorem e60 {a0:V} {S:St} {Q:V→St→Prop} (h:Ok (fun k K=>m60 (aE prog aW aX k) k a0 S K) Q):Does prog aW aX 60 [a0] S Q:=
 Does.enter (m:=fun C k K=>m60 C k a0 S K) (fun k K=>congrFun (congrFun (congrFun (congrFun aTb k) a0) S) K) h
theorem e61 {a0 a1:V} {S:St} {Q:V→St→Prop} (h:Ok (fun k K=>m61 (aE prog aW aX k) k a0 a1 S K) Q):Does prog aW aX 61 [a0,a1] S Q:=
 Does.enter (m:=fun C k K=>m61 C k a0 a1 S K) (fun k K=>congrFun (congrFun (congrFun (congrFun (congrFun aTc k) a0) a1) S) K) h
theorem e62 {a0 a1:V} {S:St} {Q:V→St→Prop} (h:Ok (fun k K=>m62 (aE prog aW aX k) k a0 a1 S K) Q):Does prog aW aX 62 [a0,a1] S Q:=
 Does.enter (m:=fun C k K=>m62 C k a0 a1 S K) (fun k K=>congrFun (congrFun (congrFun (congrFun (congrFun aTd k) a0) a1) S) K) h
theorem e63 {a0 a1 a2:V} {S:St} {Q:V→St→Prop} (h:Ok (fun k K=>m63 (aE prog aW aX k) k a0 a1 a2 S K) Q):Does prog aW aX 63 [a0,a1,a2] S Q:=
 Does.enter (m:=fun C k K=>m63 C k a0 a1 a2 S K) (fun k K=>congrFun (congrFun (congrFun (congrFun (congrFun (congrFun aTe k) a0) a1) a2) S) K) h
theorem e66 {a0 a1:V} {S:St} {Q:V→St→Prop} (h:Ok (fun k K=>m66 (aE prog aW aX k) k a0 a1 S K) Q):Does prog aW aX 66 [a0,a1] S Q:=
 Does.enter (m:=fun C k K=>m66 C k a0 a1 S K) (fun k K=>congrFun (congrFun (congrFun (congrFun (congrFun aTf k) a0) a1) S) K) h
theorem e67 {a0:V} {S:St} {Q:V→St→Prop} (h:Ok (fun k K=>m67 (aE prog aW aX k) k a0 S K) Q):Does prog aW aX 67 [a0] S Q:=
 Does.enter (m:=fun C k K=>m67 C k a0 S K) (fun k K=>congrFun (congrFun (congrFun (congrFun aTg k) a0) S) K) h
theorem e68 {a0:V} {S:St} {Q:V→St→Prop} (h:Ok (fun k K=>m68 (aE prog aW aX k) k a0 S K) Q):Does prog aW aX 68 [a0] S Q:=
 Does.enter (m:=fun C k K=>m68 C k a0 S K) (fun k K=>congrFun (congrFun (congrFun (congrFun aTh k) a0) S) K) h
theorem e69 {a0 a1:V} {S:St} {Q:V→St→Prop} (h:Ok (fun k K=>m69 (aE prog aW aX k) k a0 a1 S K) Q):Does prog aW aX 69 [a0,a1] S Q:=
 Does.enter (m:=fun C k K=>m69 C k a0 a1 S K) (fun k K=>congrFun (congrFun (congrFun (congrFun (congrFun aTi k) a0) a1) S) K) h
theorem e70 {a0:V} {S:St} {Q:V→St→Prop} (h:Ok (fun k K=>m70 (aE prog aW aX k) k a0 S K) Q):Does prog aW aX 70 [a0] S Q:=
 Does.enter (m:=fun C k K=>m70 C k a0 S K) (fun k K=>congrFun (congrFun (congrFun (congrFun aTj k) a0) S) K) h
theorem e71 {a0 a1:V} {S:St} {Q:V→St→Prop} (h:Ok (fun k K=>m71 (aE prog aW aX k) k a0 a1 S K) Q):Does prog aW aX 71 [a0,a1] S Q:=
 Does.enter (m:=fun C k K=>m71 C k a0 a1 S K) (fun k K=>congrFun (congrFun (congrFun (congrFun (congrFun aTk k) a0) a1) S) K) h
theorem e72 {a0 a1:V} {S:St} {Q:V→St→Prop} (h:Ok (fun k K=>m72 (aE prog aW aX k) k a0 a1 S K) Q):Does prog aW aX 72 [a0,a1] S Q:=
 Does.enter (m:=fun C k K=>m72 C k a0 a1 S K) (fun k K=>congrFun (congrFun (congrFun (congrFun (congrFun aTl k) a0) a1) S) K) h
theorem e73 {a0:V} {S:St} {Q:V→St→Prop} (h:Ok (fun k K=>m73 (aE prog aW aX k) k a0 S K) Q):Does prog aW aX 73 [a0] S Q:=
 Does.enter (m:=fun C k K=>m73 C k a0 S K) (fun k K=>congrFun (congrFun (congrFun (congrFun aTm k) a0) S) K) h
theorem e74 {a0 a1:V} {S:St} {Q:V→St→Prop} (h:Ok (fun k K=>m74 (aE prog aW aX k) k a0 a1 S K) Q):Does prog aW aX 74 [a0,a1] S Q:=
 Does.enter (m:=fun C k K=>m74 C k a0 a1 S K) (fun k K=>congrFun (congrFun (congrFun (congrFun (congrFun aTn k) a0) a1) S) K) h
theorem e75 {a0:V} {S:St} {Q:V→St→Prop} (h:Ok (fun k K=>m75 (aE prog aW aX k) k a0 S K) Q):Does prog aW aX 75 [a0] S Q:=
 Does.enter (m:=fun C k K=>m75 C k a0 S K) (fun k K=>congrFun (congrFun (congrFun (congrFun aTo k) a0) S) K) h
theorem e76 {a0 a1:V} {S:St} {Q:V→St→Prop} (h:Ok (fun k K=>m76 (aE prog aW aX k) k a0 a1 S K) Q):Does prog aW aX 76 [a0,a1] S Q:=
 Does.enter (m:=fun C k K=>m76 C k a0 a1 S K) (fun k K=>congrFun (congrFun (congrFun (congrFun (congrFun aTp k) a0) a1) S) K) h
theorem e77 {a0 a1:V} {S:St} {Q:V→St→Prop} (h:Ok (fun k K=>m77 (aE prog aW aX k) k a0 a1 S K) Q):Does prog aW aX 77 [a0,a1] S Q:=
 Does.enter (m:=fun C k K=>m77 C k a0 a1 S K) (fun k K=>congrFun (congrFun (congrFun (congrFun (congrFun aTq k) a0) a1) S) K) h
theorem e78 {a0 a1:V} {S:St} {Q:V→St→Prop} (h:Ok (fun k K=>m78 (aE prog aW aX k) k a0 a1 S K) Q):Does prog aW aX 78 [a0,a1] S Q:=
 Does.enter (m:=fun C k K=>m78 C k a0 a1 S K) (fun k K=>congrFun (congrFun (congrFun (congrFun (congrFun aTr k) a0) a1) S) K) h
theorem e79 {a0 a1:V} {S:St} {Q:V→St→Prop} (h:Ok (fun k K=>m79 (aE prog aW aX k) k a0 a1 S K) Q):Does prog aW aX 79 [a0,a1] S Q:=
 Does.enter (m:=fun C k K=>m79 C k a0 a1 S K) (fun k K=>congrFun (congrFun (congrFun (congrFun (congrFun aTs k) a0) a1) S) K) h
theorem e80 {a0:V} {S:St} {Q:V→St→Prop} (h:Ok (fun k K=>m80 (aE prog aW aX k) k a0 S K) Q):Does prog aW aX 80 [a0] S Q:=
 Does.enter (m:=fun C k K=>m80 C k a0 S K) (fun k K=>congrFun (congrFun (congrFun (congrFun aTt k) a0) S) K) h
theorem e81 {a0 a1:V} {S:St} {Q:V→St→Prop} (h:Ok (fun k K=>m81 (aE prog aW aX k) k a0 a1 S K) Q):Does prog aW aX 81 [a0,a1] S Q:=
 Does.enter (m:=fun C k K=>m81 C k a0 a1 S K) (fun k K=>congrFun (congrFun (congrFun (congrFun (congrFun aTu k) a0) a1) S) K) h
theorem e82 {a0:V} {S:St} {Q:V→St→Prop} (h:Ok (fun k K=>m82 (aE prog aW aX k) k a0 S K) Q):Does prog aW aX 82 [a0] S Q:=
 Does.enter (m:=fun C k K=>m82 C k a0 S K) (fun k K=>congrFun (congrFun (congrFun (congrFun aTv k) a0) S) K) h
theorem e83 {a0 a1:V} {S:St} {Q:V→St→Prop} (h:Ok (fun k K=>m83 (aE prog aW aX k) k a0 a1 S K) Q):Does prog aW aX 83 [a0,a1] S Q:=
 Does.enter (m:=fun C k K=>m83 C k a0 a1 S K) (fun k K=>congrFun (congrFun (congrFun (congrFun (congrFun aTw k) a0) a1) S) K) h
theorem e84 {a0 a1:V} {S:St} {Q:V→St→Prop} (h:Ok (fun k K=>m84 (aE prog aW aX k) k a0 a1 S K) Q):Does prog aW aX 84 [a0,a1] S Q:=
 Does.enter (m:=fun C k K=>m84 C k a0 a1 S K) (fun k K=>congrFun (congrFun (congrFun (congrFun (congrFun aTx k) a0) a1) S) K) h
theorem e85 {a0:V} {S:St} {Q:V→St→Prop} (h:Ok (fun k K=>m85 (aE prog aW aX k) k a0 S K) Q):Does prog aW aX 85 [a0] S Q:=
 Does.enter (m:=fun C k K=>m85 C k a0 S K) (fun k K=>congrFun (congrFun (congrFun (congrFun aTy k) a0) S) K) h
theorem e86 {a0 a1:V} {S:St} {Q:V→St→Prop} (h:Ok (fun k K=>m86 (aE prog aW aX k) k a0 a1 S K) Q):Does prog aW aX 86 [a0,a1] S Q:=
 Does.enter (m:=fun C k K=>m86 C k a0 a1 S K) (fun k K=>congrFun (congrFun (congrFun (congrFun (congrFun aTz k) a0) a1) S) K) h
theorem e87 {a0:V} {S:St} {Q:V→St→Prop} (h:Ok (fun k K=>m87 (aE prog aW aX k) k a0 S K) Q):Does prog aW aX 87 [a0] S Q:=
 Does.enter (m:=fun C k K=>m87 C k a0 S K) (fun k K=>congrFun (congrFun (congrFun (congrFun aU0 k) a0) S) K) h
theorem e88 {a0 a1:V} {S:St} {Q:V→St→Prop} (h:Ok (fun k K=>m88 (aE prog aW aX k) k a0 a1 S K) Q):Does prog aW aX 88 [a0,a1] S Q:=
 Does.enter (m:=fun C k K=>m88 C k a0 a1 S K) (fun k K=>congrFun (congrFun (congrFun (congrFun (congrFun aU1 k) a0) a1) S) K) h
theorem e89 {a0 a1:V} {S:St} {Q:V→St→Prop} (h:Ok (fun k K=>m89 (aE prog aW aX k) k a0 a1 S K) Q):Does prog aW aX 89 [a0,a1] S Q:=
 Does.enter (m:=fun C k K=>m89 C k a0 a1 S K) (fun k K=>congrFun (congrFun (congrFun (congrFun (congrFun aU2 k) a0) a1) S) K) h
theorem e90 {a0:V} {S:St} {Q:V→St→Prop} (h:Ok (fun k K=>m90 (aE prog aW aX k) k a0 S K) Q):Does prog aW aX 90 [a0] S Q:=
 Does.enter (m:=fun C k K=>m90 C k a0 S K) (fun k K=>congrFun (congrFun (congrFun (congrFun aU3 k) a0) S) K) h
theorem e91 {a0 a1 a2:V} {S:St} {Q:V→St→Prop} (h:Ok (fun k K=>m91 (aE prog aW aX k) k a0 a1 a2 S K) Q):Does prog aW aX 91 [a0,a1,a2] S Q:=
 Does.enter (m:=fun C k K=>m91 C k a0 a1 a2 S K) (fun k K=>congrFun (congrFun (congrFun (congrFun (congrFun (congrFun aU4 k) a0) a1) a2) S) K) h
theorem e92 {a0:V} {S:St} {Q:V→St→Prop} (h:Ok (fun k K=>m92 (aE prog aW aX k) k a0 S K) Q):Does prog aW aX 92 [a0] S Q:=
 Does.enter (m:=fun C k K=>m92 C k a0 S K) (fun k K=>congrFun (congrFun (congrFun (congrFun aU5 k) a0) S) K) h
theorem e93 {a0:V} {S:St} {Q:V→St→Prop} (h:Ok (fun k K=>m93 (aE prog aW aX k) k a0 S K) Q):Does prog aW aX 93 [a0] S Q:=
 Does.enter (m:=fun C k K=>m93 C k a0 S K) (fun k K=>congrFun (congrFun (congrFun (congrFun aU6 k) a0) S) K) h
theorem e95 {a0 a1 a2:V} {S:St} {Q:V→St→Prop} (h:Ok (fun k K=>m95 (aE prog aW aX k) k a0 a1 a2 S K) Q):Does prog aW aX 95 [a0,a1,a2] S Q:=
 Does.enter (m:=fun C k K=>m95 C k a0 a1 a2 S K) (fun k K=>congrFun (congrFun (congrFun (congrFun (congrFun (congrFun aU7 k) a0) a1) a2) S) K) h
theorem e96 {a0:V} {S:St} {Q:V→St→Prop} (h:Ok (fun k K=>m96 (aE prog aW aX k) k a0 S K) Q):Does prog aW aX 96 [a0] S Q:=
 Does.enter (m:=fun C k K=>m96 C k a0 S K) (fun k K=>congrFun (congrFun (congrFun (congrFun aU8 k) a0) S) K) h
theorem e97 {a0:V} {S:St} {Q:V→St→Prop} (h:Ok (fun k K=>m97 (aE prog aW aX k) k a0 S K) Q):Does prog aW aX 97 [a0] S Q:=
 Does.enter (m:=fun C k K=>m97 C k a0 S K) (fun k K=>congrFun (congrFun (congrFun (congrFun aU9 k) a0) S) K) h
theorem e98 {a0:V} {S:St} {Q:V→St→Prop} (h:Ok (fun k K=>m98 (aE prog aW aX k) k a0 S K) Q):Does prog aW aX 98 [a0] S Q:=
 Does.enter (m:=fun C k K=>m98 C k a0 S K) (fun k K=>congrFun (congrFun (congrFun (congrFun aUa k) a0) S) K) h
theorem e99 {a0 a1:V} {S:St} {Q:V→St→Prop} (h:Ok (fun k K=>m99 (aE prog aW aX k) k a0 a1 S K) Q):Does prog aW aX 99 [a0,a1] S Q:=
 Does.enter (m:=fun C k K=>m99 C k a0 a1 S K) (fun k K=>congrFun (congrFun (congrFun (congrFun (congrFun aUb k) a0) a1) S) K) h
theorem bA5 {a0 a1:V} {S:St} {Q:V→St→Prop} (h:Ok (fun k K=>aPe (aE prog aW aX k) k a0 a1 S K) Q):Does prog aW aX 100 [a0,a1] S Q:=
 Does.enter (m:=fun C k K=>aPe C k a0 a1 S K) (fun k K=>congrFun (congrFun (congrFun (congrFun (congrFun aPf k) a0) a1) S) K) h
theorem bA6 {a0:V} {S:St} {Q:V→St→Prop} (h:Ok (fun k K=>aPg (aE prog aW aX k) k a0 S K) Q):Does prog aW aX 101 [a0] S Q:=
 Does.enter (m:=fun C k K=>aPg C k a0 S K) (fun k K=>congrFun (congrFun (congrFun (congrFun aPh k) a0) S) K) h
theorem bA7 {a0:V} {S:St} {Q:V→St→Prop} (h:Ok (fun k K=>aPi (aE prog aW aX k) k a0 S K) Q):Does prog aW aX 102 [a0] S Q:=
 Does.enter (m:=fun C k K=>aPi C k a0 S K) (fun k K=>congrFun (congrFun (congrFun (congrFun aPj k) a0) S) K) h
theorem bA8 {a0 a1 a2:V} {S:St} {Q:V→St→Prop} (h:Ok (fun k K=>aPk (aE prog aW aX k) k a0 a1 a2 S K) Q):Does prog aW aX 103 [a0,a1,a2] S Q:=
 Does.enter (m:=fun C k K=>aPk C k a0 a1 a2 S K) (fun k K=>congrFun (congrFun (congrFun (congrFun (congrFun (congrFun aPl k) a0) a1) a2) S) K) h
theorem bA9 {a0:V} {S:St} {Q:V→St→Prop} (h:Ok (fun k K=>aPm (aE prog aW aX k) k a0 S K) Q):Does prog aW aX 104 [a0] S Q:=
 Does.enter (m:=fun C k K=>aPm C k a0 S K) (fun k K=>congrFun (congrFun (congrFun (congrFun aPn k) a0) S) K) h
theorem bAa {a0:V} {S:St} {Q:V→St→Prop} (h:Ok (fun k K=>aPo (aE prog aW aX k) k a0 S K) Q):Does prog aW aX 105 [a0] S Q:=
 Does.enter (m:=fun C k K=>aPo C k a0 S K) (fun k K=>congrFun (congrFun (congrFun (congrFun aPp k) a0) S) K) h
theorem bAb {a0:V} {S:St} {Q:V→St→Prop} (h:Ok (fun k K=>aPq (aE prog aW aX k) k a0 S K) Q):Does prog aW aX 106 [a0] S Q:=
 Does.enter (m:=fun C k K=>aPq C k a0 S K) (fun k K=>congrFun (congrFun (congrFun (congrFun aPr k) a0) S) K) h
theorem bAc {a0 a1:V} {S:St} {Q:V→St→Prop} (h:Ok (fun k K=>aPs (aE prog aW aX k) k a0 a1 S K) Q):Does prog aW aX 107 [a0,a1] S Q:=
 Does.enter (m:=fun C k K=>aPs C k a0 a1 S K) (fun k K=>congrFun (congrFun (congrFun (congrFun (congrFun aPt k) a0) a1) S) K) h
end Go.Proofs.Ytbiidlmhadihlaa
end
